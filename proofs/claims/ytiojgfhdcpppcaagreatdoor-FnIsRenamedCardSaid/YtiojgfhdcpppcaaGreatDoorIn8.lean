/-
  Contracts and lemmas that the card needs, part 8.
-/
import Derived.Test.YtiojgfhdcpppcaaGreatDoorIn7
namespace Go.Proofs.YtiojgfhdcpppcaaGreatDoor
open Go Go.Aw
set_option maxRecDepth 100000
set_option maxHeartbeats 4000000
variable (G:aG)
theorem Da{s:Bool}{b:List Int}{q:Nat}{T:List AO}{vs:List AV}{qs:List PV}{I:List Nat}(H:OwnL s (rdO b q::T) vs qs I)(hI:∀i∈I,1≤i)(o:AO):OwnL s (o::T) vs qs I:=
 H.frame fun i hi=>by
  have:=hI i hi
  obtain⟨k,rfl⟩:∃k,i=k+1:=⟨i-1,by omega⟩
  rfl
theorem Cb{b:List Int}{p q:Nat}{T:List AO}{v:AV}{l:List Fd}{I:List Nat}(H:OwnL true (rdO b q::T) [v] [fdL l] I)(hI:∀i∈I,1≤i)(hz:aQ l≤900000000)(h1:p≤q)(h2:q≤p+400500000):DP b (PgQ p 900000000 400500000) (.ret (.agg [v])) (rdO b q::T):=
 ⟨_,T,q,.agg [.p (fdL l)],rfl,rfl,.agg (.one ((Da H hI .dead).view 0 v _ rfl rfl) .nil) .nil,⟨l,rfl,hz⟩,h1,h2⟩
theorem Ed{l:List Sm}{k:Nat}{s0:Sm}(s:Sm)(h:l[k]?=some s0):ay (l.set k s)+s0.sz=ay l+s.sz:=by
 obtain⟨hk,h⟩:=List.getElem?_eq_some_iff.1 h
 subst h
 ·rw[fb s hk,bC]
  have e:l=l.take k++l.drop k:=(List.take_append_drop _ _).symm
  have h1:ay l=ay (l.take k)+ay (l.drop k):=by rw[←bC,←e]
  have h4:ay (l.drop k)=l[k].sz+ay (l.drop (k+1)):=by rw[List.drop_eq_getElem_cons hk];rfl
  simp only[ay]
  omega
theorem BY(l:List Ex)(k:Nat)(s:Ex):aX (l.set k s)≤aX l+s.sz:=by
 by_cases hk:k<l.length
 ·rw[fb s hk,ey]
  have e:l=l.take k++l.drop k:=(List.take_append_drop _ _).symm
  have h1:aX l=aX (l.take k)+aX (l.drop k):=by rw[←ey,←e]
  have h4:aX (l.drop k)=l[k].sz+aX (l.drop (k+1)):=by rw[List.drop_eq_getElem_cons hk];rfl
  simp only[aX]
  omega
 ·rw[List.set_eq_of_length_le (by omega)];omega
theorem wA{α:Type}{l:List α}{k:Nat}{x:α}(h:l[k]?=some x):l.set k x=l:=by
 apply List.ext_getElem?
 intro i
 by_cases hi:k=i
 ·subst hi;rw[List.getElem?_set_self (List.getElem?_eq_some_iff.1 h).1,h]
 ·rw[List.getElem?_set_ne hi]
theorem Ec{h:List AO}{id sz n m:Nat}{es:List (List PV)}(H:View h (.sl id sz 0 n) (.lst sz es))(hm:m≤es.length):View h (.sl id sz 0 m) (.lst sz (es.take m)):=by
 cases H with
 |sl _ _ _ rows _ e1 e2 e3 e4=>
  have hl:(es.take m).length=m:=by rw[List.length_take];omega
  have:=View.sl id sz 0 rows (es.take m) e1 (by omega) (fun e he=>e3 e (List.mem_of_mem_take he)) (fun i j e q e' a a1 a2 a3 a4=>by
   have hi:i<m:=by have:=(List.getElem?_eq_some_iff.1 a1).1;omega
   rw[List.getElem?_take_of_lt hi] at a1
   exact e4 i j e q e' a a1 a2 a3 a4)
  rwa[hl] at this
theorem Cj{b:List Int}(hb:Byt b)(hl:b.length≤2000){p:Nat}(hp:p≤5000000000):AC Tryz.prog G ky [.ptr 0 2 0 0] [rdO b p] fun x h=>∃v q,x= .ret v∧h=[rdO b q]∧PgQ p 900000000 400500000 v q:=by
 refine lH G (AC.go tY ?_)
 have hprog:AC Tryz.prog G dk [.ptr 0 2 0 0] [rdO b p] fun x h=>∃v q,x= .ret v∧h=[rdO b q]∧((∃l:List Fd,v= .agg [.p (fdL l)]∧bu l=true∧aQ l≤200000000)∧p≤q∧q≤p+200000000):=
  (Df G hb hl (by omega)).mono fun x h ⟨l,q,e1,e2,e3,e4,e5,e6⟩=>⟨_,q,e1,e2,⟨l,rfl,e3,e4⟩,e5,e6⟩
 simp-implicitDefEqProofs[oH]
 refine(iL G hprog _ (by simp[below])).mono ?_
 rintro r h ⟨v,q,rfl,rfl,⟨l,rfl,hok,hz⟩,h1,h2⟩
 have hlen:=((lA l).1 hok).1
 have hfd:=((lA l).1 hok).2.1
 simp-implicitDefEqProofs[aa]
 refine(be G b hb hl q (by omega) 5 _).mono ?_
 rintro r h ⟨k1,rfl,rfl,_⟩
 simp-implicitDefEqProofs[aa]
 refine bf (fun hc=>?_) (fun hc=>?_)
 ·simp-implicitDefEqProofs[]
  exact⟨_,_,q+1,.agg [.p (fdL l)],rfl,rfl,.keep (by simp) .nil,⟨l,rfl,by omega⟩,by omega,by omega⟩
 simp-implicitDefEqProofs[]
 refine(be G b hb hl (q+1) (by omega) 6 _).mono ?_
 rintro r h ⟨k2,rfl,rfl,_⟩
 simp-implicitDefEqProofs[aa]
 refine bf (fun hc2=>?_) (fun hc2=>?_)
 ·simp-implicitDefEqProofs[]
  refine(iL G (CB G hb hl (p:=q+1+1) (by omega)) _ (by simp[below])).mono ?_
  rintro r h ⟨v,q2,rfl,rfl,⟨l2,rfl,hz2⟩,h3,h4⟩
  simp-implicitDefEqProofs[aa]
  exact⟨_,_,q2,.agg [.p (fdL l2)],rfl,rfl,.keep (by simp) .nil,⟨l2,rfl,by omega⟩,by omega,by omega⟩
 simp-implicitDefEqProofs[]
 refine(AC.mkLift vI (DJ G l (by omega)) (by simp)).mono ?_
 rintro r h ⟨vs,I,os,rfl,rfl,ho,nd,hI⟩
 obtain⟨v,rfl⟩:=fJ ho
 have hne:l.map Fd.cs≠[]:=by intro h;rw[List.map_eq_nil_iff] at h;rw[h] at hlen;simp at hlen
 simp at hI
 rcases ho.inv nd with⟨h0,_⟩|⟨h0,_⟩|⟨id,rowsF,JF,rfl,rfl,hF⟩
 ·exact absurd h0 hne
 ·cases h0
 have hid3:3≤id:=hI id (by simp)
 obtain⟨fF,rfl⟩:∃fF,id=fF+1:=⟨id-1,by omega⟩
 rw[List.length_map]
 simp-implicitDefEqProofs[aa]
 have hF2:∀q',RowOwn true (rdO b q':: .row 1 [[.nils]]:: .row 1 [[.sl (fF+1) 3 0 l.length]]::os) (fF+1) 3 rowsF (l.map Fd.cs) JF:=fun q'=>hF.frame fun i hi=>by
  have:=hI i (by simpa using hi)
  obtain⟨k,rfl⟩:∃k,i=k+3:=⟨i-3,by omega⟩
  rfl
 have hI3:∀j∈JF,3≤j:=fun j hj=>hI j (by simp[hj])
 have hnF:=hF.nd
 clear hF ho
 obtain⟨T,hT⟩:∃T,T= .row 1 [[.nils]]:: .row 1 [[AV.sl (fF+1) 3 0 l.length]]::os:=⟨_,rfl⟩
 rw[←hT] at hF2⊢
 have t0:T[0]?=some (.row 1 [[.nils]]):=by rw[hT];rfl
 have t1:T[1]?=some (.row 1 [[.sl (fF+1) 3 0 l.length]]):=by rw[hT];rfl
 have tF:T[fF]?=some (.row 3 rowsF):=(hF2 0).here
 clear hT
 refine(be G b hb hl (q+1+1) (by omega) l.length _).mono ?_
 rintro r h ⟨k,rfl,rfl,hk⟩
 have hkl:k<l.length:=by omega
 have hgk:=List.getElem?_eq_getElem hkl
 have hfk:=hfd _ (List.getElem_mem hkl)
 have hzk:=cP (List.getElem_mem hkl)
 have hDk:(l.map Fd.cs)[k]?=some l[k].cs:=by rw[List.getElem?_map,hgk];rfl
 generalize l[k]=f at hgk hfk hzk hDk
 obtain⟨rF,J1,Jk,J2,r1,rfl,r2,r5⟩:=(hF2 (q+1+1+1)).own.put (hF2 0).len (hF2 0).rl (hF2 0).dl hDk
 obtain⟨A,B,IA,IB,rfl,rfl,oA,oB⟩:=Hr r2
 have hltJ:∀j∈J1++(IA++IB++J2),j<T.length+1:=fun j hj=>by have:=(hF2 0).own.lt hj;simpa using this
 have hnd:=hnF
 rw[List.nodup_cons] at hnd
 have hn1:fF+1∉J1++(IA++IB++J2):=hnd.1
 have hn2:=hnd.2
 have hIB:∀j∈IB,3≤j:=fun j hj=>hI3 j (by simp[hj])
 have nIB:IB.Nodup:=(List.nodup_append.1 (List.nodup_append.1 (List.nodup_append.1 hn2).2.1).1).2.1
 have hDl:(l.map Fd.cs).length=l.length:=by simp
 have finG:∀(U:List AO) (q':Nat) (B':AV) (I':List Nat) (sl':List Sm),(∀i,2≤i→i<T.length→i≠fF→i+1∉IB→U[i]?=T[i]?)→U[fF]?=some (.row 3 (rowsF.set k [.p (.str f.name),A,B']))→OwnL true (rdO b q'::U) [B'] [smL sl'] I'→(∀i∈I',1≤i)→
  ay sl'≤450000000→p≤q'→q'≤p+400500000→DP b (PgQ p 900000000 400500000) (.ret (.agg [.sl (fF+1) 3 0 l.length])) (rdO b q'::U):=by
  intro U q' B' I' sl' hU hUF oB' hI' hz' h3 h4
  have hfr:∀j∈J1++J2++IA,(rdO b q'::U)[j]?=(rdO b (q+1+1+1)::T)[j]?:=fun j hj=>by
   have hjm:j∈J1++(IA++IB++J2):=by simp only[List.mem_append] at hj⊢;rcases hj with(hj|hj)|hj<;>simp[hj]
   have hj3:=hI3 j hjm
   have hjl:=hltJ j hjm
   obtain⟨i,rfl⟩:∃i,j=i+1:=⟨j-1,by omega⟩
   rw[List.getElem?_cons_succ,List.getElem?_cons_succ]
   refine hU i (by omega) (by omega) (fun e=>hn1 (e▸hjm)) fun hm=>?_
   simp only[List.nodup_append,List.mem_append] at hn2
   obtain⟨n1,⟨⟨n2,n3,n4⟩,n5,n6⟩,n7⟩:=hn2
   simp only[List.mem_append] at hj
   rcases hj with(hj|hj)|hj
   ·exact n7 _ hj _ (.inl (.inr hm)) rfl
   ·exact n6 _ (.inr hm) _ hj rfl
   ·exact n4 _ hj _ hm rfl
  have oR:=ph (s:=true) (w:=f.name) (oA.frame fun i hi=>hfr i (by simp[hi])) oB'
  have oW:=r5 (rdO b q'::U) _ _ _ (fun j hj=>hfr j (by simp only[List.mem_append] at hj⊢;exact .inl hj)) oR
  have hD':(l.map Fd.cs).set k (Fd.mk f.name f.params sl').cs=(l.set k ⟨f.name,f.params,sl'⟩).map Fd.cs:=by rw[List.map_set]
  have tree:=OwnL.sl (s:=true) (h:=rdO b q'::U) (fF+1) 3 l.length (rowsF.set k [.p (.str f.name),A,B']) ((l.map Fd.cs).set k (Fd.mk f.name f.params sl').cs) hUF (by simp) (by have:=(hF2 0).len;simpa using this) (fun e he=>by
   rcases List.mem_or_eq_of_mem_set he with h|rfl
   ·exact(hF2 0).rl e h
   ·rfl) (fun e he=>by
   rcases List.mem_or_eq_of_mem_set he with h|rfl
   ·exact(hF2 0).dl e h
   ·rfl) oW .nil
  rw[hD'] at tree
  have hsz:=xS l k ⟨f.name,f.params,sl'⟩
  have hfz:f.sz=1+f.name.length+(f.params.length+(f.params.map List.length).sum)+ay f.body:=rfl
  have hfz':(Fd.mk f.name f.params sl').sz=1+f.name.length+(f.params.length+(f.params.map List.length).sum)+ay sl':=rfl
  refine Cb (l:=l.set k ⟨f.name,f.params,sl'⟩) tree (fun i hi=>?_) (by omega) h3 h4
  simp only[List.mem_cons,List.mem_append,List.not_mem_nil,or_false] at hi
  rcases hi with rfl|hi|(hi|hi)|hi
  ·omega
  ·have:=hI3 i (by simp[hi]);omega
  ·have:=hI3 i (by simp[hi]);omega
  ·exact hI' i hi
  ·have:=hI3 i (by simp[hi]);omega
 have hset:rowsF.set k [.p (.str f.name),A,B]=rowsF:=by
  apply List.ext_getElem?
  intro i
  by_cases hi:k=i
  ·subst hi;rw[List.getElem?_set_self (List.getElem?_eq_some_iff.1 r1).1,r1]
  ·rw[List.getElem?_set_ne hi]
 have hf2:2≤fF:=by omega
 have s0:∀x,(T.set 0 x)[0]?=some x:=fun x=>List.getElem?_set_self (by have:=(List.getElem?_eq_some_iff.1 t0).1;omega)
 have hbz:f.sz=1+f.name.length+(f.params.length+(f.params.map List.length).sum)+ay f.body:=rfl
 simp-implicitDefEqProofs[aa,t0,t1,tF,r1,hkl]
 have fin0:∀q' x,p≤q'→q'≤p+400500000→DP b (PgQ p 900000000 400500000) (.ret (.agg [.sl (fF+1) 3 0 l.length])) (rdO b q'::T.set 0 x):=fun q' x h3 h4=>
  finG (T.set 0 x) q' B IB f.body (fun i h1 _ _ _=>List.getElem?_set_ne (by omega)) (by rw[List.getElem?_set_ne (by omega),hset];exact tF) (oB.frame fun j hj=>by
   have:=hIB j hj
   obtain⟨i,rfl⟩:∃i,j=i+1:=⟨j-1,by omega⟩
   rw[List.getElem?_cons_succ,List.getElem?_cons_succ,List.getElem?_set_ne (by omega)]) (fun i hi=>by have:=hIB i hi;omega) (by omega) h3 h4
 rcases oB.inv nIB with⟨h0,_,rfl|rfl⟩|⟨h0,_⟩|⟨idB,rowsB,JB,rfl,rfl,hB⟩
 ·simp-implicitDefEqProofs[t0,t1,s0]
  exact fin0 _ _ (by omega) (by omega)
 ·simp-implicitDefEqProofs[t0,t1,s0]
  exact fin0 _ _ (by omega) (by omega)
 ·cases h0
 rw[List.length_map] at*
 by_cases hbe:f.body.length=0
 ·simp-implicitDefEqProofs[hbe,t0,t1,s0]
  have:=fin0 (q+1+1+1) (.row 1 [[.sl (fF+1) 3 0 l.length]]) (by omega) (by omega)
  exact this
 simp-implicitDefEqProofs[hbe,t0,t1,tF,r1]
 refine(be G b hb hl (q+1+1+1) (by omega) f.body.length _).mono ?_
 rintro r h ⟨j,rfl,rfl,hj⟩
 have hjl:j<f.body.length:=by omega
 obtain⟨fB,rfl⟩:∃fB,idB=fB+1:=⟨idB-1,by have:=hIB idB (by simp);omega⟩
 have hB3:=hIB (fB+1) (by simp)
 have tB:T[fB]?=some (.row 5 rowsB):=hB.here
 have hgj:=List.getElem?_eq_getElem hjl
 have hzj:=bT (List.getElem_mem hjl)
 have hok5:aL 4 f.body[j]=true:=by
  simp only[iF,Bool.and_eq_true] at hfk
  exact List.all_eq_true.1 hfk.2 _ (List.getElem_mem hjl)
 have hDj:(f.body.map Sm.cs)[j]?=some f.body[j].cs:=by rw[List.getElem?_map,hgj];rfl
 generalize f.body[j]=sm at hgj hzj hok5 hDj
 obtain⟨rB,K1,Kj,K2,u1,rfl,u2,u5⟩:=hB.own.put hB.len hB.rl hB.dl hDj
 obtain⟨A1,B1,E1,I1,I2,I3,rfl,rfl,oA1,oB1,oE1⟩:=GG u2
 simp-implicitDefEqProofs[aa,hjl,t0,t1,tF,r1,tB,u1]
 refine(wL G hb hl (p:=q+1+1+1+1) (by omega) [[122,122],[97],[98],[99],[100]] (k:=T.length+1) (by simp) (by simp) (by omega) rfl (by simp[fm])).mono ?_
 rintro r h ⟨s,hs,rfl,rfl⟩
 have hs8:s.length≤8:=by simp at hs;rcases hs with rfl|rfl|rfl|rfl|rfl<;>simp
 have nB:=nIB
 rw[List.nodup_cons] at nB
 have finS:∀(U:List AO) (q':Nat) (o':Int) (nm':List UInt8) (A':AV) (I':List Nat) (ar':List Ex),(∀i,2≤i→i<T.length→i≠fB→i+1∉I1→U[i]?=T[i]?)→U[fB]?=some (.row 5 (rowsB.set j [.p (.int .i64 o'),.p (.str nm'),A',B1,E1]))→OwnL true (rdO b q'::U) [A'] [exL ar'] I'→(∀i∈I',1≤i)→
  aX ar'+nm'.length≤aX sm.args+sm.name.length+1000→p≤q'→q'≤p+400500000→DP b (PgQ p 900000000 400500000) (.ret (.agg [.sl (fF+1) 3 0 l.length])) (rdO b q'::U):=by
  intro U q' o' nm' A' I' ar' hU hUB oA' hI' hz' h3 h4
  have hmem:∀x∈K1++K2++I2++I3,x∈K1++(I1++(I2++I3)++K2):=fun x hx=>by
   simp only[List.mem_append] at hx⊢
   rcases hx with((hx|hx)|hx)|hx<;>simp[hx]
  have hltB:∀x∈K1++(I1++(I2++I3)++K2),x<T.length+1:=fun x hx=>by have:=hB.own.lt hx;simpa using this
  have hfr:∀x∈K1++K2++I2++I3,(rdO b q'::U)[x]?=(rdO b (q+1+1+1)::T)[x]?:=fun x hx=>by
   have hm:=hmem x hx
   have hx3:=hIB x (List.mem_cons_of_mem _ hm)
   have hxl:=hltB x hm
   obtain⟨i,rfl⟩:∃i,x=i+1:=⟨x-1,by omega⟩
   rw[List.getElem?_cons_succ,List.getElem?_cons_succ]
   refine hU i (by omega) (by omega) (fun e=>nB.1 (e▸hm)) fun hm1=>?_
   have hn:=nB.2
   simp only[List.nodup_append,List.mem_append] at hn
   obtain⟨n1,⟨⟨n2,⟨n3,n3',n3''⟩,n4⟩,n5,n6⟩,n7⟩:=hn
   simp only[List.mem_append] at hx
   rcases hx with((hx|hx)|hx)|hx
   ·exact n7 _ hx _ (.inl (.inl hm1)) rfl
   ·exact n6 _ (.inl hm1) _ hx rfl
   ·exact n4 _ hm1 _ (.inl hx) rfl
   ·exact n4 _ hm1 _ (.inr hx) rfl
  have oS:=Hm (s:=true) (o:=o') (w:=nm') oA' (oB1.frame fun i hi=>hfr i (by simp[hi])) (oE1.frame fun i hi=>hfr i (by simp[hi]))
  have oW:=u5 (rdO b q'::U) _ _ _ (fun x hx=>hfr x (by simp only[List.mem_append] at hx⊢;exact .inl (.inl hx))) oS
  have hD':(f.body.map Sm.cs).set j (Sm.mk o' nm' ar' sm.body sm.els).cs=(f.body.set j ⟨o',nm',ar',sm.body,sm.els⟩).map Sm.cs:=by rw[List.map_set]
  have tree:=OwnL.sl (s:=true) (h:=rdO b q'::U) (fB+1) 5 f.body.length (rowsB.set j [.p (.int .i64 o'),.p (.str nm'),A',B1,E1]) ((f.body.map Sm.cs).set j (Sm.mk o' nm' ar' sm.body sm.els).cs) hUB (by simp) (by have:=hB.len;simpa using this) (fun e he=>by
   rcases List.mem_or_eq_of_mem_set he with h|rfl
   ·exact hB.rl e h
   ·rfl) (fun e he=>by
   rcases List.mem_or_eq_of_mem_set he with h|rfl
   ·exact hB.dl e h
   ·exact Sm.cs_len _) oW .nil
  rw[hD'] at tree
  have hsz:=Ed (s:=⟨o',nm',ar',sm.body,sm.els⟩) hgj
  have hsm:=sm.sz_eq
  have hsm':(Sm.mk o' nm' ar' sm.body sm.els).sz=1+nm'.length+aX ar'+ay sm.body+ay sm.els:=rfl
  have hFB:fF≠fB:=fun e=>hn1 (by rw[e];simp)
  have hFI:fF+1∉I1:=fun hm=>hn1 (by simp[hm])
  have hFT:fF<T.length:=(List.getElem?_eq_some_iff.1 tF).1
  refine finG U q' (.sl (fB+1) 5 0 f.body.length) _ (f.body.set j ⟨o',nm',ar',sm.body,sm.els⟩) (fun i g1 g2 g3 g4=>hU i g1 g2 (fun e=>g4 (by rw[e];simp)) fun hm=>g4 (by simp[hm])) (by rw[hU fF hf2 hFT hFB hFI,hset];exact tF) tree (fun i hi=>?_) (by omega) h3 h4
  simp only[List.mem_cons,List.mem_append,List.not_mem_nil,or_false] at hi
  rcases hi with rfl|hi|(hi|hi|hi)|hi
  ·omega
  ·have:=hIB i (by simp[hi]);omega
  ·exact hI' i hi
  ·have:=hIB i (by simp[hi]);omega
  ·have:=hIB i (by simp[hi]);omega
  ·have:=hIB i (by simp[hi]);omega
 have hTl:2≤T.length:=by have:=(List.getElem?_eq_some_iff.1 t1).1;omega
 have hBT:fB<T.length:=(List.getElem?_eq_some_iff.1 tB).1
 have hI1:∀i∈I1,3≤i∧i<T.length+1:=fun i hi=>⟨hIB i (by simp[hi]),by have:=oA1.lt hi;simpa using this⟩
 have oA1u:∀(U:List AO) (q':Nat),(∀i,2≤i→i<T.length→i+1∈I1→U[i]?=T[i]?)→OwnL true (rdO b q'::U) [A1] [exL sm.args] I1:=fun U q' hU=>oA1.frame fun x hx=>by
  obtain⟨h3,h4⟩:=hI1 x hx
  obtain⟨i,rfl⟩:∃i,x=i+1:=⟨x-1,by omega⟩
  rw[List.getElem?_cons_succ,List.getElem?_cons_succ]
  exact hU i (by omega) (by omega) hx
 have hsmz:=sm.sz_eq
 have finU:∀(U:List AO) (q':Nat),(∀i,2≤i→i<T.length→U[i]?=T[i]?)→p≤q'→q'≤p+400500000→DP b (PgQ p 900000000 400500000) (.ret (.agg [.sl (fF+1) 3 0 l.length])) (rdO b q'::U):=fun U q' hU h3 h4=>
  finS U q' sm.op sm.name A1 I1 sm.args (fun i a1 a2 _ _=>hU i a1 a2) (by rw[hU fB (by omega) hBT,wA u1];exact tB) (oA1u U q' fun i a1 a2 _=>hU i a1 a2) (fun i hi=>by have:=(hI1 i hi).1;omega) (by omega) h3 h4
 have a0:∀os,(T++os)[0]?=some (.row 1 [[.nils]]):=fun os=>by rw[List.getElem?_append_left (List.getElem?_eq_some_iff.1 t0).1];exact t0
 have a1:∀os,(T++os)[1]?=some (.row 1 [[.sl (fF+1) 3 0 l.length]]):=fun os=>by rw[List.getElem?_append_left (List.getElem?_eq_some_iff.1 t1).1];exact t1
 have aF:∀os,(T++os)[fF]?=some (.row 3 rowsF):=fun os=>by rw[List.getElem?_append_left (List.getElem?_eq_some_iff.1 tF).1];exact tF
 have aB:∀os,(T++os)[fB]?=some (.row 5 (rowsB)):=fun os=>by rw[List.getElem?_append_left (List.getElem?_eq_some_iff.1 tB).1];exact tB
 simp-implicitDefEqProofs[aa]
 refine(be G b hb hl (q+1+1+1+1+1) (by omega) 4 _).mono ?_
 rintro r h ⟨k3,rfl,rfl,_⟩
 have nI1:I1.Nodup:=(List.nodup_append.1 (List.nodup_append.1 (List.nodup_append.1 nB.2).2.1).1).1
 have hargs:0<sm.args.length:=by
  simp only[aL,gz,Bool.and_eq_true,decide_eq_true_eq] at hok5
  have:=hok5.1.1.1.1.1.1.1.1.2
  rw[this];unfold jJ;split<;>omega
 have hA0:sm.args.map Ex.cs≠[]:=by intro h;rw[List.map_eq_nil_iff] at h;rw[h] at hargs;simp at hargs
 obtain⟨idA,rowsA,JA,rfl,rfl,hA⟩:∃id rows J,A1= .sl id 4 0 sm.args.length∧I1=id::J∧RowOwn true (rdO b (q+1+1+1)::T) id 4 rows (sm.args.map Ex.cs) J:=by
  rcases oA1.inv nI1 with⟨h0,_⟩|⟨h0,_⟩|⟨id,rows,J,e1,e2,e3⟩
  ·exact absurd h0 hA0
  ·cases h0
  ·rw[List.length_map] at e1;exact⟨id,rows,J,e1,e2,e3⟩
 obtain⟨fA,rfl⟩:∃fA,idA=fA+1:=⟨idA-1,by have:=(hI1 idA (by simp)).1;omega⟩
 have hA3:=hI1 (fA+1) (by simp)
 have tA:T[fA]?=some (.row 4 rowsA):=hA.here
 have aA:∀os,(T++os)[fA]?=some (.row 4 rowsA):=fun os=>by rw[List.getElem?_append_left (by omega)];exact tA
 have hg0:=List.getElem?_eq_getElem hargs
 have hz0:=bm (List.getElem_mem hargs)
 have hD0:(sm.args.map Ex.cs)[0]?=some sm.args[0].cs:=by rw[List.getElem?_map,hg0];rfl
 generalize sm.args[0]=e0 at hg0 hz0 hD0
 obtain⟨r0,L1,L0,L2,g1,rfl,g3,g5⟩:=hA.own.put hA.len hA.rl hA.dl hD0
 obtain⟨K0,rfl,_⟩:=xY g3
 have nA:=nI1
 rw[List.nodup_cons] at nA
 have finA:∀(U:List AO) (q':Nat) (o n:Int) (w:List UInt8) (K:AV) (IK:List Nat) (ks:List Ex),(∀i,2≤i→i<T.length→i≠fA→U[i]?=T[i]?)→U[fA]?=some (.row 4 (rowsA.set 0 [.p (.int .i64 o),.p (.int .i64 n),.p (.str w),K]))→OwnL true (rdO b q'::U) [K] [exL ks] IK→(∀i∈IK,1≤i)→
  (Ex.mk o n w ks).sz≤500→p≤q'→q'≤p+400500000→DP b (PgQ p 900000000 400500000) (.ret (.agg [.sl (fF+1) 3 0 l.length])) (rdO b q'::U):=by
  intro U q' o n w K IK ks hU hUA oK hIK hz' h3 h4
  have hfr:∀x∈L1++L2,(rdO b q'::U)[x]?=(rdO b (q+1+1+1)::T)[x]?:=fun x hx=>by
   have hm:x∈L1++(L0++L2):=by
    simp only[List.mem_append] at hx⊢
    rcases hx with hx|hx
    ·exact .inl hx
    ·exact .inr (.inr hx)
   obtain⟨hx3,hx4⟩:=hI1 x (List.mem_cons_of_mem _ hm)
   obtain⟨i,rfl⟩:∃i,x=i+1:=⟨x-1,by omega⟩
   rw[List.getElem?_cons_succ,List.getElem?_cons_succ]
   exact hU i (by omega) (by omega) fun e=>nA.1 (e▸hm)
  have oW:=g5 (rdO b q'::U) _ _ _ hfr (Ck (o:=o) (n:=n) (w:=w) oK)
  have hD':(sm.args.map Ex.cs).set 0 (Ex.mk o n w ks).cs=(sm.args.set 0 ⟨o,n,w,ks⟩).map Ex.cs:=by rw[List.map_set]
  have tree:=OwnL.sl (s:=true) (h:=rdO b q'::U) (fA+1) 4 sm.args.length (rowsA.set 0 [.p (.int .i64 o),.p (.int .i64 n),.p (.str w),K]) ((sm.args.map Ex.cs).set 0 (Ex.mk o n w ks).cs) hUA (by simp) (by have:=hA.len;simpa using this) (fun e he=>by
   rcases List.mem_or_eq_of_mem_set he with h|rfl
   ·exact hA.rl e h
   ·rfl) (fun e he=>by
   rcases List.mem_or_eq_of_mem_set he with h|rfl
   ·exact hA.dl e h
   ·exact Ex.cs_len _) oW .nil
  rw[hD'] at tree
  have hsz:=BY sm.args 0 ⟨o,n,w,ks⟩
  have hBA:fB≠fA:=fun e=>nB.1 (by rw[e];simp)
  refine finS U q' sm.op sm.name (.sl (fA+1) 4 0 sm.args.length) _ (sm.args.set 0 ⟨o,n,w,ks⟩) (fun i g1 g2 _ g4=>hU i g1 g2 fun e=>g4 (by rw[e];simp)) (by rw[hU fB (by omega) hBT hBA,wA u1];exact tB) tree (fun i hi=>?_) (by omega) h3 h4
  simp only[List.mem_cons,List.mem_append,List.not_mem_nil,or_false] at hi
  rcases hi with rfl|hi|hi|hi
  ·omega
  ·have:=(hI1 i (by simp[hi])).1;omega
  ·exact hIK i hi
  ·have:=(hI1 i (by simp[hi])).1;omega
 have w0:∀os x,((T++os).set 0 x)[0]?=some x:=fun os x=>List.getElem?_set_self (by simp only[List.length_append];omega)
 have v0:∀os x,((T++os).set fA x)[0]?=some (.row 1 [[.nils]]):=fun os x=>by rw[List.getElem?_set_ne (by omega)];exact a0 os
 have v1:∀os x,((T++os).set fA x)[1]?=some (.row 1 [[.sl (fF+1) 3 0 l.length]]):=fun os x=>by rw[List.getElem?_set_ne (by omega)];exact a1 os
 have v2:∀os x y,(((T++os).set fA x).set 0 y)[0]?=some y:=fun os x y=>List.getElem?_set_self (by simp only[List.length_set,List.length_append];omega)
 have hv:∀os x y (i:Nat),2≤i→i<T.length→i≠fA→(((T++os).set fA x).set 0 y)[i]?=T[i]?:=fun os x y i h1 h2 h3=>by
  rw[List.getElem?_set_ne (by omega),List.getElem?_set_ne (by omega),List.getElem?_append_left h2]
 have aE:∀x y os,(T++x::y::os)[T.length+1]?=some y:=fun x y os=>by rw[List.getElem?_append_right (by omega),Nat.add_sub_cancel_left];rfl
 have aE2:∀x y z os,(T++x::y::os).set (T.length+1) z=T++x::z::os:=fun x y z os=>by rw[List.set_append_right _ _ (by omega),Nat.add_sub_cancel_left];rfl
 by_cases c1:k3=1
 ·subst c1
  simp-implicitDefEqProofs[aa, ↓a0, ↓a1, ↓aF, ↓aB,u1,hjl]
  refine bf (fun hn=>?_) (fun hn=>?_)
  ·simp-implicitDefEqProofs[]
   refine(wL G hb hl (p:=q+1+1+1+1+1+1) (by omega) [[97],[98],[122,122],[99],[100]] (k:=T.length+2+1) (by simp) (by simp) (by omega) rfl (by simp[fm])).mono ?_
   rintro r h ⟨s2,hs2,rfl,rfl⟩
   have hs28:s2.length≤8:=by simp at hs2;rcases hs2 with rfl|rfl|rfl|rfl|rfl<;>simp
   have v0:∀os x,((T++os).set fB x)[0]?=some (.row 1 [[.nils]]):=fun os x=>by rw[List.getElem?_set_ne (by omega)];exact a0 os
   have v1:∀os x,((T++os).set fB x)[1]?=some (.row 1 [[.sl (fF+1) 3 0 l.length]]):=fun os x=>by rw[List.getElem?_set_ne (by omega)];exact a1 os
   have v2:∀os x y,(((T++os).set fB x).set 0 y)[0]?=some y:=fun os x y=>List.getElem?_set_self (by simp only[List.length_set,List.length_append];omega)
   simp-implicitDefEqProofs[aa, ↓a0, ↓a1, ↓aF, ↓aB,u1,hjl, ↓v0, ↓v1, ↓v2,-getElem?_pos,List.getElem?_cons_zero,List.getElem?_cons_succ]
   have hv:∀os x y (i:Nat),2≤i→i<T.length→i≠fB→(((T++os).set fB x).set 0 y)[i]?=T[i]?:=fun os x y i h1 h2 h3=>by
    rw[List.getElem?_set_ne (by omega),List.getElem?_set_ne (by omega),List.getElem?_append_left h2]
   refine finS _ _ sm.op s2 (.sl (fA+1) 4 0 sm.args.length) _ sm.args ?_ ?_ (oA1u _ _ ?_) (fun i hi=>by have:=(hI1 i hi).1;omega) (by omega) (by omega) (by omega)
   ·intro i h1 h2 h3 _;exact hv _ _ _ i h1 h2 h3
   ·rw[List.getElem?_set_ne (by omega),List.getElem?_set_self (by simp only[List.length_append];omega)]
   ·intro i h1 h2 h3
    exact hv _ _ _ i h1 h2 (fun e=>nB.1 (by rw[←e];simp only[List.mem_append];exact .inr (.inl (.inl h3))))
  ·simp-implicitDefEqProofs[↓a0, ↓a1, ↓w0,-getElem?_pos,List.getElem?_cons_zero,List.getElem?_cons_succ]
   refine finU _ _ ?_ (by omega) (by omega)
   intro i h1 h2
   rw[List.getElem?_set_ne (by omega),List.getElem?_append_left h2]
 by_cases c2:k3=2
 ·subst c2
  have hw:∀(q':Nat) (os:List AO),OwnL true (rdO b q'::(T++os)) [.sl (fB+1) 5 0 f.body.length] [smL f.body] ((fB+1)::(K1++(((fA+1)::(L1++(L0++L2)))++(I2++I3)++K2))):=fun q' os=>oB.frame fun x hx=>by
   have h3:=hIB x hx
   have h4:x<T.length+1:=by have:=oB.lt hx;simpa using this
   obtain⟨i,rfl⟩:∃i,x=i+1:=⟨x-1,by omega⟩
   rw[List.getElem?_cons_succ,List.getElem?_cons_succ,List.getElem?_append_left (by omega)]
  have hv1:∀(q':Nat) (os:List AO),View (rdO b q'::(T++os)) (.sl (fB+1) 5 0 1) (smL (f.body.take 1)):=fun q' os=>by
   have:=Ec (m:=1) ((hw q' os).view 0 _ _ rfl rfl) (by simp;omega)
   rw[←List.map_take] at this
   exact this
  have hz1:ay (f.body.take 1)≤ay f.body:=by
   have e:f.body=f.body.take 1++f.body.drop 1:=(List.take_append_drop _ _).symm
   have:ay f.body=ay (f.body.take 1)+ay (f.body.drop 1):=by rw[←bC,←e]
   omega
  have hS:=vb G _ (f.body.take 1) (Nat.lt_succ_self _) (by omega)
  simp-implicitDefEqProofs[aa, ↓a0, ↓a1, ↓aF, ↓aB,r1,hkl]
  refine⟨by omega,?_⟩
  refine(AC.mkLend qt hS (.one (hv1 _ _) .nil)).mono ?_
  rintro r h ⟨vs,IN,os2,rfl,rfl,oN,nN,hN⟩
  obtain⟨vN,rfl⟩:=fJ oN
  have hl1:(f.body.take 1).length=1:=by rw[List.length_take];omega
  have hneN:(f.body.take 1).map Sm.cs≠[]:=by intro h;rw[List.map_eq_nil_iff] at h;rw[h] at hl1;simp at hl1
  obtain⟨idN,rowsN,JN,rfl,rfl,hRN⟩:∃id rows J,vN= .sl id 5 0 1∧IN=id::J∧RowOwn true _ id 5 rows ((f.body.take 1).map Sm.cs) J:=by
   rcases oN.inv nN with⟨h0,_⟩|⟨h0,_⟩|⟨id,rows,J,e1,e2,e3⟩
   ·exact absurd h0 hneN
   ·cases h0
   ·rw[List.length_map,hl1] at e1;exact⟨id,rows,J,e1,e2,e3⟩
  have hidN:=hN idN (by simp)
  simp at hidN
  obtain⟨fN,rfl⟩:∃fN,idN=fN+1:=⟨idN-1,by omega⟩
  have hFT:fF<T.length:=(List.getElem?_eq_some_iff.1 tF).1
  have tN:=hRN.here
  simp only[List.cons_append,List.append_assoc,List.getElem?_cons_succ,List.nil_append] at tN
  have hrN:rowsN.length=1:=by have:=hRN.len;rw[List.length_map,hl1] at this;exact this
  have hrB:rowsB.length=f.body.length:=by have:=hB.len;simpa using this
  have z1:∀os o y,((T++os).set fB o++y)[fF]?=some (.row 3 rowsF):=fun os o y=>by
   rw[List.getElem?_append_left (by simp only[List.length_set,List.length_append];omega),List.getElem?_set_ne (fun e=>hn1 (by rw[←e];simp))];exact aF os
  have z2:∀os o y x,(((T++os).set fB o++y).set fF x)[0]?=some (.row 1 [[.nils]]):=fun os o y x=>by
   rw[List.getElem?_set_ne (by omega),List.getElem?_append_left (by simp only[List.length_set,List.length_append];omega),List.getElem?_set_ne (by omega)];exact a0 os
  have z3:∀os o y x,(((T++os).set fB o++y).set fF x)[1]?=some (.row 1 [[.sl (fF+1) 3 0 l.length]]):=fun os o y x=>by
   rw[List.getElem?_set_ne (by omega),List.getElem?_append_left (by simp only[List.length_set,List.length_append];omega),List.getElem?_set_ne (by omega)];exact a1 os
  have z4:∀os o y x w,((((T++os).set fB o++y).set fF x).set 0 w)[0]?=some w:=fun os o y x w=>List.getElem?_set_self (by simp only[List.length_set,List.length_append];omega)
  simp-implicitDefEqProofs[aa,one, ↓a0, ↓a1, ↓aF, ↓aB, ↓tN, ↓z1, ↓z2, ↓z3, ↓z4,r1,hkl,hrN,hrB,-getElem?_pos,List.getElem?_cons_zero,List.getElem?_cons_succ]
  rw[List.take_of_length_le (l:=rowsB) (by omega),List.take_of_length_le (l:=rowsN) (by omega)]
  have hbl:=bA f.body
  refine⟨⟨by omega,by omega⟩,?_⟩
  have hJB:∀x∈K1++(((fA+1)::(L1++(L0++L2)))++(I2++I3)++K2),3≤x∧x<T.length+1∧x≠fF+1∧x≠fB+1:=fun x hx=>⟨hIB x (List.mem_cons_of_mem _ hx),by have:=hB.own.lt hx;simpa using this,fun e=>hn1 (by rw[←e];simp only[List.mem_append];exact .inr (.inl (.inr (List.mem_cons_of_mem _ hx)))),fun e=>nB.1 (e▸hx)⟩
  have hJN:∀x∈JN,T.length+3≤x∧x<T.length+3+os2.length:=fun x hx=>⟨by have:=hN x (by simp[hx]);simp at this;omega,by have:=hRN.own.lt hx;simp at this;omega⟩
  have nle:∀(W:List AO) (fo bo:AO) (x y:AO),∀i,2≤i→i<T.length→i≠fF→i≠fB→(((((T++W).set fB bo)++[y]).set fF fo).set 0 x)[i]?=T[i]?:=fun W fo bo x y i h1 h2 h3 h4=>by
   rw[List.getElem?_set_ne (by omega),List.getElem?_set_ne (by omega),List.getElem?_append_left (by simp only[List.length_set,List.length_append];omega),List.getElem?_set_ne (by omega),List.getElem?_append_left h2]
  have nri:∀(W:List AO) (fo bo:AO) (x y:AO),∀i,T.length≤i→i<(T++W).length→(((((T++W).set fB bo)++[y]).set fF fo).set 0 x)[i]?=(T++W)[i]?:=fun W fo bo x y i h1 h2=>by
   rw[List.getElem?_set_ne (by omega),List.getElem?_set_ne (by omega),List.getElem?_append_left (by simpa using h2),List.getElem?_set_ne (by omega)]
  have hbl2:=bA f.body
  have hzN:ay (f.body++f.body.take 1)≤400000000:=by rw[bC];omega
  refine finG _ _ (.sl (T.length+(os2.length+1+1)+1) 5 0 (f.body.length+1)) ((T.length+(os2.length+1+1)+1)::((K1++(((fA+1)::(L1++(L0++L2)))++(I2++I3)++K2))++JN++[])) (f.body++f.body.take 1) (fun i g1 g2 g3 g4=>nle _ _ _ _ _ i g1 g2 g3 (fun e=>g4 (by rw[e];simp))) ?_ ?_ ?_ (by omega) (by omega) (by omega)
  ·rw[List.getElem?_set_ne (by omega),List.getElem?_set_self (by simp only[List.length_set,List.length_append];omega)]
  ·refine OwnL.sl _ 5 (f.body.length+1) (rowsB++rowsN) ((f.body++f.body.take 1).map Sm.cs) ?_ (by rw[List.length_map,List.length_append,hl1]) (by rw[List.length_append,List.length_map,List.length_append,hl1,hrB,hrN]) (fun e he=>?_) (fun e he=>by obtain⟨x,_,rfl⟩:=List.mem_map.1 he;simp) ?_ .nil
   ·rw[List.getElem?_cons_succ,List.getElem?_set_ne (by omega),List.getElem?_set_ne (by omega),List.getElem?_append_right (by simp)]
    simp
   ·rcases List.mem_append.1 he with h|h
    ·exact hB.rl e h
    ·exact hRN.rl e h
   ·rw[List.map_append,List.flatten_append,List.flatten_append]
    refine(hB.own.frame fun x hx=>?_).app (hRN.own.frame fun x hx=>?_)
    ·obtain⟨x1,x2,x3,x4⟩:=hJB x hx
     obtain⟨i,rfl⟩:∃i,x=i+1:=⟨x-1,by omega⟩
     rw[List.getElem?_cons_succ,List.getElem?_cons_succ]
     exact nle _ _ _ _ _ i (by omega) (by omega) (by omega) (by omega)
    ·obtain⟨x1,x2⟩:=hJN x hx
     obtain⟨i,rfl⟩:∃i,x=i+1:=⟨x-1,by omega⟩
     simp only[List.cons_append,List.append_assoc,List.getElem?_cons_succ,List.nil_append]
     exact nri _ _ _ _ _ i (by omega) (by simp;omega)
  ·intro i hi
   simp only[List.mem_cons,List.mem_append,List.not_mem_nil,or_false] at hi
   rcases hi with rfl|hi|hi
   ·omega
   ·have:=(hJB i (by simp only[List.mem_cons,List.mem_append];exact hi)).1;omega
   ·have:=(hJN i hi).1;omega
 by_cases c0:k3=0
 ·subst c0
  simp-implicitDefEqProofs[aa]
  refine(wL G hb hl (p:=q+1+1+1+1+1+1) (by omega) [[102],[103],[109],[113]] (k:=T.length+2+1) (by simp) (by simp) (by omega) rfl (by simp[fm])).mono ?_
  rintro r h ⟨s2,hs2,rfl,rfl⟩
  have hs28:s2.length≤8:=by simp at hs2;rcases hs2 with rfl|rfl|rfl|rfl<;>simp
  simp-implicitDefEqProofs[aa, ↓a0, ↓a1, ↓aB,u1,hjl, ↓aE, ↓aE2,-getElem?_pos,List.getElem?_cons_zero,List.getElem?_cons_succ]
  refine bf (fun hn=>?_) (fun hn=>?_)
  ·simp-implicitDefEqProofs[↓a0, ↓a1, ↓aB, ↓aA,u1,hjl,g1,hargs, ↓v0, ↓v1, ↓v2, ↓aE,-getElem?_pos,List.getElem?_cons_zero,List.getElem?_cons_succ]
   refine finA _ _ 13 0 s2 (.sl (T.length+3+1) 4 0 1) [T.length+3+1] [⟨1,1,[],[]⟩] (fun i h1 h2 h3=>hv _ _ _ i h1 h2 h3) ?_ ?_ (by simp) (by simp[Ex.sz,aX];omega) (by omega) (by omega)
   ·rw[List.getElem?_set_ne (by omega),List.getElem?_set_self (by simp only[List.length_append];omega)]
   ·refine RowOwn.tree (rows:=[[.p (.int .i64 1),.p (.int .i64 1),.p (.str []),.nils]]) (J:=[]) ⟨?_,rfl,by simp,by simp,?_,by simp⟩ rfl
    ·rw[List.getElem?_cons_succ,List.getElem?_set_ne (by omega),List.getElem?_set_ne (by omega),List.getElem?_append_right (by omega),Nat.add_sub_cancel_left];rfl
    ·simpa using Ck (s:=true) (o:=1) (n:=1) (w:=[]) (k:=[]) (.nils 4 .nil)
  ·simp-implicitDefEqProofs[↓a0, ↓a1, ↓w0,-getElem?_pos,List.getElem?_cons_zero,List.getElem?_cons_succ]
   refine finU _ _ ?_ (by omega) (by omega)
   intro i h1 h2
   rw[List.getElem?_set_ne (by omega),List.getElem?_append_left h2]
 have d1:¬(k3:Int)=1:=by omega
 have d2:¬(k3:Int)=2:=by omega
 simp-implicitDefEqProofs[aa,c0,d1,d2, ↓a0, ↓a1, ↓aF, ↓aB,u1,hjl]
 refine bf (fun hn=>?_) (fun hn=>?_)
 ·simp-implicitDefEqProofs[↓a0, ↓a1, ↓aB, ↓aA,u1,hjl,g1,hargs, ↓v0, ↓v1, ↓v2, ↓aE,-getElem?_pos,List.getElem?_cons_zero,List.getElem?_cons_succ]
  refine finA _ _ 2 0 s .nils [] [] (fun i h1 h2 h3=>hv _ _ _ i h1 h2 h3) ?_ (.nils 4 .nil) (by simp) (by simp[Ex.sz,aX];omega) (by omega) (by omega)
  rw[List.getElem?_set_ne (by omega),List.getElem?_set_self (by simp only[List.length_append];omega)]
 ·simp-implicitDefEqProofs[↓a0, ↓a1, ↓w0,-getElem?_pos,List.getElem?_cons_zero,List.getElem?_cons_succ]
  refine finU _ _ ?_ (by omega) (by omega)
  intro i h1 h2
  rw[List.getElem?_set_ne (by omega),List.getElem?_append_left h2]
end Go.Proofs.YtiojgfhdcpppcaaGreatDoor
namespace Go.Proofs.YtiojgfhdcpppcaaGreatDoor
open Go Go.Aw
set_option maxRecDepth 100000
set_option maxHeartbeats 4000000
theorem nt{s:List UInt8}(h:aD s=true):s.length≤4:=by
 rw[aD] at h
 simp at h
 omega
theorem yt{e:Ex}(h:lJ e=true):e.name.length≤4:=by
 simp only[lJ,Bool.and_eq_true,Bool.or_eq_true,decide_eq_true_eq,beq_iff_eq] at h
 obtain⟨⟨⟨⟨_,h1⟩,h2⟩,_⟩,_⟩:=h
 rcases h2 with h2|h2
 ·exact nt (h1▸h2)
 ·rw[h2];simp
theorem Eh:∀(d:Nat) (e:Ex),eq d e=true→e.sz≤5*e.parts:=by
 intro d
 induction d with
 |zero=>intro e h;simp[eq] at h
 |succ d ih=>
  intro e h
  rw[eq,Bool.and_eq_true] at h
  have h1:=yt h.1
  have h2:∀l:List Ex,l.all (eq d)=true→aX l≤5*ff l:=by
   intro l
   induction l with
   |nil=>intro _;simp[aX,ff]
   |cons x r ihl=>
    intro hl
    rw[List.all_cons,Bool.and_eq_true] at hl
    have:=ih x hl.1
    have:=ihl hl.2
    rw[aX,ff];omega
  have h3:=h2 e.kids h.2
  rw[e.sz_eq,e.parts_eq];omega
theorem EG{e:Ex}(h:kn e=true):e.sz≤150:=by
 simp only[kn,Bool.and_eq_true,decide_eq_true_eq] at h
 have:=Eh 6 e h.1
 omega
theorem CC{s:Sm}(h:gz s=true):1+s.name.length+aX s.args≤305:=by
 simp only[gz,Bool.and_eq_true,Bool.or_eq_true,decide_eq_true_eq,beq_iff_eq] at h
 obtain⟨⟨⟨⟨⟨⟨⟨_,h0⟩,h1⟩,h2⟩,h3⟩,_⟩,_⟩,_⟩:=h
 have hn:s.name.length≤4:=by
  rcases h2 with h2|h2
  ·exact nt (h1▸h2)
  ·rw[h2];simp
 have ha:∀l:List Ex,l.all kn=true→aX l≤150*l.length:=by
  intro l
  induction l with
  |nil=>intro _;simp[aX]
  |cons x r ihl=>
   intro hl
   rw[List.all_cons,Bool.and_eq_true] at hl
   have:=EG hl.1
   have:=ihl hl.2
   rw[aX,List.length_cons];omega
 have h4:=ha s.args h3
 have h5:s.args.length≤2:=by rw[h0,jJ];split<;>omega
 omega
theorem CG:∀(d:Nat) (l:List Sm),l.all (aL d)=true→ay l≤305*dr l:=by
 intro d
 induction d with
 |zero=>
  intro l h
  cases l with
  |nil=>simp[ay]
  |cons s r=>simp[aL] at h
 |succ d ih=>
  intro l
  induction l with
  |nil=>intro _;simp[ay]
  |cons s r ihl=>
   intro h
   rw[List.all_cons,Bool.and_eq_true] at h
   have h2:=ihl h.2
   have h1:=h.1
   simp only[aL,Bool.and_eq_true] at h1
   obtain⟨⟨h3,h4⟩,h5⟩:=h1
   have:=CC h3
   have:=ih s.body h4
   have:=ih s.els h5
   rw[ay,dr,s.sz_eq,s.cnt_eq];omega
theorem Fu{f:Fd}(h:iF f=true):f.sz≤20+305*dr f.body:=by
 simp only[iF,Bool.and_eq_true,decide_eq_true_eq] at h
 obtain⟨⟨⟨h1,h2⟩,h3⟩,h4⟩:=h
 have:=nt h2
 have:=CG 4 f.body h4
 have hp:∀l:List (List UInt8),l.all aD=true→(l.map List.length).sum≤4*l.length:=by
  intro l
  induction l with
  |nil=>intro _;simp
  |cons x r ihl=>
   intro hl
   rw[List.all_cons,Bool.and_eq_true] at hl
   have:=nt hl.1
   have:=ihl hl.2
   rw[List.map_cons,List.sum_cons,List.length_cons];omega
 have:=hp f.params h1
 have e:f.sz=1+f.name.length+(f.params.length+(f.params.map List.length).sum)+ay f.body:=rfl
 omega
theorem Bp{l:List Fd}(h:bu l=true):aQ l≤12280:=by
 obtain⟨h1,h2,h3⟩:=(lA l).1 h
 have key:∀l:List Fd,(∀f∈l,iF f=true)→aQ l≤20*l.length+305*jc l:=by
  intro l
  induction l with
  |nil=>intro _;simp[aQ]
  |cons f r ih=>
   intro hl
   have a:=Fu (hl f (by simp))
   have b:=ih fun g hg=>hl g (by simp[hg])
   have e1:aQ (f::r)=f.sz+aQ r:=by simp[aQ]
   have e2:jc (f::r)=dr f.body+jc r:=by simp[jc]
   rw[e1,e2,List.length_cons];omega
 have:=key l h2
 omega
mutual
theorem GV(ch:List Scp):∀e:Ex,(irE ch e).sz≤3*e.sz
 | .mk o n s ks=>by
   have h:=vT ch ks
   have hn:(if o=2 then irN ch s else s).length≤2+s.length:=by
    split
    ·simp[irN,vnm]
    ·omega
   rw[irE,Ex.sz,Ex.sz];omega
theorem vT(ch:List Scp):∀l:List Ex,aX (kV ch l)≤3*aX l
 |[]=>by simp[kV,aX]
 |e::r=>by have h1:=GV ch e;have h2:=vT ch r;rw[kV,aX,aX];omega
end
theorem Hw:∀(N:Nat) (l:List Sm),ay l<N→∀m up n,ay (dF l m up n).1≤3*ay l:=by
 intro N
 induction N with
 |zero=>intro l h;omega
 |succ N ih=>
  intro l
  induction l with
  |nil=>intro _ m up n;simp[dF,ay]
  |cons s r ihl=>
   intro hl m up n
   obtain⟨o,nme,a,bd,el⟩:=s
   rw[ay,Sm.sz] at hl
   have h1:=vT (m::up) a
   have h2:=ih bd (by omega) [] (opS o nme m n::up) (if o=1 then n+1 else n)
   have h3:=ih el (by omega) [] (opS o nme m n::up) (dF bd [] (opS o nme m n::up) (if o=1 then n+1 else n)).2.2
   have h4:=ihl (by omega) (irS ⟨o,nme,a,bd,el⟩ m up n).2.1 up (irS ⟨o,nme,a,bd,el⟩ m up n).2.2
   have hn:(if o=1 then vnm n else if o=2 then irN (m::up) nme else nme).length≤2+nme.length:=by
    split
    ·simp[vnm]
    ·split
     ·simp[irN,vnm]
     ·omega
   rw[dF]
   simp only
   rw[ay,CA,Sm.sz,ay,Sm.sz]
   omega
theorem Ai:∀(ps:List (List UInt8)) (m:Scp) (n:Nat),(fk ps m n).1.length=ps.length∧((fk ps m n).1.map List.length).sum=2*ps.length
 |[],m,n=>by simp[fk]
 |s::r,m,n=>by
  obtain⟨h1,h2⟩:=Ai r (eK m s n) (n+1)
  rw[fk]
  simp only
  rw[List.length_cons,List.length_cons,h1,List.map_cons,List.sum_cons,h2]
  simp[vnm];omega
theorem Hs(f:Fd):(irF f).sz≤3*f.sz:=by
 obtain⟨h1,h2⟩:=Ai f.params [] 0
 have h3:=Hw (ay f.body+1) f.body (by omega) (fk f.params [] 0).2.1 [] (fk f.params [] 0).2.2
 have e:f.sz=1+f.name.length+(f.params.length+(f.params.map List.length).sum)+ay f.body:=rfl
 have e2:(irF f).sz=1+f.name.length+((fk f.params [] 0).1.length+((fk f.params [] 0).1.map List.length).sum)+ay (dF f.body (fk f.params [] 0).2.1 [] (fk f.params [] 0).2.2).1:=rfl
 omega
theorem zR(l:List Fd):aQ (ki l)≤36840:=by
 unfold ki
 split
 ·rename_i h
  have h0:dI l=0:=by simp[fT] at h;exact h.1
  have hz:=Bp ((Ah l).1 h0).1
  have key:∀l:List Fd,aQ (l.map irF)≤3*aQ l:=by
   intro l
   induction l with
   |nil=>simp[aQ]
   |cons f r ih=>
    have a:=Hs f
    have e1:aQ (f::r)=f.sz+aQ r:=by simp[aQ]
    have e2:aQ ((f::r).map irF)=(irF f).sz+aQ (r.map irF):=by simp[aQ]
    rw[e1,e2];omega
  have:=key l
  omega
 ·simp[aQ]
variable (G:aG) (hK:G gJ=some fY) (hS:G dN=some [.tbl opK opV])
include hK hS
end Go.Proofs.YtiojgfhdcpppcaaGreatDoor
namespace Go.Proofs.YtiojgfhdcpppcaaGreatDoor
open Go Go.Aw
set_option maxRecDepth 100000
set_option maxHeartbeats 4000000
variable (G:aG)
theorem CU{ρ:List Nat}:∀{args:List AV},ag 0 args→TW ρ args args
 |[],_=>trivial
 |v::r,h=>⟨.inr ⟨(aH (Nat.zero_le _) [v] ⟨h.1,trivial⟩).1,by have:=dA ρ [v] ⟨h.1,trivial⟩;simpa[bh] using this⟩,CU h.2⟩
theorem IU{f:FuncId}{args:List AV}{b:List Int}{p:Nat}{Q:AV→Nat→Prop}(H:AC Tryz.prog G f (.ptr 0 2 0 0::args) [rdO b p] fun x h=>∃v q,x= .ret v∧h=[rdO b q]∧Q v q)(hq:∀v q,Q v q→below 0 v){h:List AO}{k:Nat}(hk:h[k]?=some (rdO b p))(ha:ag 0 args):
 AC Tryz.prog G f (.ptr k 2 0 0::args) h fun x h'=>∃v q,x= .ret v∧h'=h.set k (rdO b q)∧Q v q:=by
 refine(H.frame (h:=h) (args:= .ptr k 2 0 0::args) [k] (by simp) ⟨.inr ⟨by simp[below],by simp[ren]⟩,CU ha⟩ (dc hk (bt _ _ _) cG)).mono ?_
 rintro x h' ⟨x0,h0,⟨v,q,rfl,rfl,r⟩,hl,rfl,rfl⟩
 refine⟨v,q,?_,?_,r⟩
 ·simp only[tD]
  have:=dA ([k]++List.range' h.length ([rdO b q].length-[rdO b p].length)) [v] ⟨hq v q r,trivial⟩
  simpa[bh] using this
 ·have hp2:∀σ,ef σ (rdO b q)=rdO b q:=fun σ=>by simp[rdO,ef,bh,ren]
  simp[mrg,hp2]
theorem EC{l:List Int}(h:Byt l)(n:Nat):Byt (l.take n):=fun x hx=>h x (List.mem_of_mem_take hx)
def DrP(n:Nat)(x:ARes):Prop:=∃l:List Fd,x= .ret (.agg [.p (fdL l)])∧aQ l≤n
theorem EB{f:FuncId}{args:List AV}{R:ARes→Prop}(H:AC Tryz.prog G f args [] fun x _=>R x)(hR:∀x,R x→∃v,x= .ret v∧below 0 v)(ha:ag 0 args)(h:List AO):AC Tryz.prog G f args h fun x h'=>R x∧h'=h:=by
 have H2:AC Tryz.prog G f args [] fun x h'=>R x∧h'=[]:=by
  refine H.wk (fun t v h' r=>by obtain⟨_,e,_⟩:=hR _ r;cases e) fun v h' r=>?_
  obtain⟨v',e,hv⟩:=hR _ r
  cases e
  exact⟨v,[],BZ rfl ⟨.inr ⟨hv,rfl⟩,trivial⟩,r,rfl⟩
 refine(H2.pre h ha (fun o ho=>by cases ho) (fun x h' r=>by rw[r.2])).mono ?_
 rintro x h' ⟨h1,⟨r,rfl⟩,rfl⟩
 exact⟨r,rfl⟩
theorem DH{n:Nat}:∀x,DrP n x→∃v,x= .ret v∧below 0 v:=fun x ⟨l,e,_⟩=>⟨_,e,by simp[below]⟩
variable (hK:G gJ=some fY) (hS:G dN=some [.tbl opK opV])
include hK hS
end Go.Proofs.YtiojgfhdcpppcaaGreatDoor
namespace Go.Proofs.YtiojgfhdcpppcaaGreatDoor
open Go Go.Aw
set_option maxRecDepth 100000
set_option maxHeartbeats 4000000
variable (G:aG)
theorem rD(code:List Int)(hb:Byt code):AC Tryz.prog G eA [.p (qU code)] [] fun x _=>DrP 900000000 x:=by
 refine AC.go mJ ?_
 simp-implicitDefEqProofs[iy]
 refine(AC.lift (GK G code) (by simp) rfl rfl).mono ?_
 rintro r h ⟨rfl,rfl⟩
 have hr:∀n,cW n (rdO (code.take 2000) 0)=rdO (code.take 2000) 0:=fun n=>by simp[rdO,cW,dD,co]
 have hbt:=EC hb 2000
 have hbl:(code.take 2000).length≤2000:=by rw[List.length_take];omega
 generalize code.take 2000=b at hr hbt hbl
 simp-implicitDefEqProofs[aa,co,hr]
 refine(IU G (Cj G hbt hbl (p:=0) (by omega)) (fun v q ⟨⟨l,e,_⟩,_⟩=>by rw[e];simp[below]) (h:=[.row 1 [[.nils]],rdO b 0]) (k:=1) rfl trivial).mono ?_
 rintro r h ⟨v,q,rfl,rfl,⟨l,rfl,hz⟩,hq1,hq2⟩
 simp-implicitDefEqProofs[aa]
 refine(lO G l (by omega)).use ?_
 have hrz:=zR l
 cases ho:fT l with
 |false=>
  simp-implicitDefEqProofs[]
  exact⟨l,rfl,hz⟩
 |true=>
  simp-implicitDefEqProofs[]
  refine(IU G (Q:=fun v q2=>∃k:Nat,v= .p (.int .i64 k)∧q2=q+1) ((DD G b hbt hbl q (by omega) 2).mono fun x h ⟨k,e1,e2,_⟩=>⟨_,_,e1,e2,k,rfl,rfl⟩) (fun v q ⟨k,e,_⟩=>by rw[e];simp[below]) (k:=1) rfl (by simp[below])).mono ?_
  rintro r h ⟨v,q2,rfl,rfl,k,rfl,rfl⟩
  simp-implicitDefEqProofs[aa]
  refine bf (fun hk=>?_) (fun hk=>?_)
  ·simp-implicitDefEqProofs[]
   exact⟨_,rfl,by omega⟩
  ·simp-implicitDefEqProofs[]
   exact⟨l,rfl,hz⟩
variable (hK:G gJ=some fY) (hS:G dN=some [.tbl opK opV])
include hK hS
theorem rL(code:List Int)(hb:Byt code)(hl:code.length≤9223372036854775807):VF Tryz.prog G ji [.p (qU code)] (.p (.bool true)):=by
 refine AC.go pp ?_
 have hbl:qU code= .lst 1 (code.map fun n=>[.int .u8 n]):=rfl
 simp-implicitDefEqProofs[jH,hbl]
 rw[←hbl]
 by_cases hc:(1048576:Int)<code.length
 ·simp-implicitDefEqProofs[hc]
 simp-implicitDefEqProofs[hc]
 refine(EB G (rD G code hb) DH (by simp) _).mono ?_
 rintro r h ⟨⟨l,rfl,hz⟩,rfl⟩
 have hrz:=zR l
 simp-implicitDefEqProofs[aa]
 refine(xR G hK hS l (by omega) (by omega)).use ?_
 simp-implicitDefEqProofs[]
 refine(lP G hK hS l (by omega)).use ?_
 simp-implicitDefEqProofs[]
 refine(xE G l (by omega) (by omega)).use ?_
 cases ho:fT l with
 |false=>simp-implicitDefEqProofs[]
 |true=>
  simp-implicitDefEqProofs[]
  refine(mO G (ki l) l (by omega) (by omega)).use ?_
  simp-implicitDefEqProofs[]
end Go.Proofs.YtiojgfhdcpppcaaGreatDoor
