/-
  Contracts and lemmas that the card needs, part 8.
-/
import Derived.Test.YtnjbhgpbgmpkcaaGreatDoorRm7
namespace Go.Proofs.YtnjbhgpbgmpkcaaGreatDoor
open Go Go.Aw
set_option maxRecDepth 100000
set_option maxHeartbeats 4000000
variable (G:aC)
theorem Fp{s:Bool}{b:List Int}{q:Nat}{T:List AO}{vs:List AV}{qs:List PV}{I:List Nat}(H:OwnL s (rdO b q::T) vs qs I)(hI:∀i∈I,1≤i)(o:AO):OwnL s (o::T) vs qs I:=
 H.frame fun i hi=>by
  have:=hI i hi
  obtain⟨k,rfl⟩:∃k,i=k+1:=⟨i-1,by omega⟩
  rfl
theorem FY{b:List Int}{p q:Nat}{T:List AO}{v:AV}{l:List Fd}{I:List Nat}(H:OwnL true (rdO b q::T) [v] [fdL l] I)(hI:∀i∈I,1≤i)(hz:aO l≤900000000)(h1:p≤q)(h2:q≤p+400500000):DP b (PgQ p 900000000 400500000) (.ret (.agg [v])) (rdO b q::T):=
 ⟨_,T,q,.agg [.p (fdL l)],rfl,rfl,.agg (.one ((Fp H hI .dead).view 0 v _ rfl rfl) .nil) .nil,⟨l,rfl,hz⟩,h1,h2⟩
theorem FF{l:List Sm}{k:Nat}{s0:Sm}(s:Sm)(h:l[k]?=some s0):am (l.set k s)+s0.sz=am l+s.sz:=by
 obtain⟨hk,h⟩:=List.getElem?_eq_some_iff.1 h
 subst h
 ·rw[fS s hk,bC]
  have e:l=l.take k++l.drop k:=(List.take_append_drop _ _).symm
  have h1:am l=am (l.take k)+am (l.drop k):=by rw[←bC,←e]
  have h4:am (l.drop k)=l[k].sz+am (l.drop (k+1)):=by rw[List.drop_eq_getElem_cons hk];rfl
  simp only[am]
  omega
theorem Ei(l:List Ex)(k:Nat)(s:Ex):aY (l.set k s)≤aY l+s.sz:=by
 by_cases hk:k<l.length
 ·rw[fS s hk,fe]
  have e:l=l.take k++l.drop k:=(List.take_append_drop _ _).symm
  have h1:aY l=aY (l.take k)+aY (l.drop k):=by rw[←fe,←e]
  have h4:aY (l.drop k)=l[k].sz+aY (l.drop (k+1)):=by rw[List.drop_eq_getElem_cons hk];rfl
  simp only[aY]
  omega
 ·rw[List.set_eq_of_length_le (by omega)];omega
theorem zt{α:Type}{l:List α}{k:Nat}{x:α}(h:l[k]?=some x):l.set k x=l:=by
 apply List.ext_getElem?
 intro i
 by_cases hi:k=i
 ·subst hi;rw[List.getElem?_set_self (List.getElem?_eq_some_iff.1 h).1,h]
 ·rw[List.getElem?_set_ne hi]
theorem Fc{h:List AO}{id sz n m:Nat}{es:List (List PV)}(H:View h (.sl id sz 0 n) (.lst sz es))(hm:m≤es.length):View h (.sl id sz 0 m) (.lst sz (es.take m)):=by
 cases H with
 |sl _ _ _ rows _ e1 e2 e3 e4=>
  have hl:(es.take m).length=m:=by rw[List.length_take];omega
  have:=View.sl id sz 0 rows (es.take m) e1 (by omega) (fun e he=>e3 e (List.mem_of_mem_take he)) (fun i j e q e' a a1 a2 a3 a4=>by
   have hi:i<m:=by have:=(List.getElem?_eq_some_iff.1 a1).1;omega
   rw[List.getElem?_take_of_lt hi] at a1
   exact e4 i j e q e' a a1 a2 a3 a4)
  rwa[hl] at this
theorem Fh{b:List Int}(hb:Byt b)(hl:b.length≤2000){p:Nat}(hp:p≤5000000000):AC Tryz.prog G kP [.ptr 0 2 0 0] [rdO b p] fun x h=>∃v q,x= .ret v∧h=[rdO b q]∧PgQ p 900000000 400500000 v q:=by
 refine lX G (AC.go vY ?_)
 have hprog:AC Tryz.prog G dC [.ptr 0 2 0 0] [rdO b p] fun x h=>∃v q,x= .ret v∧h=[rdO b q]∧((∃l:List Fd,v= .agg [.p (fdL l)]∧bu l=true∧aO l≤200000000)∧p≤q∧q≤p+200000000):=
  (EI G hb hl (by omega)).mono fun x h ⟨l,q,e1,e2,e3,e4,e5,e6⟩=>⟨_,q,e1,e2,⟨l,rfl,e3,e4⟩,e5,e6⟩
 simp-implicitDefEqProofs[pJ]
 refine(jj G hprog _ (by simp[below])).mono ?_
 rintro r h ⟨v,q,rfl,rfl,⟨l,rfl,hok,hz⟩,h1,h2⟩
 have hlen:=((iy l).1 hok).1
 have hfd:=((iy l).1 hok).2.1
 simp-implicitDefEqProofs[aa]
 refine(bl G b hb hl q (by omega) 5 _).mono ?_
 rintro r h ⟨k1,rfl,rfl,_⟩
 simp-implicitDefEqProofs[aa]
 refine bc (fun hc=>?_) (fun hc=>?_)
 ·simp-implicitDefEqProofs[]
  exact⟨_,_,q+1,.agg [.p (fdL l)],rfl,rfl,.keep (by simp) .nil,⟨l,rfl,by omega⟩,by omega,by omega⟩
 simp-implicitDefEqProofs[]
 refine(bl G b hb hl (q+1) (by omega) 6 _).mono ?_
 rintro r h ⟨k2,rfl,rfl,_⟩
 simp-implicitDefEqProofs[aa]
 refine bc (fun hc2=>?_) (fun hc2=>?_)
 ·simp-implicitDefEqProofs[]
  refine(jj G (Fx G hb hl (p:=q+1+1) (by omega)) _ (by simp[below])).mono ?_
  rintro r h ⟨v,q2,rfl,rfl,⟨l2,rfl,hz2⟩,h3,h4⟩
  simp-implicitDefEqProofs[aa]
  exact⟨_,_,q2,.agg [.p (fdL l2)],rfl,rfl,.keep (by simp) .nil,⟨l2,rfl,by omega⟩,by omega,by omega⟩
 simp-implicitDefEqProofs[]
 refine(AC.mkLift xh (Et G l (by omega)) (by simp)).mono ?_
 rintro r h ⟨vs,I,os,rfl,rfl,ho,nd,hI⟩
 obtain⟨v,rfl⟩:=eX ho
 have hne:l.map Fd.cs≠[]:=by intro h;rw[List.map_eq_nil_iff] at h;rw[h] at hlen;simp at hlen
 simp at hI
 rcases ho.inv nd with⟨h0,_⟩|⟨h0,_⟩|⟨id,rowsF,JF,rfl,rfl,hF⟩
 ·exact absurd h0 hne
 ·cases h0
 have hid3:3≤id:=hI id (by simp)
 obtain⟨fF,rfl⟩:∃fF,id=fF+1:=⟨id-1,by omega⟩
 rw[List.length_map]
 simp-implicitDefEqProofs[aa]
 have hF2:∀q',RowOwn true (rdO b q':: .row 1 [[.nils]]:: .row 1 [[.sl (fF+1) 3 0 l.length]]::os) (fF+1) 3 rowsF (l.map Fd.cs) JF:=fun q'=>hF.frame fun i hi=>by
  have:=hI i (by simpa using hi)
  obtain⟨k,rfl⟩:∃k,i=k+3:=⟨i-3,by omega⟩
  rfl
 have hI3:∀j∈JF,3≤j:=fun j hj=>hI j (by simp[hj])
 have hnF:=hF.nd
 clear hF ho
 obtain⟨T,hT⟩:∃T,T= .row 1 [[.nils]]:: .row 1 [[AV.sl (fF+1) 3 0 l.length]]::os:=⟨_,rfl⟩
 rw[←hT] at hF2⊢
 have t0:T[0]?=some (.row 1 [[.nils]]):=by rw[hT];rfl
 have t1:T[1]?=some (.row 1 [[.sl (fF+1) 3 0 l.length]]):=by rw[hT];rfl
 have tF:T[fF]?=some (.row 3 rowsF):=(hF2 0).here
 clear hT
 refine(bl G b hb hl (q+1+1) (by omega) l.length _).mono ?_
 rintro r h ⟨k,rfl,rfl,hk⟩
 have hkl:k<l.length:=by omega
 have hgk:=List.getElem?_eq_getElem hkl
 have hfk:=hfd _ (List.getElem_mem hkl)
 have hzk:=cg (List.getElem_mem hkl)
 have hDk:(l.map Fd.cs)[k]?=some l[k].cs:=by rw[List.getElem?_map,hgk];rfl
 generalize l[k]=f at hgk hfk hzk hDk
 obtain⟨rF,J1,Jk,J2,r1,rfl,r2,r5⟩:=(hF2 (q+1+1+1)).own.put (hF2 0).len (hF2 0).rl (hF2 0).dl hDk
 obtain⟨A,B,IA,IB,rfl,rfl,oA,oB⟩:=Jm r2
 have hltJ:∀j∈J1++(IA++IB++J2),j<T.length+1:=fun j hj=>by have:=(hF2 0).own.lt hj;simpa using this
 have hnd:=hnF
 rw[List.nodup_cons] at hnd
 have hn1:fF+1∉J1++(IA++IB++J2):=hnd.1
 have hn2:=hnd.2
 have hIB:∀j∈IB,3≤j:=fun j hj=>hI3 j (by simp[hj])
 have nIB:IB.Nodup:=(List.nodup_append.1 (List.nodup_append.1 (List.nodup_append.1 hn2).2.1).1).2.1
 have hDl:(l.map Fd.cs).length=l.length:=by simp
 have finG:∀(U:List AO) (q':Nat) (B':AV) (I':List Nat) (sl':List Sm),(∀i,2≤i→i<T.length→i≠fF→i+1∉IB→U[i]?=T[i]?)→U[fF]?=some (.row 3 (rowsF.set k [.p (.str f.name),A,B']))→OwnL true (rdO b q'::U) [B'] [smL sl'] I'→(∀i∈I',1≤i)→
  am sl'≤450000000→p≤q'→q'≤p+400500000→DP b (PgQ p 900000000 400500000) (.ret (.agg [.sl (fF+1) 3 0 l.length])) (rdO b q'::U):=by
  intro U q' B' I' sl' hU hUF oB' hI' hz' h3 h4
  have hfr:∀j∈J1++J2++IA,(rdO b q'::U)[j]?=(rdO b (q+1+1+1)::T)[j]?:=fun j hj=>by
   have hjm:j∈J1++(IA++IB++J2):=by simp only[List.mem_append] at hj⊢;rcases hj with(hj|hj)|hj<;>simp[hj]
   have hj3:=hI3 j hjm
   have hjl:=hltJ j hjm
   obtain⟨i,rfl⟩:∃i,j=i+1:=⟨j-1,by omega⟩
   rw[List.getElem?_cons_succ,List.getElem?_cons_succ]
   refine hU i (by omega) (by omega) (fun e=>hn1 (e▸hjm)) fun hm=>?_
   simp only[List.nodup_append,List.mem_append] at hn2
   obtain⟨n1,⟨⟨n2,n3,n4⟩,n5,n6⟩,n7⟩:=hn2
   simp only[List.mem_append] at hj
   rcases hj with(hj|hj)|hj
   ·exact n7 _ hj _ (.inl (.inr hm)) rfl
   ·exact n6 _ (.inr hm) _ hj rfl
   ·exact n4 _ hj _ hm rfl
  have oR:=qg (s:=true) (w:=f.name) (oA.frame fun i hi=>hfr i (by simp[hi])) oB'
  have oW:=r5 (rdO b q'::U) _ _ _ (fun j hj=>hfr j (by simp only[List.mem_append] at hj⊢;exact .inl hj)) oR
  have hD':(l.map Fd.cs).set k (Fd.mk f.name f.params sl').cs=(l.set k ⟨f.name,f.params,sl'⟩).map Fd.cs:=by rw[List.map_set]
  have tree:=OwnL.sl (s:=true) (h:=rdO b q'::U) (fF+1) 3 l.length (rowsF.set k [.p (.str f.name),A,B']) ((l.map Fd.cs).set k (Fd.mk f.name f.params sl').cs) hUF (by simp) (by have:=(hF2 0).len;simpa using this) (fun e he=>by
   rcases List.mem_or_eq_of_mem_set he with h|rfl
   ·exact(hF2 0).rl e h
   ·rfl) (fun e he=>by
   rcases List.mem_or_eq_of_mem_set he with h|rfl
   ·exact(hF2 0).dl e h
   ·rfl) oW .nil
  rw[hD'] at tree
  have hsz:=yv l k ⟨f.name,f.params,sl'⟩
  have hfz:f.sz=1+f.name.length+(f.params.length+(f.params.map List.length).sum)+am f.body:=rfl
  have hfz':(Fd.mk f.name f.params sl').sz=1+f.name.length+(f.params.length+(f.params.map List.length).sum)+am sl':=rfl
  refine FY (l:=l.set k ⟨f.name,f.params,sl'⟩) tree (fun i hi=>?_) (by omega) h3 h4
  simp only[List.mem_cons,List.mem_append,List.not_mem_nil,or_false] at hi
  rcases hi with rfl|hi|(hi|hi)|hi
  ·omega
  ·have:=hI3 i (by simp[hi]);omega
  ·have:=hI3 i (by simp[hi]);omega
  ·exact hI' i hi
  ·have:=hI3 i (by simp[hi]);omega
 have hset:rowsF.set k [.p (.str f.name),A,B]=rowsF:=by
  apply List.ext_getElem?
  intro i
  by_cases hi:k=i
  ·subst hi;rw[List.getElem?_set_self (List.getElem?_eq_some_iff.1 r1).1,r1]
  ·rw[List.getElem?_set_ne hi]
 have hf2:2≤fF:=by omega
 have s0:∀x,(T.set 0 x)[0]?=some x:=fun x=>List.getElem?_set_self (by have:=(List.getElem?_eq_some_iff.1 t0).1;omega)
 have hbz:f.sz=1+f.name.length+(f.params.length+(f.params.map List.length).sum)+am f.body:=rfl
 simp-implicitDefEqProofs[aa,t0,t1,tF,r1,hkl]
 have fin0:∀q' x,p≤q'→q'≤p+400500000→DP b (PgQ p 900000000 400500000) (.ret (.agg [.sl (fF+1) 3 0 l.length])) (rdO b q'::T.set 0 x):=fun q' x h3 h4=>
  finG (T.set 0 x) q' B IB f.body (fun i h1 _ _ _=>List.getElem?_set_ne (by omega)) (by rw[List.getElem?_set_ne (by omega),hset];exact tF) (oB.frame fun j hj=>by
   have:=hIB j hj
   obtain⟨i,rfl⟩:∃i,j=i+1:=⟨j-1,by omega⟩
   rw[List.getElem?_cons_succ,List.getElem?_cons_succ,List.getElem?_set_ne (by omega)]) (fun i hi=>by have:=hIB i hi;omega) (by omega) h3 h4
 rcases oB.inv nIB with⟨h0,_,rfl|rfl⟩|⟨h0,_⟩|⟨idB,rowsB,JB,rfl,rfl,hB⟩
 ·simp-implicitDefEqProofs[t0,t1,s0]
  exact fin0 _ _ (by omega) (by omega)
 ·simp-implicitDefEqProofs[t0,t1,s0]
  exact fin0 _ _ (by omega) (by omega)
 ·cases h0
 rw[List.length_map] at*
 by_cases hbe:f.body.length=0
 ·simp-implicitDefEqProofs[hbe,t0,t1,s0]
  have:=fin0 (q+1+1+1) (.row 1 [[.sl (fF+1) 3 0 l.length]]) (by omega) (by omega)
  exact this
 simp-implicitDefEqProofs[hbe,t0,t1,tF,r1]
 refine(bl G b hb hl (q+1+1+1) (by omega) f.body.length _).mono ?_
 rintro r h ⟨j,rfl,rfl,hj⟩
 have hjl:j<f.body.length:=by omega
 obtain⟨fB,rfl⟩:∃fB,idB=fB+1:=⟨idB-1,by have:=hIB idB (by simp);omega⟩
 have hB3:=hIB (fB+1) (by simp)
 have tB:T[fB]?=some (.row 5 rowsB):=hB.here
 have hgj:=List.getElem?_eq_getElem hjl
 have hzj:=bY (List.getElem_mem hjl)
 have hok5:aH 4 f.body[j]=true:=by
  simp only[ig,Bool.and_eq_true] at hfk
  exact List.all_eq_true.1 hfk.2 _ (List.getElem_mem hjl)
 have hDj:(f.body.map Sm.cs)[j]?=some f.body[j].cs:=by rw[List.getElem?_map,hgj];rfl
 generalize f.body[j]=sm at hgj hzj hok5 hDj
 obtain⟨rB,K1,Kj,K2,u1,rfl,u2,u5⟩:=hB.own.put hB.len hB.rl hB.dl hDj
 obtain⟨A1,B1,E1,I1,I2,I3,rfl,rfl,oA1,oB1,oE1⟩:=KB u2
 simp-implicitDefEqProofs[aa,hjl,t0,t1,tF,r1,tB,u1]
 refine(zi G hb hl (p:=q+1+1+1+1) (by omega) [[122,122],[97],[98],[99],[100]] (k:=T.length+1) (by simp) (by simp) (by omega) rfl (by simp[ga])).mono ?_
 rintro r h ⟨s,hs,rfl,rfl⟩
 have hs8:s.length≤8:=by simp at hs;rcases hs with rfl|rfl|rfl|rfl|rfl<;>simp
 have nB:=nIB
 rw[List.nodup_cons] at nB
 have finS:∀(U:List AO) (q':Nat) (o':Int) (nm':List UInt8) (A':AV) (I':List Nat) (ar':List Ex),(∀i,2≤i→i<T.length→i≠fB→i+1∉I1→U[i]?=T[i]?)→U[fB]?=some (.row 5 (rowsB.set j [.p (.int .i64 o'),.p (.str nm'),A',B1,E1]))→OwnL true (rdO b q'::U) [A'] [exL ar'] I'→(∀i∈I',1≤i)→
  aY ar'+nm'.length≤aY sm.args+sm.name.length+1000→p≤q'→q'≤p+400500000→DP b (PgQ p 900000000 400500000) (.ret (.agg [.sl (fF+1) 3 0 l.length])) (rdO b q'::U):=by
  intro U q' o' nm' A' I' ar' hU hUB oA' hI' hz' h3 h4
  have hmem:∀x∈K1++K2++I2++I3,x∈K1++(I1++(I2++I3)++K2):=fun x hx=>by
   simp only[List.mem_append] at hx⊢
   rcases hx with((hx|hx)|hx)|hx<;>simp[hx]
  have hltB:∀x∈K1++(I1++(I2++I3)++K2),x<T.length+1:=fun x hx=>by have:=hB.own.lt hx;simpa using this
  have hfr:∀x∈K1++K2++I2++I3,(rdO b q'::U)[x]?=(rdO b (q+1+1+1)::T)[x]?:=fun x hx=>by
   have hm:=hmem x hx
   have hx3:=hIB x (List.mem_cons_of_mem _ hm)
   have hxl:=hltB x hm
   obtain⟨i,rfl⟩:∃i,x=i+1:=⟨x-1,by omega⟩
   rw[List.getElem?_cons_succ,List.getElem?_cons_succ]
   refine hU i (by omega) (by omega) (fun e=>nB.1 (e▸hm)) fun hm1=>?_
   have hn:=nB.2
   simp only[List.nodup_append,List.mem_append] at hn
   obtain⟨n1,⟨⟨n2,⟨n3,n3',n3''⟩,n4⟩,n5,n6⟩,n7⟩:=hn
   simp only[List.mem_append] at hx
   rcases hx with((hx|hx)|hx)|hx
   ·exact n7 _ hx _ (.inl (.inl hm1)) rfl
   ·exact n6 _ (.inl hm1) _ hx rfl
   ·exact n4 _ hm1 _ (.inl hx) rfl
   ·exact n4 _ hm1 _ (.inr hx) rfl
  have oS:=Jq (s:=true) (o:=o') (w:=nm') oA' (oB1.frame fun i hi=>hfr i (by simp[hi])) (oE1.frame fun i hi=>hfr i (by simp[hi]))
  have oW:=u5 (rdO b q'::U) _ _ _ (fun x hx=>hfr x (by simp only[List.mem_append] at hx⊢;exact .inl (.inl hx))) oS
  have hD':(f.body.map Sm.cs).set j (Sm.mk o' nm' ar' sm.body sm.els).cs=(f.body.set j ⟨o',nm',ar',sm.body,sm.els⟩).map Sm.cs:=by rw[List.map_set]
  have tree:=OwnL.sl (s:=true) (h:=rdO b q'::U) (fB+1) 5 f.body.length (rowsB.set j [.p (.int .i64 o'),.p (.str nm'),A',B1,E1]) ((f.body.map Sm.cs).set j (Sm.mk o' nm' ar' sm.body sm.els).cs) hUB (by simp) (by have:=hB.len;simpa using this) (fun e he=>by
   rcases List.mem_or_eq_of_mem_set he with h|rfl
   ·exact hB.rl e h
   ·rfl) (fun e he=>by
   rcases List.mem_or_eq_of_mem_set he with h|rfl
   ·exact hB.dl e h
   ·exact Sm.cs_len _) oW .nil
  rw[hD'] at tree
  have hsz:=FF (s:=⟨o',nm',ar',sm.body,sm.els⟩) hgj
  have hsm:=sm.sz_eq
  have hsm':(Sm.mk o' nm' ar' sm.body sm.els).sz=1+nm'.length+aY ar'+am sm.body+am sm.els:=rfl
  have hFB:fF≠fB:=fun e=>hn1 (by rw[e];simp)
  have hFI:fF+1∉I1:=fun hm=>hn1 (by simp[hm])
  have hFT:fF<T.length:=(List.getElem?_eq_some_iff.1 tF).1
  refine finG U q' (.sl (fB+1) 5 0 f.body.length) _ (f.body.set j ⟨o',nm',ar',sm.body,sm.els⟩) (fun i g1 g2 g3 g4=>hU i g1 g2 (fun e=>g4 (by rw[e];simp)) fun hm=>g4 (by simp[hm])) (by rw[hU fF hf2 hFT hFB hFI,hset];exact tF) tree (fun i hi=>?_) (by omega) h3 h4
  simp only[List.mem_cons,List.mem_append,List.not_mem_nil,or_false] at hi
  rcases hi with rfl|hi|(hi|hi|hi)|hi
  ·omega
  ·have:=hIB i (by simp[hi]);omega
  ·exact hI' i hi
  ·have:=hIB i (by simp[hi]);omega
  ·have:=hIB i (by simp[hi]);omega
  ·have:=hIB i (by simp[hi]);omega
 have hTl:2≤T.length:=by have:=(List.getElem?_eq_some_iff.1 t1).1;omega
 have hBT:fB<T.length:=(List.getElem?_eq_some_iff.1 tB).1
 have hI1:∀i∈I1,3≤i∧i<T.length+1:=fun i hi=>⟨hIB i (by simp[hi]),by have:=oA1.lt hi;simpa using this⟩
 have oA1u:∀(U:List AO) (q':Nat),(∀i,2≤i→i<T.length→i+1∈I1→U[i]?=T[i]?)→OwnL true (rdO b q'::U) [A1] [exL sm.args] I1:=fun U q' hU=>oA1.frame fun x hx=>by
  obtain⟨h3,h4⟩:=hI1 x hx
  obtain⟨i,rfl⟩:∃i,x=i+1:=⟨x-1,by omega⟩
  rw[List.getElem?_cons_succ,List.getElem?_cons_succ]
  exact hU i (by omega) (by omega) hx
 have hsmz:=sm.sz_eq
 have finU:∀(U:List AO) (q':Nat),(∀i,2≤i→i<T.length→U[i]?=T[i]?)→p≤q'→q'≤p+400500000→DP b (PgQ p 900000000 400500000) (.ret (.agg [.sl (fF+1) 3 0 l.length])) (rdO b q'::U):=fun U q' hU h3 h4=>
  finS U q' sm.op sm.name A1 I1 sm.args (fun i a1 a2 _ _=>hU i a1 a2) (by rw[hU fB (by omega) hBT,zt u1];exact tB) (oA1u U q' fun i a1 a2 _=>hU i a1 a2) (fun i hi=>by have:=(hI1 i hi).1;omega) (by omega) h3 h4
 have a0:∀os,(T++os)[0]?=some (.row 1 [[.nils]]):=fun os=>by rw[List.getElem?_append_left (List.getElem?_eq_some_iff.1 t0).1];exact t0
 have a1:∀os,(T++os)[1]?=some (.row 1 [[.sl (fF+1) 3 0 l.length]]):=fun os=>by rw[List.getElem?_append_left (List.getElem?_eq_some_iff.1 t1).1];exact t1
 have aF:∀os,(T++os)[fF]?=some (.row 3 rowsF):=fun os=>by rw[List.getElem?_append_left (List.getElem?_eq_some_iff.1 tF).1];exact tF
 have aB:∀os,(T++os)[fB]?=some (.row 5 (rowsB)):=fun os=>by rw[List.getElem?_append_left (List.getElem?_eq_some_iff.1 tB).1];exact tB
 simp-implicitDefEqProofs[aa]
 refine(bl G b hb hl (q+1+1+1+1+1) (by omega) 4 _).mono ?_
 rintro r h ⟨k3,rfl,rfl,_⟩
 have nI1:I1.Nodup:=(List.nodup_append.1 (List.nodup_append.1 (List.nodup_append.1 nB.2).2.1).1).1
 have hargs:0<sm.args.length:=by
  simp only[aH,fY,Bool.and_eq_true,decide_eq_true_eq] at hok5
  have:=hok5.1.1.1.1.1.1.1.1.2
  rw[this];unfold jQ;split<;>omega
 have hA0:sm.args.map Ex.cs≠[]:=by intro h;rw[List.map_eq_nil_iff] at h;rw[h] at hargs;simp at hargs
 obtain⟨idA,rowsA,JA,rfl,rfl,hA⟩:∃id rows J,A1= .sl id 4 0 sm.args.length∧I1=id::J∧RowOwn true (rdO b (q+1+1+1)::T) id 4 rows (sm.args.map Ex.cs) J:=by
  rcases oA1.inv nI1 with⟨h0,_⟩|⟨h0,_⟩|⟨id,rows,J,e1,e2,e3⟩
  ·exact absurd h0 hA0
  ·cases h0
  ·rw[List.length_map] at e1;exact⟨id,rows,J,e1,e2,e3⟩
 obtain⟨fA,rfl⟩:∃fA,idA=fA+1:=⟨idA-1,by have:=(hI1 idA (by simp)).1;omega⟩
 have hA3:=hI1 (fA+1) (by simp)
 have tA:T[fA]?=some (.row 4 rowsA):=hA.here
 have aA:∀os,(T++os)[fA]?=some (.row 4 rowsA):=fun os=>by rw[List.getElem?_append_left (by omega)];exact tA
 have hg0:=List.getElem?_eq_getElem hargs
 have hz0:=bj (List.getElem_mem hargs)
 have hD0:(sm.args.map Ex.cs)[0]?=some sm.args[0].cs:=by rw[List.getElem?_map,hg0];rfl
 generalize sm.args[0]=e0 at hg0 hz0 hD0
 obtain⟨r0,L1,L0,L2,g1,rfl,g3,g5⟩:=hA.own.put hA.len hA.rl hA.dl hD0
 obtain⟨K0,rfl,_⟩:=AZ g3
 have nA:=nI1
 rw[List.nodup_cons] at nA
 have finA:∀(U:List AO) (q':Nat) (o n:Int) (w:List UInt8) (K:AV) (IK:List Nat) (ks:List Ex),(∀i,2≤i→i<T.length→i≠fA→U[i]?=T[i]?)→U[fA]?=some (.row 4 (rowsA.set 0 [.p (.int .i64 o),.p (.int .i64 n),.p (.str w),K]))→OwnL true (rdO b q'::U) [K] [exL ks] IK→(∀i∈IK,1≤i)→
  (Ex.mk o n w ks).sz≤500→p≤q'→q'≤p+400500000→DP b (PgQ p 900000000 400500000) (.ret (.agg [.sl (fF+1) 3 0 l.length])) (rdO b q'::U):=by
  intro U q' o n w K IK ks hU hUA oK hIK hz' h3 h4
  have hfr:∀x∈L1++L2,(rdO b q'::U)[x]?=(rdO b (q+1+1+1)::T)[x]?:=fun x hx=>by
   have hm:x∈L1++(L0++L2):=by
    simp only[List.mem_append] at hx⊢
    rcases hx with hx|hx
    ·exact .inl hx
    ·exact .inr (.inr hx)
   obtain⟨hx3,hx4⟩:=hI1 x (List.mem_cons_of_mem _ hm)
   obtain⟨i,rfl⟩:∃i,x=i+1:=⟨x-1,by omega⟩
   rw[List.getElem?_cons_succ,List.getElem?_cons_succ]
   exact hU i (by omega) (by omega) fun e=>nA.1 (e▸hm)
  have oW:=g5 (rdO b q'::U) _ _ _ hfr (Eb (o:=o) (n:=n) (w:=w) oK)
  have hD':(sm.args.map Ex.cs).set 0 (Ex.mk o n w ks).cs=(sm.args.set 0 ⟨o,n,w,ks⟩).map Ex.cs:=by rw[List.map_set]
  have tree:=OwnL.sl (s:=true) (h:=rdO b q'::U) (fA+1) 4 sm.args.length (rowsA.set 0 [.p (.int .i64 o),.p (.int .i64 n),.p (.str w),K]) ((sm.args.map Ex.cs).set 0 (Ex.mk o n w ks).cs) hUA (by simp) (by have:=hA.len;simpa using this) (fun e he=>by
   rcases List.mem_or_eq_of_mem_set he with h|rfl
   ·exact hA.rl e h
   ·rfl) (fun e he=>by
   rcases List.mem_or_eq_of_mem_set he with h|rfl
   ·exact hA.dl e h
   ·exact Ex.cs_len _) oW .nil
  rw[hD'] at tree
  have hsz:=Ei sm.args 0 ⟨o,n,w,ks⟩
  have hBA:fB≠fA:=fun e=>nB.1 (by rw[e];simp)
  refine finS U q' sm.op sm.name (.sl (fA+1) 4 0 sm.args.length) _ (sm.args.set 0 ⟨o,n,w,ks⟩) (fun i g1 g2 _ g4=>hU i g1 g2 fun e=>g4 (by rw[e];simp)) (by rw[hU fB (by omega) hBT hBA,zt u1];exact tB) tree (fun i hi=>?_) (by omega) h3 h4
  simp only[List.mem_cons,List.mem_append,List.not_mem_nil,or_false] at hi
  rcases hi with rfl|hi|hi|hi
  ·omega
  ·have:=(hI1 i (by simp[hi])).1;omega
  ·exact hIK i hi
  ·have:=(hI1 i (by simp[hi])).1;omega
 have w0:∀os x,((T++os).set 0 x)[0]?=some x:=fun os x=>List.getElem?_set_self (by simp only[List.length_append];omega)
 have v0:∀os x,((T++os).set fA x)[0]?=some (.row 1 [[.nils]]):=fun os x=>by rw[List.getElem?_set_ne (by omega)];exact a0 os
 have v1:∀os x,((T++os).set fA x)[1]?=some (.row 1 [[.sl (fF+1) 3 0 l.length]]):=fun os x=>by rw[List.getElem?_set_ne (by omega)];exact a1 os
 have v2:∀os x y,(((T++os).set fA x).set 0 y)[0]?=some y:=fun os x y=>List.getElem?_set_self (by simp only[List.length_set,List.length_append];omega)
 have hv:∀os x y (i:Nat),2≤i→i<T.length→i≠fA→(((T++os).set fA x).set 0 y)[i]?=T[i]?:=fun os x y i h1 h2 h3=>by
  rw[List.getElem?_set_ne (by omega),List.getElem?_set_ne (by omega),List.getElem?_append_left h2]
 have aE:∀x y os,(T++x::y::os)[T.length+1]?=some y:=fun x y os=>by rw[List.getElem?_append_right (by omega),Nat.add_sub_cancel_left];rfl
 have aE2:∀x y z os,(T++x::y::os).set (T.length+1) z=T++x::z::os:=fun x y z os=>by rw[List.set_append_right _ _ (by omega),Nat.add_sub_cancel_left];rfl
 by_cases c1:k3=1
 ·subst c1
  simp-implicitDefEqProofs[aa, ↓a0, ↓a1, ↓aF, ↓aB,u1,hjl]
  refine bc (fun hn=>?_) (fun hn=>?_)
  ·simp-implicitDefEqProofs[]
   refine(zi G hb hl (p:=q+1+1+1+1+1+1) (by omega) [[97],[98],[122,122],[99],[100]] (k:=T.length+2+1) (by simp) (by simp) (by omega) rfl (by simp[ga])).mono ?_
   rintro r h ⟨s2,hs2,rfl,rfl⟩
   have hs28:s2.length≤8:=by simp at hs2;rcases hs2 with rfl|rfl|rfl|rfl|rfl<;>simp
   have v0:∀os x,((T++os).set fB x)[0]?=some (.row 1 [[.nils]]):=fun os x=>by rw[List.getElem?_set_ne (by omega)];exact a0 os
   have v1:∀os x,((T++os).set fB x)[1]?=some (.row 1 [[.sl (fF+1) 3 0 l.length]]):=fun os x=>by rw[List.getElem?_set_ne (by omega)];exact a1 os
   have v2:∀os x y,(((T++os).set fB x).set 0 y)[0]?=some y:=fun os x y=>List.getElem?_set_self (by simp only[List.length_set,List.length_append];omega)
   simp-implicitDefEqProofs[aa, ↓a0, ↓a1, ↓aF, ↓aB,u1,hjl, ↓v0, ↓v1, ↓v2,-getElem?_pos,List.getElem?_cons_zero,List.getElem?_cons_succ]
   have hv:∀os x y (i:Nat),2≤i→i<T.length→i≠fB→(((T++os).set fB x).set 0 y)[i]?=T[i]?:=fun os x y i h1 h2 h3=>by
    rw[List.getElem?_set_ne (by omega),List.getElem?_set_ne (by omega),List.getElem?_append_left h2]
   refine finS _ _ sm.op s2 (.sl (fA+1) 4 0 sm.args.length) _ sm.args ?_ ?_ (oA1u _ _ ?_) (fun i hi=>by have:=(hI1 i hi).1;omega) (by omega) (by omega) (by omega)
   ·intro i h1 h2 h3 _;exact hv _ _ _ i h1 h2 h3
   ·rw[List.getElem?_set_ne (by omega),List.getElem?_set_self (by simp only[List.length_append];omega)]
   ·intro i h1 h2 h3
    exact hv _ _ _ i h1 h2 (fun e=>nB.1 (by rw[←e];simp only[List.mem_append];exact .inr (.inl (.inl h3))))
  ·simp-implicitDefEqProofs[↓a0, ↓a1, ↓w0,-getElem?_pos,List.getElem?_cons_zero,List.getElem?_cons_succ]
   refine finU _ _ ?_ (by omega) (by omega)
   intro i h1 h2
   rw[List.getElem?_set_ne (by omega),List.getElem?_append_left h2]
 by_cases c2:k3=2
 ·subst c2
  have hw:∀(q':Nat) (os:List AO),OwnL true (rdO b q'::(T++os)) [.sl (fB+1) 5 0 f.body.length] [smL f.body] ((fB+1)::(K1++(((fA+1)::(L1++(L0++L2)))++(I2++I3)++K2))):=fun q' os=>oB.frame fun x hx=>by
   have h3:=hIB x hx
   have h4:x<T.length+1:=by have:=oB.lt hx;simpa using this
   obtain⟨i,rfl⟩:∃i,x=i+1:=⟨x-1,by omega⟩
   rw[List.getElem?_cons_succ,List.getElem?_cons_succ,List.getElem?_append_left (by omega)]
  have hv1:∀(q':Nat) (os:List AO),View (rdO b q'::(T++os)) (.sl (fB+1) 5 0 1) (smL (f.body.take 1)):=fun q' os=>by
   have:=Fc (m:=1) ((hw q' os).view 0 _ _ rfl rfl) (by simp;omega)
   rw[←List.map_take] at this
   exact this
  have hz1:am (f.body.take 1)≤am f.body:=by
   have e:f.body=f.body.take 1++f.body.drop 1:=(List.take_append_drop _ _).symm
   have:am f.body=am (f.body.take 1)+am (f.body.drop 1):=by rw[←bC,←e]
   omega
  have hS:=wx G _ (f.body.take 1) (Nat.lt_succ_self _) (by omega)
  simp-implicitDefEqProofs[aa, ↓a0, ↓a1, ↓aF, ↓aB,r1,hkl]
  refine⟨by omega,?_⟩
  refine(AC.mkLend me hS (.one (hv1 _ _) .nil)).mono ?_
  rintro r h ⟨vs,IN,os2,rfl,rfl,oN,nN,hN⟩
  obtain⟨vN,rfl⟩:=eX oN
  have hl1:(f.body.take 1).length=1:=by rw[List.length_take];omega
  have hneN:(f.body.take 1).map Sm.cs≠[]:=by intro h;rw[List.map_eq_nil_iff] at h;rw[h] at hl1;simp at hl1
  obtain⟨idN,rowsN,JN,rfl,rfl,hRN⟩:∃id rows J,vN= .sl id 5 0 1∧IN=id::J∧RowOwn true _ id 5 rows ((f.body.take 1).map Sm.cs) J:=by
   rcases oN.inv nN with⟨h0,_⟩|⟨h0,_⟩|⟨id,rows,J,e1,e2,e3⟩
   ·exact absurd h0 hneN
   ·cases h0
   ·rw[List.length_map,hl1] at e1;exact⟨id,rows,J,e1,e2,e3⟩
  have hidN:=hN idN (by simp)
  simp at hidN
  obtain⟨fN,rfl⟩:∃fN,idN=fN+1:=⟨idN-1,by omega⟩
  have hFT:fF<T.length:=(List.getElem?_eq_some_iff.1 tF).1
  have tN:=hRN.here
  simp only[List.cons_append,List.append_assoc,List.getElem?_cons_succ,List.nil_append] at tN
  have hrN:rowsN.length=1:=by have:=hRN.len;rw[List.length_map,hl1] at this;exact this
  have hrB:rowsB.length=f.body.length:=by have:=hB.len;simpa using this
  have z1:∀os o y,((T++os).set fB o++y)[fF]?=some (.row 3 rowsF):=fun os o y=>by
   rw[List.getElem?_append_left (by simp only[List.length_set,List.length_append];omega),List.getElem?_set_ne (fun e=>hn1 (by rw[←e];simp))];exact aF os
  have z2:∀os o y x,(((T++os).set fB o++y).set fF x)[0]?=some (.row 1 [[.nils]]):=fun os o y x=>by
   rw[List.getElem?_set_ne (by omega),List.getElem?_append_left (by simp only[List.length_set,List.length_append];omega),List.getElem?_set_ne (by omega)];exact a0 os
  have z3:∀os o y x,(((T++os).set fB o++y).set fF x)[1]?=some (.row 1 [[.sl (fF+1) 3 0 l.length]]):=fun os o y x=>by
   rw[List.getElem?_set_ne (by omega),List.getElem?_append_left (by simp only[List.length_set,List.length_append];omega),List.getElem?_set_ne (by omega)];exact a1 os
  have z4:∀os o y x w,((((T++os).set fB o++y).set fF x).set 0 w)[0]?=some w:=fun os o y x w=>List.getElem?_set_self (by simp only[List.length_set,List.length_append];omega)
  simp-implicitDefEqProofs[aa,di, ↓a0, ↓a1, ↓aF, ↓aB, ↓tN, ↓z1, ↓z2, ↓z3, ↓z4,r1,hkl,hrN,hrB,-getElem?_pos,List.getElem?_cons_zero,List.getElem?_cons_succ]
  rw[List.take_of_length_le (l:=rowsB) (by omega),List.take_of_length_le (l:=rowsN) (by omega)]
  have hbl:=bA f.body
  refine⟨⟨by omega,by omega⟩,?_⟩
  have hJB:∀x∈K1++(((fA+1)::(L1++(L0++L2)))++(I2++I3)++K2),3≤x∧x<T.length+1∧x≠fF+1∧x≠fB+1:=fun x hx=>⟨hIB x (List.mem_cons_of_mem _ hx),by have:=hB.own.lt hx;simpa using this,fun e=>hn1 (by rw[←e];simp only[List.mem_append];exact .inr (.inl (.inr (List.mem_cons_of_mem _ hx)))),fun e=>nB.1 (e▸hx)⟩
  have hJN:∀x∈JN,T.length+3≤x∧x<T.length+3+os2.length:=fun x hx=>⟨by have:=hN x (by simp[hx]);simp at this;omega,by have:=hRN.own.lt hx;simp at this;omega⟩
  have nle:∀(W:List AO) (fo bo:AO) (x y:AO),∀i,2≤i→i<T.length→i≠fF→i≠fB→(((((T++W).set fB bo)++[y]).set fF fo).set 0 x)[i]?=T[i]?:=fun W fo bo x y i h1 h2 h3 h4=>by
   rw[List.getElem?_set_ne (by omega),List.getElem?_set_ne (by omega),List.getElem?_append_left (by simp only[List.length_set,List.length_append];omega),List.getElem?_set_ne (by omega),List.getElem?_append_left h2]
  have nri:∀(W:List AO) (fo bo:AO) (x y:AO),∀i,T.length≤i→i<(T++W).length→(((((T++W).set fB bo)++[y]).set fF fo).set 0 x)[i]?=(T++W)[i]?:=fun W fo bo x y i h1 h2=>by
   rw[List.getElem?_set_ne (by omega),List.getElem?_set_ne (by omega),List.getElem?_append_left (by simpa using h2),List.getElem?_set_ne (by omega)]
  have hbl2:=bA f.body
  have hzN:am (f.body++f.body.take 1)≤400000000:=by rw[bC];omega
  refine finG _ _ (.sl (T.length+(os2.length+1+1)+1) 5 0 (f.body.length+1)) ((T.length+(os2.length+1+1)+1)::((K1++(((fA+1)::(L1++(L0++L2)))++(I2++I3)++K2))++JN++[])) (f.body++f.body.take 1) (fun i g1 g2 g3 g4=>nle _ _ _ _ _ i g1 g2 g3 (fun e=>g4 (by rw[e];simp))) ?_ ?_ ?_ (by omega) (by omega) (by omega)
  ·rw[List.getElem?_set_ne (by omega),List.getElem?_set_self (by simp only[List.length_set,List.length_append];omega)]
  ·refine OwnL.sl _ 5 (f.body.length+1) (rowsB++rowsN) ((f.body++f.body.take 1).map Sm.cs) ?_ (by rw[List.length_map,List.length_append,hl1]) (by rw[List.length_append,List.length_map,List.length_append,hl1,hrB,hrN]) (fun e he=>?_) (fun e he=>by obtain⟨x,_,rfl⟩:=List.mem_map.1 he;simp) ?_ .nil
   ·rw[List.getElem?_cons_succ,List.getElem?_set_ne (by omega),List.getElem?_set_ne (by omega),List.getElem?_append_right (by simp)]
    simp
   ·rcases List.mem_append.1 he with h|h
    ·exact hB.rl e h
    ·exact hRN.rl e h
   ·rw[List.map_append,List.flatten_append,List.flatten_append]
    refine(hB.own.frame fun x hx=>?_).app (hRN.own.frame fun x hx=>?_)
    ·obtain⟨x1,x2,x3,x4⟩:=hJB x hx
     obtain⟨i,rfl⟩:∃i,x=i+1:=⟨x-1,by omega⟩
     rw[List.getElem?_cons_succ,List.getElem?_cons_succ]
     exact nle _ _ _ _ _ i (by omega) (by omega) (by omega) (by omega)
    ·obtain⟨x1,x2⟩:=hJN x hx
     obtain⟨i,rfl⟩:∃i,x=i+1:=⟨x-1,by omega⟩
     simp only[List.cons_append,List.append_assoc,List.getElem?_cons_succ,List.nil_append]
     exact nri _ _ _ _ _ i (by omega) (by simp;omega)
  ·intro i hi
   simp only[List.mem_cons,List.mem_append,List.not_mem_nil,or_false] at hi
   rcases hi with rfl|hi|hi
   ·omega
   ·have:=(hJB i (by simp only[List.mem_cons,List.mem_append];exact hi)).1;omega
   ·have:=(hJN i hi).1;omega
 by_cases c0:k3=0
 ·subst c0
  simp-implicitDefEqProofs[aa]
  refine(zi G hb hl (p:=q+1+1+1+1+1+1) (by omega) [[102],[103],[109],[113]] (k:=T.length+2+1) (by simp) (by simp) (by omega) rfl (by simp[ga])).mono ?_
  rintro r h ⟨s2,hs2,rfl,rfl⟩
  have hs28:s2.length≤8:=by simp at hs2;rcases hs2 with rfl|rfl|rfl|rfl<;>simp
  simp-implicitDefEqProofs[aa, ↓a0, ↓a1, ↓aB,u1,hjl, ↓aE, ↓aE2,-getElem?_pos,List.getElem?_cons_zero,List.getElem?_cons_succ]
  refine bc (fun hn=>?_) (fun hn=>?_)
  ·simp-implicitDefEqProofs[↓a0, ↓a1, ↓aB, ↓aA,u1,hjl,g1,hargs, ↓v0, ↓v1, ↓v2, ↓aE,-getElem?_pos,List.getElem?_cons_zero,List.getElem?_cons_succ]
   refine finA _ _ 13 0 s2 (.sl (T.length+3+1) 4 0 1) [T.length+3+1] [⟨1,1,[],[]⟩] (fun i h1 h2 h3=>hv _ _ _ i h1 h2 h3) ?_ ?_ (by simp) (by simp[Ex.sz,aY];omega) (by omega) (by omega)
   ·rw[List.getElem?_set_ne (by omega),List.getElem?_set_self (by simp only[List.length_append];omega)]
   ·refine RowOwn.tree (rows:=[[.p (.int .i64 1),.p (.int .i64 1),.p (.str []),.nils]]) (J:=[]) ⟨?_,rfl,by simp,by simp,?_,by simp⟩ rfl
    ·rw[List.getElem?_cons_succ,List.getElem?_set_ne (by omega),List.getElem?_set_ne (by omega),List.getElem?_append_right (by omega),Nat.add_sub_cancel_left];rfl
    ·simpa using Eb (s:=true) (o:=1) (n:=1) (w:=[]) (k:=[]) (.nils 4 .nil)
  ·simp-implicitDefEqProofs[↓a0, ↓a1, ↓w0,-getElem?_pos,List.getElem?_cons_zero,List.getElem?_cons_succ]
   refine finU _ _ ?_ (by omega) (by omega)
   intro i h1 h2
   rw[List.getElem?_set_ne (by omega),List.getElem?_append_left h2]
 have d1:¬(k3:Int)=1:=by omega
 have d2:¬(k3:Int)=2:=by omega
 simp-implicitDefEqProofs[aa,c0,d1,d2, ↓a0, ↓a1, ↓aF, ↓aB,u1,hjl]
 refine bc (fun hn=>?_) (fun hn=>?_)
 ·simp-implicitDefEqProofs[↓a0, ↓a1, ↓aB, ↓aA,u1,hjl,g1,hargs, ↓v0, ↓v1, ↓v2, ↓aE,-getElem?_pos,List.getElem?_cons_zero,List.getElem?_cons_succ]
  refine finA _ _ 2 0 s .nils [] [] (fun i h1 h2 h3=>hv _ _ _ i h1 h2 h3) ?_ (.nils 4 .nil) (by simp) (by simp[Ex.sz,aY];omega) (by omega) (by omega)
  rw[List.getElem?_set_ne (by omega),List.getElem?_set_self (by simp only[List.length_append];omega)]
 ·simp-implicitDefEqProofs[↓a0, ↓a1, ↓w0,-getElem?_pos,List.getElem?_cons_zero,List.getElem?_cons_succ]
  refine finU _ _ ?_ (by omega) (by omega)
  intro i h1 h2
  rw[List.getElem?_set_ne (by omega),List.getElem?_append_left h2]
end Go.Proofs.YtnjbhgpbgmpkcaaGreatDoor
namespace Go.Proofs.YtnjbhgpbgmpkcaaGreatDoor
open Go Go.Aw
set_option maxRecDepth 100000
set_option maxHeartbeats 4000000
variable (G:aC)
theorem Ew{ρ:List Nat}:∀{args:List AV},ag 0 args→TW ρ args args
 |[],_=>trivial
 |v::r,h=>⟨.inr ⟨(az (Nat.zero_le _) [v] ⟨h.1,trivial⟩).1,by have:=dT ρ [v] ⟨h.1,trivial⟩;simpa[bp] using this⟩,Ew h.2⟩
theorem NQ{f:FuncId}{args:List AV}{b:List Int}{p:Nat}{Q:AV→Nat→Prop}(H:AC Tryz.prog G f (.ptr 0 2 0 0::args) [rdO b p] fun x h=>∃v q,x= .ret v∧h=[rdO b q]∧Q v q)(hq:∀v q,Q v q→below 0 v){h:List AO}{k:Nat}(hk:h[k]?=some (rdO b p))(ha:ag 0 args):
 AC Tryz.prog G f (.ptr k 2 0 0::args) h fun x h'=>∃v q,x= .ret v∧h'=h.set k (rdO b q)∧Q v q:=by
 refine(H.frame (h:=h) (args:= .ptr k 2 0 0::args) [k] (by simp) ⟨.inr ⟨by simp[below],by simp[ren]⟩,Ew ha⟩ (du hk (bz _ _ _) cQ)).mono ?_
 rintro x h' ⟨x0,h0,⟨v,q,rfl,rfl,r⟩,hl,rfl,rfl⟩
 refine⟨v,q,?_,?_,r⟩
 ·simp only[uf]
  have:=dT ([k]++List.range' h.length ([rdO b q].length-[rdO b p].length)) [v] ⟨hq v q r,trivial⟩
  simpa[bp] using this
 ·have hp2:∀σ,fb σ (rdO b q)=rdO b q:=fun σ=>by simp[rdO,fb,bp,ren]
  simp[mrg,hp2]
theorem GC{l:List Int}(h:Byt l)(n:Nat):Byt (l.take n):=fun x hx=>h x (List.mem_of_mem_take hx)
def DrP(n:Nat)(x:ARes):Prop:=∃l:List Fd,x= .ret (.agg [.p (fdL l)])∧aO l≤n
theorem Fa{f:FuncId}{args:List AV}{R:ARes→Prop}(H:AC Tryz.prog G f args [] fun x _=>R x)(hR:∀x,R x→∃v,x= .ret v∧below 0 v)(ha:ag 0 args)(h:List AO):AC Tryz.prog G f args h fun x h'=>R x∧h'=h:=by
 have H2:AC Tryz.prog G f args [] fun x h'=>R x∧h'=[]:=by
  refine H.wk (fun t v h' r=>by obtain⟨_,e,_⟩:=hR _ r;cases e) fun v h' r=>?_
  obtain⟨v',e,hv⟩:=hR _ r
  cases e
  exact⟨v,[],Eo rfl ⟨.inr ⟨hv,rfl⟩,trivial⟩,r,rfl⟩
 refine(H2.pre h ha (fun o ho=>by cases ho) (fun x h' r=>by rw[r.2])).mono ?_
 rintro x h' ⟨h1,⟨r,rfl⟩,rfl⟩
 exact⟨r,rfl⟩
theorem Gn{n:Nat}:∀x,DrP n x→∃v,x= .ret v∧below 0 v:=fun x ⟨l,e,_⟩=>⟨_,e,by simp[below]⟩
variable (hK:G fC=some ff) (hS:G db=some [.tbl opK opV])
include hK hS
end Go.Proofs.YtnjbhgpbgmpkcaaGreatDoor
namespace Go.Proofs.YtnjbhgpbgmpkcaaGreatDoor
open Go Go.Aw
set_option maxRecDepth 100000
set_option maxHeartbeats 4000000
variable (G:aC)
def Fd.more(f:Fd):Fd:=⟨f.name,f.params,f.body++[⟨1,[122,113],[⟨1,0,[],[]⟩],[],[]⟩]⟩
variable (hK:G fC=some ff) (hS:G db=some [.tbl opK opV])
include hK hS
end Go.Proofs.YtnjbhgpbgmpkcaaGreatDoor
namespace Go.Proofs.YtnjbhgpbgmpkcaaGreatDoor
open Go Go.Aw
set_option maxRecDepth 100000
set_option maxHeartbeats 4000000
variable (G:aC)
theorem CQ(xs:List Int)(hb:xs.length≤1073741824):VF Tryz.prog G kS [.p (rn xs),.p (rn xs)] (.p (.bool true)):=by
 refine AC.go ws ?_
 have hsl:∀l,rn l= .lst 1 (l.map fun w=>[.int .i64 w]):=fun _=>rfl
 simp-implicitDefEqProofs[pC,hsl]
 refine aN (fun i:Nat=>al 29 [(0,.p (rn xs)),(1,.p (rn xs)),(10,.p (.int .i64 xs.length)),(11,.p (.int .i64 i))]) (fun _=>[]) (fun i=>i≤xs.length) (fun i=>xs.length-i) 0 (by simp) ?_ ?_
 ·exact bk rfl (by simp[below,rn])
 intro i hi
 simp-implicitDefEqProofs[hsl]
 refine bc (fun h1=>?_) (fun h1=>?_)
 ·simp at h1
  have hg:xs[i]?=some xs[i]:=List.getElem?_eq_getElem h1
  generalize xs[i]=x at hg
  simp-implicitDefEqProofs[hg]
  refine⟨i+1,by omega,by omega,bk rfl ?_⟩
  simp[below,rn,w1 (i:=i) (by omega)]
 ·simp at h1
  simp-implicitDefEqProofs[]
variable (hK:G fC=some ff) (hS:G db=some [.tbl opK opV])
include hK hS
end Go.Proofs.YtnjbhgpbgmpkcaaGreatDoor
namespace Go.Proofs.YtnjbhgpbgmpkcaaGreatDoor
open Go Go.Aw
set_option maxRecDepth 100000
set_option maxHeartbeats 4000000
def aS{σ α β:Type}(g:σ→α→β × σ):σ→List α→List β × σ
 |st,[]=>([],st)
 |st,x::r=>((g st x).1::(aS g (g st x).2 r).1,(aS g (g st x).2 r).2)
theorem yV{σ α β:Type}(g:σ→α→β × σ):∀(a b:List α) (st:σ),aS g st (a++b)=((aS g st a).1++(aS g (aS g st a).2 b).1,(aS g (aS g st a).2 b).2)
 |[],b,st=>rfl
 |x::r,b,st=>by rw[List.cons_append,aS,yV g r];rfl
theorem og{σ α β:Type}{g:σ→α→β × σ}{l:List α}{st:σ}{i:Nat}(h:i<l.length):aS g st (l.take (i+1))=((aS g st (l.take i)).1++[(g (aS g st (l.take i)).2 l[i]).1],(g (aS g st (l.take i)).2 l[i]).2):=by
 rw[an h,yV];rfl
theorem nz{σ α β:Type}(g:σ→α→β × σ):∀(l:List α) (st:σ),(aS g st l).1.length=l.length
 |[],st=>rfl
 |x::r,st=>by rw[aS,List.length_cons,List.length_cons,nz g r]
theorem nF{σ α β:Type}{g:σ→α→β × σ}{inv:Nat→σ→Prop}:∀{l:List α} {st:σ} {k:Nat},inv k st→(∀(i:Nat) st (h:i<l.length),inv (k+i) st→inv (k+i+1) (g st l[i]).2)→∀i,i≤l.length→inv (k+i) (aS g st (l.take i)).2
 |[],st,k,h0,_,i,hi=>by
  have:i=0:=by simpa using hi
  subst this;exact h0
 |x::r,st,k,h0,hs,0,_=>h0
 |x::r,st,k,h0,hs,i+1,hi=>by
  have h1:=hs 0 st (by simp) h0
  have:=nF (g:=g) (l:=r) (st:=(g st x).2) (k:=k+1) h1 (fun j st hj hv=>by
   have:=hs (j+1) st (by simp;omega) (by rw[show k+(j+1)=k+1+j by omega];exact hv)
   rw[show k+(j+1)+1=k+1+j+1 by omega] at this
   exact this) i (by simpa using hi)
  rw[List.take_succ_cons,aS,show k+(i+1)=k+1+i by omega]
  exact this
theorem Jx{n k:Nat}{A:List AO}{π:List Nat}{h r1:List AO}(hl:A.length=n)(ha:∀o∈A,okO n o)(hh:∀i,i<n→h[i]?=A[i]?)(ρ:List Nat)(hρ:∀i,i<n→ρ.getD i 0=i)(hρn:n≤ρ.length)(hk:k=n)(hr:HW ρ h π r1):HW ρ h (List.range' 0 k++π) (A++r1):=by
 subst hk
 have key:∀(B:List AO) (s:Nat),(∀i:Nat,B[i]?=h[s+i]?∨B.length≤i)→s+B.length=k→(∀o∈B,okO k o)→HW ρ h (List.range' s B.length++π) (B++r1):=by
  intro B
  induction B with
  |nil=>intro s _ _ _;exact hr
  |cons o r ih=>
   intro s hb hs ho
   rw[List.length_cons,List.range'_succ]
   have h0:h[s]?=some o:=by
    rcases hb 0 with h0|h0
    ·simpa using h0.symm
    ·simp at h0
   have hok:=ho o (by simp)
   have ih:=ih (s+1) (fun i=>by
    rcases hb (i+1) with h1|h1
    ·rw[List.getElem?_cons_succ] at h1;left;rw[h1];congr 1;omega
    ·right;simpa using h1) (by simp at hs;omega) (fun o ho'=>ho o (by simp[ho']))
   have hsl:=(List.getElem?_eq_some_iff.1 h0).1
   cases o with
   |dead=>exact eL hsl ih
   |row sz es=>
    refine cr (fun x hx=>az hρn _ (hok x hx)) ?_ ih
    rw[h0,List.map_congr_left (g:=id) fun x hx=>ka hρ x (hok x hx)];simp
   |mp es=>exact⟨hsl,⟨fun x hx=>by exact(az hρn [x.2] ⟨hok x hx,trivial⟩).1,by rw[h0,List.map_congr_left (g:=id) fun x hx=>by rw[jD hρ x.2 (hok x hx)];rfl];simp⟩,ih⟩
   |sit s p=>exact⟨hsl,h0,ih⟩
 have:=key A 0 (fun i=>by
  rcases Nat.lt_or_ge i A.length with hi|hi
  ·left;rw[Nat.zero_add];exact(hh i (by omega)).symm
  ·right;exact hi) (by omega) ha
 rwa[hl] at this
theorem xV{kk q n m d sz c:Nat}{A mid s:List AO}{es:List (List AV)}{l l1:List (Nat × AV)}(hl:A.length=n)(hm:mid.length=m)(hk:kk≤n)(ha:∀o∈A,okO n o)(he:∀x∈es,ag 0 x)(H:FgA n l l1)(hd:Aw.look l d= .sl (n+m) sz 0 c):
 Wk kk (al q l) (A++(mid++ .row sz es::s)) (al q ((d,.sl n sz 0 c)::l1)) (A++[.row sz es]):=by
 have hρ:∀i,i<n→(List.range' 0 n++[n+m]).getD i 0=i:=fun i hi=>by
  rw[List.getD_eq_getElem?_getD,List.getElem?_append_left (by simp;exact hi)];simp[hi]
 have hρn:(List.range' 0 n++[n+m]).getD n 0=n+m:=by
  rw[List.getD_eq_getElem?_getD,List.getElem?_append_right (by simp)];simp
 refine fk (List.range' 0 n++[n+m]) (by simp;omega) (fun i hi=>hρ i (by omega)) ?_ ?_ ?_
 ·refine List.nodup_append.2 ⟨List.nodup_range',by simp,fun a ha b hb e=>?_⟩
  rw[List.mem_singleton] at hb
  have:=(List.mem_range'_1.1 ha).2
  omega
 ·refine Jx hl ha (fun i hi=>by rw[List.getElem?_append_left (by omega)]) _ hρ (by simp) rfl ?_
  refine bs ?_ he cQ
  rw[List.getElem?_append_right (by omega),hl,Nat.add_sub_cancel_left,List.getElem?_append_right (by omega),hm,Nat.sub_self];rfl
 ·refine⟨⟨by simp only[below];simp,by simp only[ren,hρn];exact hd.symm⟩,?_⟩
  clear hd
  induction l1 with
  |nil=>trivial
  |cons x r ih=>
   obtain⟨⟨a,c⟩,e⟩:=H
   exact⟨⟨(az (by simp) [x.2] ⟨a,trivial⟩).1,by rw[jD hρ _ a,c]⟩,ih e⟩
theorem qu{hF:List AO}{n:Nat}:∀{A r:List AO},(∀o∈A,okO n o)→FzO hF n (A++r) A
 |[],r,_=> .nil r
 |o::a,r,h=> .same (h o (by simp)) (qu fun o ho=>h o (by simp[ho]))
theorem tz{n:Nat}{A r:List AO}{o:AO}(hl:A.length=n):(mR n (A++o::r))[n]?=some o:=by
 unfold mR
 rw[List.getElem?_append_right (by simp),List.length_replicate,Nat.sub_self,←hl,List.drop_left']
 ·rfl
 ·rfl
variable (G:aC)
theorem wS{σ:Type}(V:Vis σ)(g:σ→Ex→Ex × σ)(inv:Nat→σ→Prop)(l:List Ex)(hb:l.length≤1073741824)(hn:0<V.n)
 (hv:∀(i:Nat) st (h:i<l.length),inv i st→inv (i+1) (g st l[i]).2∧AC Tryz.prog G V.F (.agg (l[i].cs.map .p)::V.caps) (V.I st) fun x h'=>x= .ret (.agg ((g st l[i]).1.cs.map .p))∧h'=V.I (g st l[i]).2)(st:σ)(h0:inv 0 st):
 AC Tryz.prog G aL [.p (exL l),.fn (.func V.F) V.caps] (V.I st) fun x h=>x= .ret (.p (exL (aS g st l).1))∧h=V.I (aS g st l).2:=by
 have hxl:∀l,exL l= .lst 4 (l.map Ex.cs):=fun _=>rfl
 have hlen:=V.len
 have hcb:=V.capsOk
 have hinv:∀i,i≤l.length→inv i (aS g st (l.take i)).2:=fun i hi=>by
  have:=nF (g:=g) (inv:=inv) (l:=l) (st:=st) (k:=0) h0 (fun i st h hi=>by
   rw[Nat.zero_add] at hi⊢;exact(hv i st h hi).1) i hi
  rwa[Nat.zero_add] at this
 have hRp:∀l:List Ex,∀x∈exR l,ag 0 x:=dM
 have hRl:∀l:List Ex,(exR l).length=l.length:=fun l=>by simp[exR]
 have hRa:∀(l:List Ex) (y:Ex),exR (l++[y])=exR l++[y.cs.map .p]:=fun l y=>by simp[exR]
 have key:AC Tryz.prog G aL [.p (exL l),.fn (.func V.F) V.caps] (V.I st) fun x h=>x= .ret (slE V.n 4 (exR (aS g st l).1))∧h=V.I (aS g st l).2++[br 4 (exR (aS g st l).1)]:=by
  refine AC.go lE ?_
  simp-implicitDefEqProofs[gz,hxl]
  refine aN (fun i:Nat=>al 22 [(5,slE V.n 4 (exR (aS g st (l.take i)).1)),(0,.p (exL l)),(1,.fn (.func V.F) V.caps),(8,.p (exL l)),(9,.p (.int .i64 l.length)),(10,.p (.int .i64 i))])
   (fun i=>V.I (aS g st (l.take i)).2++[br 4 (exR (aS g st (l.take i)).1)]) (fun i=>i≤l.length) (fun i=>l.length-i) 0 (by simp) ?_ ?_
  ·have e:br 4 (exR (aS g st (l.take 0)).1)= .dead:=rfl
   rw[e]
   exact ic (by rw[hlen];exact Nat.le_refl _) (by rw[hlen];exact hn) (by rw[hlen];exact V.ok st) (by simp[below,hxl,hcb,hlen,aS,exR,mc])
  intro i hi
  have hT:=fun h=>og (g:=g) (l:=l) (st:=st) (i:=i) h
  have hi2:=hinv i hi
  have hml:=nz g (l.take i) st
  rw[List.length_take,Nat.min_eq_left hi] at hml
  generalize hcur:aS g st (l.take i)=cur at hT hi2 hml⊢
  obtain⟨out,s⟩:=cur
  simp only at hT hi2 hml⊢
  simp-implicitDefEqProofs[hxl]
  refine bc (fun hc=>?_) (fun hc=>?_)
  ·simp at hc
   have hg:=List.getElem?_eq_getElem hc
   have hT:=hT hc
   obtain⟨_,hA⟩:=hv i s hc hi2
   generalize l[i]=x at hg hT hA
   have hkc:=x.cs_eq
   have hyc:=(g s x).1.cs_eq
   rw[hkc] at hA
   simp-implicitDefEqProofs[hg,hkc,hlen]
   refine(V.pre G hA _ ⟨by simp[below],hcb⟩).mono ?_
   rintro r h ⟨rfl,rfl⟩
   rw[hyc]
   simp-implicitDefEqProofs[aa,hlen]
   have hol:=hRl out
   refine⟨⟨by omega,by omega⟩,i+1,hc,by omega,?_⟩
   rw[hT]
   simp only[hRa]
   rw[mr _ (by simp),jP _ (by simp),hyc]
   refine xV (mid:=[_,_,_]) (s:=[]) (hlen _) rfl (Nat.le_refl _) (V.ok _) ?_ ?_ ?_
   ·intro x hx
    rcases List.mem_append.1 hx with h|h
    ·exact hRp _ x h
    ·rw[List.mem_singleton.1 h];simp
   ·simp[below,hxl,hcb,w1 (i:=i) (by omega)]
   ·simp
  ·simp at hc
   have hie:i=l.length:=by omega
   subst hie
   rw[List.take_length] at hcur
   rw[hcur]
   simp-implicitDefEqProofs[]
 refine key.frz V.n (by rw[hlen];exact Nat.le_refl _) (fun t v h ⟨e,_⟩=>by cases e) ?_
 rintro v h ⟨e,rfl⟩
 cases e
 refine⟨_,V.I (aS g st l).2,by rw[List.length_append,hlen];omega,hlen _,.one ?_ .nil,qu (V.ok _),rfl,rfl⟩
 have ht:=tz (r:=[]) (o:=br 4 (exR (aS g st l).1)) (hlen (aS g st l).2)
 have hh:exR (aS g st l).1=((aS g st l).1.map Ex.cs).map (·.map .p):=by simp[exR]
 rw[hh] at ht⊢
 exact rP ht (fun x hx=>by obtain⟨b,_,rfl⟩:=List.mem_map.1 hx;simp)
theorem CY{σ:Type}(V:Vis σ)(g:σ→Sm→Sm × σ)(inv:Nat→σ→Prop)(l:List Sm)(hb:l.length≤1073741824)(hn:0<V.n)
 (hv:∀(i:Nat) st (h:i<l.length),inv i st→inv (i+1) (g st l[i]).2∧AC Tryz.prog G V.F (.agg (l[i].cs.map .p)::V.caps) (V.I st) fun x h'=>x= .ret (.agg ((g st l[i]).1.cs.map .p))∧h'=V.I (g st l[i]).2)(st:σ)(h0:inv 0 st):
 AC Tryz.prog G cx [.p (smL l),.fn (.func V.F) V.caps] (V.I st) fun x h=>x= .ret (.p (smL (aS g st l).1))∧h=V.I (aS g st l).2:=by
 have hxl:∀l,smL l= .lst 5 (l.map Sm.cs):=fun _=>rfl
 have hlen:=V.len
 have hcb:=V.capsOk
 have hinv:∀i,i≤l.length→inv i (aS g st (l.take i)).2:=fun i hi=>by
  have:=nF (g:=g) (inv:=inv) (l:=l) (st:=st) (k:=0) h0 (fun i st h hi=>by
   rw[Nat.zero_add] at hi⊢;exact(hv i st h hi).1) i hi
  rwa[Nat.zero_add] at this
 have hRp:∀l:List Sm,∀x∈smR l,ag 0 x:=dR
 have hRl:∀l:List Sm,(smR l).length=l.length:=fun l=>by simp[smR]
 have hRa:∀(l:List Sm) (y:Sm),smR (l++[y])=smR l++[y.cs.map .p]:=fun l y=>by simp[smR]
 have key:AC Tryz.prog G cx [.p (smL l),.fn (.func V.F) V.caps] (V.I st) fun x h=>x= .ret (slE V.n 5 (smR (aS g st l).1))∧h=V.I (aS g st l).2++[br 5 (smR (aS g st l).1)]:=by
  refine AC.go lD ?_
  simp-implicitDefEqProofs[gC,hxl]
  refine aN (fun i:Nat=>al 22 [(5,slE V.n 5 (smR (aS g st (l.take i)).1)),(0,.p (smL l)),(1,.fn (.func V.F) V.caps),(8,.p (smL l)),(9,.p (.int .i64 l.length)),(10,.p (.int .i64 i))])
   (fun i=>V.I (aS g st (l.take i)).2++[br 5 (smR (aS g st (l.take i)).1)]) (fun i=>i≤l.length) (fun i=>l.length-i) 0 (by simp) ?_ ?_
  ·have e:br 5 (smR (aS g st (l.take 0)).1)= .dead:=rfl
   rw[e]
   exact ic (by rw[hlen];exact Nat.le_refl _) (by rw[hlen];exact hn) (by rw[hlen];exact V.ok st) (by simp[below,hxl,hcb,hlen,aS,smR,mc])
  intro i hi
  have hT:=fun h=>og (g:=g) (l:=l) (st:=st) (i:=i) h
  have hi2:=hinv i hi
  have hml:=nz g (l.take i) st
  rw[List.length_take,Nat.min_eq_left hi] at hml
  generalize hcur:aS g st (l.take i)=cur at hT hi2 hml⊢
  obtain⟨out,s⟩:=cur
  simp only at hT hi2 hml⊢
  simp-implicitDefEqProofs[hxl]
  refine bc (fun hc=>?_) (fun hc=>?_)
  ·simp at hc
   have hg:=List.getElem?_eq_getElem hc
   have hT:=hT hc
   obtain⟨_,hA⟩:=hv i s hc hi2
   generalize l[i]=x at hg hT hA
   have hkc:=x.cs_eq
   have hyc:=(g s x).1.cs_eq
   rw[hkc] at hA
   simp-implicitDefEqProofs[hg,hkc,hlen]
   refine(V.pre G hA _ ⟨by simp[below],hcb⟩).mono ?_
   rintro r h ⟨rfl,rfl⟩
   rw[hyc]
   simp-implicitDefEqProofs[aa,hlen]
   have hol:=hRl out
   refine⟨⟨by omega,by omega⟩,i+1,hc,by omega,?_⟩
   rw[hT]
   simp only[hRa]
   rw[mr _ (by simp),jP _ (by simp),hyc]
   refine xV (mid:=[_,_,_]) (s:=[]) (hlen _) rfl (Nat.le_refl _) (V.ok _) ?_ ?_ ?_
   ·intro x hx
    rcases List.mem_append.1 hx with h|h
    ·exact hRp _ x h
    ·rw[List.mem_singleton.1 h];simp
   ·simp[below,hxl,hcb,w1 (i:=i) (by omega)]
   ·simp
  ·simp at hc
   have hie:i=l.length:=by omega
   subst hie
   rw[List.take_length] at hcur
   rw[hcur]
   simp-implicitDefEqProofs[]
 refine key.frz V.n (by rw[hlen];exact Nat.le_refl _) (fun t v h ⟨e,_⟩=>by cases e) ?_
 rintro v h ⟨e,rfl⟩
 cases e
 refine⟨_,V.I (aS g st l).2,by rw[List.length_append,hlen];omega,hlen _,.one ?_ .nil,qu (V.ok _),rfl,rfl⟩
 have ht:=tz (r:=[]) (o:=br 5 (smR (aS g st l).1)) (hlen (aS g st l).2)
 have hh:smR (aS g st l).1=((aS g st l).1.map Sm.cs).map (·.map .p):=by simp[smR]
 rw[hh] at ht⊢
 exact rP ht (fun x hx=>by obtain⟨b,_,rfl⟩:=List.mem_map.1 hx;simp)
theorem HZ{σ:Type}(V:Vis σ)(g:σ→Fd→Fd × σ)(inv:Nat→σ→Prop)(l:List Fd)(hb:l.length≤1073741824)(hn:0<V.n)
 (hv:∀(i:Nat) st (h:i<l.length),inv i st→inv (i+1) (g st l[i]).2∧AC Tryz.prog G V.F (.agg (l[i].cs.map .p)::V.caps) (V.I st) fun x h'=>x= .ret (.agg ((g st l[i]).1.cs.map .p))∧h'=V.I (g st l[i]).2)(st:σ)(h0:inv 0 st):
 AC Tryz.prog G dg [.p (fdL l),.fn (.func V.F) V.caps] (V.I st) fun x h=>x= .ret (.p (fdL (aS g st l).1))∧h=V.I (aS g st l).2:=by
 have hxl:∀l,fdL l= .lst 3 (l.map Fd.cs):=fun _=>rfl
 have hlen:=V.len
 have hcb:=V.capsOk
 have hinv:∀i,i≤l.length→inv i (aS g st (l.take i)).2:=fun i hi=>by
  have:=nF (g:=g) (inv:=inv) (l:=l) (st:=st) (k:=0) h0 (fun i st h hi=>by
   rw[Nat.zero_add] at hi⊢;exact(hv i st h hi).1) i hi
  rwa[Nat.zero_add] at this
 have hRp:∀l:List Fd,∀x∈aJ l,ag 0 x:=jF
 have hRl:∀l:List Fd,(aJ l).length=l.length:=fun l=>by simp[aJ]
 have hRa:∀(l:List Fd) (y:Fd),aJ (l++[y])=aJ l++[y.cs.map .p]:=fun l y=>by simp[aJ]
 have key:AC Tryz.prog G dg [.p (fdL l),.fn (.func V.F) V.caps] (V.I st) fun x h=>x= .ret (slE V.n 3 (aJ (aS g st l).1))∧h=V.I (aS g st l).2++[br 3 (aJ (aS g st l).1)]:=by
  refine AC.go mK ?_
  simp-implicitDefEqProofs[il,hxl]
  refine aN (fun i:Nat=>al 22 [(5,slE V.n 3 (aJ (aS g st (l.take i)).1)),(0,.p (fdL l)),(1,.fn (.func V.F) V.caps),(8,.p (fdL l)),(9,.p (.int .i64 l.length)),(10,.p (.int .i64 i))])
   (fun i=>V.I (aS g st (l.take i)).2++[br 3 (aJ (aS g st (l.take i)).1)]) (fun i=>i≤l.length) (fun i=>l.length-i) 0 (by simp) ?_ ?_
  ·have e:br 3 (aJ (aS g st (l.take 0)).1)= .dead:=rfl
   rw[e]
   exact ic (by rw[hlen];exact Nat.le_refl _) (by rw[hlen];exact hn) (by rw[hlen];exact V.ok st) (by simp[below,hxl,hcb,hlen,aS,aJ,mc])
  intro i hi
  have hT:=fun h=>og (g:=g) (l:=l) (st:=st) (i:=i) h
  have hi2:=hinv i hi
  have hml:=nz g (l.take i) st
  rw[List.length_take,Nat.min_eq_left hi] at hml
  generalize hcur:aS g st (l.take i)=cur at hT hi2 hml⊢
  obtain⟨out,s⟩:=cur
  simp only at hT hi2 hml⊢
  simp-implicitDefEqProofs[hxl]
  refine bc (fun hc=>?_) (fun hc=>?_)
  ·simp at hc
   have hg:=List.getElem?_eq_getElem hc
   have hT:=hT hc
   obtain⟨_,hA⟩:=hv i s hc hi2
   generalize l[i]=x at hg hT hA
   have hkc:=x.cs_eq'
   have hyc:=(g s x).1.cs_eq'
   rw[hkc] at hA
   simp-implicitDefEqProofs[hg,hkc,hlen]
   refine(V.pre G hA _ ⟨by simp[below],hcb⟩).mono ?_
   rintro r h ⟨rfl,rfl⟩
   rw[hyc]
   simp-implicitDefEqProofs[aa,hlen]
   have hol:=hRl out
   refine⟨⟨by omega,by omega⟩,i+1,hc,by omega,?_⟩
   rw[hT]
   simp only[hRa]
   rw[mr _ (by simp),jP _ (by simp),hyc]
   refine xV (mid:=[_,_,_]) (s:=[]) (hlen _) rfl (Nat.le_refl _) (V.ok _) ?_ ?_ ?_
   ·intro x hx
    rcases List.mem_append.1 hx with h|h
    ·exact hRp _ x h
    ·rw[List.mem_singleton.1 h];simp
   ·simp[below,hxl,hcb,w1 (i:=i) (by omega)]
   ·simp
  ·simp at hc
   have hie:i=l.length:=by omega
   subst hie
   rw[List.take_length] at hcur
   rw[hcur]
   simp-implicitDefEqProofs[]
 refine key.frz V.n (by rw[hlen];exact Nat.le_refl _) (fun t v h ⟨e,_⟩=>by cases e) ?_
 rintro v h ⟨e,rfl⟩
 cases e
 refine⟨_,V.I (aS g st l).2,by rw[List.length_append,hlen];omega,hlen _,.one ?_ .nil,qu (V.ok _),rfl,rfl⟩
 have ht:=tz (r:=[]) (o:=br 3 (aJ (aS g st l).1)) (hlen (aS g st l).2)
 have hh:aJ (aS g st l).1=((aS g st l).1.map Fd.cs).map (·.map .p):=by simp[aJ]
 rw[hh] at ht⊢
 exact rP ht (fun x hx=>by obtain⟨b,_,rfl⟩:=List.mem_map.1 hx;simp)
theorem JR{σ:Type}(V:Vis σ)(g:σ→List UInt8→List UInt8 × σ)(inv:Nat→σ→Prop)(l:List (List UInt8))(hb:l.length≤1073741824)(hn:0<V.n)
 (hv:∀(i:Nat) st (h:i<l.length),inv i st→inv (i+1) (g st l[i]).2∧AC Tryz.prog G V.F (.p (.str l[i])::V.caps) (V.I st) fun x h'=>x= .ret (.p (.str (g st l[i]).1))∧h'=V.I (g st l[i]).2)(st:σ)(h0:inv 0 st):
 AC Tryz.prog G dt [.p (au l),.fn (.func V.F) V.caps] (V.I st) fun x h=>x= .ret (.p (au (aS g st l).1))∧h=V.I (aS g st l).2:=by
 have hxl:∀l,au l= .lst 1 (l.map fun w=>[.str w]):=fun _=>rfl
 have hlen:=V.len
 have hcb:=V.capsOk
 have hinv:∀i,i≤l.length→inv i (aS g st (l.take i)).2:=fun i hi=>by
  have:=nF (g:=g) (inv:=inv) (l:=l) (st:=st) (k:=0) h0 (fun i st h hi=>by
   rw[Nat.zero_add] at hi⊢;exact(hv i st h hi).1) i hi
  rwa[Nat.zero_add] at this
 have hRp:∀l:List (List UInt8),∀x∈oZ l,ag 0 x:=lL
 have hRl:∀l:List (List UInt8),(oZ l).length=l.length:=fun l=>by simp[oZ]
 have hRa:∀(l:List (List UInt8)) (y:List UInt8),oZ (l++[y])=oZ l++[[.p (.str y)]]:=fun l y=>by simp[oZ]
 have key:AC Tryz.prog G dt [.p (au l),.fn (.func V.F) V.caps] (V.I st) fun x h=>x= .ret (slE V.n 1 (oZ (aS g st l).1))∧h=V.I (aS g st l).2++[br 1 (oZ (aS g st l).1)]:=by
  refine AC.go oc ?_
  simp-implicitDefEqProofs[ja,hxl]
  refine aN (fun i:Nat=>al 22 [(5,slE V.n 1 (oZ (aS g st (l.take i)).1)),(0,.p (au l)),(1,.fn (.func V.F) V.caps),(8,.p (au l)),(9,.p (.int .i64 l.length)),(10,.p (.int .i64 i))])
   (fun i=>V.I (aS g st (l.take i)).2++[br 1 (oZ (aS g st (l.take i)).1)]) (fun i=>i≤l.length) (fun i=>l.length-i) 0 (by simp) ?_ ?_
  ·have e:br 1 (oZ (aS g st (l.take 0)).1)= .dead:=rfl
   rw[e]
   exact ic (by rw[hlen];exact Nat.le_refl _) (by rw[hlen];exact hn) (by rw[hlen];exact V.ok st) (by simp[below,hxl,hcb,hlen,aS,oZ,mc])
  intro i hi
  have hT:=fun h=>og (g:=g) (l:=l) (st:=st) (i:=i) h
  have hi2:=hinv i hi
  have hml:=nz g (l.take i) st
  rw[List.length_take,Nat.min_eq_left hi] at hml
  generalize hcur:aS g st (l.take i)=cur at hT hi2 hml⊢
  obtain⟨out,s⟩:=cur
  simp only at hT hi2 hml⊢
  simp-implicitDefEqProofs[hxl]
  refine bc (fun hc=>?_) (fun hc=>?_)
  ·simp at hc
   have hg:=List.getElem?_eq_getElem hc
   have hT:=hT hc
   obtain⟨_,hA⟩:=hv i s hc hi2
   generalize l[i]=x at hg hT hA
   simp-implicitDefEqProofs[hg,hlen]
   refine(V.pre G hA _ ⟨by simp[below],hcb⟩).mono ?_
   rintro r h ⟨rfl,rfl⟩
   simp-implicitDefEqProofs[aa,hlen]
   have hol:=hRl out
   refine⟨⟨by omega,by omega⟩,i+1,hc,by omega,?_⟩
   rw[hT]
   simp only[hRa]
   rw[mr _ (by simp),jP _ (by simp)]
   refine xV (mid:=[_,_]) (s:=[]) (hlen _) rfl (Nat.le_refl _) (V.ok _) ?_ ?_ ?_
   ·intro x hx
    rcases List.mem_append.1 hx with h|h
    ·exact hRp _ x h
    ·rw[List.mem_singleton.1 h];simp
   ·simp[below,hxl,hcb,w1 (i:=i) (by omega)]
   ·simp
  ·simp at hc
   have hie:i=l.length:=by omega
   subst hie
   rw[List.take_length] at hcur
   rw[hcur]
   simp-implicitDefEqProofs[]
 refine key.frz V.n (by rw[hlen];exact Nat.le_refl _) (fun t v h ⟨e,_⟩=>by cases e) ?_
 rintro v h ⟨e,rfl⟩
 cases e
 refine⟨_,V.I (aS g st l).2,by rw[List.length_append,hlen];omega,hlen _,.one ?_ .nil,qu (V.ok _),rfl,rfl⟩
 have ht:=tz (r:=[]) (o:=br 1 (oZ (aS g st l).1)) (hlen (aS g st l).2)
 have hh:oZ (aS g st l).1=((aS g st l).1.map fun w=>[PV.str w]).map (·.map .p):=by simp[oZ]
 rw[hh] at ht⊢
 exact rP ht (fun x hx=>by obtain⟨b,_,rfl⟩:=List.mem_map.1 hx;rfl)
end Go.Proofs.YtnjbhgpbgmpkcaaGreatDoor
namespace Go.Proofs.YtnjbhgpbgmpkcaaGreatDoor
open Go Go.Aw
set_option maxRecDepth 100000
set_option maxHeartbeats 4000000
def rO(n:Nat):AO:= .row 1 [[.p (.int .i64 n)]]
def RH(b0:AO)(n:Nat)(ch:List GS):List AO:=b0::rO n::scH ch
theorem jN(b0:AO)(n:Nat)(ch:List GS):(RH b0 n ch).length=2+scL ch:=by simp only[RH,List.length_cons,iT];omega
theorem su{b0:AO}(hb:okO 0 b0){n:Nat}{ch:List GS}(hs:lq ch){m:Nat}(hm:2+scL ch≤m):∀o∈RH b0 n ch,okO m o:=
 ae (bU hb) (ae (by intro e he;rw[List.mem_singleton.1 he];simp[below]) (xI ch hs hm))
def Sml(ch:List Scp):Prop:=∀s n,eS ch s=some n→n<26
theorem Sml.getD{ch:List Scp}(h:Sml ch)(s:List UInt8):(eS ch s).getD 0<26:=by
 cases e:eS ch s with
 |none=>simp
 |some n=>exact h s n e
theorem Sml.set{m:Scp}{up:List Scp}(h:Sml (m::up))(s:List UInt8){n:Nat}(hn:n<26):Sml (fm m s n::up):=by
 intro t k e
 rw[eS,um] at e
 by_cases hst:s=t
 ·rw[if_pos hst] at e;cases e;exact hn
 ·rw[if_neg hst] at e
  exact h t k (by rw[eS];exact e)
theorem Sml.open{ch:List Scp}(h:Sml ch):Sml ([]::ch):=fun s n e=>h s n (by rw[eS] at e;exact e)
theorem Sml.opS{m:Scp}{up:List Scp}(h:Sml (m::up))(o:Int)(s:List UInt8){n:Nat}(hn:o=1→n<26):Sml (opS o s m n::up):=by
 unfold Go.Proofs.YtnjbhgpbgmpkcaaGreatDoor.opS
 split
 ·rename_i e;exact h.set s (hn e)
 ·exact h
def K_impl_renamer_expr:AK:= .seq (.reg [oJ 3 (.box 1 (.t 0)),oJ 4 (.box 4 (.t 1)),oJ 5 (.box 1 (.t 2)),oJ 6 (.alloc [(.p (.int .i64 0)),(.p (.int .i64 0)),(.p (.str [])),.nils])]) (.cut (.seq (.reg [oF 9 0 4,oL 10 9,oJ 11 (.bin .eql (.t 10) (.c (.p (.int .i64 2))))]) (.cond (.t 11) (.seq (.reg [oL 13 5,oF 14 2 4,oL 15 14,oJ 16 (.call aP [(.t 13),(.t 15)]),oM 12 16,oJ 17 (.ext 0 (.t 12)),oJ 18 (.ext 1 (.t 12)),oM 7 17,oM 8 18]) (.reg [oL 19 3,oM 20 7,oJ 21 (.call bB [(.t 19),(.t 20)]),oF 22 2 4,oS 22 21])) (.skip))) (.seq (.reg [oF 23 3 4,oL 24 23,oJ 25 (.mkf (.func bZ) [(.t 3),(.t 5)]),oJ 26 (.call aL [(.t 24),(.t 25)]),oF 27 3 4,oS 27 26]) (.seq (.reg [oJ 28 (.ld (some 4) (.t 4)),⟨none,none,.st 4 (.t 6) (.t 28)⟩]) (.ret))))
theorem pg:K_impl_renamer_expr.whole=F_impl_renamer_expr.ak:=rfl
variable (G:aC)
theorem xB(n:Nat)(hn:n<26)(r:AV)(h:List AO):AC Tryz.prog G bB [r,.p (.int .i64 n)] h fun x h'=>x= .ret (.p (.str (vnm n)))∧h'=h:=by
 refine AC.go oU ?_
 have hv:vnm n=[118,UInt8.ofNat (97+n)]:=by rw[vnm,Nat.mod_eq_of_lt hn]
 have hw:IntKind.i64.wrap (97+(n:Int))=((97+n:Nat):Int):=by rw[ah (by omega) (by omega)];omega
 have hw2:IntKind.i32.wrap (97+(n:Int))=97+(n:Int):=by
  have:∀m:Nat,m<26→IntKind.i32.wrap (97+(m:Int))=97+(m:Int):=by decide
  exact this _ hn
 have htn:(97+(n:Int)).toNat=97+n:=by omega
 have hof:UInt8.ofNat (97+n)=97+UInt8.ofNat n:=by
  have:∀m:Nat,m<26→UInt8.ofNat (97+m)=97+UInt8.ofNat m:=by decide
  exact this _ hn
 rw[hv]
 simp-implicitDefEqProofs[jt,hw,hw2,htn,hof]
 omega
def RX(b0:AO)(up:List GS)(gap:List AO)(n:Nat):List AO:=b0::rO n::(scH up++gap)
theorem KL(b0:AO)(up:List GS)(gap:List AO)(n:Nat):(RX b0 up gap n).length=2+scL up+gap.length:=by
 simp only[RX,List.length_cons,List.length_append,iT];omega
theorem Jh(b0:AO)(up:List GS)(gap:List AO)(m:Scp)(n:Nat)(rest:List AO):RH b0 n (⟨gap,m⟩::up)++rest=RX b0 up gap n++(.mp (mpE m):: .row 2 [[.mp (2+scL up+gap.length),upV up]]::rest):=by
 simp[RH,RX,scH]
theorem MC(b0:AO)(up:List GS)(gap:List AO)(n:Nat)(t:List AO):(RX b0 up gap n++t)[1]?=some (.row 1 [[.p (.int .i64 n)]]):=rfl
theorem LI(b0:AO)(up:List GS)(gap:List AO)(n k:Nat)(t:List AO):(RX b0 up gap n++t).set 1 (.row 1 [[.p (.int .i64 k)]])=RX b0 up gap k++t:=rfl
theorem Gk(b0:AO)(gap:List AO)(m:Scp)(up:List GS)(s:List UInt8)(n:Nat)(hn:n<26)(rest:List AO):AC Tryz.prog G cI [.ptr 1 1 0 0,upV (⟨gap,m⟩::up),.p (.str s)] (RH b0 n (⟨gap,m⟩::up)++rest) fun x h=>x= .ret (.p (.str (vnm n)))∧h=RH b0 (n+1) (⟨gap,fm m s n⟩::up)++rest:=by
 refine AC.go ph ?_
 have hup:upV (⟨gap,m⟩::up)= .ptr (2+scL up+gap.length+1) 2 0 0:=rfl
 have hms:jr (.str s) (.p (.int .i64 n)) (mpE m)=some (mpE (fm m s n)):=rg s n m
 have hl:=KL b0 up gap
 have hw:IntKind.i64.wrap ((n:Int)+1)=(n:Int)+1:=ah (by omega) (by omega)
 have hw2:IntKind.i64.wrap ((n:Int)+1-1)=(n:Int):=by rw[ah (by omega) (by omega)];omega
 have hw3:IntKind.i64.wrap (n:Int)=(n:Int):=ah (by omega) (by omega)
 have hs1:∀t,(RX b0 up gap n++t).set 1 (.row 1 [[.p (.int .i64 ((n:Int)+1))]])=RX b0 up gap (n+1)++t:=fun t=>LI b0 up gap n (n+1) t
 have h1:∀t,(RX b0 up gap (n+1)++t)[1]?=some (.row 1 [[.p (.int .i64 ((n:Int)+1))]]):=fun t=>MC b0 up gap (n+1) t
 rw[Jh,Jh,hup]
 generalize RX b0 up gap (n+1)=B at hs1 h1⊢
 have h0:=MC b0 up gap n
 have hln:=hl n
 generalize RX b0 up gap n=A at hs1 h0 hln⊢
 simp-implicitDefEqProofs[ju,hln,hms,h0,h1,hs1,hw,hw2,hw3]
 refine(xB G n hn _ _).mono ?_
 rintro r h ⟨rfl,rfl⟩
 simp-implicitDefEqProofs[aa]
theorem Eu{b0:AO}(hb:okO 0 b0){f:FuncId}{args:List AV}{n n':Nat}{ch ch':List GS}{v:AV}(H:AC Tryz.prog G f args (RH b0 n ch) fun x h=>x= .ret v∧h=RH b0 n' ch')(hs:lq ch)(hl:scL ch'=scL ch)(rest:List AO)(ha:ag (2+scL ch) args):
 AC Tryz.prog G f args (RH b0 n ch++rest) fun x h=>x= .ret v∧h=RH b0 n' ch'++rest:=by
 refine(AC.pre H rest (by rw[jN b0];exact ha) (by rw[jN b0];exact su hb hs (Nat.le_refl _)) ?_).mono ?_
 ·rintro x h ⟨_,rfl⟩;rw[jN b0,jN b0,hl]
 ·rintro x h ⟨h1,⟨rfl,rfl⟩,rfl⟩
  exact⟨rfl,rfl⟩
theorem Bs(b0:AO)(n:Nat)(ch:List GS)(rest:List AO)(s:List UInt8):AC Tryz.prog G aP [upV ch,.p (.str s)] (RH b0 n ch++rest) fun x h=>x= .ret (.tup [.p (.int .i64 (((eS (sco ch) s).getD 0:Nat):Int)),.p (.bool (eS (sco ch) s).isSome)])∧h=RH b0 n ch++rest:=zV G b0 (rO n) ch rest s
def rBx(ch:List GS)(e:List AV):List AO:=[.row 1 [[.ptr 1 1 0 0]],.row 4 [e],.row 1 [[upV ch]],.row 4 [[.p (.int .i64 0),.p (.int .i64 0),.p (.str []),.nils]]]
def FH{b0:AO}(hb:okO 0 b0)(n:Nat)(ch:List GS)(e:List PV)(hs:lq ch):Vis Unit where
 I:=fun _=>RH b0 n ch++rBx ch (e.map .p)
 n:=2+scL ch+4
 F:=bZ
 caps:=[.ptr (2+scL ch) 1 0 0,.ptr (2+scL ch+2) 1 0 0]
 len:=fun _=>by rw[List.length_append,jN b0];rfl
 ok:=fun _ o ho=>by
  rcases List.mem_append.1 ho with h|h
  ·exact su hb hs (by omega) o h
  ·simp only[rBx,List.mem_cons,List.not_mem_nil,or_false] at h
   rcases h with rfl|rfl|rfl|rfl
   ·intro e he;rw[List.mem_singleton.1 he];exact⟨by simp only[below];omega,trivial⟩
   ·intro e he;rw[List.mem_singleton.1 he];exact az (Nat.zero_le _) _ (by simp)
   ·intro e he;rw[List.mem_singleton.1 he];exact⟨dS ch (by omega),trivial⟩
   ·intro e he;rw[List.mem_singleton.1 he];exact az (Nat.zero_le _) _ (by simp)
 capsOk:=by simp[below]
theorem qY{α β:Type}(f:α→β):∀(l:List α) (u:Unit),aS (fun(st:Unit) x=>(f x,st)) u l=(l.map f,u)
 |[],u=>rfl
 |x::r,u=>by rw[aS,qY f r];rfl
theorem ue(ch:List Scp):∀l:List Ex,lH ch l=l.map (irE ch)
 |[]=>rfl
 |e::r=>by rw[lH,ue ch r];rfl
theorem HU{b0:AO}(hb:okO 0 b0)(n:Nat)(ch:List GS)(hs:lq ch)(hm:Sml (sco ch)):∀(N:Nat) (e:Ex),e.sz≤N→e.sz≤1073741824→
 AC Tryz.prog G cH [.ptr 1 1 0 0,.agg (e.cs.map .p),upV ch] (RH b0 n ch) fun x h=>x= .ret (.agg ((irE (sco ch) e).cs.map .p))∧h=RH b0 n ch:=by
 intro N
 induction N with
 |zero=>intro e he;have:=e.sz_eq;omega
 |succ N ih=>
  intro e he hz
  have hec:=e.cs_eq
  have hsz:=e.sz_eq
  have hkl:=bi e.kids
  have hre:(irE (sco ch) e).cs=[.int .i64 e.op,.int .i64 e.n,.str (if e.op=2 then irN (sco ch) e.name else e.name),exL (e.kids.map (irE (sco ch)))]:=by
   obtain⟨o,m,s,ks⟩:=e;rw[irE,Ex.cs_eq,←ue];rfl
  have hlen:(RH b0 n ch).length=2+scL ch:=jN b0 n ch
  have hcl:AC Tryz.prog G cH [.ptr 1 1 0 0,.agg (e.cs.map .p),upV ch] (RH b0 n ch) fun x h=>x= .ret (.agg ((irE (sco ch) e).cs.map .p))∧∃l,h=RH b0 n ch++l:=by
   refine AC.goK pa pg ?_
   have hup:=BH ch
   have hfind:=Bs G b0 n ch [.row 1 [[.ptr 1 1 0 0]],.row 4 [[.p (.int .i64 e.op),.p (.int .i64 e.n),.p (.str e.name),.p (exL e.kids)]],.row 1 [[upV ch]],.row 4 [[.p (.int .i64 0),.p (.int .i64 0),.p (.str []),.nils]]] e.name
   have hmp:∀nm:List UInt8,AC Tryz.prog G aL [.p (exL e.kids),.fn (.func bZ) [.ptr (2+scL ch) 1 0 0,.ptr (2+scL ch+2) 1 0 0]] (RH b0 n ch++[.row 1 [[.ptr 1 1 0 0]],.row 4 [[.p (.int .i64 e.op),.p (.int .i64 e.n),.p (.str nm),.p (exL e.kids)]],.row 1 [[upV ch]],.row 4 [[.p (.int .i64 0),.p (.int .i64 0),.p (.str []),.nils]]])
    fun x h=>x= .ret (.p (exL (e.kids.map (irE (sco ch)))))∧h=RH b0 n ch++[.row 1 [[.ptr 1 1 0 0]],.row 4 [[.p (.int .i64 e.op),.p (.int .i64 e.n),.p (.str nm),.p (exL e.kids)]],.row 1 [[upV ch]],.row 4 [[.p (.int .i64 0),.p (.int .i64 0),.p (.str []),.nils]]]:=by
    intro nm
    have hI:RH b0 n ch++[.row 1 [[.ptr 1 1 0 0]],.row 4 [[.p (.int .i64 e.op),.p (.int .i64 e.n),.p (.str nm),.p (exL e.kids)]],.row 1 [[upV ch]],.row 4 [[.p (.int .i64 0),.p (.int .i64 0),.p (.str []),.nils]]]=(FH hb n ch [.int .i64 e.op,.int .i64 e.n,.str nm,exL e.kids] hs).I ():=rfl
    have hm2:=wS G (FH hb n ch [.int .i64 e.op,.int .i64 e.n,.str nm,exL e.kids] hs) (fun st x=>(irE (sco ch) x,st)) (fun _ _=>True) e.kids (by omega) (by show 0<2+scL ch+4;omega) (fun i st hi _=>⟨trivial,?_⟩) () trivial
    ·rw[qY] at hm2
     exact hm2
    have hks:=bj (List.getElem_mem hi)
    have hx:=ih e.kids[i] (by omega) (by omega)
    generalize e.kids[i]=x at hx
    have hxc:=x.cs_eq
    have hyc:=(irE (sco ch) x).cs_eq
    refine(FH hb n ch _ hs).trim G (AC.go mO ?_) (by simp[below])
    rw[←hI]
    have hx2:=Eu G hb hx hs rfl [.row 1 [[.ptr 1 1 0 0]],.row 4 [[.p (.int .i64 e.op),.p (.int .i64 e.n),.p (.str nm),.p (exL e.kids)]],.row 1 [[upV ch]],.row 4 [[.p (.int .i64 0),.p (.int .i64 0),.p (.str []),.nils]],.row 4 [[.p (.int .i64 x.op),.p (.int .i64 x.n),.p (.str x.name),.p (exL x.kids)]],.row 4 [[.p (.int .i64 0),.p (.int .i64 0),.p (.str []),.nils]]] ⟨by simp only[below];omega,by simp,dS ch (Nat.le_refl _),trivial⟩
    have hcaps:(FH hb n ch [.int .i64 e.op,.int .i64 e.n,.str nm,exL e.kids] hs).caps=[.ptr (2+scL ch) 1 0 0,.ptr (2+scL ch+2) 1 0 0]:=rfl
    rw[hxc] at hx2
    rw[hcaps]
    simp-implicitDefEqProofs[ir,hxc,hlen]
    refine hx2.mono ?_
    rintro r h ⟨rfl,rfl⟩
    rw[hyc]
    simp-implicitDefEqProofs[aa,hlen,FH,rBx]
   rw[hec]
   have hub:below (2+scL ch) (upV ch):=dS ch (Nat.le_refl _)
   generalize upV ch=u at hup hub hfind hmp⊢
   have hmp:=hmp (if e.op=2 then irN (sco ch) e.name else e.name)
   have hD:=hm.getD e.name
   have hirn:irN (sco ch) e.name=vnm ((eS (sco ch) e.name).getD 0):=rfl
   rw[hre]
   clear hre ih
   have hsame:∀(op:Int) (nm:List UInt8) (r1:List (Nat × AV)),Aw.look r1 3= .ptr (2+scL ch) 1 0 0→Aw.look r1 4= .ptr (2+scL ch+1) 4 0 0→Aw.look r1 5= .ptr (2+scL ch+2) 1 0 0→Aw.look r1 6= .ptr (2+scL ch+3) 4 0 0→
    Wk (2+scL ch) (al 29 r1) (RH b0 n ch++[.row 1 [[.ptr 1 1 0 0]],.row 4 [[.p (.int .i64 op),.p (.int .i64 e.n),.p (.str nm),.p (exL e.kids)]],.row 1 [[u]],.row 4 [[.p (.int .i64 0),.p (.int .i64 0),.p (.str []),.nils]]])
     (al 29 [(3,.ptr (2+scL ch) 1 0 0),(4,.ptr (2+scL ch+1) 4 0 0),(5,.ptr (2+scL ch+2) 1 0 0),(6,.ptr (2+scL ch+3) 4 0 0)]) (RH b0 n ch++[.row 1 [[.ptr 1 1 0 0]],.row 4 [[.p (.int .i64 op),.p (.int .i64 e.n),.p (.str nm),.p (exL e.kids)]],.row 1 [[u]],.row 4 [[.p (.int .i64 0),.p (.int .i64 0),.p (.str []),.nils]]]):=by
    intro op nm r1 e3 e4 e5 e6
    refine ov (r:=[_,_,_,_]) (s:=[]) hlen (Nat.le_add_right _ _) (su hb hs (Nat.le_refl _)) ?_ (by simp[below,e3,e4,e5,e6])
    refine ae (by intro x hx;rw[List.mem_singleton.1 hx];exact⟨by simp only[below];omega,trivial⟩) (ae (bU (by simp[okO])) (ae (by intro x hx;rw[List.mem_singleton.1 hx];exact⟨(az (Nat.le_add_right _ _) [u] ⟨hub,trivial⟩).1,trivial⟩) (ae (bU (by simp[okO])) dv)))
   rcases hup with rfl|⟨i,rfl⟩
   ·simp-implicitDefEqProofs[K_impl_renamer_expr,F_impl_renamer_expr,hlen]
    refine lg (al 29 [(3,.ptr (2+scL ch) 1 0 0),(4,.ptr (2+scL ch+1) 4 0 0),(5,.ptr (2+scL ch+2) 1 0 0),(6,.ptr (2+scL ch+3) 4 0 0)]) (RH b0 n ch++[.row 1 [[.ptr 1 1 0 0]],.row 4 [[.p (.int .i64 e.op),.p (.int .i64 e.n),.p (.str (if e.op=2 then irN (sco ch) e.name else e.name)),.p (exL e.kids)]],.row 1 [[.nilp]],.row 4 [[.p (.int .i64 0),.p (.int .i64 0),.p (.str []),.nils]]]) ?_ ?_
    ·by_cases o2:e.op=2
     ·rw[o2] at hfind
      simp-implicitDefEqProofs[o2,hlen]
      refine hfind.mono ?_
      rintro r h ⟨rfl,rfl⟩
      simp-implicitDefEqProofs[aa,hlen]
      refine(xB G _ hD _ _).mono ?_
      rintro r h ⟨rfl,rfl⟩
      rw[hirn]
      simp-implicitDefEqProofs[aa,hlen]
      exact hsame 2 _ _ (by simp) (by simp) (by simp) (by simp)
     ·simp-implicitDefEqProofs[o2,hlen]
      exact hsame e.op _ _ (by simp) (by simp) (by simp) (by simp)
    ·simp-implicitDefEqProofs[hlen]
     refine hmp.mono ?_
     rintro r h ⟨rfl,rfl⟩
     simp-implicitDefEqProofs[aa,hlen]
   ·simp-implicitDefEqProofs[K_impl_renamer_expr,F_impl_renamer_expr,hlen]
    refine lg (al 29 [(3,.ptr (2+scL ch) 1 0 0),(4,.ptr (2+scL ch+1) 4 0 0),(5,.ptr (2+scL ch+2) 1 0 0),(6,.ptr (2+scL ch+3) 4 0 0)]) (RH b0 n ch++[.row 1 [[.ptr 1 1 0 0]],.row 4 [[.p (.int .i64 e.op),.p (.int .i64 e.n),.p (.str (if e.op=2 then irN (sco ch) e.name else e.name)),.p (exL e.kids)]],.row 1 [[.ptr i 2 0 0]],.row 4 [[.p (.int .i64 0),.p (.int .i64 0),.p (.str []),.nils]]]) ?_ ?_
    ·by_cases o2:e.op=2
     ·rw[o2] at hfind
      simp-implicitDefEqProofs[o2,hlen]
      refine hfind.mono ?_
      rintro r h ⟨rfl,rfl⟩
      simp-implicitDefEqProofs[aa,hlen]
      refine(xB G _ hD _ _).mono ?_
      rintro r h ⟨rfl,rfl⟩
      rw[hirn]
      simp-implicitDefEqProofs[aa,hlen]
      exact hsame 2 _ _ (by simp) (by simp) (by simp) (by simp)
     ·simp-implicitDefEqProofs[o2,hlen]
      exact hsame e.op _ _ (by simp) (by simp) (by simp) (by simp)
    ·simp-implicitDefEqProofs[hlen]
     refine hmp.mono ?_
     rintro r h ⟨rfl,rfl⟩
     simp-implicitDefEqProofs[aa,hlen]
  exact Bq G hcl rfl (by rw[hlen];exact su hb hs (Nat.le_refl _)) (by simp[below])
end Go.Proofs.YtnjbhgpbgmpkcaaGreatDoor
namespace Go.Proofs.YtnjbhgpbgmpkcaaGreatDoor
open Go Go.Aw
set_option maxRecDepth 100000
set_option maxHeartbeats 4000000
def K_impl_renamer_block_1:AK:= .seq (.reg [oJ 3 (.box 5 (.t 0)),oJ 4 (.alloc [(.p (.int .i64 0)),(.p (.str [])),.nils,.nils,.nils])]) (.seq (.reg [oF 7 2 3,oL 8 7,oJ 9 (.mkf (.func bF) [(.t 1),(.t 2)]),oJ 10 (.call aL [(.t 8),(.t 9)]),oF 11 2 3,oS 11 10]) (.cut (.seq (.reg [oF 12 0 3,oL 13 12]) (.blk 0 (.seq (.reg [oJ 15 (.bin .eql (.t 13) (.c (.p (.int .i64 1)))),oM 14 15]) (.cond (.t 14) (.reg [oL 16 1,oL 17 2,oF 18 1 3,oL 19 18,oJ 20 (.call cI [(.t 16),(.t 17),(.t 19)]),oF 21 1 3,oS 21 20]) (.seq (.reg [oJ 23 (.bin .eql (.t 13) (.c (.p (.int .i64 2)))),oM 22 23]) (.cond (.t 22) (.seq (.reg [oL 25 2,oF 26 1 3,oL 27 26,oJ 28 (.call aP [(.t 25),(.t 27)]),oM 24 28,oJ 29 (.ext 0 (.t 24)),oJ 30 (.ext 1 (.t 24)),oM 5 29,oM 6 30]) (.reg [oL 31 1,oM 32 5,oJ 33 (.call bB [(.t 31),(.t 32)]),oF 34 1 3,oS 34 33])) (.skip))))))) (.seq (.reg [oF 36 3 3,oL 35 1,oL 37 36,oL 38 2,oJ 39 (.call aK [(.t 38)]),⟨none,none,.chk none 1 35⟩,⟨none,none,.chk none 36 37⟩,oJ 40 (.call bh [(.t 35),(.t 37),(.t 39)]),oF 41 3 3,oS 41 40]) (.seq (.reg [oF 43 4 3,oL 42 1,oL 44 43,oL 45 2,oJ 46 (.call aK [(.t 45)]),⟨none,none,.chk none 1 42⟩,⟨none,none,.chk none 43 44⟩,oJ 47 (.call bh [(.t 42),(.t 44),(.t 46)]),oF 48 4 3,oS 48 47]) (.seq (.reg [oJ 49 (.ld (some 5) (.t 3)),⟨none,none,.st 5 (.t 4) (.t 49)⟩]) (.ret))))))
theorem mB:K_impl_renamer_block_1.whole=F_impl_renamer_block_1.ak:=rfl
def irG(up:List Scp)(st:Scp × Nat)(s:Sm):Sm × (Scp × Nat):=((irS s st.1 up st.2).1,((irS s st.1 up st.2).2.1,(irS s st.1 up st.2).2.2))
theorem Bv(up:List Scp):∀(l:List Sm) (m:Scp) (n:Nat),aS (irG up) (m,n) l=((dY l m up n).1,((dY l m up n).2.1,(dY l m up n).2.2))
 |[],m,n=>rfl
 |s::r,m,n=>by
  rw[aS,dY]
  have:=Bv up r (irS s m up n).2.1 (irS s m up n).2.2
  simp only[irG] at this⊢
  rw[this]
theorem Bo:∀(s:Sm) (m:Scp) (up:List Scp) (n:Nat),(irS s m up n).2.2=n+jf s∧(irS s m up n).2.1=opS s.op s.name m n:=by
 have key:∀N:Nat,(∀s:Sm,s.sz<N→∀m up n,(irS s m up n).2.2=n+jf s∧(irS s m up n).2.1=opS s.op s.name m n)∧∀l:List Sm,am l<N→∀m up n,(dY l m up n).2.2=n+bS l:=by
  intro N
  induction N with
  |zero=>exact⟨fun s h=>by omega,fun l h=>by omega⟩
  |succ N ih=>
   have di:∀s:Sm,s.sz<N+1→∀m up n,(irS s m up n).2.2=n+jf s∧(irS s m up n).2.1=opS s.op s.name m n:=by
    intro s hs m up n
    obtain⟨o,nme,a,bd,el⟩:=s
    rw[Sm.sz] at hs
    rw[irS,jf]
    simp only
    refine⟨?_,rfl⟩
    rw[ih.2 el (by omega),ih.2 bd (by omega)]
    split<;>omega
   refine⟨di,fun l hl m up n=>?_⟩
   induction l generalizing m n with
   |nil=>rfl
   |cons s r ihl=>
    rw[am] at hl
    rw[dY,bS]
    simp only
    rw[ihl (by omega),(di s (by omega) m up n).1]
    omega
 exact fun s=>(key (s.sz+1)).1 s (by omega)
theorem DU{l:List Sm}{i:Nat}(h:i<l.length):bS (l.drop i)=jf l[i]+bS (l.drop (i+1)):=by
 rw[List.drop_eq_getElem_cons h,bS]
def sBx(ch:List GS):List AO:=[.row 1 [[.ptr 1 1 0 0]],.row 1 [[upV ch]]]
theorem Ev(ch:List GS){n:Nat}(h:2+scL ch≤n):∀o∈sBx ch,okO n o:=by
 intro o ho
 simp only[sBx,List.mem_cons,List.not_mem_nil,or_false] at ho
 rcases ho with rfl|rfl
 ·intro e he;rw[List.mem_singleton.1 he];exact⟨by simp only[below];omega,trivial⟩
 ·intro e he;rw[List.mem_singleton.1 he];exact⟨dS ch h,trivial⟩
theorem qM(gap:List AO)(m:Scp)(up:List GS):scL (⟨gap,m⟩::up)=scL up+gap.length+2:=rfl
def wm{b0:AO}(hb:okO 0 b0)(gap:List AO)(up:List GS)(hs:∀m,lq (⟨gap,m⟩::up)):Vis (Scp × Nat) where
 I:=fun st=>RH b0 st.2 (⟨gap,st.1⟩::up)++sBx (⟨gap,[]⟩::up)
 n:=2+(scL up+gap.length+2)+2
 F:=bQ
 caps:=[.ptr (2+(scL up+gap.length+2)) 1 0 0,.ptr (2+(scL up+gap.length+2)+1) 1 0 0]
 len:=fun st=>by rw[List.length_append,jN b0];rfl
 ok:=fun st o ho=>by
  rcases List.mem_append.1 ho with h|h
  ·exact su hb (hs _) (by rw[qM];omega) o h
  ·exact Ev (⟨gap,[]⟩::up) (by rw[qM];omega) o h
 capsOk:=by simp[below]
def yx{b0:AO}(hb:okO 0 b0)(n:Nat)(ch:List GS)(x:List PV)(hs:lq ch):Vis Unit where
 I:=fun _=>RH b0 n ch++(sBx ch++[.row 5 [x.map .p],.row 5 [[.p (.int .i64 0),.p (.str []),.nils,.nils,.nils]]])
 n:=2+scL ch+4
 F:=bF
 caps:=[.ptr (2+scL ch) 1 0 0,.ptr (2+scL ch+1) 1 0 0]
 len:=fun _=>by rw[List.length_append,jN b0];rfl
 ok:=fun _ o ho=>by
  rcases List.mem_append.1 ho with h|h
  ·exact su hb hs (by omega) o h
  ·rcases List.mem_append.1 h with h|h
   ·exact Ev ch (by omega) o h
   ·simp only[List.mem_cons,List.not_mem_nil,or_false] at h
    rcases h with rfl|rfl
    ·intro e he;rw[List.mem_singleton.1 he];exact az (Nat.zero_le _) _ (by simp)
    ·intro e he;rw[List.mem_singleton.1 he];exact az (Nat.zero_le _) _ (by simp)
 capsOk:=by simp[below]
variable (G:aC)
theorem Iy{b0:AO}(hb:okO 0 b0)(n:Nat)(gap:List AO)(m:Scp)(up:List GS)(hs:lq (⟨gap,m⟩::up))(hm:Sml (m::sco up))(x:List PV)(hx5:x.length=5)(a:List Ex)(hz:aY a≤1073741824):
 AC Tryz.prog G aL [.p (exL a),.fn (.func bF) [.ptr (2+scL (⟨gap,m⟩::up)) 1 0 0,.ptr (2+scL (⟨gap,m⟩::up)+1) 1 0 0]] ((yx hb n (⟨gap,m⟩::up) x hs).I ()) fun y h=>y= .ret (.p (exL (lH (m::sco up) a)))∧h=(yx hb n (⟨gap,m⟩::up) x hs).I ():=by
 have hal:=bi a
 have hm2:=wS G (yx hb n (⟨gap,m⟩::up) x hs) (fun st x=>(irE (m::sco up) x,st)) (fun _ _=>True) a (by omega) (by show 0<2+scL (⟨gap,m⟩::up)+4;omega) (fun i st hi _=>⟨trivial,?_⟩) () trivial
 ·rw[qY] at hm2
  rw[ue]
  exact hm2
 have hks:=bj (List.getElem_mem hi)
 have hx:=HU G hb n (⟨gap,m⟩::up) hs hm a[i].sz a[i] (Nat.le_refl _) (by omega)
 rw[show sco (⟨gap,m⟩::up)=m::sco up from rfl] at hx
 generalize a[i]=e at hx
 have hxc:=e.cs_eq
 have hyc:=(irE (m::sco up) e).cs_eq
 have hup:upV (⟨gap,m⟩::up)= .ptr (2+scL up+gap.length+1) 2 0 0:=rfl
 generalize hch:(GS.mk gap m::up)=ch at*
 have hlen:=jN b0 n ch
 refine(yx hb n ch x hs).trim G (AC.go kX ?_) (by simp[below])
 have hI:(yx hb n ch x hs).I ()=RH b0 n ch++[.row 1 [[.ptr 1 1 0 0]],.row 1 [[.ptr (2+scL up+gap.length+1) 2 0 0]],.row 5 [x.map .p],.row 5 [[.p (.int .i64 0),.p (.str []),.nils,.nils,.nils]]]:=by
  simp only[yx,sBx,hup];rfl
 have hx2:=Eu G hb hx hs rfl [.row 1 [[.ptr 1 1 0 0]],.row 1 [[.ptr (2+scL up+gap.length+1) 2 0 0]],.row 5 [x.map .p],.row 5 [[.p (.int .i64 0),.p (.str []),.nils,.nils,.nils]],.row 4 [[.p (.int .i64 e.op),.p (.int .i64 e.n),.p (.str e.name),.p (exL e.kids)]],.row 4 [[.p (.int .i64 0),.p (.int .i64 0),.p (.str []),.nils]]] ⟨by simp only[below];omega,by simp,dS ch (Nat.le_refl _),trivial⟩
 have hcaps:(yx hb n ch x hs).caps=[.ptr (2+scL ch) 1 0 0,.ptr (2+scL ch+1) 1 0 0]:=rfl
 rw[hxc,hup] at hx2
 rw[hcaps,hI]
 simp-implicitDefEqProofs[fT,hxc,hlen]
 refine hx2.mono ?_
 rintro r h ⟨rfl,rfl⟩
 rw[hyc]
 simp-implicitDefEqProofs[aa,hlen]
end Go.Proofs.YtnjbhgpbgmpkcaaGreatDoor
namespace Go.Proofs.YtnjbhgpbgmpkcaaGreatDoor
open Go Go.Aw
set_option maxRecDepth 100000
set_option maxHeartbeats 4000000
variable (G:aC)
theorem FA(o:Int)(s:List UInt8)(a:List Ex)(bd el:List Sm)(m:Scp)(up:List Scp)(n:Nat):
 (irS ⟨o,s,a,bd,el⟩ m up n).1=⟨o,if o=1 then vnm n else if o=2 then irN (m::up) s else s,lH (m::up) a,(dY bd [] (opS o s m n::up) (if o=1 then n+1 else n)).1,(dY el [] (opS o s m n::up) (dY bd [] (opS o s m n::up) (if o=1 then n+1 else n)).2.2).1⟩:=rfl
theorem yW:∀(l:List Sm) (m:Scp) (up:List Scp) (n:Nat),(dY l m up n).2.2=n+bS l
 |[],m,up,n=>rfl
 |s::r,m,up,n=>by
  rw[dY,bS]
  simp only
  rw[yW r,(Bo s m up n).1]
  omega
def GV(b0:AO)(l:List Sm):Prop:=∀(gap:List AO) (m:Scp) (up:List GS) (n:Nat),(∀m,lq (⟨gap,m⟩::up))→Sml (m::sco up)→n+bS l≤26→
 AC Tryz.prog G bh [.ptr 1 1 0 0,.p (smL l),.ptr (2+scL up+gap.length+1) 2 0 0] (RH b0 n (⟨gap,m⟩::up)) fun x h=>x= .ret (.p (smL (dY l m (sco up) n).1))∧h=RH b0 (dY l m (sco up) n).2.2 (⟨gap,(dY l m (sco up) n).2.1⟩::up)
theorem JU{b0:AO}(hb:okO 0 b0){o:Int}{nme:List UInt8}{a:List Ex}{bd el:List Sm}(hz:aY a≤1073741824)(ib:GV G b0 bd)(ie:GV G b0 el)(gap:List AO)(m:Scp)(up:List GS)(n:Nat)(hs:∀m,lq (⟨gap,m⟩::up))(hm:Sml (m::sco up))(hc:n+jf ⟨o,nme,a,bd,el⟩≤26):
 AC Tryz.prog G bQ (.agg ((Sm.mk o nme a bd el).cs.map .p)::(wm hb gap up hs).caps) ((wm hb gap up hs).I (m,n)) fun x h=>x= .ret (.agg ((irG (sco up) (m,n) ⟨o,nme,a,bd,el⟩).1.cs.map .p))∧h=(wm hb gap up hs).I (irG (sco up) (m,n) ⟨o,nme,a,bd,el⟩).2:=by
 refine(wm hb gap up hs).trim G (AC.goK mo mB ?_) (by simp[below])
 have hse:(Sm.mk o nme a bd el).cs=[.int .i64 o,.str nme,exL a,smL bd,smL el]:=Sm.cs_eq _
 have hcaps:(wm hb gap up hs).caps=[.ptr (2+(scL up+gap.length+2)) 1 0 0,.ptr (2+(scL up+gap.length+2)+1) 1 0 0]:=rfl
 have hI:∀n m,(wm hb gap up hs).I (m,n)=RH b0 n (⟨gap,m⟩::up)++[.row 1 [[.ptr 1 1 0 0]],.row 1 [[.ptr (2+scL up+gap.length+1) 2 0 0]]]:=fun _ _=>rfl
 have hA:=Iy G hb n gap m up (hs m) hm [.int .i64 o,.str nme,exL a,smL bd,smL el] rfl a hz
 have hIA:(yx hb n (⟨gap,m⟩::up) [.int .i64 o,.str nme,exL a,smL bd,smL el] (hs m)).I ()=RH b0 n (⟨gap,m⟩::up)++[.row 1 [[.ptr 1 1 0 0]],.row 1 [[.ptr (2+scL up+gap.length+1) 2 0 0]],.row 5 [[.p (.int .i64 o),.p (.str nme),.p (exL a),.p (smL bd),.p (smL el)]],.row 5 [[.p (.int .i64 0),.p (.str []),.nils,.nils,.nils]]]:=rfl
 rw[hIA,qM] at hA
 have hlen:∀n m,(RH b0 n (⟨gap,m⟩::up)).length=2+(scL up+gap.length+2):=fun n m=>by rw[jN b0];rfl
 have hgS:(irG (sco up) (m,n) ⟨o,nme,a,bd,el⟩).2=(opS o nme m n,(dY el [] (opS o nme m n::sco up) (dY bd [] (opS o nme m n::sco up) (if o=1 then n+1 else n)).2.2).2.2):=rfl
 have hg1:(irG (sco up) (m,n) ⟨o,nme,a,bd,el⟩).1.cs=[.int .i64 o,.str (if o=1 then vnm n else if o=2 then irN (m::sco up) nme else nme),exL (lH (m::sco up) a),smL (dY bd [] (opS o nme m n::sco up) (if o=1 then n+1 else n)).1,smL (dY el [] (opS o nme m n::sco up) (dY bd [] (opS o nme m n::sco up) (if o=1 then n+1 else n)).2.2).1]:=by
  show(irS ⟨o,nme,a,bd,el⟩ m (sco up) n).1.cs=_
  rw[FA,Sm.cs_eq];rfl
 rw[hgS,hg1,hcaps,hI,hI,hse]
 have hfind:=fun rest=>Bs G b0 n (⟨gap,m⟩::up) rest nme
 have hbind:=fun(hn:n<26) rest=>Gk G b0 gap m up nme n hn rest
 have hup:∀m,upV (⟨gap,m⟩::up)= .ptr (2+scL up+gap.length+1) 2 0 0:=fun _=>rfl
 simp only[hup] at hfind hbind
 have hblk:∀(l':List Sm) (hl:GV G b0 l') (n2:Nat) (m2:Scp) (gap2:List AO),Sml (m2::sco up)→n2+bS l'≤26→(∀o∈gap2,okO (2+(scL up+gap.length+2)+gap2.length) o)→
  AC Tryz.prog G bh [.ptr 1 1 0 0,.p (smL l'),.ptr (2+(scL up+gap.length+2)+gap2.length+1) 2 0 0] (RH b0 n2 (⟨gap,m2⟩::up)++(gap2++[.mp [],.row 2 [[.mp (2+(scL up+gap.length+2)+gap2.length),.ptr (2+scL up+gap.length+1) 2 0 0]]]))
   fun x h=>x= .ret (.p (smL (dY l' [] (m2::sco up) n2).1))∧∃m',h=RH b0 (dY l' [] (m2::sco up) n2).2.2 (⟨gap,m2⟩::up)++(gap2++[.mp (mpE m'),.row 2 [[.mp (2+(scL up+gap.length+2)+gap2.length),.ptr (2+scL up+gap.length+1) 2 0 0]]]):=by
  intro l' hl n2 m2 gap2 h1 h2 h3
  have e2:∀n m',RH b0 n (⟨gap2,m'⟩::⟨gap,m2⟩::up)=RH b0 n (⟨gap,m2⟩::up)++(gap2++[.mp (mpE m'),.row 2 [[.mp (2+(scL up+gap.length+2)+gap2.length),.ptr (2+scL up+gap.length+1) 2 0 0]]]):=by
   intro n m'
   simp[RH,scH,upV,scL]
  have:=hl gap2 [] (⟨gap,m2⟩::up) n2 (fun _=>⟨h3,hs m2⟩) h1.open h2
  rw[e2] at this
  refine this.mono ?_
  rintro x h ⟨hx,hh⟩
  exact⟨hx,(dY l' [] (sco (⟨gap,m2⟩::up)) n2).2.1,by rw[hh,e2];rfl⟩
 have hmO:Sml (opS o nme m n::sco up):=hm.opS o nme (fun h1=>by rw[jf,if_pos h1] at hc;omega)
 have hcb:(if o=1 then n+1 else n)+bS bd+bS el≤26:=by
  rw[jf] at hc
  split<;>rename_i h1
  ·rw[if_pos h1] at hc;omega
  ·rw[if_neg h1] at hc;omega
 have hn26:o=1→n<26:=fun h1=>by rw[jf,if_pos h1] at hc;omega
 generalize hK:2+scL up+gap.length=K at*
 have hKL:2+(scL up+gap.length+2)=K+2:=by omega
 rw[hKL] at hA hlen hblk⊢
 simp-implicitDefEqProofs[K_impl_renamer_block_1,F_impl_renamer_block_1,hlen]
 refine hA.mono ?_
 rintro r h ⟨rfl,rfl⟩
 simp-implicitDefEqProofs[aa,hlen]
 generalize hmO':opS o nme m n=m2 at hmO hfind⊢
 have hsame:∀(nm:List UInt8) (n2:Nat) (r1:List (Nat × AV)),Aw.look r1 1= .ptr (K+2) 1 0 0→Aw.look r1 2= .ptr (K+2+1) 1 0 0→Aw.look r1 3= .ptr (K+2+2) 5 0 0→Aw.look r1 4= .ptr (K+2+3) 5 0 0→
  Wk (K+2+2) (al 50 r1) (RH b0 n2 (⟨gap,m2⟩::up)++[.row 1 [[.ptr 1 1 0 0]],.row 1 [[.ptr (K+1) 2 0 0]],.row 5 [[.p (.int .i64 o),.p (.str nm),.p (exL (lH (m::sco up) a)),.p (smL bd),.p (smL el)]],.row 5 [[.p (.int .i64 0),.p (.str []),.nils,.nils,.nils]]])
   (al 50 [(1,.ptr (K+2) 1 0 0),(2,.ptr (K+2+1) 1 0 0),(3,.ptr (K+2+2) 5 0 0),(4,.ptr (K+2+3) 5 0 0)]) (RH b0 n2 (⟨gap,m2⟩::up)++[.row 1 [[.ptr 1 1 0 0]],.row 1 [[.ptr (K+1) 2 0 0]],.row 5 [[.p (.int .i64 o),.p (.str nm),.p (exL (lH (m::sco up) a)),.p (smL bd),.p (smL el)]],.row 5 [[.p (.int .i64 0),.p (.str []),.nils,.nils,.nils]]]):=by
  intro nm n2 r1 e1 e2 e3 e4
  refine ov (r:=[_,_,_,_]) (s:=[]) (hlen n2 m2) (Nat.add_le_add_left (by simp) _) (su hb (hs m2) (by rw[qM];omega)) ?_ (by simp[below,e1,e2,e3,e4])
  refine ae (by intro x hx;rw[List.mem_singleton.1 hx];exact⟨by simp only[below];omega,trivial⟩) (ae (by intro x hx;rw[List.mem_singleton.1 hx];exact⟨by simp only[below];omega,trivial⟩) (ae (bU (by simp[okO])) (ae (bU (by simp[okO])) dv)))
 refine lg (al 50 [(1,.ptr (K+2) 1 0 0),(2,.ptr (K+2+1) 1 0 0),(3,.ptr (K+2+2) 5 0 0),(4,.ptr (K+2+3) 5 0 0)]) (RH b0 (if o=1 then n+1 else n) (⟨gap,m2⟩::up)++[.row 1 [[.ptr 1 1 0 0]],.row 1 [[.ptr (K+1) 2 0 0]],.row 5 [[.p (.int .i64 o),.p (.str (if o=1 then vnm n else if o=2 then irN (m::sco up) nme else nme)),.p (exL (lH (m::sco up) a)),.p (smL bd),.p (smL el)]],.row 5 [[.p (.int .i64 0),.p (.str []),.nils,.nils,.nils]]]) ?_ ?_
 ·by_cases o1:o=1
  ·subst o1
   have e:m2=fm m nme n:=by rw[←hmO'];exact if_pos rfl
   subst e
   simp-implicitDefEqProofs[hlen]
   refine(hbind (hn26 rfl) _).mono ?_
   rintro r h ⟨rfl,rfl⟩
   simp-implicitDefEqProofs[aa,hlen]
   exact hsame _ _ _ (by simp) (by simp) (by simp) (by simp)
  have e:m2=m:=by rw[←hmO'];exact if_neg o1
  subst e
  by_cases o2:o=2
  ·subst o2
   have hD:=hm.getD nme
   have hirn:irN (m2::sco up) nme=vnm ((eS (m2::sco up) nme).getD 0):=rfl
   rw[hirn]
   simp-implicitDefEqProofs[hlen]
   refine(hfind _).mono ?_
   rintro r h ⟨rfl,rfl⟩
   simp-implicitDefEqProofs[aa,hlen]
   refine(xB G _ hD _ _).mono ?_
   rintro r h ⟨rfl,rfl⟩
   simp-implicitDefEqProofs[aa,hlen]
   exact hsame _ _ _ (by simp) (by simp) (by simp) (by simp)
  ·simp-implicitDefEqProofs[o1,o2,hlen]
   exact hsame _ _ _ (by simp) (by simp) (by simp) (by simp)
 generalize (if o=1 then vnm n else if o=2 then irN (m::sco up) nme else nme)=nm at*
 generalize (if o=1 then n+1 else n)=n2 at*
 have hb2:=yW bd [] (m2::sco up) n2
 simp-implicitDefEqProofs[hlen]
 refine(nD G (.ptr (K+1) 2 0 0) (.inr ⟨_,rfl⟩) _).mono ?_
 rintro r h ⟨rfl,rfl⟩
 simp-implicitDefEqProofs[aa,hlen]
 have okg:∀(b' e':AV),below 0 b'→below 0 e'→∀x∈[AO.row 1 [[.ptr 1 1 0 0]],.row 1 [[.ptr (K+1) 2 0 0]],.row 5 [[.p (.int .i64 o),.p (.str nm),.p (exL (lH (m::sco up) a)),b',e']],.row 5 [[.p (.int .i64 0),.p (.str []),.nils,.nils,.nils]]],okO (K+2) x:=by
  intro b' e' hb' he'
  refine ae (by intro x hx;rw[List.mem_singleton.1 hx];exact⟨by simp only[below];omega,trivial⟩) (ae (by intro x hx;rw[List.mem_singleton.1 hx];exact⟨by simp only[below];omega,trivial⟩) (ae (bU ?_) (ae (bU (by simp[okO])) dv)))
  intro x hx;rw[List.mem_singleton.1 hx];exact⟨by simp,by simp,by simp,hb',he',trivial⟩
 refine(hblk bd ib n2 m2 [.row 1 [[.ptr 1 1 0 0]],.row 1 [[.ptr (K+1) 2 0 0]],.row 5 [[.p (.int .i64 o),.p (.str nm),.p (exL (lH (m::sco up) a)),.p (smL bd),.p (smL el)]],.row 5 [[.p (.int .i64 0),.p (.str []),.nils,.nils,.nils]]] hmO (by omega) (fun x hx=>lJ (by omega) (okg _ _ (by simp) (by simp) x hx))).mono ?_
 rintro r h ⟨rfl,m3,rfl⟩
 simp-implicitDefEqProofs[aa,hlen]
 refine(nD G (.ptr (K+1) 2 0 0) (.inr ⟨_,rfl⟩) _).mono ?_
 rintro r h ⟨rfl,rfl⟩
 simp-implicitDefEqProofs[aa,hlen]
 refine(hblk el ie _ m2 [.row 1 [[.ptr 1 1 0 0]],.row 1 [[.ptr (K+1) 2 0 0]],.row 5 [[.p (.int .i64 o),.p (.str nm),.p (exL (lH (m::sco up) a)),.p (smL (dY bd [] (m2::sco up) n2).1),.p (smL el)]],.row 5 [[.p (.int .i64 0),.p (.str []),.nils,.nils,.nils]],.mp (mpE m3),.row 2 [[.mp (K+2+4),.ptr (K+1) 2 0 0]]] hmO (by omega) ?_).mono ?_
 ·intro x hx
  rcases List.mem_append.1 (show x∈[AO.row 1 [[.ptr 1 1 0 0]],.row 1 [[.ptr (K+1) 2 0 0]],.row 5 [[.p (.int .i64 o),.p (.str nm),.p (exL (lH (m::sco up) a)),.p (smL (dY bd [] (m2::sco up) n2).1),.p (smL el)]],.row 5 [[.p (.int .i64 0),.p (.str []),.nils,.nils,.nils]]]++[.mp (mpE m3),.row 2 [[.mp (K+2+4),.ptr (K+1) 2 0 0]]] from hx) with h|h
  ·exact lJ (by omega) (okg _ _ (by simp) (by simp) x h)
  ·simp only[List.mem_cons,List.not_mem_nil,or_false] at h
   rcases h with rfl|rfl
   ·exact tX _ _
   ·intro e he;rw[List.mem_singleton.1 he]
    exact⟨by simp only[below];simp,by simp only[below];omega,trivial⟩
 rintro r h ⟨rfl,m4,rfl⟩
 simp-implicitDefEqProofs[aa,hlen]
theorem FE{b0:AO}(hb:okO 0 b0):∀(N:Nat) (l:List Sm),am l<N→am l≤1073741824→GV G b0 l:=by
 intro N
 induction N with
 |zero=>intro l h;omega
 |succ N ih=>
  intro l hl hz gap m up n hs hm hc
  have hll:=bA l
  have hup:upV (⟨gap,m⟩::up)= .ptr (2+scL up+gap.length+1) 2 0 0:=rfl
  have hlen:∀n m,(RH b0 n (⟨gap,m⟩::up)).length=2+(scL up+gap.length+2):=fun n m=>by rw[jN b0];rfl
  have hM:=CY G (wm hb gap up hs) (irG (sco up)) (fun i st=>Sml (st.1::sco up)∧st.2+bS (l.drop i)≤26) l (by omega) (by show 0<2+(scL up+gap.length+2)+2;omega) (fun i st hi hv=>?_) (m,n) ⟨hm,by simpa using hc⟩
  ·rw[Bv] at hM
   refine Bq G (AC.go mT ?_) (by rw[hlen,hlen]) (by rw[hlen];exact su hb (hs _) (by rw[qM];omega)) (by simp[below])
   have hcaps:(wm hb gap up hs).caps=[.ptr (2+(scL up+gap.length+2)) 1 0 0,.ptr (2+(scL up+gap.length+2)+1) 1 0 0]:=rfl
   have hF:(wm hb gap up hs).F=bQ:=rfl
   have hI:∀n m,(wm hb gap up hs).I (m,n)=RH b0 n (⟨gap,m⟩::up)++[.row 1 [[.ptr 1 1 0 0]],.row 1 [[.ptr (2+scL up+gap.length+1) 2 0 0]]]:=fun _ _=>rfl
   rw[hcaps,hF,hI,hI] at hM
   simp-implicitDefEqProofs[iU,hlen]
   refine hM.mono ?_
   rintro r h ⟨rfl,rfl⟩
   simp-implicitDefEqProofs[aa,hlen]
  ·obtain⟨h1,h2⟩:=hv
   have hat:=DU hi
   have hks:=bY (List.getElem_mem hi)
   obtain⟨mi,ni⟩:=st
   simp only at h1 h2
   generalize l[i]=s at hat hks
   have hcs:=Bo s mi (sco up) ni
   obtain⟨o,nme,a,bd,el⟩:=s
   rw[Sm.sz] at hks
   refine⟨⟨?_,?_⟩,?_⟩
   ·show Sml ((irS _ mi (sco up) ni).2.1::sco up)
    rw[hcs.2]
    exact h1.opS _ _ (fun ho=>by
     have ho':o=1:=ho
     rw[jf,if_pos ho'] at hat;omega)
   ·show(irS _ mi (sco up) ni).2.2+_≤26
    rw[hcs.1];omega
   ·exact JU G hb (by omega) (ih bd (by omega) (by omega)) (ih el (by omega) (by omega)) gap mi up ni hs h1 (by omega)
end Go.Proofs.YtnjbhgpbgmpkcaaGreatDoor
namespace Go.Proofs.YtnjbhgpbgmpkcaaGreatDoor
open Go Go.Aw
set_option maxRecDepth 100000
set_option maxHeartbeats 4000000
variable (G:aC)
theorem Je{f:FuncId}{args args0:List AV}{b0 o0:AO}{n n':Nat}{m m':Scp}{v:AV}(H:AC Tryz.prog G f args0 (RH b0 n [⟨[],m⟩]) fun x h=>x= .ret v∧h=RH b0 n' [⟨[],m'⟩])(hb:okO 0 b0)(hv:below 0 v)(hT:TW [1,2,3,4] args args0)(rest:List AO):
 AC Tryz.prog G f args (o0::b0::rO n:: .mp (mpE m):: .row 2 [[.mp 3,.nilp]]::rest) fun x h=>x= .ret v∧h=o0::b0::rO n':: .mp (mpE m'):: .row 2 [[.mp 3,.nilp]]::rest:=by
 have hRH:∀n m,RH b0 n [⟨[],m⟩]=[b0,rO n,.mp (mpE m),.row 2 [[.mp 2,.nilp]]]:=fun _ _=>rfl
 rw[hRH,hRH] at H
 have hmp:∀m:Scp,∀σ:List Nat,(mpE m).map (fun x=>(x.1,ren σ x.2))=mpE m:=fun m σ=>by
  rw[mpE,List.map_map];rfl
 have hren:∀σ,ren σ v=v:=fun σ=>by
  have:=dT σ [v] ⟨hv,trivial⟩
  simpa[bp] using this
 have hrb:∀σ,fb σ b0=b0:=fun σ=>oa (n:=0) (fun i hi=>by omega) b0 hb
 have hrr:∀(σ:List Nat) (n:Nat),fb σ (rO n)=rO n:=fun σ n=>by simp[rO,fb,bp,ren]
 have hrm:∀(σ:List Nat) (m:Scp),fb σ (.mp (mpE m))= .mp (mpE m):=fun σ m=>by rw[fb,hmp]
 refine(H.frame [1,2,3,4] (by decide) hT ?_).mono ?_
 ·refine du rfl hb (du rfl (by intro e he;rw[List.mem_singleton.1 he];simp[below]) ?_)
  refine⟨by simp,⟨fun x hx=>by obtain⟨y,_,rfl⟩:=List.mem_map.1 hx;simp[below],?_⟩,cr (es:=[[.mp 2,.nilp]]) (by simp[below]) ?_ cQ⟩
  ·rw[hmp];rfl
  ·simp[ren,bp]
 ·rintro x h' ⟨x0,h0,⟨rfl,rfl⟩,_,rfl,rfl⟩
  refine⟨by rw[uf,hren],?_⟩
  simp only[List.length_cons,List.length_nil,Nat.sub_self,List.range'_zero,List.append_nil,List.take_succ_cons,List.take_zero,List.map_cons,List.map_nil,List.drop_succ_cons,List.drop_zero,hrb,hrr,hrm,mrg]
  simp[fb,bp,ren]
def zF:AO:= .row 3 [[.p (.str []),.nils,.nils]]
def pG(st:Scp × Nat)(s:List UInt8):List UInt8 × (Scp × Nat):=(vnm st.2,(fm st.1 s st.2,st.2+1))
theorem Cr:∀(ps:List (List UInt8)) (m:Scp) (n:Nat),aS pG (m,n) ps=((fg ps m n).1,((fg ps m n).2.1,(fg ps m n).2.2))
 |[],m,n=>rfl
 |s::r,m,n=>by
  rw[aS,fg]
  have:=Cr r (fm m s n) (n+1)
  simp only[pG] at this⊢
  rw[this]
theorem zy:∀(ps:List (List UInt8)) (m:Scp) (n:Nat),(fg ps m n).2.2=n+ps.length
 |[],m,n=>rfl
 |s::r,m,n=>by rw[fg];simp only;rw[zy r];simp only[List.length_cons];omega
theorem yT:∀(ps:List (List UInt8)) (m:Scp) (n:Nat),n+ps.length≤26→Sml [m]→Sml [(fg ps m n).2.1]
 |[],m,n,_,h=>h
 |s::r,m,n,hn,h=>by
  rw[List.length_cons] at hn
  rw[fg]
  exact yT r (fm m s n) (n+1) (by omega) (h.set s (by omega))
theorem Sml.base:Sml [[]]:=fun s n e=>by simp[eS,iK] at e
def CD(f:List AV)(hf:ag 0 f):Vis (Scp × Nat) where
 I:=fun st=>[.row 3 [f],zF,rO st.2,.mp (mpE st.1),.row 2 [[.mp 3,.nilp]],.row 1 [[.ptr 2 1 0 0]],.row 1 [[.ptr 4 2 0 0]]]
 n:=7
 F:=cb
 caps:=[.ptr 5 1 0 0,.ptr 6 1 0 0]
 len:=fun _=>rfl
 ok:=fun st=>ae (by intro e he;rw[List.mem_singleton.1 he];exact az (Nat.zero_le _) _ hf) (ae (bU (by simp[zF,okO,below])) (ae (bU (by simp[rO,okO,below])) (ae (tX _ _) (ae (by simp[okO,below]) (ae (by simp[okO,below]) (ae (by simp[okO,below]) dv))))))
 capsOk:=by simp[below]
theorem HD(f:Fd)(hz:f.sz≤1073741824)(hv:iC f≤26):VF Tryz.prog G bP [.agg (f.cs.map .p)] (.agg ((irF f).cs.map .p)):=by
 have hfc:=f.cs_eq'
 have hfz:f.sz=1+f.name.length+(f.params.length+(f.params.map List.length).sum)+am f.body:=rfl
 have hst:au f.params= .lst 1 (f.params.map fun w=>[.str w]):=rfl
 have hvn:iC f=f.params.length+bS f.body:=rfl
 have hzF:okO 0 zF:=by simp[zF,okO,below]
 have hup:∀m,upV [⟨[],m⟩]= .ptr 3 2 0 0:=fun _=>rfl
 have hps:=JR G (CD [.p (.str f.name),.p (au f.params),.p (smL f.body)] (by simp)) pG (fun i st=>st.2=i∧Sml [st.1]) f.params (by omega) (by show 0<7;omega) (fun i st hi hst=>?_) ([],0) ⟨rfl,Sml.base⟩
 ·rw[Cr] at hps
  have hcnt:=zy f.params [] 0
  have hcaps:(CD [.p (.str f.name),.p (au f.params),.p (smL f.body)] (by simp)).caps=[.ptr 5 1 0 0,.ptr 6 1 0 0]:=rfl
  have hF:(CD [.p (.str f.name),.p (au f.params),.p (smL f.body)] (by simp)).F=cb:=rfl
  have hI:∀m n,(CD [.p (.str f.name),.p (au f.params),.p (smL f.body)] (by simp)).I (m,n)=[.row 3 [[.p (.str f.name),.p (au f.params),.p (smL f.body)]],zF,rO n,.mp (mpE m),.row 2 [[.mp 3,.nilp]],.row 1 [[.ptr 2 1 0 0]],.row 1 [[.ptr 4 2 0 0]]]:=fun _ _=>rfl
  rw[hcaps,hF,hI,hI] at hps
  have hir:(irF f).cs=[.str f.name,au (fg f.params [] 0).1,smL (dY f.body (fg f.params [] 0).2.1 [] (fg f.params [] 0).2.2).1]:=rfl
  refine AC.go mt ?_
  rw[hir]
  have hsml:=yT f.params [] 0 (by omega) Sml.base
  have hbk:=FE G hzF (am f.body+1) f.body (by omega) (by omega) [] (fg f.params [] 0).2.1 [] (fg f.params [] 0).2.2 (fun m=>⟨by simp,trivial⟩) hsml (by omega)
  generalize fg f.params [] 0=ps at hps hcnt hbk⊢
  have hbk2:=fun o0 rest=>Je G (o0:=o0) (args:=[.ptr 2 1 0 0,.p (smL f.body),.ptr 4 2 0 0]) hbk hzF (by simp) (by simp[below,ren,scL]) rest
  have hrO:∀n,rO n= .row 1 [[.p (.int .i64 n)]]:=fun _=>rfl
  have hmpE:mpE []=[]:=rfl
  simp-implicitDefEqProofs[gG,hfc]
  refine(nD G .nilp (.inl rfl) _).mono ?_
  rintro r h ⟨rfl,rfl⟩
  simp-implicitDefEqProofs[aa]
  refine hps.mono ?_
  rintro r h ⟨rfl,rfl⟩
  simp-implicitDefEqProofs[aa]
  refine(hbk2 _ _).mono ?_
  rintro r h ⟨rfl,rfl⟩
  simp-implicitDefEqProofs[aa,zF]
 ·obtain⟨m,n⟩:=st
  obtain⟨e1,e2⟩:=hst
  simp only at e1 e2
  subst e1
  refine⟨⟨rfl,e2.set _ (by omega)⟩,?_⟩
  have hbd:=fun rest=>Je G (o0:= .row 3 [[.p (.str f.name),.p (au f.params),.p (smL f.body)]]) (args:=[.ptr 2 1 0 0,.ptr 4 2 0 0,.p (.str f.params[n])]) (by
   have:=Gk G zF [] m [] f.params[n] n (by omega) []
   rw[List.append_nil,List.append_nil] at this
   exact this) hzF (by simp) (by simp[below,ren,hup]) rest
  refine AC.go ll ?_
  have hcaps:(CD [.p (.str f.name),.p (au f.params),.p (smL f.body)] (by simp)).caps=[.ptr 5 1 0 0,.ptr 6 1 0 0]:=rfl
  have hI:∀m n,(CD [.p (.str f.name),.p (au f.params),.p (smL f.body)] (by simp)).I (m,n)=[.row 3 [[.p (.str f.name),.p (au f.params),.p (smL f.body)]],zF,rO n,.mp (mpE m),.row 2 [[.mp 3,.nilp]],.row 1 [[.ptr 2 1 0 0]],.row 1 [[.ptr 4 2 0 0]]]:=fun _ _=>rfl
  have hpg:∀s,pG (m,n) s=(vnm n,(fm m s n,n+1)):=fun _=>rfl
  rw[hpg,hcaps,hI,hI]
  generalize f.params[n]=s at hbd⊢
  simp-implicitDefEqProofs[fO]
  refine(hbd _).mono ?_
  rintro r h ⟨rfl,rfl⟩
  simp-implicitDefEqProofs[aa]
theorem yC(F:FuncId)(l:List Fd)(q:Fd→Bool)(hb:l.length≤1099511627776)(H:∀x∈l,VF Tryz.prog G F [.agg (x.cs.map .p)] (.p (.bool (q x)))):VF Tryz.prog G co [.p (fdL l),.fn (.func F) []] (.p (.bool (l.any q))):=by
 have hfl:∀l,fdL l= .lst 3 (l.map Fd.cs):=fun _=>rfl
 have idx:VF Tryz.prog G bv [.p (fdL l),.fn (.func F) []] (.p (.int .i64 (ixI (l.findIdx? q)))):=by
  refine AC.go fa ?_
  simp-implicitDefEqProofs[cY,hfl]
  refine aN (fun i:Nat=>al 19 [(0,.p (fdL l)),(1,.fn (.func F) []),(7,.p (.int .i64 l.length)),(8,.p (.int .i64 i))]) (fun _=>[]) (fun i=>i≤l.length∧∀f∈l.take i,q f=false) (fun i=>l.length-i) 0 (by simp) (bk rfl (by simp[below,ag,hfl])) ?_
  intro i ⟨hi,hn⟩
  simp-implicitDefEqProofs[hfl]
  refine bc (fun h1=>?_) (fun h1=>?_)
  ·simp at h1
   have hg:=List.getElem?_eq_getElem h1
   have hh:=H l[i] (List.getElem_mem h1)
   have hcs:=l[i].cs_eq'
   rw[hcs] at hh
   simp-implicitDefEqProofs[hg,hcs]
   refine hh.use ?_
   cases he:q l[i] with
   |true=>
    have hf:l.findIdx? q=some i:=by
     rw[List.findIdx?_eq_some_iff_getElem]
     exact⟨h1,he,fun j hj=>by have:=hn l[j] (List.mem_take_iff_getElem.2 ⟨j,by omega,rfl⟩);simp[this]⟩
    simp-implicitDefEqProofs[hf,ixI]
   |false=>
    simp-implicitDefEqProofs[]
    refine⟨i+1,⟨h1,fun p hp=>?_⟩,by omega,bk rfl (by simp[below,ag,hfl,w1 (i:=i) (by omega)])⟩
    rw[an h1] at hp
    rcases List.mem_append.1 hp with hp|hp
    ·exact hn p hp
    ·rw[List.mem_singleton.1 hp];exact he
  ·simp at h1
   rw[List.take_of_length_le h1] at hn
   have hf:l.findIdx? q=none:=by
    rw[List.findIdx?_eq_none_iff];exact hn
   simp-implicitDefEqProofs[hf,ixI]
 refine AC.go jc ?_
 simp-implicitDefEqProofs[ec]
 refine idx.use ?_
 cases hf:l.findIdx? q with
 |none=>
  have:l.any q=false:=by
   rw[List.findIdx?_eq_none_iff] at hf
   rw[List.any_eq_false];intro x hx;simp[hf x hx]
  rw[this]
  simp-implicitDefEqProofs[ixI]
 |some j=>
  have:l.any q=true:=by
   rw[List.findIdx?_eq_some_iff_getElem] at hf
   obtain⟨h1,h2,_⟩:=hf
   exact List.any_eq_true.2 ⟨_,List.getElem_mem h1,h2⟩
  rw[this]
  have hj:(0:Int)≤(j:Int):=by omega
  simp-implicitDefEqProofs[ixI,hj]
theorem Hl(f:Fd)(hz:f.sz≤1073741824):VF Tryz.prog G cP [.agg (f.cs.map .p)] (.p (.bool (!decide (iC f≤26)))):=by
 have hfc:=f.cs_eq'
 have hvc:=tQ G f hz
 rw[hfc] at hvc
 refine AC.go lZ ?_
 simp-implicitDefEqProofs[gL,hfc]
 refine hvc.use ?_
 by_cases h:iC f≤26
 ·have h':¬(26:Int)<(iC f:Int):=by omega
  simp-implicitDefEqProofs[h,h']
 ·have h':(26:Int)<(iC f:Int):=by omega
  simp-implicitDefEqProofs[h,h']
def Hy(l:List Fd):Vis Unit where
 I:=fun _=>[.row 1 [[.p (fdL l)]],.row 1 [[.nils]]]
 n:=2
 F:=bP
 caps:=[]
 len:=fun _=>rfl
 ok:=fun _=>by simp[okO,below]
 capsOk:=trivial
variable (hK:G fC=some ff) (hS:G db=some [.tbl opK opV])
include hK hS
theorem jq(l:List Fd)(hz:aO l≤1073741824):VF Tryz.prog G bK [.agg [.p (fdL l)]] (.tup [.agg [.p (fdL (ed l))],.p (.bool (dG l))]):=by
 have hll:=bX l
 have hfl:∀l,fdL l= .lst 3 (l.map Fd.cs):=fun _=>rfl
 have key:AC Tryz.prog G bK [.agg [.p (fdL l)]] [] fun x h=>∃v,x= .ret (.tup [.agg [v],.p (.bool (dG l))])∧View h v (fdL (ed l)):=by
  refine AC.go nV ?_
  simp-implicitDefEqProofs[iZ]
  refine(AQ G hK hS l hz).use ?_
  by_cases h0:bD l=0
  case neg=>
   have hr:dG l=false:=by simp[dG,h0]
   have hp:ed l=[]:=by simp[ed,hr]
   rw[hr,hp]
   simp-implicitDefEqProofs[h0]
   exact .nils 3
  have hro:dG l=qf l:=by simp[dG,h0]
  have hrp:ed l=if qf l=true then l.map irF else[]:=by rw[ed,hro]
  have hfa:(l.any fun f=> !decide (iC f≤26))= !qf l:=by rw[qf,List.not_all_eq_any_not]
  rw[hro,hrp]
  simp-implicitDefEqProofs[h0]
  refine(yC G cP l (fun f=> !decide (iC f≤26)) (by omega) fun x hx=>Hl G x (by have:=cg hx;omega)).use ?_
  rw[hfa]
  cases hf:qf l with
  |false=>
   simp-implicitDefEqProofs[]
   exact .nils 3
  |true=>
   have hmp:=HZ G (Hy l) (fun st x=>(irF x,st)) (fun _ _=>True) l (by omega) (by show 0<2;omega) (fun i st hi _=>⟨trivial,?_⟩) () trivial
   ·rw[qY] at hmp
    have hI:(Hy l).I ()=[.row 1 [[.p (fdL l)]],.row 1 [[.nils]]]:=rfl
    have hF:(Hy l).F=bP:=rfl
    have hc:(Hy l).caps=[]:=rfl
    rw[hI,hF,hc] at hmp
    simp-implicitDefEqProofs[]
    refine hmp.mono ?_
    rintro r h ⟨rfl,rfl⟩
    simp-implicitDefEqProofs[aa]
    exact .p _
   ·have hm:=cg (List.getElem_mem hi)
    have hv:iC l[i]≤26:=by
     rw[qf,List.all_eq_true] at hf
     simpa using hf _ (List.getElem_mem hi)
    exact(HD G l[i] (by omega) hv).ac (by simp[below]) (by simp[below]) _
 refine key.freezeR (fun t v h ⟨_,e,_⟩=>by cases e) fun v h ⟨u,e1,e2⟩=>?_
 cases e1
 exact .tup (.agg (.one e2 .nil) (.keep (by simp) .nil)) .nil
theorem yw(l:List Fd)(hz:aO l≤1073741824)(hr:aO (ed l)≤1073741824):VF Tryz.prog G iE [.agg [.p (fdL l)]] (.p (.bool (dG l&&eqX (ed l) l))):=by
 refine AC.go rI ?_
 simp-implicitDefEqProofs[lu]
 refine(jq G hK hS l hz).use ?_
 cases h:dG l with
 |false=>simp-implicitDefEqProofs[]
 |true=>
  simp-implicitDefEqProofs[]
  refine(nU G l (ed l) hz hr).use ?_
  rw[Fg]
  simp-implicitDefEqProofs[]
end Go.Proofs.YtnjbhgpbgmpkcaaGreatDoor
namespace Go.Proofs.YtnjbhgpbgmpkcaaGreatDoor
open Go Go.Aw
set_option maxRecDepth 100000
set_option maxHeartbeats 4000000
theorem oz{s:List UInt8}(h:aD s=true):s.length≤4:=by
 rw[aD] at h
 simp at h
 omega
theorem AM{e:Ex}(h:lS e=true):e.name.length≤4:=by
 simp only[lS,Bool.and_eq_true,Bool.or_eq_true,decide_eq_true_eq,beq_iff_eq] at h
 obtain⟨⟨⟨⟨_,h1⟩,h2⟩,_⟩,_⟩:=h
 rcases h2 with h2|h2
 ·exact oz (h1▸h2)
 ·rw[h2];simp
theorem EC:∀(d:Nat) (e:Ex),eb d e=true→e.sz≤5*e.parts:=by
 intro d
 induction d with
 |zero=>intro e h;simp[eb] at h
 |succ d ih=>
  intro e h
  rw[eb,Bool.and_eq_true] at h
  have h1:=AM h.1
  have h2:∀l:List Ex,l.all (eb d)=true→aY l≤5*bt l:=by
   intro l
   induction l with
   |nil=>intro _;simp[aY,bt]
   |cons x r ihl=>
    intro hl
    rw[List.all_cons,Bool.and_eq_true] at hl
    have:=ih x hl.1
    have:=ihl hl.2
    rw[aY,bt];omega
  have h3:=h2 e.kids h.2
  rw[e.sz_eq,e.parts_eq];omega
theorem Ig{e:Ex}(h:iX e=true):e.sz≤150:=by
 simp only[iX,Bool.and_eq_true,decide_eq_true_eq] at h
 have:=EC 6 e h.1
 omega
theorem EG{s:Sm}(h:fY s=true):1+s.name.length+aY s.args≤305:=by
 simp only[fY,Bool.and_eq_true,Bool.or_eq_true,decide_eq_true_eq,beq_iff_eq] at h
 obtain⟨⟨⟨⟨⟨⟨⟨_,h0⟩,h1⟩,h2⟩,h3⟩,_⟩,_⟩,_⟩:=h
 have hn:s.name.length≤4:=by
  rcases h2 with h2|h2
  ·exact oz (h1▸h2)
  ·rw[h2];simp
 have ha:∀l:List Ex,l.all iX=true→aY l≤150*l.length:=by
  intro l
  induction l with
  |nil=>intro _;simp[aY]
  |cons x r ihl=>
   intro hl
   rw[List.all_cons,Bool.and_eq_true] at hl
   have:=Ig hl.1
   have:=ihl hl.2
   rw[aY,List.length_cons];omega
 have h4:=ha s.args h3
 have h5:s.args.length≤2:=by rw[h0,jQ];split<;>omega
 omega
theorem FR:∀(d:Nat) (l:List Sm),l.all (aH d)=true→am l≤305*cW l:=by
 intro d
 induction d with
 |zero=>
  intro l h
  cases l with
  |nil=>simp[am]
  |cons s r=>simp[aH] at h
 |succ d ih=>
  intro l
  induction l with
  |nil=>intro _;simp[am]
  |cons s r ihl=>
   intro h
   rw[List.all_cons,Bool.and_eq_true] at h
   have h2:=ihl h.2
   have h1:=h.1
   simp only[aH,Bool.and_eq_true] at h1
   obtain⟨⟨h3,h4⟩,h5⟩:=h1
   have:=EG h3
   have:=ih s.body h4
   have:=ih s.els h5
   rw[am,cW,s.sz_eq,s.cnt_eq];omega
theorem Hx{f:Fd}(h:ig f=true):f.sz≤20+305*cW f.body:=by
 simp only[ig,Bool.and_eq_true,decide_eq_true_eq] at h
 obtain⟨⟨⟨h1,h2⟩,h3⟩,h4⟩:=h
 have:=oz h2
 have:=FR 4 f.body h4
 have hp:∀l:List (List UInt8),l.all aD=true→(l.map List.length).sum≤4*l.length:=by
  intro l
  induction l with
  |nil=>intro _;simp
  |cons x r ihl=>
   intro hl
   rw[List.all_cons,Bool.and_eq_true] at hl
   have:=oz hl.1
   have:=ihl hl.2
   rw[List.map_cons,List.sum_cons,List.length_cons];omega
 have:=hp f.params h1
 have e:f.sz=1+f.name.length+(f.params.length+(f.params.map List.length).sum)+am f.body:=rfl
 omega
theorem Da{l:List Fd}(h:bu l=true):aO l≤12280:=by
 obtain⟨h1,h2,h3⟩:=(iy l).1 h
 have key:∀l:List Fd,(∀f∈l,ig f=true)→aO l≤20*l.length+305*fy l:=by
  intro l
  induction l with
  |nil=>intro _;simp[aO]
  |cons f r ih=>
   intro hl
   have a:=Hx (hl f (by simp))
   have b:=ih fun g hg=>hl g (by simp[hg])
   have e1:aO (f::r)=f.sz+aO r:=by simp[aO]
   have e2:fy (f::r)=cW f.body+fy r:=by simp[fy]
   rw[e1,e2,List.length_cons];omega
 have:=key l h2
 omega
mutual
theorem JS(ch:List Scp):∀e:Ex,(irE ch e).sz≤3*e.sz
 | .mk o n s ks=>by
   have h:=xf ch ks
   have hn:(if o=2 then irN ch s else s).length≤2+s.length:=by
    split
    ·simp[irN,vnm]
    ·omega
   rw[irE,Ex.sz,Ex.sz];omega
theorem xf(ch:List Scp):∀l:List Ex,aY (lH ch l)≤3*aY l
 |[]=>by simp[lH,aY]
 |e::r=>by have h1:=JS ch e;have h2:=xf ch r;rw[lH,aY,aY];omega
end
theorem Ka:∀(N:Nat) (l:List Sm),am l<N→∀m up n,am (dY l m up n).1≤3*am l:=by
 intro N
 induction N with
 |zero=>intro l h;omega
 |succ N ih=>
  intro l
  induction l with
  |nil=>intro _ m up n;simp[dY,am]
  |cons s r ihl=>
   intro hl m up n
   obtain⟨o,nme,a,bd,el⟩:=s
   rw[am,Sm.sz] at hl
   have h1:=xf (m::up) a
   have h2:=ih bd (by omega) [] (opS o nme m n::up) (if o=1 then n+1 else n)
   have h3:=ih el (by omega) [] (opS o nme m n::up) (dY bd [] (opS o nme m n::up) (if o=1 then n+1 else n)).2.2
   have h4:=ihl (by omega) (irS ⟨o,nme,a,bd,el⟩ m up n).2.1 up (irS ⟨o,nme,a,bd,el⟩ m up n).2.2
   have hn:(if o=1 then vnm n else if o=2 then irN (m::up) nme else nme).length≤2+nme.length:=by
    split
    ·simp[vnm]
    ·split
     ·simp[irN,vnm]
     ·omega
   rw[dY]
   simp only
   rw[am,FA,Sm.sz,am,Sm.sz]
   omega
theorem BS:∀(ps:List (List UInt8)) (m:Scp) (n:Nat),(fg ps m n).1.length=ps.length∧((fg ps m n).1.map List.length).sum=2*ps.length
 |[],m,n=>by simp[fg]
 |s::r,m,n=>by
  obtain⟨h1,h2⟩:=BS r (fm m s n) (n+1)
  rw[fg]
  simp only
  rw[List.length_cons,List.length_cons,h1,List.map_cons,List.sum_cons,h2]
  simp[vnm];omega
theorem Jw(f:Fd):(irF f).sz≤3*f.sz:=by
 obtain⟨h1,h2⟩:=BS f.params [] 0
 have h3:=Ka (am f.body+1) f.body (by omega) (fg f.params [] 0).2.1 [] (fg f.params [] 0).2.2
 have e:f.sz=1+f.name.length+(f.params.length+(f.params.map List.length).sum)+am f.body:=rfl
 have e2:(irF f).sz=1+f.name.length+((fg f.params [] 0).1.length+((fg f.params [] 0).1.map List.length).sum)+am (dY f.body (fg f.params [] 0).2.1 [] (fg f.params [] 0).2.2).1:=rfl
 omega
theorem HQ(l:List Fd):aO (ed l)≤36840:=by
 unfold ed
 split
 ·rename_i h
  have h0:bD l=0:=by simp[dG] at h;exact h.1
  have hz:=Da ((my l).1 h0).1
  have key:∀l:List Fd,aO (l.map irF)≤3*aO l:=by
   intro l
   induction l with
   |nil=>simp[aO]
   |cons f r ih=>
    have a:=Jw f
    have e1:aO (f::r)=f.sz+aO r:=by simp[aO]
    have e2:aO ((f::r).map irF)=(irF f).sz+aO (r.map irF):=by simp[aO]
    rw[e1,e2];omega
  have:=key l
  omega
 ·simp[aO]
variable (G:aC) (hK:G fC=some ff) (hS:G db=some [.tbl opK opV])
include hK hS
end Go.Proofs.YtnjbhgpbgmpkcaaGreatDoor
namespace Go.Proofs.YtnjbhgpbgmpkcaaGreatDoor
open Go Go.Aw
set_option maxRecDepth 100000
abbrev dD:FuncId:=40
abbrev lI:FuncId:=11
def fX:FK:=⟨6,[.c 2 (some 1)],
 .seq (.reg [oJ 2 (.alloc [.nils])])
 (.seq (.reg [oM 3 0,
   oJ 4 (.call kq [(.t 3)]),
   oJ 5 (.call kP [(.t 4)]),
   oS 2 5])
 (.ret))⟩
theorem kR:aj Tryz.prog dD=some fX:=by kernel_rfl
def lm:FK:=⟨98,[.t 2],
 .seq (.reg [oJ 2 (.mov (.c (.p (.bool false))))])
 (.seq (.seq (.reg [oM 11 0,
   oJ 12 (.len false (.t 11)),
   oJ 13 (.bin .gtr (.t 12) (.c (.p (.int .i64 1048576))))])
 (.cond (.t 13)
  (.seq (.reg [oJ 2 (.mov (.c (.p (.bool true))))])
  (.ret))
  (.skip)))
 (.seq (.reg [oM 14 0,
   oJ 15 (.call dD [(.t 14)]),
   oJ 3 (.alloc [.nils]),
   oS 3 15])
 (.seq (.reg [oJ 17 (.ld (some 1) (.t 3)),
   oJ 18 (.call bK [(.t 17)]),
   oM 16 18,
   oJ 19 (.ext 0 (.t 16)),
   oJ 20 (.ext 1 (.t 16)),
   oJ 4 (.alloc [.nils]),
   oS 4 19,
   oM 5 20])
 (.seq (.reg [oJ 22 (.ld (some 1) (.t 3)),
   oJ 23 (.call dw [(.t 22)]),
   oM 21 23,
   oJ 24 (.ext 0 (.t 21)),
   oJ 25 (.ext 1 (.t 21)),
   oJ 6 (.alloc [.nils]),
   oS 6 24,
   oM 7 25])
 (.seq (.seq (.reg [oM 26 5,
   oM 27 7,
   oJ 28 (.beq true (.t 26) (.t 27)),
   oM 29 28,
   ⟨(some 30),some (29,false),.ld (some 1) (.t 4)⟩,
   ⟨(some 31),some (29,false),.ld (some 1) (.t 6)⟩,
   ⟨(some 32),some (29,false),.call dJ [(.t 30),(.t 31)]⟩,
   ⟨(some 33),some (29,false),.not (.t 32)⟩,
   oJ 34 (.pick (.t 29) (.c (.p (.bool true))) (.t 33)),
   oM 35 34,
   ⟨(some 36),some (35,false),.mov (.t 5)⟩,
   ⟨(some 37),some (35,false),.not (.t 36)⟩,
   oJ 38 (.pick (.t 35) (.c (.p (.bool true))) (.t 37))])
 (.cond (.t 38)
  (.seq (.reg [oM 39 5,
    oM 40 7,
    oJ 41 (.beq false (.t 39) (.t 40)),
    oM 42 41,
    ⟨(some 43),some (42,true),.ld (some 1) (.t 4)⟩,
    ⟨(some 44),some (42,true),.ld (some 1) (.t 6)⟩,
    ⟨(some 45),some (42,true),.call dJ [(.t 43),(.t 44)]⟩,
    oJ 46 (.pick (.t 42) (.t 45) (.c (.p (.bool false)))),
    oM 2 46])
  (.ret))
  (.skip)))
 (.seq (.reg [oJ 48 (.ld (some 1) (.t 4)),
   oJ 49 (.call bK [(.t 48)]),
   oM 47 49,
   oJ 50 (.ext 0 (.t 47)),
   oJ 51 (.ext 1 (.t 47)),
   oJ 8 (.alloc [.nils]),
   oS 8 50,
   oM 9 51])
 (.seq (.seq (.reg [oF 52 0 3,
   oL 53 52,
   oJ 54 (.len false (.t 53)),
   oK 55 0])
 (.blk 0 (.loop (.seq (.reg [oJ 56 (.bin .lss (.t 55) (.t 54))])
 (.seq (.cond (.t 56)
  (.skip)
  (.exit 0))
 (.seq (.blk 1 (.seq (.reg [oM 57 55,
   oM 10 57])
 (.seq (.reg [oM 59 10,
   oM 62 10,
   oJ 58 (.ld (some 1) (.t 4)),
   oJ 61 (.ld (some 1) (.t 3)),
   oJ 60 (.call fq [(.t 58),(.t 59)]),
   ⟨none,none,.chk (some 1) 3 61⟩,
   oJ 63 (.call fq [(.t 61),(.t 62)]),
   oJ 64 (.bin .neq (.t 60) (.t 63)),
   oM 65 64,
   ⟨(some 67),some (65,false),.mov (.t 10)⟩,
   ⟨(some 70),some (65,false),.mov (.t 10)⟩,
   ⟨(some 66),some (65,false),.ld (some 1) (.t 4)⟩,
   ⟨(some 68),some (65,false),.qcall eB [(.t 66),(.t 67)]⟩,
   ⟨(some 69),some (65,false),.ld (some 1) (.t 3)⟩,
   ⟨(some 71),some (65,false),.call eB [(.t 69),(.t 70)]⟩,
   ⟨(some 72),some (65,false),.call kS [(.t 68),(.t 71)]⟩,
   ⟨(some 73),some (65,false),.not (.t 72)⟩,
   oJ 74 (.pick (.t 65) (.c (.p (.bool true))) (.t 73))])
 (.cond (.t 74)
  (.seq (.reg [oJ 2 (.mov (.c (.p (.bool false))))])
  (.ret))
  (.skip)))))
 (.reg [oJ 75 (.bin .add (.t 55) (.c (.p (.int .i64 1)))),
   oM 55 75])))))))
 (.seq (.reg [oM 76 9,
   oM 77 76,
   ⟨(some 78),some (77,true),.ld (some 1) (.t 8)⟩,
   ⟨(some 79),some (77,true),.ld (some 1) (.t 4)⟩,
   ⟨(some 80),some (77,true),.call dK [(.t 78),(.t 79)]⟩,
   oJ 81 (.pick (.t 77) (.t 80) (.c (.p (.bool false)))),
   oM 82 81,
   ⟨(some 83),some (82,true),.ld (some 1) (.t 4)⟩,
   ⟨(some 84),some (82,true),.call iE [(.t 83)]⟩,
   oJ 85 (.pick (.t 82) (.t 84) (.c (.p (.bool false)))),
   oM 86 85,
   ⟨(some 87),some (86,true),.ld (some 1) (.t 4)⟩,
   ⟨(some 88),some (86,true),.call dI [(.t 87)]⟩,
   ⟨(some 89),some (86,true),.bin .eql (.t 88) (.c (.p (.int .i64 0)))⟩,
   oJ 90 (.pick (.t 86) (.t 89) (.c (.p (.bool false)))),
   oM 91 90,
   ⟨(some 92),some (91,true),.ld (some 1) (.t 4)⟩,
   ⟨(some 93),some (91,true),.qcall fv [(.t 92)]⟩,
   ⟨(some 94),some (91,true),.ld (some 1) (.t 3)⟩,
   ⟨(some 95),some (91,true),.call fv [(.t 94)]⟩,
   ⟨(some 96),some (91,true),.bin .eql (.t 93) (.t 95)⟩,
   oJ 97 (.pick (.t 91) (.t 96) (.c (.p (.bool false)))),
   oM 2 97])
 (.ret)))))))))⟩
theorem sj:aj Tryz.prog lI=some lm:=by kernel_rfl
end Go.Proofs.YtnjbhgpbgmpkcaaGreatDoor
namespace Go.Proofs.YtnjbhgpbgmpkcaaGreatDoor
open Go Go.Aw
set_option maxRecDepth 100000
set_option maxHeartbeats 4000000
variable (G:aC)
theorem pr(code:List Int)(hb:Byt code):AC Tryz.prog G dD [.p (sc code)] [] fun x _=>DrP 900000000 x:=by
 refine AC.go kR ?_
 simp-implicitDefEqProofs[fX]
 refine(AC.lift (JH G code) (by simp) rfl rfl).mono ?_
 rintro r h ⟨rfl,rfl⟩
 have hr:∀n,dk n (rdO (code.take 2000) 0)=rdO (code.take 2000) 0:=fun n=>by simp[rdO,dk,dU,cA]
 have hbt:=GC hb 2000
 have hbl:(code.take 2000).length≤2000:=by rw[List.length_take];omega
 generalize code.take 2000=b at hr hbt hbl
 simp-implicitDefEqProofs[aa,cA,hr]
 refine(NQ G (Fh G hbt hbl (p:=0) (by omega)) (fun v q ⟨⟨l,e,_⟩,_⟩=>by rw[e];simp[below]) (h:=[.row 1 [[.nils]],rdO b 0]) (k:=1) rfl trivial).mono ?_
 rintro r h ⟨v,q,rfl,rfl,⟨l,rfl,hz⟩,hq1,hq2⟩
 simp-implicitDefEqProofs[aa]
 exact⟨l,rfl,hz⟩
variable (hK:G fC=some ff) (hS:G db=some [.tbl opK opV])
include hK hS
theorem sR(l:List Fd)(hz:aO l≤1073741824):VF Tryz.prog G fv [.agg [.p (fdL l)]] (.p (.int .i64 (if bu l=true then(fy l:Int) else-1))):=by
 refine AC.go rQ ?_
 simp-implicitDefEqProofs[lA]
 refine(nY G hK hS l hz).use ?_
 cases h:bu l with
 |false=>simp-implicitDefEqProofs[]
 |true=>
  simp-implicitDefEqProofs[]
  refine(ww G l hz).use ?_
  simp-implicitDefEqProofs[]
theorem wq(code:List Int)(hb:Byt code)(hl:code.length≤9223372036854775807):VF Tryz.prog G lI [.p (sc code)] (.p (.bool true)):=by
 refine AC.go sj ?_
 have hbl:sc code= .lst 1 (code.map fun n=>[.int .u8 n]):=rfl
 simp-implicitDefEqProofs[lm,hbl]
 rw[←hbl]
 by_cases hc:(1048576:Int)<code.length
 ·simp-implicitDefEqProofs[hc]
 simp-implicitDefEqProofs[hc]
 refine(Fa G (pr G code hb) Gn (by simp) _).mono ?_
 rintro r h ⟨⟨l,rfl,hz⟩,rfl⟩
 have hrz:=HQ l
 have hll:=bX l
 have hsp:=uv G (ed l) (ed l) (by omega) (by omega)
 have hxx:eqX (ed l) (ed l)=true:=dz rfl
 rw[hxx] at hsp
 simp-implicitDefEqProofs[aa]
 refine(jq G hK hS l (by omega)).use ?_
 simp-implicitDefEqProofs[]
 refine(te G l (by omega)).use ?_
 simp-implicitDefEqProofs[]
 refine hsp.use ?_
 cases ho:dG l with
 |false=>
  simp-implicitDefEqProofs[]
  refine hsp.use ?_
  simp-implicitDefEqProofs[]
 |true=>
  have R:=AA ho
  have hP:=qU ho
  have hagain:=jq G hK hS (ed l) (by omega)
  have hPP:ed (ed l)=ed l:=by rw[hP,qU R.ok,R.same]
  have hOO:dG (ed l)=true:=by rw[hP];exact R.ok
  rw[hPP,hOO] at hagain
  have hc0:bD l=0:=by rw[dG,Bool.and_eq_true] at ho;exact of_decide_eq_true ho.1
  have hpo:=((my l).1 hc0).1
  have hcx:bD (ed l)=0:=by rw[hP];exact R.chk
  have hpx:=((my _).1 hcx).1
  have hax:fy (ed l)=fy l:=by rw[hP];exact R.stm
  have hcv1:=fun k=>sE G hK hS (ed l) (by omega) k
  have hcv2:=fun k=>sE G hK hS l (by omega) k
  have hcb1:=fun k=>tJ G hK hS (ed l) (by omega) k
  have hcb2:=fun k=>tJ G hK hS l (by omega) k
  simp only[ID ho] at hcv1
  simp only[Ae ho] at hcb1
  have hww:=fun k=>CQ G (xi (dO l k)) (by rw[xi,List.length_map];have:=yU l k;omega)
  have hir:=yw G hK hS (ed l) (by omega) (by rw[hPP];omega)
  rw[hPP,hOO,hxx] at hir
  have hck:=mX G hK hS (ed l) (by omega)
  rw[hcx] at hck
  have hs1:=sR G hK hS (ed l) (by omega)
  have hs2:=sR G hK hS l (by omega)
  rw[hpx,if_pos rfl,hax] at hs1
  rw[hpo,if_pos rfl] at hs2
  have hisp:=nU G (ed l) (ed l) (by omega) (by omega)
  rw[hxx] at hisp
  have hfl:fdL l= .lst 3 (l.map Fd.cs):=rfl
  generalize ed l=x at*
  simp-implicitDefEqProofs[]
  refine hagain.use ?_
  simp-implicitDefEqProofs[hfl]
  refine aN (fun i:Nat=>al 98 [(3,.ptr 0 1 0 0),(4,.ptr 1 1 0 0),(8,.ptr 3 1 0 0),(9,.p (.bool true)),(54,.p (.int .i64 l.length)),(55,.p (.int .i64 i))]) (fun _=>[.row 1 [[.p (fdL l)]],.row 1 [[.p (fdL x)]],.row 1 [[.p (fdL x)]],.row 1 [[.p (fdL x)]]]) (fun i=>i≤l.length) (fun i=>l.length-i) 0 (by simp) ?_ ?_
  ·exact ab (h:=[.row 1 [[.p (fdL l)]],.row 1 [[.p (fdL x)]],.row 1 [[.p (fdL x)]],.row 1 [[.p (fdL x)]]]) (by simp) (by simp[okO,below]) (by simp[below])
  intro i hil
  simp-implicitDefEqProofs[]
  refine bc (fun h1=>?_) (fun h1=>?_)
  ·simp at h1
   simp-implicitDefEqProofs[]
   refine(hcv1 i).use ?_
   simp-implicitDefEqProofs[]
   refine(hcv2 i).use ?_
   simp-implicitDefEqProofs[]
   refine(hcb1 i).useQ ?_
   simp-implicitDefEqProofs[]
   refine(hcb2 i).use ?_
   simp-implicitDefEqProofs[]
   refine(hww i).use ?_
   simp-implicitDefEqProofs[]
   exact⟨i+1,h1,by omega,ab (h:=[.row 1 [[.p (fdL l)]],.row 1 [[.p (fdL x)]],.row 1 [[.p (fdL x)]],.row 1 [[.p (fdL x)]]]) (by simp) (by simp[okO,below]) (by simp[below,w1 (i:=i) (by omega)])⟩
  ·simp at h1
   simp-implicitDefEqProofs[]
   refine hisp.use ?_
   simp-implicitDefEqProofs[]
   refine hir.use ?_
   simp-implicitDefEqProofs[]
   refine hck.use ?_
   simp-implicitDefEqProofs[]
   refine hs1.useQ ?_
   simp-implicitDefEqProofs[]
   refine hs2.use ?_
   simp-implicitDefEqProofs[]
end Go.Proofs.YtnjbhgpbgmpkcaaGreatDoor
