/-
  Contracts and lemmas that the card needs, part 7.
-/
import Derived.Test.YtaopbokndkdieaaGreatDoorCa6
namespace Go.Proofs.YtaopbokndkdieaaGreatDoor
open Go Go.Aw
set_option maxRecDepth 100000
set_option maxHeartbeats 4000000
section
theorem uc{s:Bool}{h:List AO}{id sz:Nat}{rows:List (List AV)}{D:List (List PV)}{J:List Nat}(H:RowOwn s h id sz rows D J){i:Nat}{e:List PV}(hi:D[i]?=some e):
 ∃r Ji,rows[i]?=some r∧OwnL s h r e Ji∧(id::Ji).Nodup∧(∀j∈Ji,j∈J)∧∀(h2:List AO) (r':List AV) (e':List PV) (Ji':List Nat),h2[id]?=some (.row sz (rows.set i r'))→(∀j,j<h.length→j≠id→j∉Ji→h2[j]?=h[j]?)→OwnL s h2 r' e' Ji'→e'.length=sz→Ji'.Nodup→
  (∀j∈Ji',j∈Ji∨h.length≤j)→∃J',RowOwn s h2 id sz (rows.set i r') (D.set i e') J'∧∀j∈J',j∈J∨h.length≤j:=by
 obtain⟨r,J1,Ji,J2,g1,rfl,g3,g4⟩:=H.own.put H.len H.rl H.dl hi
 have hn:=H.nd
 have hid:=H.lt
 have hlt:∀j∈J1++(Ji++J2),j<h.length:=fun j hj=>H.own.lt hj
 simp only[Sy,Sr,RJ,not_or] at hn hlt
 obtain⟨⟨n1,n2,n3⟩,m1,⟨m2,m3,m4⟩,m5⟩:=hn
 refine⟨r,Ji,g1,g3,by simp[n2,m2],fun j hj=>by simp[hj],fun h2 r' e' Ji' k1 k2 k3 k4 k5 k6=>⟨J1++(Ji'++J2),⟨k1,by simp[H.len],fun x hx=>?_,fun x hx=>?_,g4 h2 r' e' Ji' (fun j hj=>?_) k3,?_⟩,fun j hj=>?_⟩⟩
 ·rcases Si hx with h1|rfl
  ·exact H.rl x h1
  ·rw[k3.len,k4]
 ·rcases Si hx with h1|rfl
  ·exact H.dl x h1
  ·exact k4
 ·rcases RJ.1 hj with hj|hj
  ·exact k2 j (hlt j (.inl hj)) (fun e=>n1 (e▸hj)) fun hm=>m5 j hj j (.inl hm) rfl
  ·exact k2 j (hlt j (.inr (.inr hj))) (fun e=>n3 (e▸hj)) fun hm=>m4 j hm j hj rfl
 ·simp only[Sy,Sr,RJ,not_or]
  refine⟨⟨n1,fun hm=>?_,n3⟩,m1,⟨k5,m3,fun a ha b hb e=>?_⟩,fun a ha b hb e=>?_⟩
  ·rcases k6 _ hm with q|q
   ·exact n2 q
   ·omega
  ·rcases k6 _ ha with q|q
   ·exact m4 a q b hb e
   ·have:=hlt b (.inr (.inr hb));omega
  ·rcases hb with hb|hb
   ·rcases k6 _ hb with q|q
    ·exact m5 a ha b (.inl q) e
    ·have:=hlt a (.inl ha);omega
   ·exact m5 a ha b (.inr hb) e
 ·simp only[RJ] at hj⊢
  rcases hj with hj|hj|hj
  ·exact .inl (.inl hj)
  ·rcases k6 _ hj with q|q
   ·exact .inl (.inr (.inl q))
   ·exact .inr q
  ·exact .inl (.inr (.inr hj))
theorem td{s:Bool}{h:List AO}{fF:Nat}{rowsF:List (List AV)}{l:List Fd}{JF:List Nat}(H:RowOwn s h fF 3 rowsF (l.map Fd.cs) JF){k:Nat}{f:Fd}(hf:l[k]?=some f):
 ∃A B IB,rowsF[k]?=some [.p (.str f.name),A,B]∧OwnL s h [B] [smL f.body] IB∧IB.Nodup∧(∀j∈IB,j∈JF∧j≠fF)∧∀(h2:List AO) (B':AV) (body':List Sm) (IB':List Nat),h2[fF]?=some (.row 3 (rowsF.set k [.p (.str f.name),A,B']))→
  (∀j,j<h.length→j≠fF→j∉IB→h2[j]?=h[j]?)→OwnL s h2 [B'] [smL body'] IB'→IB'.Nodup→(∀j∈IB',j∈IB∨h.length≤j)→
  ∃J',RowOwn s h2 fF 3 (rowsF.set k [.p (.str f.name),A,B']) ((l.set k ⟨f.name,f.params,body'⟩).map Fd.cs) J'∧∀j∈J',j∈JF∨h.length≤j:=by
 have hD:(l.map Fd.cs)[k]?=some f.cs:=by rw[RQ,hf];rfl
 obtain⟨r,Ji,g1,g2,g3,g4,g5⟩:=uc H hD
 obtain⟨A,B,IA,IB,rfl,rfl,oA,oB⟩:=Kd g2
 rw[Sy] at g3
 obtain⟨n1,n2⟩:=g3
 obtain⟨n3,n4,n5⟩:=Sr.1 n2
 refine⟨A,B,IB,g1,oB,n4,fun j hj=>⟨g4 j (by simp[hj]),fun e=>n1 (by simp[←e,hj])⟩,fun h2 B' body' IB' k1 k2 k3 k4 k5=>?_⟩
 have hA:OwnL s h2 [A] [aC f.params] IA:=oA.frame fun i hi=>k2 i (oA.lt hi) (fun e=>n1 (by simp[←e,hi])) fun hm=>n5 i hi i hm rfl
 have:=g5 h2 _ (Fd.mk f.name f.params body').cs (IA++IB') k1 (fun j q1 q2 q3=>k2 j q1 q2 fun hm=>q3 (by simp[hm])) (pk (s:=s) (w:=f.name) hA k3) rfl
  (Sr.2 ⟨n3,k4,fun a ha b hb e=>by
    rcases k5 b hb with q|q
    ·exact n5 a ha b q e
    ·have:=oA.lt ha;omega⟩)
  (fun j hj=>by
    rcases RJ.1 hj with hj|hj
    ·exact .inl (by simp[hj])
    ·rcases k5 j hj with q|q
     ·exact .inl (by simp[q])
     ·exact .inr q)
 rwa[List.map_set]
theorem Hc{s:Bool}{h:List AO}{fB:Nat}{rowsB:List (List AV)}{l:List Sm}{JB:List Nat}(H:RowOwn s h fB 5 rowsB (l.map Sm.cs) JB){k:Nat}{x:Sm}(hf:l[k]?=some x):
 ∃A B E IA,rowsB[k]?=some [.p (.int .i64 x.op),.p (.str x.name),A,B,E]∧OwnL s h [A] [exL x.args] IA∧IA.Nodup∧(∀j∈IA,j∈JB∧j≠fB)∧∀(h2:List AO) (A':AV) (args':List Ex) (IA':List Nat),h2[fB]?=some (.row 5 (rowsB.set k [.p (.int .i64 x.op),.p (.str x.name),A',B,E]))→
  (∀j,j<h.length→j≠fB→j∉IA→h2[j]?=h[j]?)→OwnL s h2 [A'] [exL args'] IA'→IA'.Nodup→(∀j∈IA',j∈IA∨h.length≤j)→
  ∃J',RowOwn s h2 fB 5 (rowsB.set k [.p (.int .i64 x.op),.p (.str x.name),A',B,E]) ((l.set k ⟨x.op,x.name,args',x.body,x.els⟩).map Sm.cs) J'∧∀j∈J',j∈JB∨h.length≤j:=by
 have hD:(l.map Sm.cs)[k]?=some x.cs:=by rw[RQ,hf];rfl
 obtain⟨r,Ji,g1,g2,g3,g4,g5⟩:=uc H hD
 obtain⟨A,B,E,I1,I2,I3,rfl,rfl,oA,oB,oE⟩:=HQ g2
 rw[Sy] at g3
 obtain⟨n1,n2⟩:=g3
 obtain⟨n3,n4,n5⟩:=Sr.1 n2
 obtain⟨n6,n7,n8⟩:=Sr.1 n4
 refine⟨A,B,E,I1,g1,oA,n3,fun j hj=>⟨g4 j (by simp[hj]),fun e=>n1 (by simp[←e,hj])⟩,fun h2 A' args' IA' k1 k2 k3 k4 k5=>?_⟩
 have hB:OwnL s h2 [B] [smL x.body] I2:=oB.frame fun i hi=>k2 i (oB.lt hi) (fun e=>n1 (by simp[←e,hi])) fun hm=>n5 i hm i (by simp[hi]) rfl
 have hE:OwnL s h2 [E] [smL x.els] I3:=oE.frame fun i hi=>k2 i (oE.lt hi) (fun e=>n1 (by simp[←e,hi])) fun hm=>n5 i hm i (by simp[hi]) rfl
 have:=g5 h2 _ (Sm.mk x.op x.name args' x.body x.els).cs (IA'++(I2++I3)) k1 (fun j q1 q2 q3=>k2 j q1 q2 fun hm=>q3 (by simp[hm])) (CP (s:=s) (o:=x.op) (w:=x.name) k3 hB hE) (by simp)
  (Sr.2 ⟨k4,n4,fun a ha b hb e=>by
    rcases k5 a ha with q|q
    ·exact n5 a q b hb e
    ·have:b<h.length:=by
      rcases RJ.1 hb with hb|hb
      ·exact oB.lt hb
      ·exact oE.lt hb
     omega⟩)
  (fun j hj=>by
    rcases RJ.1 hj with hj|hj
    ·rcases k5 j hj with q|q
     ·exact .inl (by simp[q])
     ·exact .inr q
    ·exact .inl (by simp only[RJ] at hj⊢;exact .inr hj))
 rwa[List.map_set]
theorem rY{h:List AO}{v:AV}{sz:Nat}{D:List (List PV)}{I:List Nat}(H:OwnL true h [v] [.lst sz D] I)(nd:I.Nodup)(hne:D≠[]):∃id rows J,v= .sl id sz 0 D.length∧I=id::J∧RowOwn true h id sz rows D J:=by
 rcases H.inv nd with⟨h0,_⟩|⟨h0,_⟩|h0
 ·exact absurd h0 hne
 ·cases h0
 ·exact h0
theorem FX{h:List AO}{fF:Nat}{rowsF:List (List AV)}{l:List Fd}{JF:List Nat}(H:RowOwn true h fF 3 rowsF (l.map Fd.cs) JF){k:Nat}{f:Fd}(hf:l[k]?=some f){j:Nat}{x:Sm}(hx:f.body[j]?=some x){a:Ex}(ha:x.args[0]?=some a):
 ∃A fB rowsB fA B1 E1 rowsA r0,rowsF[k]?=some [.p (.str f.name),A,.sl fB 5 0 f.body.length]∧h[fB]?=some (.row 5 rowsB)∧rowsB[j]?=some [.p (.int .i64 x.op),.p (.str x.name),.sl fA 4 0 x.args.length,B1,E1]∧h[fA]?=some (.row 4 rowsA)∧rowsA[0]?=some r0∧fA∈JF∧fB∈JF∧fA≠fF∧
  ∀(h2:List AO) (n:Int),h2[fA]?=some (.row 4 (rowsA.set 0 ((co n).cs.map .p)))→(∀i,i<h.length→i≠fA→h2[i]?=h[i]?)→
  ∃J',RowOwn true h2 fF 3 rowsF ((l.set k ⟨f.name,f.params,f.body.set j ⟨x.op,x.name,x.args.set 0 (co n),x.body,x.els⟩⟩).map Fd.cs) J'∧∀i∈J',i∈JF∨h.length≤i:=by
 obtain⟨A,B,IB,p1,p2,p3,p4,p5⟩:=td H hf
 have hne:f.body.map Sm.cs≠[]:=fun e=>by rw[List.map_eq_nil_iff] at e;rw[e] at hx;cases hx
 obtain⟨fB,rowsB,JB,rfl,rfl,HB⟩:=rY p2 p3 hne
 obtain⟨A1,B1,E1,IA,s1,s2,s3,s4,s5⟩:=Hc HB hx
 have hne2:x.args.map Ex.cs≠[]:=fun e=>by rw[List.map_eq_nil_iff] at e;rw[e] at ha;cases ha
 obtain⟨fA,rowsA,JA,rfl,rfl,HA⟩:=rY s2 s3 hne2
 have hD:(x.args.map Ex.cs)[0]?=some a.cs:=by rw[RQ,ha];rfl
 obtain⟨r0,J0,t1,t2,t3,t4,t5⟩:=uc HA hD
 rw[RX] at*
 have hAF:fA≠fF:=(p4 fA (Sx _ (s4 fA (by simp)).1)).2
 refine⟨A,fB,rowsB,fA,B1,E1,rowsA,r0,p1,HB.here,s1,HA.here,t1,(p4 fA (Sx _ (s4 fA (by simp)).1)).1,(p4 fB (by simp)).1,hAF,fun h2 n q1 q2=>?_⟩
 have oE:OwnL true h2 ((co n).cs.map .p) (co n).cs []:=by
  rw[(co n).cs_eq]
  exact .p _ (fun _=>rfl) (.p _ (fun _=>rfl) (.p _ (fun _=>rfl) (.p _ (fun _=>rfl) .nil)))
 obtain⟨JA',u1,u2⟩:=t5 h2 _ (co n).cs [] q1 (fun i i1 i2 _=>q2 i i1 i2) oE (Ex.cs_len _) .nil (fun _ h=>by cases h)
 have tA:=u1.tree (n:=x.args.length) (by simp)
 rw[←List.map_set] at tA
 have n1:=u1.nd
 have hBA:fB≠fA:=fun e=>(s4 fA (by simp)).2 e.symm
 obtain⟨JB',w1,w2⟩:=s5 h2 _ (x.args.set 0 (co n)) (fA::JA') (by rw[q2 fB HB.lt hBA,HB.here,ni s1]) (fun i i1 i2 i3=>q2 i i1 fun e=>i3 (by simp[e])) tA n1 (fun i hi=>by
  rcases RY.1 hi with rfl|hi
  ·exact .inl (by simp)
  ·rcases u2 i hi with g|g
   ·exact .inl (by simp[g])
   ·exact .inr g)
 rw[ni s1] at w1
 have tB:=w1.tree (n:=f.body.length) (by simp)
 obtain⟨JF',z1,z2⟩:=p5 h2 _ (f.body.set j ⟨x.op,x.name,x.args.set 0 (co n),x.body,x.els⟩) (fB::JB') (by rw[q2 fF H.lt (Ne.symm hAF),H.here,ni p1]) (fun i i1 i2 i3=>q2 i i1 fun e=>i3 (by rw[e];exact Sx _ (s4 fA (by simp)).1)) tB w1.nd (fun i hi=>by
  rcases RY.1 hi with rfl|hi
  ·exact .inl (by simp)
  ·rcases w2 i hi with g|g
   ·exact .inl (by simp[g])
   ·exact .inr g)
 rw[ni p1] at z1
 exact⟨JF',z1,z2⟩
end
section
theorem Kk{h:List AO}{vs:List AV}{qs:List PV}{I:List Nat}(H:OwnL true h vs qs I):OwnL false h vs qs I:=by
 induction H with
 |nil=>exact .nil
 |p q _ _ ih=>exact .p q (fun h=>by cases h) ih
 |nils sz _ ih=>exact .nils sz ih
 |sl id sz n rows es a1 a2 a3 a4 a5 _ _ ih1 ih2=>exact .sl id sz n rows es a1 a2 a3 a4 a5 ih1 ih2
theorem JX{h:List AO}{id sz:Nat}{rows:List (List AV)}{D:List (List PV)}{J:List Nat}(H:RowOwn true h id sz rows D J):RowOwn false h id sz rows D J:=
 ⟨H.here,H.len,H.rl,H.dl,Kk H.own,H.nd⟩
theorem Ci{l:List Fd}{k:Nat}{f0:Fd}(f:Fd)(h:l[k]?=some f0):aJ (l.set k f)+f0.sz=aJ l+f.sz:=by
 obtain⟨hk,h⟩:=RB.1 h
 subst h
 rw[fw f hk,jW]
 have e:l=l.take k++l.drop k:=(Sk _ _).symm
 have h1:aJ l=aJ (l.take k)+aJ (l.drop k):=by rw[←jW,←e]
 have h4:aJ (l.drop k)=l[k].sz+aJ (l.drop (k+1)):=by
  have h6:∀(x:Fd) r,aJ (x::r)=x.sz+aJ r:=fun x r=>by simp[aJ]
  rw[Sz hk,h6]
 have h5:aJ (f::l.drop (k+1))=f.sz+aJ (l.drop (k+1)):=by simp[aJ]
 omega
def Lk(l:List Fd):Prop:=∀f∈l,∀x∈f.body,x.args≠[]
theorem GF{l:List Fd}(h:bq l=true):Lk l:=by
 intro f hf x hx he
 have hfd:=((dH l).1 h).2.1 f hf
 simp only[ia,RL] at hfd
 obtain⟨⟨h1,h2⟩,h3,h4⟩:=Pu (RF.1 hfd.2 _ hx)
 rw[he] at h3
 have:∀o:Int,1≤o→o≤8→jc o≠0:=by
  intro o h1 h2
  have:o=1∨o=2∨o=3∨o=4∨o=5∨o=6∨o=7∨o=8:=by omega
  rcases this with rfl|rfl|rfl|rfl|rfl|rfl|rfl|rfl<;>decide
 exact this _ h1 h2 h3.symm
def Hb(l:List Fd)(k:Nat)(f:Fd)(j:Nat)(x:Sm)(n:Int):List Fd:=l.set k ⟨f.name,f.params,f.body.set j ⟨x.op,x.name,x.args.set 0 (co n),x.body,x.els⟩⟩
theorem Gg{l:List Fd}(H:Lk l){k:Nat}{f:Fd}(hf:l[k]?=some f){j:Nat}{x:Sm}(hx:f.body[j]?=some x)(n:Int):Lk (Hb l k f j x n):=by
 intro g hg y hy
 rcases Si hg with h|rfl
 ·exact H g h y hy
 ·have hy:y∈f.body.set j ⟨x.op,x.name,x.args.set 0 (co n),x.body,x.els⟩:=hy
  rcases Si hy with h|rfl
  ·exact H f (RI hf) y h
  ·intro e
   have e:x.args.set 0 (co n)=[]:=e
   have:=congrArg List.length e
   rw[SH] at this
   exact H f (RI hf) x (RI hx) (Sw this)
theorem MZ{l:List Fd}{k:Nat}{f:Fd}(hf:l[k]?=some f){j:Nat}{x:Sm}(hx:f.body[j]?=some x)(n:Int):aJ (Hb l k f j x n)≤aJ l+1:=by
 have h1:=Ci ⟨f.name,f.params,f.body.set j ⟨x.op,x.name,x.args.set 0 (co n),x.body,x.els⟩⟩ hf
 have h2:=Cr ⟨x.op,x.name,x.args.set 0 (co n),x.body,x.els⟩ hx
 have h3:=AT x.args 0 (co n)
 have h4:(co n).sz=1:=by simp[co,Ex.sz,bC]
 have h5:=x.sz_eq
 have h6:=Sm.sz_eq ⟨x.op,x.name,x.args.set 0 (co n),x.body,x.els⟩
 have e1:(Sm.mk x.op x.name (x.args.set 0 (co n)) x.body x.els).name=x.name:=rfl
 have e2:(Sm.mk x.op x.name (x.args.set 0 (co n)) x.body x.els).args=x.args.set 0 (co n):=rfl
 have e3:(Sm.mk x.op x.name (x.args.set 0 (co n)) x.body x.els).body=x.body:=rfl
 have e4:(Sm.mk x.op x.name (x.args.set 0 (co n)) x.body x.els).els=x.els:=rfl
 rw[e1,e2,e3,e4] at h6
 have hfz:f.sz=1+f.name.length+(f.params.length+(f.params.map List.length).sum)+aq f.body:=rfl
 have hfz':(Fd.mk f.name f.params (f.body.set j ⟨x.op,x.name,x.args.set 0 (co n),x.body,x.els⟩)).sz=1+f.name.length+(f.params.length+(f.params.map List.length).sum)+aq (f.body.set j ⟨x.op,x.name,x.args.set 0 (co n),x.body,x.els⟩):=rfl
 unfold Hb
 omega
structure L6S where (i:Nat) (q:Nat) (T:List AO) (l:List Fd)
structure L6I (b:List Int) (X fF n p m:Nat) (rowsF:List (List AV)) (a:L6S):Prop where
 t0:a.T[0]?=some (.row 1 [[.nils]])
 tX:a.T[X]?=some (.row 1 [[.sl (fF+1) 3 0 n]])
 len:a.l.length=n
 row:∀q',∃J,RowOwn true (rdO b q'::a.T) (fF+1) 3 rowsF (a.l.map Fd.cs) J∧∀j∈(fF+1)::J,2≤j∧j≠X+1
 has:Lk a.l
 q1:p≤a.q
 q2:a.q+5*a.i≤m
 z:aJ a.l+1*a.i≤300000000
 X0:X≠0
theorem L6I.lt{b:List Int}{X fF n p m:Nat}{rowsF:List (List AV)}{a:L6S}(H:L6I b X fF n p m rowsF a):X<a.T.length:=(RB.1 H.tX).1
theorem L6I.tF{b:List Int}{X fF n p m:Nat}{rowsF:List (List AV)}{a:L6S}(H:L6I b X fF n p m rowsF a):a.T[fF]?=some (.row 3 rowsF):=by
 obtain⟨J,h,_⟩:=H.row 0
 exact h.here
theorem Ef{s:Bool}{b:List Int}{q q':Nat}{T:List AO}{id sz:Nat}{rows:List (List AV)}{D:List (List PV)}{J:List Nat}(H:RowOwn s (rdO b q::T) id sz rows D J)(hI:∀i∈id::J,2≤i):RowOwn s (rdO b q'::T) id sz rows D J:=
 H.frame fun i hi=>by
  have:=hI i hi
  obtain⟨k,rfl⟩:∃k,i=k+1:=⟨i-1,by omega⟩
  rfl
theorem L6I.same{b:List Int}{X fF n p m:Nat}{rowsF:List (List AV)}{i q:Nat}{T:List AO}{l:List Fd}(H:L6I b X fF n p m rowsF ⟨i+1,q,T,l⟩)(q':Nat)(os:List AO)(h1:q≤q')(h2:q'≤q+5):L6I b X fF n p m rowsF ⟨i,q',T++os,l⟩:=by
 have hl:=H.lt
 have l0:=(RB.1 H.t0).1
 refine⟨by rw[RD l0];exact H.t0,by rw[RD hl];exact H.tX,H.len,fun q2=>?_,H.has,Sp H.q1 h1,?_,?_,H.X0⟩
 ·obtain⟨J,h,hj⟩:=H.row q2
  exact⟨J,h.more os,hj⟩
 ·have:=H.q2;simp only at this⊢;omega
 ·have:=H.z;simp only at this⊢;omega
theorem L6I.put{b:List Int}{X fF n p m:Nat}{rowsF:List (List AV)}{i q:Nat}{T:List AO}{l:List Fd}(H:L6I b X fF n p m rowsF ⟨i+1,q,T,l⟩){k:Nat}{f:Fd}(hf:l[k]?=some f){j:Nat}{x:Sm}(hx:f.body[j]?=some x):
 ∃A fB rowsB fA B1 E1 rowsA r0,rowsF[k]?=some [.p (.str f.name),A,.sl (fB+1) 5 0 f.body.length]∧T[fB]?=some (.row 5 rowsB)∧rowsB[j]?=some [.p (.int .i64 x.op),.p (.str x.name),.sl (fA+1) 4 0 x.args.length,B1,E1]∧T[fA]?=some (.row 4 rowsA)∧rowsA[0]?=some r0∧r0.length=4∧
  ∀(q':Nat) (os:List AO) (n':Int),q≤q'→q'≤q+5→L6I b X fF n p m rowsF ⟨i,q',(T++os).set fA (.row 4 (rowsA.set 0 ((co n').cs.map .p))),Hb l k f j x n'⟩:=by
 obtain⟨J,hR,hJ⟩:=H.row 0
 have hne:=H.has f (RI hf) x (RI hx)
 obtain⟨a,ha⟩:∃a,x.args[0]?=some a:=by
  cases h:x.args with
  |nil=>exact absurd h hne
  |cons a r=>exact⟨a,rfl⟩
 obtain⟨A,fB,rowsB,fA,B1,E1,rowsA,r0,p1,p2,p3,p4,p5,p6,p7,p8,p9⟩:=FX hR hf hx ha
 obtain⟨hA2,hAX⟩:=hJ fA (by simp[p6])
 obtain⟨hB2,hBX⟩:=hJ fB (by simp[p7])
 obtain⟨gA,rfl⟩:∃gA,fA=gA+1:=⟨fA-1,by omega⟩
 obtain⟨gB,rfl⟩:∃gB,fB=gB+1:=⟨fB-1,by omega⟩
 have hr0:r0.length=4:=by
  obtain⟨A',B',IB,z1,z2,z3,z4,z5⟩:=td hR hf
  rw[p1] at z1;cases z1
  have hneB:f.body.map Sm.cs≠[]:=fun e=>by rw[List.map_eq_nil_iff] at e;rw[e] at hx;cases hx
  obtain⟨id1,rows1,J1,e1,e2,HB⟩:=rY z2 z3 hneB
  rw[RX] at e1
  cases e1
  have:rows1=rowsB:=by have:=HB.here;rw[p2] at this;cases this;rfl
  subst this
  obtain⟨A2,B2,E2,IA,y1,y2,y3,y4,y5⟩:=Hc HB hx
  rw[p3] at y1;cases y1
  have hneA:x.args.map Ex.cs≠[]:=fun e=>by rw[List.map_eq_nil_iff] at e;exact hne e
  obtain⟨id2,rows2,J2,e3,e4,HA⟩:=rY y2 y3 hneA
  rw[RX] at e3
  cases e3
  have:rows2=rowsA:=by have:=HA.here;rw[p4] at this;cases this;rfl
  subst this
  exact HA.rl _ (RI p5)
 refine⟨A,gB,rowsB,gA,B1,E1,rowsA,r0,p1,by simpa using p2,p3,by simpa using p4,p5,hr0,fun q' os n' h1 h2=>?_⟩
 have hl:=H.lt
 have l0:=(RB.1 H.t0).1
 have lA:gA<T.length:=by have:=(RB.1 p4).1;simpa using this
 refine⟨?_,?_,by simp only[Hb,SH];exact H.len,fun q2=>?_,Gg H.has hf hx n',Sp H.q1 h1,?_,?_,H.X0⟩
 ·simp only
  rw[RE (by omega),RD l0];exact H.t0
 ·simp only at hl⊢
  rw[RE (by omega),RD hl];exact H.tX
 ·obtain⟨J',g1,g2⟩:=p9 (rdO b 0::(T++os).set gA (.row 4 (rowsA.set 0 ((co n').cs.map .p)))) n' (by
   rw[RK,RS (by simp;omega)]) (fun i hi hne=>by
   cases i with
   |zero=>rfl
   |succ i=>
    rw[RK,RK,RE (by omega),RD (by simpa using hi)])
  have hJ':∀j∈(fF+1)::J',2≤j∧j≠X+1:=fun j hj=>by
   rcases RY.1 hj with rfl|hj
   ·exact hJ _ (by simp)
   ·rcases g2 j hj with g|g
    ·exact hJ j (by simp[g])
    ·simp only[RW] at g hl
     exact⟨by omega,by omega⟩
  exact⟨J',Ef g1 fun i hi=>(hJ' i hi).1,hJ'⟩
 ·have:=H.q2;simp only at this⊢;omega
 ·have:=H.z;have:=MZ hf hx n';simp only at* ;omega
end
section
def Fr(K:List Nat)(h h':List AO):Prop:=h.length≤h'.length∧∀i,i<h.length→i∉K→h'[i]?=h[i]?
theorem Fr.refl(K:List Nat)(h:List AO):Fr K h h:=⟨RN _,fun _ _ _=>rfl⟩
theorem Fr.more(K:List Nat)(h os:List AO):Fr K h (h++os):=⟨by simp,fun i hi _=>RD hi⟩
theorem Fr.trans{K K':List Nat}{h h1 h2:List AO}(a:Fr K h h1)(b:Fr K' h1 h2)(hk:∀i∈K',i∈K∨h.length≤i):Fr K h h2:=
 ⟨Sp a.1 b.1,fun i hi hn=>by
   rw[b.2 i (Se hi a.1) (fun hm=>by
    rcases hk i hm with q|q
    ·exact hn q
    ·omega),a.2 i hi hn]⟩
theorem Fr.sub{K K':List Nat}{h h1:List AO}(a:Fr K h h1)(hk:∀i∈K,i∈K'∨h.length≤i):Fr K' h h1:=
 ⟨a.1,fun i hi hn=>a.2 i hi fun hm=>by
   rcases hk i hm with q|q
   ·exact hn q
   ·omega⟩
theorem Fr.from{K:List Nat}{h os h2:List AO}(a:Fr K (h++os) h2):Fr K h h2:=
 ⟨by have:=a.1;simp at this;omega,fun i hi hn=>by rw[a.2 i (by simp;omega) hn,RD hi]⟩
theorem NG{h:List AO}(hb:HB h){o:AO}(ho:o∈h):okO h.length o:=by
 obtain⟨i,hi⟩:=Sd ho
 cases o with
 |row sz es=>exact fun e he=>(hb.1 i sz es hi e he).2.1
 |mp es=>exact fun e he=>hb.2 i es hi e he
 |sit s p=>trivial
 |dead=>trivial
theorem ER{hF:List AO}{n:Nat}{suf sX s1:List AO}(H:Thn hF n suf sX s1):∀pre:List AO,(∀o∈pre,okO n o)→Thn hF n (pre++suf) (List.replicate pre.length .dead++sX) (pre++s1)
 |[],_=>H
 |o::r,h=>by
  rw[Sj,Sj,RW,List.replicate_succ,Sj]
  exact .same (h o (by simp)) (ER H r fun x hx=>h x (by simp[hx]))
theorem zd{k n:Nat}{l l1:List (Nat × AV)}{pre suf sX s1:List AO}(hk:k≤(pre++suf).length)(ht:Thn (List.replicate pre.length .dead++sX) (pre++suf).length suf sX s1)(H:FzA (List.replicate pre.length .dead++sX) (pre++suf).length l l1):Wk k (am n l) (pre++suf) (am n l1) (pre++s1):=by
 intro G W0 S0 φ0 h0 W S φ a ek s
 have hb:=s.hrel.hb
 exact xg hk (ER ht pre fun o ho=>NG hb (by simp[ho])) H G W0 S0 φ0 h0 W S φ a ek s
end
section
variable (G:aM)
def K_spec_l6Prog:AK:= .seq (.reg [oJ 2 (.alloc [.nils])]) (.seq (.seq (.reg [oM 10 0,oJ 11 (.call ab [(.t 10),(.c (.p (.int .i64 8)))]),oJ 12 (.bin .eql (.t 11) (.c (.p (.int .i64 0))))]) (.cond (.t 12) (.seq (.reg [oM 13 0,oJ 14 (.call jK [(.t 13)]),oS 2 14]) (.ret)) (.skip))) (.seq (.reg [oM 15 0,oJ 16 (.call cw [(.t 15)]),oJ 17 (.call er [(.t 16)]),oJ 3 (.alloc [.nils]),oS 3 17]) (.seq (.seq (.reg [oM 18 0,oJ 19 (.bsl 1 [(.p (.int .i64 0))] 4 [(0,1,(.c (.p (.int .i64 2)))),(1,1,(.c (.p (.int .i64 4)))),(2,1,(.c (.p (.int .i64 1)))),(3,1,(.c (.p (.int .i64 0))))]),oJ 20 (.call al [(.t 18),(.t 19)]),oM 4 20]) (.blk 0 (.loop (.seq (.seq (.reg [oM 21 4,oJ 22 (.bin .gtr (.t 21) (.c (.p (.int .i64 0))))]) (.cond (.t 22) (.skip) (.exit 0))) (.seq (.blk 1 (.seq (.reg [oF 25 0 3,oM 27 0,oF 28 0 3,oL 26 25,oL 29 28,oJ 30 (.len false (.t 29)),oJ 31 (.call ab [(.t 27),(.t 30)]),⟨none,none,.chk none 25 26⟩,oJ 32 (.idxS 3 (.t 26) (.t 31)),oM 5 32]) (.seq (.reg [oM 33 5,oN 34 33,oF 35 2 34,oL 36 35,oJ 37 (.len false (.t 36)),oJ 38 (.bin .gtr (.t 37) (.c (.p (.int .i64 0))))]) (.cond (.t 38) (.seq (.reg [oM 39 5,oN 40 39,oF 41 2 40,oM 43 0,oM 44 5,oN 45 44,oF 46 2 45,oL 42 41,oL 47 46,oJ 48 (.len false (.t 47)),oJ 49 (.call ab [(.t 43),(.t 48)]),⟨none,none,.chk none 41 42⟩,oJ 50 (.idxS 5 (.t 42) (.t 49)),oM 6 50]) (.seq (.reg [oM 51 6,oN 52 51,oF 53 0 52,oL 54 53,oJ 55 (.bin .eql (.t 54) (.c (.p (.int .i64 5)))),oM 56 55,⟨(some 57),some (56,false),.mov (.t 6)⟩,⟨(some 58),some (56,false),.nilck (.t 57)⟩,⟨(some 59),some (56,false),.fldA 0 (.t 58)⟩,⟨(some 60),some (56,false),.ld none (.t 59)⟩,⟨(some 61),some (56,false),.bin .eql (.t 60) (.c (.p (.int .i64 3)))⟩,oJ 62 (.pick (.t 56) (.c (.p (.bool true))) (.t 61)),oM 63 62,⟨(some 64),some (63,false),.mov (.t 0)⟩,⟨(some 65),some (63,false),.call ab [(.t 64),(.c (.p (.int .i64 3)))]⟩,⟨(some 66),some (63,false),.bin .eql (.t 65) (.c (.p (.int .i64 0)))⟩,⟨(some 67),some (63,false),.mov (.t 66)⟩,⟨(some 68),some (67,true),.mov (.t 6)⟩,⟨(some 69),some (67,true),.nilck (.t 68)⟩,⟨(some 70),some (67,true),.fldA 0 (.t 69)⟩,⟨(some 71),some (67,true),.ld none (.t 70)⟩,⟨(some 72),some (67,true),.bin .neq (.t 71) (.c (.p (.int .i64 8)))⟩,⟨(some 73),some (63,false),.pick (.t 67) (.t 72) (.c (.p (.bool false)))⟩,⟨(some 74),some (63,false),.mov (.t 73)⟩,⟨(some 75),some (74,true),.mov (.t 6)⟩,⟨(some 76),some (74,true),.nilck (.t 75)⟩,⟨(some 77),some (74,true),.fldA 0 (.t 76)⟩,⟨(some 78),some (74,true),.ld none (.t 77)⟩,⟨(some 79),some (74,true),.bin .neq (.t 78) (.c (.p (.int .i64 6)))⟩,⟨(some 80),some (63,false),.pick (.t 74) (.t 79) (.c (.p (.bool false)))⟩,oJ 81 (.pick (.t 63) (.c (.p (.bool true))) (.t 80))]) (.cond (.t 81) (.reg [oM 82 6,oN 83 82,oF 84 2 83,oM 86 0,oJ 87 (.bslP 1 [(.p (.int .i64 0))] 3 [(0,1,(.c (.p (.int .i64 0)))),(1,1,(.c (.p (.int .i64 1)))),(2,1,(.c (.p (.int .i64 5))))]),oL 85 84,oJ 88 (.call al [(.t 86),(.t 87)]),⟨none,none,.chk none 84 85⟩,oJ 89 (.call bc [(.t 88)]),⟨none,none,.chk none 84 85⟩,oJ 90 (.idxS 4 (.t 85) (.c (.p (.int .i64 0)))),⟨none,none,.st 4 (.t 90) (.t 89)⟩]) (.skip)))) (.skip))))) (.reg [oM 23 4,oJ 24 (.bin .sub (.t 23) (.c (.p (.int .i64 1)))),oM 4 24])))))) (.seq (.seq (.reg [oM 91 0,oJ 92 (.call ab [(.t 91),(.c (.p (.int .i64 3)))]),oJ 93 (.bin .eql (.t 92) (.c (.p (.int .i64 0))))]) (.cond (.t 93) (.seq (.reg [oF 94 0 3,oL 95 94,oF 96 0 3,oL 97 96,oJ 98 (.len false (.t 97)),oJ 99 (.bin .sub (.t 98) (.c (.p (.int .i64 1)))),oJ 100 (.idxS 3 (.t 95) (.t 99)),oM 7 100]) (.seq (.reg [oM 101 0,oM 102 7,oN 103 102,oF 104 2 103,oL 105 104,oJ 106 (.len false (.t 105)),oJ 107 (.bin .add (.t 106) (.c (.p (.int .i64 1)))),oJ 108 (.call ab [(.t 101),(.t 107)]),oM 8 108]) (.seq (.reg [oM 109 0,oJ 110 (.bsl 1 [(.p (.int .i64 0))] 3 [(0,1,(.c (.p (.int .i64 7)))),(1,1,(.c (.p (.int .i64 6)))),(2,1,(.c (.p (.int .i64 5))))]),oJ 111 (.call al [(.t 109),(.t 110)]),oM 112 0,oJ 113 (.call ab [(.t 112),(.c (.p (.int .i64 2)))]),oM 114 0,oJ 115 (.call ab [(.t 114),(.c (.p (.int .i64 2)))]),oJ 116 (.bin .mul (.t 113) (.t 115)),oJ 117 (.call bc [(.t 116)]),oJ 118 (.bsl 4 [(.p (.int .i64 0)),(.p (.int .i64 0)),(.p (.str [])),.nils] 1 [(0,4,(.t 117))]),oJ 119 (.bld [(.p (.int .i64 0)),(.p (.str [])),.nils,.nils,.nils] [(0,1,(.t 111)),(2,1,(.t 118))]),oJ 9 (.alloc [(.p (.int .i64 0)),(.p (.str [])),.nils,.nils,.nils]),⟨none,none,.st 5 (.t 9) (.t 119)⟩]) (.cut (.seq (.reg [oF 120 0 9,oL 121 120,oJ 122 (.bin .neq (.t 121) (.c (.p (.int .i64 7))))]) (.cond (.t 122) (.seq (.reg [oJ 123 (.call bc [(.c (.p (.int .i64 9)))]),oJ 124 (.bsl 4 [(.p (.int .i64 0)),(.p (.int .i64 0)),(.p (.str [])),.nils] 1 [(0,4,(.t 123))]),oJ 125 (.bld [(.p (.int .i64 0)),(.p (.str [])),.nils,.nils,.nils] [(0,1,(.c (.p (.int .i64 3)))),(2,1,(.t 124))]),oJ 126 (.bsl 5 [(.p (.int .i64 0)),(.p (.str [])),.nils,.nils,.nils] 1 [(0,5,(.t 125))]),oF 127 3 9,oS 127 126]) (.seq (.reg [oF 128 0 9,oL 129 128,oJ 130 (.bin .eql (.t 129) (.c (.p (.int .i64 6))))]) (.cond (.t 130) (.reg [oF 131 2 9,oL 132 131,oJ 133 (.call bc [(.c (.p (.int .i64 0)))]),⟨none,none,.chk none 131 132⟩,oJ 134 (.idxS 4 (.t 132) (.c (.p (.int .i64 0)))),⟨none,none,.st 4 (.t 134) (.t 133)⟩]) (.skip)))) (.skip))) (.reg [oM 135 7,oM 137 7,oN 138 137,oF 139 2 138,oM 141 8,oM 147 7,oN 148 147,oF 149 2 148,oM 151 8,oL 140 139,oJ 142 (.slS 5 (.t 140) none (some (.t 141))),oJ 144 (.ld (some 5) (.t 9)),oJ 145 (.bslP 5 [(.p (.int .i64 0)),(.p (.str [])),.nils,.nils,.nils] 1 [(0,5,(.t 144))]),oL 150 149,oJ 152 (.slS 5 (.t 150) (some (.t 151)) none),oJ 136 (.bsl 5 [(.p (.int .i64 0)),(.p (.str [])),.nils,.nils,.nils] 0 []),⟨none,none,.chk none 139 140⟩,⟨none,none,.chk (some 5) 9 144⟩,⟨none,none,.chk none 149 150⟩,oJ 143 (.app 5 96 (.t 136) (.t 142)),⟨none,none,.chk (some 5) 9 144⟩,⟨none,none,.chk none 149 150⟩,oJ 146 (.app 5 96 (.t 143) (.t 145)),⟨none,none,.chk none 149 150⟩,oJ 153 (.app 5 96 (.t 146) (.t 152)),oN 154 135,oF 155 2 154,oS 155 153]))))) (.skip))) (.seq (.reg [oJ 156 (.ld (some 1) (.t 3)),oS 2 156]) (.ret))))))
theorem ym:K_spec_l6Prog.whole=F_spec_l6Prog.ak:=rfl
theorem mT:∀l:List PV,mb (l.map AV.p)=some l
 |[]=>rfl
 |q::r=>by rw[Sb,mb,mT r];rfl
theorem pN{h:List AO}:∀l:List PV,OwnL false h (l.map AV.p) l []
 |[]=> .nil
 |q::r=> .p q (fun h=>by cases h) (pN r)
structure CutS where (q:Nat) (T:List AO) (s:Sm) (x:Nat)
structure CutI (q1:Nat) (T:List AO) (a:CutS):Prop where
 lo:q1≤a.q
 hi:a.q≤q1+10
 fr:Fr [] T a.T
 box:a.T[a.x]?=some (.row 5 [a.s.cs.map .p])
 lx:T.length≤a.x
 z:a.s.sz≤100
theorem BB{b:List Int}(hb:Byt b)(hl:b.length≤2000){p:Nat}(hp:p≤4000000000):AC Tryz.prog G jz [.ptr 0 2 0 0] [rdO b p] fun x h=>∃v q,x= .ret v∧h=[rdO b q]∧PgQ p 900000000 400500100 v q:=by
 refine lU G (AC.goK yE ym ?_)
 have hprog:AC Tryz.prog G cw [.ptr 0 2 0 0] [rdO b (p+1)] fun x h=>∃v q,x= .ret v∧h=[rdO b q]∧((∃l:List Fd,v= .agg [.p (fdL l)]∧bq l=true∧aJ l≤200000000)∧p+1≤q∧q≤p+1+200000000):=
  (Db G hb hl (by omega)).mono fun x h ⟨l,q,e1,e2,e3,e4,e5,e6⟩=>⟨_,q,e1,e2,⟨l,rfl,e3,e4⟩,e5,e6⟩
 have hnx:∀n,(co n).cs=[.int .i64 1,.int .i64 n,.str [],.lst 4 []]:=fun n=>(co n).cs_eq
 simp-implicitDefEqProofs[F_spec_l6Prog,K_spec_l6Prog]
 refine(aZ G b hb hl p (by omega) 8 _).mono ?_
 rintro r h ⟨k0,rfl,rfl,_⟩
 simp-implicitDefEqProofs[aa]
 refine bf (fun hc=>?_) (fun hc=>?_)
 ·simp-implicitDefEqProofs[]
  refine(iF G (It G hb hl (p:=p+1) (by omega)) _ (by simp[below])).mono ?_
  rintro r h ⟨v,q2,rfl,rfl,⟨l2,rfl,hz2⟩,h3,h4⟩
  simp-implicitDefEqProofs[aa]
  exact⟨_,_,q2,.agg [.p (fdL l2)],rfl,rfl,.keep (by simp) .nil,⟨l2,rfl,by omega⟩,by omega,by omega⟩
 simp-implicitDefEqProofs[]
 refine(iF G hprog _ (by simp[below])).mono ?_
 rintro r h ⟨v,q,rfl,rfl,⟨l,rfl,hok,hz⟩,h1,h2⟩
 have hlen:=((dH l).1 hok).1
 simp-implicitDefEqProofs[aa]
 refine(AC.mkLift vO (Cl G l (by omega)) (by simp)).mono ?_
 rintro r h ⟨vs,I,os,rfl,rfl,ho,nd,hI⟩
 obtain⟨v,rfl⟩:=fY ho
 have hne:l.map Fd.cs≠[]:=by intro h;rw[List.map_eq_nil_iff] at h;rw[h] at hlen;simp at hlen
 simp at hI
 obtain⟨id,rowsF,JF,rfl,rfl,hF⟩:=rY ho nd hne
 have hid2:2≤id:=hI id (by simp)
 obtain⟨fF,rfl⟩:∃fF,id=fF+1:=⟨id-1,by omega⟩
 rw[RX]
 simp-implicitDefEqProofs[aa]
 obtain⟨X,hX⟩:∃X,X=os.length+1:=⟨_,rfl⟩
 obtain⟨T0,hT0⟩:∃T,T=AO.row 1 [[AV.nils]]::(os++[AO.row 1 [[AV.sl (fF+1) 3 0 l.length]]]):=⟨_,rfl⟩
 have hI0:∀i q2 os2,i≤4→q2≤q+1→q≤q2→L6I b X fF l.length (p+1) (p+200000100) rowsF ⟨i,q2,T0++os2,l⟩:=fun i q2 os2 hi h3 h4=>by
  subst hX hT0
  refine⟨rfl,?_,rfl,fun q'=>⟨JF,?_,fun j hj=>?_⟩,GF hok,by simp only;omega,by simp only;omega,by simp only;omega,by omega⟩
  ·simp
  ·have:RowOwn true (rdO b q::AO.row 1 [[AV.nils]]::os) (fF+1) 3 rowsF (l.map Fd.cs) JF:=hF
   have:=Ef (q':=q') this (fun i hi=>hI i hi)
   have:=this.more ([AO.row 1 [[AV.sl (fF+1) 3 0 l.length]]]++os2)
   simpa using this
  ·refine⟨hI j hj,fun e=>?_⟩
   have:j<([rdO b q,AO.row 1 [[AV.nils]]]++os).length:=by
    rcases RY.1 hj with rfl|hj
    ·exact hF.lt
    ·exact hF.own.lt hj
   simp at this
   omega
 refine(kq G hb hl (p:=q) (by omega) [2,4,1,0] (k:=os.length+1+1+1) (by simp) (by simp) (by omega) rfl (by simp[vt])).mono ?_
 rintro r h ⟨n0,hn0,rfl,rfl⟩
 obtain⟨n1,rfl,hn1⟩:∃n1:Nat,n0=(n1:Int)∧n1≤4:=by
  simp only[RY,List.not_mem_nil,or_false] at hn0
  rcases hn0 with rfl|rfl|rfl|rfl
  ·exact⟨2,rfl,by omega⟩
  ·exact⟨4,rfl,by omega⟩
  ·exact⟨1,rfl,by omega⟩
  ·exact⟨0,rfl,by omega⟩
 simp-implicitDefEqProofs[aa]
 have hXr:os.length+1+1=X+1:=by omega
 rw[hXr]
 refine aV (fun a:L6S=>am 157 [(4,.p (.int .i64 a.i)),(3,.ptr (X+1) 1 0 0),(2,.ptr 1 1 0 0),(0,.ptr 0 2 0 0)]) (fun a=>rdO b a.q::a.T) (L6I b X fF l.length (p+1) (p+200000100) rowsF) (fun a=>a.i) ⟨n1,q+1,T0++[vt [2,4,1,0]],l⟩ (hI0 _ _ _ hn1 (by omega) (by omega)) ?_ ?_
 ·have e:∀z,(AO.row 1 [[AV.nils]]::(os++[AO.row 1 [[AV.sl (fF+1) 3 0 l.length]],z]))=T0++[z]:=fun z=>by rw[hT0];simp
  simp only[vt,Sb,List.map_nil,e]
  refine eX (by simp) ?_
  simp[below]
  subst hT0;simp;omega
 clear hI0 hT0 hF hI
 rintro⟨i,q1,T,l1⟩ hA
 have hXl:=hA.lt
 have tX:=hA.tX
 have tF:=hA.tF
 have tx0:T[0]?=some (.row 1 [[.nils]]):=hA.t0
 have hl1:l1.length=l.length:=hA.len
 have hq1:=hA.q1
 have hq2:=hA.q2
 simp only at hq1 hq2 hXl tX tF
 simp-implicitDefEqProofs[tX]
 refine bf (fun hc=>?_) (fun hc=>?_)
 ·simp at hc
  obtain⟨i,rfl⟩:∃j,i=j+1:=⟨i-1,by omega⟩
  have hwi:IntKind.i64.wrap (i:Int)=(i:Int):=af (by omega) (by omega)
  have stp:∀(q':Nat) (T':List AO) (l':List Fd) (sl:List (Nat × AV)),L6I b X fF l.length (p+1) (p+200000100) rowsF ⟨i,q',T',l'⟩→Aw.look sl 4= .p (.int .i64 (IntKind.i64.wrap (i:Int)))→Aw.look sl 3= .ptr (X+1) 1 0 0→Aw.look sl 2= .ptr 1 1 0 0→Aw.look sl 0= .ptr 0 2 0 0→
   ∃a:L6S,L6I b X fF l.length (p+1) (p+200000100) rowsF a∧a.i<i+1∧Wk 1 (am 157 sl) (rdO b q'::T') (am 157 [(4,.p (.int .i64 a.i)),(3,.ptr (X+1) 1 0 0),(2,.ptr 1 1 0 0),(0,.ptr 0 2 0 0)]) (rdO b a.q::a.T):=fun q' T' l' sl hA' e4 e3 e2 e0=>by
   have hx:=hA'.lt
   simp only at hx
   refine⟨⟨i,q',T',l'⟩,hA',by simp only;omega,eX (by simp) ?_⟩
   simp[below,e4,e3,e2,e0,hwi]
   omega
  simp-implicitDefEqProofs[tX]
  refine(aZ G b hb hl q1 (by omega) l.length _).mono ?_
  rintro r h ⟨k,rfl,rfl,hk⟩
  have hkl:k<l.length:=by omega
  have hgk:=RA (show k<l1.length by omega)
  generalize l1[k]=f at hgk
  obtain⟨J0,hR0,hJ0⟩:=hA.row (q1+1)
  obtain⟨A,B,IB,g1,g2,g3,g4,_⟩:=td hR0 hgk
  simp-implicitDefEqProofs[aa,tX,tF,hkl,g1]
  rcases g2.inv g3 with⟨h0,_,rfl|rfl⟩|⟨h0,_⟩|⟨idB,rowsB,JB,rfl,rfl,hB⟩
  ·simp-implicitDefEqProofs[tX,tF]
   exact stp _ _ _ _ (by have:=hA.same (q1+1) [] (by omega) (by omega);simpa using this) (by simp) (by simp) (by simp) (by simp)
  ·simp-implicitDefEqProofs[tX,tF]
   exact stp _ _ _ _ (by have:=hA.same (q1+1) [] (by omega) (by omega);simpa using this) (by simp) (by simp) (by simp) (by simp)
  ·cases h0
  rw[RX] at*
  simp-implicitDefEqProofs[tX,tF,g1]
  by_cases hbe:f.body.length=0
  ·simp-implicitDefEqProofs[hbe,tX,tF]
   exact stp _ _ _ _ (by have:=hA.same (q1+1) [] (by omega) (by omega);simpa using this) (by simp) (by simp) (by simp) (by simp)
  have hpos:0<f.body.length:=by omega
  simp-implicitDefEqProofs[hpos,tX,tF,g1]
  refine(aZ G b hb hl (q1+1) (by omega) f.body.length _).mono ?_
  rintro r h ⟨j,rfl,rfl,hj⟩
  have hjl:j<f.body.length:=by omega
  have hgj:=RA hjl
  generalize f.body[j]=x at hgj
  obtain⟨A2,fB,rowsB2,fA,B1,E1,rowsA,r0,p1,p2,p3,p4,p5,p6,p7⟩:=hA.put hgk hgj
  obtain⟨z1,z2,z3,z4,rfl⟩:∃z1 z2 z3 z4,r0=[z1,z2,z3,z4]:=by
   match r0,p6 with
   |[a,b,c,d],_=>exact⟨a,b,c,d,rfl⟩
  clear p6
  have hB2:=g1.symm.trans p1
  simp only[Option.some.injEq,List.cons.injEq,AV.sl.injEq,true_and,and_true] at hB2
  obtain⟨rfl,rfl⟩:=hB2
  have lA:fA<T.length:=(RB.1 p4).1
  have hne:x.args≠[]:=hA.has f (RI hgk) x (RI hgj)
  have hpa:0<x.args.length:=SI.2 hne
  have num5:∀(q':Nat) (rest:List AO),q'≤1000000000000→AC Tryz.prog G al [.ptr 0 2 0 0,.p (.lst 1 [[.int .i64 0],[.int .i64 1],[.int .i64 5]])] (rdO b q'::rest) fun x h=>∃n,n∈[0,1,5]∧x= .ret (.p (.int .i64 n))∧h=rdO b (q'+1)::rest:=fun q' rest hq'=>Aq G hb hl hq' [0,1,5] (by simp) (by simp) rest
  have gA:∀z,(rdO b z::T)[fA+1]?=some (.row 4 rowsA):=fun z=>by rw[RK];exact p4
  have fin:∀(q':Nat) (n:Int) (sl:List (Nat × AV)),q1≤q'→q'≤q1+5→Aw.look sl 4= .p (.int .i64 (IntKind.i64.wrap (i:Int)))→Aw.look sl 3= .ptr (X+1) 1 0 0→Aw.look sl 2= .ptr 1 1 0 0→Aw.look sl 0= .ptr 0 2 0 0→
   ∃a:L6S,L6I b X fF l.length (p+1) (p+200000100) rowsF a∧a.i<i+1∧Wk 1 (am 157 sl) (rdO b q'::T.set fA (.row 4 (rowsA.set 0 [.p (.int .i64 1),.p (.int .i64 n),.p (.str []),.p (.lst 4 [])]))) (am 157 [(4,.p (.int .i64 a.i)),(3,.ptr (X+1) 1 0 0),(2,.ptr 1 1 0 0),(0,.ptr 0 2 0 0)]) (rdO b a.q::a.T):=fun q' n sl h1 h2 e4 e3 e2 e0=>
   stp q' _ _ sl (by have:=p7 q' [] n h1 h2;simpa[hnx] using this) e4 e3 e2 e0
  by_cases h5:x.op=5∨x.op=3
  ·have h53:x.op=5∨¬x.op=5∧x.op=3:=by omega
   rcases h53 with h5|⟨h5,h3⟩
   ·simp-implicitDefEqProofs[aa,hjl,tX,tF,g1,p2,p3,h5]
    refine(num5 (q1+1+1) _ (by omega)).mono ?_
    rintro r h ⟨n,_,rfl,rfl⟩
    simp-implicitDefEqProofs[aa]
    refine⟨by simp[p2,p3],?_⟩
    refine(gk G n).use ?_
    simp-implicitDefEqProofs[hnx,p2,p3,p4,hpa,p5]
    exact fin _ _ _ (by omega) (by omega) (by simp) (by simp) (by simp) (by simp)
   ·simp-implicitDefEqProofs[aa,hjl,tX,tF,g1,p2,p3,h5,h3]
    refine(num5 (q1+1+1) _ (by omega)).mono ?_
    rintro r h ⟨n,_,rfl,rfl⟩
    simp-implicitDefEqProofs[aa]
    refine⟨by simp[p2,p3],?_⟩
    refine(gk G n).use ?_
    simp-implicitDefEqProofs[hnx,p2,p3,p4,hpa,p5]
    exact fin _ _ _ (by omega) (by omega) (by simp) (by simp) (by simp) (by simp)
  have h5':¬x.op=5:=fun e=>h5 (.inl e)
  have h3':¬x.op=3:=fun e=>h5 (.inr e)
  simp-implicitDefEqProofs[aa,hjl,tX,tF,g1,p2,p3,h5',h3']
  refine(aZ G b hb hl (q1+1+1) (by omega) 3 _).mono ?_
  rintro r h ⟨k3,rfl,rfl,_⟩
  have out:∀(q':Nat) (sl:List (Nat × AV)),q1≤q'→q'≤q1+5→Aw.look sl 4= .p (.int .i64 (IntKind.i64.wrap (i:Int)))→Aw.look sl 3= .ptr (X+1) 1 0 0→Aw.look sl 2= .ptr 1 1 0 0→Aw.look sl 0= .ptr 0 2 0 0→
   ∃a:L6S,L6I b X fF l.length (p+1) (p+200000100) rowsF a∧a.i<i+1∧Wk 1 (am 157 sl) (rdO b q'::T) (am 157 [(4,.p (.int .i64 a.i)),(3,.ptr (X+1) 1 0 0),(2,.ptr 1 1 0 0),(0,.ptr 0 2 0 0)]) (rdO b a.q::a.T):=fun q' sl h1 h2 e4 e3 e2 e0=>
   stp q' _ _ sl (by have:=hA.same q' [] h1 h2;simpa using this) e4 e3 e2 e0
  by_cases c0:k3=0
  ·subst c0
   by_cases c8:x.op=8
   ·simp-implicitDefEqProofs[aa,hjl,tX,tF,g1,p2,p3,c8]
    exact out _ _ (by omega) (by omega) (by simp) (by simp) (by simp) (by simp)
   by_cases c6:x.op=6
   ·simp-implicitDefEqProofs[aa,hjl,tX,tF,g1,p2,p3,c8,c6]
    exact out _ _ (by omega) (by omega) (by simp) (by simp) (by simp) (by simp)
   simp-implicitDefEqProofs[aa,hjl,tX,tF,g1,p2,p3,c8,c6]
   refine(num5 (q1+1+1+1) _ (by omega)).mono ?_
   rintro r h ⟨n,_,rfl,rfl⟩
   simp-implicitDefEqProofs[aa]
   refine⟨by simp[p2,p3],?_⟩
   refine(gk G n).use ?_
   simp-implicitDefEqProofs[hnx,p2,p3,p4,hpa,p5]
   exact fin _ _ _ (by omega) (by omega) (by simp) (by simp) (by simp) (by simp)
  ·simp-implicitDefEqProofs[aa,hjl,tX,tF,g1,p2,p3,c0]
   exact out _ _ (by omega) (by omega) (by simp) (by simp) (by simp) (by simp)
 simp at hc
 subst hc
 have hRw:=hA.row
 have hz1:=hA.z
 simp only at hRw hz1
 have lT:=(RB.1 tx0).1
 have lF:=(RB.1 tF).1
 have hX0:X≠0:=hA.X0
 have endS:∀(s:Bool) (q':Nat) (T':List AO) (l':List Fd) (J':List Nat) (rows':List (List AV)),RowOwn s (rdO b q'::T') (fF+1) 3 rows' (l'.map Fd.cs) J'→(∀i∈(fF+1)::J',2≤i)→l'.length=l.length→aJ l'≤400000000→q1≤q'→q'≤q1+50→DP b (PgQ p 900000000 400500100) (.ret (.agg [.sl (fF+1) 3 0 l.length])) (rdO b q'::T'.set 0 (.row 1 [[.sl (fF+1) 3 0 l.length]])):=fun s q' T' l' J' rows' hR hJ hl' hz' h1 h2=>by
  have tree:=(hR.frame (h':=rdO b q'::T'.set 0 (.row 1 [[.sl (fF+1) 3 0 l.length]])) fun i hi=>by
   have:=hJ i hi
   obtain⟨k,rfl⟩:∃k,i=k+1:=⟨i-1,by omega⟩
   rw[RK,RK,RE (by omega)]).tree (n:=l.length) (by simp[hl'])
  exact⟨_,_,q',.agg [.p (fdL l')],rfl,rfl,.agg (.one ((CL tree (fun i hi=>by have:=hJ i hi;omega) .dead).view 0 _ _ rfl rfl) .nil) .nil,⟨l',rfl,by omega⟩,by omega,by omega⟩
 have s0:∀x,(T.set 0 x)[0]?=some x:=fun x=>RS lT
 simp-implicitDefEqProofs[]
 refine(aZ G b hb hl q1 (by omega) 3 _).mono ?_
 rintro r h ⟨k3,rfl,rfl,_⟩
 simp-implicitDefEqProofs[aa]
 refine bf (fun hc=>?_) (fun hc=>?_)
 case refine_2=>
  simp-implicitDefEqProofs[tX,tx0,s0]
  obtain⟨J0,hR0,hJ0⟩:=hRw (q1+1)
  exact endS _ _ _ _ _ _ hR0 (fun i hi=>(hJ0 i hi).1) hl1 (by omega) (by omega) (by omega)
 have hn1:(l.length:Int)-1=((l.length-1:Nat):Int):=by omega
 have hgk:=RA (show l.length-1<l1.length by omega)
 generalize l1[l.length-1]=f at hgk
 obtain⟨J0,hR0,hJ0⟩:=hRw (q1+1)
 obtain⟨A,B,IB,g1,g2,g3,g4,_⟩:=td hR0 hgk
 have hBc:=(JT g2).2
 have hBl:BG B=some (.p (.int .i64 f.body.length)):=by
  rcases g2.inv g3 with⟨h0,_,rfl|rfl⟩|⟨h0,_⟩|⟨idB,rowsB,JB,rfl,rfl,hB⟩
  ·have:f.body.length=0:=by simpa using congrArg List.length h0
   simp[this]
  ·have:f.body.length=0:=by simpa using congrArg List.length h0
   simp[this]
  ·cases h0
  ·simp
 have hfz:=cJ (RI hgk)
 have hfs:f.sz=1+f.name.length+(f.params.length+(f.params.map List.length).sum)+aq f.body:=rfl
 have hbl:=bk f.body
 have hw1:IntKind.i64.wrap ((l.length:Int)-1)=((l.length-1:Nat):Int):=by rw[af (by omega) (by omega)];omega
 have hkl:l.length-1<l.length:=by omega
 have hw2:IntKind.i64.wrap ((f.body.length:Int)+1)=((f.body.length+1:Nat):Int):=by rw[af (by omega) (by omega)];omega
 simp-implicitDefEqProofs[-AV.isCell,-AV.cells,tX,tF,g1,hBc,hBl,hw1,hw2,hkl]
 refine⟨rfl,?_⟩
 refine(aZ G b hb hl (q1+1) (by omega) ((f.body.length:Int)+1) _).mono ?_
 rintro r h ⟨at_,rfl,rfl,hat⟩
 have hat2:at_≤f.body.length:=by omega
 simp-implicitDefEqProofs[aa]
 refine(kq G hb hl (p:=q1+1+1) (by omega) [7,6,5] (k:=T.length+1) (by simp) (by simp) (by omega) rfl (by simp[vt])).mono ?_
 rintro r h ⟨n7,hn7,rfl,rfl⟩
 have aX:∀os,(T++os)[X]?=some (.row 1 [[.sl (fF+1) 3 0 l.length]]):=fun os=>by rw[RD hXl];exact tX
 simp-implicitDefEqProofs[aa]
 refine(aZ G b hb hl (q1+1+1+1) (by omega) 2 _).mono ?_
 rintro r h ⟨m1,rfl,rfl,_⟩
 simp-implicitDefEqProofs[aa]
 refine(aZ G b hb hl (q1+1+1+1+1) (by omega) 2 _).mono ?_
 rintro r h ⟨m2,rfl,rfl,_⟩
 simp-implicitDefEqProofs[aa]
 obtain⟨nz,hnz⟩:∃nz,nz=IntKind.i64.wrap ((m1:Int)*m2):=⟨_,rfl⟩
 rw[←hnz]
 clear hnz
 refine(gk G nz).use ?_
 simp only[hnx]
 simp-implicitDefEqProofs[]
 refine ox (fun a:CutS=>am 157 [(9,.ptr (a.x+1) 5 0 0),(8,.p (.int .i64 at_)),(7,.ptr (fF+1) 3 (l.length-1) 0),(3,.ptr (X+1) 1 0 0),(2,.ptr 1 1 0 0),(0,.ptr 0 2 0 0)]) (fun a=>rdO b a.q::a.T) (CutI q1 T) ?_ ?_
 ·simp-implicitDefEqProofs[]
  refine bf (fun h7=>?_) (fun h7=>?_)
  case refine_2=>
   have h7:n7=7:=by simpa using h7
   subst h7
   simp-implicitDefEqProofs[]
   refine⟨⟨q1+1+1+1+1+1,T++[.dead,.dead,.row 5 [(Sm.mk 7 [] [co nz] [] []).cs.map .p]],⟨7,[],[co nz],[],[]⟩,T.length+2⟩,⟨by simp only;omega,by simp only;omega,Fr.more _ _ _,by simp,by simp,by simp[Sm.sz,bC,aq,co,Ex.sz]⟩,?_⟩
   refine zd (pre:=rdO b (q1+1+1+1+1+1)::T) (suf:=[_,_,_]) (by simp) (.drop (.give (.one ?_ .nil))) ?_
   ·rw[Sm.cs_eq]
    refine .keep (by simp) (.keep (by simp) (.one ?_ (.one (.nils 5) (.one (.nils 5) .nil))))
    exact iH (ls:=[(co nz).cs]) (by simp[hnx]) rfl (by simp)
   ·refine⟨.keep ?_ .nil,.keep trivial .nil,.keep ?_ .nil,.keep ?_ .nil,.keep ?_ .nil,.keep ?_ .nil,trivial⟩<;>simp[below]<;>omega
  have h7:¬n7=7:=by simpa using h7
  simp-implicitDefEqProofs[]
  refine(gk G 9).use ?_
  simp only[hnx]
  simp-implicitDefEqProofs[]
  have hS9:∀hF:List AO,hF[T.length+4]?=some (.row 4 [[.p (.int .i64 1),.p (.int .i64 9),.p (.str []),.p (.lst 4 [])]])→hF[T.length+5]?=some (.row 5 [[.p (.int .i64 3),.p (.str []),.sl (T.length+4) 4 0 1,.nils,.nils]])→View hF (.sl (T.length+5) 5 0 1) (smL [⟨3,[],[co 9],[],[]⟩]):=fun hF e1 e2=>by
   have o1:OwnL false hF [.sl (T.length+4) 4 0 1] [exL [co 9]] [T.length+4]:=by
    refine OwnL.sl (J:=[]) (I:=[]) (T.length+4) 4 1 _ _ e1 rfl rfl (by simp) (by simp) ?_ .nil
    simp only[Sb,List.map_nil,hnx,SD,List.flatten_nil,Ss]
    exact .p _ (fun _=>rfl) (.p _ (fun _=>rfl) (.p _ (fun _=>rfl) (.p _ (fun _=>rfl) .nil)))
   have o2:OwnL false hF [.sl (T.length+5) 5 0 1] [smL [⟨3,[],[co 9],[],[]⟩]] [T.length+5,T.length+4]:=by
    refine OwnL.sl (J:=[T.length+4]) (I:=[]) (T.length+5) 5 1 _ _ e2 rfl rfl (by simp) (by simp) ?_ .nil
    have:=CP (s:=false) (o:=3) (w:=[]) (b:=[]) (e:=[]) o1 (.nils 5 .nil) (.nils 5 .nil)
    simpa using this
   exact o2.view 0 _ _ rfl rfl
  have fin5:∀(o nz':Int) (x0:AO) (sl:List (Nat × AV)),Aw.look sl 9= .ptr (T.length+2+1) 5 0 0→Aw.look sl 8= .p (.int .i64 at_)→Aw.look sl 7= .ptr (fF+1) 3 (l.length-1) 0→Aw.look sl 3= .ptr (X+1) 1 0 0→Aw.look sl 2= .ptr 1 1 0 0→Aw.look sl 0= .ptr 0 2 0 0→
   ∃s:CutS,CutI q1 T s∧Wk 1 (am 157 sl) (rdO b (q1+1+1+1+1+1)::(T++[x0,.row 4 [[.p (.int .i64 1),.p (.int .i64 nz'),.p (.str []),.p (.lst 4 [])]],.row 5 [[.p (.int .i64 o),.p (.str []),.sl (T.length+1+1) 4 0 1,.sl (T.length+4+1) 5 0 1,.nils]],
    .row 4 [[.p (.int .i64 1),.p (.int .i64 9),.p (.str []),.p (.lst 4 [])]],.row 5 [[.p (.int .i64 3),.p (.str []),.sl (T.length+3+1) 4 0 1,.nils,.nils]]])) (am 157 [(9,.ptr (s.x+1) 5 0 0),(8,.p (.int .i64 at_)),(7,.ptr (fF+1) 3 (l.length-1) 0),(3,.ptr (X+1) 1 0 0),(2,.ptr 1 1 0 0),(0,.ptr 0 2 0 0)]) (rdO b s.q::s.T):=fun o nz' x0 sl e9 e8 e7 e3 e2 e0=>by
   refine⟨⟨q1+1+1+1+1+1,T++[.dead,.dead,.row 5 [(Sm.mk o [] [co nz'] [⟨3,[],[co 9],[],[]⟩] []).cs.map .p],.dead,.dead],⟨o,[],[co nz'],[⟨3,[],[co 9],[],[]⟩],[]⟩,T.length+2⟩,⟨by simp only;omega,by simp only;omega,Fr.more _ _ _,by simp,by simp,by simp[Sm.sz,bC,aq,co,Ex.sz]⟩,?_⟩
   refine zd (pre:=rdO b (q1+1+1+1+1+1)::T) (suf:=[_,_,_,_,_]) (by simp) (.drop (.give (.one ?_ (.give (.give .nil))))) ?_
   ·rw[Sm.cs_eq]
    refine .keep (by simp) (.keep (by simp) (.one ?_ (.one ?_ (.one (.nils 5) .nil))))
    ·exact iH (ls:=[(co nz').cs]) (by simp[hnx]) rfl (by simp)
    ·refine hS9 _ ?_ ?_
     ·simp
     ·simp
   ·simp only[FzA,e9,e8,e7,e3,e2,e0]
    refine⟨.keep ?_ .nil,.keep trivial .nil,.keep ?_ .nil,.keep ?_ .nil,.keep ?_ .nil,.keep ?_ .nil,trivial⟩<;>simp[below]<;>omega
  refine bf (fun h6=>?_) (fun h6=>?_)
  ·have h6:n7=6:=by simpa using h6
   subst h6
   simp-implicitDefEqProofs[]
   refine(gk G 0).use ?_
   simp only[hnx]
   simp-implicitDefEqProofs[]
   exact fin5 _ _ _ _ (by simp) (by simp) (by simp) (by simp) (by simp) (by simp)
  ·exact fin5 _ _ _ _ (by simp) (by simp) (by simp) (by simp) (by simp) (by simp)
 clear tX tF tx0 aX s0 hBl
 rintro⟨q3,T2,x,y⟩ ⟨c1,c2,c3,c4,c5,c6⟩
 simp only at c1 c2 c3 c4 c5 c6
 have k2:∀i,i<T.length→T2[i]?=T[i]?:=fun i hi=>c3.2 i hi (by simp)
 have k1:=c3.1
 have uX:T2[X]?=some (.row 1 [[.sl (fF+1) 3 0 l.length]]):=by rw[k2 X hXl];exact hA.tX
 have uF:T2[fF]?=some (.row 3 rowsF):=by rw[k2 fF lF];exact hA.tF
 have u0:T2[0]?=some (.row 1 [[.nils]]):=by rw[k2 0 lT];exact hA.t0
 have hxc:x.cs.length=5:=x.cs_len
 have lY:=(RB.1 c4).1
 have hR2:∀q',RowOwn true (rdO b q'::T2) (fF+1) 3 rowsF (l1.map Fd.cs) J0:=fun q'=>(Ef (q':=q') hR0 fun i hi=>(hJ0 i hi).1).frame fun i hi=>by
  have h2:=(hJ0 i hi).1
  have hlt:i<T.length+1:=by
   rcases RY.1 hi with rfl|hi
   ·have:=hR0.lt;simpa using this
   ·have:=hR0.own.lt hi;simpa using this
  obtain⟨k,rfl⟩:∃k,i=k+1:=⟨i-1,by omega⟩
  rw[RK,RK,k2 k (by omega)]
 have lF2:fF<T2.length:=by omega
 have vX:∀os,(T2++os)[X]?=some (.row 1 [[.sl (fF+1) 3 0 l.length]]):=fun os=>by rw[RD (by omega)];exact uX
 have vF:∀os,(T2++os)[fF]?=some (.row 3 rowsF):=fun os=>by rw[RD (by omega)];exact uF
 have v0:∀os,(T2++os)[0]?=some (.row 1 [[.nils]]):=fun os=>by rw[RD (by omega)];exact u0
 have vY:∀os,(T2++os)[y]?=some (.row 5 [x.cs.map .p]):=fun os=>by rw[RD lY];exact c4
 have hF2:=(hJ0 (fF+1) (by simp))
 have fF0:fF≠0:=by omega
 have fFX:fF≠X:=by omega
 have wX:∀os z,((T2++os).set fF z)[X]?=some (.row 1 [[.sl (fF+1) 3 0 l.length]]):=fun os z=>by rw[RE fFX];exact vX os
 have w0:∀os z,((T2++os).set fF z)[0]?=some (.row 1 [[.nils]]):=fun os z=>by rw[RE fF0];exact v0 os
 have z0:∀os z w,(((T2++os).set fF z).set 0 w)[0]?=some w:=fun os z w=>RS (by simp;omega)
 obtain⟨A',B',IB',i1,i2,i3,i4,i5⟩:=td (JX (hR2 q3)) hgk
 rw[g1] at i1
 simp only[Option.some.injEq,List.cons.injEq,and_true,true_and] at i1
 obtain⟨rfl,rfl⟩:=i1
 have finB:∀(rows5:List (List AV)) (body':List Sm) (JB5:List Nat) (n5:Nat),n5=body'.length→rows5.length=body'.length→OwnL false (rdO b q3::T2) rows5.flatten (body'.map Sm.cs).flatten JB5→(∀e∈rows5,e.length=5)→JB5.Nodup→(∀j∈JB5,j∈IB')→aq body'≤aq f.body+100→
  DP b (PgQ p 900000000 400500100) (.ret (.agg [.sl (fF+1) 3 0 l.length])) (rdO b q3::(((T2++[AO.dead,AO.dead,AO.dead,AO.row 5 rows5]).set fF (.row 3 (rowsF.set (l.length-1) [.p (.str f.name),A,.sl (T2.length+3+1) 5 0 n5]))).set 0 (.row 1 [[.sl (fF+1) 3 0 l.length]]))):=fun rows5 body' JB5 n5 e0 e1 e2 e3 e4 e5 e6=>by
  subst e0
  have eN:(rdO b q3::(T2++[AO.dead,AO.dead,AO.dead,AO.row 5 rows5]).set fF (.row 3 (rowsF.set (l.length-1) [.p (.str f.name),A,.sl (T2.length+3+1) 5 0 body'.length])))[T2.length+3+1]?=some (.row 5 rows5):=by
   rw[RK,RE (by omega),RP (by omega)];simp
  have eO:OwnL false (rdO b q3::(T2++[AO.dead,AO.dead,AO.dead,AO.row 5 rows5]).set fF (.row 3 (rowsF.set (l.length-1) [.p (.str f.name),A,.sl (T2.length+3+1) 5 0 body'.length]))) rows5.flatten (body'.map Sm.cs).flatten JB5:=e2.frame fun i hi=>by
   have h1:=e2.lt hi
   have h2:=(i4 i (e5 i hi)).2
   cases i with
   |zero=>rfl
   |succ i=>
    rw[RK,RK,RE (by omega),RD (by simpa using h1)]
  have tree:=OwnL.sl (T2.length+3+1) 5 body'.length rows5 (body'.map Sm.cs) eN (by simp) (by simpa using e1) e3 (fun e he=>by obtain⟨x,_,rfl⟩:=RU.1 he;simp) eO .nil
  rw[Ss] at tree
  have hlt:∀j∈JB5,j<T2.length+1:=fun j hj=>by have:=e2.lt hj;simpa using this
  obtain⟨J',r1,r2⟩:=i5 (rdO b q3::(T2++[AO.dead,AO.dead,AO.dead,AO.row 5 rows5]).set fF (.row 3 (rowsF.set (l.length-1) [.p (.str f.name),A,.sl (T2.length+3+1) 5 0 body'.length]))) _ body' _ (by
   rw[RK,RS (by simp;omega)]) (fun j j1 j2 j3=>by
   cases j with
   |zero=>rfl
   |succ j=>
    rw[RK,RK,RE (by omega),RD (by simpa using j1)]) tree
   (Sy.2 ⟨fun hm=>by have:=hlt _ hm;omega,e4⟩) (fun j hj=>by
     rcases RY.1 hj with rfl|hj
     ·exact .inr (by simp)
     ·exact .inl (e5 j hj))
  have hput:=Ci ⟨f.name,f.params,body'⟩ hgk
  have hz':(Fd.mk f.name f.params body').sz=1+f.name.length+(f.params.length+(f.params.map List.length).sum)+aq body':=rfl
  refine endS false q3 _ _ J' _ r1 (fun i hi=>?_) (by simp[hl1]) (by omega) (by omega) (by omega)
  rcases RY.1 hi with rfl|hi
  ·exact hF2.1
  ·rcases r2 i hi with g|g
   ·exact(hJ0 i (by simp[g])).1
   ·simp at g;omega
 have v0g:∀os (hh:0<(T2++os).length),(T2++os)[0]= .row 1 [[.nils]]:=fun os hh=>(RB.1 (v0 os)).2
 have w0g:∀os z (hh:0<((T2++os).set fF z).length),((T2++os).set fF z)[0]= .row 1 [[.nils]]:=fun os z hh=>(RB.1 (w0 os z)).2
 have z0g:∀os z w (hh:0<(((T2++os).set fF z).set 0 w).length),(((T2++os).set fF z).set 0 w)[0]=w:=fun os z w hh=>(RB.1 (z0 os z w)).2
 rcases i2.inv i3 with⟨h0,_,rfl|rfl⟩|⟨_,rfl,_⟩|⟨idB,rowsB,JB,rfl,rfl,hB⟩
 ·have hb0:f.body.length=0:=by simpa using congrArg List.length h0
  have ha0:at_=0:=by omega
  subst ha0
  simp-implicitDefEqProofs[v0g,w0g,z0g,uX,uF,u0,c4, ↓vX, ↓vF, ↓v0, ↓vY, ↓wX, ↓w0, ↓z0,g1,hxc,mT,RG (show x.cs.length≤5 by omega)]
  refine finB [x.cs.map .p] [x] [] 1 rfl rfl ?_ (by simp) .nil (by simp) ?_
  ·simpa using pN x.cs
  ·simp[aq];omega
 ·have hb0:f.body.length=0:=by simpa using congrArg List.length h0
  have ha0:at_=0:=by omega
  subst ha0
  simp-implicitDefEqProofs[v0g,w0g,z0g,uX,uF,u0,c4, ↓vX, ↓vF, ↓v0, ↓vY, ↓wX, ↓w0, ↓z0,g1,hxc,mT,RG (show x.cs.length≤5 by omega)]
  refine finB [x.cs.map .p] [x] [] 1 rfl rfl ?_ (by simp) .nil (by simp) ?_
  ·simpa using pN x.cs
  ·simp[aq];omega
 ·have hD:f.body.map Sm.cs=[]:=by
   cases g2 with
   |p _ hq _=>
    have:=hq rfl
    cases hb:f.body with
    |nil=>rfl
    |cons a r=>rw[hb] at this;simp[smL,Jz] at this
  have hb0:f.body.length=0:=by simpa using congrArg List.length hD
  have ha0:at_=0:=by omega
  subst ha0
  rw[hD] at g1
  simp-implicitDefEqProofs[v0g,w0g,z0g,uX,uF,u0,c4, ↓vX, ↓vF, ↓v0, ↓vY, ↓wX, ↓w0, ↓z0,g1,hxc,mT,RG (show x.cs.length≤5 by omega)]
  refine finB [x.cs.map .p] [x] [] 1 rfl rfl ?_ (by simp) .nil (by simp) ?_
  ·simpa using pN x.cs
  ·simp[aq];omega
 ·have ha5:(fF+1)≠idB:=fun e=>(i4 idB (by simp)).2 e.symm
  have hid2:=(hJ0 idB (by simp[(i4 idB (by simp)).1]))
  obtain⟨fB,rfl⟩:∃fB,idB=fB+1:=⟨idB-1,by omega⟩
  rw[RX] at*
  have uB:T2[fB]?=some (.row 5 rowsB):=by have:=hB.here;simpa using this
  have lB:=(RB.1 uB).1
  have hrl:rowsB.length=f.body.length:=by have:=hB.len;simpa using this
  have vB:∀os,(T2++os)[fB]?=some (.row 5 rowsB):=fun os=>by rw[RD (by omega)];exact uB
  simp-implicitDefEqProofs[v0g,w0g,z0g,uX,uF,u0,uB,c4, ↓vX, ↓vF, ↓v0, ↓vY, ↓vB, ↓wX, ↓w0, ↓z0,g1,hxc,mT,hat2,hrl,RG (show x.cs.length≤5 by omega)]
  refine⟨⟨by omega,by omega⟩,⟨by omega,by omega⟩,⟨by omega,by omega⟩,?_⟩
  have q1:List.take (at_+1) (List.take at_ (List.take at_ rowsB)++[List.map AV.p x.cs])=rowsB.take at_++[x.cs.map .p]:=by
   rw[List.take_take,Nat.min_self,RG (by simp;omega)]
  have q2:List.take (f.body.length-at_) (List.drop at_ rowsB)=rowsB.drop at_:=RG (by simp[hrl])
  rw[q1,q2]
  have o1:=hB.own
  rw[←Sk at_ rowsB,←Sk at_ (f.body.map Sm.cs),SC,SC] at o1
  have hl5:((rowsB.take at_).flatten).length=(((f.body.map Sm.cs).take at_).flatten).length:=by
   rw[oV (sz:=5) (fun e he=>hB.rl e (Sv he)),oV (sz:=5) (fun e he=>hB.dl e (Sv he))]
   simp[hrl]
  obtain⟨Ia,Ib,hIab,o2,o3⟩:=OwnL.split o1 hl5
  have o4:=o2.app ((pN (h:=rdO b q3::T2) x.cs).app o3)
  rw[List.nil_append,←hIab] at o4
  have nB:=hB.nd
  rw[Sy] at nB
  refine finB _ (f.body.take at_++x::f.body.drop at_) JB _ (by simp;omega) (by simp[hrl]) ?_ ?_ nB.2 (fun j hj=>by simp[hj]) ?_
  ·simpa[SC,List.map_take,List.map_drop] using o4
  ·intro e he
   simp only[RJ,RM] at he
   rcases he with(he|he)|he
   ·exact hB.rl e (Sv he)
   ·rw[he];simp
   ·exact hB.rl e (List.mem_of_mem_drop he)
  ·have e1:aq f.body=aq (f.body.take at_)+aq (f.body.drop at_):=by rw[←bO,Sk]
   rw[bO,aq]
   omega
end
section
def K_spec_l6Part:AK:= .seq (.reg [oJ 1 (.box 4 (.t 0)),oJ 2 (.alloc [(.p (.int .i64 0)),(.p (.int .i64 0)),(.p (.str [])),.nils])]) (.seq (.seq (.reg [oF 8 3 1,oL 9 8,oJ 10 (.len false (.t 9)),oJ 11 (.bin .eql (.t 10) (.c (.p (.int .i64 1)))),oM 12 11,⟨(some 13),some (12,true),.fldA 0 (.t 1)⟩,⟨(some 14),some (12,true),.ld none (.t 13)⟩,⟨(some 15),some (12,true),.bin .eql (.t 14) (.c (.p (.int .i64 11)))⟩,oJ 16 (.pick (.t 12) (.t 15) (.c (.p (.bool false))))]) (.cond (.t 16) (.seq (.reg [oF 17 3 1,oL 18 17,oJ 19 (.idxS 4 (.t 18) (.c (.p (.int .i64 0)))),oJ 20 (.ld (some 4) (.t 19)),oJ 3 (.alloc [(.p (.int .i64 0)),(.p (.int .i64 0)),(.p (.str [])),.nils]),⟨none,none,.st 4 (.t 3) (.t 20)⟩]) (.seq (.seq (.reg [oF 21 0 3,oL 22 21,oJ 23 (.bin .eql (.t 22) (.c (.p (.int .i64 1))))]) (.cond (.t 23) (.seq (.reg [oF 24 1 3,oL 25 24,oJ 26 (.bin .eql (.t 25) (.c (.p (.int .i64 0)))),oJ 27 (.call cX [(.t 26)]),oJ 28 (.call bc [(.t 27)]),⟨none,none,.st 4 (.t 2) (.t 28)⟩]) (.ret)) (.skip))) (.seq (.seq (.reg [oF 29 0 3,oL 30 29,oJ 31 (.bin .eql (.t 30) (.c (.p (.int .i64 11)))),oM 32 31,⟨(some 33),some (32,true),.fldA 3 (.t 3)⟩,⟨(some 34),some (32,true),.ld none (.t 33)⟩,⟨(some 35),some (32,true),.idxS 4 (.t 34) (.c (.p (.int .i64 0)))⟩,⟨(some 36),some (32,true),.fldA 0 (.t 35)⟩,⟨(some 37),some (32,true),.ld none (.t 36)⟩,⟨(some 38),some (32,true),.bin .eql (.t 37) (.c (.p (.int .i64 11)))⟩,oJ 39 (.pick (.t 32) (.t 38) (.c (.p (.bool false))))]) (.cond (.t 39) (.seq (.reg [oF 40 3 3,oL 41 40,oJ 42 (.idxS 4 (.t 41) (.c (.p (.int .i64 0)))),oJ 43 (.ld (some 4) (.t 42)),⟨none,none,.st 4 (.t 2) (.t 43)⟩]) (.ret)) (.skip))) (.seq (.reg [oJ 44 (.ld (some 4) (.t 1)),⟨none,none,.st 4 (.t 2) (.t 44)⟩]) (.ret))))) (.skip))) (.seq (.seq (.reg [oF 45 0 1,oL 46 45,oJ 47 (.call cn [(.t 46),(.c (.p (.int .i64 3))),(.c (.p (.int .i64 10)))]),oJ 48 (.not (.t 47))]) (.cond (.t 48) (.seq (.reg [oJ 49 (.ld (some 4) (.t 1)),⟨none,none,.st 4 (.t 2) (.t 49)⟩]) (.ret)) (.skip))) (.seq (.reg [oF 50 3 1,oL 51 50,oJ 52 (.idxS 4 (.t 51) (.c (.p (.int .i64 0)))),oJ 53 (.ld (some 4) (.t 52)),oJ 4 (.alloc [(.p (.int .i64 0)),(.p (.int .i64 0)),(.p (.str [])),.nils]),⟨none,none,.st 4 (.t 4) (.t 53)⟩]) (.seq (.reg [oF 54 3 1,oL 55 54,oJ 56 (.idxS 4 (.t 55) (.c (.p (.int .i64 1)))),oJ 57 (.ld (some 4) (.t 56)),oJ 5 (.alloc [(.p (.int .i64 0)),(.p (.int .i64 0)),(.p (.str [])),.nils]),⟨none,none,.st 4 (.t 5) (.t 57)⟩]) (.cut (.seq (.reg [oF 58 0 4,oL 59 58,oJ 60 (.bin .eql (.t 59) (.c (.p (.int .i64 1)))),oM 61 60,⟨(some 62),some (61,true),.fldA 0 (.t 5)⟩,⟨(some 63),some (61,true),.ld none (.t 62)⟩,⟨(some 64),some (61,true),.bin .eql (.t 63) (.c (.p (.int .i64 1)))⟩,oJ 65 (.pick (.t 61) (.t 64) (.c (.p (.bool false))))]) (.cond (.t 65) (.seq (.reg [oJ 67 (.ld (some 4) (.t 1)),oJ 68 (.call eq [(.t 67),(.c .nils),(.c .nils)]),oM 66 68,oJ 69 (.ext 0 (.t 66)),oJ 70 (.ext 1 (.t 66)),oM 6 69,oM 7 70]) (.seq (.reg [oM 71 7,oJ 72 (.bin .eql (.t 71) (.c (.p (.int .i64 0))))]) (.cond (.t 72) (.seq (.reg [oM 73 6,oJ 74 (.call bc [(.t 73)]),⟨none,none,.st 4 (.t 2) (.t 74)⟩]) (.ret)) (.skip)))) (.skip))) (.seq (.blk 0 (.seq (.reg [oF 76 0 1,oL 77 76,oJ 78 (.bin .eql (.t 77) (.c (.p (.int .i64 10)))),oM 79 78,⟨(some 80),some (79,true),.ld (some 4) (.t 4)⟩,⟨(some 81),some (79,true),.call bs [(.t 80),(.c (.p (.int .i64 0)))]⟩,oJ 82 (.pick (.t 79) (.t 81) (.c (.p (.bool false)))),oM 75 82]) (.cond (.t 75) (.seq (.reg [oJ 83 (.call bc [(.c (.p (.int .i64 0)))]),⟨none,none,.st 4 (.t 2) (.t 83)⟩]) (.ret)) (.seq (.seq (.reg [oJ 85 (.ld (some 4) (.t 5)),oJ 86 (.call bs [(.t 85),(.c (.p (.int .i64 0)))]),oM 87 86,⟨(some 88),some (87,true),.fldA 0 (.t 1)⟩,⟨(some 89),some (87,true),.ld none (.t 88)⟩,⟨(some 90),some (87,true),.bin .eql (.t 89) (.c (.p (.int .i64 3)))⟩,⟨(some 91),some (87,true),.mov (.t 90)⟩,⟨(some 92),some (91,false),.fldA 0 (.t 1)⟩,⟨(some 93),some (91,false),.ld none (.t 92)⟩,⟨(some 94),some (91,false),.bin .eql (.t 93) (.c (.p (.int .i64 4)))⟩,⟨(some 95),some (87,true),.pick (.t 91) (.c (.p (.bool true))) (.t 94)⟩,oJ 96 (.pick (.t 87) (.t 95) (.c (.p (.bool false)))),oM 84 96]) (.cond (.t 84) (.skip) (.reg [oJ 97 (.ld (some 4) (.t 5)),oJ 98 (.call bs [(.t 97),(.c (.p (.int .i64 1)))]),oM 99 98,⟨(some 100),some (99,true),.fldA 0 (.t 1)⟩,⟨(some 101),some (99,true),.ld none (.t 100)⟩,⟨(some 102),some (99,true),.bin .eql (.t 101) (.c (.p (.int .i64 5)))⟩,⟨(some 103),some (99,true),.mov (.t 102)⟩,⟨(some 104),some (103,false),.fldA 0 (.t 1)⟩,⟨(some 105),some (103,false),.ld none (.t 104)⟩,⟨(some 106),some (103,false),.bin .eql (.t 105) (.c (.p (.int .i64 6)))⟩,⟨(some 107),some (99,true),.pick (.t 103) (.c (.p (.bool true))) (.t 106)⟩,oJ 108 (.pick (.t 99) (.t 107) (.c (.p (.bool false)))),oM 84 108]))) (.cond (.t 84) (.seq (.reg [oJ 109 (.ld (some 4) (.t 4)),⟨none,none,.st 4 (.t 2) (.t 109)⟩]) (.ret)) (.seq (.seq (.reg [oJ 111 (.ld (some 4) (.t 4)),oJ 112 (.call bs [(.t 111),(.c (.p (.int .i64 0)))]),oM 113 112,⟨(some 114),some (113,true),.fldA 0 (.t 1)⟩,⟨(some 115),some (113,true),.ld none (.t 114)⟩,⟨(some 116),some (113,true),.bin .eql (.t 115) (.c (.p (.int .i64 3)))⟩,oJ 117 (.pick (.t 113) (.t 116) (.c (.p (.bool false)))),oM 110 117]) (.cond (.t 110) (.skip) (.reg [oJ 118 (.ld (some 4) (.t 4)),oJ 119 (.call bs [(.t 118),(.c (.p (.int .i64 1)))]),oM 120 119,⟨(some 121),some (120,true),.fldA 0 (.t 1)⟩,⟨(some 122),some (120,true),.ld none (.t 121)⟩,⟨(some 123),some (120,true),.bin .eql (.t 122) (.c (.p (.int .i64 5)))⟩,oJ 124 (.pick (.t 120) (.t 123) (.c (.p (.bool false)))),oM 110 124]))) (.cond (.t 110) (.seq (.reg [oJ 125 (.ld (some 4) (.t 5)),⟨none,none,.st 4 (.t 2) (.t 125)⟩]) (.ret)) (.seq (.reg [oF 127 0 1,oL 128 127,oJ 129 (.bin .eql (.t 128) (.c (.p (.int .i64 5)))),oM 130 129,⟨(some 131),some (130,true),.ld (some 4) (.t 5)⟩,⟨(some 132),some (130,true),.call bs [(.t 131),(.c (.p (.int .i64 0)))]⟩,⟨(some 133),some (130,true),.mov (.t 132)⟩,⟨(some 134),some (133,true),.ld (some 4) (.t 4)⟩,⟨(some 135),some (133,true),.call dz [(.t 134)]⟩,⟨(some 136),some (130,true),.pick (.t 133) (.t 135) (.c (.p (.bool false)))⟩,⟨(some 137),some (130,true),.mov (.t 136)⟩,⟨(some 138),some (137,false),.ld (some 4) (.t 4)⟩,⟨(some 139),some (137,false),.call bs [(.t 138),(.c (.p (.int .i64 0)))]⟩,⟨(some 140),some (137,false),.mov (.t 139)⟩,⟨(some 141),some (140,true),.ld (some 4) (.t 5)⟩,⟨(some 142),some (140,true),.call dz [(.t 141)]⟩,⟨(some 143),some (137,false),.pick (.t 140) (.t 142) (.c (.p (.bool false)))⟩,⟨(some 144),some (130,true),.pick (.t 137) (.c (.p (.bool true))) (.t 143)⟩,oJ 145 (.pick (.t 130) (.t 144) (.c (.p (.bool false)))),oM 126 145]) (.cond (.t 126) (.seq (.reg [oJ 146 (.call bc [(.c (.p (.int .i64 0)))]),⟨none,none,.st 4 (.t 2) (.t 146)⟩]) (.ret)) (.skip)))))))))) (.seq (.reg [oJ 147 (.ld (some 4) (.t 1)),⟨none,none,.st 4 (.t 2) (.t 147)⟩]) (.ret))))))))
theorem yU:K_spec_l6Part.whole=F_spec_l6Part.ak:=rfl
variable (G:aM)
theorem uu(e:Ex)(h:e.op=1):VF Tryz.prog G eq [.agg (e.cs.map .p),.nils,.nils] (.tup [.p (.int .i64 e.n),.p (.int .i64 0)]):=by
 have hc:=e.cs_eq
 refine AC.go qM ?_
 simp-implicitDefEqProofs[mO,hc,h]
theorem GK(e a b:Ex)(hk:e.kids=[a,b])(ha:a.op=1)(hb:b.op=1)(h3:3≤e.op)(h10:e.op≤10)(va:V5 a.n)(vb:V5 b.n):VF Tryz.prog G eq [.agg (e.cs.map .p),.nils,.nils] (qu (ar5 e.op a.n b.n)):=by
 have hc:=e.cs_eq
 refine AC.go qM ?_
 have hxl:∀l,exL l= .lst 4 (l.map Ex.cs):=fun _=>rfl
 have o1:¬e.op=1:=by omega
 have o2:¬e.op=2:=by omega
 have o11:¬e.op=11:=by omega
 simp-implicitDefEqProofs[mO,hc,o1,o2,hxl,hk]
 refine(uu G a ha).use ?_
 simp-implicitDefEqProofs[o11]
 by_cases o10:e.op=10
 ·by_cases a0:a.n=0
  ·simp-implicitDefEqProofs[o10,a0,ar5,qu,tr5]
  ·simp-implicitDefEqProofs[o10,a0]
   refine(uu G b hb).use ?_
   simp-implicitDefEqProofs[o10]
   refine(qj G _).use ?_
   simp-implicitDefEqProofs[ar5,qu,a0]
 ·simp-implicitDefEqProofs[o10]
  refine(uu G b hb).use ?_
  simp-implicitDefEqProofs[o10]
  have H:=Md G e.op a.n b.n h3 (by omega) va vb
  rw[ar5,if_neg o10]
  cases hq:DZ e.op a.n b.n with
  |none=>
   rw[hq] at H
   simp only[qu] at H
   refine H.use ?_
   simp-implicitDefEqProofs[qu]
  |some q=>
   rw[hq] at H
   simp only[qu] at H
   refine H.use ?_
   simp-implicitDefEqProofs[qu]
theorem IY{d:Nat}{e:Ex}(hf:bp d e=true)(hz:e.sz≤1099511627776):VF Tryz.prog G gE [.agg (e.cs.map .p)] (.agg ((eG e.op e.n e.name e.kids).cs.map .p)):=by
 have hc:=e.cs_eq
 have hxl:∀l,exL l= .lst 4 (l.map Ex.cs):=fun _=>rfl
 have hem:e= .mk e.op e.n e.name e.kids:=by cases e;rfl
 have hzz:=e.sz_eq
 obtain⟨d,rfl⟩:=qn hf
 have hkf:∀a∈e.kids,bp d a=true:=fun a ha=>ga hf ha
 have hks:∀a∈e.kids,a.sz≤1099511627776:=fun a ha=>by have:=aT ha;omega
 have hnc:∀q,(co q).cs=[.int .i64 1,.int .i64 q,.str [],.lst 4 []]:=fun q=>rfl
 refine AC.goK yQ yU ?_
 by_cases o11:e.op=11
 ·obtain⟨l1,l2,_⟩:=ed hf
  rw[o11] at l1 l2
  have e1:loK 11=1:=rfl
  have e2:hiK 11=1:=rfl
  rw[e1] at l1
  rw[e2] at l2
  obtain⟨a,hk⟩:∃a,e.kids=[a]:=by
   match hx:e.kids,l1,l2 with
   |[x],_,_=>exact⟨x,rfl⟩
  have hac:=a.cs_eq
  have hp:eG e.op e.n e.name e.kids=kx e.op e.n e.name a:=by
   unfold eG
   rw[if_neg (by omega),hk]
  rw[hp]
  by_cases a1:a.op=1
  ·rw[kx,if_pos a1]
   simp-implicitDefEqProofs[K_spec_l6Part,F_spec_l6Part,hc,o11,hk,hxl,hac,a1]
   refine(qj G _).use ?_
   simp-implicitDefEqProofs[]
   refine(gk G _).use ?_
   simp-implicitDefEqProofs[hnc]
  ·have same:(∀c,a.kids=[c]→¬(e.op=11∧a.op=11∧c.op=11))→kx e.op e.n e.name a=e:=by
    intro h
    have h0:Ex.mk e.op e.n e.name [a]=e:=by rw[←hk];exact hem.symm
    unfold kx
    rw[if_neg a1]
    split
    ·rename_i c hc'
     split
     ·rename_i h3
      exact(h c hc' ⟨o11,h3⟩).elim
     ·exact h0
    ·exact h0
   by_cases a11:a.op=11
   ·have haf:=hkf a (by rw[hk];simp)
    obtain⟨l1,l2,_⟩:=ed haf
    rw[a11,e1] at l1
    rw[a11,e2] at l2
    obtain⟨c,hkc⟩:∃c,a.kids=[c]:=by
     match hx:a.kids,l1,l2 with
     |[x],_,_=>exact⟨x,rfl⟩
    have hcc:=c.cs_eq
    by_cases c11:c.op=11
    ·have hq:kx e.op e.n e.name a=c:=by
      unfold kx
      rw[if_neg a1,hkc]
      exact if_pos ⟨a11,c11⟩
     rw[hq]
     simp-implicitDefEqProofs[K_spec_l6Part,F_spec_l6Part,hc,o11,hk,hxl,hac,a11,hkc,hcc,c11]
    ·rw[same (fun x hx h=>by rw[hkc] at hx;cases hx;exact c11 h.2.2)]
     simp-implicitDefEqProofs[K_spec_l6Part,F_spec_l6Part,hc,o11,hk,hxl,hac,a11,hkc,hcc,c11]
   ·rw[same (fun x hx h=>a11 h.2.1)]
    simp-implicitDefEqProofs[K_spec_l6Part,F_spec_l6Part,hc,o11,hk,hxl,hac,a1,a11]
 by_cases hr:3≤e.op∧e.op≤10
 case neg=>
  have hp:eG e.op e.n e.name e.kids=e:=by
   obtain⟨_,_,l3,l4⟩:=ed hf
   unfold eG
   split
   ·exact hem.symm
   ·rename_i hn
    split
    ·rename_i a hk
     exact(o11 (KD hf hk hn)).elim
    ·rename_i a b hk
     exact(hr (Cc hf hk hn)).elim
    ·exact hem.symm
  have hin:inR e.op 3 10=false:=by
   simp only[inR,Bool.and_eq_false_iff,decide_eq_false_iff_not];omega
  rw[hp]
  by_cases hl:e.kids.length=1
  ·simp-implicitDefEqProofs[K_spec_l6Part,F_spec_l6Part,hc,o11,hxl,hl]
   refine(pt G _ _ _).use ?_
   simp-implicitDefEqProofs[hin]
  ·have hl':¬(e.kids.length:Int)=1:=by omega
   simp-implicitDefEqProofs[K_spec_l6Part,F_spec_l6Part,hc,o11,hxl,hl']
   refine(pt G _ _ _).use ?_
   simp-implicitDefEqProofs[hin]
 obtain⟨h3,h10⟩:=hr
 obtain⟨a,b,hk⟩:∃a b,e.kids=[a,b]:=by
  obtain⟨l1,l2,_⟩:=ed hf
  have e1:loK e.op=2:=by rw[loK,if_neg (by omega),if_neg (by omega),if_neg (by omega)]
  have e2:hiK e.op=2:=by rw[hiK,if_neg (by omega),if_neg (by omega),if_neg (by omega)]
  rw[e1] at l1
  rw[e2] at l2
  match hx:e.kids,l1,l2 with
  |[a,b],_,_=>exact⟨a,b,rfl⟩
 have hac:=a.cs_eq
 have hbc:=b.cs_eq
 have haf:=hkf a (by rw[hk];simp)
 have hbf:=hkf b (by rw[hk];simp)
 have hp:eG e.op e.n e.name e.kids=mQ e.op e.n e.name a b:=by
  unfold eG
  rw[if_neg (by omega),hk]
 have hin:inR e.op 3 10=true:=by
  simp only[inR,RL,decide_eq_true_eq];omega
 rw[hp]
 simp-implicitDefEqProofs[K_spec_l6Part,F_spec_l6Part,hc,o11,hk,hxl]
 refine(pt G _ _ _).use ?_
 simp-implicitDefEqProofs[hin,hac,hbc]
 have HA0:=wW G a 0
 have HA1:=wW G a 1
 have HB0:=wW G b 0
 have HB1:=wW G b 1
 have HSA:=BT G d a haf (hks a (by rw[hk];simp))
 have HSB:=BT G d b hbf (hks b (by rw[hk];simp))
 rw[hac] at HA0 HA1 HSA
 rw[hbc] at HB0 HB1 HSB
 simp only[Sb,List.map_nil] at HA0 HA1 HB0 HB1 HSA HSB
 refine ox (fun _:Unit=>am 148 [(1,.ptr 0 4 0 0),(2,.ptr 1 4 0 0),(4,.ptr 2 4 0 0),(5,.ptr 3 4 0 0)])
  (fun _=>[.row 4 [[.p (.int .i64 e.op),.p (.int .i64 e.n),.p (.str e.name),.p (.lst 4 [a.cs,b.cs])]],.row 4 [[.p (.int .i64 0),.p (.int .i64 0),.p (.str []),.nils]],.row 4 [[.p (.int .i64 a.op),.p (.int .i64 a.n),.p (.str a.name),.p (exL a.kids)]],.row 4 [[.p (.int .i64 b.op),.p (.int .i64 b.n),.p (.str b.name),.p (exL b.kids)]]])
  (fun _=>(if a.op=1∧b.op=1 then ar5 e.op a.n b.n else none)=none) ?_ ?_
 ·
  by_cases a1:a.op=1
  ·by_cases b1:b.op=1
   ·have H:=GK G e a b hk a1 b1 h3 h10 (tc (jp haf)) (tc (jp hbf))
    rw[hc,hxl,hk] at H
    simp only[Sb,List.map_nil,hac,hbc,a1,b1] at H
    have hp2:∀q,ar5 e.op a.n b.n=some q→mQ e.op e.n e.name a b=co q:=by
     intro q hq
     unfold mQ
     rw[if_pos ⟨a1,b1⟩,hq]
    cases hq:ar5 e.op a.n b.n with
    |none=>
     rw[hq] at H
     simp only[qu] at H
     simp-implicitDefEqProofs[a1,b1,hac,hbc]
     refine H.use ?_
     simp-implicitDefEqProofs[hq]
     exact ae (by simp) (by simp[okO,below]) (by simp[below])
    |some q=>
     rw[hq] at H
     simp only[qu] at H
     rw[hp2 q hq]
     simp-implicitDefEqProofs[a1,b1,hac,hbc]
     refine H.use ?_
     simp-implicitDefEqProofs[]
     refine(gk G _).use ?_
     simp-implicitDefEqProofs[hnc]
   ·simp-implicitDefEqProofs[a1,b1,hac,hbc]
    exact ae (by simp) (by simp[okO,below]) (by simp[below])
  ·simp-implicitDefEqProofs[a1,hac,hbc]
   exact ae (by simp) (by simp[okO,below]) (by simp[below])
 intro _ hn
 have hp2:mQ e.op e.n e.name a b=if e.op=10∧isN a 0=true then co 0 else if(e.op=3∨e.op=4)∧isN b 0=true∨(e.op=5∨e.op=6)∧isN b 1=true then a else if e.op=3∧isN a 0=true∨e.op=5∧isN a 1=true then b
  else if e.op=5∧(isN b 0=true∧eE a=true∨isN a 0=true∧eE b=true) then co 0 else e:=by
  unfold mQ
  rw[hn]
  simp only
  rw[←hk,←hem]
 rw[hp2]
 simp only[hac,hbc]
 have ho:e.op=3∨e.op=4∨e.op=5∨e.op=6∨e.op=7∨e.op=8∨e.op=9∨e.op=10:=by omega
 rcases ho with ho|ho|ho|ho|ho|ho|ho|ho
 ·simp-implicitDefEqProofs[ho]
  refine HB0.use ?_
  by_cases hhb0:isN b 0=true
  ·simp-implicitDefEqProofs[hhb0,ho,hc,hxl,hk,hac,hbc]
  ·simp-implicitDefEqProofs[hhb0,ho,hc,hxl,hk,hac,hbc]
   refine HB1.use ?_
   by_cases hhb1:isN b 1=true
   ·simp-implicitDefEqProofs[hhb1,ho,hc,hxl,hk,hac,hbc]
    refine HA0.use ?_
    by_cases hha0:isN a 0=true
    ·simp-implicitDefEqProofs[hha0,ho,hc,hxl,hk,hac,hbc]
    ·simp-implicitDefEqProofs[hha0,ho,hc,hxl,hk,hac,hbc]
     refine HA1.use ?_
     by_cases hha1:isN a 1=true
     ·simp-implicitDefEqProofs[hha1,ho,hc,hxl,hk,hac,hbc]
     ·simp-implicitDefEqProofs[hha1,ho,hc,hxl,hk,hac,hbc]
   ·simp-implicitDefEqProofs[hhb1,ho,hc,hxl,hk,hac,hbc]
    refine HA0.use ?_
    by_cases hha0:isN a 0=true
    ·simp-implicitDefEqProofs[hha0,ho,hc,hxl,hk,hac,hbc]
    ·simp-implicitDefEqProofs[hha0,ho,hc,hxl,hk,hac,hbc]
     refine HA1.use ?_
     by_cases hha1:isN a 1=true
     ·simp-implicitDefEqProofs[hha1,ho,hc,hxl,hk,hac,hbc]
     ·simp-implicitDefEqProofs[hha1,ho,hc,hxl,hk,hac,hbc]
 ·simp-implicitDefEqProofs[ho]
  refine HB0.use ?_
  by_cases hhb0:isN b 0=true
  ·simp-implicitDefEqProofs[hhb0,ho,hc,hxl,hk,hac,hbc]
  ·simp-implicitDefEqProofs[hhb0,ho,hc,hxl,hk,hac,hbc]
   refine HB1.use ?_
   by_cases hhb1:isN b 1=true
   ·simp-implicitDefEqProofs[hhb1,ho,hc,hxl,hk,hac,hbc]
    refine HA0.use ?_
    by_cases hha0:isN a 0=true
    ·simp-implicitDefEqProofs[hha0,ho,hc,hxl,hk,hac,hbc]
     refine HA1.use ?_
     by_cases hha1:isN a 1=true
     ·simp-implicitDefEqProofs[hha1,ho,hc,hxl,hk,hac,hbc]
     ·simp-implicitDefEqProofs[hha1,ho,hc,hxl,hk,hac,hbc]
    ·simp-implicitDefEqProofs[hha0,ho,hc,hxl,hk,hac,hbc]
     refine HA1.use ?_
     by_cases hha1:isN a 1=true
     ·simp-implicitDefEqProofs[hha1,ho,hc,hxl,hk,hac,hbc]
     ·simp-implicitDefEqProofs[hha1,ho,hc,hxl,hk,hac,hbc]
   ·simp-implicitDefEqProofs[hhb1,ho,hc,hxl,hk,hac,hbc]
    refine HA0.use ?_
    by_cases hha0:isN a 0=true
    ·simp-implicitDefEqProofs[hha0,ho,hc,hxl,hk,hac,hbc]
     refine HA1.use ?_
     by_cases hha1:isN a 1=true
     ·simp-implicitDefEqProofs[hha1,ho,hc,hxl,hk,hac,hbc]
     ·simp-implicitDefEqProofs[hha1,ho,hc,hxl,hk,hac,hbc]
    ·simp-implicitDefEqProofs[hha0,ho,hc,hxl,hk,hac,hbc]
     refine HA1.use ?_
     by_cases hha1:isN a 1=true
     ·simp-implicitDefEqProofs[hha1,ho,hc,hxl,hk,hac,hbc]
     ·simp-implicitDefEqProofs[hha1,ho,hc,hxl,hk,hac,hbc]
 ·simp-implicitDefEqProofs[ho]
  refine HB0.use ?_
  by_cases hhb0:isN b 0=true
  ·simp-implicitDefEqProofs[hhb0,ho,hc,hxl,hk,hac,hbc]
   refine HB1.use ?_
   by_cases hhb1:isN b 1=true
   ·simp-implicitDefEqProofs[hhb1,ho,hc,hxl,hk,hac,hbc]
   ·simp-implicitDefEqProofs[hhb1,ho,hc,hxl,hk,hac,hbc]
    refine HA0.use ?_
    by_cases hha0:isN a 0=true
    ·simp-implicitDefEqProofs[hha0,ho,hc,hxl,hk,hac,hbc]
     refine HA1.use ?_
     by_cases hha1:isN a 1=true
     ·simp-implicitDefEqProofs[hha1,ho,hc,hxl,hk,hac,hbc]
     ·simp-implicitDefEqProofs[hha1,ho,hc,hxl,hk,hac,hbc]
      refine HB0.use ?_
      simp-implicitDefEqProofs[hhb0]
      refine HSA.use ?_
      by_cases hhsa:eE a=true
      ·simp-implicitDefEqProofs[hhsa,ho,hc,hxl,hk,hac,hbc]
       refine(gk G _).use ?_
       simp-implicitDefEqProofs[hnc]
      ·simp-implicitDefEqProofs[hhsa,ho,hc,hxl,hk,hac,hbc]
       refine HA0.use ?_
       simp-implicitDefEqProofs[hha0]
       refine HSB.use ?_
       by_cases hhsb:eE b=true
       ·simp-implicitDefEqProofs[hhsb,ho,hc,hxl,hk,hac,hbc]
        refine(gk G _).use ?_
        simp-implicitDefEqProofs[hnc]
       ·simp-implicitDefEqProofs[hhsb,ho,hc,hxl,hk,hac,hbc]
    ·simp-implicitDefEqProofs[hha0,ho,hc,hxl,hk,hac,hbc]
     refine HA1.use ?_
     by_cases hha1:isN a 1=true
     ·simp-implicitDefEqProofs[hha1,ho,hc,hxl,hk,hac,hbc]
     ·simp-implicitDefEqProofs[hha1,ho,hc,hxl,hk,hac,hbc]
      refine HB0.use ?_
      simp-implicitDefEqProofs[hhb0]
      refine HSA.use ?_
      by_cases hhsa:eE a=true
      ·simp-implicitDefEqProofs[hhsa,ho,hc,hxl,hk,hac,hbc]
       refine(gk G _).use ?_
       simp-implicitDefEqProofs[hnc]
      ·simp-implicitDefEqProofs[hhsa,ho,hc,hxl,hk,hac,hbc]
       refine HA0.use ?_
       simp-implicitDefEqProofs[hha0]
  ·simp-implicitDefEqProofs[hhb0,ho,hc,hxl,hk,hac,hbc]
   refine HB1.use ?_
   by_cases hhb1:isN b 1=true
   ·simp-implicitDefEqProofs[hhb1,ho,hc,hxl,hk,hac,hbc]
   ·simp-implicitDefEqProofs[hhb1,ho,hc,hxl,hk,hac,hbc]
    refine HA0.use ?_
    by_cases hha0:isN a 0=true
    ·simp-implicitDefEqProofs[hha0,ho,hc,hxl,hk,hac,hbc]
     refine HA1.use ?_
     by_cases hha1:isN a 1=true
     ·simp-implicitDefEqProofs[hha1,ho,hc,hxl,hk,hac,hbc]
     ·simp-implicitDefEqProofs[hha1,ho,hc,hxl,hk,hac,hbc]
      refine HB0.use ?_
      simp-implicitDefEqProofs[hhb0]
      refine HA0.use ?_
      simp-implicitDefEqProofs[hha0]
      refine HSB.use ?_
      by_cases hhsb:eE b=true
      ·simp-implicitDefEqProofs[hhsb,ho,hc,hxl,hk,hac,hbc]
       refine(gk G _).use ?_
       simp-implicitDefEqProofs[hnc]
      ·simp-implicitDefEqProofs[hhsb,ho,hc,hxl,hk,hac,hbc]
    ·simp-implicitDefEqProofs[hha0,ho,hc,hxl,hk,hac,hbc]
     refine HA1.use ?_
     by_cases hha1:isN a 1=true
     ·simp-implicitDefEqProofs[hha1,ho,hc,hxl,hk,hac,hbc]
     ·simp-implicitDefEqProofs[hha1,ho,hc,hxl,hk,hac,hbc]
      refine HB0.use ?_
      simp-implicitDefEqProofs[hhb0]
      refine HA0.use ?_
      simp-implicitDefEqProofs[hha0]
 ·simp-implicitDefEqProofs[ho]
  refine HB0.use ?_
  by_cases hhb0:isN b 0=true
  ·simp-implicitDefEqProofs[hhb0,ho,hc,hxl,hk,hac,hbc]
   refine HB1.use ?_
   by_cases hhb1:isN b 1=true
   ·simp-implicitDefEqProofs[hhb1,ho,hc,hxl,hk,hac,hbc]
   ·simp-implicitDefEqProofs[hhb1,ho,hc,hxl,hk,hac,hbc]
    refine HA0.use ?_
    by_cases hha0:isN a 0=true
    ·simp-implicitDefEqProofs[hha0,ho,hc,hxl,hk,hac,hbc]
     refine HA1.use ?_
     by_cases hha1:isN a 1=true
     ·simp-implicitDefEqProofs[hha1,ho,hc,hxl,hk,hac,hbc]
     ·simp-implicitDefEqProofs[hha1,ho,hc,hxl,hk,hac,hbc]
    ·simp-implicitDefEqProofs[hha0,ho,hc,hxl,hk,hac,hbc]
     refine HA1.use ?_
     by_cases hha1:isN a 1=true
     ·simp-implicitDefEqProofs[hha1,ho,hc,hxl,hk,hac,hbc]
     ·simp-implicitDefEqProofs[hha1,ho,hc,hxl,hk,hac,hbc]
  ·simp-implicitDefEqProofs[hhb0,ho,hc,hxl,hk,hac,hbc]
   refine HB1.use ?_
   by_cases hhb1:isN b 1=true
   ·simp-implicitDefEqProofs[hhb1,ho,hc,hxl,hk,hac,hbc]
   ·simp-implicitDefEqProofs[hhb1,ho,hc,hxl,hk,hac,hbc]
    refine HA0.use ?_
    by_cases hha0:isN a 0=true
    ·simp-implicitDefEqProofs[hha0,ho,hc,hxl,hk,hac,hbc]
     refine HA1.use ?_
     by_cases hha1:isN a 1=true
     ·simp-implicitDefEqProofs[hha1,ho,hc,hxl,hk,hac,hbc]
     ·simp-implicitDefEqProofs[hha1,ho,hc,hxl,hk,hac,hbc]
    ·simp-implicitDefEqProofs[hha0,ho,hc,hxl,hk,hac,hbc]
     refine HA1.use ?_
     by_cases hha1:isN a 1=true
     ·simp-implicitDefEqProofs[hha1,ho,hc,hxl,hk,hac,hbc]
     ·simp-implicitDefEqProofs[hha1,ho,hc,hxl,hk,hac,hbc]
 ·simp-implicitDefEqProofs[ho]
  refine HB0.use ?_
  by_cases hhb0:isN b 0=true
  ·simp-implicitDefEqProofs[hhb0,ho,hc,hxl,hk,hac,hbc]
   refine HB1.use ?_
   by_cases hhb1:isN b 1=true
   ·simp-implicitDefEqProofs[hhb1,ho,hc,hxl,hk,hac,hbc]
    refine HA0.use ?_
    by_cases hha0:isN a 0=true
    ·simp-implicitDefEqProofs[hha0,ho,hc,hxl,hk,hac,hbc]
     refine HA1.use ?_
     by_cases hha1:isN a 1=true
     ·simp-implicitDefEqProofs[hha1,ho,hc,hxl,hk,hac,hbc]
     ·simp-implicitDefEqProofs[hha1,ho,hc,hxl,hk,hac,hbc]
    ·simp-implicitDefEqProofs[hha0,ho,hc,hxl,hk,hac,hbc]
     refine HA1.use ?_
     by_cases hha1:isN a 1=true
     ·simp-implicitDefEqProofs[hha1,ho,hc,hxl,hk,hac,hbc]
     ·simp-implicitDefEqProofs[hha1,ho,hc,hxl,hk,hac,hbc]
   ·simp-implicitDefEqProofs[hhb1,ho,hc,hxl,hk,hac,hbc]
    refine HA0.use ?_
    by_cases hha0:isN a 0=true
    ·simp-implicitDefEqProofs[hha0,ho,hc,hxl,hk,hac,hbc]
     refine HA1.use ?_
     by_cases hha1:isN a 1=true
     ·simp-implicitDefEqProofs[hha1,ho,hc,hxl,hk,hac,hbc]
     ·simp-implicitDefEqProofs[hha1,ho,hc,hxl,hk,hac,hbc]
    ·simp-implicitDefEqProofs[hha0,ho,hc,hxl,hk,hac,hbc]
     refine HA1.use ?_
     by_cases hha1:isN a 1=true
     ·simp-implicitDefEqProofs[hha1,ho,hc,hxl,hk,hac,hbc]
     ·simp-implicitDefEqProofs[hha1,ho,hc,hxl,hk,hac,hbc]
  ·simp-implicitDefEqProofs[hhb0,ho,hc,hxl,hk,hac,hbc]
   refine HB1.use ?_
   by_cases hhb1:isN b 1=true
   ·simp-implicitDefEqProofs[hhb1,ho,hc,hxl,hk,hac,hbc]
    refine HA0.use ?_
    by_cases hha0:isN a 0=true
    ·simp-implicitDefEqProofs[hha0,ho,hc,hxl,hk,hac,hbc]
     refine HA1.use ?_
     by_cases hha1:isN a 1=true
     ·simp-implicitDefEqProofs[hha1,ho,hc,hxl,hk,hac,hbc]
     ·simp-implicitDefEqProofs[hha1,ho,hc,hxl,hk,hac,hbc]
    ·simp-implicitDefEqProofs[hha0,ho,hc,hxl,hk,hac,hbc]
     refine HA1.use ?_
     by_cases hha1:isN a 1=true
     ·simp-implicitDefEqProofs[hha1,ho,hc,hxl,hk,hac,hbc]
     ·simp-implicitDefEqProofs[hha1,ho,hc,hxl,hk,hac,hbc]
   ·simp-implicitDefEqProofs[hhb1,ho,hc,hxl,hk,hac,hbc]
    refine HA0.use ?_
    by_cases hha0:isN a 0=true
    ·simp-implicitDefEqProofs[hha0,ho,hc,hxl,hk,hac,hbc]
     refine HA1.use ?_
     by_cases hha1:isN a 1=true
     ·simp-implicitDefEqProofs[hha1,ho,hc,hxl,hk,hac,hbc]
     ·simp-implicitDefEqProofs[hha1,ho,hc,hxl,hk,hac,hbc]
    ·simp-implicitDefEqProofs[hha0,ho,hc,hxl,hk,hac,hbc]
     refine HA1.use ?_
     by_cases hha1:isN a 1=true
     ·simp-implicitDefEqProofs[hha1,ho,hc,hxl,hk,hac,hbc]
     ·simp-implicitDefEqProofs[hha1,ho,hc,hxl,hk,hac,hbc]
 ·simp-implicitDefEqProofs[ho]
  refine HB0.use ?_
  by_cases hhb0:isN b 0=true
  ·simp-implicitDefEqProofs[hhb0,ho,hc,hxl,hk,hac,hbc]
   refine HB1.use ?_
   by_cases hhb1:isN b 1=true
   ·simp-implicitDefEqProofs[hhb1,ho,hc,hxl,hk,hac,hbc]
    refine HA0.use ?_
    by_cases hha0:isN a 0=true
    ·simp-implicitDefEqProofs[hha0,ho,hc,hxl,hk,hac,hbc]
     refine HA1.use ?_
     by_cases hha1:isN a 1=true
     ·simp-implicitDefEqProofs[hha1,ho,hc,hxl,hk,hac,hbc]
     ·simp-implicitDefEqProofs[hha1,ho,hc,hxl,hk,hac,hbc]
    ·simp-implicitDefEqProofs[hha0,ho,hc,hxl,hk,hac,hbc]
     refine HA1.use ?_
     by_cases hha1:isN a 1=true
     ·simp-implicitDefEqProofs[hha1,ho,hc,hxl,hk,hac,hbc]
     ·simp-implicitDefEqProofs[hha1,ho,hc,hxl,hk,hac,hbc]
   ·simp-implicitDefEqProofs[hhb1,ho,hc,hxl,hk,hac,hbc]
    refine HA0.use ?_
    by_cases hha0:isN a 0=true
    ·simp-implicitDefEqProofs[hha0,ho,hc,hxl,hk,hac,hbc]
     refine HA1.use ?_
     by_cases hha1:isN a 1=true
     ·simp-implicitDefEqProofs[hha1,ho,hc,hxl,hk,hac,hbc]
     ·simp-implicitDefEqProofs[hha1,ho,hc,hxl,hk,hac,hbc]
    ·simp-implicitDefEqProofs[hha0,ho,hc,hxl,hk,hac,hbc]
     refine HA1.use ?_
     by_cases hha1:isN a 1=true
     ·simp-implicitDefEqProofs[hha1,ho,hc,hxl,hk,hac,hbc]
     ·simp-implicitDefEqProofs[hha1,ho,hc,hxl,hk,hac,hbc]
  ·simp-implicitDefEqProofs[hhb0,ho,hc,hxl,hk,hac,hbc]
   refine HB1.use ?_
   by_cases hhb1:isN b 1=true
   ·simp-implicitDefEqProofs[hhb1,ho,hc,hxl,hk,hac,hbc]
    refine HA0.use ?_
    by_cases hha0:isN a 0=true
    ·simp-implicitDefEqProofs[hha0,ho,hc,hxl,hk,hac,hbc]
     refine HA1.use ?_
     by_cases hha1:isN a 1=true
     ·simp-implicitDefEqProofs[hha1,ho,hc,hxl,hk,hac,hbc]
     ·simp-implicitDefEqProofs[hha1,ho,hc,hxl,hk,hac,hbc]
    ·simp-implicitDefEqProofs[hha0,ho,hc,hxl,hk,hac,hbc]
     refine HA1.use ?_
     by_cases hha1:isN a 1=true
     ·simp-implicitDefEqProofs[hha1,ho,hc,hxl,hk,hac,hbc]
     ·simp-implicitDefEqProofs[hha1,ho,hc,hxl,hk,hac,hbc]
   ·simp-implicitDefEqProofs[hhb1,ho,hc,hxl,hk,hac,hbc]
    refine HA0.use ?_
    by_cases hha0:isN a 0=true
    ·simp-implicitDefEqProofs[hha0,ho,hc,hxl,hk,hac,hbc]
     refine HA1.use ?_
     by_cases hha1:isN a 1=true
     ·simp-implicitDefEqProofs[hha1,ho,hc,hxl,hk,hac,hbc]
     ·simp-implicitDefEqProofs[hha1,ho,hc,hxl,hk,hac,hbc]
    ·simp-implicitDefEqProofs[hha0,ho,hc,hxl,hk,hac,hbc]
     refine HA1.use ?_
     by_cases hha1:isN a 1=true
     ·simp-implicitDefEqProofs[hha1,ho,hc,hxl,hk,hac,hbc]
     ·simp-implicitDefEqProofs[hha1,ho,hc,hxl,hk,hac,hbc]
 ·simp-implicitDefEqProofs[ho]
  refine HB0.use ?_
  by_cases hhb0:isN b 0=true
  ·simp-implicitDefEqProofs[hhb0,ho,hc,hxl,hk,hac,hbc]
   refine HB1.use ?_
   by_cases hhb1:isN b 1=true
   ·simp-implicitDefEqProofs[hhb1,ho,hc,hxl,hk,hac,hbc]
    refine HA0.use ?_
    by_cases hha0:isN a 0=true
    ·simp-implicitDefEqProofs[hha0,ho,hc,hxl,hk,hac,hbc]
     refine HA1.use ?_
     by_cases hha1:isN a 1=true
     ·simp-implicitDefEqProofs[hha1,ho,hc,hxl,hk,hac,hbc]
     ·simp-implicitDefEqProofs[hha1,ho,hc,hxl,hk,hac,hbc]
    ·simp-implicitDefEqProofs[hha0,ho,hc,hxl,hk,hac,hbc]
     refine HA1.use ?_
     by_cases hha1:isN a 1=true
     ·simp-implicitDefEqProofs[hha1,ho,hc,hxl,hk,hac,hbc]
     ·simp-implicitDefEqProofs[hha1,ho,hc,hxl,hk,hac,hbc]
   ·simp-implicitDefEqProofs[hhb1,ho,hc,hxl,hk,hac,hbc]
    refine HA0.use ?_
    by_cases hha0:isN a 0=true
    ·simp-implicitDefEqProofs[hha0,ho,hc,hxl,hk,hac,hbc]
     refine HA1.use ?_
     by_cases hha1:isN a 1=true
     ·simp-implicitDefEqProofs[hha1,ho,hc,hxl,hk,hac,hbc]
     ·simp-implicitDefEqProofs[hha1,ho,hc,hxl,hk,hac,hbc]
    ·simp-implicitDefEqProofs[hha0,ho,hc,hxl,hk,hac,hbc]
     refine HA1.use ?_
     by_cases hha1:isN a 1=true
     ·simp-implicitDefEqProofs[hha1,ho,hc,hxl,hk,hac,hbc]
     ·simp-implicitDefEqProofs[hha1,ho,hc,hxl,hk,hac,hbc]
  ·simp-implicitDefEqProofs[hhb0,ho,hc,hxl,hk,hac,hbc]
   refine HB1.use ?_
   by_cases hhb1:isN b 1=true
   ·simp-implicitDefEqProofs[hhb1,ho,hc,hxl,hk,hac,hbc]
    refine HA0.use ?_
    by_cases hha0:isN a 0=true
    ·simp-implicitDefEqProofs[hha0,ho,hc,hxl,hk,hac,hbc]
     refine HA1.use ?_
     by_cases hha1:isN a 1=true
     ·simp-implicitDefEqProofs[hha1,ho,hc,hxl,hk,hac,hbc]
     ·simp-implicitDefEqProofs[hha1,ho,hc,hxl,hk,hac,hbc]
    ·simp-implicitDefEqProofs[hha0,ho,hc,hxl,hk,hac,hbc]
     refine HA1.use ?_
     by_cases hha1:isN a 1=true
     ·simp-implicitDefEqProofs[hha1,ho,hc,hxl,hk,hac,hbc]
     ·simp-implicitDefEqProofs[hha1,ho,hc,hxl,hk,hac,hbc]
   ·simp-implicitDefEqProofs[hhb1,ho,hc,hxl,hk,hac,hbc]
    refine HA0.use ?_
    by_cases hha0:isN a 0=true
    ·simp-implicitDefEqProofs[hha0,ho,hc,hxl,hk,hac,hbc]
     refine HA1.use ?_
     by_cases hha1:isN a 1=true
     ·simp-implicitDefEqProofs[hha1,ho,hc,hxl,hk,hac,hbc]
     ·simp-implicitDefEqProofs[hha1,ho,hc,hxl,hk,hac,hbc]
    ·simp-implicitDefEqProofs[hha0,ho,hc,hxl,hk,hac,hbc]
     refine HA1.use ?_
     by_cases hha1:isN a 1=true
     ·simp-implicitDefEqProofs[hha1,ho,hc,hxl,hk,hac,hbc]
     ·simp-implicitDefEqProofs[hha1,ho,hc,hxl,hk,hac,hbc]
 ·simp-implicitDefEqProofs[ho]
  refine HA0.use ?_
  by_cases hha0:isN a 0=true
  ·simp-implicitDefEqProofs[hha0,ho,hc,hxl,hk,hac,hbc]
   refine(gk G _).use ?_
   simp-implicitDefEqProofs[hnc]
  ·simp-implicitDefEqProofs[hha0,ho,hc,hxl,hk,hac,hbc]
   refine HB0.use ?_
   by_cases hhb0:isN b 0=true
   ·simp-implicitDefEqProofs[hhb0,ho,hc,hxl,hk,hac,hbc]
    refine HB1.use ?_
    by_cases hhb1:isN b 1=true
    ·simp-implicitDefEqProofs[hhb1,ho,hc,hxl,hk,hac,hbc]
     refine HA0.use ?_
     simp-implicitDefEqProofs[hha0]
     refine HA1.use ?_
     by_cases hha1:isN a 1=true
     ·simp-implicitDefEqProofs[hha1,ho,hc,hxl,hk,hac,hbc]
     ·simp-implicitDefEqProofs[hha1,ho,hc,hxl,hk,hac,hbc]
    ·simp-implicitDefEqProofs[hhb1,ho,hc,hxl,hk,hac,hbc]
     refine HA0.use ?_
     simp-implicitDefEqProofs[hha0]
     refine HA1.use ?_
     by_cases hha1:isN a 1=true
     ·simp-implicitDefEqProofs[hha1,ho,hc,hxl,hk,hac,hbc]
     ·simp-implicitDefEqProofs[hha1,ho,hc,hxl,hk,hac,hbc]
   ·simp-implicitDefEqProofs[hhb0,ho,hc,hxl,hk,hac,hbc]
    refine HB1.use ?_
    by_cases hhb1:isN b 1=true
    ·simp-implicitDefEqProofs[hhb1,ho,hc,hxl,hk,hac,hbc]
     refine HA0.use ?_
     simp-implicitDefEqProofs[hha0]
     refine HA1.use ?_
     by_cases hha1:isN a 1=true
     ·simp-implicitDefEqProofs[hha1,ho,hc,hxl,hk,hac,hbc]
     ·simp-implicitDefEqProofs[hha1,ho,hc,hxl,hk,hac,hbc]
    ·simp-implicitDefEqProofs[hhb1,ho,hc,hxl,hk,hac,hbc]
     refine HA0.use ?_
     simp-implicitDefEqProofs[hha0]
     refine HA1.use ?_
     by_cases hha1:isN a 1=true
     ·simp-implicitDefEqProofs[hha1,ho,hc,hxl,hk,hac,hbc]
     ·simp-implicitDefEqProofs[hha1,ho,hc,hxl,hk,hac,hbc]
end
section
def K_impl_stmtOk:AK:= .seq (.reg [oJ 2 (.box 5 (.t 0)),oJ 4 (.mov (.c (.p (.bool false))))]) (.seq (.reg [oF 12 0 2,oL 13 12,oJ 14 (.call gS [(.t 13)]),oM 11 14,oJ 15 (.ext 0 (.t 11)),oJ 16 (.ext 1 (.t 11)),oJ 17 (.ext 2 (.t 11)),oJ 18 (.ext 3 (.t 11)),oM 5 15,oM 6 16,oM 7 17,oM 8 18]) (.cut (.blk 0 (.seq (.seq (.reg [oM 20 1,oJ 21 (.bin .gtr (.t 20) (.c (.p (.int .i64 4)))),oM 19 21]) (.cond (.t 19) (.skip) (.seq (.reg [oF 22 2 2,oL 23 22,oJ 24 (.len false (.t 23)),oM 25 5,oJ 26 (.bin .neq (.t 24) (.t 25)),oM 19 26]) (.cond (.t 19) (.skip) (.cut (.reg [oM 27 6,oM 28 27,⟨(some 29),some (28,true),.fldA 1 (.t 2)⟩,⟨(some 30),some (28,true),.ld none (.t 29)⟩,⟨(some 31),some (28,true),.call cy [(.t 30)]⟩,⟨(some 32),some (28,true),.not (.t 31)⟩,oJ 33 (.pick (.t 28) (.t 32) (.c (.p (.bool false)))),oM 19 33]) (.cond (.t 19) (.skip) (.cut (.reg [oM 34 6,oJ 35 (.not (.t 34)),oM 36 35,⟨(some 37),some (36,true),.fldA 1 (.t 2)⟩,⟨(some 38),some (36,true),.ld none (.t 37)⟩,⟨(some 39),some (36,true),.bins .neq (.t 38) (.c (.p (.str [])))⟩,oJ 40 (.pick (.t 36) (.t 39) (.c (.p (.bool false)))),oM 19 40]) (.cond (.t 19) (.skip) (.cut (.reg [oM 41 7,oJ 42 (.not (.t 41)),oM 43 42,⟨(some 44),some (43,true),.fldA 3 (.t 2)⟩,⟨(some 45),some (43,true),.ld none (.t 44)⟩,⟨(some 46),some (43,true),.len false (.t 45)⟩,⟨(some 47),some (43,true),.bin .gtr (.t 46) (.c (.p (.int .i64 0)))⟩,oJ 48 (.pick (.t 43) (.t 47) (.c (.p (.bool false)))),oM 19 48]) (.cond (.t 19) (.skip) (.cut (.reg [oM 49 8,oJ 50 (.not (.t 49)),oM 51 50,⟨(some 52),some (51,true),.fldA 4 (.t 2)⟩,⟨(some 53),some (51,true),.ld none (.t 52)⟩,⟨(some 54),some (51,true),.len false (.t 53)⟩,⟨(some 55),some (51,true),.bin .gtr (.t 54) (.c (.p (.int .i64 0)))⟩,oJ 56 (.pick (.t 51) (.t 55) (.c (.p (.bool false)))),oM 19 56]) (.cond (.t 19) (.skip) (.reg [oF 57 0 2,oL 58 57,oJ 59 (.bin .eql (.t 58) (.c (.p (.int .i64 8)))),oM 60 59,⟨(some 61),some (60,true),.fldA 2 (.t 2)⟩,⟨(some 62),some (60,true),.ld none (.t 61)⟩,⟨(some 63),some (60,true),.idxS 4 (.t 62) (.c (.p (.int .i64 0)))⟩,⟨(some 64),some (60,true),.fldA 0 (.t 63)⟩,⟨(some 65),some (60,true),.ld none (.t 64)⟩,⟨(some 66),some (60,true),.bin .neq (.t 65) (.c (.p (.int .i64 13)))⟩,oJ 67 (.pick (.t 60) (.t 66) (.c (.p (.bool false)))),oM 19 67]))))))))))))) (.cond (.t 19) (.seq (.reg [oJ 4 (.mov (.c (.p (.bool false))))]) (.ret)) (.skip)))) (.seq (.seq (.reg [oF 68 2 2,oL 69 68,oJ 70 (.len false (.t 69)),oK 71 0]) (.blk 1 (.loop (.seq (.reg [oJ 72 (.bin .lss (.t 71) (.t 70))]) (.seq (.cond (.t 72) (.skip) (.exit 1)) (.seq (.blk 2 (.seq (.reg [oJ 73 (.idxS 4 (.t 69) (.t 71)),oJ 74 (.ld (some 4) (.t 73)),oJ 10 (.alloc [(.p (.int .i64 0)),(.p (.int .i64 0)),(.p (.str [])),.nils]),⟨none,none,.st 4 (.t 10) (.t 74)⟩]) (.seq (.reg [oJ 75 (.ld (some 4) (.t 10)),oJ 76 (.call eQ [(.t 75)]),oJ 77 (.not (.t 76))]) (.cond (.t 77) (.seq (.reg [oJ 4 (.mov (.c (.p (.bool false))))]) (.ret)) (.skip))))) (.reg [oJ 78 (.bin .add (.t 71) (.c (.p (.int .i64 1)))),oM 71 78]))))))) (.seq (.reg [oF 79 3 2,oL 80 79,oM 81 1,oJ 82 (.bin .add (.t 81) (.c (.p (.int .i64 1)))),oJ 83 (.call dJ [(.t 80),(.t 82)]),oM 84 83,⟨(some 85),some (84,true),.fldA 4 (.t 2)⟩,⟨(some 86),some (84,true),.ld none (.t 85)⟩,⟨(some 87),some (84,true),.mov (.t 1)⟩,⟨(some 88),some (84,true),.bin .add (.t 87) (.c (.p (.int .i64 1)))⟩,⟨(some 89),some (84,true),.call dJ [(.t 86),(.t 88)]⟩,oJ 90 (.pick (.t 84) (.t 89) (.c (.p (.bool false)))),oM 4 90]) (.ret)))))
theorem yD:K_impl_stmtOk.whole=F_impl_stmtOk.ak:=rfl
variable (G:aM)
def qF(op:Int):Int:=if op=4 then 2 else if inR op 1 8 then 1 else-1
def kh(op:Int):Bool:=decide (op=5)||decide (op=6)
theorem yb(op:Int):VF Tryz.prog G gS [.p (.int .i64 op)] (.tup [.p (.int .i64 (qF op)),.p (.bool (dT op)),.p (.bool (kh op)),.p (.bool (decide (op=5)))]):=by
 refine AC.go uZ ?_
 by_cases h1:op=1
 ·subst h1;simp-implicitDefEqProofs[bQ,qF,inR,dT,kh]
 by_cases h2:op=2
 ·subst h2;simp-implicitDefEqProofs[bQ,qF,inR,dT,kh]
 by_cases h3:op=3
 ·subst h3;simp-implicitDefEqProofs[bQ,qF,inR,dT,kh]
 by_cases h4:op=4
 ·subst h4;simp-implicitDefEqProofs[bQ,qF,inR,dT,kh]
 by_cases h5:op=5
 ·subst h5;simp-implicitDefEqProofs[bQ,qF,inR,dT,kh]
 by_cases h6:op=6
 ·subst h6;simp-implicitDefEqProofs[bQ,qF,inR,dT,kh]
 by_cases h7:op=7
 ·subst h7;simp-implicitDefEqProofs[bQ,qF,inR,dT,kh]
 by_cases h8:op=8
 ·subst h8;simp-implicitDefEqProofs[bQ,qF,inR,dT,kh]
 have ha:qF op= -1:=by
  have:inR op 1 8=false:=by simp[inR];omega
  rw[qF,if_neg h4,this];rfl
 have hn:dT op=false:=by simp[dT,h1,h2]
 have hb:kh op=false:=by simp[kh,h5,h6]
 rw[ha,hn,hb]
 simp-implicitDefEqProofs[bQ,h1,h2,h3,h4,h5,h6,h7,h8]
def CY:List Ex→Bool
 |a::_=>decide (a.op=13)
 |[]=>false
def kf(s:Sm):Bool:=decide ((s.args.length:Int)=qF s.op)&&(!dT s.op||aS s.name)&&(dT s.op||decide (s.name=[]))&&(kh s.op||decide (s.body=[]))&&(decide (s.op=5)||decide (s.els=[]))&&
 (!decide (s.op=8)||CY s.args)
theorem Fz(s:Sm):eU s=(inR s.op 1 8&&decide (s.args.length=jc s.op)&&(dT s.op==aS s.name)&&(dT s.op||decide (s.name=[]))&&s.args.all gH&&
 (!decide (s.op=8)||CY s.args)&&(s.els.isEmpty||decide (s.op=5))&&(s.body.isEmpty||decide (s.op=5)||decide (s.op=6))):=by
 unfold eU
 cases s.args<;>rfl
theorem BY(s:Sm):eU s=(kf s&&s.args.all gH):=by
 have ha:decide ((s.args.length:Int)=qF s.op)=(inR s.op 1 8&&decide (s.args.length=jc s.op)):=by
  unfold qF jc
  by_cases h4:s.op=4
  ·have:inR s.op 1 8=true:=by simp[inR,h4]
   rw[this,if_pos h4,if_pos h4];simp;omega
  ·rw[if_neg h4,if_neg h4]
   cases h:inR s.op 1 8 with
   |true=>simp;omega
   |false=>simp
 have hn:(dT s.op==aS s.name&&(dT s.op||decide (s.name=[])))=((!dT s.op||aS s.name)&&(dT s.op||decide (s.name=[]))):=by
  cases dT s.op with
  |true=>cases aS s.name<;>rfl
  |false=>
   by_cases h:s.name=[]
   ·rw[h,rC];rfl
   ·simp[h]
 have hb:(s.body.isEmpty||decide (s.op=5)||decide (s.op=6))=(kh s.op||decide (s.body=[])):=by
  rw[kh]
  cases s.body<;>cases decide (s.op=5)<;>cases decide (s.op=6)<;>simp
 have he:(s.els.isEmpty||decide (s.op=5))=(decide (s.op=5)||decide (s.els=[])):=by
  cases s.els<;>cases decide (s.op=5)<;>simp
 rw[Fz]
 unfold kf
 rw[ha,hb,he]
 generalize CY s.args=z
 generalize (dT s.op==aS s.name)=c at hn⊢
 generalize (!dT s.op||aS s.name)=c' at hn⊢
 generalize (dT s.op||decide (s.name=[]))=d at hn⊢
 generalize s.args.all gH=x
 generalize (kh s.op||decide (s.body=[]))=y
 generalize (decide (s.op=5)||decide (s.els=[]))=y'
 generalize (!decide (s.op=8))=u
 cases inR s.op 1 8<;>cases decide (s.args.length=jc s.op)<;>cases c<;>cases c'<;>cases d<;>cases x<;>cases y<;>cases y'<;>cases u<;>cases z<;>simp_all
variable (hK:G dV=some dO) (hS:G cd=some [.tbl opK opV])
def CQ(d:Nat)(L:List Sm):Int:=match L.findIdx? (fun s=> !au d s) with|some i=>i|none=> -1
theorem Io(d:Nat)(L:List Sm):decide (0≤CQ d L)= !(L.all (au d)):=by
 unfold CQ
 cases h:L.findIdx? (fun x=> !au d x) with
 |none=>
  rw[So] at h
  have:L.all (au d)=true:=RF.2 fun x hx=>by have:=h x hx;simpa using this
  simp[this]
 |some i=>
  rw[Sa] at h
  obtain⟨h1,h2,_⟩:=h
  have:L.all (au d)=false:=List.all_eq_false.2 ⟨_,RH h1,by simpa using h2⟩
  rw[this];simp
theorem uN(d:Nat)(nest:Int)(hs:∀s:Sm,s.sz≤1073741824→VF Tryz.prog G jD [.agg (s.cs.map .p),.p (.int .i64 nest)] (.p (.bool (au d s))))(L:List Sm)(hL:aq L≤1073741824):
 VF Tryz.prog G dJ [.p (smL L),.p (.int .i64 nest)] (.p (.bool (L.all (au d)))):=by
 have hsl:smL L= .lst 5 (L.map Sm.cs):=rfl
 have hll:=bk L
 have eZ:∀s:Sm,s.sz≤1073741824→AC Tryz.prog G dD [.agg (s.cs.map .p),.ptr 0 1 0 0] [.row 1 [[.p (.int .i64 nest)]]] fun x h=>x= .ret (.p (.bool (!au d s)))∧h=[.row 1 [[.p (.int .i64 nest)]]]:=by
  intro s hz
  refine AC.trim (AC.go uf ?_) (by simp[below])
  have hse:=s.cs_eq
  have h1:=hs s hz
  rw[hse] at h1
  simp-implicitDefEqProofs[mX,hse]
  refine h1.use ?_
  simp-implicitDefEqProofs[]
 have idx:AC Tryz.prog G dr [.p (smL L),.fn (.func dD) [.ptr 0 1 0 0]] [.row 1 [[.p (.int .i64 nest)]]] fun x h=>x= .ret (.p (.int .i64 (CQ d L)))∧h=[.row 1 [[.p (.int .i64 nest)]]]:=by
  refine AC.go ke ?_
  simp-implicitDefEqProofs[fh,hsl]
  refine aV (fun i:Nat=>am 19 [(0,.p (smL L)),(1,.fn (.func dD) [.ptr 0 1 0 0]),(7,.p (.int .i64 L.length)),(8,.p (.int .i64 i))]) (fun _=>[.row 1 [[.p (.int .i64 nest)]]]) (fun i=>i≤L.length∧∀w∈L.take i,au d w=true) (fun i=>L.length-i) 0 (by simp) ?_ ?_
  ·exact ae (by simp) (by simp[okO,below]) (by simp[below,aj,hsl])
  ·intro i ⟨hi,hn⟩
   simp-implicitDefEqProofs[hsl]
   refine bf (fun h1=>?_) (fun h1=>?_)
   ·simp at h1
    have hg:=RA h1
    have hz:=bD (RH h1)
    simp-implicitDefEqProofs[hg]
    refine(eZ L[i] (by omega)).mono ?_
    rintro r h ⟨rfl,rfl⟩
    by_cases he:au d L[i]=true
    ·simp-implicitDefEqProofs[aa,he]
     refine⟨i+1,⟨h1,fun p hp=>?_⟩,by omega,ae (by simp) (by simp[okO,below]) (by simp[below,aj,hsl,w1 (i:=i) (by omega)])⟩
     rw[an h1] at hp
     rcases RJ.1 hp with hp|hp
     ·exact hn p hp
     ·rw[RM.1 hp];exact he
    ·have hf:CQ d L=i:=by
      have:L.findIdx? (fun w=> !au d w)=some i:=by
       rw[Sa]
       exact⟨h1,by simpa using he,fun j hj=>by have:=hn L[j] (List.mem_take_iff_getElem.2 ⟨j,by omega,rfl⟩);simpa using this⟩
      rw[CQ,this]
     simp-implicitDefEqProofs[aa,he,hf]
   ·simp at h1
    rw[RG h1] at hn
    have hf:CQ d L= -1:=by
     have:L.findIdx? (fun w=> !au d w)=none:=by
      rw[So];intro x hx;simpa using hn x hx
     rw[CQ,this]
    simp-implicitDefEqProofs[hf]
 have con:AC Tryz.prog G cM [.p (smL L),.fn (.func dD) [.ptr 0 1 0 0]] [.row 1 [[.p (.int .i64 nest)]]] fun x h=>x= .ret (.p (.bool (!L.all (au d))))∧h=[.row 1 [[.p (.int .i64 nest)]]]:=by
  refine AC.go iW ?_
  simp-implicitDefEqProofs[eF]
  refine idx.mono ?_
  rintro r h ⟨rfl,rfl⟩
  have:=Io d L
  simp-implicitDefEqProofs[aa]
  simpa using this
 refine AC.go wu ?_
 simp-implicitDefEqProofs[pJ]
 refine con.mono ?_
 rintro r h ⟨rfl,rfl⟩
 simp-implicitDefEqProofs[aa]
include hS hK
theorem Hx:∀d:Nat,d≤4→∀s:Sm,s.sz≤1073741824→VF Tryz.prog G jD [.agg (s.cs.map .p),.p (.int .i64 (5-d))] (.p (.bool (au d s))):=by
 intro d
 induction d with
 |zero=>
  intro _ s hz
  have hse:=s.cs_eq
  refine AC.go qW ?_
  simp-implicitDefEqProofs[F_impl_stmtOk,hse]
  refine(yb G _).use ?_
  simp-implicitDefEqProofs[au]
 |succ d ih=>
  intro hd s hz
  have hse:=s.cs_eq
  have hsz:=s.sz_eq
  have hal:=bh s.args
  have hblk:=uN G d (5-d) (ih (by omega))
  have hnn:(5:Int)-((d+1:Nat):Int)=4-d:=by omega
  have hnw:IntKind.i64.wrap (4-(d:Int)+1)=5-d:=by rw[af (by omega) (by omega)];omega
  have hn4:¬(4:Int)<4-d:=by omega
  have hxl:exL s.args= .lst 4 (s.args.map Ex.cs):=rfl
  have hsl:∀l,smL l= .lst 5 (l.map Sm.cs):=fun _=>rfl
  rw[hnn]
  have hbad:kf s=false→au (d+1) s=false:=fun h=>by rw[au,BY,h];rfl
  refine AC.goK qW yD ?_
  simp-implicitDefEqProofs[K_impl_stmtOk,F_impl_stmtOk,hse]
  refine(yb G _).use ?_
  simp-implicitDefEqProofs[]
  refine ox (fun _:Unit=>am 91 [(1,.p (.int .i64 (4-d))),(2,.ptr 0 5 0 0)]) (fun _=>[.row 5 [[.p (.int .i64 s.op),.p (.str s.name),.p (exL s.args),.p (smL s.body),.p (smL s.els)]]]) (fun _=>kf s=true) ?_ ?_
  ·have fin:∀(r1:List (Nat × AV)),Aw.look r1 1= .p (.int .i64 (4-d))→Aw.look r1 2= .ptr 0 5 0 0→
    Wk 0 (am 91 r1) [.row 5 [[.p (.int .i64 s.op),.p (.str s.name),.p (exL s.args),.p (smL s.body),.p (smL s.els)]]] (am 91 [(1,.p (.int .i64 (4-d))),(2,.ptr 0 5 0 0)]) [.row 5 [[.p (.int .i64 s.op),.p (.str s.name),.p (exL s.args),.p (smL s.body),.p (smL s.els)]]]:=fun r1 a b=>
    ae (by simp) (by simp[okO,below]) (by simp[below,a,b])
   have hb0:s.body=[]∨0<s.body.length:=by cases s.body<;>simp
   have he0:s.els=[]∨0<s.els.length:=by cases s.els<;>simp
   by_cases hl:(s.args.length:Int)=qF s.op
   case neg=>
    rw[hbad (by simp[kf,hl])]
    simp-implicitDefEqProofs[hn4,hxl,hl]
   have hel:(decide (s.els=[]))= !decide (0<s.els.length):=by cases s.els<;>simp
   have hbo:(decide (s.body=[]))= !decide (0<s.body.length):=by cases s.body<;>simp
   simp-implicitDefEqProofs[hn4,hxl,hl]
   refine lp (am 91 [(1,.p (.int .i64 (4-d))),(2,.ptr 0 5 0 0),(6,.p (.bool (dT s.op))),(7,.p (.bool (kh s.op))),(8,.p (.bool (decide (s.op=5)))),(19,.p (.bool (dT s.op&& !aS s.name)))]) ([.row 5 [[.p (.int .i64 s.op),.p (.str s.name),.p (exL s.args),.p (smL s.body),.p (smL s.els)]]]) ?_ ?_
   ·cases hn:dT s.op with
    |true=>
     simp-implicitDefEqProofs[]
     refine(pu G hK _ (by omega)).use ?_
     simp-implicitDefEqProofs[]
     exact ae (by simp) (by simp[okO,below]) (by simp[below])
    |false=>
     simp-implicitDefEqProofs[]
     exact ae (by simp) (by simp[okO,below]) (by simp[below])
   by_cases h2:(dT s.op&& !aS s.name)=true
   ·rw[hbad (by simp only[kf];cases h:dT s.op<;>cases h':aS s.name<;>simp[h,h'] at h2⊢)]
    simp-implicitDefEqProofs[h2]
   have h2':(dT s.op&& !aS s.name)=false:=by simpa using h2
   rw[h2']
   simp-implicitDefEqProofs[]
   refine lp (am 91 [(1,.p (.int .i64 (4-d))),(2,.ptr 0 5 0 0),(6,.p (.bool (dT s.op))),(7,.p (.bool (kh s.op))),(8,.p (.bool (decide (s.op=5)))),(19,.p (.bool (!dT s.op&& !decide (s.name=[]))))]) ([.row 5 [[.p (.int .i64 s.op),.p (.str s.name),.p (exL s.args),.p (smL s.body),.p (smL s.els)]]]) ?_ ?_
   ·cases hn:dT s.op with
    |true=>
     simp-implicitDefEqProofs[]
     exact ae (by simp) (by simp[okO,below]) (by simp[below])
    |false=>
     simp-implicitDefEqProofs[]
     exact ae (by simp) (by simp[okO,below]) (by simp[below])
   by_cases h3:(!dT s.op&& !decide (s.name=[]))=true
   ·rw[hbad (by simp only[kf];cases h:dT s.op<;>cases h':decide (s.name=[])<;>simp[h,h'] at h3⊢)]
    simp-implicitDefEqProofs[h3]
   have h3':(!dT s.op&& !decide (s.name=[]))=false:=by simpa using h3
   rw[h3']
   simp-implicitDefEqProofs[]
   refine lp (am 91 [(1,.p (.int .i64 (4-d))),(2,.ptr 0 5 0 0),(6,.p (.bool (dT s.op))),(7,.p (.bool (kh s.op))),(8,.p (.bool (decide (s.op=5)))),(19,.p (.bool (!kh s.op&&decide (0<s.body.length))))]) ([.row 5 [[.p (.int .i64 s.op),.p (.str s.name),.p (exL s.args),.p (smL s.body),.p (smL s.els)]]]) ?_ ?_
   ·cases hn:kh s.op with
    |true=>
     simp-implicitDefEqProofs[hsl]
     exact ae (by simp) (by simp[okO,below]) (by simp[below])
    |false=>
     simp-implicitDefEqProofs[hsl]
     exact ae (by simp) (by simp[okO,below]) (by simp[below])
   by_cases h4:(!kh s.op&&decide (0<s.body.length))=true
   ·rw[hbad (by simp only[kf,hbo];cases h:kh s.op<;>cases h':decide (0<s.body.length)<;>simp[h,h'] at h4⊢)]
    simp-implicitDefEqProofs[h4]
   have h4':(!kh s.op&&decide (0<s.body.length))=false:=by simpa using h4
   rw[h4']
   simp-implicitDefEqProofs[]
   refine lp (am 91 [(1,.p (.int .i64 (4-d))),(2,.ptr 0 5 0 0),(6,.p (.bool (dT s.op))),(7,.p (.bool (kh s.op))),(8,.p (.bool (decide (s.op=5)))),(19,.p (.bool (!decide (s.op=5)&&decide (0<s.els.length))))]) ([.row 5 [[.p (.int .i64 s.op),.p (.str s.name),.p (exL s.args),.p (smL s.body),.p (smL s.els)]]]) ?_ ?_
   ·cases hn:decide (s.op=5) with
    |true=>
     simp-implicitDefEqProofs[hsl]
     exact ae (by simp) (by simp[okO,below]) (by simp[below])
    |false=>
     simp-implicitDefEqProofs[hsl]
     exact ae (by simp) (by simp[okO,below]) (by simp[below])
   by_cases h5:(!decide (s.op=5)&&decide (0<s.els.length))=true
   ·rw[hbad (by simp only[kf,hel];cases h:decide (s.op=5)<;>cases h':decide (0<s.els.length)<;>simp[h,h'] at h5⊢)]
    simp-implicitDefEqProofs[h5]
   have h5':(!decide (s.op=5)&&decide (0<s.els.length))=false:=by simpa using h5
   rw[h5']
   have hh1:kf s=(!decide (s.op=8)||CY s.args):=by
    simp only[kf,hl,decide_true,Bool.true_and,hel,hbo]
    cases h:dT s.op<;>cases hi:aS s.name<;>cases hm:decide (s.name=[])<;>cases hb:kh s.op<;>cases hc:decide (0<s.body.length)<;>cases ho:decide (s.op=5)<;>cases he:decide (0<s.els.length)<;>simp[h,hi,hm,hb,hc,ho,he] at h2' h3' h4' h5'⊢
   by_cases o8:s.op=8
   ·have ha1:s.args.length=1:=by
     have:qF s.op=1:=by rw[o8];rfl
     omega
    obtain⟨a0,ha0⟩:∃a0,s.args=[a0]:=by
     match hh:s.args,ha1 with
     |[x],_=>exact⟨x,rfl⟩
    have hae:=a0.cs_eq
    rw[hh1,o8,ha0]
    rw[o8,ha0] at fin
    have hxa:exL [a0]= .lst 4 [a0.cs]:=rfl
    by_cases hc:a0.op=13
    ·have h13:CY [a0]=true:=by simp[CY,hc]
     simp-implicitDefEqProofs[o8,hae,hc,h13,hxa]
     rw[hxa,hae,hc] at fin
     exact fin _ (by simp) (by simp)
    ·rw[hbad (by rw[hh1,o8,ha0];simp[CY,hc])]
     simp-implicitDefEqProofs[o8,hae,hc,hxa]
   ·have hh2:kf s=true:=by rw[hh1];simp[o8]
    simp-implicitDefEqProofs[o8,hh2]
    exact fin _ (by simp) (by simp)
  intro _ h1
  have hh:au (d+1) s=(s.args.all gH&&(s.body.all (au d)&&s.els.all (au d))):=by rw[au,BY,h1,Bool.true_and,Bool.and_assoc]
  simp-implicitDefEqProofs[hxl]
  refine aV (fun i:Nat=>am 91 [(1,.p (.int .i64 (4-d))),(2,.ptr 0 5 0 0),(69,.p (exL s.args)),(70,.p (.int .i64 s.args.length)),(71,.p (.int .i64 i))]) (fun _=>[.row 5 [[.p (.int .i64 s.op),.p (.str s.name),.p (exL s.args),.p (smL s.body),.p (smL s.els)]]]) (fun i=>i≤s.args.length∧(s.args.take i).all gH=true) (fun i=>s.args.length-i) 0 (by simp) ?_ ?_
  ·exact ae (by simp) (by simp[okO,below]) (by simp[below,hxl])
  rintro i ⟨hi,ha⟩
  simp-implicitDefEqProofs[hxl]
  refine bf (fun h=>?_) (fun h=>?_)
  ·simp at h
   have hg:=RA h
   have hks:=aT (RH h)
   have hkc:=s.args[i].cs_eq
   have hx:=uC G hK hS s.args[i] (by omega)
   rw[hkc] at hx
   simp-implicitDefEqProofs[hg,hkc]
   refine hx.use ?_
   by_cases ho:gH s.args[i]=true
   ·simp-implicitDefEqProofs[ho]
    refine⟨i+1,⟨h,by rw[←RF,eA h,ha,ho];rfl⟩,by omega,?_⟩
    refine iz (m:=1) (by omega) (eL rfl rfl (by simp[okO,below])) (by simp[below,hxl,w1 (i:=i) (by omega)])
   ·have ho':gH s.args[i]=false:=by simpa using ho
    rw[hh,mv h ho']
    simp-implicitDefEqProofs[ho']
  ·simp at h
   have ha2:s.args.all gH=true:=gF h ha
   rw[hh,ha2,Bool.true_and]
   simp-implicitDefEqProofs[hnw]
   refine(hblk s.body (by omega)).use ?_
   cases hb:s.body.all (au d) with
   |true=>
    simp-implicitDefEqProofs[hnw]
    refine(hblk s.els (by omega)).use ?_
    simp-implicitDefEqProofs[]
   |false=>
    simp-implicitDefEqProofs[]
end
section
variable (G:aM)
structure Vis (σ:Type) where
 I:σ→List AO
 n:Nat
 F:FuncId
 caps:List AV
 len:∀st,(I st).length=n
 ok:∀st,∀o∈I st,okO n o
 capsOk:aj n caps
theorem Vis.pre{σ:Type}(V:Vis σ){f:FuncId}{args:List AV}{st st':σ}{v:AV}(H:AC Tryz.prog G f args (V.I st) fun x h=>x= .ret v∧h=V.I st')(rest:List AO)(ha:aj V.n args):
 AC Tryz.prog G f args (V.I st++rest) fun x h=>x= .ret v∧h=V.I st'++rest:=by
 refine(AC.pre H rest (by rw[V.len];exact ha) (by rw[V.len];exact V.ok st) ?_).mono ?_
 ·rintro x h ⟨_,rfl⟩;rw[V.len,V.len]
 ·rintro x h ⟨h1,⟨rfl,rfl⟩,rfl⟩
  exact⟨rfl,rfl⟩
theorem Vis.trim{σ:Type}(V:Vis σ){f:FuncId}{args:List AV}{st st':σ}{v:AV}(H:AC Tryz.prog G f args (V.I st) fun x h=>x= .ret v∧∃l,h=V.I st'++l)(hv:below V.n v):
 AC Tryz.prog G f args (V.I st) fun x h=>x= .ret v∧h=V.I st':=by
 refine H.wk (fun t v h ⟨e,_⟩=>by cases e) ?_
 rintro u h ⟨e,l,rfl⟩
 cases e
 refine⟨v,V.I st',xv (n:=V.n) (by rw[V.len];exact RN _) (eL (by rw[←V.len st',List.take_left'];rfl) (V.len _) (V.ok _)) ?_,rfl,rfl⟩
 simp[Fgt,hv]
theorem se{n m:Nat}(h:n≤m){o:AO}(ho:okO n o):okO m o:=by
 cases o with
 |dead=>trivial
 |sit=>trivial
 |row sz es=>exact fun e he=>aW h _ (ho e he)
 |mp es=>exact fun e he=>(aW h [e.2] ⟨ho e he,trivial⟩).1
theorem Vis.oks{σ:Type}(V:Vis σ)(st:σ){m:Nat}(hm:V.n≤m){r:List AO}(hr:∀o∈r,okO m o):∀o∈V.I st++r,okO m o:=by
 intro o ho
 rcases RJ.1 ho with h|h
 ·exact se hm (V.ok st o h)
 ·exact hr o h
theorem Vis.same{σ:Type}(V:Vis σ)(st:σ){k n:Nat}(hk:k≤V.n){r s:List AO}{l l1:List (Nat × AV)}(hr:∀o∈r,okO (V.n+r.length) o)(H:FgA (V.n+r.length) l l1):Wk k (am n l) (V.I st++(r++s)) (am n l1) (V.I st++r):=by
 have hl:(V.I st++r).length=V.n+r.length:=by rw[RR,V.len]
 refine iz (m:=V.n+r.length) (by omega) (eL ?_ hl (V.oks st (by omega) hr)) H
 rw[←Sg,←hl,List.take_left'];rfl
theorem Vis.same0{σ:Type}(V:Vis σ)(st:σ){k n:Nat}(hk:k≤V.n){s:List AO}{l l1:List (Nat × AV)}(H:FgA V.n l l1):Wk k (am n l) (V.I st++s) (am n l1) (V.I st):=by
 refine iz (m:=V.n) (by omega) (eL ?_ (V.len _) (V.ok st)) H
 rw[←V.len st,List.take_left'];rfl
theorem Lu{α:Type}{a b:List α}{n:Nat}(h:a.length=n)(i:Nat):(a++b)[n+i]?=b[i]?:=by
 rw[←h,RP (by omega)];congr 1;omega
theorem LS{σ:Type}(V:Vis σ)(step:σ→Ex→σ)(inv:σ→Prop)(B:Nat)(hB:B≤1073741824)
 (hv:∀st e,inv st→e.sz≤B→inv (step st e)∧AC Tryz.prog G V.F (.agg (e.cs.map .p)::V.caps) (V.I st) fun x h=>x= .ret (.tup [])∧h=V.I (step st e)):
 ∀(N:Nat) (e:Ex),e.sz<N→e.sz≤B→∀st,inv st→inv (e.pre.foldl step st)∧AC Tryz.prog G gd [.agg (e.cs.map .p),.fn (.func V.F) V.caps] (V.I st) fun x h=>x= .ret (.tup [])∧h=V.I (e.pre.foldl step st):=by
 intro N
 induction N with
 |zero=>intro e h;omega
 |succ N ih=>
  intro e he hz st hi
  have hec:=e.cs_eq
  have hsz:=e.sz_eq
  have hkl:=bh e.kids
  have hxl:exL e.kids= .lst 4 (e.kids.map Ex.cs):=rfl
  have hlen:=V.len
  obtain⟨i1,h1⟩:=hv st e hi hz
  have hinv:∀i,i≤e.kids.length→inv ((ff (e.kids.take i)).foldl step (step st e)):=by
   intro i
   induction i with
   |zero=>intro _;exact i1
   |succ i ihi=>
    intro hl
    have hg:i<e.kids.length:=by omega
    have hks:=aT (RH hg)
    rw[an hg,ny,List.foldl_append,ff,ff,Ss]
    exact(ih e.kids[i] (by omega) (by omega) _ (ihi (by omega))).1
  refine⟨?_,?_⟩
  ·rw[Ex.pre_eq,List.foldl_cons]
   have:=hinv e.kids.length (RN _)
   rwa[Sf] at this
  refine V.trim G (AC.go rZ ?_) (by simp[below])
  have hcb:=V.capsOk
  have hcb1:aj (V.n+1) V.caps:=aW (by omega) _ hcb
  rw[hec] at h1
  simp-implicitDefEqProofs[oc,hec,hlen]
  refine(V.pre G h1 _ ⟨by simp[below],hcb⟩).mono ?_
  rintro r h ⟨rfl,rfl⟩
  simp-implicitDefEqProofs[aa,hlen,hxl]
  refine aV (fun i:Nat=>am 20 [(1,.fn (.func V.F) V.caps),(2,.ptr V.n 4 0 0),(10,.p (exL e.kids)),(11,.p (.int .i64 e.kids.length)),(12,.p (.int .i64 i))])
   (fun i=>V.I ((ff (e.kids.take i)).foldl step (step st e))++[.row 4 [[.p (.int .i64 e.op),.p (.int .i64 e.n),.p (.str e.name),.p (exL e.kids)]]]) (fun i=>i≤e.kids.length) (fun i=>e.kids.length-i) 0 (by simp) ?_ ?_
  ·refine V.same (r:=[_]) (s:=[]) _ (RN _) (by simp[okO,below]) ?_
   simp[below,hxl,hcb1]
  intro i hil
  simp-implicitDefEqProofs[hxl]
  refine bf (fun hc=>?_) (fun hc=>?_)
  ·simp at hc
   have hg:=RA hc
   have hks:=aT (RH hc)
   have hkc:=e.kids[i].cs_eq
   have hI:=(ih e.kids[i] (by omega) (by omega) _ (hinv i hil)).2
   rw[hkc] at hI
   simp-implicitDefEqProofs[hg,hkc,hlen]
   refine(V.pre G hI _ ⟨by simp[below],by simp[below,hcb],trivial⟩).mono ?_
   rintro r h ⟨rfl,rfl⟩
   simp-implicitDefEqProofs[aa]
   refine⟨i+1,hc,by omega,?_⟩
   have hf:(ff (e.kids.take (i+1))).foldl step (step st e)=e.kids[i].pre.foldl step ((ff (e.kids.take i)).foldl step (step st e)):=by
    rw[an hc,ny,List.foldl_append,ff,ff,Ss]
   rw[hf]
   refine V.same (r:=[_]) (s:=[_]) _ (RN _) (by simp[okO,below]) ?_
   simp[below,hxl,hcb1,w1 (i:=i) (by omega)]
  ·simp at hc
   have hie:i=e.kids.length:=by omega
   subst hie
   rw[Sf,Ex.pre_eq,List.foldl_cons]
   simp-implicitDefEqProofs[]
theorem LH{σ:Type}(V:Vis σ)(step:σ→Sm × Nat→σ)(inv:σ→Prop)(B:Nat)(hB:B≤1073741824)
 (hv:∀st s d,inv st→s.sz≤B→inv (step st (s,d))∧AC Tryz.prog G V.F (.agg (s.cs.map .p):: .p (.int .i64 (d:Nat))::V.caps) (V.I st) fun x h=>x= .ret (.tup [])∧h=V.I (step st (s,d))):
 ∀(N:Nat) (l:List Sm),aq l<N→aq l≤B→∀(d:Nat),d+aq l≤1099511627776→∀st,inv st→inv ((cV d l).foldl step st)∧AC Tryz.prog G iI [.p (smL l),.p (.int .i64 d),.fn (.func V.F) V.caps] (V.I st) fun x h=>x= .ret (.tup [])∧h=V.I ((cV d l).foldl step st):=by
 intro N
 induction N with
 |zero=>intro l h;omega
 |succ N ih=>
  intro l hl hz d hd st hi
  have hll:=bk l
  have hlen:=V.len
  have hsl:∀l,smL l= .lst 5 (l.map Sm.cs):=fun _=>rfl
  have hone:∀s:Sm,s∈l→∀st,inv st→inv ((s.pre d).foldl step st):=by
   intro s hs st hi
   have hm:=bD hs
   have hsz:=s.sz_eq
   have i1:=(hv st s d hi (by omega)).1
   have i2:=(ih s.body (by omega) (by omega) (d+1) (by omega) _ i1).1
   have i3:=(ih s.els (by omega) (by omega) (d+1) (by omega) _ i2).1
   rw[Sm.pre_eq,List.foldl_cons,List.foldl_append]
   exact i3
  have hinv:∀i,i≤l.length→inv ((cV d (l.take i)).foldl step st):=by
   intro i
   induction i with
   |zero=>intro _;exact hi
   |succ i ihi=>
    intro hl
    have hg:i<l.length:=by omega
    rw[an hg,rD,List.foldl_append,cV,cV,Ss]
    exact hone _ (RH hg) _ (ihi (by omega))
  refine⟨?_,?_⟩
  ·have:=hinv l.length (RN _)
   rwa[Sf] at this
  refine V.trim G (AC.go Ao ?_) (by simp[below])
  have hcb:=V.capsOk
  simp-implicitDefEqProofs[sn,hsl]
  refine aV (fun i:Nat=>am 31 [(1,.p (.int .i64 d)),(2,.fn (.func V.F) V.caps),(8,.p (smL l)),(9,.p (.int .i64 l.length)),(10,.p (.int .i64 i))])
   (fun i=>V.I ((cV d (l.take i)).foldl step st)) (fun i=>i≤l.length) (fun i=>l.length-i) 0 (by simp) ?_ ?_
  ·rw[hlen]
   have:=V.same0 (s:=[]) st (k:=V.n) (n:=31) (RN _) (l:=[(10,.p (.int .i64 0)),(9,.p (.int .i64 l.length)),(8,.p (smL l)),(0,.p (smL l)),(1,.p (.int .i64 d)),(2,.fn (.func V.F) V.caps)]) (l1:=[(1,.p (.int .i64 d)),(2,.fn (.func V.F) V.caps),(8,.p (smL l)),(9,.p (.int .i64 l.length)),(10,.p (.int .i64 0))]) (by simp[below,hcb])
   rw[Ss] at this
   exact this
  intro i hil
  simp-implicitDefEqProofs[hsl]
  refine bf (fun hc=>?_) (fun hc=>?_)
  ·simp at hc
   have hg:=RA hc
   have hks:=bD (RH hc)
   have hkc:=l[i].cs_eq
   have hsz:=l[i].sz_eq
   have hf:(cV d (l.take (i+1))).foldl step st=(l[i].pre d).foldl step ((cV d (l.take i)).foldl step st):=by
    rw[an hc,rD,List.foldl_append,cV,cV,Ss]
   have ii:=hinv i hil
   obtain⟨i1,h1⟩:=hv _ l[i] d ii (by omega)
   obtain⟨i2,h2⟩:=ih l[i].body (by omega) (by omega) (d+1) (by omega) _ i1
   obtain⟨i3,h3⟩:=ih l[i].els (by omega) (by omega) (d+1) (by omega) _ i2
   rw[Sm.pre_eq,List.foldl_cons,List.foldl_append] at hf
   have hwd:IntKind.i64.wrap ((d:Int)+1)=((d+1:Nat):Int):=by rw[af (by omega) (by omega)];omega
   rw[hkc] at h1
   simp-implicitDefEqProofs[hg,hkc,hlen]
   refine(V.pre G h1 _ ⟨by simp,by simp,hcb⟩).mono ?_
   rintro r h ⟨rfl,rfl⟩
   simp-implicitDefEqProofs[aa,hlen,hwd]
   refine(V.pre G h2 _ ⟨by simp,by simp,by simp[below,hcb],trivial⟩).mono ?_
   rintro r h ⟨rfl,rfl⟩
   simp-implicitDefEqProofs[aa,hlen,hwd]
   refine(V.pre G h3 _ ⟨by simp,by simp,by simp[below,hcb],trivial⟩).mono ?_
   rintro r h ⟨rfl,rfl⟩
   simp-implicitDefEqProofs[aa]
   refine⟨i+1,hc,by omega,?_⟩
   rw[hf]
   refine V.same0 (s:=[_]) _ (RN _) ?_
   simp[below,hsl,hcb,w1 (i:=i) (by omega)]
  ·simp at hc
   have hie:i=l.length:=by omega
   subst hie
   rw[Sf]
   simp-implicitDefEqProofs[]
end
section
def ixI:Option Nat→Int|none=> -1|some i=>i
def vaC(nf:Bool)(id n:Nat):AV:=if nf then .nils else .sl id 3 0 n
def lvC(v:LV):List AV:=[.p (.str v.name),.p (.int .i64 v.num),.p (.int .i64 v.block)]
def lvR(vs:List LV):List (List AV):=vs.reverse.map lvC
def roC(nf:Bool)(vs:List LV):AO:=if nf then .dead else .row 3 (lvR vs)
def wC(id:Nat)(nf:Bool)(fns:List Fd)(k:Nat)(w:WS):List AV:=[.p (fdL fns),.p (.int .i64 k),vaC nf id w.vs.length,.p (.int .i64 w.count),.p (.int .i64 w.code)]
def wO(id:Nat)(nf:Bool)(fns:List Fd)(k:Nat)(w:WS):AO:= .row 5 [wC id nf fns k w]
def HWk(nf:Bool)(fns:List Fd)(k:Nat)(w:WS):List AO:=[wO 1 nf fns k w,roC nf w.vs]
theorem vU(vs:List LV):(lvR vs).length=vs.length:=by simp[lvR]
theorem By(vs:List LV):∀x∈lvR vs,aj 0 x:=by
 intro x hx;obtain⟨m,_,rfl⟩:=RU.1 hx;simp[lvC,aj,below]
theorem hY(nf:Bool)(vs:List LV)(n:Nat):okO n (roC nf vs):=by
 cases nf
 ·exact bR (fun e he=>By vs e he)
 ·exact trivial
theorem FJ{nf:Bool}{id n m:Nat}(h:id<m):below m (vaC nf id n):=by cases nf<;>simp[vaC,below,h]
theorem ws{id:Nat}{nf:Bool}{fns:List Fd}{k:Nat}{w:WS}{m:Nat}(h:id<m):aj m (wC id nf fns k w):=⟨by simp,by simp,FJ h,by simp,by simp,trivial⟩
theorem uS{id:Nat}{nf:Bool}{fns:List Fd}{k:Nat}{w:WS}{m:Nat}(h:id<m):okO m (wO id nf fns k w):=by
 intro e he;rw[RM.1 he];exact ws h
theorem Ld(σ:List Nat)(nf:Bool)(id n:Nat):ren σ (vaC nf id n)=vaC nf (σ.getD id 0) n:=by cases nf<;>rfl
theorem Ag(σ:List Nat)(id:Nat)(nf:Bool)(fns:List Fd)(k:Nat)(w:WS):bL σ (wC id nf fns k w)=wC (σ.getD id 0) nf fns k w:=by
 simp only[wC,bL,Ld];rfl
theorem EE(σ:List Nat)(id:Nat)(nf:Bool)(fns:List Fd)(k:Nat)(w:WS):ig σ (wO id nf fns k w)=wO (σ.getD id 0) nf fns k w:=by
 simp only[wO,ig,Sb,List.map_nil,Ag]
theorem CF(σ:List Nat)(nf:Bool)(vs:List LV):ig σ (roC nf vs)=roC nf vs:=by
 cases nf
 ·show AO.row 3 ((lvR vs).map (bL σ))= .row 3 (lvR vs)
  rw[RT (g:=id) fun x hx=>dZ σ x (By vs x hx)];simp
 ·rfl
theorem DU(pre:List LV)(v:LV)(r:List LV):(lvR (pre++v::r))[r.length]?=some (lvC v):=by
 simp[lvR]
theorem JO(v:LV)(r:List LV):lvR (v::r)=lvR r++[lvC v]:=by simp[lvR]
def tU:List LV→List UInt8→Int
 |[],_=> -1
 |v::r,s=>if v.name=s then r.length else tU r s
theorem uo:∀(vs:List LV) (s:List UInt8),(lkV vs s=none∧tU vs s= -1)∨∃pre v r,vs=pre++v::r∧lkV vs s=some v∧tU vs s=r.length
 |[],s=> .inl ⟨rfl,rfl⟩
 |v::r,s=>by
  by_cases h:v.name=s
  ·exact .inr ⟨[],v,r,rfl,by simp[lkV,h],by simp[tU,h]⟩
  ·have h1:lkV (v::r) s=lkV r s:=by simp[lkV,h]
   have h2:tU (v::r) s=tU r s:=by simp[tU,h]
   rw[h1,h2]
   rcases uo r s with h|⟨pre,u,q,e,h⟩
   ·exact .inl h
   ·exact .inr ⟨v::pre,u,q,by rw[e];rfl,h⟩
def K_spec_l4Walk_put:AK:= .seq (.reg [oJ 6 (.mov (.c (.p (.str []))))]) (.seq (.reg [oM 8 0,oM 9 1,oJ 10 (.call dG [(.t 8),(.t 9)]),oM 7 10]) (.cut (.seq (.reg [oM 11 7,oJ 12 (.bin .geq (.t 11) (.c (.p (.int .i64 0)))),oM 13 12,⟨(some 14),some (13,true),.mov (.t 0)⟩,⟨(some 15),some (13,true),.nilck (.t 14)⟩,⟨(some 16),some (13,true),.fldA 2 (.t 15)⟩,⟨(some 17),some (13,true),.ld none (.t 16)⟩,⟨(some 18),some (13,true),.mov (.t 7)⟩,⟨(some 19),some (13,true),.idxS 3 (.t 17) (.t 18)⟩,⟨(some 20),some (13,true),.fldA 2 (.t 19)⟩,⟨(some 21),some (13,true),.ld none (.t 20)⟩,⟨(some 22),some (13,true),.mov (.t 2)⟩,⟨(some 23),some (13,true),.bin .eql (.t 21) (.t 22)⟩,oJ 24 (.pick (.t 13) (.t 23) (.c (.p (.bool false))))]) (.cond (.t 24) (.reg [oM 25 0,oJ 26 (.call bg [(.t 25),(.c (.p (.int .i64 2)))])]) (.skip))) (.seq (.reg [oM 27 0,oM 28 0,oN 29 28,oF 30 2 29,oM 32 1,oM 33 0,oN 34 33,oF 35 3 34,oM 37 2,oL 31 30,oL 36 35,oJ 38 (.bld [(.p (.str [])),(.p (.int .i64 0)),(.p (.int .i64 0))] [(0,1,(.t 32)),(1,1,(.t 36)),(2,1,(.t 37))]),oJ 39 (.bslP 3 [(.p (.str [])),(.p (.int .i64 0)),(.p (.int .i64 0))] 1 [(0,3,(.t 38))]),oJ 40 (.app 3 32 (.t 31) (.t 39)),oN 41 27,oF 42 2 41,oS 42 40]) (.seq (.reg [oM 43 0,oM 44 0,oN 45 44,oF 46 3 45,oL 47 46,oJ 48 (.bin .add (.t 47) (.c (.p (.int .i64 1)))),oN 49 43,oF 50 3 49,oS 50 48]) (.seq (.reg [oM 51 0,oN 52 51,oF 53 3 52,oL 54 53,oJ 55 (.bin .sub (.t 54) (.c (.p (.int .i64 1)))),oJ 56 (.call gL [(.t 55)]),oM 6 56]) (.ret))))))
theorem te:K_spec_l4Walk_put.whole=F_spec_l4Walk_put.ak:=rfl
variable (G:aM)
theorem JM(l:List Fd)(s:List UInt8)(hl:l.length≤1099511627776):VF Tryz.prog G iu [.agg [.p (fdL l)],.p (.str s)] (.p (.int .i64 (ixI (ep l s)))):=by
 refine AC.go BL ?_
 have hfl:∀l,fdL l= .lst 3 (l.map Fd.cs):=fun _=>rfl
 simp-implicitDefEqProofs[uQ,hfl]
 refine aV (fun i:Nat=>am 22 [(1,.p (.str s)),(2,.ptr 0 1 0 0),(5,.p (.int .i64 i))]) (fun _=>[.row 1 [[.p (.lst 3 (l.map Fd.cs))]]]) (fun i=>i≤l.length∧∀f∈l.take i,f.name≠s) (fun i=>l.length-i) 0 (by simp) (ae (by simp) (by simp[okO]) (by simp[below])) ?_
 intro i ⟨hi,hn⟩
 simp-implicitDefEqProofs[]
 refine bf (fun h=>?_) (fun h=>?_)
 ·simp at h
  have hg:=RA h
  have hce:l[i].cs=[.str l[i].name,aC l[i].params,smL l[i].body]:=rfl
  by_cases he:l[i].name=s
  ·have hf:ep l s=some i:=by
    rw[ep,Sa]
    exact⟨h,by simpa using he,fun j hj=>by have:=hn l[j] (List.mem_take_iff_getElem.2 ⟨j,by omega,rfl⟩);simpa using this⟩
   simp-implicitDefEqProofs[hg,hce,he,hf,ixI]
  ·simp-implicitDefEqProofs[hg,hce,he]
   refine⟨i+1,⟨h,fun p hp=>?_⟩,by omega,ae (by simp) (by simp[okO]) (by simp[below,w1 (i:=i) (by omega)])⟩
   rw[an h] at hp
   rcases RJ.1 hp with hp|hp
   ·exact hn p hp
   ·rw[RM.1 hp];exact he
 ·simp at h
  rw[RG h] at hn
  have hf:ep l s=none:=by
   rw[ep,So];intro x hx;simpa using hn x hx
  simp-implicitDefEqProofs[hf,ixI]
theorem ND:∀m:Nat,m<26→((([97,98,99,100,101,102,103,104,105,106,107,108,109,110,111,112,113,114,115,116,117,118,119,120,121,122]:List UInt8).take (m+1)).drop m)=[UInt8.ofNat (97+m)]:=by decide
theorem LU:∀m:Nat,m<26→List.drop m ((97:UInt8)::List.take m [98,99,100,101,102,103,104,105,106,107,108,109,110,111,112,113,114,115,116,117,118,119,120,121,122])=[97+UInt8.ofNat m]:=by decide
theorem xJ(n:Nat):VF Tryz.prog G gL [.p (.int .i64 n)] (.p (.str (vnm n))):=by
 refine AC.go yr ?_
 have hm:n%26<26:=Nat.mod_lt _ (by omega)
 have ht:(n:Int).tmod 26=((n%26:Nat):Int):=rfl
 have hw:IntKind.i64.wrap (((n%26:Nat):Int)+1)=((n%26+1:Nat):Int):=w1 (by omega)
 have habc:=ND _ hm
 rw[vnm]
 generalize n%26=m at hm ht hw habc
 have h0:(0:Int)≤(m:Int)+1:=by omega
 have h1:m+1≤26:=by omega
 simp-implicitDefEqProofs[qP,ht,hw,h0,h1]
 exact⟨by omega,LU m hm⟩
theorem pU(nf:Bool)(fns:List Fd)(k:Nat)(w:WS)(c:Int):AC Tryz.prog G bg [.ptr 0 5 0 0,.p (.int .i64 c)] (HWk nf fns k w) fun x h=>x= .ret (.tup [])∧h=HWk nf fns k ⟨w.vs,w.count,fl w.code c⟩:=by
 refine AC.go rz ?_
 by_cases h0:w.code=0
 ·simp-implicitDefEqProofs[ie,HWk,wO,wC,h0,fl]
 ·simp-implicitDefEqProofs[ie,HWk,wO,wC,h0,fl]
theorem xF(nf:Bool)(fns:List Fd)(k:Nat)(w:WS):∀o∈HWk nf fns k w,okO 2 o:=by
 intro o ho
 simp only[HWk,RY,List.not_mem_nil,or_false] at ho
 rcases ho with rfl|rfl
 ·exact uS (by omega)
 ·exact hY _ _ _
theorem EO(nf:Bool)(fns:List Fd)(k:Nat)(w:WS)(hn:nf=true→w.vs=[])(hl:w.vs.length≤1099511627776)(s:List UInt8):AC Tryz.prog G dG [.ptr 0 5 0 0,.p (.str s)] (HWk nf fns k w) fun x h=>x= .ret (.p (.int .i64 (tU w.vs s)))∧h=HWk nf fns k w:=by
 refine AC.go rT ?_
 have hok:=xF nf fns k w
 cases nf with
 |true=>
  have hv:=hn rfl
  rw[HWk] at hok⊢
  simp-implicitDefEqProofs[ik,wO,wC,vaC,hv]
  refine aV (fun _:Unit=>am 27 [(0,.ptr 0 5 0 0),(1,.p (.str s)),(5,.p (.int .i64 (-1)))]) (fun _=>[wO 1 true fns k w,roC true w.vs]) (fun _=>True) (fun _=>0) () trivial ?_ ?_
  ·have e:wO 1 true fns k w= .row 5 [[.p (fdL fns),.p (.int .i64 k),.nils,.p (.int .i64 w.count),.p (.int .i64 w.code)]]:=by simp[wO,wC,vaC]
   rw[←e,←hv]
   exact ae (by simp) hok (by simp[below,af (x:= -1) (by omega) (by omega)])
  ·intro _ _
   simp-implicitDefEqProofs[tU]
   simp[wO,wC,vaC,hv]
 |false=>
  rw[HWk] at hok⊢
  have e:∀r,roC false r= .row 3 (lvR r):=fun _=>rfl
  have hw0:IntKind.i64.wrap ((w.vs.length:Int)-1)=(w.vs.length:Int)-1:=af (by omega) (by omega)
  simp-implicitDefEqProofs[ik,wO,wC,vaC,hw0]
  refine aV (fun r:List LV=>am 27 [(0,.ptr 0 5 0 0),(1,.p (.str s)),(5,.p (.int .i64 ((r.length:Int)-1)))]) (fun _=>[wO 1 false fns k w,roC false w.vs]) (fun r=>∃pre,w.vs=pre++r∧tU w.vs s=tU r s) (fun r=>r.length) w.vs ⟨[],rfl,rfl⟩ ?_ ?_
  ·exact ae (h:=[wO 1 false fns k w,roC false w.vs]) (by simp) hok (by simp[below])
  ·rintro r ⟨pre,e1,e2⟩
   cases r with
   |nil=>
    simp-implicitDefEqProofs[wO,wC,vaC]
    rw[e2];rfl
   |cons v r=>
    have hat:=DU pre v r
    rw[←e1] at hat
    have hlen:r.length<w.vs.length:=by rw[e1];simp;omega
    have hll:=vU w.vs
    have c1:((r.length+1:Nat):Int)-1=(r.length:Int):=by omega
    have hw1:IntKind.i64.wrap ((r.length:Int)-1)=(r.length:Int)-1:=af (by omega) (by omega)
    by_cases hs:v.name=s
    ·simp-implicitDefEqProofs[wO,wC,vaC,e,c1,hat,hlen,lvC,hs]
     rw[e2];simp[tU,hs]
    ·simp-implicitDefEqProofs[wO,wC,vaC,e,c1,hat,hlen,lvC,hs]
     refine⟨r,⟨⟨pre++[v],by rw[e1];simp⟩,by rw[e2];simp[tU,hs]⟩,by simp,?_⟩
     refine ae (h:=[wO 1 false fns k w,roC false w.vs]) (by simp) hok ?_
     simp[below,hw1]
theorem Ij(nf:Bool)(fns:List Fd)(k:Nat)(w:WS)(hn:nf=true→w.vs=[])(hl:w.vs.length≤1099511627776)(s:List UInt8):AC Tryz.prog G de [.ptr 0 5 0 0,.p (.str s)] (HWk nf fns k w) fun x h=>x= .ret (.p (.str (xE w.vs s)))∧h=HWk nf fns k ⟨w.vs,w.count,nK w.vs s w.code⟩:=by
 refine AC.go sU ?_
 simp-implicitDefEqProofs[me]
 refine(EO G nf fns k w hn hl s).mono ?_
 rintro r h ⟨rfl,rfl⟩
 rcases uo w.vs s with⟨e1,e2⟩|⟨pre,v,q,e0,e1,e2⟩
 ·simp-implicitDefEqProofs[aa,e2]
  refine(pU G nf fns k w 3).mono ?_
  rintro r h ⟨rfl,rfl⟩
  simp-implicitDefEqProofs[aa,xE,nK,e1]
 ·have hat:=DU pre v q
  rw[←e0] at hat
  have hlen:q.length<w.vs.length:=by rw[e0];simp;omega
  have hnf:nf=false:=by
   cases nf with
   |false=>rfl
   |true=>rw[hn rfl] at e0;simp at e0
  subst hnf
  have e:∀r,roC false r= .row 3 (lvR r):=fun _=>rfl
  have hq:¬(q.length:Int)<0:=by omega
  simp-implicitDefEqProofs[aa,e2,hq,HWk,wO,wC,vaC,e,hat,hlen,lvC]
  refine(xJ G v.num).use ?_
  simp-implicitDefEqProofs[xE,nK,e1]
theorem Ig(nf:Bool)(fns:List Fd)(k:Nat)(w:WS)(hn:nf=true→w.vs=[])(hl:w.vs.length≤1099511627776)(hc:w.count≤1099511627776)(s:List UInt8)(b:Nat):AC Tryz.prog G dg [.ptr 0 5 0 0,.p (.str s),.p (.int .i64 b)] (HWk nf fns k w) fun x h=>x= .ret (.p (.str (vnm w.count)))∧h=[wO 2 false fns k (kO w s b),.dead,roC false (kO w s b).vs]:=by
 refine AC.goK sO te ?_
 have hw1:IntKind.i64.wrap ((w.count:Int)+1)=(w.count:Int)+1:=af (by omega) (by omega)
 have hw2:IntKind.i64.wrap ((w.count:Int)+1-1)=(w.count:Int):=by rw[af (by omega) (by omega)];omega
 have hw3:IntKind.i64.wrap (w.count:Int)=(w.count:Int):=af (by omega) (by omega)
 have hll:=vU w.vs
 simp-implicitDefEqProofs[K_spec_l4Walk_put,F_spec_l4Walk_put]
 refine(EO G nf fns k w hn hl s).mono ?_
 rintro r h ⟨rfl,rfl⟩
 simp-implicitDefEqProofs[aa]
 refine lp (am 57 [(0,.ptr 0 5 0 0),(1,.p (.str s)),(2,.p (.int .i64 b))]) (HWk nf fns k ⟨w.vs,w.count,oC w.vs s b w.code⟩) ?_ ?_
 ·rcases uo w.vs s with⟨e1,e2⟩|⟨pre,v,q,e0,e1,e2⟩
  ·simp-implicitDefEqProofs[e2,oC,e1]
   exact ae (by simp[HWk]) (xF nf fns k w) (by simp[below,HWk])
  ·have hat:=DU pre v q
   rw[←e0] at hat
   have hlen:q.length<w.vs.length:=by rw[e0];simp;omega
   have hnf:nf=false:=by
    cases nf with
    |false=>rfl
    |true=>rw[hn rfl] at e0;simp at e0
   subst hnf
   have e:∀r,roC false r= .row 3 (lvR r):=fun _=>rfl
   have hq:(0:Int)≤(q.length:Int):=by omega
   by_cases hb:v.block=b
   ·have:=pU G false fns k w 2
    simp only[HWk,wO,wC,vaC,e] at this
    simp-implicitDefEqProofs[e2,HWk,wO,wC,vaC,e,hat,hlen,lvC,hb]
    refine this.mono ?_
    rintro r h ⟨rfl,rfl⟩
    have hp:oC w.vs s b w.code=fl w.code 2:=by simp[oC,e1,hb]
    rw[hp]
    simp-implicitDefEqProofs[aa]
    refine ae (h:=HWk false fns k ⟨w.vs,w.count,fl w.code 2⟩) ?_ (xF _ _ _ _) ?_
    ·simp[HWk]
    ·simp[below,HWk]
   ·have hp:oC w.vs s b w.code=w.code:=by simp[oC,e1,hb]
    have hbi:¬(v.block:Int)=(b:Int):=by omega
    rw[hp]
    simp-implicitDefEqProofs[e2,HWk,wO,wC,vaC,e,hat,hlen,lvC,hbi]
    refine ae (h:=HWk false fns k w) ?_ (xF _ _ _ _) ?_
    ·simp[HWk]
    ·simp[below,HWk]
 ·cases nf with
  |true=>
   have hv:=hn rfl
   simp-implicitDefEqProofs[HWk,wO,wC,vaC,roC,hv,hw1,hw2,hw3]
   refine(xJ G w.count).use ?_
   simp-implicitDefEqProofs[kO,lvR,lvC,hv]
  |false=>
   have e:∀r,roC false r= .row 3 (lvR r):=fun _=>rfl
   simp-implicitDefEqProofs[HWk,wO,wC,vaC,e,hw1,hw2,hw3,hll]
   refine⟨by omega,?_⟩
   refine(xJ G w.count).use ?_
   simp-implicitDefEqProofs[kO,JO,lvC]
   rw[RG (by omega)]
end
section
def K_spec_l4Walk_expr:AK:= .seq (.reg [oJ 3 (.box 4 (.t 1)),oJ 4 (.alloc [(.p (.int .i64 0)),(.p (.int .i64 0)),(.p (.str [])),.nils])]) (.cut (.seq (.reg [oF 8 0 3,oL 9 8,oJ 10 (.bin .eql (.t 9) (.c (.p (.int .i64 2))))]) (.cond (.t 10) (.reg [oM 11 0,oF 12 2 3,oL 13 12,oJ 14 (.call de [(.t 11),(.t 13)]),oF 15 2 3,oS 15 14]) (.skip))) (.cut (.seq (.reg [oF 16 0 3,oL 17 16,oJ 18 (.bin .eql (.t 17) (.c (.p (.int .i64 13))))]) (.cond (.t 18) (.seq (.reg [oM 19 0,oN 20 19,oF 21 0 20,oF 23 2 3,oJ 22 (.ld (some 1) (.t 21)),oL 24 23,oJ 25 (.call iu [(.t 22),(.t 24)]),oM 5 25]) (.seq (.reg [oM 26 5,oJ 27 (.bin .lss (.t 26) (.c (.p (.int .i64 0)))),oM 28 27,⟨(some 29),some (28,false),.mov (.t 5)⟩,⟨(some 30),some (28,false),.mov (.t 0)⟩,⟨(some 31),some (28,false),.nilck (.t 30)⟩,⟨(some 32),some (28,false),.fldA 1 (.t 31)⟩,⟨(some 33),some (28,false),.ld none (.t 32)⟩,⟨(some 34),some (28,false),.bin .geq (.t 29) (.t 33)⟩,oJ 35 (.pick (.t 28) (.c (.p (.bool true))) (.t 34))]) (.cond (.t 35) (.reg [oM 36 0,oJ 37 (.call bg [(.t 36),(.c (.p (.int .i64 4)))])]) (.seq (.reg [oM 38 0,oN 39 38,oF 40 0 39,oF 41 0 40,oM 43 5,oF 48 3 3,oL 42 41,oJ 44 (.idxS 3 (.t 42) (.t 43)),oF 45 1 44,oL 46 45,oJ 47 (.len false (.t 46)),oL 49 48,oJ 50 (.len false (.t 49)),oJ 51 (.bin .neq (.t 47) (.t 50))]) (.cond (.t 51) (.reg [oM 52 0,oJ 53 (.call bg [(.t 52),(.c (.p (.int .i64 5)))])]) (.skip)))))) (.skip))) (.seq (.reg [oJ 54 (.bsl 4 [(.p (.int .i64 0)),(.p (.int .i64 0)),(.p (.str [])),.nils] 0 []),oM 6 54]) (.seq (.seq (.reg [oK 7 0]) (.blk 0 (.loop (.seq (.seq (.reg [oM 55 7,oF 56 3 3,oL 57 56,oJ 58 (.len false (.t 57)),oJ 59 (.bin .lss (.t 55) (.t 58))]) (.cond (.t 59) (.skip) (.exit 0))) (.seq (.blk 1 (.reg [oM 62 6,oM 63 0,oF 64 3 3,oL 65 64,oM 66 7,oJ 67 (.idxS 4 (.t 65) (.t 66)),oJ 68 (.ld (some 4) (.t 67)),oJ 69 (.call cf [(.t 63),(.t 68)]),oJ 70 (.bsl 4 [(.p (.int .i64 0)),(.p (.int .i64 0)),(.p (.str [])),.nils] 1 [(0,4,(.t 69))]),oJ 71 (.app 4 56 (.t 62) (.t 70)),oM 6 71])) (.reg [oM 60 7,oJ 61 (.bin .add (.t 60) (.c (.p (.int .i64 1)))),oM 7 61])))))) (.seq (.reg [oM 72 6,oF 73 3 3,oS 73 72]) (.seq (.reg [oJ 74 (.ld (some 4) (.t 3)),⟨none,none,.st 4 (.t 4) (.t 74)⟩]) (.ret)))))))
theorem rt:K_spec_l4Walk_expr.whole=F_spec_l4Walk_expr.ak:=rfl
variable (G:aM)
theorem Cv{f:FuncId}{args:List AV}{nf:Bool}{fns:List Fd}{k:Nat}{w w':WS}{v:AV}(H:AC Tryz.prog G f args (HWk nf fns k w) fun x h=>x= .ret v∧h=HWk nf fns k w')(rest:List AO)(ha:aj 2 args):
 AC Tryz.prog G f args (wO 1 nf fns k w::roC nf w.vs::rest) fun x h=>x= .ret v∧h=wO 1 nf fns k w'::roC nf w'.vs::rest:=by
 refine(AC.pre H rest ha (xF _ _ _ _) ?_).mono ?_
 ·rintro x h ⟨_,rfl⟩;rfl
 ·rintro x h ⟨h1,⟨rfl,rfl⟩,rfl⟩
  exact⟨rfl,rfl⟩
theorem tj{n id:Nat}(hn:id<n){nf nf':Bool}{fns:List Fd}{k:Nat}{w:WS}{vs:List LV}{l:List AO}(r:∀o∈l,okO n o):∀o∈wO id nf fns k w::roC nf' vs::l,okO n o:=ag (uS hn) (ag (hY _ _ _) r)
theorem xp{ρ π:List Nat}{h r1:List AO}{i id:Nat}{nf:Bool}{fns:List Fd}{k:Nat}{w:WS}(hid:id<ρ.length)(e:h[i]?=some (wO (ρ.getD id 0) nf fns k w))(hr:HW ρ h π r1):HW ρ h (i::π) (wO id nf fns k w::r1):=by
 refine cU (es:=[wC id nf fns k w]) (fun x hx=>?_) ?_ hr
 ·rw[RM.1 hx];exact ws hid
 ·rw[e,Sb,List.map_nil,Ag];rfl
theorem FI{α:Type}{l:List α}{i j:Nat}{a b:α}(hij:i≠j)(h:l[j]?=some b):(l.set i a).set j b=l.set i a:=by
 apply List.ext_getElem?
 intro n
 rw[List.getElem?_set]
 split
 ·rename_i e
  subst e
  rw[RE hij,h]
  rw[if_pos (by rw[SH];exact(RB.1 h).1)]
 ·rfl
theorem AM(ρ:List Nat):∀l:List AV,aj 0 l→TW ρ l l
 |[],_=>by simp
 |v::r,h=>by
  rw[vW]
  refine⟨.inr ⟨(aW (Nat.zero_le _) [v] ⟨h.1,trivial⟩).1,?_⟩,AM ρ r h.2⟩
  have:=dZ ρ [v] ⟨h.1,trivial⟩
  simpa[bL] using this
theorem Pm{h:List AO}{wid id:Nat}{nf:Bool}{fns:List Fd}{k:Nat}{w:WS}(e0:h[wid]?=some (wO id nf fns k w))(e1:h[id]?=some (roC nf w.vs)):HW [wid,id] h [wid,id] (HWk nf fns k w):=by
 refine cU (es:=[wC 1 nf fns k w]) (fun x hx=>?_) ?_ ?_
 ·rw[RM.1 hx];exact ws (by simp)
 ·rw[e0,Sb,List.map_nil,Ag];rfl
 ·exact dB e1 (hY _ _ _) br
theorem MM{f:FuncId}{args:List AV}{nf:Bool}{fns:List Fd}{k:Nat}{w:WS}{v:AV}{c:Int}(H:AC Tryz.prog G f (.ptr 0 5 0 0::args) (HWk nf fns k w) fun x h=>x= .ret v∧h=HWk nf fns k ⟨w.vs,w.count,c⟩)(ha:aj 0 args)(hv:below 0 v)
 {h:List AO}{wid id:Nat}(hid:wid≠id)(e0:h[wid]?=some (wO id nf fns k w))(e1:h[id]?=some (roC nf w.vs)):
 AC Tryz.prog G f (.ptr wid 5 0 0::args) h fun x h'=>x= .ret v∧h'=h.set wid (wO id nf fns k ⟨w.vs,w.count,c⟩):=by
 refine(H.frame [wid,id] (by simp[hid]) ?_ (Pm e0 e1)).mono ?_
 ·rw[vW];exact⟨.inr ⟨by simp[below],rfl⟩,AM _ _ ha⟩
 ·rintro x h' ⟨x0,h0,⟨rfl,rfl⟩,_,rfl,rfl⟩
  refine⟨?_,?_⟩
  ·have:=dZ ([wid,id]++List.range' h.length ((HWk nf fns k ⟨w.vs,w.count,c⟩).length-(HWk nf fns k w).length)) [v] ⟨hv,trivial⟩
   simp only[bL] at this
   simp only[xu]
   exact congrArg ARes.ret (List.cons.inj this).1
  ·simp only[HWk,RW,List.length_nil,Nat.sub_self,List.range'_zero,Ss,List.take_succ_cons,List.take_zero,Sb,List.map_nil,List.drop_succ_cons,List.drop_zero,EE,CF,mrg]
   exact FI hid e1
theorem HD{f:FuncId}{args:List AV}{nf:Bool}{fns:List Fd}{k:Nat}{w:WS}{v:AV}{Q:Bool→WS→Prop}(H:AC Tryz.prog G f (.ptr 0 5 0 0::args) (HWk nf fns k w) fun x h=>∃nf' w',x= .ret v∧h=[wO 2 nf' fns k w',.dead,roC nf' w'.vs]∧Q nf' w')(ha:aj 0 args)(hv:below 0 v)
 {h:List AO}{wid id:Nat}(hid:wid≠id)(e0:h[wid]?=some (wO id nf fns k w))(e1:h[id]?=some (roC nf w.vs)):
 AC Tryz.prog G f (.ptr wid 5 0 0::args) h fun x h'=>∃nf' w',x= .ret v∧h'=(h.set wid (wO h.length nf' fns k w')).set id .dead++[roC nf' w'.vs]∧Q nf' w':=by
 refine(H.frame [wid,id] (by simp[hid]) ?_ (Pm e0 e1)).mono ?_
 ·rw[vW];exact⟨.inr ⟨by simp[below],rfl⟩,AM _ _ ha⟩
 ·rintro x h' ⟨x0,h0,⟨nf',w',rfl,rfl,q⟩,_,rfl,rfl⟩
  refine⟨nf',w',?_,?_,q⟩
  ·have:=dZ ([wid,id]++List.range' h.length ([wO 2 nf' fns k w',.dead,roC nf' w'.vs].length-(HWk nf fns k w).length)) [v] ⟨hv,trivial⟩
   simp only[bL] at this
   simp only[xu]
   exact congrArg ARes.ret (List.cons.inj this).1
  ·simp only[HWk,RW,List.length_nil,List.take_succ_cons,List.take_zero,Sb,List.map_nil,List.drop_succ_cons,List.drop_zero,EE,CF,mrg]
   rfl
theorem zf(fns:List Fd)(k:Nat)(vs:List LV):∀(a b:List Ex) (c:Int),bB fns k vs (a++b) c=bB fns k vs b (bB fns k vs a c)
 |[],b,c=>rfl
 |e::r,b,c=>by rw[Sj,bB,bB,zf fns k vs r]
theorem tq(vs:List LV):∀l:List Ex,kZ vs l=l.map (rnE vs)
 |[]=>rfl
 |e::r=>by rw[kZ,tq vs r];rfl
theorem wg{fns:List Fd}{k:Nat}{vs:List LV}{l:List Ex}{c:Int}{i:Nat}(h:i<l.length):bB fns k vs (l.take (i+1)) c=jR fns k vs l[i] (bB fns k vs (l.take i) c):=by
 rw[an h,zf];rfl
theorem zu{vs:List LV}{l:List Ex}{i:Nat}(h:i<l.length):kZ vs (l.take (i+1))=kZ vs (l.take i)++[rnE vs l[i]]:=by
 rw[tq,tq,an h,List.map_append];rfl
theorem rW(vs:List LV)(l:List Ex):(kZ vs l).length=l.length:=by rw[tq,RX]
theorem vS(l:List Ex):(exR l).length=l.length:=by simp[exR]
theorem vT(a b:List Ex):exR (a++b)=exR a++exR b:=by simp[exR]
theorem sf{h:List AO}{id:Nat}{l:List Ex}(e:h[id]?=some (.row 4 (exR l))):View h (.sl id 4 0 l.length) (exL l):=by
 have:=iH (h:=h) (id:=id) (sz:=4) (n:=l.length) (ls:=l.map Ex.cs) (by rw[e,exR];simp) (by simp) (fun x hx=>by obtain⟨b,_,rfl⟩:=RU.1 hx;exact b.cs_len)
 exact this
theorem LN{fns:List Fd}{s:List UInt8}{j:Nat}(h:ep fns s=some j):j<fns.length:=by
 rw[ep,Sa] at h;exact h.1
theorem LA{fns:List Fd}{k:Nat}(hf:fns.length≤1099511627776):∀(N:Nat) (e:Ex),e.sz≤N→N≤1099511627776→∀(nf:Bool) (w:WS),(nf=true→w.vs=[])→w.vs.length≤1099511627776→
 AC Tryz.prog G cf [.ptr 0 5 0 0,.agg (e.cs.map .p)] (HWk nf fns k w) fun x h=>x= .ret (.agg ((rnE w.vs e).cs.map .p))∧h=HWk nf fns k ⟨w.vs,w.count,jR fns k w.vs e w.code⟩:=by
 intro N
 induction N with
 |zero=>intro e he;have:=e.sz_eq;omega
 |succ N ih=>
  intro e he hN nf w hn hl
  have hec:=e.cs_eq
  have hsz:=e.sz_eq
  have hkl:=bh e.kids
  have hre:(rnE w.vs e).cs=[.int .i64 e.op,.int .i64 e.n,.str (if e.op=2 then xE w.vs e.name else e.name),exL (kZ w.vs e.kids)]:=by
   obtain⟨o,n,s,ks⟩:=e;rw[rnE,Ex.cs_eq];rfl
  have hce:jR fns k w.vs e w.code=bB fns k w.vs e.kids (io fns k w.vs e.op e.name e.kids.length w.code):=by
   obtain⟨o,n,s,ks⟩:=e;rfl
  have main:AC Tryz.prog G cf [.ptr 0 5 0 0,.agg (e.cs.map .p)] (HWk nf fns k w) fun x h=>∃E1 E2,x= .ret (.agg [.p (.int .i64 e.op),.p (.int .i64 e.n),.p (.str (if e.op=2 then xE w.vs e.name else e.name)),.sl 4 4 0 e.kids.length])∧
   h=[wO 1 nf fns k ⟨w.vs,w.count,jR fns k w.vs e w.code⟩,roC nf w.vs,E1,E2,.row 4 (exR (kZ w.vs e.kids))]:=by
   refine AC.goK rr rt ?_
   simp-implicitDefEqProofs[K_spec_l4Walk_expr,F_spec_l4Walk_expr,HWk,hec]
   refine lp (am 75 [(0,.ptr 0 5 0 0),(3,.ptr 2 4 0 0),(4,.ptr 3 4 0 0)]) [wO 1 nf fns k ⟨w.vs,w.count,if e.op=2 then nK w.vs e.name w.code else w.code⟩,roC nf w.vs,.row 4 [[.p (.int .i64 e.op),.p (.int .i64 e.n),.p (.str (if e.op=2 then xE w.vs e.name else e.name)),.p (exL e.kids)]],.row 4 [[.p (.int .i64 0),.p (.int .i64 0),.p (.str []),.nils]]] ?_ ?_
   ·by_cases o2:e.op=2
    ·simp-implicitDefEqProofs[o2]
     refine(Cv G (Ij G nf fns k w hn hl e.name) _ (by simp[below])).mono ?_
     rintro r h ⟨rfl,rfl⟩
     simp-implicitDefEqProofs[aa]
     exact ae (by simp) (tj (by simp) (by simp[okO,below])) (by simp[below])
    ·simp-implicitDefEqProofs[o2]
     exact ae (by simp) (tj (by simp) (by simp[okO,below])) (by simp[below])
   refine lp (am 75 [(0,.ptr 0 5 0 0),(3,.ptr 2 4 0 0),(4,.ptr 3 4 0 0)]) [wO 1 nf fns k ⟨w.vs,w.count,io fns k w.vs e.op e.name e.kids.length w.code⟩,roC nf w.vs,.row 4 [[.p (.int .i64 e.op),.p (.int .i64 e.n),.p (.str (if e.op=2 then xE w.vs e.name else e.name)),.p (exL e.kids)]],.row 4 [[.p (.int .i64 0),.p (.int .i64 0),.p (.str []),.nils]]] ?_ ?_
   ·by_cases o13:e.op=13
    ·have hhd:io fns k w.vs e.op e.name e.kids.length w.code=nw fns k e.name e.kids.length w.code:=by simp[io,o13]
     rw[hhd]
     simp-implicitDefEqProofs[o13,wO,wC]
     refine(JM G fns e.name hf).use ?_
     have fin:∀c:Int,Wk 2 (am 75 [(0,.ptr 0 5 0 0),(3,.ptr 2 4 0 0),(4,.ptr 3 4 0 0)]) [wO 1 nf fns k ⟨w.vs,w.count,c⟩,roC nf w.vs,.row 4 [[.p (.int .i64 13),.p (.int .i64 e.n),.p (.str e.name),.p (exL e.kids)]],.row 4 [[.p (.int .i64 0),.p (.int .i64 0),.p (.str []),.nils]]] (am 75 [(0,.ptr 0 5 0 0),(3,.ptr 2 4 0 0),(4,.ptr 3 4 0 0)]) [wO 1 nf fns k ⟨w.vs,w.count,c⟩,roC nf w.vs,.row 4 [[.p (.int .i64 13),.p (.int .i64 e.n),.p (.str e.name),.p (exL e.kids)]],.row 4 [[.p (.int .i64 0),.p (.int .i64 0),.p (.str []),.nils]]]:=fun c=>
      ae (by simp) (tj (by simp) (by simp[okO,below])) (by simp[below])
     cases hfa:ep fns e.name with
     |none=>
      simp-implicitDefEqProofs[ixI,nw,hfa]
      refine(Cv G (pU G nf fns k w 4) _ (by simp[below])).mono ?_
      rintro r h ⟨rfl,rfl⟩
      simp-implicitDefEqProofs[aa]
      exact ae (h:=[wO 1 nf fns k ⟨w.vs,w.count,fl w.code 4⟩,roC nf w.vs,.row 4 [[.p (.int .i64 13),.p (.int .i64 e.n),.p (.str e.name),.p (exL e.kids)]],.row 4 [[.p (.int .i64 0),.p (.int .i64 0),.p (.str []),.nils]]]) (by simp) (tj (by simp) (by simp[okO,below])) (by simp[below])
     |some j=>
      have hj:=LN hfa
      have hg:=RA hj
      have hjn:¬(j:Int)<0:=by omega
      by_cases hkj:k≤j
      ·have hkj':(k:Int)≤(j:Int):=by omega
       simp-implicitDefEqProofs[ixI,nw,hfa,hkj,hkj',hjn]
       refine(Cv G (pU G nf fns k w 4) _ (by simp[below])).mono ?_
       rintro r h ⟨rfl,rfl⟩
       simp-implicitDefEqProofs[aa]
       exact ae (h:=[wO 1 nf fns k ⟨w.vs,w.count,fl w.code 4⟩,roC nf w.vs,.row 4 [[.p (.int .i64 13),.p (.int .i64 e.n),.p (.str e.name),.p (exL e.kids)]],.row 4 [[.p (.int .i64 0),.p (.int .i64 0),.p (.str []),.nils]]]) (by simp) (tj (by simp) (by simp[okO,below])) (by simp[below])
      ·have hkj':¬(k:Int)≤(j:Int):=by omega
       have hfl:fdL fns= .lst 3 (fns.map Fd.cs):=rfl
       have hcs:fns[j].cs=[.str fns[j].name,aC fns[j].params,smL fns[j].body]:=rfl
       have hst:aC fns[j].params= .lst 1 (fns[j].params.map fun w=>[.str w]):=rfl
       have hxl:∀l,exL l= .lst 4 (l.map Ex.cs):=fun _=>rfl
       have hpn:yl fns j=fns[j].params.length:=by simp[yl,hg]
       by_cases hp:fns[j].params.length=e.kids.length
       ·have hcc:nw fns k e.name e.kids.length w.code=w.code:=by simp[nw,hfa,hkj,hpn,hp]
        rw[hcc]
        simp-implicitDefEqProofs[ixI,hkj',hjn,hfl,hg,hcs,hst,hxl,hp]
        exact ae (h:=[wO 1 nf fns k w,roC nf w.vs,.row 4 [[.p (.int .i64 13),.p (.int .i64 e.n),.p (.str e.name),.p (exL e.kids)]],.row 4 [[.p (.int .i64 0),.p (.int .i64 0),.p (.str []),.nils]]]) (by simp) (tj (by simp) (by simp[okO,below])) (by simp[below])
       ·have hcc:nw fns k e.name e.kids.length w.code=fl w.code 5:=by simp[nw,hfa,hkj,hpn,hp]
        have hp':¬(fns[j].params.length:Int)=(e.kids.length:Int):=by omega
        rw[hcc]
        simp-implicitDefEqProofs[ixI,hkj',hjn,hfl,hg,hcs,hst,hxl,hp']
        refine(Cv G (pU G nf fns k w 5) _ (by simp[below])).mono ?_
        rintro r h ⟨rfl,rfl⟩
        simp-implicitDefEqProofs[aa]
        exact ae (h:=[wO 1 nf fns k ⟨w.vs,w.count,fl w.code 5⟩,roC nf w.vs,.row 4 [[.p (.int .i64 13),.p (.int .i64 e.n),.p (.str e.name),.p (exL e.kids)]],.row 4 [[.p (.int .i64 0),.p (.int .i64 0),.p (.str []),.nils]]]) (by simp) (tj (by simp) (by simp[okO,below])) (by simp[below])
    ·have hhd:io fns k w.vs e.op e.name e.kids.length w.code=if e.op=2 then nK w.vs e.name w.code else w.code:=by simp[io,o13]
     rw[hhd]
     simp-implicitDefEqProofs[o13]
     exact ae (by simp) (tj (by simp) (by simp[okO,below])) (by simp[below])
   rw[hce]
   generalize io fns k w.vs e.op e.name e.kids.length w.code=c2
   generalize (if e.op=2 then xE w.vs e.name else e.name)=s1
   have hxl:exL e.kids= .lst 4 (e.kids.map Ex.cs):=rfl
   simp-implicitDefEqProofs[]
   refine aV (fun i:Nat=>am 75 [(0,.ptr 0 5 0 0),(3,.ptr 2 4 0 0),(4,.ptr 3 4 0 0),(6,.sl 4 4 0 i),(7,.p (.int .i64 i))])
    (fun i=>[wO 1 nf fns k ⟨w.vs,w.count,bB fns k w.vs (e.kids.take i) c2⟩,roC nf w.vs,.row 4 [[.p (.int .i64 e.op),.p (.int .i64 e.n),.p (.str s1),.p (exL e.kids)]],.row 4 [[.p (.int .i64 0),.p (.int .i64 0),.p (.str []),.nils]],.row 4 (exR (kZ w.vs (e.kids.take i)))])
    (fun i=>i≤e.kids.length) (fun i=>e.kids.length-i) 0 (by simp) ?_ ?_
   ·exact ae (by simp) (tj (by simp) (by simp[okO,below])) (by simp[below])
   ·intro i hi
    have hrl:(exR (kZ w.vs (e.kids.take i))).length=i:=by rw[vS,rW];simp;omega
    simp-implicitDefEqProofs[hxl]
    refine bf (fun h=>?_) (fun h=>?_)
    ·simp at h
     have hg:=RA h
     have hks:=aT (RH h)
     have hkc:=(rnE w.vs e.kids[i]).cs_eq
     simp-implicitDefEqProofs[hg]
     refine(Cv G (ih e.kids[i] (by omega) (by omega) nf ⟨w.vs,w.count,bB fns k w.vs (e.kids.take i) c2⟩ hn hl) _ (by simp[below])).mono ?_
     rintro r h ⟨rfl,rfl⟩
     rw[show(rnE (WS.mk w.vs w.count (bB fns k w.vs (e.kids.take i) c2)).vs e.kids[i])=rnE w.vs e.kids[i] from rfl]
     simp-implicitDefEqProofs[aa,hkc,hrl]
     refine⟨by omega,?_⟩
     refine⟨i+1,by omega,by omega,?_⟩
     have htk:List.take i (exR (kZ w.vs (e.kids.take i)))=exR (kZ w.vs (e.kids.take i)):=RG (by omega)
     rw[wg h,zu h,vT,htk]
     refine bT [0,1,2,3,6] (by simp) (by decide) (by decide) (xp (by simp) rfl (dB rfl (hY _ _ _) (aG rfl (by simp[below]) (aG rfl (by simp[below]) (aG ?_ ?_ br))))) (by simp[below,ren,w1 (i:=i) (by omega)])
     ·have:exR [rnE w.vs e.kids[i]]=[[.p (.int .i64 (rnE w.vs e.kids[i]).op),.p (.int .i64 (rnE w.vs e.kids[i]).n),.p (.str (rnE w.vs e.kids[i]).name),.p (exL (rnE w.vs e.kids[i]).kids)]]:=by rw[exR,Sq,hkc];rfl
      rw[this];rfl
     ·intro x hx
      rcases RJ.1 hx with h|h
      ·exact dL _ x h
      ·exact dL _ x h
    ·simp at h
     have hie:i=e.kids.length:=by omega
     subst hie
     simp-implicitDefEqProofs[]
  refine main.frz 2 (by simp[HWk]) (fun t v h ⟨_,_,e,_⟩=>by cases e) ?_
  rintro v h ⟨E1,E2,e,rfl⟩
  cases e
  refine⟨_,HWk nf fns k ⟨w.vs,w.count,jR fns k w.vs e w.code⟩,by simp,rfl,.agg ?_ .nil,.same (uS (by omega)) (.same (hY _ _ _) (.nil _)),rfl,rfl⟩
  rw[hre]
  have hrl:=rW w.vs e.kids
  rw[←hrl]
  exact .keep (by simp) (.keep (by simp) (.keep (by simp) (.one (sf rfl) .nil)))
end
section
def K_spec_l4Walk_stmts:AK:= .seq (.reg [oJ 6 (.mov (.c .nils))]) (.seq (.reg [oJ 13 (.bsl 5 [(.p (.int .i64 0)),(.p (.str [])),.nils,.nils,.nils] 0 []),oM 7 13]) (.seq (.reg [oM 14 0,oN 15 14,oF 16 2 15,oL 17 16,oJ 18 (.len false (.t 17)),oM 8 18]) (.seq (.seq (.reg [oK 9 0]) (.blk 0 (.loop (.seq (.seq (.reg [oM 19 9,oM 20 1,oJ 21 (.len false (.t 20)),oJ 22 (.bin .lss (.t 19) (.t 21))]) (.cond (.t 22) (.skip) (.exit 0))) (.seq (.blk 1 (.seq (.reg [oM 25 1,oM 26 9,oJ 27 (.idxS 5 (.t 25) (.t 26)),oJ 28 (.ld (some 5) (.t 27)),oJ 10 (.alloc [(.p (.int .i64 0)),(.p (.str [])),.nils,.nils,.nils]),⟨none,none,.st 5 (.t 10) (.t 28)⟩]) (.seq (.reg [oJ 29 (.bsl 4 [(.p (.int .i64 0)),(.p (.int .i64 0)),(.p (.str [])),.nils] 0 []),oM 11 29]) (.seq (.seq (.reg [oK 12 0]) (.blk 2 (.loop (.seq (.seq (.reg [oM 30 12,oF 31 2 10,oL 32 31,oJ 33 (.len false (.t 32)),oJ 34 (.bin .lss (.t 30) (.t 33))]) (.cond (.t 34) (.skip) (.exit 2))) (.seq (.blk 3 (.reg [oM 37 11,oM 38 0,oF 39 2 10,oL 40 39,oM 41 12,oJ 42 (.idxS 4 (.t 40) (.t 41)),oJ 43 (.ld (some 4) (.t 42)),oJ 44 (.call cf [(.t 38),(.t 43)]),oJ 45 (.bsl 4 [(.p (.int .i64 0)),(.p (.int .i64 0)),(.p (.str [])),.nils] 1 [(0,4,(.t 44))]),oJ 46 (.app 4 56 (.t 37) (.t 45)),oM 11 46])) (.reg [oM 35 12,oJ 36 (.bin .add (.t 35) (.c (.p (.int .i64 1)))),oM 12 36])))))) (.cut (.reg [oM 47 11,oF 48 2 10,oS 48 47]) (.cut (.seq (.reg [oF 49 0 10,oL 50 49,oJ 51 (.bin .eql (.t 50) (.c (.p (.int .i64 1))))]) (.cond (.t 51) (.reg [oM 52 0,oF 53 1 10,oL 54 53,oM 55 2,oJ 56 (.call dg [(.t 52),(.t 54),(.t 55)]),oF 57 1 10,oS 57 56]) (.skip))) (.cut (.seq (.reg [oF 58 0 10,oL 59 58,oJ 60 (.bin .eql (.t 59) (.c (.p (.int .i64 2))))]) (.cond (.t 60) (.reg [oM 61 0,oF 62 1 10,oL 63 62,oJ 64 (.call de [(.t 61),(.t 63)]),oF 65 1 10,oS 65 64]) (.skip))) (.seq (.reg [oM 66 0,oF 67 3 10,oL 68 67,oM 69 2,oJ 70 (.bin .add (.t 69) (.c (.p (.int .i64 1)))),oJ 71 (.call bH [(.t 66),(.t 68),(.t 70)]),oF 72 3 10,oS 72 71]) (.seq (.reg [oM 73 0,oF 74 4 10,oL 75 74,oM 76 2,oJ 77 (.bin .add (.t 76) (.c (.p (.int .i64 1)))),oJ 78 (.call bH [(.t 73),(.t 75),(.t 77)]),oF 79 4 10,oS 79 78]) (.reg [oM 80 7,oJ 81 (.ld (some 5) (.t 10)),oJ 82 (.bsl 5 [(.p (.int .i64 0)),(.p (.str [])),.nils,.nils,.nils] 1 [(0,5,(.t 81))]),oJ 83 (.app 5 96 (.t 80) (.t 82)),oM 7 83])))))))))) (.reg [oM 23 9,oJ 24 (.bin .add (.t 23) (.c (.p (.int .i64 1)))),oM 9 24])))))) (.cut (.seq (.reg [oM 84 2,oJ 85 (.bin .gtr (.t 84) (.c (.p (.int .i64 0))))]) (.cond (.t 85) (.reg [oM 86 0,oM 87 0,oN 88 87,oF 89 2 88,oL 90 89,oM 91 8,oJ 92 (.slS 3 (.t 90) none (some (.t 91))),oN 93 86,oF 94 2 93,oS 94 92]) (.skip))) (.seq (.reg [oM 95 7,oM 6 95]) (.ret))))))
theorem qG:K_spec_l4Walk_stmts.whole=F_spec_l4Walk_stmts.ak:=rfl
theorem BF(fns:List Fd)(k b:Nat):∀(x y:List Sm) (w:WS),cg fns k b (x++y) w=cg fns k b y (cg fns k b x w)
 |[],y,w=>rfl
 |s::r,y,w=>by rw[Sj,cg,cg,BF fns k b r]
theorem Cg(fns:List Fd)(k b:Nat):∀(x y:List Sm) (w:WS),iX fns k b (x++y) w=iX fns k b x w++iX fns k b y (cg fns k b x w)
 |[],y,w=>rfl
 |s::r,y,w=>by rw[Sj,iX,iX,Cg fns k b r];rfl
theorem Ge{fns:List Fd}{k b:Nat}{l:List Sm}{w:WS}{i:Nat}(h:i<l.length):cg fns k b (l.take (i+1)) w=stW fns k b l[i] (cg fns k b (l.take i) w):=by
 rw[an h,BF];rfl
theorem Gw{fns:List Fd}{k b:Nat}{l:List Sm}{w:WS}{i:Nat}(h:i<l.length):iX fns k b (l.take (i+1)) w=iX fns k b (l.take i) w++[rnS fns k b l[i] (cg fns k b (l.take i) w)]:=by
 rw[an h,Cg];rfl
theorem xW(fns:List Fd)(k b:Nat):∀(l:List Sm) (w:WS),(iX fns k b l w).length=l.length
 |[],w=>rfl
 |s::r,w=>by rw[iX,RW,xW fns k b r,RW]
theorem AN{l:List Sm}{i:Nat}(h:i<l.length):aq (l.take i)+l[i].sz≤aq l:=by
 have e:l=l.take i++l[i]::l.drop (i+1):=by rw[←Sz h,Sk]
 have h2:aq l=aq (l.take i)+(l[i].sz+aq (l.drop (i+1))):=by
  conv=>lhs;rw[e]
  rw[bO];rfl
 omega
def rJ(fns:List Fd)(k b:Nat)(l:List Sm)(w:WS):WS:=if 0<b then(cg fns k b l w).back w.vs else cg fns k b l w
theorem Dg(fns:List Fd)(k b:Nat)(l:List Sm)(w:WS):(rJ fns k b l w).count=w.count+qZ l:=by
 unfold rJ
 split
 ·exact ju fns k l b w
 ·exact ju fns k l b w
theorem Jh{e vs:List LV}:(lvR (e++vs)).take vs.length=lvR vs:=by
 have h:lvR (e++vs)=lvR vs++lvR e:=by simp[lvR]
 rw[h,List.take_append_of_le_length (by rw[vU];exact RN _),RG (by rw[vU];exact RN _)]
theorem zx(l:List Sm):qZ l≤aq l:=Sp (sA l) (qd l)
theorem Dw(nf:Bool)(id n:Nat):(vaC nf id n).isCell=true:=by cases nf<;>rfl
theorem FY(nf:Bool)(id n:Nat):(vaC nf id n).cells=[vaC nf id n]:=by cases nf<;>rfl
attribute [simp ↓] Dw FY
variable (G:aM)
def StP(fns:List Fd)(k b:Nat)(l:List Sm)(w:WS)(x:ARes)(h:List AO):Prop:=∃nf' w',x= .ret (.p (smL (iX fns k b l w)))∧h=[wO 2 nf' fns k w',.dead,roC nf' w'.vs]∧(nf'=true→w'.vs=[])∧w'=rJ fns k b l w
structure StS where (i:Nat) (nf:Bool)
theorem Jq{fns:List Fd}{k:Nat}(hf:fns.length≤1099511627776):∀(N:Nat) (l:List Sm),aq l<N→∀(b:Nat) (nf:Bool) (w:WS),(nf=true→w.vs=[])→w.vs.length≤w.count→w.count+aq l≤1099511627776→b+aq l≤1099511627776→
 AC Tryz.prog G bH [.ptr 0 5 0 0,.p (smL l),.p (.int .i64 b)] (HWk nf fns k w) (StP fns k b l w):=by
 intro N
 induction N with
 |zero=>
  intro l hl b nf w hn hv hc hb
  omega
 |succ N ih=>
  intro l hl b nf w hn hv hc hb
  have hll:=bk l
  refine AC.goK qL qG ?_
  have hsl:∀l,smL l= .lst 5 (l.map Sm.cs):=fun _=>rfl
  have hlen0:BG (vaC nf 1 w.vs.length)=some (.p (.int .i64 w.vs.length)):=by
   cases nf
   ·rfl
   ·simp[vaC,hn rfl]
  simp-implicitDefEqProofs[K_spec_l4Walk_stmts,F_spec_l4Walk_stmts,HWk,wO,wC,hlen0]
  refine aV (fun s:StS=>am 96 [(0,.ptr 0 5 0 0),(1,.p (smL l)),(2,.p (.int .i64 b)),(7,.sl 2 5 0 s.i),(8,.p (.int .i64 w.vs.length)),(9,.p (.int .i64 s.i))])
   (fun s=>[wO 3 s.nf fns k (cg fns k b (l.take s.i) w),.dead,.row 5 (smR (iX fns k b (l.take s.i) w)),roC s.nf (cg fns k b (l.take s.i) w).vs])
   (fun s=>s.i≤l.length∧(s.nf=true→(cg fns k b (l.take s.i) w).vs=[])) (fun s=>l.length-s.i) ⟨0,nf⟩ ⟨by simp,hn⟩ ?_ ?_
  ·refine EA [0,1,2,1] (by simp) (by decide) ?_ (xp (by simp) rfl (fL (by simp) (aG rfl (by simp[smR,iX]) (dB rfl (hY _ _ _) br)))) (by simp[below,ren])
   cases nf<;>simp[jV,roC,wO,cg]
  ·rintro⟨i,nf⟩ ⟨hi,hn⟩
   simp only at hi hn
   simp-implicitDefEqProofs[hsl]
   refine bf (fun h=>?_) (fun h=>?_)
   ·simp at h
    have hg:=RA h
    have hat:=AN h
    have hse:=l[i].cs_eq
    have hsz:=l[i].sz_eq
    have hle:=EM fns k (l:=l.take i) (b:=b) hv
    have hcn:=ju fns k (l.take i) b w
    have hlz:=zx (l.take i)
    have eW:=Ge (fns:=fns) (k:=k) (b:=b) (w:=w) h
    have eR:=Gw (fns:=fns) (k:=k) (b:=b) (w:=w) h
    have hol:=xW fns k b (l.take i) w
    rw[RZ,Nat.min_eq_left hi] at hol
    generalize l[i]=s at hg hat hse hsz eW eR
    generalize cg fns k b (l.take i) w=wi at hn hle hcn eW eR⊢
    generalize iX fns k b (l.take i) w=out at hol eR⊢
    obtain⟨o,nme,a,bd,el⟩:=s
    simp only[Sm.op,Sm.name,Sm.args,Sm.body,Sm.els] at hse hsz
    simp-implicitDefEqProofs[hg,hse]
    have hxl:∀l,exL l= .lst 4 (l.map Ex.cs):=fun _=>rfl
    have hal:=bh a
    have hlE:=zx bd
    have hwl:wi.vs.length≤1099511627776:=by omega
    have hopR:∀(x y z u v:AV),aj 0 [x,y,z,u,v]→okO 5 (AO.row 5 [[x,y,z,u,v]]):=fun x y z u v hh=>bR (fun e he=>by rw[RM.1 he];exact hh)
    refine aV (fun j:Nat=>am 96 [(0,.ptr 0 5 0 0),(1,.p (smL l)),(2,.p (.int .i64 b)),(7,.sl 2 5 0 i),(8,.p (.int .i64 w.vs.length)),(9,.p (.int .i64 i)),(10,.ptr 4 5 0 0),(11,.sl 5 4 0 j),(12,.p (.int .i64 j))])
     (fun j=>[wO 3 nf fns k ⟨wi.vs,wi.count,bB fns k wi.vs (a.take j) wi.code⟩,.dead,.row 5 (smR out),roC nf wi.vs,.row 5 [[.p (.int .i64 o),.p (.str nme),.p (exL a),.p (smL bd),.p (smL el)]],.row 4 (exR (kZ wi.vs (a.take j)))])
     (fun j=>j≤a.length) (fun j=>a.length-j) 0 (by simp) ?_ ?_
    ·refine ae (h:=[wO 3 nf fns k wi,.dead,.row 5 (smR out),roC nf wi.vs,.row 5 [[.p (.int .i64 o),.p (.str nme),.p (exL a),.p (smL bd),.p (smL el)]],.row 4 []]) (by simp) (ag (uS (by simp)) (ag trivial (ag (bR (aQ out)) (ag (hY _ _ _) (by simp[okO,below]))))) (by simp[below,hsl])
    intro j hj
    have hrl:(exR (kZ wi.vs (a.take j))).length=j:=by rw[vS,rW];simp;omega
    simp-implicitDefEqProofs[hxl]
    refine bf (fun hc=>?_) (fun hc=>?_)
    ·simp at hc
     have hga:=RA hc
     have hks:=aT (RH hc)
     have hkc:=(rnE wi.vs a[j]).cs_eq
     simp-implicitDefEqProofs[hga]
     refine(MM G (id:=3) (LA G hf (a[j].sz) a[j] (RN _) (by omega) nf ⟨wi.vs,wi.count,bB fns k wi.vs (a.take j) wi.code⟩ hn hwl) (by simp) (by simp[below]) (by decide) rfl rfl).mono ?_
     rintro r h' ⟨rfl,rfl⟩
     rw[show(rnE (WS.mk wi.vs wi.count (bB fns k wi.vs (a.take j) wi.code)).vs a[j])=rnE wi.vs a[j] from rfl]
     simp-implicitDefEqProofs[aa,hkc,hrl]
     refine⟨by omega,j+1,by omega,by omega,?_⟩
     have htk:List.take j (exR (kZ wi.vs (a.take j)))=exR (kZ wi.vs (a.take j)):=RG (by omega)
     rw[wg hc,zu hc,vT,htk]
     refine bT [0,1,2,3,4,7] (by simp) (by decide) (by decide) (xp (by simp) rfl (fL (by simp) (aG rfl (aQ out) (dB rfl (hY _ _ _) (aG rfl (by simp[below]) (aG ?_ ?_ br)))))) (by simp[below,ren,hsl,w1 (i:=j) (by omega)])
     ·have:exR [rnE wi.vs a[j]]=[[.p (.int .i64 (rnE wi.vs a[j]).op),.p (.int .i64 (rnE wi.vs a[j]).n),.p (.str (rnE wi.vs a[j]).name),.p (exL (rnE wi.vs a[j]).kids)]]:=by rw[exR,Sq,hkc];rfl
      rw[this];rfl
     ·intro x hx
      rcases RJ.1 hx with h|h
      ·exact dL _ x h
      ·exact dL _ x h
    simp at hc
    have hje:j=a.length:=by omega
    subst hje
    rw[Sf] at hrl⊢
    have hal2:=rW wi.vs a
    simp-implicitDefEqProofs[]
    generalize hw1:WS.mk wi.vs wi.count (bB fns k wi.vs a wi.code)=w1
    have e1v:w1.vs=wi.vs:=by rw[←hw1]
    have e1c:w1.count=wi.count:=by rw[←hw1]
    have e1l:w1.vs.length=wi.vs.length:=by rw[e1v]
    rw[←e1v]
    refine lp (am 96 [(0,.ptr 0 5 0 0),(1,.p (smL l)),(2,.p (.int .i64 b)),(7,.sl 2 5 0 i),(8,.p (.int .i64 w.vs.length)),(9,.p (.int .i64 i)),(10,.ptr 4 5 0 0)])
     [wO 3 nf fns k w1,.dead,.row 5 (smR out),roC nf w1.vs,.row 5 [[.p (.int .i64 o),.p (.str nme),.p (exL (kZ w1.vs a)),.p (smL bd),.p (smL el)]]] ?_ ?_
    ·simp-implicitDefEqProofs[]
     refine fM 5 (by omega) (by simp) rfl (.same (uS (by omega)) (.dead (.same (bR (aQ out)) (.same (hY _ _ _) (.one (.keep (by simp[below]) (.keep (by simp[below]) (.one ?_ (.keep (by simp[below]) (.keep (by simp[below]) .nil))))) (.nil _)))))) ?_
     ·rw[←e1v] at hal2
      rw[←hal2]
      exact sf rfl
     ·refine⟨.keep (by simp[below]) .nil,.keep (by simp[below]) .nil,.keep (by simp[below]) .nil,.keep (by simp[below]) .nil,.keep (by simp[below]) .nil,.keep (by simp[below]) .nil,.keep (by simp[below]) .nil,trivial⟩
    have TT:∀(r1:List (Nat × AV)),Aw.look r1 0= .ptr 0 5 0 0→Aw.look r1 1= .p (smL l)→Aw.look r1 2= .p (.int .i64 b)→Aw.look r1 7= .sl 2 5 0 i→Aw.look r1 8= .p (.int .i64 w.vs.length)→Aw.look r1 9= .p (.int .i64 i)→Aw.look r1 10= .ptr 4 5 0 0→∀ρ:List Nat,ρ.length=5→ρ.getD 0 0=0→ρ.getD 2 0=2→ρ.getD 4 0=4→
     TWA ρ r1 [(0,.ptr 0 5 0 0),(1,.p (smL l)),(2,.p (.int .i64 b)),(7,.sl 2 5 0 i),(8,.p (.int .i64 w.vs.length)),(9,.p (.int .i64 i)),(10,.ptr 4 5 0 0)]:=by
     intro r1 a0 a1 a2 a7 a8 a9 a10 ρ hr r0 r2 r4
     simp[below,ren,hr,a0,a1,a2,a7,a8,a9,a10]
     rw[RO,RA (by omega)] at r0 r2 r4
     exact⟨r0,r2,r4⟩
    have hn1:nf=true→w1.vs=[]:=fun h=>by rw[e1v];exact hn h
    have okB:∀(nf:Bool) (w:WS) (r:AO),okO 0 r→∀x∈[wO 3 nf fns k w,.dead,.row 5 (smR out),roC nf w.vs,r],okO 5 x:=fun nf w r hr=>
     ag (uS (by omega)) (ag trivial (ag (bR (aQ out)) (ag (hY _ _ _) (ag (bR hr) dQ))))
    refine lp (am 96 [(0,.ptr 0 5 0 0),(1,.p (smL l)),(2,.p (.int .i64 b)),(7,.sl 2 5 0 i),(8,.p (.int .i64 w.vs.length)),(9,.p (.int .i64 i)),(10,.ptr 4 5 0 0)])
     [wO 3 (if o=1 then false else nf) fns k (if o=1 then kO w1 nme b else w1),.dead,.row 5 (smR out),roC (if o=1 then false else nf) (if o=1 then kO w1 nme b else w1).vs,.row 5 [[.p (.int .i64 o),.p (.str (if o=1 then vnm w1.count else nme)),.p (exL (kZ w1.vs a)),.p (smL bd),.p (smL el)]]] ?_ ?_
    ·by_cases o1:o=1
     ·simp-implicitDefEqProofs[o1]
      refine(HD G (id:=3) (Q:=fun nf' w'=>nf'=false∧w'=kO w1 nme b) ((Ig G nf fns k w1 hn1 (by omega) (by omega) nme b).mono (by rintro x h ⟨rfl,rfl⟩;exact⟨false,_,rfl,rfl,rfl,rfl⟩)) (by simp) (by simp[below]) (by decide) rfl rfl).mono ?_
      rintro r h' ⟨nf',w',rfl,rfl,rfl,rfl⟩
      simp-implicitDefEqProofs[aa]
      refine bT [0,1,2,5,4] (by simp) (by decide) (by decide) (xp (by simp) rfl (fL (by simp) (aG rfl (aQ out) (dB rfl (hY _ _ _) (aG rfl (by simp[below]) br))))) (TT _ (by simp) (by simp) (by simp) (by simp) (by simp) (by simp) (by simp) _ rfl rfl rfl rfl)
     ·simp-implicitDefEqProofs[o1]
      refine ae (by simp) (okB nf w1 _ (by simp[okO,below])) (by simp[below])
    generalize hw2:(if o=1 then kO w1 nme b else w1)=w2
    generalize hnf2:(if o=1 then false else nf)=nf2
    generalize hnm2:(if o=1 then vnm w1.count else nme)=nm2
    have hn2:nf2=true→w2.vs=[]:=by
     intro h
     by_cases o1:o=1
     ·rw[if_pos o1] at hnf2;rw[←hnf2] at h;cases h
     ·rw[if_neg o1] at hnf2 hw2;rw[←hw2];exact hn1 (by rw[hnf2];exact h)
    have h2c:w2.count=w1.count+if o=1 then 1 else 0:=by rw[←hw2];split<;>rfl
    have h2v:w2.vs.length≤w2.count:=by
     rw[←hw2];split
     ·simp[kO];omega
     ·omega
    have h2b:w2.count≤wi.count+1:=by rw[h2c,e1c];split<;>omega
    refine lp (am 96 [(0,.ptr 0 5 0 0),(1,.p (smL l)),(2,.p (.int .i64 b)),(7,.sl 2 5 0 i),(8,.p (.int .i64 w.vs.length)),(9,.p (.int .i64 i)),(10,.ptr 4 5 0 0)])
     [wO 3 nf2 fns k (opW o nme b w1),.dead,.row 5 (smR out),roC nf2 (opW o nme b w1).vs,.row 5 [[.p (.int .i64 o),.p (.str (opN o nme w1)),.p (exL (kZ w1.vs a)),.p (smL bd),.p (smL el)]]] ?_ ?_
    ·by_cases o2:o=2
     ·have o1:¬o=1:=by omega
      rw[if_neg o1] at hw2 hnm2
      subst hw2;subst hnm2
      have eo:opW o nme b w1=⟨w1.vs,w1.count,nK w1.vs nme w1.code⟩:=by rw[opW,if_neg o1,if_pos o2]
      have en:opN o nme w1=xE w1.vs nme:=by rw[opN,if_neg o1,if_pos o2]
      rw[eo,en]
      simp-implicitDefEqProofs[o2]
      refine(MM G (id:=3) (Ij G nf2 fns k w1 hn2 (by omega) nme) (by simp) (by simp[below]) (by decide) rfl rfl).mono ?_
      rintro r h' ⟨rfl,rfl⟩
      simp-implicitDefEqProofs[aa]
      refine ae (h:=[wO 3 nf2 fns k ⟨w1.vs,w1.count,nK w1.vs nme w1.code⟩,.dead,.row 5 (smR out),roC nf2 w1.vs,_]) (by simp) (okB nf2 ⟨w1.vs,w1.count,nK w1.vs nme w1.code⟩ _ (by simp[okO,below])) (by simp[below])
     ·have eo:opW o nme b w1=w2:=by rw[opW,if_neg o2,←hw2]
      have en:opN o nme w1=nm2:=by rw[opN,if_neg o2,←hnm2]
      rw[eo,en]
      simp-implicitDefEqProofs[o2]
      refine ae (by simp) (okB nf2 w2 _ (by simp[okO,below])) (by simp[below])
    have eov:(opW o nme b w1).vs=w2.vs:=by
     rw[opW,←hw2];split
     ·rfl
     ·split<;>rfl
    have eoc:(opW o nme b w1).count=w2.count:=by rw[tK,h2c]
    have hwb:IntKind.i64.wrap ((b:Int)+1)=((b+1:Nat):Int):=by rw[af (by omega) (by omega)];omega
    have hstw:stW fns k b (.mk o nme a bd el) wi=rJ fns k (b+1) el (rJ fns k (b+1) bd (opW o nme b w1)):=by
     rw[stW]
     simp only[hw1,rJ,Nat.succ_pos,if_true]
     rfl
    have hrns:(rnS fns k b (.mk o nme a bd el) wi).cs=[.int .i64 o,.str (opN o nme w1),exL (kZ w1.vs a),smL (iX fns k (b+1) bd (opW o nme b w1)),smL (iX fns k (b+1) el (rJ fns k (b+1) bd (opW o nme b w1)))]:=by
     rw[rnS,Sm.cs_eq]
     simp only[hw1,rJ,Nat.succ_pos,if_true,Sm.op,Sm.name,Sm.args,Sm.body,Sm.els,e1v]
     have:opN o nme wi=opN o nme w1:=by simp only[opN,e1v,e1c]
     rw[this]
    rw[hstw] at eW
    clear hstw
    generalize opW o nme b w1=w3 at eov eoc hrns eW⊢
    have hn3:nf2=true→w3.vs=[]:=fun h=>by rw[eov];exact hn2 h
    have h3v:w3.vs.length≤w3.count:=by rw[eov,eoc];exact h2v
    simp-implicitDefEqProofs[hwb]
    refine(HD G (id:=3) (ih bd (by omega) (b+1) nf2 w3 hn3 h3v (by omega) (by omega)) (by simp) (by simp[below]) (by decide) rfl rfl).mono ?_
    rintro r h' ⟨nf4,w4,rfl,rfl,hn4,hw4⟩
    rw[←hw4] at hrns eW
    have h4c:w4.count=w3.count+qZ bd:=by rw[hw4];exact Dg _ _ _ _ _
    have h4v:w4.vs.length≤w4.count:=by
     have:w4.vs=w3.vs:=by rw[hw4];simp[rJ,WS.back]
     rw[this,h4c];omega
    simp-implicitDefEqProofs[aa,hwb]
    refine(HD G (id:=5) (ih el (by omega) (b+1) nf4 w4 hn4 h4v (by omega) (by omega)) (by simp) (by simp[below]) (by decide) rfl rfl).mono ?_
    rintro r h' ⟨nf5,w5,rfl,rfl,hn5,hw5⟩
    rw[←hw5] at eW
    have hsl2:(smR out).length=i:=by rw[dd];exact hol
    simp-implicitDefEqProofs[aa,hsl2]
    refine⟨⟨by omega,by omega⟩,⟨i+1,nf5⟩,⟨by simp only;omega,fun h=>by simp only at h⊢;rw[eW];exact hn5 h⟩,by simp only;omega,?_⟩
    simp only
    rw[eW,eR,nV]
    have htk:List.take i (smR out)=smR out:=RG (by omega)
    rw[htk]
    have hsm1:smR [rnS fns k b (.mk o nme a bd el) wi]=[[.p (.int .i64 o),.p (.str (opN o nme w1)),.p (exL (kZ w1.vs a)),.p (smL (iX fns k (b+1) bd w3)),.p (smL (iX fns k (b+1) el w4))]]:=by rw[smR,Sq,hrns];rfl
    rw[hsm1]
    refine bT [0,1,8,6] (by simp) (by decide) (by decide) (xp (by simp) rfl (fL (by simp) (aG rfl (fun x hx=>?_) (dB rfl (hY _ _ _) br)))) (by simp[below,ren,hsl,show IntKind.i64.wrap ((i:Int)+1)=((i:Int)+1) from af (by omega) (by omega)])
    rcases RJ.1 hx with h|h
    ·exact aQ out x h
    ·rw[RM.1 h];simp
   ·simp at h
    have hie:i=l.length:=by omega
    subst hie
    rw[Sf] at hn⊢
    obtain⟨ext,hext⟩:=Bw fns k l b w
    have hlen:=xW fns k b l w
    refine lp (am 96 [(7,.p (smL (iX fns k b l w)))]) [wO 2 nf fns k (rJ fns k b l w),.dead,roC nf (rJ fns k b l w).vs] ?_ ?_
    ·have fin:∀(r1:List (Nat × AV)) (w':WS),w'.vs=w.vs∨w'.vs=(cg fns k b l w).vs→(Aw.look r1 7= .sl 2 5 0 l.length)→
      Wk 2 (am 96 r1) [wO 3 nf fns k w',.dead,.row 5 (smR (iX fns k b l w)),roC nf (cg fns k b l w).vs] (am 96 [(7,.p (smL (iX fns k b l w)))]) [wO 2 nf fns k w',.dead,roC nf w'.vs]:=by
      intro r1 w' hv' hr
      refine Wk.trans (ET (h1:=[wO 3 nf fns k w',.dead,.row 5 (smR (iX fns k b l w)),roC nf w'.vs]) ?_) (Wk.trans (bT (l1:=[(7,.sl 3 5 0 l.length)]) (h1:=[wO 2 nf fns k w',.dead,roC nf w'.vs,.row 5 (smR (iX fns k b l w))]) [0,1,3,2] (by simp) (by decide) (by decide) (xp (by simp) rfl (fL (by simp) (dB rfl (hY _ _ _) (aG rfl (aQ _) br)))) (by simp[below,ren,hr]))
       (fM 3 (by omega) (by simp) rfl (.same (uS (by omega)) (.dead (.same (hY _ _ _) (.nil _)))) ?_))
      ·refine⟨.inl rfl,.inl rfl,.inl rfl,?_,trivial⟩
       rcases hv' with e|e
       ·cases nf with
        |true=>exact .inl rfl
        |false=>
         refine .inr ⟨3,lvR (cg fns k b l w).vs,w.vs.length,rfl,?_⟩
         rw[hext,Jh,e];rfl
       ·rw[e];exact .inl rfl
      ·rw[←hlen]
       exact⟨.one (fm rfl) .nil,trivial⟩
     by_cases hb0:0<b
     ·have hwe:rJ fns k b l w=(cg fns k b l w).back w.vs:=if_pos hb0
      rw[hwe]
      have hll2:(cg fns k b l w).vs.length=ext.length+w.vs.length:=by rw[hext,RR]
      cases nf with
      |true=>
       have h0:=hn rfl
       rw[h0] at hext
       have h00:w.vs=[]:=(List.append_eq_nil_iff.1 hext.symm).2
       simp-implicitDefEqProofs[hb0,wO,wC,vaC,h00]
       rw[h00] at fin
       exact fin _ ⟨[],(cg fns k b l w).count,(cg fns k b l w).code⟩ (.inl rfl) (by simp)
      |false=>
       have hle:w.vs.length≤(cg fns k b l w).vs.length:=by omega
       simp-implicitDefEqProofs[hb0,wO,wC,vaC,hle]
       exact fin _ ⟨w.vs,(cg fns k b l w).count,(cg fns k b l w).code⟩ (.inl rfl) (by simp)
     ·have hwe:rJ fns k b l w=cg fns k b l w:=if_neg hb0
      have hb0':b=0:=by omega
      subst hb0'
      rw[hwe]
      simp-implicitDefEqProofs[]
      exact fin _ _ (.inr rfl) (by simp)
    ·simp-implicitDefEqProofs[]
     refine⟨nf,_,rfl,rfl,?_,rfl⟩
     intro hnf
     have h0:=hn hnf
     unfold rJ
     split
     ·rw[h0] at hext;exact(List.append_eq_nil_iff.1 hext.symm).2
     ·exact h0
end
section
def K_spec_l4Fn:AK:= .seq (.reg [oJ 2 (.box 1 (.t 0)),oJ 4 (.alloc [(.p (.str [])),.nils,.nils]),oK 5 0,oK 6 0]) (.seq (.reg [oJ 11 (.ld (some 1) (.t 2)),oM 12 1,oJ 13 (.bld [.nils,(.p (.int .i64 0)),.nils,(.p (.int .i64 0)),(.p (.int .i64 0))] [(0,1,(.t 11)),(1,1,(.t 12))]),oJ 14 (.box 5 (.t 13)),oM 7 14]) (.cut (.reg [oF 15 0 2,oL 16 15,oM 17 1,oJ 18 (.idxS 3 (.t 16) (.t 17)),oJ 19 (.ld (some 3) (.t 18)),oJ 8 (.alloc [(.p (.str [])),.nils,.nils]),⟨none,none,.st 3 (.t 8) (.t 19)⟩]) (.cut (.seq (.reg [oJ 20 (.ld (some 1) (.t 2)),oF 21 0 8,oL 22 21,oJ 23 (.call iu [(.t 20),(.t 22)]),oM 24 1,oJ 25 (.bin .neq (.t 23) (.t 24))]) (.cond (.t 25) (.reg [oM 26 7,oJ 27 (.call bg [(.t 26),(.c (.p (.int .i64 2)))])]) (.skip))) (.seq (.reg [oJ 28 (.bsl 1 [(.p (.str []))] 0 []),oM 9 28]) (.seq (.seq (.reg [oK 10 0]) (.blk 0 (.loop (.seq (.seq (.reg [oM 29 10,oF 30 1 8,oL 31 30,oJ 32 (.len false (.t 31)),oJ 33 (.bin .lss (.t 29) (.t 32))]) (.cond (.t 33) (.skip) (.exit 0))) (.seq (.blk 1 (.reg [oM 36 9,oM 37 7,oF 38 1 8,oL 39 38,oM 40 10,oJ 41 (.idxS 1 (.t 39) (.t 40)),oL 42 41,oJ 43 (.call dg [(.t 37),(.t 42),(.c (.p (.int .i64 0)))]),oJ 44 (.bsl 1 [(.p (.str []))] 1 [(0,1,(.t 43))]),oJ 45 (.app 1 16 (.t 36) (.t 44)),oM 9 45])) (.reg [oM 34 10,oJ 35 (.bin .add (.t 34) (.c (.p (.int .i64 1)))),oM 10 35])))))) (.seq (.reg [oM 46 9,oF 47 1 8,oS 47 46]) (.seq (.reg [oM 48 7,oF 49 2 8,oL 50 49,oJ 51 (.call bH [(.t 48),(.t 50),(.c (.p (.int .i64 0)))]),oF 52 2 8,oS 52 51]) (.seq (.reg [oM 54 7,oN 55 54,oF 56 4 55,oM 58 7,oN 59 58,oF 60 3 59,oJ 53 (.ld (some 3) (.t 8)),oL 57 56,oL 61 60,⟨none,none,.st 3 (.t 4) (.t 53)⟩,⟨none,none,.chk none 56 57⟩,⟨none,none,.chk none 60 61⟩,oM 5 57,oM 6 61]) (.ret)))))))))
theorem CD:K_spec_l4Fn.whole=F_spec_l4Fn.ak:=rfl
theorem Bm:∀(ps:List (List UInt8)) (w:WS),w.vs.length≤w.count→(dC ps w).vs.length≤(dC ps w).count
 |[],w,h=>h
 |s::r,w,h=>Bm r (kO w s 0) (by simp[kO];omega)
theorem GU(a b:List (List UInt8))(w:WS):dC (a++b) w=dC b (dC a w):=by simp[dC]
theorem DW{l:List (List UInt8)}{w:WS}{i:Nat}(h:i<l.length):dC (l.take (i+1)) w=kO (dC (l.take i) w) l[i] 0:=by
 rw[an h,GU];rfl
theorem Ca:∀(a b:List (List UInt8)) (w:WS),qy (a++b) w=qy a w++qy b (dC a w)
 |[],b,w=>rfl
 |s::r,b,w=>by rw[Sj,qy,qy,Ca r];rfl
theorem GX{l:List (List UInt8)}{w:WS}{i:Nat}(h:i<l.length):qy (l.take (i+1)) w=qy (l.take i) w++[vnm (dC (l.take i) w).count]:=by
 rw[an h,Ca];rfl
theorem wR:∀(l:List (List UInt8)) (w:WS),(qy l w).length=l.length
 |[],w=>rfl
 |s::r,w=>by rw[qy,RW,wR r,RW]
def w0(fns:List Fd)(k:Nat)(f:Fd):WS:=⟨[],0,if ep fns f.name=some k then 0 else 2⟩
theorem NB(fns:List Fd)(k:Nat)(f:Fd):fnW fns k f=cg fns k 0 f.body (dC f.params (w0 fns k f)):=rfl
theorem Kz(fns:List Fd)(k:Nat)(f:Fd):(rnF fns k f).cs=[.str f.name,aC (qy f.params (w0 fns k f)),smL (iX fns k 0 f.body (dC f.params (w0 fns k f)))]:=rfl
variable (G:aM)
theorem MK{fns:List Fd}{k:Nat}{f:Fd}(hk:fns[k]?=some f)(hz:aJ fns≤1073741824):VF Tryz.prog G lW [.agg [.p (fdL fns)],.p (.int .i64 k)] (.tup [.agg ((rnF fns k f).cs.map .p),.p (.int .i64 (fnW fns k f).code),.p (.int .i64 (fnW fns k f).count)]):=by
 have hfl:=cW fns
 have hfm:=cJ (RI hk)
 have hfz:f.sz=1+f.name.length+(f.params.length+(f.params.map List.length).sum)+aq f.body:=rfl
 have hkl:=(RB.1 hk).1
 have key:AC Tryz.prog G lW [.agg [.p (fdL fns)],.p (.int .i64 k)] [] fun x h=>x= .ret (.tup [.agg [.p (.str f.name),.sl 5 1 0 f.params.length,.p (smL (iX fns k 0 f.body (dC f.params (w0 fns k f))))],.p (.int .i64 (fnW fns k f).code),.p (.int .i64 (fnW fns k f).count)])∧h[5]?=some (gw (qy f.params (w0 fns k f))):=by
  refine AC.goK Cu CD ?_
  have hfd:∀l,fdL l= .lst 3 (l.map Fd.cs):=fun _=>rfl
  have hcs:f.cs=[.str f.name,aC f.params,smL f.body]:=rfl
  have hst:aC f.params= .lst 1 (f.params.map fun w=>[.str w]):=rfl
  simp-implicitDefEqProofs[K_spec_l4Fn,F_spec_l4Fn]
  refine lp (am 62 [(1,.p (.int .i64 k)),(2,.ptr 0 1 0 0),(4,.ptr 1 3 0 0),(7,.ptr 2 5 0 0),(8,.ptr 3 3 0 0)])
   [.row 1 [[.p (fdL fns)]],.row 3 [[.p (.str []),.nils,.nils]],wO 4 true fns k ⟨[],0,0⟩,.row 3 [[.p (.str f.name),.p (aC f.params),.p (smL f.body)]],.dead] ?_ ?_
  ·simp-implicitDefEqProofs[hfd,hk,hcs]
   refine gJ (h:=[.row 1 [[.p (fdL fns)]],.row 3 [[.p (.str []),.nils,.nils]],wO 4 true fns k ⟨[],0,0⟩,.row 3 [[.p (.str f.name),.p (aC f.params),.p (smL f.body)]]]) (by simp) (by simp) ?_ (by simp[below])
   refine ag (by simp[okO,below]) (ag (by simp[okO,below]) (ag ?_ (ag (by simp[okO,below]) dQ)))
   intro x hx
   rw[RM.1 hx];simp[wC,vaC,below]
  refine lp (am 62 [(1,.p (.int .i64 k)),(2,.ptr 0 1 0 0),(4,.ptr 1 3 0 0),(7,.ptr 2 5 0 0),(8,.ptr 3 3 0 0)])
   [.row 1 [[.p (fdL fns)]],.row 3 [[.p (.str []),.nils,.nils]],wO 4 true fns k (w0 fns k f),.row 3 [[.p (.str f.name),.p (aC f.params),.p (smL f.body)]],.dead] ?_ ?_
  ·simp-implicitDefEqProofs[]
   refine(JM G fns f.name (by omega)).use ?_
   have hok:∀w:WS,∀o∈[AO.row 1 [[.p (fdL fns)]],.row 3 [[.p (.str []),.nils,.nils]],wO 4 true fns k w,.row 3 [[.p (.str f.name),.p (aC f.params),.p (smL f.body)]],.dead],okO 5 o:=fun w=>
    ag (by simp[okO,below]) (ag (by simp[okO,below]) (ag (uS (by simp)) (ag (by simp[okO,below]) (ag trivial dQ))))
   by_cases he:ep fns f.name=some k
   ·have hw:w0 fns k f=⟨[],0,0⟩:=by rw[w0,if_pos he]
    rw[hw,he]
    simp-implicitDefEqProofs[ixI]
    exact ae (by simp) (hok _) (by simp[below])
   ·have hw:w0 fns k f=⟨[],0,2⟩:=by rw[w0,if_neg he]
    have hne:¬ixI (ep fns f.name)=(k:Int):=by
     intro h
     apply he
     cases e:ep fns f.name with
     |none=>rw[e] at h;simp only[ixI] at h;omega
     |some j=>rw[e] at h;simp only[ixI] at h;have:j=k:=by omega
              rw[this]
    rw[hw]
    simp-implicitDefEqProofs[hne]
    refine(MM G (wid:=2) (id:=4) (pU G true fns k ⟨[],0,0⟩ 2) (by simp) (by simp[below]) (by decide) rfl rfl).mono ?_
    rintro r h' ⟨rfl,rfl⟩
    simp-implicitDefEqProofs[aa]
    exact ae (h:=[AO.row 1 [[.p (fdL fns)]],.row 3 [[.p (.str []),.nils,.nils]],wO 4 true fns k ⟨[],0,2⟩,.row 3 [[.p (.str f.name),.p (aC f.params),.p (smL f.body)]],.dead]) (by simp) (hok _) (by simp[below])
  rw[NB]
  have hw0v:(w0 fns k f).vs=[]:=rfl
  have hw0c:(w0 fns k f).count=0:=rfl
  generalize w0 fns k f=w0 at hw0v hw0c⊢
  simp-implicitDefEqProofs[]
  have hcnt:∀j,j≤f.params.length→(dC (f.params.take j) w0).count=j:=fun j hj=>by rw[uR,hw0c];simp;omega
  have hvl:∀j,(dC (f.params.take j) w0).vs.length≤(dC (f.params.take j) w0).count:=fun j=>Bm _ _ (by rw[hw0v];simp)
  refine aV (fun j:Nat=>am 62 [(1,.p (.int .i64 k)),(2,.ptr 0 1 0 0),(4,.ptr 1 3 0 0),(7,.ptr 2 5 0 0),(8,.ptr 3 3 0 0),(9,.sl 5 1 0 j),(10,.p (.int .i64 j))])
   (fun j=>[.row 1 [[.p (fdL fns)]],.row 3 [[.p (.str []),.nils,.nils]],wO 6 (decide (j=0)) fns k (dC (f.params.take j) w0),.row 3 [[.p (.str f.name),.p (aC f.params),.p (smL f.body)]],.dead,gw (qy (f.params.take j) w0),roC (decide (j=0)) (dC (f.params.take j) w0).vs])
   (fun j=>j≤f.params.length) (fun j=>f.params.length-j) 0 (by simp) ?_ ?_
  ·refine gJ (h:=[.row 1 [[.p (fdL fns)]],.row 3 [[.p (.str []),.nils,.nils]],wO 6 true fns k w0,.row 3 [[.p (.str f.name),.p (aC f.params),.p (smL f.body)]],.dead,.row 1 []]) (by simp) (by simp) ?_ (by simp[below])
   refine ag (by simp[okO,below]) (ag (by simp[okO,below]) (ag ?_ (ag (by simp[okO,below]) (ag trivial (ag (by simp[okO]) dQ)))))
   intro x hx
   rw[RM.1 hx];simp[wC,vaC,below]
  intro j hj
  have hjc:=hcnt j hj
  have hjv:=hvl j
  have hol:=wR (f.params.take j) w0
  rw[RZ,Nat.min_eq_left hj] at hol
  have hnf:decide (j=0)=true→(dC (f.params.take j) w0).vs=[]:=by
   intro h
   have h0:j=0:=by simpa using h
   rw[h0,List.take_zero]
   exact hw0v
  simp-implicitDefEqProofs[hst]
  refine bf (fun h=>?_) (fun h=>?_)
  ·simp at h
   have hg:=RA h
   have eP:=DW (w:=w0) h
   have eR:=GX (w:=w0) h
   simp-implicitDefEqProofs[hg]
   refine(HD G (wid:=2) (id:=6) (Q:=fun nf' w'=>nf'=false∧w'=kO (dC (f.params.take j) w0) f.params[j] 0) ((Ig G (decide (j=0)) fns k _ hnf (by omega) (by omega) f.params[j] 0).mono (by rintro x h ⟨rfl,rfl⟩;exact⟨false,_,rfl,rfl,rfl,rfl⟩)) (by simp) (by simp[below]) (by decide) rfl rfl).mono ?_
   rintro r h' ⟨nf',w',rfl,rfl,rfl,rfl⟩
   have hso:∀l,gw l= .row 1 (l.map fun n=>[.p (.str n)]):=fun _=>rfl
   simp-implicitDefEqProofs[aa,hso,hol]
   refine⟨by omega,j+1,by omega,by omega,?_⟩
   have htk:List.take j ((qy (f.params.take j) w0).map fun n=>[AV.p (.str n)])=(qy (f.params.take j) w0).map fun n=>[AV.p (.str n)]:=RG (by rw[RX];omega)
   have hd:decide (j+1=0)=false:=by simp
   rw[eP,eR,hd,List.map_append,←List.map_take,List.map_take,htk]
   refine nv [0,1,2,3,4,9,7] rfl (by decide) (aG rfl (by simp) (aG rfl (by simp[below]) (xp (by simp) rfl (aG rfl (by simp) (fL (by simp) (aG rfl (fun x hx=>?_) (dB rfl (hY _ _ _) br))))))) (by simp[below,ren,w1 (i:=j) (by omega)])
   rcases RJ.1 hx with h|h
   ·exact qp _ x h
   ·exact qp _ x h
  ·simp at h
   have hje:j=f.params.length:=by omega
   subst hje
   rw[Sf] at hol hjc hjv hnf⊢
   generalize decide (f.params.length=0)=nf at hnf⊢
   simp-implicitDefEqProofs[]
   refine(HD G (wid:=2) (id:=6) (Jq G (fns:=fns) (by omega) (aq f.body+1) f.body (by omega) 0 _ (dC f.params w0) hnf hjv (by omega) (by omega)) (by simp) (by simp[below]) (by decide) rfl rfl).mono ?_
   rintro r h' ⟨nf',w',rfl,rfl,hn',hw'⟩
   have hb:rJ fns k 0 f.body (dC f.params w0)=cg fns k 0 f.body (dC f.params w0):=rfl
   rw[hb] at hw'
   rw[←hw']
   simp-implicitDefEqProofs[aa,wO,wC]
 refine key.freezeR (fun t v h ⟨e,_⟩=>by cases e) fun v h ⟨e1,e2⟩=>?_
 cases e1
 rw[Kz]
 have hol:=wR f.params (w0 fns k f)
 have hv:=fu e2
 rw[hol] at hv
 exact .tup (.agg (.keep (by simp) (.one hv (.keep (by simp) .nil))) (.keep (by simp) (.keep (by simp) .nil))) .nil
theorem Bi{fns:List Fd}{i:Nat}(h:i<fns.length):js fns i (fns.drop i)=if(fnW fns i fns[i]).code=0 then js fns (i+1) (fns.drop (i+1)) else(fnW fns i fns[i]).code:=by
 rw[Sz h,js]
theorem wl(l:List Fd)(hz:aJ l≤1073741824):VF Tryz.prog G gv [.agg [.p (fdL l)]] (.p (.int .i64 (aI l))):=by
 refine AC.go qI ?_
 have hll:=cW l
 have hfd:∀l,fdL l= .lst 3 (l.map Fd.cs):=fun _=>rfl
 simp-implicitDefEqProofs[kz]
 refine(kX G l (by omega)).use ?_
 by_cases hv:bq l=true
 case neg=>
  have:aI l=1:=if_neg hv
  have hv':bq l=false:=by simpa using hv
  simp-implicitDefEqProofs[hv',this]
 have hc:aI l=js l 0 (l.drop 0):=if_pos hv
 rw[hc]
 simp-implicitDefEqProofs[hv]
 refine aV (fun i:Nat=>am 27 [(1,.ptr 0 1 0 0),(3,.p (.int .i64 i))]) (fun _=>[.row 1 [[.p (fdL l)]]]) (fun i=>i≤l.length∧js l 0 l=js l i (l.drop i)) (fun i=>l.length-i) 0 (by simp) (ae (by simp) (by simp[okO]) (by simp[below])) ?_
 rintro i ⟨hi,he⟩
 simp-implicitDefEqProofs[hfd]
 refine bf (fun h=>?_) (fun h=>?_)
 ·simp at h
  have hg:=RA h
  have hd:=Bi h
  simp-implicitDefEqProofs[]
  refine(MK G hg hz).use ?_
  have hrc:=Kz l i l[i]
  by_cases h0:(fnW l i l[i]).code=0
  ·rw[if_pos h0] at hd
   simp-implicitDefEqProofs[h0,hrc]
   refine⟨i+1,⟨by omega,by rw[he,hd]⟩,by omega,?_⟩
   refine iz (m:=1) (by omega) (eL rfl rfl (by simp[okO,below])) (by simp[below,hfd,w1 (i:=i) (by omega)])
  ·rw[if_neg h0] at hd
   simp-implicitDefEqProofs[h0,hrc]
   rw[he,hd]
 ·simp at h
  have hie:i=l.length:=by omega
  subst hie
  rw[List.drop_length] at he
  simp-implicitDefEqProofs[]
  rw[he];rfl
end
section
variable (G:aM)
abbrev MS:=Int × Int
def re(st:MS)(x:Sm × Nat):MS:=(IntKind.i64.wrap (st.1+1),if st.2<(x.2:Int) then(x.2:Int) else st.2)
def qN(l:List Fd)(st:MS):MS:=l.foldl (fun st f=>(cV 1 f.body).foldl re st) st
theorem we:∀(l:List (Sm × Nat)) (st:MS),0≤st.1→st.1+l.length≤1099511627776→(l.foldl re st).1=st.1+l.length
 |[],st,_,_=>by simp
 |x::r,st,h0,h=>by
  have hw:IntKind.i64.wrap (st.1+1)=st.1+1:=af (by omega) (by simp at h;omega)
  rw[List.foldl_cons,we r _ (by simp only[re,hw];omega) (by simp only[re,hw];simp at h;omega)]
  simp only[re,hw,RW]
  omega
theorem xH:∀(l:List Fd) (st:MS),0≤st.1→st.1+jX l≤1099511627776→(qN l st).1=st.1+jX l
 |[],st,_,_=>by simp[qN,jX]
 |f::r,st,h0,h=>by
  have ha:jX (f::r)=dj f.body+jX r:=by simp[jX]
  have hs:=we (cV 1 f.body) st h0 (by rw[lD];omega)
  rw[lD] at hs
  have:=xH r ((cV 1 f.body).foldl re st) (by omega) (by omega)
  simp only[qN,List.foldl_cons] at this⊢
  omega
theorem Eb{l:List Fd}{st:MS}{i:Nat}(h:i<l.length):qN (l.take (i+1)) st=(cV 1 l[i].body).foldl re (qN (l.take i) st):=by
 rw[qN,an h,List.foldl_append];rfl
def oH(p:PV):Vis MS where
 I:=fun st=>[.row 1 [[.p p]],.row 1 [[.p (.int .i64 st.1)]],.row 1 [[.p (.int .i64 st.2)]]]
 n:=3
 F:=gg
 caps:=[.ptr 1 1 0 0,.ptr 2 1 0 0]
 len:=fun _=>rfl
 ok:=fun st=>by simp[okO,below]
 capsOk:=by simp[below]
theorem Cj(p:PV)(st:MS)(s:Sm)(d:Nat):AC Tryz.prog G gg [.agg (s.cs.map .p),.p (.int .i64 d),.ptr 1 1 0 0,.ptr 2 1 0 0] ((oH p).I st) fun x h=>x= .ret (.tup [])∧h=(oH p).I (re st (s,d)):=by
 refine(oH p).trim G (AC.go tC ?_) (by simp[below])
 have hse:=s.cs_eq
 simp-implicitDefEqProofs[mU,hse,oH,re]
theorem FT(l:List Fd)(hl:aJ l≤1073741824):VF Tryz.prog G lI [.agg [.p (fdL l)]] (.tup [.p (.int .i64 (jX l)),.p (.int .i64 (qN l (0,0)).2)]):=by
 refine AC.go xe ?_
 have hll:=cW l
 have hfl:∀l,fdL l= .lst 3 (l.map Fd.cs):=fun _=>rfl
 have hn:(qN l (0,0)).1=jX l:=by rw[xH l (0,0) (by simp) (by simp only;have:=zK l;omega)];simp
 simp-implicitDefEqProofs[pB,hfl]
 refine aV (fun i:Nat=>am 20 [(2,.ptr 1 1 0 0),(3,.ptr 2 1 0 0),(7,.p (fdL l)),(8,.p (.int .i64 l.length)),(9,.p (.int .i64 i))])
  (fun i=>(oH (fdL l)).I (qN (l.take i) (0,0))) (fun i=>i≤l.length) (fun i=>l.length-i) 0 (by simp) ?_ ?_
 ·exact ae (h:=(oH (fdL l)).I (0,0)) (by simp) ((oH (fdL l)).ok _) (by simp[below,hfl,oH])
 intro i hil
 simp-implicitDefEqProofs[hfl]
 refine bf (fun hc=>?_) (fun hc=>?_)
 ·simp at hc
  have hg:=RA hc
  have hks:=cJ (RH hc)
  have hcs:l[i].cs=[.str l[i].name,aC l[i].params,smL l[i].body]:=rfl
  have hfz:l[i].sz=1+l[i].name.length+(l[i].params.length+(l[i].params.map List.length).sum)+aq l[i].body:=rfl
  have hI:=(LH G (oH (fdL l)) re (fun _=>True) 1073741824 (by omega) (fun st s d _ _=>⟨trivial,Cj G _ st s d⟩) (aq l[i].body+1) l[i].body (by omega) (by omega) 1 (by omega) (qN (l.take i) (0,0)) trivial).2
  have hlen:=(oH (fdL l)).len
  have h3:(oH (.lst 3 (l.map Fd.cs))).n=3:=rfl
  have hlen':∀st,((oH (.lst 3 (l.map Fd.cs))).I st).length=3:=fun _=>rfl
  simp-implicitDefEqProofs[hg,hcs,hlen']
  refine((oH (fdL l)).pre G hI [_] ⟨by simp,by simp,by simp[below,oH],trivial⟩).mono ?_
  rintro r h ⟨rfl,rfl⟩
  simp-implicitDefEqProofs[aa]
  refine⟨i+1,hc,by omega,?_⟩
  rw[Eb hc]
  refine(oH (fdL l)).same0 (s:=[_]) _ (by simp[oH]) ?_
  simp[below,hfl,oH,w1 (i:=i) (by omega)]
 ·simp at hc
  have hie:i=l.length:=by omega
  subst hie
  rw[Sf]
  simp-implicitDefEqProofs[oH,hn]
theorem ut(hK:G dV=some dO)(s:List UInt8)(hb:s.length≤140737488355328):VF Tryz.prog G bZ [.p (.str s)] (.p (.bool (!aS s))):=by
 refine AC.go oT ?_
 simp-implicitDefEqProofs[jd]
 refine(pu G hK s hb).use ?_
 simp-implicitDefEqProofs[]
def CZ(L:List (List UInt8)):Int:=match L.findIdx? (fun w=> !aS w) with|some i=>i|none=> -1
theorem Ix(L:List (List UInt8)):decide (0≤CZ L)= !(L.all aS):=by
 unfold CZ
 cases h:L.findIdx? (fun x=> !aS x) with
 |none=>
  rw[So] at h
  have:L.all aS=true:=RF.2 fun x hx=>by have:=h x hx;simpa using this
  simp[this]
 |some i=>
  rw[Sa] at h
  obtain⟨h1,h2,_⟩:=h
  have:L.all aS=false:=List.all_eq_false.2 ⟨_,RH h1,by simpa using h2⟩
  rw[this];simp
theorem If{L:List (List UInt8)}{n:Nat}(h:(L.map List.length).sum≤n):∀x∈L,x.length≤n:=by
 induction L with
 |nil=>intro x hx;cases hx
 |cons y r ih=>
  intro x hx
  simp only[Sb,List.sum_cons] at h
  rcases RY.1 hx with rfl|hx
  ·omega
  ·exact ih (by omega) x hx
variable (hK:G dV=some dO)
include hK
theorem Eg(L:List (List UInt8))(hb:L.length≤1073741824)(hw:∀x∈L,x.length≤140737488355328):VF Tryz.prog G dX [.p (aC L),.fn (.func bZ) []] (.p (.int .i64 (CZ L))):=by
 refine AC.go lO ?_
 have hsl:aC L= .lst 1 (L.map fun w=>[.str w]):=rfl
 simp-implicitDefEqProofs[gm,hsl]
 refine aV (fun i:Nat=>am 19 [(0,.p (aC L)),(1,.fn (.func bZ) []),(6,.p (aC L)),(7,.p (.int .i64 L.length)),(8,.p (.int .i64 i))]) (fun _=>[]) (fun i=>i≤L.length∧∀w∈L.take i,aS w=true) (fun i=>L.length-i) 0 (by simp) ?_ ?_
 ·exact ae (by simp) (by simp[okO]) (by simp[below,aj,aC])
 ·intro i ⟨hi,hn⟩
  simp-implicitDefEqProofs[hsl]
  refine bf (fun h1=>?_) (fun h1=>?_)
  ·simp at h1
   have hg:=RA h1
   simp-implicitDefEqProofs[hg]
   refine(ut G hK _ (hw _ (RH h1))).use ?_
   by_cases he:aS L[i]=true
   ·simp-implicitDefEqProofs[he]
    refine⟨i+1,⟨h1,fun p hp=>?_⟩,by omega,ae (by simp) (by simp[okO]) ?_⟩
    ·rw[an h1] at hp
     rcases RJ.1 hp with hp|hp
     ·exact hn p hp
     ·rw[RM.1 hp];exact he
    ·simp[below,aj,aC,w1 (i:=i) (by omega)]
   ·have hf:CZ L=i:=by
     have:L.findIdx? (fun w=> !aS w)=some i:=by
      rw[Sa]
      exact⟨h1,by simpa using he,fun j hj=>by have:=hn L[j] (List.mem_take_iff_getElem.2 ⟨j,by omega,rfl⟩);simpa using this⟩
     rw[CZ,this]
    simp-implicitDefEqProofs[he,hf]
  ·simp at h1
   rw[RG h1] at hn
   have hf:CZ L= -1:=by
    have:L.findIdx? (fun w=> !aS w)=none:=by
     rw[So];intro x hx;simpa using hn x hx
    rw[CZ,this]
   simp-implicitDefEqProofs[hf]
theorem yz(L:List (List UInt8))(hb:L.length≤1073741824)(hw:∀x∈L,x.length≤140737488355328):VF Tryz.prog G dm [.p (aC L),.fn (.func bZ) []] (.p (.bool (!L.all aS))):=by
 rw[←Ix]
 refine AC.go kn ?_
 simp-implicitDefEqProofs[fc]
 refine(Eg G hK L hb hw).use ?_
 simp-implicitDefEqProofs[]
variable (hS:G cd=some [.tbl opK opV])
include hS
theorem xL(l:List Fd)(hl:aJ l≤1073741824):VF Tryz.prog G eI [.agg [.p (fdL l)]] (.p (.bool (bq l))):=by
 refine AC.go qE ?_
 have hll:=cW l
 have hfl:∀l,fdL l= .lst 3 (l.map Fd.cs):=fun _=>rfl
 have hm:=FT G l hl
 rw[hfl] at hm
 simp-implicitDefEqProofs[ku,hfl]
 refine(oU G _ _ _).use ?_
 by_cases h1:inR l.length 1 4=true
 case neg=>simp-implicitDefEqProofs[h1,bq]
 simp-implicitDefEqProofs[h1]
 refine aV (fun i:Nat=>am 48 [(1,.ptr 0 1 0 0),(13,.p (fdL l)),(14,.p (.int .i64 l.length)),(15,.p (.int .i64 i))]) (fun _=>[.row 1 [[.p (.lst 3 (l.map Fd.cs))]]]) (fun i=>i≤l.length∧(l.take i).all ia=true) (fun i=>l.length-i) 0 (by simp) (ae (by simp) (by simp[okO]) (by simp[below,hfl])) ?_
 intro i ⟨hi,ha⟩
 simp-implicitDefEqProofs[hfl]
 refine bf (fun h=>?_) (fun h=>?_)
 ·simp at h
  have hg:=RA h
  have hks:=cJ (RH h)
  have hbadF:ia l[i]=false→bq l=false:=fun hk'=>by simp only[bq,mv h hk',Bool.and_false,Bool.false_and]
  have hcs:l[i].cs=[.str l[i].name,aC l[i].params,smL l[i].body]:=rfl
  have hfz:l[i].sz=1+l[i].name.length+(l[i].params.length+(l[i].params.map List.length).sum)+aq l[i].body:=rfl
  have hokF:ia l[i]=(l[i].params.all aS&&aS l[i].name&&decide (l[i].params.length≤3)&&l[i].body.all (au 4)):=rfl
  have hblk:=uN G 4 1 (fun s hs=>by simpa using Hx G hK hS 4 (by omega) s hs) l[i].body (by omega)
  have hcon:=yz G hK l[i].params (by omega) (If (by omega))
  have hst:aC l[i].params= .lst 1 (l[i].params.map fun w=>[.str w]):=rfl
  generalize l[i]=f at*
  rw[hst] at hcon
  simp-implicitDefEqProofs[hg,hcs,hst]
  refine(pu G hK _ (by omega)).use ?_
  by_cases k1:aS f.name=true
  case neg=>
   rw[hbadF (by rw[hokF];simp[k1])]
   simp-implicitDefEqProofs[k1]
  by_cases k2:f.params.length≤3
  case neg=>
   have k2':(3:Int)<f.params.length:=by omega
   rw[hbadF (by rw[hokF];simp[k2])]
   simp-implicitDefEqProofs[k1,k2']
  have k2':¬(3:Int)<f.params.length:=by omega
  simp-implicitDefEqProofs[k1,k2']
  refine hcon.use ?_
  by_cases k3:f.params.all aS=true
  case neg=>
   have k3':f.params.all aS=false:=by simpa using k3
   rw[hbadF (by rw[hokF,k3'];simp)]
   simp-implicitDefEqProofs[k3']
  simp only[k3]
  simp-implicitDefEqProofs[]
  refine hblk.use ?_
  by_cases k4:f.body.all (au 4)=true
  case neg=>
   have k4':f.body.all (au 4)=false:=by simpa using k4
   rw[hbadF (by rw[hokF,k4'];simp)]
   simp only[k4']
   simp-implicitDefEqProofs[]
  simp only[k4]
  simp-implicitDefEqProofs[]
  have hk:ia f=true:=by rw[hokF,k1,k3,k4];simp[k2]
  refine⟨i+1,⟨h,by rw[←RF,pS hg,ha,hk];rfl⟩,by omega,iz (m:=1) (by omega) (eL rfl rfl (by simp[okO,below])) (by simp[below,hfl,w1 (i:=i) (by omega)])⟩
 ·simp at h
  have h2:l.all ia=true:=gF h ha
  simp-implicitDefEqProofs[]
  refine hm.use ?_
  have hff:bq l=decide (jX l≤40):=by simp only[bq,h1,h2,Bool.true_and]
  simp-implicitDefEqProofs[hff]
  omega
end
end Go.Proofs.YtaopbokndkdieaaGreatDoor
