/-
  Contracts and lemmas that the card needs, part 7.
-/
import Derived.Test.YtaopbokndkdieaaGreatDoorSi6
namespace Go.Proofs.YtaopbokndkdieaaGreatDoor
open Go Go.Aw
set_option maxRecDepth 100000
set_option maxHeartbeats 4000000
section
theorem He{h:List AO}{vs:List AV}{qs:List PV}{I:List Nat}(H:OwnL true h vs qs I):OwnL false h vs qs I:=by
 induction H with
 |nil=>exact .nil
 |p q _ _ ih=>exact .p q (fun h=>by cases h) ih
 |nils sz _ ih=>exact .nils sz ih
 |sl id sz n rows es a1 a2 a3 a4 a5 _ _ ih1 ih2=>exact .sl id sz n rows es a1 a2 a3 a4 a5 ih1 ih2
theorem GQ{h:List AO}{id sz:Nat}{rows:List (List AV)}{D:List (List PV)}{J:List Nat}(H:RowOwn true h id sz rows D J):RowOwn false h id sz rows D J:=
 ⟨H.here,H.len,H.rl,H.dl,He H.own,H.nd⟩
theorem Au{l:List Fd}{k:Nat}{f0:Fd}(f:Fd)(h:l[k]?=some f0):aL (l.set k f)+f0.sz=aL l+f.sz:=by
 obtain⟨hk,h⟩:=QX.1 h
 subst h
 rw[ff f hk,jK]
 have e:l=l.take k++l.drop k:=(RF _ _).symm
 have h1:aL l=aL (l.take k)+aL (l.drop k):=by rw[←jK,←e]
 have h4:aL (l.drop k)=l[k].sz+aL (l.drop (k+1)):=by
  have h6:∀(x:Fd) r,aL (x::r)=x.sz+aL r:=fun x r=>by simp[aL]
  rw[RS hk,h6]
 have h5:aL (f::l.drop (k+1))=f.sz+aL (l.drop (k+1)):=by simp[aL]
 omega
def Lu(l:List Fd):Prop:=∀f∈l,∀x∈f.body,x.args≠[]
theorem FV{l:List Fd}(h:bA l=true):Lu l:=by
 intro f hf x hx he
 have hfd:=((ew l).1 h).2.1 f hf
 simp only[ib,Rh] at hfd
 obtain⟨⟨h1,h2⟩,h3,h4⟩:=NW (Rc.1 hfd.2 _ hx)
 rw[he] at h3
 have:∀o:Int,1≤o→o≤8→iW o≠0:=by
  intro o h1 h2
  have:o=1∨o=2∨o=3∨o=4∨o=5∨o=6∨o=7∨o=8:=by omega
  rcases this with rfl|rfl|rfl|rfl|rfl|rfl|rfl|rfl<;>decide
 exact this _ h1 h2 h3.symm
def GR(l:List Fd)(k:Nat)(f:Fd)(j:Nat)(x:Sm)(n:Int):List Fd:=l.set k ⟨f.name,f.params,f.body.set j ⟨x.op,x.name,x.args.set 0 (cf n),x.body,x.els⟩⟩
theorem EZ{l:List Fd}(H:Lu l){k:Nat}{f:Fd}(hf:l[k]?=some f){j:Nat}{x:Sm}(hx:f.body[j]?=some x)(n:Int):Lu (GR l k f j x n):=by
 intro g hg y hy
 rcases RD hg with h|rfl
 ·exact H g h y hy
 ·have hy:y∈f.body.set j ⟨x.op,x.name,x.args.set 0 (cf n),x.body,x.els⟩:=hy
  rcases RD hy with h|rfl
  ·exact H f (Re hf) y h
  ·intro e
   have e:x.args.set 0 (cf n)=[]:=e
   have:=congrArg List.length e
   rw[Sb] at this
   exact H f (Re hf) x (Re hx) (RP this)
theorem MT{l:List Fd}{k:Nat}{f:Fd}(hf:l[k]?=some f){j:Nat}{x:Sm}(hx:f.body[j]?=some x)(n:Int):aL (GR l k f j x n)≤aL l+1:=by
 have h1:=Au ⟨f.name,f.params,f.body.set j ⟨x.op,x.name,x.args.set 0 (cf n),x.body,x.els⟩⟩ hf
 have h2:=BU ⟨x.op,x.name,x.args.set 0 (cf n),x.body,x.els⟩ hx
 have h3:=Bo x.args 0 (cf n)
 have h4:(cf n).sz=1:=by simp[cf,Ex.sz,bB]
 have h5:=x.sz_eq
 have h6:=Sm.sz_eq ⟨x.op,x.name,x.args.set 0 (cf n),x.body,x.els⟩
 have e1:(Sm.mk x.op x.name (x.args.set 0 (cf n)) x.body x.els).name=x.name:=rfl
 have e2:(Sm.mk x.op x.name (x.args.set 0 (cf n)) x.body x.els).args=x.args.set 0 (cf n):=rfl
 have e3:(Sm.mk x.op x.name (x.args.set 0 (cf n)) x.body x.els).body=x.body:=rfl
 have e4:(Sm.mk x.op x.name (x.args.set 0 (cf n)) x.body x.els).els=x.els:=rfl
 rw[e1,e2,e3,e4] at h6
 have hfz:f.sz=1+f.name.length+(f.params.length+(f.params.map List.length).sum)+aq f.body:=rfl
 have hfz':(Fd.mk f.name f.params (f.body.set j ⟨x.op,x.name,x.args.set 0 (cf n),x.body,x.els⟩)).sz=1+f.name.length+(f.params.length+(f.params.map List.length).sum)+aq (f.body.set j ⟨x.op,x.name,x.args.set 0 (cf n),x.body,x.els⟩):=rfl
 unfold GR
 omega
structure L6S where (i:Nat) (q:Nat) (T:List AO) (l:List Fd)
structure L6I (b:List Int) (X fF n p m:Nat) (rowsF:List (List AV)) (a:L6S):Prop where
 t0:a.T[0]?=some (.row 1 [[.nils]])
 tX:a.T[X]?=some (.row 1 [[.sl (fF+1) 3 0 n]])
 len:a.l.length=n
 row:∀q',∃J,RowOwn true (rdO b q'::a.T) (fF+1) 3 rowsF (a.l.map Fd.cs) J∧∀j∈(fF+1)::J,2≤j∧j≠X+1
 has:Lu a.l
 q1:p≤a.q
 q2:a.q+5*a.i≤m
 z:aL a.l+1*a.i≤300000000
 X0:X≠0
theorem L6I.lt{b:List Int}{X fF n p m:Nat}{rowsF:List (List AV)}{a:L6S}(H:L6I b X fF n p m rowsF a):X<a.T.length:=(QX.1 H.tX).1
theorem L6I.tF{b:List Int}{X fF n p m:Nat}{rowsF:List (List AV)}{a:L6S}(H:L6I b X fF n p m rowsF a):a.T[fF]?=some (.row 3 rowsF):=by
 obtain⟨J,h,_⟩:=H.row 0
 exact h.here
theorem Dh{s:Bool}{b:List Int}{q q':Nat}{T:List AO}{id sz:Nat}{rows:List (List AV)}{D:List (List PV)}{J:List Nat}(H:RowOwn s (rdO b q::T) id sz rows D J)(hI:∀i∈id::J,2≤i):RowOwn s (rdO b q'::T) id sz rows D J:=
 H.frame fun i hi=>by
  have:=hI i hi
  obtain⟨k,rfl⟩:∃k,i=k+1:=⟨i-1,by omega⟩
  rfl
theorem L6I.same{b:List Int}{X fF n p m:Nat}{rowsF:List (List AV)}{i q:Nat}{T:List AO}{l:List Fd}(H:L6I b X fF n p m rowsF ⟨i+1,q,T,l⟩)(q':Nat)(os:List AO)(h1:q≤q')(h2:q'≤q+5):L6I b X fF n p m rowsF ⟨i,q',T++os,l⟩:=by
 have hl:=H.lt
 have l0:=(QX.1 H.t0).1
 refine⟨by rw[QZ l0];exact H.t0,by rw[QZ hl];exact H.tX,H.len,fun q2=>?_,H.has,RO H.q1 h1,?_,?_,H.X0⟩
 ·obtain⟨J,h,hj⟩:=H.row q2
  exact⟨J,h.more os,hj⟩
 ·have:=H.q2;simp only at this⊢;omega
 ·have:=H.z;simp only at this⊢;omega
theorem L6I.put{b:List Int}{X fF n p m:Nat}{rowsF:List (List AV)}{i q:Nat}{T:List AO}{l:List Fd}(H:L6I b X fF n p m rowsF ⟨i+1,q,T,l⟩){k:Nat}{f:Fd}(hf:l[k]?=some f){j:Nat}{x:Sm}(hx:f.body[j]?=some x):
 ∃A fB rowsB fA B1 E1 rowsA r0,rowsF[k]?=some [.p (.str f.name),A,.sl (fB+1) 5 0 f.body.length]∧T[fB]?=some (.row 5 rowsB)∧rowsB[j]?=some [.p (.int .i64 x.op),.p (.str x.name),.sl (fA+1) 4 0 x.args.length,B1,E1]∧T[fA]?=some (.row 4 rowsA)∧rowsA[0]?=some r0∧r0.length=4∧
  ∀(q':Nat) (os:List AO) (n':Int),q≤q'→q'≤q+5→L6I b X fF n p m rowsF ⟨i,q',(T++os).set fA (.row 4 (rowsA.set 0 ((cf n').cs.map .p))),GR l k f j x n'⟩:=by
 obtain⟨J,hR,hJ⟩:=H.row 0
 have hne:=H.has f (Re hf) x (Re hx)
 obtain⟨a,ha⟩:∃a,x.args[0]?=some a:=by
  cases h:x.args with
  |nil=>exact absurd h hne
  |cons a r=>exact⟨a,rfl⟩
 obtain⟨A,fB,rowsB,fA,B1,E1,rowsA,r0,p1,p2,p3,p4,p5,p6,p7,p8,p9⟩:=Fp hR hf hx ha
 obtain⟨hA2,hAX⟩:=hJ fA (by simp[p6])
 obtain⟨hB2,hBX⟩:=hJ fB (by simp[p7])
 obtain⟨gA,rfl⟩:∃gA,fA=gA+1:=⟨fA-1,by omega⟩
 obtain⟨gB,rfl⟩:∃gB,fB=gB+1:=⟨fB-1,by omega⟩
 have hr0:r0.length=4:=by
  obtain⟨A',B',IB,z1,z2,z3,z4,z5⟩:=tc hR hf
  rw[p1] at z1;cases z1
  have hneB:f.body.map Sm.cs≠[]:=fun e=>by rw[List.map_eq_nil_iff] at e;rw[e] at hx;cases hx
  obtain⟨id1,rows1,J1,e1,e2,HB⟩:=sL z2 z3 hneB
  rw[Rs] at e1
  cases e1
  have:rows1=rowsB:=by have:=HB.here;rw[p2] at this;cases this;rfl
  subst this
  obtain⟨A2,B2,E2,IA,y1,y2,y3,y4,y5⟩:=Hq HB hx
  rw[p3] at y1;cases y1
  have hneA:x.args.map Ex.cs≠[]:=fun e=>by rw[List.map_eq_nil_iff] at e;exact hne e
  obtain⟨id2,rows2,J2,e3,e4,HA⟩:=sL y2 y3 hneA
  rw[Rs] at e3
  cases e3
  have:rows2=rowsA:=by have:=HA.here;rw[p4] at this;cases this;rfl
  subst this
  exact HA.rl _ (Re p5)
 refine⟨A,gB,rowsB,gA,B1,E1,rowsA,r0,p1,by simpa using p2,p3,by simpa using p4,p5,hr0,fun q' os n' h1 h2=>?_⟩
 have hl:=H.lt
 have l0:=(QX.1 H.t0).1
 have lA:gA<T.length:=by have:=(QX.1 p4).1;simpa using this
 refine⟨?_,?_,by simp only[GR,Sb];exact H.len,fun q2=>?_,EZ H.has hf hx n',RO H.q1 h1,?_,?_,H.X0⟩
 ·simp only
  rw[Ra (by omega),QZ l0];exact H.t0
 ·simp only at hl⊢
  rw[Ra (by omega),QZ hl];exact H.tX
 ·obtain⟨J',g1,g2⟩:=p9 (rdO b 0::(T++os).set gA (.row 4 (rowsA.set 0 ((cf n').cs.map .p)))) n' (by
   rw[Rg,Ro (by simp;omega)]) (fun i hi hne=>by
   cases i with
   |zero=>rfl
   |succ i=>
    rw[Rg,Rg,Ra (by omega),QZ (by simpa using hi)])
  have hJ':∀j∈(fF+1)::J',2≤j∧j≠X+1:=fun j hj=>by
   rcases Rt.1 hj with rfl|hj
   ·exact hJ _ (by simp)
   ·rcases g2 j hj with g|g
    ·exact hJ j (by simp[g])
    ·simp only[Rr] at g hl
     exact⟨by omega,by omega⟩
  exact⟨J',Dh g1 fun i hi=>(hJ' i hi).1,hJ'⟩
 ·have:=H.q2;simp only at this⊢;omega
 ·have:=H.z;have:=MT hf hx n';simp only at* ;omega
end
section
def Fr(K:List Nat)(h h':List AO):Prop:=h.length≤h'.length∧∀i,i<h.length→i∉K→h'[i]?=h[i]?
theorem Fr.refl(K:List Nat)(h:List AO):Fr K h h:=⟨Rj _,fun _ _ _=>rfl⟩
theorem Fr.more(K:List Nat)(h os:List AO):Fr K h (h++os):=⟨by simp,fun i hi _=>QZ hi⟩
theorem Fr.trans{K K':List Nat}{h h1 h2:List AO}(a:Fr K h h1)(b:Fr K' h1 h2)(hk:∀i∈K',i∈K∨h.length≤i):Fr K h h2:=
 ⟨RO a.1 b.1,fun i hi hn=>by
   rw[b.2 i (Rz hi a.1) (fun hm=>by
    rcases hk i hm with q|q
    ·exact hn q
    ·omega),a.2 i hi hn]⟩
theorem Fr.sub{K K':List Nat}{h h1:List AO}(a:Fr K h h1)(hk:∀i∈K,i∈K'∨h.length≤i):Fr K' h h1:=
 ⟨a.1,fun i hi hn=>a.2 i hi fun hm=>by
   rcases hk i hm with q|q
   ·exact hn q
   ·omega⟩
theorem Fr.from{K:List Nat}{h os h2:List AO}(a:Fr K (h++os) h2):Fr K h h2:=
 ⟨by have:=a.1;simp at this;omega,fun i hi hn=>by rw[a.2 i (by simp;omega) hn,QZ hi]⟩
theorem Mp{h:List AO}(hb:HB h){o:AO}(ho:o∈h):okO h.length o:=by
 obtain⟨i,hi⟩:=Ry ho
 cases o with
 |row sz es=>exact fun e he=>(hb.1 i sz es hi e he).2.1
 |mp es=>exact fun e he=>hb.2 i es hi e he
 |sit s p=>trivial
 |dead=>trivial
theorem DV{hF:List AO}{n:Nat}{suf sX s1:List AO}(H:Thn hF n suf sX s1):∀pre:List AO,(∀o∈pre,okO n o)→Thn hF n (pre++suf) (List.replicate pre.length .dead++sX) (pre++s1)
 |[],_=>H
 |o::r,h=>by
  rw[RE,RE,Rr,List.replicate_succ,RE]
  exact .same (h o (by simp)) (DV H r fun x hx=>h x (by simp[hx]))
theorem yG{k n:Nat}{l l1:List (Nat × AV)}{pre suf sX s1:List AO}(hk:k≤(pre++suf).length)(ht:Thn (List.replicate pre.length .dead++sX) (pre++suf).length suf sX s1)(H:FzA (List.replicate pre.length .dead++sX) (pre++suf).length l l1):Wk k (am n l) (pre++suf) (am n l1) (pre++s1):=by
 intro G W0 S0 φ0 h0 W S φ a ek s
 have hb:=s.hrel.hb
 exact xb hk (DV ht pre fun o ho=>Mp hb (by simp[ho])) H G W0 S0 φ0 h0 W S φ a ek s
end
section
variable (G:aJ)
def K_spec_l6Prog:AK:= .seq (.reg [oJ 2 (.alloc [.nils])]) (.seq (.seq (.reg [oM 10 0,oJ 11 (.call ab [(.t 10),(.c (.p (.int .i64 8)))]),oJ 12 (.bin .eql (.t 11) (.c (.p (.int .i64 0))))]) (.cond (.t 12) (.seq (.reg [oM 13 0,oJ 14 (.call jq [(.t 13)]),oS 2 14]) (.ret)) (.skip))) (.seq (.reg [oM 15 0,oJ 16 (.call cm [(.t 15)]),oJ 17 (.call ep [(.t 16)]),oJ 3 (.alloc [.nils]),oS 3 17]) (.seq (.seq (.reg [oM 18 0,oJ 19 (.bsl 1 [(.p (.int .i64 0))] 4 [(0,1,(.c (.p (.int .i64 2)))),(1,1,(.c (.p (.int .i64 4)))),(2,1,(.c (.p (.int .i64 1)))),(3,1,(.c (.p (.int .i64 0))))]),oJ 20 (.call al [(.t 18),(.t 19)]),oM 4 20]) (.blk 0 (.loop (.seq (.seq (.reg [oM 21 4,oJ 22 (.bin .gtr (.t 21) (.c (.p (.int .i64 0))))]) (.cond (.t 22) (.skip) (.exit 0))) (.seq (.blk 1 (.seq (.reg [oF 25 0 3,oM 27 0,oF 28 0 3,oL 26 25,oL 29 28,oJ 30 (.len false (.t 29)),oJ 31 (.call ab [(.t 27),(.t 30)]),⟨none,none,.chk none 25 26⟩,oJ 32 (.idxS 3 (.t 26) (.t 31)),oM 5 32]) (.seq (.reg [oM 33 5,oN 34 33,oF 35 2 34,oL 36 35,oJ 37 (.len false (.t 36)),oJ 38 (.bin .gtr (.t 37) (.c (.p (.int .i64 0))))]) (.cond (.t 38) (.seq (.reg [oM 39 5,oN 40 39,oF 41 2 40,oM 43 0,oM 44 5,oN 45 44,oF 46 2 45,oL 42 41,oL 47 46,oJ 48 (.len false (.t 47)),oJ 49 (.call ab [(.t 43),(.t 48)]),⟨none,none,.chk none 41 42⟩,oJ 50 (.idxS 5 (.t 42) (.t 49)),oM 6 50]) (.seq (.reg [oM 51 6,oN 52 51,oF 53 0 52,oL 54 53,oJ 55 (.bin .eql (.t 54) (.c (.p (.int .i64 5)))),oM 56 55,⟨(some 57),some (56,false),.mov (.t 6)⟩,⟨(some 58),some (56,false),.nilck (.t 57)⟩,⟨(some 59),some (56,false),.fldA 0 (.t 58)⟩,⟨(some 60),some (56,false),.ld none (.t 59)⟩,⟨(some 61),some (56,false),.bin .eql (.t 60) (.c (.p (.int .i64 3)))⟩,oJ 62 (.pick (.t 56) (.c (.p (.bool true))) (.t 61)),oM 63 62,⟨(some 64),some (63,false),.mov (.t 0)⟩,⟨(some 65),some (63,false),.call ab [(.t 64),(.c (.p (.int .i64 3)))]⟩,⟨(some 66),some (63,false),.bin .eql (.t 65) (.c (.p (.int .i64 0)))⟩,⟨(some 67),some (63,false),.mov (.t 66)⟩,⟨(some 68),some (67,true),.mov (.t 6)⟩,⟨(some 69),some (67,true),.nilck (.t 68)⟩,⟨(some 70),some (67,true),.fldA 0 (.t 69)⟩,⟨(some 71),some (67,true),.ld none (.t 70)⟩,⟨(some 72),some (67,true),.bin .neq (.t 71) (.c (.p (.int .i64 8)))⟩,⟨(some 73),some (63,false),.pick (.t 67) (.t 72) (.c (.p (.bool false)))⟩,⟨(some 74),some (63,false),.mov (.t 73)⟩,⟨(some 75),some (74,true),.mov (.t 6)⟩,⟨(some 76),some (74,true),.nilck (.t 75)⟩,⟨(some 77),some (74,true),.fldA 0 (.t 76)⟩,⟨(some 78),some (74,true),.ld none (.t 77)⟩,⟨(some 79),some (74,true),.bin .neq (.t 78) (.c (.p (.int .i64 6)))⟩,⟨(some 80),some (63,false),.pick (.t 74) (.t 79) (.c (.p (.bool false)))⟩,oJ 81 (.pick (.t 63) (.c (.p (.bool true))) (.t 80))]) (.cond (.t 81) (.reg [oM 82 6,oN 83 82,oF 84 2 83,oM 86 0,oJ 87 (.bslP 1 [(.p (.int .i64 0))] 3 [(0,1,(.c (.p (.int .i64 0)))),(1,1,(.c (.p (.int .i64 1)))),(2,1,(.c (.p (.int .i64 5))))]),oL 85 84,oJ 88 (.call al [(.t 86),(.t 87)]),⟨none,none,.chk none 84 85⟩,oJ 89 (.call aZ [(.t 88)]),⟨none,none,.chk none 84 85⟩,oJ 90 (.idxS 4 (.t 85) (.c (.p (.int .i64 0)))),⟨none,none,.st 4 (.t 90) (.t 89)⟩]) (.skip)))) (.skip))))) (.reg [oM 23 4,oJ 24 (.bin .sub (.t 23) (.c (.p (.int .i64 1)))),oM 4 24])))))) (.seq (.seq (.reg [oM 91 0,oJ 92 (.call ab [(.t 91),(.c (.p (.int .i64 3)))]),oJ 93 (.bin .eql (.t 92) (.c (.p (.int .i64 0))))]) (.cond (.t 93) (.seq (.reg [oF 94 0 3,oL 95 94,oF 96 0 3,oL 97 96,oJ 98 (.len false (.t 97)),oJ 99 (.bin .sub (.t 98) (.c (.p (.int .i64 1)))),oJ 100 (.idxS 3 (.t 95) (.t 99)),oM 7 100]) (.seq (.reg [oM 101 0,oM 102 7,oN 103 102,oF 104 2 103,oL 105 104,oJ 106 (.len false (.t 105)),oJ 107 (.bin .add (.t 106) (.c (.p (.int .i64 1)))),oJ 108 (.call ab [(.t 101),(.t 107)]),oM 8 108]) (.seq (.reg [oM 109 0,oJ 110 (.bsl 1 [(.p (.int .i64 0))] 3 [(0,1,(.c (.p (.int .i64 7)))),(1,1,(.c (.p (.int .i64 6)))),(2,1,(.c (.p (.int .i64 5))))]),oJ 111 (.call al [(.t 109),(.t 110)]),oM 112 0,oJ 113 (.call ab [(.t 112),(.c (.p (.int .i64 2)))]),oM 114 0,oJ 115 (.call ab [(.t 114),(.c (.p (.int .i64 2)))]),oJ 116 (.bin .mul (.t 113) (.t 115)),oJ 117 (.call aZ [(.t 116)]),oJ 118 (.bsl 4 [(.p (.int .i64 0)),(.p (.int .i64 0)),(.p (.str [])),.nils] 1 [(0,4,(.t 117))]),oJ 119 (.bld [(.p (.int .i64 0)),(.p (.str [])),.nils,.nils,.nils] [(0,1,(.t 111)),(2,1,(.t 118))]),oJ 9 (.alloc [(.p (.int .i64 0)),(.p (.str [])),.nils,.nils,.nils]),⟨none,none,.st 5 (.t 9) (.t 119)⟩]) (.cut (.seq (.reg [oF 120 0 9,oL 121 120,oJ 122 (.bin .neq (.t 121) (.c (.p (.int .i64 7))))]) (.cond (.t 122) (.seq (.reg [oJ 123 (.call aZ [(.c (.p (.int .i64 9)))]),oJ 124 (.bsl 4 [(.p (.int .i64 0)),(.p (.int .i64 0)),(.p (.str [])),.nils] 1 [(0,4,(.t 123))]),oJ 125 (.bld [(.p (.int .i64 0)),(.p (.str [])),.nils,.nils,.nils] [(0,1,(.c (.p (.int .i64 3)))),(2,1,(.t 124))]),oJ 126 (.bsl 5 [(.p (.int .i64 0)),(.p (.str [])),.nils,.nils,.nils] 1 [(0,5,(.t 125))]),oF 127 3 9,oS 127 126]) (.seq (.reg [oF 128 0 9,oL 129 128,oJ 130 (.bin .eql (.t 129) (.c (.p (.int .i64 6))))]) (.cond (.t 130) (.reg [oF 131 2 9,oL 132 131,oJ 133 (.call aZ [(.c (.p (.int .i64 0)))]),⟨none,none,.chk none 131 132⟩,oJ 134 (.idxS 4 (.t 132) (.c (.p (.int .i64 0)))),⟨none,none,.st 4 (.t 134) (.t 133)⟩]) (.skip)))) (.skip))) (.reg [oM 135 7,oM 137 7,oN 138 137,oF 139 2 138,oM 141 8,oM 147 7,oN 148 147,oF 149 2 148,oM 151 8,oL 140 139,oJ 142 (.slS 5 (.t 140) none (some (.t 141))),oJ 144 (.ld (some 5) (.t 9)),oJ 145 (.bslP 5 [(.p (.int .i64 0)),(.p (.str [])),.nils,.nils,.nils] 1 [(0,5,(.t 144))]),oL 150 149,oJ 152 (.slS 5 (.t 150) (some (.t 151)) none),oJ 136 (.bsl 5 [(.p (.int .i64 0)),(.p (.str [])),.nils,.nils,.nils] 0 []),⟨none,none,.chk none 139 140⟩,⟨none,none,.chk (some 5) 9 144⟩,⟨none,none,.chk none 149 150⟩,oJ 143 (.app 5 96 (.t 136) (.t 142)),⟨none,none,.chk (some 5) 9 144⟩,⟨none,none,.chk none 149 150⟩,oJ 146 (.app 5 96 (.t 143) (.t 145)),⟨none,none,.chk none 149 150⟩,oJ 153 (.app 5 96 (.t 146) (.t 152)),oN 154 135,oF 155 2 154,oS 155 153]))))) (.skip))) (.seq (.reg [oJ 156 (.ld (some 1) (.t 3)),oS 2 156]) (.ret))))))
theorem xM:K_spec_l6Prog.whole=F_spec_l6Prog.ak:=rfl
theorem mv:∀l:List PV,lL (l.map AV.p)=some l
 |[]=>rfl
 |q::r=>by rw[Rw,lL,mv r];rfl
theorem oh{h:List AO}:∀l:List PV,OwnL false h (l.map AV.p) l []
 |[]=> .nil
 |q::r=> .p q (fun h=>by cases h) (oh r)
structure CutS where (q:Nat) (T:List AO) (s:Sm) (x:Nat)
structure CutI (q1:Nat) (T:List AO) (a:CutS):Prop where
 lo:q1≤a.q
 hi:a.q≤q1+10
 fr:Fr [] T a.T
 box:a.T[a.x]?=some (.row 5 [a.s.cs.map .p])
 lx:T.length≤a.x
 z:a.s.sz≤100
theorem Az{b:List Int}(hb:Byt b)(hl:b.length≤2000){p:Nat}(hp:p≤4000000000):AC Tryz.prog G ju [.ptr 0 2 0 0] [rdO b p] fun x h=>∃v q,x= .ret v∧h=[rdO b q]∧PgQ p 900000000 400500100 v q:=by
 refine lN G (AC.goK xZ xM ?_)
 have hprog:AC Tryz.prog G cm [.ptr 0 2 0 0] [rdO b (p+1)] fun x h=>∃v q,x= .ret v∧h=[rdO b q]∧((∃l:List Fd,v= .agg [.p (fdL l)]∧bA l=true∧aL l≤200000000)∧p+1≤q∧q≤p+1+200000000):=
  (Dg G hb hl (by omega)).mono fun x h ⟨l,q,e1,e2,e3,e4,e5,e6⟩=>⟨_,q,e1,e2,⟨l,rfl,e3,e4⟩,e5,e6⟩
 have hnx:∀n,(cf n).cs=[.int .i64 1,.int .i64 n,.str [],.lst 4 []]:=fun n=>(cf n).cs_eq
 simp-implicitDefEqProofs[F_spec_l6Prog,K_spec_l6Prog]
 refine(bc G b hb hl p (by omega) 8 _).mono ?_
 rintro r h ⟨k0,rfl,rfl,_⟩
 simp-implicitDefEqProofs[aa]
 refine bf (fun hc=>?_) (fun hc=>?_)
 ·simp-implicitDefEqProofs[]
  refine(iq G (Hc G hb hl (p:=p+1) (by omega)) _ (by simp[below])).mono ?_
  rintro r h ⟨v,q2,rfl,rfl,⟨l2,rfl,hz2⟩,h3,h4⟩
  simp-implicitDefEqProofs[aa]
  exact⟨_,_,q2,.agg [.p (fdL l2)],rfl,rfl,.keep (by simp) .nil,⟨l2,rfl,by omega⟩,by omega,by omega⟩
 simp-implicitDefEqProofs[]
 refine(iq G hprog _ (by simp[below])).mono ?_
 rintro r h ⟨v,q,rfl,rfl,⟨l,rfl,hok,hz⟩,h1,h2⟩
 have hlen:=((ew l).1 hok).1
 simp-implicitDefEqProofs[aa]
 refine(AC.mkLift vt (Ax G l (by omega)) (by simp)).mono ?_
 rintro r h ⟨vs,I,os,rfl,rfl,ho,nd,hI⟩
 obtain⟨v,rfl⟩:=fG ho
 have hne:l.map Fd.cs≠[]:=by intro h;rw[List.map_eq_nil_iff] at h;rw[h] at hlen;simp at hlen
 simp at hI
 obtain⟨id,rowsF,JF,rfl,rfl,hF⟩:=sL ho nd hne
 have hid2:2≤id:=hI id (by simp)
 obtain⟨fF,rfl⟩:∃fF,id=fF+1:=⟨id-1,by omega⟩
 rw[Rs]
 simp-implicitDefEqProofs[aa]
 obtain⟨X,hX⟩:∃X,X=os.length+1:=⟨_,rfl⟩
 obtain⟨T0,hT0⟩:∃T,T=AO.row 1 [[AV.nils]]::(os++[AO.row 1 [[AV.sl (fF+1) 3 0 l.length]]]):=⟨_,rfl⟩
 have hI0:∀i q2 os2,i≤4→q2≤q+1→q≤q2→L6I b X fF l.length (p+1) (p+200000100) rowsF ⟨i,q2,T0++os2,l⟩:=fun i q2 os2 hi h3 h4=>by
  subst hX hT0
  refine⟨rfl,?_,rfl,fun q'=>⟨JF,?_,fun j hj=>?_⟩,FV hok,by simp only;omega,by simp only;omega,by simp only;omega,by omega⟩
  ·simp
  ·have:RowOwn true (rdO b q::AO.row 1 [[AV.nils]]::os) (fF+1) 3 rowsF (l.map Fd.cs) JF:=hF
   have:=Dh (q':=q') this (fun i hi=>hI i hi)
   have:=this.more ([AO.row 1 [[AV.sl (fF+1) 3 0 l.length]]]++os2)
   simpa using this
  ·refine⟨hI j hj,fun e=>?_⟩
   have:j<([rdO b q,AO.row 1 [[AV.nils]]]++os).length:=by
    rcases Rt.1 hj with rfl|hj
    ·exact hF.lt
    ·exact hF.own.lt hj
   simp at this
   omega
 refine(kh G hb hl (p:=q) (by omega) [2,4,1,0] (k:=os.length+1+1+1) (by simp) (by simp) (by omega) rfl (by simp[uJ])).mono ?_
 rintro r h ⟨n0,hn0,rfl,rfl⟩
 obtain⟨n1,rfl,hn1⟩:∃n1:Nat,n0=(n1:Int)∧n1≤4:=by
  simp only[Rt,List.not_mem_nil,or_false] at hn0
  rcases hn0 with rfl|rfl|rfl|rfl
  ·exact⟨2,rfl,by omega⟩
  ·exact⟨4,rfl,by omega⟩
  ·exact⟨1,rfl,by omega⟩
  ·exact⟨0,rfl,by omega⟩
 simp-implicitDefEqProofs[aa]
 have hXr:os.length+1+1=X+1:=by omega
 rw[hXr]
 refine aU (fun a:L6S=>am 157 [(4,.p (.int .i64 a.i)),(3,.ptr (X+1) 1 0 0),(2,.ptr 1 1 0 0),(0,.ptr 0 2 0 0)]) (fun a=>rdO b a.q::a.T) (L6I b X fF l.length (p+1) (p+200000100) rowsF) (fun a=>a.i) ⟨n1,q+1,T0++[uJ [2,4,1,0]],l⟩ (hI0 _ _ _ hn1 (by omega) (by omega)) ?_ ?_
 ·have e:∀z,(AO.row 1 [[AV.nils]]::(os++[AO.row 1 [[AV.sl (fF+1) 3 0 l.length]],z]))=T0++[z]:=fun z=>by rw[hT0];simp
  simp only[uJ,Rw,List.map_nil,e]
  refine eQ (by simp) ?_
  simp[below]
  subst hT0;simp;omega
 clear hI0 hT0 hF hI
 rintro⟨i,q1,T,l1⟩ hA
 have hXl:=hA.lt
 have tX:=hA.tX
 have tF:=hA.tF
 have tx0:T[0]?=some (.row 1 [[.nils]]):=hA.t0
 have hl1:l1.length=l.length:=hA.len
 have hq1:=hA.q1
 have hq2:=hA.q2
 simp only at hq1 hq2 hXl tX tF
 simp-implicitDefEqProofs[tX]
 refine bf (fun hc=>?_) (fun hc=>?_)
 ·simp at hc
  obtain⟨i,rfl⟩:∃j,i=j+1:=⟨i-1,by omega⟩
  have hwi:IntKind.i64.wrap (i:Int)=(i:Int):=af (by omega) (by omega)
  have stp:∀(q':Nat) (T':List AO) (l':List Fd) (sl:List (Nat × AV)),L6I b X fF l.length (p+1) (p+200000100) rowsF ⟨i,q',T',l'⟩→Aw.look sl 4= .p (.int .i64 (IntKind.i64.wrap (i:Int)))→Aw.look sl 3= .ptr (X+1) 1 0 0→Aw.look sl 2= .ptr 1 1 0 0→Aw.look sl 0= .ptr 0 2 0 0→
   ∃a:L6S,L6I b X fF l.length (p+1) (p+200000100) rowsF a∧a.i<i+1∧Wk 1 (am 157 sl) (rdO b q'::T') (am 157 [(4,.p (.int .i64 a.i)),(3,.ptr (X+1) 1 0 0),(2,.ptr 1 1 0 0),(0,.ptr 0 2 0 0)]) (rdO b a.q::a.T):=fun q' T' l' sl hA' e4 e3 e2 e0=>by
   have hx:=hA'.lt
   simp only at hx
   refine⟨⟨i,q',T',l'⟩,hA',by simp only;omega,eQ (by simp) ?_⟩
   simp[below,e4,e3,e2,e0,hwi]
   omega
  simp-implicitDefEqProofs[tX]
  refine(bc G b hb hl q1 (by omega) l.length _).mono ?_
  rintro r h ⟨k,rfl,rfl,hk⟩
  have hkl:k<l.length:=by omega
  have hgk:=QW (show k<l1.length by omega)
  generalize l1[k]=f at hgk
  obtain⟨J0,hR0,hJ0⟩:=hA.row (q1+1)
  obtain⟨A,B,IB,g1,g2,g3,g4,_⟩:=tc hR0 hgk
  simp-implicitDefEqProofs[aa,tX,tF,hkl,g1]
  rcases g2.inv g3 with⟨h0,_,rfl|rfl⟩|⟨h0,_⟩|⟨idB,rowsB,JB,rfl,rfl,hB⟩
  ·simp-implicitDefEqProofs[tX,tF]
   exact stp _ _ _ _ (by have:=hA.same (q1+1) [] (by omega) (by omega);simpa using this) (by simp) (by simp) (by simp) (by simp)
  ·simp-implicitDefEqProofs[tX,tF]
   exact stp _ _ _ _ (by have:=hA.same (q1+1) [] (by omega) (by omega);simpa using this) (by simp) (by simp) (by simp) (by simp)
  ·cases h0
  rw[Rs] at*
  simp-implicitDefEqProofs[tX,tF,g1]
  by_cases hbe:f.body.length=0
  ·simp-implicitDefEqProofs[hbe,tX,tF]
   exact stp _ _ _ _ (by have:=hA.same (q1+1) [] (by omega) (by omega);simpa using this) (by simp) (by simp) (by simp) (by simp)
  have hpos:0<f.body.length:=by omega
  simp-implicitDefEqProofs[hpos,tX,tF,g1]
  refine(bc G b hb hl (q1+1) (by omega) f.body.length _).mono ?_
  rintro r h ⟨j,rfl,rfl,hj⟩
  have hjl:j<f.body.length:=by omega
  have hgj:=QW hjl
  generalize f.body[j]=x at hgj
  obtain⟨A2,fB,rowsB2,fA,B1,E1,rowsA,r0,p1,p2,p3,p4,p5,p6,p7⟩:=hA.put hgk hgj
  obtain⟨z1,z2,z3,z4,rfl⟩:∃z1 z2 z3 z4,r0=[z1,z2,z3,z4]:=by
   match r0,p6 with
   |[a,b,c,d],_=>exact⟨a,b,c,d,rfl⟩
  clear p6
  have hB2:=g1.symm.trans p1
  simp only[Option.some.injEq,List.cons.injEq,AV.sl.injEq,true_and,and_true] at hB2
  obtain⟨rfl,rfl⟩:=hB2
  have lA:fA<T.length:=(QX.1 p4).1
  have hne:x.args≠[]:=hA.has f (Re hgk) x (Re hgj)
  have hpa:0<x.args.length:=Sc.2 hne
  have num5:∀(q':Nat) (rest:List AO),q'≤1000000000000→AC Tryz.prog G al [.ptr 0 2 0 0,.p (.lst 1 [[.int .i64 0],[.int .i64 1],[.int .i64 5]])] (rdO b q'::rest) fun x h=>∃n,n∈[0,1,5]∧x= .ret (.p (.int .i64 n))∧h=rdO b (q'+1)::rest:=fun q' rest hq'=>zE G hb hl hq' [0,1,5] (by simp) (by simp) rest
  have gA:∀z,(rdO b z::T)[fA+1]?=some (.row 4 rowsA):=fun z=>by rw[Rg];exact p4
  have fin:∀(q':Nat) (n:Int) (sl:List (Nat × AV)),q1≤q'→q'≤q1+5→Aw.look sl 4= .p (.int .i64 (IntKind.i64.wrap (i:Int)))→Aw.look sl 3= .ptr (X+1) 1 0 0→Aw.look sl 2= .ptr 1 1 0 0→Aw.look sl 0= .ptr 0 2 0 0→
   ∃a:L6S,L6I b X fF l.length (p+1) (p+200000100) rowsF a∧a.i<i+1∧Wk 1 (am 157 sl) (rdO b q'::T.set fA (.row 4 (rowsA.set 0 [.p (.int .i64 1),.p (.int .i64 n),.p (.str []),.p (.lst 4 [])]))) (am 157 [(4,.p (.int .i64 a.i)),(3,.ptr (X+1) 1 0 0),(2,.ptr 1 1 0 0),(0,.ptr 0 2 0 0)]) (rdO b a.q::a.T):=fun q' n sl h1 h2 e4 e3 e2 e0=>
   stp q' _ _ sl (by have:=p7 q' [] n h1 h2;simpa[hnx] using this) e4 e3 e2 e0
  by_cases h5:x.op=5∨x.op=3
  ·have h53:x.op=5∨¬x.op=5∧x.op=3:=by omega
   rcases h53 with h5|⟨h5,h3⟩
   ·simp-implicitDefEqProofs[aa,hjl,tX,tF,g1,p2,p3,h5]
    refine(num5 (q1+1+1) _ (by omega)).mono ?_
    rintro r h ⟨n,_,rfl,rfl⟩
    simp-implicitDefEqProofs[aa]
    refine⟨by simp[p2,p3],?_⟩
    refine(fX G n).use ?_
    simp-implicitDefEqProofs[hnx,p2,p3,p4,hpa,p5]
    exact fin _ _ _ (by omega) (by omega) (by simp) (by simp) (by simp) (by simp)
   ·simp-implicitDefEqProofs[aa,hjl,tX,tF,g1,p2,p3,h5,h3]
    refine(num5 (q1+1+1) _ (by omega)).mono ?_
    rintro r h ⟨n,_,rfl,rfl⟩
    simp-implicitDefEqProofs[aa]
    refine⟨by simp[p2,p3],?_⟩
    refine(fX G n).use ?_
    simp-implicitDefEqProofs[hnx,p2,p3,p4,hpa,p5]
    exact fin _ _ _ (by omega) (by omega) (by simp) (by simp) (by simp) (by simp)
  have h5':¬x.op=5:=fun e=>h5 (.inl e)
  have h3':¬x.op=3:=fun e=>h5 (.inr e)
  simp-implicitDefEqProofs[aa,hjl,tX,tF,g1,p2,p3,h5',h3']
  refine(bc G b hb hl (q1+1+1) (by omega) 3 _).mono ?_
  rintro r h ⟨k3,rfl,rfl,_⟩
  have out:∀(q':Nat) (sl:List (Nat × AV)),q1≤q'→q'≤q1+5→Aw.look sl 4= .p (.int .i64 (IntKind.i64.wrap (i:Int)))→Aw.look sl 3= .ptr (X+1) 1 0 0→Aw.look sl 2= .ptr 1 1 0 0→Aw.look sl 0= .ptr 0 2 0 0→
   ∃a:L6S,L6I b X fF l.length (p+1) (p+200000100) rowsF a∧a.i<i+1∧Wk 1 (am 157 sl) (rdO b q'::T) (am 157 [(4,.p (.int .i64 a.i)),(3,.ptr (X+1) 1 0 0),(2,.ptr 1 1 0 0),(0,.ptr 0 2 0 0)]) (rdO b a.q::a.T):=fun q' sl h1 h2 e4 e3 e2 e0=>
   stp q' _ _ sl (by have:=hA.same q' [] h1 h2;simpa using this) e4 e3 e2 e0
  by_cases c0:k3=0
  ·subst c0
   by_cases c8:x.op=8
   ·simp-implicitDefEqProofs[aa,hjl,tX,tF,g1,p2,p3,c8]
    exact out _ _ (by omega) (by omega) (by simp) (by simp) (by simp) (by simp)
   by_cases c6:x.op=6
   ·simp-implicitDefEqProofs[aa,hjl,tX,tF,g1,p2,p3,c8,c6]
    exact out _ _ (by omega) (by omega) (by simp) (by simp) (by simp) (by simp)
   simp-implicitDefEqProofs[aa,hjl,tX,tF,g1,p2,p3,c8,c6]
   refine(num5 (q1+1+1+1) _ (by omega)).mono ?_
   rintro r h ⟨n,_,rfl,rfl⟩
   simp-implicitDefEqProofs[aa]
   refine⟨by simp[p2,p3],?_⟩
   refine(fX G n).use ?_
   simp-implicitDefEqProofs[hnx,p2,p3,p4,hpa,p5]
   exact fin _ _ _ (by omega) (by omega) (by simp) (by simp) (by simp) (by simp)
  ·simp-implicitDefEqProofs[aa,hjl,tX,tF,g1,p2,p3,c0]
   exact out _ _ (by omega) (by omega) (by simp) (by simp) (by simp) (by simp)
 simp at hc
 subst hc
 have hRw:=hA.row
 have hz1:=hA.z
 simp only at hRw hz1
 have lT:=(QX.1 tx0).1
 have lF:=(QX.1 tF).1
 have hX0:X≠0:=hA.X0
 have endS:∀(s:Bool) (q':Nat) (T':List AO) (l':List Fd) (J':List Nat) (rows':List (List AV)),RowOwn s (rdO b q'::T') (fF+1) 3 rows' (l'.map Fd.cs) J'→(∀i∈(fF+1)::J',2≤i)→l'.length=l.length→aL l'≤400000000→q1≤q'→q'≤q1+50→DP b (PgQ p 900000000 400500100) (.ret (.agg [.sl (fF+1) 3 0 l.length])) (rdO b q'::T'.set 0 (.row 1 [[.sl (fF+1) 3 0 l.length]])):=fun s q' T' l' J' rows' hR hJ hl' hz' h1 h2=>by
  have tree:=(hR.frame (h':=rdO b q'::T'.set 0 (.row 1 [[.sl (fF+1) 3 0 l.length]])) fun i hi=>by
   have:=hJ i hi
   obtain⟨k,rfl⟩:∃k,i=k+1:=⟨i-1,by omega⟩
   rw[Rg,Rg,Ra (by omega)]).tree (n:=l.length) (by simp[hl'])
  exact⟨_,_,q',.agg [.p (fdL l')],rfl,rfl,.agg (.one ((Bj tree (fun i hi=>by have:=hJ i hi;omega) .dead).view 0 _ _ rfl rfl) .nil) .nil,⟨l',rfl,by omega⟩,by omega,by omega⟩
 have s0:∀x,(T.set 0 x)[0]?=some x:=fun x=>Ro lT
 simp-implicitDefEqProofs[]
 refine(bc G b hb hl q1 (by omega) 3 _).mono ?_
 rintro r h ⟨k3,rfl,rfl,_⟩
 simp-implicitDefEqProofs[aa]
 refine bf (fun hc=>?_) (fun hc=>?_)
 case refine_2=>
  simp-implicitDefEqProofs[tX,tx0,s0]
  obtain⟨J0,hR0,hJ0⟩:=hRw (q1+1)
  exact endS _ _ _ _ _ _ hR0 (fun i hi=>(hJ0 i hi).1) hl1 (by omega) (by omega) (by omega)
 have hn1:(l.length:Int)-1=((l.length-1:Nat):Int):=by omega
 have hgk:=QW (show l.length-1<l1.length by omega)
 generalize l1[l.length-1]=f at hgk
 obtain⟨J0,hR0,hJ0⟩:=hRw (q1+1)
 obtain⟨A,B,IB,g1,g2,g3,g4,_⟩:=tc hR0 hgk
 have hBc:=(Jf g2).2
 have hBl:AY B=some (.p (.int .i64 f.body.length)):=by
  rcases g2.inv g3 with⟨h0,_,rfl|rfl⟩|⟨h0,_⟩|⟨idB,rowsB,JB,rfl,rfl,hB⟩
  ·have:f.body.length=0:=by simpa using congrArg List.length h0
   simp[this]
  ·have:f.body.length=0:=by simpa using congrArg List.length h0
   simp[this]
  ·cases h0
  ·simp
 have hfz:=cw (Re hgk)
 have hfs:f.sz=1+f.name.length+(f.params.length+(f.params.map List.length).sum)+aq f.body:=rfl
 have hbl:=bk f.body
 have hw1:IntKind.i64.wrap ((l.length:Int)-1)=((l.length-1:Nat):Int):=by rw[af (by omega) (by omega)];omega
 have hkl:l.length-1<l.length:=by omega
 have hw2:IntKind.i64.wrap ((f.body.length:Int)+1)=((f.body.length+1:Nat):Int):=by rw[af (by omega) (by omega)];omega
 simp-implicitDefEqProofs[-AV.isCell,-AV.cells,tX,tF,g1,hBc,hBl,hw1,hw2,hkl]
 refine⟨rfl,?_⟩
 refine(bc G b hb hl (q1+1) (by omega) ((f.body.length:Int)+1) _).mono ?_
 rintro r h ⟨at_,rfl,rfl,hat⟩
 have hat2:at_≤f.body.length:=by omega
 simp-implicitDefEqProofs[aa]
 refine(kh G hb hl (p:=q1+1+1) (by omega) [7,6,5] (k:=T.length+1) (by simp) (by simp) (by omega) rfl (by simp[uJ])).mono ?_
 rintro r h ⟨n7,hn7,rfl,rfl⟩
 have aX:∀os,(T++os)[X]?=some (.row 1 [[.sl (fF+1) 3 0 l.length]]):=fun os=>by rw[QZ hXl];exact tX
 simp-implicitDefEqProofs[aa]
 refine(bc G b hb hl (q1+1+1+1) (by omega) 2 _).mono ?_
 rintro r h ⟨m1,rfl,rfl,_⟩
 simp-implicitDefEqProofs[aa]
 refine(bc G b hb hl (q1+1+1+1+1) (by omega) 2 _).mono ?_
 rintro r h ⟨m2,rfl,rfl,_⟩
 simp-implicitDefEqProofs[aa]
 obtain⟨nz,hnz⟩:∃nz,nz=IntKind.i64.wrap ((m1:Int)*m2):=⟨_,rfl⟩
 rw[←hnz]
 clear hnz
 refine(fX G nz).use ?_
 simp only[hnx]
 simp-implicitDefEqProofs[]
 refine nZ (fun a:CutS=>am 157 [(9,.ptr (a.x+1) 5 0 0),(8,.p (.int .i64 at_)),(7,.ptr (fF+1) 3 (l.length-1) 0),(3,.ptr (X+1) 1 0 0),(2,.ptr 1 1 0 0),(0,.ptr 0 2 0 0)]) (fun a=>rdO b a.q::a.T) (CutI q1 T) ?_ ?_
 ·simp-implicitDefEqProofs[]
  refine bf (fun h7=>?_) (fun h7=>?_)
  case refine_2=>
   have h7:n7=7:=by simpa using h7
   subst h7
   simp-implicitDefEqProofs[]
   refine⟨⟨q1+1+1+1+1+1,T++[.dead,.dead,.row 5 [(Sm.mk 7 [] [cf nz] [] []).cs.map .p]],⟨7,[],[cf nz],[],[]⟩,T.length+2⟩,⟨by simp only;omega,by simp only;omega,Fr.more _ _ _,by simp,by simp,by simp[Sm.sz,bB,aq,cf,Ex.sz]⟩,?_⟩
   refine yG (pre:=rdO b (q1+1+1+1+1+1)::T) (suf:=[_,_,_]) (by simp) (.drop (.give (.one ?_ .nil))) ?_
   ·rw[Sm.cs_eq]
    refine .keep (by simp) (.keep (by simp) (.one ?_ (.one (.nils 5) (.one (.nils 5) .nil))))
    exact ik (ls:=[(cf nz).cs]) (by simp[hnx]) rfl (by simp)
   ·refine⟨.keep ?_ .nil,.keep trivial .nil,.keep ?_ .nil,.keep ?_ .nil,.keep ?_ .nil,.keep ?_ .nil,trivial⟩<;>simp[below]<;>omega
  have h7:¬n7=7:=by simpa using h7
  simp-implicitDefEqProofs[]
  refine(fX G 9).use ?_
  simp only[hnx]
  simp-implicitDefEqProofs[]
  have hS9:∀hF:List AO,hF[T.length+4]?=some (.row 4 [[.p (.int .i64 1),.p (.int .i64 9),.p (.str []),.p (.lst 4 [])]])→hF[T.length+5]?=some (.row 5 [[.p (.int .i64 3),.p (.str []),.sl (T.length+4) 4 0 1,.nils,.nils]])→View hF (.sl (T.length+5) 5 0 1) (smL [⟨3,[],[cf 9],[],[]⟩]):=fun hF e1 e2=>by
   have o1:OwnL false hF [.sl (T.length+4) 4 0 1] [exL [cf 9]] [T.length+4]:=by
    refine OwnL.sl (J:=[]) (I:=[]) (T.length+4) 4 1 _ _ e1 rfl rfl (by simp) (by simp) ?_ .nil
    simp only[Rw,List.map_nil,hnx,RX,List.flatten_nil,RL]
    exact .p _ (fun _=>rfl) (.p _ (fun _=>rfl) (.p _ (fun _=>rfl) (.p _ (fun _=>rfl) .nil)))
   have o2:OwnL false hF [.sl (T.length+5) 5 0 1] [smL [⟨3,[],[cf 9],[],[]⟩]] [T.length+5,T.length+4]:=by
    refine OwnL.sl (J:=[T.length+4]) (I:=[]) (T.length+5) 5 1 _ _ e2 rfl rfl (by simp) (by simp) ?_ .nil
    have:=Cx (s:=false) (o:=3) (w:=[]) (b:=[]) (e:=[]) o1 (.nils 5 .nil) (.nils 5 .nil)
    simpa using this
   exact o2.view 0 _ _ rfl rfl
  have fin5:∀(o nz':Int) (x0:AO) (sl:List (Nat × AV)),Aw.look sl 9= .ptr (T.length+2+1) 5 0 0→Aw.look sl 8= .p (.int .i64 at_)→Aw.look sl 7= .ptr (fF+1) 3 (l.length-1) 0→Aw.look sl 3= .ptr (X+1) 1 0 0→Aw.look sl 2= .ptr 1 1 0 0→Aw.look sl 0= .ptr 0 2 0 0→
   ∃s:CutS,CutI q1 T s∧Wk 1 (am 157 sl) (rdO b (q1+1+1+1+1+1)::(T++[x0,.row 4 [[.p (.int .i64 1),.p (.int .i64 nz'),.p (.str []),.p (.lst 4 [])]],.row 5 [[.p (.int .i64 o),.p (.str []),.sl (T.length+1+1) 4 0 1,.sl (T.length+4+1) 5 0 1,.nils]],
    .row 4 [[.p (.int .i64 1),.p (.int .i64 9),.p (.str []),.p (.lst 4 [])]],.row 5 [[.p (.int .i64 3),.p (.str []),.sl (T.length+3+1) 4 0 1,.nils,.nils]]])) (am 157 [(9,.ptr (s.x+1) 5 0 0),(8,.p (.int .i64 at_)),(7,.ptr (fF+1) 3 (l.length-1) 0),(3,.ptr (X+1) 1 0 0),(2,.ptr 1 1 0 0),(0,.ptr 0 2 0 0)]) (rdO b s.q::s.T):=fun o nz' x0 sl e9 e8 e7 e3 e2 e0=>by
   refine⟨⟨q1+1+1+1+1+1,T++[.dead,.dead,.row 5 [(Sm.mk o [] [cf nz'] [⟨3,[],[cf 9],[],[]⟩] []).cs.map .p],.dead,.dead],⟨o,[],[cf nz'],[⟨3,[],[cf 9],[],[]⟩],[]⟩,T.length+2⟩,⟨by simp only;omega,by simp only;omega,Fr.more _ _ _,by simp,by simp,by simp[Sm.sz,bB,aq,cf,Ex.sz]⟩,?_⟩
   refine yG (pre:=rdO b (q1+1+1+1+1+1)::T) (suf:=[_,_,_,_,_]) (by simp) (.drop (.give (.one ?_ (.give (.give .nil))))) ?_
   ·rw[Sm.cs_eq]
    refine .keep (by simp) (.keep (by simp) (.one ?_ (.one ?_ (.one (.nils 5) .nil))))
    ·exact ik (ls:=[(cf nz').cs]) (by simp[hnx]) rfl (by simp)
    ·refine hS9 _ ?_ ?_
     ·simp
     ·simp
   ·simp only[FzA,e9,e8,e7,e3,e2,e0]
    refine⟨.keep ?_ .nil,.keep trivial .nil,.keep ?_ .nil,.keep ?_ .nil,.keep ?_ .nil,.keep ?_ .nil,trivial⟩<;>simp[below]<;>omega
  refine bf (fun h6=>?_) (fun h6=>?_)
  ·have h6:n7=6:=by simpa using h6
   subst h6
   simp-implicitDefEqProofs[]
   refine(fX G 0).use ?_
   simp only[hnx]
   simp-implicitDefEqProofs[]
   exact fin5 _ _ _ _ (by simp) (by simp) (by simp) (by simp) (by simp) (by simp)
  ·exact fin5 _ _ _ _ (by simp) (by simp) (by simp) (by simp) (by simp) (by simp)
 clear tX tF tx0 aX s0 hBl
 rintro⟨q3,T2,x,y⟩ ⟨c1,c2,c3,c4,c5,c6⟩
 simp only at c1 c2 c3 c4 c5 c6
 have k2:∀i,i<T.length→T2[i]?=T[i]?:=fun i hi=>c3.2 i hi (by simp)
 have k1:=c3.1
 have uX:T2[X]?=some (.row 1 [[.sl (fF+1) 3 0 l.length]]):=by rw[k2 X hXl];exact hA.tX
 have uF:T2[fF]?=some (.row 3 rowsF):=by rw[k2 fF lF];exact hA.tF
 have u0:T2[0]?=some (.row 1 [[.nils]]):=by rw[k2 0 lT];exact hA.t0
 have hxc:x.cs.length=5:=x.cs_len
 have lY:=(QX.1 c4).1
 have hR2:∀q',RowOwn true (rdO b q'::T2) (fF+1) 3 rowsF (l1.map Fd.cs) J0:=fun q'=>(Dh (q':=q') hR0 fun i hi=>(hJ0 i hi).1).frame fun i hi=>by
  have h2:=(hJ0 i hi).1
  have hlt:i<T.length+1:=by
   rcases Rt.1 hi with rfl|hi
   ·have:=hR0.lt;simpa using this
   ·have:=hR0.own.lt hi;simpa using this
  obtain⟨k,rfl⟩:∃k,i=k+1:=⟨i-1,by omega⟩
  rw[Rg,Rg,k2 k (by omega)]
 have lF2:fF<T2.length:=by omega
 have vX:∀os,(T2++os)[X]?=some (.row 1 [[.sl (fF+1) 3 0 l.length]]):=fun os=>by rw[QZ (by omega)];exact uX
 have vF:∀os,(T2++os)[fF]?=some (.row 3 rowsF):=fun os=>by rw[QZ (by omega)];exact uF
 have v0:∀os,(T2++os)[0]?=some (.row 1 [[.nils]]):=fun os=>by rw[QZ (by omega)];exact u0
 have vY:∀os,(T2++os)[y]?=some (.row 5 [x.cs.map .p]):=fun os=>by rw[QZ lY];exact c4
 have hF2:=(hJ0 (fF+1) (by simp))
 have fF0:fF≠0:=by omega
 have fFX:fF≠X:=by omega
 have wX:∀os z,((T2++os).set fF z)[X]?=some (.row 1 [[.sl (fF+1) 3 0 l.length]]):=fun os z=>by rw[Ra fFX];exact vX os
 have w0:∀os z,((T2++os).set fF z)[0]?=some (.row 1 [[.nils]]):=fun os z=>by rw[Ra fF0];exact v0 os
 have z0:∀os z w,(((T2++os).set fF z).set 0 w)[0]?=some w:=fun os z w=>Ro (by simp;omega)
 obtain⟨A',B',IB',i1,i2,i3,i4,i5⟩:=tc (GQ (hR2 q3)) hgk
 rw[g1] at i1
 simp only[Option.some.injEq,List.cons.injEq,and_true,true_and] at i1
 obtain⟨rfl,rfl⟩:=i1
 have finB:∀(rows5:List (List AV)) (body':List Sm) (JB5:List Nat) (n5:Nat),n5=body'.length→rows5.length=body'.length→OwnL false (rdO b q3::T2) rows5.flatten (body'.map Sm.cs).flatten JB5→(∀e∈rows5,e.length=5)→JB5.Nodup→(∀j∈JB5,j∈IB')→aq body'≤aq f.body+100→
  DP b (PgQ p 900000000 400500100) (.ret (.agg [.sl (fF+1) 3 0 l.length])) (rdO b q3::(((T2++[AO.dead,AO.dead,AO.dead,AO.row 5 rows5]).set fF (.row 3 (rowsF.set (l.length-1) [.p (.str f.name),A,.sl (T2.length+3+1) 5 0 n5]))).set 0 (.row 1 [[.sl (fF+1) 3 0 l.length]]))):=fun rows5 body' JB5 n5 e0 e1 e2 e3 e4 e5 e6=>by
  subst e0
  have eN:(rdO b q3::(T2++[AO.dead,AO.dead,AO.dead,AO.row 5 rows5]).set fF (.row 3 (rowsF.set (l.length-1) [.p (.str f.name),A,.sl (T2.length+3+1) 5 0 body'.length])))[T2.length+3+1]?=some (.row 5 rows5):=by
   rw[Rg,Ra (by omega),Rl (by omega)];simp
  have eO:OwnL false (rdO b q3::(T2++[AO.dead,AO.dead,AO.dead,AO.row 5 rows5]).set fF (.row 3 (rowsF.set (l.length-1) [.p (.str f.name),A,.sl (T2.length+3+1) 5 0 body'.length]))) rows5.flatten (body'.map Sm.cs).flatten JB5:=e2.frame fun i hi=>by
   have h1:=e2.lt hi
   have h2:=(i4 i (e5 i hi)).2
   cases i with
   |zero=>rfl
   |succ i=>
    rw[Rg,Rg,Ra (by omega),QZ (by simpa using h1)]
  have tree:=OwnL.sl (T2.length+3+1) 5 body'.length rows5 (body'.map Sm.cs) eN (by simp) (by simpa using e1) e3 (fun e he=>by obtain⟨x,_,rfl⟩:=Rp.1 he;simp) eO .nil
  rw[RL] at tree
  have hlt:∀j∈JB5,j<T2.length+1:=fun j hj=>by have:=e2.lt hj;simpa using this
  obtain⟨J',r1,r2⟩:=i5 (rdO b q3::(T2++[AO.dead,AO.dead,AO.dead,AO.row 5 rows5]).set fF (.row 3 (rowsF.set (l.length-1) [.p (.str f.name),A,.sl (T2.length+3+1) 5 0 body'.length]))) _ body' _ (by
   rw[Rg,Ro (by simp;omega)]) (fun j j1 j2 j3=>by
   cases j with
   |zero=>rfl
   |succ j=>
    rw[Rg,Rg,Ra (by omega),QZ (by simpa using j1)]) tree
   (RR.2 ⟨fun hm=>by have:=hlt _ hm;omega,e4⟩) (fun j hj=>by
     rcases Rt.1 hj with rfl|hj
     ·exact .inr (by simp)
     ·exact .inl (e5 j hj))
  have hput:=Au ⟨f.name,f.params,body'⟩ hgk
  have hz':(Fd.mk f.name f.params body').sz=1+f.name.length+(f.params.length+(f.params.map List.length).sum)+aq body':=rfl
  refine endS false q3 _ _ J' _ r1 (fun i hi=>?_) (by simp[hl1]) (by omega) (by omega) (by omega)
  rcases Rt.1 hi with rfl|hi
  ·exact hF2.1
  ·rcases r2 i hi with g|g
   ·exact(hJ0 i (by simp[g])).1
   ·simp at g;omega
 have v0g:∀os (hh:0<(T2++os).length),(T2++os)[0]= .row 1 [[.nils]]:=fun os hh=>(QX.1 (v0 os)).2
 have w0g:∀os z (hh:0<((T2++os).set fF z).length),((T2++os).set fF z)[0]= .row 1 [[.nils]]:=fun os z hh=>(QX.1 (w0 os z)).2
 have z0g:∀os z w (hh:0<(((T2++os).set fF z).set 0 w).length),(((T2++os).set fF z).set 0 w)[0]=w:=fun os z w hh=>(QX.1 (z0 os z w)).2
 rcases i2.inv i3 with⟨h0,_,rfl|rfl⟩|⟨_,rfl,_⟩|⟨idB,rowsB,JB,rfl,rfl,hB⟩
 ·have hb0:f.body.length=0:=by simpa using congrArg List.length h0
  have ha0:at_=0:=by omega
  subst ha0
  simp-implicitDefEqProofs[v0g,w0g,z0g,uX,uF,u0,c4, ↓vX, ↓vF, ↓v0, ↓vY, ↓wX, ↓w0, ↓z0,g1,hxc,mv,Rb (show x.cs.length≤5 by omega)]
  refine finB [x.cs.map .p] [x] [] 1 rfl rfl ?_ (by simp) .nil (by simp) ?_
  ·simpa using oh x.cs
  ·simp[aq];omega
 ·have hb0:f.body.length=0:=by simpa using congrArg List.length h0
  have ha0:at_=0:=by omega
  subst ha0
  simp-implicitDefEqProofs[v0g,w0g,z0g,uX,uF,u0,c4, ↓vX, ↓vF, ↓v0, ↓vY, ↓wX, ↓w0, ↓z0,g1,hxc,mv,Rb (show x.cs.length≤5 by omega)]
  refine finB [x.cs.map .p] [x] [] 1 rfl rfl ?_ (by simp) .nil (by simp) ?_
  ·simpa using oh x.cs
  ·simp[aq];omega
 ·have hD:f.body.map Sm.cs=[]:=by
   cases g2 with
   |p _ hq _=>
    have:=hq rfl
    cases hb:f.body with
    |nil=>rfl
    |cons a r=>rw[hb] at this;simp[smL,HD] at this
  have hb0:f.body.length=0:=by simpa using congrArg List.length hD
  have ha0:at_=0:=by omega
  subst ha0
  rw[hD] at g1
  simp-implicitDefEqProofs[v0g,w0g,z0g,uX,uF,u0,c4, ↓vX, ↓vF, ↓v0, ↓vY, ↓wX, ↓w0, ↓z0,g1,hxc,mv,Rb (show x.cs.length≤5 by omega)]
  refine finB [x.cs.map .p] [x] [] 1 rfl rfl ?_ (by simp) .nil (by simp) ?_
  ·simpa using oh x.cs
  ·simp[aq];omega
 ·have ha5:(fF+1)≠idB:=fun e=>(i4 idB (by simp)).2 e.symm
  have hid2:=(hJ0 idB (by simp[(i4 idB (by simp)).1]))
  obtain⟨fB,rfl⟩:∃fB,idB=fB+1:=⟨idB-1,by omega⟩
  rw[Rs] at*
  have uB:T2[fB]?=some (.row 5 rowsB):=by have:=hB.here;simpa using this
  have lB:=(QX.1 uB).1
  have hrl:rowsB.length=f.body.length:=by have:=hB.len;simpa using this
  have vB:∀os,(T2++os)[fB]?=some (.row 5 rowsB):=fun os=>by rw[QZ (by omega)];exact uB
  simp-implicitDefEqProofs[v0g,w0g,z0g,uX,uF,u0,uB,c4, ↓vX, ↓vF, ↓v0, ↓vY, ↓vB, ↓wX, ↓w0, ↓z0,g1,hxc,mv,hat2,hrl,Rb (show x.cs.length≤5 by omega)]
  refine⟨⟨by omega,by omega⟩,⟨by omega,by omega⟩,⟨by omega,by omega⟩,?_⟩
  have q1:List.take (at_+1) (List.take at_ (List.take at_ rowsB)++[List.map AV.p x.cs])=rowsB.take at_++[x.cs.map .p]:=by
   rw[List.take_take,Nat.min_self,Rb (by simp;omega)]
  have q2:List.take (f.body.length-at_) (List.drop at_ rowsB)=rowsB.drop at_:=Rb (by simp[hrl])
  rw[q1,q2]
  have o1:=hB.own
  rw[←RF at_ rowsB,←RF at_ (f.body.map Sm.cs),RW,RW] at o1
  have hl5:((rowsB.take at_).flatten).length=(((f.body.map Sm.cs).take at_).flatten).length:=by
   rw[oe (sz:=5) (fun e he=>hB.rl e (RN he)),oe (sz:=5) (fun e he=>hB.dl e (RN he))]
   simp[hrl]
  obtain⟨Ia,Ib,hIab,o2,o3⟩:=OwnL.split o1 hl5
  have o4:=o2.app ((oh (h:=rdO b q3::T2) x.cs).app o3)
  rw[List.nil_append,←hIab] at o4
  have nB:=hB.nd
  rw[RR] at nB
  refine finB _ (f.body.take at_++x::f.body.drop at_) JB _ (by simp;omega) (by simp[hrl]) ?_ ?_ nB.2 (fun j hj=>by simp[hj]) ?_
  ·simpa[RW,List.map_take,List.map_drop] using o4
  ·intro e he
   simp only[Rf,Ri] at he
   rcases he with(he|he)|he
   ·exact hB.rl e (RN he)
   ·rw[he];simp
   ·exact hB.rl e (List.mem_of_mem_drop he)
  ·have e1:aq f.body=aq (f.body.take at_)+aq (f.body.drop at_):=by rw[←bJ,RF]
   rw[bJ,aq]
   omega
end
section
def K_spec_l6Part:AK:= .seq (.reg [oJ 1 (.box 4 (.t 0)),oJ 2 (.alloc [(.p (.int .i64 0)),(.p (.int .i64 0)),(.p (.str [])),.nils])]) (.seq (.seq (.reg [oF 8 3 1,oL 9 8,oJ 10 (.len false (.t 9)),oJ 11 (.bin .eql (.t 10) (.c (.p (.int .i64 1)))),oM 12 11,⟨(some 13),some (12,true),.fldA 0 (.t 1)⟩,⟨(some 14),some (12,true),.ld none (.t 13)⟩,⟨(some 15),some (12,true),.bin .eql (.t 14) (.c (.p (.int .i64 11)))⟩,oJ 16 (.pick (.t 12) (.t 15) (.c (.p (.bool false))))]) (.cond (.t 16) (.seq (.reg [oF 17 3 1,oL 18 17,oJ 19 (.idxS 4 (.t 18) (.c (.p (.int .i64 0)))),oJ 20 (.ld (some 4) (.t 19)),oJ 3 (.alloc [(.p (.int .i64 0)),(.p (.int .i64 0)),(.p (.str [])),.nils]),⟨none,none,.st 4 (.t 3) (.t 20)⟩]) (.seq (.seq (.reg [oF 21 0 3,oL 22 21,oJ 23 (.bin .eql (.t 22) (.c (.p (.int .i64 1))))]) (.cond (.t 23) (.seq (.reg [oF 24 1 3,oL 25 24,oJ 26 (.bin .eql (.t 25) (.c (.p (.int .i64 0)))),oJ 27 (.call cR [(.t 26)]),oJ 28 (.call aZ [(.t 27)]),⟨none,none,.st 4 (.t 2) (.t 28)⟩]) (.ret)) (.skip))) (.seq (.seq (.reg [oF 29 0 3,oL 30 29,oJ 31 (.bin .eql (.t 30) (.c (.p (.int .i64 11)))),oM 32 31,⟨(some 33),some (32,true),.fldA 3 (.t 3)⟩,⟨(some 34),some (32,true),.ld none (.t 33)⟩,⟨(some 35),some (32,true),.idxS 4 (.t 34) (.c (.p (.int .i64 0)))⟩,⟨(some 36),some (32,true),.fldA 0 (.t 35)⟩,⟨(some 37),some (32,true),.ld none (.t 36)⟩,⟨(some 38),some (32,true),.bin .eql (.t 37) (.c (.p (.int .i64 11)))⟩,oJ 39 (.pick (.t 32) (.t 38) (.c (.p (.bool false))))]) (.cond (.t 39) (.seq (.reg [oF 40 3 3,oL 41 40,oJ 42 (.idxS 4 (.t 41) (.c (.p (.int .i64 0)))),oJ 43 (.ld (some 4) (.t 42)),⟨none,none,.st 4 (.t 2) (.t 43)⟩]) (.ret)) (.skip))) (.seq (.reg [oJ 44 (.ld (some 4) (.t 1)),⟨none,none,.st 4 (.t 2) (.t 44)⟩]) (.ret))))) (.skip))) (.seq (.seq (.reg [oF 45 0 1,oL 46 45,oJ 47 (.call cb [(.t 46),(.c (.p (.int .i64 3))),(.c (.p (.int .i64 10)))]),oJ 48 (.not (.t 47))]) (.cond (.t 48) (.seq (.reg [oJ 49 (.ld (some 4) (.t 1)),⟨none,none,.st 4 (.t 2) (.t 49)⟩]) (.ret)) (.skip))) (.seq (.reg [oF 50 3 1,oL 51 50,oJ 52 (.idxS 4 (.t 51) (.c (.p (.int .i64 0)))),oJ 53 (.ld (some 4) (.t 52)),oJ 4 (.alloc [(.p (.int .i64 0)),(.p (.int .i64 0)),(.p (.str [])),.nils]),⟨none,none,.st 4 (.t 4) (.t 53)⟩]) (.seq (.reg [oF 54 3 1,oL 55 54,oJ 56 (.idxS 4 (.t 55) (.c (.p (.int .i64 1)))),oJ 57 (.ld (some 4) (.t 56)),oJ 5 (.alloc [(.p (.int .i64 0)),(.p (.int .i64 0)),(.p (.str [])),.nils]),⟨none,none,.st 4 (.t 5) (.t 57)⟩]) (.cut (.seq (.reg [oF 58 0 4,oL 59 58,oJ 60 (.bin .eql (.t 59) (.c (.p (.int .i64 1)))),oM 61 60,⟨(some 62),some (61,true),.fldA 0 (.t 5)⟩,⟨(some 63),some (61,true),.ld none (.t 62)⟩,⟨(some 64),some (61,true),.bin .eql (.t 63) (.c (.p (.int .i64 1)))⟩,oJ 65 (.pick (.t 61) (.t 64) (.c (.p (.bool false))))]) (.cond (.t 65) (.seq (.reg [oJ 67 (.ld (some 4) (.t 1)),oJ 68 (.call ec [(.t 67),(.c .nils),(.c .nils)]),oM 66 68,oJ 69 (.ext 0 (.t 66)),oJ 70 (.ext 1 (.t 66)),oM 6 69,oM 7 70]) (.seq (.reg [oM 71 7,oJ 72 (.bin .eql (.t 71) (.c (.p (.int .i64 0))))]) (.cond (.t 72) (.seq (.reg [oM 73 6,oJ 74 (.call aZ [(.t 73)]),⟨none,none,.st 4 (.t 2) (.t 74)⟩]) (.ret)) (.skip)))) (.skip))) (.seq (.blk 0 (.seq (.reg [oF 76 0 1,oL 77 76,oJ 78 (.bin .eql (.t 77) (.c (.p (.int .i64 10)))),oM 79 78,⟨(some 80),some (79,true),.ld (some 4) (.t 4)⟩,⟨(some 81),some (79,true),.call br [(.t 80),(.c (.p (.int .i64 0)))]⟩,oJ 82 (.pick (.t 79) (.t 81) (.c (.p (.bool false)))),oM 75 82]) (.cond (.t 75) (.seq (.reg [oJ 83 (.call aZ [(.c (.p (.int .i64 0)))]),⟨none,none,.st 4 (.t 2) (.t 83)⟩]) (.ret)) (.seq (.seq (.reg [oJ 85 (.ld (some 4) (.t 5)),oJ 86 (.call br [(.t 85),(.c (.p (.int .i64 0)))]),oM 87 86,⟨(some 88),some (87,true),.fldA 0 (.t 1)⟩,⟨(some 89),some (87,true),.ld none (.t 88)⟩,⟨(some 90),some (87,true),.bin .eql (.t 89) (.c (.p (.int .i64 3)))⟩,⟨(some 91),some (87,true),.mov (.t 90)⟩,⟨(some 92),some (91,false),.fldA 0 (.t 1)⟩,⟨(some 93),some (91,false),.ld none (.t 92)⟩,⟨(some 94),some (91,false),.bin .eql (.t 93) (.c (.p (.int .i64 4)))⟩,⟨(some 95),some (87,true),.pick (.t 91) (.c (.p (.bool true))) (.t 94)⟩,oJ 96 (.pick (.t 87) (.t 95) (.c (.p (.bool false)))),oM 84 96]) (.cond (.t 84) (.skip) (.reg [oJ 97 (.ld (some 4) (.t 5)),oJ 98 (.call br [(.t 97),(.c (.p (.int .i64 1)))]),oM 99 98,⟨(some 100),some (99,true),.fldA 0 (.t 1)⟩,⟨(some 101),some (99,true),.ld none (.t 100)⟩,⟨(some 102),some (99,true),.bin .eql (.t 101) (.c (.p (.int .i64 5)))⟩,⟨(some 103),some (99,true),.mov (.t 102)⟩,⟨(some 104),some (103,false),.fldA 0 (.t 1)⟩,⟨(some 105),some (103,false),.ld none (.t 104)⟩,⟨(some 106),some (103,false),.bin .eql (.t 105) (.c (.p (.int .i64 6)))⟩,⟨(some 107),some (99,true),.pick (.t 103) (.c (.p (.bool true))) (.t 106)⟩,oJ 108 (.pick (.t 99) (.t 107) (.c (.p (.bool false)))),oM 84 108]))) (.cond (.t 84) (.seq (.reg [oJ 109 (.ld (some 4) (.t 4)),⟨none,none,.st 4 (.t 2) (.t 109)⟩]) (.ret)) (.seq (.seq (.reg [oJ 111 (.ld (some 4) (.t 4)),oJ 112 (.call br [(.t 111),(.c (.p (.int .i64 0)))]),oM 113 112,⟨(some 114),some (113,true),.fldA 0 (.t 1)⟩,⟨(some 115),some (113,true),.ld none (.t 114)⟩,⟨(some 116),some (113,true),.bin .eql (.t 115) (.c (.p (.int .i64 3)))⟩,oJ 117 (.pick (.t 113) (.t 116) (.c (.p (.bool false)))),oM 110 117]) (.cond (.t 110) (.skip) (.reg [oJ 118 (.ld (some 4) (.t 4)),oJ 119 (.call br [(.t 118),(.c (.p (.int .i64 1)))]),oM 120 119,⟨(some 121),some (120,true),.fldA 0 (.t 1)⟩,⟨(some 122),some (120,true),.ld none (.t 121)⟩,⟨(some 123),some (120,true),.bin .eql (.t 122) (.c (.p (.int .i64 5)))⟩,oJ 124 (.pick (.t 120) (.t 123) (.c (.p (.bool false)))),oM 110 124]))) (.cond (.t 110) (.seq (.reg [oJ 125 (.ld (some 4) (.t 5)),⟨none,none,.st 4 (.t 2) (.t 125)⟩]) (.ret)) (.seq (.reg [oF 127 0 1,oL 128 127,oJ 129 (.bin .eql (.t 128) (.c (.p (.int .i64 5)))),oM 130 129,⟨(some 131),some (130,true),.ld (some 4) (.t 5)⟩,⟨(some 132),some (130,true),.call br [(.t 131),(.c (.p (.int .i64 0)))]⟩,⟨(some 133),some (130,true),.mov (.t 132)⟩,⟨(some 134),some (133,true),.ld (some 4) (.t 4)⟩,⟨(some 135),some (133,true),.call dv [(.t 134)]⟩,⟨(some 136),some (130,true),.pick (.t 133) (.t 135) (.c (.p (.bool false)))⟩,⟨(some 137),some (130,true),.mov (.t 136)⟩,⟨(some 138),some (137,false),.ld (some 4) (.t 4)⟩,⟨(some 139),some (137,false),.call br [(.t 138),(.c (.p (.int .i64 0)))]⟩,⟨(some 140),some (137,false),.mov (.t 139)⟩,⟨(some 141),some (140,true),.ld (some 4) (.t 5)⟩,⟨(some 142),some (140,true),.call dv [(.t 141)]⟩,⟨(some 143),some (137,false),.pick (.t 140) (.t 142) (.c (.p (.bool false)))⟩,⟨(some 144),some (130,true),.pick (.t 137) (.c (.p (.bool true))) (.t 143)⟩,oJ 145 (.pick (.t 130) (.t 144) (.c (.p (.bool false)))),oM 126 145]) (.cond (.t 126) (.seq (.reg [oJ 146 (.call aZ [(.c (.p (.int .i64 0)))]),⟨none,none,.st 4 (.t 2) (.t 146)⟩]) (.ret)) (.skip)))))))))) (.seq (.reg [oJ 147 (.ld (some 4) (.t 1)),⟨none,none,.st 4 (.t 2) (.t 147)⟩]) (.ret))))))))
theorem yq:K_spec_l6Part.whole=F_spec_l6Part.ak:=rfl
variable (G:aJ)
theorem tC(e:Ex)(h:e.op=1):VF Tryz.prog G ec [.agg (e.cs.map .p),.nils,.nils] (.tup [.p (.int .i64 e.n),.p (.int .i64 0)]):=by
 have hc:=e.cs_eq
 refine AC.go qu ?_
 simp-implicitDefEqProofs[mf,hc,h]
theorem Gk(e a b:Ex)(hk:e.kids=[a,b])(ha:a.op=1)(hb:b.op=1)(h3:3≤e.op)(h10:e.op≤10)(va:V5 a.n)(vb:V5 b.n):VF Tryz.prog G ec [.agg (e.cs.map .p),.nils,.nils] (qh (ar5 e.op a.n b.n)):=by
 have hc:=e.cs_eq
 refine AC.go qu ?_
 have hxl:∀l,exL l= .lst 4 (l.map Ex.cs):=fun _=>rfl
 have o1:¬e.op=1:=by omega
 have o2:¬e.op=2:=by omega
 have o11:¬e.op=11:=by omega
 simp-implicitDefEqProofs[mf,hc,o1,o2,hxl,hk]
 refine(tC G a ha).use ?_
 simp-implicitDefEqProofs[o11]
 by_cases o10:e.op=10
 ·by_cases a0:a.n=0
  ·simp-implicitDefEqProofs[o10,a0,ar5,qh,tr5]
  ·simp-implicitDefEqProofs[o10,a0]
   refine(tC G b hb).use ?_
   simp-implicitDefEqProofs[o10]
   refine(pL G _).use ?_
   simp-implicitDefEqProofs[ar5,qh,a0]
 ·simp-implicitDefEqProofs[o10]
  refine(tC G b hb).use ?_
  simp-implicitDefEqProofs[o10]
  have H:=Lg G e.op a.n b.n h3 (by omega) va vb
  rw[ar5,if_neg o10]
  cases hq:DC e.op a.n b.n with
  |none=>
   rw[hq] at H
   simp only[qh] at H
   refine H.use ?_
   simp-implicitDefEqProofs[qh]
  |some q=>
   rw[hq] at H
   simp only[qh] at H
   refine H.use ?_
   simp-implicitDefEqProofs[qh]
theorem Jc{d:Nat}{e:Ex}(hf:bp d e=true)(hz:e.sz≤1099511627776):VF Tryz.prog G gy [.agg (e.cs.map .p)] (.agg ((eK e.op e.n e.name e.kids).cs.map .p)):=by
 have hc:=e.cs_eq
 have hxl:∀l,exL l= .lst 4 (l.map Ex.cs):=fun _=>rfl
 have hem:e= .mk e.op e.n e.name e.kids:=by cases e;rfl
 have hzz:=e.sz_eq
 obtain⟨d,rfl⟩:=pA hf
 have hkf:∀a∈e.kids,bp d a=true:=fun a ha=>fS hf ha
 have hks:∀a∈e.kids,a.sz≤1099511627776:=fun a ha=>by have:=aS ha;omega
 have hnc:∀q,(cf q).cs=[.int .i64 1,.int .i64 q,.str [],.lst 4 []]:=fun q=>rfl
 refine AC.goK xV yq ?_
 by_cases o11:e.op=11
 ·obtain⟨l1,l2,_⟩:=eG hf
  rw[o11] at l1 l2
  have e1:loK 11=1:=rfl
  have e2:hiK 11=1:=rfl
  rw[e1] at l1
  rw[e2] at l2
  obtain⟨a,hk⟩:∃a,e.kids=[a]:=by
   match hx:e.kids,l1,l2 with
   |[x],_,_=>exact⟨x,rfl⟩
  have hac:=a.cs_eq
  have hp:eK e.op e.n e.name e.kids=ke e.op e.n e.name a:=by
   unfold eK
   rw[if_neg (by omega),hk]
  rw[hp]
  by_cases a1:a.op=1
  ·rw[ke,if_pos a1]
   simp-implicitDefEqProofs[K_spec_l6Part,F_spec_l6Part,hc,o11,hk,hxl,hac,a1]
   refine(pL G _).use ?_
   simp-implicitDefEqProofs[]
   refine(fX G _).use ?_
   simp-implicitDefEqProofs[hnc]
  ·have same:(∀c,a.kids=[c]→¬(e.op=11∧a.op=11∧c.op=11))→ke e.op e.n e.name a=e:=by
    intro h
    have h0:Ex.mk e.op e.n e.name [a]=e:=by rw[←hk];exact hem.symm
    unfold ke
    rw[if_neg a1]
    split
    ·rename_i c hc'
     split
     ·rename_i h3
      exact(h c hc' ⟨o11,h3⟩).elim
     ·exact h0
    ·exact h0
   by_cases a11:a.op=11
   ·have haf:=hkf a (by rw[hk];simp)
    obtain⟨l1,l2,_⟩:=eG haf
    rw[a11,e1] at l1
    rw[a11,e2] at l2
    obtain⟨c,hkc⟩:∃c,a.kids=[c]:=by
     match hx:a.kids,l1,l2 with
     |[x],_,_=>exact⟨x,rfl⟩
    have hcc:=c.cs_eq
    by_cases c11:c.op=11
    ·have hq:ke e.op e.n e.name a=c:=by
      unfold ke
      rw[if_neg a1,hkc]
      exact if_pos ⟨a11,c11⟩
     rw[hq]
     simp-implicitDefEqProofs[K_spec_l6Part,F_spec_l6Part,hc,o11,hk,hxl,hac,a11,hkc,hcc,c11]
    ·rw[same (fun x hx h=>by rw[hkc] at hx;cases hx;exact c11 h.2.2)]
     simp-implicitDefEqProofs[K_spec_l6Part,F_spec_l6Part,hc,o11,hk,hxl,hac,a11,hkc,hcc,c11]
   ·rw[same (fun x hx h=>a11 h.2.1)]
    simp-implicitDefEqProofs[K_spec_l6Part,F_spec_l6Part,hc,o11,hk,hxl,hac,a1,a11]
 by_cases hr:3≤e.op∧e.op≤10
 case neg=>
  have hp:eK e.op e.n e.name e.kids=e:=by
   obtain⟨_,_,l3,l4⟩:=eG hf
   unfold eK
   split
   ·exact hem.symm
   ·rename_i hn
    split
    ·rename_i a hk
     exact(o11 (Lh hf hk hn)).elim
    ·rename_i a b hk
     exact(hr (Ai hf hk hn)).elim
    ·exact hem.symm
  have hin:inR e.op 3 10=false:=by
   simp only[inR,Bool.and_eq_false_iff,decide_eq_false_iff_not];omega
  rw[hp]
  by_cases hl:e.kids.length=1
  ·simp-implicitDefEqProofs[K_spec_l6Part,F_spec_l6Part,hc,o11,hxl,hl]
   refine(oT G _ _ _).use ?_
   simp-implicitDefEqProofs[hin]
  ·have hl':¬(e.kids.length:Int)=1:=by omega
   simp-implicitDefEqProofs[K_spec_l6Part,F_spec_l6Part,hc,o11,hxl,hl']
   refine(oT G _ _ _).use ?_
   simp-implicitDefEqProofs[hin]
 obtain⟨h3,h10⟩:=hr
 obtain⟨a,b,hk⟩:∃a b,e.kids=[a,b]:=by
  obtain⟨l1,l2,_⟩:=eG hf
  have e1:loK e.op=2:=by rw[loK,if_neg (by omega),if_neg (by omega),if_neg (by omega)]
  have e2:hiK e.op=2:=by rw[hiK,if_neg (by omega),if_neg (by omega),if_neg (by omega)]
  rw[e1] at l1
  rw[e2] at l2
  match hx:e.kids,l1,l2 with
  |[a,b],_,_=>exact⟨a,b,rfl⟩
 have hac:=a.cs_eq
 have hbc:=b.cs_eq
 have haf:=hkf a (by rw[hk];simp)
 have hbf:=hkf b (by rw[hk];simp)
 have hp:eK e.op e.n e.name e.kids=mU e.op e.n e.name a b:=by
  unfold eK
  rw[if_neg (by omega),hk]
 have hin:inR e.op 3 10=true:=by
  simp only[inR,Rh,decide_eq_true_eq];omega
 rw[hp]
 simp-implicitDefEqProofs[K_spec_l6Part,F_spec_l6Part,hc,o11,hk,hxl]
 refine(oT G _ _ _).use ?_
 simp-implicitDefEqProofs[hin,hac,hbc]
 have HA0:=vZ G a 0
 have HA1:=vZ G a 1
 have HB0:=vZ G b 0
 have HB1:=vZ G b 1
 have HSA:=Ce G d a haf (hks a (by rw[hk];simp))
 have HSB:=Ce G d b hbf (hks b (by rw[hk];simp))
 rw[hac] at HA0 HA1 HSA
 rw[hbc] at HB0 HB1 HSB
 simp only[Rw,List.map_nil] at HA0 HA1 HB0 HB1 HSA HSB
 refine nZ (fun _:Unit=>am 148 [(1,.ptr 0 4 0 0),(2,.ptr 1 4 0 0),(4,.ptr 2 4 0 0),(5,.ptr 3 4 0 0)])
  (fun _=>[.row 4 [[.p (.int .i64 e.op),.p (.int .i64 e.n),.p (.str e.name),.p (.lst 4 [a.cs,b.cs])]],.row 4 [[.p (.int .i64 0),.p (.int .i64 0),.p (.str []),.nils]],.row 4 [[.p (.int .i64 a.op),.p (.int .i64 a.n),.p (.str a.name),.p (exL a.kids)]],.row 4 [[.p (.int .i64 b.op),.p (.int .i64 b.n),.p (.str b.name),.p (exL b.kids)]]])
  (fun _=>(if a.op=1∧b.op=1 then ar5 e.op a.n b.n else none)=none) ?_ ?_
 ·
  by_cases a1:a.op=1
  ·by_cases b1:b.op=1
   ·have H:=Gk G e a b hk a1 b1 h3 h10 (sq (iZ haf)) (sq (iZ hbf))
    rw[hc,hxl,hk] at H
    simp only[Rw,List.map_nil,hac,hbc,a1,b1] at H
    have hp2:∀q,ar5 e.op a.n b.n=some q→mU e.op e.n e.name a b=cf q:=by
     intro q hq
     unfold mU
     rw[if_pos ⟨a1,b1⟩,hq]
    cases hq:ar5 e.op a.n b.n with
    |none=>
     rw[hq] at H
     simp only[qh] at H
     simp-implicitDefEqProofs[a1,b1,hac,hbc]
     refine H.use ?_
     simp-implicitDefEqProofs[hq]
     exact ae (by simp) (by simp[okO,below]) (by simp[below])
    |some q=>
     rw[hq] at H
     simp only[qh] at H
     rw[hp2 q hq]
     simp-implicitDefEqProofs[a1,b1,hac,hbc]
     refine H.use ?_
     simp-implicitDefEqProofs[]
     refine(fX G _).use ?_
     simp-implicitDefEqProofs[hnc]
   ·simp-implicitDefEqProofs[a1,b1,hac,hbc]
    exact ae (by simp) (by simp[okO,below]) (by simp[below])
  ·simp-implicitDefEqProofs[a1,hac,hbc]
   exact ae (by simp) (by simp[okO,below]) (by simp[below])
 intro _ hn
 have hp2:mU e.op e.n e.name a b=if e.op=10∧isN a 0=true then cf 0 else if(e.op=3∨e.op=4)∧isN b 0=true∨(e.op=5∨e.op=6)∧isN b 1=true then a else if e.op=3∧isN a 0=true∨e.op=5∧isN a 1=true then b
  else if e.op=5∧(isN b 0=true∧eA a=true∨isN a 0=true∧eA b=true) then cf 0 else e:=by
  unfold mU
  rw[hn]
  simp only
  rw[←hk,←hem]
 rw[hp2]
 simp only[hac,hbc]
 have ho:e.op=3∨e.op=4∨e.op=5∨e.op=6∨e.op=7∨e.op=8∨e.op=9∨e.op=10:=by omega
 rcases ho with ho|ho|ho|ho|ho|ho|ho|ho
 ·simp-implicitDefEqProofs[ho]
  refine HB0.use ?_
  by_cases hhb0:isN b 0=true
  ·simp-implicitDefEqProofs[hhb0,ho,hc,hxl,hk,hac,hbc]
  ·simp-implicitDefEqProofs[hhb0,ho,hc,hxl,hk,hac,hbc]
   refine HB1.use ?_
   by_cases hhb1:isN b 1=true
   ·simp-implicitDefEqProofs[hhb1,ho,hc,hxl,hk,hac,hbc]
    refine HA0.use ?_
    by_cases hha0:isN a 0=true
    ·simp-implicitDefEqProofs[hha0,ho,hc,hxl,hk,hac,hbc]
    ·simp-implicitDefEqProofs[hha0,ho,hc,hxl,hk,hac,hbc]
     refine HA1.use ?_
     by_cases hha1:isN a 1=true
     ·simp-implicitDefEqProofs[hha1,ho,hc,hxl,hk,hac,hbc]
     ·simp-implicitDefEqProofs[hha1,ho,hc,hxl,hk,hac,hbc]
   ·simp-implicitDefEqProofs[hhb1,ho,hc,hxl,hk,hac,hbc]
    refine HA0.use ?_
    by_cases hha0:isN a 0=true
    ·simp-implicitDefEqProofs[hha0,ho,hc,hxl,hk,hac,hbc]
    ·simp-implicitDefEqProofs[hha0,ho,hc,hxl,hk,hac,hbc]
     refine HA1.use ?_
     by_cases hha1:isN a 1=true
     ·simp-implicitDefEqProofs[hha1,ho,hc,hxl,hk,hac,hbc]
     ·simp-implicitDefEqProofs[hha1,ho,hc,hxl,hk,hac,hbc]
 ·simp-implicitDefEqProofs[ho]
  refine HB0.use ?_
  by_cases hhb0:isN b 0=true
  ·simp-implicitDefEqProofs[hhb0,ho,hc,hxl,hk,hac,hbc]
  ·simp-implicitDefEqProofs[hhb0,ho,hc,hxl,hk,hac,hbc]
   refine HB1.use ?_
   by_cases hhb1:isN b 1=true
   ·simp-implicitDefEqProofs[hhb1,ho,hc,hxl,hk,hac,hbc]
    refine HA0.use ?_
    by_cases hha0:isN a 0=true
    ·simp-implicitDefEqProofs[hha0,ho,hc,hxl,hk,hac,hbc]
     refine HA1.use ?_
     by_cases hha1:isN a 1=true
     ·simp-implicitDefEqProofs[hha1,ho,hc,hxl,hk,hac,hbc]
     ·simp-implicitDefEqProofs[hha1,ho,hc,hxl,hk,hac,hbc]
    ·simp-implicitDefEqProofs[hha0,ho,hc,hxl,hk,hac,hbc]
     refine HA1.use ?_
     by_cases hha1:isN a 1=true
     ·simp-implicitDefEqProofs[hha1,ho,hc,hxl,hk,hac,hbc]
     ·simp-implicitDefEqProofs[hha1,ho,hc,hxl,hk,hac,hbc]
   ·simp-implicitDefEqProofs[hhb1,ho,hc,hxl,hk,hac,hbc]
    refine HA0.use ?_
    by_cases hha0:isN a 0=true
    ·simp-implicitDefEqProofs[hha0,ho,hc,hxl,hk,hac,hbc]
     refine HA1.use ?_
     by_cases hha1:isN a 1=true
     ·simp-implicitDefEqProofs[hha1,ho,hc,hxl,hk,hac,hbc]
     ·simp-implicitDefEqProofs[hha1,ho,hc,hxl,hk,hac,hbc]
    ·simp-implicitDefEqProofs[hha0,ho,hc,hxl,hk,hac,hbc]
     refine HA1.use ?_
     by_cases hha1:isN a 1=true
     ·simp-implicitDefEqProofs[hha1,ho,hc,hxl,hk,hac,hbc]
     ·simp-implicitDefEqProofs[hha1,ho,hc,hxl,hk,hac,hbc]
 ·simp-implicitDefEqProofs[ho]
  refine HB0.use ?_
  by_cases hhb0:isN b 0=true
  ·simp-implicitDefEqProofs[hhb0,ho,hc,hxl,hk,hac,hbc]
   refine HB1.use ?_
   by_cases hhb1:isN b 1=true
   ·simp-implicitDefEqProofs[hhb1,ho,hc,hxl,hk,hac,hbc]
   ·simp-implicitDefEqProofs[hhb1,ho,hc,hxl,hk,hac,hbc]
    refine HA0.use ?_
    by_cases hha0:isN a 0=true
    ·simp-implicitDefEqProofs[hha0,ho,hc,hxl,hk,hac,hbc]
     refine HA1.use ?_
     by_cases hha1:isN a 1=true
     ·simp-implicitDefEqProofs[hha1,ho,hc,hxl,hk,hac,hbc]
     ·simp-implicitDefEqProofs[hha1,ho,hc,hxl,hk,hac,hbc]
      refine HB0.use ?_
      simp-implicitDefEqProofs[hhb0]
      refine HSA.use ?_
      by_cases hhsa:eA a=true
      ·simp-implicitDefEqProofs[hhsa,ho,hc,hxl,hk,hac,hbc]
       refine(fX G _).use ?_
       simp-implicitDefEqProofs[hnc]
      ·simp-implicitDefEqProofs[hhsa,ho,hc,hxl,hk,hac,hbc]
       refine HA0.use ?_
       simp-implicitDefEqProofs[hha0]
       refine HSB.use ?_
       by_cases hhsb:eA b=true
       ·simp-implicitDefEqProofs[hhsb,ho,hc,hxl,hk,hac,hbc]
        refine(fX G _).use ?_
        simp-implicitDefEqProofs[hnc]
       ·simp-implicitDefEqProofs[hhsb,ho,hc,hxl,hk,hac,hbc]
    ·simp-implicitDefEqProofs[hha0,ho,hc,hxl,hk,hac,hbc]
     refine HA1.use ?_
     by_cases hha1:isN a 1=true
     ·simp-implicitDefEqProofs[hha1,ho,hc,hxl,hk,hac,hbc]
     ·simp-implicitDefEqProofs[hha1,ho,hc,hxl,hk,hac,hbc]
      refine HB0.use ?_
      simp-implicitDefEqProofs[hhb0]
      refine HSA.use ?_
      by_cases hhsa:eA a=true
      ·simp-implicitDefEqProofs[hhsa,ho,hc,hxl,hk,hac,hbc]
       refine(fX G _).use ?_
       simp-implicitDefEqProofs[hnc]
      ·simp-implicitDefEqProofs[hhsa,ho,hc,hxl,hk,hac,hbc]
       refine HA0.use ?_
       simp-implicitDefEqProofs[hha0]
  ·simp-implicitDefEqProofs[hhb0,ho,hc,hxl,hk,hac,hbc]
   refine HB1.use ?_
   by_cases hhb1:isN b 1=true
   ·simp-implicitDefEqProofs[hhb1,ho,hc,hxl,hk,hac,hbc]
   ·simp-implicitDefEqProofs[hhb1,ho,hc,hxl,hk,hac,hbc]
    refine HA0.use ?_
    by_cases hha0:isN a 0=true
    ·simp-implicitDefEqProofs[hha0,ho,hc,hxl,hk,hac,hbc]
     refine HA1.use ?_
     by_cases hha1:isN a 1=true
     ·simp-implicitDefEqProofs[hha1,ho,hc,hxl,hk,hac,hbc]
     ·simp-implicitDefEqProofs[hha1,ho,hc,hxl,hk,hac,hbc]
      refine HB0.use ?_
      simp-implicitDefEqProofs[hhb0]
      refine HA0.use ?_
      simp-implicitDefEqProofs[hha0]
      refine HSB.use ?_
      by_cases hhsb:eA b=true
      ·simp-implicitDefEqProofs[hhsb,ho,hc,hxl,hk,hac,hbc]
       refine(fX G _).use ?_
       simp-implicitDefEqProofs[hnc]
      ·simp-implicitDefEqProofs[hhsb,ho,hc,hxl,hk,hac,hbc]
    ·simp-implicitDefEqProofs[hha0,ho,hc,hxl,hk,hac,hbc]
     refine HA1.use ?_
     by_cases hha1:isN a 1=true
     ·simp-implicitDefEqProofs[hha1,ho,hc,hxl,hk,hac,hbc]
     ·simp-implicitDefEqProofs[hha1,ho,hc,hxl,hk,hac,hbc]
      refine HB0.use ?_
      simp-implicitDefEqProofs[hhb0]
      refine HA0.use ?_
      simp-implicitDefEqProofs[hha0]
 ·simp-implicitDefEqProofs[ho]
  refine HB0.use ?_
  by_cases hhb0:isN b 0=true
  ·simp-implicitDefEqProofs[hhb0,ho,hc,hxl,hk,hac,hbc]
   refine HB1.use ?_
   by_cases hhb1:isN b 1=true
   ·simp-implicitDefEqProofs[hhb1,ho,hc,hxl,hk,hac,hbc]
   ·simp-implicitDefEqProofs[hhb1,ho,hc,hxl,hk,hac,hbc]
    refine HA0.use ?_
    by_cases hha0:isN a 0=true
    ·simp-implicitDefEqProofs[hha0,ho,hc,hxl,hk,hac,hbc]
     refine HA1.use ?_
     by_cases hha1:isN a 1=true
     ·simp-implicitDefEqProofs[hha1,ho,hc,hxl,hk,hac,hbc]
     ·simp-implicitDefEqProofs[hha1,ho,hc,hxl,hk,hac,hbc]
    ·simp-implicitDefEqProofs[hha0,ho,hc,hxl,hk,hac,hbc]
     refine HA1.use ?_
     by_cases hha1:isN a 1=true
     ·simp-implicitDefEqProofs[hha1,ho,hc,hxl,hk,hac,hbc]
     ·simp-implicitDefEqProofs[hha1,ho,hc,hxl,hk,hac,hbc]
  ·simp-implicitDefEqProofs[hhb0,ho,hc,hxl,hk,hac,hbc]
   refine HB1.use ?_
   by_cases hhb1:isN b 1=true
   ·simp-implicitDefEqProofs[hhb1,ho,hc,hxl,hk,hac,hbc]
   ·simp-implicitDefEqProofs[hhb1,ho,hc,hxl,hk,hac,hbc]
    refine HA0.use ?_
    by_cases hha0:isN a 0=true
    ·simp-implicitDefEqProofs[hha0,ho,hc,hxl,hk,hac,hbc]
     refine HA1.use ?_
     by_cases hha1:isN a 1=true
     ·simp-implicitDefEqProofs[hha1,ho,hc,hxl,hk,hac,hbc]
     ·simp-implicitDefEqProofs[hha1,ho,hc,hxl,hk,hac,hbc]
    ·simp-implicitDefEqProofs[hha0,ho,hc,hxl,hk,hac,hbc]
     refine HA1.use ?_
     by_cases hha1:isN a 1=true
     ·simp-implicitDefEqProofs[hha1,ho,hc,hxl,hk,hac,hbc]
     ·simp-implicitDefEqProofs[hha1,ho,hc,hxl,hk,hac,hbc]
 ·simp-implicitDefEqProofs[ho]
  refine HB0.use ?_
  by_cases hhb0:isN b 0=true
  ·simp-implicitDefEqProofs[hhb0,ho,hc,hxl,hk,hac,hbc]
   refine HB1.use ?_
   by_cases hhb1:isN b 1=true
   ·simp-implicitDefEqProofs[hhb1,ho,hc,hxl,hk,hac,hbc]
    refine HA0.use ?_
    by_cases hha0:isN a 0=true
    ·simp-implicitDefEqProofs[hha0,ho,hc,hxl,hk,hac,hbc]
     refine HA1.use ?_
     by_cases hha1:isN a 1=true
     ·simp-implicitDefEqProofs[hha1,ho,hc,hxl,hk,hac,hbc]
     ·simp-implicitDefEqProofs[hha1,ho,hc,hxl,hk,hac,hbc]
    ·simp-implicitDefEqProofs[hha0,ho,hc,hxl,hk,hac,hbc]
     refine HA1.use ?_
     by_cases hha1:isN a 1=true
     ·simp-implicitDefEqProofs[hha1,ho,hc,hxl,hk,hac,hbc]
     ·simp-implicitDefEqProofs[hha1,ho,hc,hxl,hk,hac,hbc]
   ·simp-implicitDefEqProofs[hhb1,ho,hc,hxl,hk,hac,hbc]
    refine HA0.use ?_
    by_cases hha0:isN a 0=true
    ·simp-implicitDefEqProofs[hha0,ho,hc,hxl,hk,hac,hbc]
     refine HA1.use ?_
     by_cases hha1:isN a 1=true
     ·simp-implicitDefEqProofs[hha1,ho,hc,hxl,hk,hac,hbc]
     ·simp-implicitDefEqProofs[hha1,ho,hc,hxl,hk,hac,hbc]
    ·simp-implicitDefEqProofs[hha0,ho,hc,hxl,hk,hac,hbc]
     refine HA1.use ?_
     by_cases hha1:isN a 1=true
     ·simp-implicitDefEqProofs[hha1,ho,hc,hxl,hk,hac,hbc]
     ·simp-implicitDefEqProofs[hha1,ho,hc,hxl,hk,hac,hbc]
  ·simp-implicitDefEqProofs[hhb0,ho,hc,hxl,hk,hac,hbc]
   refine HB1.use ?_
   by_cases hhb1:isN b 1=true
   ·simp-implicitDefEqProofs[hhb1,ho,hc,hxl,hk,hac,hbc]
    refine HA0.use ?_
    by_cases hha0:isN a 0=true
    ·simp-implicitDefEqProofs[hha0,ho,hc,hxl,hk,hac,hbc]
     refine HA1.use ?_
     by_cases hha1:isN a 1=true
     ·simp-implicitDefEqProofs[hha1,ho,hc,hxl,hk,hac,hbc]
     ·simp-implicitDefEqProofs[hha1,ho,hc,hxl,hk,hac,hbc]
    ·simp-implicitDefEqProofs[hha0,ho,hc,hxl,hk,hac,hbc]
     refine HA1.use ?_
     by_cases hha1:isN a 1=true
     ·simp-implicitDefEqProofs[hha1,ho,hc,hxl,hk,hac,hbc]
     ·simp-implicitDefEqProofs[hha1,ho,hc,hxl,hk,hac,hbc]
   ·simp-implicitDefEqProofs[hhb1,ho,hc,hxl,hk,hac,hbc]
    refine HA0.use ?_
    by_cases hha0:isN a 0=true
    ·simp-implicitDefEqProofs[hha0,ho,hc,hxl,hk,hac,hbc]
     refine HA1.use ?_
     by_cases hha1:isN a 1=true
     ·simp-implicitDefEqProofs[hha1,ho,hc,hxl,hk,hac,hbc]
     ·simp-implicitDefEqProofs[hha1,ho,hc,hxl,hk,hac,hbc]
    ·simp-implicitDefEqProofs[hha0,ho,hc,hxl,hk,hac,hbc]
     refine HA1.use ?_
     by_cases hha1:isN a 1=true
     ·simp-implicitDefEqProofs[hha1,ho,hc,hxl,hk,hac,hbc]
     ·simp-implicitDefEqProofs[hha1,ho,hc,hxl,hk,hac,hbc]
 ·simp-implicitDefEqProofs[ho]
  refine HB0.use ?_
  by_cases hhb0:isN b 0=true
  ·simp-implicitDefEqProofs[hhb0,ho,hc,hxl,hk,hac,hbc]
   refine HB1.use ?_
   by_cases hhb1:isN b 1=true
   ·simp-implicitDefEqProofs[hhb1,ho,hc,hxl,hk,hac,hbc]
    refine HA0.use ?_
    by_cases hha0:isN a 0=true
    ·simp-implicitDefEqProofs[hha0,ho,hc,hxl,hk,hac,hbc]
     refine HA1.use ?_
     by_cases hha1:isN a 1=true
     ·simp-implicitDefEqProofs[hha1,ho,hc,hxl,hk,hac,hbc]
     ·simp-implicitDefEqProofs[hha1,ho,hc,hxl,hk,hac,hbc]
    ·simp-implicitDefEqProofs[hha0,ho,hc,hxl,hk,hac,hbc]
     refine HA1.use ?_
     by_cases hha1:isN a 1=true
     ·simp-implicitDefEqProofs[hha1,ho,hc,hxl,hk,hac,hbc]
     ·simp-implicitDefEqProofs[hha1,ho,hc,hxl,hk,hac,hbc]
   ·simp-implicitDefEqProofs[hhb1,ho,hc,hxl,hk,hac,hbc]
    refine HA0.use ?_
    by_cases hha0:isN a 0=true
    ·simp-implicitDefEqProofs[hha0,ho,hc,hxl,hk,hac,hbc]
     refine HA1.use ?_
     by_cases hha1:isN a 1=true
     ·simp-implicitDefEqProofs[hha1,ho,hc,hxl,hk,hac,hbc]
     ·simp-implicitDefEqProofs[hha1,ho,hc,hxl,hk,hac,hbc]
    ·simp-implicitDefEqProofs[hha0,ho,hc,hxl,hk,hac,hbc]
     refine HA1.use ?_
     by_cases hha1:isN a 1=true
     ·simp-implicitDefEqProofs[hha1,ho,hc,hxl,hk,hac,hbc]
     ·simp-implicitDefEqProofs[hha1,ho,hc,hxl,hk,hac,hbc]
  ·simp-implicitDefEqProofs[hhb0,ho,hc,hxl,hk,hac,hbc]
   refine HB1.use ?_
   by_cases hhb1:isN b 1=true
   ·simp-implicitDefEqProofs[hhb1,ho,hc,hxl,hk,hac,hbc]
    refine HA0.use ?_
    by_cases hha0:isN a 0=true
    ·simp-implicitDefEqProofs[hha0,ho,hc,hxl,hk,hac,hbc]
     refine HA1.use ?_
     by_cases hha1:isN a 1=true
     ·simp-implicitDefEqProofs[hha1,ho,hc,hxl,hk,hac,hbc]
     ·simp-implicitDefEqProofs[hha1,ho,hc,hxl,hk,hac,hbc]
    ·simp-implicitDefEqProofs[hha0,ho,hc,hxl,hk,hac,hbc]
     refine HA1.use ?_
     by_cases hha1:isN a 1=true
     ·simp-implicitDefEqProofs[hha1,ho,hc,hxl,hk,hac,hbc]
     ·simp-implicitDefEqProofs[hha1,ho,hc,hxl,hk,hac,hbc]
   ·simp-implicitDefEqProofs[hhb1,ho,hc,hxl,hk,hac,hbc]
    refine HA0.use ?_
    by_cases hha0:isN a 0=true
    ·simp-implicitDefEqProofs[hha0,ho,hc,hxl,hk,hac,hbc]
     refine HA1.use ?_
     by_cases hha1:isN a 1=true
     ·simp-implicitDefEqProofs[hha1,ho,hc,hxl,hk,hac,hbc]
     ·simp-implicitDefEqProofs[hha1,ho,hc,hxl,hk,hac,hbc]
    ·simp-implicitDefEqProofs[hha0,ho,hc,hxl,hk,hac,hbc]
     refine HA1.use ?_
     by_cases hha1:isN a 1=true
     ·simp-implicitDefEqProofs[hha1,ho,hc,hxl,hk,hac,hbc]
     ·simp-implicitDefEqProofs[hha1,ho,hc,hxl,hk,hac,hbc]
 ·simp-implicitDefEqProofs[ho]
  refine HB0.use ?_
  by_cases hhb0:isN b 0=true
  ·simp-implicitDefEqProofs[hhb0,ho,hc,hxl,hk,hac,hbc]
   refine HB1.use ?_
   by_cases hhb1:isN b 1=true
   ·simp-implicitDefEqProofs[hhb1,ho,hc,hxl,hk,hac,hbc]
    refine HA0.use ?_
    by_cases hha0:isN a 0=true
    ·simp-implicitDefEqProofs[hha0,ho,hc,hxl,hk,hac,hbc]
     refine HA1.use ?_
     by_cases hha1:isN a 1=true
     ·simp-implicitDefEqProofs[hha1,ho,hc,hxl,hk,hac,hbc]
     ·simp-implicitDefEqProofs[hha1,ho,hc,hxl,hk,hac,hbc]
    ·simp-implicitDefEqProofs[hha0,ho,hc,hxl,hk,hac,hbc]
     refine HA1.use ?_
     by_cases hha1:isN a 1=true
     ·simp-implicitDefEqProofs[hha1,ho,hc,hxl,hk,hac,hbc]
     ·simp-implicitDefEqProofs[hha1,ho,hc,hxl,hk,hac,hbc]
   ·simp-implicitDefEqProofs[hhb1,ho,hc,hxl,hk,hac,hbc]
    refine HA0.use ?_
    by_cases hha0:isN a 0=true
    ·simp-implicitDefEqProofs[hha0,ho,hc,hxl,hk,hac,hbc]
     refine HA1.use ?_
     by_cases hha1:isN a 1=true
     ·simp-implicitDefEqProofs[hha1,ho,hc,hxl,hk,hac,hbc]
     ·simp-implicitDefEqProofs[hha1,ho,hc,hxl,hk,hac,hbc]
    ·simp-implicitDefEqProofs[hha0,ho,hc,hxl,hk,hac,hbc]
     refine HA1.use ?_
     by_cases hha1:isN a 1=true
     ·simp-implicitDefEqProofs[hha1,ho,hc,hxl,hk,hac,hbc]
     ·simp-implicitDefEqProofs[hha1,ho,hc,hxl,hk,hac,hbc]
  ·simp-implicitDefEqProofs[hhb0,ho,hc,hxl,hk,hac,hbc]
   refine HB1.use ?_
   by_cases hhb1:isN b 1=true
   ·simp-implicitDefEqProofs[hhb1,ho,hc,hxl,hk,hac,hbc]
    refine HA0.use ?_
    by_cases hha0:isN a 0=true
    ·simp-implicitDefEqProofs[hha0,ho,hc,hxl,hk,hac,hbc]
     refine HA1.use ?_
     by_cases hha1:isN a 1=true
     ·simp-implicitDefEqProofs[hha1,ho,hc,hxl,hk,hac,hbc]
     ·simp-implicitDefEqProofs[hha1,ho,hc,hxl,hk,hac,hbc]
    ·simp-implicitDefEqProofs[hha0,ho,hc,hxl,hk,hac,hbc]
     refine HA1.use ?_
     by_cases hha1:isN a 1=true
     ·simp-implicitDefEqProofs[hha1,ho,hc,hxl,hk,hac,hbc]
     ·simp-implicitDefEqProofs[hha1,ho,hc,hxl,hk,hac,hbc]
   ·simp-implicitDefEqProofs[hhb1,ho,hc,hxl,hk,hac,hbc]
    refine HA0.use ?_
    by_cases hha0:isN a 0=true
    ·simp-implicitDefEqProofs[hha0,ho,hc,hxl,hk,hac,hbc]
     refine HA1.use ?_
     by_cases hha1:isN a 1=true
     ·simp-implicitDefEqProofs[hha1,ho,hc,hxl,hk,hac,hbc]
     ·simp-implicitDefEqProofs[hha1,ho,hc,hxl,hk,hac,hbc]
    ·simp-implicitDefEqProofs[hha0,ho,hc,hxl,hk,hac,hbc]
     refine HA1.use ?_
     by_cases hha1:isN a 1=true
     ·simp-implicitDefEqProofs[hha1,ho,hc,hxl,hk,hac,hbc]
     ·simp-implicitDefEqProofs[hha1,ho,hc,hxl,hk,hac,hbc]
 ·simp-implicitDefEqProofs[ho]
  refine HA0.use ?_
  by_cases hha0:isN a 0=true
  ·simp-implicitDefEqProofs[hha0,ho,hc,hxl,hk,hac,hbc]
   refine(fX G _).use ?_
   simp-implicitDefEqProofs[hnc]
  ·simp-implicitDefEqProofs[hha0,ho,hc,hxl,hk,hac,hbc]
   refine HB0.use ?_
   by_cases hhb0:isN b 0=true
   ·simp-implicitDefEqProofs[hhb0,ho,hc,hxl,hk,hac,hbc]
    refine HB1.use ?_
    by_cases hhb1:isN b 1=true
    ·simp-implicitDefEqProofs[hhb1,ho,hc,hxl,hk,hac,hbc]
     refine HA0.use ?_
     simp-implicitDefEqProofs[hha0]
     refine HA1.use ?_
     by_cases hha1:isN a 1=true
     ·simp-implicitDefEqProofs[hha1,ho,hc,hxl,hk,hac,hbc]
     ·simp-implicitDefEqProofs[hha1,ho,hc,hxl,hk,hac,hbc]
    ·simp-implicitDefEqProofs[hhb1,ho,hc,hxl,hk,hac,hbc]
     refine HA0.use ?_
     simp-implicitDefEqProofs[hha0]
     refine HA1.use ?_
     by_cases hha1:isN a 1=true
     ·simp-implicitDefEqProofs[hha1,ho,hc,hxl,hk,hac,hbc]
     ·simp-implicitDefEqProofs[hha1,ho,hc,hxl,hk,hac,hbc]
   ·simp-implicitDefEqProofs[hhb0,ho,hc,hxl,hk,hac,hbc]
    refine HB1.use ?_
    by_cases hhb1:isN b 1=true
    ·simp-implicitDefEqProofs[hhb1,ho,hc,hxl,hk,hac,hbc]
     refine HA0.use ?_
     simp-implicitDefEqProofs[hha0]
     refine HA1.use ?_
     by_cases hha1:isN a 1=true
     ·simp-implicitDefEqProofs[hha1,ho,hc,hxl,hk,hac,hbc]
     ·simp-implicitDefEqProofs[hha1,ho,hc,hxl,hk,hac,hbc]
    ·simp-implicitDefEqProofs[hhb1,ho,hc,hxl,hk,hac,hbc]
     refine HA0.use ?_
     simp-implicitDefEqProofs[hha0]
     refine HA1.use ?_
     by_cases hha1:isN a 1=true
     ·simp-implicitDefEqProofs[hha1,ho,hc,hxl,hk,hac,hbc]
     ·simp-implicitDefEqProofs[hha1,ho,hc,hxl,hk,hac,hbc]
end
section
def K_impl_stmtOk:AK:= .seq (.reg [oJ 2 (.box 5 (.t 0)),oJ 4 (.mov (.c (.p (.bool false))))]) (.seq (.reg [oF 12 0 2,oL 13 12,oJ 14 (.call gI [(.t 13)]),oM 11 14,oJ 15 (.ext 0 (.t 11)),oJ 16 (.ext 1 (.t 11)),oJ 17 (.ext 2 (.t 11)),oJ 18 (.ext 3 (.t 11)),oM 5 15,oM 6 16,oM 7 17,oM 8 18]) (.cut (.blk 0 (.seq (.seq (.reg [oM 20 1,oJ 21 (.bin .gtr (.t 20) (.c (.p (.int .i64 4)))),oM 19 21]) (.cond (.t 19) (.skip) (.seq (.reg [oF 22 2 2,oL 23 22,oJ 24 (.len false (.t 23)),oM 25 5,oJ 26 (.bin .neq (.t 24) (.t 25)),oM 19 26]) (.cond (.t 19) (.skip) (.cut (.reg [oM 27 6,oM 28 27,⟨(some 29),some (28,true),.fldA 1 (.t 2)⟩,⟨(some 30),some (28,true),.ld none (.t 29)⟩,⟨(some 31),some (28,true),.call ck [(.t 30)]⟩,⟨(some 32),some (28,true),.not (.t 31)⟩,oJ 33 (.pick (.t 28) (.t 32) (.c (.p (.bool false)))),oM 19 33]) (.cond (.t 19) (.skip) (.cut (.reg [oM 34 6,oJ 35 (.not (.t 34)),oM 36 35,⟨(some 37),some (36,true),.fldA 1 (.t 2)⟩,⟨(some 38),some (36,true),.ld none (.t 37)⟩,⟨(some 39),some (36,true),.bins .neq (.t 38) (.c (.p (.str [])))⟩,oJ 40 (.pick (.t 36) (.t 39) (.c (.p (.bool false)))),oM 19 40]) (.cond (.t 19) (.skip) (.cut (.reg [oM 41 7,oJ 42 (.not (.t 41)),oM 43 42,⟨(some 44),some (43,true),.fldA 3 (.t 2)⟩,⟨(some 45),some (43,true),.ld none (.t 44)⟩,⟨(some 46),some (43,true),.len false (.t 45)⟩,⟨(some 47),some (43,true),.bin .gtr (.t 46) (.c (.p (.int .i64 0)))⟩,oJ 48 (.pick (.t 43) (.t 47) (.c (.p (.bool false)))),oM 19 48]) (.cond (.t 19) (.skip) (.cut (.reg [oM 49 8,oJ 50 (.not (.t 49)),oM 51 50,⟨(some 52),some (51,true),.fldA 4 (.t 2)⟩,⟨(some 53),some (51,true),.ld none (.t 52)⟩,⟨(some 54),some (51,true),.len false (.t 53)⟩,⟨(some 55),some (51,true),.bin .gtr (.t 54) (.c (.p (.int .i64 0)))⟩,oJ 56 (.pick (.t 51) (.t 55) (.c (.p (.bool false)))),oM 19 56]) (.cond (.t 19) (.skip) (.reg [oF 57 0 2,oL 58 57,oJ 59 (.bin .eql (.t 58) (.c (.p (.int .i64 8)))),oM 60 59,⟨(some 61),some (60,true),.fldA 2 (.t 2)⟩,⟨(some 62),some (60,true),.ld none (.t 61)⟩,⟨(some 63),some (60,true),.idxS 4 (.t 62) (.c (.p (.int .i64 0)))⟩,⟨(some 64),some (60,true),.fldA 0 (.t 63)⟩,⟨(some 65),some (60,true),.ld none (.t 64)⟩,⟨(some 66),some (60,true),.bin .neq (.t 65) (.c (.p (.int .i64 13)))⟩,oJ 67 (.pick (.t 60) (.t 66) (.c (.p (.bool false)))),oM 19 67]))))))))))))) (.cond (.t 19) (.seq (.reg [oJ 4 (.mov (.c (.p (.bool false))))]) (.ret)) (.skip)))) (.seq (.seq (.reg [oF 68 2 2,oL 69 68,oJ 70 (.len false (.t 69)),oK 71 0]) (.blk 1 (.loop (.seq (.reg [oJ 72 (.bin .lss (.t 71) (.t 70))]) (.seq (.cond (.t 72) (.skip) (.exit 1)) (.seq (.blk 2 (.seq (.reg [oJ 73 (.idxS 4 (.t 69) (.t 71)),oJ 74 (.ld (some 4) (.t 73)),oJ 10 (.alloc [(.p (.int .i64 0)),(.p (.int .i64 0)),(.p (.str [])),.nils]),⟨none,none,.st 4 (.t 10) (.t 74)⟩]) (.seq (.reg [oJ 75 (.ld (some 4) (.t 10)),oJ 76 (.call eF [(.t 75)]),oJ 77 (.not (.t 76))]) (.cond (.t 77) (.seq (.reg [oJ 4 (.mov (.c (.p (.bool false))))]) (.ret)) (.skip))))) (.reg [oJ 78 (.bin .add (.t 71) (.c (.p (.int .i64 1)))),oM 71 78]))))))) (.seq (.reg [oF 79 3 2,oL 80 79,oM 81 1,oJ 82 (.bin .add (.t 81) (.c (.p (.int .i64 1)))),oJ 83 (.call dJ [(.t 80),(.t 82)]),oM 84 83,⟨(some 85),some (84,true),.fldA 4 (.t 2)⟩,⟨(some 86),some (84,true),.ld none (.t 85)⟩,⟨(some 87),some (84,true),.mov (.t 1)⟩,⟨(some 88),some (84,true),.bin .add (.t 87) (.c (.p (.int .i64 1)))⟩,⟨(some 89),some (84,true),.call dJ [(.t 86),(.t 88)]⟩,oJ 90 (.pick (.t 84) (.t 89) (.c (.p (.bool false)))),oM 4 90]) (.ret)))))
theorem xJ:K_impl_stmtOk.whole=F_impl_stmtOk.ak:=rfl
variable (G:aJ)
def qf(op:Int):Int:=if op=4 then 2 else if inR op 1 8 then 1 else-1
def jS(op:Int):Bool:=decide (op=5)||decide (op=6)
theorem vH(op:Int):VF Tryz.prog G gI [.p (.int .i64 op)] (.tup [.p (.int .i64 (qf op)),.p (.bool (dP op)),.p (.bool (jS op)),.p (.bool (decide (op=5)))]):=by
 refine AC.go uV ?_
 by_cases h1:op=1
 ·subst h1;simp-implicitDefEqProofs[bM,qf,inR,dP,jS]
 by_cases h2:op=2
 ·subst h2;simp-implicitDefEqProofs[bM,qf,inR,dP,jS]
 by_cases h3:op=3
 ·subst h3;simp-implicitDefEqProofs[bM,qf,inR,dP,jS]
 by_cases h4:op=4
 ·subst h4;simp-implicitDefEqProofs[bM,qf,inR,dP,jS]
 by_cases h5:op=5
 ·subst h5;simp-implicitDefEqProofs[bM,qf,inR,dP,jS]
 by_cases h6:op=6
 ·subst h6;simp-implicitDefEqProofs[bM,qf,inR,dP,jS]
 by_cases h7:op=7
 ·subst h7;simp-implicitDefEqProofs[bM,qf,inR,dP,jS]
 by_cases h8:op=8
 ·subst h8;simp-implicitDefEqProofs[bM,qf,inR,dP,jS]
 have ha:qf op= -1:=by
  have:inR op 1 8=false:=by simp[inR];omega
  rw[qf,if_neg h4,this];rfl
 have hn:dP op=false:=by simp[dP,h1,h2]
 have hb:jS op=false:=by simp[jS,h5,h6]
 rw[ha,hn,hb]
 simp-implicitDefEqProofs[bM,h1,h2,h3,h4,h5,h6,h7,h8]
def Do:List Ex→Bool
 |a::_=>decide (a.op=13)
 |[]=>false
def jM(s:Sm):Bool:=decide ((s.args.length:Int)=qf s.op)&&(!dP s.op||aR s.name)&&(dP s.op||decide (s.name=[]))&&(jS s.op||decide (s.body=[]))&&(decide (s.op=5)||decide (s.els=[]))&&
 (!decide (s.op=8)||Do s.args)
theorem Gl(s:Sm):eL s=(inR s.op 1 8&&decide (s.args.length=iW s.op)&&(dP s.op==aR s.name)&&(dP s.op||decide (s.name=[]))&&s.args.all gD&&
 (!decide (s.op=8)||Do s.args)&&(s.els.isEmpty||decide (s.op=5))&&(s.body.isEmpty||decide (s.op=5)||decide (s.op=6))):=by
 unfold eL
 cases s.args<;>rfl
theorem AU(s:Sm):eL s=(jM s&&s.args.all gD):=by
 have ha:decide ((s.args.length:Int)=qf s.op)=(inR s.op 1 8&&decide (s.args.length=iW s.op)):=by
  unfold qf iW
  by_cases h4:s.op=4
  ·have:inR s.op 1 8=true:=by simp[inR,h4]
   rw[this,if_pos h4,if_pos h4];simp;omega
  ·rw[if_neg h4,if_neg h4]
   cases h:inR s.op 1 8 with
   |true=>simp;omega
   |false=>simp
 have hn:(dP s.op==aR s.name&&(dP s.op||decide (s.name=[])))=((!dP s.op||aR s.name)&&(dP s.op||decide (s.name=[]))):=by
  cases dP s.op with
  |true=>cases aR s.name<;>rfl
  |false=>
   by_cases h:s.name=[]
   ·rw[h,qW];rfl
   ·simp[h]
 have hb:(s.body.isEmpty||decide (s.op=5)||decide (s.op=6))=(jS s.op||decide (s.body=[])):=by
  rw[jS]
  cases s.body<;>cases decide (s.op=5)<;>cases decide (s.op=6)<;>simp
 have he:(s.els.isEmpty||decide (s.op=5))=(decide (s.op=5)||decide (s.els=[])):=by
  cases s.els<;>cases decide (s.op=5)<;>simp
 rw[Gl]
 unfold jM
 rw[ha,hb,he]
 generalize Do s.args=z
 generalize (dP s.op==aR s.name)=c at hn⊢
 generalize (!dP s.op||aR s.name)=c' at hn⊢
 generalize (dP s.op||decide (s.name=[]))=d at hn⊢
 generalize s.args.all gD=x
 generalize (jS s.op||decide (s.body=[]))=y
 generalize (decide (s.op=5)||decide (s.els=[]))=y'
 generalize (!decide (s.op=8))=u
 cases inR s.op 1 8<;>cases decide (s.args.length=iW s.op)<;>cases c<;>cases c'<;>cases d<;>cases x<;>cases y<;>cases y'<;>cases u<;>cases z<;>simp_all
variable (hK:G dR=some dC) (hS:G bW=some [.tbl opK opV])
def Dy(d:Nat)(L:List Sm):Int:=match L.findIdx? (fun s=> !au d s) with|some i=>i|none=> -1
theorem Hx(d:Nat)(L:List Sm):decide (0≤Dy d L)= !(L.all (au d)):=by
 unfold Dy
 cases h:L.findIdx? (fun x=> !au d x) with
 |none=>
  rw[RI] at h
  have:L.all (au d)=true:=Rc.2 fun x hx=>by have:=h x hx;simpa using this
  simp[this]
 |some i=>
  rw[Rv] at h
  obtain⟨h1,h2,_⟩:=h
  have:L.all (au d)=false:=List.all_eq_false.2 ⟨_,Rd h1,by simpa using h2⟩
  rw[this];simp
theorem ug(d:Nat)(nest:Int)(hs:∀s:Sm,s.sz≤1073741824→VF Tryz.prog G jw [.agg (s.cs.map .p),.p (.int .i64 nest)] (.p (.bool (au d s))))(L:List Sm)(hL:aq L≤1073741824):
 VF Tryz.prog G dJ [.p (smL L),.p (.int .i64 nest)] (.p (.bool (L.all (au d)))):=by
 have hsl:smL L= .lst 5 (L.map Sm.cs):=rfl
 have hll:=bk L
 have eS:∀s:Sm,s.sz≤1073741824→AC Tryz.prog G dB [.agg (s.cs.map .p),.ptr 0 1 0 0] [.row 1 [[.p (.int .i64 nest)]]] fun x h=>x= .ret (.p (.bool (!au d s)))∧h=[.row 1 [[.p (.int .i64 nest)]]]:=by
  intro s hz
  refine AC.trim (AC.go tV ?_) (by simp[below])
  have hse:=s.cs_eq
  have h1:=hs s hz
  rw[hse] at h1
  simp-implicitDefEqProofs[mH,hse]
  refine h1.use ?_
  simp-implicitDefEqProofs[]
 have idx:AC Tryz.prog G dd [.p (smL L),.fn (.func dB) [.ptr 0 1 0 0]] [.row 1 [[.p (.int .i64 nest)]]] fun x h=>x= .ret (.p (.int .i64 (Dy d L)))∧h=[.row 1 [[.p (.int .i64 nest)]]]:=by
  refine AC.go jV ?_
  simp-implicitDefEqProofs[fa,hsl]
  refine aU (fun i:Nat=>am 19 [(0,.p (smL L)),(1,.fn (.func dB) [.ptr 0 1 0 0]),(7,.p (.int .i64 L.length)),(8,.p (.int .i64 i))]) (fun _=>[.row 1 [[.p (.int .i64 nest)]]]) (fun i=>i≤L.length∧∀w∈L.take i,au d w=true) (fun i=>L.length-i) 0 (by simp) ?_ ?_
  ·exact ae (by simp) (by simp[okO,below]) (by simp[below,ah,hsl])
  ·intro i ⟨hi,hn⟩
   simp-implicitDefEqProofs[hsl]
   refine bf (fun h1=>?_) (fun h1=>?_)
   ·simp at h1
    have hg:=QW h1
    have hz:=bD (Rd h1)
    simp-implicitDefEqProofs[hg]
    refine(eS L[i] (by omega)).mono ?_
    rintro r h ⟨rfl,rfl⟩
    by_cases he:au d L[i]=true
    ·simp-implicitDefEqProofs[aa,he]
     refine⟨i+1,⟨h1,fun p hp=>?_⟩,by omega,ae (by simp) (by simp[okO,below]) (by simp[below,ah,hsl,w1 (i:=i) (by omega)])⟩
     rw[an h1] at hp
     rcases Rf.1 hp with hp|hp
     ·exact hn p hp
     ·rw[Ri.1 hp];exact he
    ·have hf:Dy d L=i:=by
      have:L.findIdx? (fun w=> !au d w)=some i:=by
       rw[Rv]
       exact⟨h1,by simpa using he,fun j hj=>by have:=hn L[j] (List.mem_take_iff_getElem.2 ⟨j,by omega,rfl⟩);simpa using this⟩
      rw[Dy,this]
     simp-implicitDefEqProofs[aa,he,hf]
   ·simp at h1
    rw[Rb h1] at hn
    have hf:Dy d L= -1:=by
     have:L.findIdx? (fun w=> !au d w)=none:=by
      rw[RI];intro x hx;simpa using hn x hx
     rw[Dy,this]
    simp-implicitDefEqProofs[hf]
 have con:AC Tryz.prog G cA [.p (smL L),.fn (.func dB) [.ptr 0 1 0 0]] [.row 1 [[.p (.int .i64 nest)]]] fun x h=>x= .ret (.p (.bool (!L.all (au d))))∧h=[.row 1 [[.p (.int .i64 nest)]]]:=by
  refine AC.go iI ?_
  simp-implicitDefEqProofs[ey]
  refine idx.mono ?_
  rintro r h ⟨rfl,rfl⟩
  have:=Hx d L
  simp-implicitDefEqProofs[aa]
  simpa using this
 refine AC.go wm ?_
 simp-implicitDefEqProofs[oO]
 refine con.mono ?_
 rintro r h ⟨rfl,rfl⟩
 simp-implicitDefEqProofs[aa]
include hS hK
theorem JU:∀d:Nat,d≤4→∀s:Sm,s.sz≤1073741824→VF Tryz.prog G jw [.agg (s.cs.map .p),.p (.int .i64 (5-d))] (.p (.bool (au d s))):=by
 intro d
 induction d with
 |zero=>
  intro _ s hz
  have hse:=s.cs_eq
  refine AC.go qL ?_
  simp-implicitDefEqProofs[F_impl_stmtOk,hse]
  refine(vH G _).use ?_
  simp-implicitDefEqProofs[au]
 |succ d ih=>
  intro hd s hz
  have hse:=s.cs_eq
  have hsz:=s.sz_eq
  have hal:=bi s.args
  have hblk:=ug G d (5-d) (ih (by omega))
  have hnn:(5:Int)-((d+1:Nat):Int)=4-d:=by omega
  have hnw:IntKind.i64.wrap (4-(d:Int)+1)=5-d:=by rw[af (by omega) (by omega)];omega
  have hn4:¬(4:Int)<4-d:=by omega
  have hxl:exL s.args= .lst 4 (s.args.map Ex.cs):=rfl
  have hsl:∀l,smL l= .lst 5 (l.map Sm.cs):=fun _=>rfl
  rw[hnn]
  have hbad:jM s=false→au (d+1) s=false:=fun h=>by rw[au,AU,h];rfl
  refine AC.goK qL xJ ?_
  simp-implicitDefEqProofs[K_impl_stmtOk,F_impl_stmtOk,hse]
  refine(vH G _).use ?_
  simp-implicitDefEqProofs[]
  refine nZ (fun _:Unit=>am 91 [(1,.p (.int .i64 (4-d))),(2,.ptr 0 5 0 0)]) (fun _=>[.row 5 [[.p (.int .i64 s.op),.p (.str s.name),.p (exL s.args),.p (smL s.body),.p (smL s.els)]]]) (fun _=>jM s=true) ?_ ?_
  ·have fin:∀(r1:List (Nat × AV)),Aw.look r1 1= .p (.int .i64 (4-d))→Aw.look r1 2= .ptr 0 5 0 0→
    Wk 0 (am 91 r1) [.row 5 [[.p (.int .i64 s.op),.p (.str s.name),.p (exL s.args),.p (smL s.body),.p (smL s.els)]]] (am 91 [(1,.p (.int .i64 (4-d))),(2,.ptr 0 5 0 0)]) [.row 5 [[.p (.int .i64 s.op),.p (.str s.name),.p (exL s.args),.p (smL s.body),.p (smL s.els)]]]:=fun r1 a b=>
    ae (by simp) (by simp[okO,below]) (by simp[below,a,b])
   have hb0:s.body=[]∨0<s.body.length:=by cases s.body<;>simp
   have he0:s.els=[]∨0<s.els.length:=by cases s.els<;>simp
   by_cases hl:(s.args.length:Int)=qf s.op
   case neg=>
    rw[hbad (by simp[jM,hl])]
    simp-implicitDefEqProofs[hn4,hxl,hl]
   have hel:(decide (s.els=[]))= !decide (0<s.els.length):=by cases s.els<;>simp
   have hbo:(decide (s.body=[]))= !decide (0<s.body.length):=by cases s.body<;>simp
   simp-implicitDefEqProofs[hn4,hxl,hl]
   refine kG (am 91 [(1,.p (.int .i64 (4-d))),(2,.ptr 0 5 0 0),(6,.p (.bool (dP s.op))),(7,.p (.bool (jS s.op))),(8,.p (.bool (decide (s.op=5)))),(19,.p (.bool (dP s.op&& !aR s.name)))]) ([.row 5 [[.p (.int .i64 s.op),.p (.str s.name),.p (exL s.args),.p (smL s.body),.p (smL s.els)]]]) ?_ ?_
   ·cases hn:dP s.op with
    |true=>
     simp-implicitDefEqProofs[]
     refine(oQ G hK _ (by omega)).use ?_
     simp-implicitDefEqProofs[]
     exact ae (by simp) (by simp[okO,below]) (by simp[below])
    |false=>
     simp-implicitDefEqProofs[]
     exact ae (by simp) (by simp[okO,below]) (by simp[below])
   by_cases h2:(dP s.op&& !aR s.name)=true
   ·rw[hbad (by simp only[jM];cases h:dP s.op<;>cases h':aR s.name<;>simp[h,h'] at h2⊢)]
    simp-implicitDefEqProofs[h2]
   have h2':(dP s.op&& !aR s.name)=false:=by simpa using h2
   rw[h2']
   simp-implicitDefEqProofs[]
   refine kG (am 91 [(1,.p (.int .i64 (4-d))),(2,.ptr 0 5 0 0),(6,.p (.bool (dP s.op))),(7,.p (.bool (jS s.op))),(8,.p (.bool (decide (s.op=5)))),(19,.p (.bool (!dP s.op&& !decide (s.name=[]))))]) ([.row 5 [[.p (.int .i64 s.op),.p (.str s.name),.p (exL s.args),.p (smL s.body),.p (smL s.els)]]]) ?_ ?_
   ·cases hn:dP s.op with
    |true=>
     simp-implicitDefEqProofs[]
     exact ae (by simp) (by simp[okO,below]) (by simp[below])
    |false=>
     simp-implicitDefEqProofs[]
     exact ae (by simp) (by simp[okO,below]) (by simp[below])
   by_cases h3:(!dP s.op&& !decide (s.name=[]))=true
   ·rw[hbad (by simp only[jM];cases h:dP s.op<;>cases h':decide (s.name=[])<;>simp[h,h'] at h3⊢)]
    simp-implicitDefEqProofs[h3]
   have h3':(!dP s.op&& !decide (s.name=[]))=false:=by simpa using h3
   rw[h3']
   simp-implicitDefEqProofs[]
   refine kG (am 91 [(1,.p (.int .i64 (4-d))),(2,.ptr 0 5 0 0),(6,.p (.bool (dP s.op))),(7,.p (.bool (jS s.op))),(8,.p (.bool (decide (s.op=5)))),(19,.p (.bool (!jS s.op&&decide (0<s.body.length))))]) ([.row 5 [[.p (.int .i64 s.op),.p (.str s.name),.p (exL s.args),.p (smL s.body),.p (smL s.els)]]]) ?_ ?_
   ·cases hn:jS s.op with
    |true=>
     simp-implicitDefEqProofs[hsl]
     exact ae (by simp) (by simp[okO,below]) (by simp[below])
    |false=>
     simp-implicitDefEqProofs[hsl]
     exact ae (by simp) (by simp[okO,below]) (by simp[below])
   by_cases h4:(!jS s.op&&decide (0<s.body.length))=true
   ·rw[hbad (by simp only[jM,hbo];cases h:jS s.op<;>cases h':decide (0<s.body.length)<;>simp[h,h'] at h4⊢)]
    simp-implicitDefEqProofs[h4]
   have h4':(!jS s.op&&decide (0<s.body.length))=false:=by simpa using h4
   rw[h4']
   simp-implicitDefEqProofs[]
   refine kG (am 91 [(1,.p (.int .i64 (4-d))),(2,.ptr 0 5 0 0),(6,.p (.bool (dP s.op))),(7,.p (.bool (jS s.op))),(8,.p (.bool (decide (s.op=5)))),(19,.p (.bool (!decide (s.op=5)&&decide (0<s.els.length))))]) ([.row 5 [[.p (.int .i64 s.op),.p (.str s.name),.p (exL s.args),.p (smL s.body),.p (smL s.els)]]]) ?_ ?_
   ·cases hn:decide (s.op=5) with
    |true=>
     simp-implicitDefEqProofs[hsl]
     exact ae (by simp) (by simp[okO,below]) (by simp[below])
    |false=>
     simp-implicitDefEqProofs[hsl]
     exact ae (by simp) (by simp[okO,below]) (by simp[below])
   by_cases h5:(!decide (s.op=5)&&decide (0<s.els.length))=true
   ·rw[hbad (by simp only[jM,hel];cases h:decide (s.op=5)<;>cases h':decide (0<s.els.length)<;>simp[h,h'] at h5⊢)]
    simp-implicitDefEqProofs[h5]
   have h5':(!decide (s.op=5)&&decide (0<s.els.length))=false:=by simpa using h5
   rw[h5']
   have hh1:jM s=(!decide (s.op=8)||Do s.args):=by
    simp only[jM,hl,decide_true,Bool.true_and,hel,hbo]
    cases h:dP s.op<;>cases hi:aR s.name<;>cases hm:decide (s.name=[])<;>cases hb:jS s.op<;>cases hc:decide (0<s.body.length)<;>cases ho:decide (s.op=5)<;>cases he:decide (0<s.els.length)<;>simp[h,hi,hm,hb,hc,ho,he] at h2' h3' h4' h5'⊢
   by_cases o8:s.op=8
   ·have ha1:s.args.length=1:=by
     have:qf s.op=1:=by rw[o8];rfl
     omega
    obtain⟨a0,ha0⟩:∃a0,s.args=[a0]:=by
     match hh:s.args,ha1 with
     |[x],_=>exact⟨x,rfl⟩
    have hae:=a0.cs_eq
    rw[hh1,o8,ha0]
    rw[o8,ha0] at fin
    have hxa:exL [a0]= .lst 4 [a0.cs]:=rfl
    by_cases hc:a0.op=13
    ·have h13:Do [a0]=true:=by simp[Do,hc]
     simp-implicitDefEqProofs[o8,hae,hc,h13,hxa]
     rw[hxa,hae,hc] at fin
     exact fin _ (by simp) (by simp)
    ·rw[hbad (by rw[hh1,o8,ha0];simp[Do,hc])]
     simp-implicitDefEqProofs[o8,hae,hc,hxa]
   ·have hh2:jM s=true:=by rw[hh1];simp[o8]
    simp-implicitDefEqProofs[o8,hh2]
    exact fin _ (by simp) (by simp)
  intro _ h1
  have hh:au (d+1) s=(s.args.all gD&&(s.body.all (au d)&&s.els.all (au d))):=by rw[au,AU,h1,Bool.true_and,Bool.and_assoc]
  simp-implicitDefEqProofs[hxl]
  refine aU (fun i:Nat=>am 91 [(1,.p (.int .i64 (4-d))),(2,.ptr 0 5 0 0),(69,.p (exL s.args)),(70,.p (.int .i64 s.args.length)),(71,.p (.int .i64 i))]) (fun _=>[.row 5 [[.p (.int .i64 s.op),.p (.str s.name),.p (exL s.args),.p (smL s.body),.p (smL s.els)]]]) (fun i=>i≤s.args.length∧(s.args.take i).all gD=true) (fun i=>s.args.length-i) 0 (by simp) ?_ ?_
  ·exact ae (by simp) (by simp[okO,below]) (by simp[below,hxl])
  rintro i ⟨hi,ha⟩
  simp-implicitDefEqProofs[hxl]
  refine bf (fun h=>?_) (fun h=>?_)
  ·simp at h
   have hg:=QW h
   have hks:=aS (Rd h)
   have hkc:=s.args[i].cs_eq
   have hx:=uk G hK hS s.args[i] (by omega)
   rw[hkc] at hx
   simp-implicitDefEqProofs[hg,hkc]
   refine hx.use ?_
   by_cases ho:gD s.args[i]=true
   ·simp-implicitDefEqProofs[ho]
    refine⟨i+1,⟨h,by rw[←Rc,ef h,ha,ho];rfl⟩,by omega,?_⟩
    refine ig (m:=1) (by omega) (eE rfl rfl (by simp[okO,below])) (by simp[below,hxl,w1 (i:=i) (by omega)])
   ·have ho':gD s.args[i]=false:=by simpa using ho
    rw[hh,lE h ho']
    simp-implicitDefEqProofs[ho']
  ·simp at h
   have ha2:s.args.all gD=true:=gx h ha
   rw[hh,ha2,Bool.true_and]
   simp-implicitDefEqProofs[hnw]
   refine(hblk s.body (by omega)).use ?_
   cases hb:s.body.all (au d) with
   |true=>
    simp-implicitDefEqProofs[hnw]
    refine(hblk s.els (by omega)).use ?_
    simp-implicitDefEqProofs[]
   |false=>
    simp-implicitDefEqProofs[]
end
section
variable (G:aJ)
structure Vis (σ:Type) where
 I:σ→List AO
 n:Nat
 F:FuncId
 caps:List AV
 len:∀st,(I st).length=n
 ok:∀st,∀o∈I st,okO n o
 capsOk:ah n caps
theorem Vis.pre{σ:Type}(V:Vis σ){f:FuncId}{args:List AV}{st st':σ}{v:AV}(H:AC Tryz.prog G f args (V.I st) fun x h=>x= .ret v∧h=V.I st')(rest:List AO)(ha:ah V.n args):
 AC Tryz.prog G f args (V.I st++rest) fun x h=>x= .ret v∧h=V.I st'++rest:=by
 refine(AC.pre H rest (by rw[V.len];exact ha) (by rw[V.len];exact V.ok st) ?_).mono ?_
 ·rintro x h ⟨_,rfl⟩;rw[V.len,V.len]
 ·rintro x h ⟨h1,⟨rfl,rfl⟩,rfl⟩
  exact⟨rfl,rfl⟩
theorem Vis.trim{σ:Type}(V:Vis σ){f:FuncId}{args:List AV}{st st':σ}{v:AV}(H:AC Tryz.prog G f args (V.I st) fun x h=>x= .ret v∧∃l,h=V.I st'++l)(hv:below V.n v):
 AC Tryz.prog G f args (V.I st) fun x h=>x= .ret v∧h=V.I st':=by
 refine H.wk (fun t v h ⟨e,_⟩=>by cases e) ?_
 rintro u h ⟨e,l,rfl⟩
 cases e
 refine⟨v,V.I st',vC (n:=V.n) (by rw[V.len];exact Rj _) (eE (by rw[←V.len st',List.take_left'];rfl) (V.len _) (V.ok _)) ?_,rfl,rfl⟩
 simp[Fgt,hv]
theorem sI{n m:Nat}(h:n≤m){o:AO}(ho:okO n o):okO m o:=by
 cases o with
 |dead=>trivial
 |sit=>trivial
 |row sz es=>exact fun e he=>aW h _ (ho e he)
 |mp es=>exact fun e he=>(aW h [e.2] ⟨ho e he,trivial⟩).1
theorem Vis.oks{σ:Type}(V:Vis σ)(st:σ){m:Nat}(hm:V.n≤m){r:List AO}(hr:∀o∈r,okO m o):∀o∈V.I st++r,okO m o:=by
 intro o ho
 rcases Rf.1 ho with h|h
 ·exact sI hm (V.ok st o h)
 ·exact hr o h
theorem Vis.same{σ:Type}(V:Vis σ)(st:σ){k n:Nat}(hk:k≤V.n){r s:List AO}{l l1:List (Nat × AV)}(hr:∀o∈r,okO (V.n+r.length) o)(H:FgA (V.n+r.length) l l1):Wk k (am n l) (V.I st++(r++s)) (am n l1) (V.I st++r):=by
 have hl:(V.I st++r).length=V.n+r.length:=by rw[Rn,V.len]
 refine ig (m:=V.n+r.length) (by omega) (eE ?_ hl (V.oks st (by omega) hr)) H
 rw[←RB,←hl,List.take_left'];rfl
theorem Vis.same0{σ:Type}(V:Vis σ)(st:σ){k n:Nat}(hk:k≤V.n){s:List AO}{l l1:List (Nat × AV)}(H:FgA V.n l l1):Wk k (am n l) (V.I st++s) (am n l1) (V.I st):=by
 refine ig (m:=V.n) (by omega) (eE ?_ (V.len _) (V.ok st)) H
 rw[←V.len st,List.take_left'];rfl
theorem JZ{α:Type}{a b:List α}{n:Nat}(h:a.length=n)(i:Nat):(a++b)[n+i]?=b[i]?:=by
 rw[←h,Rl (by omega)];congr 1;omega
theorem Kc{σ:Type}(V:Vis σ)(step:σ→Ex→σ)(inv:σ→Prop)(B:Nat)(hB:B≤1073741824)
 (hv:∀st e,inv st→e.sz≤B→inv (step st e)∧AC Tryz.prog G V.F (.agg (e.cs.map .p)::V.caps) (V.I st) fun x h=>x= .ret (.tup [])∧h=V.I (step st e)):
 ∀(N:Nat) (e:Ex),e.sz<N→e.sz≤B→∀st,inv st→inv (e.pre.foldl step st)∧AC Tryz.prog G fV [.agg (e.cs.map .p),.fn (.func V.F) V.caps] (V.I st) fun x h=>x= .ret (.tup [])∧h=V.I (e.pre.foldl step st):=by
 intro N
 induction N with
 |zero=>intro e h;omega
 |succ N ih=>
  intro e he hz st hi
  have hec:=e.cs_eq
  have hsz:=e.sz_eq
  have hkl:=bi e.kids
  have hxl:exL e.kids= .lst 4 (e.kids.map Ex.cs):=rfl
  have hlen:=V.len
  obtain⟨i1,h1⟩:=hv st e hi hz
  have hinv:∀i,i≤e.kids.length→inv ((eZ (e.kids.take i)).foldl step (step st e)):=by
   intro i
   induction i with
   |zero=>intro _;exact i1
   |succ i ihi=>
    intro hl
    have hg:i<e.kids.length:=by omega
    have hks:=aS (Rd hg)
    rw[an hg,mz,List.foldl_append,eZ,eZ,RL]
    exact(ih e.kids[i] (by omega) (by omega) _ (ihi (by omega))).1
  refine⟨?_,?_⟩
  ·rw[Ex.pre_eq,List.foldl_cons]
   have:=hinv e.kids.length (Rj _)
   rwa[RA] at this
  refine V.trim G (AC.go sg ?_) (by simp[below])
  have hcb:=V.capsOk
  have hcb1:ah (V.n+1) V.caps:=aW (by omega) _ hcb
  rw[hec] at h1
  simp-implicitDefEqProofs[nj,hec,hlen]
  refine(V.pre G h1 _ ⟨by simp[below],hcb⟩).mono ?_
  rintro r h ⟨rfl,rfl⟩
  simp-implicitDefEqProofs[aa,hlen,hxl]
  refine aU (fun i:Nat=>am 20 [(1,.fn (.func V.F) V.caps),(2,.ptr V.n 4 0 0),(10,.p (exL e.kids)),(11,.p (.int .i64 e.kids.length)),(12,.p (.int .i64 i))])
   (fun i=>V.I ((eZ (e.kids.take i)).foldl step (step st e))++[.row 4 [[.p (.int .i64 e.op),.p (.int .i64 e.n),.p (.str e.name),.p (exL e.kids)]]]) (fun i=>i≤e.kids.length) (fun i=>e.kids.length-i) 0 (by simp) ?_ ?_
  ·refine V.same (r:=[_]) (s:=[]) _ (Rj _) (by simp[okO,below]) ?_
   simp[below,hxl,hcb1]
  intro i hil
  simp-implicitDefEqProofs[hxl]
  refine bf (fun hc=>?_) (fun hc=>?_)
  ·simp at hc
   have hg:=QW hc
   have hks:=aS (Rd hc)
   have hkc:=e.kids[i].cs_eq
   have hI:=(ih e.kids[i] (by omega) (by omega) _ (hinv i hil)).2
   rw[hkc] at hI
   simp-implicitDefEqProofs[hg,hkc,hlen]
   refine(V.pre G hI _ ⟨by simp[below],by simp[below,hcb],trivial⟩).mono ?_
   rintro r h ⟨rfl,rfl⟩
   simp-implicitDefEqProofs[aa]
   refine⟨i+1,hc,by omega,?_⟩
   have hf:(eZ (e.kids.take (i+1))).foldl step (step st e)=e.kids[i].pre.foldl step ((eZ (e.kids.take i)).foldl step (step st e)):=by
    rw[an hc,mz,List.foldl_append,eZ,eZ,RL]
   rw[hf]
   refine V.same (r:=[_]) (s:=[_]) _ (Rj _) (by simp[okO,below]) ?_
   simp[below,hxl,hcb1,w1 (i:=i) (by omega)]
  ·simp at hc
   have hie:i=e.kids.length:=by omega
   subst hie
   rw[RA,Ex.pre_eq,List.foldl_cons]
   simp-implicitDefEqProofs[]
theorem LH{σ:Type}(V:Vis σ)(step:σ→Sm × Nat→σ)(inv:σ→Prop)(B:Nat)(hB:B≤1073741824)
 (hv:∀st s d,inv st→s.sz≤B→inv (step st (s,d))∧AC Tryz.prog G V.F (.agg (s.cs.map .p):: .p (.int .i64 (d:Nat))::V.caps) (V.I st) fun x h=>x= .ret (.tup [])∧h=V.I (step st (s,d))):
 ∀(N:Nat) (l:List Sm),aq l<N→aq l≤B→∀(d:Nat),d+aq l≤1099511627776→∀st,inv st→inv ((cU d l).foldl step st)∧AC Tryz.prog G io [.p (smL l),.p (.int .i64 d),.fn (.func V.F) V.caps] (V.I st) fun x h=>x= .ret (.tup [])∧h=V.I ((cU d l).foldl step st):=by
 intro N
 induction N with
 |zero=>intro l h;omega
 |succ N ih=>
  intro l hl hz d hd st hi
  have hll:=bk l
  have hlen:=V.len
  have hsl:∀l,smL l= .lst 5 (l.map Sm.cs):=fun _=>rfl
  have hone:∀s:Sm,s∈l→∀st,inv st→inv ((s.pre d).foldl step st):=by
   intro s hs st hi
   have hm:=bD hs
   have hsz:=s.sz_eq
   have i1:=(hv st s d hi (by omega)).1
   have i2:=(ih s.body (by omega) (by omega) (d+1) (by omega) _ i1).1
   have i3:=(ih s.els (by omega) (by omega) (d+1) (by omega) _ i2).1
   rw[Sm.pre_eq,List.foldl_cons,List.foldl_append]
   exact i3
  have hinv:∀i,i≤l.length→inv ((cU d (l.take i)).foldl step st):=by
   intro i
   induction i with
   |zero=>intro _;exact hi
   |succ i ihi=>
    intro hl
    have hg:i<l.length:=by omega
    rw[an hg,rq,List.foldl_append,cU,cU,RL]
    exact hone _ (Rd hg) _ (ihi (by omega))
  refine⟨?_,?_⟩
  ·have:=hinv l.length (Rj _)
   rwa[RA] at this
  refine V.trim G (AC.go zr ?_) (by simp[below])
  have hcb:=V.capsOk
  simp-implicitDefEqProofs[rS,hsl]
  refine aU (fun i:Nat=>am 31 [(1,.p (.int .i64 d)),(2,.fn (.func V.F) V.caps),(8,.p (smL l)),(9,.p (.int .i64 l.length)),(10,.p (.int .i64 i))])
   (fun i=>V.I ((cU d (l.take i)).foldl step st)) (fun i=>i≤l.length) (fun i=>l.length-i) 0 (by simp) ?_ ?_
  ·rw[hlen]
   have:=V.same0 (s:=[]) st (k:=V.n) (n:=31) (Rj _) (l:=[(10,.p (.int .i64 0)),(9,.p (.int .i64 l.length)),(8,.p (smL l)),(0,.p (smL l)),(1,.p (.int .i64 d)),(2,.fn (.func V.F) V.caps)]) (l1:=[(1,.p (.int .i64 d)),(2,.fn (.func V.F) V.caps),(8,.p (smL l)),(9,.p (.int .i64 l.length)),(10,.p (.int .i64 0))]) (by simp[below,hcb])
   rw[RL] at this
   exact this
  intro i hil
  simp-implicitDefEqProofs[hsl]
  refine bf (fun hc=>?_) (fun hc=>?_)
  ·simp at hc
   have hg:=QW hc
   have hks:=bD (Rd hc)
   have hkc:=l[i].cs_eq
   have hsz:=l[i].sz_eq
   have hf:(cU d (l.take (i+1))).foldl step st=(l[i].pre d).foldl step ((cU d (l.take i)).foldl step st):=by
    rw[an hc,rq,List.foldl_append,cU,cU,RL]
   have ii:=hinv i hil
   obtain⟨i1,h1⟩:=hv _ l[i] d ii (by omega)
   obtain⟨i2,h2⟩:=ih l[i].body (by omega) (by omega) (d+1) (by omega) _ i1
   obtain⟨i3,h3⟩:=ih l[i].els (by omega) (by omega) (d+1) (by omega) _ i2
   rw[Sm.pre_eq,List.foldl_cons,List.foldl_append] at hf
   have hwd:IntKind.i64.wrap ((d:Int)+1)=((d+1:Nat):Int):=by rw[af (by omega) (by omega)];omega
   rw[hkc] at h1
   simp-implicitDefEqProofs[hg,hkc,hlen]
   refine(V.pre G h1 _ ⟨by simp,by simp,hcb⟩).mono ?_
   rintro r h ⟨rfl,rfl⟩
   simp-implicitDefEqProofs[aa,hlen,hwd]
   refine(V.pre G h2 _ ⟨by simp,by simp,by simp[below,hcb],trivial⟩).mono ?_
   rintro r h ⟨rfl,rfl⟩
   simp-implicitDefEqProofs[aa,hlen,hwd]
   refine(V.pre G h3 _ ⟨by simp,by simp,by simp[below,hcb],trivial⟩).mono ?_
   rintro r h ⟨rfl,rfl⟩
   simp-implicitDefEqProofs[aa]
   refine⟨i+1,hc,by omega,?_⟩
   rw[hf]
   refine V.same0 (s:=[_]) _ (Rj _) ?_
   simp[below,hsl,hcb,w1 (i:=i) (by omega)]
  ·simp at hc
   have hie:i=l.length:=by omega
   subst hie
   rw[RA]
   simp-implicitDefEqProofs[]
end
section
def ixI:Option Nat→Int|none=> -1|some i=>i
def vaC(nf:Bool)(id n:Nat):AV:=if nf then .nils else .sl id 3 0 n
def lvC(v:LV):List AV:=[.p (.str v.name),.p (.int .i64 v.num),.p (.int .i64 v.block)]
def lvR(vs:List LV):List (List AV):=vs.reverse.map lvC
def roC(nf:Bool)(vs:List LV):AO:=if nf then .dead else .row 3 (lvR vs)
def wC(id:Nat)(nf:Bool)(fns:List Fd)(k:Nat)(w:WS):List AV:=[.p (fdL fns),.p (.int .i64 k),vaC nf id w.vs.length,.p (.int .i64 w.count),.p (.int .i64 w.code)]
def wO(id:Nat)(nf:Bool)(fns:List Fd)(k:Nat)(w:WS):AO:= .row 5 [wC id nf fns k w]
def HWk(nf:Bool)(fns:List Fd)(k:Nat)(w:WS):List AO:=[wO 1 nf fns k w,roC nf w.vs]
theorem vf(vs:List LV):(lvR vs).length=vs.length:=by simp[lvR]
theorem AS(vs:List LV):∀x∈lvR vs,ah 0 x:=by
 intro x hx;obtain⟨m,_,rfl⟩:=Rp.1 hx;simp[lvC,ah,below]
theorem gV(nf:Bool)(vs:List LV)(n:Nat):okO n (roC nf vs):=by
 cases nf
 ·exact bP (fun e he=>AS vs e he)
 ·exact trivial
theorem FW{nf:Bool}{id n m:Nat}(h:id<m):below m (vaC nf id n):=by cases nf<;>simp[vaC,below,h]
theorem wa{id:Nat}{nf:Bool}{fns:List Fd}{k:Nat}{w:WS}{m:Nat}(h:id<m):ah m (wC id nf fns k w):=⟨by simp,by simp,FW h,by simp,by simp,trivial⟩
theorem ux{id:Nat}{nf:Bool}{fns:List Fd}{k:Nat}{w:WS}{m:Nat}(h:id<m):okO m (wO id nf fns k w):=by
 intro e he;rw[Ri.1 he];exact wa h
theorem KU(σ:List Nat)(nf:Bool)(id n:Nat):ren σ (vaC nf id n)=vaC nf (σ.getD id 0) n:=by cases nf<;>rfl
theorem Ac(σ:List Nat)(id:Nat)(nf:Bool)(fns:List Fd)(k:Nat)(w:WS):bI σ (wC id nf fns k w)=wC (σ.getD id 0) nf fns k w:=by
 simp only[wC,bI,KU];rfl
theorem Eo(σ:List Nat)(id:Nat)(nf:Bool)(fns:List Fd)(k:Nat)(w:WS):gT σ (wO id nf fns k w)=wO (σ.getD id 0) nf fns k w:=by
 simp only[wO,gT,Rw,List.map_nil,Ac]
theorem BE(σ:List Nat)(nf:Bool)(vs:List LV):gT σ (roC nf vs)=roC nf vs:=by
 cases nf
 ·show AO.row 3 ((lvR vs).map (bI σ))= .row 3 (lvR vs)
  rw[Rq (g:=id) fun x hx=>dT σ x (AS vs x hx)];simp
 ·rfl
theorem Dv(pre:List LV)(v:LV)(r:List LV):(lvR (pre++v::r))[r.length]?=some (lvC v):=by
 simp[lvR]
theorem Is(v:LV)(r:List LV):lvR (v::r)=lvR r++[lvC v]:=by simp[lvR]
def tQ:List LV→List UInt8→Int
 |[],_=> -1
 |v::r,s=>if v.name=s then r.length else tQ r s
theorem tn:∀(vs:List LV) (s:List UInt8),(lkV vs s=none∧tQ vs s= -1)∨∃pre v r,vs=pre++v::r∧lkV vs s=some v∧tQ vs s=r.length
 |[],s=> .inl ⟨rfl,rfl⟩
 |v::r,s=>by
  by_cases h:v.name=s
  ·exact .inr ⟨[],v,r,rfl,by simp[lkV,h],by simp[tQ,h]⟩
  ·have h1:lkV (v::r) s=lkV r s:=by simp[lkV,h]
   have h2:tQ (v::r) s=tQ r s:=by simp[tQ,h]
   rw[h1,h2]
   rcases tn r s with h|⟨pre,u,q,e,h⟩
   ·exact .inl h
   ·exact .inr ⟨v::pre,u,q,by rw[e];rfl,h⟩
def K_spec_l4Walk_put:AK:= .seq (.reg [oJ 6 (.mov (.c (.p (.str []))))]) (.seq (.reg [oM 8 0,oM 9 1,oJ 10 (.call dD [(.t 8),(.t 9)]),oM 7 10]) (.cut (.seq (.reg [oM 11 7,oJ 12 (.bin .geq (.t 11) (.c (.p (.int .i64 0)))),oM 13 12,⟨(some 14),some (13,true),.mov (.t 0)⟩,⟨(some 15),some (13,true),.nilck (.t 14)⟩,⟨(some 16),some (13,true),.fldA 2 (.t 15)⟩,⟨(some 17),some (13,true),.ld none (.t 16)⟩,⟨(some 18),some (13,true),.mov (.t 7)⟩,⟨(some 19),some (13,true),.idxS 3 (.t 17) (.t 18)⟩,⟨(some 20),some (13,true),.fldA 2 (.t 19)⟩,⟨(some 21),some (13,true),.ld none (.t 20)⟩,⟨(some 22),some (13,true),.mov (.t 2)⟩,⟨(some 23),some (13,true),.bin .eql (.t 21) (.t 22)⟩,oJ 24 (.pick (.t 13) (.t 23) (.c (.p (.bool false))))]) (.cond (.t 24) (.reg [oM 25 0,oJ 26 (.call bh [(.t 25),(.c (.p (.int .i64 2)))])]) (.skip))) (.seq (.reg [oM 27 0,oM 28 0,oN 29 28,oF 30 2 29,oM 32 1,oM 33 0,oN 34 33,oF 35 3 34,oM 37 2,oL 31 30,oL 36 35,oJ 38 (.bld [(.p (.str [])),(.p (.int .i64 0)),(.p (.int .i64 0))] [(0,1,(.t 32)),(1,1,(.t 36)),(2,1,(.t 37))]),oJ 39 (.bslP 3 [(.p (.str [])),(.p (.int .i64 0)),(.p (.int .i64 0))] 1 [(0,3,(.t 38))]),oJ 40 (.app 3 32 (.t 31) (.t 39)),oN 41 27,oF 42 2 41,oS 42 40]) (.seq (.reg [oM 43 0,oM 44 0,oN 45 44,oF 46 3 45,oL 47 46,oJ 48 (.bin .add (.t 47) (.c (.p (.int .i64 1)))),oN 49 43,oF 50 3 49,oS 50 48]) (.seq (.reg [oM 51 0,oN 52 51,oF 53 3 52,oL 54 53,oJ 55 (.bin .sub (.t 54) (.c (.p (.int .i64 1)))),oJ 56 (.call gv [(.t 55)]),oM 6 56]) (.ret))))))
theorem sC:K_spec_l4Walk_put.whole=F_spec_l4Walk_put.ak:=rfl
variable (G:aJ)
theorem HQ(l:List Fd)(s:List UInt8)(hl:l.length≤1099511627776):VF Tryz.prog G gW [.agg [.p (fdL l)],.p (.str s)] (.p (.int .i64 (ixI (dX l s)))):=by
 refine AC.go Cd ?_
 have hfl:∀l,fdL l= .lst 3 (l.map Fd.cs):=fun _=>rfl
 simp-implicitDefEqProofs[ua,hfl]
 refine aU (fun i:Nat=>am 22 [(1,.p (.str s)),(2,.ptr 0 1 0 0),(5,.p (.int .i64 i))]) (fun _=>[.row 1 [[.p (.lst 3 (l.map Fd.cs))]]]) (fun i=>i≤l.length∧∀f∈l.take i,f.name≠s) (fun i=>l.length-i) 0 (by simp) (ae (by simp) (by simp[okO]) (by simp[below])) ?_
 intro i ⟨hi,hn⟩
 simp-implicitDefEqProofs[]
 refine bf (fun h=>?_) (fun h=>?_)
 ·simp at h
  have hg:=QW h
  have hce:l[i].cs=[.str l[i].name,az l[i].params,smL l[i].body]:=rfl
  by_cases he:l[i].name=s
  ·have hf:dX l s=some i:=by
    rw[dX,Rv]
    exact⟨h,by simpa using he,fun j hj=>by have:=hn l[j] (List.mem_take_iff_getElem.2 ⟨j,by omega,rfl⟩);simpa using this⟩
   simp-implicitDefEqProofs[hg,hce,he,hf,ixI]
  ·simp-implicitDefEqProofs[hg,hce,he]
   refine⟨i+1,⟨h,fun p hp=>?_⟩,by omega,ae (by simp) (by simp[okO]) (by simp[below,w1 (i:=i) (by omega)])⟩
   rw[an h] at hp
   rcases Rf.1 hp with hp|hp
   ·exact hn p hp
   ·rw[Ri.1 hp];exact he
 ·simp at h
  rw[Rb h] at hn
  have hf:dX l s=none:=by
   rw[dX,RI];intro x hx;simpa using hn x hx
  simp-implicitDefEqProofs[hf,ixI]
theorem MR:∀m:Nat,m<26→((([97,98,99,100,101,102,103,104,105,106,107,108,109,110,111,112,113,114,115,116,117,118,119,120,121,122]:List UInt8).take (m+1)).drop m)=[UInt8.ofNat (97+m)]:=by decide
theorem Ko:∀m:Nat,m<26→List.drop m ((97:UInt8)::List.take m [98,99,100,101,102,103,104,105,106,107,108,109,110,111,112,113,114,115,116,117,118,119,120,121,122])=[97+UInt8.ofNat m]:=by decide
theorem vW(n:Nat):VF Tryz.prog G gv [.p (.int .i64 n)] (.p (.str (vnm n))):=by
 refine AC.go yi ?_
 have hm:n%26<26:=Nat.mod_lt _ (by omega)
 have ht:(n:Int).tmod 26=((n%26:Nat):Int):=rfl
 have hw:IntKind.i64.wrap (((n%26:Nat):Int)+1)=((n%26+1:Nat):Int):=w1 (by omega)
 have habc:=MR _ hm
 rw[vnm]
 generalize n%26=m at hm ht hw habc
 have h0:(0:Int)≤(m:Int)+1:=by omega
 have h1:m+1≤26:=by omega
 simp-implicitDefEqProofs[qI,ht,hw,h0,h1]
 exact⟨by omega,Ko m hm⟩
theorem pG(nf:Bool)(fns:List Fd)(k:Nat)(w:WS)(c:Int):AC Tryz.prog G bh [.ptr 0 5 0 0,.p (.int .i64 c)] (HWk nf fns k w) fun x h=>x= .ret (.tup [])∧h=HWk nf fns k ⟨w.vs,w.count,fl w.code c⟩:=by
 refine AC.go ru ?_
 by_cases h0:w.code=0
 ·simp-implicitDefEqProofs[gS,HWk,wO,wC,h0,fl]
 ·simp-implicitDefEqProofs[gS,HWk,wO,wC,h0,fl]
theorem vU(nf:Bool)(fns:List Fd)(k:Nat)(w:WS):∀o∈HWk nf fns k w,okO 2 o:=by
 intro o ho
 simp only[HWk,Rt,List.not_mem_nil,or_false] at ho
 rcases ho with rfl|rfl
 ·exact ux (by omega)
 ·exact gV _ _ _
theorem Ez(nf:Bool)(fns:List Fd)(k:Nat)(w:WS)(hn:nf=true→w.vs=[])(hl:w.vs.length≤1099511627776)(s:List UInt8):AC Tryz.prog G dD [.ptr 0 5 0 0,.p (.str s)] (HWk nf fns k w) fun x h=>x= .ret (.p (.int .i64 (tQ w.vs s)))∧h=HWk nf fns k w:=by
 refine AC.go rj ?_
 have hok:=vU nf fns k w
 cases nf with
 |true=>
  have hv:=hn rfl
  rw[HWk] at hok⊢
  simp-implicitDefEqProofs[gO,wO,wC,vaC,hv]
  refine aU (fun _:Unit=>am 27 [(0,.ptr 0 5 0 0),(1,.p (.str s)),(5,.p (.int .i64 (-1)))]) (fun _=>[wO 1 true fns k w,roC true w.vs]) (fun _=>True) (fun _=>0) () trivial ?_ ?_
  ·have e:wO 1 true fns k w= .row 5 [[.p (fdL fns),.p (.int .i64 k),.nils,.p (.int .i64 w.count),.p (.int .i64 w.code)]]:=by simp[wO,wC,vaC]
   rw[←e,←hv]
   exact ae (by simp) hok (by simp[below,af (x:= -1) (by omega) (by omega)])
  ·intro _ _
   simp-implicitDefEqProofs[tQ]
   simp[wO,wC,vaC,hv]
 |false=>
  rw[HWk] at hok⊢
  have e:∀r,roC false r= .row 3 (lvR r):=fun _=>rfl
  have hw0:IntKind.i64.wrap ((w.vs.length:Int)-1)=(w.vs.length:Int)-1:=af (by omega) (by omega)
  simp-implicitDefEqProofs[gO,wO,wC,vaC,hw0]
  refine aU (fun r:List LV=>am 27 [(0,.ptr 0 5 0 0),(1,.p (.str s)),(5,.p (.int .i64 ((r.length:Int)-1)))]) (fun _=>[wO 1 false fns k w,roC false w.vs]) (fun r=>∃pre,w.vs=pre++r∧tQ w.vs s=tQ r s) (fun r=>r.length) w.vs ⟨[],rfl,rfl⟩ ?_ ?_
  ·exact ae (h:=[wO 1 false fns k w,roC false w.vs]) (by simp) hok (by simp[below])
  ·rintro r ⟨pre,e1,e2⟩
   cases r with
   |nil=>
    simp-implicitDefEqProofs[wO,wC,vaC]
    rw[e2];rfl
   |cons v r=>
    have hat:=Dv pre v r
    rw[←e1] at hat
    have hlen:r.length<w.vs.length:=by rw[e1];simp;omega
    have hll:=vf w.vs
    have c1:((r.length+1:Nat):Int)-1=(r.length:Int):=by omega
    have hw1:IntKind.i64.wrap ((r.length:Int)-1)=(r.length:Int)-1:=af (by omega) (by omega)
    by_cases hs:v.name=s
    ·simp-implicitDefEqProofs[wO,wC,vaC,e,c1,hat,hlen,lvC,hs]
     rw[e2];simp[tQ,hs]
    ·simp-implicitDefEqProofs[wO,wC,vaC,e,c1,hat,hlen,lvC,hs]
     refine⟨r,⟨⟨pre++[v],by rw[e1];simp⟩,by rw[e2];simp[tQ,hs]⟩,by simp,?_⟩
     refine ae (h:=[wO 1 false fns k w,roC false w.vs]) (by simp) hok ?_
     simp[below,hw1]
theorem IO(nf:Bool)(fns:List Fd)(k:Nat)(w:WS)(hn:nf=true→w.vs=[])(hl:w.vs.length≤1099511627776)(s:List UInt8):AC Tryz.prog G da [.ptr 0 5 0 0,.p (.str s)] (HWk nf fns k w) fun x h=>x= .ret (.p (.str (vL w.vs s)))∧h=HWk nf fns k ⟨w.vs,w.count,nw w.vs s w.code⟩:=by
 refine AC.go sY ?_
 simp-implicitDefEqProofs[lP]
 refine(Ez G nf fns k w hn hl s).mono ?_
 rintro r h ⟨rfl,rfl⟩
 rcases tn w.vs s with⟨e1,e2⟩|⟨pre,v,q,e0,e1,e2⟩
 ·simp-implicitDefEqProofs[aa,e2]
  refine(pG G nf fns k w 3).mono ?_
  rintro r h ⟨rfl,rfl⟩
  simp-implicitDefEqProofs[aa,vL,nw,e1]
 ·have hat:=Dv pre v q
  rw[←e0] at hat
  have hlen:q.length<w.vs.length:=by rw[e0];simp;omega
  have hnf:nf=false:=by
   cases nf with
   |false=>rfl
   |true=>rw[hn rfl] at e0;simp at e0
  subst hnf
  have e:∀r,roC false r= .row 3 (lvR r):=fun _=>rfl
  have hq:¬(q.length:Int)<0:=by omega
  simp-implicitDefEqProofs[aa,e2,hq,HWk,wO,wC,vaC,e,hat,hlen,lvC]
  refine(vW G v.num).use ?_
  simp-implicitDefEqProofs[vL,nw,e1]
theorem IJ(nf:Bool)(fns:List Fd)(k:Nat)(w:WS)(hn:nf=true→w.vs=[])(hl:w.vs.length≤1099511627776)(hc:w.count≤1099511627776)(s:List UInt8)(b:Nat):AC Tryz.prog G cW [.ptr 0 5 0 0,.p (.str s),.p (.int .i64 b)] (HWk nf fns k w) fun x h=>x= .ret (.p (.str (vnm w.count)))∧h=[wO 2 false fns k (kQ w s b),.dead,roC false (kQ w s b).vs]:=by
 refine AC.goK sF sC ?_
 have hw1:IntKind.i64.wrap ((w.count:Int)+1)=(w.count:Int)+1:=af (by omega) (by omega)
 have hw2:IntKind.i64.wrap ((w.count:Int)+1-1)=(w.count:Int):=by rw[af (by omega) (by omega)];omega
 have hw3:IntKind.i64.wrap (w.count:Int)=(w.count:Int):=af (by omega) (by omega)
 have hll:=vf w.vs
 simp-implicitDefEqProofs[K_spec_l4Walk_put,F_spec_l4Walk_put]
 refine(Ez G nf fns k w hn hl s).mono ?_
 rintro r h ⟨rfl,rfl⟩
 simp-implicitDefEqProofs[aa]
 refine kG (am 57 [(0,.ptr 0 5 0 0),(1,.p (.str s)),(2,.p (.int .i64 b))]) (HWk nf fns k ⟨w.vs,w.count,nS w.vs s b w.code⟩) ?_ ?_
 ·rcases tn w.vs s with⟨e1,e2⟩|⟨pre,v,q,e0,e1,e2⟩
  ·simp-implicitDefEqProofs[e2,nS,e1]
   exact ae (by simp[HWk]) (vU nf fns k w) (by simp[below,HWk])
  ·have hat:=Dv pre v q
   rw[←e0] at hat
   have hlen:q.length<w.vs.length:=by rw[e0];simp;omega
   have hnf:nf=false:=by
    cases nf with
    |false=>rfl
    |true=>rw[hn rfl] at e0;simp at e0
   subst hnf
   have e:∀r,roC false r= .row 3 (lvR r):=fun _=>rfl
   have hq:(0:Int)≤(q.length:Int):=by omega
   by_cases hb:v.block=b
   ·have:=pG G false fns k w 2
    simp only[HWk,wO,wC,vaC,e] at this
    simp-implicitDefEqProofs[e2,HWk,wO,wC,vaC,e,hat,hlen,lvC,hb]
    refine this.mono ?_
    rintro r h ⟨rfl,rfl⟩
    have hp:nS w.vs s b w.code=fl w.code 2:=by simp[nS,e1,hb]
    rw[hp]
    simp-implicitDefEqProofs[aa]
    refine ae (h:=HWk false fns k ⟨w.vs,w.count,fl w.code 2⟩) ?_ (vU _ _ _ _) ?_
    ·simp[HWk]
    ·simp[below,HWk]
   ·have hp:nS w.vs s b w.code=w.code:=by simp[nS,e1,hb]
    have hbi:¬(v.block:Int)=(b:Int):=by omega
    rw[hp]
    simp-implicitDefEqProofs[e2,HWk,wO,wC,vaC,e,hat,hlen,lvC,hbi]
    refine ae (h:=HWk false fns k w) ?_ (vU _ _ _ _) ?_
    ·simp[HWk]
    ·simp[below,HWk]
 ·cases nf with
  |true=>
   have hv:=hn rfl
   simp-implicitDefEqProofs[HWk,wO,wC,vaC,roC,hv,hw1,hw2,hw3]
   refine(vW G w.count).use ?_
   simp-implicitDefEqProofs[kQ,lvR,lvC,hv]
  |false=>
   have e:∀r,roC false r= .row 3 (lvR r):=fun _=>rfl
   simp-implicitDefEqProofs[HWk,wO,wC,vaC,e,hw1,hw2,hw3,hll]
   refine⟨by omega,?_⟩
   refine(vW G w.count).use ?_
   simp-implicitDefEqProofs[kQ,Is,lvC]
   rw[Rb (by omega)]
end
section
def K_spec_l4Walk_expr:AK:= .seq (.reg [oJ 3 (.box 4 (.t 1)),oJ 4 (.alloc [(.p (.int .i64 0)),(.p (.int .i64 0)),(.p (.str [])),.nils])]) (.cut (.seq (.reg [oF 8 0 3,oL 9 8,oJ 10 (.bin .eql (.t 9) (.c (.p (.int .i64 2))))]) (.cond (.t 10) (.reg [oM 11 0,oF 12 2 3,oL 13 12,oJ 14 (.call da [(.t 11),(.t 13)]),oF 15 2 3,oS 15 14]) (.skip))) (.cut (.seq (.reg [oF 16 0 3,oL 17 16,oJ 18 (.bin .eql (.t 17) (.c (.p (.int .i64 13))))]) (.cond (.t 18) (.seq (.reg [oM 19 0,oN 20 19,oF 21 0 20,oF 23 2 3,oJ 22 (.ld (some 1) (.t 21)),oL 24 23,oJ 25 (.call gW [(.t 22),(.t 24)]),oM 5 25]) (.seq (.reg [oM 26 5,oJ 27 (.bin .lss (.t 26) (.c (.p (.int .i64 0)))),oM 28 27,⟨(some 29),some (28,false),.mov (.t 5)⟩,⟨(some 30),some (28,false),.mov (.t 0)⟩,⟨(some 31),some (28,false),.nilck (.t 30)⟩,⟨(some 32),some (28,false),.fldA 1 (.t 31)⟩,⟨(some 33),some (28,false),.ld none (.t 32)⟩,⟨(some 34),some (28,false),.bin .geq (.t 29) (.t 33)⟩,oJ 35 (.pick (.t 28) (.c (.p (.bool true))) (.t 34))]) (.cond (.t 35) (.reg [oM 36 0,oJ 37 (.call bh [(.t 36),(.c (.p (.int .i64 4)))])]) (.seq (.reg [oM 38 0,oN 39 38,oF 40 0 39,oF 41 0 40,oM 43 5,oF 48 3 3,oL 42 41,oJ 44 (.idxS 3 (.t 42) (.t 43)),oF 45 1 44,oL 46 45,oJ 47 (.len false (.t 46)),oL 49 48,oJ 50 (.len false (.t 49)),oJ 51 (.bin .neq (.t 47) (.t 50))]) (.cond (.t 51) (.reg [oM 52 0,oJ 53 (.call bh [(.t 52),(.c (.p (.int .i64 5)))])]) (.skip)))))) (.skip))) (.seq (.reg [oJ 54 (.bsl 4 [(.p (.int .i64 0)),(.p (.int .i64 0)),(.p (.str [])),.nils] 0 []),oM 6 54]) (.seq (.seq (.reg [oK 7 0]) (.blk 0 (.loop (.seq (.seq (.reg [oM 55 7,oF 56 3 3,oL 57 56,oJ 58 (.len false (.t 57)),oJ 59 (.bin .lss (.t 55) (.t 58))]) (.cond (.t 59) (.skip) (.exit 0))) (.seq (.blk 1 (.reg [oM 62 6,oM 63 0,oF 64 3 3,oL 65 64,oM 66 7,oJ 67 (.idxS 4 (.t 65) (.t 66)),oJ 68 (.ld (some 4) (.t 67)),oJ 69 (.call ca [(.t 63),(.t 68)]),oJ 70 (.bsl 4 [(.p (.int .i64 0)),(.p (.int .i64 0)),(.p (.str [])),.nils] 1 [(0,4,(.t 69))]),oJ 71 (.app 4 56 (.t 62) (.t 70)),oM 6 71])) (.reg [oM 60 7,oJ 61 (.bin .add (.t 60) (.c (.p (.int .i64 1)))),oM 7 61])))))) (.seq (.reg [oM 72 6,oF 73 3 3,oS 73 72]) (.seq (.reg [oJ 74 (.ld (some 4) (.t 3)),⟨none,none,.st 4 (.t 4) (.t 74)⟩]) (.ret)))))))
theorem ro:K_spec_l4Walk_expr.whole=F_spec_l4Walk_expr.ak:=rfl
variable (G:aJ)
theorem Bf{f:FuncId}{args:List AV}{nf:Bool}{fns:List Fd}{k:Nat}{w w':WS}{v:AV}(H:AC Tryz.prog G f args (HWk nf fns k w) fun x h=>x= .ret v∧h=HWk nf fns k w')(rest:List AO)(ha:ah 2 args):
 AC Tryz.prog G f args (wO 1 nf fns k w::roC nf w.vs::rest) fun x h=>x= .ret v∧h=wO 1 nf fns k w'::roC nf w'.vs::rest:=by
 refine(AC.pre H rest ha (vU _ _ _ _) ?_).mono ?_
 ·rintro x h ⟨_,rfl⟩;rfl
 ·rintro x h ⟨h1,⟨rfl,rfl⟩,rfl⟩
  exact⟨rfl,rfl⟩
theorem rE{n id:Nat}(hn:id<n){nf nf':Bool}{fns:List Fd}{k:Nat}{w:WS}{vs:List LV}{l:List AO}(r:∀o∈l,okO n o):∀o∈wO id nf fns k w::roC nf' vs::l,okO n o:=ag (ux hn) (ag (gV _ _ _) r)
theorem vK{ρ π:List Nat}{h r1:List AO}{i id:Nat}{nf:Bool}{fns:List Fd}{k:Nat}{w:WS}(hid:id<ρ.length)(e:h[i]?=some (wO (ρ.getD id 0) nf fns k w))(hr:HW ρ h π r1):HW ρ h (i::π) (wO id nf fns k w::r1):=by
 refine cK (es:=[wC id nf fns k w]) (fun x hx=>?_) ?_ hr
 ·rw[Ri.1 hx];exact wa hid
 ·rw[e,Rw,List.map_nil,Ac];rfl
theorem Fc{α:Type}{l:List α}{i j:Nat}{a b:α}(hij:i≠j)(h:l[j]?=some b):(l.set i a).set j b=l.set i a:=by
 apply List.ext_getElem?
 intro n
 rw[List.getElem?_set]
 split
 ·rename_i e
  subst e
  rw[Ra hij,h]
  rw[if_pos (by rw[Sb];exact(QX.1 h).1)]
 ·rfl
theorem zP(ρ:List Nat):∀l:List AV,ah 0 l→TW ρ l l
 |[],_=>by simp
 |v::r,h=>by
  rw[vg]
  refine⟨.inr ⟨(aW (Nat.zero_le _) [v] ⟨h.1,trivial⟩).1,?_⟩,zP ρ r h.2⟩
  have:=dT ρ [v] ⟨h.1,trivial⟩
  simpa[bI] using this
theorem OG{h:List AO}{wid id:Nat}{nf:Bool}{fns:List Fd}{k:Nat}{w:WS}(e0:h[wid]?=some (wO id nf fns k w))(e1:h[id]?=some (roC nf w.vs)):HW [wid,id] h [wid,id] (HWk nf fns k w):=by
 refine cK (es:=[wC 1 nf fns k w]) (fun x hx=>?_) ?_ ?_
 ·rw[Ri.1 hx];exact wa (by simp)
 ·rw[e0,Rw,List.map_nil,Ac];rfl
 ·exact dx e1 (gV _ _ _) bq
theorem Mg{f:FuncId}{args:List AV}{nf:Bool}{fns:List Fd}{k:Nat}{w:WS}{v:AV}{c:Int}(H:AC Tryz.prog G f (.ptr 0 5 0 0::args) (HWk nf fns k w) fun x h=>x= .ret v∧h=HWk nf fns k ⟨w.vs,w.count,c⟩)(ha:ah 0 args)(hv:below 0 v)
 {h:List AO}{wid id:Nat}(hid:wid≠id)(e0:h[wid]?=some (wO id nf fns k w))(e1:h[id]?=some (roC nf w.vs)):
 AC Tryz.prog G f (.ptr wid 5 0 0::args) h fun x h'=>x= .ret v∧h'=h.set wid (wO id nf fns k ⟨w.vs,w.count,c⟩):=by
 refine(H.frame [wid,id] (by simp[hid]) ?_ (OG e0 e1)).mono ?_
 ·rw[vg];exact⟨.inr ⟨by simp[below],rfl⟩,zP _ _ ha⟩
 ·rintro x h' ⟨x0,h0,⟨rfl,rfl⟩,_,rfl,rfl⟩
  refine⟨?_,?_⟩
  ·have:=dT ([wid,id]++List.range' h.length ((HWk nf fns k ⟨w.vs,w.count,c⟩).length-(HWk nf fns k w).length)) [v] ⟨hv,trivial⟩
   simp only[bI] at this
   simp only[wA]
   exact congrArg ARes.ret (List.cons.inj this).1
  ·simp only[HWk,Rr,List.length_nil,Nat.sub_self,List.range'_zero,RL,List.take_succ_cons,List.take_zero,Rw,List.map_nil,List.drop_succ_cons,List.drop_zero,Eo,BE,mrg]
   exact Fc hid e1
theorem Io{f:FuncId}{args:List AV}{nf:Bool}{fns:List Fd}{k:Nat}{w:WS}{v:AV}{Q:Bool→WS→Prop}(H:AC Tryz.prog G f (.ptr 0 5 0 0::args) (HWk nf fns k w) fun x h=>∃nf' w',x= .ret v∧h=[wO 2 nf' fns k w',.dead,roC nf' w'.vs]∧Q nf' w')(ha:ah 0 args)(hv:below 0 v)
 {h:List AO}{wid id:Nat}(hid:wid≠id)(e0:h[wid]?=some (wO id nf fns k w))(e1:h[id]?=some (roC nf w.vs)):
 AC Tryz.prog G f (.ptr wid 5 0 0::args) h fun x h'=>∃nf' w',x= .ret v∧h'=(h.set wid (wO h.length nf' fns k w')).set id .dead++[roC nf' w'.vs]∧Q nf' w':=by
 refine(H.frame [wid,id] (by simp[hid]) ?_ (OG e0 e1)).mono ?_
 ·rw[vg];exact⟨.inr ⟨by simp[below],rfl⟩,zP _ _ ha⟩
 ·rintro x h' ⟨x0,h0,⟨nf',w',rfl,rfl,q⟩,_,rfl,rfl⟩
  refine⟨nf',w',?_,?_,q⟩
  ·have:=dT ([wid,id]++List.range' h.length ([wO 2 nf' fns k w',.dead,roC nf' w'.vs].length-(HWk nf fns k w).length)) [v] ⟨hv,trivial⟩
   simp only[bI] at this
   simp only[wA]
   exact congrArg ARes.ret (List.cons.inj this).1
  ·simp only[HWk,Rr,List.length_nil,List.take_succ_cons,List.take_zero,Rw,List.map_nil,List.drop_succ_cons,List.drop_zero,Eo,BE,mrg]
   rfl
theorem yM(fns:List Fd)(k:Nat)(vs:List LV):∀(a b:List Ex) (c:Int),bz fns k vs (a++b) c=bz fns k vs b (bz fns k vs a c)
 |[],b,c=>rfl
 |e::r,b,c=>by rw[RE,bz,bz,yM fns k vs r]
theorem sM(vs:List LV):∀l:List Ex,kE vs l=l.map (rnE vs)
 |[]=>rfl
 |e::r=>by rw[kE,sM vs r];rfl
theorem xB{fns:List Fd}{k:Nat}{vs:List LV}{l:List Ex}{c:Int}{i:Nat}(h:i<l.length):bz fns k vs (l.take (i+1)) c=jB fns k vs l[i] (bz fns k vs (l.take i) c):=by
 rw[an h,yM];rfl
theorem yJ{vs:List LV}{l:List Ex}{i:Nat}(h:i<l.length):kE vs (l.take (i+1))=kE vs (l.take i)++[rnE vs l[i]]:=by
 rw[sM,sM,an h,List.map_append];rfl
theorem sZ(vs:List LV)(l:List Ex):(kE vs l).length=l.length:=by rw[sM,Rs]
theorem vh(l:List Ex):(exR l).length=l.length:=by simp[exR]
theorem vu(a b:List Ex):exR (a++b)=exR a++exR b:=by simp[exR]
theorem rH{h:List AO}{id:Nat}{l:List Ex}(e:h[id]?=some (.row 4 (exR l))):View h (.sl id 4 0 l.length) (exL l):=by
 have:=ik (h:=h) (id:=id) (sz:=4) (n:=l.length) (ls:=l.map Ex.cs) (by rw[e,exR];simp) (by simp) (fun x hx=>by obtain⟨b,_,rfl⟩:=Rp.1 hx;exact b.cs_len)
 exact this
theorem KV{fns:List Fd}{s:List UInt8}{j:Nat}(h:dX fns s=some j):j<fns.length:=by
 rw[dX,Rv] at h;exact h.1
theorem KK{fns:List Fd}{k:Nat}(hf:fns.length≤1099511627776):∀(N:Nat) (e:Ex),e.sz≤N→N≤1099511627776→∀(nf:Bool) (w:WS),(nf=true→w.vs=[])→w.vs.length≤1099511627776→
 AC Tryz.prog G ca [.ptr 0 5 0 0,.agg (e.cs.map .p)] (HWk nf fns k w) fun x h=>x= .ret (.agg ((rnE w.vs e).cs.map .p))∧h=HWk nf fns k ⟨w.vs,w.count,jB fns k w.vs e w.code⟩:=by
 intro N
 induction N with
 |zero=>intro e he;have:=e.sz_eq;omega
 |succ N ih=>
  intro e he hN nf w hn hl
  have hec:=e.cs_eq
  have hsz:=e.sz_eq
  have hkl:=bi e.kids
  have hre:(rnE w.vs e).cs=[.int .i64 e.op,.int .i64 e.n,.str (if e.op=2 then vL w.vs e.name else e.name),exL (kE w.vs e.kids)]:=by
   obtain⟨o,n,s,ks⟩:=e;rw[rnE,Ex.cs_eq];rfl
  have hce:jB fns k w.vs e w.code=bz fns k w.vs e.kids (ia fns k w.vs e.op e.name e.kids.length w.code):=by
   obtain⟨o,n,s,ks⟩:=e;rfl
  have main:AC Tryz.prog G ca [.ptr 0 5 0 0,.agg (e.cs.map .p)] (HWk nf fns k w) fun x h=>∃E1 E2,x= .ret (.agg [.p (.int .i64 e.op),.p (.int .i64 e.n),.p (.str (if e.op=2 then vL w.vs e.name else e.name)),.sl 4 4 0 e.kids.length])∧
   h=[wO 1 nf fns k ⟨w.vs,w.count,jB fns k w.vs e w.code⟩,roC nf w.vs,E1,E2,.row 4 (exR (kE w.vs e.kids))]:=by
   refine AC.goK qV ro ?_
   simp-implicitDefEqProofs[K_spec_l4Walk_expr,F_spec_l4Walk_expr,HWk,hec]
   refine kG (am 75 [(0,.ptr 0 5 0 0),(3,.ptr 2 4 0 0),(4,.ptr 3 4 0 0)]) [wO 1 nf fns k ⟨w.vs,w.count,if e.op=2 then nw w.vs e.name w.code else w.code⟩,roC nf w.vs,.row 4 [[.p (.int .i64 e.op),.p (.int .i64 e.n),.p (.str (if e.op=2 then vL w.vs e.name else e.name)),.p (exL e.kids)]],.row 4 [[.p (.int .i64 0),.p (.int .i64 0),.p (.str []),.nils]]] ?_ ?_
   ·by_cases o2:e.op=2
    ·simp-implicitDefEqProofs[o2]
     refine(Bf G (IO G nf fns k w hn hl e.name) _ (by simp[below])).mono ?_
     rintro r h ⟨rfl,rfl⟩
     simp-implicitDefEqProofs[aa]
     exact ae (by simp) (rE (by simp) (by simp[okO,below])) (by simp[below])
    ·simp-implicitDefEqProofs[o2]
     exact ae (by simp) (rE (by simp) (by simp[okO,below])) (by simp[below])
   refine kG (am 75 [(0,.ptr 0 5 0 0),(3,.ptr 2 4 0 0),(4,.ptr 3 4 0 0)]) [wO 1 nf fns k ⟨w.vs,w.count,ia fns k w.vs e.op e.name e.kids.length w.code⟩,roC nf w.vs,.row 4 [[.p (.int .i64 e.op),.p (.int .i64 e.n),.p (.str (if e.op=2 then vL w.vs e.name else e.name)),.p (exL e.kids)]],.row 4 [[.p (.int .i64 0),.p (.int .i64 0),.p (.str []),.nils]]] ?_ ?_
   ·by_cases o13:e.op=13
    ·have hhd:ia fns k w.vs e.op e.name e.kids.length w.code=mP fns k e.name e.kids.length w.code:=by simp[ia,o13]
     rw[hhd]
     simp-implicitDefEqProofs[o13,wO,wC]
     refine(HQ G fns e.name hf).use ?_
     have fin:∀c:Int,Wk 2 (am 75 [(0,.ptr 0 5 0 0),(3,.ptr 2 4 0 0),(4,.ptr 3 4 0 0)]) [wO 1 nf fns k ⟨w.vs,w.count,c⟩,roC nf w.vs,.row 4 [[.p (.int .i64 13),.p (.int .i64 e.n),.p (.str e.name),.p (exL e.kids)]],.row 4 [[.p (.int .i64 0),.p (.int .i64 0),.p (.str []),.nils]]] (am 75 [(0,.ptr 0 5 0 0),(3,.ptr 2 4 0 0),(4,.ptr 3 4 0 0)]) [wO 1 nf fns k ⟨w.vs,w.count,c⟩,roC nf w.vs,.row 4 [[.p (.int .i64 13),.p (.int .i64 e.n),.p (.str e.name),.p (exL e.kids)]],.row 4 [[.p (.int .i64 0),.p (.int .i64 0),.p (.str []),.nils]]]:=fun c=>
      ae (by simp) (rE (by simp) (by simp[okO,below])) (by simp[below])
     cases hfa:dX fns e.name with
     |none=>
      simp-implicitDefEqProofs[ixI,mP,hfa]
      refine(Bf G (pG G nf fns k w 4) _ (by simp[below])).mono ?_
      rintro r h ⟨rfl,rfl⟩
      simp-implicitDefEqProofs[aa]
      exact ae (h:=[wO 1 nf fns k ⟨w.vs,w.count,fl w.code 4⟩,roC nf w.vs,.row 4 [[.p (.int .i64 13),.p (.int .i64 e.n),.p (.str e.name),.p (exL e.kids)]],.row 4 [[.p (.int .i64 0),.p (.int .i64 0),.p (.str []),.nils]]]) (by simp) (rE (by simp) (by simp[okO,below])) (by simp[below])
     |some j=>
      have hj:=KV hfa
      have hg:=QW hj
      have hjn:¬(j:Int)<0:=by omega
      by_cases hkj:k≤j
      ·have hkj':(k:Int)≤(j:Int):=by omega
       simp-implicitDefEqProofs[ixI,mP,hfa,hkj,hkj',hjn]
       refine(Bf G (pG G nf fns k w 4) _ (by simp[below])).mono ?_
       rintro r h ⟨rfl,rfl⟩
       simp-implicitDefEqProofs[aa]
       exact ae (h:=[wO 1 nf fns k ⟨w.vs,w.count,fl w.code 4⟩,roC nf w.vs,.row 4 [[.p (.int .i64 13),.p (.int .i64 e.n),.p (.str e.name),.p (exL e.kids)]],.row 4 [[.p (.int .i64 0),.p (.int .i64 0),.p (.str []),.nils]]]) (by simp) (rE (by simp) (by simp[okO,below])) (by simp[below])
      ·have hkj':¬(k:Int)≤(j:Int):=by omega
       have hfl:fdL fns= .lst 3 (fns.map Fd.cs):=rfl
       have hcs:fns[j].cs=[.str fns[j].name,az fns[j].params,smL fns[j].body]:=rfl
       have hst:az fns[j].params= .lst 1 (fns[j].params.map fun w=>[.str w]):=rfl
       have hxl:∀l,exL l= .lst 4 (l.map Ex.cs):=fun _=>rfl
       have hpn:yg fns j=fns[j].params.length:=by simp[yg,hg]
       by_cases hp:fns[j].params.length=e.kids.length
       ·have hcc:mP fns k e.name e.kids.length w.code=w.code:=by simp[mP,hfa,hkj,hpn,hp]
        rw[hcc]
        simp-implicitDefEqProofs[ixI,hkj',hjn,hfl,hg,hcs,hst,hxl,hp]
        exact ae (h:=[wO 1 nf fns k w,roC nf w.vs,.row 4 [[.p (.int .i64 13),.p (.int .i64 e.n),.p (.str e.name),.p (exL e.kids)]],.row 4 [[.p (.int .i64 0),.p (.int .i64 0),.p (.str []),.nils]]]) (by simp) (rE (by simp) (by simp[okO,below])) (by simp[below])
       ·have hcc:mP fns k e.name e.kids.length w.code=fl w.code 5:=by simp[mP,hfa,hkj,hpn,hp]
        have hp':¬(fns[j].params.length:Int)=(e.kids.length:Int):=by omega
        rw[hcc]
        simp-implicitDefEqProofs[ixI,hkj',hjn,hfl,hg,hcs,hst,hxl,hp']
        refine(Bf G (pG G nf fns k w 5) _ (by simp[below])).mono ?_
        rintro r h ⟨rfl,rfl⟩
        simp-implicitDefEqProofs[aa]
        exact ae (h:=[wO 1 nf fns k ⟨w.vs,w.count,fl w.code 5⟩,roC nf w.vs,.row 4 [[.p (.int .i64 13),.p (.int .i64 e.n),.p (.str e.name),.p (exL e.kids)]],.row 4 [[.p (.int .i64 0),.p (.int .i64 0),.p (.str []),.nils]]]) (by simp) (rE (by simp) (by simp[okO,below])) (by simp[below])
    ·have hhd:ia fns k w.vs e.op e.name e.kids.length w.code=if e.op=2 then nw w.vs e.name w.code else w.code:=by simp[ia,o13]
     rw[hhd]
     simp-implicitDefEqProofs[o13]
     exact ae (by simp) (rE (by simp) (by simp[okO,below])) (by simp[below])
   rw[hce]
   generalize ia fns k w.vs e.op e.name e.kids.length w.code=c2
   generalize (if e.op=2 then vL w.vs e.name else e.name)=s1
   have hxl:exL e.kids= .lst 4 (e.kids.map Ex.cs):=rfl
   simp-implicitDefEqProofs[]
   refine aU (fun i:Nat=>am 75 [(0,.ptr 0 5 0 0),(3,.ptr 2 4 0 0),(4,.ptr 3 4 0 0),(6,.sl 4 4 0 i),(7,.p (.int .i64 i))])
    (fun i=>[wO 1 nf fns k ⟨w.vs,w.count,bz fns k w.vs (e.kids.take i) c2⟩,roC nf w.vs,.row 4 [[.p (.int .i64 e.op),.p (.int .i64 e.n),.p (.str s1),.p (exL e.kids)]],.row 4 [[.p (.int .i64 0),.p (.int .i64 0),.p (.str []),.nils]],.row 4 (exR (kE w.vs (e.kids.take i)))])
    (fun i=>i≤e.kids.length) (fun i=>e.kids.length-i) 0 (by simp) ?_ ?_
   ·exact ae (by simp) (rE (by simp) (by simp[okO,below])) (by simp[below])
   ·intro i hi
    have hrl:(exR (kE w.vs (e.kids.take i))).length=i:=by rw[vh,sZ];simp;omega
    simp-implicitDefEqProofs[hxl]
    refine bf (fun h=>?_) (fun h=>?_)
    ·simp at h
     have hg:=QW h
     have hks:=aS (Rd h)
     have hkc:=(rnE w.vs e.kids[i]).cs_eq
     simp-implicitDefEqProofs[hg]
     refine(Bf G (ih e.kids[i] (by omega) (by omega) nf ⟨w.vs,w.count,bz fns k w.vs (e.kids.take i) c2⟩ hn hl) _ (by simp[below])).mono ?_
     rintro r h ⟨rfl,rfl⟩
     rw[show(rnE (WS.mk w.vs w.count (bz fns k w.vs (e.kids.take i) c2)).vs e.kids[i])=rnE w.vs e.kids[i] from rfl]
     simp-implicitDefEqProofs[aa,hkc,hrl]
     refine⟨by omega,?_⟩
     refine⟨i+1,by omega,by omega,?_⟩
     have htk:List.take i (exR (kE w.vs (e.kids.take i)))=exR (kE w.vs (e.kids.take i)):=Rb (by omega)
     rw[xB h,yJ h,vu,htk]
     refine bO [0,1,2,3,6] (by simp) (by decide) (by decide) (vK (by simp) rfl (dx rfl (gV _ _ _) (aD rfl (by simp[below]) (aD rfl (by simp[below]) (aD ?_ ?_ bq))))) (by simp[below,ren,w1 (i:=i) (by omega)])
     ·have:exR [rnE w.vs e.kids[i]]=[[.p (.int .i64 (rnE w.vs e.kids[i]).op),.p (.int .i64 (rnE w.vs e.kids[i]).n),.p (.str (rnE w.vs e.kids[i]).name),.p (exL (rnE w.vs e.kids[i]).kids)]]:=by rw[exR,RJ,hkc];rfl
      rw[this];rfl
     ·intro x hx
      rcases Rf.1 hx with h|h
      ·exact dI _ x h
      ·exact dI _ x h
    ·simp at h
     have hie:i=e.kids.length:=by omega
     subst hie
     simp-implicitDefEqProofs[]
  refine main.frz 2 (by simp[HWk]) (fun t v h ⟨_,_,e,_⟩=>by cases e) ?_
  rintro v h ⟨E1,E2,e,rfl⟩
  cases e
  refine⟨_,HWk nf fns k ⟨w.vs,w.count,jB fns k w.vs e w.code⟩,by simp,rfl,.agg ?_ .nil,.same (ux (by omega)) (.same (gV _ _ _) (.nil _)),rfl,rfl⟩
  rw[hre]
  have hrl:=sZ w.vs e.kids
  rw[←hrl]
  exact .keep (by simp) (.keep (by simp) (.keep (by simp) (.one (rH rfl) .nil)))
end
section
def K_spec_l4Walk_stmts:AK:= .seq (.reg [oJ 6 (.mov (.c .nils))]) (.seq (.reg [oJ 13 (.bsl 5 [(.p (.int .i64 0)),(.p (.str [])),.nils,.nils,.nils] 0 []),oM 7 13]) (.seq (.reg [oM 14 0,oN 15 14,oF 16 2 15,oL 17 16,oJ 18 (.len false (.t 17)),oM 8 18]) (.seq (.seq (.reg [oK 9 0]) (.blk 0 (.loop (.seq (.seq (.reg [oM 19 9,oM 20 1,oJ 21 (.len false (.t 20)),oJ 22 (.bin .lss (.t 19) (.t 21))]) (.cond (.t 22) (.skip) (.exit 0))) (.seq (.blk 1 (.seq (.reg [oM 25 1,oM 26 9,oJ 27 (.idxS 5 (.t 25) (.t 26)),oJ 28 (.ld (some 5) (.t 27)),oJ 10 (.alloc [(.p (.int .i64 0)),(.p (.str [])),.nils,.nils,.nils]),⟨none,none,.st 5 (.t 10) (.t 28)⟩]) (.seq (.reg [oJ 29 (.bsl 4 [(.p (.int .i64 0)),(.p (.int .i64 0)),(.p (.str [])),.nils] 0 []),oM 11 29]) (.seq (.seq (.reg [oK 12 0]) (.blk 2 (.loop (.seq (.seq (.reg [oM 30 12,oF 31 2 10,oL 32 31,oJ 33 (.len false (.t 32)),oJ 34 (.bin .lss (.t 30) (.t 33))]) (.cond (.t 34) (.skip) (.exit 2))) (.seq (.blk 3 (.reg [oM 37 11,oM 38 0,oF 39 2 10,oL 40 39,oM 41 12,oJ 42 (.idxS 4 (.t 40) (.t 41)),oJ 43 (.ld (some 4) (.t 42)),oJ 44 (.call ca [(.t 38),(.t 43)]),oJ 45 (.bsl 4 [(.p (.int .i64 0)),(.p (.int .i64 0)),(.p (.str [])),.nils] 1 [(0,4,(.t 44))]),oJ 46 (.app 4 56 (.t 37) (.t 45)),oM 11 46])) (.reg [oM 35 12,oJ 36 (.bin .add (.t 35) (.c (.p (.int .i64 1)))),oM 12 36])))))) (.cut (.reg [oM 47 11,oF 48 2 10,oS 48 47]) (.cut (.seq (.reg [oF 49 0 10,oL 50 49,oJ 51 (.bin .eql (.t 50) (.c (.p (.int .i64 1))))]) (.cond (.t 51) (.reg [oM 52 0,oF 53 1 10,oL 54 53,oM 55 2,oJ 56 (.call cW [(.t 52),(.t 54),(.t 55)]),oF 57 1 10,oS 57 56]) (.skip))) (.cut (.seq (.reg [oF 58 0 10,oL 59 58,oJ 60 (.bin .eql (.t 59) (.c (.p (.int .i64 2))))]) (.cond (.t 60) (.reg [oM 61 0,oF 62 1 10,oL 63 62,oJ 64 (.call da [(.t 61),(.t 63)]),oF 65 1 10,oS 65 64]) (.skip))) (.seq (.reg [oM 66 0,oF 67 3 10,oL 68 67,oM 69 2,oJ 70 (.bin .add (.t 69) (.c (.p (.int .i64 1)))),oJ 71 (.call bG [(.t 66),(.t 68),(.t 70)]),oF 72 3 10,oS 72 71]) (.seq (.reg [oM 73 0,oF 74 4 10,oL 75 74,oM 76 2,oJ 77 (.bin .add (.t 76) (.c (.p (.int .i64 1)))),oJ 78 (.call bG [(.t 73),(.t 75),(.t 77)]),oF 79 4 10,oS 79 78]) (.reg [oM 80 7,oJ 81 (.ld (some 5) (.t 10)),oJ 82 (.bsl 5 [(.p (.int .i64 0)),(.p (.str [])),.nils,.nils,.nils] 1 [(0,5,(.t 81))]),oJ 83 (.app 5 96 (.t 80) (.t 82)),oM 7 83])))))))))) (.reg [oM 23 9,oJ 24 (.bin .add (.t 23) (.c (.p (.int .i64 1)))),oM 9 24])))))) (.cut (.seq (.reg [oM 84 2,oJ 85 (.bin .gtr (.t 84) (.c (.p (.int .i64 0))))]) (.cond (.t 85) (.reg [oM 86 0,oM 87 0,oN 88 87,oF 89 2 88,oL 90 89,oM 91 8,oJ 92 (.slS 3 (.t 90) none (some (.t 91))),oN 93 86,oF 94 2 93,oS 94 92]) (.skip))) (.seq (.reg [oM 95 7,oM 6 95]) (.ret))))))
theorem qq:K_spec_l4Walk_stmts.whole=F_spec_l4Walk_stmts.ak:=rfl
theorem BK(fns:List Fd)(k b:Nat):∀(x y:List Sm) (w:WS),bZ fns k b (x++y) w=bZ fns k b y (bZ fns k b x w)
 |[],y,w=>rfl
 |s::r,y,w=>by rw[RE,bZ,bZ,BK fns k b r]
theorem AT(fns:List Fd)(k b:Nat):∀(x y:List Sm) (w:WS),iJ fns k b (x++y) w=iJ fns k b x w++iJ fns k b y (bZ fns k b x w)
 |[],y,w=>rfl
 |s::r,y,w=>by rw[RE,iJ,iJ,AT fns k b r];rfl
theorem FC{fns:List Fd}{k b:Nat}{l:List Sm}{w:WS}{i:Nat}(h:i<l.length):bZ fns k b (l.take (i+1)) w=stW fns k b l[i] (bZ fns k b (l.take i) w):=by
 rw[an h,BK];rfl
theorem FI{fns:List Fd}{k b:Nat}{l:List Sm}{w:WS}{i:Nat}(h:i<l.length):iJ fns k b (l.take (i+1)) w=iJ fns k b (l.take i) w++[rnS fns k b l[i] (bZ fns k b (l.take i) w)]:=by
 rw[an h,AT];rfl
theorem vV(fns:List Fd)(k b:Nat):∀(l:List Sm) (w:WS),(iJ fns k b l w).length=l.length
 |[],w=>rfl
 |s::r,w=>by rw[iJ,Rr,vV fns k b r,Rr]
theorem zY{l:List Sm}{i:Nat}(h:i<l.length):aq (l.take i)+l[i].sz≤aq l:=by
 have e:l=l.take i++l[i]::l.drop (i+1):=by rw[←RS h,RF]
 have h2:aq l=aq (l.take i)+(l[i].sz+aq (l.drop (i+1))):=by
  conv=>lhs;rw[e]
  rw[bJ];rfl
 omega
def qZ(fns:List Fd)(k b:Nat)(l:List Sm)(w:WS):WS:=if 0<b then(bZ fns k b l w).back w.vs else bZ fns k b l w
theorem DI(fns:List Fd)(k b:Nat)(l:List Sm)(w:WS):(qZ fns k b l w).count=w.count+qE l:=by
 unfold qZ
 split
 ·exact jk fns k l b w
 ·exact jk fns k l b w
theorem IR{e vs:List LV}:(lvR (e++vs)).take vs.length=lvR vs:=by
 have h:lvR (e++vs)=lvR vs++lvR e:=by simp[lvR]
 rw[h,List.take_append_of_le_length (by rw[vf];exact Rj _),Rb (by rw[vf];exact Rj _)]
theorem yQ(l:List Sm):qE l≤aq l:=RO (rQ l) (pX l)
theorem CV(nf:Bool)(id n:Nat):(vaC nf id n).isCell=true:=by cases nf<;>rfl
theorem Gd(nf:Bool)(id n:Nat):(vaC nf id n).cells=[vaC nf id n]:=by cases nf<;>rfl
attribute [simp ↓] CV Gd
variable (G:aJ)
def StP(fns:List Fd)(k b:Nat)(l:List Sm)(w:WS)(x:ARes)(h:List AO):Prop:=∃nf' w',x= .ret (.p (smL (iJ fns k b l w)))∧h=[wO 2 nf' fns k w',.dead,roC nf' w'.vs]∧(nf'=true→w'.vs=[])∧w'=qZ fns k b l w
structure StS where (i:Nat) (nf:Bool)
theorem IF{fns:List Fd}{k:Nat}(hf:fns.length≤1099511627776):∀(N:Nat) (l:List Sm),aq l<N→∀(b:Nat) (nf:Bool) (w:WS),(nf=true→w.vs=[])→w.vs.length≤w.count→w.count+aq l≤1099511627776→b+aq l≤1099511627776→
 AC Tryz.prog G bG [.ptr 0 5 0 0,.p (smL l),.p (.int .i64 b)] (HWk nf fns k w) (StP fns k b l w):=by
 intro N
 induction N with
 |zero=>
  intro l hl b nf w hn hv hc hb
  omega
 |succ N ih=>
  intro l hl b nf w hn hv hc hb
  have hll:=bk l
  refine AC.goK pY qq ?_
  have hsl:∀l,smL l= .lst 5 (l.map Sm.cs):=fun _=>rfl
  have hlen0:AY (vaC nf 1 w.vs.length)=some (.p (.int .i64 w.vs.length)):=by
   cases nf
   ·rfl
   ·simp[vaC,hn rfl]
  simp-implicitDefEqProofs[K_spec_l4Walk_stmts,F_spec_l4Walk_stmts,HWk,wO,wC,hlen0]
  refine aU (fun s:StS=>am 96 [(0,.ptr 0 5 0 0),(1,.p (smL l)),(2,.p (.int .i64 b)),(7,.sl 2 5 0 s.i),(8,.p (.int .i64 w.vs.length)),(9,.p (.int .i64 s.i))])
   (fun s=>[wO 3 s.nf fns k (bZ fns k b (l.take s.i) w),.dead,.row 5 (smR (iJ fns k b (l.take s.i) w)),roC s.nf (bZ fns k b (l.take s.i) w).vs])
   (fun s=>s.i≤l.length∧(s.nf=true→(bZ fns k b (l.take s.i) w).vs=[])) (fun s=>l.length-s.i) ⟨0,nf⟩ ⟨by simp,hn⟩ ?_ ?_
  ·refine DR [0,1,2,1] (by simp) (by decide) ?_ (vK (by simp) rfl (fy (by simp) (aD rfl (by simp[smR,iJ]) (dx rfl (gV _ _ _) bq)))) (by simp[below,ren])
   cases nf<;>simp[jL,roC,wO,bZ]
  ·rintro⟨i,nf⟩ ⟨hi,hn⟩
   simp only at hi hn
   simp-implicitDefEqProofs[hsl]
   refine bf (fun h=>?_) (fun h=>?_)
   ·simp at h
    have hg:=QW h
    have hat:=zY h
    have hse:=l[i].cs_eq
    have hsz:=l[i].sz_eq
    have hle:=EB fns k (l:=l.take i) (b:=b) hv
    have hcn:=jk fns k (l.take i) b w
    have hlz:=yQ (l.take i)
    have eW:=FC (fns:=fns) (k:=k) (b:=b) (w:=w) h
    have eR:=FI (fns:=fns) (k:=k) (b:=b) (w:=w) h
    have hol:=vV fns k b (l.take i) w
    rw[Ru,Nat.min_eq_left hi] at hol
    generalize l[i]=s at hg hat hse hsz eW eR
    generalize bZ fns k b (l.take i) w=wi at hn hle hcn eW eR⊢
    generalize iJ fns k b (l.take i) w=out at hol eR⊢
    obtain⟨o,nme,a,bd,el⟩:=s
    simp only[Sm.op,Sm.name,Sm.args,Sm.body,Sm.els] at hse hsz
    simp-implicitDefEqProofs[hg,hse]
    have hxl:∀l,exL l= .lst 4 (l.map Ex.cs):=fun _=>rfl
    have hal:=bi a
    have hlE:=yQ bd
    have hwl:wi.vs.length≤1099511627776:=by omega
    have hopR:∀(x y z u v:AV),ah 0 [x,y,z,u,v]→okO 5 (AO.row 5 [[x,y,z,u,v]]):=fun x y z u v hh=>bP (fun e he=>by rw[Ri.1 he];exact hh)
    refine aU (fun j:Nat=>am 96 [(0,.ptr 0 5 0 0),(1,.p (smL l)),(2,.p (.int .i64 b)),(7,.sl 2 5 0 i),(8,.p (.int .i64 w.vs.length)),(9,.p (.int .i64 i)),(10,.ptr 4 5 0 0),(11,.sl 5 4 0 j),(12,.p (.int .i64 j))])
     (fun j=>[wO 3 nf fns k ⟨wi.vs,wi.count,bz fns k wi.vs (a.take j) wi.code⟩,.dead,.row 5 (smR out),roC nf wi.vs,.row 5 [[.p (.int .i64 o),.p (.str nme),.p (exL a),.p (smL bd),.p (smL el)]],.row 4 (exR (kE wi.vs (a.take j)))])
     (fun j=>j≤a.length) (fun j=>a.length-j) 0 (by simp) ?_ ?_
    ·refine ae (h:=[wO 3 nf fns k wi,.dead,.row 5 (smR out),roC nf wi.vs,.row 5 [[.p (.int .i64 o),.p (.str nme),.p (exL a),.p (smL bd),.p (smL el)]],.row 4 []]) (by simp) (ag (ux (by simp)) (ag trivial (ag (bP (aP out)) (ag (gV _ _ _) (by simp[okO,below]))))) (by simp[below,hsl])
    intro j hj
    have hrl:(exR (kE wi.vs (a.take j))).length=j:=by rw[vh,sZ];simp;omega
    simp-implicitDefEqProofs[hxl]
    refine bf (fun hc=>?_) (fun hc=>?_)
    ·simp at hc
     have hga:=QW hc
     have hks:=aS (Rd hc)
     have hkc:=(rnE wi.vs a[j]).cs_eq
     simp-implicitDefEqProofs[hga]
     refine(Mg G (id:=3) (KK G hf (a[j].sz) a[j] (Rj _) (by omega) nf ⟨wi.vs,wi.count,bz fns k wi.vs (a.take j) wi.code⟩ hn hwl) (by simp) (by simp[below]) (by decide) rfl rfl).mono ?_
     rintro r h' ⟨rfl,rfl⟩
     rw[show(rnE (WS.mk wi.vs wi.count (bz fns k wi.vs (a.take j) wi.code)).vs a[j])=rnE wi.vs a[j] from rfl]
     simp-implicitDefEqProofs[aa,hkc,hrl]
     refine⟨by omega,j+1,by omega,by omega,?_⟩
     have htk:List.take j (exR (kE wi.vs (a.take j)))=exR (kE wi.vs (a.take j)):=Rb (by omega)
     rw[xB hc,yJ hc,vu,htk]
     refine bO [0,1,2,3,4,7] (by simp) (by decide) (by decide) (vK (by simp) rfl (fy (by simp) (aD rfl (aP out) (dx rfl (gV _ _ _) (aD rfl (by simp[below]) (aD ?_ ?_ bq)))))) (by simp[below,ren,hsl,w1 (i:=j) (by omega)])
     ·have:exR [rnE wi.vs a[j]]=[[.p (.int .i64 (rnE wi.vs a[j]).op),.p (.int .i64 (rnE wi.vs a[j]).n),.p (.str (rnE wi.vs a[j]).name),.p (exL (rnE wi.vs a[j]).kids)]]:=by rw[exR,RJ,hkc];rfl
      rw[this];rfl
     ·intro x hx
      rcases Rf.1 hx with h|h
      ·exact dI _ x h
      ·exact dI _ x h
    simp at hc
    have hje:j=a.length:=by omega
    subst hje
    rw[RA] at hrl⊢
    have hal2:=sZ wi.vs a
    simp-implicitDefEqProofs[]
    generalize hw1:WS.mk wi.vs wi.count (bz fns k wi.vs a wi.code)=w1
    have e1v:w1.vs=wi.vs:=by rw[←hw1]
    have e1c:w1.count=wi.count:=by rw[←hw1]
    have e1l:w1.vs.length=wi.vs.length:=by rw[e1v]
    rw[←e1v]
    refine kG (am 96 [(0,.ptr 0 5 0 0),(1,.p (smL l)),(2,.p (.int .i64 b)),(7,.sl 2 5 0 i),(8,.p (.int .i64 w.vs.length)),(9,.p (.int .i64 i)),(10,.ptr 4 5 0 0)])
     [wO 3 nf fns k w1,.dead,.row 5 (smR out),roC nf w1.vs,.row 5 [[.p (.int .i64 o),.p (.str nme),.p (exL (kE w1.vs a)),.p (smL bd),.p (smL el)]]] ?_ ?_
    ·simp-implicitDefEqProofs[]
     refine fx 5 (by omega) (by simp) rfl (.same (ux (by omega)) (.dead (.same (bP (aP out)) (.same (gV _ _ _) (.one (.keep (by simp[below]) (.keep (by simp[below]) (.one ?_ (.keep (by simp[below]) (.keep (by simp[below]) .nil))))) (.nil _)))))) ?_
     ·rw[←e1v] at hal2
      rw[←hal2]
      exact rH rfl
     ·refine⟨.keep (by simp[below]) .nil,.keep (by simp[below]) .nil,.keep (by simp[below]) .nil,.keep (by simp[below]) .nil,.keep (by simp[below]) .nil,.keep (by simp[below]) .nil,.keep (by simp[below]) .nil,trivial⟩
    have TT:∀(r1:List (Nat × AV)),Aw.look r1 0= .ptr 0 5 0 0→Aw.look r1 1= .p (smL l)→Aw.look r1 2= .p (.int .i64 b)→Aw.look r1 7= .sl 2 5 0 i→Aw.look r1 8= .p (.int .i64 w.vs.length)→Aw.look r1 9= .p (.int .i64 i)→Aw.look r1 10= .ptr 4 5 0 0→∀ρ:List Nat,ρ.length=5→ρ.getD 0 0=0→ρ.getD 2 0=2→ρ.getD 4 0=4→
     TWA ρ r1 [(0,.ptr 0 5 0 0),(1,.p (smL l)),(2,.p (.int .i64 b)),(7,.sl 2 5 0 i),(8,.p (.int .i64 w.vs.length)),(9,.p (.int .i64 i)),(10,.ptr 4 5 0 0)]:=by
     intro r1 a0 a1 a2 a7 a8 a9 a10 ρ hr r0 r2 r4
     simp[below,ren,hr,a0,a1,a2,a7,a8,a9,a10]
     rw[Rk,QW (by omega)] at r0 r2 r4
     exact⟨r0,r2,r4⟩
    have hn1:nf=true→w1.vs=[]:=fun h=>by rw[e1v];exact hn h
    have okB:∀(nf:Bool) (w:WS) (r:AO),okO 0 r→∀x∈[wO 3 nf fns k w,.dead,.row 5 (smR out),roC nf w.vs,r],okO 5 x:=fun nf w r hr=>
     ag (ux (by omega)) (ag trivial (ag (bP (aP out)) (ag (gV _ _ _) (ag (bP hr) dM))))
    refine kG (am 96 [(0,.ptr 0 5 0 0),(1,.p (smL l)),(2,.p (.int .i64 b)),(7,.sl 2 5 0 i),(8,.p (.int .i64 w.vs.length)),(9,.p (.int .i64 i)),(10,.ptr 4 5 0 0)])
     [wO 3 (if o=1 then false else nf) fns k (if o=1 then kQ w1 nme b else w1),.dead,.row 5 (smR out),roC (if o=1 then false else nf) (if o=1 then kQ w1 nme b else w1).vs,.row 5 [[.p (.int .i64 o),.p (.str (if o=1 then vnm w1.count else nme)),.p (exL (kE w1.vs a)),.p (smL bd),.p (smL el)]]] ?_ ?_
    ·by_cases o1:o=1
     ·simp-implicitDefEqProofs[o1]
      refine(Io G (id:=3) (Q:=fun nf' w'=>nf'=false∧w'=kQ w1 nme b) ((IJ G nf fns k w1 hn1 (by omega) (by omega) nme b).mono (by rintro x h ⟨rfl,rfl⟩;exact⟨false,_,rfl,rfl,rfl,rfl⟩)) (by simp) (by simp[below]) (by decide) rfl rfl).mono ?_
      rintro r h' ⟨nf',w',rfl,rfl,rfl,rfl⟩
      simp-implicitDefEqProofs[aa]
      refine bO [0,1,2,5,4] (by simp) (by decide) (by decide) (vK (by simp) rfl (fy (by simp) (aD rfl (aP out) (dx rfl (gV _ _ _) (aD rfl (by simp[below]) bq))))) (TT _ (by simp) (by simp) (by simp) (by simp) (by simp) (by simp) (by simp) _ rfl rfl rfl rfl)
     ·simp-implicitDefEqProofs[o1]
      refine ae (by simp) (okB nf w1 _ (by simp[okO,below])) (by simp[below])
    generalize hw2:(if o=1 then kQ w1 nme b else w1)=w2
    generalize hnf2:(if o=1 then false else nf)=nf2
    generalize hnm2:(if o=1 then vnm w1.count else nme)=nm2
    have hn2:nf2=true→w2.vs=[]:=by
     intro h
     by_cases o1:o=1
     ·rw[if_pos o1] at hnf2;rw[←hnf2] at h;cases h
     ·rw[if_neg o1] at hnf2 hw2;rw[←hw2];exact hn1 (by rw[hnf2];exact h)
    have h2c:w2.count=w1.count+if o=1 then 1 else 0:=by rw[←hw2];split<;>rfl
    have h2v:w2.vs.length≤w2.count:=by
     rw[←hw2];split
     ·simp[kQ];omega
     ·omega
    have h2b:w2.count≤wi.count+1:=by rw[h2c,e1c];split<;>omega
    refine kG (am 96 [(0,.ptr 0 5 0 0),(1,.p (smL l)),(2,.p (.int .i64 b)),(7,.sl 2 5 0 i),(8,.p (.int .i64 w.vs.length)),(9,.p (.int .i64 i)),(10,.ptr 4 5 0 0)])
     [wO 3 nf2 fns k (opW o nme b w1),.dead,.row 5 (smR out),roC nf2 (opW o nme b w1).vs,.row 5 [[.p (.int .i64 o),.p (.str (opN o nme w1)),.p (exL (kE w1.vs a)),.p (smL bd),.p (smL el)]]] ?_ ?_
    ·by_cases o2:o=2
     ·have o1:¬o=1:=by omega
      rw[if_neg o1] at hw2 hnm2
      subst hw2;subst hnm2
      have eo:opW o nme b w1=⟨w1.vs,w1.count,nw w1.vs nme w1.code⟩:=by rw[opW,if_neg o1,if_pos o2]
      have en:opN o nme w1=vL w1.vs nme:=by rw[opN,if_neg o1,if_pos o2]
      rw[eo,en]
      simp-implicitDefEqProofs[o2]
      refine(Mg G (id:=3) (IO G nf2 fns k w1 hn2 (by omega) nme) (by simp) (by simp[below]) (by decide) rfl rfl).mono ?_
      rintro r h' ⟨rfl,rfl⟩
      simp-implicitDefEqProofs[aa]
      refine ae (h:=[wO 3 nf2 fns k ⟨w1.vs,w1.count,nw w1.vs nme w1.code⟩,.dead,.row 5 (smR out),roC nf2 w1.vs,_]) (by simp) (okB nf2 ⟨w1.vs,w1.count,nw w1.vs nme w1.code⟩ _ (by simp[okO,below])) (by simp[below])
     ·have eo:opW o nme b w1=w2:=by rw[opW,if_neg o2,←hw2]
      have en:opN o nme w1=nm2:=by rw[opN,if_neg o2,←hnm2]
      rw[eo,en]
      simp-implicitDefEqProofs[o2]
      refine ae (by simp) (okB nf2 w2 _ (by simp[okO,below])) (by simp[below])
    have eov:(opW o nme b w1).vs=w2.vs:=by
     rw[opW,←hw2];split
     ·rfl
     ·split<;>rfl
    have eoc:(opW o nme b w1).count=w2.count:=by rw[tM,h2c]
    have hwb:IntKind.i64.wrap ((b:Int)+1)=((b+1:Nat):Int):=by rw[af (by omega) (by omega)];omega
    have hstw:stW fns k b (.mk o nme a bd el) wi=qZ fns k (b+1) el (qZ fns k (b+1) bd (opW o nme b w1)):=by
     rw[stW]
     simp only[hw1,qZ,Nat.succ_pos,if_true]
     rfl
    have hrns:(rnS fns k b (.mk o nme a bd el) wi).cs=[.int .i64 o,.str (opN o nme w1),exL (kE w1.vs a),smL (iJ fns k (b+1) bd (opW o nme b w1)),smL (iJ fns k (b+1) el (qZ fns k (b+1) bd (opW o nme b w1)))]:=by
     rw[rnS,Sm.cs_eq]
     simp only[hw1,qZ,Nat.succ_pos,if_true,Sm.op,Sm.name,Sm.args,Sm.body,Sm.els,e1v]
     have:opN o nme wi=opN o nme w1:=by simp only[opN,e1v,e1c]
     rw[this]
    rw[hstw] at eW
    clear hstw
    generalize opW o nme b w1=w3 at eov eoc hrns eW⊢
    have hn3:nf2=true→w3.vs=[]:=fun h=>by rw[eov];exact hn2 h
    have h3v:w3.vs.length≤w3.count:=by rw[eov,eoc];exact h2v
    simp-implicitDefEqProofs[hwb]
    refine(Io G (id:=3) (ih bd (by omega) (b+1) nf2 w3 hn3 h3v (by omega) (by omega)) (by simp) (by simp[below]) (by decide) rfl rfl).mono ?_
    rintro r h' ⟨nf4,w4,rfl,rfl,hn4,hw4⟩
    rw[←hw4] at hrns eW
    have h4c:w4.count=w3.count+qE bd:=by rw[hw4];exact DI _ _ _ _ _
    have h4v:w4.vs.length≤w4.count:=by
     have:w4.vs=w3.vs:=by rw[hw4];simp[qZ,WS.back]
     rw[this,h4c];omega
    simp-implicitDefEqProofs[aa,hwb]
    refine(Io G (id:=5) (ih el (by omega) (b+1) nf4 w4 hn4 h4v (by omega) (by omega)) (by simp) (by simp[below]) (by decide) rfl rfl).mono ?_
    rintro r h' ⟨nf5,w5,rfl,rfl,hn5,hw5⟩
    rw[←hw5] at eW
    have hsl2:(smR out).length=i:=by rw[cY];exact hol
    simp-implicitDefEqProofs[aa,hsl2]
    refine⟨⟨by omega,by omega⟩,⟨i+1,nf5⟩,⟨by simp only;omega,fun h=>by simp only at h⊢;rw[eW];exact hn5 h⟩,by simp only;omega,?_⟩
    simp only
    rw[eW,eR,nk]
    have htk:List.take i (smR out)=smR out:=Rb (by omega)
    rw[htk]
    have hsm1:smR [rnS fns k b (.mk o nme a bd el) wi]=[[.p (.int .i64 o),.p (.str (opN o nme w1)),.p (exL (kE w1.vs a)),.p (smL (iJ fns k (b+1) bd w3)),.p (smL (iJ fns k (b+1) el w4))]]:=by rw[smR,RJ,hrns];rfl
    rw[hsm1]
    refine bO [0,1,8,6] (by simp) (by decide) (by decide) (vK (by simp) rfl (fy (by simp) (aD rfl (fun x hx=>?_) (dx rfl (gV _ _ _) bq)))) (by simp[below,ren,hsl,show IntKind.i64.wrap ((i:Int)+1)=((i:Int)+1) from af (by omega) (by omega)])
    rcases Rf.1 hx with h|h
    ·exact aP out x h
    ·rw[Ri.1 h];simp
   ·simp at h
    have hie:i=l.length:=by omega
    subst hie
    rw[RA] at hn⊢
    obtain⟨ext,hext⟩:=BQ fns k l b w
    have hlen:=vV fns k b l w
    refine kG (am 96 [(7,.p (smL (iJ fns k b l w)))]) [wO 2 nf fns k (qZ fns k b l w),.dead,roC nf (qZ fns k b l w).vs] ?_ ?_
    ·have fin:∀(r1:List (Nat × AV)) (w':WS),w'.vs=w.vs∨w'.vs=(bZ fns k b l w).vs→(Aw.look r1 7= .sl 2 5 0 l.length)→
      Wk 2 (am 96 r1) [wO 3 nf fns k w',.dead,.row 5 (smR (iJ fns k b l w)),roC nf (bZ fns k b l w).vs] (am 96 [(7,.p (smL (iJ fns k b l w)))]) [wO 2 nf fns k w',.dead,roC nf w'.vs]:=by
      intro r1 w' hv' hr
      refine Wk.trans (EI (h1:=[wO 3 nf fns k w',.dead,.row 5 (smR (iJ fns k b l w)),roC nf w'.vs]) ?_) (Wk.trans (bO (l1:=[(7,.sl 3 5 0 l.length)]) (h1:=[wO 2 nf fns k w',.dead,roC nf w'.vs,.row 5 (smR (iJ fns k b l w))]) [0,1,3,2] (by simp) (by decide) (by decide) (vK (by simp) rfl (fy (by simp) (dx rfl (gV _ _ _) (aD rfl (aP _) bq)))) (by simp[below,ren,hr]))
       (fx 3 (by omega) (by simp) rfl (.same (ux (by omega)) (.dead (.same (gV _ _ _) (.nil _)))) ?_))
      ·refine⟨.inl rfl,.inl rfl,.inl rfl,?_,trivial⟩
       rcases hv' with e|e
       ·cases nf with
        |true=>exact .inl rfl
        |false=>
         refine .inr ⟨3,lvR (bZ fns k b l w).vs,w.vs.length,rfl,?_⟩
         rw[hext,IR,e];rfl
       ·rw[e];exact .inl rfl
      ·rw[←hlen]
       exact⟨.one (eX rfl) .nil,trivial⟩
     by_cases hb0:0<b
     ·have hwe:qZ fns k b l w=(bZ fns k b l w).back w.vs:=if_pos hb0
      rw[hwe]
      have hll2:(bZ fns k b l w).vs.length=ext.length+w.vs.length:=by rw[hext,Rn]
      cases nf with
      |true=>
       have h0:=hn rfl
       rw[h0] at hext
       have h00:w.vs=[]:=(List.append_eq_nil_iff.1 hext.symm).2
       simp-implicitDefEqProofs[hb0,wO,wC,vaC,h00]
       rw[h00] at fin
       exact fin _ ⟨[],(bZ fns k b l w).count,(bZ fns k b l w).code⟩ (.inl rfl) (by simp)
      |false=>
       have hle:w.vs.length≤(bZ fns k b l w).vs.length:=by omega
       simp-implicitDefEqProofs[hb0,wO,wC,vaC,hle]
       exact fin _ ⟨w.vs,(bZ fns k b l w).count,(bZ fns k b l w).code⟩ (.inl rfl) (by simp)
     ·have hwe:qZ fns k b l w=bZ fns k b l w:=if_neg hb0
      have hb0':b=0:=by omega
      subst hb0'
      rw[hwe]
      simp-implicitDefEqProofs[]
      exact fin _ _ (.inr rfl) (by simp)
    ·simp-implicitDefEqProofs[]
     refine⟨nf,_,rfl,rfl,?_,rfl⟩
     intro hnf
     have h0:=hn hnf
     unfold qZ
     split
     ·rw[h0] at hext;exact(List.append_eq_nil_iff.1 hext.symm).2
     ·exact h0
end
section
def K_spec_l4Fn:AK:= .seq (.reg [oJ 2 (.box 1 (.t 0)),oJ 4 (.alloc [(.p (.str [])),.nils,.nils]),oK 5 0,oK 6 0]) (.seq (.reg [oJ 11 (.ld (some 1) (.t 2)),oM 12 1,oJ 13 (.bld [.nils,(.p (.int .i64 0)),.nils,(.p (.int .i64 0)),(.p (.int .i64 0))] [(0,1,(.t 11)),(1,1,(.t 12))]),oJ 14 (.box 5 (.t 13)),oM 7 14]) (.cut (.reg [oF 15 0 2,oL 16 15,oM 17 1,oJ 18 (.idxS 3 (.t 16) (.t 17)),oJ 19 (.ld (some 3) (.t 18)),oJ 8 (.alloc [(.p (.str [])),.nils,.nils]),⟨none,none,.st 3 (.t 8) (.t 19)⟩]) (.cut (.seq (.reg [oJ 20 (.ld (some 1) (.t 2)),oF 21 0 8,oL 22 21,oJ 23 (.call gW [(.t 20),(.t 22)]),oM 24 1,oJ 25 (.bin .neq (.t 23) (.t 24))]) (.cond (.t 25) (.reg [oM 26 7,oJ 27 (.call bh [(.t 26),(.c (.p (.int .i64 2)))])]) (.skip))) (.seq (.reg [oJ 28 (.bsl 1 [(.p (.str []))] 0 []),oM 9 28]) (.seq (.seq (.reg [oK 10 0]) (.blk 0 (.loop (.seq (.seq (.reg [oM 29 10,oF 30 1 8,oL 31 30,oJ 32 (.len false (.t 31)),oJ 33 (.bin .lss (.t 29) (.t 32))]) (.cond (.t 33) (.skip) (.exit 0))) (.seq (.blk 1 (.reg [oM 36 9,oM 37 7,oF 38 1 8,oL 39 38,oM 40 10,oJ 41 (.idxS 1 (.t 39) (.t 40)),oL 42 41,oJ 43 (.call cW [(.t 37),(.t 42),(.c (.p (.int .i64 0)))]),oJ 44 (.bsl 1 [(.p (.str []))] 1 [(0,1,(.t 43))]),oJ 45 (.app 1 16 (.t 36) (.t 44)),oM 9 45])) (.reg [oM 34 10,oJ 35 (.bin .add (.t 34) (.c (.p (.int .i64 1)))),oM 10 35])))))) (.seq (.reg [oM 46 9,oF 47 1 8,oS 47 46]) (.seq (.reg [oM 48 7,oF 49 2 8,oL 50 49,oJ 51 (.call bG [(.t 48),(.t 50),(.c (.p (.int .i64 0)))]),oF 52 2 8,oS 52 51]) (.seq (.reg [oM 54 7,oN 55 54,oF 56 4 55,oM 58 7,oN 59 58,oF 60 3 59,oJ 53 (.ld (some 3) (.t 8)),oL 57 56,oL 61 60,⟨none,none,.st 3 (.t 4) (.t 53)⟩,⟨none,none,.chk none 56 57⟩,⟨none,none,.chk none 60 61⟩,oM 5 57,oM 6 61]) (.ret)))))))))
theorem BO:K_spec_l4Fn.whole=F_spec_l4Fn.ak:=rfl
theorem Bp:∀(ps:List (List UInt8)) (w:WS),w.vs.length≤w.count→(du ps w).vs.length≤(du ps w).count
 |[],w,h=>h
 |s::r,w,h=>Bp r (kQ w s 0) (by simp[kQ];omega)
theorem Fb(a b:List (List UInt8))(w:WS):du (a++b) w=du b (du a w):=by simp[du]
theorem CD{l:List (List UInt8)}{w:WS}{i:Nat}(h:i<l.length):du (l.take (i+1)) w=kQ (du (l.take i) w) l[i] 0:=by
 rw[an h,Fb];rfl
theorem Bx:∀(a b:List (List UInt8)) (w:WS),qe (a++b) w=qe a w++qe b (du a w)
 |[],b,w=>rfl
 |s::r,b,w=>by rw[RE,qe,qe,Bx r];rfl
theorem Fl{l:List (List UInt8)}{w:WS}{i:Nat}(h:i<l.length):qe (l.take (i+1)) w=qe (l.take i) w++[vnm (du (l.take i) w).count]:=by
 rw[an h,Bx];rfl
theorem wg:∀(l:List (List UInt8)) (w:WS),(qe l w).length=l.length
 |[],w=>rfl
 |s::r,w=>by rw[qe,Rr,wg r,Rr]
def w0(fns:List Fd)(k:Nat)(f:Fd):WS:=⟨[],0,if dX fns f.name=some k then 0 else 2⟩
theorem MN(fns:List Fd)(k:Nat)(f:Fd):fnW fns k f=bZ fns k 0 f.body (du f.params (w0 fns k f)):=rfl
theorem IM(fns:List Fd)(k:Nat)(f:Fd):(rnF fns k f).cs=[.str f.name,az (qe f.params (w0 fns k f)),smL (iJ fns k 0 f.body (du f.params (w0 fns k f)))]:=rfl
variable (G:aJ)
theorem Nf{fns:List Fd}{k:Nat}{f:Fd}(hk:fns[k]?=some f)(hz:aL fns≤1073741824):VF Tryz.prog G lJ [.agg [.p (fdL fns)],.p (.int .i64 k)] (.tup [.agg ((rnF fns k f).cs.map .p),.p (.int .i64 (fnW fns k f).code),.p (.int .i64 (fnW fns k f).count)]):=by
 have hfl:=cP fns
 have hfm:=cw (Re hk)
 have hfz:f.sz=1+f.name.length+(f.params.length+(f.params.map List.length).sum)+aq f.body:=rfl
 have hkl:=(QX.1 hk).1
 have key:AC Tryz.prog G lJ [.agg [.p (fdL fns)],.p (.int .i64 k)] [] fun x h=>x= .ret (.tup [.agg [.p (.str f.name),.sl 5 1 0 f.params.length,.p (smL (iJ fns k 0 f.body (du f.params (w0 fns k f))))],.p (.int .i64 (fnW fns k f).code),.p (.int .i64 (fnW fns k f).count)])∧h[5]?=some (gm (qe f.params (w0 fns k f))):=by
  refine AC.goK Bc BO ?_
  have hfd:∀l,fdL l= .lst 3 (l.map Fd.cs):=fun _=>rfl
  have hcs:f.cs=[.str f.name,az f.params,smL f.body]:=rfl
  have hst:az f.params= .lst 1 (f.params.map fun w=>[.str w]):=rfl
  simp-implicitDefEqProofs[K_spec_l4Fn,F_spec_l4Fn]
  refine kG (am 62 [(1,.p (.int .i64 k)),(2,.ptr 0 1 0 0),(4,.ptr 1 3 0 0),(7,.ptr 2 5 0 0),(8,.ptr 3 3 0 0)])
   [.row 1 [[.p (fdL fns)]],.row 3 [[.p (.str []),.nils,.nils]],wO 4 true fns k ⟨[],0,0⟩,.row 3 [[.p (.str f.name),.p (az f.params),.p (smL f.body)]],.dead] ?_ ?_
  ·simp-implicitDefEqProofs[hfd,hk,hcs]
   refine gE (h:=[.row 1 [[.p (fdL fns)]],.row 3 [[.p (.str []),.nils,.nils]],wO 4 true fns k ⟨[],0,0⟩,.row 3 [[.p (.str f.name),.p (az f.params),.p (smL f.body)]]]) (by simp) (by simp) ?_ (by simp[below])
   refine ag (by simp[okO,below]) (ag (by simp[okO,below]) (ag ?_ (ag (by simp[okO,below]) dM)))
   intro x hx
   rw[Ri.1 hx];simp[wC,vaC,below]
  refine kG (am 62 [(1,.p (.int .i64 k)),(2,.ptr 0 1 0 0),(4,.ptr 1 3 0 0),(7,.ptr 2 5 0 0),(8,.ptr 3 3 0 0)])
   [.row 1 [[.p (fdL fns)]],.row 3 [[.p (.str []),.nils,.nils]],wO 4 true fns k (w0 fns k f),.row 3 [[.p (.str f.name),.p (az f.params),.p (smL f.body)]],.dead] ?_ ?_
  ·simp-implicitDefEqProofs[]
   refine(HQ G fns f.name (by omega)).use ?_
   have hok:∀w:WS,∀o∈[AO.row 1 [[.p (fdL fns)]],.row 3 [[.p (.str []),.nils,.nils]],wO 4 true fns k w,.row 3 [[.p (.str f.name),.p (az f.params),.p (smL f.body)]],.dead],okO 5 o:=fun w=>
    ag (by simp[okO,below]) (ag (by simp[okO,below]) (ag (ux (by simp)) (ag (by simp[okO,below]) (ag trivial dM))))
   by_cases he:dX fns f.name=some k
   ·have hw:w0 fns k f=⟨[],0,0⟩:=by rw[w0,if_pos he]
    rw[hw,he]
    simp-implicitDefEqProofs[ixI]
    exact ae (by simp) (hok _) (by simp[below])
   ·have hw:w0 fns k f=⟨[],0,2⟩:=by rw[w0,if_neg he]
    have hne:¬ixI (dX fns f.name)=(k:Int):=by
     intro h
     apply he
     cases e:dX fns f.name with
     |none=>rw[e] at h;simp only[ixI] at h;omega
     |some j=>rw[e] at h;simp only[ixI] at h;have:j=k:=by omega
              rw[this]
    rw[hw]
    simp-implicitDefEqProofs[hne]
    refine(Mg G (wid:=2) (id:=4) (pG G true fns k ⟨[],0,0⟩ 2) (by simp) (by simp[below]) (by decide) rfl rfl).mono ?_
    rintro r h' ⟨rfl,rfl⟩
    simp-implicitDefEqProofs[aa]
    exact ae (h:=[AO.row 1 [[.p (fdL fns)]],.row 3 [[.p (.str []),.nils,.nils]],wO 4 true fns k ⟨[],0,2⟩,.row 3 [[.p (.str f.name),.p (az f.params),.p (smL f.body)]],.dead]) (by simp) (hok _) (by simp[below])
  rw[MN]
  have hw0v:(w0 fns k f).vs=[]:=rfl
  have hw0c:(w0 fns k f).count=0:=rfl
  generalize w0 fns k f=w0 at hw0v hw0c⊢
  simp-implicitDefEqProofs[]
  have hcnt:∀j,j≤f.params.length→(du (f.params.take j) w0).count=j:=fun j hj=>by rw[tY,hw0c];simp;omega
  have hvl:∀j,(du (f.params.take j) w0).vs.length≤(du (f.params.take j) w0).count:=fun j=>Bp _ _ (by rw[hw0v];simp)
  refine aU (fun j:Nat=>am 62 [(1,.p (.int .i64 k)),(2,.ptr 0 1 0 0),(4,.ptr 1 3 0 0),(7,.ptr 2 5 0 0),(8,.ptr 3 3 0 0),(9,.sl 5 1 0 j),(10,.p (.int .i64 j))])
   (fun j=>[.row 1 [[.p (fdL fns)]],.row 3 [[.p (.str []),.nils,.nils]],wO 6 (decide (j=0)) fns k (du (f.params.take j) w0),.row 3 [[.p (.str f.name),.p (az f.params),.p (smL f.body)]],.dead,gm (qe (f.params.take j) w0),roC (decide (j=0)) (du (f.params.take j) w0).vs])
   (fun j=>j≤f.params.length) (fun j=>f.params.length-j) 0 (by simp) ?_ ?_
  ·refine gE (h:=[.row 1 [[.p (fdL fns)]],.row 3 [[.p (.str []),.nils,.nils]],wO 6 true fns k w0,.row 3 [[.p (.str f.name),.p (az f.params),.p (smL f.body)]],.dead,.row 1 []]) (by simp) (by simp) ?_ (by simp[below])
   refine ag (by simp[okO,below]) (ag (by simp[okO,below]) (ag ?_ (ag (by simp[okO,below]) (ag trivial (ag (by simp[okO]) dM)))))
   intro x hx
   rw[Ri.1 hx];simp[wC,vaC,below]
  intro j hj
  have hjc:=hcnt j hj
  have hjv:=hvl j
  have hol:=wg (f.params.take j) w0
  rw[Ru,Nat.min_eq_left hj] at hol
  have hnf:decide (j=0)=true→(du (f.params.take j) w0).vs=[]:=by
   intro h
   have h0:j=0:=by simpa using h
   rw[h0,List.take_zero]
   exact hw0v
  simp-implicitDefEqProofs[hst]
  refine bf (fun h=>?_) (fun h=>?_)
  ·simp at h
   have hg:=QW h
   have eP:=CD (w:=w0) h
   have eR:=Fl (w:=w0) h
   simp-implicitDefEqProofs[hg]
   refine(Io G (wid:=2) (id:=6) (Q:=fun nf' w'=>nf'=false∧w'=kQ (du (f.params.take j) w0) f.params[j] 0) ((IJ G (decide (j=0)) fns k _ hnf (by omega) (by omega) f.params[j] 0).mono (by rintro x h ⟨rfl,rfl⟩;exact⟨false,_,rfl,rfl,rfl,rfl⟩)) (by simp) (by simp[below]) (by decide) rfl rfl).mono ?_
   rintro r h' ⟨nf',w',rfl,rfl,rfl,rfl⟩
   have hso:∀l,gm l= .row 1 (l.map fun n=>[.p (.str n)]):=fun _=>rfl
   simp-implicitDefEqProofs[aa,hso,hol]
   refine⟨by omega,j+1,by omega,by omega,?_⟩
   have htk:List.take j ((qe (f.params.take j) w0).map fun n=>[AV.p (.str n)])=(qe (f.params.take j) w0).map fun n=>[AV.p (.str n)]:=Rb (by rw[Rs];omega)
   have hd:decide (j+1=0)=false:=by simp
   rw[eP,eR,hd,List.map_append,←List.map_take,List.map_take,htk]
   refine mA [0,1,2,3,4,9,7] rfl (by decide) (aD rfl (by simp) (aD rfl (by simp[below]) (vK (by simp) rfl (aD rfl (by simp) (fy (by simp) (aD rfl (fun x hx=>?_) (dx rfl (gV _ _ _) bq))))))) (by simp[below,ren,w1 (i:=j) (by omega)])
   rcases Rf.1 hx with h|h
   ·exact pC _ x h
   ·exact pC _ x h
  ·simp at h
   have hje:j=f.params.length:=by omega
   subst hje
   rw[RA] at hol hjc hjv hnf⊢
   generalize decide (f.params.length=0)=nf at hnf⊢
   simp-implicitDefEqProofs[]
   refine(Io G (wid:=2) (id:=6) (IF G (fns:=fns) (by omega) (aq f.body+1) f.body (by omega) 0 _ (du f.params w0) hnf hjv (by omega) (by omega)) (by simp) (by simp[below]) (by decide) rfl rfl).mono ?_
   rintro r h' ⟨nf',w',rfl,rfl,hn',hw'⟩
   have hb:qZ fns k 0 f.body (du f.params w0)=bZ fns k 0 f.body (du f.params w0):=rfl
   rw[hb] at hw'
   rw[←hw']
   simp-implicitDefEqProofs[aa,wO,wC]
 refine key.freezeR (fun t v h ⟨e,_⟩=>by cases e) fun v h ⟨e1,e2⟩=>?_
 cases e1
 rw[IM]
 have hol:=wg f.params (w0 fns k f)
 have hv:=fh e2
 rw[hol] at hv
 exact .tup (.agg (.keep (by simp) (.one hv (.keep (by simp) .nil))) (.keep (by simp) (.keep (by simp) .nil))) .nil
theorem BR{fns:List Fd}{i:Nat}(h:i<fns.length):jc fns i (fns.drop i)=if(fnW fns i fns[i]).code=0 then jc fns (i+1) (fns.drop (i+1)) else(fnW fns i fns[i]).code:=by
 rw[RS h,jc]
theorem wy(l:List Fd)(hz:aL l≤1073741824):VF Tryz.prog G gh [.agg [.p (fdL l)]] (.p (.int .i64 (aT l))):=by
 refine AC.go qm ?_
 have hll:=cP l
 have hfd:∀l,fdL l= .lst 3 (l.map Fd.cs):=fun _=>rfl
 simp-implicitDefEqProofs[kb]
 refine(kC G l (by omega)).use ?_
 by_cases hv:bA l=true
 case neg=>
  have:aT l=1:=if_neg hv
  have hv':bA l=false:=by simpa using hv
  simp-implicitDefEqProofs[hv',this]
 have hc:aT l=jc l 0 (l.drop 0):=if_pos hv
 rw[hc]
 simp-implicitDefEqProofs[hv]
 refine aU (fun i:Nat=>am 27 [(1,.ptr 0 1 0 0),(3,.p (.int .i64 i))]) (fun _=>[.row 1 [[.p (fdL l)]]]) (fun i=>i≤l.length∧jc l 0 l=jc l i (l.drop i)) (fun i=>l.length-i) 0 (by simp) (ae (by simp) (by simp[okO]) (by simp[below])) ?_
 rintro i ⟨hi,he⟩
 simp-implicitDefEqProofs[hfd]
 refine bf (fun h=>?_) (fun h=>?_)
 ·simp at h
  have hg:=QW h
  have hd:=BR h
  simp-implicitDefEqProofs[]
  refine(Nf G hg hz).use ?_
  have hrc:=IM l i l[i]
  by_cases h0:(fnW l i l[i]).code=0
  ·rw[if_pos h0] at hd
   simp-implicitDefEqProofs[h0,hrc]
   refine⟨i+1,⟨by omega,by rw[he,hd]⟩,by omega,?_⟩
   refine ig (m:=1) (by omega) (eE rfl rfl (by simp[okO,below])) (by simp[below,hfd,w1 (i:=i) (by omega)])
  ·rw[if_neg h0] at hd
   simp-implicitDefEqProofs[h0,hrc]
   rw[he,hd]
 ·simp at h
  have hie:i=l.length:=by omega
  subst hie
  rw[List.drop_length] at he
  simp-implicitDefEqProofs[]
  rw[he];rfl
end
section
variable (G:aJ)
abbrev MS:=Int × Int
def qB(st:MS)(x:Sm × Nat):MS:=(IntKind.i64.wrap (st.1+1),if st.2<(x.2:Int) then(x.2:Int) else st.2)
def qJ(l:List Fd)(st:MS):MS:=l.foldl (fun st f=>(cU 1 f.body).foldl qB st) st
theorem xx:∀(l:List (Sm × Nat)) (st:MS),0≤st.1→st.1+l.length≤1099511627776→(l.foldl qB st).1=st.1+l.length
 |[],st,_,_=>by simp
 |x::r,st,h0,h=>by
  have hw:IntKind.i64.wrap (st.1+1)=st.1+1:=af (by omega) (by simp at h;omega)
  rw[List.foldl_cons,xx r _ (by simp only[qB,hw];omega) (by simp only[qB,hw];simp at h;omega)]
  simp only[qB,hw,Rr]
  omega
theorem vS:∀(l:List Fd) (st:MS),0≤st.1→st.1+jH l≤1099511627776→(qJ l st).1=st.1+jH l
 |[],st,_,_=>by simp[qJ,jH]
 |f::r,st,h0,h=>by
  have ha:jH (f::r)=dh f.body+jH r:=by simp[jH]
  have hs:=xx (cU 1 f.body) st h0 (by rw[kV];omega)
  rw[kV] at hs
  have:=vS r ((cU 1 f.body).foldl qB st) (by omega) (by omega)
  simp only[qJ,List.foldl_cons] at this⊢
  omega
theorem CJ{l:List Fd}{st:MS}{i:Nat}(h:i<l.length):qJ (l.take (i+1)) st=(cU 1 l[i].body).foldl qB (qJ (l.take i) st):=by
 rw[qJ,an h,List.foldl_append];rfl
def nQ(p:PV):Vis MS where
 I:=fun st=>[.row 1 [[.p p]],.row 1 [[.p (.int .i64 st.1)]],.row 1 [[.p (.int .i64 st.2)]]]
 n:=3
 F:=fT
 caps:=[.ptr 1 1 0 0,.ptr 2 1 0 0]
 len:=fun _=>rfl
 ok:=fun st=>by simp[okO,below]
 capsOk:=by simp[below]
theorem As(p:PV)(st:MS)(s:Sm)(d:Nat):AC Tryz.prog G fT [.agg (s.cs.map .p),.p (.int .i64 d),.ptr 1 1 0 0,.ptr 2 1 0 0] ((nQ p).I st) fun x h=>x= .ret (.tup [])∧h=(nQ p).I (qB st (s,d)):=by
 refine(nQ p).trim G (AC.go tk ?_) (by simp[below])
 have hse:=s.cs_eq
 simp-implicitDefEqProofs[mX,hse,nQ,qB]
theorem Gp(l:List Fd)(hl:aL l≤1073741824):VF Tryz.prog G kP [.agg [.p (fdL l)]] (.tup [.p (.int .i64 (jH l)),.p (.int .i64 (qJ l (0,0)).2)]):=by
 refine AC.go xr ?_
 have hll:=cP l
 have hfl:∀l,fdL l= .lst 3 (l.map Fd.cs):=fun _=>rfl
 have hn:(qJ l (0,0)).1=jH l:=by rw[vS l (0,0) (by simp) (by simp only;have:=zC l;omega)];simp
 simp-implicitDefEqProofs[oH,hfl]
 refine aU (fun i:Nat=>am 20 [(2,.ptr 1 1 0 0),(3,.ptr 2 1 0 0),(7,.p (fdL l)),(8,.p (.int .i64 l.length)),(9,.p (.int .i64 i))])
  (fun i=>(nQ (fdL l)).I (qJ (l.take i) (0,0))) (fun i=>i≤l.length) (fun i=>l.length-i) 0 (by simp) ?_ ?_
 ·exact ae (h:=(nQ (fdL l)).I (0,0)) (by simp) ((nQ (fdL l)).ok _) (by simp[below,hfl,nQ])
 intro i hil
 simp-implicitDefEqProofs[hfl]
 refine bf (fun hc=>?_) (fun hc=>?_)
 ·simp at hc
  have hg:=QW hc
  have hks:=cw (Rd hc)
  have hcs:l[i].cs=[.str l[i].name,az l[i].params,smL l[i].body]:=rfl
  have hfz:l[i].sz=1+l[i].name.length+(l[i].params.length+(l[i].params.map List.length).sum)+aq l[i].body:=rfl
  have hI:=(LH G (nQ (fdL l)) qB (fun _=>True) 1073741824 (by omega) (fun st s d _ _=>⟨trivial,As G _ st s d⟩) (aq l[i].body+1) l[i].body (by omega) (by omega) 1 (by omega) (qJ (l.take i) (0,0)) trivial).2
  have hlen:=(nQ (fdL l)).len
  have h3:(nQ (.lst 3 (l.map Fd.cs))).n=3:=rfl
  have hlen':∀st,((nQ (.lst 3 (l.map Fd.cs))).I st).length=3:=fun _=>rfl
  simp-implicitDefEqProofs[hg,hcs,hlen']
  refine((nQ (fdL l)).pre G hI [_] ⟨by simp,by simp,by simp[below,nQ],trivial⟩).mono ?_
  rintro r h ⟨rfl,rfl⟩
  simp-implicitDefEqProofs[aa]
  refine⟨i+1,hc,by omega,?_⟩
  rw[CJ hc]
  refine(nQ (fdL l)).same0 (s:=[_]) _ (by simp[nQ]) ?_
  simp[below,hfl,nQ,w1 (i:=i) (by omega)]
 ·simp at hc
  have hie:i=l.length:=by omega
  subst hie
  rw[RA]
  simp-implicitDefEqProofs[nQ,hn]
theorem tU(hK:G dR=some dC)(s:List UInt8)(hb:s.length≤140737488355328):VF Tryz.prog G bT [.p (.str s)] (.p (.bool (!aR s))):=by
 refine AC.go nX ?_
 simp-implicitDefEqProofs[iP]
 refine(oQ G hK s hb).use ?_
 simp-implicitDefEqProofs[]
def Dm(L:List (List UInt8)):Int:=match L.findIdx? (fun w=> !aR w) with|some i=>i|none=> -1
theorem Ij(L:List (List UInt8)):decide (0≤Dm L)= !(L.all aR):=by
 unfold Dm
 cases h:L.findIdx? (fun x=> !aR x) with
 |none=>
  rw[RI] at h
  have:L.all aR=true:=Rc.2 fun x hx=>by have:=h x hx;simpa using this
  simp[this]
 |some i=>
  rw[Rv] at h
  obtain⟨h1,h2,_⟩:=h
  have:L.all aR=false:=List.all_eq_false.2 ⟨_,Rd h1,by simpa using h2⟩
  rw[this];simp
theorem Jd{L:List (List UInt8)}{n:Nat}(h:(L.map List.length).sum≤n):∀x∈L,x.length≤n:=by
 induction L with
 |nil=>intro x hx;cases hx
 |cons y r ih=>
  intro x hx
  simp only[Rw,List.sum_cons] at h
  rcases Rt.1 hx with rfl|hx
  ·omega
  ·exact ih (by omega) x hx
variable (hK:G dR=some dC)
include hK
theorem CS(L:List (List UInt8))(hb:L.length≤1073741824)(hw:∀x∈L,x.length≤140737488355328):VF Tryz.prog G dS [.p (az L),.fn (.func bT) []] (.p (.int .i64 (Dm L))):=by
 refine AC.go lr ?_
 have hsl:az L= .lst 1 (L.map fun w=>[.str w]):=rfl
 simp-implicitDefEqProofs[fY,hsl]
 refine aU (fun i:Nat=>am 19 [(0,.p (az L)),(1,.fn (.func bT) []),(6,.p (az L)),(7,.p (.int .i64 L.length)),(8,.p (.int .i64 i))]) (fun _=>[]) (fun i=>i≤L.length∧∀w∈L.take i,aR w=true) (fun i=>L.length-i) 0 (by simp) ?_ ?_
 ·exact ae (by simp) (by simp[okO]) (by simp[below,ah,az])
 ·intro i ⟨hi,hn⟩
  simp-implicitDefEqProofs[hsl]
  refine bf (fun h1=>?_) (fun h1=>?_)
  ·simp at h1
   have hg:=QW h1
   simp-implicitDefEqProofs[hg]
   refine(tU G hK _ (hw _ (Rd h1))).use ?_
   by_cases he:aR L[i]=true
   ·simp-implicitDefEqProofs[he]
    refine⟨i+1,⟨h1,fun p hp=>?_⟩,by omega,ae (by simp) (by simp[okO]) ?_⟩
    ·rw[an h1] at hp
     rcases Rf.1 hp with hp|hp
     ·exact hn p hp
     ·rw[Ri.1 hp];exact he
    ·simp[below,ah,az,w1 (i:=i) (by omega)]
   ·have hf:Dm L=i:=by
     have:L.findIdx? (fun w=> !aR w)=some i:=by
      rw[Rv]
      exact⟨h1,by simpa using he,fun j hj=>by have:=hn L[j] (List.mem_take_iff_getElem.2 ⟨j,by omega,rfl⟩);simpa using this⟩
     rw[Dm,this]
    simp-implicitDefEqProofs[he,hf]
  ·simp at h1
   rw[Rb h1] at hn
   have hf:Dm L= -1:=by
    have:L.findIdx? (fun w=> !aR w)=none:=by
     rw[RI];intro x hx;simpa using hn x hx
    rw[Dm,this]
   simp-implicitDefEqProofs[hf]
theorem ye(L:List (List UInt8))(hb:L.length≤1073741824)(hw:∀x∈L,x.length≤140737488355328):VF Tryz.prog G dc [.p (az L),.fn (.func bT) []] (.p (.bool (!L.all aR))):=by
 rw[←Ij]
 refine AC.go jR ?_
 simp-implicitDefEqProofs[eY]
 refine(CS G hK L hb hw).use ?_
 simp-implicitDefEqProofs[]
variable (hS:G bW=some [.tbl opK opV])
include hS
theorem xi(l:List Fd)(hl:aL l≤1073741824):VF Tryz.prog G eB [.agg [.p (fdL l)]] (.p (.bool (bA l))):=by
 refine AC.go pZ ?_
 have hll:=cP l
 have hfl:∀l,fdL l= .lst 3 (l.map Fd.cs):=fun _=>rfl
 have hm:=Gp G l hl
 rw[hfl] at hm
 simp-implicitDefEqProofs[jX,hfl]
 refine(pi G _ _ _).use ?_
 by_cases h1:inR l.length 1 4=true
 case neg=>simp-implicitDefEqProofs[h1,bA]
 simp-implicitDefEqProofs[h1]
 refine aU (fun i:Nat=>am 48 [(1,.ptr 0 1 0 0),(13,.p (fdL l)),(14,.p (.int .i64 l.length)),(15,.p (.int .i64 i))]) (fun _=>[.row 1 [[.p (.lst 3 (l.map Fd.cs))]]]) (fun i=>i≤l.length∧(l.take i).all ib=true) (fun i=>l.length-i) 0 (by simp) (ae (by simp) (by simp[okO]) (by simp[below,hfl])) ?_
 intro i ⟨hi,ha⟩
 simp-implicitDefEqProofs[hfl]
 refine bf (fun h=>?_) (fun h=>?_)
 ·simp at h
  have hg:=QW h
  have hks:=cw (Rd h)
  have hbadF:ib l[i]=false→bA l=false:=fun hk'=>by simp only[bA,lE h hk',Bool.and_false,Bool.false_and]
  have hcs:l[i].cs=[.str l[i].name,az l[i].params,smL l[i].body]:=rfl
  have hfz:l[i].sz=1+l[i].name.length+(l[i].params.length+(l[i].params.map List.length).sum)+aq l[i].body:=rfl
  have hokF:ib l[i]=(l[i].params.all aR&&aR l[i].name&&decide (l[i].params.length≤3)&&l[i].body.all (au 4)):=rfl
  have hblk:=ug G 4 1 (fun s hs=>by simpa using JU G hK hS 4 (by omega) s hs) l[i].body (by omega)
  have hcon:=ye G hK l[i].params (by omega) (Jd (by omega))
  have hst:az l[i].params= .lst 1 (l[i].params.map fun w=>[.str w]):=rfl
  generalize l[i]=f at*
  rw[hst] at hcon
  simp-implicitDefEqProofs[hg,hcs,hst]
  refine(oQ G hK _ (by omega)).use ?_
  by_cases k1:aR f.name=true
  case neg=>
   rw[hbadF (by rw[hokF];simp[k1])]
   simp-implicitDefEqProofs[k1]
  by_cases k2:f.params.length≤3
  case neg=>
   have k2':(3:Int)<f.params.length:=by omega
   rw[hbadF (by rw[hokF];simp[k2])]
   simp-implicitDefEqProofs[k1,k2']
  have k2':¬(3:Int)<f.params.length:=by omega
  simp-implicitDefEqProofs[k1,k2']
  refine hcon.use ?_
  by_cases k3:f.params.all aR=true
  case neg=>
   have k3':f.params.all aR=false:=by simpa using k3
   rw[hbadF (by rw[hokF,k3'];simp)]
   simp-implicitDefEqProofs[k3']
  simp only[k3]
  simp-implicitDefEqProofs[]
  refine hblk.use ?_
  by_cases k4:f.body.all (au 4)=true
  case neg=>
   have k4':f.body.all (au 4)=false:=by simpa using k4
   rw[hbadF (by rw[hokF,k4'];simp)]
   simp only[k4']
   simp-implicitDefEqProofs[]
  simp only[k4]
  simp-implicitDefEqProofs[]
  have hk:ib f=true:=by rw[hokF,k1,k3,k4];simp[k2]
  refine⟨i+1,⟨h,by rw[←Rc,ow hg,ha,hk];rfl⟩,by omega,ig (m:=1) (by omega) (eE rfl rfl (by simp[okO,below])) (by simp[below,hfl,w1 (i:=i) (by omega)])⟩
 ·simp at h
  have h2:l.all ib=true:=gx h ha
  simp-implicitDefEqProofs[]
  refine hm.use ?_
  have hff:bA l=decide (jH l≤40):=by simp only[bA,h1,h2,Bool.true_and]
  simp-implicitDefEqProofs[hff]
  omega
end
section
variable (G:aJ)
theorem Hh(l:List Fd)(s:List UInt8)(hl:l.length≤1073741824):VF Tryz.prog G jI [.agg [.p (fdL l)],.p (.str s)] (.p (.int .i64 (ixI (dX l s)))):=by
 have hfl:∀l,fdL l= .lst 3 (l.map Fd.cs):=fun _=>rfl
 have eS:∀f:Fd,AC Tryz.prog G gw [.agg (f.cs.map .p),.ptr 1 1 0 0] [.row 1 [[.p (fdL l)]],.row 1 [[.p (.str s)]]] fun x h=>x= .ret (.p (.bool (decide (f.name=s))))∧h=[.row 1 [[.p (fdL l)]],.row 1 [[.p (.str s)]]]:=by
  intro f
  have hcs:f.cs=[.str f.name,az f.params,smL f.body]:=rfl
  refine AC.trim (AC.go xY ?_) (by simp[below])
  simp-implicitDefEqProofs[qC,hcs]
 have idx:AC Tryz.prog G dH [.p (fdL l),.fn (.func gw) [.ptr 1 1 0 0]] [.row 1 [[.p (fdL l)]],.row 1 [[.p (.str s)]]] fun x h=>x= .ret (.p (.int .i64 (ixI (dX l s))))∧h=[.row 1 [[.p (fdL l)]],.row 1 [[.p (.str s)]]]:=by
  refine AC.go kD ?_
  simp-implicitDefEqProofs[fH,hfl]
  refine aU (fun i:Nat=>am 19 [(0,.p (fdL l)),(1,.fn (.func gw) [.ptr 1 1 0 0]),(7,.p (.int .i64 l.length)),(8,.p (.int .i64 i))]) (fun _=>[.row 1 [[.p (fdL l)]],.row 1 [[.p (.str s)]]]) (fun i=>i≤l.length∧∀f∈l.take i,f.name≠s) (fun i=>l.length-i) 0 (by simp) ?_ ?_
  ·exact ae (by simp) (by simp[okO,below]) (by simp[below,ah,hfl])
  ·intro i ⟨hi,hn⟩
   simp-implicitDefEqProofs[hfl]
   refine bf (fun h1=>?_) (fun h1=>?_)
   ·simp at h1
    have hg:=QW h1
    simp-implicitDefEqProofs[hg]
    refine(eS l[i]).mono ?_
    rintro r h ⟨rfl,rfl⟩
    by_cases he:l[i].name=s
    ·have hf:dX l s=some i:=by
      rw[dX,Rv]
      exact⟨h1,by simpa using he,fun j hj=>by have:=hn l[j] (List.mem_take_iff_getElem.2 ⟨j,by omega,rfl⟩);simpa using this⟩
     simp-implicitDefEqProofs[aa,he,hf,ixI]
     exact hfl l
    ·simp-implicitDefEqProofs[aa,he]
     refine⟨i+1,⟨h1,fun p hp=>?_⟩,by omega,ae (h:=[.row 1 [[.p (fdL l)]],.row 1 [[.p (.str s)]]]) (by simp) (by simp[okO,below]) (by simp[below,ah,hfl,w1 (i:=i) (by omega)])⟩
     rw[an h1] at hp
     rcases Rf.1 hp with hp|hp
     ·exact hn p hp
     ·rw[Ri.1 hp];exact he
   ·simp at h1
    rw[Rb h1] at hn
    have hf:dX l s=none:=by
     rw[dX,RI];intro x hx;simpa using hn x hx
    simp-implicitDefEqProofs[hf,ixI]
 refine AC.go Bh ?_
 simp-implicitDefEqProofs[ud]
 refine idx.mono ?_
 rintro r h ⟨rfl,rfl⟩
 simp-implicitDefEqProofs[aa]
structure GS where (gap:List AO) (m:Scp)
def mpE(m:Scp):List (PV × AV):=m.map fun x=>(.str x.1,.p (.int .i64 x.2))
def scL:List GS→Nat
 |[]=>0
 |g::up=>scL up+g.gap.length+2
def upV:List GS→AV
 |[]=> .nilp
 |g::up=> .ptr (2+scL up+g.gap.length+1) 2 0 0
def scH:List GS→List AO
 |[]=>[]
 |g::up=>scH up++(g.gap++[.mp (mpE g.m),.row 2 [[.mp (2+scL up+g.gap.length),upV up]]])
theorem lU:∀ch:List GS,(scH ch).length=scL ch
 |[]=>rfl
 |g::up=>by simp only[scH,scL,Rn,lU up,Rr,List.length_nil];omega
def cO(fns:List Fd)(k:Nat)(c:Int):AO:= .row 3 [[.p (fdL fns),.p (.int .i64 k),.p (.int .i64 c)]]
def CH(b0:AO)(fns:List Fd)(k:Nat)(c:Int)(ch:List GS):List AO:=b0::cO fns k c::scH ch
theorem jb(b0:AO)(fns:List Fd)(k:Nat)(c:Int)(ch:List GS):(CH b0 fns k c ch).length=2+scL ch:=by
 simp only[CH,Rr,lU];omega
def xv:List GS→Prop
 |[]=>True
 |g::up=>(∀o∈g.gap,okO (2+scL up+g.gap.length) o)∧xv up
theorem kw:∀(ch:List GS) {n:Nat},2+scL ch≤n→below n (upV ch)
 |[],_,_=>by simp[upV,below]
 |g::up,n,h=>by simp only[scL] at h;simp only[upV,below];omega
theorem Du:∀(ch:List GS) {n:Nat},xv ch→2+scL ch≤n→∀o∈scH ch,okO n o
 |[],_,_,_,o,ho=>by cases ho
 |g::up,n,⟨h1,h2⟩,hn,o,ho=>by
  simp only[scL] at hn
  rw[scH] at ho
  rcases Rf.1 ho with h|h
  ·exact Du up h2 (by omega) o h
  ·rcases Rf.1 h with h|h
   ·exact sI (by omega) (h1 o h)
   ·simp only[Rt,List.not_mem_nil,or_false] at h
    rcases h with rfl|rfl
    ·intro e he
     obtain⟨x,_,rfl⟩:=Rp.1 he
     simp[below]
    ·intro e he
     rw[Ri.1 he]
     exact⟨by simp only[below];omega,kw up (by omega),trivial⟩
theorem AL{b0:AO}{fns:List Fd}{k:Nat}{c:Int}{ch:List GS}(hb:okO 0 b0)(hs:xv ch){n:Nat}(hn:2+scL ch≤n):∀o∈CH b0 fns k c ch,okO n o:=
 ag (bP hb) (ag (by intro e he;rw[Ri.1 he];simp[below]) (Du ch hs hn))
theorem rJ(s:List UInt8):∀m:Scp,iC (.str s) (mpE m)=some ((jl m s).map fun n=>AV.p (.int .i64 n))
 |[]=>rfl
 |x::r=>by
  have ih:=rJ s r
  by_cases h:x.1=s
  ·simp[mpE,iC,keq,h,jl]
  ·have h':¬s=x.1:=fun e=>h e.symm
   simp only[mpE,Rw,iC,keq,h',decide_false]
   simp only[mpE] at ih
   rw[ih];simp[jl,h]
theorem we(s:List UInt8)(n:Nat):∀m:Scp,lc (.str s) (.p (.int .i64 n)) (mpE m)=some (mpE (kr m s n))
 |[]=>rfl
 |x::r=>by
  have ih:=we s n r
  by_cases h:x.1=s
  ·simp[mpE,lc,keq,h,kr]
  ·have h':¬s=x.1:=fun e=>h e.symm
   simp only[mpE,Rw,lc,keq,h',decide_false]
   simp only[mpE] at ih
   rw[ih];simp[kr,h]
abbrev sco(ch:List GS):List Scp:=ch.map GS.m
theorem GN:∀(pre:List GS) (g:GS) (up:List GS),(scH (pre++g::up))[scL up+g.gap.length]?=some (.mp (mpE g.m))∧(scH (pre++g::up))[scL up+g.gap.length+1]?=some (.row 2 [[.mp (2+scL up+g.gap.length),upV up]])
 |[],g,up=>by
  have hl:(scH up++g.gap).length=scL up+g.gap.length:=by rw[Rn,lU]
  have e:scH (g::up)=(scH up++g.gap)++[.mp (mpE g.m),.row 2 [[.mp (2+scL up+g.gap.length),upV up]]]:=by rw[scH,RB]
  rw[List.nil_append,e]
  exact⟨by rw[←hl,Rl (Rj _)];simp,by rw[←hl,Rl (by omega)];simp⟩
 |p::pre,g,up=>by
  obtain⟨h1,h2⟩:=GN pre g up
  have hm1:=(QX.1 h1).1
  have hm2:=(QX.1 h2).1
  rw[RE,scH]
  exact⟨by rw[QZ hm1];exact h1,by rw[QZ hm2];exact h2⟩
theorem Ch(ch:List GS):(upV ch).isCell=true:=by cases ch<;>rfl
theorem FJ(ch:List GS):(upV ch).cells=[upV ch]:=by cases ch<;>rfl
attribute [simp ↓] Ch FJ
theorem zz(b0:AO)(fns:List Fd)(k:Nat)(c e:Int)(r:List AO):AC Tryz.prog G aH [.ptr 1 3 0 0,.p (.int .i64 e)] (b0::cO fns k c::r) fun x h=>x= .ret (.tup [])∧h=b0::cO fns k (fl c e)::r:=by
 refine AC.go qb ?_
 by_cases h0:c=0
 ·simp-implicitDefEqProofs[gn,cO,h0,fl]
 ·simp-implicitDefEqProofs[gn,cO,h0,fl]
theorem wo(up:AV)(hu:up= .nilp∨∃i,up= .ptr i 2 0 0)(h:List AO):AC Tryz.prog G bS [up] h fun x h'=>x= .ret (.ptr (h.length+1) 2 0 0)∧h'=h++[.mp [],.row 2 [[.mp h.length,up]]]:=by
 refine AC.go sJ ?_
 rcases hu with rfl|⟨i,rfl⟩
 ·simp-implicitDefEqProofs[ij]
 ·simp-implicitDefEqProofs[ij]
theorem GI(b0 c0:AO)(ch:List GS)(rest:List AO)(s:List UInt8):AC Tryz.prog G cn [upV ch,.p (.str s)] (b0::c0::(scH ch++rest)) fun x h=>x= .ret (.tup [.p (.int .i64 (((ic (sco ch) s).getD 0:Nat):Int)),.p (.bool (ic (sco ch) s).isSome)])∧h=b0::c0::(scH ch++rest):=by
 refine AC.goB rY fun hb=>?_
 simp-implicitDefEqProofs[lw]
 have hHl:(b0::c0::(scH ch++rest)).length=2+scL ch+rest.length:=by simp only[Rr,Rn,lU];omega
 refine aU (fun r:List GS=>am 25 [(0,upV r),(1,.p (.str s))]) (fun _=>b0::c0::(scH ch++rest)) (fun r=>∃pre,ch=pre++r∧ic (sco ch) s=ic (sco r) s) (fun r=>r.length) ch ⟨[],rfl,rfl⟩ ?_ ?_
 ·refine wq (by simp) hb ?_
  rw[hHl]
  exact⟨⟨kw ch (by omega),by simp⟩,⟨by simp,by simp⟩,trivial⟩
 rintro r ⟨pre,e1,e2⟩
 cases r with
 |nil=>
  rw[e2]
  simp-implicitDefEqProofs[upV,ic]
 |cons g up=>
  obtain⟨a1,a2⟩:=GN pre g up
  rw[←e1] at a1 a2
  have b1:=(QX.1 a1).1
  have b2:=(QX.1 a2).1
  have l1:(b0::c0::(scH ch++rest))[2+scL up+g.gap.length]?=some (.mp (mpE g.m)):=by
   rw[show 2+scL up+g.gap.length=(scL up+g.gap.length)+1+1 by omega,Rg,Rg,QZ b1,a1]
  have l2:(b0::c0::(scH ch++rest))[2+scL up+g.gap.length+1]?=some (.row 2 [[.mp (2+scL up+g.gap.length),upV up]]):=by
   rw[show 2+scL up+g.gap.length+1=(scL up+g.gap.length+1)+1+1 by omega,Rg,Rg,QZ b2,a2]
  have hmg:=rJ s g.m
  have hle:=lU ch
  rw[e2]
  generalize hH:b0::c0::(scH ch++rest)=H at*
  have hup:upV (g::up)= .ptr (2+scL up+g.gap.length+1) 2 0 0:=rfl
  cases hh:jl g.m s with
  |some n=>
   rw[hh] at hmg
   simp-implicitDefEqProofs[hup,l1,l2,hmg,ic,hh]
  |none=>
   rw[hh] at hmg
   simp-implicitDefEqProofs[hup,l1,l2,hmg,ic,hh]
   refine⟨up,⟨⟨pre++[g],by rw[e1];simp⟩,rfl⟩,by simp,?_⟩
   refine wq ?_ hb ?_
   ·rw[hHl,lU];omega
   ·refine⟨⟨kw up ?_,?_⟩,⟨by simp,by simp⟩,trivial⟩
    ·rw[hHl]
     have:=congrArg List.length e1
     have h3:=(QX.1 l2).1
     rw[hHl] at h3
     omega
    ·simp
end
end Go.Proofs.YtaopbokndkdieaaGreatDoor
