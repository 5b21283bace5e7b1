/-
  Contracts and lemmas that the card needs, part 6.
-/
import Derived.Test.YtigmcjbgnmpbeaaGreatKv5
namespace Go.Proofs.YtigmcjbgnmpbeaaGreat
open Go Go.Aw
set_option maxRecDepth 100000
set_option maxHeartbeats 4000000
section
theorem aq{α:Type}{xs:List α}{i:Nat}(h:i<xs.length):xs.take (i+1)=xs.take i++[xs[i]]:=by rw[WQ,Wc h];rfl
def ah(l:List Int):PV:= .lst 1 (l.map λn=>[.int .i64 n])
def Ev(l:List Int):AO:= .row 1 (l.map λn=>[.p (.int .i64 n)])
theorem Mn{l:List Int}{id:Nat}{h:List AO}(e:h[id]?=some (Ev l)):View h (.sl id 1 0 l.length) (ah l):=by
 have:=tC (h:=h) (id:=id) (sz:=1) (n:=l.length) (ls:=l.map λn=>[.int .i64 n]) (by rw[e,Ev];simp) (by simp) (λx hx=>by obtain⟨b,_,rfl⟩:=Ww.1 hx;rfl);exact this
end
section
def inR(n lo hi:Int):Bool:=decide (lo<=n)&&decide (n<=hi)
end
section
theorem oZ{n:Nat}{h h1:List AO}(e:h.take n=h1)(hn:h1.length=n)(ho:∀o∈h1,okO n o):Fst n h h1:=by
 have hl:n<=h.length:=by
  have:=congrArg List.length e;rw[WD] at this;omega
 have hg:∀(i:Nat) (o:AO),h1[i]?=some o->h[i]?=some o:=λi o hi=>by
  have h2:=(Wa.1 hi).1;rw[←e,YI (by omega)] at hi;exact hi
 exact⟨hn,hl,λi sz es hi=>⟨hg _ _ hi,ho _ (Wq hi)⟩,λi es hi=>⟨hg _ _ hi,ho _ (Wq hi)⟩,λi s p hi=>hg _ _ hi⟩
end
section
abbrev BL:Nat:=9223372036854775807
def cq(ss:List Nat)(i:Nat):Nat:=ss.length+((ss.take i).map (· -1)).sum
theorem rA(ss:List Nat):cq ss 0=ss.length:=by simp[cq]
theorem ri{ss:List Nat}{i v:Nat}(h:ss[i]?=some v):cq ss (i+1)=cq ss i+(v-1):=by rw[cq,cq,WQ,h,WF,YV];simp;omega
theorem Eh:∀{ss:List Nat},(∀v∈ss,1<=v)->ss.length+(ss.map (· -1)).sum=ss.sum
 |[],_=>rfl
 |v::r,h=>by
  have:=Eh (ss:=r) λx hx=>h x (by simp[hx]);have h1:=h v (by simp);simp only[WC,WJ,XC];omega
theorem uF{ss:List Nat}(h:∀v∈ss,1<=v){i:Nat}(hi:ss.length<=i):cq ss i=ss.sum:=by rw[cq,Wi hi,Eh h]
theorem Ah{ss:List Nat}(h:∀v∈ss,1<=v)(i:Nat):cq ss i<=ss.sum:=by
 rw[←Eh h,cq]
 have:(ss.map (· -1)).sum=((ss.take i).map (· -1)).sum+((ss.drop i).map (· -1)).sum:=by
  conv=>lhs;rw[←XH i ss,WF,YV]
 omega
def ed(left z:Nat):Int:=if z<=left then((left-z:Nat):Int) else-1
end
section
variable (G:aw)
theorem dm(n lo hi:Int):VF Tryz.prog G cJ [.p (.int .i64 n),.p (.int .i64 lo),.p (.int .i64 hi)] (.p (.bool (inR n lo hi))):=by
 refine AC.go GW ?_
 by_cases h:lo<=n
 ·simp[pX,h,inR]
 ·simp[pX,h,inR]
end
section
theorem aC{left z:Nat}(h:¬z<=left):ed left z= -1:=WB h
theorem aQ{left z:Nat}(h:z<=left):ed left z=((left-z:Nat):Int):=Wz h
end
section
theorem br{s:Bool}{h:List AO}{vs:List AV}{q:PV}{I:List Nat}(H:OwnL s h vs [q] I):∃v,vs=[v]:=by
 have:=H.len
 match vs,this with
 |[v],_=>exact⟨v,rfl⟩
end
section
theorem aO(q:PV):(AV.p q).isCell=true:=rfl
theorem cI(a b c d:Nat):(AV.sl a b c d).isCell=true:=rfl
theorem tj(a b c d:Nat):(AV.ptr a b c d).isCell=true:=rfl
theorem eG:AV.nils.isCell=true:=rfl
theorem kR(q:PV):(AV.p q).cells=[AV.p q]:=rfl
theorem iv(a b c d:Nat):(AV.sl a b c d).cells=[AV.sl a b c d]:=rfl
theorem ET(a b c d:Nat):(AV.ptr a b c d).cells=[AV.ptr a b c d]:=rfl
theorem az(cs:List AV):(AV.agg cs).cells=cs:=rfl
end
section
theorem Vj{r:List AV}(h:r.length=4):∃a b c d,r=[a,b,c,d]:=by
 match r,h with
 |[a,b,c,d],_=>exact⟨a,b,c,d,rfl⟩
theorem Vm{r:List AV}(h:r.length=5):∃a b c d e,r=[a,b,c,d,e]:=by
 match r,h with
 |[a,b,c,d,e],_=>exact⟨a,b,c,d,e,rfl⟩
theorem Vg{r:List AV}(h:r.length=3):∃a b c,r=[a,b,c]:=by
 match r,h with
 |[a,b,c],_=>exact⟨a,b,c,rfl⟩
theorem dU{s:Bool}{h:List AO}{v:AV}{q:PV}{I:List Nat}(H:OwnL s h [v] [q] I):v.cells=[v]/\v.isCell=true:=by
 cases H with
 |p _ _ _=>exact⟨rfl,rfl⟩
 |nils _ _=>exact⟨rfl,rfl⟩
 |sl id sz n rows es _ _ _ _ _ _ _=>exact⟨rfl,rfl⟩
theorem fr3{s:Bool}{a b c a' b' c':AO}{os r:List AO}{vs:List AV}{qs:List PV}{I:List Nat}(H:OwnL s (a::b::c::os) vs qs I)(hI:∀i∈I,3<=i):OwnL s (a'::b'::c'::(os++r)) vs qs I:=by
 have h1:OwnL s (a'::b'::c'::os) vs qs I:=H.frame λi hi=>by
  have:=hI i hi;obtain⟨k,rfl⟩:∃k,i=k+3:=⟨i-3,by omega⟩;rfl
 exact h1.more r
theorem Nc{I J:List Nat}(k:Nat)(n1:I.Nodup)(n2:J.Nodup)(h1:∀i∈I,i<k)(h2:∀j∈J,k<=j):(I++J).Nodup:=
 WG.2 ⟨n1,n2,λa ha b hb e=>by have:=h1 a ha;have:=h2 b hb;omega⟩
end
section
structure Ii where (op to:Int) (args:List Int) (n:Int)
structure Ph where (to:Int) (args:List Int)
def Ii.cs(x:Ii):List PV:=[.int .i64 x.op,.int .i64 x.to,ah x.args,.int .i64 x.n]
def Ph.cs(x:Ph):List PV:=[.int .i64 x.to,ah x.args]
def inL(l:List Ii):PV:= .lst 4 (l.map Ii.cs)
def phL(l:List Ph):PV:= .lst 2 (l.map Ph.cs)
structure Bk where (phis:List Ph) (ins:List Ii) (jump on:Int) (next:List Int)
def Bk.cs(b:Bk):List PV:=[phL b.phis,inL b.ins,.int .i64 b.jump,.int .i64 b.on,ah b.next]
def bkL(l:List Bk):PV:= .lst 5 (l.map Bk.cs)
structure Cd where (params regs:Int) (blocks:List Bk)
def Cd.cs(c:Cd):List PV:=[.int .i64 c.params,.int .i64 c.regs,bkL c.blocks]
def cdL(l:List Cd):PV:= .lst 3 (l.map Cd.cs)
def bk0:Bk:=⟨[],[],0,0,[]⟩
end
section
section
variable {s:Bool} {h:List AO} {id sz:Nat} {rows:List (List AV)} {D:List (List PV)} {J:List Nat}
theorem NI(H:RowOwn s h id sz rows D J){h2 os:List AO}(e2:h2=h++os){rs:List (List AV)}{es:List (List PV)}{I2:List Nat}(ho:OwnL s h2 rs.flatten es.flatten I2)(hl:rs.length=es.length)(hr:∀e∈rs,e.length=sz)(he:∀e∈es,e.length=sz)(nd2:I2.Nodup)(hd:∀j∈I2,j≠id/\j∉J):
 RowOwn s (h2.set id .dead++[.row sz (rows++rs)]) h2.length sz (rows++rs) (D++es) (J++I2):=by
 subst e2;have hid:=H.lt;have hn:=H.nd;rw[WR] at hn;have hid2:id∉I2:=λhm=>(hd _ hm).1 rfl;have hlt:∀j∈J,j<h.length:=λj hj=>H.own.lt hj;have hlt2:∀j∈I2,j<(h++os).length:=λj hj=>ho.lt hj;refine⟨by rw[Wg (by simp)];simp,by simp[H.len,hl],λe he'=>?_,λe he'=>?_,?_,?_⟩
 ·rcases Ws.1 he' with h1|h1
  ·exact H.rl e h1
  ·exact hr e h1
 ·rcases Ws.1 he' with h1|h1
  ·exact H.dl e h1
  ·exact he e h1
 ·rw[XS,XS];exact(((H.own.more os).set_out hn.1 _).more _).app ((ho.set_out hid2 _).more _)
 ·rw[WR,WG];refine⟨λhm=>?_,hn.2,nd2,λa ha b hb e=>?_⟩
  ·rcases Ws.1 hm with hm|hm
   ·have:=hlt _ hm;simp at this;omega
   ·have:=hlt2 _ hm;omega
  ·subst e;exact(hd a hb).2 ha
end
def Frm(S:List Nat)(h h':List AO):Prop:=h.length<=h'.length/\∀i,i<h.length->i∉S->h'[i]?=h[i]?
theorem Frm.refl(S:List Nat)(h:List AO):Frm S h h:=⟨Wo _,λ_ _ _=>rfl⟩
theorem Frm.more(S:List Nat)(h os:List AO):Frm S h (h++os):=⟨by simp,λi hi _=>Wb hi⟩
theorem Frm.trans{S T:List Nat}{h h1 h2:List AO}(a:Frm S h h1)(b:Frm T h1 h2)(hT:∀j∈T,j∈S\/h.length<=j):Frm S h h2:=
 ⟨Xw a.1 b.1,λi hi hn=>by
   rw[b.2 i (by have:=a.1;omega) λhm=>by
    rcases hT i hm with h|h
    ·exact hn h
    ·omega,a.2 i hi hn]⟩
theorem Su{s:Bool}{h:List AO}{v:AV}{q:PV}{I:List Nat}(H:OwnL s h [v] [q] I):v.cells=[v]/\v.isCell=true:=by
 cases H with
 |p _ _ _=>exact⟨rfl,rfl⟩
 |nils _ _=>exact⟨rfl,rfl⟩
 |sl id sz n rows es _ _ _ _ _ _ _=>exact⟨rfl,rfl⟩
section
variable {h:List AO} {I:List Nat}
end
end
section
def AN:AV->Bool
 | .p (.lst _ _)=>false
 |_=>true
def NoL(h:List AO)(I:List Nat):Prop:=∀j∈I,∀(sz:Nat) (rows:List (List AV)),h[j]?=some (.row sz rows)->∀r∈rows,∀v∈r,AN v=true
theorem NoL.frame{h h':List AO}{I:List Nat}(H:NoL h I)(e:∀i∈I,h'[i]?=h[i]?):NoL h' I:=λj hj sz rows hg=>H j hj sz rows (by rw[←e j hj];exact hg)
theorem NoL.app{h:List AO}{I J:List Nat}(a:NoL h I)(b:NoL h J):NoL h (I++J):=λj hj=>(Ws.1 hj).elim (a j) (b j)
theorem NoL.sub{h:List AO}{I J:List Nat}(a:NoL h I)(s:∀j∈J,j∈I):NoL h J:=λj hj=>a j (s j hj)
theorem NoL.cons{h:List AO}{id sz:Nat}{rows:List (List AV)}{J:List Nat}(e:h[id]?=some (.row sz rows))(hr:∀r∈rows,∀v∈r,AN v=true)(b:NoL h J):NoL h (id::J):=λj hj=>by
 rcases WE.1 hj with rfl|hj
 ·intro sz2 rows2 e2;rw[e] at e2;cases e2;exact hr
 ·exact b j hj
structure Own (n:Nat) (h:List AO) (vs:List AV) (qs:List PV) (I:List Nat):Prop where
 own:OwnL true h vs qs I
 nd:I.Nodup
 no:NoL h I
 nv:∀v∈vs,AN v=true
 ge:∀j∈I,n<=j
section
variable {n:Nat} {h h2:List AO} {vs:List AV} {qs:List PV} {I:List Nat} {V:AV} {sz:Nat} {D:List (List PV)}
theorem Own.frame(H:Own n h vs qs I)(e:∀i∈I,h2[i]?=h[i]?):Own n h2 vs qs I:=⟨H.own.frame e,H.nd,H.no.frame e,H.nv,H.ge⟩
theorem Own.lt(H:Own n h vs qs I):∀i∈I,i<h.length:=λ_ hi=>H.own.lt hi
theorem Own.more(H:Own n h vs qs I)(os:List AO):Own n (h++os) vs qs I:=H.frame λi hi=>Wb (H.lt i hi)
theorem Own.low{m:Nat}(H:Own n h vs qs I)(hm:∀j∈I,m<=j):Own m h vs qs I:=⟨H.own,H.nd,H.no,H.nv,hm⟩
theorem Own.nil(n:Nat)(h:List AO)(sz:Nat):Own n h [.nils] [.lst sz []] []:=⟨.nils sz .nil,Yk,(λj hj=>by cases hj),(λv hv=>by rw[Wt.1 hv];rfl),(λj hj=>by cases hj)⟩
theorem Own.nix(n:Nat)(h:List AO):Own n h [] [] []:=⟨.nil,Yk,(λj hj=>by cases hj),(λv hv=>by cases hv),(λj hj=>by cases hj)⟩
theorem Own.sc(H:Own n h vs qs I)(q:PV)(hq:Nn q=true)(hn:AN (.p q)=true):Own n h (.p q::vs) (q::qs) I:=⟨.p q (λ_=>hq) H.own,H.nd,H.no,λv hv=>by
 rcases WE.1 hv with rfl|hv
 ·exact hn
 ·exact H.nv v hv,H.ge⟩
theorem Own.app{us:List AV}{rs:List PV}{J:List Nat}(H:Own n h vs qs I)(H2:Own n h us rs J)(hd:∀j∈I,j∉J):Own n h (vs++us) (qs++rs) (I++J):=
 ⟨H.own.app H2.own,WG.2 ⟨H.nd,H2.nd,λa ha b hb e=>hd a ha (e▸hb)⟩,H.no.app H2.no,λv hv=>(Ws.1 hv).elim (H.nv v) (H2.nv v),λj hj=>(Ws.1 hj).elim (H.ge j) (H2.ge j)⟩
theorem Own.one{q:PV}(H:Own n h vs (q::qs) I):∃v us I1 I2,vs=v::us/\I=I1++I2/\Own n h [v] [q] I1/\Own n h us qs I2:=by
 obtain⟨v,us,rfl⟩:∃v us,vs=v::us:=by
  have:=H.own.len;cases vs with
  |nil=>simp at this
  |cons v us=>exact⟨v,us,rfl⟩
 obtain⟨I1,I2,rfl,h1,h2⟩:=H.own.one;have hn:=WG.1 H.nd;exact⟨v,us,I1,I2,rfl,rfl,⟨h1,hn.1,H.no.sub λj hj=>by simp[hj],λx hx=>H.nv x (by rw[Wt.1 hx];simp),λj hj=>H.ge j (by simp[hj])⟩,⟨h2,hn.2.1,H.no.sub λj hj=>by simp[hj],λx hx=>H.nv x (by simp[hx]),λj hj=>H.ge j (by simp[hj])⟩⟩
theorem Own.row(H:Own n h [V] [.lst sz D] I):(V= .nils/\D=[]/\I=[])\/∃id rows J,V= .sl id sz 0 D.length/\I=id::J/\RowOwn true h id sz rows D J/\∀r∈rows,∀v∈r,AN v=true:=by
 rcases H.own.inv H.nd with⟨h1,h2,h3|h3⟩|⟨h1,_⟩|⟨id,rows,J,h1,h2,h3⟩
 ·exact .inl ⟨h3,h1,h2⟩
 ·have:=H.nv V (by simp);rw[h3] at this;cases this
 ·cases h1
 ·exact .inr ⟨id,rows,J,h1,h2,h3,H.no id (by rw[h2];simp) sz rows h3.here⟩
theorem Own.of{id:Nat}{rows:List (List AV)}{J:List Nat}(H:RowOwn true h id sz rows D J)(hn:∀r∈rows,∀v∈r,AN v=true)(hJ:NoL h J)(hg:∀j∈id::J,n<=j){m:Nat}(hm:m=D.length):Own n h [.sl id sz 0 m] [.lst sz D] (id::J):=
 ⟨H.tree hm,H.nd,hJ.cons H.here hn,λv hv=>by rw[Wt.1 hv];rfl,hg⟩
theorem Own.view(H:Own n h [V] [.lst sz D] I):View h V (.lst sz D):=H.own.view 0 V _ rfl rfl
theorem Own.cell{q:PV}(H:Own n h [V] [q] I):V.cells=[V]/\V.isCell=true:=by
 cases H.own with
 |p _ _ _=>exact⟨rfl,rfl⟩
 |nils _ _=>exact⟨rfl,rfl⟩
 |sl id sz n rows es _ _ _ _ _ _ _=>exact⟨rfl,rfl⟩
theorem Own.first{r:List AV}{e:List PV}{J:List Nat}(H2:Own n h2 r e J)(he:e.length=sz)(hn:n<=h2.length):Own n (h2++[.row sz [r]]) [.sl h2.length sz 0 1] [.lst sz [e]] (h2.length::J):=by
 have hl:∀j∈J,j<h2.length:=H2.lt
 refine Own.of (rows:=[r]) ⟨by rw[Wg (Wo _)];simp,rfl,λx hx=>by rw[Wt.1 hx,H2.own.len,he],λx hx=>by rw[Wt.1 hx,he],by simpa using H2.own.more [.row sz [r]],WR.2 ⟨λhm=>by have:=hl _ hm;omega,H2.nd⟩⟩ (λx hx=>by rw[Wt.1 hx];exact H2.nv) (H2.more _).no (λj hj=>by
  rcases WE.1 hj with rfl|hj
  ·exact hn
  ·exact H2.ge j hj) rfl
theorem Own.push{id:Nat}{rows:List (List AV)}{J:List Nat}(H:Own n h [.sl id sz 0 D.length] [.lst sz D] (id::J))(hr:RowOwn true h id sz rows D J){os:List AO}(e2:h2=h++os){r:List AV}{e:List PV}{J2:List Nat}(H2:Own n h2 r e J2)(he:e.length=sz)(hd:∀j∈J2,j≠id/\j∉J):
 Own n (h2.set id .dead++[.row sz (rows++[r])]) [.sl h2.length sz 0 (D.length+1)] [.lst sz (D++[e])] (h2.length::(J++J2)):=by
 have R:=NI hr (rs:=[r]) (es:=[e]) e2 (by simpa using H2.own) rfl (λx hx=>by rw[Wt.1 hx,H2.own.len,he]) (λx hx=>by rw[Wt.1 hx,he]) H2.nd hd;have hid:=hr.lt;have hnJ:id∉J:=(WR.1 hr.nd).1;have hlJ:∀j∈J,j<h.length:=λj hj=>hr.own.lt hj;have hl2:h.length<=h2.length:=by rw[e2];simp
 have hr0:=H.no id (by simp) sz rows hr.here;refine Own.of R (λx hx=>?_) ?_ (λj hj=>?_) (by simp)
 ·rcases Ws.1 hx with h1|h1
  ·exact hr0 x h1
  ·rw[Wt.1 h1];exact H2.nv
 ·refine NoL.app ((H.no.sub (J:=J) λj hj=>by simp[hj]).frame λi hi=>?_) (H2.no.frame λi hi=>?_)
  ·have hil:=hlJ i hi;have hne:id≠i:=λe=>hnJ (e▸hi);rw[Wb (by rw[Wy];omega),Wd hne,e2,Wb hil]
  ·rw[Wb (by rw[Wy];exact H2.lt i hi),Wd (Ne.symm (hd i hi).1)]
 ·rcases WE.1 hj with rfl|hj
  ·have:=H.ge id (by simp);omega
  ·rcases Ws.1 hj with hj|hj
   ·exact H.ge j (by simp[hj])
   ·exact H2.ge j hj
theorem Own.upd{id:Nat}{rows:List (List AV)}{J:List Nat}(H:Own n h [.sl id sz 0 D.length] [.lst sz D] (id::J))(hr:RowOwn true h id sz rows D J){i:Nat}{e:List PV}(hi:D[i]?=some e):
 ∃r Ji,rows[i]?=some r/\Own n h r e Ji/\(∀j∈Ji,j∈J/\j≠id)/\∀(h2:List AO) (r':List AV) (e':List PV) (I2:List Nat),h2[id]?=some (.row sz (rows.set i r'))->(∀j∈J,j∉Ji->h2[j]?=h[j]?)->Own n h2 r' e' I2->(∀j∈I2,j∈Ji\/(j≠id/\j∉J))->e'.length=sz->
  ∃J',Own n h2 [.sl id sz 0 D.length] [.lst sz (D.set i e')] (id::J')/\∀j∈J',j∈J\/j∈I2:=by
 have hr0:=H.no id (by simp) sz rows hr.here;have hnJ:id∉J:=(WR.1 hr.nd).1;have hNo:NoL h J:=H.no.sub λj hj=>by simp[hj]
 obtain⟨r,J1,Ji,J2,g1,rfl,g3,g4⟩:=hr.own.put hr.len hr.rl hr.dl hi;have hn:=hr.nd;simp only[WR,WG,Ws,not_or] at hn;obtain⟨⟨n1,n2,n3⟩,m1,⟨m2,m3,m4⟩,m5⟩:=hn;refine⟨r,Ji,g1,⟨g3,m2,hNo.sub λj hj=>by simp[hj],hr0 r (Wq g1),λj hj=>H.ge j (by simp[hj])⟩,λj hj=>⟨by simp[hj],λe=>hnJ (by rw[←e];simp[hj])⟩,λh2 r' e' I2 k1 k2 k3 k4 k5=>?_⟩;simp only[Ws,not_or] at k4;have hs1:∀j∈J1,h2[j]?=h[j]?:=λj hj=>k2 j (by simp[hj]) λhm=>m5 j hj j (.inl hm) rfl;have hs2:∀j∈J2,h2[j]?=h[j]?:=λj hj=>k2 j (by simp[hj]) λhm=>m4 j hm j hj rfl
 have hid2:id∉I2:=λhm=>by
  rcases k4 _ hm with h|h
  ·exact n2 h
  ·exact h.1 rfl
 refine⟨J1++(I2++J2),⟨?_,?_,?_,λv hv=>by rw[Wt.1 hv];rfl,λj hj=>?_⟩,λj hj=>?_⟩
 ·have:=OwnL.sl (s:=true) (h:=h2) id sz D.length (rows.set i r') (D.set i e') k1 (by simp) (by simp[hr.len]) (λx hx=>by
   rcases XU hx with h1|rfl
   ·exact hr.rl x h1
   ·rw[k3.own.len,k5]) (λx hx=>by
   rcases XU hx with h1|rfl
   ·exact hr.dl x h1
   ·exact k5) (g4 h2 r' e' I2 (λj hj=>(Ws.1 hj).elim (hs1 j) (hs2 j)) k3.own) .nil
  rwa[WI] at this
 ·simp only[WR,WG,Ws,not_or];refine⟨⟨n1,hid2,n3⟩,m1,⟨k3.nd,m3,λa ha b hb e=>?_⟩,λa ha b hb e=>?_⟩
  ·subst e;rcases k4 _ ha with h|h
   ·exact m4 a h a hb rfl
   ·exact h.2.2.2 hb
  ·subst e;rcases hb with hb|hb
   ·rcases k4 _ hb with h|h
    ·exact m5 a ha a (.inl h) rfl
    ·exact h.2.1 ha
   ·exact m5 a ha a (.inr hb) rfl
 ·refine NoL.cons k1 (λx hx=>?_) (((hNo.sub (J:=J1) λj hj=>by simp[hj]).frame hs1).app (k3.no.app ((hNo.sub (J:=J2) λj hj=>by simp[hj]).frame hs2)));rcases XU hx with h1|rfl
  ·exact hr0 x h1
  ·exact k3.nv
 ·simp only[WE,Ws] at hj;rcases hj with rfl|hj|hj|hj
  ·exact H.ge _ (by simp)
  ·exact H.ge j (by simp[hj])
  ·exact k3.ge j hj
  ·exact H.ge j (by simp[hj])
 ·simp only[Ws] at hj⊢;rcases hj with hj|hj|hj
  ·exact .inl (.inl hj)
  ·exact .inr hj
  ·exact .inl (.inr (.inr hj))
end
end
section
section
variable {n:Nat} {h h2:List AO} {vs:List AV} {qs:List PV} {I:List Nat}
theorem Own.int{k:Int}(H:Own n h vs (.int .i64 k::qs) I):∃us,vs= .p (.int .i64 k)::us/\Own n h us qs I:=by
 obtain⟨v,us,I1,I2,rfl,rfl,h1,h2⟩:=H.one;cases h1.own with
 |p _ _ hh=>cases hh;exact⟨us,rfl,h2⟩
theorem Own.single{q:PV}(H:Own n h vs [q] I):∃v,vs=[v]/\Own n h [v] [q] I:=by
 obtain⟨v,rfl⟩:=br H.own;exact⟨v,rfl,H⟩
theorem Own.putI(H:Own n h vs qs I)(k:Int):Own n h (.p (.int .i64 k)::vs) (.int .i64 k::qs) I:=H.sc _ rfl rfl
theorem eF{b:Bk}(H:Own n h vs b.cs I):∃P N X IP IN IX,vs=[P,N,.p (.int .i64 b.jump),.p (.int .i64 b.on),X]/\I=IP++(IN++IX)/\Own n h [P] [phL b.phis] IP/\Own n h [N] [inL b.ins] IN/\Own n h [X] [ah b.next] IX:=by
 rw[show b.cs=[phL b.phis,inL b.ins,.int .i64 b.jump,.int .i64 b.on,ah b.next] from rfl] at H;obtain⟨P,u1,IP,I1,rfl,rfl,hP,H⟩:=H.one;obtain⟨N,u2,IN,I2,rfl,rfl,hN,H⟩:=H.one;obtain⟨u3,rfl,H3⟩:=H.int;obtain⟨u4,rfl,H4⟩:=H3.int;obtain⟨X,rfl,H5⟩:=H4.single;exact⟨P,N,X,IP,IN,I2,rfl,rfl,hP,hN,H5⟩
theorem gX{b:Bk}{P N X:AV}{IP IN IX:List Nat}(hP:Own n h [P] [phL b.phis] IP)(hN:Own n h [N] [inL b.ins] IN)(hX:Own n h [X] [ah b.next] IX)(d1:∀j∈IP,j∉IN/\j∉IX)(d2:∀j∈IN,j∉IX):Own n h [P,N,.p (.int .i64 b.jump),.p (.int .i64 b.on),X] b.cs (IP++(IN++IX)):=by
 rw[show b.cs=[phL b.phis,inL b.ins,.int .i64 b.jump,.int .i64 b.on,ah b.next] from rfl];exact hP.app (hN.app ((hX.putI b.on).putI b.jump) d2) λj hj hm=>(Ws.1 hm).elim (d1 j hj).1 (d1 j hj).2
theorem Er{x:Ii}(H:Own n h vs x.cs I):∃A,vs=[.p (.int .i64 x.op),.p (.int .i64 x.to),A,.p (.int .i64 x.n)]/\Own n h [A] [ah x.args] I:=by
 rw[show x.cs=[.int .i64 x.op,.int .i64 x.to,ah x.args,.int .i64 x.n] from rfl] at H;obtain⟨u1,rfl,H1⟩:=H.int;obtain⟨u2,rfl,H2⟩:=H1.int;obtain⟨A,u3,IA,I2,rfl,rfl,hA,H3⟩:=H2.one;obtain⟨u4,rfl,H4⟩:=H3.int;have:=H4.own;cases this;exact⟨A,rfl,by rw[WI];exact hA⟩
theorem rz{x:Ii}{A:AV}(H:Own n h [A] [ah x.args] I):Own n h [.p (.int .i64 x.op),.p (.int .i64 x.to),A,.p (.int .i64 x.n)] x.cs I:=by
 have h2:Own n h ([A]++[.p (.int .i64 x.n)]) ([ah x.args]++[.int .i64 x.n]) (I++[]):=H.app ((Own.nix n h).putI _) λj _ hm=>by cases hm
 rw[WI] at h2;exact(h2.putI x.to).putI x.op
theorem KP{x:Ph}(H:Own n h vs x.cs I):∃A,vs=[.p (.int .i64 x.to),A]/\Own n h [A] [ah x.args] I:=by
 rw[show x.cs=[.int .i64 x.to,ah x.args] from rfl] at H;obtain⟨u1,rfl,H1⟩:=H.int;obtain⟨A,rfl,H2⟩:=H1.single;exact⟨A,rfl,H2⟩
theorem JK{x:Ph}{A:AV}(H:Own n h [A] [ah x.args] I):Own n h [.p (.int .i64 x.to),A] x.cs I:=H.putI _
theorem jG{c:Cd}(H:Own n h vs c.cs I):∃A,vs=[.p (.int .i64 c.params),.p (.int .i64 c.regs),A]/\Own n h [A] [bkL c.blocks] I:=by
 rw[show c.cs=[.int .i64 c.params,.int .i64 c.regs,bkL c.blocks] from rfl] at H;obtain⟨u1,rfl,H1⟩:=H.int;obtain⟨u2,rfl,H2⟩:=H1.int;obtain⟨A,rfl,H3⟩:=H2.single;exact⟨A,rfl,H3⟩
theorem nB{c:Cd}{A:AV}(H:Own n h [A] [bkL c.blocks] I):Own n h [.p (.int .i64 c.params),.p (.int .i64 c.regs),A] c.cs I:=(H.putI _).putI _
theorem aX{id m:Nat}{l:List Int}(hg:h[id]?=some (.row 1 (l.map λn=>[AV.p (.int .i64 n)])))(hn:n<=id)(hm:m=l.length):Own n h [.sl id 1 0 m] [ah l] [id]:=by
 have hf:∀l:List Int,OwnL true h (l.map λn=>[AV.p (.int .i64 n)]).flatten (l.map λn=>[PV.int .i64 n]).flatten []:=λl=>by
  induction l with
  |nil=>exact .nil
  |cons x r ih=>exact .p _ (λ_=>rfl) ih
 refine Own.of (D:=l.map λn=>[PV.int .i64 n]) ⟨hg,by simp,λe he=>by obtain⟨w,_,rfl⟩:=Ww.1 he;rfl,λe he=>by obtain⟨w,_,rfl⟩:=Ww.1 he;rfl,hf l,by simp⟩ (λr hr v hv=>?_) (λj hj=>by cases hj) (λj hj=>by rw[Wt.1 hj];exact hn) (by simp[hm]);obtain⟨w,_,rfl⟩:=Ww.1 hr;rw[Wt.1 hv];rfl
end
end
section
def uc{α:Type}(p:Nat->α->Bool)(l:List α):Bool:=l.zipIdx.all λx=>p x.2 x.1
theorem allI_iff{α:Type}{p:Nat->α->Bool}{l:List α}:uc p l=true↔∀(i:Nat) (x:α),l[i]?=some x->p i x=true:=by
 rw[uc,Wu];constructor
 ·intro h i x hx;exact h (x,i) (XW.2 hx)
 ·intro h ⟨x,i⟩ hm;exact h i x (XW.1 hm)
theorem dA{α:Type}{p:Nat->α->Bool}{l:List α}{i:Nat}{x:α}(h:l[i]?=some x)(hp:p i x=false):uc p l=false:=by
 cases e:uc p l with
 |false=>rfl
 |true=>rw[allI_iff.1 e i x h] at hp;cases hp
theorem fm{α:Type}{p:α->Bool}{l:List α}{x:α}(h:x∈l)(hp:p x=false):l.all p=false:=by rw[Yp];exact⟨x,h,by simp[hp]⟩
def aI(o:Int):Bool:=inR o 1 14&& !decide (o=12)&& !decide (o=13)
def da(o:Int):Int:=if o=1 then 0 else if o=2\/o=10\/o=11\/o=13 then 1 else 2
def cE(g r:Int):Bool:=inR r 0 (g-1)
def EP(u:List Cd)(n:Int):Int:=match u[n.toNat]? with|some c=>c.params|none=> -1
def gm(u:List Cd)(k:Nat)(g:Int)(x:Ii):Bool:=
 inR x.op 1 14&&x.args.all (cE g)&&(if aI x.op then cE g x.to else decide (x.to= -1))&&
 (if x.op=14 then inR x.n 0 ((k:Int)-1)&&decide ((x.args.length:Int)=EP u x.n)
  else if x.op=1 then decide (x.args.length=0)&&inR x.n 0 255
  else decide (x.n=0)&&decide ((x.args.length:Int)=da x.op))
def nxN(j:Int):Int:=if j=1 then 1 else if j=2 then 2 else if j=3 then 0 else-1
def onU(j:Int):Bool:=decide (j=2)||decide (j=3)
def ab(bs:List Bk)(b:Int):List Int:=(bs.zipIdx.filter λx=>decide (b∈x.1.next)).map λx=>(x.2:Int)
def phB(g:Int)(b n:Nat)(x:Ph):Bool:= !decide (b=0)&&decide (x.args.length=n)&&x.args.all (cE g)&&cE g x.to
def bkB(u:List Cd)(k:Nat)(c:Cd)(b:Nat)(x:Bk):Bool:=
 decide ((x.next.length:Int)=nxN x.jump)&&(if onU x.jump then cE c.regs x.on else decide (x.on=0))&&x.next.all (λn=>inR n 1 ((c.blocks.length:Int)-1))&&x.ins.all (gm u k c.regs)&&x.phis.all (phB c.regs b (ab c.blocks b).length)
def bkN(x:Bk):Nat:=x.ins.length+x.phis.length
def cdN(c:Cd):Nat:=(c.blocks.map bkN).sum
def unN(u:List Cd):Nat:=(u.map cdN).sum
def cdB(u:List Cd)(k:Nat)(c:Cd):Bool:=inR c.params 0 3&&inR c.regs c.params 300&&inR c.blocks.length 1 160&&uc (bkB u k c) c.blocks
def unB(u:List Cd):Bool:=inR u.length 1 4&&uc (cdB u) u&&decide (unN u<=800)
structure BkFit (M:Nat) (b:Bk):Prop where
 phis:b.phis.length<=M
 ins:b.ins.length<=M
 next:b.next.length<=M
 pa:∀x∈b.phis,x.args.length<=M
 ia:∀x∈b.ins,x.args.length<=M
def en(M:Nat)(c:Cd):Prop:=c.blocks.length<=M/\∀b∈c.blocks,BkFit M b
def rH(M:Nat)(u:List Cd):Prop:=u.length<=M/\∀c∈u,en M c
theorem Cd.cs_eq2(c:Cd):c.cs=[.int .i64 c.params,.int .i64 c.regs,bkL c.blocks]:=rfl
theorem Bk.cs_eq2(b:Bk):b.cs=[phL b.phis,inL b.ins,.int .i64 b.jump,.int .i64 b.on,ah b.next]:=rfl
theorem Ii.cs_eq2(x:Ii):x.cs=[.int .i64 x.op,.int .i64 x.to,ah x.args,.int .i64 x.n]:=rfl
theorem Ph.cs_eq2(x:Ph):x.cs=[.int .i64 x.to,ah x.args]:=rfl
theorem dy{α:Type}(f:α->Nat)(l:List α)(i:Nat):((l.take i).map f).sum<=(l.map f).sum:=by
 have:=congrArg (λl=>(List.map f l).sum) (XH i l);simp only[WF,YV] at this;omega
theorem mb{α:Type}(f:α->Nat){l:List α}{i:Nat}{x:α}(h:l[i]?=some x):((l.take (i+1)).map f).sum=((l.take i).map f).sum+f x:=by
 obtain⟨hi,rfl⟩:=Wa.1 h;rw[aq hi,WF,YV];simp
theorem aU(bs:List Bk)(b:Int):(ab bs b).length<=bs.length:=by
 rw[ab,Wj];exact Xw (Xk _ _) (by simp)
theorem pE{α:Type}{l:List α}{i:Nat}{x:α}(h:l[i]?=some x):(l.take (i+1)).zipIdx=(l.take i).zipIdx++[(x,i)]:=by
 obtain⟨hi,rfl⟩:=Wa.1 h;rw[aq hi,YZ,WD,XK (by omega)];simp
theorem zh{bs:List Bk}{b:Int}{i:Nat}{x:Bk}(h:bs[i]?=some x):ab (bs.take (i+1)) b=ab (bs.take i) b++(if b∈x.next then[(i:Int)] else[]):=by
 rw[ab,pE h,Yl,WF];congr 1
 by_cases hb:b∈x.next<;>simp[hb]
theorem Gk(u:List Cd){i:Nat}{c:Cd}(h:u[i]?=some c)(j:Nat):unN (u.take i)+((c.blocks.take j).map bkN).sum<=unN u:=by
 have h1:=mb cdN h;have h2:=dy cdN u (i+1);have h3:=dy bkN c.blocks j;have h4:cdN c=(c.blocks.map bkN).sum:=rfl;simp only[unN];omega
end
section
variable (G:aw)
theorem cb(n lo hi:Int):VF Tryz.prog G dg [.p (.int .i64 n),.p (.int .i64 lo),.p (.int .i64 hi)] (.p (.bool (inR n lo hi))):=by
 refine AC.go CH ?_
 by_cases h:lo<=n
 ·simp[lz,h,inR]
 ·simp[lz,h,inR]
theorem pY(n:Int):VF Tryz.prog G ef [.p (.int .i64 n)] (.p (.bool (inR n 0 255))):=by
 refine AC.go CE ?_;simp[rS];refine(cb G _ _ _).use ?_;simp[]
end
section
def ixI:Option Nat->Int|none=> -1|some i=>i
end
section
theorem Bo:AK.whole kE=FK.ak kC:=rfl
variable (G:aw)
theorem gA(o:Int):VF Tryz.prog G bR [.p (.int .i64 o)] (.p (.bool (aI o))):=by
 refine AC.go Bs ?_;simp-implicitDefEqProofs[oJ];refine(dm G o 1 14).use ?_;cases hb:inR o 1 14 with
 |false=>simp-implicitDefEqProofs[aI,hb]
 |true=>
  by_cases h1:o=12
  ·simp-implicitDefEqProofs[aI,h1]
  ·simp-implicitDefEqProofs[aI,hb,h1]
def l7N(o:Int):Int:=if o=1 then 0 else if o=2\/o=10\/o=11\/o=13 then 1 else if inR o 3 9=true\/o=12 then 2 else-1
theorem Gw(o:Int):VF Tryz.prog G lC [.p (.int .i64 o)] (.p (.int .i64 (l7N o))):=by
 refine AC.go Da ?_
 by_cases h1:o=1
 ·simp-implicitDefEqProofs[ck,l7N,h1]
 by_cases h2:o=2
 ·simp-implicitDefEqProofs[ck,l7N,h2]
 by_cases h3:o=10
 ·simp-implicitDefEqProofs[ck,l7N,h3]
 by_cases h4:o=11
 ·simp-implicitDefEqProofs[ck,l7N,h4]
 by_cases h5:o=13
 ·simp-implicitDefEqProofs[ck,l7N,h5]
 simp-implicitDefEqProofs[ck,h1,h2,h3,h4,h5];refine(dm G o 3 9).use ?_;cases hb:inR o 3 9 with
 |true=>simp-implicitDefEqProofs[l7N,hb,h1,h2,h3,h4,h5]
 |false=>
  by_cases h6:o=12
  ·simp-implicitDefEqProofs[l7N,h6]
  ·simp-implicitDefEqProofs[l7N,hb,h1,h2,h3,h4,h5,h6]
theorem FM(c:Cd)(h0:0<=c.regs)(h1:c.regs<=300)(l:List Int)(hl:l.length<=1073741824):VF Tryz.prog G gV [.agg (c.cs.map .p),.p (ah l)] (.p (.bool (l.all (cE c.regs)))):=by
 have hcs:=c.cs_eq2;have hnl:ah l= .lst 1 (l.map λn=>[.int .i64 n]):=rfl;have hwr:IntKind.i64.wrap (c.regs-1)=c.regs-1:=al (by omega) (by omega);refine AC.go CR ?_;simp-implicitDefEqProofs[sh,hcs,hnl];refine am (λi:Nat=>aj 21 [(1,.p (ah l)),(2,.ptr 0 3 0 0),(5,.p (.int .i64 i))]) (λ_=>[.row 3 [[.p (.int .i64 c.params),.p (.int .i64 c.regs),.p (bkL c.blocks)]]]) (λi=>i<=l.length/\∀r∈l.take i,cE c.regs r=true) (λi=>l.length-i) 0 (by simp) ?_ ?_
 ·exact aa (by simp) (by simp[below,hnl])
 rintro i ⟨hi,hp⟩;simp-implicitDefEqProofs[hnl];refine aA (λhc=>?_) (λhc=>?_)
 ·simp at hc;have hg:=Wc hc;have htk:=aq hc;have hm:=Wm hc;generalize l[i]=r at hg htk hm;simp-implicitDefEqProofs[hg,hwr];refine(dm G r 0 (c.regs-1)).use ?_;cases hb:inR r 0 (c.regs-1) with
  |false=>simp-implicitDefEqProofs[fm hm (p:=cE c.regs) hb]
  |true=>
   simp-implicitDefEqProofs[];refine⟨i+1,⟨by omega,λx hx=>?_⟩,by omega,aa (by simp) (by simp[below,w1 (i:=i) (by omega)])⟩;rw[htk] at hx;rcases Ws.1 hx with hx|hx
   ·exact hp x hx
   ·rw[Wt.1 hx];exact hb
 ·simp at hc;rw[Wi hc] at hp;simp-implicitDefEqProofs[Wu.2 hp]
theorem QT(u:List Cd)(k:Nat)(c:Cd)(hk:u[k]?=some c)(h0:0<=c.regs)(h1:c.regs<=300)(hu:u.length<=1073741824)(x:Ii)(hl:x.args.length<=1073741824):VF Tryz.prog G nu [.agg [.p (cdL u)],.p (.int .i64 k),.agg (x.cs.map .p)] (.p (.bool (gm u k c.regs x))):=by
 have hcs:=c.cs_eq2;have hxs:=x.cs_eq2;have hul:cdL u= .lst 3 (u.map Cd.cs):=rfl;have hnl:ah x.args= .lst 1 (x.args.map λn=>[.int .i64 n]):=rfl;have hku:=(Wa.1 hk).1;have hwr:IntKind.i64.wrap (c.regs-1)=c.regs-1:=al (by omega) (by omega);have hwk:IntKind.i64.wrap ((k:Int)-1)=(k:Int)-1:=al (by omega) (by omega);have hR:=FM G c h0 h1 x.args hl;rw[hcs,hnl] at hR;clear hku;refine AC.go Ei ?_;simp-implicitDefEqProofs[tN,hxs,hul,hk,hcs,hnl];refine(dm G x.op 1 14).use ?_;cases hb1:inR x.op 1 14 with
 |false=>simp-implicitDefEqProofs[gm,hb1]
 |true=>
 simp-implicitDefEqProofs[];refine hR.use ?_;cases hb2:x.args.all (cE c.regs) with
 |false=>simp-implicitDefEqProofs[gm,hb2]
 |true=>
 simp-implicitDefEqProofs[];refine(gA G x.op).use ?_;simp-implicitDefEqProofs[hwr];refine(dm G x.to 0 (c.regs-1)).use ?_
 have hlast:∀b:Bool,(if aI x.op then cE c.regs x.to else decide (x.to= -1))=true->gm u k c.regs x=(if x.op=14 then inR x.n 0 ((k:Int)-1)&&decide ((x.args.length:Int)=EP u x.n)
  else if x.op=1 then decide (x.args.length=0)&&inR x.n 0 255
  else decide (x.n=0)&&decide ((x.args.length:Int)=da x.op)):=λ_ h=>by rw[gm,hb1,hb2,h];simp
 have hbad:(if aI x.op then cE c.regs x.to else decide (x.to= -1))=false->gm u k c.regs x=false:=λh=>by rw[gm,h];simp
 have hrb:cE c.regs x.to=inR x.to 0 (c.regs-1):=rfl;have rest:∀Q:AKW Tryz.prog G 0 .skip [] [] (λ_ _ _=>True),True:=λ_=>trivial
 have hins:gm u k c.regs x=(if x.op=14 then inR x.n 0 ((k:Int)-1)&&decide ((x.args.length:Int)=EP u x.n) else decide ((x.args.length:Int)=l7N x.op)&&inR x.n 0 255&&(decide (x.n=0)||decide (x.op=1)))\/(if aI x.op then cE c.regs x.to else decide (x.to= -1))=false:=by
  cases hs:(if aI x.op then cE c.regs x.to else decide (x.to= -1)) with
  |false=>exact .inr rfl
  |true=>
   refine .inl ?_;rw[hlast true hs]
   by_cases o14:x.op=14
   ·rw[Wz o14,Wz o14]
   ·rw[WB o14,WB o14]
    by_cases o1:x.op=1
    ·rw[Wz o1,l7N,Wz o1];simp[o1]
    ·rw[WB o1,l7N,WB o1,da,WB o1]
     have hr39:¬(x.op=2\/x.op=10\/x.op=11\/x.op=13)->(inR x.op 3 9=true\/x.op=12):=λh=>by
      simp only[inR,Wr,Wx] at hb1⊢;omega
     have h255:x.n=0->inR x.n 0 255=true:=λh=>by rw[h];rfl
     by_cases o2:x.op=2\/x.op=10\/x.op=11\/x.op=13
     ·rw[Wz o2,Wz o2,Yg];simp[o1];constructor
      ·rintro⟨a,b⟩;exact⟨⟨b,h255 a⟩,a⟩
      ·rintro⟨⟨a,_⟩,b⟩;exact⟨b,a⟩
     ·rw[WB o2,WB o2,Wz (hr39 o2),Yg];simp[o1];constructor
      ·rintro⟨a,b⟩;exact⟨⟨b,h255 a⟩,a⟩
      ·rintro⟨⟨a,_⟩,b⟩;exact⟨b,a⟩
 have lE:(if aI x.op then cE c.regs x.to else decide (x.to= -1))=true->gm u k c.regs x=(if x.op=14 then inR x.n 0 ((k:Int)-1)&&decide ((x.args.length:Int)=EP u x.n) else decide ((x.args.length:Int)=l7N x.op)&&inR x.n 0 255&&(decide (x.n=0)||decide (x.op=1))):=λh=>by
  rcases hins with h1|h1
  ·exact h1
  ·rw[h] at h1;cases h1
 clear hins hlast rest
 have hgo:aI x.op=true/\inR x.to 0 (c.regs-1)=true\/(aI x.op=false/\inR x.to 0 (c.regs-1)=false/\x.to= -1)\/(if aI x.op then cE c.regs x.to else decide (x.to= -1))=false:=by
  cases hs:aI x.op with
  |true=>
   rw[hrb];cases inR x.to 0 (c.regs-1)<;>simp
  |false=>
   by_cases h:x.to= -1
   ·rw[h];refine .inr (.inl ⟨rfl,?_,rfl⟩);simp[inR]
   ·simp[h]
 rcases hgo with⟨hs,ht⟩|⟨hs,ht,hto⟩|hf
 ·have tl:=lE (by rw[hs,Wz rfl,hrb];exact ht);rw[tl];simp-implicitDefEqProofs[hs,ht];refine(gA G x.op).use ?_;simp-implicitDefEqProofs[hs]
  by_cases o14:x.op=14
  ·simp-implicitDefEqProofs[o14,hwk];refine(dm G x.n 0 ((k:Int)-1)).use ?_;cases hn:inR x.n 0 ((k:Int)-1) with
   |false=>simp-implicitDefEqProofs[]
   |true=>
    simp only[inR,Wr,Wx] at hn
    have hlt:x.n.toNat<u.length:=by
     have:=(Wa.1 hk).1;omega
    obtain⟨c2,hc2⟩:∃c2,u[x.n.toNat]?=some c2:=⟨_,Wc hlt⟩;have hc2s:=c2.cs_eq2;clear hlt;obtain⟨m,hm⟩:∃m:Nat,x.n=m:=⟨x.n.toNat,by omega⟩;rw[hm] at hc2⊢;simp only[XF] at hc2;simp-implicitDefEqProofs[hc2,hc2s,EP]
  ·simp-implicitDefEqProofs[o14];refine(Gw G x.op).use ?_
   by_cases hla:(x.args.length:Int)=l7N x.op
   ·simp-implicitDefEqProofs[hla];refine(dm G x.n 0 255).use ?_;cases hn:inR x.n 0 255 with
    |false=>simp-implicitDefEqProofs[]
    |true=>
     by_cases hx0:x.n=0
     ·simp-implicitDefEqProofs[hx0]
     ·simp-implicitDefEqProofs[hx0]
   ·simp-implicitDefEqProofs[hla]
 ·have tl:=lE (by rw[hs];simp[hto]);rw[tl];simp-implicitDefEqProofs[hs,ht];refine(gA G x.op).use ?_;simp-implicitDefEqProofs[hs,hto]
  by_cases o14:x.op=14
  ·simp-implicitDefEqProofs[o14,hwk];refine(dm G x.n 0 ((k:Int)-1)).use ?_;cases hn:inR x.n 0 ((k:Int)-1) with
   |false=>simp-implicitDefEqProofs[]
   |true=>
    simp only[inR,Wr,Wx] at hn
    have hlt:x.n.toNat<u.length:=by
     have:=(Wa.1 hk).1;omega
    obtain⟨c2,hc2⟩:∃c2,u[x.n.toNat]?=some c2:=⟨_,Wc hlt⟩;have hc2s:=c2.cs_eq2;clear hlt;obtain⟨m,hm⟩:∃m:Nat,x.n=m:=⟨x.n.toNat,by omega⟩;rw[hm] at hc2⊢;simp only[XF] at hc2;simp-implicitDefEqProofs[hc2,hc2s,EP]
  ·simp-implicitDefEqProofs[o14];refine(Gw G x.op).use ?_
   by_cases hla:(x.args.length:Int)=l7N x.op
   ·simp-implicitDefEqProofs[hla];refine(dm G x.n 0 255).use ?_;cases hn:inR x.n 0 255 with
    |false=>simp-implicitDefEqProofs[]
    |true=>
     by_cases hx0:x.n=0
     ·simp-implicitDefEqProofs[hx0]
     ·simp-implicitDefEqProofs[hx0]
   ·simp-implicitDefEqProofs[hla]
 ·rw[hbad hf];cases hs:aI x.op with
  |true=>
   rw[hs,Wz rfl,hrb] at hf;simp-implicitDefEqProofs[hf]
  |false=>
   rw[hs] at hf;have hto:¬x.to= -1:=(by simpa using hf);cases ht:inR x.to 0 (c.regs-1) with
   |true=>simp-implicitDefEqProofs[]
   |false=>
    simp-implicitDefEqProofs[];refine(gA G x.op).use ?_;simp-implicitDefEqProofs[hs,hto]
def ae(l:List Int):List (List AV):=l.map λn=>[AV.p (.int .i64 n)]
structure PrS where (i:Nat) (X:List AO) (o:Nat)
theorem Bc(c:Cd)(b:Int)(hl:c.blocks.length<=1073741824)(hn:∀x∈c.blocks,x.next.length<=1073741824):AC Tryz.prog G aS [.agg (c.cs.map .p),.p (.int .i64 b)] [] λx h=>∃id,x= .ret (.sl id 1 0 (ab c.blocks b).length)/\h[id]?=some (.row 1 (ae (ab c.blocks b))):=by
 have hcs:=c.cs_eq2;have hbl:bkL c.blocks= .lst 5 (c.blocks.map Bk.cs):=rfl;refine AC.go pS ?_;simp-implicitDefEqProofs[oI,hcs,hbl];obtain⟨bo,hbo⟩:∃bo,bo=AO.row 3 [[.p (.int .i64 c.params),.p (.int .i64 c.regs),.p (.lst 5 (c.blocks.map Bk.cs))]]:=⟨_,rfl⟩
 refine am (λa:PrS=>aj 43 [(1,.p (.int .i64 b)),(2,.ptr 0 3 0 0),(5,.sl a.o 1 0 (ab (c.blocks.take a.i) b).length),(6,.p (.int .i64 a.i))]) (λa=>a.X)
  (λa=>a.i<=c.blocks.length/\a.X[0]?=some (.row 3 [[.p (.int .i64 c.params),.p (.int .i64 c.regs),.p (.lst 5 (c.blocks.map Bk.cs))]])/\1<=a.o/\a.X[a.o]?=some (.row 1 (ae (ab (c.blocks.take a.i) b)))) (λa=>c.blocks.length-a.i) ⟨0,[.row 3 [[.p (.int .i64 c.params),.p (.int .i64 c.regs),.p (.lst 5 (c.blocks.map Bk.cs))]],.row 1 []],1⟩ ⟨We _,rfl,by simp,rfl⟩ ?_ ?_
 ·exact aa (by simp) (by simp[below,ab])
 rintro⟨i,X,o⟩ ⟨hi,hx0,ho,hxo⟩;simp only at hi hx0 ho hxo;have hX0:=(Wa.1 hx0).1;have hXo:=(Wa.1 hxo).1;simp-implicitDefEqProofs[hx0];refine aA (λhc=>?_) (λhc=>?_)
 ·simp at hc;have hg:=Wc hc;have hm:=Wm hc;have hpt:=zh (b:=b) hg;have hpl:=aU (c.blocks.take i) b;rw[WD,XK (by omega)] at hpl;have hnx:=hn _ hm;generalize c.blocks[i]=x at hg hpt hnx;generalize ab (c.blocks.take i) b=out at hxo hpt hpl;have hxs:=x.cs_eq2;have hnl:ah x.next= .lst 1 (x.next.map λn=>[.int .i64 n]):=rfl;simp-implicitDefEqProofs[];have hw1:=w1 (i:=i) (by omega);refine am (λj:Nat=>aj 43 [(7,.p (.int .i64 j)),(1,.p (.int .i64 b)),(2,.ptr 0 3 0 0),(5,.sl o 1 0 out.length),(6,.p (.int .i64 i))]) (λ_=>X) (λj=>j<=x.next.length/\b∉x.next.take j) (λj=>x.next.length-j) 0 (by simp) ?_ ?_
  ·exact aa (by simp) (by simp[below,hXo,hX0])
  rintro j ⟨hj,hnb⟩;simp-implicitDefEqProofs[hx0,hg,hxs,hnl];refine aA (λhc2=>?_) (λhc2=>?_)
  ·simp at hc2;have hg2:=Wc hc2;have htk:=aq hc2;have hm2:=Wm hc2;generalize x.next[j]=r at hg2 htk hm2;simp-implicitDefEqProofs[hx0,hg,hxs,hnl,hg2];refine aA (λhe=>?_) (λhe=>?_)
   ·have he:r=b:=(by simpa using he);rw[Wz (he▸hm2)] at hpt;have hxm:∀t,(X++t)[o]?=some (.row 1 (ae out)):=λt=>(by rw[Wb hXo];exact hxo);have htl:List.take out.length (ae out)=ae out:=Wi (by simp[ae]);have hrl:(ae out).length=out.length:=(by simp[ae]);simp-implicitDefEqProofs[hxm,htl,hrl];refine⟨⟨by omega,by omega⟩,⟨i+1,_,X.length+1⟩,⟨by simp only;omega,?_,by simp only;omega,?_⟩,by simp only;omega,aa (We _) ?_⟩
    ·rw[Wb (by simp),Wd (by omega),Wb hX0];exact hx0
    ·rw[hpt,Wg (by simp)];simp[ae]
    ·simp[below,hpt,hw1]
   ·have he:¬r=b:=(by simpa using he);simp-implicitDefEqProofs[];refine⟨j+1,⟨by omega,λhm=>?_⟩,by omega,aa (by simp) (by simp[below,hXo,hX0,w1 (i:=j) (by omega)])⟩;rw[htk] at hm;rcases Ws.1 hm with hm|hm
    ·exact hnb hm
    ·exact he (Wt.1 hm).symm
  ·simp at hc2;rw[Wi hc2] at hnb;rw[WB hnb,WI] at hpt;simp-implicitDefEqProofs[];refine⟨⟨i+1,X,o⟩,⟨by simp only;omega,hx0,ho,by rw[hpt];exact hxo⟩,by simp only;omega,aa (We _) ?_⟩;simp[below,hpt,hw1,hXo,hX0]
 ·simp at hc;have hie:i=c.blocks.length:=by omega
  subst hie;rw[Xm] at hxo;simp-implicitDefEqProofs[hxo]
theorem dN{h:List AO}{id:Nat}{l:List Int}(e:h[id]?=some (.row 1 (ae l))):View h (.sl id 1 0 l.length) (ah l):=by
 have hh:ae l=(l.map λn=>[PV.int .i64 n]).map (·.map .p):=by simp[ae]
 rw[hh] at e;exact tC e (by simp) (λx hx=>by obtain⟨b,_,rfl⟩:=Ww.1 hx;rfl)
theorem mI(c:Cd)(b:Int)(hl:c.blocks.length<=1073741824)(hn:∀x∈c.blocks,x.next.length<=1073741824):VF Tryz.prog G aS [.agg (c.cs.map .p),.p (.int .i64 b)] (.p (ah (ab c.blocks b))):=
 (Bc G c b hl hn).freezeR (λt v h ⟨_,e,_⟩=>by cases e) λv h ⟨id,e1,e2⟩=>by
   cases e1;exact .one (dN e2) .nil
theorem LO(u:List Cd)(k b:Nat)(c:Cd)(x:Bk)(hk:u[k]?=some c)(hb:c.blocks[b]?=some x)(h0:0<=c.regs)(h1:c.regs<=300)(hu:rH 1073741824 u):VF Tryz.prog G kQ [.agg [.p (cdL u)],.p (.int .i64 k),.p (.int .i64 b)] (.p (.bool (bkB u k c b x))):=by
 have hcf:=hu.2 c (Wq hk);have hxf:=hcf.2 x (Wq hb);have hcs:=c.cs_eq2;have hxs:=x.cs_eq2;have hul:cdL u= .lst 3 (u.map Cd.cs):=rfl;have hbl:bkL c.blocks= .lst 5 (c.blocks.map Bk.cs):=rfl;have hnl:ah x.next= .lst 1 (x.next.map λn=>[.int .i64 n]):=rfl;have hil:inL x.ins= .lst 4 (x.ins.map Ii.cs):=rfl;have hpl:phL x.phis= .lst 2 (x.phis.map Ph.cs):=rfl;have hwr:IntKind.i64.wrap (c.regs-1)=c.regs-1:=al (by omega) (by omega);have hcl:=hcf.1;have hwb:IntKind.i64.wrap ((c.blocks.length:Int)-1)=(c.blocks.length:Int)-1:=al (by omega) (by omega);refine AC.goK Bm Bo ?_;obtain⟨H0,hH0⟩:∃H0,H0=[AO.row 1 [[.p (.lst 3 (u.map Cd.cs))]],.row 3 [[.p (.int .i64 c.params),.p (.int .i64 c.regs),.p (.lst 5 (c.blocks.map Bk.cs))]],.row 5 [[.p (phL x.phis),.p (inL x.ins),.p (.int .i64 x.jump),.p (.int .i64 x.on),.p (ah x.next)]]]:=⟨_,rfl⟩;have g0:H0[0]?=some (.row 1 [[.p (.lst 3 (u.map Cd.cs))]]):=by rw[hH0];rfl
 have g1:H0[1]?=some (.row 3 [[.p (.int .i64 c.params),.p (.int .i64 c.regs),.p (.lst 5 (c.blocks.map Bk.cs))]]):=by rw[hH0];rfl
 have g2:H0[2]?=some (.row 5 [[.p (phL x.phis),.p (inL x.ins),.p (.int .i64 x.jump),.p (.int .i64 x.on),.p (ah x.next)]]):=by rw[hH0];rfl
 have gl:H0.length=3:=by rw[hH0];rfl
 obtain⟨SL,hSL⟩:∃SL:List (Nat × AV),SL=[(8,.ptr 2 5 0 0),(7,.ptr 1 3 0 0),(3,.ptr 0 1 0 0),(1,.p (.int .i64 k)),(2,.p (.int .i64 b))]:=⟨_,rfl⟩;simp-implicitDefEqProofs[kE,kC,hul,hk,hcs,hbl,hb,hxs];rw[←hH0];refine dc (λ_:Unit=>aj 136 ((9,.p (.int .i64 (nxN x.jump)))::[(8,.ptr 2 5 0 0),(7,.ptr 1 3 0 0),(3,.ptr 0 1 0 0),(1,.p (.int .i64 k)),(2,.p (.int .i64 b))])) (λ_=>H0) (λ_=>(x.jump=1/\x.on=0)\/x.jump=2\/x.jump=3) ?_ ?_
 ·by_cases j1:x.jump=1
  ·by_cases jo:x.on=0
   ·simp-implicitDefEqProofs[g2,j1,jo];exact aa (by simp) (by simp[below,gl,nxN])
   ·have hf:bkB u k c b x=false:=(by simp[bkB,onU,j1,jo]);simp-implicitDefEqProofs[g2,j1,jo,hf]
  ·by_cases j2:x.jump=2
   ·simp-implicitDefEqProofs[g2,j2];exact aa (by simp) (by simp[below,gl,nxN])
   ·by_cases j3:x.jump=3
    ·simp-implicitDefEqProofs[g2,j3];exact aa (by simp) (by simp[below,gl,nxN])
    ·have hnn:nxN x.jump= -1:=by simp[nxN,j1,j2,j3]
     have hf:bkB u k c b x=false:=by
      have:¬((x.next.length:Int)= -1):=(by omega);simp[bkB,hnn,this]
     simp-implicitDefEqProofs[g2,j1,j2,j3,hf]
 rintro⟨⟩ hj;refine dc (λ_:Unit=>aj 136 [(8,.ptr 2 5 0 0),(7,.ptr 1 3 0 0),(3,.ptr 0 1 0 0),(1,.p (.int .i64 k)),(2,.p (.int .i64 b))]) (λ_=>H0) (λ_=>(decide ((x.next.length:Int)=nxN x.jump)&&(if onU x.jump then cE c.regs x.on else decide (x.on=0)))=true) ?_ ?_
 ·by_cases hlen:(x.next.length:Int)=nxN x.jump
  ·by_cases j1:x.jump=1
   ·have jo:x.on=0:=(by omega);simp-implicitDefEqProofs[g2,hlen,hnl,j1,jo];refine⟨by simp[onU],aa (by simp) (by simp[below,gl])⟩
   ·have hon:onU x.jump=true:=by
     simp only[onU,XA,Wx];omega
    simp-implicitDefEqProofs[g2,g1,hlen,hnl,j1,hwr];refine(dm G x.on 0 (c.regs-1)).use ?_;cases hr:inR x.on 0 (c.regs-1) with
    |false=>
     have hf:bkB u k c b x=false:=(by simp[bkB,hon,cE,hr]);simp-implicitDefEqProofs[hf]
    |true=>
     simp-implicitDefEqProofs[hon,cE,hr];exact aa (by simp) (by simp[below,gl])
  ·have hf:bkB u k c b x=false:=by simp[bkB,hlen]
   simp-implicitDefEqProofs[g2,hlen,hnl,hf]
 rintro⟨⟩ hc1;refine dc (λ_:Unit=>aj 136 [(8,.ptr 2 5 0 0),(7,.ptr 1 3 0 0),(3,.ptr 0 1 0 0),(1,.p (.int .i64 k)),(2,.p (.int .i64 b))]) (λ_=>H0) (λ_=>x.next.all (λn=>inR n 1 ((c.blocks.length:Int)-1))=true) ?_ ?_
 ·simp-implicitDefEqProofs[];refine am (λi:Nat=>aj 136 [(10,.p (.int .i64 i)),(8,.ptr 2 5 0 0),(7,.ptr 1 3 0 0),(3,.ptr 0 1 0 0),(1,.p (.int .i64 k)),(2,.p (.int .i64 b))]) (λ_=>H0) (λi=>i<=x.next.length/\∀n∈x.next.take i,inR n 1 ((c.blocks.length:Int)-1)=true) (λi=>x.next.length-i) 0 (by simp) (aa (by simp) (by simp[below,gl])) ?_;rintro i ⟨hi,hp⟩;simp-implicitDefEqProofs[g2,hnl];refine aA (λhc=>?_) (λhc=>?_)
  ·simp at hc;have hg:=Wc hc;have htk:=aq hc;have hm:=Wm hc;have hxn:=hxf.next;generalize x.next[i]=n at hg htk hm;simp-implicitDefEqProofs[g2,g1,hnl,hg,hwb];refine(dm G n 1 ((c.blocks.length:Int)-1)).use ?_;cases hr:inR n 1 ((c.blocks.length:Int)-1) with
   |false=>
    have hf:bkB u k c b x=false:=by rw[bkB,fm hm (p:=λn=>inR n 1 ((c.blocks.length:Int)-1)) hr];simp
    simp-implicitDefEqProofs[hf]
   |true=>
    simp-implicitDefEqProofs[];refine⟨i+1,⟨by omega,λy hy=>?_⟩,by omega,aa (by simp) (by simp[below,gl,w1 (i:=i) (by omega)])⟩;rw[htk] at hy;rcases Ws.1 hy with hy|hy
    ·exact hp y hy
    ·rw[Wt.1 hy];exact hr
  ·simp at hc;rw[Wi hc] at hp;simp-implicitDefEqProofs[];exact⟨hp,aa (by simp) (by simp[below,gl])⟩
 rintro⟨⟩ hc2;refine dc (λ_:Unit=>aj 136 [(8,.ptr 2 5 0 0),(7,.ptr 1 3 0 0),(3,.ptr 0 1 0 0),(1,.p (.int .i64 k)),(2,.p (.int .i64 b))]) (λ_=>H0) (λ_=>x.ins.all (gm u k c.regs)=true) ?_ ?_
 ·simp-implicitDefEqProofs[];refine am (λi:Nat=>aj 136 [(11,.p (.int .i64 i)),(8,.ptr 2 5 0 0),(7,.ptr 1 3 0 0),(3,.ptr 0 1 0 0),(1,.p (.int .i64 k)),(2,.p (.int .i64 b))]) (λ_=>H0) (λi=>i<=x.ins.length/\∀n∈x.ins.take i,gm u k c.regs n=true) (λi=>x.ins.length-i) 0 (by simp) (aa (by simp) (by simp[below,gl])) ?_;rintro i ⟨hi,hp⟩;simp-implicitDefEqProofs[g2,hil];refine aA (λhc=>?_) (λhc=>?_)
  ·simp at hc;have hg:=Wc hc;have htk:=aq hc;have hm:=Wm hc;have hxn:=hxf.ins;have hargs:=hxf.ia _ hm;generalize x.ins[i]=n at hg htk hm hargs;have hns:=n.cs_eq2;have hI:=QT G u k c hk h0 h1 hu.1 n hargs;rw[hns,hul] at hI;simp-implicitDefEqProofs[g2,g0,hil,hg,hns];refine hI.use ?_;cases hr:gm u k c.regs n with
   |false=>
    have hf:bkB u k c b x=false:=by rw[bkB,fm hm (p:=gm u k c.regs) hr];simp
    simp-implicitDefEqProofs[hf]
   |true=>
    simp-implicitDefEqProofs[];refine⟨i+1,⟨by omega,λy hy=>?_⟩,by omega,aa (by simp) (by simp[below,gl,w1 (i:=i) (by omega)])⟩;rw[htk] at hy;rcases Ws.1 hy with hy|hy
    ·exact hp y hy
    ·rw[Wt.1 hy];exact hr
  ·simp at hc;rw[Wi hc] at hp;simp-implicitDefEqProofs[];exact⟨hp,aa (by simp) (by simp[below,gl])⟩
 rintro⟨⟩ hc3;have hP:=mI G c b hcl (λy hy=>(hcf.2 y hy).next);rw[hcs,hbl] at hP;obtain⟨P,hPe⟩:∃P,P=ab c.blocks b:=⟨_,rfl⟩;have hPl:P.length<=1073741824:=by rw[hPe];exact Xw (aU _ _) hcl
 rw[←hPe] at hP;have hPL:ah P= .lst 1 (P.map λn=>[.int .i64 n]):=rfl;rw[hPL] at hP;simp-implicitDefEqProofs[g1];refine hP.use ?_;simp-implicitDefEqProofs[];refine dc (λ_:Unit=>aj 136 [(8,.ptr 2 5 0 0)]) (λ_=>H0) (λ_=>x.phis.all (phB c.regs b P.length)=true) ?_ ?_
 ·simp-implicitDefEqProofs[];refine am (λi:Nat=>aj 136 [(13,.p (.int .i64 i)),(12,.p (.lst 1 (P.map λn=>[.int .i64 n]))),(8,.ptr 2 5 0 0),(7,.ptr 1 3 0 0),(3,.ptr 0 1 0 0),(1,.p (.int .i64 k)),(2,.p (.int .i64 b))]) (λ_=>H0) (λi=>i<=x.phis.length/\∀n∈x.phis.take i,phB c.regs b P.length n=true) (λi=>x.phis.length-i) 0 (by simp) (aa (by simp) (by simp[below,gl])) ?_;rintro i ⟨hi,hp⟩;simp-implicitDefEqProofs[g2,hpl];refine aA (λhc=>?_) (λhc=>?_)
  ·simp at hc;have hg:=Wc hc;have htk:=aq hc;have hm:=Wm hc;have hxn:=hxf.phis;have hargs:=hxf.pa _ hm;generalize x.phis[i]=n at hg htk hm hargs;have hns:=n.cs_eq2;have hna:ah n.args= .lst 1 (n.args.map λn=>[.int .i64 n]):=rfl
   have hbad:phB c.regs b P.length n=false->bkB u k c b x=false:=λh=>by rw[bkB,←hPe,fm hm (p:=phB c.regs b P.length) h];simp
   have hR:=FM G c h0 h1 n.args hargs;rw[hcs,hbl,hna] at hR
   by_cases hb0:b=0
   ·subst hb0;have hf:=hbad (by simp[phB]);simp-implicitDefEqProofs[hf]
   ·have hb0':¬(b:Int)=0:=by omega
    by_cases hl:n.args.length=P.length
    ·have hl':(n.args.length:Int)=(P.length:Int):=(by omega);simp-implicitDefEqProofs[hb0,g2,g1,hpl,hg,hns,hna,hl'];refine hR.use ?_;cases hr:n.args.all (cE c.regs) with
     |false=>
      have hf:=hbad (by simp[phB,hr]);simp-implicitDefEqProofs[hf]
     |true=>
      simp-implicitDefEqProofs[g2,g1,hpl,hg,hns,hna,hwr];refine(dm G n.to 0 (c.regs-1)).use ?_;cases ht:inR n.to 0 (c.regs-1) with
      |false=>
       have hf:=hbad (by simp[phB,cE,ht]);simp-implicitDefEqProofs[hf]
      |true=>
       simp-implicitDefEqProofs[];refine⟨i+1,⟨by omega,λy hy=>?_⟩,by omega,aa (by simp) (by simp[below,gl,w1 (i:=i) (by omega)])⟩;rw[htk] at hy;rcases Ws.1 hy with hy|hy
       ·exact hp y hy
       ·rw[Wt.1 hy];simp only[phB,hb0,hl,hr,cE,ht];rfl
    ·have hl':¬(n.args.length:Int)=(P.length:Int):=(by omega);have hf:=hbad (by simp[phB,hl]);simp-implicitDefEqProofs[hb0,g2,hpl,hg,hns,hna,hl',hf]
  ·simp at hc;rw[Wi hc] at hp;simp-implicitDefEqProofs[];exact⟨hp,aa (by simp) (by simp[below,gl])⟩
 rintro⟨⟩ hc4
 have ht:bkB u k c b x=true:=by rw[bkB,←hPe,hc1,hc2,hc3,hc4];rfl
 simp-implicitDefEqProofs[ht]
theorem MZ{u:List Cd}{k:Nat}{c:Cd}(h1:inR c.params 0 3=true)(h2:inR c.regs c.params 300=true)(h3:inR c.blocks.length 1 160=true)(h4:∀(j:Nat) (x:Bk),c.blocks[j]?=some x->bkB u k c j x=true):cdB u k c=true:=by rw[cdB,h1,h2,h3,allI_iff.2 h4];rfl
def bkS(N:Nat)(l:List Bk)(j:Nat):Nat:=N+((l.take j).map bkN).sum
theorem Co(N:Nat)(l:List Bk):bkS N l 0=N:=by simp[bkS]
theorem JY(N:Nat)(l:List Bk):bkS N l l.length=N+(l.map bkN).sum:=by rw[bkS,Xm]
theorem FZ(N:Nat){l:List Bk}{j:Nat}{x:Bk}(h:l[j]?=some x):bkS N l (j+1)=bkS N l j+x.ins.length+x.phis.length:=by rw[bkS,bkS,mb bkN h,bkN];omega
theorem pD(u:List Cd)(hu:rH 1073741824 u):VF Tryz.prog G bL [.agg [.p (cdL u)]] (.p (.bool (unB u))):=by
 have hul:cdL u= .lst 3 (u.map Cd.cs):=rfl;have hu1:=hu.1;refine AC.go uK ?_;simp-implicitDefEqProofs[mg,hul];refine(dm G u.length 1 4).use ?_;cases hr:inR u.length 1 4 with
 |false=>
  have hf:unB u=false:=by simp[unB,hr]
  simp-implicitDefEqProofs[hf]
 |true=>
 simp-implicitDefEqProofs[];refine am (λi:Nat=>aj 76 [(4,.p (.int .i64 i)),(3,.p (.int .i64 (unN (u.take i)))),(1,.ptr 0 1 0 0)]) (λ_=>[.row 1 [[.p (.lst 3 (u.map Cd.cs))]]]) (λi=>i<=u.length/\(∀(j:Nat) (c:Cd),j<i->u[j]?=some c->cdB u j c=true)/\unN (u.take i)<=800) (λi=>u.length-i) 0 ⟨We _,λj c h=>(by omega),We _⟩ (aa (by simp) (by simp[below,show unN ([]:List Cd)=0 from rfl])) ?_;rintro i ⟨hi,hp,hn8⟩;simp-implicitDefEqProofs[];refine aA (λhc=>?_) (λhc=>?_)
 ·simp at hc;have hg:=Wc hc;have htn:=mb cdN hg;have hle:=λj=>Gk u hg j;have hcf:=hu.2 _ (Wm hc);generalize u[i]=c at hg htn hle hcf;have hcs:=c.cs_eq2;have hbl:bkL c.blocks= .lst 5 (c.blocks.map Bk.cs):=rfl;obtain⟨N,hN⟩:∃N,N=unN (u.take i):=⟨_,rfl⟩;rw[←hN] at hn8⊢;have hbad:cdB u i c=false->unB u=false:=λh=>by rw[unB,dA hg h];simp
  simp-implicitDefEqProofs[hg,hcs,hbl];refine(dm G c.params 0 3).use ?_;cases h1:inR c.params 0 3 with
  |false=>
   have hf:=hbad (by simp[cdB,h1]);simp-implicitDefEqProofs[hf]
  |true=>
  simp-implicitDefEqProofs[];refine(dm G c.regs c.params 300).use ?_;cases h2:inR c.regs c.params 300 with
  |false=>
   have hf:=hbad (by simp[cdB,h2]);simp-implicitDefEqProofs[hf]
  |true=>
  simp-implicitDefEqProofs[];refine(dm G c.blocks.length 1 160).use ?_;cases h3:inR c.blocks.length 1 160 with
  |false=>
   have hf:=hbad (by simp[cdB,h3]);simp-implicitDefEqProofs[hf]
  |true=>
  have hrg:0<=c.regs/\c.regs<=300:=by
   simp only[inR,Wr,Wx] at h1 h2;omega
  have hcl:=hcf.1;simp-implicitDefEqProofs[];refine am (λj:Nat=>aj 76 [(6,.p (.int .i64 j)),(3,.p (.int .i64 (bkS N c.blocks j))),(5,.ptr 1 3 0 0),(4,.p (.int .i64 i)),(1,.ptr 0 1 0 0)]) (λ_=>[.row 1 [[.p (.lst 3 (u.map Cd.cs))]],.row 3 [[.p (.int .i64 c.params),.p (.int .i64 c.regs),.p (.lst 5 (c.blocks.map Bk.cs))]]]) (λj=>j<=c.blocks.length/\(∀(q:Nat) (x:Bk),q<j->c.blocks[q]?=some x->bkB u i c q x=true)/\bkS N c.blocks j<=800) (λj=>c.blocks.length-j) 0 ⟨We _,λj c h=>(by omega),by rw[Co];exact hn8⟩ (aa (by simp) (by simp[below,Co])) ?_;rintro j ⟨hj,hq,hm8⟩;simp-implicitDefEqProofs[];refine aA (λhc2=>?_) (λhc2=>?_)
  ·simp at hc2;have hg2:=Wc hc2;have hM2:=FZ N hg2;have hxf:=hcf.2 _ (Wm hc2);generalize c.blocks[j]=x at hg2 hM2 hxf;have hxs:=x.cs_eq2;have hxi:=hxf.ins;have hxp:=hxf.phis;have hil:inL x.ins= .lst 4 (x.ins.map Ii.cs):=rfl;have hpl:phL x.phis= .lst 2 (x.phis.map Ph.cs):=rfl;obtain⟨M,hM⟩:∃M,M=bkS N c.blocks j:=⟨_,rfl⟩;rw[←hM] at hm8 hM2⊢;have w1':IntKind.i64.wrap ((M:Int)+(x.ins.length:Int))=(M:Int)+(x.ins.length:Int):=al (by omega) (by omega);have w2':IntKind.i64.wrap ((M:Int)+(x.ins.length:Int)+(x.phis.length:Int))=(M:Int)+(x.ins.length:Int)+(x.phis.length:Int):=al (by omega) (by omega);have hwj:=w1 (i:=j) (by omega)
   by_cases h8:800<M+x.ins.length+x.phis.length
   ·have h8':(800:Int)<(M:Int)+(x.ins.length:Int)+(x.phis.length:Int):=by omega
    have hf:unB u=false:=by
     have:=hle (j+1);rw[←hN] at this;have h3:N+((c.blocks.take (j+1)).map bkN).sum=bkS N c.blocks (j+1):=rfl;rw[h3,hM2] at this;have hd:decide (unN u<=800)=false:=(by simp;omega);rw[unB,hd];simp
    simp-implicitDefEqProofs[hg2,hxs,hil,hpl,w1',w2',h8',hf]
   ·have h8':¬(800:Int)<(M:Int)+(x.ins.length:Int)+(x.phis.length:Int):=(by omega);have hB:=LO G u i j c x hg hg2 hrg.1 hrg.2 hu;rw[hul] at hB;simp-implicitDefEqProofs[hg2,hxs,hil,hpl,w1',w2',h8'];refine hB.use ?_;cases hbb:bkB u i c j x with
    |false=>
     have hf:=hbad (by rw[cdB,dA hg2 hbb];simp);simp-implicitDefEqProofs[hf]
    |true=>
     simp-implicitDefEqProofs[];refine⟨j+1,⟨by omega,λq y hqj hy=>?_,by omega⟩,by omega,aa (by simp) ?_⟩
     ·rcases Xh q j with h|h
      ·exact hq q y h hy
      ·have:q=j:=(by omega);subst this;rw[hg2] at hy;cases hy;exact hbb
     ·have hcast:(bkS N c.blocks (j+1):Int)=(M:Int)+(x.ins.length:Int)+(x.phis.length:Int):=(by omega);simp-implicitDefEqProofs only[hcast];simp[below,hwj]
  ·simp at hc2;have hje:j=c.blocks.length:=by omega
   subst hje;have hcd:=MZ h1 h2 h3 (λq x hx=>hq q x (Wa.1 hx).1 hx);have hcN:bkS N c.blocks c.blocks.length=N+cdN c:=JY N c.blocks;rw[hcN] at hm8⊢;have htn2:unN (u.take (i+1))=N+cdN c:=(by rw[hN];exact htn);simp-implicitDefEqProofs[];refine⟨i+1,⟨by omega,λq y hqj hy=>?_,by omega⟩,by omega,tJ (m:=1) (by omega) (oZ rfl rfl (by simp[okO,below])) ?_⟩
   ·rcases Xh q i with h|h
    ·exact hp q y h hy
    ·have:q=i:=(by omega);subst this;rw[hg] at hy;cases hy;exact hcd
   ·have hcast:((unN (u.take (i+1)):Nat):Int)=(N:Int)+(cdN c:Int):=(by omega);simp-implicitDefEqProofs only[hcast];simp[below,w1 (i:=i) (by omega)]
 ·simp at hc;have hie:i=u.length:=by omega
  subst hie;rw[Xm] at hn8
  have ht:unB u=true:=by
   rw[unB,hr,allI_iff.2 (λq c hq=>hp q c (Wa.1 hq).1 hq)];simp[hn8]
  simp-implicitDefEqProofs[ht]
end
section
def Psh(H:List AO)(V:AV)(sz:Nat)(r:List AV)(H':List AO)(V':AV):Prop:=
 (V= .nils/\H'=H++[.row sz [r]]/\V'= .sl H.length sz 0 1)\/∃id rows m,V= .sl id sz 0 m/\H[id]?=some (.row sz rows)/\rows.length=m/\H'=H.set id .dead++[.row sz (rows++[r])]/\V'= .sl H.length sz 0 (m+1)
section
variable {n:Nat} {H H':List AO} {V V':AV} {sz:Nat} {D:List (List PV)} {r:List AV} {e:List PV} {IV IR:List Nat}
theorem Own.psh(hV:Own n H [V] [.lst sz D] IV)(hr:Own n H r e IR)(hd:∀j∈IV,j∉IR)(he:e.length=sz)(hn:n<=H.length)(hp:Psh H V sz r H' V'):
 ∃IV',Own n H' [V'] [.lst sz (D++[e])] IV'/\(∀j∈IV',j∈IV\/j∈IR\/j=H.length)/\(∀i,i<H.length->i∉IV->H'[i]?=H[i]?)/\H'.length=H.length+1:=by
 rcases hp with⟨rfl,rfl,rfl⟩|⟨id,rows,m,rfl,hg,hm,rfl,rfl⟩
 ·rcases hV.row with⟨_,rfl,rfl⟩|⟨_,_,_,e1,_⟩
  ·exact⟨_,hr.first he hn,λj hj=>by rcases WE.1 hj with h|h;exact .inr (.inr h);exact .inr (.inl h),λi hi _=>Wb hi,by simp⟩
  ·cases e1
 ·rcases hV.row with⟨e1,_⟩|⟨id2,rows2,J,e1,e2,hro,_⟩
  ·cases e1
  ·cases e1;subst e2;rw[hro.here] at hg;cases hg;have hpu:=hV.push hro (h2:=H) (os:=[]) (by simp) hr he λj hj=>⟨λe=>hd _ (by simp) (e▸hj),λhm=>hd j (by simp[hm]) hj⟩;refine⟨_,hpu,λj hj=>?_,λi hi hn=>?_,by simp⟩
   ·simp only[WE,Ws] at hj⊢;rcases hj with h|h|h
    ·exact .inr (.inr h)
    ·exact .inl (.inr h)
    ·exact .inr (.inl h)
   ·rw[Wb (by simpa using hi),Wd λe=>hn (by simp[e])]
end
section
variable {V N X:AV} {j o:Int}
end
end
section
theorem ag{α:Type}{l:List α}{i:Nat}{x:α}(h:l[i]?=some x)(hh:i<l.length):l[i]'hh=x:=(Wa.1 h).2
section
variable {n:Nat} {H:List AO} {V:AV} {cs:List Cd} {I:List Nat}
theorem Own.bks{B:AV}{bs:List Bk}(HV:Own n H [B] [bkL bs] I){k:Nat}{b:Bk}(hk:bs[k]?=some b):∃id rows r Ji,B= .sl id 5 0 bs.length/\H[id]?=some (.row 5 rows)/\rows.length=bs.length/\rows[k]?=some r/\Own n H r b.cs Ji/\id∈I/\(∀j∈Ji,j∈I/\j≠id)/\
 ∀(h2:List AO) (r':List AV) (b':Bk) (I2:List Nat),h2[id]?=some (.row 5 (rows.set k r'))->(∀j∈I,j≠id->j∉Ji->h2[j]?=H[j]?)->Own n h2 r' b'.cs I2->(∀j∈I2,j∈Ji\/j∉I)->∃I',Own n h2 [B] [bkL (bs.set k b')] I'/\∀j∈I',j∈I\/j∈I2:=by
 rcases HV.row with⟨_,h2,_⟩|⟨id,rows,J,h1,h2,hr,_⟩
 ·rw[WK.1 h2] at hk;simp at hk
 ·rw[Wj] at h1;subst h2;have HV2:=HV;rw[h1] at HV2;have hD:(bs.map Bk.cs)[k]?=some b.cs:=by rw[Wl,hk];rfl
  have hl:(bs.map Bk.cs).length=bs.length:=by simp
  obtain⟨r,Ji,g1,g2,g3,g4⟩:=Own.upd (D:=bs.map Bk.cs) (by rw[hl];exact HV2) hr hD;have hnid:id∉J:=(WR.1 HV.nd).1;refine⟨id,rows,r,Ji,h1,hr.here,by have:=hr.len;rwa[hl] at this,g1,g2,by simp,λj hj=>⟨Xb _ (g3 j hj).1,(g3 j hj).2⟩,λh2 r' b' I2 k1 k2 k3 k4=>?_⟩
  obtain⟨J',q1,q2⟩:=g4 h2 r' b'.cs I2 k1 (λj hj hn=>k2 j (Xb _ hj) (λe=>hnid (e▸hj)) hn) k3 (λj hj=>by
   rcases k4 j hj with h|h
   ·exact .inl h
   ·rw[WE,not_or] at h;exact .inr h) rfl
  rw[hl,←Ym,←h1] at q1;refine⟨id::J',q1,λj hj=>?_⟩;rcases WE.1 hj with rfl|hj
  ·exact .inl (by simp)
  ·rcases q2 j hj with h|h
   ·exact .inl (Xb _ h)
   ·exact .inr h
end
section
variable {m:Nat} {V V':AV} {cs:List Cd} {I:List Nat}
end
theorem Psh.len{H H':List AO}{V V':AV}{sz:Nat}{r:List AV}(hp:Psh H V sz r H' V'):H'.length=H.length+1:=by rcases hp with⟨_,rfl,_⟩|⟨id,rows,m,rfl,_,_,rfl,_⟩<;>simp
theorem Own.psh2{n:Nat}{H H':List AO}{U V V':AV}{q:PV}{sz:Nat}{D:List (List PV)}{r:List AV}{e:List PV}{I IR:List Nat}(hV:Own n H [U,V] [q,.lst sz D] I)(hr:Own n H r e IR)(hd:∀j∈I,j∉IR)(he:e.length=sz)(hn:n<=H.length)(hp:Psh H V sz r H' V'):
 ∃I',Own n H' [U,V'] [q,.lst sz (D++[e])] I'/\(∀j∈I',j∈I\/j∈IR\/j=H.length):=by
 have hnd:=hV.nd;have hlt:=hV.lt;obtain⟨_,_,I1,I2,e1,rfl,h1,h2⟩:=hV.one;cases e1;rw[WG] at hnd;obtain⟨I2',n1,n2,n3,n4⟩:=h2.psh hr (λj hj=>hd j (by simp[hj])) he hn hp;refine⟨I1++I2',(h1.frame λi hi=>n3 i (h1.lt i hi) λhm=>hnd.2.2 i hi i hm rfl).app n1 λj hj hm=>?_,λj hj=>?_⟩
 ·rcases n2 j hm with h|h|h
  ·exact hnd.2.2 j hj j h rfl
  ·exact hd j (by simp[hj]) h
  ·have:=h1.lt j hj;omega
 ·rcases Ws.1 hj with h|h
  ·exact .inl (by simp[h])
  ·rcases n2 j h with h|h|h
   ·exact .inl (by simp[h])
   ·exact .inr (.inl h)
   ·exact .inr (.inr h)
section
variable {m pw:Nat} {V V' A:AV} {cs:List Cd} {I:List Nat}
theorem vO(n:Nat)(H:List AO)(k:Int):Own n H [.p (.int .i64 k)] [.int .i64 k] []:=(Own.nix n H).putI k
end
end
section
theorem ti:AK.whole eX=FK.ak eU:=rfl
theorem Hj(σ:List Nat)(v:AV):AN (ren σ v)=AN v:=by cases v<;>rfl
theorem Bj(n:Nat)(v:AV):AN (bx n v)=AN v:=by cases v<;>rfl
def OwW(w:List AV->AV)(qs:List PV)(x:ARes)(h:List AO):Prop:=∃vs I,x= .ret (w vs)/\Own 0 h vs qs I
theorem TD{n:Nat}{W:List AO}{a b c m:Nat}{l:List Int}(ha:W[a]?=some (.row 2 []))(hb:W[b]?=some (.row 4 []))(hc:W[c]?=some (.row 1 (l.map λn=>[AV.p (.int .i64 n)])))(na:n<=a)(nb:n<=b)(nc:n<=c)(h1:a≠b)(h2:a≠c)(h3:b≠c)(hm:m=l.length):Own n W [.sl a 2 0 0,.sl b 4 0 0,.sl c 1 0 m] [phL [],inL [],ah l] [a,b,c]:=by
 have e1:Own n W [.sl a 2 0 0] [phL []] [a]:=Own.of (D:=[]) (J:=[]) (rows:=[]) ⟨ha,rfl,(λ_ h=>by cases h),(λ_ h=>by cases h),.nil,by simp⟩ (λ_ h=>by cases h) (λ_ h=>by cases h) (λj hj=>by rw[Wt.1 hj];exact na) rfl;have e2:Own n W [.sl b 4 0 0] [inL []] [b]:=Own.of (D:=[]) (J:=[]) (rows:=[]) ⟨hb,rfl,(λ_ h=>by cases h),(λ_ h=>by cases h),.nil,by simp⟩ (λ_ h=>by cases h) (λ_ h=>by cases h) (λj hj=>by rw[Wt.1 hj];exact nb) rfl;exact e1.app (e2.app (aX hc nc hm) λj hj hm=>by simp at hj hm;omega) λj hj hm=>by simp at hj hm;omega
variable (G:aw)
def CbI(x:Bk)(W:List AO)(ps:List Ph)(is:List Ii):Prop:=W[0]?=some (.row 5 [x.cs.map .p])/\W[1]?=some (.row 5 [[.nils,.nils,.p (.int .i64 0),.p (.int .i64 0),.nils]])/\∃P N Z I,W[6]?=some (.row 5 [[P,N,.p (.int .i64 x.jump),.p (.int .i64 x.on),Z]])/\Own 2 W [P,N,Z] [phL ps,inL is,ah x.next] I/\6∉I
theorem CbI.tri{x:Bk}{W:List AO}{ps:List Ph}{is:List Ii}(H:CbI x W ps is):W[0]?=some (.row 5 [x.cs.map .p])/\W[1]?=some (.row 5 [[.nils,.nils,.p (.int .i64 0),.p (.int .i64 0),.nils]])/\∃P N Z IP IN IZ,W[6]?=some (.row 5 [[P,N,.p (.int .i64 x.jump),.p (.int .i64 x.on),Z]])/\Own 2 W [P] [phL ps] IP/\Own 2 W [N] [inL is] IN/\Own 2 W [Z] [ah x.next] IZ/\(∀j∈IP,j∉IN/\j∉IZ)/\(∀j∈IN,j∉IZ)/\6∉IP/\6∉IN/\6∉IZ:=by
 obtain⟨h0,h1,P,N,Z,I,h2,hO,h6⟩:=H;have hnd:=hO.nd;obtain⟨_,_,IP,I',e1,rfl,hP,H2⟩:=hO.one;cases e1;obtain⟨_,_,IN,IZ,e1,rfl,hN,hZ⟩:=H2.one;cases e1;simp only[WG,Ws,not_or] at hnd h6;exact⟨h0,h1,P,N,Z,IP,IN,IZ,h2,hP,hN,hZ,λj hj=>⟨λhm=>hnd.2.2 j hj j (.inl hm) rfl,λhm=>hnd.2.2 j hj j (.inr hm) rfl⟩,λj hj hm=>hnd.2.1.2.2 j hj j hm rfl,h6.1,h6.2.1,h6.2.2⟩
theorem CbI.ofTri{x:Bk}{W:List AO}{ps:List Ph}{is:List Ii}{P N Z:AV}{IP IN IZ:List Nat}(h0:W[0]?=some (.row 5 [x.cs.map .p]))(h1:W[1]?=some (.row 5 [[.nils,.nils,.p (.int .i64 0),.p (.int .i64 0),.nils]]))(h2:W[6]?=some (.row 5 [[P,N,.p (.int .i64 x.jump),.p (.int .i64 x.on),Z]]))(hP:Own 2 W [P] [phL ps] IP)(hN:Own 2 W [N] [inL is] IN)(hZ:Own 2 W [Z] [ah x.next] IZ)(d1:∀j∈IP,j∉IN/\j∉IZ)(d2:∀j∈IN,j∉IZ)(n1:6∉IP)(n2:6∉IN)(n3:6∉IZ):CbI x W ps is:=
 ⟨h0,h1,P,N,Z,IP++(IN++IZ),h2,hP.app (hN.app hZ d2) λj hj hm=>(Ws.1 hm).elim (d1 j hj).1 (d1 j hj).2,by simp[n1,n2,n3]⟩
theorem Own.grow{W os W3:List AO}{V V':AV}{sz:Nat}{D:List (List PV)}{r:List AV}{e:List PV}{IV IA:List Nat}{o6:AO}(hV:Own 2 W [V] [.lst sz D] IV)(hr:Own W.length (W++os) r e IA)(he:e.length=sz)(hp:Psh (W++os) V sz r W3 V')(h6:6<W.length)(n6:6∉IV):
 ∃IV',Own 2 (W3.set 6 o6) [V'] [.lst sz (D++[e])] IV'/\(∀j∈IV',j∈IV\/W.length<=j)/\W.length<=(W3.set 6 o6).length/\(W3.set 6 o6)[6]?=some o6/\∀i,i<W.length->i∉IV->i≠6->(W3.set 6 o6)[i]?=W[i]?:=by
 obtain⟨IV',n1,n2,n3,n4⟩:=(hV.more os).psh (hr.low λj hj=>by have:=hr.ge j hj;omega) (λj hj hm=>by have:=hV.lt j hj;have:=hr.ge j hm;omega) he (by simp;omega) hp
 have hnew:∀j∈IV',j∈IV\/W.length<=j:=λj hj=>by
  rcases n2 j hj with h|h|h
  ·exact .inl h
  ·exact .inr (hr.ge j h)
  ·right;rw[h];simp
 simp only[Wn] at n3 n4;refine⟨IV',n1.frame λi hi=>Wd λe=>?_,hnew,by simp;omega,Wh (by omega),λi hi hn h6i=>?_⟩
 ·subst e;rcases hnew _ hi with h|h
  ·exact n6 h
  ·omega
 ·rw[Wd (Ne.symm h6i),n3 i (by omega) hn,Wb hi]
theorem CbI.getP{x:Bk}{W:List AO}{ps:List Ph}{is:List Ii}(H:CbI x W ps is):W[0]?=some (.row 5 [x.cs.map .p])/\7<=W.length/\∃P N Z,W[6]?=some (.row 5 [[P,N,.p (.int .i64 x.jump),.p (.int .i64 x.on),Z]])/\(P.cells=[P]/\P.isCell=true)/\(N.cells=[N]/\N.isCell=true)/\(Z.cells=[Z]/\Z.isCell=true)/\((P= .nils/\ps=[])\/∃i rows,P= .sl i 2 0 ps.length/\W[i]?=some (.row 2 rows)/\rows.length=ps.length/\2<=i/\i≠6)/\
 ∀(os:List AO) (A:AV) (y:Ph) (IA:List Nat) (W3:List AO) (P':AV),Own W.length (W++os) [A] [ah y.args] IA->Psh (W++os) P 2 [.p (.int .i64 y.to),A] W3 P'->CbI x (W3.set 6 (.row 5 [[P',N,.p (.int .i64 x.jump),.p (.int .i64 x.on),Z]])) (ps++[y]) is:=by
 obtain⟨h0,h1,P,N,Z,IP,IN,IZ,h2,hP,hN,hZ,d1,d2,n1,n2,n3⟩:=H.tri;have h6:=(Wa.1 h2).1;refine⟨h0,h6,P,N,Z,h2,hP.cell,hN.cell,hZ.cell,?_,λos A y IA W3 P' hA hp=>?_⟩
 ·rcases hP.row with⟨e1,e2,_⟩|⟨id,rows,J,e1,e2,hr,_⟩
  ·exact .inl ⟨e1,WK.1 e2⟩
  ·rw[Wj] at e1;exact .inr ⟨id,rows,e1,hr.here,by have:=hr.len;simpa using this,hP.ge id (by rw[e2];simp),λe=>n1 (by rw[e2,e];simp)⟩
 ·obtain⟨IP',m1,m2,m3,m4,m5⟩:=hP.grow (o6:= .row 5 [[P',N,.p (.int .i64 x.jump),.p (.int .i64 x.on),Z]]) (JK (x:=y) hA) rfl hp h6 n1;have hpl:phL (ps++[y])= .lst 2 (ps.map Ph.cs++[y.cs]):=by rw[phL,WF];rfl
  refine CbI.ofTri (IP:=IP') (IN:=IN) (IZ:=IZ) (by rw[m5 0 (by omega) (λhm=>by have:=hP.ge _ hm;omega) (by decide)];exact h0) (by rw[m5 1 (by omega) (λhm=>by have:=hP.ge _ hm;omega) (by decide)];exact h1) m4 (by rw[hpl];exact m1) (hN.frame λi hi=>m5 i (hN.lt i hi) (λhm=>(d1 i hm).1 hi) λe=>n2 (e▸hi)) (hZ.frame λi hi=>m5 i (hZ.lt i hi) (λhm=>(d1 i hm).2 hi) λe=>n3 (e▸hi)) (λj hj=>?_) d2 (λhm=>?_) n2 n3
  ·rcases m2 j hj with h|h
   ·exact d1 j h
   ·exact⟨λhm=>by have:=hN.lt j hm;omega,λhm=>by have:=hZ.lt j hm;omega⟩
  ·rcases m2 6 hm with h|h
   ·exact n1 h
   ·omega
theorem CbI.getN{x:Bk}{W:List AO}{ps:List Ph}{is:List Ii}(H:CbI x W ps is):W[0]?=some (.row 5 [x.cs.map .p])/\7<=W.length/\∃P N Z,W[6]?=some (.row 5 [[P,N,.p (.int .i64 x.jump),.p (.int .i64 x.on),Z]])/\(P.cells=[P]/\P.isCell=true)/\(N.cells=[N]/\N.isCell=true)/\(Z.cells=[Z]/\Z.isCell=true)/\((N= .nils/\is=[])\/∃i rows,N= .sl i 4 0 is.length/\W[i]?=some (.row 4 rows)/\rows.length=is.length/\2<=i/\i≠6)/\
 ∀(os:List AO) (A:AV) (y:Ii) (IA:List Nat) (W3:List AO) (N':AV),Own W.length (W++os) [A] [ah y.args] IA->Psh (W++os) N 4 [.p (.int .i64 y.op),.p (.int .i64 y.to),A,.p (.int .i64 y.n)] W3 N'->CbI x (W3.set 6 (.row 5 [[P,N',.p (.int .i64 x.jump),.p (.int .i64 x.on),Z]])) ps (is++[y]):=by
 obtain⟨h0,h1,P,N,Z,IP,IN,IZ,h2,hP,hN,hZ,d1,d2,n1,n2,n3⟩:=H.tri;have h6:=(Wa.1 h2).1;refine⟨h0,h6,P,N,Z,h2,hP.cell,hN.cell,hZ.cell,?_,λos A y IA W3 N' hA hp=>?_⟩
 ·rcases hN.row with⟨e1,e2,_⟩|⟨id,rows,J,e1,e2,hr,_⟩
  ·exact .inl ⟨e1,WK.1 e2⟩
  ·rw[Wj] at e1;exact .inr ⟨id,rows,e1,hr.here,by have:=hr.len;simpa using this,hN.ge id (by rw[e2];simp),λe=>n2 (by rw[e2,e];simp)⟩
 ·obtain⟨IN',m1,m2,m3,m4,m5⟩:=hN.grow (o6:= .row 5 [[P,N',.p (.int .i64 x.jump),.p (.int .i64 x.on),Z]]) (rz (x:=y) hA) rfl hp h6 n2;have hpl:inL (is++[y])= .lst 4 (is.map Ii.cs++[y.cs]):=by rw[inL,WF];rfl
  refine CbI.ofTri (IP:=IP) (IN:=IN') (IZ:=IZ) (by rw[m5 0 (by omega) (λhm=>by have:=hN.ge _ hm;omega) (by decide)];exact h0) (by rw[m5 1 (by omega) (λhm=>by have:=hN.ge _ hm;omega) (by decide)];exact h1) m4 (hP.frame λi hi=>m5 i (hP.lt i hi) (λhm=>(d1 i hi).1 hm) λe=>n1 (e▸hi)) (by rw[hpl];exact m1) (hZ.frame λi hi=>m5 i (hZ.lt i hi) (λhm=>d2 i hm hi) λe=>n3 (e▸hi)) (λj hj=>⟨λhm=>?_,(d1 j hj).2⟩) (λj hj hm=>?_) n1 (λhm=>?_) n3
  ·rcases m2 j hm with h|h
   ·exact(d1 j hj).1 h
   ·have:=hP.lt j hj;omega
  ·rcases m2 j hj with h|h
   ·exact d2 j h hm
   ·have:=hZ.lt j hm;omega
  ·rcases m2 6 hm with h|h
   ·exact n2 h
   ·omega
structure CbS where (i:Nat) (W:List AO)
theorem Dw(σ:List Nat)(l:List AV):bT σ l=l.map (ren σ):=WT λi=>by rw[dD,Wl]
theorem AC.ownLift{f:FuncId}{args:List AV}{w:List AV->AV}{qs:List PV}(hw:Shp w)(H:AC Tryz.prog G f args [] (OwW w qs)){h:List AO}(hv:au 0 args):
 AC Tryz.prog G f args h λx h'=>∃vs I os,x= .ret (w vs)/\h'=h++os/\Own h.length h' vs qs I:=by
 have hT:TW [] args args:=by
  have:=Nv (n:=0) (args:=args) hv;simpa using this
 refine(H.frame (h:=h) [] Yk hT True.intro).mono ?_;rintro x h' ⟨x0,h0,⟨vs,I,rfl,ho⟩,hl,rfl,rfl⟩
 have hσ:∀i,i<h0.length->([]++List.range' h.length (h0.length-([]:List AO).length)).getD i 0=h.length+i:=λi hi=>by rw[Xj,Wv];simp[hi]
 generalize hs:([]:List Nat)++List.range' h.length (h0.length-([]:List AO).length)=σ at*
 have hget:∀i,i∈I->(h++h0.map (nH σ))[σ.getD i 0]?=(h0[i]?).map (nH σ):=λi hi=>by rw[hσ i (ho.lt i hi),Wg (by omega),WP,Wl]
 have ho2:=ho.own.ren (h':=h++h0.map (nH σ)) (σ:=σ) λi hi sz rows e=>by rw[hget i hi,e];rfl
 refine⟨bT σ vs,I.map λi=>σ.getD i 0,h0.map (nH σ),by simp only[Qv];rw[hw.ren],by simp[mrg],⟨by simpa[mrg] using ho2,?_,?_,?_,λi hi=>?_⟩⟩
 ·rw[WY (g:=λi=>h.length+i) λi hi=>hσ i (ho.lt i hi)];exact mf (λi j e=>by omega) ho.nd
 ·intro j hj sz rows hg r hr v hv;obtain⟨i,hi,rfl⟩:=Ww.1 hj;have hg2:(h++h0.map (nH σ))[σ.getD i 0]?=some (.row sz rows):=by simpa[mrg] using hg
  rw[hget i hi] at hg2;have hil:=ho.lt i hi;rw[Wc hil] at hg2;have hg3:=Wc hil;generalize h0[i]=o at hg2 hg3;simp only[Xx,WO] at hg2;cases o with
  |row sz0 rows0=>
   simp only[nH,AO.row.injEq] at hg2;obtain⟨rfl,rfl⟩:=hg2;obtain⟨r0,hr0,rfl⟩:=Ww.1 hr;rw[Dw] at hv;obtain⟨v0,hv0,rfl⟩:=Ww.1 hv;rw[Hj];exact ho.no i hi sz0 rows0 hg3 r0 hr0 v0 hv0
  |_=>simp[nH] at hg2
 ·intro v hv;rw[Dw] at hv;obtain⟨v0,hv0,rfl⟩:=Ww.1 hv;rw[Hj];exact ho.nv v0 hv0
 ·obtain⟨j,hj,rfl⟩:=Ww.1 hi;rw[hσ j (ho.lt j hj)];omega
end
section
theorem Own.growL{W os W3:List AO}{V V':AV}{sz k:Nat}{D:List (List PV)}{r:List AV}{e:List PV}{IV IA:List Nat}{o2:AO}(hV:Own (k+1) W [V] [.lst sz D] IV)(hr:Own W.length (W++os) r e IA)(he:e.length=sz)(hp:Psh (W++os) V sz r W3 V')(h2:k<W.length):
 ∃IV',Own (k+1) (W3.set k o2) [V'] [.lst sz (D++[e])] IV'/\W.length<=(W3.set k o2).length/\(W3.set k o2)[k]?=some o2/\∀i,i<k->(W3.set k o2)[i]?=W[i]?:=by
 obtain⟨IV',n1,n2,n3,n4⟩:=(hV.more os).psh (hr.low λj hj=>by have:=hr.ge j hj;omega) (λj hj hm=>by have:=hV.lt j hj;have:=hr.ge j hm;omega) he (by simp;omega) hp;simp only[Wn] at n3 n4;refine⟨IV',n1.frame λi hi=>Wd λe=>?_,by simp;omega,Wh (by omega),λi hi=>?_⟩
 ·have:=n1.ge i hi;omega
 ·rw[Wd (by omega),n3 i (by omega) (λhm=>by have:=hV.ge i hm;omega),Wb (by omega)]
theorem Own.rowAt{n:Nat}{W:List AO}{V:AV}{sz:Nat}{D:List (List PV)}{I:List Nat}(H:Own n W [V] [.lst sz D] I):(V= .nils/\D=[])\/∃i rows,V= .sl i sz 0 D.length/\W[i]?=some (.row sz rows)/\rows.length=D.length/\n<=i:=by
 rcases H.row with⟨h1,h2,_⟩|⟨id,rows,J,h1,h2,hr,_⟩
 ·exact .inl ⟨h1,h2⟩
 ·exact .inr ⟨id,rows,h1,hr.here,hr.len,H.ge id (by rw[h2];simp)⟩
structure CpS where (i:Nat) (W:List AO)
end
section
def tr5(b:Bool):Int:=if b then 1 else 0
def sX(op a b:Int):Option Int:=
 if op=3 then some ((a+b)%256) else if op=4 then some ((a-b+256)%256) else if op=5 then some (a*b%256) else if op=8 then some (tr5 (decide (a<b))) else if op=9 then some (tr5 (decide (a=b)))
 else if b=0 then none else if op=6 then some (a/b) else some (a%b)
def V5(n:Int):Prop:=0<=n/\n<=255
def VK(n:Int):Prop:=n= -2\/n= -1\/V5 n
theorem V5.vk{n:Int}(h:V5 n):VK n:= .inr (.inr h)
theorem VK.v5{n:Int}(h:VK n)(h1:n≠ -1)(h2:n≠ -2):V5 n:=by
 rcases h with h|h|h
 ·exact absurd h h2
 ·exact absurd h h1
 ·exact h
theorem Hs(b:Bool):V5 (tr5 b):=by cases b<;>simp[tr5,V5]
theorem Qs{op a b n:Int}(ha:V5 a)(hb:V5 b)(h:sX op a b=some n):V5 n:=by
 obtain⟨a0,a1⟩:=ha;obtain⟨b0,b1⟩:=hb;unfold sX at h;split at h
 ·cases h;constructor<;>omega
 split at h
 ·cases h;constructor<;>omega
 split at h
 ·cases h;exact⟨Int.emod_nonneg _ (by omega),by have:=Int.emod_lt_of_pos (a*b) (show(0:Int)<256 by omega);omega⟩
 split at h
 ·cases h;exact Hs _
 split at h
 ·cases h;exact Hs _
 split at h
 ·cases h
 rename_i hb0;split at h
 ·cases h;have h1:0<=a/b:=ZO a0 b0;have h2:a/b<=a:=ZJ b a0;exact⟨h1,by omega⟩
 ·cases h;have h1:=Int.emod_nonneg a hb0;have h2:=Int.emod_lt_of_pos a (show 0<b by omega);exact⟨h1,by omega⟩
def leV(a b:Int):Prop:=a= -2\/a=b\/b= -1
theorem leV.refl(a:Int):leV a a:= .inr (.inl rfl)
theorem leV.trans{a b c:Int}(h1:leV a b)(h2:leV b c):leV a c:=by unfold leV at*;omega
theorem leV.top(a:Int):leV a (-1):= .inr (.inr rfl)
theorem leV.bot(a:Int):leV (-2) a:= .inl rfl
def jP(a b:Int):Int:=if a= -2 then b else if b= -2\/a=b then a else-1
theorem Jc{a b c d:Int}(h1:leV a c)(h2:leV b d):leV (jP a b) (jP c d):=by
 unfold leV jP at*
 split<;>split<;>(try split)<;>(try split)<;>omega
theorem Jm(a b:Int):leV a (jP a b):=by
 unfold leV jP;split
 ·omega
 ·split<;>omega
theorem Ox{a b:Int}(ha:VK a)(hb:VK b):VK (jP a b):=by
 unfold jP;split
 ·exact hb
 ·split
  ·exact ha
  ·exact .inr (.inl rfl)
def hV(v:Int):Nat:=if v= -2 then 0 else if v= -1 then 2 else 1
theorem Oe(v:Int):hV v<=2:=by unfold hV;split;omega;split<;>omega
theorem Jz{a b:Int}(h:leV a b):hV a<=hV b:=by
 unfold hV leV at*
 split<;>split<;>(try split)<;>(try split)<;>omega
theorem NW{a b:Int}(h:leV a b)(hne:a≠b):hV a<hV b:=by
 unfold hV leV at*
 split<;>split<;>(try split)<;>(try split)<;>omega
def rg(regs:List Int)(r:Int):Int:=(regs[r.toNat]?).getD (-2)
structure KS where (regs:List Int) (opn:List Bool) (W:List (Int × Int))
deriving DecidableEq
def KS.bec(S:KS)(r n:Int):KS:={S with regs:=S.regs.set r.toNat n}
def KS.way(S:KS)(b t:Int):KS:=if(b,t)∈S.W then S else{S with W:=S.W++[(b,t)],opn:=S.opn.set t.toNat true}
def doK(op a b:Int):Int:=if op=10 then tr5 (decide (a=0)) else(sX op a b).getD (-1)
def fp(regs:List Int)(x:Ii):Int:=
 if x.op=1 then x.n else if x.op=2 then rg regs (x.args.headD 0) else if x.op=11\/x.op=14 then-1
 else if-1∈x.args.map (rg regs) then-1 else if-2∈x.args.map (rg regs) then-2 else doK x.op ((x.args.map (rg regs)).headD 0) ((x.args.map (rg regs)).getLastD 0)
def mW(S:KS)(b:Int):List (Int × Int)->Int->Int
 |[],a=>a
 |(p,r)::l,a=>mW S b l (if(p,b)∈S.W then jP a (rg S.regs r) else a)
def vE(S:KS)(bs:List Bk)(b:Int)(f:Ph):Int:=mW S b ((ab bs b).zip f.args) (-2)
def cQ(S:KS)(x:Ii):KS:=if aI x.op then S.bec x.to (fp S.regs x) else S
def jF(S:KS)(bs:List Bk)(b:Int)(f:Ph):KS:=S.bec f.to (vE S bs b f)
def mC(S:KS)(b:Int)(x:Bk):KS:=
 if x.jump=1 then S.way b (x.next.headD 0)
 else if x.jump=2 then
  (if rg S.regs x.on= -2 then S else
    if rg S.regs x.on=0 then S.way b (x.next.getLastD 0) else if rg S.regs x.on= -1 then(S.way b (x.next.headD 0)).way b (x.next.getLastD 0) else S.way b (x.next.headD 0))
 else S
def fS(bs:List Bk)(S:KS)(b:Nat):KS:=
 match bs[b]? with
 |none=>S
 |some x=>if S.opn[b]?.getD false then mC (x.ins.foldl cQ (x.phis.foldl (λS f=>jF S bs b f) S)) b x else S
def Le(bs:List Bk)(S:KS):KS:=(List.range bs.length).foldl (fS bs) S
def ksC(c:Cd):KS:=⟨(List.replicate c.regs.toNat (-2)).mapIdx λi v=>if i<c.params.toNat then-1 else v,(List.replicate c.blocks.length false).set 0 true,[]⟩
def rndN(bs:List Bk)(S:KS):Nat->KS
 |0=>S
 |n+1=>Le bs (rndN bs S n)
theorem pV{bs:List Bk}{S:KS}{m:Nat}(h:rndN bs S (m+1)=rndN bs S m):∀j,rndN bs S (m+j)=rndN bs S m
 |0=>rfl
 |j+1=>by
  have ih:=pV h j;show Le bs (rndN bs S (m+j))=_;rw[ih];exact h
noncomputable def KF (c:Cd):KS:= @dite _ (∃m,rndN c.blocks (ksC c) (m+1)=rndN c.blocks (ksC c) m) (Classical.propDecidable _) (λh=>rndN c.blocks (ksC c) (Classical.choose h)) λ_=>ksC c
theorem Rs{c:Cd}{m:Nat}(h:rndN c.blocks (ksC c) (m+1)=rndN c.blocks (ksC c) m):KF c=rndN c.blocks (ksC c) m:=by
 have hex:∃m,rndN c.blocks (ksC c) (m+1)=rndN c.blocks (ksC c) m:=⟨m,h⟩;rw[KF,dif_pos hex];have h2:=Classical.choose_spec hex;generalize Classical.choose hex=m2 at h2;rcases Nat.le_total m m2 with hl|hl
 ·obtain⟨j,rfl⟩:∃j,m2=m+j:=⟨m2-m,by omega⟩;exact pV h j
 ·obtain⟨j,rfl⟩:∃j,m=m2+j:=⟨m-m2,by omega⟩;exact(pV h2 j).symm
structure leS (S T:KS):Prop where
 len:T.regs.length=S.regs.length
 rgs:∀r,leV (rg S.regs r) (rg T.regs r)
 way:∀p∈S.W,p∈T.W
 wl:S.W.length<=T.W.length
theorem leS.refl(S:KS):leS S S:=⟨rfl,λ_=> .refl _,λ_ h=>h,Wo _⟩
theorem leS.trans{S T U:KS}(h1:leS S T)(h2:leS T U):leS S U:=⟨h2.len.trans h1.len,λr=>(h1.rgs r).trans (h2.rgs r),λp hp=>h2.way p (h1.way p hp),Xw h1.wl h2.wl⟩
theorem DA{S T:KS}(h:leS S T)(b:Int):∀(l:List (Int × Int)) (a a':Int),leV a a'->leV (mW S b l a) (mW T b l a')
 |[],_,_,ha=>ha
 |(p,r)::l,a,a',ha=>by
  simp only[mW];refine DA h b l _ _ ?_
  by_cases h1:(p,b)∈S.W
  ·rw[Wz h1,Wz (h.way _ h1)];exact Jc ha (h.rgs r)
  ·rw[WB h1];split
   ·exact ha.trans (Jm _ _)
   ·exact ha
theorem vb{S T:KS}(h:leS S T)(bs:List Bk)(b:Int)(f:Ph):leV (vE S bs b f) (vE T bs b f):=DA h b _ _ _ (.refl _)
theorem DP{S T:KS}(h:leS S T)(x:Ii):leV (fp S.regs x) (fp T.regs x):=by
 unfold fp;split
 ·exact .refl _
 split
 ·exact h.rgs _
 split
 ·exact .refl _
 by_cases h1: -1∈x.args.map (rg S.regs)
 ·have h2: -1∈x.args.map (rg T.regs):=by
   obtain⟨r,hr,e⟩:=Ww.1 h1;refine Ww.2 ⟨r,hr,?_⟩;have:=h.rgs r;unfold leV at this;omega
  rw[Wz h1,Wz h2];exact .refl _
 rw[WB h1]
 by_cases h2: -2∈x.args.map (rg S.regs)
 ·rw[Wz h2];exact .bot _
 rw[WB h2]
 by_cases h3: -1∈x.args.map (rg T.regs)
 ·rw[Wz h3];exact .top _
 have hsame:∀r∈x.args,rg T.regs r=rg S.regs r:=λr hr=>by
  have h4:=h.rgs r;have h5:rg S.regs r≠ -2:=λe=>h2 (Ww.2 ⟨r,hr,e⟩);have h6:rg T.regs r≠ -1:=λe=>h3 (Ww.2 ⟨r,hr,e⟩);unfold leV at h4;omega
 have hmap:x.args.map (rg T.regs)=x.args.map (rg S.regs):=WY hsame;rw[hmap,WB h1,WB h2];exact .refl _
structure UniP (c:Cd):Prop where
 pp:∀(b b':Nat) (x x':Bk) (f f':Ph),c.blocks[b]?=some x->c.blocks[b']?=some x'->f∈x.phis->f'∈x'.phis->f.to=f'.to->b=b'/\f=f'
 pi:∀(b b':Nat) (x x':Bk) (f:Ph) (y:Ii),c.blocks[b]?=some x->c.blocks[b']?=some x'->f∈x.phis->y∈x'.ins->aI y.op=true->f.to≠y.to
 ii:∀(b b':Nat) (x x':Bk) (y y':Ii),c.blocks[b]?=some x->c.blocks[b']?=some x'->y∈x.ins->y'∈x'.ins->aI y.op=true->aI y'.op=true->y.to=y'.to->y=y'
 pr:∀(b:Nat) (x:Bk) (f:Ph),c.blocks[b]?=some x->f∈x.phis->c.params<=f.to/\f.to<c.regs
 ir:∀(b:Nat) (x:Bk) (y:Ii),c.blocks[b]?=some x->y∈x.ins->aI y.op=true->c.params<=y.to/\y.to<c.regs
structure KJ (c:Cd) (S:KS):Prop where
 len:S.regs.length=c.regs.toNat
 ph:∀(b:Nat) (x:Bk) (f:Ph),c.blocks[b]?=some x->f∈x.phis->leV (rg S.regs f.to) (vE S c.blocks b f)
 ins:∀(b:Nat) (x:Bk) (y:Ii),c.blocks[b]?=some x->y∈x.ins->aI y.op=true->leV (rg S.regs y.to) (fp S.regs y)
 nd:S.W.Nodup
 wr:∀p∈S.W,0<=p.1/\p.1<c.blocks.length/\0<=p.2/\p.2<c.blocks.length
theorem vF{l:List Int}{r n:Int}(h0:0<=r)(h1:r.toNat<l.length)(q:Int)(hq:0<=q):rg (l.set r.toNat n) q=if q=r then n else rg l q:=by
 unfold rg;rw[Xu]
 by_cases e:r=q
 ·subst e;simp[h1]
 ·have:¬r.toNat=q.toNat:=by omega
  have e2:¬q=r:=λh=>e h.symm;rw[WB this,WB e2]
def gk(S:KS):Nat:=(S.regs.map hV).sum+S.W.length
theorem Ho{l:List Int}{i:Nat}{n:Int}(h:i<l.length):((l.set i n).map hV).sum+hV l[i]=(l.map hV).sum+hV n:=by
 induction l generalizing i with
 |nil=>simp at h
 |cons a r ih=>
  cases i with
  |zero=>simp only[XY,WJ,XC,List.getElem_cons_zero];omega
  |succ i=>
   have:=ih (i:=i) (by simpa using h);simp only[YL,WJ,XC,List.getElem_cons_succ];omega
theorem KJ.bec{c:Cd}{S:KS}(h:KJ c S){r n:Int}(h0:0<=r)(h1:r<c.regs)(hle:leV (rg S.regs r) n):leS S (S.bec r n)/\gk (S.bec r n)+hV (rg S.regs r)=gk S+hV n/\(rg S.regs r=n->S.bec r n=S):=by
 have hl:r.toNat<S.regs.length:=by rw[h.len];omega
 have hg:rg S.regs r=S.regs[r.toNat]:=by rw[rg,Wc hl];rfl
 refine⟨⟨by simp[KS.bec],λq=>?_,λp hp=>hp,Wo _⟩,?_,λe=>?_⟩
 ·by_cases hq:0<=q
  ·rw[KS.bec,vF h0 hl q hq];split
   ·rename_i e;rw[e];exact hle
   ·exact .refl _
  ·have:q.toNat=0:=by omega
   have e:∀l,rg l q=rg l 0:=λl=>(by simp[rg,this]);rw[e,e,KS.bec,vF h0 hl 0 (by omega)];split
   ·rename_i e;rw[e];exact hle
   ·exact .refl _
 ·have:=Ho (n:=n) hl;rw[hg];simp only[gk,KS.bec];omega
 ·rw[KS.bec,←e,hg,Xl]
theorem KJ.phi{c:Cd}(hu:UniP c)(hp0:0<=c.params){S:KS}(h:KJ c S){b:Nat}{x:Bk}{f:Ph}(hb:c.blocks[b]?=some x)(hf:f∈x.phis):KJ c (jF S c.blocks b f)/\leS S (jF S c.blocks b f):=by
 obtain⟨r0,r1⟩:=hu.pr b x f hb hf;have hl:f.to.toNat<S.regs.length:=by rw[h.len];omega
 obtain⟨hle,_,_⟩:=h.bec (r:=f.to) (n:=vE S c.blocks b f) (by omega) r1 (h.ph b x f hb hf);refine⟨⟨by simp[jF,KS.bec,h.len],λb' x' f' hb' hf'=>?_,λb' x' y hb' hy hs=>?_,h.nd,h.wr⟩,hle⟩
 ·have hr:=hu.pr b' x' f' hb' hf';have hm:=vb hle c.blocks b' f';have e:=vF (n:=vE S c.blocks b f) (show 0<=f.to by omega) hl f'.to (by omega)
  by_cases ht:f'.to=f.to
  ·obtain⟨rfl,rfl⟩:=hu.pp b' b x' x f' f hb' hb hf' hf ht;show leV (rg (S.regs.set f'.to.toNat _) f'.to) _;rw[e,Wz rfl];exact hm
  ·show leV (rg (S.regs.set f.to.toNat _) f'.to) _;rw[e,WB ht];exact(h.ph b' x' f' hb' hf').trans hm
 ·have hr:=hu.ir b' x' y hb' hy hs;have hm:=DP hle y;have e:=vF (n:=vE S c.blocks b f) (show 0<=f.to by omega) hl y.to (by omega);have ht:¬y.to=f.to:=λe=>hu.pi b b' x x' f y hb hb' hf hy hs e.symm;show leV (rg (S.regs.set f.to.toNat _) y.to) _;rw[e,WB ht];exact(h.ins b' x' y hb' hy hs).trans hm
theorem KJ.insS{c:Cd}(hu:UniP c)(hp0:0<=c.params){S:KS}(h:KJ c S){b:Nat}{x:Bk}{y:Ii}(hb:c.blocks[b]?=some x)(hy:y∈x.ins):KJ c (cQ S y)/\leS S (cQ S y):=by
 unfold cQ;split
 case isFalse=>exact⟨h,.refl _⟩
 rename_i hs;obtain⟨r0,r1⟩:=hu.ir b x y hb hy hs;have hl:y.to.toNat<S.regs.length:=by rw[h.len];omega
 obtain⟨hle,_,_⟩:=h.bec (r:=y.to) (n:=fp S.regs y) (by omega) r1 (h.ins b x y hb hy hs);refine⟨⟨by simp[KS.bec,h.len],λb' x' f' hb' hf'=>?_,λb' x' y' hb' hy' hs'=>?_,h.nd,h.wr⟩,hle⟩
 ·have hr:=hu.pr b' x' f' hb' hf';have hm:=vb hle c.blocks b' f';have e:=vF (n:=fp S.regs y) (show 0<=y.to by omega) hl f'.to (by omega);have ht:¬f'.to=y.to:=λe=>hu.pi b' b x' x f' y hb' hb hf' hy hs e;show leV (rg (S.regs.set y.to.toNat _) f'.to) _;rw[e,WB ht];exact(h.ph b' x' f' hb' hf').trans hm
 ·have hr:=hu.ir b' x' y' hb' hy' hs';have hm:=DP hle y';have e:=vF (n:=fp S.regs y) (show 0<=y.to by omega) hl y'.to (by omega)
  by_cases ht:y'.to=y.to
  ·have:=hu.ii b' b x' x y' y hb' hb hy' hy hs' hs ht;subst this;show leV (rg (S.regs.set y'.to.toNat _) y'.to) _;rw[e,Wz rfl];exact hm
  ·show leV (rg (S.regs.set y.to.toNat _) y'.to) _;rw[e,WB ht];exact(h.ins b' x' y' hb' hy' hs').trans hm
theorem leS.wayS(S:KS)(b t:Int):leS S (S.way b t):=by
 unfold KS.way;split
 ·exact .refl _
 ·exact⟨rfl,λ_=> .refl _,λp hp=>by simp[hp],by simp⟩
theorem KJ.way{c:Cd}{S:KS}(h:KJ c S){b t:Int}(hb:0<=b/\b<c.blocks.length)(ht:0<=t/\t<c.blocks.length):KJ c (S.way b t)/\leS S (S.way b t)/\((b,t)∈S.W->S.way b t=S)/\((b,t)∉S.W->gk (S.way b t)=gk S+1):=by
 have hle:=leS.wayS S b t;have hreg:(S.way b t).regs=S.regs:=by unfold KS.way;split<;>rfl
 refine⟨⟨by rw[hreg];exact h.len,λb' x' f' hb' hf'=>?_,λb' x' y hb' hy hs=>?_,?_,?_⟩,hle,λe=>?_,λe=>?_⟩
 ·rw[hreg];exact(h.ph b' x' f' hb' hf').trans (vb hle c.blocks b' f')
 ·rw[hreg];exact h.ins b' x' y hb' hy hs
 ·unfold KS.way;split
  ·exact h.nd
  ·rename_i hn;rw[WG];exact⟨h.nd,by simp,λa ha b' hb' e=>hn (by rw[Wt] at hb';rw[←hb',←e];exact ha)⟩
 ·unfold KS.way;split
  ·exact h.wr
  ·intro p hp;rcases Ws.1 hp with hp|hp
   ·exact h.wr p hp
   ·rw[Wt.1 hp];exact⟨hb.1,hb.2,ht.1,ht.2⟩
 ·rw[KS.way,Wz e]
 ·rw[KS.way,WB e];simp[gk];omega
def Sb(c:Cd):Nat:=2*c.regs.toNat+c.blocks.length*c.blocks.length
theorem vp{a b:List Nat}(nd:a.Nodup)(h:∀v∈a,v∈b):a.length<=b.length:=by
 induction a generalizing b with
 |nil=>exact We _
 |cons x t ih=>
  obtain⟨u,w,rfl⟩:=ZA (h x (by simp));rw[WR] at nd
  have:=ih (b:=u++w) nd.2 λy hy=>by
   have h1:=h y (by simp[hy]);simp only[Ws,WE] at h1⊢;rcases h1 with h1|h1|h1
   ·exact .inl h1
   ·subst h1;exact absurd hy nd.1
   ·exact .inr h1
  simp only[Wn,WC] at this⊢;omega
theorem KJ.pot{c:Cd}{S:KS}(h:KJ c S):gk S<=Sb c:=by
 have h1:∀l:List Int,(l.map hV).sum<=2*l.length:=λl=>by
  induction l with
  |nil=>simp
  |cons a r ih=>have:=Oe a;simp only[WJ,XC,WC];omega
 have h2:=h1 S.regs;rw[h.len] at h2
 have h3:S.W.length<=c.blocks.length*c.blocks.length:=by
  have nd:(S.W.map λp=>p.1.toNat*c.blocks.length+p.2.toNat).Nodup:=by
   rw[Ys,YN];have h4:=h.nd;rw[Ys] at h4;refine(List.Pairwise.and_mem.1 h4).imp λ{a b} ⟨ha,hb,hne⟩ e=>hne ?_;obtain⟨a1,a2,a3,a4⟩:=h.wr a ha;obtain⟨b1,b2,b3,b4⟩:=h.wr b hb;have hn:0<c.blocks.length:=by omega
   have d1:(a.1.toNat*c.blocks.length+a.2.toNat)/c.blocks.length=a.1.toNat:=by rw[YF,Nat.mul_add_div hn,Nat.div_eq_of_lt (by omega)];omega
   have d2:(b.1.toNat*c.blocks.length+b.2.toNat)/c.blocks.length=b.1.toNat:=by rw[YF,Nat.mul_add_div hn,Nat.div_eq_of_lt (by omega)];omega
   have m1:(a.1.toNat*c.blocks.length+a.2.toNat)%c.blocks.length=a.2.toNat:=by rw[YF,Nat.mul_add_mod,Nat.mod_eq_of_lt (by omega)]
   have m2:(b.1.toNat*c.blocks.length+b.2.toNat)%c.blocks.length=b.2.toNat:=by rw[YF,Nat.mul_add_mod,Nat.mod_eq_of_lt (by omega)]
   rw[e] at d1 m1;have e1:a.1=b.1:=(by omega);have e2:a.2=b.2:=(by omega);exact Prod.ext e1 e2
  have:=vp (b:=List.range (c.blocks.length*c.blocks.length)) nd λv hv=>by
   obtain⟨p,hp,rfl⟩:=Ww.1 hv;obtain⟨a1,a2,a3,a4⟩:=h.wr p hp;rw[Xn];have:p.1.toNat+1<=c.blocks.length:=(by omega);have:=XJ c.blocks.length this;rw[Xz,Zb] at this;omega
  rwa[Wj,Xq] at this
 rw[Sb,gk];omega
end
section
structure KFit (c:Cd):Prop where
 uni:UniP c
 p0:0<=c.params
 pr:c.params<=c.regs
 r3:c.regs<=300
 nx:∀(b:Nat) (x:Bk),c.blocks[b]?=some x->∀t∈x.next,1<=t/\t<c.blocks.length
 n1:∀(b:Nat) (x:Bk),c.blocks[b]?=some x->x.jump=1->x.next.length=1
 n2:∀(b:Nat) (x:Bk),c.blocks[b]?=some x->x.jump=2->x.next.length=2
 bl:1<=c.blocks.length
structure KStep (c:Cd) (S T:KS):Prop where
 j:KJ c T
 le:leS S T
 pot:gk S<=gk T
 same:gk T=gk S->T=S
theorem KStep.refl{c:Cd}{S:KS}(h:KJ c S):KStep c S S:=⟨h,.refl _,Wo _,λ_=>rfl⟩
theorem KStep.trans{c:Cd}{S T U:KS}(h1:KStep c S T)(h2:KStep c T U):KStep c S U:=by
 refine⟨h2.j,h1.le.trans h2.le,Xw h1.pot h2.pot,λe=>?_⟩;have h3:=h1.pot;have h4:=h2.pot;have e1:=h2.same (by omega);have e2:=h1.same (by rw[e1] at e;exact e);rw[e1,e2]
theorem Hh{c:Cd}{S:KS}(h:KJ c S){r n:Int}(h0:0<=r)(h1:r<c.regs)(hle:leV (rg S.regs r) n)(hj:KJ c (S.bec r n)):KStep c S (S.bec r n)/\(rg S.regs r=n↔gk (S.bec r n)=gk S):=by
 obtain⟨a1,a2,a3⟩:=h.bec h0 h1 hle;have h5:=Jz hle;refine⟨⟨hj,a1,by omega,λe=>?_⟩,λe=>by rw[a3 e],λe=>?_⟩
 ·refine a3 (Classical.byContradiction λhne=>?_);have:=NW hle hne;omega
 ·refine Classical.byContradiction λhne=>?_;have:=NW hle hne;omega
theorem Ha{c:Cd}(hk:KFit c){S:KS}(h:KJ c S){b:Nat}{x:Bk}{f:Ph}(hb:c.blocks[b]?=some x)(hf:f∈x.phis):KStep c S (jF S c.blocks b f)/\(rg S.regs f.to=vE S c.blocks b f↔gk (jF S c.blocks b f)=gk S):=by
 obtain⟨h1,h2⟩:=hk.uni.pr b x f hb hf;have:=hk.p0;exact Hh h (by omega) h2 (h.ph b x f hb hf) (h.phi hk.uni hk.p0 hb hf).1
theorem FN{c:Cd}(hk:KFit c){S:KS}(h:KJ c S){b:Nat}{x:Bk}{y:Ii}(hb:c.blocks[b]?=some x)(hy:y∈x.ins):KStep c S (cQ S y)/\(aI y.op=true->(rg S.regs y.to=fp S.regs y↔gk (cQ S y)=gk S)):=by
 cases hs:aI y.op with
 |false=>
  have e:cQ S y=S:=by rw[cQ,hs];rfl
  rw[e];exact⟨.refl h,λh=>by cases h⟩
 |true=>
  obtain⟨h1,h2⟩:=hk.uni.ir b x y hb hy hs;have:=hk.p0;have e:cQ S y=S.bec y.to (fp S.regs y):=by rw[cQ,Wz hs]
  have hj:=(h.insS hk.uni hk.p0 hb hy).1;rw[e] at hj⊢;have:=Hh h (by omega) h2 (h.ins b x y hb hy hs) hj;exact⟨this.1,λ_=>this.2⟩
theorem fP{c:Cd}{S:KS}(h:KJ c S){b t:Int}(hb:0<=b/\b<c.blocks.length)(ht:0<=t/\t<c.blocks.length):KStep c S (S.way b t)/\((b,t)∈S.W↔gk (S.way b t)=gk S):=by
 obtain⟨h1,h2,h3,h4⟩:=h.way hb ht
 by_cases hm:(b,t)∈S.W
 ·have e:=h3 hm;rw[e];exact⟨.refl h,λ_=>rfl,λ_=>hm⟩
 ·have e:=h4 hm;exact⟨⟨h1,h2,by omega,λe2=>by omega⟩,λh=>absurd h hm,λe2=>by omega⟩
theorem rn{l:List Int}(h:l≠[]):l.headD 0∈l:=by
 cases l with
 |nil=>exact absurd rfl h
 |cons a r=>simp
theorem mL{l:List Int}(h:l≠[]):l.getLastD 0∈l:=by
 cases l with
 |nil=>exact absurd rfl h
 |cons a r=>rw[List.getLastD_eq_getLast?,List.getLast?_eq_some_getLast (by simp)];simp
theorem KFit.tgt{c:Cd}(hk:KFit c){b:Nat}{x:Bk}(hb:c.blocks[b]?=some x)(hj:x.jump=1\/x.jump=2):(0<=x.next.headD 0/\x.next.headD 0<c.blocks.length)/\(0<=x.next.getLastD 0/\x.next.getLastD 0<c.blocks.length):=by
 have hne:x.next≠[]:=λe=>by
  rcases hj with h|h
  ·have:=hk.n1 b x hb h;rw[e] at this;simp at this
  ·have:=hk.n2 b x hb h;rw[e] at this;simp at this
 have h1:=hk.nx b x hb _ (rn hne);have h2:=hk.nx b x hb _ (mL hne);omega
theorem OC{c:Cd}(hk:KFit c){S:KS}(h:KJ c S){b:Nat}{x:Bk}(hb:c.blocks[b]?=some x):KStep c S (mC S b x):=by
 have hbl:(0:Int)<=b/\(b:Int)<c.blocks.length:=by have:=(Wa.1 hb).1;omega
 unfold mC;split
 ·rename_i hj;exact(fP h hbl (hk.tgt hb (.inl hj)).1).1
 split
 ·rename_i hj;obtain⟨t1,t2⟩:=hk.tgt hb (.inr hj);split
  ·exact .refl h
  split
  ·exact(fP h hbl t2).1
  split
  ·have s1:=(fP h hbl t1).1;exact s1.trans (fP s1.j hbl t2).1
  ·exact(fP h hbl t1).1
 ·exact .refl h
theorem vl{c:Cd}(hk:KFit c){b:Nat}{x:Bk}(hb:c.blocks[b]?=some x):∀(l:List Ph) {S:KS},(∀f∈l,f∈x.phis)->KJ c S->KStep c S (l.foldl (λS f=>jF S c.blocks b f) S)
 |[],_,_,h=> .refl h
 |f::l,S,hl,h=>by
  have s1:=(Ha hk h hb (hl f (by simp))).1;exact s1.trans (vl hk hb l (λg hg=>hl g (by simp[hg])) s1.j)
theorem vh{c:Cd}(hk:KFit c){b:Nat}{x:Bk}(hb:c.blocks[b]?=some x):∀(l:List Ii) {S:KS},(∀f∈l,f∈x.ins)->KJ c S->KStep c S (l.foldl cQ S)
 |[],_,_,h=> .refl h
 |f::l,S,hl,h=>by
  have s1:=(FN hk h hb (hl f (by simp))).1;exact s1.trans (vh hk hb l (λg hg=>hl g (by simp[hg])) s1.j)
theorem NC{c:Cd}(hk:KFit c){S:KS}(h:KJ c S)(b:Nat):KStep c S (fS c.blocks S b):=by
 unfold fS;split
 ·exact .refl h
 rename_i x hb;split
 ·have s1:=vl hk hb x.phis (λ_ h=>h) h;have s2:=vh hk hb x.ins (λ_ h=>h) s1.j;exact(s1.trans s2).trans (OC hk s2.j hb)
 ·exact .refl h
theorem uY{c:Cd}(hk:KFit c):∀(l:List Nat) {S:KS},KJ c S->KStep c S (l.foldl (fS c.blocks) S)
 |[],_,h=> .refl h
 |b::l,S,h=>by
  have s1:=NC hk h b;exact s1.trans (uY hk l s1.j)
theorem FH{c:Cd}(hk:KFit c){S:KS}(h:KJ c S):KStep c S (Le c.blocks S):=uY hk _ h
theorem Je(n k:Nat)(r:Int):rg ((List.replicate n (-2)).mapIdx λi v=>if i<k then-1 else v) r=if r.toNat<n then(if r.toNat<k then-1 else-2) else-2:=by
 unfold rg;rw[WH,Xi]
 by_cases h1:r.toNat<n<;>by_cases h2:r.toNat<k<;>simp[h1,h2]
theorem Ri{c:Cd}(hk:KFit c):KJ c (ksC c):=by
 have hp:=hk.p0;refine⟨by simp[ksC],λb x f hb hf=>?_,λb x y hb hy hs=>?_,by simp[ksC],λp hp=>by simp[ksC] at hp⟩
 ·obtain⟨h1,h2⟩:=hk.uni.pr b x f hb hf
  have:rg (ksC c).regs f.to= -2:=by
   show rg ((List.replicate c.regs.toNat (-2)).mapIdx _) f.to=_;rw[Je,Wz (by omega),WB (by omega)]
  rw[this];exact .bot _
 ·obtain⟨h1,h2⟩:=hk.uni.ir b x y hb hy hs
  have:rg (ksC c).regs y.to= -2:=by
   show rg ((List.replicate c.regs.toNat (-2)).mapIdx _) y.to=_;rw[Je,Wz (by omega),WB (by omega)]
  rw[this];exact .bot _
theorem Jn{c:Cd}(hk:KFit c):∀m,KJ c (rndN c.blocks (ksC c) m)
 |0=>Ri hk
 |m+1=>(FH hk (Jn hk m)).j
theorem MA{c:Cd}(hk:KFit c)(m:Nat):KStep c (rndN c.blocks (ksC c) m) (rndN c.blocks (ksC c) (m+1)):=FH hk (Jn hk m)
end
end Go.Proofs.YtigmcjbgnmpbeaaGreat
namespace Go.Proofs.YtigmcjbgnmpbeaaGreat
inductive RW (s:Nat->Nat->Prop) (no:Nat->Prop):Nat->Prop where
 |zero:¬no 0->RW s no 0
 |step {b m:Nat}:RW s no b->s b m->¬no m->RW s no m
section
variable {s:Nat->Nat->Prop}
theorem RW.ok{no:Nat->Prop}{b:Nat}(h:RW s no b):¬no b:=by cases h<;>assumption
theorem RW.mono{no no':Nat->Prop}(hn:∀b,no' b->no b){b:Nat}(h:RW s no b):RW s no' b:=by
 induction h with
 |zero h=>exact .zero λx=>h (hn _ x)
 |step _ e h ih=>exact .step ih e λx=>h (hn _ x)
def Rch(s:Nat->Nat->Prop):Nat->Prop:=RW s λ_=>False
theorem Rch.zero:Rch s 0:=RW.zero id
theorem Rch.step{b m:Nat}(h:Rch s b)(e:s b m):Rch s m:=RW.step h e id
theorem RW.rch{no:Nat->Prop}{b:Nat}(h:RW s no b):Rch s b:=h.mono λ_ x=>x.elim
def Dom(s:Nat->Nat->Prop)(a b:Nat):Prop:=Rch s a/\Rch s b/\¬RW s (λx=>x=a) b
theorem Dom.root{b:Nat}(h:Rch s b):Dom s 0 b:=⟨Rch.zero,h,λx=>by
 have:∀c,RW s (λx=>x=0) c->False:=by
  intro c h
  induction h with
  |zero h=>exact h rfl
  |step _ _ _ ih=>exact ih
 exact this _ x⟩
end
end Go.Proofs.YtigmcjbgnmpbeaaGreat
namespace Go.Proofs.YtigmcjbgnmpbeaaGreat
def sn(seen:List Bool)(x:Nat):Bool:=seen.getD x true
theorem kI{seen:List Bool}{b x:Nat}:sn (seen.set b true) x=(sn seen x||decide (x=b)):=by
 unfold sn;rw[Wv,Wv,Xu]
 by_cases e:b=x
 ·subst e
  by_cases h:b<seen.length
  ·simp[h]
  ·simp only[WB h,WS (Nat.le_of_not_lt h)];simp
 ·have e2:¬x=b:=λh=>e h.symm;simp[e,e2]
def fls(seen:List Bool):Nat:=seen.countP λx=> !x
theorem js:∀{seen:List Bool} {b:Nat},sn seen b=false->fls (seen.set b true)+1=fls seen
 |[],b,h=>by simp[sn] at h
 |x::r,0,h=>by
  have:x=false:=by simpa[sn] using h
  subst this;simp[fls]
 |x::r,b+1,h=>by
  have:=js (seen:=r) (b:=b) (by simpa[sn] using h);simp only[fls,YL,List.countP_cons] at this⊢;omega
theorem MU:∀{a b:List Bool},a.length=b.length->(∀x,sn a x=true->sn b x=true)->fls b<=fls a
 |[],[],_,_=>Wo _
 |x::r,y::q,hl,h=>by
  have h1:=MU (a:=r) (b:=q) (by simpa using hl) λz hz=>by
   have:=h (z+1) (by simpa[sn] using hz);simpa[sn] using this
  have h0:x=true->y=true:=λe=>by
   have:=h 0 (by simpa[sn] using e);simpa[sn] using this
  simp only[fls,List.countP_cons] at h1⊢;cases x<;>cases y<;>simp at h0⊢ <;>omega
 |[],_::_,hl,_=>by simp at hl
 |_::_,[],hl,_=>by simp at hl
def dfs(nx:Nat->List Nat):Nat->List Bool × List Nat->Nat->List Bool × List Nat
 |0,st,_=>st
 |f+1,st,b=>
  let r:=(nx b).foldl (λst n=>if sn st.1 n then st else dfs nx f st n) (st.1.set b true,st.2)
  (r.1,r.2++[b])
def cr(nx:Nat->List Nat)(f:Nat)(st:List Bool × List Nat)(ns:List Nat):List Bool × List Nat:=ns.foldl (λst n=>if sn st.1 n then st else dfs nx f st n) st
theorem pK(nx:Nat->List Nat)(f:Nat)(st:List Bool × List Nat)(b:Nat):dfs nx (f+1) st b=((cr nx f (st.1.set b true,st.2) (nx b)).1,(cr nx f (st.1.set b true,st.2) (nx b)).2++[b]):=rfl
def Aft(l:List Nat)(x p:Nat):Prop:=∃u v,l=u++x::v/\p∈v
theorem Aft.app{l:List Nat}{x p:Nat}(h:Aft l x p)(a c:List Nat):Aft (a++l++c) x p:=by
 obtain⟨u,v,rfl,hp⟩:=h;exact⟨a++u,v++c,by simp,by simp[hp]⟩
theorem QR{l:List Nat}{x b:Nat}(h:x∈l):Aft (l++[b]) x b:=by
 obtain⟨u,v,rfl⟩:=ZA h;exact⟨u,v++[b],by simp,by simp⟩
structure DfsOk (nx:Nat->List Nat) (ns:List Nat) (seen:List Bool) (out:List Nat) (r:List Bool × List Nat) (l:List Nat):Prop where
 outE:r.2=out++l
 len:r.1.length=seen.length
 seenE:∀x,sn r.1 x=true↔sn seen x=true\/x∈l
 nodup:l.Nodup
 new:∀x∈l,sn seen x=false
 all:∀x∈ns,sn r.1 x=true
 clo:∀x∈l,∀y∈nx x,sn r.1 y=true
 par:∀x∈l,x∈ns\/∃p,Aft l x p/\x∈nx p
 rch:∀no:Nat->Prop,(∀x,no x->sn seen x=true)->∀s:Nat->Nat->Prop,(∀x y,y∈nx x->s x y)->(∀x∈ns,¬no x->RW s no x)->∀x∈l,RW s no x
theorem Sd(nx:Nat->List Nat):∀(f:Nat),(∀(ns:List Nat) (seen:List Bool) (out:List Nat),fls seen<=f->∃l,DfsOk nx ns seen out (cr nx f (seen,out) ns) l)/\
 (∀(b:Nat) (seen:List Bool) (out:List Nat),sn seen b=false->fls seen<=f->∃l,DfsOk nx [b] seen out (dfs nx f (seen,out) b) (l++[b])):=by
 intro f
 induction f with
 |zero=>
  have hno:∀(seen:List Bool),fls seen<=0->∀x,sn seen x=true:=λseen h x=>by
   by_cases hx:sn seen x=true
   ·exact hx
   ·have:=js (seen:=seen) (b:=x) (by simpa using hx);omega
  refine⟨λns seen out h=>⟨[],?_⟩,λb seen out hb h=>absurd (hno seen h b) (by simp[hb])⟩
  have hid:cr nx 0 (seen,out) ns=(seen,out):=by
   unfold cr
   induction ns with
   |nil=>rfl
   |cons n r ih=>rw[Yy];simp only[hno seen h n,if_true];exact ih
  rw[hid];exact⟨by simp,rfl,λx=>by simp,Yk,λx hx=>by simp at hx,λx _=>hno seen h x,λx hx=>by simp at hx,λx hx=>by simp at hx,λno _ s _ _ x hx=>by simp at hx⟩
 |succ f ih=>
  have hb:∀(b:Nat) (seen:List Bool) (out:List Nat),sn seen b=false->fls seen<=f+1->∃l,DfsOk nx [b] seen out (dfs nx (f+1) (seen,out) b) (l++[b]):=by
   intro b seen out hsb hf;have hset:=js hsb;obtain⟨l,o⟩:=ih.1 (nx b) (seen.set b true) out (by omega)
   have hbl:b∉l:=λh=>by
    have:=o.new b h;rw[kI] at this;simp at this
   refine⟨l,?_⟩;rw[pK];refine⟨by simp only;rw[o.outE,Wp],by rw[o.len,Wy],λx=>?_,?_,λx hx=>?_,λx hx=>?_,λx hx y hy=>?_,λx hx=>?_,λno hno s hs hr x hx=>?_⟩
   ·rw[o.seenE x,kI];simp[or_assoc,or_comm,or_left_comm]
   ·rw[WG];exact⟨o.nodup,by simp,λx hx y hy=>by simp at hy;subst hy;rintro rfl;exact hbl hx⟩
   ·rcases Ws.1 hx with h|h
    ·have:=o.new x h;rw[kI] at this;simp only[Bool.or_eq_false_iff] at this;exact this.1
    ·simp at h;subst h;exact hsb
   ·simp at hx;subst hx;rw[o.seenE x,kI];simp
   ·rcases Ws.1 hx with h|h
    ·exact o.clo x h y hy
    ·simp at h;subst h;exact o.all y hy
   ·rcases Ws.1 hx with h|h
    ·right;rcases o.par x h with h2|⟨p,h2,h3⟩
     ·exact⟨b,QR h,h2⟩
     ·exact⟨p,by simpa using h2.app [] [b],h3⟩
    ·left;exact h
   ·have hnb:¬no b:=λh=>(by rw[hno b h] at hsb;cases hsb);have hRb:RW s no b:=hr b (by simp) hnb;rcases Ws.1 hx with h|h
    ·refine o.rch no (λz hz=>?_) s hs (λz hz hnz=> .step hRb (hs _ _ hz) hnz) x h;rw[kI,hno z hz];rfl
    ·simp at h;subst h;exact hRb
  refine⟨λns=>?_,hb⟩
  induction ns with
  |nil=>
   intro seen out _;refine⟨[],?_⟩;exact⟨by simp[cr],rfl,λx=>by simp[cr],Yk,λx hx=>by simp at hx,λx hx=>by simp at hx,λx hx=>by simp at hx,λx hx=>by simp at hx,λno _ s _ _ x hx=>by simp at hx⟩
  |cons n ns ihn=>
   intro seen out hf
   by_cases hn:sn seen n=true
   ·obtain⟨l,o⟩:=ihn seen out hf
    have e:cr nx (f+1) (seen,out) (n::ns)=cr nx (f+1) (seen,out) ns:=by unfold cr;rw[Yy];simp only[hn,if_true]
    rw[e];refine⟨l,o.outE,o.len,o.seenE,o.nodup,o.new,λx hx=>?_,o.clo,λx hx=>?_,λno hno s hs hr=>o.rch no hno s hs λx hx=>hr x (by simp[hx])⟩
    ·rcases WE.1 hx with rfl|h
     ·exact(o.seenE x).2 (.inl hn)
     ·exact o.all x h
    ·exact(o.par x hx).imp (λh=>by simp[h]) id
   ·have hn':sn seen n=false:=(by simpa using hn);obtain⟨l1,o1⟩:=hb n seen out hn' hf
    have e:cr nx (f+1) (seen,out) (n::ns)=cr nx (f+1) (dfs nx (f+1) (seen,out) n) ns:=by unfold cr;rw[Yy];simp only[hn',Ye,if_false]
    rw[e];generalize hr1:dfs nx (f+1) (seen,out) n=r1 at o1;have hle:fls r1.1<=f+1:=Xw (MU o1.len.symm λx hx=>(o1.seenE x).2 (.inl hx)) hf;obtain⟨l2,o2⟩:=ihn r1.1 r1.2 hle;have hs2:∀x,sn r1.1 x=true->sn (cr nx (f+1) (r1.1,r1.2) ns).1 x=true:=λx hx=>(o2.seenE x).2 (.inl hx);refine⟨(l1++[n])++l2,by rw[o2.outE,o1.outE,Wp],by rw[o2.len,o1.len],λx=>?_,?_,λx hx=>?_,λx hx=>?_,λx hx y hy=>?_,λx hx=>?_,λno hno s hs hr x hx=>?_⟩
    ·rw[o2.seenE x,o1.seenE x,Ws (s:=l1++[n])];exact or_assoc
    ·rw[WG];refine⟨o1.nodup,o2.nodup,λx hx y hy=>?_⟩;rintro rfl;have:=o2.new x hy;rw[(o1.seenE x).2 (.inr hx)] at this;cases this
    ·rcases Ws.1 hx with h|h
     ·exact o1.new x h
     ·have:=o2.new x h;cases hc:sn seen x with
      |false=>rfl
      |true=>rw[(o1.seenE x).2 (.inl hc)] at this;cases this
    ·rcases WE.1 hx with rfl|h
     ·exact hs2 x (o1.all x (by simp))
     ·exact o2.all x h
    ·rcases Ws.1 hx with h|h
     ·exact hs2 y (o1.clo x h y hy)
     ·exact o2.clo x h y hy
    ·rcases Ws.1 hx with h|h
     ·rcases o1.par x h with h2|⟨p,h2,h3⟩
      ·left;simp at h2;simp[h2]
      ·right;exact⟨p,by simpa using h2.app [] l2,h3⟩
     ·rcases o2.par x h with h2|⟨p,h2,h3⟩
      ·left;simp[h2]
      ·right;exact⟨p,by simpa using h2.app (l1++[n]) [],h3⟩
    ·rcases Ws.1 hx with h|h
     ·exact o1.rch no hno s hs (λz hz=>hr z (by simp at hz;simp[hz])) x h
     ·by_cases hcase:∃z,no z/\sn seen z=false
      ·obtain⟨z,h1,h2⟩:=hcase;rw[hno z h1] at h2;cases h2
      ·exact o2.rch no (λz hz=>(o1.seenE z).2 (.inl (hno z hz))) s hs (λz hz=>hr z (by simp[hz])) x h
theorem jB(n:Nat):fls (List.replicate n false)=n:=by simp[fls,List.countP_replicate]
theorem Av(l:List Bool):fls l<=l.length:=List.countP_le_length
theorem BR{nx:Nat->List Nat}{seen:List Bool}(out:List Nat)(h0:sn seen 0=false){f:Nat}(hf:fls seen<=f):∃l,DfsOk nx [0] seen out (dfs nx f (seen,out) 0) (l++[0])/\
 ∀x,x∈l++[0]↔RW (λb m=>m∈nx b) (λy=>sn seen y=true) x:=by
 obtain⟨l,o⟩:=(Sd nx f).2 0 seen out h0 hf;refine⟨l,o,λx=>⟨λhx=>o.rch (λy=>sn seen y=true) (λ_ h=>h) (λb m=>m∈nx b) (λ_ _ h=>h) (λy hy hny=>?_) x hx,λhx=>?_⟩⟩
 ·simp at hy;subst hy;exact .zero hny
 ·have key:∀z,RW (λb m=>m∈nx b) (λy=>sn seen y=true) z->z∈l++[0]:=by
   intro z h
   induction h with
   |zero _=>simp
   | @step p m _ es hn ih=>
     have:=o.clo p ih m es;rcases(o.seenE m).1 this with h1|h1
     ·exact absurd h1 hn
     ·exact h1
  exact key x hx
end Go.Proofs.YtigmcjbgnmpbeaaGreat
namespace Go.Proofs.YtigmcjbgnmpbeaaGreat
open Go Go.Aw
set_option maxRecDepth 100000
set_option maxHeartbeats 4000000
section
def nxC(bs:List Bk)(b:Nat):List Nat:=match bs[b]? with|some x=>x.next.map Int.toNat|none=>[]
def be(bs:List Bk):Bool:= !bs.isEmpty&&bs.all λx=>x.next.all λn=>inR n 0 ((bs.length:Int)-1)
def stC(bs:List Bk)(b m:Nat):Prop:=m∈nxC bs b
theorem cf{bs:List Bk}(h:be bs=true):0<bs.length:=by
 simp only[be,Wr] at h;cases bs with
 |nil=>simp at h
 |cons x r=>simp
theorem Ae{bs:List Bk}(h:be bs=true){b:Nat}{x:Bk}(hx:bs[b]?=some x){n:Int}(hn:n∈x.next):0<=n/\n<bs.length:=by
 simp only[be,Wr] at h;have h1:=Wu.1 (Wu.1 h.2 x (Wq hx)) n hn;simp only[inR,Wr,Wx] at h1;omega
theorem ma{bs:List Bk}{b:Nat}{x:Bk}(hx:bs[b]?=some x):nxC bs b=x.next.map Int.toNat:=by rw[nxC,hx]
theorem Fe{bs:List Bk}(h:be bs=true){b m:Nat}(hm:m∈nxC bs b):b<bs.length/\m<bs.length:=by
 cases hx:bs[b]? with
 |none=>rw[nxC,hx] at hm;cases hm
 |some x=>
  rw[ma hx] at hm;obtain⟨n,hn,rfl⟩:=Ww.1 hm;have:=Ae h hx hn;exact⟨(Wa.1 hx).1,by omega⟩
theorem Pr{bs:List Bk}(h:be bs=true){b:Nat}(hb:Rch (stC bs) b):b<bs.length:=by
 cases hb with
 |zero _=>exact cf h
 |step _ e _=>exact(Fe h e).2
noncomputable def cz (bs:List Bk) (a:Nat):Bool:= @decide (Rch (stC bs) a) (Classical.propDecidable _)
noncomputable def rE (bs:List Bk) (a b:Nat):Bool:= @decide (Dom (stC bs) a b) (Classical.propDecidable _)
noncomputable def rwB (bs:List Bk) (a b:Nat):Bool:= @decide (RW (stC bs) (λx=>x=a) b) (Classical.propDecidable _)
theorem rchB_iff{bs:List Bk}{a:Nat}:cz bs a=true↔Rch (stC bs) a:= @decide_eq_true_iff _ (Classical.propDecidable _)
theorem MI{bs:List Bk}{a b:Nat}:rE bs a b=true↔Dom (stC bs) a b:= @decide_eq_true_iff _ (Classical.propDecidable _)
theorem tu{bs:List Bk}{a b:Nat}:rwB bs a b=true↔RW (stC bs) (λx=>x=a) b:= @decide_eq_true_iff _ (Classical.propDecidable _)
theorem As(bs:List Bk)(a b:Nat):rE bs a b=(cz bs a&&cz bs b&& !rwB bs a b):=by
 rw[Yg];simp only[Wr,Yx,MI,rchB_iff,←Zm,tu];exact⟨λh=>⟨⟨h.1,h.2.1⟩,h.2.2⟩,λh=>⟨h.1.1,h.1.2,h.2⟩⟩
theorem fc{n x:Nat}:sn (List.replicate n false) x=decide (n<=x):=by
 rw[sn,Wv]
 by_cases h:x<n
 ·rw[Xi,Wz h];have:¬n<=x:=by omega
  simp[this]
 ·rw[Xi,WB h];have:n<=x:=by omega
  simp[this]
theorem MH{bs:List Bk}(h:be bs=true){no:Nat->Prop}{b:Nat}:RW (stC bs) (λy=>no y\/bs.length<=y) b↔RW (stC bs) no b:=by
 constructor
 ·exact RW.mono λb h=> .inl h
 ·intro hb
  induction hb with
  |zero hn=>exact .zero λx=>x.elim hn λx=>by have:=cf h;omega
  |step _ e hn ih=>exact .step ih e λx=>x.elim hn λx=>by have:=(Fe h e).2;omega
theorem QH{bs:List Bk}(h:be bs=true){f:Nat}(hf:bs.length<=f){x:Nat}(hx:x<bs.length):sn (dfs (nxC bs) f (List.replicate bs.length false,[]) 0).1 x=cz bs x:=by
 have h0:sn (List.replicate bs.length false) 0=false:=by
  rw[fc];have:=cf h;have e1:¬bs.length<=0:=by omega
  simp only[e1,decide_false]
 obtain⟨l,o,hl⟩:=BR (nx:=nxC bs) [] h0 (f:=f) (by rw[jB];exact hf);rw[Yg,o.seenE x,rchB_iff,hl x,fc]
 have e:(λy=>sn (List.replicate bs.length false) y=true)=λy=>False\/bs.length<=y:=by funext y;rw[fc];simp
 rw[e];have:=MH h (no:=λ_=>False) (b:=x);constructor
 ·rintro(h1|h1)
  ·simp at h1;omega
  ·exact this.1 h1
 ·intro h1;exact .inr (this.2 h1)
theorem Gf{bs:List Bk}(h:be bs=true){a:Nat}(ha:a≠0)(hal:a<bs.length){f:Nat}(hf:bs.length<=f){x:Nat}(hx:x<bs.length)(hxa:x≠a):sn (dfs (nxC bs) f ((List.replicate bs.length false).set a true,[]) 0).1 x=rwB bs a x:=by
 have hs:∀y,sn ((List.replicate bs.length false).set a true) y=(decide (bs.length<=y)||decide (y=a)):=λy=>by rw[kI,fc]
 have h0:sn ((List.replicate bs.length false).set a true) 0=false:=by
  rw[hs];have:=cf h;have e1:¬bs.length<=0:=by omega
  have e2:¬0=a:=λe=>ha e.symm;simp only[e1,e2,decide_false,Bool.or_self]
 have hfl:fls ((List.replicate bs.length false).set a true)<=f:=by
  have:=Av ((List.replicate bs.length false).set a true);rw[Wy,Xs] at this;omega
 obtain⟨l,o,hl⟩:=BR (nx:=nxC bs) [] h0 hfl;rw[Yg,o.seenE x,tu,hl x,hs]
 have e:(λy=>sn ((List.replicate bs.length false).set a true) y=true)=λy=>y=a\/bs.length<=y:=by funext y;rw[hs];simp only[XA,Wx];exact propext or_comm
 rw[e];have:=MH h (no:=λy=>y=a) (b:=x);constructor
 ·rintro(h1|h1)
  ·simp only[XA,Wx] at h1;omega
  ·exact this.1 h1
 ·intro h1;exact .inr (this.2 h1)
theorem Ao(nx:Nat->List Nat):∀(f:Nat),(∀(ns:List Nat) (st:List Bool × List Nat),fls st.1<=f->(cr nx f st ns).2.length+fls (cr nx f st ns).1=st.2.length+fls st.1/\(cr nx f st ns).1.length=st.1.length/\fls (cr nx f st ns).1<=fls st.1)/\
 (∀(b:Nat) (st:List Bool × List Nat),sn st.1 b=false->fls st.1<=f->(dfs nx f st b).2.length+fls (dfs nx f st b).1=st.2.length+fls st.1/\(dfs nx f st b).1.length=st.1.length/\fls (dfs nx f st b).1<=fls st.1):=by
 intro f
 induction f with
 |zero=>
  have hno:∀(seen:List Bool),fls seen<=0->∀x,sn seen x=true:=λseen h x=>by
   by_cases hx:sn seen x=true
   ·exact hx
   ·have:=js (seen:=seen) (b:=x) (by simpa using hx);omega
  refine⟨λns=>?_,λb st hb h=>absurd (hno st.1 h b) (by simp[hb])⟩
  induction ns with
  |nil=>intro st _;exact⟨rfl,rfl,Wo _⟩
  |cons n r ih=>
   intro st h;have e:cr nx 0 st (n::r)=cr nx 0 st r:=(by unfold cr;rw[Yy];simp only[hno st.1 h n,if_true]);rw[e];exact ih st h
 |succ f ih=>
  have hb:∀(b:Nat) (st:List Bool × List Nat),sn st.1 b=false->fls st.1<=f+1->(dfs nx (f+1) st b).2.length+fls (dfs nx (f+1) st b).1=st.2.length+fls st.1/\(dfs nx (f+1) st b).1.length=st.1.length/\fls (dfs nx (f+1) st b).1<=fls st.1:=by
   intro b st hs h;have hset:=js hs;have:=ih.1 (nx b) (st.1.set b true,st.2) (by simp only;omega);rw[pK];simp only[Wn,Xf,Wy] at this⊢;omega
  refine⟨λns=>?_,hb⟩
  induction ns with
  |nil=>intro st _;exact⟨rfl,rfl,Wo _⟩
  |cons n r ihn=>
   intro st h
   by_cases hn:sn st.1 n=true
   ·have e:cr nx (f+1) st (n::r)=cr nx (f+1) st r:=(by unfold cr;rw[Yy];simp only[hn,if_true]);rw[e];exact ihn st h
   ·have hn':sn st.1 n=false:=(by simpa using hn);have e:cr nx (f+1) st (n::r)=cr nx (f+1) (dfs nx (f+1) st n) r:=(by unfold cr;rw[Yy];simp only[hn',Ye,if_false]);rw[e];have h1:=hb n st hn' h;have h2:=ihn (dfs nx (f+1) st n) (by omega);omega
theorem Dx{nx:Nat->List Nat}{f:Nat}{st:List Bool × List Nat}{ns:List Nat}{i:Nat}{m:Nat}(h:ns[i]?=some m):cr nx f st (ns.take (i+1))=if sn (cr nx f st (ns.take i)).1 m then cr nx f st (ns.take i) else dfs nx f (cr nx f st (ns.take i)) m:=by
 obtain⟨hi,rfl⟩:=Wa.1 h;rw[aq hi,cr,Zf];rfl
end
section
def DJ(r:Int)(b:Nat)(x:Bk):List (Int × Int):=(x.phis.filter λf=>decide (f.to=r)).map λ_=>((b:Int),-1)
def OR(r:Int)(b:Nat)(x:Bk):List (Int × Int):=(x.ins.zipIdx.filter λy=>aI y.1.op&&decide (y.1.to=r)).map λy=>((b:Int),(y.2:Int))
def tL(r:Int)(b:Nat)(x:Bk):List (Int × Int):=DJ r b x++OR r b x
def dB(bs:List Bk)(r:Int):List (Int × Int):=bs.zipIdx.flatMap λx=>tL r x.2 x.1
noncomputable def gB (c:Cd) (r b i:Int):Bool:=decide (r<c.params)||match dB c.blocks r with
 |[]=>false
 |p::_=>if p.1=b then decide (p.2<i) else rE c.blocks p.1.toNat b.toNat
def sO(bs:List Bk)(b:Int):Int:=match bs[b.toNat]? with|some x=>x.ins.length|none=>0
noncomputable def nO (c:Cd) (b:Nat) (f:Ph):Bool:=((ab c.blocks b).zip f.args).all λx=>gB c x.2 x.1 (sO c.blocks x.1)
noncomputable def bV (c:Cd) (b:Nat) (x:Bk):Bool:=x.phis.all (nO c b)&&uc (λi (y:Ii)=>y.args.all λr=>gB c r b i) x.ins&&(decide (x.jump=1)||gB c x.on b x.ins.length)
def mP(c:Cd)(r:Nat):Bool:=decide ((dB c.blocks r).length<=1)&&(decide ((c.params:Int)<=r)||decide ((dB c.blocks r).length=0))
noncomputable def dP (c:Cd):Bool:=(List.range c.blocks.length).all (cz c.blocks)&&(List.range c.regs.toNat).all (mP c)&&uc (bV c) c.blocks
noncomputable def mR (u:List Cd):Bool:=unB u&&u.all dP
theorem mem_setsC{bs:List Bk}{r:Int}{p:Int × Int}:p∈dB bs r↔∃(b:Nat) (x:Bk),bs[b]?=some x/\((p=((b:Int),-1)/\∃f∈x.phis,f.to=r)\/∃(i:Nat) (y:Ii),x.ins[i]?=some y/\aI y.op=true/\y.to=r/\p=((b:Int),(i:Int))):=by
 simp only[dB,ZI,tL,Ws,DJ,OR,Ww,WM,Prod.exists,XW,Wx,Wr];constructor
 ·rintro⟨x,b,hx,(⟨f,⟨hf,h1⟩,rfl⟩|⟨y,i,⟨hy,h1,h2⟩,rfl⟩)⟩
  ·exact⟨b,x,hx,.inl ⟨rfl,f,hf,h1⟩⟩
  ·exact⟨b,x,hx,.inr ⟨i,y,hy,h1,h2,rfl⟩⟩
 ·rintro⟨b,x,hx,(⟨rfl,f,hf,h1⟩|⟨i,y,hy,h1,h2,rfl⟩)⟩
  ·exact⟨x,b,hx,.inl ⟨f,⟨hf,h1⟩,rfl⟩⟩
  ·exact⟨x,b,hx,.inr ⟨y,i,⟨hy,h1,h2⟩,rfl⟩⟩
theorem nF{α:Type}{l:List α}(h:l.length<=1){a b:α}(ha:a∈l)(hb:b∈l):a=b:=by
 match l,h with
 |[],_=>cases ha
 |[x],_=>rw[Wt.1 ha,Wt.1 hb]
theorem MB{bs:List Bk}{r:Int}{b:Nat}{x:Bk}(hb:bs[b]?=some x):(tL r b x).length<=(dB bs r).length:=by
 have hm:(x,b)∈bs.zipIdx:=XW.2 hb;obtain⟨u,w,e⟩:=ZA hm;rw[dB,e,List.flatMap_append,Zg,Wn,Wn];have:(tL r (x,b).snd (x,b).fst).length=(tL r b x).length:=rfl;omega
structure CVal (c:Cd):Prop where
 p0:0<=c.params
 p3:c.params<=3
 pr:c.params<=c.regs
 r3:c.regs<=300
 bl:1<=c.blocks.length
 b160:c.blocks.length<=160
 nx:∀(b:Nat) (x:Bk),c.blocks[b]?=some x->∀t∈x.next,1<=t/\t<c.blocks.length
 nc:∀(b:Nat) (x:Bk),c.blocks[b]?=some x->(x.next.length:Int)=nxN x.jump
 jp:∀(b:Nat) (x:Bk),c.blocks[b]?=some x->x.jump=1\/x.jump=2\/x.jump=3
 on:∀(b:Nat) (x:Bk),c.blocks[b]?=some x->x.jump≠1->0<=x.on/\x.on<c.regs
 on0:∀(b:Nat) (x:Bk),c.blocks[b]?=some x->x.jump=1->x.on=0
 pa:∀(b:Nat) (x:Bk),c.blocks[b]?=some x->∀f∈x.phis,f.args.length=(ab c.blocks b).length/\(∀r∈f.args,0<=r/\r<c.regs)/\0<=f.to/\f.to<c.regs
 ia:∀(b:Nat) (x:Bk),c.blocks[b]?=some x->∀y∈x.ins,1<=y.op/\y.op<=14/\(∀r∈y.args,0<=r/\r<c.regs)/\(aI y.op=true->0<=y.to/\y.to<c.regs)/\(y.op=1->V5 y.n)/\(y.op≠14->(y.args.length:Int)=da y.op)/\(aI y.op=false->y.to= -1)
theorem mS{g r:Int}(h:cE g r=true):0<=r/\r<g:=by simp only[cE,inR,Wr,Wx] at h;omega
theorem Sl{u:List Cd}(h:unB u=true){k:Nat}{c:Cd}(hk:u[k]?=some c):CVal c:=by
 simp only[unB,Wr] at h;have hc:=allI_iff.1 h.1.2 k c hk;simp only[cdB,Wr] at hc;obtain⟨⟨⟨h1,h2⟩,h3⟩,h4⟩:=hc;simp only[inR,Wr,Wx] at h1 h2 h3;have hb:∀(b:Nat) (x:Bk),c.blocks[b]?=some x->_:=λb x hx=>allI_iff.1 h4 b x hx;simp only[bkB,Wr,Wx,Wu] at hb
 have hjp:∀(b:Nat) (x:Bk),c.blocks[b]?=some x->x.jump=1\/x.jump=2\/x.jump=3:=λb x hx=>by
  have h5:=(hb b x hx).1.1.1.1;unfold nxN at h5;split at h5
  ·rename_i e;exact .inl e
  split at h5
  ·rename_i e;exact .inr (.inl e)
  split at h5
  ·rename_i e;exact .inr (.inr e)
  ·omega
 refine⟨h1.1,h1.2,h2.1,h2.2,by omega,by omega,λb x hx t ht=>?_,λb x hx=>(hb b x hx).1.1.1.1,hjp,λb x hx hj=>?_,λb x hx hj=>?_,λb x hx f hf=>?_,λb x hx y hy=>?_⟩
 ·have:=(hb b x hx).1.1.2 t ht;simp only[inR,Wr,Wx] at this;omega
 ·have h5:=(hb b x hx).1.1.1.2
  have:onU x.jump=true:=by
   rcases hjp b x hx with e|e|e
   ·exact absurd e hj
   ·rw[e];rfl
   ·rw[e];rfl
  rw[Wz this] at h5;exact mS h5
 ·have h5:=(hb b x hx).1.1.1.2;rw[hj,WB (by decide)] at h5;simpa using h5
 ·have h5:=(hb b x hx).2 f hf;simp only[phB,Wr,Wx,Wu] at h5;exact⟨h5.1.1.2,λr hr=>mS (h5.1.2 r hr),(mS h5.2).1,(mS h5.2).2⟩
 ·have h5:=(hb b x hx).1.2 y hy;simp only[gm,Wr,Wu] at h5;obtain⟨⟨⟨q1,q2⟩,q3⟩,q4⟩:=h5;simp only[inR,Wr,Wx] at q1;refine⟨q1.1,q1.2,λr hr=>mS (q2 r hr),λhs=>?_,λho=>?_,λho=>?_,λhs=>?_⟩
  ·rw[Wz hs] at q3;exact mS q3
  ·rw[WB (by omega),Wz ho] at q4;simp only[inR,Wr,Wx] at q4;exact⟨q4.2.1,q4.2.2⟩
  ·rw[WB ho] at q4;split at q4
   ·rename_i e;simp only[Wr,Wx] at q4;rw[e,q4.1];rfl
   ·simp only[Wr,Wx] at q4;exact q4.2
  ·rw[hs] at q3;simpa using q3
theorem uv{c:Cd}(hs:dP c=true){r:Int}(h0:0<=r)(h1:r<c.regs):(dB c.blocks r).length<=1/\(r<c.params->dB c.blocks r=[]):=by
 simp only[dP,Wr] at hs;have h2:=Wu.1 hs.1.2 r.toNat (Xn.2 (by omega));simp only[mP,Wr,XA,Wx] at h2;have e:((r.toNat:Nat):Int)=r:=by omega
 rw[e] at h2;exact⟨h2.1,λh=>Xr (by rcases h2.2 with h3|h3;omega;exact h3)⟩
theorem Qb{c:Cd}(hv:CVal c)(hs:dP c=true):UniP c:=by
 have hmp:∀(b:Nat) (x:Bk) (f:Ph),c.blocks[b]?=some x->f∈x.phis->((b:Int),(-1:Int))∈dB c.blocks f.to:=λb x f hb hf=>mem_setsC.2 ⟨b,x,hb,.inl ⟨rfl,f,hf,rfl⟩⟩;have hmi:∀(b:Nat) (x:Bk) (y:Ii) (i:Nat),c.blocks[b]?=some x->x.ins[i]?=some y->aI y.op=true->((b:Int),(i:Int))∈dB c.blocks y.to:=λb x y i hb hy hs=>mem_setsC.2 ⟨b,x,hb,.inr ⟨i,y,hy,hs,rfl,rfl⟩⟩;refine⟨λb b' x x' f f' hb hb' hf hf' e=>?_,λb b' x x' f y hb hb' hf hy hs2 e=>?_,λb b' x x' y y' hb hb' hy hy' hs1 hs2 e=>?_,λb x f hb hf=>?_,λb x y hb hy hs2=>?_⟩
 ·have hr:=(hv.pa b x hb f hf).2.2;have h1:=(uv hs hr.1 hr.2).1;have m1:=hmp b x f hb hf;have m2:=hmp b' x' f' hb' hf';rw[←e] at m2;have e2:=nF h1 m1 m2;simp only[Xc,and_true] at e2;have hbb:b=b':=by omega
  subst hbb;rw[hb] at hb';cases hb';refine⟨rfl,?_⟩;have h3:=MB (r:=f.to) hb
  have h4:(x.phis.filter λg=>decide (g.to=f.to)).length<=1:=by
   have:(DJ f.to b x).length<=(tL f.to b x).length:=(by simp[tL]);have h5:(DJ f.to b x).length=(x.phis.filter λg=>decide (g.to=f.to)).length:=(by simp[DJ]);omega
  exact nF h4 (WM.2 ⟨hf,by simp⟩) (WM.2 ⟨hf',by simp[e]⟩)
 ·have hr:=(hv.pa b x hb f hf).2.2;have h1:=(uv hs hr.1 hr.2).1;obtain⟨i,hi,hiy⟩:=YB hy;have m1:=hmp b x f hb hf;have m2:=hmi b' x' y i hb' (by rw[Wc hi,hiy]) hs2;rw[←e] at m2;have e2:=nF h1 m1 m2;simp only[Xc] at e2;omega
 ·have hr:=(hv.ia b x hb y hy).2.2.2.1 hs1;have h1:=(uv hs hr.1 hr.2).1;obtain⟨i,hi,hiy⟩:=YB hy;obtain⟨i',hi',hiy'⟩:=YB hy';have m1:=hmi b x y i hb (by rw[Wc hi,hiy]) hs1;have m2:=hmi b' x' y' i' hb' (by rw[Wc hi',hiy']) hs2;rw[←e] at m2;have e2:=nF h1 m1 m2;simp only[Xc] at e2;have hbb:b=b':=by omega
  have hii:i=i':=by omega
  subst hbb;subst hii;rw[hb] at hb';cases hb';rw[←hiy,←hiy']
 ·have hr:=(hv.pa b x hb f hf).2.2;refine⟨Int.not_lt.1 λh=>?_,hr.2⟩;have h2:=(uv hs hr.1 hr.2).2 h;have m1:=hmp b x f hb hf;rw[h2] at m1;cases m1
 ·have hr:=(hv.ia b x hb y hy).2.2.2.1 hs2;refine⟨Int.not_lt.1 λh=>?_,hr.2⟩;have h2:=(uv hs hr.1 hr.2).2 h;obtain⟨i,hi,hiy⟩:=YB hy;have m1:=hmi b x y i hb (by rw[Wc hi,hiy]) hs2;rw[h2] at m1;cases m1
theorem Kv{c:Cd}(hv:CVal c)(hs:dP c=true):KFit c:=by
 refine⟨Qb hv hs,hv.p0,hv.pr,hv.r3,hv.nx,λb x hb hj=>?_,λb x hb hj=>?_,hv.bl⟩
 ·have:=hv.nc b x hb;rw[hj,show nxN 1=1 from rfl] at this;omega
 ·have:=hv.nc b x hb;rw[hj,show nxN 2=2 from rfl] at this;omega
def putI(R:List Int)(y:Ii):Ii:=if aI y.op=true/\0<=rg R y.to then⟨1,y.to,[],rg R y.to⟩ else y
def isJ(R:List Int)(x:Bk):Bool:=decide (x.jump=2)&&decide (0<=rg R x.on)
def bE(R:List Int)(x:Bk):Bk:=if isJ R x=true then{x with jump:=1,on:=0,next:=[if rg R x.on=0 then x.next.getLastD 0 else x.next.headD 0]} else x
def aB(R:List Int)(l:List Ph):List Ii:=(l.filter λf=>decide (0<=rg R f.to)).map λf=>⟨1,f.to,[],rg R f.to⟩
def aM(R:List Int)(l:List Ph):List Ph:=l.filter λf=> !decide (0<=rg R f.to)
def nE(preds:List Int)(f:Ph)(p:Int):Int:=(f.args[(preds.findIdx? λq=>decide (q=p)).getD 0]?).getD 0
def bD(olds news:List Int)(f:Ph):Ph:=⟨f.to,news.map (nE olds f)⟩
def Dd(R:List Int)(bs:List Bk)(b:Nat)(x:Bk):Bk:=
 {bE R x with phis:=(aM R x.phis).map (bD (ab bs b) (ab (bs.map (bE R)) b)),ins:=aB R x.phis++x.ins.map (putI R)}
def iw(R:List Int)(c:Cd):Cd:=⟨c.params,c.regs,c.blocks.mapIdx (Dd R c.blocks)⟩
def plI(rl:List Nat)(n:Int):Int:=if n.toNat∈rl then(rl.idxOf n.toNat:Int) else-1
def mj(bs:List Bk)(b:Nat):Bk:=(bs[b]?).getD bk0
def aH(bs:List Bk)(rl:List Nat):List Bk:=rl.map λb=>{mj bs b with next:=(mj bs b).next.map (plI rl)}
def ff(bs:List Bk)(rl:List Nat):List Bk:=(aH bs rl).mapIdx λi x=>
 {x with phis:=x.phis.map λf=>⟨f.to,(ab (aH bs rl) i).map λj=>nE (ab bs ((rl[i]?).getD 0:Nat)) f ((rl[j.toNat]?).getD 0:Nat)⟩}
def jh(c:Cd)(rl:List Nat):Cd:=⟨c.params,c.regs,ff c.blocks rl⟩
noncomputable def oA (bs:List Bk):List Nat:=(List.range bs.length).filter (cz bs)
noncomputable def mh (c:Cd):Cd:=jh (iw (KF c).regs c) (oA (iw (KF c).regs c).blocks)
noncomputable def bH (u:List Cd):List Cd:=u.map mh
noncomputable def fq (u:List Cd):List Cd × Bool:=if mR u=true/\unB (bH u)=true then(bH u,true) else([],false)
end
section
def SmX(b:Bk):Prop:=b.phis.length<=1000/\b.ins.length<=1000/\b.next.length<=2/\(∀x∈b.ins,x.args.length<=1000)/\∀x∈b.phis,x.args.length<=1000
def SmY(c:Cd):Prop:=c.params<=3/\1<=c.blocks.length/\c.blocks.length<=160/\∀b∈c.blocks,SmX b
variable (G:aw)
theorem pu(x:Bk)(hx:SmX x):AC Tryz.prog G cM [.agg (x.cs.map .p)] [] (OwW .agg x.cs):=by
 have hxs:=x.cs_eq2;refine AC.goK sE ti ?_;have hpl:phL x.phis= .lst 2 (x.phis.map Ph.cs):=rfl;have hil:inL x.ins= .lst 4 (x.ins.map Ii.cs):=rfl;have hnl:ah x.next= .lst 1 (x.next.map λn=>[.int .i64 n]):=rfl;simp[eX,eU,hxs,hpl,hil,hnl];refine dc (λa:CbS=>aj 74 [(3,.ptr 6 5 0 0),(2,.ptr 1 5 0 0),(1,.ptr 0 5 0 0)]) (λa=>a.W) (λa=>CbI x a.W [] []) ?_ ?_
 ·simp[];have hb1:x.next.length*8<=140737488355328:=by have:=hx.2.2.1;omega
  have hb2:x.next.length<=140737488355328:=by have:=hx.2.2.1;omega
  repeat' apply And.intro
  all_goals first
   |exact hb1
   |exact hb2
   |(refine⟨⟨0,_⟩,?_,aa (We _) ?_⟩
     rotate_left 1
     ·simp[below]
     ·exact⟨rfl,rfl,_,_,_,_,rfl,TD rfl rfl rfl (by decide) (by decide) (by decide) (by decide) (by decide) (by decide) rfl,by decide⟩)
 ·rintro⟨_,W⟩ hI;simp only at hI⊢;refine dc (λa:CbS=>aj 74 [(3,.ptr 6 5 0 0),(2,.ptr 1 5 0 0),(1,.ptr 0 5 0 0)]) (λa=>a.W) (λa=>CbI x a.W x.phis []) ?_ ?_
  ·simp[];refine am (λa:CbS=>aj 74 [(4,.p (.int .i64 a.i)),(3,.ptr 6 5 0 0),(2,.ptr 1 5 0 0),(1,.ptr 0 5 0 0)]) (λa=>a.W) (λa=>a.i<=x.phis.length/\CbI x a.W (x.phis.take a.i) []) (λa=>x.phis.length-a.i) ⟨0,W⟩ ⟨We _,by rw[Yc];exact hI⟩ (aa (We _) (by obtain⟨_,h7,_⟩:=hI.getP;simp[below];omega)) ?_;clear hI W;rintro⟨i,W⟩ ⟨hi,hI⟩;simp only at hi hI⊢;obtain⟨hw0,h7,P,N,Z,hw6,⟨p1,p2⟩,⟨n1,n2⟩,⟨z1,z2⟩,hPc,hpush⟩:=hI.getP;have hw0':W[0]?=some (.row 5 [[.p (.lst 2 (x.phis.map Ph.cs)),.p (.lst 4 (x.ins.map Ii.cs)),.p (.int .i64 x.jump),.p (.int .i64 x.on),.p (.lst 1 (x.next.map λn=>[.int .i64 n]))]]):=hw0;simp[hw0'];refine aA (λhc=>?_) (λhc=>?_)
   ·have hc:i<x.phis.length:=(by simpa using hc);have hg:=Wc hc;have htk:x.phis.take (i+1)=x.phis.take i++[x.phis[i]]:=aq hc;have hya:=hx.2.2.2.2 _ (Wm hc);have hxp:=hx.1;generalize x.phis[i]=y at hg htk hya;have hyc:=y.cs_eq2;have hyn:ah y.args= .lst 1 (y.args.map λn=>[.int .i64 n]):=rfl;have hwi:=w1 (i:=i) (by have:=hx.1;omega);have hyr:List.map (λn=>[AV.p (.int .i64 n)]) y.args=List.map ((λx=>List.map AV.p x)∘λn=>[PV.int IntKind.i64 n]) y.args:=rfl;have m6:∀t,(W++t)[6]?=some (.row 5 [[P,N,.p (.int .i64 x.jump),.p (.int .i64 x.on),Z]]):=λt=>(by rw[Wb (by omega)];exact hw6);have m0:∀t,(W++t)[0]?=some (.row 5 [[.p (.lst 2 (x.phis.map Ph.cs)),.p (.lst 4 (x.ins.map Ii.cs)),.p (.int .i64 x.jump),.p (.int .i64 x.on),.p (.lst 1 (x.next.map λn=>[.int .i64 n]))]]):=λt=>(by rw[Wb (by omega)];exact hw0');have m0e:=λt hh=>ag (m0 t) hh;have m6e:=λt hh=>ag (m6 t) hh;rcases hPc with⟨rfl,h0⟩|⟨f,rows,rfl,hg2,hrl,hf2,hf6⟩
    ·simp[-AV.cells,-AV.isCell,kR,az,iv,aO,cI,p2,hw0',hw6,m6,m0e,hg,hyc,hyn];have hA:Own W.length (W++[AO.dead,.row 1 (y.args.map λn=>[AV.p (.int .i64 n)]),.row 2 [[.p (.int .i64 y.to),.sl (W.length+1) 1 0 y.args.length]]]) [.sl (W.length+1) 1 0 y.args.length] [ah y.args] [W.length+1]:=aX (by rw[Wg (by omega),WP];rfl) (by omega) rfl;have hC:=hpush _ _ y _ (W++[AO.dead,.row 1 (y.args.map λn=>[AV.p (.int .i64 n)]),.row 2 [[.p (.int .i64 y.to),.sl (W.length+1) 1 0 y.args.length]],.row 2 [[.p (.int .i64 y.to),.sl (W.length+1) 1 0 y.args.length]]]) _ hA (.inl ⟨rfl,by simp,rfl⟩);rw[←htk] at hC;have hl3:(W++[AO.dead,.row 1 (y.args.map λn=>[AV.p (.int .i64 n)]),.row 2 [[.p (.int .i64 y.to),.sl (W.length+1) 1 0 y.args.length]]]).length=W.length+3:=(by simp);rw[hl3] at hC;exact⟨⟨by omega,by omega⟩,⟨i+1,_⟩,⟨hc,hC⟩,by simp only;omega,aa (We _) (by simp[below,hwi];try omega)⟩
    ·have m7:∀t,(W++t)[f]?=some (.row 2 rows):=λt=>(by rw[Wb (Wa.1 hg2).1];exact hg2);have m8:∀t t',((W++t).set f .dead++t')[6]?=some (.row 5 [[.sl f 2 0 (List.take i x.phis).length,N,.p (.int .i64 x.jump),.p (.int .i64 x.on),Z]]):=λt t'=>(by rw[Wb (by simp;omega),Wd hf6];exact m6 t);have m7e:=λt hh=>ag (m7 t) hh;have m8e:=λt t' hh=>ag (m8 t t') hh;have htk2:List.take (List.take i x.phis).length rows=rows:=Wi (by omega);have hli:(List.take i x.phis).length=i:=(by simp;omega);have hA:Own W.length (W++[AO.dead,.row 1 (y.args.map λn=>[AV.p (.int .i64 n)]),.row 2 [[.p (.int .i64 y.to),.sl (W.length+1) 1 0 y.args.length]]]) [.sl (W.length+1) 1 0 y.args.length] [ah y.args] [W.length+1]:=aX (by rw[Wg (by omega),WP];rfl) (by omega) rfl;have hC:=hpush _ _ y _ ((W++[AO.dead,.row 1 (y.args.map λn=>[AV.p (.int .i64 n)]),.row 2 [[.p (.int .i64 y.to),.sl (W.length+1) 1 0 y.args.length]]]).set f .dead++[.row 2 (rows++[[.p (.int .i64 y.to),.sl (W.length+1) 1 0 y.args.length]])]) _ hA (.inr ⟨f,rows,_,rfl,m7 _,hrl,rfl,rfl⟩);rw[←htk] at hC;have hl3:(W++[AO.dead,.row 1 (y.args.map λn=>[AV.p (.int .i64 n)]),.row 2 [[.p (.int .i64 y.to),.sl (W.length+1) 1 0 y.args.length]]]).length=W.length+3:=(by simp);rw[hl3,hli] at hC;rw[hli] at m6 m8 m6e m8e hw6 htk2;simp[-AV.cells,-AV.isCell,kR,az,iv,aO,cI,hw0',hw6,m6,m0e,hg,hyc,hyn,m7,m8];rw[htk2];exact⟨⟨by omega,by omega⟩,⟨by omega,by omega,by omega⟩,⟨i+1,_⟩,⟨hc,hC⟩,by simp only;omega,aa (We _) (by simp[below,hwi];try omega)⟩
   ·have hc:x.phis.length<=i:=(by simpa using hc);rw[Wi hc] at hI;refine⟨⟨0,W⟩,hI,aa (We _) ?_⟩;simp[below];omega
  ·rintro⟨_,W⟩ hI;simp only at hI⊢;simp[];refine am (λa:CbS=>aj 74 [(5,.p (.int .i64 a.i)),(3,.ptr 6 5 0 0),(2,.ptr 1 5 0 0),(1,.ptr 0 5 0 0)]) (λa=>a.W) (λa=>a.i<=x.ins.length/\CbI x a.W x.phis (x.ins.take a.i)) (λa=>x.ins.length-a.i) ⟨0,W⟩ ⟨We _,by rw[Yc];exact hI⟩ (aa (We _) (by obtain⟨_,h7,_⟩:=hI.getP;simp[below];omega)) ?_;clear hI W;rintro⟨i,W⟩ ⟨hi,hI⟩;simp only at hi hI⊢;obtain⟨hw0,h7,P,N,Z,hw6,⟨p1,p2⟩,⟨n1,n2⟩,⟨z1,z2⟩,hNc,hpush⟩:=hI.getN;have hw1:=hI.2.1;have hw0':W[0]?=some (.row 5 [[.p (.lst 2 (x.phis.map Ph.cs)),.p (.lst 4 (x.ins.map Ii.cs)),.p (.int .i64 x.jump),.p (.int .i64 x.on),.p (.lst 1 (x.next.map λn=>[.int .i64 n]))]]):=hw0;simp[hw0'];refine aA (λhc=>?_) (λhc=>?_)
   ·have hc:i<x.ins.length:=(by simpa using hc);have hg:=Wc hc;have htk:x.ins.take (i+1)=x.ins.take i++[x.ins[i]]:=aq hc;have hya:=hx.2.2.2.1 _ (Wm hc);have hxp:=hx.2.1;generalize x.ins[i]=y at hg htk hya;have hyc:=y.cs_eq2;have hyn:ah y.args= .lst 1 (y.args.map λn=>[.int .i64 n]):=rfl;have hwi:=w1 (i:=i) (by have:=hx.2.1;omega);have m6:∀t,(W++t)[6]?=some (.row 5 [[P,N,.p (.int .i64 x.jump),.p (.int .i64 x.on),Z]]):=λt=>(by rw[Wb (by omega)];exact hw6);have m0:∀t,(W++t)[0]?=some (.row 5 [[.p (.lst 2 (x.phis.map Ph.cs)),.p (.lst 4 (x.ins.map Ii.cs)),.p (.int .i64 x.jump),.p (.int .i64 x.on),.p (.lst 1 (x.next.map λn=>[.int .i64 n]))]]):=λt=>(by rw[Wb (by omega)];exact hw0');have m0e:=λt hh=>ag (m0 t) hh;have m6e:=λt hh=>ag (m6 t) hh;rcases hNc with⟨rfl,h0⟩|⟨f,rows,rfl,hg2,hrl,hf2,hf6⟩
    ·simp[-AV.cells,-AV.isCell,kR,az,iv,aO,cI,n2,hw0',m6,hg,hyc,hyn];have hA:Own W.length (W++[AO.row 4 [[.p (.int .i64 y.op),.p (.int .i64 y.to),.p (.lst 1 (y.args.map λn=>[.int .i64 n])),.p (.int .i64 y.n)]],AO.dead,.row 1 (y.args.map λn=>[AV.p (.int .i64 n)]),.row 4 [[.p (.int .i64 y.op),.p (.int .i64 y.to),.sl (W.length+2) 1 0 y.args.length,.p (.int .i64 y.n)]]]) [.sl (W.length+2) 1 0 y.args.length] [ah y.args] [W.length+2]:=aX (by rw[Wg (by omega),WP];rfl) (by omega) rfl;have hC:=hpush _ _ y _ (W++[AO.row 4 [[.p (.int .i64 y.op),.p (.int .i64 y.to),.p (.lst 1 (y.args.map λn=>[.int .i64 n])),.p (.int .i64 y.n)]],AO.dead,.row 1 (y.args.map λn=>[AV.p (.int .i64 n)]),.row 4 [[.p (.int .i64 y.op),.p (.int .i64 y.to),.sl (W.length+2) 1 0 y.args.length,.p (.int .i64 y.n)]],.row 4 [[.p (.int .i64 y.op),.p (.int .i64 y.to),.sl (W.length+2) 1 0 y.args.length,.p (.int .i64 y.n)]]]) _ hA (.inl ⟨rfl,by simp,rfl⟩);rw[←htk] at hC;have hl3:(W++[AO.row 4 [[.p (.int .i64 y.op),.p (.int .i64 y.to),.p (.lst 1 (y.args.map λn=>[.int .i64 n])),.p (.int .i64 y.n)]],AO.dead,.row 1 (y.args.map λn=>[AV.p (.int .i64 n)]),.row 4 [[.p (.int .i64 y.op),.p (.int .i64 y.to),.sl (W.length+2) 1 0 y.args.length,.p (.int .i64 y.n)]]]).length=W.length+4:=(by simp);rw[hl3] at hC;exact⟨⟨by omega,by omega⟩,⟨i+1,_⟩,⟨hc,hC⟩,by simp only;omega,aa (We _) (by simp[below,hwi];try omega)⟩
    ·have m7:∀t,(W++t)[f]?=some (.row 4 rows):=λt=>(by rw[Wb (Wa.1 hg2).1];exact hg2);have m8:∀t t',((W++t).set f .dead++t')[6]?=some (.row 5 [[P,.sl f 4 0 (List.take i x.ins).length,.p (.int .i64 x.jump),.p (.int .i64 x.on),Z]]):=λt t'=>(by rw[Wb (by simp;omega),Wd hf6];exact m6 t);have m7e:=λt hh=>ag (m7 t) hh;have m8e:=λt t' hh=>ag (m8 t t') hh;have htk2:List.take (List.take i x.ins).length rows=rows:=Wi (by omega);have hli:(List.take i x.ins).length=i:=(by simp;omega);have hA:Own W.length (W++[AO.row 4 [[.p (.int .i64 y.op),.p (.int .i64 y.to),.p (.lst 1 (y.args.map λn=>[.int .i64 n])),.p (.int .i64 y.n)]],AO.dead,.row 1 (y.args.map λn=>[AV.p (.int .i64 n)]),.row 4 [[.p (.int .i64 y.op),.p (.int .i64 y.to),.sl (W.length+2) 1 0 y.args.length,.p (.int .i64 y.n)]]]) [.sl (W.length+2) 1 0 y.args.length] [ah y.args] [W.length+2]:=aX (by rw[Wg (by omega),WP];rfl) (by omega) rfl;have hC:=hpush _ _ y _ ((W++[AO.row 4 [[.p (.int .i64 y.op),.p (.int .i64 y.to),.p (.lst 1 (y.args.map λn=>[.int .i64 n])),.p (.int .i64 y.n)]],AO.dead,.row 1 (y.args.map λn=>[AV.p (.int .i64 n)]),.row 4 [[.p (.int .i64 y.op),.p (.int .i64 y.to),.sl (W.length+2) 1 0 y.args.length,.p (.int .i64 y.n)]]]).set f .dead++[.row 4 (rows++[[.p (.int .i64 y.op),.p (.int .i64 y.to),.sl (W.length+2) 1 0 y.args.length,.p (.int .i64 y.n)]])]) _ hA (.inr ⟨f,rows,_,rfl,m7 _,hrl,rfl,rfl⟩);rw[←htk] at hC;have hl3:(W++[AO.row 4 [[.p (.int .i64 y.op),.p (.int .i64 y.to),.p (.lst 1 (y.args.map λn=>[.int .i64 n])),.p (.int .i64 y.n)]],AO.dead,.row 1 (y.args.map λn=>[AV.p (.int .i64 n)]),.row 4 [[.p (.int .i64 y.op),.p (.int .i64 y.to),.sl (W.length+2) 1 0 y.args.length,.p (.int .i64 y.n)]]]).length=W.length+4:=(by simp);rw[hl3,hli] at hC;rw[hli] at m6 m8 m6e m8e hw6 htk2;simp[-AV.cells,-AV.isCell,kR,az,iv,aO,cI,hw0',m6,hg,hyc,hyn,m7,m8];rw[htk2];exact⟨⟨by omega,by omega⟩,⟨by omega,by omega,by omega⟩,⟨i+1,_⟩,⟨hc,hC⟩,by simp only;omega,aa (We _) (by simp[below,hwi];try omega)⟩
   ·have hc:x.ins.length<=i:=(by simpa using hc);have hs1:∀o,(W.set 1 o)[1]?=some o:=λo=>Wh (by omega);rw[Wi hc] at hI;simp[-AV.cells,-AV.isCell,az,aO,p2,n2,z2,hw6,hw1,hs1];obtain⟨_,_,P2,N2,Z2,IP,IN,IZ,h2,hP,hN,hZ,d1,d2,_,_,_⟩:=hI.tri;rw[hw6] at h2;cases h2;have hfr:∀{vs:List AV} {qs:List PV} {J:List Nat},Own 2 W vs qs J->Own 0 (W.set 1 (.row 5 [[P,N,.p (.int .i64 x.jump),.p (.int .i64 x.on),Z]])) vs qs J:=λh=>(h.frame λj hj=>Wd λe=>by have:=h.ge j hj;omega).low λj hj=>We _;exact⟨_,_,rfl,gX (hfr hP) (hfr hN) (hfr hZ) d1 d2⟩
theorem Mf(c:Cd)(hc:SmY c):AC Tryz.prog G lX [.agg (c.cs.map .p)] [] (OwW .agg c.cs):=by
 have hcs:=c.cs_eq2;have hbl:bkL c.blocks= .lst 5 (c.blocks.map Bk.cs):=rfl;refine AC.go Cy ?_;simp[rP,hcs,hbl]
 refine am (λa:CpS=>aj 29 [(4,.p (.int .i64 a.i)),(3,.ptr 2 3 0 0),(2,.ptr 1 3 0 0),(1,.ptr 0 3 0 0)]) (λa=>a.W)
  (λa=>a.i<=c.blocks.length/\a.W[0]?=some (.row 3 [[.p (.int .i64 c.params),.p (.int .i64 c.regs),.p (.lst 5 (c.blocks.map Bk.cs))]])/\a.W[1]?=some (.row 3 [[.p (.int .i64 0),.p (.int .i64 0),.nils]])/\∃V I,a.W[2]?=some (.row 3 [[.p (.int .i64 c.params),.p (.int .i64 c.regs),V]])/\Own 3 a.W [V] [bkL (c.blocks.take a.i)] I) (λa=>c.blocks.length-a.i) ⟨0,_⟩ ⟨We _,rfl,rfl,_,_,rfl,Own.nil _ _ 5⟩ (aa (We _) (by simp[below])) ?_
 rintro⟨i,W⟩ ⟨hi,hw0,hw1,V,I,hw2,hV⟩;simp only at hi hw0 hw1 hw2 hV⊢;have h3:=(Wa.1 hw2).1;obtain⟨v1,v2⟩:=hV.cell;simp[hw0];refine aA (λhcc=>?_) (λhcc=>?_)
 ·have hcc:i<c.blocks.length:=by simpa using hcc
  have hg:=Wc hcc;have htk:c.blocks.take (i+1)=c.blocks.take i++[c.blocks[i]]:=aq hcc;have hsx:=hc.2.2.2 _ (Wm hcc);have hb7:=hc.2.2.1;generalize c.blocks[i]=x at hg htk hsx;have hxs:=x.cs_eq2;have hwi:=w1 (i:=i) (by omega);have hcall:=AC.ownLift G bC (pu G x hsx) (h:=W) (by simp);rw[hxs] at hcall;simp[-AV.cells,-AV.isCell,aO,v2,hw0,hw2,hg,hxs];refine hcall.mono ?_;rintro r h ⟨vs,IA,os,rfl,rfl,hO⟩;rw[←hxs] at hO;obtain⟨P,N,X,IP,IN,IX,rfl,rfl,hP,hN,hX⟩:=eF hO;obtain⟨p1,p2⟩:=hP.cell;obtain⟨n1,n2⟩:=hN.cell;obtain⟨x1,x2⟩:=hX.cell;obtain⟨W2,hW2⟩:∃W2,W2=W++os:=⟨_,rfl⟩;have m2:∀t,(W2++t)[2]?=some (.row 3 [[.p (.int .i64 c.params),.p (.int .i64 c.regs),V]]):=λt=>by rw[hW2,Wp,Wb h3];exact hw2
  have m20:=m2 [];rw[WI] at m20;have m2e:=λt hh=>ag (m2 t) hh;have hW2l:W.length<=W2.length:=by rw[hW2];simp
  obtain⟨R,hR⟩:∃R,R=[P,N,AV.p (.int .i64 x.jump),.p (.int .i64 x.on),X]:=⟨_,rfl⟩;have hOR:Own W.length (W++(os++[.row 5 [R]])) R x.cs (IP++(IN++IX)):=by rw[hR,←Wp];exact hO.more _
  have hbt:bkL (c.blocks.take (i+1))= .lst 5 ((c.blocks.take i).map Bk.cs++[x.cs]):=by rw[htk,bkL,WF];rfl
  have hli:((c.blocks.take i).map Bk.cs).length=i:=by simp;omega
  have hWe:W++(os++[.row 5 [R]])=W2++[.row 5 [R]]:=by rw[hW2,Wp]
  rw[←hW2];rcases hV.rowAt with⟨rfl,h0⟩|⟨f,rows,hVf,hg2,hrl,hf3⟩
  ·obtain⟨IV',q1,q2,q3,q4⟩:=hV.growL (k:=2) (o2:= .row 3 [[.p (.int .i64 c.params),.p (.int .i64 c.regs),.sl (W2.length+1) 5 0 1]]) hOR rfl (W3:=W2++[.row 5 [R],.row 5 [R]]) (.inl ⟨rfl,by rw[hWe];simp,rfl⟩) h3;have hl3:(W2++[AO.row 5 [R]]).length=W2.length+1:=by simp
   rw[hWe,hl3,←hbt] at q1;simp[-AV.cells,-AV.isCell,az,iv,aO,eG,cI,p2,n2,x2,m2,m20];rw[←hR];exact⟨⟨i+1,_⟩,⟨hcc,by simp only;rw[q4 0 (by omega)];exact hw0,by simp only;rw[q4 1 (by omega)];exact hw1,_,q3,_,q1⟩,by simp only;omega,aa (We _) (by simp[below,hwi]<;>omega)⟩
  ·rw[hli] at hVf hrl;subst hVf;have m7:∀t,(W2++t)[f]?=some (.row 5 rows):=λt=>by rw[hW2,Wp,Wb (Wa.1 hg2).1];exact hg2
   have m8:∀t t',((W2++t).set f .dead++t')[2]?=some (.row 3 [[.p (.int .i64 c.params),.p (.int .i64 c.regs),.sl f 5 0 i]]):=λt t'=>(by rw[Wb (by simp;omega),Wd (by omega)];exact m2 t);have m7e:=λt hh=>ag (m7 t) hh;have m8e:=λt t' hh=>ag (m8 t t') hh;have htk2:List.take i rows=rows:=Wi (by omega);obtain⟨IV',q1,q2,q3,q4⟩:=hV.growL (k:=2) (o2:= .row 3 [[.p (.int .i64 c.params),.p (.int .i64 c.regs),.sl (W2.length+1) 5 0 (i+1)]]) hOR rfl (W3:=(W2++[AO.row 5 [R]]).set f .dead++[.row 5 (rows++[R])]) (.inr ⟨f,rows,_,rfl,by rw[hWe];exact m7 _,hrl,by rw[hWe],rfl⟩) h3;have hl3:(W2++[AO.row 5 [R]]).length=W2.length+1:=(by simp);rw[hWe,hl3,←hbt] at q1;simp[-AV.cells,-AV.isCell,az,iv,aO,cI,p2,n2,x2,m2,m20,m7,m8,htk2];rw[←hR];exact⟨⟨by omega,by omega,by omega⟩,⟨i+1,_⟩,⟨hcc,by simp only;rw[q4 0 (by omega)];exact hw0,by simp only;rw[q4 1 (by omega)];exact hw1,_,q3,_,q1⟩,by simp only;omega,aa (We _) (by simp[below,hwi]<;>omega)⟩
 ·have hcc:c.blocks.length<=i:=by simpa using hcc
  rw[Wi hcc] at hV;have hs1:∀o,(W.set 1 o)[1]?=some o:=λo=>Wh (by omega);simp[-AV.cells,-AV.isCell,az,aO,v2,hw1,hw2,hs1];exact⟨_,I,rfl,nB (c:=c) ((hV.frame λj hj=>Wd λe=>by have:=hV.ge j hj;omega).low λj _=>We _)⟩
end
section
structure KV (c:Cd) (S:KS):Prop where
 j:KJ c S
 vk:∀r,VK (rg S.regs r)
 ol:S.opn.length=c.blocks.length
 ow:∀p∈S.W,S.opn[p.2.toNat]?=some true
theorem VK.idle:VK (-2):= .inl rfl
theorem VK.not:VK (-1):= .inr (.inl rfl)
theorem DF{l:List Int}(h:∀r,VK (rg l r))(i:Nat){n:Int}(hn:VK n):∀r,VK (rg (l.set i n) r):=λr=>by
 unfold rg;rw[Xu];split
 ·split
  ·exact hn
  ·exact .idle
 ·exact h r
theorem JO{S:KS}(h:∀r,VK (rg S.regs r))(b:Int):∀(l:List (Int × Int)) (a:Int),VK a->VK (mW S b l a)
 |[],_,ha=>ha
 |(p,r)::l,a,ha=>by
  rw[mW];refine JO h b l _ ?_;split
  ·exact Ox ha (h r)
  ·exact ha
theorem RD{op a b:Int}(ha:V5 a)(hb:V5 b):VK (doK op a b):=by
 unfold doK;split
 ·exact(Hs _).vk
 ·cases h:sX op a b with
  |none=>exact .not
  |some n=>exact(Qs ha hb h).vk
theorem V5.zero:V5 0:=by unfold V5;omega
theorem Px{l:List Int}(h:∀r,VK (rg l r)){x:Ii}(hn:x.op=1->V5 x.n):VK (fp l x):=by
 unfold fp;split
 ·exact(hn (by assumption)).vk
 split
 ·exact h _
 split
 ·exact .not
 split
 ·exact .not
 rename_i h1;split
 ·exact .idle
 rename_i h2
 have hv:∀v∈x.args.map (rg l),V5 v:=λv hv=>by
  obtain⟨r,hr,rfl⟩:=Ww.1 hv;exact(h r).v5 (λe=>h1 (e▸hv)) λe=>h2 (e▸hv)
 refine RD ?_ ?_
 ·cases hl:x.args.map (rg l) with
  |nil=>exact .zero
  |cons a t=>exact hv a (by rw[hl];simp)
 ·cases hl:x.args.map (rg l) with
  |nil=>exact .zero
  |cons a t=>
   have:=mL (l:=x.args.map (rg l)) (by rw[hl];simp);rw[hl] at this;exact hv _ (by rw[hl];exact this)
section
variable {c:Cd} {S:KS}
theorem KV.phi(hk:KFit c)(h:KV c S){b:Nat}{x:Bk}{f:Ph}(hb:c.blocks[b]?=some x)(hf:f∈x.phis):KV c (jF S c.blocks b f):=
 ⟨(h.j.phi hk.uni hk.p0 hb hf).1,DF h.vk _ (JO h.vk _ _ _ .idle),h.ol,h.ow⟩
theorem KV.ins(hk:KFit c)(hv:CVal c)(h:KV c S){b:Nat}{x:Bk}{y:Ii}(hb:c.blocks[b]?=some x)(hy:y∈x.ins):KV c (cQ S y):=by
 refine⟨(h.j.insS hk.uni hk.p0 hb hy).1,?_,?_,?_⟩
 ·unfold cQ;split
  ·exact DF h.vk _ (Px h.vk (hv.ia b x hb y hy).2.2.2.2.1)
  ·exact h.vk
 ·unfold cQ;split;exact h.ol;exact h.ol
 ·unfold cQ;split;exact h.ow;exact h.ow
theorem KS.way_regs(S:KS)(b t:Int):(S.way b t).regs=S.regs:=by unfold KS.way;split<;>rfl
theorem KV.way(h:KV c S){b t:Int}(hb:0<=b/\b<c.blocks.length)(ht:0<=t/\t<c.blocks.length):KV c (S.way b t)/\(S.way b t).opn=S.opn.set t.toNat true:=by
 have h1:=(h.j.way hb ht).1
 by_cases hm:(b,t)∈S.W
 ·have e:S.way b t=S:=by rw[KS.way,Wz hm]
  have ho:=h.ow _ hm;refine⟨by rw[e];exact h,?_⟩;rw[e];obtain⟨h2,h3⟩:=Wa.1 ho;exact(by rw[←h3];exact(Xl h2).symm)
 ·have e:S.way b t={S with W:=S.W++[(b,t)],opn:=S.opn.set t.toNat true}:=by rw[KS.way,WB hm]
  rw[e] at h1⊢;refine⟨⟨h1,h.vk,by simp[h.ol],λp hp=>?_⟩,rfl⟩;have hl:t.toNat<S.opn.length:=by rw[h.ol];omega
  rcases Ws.1 hp with hp|hp
  ·show(S.opn.set t.toNat true)[p.2.toNat]?=some true;rw[Xu];split
   ·simp[]
   ·exact h.ow p hp
  ·rw[Wt.1 hp];show(S.opn.set t.toNat true)[t.toNat]?=some true;rw[Wh hl]
theorem KV.jmp(hk:KFit c)(h:KV c S){b:Nat}{x:Bk}(hb:c.blocks[b]?=some x):KV c (mC S b x):=by
 have hbl:(0:Int)<=b/\(b:Int)<c.blocks.length:=by have:=(Wa.1 hb).1;omega
 unfold mC;split
 ·rename_i hj;exact(h.way hbl (hk.tgt hb (.inl hj)).1).1
 split
 ·rename_i hj;obtain⟨t1,t2⟩:=hk.tgt hb (.inr hj);split
  ·exact h
  split
  ·exact(h.way hbl t2).1
  split
  ·exact((h.way hbl t1).1.way hbl t2).1
  ·exact(h.way hbl t1).1
 ·exact h
theorem KV.phis(hk:KFit c){b:Nat}{x:Bk}(hb:c.blocks[b]?=some x):∀(l:List Ph) {S:KS},(∀f∈l,f∈x.phis)->KV c S->KV c (l.foldl (λS f=>jF S c.blocks b f) S)
 |[],_,_,h=>h
 |f::l,S,hl,h=>KV.phis hk hb l (λg hg=>hl g (by simp[hg])) (h.phi hk hb (hl f (by simp)))
theorem KV.inss(hk:KFit c)(hv:CVal c){b:Nat}{x:Bk}(hb:c.blocks[b]?=some x):∀(l:List Ii) {S:KS},(∀f∈l,f∈x.ins)->KV c S->KV c (l.foldl cQ S)
 |[],_,_,h=>h
 |f::l,S,hl,h=>KV.inss hk hv hb l (λg hg=>hl g (by simp[hg])) (h.ins hk hv hb (hl f (by simp)))
theorem KV.blk(hk:KFit c)(hv:CVal c)(h:KV c S)(b:Nat):KV c (fS c.blocks S b):=by
 unfold fS;split
 ·exact h
 rename_i x hb;split
 ·exact KV.jmp hk (KV.inss hk hv hb x.ins (λ_ h=>h) (KV.phis hk hb x.phis (λ_ h=>h) h)) hb
 ·exact h
theorem KV.blks(hk:KFit c)(hv:CVal c):∀(l:List Nat) {S:KS},KV c S->KV c (l.foldl (fS c.blocks) S)
 |[],_,h=>h
 |b::l,S,h=>KV.blks hk hv l (h.blk hk hv b)
theorem KV.start(hk:KFit c):KV c (ksC c):=by
 refine⟨Ri hk,λr=>?_,by simp[ksC],λp hp=>by simp[ksC] at hp⟩;show VK (rg ((List.replicate c.regs.toNat (-2)).mapIdx _) r);rw[Je];split
 ·split
  ·exact .not
  ·exact .idle
 ·exact .idle
theorem KV.rndN(hk:KFit c)(hv:CVal c):∀m,KV c (rndN c.blocks (ksC c) m)
 |0=> .start hk
 |m+1=>KV.blks hk hv _ (KV.rndN hk hv m)
end
structure WayR (c:Cd) (W:List (Int × Int)) (Y:List (List Bool)):Prop where
 len:Y.length=c.blocks.length
 at':∀(b:Nat) (x:Bk),c.blocks[b]?=some x->∃l,Y[b]?=some l/\l.length=x.next.length/\∀t,((b:Int),t)∈W↔∃i:Nat,x.next[i]?=some t/\l[i]?=some true
def vj(Y:List (List Bool)):Nat:=(Y.map λl=>l.count true).sum
def sw(Y:List (List Bool))(b i:Nat):List (List Bool):=Y.set b (((Y[b]?).getD []).set i true)
theorem Hp{l:List Nat}{i v x:Nat}(h:l[i]?=some x):(l.set i v).sum+x=l.sum+v:=by
 induction l generalizing i with
 |nil=>simp at h
 |cons a r ih=>
  cases i with
  |zero=>simp only[XP,WO] at h;subst h;simp only[XY,XC];omega
  |succ i=>
   have:=ih (i:=i) (by simpa using h);simp only[YL,XC];omega
theorem Mb{l:List Bool}{i:Nat}(h:l[i]?=some false):(l.set i true).count true=l.count true+1:=by
 induction l generalizing i with
 |nil=>simp at h
 |cons a r ih=>
  cases i with
  |zero=>simp only[XP,WO] at h;subst h;simp
  |succ i=>
   have:=ih (i:=i) (by simpa using h);simp only[YL,List.count_cons];omega
theorem OH{Y:List (List Bool)}{b i:Nat}{l:List Bool}(hb:Y[b]?=some l)(hi:l[i]?=some false):vj (sw Y b i)=vj Y+1:=by
 rw[vj,sw,hb,Ym,vj];have:=Hp (l:=Y.map λl=>l.count true) (i:=b) (v:=(l.set i true).count true) (x:=l.count true) (by simp[hb]);have h2:=Mb hi;simp only[Yb];omega
theorem WayR.lead{c:Cd}{W:List (Int × Int)}{Y:List (List Bool)}(h:WayR c W Y){b i:Nat}{x:Bk}{t:Int}(hb:c.blocks[b]?=some x)(hi:x.next[i]?=some t){W':List (Int × Int)}(hW:∀p,p∈W'↔p∈W\/p=((b:Int),t)):WayR c W' (sw Y b i):=by
 obtain⟨l,h1,h2,h3⟩:=h.at' b x hb;have hil:i<l.length:=by rw[h2];exact(Wa.1 hi).1
 have hbl:b<Y.length:=(Wa.1 h1).1;refine⟨by rw[sw,Wy];exact h.len,λb' x' hb'=>?_⟩
 by_cases e:b=b'
 ·subst e;rw[hb] at hb';cases hb';refine⟨l.set i true,by rw[sw,h1,Wh hbl];rfl,by simp[h2],λt'=>?_⟩;rw[hW,h3];constructor
  ·rintro(⟨k,k1,k2⟩|e)
   ·refine⟨k,k1,?_⟩;rw[Xu];split
    ·simp[]
    ·exact k2
   ·simp only[Xc,true_and] at e;subst e;exact⟨i,hi,Wh hil⟩
  ·rintro⟨k,k1,k2⟩;rw[Xu] at k2;split at k2
   ·rename_i e;subst e;rw[hi] at k1;cases k1;exact .inr rfl
   ·exact .inl ⟨k,k1,k2⟩
 ·obtain⟨l',h1',h2',h3'⟩:=h.at' b' x' hb';refine⟨l',by rw[sw,Wd e];exact h1',h2',λt'=>?_⟩;rw[hW,h3'];constructor
  ·rintro(h|h)
   ·exact h
   ·simp only[Xc] at h;omega
  ·exact .inl
theorem QW(S:KS)(b t:Int)(p:Int × Int):p∈(S.way b t).W↔p∈S.W\/p=(b,t):=by
 unfold KS.way;split
 ·rename_i h;exact⟨.inl,λh2=>h2.elim (λh=>h) λe=>e▸h⟩
 ·simp
def zt(S:KS):Nat:=(S.regs.map hV).sum
structure RRel (S:KS) (Y:List (List Bool)) (m:Bool) (S':KS) (Y':List (List Bool)) (m':Bool):Prop where
 le:zt S+vj Y<=zt S'+vj Y'
 up:m'=true->m=true\/zt S+vj Y<zt S'+vj Y'
 eq:m'=false->m=false/\S'=S
theorem RRel.refl(S:KS)(Y:List (List Bool))(m:Bool):RRel S Y m S Y m:=⟨Wo _,.inl,λh=>⟨h,rfl⟩⟩
theorem RRel.trans{S S1 S2:KS}{Y Y1 Y2:List (List Bool)}{m m1 m2:Bool}(a:RRel S Y m S1 Y1 m1)(b:RRel S1 Y1 m1 S2 Y2 m2):RRel S Y m S2 Y2 m2:=by
 have h1:=a.le;have h2:=b.le;refine⟨by omega,λh=>?_,λh=>?_⟩
 ·rcases b.up h with h3|h3
  ·rcases a.up h3 with h4|h4
   ·exact .inl h4
   ·exact .inr (by omega)
  ·exact .inr (by omega)
 ·obtain⟨h3,rfl⟩:=b.eq h;exact a.eq h3
theorem GZ{c:Cd}{S:KS}(h:KJ c S){r n:Int}(h0:0<=r)(h1:r<c.regs)(hle:leV (rg S.regs r) n)(Y:List (List Bool))(m:Bool):RRel S Y m (S.bec r n) Y (m|| !decide (rg S.regs r=n)):=by
 obtain⟨_,a2,a3⟩:=h.bec h0 h1 hle;have hm:=Jz hle;have hp:gk (S.bec r n)=zt (S.bec r n)+S.W.length:=rfl;have hp2:gk S=zt S+S.W.length:=rfl;refine⟨by omega,λh=>?_,λh=>?_⟩
 ·cases m with
  |true=>exact .inl rfl
  |false=>
   simp only[ZT,Yx,decide_eq_false_iff_not] at h;have:=NW hle h;exact .inr (by omega)
 ·simp only[Bool.or_eq_false_iff,Bool.not_eq_false',Wx] at h;exact⟨h.1,a3 h.2⟩
theorem LW{S:KS}{Y:List (List Bool)}{b i:Nat}{l:List Bool}{t:Int}(hb:Y[b]?=some l)(hi:l[i]?=some false)(m:Bool):RRel S Y m (S.way b t) (sw Y b i) true:=by
 have h1:zt (S.way b t)=zt S:=by rw[zt,KS.way_regs];rfl
 have h2:=OH hb hi;exact⟨by omega,λ_=> .inr (by omega),λh=>by cases h⟩
theorem Lt{c:Cd}{S:KS}(h:KJ c S)(hr:c.regs<=300):zt S<=600:=by
 have h1:∀l:List Int,(l.map hV).sum<=2*l.length:=λl=>by
  induction l with
  |nil=>simp
  |cons a r ih=>have:=Oe a;simp only[WJ,XC,WC];omega
 have h2:=h1 S.regs;rw[h.len] at h2;rw[zt];omega
theorem II{c:Cd}{W:List (Int × Int)}{Y:List (List Bool)}(h:WayR c W Y)(hx:∀x∈c.blocks,x.next.length<=2):vj Y<=2*c.blocks.length:=by
 have h1:∀l∈Y,l.count true<=2:=λl hl=>by
  obtain⟨b,hb,rfl⟩:=YB hl;obtain⟨l',h1,h2,_⟩:=h.at' b _ (Wc (show b<c.blocks.length by rw[←h.len];exact hb));rw[Wc hb] at h1;cases h1;have:=hx _ (Wm (show b<c.blocks.length by rw[←h.len];exact hb));have:=List.count_le_length (a:=true) (l:=Y[b]);omega
 have h2:∀Y:List (List Bool),(∀l∈Y,l.count true<=2)->vj Y<=2*Y.length:=λY hY=>by
  induction Y with
  |nil=>simp[vj]
  |cons a r ih=>
   have:=hY a (by simp);have:=ih λl hl=>hY l (by simp[hl]);simp only[vj,WJ,XC,WC] at*
   omega
 have:=h2 Y h1;rw[h.len] at this;exact this
end
section
abbrev Ev5:=Int × (Int × Int)
def evP(b:Nat)(l:List Ph):List Ev5:=l.map λf=>(f.to,((b:Int),(-1:Int)))
def evI(b:Nat)(l:List Ii):List Ev5:=(l.zipIdx.filter λy=>aI y.1.op).map λy=>(y.1.to,((b:Int),(y.2:Int)))
def evB(b:Nat)(x:Bk):List Ev5:=evP b x.phis++evI b x.ins
def evC(bs:List Bk):List Ev5:=bs.zipIdx.flatMap λx=>evB x.2 x.1
def evR(E:List Ev5)(r:Int):List (Int × Int):=(E.filter λe=>decide (e.1=r)).map (·.2)
theorem DU(E F:List Ev5)(r:Int):evR (E++F) r=evR E r++evR F r:=by simp[evR]
theorem Rb(e:Ev5)(r:Int):evR [e] r=if e.1=r then[e.2] else[]:=by
 by_cases h:e.1=r<;>simp[evR,h]
theorem Pe(r:Int)(b:Nat)(x:Bk):tL r b x=evR (evB b x) r:=by
 rw[evB,DU,tL];congr 1
 ·simp only[DJ,evR,evP,YW,Yu,Function.comp_def]
 ·simp only[OR,evR,evI,YW,Yu,List.filter_filter,Function.comp_def];congr 1;exact YG λy _=>Bool.and_comm _ _
theorem ND(bs:List Bk)(r:Int):dB bs r=evR (evC bs) r:=by
 rw[dB,evC]
 induction bs.zipIdx with
 |nil=>rfl
 |cons x l ih=>rw[Zg,Zg,DU,ih,Pe]
theorem Gi{bs:List Bk}{b:Nat}{x:Bk}(h:bs[b]?=some x):evC (bs.take (b+1))=evC (bs.take b)++evB b x:=by rw[evC,pE h,List.flatMap_append];simp[evC]
theorem Fv{l:List Ph}{b i:Nat}{f:Ph}(h:l[i]?=some f):evP b (l.take (i+1))=evP b (l.take i)++[(f.to,((b:Int),(-1:Int)))]:=by
 obtain⟨hi,rfl⟩:=Wa.1 h;rw[aq hi,evP,WF];rfl
theorem Gj{l:List Ii}{b i:Nat}{y:Ii}(h:l[i]?=some y):evI b (l.take (i+1))=evI b (l.take i)++if aI y.op=true then[(y.to,((b:Int),(i:Int)))] else[]:=by
 rw[evI,pE h,Yl,WF,evI];congr 1
 by_cases hs:aI y.op=true<;>simp[hs]
def stT(n:Nat)(E:List Ev5):List (List (Int × Int)):=(List.range n).map λ(r:Nat)=>evR E r
theorem ll(n:Nat)(E:List Ev5):(stT n E).length=n:=by simp[stT]
theorem mZ{n r:Nat}(h:r<n)(E:List Ev5):(stT n E)[r]?=some (evR E r):=by simp[stT,h]
theorem uz{n:Nat}{r:Int}(h0:0<=r)(E:List Ev5)(p:Int × Int):stT n (E++[(r,p)])=(stT n E).set r.toNat (evR E r++[p]):=by
 refine WT λi=>?_;rw[Xu]
 by_cases hi:i<n
 ·rw[mZ hi,DU,Rb,ll]
  by_cases hr:r.toNat=i
  ·have:r=(i:Int):=by omega
   subst this;rw[Wz hr,Wz (by omega),Wz (by simpa using hi)]
  ·have:¬r=(i:Int):=by omega
   rw[WB hr,mZ hi,WB this,WI]
 ·have e:∀E,(stT n E)[i]?=none:=λE=>List.getElem?_eq_none_iff.2 (by rw[ll];omega);rw[e,e,ll];split
  ·rw[WB (by omega)]
  ·rfl
def ju(sz:Nat)(f:Int × Int->List PV)(T:List (List (Int × Int))):PV:= .lst 1 (T.map λl=>[PV.lst sz (l.map f)])
theorem Own.cellPsh{n:Nat}{H:List AO}{V:AV}{D:List (List PV)}{I:List Nat}(HV:Own n H [V] [.lst 1 D] I){i sz:Nat}{E:List (List PV)}(hi:D[i]?=some [.lst sz E]):
 ∃id rows A,V= .sl id 1 0 D.length/\H[id]?=some (.row 1 rows)/\rows.length=D.length/\rows[i]?=some [A]/\n<=id/\id∈I/\(A= .nils\/∃jd rs,A= .sl jd sz 0 E.length/\H[jd]?=some (.row sz rs)/\rs.length=E.length/\jd≠id/\n<=jd)/\
 ∀(os:List AO) (r:List AV) (e:List PV) (IR:List Nat) (H':List AO) (A':AV),Own n (H++os) r e IR->(∀j∈IR,H.length<=j)->e.length=sz->Psh (H++os) A sz r H' A'->
  ∃I',Own n (H'.set id (.row 1 (rows.set i [A']))) [V] [.lst 1 (D.set i [.lst sz (E++[e])])] I'/\(∀j∈I',j∈I\/H.length<=j)/\(∀j,j<H.length->j∉I->(H'.set id (.row 1 (rows.set i [A'])))[j]?=H[j]?)/\H.length<=(H'.set id (.row 1 (rows.set i [A']))).length:=by
 rcases HV.row with⟨_,h2,_⟩|⟨id,rows,J,h1,h2,hr,_⟩
 ·rw[h2] at hi;simp at hi
 subst h2;have HV2:=HV;rw[h1] at HV2;obtain⟨r0,Ji,g1,g2,g3,g4⟩:=Own.upd HV2 hr hi;obtain⟨A,rfl,hA⟩:=g2.single;have hid:=hr.lt;refine⟨id,rows,A,h1,hr.here,hr.len,g1,HV.ge id (by simp),by simp,?_,λos r e IR H' A' hR hIR he hp=>?_⟩
 ·rcases hA.row with⟨q1,q2,q3⟩|⟨jd,rs,J2,q1,q2,q3,_⟩
  ·exact .inl q1
  ·exact .inr ⟨jd,rs,q1,q3.here,q3.len,(g3 jd (by rw[q2];simp)).2,hA.ge jd (by rw[q2];simp)⟩
 ·have hJl:∀j∈Ji,j<H.length:=λj hj=>hA.lt j hj;obtain⟨IV',p1,p2,p3,p4⟩:=(hA.more os).psh hR (λj hj hm=>by have:=hJl j hj;have:=hIR j hm;omega) he (by have:=HV.ge id (by simp);simp;omega) hp
  have hiV:id∉IV':=λhm=>by
   rcases p2 id hm with h|h|h
   ·exact(g3 id h).2 rfl
   ·have:=hIR id h;omega
   ·rw[h] at hid;simp at hid;omega
  have hl':H.length<=H'.length:=by rw[p4];simp;omega
  obtain⟨J',k1,k2⟩:=g4 (H'.set id (.row 1 (rows.set i [A']))) [A'] [.lst sz (E++[e])] IV' (Wh (by omega)) (λj hj hn=>by
   have hjl:=hr.own.lt hj;have hne:id≠j:=λe=>(WR.1 hr.nd).1 (e▸hj);rw[Wd hne,p3 j (by simp;omega) hn,Wb hjl]) (p1.frame λj hj=>Wd λe=>hiV (by rw[e];exact hj)) (λj hj=>by
   rcases p2 j hj with h|h|h
   ·exact .inl h
   ·have:=hIR j h;exact .inr ⟨by omega,λhm=>by have:=hr.own.lt hm;omega⟩
   ·have hlen:(H++os).length=H.length+os.length:=(by simp);exact .inr ⟨by omega,λhm=>by have:=hr.own.lt hm;omega⟩) rfl
  refine⟨id::J',by rw[h1];simpa using k1,λj hj=>?_,λj hj hn=>?_,by simpa using hl'⟩
  ·rcases WE.1 hj with rfl|hj
   ·exact .inl (by simp)
   ·rcases k2 j hj with h|h
    ·exact .inl (by simp[h])
    ·rcases p2 j h with h|h|h
     ·exact .inl (by simp[(g3 j h).1])
     ·exact .inr (hIR j h)
     ·exact .inr (by rw[h];simp)
  ·have hne:id≠j:=λe=>hn (by simp[e]);rw[Wd hne,p3 j (by simp;omega) λhm=>hn (by simp[(g3 j hm).1]),Wb hj]
end
section
def aG(l:List Bool):List (List AV):=l.map λn=>[AV.p (.bool n)]
theorem jT(l:List Bool):(aG l).length=l.length:=by simp[aG]
theorem bh{l:List Bool}{i:Nat}{x:Bool}(h:l[i]?=some x):(aG l)[i]?=some [.p (.bool x)]:=by simp[aG,h]
theorem bP(l:List Bool)(i:Nat)(x:Bool):(aG l).set i [.p (.bool x)]=aG (l.set i x):=by simp[aG,Ym]
theorem di(l:List Int):(ae l).length=l.length:=by simp[ae]
theorem nt{l:List Bool}{i:Nat}(h:i<l.length):l[i]?=some (sn l i):=by rw[sn,Wv,Wc h];rfl
def CBd(c:Cd):Prop:=c.blocks.length<=1073741824/\∀x∈c.blocks,x.next.length<=1073741824
def an(l:List Nat):List Int:=l.map Int.ofNat
variable (G:aw)
def sF(L:Nat)(l:List Int):Bool:=l.all λn=>inR n 0 ((L:Int)-1)
def Cf(L:Nat)(l:List Bk):Bool:=l.all λx=>sF L x.next
theorem MW(L:Nat):sF L []=true:=rfl
theorem Oo(L:Nat):Cf L []=true:=rfl
theorem Lo(L:Nat)(l:List Int)(r:Int):sF L (l++[r])=(sF L l&&inR r 0 ((L:Int)-1)):=by simp[sF]
theorem Lu(L:Nat)(l:List Bk)(r:Bk):Cf L (l++[r])=(Cf L l&&sF L r.next):=by simp[Cf]
theorem uj(bs:List Bk):be bs=(decide (0<bs.length)&&Cf bs.length bs):=by
 rw[be,Cf];congr 1;cases bs<;>simp
theorem Lp(c:Cd)(hc:CBd c):VF Tryz.prog G jY [.agg (c.cs.map .p)] (.p (.bool (be c.blocks))):=by
 have hcs:=c.cs_eq2;have hbl:bkL c.blocks= .lst 5 (c.blocks.map Bk.cs):=rfl;have hl1:=hc.1;refine AC.go Bd ?_;simp[pM,hcs,hbl];obtain⟨H0,hH0⟩:∃H0,H0=[AO.row 3 [[.p (.int .i64 c.params),.p (.int .i64 c.regs),.p (.lst 5 (c.blocks.map Bk.cs))]]]:=⟨_,rfl⟩;have g0:H0[0]?=some (.row 3 [[.p (.int .i64 c.params),.p (.int .i64 c.regs),.p (.lst 5 (c.blocks.map Bk.cs))]]):=by rw[hH0];rfl
 have gl:H0.length=1:=by rw[hH0];rfl
 rw[←hH0];clear hH0;refine am (λi:Nat=>aj 42 [(1,.ptr 0 3 0 0),(3,.p (.int .i64 i))]) (λ_=>H0) (λi=>i<=c.blocks.length/\Cf c.blocks.length (c.blocks.take i)=true) (λi=>c.blocks.length-i) 0 ⟨We _,by rw[Yc,Oo]⟩ (aa (We _) (by simp[below,gl])) ?_;rintro i ⟨hi,hp⟩;simp[g0];refine aA (λhc1=>?_) (λhc1=>?_)
 ·simp at hc1;have hg:=Wc hc1;have hm:=Wm hc1;have htk:=aq hc1;have hnx:=hc.2 _ hm;generalize c.blocks[i]=x at hg hm htk hnx;have hxs:=x.cs_eq2;have hnl:ah x.next= .lst 1 (x.next.map λn=>[.int .i64 n]):=rfl;have hw1:=w1 (i:=i) (by omega);simp[];refine am (λj:Nat=>aj 42 [(4,.p (.int .i64 j)),(1,.ptr 0 3 0 0),(3,.p (.int .i64 i))]) (λ_=>H0) (λj=>j<=x.next.length/\sF c.blocks.length (x.next.take j)=true) (λj=>x.next.length-j) 0 ⟨We _,by rw[Yc,MW]⟩ (aa (We _) (by simp[below,gl])) ?_;rintro j ⟨hj,hq⟩;simp[g0,hg,hxs,hnl];refine aA (λhc2=>?_) (λhc2=>?_)
  ·simp at hc2;have hg2:=Wc hc2;have htk2:=aq hc2;have hm2:=Wm hc2;generalize x.next[j]=r at hg2 htk2 hm2;have hwn:IntKind.i64.wrap ((c.blocks.length:Int)-1)=(c.blocks.length:Int)-1:=al (by omega) (by omega);simp[g0,hg,hxs,hnl,hg2,hwn];refine(dm G r 0 ((c.blocks.length:Int)-1)).use ?_;simp[];refine aA (λhe=>?_) (λhe=>?_)
   ·have he:inR r 0 ((c.blocks.length:Int)-1)=false:=by simpa using he
    have hff:be c.blocks=false:=by rw[uj,Cf,fm (p:=λx:Bk=>sF c.blocks.length x.next) hm (fm (p:=λn=>inR n 0 ((c.blocks.length:Int)-1)) hm2 he),Yw]
    simp[hff]
   ·have he:inR r 0 ((c.blocks.length:Int)-1)=true:=(by simpa using he);simp[];refine⟨j+1,⟨by omega,?_⟩,by omega,aa (We _) (by simp[below,gl,w1 (i:=j) (by omega)])⟩;rw[htk2,Lo,hq,he];rfl
  ·simp at hc2;rw[Wi hc2] at hq;simp[];refine⟨i+1,⟨by omega,?_⟩,by omega,aa (We _) (by simp[below,gl,hw1])⟩;rw[htk,Lu,hp,hq];rfl
 ·simp at hc1;rw[Wi hc1] at hp;have hff:be c.blocks=decide (0<c.blocks.length):=by rw[uj,hp,Bool.and_true]
  simp[g0,hff]
structure ViS where (i:Nat) (X:List AO) (o:Nat)
theorem Kq{bs:List Bk}{b:Nat}{x:Bk}(h:bs[b]?=some x){j:Nat}{n:Int}(hj:x.next[j]?=some n):(nxC bs b)[j]?=some n.toNat:=by rw[ma h];simp[hj]
theorem mF(a b:List Nat):an (a++b)=an a++an b:=by simp[an]
theorem dR(a:List Nat):(an a).length=a.length:=by simp[an]
theorem sQ(c:Cd)(hc:CBd c)(hfit:be c.blocks=true):∀(f:Nat) (h:List AO) (b sid oid:Nat) (seen:List Bool) (out:List Nat),b<c.blocks.length->seen.length=c.blocks.length->sn seen b=false->fls seen<=f->
 sid≠oid->h[sid]?=some (.row 1 (aG seen))->h[oid]?=some (.row 1 (ae (an out)))->out.length+fls seen<=1073741824->
 AC Tryz.prog G bm [.agg (c.cs.map .p),.p (.int .i64 b),.sl sid 1 0 seen.length,.sl oid 1 0 out.length] h λx h'=>∃id,x= .ret (.sl id 1 0 (dfs (nxC c.blocks) f (seen,out) b).2.length)/\
  h'[id]?=some (.row 1 (ae (an (dfs (nxC c.blocks) f (seen,out) b).2)))/\h'[sid]?=some (.row 1 (aG (dfs (nxC c.blocks) f (seen,out) b).1))/\id≠sid/\h.length<=id/\h.length<=h'.length/\∀j,j<h.length->j≠sid->j≠oid->h'[j]?=h[j]?:=by
 intro f
 induction f with
 |zero=>
  intro h b sid oid seen out hb hsl hsb hf;have:=js hsb;omega
 |succ f ih=>
  intro h b sid oid seen out hb hsl hsb hf hne hs ho hsz;have hsid:=(Wa.1 hs).1;have hoid:=(Wa.1 ho).1;have hcs:=c.cs_eq2;have hbl:bkL c.blocks= .lst 5 (c.blocks.map Bk.cs):=rfl;have hl1:=hc.1;have hgb:=Wc hb;have hmb:=Wm hb;generalize c.blocks[b]=x at hgb hmb;have hnx:=hc.2 _ hmb;have hxs:=x.cs_eq2;have hnl:ah x.next= .lst 1 (x.next.map λn=>[.int .i64 n]):=rfl;have hset:=js hsb
  have hD0:∀i,(cr (nxC c.blocks) f (seen.set b true,out) ((nxC c.blocks b).take i)).2.length+fls (cr (nxC c.blocks) f (seen.set b true,out) ((nxC c.blocks b).take i)).1+1=out.length+fls seen/\(cr (nxC c.blocks) f (seen.set b true,out) ((nxC c.blocks b).take i)).1.length=seen.length/\fls (cr (nxC c.blocks) f (seen.set b true,out) ((nxC c.blocks b).take i)).1<=f:=λi=>by
   have:=(Ao (nxC c.blocks) f).1 ((nxC c.blocks b).take i) (seen.set b true,out) (by simp only;omega);simp only[Wy] at this;omega
  obtain⟨D,hD⟩:∃D:Nat->List Bool × List Nat,D=λi=>cr (nxC c.blocks) f (seen.set b true,out) ((nxC c.blocks b).take i):=⟨_,rfl⟩;have hDz:D 0=(seen.set b true,out):=by rw[hD];rfl
  have hDs:∀(i:Nat) (m:Nat),(nxC c.blocks b)[i]?=some m->D (i+1)=if sn (D i).1 m then D i else dfs (nxC c.blocks) f (D i) m:=λi m h=>by rw[hD];exact Dx h
  have hDe:dfs (nxC c.blocks) (f+1) (seen,out) b=((D x.next.length).1,(D x.next.length).2++[b]):=by
   rw[pK,hD];have:(nxC c.blocks b).take x.next.length=nxC c.blocks b:=(by rw[ma hgb,Wi (by simp)]);simp only[this]
  have hD1:∀i,(D i).2.length+fls (D i).1+1=out.length+fls seen/\(D i).1.length=seen.length/\fls (D i).1<=f:=λi=>by rw[hD];exact hD0 i
  clear hD0 hD;refine AC.go zP ?_;have hbr:b<(aG seen).length:=by rw[jT];omega
  have e1:∀t,(h++t)[sid]?=some (.row 1 (aG seen)):=λt=>by rw[Wb hsid];exact hs
  have e2:∀hh,(aG seen)[b]'hh=[.p (.bool false)]:=λhh=>by
   have:=bh (nt (l:=seen) (i:=b) (by omega));rw[hsb,Wc hh] at this;exact Option.some.inj this
  simp[nP,hcs,hbl,e1,hbr,e2,bP];refine⟨by omega,?_⟩;obtain⟨H1,hH1⟩:∃H1,H1=(h++[AO.row 3 [[.p (.int .i64 c.params),.p (.int .i64 c.regs),.p (.lst 5 (c.blocks.map Bk.cs))]]]).set sid (.row 1 (aG (seen.set b true))):=⟨_,rfl⟩
  have g0:H1[h.length]?=some (.row 3 [[.p (.int .i64 c.params),.p (.int .i64 c.regs),.p (.lst 5 (c.blocks.map Bk.cs))]]):=by rw[hH1,Wd (by omega),Wg (by omega)];simp
  have g1:H1[sid]?=some (.row 1 (aG (D 0).1)):=by rw[hH1,Wh (by simp;omega),hDz]
  have g2:H1[oid]?=some (.row 1 (ae (an (D 0).2))):=by rw[hH1,Wd hne,Wb hoid,hDz];exact ho
  have g3:∀j,j<h.length->j≠sid->j≠oid->H1[j]?=h[j]?:=λj h1 h2 _=>by rw[hH1,Wd (by omega),Wb h1]
  have g4:H1.length=h.length+1:=by rw[hH1];simp
  rw[←hH1];clear hH1 e1 e2 hs ho
  refine am (λa:ViS=>aj 54 [(9,.p (.int .i64 a.i)),(1,.p (.int .i64 b)),(2,.sl sid 1 0 seen.length),(3,.sl a.o 1 0 (D a.i).2.length),(4,.ptr h.length 3 0 0)]) (λa=>a.X)
   (λa=>a.i<=x.next.length/\h.length<a.X.length/\a.X[h.length]?=some (.row 3 [[.p (.int .i64 c.params),.p (.int .i64 c.regs),.p (.lst 5 (c.blocks.map Bk.cs))]])/\a.X[sid]?=some (.row 1 (aG (D a.i).1))/\a.X[a.o]?=some (.row 1 (ae (an (D a.i).2)))/\a.o≠sid/\a.o≠h.length/\(a.o<h.length->a.o=oid)/\∀j,j<h.length->j≠sid->j≠oid->a.X[j]?=h[j]?) (λa=>x.next.length-a.i) ⟨0,H1,oid⟩ ⟨We _,by simp only[g4];omega,g0,g1,g2,Ne.symm hne,by simp only;omega,λ_=>rfl,g3⟩ ?_ ?_
  ·refine aa (by omega) ?_;simp only[hDz];simp[below,g4]
   try omega
  clear g0 g1 g2 g3 g4 H1;rintro⟨i,X,o⟩ ⟨hi,hXl,g0,g1,g2,hos,hoh,hoo,g3⟩;simp only at hi hXl g0 g1 g2 hos hoh hoo g3;have hol:=(Wa.1 g2).1;have hgX:X[h.length]?=some (.row 3 [[.p (.int .i64 c.params),.p (.int .i64 c.regs),.p (.lst 5 (c.blocks.map Bk.cs))]]):=g0;simp[g0,hgb,hxs,hnl];refine aA (λhc1=>?_) (λhc1=>?_)
  ·simp at hc1;have hg2:=Wc hc1;generalize x.next[i]=r at hg2;have hr:=Ae hfit hgb (Wq hg2);have hrn:((r.toNat:Nat):Int)=r:=by omega
   have hDn:=hDs i r.toNat (Kq hgb hg2);generalize hm:r.toNat=m at hrn hDn;subst hrn;have hml:m<c.blocks.length:=(by omega);have hrow:(aG (D i).1)[m]?=some [.p (.bool (sn (D i).1 m))]:=bh (nt (by have:=(hD1 i).2.1;omega));have hms:m<seen.length:=(by omega);have hw1:=w1 (i:=i) (by omega);simp[g0,hgb,hxs,hnl,hg2,g1,hrow,hms];refine aA (λhe=>?_) (λhe=>?_)
   ·have he:sn (D i).1 m=false:=(by simpa using he);simp only[he,Ye,if_false] at hDn;have⟨q1,q2,q3⟩:=hD1 i;have hcall:=ih X m sid o (D i).1 (D i).2 hml (by omega) he q3 (Ne.symm hos) g1 g2 (by omega);rw[q2,hcs,hbl] at hcall;simp[g0,hgb,hxs,hnl,hg2];refine hcall.mono ?_;rintro rr h' ⟨id,rfl,e3,e4,e5,e6,e7,e8⟩;have hidl:=(Wa.1 e3).1;simp[];refine⟨⟨i+1,h',id⟩,⟨by simp only;omega,by simp only;omega,?_,?_,?_,e5,by simp only;omega,λh2=>by simp only at h2;omega,λj h1 h2 h3=>?_⟩,by simp only;omega,aa (by omega) ?_⟩
    ·simp only;rw[e8 _ hXl (by omega) (Ne.symm hoh)];exact g0
    ·simp only[hDn];exact e4
    ·simp only[hDn];exact e3
    ·simp only;rw[e8 _ (by omega) h2 (by intro h4;subst h4;exact h3 (hoo h1))];exact g3 j h1 h2 h3
    ·simp only[hDn];simp[below,hw1];omega
   ·have he:sn (D i).1 m=true:=(by simpa using he);simp only[he,if_true] at hDn;simp[];refine⟨⟨i+1,X,o⟩,⟨by simp only;omega,hXl,g0,by simp only[hDn];exact g1,by simp only[hDn];exact g2,hos,hoh,hoo,g3⟩,by simp only;omega,aa (by omega) ?_⟩;simp only[hDn];simp[below,hw1];omega
  ·simp at hc1;have hie:i=x.next.length:=by omega
   subst hie;rw[hDe];have⟨q1,q2,q3⟩:=hD1 x.next.length;generalize D x.next.length=Z at*
   have htl:List.take Z.2.length (ae (an Z.2))=ae (an Z.2):=Wi (by simp[ae,an]);have hrl:(ae (an Z.2)).length=Z.2.length:=(by simp[ae,an]);have hxm:∀t,(X++t)[o]?=some (.row 1 (ae (an Z.2))):=λt=>(by rw[Wb hol];exact g2);simp[hxm,htl,hrl];refine⟨by omega,by simp[ae,an],?_,by omega,by omega,by omega,λj h1 h2 h3=>?_⟩
   ·rw[Wb (by simp;omega),Wd hos,Wb (by omega)];exact g1
   ·rw[Wb (by simp;omega),Wd (by intro h4;subst h4;exact h3 (hoo h1)),Wb (by omega)];exact g3 j h1 h2 h3
end
section
theorem DE{h:List AO}{id sz:Nat}{rows:List (List AV)}{es:List (List PV)}(he:h[id]?=some (.row sz rows))(hl:rows.length=es.length)(hs:∀e∈es,e.length=sz)(hv:∀(i j:Nat) (e:List PV) (q:PV) (e':List AV) (a:AV),es[i]?=some e->e[j]?=some q->rows[i]?=some e'->e'[j]?=some a->View h a q){n:Nat}(hn:n=es.length):View h (.sl id sz 0 n) (.lst sz es):=by
 subst hn;exact .sl id sz 0 rows es he (by omega) hs λi j e q e' a a1 a2 a3 a4=>hv i j e q e' a a1 a2 (by rwa[WV] at a3) a4
end
end Go.Proofs.YtigmcjbgnmpbeaaGreat
