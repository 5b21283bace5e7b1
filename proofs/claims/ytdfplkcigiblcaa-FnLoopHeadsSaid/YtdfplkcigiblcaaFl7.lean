/-
  Contracts and lemmas that the card needs, part 7.
-/
import Derived.Test.YtdfplkcigiblcaaFl6
namespace Go.Proofs.Ytdfplkcigiblcaa
open Go Go.Aw
set_option maxRecDepth 100000
set_option maxHeartbeats 4000000
section
def vP:AV->Bool
 | .p (.lst _ _)=>false
 |_=>true
def NoL(h:List AO)(I:List Nat):Prop:=∀j∈I,∀(sz:Nat) (rows:List (List AV)),h[j]?=some (.row sz rows)->∀r∈rows,∀v∈r,vP v=true
theorem NoL.frame{h h':List AO}{I:List Nat}(H:NoL h I)(e:∀i∈I,h'[i]?=h[i]?):NoL h' I:=λj hj sz rows hg=>H j hj sz rows (by rw[←e j hj];exact hg)
theorem NoL.app{h:List AO}{I J:List Nat}(a:NoL h I)(b:NoL h J):NoL h (I++J):=λj hj=>(List.mem_append.1 hj).elim (a j) (b j)
theorem NoL.sub{h:List AO}{I J:List Nat}(a:NoL h I)(s:∀j∈J,j∈I):NoL h J:=λj hj=>a j (s j hj)
theorem NoL.cons{h:List AO}{id sz:Nat}{rows:List (List AV)}{J:List Nat}(e:h[id]?=some (.row sz rows))(hr:∀r∈rows,∀v∈r,vP v=true)(b:NoL h J):NoL h (id::J):=λj hj=>by
 rcases List.mem_cons.1 hj with rfl|hj
 ·intro sz2 rows2 e2
  rw[e] at e2;cases e2
  exact hr
 ·exact b j hj
structure Own (n:Nat) (h:List AO) (vs:List AV) (qs:List PV) (I:List Nat):Prop where
 own:OwnL true h vs qs I
 nd:I.Nodup
 no:NoL h I
 nv:∀v∈vs,vP v=true
 ge:∀j∈I,n<=j
section
variable {n:Nat} {h h2:List AO} {vs:List AV} {qs:List PV} {I:List Nat} {V:AV} {sz:Nat} {D:List (List PV)}
theorem Own.frame(H:Own n h vs qs I)(e:∀i∈I,h2[i]?=h[i]?):Own n h2 vs qs I:=⟨H.own.frame e,H.nd,H.no.frame e,H.nv,H.ge⟩
theorem Own.lt(H:Own n h vs qs I):∀i∈I,i<h.length:=λ_ hi=>H.own.lt hi
theorem Own.more(H:Own n h vs qs I)(os:List AO):Own n (h++os) vs qs I:=H.frame λi hi=>List.getElem?_append_left (H.lt i hi)
theorem Own.low{m:Nat}(H:Own n h vs qs I)(hm:∀j∈I,m<=j):Own m h vs qs I:=⟨H.own,H.nd,H.no,H.nv,hm⟩
theorem Own.fr{K:List Nat}(H:Own n h vs qs I)(f:Fr K h h2)(hK:∀j∈I,j∉K):Own n h2 vs qs I:=H.frame λi hi=>f.2 i (H.lt i hi) (hK i hi)
theorem Own.nil(n:Nat)(h:List AO)(sz:Nat):Own n h [.nils] [.lst sz []] []:=⟨.nils sz .nil,List.nodup_nil,(λj hj=>by cases hj),(λv hv=>by rw[List.mem_singleton.1 hv];rfl),(λj hj=>by cases hj)⟩
theorem Own.nix(n:Nat)(h:List AO):Own n h [] [] []:=⟨.nil,List.nodup_nil,(λj hj=>by cases hj),(λv hv=>by cases hv),(λj hj=>by cases hj)⟩
theorem Own.sc(H:Own n h vs qs I)(q:PV)(hq:Dx q=true)(hn:vP (.p q)=true):Own n h (.p q::vs) (q::qs) I:=⟨.p q (λ_=>hq) H.own,H.nd,H.no,λv hv=>by
 rcases List.mem_cons.1 hv with rfl|hv
 ·exact hn
 ·exact H.nv v hv,H.ge⟩
theorem Own.app{us:List AV}{rs:List PV}{J:List Nat}(H:Own n h vs qs I)(H2:Own n h us rs J)(hd:∀j∈I,j∉J):Own n h (vs++us) (qs++rs) (I++J):=
 ⟨H.own.app H2.own,List.nodup_append.2 ⟨H.nd,H2.nd,λa ha b hb e=>hd a ha (e▸hb)⟩,H.no.app H2.no,λv hv=>(List.mem_append.1 hv).elim (H.nv v) (H2.nv v),λj hj=>(List.mem_append.1 hj).elim (H.ge j) (H2.ge j)⟩
theorem Own.one{q:PV}(H:Own n h vs (q::qs) I):∃v us I1 I2,vs=v::us/\I=I1++I2/\Own n h [v] [q] I1/\Own n h us qs I2:=by
 obtain⟨v,us,rfl⟩:∃v us,vs=v::us:=by
  have:=H.own.len
  cases vs with
  |nil=>simp at this
  |cons v us=>exact⟨v,us,rfl⟩
 obtain⟨I1,I2,rfl,h1,h2⟩:=H.own.one
 have hn:=List.nodup_append.1 H.nd
 exact⟨v,us,I1,I2,rfl,rfl,⟨h1,hn.1,H.no.sub λj hj=>by simp[hj],λx hx=>H.nv x (by rw[List.mem_singleton.1 hx];simp),λj hj=>H.ge j (by simp[hj])⟩,⟨h2,hn.2.1,H.no.sub λj hj=>by simp[hj],λx hx=>H.nv x (by simp[hx]),λj hj=>H.ge j (by simp[hj])⟩⟩
theorem Own.row(H:Own n h [V] [.lst sz D] I):(V= .nils/\D=[]/\I=[])\/∃id rows J,V= .sl id sz 0 D.length/\I=id::J/\RowOwn true h id sz rows D J/\∀r∈rows,∀v∈r,vP v=true:=by
 rcases H.own.inv H.nd with⟨h1,h2,h3|h3⟩|⟨h1,_⟩|⟨id,rows,J,h1,h2,h3⟩
 ·exact .inl ⟨h3,h1,h2⟩
 ·have:=H.nv V (by simp)
  rw[h3] at this;cases this
 ·cases h1
 ·exact .inr ⟨id,rows,J,h1,h2,h3,H.no id (by rw[h2];simp) sz rows h3.here⟩
theorem Own.of{id:Nat}{rows:List (List AV)}{J:List Nat}(H:RowOwn true h id sz rows D J)(hn:∀r∈rows,∀v∈r,vP v=true)(hJ:NoL h J)(hg:∀j∈id::J,n<=j){m:Nat}(hm:m=D.length):Own n h [.sl id sz 0 m] [.lst sz D] (id::J):=
 ⟨H.tree hm,H.nd,hJ.cons H.here hn,λv hv=>by rw[List.mem_singleton.1 hv];rfl,hg⟩
theorem Own.view(H:Own n h [V] [.lst sz D] I):View h V (.lst sz D):=H.own.view 0 V _ rfl rfl
theorem Own.cell{q:PV}(H:Own n h [V] [q] I):V.cells=[V]/\V.isCell=true:=by
 cases H.own with
 |p _ _ _=>exact⟨rfl,rfl⟩
 |nils _ _=>exact⟨rfl,rfl⟩
 |sl id sz n rows es _ _ _ _ _ _ _=>exact⟨rfl,rfl⟩
theorem Own.first{r:List AV}{e:List PV}{J:List Nat}(H2:Own n h2 r e J)(he:e.length=sz)(hn:n<=h2.length):Own n (h2++[.row sz [r]]) [.sl h2.length sz 0 1] [.lst sz [e]] (h2.length::J):=by
 have hl:∀j∈J,j<h2.length:=H2.lt
 refine Own.of (rows:=[r]) ⟨by rw[List.getElem?_append_right (Nat.le_refl _)];simp,rfl,λx hx=>by rw[List.mem_singleton.1 hx,H2.own.len,he],λx hx=>by rw[List.mem_singleton.1 hx,he],by simpa using H2.own.more [.row sz [r]],List.nodup_cons.2 ⟨λhm=>by have:=hl _ hm;omega,H2.nd⟩⟩ (λx hx=>by rw[List.mem_singleton.1 hx];exact H2.nv) (H2.more _).no (λj hj=>by
  rcases List.mem_cons.1 hj with rfl|hj
  ·exact hn
  ·exact H2.ge j hj) rfl
theorem Own.push{id:Nat}{rows:List (List AV)}{J:List Nat}(H:Own n h [.sl id sz 0 D.length] [.lst sz D] (id::J))(hr:RowOwn true h id sz rows D J){os:List AO}(e2:h2=h++os){r:List AV}{e:List PV}{J2:List Nat}(H2:Own n h2 r e J2)(he:e.length=sz)(hd:∀j∈J2,j≠id/\j∉J):
 Own n (h2.set id .dead++[.row sz (rows++[r])]) [.sl h2.length sz 0 (D.length+1)] [.lst sz (D++[e])] (h2.length::(J++J2)):=by
 have R:=Ah hr (rs:=[r]) (es:=[e]) e2 (by simpa using H2.own) rfl (λx hx=>by rw[List.mem_singleton.1 hx,H2.own.len,he]) (λx hx=>by rw[List.mem_singleton.1 hx,he]) H2.nd hd
 have hid:=hr.lt
 have hnJ:id∉J:=(List.nodup_cons.1 hr.nd).1
 have hlJ:∀j∈J,j<h.length:=λj hj=>hr.own.lt hj
 have hl2:h.length<=h2.length:=by rw[e2];simp
 have hr0:=H.no id (by simp) sz rows hr.here
 refine Own.of R (λx hx=>?_) ?_ (λj hj=>?_) (by simp)
 ·rcases List.mem_append.1 hx with h1|h1
  ·exact hr0 x h1
  ·rw[List.mem_singleton.1 h1];exact H2.nv
 ·refine NoL.app ((H.no.sub (J:=J) λj hj=>by simp[hj]).frame λi hi=>?_) (H2.no.frame λi hi=>?_)
  ·have hil:=hlJ i hi
   have hne:id≠i:=λe=>hnJ (e▸hi)
   rw[List.getElem?_append_left (by rw[List.length_set];omega),List.getElem?_set_ne hne,e2,List.getElem?_append_left hil]
  ·rw[List.getElem?_append_left (by rw[List.length_set];exact H2.lt i hi),List.getElem?_set_ne (Ne.symm (hd i hi).1)]
 ·rcases List.mem_cons.1 hj with rfl|hj
  ·have:=H.ge id (by simp);omega
  ·rcases List.mem_append.1 hj with hj|hj
   ·exact H.ge j (by simp[hj])
   ·exact H2.ge j hj
theorem Own.upd{id:Nat}{rows:List (List AV)}{J:List Nat}(H:Own n h [.sl id sz 0 D.length] [.lst sz D] (id::J))(hr:RowOwn true h id sz rows D J){i:Nat}{e:List PV}(hi:D[i]?=some e):
 ∃r Ji,rows[i]?=some r/\Own n h r e Ji/\(∀j∈Ji,j∈J/\j≠id)/\∀(h2:List AO) (r':List AV) (e':List PV) (I2:List Nat),h2[id]?=some (.row sz (rows.set i r'))->(∀j∈J,j∉Ji->h2[j]?=h[j]?)->Own n h2 r' e' I2->(∀j∈I2,j∈Ji\/(j≠id/\j∉J))->e'.length=sz->
  ∃J',Own n h2 [.sl id sz 0 D.length] [.lst sz (D.set i e')] (id::J')/\∀j∈J',j∈J\/j∈I2:=by
 have hr0:=H.no id (by simp) sz rows hr.here
 have hnJ:id∉J:=(List.nodup_cons.1 hr.nd).1
 have hNo:NoL h J:=H.no.sub λj hj=>by simp[hj]
 obtain⟨r,J1,Ji,J2,g1,rfl,g3,g4⟩:=hr.own.put hr.len hr.rl hr.dl hi
 have hn:=hr.nd
 simp only[List.nodup_cons,List.nodup_append,List.mem_append,not_or] at hn
 obtain⟨⟨n1,n2,n3⟩,m1,⟨m2,m3,m4⟩,m5⟩:=hn
 refine⟨r,Ji,g1,⟨g3,m2,hNo.sub λj hj=>by simp[hj],hr0 r (List.mem_of_getElem? g1),λj hj=>H.ge j (by simp[hj])⟩,λj hj=>⟨by simp[hj],λe=>hnJ (by rw[←e];simp[hj])⟩,λh2 r' e' I2 k1 k2 k3 k4 k5=>?_⟩
 simp only[List.mem_append,not_or] at k4
 have hs1:∀j∈J1,h2[j]?=h[j]?:=λj hj=>k2 j (by simp[hj]) λhm=>m5 j hj j (.inl hm) rfl
 have hs2:∀j∈J2,h2[j]?=h[j]?:=λj hj=>k2 j (by simp[hj]) λhm=>m4 j hm j hj rfl
 have hid2:id∉I2:=λhm=>by
  rcases k4 _ hm with h|h
  ·exact n2 h
  ·exact h.1 rfl
 refine⟨J1++(I2++J2),⟨?_,?_,?_,λv hv=>by rw[List.mem_singleton.1 hv];rfl,λj hj=>?_⟩,λj hj=>?_⟩
 ·have:=OwnL.sl (s:=true) (h:=h2) id sz D.length (rows.set i r') (D.set i e') k1 (by simp) (by simp[hr.len]) (λx hx=>by
   rcases List.mem_or_eq_of_mem_set hx with h1|rfl
   ·exact hr.rl x h1
   ·rw[k3.own.len,k5]) (λx hx=>by
   rcases List.mem_or_eq_of_mem_set hx with h1|rfl
   ·exact hr.dl x h1
   ·exact k5) (g4 h2 r' e' I2 (λj hj=>(List.mem_append.1 hj).elim (hs1 j) (hs2 j)) k3.own) .nil
  rwa[List.append_nil] at this
 ·simp only[List.nodup_cons,List.nodup_append,List.mem_append,not_or]
  refine⟨⟨n1,hid2,n3⟩,m1,⟨k3.nd,m3,λa ha b hb e=>?_⟩,λa ha b hb e=>?_⟩
  ·subst e
   rcases k4 _ ha with h|h
   ·exact m4 a h a hb rfl
   ·exact h.2.2.2 hb
  ·subst e
   rcases hb with hb|hb
   ·rcases k4 _ hb with h|h
    ·exact m5 a ha a (.inl h) rfl
    ·exact h.2.1 ha
   ·exact m5 a ha a (.inr hb) rfl
 ·refine NoL.cons k1 (λx hx=>?_) (((hNo.sub (J:=J1) λj hj=>by simp[hj]).frame hs1).app (k3.no.app ((hNo.sub (J:=J2) λj hj=>by simp[hj]).frame hs2)))
  rcases List.mem_or_eq_of_mem_set hx with h1|rfl
  ·exact hr0 x h1
  ·exact k3.nv
 ·simp only[List.mem_cons,List.mem_append] at hj
  rcases hj with rfl|hj|hj|hj
  ·exact H.ge _ (by simp)
  ·exact H.ge j (by simp[hj])
  ·exact k3.ge j hj
  ·exact H.ge j (by simp[hj])
 ·simp only[List.mem_append] at hj⊢
  rcases hj with hj|hj|hj
  ·exact .inl (.inl hj)
  ·exact .inr hj
  ·exact .inl (.inr (.inr hj))
end
variable (G:aB)
end
section
section
variable {n:Nat} {h h2:List AO} {vs:List AV} {qs:List PV} {I:List Nat} {V:AV}
theorem Own.int{k:Int}(H:Own n h vs (.int .i64 k::qs) I):∃us,vs= .p (.int .i64 k)::us/\Own n h us qs I:=by
 obtain⟨v,us,I1,I2,rfl,rfl,h1,h2⟩:=H.one
 cases h1.own with
 |p _ _ hh=>cases hh;exact⟨us,rfl,h2⟩
theorem Own.single{q:PV}(H:Own n h vs [q] I):∃v,vs=[v]/\Own n h [v] [q] I:=by
 obtain⟨v,rfl⟩:=Aa H.own
 exact⟨v,rfl,H⟩
theorem Own.putI(H:Own n h vs qs I)(k:Int):Own n h (.p (.int .i64 k)::vs) (.int .i64 k::qs) I:=H.sc _ rfl rfl
theorem uO{b:Bk}(H:Own n h vs b.cs I):∃P N X IP IN IX,vs=[P,N,.p (.int .i64 b.jump),.p (.int .i64 b.on),X]/\I=IP++(IN++IX)/\Own n h [P] [phL b.phis] IP/\Own n h [N] [inL b.ins] IN/\Own n h [X] [aC b.next] IX:=by
 rw[show b.cs=[phL b.phis,inL b.ins,.int .i64 b.jump,.int .i64 b.on,aC b.next] from rfl] at H
 obtain⟨P,u1,IP,I1,rfl,rfl,hP,H⟩:=H.one
 obtain⟨N,u2,IN,I2,rfl,rfl,hN,H⟩:=H.one
 obtain⟨u3,rfl,H3⟩:=H.int
 obtain⟨u4,rfl,H4⟩:=H3.int
 obtain⟨X,rfl,H5⟩:=H4.single
 exact⟨P,N,X,IP,IN,I2,rfl,rfl,hP,hN,H5⟩
theorem pS{b:Bk}{P N X:AV}{IP IN IX:List Nat}(hP:Own n h [P] [phL b.phis] IP)(hN:Own n h [N] [inL b.ins] IN)(hX:Own n h [X] [aC b.next] IX)(d1:∀j∈IP,j∉IN/\j∉IX)(d2:∀j∈IN,j∉IX):Own n h [P,N,.p (.int .i64 b.jump),.p (.int .i64 b.on),X] b.cs (IP++(IN++IX)):=by
 rw[show b.cs=[phL b.phis,inL b.ins,.int .i64 b.jump,.int .i64 b.on,aC b.next] from rfl]
 exact hP.app (hN.app ((hX.putI b.on).putI b.jump) d2) λj hj hm=>(List.mem_append.1 hm).elim (d1 j hj).1 (d1 j hj).2
theorem Gc{x:Ii}(H:Own n h vs x.cs I):∃A,vs=[.p (.int .i64 x.op),.p (.int .i64 x.to),A,.p (.int .i64 x.n)]/\Own n h [A] [aC x.args] I:=by
 rw[show x.cs=[.int .i64 x.op,.int .i64 x.to,aC x.args,.int .i64 x.n] from rfl] at H
 obtain⟨u1,rfl,H1⟩:=H.int
 obtain⟨u2,rfl,H2⟩:=H1.int
 obtain⟨A,u3,IA,I2,rfl,rfl,hA,H3⟩:=H2.one
 obtain⟨u4,rfl,H4⟩:=H3.int
 have:=H4.own
 cases this
 exact⟨A,rfl,by rw[List.append_nil];exact hA⟩
theorem uG{x:Ii}{A:AV}(H:Own n h [A] [aC x.args] I):Own n h [.p (.int .i64 x.op),.p (.int .i64 x.to),A,.p (.int .i64 x.n)] x.cs I:=by
 have h2:Own n h ([A]++[.p (.int .i64 x.n)]) ([aC x.args]++[.int .i64 x.n]) (I++[]):=H.app ((Own.nix n h).putI _) λj _ hm=>by cases hm
 rw[List.append_nil] at h2
 exact(h2.putI x.to).putI x.op
theorem ux{x:Ph}{A:AV}(H:Own n h [A] [aC x.args] I):Own n h [.p (.int .i64 x.to),A] x.cs I:=H.putI _
theorem AD{c:Cd}(H:Own n h vs c.cs I):∃A,vs=[.p (.int .i64 c.params),.p (.int .i64 c.regs),A]/\Own n h [A] [bkL c.blocks] I:=by
 rw[show c.cs=[.int .i64 c.params,.int .i64 c.regs,bkL c.blocks] from rfl] at H
 obtain⟨u1,rfl,H1⟩:=H.int
 obtain⟨u2,rfl,H2⟩:=H1.int
 obtain⟨A,rfl,H3⟩:=H2.single
 exact⟨A,rfl,H3⟩
theorem pQ{c:Cd}{A:AV}(H:Own n h [A] [bkL c.blocks] I):Own n h [.p (.int .i64 c.params),.p (.int .i64 c.regs),A] c.cs I:=(H.putI _).putI _
theorem cf{id m:Nat}{l:List Int}(hg:h[id]?=some (.row 1 (l.map λn=>[AV.p (.int .i64 n)])))(hn:n<=id)(hm:m=l.length):Own n h [.sl id 1 0 m] [aC l] [id]:=by
 have hf:∀l:List Int,OwnL true h (l.map λn=>[AV.p (.int .i64 n)]).flatten (l.map λn=>[PV.int .i64 n]).flatten []:=λl=>by
  induction l with
  |nil=>exact .nil
  |cons x r ih=>exact .p _ (λ_=>rfl) ih
 refine Own.of (D:=l.map λn=>[PV.int .i64 n]) ⟨hg,by simp,λe he=>by obtain⟨w,_,rfl⟩:=List.mem_map.1 he;rfl,λe he=>by obtain⟨w,_,rfl⟩:=List.mem_map.1 he;rfl,hf l,by simp⟩ (λr hr v hv=>?_) (λj hj=>by cases hj) (λj hj=>by rw[List.mem_singleton.1 hj];exact hn) (by simp[hm])
 obtain⟨w,_,rfl⟩:=List.mem_map.1 hr
 rw[List.mem_singleton.1 hv];rfl
end
end
section
theorem tn:AK.whole iL=FK.ak iy:=rfl
theorem Bo{h h2:List AO}(hl:h.length<=h2.length)(hf:∀j,j<h.length->h2[j]?=h[j]?):∃os,h2=h++os:=by
 refine⟨h2.drop h.length,List.ext_getElem? λi=>?_⟩
 rcases Nat.lt_or_ge i h.length with hi|hi
 ·rw[List.getElem?_append_left hi,hf i hi]
 ·rw[List.getElem?_append_right hi,List.getElem?_drop];congr 1;omega
variable (G:aB)
theorem Ly{b:List Int}{q:Nat}{R os:List AO}{k j:Nat}{o:AO}(hk:k=R.length+j+1)(h:os[j]?=some o):(rdO b q::(R++os))[k]?=some o:=by
 rw[hk,List.getElem?_cons_succ,List.getElem?_append_right (by omega),Nat.add_sub_cancel_left];exact h
theorem rz{b:List Int}(hb:Byt b)(hl:b.length<=2000){p:Nat}(hp:p<=1099511627776)(l:List Int){R os:List AO}{k:Nat}(j:Nat)(hk:k=R.length+j+1)(h1:os[j]?=some (vW l))(hne:l≠[])(hll:l.length<=1099511627776):
 AC Try.prog G aZ [.ptr 0 2 0 0,.sl k 1 0 l.length] (rdO b p::(R++os)) λx h'=>∃n,n∈l/\x= .ret (.p (.int .i64 n))/\h'=rdO b (p+1)::(R++os):=
 jm G hb hl hp l hne hll (by omega) rfl (Ly hk h1)
theorem zX{b:List Int}(hb:Byt b)(hl:b.length<=2000){p:Nat}(hp:p<=1000000000000)(R:List AO)(i n:Nat)(hn:n<=100)(hi:i<n):AC Try.prog G fg [.ptr 0 2 0 0,.p (.int .i64 i),.p (.int .i64 n)] (rdO b p::R) λx h=>∃(k:Int) (q:Nat),x= .ret (.p (.int .i64 k))/\h=rdO b q::R/\p<=q/\q<=p+2:=by
 refine AC.go yw ?_
 have hw:IntKind.i64.wrap ((n:Int)-1)=(n:Int)-1:=ag (by omega) (by omega)
 have key:∀q,p<=q->q<=p+1->AC Try.prog G bB [.ptr 0 2 0 0,.p (.int .i64 ((n:Int)-1))] (rdO b q::R) λx h=>∃k:Nat,x= .ret (.p (.int .i64 k))/\h=rdO b (q+1)::R/\((k:Int)<(n:Int)-1\/k=0):=λq _ _=>aG G b hb hl q (by omega) _ R
 by_cases hc:(i:Int)<(n:Int)-1
 ·simp-implicitDefEqProofs[ku,hw,hc]
  refine(aG G b hb hl p (by omega) _ R).mono ?_
  rintro r h ⟨k,rfl,rfl,hk⟩
  simp-implicitDefEqProofs[aa]
  have hw2:IntKind.i64.wrap ((i:Int)+1)=(i:Int)+1:=ag (by omega) (by omega)
  refine aF (λh0=>?_) (λh0=>?_)
  ·simp-implicitDefEqProofs[hw,hw2]
   refine(aG G b hb hl (p+1) (by omega) _ R).mono ?_
   rintro r h ⟨k2,rfl,rfl,hk2⟩
   simp-implicitDefEqProofs[aa]
   exact⟨p+1+1,rfl,by omega,by omega⟩
  ·simp-implicitDefEqProofs[hw]
   refine(aG G b hb hl (p+1) (by omega) _ R).mono ?_
   rintro r h ⟨k2,rfl,rfl,hk2⟩
   simp-implicitDefEqProofs[aa]
   exact⟨p+1+1,rfl,by omega,by omega⟩
 ·simp-implicitDefEqProofs[ku,hw,hc]
  refine(aG G b hb hl p (by omega) _ R).mono ?_
  rintro r h ⟨k,rfl,rfl,hk⟩
  simp-implicitDefEqProofs[aa]
  exact⟨p+1,rfl,by omega,by omega⟩
def CdsAt(R:List AO)(U:AV)(cs:List Cd):Prop:=(U= .nils/\cs=[])\/∃u rows,cs≠[]/\U= .sl (u+1) 3 0 cs.length/\R[u]?=some (.row 3 rows)/\∀(k:Nat) (c:Cd),cs[k]?=some c->∃V,rows[k]?=some [.p (.int .i64 c.params),.p (.int .i64 c.regs),V]/\c.params<=3
theorem CdsAt.cell{R:List AO}{U:AV}{cs:List Cd}(H:CdsAt R U cs):U.cells=[U]/\U.isCell=true:=by rcases H with⟨rfl,_⟩|⟨u,rows,_,rfl,_⟩<;>exact⟨rfl,rfl⟩
theorem Ib{n:Nat}{o o':AO}{W:List AO}{vs:List AV}{qs:List PV}{I:List Nat}(H:Own (n+1) (o::W) vs qs I):Own (n+1) (o'::W) vs qs I:=H.frame λi hi=>by
 have:=H.ge i hi
 obtain⟨k,rfl⟩:∃k,i=k+1:=⟨i-1,by omega⟩
 rfl
structure SmI (R:List AO) (op to n:Int) (W:List AO) (A:AV) (args:List Int) (I:List Nat):Prop where
 len:R.length+4<=W.length
 pre:∀i,i<R.length->W[i]?=R[i]?
 res:W[R.length+1]?=some (.row 4 [[.p (.int .i64 0),.p (.int .i64 0),.nils,.p (.int .i64 0)]])
 x:W[R.length+3]?=some (.row 4 [[.p (.int .i64 op),.p (.int .i64 to),A,.p (.int .i64 n)]])
 own:Own (R.length+5) (.dead::W) [A] [aC args] I
structure SmT where (i q:Nat) (W:List AO)
theorem SmI.first{R:List AO}{op to n:Int}{W:List AO}{I:List Nat}(H:SmI R op to n W .nils [] I)(k:Int):SmI R op to n ((W++[AO.row 1 [[.p (.int .i64 k)]]]).set (R.length+3) (.row 4 [[.p (.int .i64 op),.p (.int .i64 to),.sl (W.length+1) 1 0 1,.p (.int .i64 n)]])) (.sl (W.length+1) 1 0 1) [k] [W.length+1]:=by
 have hl:=H.len
 refine⟨by simp;omega,λi hi=>?_,?_,?_,?_⟩
 ·rw[List.getElem?_set_ne (by omega),List.getElem?_append_left (by omega)];exact H.pre i hi
 ·rw[List.getElem?_set_ne (by omega),List.getElem?_append_left (by omega)];exact H.res
 ·exact List.getElem?_set_self (by simp;omega)
 ·refine cf (l:=[k]) ?_ (by omega) rfl
  rw[List.getElem?_cons_succ,List.getElem?_set_ne (by omega),List.getElem?_append_right (Nat.le_refl _)];simp
theorem SmI.more{R:List AO}{op to n:Int}{W:List AO}{I:List Nat}{id:Nat}{args:List Int}(H:SmI R op to n W (.sl (id+1) 1 0 args.length) args I)(hid:R.length+4<=id)(hg:W[id]?=some (.row 1 (args.map λn=>[AV.p (.int .i64 n)])))(k:Int):SmI R op to n ((W.set id .dead++[AO.row 1 ((args.map λn=>[AV.p (.int .i64 n)])++[[.p (.int .i64 k)]])]).set (R.length+3) (.row 4 [[.p (.int .i64 op),.p (.int .i64 to),.sl (W.length+1) 1 0 (args.length+1),.p (.int .i64 n)]])) (.sl (W.length+1) 1 0 (args.length+1)) (args++[k]) [W.length+1]:=by
 have hl:=H.len
 refine⟨by simp;omega,λi hi=>?_,?_,?_,?_⟩
 ·rw[List.getElem?_set_ne (by omega),List.getElem?_append_left (by simp;omega),List.getElem?_set_ne (by omega)];exact H.pre i hi
 ·rw[List.getElem?_set_ne (by omega),List.getElem?_append_left (by simp;omega),List.getElem?_set_ne (by omega)];exact H.res
 ·exact List.getElem?_set_self (by simp;omega)
 ·refine cf (l:=args++[k]) ?_ (by omega) (by simp)
  rw[List.getElem?_cons_succ,List.getElem?_set_ne (by omega),List.getElem?_append_right (by simp)];simp
theorem nw{h:List AO}{n id m:Nat}{l:List Int}{I:List Nat}(H:Own n h [.sl id 1 0 m] [aC l] I):m=l.length/\I=[id]/\n<=id/\h[id]?=some (.row 1 (l.map λn=>[AV.p (.int .i64 n)])):=by
 have hge:=H.ge
 rcases H.row with⟨h1,_⟩|⟨id2,rows,J,e1,e2,hr,_⟩
 ·cases h1
 ·rw[List.length_map] at e1
  cases e1
  have key:∀(rows:List (List AV)) (l:List Int) (J:List Nat),rows.length=l.length->(∀e∈rows,e.length=1)->OwnL true h rows.flatten (l.map λw=>[PV.int .i64 w]).flatten J->rows=(l.map λn=>[AV.p (.int .i64 n)])/\J=[]:=by
   intro rows
   induction rows with
   |nil=>
    intro l J hl _ ho
    cases l with
    |nil=>cases ho;exact⟨rfl,rfl⟩
    |cons _ _=>simp at hl
   |cons r rs ih=>
    intro l J hl h1 ho
    cases l with
    |nil=>simp at hl
    |cons w ws=>
     obtain⟨v,rfl⟩:∃v,r=[v]:=by
      have:=h1 r (by simp)
      match r,this with
      |[v],_=>exact⟨v,rfl⟩
     have ho2:OwnL true h (v::rs.flatten) (PV.int .i64 w::(ws.map λw=>[PV.int .i64 w]).flatten) J:=ho
     cases ho2 with
     |p _ _ ho3=>
      obtain⟨a,b⟩:=ih ws J (by simpa using hl) (λe he=>h1 e (by simp[he])) ho3
      exact⟨by rw[a];rfl,b⟩
  obtain⟨a,b⟩:=key rows l J (by have:=hr.len;simpa using this) hr.rl hr.own
  subst b;subst e2
  exact⟨rfl,rfl,hge id (by simp),by rw[hr.here,a]⟩
structure SmC where (to n many:Int) (q:Nat) (W:List AO)
theorem DQ{b:List Int}(hb:Byt b)(hl:b.length<=2000){p:Nat}(hp:p<=1000000000000)(R:List AO)(U:AV)(cs:List Cd)(hU:CdsAt R U cs)(regs:Int):AC Try.prog G iE [.ptr 0 2 0 0,.agg [U],.p (.int .i64 regs)] (rdO b p::R) λx h=>∃(y:Ii) (A:AV) (I:List Nat) (q:Nat) (os:List AO),x= .ret (.agg [.p (.int .i64 y.op),.p (.int .i64 y.to),A,.p (.int .i64 y.n)])/\h=rdO b q::(R++os)/\Own (R.length+1) h [A] [aC y.args] I/\y.args.length<=3/\p<=q/\q<=p+10:=by
 obtain⟨u1,u2⟩:=hU.cell
 have hRR:∀(t:List AO) (i:Nat),i<R.length->(R++t)[i]?=R[i]?:=λt i hi=>List.getElem?_append_left hi
 refine AC.goK tr tn ?_
 simp-implicitDefEqProofs[-AV.cells,-AV.isCell,aD,ae,ah,an,al,aE,af,am,aj,u1,u2,iL,iy]
 refine(rz G hb hl (by omega) [1,1,2,3,4,5,8,9,10,13,3,6,7,11,12,14] 2 (by omega) rfl (by simp) (by simp)).mono ?_
 rintro r h ⟨op,hop,rfl,rfl⟩
 simp-implicitDefEqProofs[-AV.cells,-AV.isCell,aD,ae,ah,an,al,aE,af,am,aj,u1,u2,aa]
 refine(aG G b hb hl (p+1) (by omega) regs _).mono ?_
 rintro r h ⟨k1,rfl,rfl,_⟩
 simp-implicitDefEqProofs[-AV.cells,-AV.isCell,aD,ae,ah,an,al,aE,af,am,aj,u1,u2,aa]
 refine(ru G op).use ?_
 simp-implicitDefEqProofs[-AV.cells,-AV.isCell,aD,ae,ah,an,al,aE,af,am,aj,u1,u2]
 have h7:op≠14->l7N op<=3:=by
  simp at hop
  rcases hop with rfl|rfl|rfl|rfl|rfl|rfl|rfl|rfl|rfl|rfl|rfl|rfl|rfl|rfl|rfl|rfl<;>simp[l7N,inR]
 refine fA (λs:SmC=>aA 69 [(9,.p (.int .i64 s.many)),(8,.ptr (R.length+3+1) 4 0 0),(7,.p (.int .i64 op)),(6,.ptr (R.length+1+1) 4 0 0),(2,.p (.int .i64 regs)),(0,.ptr 0 2 0 0)]) (λs=>rdO b s.q::s.W) (λs=>SmI R op s.to s.n s.W .nils [] []/\s.many<=3/\p<=s.q/\s.q<=p+4) ?_ ?_
 ·simp-implicitDefEqProofs[]
  refine aF (λh14=>?_) (λh14=>?_)
  ·have h14:op=14:=by simpa using h14
   subst h14
   rcases hU with⟨rfl,rfl⟩|⟨u,rows,hc0,rfl,hg,hrow⟩
   ·simp-implicitDefEqProofs[]
    refine(aG G b hb hl (p+1+1) (by omega) regs _).mono ?_
    rintro r h ⟨k2,rfl,rfl,_⟩
    simp-implicitDefEqProofs[aa]
    refine⟨⟨13,-1,[(k2:Int)],0⟩,_,⟨rfl,rfl,rfl,rfl⟩,[R.length+4+1],p+1+1+1,rfl,cf ?_ (by omega) rfl,by simp,by omega,by omega⟩
    rw[List.getElem?_cons_succ,List.getElem?_append_right (by omega),Nat.add_sub_cancel_left];rfl
   ·have hul:=(List.getElem?_eq_some_iff.1 hg).1
    have hgm:∀t,(R++t)[u]?=some (.row 3 rows):=λt=>by rw[hRR t u hul];exact hg
    simp-implicitDefEqProofs[hgm,hc0]
    refine(aG G b hb hl (p+1+1) (by omega) _ _).mono ?_
    rintro r h ⟨k2,rfl,rfl,hk2⟩
    have hk2l:k2<cs.length:=by
     have:=List.length_pos_iff.2 hc0
     omega
    have hgc:=List.getElem?_eq_getElem hk2l
    generalize cs[k2]=c at hgc
    obtain⟨V,hr,hc3⟩:=hrow k2 c hgc
    simp-implicitDefEqProofs[aa,hgm,hr,hk2l]
    refine⟨⟨k1,k2,c.params,p+1+1+1,_⟩,⟨⟨?_,?_,?_,?_,?_⟩,hc3,by simp only;omega,by simp only;omega⟩,ab ?_ ?_⟩
    rotate_left 5
    ·simp
    ·simp[below]
     try omega
    ·simp
    ·exact λi hi=>List.getElem?_append_left hi
    ·rw[List.getElem?_append_right (by omega),Nat.add_sub_cancel_left];rfl
    ·rw[List.getElem?_append_right (by omega),Nat.add_sub_cancel_left];rfl
    ·exact Own.nil _ _ 1
  ·have h14:¬op=14:=by simpa using h14
   refine⟨⟨k1,0,l7N op,p+1+1,_⟩,⟨⟨?_,?_,?_,?_,?_⟩,h7 h14,by simp only;omega,by simp only;omega⟩,ab ?_ ?_⟩
   rotate_left 5
   ·simp
   ·simp[below]
    try omega
   ·simp
   ·exact λi hi=>List.getElem?_append_left hi
   ·rw[List.getElem?_append_right (by omega),Nat.add_sub_cancel_left];rfl
   ·rw[List.getElem?_append_right (by omega),Nat.add_sub_cancel_left];rfl
   ·exact Own.nil _ _ 1
 rintro⟨to,n,many,q,W⟩ ⟨hS,hm,hq1,hq2⟩
 simp only at hS hm hq1 hq2⊢
 have hWl:=hS.len
 refine fA (λs:SmC=>aA 69 [(9,.p (.int .i64 many)),(8,.ptr (R.length+3+1) 4 0 0),(7,.p (.int .i64 op)),(6,.ptr (R.length+1+1) 4 0 0),(2,.p (.int .i64 regs)),(0,.ptr 0 2 0 0)]) (λs=>rdO b s.q::s.W) (λs=>SmI R op s.to s.n s.W .nils [] []/\p<=s.q/\s.q<=p+5) ?_ ?_
 ·simp-implicitDefEqProofs[]
  refine aF (λh1=>?_) (λh1=>?_)
  ·have hx:∀t,(W++t)[R.length+3]?=some (.row 4 [[.p (.int .i64 op),.p (.int .i64 to),.nils,.p (.int .i64 n)]]):=λt=>by rw[List.getElem?_append_left (by omega)];exact hS.x
   simp-implicitDefEqProofs[]
   refine(jm G hb hl (by omega) [0,1,2,3,15,16,255] (by simp) (by simp) (by omega) rfl (by rw[List.getElem?_cons_succ,List.getElem?_append_right (Nat.le_refl _),Nat.sub_self];rfl)).mono ?_
   rintro r h ⟨m,_,rfl,rfl⟩
   simp-implicitDefEqProofs[aa,hx]
   refine⟨⟨to,m,0,q+1,_⟩,⟨⟨?_,?_,?_,?_,?_⟩,by simp only;omega,by simp only;omega⟩,ab ?_ ?_⟩
   rotate_left 5
   ·simp;omega
   ·simp[below]
    omega
   ·simp;omega
   ·intro i hi
    rw[List.getElem?_set_ne (by omega),List.getElem?_append_left (by omega)];exact hS.pre i hi
   ·rw[List.getElem?_set_ne (by omega),List.getElem?_append_left (by omega)];exact hS.res
   ·exact List.getElem?_set_self (by simp;omega)
   ·exact Own.nil _ _ 1
  ·refine⟨⟨to,n,0,q,W⟩,⟨hS,hq1,by simp only;omega⟩,ab ?_ ?_⟩
   ·simp;omega
   ·simp[below]
    omega
 clear hWl hS hq2
 rintro⟨to,n,_,q,W⟩ ⟨hS,hq1,hq2⟩
 simp only at hS hq1 hq2⊢
 have hWl:=hS.len
 refine fA (λs:SmC=>aA 69 [(9,.p (.int .i64 many)),(8,.ptr (R.length+3+1) 4 0 0),(7,.p (.int .i64 op)),(6,.ptr (R.length+1+1) 4 0 0),(2,.p (.int .i64 regs)),(0,.ptr 0 2 0 0)]) (λs=>rdO b s.q::s.W) (λs=>SmI R op s.to s.n s.W .nils [] []/\p<=s.q/\s.q<=p+5) ?_ ?_
 ·simp-implicitDefEqProofs[]
  refine(jp G op).use ?_
  simp-implicitDefEqProofs[]
  refine aF (λh1=>?_) (λh1=>?_)
  ·simp-implicitDefEqProofs[hS.x]
   refine⟨⟨-1,n,0,q,_⟩,⟨⟨?_,?_,?_,?_,?_⟩,by simp only;omega,by simp only;omega⟩,ab ?_ ?_⟩
   rotate_left 5
   ·simp;omega
   ·simp[below]
    omega
   ·simp;omega
   ·intro i hi
    rw[List.getElem?_set_ne (by omega)];exact hS.pre i hi
   ·rw[List.getElem?_set_ne (by omega)];exact hS.res
   ·exact List.getElem?_set_self (by omega)
   ·exact Own.nil _ _ 1
  ·refine⟨⟨to,n,0,q,W⟩,⟨hS,hq1,by simp only;omega⟩,ab ?_ ?_⟩
   ·simp;omega
   ·simp[below]
    omega
 clear hWl hS hq2
 rintro⟨to,n,_,q,W⟩ ⟨hS,hq1,hq2⟩
 simp only at hS hq1 hq2⊢
 simp-implicitDefEqProofs[]
 refine aH (λs:SmT=>aA 69 [(10,.p (.int .i64 s.i)),(9,.p (.int .i64 many)),(8,.ptr (R.length+3+1) 4 0 0),(6,.ptr (R.length+1+1) 4 0 0),(2,.p (.int .i64 regs)),(0,.ptr 0 2 0 0)]) (λs=>rdO b s.q::s.W) (λs=>s.i<=3/\p<=s.q/\s.q<=p+5+s.i/\∃A args I,SmI R op to n s.W A args I/\args.length=s.i) (λs=>3-s.i) ⟨0,q,W⟩ ⟨by simp,hq1,by simpa using hq2,_,_,_,hS,rfl⟩ (ab (by have:=hS.len;simp;omega) (by have:=hS.len;simp[below];omega)) ?_
 clear hS hq1 hq2 W q
 rintro⟨i,q,W⟩ ⟨hi,hq1,hq2,A,args,I,hS,hal⟩
 simp only at hi hq1 hq2 hS hal⊢
 have hWl:=hS.len
 obtain⟨v1,v2⟩:=hS.own.cell
 simp-implicitDefEqProofs[]
 refine aF (λhc=>?_) (λhc=>?_)
 ·simp at hc
  have hw1:=w1 (i:=i) (by omega)
  simp-implicitDefEqProofs[-AV.cells,-AV.isCell,aD,ae,ah,an,al,aE,af,am,aj,v1,v2,hS.x]
  refine(aG G b hb hl q (by omega) _ _).mono ?_
  rintro r h ⟨k,rfl,rfl,_⟩
  have hm3:i<3:=by omega
  rcases hS.own.row with⟨rfl,h2,rfl⟩|⟨id,rows,J,hA,_⟩
  ·have h0:args=[]:=List.map_eq_nil_iff.1 h2
   subst h0
   have h0:i=0:=hal.symm
   subst h0
   have hx:∀t,(W++t)[R.length+3]?=some (.row 4 [[.p (.int .i64 op),.p (.int .i64 to),.nils,.p (.int .i64 n)]]):=λt=>by rw[List.getElem?_append_left (by omega)];exact hS.x
   simp-implicitDefEqProofs[aa,hx,hS.x]
   have hw11:IntKind.i64.wrap 1=1:=ag (by omega) (by omega)
   refine⟨⟨1,q+1,_⟩,⟨by simp,by simp only;omega,by simp only;omega,_,_,⟨_,hS.first k⟩,rfl⟩,by simp,ab ?_ ?_⟩
   ·simp;omega
   ·simp[below,hw11]
    omega
  ·rw[List.length_map] at hA
   subst hA
   obtain⟨_,_,hid5,hg⟩:=nw hS.own
   obtain⟨f,rfl⟩:∃f,id=f+1:=⟨id-1,by omega⟩
   rw[List.getElem?_cons_succ] at hg
   have hfl:=(List.getElem?_eq_some_iff.1 hg).1
   have hx:∀t,(W.set f .dead++t)[R.length+3]?=some (.row 4 [[.p (.int .i64 op),.p (.int .i64 to),.sl (f+1) 1 0 args.length,.p (.int .i64 n)]]):=λt=>by rw[List.getElem?_append_left (by simp;omega),List.getElem?_set_ne (by omega)];exact hS.x
   have htk:List.take args.length (args.map λn=>[AV.p (.int .i64 n)])=args.map λn=>[AV.p (.int .i64 n)]:=List.take_of_length_le (by simp)
   have hmr:=hS.more (by omega) hg k
   simp-implicitDefEqProofs[aa,hS.x,hg,hx,htk]
   refine⟨by omega,⟨i+1,q+1,_⟩,⟨by simp only;omega,by simp only;omega,by simp only;omega,_,_,⟨_,hmr⟩,by simp[hal]⟩,by simp only;omega,ab ?_ ?_⟩
   ·simp;omega
   ·simp[below,hw1]
    omega
 ·have hs1:∀o,(W.set (R.length+1) o)[R.length+1]?=some o:=λo=>List.getElem?_set_self (by omega)
  simp-implicitDefEqProofs[-AV.cells,-AV.isCell,aD,ae,ah,an,al,aE,af,am,aj,v1,v2,hS.x,hS.res,hs1]
  refine⟨⟨op,to,args,n⟩,A,⟨rfl,rfl,rfl,rfl⟩,I,q,⟨rfl,Bo (by simp;omega) λj hj=>?_⟩,?_,by simp only;omega,hq1,by omega⟩
  ·rw[List.getElem?_set_ne (by omega)];exact hS.pre j hj
  ·refine((Ib (o':=rdO b q) hS.own).frame λj hj=>?_).low λj hj=>by have:=hS.own.ge j hj;omega
   have:=hS.own.ge j hj
   obtain⟨f,rfl⟩:∃f,j=f+1:=⟨j-1,by omega⟩
   rw[List.getElem?_cons_succ,List.getElem?_cons_succ,List.getElem?_set_ne (by omega)]
end
section
def Psh(H:List AO)(V:AV)(sz:Nat)(r:List AV)(H':List AO)(V':AV):Prop:=
 (V= .nils/\H'=H++[.row sz [r]]/\V'= .sl H.length sz 0 1)\/∃id rows m,V= .sl id sz 0 m/\H[id]?=some (.row sz rows)/\rows.length=m/\H'=H.set id .dead++[.row sz (rows++[r])]/\V'= .sl H.length sz 0 (m+1)
section
variable {n:Nat} {H H':List AO} {V V':AV} {sz:Nat} {D:List (List PV)} {r:List AV} {e:List PV} {IV IR:List Nat}
theorem Own.psh(hV:Own n H [V] [.lst sz D] IV)(hr:Own n H r e IR)(hd:∀j∈IV,j∉IR)(he:e.length=sz)(hn:n<=H.length)(hp:Psh H V sz r H' V'):
 ∃IV',Own n H' [V'] [.lst sz (D++[e])] IV'/\(∀j∈IV',j∈IV\/j∈IR\/j=H.length)/\(∀i,i<H.length->i∉IV->H'[i]?=H[i]?)/\H'.length=H.length+1:=by
 rcases hp with⟨rfl,rfl,rfl⟩|⟨id,rows,m,rfl,hg,hm,rfl,rfl⟩
 ·rcases hV.row with⟨_,rfl,rfl⟩|⟨_,_,_,e1,_⟩
  ·exact⟨_,hr.first he hn,λj hj=>by rcases List.mem_cons.1 hj with h|h;exact .inr (.inr h);exact .inr (.inl h),λi hi _=>List.getElem?_append_left hi,by simp⟩
  ·cases e1
 ·rcases hV.row with⟨e1,_⟩|⟨id2,rows2,J,e1,e2,hro,_⟩
  ·cases e1
  ·cases e1
   subst e2
   rw[hro.here] at hg
   cases hg
   have hpu:=hV.push hro (h2:=H) (os:=[]) (by simp) hr he λj hj=>⟨λe=>hd _ (by simp) (e▸hj),λhm=>hd j (by simp[hm]) hj⟩
   refine⟨_,hpu,λj hj=>?_,λi hi hn=>?_,by simp⟩
   ·simp only[List.mem_cons,List.mem_append] at hj⊢
    rcases hj with h|h|h
    ·exact .inr (.inr h)
    ·exact .inl (.inr h)
    ·exact .inr (.inl h)
   ·rw[List.getElem?_append_left (by simpa using hi),List.getElem?_set_ne λe=>hn (by simp[e])]
end
structure XI (W0 W:List AO) (xw:Nat) (pm rg:Int) (V N X:AV) (j o:Int) (bs:List Bk) (ins:List Ii) (nx:List Int) (I:List Nat):Prop where
 len:W0.length+2<=W.length
 pre:∀i,i<W0.length->W[i]?=W0[i]?
 c:W[W0.length+1]?=some (.row 3 [[.p (.int .i64 pm),.p (.int .i64 rg),V]])
 xge:W0.length+2<=xw
 x:W[xw]?=some (.row 5 [[.nils,N,.p (.int .i64 j),.p (.int .i64 o),X]])
 own:Own (W0.length+3) (.dead::W) [V,N,X] [bkL bs,inL ins,aC nx] I
 xn:xw+1∉I
structure CI (W0 W:List AO) (pm rg:Int) (V:AV) (bs:List Bk) (I:List Nat):Prop where
 len:W0.length+2<=W.length
 pre:∀i,i<W0.length->W[i]?=W0[i]?
 c:W[W0.length+1]?=some (.row 3 [[.p (.int .i64 pm),.p (.int .i64 rg),V]])
 own:Own (W0.length+3) (.dead::W) [V] [bkL bs] I
section
variable {W0 W W2:List AO} {xw:Nat} {pm rg:Int} {V N X:AV} {j o:Int} {bs:List Bk} {ins:List Ii} {nx:List Int} {I:List Nat}
theorem Own.hd1{n:Nat}{o o':AO}{W W':List AO}{vs:List AV}{qs:List PV}{I:List Nat}(H:Own (n+1) (o::W) vs qs I)(e:∀i,i+1∈I->W'[i]?=W[i]?):Own (n+1) (o'::W') vs qs I:=H.frame λi hi=>by
 have:=H.ge i hi
 obtain⟨k,rfl⟩:∃k,i=k+1:=⟨i-1,by omega⟩
 exact e k hi
theorem XI.lt(H:XI W0 W xw pm rg V N X j o bs ins nx I):xw<W.length:=(List.getElem?_eq_some_iff.1 H.x).1
theorem XI.fr(H:XI W0 W xw pm rg V N X j o bs ins nx I)(f:∀i,i<W.length->W2[i]?=W[i]?)(hl:W.length<=W2.length):XI W0 W2 xw pm rg V N X j o bs ins nx I:=
 ⟨by have:=H.len;omega,λi hi=>by have:=H.len;rw[f i (by omega)];exact H.pre i hi,by rw[f _ (by have:=H.len;omega)];exact H.c,H.xge,by rw[f _ H.lt];exact H.x,H.own.hd1 λi hi=>f i (by have:=H.own.lt _ hi;simpa using this),H.xn⟩
theorem XI.more(H:XI W0 W xw pm rg V N X j o bs ins nx I)(os:List AO):XI W0 (W++os) xw pm rg V N X j o bs ins nx I:=H.fr (λi hi=>List.getElem?_append_left hi) (by simp)
theorem CI.block(H:CI W0 W pm rg V bs I):XI W0 (W++[.row 5 [[.nils,.nils,.p (.int .i64 0),.p (.int .i64 0),.nils]]]) W.length pm rg V .nils .nils 0 0 bs [] [] I:=by
 have hl:=H.len
 refine⟨by simp;omega,λi hi=>by rw[List.getElem?_append_left (by omega)];exact H.pre i hi,by rw[List.getElem?_append_left (by omega)];exact H.c,hl,by rw[List.getElem?_append_right (Nat.le_refl _)];simp,?_,λhm=>?_⟩
 ·have h1:Own (W0.length+3) (.dead::(W++[.row 5 [[.nils,.nils,.p (.int .i64 0),.p (.int .i64 0),.nils]]])) [V] [bkL bs] I:=H.own.hd1 λi hi=>List.getElem?_append_left (by have:=H.own.lt _ hi;simpa using this)
  have h2:=h1.app ((Own.nil (W0.length+3) _ 4).app (Own.nil (W0.length+3) _ 1) λ_ h=>by cases h) λ_ _ h=>by cases h
  rw[List.append_nil,List.append_nil] at h2
  exact h2
 ·have:=H.own.lt _ hm
  simp at this
theorem XI.jump(H:XI W0 W xw pm rg V N X j o bs ins nx I)(j' o':Int):XI W0 (W.set xw (.row 5 [[.nils,N,.p (.int .i64 j'),.p (.int .i64 o'),X]])) xw pm rg V N X j' o' bs ins nx I:=by
 have hl:=H.len
 have hx:=H.xge
 refine⟨by simpa using hl,λi hi=>by rw[List.getElem?_set_ne (by omega)];exact H.pre i hi,by rw[List.getElem?_set_ne (by omega)];exact H.c,hx,List.getElem?_set_self H.lt,H.own.hd1 λi hi=>List.getElem?_set_ne λe=>H.xn (by rw[e];exact hi),H.xn⟩
theorem XI.ins1(H:XI W0 W xw pm rg V N X j o bs ins nx I){os:List AO}{A:AV}{IA:List Nat}{y:Ii}{h0:AO}(hA:Own (W.length+1) (h0::(W++os)) [A] [aC y.args] IA){lit:AO}{W3:List AO}{N':AV}
 (hp:Psh (.dead::(W++os++[lit])) N 4 [.p (.int .i64 y.op),.p (.int .i64 y.to),A,.p (.int .i64 y.n)] (.dead::W3) N'):
 ∃I',XI W0 (W3.set xw (.row 5 [[.nils,N',.p (.int .i64 j),.p (.int .i64 o),X]])) xw pm rg V N' X j o bs (ins++[y]) nx I':=by
 have hl:=H.len
 have hx:=H.xge
 have hxl:=H.lt
 have hlt:∀i∈I,i<W.length+1:=λi hi=>by have:=H.own.lt i hi;simpa using this
 have H2:=(H.more (os++[lit])).own
 rw[←List.append_assoc] at H2
 have hA1:Own (W0.length+3) (.dead::(W++os++[lit])) [A] [aC y.args] IA:=(hA.hd1 λi hi=>List.getElem?_append_left (by have:=hA.lt _ hi;simp at this⊢;omega)).low λi hi=>by have:=hA.ge i hi;omega
 obtain⟨_,_,IV,I',e1,rfl,hV,H2⟩:=H2.one
 cases e1
 obtain⟨_,_,IN,I'',e1,rfl,hN,H2⟩:=H2.one
 cases e1
 have hnd:=H.own.nd
 have hxn:=H.xn
 simp only[List.nodup_append,List.mem_append,not_or] at hnd hxn
 have hAd:∀i∈IA,W.length+1<=i:=hA.ge
 obtain⟨IN',n1,n2,n3,n4⟩:=hN.psh (uG hA1) (λi hi hm=>by have:=hlt i (by simp[hi]);have:=hAd i hm;omega) rfl (by simp;omega) hp
 have hlen:(AO.dead::(W++os++[lit])).length=W.length+os.length+1+1:=by simp;omega
 rw[hlen] at n2 n3 n4
 have n4':W3.length=W.length+os.length+1+1:=by simpa using n4
 have hse:∀i,i<W.length->i+1∉IN->W3[i]?=W[i]?:=λi hi hn=>by
  have:=n3 (i+1) (by omega) hn
  rw[List.getElem?_cons_succ,List.getElem?_cons_succ,List.append_assoc,List.getElem?_append_left hi] at this
  exact this
 have hnotN:∀i,i+1<W0.length+3->i+1∉IN:=λi hi hm=>by have:=hN.ge _ hm;omega
 have hxN:xw+1∉IN:=hxn.2.1
 have hset:∀i,i≠xw->(W3.set xw (.row 5 [[.nils,N',.p (.int .i64 j),.p (.int .i64 o),X]]))[i]?=W3[i]?:=λi hi=>List.getElem?_set_ne (Ne.symm hi)
 refine⟨IV++(IN'++I''),by simp;omega,λi hi=>?_,?_,hx,List.getElem?_set_self (by omega),?_,?_⟩
 ·rw[hset i (by omega),hse i (by omega) (hnotN i (by omega))];exact H.pre i hi
 ·rw[hset _ (by omega),hse _ (by omega) (hnotN _ (by omega))];exact H.c
 ·have hV':Own (W0.length+3) (.dead::W3.set xw (.row 5 [[.nils,N',.p (.int .i64 j),.p (.int .i64 o),X]])) [V] [bkL bs] IV:=hV.hd1 λi hi=>by
   rw[hset i λe=>hxn.1 (e▸hi)]
   have h1:=hlt (i+1) (by simp[hi])
   rw[hse i (by omega) λhm=>hnd.2.2 _ hi _ (.inl hm) rfl,List.append_assoc,List.getElem?_append_left (by omega)]
  have hX':Own (W0.length+3) (.dead::W3.set xw (.row 5 [[.nils,N',.p (.int .i64 j),.p (.int .i64 o),X]])) [X] [aC nx] I'':=H2.hd1 λi hi=>by
   rw[hset i λe=>hxn.2.2 (e▸hi)]
   have h1:=hlt (i+1) (by simp[hi])
   rw[hse i (by omega) λhm=>hnd.2.1.2.2 _ hm _ hi rfl,List.append_assoc,List.getElem?_append_left (by omega)]
  have hN':Own (W0.length+3) (.dead::W3.set xw (.row 5 [[.nils,N',.p (.int .i64 j),.p (.int .i64 o),X]])) [N'] [inL (ins++[y])] IN':=by
   have:inL (ins++[y])= .lst 4 (ins.map Ii.cs++[y.cs]):=by rw[inL,List.map_append];rfl
   rw[this]
   refine n1.hd1 λi hi=>hset i λe=>?_
   subst e
   rcases n2 _ hi with h|h|h
   ·exact hxN h
   ·have:=hAd _ h;omega
   ·omega
  refine hV'.app (hN'.app hX' λi hi hm=>?_) λi hi hm=>?_
  ·have:=hlt i (by simp[hm])
   rcases n2 i hi with h|h|h
   ·exact hnd.2.1.2.2 _ h _ hm rfl
   ·have:=hAd _ h;omega
   ·omega
  ·have h1:=hlt i (by simp[hi])
   rcases List.mem_append.1 hm with hm|hm
   ·rcases n2 i hm with h|h|h
    ·exact hnd.2.2 _ hi _ (.inl h) rfl
    ·have:=hAd _ h;omega
    ·omega
   ·exact hnd.2.2 _ hi _ (.inr hm) rfl
 ·simp only[List.mem_append,not_or]
  refine⟨hxn.1,λhm=>?_,hxn.2.2⟩
  rcases n2 _ hm with h|h|h
  ·exact hxN h
  ·have:=hAd _ h;omega
  ·omega
theorem XI.next(H:XI W0 W xw pm rg V N .nils j o bs ins [] I)(l:List Int)(j' o':Int):XI W0 ((W++[AO.row 1 (l.map λn=>[AV.p (.int .i64 n)])]).set xw (.row 5 [[.nils,N,.p (.int .i64 j'),.p (.int .i64 o'),.sl (W.length+1) 1 0 l.length]])) xw pm rg V N (.sl (W.length+1) 1 0 l.length) j' o' bs ins l (I++[W.length+1]):=by
 have hl:=H.len
 have hx:=H.xge
 have hxl:=H.lt
 have hlt:∀i∈I,i<W.length+1:=λi hi=>by have:=H.own.lt i hi;simpa using this
 have hset:∀i t,i≠xw->i<W.length->((W++[AO.row 1 (l.map λn=>[AV.p (.int .i64 n)])]).set xw t)[i]?=W[i]?:=λi t hi hl=>by
  rw[List.getElem?_set_ne (Ne.symm hi),List.getElem?_append_left hl]
 refine⟨by simp;omega,λi hi=>?_,?_,hx,List.getElem?_set_self (by simp;omega),?_,?_⟩
 ·rw[hset _ _ (by omega) (by omega)];exact H.pre i hi
 ·rw[hset _ _ (by omega) (by omega)];exact H.c
 ·obtain⟨_,_,IV,I',e1,rfl,hV,H2⟩:=H.own.one
  cases e1
  obtain⟨_,_,IN,I'',e1,rfl,hN,H2⟩:=H2.one
  cases e1
  have hn:=H.own.nd
  have hxn:=H.xn
  simp only[List.nodup_append,List.mem_append,not_or] at hn hxn
  have h0:I''=[]:=by
   have:=H2.own
   cases this with
   |nils _ h=>cases h;rfl
  subst h0
  have hV':=hV.hd1 (o':= .dead) (W':=(W++[AO.row 1 (l.map λn=>[AV.p (.int .i64 n)])]).set xw (.row 5 [[.nils,N,.p (.int .i64 j'),.p (.int .i64 o'),.sl (W.length+1) 1 0 l.length]])) λi hi=>hset i _ (λe=>hxn.1 (e▸hi)) (by have:=hlt (i+1) (by simp[hi]);omega)
  have hN':=hN.hd1 (o':= .dead) (W':=(W++[AO.row 1 (l.map λn=>[AV.p (.int .i64 n)])]).set xw (.row 5 [[.nils,N,.p (.int .i64 j'),.p (.int .i64 o'),.sl (W.length+1) 1 0 l.length]])) λi hi=>hset i _ (λe=>hxn.2.1 (e▸hi)) (by have:=hlt (i+1) (by simp[hi]);omega)
  have hX':Own (W0.length+3) (.dead::((W++[AO.row 1 (l.map λn=>[AV.p (.int .i64 n)])]).set xw (.row 5 [[.nils,N,.p (.int .i64 j'),.p (.int .i64 o'),.sl (W.length+1) 1 0 l.length]]))) [.sl (W.length+1) 1 0 l.length] [aC l] [W.length+1]:=cf (by
   rw[List.getElem?_cons_succ,List.getElem?_set_ne (by omega),List.getElem?_append_right (by simp)];simp) (by omega) rfl
  have:=hV'.app (hN'.app hX' λi hi hm=>by have:=hlt i (by simp[hi]);rw[List.mem_singleton.1 hm] at this;omega) λi hi hm=>by
   rcases List.mem_append.1 hm with hm|hm
   ·exact hn.2.2 _ hi _ (.inl hm) rfl
   ·have:=hlt i (by simp[hi]);rw[List.mem_singleton.1 hm] at this;omega
  simpa using this
 ·intro hm
  rcases List.mem_append.1 hm with hm|hm
  ·exact H.xn hm
  ·have:=List.mem_singleton.1 hm;omega
theorem XI.done(H:XI W0 W xw pm rg V N X j o bs ins nx I){lit:AO}{W3:List AO}{V':AV}(hp:Psh (.dead::(W++[lit])) V 5 [.nils,N,.p (.int .i64 j),.p (.int .i64 o),X] (.dead::W3) V'):
 ∃I',CI W0 (W3.set (W0.length+1) (.row 3 [[.p (.int .i64 pm),.p (.int .i64 rg),V']])) pm rg V' (bs++[⟨[],ins,j,o,nx⟩]) I':=by
 have hl:=H.len
 have hx:=H.xge
 have hxl:=H.lt
 have H2:=(H.more [lit]).own
 obtain⟨_,_,IV,I',e1,rfl,hV,H2⟩:=H2.one
 cases e1
 obtain⟨_,_,IN,I'',e1,rfl,hN,H2⟩:=H2.one
 cases e1
 have hnd:=H.own.nd
 simp only[List.nodup_append,List.mem_append,not_or] at hnd
 have hb:=pS (b:=⟨[],ins,j,o,nx⟩) (Own.nil (W0.length+3) (.dead::(W++[lit])) 2) hN H2 (λ_ h=>by cases h) λi hi hm=>hnd.2.1.2.2 _ hi _ hm rfl
 obtain⟨IV',n1,n2,n3,n4⟩:=hV.psh hb (λi hi hm=>by
  rw[List.nil_append] at hm
  exact hnd.2.2 _ hi _ (List.mem_append.1 hm) rfl) rfl (by simp;omega) hp
 have hlen:(AO.dead::(W++[lit])).length=W.length+1+1:=by simp
 rw[hlen] at n2 n3 n4
 have n4':W3.length=W.length+1+1:=by simpa using n4
 have hse:∀i,i<W0.length+2->W3[i]?=W[i]?:=λi hi=>by
  have:=n3 (i+1) (by omega) λhm=>by have:=hV.ge _ hm;omega
  rw[List.getElem?_cons_succ,List.getElem?_cons_succ,List.getElem?_append_left (by omega)] at this
  exact this
 refine⟨IV',by simp;omega,λi hi=>?_,List.getElem?_set_self (by omega),?_⟩
 ·rw[List.getElem?_set_ne (by omega),hse i (by omega)];exact H.pre i hi
 ·have:bkL (bs++[⟨[],ins,j,o,nx⟩])= .lst 5 (bs.map Bk.cs++[(⟨[],ins,j,o,nx⟩:Bk).cs]):=by rw[bkL,List.map_append];rfl
  rw[this]
  exact n1.hd1 λi hi=>List.getElem?_set_ne λe=>by have:=n1.ge _ hi;omega
end
end
section
theorem tx:AK.whole im=FK.ak iJ:=rfl
def SmB(m:Nat)(b:Bk):Prop:=b.phis.length<=m/\b.ins.length<=4/\b.next.length<=2/\(∀x∈b.ins,x.args.length<=3)/\∀x∈b.phis,x.args.length<=7
def SmCd(m:Nat)(c:Cd):Prop:=c.params<=3/\1<=c.blocks.length/\c.blocks.length<=7/\∀b∈c.blocks,SmB m b
theorem CdsAt.mono{R W:List AO}{U:AV}{cs:List Cd}(H:CdsAt R U cs)(e:∀i,i<R.length->W[i]?=R[i]?):CdsAt W U cs:=by
 rcases H with h|⟨u,rows,h1,h2,h3,h4⟩
 ·exact .inl h
 ·exact .inr ⟨u,rows,h1,h2,by rw[e u (List.getElem?_eq_some_iff.1 h3).1];exact h3,h4⟩
variable (G:aB)
structure CdS where (i q:Nat) (W:List AO)
structure JmS where (j o:Int) (q:Nat) (W:List AO)
structure InS where (i:Int) (q:Nat) (W:List AO)
theorem ER{b:List Int}(hb:Byt b)(hl:b.length<=2000){p:Nat}(hp:p<=900000000000)(R:List AO)(U:AV)(cs:List Cd)(hU:CdsAt R U cs):AC Try.prog G iv [.ptr 0 2 0 0,.agg [U]] (rdO b p::R) λx h=>∃(c:Cd) (V:AV) (I:List Nat) (q:Nat) (os:List AO),x= .ret (.agg [.p (.int .i64 c.params),.p (.int .i64 c.regs),V])/\h=rdO b q::(R++os)/\Own (R.length+1) h [V] [bkL c.blocks] I/\SmCd 0 c/\p<=q/\q<=p+1000:=by
 obtain⟨u1,u2⟩:=hU.cell
 refine AC.goK tq tx ?_
 simp-implicitDefEqProofs[-AV.cells,-AV.isCell,aD,ae,ah,an,al,aE,af,am,aj,u1,u2,im,iJ]
 refine(rz G hb hl (by omega) [1,0,2,3] 2 (by omega) rfl (by simp) (by simp)).mono ?_
 rintro r h ⟨pm,hpm,rfl,rfl⟩
 have hpm3:0<=pm/\pm<=3:=by simp at hpm;omega
 clear hpm
 have hw1:IntKind.i64.wrap (pm+2)=pm+2:=ag (by omega) (by omega)
 simp-implicitDefEqProofs[-AV.cells,-AV.isCell,aD,ae,ah,an,al,aE,af,am,aj,u1,u2,aa,hw1]
 refine(aG G b hb hl (p+1) (by omega) 5 _).mono ?_
 rintro r h ⟨k1,rfl,rfl,hk1⟩
 have hw2:IntKind.i64.wrap (pm+2+(k1:Int))=pm+2+(k1:Int):=ag (by omega) (by omega)
 simp-implicitDefEqProofs[-AV.cells,-AV.isCell,aD,ae,ah,an,al,aE,af,am,aj,u1,u2,aa,hw2]
 generalize pm+2+(k1:Int)=rg
 refine(rz G hb hl (by omega) [3,5,2,1,7,4] 4 (by omega) rfl (by simp) (by simp)).mono ?_
 rintro r h ⟨nI,hnI,rfl,rfl⟩
 obtain⟨n,rfl,hn1,hn7⟩:∃n:Nat,nI=n/\1<=n/\n<=7:=⟨nI.toNat,by simp at hnI;omega,by simp at hnI;omega,by simp at hnI;omega⟩
 simp-implicitDefEqProofs[-AV.cells,-AV.isCell,aD,ae,ah,an,al,aE,af,am,aj,u1,u2,aa]
 obtain⟨W0,hW0⟩:∃W0,W0=R++[AO.row 1 [[U]],AO.row 3 [[AV.p (.int .i64 0),AV.p (.int .i64 0),AV.nils]]]:=⟨_,rfl⟩
 have hW0l:W0.length=R.length+2:=by rw[hW0];simp
 refine aH (λa:CdS=>aA 100 [(7,.p (.int .i64 a.i)),(6,.p (.int .i64 n)),(5,.ptr (R.length+3+1) 3 0 0),(4,.ptr (R.length+1+1) 3 0 0),(3,.ptr (R.length+1) 1 0 0),(0,.ptr 0 2 0 0)]) (λa=>rdO b a.q::a.W)
  (λa=>a.i<=n/\p<=a.q/\a.q<=p+3+100*a.i/\∃V bs I,CI W0 a.W pm rg V bs I/\bs.length=a.i/\∀x∈bs,SmB 0 x) (λa=>n-a.i) ⟨0,p+1+1+1,_⟩ ⟨Nat.zero_le _,by simp only;omega,by simp only;omega,.nils,[],[],⟨?_,?_,?_,?_⟩,rfl,by simp⟩ (ab ?_ ?_) ?_
 rotate_left 4
 ·simp
 ·simp[below]
 rotate_left 1
 ·rw[hW0l];simp
 ·intro i hi
  rw[hW0] at hi⊢
  have:R++[AO.row 1 [[U]],AO.row 3 [[AV.p (.int .i64 0),AV.p (.int .i64 0),AV.nils]],AO.row 1 [[AV.p (.int .i64 1)],[AV.p (.int .i64 0)],[AV.p (.int .i64 2)],[AV.p (.int .i64 3)]],AO.row 3 [[AV.p (.int .i64 pm),AV.p (.int .i64 rg),AV.nils]],AO.row 1 [[AV.p (.int .i64 3)],[AV.p (.int .i64 5)],[AV.p (.int .i64 2)],[AV.p (.int .i64 1)],[AV.p (.int .i64 7)],[AV.p (.int .i64 4)]]]=(R++[AO.row 1 [[U]],AO.row 3 [[AV.p (.int .i64 0),AV.p (.int .i64 0),AV.nils]]])++[AO.row 1 [[AV.p (.int .i64 1)],[AV.p (.int .i64 0)],[AV.p (.int .i64 2)],[AV.p (.int .i64 3)]],AO.row 3 [[AV.p (.int .i64 pm),AV.p (.int .i64 rg),AV.nils]],AO.row 1 [[AV.p (.int .i64 3)],[AV.p (.int .i64 5)],[AV.p (.int .i64 2)],[AV.p (.int .i64 1)],[AV.p (.int .i64 7)],[AV.p (.int .i64 4)]]]:=by simp
  simp only
  rw[this,List.getElem?_append_left hi]
 ·rw[hW0l,List.getElem?_append_right (by omega),show R.length+2+1-R.length=3 by omega];rfl
 ·exact Own.nil _ _ 5
 rintro⟨i,q,W⟩ ⟨hi,hq1,hq2,V,bs,I,hC,hbl,hbs⟩
 simp only at hi hq1 hq2 hC hbl⊢
 have hCl:=hC.len
 have hpreR:∀i,i<R.length->W[i]?=R[i]?:=λi hi=>by rw[hC.pre i (by omega),hW0,List.getElem?_append_left hi]
 simp-implicitDefEqProofs[]
 refine aF (λhc=>?_) (λhc=>?_)
 ·simp at hc
  have hwi:=w1 (i:=i) (by omega)
  simp-implicitDefEqProofs[]
  have hB:=hC.block
  obtain⟨xw,hxw⟩:∃xw,xw=W.length:=⟨_,rfl⟩
  have hub:∀t,(W++t)[R.length]?=some (.row 1 [[U]]):=λt=>by rw[List.getElem?_append_left (by omega),hC.pre _ (by omega),hW0,List.getElem?_append_right (Nat.le_refl _)];simp
  refine fA (λa:InS=>aA 100 [(8,.ptr (xw+1) 5 0 0),(7,.p (.int .i64 i)),(6,.p (.int .i64 n)),(5,.ptr (R.length+3+1) 3 0 0),(4,.ptr (R.length+1+1) 3 0 0),(3,.ptr (R.length+1) 1 0 0),(0,.ptr 0 2 0 0)]) (λa=>rdO b a.q::a.W)
   (λa=>p<=a.q/\a.q<=p+3+100*i+50/\∃N ins I,XI W0 a.W xw pm rg V N .nils 0 0 bs ins [] I/\ins.length<=4/\∀y∈ins,y.args.length<=3) ?_ ?_
  ·simp-implicitDefEqProofs[]
   refine(rz G hb hl (by omega) [1,2,0,3,4] 1 (by omega) rfl (by simp) (by simp)).mono ?_
   rintro r h ⟨i0,hi0,rfl,rfl⟩
   have hi0:0<=i0/\i0<=4:=by simp at hi0;omega
   simp-implicitDefEqProofs[aa]
   have hB2:=hB.more [AO.row 1 [[AV.p (.int .i64 1)],[AV.p (.int .i64 2)],[AV.p (.int .i64 0)],[AV.p (.int .i64 3)],[AV.p (.int .i64 4)]]]
   rw[←hxw,List.append_assoc] at hB2
   have hfr:∀(t:List AO) (j:Nat),j<W.length->(W++t)[j]?=W[j]?:=λt j hj=>List.getElem?_append_left hj
   refine aH (λa:InS=>aA 100 [(9,.p (.int .i64 a.i)),(8,.ptr (xw+1) 5 0 0),(7,.p (.int .i64 i)),(6,.p (.int .i64 n)),(5,.ptr (R.length+3+1) 3 0 0),(4,.ptr (R.length+1+1) 3 0 0),(3,.ptr (R.length+1) 1 0 0),(0,.ptr 0 2 0 0)]) (λa=>rdO b a.q::a.W)
    (λa=>p<=a.q/\0<=a.i/\a.q+10*a.i.toNat<=p+3+100*i+50/\∃N ins I,XI W0 a.W xw pm rg V N .nils 0 0 bs ins [] I/\ins.length+a.i.toNat<=4/\∀y∈ins,y.args.length<=3) (λa=>a.i.toNat) ⟨i0,q+1,_⟩ ⟨by simp only;omega,hi0.1,by simp only;omega,.nils,[],I,hB2,by show 0+i0.toNat<=4;omega,λy hy=>(by cases hy)⟩ (ab (by simp only[List.length_cons,List.length_append];omega) ?_) ?_
   ·simp[below,hxw];omega
   rintro⟨i1,q,W⟩ ⟨hq1,hi1,hq2,N,ins,I,hX,hil,hia⟩
   simp only at hq1 hi1 hq2 hX hil⊢
   have hXl:=hX.len
   have hXx:=hX.lt
   have hcc:∀t,(W++t)[R.length+3]?=some (.row 3 [[.p (.int .i64 pm),.p (.int .i64 rg),V]]):=λt=>by rw[List.getElem?_append_left (by omega)];have:=hX.c;rw[hW0l] at this;exact this
   have hcc0:=hcc []
   have hxx:∀t,(W++t)[xw]?=some (.row 5 [[.nils,N,.p (.int .i64 0),.p (.int .i64 0),.nils]]):=λt=>by rw[List.getElem?_append_left hXx];exact hX.x
   have hub:W[R.length]?=some (.row 1 [[U]]):=by rw[hX.pre _ (by omega),hW0,List.getElem?_append_right (Nat.le_refl _)];simp
   have hcd:CdsAt W U cs:=hU.mono λj hj=>by rw[hX.pre j (by omega),hW0,List.getElem?_append_left hj]
   rw[List.append_nil] at hcc0
   simp-implicitDefEqProofs[]
   refine aF (λhc2=>?_) (λhc2=>?_)
   ·have hc2:0<i1:=by simpa using hc2
    have hw1:IntKind.i64.wrap (i1-1)=i1-1:=ag (by omega) (by omega)
    obtain⟨m1,m2⟩:N.cells=[N]/\N.isCell=true:=by
     obtain⟨_,_,_,_,e1,_,_,H2⟩:=hX.own.one
     cases e1
     obtain⟨_,_,_,_,e1,_,hN,_⟩:=H2.one
     cases e1
     exact hN.cell
    simp-implicitDefEqProofs[-AV.cells,-AV.isCell,aD,ae,ah,an,al,aE,af,am,aj,u1,u2,m1,m2,hX.x,hcc0,hub]
    refine(DQ G hb hl (by omega) W U cs hcd rg).mono ?_
    rintro r h ⟨y,A,IA,q2,os,rfl,rfl,hA,hy3,g1,g2⟩
    obtain⟨a1,a2⟩:=hA.cell
    obtain⟨W2,hW2⟩:∃W2,W2=W++os:=⟨_,rfl⟩
    have hx2:∀t,(W2++t)[xw]?=some (.row 5 [[.nils,N,.p (.int .i64 0),.p (.int .i64 0),.nils]]):=λt=>by rw[hW2,List.append_assoc];exact hxx _
    have hx20:=hx2 []
    rw[List.append_nil] at hx20
    have hWl2:W.length<=W2.length:=by rw[hW2];simp
    have hIN:N= .nils/\ins=[]\/∃f rows,N= .sl (f+1) 4 0 ins.length/\f<W.length/\W[f]?=some (.row 4 rows)/\rows.length=ins.length/\f≠xw:=by
     have hxn:=hX.xn
     obtain⟨_,_,_,_,e1,rfl,_,H2⟩:=hX.own.one
     cases e1
     obtain⟨_,_,_,_,e1,rfl,hN,_⟩:=H2.one
     cases e1
     rcases hN.row with⟨h1,h2,_⟩|⟨id,rows,J,h1,h2,hr,_⟩
     ·exact .inl ⟨h1,List.map_eq_nil_iff.1 h2⟩
     ·subst h2
      have hge:=hN.ge id (by simp)
      obtain⟨f,rfl⟩:∃f,id=f+1:=⟨id-1,by omega⟩
      have hh:=hr.here
      rw[List.getElem?_cons_succ] at hh
      refine .inr ⟨f,rows,by rw[List.length_map] at h1;exact h1,(List.getElem?_eq_some_iff.1 hh).1,hh,by have:=hr.len;simpa using this,λe=>hxn (by rw[e];simp)⟩
    rw[←hW2]
    rcases hIN with⟨rfl,rfl⟩|⟨f,rows,rfl,hfl,hg,hrl,hfx⟩
    ·simp-implicitDefEqProofs[-AV.cells,-AV.isCell,aD,ae,ah,an,al,aE,af,am,aj,u1,u2,a1,a2,aa,hx2,hx20]
     have hp:Psh (.dead::(W++os++[.row 4 [[.p (.int .i64 y.op),.p (.int .i64 y.to),A,.p (.int .i64 y.n)]]])) .nils 4 [.p (.int .i64 y.op),.p (.int .i64 y.to),A,.p (.int .i64 y.n)] (.dead::(W2++[.row 4 [[.p (.int .i64 y.op),.p (.int .i64 y.to),A,.p (.int .i64 y.n)]],.row 4 [[.p (.int .i64 y.op),.p (.int .i64 y.to),A,.p (.int .i64 y.n)]]])) (.sl (W2.length+1+1) 4 0 1):= .inl ⟨rfl,by rw[hW2];simp,by rw[hW2];simp<;>omega⟩
     obtain⟨I',hI'⟩:=hX.ins1 hA hp
     refine⟨⟨i1-1,q2,_⟩,⟨by simp only;omega,by simp only;omega,by simp only;omega,_,_,⟨_,hI'⟩,by simp at hil⊢;omega,by simpa using hy3⟩,by simp only;omega,ab ?_ ?_⟩
     ·simp only[List.length_cons,List.length_set,List.length_append];omega
     ·simp[below,hw1]
      omega
    ·have hg2:∀t,(W2++t)[f]?=some (.row 4 rows):=λt=>by rw[hW2,List.append_assoc,List.getElem?_append_left hfl];exact hg
     have htk:List.take ins.length rows=rows:=List.take_of_length_le (by omega)
     have hx3:∀t t',((W2++t).set f .dead++t')[xw]?=some (.row 5 [[.nils,.sl (f+1) 4 0 ins.length,.p (.int .i64 0),.p (.int .i64 0),.nils]]):=λt t'=>by
      rw[List.getElem?_append_left (by simp;omega),List.getElem?_set_ne hfx];exact hx2 t
     simp-implicitDefEqProofs[-AV.cells,-AV.isCell,aD,ae,ah,an,al,aE,af,am,aj,u1,u2,a1,a2,aa,hx2,hx20,hg2,htk,hx3]
     have hp:Psh (.dead::(W++os++[.row 4 [[.p (.int .i64 y.op),.p (.int .i64 y.to),A,.p (.int .i64 y.n)]]])) (.sl (f+1) 4 0 ins.length) 4 [.p (.int .i64 y.op),.p (.int .i64 y.to),A,.p (.int .i64 y.n)] (.dead::((W2++[AO.row 4 [[.p (.int .i64 y.op),.p (.int .i64 y.to),A,.p (.int .i64 y.n)]]]).set f .dead++[.row 4 (rows++[[.p (.int .i64 y.op),.p (.int .i64 y.to),A,.p (.int .i64 y.n)]])])) (.sl (W2.length+1+1) 4 0 (ins.length+1)):= .inr ⟨f+1,rows,ins.length,rfl,by rw[List.getElem?_cons_succ,←hW2];exact hg2 _,hrl,by rw[hW2];simp,by rw[hW2];simp<;>omega⟩
     obtain⟨I',hI'⟩:=hX.ins1 hA hp
     refine⟨⟨by omega,by omega,by omega⟩,⟨i1-1,q2,_⟩,⟨by simp only;omega,by simp only;omega,by simp only;omega,_,_,⟨_,hI'⟩,by simp;omega,λz hz=>?_⟩,by simp only;omega,ab ?_ ?_⟩
     ·rcases List.mem_append.1 hz with h|h
      ·exact hia z h
      ·rw[List.mem_singleton.1 h];exact hy3
     ·simp only[List.length_cons,List.length_set,List.length_append];omega
     ·simp[below,hw1]
      omega
   ·refine⟨⟨0,q,W⟩,⟨hq1,by simp only;omega,N,ins,⟨I,hX⟩,by omega,hia⟩,ab ?_ ?_⟩
    ·simp;omega
    ·simp[below];omega
  ·rintro⟨_,q,W'⟩ ⟨hq1,hq2,N,ins,I,hX,hil,hia⟩
   simp only at hq1 hq2 hX⊢
   clear hB hub hpreR hCl hC
   have hXl:=hX.len
   have hXx:=hX.lt
   have hxg:=hX.xge
   have hcc:∀t,(W'++t)[R.length+3]?=some (.row 3 [[.p (.int .i64 pm),.p (.int .i64 rg),V]]):=λt=>by rw[List.getElem?_append_left (by omega)];have:=hX.c;rw[hW0l] at this;exact this
   have hcc0:=hcc []
   rw[List.append_nil] at hcc0
   obtain⟨n1,n2⟩:N.cells=[N]/\N.isCell=true:=by
    obtain⟨_,_,_,_,e1,_,_,H2⟩:=hX.own.one
    cases e1
    obtain⟨_,_,_,_,e1,_,hN,_⟩:=H2.one
    cases e1
    exact hN.cell
   simp-implicitDefEqProofs[hcc0]
   refine(aG G b hb hl q (by omega) rg W').mono ?_
   rintro r h ⟨o1,rfl,rfl,_⟩
   simp-implicitDefEqProofs[aa,hX.x]
   have hX1:=hX.jump 0 o1
   generalize hW3:W'.set xw (AO.row 5 [[AV.nils,N,.p (.int .i64 0),.p (.int .i64 o1),AV.nils]])=W3 at hX1
   have hl3:W3.length=W'.length:=by rw[←hW3];simp
   refine(jm G hb hl (by omega) [2,1,2,1,3] (by simp) (by simp) (by omega) rfl (by rw[List.getElem?_cons_succ,List.getElem?_append_right (by omega),hl3,Nat.sub_self];rfl)).mono ?_
   rintro r h ⟨j1,hj1,rfl,rfl⟩
   have hx3:∀t,(W3++t)[xw]?=some (.row 5 [[.nils,N,.p (.int .i64 0),.p (.int .i64 o1),.nils]]):=λt=>by rw[List.getElem?_append_left (by omega)];exact hX1.x
   simp-implicitDefEqProofs[aa,hx3]
   have hX2:=(hX1.more [AO.row 1 [[AV.p (.int .i64 2)],[AV.p (.int .i64 1)],[AV.p (.int .i64 2)],[AV.p (.int .i64 1)],[AV.p (.int .i64 3)]]]).jump j1 o1
   generalize hW4:(W3++[AO.row 1 [[AV.p (.int .i64 2)],[AV.p (.int .i64 1)],[AV.p (.int .i64 2)],[AV.p (.int .i64 1)],[AV.p (.int .i64 3)]]]).set xw (AO.row 5 [[AV.nils,N,.p (.int .i64 j1),.p (.int .i64 o1),AV.nils]])=W4 at hX2
   have hl4:W'.length<=W4.length:=by rw[←hW4];simp;omega
   clear hX1 hW3 hl3 hx3 hW4 hj1 hX hXl hXx hcc hcc0
   have hq3:p<=q+1+1:=by omega
   have hq4:q+1+1<=p+3+100*i+52:=by omega
   generalize q+1+1=q5 at hq3 hq4
   clear hq1 hq2 hl4
   have hXl:=hX2.len
   have hXx:=hX2.lt
   refine fA (λa:JmS=>aA 100 [(8,.ptr (xw+1) 5 0 0),(7,.p (.int .i64 i)),(6,.p (.int .i64 n)),(5,.ptr (R.length+3+1) 3 0 0),(4,.ptr (R.length+1+1) 3 0 0),(3,.ptr (R.length+1) 1 0 0),(0,.ptr 0 2 0 0)]) (λa=>rdO b a.q::a.W)
    (λa=>p<=a.q/\a.q<=p+3+100*i+53/\∃I,XI W0 a.W xw pm rg V N .nils a.j a.o bs ins [] I) ?_ ?_
   ·have keep:∀(qq:Nat) (l:List (Nat × AV)),p<=qq->qq<=p+3+100*i+53->True:=λ_ _ _ _=>trivial
    by_cases hn:(n:Int)=1
    ·simp-implicitDefEqProofs[hn,hX2.x]
     refine⟨⟨3,o1,q5,_⟩,⟨hq3,by simp only;omega,_,hX2.jump 3 o1⟩,ab ?_ ?_⟩
     ·simp;omega
     ·simp[below,hn]
      omega
    ·have hw:IntKind.i64.wrap ((n:Int)-1)=(n:Int)-1:=ag (by omega) (by omega)
     by_cases hin:(i:Int)=(n:Int)-1
     ·simp-implicitDefEqProofs[hn,hw,hin]
      refine(aG G b hb hl q5 (by omega) 3 _).mono ?_
      rintro r h ⟨k2,rfl,rfl,_⟩
      simp-implicitDefEqProofs[aa]
      refine aF (λhk=>?_) (λhk=>?_)
      ·simp-implicitDefEqProofs[hX2.x]
       refine⟨⟨3,o1,q5+1,_⟩,⟨by simp only;omega,by simp only;omega,_,hX2.jump 3 o1⟩,ab ?_ ?_⟩
       ·simp;omega
       ·simp[below,←hin];omega
      ·refine⟨⟨j1,o1,q5+1,_⟩,⟨by simp only;omega,by simp only;omega,_,hX2⟩,ab ?_ ?_⟩
       ·simp;omega
       ·simp[below,←hin];omega
     ·simp-implicitDefEqProofs[hn,hw,hin]
      refine⟨⟨j1,o1,q5,_⟩,⟨hq3,by simp only;omega,_,hX2⟩,ab ?_ ?_⟩
      ·simp;omega
      ·simp[below];omega
   clear hXl hXx hX2 hq3 hq4
   rintro⟨j2,o2,q,W'⟩ ⟨hq1,hq2,I,hX⟩
   simp only at hq1 hq2 hX⊢
   have hXl:=hX.len
   have hXx:=hX.lt
   refine fA (λa:JmS=>aA 100 [(8,.ptr (xw+1) 5 0 0),(7,.p (.int .i64 i)),(6,.p (.int .i64 n)),(5,.ptr (R.length+3+1) 3 0 0),(4,.ptr (R.length+1+1) 3 0 0),(3,.ptr (R.length+1) 1 0 0),(0,.ptr 0 2 0 0)]) (λa=>rdO b a.q::a.W)
    (λa=>p<=a.q/\a.q<=p+3+100*i+60/\∃X nx I,XI W0 a.W xw pm rg V N X a.j a.o bs ins nx I/\nx.length<=2) ?_ ?_
   ·simp-implicitDefEqProofs[hX.x]
    refine aF (λh1=>?_) (λh1=>?_)
    ·have h1:j2=1:=by simpa using h1
     subst h1
     simp-implicitDefEqProofs[hX.x]
     have hX1:=hX.jump 1 0
     generalize W'.set xw (AO.row 5 [[AV.nils,N,.p (.int .i64 1),.p (.int .i64 0),AV.nils]])=W5 at hX1
     refine(zX G hb hl (by omega) W5 i n (by omega) (by omega)).mono ?_
     rintro r h ⟨k,q2,rfl,rfl,g1,g2⟩
     have hx5:∀t,(W5++t)[xw]?=some (.row 5 [[.nils,N,.p (.int .i64 1),.p (.int .i64 0),.nils]]):=λt=>by rw[List.getElem?_append_left hX1.lt];exact hX1.x
     simp-implicitDefEqProofs[aa,hx5]
     have hX2:=hX1.next [k] 1 0
     refine⟨⟨1,0,q2,_⟩,⟨by simp only;omega,by simp only;omega,_,_,⟨_,hX2⟩,by simp⟩,ab ?_ ?_⟩
     ·have:=hX1.len;simp;omega
     ·have:=hX1.len;have:=hX1.lt;simp[below];omega
    ·have h1:¬j2=1:=by simpa using h1
     simp-implicitDefEqProofs[]
     refine aF (λh2=>?_) (λh2=>?_)
     ·have h2:j2=2:=by simpa using h2
      subst h2
      simp-implicitDefEqProofs[]
      refine(zX G hb hl (by omega) W' i n (by omega) (by omega)).mono ?_
      rintro r h ⟨k,q2,rfl,rfl,g1,g2⟩
      simp-implicitDefEqProofs[aa]
      refine(zX G hb hl (by omega) W' i n (by omega) (by omega)).mono ?_
      rintro r h ⟨k2,q3,rfl,rfl,g3,g4⟩
      have hx5:∀t,(W'++t)[xw]?=some (.row 5 [[.nils,N,.p (.int .i64 2),.p (.int .i64 o2),.nils]]):=λt=>by rw[List.getElem?_append_left hX.lt];exact hX.x
      simp-implicitDefEqProofs[aa,hx5]
      have hX2:=hX.next [k,k2] 2 o2
      refine⟨⟨2,o2,q3,_⟩,⟨by simp only;omega,by simp only;omega,_,_,⟨_,hX2⟩,by simp⟩,ab ?_ ?_⟩
      ·simp;omega
      ·simp[below];omega
     ·refine⟨⟨j2,o2,q,W'⟩,⟨hq1,by simp only;omega,_,_,⟨_,hX⟩,by simp⟩,ab ?_ ?_⟩
      ·simp;omega
      ·simp[below];omega
   clear hXl hXx hX hq1 hq2
   rintro⟨j3,o3,q,W'⟩ ⟨hq1,hq2,X,nx,I,hX,hnx⟩
   simp only at hq1 hq2 hX⊢
   have hXl:=hX.len
   have hXx:=hX.lt
   have hxg:=hX.xge
   have hcc:∀t,(W'++t)[R.length+3]?=some (.row 3 [[.p (.int .i64 pm),.p (.int .i64 rg),V]]):=λt=>by rw[List.getElem?_append_left (by omega)];have:=hX.c;rw[hW0l] at this;exact this
   have hcc0:=hcc []
   rw[List.append_nil] at hcc0
   obtain⟨⟨v1,v2⟩,⟨n1,n2⟩,⟨x1,x2⟩,hVr⟩:(V.cells=[V]/\V.isCell=true)/\(N.cells=[N]/\N.isCell=true)/\(X.cells=[X]/\X.isCell=true)/\((V= .nils/\bs=[])\/∃f rows,V= .sl (f+1) 5 0 bs.length/\f<W'.length/\W'[f]?=some (.row 5 rows)/\rows.length=bs.length/\f≠R.length+3):=by
    obtain⟨_,_,_,_,e1,_,hV,H2⟩:=hX.own.one
    cases e1
    obtain⟨_,_,_,_,e1,_,hN,H3⟩:=H2.one
    cases e1
    refine⟨hV.cell,hN.cell,H3.cell,?_⟩
    rcases hV.row with⟨h1,h2,_⟩|⟨id,rows,J,h1,h2,hr,_⟩
    ·exact .inl ⟨h1,List.map_eq_nil_iff.1 h2⟩
    ·subst h2
     have hge:=hV.ge id (by simp)
     obtain⟨f,rfl⟩:∃f,id=f+1:=⟨id-1,by omega⟩
     have hh:=hr.here
     rw[List.getElem?_cons_succ] at hh
     exact .inr ⟨f,rows,by rw[List.length_map] at h1;exact h1,(List.getElem?_eq_some_iff.1 hh).1,hh,by have:=hr.len;simpa using this,by omega⟩
   have hsb:SmB 0 ⟨[],ins,j3,o3,nx⟩:=⟨by simp,hil,hnx,hia,by simp⟩
   rcases hVr with⟨rfl,rfl⟩|⟨f,rows,rfl,hfl,hg,hrl,hfx⟩
   ·simp-implicitDefEqProofs[-AV.cells,-AV.isCell,aD,ae,ah,an,al,aE,af,am,aj,n1,n2,x1,x2,hcc0,hcc,hX.x]
    have hp:Psh (.dead::(W'++[.row 5 [[.nils,N,.p (.int .i64 j3),.p (.int .i64 o3),X]]])) .nils 5 [.nils,N,.p (.int .i64 j3),.p (.int .i64 o3),X] (.dead::(W'++[.row 5 [[.nils,N,.p (.int .i64 j3),.p (.int .i64 o3),X]],.row 5 [[.nils,N,.p (.int .i64 j3),.p (.int .i64 o3),X]]])) (.sl (W'.length+1+1) 5 0 1):= .inl ⟨rfl,by simp,by simp⟩
    obtain⟨I',hI'⟩:=hX.done hp
    rw[hW0l] at hI'
    refine⟨⟨i+1,q,_⟩,⟨by simp only;omega,by simp only;omega,by simp only;omega,_,_,⟨_,hI'⟩,by simp at hbl⊢;omega,λz hz=>?_⟩,by simp only;omega,ab ?_ ?_⟩
    ·simp at hz;subst hz;exact hsb
    ·simp;omega
    ·simp[below,hwi];omega
   ·have htk:List.take bs.length rows=rows:=List.take_of_length_le (by omega)
    have hg2:∀t,(W'++t)[f]?=some (.row 5 rows):=λt=>by rw[List.getElem?_append_left hfl];exact hg
    have hx3:∀t t',((W'++t).set f .dead++t')[R.length+3]?=some (.row 3 [[.p (.int .i64 pm),.p (.int .i64 rg),.sl (f+1) 5 0 bs.length]]):=λt t'=>by
     rw[List.getElem?_append_left (by simp;omega),List.getElem?_set_ne hfx];exact hcc t
    simp-implicitDefEqProofs[-AV.cells,-AV.isCell,aD,ae,ah,an,al,aE,af,am,aj,n1,n2,x1,x2,hcc0,hcc,hX.x,htk,hg2,hx3]
    have hp:Psh (.dead::(W'++[.row 5 [[.nils,N,.p (.int .i64 j3),.p (.int .i64 o3),X]]])) (.sl (f+1) 5 0 bs.length) 5 [.nils,N,.p (.int .i64 j3),.p (.int .i64 o3),X] (.dead::((W'++[AO.row 5 [[.nils,N,.p (.int .i64 j3),.p (.int .i64 o3),X]]]).set f .dead++[.row 5 (rows++[[.nils,N,.p (.int .i64 j3),.p (.int .i64 o3),X]])])) (.sl (W'.length+1+1) 5 0 (bs.length+1)):= .inr ⟨f+1,rows,bs.length,rfl,by rw[List.getElem?_cons_succ];exact hg2 _,hrl,by simp,by simp⟩
    obtain⟨I',hI'⟩:=hX.done hp
    rw[hW0l] at hI'
    refine⟨⟨by omega,by omega,by omega⟩,⟨i+1,q,_⟩,⟨by simp only;omega,by simp only;omega,by simp only;omega,_,_,⟨_,hI'⟩,by simp;omega,λz hz=>?_⟩,by simp only;omega,ab ?_ ?_⟩
    ·rcases List.mem_append.1 hz with h|h
     ·exact hbs z h
     ·rw[List.mem_singleton.1 h];exact hsb
    ·simp;omega
    ·simp[below,hwi];omega
 ·have hcc0:W[R.length+3]?=some (.row 3 [[.p (.int .i64 pm),.p (.int .i64 rg),V]]):=by have:=hC.c;rw[hW0l] at this;exact this
  have hr1:W[R.length+1]?=some (.row 3 [[.p (.int .i64 0),.p (.int .i64 0),.nils]]):=by rw[hC.pre _ (by omega),hW0,List.getElem?_append_right (by omega),show R.length+1-R.length=1 by omega];rfl
  have hs1:∀o,(W.set (R.length+1) o)[R.length+1]?=some o:=λo=>List.getElem?_set_self (by omega)
  obtain⟨v1,v2⟩:=hC.own.cell
  simp-implicitDefEqProofs[-AV.cells,-AV.isCell,aD,ae,ah,an,al,aE,af,am,aj,u1,u2,v1,v2,hcc0,hr1,hs1]
  have hie:i=n:=by simp at hc;omega
  refine⟨⟨pm,rg,bs⟩,V,⟨rfl,rfl,rfl⟩,I,q,⟨rfl,Bo (by simp;omega) λj hj=>?_⟩,?_,⟨hpm3.2,by simp only;omega,by simp only;omega,hbs⟩,hq1,by omega⟩
  ·rw[List.getElem?_set_ne (by omega)];exact hpreR j hj
  ·refine(hC.own.hd1 (o':=rdO b q) λj hj=>List.getElem?_set_ne λe=>?_).low λj hj=>?_
   ·have:=hC.own.ge _ hj;omega
   ·have:=hC.own.ge _ hj;omega
end
section
theorem fF{α:Type}{l:List α}{i:Nat}{x:α}(h:l[i]?=some x)(hh:i<l.length):l[i]'hh=x:=(List.getElem?_eq_some_iff.1 h).2
section
variable {n:Nat} {H:List AO} {V:AV} {cs:List Cd} {I:List Nat}
theorem Own.cds(HV:Own n H [V] [cdL cs] I){k:Nat}{c:Cd}(hk:cs[k]?=some c):∃id rows B Ji,V= .sl id 3 0 cs.length/\H[id]?=some (.row 3 rows)/\rows.length=cs.length/\rows[k]?=some [.p (.int .i64 c.params),.p (.int .i64 c.regs),B]/\Own n H [B] [bkL c.blocks] Ji/\id∈I/\(∀j∈Ji,j∈I/\j≠id)/\
 ∀(h2:List AO) (r':List AV) (c':Cd) (I2:List Nat),h2[id]?=some (.row 3 (rows.set k r'))->(∀j∈I,j≠id->j∉Ji->h2[j]?=H[j]?)->Own n h2 r' c'.cs I2->(∀j∈I2,j∈Ji\/j∉I)->∃I',Own n h2 [V] [cdL (cs.set k c')] I'/\∀j∈I',j∈I\/j∈I2:=by
 rcases HV.row with⟨_,h2,_⟩|⟨id,rows,J,h1,h2,hr,_⟩
 ·rw[List.map_eq_nil_iff.1 h2] at hk;simp at hk
 ·rw[List.length_map] at h1
  subst h2
  have HV2:=HV
  rw[h1] at HV2
  have hD:(cs.map Cd.cs)[k]?=some c.cs:=by rw[List.getElem?_map,hk];rfl
  have hl:(cs.map Cd.cs).length=cs.length:=by simp
  obtain⟨r,Ji,g1,g2,g3,g4⟩:=Own.upd (D:=cs.map Cd.cs) (by rw[hl];exact HV2) hr hD
  obtain⟨B,rfl,hB⟩:=AD g2
  have hnid:id∉J:=(List.nodup_cons.1 HV.nd).1
  refine⟨id,rows,B,Ji,h1,hr.here,by have:=hr.len;rwa[hl] at this,g1,hB,by simp,λj hj=>⟨List.mem_cons_of_mem _ (g3 j hj).1,(g3 j hj).2⟩,λh2 r' c' I2 k1 k2 k3 k4=>?_⟩
  obtain⟨J',q1,q2⟩:=g4 h2 r' c'.cs I2 k1 (λj hj hn=>k2 j (List.mem_cons_of_mem _ hj) (λe=>hnid (e▸hj)) hn) k3 (λj hj=>by
   rcases k4 j hj with h|h
   ·exact .inl h
   ·rw[List.mem_cons,not_or] at h;exact .inr h) rfl
  rw[hl,←List.map_set,←h1] at q1
  refine⟨id::J',q1,λj hj=>?_⟩
  rcases List.mem_cons.1 hj with rfl|hj
  ·exact .inl (by simp)
  ·rcases q2 j hj with h|h
   ·exact .inl (List.mem_cons_of_mem _ h)
   ·exact .inr h
theorem Own.bks{B:AV}{bs:List Bk}(HV:Own n H [B] [bkL bs] I){k:Nat}{b:Bk}(hk:bs[k]?=some b):∃id rows r Ji,B= .sl id 5 0 bs.length/\H[id]?=some (.row 5 rows)/\rows.length=bs.length/\rows[k]?=some r/\Own n H r b.cs Ji/\id∈I/\(∀j∈Ji,j∈I/\j≠id)/\
 ∀(h2:List AO) (r':List AV) (b':Bk) (I2:List Nat),h2[id]?=some (.row 5 (rows.set k r'))->(∀j∈I,j≠id->j∉Ji->h2[j]?=H[j]?)->Own n h2 r' b'.cs I2->(∀j∈I2,j∈Ji\/j∉I)->∃I',Own n h2 [B] [bkL (bs.set k b')] I'/\∀j∈I',j∈I\/j∈I2:=by
 rcases HV.row with⟨_,h2,_⟩|⟨id,rows,J,h1,h2,hr,_⟩
 ·rw[List.map_eq_nil_iff.1 h2] at hk;simp at hk
 ·rw[List.length_map] at h1
  subst h2
  have HV2:=HV
  rw[h1] at HV2
  have hD:(bs.map Bk.cs)[k]?=some b.cs:=by rw[List.getElem?_map,hk];rfl
  have hl:(bs.map Bk.cs).length=bs.length:=by simp
  obtain⟨r,Ji,g1,g2,g3,g4⟩:=Own.upd (D:=bs.map Bk.cs) (by rw[hl];exact HV2) hr hD
  have hnid:id∉J:=(List.nodup_cons.1 HV.nd).1
  refine⟨id,rows,r,Ji,h1,hr.here,by have:=hr.len;rwa[hl] at this,g1,g2,by simp,λj hj=>⟨List.mem_cons_of_mem _ (g3 j hj).1,(g3 j hj).2⟩,λh2 r' b' I2 k1 k2 k3 k4=>?_⟩
  obtain⟨J',q1,q2⟩:=g4 h2 r' b'.cs I2 k1 (λj hj hn=>k2 j (List.mem_cons_of_mem _ hj) (λe=>hnid (e▸hj)) hn) k3 (λj hj=>by
   rcases k4 j hj with h|h
   ·exact .inl h
   ·rw[List.mem_cons,not_or] at h;exact .inr h) rfl
  rw[hl,←List.map_set,←h1] at q1
  refine⟨id::J',q1,λj hj=>?_⟩
  rcases List.mem_cons.1 hj with rfl|hj
  ·exact .inl (by simp)
  ·rcases q2 j hj with h|h
   ·exact .inl (List.mem_cons_of_mem _ h)
   ·exact .inr h
theorem Own.blk(HV:Own n H [V] [cdL cs] I){k b:Nat}{c:Cd}{x:Bk}(hk:cs[k]?=some c)(hb:c.blocks[b]?=some x):∃id rows gid rows2 r Jb,V= .sl id 3 0 cs.length/\H[id]?=some (.row 3 rows)/\rows.length=cs.length/\rows[k]?=some [.p (.int .i64 c.params),.p (.int .i64 c.regs),.sl gid 5 0 c.blocks.length]/\
 H[gid]?=some (.row 5 rows2)/\rows2.length=c.blocks.length/\rows2[b]?=some r/\Own n H r x.cs Jb/\id∈I/\gid∈I/\gid≠id/\(∀j∈Jb,j∈I/\j≠id/\j≠gid)/\
 ∀(h2:List AO) (r':List AV) (x':Bk) (I2:List Nat),h2[gid]?=some (.row 5 (rows2.set b r'))->(∀j∈I,j≠gid->j∉Jb->h2[j]?=H[j]?)->Own n h2 r' x'.cs I2->(∀j∈I2,j∈Jb\/j∉I)->∃I',Own n h2 [V] [cdL (cs.set k ⟨c.params,c.regs,c.blocks.set b x'⟩)] I'/\∀j∈I',j∈I\/j∈I2:=by
 obtain⟨id,rows,B,Ji,a1,a2,a3,a4,a5,a6,a7,a8⟩:=HV.cds hk
 obtain⟨gid,rows2,r,Jb,b1,b2,b3,b4,b5,b6,b7,b8⟩:=a5.bks hb
 subst b1
 refine⟨id,rows,gid,rows2,r,Jb,a1,a2,a3,a4,b2,b3,b4,b5,a6,(a7 gid b6).1,(a7 gid b6).2,λj hj=>⟨(a7 j (b7 j hj).1).1,(a7 j (b7 j hj).1).2,(b7 j hj).2⟩,λh2 r' x' I2 k1 k2 k3 k4=>?_⟩
 obtain⟨I',c1,c2⟩:=b8 h2 r' x' I2 k1 (λj hj hn hm=>k2 j (a7 j hj).1 hn hm) k3 (λj hj=>(k4 j hj).imp (λh=>h) λh hm=>h (a7 j hm).1)
 have hidg:id≠gid:=λe=>(a7 gid b6).2 e.symm
 have hidb:id∉Jb:=λhm=>(a7 id (b7 id hm).1).2 rfl
 have hset:rows.set k [.p (.int .i64 c.params),.p (.int .i64 c.regs),.sl gid 5 0 c.blocks.length]=rows:=by
  obtain⟨hl,e⟩:=List.getElem?_eq_some_iff.1 a4
  rw[←e];exact List.set_getElem_self hl
 obtain⟨I'',d1,d2⟩:=a8 h2 [.p (.int .i64 c.params),.p (.int .i64 c.regs),.sl gid 5 0 c.blocks.length] ⟨c.params,c.regs,c.blocks.set b x'⟩ I' (by rw[hset,k2 id a6 hidg hidb];exact a2) (λj hj hn hm=>k2 j hj (λe=>hm (e▸b6)) λh=>hm (b7 j h).1) (pQ (c:=⟨c.params,c.regs,c.blocks.set b x'⟩) c1) (λj hj=>by
  rcases c2 j hj with h|h
  ·exact .inl h
  ·exact(k4 j h).imp (λh=>(b7 j h).1) (λh=>h))
 refine⟨I'',d1,λj hj=>?_⟩
 rcases d2 j hj with h|h
 ·exact .inl h
 ·rcases c2 j h with h|h
  ·exact .inl (a7 j h).1
  ·exact .inr h
theorem Own.cdsAt{o:AO}{W:List AO}(HV:Own (n+1) (o::W) [V] [cdL cs] I)(hs:∀c∈cs,c.params<=3)(hn:cs=[]->V= .nils):CdsAt W V cs:=by
 by_cases h0:cs=[]
 ·exact .inl ⟨hn h0,h0⟩
 ·obtain⟨c0,hc0⟩:∃c,cs[0]?=some c:=⟨_,List.getElem?_eq_getElem (List.length_pos_iff.2 h0)⟩
  obtain⟨id,rows,B,Ji,a1,a2,a3,a4,a5,a6,a7,a8⟩:=HV.cds hc0
  have:=HV.ge id a6
  obtain⟨f,rfl⟩:∃f,id=f+1:=⟨id-1,by omega⟩
  rw[List.getElem?_cons_succ] at a2
  refine .inr ⟨f,rows,h0,a1,a2,λk c hk=>?_⟩
  obtain⟨id2,rows2,B2,_,c1,c2,_,c4,_⟩:=HV.cds hk
  rw[a1] at c1
  cases c1
  rw[List.getElem?_cons_succ,a2] at c2
  cases c2
  exact⟨B2,c4,hs c (List.mem_of_getElem? hk)⟩
end
structure UI (m:Nat) (W:List AO) (V:AV) (cs:List Cd) (I:List Nat):Prop where
 len:2<=W.length
 res:W[0]?=some (.row 1 [[.nils]])
 u:W[1]?=some (.row 1 [[V]])
 own:Own 3 (.dead::W) [V] [cdL cs] I
 sm:∀c∈cs,SmCd m c
 nil:cs=[]->V= .nils
section
variable {m:Nat} {W W2:List AO} {V V':AV} {cs:List Cd} {I:List Nat}
theorem UI.fr(H:UI m W V cs I)(f:∀i,i<W.length->W2[i]?=W[i]?)(hl:W.length<=W2.length):UI m W2 V cs I:=
 ⟨by have:=H.len;omega,by rw[f 0 (by have:=H.len;omega)];exact H.res,by rw[f 1 (by have:=H.len;omega)];exact H.u,H.own.hd1 λi hi=>f i (by have:=H.own.lt _ hi;simpa using this),H.sm,H.nil⟩
theorem UI.more(H:UI m W V cs I)(os:List AO):UI m (W++os) V cs I:=H.fr (λi hi=>List.getElem?_append_left hi) (by simp)
theorem UI.push(H:UI m W V cs I){os:List AO}{c:Cd}{B:AV}{IB:List Nat}{h0:AO}(hB:Own (W.length+1) (h0::(W++os)) [B] [bkL c.blocks] IB)(hc:SmCd m c){lit:AO}{W3:List AO}
 (hp:Psh (.dead::(W++os++[lit])) V 3 [.p (.int .i64 c.params),.p (.int .i64 c.regs),B] (.dead::W3) V'):∃I',UI m (W3.set 1 (.row 1 [[V']])) V' (cs++[c]) I':=by
 have hl:=H.len
 have hlt:∀i∈I,i<W.length+1:=λi hi=>by have:=H.own.lt i hi;simpa using this
 have H2:=(H.more (os++[lit])).own
 rw[←List.append_assoc] at H2
 have hB1:Own 3 (.dead::(W++os++[lit])) [B] [bkL c.blocks] IB:=(hB.hd1 λi hi=>List.getElem?_append_left (by have:=hB.lt _ hi;simp at this⊢;omega)).low λi hi=>by have:=hB.ge i hi;omega
 obtain⟨I',n1,n2,n3,n4⟩:=H2.psh (pQ hB1) (λi hi hm=>by have:=hlt i hi;have:=hB.ge i hm;omega) rfl (by simp;omega) hp
 have hlen:(AO.dead::(W++os++[lit])).length=W.length+os.length+1+1:=by simp;omega
 rw[hlen] at n2 n3 n4
 have n4':W3.length=W.length+os.length+1+1:=by simpa using n4
 have hse:∀i,i<2->W3[i]?=W[i]?:=λi hi=>by
  have:=n3 (i+1) (by omega) λhm=>by have:=H.own.ge _ hm;omega
  rw[List.getElem?_cons_succ,List.getElem?_cons_succ,List.append_assoc,List.getElem?_append_left (by omega)] at this
  exact this
 refine⟨I',by simp;omega,by rw[List.getElem?_set_ne (by omega),hse 0 (by omega)];exact H.res,List.getElem?_set_self (by omega),?_,λx hx=>?_,λh=>by simp at h⟩
 ·have:cdL (cs++[c])= .lst 3 (cs.map Cd.cs++[c.cs]):=by rw[cdL,List.map_append];rfl
  rw[this]
  exact n1.hd1 λi hi=>List.getElem?_set_ne λe=>by have:=n1.ge _ hi;omega
 ·rcases List.mem_append.1 hx with h|h
  ·exact H.sm x h
  ·rw[List.mem_singleton.1 h];exact hc
theorem UI.at(H:UI m W V cs I):(V= .nils/\cs=[])\/∃f rows,V= .sl (f+1) 3 0 cs.length/\f<W.length/\2<=f/\W[f]?=some (.row 3 rows)/\rows.length=cs.length:=by
 by_cases h0:cs=[]
 ·exact .inl ⟨H.nil h0,h0⟩
 ·obtain⟨c0,hc0⟩:∃c,cs[0]?=some c:=⟨_,List.getElem?_eq_getElem (List.length_pos_iff.2 h0)⟩
  obtain⟨id,rows,B,Ji,a1,a2,a3,a4,a5,a6,a7,a8⟩:=H.own.cds hc0
  have:=H.own.ge id a6
  obtain⟨f,rfl⟩:∃f,id=f+1:=⟨id-1,by omega⟩
  rw[List.getElem?_cons_succ] at a2
  exact .inr ⟨f,rows,a1,(List.getElem?_eq_some_iff.1 a2).1,by omega,a2,a3⟩
end
theorem Psh.same{H H':List AO}{V V':AV}{sz:Nat}{r:List AV}(hp:Psh H V sz r H' V'){i:Nat}(hi:i<H.length)(hn:∀a b c,V≠ .sl i a b c):H'[i]?=H[i]?:=by
 rcases hp with⟨_,rfl,_⟩|⟨id,rows,m,rfl,_,_,rfl,_⟩
 ·exact List.getElem?_append_left hi
 ·rw[List.getElem?_append_left (by simpa using hi),List.getElem?_set_ne λe=>hn _ _ _ (by rw[e])]
theorem Psh.len{H H':List AO}{V V':AV}{sz:Nat}{r:List AV}(hp:Psh H V sz r H' V'):H'.length=H.length+1:=by
 rcases hp with⟨_,rfl,_⟩|⟨id,rows,m,rfl,_,_,rfl,_⟩<;>simp
theorem Own.psh2{n:Nat}{H H':List AO}{U V V':AV}{q:PV}{sz:Nat}{D:List (List PV)}{r:List AV}{e:List PV}{I IR:List Nat}(hV:Own n H [U,V] [q,.lst sz D] I)(hr:Own n H r e IR)(hd:∀j∈I,j∉IR)(he:e.length=sz)(hn:n<=H.length)(hp:Psh H V sz r H' V'):
 ∃I',Own n H' [U,V'] [q,.lst sz (D++[e])] I'/\(∀j∈I',j∈I\/j∈IR\/j=H.length):=by
 have hnd:=hV.nd
 have hlt:=hV.lt
 obtain⟨_,_,I1,I2,e1,rfl,h1,h2⟩:=hV.one
 cases e1
 rw[List.nodup_append] at hnd
 obtain⟨I2',n1,n2,n3,n4⟩:=h2.psh hr (λj hj=>hd j (by simp[hj])) he hn hp
 refine⟨I1++I2',(h1.frame λi hi=>n3 i (h1.lt i hi) λhm=>hnd.2.2 i hi i hm rfl).app n1 λj hj hm=>?_,λj hj=>?_⟩
 ·rcases n2 j hm with h|h|h
  ·exact hnd.2.2 j hj j h rfl
  ·exact hd j (by simp[hj]) h
  ·have:=h1.lt j hj;omega
 ·rcases List.mem_append.1 hj with h|h
  ·exact .inl (by simp[h])
  ·rcases n2 j h with h|h|h
   ·exact .inl (by simp[h])
   ·exact .inr (.inl h)
   ·exact .inr (.inr h)
structure PI (m:Nat) (W:List AO) (V A:AV) (cs:List Cd) (args:List Int) (to:Int) (pw:Nat) (I:List Nat):Prop where
 len:2<=W.length
 res:W[0]?=some (.row 1 [[.nils]])
 u:W[1]?=some (.row 1 [[V]])
 pge:2<=pw
 x:W[pw]?=some (.row 2 [[.p (.int .i64 to),A]])
 own:Own 3 (.dead::W) [V,A] [cdL cs,aC args] I
 xn:pw+1∉I
 sm:∀c∈cs,SmCd m c
 nil:cs=[]->V= .nils
section
variable {m pw:Nat} {W W2:List AO} {V V' A:AV} {cs:List Cd} {args:List Int} {to:Int} {I:List Nat}
theorem UI.phi(H:UI m W V cs I)(to:Int):PI m (W++[.row 2 [[.p (.int .i64 to),.nils]]]) V .nils cs [] to W.length I:=by
 have hl:=H.len
 have h2:=H.more [.row 2 [[.p (.int .i64 to),.nils]]]
 refine⟨h2.len,h2.res,h2.u,hl,by rw[List.getElem?_append_right (Nat.le_refl _)];simp,?_,λhm=>?_,H.sm,H.nil⟩
 ·have:=h2.own.app (Own.nil 3 _ 1) λ_ _ h=>by cases h
  rw[List.append_nil] at this
  exact this
 ·have:=H.own.lt _ hm
  simp at this
theorem PI.fr(H:PI m W V A cs args to pw I)(f:∀i,i<W.length->W2[i]?=W[i]?)(hl:W.length<=W2.length):PI m W2 V A cs args to pw I:=
 ⟨by have:=H.len;omega,by rw[f 0 (by have:=H.len;omega)];exact H.res,by rw[f 1 (by have:=H.len;omega)];exact H.u,H.pge,by rw[f _ (List.getElem?_eq_some_iff.1 H.x).1];exact H.x,H.own.hd1 λi hi=>f i (by have:=H.own.lt _ hi;simpa using this),H.xn,H.sm,H.nil⟩
theorem PI.lt(H:PI m W V A cs args to pw I):pw<W.length:=(List.getElem?_eq_some_iff.1 H.x).1
theorem vZ(n:Nat)(H:List AO)(k:Int):Own n H [.p (.int .i64 k)] [.int .i64 k] []:=(Own.nix n H).putI k
theorem PI.arg(H:PI m W V A cs args to pw I){k:Int}{W3:List AO}{A':AV}(hp:Psh (.dead::W) A 1 [.p (.int .i64 k)] (.dead::W3) A'):∃I',PI m (W3.set pw (.row 2 [[.p (.int .i64 to),A']])) V A' cs (args++[k]) to pw I':=by
 have hl:=H.len
 have hpw:=H.lt
 have hge:=H.own.ge
 obtain⟨I',n1,n2⟩:=H.own.psh2 (vZ 3 _ k) (λ_ _ h=>by cases h) rfl (by simp;omega) hp
 have hlen:=hp.len
 simp only[List.length_cons] at hlen n2
 have hAid:∀i a b c,A= .sl i a b c->i∈I:=λi a b c e=>by
  obtain⟨_,_,I1,I2,e1,rfl,h1,h2⟩:=H.own.one
  cases e1
  rcases h2.row with⟨h3,_⟩|⟨id,rows,J,h3,h4,_⟩
  ·rw[h3] at e;cases e
  ·rw[h3] at e;cases e
   rw[h4];simp
 have hse:∀i,i<2->W3[i]?=W[i]?:=λi hi=>by
  have:=hp.same (i:=i+1) (by simp;omega) λa b c e=>by have:=hge _ (hAid _ _ _ _ e);omega
  simpa using this
 have hpg:=H.pge
 have hpi:∀j∈I',j≠pw+1:=λj hj e=>by
  rcases n2 j hj with h|h|h
  ·exact H.xn (e▸h)
  ·cases h
  ·omega
 refine⟨I',by simp;omega,by rw[List.getElem?_set_ne (by omega),hse 0 (by omega)];exact H.res,by rw[List.getElem?_set_ne (by omega),hse 1 (by omega)];exact H.u,H.pge,List.getElem?_set_self (by omega),?_,λhm=>hpi _ hm rfl,H.sm,H.nil⟩
 have:aC (args++[k])= .lst 1 ((args.map λn=>[PV.int .i64 n])++[[.int .i64 k]]):=by rw[aC,List.map_append];rfl
 rw[this]
 exact n1.hd1 λi hi=>List.getElem?_set_ne λe=>hpi _ hi (by rw[e])
theorem SmCd.phi{c:Cd}(hc:SmCd m c){b:Nat}{x:Bk}(hb:c.blocks[b]?=some x){ph:Ph}(hp:ph.args.length<=7):SmCd (m+1) ⟨c.params,c.regs,c.blocks.set b {x with phis:=x.phis++[ph]}⟩:=by
 obtain⟨h1,h2,h3,h4⟩:=hc
 refine⟨h1,by simpa using h2,by simpa using h3,λy hy=>?_⟩
 rcases List.mem_or_eq_of_mem_set hy with h|rfl
 ·obtain⟨a1,a2,a3,a4,a5⟩:=h4 y h
  exact⟨by omega,a2,a3,a4,a5⟩
 ·obtain⟨a1,a2,a3,a4,a5⟩:=h4 x (List.mem_of_getElem? hb)
  refine⟨by simp;omega,a2,a3,a4,λz hz=>?_⟩
  rcases List.mem_append.1 hz with h|h
  ·exact a5 z h
  ·rw[List.mem_singleton.1 h];exact hp
theorem SmCd.up{c:Cd}(hc:SmCd m c):SmCd (m+1) c:=⟨hc.1,hc.2.1,hc.2.2.1,λy hy=>by obtain⟨a1,a2⟩:=hc.2.2.2 y hy;exact⟨by omega,a2⟩⟩
theorem UI.up(H:UI m W V cs I):UI (m+1) W V cs I:=⟨H.len,H.res,H.u,H.own,λc hc=>(H.sm c hc).up,H.nil⟩
theorem PI.drop(H:PI m W V A cs args to pw I):∃I',UI (m+1) W V cs I':=by
 obtain⟨_,_,I1,I2,e1,rfl,h1,h2⟩:=H.own.one
 cases e1
 exact⟨I1,H.len,H.res,H.u,h1,λc hc=>(H.sm c hc).up,H.nil⟩
theorem PI.put(H:PI m W V A cs args to pw I){k b:Nat}{c:Cd}{x:Bk}(hk:cs[k]?=some c)(hb:c.blocks[b]?=some x)(hal:args.length<=7):∃f rows g rows2 P N X,V= .sl (f+1) 3 0 cs.length/\W[f]?=some (.row 3 rows)/\rows.length=cs.length/\2<=f/\rows[k]?=some [.p (.int .i64 c.params),.p (.int .i64 c.regs),.sl (g+1) 5 0 c.blocks.length]/\
 W[g]?=some (.row 5 rows2)/\rows2.length=c.blocks.length/\2<=g/\g≠f/\rows2[b]?=some [P,N,.p (.int .i64 x.jump),.p (.int .i64 x.on),X]/\A.cells=[A]/\A.isCell=true/\((P= .nils/\x.phis=[])\/∃i rows,P= .sl (i+1) 2 0 x.phis.length/\W[i]?=some (.row 2 rows)/\rows.length=x.phis.length/\2<=i/\i≠f/\i≠g/\i≠pw)/\P.cells=[P]/\P.isCell=true/\
 ∀(W3:List AO) (P':AV),Psh (.dead::(W++[.row 2 [[.p (.int .i64 to),A]]])) P 2 [.p (.int .i64 to),A] (.dead::W3) P'->∃I',UI (m+1) (W3.set g (.row 5 (rows2.set b [P',N,.p (.int .i64 x.jump),.p (.int .i64 x.on),X]))) V (cs.set k ⟨c.params,c.regs,c.blocks.set b {x with phis:=x.phis++[⟨to,args⟩]}⟩) I':=by
 have hl:=H.len
 have hxn:=H.xn
 have hnd:=H.own.nd
 have hge:=H.own.ge
 obtain⟨_,_,I1,I2,e1,rfl,h1,h2⟩:=H.own.one
 cases e1
 obtain⟨id,rows,gid,rows2,r,Jb,q1,q2,q3,q4,q5,q6,q7,q8,q9,q10,q11,q12,q13⟩:=h1.blk hk hb
 have g1:=h1.ge id q9
 have g2:=h1.ge gid q10
 obtain⟨f,rfl⟩:∃f,id=f+1:=⟨id-1,by omega⟩
 obtain⟨g,rfl⟩:∃g,gid=g+1:=⟨gid-1,by omega⟩
 rw[List.getElem?_cons_succ] at q2 q5
 obtain⟨P,N,X,IP,IN,IX,rfl,rfl,hP,hN,hX⟩:=uO q8
 have hgl:=(List.getElem?_eq_some_iff.1 q5).1
 refine⟨f,rows,g,rows2,P,N,X,q1,q2,q3,by omega,q4,q5,q6,by omega,by omega,q7,h2.cell.1,h2.cell.2,?_,hP.cell.1,hP.cell.2,λW3 P' hp=>?_⟩
 ·rcases hP.row with⟨h3,h4,_⟩|⟨i,rows3,J,h3,h4,hr,_⟩
  ·exact .inl ⟨h3,List.map_eq_nil_iff.1 h4⟩
  ·have hi:=hP.ge i (by rw[h4];simp)
   have hi2:=q12 i (by rw[h4];simp)
   obtain⟨i,rfl⟩:∃i',i=i'+1:=⟨i-1,by omega⟩
   rw[List.length_map] at h3
   have hh:=hr.here
   rw[List.getElem?_cons_succ] at hh
   refine .inr ⟨i,rows3,h3,hh,by have:=hr.len;simpa using this,by omega,by omega,by omega,λe=>hxn ?_⟩
   rw[←e];exact List.mem_append_left _ hi2.1
 ·rw[List.nodup_append] at hnd
  have hfr:∀{vs:List AV} {qs:List PV} {J:List Nat},Own 3 (.dead::W) vs qs J->Own 3 (.dead::(W++[.row 2 [[.p (.int .i64 to),A]]])) vs qs J:=λh=>h.hd1 λi hi=>List.getElem?_append_left (by have:=h.lt _ hi;simpa using this)
  have hndb:=q8.nd
  simp only[List.nodup_append,List.mem_append] at hndb
  have hph:=ux (x:=⟨to,args⟩) (hfr h2)
  have hd:∀j∈IP,j∉I2:=λj hj hm=>hnd.2.2 j (q12 j (by simp[hj])).1 j hm rfl
  have hlen:=hp.len
  simp only[List.length_cons,List.length_append,List.length_nil] at hlen
  obtain⟨IP',n1,n2,n3,n4⟩:=(hfr hP).psh hph hd rfl (by simp;omega) hp
  simp only[List.length_cons,List.length_append,List.length_nil] at n2 n3
  have hsame:∀j,j+1∉IP->j<W.length->W3[j]?=W[j]?:=λj hj hjl=>by
   have:=n3 (j+1) (by omega) hj
   rw[List.getElem?_cons_succ,List.getElem?_cons_succ,List.getElem?_append_left hjl] at this
   exact this
  have hgP:g+1∉IP:=λhm=>(q12 _ (by simp[hm])).2.2 rfl
  have hnew:∀j∈IP',j∈IP\/j∈I2\/j=W.length+1+1:=λj hj=>by have:=n2 j hj;omega
  have hbk:Own 3 (.dead::W3.set g (.row 5 (rows2.set b [P',N,.p (.int .i64 x.jump),.p (.int .i64 x.on),X]))) [P',N,.p (.int .i64 x.jump),.p (.int .i64 x.on),X] ({x with phis:=x.phis++[⟨to,args⟩]}:Bk).cs (IP'++(IN++IX)):=by
   have hgt:∀j∈IN++IX,j+0∉IP:=λj hj hm=>hndb.2.2 j hm j (List.mem_append.1 hj) rfl
   refine pS (b:={x with phis:=x.phis++[⟨to,args⟩]}) ?_ (hN.hd1 λi hi=>?_) (hX.hd1 λi hi=>?_) (λj hj=>?_) λj hj hm=>hndb.2.1.2.2 j hj j hm rfl
   ·have:phL (x.phis++[⟨to,args⟩])= .lst 2 (x.phis.map Ph.cs++[(⟨to,args⟩:Ph).cs]):=by rw[phL,List.map_append];rfl
    show Own 3 _ [P'] [phL (x.phis++[⟨to,args⟩])] IP'
    rw[this]
    refine n1.hd1 λi hi=>List.getElem?_set_ne λe=>?_
    subst e
    rcases hnew _ hi with h|h|h
    ·exact hgP h
    ·exact hnd.2.2 _ q10 _ h rfl
    ·omega
   ·have hil:=hN.lt _ hi
    simp only[List.length_cons] at hil
    rw[List.getElem?_set_ne λe=>(q12 (i+1) (by simp[hi])).2.2 (by rw[e]),hsame i (hgt (i+1) (by simp[hi])) (by omega)]
   ·have hil:=hX.lt _ hi
    simp only[List.length_cons] at hil
    rw[List.getElem?_set_ne λe=>(q12 (i+1) (by simp[hi])).2.2 (by rw[e]),hsame i (hgt (i+1) (by simp[hi])) (by omega)]
   ·have key:j∈IN++IX->False:=λhm=>by
     have hm2:=q12 j (List.mem_append_right _ hm)
     rcases hnew j hj with h|h|h
     ·exact hgt j hm h
     ·exact hnd.2.2 _ hm2.1 _ h rfl
     ·have:=h1.lt j hm2.1
      simp only[List.length_cons] at this;omega
    exact⟨λh=>key (List.mem_append_left _ h),λh=>key (List.mem_append_right _ h)⟩
  obtain⟨I',d1,d2⟩:=q13 (.dead::W3.set g (.row 5 (rows2.set b [P',N,.p (.int .i64 x.jump),.p (.int .i64 x.on),X]))) [P',N,.p (.int .i64 x.jump),.p (.int .i64 x.on),X] {x with phis:=x.phis++[⟨to,args⟩]} (IP'++(IN++IX)) (by rw[List.getElem?_cons_succ];exact List.getElem?_set_self (by omega)) (λj hj hn hm=>by
   have h3:=h1.ge j hj
   have h4:=h1.lt j hj
   simp only[List.length_cons] at h4
   obtain⟨i,rfl⟩:∃i,j=i+1:=⟨j-1,by omega⟩
   rw[List.getElem?_cons_succ,List.getElem?_cons_succ,List.getElem?_set_ne (by omega),hsame i (λh=>hm (by simp[h])) (by omega)]) hbk (λj hj=>by
   rcases List.mem_append.1 hj with h|h
   ·rcases hnew j h with h|h|h
    ·exact .inl (by simp[h])
    ·exact .inr λhm=>hnd.2.2 _ hm _ h rfl
    ·exact .inr λhm=>by have:=h1.lt j hm;simp only[List.length_cons] at this;omega
   ·exact .inl (List.mem_append_right _ h))
  refine⟨I',by simp;omega,?_,?_,d1,λy hy=>?_,λh=>?_⟩
  ·rw[List.getElem?_set_ne (by omega),hsame 0 (λhm=>by have:=hP.ge _ hm;omega) (by omega)];exact H.res
  ·rw[List.getElem?_set_ne (by omega),hsame 1 (λhm=>by have:=hP.ge _ hm;omega) (by omega)];exact H.u
  ·rcases List.mem_or_eq_of_mem_set hy with h|rfl
   ·exact(H.sm y h).up
   ·exact(H.sm c (List.mem_of_getElem? hk)).phi hb hal
  ·have:=congrArg List.length h
   simp at this
   subst this
   simp at hk
end
end
section
theorem td:AK.whole iC=FK.ak iz:=rfl
variable (G:aB)
theorem UI.le{m m':Nat}{W:List AO}{V:AV}{cs:List Cd}{I:List Nat}(H:UI m W V cs I)(h:m<=m'):UI m' W V cs I:=
 ⟨H.len,H.res,H.u,H.own,λc hc=>⟨(H.sm c hc).1,(H.sm c hc).2.1,(H.sm c hc).2.2.1,λy hy=>by obtain⟨a1,a2⟩:=(H.sm c hc).2.2.2 y hy;exact⟨by omega,a2⟩⟩,H.nil⟩
structure PiS where (q:Nat) (W:List AO) (A:AV) (args:List Int)
theorem DR{f:FuncId}{args:List AV}{l:List Int}(H:AC Try.prog G f args [] λr h=>∃id,r= .ret (.sl id 1 0 l.length)/\h[id]?=some (.row 1 (aq l))):AC Try.prog G f args [] λr h=>r= .ret (.sl 0 1 0 l.length)/\h=[.row 1 (aq l)]:=
 H.gc (λt v h ⟨_,e,_⟩=>by cases e) λv h ⟨id,e1,e2⟩=>by
  cases e1
  refine⟨.sl 0 1 0 l.length,[.row 1 (aq l)],⟨[id],by simp,λi hi=>by simp at hi,by simp,by simp[below],by simp[ren],cM e2 (λx hx=>by obtain⟨n,_,rfl⟩:=List.mem_map.1 hx;simp[below]) gf⟩,rfl,rfl⟩
theorem EA(n:Nat)(l:List Int):cb n (.row 1 (aq l))= .row 1 (aq l):=by simp[cb,aq,cq,bz]
structure UnS2 where (i:Int) (q:Nat) (W:List AO)
def SmU(cs:List Cd):Prop:=cs≠[]/\cs.length<=3/\∀c∈cs,SmCd 3 c
theorem vJ{b:List Int}(hb:Byt b)(hl:b.length<=2000){p:Nat}(hp:p<=800000000000):AC Try.prog G di [.ptr 0 2 0 0] [rdO b p] λx h=>∃v q,x= .ret v/\h=[rdO b q]/\(∃cs,v= .agg [.p (cdL cs)]/\SmU cs)/\p<=q/\q<=p+4000:=by
 refine ig G (AC.goK tm td ?_)
 simp-implicitDefEqProofs[iC,iz]
 refine fA (λa:UnS2=>aA 95 [(3,.ptr 2 1 0 0),(2,.ptr 1 1 0 0),(0,.ptr 0 2 0 0)]) (λa=>rdO b a.q::a.W) (λa=>p<=a.q/\a.q<=p+3100/\∃V cs I,UI 0 a.W V cs I/\cs≠[]/\cs.length<=3) ?_ ?_
 ·simp-implicitDefEqProofs[]
  refine(rz G hb hl (by omega) (R:=[.row 1 [[.nils]],.row 1 [[.nils]]]) [1,2,1,3] 0 (by simp) rfl (by simp) (by simp)).mono ?_
  rintro r h ⟨i0,hi0,rfl,rfl⟩
  have hi0:1<=i0/\i0<=3:=by simp at hi0;omega
  simp-implicitDefEqProofs[aa]
  refine aH (λa:UnS2=>aA 95 [(4,.p (.int .i64 a.i)),(3,.ptr 2 1 0 0),(2,.ptr 1 1 0 0),(0,.ptr 0 2 0 0)]) (λa=>rdO b a.q::a.W)
   (λa=>0<=a.i/\p<=a.q/\a.q+1000*a.i.toNat<=p+3001/\∃V cs I,UI 0 a.W V cs I/\(cs.length:Int)+a.i=i0) (λa=>a.i.toNat) ⟨i0,p+1,_⟩ ⟨by simp only;omega,by simp only;omega,by simp only;omega,.nils,[],[],⟨?_,?_,?_,Own.nil _ _ 3,λc hc=>(by cases hc),λ_=>rfl⟩,by simp⟩ (ab ?_ ?_) ?_
  rotate_left 3
  ·simp
  ·simp[below]
  rotate_left 1
  ·simp
  ·rfl
  ·rfl
  rintro⟨i,q,W⟩ ⟨hi,hq1,hq2,V,cs,I,hU,hlen⟩
  simp only at hi hq1 hq2 hU hlen⊢
  have hWl:=hU.len
  have hu1:∀t,(W++t)[1]?=some (.row 1 [[V]]):=λt=>by rw[List.getElem?_append_left (by omega)];exact hU.u
  obtain⟨v1,v2⟩:=hU.own.cell
  simp-implicitDefEqProofs[]
  refine aF (λhc=>?_) (λhc=>?_)
  ·have hc:0<i:=by simpa using hc
   have hw1:IntKind.i64.wrap (i-1)=i-1:=ag (by omega) (by omega)
   simp-implicitDefEqProofs[-AV.cells,-AV.isCell,aD,ae,ah,an,al,aE,af,am,aj,v1,v2,hU.u]
   refine(ER G hb hl (by omega) W V cs (hU.own.cdsAt (λc hc=>(hU.sm c hc).1) hU.nil)).mono ?_
   rintro r h ⟨c,B,IB,q2,os,rfl,rfl,hB,hcs,g1,g2⟩
   obtain⟨b1,b2⟩:=hB.cell
   obtain⟨W2,hW2⟩:∃W2,W2=W++os:=⟨_,rfl⟩
   have hu2:∀t,(W2++t)[1]?=some (.row 1 [[V]]):=λt=>by rw[hW2,List.append_assoc];exact hu1 _
   have hu20:=hu2 []
   rw[List.append_nil] at hu20
   have hu2e:=λt hh=>fF (hu2 t) hh
   rw[←hW2]
   rcases hU.at with⟨rfl,rfl⟩|⟨f,rows,rfl,hfl,hf2,hg,hrl⟩
   ·simp-implicitDefEqProofs[-AV.cells,-AV.isCell,aD,ae,ah,an,al,aE,af,am,aj,v1,v2,b1,b2,aa,hu2,hu20,hu2e]
    have hp:Psh (.dead::(W++os++[.row 3 [[.p (.int .i64 c.params),.p (.int .i64 c.regs),B]]])) .nils 3 [.p (.int .i64 c.params),.p (.int .i64 c.regs),B] (.dead::(W2++[.row 3 [[.p (.int .i64 c.params),.p (.int .i64 c.regs),B]],.row 3 [[.p (.int .i64 c.params),.p (.int .i64 c.regs),B]]])) (.sl (W2.length+1+1) 3 0 1):= .inl ⟨rfl,by rw[hW2];simp,by rw[hW2];simp<;>omega⟩
    obtain⟨I',hI'⟩:=hU.push hB hcs hp
    refine⟨⟨i-1,q2,_⟩,⟨by simp only;omega,by simp only;omega,by simp only;omega,_,_,⟨_,hI'⟩,by simp at hlen⊢;omega⟩,by simp only;omega,ab ?_ ?_⟩
    ·simp
    ·simp[below,hw1]
     try omega
   ·have hg2:∀t,(W2++t)[f]?=some (.row 3 rows):=λt=>by rw[hW2,List.append_assoc,List.getElem?_append_left hfl];exact hg
    have htk:List.take cs.length rows=rows:=List.take_of_length_le (by omega)
    have hu3:∀t t',((W2++t).set f .dead++t')[1]?=some (.row 1 [[.sl (f+1) 3 0 cs.length]]):=λt t'=>by
     rw[List.getElem?_append_left (by rw[hW2];simp;omega),List.getElem?_set_ne (by omega)];exact hu2 t
    have hu3e:=λt t' hh=>fF (hu3 t t') hh
    simp-implicitDefEqProofs[-AV.cells,-AV.isCell,aD,ae,ah,an,al,aE,af,am,aj,v1,v2,b1,b2,aa,hu2,hu20,hg2,htk,hu3,hu2e,hu3e]
    have hp:Psh (.dead::(W++os++[.row 3 [[.p (.int .i64 c.params),.p (.int .i64 c.regs),B]]])) (.sl (f+1) 3 0 cs.length) 3 [.p (.int .i64 c.params),.p (.int .i64 c.regs),B] (.dead::((W2++[AO.row 3 [[.p (.int .i64 c.params),.p (.int .i64 c.regs),B]]]).set f .dead++[.row 3 (rows++[[.p (.int .i64 c.params),.p (.int .i64 c.regs),B]])])) (.sl (W2.length+1+1) 3 0 (cs.length+1)):= .inr ⟨f+1,rows,cs.length,rfl,by rw[List.getElem?_cons_succ,←hW2];exact hg2 _,hrl,by rw[hW2];simp,by rw[hW2];simp<;>omega⟩
    obtain⟨I',hI'⟩:=hU.push hB hcs hp
    refine⟨⟨by omega,by omega,by omega⟩,⟨i-1,q2,_⟩,⟨by simp only;omega,by simp only;omega,by simp only;omega,_,_,⟨_,hI'⟩,by simp at hlen⊢;omega⟩,by simp only;omega,ab ?_ ?_⟩
    ·simp
    ·simp[below,hw1]
     try omega
  ·have hc:i<=0:=by simpa using hc
   refine⟨⟨0,q,W⟩,⟨hq1,by simp only;omega,V,cs,⟨I,hU⟩,λh=>by rw[h] at hlen;simp at hlen;omega,by omega⟩,ab ?_ ?_⟩
   ·simp
   ·simp[below]
    try omega
 rintro⟨_,q,W⟩ ⟨hq1,hq2,V,cs,I,hU,h0,hlen⟩
 simp only at hq1 hq2 hU⊢
 simp-implicitDefEqProofs[]
 have hWl:=hU.len
 refine(jm G hb hl (by omega) [0,0,1,3] (by simp) (by simp) (by omega) rfl (by rw[List.getElem?_cons_succ,List.getElem?_append_right (by omega),Nat.sub_self];rfl)).mono ?_
 rintro r h ⟨i0,hi0,rfl,rfl⟩
 have hi0:0<=i0/\i0<=3:=by simp at hi0;omega
 simp-implicitDefEqProofs[aa]
 refine aH (λa:UnS2=>aA 95 [(5,.p (.int .i64 a.i)),(3,.ptr 2 1 0 0),(2,.ptr 1 1 0 0),(0,.ptr 0 2 0 0)]) (λa=>rdO b a.q::a.W)
  (λa=>0<=a.i/\a.i<=3/\p<=a.q/\a.q+20*a.i.toNat<=p+3200/\∃V cs I,UI (3-a.i.toNat) a.W V cs I/\cs≠[]/\cs.length<=3) (λa=>a.i.toNat) ⟨i0,q+1,_⟩ ⟨hi0.1,hi0.2,by simp only;omega,by simp only;omega,V,cs,I,(hU.more _).le (Nat.zero_le _),h0,hlen⟩ (ab (by simp) (by simp[below];omega)) ?_
 clear hU h0 hlen hWl hq1 hq2 q W V cs I
 rintro⟨j,q,W⟩ ⟨hj0,hj3,hq1,hq2,V,cs,I,hU,h0,hlen⟩
 simp only at hj0 hj3 hq1 hq2 hU⊢
 have hWl:=hU.len
 simp-implicitDefEqProofs[]
 refine aF (λhc=>?_) (λhc=>?_)
 ·have hc:0<j:=by simpa using hc
  have hw1:IntKind.i64.wrap (j-1)=j-1:=ag (by omega) (by omega)
  rcases hU.at with⟨rfl,rfl⟩|⟨f,rows,rfl,hfl,hf2,hg,hrl⟩
  ·exact absurd rfl h0
  simp-implicitDefEqProofs[hU.u]
  refine(aG G b hb hl q (by omega) _ W).mono ?_
  rintro r h ⟨k,rfl,rfl,hk⟩
  have hkl:k<cs.length:=by
   have:=List.length_pos_iff.2 h0
   omega
  have hgk:=List.getElem?_eq_getElem hkl
  generalize cs[k]=c at hgk
  have hsc:=hU.sm c (List.mem_of_getElem? hgk)
  have hb1:=hsc.2.1
  simp-implicitDefEqProofs[aa,hU.u,hkl]
  obtain⟨g,rows2,hrk,hgg,hgl,hg2,hr2l⟩:∃g rows2,rows[k]?=some [.p (.int .i64 c.params),.p (.int .i64 c.regs),.sl (g+1) 5 0 c.blocks.length]/\W[g]?=some (.row 5 rows2)/\g<W.length/\2<=g/\rows2.length=c.blocks.length:=by
   obtain⟨x0,hx0⟩:∃x,c.blocks[0]?=some x:=⟨_,List.getElem?_eq_getElem (by omega)⟩
   obtain⟨id,rows',gid,rows2,r,Jb,q1,q2,q3,q4,q5,q6,q7,q8,q9,q10,q11,q12,q13⟩:=hU.own.blk hgk hx0
   cases q1
   rw[List.getElem?_cons_succ,hg] at q2
   cases q2
   have:=hU.own.ge gid q10
   obtain⟨g,rfl⟩:∃g,gid=g+1:=⟨gid-1,by omega⟩
   rw[List.getElem?_cons_succ] at q5
   exact⟨g,rows2,q4,q5,(List.getElem?_eq_some_iff.1 q5).1,by omega,q6⟩
  simp-implicitDefEqProofs[hg,hrk]
  refine(aG G b hb hl (q+1) (by omega) _ W).mono ?_
  rintro r h ⟨bI,rfl,rfl,hbI⟩
  have hbl:bI<c.blocks.length:=by omega
  have hgb:=List.getElem?_eq_getElem hbl
  generalize c.blocks[bI]=x at hgb
  simp-implicitDefEqProofs[aa,hg,hrk]
  refine(aG G b hb hl (q+1+1) (by omega) _ W).mono ?_
  rintro r h ⟨to,rfl,rfl,_⟩
  simp-implicitDefEqProofs[aa]
  have hP:=hU.phi (to:Int)
  obtain⟨pw,hpw⟩:∃pw,pw=W.length:=⟨_,rfl⟩
  rw[←hpw] at hP
  have hfe:W[f]?=some (.row 3 rows):=hg
  refine fA (λa:PiS=>aA 95 [(8,.ptr (pw+1) 2 0 0),(7,.p (.int .i64 bI)),(6,.ptr (f+1) 3 k 0),(5,.p (.int .i64 j)),(3,.ptr 2 1 0 0),(2,.ptr 1 1 0 0),(0,.ptr 0 2 0 0)]) (λa=>rdO b a.q::a.W)
   (λa=>q+3<=a.q/\a.q<=q+12/\a.args.length<=7/\∃I,PI (3-j.toNat) a.W (.sl (f+1) 3 0 cs.length) a.A cs a.args to pw I) ?_ ?_
  ·have hfm:∀t,(W++t)[f]?=some (.row 3 rows):=λt=>by rw[List.getElem?_append_left hfl];exact hg
   simp-implicitDefEqProofs[hfm,hrk]
   have hcb:c.blocks.length<=1073741824/\∀x∈c.blocks,x.next.length<=1073741824:=⟨by have:=hsc.2.2.1;omega,λx hx=>by have:=(hsc.2.2.2 x hx).2.2.1;omega⟩
   have hpr:=DR G (sR G c bI hcb.1 hcb.2)
   have hpl:=dz c.blocks (bI:Int)
   have hb7:=hsc.2.2.1
   generalize hpq:aY c.blocks (bI:Int)=pr at hpr hpl
   have hview:View (rdO b (q+1+1+1)::(W++[AO.row 2 [[AV.p (.int .i64 to),.nils]]])) (.sl (g+1) 5 0 c.blocks.length) (bkL c.blocks):=by
    obtain⟨x0,hx0⟩:∃x,c.blocks[0]?=some x:=⟨_,List.getElem?_eq_getElem (by omega)⟩
    obtain⟨_,_,I1,I2,e1,rfl,h1,h2⟩:=hP.own.one
    cases e1
    obtain⟨id,rows',B,Ji,q1,q2,q3,q4,q5,q6,q7,q8⟩:=h1.cds hgk
    cases q1
    rw[List.getElem?_cons_succ,hfm] at q2
    cases q2
    rw[hrk] at q4
    cases q4
    exact(q5.hd1 (o':=rdO b (q+1+1+1)) λi hi=>rfl).view
   refine(AC.lend hpr (h:=rdO b (q+1+1+1)::(W++[AO.row 2 [[AV.p (.int .i64 to),.nils]]])) (args:=[.agg [.p (.int .i64 c.params),.p (.int .i64 c.regs),.sl (g+1) 5 0 c.blocks.length],.p (.int .i64 bI)]) (.agg (.keep (by simp[below]) (.keep (by simp[below]) (.one hview .nil))) (.keep (by simp[below]) .nil)) rfl (by simp[cleanO,aq,dy,clean])).mono ?_
   rintro r h ⟨rfl,rfl⟩
   simp-implicitDefEqProofs[aa,bz,EA]
   refine aH (λa:PiS=>aA 95 [(60,.p (.int .i64 a.args.length)),(59,.p (.int .i64 pr.length)),(8,.ptr (pw+1) 2 0 0),(7,.p (.int .i64 bI)),(6,.ptr (f+1) 3 k 0),(5,.p (.int .i64 j)),(3,.ptr 2 1 0 0),(2,.ptr 1 1 0 0),(0,.ptr 0 2 0 0)]) (λa=>rdO b a.q::a.W)
    (λa=>q+3<=a.q/\a.q<=q+3+a.args.length/\a.args.length<=pr.length/\(∃I,PI (3-j.toNat) a.W (.sl (f+1) 3 0 cs.length) a.A cs a.args to pw I)/\a.W[f]?=some (.row 3 rows)) (λa=>pr.length-a.args.length) ⟨q+1+1+1,W++[AO.row 2 [[AV.p (.int .i64 to),.nils]],.row 1 (aq pr)],.nils,[]⟩ ⟨by simp only;omega,by simp only;omega,Nat.zero_le _,⟨I,?_⟩,hfm _⟩ (ab ?_ ?_) ?_
   ·have:=hP.fr (W2:=W++[AO.row 2 [[AV.p (.int .i64 to),.nils]],.row 1 (aq pr)]) (λi hi=>by
     have e:W++[AO.row 2 [[AV.p (.int .i64 to),.nils]],.row 1 (aq pr)]=(W++[AO.row 2 [[AV.p (.int .i64 to),.nils]]])++[.row 1 (aq pr)]:=by simp
     rw[e,List.getElem?_append_left hi]) (by simp)
    exact this
   ·simp
   ·simp[below];omega
   clear hP hview hpr hfm
   rintro⟨q3,W3,A,args⟩ ⟨g1,g2,g3,⟨I3,hP⟩,hf3⟩
   simp only at g1 g2 g3 hP hf3⊢
   have hpl3:=hP.lt
   obtain⟨a1,a2⟩:A.cells=[A]/\A.isCell=true:=by
    obtain⟨_,_,_,_,e1,_,_,h2⟩:=hP.own.one
    cases e1
    exact h2.cell
   simp-implicitDefEqProofs[]
   refine aF (λhc3=>?_) (λhc3=>?_)
   ·have hc3:args.length<pr.length:=by simpa using hc3
    have hw3:=w1 (i:=args.length) (by omega)
    simp-implicitDefEqProofs[-AV.cells,-AV.isCell,aD,ae,ah,an,al,aE,af,am,aj,a1,a2,hP.x,hf3,hrk]
    refine(aG G b hb hl q3 (by omega) _ W3).mono ?_
    rintro r h ⟨k4,rfl,rfl,_⟩
    have hA:(A= .nils/\args=[])\/∃i,A= .sl (i+1) 1 0 args.length/\W3[i]?=some (.row 1 (args.map λn=>[AV.p (.int .i64 n)]))/\i<W3.length/\i≠pw/\i≠f:=by
     have hxn:=hP.xn
     have hnd:=hP.own.nd
     obtain⟨_,_,I1,I2,e1,rfl,h1,h2⟩:=hP.own.one
     cases e1
     rw[List.nodup_append] at hnd
     rcases h2.row with⟨e1,e2,_⟩|⟨id,rows',J,e1,e2,hr',_⟩
     ·exact .inl ⟨e1,List.map_eq_nil_iff.1 e2⟩
     ·rw[List.length_map] at e1
      subst e1
      obtain⟨_,e3,e4,e5⟩:=nw h2
      subst e3
      obtain⟨i,rfl⟩:∃i,id=i+1:=⟨id-1,by omega⟩
      rw[List.getElem?_cons_succ] at e5
      obtain⟨id3,_,_,_,q1,_,_,_,_,q6,_⟩:=h1.cds hgk
      cases q1
      refine .inr ⟨i,rfl,e5,(List.getElem?_eq_some_iff.1 e5).1,λe=>hxn ?_,λe=>hnd.2.2 _ q6 (i+1) (by simp) (by rw[e])⟩
      rw[←e];simp
    rcases hA with⟨rfl,rfl⟩|⟨i,rfl,hgi,hil,hip,hif⟩
    ·have hx:∀t,(W3++t)[pw]?=some (.row 2 [[.p (.int .i64 to),.nils]]):=λt=>by rw[List.getElem?_append_left hpl3];exact hP.x
     have hp:Psh (.dead::W3) .nils 1 [.p (.int .i64 k4)] (.dead::(W3++[.row 1 [[.p (.int .i64 k4)]]])) (.sl (W3.length+1) 1 0 1):= .inl ⟨rfl,rfl,rfl⟩
     obtain⟨I',hI'⟩:=hP.arg hp
     simp-implicitDefEqProofs[aa,hP.x,hx]
     have hw11:IntKind.i64.wrap 1=1:=ag (by omega) (by omega)
     simp only[List.length_nil] at g2 hc3
     refine⟨⟨q3+1,_,_,[(k4:Int)]⟩,⟨by simp only;omega,by simp only[List.length_cons,List.length_nil];omega,hc3,⟨_,hI'⟩,?_⟩,by simp only[List.length_cons,List.length_nil];omega,ab ?_ ?_⟩
     ·rw[List.getElem?_set_ne (by omega),List.getElem?_append_left (by omega)];exact hf3
     ·simp
     ·simp[below,hw11]
      omega
    ·have hx:∀t,(W3.set i .dead++t)[pw]?=some (.row 2 [[.p (.int .i64 to),.sl (i+1) 1 0 args.length]]):=λt=>by rw[List.getElem?_append_left (by simpa using hpl3),List.getElem?_set_ne hip];exact hP.x
     have htk:List.take args.length (args.map λn=>[AV.p (.int .i64 n)])=args.map λn=>[AV.p (.int .i64 n)]:=List.take_of_length_le (by simp)
     have hp:Psh (.dead::W3) (.sl (i+1) 1 0 args.length) 1 [.p (.int .i64 k4)] (.dead::(W3.set i .dead++[.row 1 ((args.map λn=>[AV.p (.int .i64 n)])++[[.p (.int .i64 k4)]])])) (.sl (W3.length+1) 1 0 (args.length+1)):= .inr ⟨i+1,_,_,rfl,by rw[List.getElem?_cons_succ];exact hgi,by simp,by simp,by simp⟩
     obtain⟨I',hI'⟩:=hP.arg hp
     simp-implicitDefEqProofs[aa,hP.x,hgi,hx,htk]
     refine⟨⟨by omega,by omega⟩,⟨q3+1,_,_,args++[(k4:Int)]⟩,⟨by simp only;omega,by simp only[List.length_append,List.length_cons,List.length_nil];omega,by simp only[List.length_append,List.length_cons,List.length_nil];omega,⟨_,hI'⟩,?_⟩,by simp only[List.length_append,List.length_cons,List.length_nil];omega,ab ?_ ?_⟩
     ·rw[List.getElem?_set_ne (by omega),List.getElem?_append_left (by simp;omega),List.getElem?_set_ne hif];exact hf3
     ·simp
     ·simp[below,hw3]
      omega
   ·refine⟨⟨q3,W3,A,args⟩,⟨g1,by simp only;omega,by simp only;omega,I3,hP⟩,ab ?_ ?_⟩
    ·simp
    ·simp[below];omega
  ·clear hP
   rintro⟨q3,W3,A,args⟩ ⟨g1,g2,g3,I3,hP⟩
   simp only at g1 g2 g3 hP⊢
   have hxp:=(hsc.2.2.2 x (List.mem_of_getElem? hgb)).1
   obtain⟨f',rows',g',rows2',P,N,X,e1,e2,e3,e4,e5,e6,e7,e8,e9,e10,a1,a2,e11,p1,p2,e12⟩:=hP.put hgk hgb g3
   cases e1
   have hgl:=(List.getElem?_eq_some_iff.1 e6).1
   have hfl:=(List.getElem?_eq_some_iff.1 e2).1
   have hpl3:=hP.lt
   have hpg:=hP.pge
   simp-implicitDefEqProofs[]
   refine aF (λhb0=>?_) (λhb0=>?_)
   ·have m1:∀t,(W3++t)[f]?=some (.row 3 rows'):=λt=>by rw[List.getElem?_append_left hfl];exact e2
    have m2:∀t,(W3++t)[g']?=some (.row 5 rows2'):=λt=>by rw[List.getElem?_append_left hgl];exact e6
    rcases e11 with⟨rfl,h0p⟩|⟨i,rows3,rfl,e13,e14,e15,e16,e17,e18⟩
    ·have hp:Psh (.dead::(W3++[.row 2 [[.p (.int .i64 to),A]]])) .nils 2 [.p (.int .i64 to),A] (.dead::(W3++[.row 2 [[.p (.int .i64 to),A]],.row 2 [[.p (.int .i64 to),A]]])) (.sl (W3.length+1+1) 2 0 1):= .inl ⟨rfl,by simp,by simp⟩
     obtain⟨I',hI'⟩:=e12 _ _ hp
     simp-implicitDefEqProofs[-AV.cells,-AV.isCell,aD,ae,ah,an,al,aE,af,am,aj,a1,a2,e2,e5,e6,e10,hbl,m1,m2,hP.x]
     have hm1:3-(j-1).toNat=3-j.toNat+1:=by omega
     refine⟨⟨j-1,q3,_⟩,⟨by simp only;omega,by simp only;omega,by simp only;omega,by simp only;omega,_,_,⟨_,by rw[←hm1] at hI';exact hI'⟩,?_,by simpa using hlen⟩,by simp only;omega,ab ?_ ?_⟩
     ·intro h
      have:=congrArg List.length h
      simp at this
      exact h0 this
     ·simp
     ·simp[below,hw1]
      try omega
    ·have hil:=(List.getElem?_eq_some_iff.1 e13).1
     have m3:∀t,(W3++t)[i]?=some (.row 2 rows3):=λt=>by rw[List.getElem?_append_left hil];exact e13
     have m4:∀t t',((W3++t).set i .dead++t')[f]?=some (.row 3 rows'):=λt t'=>by rw[List.getElem?_append_left (by simp;omega),List.getElem?_set_ne (by omega)];exact m1 t
     have m5:∀t t',((W3++t).set i .dead++t')[g']?=some (.row 5 rows2'):=λt t'=>by rw[List.getElem?_append_left (by simp;omega),List.getElem?_set_ne (by omega)];exact m2 t
     have htk:List.take x.phis.length rows3=rows3:=List.take_of_length_le (by omega)
     have hp:Psh (.dead::(W3++[.row 2 [[.p (.int .i64 to),A]]])) (.sl (i+1) 2 0 x.phis.length) 2 [.p (.int .i64 to),A] (.dead::((W3++[AO.row 2 [[.p (.int .i64 to),A]]]).set i .dead++[.row 2 (rows3++[[.p (.int .i64 to),A]])])) (.sl (W3.length+1+1) 2 0 (x.phis.length+1)):= .inr ⟨i+1,rows3,_,rfl,by rw[List.getElem?_cons_succ];exact m3 _,e14,by simp,by simp⟩
     obtain⟨I',hI'⟩:=e12 _ _ hp
     simp-implicitDefEqProofs[-AV.cells,-AV.isCell,aD,ae,ah,an,al,aE,af,am,aj,a1,a2,e2,e5,e6,e10,hbl,m1,m2,m3,m4,m5,hP.x,htk]
     have hm1:3-(j-1).toNat=3-j.toNat+1:=by omega
     refine⟨⟨by omega,by omega,by omega⟩,⟨j-1,q3,_⟩,⟨by simp only;omega,by simp only;omega,by simp only;omega,by simp only;omega,_,_,⟨_,by rw[←hm1] at hI';exact hI'⟩,?_,by simpa using hlen⟩,by simp only;omega,ab ?_ ?_⟩
     ·intro h
      have:=congrArg List.length h
      simp at this
      exact h0 this
     ·simp
     ·simp[below,hw1]
      try omega
   ·obtain⟨I',hI'⟩:=hP.drop
    have hm1:3-(j-1).toNat=3-j.toNat+1:=by omega
    simp-implicitDefEqProofs[]
    refine⟨⟨j-1,q3,W3⟩,⟨by simp only;omega,by simp only;omega,by simp only;omega,by simp only;omega,_,_,⟨_,by rw[←hm1] at hI';exact hI'⟩,h0,hlen⟩,by simp only;omega,ab ?_ ?_⟩
    ·simp
    ·simp[below,hw1]
     try omega
 ·have hc:j<=0:=by simpa using hc
  obtain⟨v1,v2⟩:=hU.own.cell
  have hs0:∀o,(W.set 0 o)[0]?=some o:=λo=>List.getElem?_set_self (by omega)
  simp-implicitDefEqProofs[-AV.cells,-AV.isCell,aD,ae,ah,an,al,aE,af,am,aj,v1,v2,hU.u,hU.res,hs0]
  have hown:Own 3 (.dead::W.set 0 (.row 1 [[V]])) [V] [cdL cs] I:=hU.own.hd1 λi hi=>List.getElem?_set_ne λe=>by have:=hU.own.ge _ hi;omega
  have hj:j=0:=by omega
  subst hj
  exact⟨_,_,q,.agg [.p (cdL cs)],rfl,rfl,.agg (.one hown.view .nil) .nil,⟨cs,rfl,h0,hlen,hU.sm⟩,hq1,by omega⟩
end
section
theorem mt:AK.whole dA=FK.ak dC:=rfl
theorem vI(σ:List Nat)(v:AV):vP (ren σ v)=vP v:=by cases v<;>rfl
def OwW(w:List AV->AV)(qs:List PV)(x:ARes)(h:List AO):Prop:=∃vs I,x= .ret (w vs)/\Own 0 h vs qs I
theorem KL{n:Nat}{W:List AO}{a b c m:Nat}{l:List Int}(ha:W[a]?=some (.row 2 []))(hb:W[b]?=some (.row 4 []))(hc:W[c]?=some (.row 1 (l.map λn=>[AV.p (.int .i64 n)])))(na:n<=a)(nb:n<=b)(nc:n<=c)(h1:a≠b)(h2:a≠c)(h3:b≠c)(hm:m=l.length):Own n W [.sl a 2 0 0,.sl b 4 0 0,.sl c 1 0 m] [phL [],inL [],aC l] [a,b,c]:=by
 have e1:Own n W [.sl a 2 0 0] [phL []] [a]:=Own.of (D:=[]) (J:=[]) (rows:=[]) ⟨ha,rfl,(λ_ h=>by cases h),(λ_ h=>by cases h),.nil,by simp⟩ (λ_ h=>by cases h) (λ_ h=>by cases h) (λj hj=>by rw[List.mem_singleton.1 hj];exact na) rfl
 have e2:Own n W [.sl b 4 0 0] [inL []] [b]:=Own.of (D:=[]) (J:=[]) (rows:=[]) ⟨hb,rfl,(λ_ h=>by cases h),(λ_ h=>by cases h),.nil,by simp⟩ (λ_ h=>by cases h) (λ_ h=>by cases h) (λj hj=>by rw[List.mem_singleton.1 hj];exact nb) rfl
 exact e1.app (e2.app (cf hc nc hm) λj hj hm=>by simp at hj hm;omega) λj hj hm=>by simp at hj hm;omega
variable (G:aB)
def CbI(x:Bk)(W:List AO)(ps:List Ph)(is:List Ii):Prop:=W[0]?=some (.row 5 [x.cs.map .p])/\W[1]?=some (.row 5 [[.nils,.nils,.p (.int .i64 0),.p (.int .i64 0),.nils]])/\∃P N Z I,W[6]?=some (.row 5 [[P,N,.p (.int .i64 x.jump),.p (.int .i64 x.on),Z]])/\Own 2 W [P,N,Z] [phL ps,inL is,aC x.next] I/\6∉I
theorem CbI.tri{x:Bk}{W:List AO}{ps:List Ph}{is:List Ii}(H:CbI x W ps is):W[0]?=some (.row 5 [x.cs.map .p])/\W[1]?=some (.row 5 [[.nils,.nils,.p (.int .i64 0),.p (.int .i64 0),.nils]])/\∃P N Z IP IN IZ,W[6]?=some (.row 5 [[P,N,.p (.int .i64 x.jump),.p (.int .i64 x.on),Z]])/\Own 2 W [P] [phL ps] IP/\Own 2 W [N] [inL is] IN/\Own 2 W [Z] [aC x.next] IZ/\(∀j∈IP,j∉IN/\j∉IZ)/\(∀j∈IN,j∉IZ)/\6∉IP/\6∉IN/\6∉IZ:=by
 obtain⟨h0,h1,P,N,Z,I,h2,hO,h6⟩:=H
 have hnd:=hO.nd
 obtain⟨_,_,IP,I',e1,rfl,hP,H2⟩:=hO.one
 cases e1
 obtain⟨_,_,IN,IZ,e1,rfl,hN,hZ⟩:=H2.one
 cases e1
 simp only[List.nodup_append,List.mem_append,not_or] at hnd h6
 exact⟨h0,h1,P,N,Z,IP,IN,IZ,h2,hP,hN,hZ,λj hj=>⟨λhm=>hnd.2.2 j hj j (.inl hm) rfl,λhm=>hnd.2.2 j hj j (.inr hm) rfl⟩,λj hj hm=>hnd.2.1.2.2 j hj j hm rfl,h6.1,h6.2.1,h6.2.2⟩
theorem CbI.ofTri{x:Bk}{W:List AO}{ps:List Ph}{is:List Ii}{P N Z:AV}{IP IN IZ:List Nat}(h0:W[0]?=some (.row 5 [x.cs.map .p]))(h1:W[1]?=some (.row 5 [[.nils,.nils,.p (.int .i64 0),.p (.int .i64 0),.nils]]))(h2:W[6]?=some (.row 5 [[P,N,.p (.int .i64 x.jump),.p (.int .i64 x.on),Z]]))(hP:Own 2 W [P] [phL ps] IP)(hN:Own 2 W [N] [inL is] IN)(hZ:Own 2 W [Z] [aC x.next] IZ)(d1:∀j∈IP,j∉IN/\j∉IZ)(d2:∀j∈IN,j∉IZ)(n1:6∉IP)(n2:6∉IN)(n3:6∉IZ):CbI x W ps is:=
 ⟨h0,h1,P,N,Z,IP++(IN++IZ),h2,hP.app (hN.app hZ d2) λj hj hm=>(List.mem_append.1 hm).elim (d1 j hj).1 (d1 j hj).2,by simp[n1,n2,n3]⟩
theorem Own.grow{W os W3:List AO}{V V':AV}{sz:Nat}{D:List (List PV)}{r:List AV}{e:List PV}{IV IA:List Nat}{o6:AO}(hV:Own 2 W [V] [.lst sz D] IV)(hr:Own W.length (W++os) r e IA)(he:e.length=sz)(hp:Psh (W++os) V sz r W3 V')(h6:6<W.length)(n6:6∉IV):
 ∃IV',Own 2 (W3.set 6 o6) [V'] [.lst sz (D++[e])] IV'/\(∀j∈IV',j∈IV\/W.length<=j)/\W.length<=(W3.set 6 o6).length/\(W3.set 6 o6)[6]?=some o6/\∀i,i<W.length->i∉IV->i≠6->(W3.set 6 o6)[i]?=W[i]?:=by
 obtain⟨IV',n1,n2,n3,n4⟩:=(hV.more os).psh (hr.low λj hj=>by have:=hr.ge j hj;omega) (λj hj hm=>by have:=hV.lt j hj;have:=hr.ge j hm;omega) he (by simp;omega) hp
 have hnew:∀j∈IV',j∈IV\/W.length<=j:=λj hj=>by
  rcases n2 j hj with h|h|h
  ·exact .inl h
  ·exact .inr (hr.ge j h)
  ·right;rw[h];simp
 simp only[List.length_append] at n3 n4
 refine⟨IV',n1.frame λi hi=>List.getElem?_set_ne λe=>?_,hnew,by simp;omega,List.getElem?_set_self (by omega),λi hi hn h6i=>?_⟩
 ·subst e
  rcases hnew _ hi with h|h
  ·exact n6 h
  ·omega
 ·rw[List.getElem?_set_ne (Ne.symm h6i),n3 i (by omega) hn,List.getElem?_append_left hi]
theorem CbI.getP{x:Bk}{W:List AO}{ps:List Ph}{is:List Ii}(H:CbI x W ps is):W[0]?=some (.row 5 [x.cs.map .p])/\7<=W.length/\∃P N Z,W[6]?=some (.row 5 [[P,N,.p (.int .i64 x.jump),.p (.int .i64 x.on),Z]])/\(P.cells=[P]/\P.isCell=true)/\(N.cells=[N]/\N.isCell=true)/\(Z.cells=[Z]/\Z.isCell=true)/\((P= .nils/\ps=[])\/∃i rows,P= .sl i 2 0 ps.length/\W[i]?=some (.row 2 rows)/\rows.length=ps.length/\2<=i/\i≠6)/\
 ∀(os:List AO) (A:AV) (y:Ph) (IA:List Nat) (W3:List AO) (P':AV),Own W.length (W++os) [A] [aC y.args] IA->Psh (W++os) P 2 [.p (.int .i64 y.to),A] W3 P'->CbI x (W3.set 6 (.row 5 [[P',N,.p (.int .i64 x.jump),.p (.int .i64 x.on),Z]])) (ps++[y]) is:=by
 obtain⟨h0,h1,P,N,Z,IP,IN,IZ,h2,hP,hN,hZ,d1,d2,n1,n2,n3⟩:=H.tri
 have h6:=(List.getElem?_eq_some_iff.1 h2).1
 refine⟨h0,h6,P,N,Z,h2,hP.cell,hN.cell,hZ.cell,?_,λos A y IA W3 P' hA hp=>?_⟩
 ·rcases hP.row with⟨e1,e2,_⟩|⟨id,rows,J,e1,e2,hr,_⟩
  ·exact .inl ⟨e1,List.map_eq_nil_iff.1 e2⟩
  ·rw[List.length_map] at e1
   exact .inr ⟨id,rows,e1,hr.here,by have:=hr.len;simpa using this,hP.ge id (by rw[e2];simp),λe=>n1 (by rw[e2,e];simp)⟩
 ·obtain⟨IP',m1,m2,m3,m4,m5⟩:=hP.grow (o6:= .row 5 [[P',N,.p (.int .i64 x.jump),.p (.int .i64 x.on),Z]]) (ux (x:=y) hA) rfl hp h6 n1
  have hpl:phL (ps++[y])= .lst 2 (ps.map Ph.cs++[y.cs]):=by rw[phL,List.map_append];rfl
  refine CbI.ofTri (IP:=IP') (IN:=IN) (IZ:=IZ) (by rw[m5 0 (by omega) (λhm=>by have:=hP.ge _ hm;omega) (by decide)];exact h0) (by rw[m5 1 (by omega) (λhm=>by have:=hP.ge _ hm;omega) (by decide)];exact h1) m4 (by rw[hpl];exact m1) (hN.frame λi hi=>m5 i (hN.lt i hi) (λhm=>(d1 i hm).1 hi) λe=>n2 (e▸hi)) (hZ.frame λi hi=>m5 i (hZ.lt i hi) (λhm=>(d1 i hm).2 hi) λe=>n3 (e▸hi)) (λj hj=>?_) d2 (λhm=>?_) n2 n3
  ·rcases m2 j hj with h|h
   ·exact d1 j h
   ·exact⟨λhm=>by have:=hN.lt j hm;omega,λhm=>by have:=hZ.lt j hm;omega⟩
  ·rcases m2 6 hm with h|h
   ·exact n1 h
   ·omega
theorem CbI.getN{x:Bk}{W:List AO}{ps:List Ph}{is:List Ii}(H:CbI x W ps is):W[0]?=some (.row 5 [x.cs.map .p])/\7<=W.length/\∃P N Z,W[6]?=some (.row 5 [[P,N,.p (.int .i64 x.jump),.p (.int .i64 x.on),Z]])/\(P.cells=[P]/\P.isCell=true)/\(N.cells=[N]/\N.isCell=true)/\(Z.cells=[Z]/\Z.isCell=true)/\((N= .nils/\is=[])\/∃i rows,N= .sl i 4 0 is.length/\W[i]?=some (.row 4 rows)/\rows.length=is.length/\2<=i/\i≠6)/\
 ∀(os:List AO) (A:AV) (y:Ii) (IA:List Nat) (W3:List AO) (N':AV),Own W.length (W++os) [A] [aC y.args] IA->Psh (W++os) N 4 [.p (.int .i64 y.op),.p (.int .i64 y.to),A,.p (.int .i64 y.n)] W3 N'->CbI x (W3.set 6 (.row 5 [[P,N',.p (.int .i64 x.jump),.p (.int .i64 x.on),Z]])) ps (is++[y]):=by
 obtain⟨h0,h1,P,N,Z,IP,IN,IZ,h2,hP,hN,hZ,d1,d2,n1,n2,n3⟩:=H.tri
 have h6:=(List.getElem?_eq_some_iff.1 h2).1
 refine⟨h0,h6,P,N,Z,h2,hP.cell,hN.cell,hZ.cell,?_,λos A y IA W3 N' hA hp=>?_⟩
 ·rcases hN.row with⟨e1,e2,_⟩|⟨id,rows,J,e1,e2,hr,_⟩
  ·exact .inl ⟨e1,List.map_eq_nil_iff.1 e2⟩
  ·rw[List.length_map] at e1
   exact .inr ⟨id,rows,e1,hr.here,by have:=hr.len;simpa using this,hN.ge id (by rw[e2];simp),λe=>n2 (by rw[e2,e];simp)⟩
 ·obtain⟨IN',m1,m2,m3,m4,m5⟩:=hN.grow (o6:= .row 5 [[P,N',.p (.int .i64 x.jump),.p (.int .i64 x.on),Z]]) (uG (x:=y) hA) rfl hp h6 n2
  have hpl:inL (is++[y])= .lst 4 (is.map Ii.cs++[y.cs]):=by rw[inL,List.map_append];rfl
  refine CbI.ofTri (IP:=IP) (IN:=IN') (IZ:=IZ) (by rw[m5 0 (by omega) (λhm=>by have:=hN.ge _ hm;omega) (by decide)];exact h0) (by rw[m5 1 (by omega) (λhm=>by have:=hN.ge _ hm;omega) (by decide)];exact h1) m4 (hP.frame λi hi=>m5 i (hP.lt i hi) (λhm=>(d1 i hi).1 hm) λe=>n1 (e▸hi)) (by rw[hpl];exact m1) (hZ.frame λi hi=>m5 i (hZ.lt i hi) (λhm=>d2 i hm hi) λe=>n3 (e▸hi)) (λj hj=>⟨λhm=>?_,(d1 j hj).2⟩) (λj hj hm=>?_) n1 (λhm=>?_) n3
  ·rcases m2 j hm with h|h
   ·exact(d1 j hj).1 h
   ·have:=hP.lt j hj;omega
  ·rcases m2 j hj with h|h
   ·exact d2 j h hm
   ·have:=hZ.lt j hm;omega
  ·rcases m2 6 hm with h|h
   ·exact n2 h
   ·omega
structure CbS where (i:Nat) (W:List AO)
theorem ti(x:Bk)(m:Nat)(hm:m<=100)(hx:SmB m x):AC Try.prog G dx [.agg (x.cs.map .p)] [] (OwW .agg x.cs):=by
 have hxs:=x.cs_eq2
 refine AC.goK mo mt ?_
 have hpl:phL x.phis= .lst 2 (x.phis.map Ph.cs):=rfl
 have hil:inL x.ins= .lst 4 (x.ins.map Ii.cs):=rfl
 have hnl:aC x.next= .lst 1 (x.next.map λn=>[.int .i64 n]):=rfl
 simp-implicitDefEqProofs[dA,dC,hxs,hpl,hil,hnl]
 refine fA (λa:CbS=>aA 74 [(3,.ptr 6 5 0 0),(2,.ptr 1 5 0 0),(1,.ptr 0 5 0 0)]) (λa=>a.W) (λa=>CbI x a.W [] []) ?_ ?_
 ·simp-implicitDefEqProofs[hnl]
  have hb1:x.next.length*8<=140737488355328:=by have:=hx.2.2.1;omega
  have hb2:x.next.length<=140737488355328:=by have:=hx.2.2.1;omega
  repeat' apply And.intro
  all_goals first
   |exact hb1
   |exact hb2
   |(refine⟨⟨0,_⟩,?_,ab (Nat.zero_le _) ?_⟩
     rotate_left 1
     ·simp[below]
     ·exact⟨rfl,rfl,_,_,_,_,rfl,KL rfl rfl rfl (by decide) (by decide) (by decide) (by decide) (by decide) (by decide) rfl,by decide⟩)
 ·rintro⟨_,W⟩ hI
  simp only at hI⊢
  refine fA (λa:CbS=>aA 74 [(3,.ptr 6 5 0 0),(2,.ptr 1 5 0 0),(1,.ptr 0 5 0 0)]) (λa=>a.W) (λa=>CbI x a.W x.phis []) ?_ ?_
  ·simp-implicitDefEqProofs[]
   refine aH (λa:CbS=>aA 74 [(4,.p (.int .i64 a.i)),(3,.ptr 6 5 0 0),(2,.ptr 1 5 0 0),(1,.ptr 0 5 0 0)]) (λa=>a.W) (λa=>a.i<=x.phis.length/\CbI x a.W (x.phis.take a.i) []) (λa=>x.phis.length-a.i) ⟨0,W⟩ ⟨Nat.zero_le _,by rw[List.take_zero];exact hI⟩ (ab (Nat.zero_le _) (by obtain⟨_,h7,_⟩:=hI.getP;simp[below];omega)) ?_
   clear hI W
   rintro⟨i,W⟩ ⟨hi,hI⟩
   simp only at hi hI⊢
   obtain⟨hw0,h7,P,N,Z,hw6,⟨p1,p2⟩,⟨n1,n2⟩,⟨z1,z2⟩,hPc,hpush⟩:=hI.getP
   have hw0':W[0]?=some (.row 5 [[.p (.lst 2 (x.phis.map Ph.cs)),.p (.lst 4 (x.ins.map Ii.cs)),.p (.int .i64 x.jump),.p (.int .i64 x.on),.p (.lst 1 (x.next.map λn=>[.int .i64 n]))]]):=hw0
   simp-implicitDefEqProofs[hw0']
   refine aF (λhc=>?_) (λhc=>?_)
   ·have hc:i<x.phis.length:=by simpa using hc
    have hg:=List.getElem?_eq_getElem hc
    have htk:x.phis.take (i+1)=x.phis.take i++[x.phis[i]]:=au hc
    have hya:=hx.2.2.2.2 _ (List.getElem_mem hc)
    have hxp:=hx.1
    generalize x.phis[i]=y at hg htk hya
    have hyc:=y.cs_eq2
    have hyn:aC y.args= .lst 1 (y.args.map λn=>[.int .i64 n]):=rfl
    have hwi:=w1 (i:=i) (by have:=hx.1;omega)
    have hyr:List.map (λn=>[AV.p (.int .i64 n)]) y.args=List.map ((λx=>List.map AV.p x)∘λn=>[PV.int IntKind.i64 n]) y.args:=rfl
    have m6:∀t,(W++t)[6]?=some (.row 5 [[P,N,.p (.int .i64 x.jump),.p (.int .i64 x.on),Z]]):=λt=>by rw[List.getElem?_append_left (by omega)];exact hw6
    have m0:∀t,(W++t)[0]?=some (.row 5 [[.p (.lst 2 (x.phis.map Ph.cs)),.p (.lst 4 (x.ins.map Ii.cs)),.p (.int .i64 x.jump),.p (.int .i64 x.on),.p (.lst 1 (x.next.map λn=>[.int .i64 n]))]]):=λt=>by rw[List.getElem?_append_left (by omega)];exact hw0'
    have m0e:=λt hh=>fF (m0 t) hh
    have m6e:=λt hh=>fF (m6 t) hh
    rcases hPc with⟨rfl,h0⟩|⟨f,rows,rfl,hg2,hrl,hf2,hf6⟩
    ·simp-implicitDefEqProofs[-AV.cells,-AV.isCell,aD,ae,ah,an,al,aE,af,am,aj,p1,p2,n1,n2,z1,z2,hw0',hw6,m0,m6,m0e,m6e,hg,hyc,hyn]
     have hA:Own W.length (W++[AO.dead,.row 1 (y.args.map λn=>[AV.p (.int .i64 n)]),.row 2 [[.p (.int .i64 y.to),.sl (W.length+1) 1 0 y.args.length]]]) [.sl (W.length+1) 1 0 y.args.length] [aC y.args] [W.length+1]:=cf (by rw[List.getElem?_append_right (by omega),Nat.add_sub_cancel_left];rfl) (by omega) rfl
     have hC:=hpush _ _ y _ (W++[AO.dead,.row 1 (y.args.map λn=>[AV.p (.int .i64 n)]),.row 2 [[.p (.int .i64 y.to),.sl (W.length+1) 1 0 y.args.length]],.row 2 [[.p (.int .i64 y.to),.sl (W.length+1) 1 0 y.args.length]]]) _ hA (.inl ⟨rfl,by simp,rfl⟩)
     rw[←htk] at hC
     have hl3:(W++[AO.dead,.row 1 (y.args.map λn=>[AV.p (.int .i64 n)]),.row 2 [[.p (.int .i64 y.to),.sl (W.length+1) 1 0 y.args.length]]]).length=W.length+3:=by simp
     rw[hl3] at hC
     exact⟨⟨by omega,by omega⟩,⟨i+1,_⟩,⟨hc,hC⟩,by simp only;omega,ab (Nat.zero_le _) (by simp[below,hwi];try omega)⟩
    ·have m7:∀t,(W++t)[f]?=some (.row 2 rows):=λt=>by rw[List.getElem?_append_left (List.getElem?_eq_some_iff.1 hg2).1];exact hg2
     have m8:∀t t',((W++t).set f .dead++t')[6]?=some (.row 5 [[.sl f 2 0 (List.take i x.phis).length,N,.p (.int .i64 x.jump),.p (.int .i64 x.on),Z]]):=λt t'=>by rw[List.getElem?_append_left (by simp;omega),List.getElem?_set_ne hf6];exact m6 t
     have m7e:=λt hh=>fF (m7 t) hh
     have m8e:=λt t' hh=>fF (m8 t t') hh
     have htk2:List.take (List.take i x.phis).length rows=rows:=List.take_of_length_le (by omega)
     have hli:(List.take i x.phis).length=i:=by simp;omega
     have hA:Own W.length (W++[AO.dead,.row 1 (y.args.map λn=>[AV.p (.int .i64 n)]),.row 2 [[.p (.int .i64 y.to),.sl (W.length+1) 1 0 y.args.length]]]) [.sl (W.length+1) 1 0 y.args.length] [aC y.args] [W.length+1]:=cf (by rw[List.getElem?_append_right (by omega),Nat.add_sub_cancel_left];rfl) (by omega) rfl
     have hC:=hpush _ _ y _ ((W++[AO.dead,.row 1 (y.args.map λn=>[AV.p (.int .i64 n)]),.row 2 [[.p (.int .i64 y.to),.sl (W.length+1) 1 0 y.args.length]]]).set f .dead++[.row 2 (rows++[[.p (.int .i64 y.to),.sl (W.length+1) 1 0 y.args.length]])]) _ hA (.inr ⟨f,rows,_,rfl,m7 _,hrl,rfl,rfl⟩)
     rw[←htk] at hC
     have hl3:(W++[AO.dead,.row 1 (y.args.map λn=>[AV.p (.int .i64 n)]),.row 2 [[.p (.int .i64 y.to),.sl (W.length+1) 1 0 y.args.length]]]).length=W.length+3:=by simp
     rw[hl3,hli] at hC
     rw[hli] at m6 m8 m6e m8e hw6 htk2
     simp-implicitDefEqProofs[-AV.cells,-AV.isCell,aD,ae,ah,an,al,aE,af,am,aj,p1,p2,n1,n2,z1,z2,hw0',hw6,m0,m6,m0e,m6e,hg,hyc,hyn,m7,m8,m7e,m8e]
     rw[htk2]
     exact⟨⟨by omega,by omega⟩,⟨by omega,by omega,by omega⟩,⟨i+1,_⟩,⟨hc,hC⟩,by simp only;omega,ab (Nat.zero_le _) (by simp[below,hwi];try omega)⟩
   ·have hc:x.phis.length<=i:=by simpa using hc
    rw[List.take_of_length_le hc] at hI
    refine⟨⟨0,W⟩,hI,ab (Nat.zero_le _) ?_⟩
    simp[below];omega
  ·rintro⟨_,W⟩ hI
   simp only at hI⊢
   simp-implicitDefEqProofs[]
   refine aH (λa:CbS=>aA 74 [(5,.p (.int .i64 a.i)),(3,.ptr 6 5 0 0),(2,.ptr 1 5 0 0),(1,.ptr 0 5 0 0)]) (λa=>a.W) (λa=>a.i<=x.ins.length/\CbI x a.W x.phis (x.ins.take a.i)) (λa=>x.ins.length-a.i) ⟨0,W⟩ ⟨Nat.zero_le _,by rw[List.take_zero];exact hI⟩ (ab (Nat.zero_le _) (by obtain⟨_,h7,_⟩:=hI.getP;simp[below];omega)) ?_
   clear hI W
   rintro⟨i,W⟩ ⟨hi,hI⟩
   simp only at hi hI⊢
   obtain⟨hw0,h7,P,N,Z,hw6,⟨p1,p2⟩,⟨n1,n2⟩,⟨z1,z2⟩,hNc,hpush⟩:=hI.getN
   have hw1:=hI.2.1
   have hw0':W[0]?=some (.row 5 [[.p (.lst 2 (x.phis.map Ph.cs)),.p (.lst 4 (x.ins.map Ii.cs)),.p (.int .i64 x.jump),.p (.int .i64 x.on),.p (.lst 1 (x.next.map λn=>[.int .i64 n]))]]):=hw0
   simp-implicitDefEqProofs[hw0']
   refine aF (λhc=>?_) (λhc=>?_)
   ·have hc:i<x.ins.length:=by simpa using hc
    have hg:=List.getElem?_eq_getElem hc
    have htk:x.ins.take (i+1)=x.ins.take i++[x.ins[i]]:=au hc
    have hya:=hx.2.2.2.1 _ (List.getElem_mem hc)
    have hxp:=hx.2.1
    generalize x.ins[i]=y at hg htk hya
    have hyc:=y.cs_eq2
    have hyn:aC y.args= .lst 1 (y.args.map λn=>[.int .i64 n]):=rfl
    have hwi:=w1 (i:=i) (by have:=hx.2.1;omega)
    have m6:∀t,(W++t)[6]?=some (.row 5 [[P,N,.p (.int .i64 x.jump),.p (.int .i64 x.on),Z]]):=λt=>by rw[List.getElem?_append_left (by omega)];exact hw6
    have m0:∀t,(W++t)[0]?=some (.row 5 [[.p (.lst 2 (x.phis.map Ph.cs)),.p (.lst 4 (x.ins.map Ii.cs)),.p (.int .i64 x.jump),.p (.int .i64 x.on),.p (.lst 1 (x.next.map λn=>[.int .i64 n]))]]):=λt=>by rw[List.getElem?_append_left (by omega)];exact hw0'
    have m0e:=λt hh=>fF (m0 t) hh
    have m6e:=λt hh=>fF (m6 t) hh
    rcases hNc with⟨rfl,h0⟩|⟨f,rows,rfl,hg2,hrl,hf2,hf6⟩
    ·simp-implicitDefEqProofs[-AV.cells,-AV.isCell,aD,ae,ah,an,al,aE,af,am,aj,p1,p2,n1,n2,z1,z2,hw0',hw6,m0,m6,m0e,m6e,hg,hyc,hyn]
     have hA:Own W.length (W++[AO.row 4 [[.p (.int .i64 y.op),.p (.int .i64 y.to),.p (.lst 1 (y.args.map λn=>[.int .i64 n])),.p (.int .i64 y.n)]],AO.dead,.row 1 (y.args.map λn=>[AV.p (.int .i64 n)]),.row 4 [[.p (.int .i64 y.op),.p (.int .i64 y.to),.sl (W.length+2) 1 0 y.args.length,.p (.int .i64 y.n)]]]) [.sl (W.length+2) 1 0 y.args.length] [aC y.args] [W.length+2]:=cf (by rw[List.getElem?_append_right (by omega),Nat.add_sub_cancel_left];rfl) (by omega) rfl
     have hC:=hpush _ _ y _ (W++[AO.row 4 [[.p (.int .i64 y.op),.p (.int .i64 y.to),.p (.lst 1 (y.args.map λn=>[.int .i64 n])),.p (.int .i64 y.n)]],AO.dead,.row 1 (y.args.map λn=>[AV.p (.int .i64 n)]),.row 4 [[.p (.int .i64 y.op),.p (.int .i64 y.to),.sl (W.length+2) 1 0 y.args.length,.p (.int .i64 y.n)]],.row 4 [[.p (.int .i64 y.op),.p (.int .i64 y.to),.sl (W.length+2) 1 0 y.args.length,.p (.int .i64 y.n)]]]) _ hA (.inl ⟨rfl,by simp,rfl⟩)
     rw[←htk] at hC
     have hl3:(W++[AO.row 4 [[.p (.int .i64 y.op),.p (.int .i64 y.to),.p (.lst 1 (y.args.map λn=>[.int .i64 n])),.p (.int .i64 y.n)]],AO.dead,.row 1 (y.args.map λn=>[AV.p (.int .i64 n)]),.row 4 [[.p (.int .i64 y.op),.p (.int .i64 y.to),.sl (W.length+2) 1 0 y.args.length,.p (.int .i64 y.n)]]]).length=W.length+4:=by simp
     rw[hl3] at hC
     exact⟨⟨by omega,by omega⟩,⟨i+1,_⟩,⟨hc,hC⟩,by simp only;omega,ab (Nat.zero_le _) (by simp[below,hwi];try omega)⟩
    ·have m7:∀t,(W++t)[f]?=some (.row 4 rows):=λt=>by rw[List.getElem?_append_left (List.getElem?_eq_some_iff.1 hg2).1];exact hg2
     have m8:∀t t',((W++t).set f .dead++t')[6]?=some (.row 5 [[P,.sl f 4 0 (List.take i x.ins).length,.p (.int .i64 x.jump),.p (.int .i64 x.on),Z]]):=λt t'=>by rw[List.getElem?_append_left (by simp;omega),List.getElem?_set_ne hf6];exact m6 t
     have m7e:=λt hh=>fF (m7 t) hh
     have m8e:=λt t' hh=>fF (m8 t t') hh
     have htk2:List.take (List.take i x.ins).length rows=rows:=List.take_of_length_le (by omega)
     have hli:(List.take i x.ins).length=i:=by simp;omega
     have hA:Own W.length (W++[AO.row 4 [[.p (.int .i64 y.op),.p (.int .i64 y.to),.p (.lst 1 (y.args.map λn=>[.int .i64 n])),.p (.int .i64 y.n)]],AO.dead,.row 1 (y.args.map λn=>[AV.p (.int .i64 n)]),.row 4 [[.p (.int .i64 y.op),.p (.int .i64 y.to),.sl (W.length+2) 1 0 y.args.length,.p (.int .i64 y.n)]]]) [.sl (W.length+2) 1 0 y.args.length] [aC y.args] [W.length+2]:=cf (by rw[List.getElem?_append_right (by omega),Nat.add_sub_cancel_left];rfl) (by omega) rfl
     have hC:=hpush _ _ y _ ((W++[AO.row 4 [[.p (.int .i64 y.op),.p (.int .i64 y.to),.p (.lst 1 (y.args.map λn=>[.int .i64 n])),.p (.int .i64 y.n)]],AO.dead,.row 1 (y.args.map λn=>[AV.p (.int .i64 n)]),.row 4 [[.p (.int .i64 y.op),.p (.int .i64 y.to),.sl (W.length+2) 1 0 y.args.length,.p (.int .i64 y.n)]]]).set f .dead++[.row 4 (rows++[[.p (.int .i64 y.op),.p (.int .i64 y.to),.sl (W.length+2) 1 0 y.args.length,.p (.int .i64 y.n)]])]) _ hA (.inr ⟨f,rows,_,rfl,m7 _,hrl,rfl,rfl⟩)
     rw[←htk] at hC
     have hl3:(W++[AO.row 4 [[.p (.int .i64 y.op),.p (.int .i64 y.to),.p (.lst 1 (y.args.map λn=>[.int .i64 n])),.p (.int .i64 y.n)]],AO.dead,.row 1 (y.args.map λn=>[AV.p (.int .i64 n)]),.row 4 [[.p (.int .i64 y.op),.p (.int .i64 y.to),.sl (W.length+2) 1 0 y.args.length,.p (.int .i64 y.n)]]]).length=W.length+4:=by simp
     rw[hl3,hli] at hC
     rw[hli] at m6 m8 m6e m8e hw6 htk2
     simp-implicitDefEqProofs[-AV.cells,-AV.isCell,aD,ae,ah,an,al,aE,af,am,aj,p1,p2,n1,n2,z1,z2,hw0',hw6,m0,m6,m0e,m6e,hg,hyc,hyn,m7,m8,m7e,m8e]
     rw[htk2]
     exact⟨⟨by omega,by omega⟩,⟨by omega,by omega,by omega⟩,⟨i+1,_⟩,⟨hc,hC⟩,by simp only;omega,ab (Nat.zero_le _) (by simp[below,hwi];try omega)⟩
   ·have hc:x.ins.length<=i:=by simpa using hc
    have hs1:∀o,(W.set 1 o)[1]?=some o:=λo=>List.getElem?_set_self (by omega)
    rw[List.take_of_length_le hc] at hI
    simp-implicitDefEqProofs[-AV.cells,-AV.isCell,aD,ae,ah,an,al,aE,af,am,aj,p1,p2,n1,n2,z1,z2,hw6,hw1,hs1]
    obtain⟨_,_,P2,N2,Z2,IP,IN,IZ,h2,hP,hN,hZ,d1,d2,_,_,_⟩:=hI.tri
    rw[hw6] at h2
    cases h2
    have hfr:∀{vs:List AV} {qs:List PV} {J:List Nat},Own 2 W vs qs J->Own 0 (W.set 1 (.row 5 [[P,N,.p (.int .i64 x.jump),.p (.int .i64 x.on),Z]])) vs qs J:=λh=>(h.frame λj hj=>List.getElem?_set_ne λe=>by have:=h.ge j hj;omega).low λj hj=>Nat.zero_le _
    exact⟨_,_,rfl,pS (hfr hP) (hfr hN) (hfr hZ) d1 d2⟩
theorem uc(σ:List Nat)(l:List AV):bi σ l=l.map (ren σ):=List.ext_getElem? λi=>by rw[cI,List.getElem?_map]
theorem AC.ownLift{f:FuncId}{args:List AV}{w:List AV->AV}{qs:List PV}(hw:Shp w)(H:AC Try.prog G f args [] (OwW w qs)){h:List AO}(hv:aw 0 args):
 AC Try.prog G f args h λx h'=>∃vs I os,x= .ret (w vs)/\h'=h++os/\Own h.length h' vs qs I:=by
 have hT:TW [] args args:=by
  have:=Bi (n:=0) (args:=args) hv
  simpa using this
 refine(H.frame (h:=h) [] List.nodup_nil hT True.intro).mono ?_
 rintro x h' ⟨x0,h0,⟨vs,I,rfl,ho⟩,hl,rfl,rfl⟩
 have hσ:∀i,i<h0.length->([]++List.range' h.length (h0.length-([]:List AO).length)).getD i 0=h.length+i:=λi hi=>by
  rw[List.nil_append,List.getD_eq_getElem?_getD];simp[hi]
 generalize hs:([]:List Nat)++List.range' h.length (h0.length-([]:List AO).length)=σ at*
 have hget:∀i,i∈I->(h++h0.map (eB σ))[σ.getD i 0]?=(h0[i]?).map (eB σ):=λi hi=>by
  rw[hσ i (ho.lt i hi),List.getElem?_append_right (by omega),Nat.add_sub_cancel_left,List.getElem?_map]
 have ho2:=ho.own.ren (h':=h++h0.map (eB σ)) (σ:=σ) λi hi sz rows e=>by
  rw[hget i hi,e];rfl
 refine⟨bi σ vs,I.map λi=>σ.getD i 0,h0.map (eB σ),by simp only[zt];rw[hw.ren],by simp[mrg],⟨by simpa[mrg] using ho2,?_,?_,?_,λi hi=>?_⟩⟩
 ·rw[List.map_congr_left (g:=λi=>h.length+i) λi hi=>hσ i (ho.lt i hi)]
  exact ug (λi j e=>by omega) ho.nd
 ·intro j hj sz rows hg r hr v hv
  obtain⟨i,hi,rfl⟩:=List.mem_map.1 hj
  have hg2:(h++h0.map (eB σ))[σ.getD i 0]?=some (.row sz rows):=by simpa[mrg] using hg
  rw[hget i hi] at hg2
  have hil:=ho.lt i hi
  rw[List.getElem?_eq_getElem hil] at hg2
  have hg3:=List.getElem?_eq_getElem hil
  generalize h0[i]=o at hg2 hg3
  simp only[Option.map_some,Option.some.injEq] at hg2
  cases o with
  |row sz0 rows0=>
   simp only[eB,AO.row.injEq] at hg2
   obtain⟨rfl,rfl⟩:=hg2
   obtain⟨r0,hr0,rfl⟩:=List.mem_map.1 hr
   rw[uc] at hv
   obtain⟨v0,hv0,rfl⟩:=List.mem_map.1 hv
   rw[vI]
   exact ho.no i hi sz0 rows0 hg3 r0 hr0 v0 hv0
  |_=>simp[eB] at hg2
 ·intro v hv
  rw[uc] at hv
  obtain⟨v0,hv0,rfl⟩:=List.mem_map.1 hv
  rw[vI]
  exact ho.nv v0 hv0
 ·obtain⟨j,hj,rfl⟩:=List.mem_map.1 hi
  rw[hσ j (ho.lt j hj)];omega
end
section
variable (G:aB)
theorem Own.growL{W os W3:List AO}{V V':AV}{sz k:Nat}{D:List (List PV)}{r:List AV}{e:List PV}{IV IA:List Nat}{o2:AO}(hV:Own (k+1) W [V] [.lst sz D] IV)(hr:Own W.length (W++os) r e IA)(he:e.length=sz)(hp:Psh (W++os) V sz r W3 V')(h2:k<W.length):
 ∃IV',Own (k+1) (W3.set k o2) [V'] [.lst sz (D++[e])] IV'/\W.length<=(W3.set k o2).length/\(W3.set k o2)[k]?=some o2/\∀i,i<k->(W3.set k o2)[i]?=W[i]?:=by
 obtain⟨IV',n1,n2,n3,n4⟩:=(hV.more os).psh (hr.low λj hj=>by have:=hr.ge j hj;omega) (λj hj hm=>by have:=hV.lt j hj;have:=hr.ge j hm;omega) he (by simp;omega) hp
 simp only[List.length_append] at n3 n4
 refine⟨IV',n1.frame λi hi=>List.getElem?_set_ne λe=>?_,by simp;omega,List.getElem?_set_self (by omega),λi hi=>?_⟩
 ·have:=n1.ge i hi;omega
 ·rw[List.getElem?_set_ne (by omega),n3 i (by omega) (λhm=>by have:=hV.ge i hm;omega),List.getElem?_append_left (by omega)]
theorem Own.rowAt{n:Nat}{W:List AO}{V:AV}{sz:Nat}{D:List (List PV)}{I:List Nat}(H:Own n W [V] [.lst sz D] I):(V= .nils/\D=[])\/∃i rows,V= .sl i sz 0 D.length/\W[i]?=some (.row sz rows)/\rows.length=D.length/\n<=i:=by
 rcases H.row with⟨h1,h2,_⟩|⟨id,rows,J,h1,h2,hr,_⟩
 ·exact .inl ⟨h1,h2⟩
 ·exact .inr ⟨id,rows,h1,hr.here,hr.len,H.ge id (by rw[h2];simp)⟩
structure CpS where (i:Nat) (W:List AO)
theorem Ei(c:Cd)(m:Nat)(hm:m<=100)(hc:SmCd m c):AC Try.prog G iq [.agg (c.cs.map .p)] [] (OwW .agg c.cs):=by
 have hcs:=c.cs_eq2
 have hbl:bkL c.blocks= .lst 5 (c.blocks.map Bk.cs):=rfl
 refine AC.go th ?_
 simp-implicitDefEqProofs[lM,hcs,hbl]
 refine aH (λa:CpS=>aA 29 [(4,.p (.int .i64 a.i)),(3,.ptr 2 3 0 0),(2,.ptr 1 3 0 0),(1,.ptr 0 3 0 0)]) (λa=>a.W)
  (λa=>a.i<=c.blocks.length/\a.W[0]?=some (.row 3 [[.p (.int .i64 c.params),.p (.int .i64 c.regs),.p (.lst 5 (c.blocks.map Bk.cs))]])/\a.W[1]?=some (.row 3 [[.p (.int .i64 0),.p (.int .i64 0),.nils]])/\∃V I,a.W[2]?=some (.row 3 [[.p (.int .i64 c.params),.p (.int .i64 c.regs),V]])/\Own 3 a.W [V] [bkL (c.blocks.take a.i)] I) (λa=>c.blocks.length-a.i) ⟨0,_⟩ ⟨Nat.zero_le _,rfl,rfl,_,_,rfl,Own.nil _ _ 5⟩ (ab (Nat.zero_le _) (by simp[below])) ?_
 rintro⟨i,W⟩ ⟨hi,hw0,hw1,V,I,hw2,hV⟩
 simp only at hi hw0 hw1 hw2 hV⊢
 have h3:=(List.getElem?_eq_some_iff.1 hw2).1
 obtain⟨v1,v2⟩:=hV.cell
 simp-implicitDefEqProofs[hw0]
 refine aF (λhcc=>?_) (λhcc=>?_)
 ·have hcc:i<c.blocks.length:=by simpa using hcc
  have hg:=List.getElem?_eq_getElem hcc
  have htk:c.blocks.take (i+1)=c.blocks.take i++[c.blocks[i]]:=au hcc
  have hsx:=hc.2.2.2 _ (List.getElem_mem hcc)
  have hb7:=hc.2.2.1
  generalize c.blocks[i]=x at hg htk hsx
  have hxs:=x.cs_eq2
  have hwi:=w1 (i:=i) (by omega)
  have hcall:=AC.ownLift G pI (ti G x m hm hsx) (h:=W) (by simp)
  rw[hxs] at hcall
  simp-implicitDefEqProofs[-AV.cells,-AV.isCell,aD,ae,ah,an,al,aE,af,am,aj,v1,v2,hw0,hw2,hg,hxs]
  refine hcall.mono ?_
  rintro r h ⟨vs,IA,os,rfl,rfl,hO⟩
  rw[←hxs] at hO
  obtain⟨P,N,X,IP,IN,IX,rfl,rfl,hP,hN,hX⟩:=uO hO
  obtain⟨p1,p2⟩:=hP.cell
  obtain⟨n1,n2⟩:=hN.cell
  obtain⟨x1,x2⟩:=hX.cell
  obtain⟨W2,hW2⟩:∃W2,W2=W++os:=⟨_,rfl⟩
  have m2:∀t,(W2++t)[2]?=some (.row 3 [[.p (.int .i64 c.params),.p (.int .i64 c.regs),V]]):=λt=>by rw[hW2,List.append_assoc,List.getElem?_append_left h3];exact hw2
  have m20:=m2 []
  rw[List.append_nil] at m20
  have m2e:=λt hh=>fF (m2 t) hh
  have hW2l:W.length<=W2.length:=by rw[hW2];simp
  obtain⟨R,hR⟩:∃R,R=[P,N,AV.p (.int .i64 x.jump),.p (.int .i64 x.on),X]:=⟨_,rfl⟩
  have hOR:Own W.length (W++(os++[.row 5 [R]])) R x.cs (IP++(IN++IX)):=by rw[hR,←List.append_assoc];exact hO.more _
  have hbt:bkL (c.blocks.take (i+1))= .lst 5 ((c.blocks.take i).map Bk.cs++[x.cs]):=by rw[htk,bkL,List.map_append];rfl
  have hli:((c.blocks.take i).map Bk.cs).length=i:=by simp;omega
  have hWe:W++(os++[.row 5 [R]])=W2++[.row 5 [R]]:=by rw[hW2,List.append_assoc]
  rw[←hW2]
  rcases hV.rowAt with⟨rfl,h0⟩|⟨f,rows,hVf,hg2,hrl,hf3⟩
  ·obtain⟨IV',q1,q2,q3,q4⟩:=hV.growL (k:=2) (o2:= .row 3 [[.p (.int .i64 c.params),.p (.int .i64 c.regs),.sl (W2.length+1) 5 0 1]]) hOR rfl (W3:=W2++[.row 5 [R],.row 5 [R]]) (.inl ⟨rfl,by rw[hWe];simp,rfl⟩) h3
   have hl3:(W2++[AO.row 5 [R]]).length=W2.length+1:=by simp
   rw[hWe,hl3,←hbt] at q1
   simp-implicitDefEqProofs[-AV.cells,-AV.isCell,aD,ae,ah,an,al,aE,af,am,aj,p1,p2,n1,n2,x1,x2,aa,m2,m20,m2e]
   rw[←hR]
   exact⟨⟨i+1,_⟩,⟨hcc,by simp only;rw[q4 0 (by omega)];exact hw0,by simp only;rw[q4 1 (by omega)];exact hw1,_,q3,_,q1⟩,by simp only;omega,ab (Nat.zero_le _) (by simp[below,hwi]<;>omega)⟩
  ·rw[hli] at hVf hrl
   subst hVf
   have m7:∀t,(W2++t)[f]?=some (.row 5 rows):=λt=>by rw[hW2,List.append_assoc,List.getElem?_append_left (List.getElem?_eq_some_iff.1 hg2).1];exact hg2
   have m8:∀t t',((W2++t).set f .dead++t')[2]?=some (.row 3 [[.p (.int .i64 c.params),.p (.int .i64 c.regs),.sl f 5 0 i]]):=λt t'=>by rw[List.getElem?_append_left (by simp;omega),List.getElem?_set_ne (by omega)];exact m2 t
   have m7e:=λt hh=>fF (m7 t) hh
   have m8e:=λt t' hh=>fF (m8 t t') hh
   have htk2:List.take i rows=rows:=List.take_of_length_le (by omega)
   obtain⟨IV',q1,q2,q3,q4⟩:=hV.growL (k:=2) (o2:= .row 3 [[.p (.int .i64 c.params),.p (.int .i64 c.regs),.sl (W2.length+1) 5 0 (i+1)]]) hOR rfl (W3:=(W2++[AO.row 5 [R]]).set f .dead++[.row 5 (rows++[R])]) (.inr ⟨f,rows,_,rfl,by rw[hWe];exact m7 _,hrl,by rw[hWe],rfl⟩) h3
   have hl3:(W2++[AO.row 5 [R]]).length=W2.length+1:=by simp
   rw[hWe,hl3,←hbt] at q1
   simp-implicitDefEqProofs[-AV.cells,-AV.isCell,aD,ae,ah,an,al,aE,af,am,aj,p1,p2,n1,n2,x1,x2,aa,m2,m20,m2e,m7,m8,m7e,m8e,htk2]
   rw[←hR]
   exact⟨⟨by omega,by omega,by omega⟩,⟨i+1,_⟩,⟨hcc,by simp only;rw[q4 0 (by omega)];exact hw0,by simp only;rw[q4 1 (by omega)];exact hw1,_,q3,_,q1⟩,by simp only;omega,ab (Nat.zero_le _) (by simp[below,hwi]<;>omega)⟩
 ·have hcc:c.blocks.length<=i:=by simpa using hcc
  rw[List.take_of_length_le hcc] at hV
  have hs1:∀o,(W.set 1 o)[1]?=some o:=λo=>List.getElem?_set_self (by omega)
  simp-implicitDefEqProofs[-AV.cells,-AV.isCell,aD,ae,ah,an,al,aE,af,am,aj,v1,v2,hw0,hw1,hw2,hs1]
  exact⟨_,I,rfl,pQ (c:=c) ((hV.frame λj hj=>List.getElem?_set_ne λe=>by have:=hV.ge j hj;omega).low λj _=>Nat.zero_le _)⟩
theorem uV(cs:List Cd)(m:Nat)(hm:m<=100)(hl:cs.length<=3)(hc:∀c∈cs,SmCd m c):AC Try.prog G dO [.agg [.p (cdL cs)]] [] (OwW .agg [cdL cs]):=by
 have hbl:cdL cs= .lst 3 (cs.map Cd.cs):=rfl
 refine AC.go nh ?_
 simp-implicitDefEqProofs[ii,hbl]
 refine aH (λa:CpS=>aA 25 [(4,.p (.int .i64 a.i)),(3,.ptr 2 1 0 0),(2,.ptr 1 1 0 0),(1,.ptr 0 1 0 0)]) (λa=>a.W)
  (λa=>a.i<=cs.length/\a.W[0]?=some (.row 1 [[.p (.lst 3 (cs.map Cd.cs))]])/\a.W[1]?=some (.row 1 [[.nils]])/\∃V I,a.W[2]?=some (.row 1 [[V]])/\Own 3 a.W [V] [cdL (cs.take a.i)] I) (λa=>cs.length-a.i) ⟨0,_⟩ ⟨Nat.zero_le _,rfl,rfl,_,_,rfl,Own.nil _ _ 3⟩ (ab (Nat.zero_le _) (by simp[below])) ?_
 rintro⟨i,W⟩ ⟨hi,hw0,hw1,V,I,hw2,hV⟩
 simp only at hi hw0 hw1 hw2 hV⊢
 have h3:=(List.getElem?_eq_some_iff.1 hw2).1
 obtain⟨v1,v2⟩:=hV.cell
 simp-implicitDefEqProofs[hw0]
 refine aF (λhcc=>?_) (λhcc=>?_)
 ·have hcc:i<cs.length:=by simpa using hcc
  have hg:=List.getElem?_eq_getElem hcc
  have htk:cs.take (i+1)=cs.take i++[cs[i]]:=au hcc
  have hsx:=hc _ (List.getElem_mem hcc)
  generalize cs[i]=x at hg htk hsx
  have hxs:=x.cs_eq2
  have hwi:=w1 (i:=i) (by omega)
  have hcall:=AC.ownLift G pI (Ei G x m hm hsx) (h:=W) (by simp)
  rw[hxs] at hcall
  simp-implicitDefEqProofs[-AV.cells,-AV.isCell,aD,ae,ah,an,al,aE,af,am,aj,v1,v2,hw0,hw2,hg,hxs]
  refine hcall.mono ?_
  rintro r h ⟨vs,IA,os,rfl,rfl,hO⟩
  rw[←hxs] at hO
  obtain⟨B,rfl,hB⟩:=AD hO
  obtain⟨p1,p2⟩:=hB.cell
  obtain⟨W2,hW2⟩:∃W2,W2=W++os:=⟨_,rfl⟩
  have m2:∀t,(W2++t)[2]?=some (.row 1 [[V]]):=λt=>by rw[hW2,List.append_assoc,List.getElem?_append_left h3];exact hw2
  have m20:=m2 []
  rw[List.append_nil] at m20
  have m2e:=λt hh=>fF (m2 t) hh
  have hW2l:W.length<=W2.length:=by rw[hW2];simp
  obtain⟨R,hR⟩:∃R,R=[AV.p (.int .i64 x.params),.p (.int .i64 x.regs),B]:=⟨_,rfl⟩
  have hOR:Own W.length (W++(os++[.row 3 [R]])) R x.cs IA:=by rw[hR,←List.append_assoc];exact hO.more _
  have hbt:cdL (cs.take (i+1))= .lst 3 ((cs.take i).map Cd.cs++[x.cs]):=by rw[htk,cdL,List.map_append];rfl
  have hli:((cs.take i).map Cd.cs).length=i:=by simp;omega
  have hWe:W++(os++[.row 3 [R]])=W2++[.row 3 [R]]:=by rw[hW2,List.append_assoc]
  have hl3:(W2++[AO.row 3 [R]]).length=W2.length+1:=by simp
  rw[←hW2]
  rcases hV.rowAt with⟨rfl,h0⟩|⟨f,rows,hVf,hg2,hrl,hf3⟩
  ·obtain⟨IV',q1,q2,q3,q4⟩:=hV.growL (k:=2) (o2:= .row 1 [[.sl (W2.length+1) 3 0 1]]) hOR rfl (W3:=W2++[.row 3 [R],.row 3 [R]]) (.inl ⟨rfl,by rw[hWe];simp,rfl⟩) h3
   rw[hWe,hl3,←hbt] at q1
   simp-implicitDefEqProofs[-AV.cells,-AV.isCell,aD,ae,ah,an,al,aE,af,am,aj,p1,p2,aa,m2,m20,m2e]
   rw[←hR]
   exact⟨⟨i+1,_⟩,⟨hcc,by simp only;rw[q4 0 (by omega)];exact hw0,by simp only;rw[q4 1 (by omega)];exact hw1,_,q3,_,q1⟩,by simp only;omega,ab (Nat.zero_le _) (by simp[below,hwi]<;>omega)⟩
  ·rw[hli] at hVf hrl
   subst hVf
   have m7:∀t,(W2++t)[f]?=some (.row 3 rows):=λt=>by rw[hW2,List.append_assoc,List.getElem?_append_left (List.getElem?_eq_some_iff.1 hg2).1];exact hg2
   have m8:∀t t',((W2++t).set f .dead++t')[2]?=some (.row 1 [[.sl f 3 0 i]]):=λt t'=>by rw[List.getElem?_append_left (by simp;omega),List.getElem?_set_ne (by omega)];exact m2 t
   have m7e:=λt hh=>fF (m7 t) hh
   have m8e:=λt t' hh=>fF (m8 t t') hh
   have htk2:List.take i rows=rows:=List.take_of_length_le (by omega)
   obtain⟨IV',q1,q2,q3,q4⟩:=hV.growL (k:=2) (o2:= .row 1 [[.sl (W2.length+1) 3 0 (i+1)]]) hOR rfl (W3:=(W2++[AO.row 3 [R]]).set f .dead++[.row 3 (rows++[R])]) (.inr ⟨f,rows,_,rfl,by rw[hWe];exact m7 _,hrl,by rw[hWe],rfl⟩) h3
   rw[hWe,hl3,←hbt] at q1
   simp-implicitDefEqProofs[-AV.cells,-AV.isCell,aD,ae,ah,an,al,aE,af,am,aj,p1,p2,aa,m2,m20,m2e,m7,m8,m7e,m8e,htk2]
   rw[←hR]
   exact⟨⟨by omega,by omega,by omega⟩,⟨i+1,_⟩,⟨hcc,by simp only;rw[q4 0 (by omega)];exact hw0,by simp only;rw[q4 1 (by omega)];exact hw1,_,q3,_,q1⟩,by simp only;omega,ab (Nat.zero_le _) (by simp[below,hwi]<;>omega)⟩
 ·have hcc:cs.length<=i:=by simpa using hcc
  rw[List.take_of_length_le hcc] at hV
  have hs1:∀o,(W.set 1 o)[1]?=some o:=λo=>List.getElem?_set_self (by omega)
  simp-implicitDefEqProofs[-AV.cells,-AV.isCell,aD,ae,ah,an,al,aE,af,am,aj,v1,v2,hw0,hw1,hw2,hs1]
  exact⟨[V],I,rfl,(hV.frame λj hj=>List.getElem?_set_ne λe=>by have:=hV.ge j hj;omega).low λj _=>Nat.zero_le _⟩
end
section
def GCd(c:Cd):Prop:=1<=c.blocks.length/\c.blocks.length<=160/\∀x∈c.blocks,x.next.length<=2
def GU(cs:List Cd):Prop:=(cs≠[]/\cs.length<=4)/\∀c∈cs,GCd c
theorem SmCd.g{m:Nat}{c:Cd}(h:SmCd m c):GCd c:=⟨h.2.1,by have:=h.2.2.1;omega,λx hx=>(h.2.2.2 x hx).2.2.1⟩
structure BI (W:List AO) (uw:Nat) (V:AV) (cs:List Cd) (I:List Nat):Prop where
 res:W[0]?=some (.row 1 [[.nils]])
 u:W[uw]?=some (.row 1 [[V]])
 uge:1<=uw
 own:Own 2 (.dead::W) [V] [cdL cs] I
 un:uw+1∉I
 g:GU cs
section
variable {n:Nat} {H:List AO} {I:List Nat}
theorem Own.iis{N:AV}{is:List Ii}(HV:Own n H [N] [inL is] I){k:Nat}{y:Ii}(hk:is[k]?=some y):∃id rows A Ji,N= .sl id 4 0 is.length/\H[id]?=some (.row 4 rows)/\rows.length=is.length/\rows[k]?=some [.p (.int .i64 y.op),.p (.int .i64 y.to),A,.p (.int .i64 y.n)]/\Own n H [A] [aC y.args] Ji/\id∈I/\(∀j∈Ji,j∈I/\j≠id)/\
 ∀(h2:List AO) (A':AV) (y':Ii) (I2:List Nat),h2[id]?=some (.row 4 (rows.set k [.p (.int .i64 y'.op),.p (.int .i64 y'.to),A',.p (.int .i64 y'.n)]))->(∀j∈I,j≠id->j∉Ji->h2[j]?=H[j]?)->Own n h2 [A'] [aC y'.args] I2->(∀j∈I2,j∈Ji\/j∉I)->∃I',Own n h2 [N] [inL (is.set k y')] I'/\∀j∈I',j∈I\/j∈I2:=by
 rcases HV.row with⟨_,h2,_⟩|⟨id,rows,J,h1,h2,hr,_⟩
 ·rw[List.map_eq_nil_iff.1 h2] at hk;simp at hk
 ·rw[List.length_map] at h1
  subst h2
  have HV2:=HV
  rw[h1] at HV2
  have hD:(is.map Ii.cs)[k]?=some y.cs:=by rw[List.getElem?_map,hk];rfl
  have hl:(is.map Ii.cs).length=is.length:=by simp
  obtain⟨r,Ji,g1,g2,g3,g4⟩:=Own.upd (D:=is.map Ii.cs) (by rw[hl];exact HV2) hr hD
  obtain⟨A,rfl,hA⟩:=Gc g2
  have hnid:id∉J:=(List.nodup_cons.1 HV.nd).1
  refine⟨id,rows,A,Ji,h1,hr.here,by have:=hr.len;rwa[hl] at this,g1,hA,by simp,λj hj=>⟨List.mem_cons_of_mem _ (g3 j hj).1,(g3 j hj).2⟩,λh2 A' y' I2 k1 k2 k3 k4=>?_⟩
  obtain⟨J',q1,q2⟩:=g4 h2 _ y'.cs I2 k1 (λj hj hn=>k2 j (List.mem_cons_of_mem _ hj) (λe=>hnid (e▸hj)) hn) (uG k3) (λj hj=>by
   rcases k4 j hj with h|h
   ·exact .inl h
   ·rw[List.mem_cons,not_or] at h;exact .inr h) rfl
  rw[hl,←List.map_set,←h1] at q1
  refine⟨id::J',q1,λj hj=>?_⟩
  rcases List.mem_cons.1 hj with rfl|hj
  ·exact .inl (by simp)
  ·rcases q2 j hj with h|h
   ·exact .inl (List.mem_cons_of_mem _ h)
   ·exact .inr h
end
theorem GU.set{cs:List Cd}(h:GU cs)(k:Nat){c:Cd}(hc:GCd c):GU (cs.set k c):=⟨⟨λe=>h.1.1 (by have:=congrArg List.length e;simpa using this),by simpa using h.1.2⟩,λx hx=>by
 rcases List.mem_or_eq_of_mem_set hx with h1|rfl
 ·exact h.2 x h1
 ·exact hc⟩
theorem GCd.set{c:Cd}(h:GCd c)(b:Nat){x:Bk}(hx:x.next.length<=2):GCd ⟨c.params,c.regs,c.blocks.set b x⟩:=⟨by simpa using h.1,by simpa using h.2.1,λy hy=>by
 rcases List.mem_or_eq_of_mem_set hy with h1|rfl
 ·exact h.2.2 y h1
 ·exact hx⟩
section
variable {W:List AO} {uw:Nat} {V:AV} {cs:List Cd} {I:List Nat}
theorem BI.at(B:BI W uw V cs I){k b:Nat}{c:Cd}{x:Bk}(hk:cs[k]?=some c)(hb:c.blocks[b]?=some x):∃f rows g rows2 P N X IP IN IX,V= .sl (f+1) 3 0 cs.length/\W[f]?=some (.row 3 rows)/\rows.length=cs.length/\rows[k]?=some [.p (.int .i64 c.params),.p (.int .i64 c.regs),.sl (g+1) 5 0 c.blocks.length]/\
 W[g]?=some (.row 5 rows2)/\rows2.length=c.blocks.length/\rows2[b]?=some [P,N,.p (.int .i64 x.jump),.p (.int .i64 x.on),X]/\1<=f/\1<=g/\f≠uw/\g≠uw/\g≠f/\Own 2 (.dead::W) [P] [phL x.phis] IP/\Own 2 (.dead::W) [N] [inL x.ins] IN/\Own 2 (.dead::W) [X] [aC x.next] IX/\
 (∀j∈IP++(IN++IX),j≠f+1/\j≠g+1/\j≠uw+1)/\(∀j∈IP,j∉IN/\j∉IX)/\(∀j∈IN,j∉IX)/\
 (∀(W2:List AO) (P' N' X':AV) (j' o':Int) (ps:List Ph) (is:List Ii) (nx:List Int) (JP JN JX:List Nat),W.length<=W2.length->W2[g]?=some (.row 5 (rows2.set b [P',N',.p (.int .i64 j'),.p (.int .i64 o'),X']))->(∀i,i<W.length->i≠g->i+1∉IP++(IN++IX)->W2[i]?=W[i]?)->Own 2 (.dead::W2) [P'] [phL ps] JP->Own 2 (.dead::W2) [N'] [inL is] JN->Own 2 (.dead::W2) [X'] [aC nx] JX->(∀j∈JP,j∈IP\/W.length<j)->(∀j∈JN,j∈IN\/W.length<j)->(∀j∈JX,j∈IX)->(∀j∈JP,j∉JN)->nx.length<=2->∃cs' I',BI W2 uw V cs' I')/\
 ∀(W2:List AO) (rg:Int),W2[f]?=some (.row 3 (rows.set k [.p (.int .i64 c.params),.p (.int .i64 rg),.sl (g+1) 5 0 c.blocks.length]))->W.length<=W2.length->(∀i,i<W.length->i≠f->W2[i]?=W[i]?)->∃cs' I',BI W2 uw V cs' I':=by
 obtain⟨id,rows,gid,rows2,r,Jb,q1,q2,q3,q4,q5,q6,q7,q8,q9,q10,q11,q12,q13⟩:=B.own.blk hk hb
 have g1:=B.own.ge id q9
 have g2:=B.own.ge gid q10
 obtain⟨f,rfl⟩:∃f,id=f+1:=⟨id-1,by omega⟩
 obtain⟨g,rfl⟩:∃g,gid=g+1:=⟨gid-1,by omega⟩
 rw[List.getElem?_cons_succ] at q2 q5
 obtain⟨P,N,X,IP,IN,IX,rfl,rfl,hP,hN,hX⟩:=uO q8
 have hun:=B.un
 have hnd:=q8.nd
 simp only[List.nodup_append,List.mem_append] at hnd
 have hlt:∀j∈I,j<W.length+1:=λj hj=>by have:=B.own.lt j hj;simpa using this
 have hfu:f≠uw:=λe=>hun (e▸q9)
 have hgu:g≠uw:=λe=>hun (e▸q10)
 have huW:=(List.getElem?_eq_some_iff.1 B.u).1
 have h0W:=(List.getElem?_eq_some_iff.1 B.res).1
 have hge:=B.uge
 refine⟨f,rows,g,rows2,P,N,X,IP,IN,IX,q1,q2,q3,q4,q5,q6,q7,by omega,by omega,hfu,hgu,by omega,hP,hN,hX,λj hj=>⟨(q12 j hj).2.1,(q12 j hj).2.2,λe=>hun (e▸(q12 j hj).1)⟩,λj hj=>⟨λhm=>hnd.2.2 j hj j (.inl hm) rfl,λhm=>hnd.2.2 j hj j (.inr hm) rfl⟩,λj hj hm=>hnd.2.1.2.2 j hj j hm rfl,?_,?_⟩
 ·intro W2 P' N' X' j' o' ps is nx JP JN JX k0 k1 k2 k3 k4 k5 k6 k7 k8 k9 k10
  have hx:Own 2 (.dead::W2) [P',N',.p (.int .i64 j'),.p (.int .i64 o'),X'] (⟨ps,is,j',o',nx⟩:Bk).cs (JP++(JN++JX)):=pS (b:=⟨ps,is,j',o',nx⟩) k3 k4 k5 (λj hj=>⟨k9 j hj,λhm=>by
   have hm:=k8 j hm
   rcases k6 j hj with h|h
   ·exact hnd.2.2 j h j (.inr hm) rfl
   ·have:=hlt j (q12 j (by simp[hm])).1;omega⟩) λj hj hm=>by
   have hm:=k8 j hm
   rcases k7 j hj with h|h
   ·exact hnd.2.1.2.2 j h j hm rfl
   ·have:=hlt j (q12 j (by simp[hm])).1;omega
  have hJ:∀j∈JP++(JN++JX),j∈IP++(IN++IX)\/W.length<j:=λj hj=>by
   simp only[List.mem_append] at hj⊢
   rcases hj with hj|hj|hj
   ·exact(k6 j hj).imp (λh=> .inl h) (λh=>h)
   ·exact(k7 j hj).imp (λh=> .inr (.inl h)) (λh=>h)
   ·exact .inl (.inr (.inr (k8 j hj)))
  obtain⟨I',d1,d2⟩:=q13 (.dead::W2) _ ⟨ps,is,j',o',nx⟩ _ (by rw[List.getElem?_cons_succ];exact k1) (λj hj hn hm=>by
   have h3:=B.own.ge j hj
   have h4:=hlt j hj
   obtain⟨i,rfl⟩:∃i,j=i+1:=⟨j-1,by omega⟩
   rw[List.getElem?_cons_succ,List.getElem?_cons_succ,k2 i (by omega) (by omega) hm]) hx (λj hj=>(hJ j hj).imp (λh=>h) λh hm=>by have:=hlt j hm;omega)
  refine⟨_,I',?_,?_,hge,d1,λhm=>?_,B.g.set k ((B.g.2 c (List.mem_of_getElem? hk)).set b k10)⟩
  ·rw[k2 0 h0W (by omega) λhm=>by have:=B.own.ge _ (q12 _ hm).1;omega];exact B.res
  ·rw[k2 uw huW (Ne.symm hgu) λhm=>hun (q12 _ hm).1];exact B.u
  ·rcases d2 _ hm with h|h
   ·exact hun h
   ·rcases hJ _ h with h|h
    ·exact hun (q12 _ h).1
    ·omega
 ·intro W2 rg k1 k0 k2
  obtain⟨id',rows',B',Ji,a1,a2,a3,a4,a5,a6,a7,a8⟩:=B.own.cds hk
  rw[q1] at a1
  cases a1
  rw[List.getElem?_cons_succ,q2] at a2
  cases a2
  rw[q4] at a4
  cases a4
  have hsame:∀j∈I,j≠f+1->(AO.dead::W2)[j]?=(AO.dead::W)[j]?:=λj hj hn=>by
   have h3:=B.own.ge j hj
   have h4:=hlt j hj
   obtain⟨i,rfl⟩:∃i,j=i+1:=⟨j-1,by omega⟩
   rw[List.getElem?_cons_succ,List.getElem?_cons_succ,k2 i (by omega) (by omega)]
  obtain⟨I',d1,d2⟩:=a8 (.dead::W2) _ ⟨c.params,rg,c.blocks⟩ Ji (by rw[List.getElem?_cons_succ];exact k1) (λj hj hn _=>hsame j hj hn) (pQ (c:=⟨c.params,rg,c.blocks⟩) (a5.frame λj hj=>hsame j (a7 j hj).1 (a7 j hj).2)) (λj hj=> .inl hj)
  refine⟨_,I',?_,?_,hge,d1,λhm=>?_,B.g.set k (B.g.2 c (List.mem_of_getElem? hk))⟩
  ·rw[k2 0 h0W (by omega)];exact B.res
  ·rw[k2 uw huW (Ne.symm hfu)];exact B.u
  ·rcases d2 _ hm with h|h
   ·exact hun h
   ·exact hun (a7 _ h).1
end
end
end Go.Proofs.Ytdfplkcigiblcaa
