/-
  Contracts and lemmas that the card needs, part 9.
-/
import Derived.Test.YtokiapglmedipaaGreatDoorFo8
namespace Go.Proofs.YtokiapglmedipaaGreatDoor
open Go Go.Aw
set_option maxRecDepth 100000
set_option maxHeartbeats 4000000
section
section
variable {M:Nat} {l:List Fd} {fuel sid sid1 sid2:Nat} {u sv sv1 sv2:AV} {v v1 v2:List Sc5} {I:List Nat} {h h1 h2 os:List AO} {s s1 s2:S5}
theorem BkL.refl(H:MI M l fuel sv sid s h)(C:CI h u v I M sid):BkL M l fuel sid u v I h s sv sid h:=⟨H,C,Fr.refl _ _,.inl rfl,λ_ _ _ q=>q⟩
theorem BkL.trans(B:BkL M l fuel sid u v1 I h s1 sv1 sid1 h1)(D:BkL M l fuel sid1 u v2 I h1 s2 sv2 sid2 h2):BkL M l fuel sid u v2 I h s2 sv2 sid2 h2:=by
 have hb:=B.fs
 have hd:=D.fs
 have hl:=B.fr.1
 refine⟨D.run,D.ci,B.fr.trans D.fr λi hi=>?_,by omega,λi hi x q=>D.env i hi x (B.env i hi x q)⟩
 simp only[ZI] at hi⊢
 rcases hi with rfl|rfl|hi
 ·exact .inl (.inl rfl)
 ·rcases hb with rfl|hb
  ·exact .inl (.inr (.inl rfl))
  ·exact .inr hb
 ·exact .inl (.inr (.inr hi))
theorem BkL.more(B:BkL M l fuel sid u v I h s sv1 sid1 h1)(os:List AO):BkL M l fuel sid u v I h s sv1 sid1 (h1++os):=
 ⟨B.run.more os,B.ci.more os,B.fr.trans (Fr.more [] _ _) (λi hi=>by cases hi),B.fs,λi hi x q=>by rw[Zv (B.ci.chn.lt i hi)];exact B.env i hi x q⟩
theorem BkL.ex(B:BkL M l fuel sid u v I h s1 sv1 sid1 h1)(P:PL M l fuel sid1 h1 s2 sv2 sid2 h2):BkL M l fuel sid u v I h s2 sv2 sid2 h2:=
 B.trans ⟨P.run,B.ci.after P,P.fr.sub λi hi=> .inl (by simp only[ZI,aaa,or_false] at hi⊢;omega),P.fs,λi hi x q=>by
  rw[P.fr.2 i (B.ci.chn.lt i hi) (by simp only[ZI,aaa,or_false,not_or];exact⟨λe=>B.ci.mn (e▸hi),λe=>B.ci.sn (e▸hi)⟩)];exact q⟩
theorem BkL.upd(B:BkL M l fuel sid u v I h s1 sv1 sid1 h1)(a1:s2.said=s1.said)(a2:s2.left<=s1.left)(a3:s2.cells.length=16):BkL M l fuel sid u v I h s2 sv1 sid1 (h1.set M (lb l fuel sv1 s2)):=
 ⟨B.run.upd a1 a2 a3,⟨B.ci.chn.frame λi hi=>Zx (show M≠i from λe=>B.ci.mn (e▸hi)),B.ci.nd,B.ci.sn,B.ci.mn⟩,B.fr.set (by simp) _,B.fs,λi hi x q=>by rw[Zx (show M≠i from λe=>B.ci.mn (e▸hi))];exact B.env i hi x q⟩
end
theorem Jb{P:Program}{G:am}{k:Nat}{c:AK}{ts:List AV}{h:List AO}{Q:Aw.AX->List AV->List AO->Prop}(n:Nat)(R Y:List AV->List AO->Prop)(Z:TypeId->PV->List AO->Prop)
 (h1:∀Q',(∀ts' h',R ts' h'->Q' (.exit n) ts' h')->(∀ts' h',Y ts' h'->Q' .ret ts' h')->(∀t v ts' h',Z t v h'->Q' (.pan t v) ts' h')->AKW P G k c ts h Q')(h2:∀ts' h',R ts' h'->Q (.exit n) ts' h')(h4:∀ts' h',Y ts' h'->Q .ret ts' h')(h3:∀t v ts' h',Z t v h'->Q (.pan t v) ts' h'):AKW P G k c ts h Q:=h1 Q h2 h4 h3
variable (G:am)
def PsC(l:List Fd)(M k fuel:Nat)(x:Sm):Prop:=∀v s v' s' r,Ev l (.stm k v s x v' s' r)->InS v s->∀u I sid sv h,MI M l fuel sv sid s h->CI h u v I M sid->
 AC Tryz.prog G gI [.ptr M 20 0 0,.agg (x.cs.map .p),u] h (BkX M l fuel sid u v' I h s' r)
theorem InS.stm{l:List Fd}{k:Nat}{v v':List Sc5}{s s':S5}{x:Sm}{q:O5 (Option Int)}(I:InS v s)(h:Ev l (.stm k v s x v' s' q)):In5 v' s':=In5.stm I h
structure BlS where (i sid:Nat) (sv:AV) (hh:List AO) (v:List Sc5) (s:S5)
structure BlI (l:List Fd) (M k fuel sid:Nat) (u:AV) (I:List Nat) (h:List AO) (xs:List Sm) (v':List Sc5) (s':S5) (r:O5 (Option Int)) (a:BlS):Prop where
 bk:BkL M l fuel sid u a.v I h a.s a.sv a.sid a.hh
 inn:In5 a.v a.s
 ev:Ev l (.blk k a.v a.s (xs.drop a.i) v' s' r)
 il:a.i<=xs.length
theorem SB{l:List Fd}{M k fuel:Nat}{xs:List Sm}(hz:xs.length<=1073741824)(hS:∀x∈xs,PsC G l M k fuel x):PbC G l M k fuel xs:=by
 intro v s v' s' r hE I0 u I sid sv h H C
 have hsl:smL xs= .lst 5 (xs.map Sm.cs):=rfl
 obtain⟨e0,rfl,_,hue⟩:=C.chn.is
 have hmb:=H.lt
 refine AC.go sw ?_
 simp-implicitDefEqProofs[lh,hsl]
 refine Jb 0 (λts' h'=>r= .ok none/\(∃sv2 sid2,BkL M l fuel sid (.ptr e0 2 0 0) v' I h s' sv2 sid2 h')/\∃l,ts'=ah 26 l)
  (λts' h'=>∃n b,r= .ok (some n)/\(∃sv2 sid2,BkL M l fuel sid (.ptr e0 2 0 0) v' I h s' sv2 sid2 h')/\h'[b]?=some (.row 1 [[.p (.int .i64 n)]])/\∃l,ts'=ah 26 ((6,.ptr b 1 0 0)::l))
  (λt x h'=>∃c,t=bY/\x= .int .i64 c/\r= .st c/\∃sv2 sid2,BkL M l fuel sid (.ptr e0 2 0 0) v' I h s' sv2 sid2 h') (λQ' qE qR qP=>?_) ?_ ?_ ?_
 ·refine aI (λa:BlS=>ah 26 [(12,.p (.int .i64 a.i)),(11,.p (.int .i64 xs.length)),(10,.p (.lst 5 (xs.map Sm.cs))),(0,.ptr M 20 0 0),(2,.ptr e0 2 0 0)]) (λa=>a.hh) (BlI l M k fuel sid (.ptr e0 2 0 0) I h xs v' s' r) (λa=>xs.length-a.i) ⟨0,sid,sv,h,v,s⟩ ⟨BkL.refl H C,I0,hE,Nat.zero_le _⟩ ?_ ?_
  ·refine bF (ZH _) ?_
   simp[below]
   omega
  rintro⟨i,sidc,svc,hh,vc,sc⟩ J
  have hil:=J.il
  have jl:=J.bk.fr.1
  simp only at hil jl
  by_cases h1:i<xs.length
  ·have hg:=Zu h1
   have ha:=ZD h1
   obtain⟨x,hgx⟩:∃x,x=xs[i]:=⟨_,rfl⟩
   rw[←hgx] at hg ha
   have hkx:=x.cs_eq
   have hdr:xs.drop i=x::xs.drop (i+1):=by
    rw[aas h1,hgx]
   have hev:=J.ev
   simp only[hdr] at hev
   simp-implicitDefEqProofs[h1,hg,hkx]
   rw[←hgx]
   have B0:=J.bk.more [.row 5 [x.cs.map .p]]
   have hM0:=J.bk.run.lt
   simp only at hM0 B0
   have hwi:=w1 (i:=i) (by omega)
   refine(Qx G B0.run).mono ?_
   rintro z h2 hz2
   by_cases hF:sc.left=0
   ·rw[if_pos hF] at hz2
    obtain⟨rfl,rfl⟩:=hz2
    have hr:r= .st 3/\v'=vc/\s'=sc:=by
     cases hev with
     |bfuel _=>exact⟨rfl,rfl,rfl⟩
     |bgo q _ _=>omega
     |bend q _ _=>omega
    obtain⟨rfl,rfl,rfl⟩:=hr
    simp-implicitDefEqProofs[]
    exact λts=>qP _ _ _ _ ⟨3,rfl,rfl,rfl,_,_,B0⟩
   rw[if_neg hF] at hz2
   obtain⟨rfl,rfl⟩:=hz2
   obtain⟨F,hF1⟩:∃F,sc.left=F+1:=⟨sc.left-1,by omega⟩
   have hFF:sc.left-1=F:=by omega
   rw[hFF]
   have IS:=J.inn.tick hF1
   have B1:BkL M l fuel sid (.ptr e0 2 0 0) vc I h (sc.at_ F) svc sidc ((hh++[AO.row 5 [x.cs.map AV.p]]).set M (lb l fuel svc (sc.at_ F))):=B0.upd rfl (by simp only[S5.at_];omega) B0.run.len
   have hb:((hh++[AO.row 5 [x.cs.map AV.p]]).set M (lb l fuel svc (sc.at_ F)))[hh.length]?=some (.row 5 [x.cs.map .p]):=by
    rw[Zx (by omega)];simp
   have hlen:((hh++[AO.row 5 [x.cs.map AV.p]]).set M (lb l fuel svc (sc.at_ F))).length=hh.length+1:=by simp
   generalize (hh++[AO.row 5 [x.cs.map AV.p]]).set M (lb l fuel svc (sc.at_ F))=h2 at B1 hb hlen
   simp-implicitDefEqProofs[aa,hb]
   have fin:∀v1 s1 sv2 sid2 h3,BkL M l fuel sid (.ptr e0 2 0 0) v1 I h s1 sv2 sid2 h3->In5 v1 s1->Ev l (.blk k v1 s1 (xs.drop (i+1)) v' s' r)->∀sl,Aw.look sl 12= .p (.int .i64 (IntKind.i64.wrap ((i:Int)+1)))->Aw.look sl 11= .p (.int .i64 xs.length)->Aw.look sl 10= .p (.lst 5 (xs.map Sm.cs))->Aw.look sl 0= .ptr M 20 0 0->Aw.look sl 2= .ptr e0 2 0 0->
    ∃a:BlS,BlI l M k fuel sid (.ptr e0 2 0 0) I h xs v' s' r a/\xs.length-a.i<xs.length-i/\Wk h.length (ah 26 sl) h3 (ah 26 [(12,.p (.int .i64 a.i)),(11,.p (.int .i64 xs.length)),(10,.p (.lst 5 (xs.map Sm.cs))),(0,.ptr M 20 0 0),(2,.ptr e0 2 0 0)]) a.hh:=λv1 s1 sv2 sid2 h3 B I1 hE1 sl e12 e11 e10 e0' e2=>by
    have:=B.fr.1
    refine⟨⟨i+1,sid2,sv2,h3,v1,s1⟩,⟨B,I1,hE1,by simp only;omega⟩,by simp only;omega,bF (by omega) ?_⟩
    simp[below,e12,e11,e10,e0',e2,hwi]
    omega
   have hone:∃v1 s1 q,Ev l (.stm k vc (sc.at_ F) x v1 s1 q)/\((q= .ok none/\Ev l (.blk k v1 s1 (xs.drop (i+1)) v' s' r))\/(q≠ .ok none/\v'=v1/\s'=s1/\r=q)):=by
    cases hev with
    |bfuel q=>omega
    |bgo q q2 q3=>rw[hF1] at q;cases q;exact⟨_,_,_,q2,.inl ⟨rfl,q3⟩⟩
    |bend q q2 q3=>rw[hF1] at q;cases q;exact⟨_,_,_,q2,.inr ⟨q3,rfl,rfl,rfl⟩⟩
   obtain⟨v1,s1,q,q1,q2⟩:=hone
   refine(hS x ha _ _ _ _ _ q1 IS _ I sidc svc h2 B1.run B1.ci).mono ?_
   rintro z h3 ⟨hR,sv2,sid2,B2⟩
   have B3:=B1.trans B2
   match q,hR with
   | .ok none,hR=>
     cases hR
     rcases q2 with⟨_,q2⟩|⟨q2,_⟩
     case inr=>exact(q2 rfl).elim
     simp-implicitDefEqProofs[aa]
     exact fin _ _ _ _ _ B3 (IS.stm q1) q2 _ (by simp) (by simp) (by simp) (by simp) (by simp)
   | .ok (some n),⟨b,hb1,hb2⟩=>
     cases hb1
     rcases q2 with⟨q2,_⟩|⟨_,rfl,rfl,rfl⟩
     ·cases q2
     simp-implicitDefEqProofs[aa]
     exact qR _ _ ⟨n,b,rfl,⟨sv2,sid2,B3⟩,hb2,_,rfl⟩
   | .st c,hR=>
     cases hR
     rcases q2 with⟨q2,_⟩|⟨_,rfl,rfl,rfl⟩
     ·cases q2
     simp-implicitDefEqProofs[]
     exact λts=>qP _ _ _ _ ⟨c,rfl,rfl,rfl,sv2,sid2,B3⟩
  ·simp-implicitDefEqProofs[h1]
   have:i=xs.length:=by omega
   subst this
   have hev:=J.ev
   simp only[List.drop_length] at hev
   cases hev
   exact qE _ _ ⟨rfl,⟨svc,sidc,J.bk⟩,_,rfl⟩
 ·rintro ts' h' ⟨rfl,B,l',rfl⟩
  simp-implicitDefEqProofs[]
  exact⟨rfl,B⟩
 ·rintro ts' h' ⟨n,b,rfl,B,hb,l',rfl⟩
  simp-implicitDefEqProofs[]
  exact⟨⟨b,rfl,hb⟩,B⟩
 ·rintro t y ts' h' ⟨c,rfl,rfl,rfl,B⟩
  simp-implicitDefEqProofs[]
  exact⟨rfl,B⟩
end
section
section
variable {M:Nat} {l:List Fd} {fuel sid sid1 sid2:Nat} {u sv sv1 sv2:AV} {v v1 v2:List Sc5} {I:List Nat} {h h1 h2 os:List AO} {s s1 s2:S5}
theorem BkL.map(B:BkL M l fuel sid u v1 I h s1 sv1 sid1 h1){m:Nat}(hm:m∈I){o:AO}{q0:List (PV × AV)}(hq:h1[m]?=some (.mp q0))(hC:Chn (h1.set m o) u v2 I):BkL M l fuel sid u v2 I h s1 sv1 sid1 (h1.set m o):=
 ⟨B.run.frame (by rw[aag];exact ZH _) (Zx (show m≠M from λe=>B.ci.mn (e▸hm))) (Zx (show m≠sid1 from λe=>B.ci.sn (e▸hm))),⟨hC,B.ci.nd,B.ci.sn,B.ci.mn⟩,B.fr.set (by simp[hm]) _,B.fs,λi hi x q=>by
   have h3:=B.env i hi x q
   rw[Zx (show m≠i from λe=>by subst e;rw[hq] at h3;cases h3)];exact h3⟩
theorem Chn.hd{c:Sc5}{up:List Sc5}(H:Chn h u (c::up) I)(nd:I.Nodup):∃e m w,u= .ptr e 2 0 0/\h[e]?=some (.row 2 [[.mp m,w]])/\h[m]?=some (.mp (mpV c))/\m∈I/\∀c',Chn (h.set m (.mp (mpV c'))) u (c'::up) I:=by
 cases H with
 |last e m c h1 h2=>
  have hm:=(Zt.1 h2).1
  have hne:m≠e:=λq=>by subst q;rw[h1] at h2;cases h2
  exact⟨e,m,_,rfl,h1,h2,by simp,λc'=> .last e m _ (by rw[Zx hne];exact h1) (ZJ hm)⟩
 |cons e m c u v I h1 h2 H=>
  have hm:=(Zt.1 h2).1
  have hne:m≠e:=λq=>by subst q;rw[h1] at h2;cases h2
  simp only[aak,ZI,not_or] at nd
  exact⟨e,m,_,rfl,h1,h2,by simp,λc'=> .cons e m _ u _ I (by rw[Zx hne];exact h1) (ZJ hm) (H.frame λi hi=>Zx (show m≠i from λq=>nd.2.1 (q▸hi)))⟩
theorem BkL.say(B:BkL M l fuel sid u v I h s1 sv1 sid1 h1){n:Int}{nid:Nat}(a1:h1.length<=nid)(a2:∀j,j<h1.length->j≠M->j≠sid1->h2[j]?=h1[j]?)(a3:h2[M]?=some (lb l fuel (.sl nid 1 0 (s1.said++[n]).length) (s1.say n)))(a4:h2[nid]?=some (fY (s1.said++[n]))):
 BkL M l fuel sid u v I h (s1.say n) (.sl nid 1 0 (s1.said++[n]).length) nid h2:=by
 have hn:=(Zt.1 a4).1
 have hs:=B.fs
 have hl:=B.fr.1
 refine⟨⟨a3,.ss _ _ a4,B.run.le,B.run.fu,B.run.len⟩,⟨B.ci.chn.frame λi hi=>a2 i (B.ci.chn.lt i hi) (λe=>B.ci.mn (e▸hi)) (λe=>B.ci.sn (e▸hi)),B.ci.nd,λhm=>by have:=B.ci.chn.lt _ hm;omega,B.ci.mn⟩,⟨by omega,λi hi hk=>?_⟩,.inr (by omega),λi hi x q=>by rw[a2 i (B.ci.chn.lt i hi) (λe=>B.ci.mn (e▸hi)) (λe=>B.ci.sn (e▸hi))];exact B.env i hi x q⟩
 simp only[ZI,not_or] at hk
 rw[a2 i (by omega) hk.1 (by omega),B.fr.2 i hi (by simp only[ZI,not_or];exact hk)]
end
theorem Tk{l:List Fd}{fuel:Nat}{sv:AV}{s:S5}{i:Nat}{m:Int}(hi:i<s.cells.length)(a b c:AV)(ha:a= .p (fdL l))(hb:b= .p (.int .i64 fuel))(hc:c= .p (.int .i64 ((fuel-s.left:Nat):Int))):
 AO.row 20 [List.take (4+i) (a::b::c::sv::s.cells.map λn=> .p (.int .i64 n))++ .p (.int .i64 m)::List.drop (4+i) (b::c::sv::s.cells.map λn=> .p (.int .i64 n))]=lb l fuel sv (s.put i m):=by
 subst ha;subst hb;subst hc
 rw[show 4+i=i+1+1+1+1 by omega]
 simp only[List.take_succ_cons,List.drop_succ_cons,lb,S5.put,aac,List.nil_append]
 rw[List.map_set,List.set_eq_take_append_cons_drop,if_pos (by simpa using hi)]
variable (G:am)
theorem Chn.tl{h:List AO}{e e2 m:Nat}{c:Sc5}{v:List Sc5}{I:List Nat}(H:Chn h (.ptr e 2 0 0) (c::v) (e::m::I))(hI:I≠[])(he:h[e]?=some (.row 2 [[.mp m,.ptr e2 2 0 0]])):Chn h (.ptr e2 2 0 0) v I:=by
 cases H with
 |last=>exact(hI rfl).elim
 |cons _ _ _ u _ _ h1 h2 h3=>
  rw[he] at h1
  simp only[Option.some.injEq,AO.row.injEq,List.cons.injEq,and_true,true_and] at h1
  subst h1
  exact h3
theorem Va{l:List Fd}{M k fuel sid e0:Nat}{sv:AV}{v v':List Sc5}{m:Sc5}{s s':S5}{I:List Nat}{h2:List AO}{r:O5 (Option Int)}{xs:List Sm}(hP:PbC G l M k fuel xs)(hev:Ev l (.blk k ([]::v) s xs (m::v') s' r))(I1:In5 v s)(H:MI M l fuel sv sid s h2)(C:CI h2 (.ptr e0 2 0 0) v I M sid):
 AC Tryz.prog G bv [.ptr M 20 0 0,.p (smL xs),.ptr (h2.length+1) 2 0 0] (h2++[.mp [],.row 2 [[.mp h2.length,.ptr e0 2 0 0]]]) (BkX M l fuel sid (.ptr e0 2 0 0) v' I h2 s' r):=by
 have hch:Chn (h2++[.mp [],.row 2 [[.mp h2.length,.ptr e0 2 0 0]]]) (.ptr (h2.length+1) 2 0 0) ([]::v) ((h2.length+1)::h2.length::I):= .cons _ _ [] _ _ _ (by simp) (by simp[mpV]) (C.chn.more _)
 have hIl:=C.chn.lt
 have hM1:=H.lt
 have hS1:=H.said.lt
 have C3:CI (h2++[.mp [],.row 2 [[.mp h2.length,.ptr e0 2 0 0]]]) (.ptr (h2.length+1) 2 0 0) ([]::v) ((h2.length+1)::h2.length::I) M sid:=by
  refine⟨hch,?_,?_,?_⟩
  ·simp only[aak,ZI,not_or]
   exact⟨⟨by omega,λq=>by have:=hIl _ q;omega⟩,λq=>by have:=hIl _ q;omega,C.nd⟩
  ·simp only[ZI,not_or];exact⟨by omega,by omega,C.sn⟩
  ·simp only[ZI,not_or];exact⟨by omega,by omega,C.mn⟩
 have hI0:I≠[]:=by
  obtain⟨_,_,q,_⟩:=C.chn.is
  intro e
  rw[e] at q
  cases q
 refine(hP _ _ _ _ _ hev I1.opn _ _ sid sv _ (H.more _) C3).mono ?_
 rintro z h3 ⟨hR,sv3,sid3,B3⟩
 have hsd:sid3=sid\/h2.length<=sid3:=by
  have:=B3.fs
  simp at this
  omega
 have hfr:Fr (M::sid::I) h2 h3:=B3.fr.from.sub λi hi=>by
  simp only[ZI] at hi⊢
  rcases hi with rfl|rfl|rfl|rfl|hi
  ·exact .inl (.inl rfl)
  ·exact .inl (.inr (.inl rfl))
  ·exact .inr (by omega)
  ·exact .inr (ZH _)
  ·exact .inl (.inr (.inr hi))
 have hsn:=B3.ci.sn
 simp only[ZI,not_or] at hsn
 refine⟨hR,sv3,sid3,B3.run,⟨B3.ci.chn.tl hI0 (B3.env _ (by simp) _ (by simp)),C.nd,hsn.2.2,C.mn⟩,hfr,hsd,λi hi x q=>B3.env i (by simp[hi]) x (by rw[Zv (hIl i hi)];exact q)⟩
theorem Uo{l:List Fd}{M k fuel:Nat}{x:Sm}(W:WfS l k x)(hX:∀e,WfE l k e->PxC G l M k fuel e)(hB:PbC G l M k fuel x.body)(hE:PbC G l M k fuel x.els)(n6:x.op≠6):PsC G l M k fuel x:=by
 intro v s v' s' r hS I0 u I sid sv h H C
 have hxc:=x.cs_eq
 have hsl:exL x.args= .lst 4 (x.args.map Ex.cs):=rfl
 obtain⟨e0,rfl,_,hue⟩:=C.chn.is
 have hmb:=H.lt
 have hsb:=H.said.lt
 obtain⟨box,hbox⟩:∃box,box=AO.row 5 [[.p (.int .i64 x.op),.p (.str x.name),.p (exL x.args),.p (smL x.body),.p (smL x.els)]]:=⟨_,rfl⟩
 obtain⟨a,ha0⟩:∃a,x.args[0]?=some a:=by
  have:x.args.length≠0:=by
   rw[W.argn]
   obtain⟨q1,q2⟩:=W.op
   have:x.op=1\/x.op=2\/x.op=3\/x.op=4\/x.op=5\/x.op=6\/x.op=7\/x.op=8:=by omega
   rcases this with q|q|q|q|q|q|q|q<;>rw[q]<;>decide
  exact⟨x.args[0],Zu (by omega)⟩
 have ham:=Zy ha0
 have hka:=a.cs_eq
 obtain⟨s1,r1,hx1,hrest⟩:∃s1 r1,Ev l (.ex k v s a s1 r1)/\((∃c,r1= .st c/\v'=v/\s'=s1/\r= .st c)\/∃n,r1= .ok n/\
  ((x.op=1/\∃m up,v=m::up/\cN m x.name=none/\v'=(m++[(x.name,n)])::up/\s'=s1/\r= .ok none)\/(x.op=2/\(kR v x.name).isSome=true/\v'=lw v x.name n/\s'=s1/\r= .ok none)\/(x.op=3/\v'=v/\s'=s1.say n/\r= .ok none)\/
    (x.op=4/\v'=v/\∃b s2 r2,x.args[1]?=some b/\Ev l (.ex k v s1 b s2 r2)/\((∃c,r2= .st c/\s'=s2/\r= .st c)\/∃m,r2= .ok m/\((16<=n/\s'=s2/\r= .st 2)\/∃i:Nat,n=(i:Int)/\i<16/\s'=s2.put i m/\r= .ok none)))\/
    (x.op=5/\∃m,Ev l (.blk k ([]::v) s1 (if n≠0 then x.body else x.els) (m::v') s' r))\/(x.op=6/\LpA l k x v s1 n v' s' r)\/(x.op=7/\v'=v/\s'=s1/\r= .ok (some n))\/(x.op=8/\v'=v/\s'=s1/\r= .ok none))):=by
  have hd:∀{b:Ex} {q:List Ex},x.args=b::q->b=a:=λ{b q} e=>by rw[e] at ha0;cases ha0;rfl
  cases hS with
  |argS h6 hA h1=>cases hd hA;exact⟨_,_,h1,.inl ⟨_,rfl,rfl,rfl,rfl⟩⟩
  |slet h6 hA h1 h2 h3=>cases hd hA;exact⟨_,_,h1,.inr ⟨_,rfl,.inl ⟨h6,_,_,h2,h3,rfl,rfl,rfl⟩⟩⟩
  |sset h6 hA h1 h2=>cases hd hA;exact⟨_,_,h1,.inr ⟨_,rfl,.inr (.inl ⟨h6,h2,rfl,rfl,rfl⟩)⟩⟩
  |ssay h6 hA h1=>cases hd hA;exact⟨_,_,h1,.inr ⟨_,rfl,.inr (.inr (.inl ⟨h6,rfl,rfl,rfl⟩))⟩⟩
  |sput h6 hA h1 h2 h3=>cases hd hA;exact⟨_,_,h1,.inr ⟨_,rfl,.inr (.inr (.inr (.inl ⟨h6,rfl,_,_,_,by rw[hA];rfl,h2,.inr ⟨_,rfl,.inr ⟨_,rfl,h3,rfl,rfl⟩⟩⟩)))⟩⟩
  |sputC h6 hA h1 h2 h3=>cases hd hA;exact⟨_,_,h1,.inr ⟨_,rfl,.inr (.inr (.inr (.inl ⟨h6,rfl,_,_,_,by rw[hA];rfl,h2,.inr ⟨_,rfl,.inl ⟨h3,rfl,rfl⟩⟩⟩)))⟩⟩
  |sputS h6 hA h1 h2=>cases hd hA;exact⟨_,_,h1,.inr ⟨_,rfl,.inr (.inr (.inr (.inl ⟨h6,rfl,_,_,_,by rw[hA];rfl,h2,.inl ⟨_,rfl,rfl,rfl⟩⟩)))⟩⟩
  |sif h6 hA h1 h2=>cases hd hA;exact⟨_,_,h1,.inr ⟨_,rfl,.inr (.inr (.inr (.inr (.inl ⟨h6,_,h2⟩))))⟩⟩
  |sloop h6 h1=>
   obtain⟨b,s1,r1,hA,g1,g2⟩:=Qw h1
   cases hd hA
   rcases g2 with g2|⟨n,g2,g3⟩
   ·exact⟨_,_,g1,.inl g2⟩
   ·exact⟨_,_,g1,.inr ⟨n,g2,.inr (.inr (.inr (.inr (.inr (.inl ⟨h6,g3⟩)))))⟩⟩
  |sback h6 hA h1=>cases hd hA;exact⟨_,_,h1,.inr ⟨_,rfl,.inr (.inr (.inr (.inr (.inr (.inr (.inl ⟨h6,rfl,rfl,rfl⟩))))))⟩⟩
  |sdo h6 hA h1=>cases hd hA;exact⟨_,_,h1,.inr ⟨_,rfl,.inr (.inr (.inr (.inr (.inr (.inr (.inr ⟨h6,rfl,rfl,rfl⟩))))))⟩⟩
 clear hS
 refine AC.go lV ?_
 simp-implicitDefEqProofs[gT,hxc,hsl,ha0,hka,n6]
 have hbox':AO.row 5 [[.p (.int .i64 x.op),.p (.str x.name),.p (.lst 4 (x.args.map Ex.cs)),.p (smL x.body),.p (smL x.els)]]=box:=hbox.symm
 rw[hbox']
 have hX1:=hX a (W.args a ham) v s s1 r1 hx1 I0.in5 _ I sid sv _ (H.more [box]) (C.more [box])
 rw[show a.cs.map AV.p=[.p (.int .i64 a.op),.p (.int .i64 a.n),.p (.str a.name),.p (exL a.kids)] by rw[hka];rfl] at hX1
 refine hX1.mono ?_
 rintro z h2 ⟨rfl,sv1,sid1,P⟩
 have b2:h2[h.length]?=some box:=by have:=PL.keep H P (i:=0) (by simp);simpa using this
 have B1:BkL M l fuel sid (.ptr e0 2 0 0) v I h s1 sv1 sid1 h2:=(BkL.refl H C).ex P.from
 have I1:=I0.in5.ex hx1
 rcases hrest with⟨c,rfl,rfl,rfl,rfl⟩|⟨n,rfl,hrest⟩
 ·simp-implicitDefEqProofs[eA]
  exact⟨rfl,sv1,sid1,B1⟩
 ·rw[hbox] at b2
  rcases hrest with⟨o1,m,up,rfl,hsg,rfl,rfl,rfl⟩|⟨o2,hvs,rfl,rfl,rfl⟩|⟨o3,rfl,rfl,rfl⟩|⟨o4,rfl,b,s2,r2,hb1,hx2,hrest⟩|⟨o5,m,hbk⟩|⟨o6,hlp⟩|⟨o7,rfl,rfl,rfl⟩|⟨o8,rfl,rfl,rfl⟩
  ·obtain⟨e,mm,w,he,g1,g2,g3,g4⟩:=B1.ci.chn.hd B1.ci.nd
   cases he
   have hq:=zo x.name n m
   rw[hsg] at hq
   simp only[Option.isSome_none,Bool.false_eq_true,if_false] at hq
   simp-implicitDefEqProofs[aa,eA,b2,o1,g1,g2,hq]
   exact⟨rfl,_,_,B1.map g3 g2 (g4 _)⟩
  ·obtain⟨n0,hn0⟩:=Option.isSome_iff_exists.1 hvs
   simp-implicitDefEqProofs[aa,eA,b2,o2]
   refine(LK G B1.ci.chn B1.ci.nd hn0).mono ?_
   rintro z h3 ⟨rfl,e1,rfl,m,c,w,g1,g2,g3,g4,g5⟩
   have hq:=zo x.name n c
   rw[if_pos (sS g3)] at hq
   simp-implicitDefEqProofs[aa,g1,g2,hq,b2]
   exact⟨rfl,_,_,B1.map g4 g2 (g5 _)⟩
  ·have jM:=B1.run.men
   simp only[lb] at jM
   have hM2:=B1.run.lt
   have hm5:=I1.1.m
   unfold M5 at hm5
   have hsd:=B1.run.said
   obtain⟨xs,hxs⟩:∃xs,xs=s1.said:=⟨_,rfl⟩
   rw[←hxs] at hsd hm5
   cases hsd with
   |nn _ _=>
    have jMa:∀os,(h2++os)[M]?=_:=λos=>(Zv hM2).trans jM
    simp-implicitDefEqProofs[aa,eA,b2,o3,jM, ↓jMa]
    refine⟨rfl,_,_,B1.say (n:=n) (nid:=h2.length+1) (by omega) (λj j1 j2 _=>by rw[Zx (Ne.symm j2),Zv j1]) ?_ ?_⟩
    ·rw[ZJ (by simp;omega),←hxs];rfl
    ·rw[Zx (by omega),ZG (by omega),←hxs];simp[fY]
   |ss _ _ hu=>
    have hul:=(Zt.1 hu).1
    simp only[fY] at hu
    have hua:∀os,(h2++os)[sid1]?=some (.row 1 (xs.map λn=>[.p (.int .i64 n)])):=λos=>by rw[Zv hul];exact hu
    have hne:sid1≠M:=Ne.symm (B1.run.neS (by simp))
    have jMb:∀os z os',((h2++os).set sid1 z++os')[M]?=_:=λos z os'=>((Zv (by simp;omega)).trans (Zx hne)).trans ((Zv hM2).trans jM)
    simp-implicitDefEqProofs[aa,eA,b2,o3,jM, ↓hua, ↓jMb]
    have htk:List.take xs.length (xs.map λn=>[AV.p (.int .i64 n)])=xs.map λn=>[AV.p (.int .i64 n)]:=Zz (by simp)
    refine⟨⟨by omega,by omega⟩,?_⟩
    refine⟨rfl,_,_,B1.say (n:=n) (nid:=h2.length+1) (by omega) (λj j1 j2 j3=>?_) ?_ ?_⟩
    ·rw[Zx (Ne.symm j2),Zv (by simp;omega),Zx (Ne.symm j3),Zv j1]
    ·rw[ZJ (by simp;omega),←hxs];simp[lb,S5.say]
    ·rw[Zx (by omega),ZG (by simp),←hxs];simp[fY,htk]
  ·have hb:=Zy hb1
   have hkb:=b.cs_eq
   simp-implicitDefEqProofs[aa,eA,b2,o4,hsl,hb1,hkb]
   have hX2:=hX b (W.args b hb) _ _ _ _ hx2 I1.1 _ I sid1 sv1 _ P.run B1.ci
   rw[show b.cs.map AV.p=[.p (.int .i64 b.op),.p (.int .i64 b.n),.p (.str b.name),.p (exL b.kids)] by rw[hkb];rfl] at hX2
   refine hX2.mono ?_
   rintro z h3 ⟨rfl,sv2,sid2,P2⟩
   have B2:=B1.ex P2
   have I2:=I1.1.ex hx2
   rcases hrest with⟨c,rfl,rfl,rfl⟩|⟨m,rfl,hrest⟩
   ·simp-implicitDefEqProofs[eA]
    exact⟨rfl,sv2,sid2,B2⟩
   ·simp-implicitDefEqProofs[aa,eA]
    have hn5:=I1.2 n rfl
    obtain⟨i,rfl⟩:∃i:Nat,n=(i:Int):=⟨n.toNat,by have:=hn5.1;omega⟩
    refine(Jt G B2.run i (by have:=hn5.2;omega)).mono ?_
    rintro z h4 hz
    rcases hrest with⟨h16,rfl,rfl⟩|⟨i',hi,h16,rfl,rfl⟩
    ·rw[if_pos (by omega)] at hz
     obtain⟨rfl,rfl⟩:=hz
     simp-implicitDefEqProofs[]
     exact⟨rfl,sv2,sid2,B2⟩
    ·have hii:i'=i:=by omega
     subst hii
     rw[if_neg (by omega)] at hz
     obtain⟨rfl,rfl⟩:=hz
     have jM:=B2.run.men
     simp only[lb] at jM
     have hcl:=B2.run.len
     simp-implicitDefEqProofs[aa,jM]
     rw[Tk (by omega) _ _ _ rfl rfl rfl]
     exact⟨by omega,rfl,_,_,B2.upd rfl (ZH _) (by simp[S5.put,hcl])⟩
  ·have fin:∀z h3,BkX M l fuel sid1 (.ptr e0 2 0 0) v' I h2 s' r z h3->BkX M l fuel sid (.ptr e0 2 0 0) v' I h s' r z h3:=λz h3 ⟨hR,sv3,sid3,B3⟩=>⟨hR,sv3,sid3,B1.trans B3⟩
   by_cases hn0:n=0
   ·simp-implicitDefEqProofs[aa,eA,b2,o5,hn0]
    refine(FE G B1.ci.chn).mono ?_
    rintro z h3 ⟨rfl,rfl⟩
    have b3:∀os,(h2++os)[h.length]?=_:=λos=>(Zv (Zt.1 b2).1).trans b2
    simp-implicitDefEqProofs[aa,b3,b2]
    rw[if_neg (by omega)] at hbk
    refine(Va G hE hbk I1.1 B1.run B1.ci).mono ?_
    rintro z h3 hz
    have hz:=fin _ _ hz
    obtain⟨hR,B3⟩:=hz
    match r,hR with
    | .ok none,hR=>
      cases hR
      simp-implicitDefEqProofs[aa]
      exact⟨rfl,B3⟩
    | .ok (some q),⟨b,hb1,hb2⟩=>
      cases hb1
      simp-implicitDefEqProofs[aa]
      exact⟨⟨b,rfl,hb2⟩,B3⟩
    | .st c,hR=>
      cases hR
      simp-implicitDefEqProofs[]
      exact⟨rfl,B3⟩
   ·simp-implicitDefEqProofs[aa,eA,b2,o5,hn0]
    refine(FE G B1.ci.chn).mono ?_
    rintro z h3 ⟨rfl,rfl⟩
    have b3:∀os,(h2++os)[h.length]?=_:=λos=>(Zv (Zt.1 b2).1).trans b2
    simp-implicitDefEqProofs[aa,b3,b2]
    rw[if_pos hn0] at hbk
    refine(Va G hB hbk I1.1 B1.run B1.ci).mono ?_
    rintro z h3 hz
    have hz:=fin _ _ hz
    obtain⟨hR,B3⟩:=hz
    match r,hR with
    | .ok none,hR=>
      cases hR
      simp-implicitDefEqProofs[aa]
      exact⟨rfl,B3⟩
    | .ok (some q),⟨b,hb1,hb2⟩=>
      cases hb1
      simp-implicitDefEqProofs[aa]
      exact⟨⟨b,rfl,hb2⟩,B3⟩
    | .st c,hR=>
      cases hR
      simp-implicitDefEqProofs[]
      exact⟨rfl,B3⟩
  ·exact(n6 o6).elim
  ·simp-implicitDefEqProofs[aa,eA,b2,o7]
   exact⟨⟨h2.length,rfl,by simp⟩,_,_,B1.more _⟩
  ·simp-implicitDefEqProofs[aa,eA,b2,o8]
   exact⟨rfl,_,_,B1⟩
end
section
structure LzS where (sid:Nat) (sv:AV) (hh:List AO) (v:List Sc5) (s:S5)
structure LzI (l:List Fd) (M k fuel sid:Nat) (u:AV) (I:List Nat) (h:List AO) (box:AO) (x:Sm) (v':List Sc5) (s':S5) (r:O5 (Option Int)) (a:LzS):Prop where
 bk:BkL M l fuel sid u a.v I (h++[box]) a.s a.sv a.sid a.hh
 inn:In5 a.v a.s
 ev:Ev l (.lp k a.v a.s x v' s' r)
theorem BkL.keep{M:Nat}{l:List Fd}{fuel sid sid1:Nat}{u sv sv1:AV}{v v1:List Sc5}{I:List Nat}{h h1 os:List AO}{s s1:S5}(H:MI M l fuel sv sid s h)(C:CI h u v I M sid)(B:BkL M l fuel sid u v1 I (h++os) s1 sv1 sid1 h1){i:Nat}(hi:i<os.length):h1[h.length+i]?=os[i]?:=by
 have a:=H.lt
 have b:=H.said.lt
 rw[B.fr.2 (h.length+i) (by simp;omega) (by simp only[ZI,not_or];exact⟨by omega,by omega,λq=>by have:=C.chn.lt _ q;omega⟩),ZG (by omega),aau]
theorem BkL.from{M:Nat}{l:List Fd}{fuel sid sid1:Nat}{u sv1:AV}{v v1:List Sc5}{I:List Nat}{h h1 os:List AO}{s1:S5}(C:CI h u v I M sid)(B:BkL M l fuel sid u v1 I (h++os) s1 sv1 sid1 h1):BkL M l fuel sid u v1 I h s1 sv1 sid1 h1:=
 ⟨B.run,B.ci,B.fr.from,by have:=B.fs;simp at this;omega,λi hi x q=>B.env i hi x (by rw[Zv (C.chn.lt i hi)];exact q)⟩
variable (G:am)
theorem TV{l:List Fd}{M k fuel:Nat}{x:Sm}(W:WfS l k x)(hX:∀e,WfE l k e->PxC G l M k fuel e)(hB:PbC G l M k fuel x.body)(h6:x.op=6):PsC G l M k fuel x:=by
 intro v s v' s' r hS I0 u I sid sv h H C
 have hxc:=x.cs_eq
 have hsl:exL x.args= .lst 4 (x.args.map Ex.cs):=rfl
 obtain⟨e0,rfl,_,hue⟩:=C.chn.is
 have hmb:=H.lt
 have hsb:=H.said.lt
 obtain⟨box,hbox⟩:∃box,box=AO.row 5 [[.p (.int .i64 6),.p (.str x.name),.p (.lst 4 (x.args.map Ex.cs)),.p (smL x.body),.p (smL x.els)]]:=⟨_,rfl⟩
 obtain⟨a,ha0⟩:∃a,x.args[0]?=some a:=by
  have:x.args.length≠0:=by rw[W.argn,h6];decide
  exact⟨x.args[0],Zu (by omega)⟩
 have ham:=Zy ha0
 have hka:=a.cs_eq
 have hlp:Ev l (.lp k v s x v' s' r):=by
  cases hS with
  |argS q _ _=>exact(q h6).elim
  |sloop _ q=>exact q
  |slet q _ _ _ _=>omega
  |sset q _ _ _=>omega
  |ssay q _ _=>omega
  |sput q _ _ _ _=>omega
  |sputC q _ _ _ _=>omega
  |sputS q _ _ _=>omega
  |sif q _ _ _=>omega
  |sback q _ _=>omega
  |sdo q _ _=>omega
 clear hS
 refine AC.go lV ?_
 simp-implicitDefEqProofs[gT,hxc,hsl,h6]
 rw[←hbox]
 refine Jb 0 (λts' h'=>r= .ok none/\(∃sv2 sid2,BkL M l fuel sid (.ptr e0 2 0 0) v' I h s' sv2 sid2 h')/\∃l,ts'=ah 109 l)
  (λts' h'=>∃n b,r= .ok (some n)/\(∃sv2 sid2,BkL M l fuel sid (.ptr e0 2 0 0) v' I h s' sv2 sid2 h')/\h'[b]?=some (.row 1 [[.p (.int .i64 n)]])/\∃l,ts'=ah 109 ((6,.ptr b 1 0 0)::l))
  (λt x h'=>∃c,t=bY/\x= .int .i64 c/\r= .st c/\∃sv2 sid2,BkL M l fuel sid (.ptr e0 2 0 0) v' I h s' sv2 sid2 h') (λQ' qE qR qP=>?_) ?_ ?_ ?_
 ·refine aI (λa:LzS=>ah 109 [(4,.ptr h.length 5 0 0),(0,.ptr M 20 0 0),(2,.ptr e0 2 0 0)]) (λa=>a.hh) (LzI l M k fuel sid (.ptr e0 2 0 0) I h box x v' s' r) (λa=>a.s.left) ⟨sid,sv,h++[box],v,s⟩ ⟨BkL.refl (H.more _) (C.more _),I0.in5,hlp⟩ ?_ ?_
  ·refine bF (by simp) ?_
   simp[below]
   omega
  rintro⟨sidc,svc,hh,vc,sc⟩ J
  have jB:hh[h.length]?=some box:=by have:=BkL.keep H C J.bk (i:=0) (by simp);simpa using this
  have jl:=J.bk.fr.1
  simp only[ZM,ZO,aay] at jl
  rw[hbox] at jB
  have hge:=J.bk.from C
  simp-implicitDefEqProofs[jB,hsl,ha0,hka]
  have hev:=J.ev
  simp only at hev
  obtain⟨a',s1,r1,hxa,hx1,hrest⟩:=Qw hev
  have haa:a'=a:=by rw[hxa] at ha0;cases ha0;rfl
  subst haa
  have hX1:=hX a' (W.args a' ham) _ _ _ _ hx1 J.inn _ I sidc svc hh J.bk.run J.bk.ci
  rw[show a'.cs.map AV.p=[.p (.int .i64 a'.op),.p (.int .i64 a'.n),.p (.str a'.name),.p (exL a'.kids)] by rw[hka];rfl] at hX1
  refine hX1.mono ?_
  rintro z h2 ⟨rfl,sv1,sid1,P⟩
  have B1:=J.bk.ex P
  simp only at B1
  have jB2:h2[h.length]?=some box:=by have:=BkL.keep H C B1 (i:=0) (by simp);simpa using this
  rw[hbox] at jB2
  have I1:=J.inn.ex hx1
  have hcn:=vt hx1
  simp only[Sp] at hcn
  rcases hrest with⟨c,rfl,rfl,rfl,rfl⟩|⟨n,rfl,hrest⟩
  ·simp-implicitDefEqProofs[eA]
   exact λts=>qP _ _ _ _ ⟨c,rfl,rfl,rfl,_,_,B1.from C⟩
  rcases hrest with⟨rfl,rfl,rfl,rfl⟩|⟨hn0,m,v1,s2,q1,hbk,hrest⟩
  ·simp-implicitDefEqProofs[aa,eA]
   exact qE _ _ ⟨rfl,⟨_,_,B1.from C⟩,_,rfl⟩
  have b3:∀os,(h2++os)[h.length]?=_:=λos=>(Zv (Zt.1 jB2).1).trans jB2
  simp-implicitDefEqProofs[aa,eA,hn0,jB2]
  refine(FE G B1.ci.chn).mono ?_
  rintro z h3 ⟨rfl,rfl⟩
  simp-implicitDefEqProofs[aa,b3,jB2]
  refine(Va G hB hbk I1.1 B1.run B1.ci).mono ?_
  rintro z h3 ⟨hR,sv3,sid3,B3⟩
  have B4:=B1.trans B3
  have I3:=(I1.1.opn.blk hbk).tl
  have hcb:=vt hbk
  simp only[Sp] at hcb
  match q1,hR with
  | .st c,hR=>
    cases hR
    rcases hrest with⟨_,rfl,rfl,rfl⟩|⟨q,_⟩
    case inr=>cases q
    simp-implicitDefEqProofs[]
    exact λts=>qP _ _ _ _ ⟨c,rfl,rfl,rfl,_,_,B4.from C⟩
  | .ok (some q),⟨b,hb1,hb2⟩=>
    cases hb1
    rcases hrest with⟨_,rfl,rfl,rfl⟩|⟨q,_⟩
    case inr=>cases q
    simp-implicitDefEqProofs[aa]
    exact qR _ _ ⟨q,b,rfl,⟨_,_,B4.from C⟩,hb2,_,rfl⟩
  | .ok none,hR=>
    cases hR
    rcases hrest with⟨q,_⟩|⟨_,hrest⟩
    ·exact(q rfl).elim
    simp-implicitDefEqProofs[aa]
    refine(Qx G B4.run).mono ?_
    rintro z h4 hz
    rcases hrest with⟨hF,rfl,rfl,rfl⟩|⟨F,hF,hlp2⟩
    ·rw[if_pos hF] at hz
     obtain⟨rfl,rfl⟩:=hz
     simp-implicitDefEqProofs[]
     exact λts=>qP _ _ _ _ ⟨3,rfl,rfl,rfl,_,_,B4.from C⟩
    ·rw[if_neg (by omega)] at hz
     obtain⟨rfl,rfl⟩:=hz
     have hFF:s2.left-1=F:=by omega
     rw[hFF]
     have B5:=B4.upd (s2:=s2.at_ F) rfl (by simp only[S5.at_];omega) B4.run.len
     simp-implicitDefEqProofs[aa]
     refine⟨⟨sid3,sv3,_,v1,s2.at_ F⟩,⟨B5,(I3.tick hF).in5,hlp2⟩,by simp only[S5.at_];omega,bF (by have:=B5.fr.1;simp at this⊢;omega) ?_⟩
     have:=B5.fr.1
     simp at this
     simp[below]
     omega
 ·rintro ts' h' ⟨rfl,B,l',rfl⟩
  simp-implicitDefEqProofs[]
  exact⟨rfl,B⟩
 ·rintro ts' h' ⟨n,b,rfl,B,hb,l',rfl⟩
  simp-implicitDefEqProofs[]
  exact⟨⟨b,rfl,hb⟩,B⟩
 ·rintro t y ts' h' ⟨c,rfl,rfl,rfl,B⟩
  simp-implicitDefEqProofs[]
  exact⟨rfl,B⟩
end
section
def SE(uid n:Nat):AV->AV
 | .nils=> .nils
 |_=> .sl uid 1 0 n
theorem EI.cut{R cid V sid nid uid:Nat}{uv:AV}{w:Sc5}{b:Bool}{x:Int}{h:List AO}(E:EI V nid uid uv w b x h)(A:Ap R V sid cid nid uid){n:Nat}(hn:n<=w.length):EI V nid uid (SE uid n uv) (w.take n) b x (h.set V (JU nid n (SE uid n uv) b x)):=by
 obtain⟨t,h1⟩:=E.names
 have hl:(w.take n).length=n:=by rw[ZS];omega
 refine⟨by rw[hl];exact ZJ E.lt.1,⟨(w.drop n).map (·.1)++t,?_⟩,?_,E.ne,by rw[aag];exact E.ul⟩
 ·rw[Zx E.neN,h1,←ZZ,←List.map_append,aab]
 ·have hv:=E.vals
  have hx:∀z,(h.set V z)[uid]?=h[uid]?:=λz=>Zx (Ne.symm A.uV)
  have hwl:(w.map (·.2)).length=w.length:=by simp
  generalize hvm:w.map (·.2)=vm at hv hwl
  have hvt:(w.take n).map (·.2)=vm.take n:=by rw[←hvm,List.map_take]
  rw[hvt]
  cases hv with
  |nn=>simp only[SE,List.take_nil];exact .nn _
  |ss _ _ t2 h2=>
   have hl2:(vm.take n).length=n:=by rw[ZS];omega
   have:=UV.ss (h:=h.set V (JU nid n (SE uid n (.sl uid 1 0 vm.length)) b x)) uid (vm.take n) (vm.drop n++t2) (by rw[hx,h2,←ZZ,aab])
   rw[hl2] at this
   exact this
variable (G:am)
end
section
theorem CoS.mem{l:List Fd}{k:Nat}{x:Sm}:∀{xs:List Sm} {d:Nat},CoS l k d xs->x∈xs->(∀a∈x.args,CoE l k a)/\(∃d,CoS l k d x.body)/\∃d,CoS l k d x.els
 |y::r,d,h,hx=>by
  obtain⟨a,b,c,e⟩:=h.head
  rcases ZI.1 hx with rfl|hx
  ·exact⟨a,⟨_,b⟩,⟨_,c⟩⟩
  ·exact e.mem hx
theorem Un{l:List Fd}{k d:Nat}{xs:List Sm}{x:Sm}(hf:∀x∈xs,∃d,aq d x=true)(hz:an xs<=1073741824)(hc:CoS l k d xs)(hx:x∈xs):WfS l k x:=by
 obtain⟨c,hform⟩:=hf x hx
 obtain⟨h1,h2,h3,h4,h5⟩:=Lm hform
 obtain⟨g1,g2,g3⟩:=hc.mem hx
 have hxz:=cA hx
 have hse:=x.sz_eq
 exact⟨⟨c,hform⟩,λa ha=>⟨⟨6,pr (h3 a ha)⟩,g1 a ha,by have:=aN ha;omega⟩,⟨h4,by omega,g2⟩,⟨h5,by omega,g3⟩,h2,h1⟩
variable (G:am)
def Mq:O5 Int->Int
 | .ok n=>n
 | .st _=>0
def Nf(s:S5)(r:O5 Int):List PV:=[bz s.said,.int .i64 (GX r),.int .i64 (Mq r),bz s.cells]
end
section
variable (G:am)
theorem Wh{l:List Fd}(hc:aD l=0)(hz:aH l<=1073741824)(M fuel:Nat):∀k,PcC G l M k fuel:=by
 intro k
 induction k using Nat.strongRecOn with
 |_ k ih=>
  have hX:∀e,WfE l k e->PxC G l M k fuel e:=λe W=>UG G (λe hop W ihk=>SW G hc hz ih e hop W ihk) e.sz e (ZH _) W
  have key:∀(N:Nat) (xs:List Sm),an xs<N->(∀x∈xs,∃d,aq d x=true)->an xs<=1073741824->(∃d,CoS l k d xs)->PbC G l M k fuel xs:=by
   intro N
   induction N with
   |zero=>intro xs h;omega
   |succ N ihN=>
    rintro xs hN hf hzx ⟨d,hco⟩
    refine SB G (by have:=bC xs;omega) λx hx=>?_
    have W:=Un hf hzx hco hx
    have hxz:=cA hx
    have hse:=x.sz_eq
    have hB:=ihN x.body (by omega) W.body.1 W.body.2.1 W.body.2.2
    by_cases h6:x.op=6
    ·exact TV G W hX hB h6
    ·exact Uo G W hX hB (ihN x.els (by omega) W.els.1 W.els.2.1 W.els.2.2) h6
  refine Vq G hc hz λf hf=>?_
  have hfz:=cS (Zy hf)
  have hfs:f.sz=1+f.name.length+(f.params.length+(f.params.map List.length).sum)+an f.body:=rfl
  exact key (an f.body+1) f.body (Nat.lt_succ_self _) (λy hy=>⟨4,(kw hc).2 f (Zy hf) y hy⟩) (by omega) ⟨1,OU hc hf⟩
def rW(l:List Fd)(us:List Int)(fuel:Nat):List AO:=[.row 1 [[.p (fdL l)]],.row 1 [[.p (bz us)]],.row 4 [[.nils,.p (.int .i64 0),.p (.int .i64 0),.nils]],lb l fuel .nils (s0 fuel),.row 1 [[.ptr 3 20 0 0]],.row 4 [[.nils,.p (.int .i64 0),.p (.int .i64 0),.nils]]]
theorem UC{l:List Fd}{us:List Int}{fuel:Nat}{s':S5}{r:O5 Int}(hc:aD l=0)(hz:aH l<=1073741824)(hl:0<l.length)(hu:∀n∈us,V5 n)(hfu:fuel<=4000)(hE:Ev l (.cal (l.length-1) us (s0 fuel) s' r)):
 AC Tryz.prog G eG [.ptr 4 1 0 0,.ptr 0 1 0 0,.ptr 1 1 0 0,.ptr 5 4 0 0] (rW l us fuel++[.row 1 [[.p (.int .i64 0)]]]) λx h'=>∃sv sid h2,MI 3 l fuel sv sid s' h2/\Fr [3] (rW l us fuel++[.row 1 [[.p (.int .i64 0)]]]) h2/\(sid=3\/7<=sid)/\
  (match r with| .ok n=>x= .ret (.tup [])/\h'=h2.set 5 (.row 4 [[.nils,.p (.int .i64 0),.p (.int .i64 n),.nils]])| .st c=>x= .pan bY (.int .i64 c)/\h'=h2):=by
 have hfl:fdL l= .lst 3 (l.map Fd.cs):=rfl
 have hll:l.length<=aH l:=pm l
 have hn1:IntKind.i64.wrap ((l.length:Int)-1)=((l.length-1:Nat):Int):=by rw[ae (by omega) (by omega)];omega
 have hM:MI 3 l fuel .nils 3 (s0 fuel) (rW l us fuel++[.row 1 [[.p (.int .i64 0)]]]):=⟨rfl,.nn _ (by simp[rW]),ZH _,hfu,by simp[s0]⟩
 refine AC.go tC ?_
 simp-implicitDefEqProofs[lR,rW,hfl,hn1]
 rw[←hfl]
 refine(Wh G hc hz 3 fuel (l.length-1) us (s0 fuel) s' r hE hu (tk fuel) (by simp[M5,s0];omega) _ 3 .nils _ hM (.pp us)).mono ?_
 rintro z h2 ⟨rfl,sv,sid,P⟩
 have h5:h2[5]?=some (.row 4 [[.nils,.p (.int .i64 0),.p (.int .i64 0),.nils]]):=(P.fr.2 5 (by simp[rW]) (by simp)).trans rfl
 have hsid:sid=3\/7<=sid:=by have:=P.fs;simp[rW] at this;exact this
 have hF:Fr [3] (rW l us fuel++[.row 1 [[.p (.int .i64 0)]]]) h2:=P.fr.sub λi hi=>by simp at hi;exact .inl (by simp[hi])
 cases r with
 |ok n=>
  simp-implicitDefEqProofs[aa,eA,h5]
  exact⟨sv,sid,h2,P.run,hF,hsid,rfl⟩
 |st c=>
  simp-implicitDefEqProofs[eA]
  exact⟨sv,sid,h2,P.run,hF,hsid,rfl⟩
end
section
variable (G:am)
mutual
def Sm.mq:Sm->Nat
 | .mk _ _ a b e=>2+3*fL a+RF b+RF e
def RF:List Sm->Nat
 |[]=>0
 |s::r=>s.mq+RF r
end
def Fd.mq(f:Fd):Nat:=1+f.params.length+RF f.body
end
section
def triL:List (List Int):=[[0,0,0],[1,2,3],[255,16,7]]
def rn(n:Nat):List (List Int):=triL.map (·.take n)
def nsL(l:List (List Int)):PV:= .lst 1 (l.map λx=>[bz x])
def Tc(l:List (List Int)):AO:= .row 1 (l.map λx=>[.p (bz x)])
def Bu(l:List Fd):List (List Int):=if aD l=0 then(match l[l.length-1]? with|some f=>rn f.params.length|none=>[]) else[]
abbrev sU:Nat:=0
def pvTries:List PV:=[.int .i64 0,.int .i64 0,.int .i64 0,.int .i64 1,.int .i64 2,.int .i64 3,.int .i64 255,.int .i64 16,.int .i64 7]
theorem sh:AK.whole jt=FK.ak jm:=rfl
theorem Bp:AK.whole lH=FK.ak lJ:=rfl
variable (G:am)
theorem Rq(L:List (List PV))(hl:∀x∈L,x.length=1)(hne:L≠[])(hb:L.length<=1048576):AC Tryz.prog G bP [.p (.lst 1 L)] [] λx h=>x= .ret (.sl 1 1 0 L.length)/\h=[.dead,.row 1 (L.map (·.map .p))]:=by
 obtain⟨x,r,rfl⟩:=List.exists_cons_of_ne_nil hne
 refine AC.go mQ ?_
 simp-implicitDefEqProofs[iS]
 simp at hb
 omega
theorem Cp:VF Tryz.prog G bP [.p (.lst 1 [])] (.p (.lst 1 [])):=by
 have key:AC Tryz.prog G bP [.p (.lst 1 [])] [] λx h=>∃v,x= .ret v/\View h v (.lst 1 []):=by
  refine AC.go mQ ?_
  simp-implicitDefEqProofs[iS]
  refine⟨.nils 1,?_⟩
  exact View.sl 1 1 0 [] [] rfl (by simp) (by simp) (λi j e q e' a h=>by simp at h)
 exact key.freezeR (λt v h ⟨_,e,_⟩=>by cases e) λv h ⟨u,e1,e2⟩=>by cases e1;exact .one e2 .nil
theorem KI(n:Nat)(hn:n<=3):VF Tryz.prog G iv [.p (.int .i64 n)] (.p (nsL (rn n))):=by
 have key:AC Tryz.prog G iv [.p (.int .i64 n)] [] λx h=>x= .ret (.sl 0 1 0 3)/\h=[Tc (rn n)]:=by
  refine AC.goK Bv Bp ?_
  simp-implicitDefEqProofs[lH,lJ]
  have hv:∀h:List AO,h[0]?=some (jb [0,0,0])->h[1]?=some (jb [1,2,3])->h[2]?=some (jb [255,16,7])->h[3]?=some (.row 1 [[.sl 0 1 0 3],[.sl 1 1 0 3],[.sl 2 1 0 3]])->View h (.sl 3 1 0 3) (nsL triL):=by
   intro h h0 h1 h2 h3
   have v0:=mh h0
   have v1:=mh h1
   have v2:=mh h2
   refine View.sl 3 1 0 _ [[bz [0,0,0]],[bz [1,2,3]],[bz [255,16,7]]] h3 (by simp) (by simp) λi j e q e' a a1 a2 a3 a4=>?_
   rw[aao] at a3
   match i,j,a1,a2,a3,a4 with
   |0,0,a1,a2,a3,a4=>cases a1;cases a2;cases a3;cases a4;exact v0
   |1,0,a1,a2,a3,a4=>cases a1;cases a2;cases a3;cases a4;exact v1
   |2,0,a1,a2,a3,a4=>cases a1;cases a2;cases a3;cases a4;exact v2
   |i+3,_,a1,a2,a3,a4=>simp at a1
   |0,j+1,a1,a2,a3,a4=>cases a1;simp at a2
   |1,j+1,a1,a2,a3,a4=>cases a1;simp at a2
   |2,j+1,a1,a2,a3,a4=>cases a1;simp at a2
  refine ja (ah 29 [(0,.p (.int .i64 n)),(3,.p (nsL triL))]) [] ?_ ?_
  ·simp-implicitDefEqProofs[]
   refine cV 0 (by omega) (by simp) rfl (.nil _) ⟨.keep (by simp[below]) .nil,.one (hv _ rfl rfl rfl rfl) .nil,trivial⟩
  simp-implicitDefEqProofs[]
  have hns:nsL triL= .lst 1 [[bz [0,0,0]],[bz [1,2,3]],[bz [255,16,7]]]:=rfl
  refine aI (λi:Nat=>ah 29 [(0,.p (.int .i64 n)),(3,.p (nsL triL)),(4,.sl 0 1 0 i),(5,.p (.int .i64 i))]) (λi=>[Tc ((rn n).take i)]) (λi=>i<=3) (λi=>3-i) 0 (by simp) ?_ ?_
  ·have e:Tc ((rn n).take 0)= .row 1 []:=rfl
   rw[e]
   refine ab ?_ ?_ ?_
   ·simp
   ·simp[okO]
   ·simp[below,hns]
  intro i hi
  simp-implicitDefEqProofs[hns]
  refine aT (λh=>?_) (λh=>?_)
  ·simp at h
   have hx:∃x:List Int,[[bz [0,0,0]],[bz [1,2,3]],[bz [255,16,7]]][i]?=some [bz x]/\x.length=3/\(rn n).take (i+1)=(rn n).take i++[x.take n]/\((rn n).take i).length=i:=by
    match i,h with
    |0,_=>exact⟨[0,0,0],rfl,rfl,rfl,rfl⟩
    |1,_=>exact⟨[1,2,3],rfl,rfl,rfl,rfl⟩
    |2,_=>exact⟨[255,16,7],rfl,rfl,rfl,rfl⟩
   obtain⟨x,hg,hx3,hT,hli⟩:=hx
   have hxl:bz x= .lst 1 (x.map λn=>[.int .i64 n]):=rfl
   have hmin:min n x.length=n:=Nat.min_eq_left (by omega)
   have hnx:n<=x.length:=by omega
   rw[hxl] at hg
   generalize (rn n).take i=out at hT hli⊢
   have hin:∀l,Tc l= .row 1 (l.map λx=>[.p (bz x)]):=λ_=>rfl
   simp-implicitDefEqProofs[hg,hnx,hmin,hin]
   refine⟨⟨by omega,by omega⟩,⟨by omega,by omega,by omega⟩,i+1,by omega,by omega,?_⟩
   have e4:List.take (i+1) ((rn n).map λx=>[AV.p (bz x)])=(out.map λx=>[AV.p (bz x)])++[[.p (bz (x.take n))]]:=by rw[←List.map_take,hT,List.map_append];rfl
   rw[e4,Zz (l:=List.map _ out) (by rw[ZU];omega)]
   have hpu:∀y∈out.map λx=>[AV.p (bz x)],aj 0 y:=λy hy=>by obtain⟨_,_,rfl⟩:=ZN.1 hy;simp
   refine Wk.trans (ts1:=ah 29 [(0,.p (.int .i64 n)),(3,.p (nsL triL)),(4,.sl 0 1 0 (i+1)),(5,.p (.int .i64 (i+1:Nat)))]) (h1:=[.row 1 ((out.map λx=>[AV.p (bz x)])++[[.sl 1 1 0 n]]),jb (x.take n)]) (ck [4,2] (by simp) (by simp) (by decide) (bN (λy hy=>?_) ?_ (az ?_ ?_ aU)) ?_) (cV 1 (by omega) (by simp) rfl (.rows (by simp) (λj e e1 h1 h2=>?_) (.nil _)) ?_)
   ·rcases ZB.1 hy with h|h
    ·exact aL (by simp) _ (hpu y h)
    ·rw[ZC.1 h];simp[below]
   ·show some _=some _
    rw[List.map_append,ZR (g:=id) λy hy=>dv _ y (hpu y hy)]
    simp[ren,bm]
   ·simp[jb,List.map_take]
    rfl
   ·exact λy hy=>by obtain⟨_,_,rfl⟩:=ZN.1 hy;simp
   ·simp[below,ren,hns,w1 (i:=i) (by omega)]
   ·rcases aaj j out.length with hj|hj
    ·rw[Zv (by simpa using hj)] at h1 h2
     rw[h1] at h2;cases h2
     obtain⟨_,_,rfl⟩:=ZN.1 (Zy h1)
     exact .keep (by simp) .nil
    ·rw[ZG (by simpa using hj)] at h1 h2
     rw[ZU] at h1 h2
     generalize j-out.length=q at h1 h2
     cases q with
     |succ q=>simp at h1
     |zero=>
      simp at h1 h2;subst h1;subst h2
      have hv:=mh (l:=x.take n) (id:=1) (h:=tail 1 [.row 1 ((out.map λx=>[AV.p (bz x)])++[[.sl 1 1 0 n]]),jb (x.take n)]) rfl
      rw[ZS,hmin] at hv
      exact .one hv .nil
   ·exact⟨.keep (by simp[below]) .nil,.keep (by simp[below,hns]) .nil,.keep (by simp[below]) .nil,.keep (by simp[below]) .nil,trivial⟩
  ·simp at h
   have hie:i=3:=by omega
   subst hie
   have:(rn n).take 3=rn n:=rfl
   rw[this]
   simp-implicitDefEqProofs[]
 refine key.freezeR (λt v h ⟨e,_⟩=>by cases e) λv h ⟨e1,e2⟩=>?_
 cases e1
 subst e2
 have:=gm (h:=[.row 1 ((rn n).map λx=>[AV.p (bz x)])]) (id:=0) (sz:=1) (n:=3) (ls:=(rn n).map λx=>[bz x]) (by simp) (by simp[rn,triL]) (λx hx=>by obtain⟨b,_,rfl⟩:=ZN.1 hx;rfl)
 exact .one this .nil
end
section
variable (G:am)
def trO(x:List Int)(n:Nat):AO:=jb (x.take n)
def trH(n:Nat):Nat->List AO
 |0=>[]
 |1=>[trO [0,0,0] n,.row 1 [[.sl 0 1 0 n]]]
 |2=>[trO [0,0,0] n,trO [1,2,3] n,.row 1 [[.sl 0 1 0 n],[.sl 1 1 0 n]]]
 |_=>[trO [0,0,0] n,trO [1,2,3] n,trO [255,16,7] n,.row 1 [[.sl 0 1 0 n],[.sl 1 1 0 n],[.sl 2 1 0 n]]]
def trS:Nat->AV
 |0=> .nils
 |i+1=> .sl (i+1) 1 0 (i+1)
theorem pI(x:List Int)(n m:Nat):okO m (trO x n):=ce (AA _)
theorem Uv(x:List Int)(n m:Nat):cF m (trO x n)=trO x n:=by
 simp only[trO,cF,jb,List.map_map];rfl
theorem zb(x:List Int)(n:Nat)(hn:0<n)(hnx:n<=x.length)(hb:x.length<=1000)(h:List AO):AC Tryz.prog G bP [.p (.lst 1 (List.take n (x.map λv=>[.int .i64 v])))] h λy h'=>y= .ret (.sl (h.length+1) 1 0 n)/\h'=h++[.dead,trO x n]:=by
 have hl:(List.take n (x.map λv=>[PV.int .i64 v])).length=n:=by rw[ZS,ZU];omega
 have:=Rq G (List.take n (x.map λv=>[.int .i64 v])) (λy hy=>by obtain⟨_,_,rfl⟩:=ZN.1 (aah hy);rfl) (by intro e;rw[e] at hl;simp at hl;omega) (by rw[hl];omega)
 rw[hl] at this
 have e:AO.row 1 ((List.take n (x.map λv=>[PV.int .i64 v])).map (·.map .p))=trO x n:=by
  rw[trO,jb,←List.map_take,List.map_map];rfl
 rw[e] at this
 refine(AC.lift this (by simp) rfl ?_).mono ?_
 ·simp[Jn,trO,jb,tZ,Aq]
  intro y hy
  obtain⟨_,_,rfl⟩:=ZN.1 (aah hy)
  rfl
 ·rintro y h' ⟨rfl,rfl⟩
  refine⟨?_,?_⟩
  ·rfl
  ·simp only[ZT,aaz,Uv];rfl
variable (hT:G sU=some pvTries)
include hT
theorem KS(n:Nat)(hn0:0<n)(hn:n<=3):AC Tryz.prog G gf [.p (.int .i64 n)] [] λx h=>x= .ret (.sl 3 1 0 3)/\h=trH n 3:=by
 unfold sU at hT
 refine AC.goK rC sh ?_
 simp-implicitDefEqProofs[jt,jm,hT,pvTries]
 refine aI (λi:Nat=>ah 18 [(0,.p (.int .i64 n)),(3,trS i),(6,.agg (pvTries.map .p)),(7,.p (.int .i64 i))]) (trH n) (λi=>i<=3) (λi=>3-i) 0 (by simp) ?_ ?_
 ·show Wk 0 _ _ _ []
  exact bM rfl (by simp[below,trS,pvTries])
 intro i hi
 have hnI:(n:Int)<=3:=by omega
 simp-implicitDefEqProofs[pvTries]
 refine aT (λh=>?_) (λh=>?_)
 ·simp at h
  have hi3:i=0\/i=1\/i=2:=by omega
  rcases hi3 with rfl|rfl|rfl
  ·simp-implicitDefEqProofs[]
   refine ja (ah 18 [(0,.p (.int .i64 n)),(3,.nils),(5,.eptr [.int .i64 0,.int .i64 0,.int .i64 0] 0),(6,.agg (pvTries.map .p)),(7,.p (.int .i64 0))]) [] ?_ ?_
   ·simp-implicitDefEqProofs[trH,trS]
    refine cV 0 (by omega) (by simp) rfl (.nil _) ?_
    exact⟨.keep (by simp[below]) .nil,.keep (by simp[below]) .nil,.ptr rfl rfl .nil,.keep (by simp[below,pvTries]) .nil,.keep (by simp[below]) .nil,trivial⟩
   have hcl:=zb G [0,0,0] n hn0 hn (by simp) []
   simp only[ZT,aaz] at hcl
   simp-implicitDefEqProofs[hn]
   refine hcl.mono ?_
   rintro r h2 ⟨rfl,rfl⟩
   simp-implicitDefEqProofs[aa]
   refine⟨1,by omega,by omega,?_⟩
   have w0:IntKind.i64.wrap 1=1:=by decide
   rw[w0]
   simp only[trH,trS]
   refine dJ [1,3] (by omega) (by simp) (bV (o:=trO [0,0,0] n) rfl (pI _ _ _) (bN (by simp[below]) (by simp[ren,bm]) aU)) ?_
   simp[below,ren]
   rfl
  ·simp-implicitDefEqProofs[]
   refine ja (ah 18 [(0,.p (.int .i64 n)),(3,.sl 1 1 0 1),(5,.eptr [.int .i64 1,.int .i64 2,.int .i64 3] 0),(6,.agg (pvTries.map .p)),(7,.p (.int .i64 1))]) [trO [0,0,0] n,.row 1 [[.sl 0 1 0 n]]] ?_ ?_
   ·simp-implicitDefEqProofs[trH,trS]
    refine cV 2 (by omega) (by simp) rfl (.same (pI _ _ _) (.same (by simp[okO,below]) (.nil _))) ?_
    exact⟨.keep (by simp[below]) .nil,.keep (by simp[below]) .nil,.ptr rfl rfl .nil,.keep (by simp[below,pvTries]) .nil,.keep (by simp[below]) .nil,trivial⟩
   have hcl:=zb G [1,2,3] n hn0 hn (by simp) [trO [0,0,0] n,.row 1 [[.sl 0 1 0 n]]]
   simp only[ZT,aaz] at hcl
   simp-implicitDefEqProofs[hn]
   refine hcl.mono ?_
   rintro r h2 ⟨rfl,rfl⟩
   simp-implicitDefEqProofs[aa]
   refine⟨2,by omega,by omega,?_⟩
   have w0:IntKind.i64.wrap 2=2:=by decide
   rw[w0]
   simp only[trH,trS]
   refine dJ [0,3,5] (by omega) (by simp) (bV (o:=trO [0,0,0] n) rfl (pI _ _ _) (bV (o:=trO [1,2,3] n) rfl (pI _ _ _) (bN (by simp[below]) (by simp[ren,bm]) aU))) ?_
   simp[below,ren]
   rfl
  ·simp-implicitDefEqProofs[]
   refine ja (ah 18 [(0,.p (.int .i64 n)),(3,.sl 2 1 0 2),(5,.eptr [.int .i64 255,.int .i64 16,.int .i64 7] 0),(6,.agg (pvTries.map .p)),(7,.p (.int .i64 2))]) [trO [0,0,0] n,trO [1,2,3] n,.row 1 [[.sl 0 1 0 n],[.sl 1 1 0 n]]] ?_ ?_
   ·simp-implicitDefEqProofs[trH,trS]
    refine cV 3 (by omega) (by simp) rfl (.same (pI _ _ _) (.same (pI _ _ _) (.same (by simp[okO,below]) (.nil _)))) ?_
    exact⟨.keep (by simp[below]) .nil,.keep (by simp[below]) .nil,.ptr rfl rfl .nil,.keep (by simp[below,pvTries]) .nil,.keep (by simp[below]) .nil,trivial⟩
   have hcl:=zb G [255,16,7] n hn0 hn (by simp) [trO [0,0,0] n,trO [1,2,3] n,.row 1 [[.sl 0 1 0 n],[.sl 1 1 0 n]]]
   simp only[ZT,aaz] at hcl
   simp-implicitDefEqProofs[hn]
   refine hcl.mono ?_
   rintro r h2 ⟨rfl,rfl⟩
   simp-implicitDefEqProofs[aa]
   refine⟨3,by omega,by omega,?_⟩
   have w0:IntKind.i64.wrap 3=3:=by decide
   rw[w0]
   simp only[trH,trS]
   refine dJ [0,1,4,6] (by omega) (by simp) (bV (o:=trO [0,0,0] n) rfl (pI _ _ _) (bV (o:=trO [1,2,3] n) rfl (pI _ _ _) (bV (o:=trO [255,16,7] n) rfl (pI _ _ _) (bN (by simp[below]) (by simp[ren,bm]) aU)))) ?_
   simp[below,ren]
   rfl
 ·simp at h
  have hie:i=3:=by omega
  subst hie
  simp-implicitDefEqProofs[trS]
def trZ(i:Nat):List AO:=if i=0 then[] else[.row 1 (List.replicate i [.p (.lst 1 [])])]
def GO(i:Nat):AV:=if i=0 then .nils else .sl 0 1 0 i
theorem KL:AC Tryz.prog G gf [.p (.int .i64 0)] [] λx h=>x= .ret (.sl 0 1 0 3)/\h=[.row 1 (List.replicate 3 [.p (.lst 1 [])])]:=by
 unfold sU at hT
 refine AC.goK rC sh ?_
 simp-implicitDefEqProofs[jt,jm,hT,pvTries]
 refine aI (λi:Nat=>ah 18 [(0,.p (.int .i64 0)),(3,GO i),(6,.agg (pvTries.map .p)),(7,.p (.int .i64 i))]) trZ (λi=>i<=3) (λi=>3-i) 0 (by simp) ?_ ?_
 ·show Wk 0 _ _ _ []
  exact bM rfl (by simp[below,GO,pvTries])
 intro i hi
 simp-implicitDefEqProofs[pvTries]
 refine aT (λh=>?_) (λh=>?_)
 ·simp at h
  have hi3:i=0\/i=1\/i=2:=by omega
  rcases hi3 with rfl|rfl|rfl
  ·simp-implicitDefEqProofs[]
   refine ja (ah 18 [(0,.p (.int .i64 0)),(3,.nils),(5,.eptr [.int .i64 0,.int .i64 0,.int .i64 0] 0),(6,.agg (pvTries.map .p)),(7,.p (.int .i64 0))]) [] ?_ ?_
   ·simp-implicitDefEqProofs[trZ,GO]
    refine cV 0 (by omega) (by simp) rfl (.nil _) ?_
    exact⟨.keep (by simp[below]) .nil,.keep (by simp[below]) .nil,.ptr rfl rfl .nil,.keep (by simp[below,pvTries]) .nil,.keep (by simp[below]) .nil,trivial⟩
   simp-implicitDefEqProofs[]
   refine(Cp G).use ?_
   simp-implicitDefEqProofs[]
   refine⟨1,by omega,by omega,?_⟩
   have w0:IntKind.i64.wrap 1=1:=by decide
   rw[w0]
   have e1:trZ 1=[.row 1 [[.p (.lst 1 [])]]]:=rfl
   have e2:GO 1= .sl 0 1 0 1:=rfl
   rw[e1,e2]
   refine dJ [1] (by omega) (by simp) (az rfl (by simp) aU) ?_
   simp[below,ren]
   rfl
  ·simp-implicitDefEqProofs[]
   refine ja (ah 18 [(0,.p (.int .i64 0)),(3,.sl 0 1 0 1),(5,.eptr [.int .i64 1,.int .i64 2,.int .i64 3] 0),(6,.agg (pvTries.map .p)),(7,.p (.int .i64 1))]) [.row 1 [[.p (.lst 1 [])]]] ?_ ?_
   ·simp-implicitDefEqProofs[trZ,GO]
    refine cV 1 (by omega) (by simp) rfl (.same (by simp[okO,below]) (.nil _)) ?_
    exact⟨.keep (by simp[below]) .nil,.keep (by simp[below]) .nil,.ptr rfl rfl .nil,.keep (by simp[below,pvTries]) .nil,.keep (by simp[below]) .nil,trivial⟩
   simp-implicitDefEqProofs[]
   refine(Cp G).use ?_
   simp-implicitDefEqProofs[]
   refine⟨2,by omega,by omega,?_⟩
   have w0:IntKind.i64.wrap 2=2:=by decide
   rw[w0]
   have e1:trZ 2=[.row 1 [[.p (.lst 1 [])],[.p (.lst 1 [])]]]:=rfl
   have e2:GO 2= .sl 0 1 0 2:=rfl
   rw[e1,e2]
   refine dJ [2] (by omega) (by simp) (az rfl (by simp) aU) ?_
   simp[below,ren]
   rfl
  ·simp-implicitDefEqProofs[]
   refine ja (ah 18 [(0,.p (.int .i64 0)),(3,.sl 0 1 0 2),(5,.eptr [.int .i64 255,.int .i64 16,.int .i64 7] 0),(6,.agg (pvTries.map .p)),(7,.p (.int .i64 2))]) [.row 1 [[.p (.lst 1 [])],[.p (.lst 1 [])]]] ?_ ?_
   ·simp-implicitDefEqProofs[trZ,GO]
    refine cV 1 (by omega) (by simp) rfl (.same (by simp[okO,below]) (.nil _)) ?_
    exact⟨.keep (by simp[below]) .nil,.keep (by simp[below]) .nil,.ptr rfl rfl .nil,.keep (by simp[below,pvTries]) .nil,.keep (by simp[below]) .nil,trivial⟩
   simp-implicitDefEqProofs[]
   refine(Cp G).use ?_
   simp-implicitDefEqProofs[]
   refine⟨3,by omega,by omega,?_⟩
   have w0:IntKind.i64.wrap 3=3:=by decide
   rw[w0]
   have e1:trZ 3=[.row 1 [[.p (.lst 1 [])],[.p (.lst 1 [])],[.p (.lst 1 [])]]]:=rfl
   have e2:GO 3= .sl 0 1 0 3:=rfl
   rw[e1,e2]
   refine dJ [2] (by omega) (by simp) (az rfl (by simp) aU) ?_
   simp[below,ren]
   rfl
 ·simp at h
  have hie:i=3:=by omega
  subst hie
  simp-implicitDefEqProofs[trZ,GO]
omit hT
theorem zW{h:List AO}{id:Nat}{l:List Int}(e:h[id]?=some (jb l)){n:Nat}(hn:n=l.length):OwnL true h [.sl id 1 0 n] [bz l] [id]:=by
 subst hn
 have hf:∀l:List Int,OwnL true h (l.map λw=>[AV.p (.int .i64 w)]).flatten (l.map λw=>[PV.int .i64 w]).flatten []:=by
  intro l
  induction l with
  |nil=>exact .nil
  |cons w r ih=>exact .p _ (λ_=>rfl) ih
 have:RowOwn true h id 1 (l.map λw=>[.p (.int .i64 w)]) (l.map λw=>[.int .i64 w]) []:=⟨e,by simp,by simp,by simp,hf l,by simp⟩
 exact this.tree (by simp)
include hT
theorem Nq(n:Nat)(hn:n<=3):AC Tryz.prog G gf [.p (.int .i64 n)] [] (MkW eC true [nsL (rn n)]):=by
 rcases Nat.eq_zero_or_pos n with rfl|h0
 ·refine(KL G hT).mono ?_
  rintro x h ⟨rfl,rfl⟩
  have hr:RowOwn true [AO.row 1 (List.replicate 3 [AV.p (.lst 1 [])])] 0 1 (List.replicate 3 [AV.p (.lst 1 [])]) (List.replicate 3 [PV.lst 1 []]) []:=⟨rfl,rfl,by simp,by simp,.p _ (λ_=>rfl) (.p _ (λ_=>rfl) (.p _ (λ_=>rfl) .nil)),by simp⟩
  exact⟨[.sl 0 1 0 3],_,rfl,hr.tree rfl,by simp⟩
 ·refine(KS G hT n h0 hn).mono ?_
  rintro x h ⟨rfl,rfl⟩
  have hl:∀x:List Int,x.length=3->n=(x.take n).length:=λx e=>by rw[ZS];omega
  have o1:OwnL true (trH n 3) [.sl 0 1 0 n] [bz ([0,0,0].take n)] [0]:=zW rfl (hl _ rfl)
  have o2:OwnL true (trH n 3) [.sl 1 1 0 n] [bz ([1,2,3].take n)] [1]:=zW rfl (hl _ rfl)
  have o3:OwnL true (trH n 3) [.sl 2 1 0 n] [bz ([255,16,7].take n)] [2]:=zW rfl (hl _ rfl)
  have hr:RowOwn true (trH n 3) 3 1 [[.sl 0 1 0 n],[.sl 1 1 0 n],[.sl 2 1 0 n]] [[bz ([0,0,0].take n)],[bz ([1,2,3].take n)],[bz ([255,16,7].take n)]] [0,1,2]:=⟨rfl,rfl,by simp,by simp,o1.app (o2.app o3),by simp⟩
  exact⟨[.sl 3 1 0 3],_,rfl,hr.tree rfl,by simp⟩
end
section
variable (G:am)
def tM(l:List Fd)(fuel:Nat)(s:S5):List PV:=[fdL l,.int .i64 fuel,.int .i64 ((fuel-s.left:Nat):Int),bz s.said]++s.cells.map λn=> .int .i64 n
theorem DK{hF:List AO}{m:Nat}{L:List (Nat × AV)}:∀{l1:List (Nat × AV)},(∀x∈l1,Aw.look L x.1=x.2/\below m x.2)->FzA hF m L l1
 |[],_=>trivial
 |x::r,h=>⟨by obtain⟨q1,q2⟩:=h x (by simp);rw[q1];exact .keep q2 .nil,DK λy hy=>h y (by simp[hy])⟩
theorem UN{l:List Fd}{fuel:Nat}{sv:AV}{sid:Nat}{s:S5}{h:List AO}{r2 r5:AO}{n:Nat}(H:MI 3 l fuel sv sid s h)(h2:h[2]?=some r2)(h4:h[4]?=some (.row 1 [[.ptr 3 20 0 0]]))(h5:h[5]?=some r5)(k2:okO h.length r2)(k5:okO h.length r5)(hs:sid=3\/7<=sid)
 {l1:List (Nat × AV)}(hl:∀x∈l1,below h.length x.2)(hl1:∀x∈l1,Aw.look l1 x.1=x.2):
 ∃h',(∀L,(∀x∈l1,Aw.look L x.1=x.2)->Wk 0 (ah n L) h (ah n l1) h')/\h'.length=h.length/\h'[2]?=some r2/\h'[4]?=some (.row 1 [[.eptr (tM l fuel s) 0]])/\h'[5]?=some r5:=by
 have hl3:=H.lt
 have hl5:=(Zt.1 h5).1
 have hm:=H.men
 obtain⟨X,hX⟩:∃X:Nat->AO->AO,X=λi o=>if i=sid/\sid≠3 then o else .dead:=⟨_,rfl⟩
 obtain⟨Y,hY⟩:∃Y:Nat->AO->AO,Y=λi o=>if i=3 then .row 20 [(tM l fuel s).map .p] else if i=2\/i=4\/i=5 then o else .dead:=⟨_,rfl⟩
 have hF1:View (h.mapIdx X) sv (bz s.said):=by
  have hsd:=H.said
  have hne:=H.neS
  generalize s.said=xs at hsd
  cases hsd with
  |nn _ _=>exact .nils _
  |ss _ _ q=>
   have hn3:sid≠3:=λe=>hne (by simp) e.symm
   exact mh (by rw[List.getElem?_mapIdx,q,hX];simp[hn3,fY,jb])
 have hcs:∀xs:List Int,Fzs (h.mapIdx X) h.length (xs.map λn=> .p (.int .i64 n)) (xs.map λn=> .p (.int .i64 n)):=λxs=>by
  induction xs with
  |nil=>exact .nil
  |cons x r ih=>exact .keep (by simp[below]) ih
 have eX:∀i o,X i o=if i=sid/\sid≠3 then o else .dead:=λ_ _=>by rw[hX]
 have eY:∀i o,Y i o=if i=3 then .row 20 [(tM l fuel s).map .p] else if i=2\/i=4\/i=5 then o else .dead:=λ_ _=>by rw[hY]
 have t1:Thn (h.mapIdx X) h.length h (h.mapIdx X) (h.mapIdx Y):=GE h X Y λi o hi=>by
  by_cases i3:i=3
  ·subst i3
   rw[hm] at hi
   cases hi
   refine .inr (.inr (.inr ⟨by rw[eX,if_neg (by omega)],20,_,(tM l fuel s).map .p,rfl,by rw[eY,if_pos rfl],?_⟩))
   simp only[tM,List.map_append,ZT,aaz,List.map_map]
   exact .keep (by simp[below]) (.keep (by simp[below]) (.keep (by simp[below]) (.one hF1 (hcs s.cells))))
  by_cases i2:i=2\/i=4\/i=5
  ·refine .inl ⟨by rw[eX,if_neg (by omega)],by rw[eY,if_neg i3,if_pos i2],?_⟩
   rcases i2 with rfl|rfl|rfl
   ·rw[h2] at hi;cases hi;exact k2
   ·rw[h4] at hi;cases hi;simp[okO,below,aj];omega
   ·rw[h5] at hi;cases hi;exact k5
  by_cases is:i=sid/\sid≠3
  ·exact .inr (.inr (.inl ⟨by rw[eX,if_pos is],by rw[eY,if_neg i3,if_neg i2]⟩))
  ·exact .inr (.inl ⟨by rw[eX,if_neg is],by rw[eY,if_neg i3,if_neg i2]⟩)
 have w1:∀L,(∀x∈l1,Aw.look L x.1=x.2)->Wk 0 (ah n L) h (ah n l1) (h.mapIdx Y):=λL hL=>rH (Nat.zero_le _) t1 (DK λx hx=>⟨hL x hx,hl x hx⟩)
 have g:∀i o,h[i]?=some o->(h.mapIdx Y)[i]?=some (Y i o):=λi o q=>by rw[List.getElem?_mapIdx,q];rfl
 have hlen:(h.mapIdx Y).length=h.length:=List.length_mapIdx
 generalize h.mapIdx Y=h1 at w1 g hlen
 have g3:h1[3]?=some (.row 20 [(tM l fuel s).map .p]):=by rw[g 3 _ hm,eY,if_pos rfl]
 have g2:h1[2]?=some r2:=by rw[g 2 _ h2,eY,if_neg (by omega),if_pos (by omega)]
 have g4:h1[4]?=some (.row 1 [[.ptr 3 20 0 0]]):=by rw[g 4 _ h4,eY,if_neg (by omega),if_pos (by omega)]
 have g5:h1[5]?=some r5:=by rw[g 5 _ h5,eY,if_neg (by omega),if_pos (by omega)]
 obtain⟨X2,hX2⟩:∃X:Nat->AO->AO,X=λi o=>if i=3 then o else .dead:=⟨_,rfl⟩
 obtain⟨Y2,hY2⟩:∃Y:Nat->AO->AO,Y=λi o=>if i=4 then .row 1 [[.eptr (tM l fuel s) 0]] else if i=2\/i=5 then o else .dead:=⟨_,rfl⟩
 have eX2:∀i o,X2 i o=if i=3 then o else .dead:=λ_ _=>by rw[hX2]
 have eY2:∀i o,Y2 i o=if i=4 then .row 1 [[.eptr (tM l fuel s) 0]] else if i=2\/i=5 then o else .dead:=λ_ _=>by rw[hY2]
 have f3:(h1.mapIdx X2)[3]?=some (.row 20 [(tM l fuel s).map .p]):=by rw[List.getElem?_mapIdx,g3];simp[eX2]
 have t2:Thn (h1.mapIdx X2) h1.length h1 (h1.mapIdx X2) (h1.mapIdx Y2):=GE h1 X2 Y2 λi o hi=>by
  by_cases i4:i=4
  ·subst i4
   rw[g4] at hi
   cases hi
   exact .inr (.inr (.inr ⟨by rw[eX2,if_neg (by omega)],1,_,_,rfl,by rw[eY2,if_pos rfl],.ptr f3 rfl .nil⟩))
  by_cases i2:i=2\/i=5
  ·refine .inl ⟨by rw[eX2,if_neg (by omega)],by rw[eY2,if_neg i4,if_pos i2],?_⟩
   rw[hlen]
   rcases i2 with rfl|rfl
   ·rw[g2] at hi;cases hi;exact k2
   ·rw[g5] at hi;cases hi;exact k5
  by_cases i3:i=3
  ·exact .inr (.inr (.inl ⟨by rw[eX2,if_pos i3],by rw[eY2,if_neg i4,if_neg i2]⟩))
  ·exact .inr (.inl ⟨by rw[eX2,if_neg i3],by rw[eY2,if_neg i4,if_neg i2]⟩)
 have w2:Wk 0 (ah n l1) h1 (ah n l1) (h1.mapIdx Y2):=rH (Nat.zero_le _) t2 (DK λx hx=>⟨hl1 x hx,by rw[hlen];exact hl x hx⟩)
 refine⟨_,λL hL=>(w1 L hL).trans w2,by rw[List.length_mapIdx,hlen],?_,?_,?_⟩
 ·rw[List.getElem?_mapIdx,g2];simp[eY2]
 ·rw[List.getElem?_mapIdx,g4];simp[eY2]
 ·rw[List.getElem?_mapIdx,g5];simp[eY2]
theorem TE(l:List Fd)(us:List Int)(fuel:Nat):rW l us fuel=[.row 1 [[.p (fdL l)]],.row 1 [[.p (bz us)]],.row 4 [[.nils,.p (.int .i64 0),.p (.int .i64 0),.nils]],.row 20 [[.p (fdL l),.p (.int .i64 fuel),.p (.int .i64 0),.nils,.p (.int .i64 0),.p (.int .i64 0),.p (.int .i64 0),.p (.int .i64 0),.p (.int .i64 0),.p (.int .i64 0),.p (.int .i64 0),.p (.int .i64 0),.p (.int .i64 0),.p (.int .i64 0),.p (.int .i64 0),.p (.int .i64 0),.p (.int .i64 0),.p (.int .i64 0),.p (.int .i64 0),.p (.int .i64 0)]],.row 1 [[.ptr 3 20 0 0]],.row 4 [[.nils,.p (.int .i64 0),.p (.int .i64 0),.nils]]]:=by
 simp[rW,lb,s0,List.replicate]
theorem zn:AK.whole jh=FK.ak jK:=rfl
theorem GQ{l:List Fd}{us:List Int}{fuel:Nat}{s':S5}{r:O5 Int}(hc:aD l=0)(hz:aH l<=1073741824)(hl:0<l.length)(hu:∀n∈us,V5 n)(hfu:fuel<=4000)(hE:Ev l (.cal (l.length-1) us (s0 fuel) s' r)):
 VF Tryz.prog G fS [.agg [.p (fdL l)],.p (bz us),.p (.int .i64 fuel)] (.tup [.agg ((Nf s' r).map .p),.p (.int .i64 ((fuel-s'.left:Nat):Int))]):=by
 have key:AC Tryz.prog G fS [.agg [.p (fdL l)],.p (bz us),.p (.int .i64 fuel)] [] λx h=>∃sv cid,x= .ret (.tup [.agg [sv,.p (.int .i64 (GX r)),.p (.int .i64 (Mq r)),.sl cid 1 0 16],.p (.int .i64 ((fuel-s'.left:Nat):Int))])/\View h sv (bz s'.said)/\h[cid]?=some (jb s'.cells):=by
  refine AC.goK zf zn ?_
  simp-implicitDefEqProofs[jh,jK]
  rw[←TE]
  refine rh (λ_:List AO=>ah 33 [(6,.ptr 2 4 0 0),(7,.p (.int .i64 0)),(8,.ptr 4 1 0 0),(9,.ptr 5 4 0 0)]) (λh=>h)
   (λh=>s'.cells.length=16/\h[2]?=some (.row 4 [[.nils,.p (.int .i64 0),.p (.int .i64 0),.nils]])/\h[4]?=some (.row 1 [[.eptr (tM l fuel s') 0]])/\h[5]?=some (.row 4 [[.nils,.p (.int .i64 (GX r)),.p (.int .i64 (Mq r)),.nils]])) ?_ ?_
  ·simp-implicitDefEqProofs[]
   refine(Oo G eG [.ptr 4 1 0 0,.ptr 0 1 0 0,.ptr 1 1 0 0,.ptr 5 4 0 0] (rW l us fuel) (λx h'=>∃h2 sv sid,x= .ret (.p (.int .i64 (GX r)))/\MI 3 l fuel sv sid s' h'/\(sid=3\/7<=sid)/\h'[2]?=some (.row 4 [[.nils,.p (.int .i64 0),.p (.int .i64 0),.nils]])/\h'[4]?=some (.row 1 [[.ptr 3 20 0 0]])/\h'[5]?=some (.row 4 [[.nils,.p (.int .i64 0),.p (.int .i64 (Mq r)),.nils]])/\h2=h') ?_).mono ?_
   ·refine(UC G hc hz hl hu hfu hE).mono ?_
    rintro x h' ⟨sv,sid,h2,q1,q2,q3,q4⟩
    have e6:h2[6]?=some (.row 1 [[.p (.int .i64 0)]]):=(q2.2 6 (by simp[rW]) (by simp)).trans rfl
    have e2:h2[2]?=some (.row 4 [[.nils,.p (.int .i64 0),.p (.int .i64 0),.nils]]):=(q2.2 2 (by simp[rW]) (by simp)).trans rfl
    have e4:h2[4]?=some (.row 1 [[.ptr 3 20 0 0]]):=(q2.2 4 (by simp[rW]) (by simp)).trans rfl
    have e5:h2[5]?=some (.row 4 [[.nils,.p (.int .i64 0),.p (.int .i64 0),.nils]]):=(q2.2 5 (by simp[rW]) (by simp)).trans rfl
    have hl6:=(Zt.1 e6).1
    have hlen:(rW l us fuel).length=6:=by simp[rW]
    rw[hlen]
    cases r with
    |ok n=>
     obtain⟨rfl,rfl⟩:=q4
     refine⟨0,.inl ⟨rfl,rfl⟩,by rw[Zx (by omega)];exact e6,_,sv,sid,rfl,q1.frame (by simp) (by rw[Zx (by omega),Zx (by omega)]) (by rw[Zx (by omega),Zx (by omega)]),q3,?_,?_,?_,rfl⟩
     ·rw[Zx (by omega),Zx (by omega)];exact e2
     ·rw[Zx (by omega),Zx (by omega)];exact e4
     ·rw[Zx (by omega),ZJ (by omega)];rfl
    |st c=>
     obtain⟨rfl,rfl⟩:=q4
     refine⟨c,.inr rfl,e6,_,sv,sid,rfl,q1.frame (by simp) (by rw[Zx (by omega)]) (by rw[Zx (by omega)]),q3,?_,?_,?_,rfl⟩
     ·rw[Zx (by omega)];exact e2
     ·rw[Zx (by omega)];exact e4
     ·rw[Zx (by omega)];exact e5
   ·rintro z h' ⟨h2,sv,sid,rfl,q1,q2,q3,q4,q5,rfl⟩
    simp-implicitDefEqProofs[aa,q5]
    have hl5:=(Zt.1 q5).1
    have hH:=q1.frame (h':=h2.set 5 (.row 4 [[.nils,.p (.int .i64 (GX r)),.p (.int .i64 (Mq r)),.nils]])) (by simp) (by rw[Zx (by omega)]) (by rw[Zx (by omega)])
    obtain⟨h3,w1,w2,w3,w4,w5⟩:=UN (n:=33) (l1:=[(6,.ptr 2 4 0 0),(7,.p (.int .i64 0)),(8,.ptr 4 1 0 0),(9,.ptr 5 4 0 0)]) hH ((Zx (by omega)).trans q3) ((Zx (by omega)).trans q4) (ZJ hl5) (by simp[okO,below,aj]) (by simp[okO,below,aj]) q2
     (by simp[below];omega) (by simp)
    exact⟨h3,⟨q1.len,w3,w4,w5⟩,w1 _ (by simp)⟩
  ·rintro h ⟨qc,q2,q4,q5⟩
   have hch:(cY 1 (tM l fuel s') 4 16)=s'.cells.map λn=>[.int .i64 n]:=by
    unfold tM
    generalize s'.cells=cs at qc
    match cs,qc with
    |[c0,c1,c2,c3,c4,c5,c6,c7,c8,c9,c10,c11,c12,c13,c14,c15],_=>rfl
   have hml:(tM l fuel s').length=20:=by simp[tM,qc]
   have hm2:∀q,(tM l fuel s')[2]'q= .int .i64 ((fuel-s'.left:Nat):Int):=λ_=>rfl
   have hm3:∀q,(tM l fuel s')[3]'q=bz s'.said:=λ_=>rfl
   have hcl:=zb G s'.cells 16 (by omega) (by omega) (by omega) h
   rw[trO,Zz (l:=s'.cells) (by omega)] at hcl
   have hl5:=(Zt.1 q5).1
   have a5:∀os,(h++os)[5]?=_:=λos=>(Zv hl5).trans q5
   have a4:∀os,(h++os)[4]?=_:=λos=>(Zv (by omega)).trans q4
   have a2:∀os,(h++os)[2]?=_:=λos=>(Zv (by omega)).trans q2
   simp-implicitDefEqProofs[q2,q4,q5, ↓hch,hml,hm2,hm3]
   refine hcl.mono ?_
   rintro z h' ⟨rfl,rfl⟩
   have s55:∀os z,((h++os).set 5 z)[5]?=some z:=λos z=>ZJ (by simp;omega)
   have s54:∀os z,((h++os).set 5 z)[4]?=_:=λos z=>(Zx (by omega)).trans (a4 os)
   have s52:∀os z,((h++os).set 5 z)[2]?=_:=λos z=>(Zx (by omega)).trans (a2 os)
   have s22:∀os z w,(((h++os).set 5 z).set 2 w)[2]?=some w:=λos z w=>ZJ (by simp;omega)
   have s24:∀os z w,(((h++os).set 5 z).set 2 w)[4]?=_:=λos z w=>(Zx (by omega)).trans (s54 os z)
   simp-implicitDefEqProofs[aa, ↓a5, ↓a4, ↓a2, ↓s55, ↓s54, ↓s52, ↓s22, ↓s24,hm2,hm3,hml]
   refine⟨_,_,⟨rfl,rfl⟩,.p _,?_⟩
   rw[Zx (by omega),Zx (by omega),ZG (by omega)]
   simp
 refine key.freezeR (λt v h e=>by obtain⟨_,_,e,_⟩:=e;cases e) λv h e=>?_
 obtain⟨sv,cid,e,h1,h2⟩:=e
 cases e
 have v2:=mh (l:=s'.cells) h2
 have hlc:s'.cells.length=16:=(aV hE ⟨tk fuel,hu⟩).1.len
 rw[hlc] at v2
 exact .tup (.agg (.one h1 (.keep (by simp) (.keep (by simp) (.one v2 .nil)))) (.keep (by simp) .nil)) .nil
end
section
variable (G:am)
theorem Ho(n:Int):VF Tryz.prog G dw [.p (.int .i64 n)] (.p (.bool (!inR n 0 255))):=by
 refine AC.go zZ ?_
 simp-implicitDefEqProofs[oI]
 refine(Iy G n).use ?_
 simp-implicitDefEqProofs[]
def AQ(us:List Int):Option Nat:=us.findIdx? λn=> !inR n 0 255
theorem Kz(us:List Int)(hl:us.length<=1000000000000):VF Tryz.prog G fq [.p (bz us),.fn (.func dw) []] (.p (.int .i64 (ixI (AQ us)))):=by
 have hnL:bz us= .lst 1 (us.map λn=>[.int .i64 n]):=rfl
 refine AC.go pH ?_
 simp-implicitDefEqProofs[jI,hnL]
 refine aI (λi:Nat=>ah 19 [(8,.p (.int .i64 i)),(7,.p (.int .i64 us.length)),(0,.p (.lst 1 (us.map λn=>[.int .i64 n]))),(1,.fn (.func dw) [])]) (λ_=>[]) (λi=>i<=us.length/\∀n∈us.take i,inR n 0 255=true) (λi=>us.length-i) 0 (by simp) ?_ ?_
 ·exact bM rfl (by simp[below])
 intro i ⟨hi,hn⟩
 have hwi:=w1 (i:=i) (by omega)
 by_cases h1:i<us.length
 ·have hg:us[i]?=some us[i]:=Zu h1
  simp-implicitDefEqProofs[h1,hg]
  refine(Ho G us[i]).use ?_
  cases hb:inR us[i] 0 255 with
  |false=>
   have hf:AQ us=some i:=by
    rw[AQ,ZP]
    exact⟨h1,by simp[hb],λj hj=>by have:=hn us[j] (List.mem_take_iff_getElem.2 ⟨j,by omega,rfl⟩);simp[this]⟩
   simp-implicitDefEqProofs[hf,ixI]
  |true=>
   simp-implicitDefEqProofs[hwi]
   refine⟨i+1,⟨by omega,λp hp=>?_⟩,by omega,bM rfl (by simp[below])⟩
   rw[al h1] at hp
   rcases ZB.1 hp with hp|hp
   ·exact hn p hp
   ·rw[ZC.1 hp];exact hb
 ·have hie:i=us.length:=by omega
  subst hie
  rw[aad] at hn
  have hf:AQ us=none:=by
   rw[AQ,aaf]
   intro x hx
   simp[hn x hx]
  simp-implicitDefEqProofs[hf,ixI]
theorem Rs(us:List Int)(hl:us.length<=1000000000000):VF Tryz.prog G dR [.p (bz us),.fn (.func dw) []] (.p (.bool (!us.all λv=>inR v 0 255))):=by
 refine AC.go no ?_
 simp-implicitDefEqProofs[gG]
 refine(Kz G us hl).use ?_
 simp-implicitDefEqProofs[]
 cases hb:AQ us with
 |none=>
  have:(us.all λv=>inR v 0 255)=true:=by
   rw[AQ,aaf] at hb
   rw[ZA]
   intro x hx
   simpa using hb x hx
  rw[this];simp[ixI]
 |some i=>
  have:(us.all λv=>inR v 0 255)=false:=by
   rw[AQ,ZP] at hb
   obtain⟨h1,h2,_⟩:=hb
   rw[List.all_eq_false]
   exact⟨us[i],ZD h1,by simpa using h2⟩
  rw[this];simp[ixI]
def Am(us:List Int)(n:Nat):Bool:=decide (us.length=n)&&us.all λv=>inR v 0 255
theorem NM(us:List Int)(n:Nat)(hl:us.length<=1000000000000):VF Tryz.prog G mH [.p (bz us),.p (.int .i64 n)] (.p (.bool (Am us n))):=by
 have hnL:bz us= .lst 1 (us.map λn=>[.int .i64 n]):=rfl
 refine AC.go DN ?_
 by_cases h:us.length=n
 ·have h':(us.length:Int)=(n:Int):=by omega
  simp-implicitDefEqProofs[mR,hnL,h']
  rw[←hnL]
  refine(Rs G us hl).use ?_
  simp-implicitDefEqProofs[Am,h]
 ·have h':¬(us.length:Int)=(n:Int):=by omega
  simp-implicitDefEqProofs[mR,hnL,h',Am,h]
def lP(l:List Fd)(us:List Int):Bool:=decide (aD l=0)&&(match l[l.length-1]? with|some f=>Am us f.params.length|none=>false)
variable (hK:G cR=some cC) (hS:G bn=some [.tbl opK opV])
include hK hS
theorem QV(l:List Fd)(us:List Int)(hz:aH l<=1073741824)(hl:us.length<=1000000000000):VF Tryz.prog G ow [.agg [.p (fdL l)],.p (bz us)] (.p (.bool (lP l us))):=by
 have hfl:fdL l= .lst 3 (l.map Fd.cs):=rfl
 have hll:l.length<=aH l:=pm l
 refine AC.go EH ?_
 simp-implicitDefEqProofs[ua]
 refine(FV G hK hS l hz).use ?_
 by_cases hc:aD l=0
 ·have h0:0<l.length:=by have:=(kw hc).1;cases l<;>simp_all
  have hn1:IntKind.i64.wrap ((l.length:Int)-1)=((l.length-1:Nat):Int):=by rw[ae (by omega) (by omega)];omega
  have hg:l[l.length-1]?=some l[l.length-1]:=Zu (by omega)
  generalize l[l.length-1]=f at hg
  have hfc:f.cs=[.str f.name,au f.params,smL f.body]:=rfl
  have hpL:au f.params= .lst 1 (f.params.map λw=>[.str w]):=rfl
  simp-implicitDefEqProofs[hc,hfl,hn1,hg,hfc,hpL]
  refine(NM G us f.params.length hl).use ?_
  simp-implicitDefEqProofs[lP,hc,hg]
 ·simp-implicitDefEqProofs[hc,lP]
end
section
variable (G:am)
variable (hK:G cR=some cC) (hS:G bn=some [.tbl opK opV])
include hK hS
theorem Ej{l:List Fd}{us:List Int}{fuel:Nat}{s':S5}{r:O5 Int}(hz:aH l<=1073741824)(hl:us.length<=1000000000000)(ho:lP l us=true)(hc:aD l=0)(h0:0<l.length)(hu:∀n∈us,V5 n)(hfu:fuel<=4000)(hE:Ev l (.cal (l.length-1) us (s0 fuel) s' r)):
 VF Tryz.prog G ee [.agg [.p (fdL l)],.p (bz us),.p (.int .i64 fuel)] (.tup [.agg ((Nf s' r).map .p),.p (.bool true)]):=by
 have hf:inR (fuel:Int) 0 4000=true:=by simp[inR];omega
 refine AC.go yX ?_
 simp-implicitDefEqProofs[nK]
 refine(QV G hK hS l us hz hl).use ?_
 simp-implicitDefEqProofs[ho]
 refine(ph G fuel 0 4000).use ?_
 simp-implicitDefEqProofs[hf]
 refine(GQ G hc hz h0 hu hfu hE).use ?_
 simp-implicitDefEqProofs[Nf]
end
section
theorem FM{l:List Fd}(h:aD l=0):∃f,l[l.length-1]?=some f/\f.params.length<=3/\1<=l.length/\Bu l=rn f.params.length:=by
 have hp:=((sY l).1 h).1
 obtain⟨⟨h1,_⟩,h2,_⟩:=(dC l).1 hp
 have hn:l.length-1<l.length:=by omega
 have hg:=Zu hn
 refine⟨l[l.length-1],hg,?_,h1,?_⟩
 ·have:=h2 _ (ZD hn)
  simp only[iZ,ZE,decide_eq_true_eq] at this
  exact this.1.2
 ·rw[Bu,if_pos h,hg]
theorem LA{l:List Fd}(h:¬aD l=0):Bu l=[]:=if_neg h
variable (G:am)
theorem TO(l:List Fd)(hz:aH l<=1073741824):VF Tryz.prog G ku [.agg [.p (fdL l)]] (.p (nsL (Bu l))):=by
 have key:AC Tryz.prog G ku [.agg [.p (fdL l)]] [] λx h=>∃v,x= .ret v/\View h v (nsL (Bu l)):=by
  refine AC.go An ?_
  have hll:=dL l
  have hfl:fdL l= .lst 3 (l.map Fd.cs):=rfl
  simp-implicitDefEqProofs[pu]
  refine(HO G l hz).use ?_
  by_cases h0:aD l=0
  case neg=>
   rw[LA h0]
   simp-implicitDefEqProofs[h0]
   exact View.sl _ 1 0 [] [] rfl (by simp) (by simp) (λi j e q e' a h=>by simp at h)
  obtain⟨f,hg,hf3,hl1,hi⟩:=FM h0
  have hw:IntKind.i64.wrap ((l.length:Int)-1)=((l.length-1:Nat):Int):=by rw[ae (by omega) (by omega)];omega
  have hcs:=f.cs_eq'
  rw[hi]
  have hsl:∀l,au l= .lst 1 (l.map λw=>[.str w]):=λ_=>rfl
  simp-implicitDefEqProofs[h0,hfl,hw,hg,hcs,hsl]
  refine(KI G f.params.length hf3).use ?_
  simp-implicitDefEqProofs[]
  exact .p _
 exact key.freezeR (λt v h ⟨_,e,_⟩=>by cases e) λv h ⟨u,e1,e2⟩=>by cases e1;exact .one e2 .nil
variable (hT:G sU=some pvTries) (hK:G cR=some cC) (hS:G bn=some [.tbl opK opV])
include hT hK hS
theorem HK(l:List Fd)(hz:aH l<=1073741824):AC Tryz.prog G gy [.agg [.p (fdL l)]] [] (MkW eC true [nsL (Bu l)]):=by
 refine AC.go zO ?_
 have hll:=dL l
 have hfl:fdL l= .lst 3 (l.map Fd.cs):=rfl
 simp-implicitDefEqProofs[py]
 refine(FV G hK hS l hz).use ?_
 by_cases h0:aD l=0
 case neg=>
  rw[LA h0]
  simp-implicitDefEqProofs[h0]
  exact⟨[.nils],[],rfl,.nils 1 .nil,List.nodup_nil⟩
 obtain⟨f,hg,hf3,hl1,hi⟩:=FM h0
 have hw:IntKind.i64.wrap ((l.length:Int)-1)=((l.length-1:Nat):Int):=by rw[ae (by omega) (by omega)];omega
 have hcs:=f.cs_eq'
 rw[hi]
 have hsl:∀l,au l= .lst 1 (l.map λw=>[.str w]):=λ_=>rfl
 have hA:=λh:List AO=>AC.mkLift nW (Nq G hT f.params.length hf3) (h:=h) (by simp)
 simp-implicitDefEqProofs[h0,hfl,hw,hg,hcs,hsl]
 refine(hA _).mono ?_
 rintro x h2 ⟨vs,I,os,rfl,rfl,ho,nd,hf⟩
 obtain⟨v,rfl⟩:=fh ho
 simp-implicitDefEqProofs[aa,eC]
 exact⟨[v],I,rfl,ho,nd⟩
theorem It(l:List Fd)(hz:aH l<=1073741824):VF Tryz.prog G gy [.agg [.p (fdL l)]] (.p (nsL (Bu l))):=
 AC.mkFreeze nW (HK G hT hK hS l hz)
end
section
variable (G:am)
variable (hK:G cR=some cC) (hS:G bn=some [.tbl opK opV])
theorem sZ{l:List Fd}{us:List Int}(h:lP l us=true):aD l=0/\0<l.length/\(∃f,l[l.length-1]?=some f/\us.length=f.params.length)/\∀n∈us,V5 n:=by
 simp only[lP,ZE,decide_eq_true_eq] at h
 obtain⟨h1,h2⟩:=h
 refine⟨h1,by have:=(kw h1).1;cases l<;>simp_all,?_⟩
 split at h2
 ·rename_i f hf
  simp only[Am,ZE,decide_eq_true_eq,ZA] at h2
  exact⟨⟨f,hf,h2.1⟩,λn hn=>by have:=h2.2 n hn;simpa[inR,V5] using this⟩
 ·cases h2
include hK hS
end
section
theorem Tb{l:List Fd}{K fuel:Nat}{us:List Int}{s':S5}{r:O5 Int}(h:Ev l (.cal K us (s0 fuel) s' r)):s'.said.length<=fuel:=by
 have h1:M5 s'<=M5 (s0 fuel)/\s'.left<=(s0 fuel).left:=vt h
 have h2:M5 (s0 fuel)=fuel:=by simp[M5,s0]
 have h3:=h1.1
 rw[h2] at h3
 simp only[M5] at h3
 omega
theorem RP{l:List Fd}{K fuel:Nat}{us:List Int}{s':S5}{r:O5 Int}(h:Ev l (.cal K us (s0 fuel) s' r)):s'.left<=fuel:=(show M5 s'<=M5 (s0 fuel)/\s'.left<=(s0 fuel).left from vt h).2
theorem Jp{l:List Fd}{us:List Int}{f:Fd}(hc:aD l=0)(hf:l[l.length-1]?=some f)(hl:us.length=f.params.length)(hv:∀n∈us,V5 n):lP l us=true:=by
 simp only[lP,hc,hf,Am,hl,decide_true,Bool.true_and,ZA]
 intro n hn
 have:=hv n hn
 simp only[inR,ZE,decide_eq_true_eq]
 exact this
theorem Nr{l:List Fd}{us:List Int}{g:Fd->Fd}(hg:∀f,(g f).params.length=f.params.length)(hc:aD (l.map g)=0)(ho:lP l us=true):lP (l.map g) us=true:=by
 obtain⟨_,_,⟨f,hf1,hf2⟩,hv⟩:=sZ ho
 exact Jp hc (f:=g f) (by rw[ZU,ZK,hf1];rfl) (by rw[hg];exact hf2) hv
variable (G:am)
theorem IV(xs:List Int)(hb:xs.length<=1048576):VF Tryz.prog G fm [.p (bz xs),.p (bz xs)] (.p (.bool true)):=by
 have hsl:∀l,bz l= .lst 1 (l.map λw=>[.int .i64 w]):=λ_=>rfl
 refine AC.go uW ?_
 simp-implicitDefEqProofs[mJ,hsl]
 refine aI (λi:Nat=>ah 26 [(0,.p (bz xs)),(1,.p (bz xs)),(11,.p (bz xs)),(12,.p (.int .i64 xs.length)),(13,.p (.int .i64 i))]) (λ_=>[]) (λi=>i<=xs.length) (λi=>xs.length-i) 0 (by simp) ?_ ?_
 ·exact bM rfl (by simp[below,bz])
 intro i hi
 simp-implicitDefEqProofs[hsl]
 refine aT (λh1=>?_) (λh1=>?_)
 ·simp at h1
  have hg:xs[i]?=some xs[i]:=Zu h1
  generalize xs[i]=x at hg
  simp-implicitDefEqProofs[hg]
  refine⟨i+1,by omega,by omega,bM rfl ?_⟩
  simp[below,bz,w1 (i:=i) (by omega)]
 ·simp at h1
  simp-implicitDefEqProofs[]
theorem Sw(xs ys:List Int)(e v:Int)(hx:xs.length<=1048576)(hy:ys.length<=1048576):VF Tryz.prog G iI [.agg [.p (bz xs),.p (.int .i64 e),.p (.int .i64 v),.p (bz ys)],.agg [.p (bz xs),.p (.int .i64 e),.p (.int .i64 v),.p (bz ys)]] (.p (.bool true)):=by
 refine AC.go uT ?_
 simp-implicitDefEqProofs[mZ]
 refine(IV G xs hx).use ?_
 simp-implicitDefEqProofs[]
 refine(IV G ys hy).use ?_
 simp-implicitDefEqProofs[]
variable (hK:G cR=some cC) (hS:G bn=some [.tbl opK opV])
include hK hS
theorem LO(l:List Fd)(hz:aH l<=1073741824):VF Tryz.prog G gu [.agg [.p (fdL l)]] (.p (.int .i64 (if bc l=true then(lZ l:Int) else-1))):=by
 refine AC.go As ?_
 simp-implicitDefEqProofs[oM]
 refine(ru G hK hS l hz).use ?_
 cases h:bc l with
 |false=>simp-implicitDefEqProofs[]
 |true=>
  simp-implicitDefEqProofs[]
  refine(Fc G l hz).use ?_
  simp-implicitDefEqProofs[]
end
section
variable (G:am)
theorem PC{ρ:List Nat}:∀{args:List AV},aj 0 args->TW ρ args args
 |[],_=>trivial
 |v::r,h=>⟨.inr ⟨(aL (Nat.zero_le _) [v] ⟨h.1,trivial⟩).1,by have:=dv ρ [v] ⟨h.1,trivial⟩;simpa[bm] using this⟩,PC h.2⟩
theorem Xl{f:FuncId}{args:List AV}{b:List Int}{p:Nat}{Q:AV->Nat->Prop}(H:AC Tryz.prog G f (.ptr 0 2 0 0::args) [rdO b p] λx h=>∃v q,x= .ret v/\h=[rdO b q]/\Q v q)(hq:∀v q,Q v q->below 0 v){h:List AO}{k:Nat}(hk:h[k]?=some (rdO b p))(ha:aj 0 args):
 AC Tryz.prog G f (.ptr k 2 0 0::args) h λx h'=>∃v q,x= .ret v/\h'=h.set k (rdO b q)/\Q v q:=by
 refine(H.frame (h:=h) (args:= .ptr k 2 0 0::args) [k] (by simp) ⟨.inr ⟨by simp[below],by simp[ren]⟩,PC ha⟩ (bV hk (bA _ _ _) aU)).mono ?_
 rintro x h' ⟨x0,h0,⟨v,q,rfl,rfl,r⟩,hl,rfl,rfl⟩
 refine⟨v,q,?_,?_,r⟩
 ·simp only[Dl]
  have:=dv ([k]++List.range' h.length ([rdO b q].length-[rdO b p].length)) [v] ⟨hq v q r,trivial⟩
  simpa[bm] using this
 ·have hp2:∀σ,iL σ (rdO b q)=rdO b q:=λσ=>by simp[rdO,iL,bm,ren]
  simp[mrg,hp2]
theorem HE{l:List Int}(h:Byt l)(n:Nat):Byt (l.take n):=λx hx=>h x (aah hx)
def DrP(n:Nat)(x:ARes):Prop:=∃l:List Fd,x= .ret (.agg [.p (fdL l)])/\aH l<=n
theorem NX{f:FuncId}{args:List AV}{R:ARes->Prop}(H:AC Tryz.prog G f args [] λx _=>R x)(hR:∀x,R x->∃v,x= .ret v/\below 0 v)(ha:aj 0 args)(h:List AO):AC Tryz.prog G f args h λx h'=>R x/\h'=h:=by
 have H2:AC Tryz.prog G f args [] λx h'=>R x/\h'=[]:=by
  refine H.wk (λt v h' r=>by obtain⟨_,e,_⟩:=hR _ r;cases e) λv h' r=>?_
  obtain⟨v',e,hv⟩:=hR _ r
  cases e
  exact⟨v,[],Rj rfl ⟨.inr ⟨hv,rfl⟩,trivial⟩,r,rfl⟩
 refine(H2.pre h ha (λo ho=>by cases ho) (λx h' r=>by rw[r.2])).mono ?_
 rintro x h' ⟨h1,⟨r,rfl⟩,rfl⟩
 exact⟨r,rfl⟩
theorem Of{n:Nat}:∀x,DrP n x->∃v,x= .ret v/\below 0 v:=λx ⟨l,e,_⟩=>⟨_,e,by simp[below]⟩
variable (hK:G cR=some cC) (hS:G bn=some [.tbl opK opV])
include hK hS
end
section
theorem Ay{s:Bool}{h:List AO}{id sz:Nat}{rows:List (List AV)}{D:List (List PV)}{J:List Nat}(H:RowOwn s h id sz rows D J){i:Nat}{e:List PV}(hi:D[i]?=some e):
 ∃r Ji,rows[i]?=some r/\OwnL s h r e Ji/\(id::Ji).Nodup/\(∀j∈Ji,j∈J)/\∀(h2:List AO) (r':List AV) (e':List PV) (Ji':List Nat),h2[id]?=some (.row sz (rows.set i r'))->(∀j,j<h.length->j≠id->j∉Ji->h2[j]?=h[j]?)->OwnL s h2 r' e' Ji'->e'.length=sz->Ji'.Nodup->
  (∀j∈Ji',j∈Ji\/h.length<=j)->∃J',RowOwn s h2 id sz (rows.set i r') (D.set i e') J'/\∀j∈J',j∈J\/h.length<=j:=by
 obtain⟨r,J1,Ji,J2,g1,rfl,g3,g4⟩:=H.own.put H.len H.rl H.dl hi
 have hn:=H.nd
 have hid:=H.lt
 have hlt:∀j∈J1++(Ji++J2),j<h.length:=λj hj=>H.own.lt hj
 simp only[aak,aan,ZB,not_or] at hn hlt
 obtain⟨⟨n1,n2,n3⟩,m1,⟨m2,m3,m4⟩,m5⟩:=hn
 refine⟨r,Ji,g1,g3,by simp[n2,m2],λj hj=>by simp[hj],λh2 r' e' Ji' k1 k2 k3 k4 k5 k6=>⟨J1++(Ji'++J2),⟨k1,by simp[H.len],λx hx=>?_,λx hx=>?_,g4 h2 r' e' Ji' (λj hj=>?_) k3,?_⟩,λj hj=>?_⟩⟩
 ·rcases aae hx with h1|rfl
  ·exact H.rl x h1
  ·rw[k3.len,k4]
 ·rcases aae hx with h1|rfl
  ·exact H.dl x h1
  ·exact k4
 ·rcases ZB.1 hj with hj|hj
  ·exact k2 j (hlt j (.inl hj)) (λe=>n1 (e▸hj)) λhm=>m5 j hj j (.inl hm) rfl
  ·exact k2 j (hlt j (.inr (.inr hj))) (λe=>n3 (e▸hj)) λhm=>m4 j hm j hj rfl
 ·simp only[aak,aan,ZB,not_or]
  refine⟨⟨n1,λhm=>?_,n3⟩,m1,⟨k5,m3,λa ha b hb e=>?_⟩,λa ha b hb e=>?_⟩
  ·rcases k6 _ hm with q|q
   ·exact n2 q
   ·omega
  ·rcases k6 _ ha with q|q
   ·exact m4 a q b hb e
   ·have:=hlt b (.inr (.inr hb));omega
  ·rcases hb with hb|hb
   ·rcases k6 _ hb with q|q
    ·exact m5 a ha b (.inl q) e
    ·have:=hlt a (.inl ha);omega
   ·exact m5 a ha b (.inr hb) e
 ·simp only[ZB] at hj⊢
  rcases hj with hj|hj|hj
  ·exact .inl (.inl hj)
  ·rcases k6 _ hj with q|q
   ·exact .inl (.inr (.inl q))
   ·exact .inr q
  ·exact .inl (.inr (.inr hj))
theorem zs{s:Bool}{h:List AO}{fF:Nat}{rowsF:List (List AV)}{l:List Fd}{JF:List Nat}(H:RowOwn s h fF 3 rowsF (l.map Fd.cs) JF){k:Nat}{f:Fd}(hf:l[k]?=some f):
 ∃A B IB,rowsF[k]?=some [.p (.str f.name),A,B]/\OwnL s h [B] [smL f.body] IB/\IB.Nodup/\(∀j∈IB,j∈JF/\j≠fF)/\∀(h2:List AO) (B':AV) (body':List Sm) (IB':List Nat),h2[fF]?=some (.row 3 (rowsF.set k [.p (.str f.name),A,B']))->
  (∀j,j<h.length->j≠fF->j∉IB->h2[j]?=h[j]?)->OwnL s h2 [B'] [smL body'] IB'->IB'.Nodup->(∀j∈IB',j∈IB\/h.length<=j)->
  ∃J',RowOwn s h2 fF 3 (rowsF.set k [.p (.str f.name),A,B']) ((l.set k ⟨f.name,f.params,body'⟩).map Fd.cs) J'/\∀j∈J',j∈JF\/h.length<=j:=by
 have hD:(l.map Fd.cs)[k]?=some f.cs:=by rw[ZK,hf];rfl
 obtain⟨r,Ji,g1,g2,g3,g4,g5⟩:=Ay H hD
 obtain⟨A,B,IA,IB,rfl,rfl,oA,oB⟩:=Qz g2
 rw[aak] at g3
 obtain⟨n1,n2⟩:=g3
 obtain⟨n3,n4,n5⟩:=aan.1 n2
 refine⟨A,B,IB,g1,oB,n4,λj hj=>⟨g4 j (by simp[hj]),λe=>n1 (by simp[←e,hj])⟩,λh2 B' body' IB' k1 k2 k3 k4 k5=>?_⟩
 have hA:OwnL s h2 [A] [au f.params] IA:=oA.frame λi hi=>k2 i (oA.lt hi) (λe=>n1 (by simp[←e,hi])) λhm=>n5 i hi i hm rfl
 have:=g5 h2 _ (Fd.mk f.name f.params body').cs (IA++IB') k1 (λj q1 q2 q3=>k2 j q1 q2 λhm=>q3 (by simp[hm])) (sr (s:=s) (w:=f.name) hA k3) rfl
  (aan.2 ⟨n3,k4,λa ha b hb e=>by
    rcases k5 b hb with q|q
    ·exact n5 a ha b q e
    ·have:=oA.lt ha;omega⟩)
  (λj hj=>by
    rcases ZB.1 hj with hj|hj
    ·exact .inl (by simp[hj])
    ·rcases k5 j hj with q|q
     ·exact .inl (by simp[q])
     ·exact .inr q)
 rwa[List.map_set]
theorem QS{s:Bool}{h:List AO}{fB:Nat}{rowsB:List (List AV)}{l:List Sm}{JB:List Nat}(H:RowOwn s h fB 5 rowsB (l.map Sm.cs) JB){k:Nat}{x:Sm}(hf:l[k]?=some x):
 ∃A B E IA,rowsB[k]?=some [.p (.int .i64 x.op),.p (.str x.name),A,B,E]/\OwnL s h [A] [exL x.args] IA/\IA.Nodup/\(∀j∈IA,j∈JB/\j≠fB)/\∀(h2:List AO) (A':AV) (args':List Ex) (IA':List Nat),h2[fB]?=some (.row 5 (rowsB.set k [.p (.int .i64 x.op),.p (.str x.name),A',B,E]))->
  (∀j,j<h.length->j≠fB->j∉IA->h2[j]?=h[j]?)->OwnL s h2 [A'] [exL args'] IA'->IA'.Nodup->(∀j∈IA',j∈IA\/h.length<=j)->
  ∃J',RowOwn s h2 fB 5 (rowsB.set k [.p (.int .i64 x.op),.p (.str x.name),A',B,E]) ((l.set k ⟨x.op,x.name,args',x.body,x.els⟩).map Sm.cs) J'/\∀j∈J',j∈JB\/h.length<=j:=by
 have hD:(l.map Sm.cs)[k]?=some x.cs:=by rw[ZK,hf];rfl
 obtain⟨r,Ji,g1,g2,g3,g4,g5⟩:=Ay H hD
 obtain⟨A,B,E,I1,I2,I3,rfl,rfl,oA,oB,oE⟩:=PA g2
 rw[aak] at g3
 obtain⟨n1,n2⟩:=g3
 obtain⟨n3,n4,n5⟩:=aan.1 n2
 obtain⟨n6,n7,n8⟩:=aan.1 n4
 refine⟨A,B,E,I1,g1,oA,n3,λj hj=>⟨g4 j (by simp[hj]),λe=>n1 (by simp[←e,hj])⟩,λh2 A' args' IA' k1 k2 k3 k4 k5=>?_⟩
 have hB:OwnL s h2 [B] [smL x.body] I2:=oB.frame λi hi=>k2 i (oB.lt hi) (λe=>n1 (by simp[←e,hi])) λhm=>n5 i hm i (by simp[hi]) rfl
 have hE:OwnL s h2 [E] [smL x.els] I3:=oE.frame λi hi=>k2 i (oE.lt hi) (λe=>n1 (by simp[←e,hi])) λhm=>n5 i hm i (by simp[hi]) rfl
 have:=g5 h2 _ (Sm.mk x.op x.name args' x.body x.els).cs (IA'++(I2++I3)) k1 (λj q1 q2 q3=>k2 j q1 q2 λhm=>q3 (by simp[hm])) (Lc (s:=s) (o:=x.op) (w:=x.name) k3 hB hE) (by simp)
  (aan.2 ⟨k4,n4,λa ha b hb e=>by
    rcases k5 a ha with q|q
    ·exact n5 a q b hb e
    ·have:b<h.length:=by
      rcases ZB.1 hb with hb|hb
      ·exact oB.lt hb
      ·exact oE.lt hb
     omega⟩)
  (λj hj=>by
    rcases ZB.1 hj with hj|hj
    ·rcases k5 j hj with q|q
     ·exact .inl (by simp[q])
     ·exact .inr q
    ·exact .inl (by simp only[ZB] at hj⊢;exact .inr hj))
 rwa[List.map_set]
theorem zD{h:List AO}{v:AV}{sz:Nat}{D:List (List PV)}{I:List Nat}(H:OwnL true h [v] [.lst sz D] I)(nd:I.Nodup)(hne:D≠[]):∃id rows J,v= .sl id sz 0 D.length/\I=id::J/\RowOwn true h id sz rows D J:=by
 rcases H.inv nd with⟨h0,_⟩|⟨h0,_⟩|h0
 ·exact absurd h0 hne
 ·cases h0
 ·exact h0
theorem MV{h:List AO}{fF:Nat}{rowsF:List (List AV)}{l:List Fd}{JF:List Nat}(H:RowOwn true h fF 3 rowsF (l.map Fd.cs) JF){k:Nat}{f:Fd}(hf:l[k]?=some f){j:Nat}{x:Sm}(hx:f.body[j]?=some x){a:Ex}(ha:x.args[0]?=some a):
 ∃A fB rowsB fA B1 E1 rowsA r0,rowsF[k]?=some [.p (.str f.name),A,.sl fB 5 0 f.body.length]/\h[fB]?=some (.row 5 rowsB)/\rowsB[j]?=some [.p (.int .i64 x.op),.p (.str x.name),.sl fA 4 0 x.args.length,B1,E1]/\h[fA]?=some (.row 4 rowsA)/\rowsA[0]?=some r0/\fA∈JF/\fB∈JF/\fA≠fF/\
  ∀(h2:List AO) (n:Int),h2[fA]?=some (.row 4 (rowsA.set 0 ((bW n).cs.map .p)))->(∀i,i<h.length->i≠fA->h2[i]?=h[i]?)->
  ∃J',RowOwn true h2 fF 3 rowsF ((l.set k ⟨f.name,f.params,f.body.set j ⟨x.op,x.name,x.args.set 0 (bW n),x.body,x.els⟩⟩).map Fd.cs) J'/\∀i∈J',i∈JF\/h.length<=i:=by
 obtain⟨A,B,IB,p1,p2,p3,p4,p5⟩:=zs H hf
 have hne:f.body.map Sm.cs≠[]:=λe=>by rw[List.map_eq_nil_iff] at e;rw[e] at hx;cases hx
 obtain⟨fB,rowsB,JB,rfl,rfl,HB⟩:=zD p2 p3 hne
 obtain⟨A1,B1,E1,IA,s1,s2,s3,s4,s5⟩:=QS HB hx
 have hne2:x.args.map Ex.cs≠[]:=λe=>by rw[List.map_eq_nil_iff] at e;rw[e] at ha;cases ha
 obtain⟨fA,rowsA,JA,rfl,rfl,HA⟩:=zD s2 s3 hne2
 have hD:(x.args.map Ex.cs)[0]?=some a.cs:=by rw[ZK,ha];rfl
 obtain⟨r0,J0,t1,t2,t3,t4,t5⟩:=Ay HA hD
 rw[ZU] at*
 have hAF:fA≠fF:=(p4 fA (aai _ (s4 fA (by simp)).1)).2
 refine⟨A,fB,rowsB,fA,B1,E1,rowsA,r0,p1,HB.here,s1,HA.here,t1,(p4 fA (aai _ (s4 fA (by simp)).1)).1,(p4 fB (by simp)).1,hAF,λh2 n q1 q2=>?_⟩
 have oE:OwnL true h2 ((bW n).cs.map .p) (bW n).cs []:=by
  rw[(bW n).cs_eq]
  exact .p _ (λ_=>rfl) (.p _ (λ_=>rfl) (.p _ (λ_=>rfl) (.p _ (λ_=>rfl) .nil)))
 obtain⟨JA',u1,u2⟩:=t5 h2 _ (bW n).cs [] q1 (λi i1 i2 _=>q2 i i1 i2) oE (Ex.cs_len _) .nil (λ_ h=>by cases h)
 have tA:=u1.tree (n:=x.args.length) (by simp)
 rw[←List.map_set] at tA
 have n1:=u1.nd
 have hBA:fB≠fA:=λe=>(s4 fA (by simp)).2 e.symm
 obtain⟨JB',w1,w2⟩:=s5 h2 _ (x.args.set 0 (bW n)) (fA::JA') (by rw[q2 fB HB.lt hBA,HB.here,oJ s1]) (λi i1 i2 i3=>q2 i i1 λe=>i3 (by simp[e])) tA n1 (λi hi=>by
  rcases ZI.1 hi with rfl|hi
  ·exact .inl (by simp)
  ·rcases u2 i hi with g|g
   ·exact .inl (by simp[g])
   ·exact .inr g)
 rw[oJ s1] at w1
 have tB:=w1.tree (n:=f.body.length) (by simp)
 obtain⟨JF',z1,z2⟩:=p5 h2 _ (f.body.set j ⟨x.op,x.name,x.args.set 0 (bW n),x.body,x.els⟩) (fB::JB') (by rw[q2 fF H.lt (Ne.symm hAF),H.here,oJ p1]) (λi i1 i2 i3=>q2 i i1 λe=>i3 (by rw[e];exact aai _ (s4 fA (by simp)).1)) tB w1.nd (λi hi=>by
  rcases ZI.1 hi with rfl|hi
  ·exact .inl (by simp)
  ·rcases w2 i hi with g|g
   ·exact .inl (by simp[g])
   ·exact .inr g)
 rw[oJ p1] at z1
 exact⟨JF',z1,z2⟩
end
section
theorem Qd{h:List AO}{vs:List AV}{qs:List PV}{I:List Nat}(H:OwnL true h vs qs I):OwnL false h vs qs I:=by
 induction H with
 |nil=>exact .nil
 |p q _ _ ih=>exact .p q (λh=>by cases h) ih
 |nils sz _ ih=>exact .nils sz ih
 |sl id sz n rows es a1 a2 a3 a4 a5 _ _ ih1 ih2=>exact .sl id sz n rows es a1 a2 a3 a4 a5 ih1 ih2
theorem Oi{h:List AO}{id sz:Nat}{rows:List (List AV)}{D:List (List PV)}{J:List Nat}(H:RowOwn true h id sz rows D J):RowOwn false h id sz rows D J:=
 ⟨H.here,H.len,H.rl,H.dl,Qd H.own,H.nd⟩
theorem Hf{l:List Fd}{k:Nat}{f0:Fd}(f:Fd)(h:l[k]?=some f0):aH (l.set k f)+f0.sz=aH l+f.sz:=by
 obtain⟨hk,h⟩:=Zt.1 h
 subst h
 rw[fD f hk,kQ]
 have e:l=l.take k++l.drop k:=(aab _ _).symm
 have h1:aH l=aH (l.take k)+aH (l.drop k):=by rw[←kQ,←e]
 have h4:aH (l.drop k)=l[k].sz+aH (l.drop (k+1)):=by
  have h6:∀(x:Fd) r,aH (x::r)=x.sz+aH r:=λx r=>by simp[aH]
  rw[aas hk,h6]
 have h5:aH (f::l.drop (k+1))=f.sz+aH (l.drop (k+1)):=by simp[aH]
 omega
def Sr(l:List Fd):Prop:=∀f∈l,∀x∈f.body,x.args≠[]
theorem NS{l:List Fd}(h:bc l=true):Sr l:=by
 intro f hf x hx he
 have hfd:=((dC l).1 h).2.1 f hf
 simp only[iZ,ZE] at hfd
 obtain⟨⟨h1,h2⟩,h3,h4⟩:=Lm (ZA.1 hfd.2 _ hx)
 rw[he] at h3
 have:∀o:Int,1<=o->o<=8->gF o≠0:=by
  intro o h1 h2
  have:o=1\/o=2\/o=3\/o=4\/o=5\/o=6\/o=7\/o=8:=by omega
  rcases this with rfl|rfl|rfl|rfl|rfl|rfl|rfl|rfl<;>decide
 exact this _ h1 h2 h3.symm
def PQ(l:List Fd)(k:Nat)(f:Fd)(j:Nat)(x:Sm)(n:Int):List Fd:=l.set k ⟨f.name,f.params,f.body.set j ⟨x.op,x.name,x.args.set 0 (bW n),x.body,x.els⟩⟩
theorem Ml{l:List Fd}(H:Sr l){k:Nat}{f:Fd}(hf:l[k]?=some f){j:Nat}{x:Sm}(hx:f.body[j]?=some x)(n:Int):Sr (PQ l k f j x n):=by
 intro g hg y hy
 rcases aae hg with h|rfl
 ·exact H g h y hy
 ·have hy:y∈f.body.set j ⟨x.op,x.name,x.args.set 0 (bW n),x.body,x.els⟩:=hy
  rcases aae hy with h|rfl
  ·exact H f (Zy hf) y h
  ·intro e
   have e:x.args.set 0 (bW n)=[]:=e
   have:=congrArg List.length e
   rw[aag] at this
   exact H f (Zy hf) x (Zy hx) (aat this)
theorem Vk{l:List Fd}{k:Nat}{f:Fd}(hf:l[k]?=some f){j:Nat}{x:Sm}(hx:f.body[j]?=some x)(n:Int):aH (PQ l k f j x n)<=aH l+1:=by
 have h1:=Hf ⟨f.name,f.params,f.body.set j ⟨x.op,x.name,x.args.set 0 (bW n),x.body,x.els⟩⟩ hf
 have h2:=IP ⟨x.op,x.name,x.args.set 0 (bW n),x.body,x.els⟩ hx
 have h3:=ID x.args 0 (bW n)
 have h4:(bW n).sz=1:=by simp[bW,Ex.sz,bj]
 have h5:=x.sz_eq
 have h6:=Sm.sz_eq ⟨x.op,x.name,x.args.set 0 (bW n),x.body,x.els⟩
 have e1:(Sm.mk x.op x.name (x.args.set 0 (bW n)) x.body x.els).name=x.name:=rfl
 have e2:(Sm.mk x.op x.name (x.args.set 0 (bW n)) x.body x.els).args=x.args.set 0 (bW n):=rfl
 have e3:(Sm.mk x.op x.name (x.args.set 0 (bW n)) x.body x.els).body=x.body:=rfl
 have e4:(Sm.mk x.op x.name (x.args.set 0 (bW n)) x.body x.els).els=x.els:=rfl
 rw[e1,e2,e3,e4] at h6
 have hfz:f.sz=1+f.name.length+(f.params.length+(f.params.map List.length).sum)+an f.body:=rfl
 have hfz':(Fd.mk f.name f.params (f.body.set j ⟨x.op,x.name,x.args.set 0 (bW n),x.body,x.els⟩)).sz=1+f.name.length+(f.params.length+(f.params.map List.length).sum)+an (f.body.set j ⟨x.op,x.name,x.args.set 0 (bW n),x.body,x.els⟩):=rfl
 unfold PQ
 omega
structure L6S where (i:Nat) (q:Nat) (T:List AO) (l:List Fd)
structure L6I (b:List Int) (X fF n p m:Nat) (rowsF:List (List AV)) (a:L6S):Prop where
 t0:a.T[0]?=some (.row 1 [[.nils]])
 tX:a.T[X]?=some (.row 1 [[.sl (fF+1) 3 0 n]])
 len:a.l.length=n
 row:∀q',∃J,RowOwn true (rdO b q'::a.T) (fF+1) 3 rowsF (a.l.map Fd.cs) J/\∀j∈(fF+1)::J,2<=j/\j≠X+1
 has:Sr a.l
 q1:p<=a.q
 q2:a.q+5*a.i<=m
 z:aH a.l+1*a.i<=300000000
 X0:X≠0
theorem L6I.lt{b:List Int}{X fF n p m:Nat}{rowsF:List (List AV)}{a:L6S}(H:L6I b X fF n p m rowsF a):X<a.T.length:=(Zt.1 H.tX).1
theorem L6I.tF{b:List Int}{X fF n p m:Nat}{rowsF:List (List AV)}{a:L6S}(H:L6I b X fF n p m rowsF a):a.T[fF]?=some (.row 3 rowsF):=by
 obtain⟨J,h,_⟩:=H.row 0
 exact h.here
theorem KH{s:Bool}{b:List Int}{q q':Nat}{T:List AO}{id sz:Nat}{rows:List (List AV)}{D:List (List PV)}{J:List Nat}(H:RowOwn s (rdO b q::T) id sz rows D J)(hI:∀i∈id::J,2<=i):RowOwn s (rdO b q'::T) id sz rows D J:=
 H.frame λi hi=>by
  have:=hI i hi
  obtain⟨k,rfl⟩:∃k,i=k+1:=⟨i-1,by omega⟩
  rfl
theorem L6I.same{b:List Int}{X fF n p m:Nat}{rowsF:List (List AV)}{i q:Nat}{T:List AO}{l:List Fd}(H:L6I b X fF n p m rowsF ⟨i+1,q,T,l⟩)(q':Nat)(os:List AO)(h1:q<=q')(h2:q'<=q+5):L6I b X fF n p m rowsF ⟨i,q',T++os,l⟩:=by
 have hl:=H.lt
 have l0:=(Zt.1 H.t0).1
 refine⟨by rw[Zv l0];exact H.t0,by rw[Zv hl];exact H.tX,H.len,λq2=>?_,H.has,ZQ H.q1 h1,?_,?_,H.X0⟩
 ·obtain⟨J,h,hj⟩:=H.row q2
  exact⟨J,h.more os,hj⟩
 ·have:=H.q2;simp only at this⊢;omega
 ·have:=H.z;simp only at this⊢;omega
theorem L6I.put{b:List Int}{X fF n p m:Nat}{rowsF:List (List AV)}{i q:Nat}{T:List AO}{l:List Fd}(H:L6I b X fF n p m rowsF ⟨i+1,q,T,l⟩){k:Nat}{f:Fd}(hf:l[k]?=some f){j:Nat}{x:Sm}(hx:f.body[j]?=some x):
 ∃A fB rowsB fA B1 E1 rowsA r0,rowsF[k]?=some [.p (.str f.name),A,.sl (fB+1) 5 0 f.body.length]/\T[fB]?=some (.row 5 rowsB)/\rowsB[j]?=some [.p (.int .i64 x.op),.p (.str x.name),.sl (fA+1) 4 0 x.args.length,B1,E1]/\T[fA]?=some (.row 4 rowsA)/\rowsA[0]?=some r0/\r0.length=4/\
  ∀(q':Nat) (os:List AO) (n':Int),q<=q'->q'<=q+5->L6I b X fF n p m rowsF ⟨i,q',(T++os).set fA (.row 4 (rowsA.set 0 ((bW n').cs.map .p))),PQ l k f j x n'⟩:=by
 obtain⟨J,hR,hJ⟩:=H.row 0
 have hne:=H.has f (Zy hf) x (Zy hx)
 obtain⟨a,ha⟩:∃a,x.args[0]?=some a:=by
  cases h:x.args with
  |nil=>exact absurd h hne
  |cons a r=>exact⟨a,rfl⟩
 obtain⟨A,fB,rowsB,fA,B1,E1,rowsA,r0,p1,p2,p3,p4,p5,p6,p7,p8,p9⟩:=MV hR hf hx ha
 obtain⟨hA2,hAX⟩:=hJ fA (by simp[p6])
 obtain⟨hB2,hBX⟩:=hJ fB (by simp[p7])
 obtain⟨gA,rfl⟩:∃gA,fA=gA+1:=⟨fA-1,by omega⟩
 obtain⟨gB,rfl⟩:∃gB,fB=gB+1:=⟨fB-1,by omega⟩
 have hr0:r0.length=4:=by
  obtain⟨A',B',IB,z1,z2,z3,z4,z5⟩:=zs hR hf
  rw[p1] at z1;cases z1
  have hneB:f.body.map Sm.cs≠[]:=λe=>by rw[List.map_eq_nil_iff] at e;rw[e] at hx;cases hx
  obtain⟨id1,rows1,J1,e1,e2,HB⟩:=zD z2 z3 hneB
  rw[ZU] at e1
  cases e1
  have:rows1=rowsB:=by have:=HB.here;rw[p2] at this;cases this;rfl
  subst this
  obtain⟨A2,B2,E2,IA,y1,y2,y3,y4,y5⟩:=QS HB hx
  rw[p3] at y1;cases y1
  have hneA:x.args.map Ex.cs≠[]:=λe=>by rw[List.map_eq_nil_iff] at e;exact hne e
  obtain⟨id2,rows2,J2,e3,e4,HA⟩:=zD y2 y3 hneA
  rw[ZU] at e3
  cases e3
  have:rows2=rowsA:=by have:=HA.here;rw[p4] at this;cases this;rfl
  subst this
  exact HA.rl _ (Zy p5)
 refine⟨A,gB,rowsB,gA,B1,E1,rowsA,r0,p1,by simpa using p2,p3,by simpa using p4,p5,hr0,λq' os n' h1 h2=>?_⟩
 have hl:=H.lt
 have l0:=(Zt.1 H.t0).1
 have lA:gA<T.length:=by have:=(Zt.1 p4).1;simpa using this
 refine⟨?_,?_,by simp only[PQ,aag];exact H.len,λq2=>?_,Ml H.has hf hx n',ZQ H.q1 h1,?_,?_,H.X0⟩
 ·simp only
  rw[Zx (by omega),Zv l0];exact H.t0
 ·simp only at hl⊢
  rw[Zx (by omega),Zv hl];exact H.tX
 ·obtain⟨J',g1,g2⟩:=p9 (rdO b 0::(T++os).set gA (.row 4 (rowsA.set 0 ((bW n').cs.map .p)))) n' (by
   rw[ZF,ZJ (by simp;omega)]) (λi hi hne=>by
   cases i with
   |zero=>rfl
   |succ i=>
    rw[ZF,ZF,Zx (by omega),Zv (by simpa using hi)])
  have hJ':∀j∈(fF+1)::J',2<=j/\j≠X+1:=λj hj=>by
   rcases ZI.1 hj with rfl|hj
   ·exact hJ _ (by simp)
   ·rcases g2 j hj with g|g
    ·exact hJ j (by simp[g])
    ·simp only[ZO] at g hl
     exact⟨by omega,by omega⟩
  exact⟨J',KH g1 λi hi=>(hJ' i hi).1,hJ'⟩
 ·have:=H.q2;simp only at this⊢;omega
 ·have:=H.z;have:=Vk hf hx n';simp only at* ;omega
end
section
variable (G:am)
theorem EF:AK.whole oe=FK.ak oF:=rfl
theorem pt:∀l:List PV,nX (l.map AV.p)=some l
 |[]=>rfl
 |q::r=>by rw[ZT,nX,pt r];rfl
theorem rN{h:List AO}:∀l:List PV,OwnL false h (l.map AV.p) l []
 |[]=> .nil
 |q::r=> .p q (λh=>by cases h) (rN r)
structure CutS where (q:Nat) (T:List AO) (s:Sm) (x:Nat)
structure CutI (q1:Nat) (T:List AO) (a:CutS):Prop where
 lo:q1<=a.q
 hi:a.q<=q1+10
 fr:Fr [] T a.T
 box:a.T[a.x]?=some (.row 5 [a.s.cs.map .p])
 lx:T.length<=a.x
 z:a.s.sz<=100
theorem Hb{b:List Int}(hb:Byt b)(hl:b.length<=2000){p:Nat}(hp:p<=4000000000):AC Tryz.prog G kM [.ptr 0 2 0 0] [rdO b p] λx h=>∃v q,x= .ret v/\h=[rdO b q]/\PgQ p 900000000 400500100 v q:=by
 refine nM G (AC.goK Ef EF ?_)
 have hprog:AC Tryz.prog G dr [.ptr 0 2 0 0] [rdO b (p+1)] λx h=>∃v q,x= .ret v/\h=[rdO b q]/\((∃l:List Fd,v= .agg [.p (fdL l)]/\bc l=true/\aH l<=200000000)/\p+1<=q/\q<=p+1+200000000):=
  (Kl G hb hl (by omega)).mono λx h ⟨l,q,e1,e2,e3,e4,e5,e6⟩=>⟨_,q,e1,e2,⟨l,rfl,e3,e4⟩,e5,e6⟩
 have hnx:∀n,(bW n).cs=[.int .i64 1,.int .i64 n,.str [],.lst 4 []]:=λn=>(bW n).cs_eq
 simp-implicitDefEqProofs[oF,oe]
 refine(aR G b hb hl p (by omega) 8 _).mono ?_
 rintro r h ⟨k0,rfl,rfl,_⟩
 simp-implicitDefEqProofs[aa]
 refine aT (λhc=>?_) (λhc=>?_)
 ·simp-implicitDefEqProofs[]
  refine(jE G (Qv G hb hl (p:=p+1) (by omega)) _ (by simp[below])).mono ?_
  rintro r h ⟨v,q2,rfl,rfl,⟨l2,rfl,hz2⟩,h3,h4⟩
  simp-implicitDefEqProofs[aa]
  exact⟨_,_,q2,.agg [.p (fdL l2)],rfl,rfl,.keep (by simp) .nil,⟨l2,rfl,by omega⟩,by omega,by omega⟩
 simp-implicitDefEqProofs[]
 refine(jE G hprog _ (by simp[below])).mono ?_
 rintro r h ⟨v,q,rfl,rfl,⟨l,rfl,hok,hz⟩,h1,h2⟩
 have hlen:=((dC l).1 hok).1
 simp-implicitDefEqProofs[aa]
 refine(AC.mkLift BP (Ir G l (by omega)) (by simp)).mono ?_
 rintro r h ⟨vs,I,os,rfl,rfl,ho,nd,hI⟩
 obtain⟨v,rfl⟩:=fh ho
 have hne:l.map Fd.cs≠[]:=by intro h;rw[List.map_eq_nil_iff] at h;rw[h] at hlen;simp at hlen
 simp at hI
 obtain⟨id,rowsF,JF,rfl,rfl,hF⟩:=zD ho nd hne
 have hid2:2<=id:=hI id (by simp)
 obtain⟨fF,rfl⟩:∃fF,id=fF+1:=⟨id-1,by omega⟩
 rw[ZU]
 simp-implicitDefEqProofs[aa]
 obtain⟨X,hX⟩:∃X,X=os.length+1:=⟨_,rfl⟩
 obtain⟨T0,hT0⟩:∃T,T=AO.row 1 [[AV.nils]]::(os++[AO.row 1 [[AV.sl (fF+1) 3 0 l.length]]]):=⟨_,rfl⟩
 have hI0:∀i q2 os2,i<=4->q2<=q+1->q<=q2->L6I b X fF l.length (p+1) (p+200000100) rowsF ⟨i,q2,T0++os2,l⟩:=λi q2 os2 hi h3 h4=>by
  subst hX hT0
  refine⟨rfl,?_,rfl,λq'=>⟨JF,?_,λj hj=>?_⟩,NS hok,by simp only;omega,by simp only;omega,by simp only;omega,by omega⟩
  ·simp
  ·have:RowOwn true (rdO b q::AO.row 1 [[AV.nils]]::os) (fF+1) 3 rowsF (l.map Fd.cs) JF:=hF
   have:=KH (q':=q') this (λi hi=>hI i hi)
   have:=this.more ([AO.row 1 [[AV.sl (fF+1) 3 0 l.length]]]++os2)
   simpa using this
  ·refine⟨hI j hj,λe=>?_⟩
   have:j<([rdO b q,AO.row 1 [[AV.nils]]]++os).length:=by
    rcases ZI.1 hj with rfl|hj
    ·exact hF.lt
    ·exact hF.own.lt hj
   simp at this
   omega
 refine(lO G hb hl (p:=q) (by omega) [2,4,1,0] (k:=os.length+1+1+1) (by simp) (by simp) (by omega) rfl (by simp[jb])).mono ?_
 rintro r h ⟨n0,hn0,rfl,rfl⟩
 obtain⟨n1,rfl,hn1⟩:∃n1:Nat,n0=(n1:Int)/\n1<=4:=by
  simp only[ZI,aaa,or_false] at hn0
  rcases hn0 with rfl|rfl|rfl|rfl
  ·exact⟨2,rfl,by omega⟩
  ·exact⟨4,rfl,by omega⟩
  ·exact⟨1,rfl,by omega⟩
  ·exact⟨0,rfl,by omega⟩
 simp-implicitDefEqProofs[aa]
 have hXr:os.length+1+1=X+1:=by omega
 rw[hXr]
 refine aI (λa:L6S=>ah 157 [(4,.p (.int .i64 a.i)),(3,.ptr (X+1) 1 0 0),(2,.ptr 1 1 0 0),(0,.ptr 0 2 0 0)]) (λa=>rdO b a.q::a.T) (L6I b X fF l.length (p+1) (p+200000100) rowsF) (λa=>a.i) ⟨n1,q+1,T0++[jb [2,4,1,0]],l⟩ (hI0 _ _ _ hn1 (by omega) (by omega)) ?_ ?_
 ·have e:∀z,(AO.row 1 [[AV.nils]]::(os++[AO.row 1 [[AV.sl (fF+1) 3 0 l.length]],z]))=T0++[z]:=λz=>by rw[hT0];simp
  simp only[jb,ZT,aaz,e]
  refine bF (by simp) ?_
  simp[below]
  subst hT0;simp;omega
 clear hI0 hT0 hF hI
 rintro⟨i,q1,T,l1⟩ hA
 have hXl:=hA.lt
 have tX:=hA.tX
 have tF:=hA.tF
 have tx0:T[0]?=some (.row 1 [[.nils]]):=hA.t0
 have hl1:l1.length=l.length:=hA.len
 have hq1:=hA.q1
 have hq2:=hA.q2
 simp only at hq1 hq2 hXl tX tF
 simp-implicitDefEqProofs[tX]
 refine aT (λhc=>?_) (λhc=>?_)
 ·simp at hc
  obtain⟨i,rfl⟩:∃j,i=j+1:=⟨i-1,by omega⟩
  have hwi:IntKind.i64.wrap (i:Int)=(i:Int):=ae (by omega) (by omega)
  have stp:∀(q':Nat) (T':List AO) (l':List Fd) (sl:List (Nat × AV)),L6I b X fF l.length (p+1) (p+200000100) rowsF ⟨i,q',T',l'⟩->Aw.look sl 4= .p (.int .i64 (IntKind.i64.wrap (i:Int)))->Aw.look sl 3= .ptr (X+1) 1 0 0->Aw.look sl 2= .ptr 1 1 0 0->Aw.look sl 0= .ptr 0 2 0 0->
   ∃a:L6S,L6I b X fF l.length (p+1) (p+200000100) rowsF a/\a.i<i+1/\Wk 1 (ah 157 sl) (rdO b q'::T') (ah 157 [(4,.p (.int .i64 a.i)),(3,.ptr (X+1) 1 0 0),(2,.ptr 1 1 0 0),(0,.ptr 0 2 0 0)]) (rdO b a.q::a.T):=λq' T' l' sl hA' e4 e3 e2 e0=>by
   have hx:=hA'.lt
   simp only at hx
   refine⟨⟨i,q',T',l'⟩,hA',by simp only;omega,bF (by simp) ?_⟩
   simp[below,e4,e3,e2,e0,hwi]
   omega
  simp-implicitDefEqProofs[tX]
  refine(aR G b hb hl q1 (by omega) l.length _).mono ?_
  rintro r h ⟨k,rfl,rfl,hk⟩
  have hkl:k<l.length:=by omega
  have hgk:=Zu (show k<l1.length by omega)
  generalize l1[k]=f at hgk
  obtain⟨J0,hR0,hJ0⟩:=hA.row (q1+1)
  obtain⟨A,B,IB,g1,g2,g3,g4,_⟩:=zs hR0 hgk
  simp-implicitDefEqProofs[aa,tX,tF,hkl,g1]
  rcases g2.inv g3 with⟨h0,_,rfl|rfl⟩|⟨h0,_⟩|⟨idB,rowsB,JB,rfl,rfl,hB⟩
  ·simp-implicitDefEqProofs[tX,tF]
   exact stp _ _ _ _ (by have:=hA.same (q1+1) [] (by omega) (by omega);simpa using this) (by simp) (by simp) (by simp) (by simp)
  ·simp-implicitDefEqProofs[tX,tF]
   exact stp _ _ _ _ (by have:=hA.same (q1+1) [] (by omega) (by omega);simpa using this) (by simp) (by simp) (by simp) (by simp)
  ·cases h0
  rw[ZU] at*
  simp-implicitDefEqProofs[tX,tF,g1]
  by_cases hbe:f.body.length=0
  ·simp-implicitDefEqProofs[hbe,tX,tF]
   exact stp _ _ _ _ (by have:=hA.same (q1+1) [] (by omega) (by omega);simpa using this) (by simp) (by simp) (by simp) (by simp)
  have hpos:0<f.body.length:=by omega
  simp-implicitDefEqProofs[hpos,tX,tF,g1]
  refine(aR G b hb hl (q1+1) (by omega) f.body.length _).mono ?_
  rintro r h ⟨j,rfl,rfl,hj⟩
  have hjl:j<f.body.length:=by omega
  have hgj:=Zu hjl
  generalize f.body[j]=x at hgj
  obtain⟨A2,fB,rowsB2,fA,B1,E1,rowsA,r0,p1,p2,p3,p4,p5,p6,p7⟩:=hA.put hgk hgj
  obtain⟨z1,z2,z3,z4,rfl⟩:∃z1 z2 z3 z4,r0=[z1,z2,z3,z4]:=by
   match r0,p6 with
   |[a,b,c,d],_=>exact⟨a,b,c,d,rfl⟩
  clear p6
  have hB2:=g1.symm.trans p1
  simp only[Option.some.injEq,List.cons.injEq,AV.sl.injEq,true_and,and_true] at hB2
  obtain⟨rfl,rfl⟩:=hB2
  have lA:fA<T.length:=(Zt.1 p4).1
  have hne:x.args≠[]:=hA.has f (Zy hgk) x (Zy hgj)
  have hpa:0<x.args.length:=List.length_pos_iff.2 hne
  have num5:∀(q':Nat) (rest:List AO),q'<=1000000000000->AC Tryz.prog G cG [.ptr 0 2 0 0,.p (.lst 1 [[.int .i64 0],[.int .i64 1],[.int .i64 5]])] (rdO b q'::rest) λx h=>∃n,n∈[0,1,5]/\x= .ret (.p (.int .i64 n))/\h=rdO b (q'+1)::rest:=λq' rest hq'=>FR G hb hl hq' [0,1,5] (by simp) (by simp) rest
  have gA:∀z,(rdO b z::T)[fA+1]?=some (.row 4 rowsA):=λz=>by rw[ZF];exact p4
  have fin:∀(q':Nat) (n:Int) (sl:List (Nat × AV)),q1<=q'->q'<=q1+5->Aw.look sl 4= .p (.int .i64 (IntKind.i64.wrap (i:Int)))->Aw.look sl 3= .ptr (X+1) 1 0 0->Aw.look sl 2= .ptr 1 1 0 0->Aw.look sl 0= .ptr 0 2 0 0->
   ∃a:L6S,L6I b X fF l.length (p+1) (p+200000100) rowsF a/\a.i<i+1/\Wk 1 (ah 157 sl) (rdO b q'::T.set fA (.row 4 (rowsA.set 0 [.p (.int .i64 1),.p (.int .i64 n),.p (.str []),.p (.lst 4 [])]))) (ah 157 [(4,.p (.int .i64 a.i)),(3,.ptr (X+1) 1 0 0),(2,.ptr 1 1 0 0),(0,.ptr 0 2 0 0)]) (rdO b a.q::a.T):=λq' n sl h1 h2 e4 e3 e2 e0=>
   stp q' _ _ sl (by have:=p7 q' [] n h1 h2;simpa[hnx] using this) e4 e3 e2 e0
  by_cases h5:x.op=5\/x.op=3
  ·have h53:x.op=5\/¬x.op=5/\x.op=3:=by omega
   rcases h53 with h5|⟨h5,h3⟩
   ·simp-implicitDefEqProofs[aa,hjl,tX,tF,g1,p2,p3,h5]
    refine(num5 (q1+1+1) _ (by omega)).mono ?_
    rintro r h ⟨n,_,rfl,rfl⟩
    simp-implicitDefEqProofs[aa]
    refine⟨by simp[p2,p3],?_⟩
    refine(gr G n).use ?_
    simp-implicitDefEqProofs[hnx,p2,p3,p4,hpa,p5]
    exact fin _ _ _ (by omega) (by omega) (by simp) (by simp) (by simp) (by simp)
   ·simp-implicitDefEqProofs[aa,hjl,tX,tF,g1,p2,p3,h5,h3]
    refine(num5 (q1+1+1) _ (by omega)).mono ?_
    rintro r h ⟨n,_,rfl,rfl⟩
    simp-implicitDefEqProofs[aa]
    refine⟨by simp[p2,p3],?_⟩
    refine(gr G n).use ?_
    simp-implicitDefEqProofs[hnx,p2,p3,p4,hpa,p5]
    exact fin _ _ _ (by omega) (by omega) (by simp) (by simp) (by simp) (by simp)
  have h5':¬x.op=5:=λe=>h5 (.inl e)
  have h3':¬x.op=3:=λe=>h5 (.inr e)
  simp-implicitDefEqProofs[aa,hjl,tX,tF,g1,p2,p3,h5',h3']
  refine(aR G b hb hl (q1+1+1) (by omega) 3 _).mono ?_
  rintro r h ⟨k3,rfl,rfl,_⟩
  have out:∀(q':Nat) (sl:List (Nat × AV)),q1<=q'->q'<=q1+5->Aw.look sl 4= .p (.int .i64 (IntKind.i64.wrap (i:Int)))->Aw.look sl 3= .ptr (X+1) 1 0 0->Aw.look sl 2= .ptr 1 1 0 0->Aw.look sl 0= .ptr 0 2 0 0->
   ∃a:L6S,L6I b X fF l.length (p+1) (p+200000100) rowsF a/\a.i<i+1/\Wk 1 (ah 157 sl) (rdO b q'::T) (ah 157 [(4,.p (.int .i64 a.i)),(3,.ptr (X+1) 1 0 0),(2,.ptr 1 1 0 0),(0,.ptr 0 2 0 0)]) (rdO b a.q::a.T):=λq' sl h1 h2 e4 e3 e2 e0=>
   stp q' _ _ sl (by have:=hA.same q' [] h1 h2;simpa using this) e4 e3 e2 e0
  by_cases c0:k3=0
  ·subst c0
   by_cases c8:x.op=8
   ·simp-implicitDefEqProofs[aa,hjl,tX,tF,g1,p2,p3,c8]
    exact out _ _ (by omega) (by omega) (by simp) (by simp) (by simp) (by simp)
   by_cases c6:x.op=6
   ·simp-implicitDefEqProofs[aa,hjl,tX,tF,g1,p2,p3,c8,c6]
    exact out _ _ (by omega) (by omega) (by simp) (by simp) (by simp) (by simp)
   simp-implicitDefEqProofs[aa,hjl,tX,tF,g1,p2,p3,c8,c6]
   refine(num5 (q1+1+1+1) _ (by omega)).mono ?_
   rintro r h ⟨n,_,rfl,rfl⟩
   simp-implicitDefEqProofs[aa]
   refine⟨by simp[p2,p3],?_⟩
   refine(gr G n).use ?_
   simp-implicitDefEqProofs[hnx,p2,p3,p4,hpa,p5]
   exact fin _ _ _ (by omega) (by omega) (by simp) (by simp) (by simp) (by simp)
  ·simp-implicitDefEqProofs[aa,hjl,tX,tF,g1,p2,p3,c0]
   exact out _ _ (by omega) (by omega) (by simp) (by simp) (by simp) (by simp)
 simp at hc
 subst hc
 have hRw:=hA.row
 have hz1:=hA.z
 simp only at hRw hz1
 have lT:=(Zt.1 tx0).1
 have lF:=(Zt.1 tF).1
 have hX0:X≠0:=hA.X0
 have endS:∀(s:Bool) (q':Nat) (T':List AO) (l':List Fd) (J':List Nat) (rows':List (List AV)),RowOwn s (rdO b q'::T') (fF+1) 3 rows' (l'.map Fd.cs) J'->(∀i∈(fF+1)::J',2<=i)->l'.length=l.length->aH l'<=400000000->q1<=q'->q'<=q1+50->DP b (PgQ p 900000000 400500100) (.ret (.agg [.sl (fF+1) 3 0 l.length])) (rdO b q'::T'.set 0 (.row 1 [[.sl (fF+1) 3 0 l.length]])):=λs q' T' l' J' rows' hR hJ hl' hz' h1 h2=>by
  have tree:=(hR.frame (h':=rdO b q'::T'.set 0 (.row 1 [[.sl (fF+1) 3 0 l.length]])) λi hi=>by
   have:=hJ i hi
   obtain⟨k,rfl⟩:∃k,i=k+1:=⟨i-1,by omega⟩
   rw[ZF,ZF,Zx (by omega)]).tree (n:=l.length) (by simp[hl'])
  exact⟨_,_,q',.agg [.p (fdL l')],rfl,rfl,.agg (.one ((Jh tree (λi hi=>by have:=hJ i hi;omega) .dead).view 0 _ _ rfl rfl) .nil) .nil,⟨l',rfl,by omega⟩,by omega,by omega⟩
 have s0:∀x,(T.set 0 x)[0]?=some x:=λx=>ZJ lT
 simp-implicitDefEqProofs[]
 refine(aR G b hb hl q1 (by omega) 3 _).mono ?_
 rintro r h ⟨k3,rfl,rfl,_⟩
 simp-implicitDefEqProofs[aa]
 refine aT (λhc=>?_) (λhc=>?_)
 case refine_2=>
  simp-implicitDefEqProofs[tX,tx0,s0]
  obtain⟨J0,hR0,hJ0⟩:=hRw (q1+1)
  exact endS _ _ _ _ _ _ hR0 (λi hi=>(hJ0 i hi).1) hl1 (by omega) (by omega) (by omega)
 have hn1:(l.length:Int)-1=((l.length-1:Nat):Int):=by omega
 have hgk:=Zu (show l.length-1<l1.length by omega)
 generalize l1[l.length-1]=f at hgk
 obtain⟨J0,hR0,hJ0⟩:=hRw (q1+1)
 obtain⟨A,B,IB,g1,g2,g3,g4,_⟩:=zs hR0 hgk
 have hBc:=(OS g2).2
 have hBl:Hz B=some (.p (.int .i64 f.body.length)):=by
  rcases g2.inv g3 with⟨h0,_,rfl|rfl⟩|⟨h0,_⟩|⟨idB,rowsB,JB,rfl,rfl,hB⟩
  ·have:f.body.length=0:=by simpa using congrArg List.length h0
   simp[this]
  ·have:f.body.length=0:=by simpa using congrArg List.length h0
   simp[this]
  ·cases h0
  ·simp
 have hfz:=cS (Zy hgk)
 have hfs:f.sz=1+f.name.length+(f.params.length+(f.params.map List.length).sum)+an f.body:=rfl
 have hbl:=bC f.body
 have hw1:IntKind.i64.wrap ((l.length:Int)-1)=((l.length-1:Nat):Int):=by rw[ae (by omega) (by omega)];omega
 have hkl:l.length-1<l.length:=by omega
 have hw2:IntKind.i64.wrap ((f.body.length:Int)+1)=((f.body.length+1:Nat):Int):=by rw[ae (by omega) (by omega)];omega
 simp-implicitDefEqProofs[-AV.isCell,-AV.cells,tX,tF,g1,hBc,hBl,hw1,hw2,hkl]
 refine⟨rfl,?_⟩
 refine(aR G b hb hl (q1+1) (by omega) ((f.body.length:Int)+1) _).mono ?_
 rintro r h ⟨at_,rfl,rfl,hat⟩
 have hat2:at_<=f.body.length:=by omega
 simp-implicitDefEqProofs[aa]
 refine(lO G hb hl (p:=q1+1+1) (by omega) [7,6,5] (k:=T.length+1) (by simp) (by simp) (by omega) rfl (by simp[jb])).mono ?_
 rintro r h ⟨n7,hn7,rfl,rfl⟩
 have aX:∀os,(T++os)[X]?=some (.row 1 [[.sl (fF+1) 3 0 l.length]]):=λos=>by rw[Zv hXl];exact tX
 simp-implicitDefEqProofs[aa]
 refine(aR G b hb hl (q1+1+1+1) (by omega) 2 _).mono ?_
 rintro r h ⟨m1,rfl,rfl,_⟩
 simp-implicitDefEqProofs[aa]
 refine(aR G b hb hl (q1+1+1+1+1) (by omega) 2 _).mono ?_
 rintro r h ⟨m2,rfl,rfl,_⟩
 simp-implicitDefEqProofs[aa]
 obtain⟨nz,hnz⟩:∃nz,nz=IntKind.i64.wrap ((m1:Int)*m2):=⟨_,rfl⟩
 rw[←hnz]
 clear hnz
 refine(gr G nz).use ?_
 simp only[hnx]
 simp-implicitDefEqProofs[]
 refine rh (λa:CutS=>ah 157 [(9,.ptr (a.x+1) 5 0 0),(8,.p (.int .i64 at_)),(7,.ptr (fF+1) 3 (l.length-1) 0),(3,.ptr (X+1) 1 0 0),(2,.ptr 1 1 0 0),(0,.ptr 0 2 0 0)]) (λa=>rdO b a.q::a.T) (CutI q1 T) ?_ ?_
 ·simp-implicitDefEqProofs[]
  refine aT (λh7=>?_) (λh7=>?_)
  case refine_2=>
   have h7:n7=7:=by simpa using h7
   subst h7
   simp-implicitDefEqProofs[]
   refine⟨⟨q1+1+1+1+1+1,T++[.dead,.dead,.row 5 [(Sm.mk 7 [] [bW nz] [] []).cs.map .p]],⟨7,[],[bW nz],[],[]⟩,T.length+2⟩,⟨by simp only;omega,by simp only;omega,Fr.more _ _ _,by simp,by simp,by simp[Sm.sz,bj,an,bW,Ex.sz]⟩,?_⟩
   refine Fe (pre:=rdO b (q1+1+1+1+1+1)::T) (suf:=[_,_,_]) (by simp) (.drop (.give (.one ?_ .nil))) ?_
   ·rw[Sm.cs_eq]
    refine .keep (by simp) (.keep (by simp) (.one ?_ (.one (.nils 5) (.one (.nils 5) .nil))))
    exact gm (ls:=[(bW nz).cs]) (by simp[hnx]) rfl (by simp)
   ·refine⟨.keep ?_ .nil,.keep trivial .nil,.keep ?_ .nil,.keep ?_ .nil,.keep ?_ .nil,.keep ?_ .nil,trivial⟩<;>simp[below]<;>omega
  have h7:¬n7=7:=by simpa using h7
  simp-implicitDefEqProofs[]
  refine(gr G 9).use ?_
  simp only[hnx]
  simp-implicitDefEqProofs[]
  have hS9:∀hF:List AO,hF[T.length+4]?=some (.row 4 [[.p (.int .i64 1),.p (.int .i64 9),.p (.str []),.p (.lst 4 [])]])->hF[T.length+5]?=some (.row 5 [[.p (.int .i64 3),.p (.str []),.sl (T.length+4) 4 0 1,.nils,.nils]])->View hF (.sl (T.length+5) 5 0 1) (smL [⟨3,[],[bW 9],[],[]⟩]):=λhF e1 e2=>by
   have o1:OwnL false hF [.sl (T.length+4) 4 0 1] [exL [bW 9]] [T.length+4]:=by
    refine OwnL.sl (J:=[]) (I:=[]) (T.length+4) 4 1 _ _ e1 rfl rfl (by simp) (by simp) ?_ .nil
    simp only[ZT,aaz,hnx,aaq,List.flatten_nil,aar]
    exact .p _ (λ_=>rfl) (.p _ (λ_=>rfl) (.p _ (λ_=>rfl) (.p _ (λ_=>rfl) .nil)))
   have o2:OwnL false hF [.sl (T.length+5) 5 0 1] [smL [⟨3,[],[bW 9],[],[]⟩]] [T.length+5,T.length+4]:=by
    refine OwnL.sl (J:=[T.length+4]) (I:=[]) (T.length+5) 5 1 _ _ e2 rfl rfl (by simp) (by simp) ?_ .nil
    have:=Lc (s:=false) (o:=3) (w:=[]) (b:=[]) (e:=[]) o1 (.nils 5 .nil) (.nils 5 .nil)
    simpa using this
   exact o2.view 0 _ _ rfl rfl
  have fin5:∀(o nz':Int) (x0:AO) (sl:List (Nat × AV)),Aw.look sl 9= .ptr (T.length+2+1) 5 0 0->Aw.look sl 8= .p (.int .i64 at_)->Aw.look sl 7= .ptr (fF+1) 3 (l.length-1) 0->Aw.look sl 3= .ptr (X+1) 1 0 0->Aw.look sl 2= .ptr 1 1 0 0->Aw.look sl 0= .ptr 0 2 0 0->
   ∃s:CutS,CutI q1 T s/\Wk 1 (ah 157 sl) (rdO b (q1+1+1+1+1+1)::(T++[x0,.row 4 [[.p (.int .i64 1),.p (.int .i64 nz'),.p (.str []),.p (.lst 4 [])]],.row 5 [[.p (.int .i64 o),.p (.str []),.sl (T.length+1+1) 4 0 1,.sl (T.length+4+1) 5 0 1,.nils]],
    .row 4 [[.p (.int .i64 1),.p (.int .i64 9),.p (.str []),.p (.lst 4 [])]],.row 5 [[.p (.int .i64 3),.p (.str []),.sl (T.length+3+1) 4 0 1,.nils,.nils]]])) (ah 157 [(9,.ptr (s.x+1) 5 0 0),(8,.p (.int .i64 at_)),(7,.ptr (fF+1) 3 (l.length-1) 0),(3,.ptr (X+1) 1 0 0),(2,.ptr 1 1 0 0),(0,.ptr 0 2 0 0)]) (rdO b s.q::s.T):=λo nz' x0 sl e9 e8 e7 e3 e2 e0=>by
   refine⟨⟨q1+1+1+1+1+1,T++[.dead,.dead,.row 5 [(Sm.mk o [] [bW nz'] [⟨3,[],[bW 9],[],[]⟩] []).cs.map .p],.dead,.dead],⟨o,[],[bW nz'],[⟨3,[],[bW 9],[],[]⟩],[]⟩,T.length+2⟩,⟨by simp only;omega,by simp only;omega,Fr.more _ _ _,by simp,by simp,by simp[Sm.sz,bj,an,bW,Ex.sz]⟩,?_⟩
   refine Fe (pre:=rdO b (q1+1+1+1+1+1)::T) (suf:=[_,_,_,_,_]) (by simp) (.drop (.give (.one ?_ (.give (.give .nil))))) ?_
   ·rw[Sm.cs_eq]
    refine .keep (by simp) (.keep (by simp) (.one ?_ (.one ?_ (.one (.nils 5) .nil))))
    ·exact gm (ls:=[(bW nz').cs]) (by simp[hnx]) rfl (by simp)
    ·refine hS9 _ ?_ ?_
     ·simp
     ·simp
   ·simp only[FzA,e9,e8,e7,e3,e2,e0]
    refine⟨.keep ?_ .nil,.keep trivial .nil,.keep ?_ .nil,.keep ?_ .nil,.keep ?_ .nil,.keep ?_ .nil,trivial⟩<;>simp[below]<;>omega
  refine aT (λh6=>?_) (λh6=>?_)
  ·have h6:n7=6:=by simpa using h6
   subst h6
   simp-implicitDefEqProofs[]
   refine(gr G 0).use ?_
   simp only[hnx]
   simp-implicitDefEqProofs[]
   exact fin5 _ _ _ _ (by simp) (by simp) (by simp) (by simp) (by simp) (by simp)
  ·exact fin5 _ _ _ _ (by simp) (by simp) (by simp) (by simp) (by simp) (by simp)
 clear tX tF tx0 aX s0 hBl
 rintro⟨q3,T2,x,y⟩ ⟨c1,c2,c3,c4,c5,c6⟩
 simp only at c1 c2 c3 c4 c5 c6
 have k2:∀i,i<T.length->T2[i]?=T[i]?:=λi hi=>c3.2 i hi (by simp)
 have k1:=c3.1
 have uX:T2[X]?=some (.row 1 [[.sl (fF+1) 3 0 l.length]]):=by rw[k2 X hXl];exact hA.tX
 have uF:T2[fF]?=some (.row 3 rowsF):=by rw[k2 fF lF];exact hA.tF
 have u0:T2[0]?=some (.row 1 [[.nils]]):=by rw[k2 0 lT];exact hA.t0
 have hxc:x.cs.length=5:=x.cs_len
 have lY:=(Zt.1 c4).1
 have hR2:∀q',RowOwn true (rdO b q'::T2) (fF+1) 3 rowsF (l1.map Fd.cs) J0:=λq'=>(KH (q':=q') hR0 λi hi=>(hJ0 i hi).1).frame λi hi=>by
  have h2:=(hJ0 i hi).1
  have hlt:i<T.length+1:=by
   rcases ZI.1 hi with rfl|hi
   ·have:=hR0.lt;simpa using this
   ·have:=hR0.own.lt hi;simpa using this
  obtain⟨k,rfl⟩:∃k,i=k+1:=⟨i-1,by omega⟩
  rw[ZF,ZF,k2 k (by omega)]
 have lF2:fF<T2.length:=by omega
 have vX:∀os,(T2++os)[X]?=some (.row 1 [[.sl (fF+1) 3 0 l.length]]):=λos=>by rw[Zv (by omega)];exact uX
 have vF:∀os,(T2++os)[fF]?=some (.row 3 rowsF):=λos=>by rw[Zv (by omega)];exact uF
 have v0:∀os,(T2++os)[0]?=some (.row 1 [[.nils]]):=λos=>by rw[Zv (by omega)];exact u0
 have vY:∀os,(T2++os)[y]?=some (.row 5 [x.cs.map .p]):=λos=>by rw[Zv lY];exact c4
 have hF2:=(hJ0 (fF+1) (by simp))
 have fF0:fF≠0:=by omega
 have fFX:fF≠X:=by omega
 have wX:∀os z,((T2++os).set fF z)[X]?=some (.row 1 [[.sl (fF+1) 3 0 l.length]]):=λos z=>by rw[Zx fFX];exact vX os
 have w0:∀os z,((T2++os).set fF z)[0]?=some (.row 1 [[.nils]]):=λos z=>by rw[Zx fF0];exact v0 os
 have z0:∀os z w,(((T2++os).set fF z).set 0 w)[0]?=some w:=λos z w=>ZJ (by simp;omega)
 obtain⟨A',B',IB',i1,i2,i3,i4,i5⟩:=zs (Oi (hR2 q3)) hgk
 rw[g1] at i1
 simp only[Option.some.injEq,List.cons.injEq,and_true,true_and] at i1
 obtain⟨rfl,rfl⟩:=i1
 have finB:∀(rows5:List (List AV)) (body':List Sm) (JB5:List Nat) (n5:Nat),n5=body'.length->rows5.length=body'.length->OwnL false (rdO b q3::T2) rows5.flatten (body'.map Sm.cs).flatten JB5->(∀e∈rows5,e.length=5)->JB5.Nodup->(∀j∈JB5,j∈IB')->an body'<=an f.body+100->
  DP b (PgQ p 900000000 400500100) (.ret (.agg [.sl (fF+1) 3 0 l.length])) (rdO b q3::(((T2++[AO.dead,AO.dead,AO.dead,AO.row 5 rows5]).set fF (.row 3 (rowsF.set (l.length-1) [.p (.str f.name),A,.sl (T2.length+3+1) 5 0 n5]))).set 0 (.row 1 [[.sl (fF+1) 3 0 l.length]]))):=λrows5 body' JB5 n5 e0 e1 e2 e3 e4 e5 e6=>by
  subst e0
  have eN:(rdO b q3::(T2++[AO.dead,AO.dead,AO.dead,AO.row 5 rows5]).set fF (.row 3 (rowsF.set (l.length-1) [.p (.str f.name),A,.sl (T2.length+3+1) 5 0 body'.length])))[T2.length+3+1]?=some (.row 5 rows5):=by
   rw[ZF,Zx (by omega),ZG (by omega)];simp
  have eO:OwnL false (rdO b q3::(T2++[AO.dead,AO.dead,AO.dead,AO.row 5 rows5]).set fF (.row 3 (rowsF.set (l.length-1) [.p (.str f.name),A,.sl (T2.length+3+1) 5 0 body'.length]))) rows5.flatten (body'.map Sm.cs).flatten JB5:=e2.frame λi hi=>by
   have h1:=e2.lt hi
   have h2:=(i4 i (e5 i hi)).2
   cases i with
   |zero=>rfl
   |succ i=>
    rw[ZF,ZF,Zx (by omega),Zv (by simpa using h1)]
  have tree:=OwnL.sl (T2.length+3+1) 5 body'.length rows5 (body'.map Sm.cs) eN (by simp) (by simpa using e1) e3 (λe he=>by obtain⟨x,_,rfl⟩:=ZN.1 he;simp) eO .nil
  rw[aar] at tree
  have hlt:∀j∈JB5,j<T2.length+1:=λj hj=>by have:=e2.lt hj;simpa using this
  obtain⟨J',r1,r2⟩:=i5 (rdO b q3::(T2++[AO.dead,AO.dead,AO.dead,AO.row 5 rows5]).set fF (.row 3 (rowsF.set (l.length-1) [.p (.str f.name),A,.sl (T2.length+3+1) 5 0 body'.length]))) _ body' _ (by
   rw[ZF,ZJ (by simp;omega)]) (λj j1 j2 j3=>by
   cases j with
   |zero=>rfl
   |succ j=>
    rw[ZF,ZF,Zx (by omega),Zv (by simpa using j1)]) tree
   (aak.2 ⟨λhm=>by have:=hlt _ hm;omega,e4⟩) (λj hj=>by
     rcases ZI.1 hj with rfl|hj
     ·exact .inr (by simp)
     ·exact .inl (e5 j hj))
  have hput:=Hf ⟨f.name,f.params,body'⟩ hgk
  have hz':(Fd.mk f.name f.params body').sz=1+f.name.length+(f.params.length+(f.params.map List.length).sum)+an body':=rfl
  refine endS false q3 _ _ J' _ r1 (λi hi=>?_) (by simp[hl1]) (by omega) (by omega) (by omega)
  rcases ZI.1 hi with rfl|hi
  ·exact hF2.1
  ·rcases r2 i hi with g|g
   ·exact(hJ0 i (by simp[g])).1
   ·simp at g;omega
 have v0g:∀os (hh:0<(T2++os).length),(T2++os)[0]= .row 1 [[.nils]]:=λos hh=>(Zt.1 (v0 os)).2
 have w0g:∀os z (hh:0<((T2++os).set fF z).length),((T2++os).set fF z)[0]= .row 1 [[.nils]]:=λos z hh=>(Zt.1 (w0 os z)).2
 have z0g:∀os z w (hh:0<(((T2++os).set fF z).set 0 w).length),(((T2++os).set fF z).set 0 w)[0]=w:=λos z w hh=>(Zt.1 (z0 os z w)).2
 rcases i2.inv i3 with⟨h0,_,rfl|rfl⟩|⟨_,rfl,_⟩|⟨idB,rowsB,JB,rfl,rfl,hB⟩
 ·have hb0:f.body.length=0:=by simpa using congrArg List.length h0
  have ha0:at_=0:=by omega
  subst ha0
  simp-implicitDefEqProofs[v0g,w0g,z0g,uX,uF,u0,c4, ↓vX, ↓vF, ↓v0, ↓vY, ↓wX, ↓w0, ↓z0,g1,hxc,pt,Zz (show x.cs.length<=5 by omega)]
  refine finB [x.cs.map .p] [x] [] 1 rfl rfl ?_ (by simp) .nil (by simp) ?_
  ·simpa using rN x.cs
  ·simp[an];omega
 ·have hb0:f.body.length=0:=by simpa using congrArg List.length h0
  have ha0:at_=0:=by omega
  subst ha0
  simp-implicitDefEqProofs[v0g,w0g,z0g,uX,uF,u0,c4, ↓vX, ↓vF, ↓v0, ↓vY, ↓wX, ↓w0, ↓z0,g1,hxc,pt,Zz (show x.cs.length<=5 by omega)]
  refine finB [x.cs.map .p] [x] [] 1 rfl rfl ?_ (by simp) .nil (by simp) ?_
  ·simpa using rN x.cs
  ·simp[an];omega
 ·have hD:f.body.map Sm.cs=[]:=by
   cases g2 with
   |p _ hq _=>
    have:=hq rfl
    cases hb:f.body with
    |nil=>rfl
    |cons a r=>rw[hb] at this;simp[smL,Rm] at this
  have hb0:f.body.length=0:=by simpa using congrArg List.length hD
  have ha0:at_=0:=by omega
  subst ha0
  rw[hD] at g1
  simp-implicitDefEqProofs[v0g,w0g,z0g,uX,uF,u0,c4, ↓vX, ↓vF, ↓v0, ↓vY, ↓wX, ↓w0, ↓z0,g1,hxc,pt,Zz (show x.cs.length<=5 by omega)]
  refine finB [x.cs.map .p] [x] [] 1 rfl rfl ?_ (by simp) .nil (by simp) ?_
  ·simpa using rN x.cs
  ·simp[an];omega
 ·have ha5:(fF+1)≠idB:=λe=>(i4 idB (by simp)).2 e.symm
  have hid2:=(hJ0 idB (by simp[(i4 idB (by simp)).1]))
  obtain⟨fB,rfl⟩:∃fB,idB=fB+1:=⟨idB-1,by omega⟩
  rw[ZU] at*
  have uB:T2[fB]?=some (.row 5 rowsB):=by have:=hB.here;simpa using this
  have lB:=(Zt.1 uB).1
  have hrl:rowsB.length=f.body.length:=by have:=hB.len;simpa using this
  have vB:∀os,(T2++os)[fB]?=some (.row 5 rowsB):=λos=>by rw[Zv (by omega)];exact uB
  simp-implicitDefEqProofs[v0g,w0g,z0g,uX,uF,u0,uB,c4, ↓vX, ↓vF, ↓v0, ↓vY, ↓vB, ↓wX, ↓w0, ↓z0,g1,hxc,pt,hat2,hrl,Zz (show x.cs.length<=5 by omega)]
  refine⟨⟨by omega,by omega⟩,⟨by omega,by omega⟩,⟨by omega,by omega⟩,?_⟩
  have q1:List.take (at_+1) (List.take at_ (List.take at_ rowsB)++[List.map AV.p x.cs])=rowsB.take at_++[x.cs.map .p]:=by
   rw[List.take_take,Nat.min_self,Zz (by simp;omega)]
  have q2:List.take (f.body.length-at_) (List.drop at_ rowsB)=rowsB.drop at_:=Zz (by simp[hrl])
  rw[q1,q2]
  have o1:=hB.own
  rw[←aab at_ rowsB,←aab at_ (f.body.map Sm.cs),aax,aax] at o1
  have hl5:((rowsB.take at_).flatten).length=(((f.body.map Sm.cs).take at_).flatten).length:=by
   rw[Aw.kW (sz:=5) (λe he=>hB.rl e (aah he)),Aw.kW (sz:=5) (λe he=>hB.dl e (aah he))]
   simp[hrl]
  obtain⟨Ia,Ib,hIab,o2,o3⟩:=OwnL.split o1 hl5
  have o4:=o2.app ((rN (h:=rdO b q3::T2) x.cs).app o3)
  rw[List.nil_append,←hIab] at o4
  have nB:=hB.nd
  rw[aak] at nB
  refine finB _ (f.body.take at_++x::f.body.drop at_) JB _ (by simp;omega) (by simp[hrl]) ?_ ?_ nB.2 (λj hj=>by simp[hj]) ?_
  ·simpa[aax,List.map_take,List.map_drop] using o4
  ·intro e he
   simp only[ZB,ZC] at he
   rcases he with(he|he)|he
   ·exact hB.rl e (aah he)
   ·rw[he];simp
   ·exact hB.rl e (List.mem_of_mem_drop he)
  ·have e1:an f.body=an (f.body.take at_)+an (f.body.drop at_):=by rw[←bu,aab]
   rw[bu,an]
   omega
end
section
theorem BA:AK.whole bK=FK.ak bL:=rfl
theorem Pq{c d:Nat}{e:Ex}(h:aQ c e=true)(hd:c<=d):aQ d e=true:=by
 obtain⟨k,rfl⟩:=Nat.le.dest hd
 clear hd
 induction k with
 |zero=>exact h
 |succ k ih=>exact rA ih
variable (G:am)
theorem Ks(hK:G cR=some cC)(hS:G bn=some [PV.tbl opK opV]){d:Nat}{e:Ex}(hf:aQ d e=true)(hd:d<=6)(hp30:e.parts<=30)(hz:e.sz<=1073741824):VF Tryz.prog G iz [.agg (e.cs.map .p)] (.agg ((fe e.op e.n e.name e.kids).cs.map .p)):=by
 have hc:=e.cs_eq
 have hxl:∀l,exL l= .lst 4 (l.map Ex.cs):=λ_=>rfl
 have hem:e= .mk e.op e.n e.name e.kids:=by cases e;rfl
 have hzz:=e.sz_eq
 have hpp:=e.parts_eq
 obtain⟨d,rfl⟩:=bB hf
 have hkf:∀a∈e.kids,aQ d a=true:=λa ha=>be hf ha
 have hks:∀a∈e.kids,a.sz<=1073741824:=λa ha=>by have:=aN ha;omega
 have hkx:∀a∈e.kids,io a=true:=λa ha=>by
  rw[io,ZE,decide_eq_true_eq]
  refine⟨Pq (hkf a ha) (by omega),?_⟩
  have:=mB ha;omega
 have hnc:∀q,(bW q).cs=[.int .i64 1,.int .i64 q,.str [],.lst 4 []]:=λq=>rfl
 refine AC.goK Bn BA ?_
 have w0:IntKind.i64.wrap 0=0:=ae (by omega) (by omega)
 have w1':IntKind.i64.wrap 1=1:=ae (by omega) (by omega)
 by_cases he:e.kids=[]\/e.op=13\/e.op=12
 ·have hp:fe e.op e.n e.name e.kids=e:=by
   unfold fe
   split
   ·exact hem.symm
   ·rcases he with h|h|h
    ·rw[h]
     conv=>rhs;rw[hem,h]
    ·rename_i hn;exact(hn (.inr h)).elim
    ·rename_i hn;exact(hn (.inl h)).elim
  rw[hp,hc]
  rcases he with h|h|h
  ·simp-implicitDefEqProofs[bK,bL,hc,hxl,h]
  ·by_cases hk:e.kids=[]
   ·simp-implicitDefEqProofs[bK,bL,hc,hxl,h,hk]
   ·have hk':¬(e.kids.length:Int)=0:=by
     intro h0;exact hk (List.length_eq_zero_iff.1 (by omega))
    simp-implicitDefEqProofs[bK,bL,hc,hxl,h,hk',hk]
  ·by_cases hk:e.kids=[]
   ·simp-implicitDefEqProofs[bK,bL,hc,hxl,h,hk]
   ·simp-implicitDefEqProofs[bK,bL,hc,hxl,h,hk]
 have hne:e.kids≠[]:=λh=>he (.inl h)
 have o13:¬e.op=13:=λh=>he (.inr (.inl h))
 have o12:¬e.op=12:=λh=>he (.inr (.inr h))
 by_cases o11:e.op=11
 ·obtain⟨l1,l2,_⟩:=dy hf
  rw[o11] at l1 l2
  have e1:loK 11=1:=rfl
  have e2:hiK 11=1:=rfl
  rw[e1] at l1
  rw[e2] at l2
  obtain⟨a,hk⟩:∃a,e.kids=[a]:=by
   match hx:e.kids,l1,l2 with
   |[x],_,_=>exact⟨x,rfl⟩
  have hac:=a.cs_eq
  have hp:fe e.op e.n e.name e.kids=jX e.op e.n e.name a:=by
   unfold fe
   rw[if_neg (by omega),hk]
  rw[hp]
  generalize hres:jX e.op e.n e.name a=res
  simp-implicitDefEqProofs[bK,bL,hc,hxl,o11,hk]
  refine ja (ah 122 [(1,.ptr 0 4 0 0),(2,.ptr 1 4 0 0),(3,.ptr 2 4 0 0),(4,.ptr 3 4 0 0)])
   [.row 4 [[.p (.int .i64 11),.p (.int .i64 e.n),.p (.str e.name),.p (.lst 4 [a.cs])]],.row 4 [[.p (.int .i64 0),.p (.int .i64 0),.p (.str []),.nils]],.row 4 [[.p (.int .i64 a.op),.p (.int .i64 a.n),.p (.str a.name),.p (exL a.kids)]],.row 4 [[.p (.int .i64 a.op),.p (.int .i64 a.n),.p (.str a.name),.p (exL a.kids)]]] ?_ ?_
  ·simp-implicitDefEqProofs[hac,w0]
   exact⟨ab (by simp) (by simp[okO,below]) (by simp[below]),ck [0,1,3,2] (by simp) (by decide) (by decide) (az rfl (by simp[below]) (az rfl (by simp[below]) (az rfl (by simp[below]) (az rfl (by simp[below]) aU)))) (by simp[below,ren])⟩
  refine rh (λ_:Unit=>ah 122 [(1,.ptr 0 4 0 0),(2,.ptr 1 4 0 0),(3,.ptr 2 4 0 0),(4,.ptr 3 4 0 0)]) (λ_=>[.row 4 [[.p (.int .i64 11),.p (.int .i64 e.n),.p (.str e.name),.p (.lst 4 [a.cs])]],.row 4 [[.p (.int .i64 0),.p (.int .i64 0),.p (.str []),.nils]],.row 4 [[.p (.int .i64 a.op),.p (.int .i64 a.n),.p (.str a.name),.p (exL a.kids)]],.row 4 [[.p (.int .i64 a.op),.p (.int .i64 a.n),.p (.str a.name),.p (exL a.kids)]]]) (λ_=>¬a.op=1) ?_ ?_
  ·by_cases a1:a.op=1
   ·rw[←hres,jX,if_pos a1]
    simp-implicitDefEqProofs[hac,a1]
    refine(HZ G _ _).use ?_
    simp-implicitDefEqProofs[]
    refine(mc G _).use ?_
    simp-implicitDefEqProofs[hnc]
   ·simp-implicitDefEqProofs[hac,a1]
    exact ab (by simp) (by simp[okO,below]) (by simp[below])
  intro _ a1
  have same:(∀c,a.kids=[c]->¬(e.op=11/\a.op=11/\c.op=11))->jX e.op e.n e.name a=e:=by
   intro h
   have h0:Ex.mk e.op e.n e.name [a]=e:=by rw[←hk];exact hem.symm
   unfold jX
   rw[if_neg a1]
   split
   ·rename_i c hc'
    split
    ·rename_i h3
     exact(h c hc' ⟨o11,h3⟩).elim
    ·exact h0
   ·exact h0
  by_cases a11:a.op=11
  ·have haf:=hkf a (by rw[hk];simp)
   obtain⟨l1,l2,_⟩:=dy haf
   rw[a11,e1] at l1
   rw[a11,e2] at l2
   obtain⟨c,hkc⟩:∃c,a.kids=[c]:=by
    match hx:a.kids,l1,l2 with
    |[x],_,_=>exact⟨x,rfl⟩
   have hcc:=c.cs_eq
   by_cases c11:c.op=11
   ·have hq:jX e.op e.n e.name a=c:=by
     unfold jX
     rw[if_neg a1,hkc]
     exact if_pos ⟨a11,c11⟩
    rw[←hres,hq]
    simp-implicitDefEqProofs[hac,a11,hxl,hkc,hcc,c11]
   ·rw[←hres,same (λx hx h=>by rw[hkc] at hx;cases hx;exact c11 h.2.2)]
    simp-implicitDefEqProofs[hc,hk,o11,hac,a11,hxl,hkc,hcc,c11]
  ·rw[←hres,same (λx hx h=>a11 h.2.1)]
   simp-implicitDefEqProofs[hc,hk,o11,hac,a11,hxl]
 obtain⟨a,b,hk⟩:∃a b,e.kids=[a,b]:=by
  obtain⟨l1,l2,l3,l4⟩:=dy hf
  have hln:0<e.kids.length:=List.length_pos_iff.2 hne
  have o1:¬(e.op=1\/e.op=2):=by
   intro h
   rw[hiK,if_pos h] at l2;omega
  have e1:loK e.op=2:=by rw[loK,if_neg o1,if_neg (by omega),if_neg (by omega)]
  have e2:hiK e.op=2:=by rw[hiK,if_neg o1,if_neg (by omega),if_neg (by omega)]
  rw[e1] at l1
  rw[e2] at l2
  match hx:e.kids,l1,l2 with
  |[a,b],_,_=>exact⟨a,b,rfl⟩
 obtain⟨h3,h10⟩:=DR hf hk (by omega)
 have hac:=a.cs_eq
 have hbc:=b.cs_eq
 have haf:=hkf a (by rw[hk];simp)
 have hbf:=hkf b (by rw[hk];simp)
 have hp:fe e.op e.n e.name e.kids=mw e.op e.n e.name a b:=by
  unfold fe
  rw[if_neg (by omega),hk]
 rw[hp]
 simp-implicitDefEqProofs[bK,bL,hc,hxl,o12,o13,hk]
 refine ja (ah 122 [(1,.ptr 0 4 0 0),(2,.ptr 1 4 0 0),(3,.ptr 2 4 0 0),(4,.ptr 3 4 0 0)])
  [.row 4 [[.p (.int .i64 e.op),.p (.int .i64 e.n),.p (.str e.name),.p (.lst 4 [a.cs,b.cs])]],.row 4 [[.p (.int .i64 0),.p (.int .i64 0),.p (.str []),.nils]],.row 4 [[.p (.int .i64 a.op),.p (.int .i64 a.n),.p (.str a.name),.p (exL a.kids)]],.row 4 [[.p (.int .i64 b.op),.p (.int .i64 b.n),.p (.str b.name),.p (exL b.kids)]]] ?_ ?_
 ·simp-implicitDefEqProofs[hac,hbc,w1']
  exact⟨ab (by simp) (by simp[okO,below]) (by simp[below]),ck [0,1,3,2] (by simp) (by decide) (by decide) (az rfl (by simp[below]) (az rfl (by simp[below]) (az rfl (by simp[below]) (az rfl (by simp[below]) aU)))) (by simp[below,ren])⟩
 refine rh (λ_:Unit=>ah 122 [(1,.ptr 0 4 0 0),(2,.ptr 1 4 0 0),(3,.ptr 2 4 0 0),(4,.ptr 3 4 0 0)]) (λ_=>[.row 4 [[.p (.int .i64 e.op),.p (.int .i64 e.n),.p (.str e.name),.p (.lst 4 [a.cs,b.cs])]],.row 4 [[.p (.int .i64 0),.p (.int .i64 0),.p (.str []),.nils]],.row 4 [[.p (.int .i64 a.op),.p (.int .i64 a.n),.p (.str a.name),.p (exL a.kids)]],.row 4 [[.p (.int .i64 b.op),.p (.int .i64 b.n),.p (.str b.name),.p (exL b.kids)]]]) (λ_=>(if a.op=1/\b.op=1 then ar5 e.op a.n b.n else none)=none) ?_ ?_
 ·by_cases a1:a.op=1
  ·by_cases b1:b.op=1
   ·have H:=BG G e.op a.n b.n h3 h10 (vV (kx haf)) (vV (kx hbf))
    have hp2:∀q,ar5 e.op a.n b.n=some q->mw e.op e.n e.name a b=bW q:=by
     intro q hq
     unfold mw
     rw[if_pos ⟨a1,b1⟩,hq]
    cases hq:ar5 e.op a.n b.n with
    |none=>
     rw[hq] at H
     simp only[zz] at H
     simp-implicitDefEqProofs[a1,b1,hac,hbc]
     refine H.use ?_
     simp-implicitDefEqProofs[hq]
     exact ab (by simp) (by simp[okO,below]) (by simp[below])
    |some q=>
     rw[hq] at H
     simp only[zz] at H
     rw[hp2 q hq]
     simp-implicitDefEqProofs[a1,b1,hac,hbc]
     refine H.use ?_
     simp-implicitDefEqProofs[]
     refine(mc G _).use ?_
     simp-implicitDefEqProofs[hnc]
   ·simp-implicitDefEqProofs[a1,b1,hac,hbc]
    exact ab (by simp) (by simp[okO,below]) (by simp[below])
  ·simp-implicitDefEqProofs[a1,hac,hbc]
   exact ab (by simp) (by simp[okO,below]) (by simp[below])
 intro _ hn
 have hp2:mw e.op e.n e.name a b=if e.op=10/\isN a 0=true then bW 0 else if(e.op=3\/e.op=4)/\isN b 0=true\/(e.op=5\/e.op=6)/\isN b 1=true then a else if e.op=3/\isN a 0=true\/e.op=5/\isN a 1=true then b
  else if e.op=5/\(isN b 0=true/\dm a=true\/isN a 0=true/\dm b=true) then bW 0 else e:=by
  unfold mw
  rw[hn]
  simp only
  rw[←hk,←hem]
 rw[hp2]
 have HA0:=BS G a 0
 have HA1:=BS G a 1
 have HB0:=BS G b 0
 have HB1:=BS G b 1
 have HSA:=Dk G hK hS (hkx a (by rw[hk];simp)) (hks a (by rw[hk];simp))
 have HSB:=Dk G hK hS (hkx b (by rw[hk];simp)) (hks b (by rw[hk];simp))
 rw[hac] at HA0 HA1 HSA
 rw[hbc] at HB0 HB1 HSB
 simp only[ZT,aaz,hxl] at HA0 HA1 HB0 HB1 HSA HSB
 simp only[hac,hbc,hxl]
 have ho:e.op=3\/e.op=4\/e.op=5\/e.op=6\/e.op=7\/e.op=8\/e.op=9\/e.op=10:=by omega
 rcases ho with ho|ho|ho|ho|ho|ho|ho|ho
 ·simp-implicitDefEqProofs[ho]
  refine HB0.use ?_
  by_cases hhb0:isN b 0=true
  ·simp-implicitDefEqProofs[hhb0,ho,hc,hxl,hk,hac,hbc]
  ·simp-implicitDefEqProofs[hhb0,ho,hc,hxl,hk,hac,hbc]
   refine HA0.use ?_
   by_cases hha0:isN a 0=true
   ·simp-implicitDefEqProofs[hha0,ho,hc,hxl,hk,hac,hbc]
   ·simp-implicitDefEqProofs[hha0,ho,hc,hxl,hk,hac,hbc]
 ·simp-implicitDefEqProofs[ho]
  refine HB0.use ?_
  by_cases hhb0:isN b 0=true
  ·simp-implicitDefEqProofs[hhb0,ho,hc,hxl,hk,hac,hbc]
  ·simp-implicitDefEqProofs[hhb0,ho,hc,hxl,hk,hac,hbc]
 ·simp-implicitDefEqProofs[ho]
  refine HB1.use ?_
  by_cases hhb1:isN b 1=true
  ·simp-implicitDefEqProofs[hhb1,ho,hc,hxl,hk,hac,hbc]
  ·simp-implicitDefEqProofs[hhb1,ho,hc,hxl,hk,hac,hbc]
   refine HA1.use ?_
   by_cases hha1:isN a 1=true
   ·simp-implicitDefEqProofs[hha1,ho,hc,hxl,hk,hac,hbc]
   ·simp-implicitDefEqProofs[hha1,ho,hc,hxl,hk,hac,hbc]
    refine HB0.use ?_
    by_cases hhb0:isN b 0=true
    ·simp-implicitDefEqProofs[hhb0,ho,hc,hxl,hk,hac,hbc]
     refine HSA.use ?_
     by_cases hhsa:dm a=true
     ·simp-implicitDefEqProofs[hhsa,ho,hc,hxl,hk,hac,hbc]
      refine(mc G _).use ?_
      simp-implicitDefEqProofs[hnc]
     ·simp-implicitDefEqProofs[hhsa,ho,hc,hxl,hk,hac,hbc]
      refine HA0.use ?_
      by_cases hha0:isN a 0=true
      ·simp-implicitDefEqProofs[hha0,ho,hc,hxl,hk,hac,hbc]
       refine HSB.use ?_
       by_cases hhsb:dm b=true
       ·simp-implicitDefEqProofs[hhsb,ho,hc,hxl,hk,hac,hbc]
        refine(mc G _).use ?_
        simp-implicitDefEqProofs[hnc]
       ·simp-implicitDefEqProofs[hhsb,ho,hc,hxl,hk,hac,hbc]
      ·simp-implicitDefEqProofs[hha0,ho,hc,hxl,hk,hac,hbc]
    ·simp-implicitDefEqProofs[hhb0,ho,hc,hxl,hk,hac,hbc]
     refine HA0.use ?_
     by_cases hha0:isN a 0=true
     ·simp-implicitDefEqProofs[hha0,ho,hc,hxl,hk,hac,hbc]
      refine HSB.use ?_
      by_cases hhsb:dm b=true
      ·simp-implicitDefEqProofs[hhsb,ho,hc,hxl,hk,hac,hbc]
       refine(mc G _).use ?_
       simp-implicitDefEqProofs[hnc]
      ·simp-implicitDefEqProofs[hhsb,ho,hc,hxl,hk,hac,hbc]
     ·simp-implicitDefEqProofs[hha0,ho,hc,hxl,hk,hac,hbc]
 ·simp-implicitDefEqProofs[ho]
  refine HB1.use ?_
  by_cases hhb1:isN b 1=true
  ·simp-implicitDefEqProofs[hhb1,ho,hc,hxl,hk,hac,hbc]
  ·simp-implicitDefEqProofs[hhb1,ho,hc,hxl,hk,hac,hbc]
 ·simp-implicitDefEqProofs[ho,hc,hxl,hk,hac,hbc]
 ·simp-implicitDefEqProofs[ho,hc,hxl,hk,hac,hbc]
 ·simp-implicitDefEqProofs[ho,hc,hxl,hk,hac,hbc]
 ·simp-implicitDefEqProofs[ho]
  refine HA0.use ?_
  by_cases hha0:isN a 0=true
  ·simp-implicitDefEqProofs[hha0,ho,hc,hxl,hk,hac,hbc]
   refine(mc G _).use ?_
   simp-implicitDefEqProofs[hnc]
  ·simp-implicitDefEqProofs[hha0,ho,hc,hxl,hk,hac,hbc]
end
section
theorem ko{α β:Type}(f:α->β):∀(l:List α) (u:Unit),bG (λ(st:Unit) x=>(f x,st)) u l=(l.map f,u)
 |[],u=>rfl
 |x::r,u=>by rw[bG,ko f r];rfl
def Ku(f:FuncId)(h:List AO)(hh:∀o∈h,okO h.length o):Vis Unit where
 I:=λ_=>h
 n:=h.length
 F:=f
 caps:=[]
 len:=λ_=>rfl
 ok:=λ_=>hh
 capsOk:=trivial
variable (G:am)
theorem UF(hK:G cR=some cC)(hS:G bn=some [PV.tbl opK opV]):∀(d:Nat) (e:Ex),aQ d e=true->d<=6->e.parts<=30->e.sz<=1073741824->VF Tryz.prog G iV [.agg (e.cs.map .p)] (.agg ((de e).cs.map .p)):=by
 intro d
 induction d with
 |zero=>intro e h;cases h
 |succ d ih=>
  intro e hf hd hp hz
  have hc:=e.cs_eq
  have hpp:=e.parts_eq
  have hzz:=e.sz_eq
  have hlen:=aZ e.kids
  rw[dh]
  refine AC.go Hq ?_
  simp-implicitDefEqProofs[Bc,hc]
  have HM:=sQ G (Ku iV [.row 4 [[.p (.int .i64 e.op),.p (.int .i64 e.n),.p (.str e.name),.p (exL e.kids)]],.row 4 [[.p (.int .i64 0),.p (.int .i64 0),.p (.str []),.nils]]] (by simp[okO,below])) (λ(st:Unit) x=>(de x,st)) (λ_ _=>True) e.kids (by omega) (by show 0<2;omega)
   (λi st hi _=>⟨trivial,by
     have hk:=ZD hi
     have h1:=mB hk
     have h2:=aN hk
     exact(ih e.kids[i] (be hf hk) (by omega) (by omega) (by omega)).ac (by simp[below]) (by simp[below]) _⟩) () trivial
  rw[ko,←cW] at HM
  refine HM.mono ?_
  rintro r h ⟨rfl,rfl⟩
  have H:VF Tryz.prog G iz [.agg [.p (.int .i64 e.op),.p (.int .i64 e.n),.p (.str e.name),.p (exL (aJ e.kids))]] (.agg ((fe e.op e.n e.name (aJ e.kids)).cs.map .p)):=by
   have h2:=pf e.kids
   have h3:=Ah e.kids
   have H0:=Ks G hK hS (bD hf) hd (by rw[Ex.parts_eq];show 1+fL (aJ e.kids)<=30;omega) (by
    rw[Ex.sz_eq]
    show 1+e.name.length+bj (aJ e.kids)<=_
    omega)
   rw[Ex.cs_eq (.mk e.op e.n e.name (aJ e.kids))] at H0
   exact H0
  simp-implicitDefEqProofs[aa,Ku]
  refine H.use ?_
  have hq:=(fe e.op e.n e.name (aJ e.kids)).cs_eq
  rw[hq]
  simp-implicitDefEqProofs[]
end
section
def inS(H:List Sm->List Sm)(x:Sm):Sm:= .mk x.op x.name x.args (H x.body) (H x.els)
variable (G:am)
end
section
def ra(x:Sm):Sm:= .mk x.op x.name (aJ x.args) x.body x.els
theorem PT(x:Sm):(ra x).cs=[.int .i64 x.op,.str x.name,exL (aJ x.args),smL x.body,smL x.els]:=by rw[Sm.cs_eq];rfl
variable (G:am)
theorem NB(hK:G cR=some cC)(hS:G bn=some [PV.tbl opK opV])(l:List Sm)(hf:∀x∈l,∀a∈x.args,io a=true)(hz:an l<=1073741824):
 AC Tryz.prog G aS [.sl 0 5 0 l.length] [.row 5 (smR l)] λx h=>x= .ret (.sl 0 5 0 l.length)/\h=[.row 5 (smR (l.map ra))]:=by
 have hll:=bC l
 have hxl:∀l,exL l= .lst 4 (l.map Ex.cs):=λ_=>rfl
 let L:Nat->List Sm:=λi=>(l.take i).map ra++l.drop i
 have hLl:∀i,i<=l.length->(L i).length=l.length:=λi hi=>by simp[L];omega
 have hLg:∀i,i<l.length->(L i)[i]?=l[i]?:=λi hi=>by
  have:((l.take i).map ra).length=i:=by simp;omega
  rw[ZG (by omega),this,Nat.sub_self,aaw,Nat.add_zero]
 have hLs:∀i f,l[i]?=some f->(L i).set i (ra f)=L (i+1):=λi f hi=>by
  have hil:=(Zt.1 hi).1
  have hlen:((l.take i).map ra).length=i:=by simp;omega
  show((l.take i).map ra++l.drop i).set i (ra f)=(l.take (i+1)).map ra++l.drop (i+1)
  rw[List.set_append_right _ _ (by omega),hlen,Nat.sub_self,aas hil,List.set_cons_zero,al hil,List.map_append,ZZ]
  have:l[i]=f:=by rw[Zu hil] at hi;exact Option.some.inj hi
  rw[this];rfl
 have hL0:L 0=l:=by simp[L]
 have hLe:L l.length=l.map ra:=by
  show(l.take l.length).map ra++l.drop l.length=_
  rw[aad,List.drop_length,aar]
 generalize hLL:L=L2 at hLl hLg hLs hL0 hLe
 refine AC.go kV ?_
 simp-implicitDefEqProofs[gn]
 refine aI (λi:Nat=>ah 21 [(0,.sl 0 5 0 l.length),(5,.p (.int .i64 l.length)),(6,.p (.int .i64 i))]) (λi=>[.row 5 (smR (L2 i))]) (λi=>i<=l.length) (λi=>l.length-i) 0 (by simp) ?_ ?_
 ·rw[hL0]
  exact ck [0] (by simp) (by decide) (by decide) (az rfl (aY l) aU) (by simp[below,ren])
 intro i hi
 have hfl2:=ed (L2 i)
 rw[hLl i hi] at hfl2
 simp-implicitDefEqProofs[]
 refine aT (λh=>?_) (λh=>?_)
 ·simp at h
  have hg:=Zu h
  have hm:=ZD h
  have hse:=l[i].cs_eq
  have hgi:(smR (L2 i))[i]?=some [.p (.int .i64 l[i].op),.p (.str l[i].name),.p (exL l[i].args),.p (smL l[i].body),.p (smL l[i].els)]:=by
   rw[smR,ZK,hLg i h,hg,Option.map_some,hse];rfl
  have hst:=hLs i l[i] hg
  have hfz:=cA hm
  have hfb:=hf l[i] hm
  generalize l[i]=s at hg hm hgi hst hfz hfb hse
  have hsz:=s.sz_eq
  have hal:=aZ s.args
  have hok:∀o∈[AO.row 5 (smR (L2 i))],okO [AO.row 5 (smR (L2 i))].length o:=ag (ce (aY _)) dN
  have HM:=sQ G (Ku iV [.row 5 (smR (L2 i))] hok) (λ(st:Unit) x=>(de x,st)) (λ_ _=>True) s.args (by omega) (by show 0<1;omega)
   (λj st hj _=>⟨trivial,by
     have hk:=ZD hj
     have h1:=hfb _ hk
     have h2:=aN hk
     rw[io,ZE,decide_eq_true_eq] at h1
     exact(UF G hK hS 6 s.args[j] h1.1 (by omega) h1.2 (by omega)).ac (by simp[below]) (by simp[below]) _⟩) () trivial
  rw[ko,←cW] at HM
  have hst2:(smR (L2 i)).set i [.p (.int .i64 s.op),.p (.str s.name),.p (exL (aJ s.args)),.p (smL s.body),.p (smL s.els)]=smR (L2 (i+1)):=by
   rw[←hst,smR,smR,List.map_set,PT];rfl
  simp-implicitDefEqProofs[hfl2,hgi]
  refine⟨h,?_⟩
  refine HM.mono ?_
  rintro r h' ⟨rfl,rfl⟩
  simp-implicitDefEqProofs[aa,Ku,hfl2,hgi,hst2]
  refine⟨h,i+1,by omega,by omega,ck [0] (by simp) (by decide) (by decide) (az rfl (aY _) aU) (by simp[below,ren,w1 (i:=i) (by omega)])⟩
 ·simp at h
  have hie:i=l.length:=by omega
  subst hie
  rw[hLe]
  simp-implicitDefEqProofs[]
theorem JO:AC Tryz.prog G aS [.nils] [] λx h=>x= .ret .nils:=by
 refine AC.go kV ?_
 simp-implicitDefEqProofs[gn]
 refine aI (λ_:Unit=>ah 21 [(0,.nils),(5,.p (.int .i64 0)),(6,.p (.int .i64 0))]) (λ_=>[]) (λ_=>True) (λ_=>0) () trivial ?_ ?_
 ·exact ab (by simp) (by simp) (by simp[below])
 intro _ _
 simp-implicitDefEqProofs[]
end
section
variable (G:am)
theorem Gh:∀(N:Nat) (e:Ex),e.sz<=N->e.sz<=1073741824->VF Tryz.prog G cI [.agg (e.cs.map .p)] (.agg (e.cs.map .p)):=by
 intro N
 induction N with
 |zero=>intro e h;have:=e.sz_eq;omega
 |succ N ih=>
  intro e he hz
  have hc:=e.cs_eq
  have hzz:=e.sz_eq
  have hlen:=aZ e.kids
  refine AC.go zX ?_
  simp-implicitDefEqProofs[oV,hc]
  have HM:=sQ G (Ku cI [.row 4 [[.p (.int .i64 e.op),.p (.int .i64 e.n),.p (.str e.name),.p (exL e.kids)]],.row 4 [[.p (.int .i64 0),.p (.int .i64 0),.p (.str []),.nils]]] (by simp[okO,below])) (λ(st:Unit) x=>(x,st)) (λ_ _=>True) e.kids (by omega) (by show 0<2;omega)
   (λi st hi _=>⟨trivial,by
     have h2:=aN (ZD hi)
     exact(ih e.kids[i] (by omega) (by omega)).ac (by simp[below]) (by simp[below]) _⟩) () trivial
  rw[show(λ(st:Unit) (x:Ex)=>(x,st))=(λ(st:Unit) x=>(id x,st)) from rfl,ko,List.map_id] at HM
  refine HM.mono ?_
  rintro r h ⟨rfl,rfl⟩
  simp-implicitDefEqProofs[aa,Ku]
def cH(l:List Fd)(B:AV):List AO:=[.row 1 [[.p (fdL l)]],.row 1 [[B]],.row 1 [[.nils]],.row 1 [[.fn (.func aO) [.ptr 1 1 0 0,.ptr 3 1 0 0]]]]
theorem Qo(l:List Fd){B:AV}(hB:below 0 B){m:Nat}(hm:4<=m):∀o∈cH l B,okO m o:=by
 have hb:=aL (Nat.zero_le m) [B] ⟨hB,trivial⟩
 refine ag (by simp[okO,below]) (ag (by intro e he;rw[ZC.1 he];exact hb) (ag (by simp[okO,below]) (ag ?_ dN)))
 intro e he
 rw[ZC.1 he]
 simp only[aj,below]
 exact⟨⟨by omega,by omega,trivial⟩,trivial⟩
def RZ(l:List Fd)(B:AV)(hB:below 0 B)(F:FuncId)(caps:List AV)(hc:aj 4 caps):Vis Unit where
 I:=λ_=>cH l B
 n:=4
 F:=F
 caps:=caps
 len:=λ_=>rfl
 ok:=λ_=>Qo l hB (ZH _)
 capsOk:=hc
def AJ(l0:List Fd)(B:AV)(H:List Sm->List Sm)(l:List Sm):Prop:=AC Tryz.prog G aO [.p (smL l),.ptr 1 1 0 0,.ptr 3 1 0 0] (cH l0 B) λx h=>x= .ret (.p (smL (H l)))/\h=cH l0 B
theorem GV(l0:List Fd){B:AV}(hB:below 0 B)(H:List Sm->List Sm)(s:Sm)(hz:s.sz<=1073741824)(hb:AJ G l0 B H s.body)(he:AJ G l0 B H s.els):
 AC Tryz.prog G dM [.agg (s.cs.map .p),.ptr 3 1 0 0] (cH l0 B) λx h=>x= .ret (.agg ((inS H s).cs.map .p))/\h=cH l0 B:=by
 have hcs:=s.cs_eq
 have hzz:=s.sz_eq
 have hlen:=aZ s.args
 have hic:(inS H s).cs=[.int .i64 s.op,.str s.name,exL s.args,smL (H s.body),smL (H s.els)]:=by rw[Sm.cs_eq];rfl
 let V:=RZ l0 B hB aO [] trivial
 refine V.trim G (st:=()) (st':=()) (AC.go vv ?_) (by rw[hic];simp[below])
 have hI:V.I ()=cH l0 B:=rfl
 have hl4:(cH l0 B).length=4:=rfl
 have hg3:∀r:List AO,(cH l0 B++r)[3]?=some (.row 1 [[.fn (.func aO) [.ptr 1 1 0 0,.ptr 3 1 0 0]]]):=λr=>rfl
 have hg30:∀h:3<(cH l0 B).length,(cH l0 B)[3]= .row 1 [[.fn (.func aO) [.ptr 1 1 0 0,.ptr 3 1 0 0]]]:=λ_=>rfl
 have hVp:∀(l:List Sm),AJ G l0 B H l->∀rest,AC Tryz.prog G aO [.p (smL l),.ptr 1 1 0 0,.ptr 3 1 0 0] (cH l0 B++rest) λx h=>x= .ret (.p (smL (H l)))/\h=cH l0 B++rest:=λl w rest=>
  V.pre G (st:=()) (st':=()) w rest ⟨by simp[below],by simp only[below];show 1<4;omega,by simp only[below];show 3<4;omega,trivial⟩
 have hCl:∀rest,(∀o∈rest,okO 0 o)->AC Tryz.prog G aW [.p (exL s.args),.fn (.func cI) []] (cH l0 B++rest) λx h=>x= .ret (.p (exL s.args))/\h=cH l0 B++rest:=by
  intro rest hr
  have hok:∀o∈cH l0 B++rest,okO (cH l0 B++rest).length o:=by
   intro o ho
   rcases ZB.1 ho with h|h
   ·exact Qo l0 hB (by rw[ZM,hl4];omega) o h
   ·exact ce (hr o h)
  have HM:=sQ G (Ku cI (cH l0 B++rest) hok) (λ(st:Unit) x=>(id x,st)) (λ_ _=>True) s.args (by omega) (by show 0<(cH l0 B++rest).length;rw[ZM,hl4];omega)
   (λi st hi _=>⟨trivial,by
     have h2:=aN (ZD hi)
     exact(Gh G _ s.args[i] (ZH _) (by omega)).ac (by simp[below]) (by simp[below]) _⟩) () trivial
  rw[ko,List.map_id] at HM
  exact HM
 rw[hI]
 generalize hh:cH l0 B=C at*
 rw[hic]
 simp-implicitDefEqProofs[mO,hcs,hl4,hg30]
 refine(hCl _ (by simp[okO])).mono ?_
 rintro r h ⟨rfl,rfl⟩
 simp-implicitDefEqProofs[aa,hl4,hg30]
 refine(hVp _ hb _).mono ?_
 rintro r h ⟨rfl,rfl⟩
 simp-implicitDefEqProofs[aa,hl4,hg30]
 refine(hVp _ he _).mono ?_
 rintro r h ⟨rfl,rfl⟩
 simp-implicitDefEqProofs[aa,hl4,hg30]
theorem Pv(l:List (List UInt8))(hl:l.length<=1073741824):VF Tryz.prog G dO [.p (au l)] (.p (au l)):=by
 have hsl:au l= .lst 1 (l.map λw=>[.str w]):=rfl
 have key:AC Tryz.prog G dO [.p (au l)] [] λx h=>∃v,x= .ret v/\View h v (au l):=by
  refine AC.go re ?_
  simp-implicitDefEqProofs[jZ,hsl]
  cases l with
  |nil=>
   simp[KQ]
   exact⟨.nils 1,fJ (l:=[]) rfl⟩
  |cons w r=>
   simp only[ZO] at hl
   simp[KQ]
   exact⟨⟨by omega,by omega⟩,fJ (l:=w::r) rfl⟩
 refine key.freezeR (λt v h ⟨_,e,_⟩=>by cases e) λv h ⟨u,e1,e2⟩=>?_
 cases e1
 exact .one e2 .nil
theorem JW(l0:List Fd){B:AV}(hB:below 0 B)(H:List Sm->List Sm)(f:Fd)(hz:f.sz<=1073741824)(hb:AJ G l0 B H f.body):
 AC Tryz.prog G eV [.agg (f.cs.map .p),.ptr 3 1 0 0] (cH l0 B) λx h=>x= .ret (.agg ((eaF H f).cs.map .p))/\h=cH l0 B:=by
 have hcs:f.cs=[.str f.name,au f.params,smL f.body]:=rfl
 have hic:(eaF H f).cs=[.str f.name,au f.params,smL (H f.body)]:=rfl
 have hfz:f.sz=1+f.name.length+(f.params.length+(f.params.map List.length).sum)+an f.body:=rfl
 let V:=RZ l0 B hB aO [] trivial
 refine V.trim G (st:=()) (st':=()) (AC.go Aj ?_) (by rw[hic];simp[below])
 have hI:V.I ()=cH l0 B:=rfl
 have hl4:(cH l0 B).length=4:=rfl
 have hg30:∀h:3<(cH l0 B).length,(cH l0 B)[3]= .row 1 [[.fn (.func aO) [.ptr 1 1 0 0,.ptr 3 1 0 0]]]:=λ_=>rfl
 have hVp:∀rest,AC Tryz.prog G aO [.p (smL f.body),.ptr 1 1 0 0,.ptr 3 1 0 0] (cH l0 B++rest) λx h=>x= .ret (.p (smL (H f.body)))/\h=cH l0 B++rest:=λrest=>
  V.pre G (st:=()) (st':=()) hb rest ⟨by simp[below],by simp only[below];show 1<4;omega,by simp only[below];show 3<4;omega,trivial⟩
 rw[hI]
 generalize hh:cH l0 B=C at*
 rw[hic]
 simp-implicitDefEqProofs[oL,hcs,hl4,hg30]
 refine(Pv G f.params (by omega)).use ?_
 simp-implicitDefEqProofs[hl4,hg30]
 refine(hVp _).mono ?_
 rintro r h ⟨rfl,rfl⟩
 simp-implicitDefEqProofs[aa,hl4,hg30]
end
section
variable (G:am)
theorem JD{σ:Type}(V:Vis σ)(g:σ->Sm->Sm × σ)(inv:Nat->σ->Prop)(l:List Sm)(hb:l.length<=1073741824)(hn:0<V.n)
 (hv:∀(i:Nat) st (h:i<l.length),inv i st->inv (i+1) (g st l[i]).2/\AC Tryz.prog G V.F (.agg (l[i].cs.map .p)::V.caps) (V.I st) λx h'=>x= .ret (.agg ((g st l[i]).1.cs.map .p))/\h'=V.I (g st l[i]).2)(st:σ)(h0:inv 0 st):
 AC Tryz.prog G bR [.p (smL l),.fn (.func V.F) V.caps] (V.I st) λx h=>x= .ret (slE V.n 5 (smR (bG g st l).1))/\h=V.I (bG g st l).2++[bs 5 (smR (bG g st l).1)]:=by
 have hxl:∀l,smL l= .lst 5 (l.map Sm.cs):=λ_=>rfl
 have hlen:=V.len
 have hcb:=V.capsOk
 have hinv:∀i,i<=l.length->inv i (bG g st (l.take i)).2:=λi hi=>by
  have:=vS (g:=g) (inv:=inv) (l:=l) (st:=st) (k:=0) h0 (λi st h hi=>by
   rw[aao] at hi⊢;exact(hv i st h hi).1) i hi
  rwa[aao] at this
 have hRp:∀l:List Sm,∀x∈smR l,aj 0 x:=aY
 have hRl:∀l:List Sm,(smR l).length=l.length:=λl=>by simp[smR]
 have hRa:∀(l:List Sm) (y:Sm),smR (l++[y])=smR l++[y.cs.map .p]:=λl y=>by simp[smR]
 have key:AC Tryz.prog G bR [.p (smL l),.fn (.func V.F) V.caps] (V.I st) λx h=>x= .ret (slE V.n 5 (smR (bG g st l).1))/\h=V.I (bG g st l).2++[bs 5 (smR (bG g st l).1)]:=by
  refine AC.go oX ?_
  simp-implicitDefEqProofs[iX,hxl]
  refine aI (λi:Nat=>ah 22 [(5,slE V.n 5 (smR (bG g st (l.take i)).1)),(0,.p (smL l)),(1,.fn (.func V.F) V.caps),(8,.p (smL l)),(9,.p (.int .i64 l.length)),(10,.p (.int .i64 i))])
   (λi=>V.I (bG g st (l.take i)).2++[bs 5 (smR (bG g st (l.take i)).1)]) (λi=>i<=l.length) (λi=>l.length-i) 0 (by simp) ?_ ?_
  ·have e:bs 5 (smR (bG g st (l.take 0)).1)= .dead:=rfl
   rw[e]
   exact kZ (by rw[hlen];exact ZH _) (by rw[hlen];exact hn) (by rw[hlen];exact V.ok st) (by simp[below,hxl,hcb,hlen,bG,smR,pR])
  intro i hi
  have hT:=λh=>zL (g:=g) (l:=l) (st:=st) (i:=i) h
  have hi2:=hinv i hi
  have hml:=yK g (l.take i) st
  rw[ZS,Nat.min_eq_left hi] at hml
  generalize hcur:bG g st (l.take i)=cur at hT hi2 hml⊢
  obtain⟨out,s⟩:=cur
  simp only at hT hi2 hml⊢
  simp-implicitDefEqProofs[hxl]
  refine aT (λhc=>?_) (λhc=>?_)
  ·simp at hc
   have hg:=Zu hc
   have hT:=hT hc
   obtain⟨_,hA⟩:=hv i s hc hi2
   generalize l[i]=x at hg hT hA
   have hkc:=x.cs_eq
   have hyc:=(g s x).1.cs_eq
   rw[hkc] at hA
   simp-implicitDefEqProofs[hg,hkc,hlen]
   refine(V.pre G hA _ ⟨by simp[below],hcb⟩).mono ?_
   rintro r h ⟨rfl,rfl⟩
   rw[hyc]
   simp-implicitDefEqProofs[aa,hlen]
   have hol:=hRl out
   refine⟨⟨by omega,by omega⟩,i+1,hc,by omega,?_⟩
   rw[hT]
   simp only[hRa]
   rw[tf _ (by simp),pw _ (by simp),hyc]
   refine KP (mid:=[_,_,_]) (s:=[]) (hlen _) rfl (ZH _) (V.ok _) ?_ ?_ ?_
   ·intro x hx
    rcases ZB.1 hx with h|h
    ·exact hRp _ x h
    ·rw[ZC.1 h];simp
   ·simp[below,hxl,hcb,w1 (i:=i) (by omega)]
   ·simp
  ·simp at hc
   have hie:i=l.length:=by omega
   subst hie
   rw[aad] at hcur
   rw[hcur]
   simp-implicitDefEqProofs[]
 exact key
theorem QN(l:List Sm):(l.map (inS aC)).map ra=aC l:=by
 rw[iW,List.map_map]
 refine ZR λx _=>?_
 rw[cb];rfl
def FB:AV:= .fn (.func aS) []
theorem zB(hK:G cR=some cC)(hS:G bn=some [PV.tbl opK opV])(l0:List Fd)(l:List Sm)(hf:∀x∈l,∀a∈x.args,io a=true)(hz:an l<=1073741824)(hz2:an (l.map (inS aC))<=1073741824)(ih:∀x∈l,AJ G l0 FB aC x.body/\AJ G l0 FB aC x.els):AJ G l0 FB aC l:=by
 have hll:=bC l
 have hB:below 0 FB:=by simp[FB,below]
 let V:=RZ l0 FB hB dM [.ptr 3 1 0 0] (by simp[below])
 have hl4:(cH l0 FB).length=4:=rfl
 have HM:=JD G V (λ(st:Unit) x=>(inS aC x,st)) (λ_ _=>True) l (by omega) (by show 0<4;omega)
  (λi st hi _=>⟨trivial,by
    have hm:=ZD hi
    have h2:=cA hm
    exact GV G l0 hB aC l[i] (by omega) (ih _ hm).1 (ih _ hm).2⟩) () trivial
 rw[ko] at HM
 have HM2:AC Tryz.prog G bR [.p (smL l),.fn (.func dM) [.ptr 3 1 0 0]] (cH l0 FB) λx h=>x= .ret (slE 4 5 (smR (l.map (inS aC))))/\h=cH l0 FB++[bs 5 (smR (l.map (inS aC)))]:=HM
 have key:AC Tryz.prog G aO [.p (smL l),.ptr 1 1 0 0,.ptr 3 1 0 0] (cH l0 FB) λx h=>x= .ret (slE 4 5 (smR (aC l)))/\∃r,h=cH l0 FB++bs 5 (smR (aC l))::r:=by
  refine AC.go Ad ?_
  have hg10:∀h:1<(cH l0 FB).length,(cH l0 FB)[1]= .row 1 [[.fn (.func aS) []]]:=λ_=>rfl
  generalize hh:cH l0 FB=C at*
  simp-implicitDefEqProofs[pi,hl4,hg10]
  refine HM2.mono ?_
  rintro r h ⟨rfl,rfl⟩
  simp-implicitDefEqProofs[aa,hl4,hg10]
  cases l with
  |nil=>
   have e0:smR (([]:List Sm).map (inS aC))=[]:=rfl
   have e1:smR (aC [])=[]:=rfl
   rw[e1]
   simp-implicitDefEqProofs[pR,zE,smR]
   refine(VF.ac (r:= .nils) (JO G) (by simp[below]) (by simp[below]) _).mono ?_
   rintro r h ⟨rfl,rfl⟩
   simp-implicitDefEqProofs[aa]
  |cons x r=>
   have hf2:∀y∈(x::r).map (inS aC),∀a∈y.args,io a=true:=λy hy=>by
    obtain⟨q,hq,rfl⟩:=ZN.1 hy
    exact hf q hq
   have HB:=NB G hK hS ((x::r).map (inS aC)) hf2 hz2
   rw[QN] at HB
   have hnl:((x::r).map (inS aC)).length=(x::r).length:=ZU _
   have hfl:=vg (x::r)
   have hne:smR ((x::r).map (inS aC))≠[]:=by simp[smR]
   have hne2:smR (aC (x::r))≠[]:=by simp[smR,aC]
   rw[dA hne,eL hne,dA hne2,eL hne2,ed,ed,hnl,hfl]
   rw[hnl] at HB
   generalize hq:smR ((x::r).map (inS aC))=q1 at HB
   have hp1:∀y∈q1,aj 0 y:=by rw[←hq];exact aY _
   have hp2:∀y∈smR (aC (x::r)),aj 0 y:=aY _
   generalize hq2:smR (aC (x::r))=q2 at HB hp2
   refine(AC.frame (args:=[.sl 4 5 0 (x::r).length]) (h:=C++[.row 5 q1]) HB [4] (by simp) (by simp[TW,ren,below]) (az (by rw[ZG (by omega),hl4];rfl) hp1 aU)).mono ?_
   rintro z h' ⟨x0,h0',⟨rfl,rfl⟩,_,rfl,rfl⟩
   have hm:mrg (C++[AO.row 5 q1]) [4] [AO.row 5 q2]=C++[.row 5 q2]:=by
    simp only[mrg]
    rw[List.set_append_right _ _ (by omega),hl4];rfl
   have hrq:∀ρ,iL ρ (AO.row 5 q2)= .row 5 q2:=λρ=>by
    simp only[iL]
    rw[ZR (g:=id) (λy hy=>dv ρ y (hp2 y hy)),List.map_id]
   simp-implicitDefEqProofs[aa,Dl,ren,hrq,hm]
 refine key.frz 4 (by rw[hl4];exact ZH _) (λt v h ⟨e,_⟩=>by cases e) ?_
 rintro v h ⟨e,r,rfl⟩
 cases e
 refine⟨.p (smL (aC l)),cH l0 FB,by rw[ZM,hl4];omega,hl4,.one ?_ .nil,BV (Qo l0 hB (ZH _)),rfl,rfl⟩
 have ht:=GN (r:=r) (o:=bs 5 (smR (aC l))) hl4
 have hh:smR (aC l)=((aC l).map Sm.cs).map (·.map .p):=by simp[smR]
 rw[hh] at ht⊢
 exact FP ht (λx hx=>by obtain⟨b,_,rfl⟩:=ZN.1 hx;simp)
theorem LC(H:List Sm->List Sm):∀l:List Sm,(∀x∈l,an (H x.body)<=an x.body/\an (H x.els)<=an x.els)->an (l.map (inS H))<=an l
 |[],_=>ZH _
 |x::r,h=>by
  have h1:=h x (by simp)
  have h2:=LC H r (λy hy=>h y (by simp[hy]))
  have h3:=x.sz_eq
  have h4:(inS H x).sz=1+x.name.length+bj x.args+an (H x.body)+an (H x.els):=by rw[Sm.sz_eq];rfl
  rw[ZT,an,an]
  omega
theorem IJ{d:Nat}{x:Sm}(h:aq d x=true):∀a∈x.args,io a=true:=by
 obtain⟨d,rfl⟩:=iE h
 rw[aq,ZE,ZE] at h
 have h1:=h.1.1
 simp only[fX,ZE,ZA] at h1
 exact h1.1.1.1.2
theorem JR(hK:G cR=some cC)(hS:G bn=some [PV.tbl opK opV])(l0:List Fd):∀(d:Nat) (l:List Sm),(∀x∈l,aq d x=true)->an l<=1073741824->AJ G l0 FB aC l:=by
 intro d
 have hin:∀l:List Sm,an l<=1073741824->an (l.map (inS aC))<=1073741824:=λl hz=>ZQ (LC aC l λx _=>⟨me _,me _⟩) hz
 induction d with
 |zero=>
  intro l hf hz
  exact zB G hK hS l0 l (λx hx=>by have:=hf x hx;cases this) hz (hin l hz) (λx hx=>by have:=hf x hx;cases this)
 |succ d ih=>
  intro l hf hz
  refine zB G hK hS l0 l (λx hx=>IJ (hf x hx)) hz (hin l hz) (λx hx=>?_)
  have h1:=cA hx
  have h2:=x.sz_eq
  exact⟨ih x.body (iJ (hf x hx)) (by omega),ih x.els (sN (hf x hx)) (by omega)⟩
theorem Ed(hK:G cR=some cC)(hS:G bn=some [PV.tbl opK opV])(l:List Fd)(hz:aH l<=1073741824)(hf:∀f∈l,∀x∈f.body,aq 4 x=true):VF Tryz.prog G gq [.agg [.p (fdL l)],FB] (.agg [.p (fdL (cU l))]):=by
 have hll:=dL l
 have hB:below 0 FB:=by simp[FB,below]
 let V:=RZ l FB hB eV [.ptr 3 1 0 0] (by simp[below])
 have HM:=Sq G V (λ(st:Unit) x=>(eaF aC x,st)) (λ_ _=>True) l (by omega) (by show 0<4;omega)
  (λi st hi _=>⟨trivial,by
    have hm:=ZD hi
    have h2:=cS hm
    have h3:l[i].sz=1+l[i].name.length+(l[i].params.length+(l[i].params.map List.length).sum)+an l[i].body:=rfl
    exact JW G l hB aC l[i] (by omega) (JR G hK hS l 4 _ (hf _ hm) (by omega))⟩) () trivial
 rw[ko] at HM
 have HM2:AC Tryz.prog G cy [.p (fdL l),.fn (.func eV) [.ptr 3 1 0 0]] [.row 1 [[.p (fdL l)]],.row 1 [[.fn (.func aS) []]],.row 1 [[.nils]],.row 1 [[.fn (.func aO) [.ptr 1 1 0 0,.ptr 3 1 0 0]]]] λx h=>x= .ret (.p (fdL (cU l)))/\h=[.row 1 [[.p (fdL l)]],.row 1 [[.fn (.func aS) []]],.row 1 [[.nils]],.row 1 [[.fn (.func aO) [.ptr 1 1 0 0,.ptr 3 1 0 0]]]]:=HM
 show VF Tryz.prog G gq [.agg [.p (fdL l)],.fn (.func aS) []] (.agg [.p (fdL (cU l))])
 refine AC.go CG ?_
 simp-implicitDefEqProofs[rz]
 refine HM2.mono ?_
 rintro r h ⟨rfl,rfl⟩
 simp-implicitDefEqProofs[aa]
end
section
variable (G:am)
variable (hK:G cR=some cC) (hS:G bn=some [PV.tbl opK opV])
include hK hS
theorem Et(l:List Fd)(hz:aH l<=1073741824)(h0:aD l=0):VF Tryz.prog G dB [.agg [.p (fdL l)]] (.tup [.agg [.p (fdL (cU l))],.p (.bool true)]):=by
 have HC:VF Tryz.prog G gq [.agg [.p (fdL l)],.fn (.func aS) []] (.agg [.p (fdL (cU l))]):=Ed G hK hS l hz (kw h0).2
 refine AC.go mE ?_
 simp-implicitDefEqProofs[iQ]
 refine(FV G hK hS l hz).use ?_
 simp-implicitDefEqProofs[h0]
 refine HC.use ?_
 simp-implicitDefEqProofs[]
end
section
variable (G:am)
variable (hK:G cR=some cC) (hS:G bn=some [PV.tbl opK opV])
include hK hS
theorem CD(l:List Fd)(hz:aH l<=1073741824):VF Tryz.prog G dB [.agg [.p (fdL l)]] (.tup [.agg [.p (fdL (orN (decide (aD l=0)) (cU l)))],.p (.bool (decide (aD l=0)))]):=by
 by_cases h0:aD l=0
 ·rw[decide_eq_true h0]
  exact Et G hK hS l hz h0
 ·rw[decide_eq_false h0]
  have key:AC Tryz.prog G dB [.agg [.p (fdL l)]] [] λx h=>x= .ret (.tup [.agg [.nils],.p (.bool false)]):=by
   refine AC.go mE ?_
   simp-implicitDefEqProofs[iQ]
   refine(FV G hK hS l hz).use ?_
   simp-implicitDefEqProofs[h0]
  refine key.freezeR (λt v h e=>by cases e) λv h e=>?_
  cases e
  exact .tup (.agg (.one (.nils 3) .nil) (.keep (by simp) .nil)) .nil
end
section
theorem Uc:∀x∈triL,x.length=3/\∀n∈x,V5 n:=by
 intro x hx
 simp only[triL,ZI,aaa,or_false] at hx
 rcases hx with rfl|rfl|rfl<;>refine⟨rfl,λn hn=>?_⟩<;>simp only[ZI,aaa,or_false] at hn<;>(rcases hn with rfl|rfl|rfl<;>exact⟨by decide,by decide⟩)
theorem NE{l:List Fd}(hc:aD l=0){us:List Int}(h:us∈Bu l):lP l us=true/\us.length<=3:=by
 obtain⟨f,hf,h3,_,e⟩:=FM hc
 rw[e] at h
 obtain⟨x,hx,rfl⟩:=ZN.1 h
 obtain⟨h1,h2⟩:=Uc x hx
 refine⟨Jp hc hf (by rw[ZS];omega) λn hn=>h2 n (aah hn),by rw[ZS];omega⟩
theorem OM(l:List Fd):(Bu l).length<=3:=by
 unfold Bu
 split
 ·split
  ·simp[rn,triL]
  ·simp
 ·simp
variable (G:am)
theorem TY(code:List Int)(hb:Byt code):AC Tryz.prog G jS [.p (yS code)] [] λx _=>DrP 900000000 x:=by
 refine AC.go rg ?_
 simp-implicitDefEqProofs[jW]
 refine(AC.lift (Pk G code) (by simp) rfl rfl).mono ?_
 rintro r h ⟨rfl,rfl⟩
 have hr:∀n,cF n (rdO (code.take 2000) 0)=rdO (code.take 2000) 0:=λn=>by simp[rdO,cF,dk,cw]
 simp-implicitDefEqProofs[aa,cw,hr]
 refine(Xl G (Hb G (HE hb 2000) (by rw[ZS];omega) (p:=0) (by omega)) (λv q ⟨⟨l,e,_⟩,_⟩=>by rw[e];simp[below]) (h:=[.row 1 [[.nils]],rdO (code.take 2000) 0]) (k:=1) rfl trivial).mono ?_
 rintro r h ⟨v,q,rfl,rfl,⟨l,rfl,hz⟩,_⟩
 simp-implicitDefEqProofs[aa]
 exact⟨l,rfl,hz⟩
theorem Hj(code:List Int)(hb:Byt code):AC Tryz.prog G fg [.p (yS code)] [] λx _=>DrP 900000000 x:=by
 refine AC.go pM ?_
 simp-implicitDefEqProofs[jc]
 refine(AC.lift (Pk G code) (by simp) rfl rfl).mono ?_
 rintro r h ⟨rfl,rfl⟩
 have hr:∀n,cF n (rdO (code.take 2000) 0)=rdO (code.take 2000) 0:=λn=>by simp[rdO,cF,dk,cw]
 simp-implicitDefEqProofs[aa,cw,hr]
 refine(Xl G (Hb G (HE hb 2000) (by rw[ZS];omega) (p:=0) (by omega)) (λv q ⟨⟨l,e,_⟩,_⟩=>by rw[e];simp[below]) (h:=[.row 1 [[.nils]],rdO (code.take 2000) 0]) (k:=1) rfl trivial).mono ?_
 rintro r h ⟨v,q,rfl,rfl,⟨l,rfl,hz⟩,_⟩
 simp-implicitDefEqProofs[aa]
 exact⟨l,rfl,hz⟩
def fus:List Int:=[0,7,50,600]
theorem Vi:∀x∈fus,∃F:Nat,x=(F:Int)/\F<=4000:=by
 intro x hx
 simp only[fus,ZI,aaa,or_false] at hx
 rcases hx with rfl|rfl|rfl|rfl
 ·exact⟨0,rfl,by omega⟩
 ·exact⟨7,rfl,by omega⟩
 ·exact⟨50,rfl,by omega⟩
 ·exact⟨600,rfl,by omega⟩
structure RunI (l:List Fd) (us:List Int) (fuel:Nat) (s':S5) (r:O5 Int):Prop where
 ev:Ev l (.cal (l.length-1) us (s0 fuel) s' r)
 said:s'.said.length<=4000
 cells:s'.cells.length=16
 left:s'.left<=fuel
 impl:VF Tryz.prog G ee [.agg [.p (fdL l)],.p (bz us),.p (.int .i64 fuel)] (.tup [.agg ((Nf s' r).map .p),.p (.bool true)])
section
variable (hK:G cR=some cC) (hS:G bn=some [.tbl opK opV])
include hK hS
theorem Mf{l:List Fd}{us:List Int}{fuel:Nat}{s':S5}{r:O5 Int}(hz:aH l<=1073741824)(hl:us.length<=1000000000000)(ho:lP l us=true)(hfu:fuel<=4000)(hE:Ev l (.cal (l.length-1) us (s0 fuel) s' r)):RunI G l us fuel s' r:=by
 obtain⟨hc,h0,⟨f,hf1,hf2⟩,hv⟩:=sZ ho
 exact⟨hE,ZQ (Tb hE) hfu,(aV hE ⟨tk fuel,hv⟩).1.len,RP hE,Ej G hK hS hz hl ho hc h0 hv hfu hE⟩
theorem Yq{l:List Fd}{us:List Int}{fuel:Nat}(hz:aH l<=1073741824)(hl:us.length<=1000000000000)(ho:lP l us=true)(hfu:fuel<=4000):∃s' r,RunI G l us fuel s' r:=by
 obtain⟨hc,h0,⟨f,hf1,hf2⟩,hv⟩:=sZ ho
 obtain⟨s',r,hE,_⟩:=Zg hc hf1 hf2 hv fuel
 exact⟨s',r,Mf G hK hS hz hl ho hfu hE⟩
end
variable (hT:G sU=some pvTries) (hK:G cR=some cC) (hS:G bn=some [.tbl opK opV])
include hT hK hS
theorem Dv(code:List Int)(hb:Byt code)(hl:code.length<=9223372036854775807):VF Tryz.prog G nJ [.p (yS code)] (.p (.bool true)):=by
 refine AC.go vO ?_
 have hbl:yS code= .lst 1 (code.map λn=>[.int .u8 n]):=rfl
 simp-implicitDefEqProofs[nG,hbl]
 rw[←hbl]
 by_cases hc:(1048576:Int)<code.length
 ·simp-implicitDefEqProofs[hc]
 simp-implicitDefEqProofs[hc]
 refine(NX G (Hj G code hb) Of (by simp) _).mono ?_
 rintro r h ⟨⟨l,rfl,hz⟩,rfl⟩
 simp-implicitDefEqProofs[aa]
 have hfo:=CD G hK hS l (by omega)
 have hfs:=Ec G l (by omega)
 have hxz:aH (cU l)<=1073741824:=ZQ (Kk l) (by omega)
 refine hfo.use ?_
 simp-implicitDefEqProofs[]
 refine hfs.use ?_
 by_cases h0:aD l=0
 case neg=>
  have hd:decide (aD l=0)=false:=decide_eq_false h0
  have hsp:=sx G [] [] (by simp[aH]) (by simp[aH])
  rw[rb rfl] at hsp
  simp-implicitDefEqProofs[hd,orN]
  refine hsp.use ?_
  simp-implicitDefEqProofs[]
  refine hsp.use ?_
  simp-implicitDefEqProofs[]
 have hd:decide (aD l=0)=true:=decide_eq_true h0
 have hsp:=sx G (cU l) (cU l) hxz hxz
 rw[rb rfl] at hsp
 have hinp:=It G hT hK hS l (by omega)
 have hil:=OM l
 have hnl:∀L,nsL L= .lst 1 (L.map λx=>[bz x]):=λ_=>rfl
 have hcx:=GI h0
 have hpx:bc l=true:=((sY l).1 h0).1
 have hpf:bc (cU l)=true:=((sY _).1 hcx).1
 have hcp:=sq G hK hS (cU l) hxz
 have hs1:=LO G hK hS l (by omega)
 have hs2:=LO G hK hS (cU l) hxz
 rw[if_pos hpx] at hs1
 rw[if_pos hpf,Ff] at hs2
 rw[hcx] at hcp
 have hok:∀us∈Bu l,lP l us=true/\us.length<=3:=λus h=>NE h0 h
 have hox:∀us,lP l us=true->lP (cU l) us=true:=λus h=>Nr (λ_=>rfl) hcx h
 have hfd:∀(us:List Int) (F:Nat) (s':S5) (r:O5 Int),(∀n∈us,V5 n)->Ev l (.cal (l.length-1) us (s0 F) s' r)->Ev (cU l) (.cal ((cU l).length-1) us (s0 F) s' r):=λus F s' r hu h=>by
  have:(cU l).length=l.length:=by simp[cU]
  rw[this]
  exact OJ hpx h (tk F) hu
 simp-implicitDefEqProofs[hd,orN]
 refine hsp.use ?_
 simp-implicitDefEqProofs[]
 refine hinp.use ?_
 generalize Bu l=L at*
 generalize cU l=x at*
 simp-implicitDefEqProofs[hnl]
 refine aI (λi:Nat=>ah 103 [(3,.ptr 0 1 0 0),(4,.ptr 1 1 0 0),(53,.p (nsL L)),(54,.p (.int .i64 L.length)),(55,.p (.int .i64 i))]) (λ_=>[.row 1 [[.p (fdL l)]],.row 1 [[.p (fdL x)]]]) (λi=>i<=L.length) (λi=>L.length-i) 0 (by simp) ?_ ?_
 ·refine dJ [0,1] rfl (by simp) (bV rfl (by simp[okO,below]) (bV rfl (by simp[okO,below]) aU)) ?_
  simp[below,ren,hnl]
 intro i hi
 simp-implicitDefEqProofs[hnl]
 refine aT (λh1=>?_) (λh1=>?_)
 ·simp at h1
  have hg:L[i]?=some L[i]:=Zu h1
  obtain⟨ho,hul⟩:=hok L[i] (ZD h1)
  generalize L[i]=us at hg ho hul
  simp-implicitDefEqProofs[hg]
  refine aI (λj:Nat=>ah 103 [(3,.ptr 0 1 0 0),(4,.ptr 1 1 0 0),(9,.p (bz us)),(53,.p (nsL L)),(54,.p (.int .i64 L.length)),(55,.p (.int .i64 i)),(59,.sl 2 1 0 4),(60,.p (.int .i64 4)),(61,.p (.int .i64 j))]) (λ_=>[.row 1 [[.p (fdL l)]],.row 1 [[.p (fdL x)]],jb fus]) (λj=>j<=4) (λj=>4-j) 0 (by simp) ?_ ?_
  ·refine dJ [0,1,2] rfl (by simp) (bV rfl (by simp[okO,below]) (bV rfl (by simp[okO,below]) (az (by simp[jb,fus]) (AA fus) aU))) ?_
   simp[below,ren,hnl,bz]
  intro j hj
  have hfu:jb fus= .row 1 (fus.map λn=>[.p (.int .i64 n)]):=rfl
  have hfl4:fus.length=4:=rfl
  have hfm:=Vi
  generalize fus=fs at hfu hfl4 hfm⊢
  simp-implicitDefEqProofs[hfu]
  refine aT (λh2=>?_) (λh2=>?_)
  ·simp at h2
   have hj4:j<fs.length:=by omega
   have hgj:fs[j]?=some fs[j]:=Zu hj4
   obtain⟨F,hFe,hF⟩:=hfm fs[j] (ZD hj4)
   rw[hFe] at hgj
   obtain⟨s',r,R⟩:=Yq G hK hS (l:=l) (us:=us) (fuel:=F) (by omega) (by omega) ho hF
   have R2:=Mf G hK hS hxz (by omega) (hox us ho) hF (hfd us F s' r (sZ ho).2.2.2 R.ev)
   have hsl:=R.said
   have hcl:=R.cells
   have him:=Sw G s'.said s'.cells (GX r) (Mq r) (by omega) (by omega)
   have hi1:=R.impl
   have hi2:=R2.impl
   simp-implicitDefEqProofs[hgj]
   refine⟨by omega,?_⟩
   refine hi1.use ?_
   simp-implicitDefEqProofs[Nf]
   refine hi2.use ?_
   simp-implicitDefEqProofs[Nf]
   refine him.use ?_
   simp-implicitDefEqProofs[]
   refine⟨j+1,by omega,by omega,?_⟩
   refine dJ [0,1,2] rfl (by simp) (bV rfl (by simp[okO,below]) (bV rfl (by simp[okO,below]) (az rfl (AA fs) aU))) ?_
   simp[below,ren,hnl,bz,w1 (i:=j) (by omega)]
  ·simp-implicitDefEqProofs[]
   refine⟨i+1,by omega,by omega,?_⟩
   refine dJ [0,1] rfl (by simp) (bV rfl (by simp[okO,below]) (bV rfl (by simp[okO,below]) aU)) ?_
   simp[below,ren,hnl,w1 (i:=i) (by omega)]
 ·simp-implicitDefEqProofs[]
  refine hcp.use ?_
  simp-implicitDefEqProofs[]
  refine hs2.useQ ?_
  simp-implicitDefEqProofs[]
  refine hs1.use ?_
  simp-implicitDefEqProofs[]
end
end Go.Proofs.YtokiapglmedipaaGreatDoor
namespace Go.Proofs.YtokiapglmedipaaGreatDoor
open Go Go.Aw Go.ChangeShapes Go.WideShapes Go.ChangeAt Go.RowKit
set_option maxRecDepth 100000
abbrev Us:TypeId:=24
abbrev Xk:TypeId:=22
abbrev Yn:TypeId:=122
abbrev Uj:TypeId:=55
abbrev WE:TypeId:=9
abbrev RC:TypeId:=120
abbrev Ul:TypeId:=206
abbrev SI:TypeId:=204
abbrev TZ:TypeId:=245
abbrev TF:TypeId:=3
abbrev TX:TypeId:=4
abbrev KW:TypeId:=160
abbrev Pe:TypeId:=240
abbrev Tf:TypeId:=241
abbrev Lj:TypeId:=45
abbrev FU:TypeId:=5
theorem Xg:Kids Tryz.prog (· <Tryz.prog.types.size):=kids_rows (by kernel_rfl) (by kernel_rfl)
theorem Wi:∀t e,t<Tryz.prog.types.size->Tryz.prog.underlying t=some (.slice e)->0<Tryz.prog.cellsOf e:=slices_full_of Tryz.prog (by kernel_rfl)
def QL:List TypeId:=[Us,Xk,Yn,Uj,WE,RC,Ul,SI,TZ,TF,TX,KW,Pe]
theorem QI:Plain Tryz.prog QL=true:=by kernel_rfl
theorem YA:ownKnob Tryz.prog.godebug=none:=by kernel_rfl
theorem CW{H:Type}:∀l:List (DataW H),Rows.uptoBulkAll l=(l.map Rows.uptoBulk).sum
 |[]=>by simp[Rows.uptoBulkAll]
 |d::r=>by simp[Rows.uptoBulkAll,CW r]
theorem RT{H:Type}:BulkOk (Rows.uptoBulk (H:=H)) where
 lit:=λl=>by cases l<;>simp[Rows.uptoBulk]
 str:=λs=>by simp[Rows.uptoBulk]
 nil:=by simp[Rows.uptoBulk]
 slice:=λes sp=>by simp only[Rows.uptoBulk,CW];omega
 agg:=λps=>by simp only[Rows.uptoBulk,CW];omega
theorem Ql{t e:TypeId}{vs:List PV}(h:Conf Tryz.prog t vs)(hu:Tryz.prog.underlying t=some (.slice e)):∃es,vs=[.lst (Tryz.prog.cellsOf e) es]/\es.length<=9223372036854775807/\∀x∈es,Conf Tryz.prog e x:=by
 cases h with
 |sl es e' hl hs=>rw[hu] at e';cases e';exact⟨es,rfl,hl,hs⟩
 |bool b e=>rw[e] at hu;cases hu
 |int n e=>rw[e] at hu;cases hu
 |str s e=>rw[e] at hu;cases hu
 |st vs e=>rw[e] at hu;cases hu
 |arr vs e=>rw[e] at hu;cases hu
def G0:am:=λg=>if g=cR then some cC else if g=bn then some [.tbl opK opV] else none
theorem UJ:∀k,jP Tryz.prog (k+10) KW (Rows.laid_loop_example_wholeway_impl_keys (H:=Unit))=cC:=λk=>by kernel_rfl
theorem Yw{W:World}{laid:List (String × DataW Unit)}(hL:laidMet Tryz.prog laid W)(h1:("loop.example/wholeway/impl.keys",Rows.laid_loop_example_wholeway_impl_keys)∈laid)(h2:("loop.example/wholeway/impl.opSign",Rows.laid_loop_example_wholeway_impl_opSign)∈laid):
 ∀g cs,G0 g=some cs->g<W.heap.size/\∀(j:Nat) (c:PV),cs[j]?=some c->∃v,W.cell? ⟨g,j,none⟩=some v/\PRel W (· <W.heap.size) c v:=by
 intro g cs h
 unfold G0 at h
 split at h
 ·rename_i e;subst e;cases h
  exact EX QI hL (n:= "loop.example/wholeway/impl.keys") (d:=Rows.laid_loop_example_wholeway_impl_keys) (t:=KW) h1 (by kernel_rfl) (by kernel_rfl) (by decide) UJ
 ·split at h
  ·rename_i e;subst e;cases h
   exact PS QI hL (n:= "loop.example/wholeway/impl.opSign") h2 (t:=Tf) (k:=TF) (e:=Pe) (by kernel_rfl) (by kernel_rfl) (by kernel_rfl) (.inl ⟨.i64,by kernel_rfl⟩) (by decide) (by kernel_rfl) (by kernel_rfl) (λm=>by kernel_rfl)
  ·cases h
theorem Ka{vs:List PV}(h:Conf Tryz.prog Lj vs):∃l:List Int,vs=[yS l]/\l.length<=9223372036854775807/\Byt l:=by
 obtain⟨es,rfl,hl,h4⟩:=Ql h (e:=FU) (by kernel_rfl)
 have hk:∀x∈es,∃n:Int,x=[PV.int .u8 n]/\(Lit.int .u8 n).wf=true:=λx hx=>Pi (h4 x hx) (by kernel_rfl)
 obtain⟨l,rfl⟩:=Lv (λn:Int=>[PV.int .u8 n]) (λx hx=>by obtain⟨n,e,_⟩:=hk x hx;exact⟨n,e⟩)
 rw[show Tryz.prog.cellsOf FU=1 by kernel_rfl]
 refine⟨l,rfl,by rwa[ZU] at hl,λn hn=>?_⟩
 obtain⟨m,e,hw⟩:=hk [PV.int .u8 n] (ZN.2 ⟨n,hn,rfl⟩)
 cases e
 simp[Lit.wf,IntKind.min,IntKind.max,IntKind.bits,IntKind.signed] at hw
 omega
end Go.Proofs.YtokiapglmedipaaGreatDoor
namespace Go.Proofs.YtokiapglmedipaaGreatDoor
open Go Go.Aw Go.ChangeShapes Go.WideShapes Go.ChangeAt Go.RowKit
set_option maxRecDepth 100000
abbrev OP:TypeId:=154
abbrev UX:TypeId:=153
def Lo:List TypeId:=OP::UX::QL
theorem lz:Plain Tryz.prog Lo=true:=by kernel_rfl
def Hg:List TypeId:=Lj::FU::Lo
theorem Tr:Plain Tryz.prog Hg=true:=by kernel_rfl
def G0T:am:=λg=>if g=sU then some pvTries else G0 g
theorem Rx:∀k,jP Tryz.prog (k+10) OP (Rows.laid_loop_example_wholeway_impl_tries (H:=Unit))=pvTries:=λk=>by kernel_rfl
theorem YP{W:World}{laid:List (String × DataW Unit)}(hL:laidMet Tryz.prog laid W)(h1:("loop.example/wholeway/impl.keys",Rows.laid_loop_example_wholeway_impl_keys)∈laid)(h2:("loop.example/wholeway/impl.opSign",Rows.laid_loop_example_wholeway_impl_opSign)∈laid)(h3:("loop.example/wholeway/impl.tries",Rows.laid_loop_example_wholeway_impl_tries)∈laid):
 ∀g cs,G0T g=some cs->g<W.heap.size/\∀(j:Nat) (c:PV),cs[j]?=some c->∃v,W.cell? ⟨g,j,none⟩=some v/\PRel W (· <W.heap.size) c v:=by
 intro g cs h
 unfold G0T at h
 split at h
 ·rename_i e;subst e;cases h
  exact EX lz hL (n:= "loop.example/wholeway/impl.tries") (d:=Rows.laid_loop_example_wholeway_impl_tries) (t:=OP) h3 (by kernel_rfl) (by kernel_rfl) (by decide) Rx
 ·exact Yw hL h1 h2 g cs h
end Go.Proofs.YtokiapglmedipaaGreatDoor
