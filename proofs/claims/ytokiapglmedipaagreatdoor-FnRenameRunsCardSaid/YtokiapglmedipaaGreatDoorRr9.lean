/-
  Contracts and lemmas that the card needs, part 9.
-/
import Derived.Test.YtokiapglmedipaaGreatDoorRr8
namespace Go.Proofs.YtokiapglmedipaaGreatDoor
open Go Go.Aw
set_option maxRecDepth 100000
set_option maxHeartbeats 4000000
section
section
variable {M:Nat} {l:List Fd} {fuel sid sid1 sid2:Nat} {u sv sv1 sv2:AV} {v v1 v2:List Sc5} {I:List Nat} {h h1 h2 os:List AO} {s s1 s2:S5}
theorem BkL.refl(H:MI M l fuel sv sid s h)(C:CI h u v I M sid):BkL M l fuel sid u v I h s sv sid h:=⟨H,C,Fr.refl _ _,.inl rfl,λ_ _ _ q=>q⟩
theorem BkL.trans(B:BkL M l fuel sid u v1 I h s1 sv1 sid1 h1)(D:BkL M l fuel sid1 u v2 I h1 s2 sv2 sid2 h2):BkL M l fuel sid u v2 I h s2 sv2 sid2 h2:=by
 have hb:=B.fs
 have hd:=D.fs
 have hl:=B.fr.1
 refine⟨D.run,D.ci,B.fr.trans D.fr λi hi=>?_,by omega,λi hi x q=>D.env i hi x (B.env i hi x q)⟩
 simp only[Za] at hi⊢
 rcases hi with rfl|rfl|hi
 ·exact .inl (.inl rfl)
 ·rcases hb with rfl|hb
  ·exact .inl (.inr (.inl rfl))
  ·exact .inr hb
 ·exact .inl (.inr (.inr hi))
theorem BkL.more(B:BkL M l fuel sid u v I h s sv1 sid1 h1)(os:List AO):BkL M l fuel sid u v I h s sv1 sid1 (h1++os):=
 ⟨B.run.more os,B.ci.more os,B.fr.trans (Fr.more [] _ _) (λi hi=>by cases hi),B.fs,λi hi x q=>by rw[YN (B.ci.chn.lt i hi)];exact B.env i hi x q⟩
theorem BkL.ex(B:BkL M l fuel sid u v I h s1 sv1 sid1 h1)(P:PL M l fuel sid1 h1 s2 sv2 sid2 h2):BkL M l fuel sid u v I h s2 sv2 sid2 h2:=
 B.trans ⟨P.run,B.ci.after P,P.fr.sub λi hi=> .inl (by simp only[Za,Zj,or_false] at hi⊢;omega),P.fs,λi hi x q=>by
  rw[P.fr.2 i (B.ci.chn.lt i hi) (by simp only[Za,Zj,or_false,not_or];exact⟨λe=>B.ci.mn (e▸hi),λe=>B.ci.sn (e▸hi)⟩)];exact q⟩
theorem BkL.upd(B:BkL M l fuel sid u v I h s1 sv1 sid1 h1)(a1:s2.said=s1.said)(a2:s2.left<=s1.left)(a3:s2.cells.length=16):BkL M l fuel sid u v I h s2 sv1 sid1 (h1.set M (kX l fuel sv1 s2)):=
 ⟨B.run.upd a1 a2 a3,⟨B.ci.chn.frame λi hi=>YM (show M≠i from λe=>B.ci.mn (e▸hi)),B.ci.nd,B.ci.sn,B.ci.mn⟩,B.fr.set (by simp) _,B.fs,λi hi x q=>by rw[YM (show M≠i from λe=>B.ci.mn (e▸hi))];exact B.env i hi x q⟩
end
theorem Ik{P:Program}{G:am}{k:Nat}{c:AK}{ts:List AV}{h:List AO}{Q:Aw.AX->List AV->List AO->Prop}(n:Nat)(R Y:List AV->List AO->Prop)(Z:TypeId->PV->List AO->Prop)
 (h1:∀Q',(∀ts' h',R ts' h'->Q' (.exit n) ts' h')->(∀ts' h',Y ts' h'->Q' .ret ts' h')->(∀t v ts' h',Z t v h'->Q' (.pan t v) ts' h')->AKW P G k c ts h Q')(h2:∀ts' h',R ts' h'->Q (.exit n) ts' h')(h4:∀ts' h',Y ts' h'->Q .ret ts' h')(h3:∀t v ts' h',Z t v h'->Q (.pan t v) ts' h'):AKW P G k c ts h Q:=h1 Q h2 h4 h3
variable (G:am)
def PsC(l:List Fd)(M k fuel:Nat)(x:Sm):Prop:=∀v s v' s' r,Ev l (.stm k v s x v' s' r)->InS v s->∀u I sid sv h,MI M l fuel sv sid s h->CI h u v I M sid->
 AC Tryz.prog G gO [.ptr M 20 0 0,.agg (x.cs.map .p),u] h (BkX M l fuel sid u v' I h s' r)
theorem InS.stm{l:List Fd}{k:Nat}{v v':List Sc5}{s s':S5}{x:Sm}{q:O5 (Option Int)}(I:InS v s)(h:Ev l (.stm k v s x v' s' q)):In5 v' s':=In5.stm I h
structure BlS where (i sid:Nat) (sv:AV) (hh:List AO) (v:List Sc5) (s:S5)
structure BlI (l:List Fd) (M k fuel sid:Nat) (u:AV) (I:List Nat) (h:List AO) (xs:List Sm) (v':List Sc5) (s':S5) (r:O5 (Option Int)) (a:BlS):Prop where
 bk:BkL M l fuel sid u a.v I h a.s a.sv a.sid a.hh
 inn:In5 a.v a.s
 ev:Ev l (.blk k a.v a.s (xs.drop a.i) v' s' r)
 il:a.i<=xs.length
theorem QR{l:List Fd}{M k fuel:Nat}{xs:List Sm}(hz:xs.length<=1073741824)(hS:∀x∈xs,PsC G l M k fuel x):PbC G l M k fuel xs:=by
 intro v s v' s' r hE I0 u I sid sv h H C
 have hsl:smL xs= .lst 5 (xs.map Sm.cs):=rfl
 obtain⟨e0,rfl,_,hue⟩:=C.chn.is
 have hmb:=H.lt
 refine AC.go rI ?_
 simp-implicitDefEqProofs[lg,hsl]
 refine Ik 0 (λts' h'=>r= .ok none/\(∃sv2 sid2,BkL M l fuel sid (.ptr e0 2 0 0) v' I h s' sv2 sid2 h')/\∃l,ts'=aj 26 l)
  (λts' h'=>∃n b,r= .ok (some n)/\(∃sv2 sid2,BkL M l fuel sid (.ptr e0 2 0 0) v' I h s' sv2 sid2 h')/\h'[b]?=some (.row 1 [[.p (.int .i64 n)]])/\∃l,ts'=aj 26 ((6,.ptr b 1 0 0)::l))
  (λt x h'=>∃c,t=bU/\x= .int .i64 c/\r= .st c/\∃sv2 sid2,BkL M l fuel sid (.ptr e0 2 0 0) v' I h s' sv2 sid2 h') (λQ' qE qR qP=>?_) ?_ ?_ ?_
 ·refine aN (λa:BlS=>aj 26 [(12,.p (.int .i64 a.i)),(11,.p (.int .i64 xs.length)),(10,.p (.lst 5 (xs.map Sm.cs))),(0,.ptr M 20 0 0),(2,.ptr e0 2 0 0)]) (λa=>a.hh) (BlI l M k fuel sid (.ptr e0 2 0 0) I h xs v' s' r) (λa=>xs.length-a.i) ⟨0,sid,sv,h,v,s⟩ ⟨BkL.refl H C,I0,hE,ZD _⟩ ?_ ?_
  ·refine bj (YY _) ?_
   simp[below]
   omega
  rintro⟨i,sidc,svc,hh,vc,sc⟩ J
  have hil:=J.il
  have jl:=J.bk.fr.1
  simp only at hil jl
  by_cases h1:i<xs.length
  ·have hg:=YO h1
   have ha:=Zf h1
   obtain⟨x,hgx⟩:∃x,x=xs[i]:=⟨_,rfl⟩
   rw[←hgx] at hg ha
   have hkx:=x.cs_eq
   have hdr:xs.drop i=x::xs.drop (i+1):=by
    rw[ZJ h1,hgx]
   have hev:=J.ev
   simp only[hdr] at hev
   simp-implicitDefEqProofs[h1,hg,hkx]
   rw[←hgx]
   have B0:=J.bk.more [.row 5 [x.cs.map .p]]
   have hM0:=J.bk.run.lt
   simp only at hM0 B0
   have hwi:=w1 (i:=i) (by omega)
   refine(MQ G B0.run).mono ?_
   rintro z h2 hz2
   by_cases hF:sc.left=0
   ·rw[if_pos hF] at hz2
    obtain⟨rfl,rfl⟩:=hz2
    have hr:r= .st 3/\v'=vc/\s'=sc:=by
     cases hev with
     |bfuel _=>exact⟨rfl,rfl,rfl⟩
     |bgo q _ _=>omega
     |bend q _ _=>omega
    obtain⟨rfl,rfl,rfl⟩:=hr
    simp-implicitDefEqProofs[]
    exact λts=>qP _ _ _ _ ⟨3,rfl,rfl,rfl,_,_,B0⟩
   rw[if_neg hF] at hz2
   obtain⟨rfl,rfl⟩:=hz2
   obtain⟨F,hF1⟩:∃F,sc.left=F+1:=⟨sc.left-1,by omega⟩
   have hFF:sc.left-1=F:=by omega
   rw[hFF]
   have IS:=J.inn.tick hF1
   have B1:BkL M l fuel sid (.ptr e0 2 0 0) vc I h (sc.at_ F) svc sidc ((hh++[AO.row 5 [x.cs.map AV.p]]).set M (kX l fuel svc (sc.at_ F))):=B0.upd rfl (by simp only[S5.at_];omega) B0.run.len
   have hb:((hh++[AO.row 5 [x.cs.map AV.p]]).set M (kX l fuel svc (sc.at_ F)))[hh.length]?=some (.row 5 [x.cs.map .p]):=by
    rw[YM (by omega)];simp
   have hlen:((hh++[AO.row 5 [x.cs.map AV.p]]).set M (kX l fuel svc (sc.at_ F))).length=hh.length+1:=by simp
   generalize (hh++[AO.row 5 [x.cs.map AV.p]]).set M (kX l fuel svc (sc.at_ F))=h2 at B1 hb hlen
   simp-implicitDefEqProofs[aa,hb]
   have fin:∀v1 s1 sv2 sid2 h3,BkL M l fuel sid (.ptr e0 2 0 0) v1 I h s1 sv2 sid2 h3->In5 v1 s1->Ev l (.blk k v1 s1 (xs.drop (i+1)) v' s' r)->∀sl,Aw.look sl 12= .p (.int .i64 (IntKind.i64.wrap ((i:Int)+1)))->Aw.look sl 11= .p (.int .i64 xs.length)->Aw.look sl 10= .p (.lst 5 (xs.map Sm.cs))->Aw.look sl 0= .ptr M 20 0 0->Aw.look sl 2= .ptr e0 2 0 0->
    ∃a:BlS,BlI l M k fuel sid (.ptr e0 2 0 0) I h xs v' s' r a/\xs.length-a.i<xs.length-i/\Wk h.length (aj 26 sl) h3 (aj 26 [(12,.p (.int .i64 a.i)),(11,.p (.int .i64 xs.length)),(10,.p (.lst 5 (xs.map Sm.cs))),(0,.ptr M 20 0 0),(2,.ptr e0 2 0 0)]) a.hh:=λv1 s1 sv2 sid2 h3 B I1 hE1 sl e12 e11 e10 e0' e2=>by
    have:=B.fr.1
    refine⟨⟨i+1,sid2,sv2,h3,v1,s1⟩,⟨B,I1,hE1,by simp only;omega⟩,by simp only;omega,bj (by omega) ?_⟩
    simp[below,e12,e11,e10,e0',e2,hwi]
    omega
   have hone:∃v1 s1 q,Ev l (.stm k vc (sc.at_ F) x v1 s1 q)/\((q= .ok none/\Ev l (.blk k v1 s1 (xs.drop (i+1)) v' s' r))\/(q≠ .ok none/\v'=v1/\s'=s1/\r=q)):=by
    cases hev with
    |bfuel q=>omega
    |bgo q q2 q3=>rw[hF1] at q;cases q;exact⟨_,_,_,q2,.inl ⟨rfl,q3⟩⟩
    |bend q q2 q3=>rw[hF1] at q;cases q;exact⟨_,_,_,q2,.inr ⟨q3,rfl,rfl,rfl⟩⟩
   obtain⟨v1,s1,q,q1,q2⟩:=hone
   refine(hS x ha _ _ _ _ _ q1 IS _ I sidc svc h2 B1.run B1.ci).mono ?_
   rintro z h3 ⟨hR,sv2,sid2,B2⟩
   have B3:=B1.trans B2
   match q,hR with
   | .ok none,hR=>
     cases hR
     rcases q2 with⟨_,q2⟩|⟨q2,_⟩
     case inr=>exact(q2 rfl).elim
     simp-implicitDefEqProofs[aa]
     exact fin _ _ _ _ _ B3 (IS.stm q1) q2 _ (by simp) (by simp) (by simp) (by simp) (by simp)
   | .ok (some n),⟨b,hb1,hb2⟩=>
     cases hb1
     rcases q2 with⟨q2,_⟩|⟨_,rfl,rfl,rfl⟩
     ·cases q2
     simp-implicitDefEqProofs[aa]
     exact qR _ _ ⟨n,b,rfl,⟨sv2,sid2,B3⟩,hb2,_,rfl⟩
   | .st c,hR=>
     cases hR
     rcases q2 with⟨q2,_⟩|⟨_,rfl,rfl,rfl⟩
     ·cases q2
     simp-implicitDefEqProofs[]
     exact λts=>qP _ _ _ _ ⟨c,rfl,rfl,rfl,sv2,sid2,B3⟩
  ·simp-implicitDefEqProofs[h1]
   have:i=xs.length:=by omega
   subst this
   have hev:=J.ev
   simp only[List.drop_length] at hev
   cases hev
   exact qE _ _ ⟨rfl,⟨svc,sidc,J.bk⟩,_,rfl⟩
 ·rintro ts' h' ⟨rfl,B,l',rfl⟩
  simp-implicitDefEqProofs[]
  exact⟨rfl,B⟩
 ·rintro ts' h' ⟨n,b,rfl,B,hb,l',rfl⟩
  simp-implicitDefEqProofs[]
  exact⟨⟨b,rfl,hb⟩,B⟩
 ·rintro t y ts' h' ⟨c,rfl,rfl,rfl,B⟩
  simp-implicitDefEqProofs[]
  exact⟨rfl,B⟩
end
section
section
variable {M:Nat} {l:List Fd} {fuel sid sid1 sid2:Nat} {u sv sv1 sv2:AV} {v v1 v2:List Sc5} {I:List Nat} {h h1 h2 os:List AO} {s s1 s2:S5}
theorem BkL.map(B:BkL M l fuel sid u v1 I h s1 sv1 sid1 h1){m:Nat}(hm:m∈I){o:AO}{q0:List (PV × AV)}(hq:h1[m]?=some (.mp q0))(hC:Chn (h1.set m o) u v2 I):BkL M l fuel sid u v2 I h s1 sv1 sid1 (h1.set m o):=
 ⟨B.run.frame (by rw[Zq];exact YY _) (YM (show m≠M from λe=>B.ci.mn (e▸hm))) (YM (show m≠sid1 from λe=>B.ci.sn (e▸hm))),⟨hC,B.ci.nd,B.ci.sn,B.ci.mn⟩,B.fr.set (by simp[hm]) _,B.fs,λi hi x q=>by
   have h3:=B.env i hi x q
   rw[YM (show m≠i from λe=>by subst e;rw[hq] at h3;cases h3)];exact h3⟩
theorem Chn.hd{c:Sc5}{up:List Sc5}(H:Chn h u (c::up) I)(nd:I.Nodup):∃e m w,u= .ptr e 2 0 0/\h[e]?=some (.row 2 [[.mp m,w]])/\h[m]?=some (.mp (mpV c))/\m∈I/\∀c',Chn (h.set m (.mp (mpV c'))) u (c'::up) I:=by
 cases H with
 |last e m c h1 h2=>
  have hm:=(YL.1 h2).1
  have hne:m≠e:=λq=>by subst q;rw[h1] at h2;cases h2
  exact⟨e,m,_,rfl,h1,h2,by simp,λc'=> .last e m _ (by rw[YM hne];exact h1) (YR hm)⟩
 |cons e m c u v I h1 h2 H=>
  have hm:=(YL.1 h2).1
  have hne:m≠e:=λq=>by subst q;rw[h1] at h2;cases h2
  simp only[ZN,Za,not_or] at nd
  exact⟨e,m,_,rfl,h1,h2,by simp,λc'=> .cons e m _ u _ I (by rw[YM hne];exact h1) (YR hm) (H.frame λi hi=>YM (show m≠i from λq=>nd.2.1 (q▸hi)))⟩
theorem BkL.say(B:BkL M l fuel sid u v I h s1 sv1 sid1 h1){n:Int}{nid:Nat}(a1:h1.length<=nid)(a2:∀j,j<h1.length->j≠M->j≠sid1->h2[j]?=h1[j]?)(a3:h2[M]?=some (kX l fuel (.sl nid 1 0 (s1.said++[n]).length) (s1.say n)))(a4:h2[nid]?=some (bz (s1.said++[n]))):
 BkL M l fuel sid u v I h (s1.say n) (.sl nid 1 0 (s1.said++[n]).length) nid h2:=by
 have hn:=(YL.1 a4).1
 have hs:=B.fs
 have hl:=B.fr.1
 refine⟨⟨a3,.ss _ _ a4,B.run.le,B.run.fu,B.run.len⟩,⟨B.ci.chn.frame λi hi=>a2 i (B.ci.chn.lt i hi) (λe=>B.ci.mn (e▸hi)) (λe=>B.ci.sn (e▸hi)),B.ci.nd,λhm=>by have:=B.ci.chn.lt _ hm;omega,B.ci.mn⟩,⟨by omega,λi hi hk=>?_⟩,.inr (by omega),λi hi x q=>by rw[a2 i (B.ci.chn.lt i hi) (λe=>B.ci.mn (e▸hi)) (λe=>B.ci.sn (e▸hi))];exact B.env i hi x q⟩
 simp only[Za,not_or] at hk
 rw[a2 i (by omega) hk.1 (by omega),B.fr.2 i hi (by simp only[Za,not_or];exact hk)]
end
theorem QM{l:List Fd}{fuel:Nat}{sv:AV}{s:S5}{i:Nat}{m:Int}(hi:i<s.cells.length)(a b c:AV)(ha:a= .p (fdL l))(hb:b= .p (.int .i64 fuel))(hc:c= .p (.int .i64 ((fuel-s.left:Nat):Int))):
 AO.row 20 [List.take (4+i) (a::b::c::sv::s.cells.map λn=> .p (.int .i64 n))++ .p (.int .i64 m)::List.drop (4+i) (b::c::sv::s.cells.map λn=> .p (.int .i64 n))]=kX l fuel sv (s.put i m):=by
 subst ha;subst hb;subst hc
 rw[show 4+i=i+1+1+1+1 by omega]
 simp only[List.take_succ_cons,List.drop_succ_cons,kX,S5.put,Zx,List.nil_append]
 rw[List.map_set,List.set_eq_take_append_cons_drop,if_pos (by simpa using hi)]
variable (G:am)
theorem Chn.tl{h:List AO}{e e2 m:Nat}{c:Sc5}{v:List Sc5}{I:List Nat}(H:Chn h (.ptr e 2 0 0) (c::v) (e::m::I))(hI:I≠[])(he:h[e]?=some (.row 2 [[.mp m,.ptr e2 2 0 0]])):Chn h (.ptr e2 2 0 0) v I:=by
 cases H with
 |last=>exact(hI rfl).elim
 |cons _ _ _ u _ _ h1 h2 h3=>
  rw[he] at h1
  simp only[Option.some.injEq,AO.row.injEq,List.cons.injEq,and_true,true_and] at h1
  subst h1
  exact h3
theorem SU{l:List Fd}{M k fuel sid e0:Nat}{sv:AV}{v v':List Sc5}{m:Sc5}{s s':S5}{I:List Nat}{h2:List AO}{r:O5 (Option Int)}{xs:List Sm}(hP:PbC G l M k fuel xs)(hev:Ev l (.blk k ([]::v) s xs (m::v') s' r))(I1:In5 v s)(H:MI M l fuel sv sid s h2)(C:CI h2 (.ptr e0 2 0 0) v I M sid):
 AC Tryz.prog G bt [.ptr M 20 0 0,.p (smL xs),.ptr (h2.length+1) 2 0 0] (h2++[.mp [],.row 2 [[.mp h2.length,.ptr e0 2 0 0]]]) (BkX M l fuel sid (.ptr e0 2 0 0) v' I h2 s' r):=by
 have hch:Chn (h2++[.mp [],.row 2 [[.mp h2.length,.ptr e0 2 0 0]]]) (.ptr (h2.length+1) 2 0 0) ([]::v) ((h2.length+1)::h2.length::I):= .cons _ _ [] _ _ _ (by simp) (by simp[mpV]) (C.chn.more _)
 have hIl:=C.chn.lt
 have hM1:=H.lt
 have hS1:=H.said.lt
 have C3:CI (h2++[.mp [],.row 2 [[.mp h2.length,.ptr e0 2 0 0]]]) (.ptr (h2.length+1) 2 0 0) ([]::v) ((h2.length+1)::h2.length::I) M sid:=by
  refine⟨hch,?_,?_,?_⟩
  ·simp only[ZN,Za,not_or]
   exact⟨⟨by omega,λq=>by have:=hIl _ q;omega⟩,λq=>by have:=hIl _ q;omega,C.nd⟩
  ·simp only[Za,not_or];exact⟨by omega,by omega,C.sn⟩
  ·simp only[Za,not_or];exact⟨by omega,by omega,C.mn⟩
 have hI0:I≠[]:=by
  obtain⟨_,_,q,_⟩:=C.chn.is
  intro e
  rw[e] at q
  cases q
 refine(hP _ _ _ _ _ hev I1.opn _ _ sid sv _ (H.more _) C3).mono ?_
 rintro z h3 ⟨hR,sv3,sid3,B3⟩
 have hsd:sid3=sid\/h2.length<=sid3:=by
  have:=B3.fs
  simp at this
  omega
 have hfr:Fr (M::sid::I) h2 h3:=B3.fr.from.sub λi hi=>by
  simp only[Za] at hi⊢
  rcases hi with rfl|rfl|rfl|rfl|hi
  ·exact .inl (.inl rfl)
  ·exact .inl (.inr (.inl rfl))
  ·exact .inr (by omega)
  ·exact .inr (YY _)
  ·exact .inl (.inr (.inr hi))
 have hsn:=B3.ci.sn
 simp only[Za,not_or] at hsn
 refine⟨hR,sv3,sid3,B3.run,⟨B3.ci.chn.tl hI0 (B3.env _ (by simp) _ (by simp)),C.nd,hsn.2.2,C.mn⟩,hfr,hsd,λi hi x q=>B3.env i (by simp[hi]) x (by rw[YN (hIl i hi)];exact q)⟩
theorem SO{l:List Fd}{M k fuel:Nat}{x:Sm}(W:WfS l k x)(hX:∀e,WfE l k e->PxC G l M k fuel e)(hB:PbC G l M k fuel x.body)(hE:PbC G l M k fuel x.els)(n6:x.op≠6):PsC G l M k fuel x:=by
 intro v s v' s' r hS I0 u I sid sv h H C
 have hxc:=x.cs_eq
 have hsl:exL x.args= .lst 4 (x.args.map Ex.cs):=rfl
 obtain⟨e0,rfl,_,hue⟩:=C.chn.is
 have hmb:=H.lt
 have hsb:=H.said.lt
 obtain⟨box,hbox⟩:∃box,box=AO.row 5 [[.p (.int .i64 x.op),.p (.str x.name),.p (exL x.args),.p (smL x.body),.p (smL x.els)]]:=⟨_,rfl⟩
 obtain⟨a,ha0⟩:∃a,x.args[0]?=some a:=by
  have:x.args.length≠0:=by
   rw[W.argn]
   obtain⟨q1,q2⟩:=W.op
   have:x.op=1\/x.op=2\/x.op=3\/x.op=4\/x.op=5\/x.op=6\/x.op=7\/x.op=8:=by omega
   rcases this with q|q|q|q|q|q|q|q<;>rw[q]<;>decide
  exact⟨x.args[0],YO (by omega)⟩
 have ham:=YS ha0
 have hka:=a.cs_eq
 obtain⟨s1,r1,hx1,hrest⟩:∃s1 r1,Ev l (.ex k v s a s1 r1)/\((∃c,r1= .st c/\v'=v/\s'=s1/\r= .st c)\/∃n,r1= .ok n/\
  ((x.op=1/\∃m up,v=m::up/\ce m x.name=none/\v'=(m++[(x.name,n)])::up/\s'=s1/\r= .ok none)\/(x.op=2/\(iL v x.name).isSome=true/\v'=iu v x.name n/\s'=s1/\r= .ok none)\/(x.op=3/\v'=v/\s'=s1.say n/\r= .ok none)\/
    (x.op=4/\v'=v/\∃b s2 r2,x.args[1]?=some b/\Ev l (.ex k v s1 b s2 r2)/\((∃c,r2= .st c/\s'=s2/\r= .st c)\/∃m,r2= .ok m/\((16<=n/\s'=s2/\r= .st 2)\/∃i:Nat,n=(i:Int)/\i<16/\s'=s2.put i m/\r= .ok none)))\/
    (x.op=5/\∃m,Ev l (.blk k ([]::v) s1 (if n≠0 then x.body else x.els) (m::v') s' r))\/(x.op=6/\LpA l k x v s1 n v' s' r)\/(x.op=7/\v'=v/\s'=s1/\r= .ok (some n))\/(x.op=8/\v'=v/\s'=s1/\r= .ok none))):=by
  have hd:∀{b:Ex} {q:List Ex},x.args=b::q->b=a:=λ{b q} e=>by rw[e] at ha0;cases ha0;rfl
  cases hS with
  |argS h6 hA h1=>cases hd hA;exact⟨_,_,h1,.inl ⟨_,rfl,rfl,rfl,rfl⟩⟩
  |slet h6 hA h1 h2 h3=>cases hd hA;exact⟨_,_,h1,.inr ⟨_,rfl,.inl ⟨h6,_,_,h2,h3,rfl,rfl,rfl⟩⟩⟩
  |sset h6 hA h1 h2=>cases hd hA;exact⟨_,_,h1,.inr ⟨_,rfl,.inr (.inl ⟨h6,h2,rfl,rfl,rfl⟩)⟩⟩
  |ssay h6 hA h1=>cases hd hA;exact⟨_,_,h1,.inr ⟨_,rfl,.inr (.inr (.inl ⟨h6,rfl,rfl,rfl⟩))⟩⟩
  |sput h6 hA h1 h2 h3=>cases hd hA;exact⟨_,_,h1,.inr ⟨_,rfl,.inr (.inr (.inr (.inl ⟨h6,rfl,_,_,_,by rw[hA];rfl,h2,.inr ⟨_,rfl,.inr ⟨_,rfl,h3,rfl,rfl⟩⟩⟩)))⟩⟩
  |sputC h6 hA h1 h2 h3=>cases hd hA;exact⟨_,_,h1,.inr ⟨_,rfl,.inr (.inr (.inr (.inl ⟨h6,rfl,_,_,_,by rw[hA];rfl,h2,.inr ⟨_,rfl,.inl ⟨h3,rfl,rfl⟩⟩⟩)))⟩⟩
  |sputS h6 hA h1 h2=>cases hd hA;exact⟨_,_,h1,.inr ⟨_,rfl,.inr (.inr (.inr (.inl ⟨h6,rfl,_,_,_,by rw[hA];rfl,h2,.inl ⟨_,rfl,rfl,rfl⟩⟩)))⟩⟩
  |sif h6 hA h1 h2=>cases hd hA;exact⟨_,_,h1,.inr ⟨_,rfl,.inr (.inr (.inr (.inr (.inl ⟨h6,_,h2⟩))))⟩⟩
  |sloop h6 h1=>
   obtain⟨b,s1,r1,hA,g1,g2⟩:=Fw h1
   cases hd hA
   rcases g2 with g2|⟨n,g2,g3⟩
   ·exact⟨_,_,g1,.inl g2⟩
   ·exact⟨_,_,g1,.inr ⟨n,g2,.inr (.inr (.inr (.inr (.inr (.inl ⟨h6,g3⟩)))))⟩⟩
  |sback h6 hA h1=>cases hd hA;exact⟨_,_,h1,.inr ⟨_,rfl,.inr (.inr (.inr (.inr (.inr (.inr (.inl ⟨h6,rfl,rfl,rfl⟩))))))⟩⟩
  |sdo h6 hA h1=>cases hd hA;exact⟨_,_,h1,.inr ⟨_,rfl,.inr (.inr (.inr (.inr (.inr (.inr (.inr ⟨h6,rfl,rfl,rfl⟩))))))⟩⟩
 clear hS
 refine AC.go mb ?_
 simp-implicitDefEqProofs[gE,hxc,hsl,ha0,hka,n6]
 have hbox':AO.row 5 [[.p (.int .i64 x.op),.p (.str x.name),.p (.lst 4 (x.args.map Ex.cs)),.p (smL x.body),.p (smL x.els)]]=box:=hbox.symm
 rw[hbox']
 have hX1:=hX a (W.args a ham) v s s1 r1 hx1 I0.in5 _ I sid sv _ (H.more [box]) (C.more [box])
 rw[show a.cs.map AV.p=[.p (.int .i64 a.op),.p (.int .i64 a.n),.p (.str a.name),.p (exL a.kids)] by rw[hka];rfl] at hX1
 refine hX1.mono ?_
 rintro z h2 ⟨rfl,sv1,sid1,P⟩
 have b2:h2[h.length]?=some box:=by have:=PL.keep H P (i:=0) (by simp);simpa using this
 have B1:BkL M l fuel sid (.ptr e0 2 0 0) v I h s1 sv1 sid1 h2:=(BkL.refl H C).ex P.from
 have I1:=I0.in5.ex hx1
 rcases hrest with⟨c,rfl,rfl,rfl,rfl⟩|⟨n,rfl,hrest⟩
 ·simp-implicitDefEqProofs[dS]
  exact⟨rfl,sv1,sid1,B1⟩
 ·rw[hbox] at b2
  rcases hrest with⟨o1,m,up,rfl,hsg,rfl,rfl,rfl⟩|⟨o2,hvs,rfl,rfl,rfl⟩|⟨o3,rfl,rfl,rfl⟩|⟨o4,rfl,b,s2,r2,hb1,hx2,hrest⟩|⟨o5,m,hbk⟩|⟨o6,hlp⟩|⟨o7,rfl,rfl,rfl⟩|⟨o8,rfl,rfl,rfl⟩
  ·obtain⟨e,mm,w,he,g1,g2,g3,g4⟩:=B1.ci.chn.hd B1.ci.nd
   cases he
   have hq:=yS x.name n m
   rw[hsg] at hq
   simp only[Option.isSome_none,Bool.false_eq_true,if_false] at hq
   simp-implicitDefEqProofs[aa,dS,b2,o1,g1,g2,hq]
   exact⟨rfl,_,_,B1.map g3 g2 (g4 _)⟩
  ·obtain⟨n0,hn0⟩:=Option.isSome_iff_exists.1 hvs
   simp-implicitDefEqProofs[aa,dS,b2,o2]
   refine(KO G B1.ci.chn B1.ci.nd hn0).mono ?_
   rintro z h3 ⟨rfl,e1,rfl,m,c,w,g1,g2,g3,g4,g5⟩
   have hq:=yS x.name n c
   rw[if_pos (sO g3)] at hq
   simp-implicitDefEqProofs[aa,g1,g2,hq,b2]
   exact⟨rfl,_,_,B1.map g4 g2 (g5 _)⟩
  ·have jM:=B1.run.men
   simp only[kX] at jM
   have hM2:=B1.run.lt
   have hm5:=I1.1.m
   unfold M5 at hm5
   have hsd:=B1.run.said
   obtain⟨xs,hxs⟩:∃xs,xs=s1.said:=⟨_,rfl⟩
   rw[←hxs] at hsd hm5
   cases hsd with
   |nn _ _=>
    have jMa:∀os,(h2++os)[M]?=_:=λos=>(YN hM2).trans jM
    simp-implicitDefEqProofs[aa,dS,b2,o3,jM, ↓jMa]
    refine⟨rfl,_,_,B1.say (n:=n) (nid:=h2.length+1) (by omega) (λj j1 j2 _=>by rw[YM (Ne.symm j2),YN j1]) ?_ ?_⟩
    ·rw[YR (by simp;omega),←hxs];rfl
    ·rw[YM (by omega),YT (by omega),←hxs];simp[bz]
   |ss _ _ hu=>
    have hul:=(YL.1 hu).1
    simp only[bz] at hu
    have hua:∀os,(h2++os)[sid1]?=some (.row 1 (xs.map λn=>[.p (.int .i64 n)])):=λos=>by rw[YN hul];exact hu
    have hne:sid1≠M:=Ne.symm (B1.run.neS (by simp))
    have jMb:∀os z os',((h2++os).set sid1 z++os')[M]?=_:=λos z os'=>((YN (by simp;omega)).trans (YM hne)).trans ((YN hM2).trans jM)
    simp-implicitDefEqProofs[aa,dS,b2,o3,jM, ↓hua, ↓jMb]
    have htk:List.take xs.length (xs.map λn=>[AV.p (.int .i64 n)])=xs.map λn=>[AV.p (.int .i64 n)]:=YU (by simp)
    refine⟨⟨by omega,by omega⟩,?_⟩
    refine⟨rfl,_,_,B1.say (n:=n) (nid:=h2.length+1) (by omega) (λj j1 j2 j3=>?_) ?_ ?_⟩
    ·rw[YM (Ne.symm j2),YN (by simp;omega),YM (Ne.symm j3),YN j1]
    ·rw[YR (by simp;omega),←hxs];simp[kX,S5.say]
    ·rw[YM (by omega),YT (by simp),←hxs];simp[bz,htk]
  ·have hb:=YS hb1
   have hkb:=b.cs_eq
   simp-implicitDefEqProofs[aa,dS,b2,o4,hsl,hb1,hkb]
   have hX2:=hX b (W.args b hb) _ _ _ _ hx2 I1.1 _ I sid1 sv1 _ P.run B1.ci
   rw[show b.cs.map AV.p=[.p (.int .i64 b.op),.p (.int .i64 b.n),.p (.str b.name),.p (exL b.kids)] by rw[hkb];rfl] at hX2
   refine hX2.mono ?_
   rintro z h3 ⟨rfl,sv2,sid2,P2⟩
   have B2:=B1.ex P2
   have I2:=I1.1.ex hx2
   rcases hrest with⟨c,rfl,rfl,rfl⟩|⟨m,rfl,hrest⟩
   ·simp-implicitDefEqProofs[dS]
    exact⟨rfl,sv2,sid2,B2⟩
   ·simp-implicitDefEqProofs[aa,dS]
    have hn5:=I1.2 n rfl
    obtain⟨i,rfl⟩:∃i:Nat,n=(i:Int):=⟨n.toNat,by have:=hn5.1;omega⟩
    refine(Jw G B2.run i (by have:=hn5.2;omega)).mono ?_
    rintro z h4 hz
    rcases hrest with⟨h16,rfl,rfl⟩|⟨i',hi,h16,rfl,rfl⟩
    ·rw[if_pos (by omega)] at hz
     obtain⟨rfl,rfl⟩:=hz
     simp-implicitDefEqProofs[]
     exact⟨rfl,sv2,sid2,B2⟩
    ·have hii:i'=i:=by omega
     subst hii
     rw[if_neg (by omega)] at hz
     obtain⟨rfl,rfl⟩:=hz
     have jM:=B2.run.men
     simp only[kX] at jM
     have hcl:=B2.run.len
     simp-implicitDefEqProofs[aa,jM]
     rw[QM (by omega) _ _ _ rfl rfl rfl]
     exact⟨by omega,rfl,_,_,B2.upd rfl (YY _) (by simp[S5.put,hcl])⟩
  ·have fin:∀z h3,BkX M l fuel sid1 (.ptr e0 2 0 0) v' I h2 s' r z h3->BkX M l fuel sid (.ptr e0 2 0 0) v' I h s' r z h3:=λz h3 ⟨hR,sv3,sid3,B3⟩=>⟨hR,sv3,sid3,B1.trans B3⟩
   by_cases hn0:n=0
   ·simp-implicitDefEqProofs[aa,dS,b2,o5,hn0]
    refine(FX G B1.ci.chn).mono ?_
    rintro z h3 ⟨rfl,rfl⟩
    have b3:∀os,(h2++os)[h.length]?=_:=λos=>(YN (YL.1 b2).1).trans b2
    simp-implicitDefEqProofs[aa,b3,b2]
    rw[if_neg (by omega)] at hbk
    refine(SU G hE hbk I1.1 B1.run B1.ci).mono ?_
    rintro z h3 hz
    have hz:=fin _ _ hz
    obtain⟨hR,B3⟩:=hz
    match r,hR with
    | .ok none,hR=>
      cases hR
      simp-implicitDefEqProofs[aa]
      exact⟨rfl,B3⟩
    | .ok (some q),⟨b,hb1,hb2⟩=>
      cases hb1
      simp-implicitDefEqProofs[aa]
      exact⟨⟨b,rfl,hb2⟩,B3⟩
    | .st c,hR=>
      cases hR
      simp-implicitDefEqProofs[]
      exact⟨rfl,B3⟩
   ·simp-implicitDefEqProofs[aa,dS,b2,o5,hn0]
    refine(FX G B1.ci.chn).mono ?_
    rintro z h3 ⟨rfl,rfl⟩
    have b3:∀os,(h2++os)[h.length]?=_:=λos=>(YN (YL.1 b2).1).trans b2
    simp-implicitDefEqProofs[aa,b3,b2]
    rw[if_pos hn0] at hbk
    refine(SU G hB hbk I1.1 B1.run B1.ci).mono ?_
    rintro z h3 hz
    have hz:=fin _ _ hz
    obtain⟨hR,B3⟩:=hz
    match r,hR with
    | .ok none,hR=>
      cases hR
      simp-implicitDefEqProofs[aa]
      exact⟨rfl,B3⟩
    | .ok (some q),⟨b,hb1,hb2⟩=>
      cases hb1
      simp-implicitDefEqProofs[aa]
      exact⟨⟨b,rfl,hb2⟩,B3⟩
    | .st c,hR=>
      cases hR
      simp-implicitDefEqProofs[]
      exact⟨rfl,B3⟩
  ·exact(n6 o6).elim
  ·simp-implicitDefEqProofs[aa,dS,b2,o7]
   exact⟨⟨h2.length,rfl,by simp⟩,_,_,B1.more _⟩
  ·simp-implicitDefEqProofs[aa,dS,b2,o8]
   exact⟨rfl,_,_,B1⟩
end
section
structure LzS where (sid:Nat) (sv:AV) (hh:List AO) (v:List Sc5) (s:S5)
structure LzI (l:List Fd) (M k fuel sid:Nat) (u:AV) (I:List Nat) (h:List AO) (box:AO) (x:Sm) (v':List Sc5) (s':S5) (r:O5 (Option Int)) (a:LzS):Prop where
 bk:BkL M l fuel sid u a.v I (h++[box]) a.s a.sv a.sid a.hh
 inn:In5 a.v a.s
 ev:Ev l (.lp k a.v a.s x v' s' r)
theorem BkL.keep{M:Nat}{l:List Fd}{fuel sid sid1:Nat}{u sv sv1:AV}{v v1:List Sc5}{I:List Nat}{h h1 os:List AO}{s s1:S5}(H:MI M l fuel sv sid s h)(C:CI h u v I M sid)(B:BkL M l fuel sid u v1 I (h++os) s1 sv1 sid1 h1){i:Nat}(hi:i<os.length):h1[h.length+i]?=os[i]?:=by
 have a:=H.lt
 have b:=H.said.lt
 rw[B.fr.2 (h.length+i) (by simp;omega) (by simp only[Za,not_or];exact⟨by omega,by omega,λq=>by have:=C.chn.lt _ q;omega⟩),YT (by omega),Zw]
theorem BkL.from{M:Nat}{l:List Fd}{fuel sid sid1:Nat}{u sv1:AV}{v v1:List Sc5}{I:List Nat}{h h1 os:List AO}{s1:S5}(C:CI h u v I M sid)(B:BkL M l fuel sid u v1 I (h++os) s1 sv1 sid1 h1):BkL M l fuel sid u v1 I h s1 sv1 sid1 h1:=
 ⟨B.run,B.ci,B.fr.from,by have:=B.fs;simp at this;omega,λi hi x q=>B.env i hi x (by rw[YN (C.chn.lt i hi)];exact q)⟩
variable (G:am)
theorem TE{l:List Fd}{M k fuel:Nat}{x:Sm}(W:WfS l k x)(hX:∀e,WfE l k e->PxC G l M k fuel e)(hB:PbC G l M k fuel x.body)(h6:x.op=6):PsC G l M k fuel x:=by
 intro v s v' s' r hS I0 u I sid sv h H C
 have hxc:=x.cs_eq
 have hsl:exL x.args= .lst 4 (x.args.map Ex.cs):=rfl
 obtain⟨e0,rfl,_,hue⟩:=C.chn.is
 have hmb:=H.lt
 have hsb:=H.said.lt
 obtain⟨box,hbox⟩:∃box,box=AO.row 5 [[.p (.int .i64 6),.p (.str x.name),.p (.lst 4 (x.args.map Ex.cs)),.p (smL x.body),.p (smL x.els)]]:=⟨_,rfl⟩
 obtain⟨a,ha0⟩:∃a,x.args[0]?=some a:=by
  have:x.args.length≠0:=by rw[W.argn,h6];decide
  exact⟨x.args[0],YO (by omega)⟩
 have ham:=YS ha0
 have hka:=a.cs_eq
 have hlp:Ev l (.lp k v s x v' s' r):=by
  cases hS with
  |argS q _ _=>exact(q h6).elim
  |sloop _ q=>exact q
  |slet q _ _ _ _=>omega
  |sset q _ _ _=>omega
  |ssay q _ _=>omega
  |sput q _ _ _ _=>omega
  |sputC q _ _ _ _=>omega
  |sputS q _ _ _=>omega
  |sif q _ _ _=>omega
  |sback q _ _=>omega
  |sdo q _ _=>omega
 clear hS
 refine AC.go mb ?_
 simp-implicitDefEqProofs[gE,hxc,hsl,h6]
 rw[←hbox]
 refine Ik 0 (λts' h'=>r= .ok none/\(∃sv2 sid2,BkL M l fuel sid (.ptr e0 2 0 0) v' I h s' sv2 sid2 h')/\∃l,ts'=aj 109 l)
  (λts' h'=>∃n b,r= .ok (some n)/\(∃sv2 sid2,BkL M l fuel sid (.ptr e0 2 0 0) v' I h s' sv2 sid2 h')/\h'[b]?=some (.row 1 [[.p (.int .i64 n)]])/\∃l,ts'=aj 109 ((6,.ptr b 1 0 0)::l))
  (λt x h'=>∃c,t=bU/\x= .int .i64 c/\r= .st c/\∃sv2 sid2,BkL M l fuel sid (.ptr e0 2 0 0) v' I h s' sv2 sid2 h') (λQ' qE qR qP=>?_) ?_ ?_ ?_
 ·refine aN (λa:LzS=>aj 109 [(4,.ptr h.length 5 0 0),(0,.ptr M 20 0 0),(2,.ptr e0 2 0 0)]) (λa=>a.hh) (LzI l M k fuel sid (.ptr e0 2 0 0) I h box x v' s' r) (λa=>a.s.left) ⟨sid,sv,h++[box],v,s⟩ ⟨BkL.refl (H.more _) (C.more _),I0.in5,hlp⟩ ?_ ?_
  ·refine bj (by simp) ?_
   simp[below]
   omega
  rintro⟨sidc,svc,hh,vc,sc⟩ J
  have jB:hh[h.length]?=some box:=by have:=BkL.keep H C J.bk (i:=0) (by simp);simpa using this
  have jl:=J.bk.fr.1
  simp only[YZ,Ze,List.length_nil] at jl
  rw[hbox] at jB
  have hge:=J.bk.from C
  simp-implicitDefEqProofs[jB,hsl,ha0,hka]
  have hev:=J.ev
  simp only at hev
  obtain⟨a',s1,r1,hxa,hx1,hrest⟩:=Fw hev
  have haa:a'=a:=by rw[hxa] at ha0;cases ha0;rfl
  subst haa
  have hX1:=hX a' (W.args a' ham) _ _ _ _ hx1 J.inn _ I sidc svc hh J.bk.run J.bk.ci
  rw[show a'.cs.map AV.p=[.p (.int .i64 a'.op),.p (.int .i64 a'.n),.p (.str a'.name),.p (exL a'.kids)] by rw[hka];rfl] at hX1
  refine hX1.mono ?_
  rintro z h2 ⟨rfl,sv1,sid1,P⟩
  have B1:=J.bk.ex P
  simp only at B1
  have jB2:h2[h.length]?=some box:=by have:=BkL.keep H C B1 (i:=0) (by simp);simpa using this
  rw[hbox] at jB2
  have I1:=J.inn.ex hx1
  have hcn:=om hx1
  simp only[IX] at hcn
  rcases hrest with⟨c,rfl,rfl,rfl,rfl⟩|⟨n,rfl,hrest⟩
  ·simp-implicitDefEqProofs[dS]
   exact λts=>qP _ _ _ _ ⟨c,rfl,rfl,rfl,_,_,B1.from C⟩
  rcases hrest with⟨rfl,rfl,rfl,rfl⟩|⟨hn0,m,v1,s2,q1,hbk,hrest⟩
  ·simp-implicitDefEqProofs[aa,dS]
   exact qE _ _ ⟨rfl,⟨_,_,B1.from C⟩,_,rfl⟩
  have b3:∀os,(h2++os)[h.length]?=_:=λos=>(YN (YL.1 jB2).1).trans jB2
  simp-implicitDefEqProofs[aa,dS,hn0,jB2]
  refine(FX G B1.ci.chn).mono ?_
  rintro z h3 ⟨rfl,rfl⟩
  simp-implicitDefEqProofs[aa,b3,jB2]
  refine(SU G hB hbk I1.1 B1.run B1.ci).mono ?_
  rintro z h3 ⟨hR,sv3,sid3,B3⟩
  have B4:=B1.trans B3
  have I3:=(I1.1.opn.blk hbk).tl
  have hcb:=om hbk
  simp only[IX] at hcb
  match q1,hR with
  | .st c,hR=>
    cases hR
    rcases hrest with⟨_,rfl,rfl,rfl⟩|⟨q,_⟩
    case inr=>cases q
    simp-implicitDefEqProofs[]
    exact λts=>qP _ _ _ _ ⟨c,rfl,rfl,rfl,_,_,B4.from C⟩
  | .ok (some q),⟨b,hb1,hb2⟩=>
    cases hb1
    rcases hrest with⟨_,rfl,rfl,rfl⟩|⟨q,_⟩
    case inr=>cases q
    simp-implicitDefEqProofs[aa]
    exact qR _ _ ⟨q,b,rfl,⟨_,_,B4.from C⟩,hb2,_,rfl⟩
  | .ok none,hR=>
    cases hR
    rcases hrest with⟨q,_⟩|⟨_,hrest⟩
    ·exact(q rfl).elim
    simp-implicitDefEqProofs[aa]
    refine(MQ G B4.run).mono ?_
    rintro z h4 hz
    rcases hrest with⟨hF,rfl,rfl,rfl⟩|⟨F,hF,hlp2⟩
    ·rw[if_pos hF] at hz
     obtain⟨rfl,rfl⟩:=hz
     simp-implicitDefEqProofs[]
     exact λts=>qP _ _ _ _ ⟨3,rfl,rfl,rfl,_,_,B4.from C⟩
    ·rw[if_neg (by omega)] at hz
     obtain⟨rfl,rfl⟩:=hz
     have hFF:s2.left-1=F:=by omega
     rw[hFF]
     have B5:=B4.upd (s2:=s2.at_ F) rfl (by simp only[S5.at_];omega) B4.run.len
     simp-implicitDefEqProofs[aa]
     refine⟨⟨sid3,sv3,_,v1,s2.at_ F⟩,⟨B5,(I3.tick hF).in5,hlp2⟩,by simp only[S5.at_];omega,bj (by have:=B5.fr.1;simp at this⊢;omega) ?_⟩
     have:=B5.fr.1
     simp at this
     simp[below]
     omega
 ·rintro ts' h' ⟨rfl,B,l',rfl⟩
  simp-implicitDefEqProofs[]
  exact⟨rfl,B⟩
 ·rintro ts' h' ⟨n,b,rfl,B,hb,l',rfl⟩
  simp-implicitDefEqProofs[]
  exact⟨⟨b,rfl,hb⟩,B⟩
 ·rintro t y ts' h' ⟨c,rfl,rfl,rfl,B⟩
  simp-implicitDefEqProofs[]
  exact⟨rfl,B⟩
end
section
theorem QV{v v':List Sc5}(h:Grw v v'):(aC v).length<=(aC v').length:=by
 rcases h with h|⟨m,up,m',up',t,rfl,rfl,h1,h2⟩
 ·rw[iW h];exact YY _
 ·have e1:=iW h1
  have e2:=congrArg List.length h2
  simp only[nmS,Zu,YZ] at e2
  simp only[aC,YZ]
  omega
def uX(uid n:Nat):AV->AV
 | .nils=> .nils
 |_=> .sl uid 1 0 n
theorem EI.cut{R cid V sid nid uid:Nat}{uv:AV}{w:Sc5}{b:Bool}{x:Int}{h:List AO}(E:EI V nid uid uv w b x h)(A:Ap R V sid cid nid uid){n:Nat}(hn:n<=w.length):EI V nid uid (uX uid n uv) (w.take n) b x (h.set V (cF nid n (uX uid n uv) b x)):=by
 obtain⟨t,h1⟩:=E.names
 have hl:(w.take n).length=n:=by rw[Zl];omega
 refine⟨by rw[hl];exact YR E.lt.1,⟨(w.drop n).map (·.1)++t,?_⟩,?_,E.ne,by rw[Zq];exact E.ul⟩
 ·rw[YM E.neN,h1,←Zt,←List.map_append,ZH]
 ·have hv:=E.vals
  have hx:∀z,(h.set V z)[uid]?=h[uid]?:=λz=>YM (Ne.symm A.uV)
  have hwl:(w.map (·.2)).length=w.length:=by simp
  generalize hvm:w.map (·.2)=vm at hv hwl
  have hvt:(w.take n).map (·.2)=vm.take n:=by rw[←hvm,List.map_take]
  rw[hvt]
  cases hv with
  |nn=>simp only[uX,List.take_nil];exact .nn _
  |ss _ _ t2 h2=>
   have hl2:(vm.take n).length=n:=by rw[Zl];omega
   have:=UV.ss (h:=h.set V (cF nid n (uX uid n (.sl uid 1 0 vm.length)) b x)) uid (vm.take n) (vm.drop n++t2) (by rw[hx,h2,←Zt,ZH])
   rw[hl2] at this
   exact this
structure BqS where (sid nid uid:Nat) (uv:AV) (hh:List AO) (v:List Sc5) (s:S5) (i:Nat) (q:O5 (Option Int))
structure BqI (l:List Fd) (R cid k V sid nid uid:Nat) (x0:Int) (hb:List AO) (xs:List Sm) (v':List Sc5) (s':S5) (r:O5 (Option Int)) (a:BqS):Prop where
 run:RI R cid l a.sid a.s (cf a.q) (dL a.q) a.hh
 env:EI V a.nid a.uid a.uv (aC a.v) (bkB a.q) (bkV x0 a.q) a.hh
 ap:Ap R V a.sid cid a.nid a.uid
 snc:Snc R cid V sid nid uid hb a.sid a.nid a.uid a.hh
 il:a.i<=xs.length
 go:a.q= .ok none->In5 a.v a.s/\Ev l (.blk k a.v a.s (xs.drop a.i) v' s' r)
 over:a.q≠ .ok none->a.v=v'/\a.s=s'/\a.q=r
variable (G:am)
theorem Rg{l:List Fd}{R cid k:Nat}{xs:List Sm}(hz:xs.length<=1073741824)(hS:∀x∈xs,SmX G l R cid k x):StX G l R cid k xs:=by
 intro v s v' s' r hE I V x0 sid nid uid uv h H E A
 have hsl:smL xs= .lst 5 (xs.map Sm.cs):=rfl
 have hgw:Grw v v':=Cr hE
 have hlen:=QV hgw
 obtain⟨hR0,hs0,hc0⟩:=H.lt
 obtain⟨hV0,hn0,hu0⟩:=E.lt
 obtain⟨u1,u2⟩:=E.vals.cell
 have aV:=E.env
 simp only[cF] at aV
 refine AC.go mT ?_
 simp-implicitDefEqProofs[io,hsl,aV]
 have J0:BqI l R cid k V sid nid uid x0 h xs v' s' r ⟨sid,nid,uid,uv,h,v,s,0,.ok none⟩:=⟨H,E,A,Snc.init _,ZD _,λ_=>⟨I,hE⟩,λh=>(h rfl).elim⟩
 refine aN (λa:BqS=>aj 65 [(7,.p (.int .i64 a.i)),(6,.p (.int .i64 (aC v).length)),(0,.ptr R 7 0 0),(1,.p (.lst 5 (xs.map Sm.cs))),(2,.ptr V 4 0 0)]) (λa=>a.hh) (BqI l R cid k V sid nid uid x0 h xs v' s' r) (λa=>xs.length-a.i) ⟨sid,nid,uid,uv,h,v,s,0,.ok none⟩ J0 ?_ ?_
 ·refine bj (YY _) ?_
  simp[below]
  omega
 clear J0
 rintro⟨sc,nc,uc,uvc,hh,vc,sx,i,q⟩ J
 have jR:=J.run.run
 have jV:=J.env.env
 have jS:=J.snc
 have jl:=jS.fr.1
 simp only at jR jV jS jl
 obtain⟨q1,q2,q3⟩:=J.run.lt
 obtain⟨q4,q5,q6⟩:=J.env.lt
 have q7:=J.env.neR J.run
 have q8:=J.run.neR
 have q9:=J.run.ne
 have uR:=J.ap.uR
 simp only at q1 q2 q3 q4 q5 q6 q7 q8 q9 uR
 have out:∀hv:vc=v'/\sx=s'/\q=r,StL R cid l V sid nid uid h ((aC v').take (aC v).length) x0 s' r (.ret (.tup [])) ((hh.set V (.row 4 [[.sl nc 1 0 (aC v).length,uX uc (aC v).length uvc,.p (.bool (bkB q)),.p (.int .i64 (bkV x0 q))]]))):=by
  rintro⟨rfl,rfl,rfl⟩
  exact StL.mk (J.run.setV (s2:=sx) J.env _) (J.env.cut J.ap hlen) J.ap ⟨jS.fr.set (by simp) _,jS.fs,jS.fn,jS.fu⟩
 have vS:∀z,(hh.set V z)[V]?=some z:=λz=>YR q4
 have huv:=J.env.vals
 simp only at huv
 have hwl:((aC vc).map (·.2)).length=(aC vc).length:=by simp
 simp only[aQ] at jR
 simp only[cF] at jV
 by_cases hq:q= .ok none
 case neg=>
  have ho:=out (J.over hq)
  have hvl:(aC v).length<=(aC vc).length:=by have:=(J.over hq).1;simp only at this;rw[this];exact hlen
  generalize hvm:(aC vc).map (·.2)=vm at huv hwl
  cases q with
  |st c=>
   simp only[dL,cf] at jR
   by_cases hi:i<xs.length
   ·cases huv with
    |nn=>
     have h0:(aC v).length=0:=by simp at hwl;omega
     simp-implicitDefEqProofs[hi,jR,jV,vS,h0]
     simpa[h0,uX] using ho
    |ss _ _ t hu=>
     simp-implicitDefEqProofs[hi,jR,jV,vS,hvl,hwl]
     simpa[uX] using ho
   ·cases huv with
    |nn=>
     have h0:(aC v).length=0:=by simp at hwl;omega
     simp-implicitDefEqProofs[hi,jR,jV,vS,h0]
     simpa[h0,uX] using ho
    |ss _ _ t hu=>
     simp-implicitDefEqProofs[hi,jR,jV,vS,hvl,hwl]
     simpa[uX] using ho
  |ok p=>
   cases p with
   |none=>exact(hq rfl).elim
   |some m=>
    simp only[dL,cf,bkB,bkV] at jR jV ho
    by_cases hi:i<xs.length
    ·cases huv with
     |nn=>
      have h0:(aC v).length=0:=by simp at hwl;omega
      simp-implicitDefEqProofs[hi,jR,jV,vS,h0]
      simpa[h0,uX] using ho
     |ss _ _ t hu=>
      simp-implicitDefEqProofs[hi,jR,jV,vS,hvl,hwl]
      simpa[uX] using ho
    ·cases huv with
     |nn=>
      have h0:(aC v).length=0:=by simp at hwl;omega
      simp-implicitDefEqProofs[hi,jR,jV,vS,h0]
      simpa[h0,uX] using ho
     |ss _ _ t hu=>
      simp-implicitDefEqProofs[hi,jR,jV,vS,hvl,hwl]
      simpa[uX] using ho
 subst hq
 obtain⟨Ic,hev⟩:=J.go rfl
 simp only at Ic hev
 simp only[dL,cf,bkB,bkV] at jR jV out
 by_cases hi:i<xs.length
 case neg=>
  rw[List.drop_eq_nil_of_le (by omega)] at hev
  cases hev
  have ho:=out ⟨rfl,rfl,rfl⟩
  generalize hvm:(aC v').map (·.2)=vm at huv hwl
  cases huv with
  |nn=>
   have h0:(aC v).length=0:=by simp at hwl;omega
   simp-implicitDefEqProofs[hi,jR,jV,vS,h0]
   simpa[h0,uX] using ho
  |ss _ _ t hu=>
   simp-implicitDefEqProofs[hi,jR,jV,vS,hlen,hwl]
   simpa[uX] using ho
 have hg:=YO hi
 have hmem:=Zf hi
 have hdr:xs.drop i=xs[i]::xs.drop (i+1):=ZJ hi
 generalize xs[i]=x at hg hmem hdr
 have hxc:=x.cs_eq
 have hSx:=hS x hmem
 have hac:x.cs.map AV.p=[.p (.int .i64 x.op),.p (.str x.name),.p (exL x.args),.p (smL x.body),.p (smL x.els)]:=by rw[hxc];rfl
 have hrun:=J.run
 have henv:=J.env
 have hap:=J.ap
 simp only[cf,dL,bkB,bkV] at hrun henv hap
 have htk:=Od G hrun.run (by have:=Ic.m;unfold M5 at this;omega)
 have hwi:=w1 (i:=i) (by omega)
 have next:∀(sid5 nid5 uid5:Nat) (uv5:AV) (h5:List AO) (v5:List Sc5) (s5:S5) (q5:O5 (Option Int)) (sl:List (Nat × AV)),BqI l R cid k V sid nid uid x0 h xs v' s' r ⟨sid5,nid5,uid5,uv5,h5,v5,s5,i+1,q5⟩->Aw.look sl 7= .p (.int .i64 (IntKind.i64.wrap ((i:Int)+1)))->Aw.look sl 6= .p (.int .i64 (aC v).length)->Aw.look sl 0= .ptr R 7 0 0->Aw.look sl 1= .p (.lst 5 (xs.map Sm.cs))->Aw.look sl 2= .ptr V 4 0 0->
  ∃a:BqS,BqI l R cid k V sid nid uid x0 h xs v' s' r a/\xs.length-a.i<xs.length-i/\Wk h.length (aj 65 sl) h5 (aj 65 [(7,.p (.int .i64 a.i)),(6,.p (.int .i64 (aC v).length)),(0,.ptr R 7 0 0),(1,.p (.lst 5 (xs.map Sm.cs))),(2,.ptr V 4 0 0)]) a.hh:=λsid5 nid5 uid5 uv5 h5 v5 s5 q5 sl J5 e7 e6 e0 e1 e2=>by
  have:=J5.snc.fr.1
  simp only at this
  refine⟨_,J5,by simp only;omega,bj this ?_⟩
  simp[below,e7,e6,e0,e1,e2,hwi]
  omega
 have S4:∀z,Snc R cid V sid nid uid h sc nc uc (hh.set R z):=λz=>⟨jS.fr.set (by simp) _,jS.fs,jS.fn,jS.fu⟩
 have E4:∀z,EI V nc uc uvc (aC vc) false x0 (hh.set R z):=λz=>henv.frame (by simp) (YM (by omega)) (YM (by omega)) (YM (by omega))
 simp-implicitDefEqProofs[hi,jR,jV]
 refine htk.mono ?_
 rintro z h4 ⟨rfl,rfl⟩
 rw[hdr] at hev
 have rS:∀z,(hh.set R z)[R]?=some z:=λz=>YR q1
 by_cases h0:sx.left=0
 ·rw[if_pos h0]
  have hr:v'=vc/\s'=sx/\r= .st 3:=by
   cases hev with
   |bfuel _=>exact⟨rfl,rfl,rfl⟩
   |bgo h1 _ _=>omega
   |bend h1 _ _=>omega
  obtain⟨rfl,rfl,rfl⟩:=hr
  simp-implicitDefEqProofs[aa,rS,aQ]
  exact next sc nc uc uvc _ v' s' (.st 3) _ ⟨hrun.ended,E4 _,hap,S4 _,by simp only;omega,(λh=>by cases h),λ_=>⟨rfl,rfl,rfl⟩⟩ (by simp) (by simp) (by simp) (by simp) (by simp)
 ·rw[if_neg h0]
  obtain⟨F,hF⟩:∃F,sx.left=F+1:=⟨sx.left-1,by omega⟩
  have hF1:sx.left-1=F:=by omega
  rw[hF1]
  have R4:RI R cid l sc (sx.at_ F) 0 false (hh.set R (aQ l sc cid (sx.at_ F) 0 false)):=⟨rS _,by rw[YM (by omega)];exact hrun.said,by rw[YM (by omega)];exact hrun.cells,q9⟩
  have I4:=Ic.tick hF
  have hq:∃v1 s1 q1,Ev l (.stm k vc (sx.at_ F) x v1 s1 q1)/\((q1= .ok none/\Ev l (.blk k v1 s1 (xs.drop (i+1)) v' s' r))\/(q1≠ .ok none/\v1=v'/\s1=s'/\q1=r)):=by
   cases hev with
   |bfuel h1=>omega
   |bgo h1 h2 h3=>
    rw[hF] at h1
    cases h1
    exact⟨_,_,_,h2,.inl ⟨rfl,h3⟩⟩
   |bend h1 h2 h3=>
    rw[hF] at h1
    cases h1
    exact⟨_,_,_,h2,.inr ⟨h3,rfl,rfl,rfl⟩⟩
  obtain⟨v1,s1,q1',hst,hrest⟩:=hq
  have hcall:=hSx _ _ _ _ _ hst I4 V x0 sc nc uc uvc _ R4 (E4 _) hap
  rw[hac] at hcall
  have rS':=rS (aQ l sc cid (sx.at_ F) 0 false)
  simp only[aQ] at rS'
  simp-implicitDefEqProofs[aa,rS',aQ,hg,hxc]
  refine hcall.mono ?_
  rintro z h5 ⟨sid',nid',uid',uv',rfl,p1,p2,p3,p4,p5,p6,p7⟩
  simp-implicitDefEqProofs[aa]
  refine next sid' nid' uid' uv' h5 v1 s1 q1' _ ⟨p1,p2,p3,(S4 _).st p4 p5 p6 p7,by simp only;omega,λhq=>?_,λhq=>?_⟩ (by simp) (by simp) (by simp) (by simp) (by simp)
  ·rcases hrest with⟨_,h3⟩|⟨h3,_⟩
   ·exact⟨In5.stm I4 hst,h3⟩
   ·exact(h3 hq).elim
  ·rcases hrest with⟨h3,_⟩|⟨_,h3⟩
   ·exact(hq h3).elim
   ·exact h3
end
section
theorem CoS.mem{l:List Fd}{k:Nat}{x:Sm}:∀{xs:List Sm} {d:Nat},CoS l k d xs->x∈xs->(∀a∈x.args,CoE l k a)/\(∃d,CoS l k d x.body)/\∃d,CoS l k d x.els
 |y::r,d,h,hx=>by
  obtain⟨a,b,c,e⟩:=h.head
  rcases Za.1 hx with rfl|hx
  ·exact⟨a,⟨_,b⟩,⟨_,c⟩⟩
  ·exact e.mem hx
theorem OJ{l:List Fd}{k d:Nat}{xs:List Sm}{x:Sm}(hf:∀x∈xs,∃d,az d x=true)(hz:ay xs<=1073741824)(hc:CoS l k d xs)(hx:x∈xs):WfS l k x:=by
 obtain⟨c,hform⟩:=hf x hx
 obtain⟨h1,h2,h3,h4,h5⟩:=OB hform
 obtain⟨g1,g2,g3⟩:=hc.mem hx
 have hxz:=ew hx
 have hse:=x.sz_eq
 exact⟨⟨c,hform⟩,λa ha=>⟨⟨6,zL (h3 a ha)⟩,g1 a ha,by have:=bS ha;omega⟩,⟨h4,by omega,g2⟩,⟨h5,by omega,g3⟩,h2,h1⟩
variable (G:am)
theorem Vx{l:List Fd}(hc:aI l=0)(hz:aH l<=1073741824)(R cid:Nat):∀k,StC G l R cid k:=by
 intro k
 induction k using Nat.strongRecOn with
 |_ k ih=>
  have hX:∀e,WfE l k e->ExC G l R cid k e:=λe W=>TP G (λe hop W ihk v s s' r hE I V b x sid nid uid uv h H E A=>TN G hc hz ih e hop W ihk v s s' r hE I V b x sid nid uid uv h H E A) e.sz e (YY _) W
  have key:∀(N:Nat) (xs:List Sm),ay xs<N->(∀x∈xs,∃d,az d x=true)->ay xs<=1073741824->(∃d,CoS l k d xs)->StX G l R cid k xs:=by
   intro N
   induction N with
   |zero=>intro xs h;omega
   |succ N ihN=>
    rintro xs hN hf hzx ⟨d,hco⟩
    refine Rg G (by have:=cC xs;omega) λx hx=>?_
    have W:=OJ hf hzx hco hx
    have hxz:=ew hx
    have hse:=x.sz_eq
    have hB:=ihN x.body (by omega) W.body.1 W.body.2.1 W.body.2.2
    exact Tg G W hX hB (ihN x.els (by omega) W.els.1 W.els.2.1 W.els.2.2) λh6=>Tx G W h6 hX hB
  intro xs v s v' s' r hf hzx hco
  exact key (ay xs+1) xs (Nat.lt_succ_self _) hf hzx hco v s v' s' r
def GB:O5 Int->Int
 | .ok n=>n
 | .st _=>0
def CW(s:S5)(r:O5 Int):List PV:=[bl s.said,.int .i64 (cf r),.int .i64 (GB r),bl s.cells]
theorem Uj{l:List Fd}{f:Fd}{us:List Int}{fuel:Nat}{s':S5}{r:O5 Int}(hc:aI l=0)(hz:aH l<=1073741824)(hf:l[l.length-1]?=some f)(hl:us.length=f.params.length)(hu:∀n∈us,V5 n)(hfu:fuel<=4000)(hE:Ev l (.cal (l.length-1) us (s0 fuel) s' r)):
 VF Tryz.prog G nw [.agg [.p (fdL l)],.p (bl us),.p (.int .i64 fuel)] (.tup [.agg ((CW s' r).map .p),.p (.int .i64 s'.left)]):=by
 have hfl:fdL l= .lst 3 (l.map Fd.cs):=rfl
 have hfc:f.cs=[.str f.name,al f.params,smL f.body]:=rfl
 have hpL:al f.params= .lst 1 (f.params.map λw=>[.str w]):=rfl
 have hnL:bl us= .lst 1 (us.map λn=>[.int .i64 n]):=rfl
 have hfz:=cG (YS hf)
 have hfs:f.sz=1+f.name.length+(f.params.length+(f.params.map List.length).sum)+ay f.body:=rfl
 have hll:l.length<=aH l:=iD l
 have hjl:=(YL.1 hf).1
 have hn1:IntKind.i64.wrap ((l.length:Int)-1)=((l.length-1:Nat):Int):=by rw[ab (by omega) (by omega)];omega
 cases hE with
 | @cal _ f' _ _ v'' _ r'' q1 q2 q3=>
 rw[hf] at q1
 cases q1
 have key:AC Tryz.prog G nw [.agg [.p (fdL l)],.p (bl us),.p (.int .i64 fuel)] [] λx h=>∃sid cid,x= .ret (.tup [.agg [.sl sid 1 0 s'.said.length,.p (.int .i64 (cf (IF r''))),.p (.int .i64 (GB (IF r''))),.sl cid 1 0 16],.p (.int .i64 s'.left)])/\h[sid]?=some (bz s'.said)/\h[cid]?=some (bz s'.cells):=by
  refine AC.go HC ?_
  have hap:=pF hc hf
  have hflat:aC [f.params.zip us]=f.params.zip us:=by simp[aC]
  have hz1:(f.params.zip us).map (·.1)=f.params:=List.map_fst_zip (by omega)
  have hz2:(f.params.zip us).map (·.2)=us:=List.map_snd_zip (by omega)
  have hzl:(f.params.zip us).length=f.params.length:=by rw[List.length_zip];omega
  have IW:In5 [f.params.zip us] (s0 fuel):=by
   refine⟨pX fuel,λm hm y hy=>?_,zP hap q2,by simp[M5,s0];omega,by rw[hflat,hzl];simp only[s0];omega⟩
   rw[YQ.1 hm] at hy
   have:=List.mem_map_of_mem (f:=Prod.snd) hy
   rw[hz2] at this
   exact hu _ this
  have hI2:=IW.blk q3
  have call:∀(sid cid:Nat) (hh:List AO),RI 4 cid l sid (s0 fuel) 0 false hh->hh[10]?=some (cF 7 f.params.length (.sl 9 1 0 us.length) false 0)->hh[7]?=some (dt f.params)->hh[9]?=some (bz us)->hh.length=11->(sid=2\/sid=3)->(cid=2\/cid=3)->sid≠cid->
   AC Tryz.prog G aP [.ptr 4 7 0 0,.p (smL f.body),.ptr 10 4 0 0] hh λx h'=>x= .ret (.tup [])/\∃sid2 nid uid uv w,RI 4 cid l sid2 s' (cf r'') (dL r'') h'/\EI 10 nid uid uv w (bkB r'') (bkV 0 r'') h'/\h'[1]?=hh[1]?/\(sid2=sid\/11<=sid2):=λsid cid hh g1 g2 g3 g4 g5 g6 g7 g8=>by
   have EW:EI 10 7 9 (.sl 9 1 0 us.length) (aC [f.params.zip us]) false 0 hh:=by
    rw[hflat]
    refine⟨by rw[hzl];exact g2,⟨[],by rw[hz1,ZB];exact g3⟩,by rw[hz2];exact .ss _ _ [] (by rw[ZB];exact g4),by omega,by omega⟩
   have AW:Ap 4 10 sid cid 7 9:=⟨by omega,by omega,by omega,by omega,by omega,by omega⟩
   refine(Vx G hc hz 4 cid (l.length-1) f.body [f.params.zip us] (s0 fuel) v'' s' r'' (λy hy=>⟨4,(iB hc).2 f (YS hf) y hy⟩) (by omega) ⟨1,Cy hc hf⟩ q3 IW 10 0 sid 7 9 _ hh g1 EW AW).mono ?_
   rintro z h' ⟨sid',nid',uid',uv',rfl,p1,p2,p3,p4,p5,p6,p7⟩
   exact⟨rfl,sid',nid',uid',uv',_,p1,p2,p4.2 1 (by omega) (by simp only[Za,Zj,or_false,not_or];omega),by omega⟩
  simp-implicitDefEqProofs[Av]
  have hst:(AO.row 1 (List.map ((λx=>List.map AV.p x)∘λw=>[PV.str w]) f.params))=dt f.params:=by simp[dt,Function.comp_def]
  have hnt:(AO.row 1 (List.map ((λx=>List.map AV.p x)∘λn=>[PV.int IntKind.i64 n]) us))=bz us:=by simp[bz,Function.comp_def]
  refine⟨?_,?_⟩
  ·simp-implicitDefEqProofs[hfl,hn1,hf,hfc,hpL,hnL]
   rw[hst,hnt]
   refine⟨⟨by omega,by omega⟩,⟨by omega,by omega⟩,?_⟩
   refine(call 2 3 _ ⟨rfl,rfl,rfl,by omega⟩ rfl rfl rfl rfl (.inl rfl) (.inr rfl) (by omega)).mono ?_
   rintro z h' ⟨rfl,sid2,nid,uid,uv,w,p1,p2,p3,p4⟩
   have pR:=p1.run
   have pV:=p2.env
   have pS:=p1.said
   have pC:=p1.cells
   simp only[Zd,ZK] at p3
   have rT:∀z,(h'.set 1 z)[1]?=some z:=λz=>YR (YL.1 p3).1
   have rS:∀z,(h'.set 4 z)[4]?=some z:=λz=>YR p1.lt.1
   have rS1:∀z,(h'.set 4 z)[1]?=some (.row 4 [[AV.nils,AV.p (PV.int IntKind.i64 0),AV.p (PV.int IntKind.i64 0),AV.nils]]):=λz=>by rw[YM (by omega)];exact p3
   have rSo:∀z w,((h'.set 4 z).set 1 w)[1]?=some w:=λz w=>YR (by rw[Zq];exact(YL.1 p3).1)
   have rS4:∀z w,((h'.set 4 z).set 1 w)[4]?=some z:=λz w=>by rw[YM (by omega)];exact rS z
   simp only[aQ] at pR
   simp only[cF] at pV
   have q4:=p1.neR.1
   cases r'' with
   |st c=>
    simp only[dL,cf] at pR p1
    simp-implicitDefEqProofs[aa,pR,pV,p3,rT]
    refine⟨sid2,3,⟨rfl,rfl,rfl,rfl⟩,by rw[YM (by omega)];exact pS,by rw[YM (by omega)];exact pC⟩
   |ok q=>
    simp only[dL,cf] at pR p1
    simp-implicitDefEqProofs[aa,pR,pV,p3,rS,rS1,rSo,rS4]
    refine⟨sid2,3,⟨rfl,?_,?_,rfl⟩,by rw[YM (by omega),YM (by omega)];exact pS,by rw[YM (by omega),YM (by omega)];exact pC⟩
    ·cases q<;>rfl
    ·cases q<;>rfl
  ·simp-implicitDefEqProofs[hfl,hn1,hf,hfc,hpL,hnL]
   rw[hst,hnt]
   refine⟨⟨by omega,by omega⟩,⟨by omega,by omega⟩,?_⟩
   refine(call 3 2 _ ⟨rfl,rfl,rfl,by omega⟩ rfl rfl rfl rfl (.inr rfl) (.inl rfl) (by omega)).mono ?_
   rintro z h' ⟨rfl,sid2,nid,uid,uv,w,p1,p2,p3,p4⟩
   have pR:=p1.run
   have pV:=p2.env
   have pS:=p1.said
   have pC:=p1.cells
   simp only[Zd,ZK] at p3
   have rT:∀z,(h'.set 1 z)[1]?=some z:=λz=>YR (YL.1 p3).1
   have rS:∀z,(h'.set 4 z)[4]?=some z:=λz=>YR p1.lt.1
   have rS1:∀z,(h'.set 4 z)[1]?=some (.row 4 [[AV.nils,AV.p (PV.int IntKind.i64 0),AV.p (PV.int IntKind.i64 0),AV.nils]]):=λz=>by rw[YM (by omega)];exact p3
   have rSo:∀z w,((h'.set 4 z).set 1 w)[1]?=some w:=λz w=>YR (by rw[Zq];exact(YL.1 p3).1)
   have rS4:∀z w,((h'.set 4 z).set 1 w)[4]?=some z:=λz w=>by rw[YM (by omega)];exact rS z
   simp only[aQ] at pR
   simp only[cF] at pV
   have q4:=p1.neR.1
   cases r'' with
   |st c=>
    simp only[dL,cf] at pR p1
    simp-implicitDefEqProofs[aa,pR,pV,p3,rT]
    refine⟨sid2,2,⟨rfl,rfl,rfl,rfl⟩,by rw[YM (by omega)];exact pS,by rw[YM (by omega)];exact pC⟩
   |ok q=>
    simp only[dL,cf] at pR p1
    simp-implicitDefEqProofs[aa,pR,pV,p3,rS,rS1,rSo,rS4]
    refine⟨sid2,2,⟨rfl,?_,?_,rfl⟩,by rw[YM (by omega),YM (by omega)];exact pS,by rw[YM (by omega),YM (by omega)];exact pC⟩
    ·cases q<;>rfl
    ·cases q<;>rfl
 refine key.freezeR (λt v h e=>by obtain⟨_,_,e,_⟩:=e;cases e) λv h e=>?_
 obtain⟨sid,cid,e,h1,h2⟩:=e
 cases e
 have hgv:GE5 [f.params.zip us]:=λm hm y hy=>by
  have hz2:(f.params.zip us).map (·.2)=us:=List.map_snd_zip (by omega)
  rw[YQ.1 hm] at hy
  have:=List.mem_map_of_mem (f:=Prod.snd) hy
  rw[hz2] at this
  exact hu _ this
 have hg:=(dG q3 ⟨pX fuel,hgv⟩).1
 have v1:=kb (l:=s'.said) h1
 have v2:=kb (l:=s'.cells) h2
 rw[hg.len] at v2
 exact .tup (.agg (.one v1 (.keep (by simp) (.keep (by simp) (.one v2 .nil)))) (.keep (by simp) .nil)) .nil
end
section
variable (G:am)
theorem WJ{l:List Fd}(hc:aI l=0)(hz:aH l<=1073741824)(M fuel:Nat):∀k,PcC G l M k fuel:=by
 intro k
 induction k using Nat.strongRecOn with
 |_ k ih=>
  have hX:∀e,WfE l k e->PxC G l M k fuel e:=λe W=>Us G (λe hop W ihk=>Rz G hc hz ih e hop W ihk) e.sz e (YY _) W
  have key:∀(N:Nat) (xs:List Sm),ay xs<N->(∀x∈xs,∃d,az d x=true)->ay xs<=1073741824->(∃d,CoS l k d xs)->PbC G l M k fuel xs:=by
   intro N
   induction N with
   |zero=>intro xs h;omega
   |succ N ihN=>
    rintro xs hN hf hzx ⟨d,hco⟩
    refine QR G (by have:=cC xs;omega) λx hx=>?_
    have W:=OJ hf hzx hco hx
    have hxz:=ew hx
    have hse:=x.sz_eq
    have hB:=ihN x.body (by omega) W.body.1 W.body.2.1 W.body.2.2
    by_cases h6:x.op=6
    ·exact TE G W hX hB h6
    ·exact SO G W hX hB (ihN x.els (by omega) W.els.1 W.els.2.1 W.els.2.2) h6
  refine TR G hc hz λf hf=>?_
  have hfz:=cG (YS hf)
  have hfs:f.sz=1+f.name.length+(f.params.length+(f.params.map List.length).sum)+ay f.body:=rfl
  exact key (ay f.body+1) f.body (Nat.lt_succ_self _) (λy hy=>⟨4,(iB hc).2 f (YS hf) y hy⟩) (by omega) ⟨1,Cy hc hf⟩
def rv(l:List Fd)(us:List Int)(fuel:Nat):List AO:=[.row 1 [[.p (fdL l)]],.row 1 [[.p (bl us)]],.row 4 [[.nils,.p (.int .i64 0),.p (.int .i64 0),.nils]],kX l fuel .nils (s0 fuel),.row 1 [[.ptr 3 20 0 0]],.row 4 [[.nils,.p (.int .i64 0),.p (.int .i64 0),.nils]]]
theorem Ty{l:List Fd}{us:List Int}{fuel:Nat}{s':S5}{r:O5 Int}(hc:aI l=0)(hz:aH l<=1073741824)(hl:0<l.length)(hu:∀n∈us,V5 n)(hfu:fuel<=4000)(hE:Ev l (.cal (l.length-1) us (s0 fuel) s' r)):
 AC Tryz.prog G dY [.ptr 4 1 0 0,.ptr 0 1 0 0,.ptr 1 1 0 0,.ptr 5 4 0 0] (rv l us fuel++[.row 1 [[.p (.int .i64 0)]]]) λx h'=>∃sv sid h2,MI 3 l fuel sv sid s' h2/\Fr [3] (rv l us fuel++[.row 1 [[.p (.int .i64 0)]]]) h2/\(sid=3\/7<=sid)/\
  (match r with| .ok n=>x= .ret (.tup [])/\h'=h2.set 5 (.row 4 [[.nils,.p (.int .i64 0),.p (.int .i64 n),.nils]])| .st c=>x= .pan bU (.int .i64 c)/\h'=h2):=by
 have hfl:fdL l= .lst 3 (l.map Fd.cs):=rfl
 have hll:l.length<=aH l:=iD l
 have hn1:IntKind.i64.wrap ((l.length:Int)-1)=((l.length-1:Nat):Int):=by rw[ab (by omega) (by omega)];omega
 have hM:MI 3 l fuel .nils 3 (s0 fuel) (rv l us fuel++[.row 1 [[.p (.int .i64 0)]]]):=⟨rfl,.nn _ (by simp[rv]),YY _,hfu,by simp[s0]⟩
 refine AC.go tm ?_
 simp-implicitDefEqProofs[lP,rv,hfl,hn1]
 rw[←hfl]
 refine(WJ G hc hz 3 fuel (l.length-1) us (s0 fuel) s' r hE hu (pX fuel) (by simp[M5,s0];omega) _ 3 .nils _ hM (.pp us)).mono ?_
 rintro z h2 ⟨rfl,sv,sid,P⟩
 have h5:h2[5]?=some (.row 4 [[.nils,.p (.int .i64 0),.p (.int .i64 0),.nils]]):=(P.fr.2 5 (by simp[rv]) (by simp)).trans rfl
 have hsid:sid=3\/7<=sid:=by have:=P.fs;simp[rv] at this;exact this
 have hF:Fr [3] (rv l us fuel++[.row 1 [[.p (.int .i64 0)]]]) h2:=P.fr.sub λi hi=>by simp at hi;exact .inl (by simp[hi])
 cases r with
 |ok n=>
  simp-implicitDefEqProofs[aa,dS,h5]
  exact⟨sv,sid,h2,P.run,hF,hsid,rfl⟩
 |st c=>
  simp-implicitDefEqProofs[dS]
  exact⟨sv,sid,h2,P.run,hF,hsid,rfl⟩
end
section
variable (G:am)
end
section
variable (G:am)
mutual
def Sm.mq:Sm->Nat
 | .mk _ _ a b e=>2+3*fx a+Rt b+Rt e
def Rt:List Sm->Nat
 |[]=>0
 |s::r=>s.mq+Rt r
end
def Fd.mq(f:Fd):Nat:=1+f.params.length+Rt f.body
end
section
abbrev Rq:Nat:=0
def Qr:List PV:=[.int .i64 0,.int .i64 0,.int .i64 0,.int .i64 1,.int .i64 2,.int .i64 3,.int .i64 255,.int .i64 16,.int .i64 7]
variable (G:am)
theorem Px(L:List (List PV))(hl:∀x∈L,x.length=1)(hne:L≠[])(hb:L.length<=1048576):AC Tryz.prog G ff [.p (.lst 1 L)] [] λx h=>x= .ret (.sl 1 1 0 L.length)/\h=[.dead,.row 1 (L.map (·.map .p))]:=by
 obtain⟨x,r,rfl⟩:=List.exists_cons_of_ne_nil hne
 refine AC.go uW ?_
 simp-implicitDefEqProofs[mX]
 simp at hb
 omega
end
section
variable (G:am)
def trO(x:List Int)(n:Nat):AO:=iN (x.take n)
theorem Ue(x:List Int)(n m:Nat):db m (trO x n)=trO x n:=by
 simp only[trO,db,iN,List.map_map];rfl
theorem MY(x:List Int)(n:Nat)(hn:0<n)(hnx:n<=x.length)(hb:x.length<=1000)(h:List AO):AC Tryz.prog G ff [.p (.lst 1 (List.take n (x.map λv=>[.int .i64 v])))] h λy h'=>y= .ret (.sl (h.length+1) 1 0 n)/\h'=h++[.dead,trO x n]:=by
 have hl:(List.take n (x.map λv=>[PV.int .i64 v])).length=n:=by rw[Zl,Zu];omega
 have:=Px G (List.take n (x.map λv=>[.int .i64 v])) (λy hy=>by obtain⟨_,_,rfl⟩:=Zh.1 (ZG hy);rfl) (by intro e;rw[e] at hl;simp at hl;omega) (by rw[hl];omega)
 rw[hl] at this
 have e:AO.row 1 ((List.take n (x.map λv=>[PV.int .i64 v])).map (·.map .p))=trO x n:=by
  rw[trO,iN,←List.map_take,List.map_map];rfl
 rw[e] at this
 refine(AC.lift this (by simp) rfl ?_).mono ?_
 ·simp[Ll,trO,iN,Af,Cx]
  intro y hy
  obtain⟨_,_,rfl⟩:=Zh.1 (ZG hy)
  rfl
 ·rintro y h' ⟨rfl,rfl⟩
  refine⟨?_,?_⟩
  ·rfl
  ·simp only[Zn,List.map_nil,Ue];rfl
variable (hT:G Rq=some Qr)
include hT
omit hT
include hT
end
section
variable (G:am)
def tk(l:List Fd)(fuel:Nat)(s:S5):List PV:=[fdL l,.int .i64 fuel,.int .i64 ((fuel-s.left:Nat):Int),bl s.said]++s.cells.map λn=> .int .i64 n
theorem BI{hF:List AO}{m:Nat}{L:List (Nat × AV)}:∀{l1:List (Nat × AV)},(∀x∈l1,Aw.look L x.1=x.2/\below m x.2)->FzA hF m L l1
 |[],_=>trivial
 |x::r,h=>⟨by obtain⟨q1,q2⟩:=h x (by simp);rw[q1];exact .keep q2 .nil,BI λy hy=>h y (by simp[hy])⟩
theorem Uf{l:List Fd}{fuel:Nat}{sv:AV}{sid:Nat}{s:S5}{h:List AO}{r2 r5:AO}{n:Nat}(H:MI 3 l fuel sv sid s h)(h2:h[2]?=some r2)(h4:h[4]?=some (.row 1 [[.ptr 3 20 0 0]]))(h5:h[5]?=some r5)(k2:okO h.length r2)(k5:okO h.length r5)(hs:sid=3\/7<=sid)
 {l1:List (Nat × AV)}(hl:∀x∈l1,below h.length x.2)(hl1:∀x∈l1,Aw.look l1 x.1=x.2):
 ∃h',(∀L,(∀x∈l1,Aw.look L x.1=x.2)->Wk 0 (aj n L) h (aj n l1) h')/\h'.length=h.length/\h'[2]?=some r2/\h'[4]?=some (.row 1 [[.eptr (tk l fuel s) 0]])/\h'[5]?=some r5:=by
 have hl3:=H.lt
 have hl5:=(YL.1 h5).1
 have hm:=H.men
 obtain⟨X,hX⟩:∃X:Nat->AO->AO,X=λi o=>if i=sid/\sid≠3 then o else .dead:=⟨_,rfl⟩
 obtain⟨Y,hY⟩:∃Y:Nat->AO->AO,Y=λi o=>if i=3 then .row 20 [(tk l fuel s).map .p] else if i=2\/i=4\/i=5 then o else .dead:=⟨_,rfl⟩
 have hF1:View (h.mapIdx X) sv (bl s.said):=by
  have hsd:=H.said
  have hne:=H.neS
  generalize s.said=xs at hsd
  cases hsd with
  |nn _ _=>exact .nils _
  |ss _ _ q=>
   have hn3:sid≠3:=λe=>hne (by simp) e.symm
   exact kb (by rw[List.getElem?_mapIdx,q,hX];simp[hn3,bz,iN])
 have hcs:∀xs:List Int,Fzs (h.mapIdx X) h.length (xs.map λn=> .p (.int .i64 n)) (xs.map λn=> .p (.int .i64 n)):=λxs=>by
  induction xs with
  |nil=>exact .nil
  |cons x r ih=>exact .keep (by simp[below]) ih
 have eX:∀i o,X i o=if i=sid/\sid≠3 then o else .dead:=λ_ _=>by rw[hX]
 have eY:∀i o,Y i o=if i=3 then .row 20 [(tk l fuel s).map .p] else if i=2\/i=4\/i=5 then o else .dead:=λ_ _=>by rw[hY]
 have t1:Thn (h.mapIdx X) h.length h (h.mapIdx X) (h.mapIdx Y):=FU h X Y λi o hi=>by
  by_cases i3:i=3
  ·subst i3
   rw[hm] at hi
   cases hi
   refine .inr (.inr (.inr ⟨by rw[eX,if_neg (by omega)],20,_,(tk l fuel s).map .p,rfl,by rw[eY,if_pos rfl],?_⟩))
   simp only[tk,List.map_append,Zn,List.map_nil,List.map_map]
   exact .keep (by simp[below]) (.keep (by simp[below]) (.keep (by simp[below]) (.one hF1 (hcs s.cells))))
  by_cases i2:i=2\/i=4\/i=5
  ·refine .inl ⟨by rw[eX,if_neg (by omega)],by rw[eY,if_neg i3,if_pos i2],?_⟩
   rcases i2 with rfl|rfl|rfl
   ·rw[h2] at hi;cases hi;exact k2
   ·rw[h4] at hi;cases hi;simp[okO,below,ah];omega
   ·rw[h5] at hi;cases hi;exact k5
  by_cases is:i=sid/\sid≠3
  ·exact .inr (.inr (.inl ⟨by rw[eX,if_pos is],by rw[eY,if_neg i3,if_neg i2]⟩))
  ·exact .inr (.inl ⟨by rw[eX,if_neg is],by rw[eY,if_neg i3,if_neg i2]⟩)
 have w1:∀L,(∀x∈l1,Aw.look L x.1=x.2)->Wk 0 (aj n L) h (aj n l1) (h.mapIdx Y):=λL hL=>yX (ZD _) t1 (BI λx hx=>⟨hL x hx,hl x hx⟩)
 have g:∀i o,h[i]?=some o->(h.mapIdx Y)[i]?=some (Y i o):=λi o q=>by rw[List.getElem?_mapIdx,q];rfl
 have hlen:(h.mapIdx Y).length=h.length:=List.length_mapIdx
 generalize h.mapIdx Y=h1 at w1 g hlen
 have g3:h1[3]?=some (.row 20 [(tk l fuel s).map .p]):=by rw[g 3 _ hm,eY,if_pos rfl]
 have g2:h1[2]?=some r2:=by rw[g 2 _ h2,eY,if_neg (by omega),if_pos (by omega)]
 have g4:h1[4]?=some (.row 1 [[.ptr 3 20 0 0]]):=by rw[g 4 _ h4,eY,if_neg (by omega),if_pos (by omega)]
 have g5:h1[5]?=some r5:=by rw[g 5 _ h5,eY,if_neg (by omega),if_pos (by omega)]
 obtain⟨X2,hX2⟩:∃X:Nat->AO->AO,X=λi o=>if i=3 then o else .dead:=⟨_,rfl⟩
 obtain⟨Y2,hY2⟩:∃Y:Nat->AO->AO,Y=λi o=>if i=4 then .row 1 [[.eptr (tk l fuel s) 0]] else if i=2\/i=5 then o else .dead:=⟨_,rfl⟩
 have eX2:∀i o,X2 i o=if i=3 then o else .dead:=λ_ _=>by rw[hX2]
 have eY2:∀i o,Y2 i o=if i=4 then .row 1 [[.eptr (tk l fuel s) 0]] else if i=2\/i=5 then o else .dead:=λ_ _=>by rw[hY2]
 have f3:(h1.mapIdx X2)[3]?=some (.row 20 [(tk l fuel s).map .p]):=by rw[List.getElem?_mapIdx,g3];simp[eX2]
 have t2:Thn (h1.mapIdx X2) h1.length h1 (h1.mapIdx X2) (h1.mapIdx Y2):=FU h1 X2 Y2 λi o hi=>by
  by_cases i4:i=4
  ·subst i4
   rw[g4] at hi
   cases hi
   exact .inr (.inr (.inr ⟨by rw[eX2,if_neg (by omega)],1,_,_,rfl,by rw[eY2,if_pos rfl],.ptr f3 rfl .nil⟩))
  by_cases i2:i=2\/i=5
  ·refine .inl ⟨by rw[eX2,if_neg (by omega)],by rw[eY2,if_neg i4,if_pos i2],?_⟩
   rw[hlen]
   rcases i2 with rfl|rfl
   ·rw[g2] at hi;cases hi;exact k2
   ·rw[g5] at hi;cases hi;exact k5
  by_cases i3:i=3
  ·exact .inr (.inr (.inl ⟨by rw[eX2,if_pos i3],by rw[eY2,if_neg i4,if_neg i2]⟩))
  ·exact .inr (.inl ⟨by rw[eX2,if_neg i3],by rw[eY2,if_neg i4,if_neg i2]⟩)
 have w2:Wk 0 (aj n l1) h1 (aj n l1) (h1.mapIdx Y2):=yX (ZD _) t2 (BI λx hx=>⟨hl1 x hx,by rw[hlen];exact hl x hx⟩)
 refine⟨_,λL hL=>(w1 L hL).trans w2,by rw[List.length_mapIdx,hlen],?_,?_,?_⟩
 ·rw[List.getElem?_mapIdx,g2];simp[eY2]
 ·rw[List.getElem?_mapIdx,g4];simp[eY2]
 ·rw[List.getElem?_mapIdx,g5];simp[eY2]
theorem Rv(l:List Fd)(us:List Int)(fuel:Nat):rv l us fuel=[.row 1 [[.p (fdL l)]],.row 1 [[.p (bl us)]],.row 4 [[.nils,.p (.int .i64 0),.p (.int .i64 0),.nils]],.row 20 [[.p (fdL l),.p (.int .i64 fuel),.p (.int .i64 0),.nils,.p (.int .i64 0),.p (.int .i64 0),.p (.int .i64 0),.p (.int .i64 0),.p (.int .i64 0),.p (.int .i64 0),.p (.int .i64 0),.p (.int .i64 0),.p (.int .i64 0),.p (.int .i64 0),.p (.int .i64 0),.p (.int .i64 0),.p (.int .i64 0),.p (.int .i64 0),.p (.int .i64 0),.p (.int .i64 0)]],.row 1 [[.ptr 3 20 0 0]],.row 4 [[.nils,.p (.int .i64 0),.p (.int .i64 0),.nils]]]:=by
 simp[rv,kX,s0,List.replicate]
theorem zf:AK.whole jh=FK.ak jm:=rfl
theorem FD{l:List Fd}{us:List Int}{fuel:Nat}{s':S5}{r:O5 Int}(hc:aI l=0)(hz:aH l<=1073741824)(hl:0<l.length)(hu:∀n∈us,V5 n)(hfu:fuel<=4000)(hE:Ev l (.cal (l.length-1) us (s0 fuel) s' r)):
 VF Tryz.prog G fI [.agg [.p (fdL l)],.p (bl us),.p (.int .i64 fuel)] (.tup [.agg ((CW s' r).map .p),.p (.int .i64 ((fuel-s'.left:Nat):Int))]):=by
 have key:AC Tryz.prog G fI [.agg [.p (fdL l)],.p (bl us),.p (.int .i64 fuel)] [] λx h=>∃sv cid,x= .ret (.tup [.agg [sv,.p (.int .i64 (cf r)),.p (.int .i64 (GB r)),.sl cid 1 0 16],.p (.int .i64 ((fuel-s'.left:Nat):Int))])/\View h sv (bl s'.said)/\h[cid]?=some (iN s'.cells):=by
  refine AC.goK yG zf ?_
  simp-implicitDefEqProofs[jh,jm]
  rw[←Rv]
  refine zD (λ_:List AO=>aj 33 [(6,.ptr 2 4 0 0),(7,.p (.int .i64 0)),(8,.ptr 4 1 0 0),(9,.ptr 5 4 0 0)]) (λh=>h)
   (λh=>s'.cells.length=16/\h[2]?=some (.row 4 [[.nils,.p (.int .i64 0),.p (.int .i64 0),.nils]])/\h[4]?=some (.row 1 [[.eptr (tk l fuel s') 0]])/\h[5]?=some (.row 4 [[.nils,.p (.int .i64 (cf r)),.p (.int .i64 (GB r)),.nils]])) ?_ ?_
  ·simp-implicitDefEqProofs[]
   refine(Ov G dY [.ptr 4 1 0 0,.ptr 0 1 0 0,.ptr 1 1 0 0,.ptr 5 4 0 0] (rv l us fuel) (λx h'=>∃h2 sv sid,x= .ret (.p (.int .i64 (cf r)))/\MI 3 l fuel sv sid s' h'/\(sid=3\/7<=sid)/\h'[2]?=some (.row 4 [[.nils,.p (.int .i64 0),.p (.int .i64 0),.nils]])/\h'[4]?=some (.row 1 [[.ptr 3 20 0 0]])/\h'[5]?=some (.row 4 [[.nils,.p (.int .i64 0),.p (.int .i64 (GB r)),.nils]])/\h2=h') ?_).mono ?_
   ·refine(Ty G hc hz hl hu hfu hE).mono ?_
    rintro x h' ⟨sv,sid,h2,q1,q2,q3,q4⟩
    have e6:h2[6]?=some (.row 1 [[.p (.int .i64 0)]]):=(q2.2 6 (by simp[rv]) (by simp)).trans rfl
    have e2:h2[2]?=some (.row 4 [[.nils,.p (.int .i64 0),.p (.int .i64 0),.nils]]):=(q2.2 2 (by simp[rv]) (by simp)).trans rfl
    have e4:h2[4]?=some (.row 1 [[.ptr 3 20 0 0]]):=(q2.2 4 (by simp[rv]) (by simp)).trans rfl
    have e5:h2[5]?=some (.row 4 [[.nils,.p (.int .i64 0),.p (.int .i64 0),.nils]]):=(q2.2 5 (by simp[rv]) (by simp)).trans rfl
    have hl6:=(YL.1 e6).1
    have hlen:(rv l us fuel).length=6:=by simp[rv]
    rw[hlen]
    cases r with
    |ok n=>
     obtain⟨rfl,rfl⟩:=q4
     refine⟨0,.inl ⟨rfl,rfl⟩,by rw[YM (by omega)];exact e6,_,sv,sid,rfl,q1.frame (by simp) (by rw[YM (by omega),YM (by omega)]) (by rw[YM (by omega),YM (by omega)]),q3,?_,?_,?_,rfl⟩
     ·rw[YM (by omega),YM (by omega)];exact e2
     ·rw[YM (by omega),YM (by omega)];exact e4
     ·rw[YM (by omega),YR (by omega)];rfl
    |st c=>
     obtain⟨rfl,rfl⟩:=q4
     refine⟨c,.inr rfl,e6,_,sv,sid,rfl,q1.frame (by simp) (by rw[YM (by omega)]) (by rw[YM (by omega)]),q3,?_,?_,?_,rfl⟩
     ·rw[YM (by omega)];exact e2
     ·rw[YM (by omega)];exact e4
     ·rw[YM (by omega)];exact e5
   ·rintro z h' ⟨h2,sv,sid,rfl,q1,q2,q3,q4,q5,rfl⟩
    simp-implicitDefEqProofs[aa,q5]
    have hl5:=(YL.1 q5).1
    have hH:=q1.frame (h':=h2.set 5 (.row 4 [[.nils,.p (.int .i64 (cf r)),.p (.int .i64 (GB r)),.nils]])) (by simp) (by rw[YM (by omega)]) (by rw[YM (by omega)])
    obtain⟨h3,w1,w2,w3,w4,w5⟩:=Uf (n:=33) (l1:=[(6,.ptr 2 4 0 0),(7,.p (.int .i64 0)),(8,.ptr 4 1 0 0),(9,.ptr 5 4 0 0)]) hH ((YM (by omega)).trans q3) ((YM (by omega)).trans q4) (YR hl5) (by simp[okO,below,ah]) (by simp[okO,below,ah]) q2
     (by simp[below];omega) (by simp)
    exact⟨h3,⟨q1.len,w3,w4,w5⟩,w1 _ (by simp)⟩
  ·rintro h ⟨qc,q2,q4,q5⟩
   have hch:(cM 1 (tk l fuel s') 4 16)=s'.cells.map λn=>[.int .i64 n]:=by
    unfold tk
    generalize s'.cells=cs at qc
    match cs,qc with
    |[c0,c1,c2,c3,c4,c5,c6,c7,c8,c9,c10,c11,c12,c13,c14,c15],_=>rfl
   have hml:(tk l fuel s').length=20:=by simp[tk,qc]
   have hm2:∀q,(tk l fuel s')[2]'q= .int .i64 ((fuel-s'.left:Nat):Int):=λ_=>rfl
   have hm3:∀q,(tk l fuel s')[3]'q=bl s'.said:=λ_=>rfl
   have hcl:=MY G s'.cells 16 (by omega) (by omega) (by omega) h
   rw[trO,YU (l:=s'.cells) (by omega)] at hcl
   have hl5:=(YL.1 q5).1
   have a5:∀os,(h++os)[5]?=_:=λos=>(YN hl5).trans q5
   have a4:∀os,(h++os)[4]?=_:=λos=>(YN (by omega)).trans q4
   have a2:∀os,(h++os)[2]?=_:=λos=>(YN (by omega)).trans q2
   simp-implicitDefEqProofs[q2,q4,q5, ↓hch,hml,hm2,hm3]
   refine hcl.mono ?_
   rintro z h' ⟨rfl,rfl⟩
   have s55:∀os z,((h++os).set 5 z)[5]?=some z:=λos z=>YR (by simp;omega)
   have s54:∀os z,((h++os).set 5 z)[4]?=_:=λos z=>(YM (by omega)).trans (a4 os)
   have s52:∀os z,((h++os).set 5 z)[2]?=_:=λos z=>(YM (by omega)).trans (a2 os)
   have s22:∀os z w,(((h++os).set 5 z).set 2 w)[2]?=some w:=λos z w=>YR (by simp;omega)
   have s24:∀os z w,(((h++os).set 5 z).set 2 w)[4]?=_:=λos z w=>(YM (by omega)).trans (s54 os z)
   simp-implicitDefEqProofs[aa, ↓a5, ↓a4, ↓a2, ↓s55, ↓s54, ↓s52, ↓s22, ↓s24,hm2,hm3,hml]
   refine⟨_,_,⟨rfl,rfl⟩,.p _,?_⟩
   rw[YM (by omega),YM (by omega),YT (by omega)]
   simp
 refine key.freezeR (λt v h e=>by obtain⟨_,_,e,_⟩:=e;cases e) λv h e=>?_
 obtain⟨sv,cid,e,h1,h2⟩:=e
 cases e
 have v2:=kb (l:=s'.cells) h2
 have hlc:s'.cells.length=16:=(dG hE ⟨pX fuel,hu⟩).1.len
 rw[hlc] at v2
 exact .tup (.agg (.one h1 (.keep (by simp) (.keep (by simp) (.one v2 .nil)))) (.keep (by simp) .nil)) .nil
end
section
variable (G:am)
theorem Gq(n:Int):VF Tryz.prog G dg [.p (.int .i64 n)] (.p (.bool (!inR n 0 255))):=by
 refine AC.go zu ?_
 simp-implicitDefEqProofs[ph]
 refine(Hb G n).use ?_
 simp-implicitDefEqProofs[]
def Ai(us:List Int):Option Nat:=us.findIdx? λn=> !inR n 0 255
theorem IG(us:List Int)(hl:us.length<=1000000000000):VF Tryz.prog G eU [.p (bl us),.fn (.func dg) []] (.p (.int .i64 (ixI (Ai us)))):=by
 have hnL:bl us= .lst 1 (us.map λn=>[.int .i64 n]):=rfl
 refine AC.go pO ?_
 simp-implicitDefEqProofs[jE,hnL]
 refine aN (λi:Nat=>aj 19 [(8,.p (.int .i64 i)),(7,.p (.int .i64 us.length)),(0,.p (.lst 1 (us.map λn=>[.int .i64 n]))),(1,.fn (.func dg) [])]) (λ_=>[]) (λi=>i<=us.length/\∀n∈us.take i,inR n 0 255=true) (λi=>us.length-i) 0 (by simp) ?_ ?_
 ·exact bJ rfl (by simp[below])
 intro i ⟨hi,hn⟩
 have hwi:=w1 (i:=i) (by omega)
 by_cases h1:i<us.length
 ·have hg:us[i]?=some us[i]:=YO h1
  simp-implicitDefEqProofs[h1,hg]
  refine(Gq G us[i]).use ?_
  cases hb:inR us[i] 0 255 with
  |false=>
   have hf:Ai us=some i:=by
    rw[Ai,Zg]
    exact⟨h1,by simp[hb],λj hj=>by have:=hn us[j] (ZO.2 ⟨j,by omega,rfl⟩);simp[this]⟩
   simp-implicitDefEqProofs[hf,ixI]
  |true=>
   simp-implicitDefEqProofs[hwi]
   refine⟨i+1,⟨by omega,λp hp=>?_⟩,by omega,bJ rfl (by simp[below])⟩
   rw[an h1] at hp
   rcases YV.1 hp with hp|hp
   ·exact hn p hp
   ·rw[YQ.1 hp];exact hb
 ·have hie:i=us.length:=by omega
  subst hie
  rw[ZM] at hn
  have hf:Ai us=none:=by
   rw[Ai,Zs]
   intro x hx
   simp[hn x hx]
  simp-implicitDefEqProofs[hf,ixI]
theorem Nb(us:List Int)(hl:us.length<=1000000000000):VF Tryz.prog G dC [.p (bl us),.fn (.func dg) []] (.p (.bool (!us.all λv=>inR v 0 255))):=by
 refine AC.go nq ?_
 simp-implicitDefEqProofs[gv]
 refine(IG G us hl).use ?_
 simp-implicitDefEqProofs[]
 cases hb:Ai us with
 |none=>
  have:(us.all λv=>inR v 0 255)=true:=by
   rw[Ai,Zs] at hb
   rw[YW]
   intro x hx
   simpa using hb x hx
  rw[this];simp[ixI]
 |some i=>
  have:(us.all λv=>inR v 0 255)=false:=by
   rw[Ai,Zg] at hb
   obtain⟨h1,h2,_⟩:=hb
   rw[List.all_eq_false]
   exact⟨us[i],Zf h1,by simpa using h2⟩
  rw[this];simp[ixI]
def pL(us:List Int)(n:Nat):Bool:=decide (us.length=n)&&us.all λv=>inR v 0 255
theorem LC(us:List Int)(n:Nat)(hl:us.length<=1000000000000):VF Tryz.prog G mw [.p (bl us),.p (.int .i64 n)] (.p (.bool (pL us n))):=by
 have hnL:bl us= .lst 1 (us.map λn=>[.int .i64 n]):=rfl
 refine AC.go CX ?_
 by_cases h:us.length=n
 ·have h':(us.length:Int)=(n:Int):=by omega
  simp-implicitDefEqProofs[mU,hnL,h']
  rw[←hnL]
  refine(Nb G us hl).use ?_
  simp-implicitDefEqProofs[pL,h]
 ·have h':¬(us.length:Int)=(n:Int):=by omega
  simp-implicitDefEqProofs[mU,hnL,h',pL,h]
def eM(l:List Fd)(us:List Int):Bool:=decide (aI l=0)&&(match l[l.length-1]? with|some f=>pL us f.params.length|none=>false)
variable (hK:G fy=some fe) (hS:G cI=some [.tbl opK opV])
include hK hS
theorem GX(l:List Fd)(us:List Int)(hz:aH l<=1073741824)(hl:us.length<=1000000000000):VF Tryz.prog G oe [.agg [.p (fdL l)],.p (bl us)] (.p (.bool (eM l us))):=by
 have hfl:fdL l= .lst 3 (l.map Fd.cs):=rfl
 have hll:l.length<=aH l:=iD l
 refine AC.go DV ?_
 simp-implicitDefEqProofs[uh]
 refine(Jh G hK hS l hz).use ?_
 by_cases hc:aI l=0
 ·have h0:0<l.length:=by have:=(iB hc).1;cases l<;>simp_all
  have hn1:IntKind.i64.wrap ((l.length:Int)-1)=((l.length-1:Nat):Int):=by rw[ab (by omega) (by omega)];omega
  have hg:l[l.length-1]?=some l[l.length-1]:=YO (by omega)
  generalize l[l.length-1]=f at hg
  have hfc:f.cs=[.str f.name,al f.params,smL f.body]:=rfl
  have hpL:al f.params= .lst 1 (f.params.map λw=>[.str w]):=rfl
  simp-implicitDefEqProofs[hc,hfl,hn1,hg,hfc,hpL]
  refine(LC G us f.params.length hl).use ?_
  simp-implicitDefEqProofs[eM,hc,hg]
 ·simp-implicitDefEqProofs[hc,eM]
end
section
variable (G:am)
variable (hK:G fy=some fe) (hS:G cI=some [.tbl opK opV])
include hK hS
theorem DM{l:List Fd}{us:List Int}{fuel:Int}(hz:aH l<=1073741824)(hl:us.length<=1000000000000)(ho:eM l us=false\/inR fuel 0 4000=false):
 VF Tryz.prog G bE [.agg [.p (fdL l)],.p (bl us),.p (.int .i64 fuel)] (.tup [.agg [.p (bl []),.p (.int .i64 0),.p (.int .i64 0),.p (bl [])],.p (.bool false)]):=by
 have key:AC Tryz.prog G bE [.agg [.p (fdL l)],.p (bl us),.p (.int .i64 fuel)] [] λx h=>x= .ret (.tup [.agg [.nils,.p (.int .i64 0),.p (.int .i64 0),.nils],.p (.bool false)]):=by
  refine AC.go nH ?_
  simp-implicitDefEqProofs[iZ]
  refine(GX G hK hS l us hz hl).use ?_
  cases hq:eM l us with
  |false=>simp-implicitDefEqProofs[]
  |true=>
   have hf:inR fuel 0 4000=false:=by rw[hq] at ho;simpa using ho
   simp-implicitDefEqProofs[]
   refine(ll G fuel 0 4000).use ?_
   simp-implicitDefEqProofs[hf]
 refine key.freezeR (λt v h e=>by cases e) λv h e=>?_
 cases e
 exact .tup (.agg (.one (.nils 1) (.keep (by simp) (.keep (by simp) (.one (.nils 1) .nil)))) (.keep (by simp) .nil)) .nil
theorem Dx{l:List Fd}{us:List Int}{fuel:Nat}{s':S5}{r:O5 Int}(hz:aH l<=1073741824)(hl:us.length<=1000000000000)(ho:eM l us=true)(hc:aI l=0)(h0:0<l.length)(hu:∀n∈us,V5 n)(hfu:fuel<=4000)(hE:Ev l (.cal (l.length-1) us (s0 fuel) s' r)):
 VF Tryz.prog G bE [.agg [.p (fdL l)],.p (bl us),.p (.int .i64 fuel)] (.tup [.agg ((CW s' r).map .p),.p (.bool true)]):=by
 have hf:inR (fuel:Int) 0 4000=true:=by simp[inR];omega
 refine AC.go nH ?_
 simp-implicitDefEqProofs[iZ]
 refine(GX G hK hS l us hz hl).use ?_
 simp-implicitDefEqProofs[ho]
 refine(ll G fuel 0 4000).use ?_
 simp-implicitDefEqProofs[hf]
 refine(FD G hc hz h0 hu hfu hE).use ?_
 simp-implicitDefEqProofs[CW]
end
section
variable (G:am)
theorem JR(us:List Int)(hl:us.length<=1000000000000):VF Tryz.prog G lA [.p (bl us)] (.p (.bool (us.all λv=>inR v 0 255))):=by
 have hnL:bl us= .lst 1 (us.map λn=>[.int .i64 n]):=rfl
 refine AC.go AH ?_
 simp-implicitDefEqProofs[rd,hnL]
 refine aN (λi:Nat=>aj 16 [(3,.p (.int .i64 i)),(0,.p (.lst 1 (us.map λn=>[.int .i64 n])))]) (λ_=>[]) (λi=>i<=us.length/\∀n∈us.take i,inR n 0 255=true) (λi=>us.length-i) 0 (by simp) ?_ ?_
 ·exact bJ rfl (by simp[below])
 intro i ⟨hi,hn⟩
 have hwi:=w1 (i:=i) (by omega)
 by_cases h1:i<us.length
 ·have hg:us[i]?=some us[i]:=YO h1
  simp-implicitDefEqProofs[h1,hg]
  refine(su G us[i] 0 255).use ?_
  cases hb:inR us[i] 0 255 with
  |false=>
   have hf:(us.all λv=>inR v 0 255)=false:=by
    rw[List.all_eq_false]
    exact⟨us[i],Zf h1,by simp[hb]⟩
   simp-implicitDefEqProofs[hf]
  |true=>
   simp-implicitDefEqProofs[hwi]
   refine⟨i+1,⟨by omega,λp hp=>?_⟩,by omega,bJ rfl (by simp[below])⟩
   rw[an h1] at hp
   rcases YV.1 hp with hp|hp
   ·exact hn p hp
   ·rw[YQ.1 hp];exact hb
 ·have hie:i=us.length:=by omega
  subst hie
  rw[ZM] at hn
  have hf:(us.all λv=>inR v 0 255)=true:=by
   rw[YW];exact hn
  simp-implicitDefEqProofs[hf]
theorem He(l:List Fd)(us:List Int)(hz:aH l<=1073741824)(hl:us.length<=1000000000000):VF Tryz.prog G ox [.agg [.p (fdL l)],.p (bl us)] (.p (.bool (eM l us))):=by
 have hfl:fdL l= .lst 3 (l.map Fd.cs):=rfl
 have hnL:bl us= .lst 1 (us.map λn=>[.int .i64 n]):=rfl
 have hll:l.length<=aH l:=iD l
 refine AC.go Ea ?_
 simp-implicitDefEqProofs[uy]
 refine(Nj G l hz).use ?_
 by_cases hc:aI l=0
 ·have h0:0<l.length:=by have:=(iB hc).1;cases l<;>simp_all
  have hn1:IntKind.i64.wrap ((l.length:Int)-1)=((l.length-1:Nat):Int):=by rw[ab (by omega) (by omega)];omega
  have hg:l[l.length-1]?=some l[l.length-1]:=YO (by omega)
  generalize l[l.length-1]=f at hg
  have hfc:f.cs=[.str f.name,al f.params,smL f.body]:=rfl
  have hpL:al f.params= .lst 1 (f.params.map λw=>[.str w]):=rfl
  simp-implicitDefEqProofs[hc]
  refine(JR G us hl).use ?_
  cases hb:(us.all λv=>inR v 0 255) with
  |false=>simp-implicitDefEqProofs[eM,pL,hc,hg,hb]
  |true=>
   by_cases hq:us.length=f.params.length
   ·have hq':(us.length:Int)=(f.params.length:Int):=by omega
    simp-implicitDefEqProofs[hfl,hnL,hn1,hg,hfc,hpL,eM,pL,hc,hb,hq,hq']
   ·have hq':¬(us.length:Int)=(f.params.length:Int):=by omega
    simp-implicitDefEqProofs[hfl,hnL,hn1,hg,hfc,hpL,eM,pL,hc,hb,hq,hq']
 ·simp-implicitDefEqProofs[hc,eM]
theorem Dw{l:List Fd}{us:List Int}{fuel:Int}(hz:aH l<=1073741824)(hl:us.length<=1000000000000)(ho:eM l us=false\/inR fuel 0 4000=false):
 VF Tryz.prog G bZ [.agg [.p (fdL l)],.p (bl us),.p (.int .i64 fuel)] (.tup [.agg [.p (bl []),.p (.int .i64 0),.p (.int .i64 0),.p (bl [])],.p (.bool false)]):=by
 have key:AC Tryz.prog G bZ [.agg [.p (fdL l)],.p (bl us),.p (.int .i64 fuel)] [] λx h=>x= .ret (.tup [.agg [.nils,.p (.int .i64 0),.p (.int .i64 0),.nils],.p (.bool false)]):=by
  refine AC.go ny ?_
  simp-implicitDefEqProofs[jy]
  refine(He G l us hz hl).use ?_
  cases hq:eM l us with
  |false=>simp-implicitDefEqProofs[]
  |true=>
   have hf:inR fuel 0 4000=false:=by rw[hq] at ho;simpa using ho
   simp-implicitDefEqProofs[]
   refine(su G fuel 0 4000).use ?_
   simp-implicitDefEqProofs[hf]
 refine key.freezeR (λt v h e=>by cases e) λv h e=>?_
 cases e
 exact .tup (.agg (.one (.nils 1) (.keep (by simp) (.keep (by simp) (.one (.nils 1) .nil)))) (.keep (by simp) .nil)) .nil
theorem DE{l:List Fd}{f:Fd}{us:List Int}{fuel:Nat}{s':S5}{r:O5 Int}(hz:aH l<=1073741824)(hl:us.length<=1000000000000)(ho:eM l us=true)(hc:aI l=0)(hf:l[l.length-1]?=some f)(hp:us.length=f.params.length)(hu:∀n∈us,V5 n)(hfu:fuel<=4000)(hE:Ev l (.cal (l.length-1) us (s0 fuel) s' r)):
 VF Tryz.prog G bZ [.agg [.p (fdL l)],.p (bl us),.p (.int .i64 fuel)] (.tup [.agg ((CW s' r).map .p),.p (.bool true)]):=by
 have hq:inR (fuel:Int) 0 4000=true:=by simp[inR];omega
 refine AC.go ny ?_
 simp-implicitDefEqProofs[jy]
 refine(He G l us hz hl).use ?_
 simp-implicitDefEqProofs[ho]
 refine(su G fuel 0 4000).use ?_
 simp-implicitDefEqProofs[hq]
 refine(Uj G hc hz hf hp hu hfu hE).use ?_
 simp-implicitDefEqProofs[CW]
end
section
variable (G:am)
variable (hK:G fy=some fe) (hS:G cI=some [.tbl opK opV])
theorem sY{l:List Fd}{us:List Int}(h:eM l us=true):aI l=0/\0<l.length/\(∃f,l[l.length-1]?=some f/\us.length=f.params.length)/\∀n∈us,V5 n:=by
 simp only[eM,YX,decide_eq_true_eq] at h
 obtain⟨h1,h2⟩:=h
 refine⟨h1,by have:=(iB h1).1;cases l<;>simp_all,?_⟩
 split at h2
 ·rename_i f hf
  simp only[pL,YX,decide_eq_true_eq,YW] at h2
  exact⟨⟨f,hf,h2.1⟩,λn hn=>by have:=h2.2 n hn;simpa[inR,V5] using this⟩
 ·cases h2
include hK hS
end
section
theorem Ss{l:List Fd}{K fuel:Nat}{us:List Int}{s':S5}{r:O5 Int}(h:Ev l (.cal K us (s0 fuel) s' r)):s'.said.length<=fuel:=by
 have h1:M5 s'<=M5 (s0 fuel)/\s'.left<=(s0 fuel).left:=om h
 have h2:M5 (s0 fuel)=fuel:=by simp[M5,s0]
 have h3:=h1.1
 rw[h2] at h3
 simp only[M5] at h3
 omega
theorem Qo{l:List Fd}{K fuel:Nat}{us:List Int}{s':S5}{r:O5 Int}(h:Ev l (.cal K us (s0 fuel) s' r)):s'.left<=fuel:=(show M5 s'<=M5 (s0 fuel)/\s'.left<=(s0 fuel).left from om h).2
theorem OQ{l:List Fd}{us:List Int}{f:Fd}(hc:aI l=0)(hf:l[l.length-1]?=some f)(hl:us.length=f.params.length)(hv:∀n∈us,V5 n):eM l us=true:=by
 simp only[eM,hc,hf,pL,hl,decide_true,Bool.true_and,YW]
 intro n hn
 have:=hv n hn
 simp only[inR,YX,decide_eq_true_eq]
 exact this
theorem MG{l:List Fd}{us:List Int}{g:Fd->Fd}(hg:∀f,(g f).params.length=f.params.length)(hc:aI (l.map g)=0)(ho:eM l us=true):eM (l.map g) us=true:=by
 obtain⟨_,_,⟨f,hf1,hf2⟩,hv⟩:=sY ho
 exact OQ hc (f:=g f) (by rw[Zu,Zb,hf1];rfl) (by rw[hg];exact hf2) hv
variable (G:am)
structure Runs (l:List Fd) (us:List Int) (fuel:Nat) (s':S5) (r:O5 Int):Prop where
 ev:Ev l (.cal (l.length-1) us (s0 fuel) s' r)
 said:s'.said.length<=4000
 cells:s'.cells.length=16
 left:s'.left<=fuel
 impl:VF Tryz.prog G bE [.agg [.p (fdL l)],.p (bl us),.p (.int .i64 fuel)] (.tup [.agg ((CW s' r).map .p),.p (.bool true)])
 spec:VF Tryz.prog G bZ [.agg [.p (fdL l)],.p (bl us),.p (.int .i64 fuel)] (.tup [.agg ((CW s' r).map .p),.p (.bool true)])
theorem GI(xs:List Int)(hb:xs.length<=1048576):VF Tryz.prog G eS [.p (bl xs),.p (bl xs)] (.p (.bool true)):=by
 have hsl:∀l,bl l= .lst 1 (l.map λw=>[.int .i64 w]):=λ_=>rfl
 refine AC.go uC ?_
 simp-implicitDefEqProofs[mP,hsl]
 refine aN (λi:Nat=>aj 26 [(0,.p (bl xs)),(1,.p (bl xs)),(11,.p (bl xs)),(12,.p (.int .i64 xs.length)),(13,.p (.int .i64 i))]) (λ_=>[]) (λi=>i<=xs.length) (λi=>xs.length-i) 0 (by simp) ?_ ?_
 ·exact bJ rfl (by simp[below,bl])
 intro i hi
 simp-implicitDefEqProofs[hsl]
 refine bi (λh1=>?_) (λh1=>?_)
 ·simp at h1
  have hg:xs[i]?=some xs[i]:=YO h1
  generalize xs[i]=x at hg
  simp-implicitDefEqProofs[hg]
  refine⟨i+1,by omega,by omega,bJ rfl ?_⟩
  simp[below,bl,w1 (i:=i) (by omega)]
 ·simp at h1
  simp-implicitDefEqProofs[]
theorem Eo(xs:List Int)(hb:xs.length<=1048576):VF Tryz.prog G ky [.p (bl xs),.p (bl xs)] (.p (.bool true)):=by
 have hsl:∀l,bl l= .lst 1 (l.map λw=>[.int .i64 w]):=λ_=>rfl
 refine AC.go DW ?_
 simp-implicitDefEqProofs[tU,hsl]
 refine aN (λi:Nat=>aj 26 [(0,.p (bl xs)),(1,.p (bl xs)),(5,.p (.int .i64 i))]) (λ_=>[]) (λi=>i<=xs.length) (λi=>xs.length-i) 0 (by simp) ?_ ?_
 ·exact bJ rfl (by simp[below,bl])
 intro i hi
 simp-implicitDefEqProofs[hsl]
 refine bi (λh1=>?_) (λh1=>?_)
 ·simp at h1
  have hg:xs[i]?=some xs[i]:=YO h1
  generalize xs[i]=x at hg
  simp-implicitDefEqProofs[hg]
  refine⟨i+1,by omega,by omega,bJ rfl ?_⟩
  simp[below,bl,w1 (i:=i) (by omega)]
 ·simp at h1
  simp-implicitDefEqProofs[]
theorem Ki(xs ys:List Int)(e v:Int)(hx:xs.length<=1048576)(hy:ys.length<=1048576):VF Tryz.prog G eV [.agg [.p (bl xs),.p (.int .i64 e),.p (.int .i64 v),.p (bl ys)],.agg [.p (bl xs),.p (.int .i64 e),.p (.int .i64 v),.p (bl ys)]] (.p (.bool true)):=by
 refine AC.go vb ?_
 simp-implicitDefEqProofs[mW]
 refine(Eo G xs hx).use ?_
 simp-implicitDefEqProofs[]
 refine(Eo G ys hy).use ?_
 simp-implicitDefEqProofs[]
theorem Rm(xs ys:List Int)(e v:Int)(hx:xs.length<=1048576)(hy:ys.length<=1048576):VF Tryz.prog G ik [.agg [.p (bl xs),.p (.int .i64 e),.p (.int .i64 v),.p (bl ys)],.agg [.p (bl xs),.p (.int .i64 e),.p (.int .i64 v),.p (bl ys)]] (.p (.bool true)):=by
 refine AC.go uA ?_
 simp-implicitDefEqProofs[mV]
 refine(GI G xs hx).use ?_
 simp-implicitDefEqProofs[]
 refine(GI G ys hy).use ?_
 simp-implicitDefEqProofs[]
variable (hK:G fy=some fe) (hS:G cI=some [.tbl opK opV])
include hK hS
theorem Kf{l:List Fd}{us:List Int}{fuel:Nat}{s':S5}{r:O5 Int}(hz:aH l<=1073741824)(hl:us.length<=1000000000000)(ho:eM l us=true)(hfu:fuel<=4000)(hE:Ev l (.cal (l.length-1) us (s0 fuel) s' r)):Runs G l us fuel s' r:=by
 obtain⟨hc,h0,⟨f,hf1,hf2⟩,hv⟩:=sY ho
 exact⟨hE,Zi (Ss hE) hfu,(dG hE ⟨pX fuel,hv⟩).1.len,Qo hE,Dx G hK hS hz hl ho hc h0 hv hfu hE,DE G hz hl ho hc hf1 hf2 hv hfu hE⟩
theorem Yw{l:List Fd}{us:List Int}{fuel:Nat}(hz:aH l<=1073741824)(hl:us.length<=1000000000000)(ho:eM l us=true)(hfu:fuel<=4000):∃s' r,Runs G l us fuel s' r:=by
 obtain⟨hc,h0,⟨f,hf1,hf2⟩,hv⟩:=sY ho
 obtain⟨s',r,hE,_⟩:=XB hc hf1 hf2 hv fuel
 exact⟨s',r,Kf G hK hS hz hl ho hfu hE⟩
end
section
variable (G:am)
theorem Oi{ρ:List Nat}:∀{args:List AV},ah 0 args->TW ρ args args
 |[],_=>trivial
 |v::r,h=>⟨.inr ⟨(aJ (ZD _) [v] ⟨h.1,trivial⟩).1,by have:=eC ρ [v] ⟨h.1,trivial⟩;simpa[bn] using this⟩,Oi h.2⟩
theorem Nn{f:FuncId}{args:List AV}{b:List Int}{p:Nat}{Q:AV->Nat->Prop}(H:AC Tryz.prog G f (.ptr 0 2 0 0::args) [rdO b p] λx h=>∃v q,x= .ret v/\h=[rdO b q]/\Q v q)(hq:∀v q,Q v q->below 0 v){h:List AO}{k:Nat}(hk:h[k]?=some (rdO b p))(ha:ah 0 args):
 AC Tryz.prog G f (.ptr k 2 0 0::args) h λx h'=>∃v q,x= .ret v/\h'=h.set k (rdO b q)/\Q v q:=by
 refine(H.frame (h:=h) (args:= .ptr k 2 0 0::args) [k] (by simp) ⟨.inr ⟨by simp[below],by simp[ren]⟩,Oi ha⟩ (cr hk (bh _ _ _) cm)).mono ?_
 rintro x h' ⟨x0,h0,⟨v,q,rfl,rfl,r⟩,hl,rfl,rfl⟩
 refine⟨v,q,?_,?_,r⟩
 ·simp only[BG]
  have:=eC ([k]++List.range' h.length ([rdO b q].length-[rdO b p].length)) [v] ⟨hq v q r,trivial⟩
  simpa[bn] using this
 ·have hp2:∀σ,gf σ (rdO b q)=rdO b q:=λσ=>by simp[rdO,gf,bn,ren]
  simp[mrg,hp2]
theorem NR{l:List Int}(h:Byt l)(n:Nat):Byt (l.take n):=λx hx=>h x (ZG hx)
theorem NO{f:FuncId}{args:List AV}{R:ARes->Prop}(H:AC Tryz.prog G f args [] λx _=>R x)(hR:∀x,R x->∃v,x= .ret v/\below 0 v)(ha:ah 0 args)(h:List AO):AC Tryz.prog G f args h λx h'=>R x/\h'=h:=by
 have H2:AC Tryz.prog G f args [] λx h'=>R x/\h'=[]:=by
  refine H.wk (λt v h' r=>by obtain⟨_,e,_⟩:=hR _ r;cases e) λv h' r=>?_
  obtain⟨v',e,hv⟩:=hR _ r
  cases e
  exact⟨v,[],Ow rfl ⟨.inr ⟨hv,rfl⟩,trivial⟩,r,rfl⟩
 refine(H2.pre h ha (λo ho=>by cases ho) (λx h' r=>by rw[r.2])).mono ?_
 rintro x h' ⟨h1,⟨r,rfl⟩,rfl⟩
 exact⟨r,rfl⟩
variable (hK:G fy=some fe) (hS:G cI=some [.tbl opK opV])
include hK hS
end
section
theorem Gw:AK.whole sG=FK.ak se:=rfl
variable (G:am)
def Fy(l:List Fd):Nat:=match l[l.length-1]? with|some f=>f.params.length|none=>0
theorem Qx(l:List Fd):Fy l<=aH l:=by
 unfold Fy
 split
 ·rename_i f hf
  have:=cG (YS hf)
  rw[Fd.sz] at this
  omega
 ·exact ZD _
structure Ys5 where (us:List Int) (q i:Nat)
theorem To{b:List Int}(hb:Byt b)(hl:b.length<=2000){p:Nat}(hp:p<=3000000000)(l:List Fd)(hz:aH l<=900000000):AC Tryz.prog G sE [.ptr 0 2 0 0,.agg [.p (fdL l)]] [rdO b p] λx h=>∃v q,x= .ret v/\h=[rdO b q]/\(∃us:List Int,v= .p (bl us)/\us.length<=900000001)/\p<=q/\q<=p+1800000003:=by
 refine nr G (AC.goK HN Gw ?_)
 have hll:=fS l
 have hpl:=Qx l
 have hfl:fdL l= .lst 3 (l.map Fd.cs):=rfl
 have hn0:iN []= .row 1 []:=rfl
 simp-implicitDefEqProofs[se,sG]
 refine nk (aj 54 [(0,.ptr 0 2 0 0),(5,.sl 1 1 0 0),(6,.p (.int .i64 (Fy l)))]) [rdO b p,iN []] ?_ ?_
 ·by_cases h0:l=[]
  ·subst h0
   simp-implicitDefEqProofs[hfl]
   refine dx [0,2] (by simp) (by decide) (by decide) (cr rfl (bh _ _ _) (cr rfl (by simp[iN,okO]) cm)) ?_
   simp[below,ren,Fy]
  ·have hlen:0<l.length:=List.length_pos_iff.2 h0
   have hg:l[l.length-1]?=some l[l.length-1]:=YO (by omega)
   have hpe:Fy l=l[l.length-1].params.length:=by rw[Fy,hg]
   rw[hpe]
   generalize l[l.length-1]=f at hg
   have hw:IntKind.i64.wrap ((l.length:Int)-1)=((l.length-1:Nat):Int):=by rw[ab (by omega) (by omega)];omega
   have hfc:f.cs=[.str f.name,al f.params,smL f.body]:=rfl
   have hsl:∀l,al l= .lst 1 (l.map λw=>[.str w]):=λ_=>rfl
   have hc:(0:Int)<l.length:=by omega
   simp-implicitDefEqProofs[hfl,hlen,hw,hg,hfc,hsl]
   refine dx [0,2] (by simp) (by decide) (by decide) (cr rfl (bh _ _ _) (cr rfl (by simp[iN,okO]) cm)) ?_
   simp[below,ren]
 refine zD (λs:Ys5=>aj 54 [(0,.ptr 0 2 0 0),(5,.sl 1 1 0 s.us.length)]) (λs=>[rdO b s.q,iN s.us]) (λs=>s.us.length<=900000000/\p<=s.q/\s.q<=p+1800000000) ?_ ?_
 ·simp-implicitDefEqProofs[]
  refine aN (λs:Ys5=>aj 54 [(0,.ptr 0 2 0 0),(5,.sl 1 1 0 s.us.length),(6,.p (.int .i64 (Fy l))),(7,.p (.int .i64 s.i))]) (λs=>[rdO b s.q,iN s.us]) (λs=>s.i<=Fy l/\s.us.length=s.i/\p<=s.q/\s.q<=p+2*s.i) (λs=>Fy l-s.i) ⟨[],p,0⟩ (by simp) ?_ ?_
  ·refine dx [0,1] (by simp) (by decide) (by decide) (cr rfl (bh _ _ _) (cr rfl (by simp[iN,okO]) cm)) ?_
   simp[below,ren]
  rintro⟨us,q,i⟩ ⟨h1,h2,h3,h4⟩
  simp only at h1 h2 h3 h4
  have hwi:=w1 (i:=i) (by omega)
  have hbo:∀us,iN us= .row 1 (us.map λn=>[.p (.int .i64 n)]):=λ_=>rfl
  have ht:∀us:List Int,List.take us.length (us.map λn=>[AV.p (.int .i64 n)])=us.map λn=>[.p (.int .i64 n)]:=λus=>YU (by simp)
  simp-implicitDefEqProofs[]
  refine bi (λhc=>?_) (λhc=>?_)
  ·simp at hc
   simp-implicitDefEqProofs[]
   refine(aW G b hb hl q (by omega) 256 _).mono ?_
   rintro r h ⟨k,rfl,rfl,_⟩
   simp-implicitDefEqProofs[aa]
   refine(lW G hb hl (p:=q+1) (by omega) [0,1,2,3,7,16,255,(k:Int)] (k:=2) (by simp) (by simp) (by omega) rfl (by simp[iN])).mono ?_
   rintro r h ⟨n,_,rfl,rfl⟩
   simp-implicitDefEqProofs[aa,hbo,ht]
   refine⟨by omega,?_⟩
   simp-implicitDefEqProofs[hwi]
   refine⟨⟨us++[n],q+2,i+1⟩,⟨by simp only;omega,by simp only[YZ,List.length_singleton];omega,by simp only;omega,by simp only;omega⟩,by simp only;omega,?_⟩
   refine dx [0,4] (by simp) (by decide) (by decide) (cr rfl (bh _ _ _) (br (by simp) (Ep (us++[n])) cm)) ?_
   simp[below,ren]
  ·simp at hc
   refine⟨⟨us,q,0⟩,⟨by simp only;omega,by simp only;omega,by simp only;omega⟩,?_⟩
   refine dx [0,1] (by simp) (by decide) (by decide) (cr rfl (bh _ _ _) (br rfl (Ep us) cm)) ?_
   simp[below,ren]
 rintro⟨us,q,i⟩ ⟨h1,h2,h3⟩
 simp only at h1 h2 h3
 have hbo:∀us,iN us= .row 1 (us.map λn=>[.p (.int .i64 n)]):=λ_=>rfl
 simp-implicitDefEqProofs[]
 refine(aW G b hb hl q (by omega) 40 _).mono ?_
 rintro r h ⟨k,rfl,rfl,_⟩
 simp-implicitDefEqProofs[aa]
 have hv:∀(h:List AO) (j:Nat) (us:List Int) (n:Nat),n=us.length->h[j]?=some (iN us)->View h (.sl j 1 0 n) (bl us):=λh j us n e q=>by subst e;exact kb q
 have ht:∀us:List Int,List.take us.length (us.map λn=>[AV.p (.int .i64 n)])=us.map λn=>[.p (.int .i64 n)]:=λus=>YU (by simp)
 by_cases k0:k=0
 ·simp-implicitDefEqProofs[k0,hbo,ht]
  refine⟨by omega,?_⟩
  exact⟨_,_,q+1,.p (bl (us++[0])),rfl,rfl,.one (hv _ _ _ _ (by simp) (by simp[iN])) .nil,⟨_,rfl,by simp;omega⟩,by omega,by omega⟩
 have k1':¬(k:Int)=0:=by omega
 by_cases k1:(k:Int)=1
 ·simp-implicitDefEqProofs[k0,k1]
  refine bi (λhc=>?_) (λhc=>?_)
  ·cases us with
   |nil=>simp at hc
   |cons u us=>
    simp-implicitDefEqProofs[]
    refine(lW G hb hl (p:=q+1) (by omega) [-1,256] (k:=2) (by simp) (by simp) (by omega) rfl (by simp[iN])).mono ?_
    rintro r h ⟨n,_,rfl,rfl⟩
    simp-implicitDefEqProofs[aa,hbo]
    exact⟨_,_,q+2,.p (bl (n::us)),rfl,rfl,.one (hv _ _ _ _ (by simp) (by simp[iN])) .nil,⟨_,rfl,by simpa using Nat.le_succ_of_le h1⟩,by omega,by omega⟩
  ·simp-implicitDefEqProofs[]
   exact⟨_,_,q+1,.p (bl us),rfl,rfl,.one (kb rfl) .nil,⟨_,rfl,by omega⟩,by omega,by omega⟩
 ·simp-implicitDefEqProofs[k0,k1]
  exact⟨_,_,q+1,.p (bl us),rfl,rfl,.one (kb rfl) .nil,⟨_,rfl,by omega⟩,by omega,by omega⟩
def DrR(x:ARes):Prop:=∃(l:List Fd) (us:List Int) (fuel:Int),x= .ret (.tup [.agg [.p (fdL l)],.p (bl us),.p (.int .i64 fuel)])/\aH l<=900000000/\us.length<=900000001
theorem PN:∀x,DrR x->∃v,x= .ret v/\below 0 v:=λx ⟨l,us,fuel,e,_⟩=>⟨_,e,by simp[below]⟩
theorem Aa(code:List Int)(hb:Byt code):AC Tryz.prog G fz [.p (zT code)] [] λx _=>DrR x:=by
 refine AC.go rg ?_
 simp-implicitDefEqProofs[jP]
 refine(AC.lift (TA G code) (by simp) rfl rfl).mono ?_
 rintro r h ⟨rfl,rfl⟩
 have hr:∀n,db n (rdO (code.take 2000) 0)=rdO (code.take 2000) 0:=λn=>by simp[rdO,db,eI,cL]
 have hbt:=NR hb 2000
 have hbl:(code.take 2000).length<=2000:=by rw[Zl];omega
 generalize code.take 2000=b at hr hbt hbl
 simp-implicitDefEqProofs[aa,cL,hr]
 refine(Nn G (Q:=λv q2=>(∃l:List Fd,v= .agg [.p (fdL l)]/\aH l<=200000000)/\q2<=200000000) ((Jm G hbt hbl (p:=0) (by omega)).mono λx h ⟨l,q,e1,e2,_,e4,_,e6⟩=>⟨_,q,e1,e2,⟨l,rfl,e4⟩,by omega⟩) (λv q ⟨⟨l,e,_⟩,_⟩=>by rw[e];simp[below]) (h:=[.row 1 [[.nils]],rdO b 0]) (k:=1) rfl (by simp)).mono ?_
 rintro r h ⟨v,q,rfl,rfl,⟨l,rfl,hz⟩,hq⟩
 simp-implicitDefEqProofs[aa]
 have pick:∀(q:Nat) (h:List AO) (n:Int),q<=3000000000->h[1]?=some (rdO b q)->AC Tryz.prog G be [.ptr 1 2 0 0,.p (.int .i64 n)] h λx h'=>∃v q2,x= .ret v/\h'=h.set 1 (rdO b q2)/\∃k:Nat,v= .p (.int .i64 k)/\q2=q+1:=λq h n hq h1=>
  Nn G (Q:=λv q2=>∃k:Nat,v= .p (.int .i64 k)/\q2=q+1) ((Pw G b hbt hbl q (by omega) n).mono λx h ⟨k,e1,e2,_⟩=>⟨_,_,e1,e2,k,rfl,rfl⟩) (λv q ⟨k,e,_⟩=>by rw[e];simp[below]) h1 (by simp[below])
 have fin:∀(l:List Fd) (q:Nat),aH l<=900000000->q<=3000000000->∀T,T=AO.row 1 [[.nils]]->True:=λ_ _ _ _ _ _=>trivial
 refine(pick q _ 12 (by omega) rfl).mono ?_
 rintro r h ⟨v,q2,rfl,rfl,k,rfl,rfl⟩
 simp-implicitDefEqProofs[aa]
 have inn:=λ(l:List Fd) (q:Nat) (hz:aH l<=900000000) (hq:q<=3000000000) (h:List AO) (h1:h[1]?=some (rdO b q))=>Nn G (To G hbt hbl hq l hz) (λv q ⟨⟨us,e,_⟩,_⟩=>by rw[e];simp[below]) h1 (by simp[below])
 have num:=λ(q:Nat) (hq:q<=5000000000) (h:List AO) (h1:h[1]?=some (rdO b q))=>Nn G (args:=[.p (bl [400,400,1000,20,5,1,0,4000,-1,4001])]) (Q:=λv q2=>∃n:Int,v= .p (.int .i64 n)/\q2=q+1) ((Gg G hbt hbl (p:=q) (by omega) _ (by simp) (by simp) []).mono λx h ⟨n,_,e1,e2⟩=>⟨_,_,e1,e2,n,rfl,rfl⟩) (λv q ⟨k,e,_⟩=>by rw[e];simp[below]) h1 (by simp[below])
 refine bi (λhc=>?_) (λhc=>?_)
 ·simp-implicitDefEqProofs[]
  refine(Nn G (OL G hbt hbl (p:=q+1) (by omega)) (λv q ⟨⟨l,e,_⟩,_⟩=>by rw[e];simp[below]) (k:=1) rfl trivial).mono ?_
  rintro r h ⟨v,q2,rfl,rfl,⟨l2,rfl,hz2⟩,hq1,hq2⟩
  simp-implicitDefEqProofs[aa]
  refine(inn l2 q2 hz2 (by omega) _ rfl).mono ?_
  rintro r h ⟨v,q3,rfl,rfl,⟨us,rfl,hu⟩,hq3,hq4⟩
  simp-implicitDefEqProofs[aa]
  refine(num q3 (by omega) _ rfl).mono ?_
  rintro r h ⟨v,q4,rfl,rfl,n,rfl,rfl⟩
  simp-implicitDefEqProofs[aa]
  exact⟨l2,us,n,rfl,hz2,hu⟩
 ·simp-implicitDefEqProofs[]
  refine(inn l (q+1) (by omega) (by omega) _ rfl).mono ?_
  rintro r h ⟨v,q3,rfl,rfl,⟨us,rfl,hu⟩,hq3,hq4⟩
  simp-implicitDefEqProofs[aa]
  refine(num q3 (by omega) _ rfl).mono ?_
  rintro r h ⟨v,q4,rfl,rfl,n,rfl,rfl⟩
  simp-implicitDefEqProofs[aa]
  exact⟨l,us,n,rfl,by omega,hu⟩
end
section
variable (G:am)
variable (hK:G fy=some fe) (hS:G cI=some [.tbl opK opV])
include hK hS
theorem WN{l:List Fd}{us:List Int}{fuel:Int}(hz:aH l<=1073741824)(hl:us.length<=1000000000000)(ho:¬(eM l us=true/\inR fuel 0 4000=true)):
 VF Tryz.prog G bE [.agg [.p (fdL l)],.p (bl us),.p (.int .i64 fuel)] (.tup [.agg [.p (bl []),.p (.int .i64 0),.p (.int .i64 0),.p (bl [])],.p (.bool false)])/\VF Tryz.prog G bZ [.agg [.p (fdL l)],.p (bl us),.p (.int .i64 fuel)] (.tup [.agg [.p (bl []),.p (.int .i64 0),.p (.int .i64 0),.p (bl [])],.p (.bool false)]):=by
 have h:eM l us=false\/inR fuel 0 4000=false:=by
  cases h1:eM l us with
  |false=>exact .inl rfl
  |true=>
   cases h2:inR fuel 0 4000 with
   |false=>exact .inr rfl
   |true=>exact absurd ⟨h1,h2⟩ ho
 exact⟨DM G hK hS hz hl h,Dw G hz hl h⟩
end
section
def rO(n:Nat):AO:= .row 1 [[.p (.int .i64 n)]]
def RH(b0:AO)(n:Nat)(ch:List GS):List AO:=b0::rO n::scH ch
theorem mH(b0:AO)(n:Nat)(ch:List GS):(RH b0 n ch).length=2+scL ch:=by simp only[RH,Ze,kL];omega
theorem Aq{b0:AO}(hb:okO 0 b0){n:Nat}{ch:List GS}(hs:oT ch){m:Nat}(hm:2+scL ch<=m):∀o∈RH b0 n ch,okO m o:=
 ae (cw hb) (ae (by intro e he;rw[YQ.1 he];simp[below]) (Fv ch hs hm))
def Sml(ch:List Scp):Prop:=∀s n,fC ch s=some n->n<26
theorem Sml.getD{ch:List Scp}(h:Sml ch)(s:List UInt8):(fC ch s).getD 0<26:=by
 cases e:fC ch s with
 |none=>simp
 |some n=>exact h s n e
theorem Sml.set{m:Scp}{up:List Scp}(h:Sml (m::up))(s:List UInt8){n:Nat}(hn:n<26):Sml (eK m s n::up):=by
 intro t k e
 rw[fC,CR] at e
 by_cases hst:s=t
 ·rw[if_pos hst] at e;cases e;exact hn
 ·rw[if_neg hst] at e
  exact h t k (by rw[fC];exact e)
theorem Sml.open{ch:List Scp}(h:Sml ch):Sml ([]::ch):=λs n e=>h s n (by rw[fC] at e;exact e)
theorem Sml.opS{m:Scp}{up:List Scp}(h:Sml (m::up))(o:Int)(s:List UInt8){n:Nat}(hn:o=1->n<26):Sml (opS o s m n::up):=by
 unfold Go.Proofs.YtokiapglmedipaaGreatDoor.opS
 split
 ·rename_i e;exact h.set s (hn e)
 ·exact h
theorem tr:AK.whole ee=FK.ak ef:=rfl
variable (G:am)
theorem Fl(n:Nat)(hn:n<26)(r:AV)(h:List AO):AC Tryz.prog G cU [r,.p (.int .i64 n)] h λx h'=>x= .ret (.p (.str (vnm n)))/\h'=h:=by
 refine AC.go tD ?_
 have hv:vnm n=[118,UInt8.ofNat (97+n)]:=by rw[vnm,Nat.mod_eq_of_lt hn]
 have hw:IntKind.i64.wrap (97+(n:Int))=((97+n:Nat):Int):=by rw[ab (by omega) (by omega)];omega
 have hw2:IntKind.i32.wrap (97+(n:Int))=97+(n:Int):=by
  have:∀m:Nat,m<26->IntKind.i32.wrap (97+(m:Int))=97+(m:Int):=by decide
  exact this _ hn
 have htn:(97+(n:Int)).toNat=97+n:=by omega
 have hof:UInt8.ofNat (97+n)=97+UInt8.ofNat n:=by
  have:∀m:Nat,m<26->UInt8.ofNat (97+m)=97+UInt8.ofNat m:=by decide
  exact this _ hn
 rw[hv]
 simp-implicitDefEqProofs[md,hw,hw2,htn,hof]
 omega
def RX(b0:AO)(up:List GS)(gap:List AO)(n:Nat):List AO:=b0::rO n::(scH up++gap)
theorem ST(b0:AO)(up:List GS)(gap:List AO)(n:Nat):(RX b0 up gap n).length=2+scL up+gap.length:=by
 simp only[RX,Ze,YZ,kL];omega
theorem Sz(b0:AO)(up:List GS)(gap:List AO)(m:Scp)(n:Nat)(rest:List AO):RH b0 n (⟨gap,m⟩::up)++rest=RX b0 up gap n++(.mp (mpE m):: .row 2 [[.mp (2+scL up+gap.length),upV up]]::rest):=by
 simp[RH,RX,scH]
theorem Wo(b0:AO)(up:List GS)(gap:List AO)(n:Nat)(t:List AO):(RX b0 up gap n++t)[1]?=some (.row 1 [[.p (.int .i64 n)]]):=rfl
theorem Wg(b0:AO)(up:List GS)(gap:List AO)(n k:Nat)(t:List AO):(RX b0 up gap n++t).set 1 (.row 1 [[.p (.int .i64 k)]])=RX b0 up gap k++t:=rfl
theorem OV(b0:AO)(gap:List AO)(m:Scp)(up:List GS)(s:List UInt8)(n:Nat)(hn:n<26)(rest:List AO):AC Tryz.prog G dW [.ptr 1 1 0 0,upV (⟨gap,m⟩::up),.p (.str s)] (RH b0 n (⟨gap,m⟩::up)++rest) λx h=>x= .ret (.p (.str (vnm n)))/\h=RH b0 (n+1) (⟨gap,eK m s n⟩::up)++rest:=by
 refine AC.go ty ?_
 have hup:upV (⟨gap,m⟩::up)= .ptr (2+scL up+gap.length+1) 2 0 0:=rfl
 have hms:iJ (.str s) (.p (.int .i64 n)) (mpE m)=some (mpE (eK m s n)):=vV s n m
 have hl:=ST b0 up gap
 have hw:IntKind.i64.wrap ((n:Int)+1)=(n:Int)+1:=ab (by omega) (by omega)
 have hw2:IntKind.i64.wrap ((n:Int)+1-1)=(n:Int):=by rw[ab (by omega) (by omega)];omega
 have hw3:IntKind.i64.wrap (n:Int)=(n:Int):=ab (by omega) (by omega)
 have hs1:∀t,(RX b0 up gap n++t).set 1 (.row 1 [[.p (.int .i64 ((n:Int)+1))]])=RX b0 up gap (n+1)++t:=λt=>Wg b0 up gap n (n+1) t
 have h1:∀t,(RX b0 up gap (n+1)++t)[1]?=some (.row 1 [[.p (.int .i64 ((n:Int)+1))]]):=λt=>Wo b0 up gap (n+1) t
 rw[Sz,Sz,hup]
 generalize RX b0 up gap (n+1)=B at hs1 h1⊢
 have h0:=Wo b0 up gap n
 have hln:=hl n
 generalize RX b0 up gap n=A at hs1 h0 hln⊢
 simp-implicitDefEqProofs[lQ,hln,hms,h0,h1,hs1,hw,hw2,hw3]
 refine(Fl G n hn _ _).mono ?_
 rintro r h ⟨rfl,rfl⟩
 simp-implicitDefEqProofs[aa]
theorem Pm{b0:AO}(hb:okO 0 b0){f:FuncId}{args:List AV}{n n':Nat}{ch ch':List GS}{v:AV}(H:AC Tryz.prog G f args (RH b0 n ch) λx h=>x= .ret v/\h=RH b0 n' ch')(hs:oT ch)(hl:scL ch'=scL ch)(rest:List AO)(ha:ah (2+scL ch) args):
 AC Tryz.prog G f args (RH b0 n ch++rest) λx h=>x= .ret v/\h=RH b0 n' ch'++rest:=by
 refine(AC.pre H rest (by rw[mH b0];exact ha) (by rw[mH b0];exact Aq hb hs (YY _)) ?_).mono ?_
 ·rintro x h ⟨_,rfl⟩;rw[mH b0,mH b0,hl]
 ·rintro x h ⟨h1,⟨rfl,rfl⟩,rfl⟩
  exact⟨rfl,rfl⟩
theorem Ko(b0:AO)(n:Nat)(ch:List GS)(rest:List AO)(s:List UInt8):AC Tryz.prog G bq [upV ch,.p (.str s)] (RH b0 n ch++rest) λx h=>x= .ret (.tup [.p (.int .i64 (((fC (sco ch) s).getD 0:Nat):Int)),.p (.bool (fC (sco ch) s).isSome)])/\h=RH b0 n ch++rest:=JS G b0 (rO n) ch rest s
def rBx(ch:List GS)(e:List AV):List AO:=[.row 1 [[.ptr 1 1 0 0]],.row 4 [e],.row 1 [[upV ch]],.row 4 [[.p (.int .i64 0),.p (.int .i64 0),.p (.str []),.nils]]]
def PC{b0:AO}(hb:okO 0 b0)(n:Nat)(ch:List GS)(e:List PV)(hs:oT ch):Vis Unit where
 I:=λ_=>RH b0 n ch++rBx ch (e.map .p)
 n:=2+scL ch+4
 F:=dy
 caps:=[.ptr (2+scL ch) 1 0 0,.ptr (2+scL ch+2) 1 0 0]
 len:=λ_=>by rw[YZ,mH b0];rfl
 ok:=λ_ o ho=>by
  rcases YV.1 ho with h|h
  ·exact Aq hb hs (by omega) o h
  ·simp only[rBx,Za,Zj,or_false] at h
   rcases h with rfl|rfl|rfl|rfl
   ·intro e he;rw[YQ.1 he];exact⟨by simp only[below];omega,trivial⟩
   ·intro e he;rw[YQ.1 he];exact aJ (ZD _) _ (by simp)
   ·intro e he;rw[YQ.1 he];exact⟨eu ch (by omega),trivial⟩
   ·intro e he;rw[YQ.1 he];exact aJ (ZD _) _ (by simp)
 capsOk:=by simp[below]
theorem zh{α β:Type}(f:α->β):∀(l:List α) (u:Unit),aT (λ(st:Unit) x=>(f x,st)) u l=(l.map f,u)
 |[],u=>rfl
 |x::r,u=>by rw[aT,zh f r];rfl
theorem CC(ch:List Scp):∀l:List Ex,oG ch l=l.map (irE ch)
 |[]=>rfl
 |e::r=>by rw[oG,CC ch r];rfl
theorem Sh{b0:AO}(hb:okO 0 b0)(n:Nat)(ch:List GS)(hs:oT ch)(hm:Sml (sco ch)):∀(N:Nat) (e:Ex),e.sz<=N->e.sz<=1073741824->
 AC Tryz.prog G cX [.ptr 1 1 0 0,.agg (e.cs.map .p),upV ch] (RH b0 n ch) λx h=>x= .ret (.agg ((irE (sco ch) e).cs.map .p))/\h=RH b0 n ch:=by
 intro N
 induction N with
 |zero=>intro e he;have:=e.sz_eq;omega
 |succ N ih=>
  intro e he hz
  have hec:=e.cs_eq
  have hsz:=e.sz_eq
  have hkl:=bB e.kids
  have hre:(irE (sco ch) e).cs=[.int .i64 e.op,.int .i64 e.n,.str (if e.op=2 then irN (sco ch) e.name else e.name),exL (e.kids.map (irE (sco ch)))]:=by
   obtain⟨o,m,s,ks⟩:=e;rw[irE,Ex.cs_eq,←CC];rfl
  have hlen:(RH b0 n ch).length=2+scL ch:=mH b0 n ch
  have hcl:AC Tryz.prog G cX [.ptr 1 1 0 0,.agg (e.cs.map .p),upV ch] (RH b0 n ch) λx h=>x= .ret (.agg ((irE (sco ch) e).cs.map .p))/\∃l,h=RH b0 n ch++l:=by
   refine AC.goK to tr ?_
   have hup:=KN ch
   have hfind:=Ko G b0 n ch [.row 1 [[.ptr 1 1 0 0]],.row 4 [[.p (.int .i64 e.op),.p (.int .i64 e.n),.p (.str e.name),.p (exL e.kids)]],.row 1 [[upV ch]],.row 4 [[.p (.int .i64 0),.p (.int .i64 0),.p (.str []),.nils]]] e.name
   have hmp:∀nm:List UInt8,AC Tryz.prog G aX [.p (exL e.kids),.fn (.func dy) [.ptr (2+scL ch) 1 0 0,.ptr (2+scL ch+2) 1 0 0]] (RH b0 n ch++[.row 1 [[.ptr 1 1 0 0]],.row 4 [[.p (.int .i64 e.op),.p (.int .i64 e.n),.p (.str nm),.p (exL e.kids)]],.row 1 [[upV ch]],.row 4 [[.p (.int .i64 0),.p (.int .i64 0),.p (.str []),.nils]]])
    λx h=>x= .ret (.p (exL (e.kids.map (irE (sco ch)))))/\h=RH b0 n ch++[.row 1 [[.ptr 1 1 0 0]],.row 4 [[.p (.int .i64 e.op),.p (.int .i64 e.n),.p (.str nm),.p (exL e.kids)]],.row 1 [[upV ch]],.row 4 [[.p (.int .i64 0),.p (.int .i64 0),.p (.str []),.nils]]]:=by
    intro nm
    have hI:RH b0 n ch++[.row 1 [[.ptr 1 1 0 0]],.row 4 [[.p (.int .i64 e.op),.p (.int .i64 e.n),.p (.str nm),.p (exL e.kids)]],.row 1 [[upV ch]],.row 4 [[.p (.int .i64 0),.p (.int .i64 0),.p (.str []),.nils]]]=(PC hb n ch [.int .i64 e.op,.int .i64 e.n,.str nm,exL e.kids] hs).I ():=rfl
    have hm2:=EO G (PC hb n ch [.int .i64 e.op,.int .i64 e.n,.str nm,exL e.kids] hs) (λst x=>(irE (sco ch) x,st)) (λ_ _=>True) e.kids (by omega) (by show 0<2+scL ch+4;omega) (λi st hi _=>⟨trivial,?_⟩) () trivial
    ·rw[zh] at hm2
     exact hm2
    have hks:=bS (Zf hi)
    have hx:=ih e.kids[i] (by omega) (by omega)
    generalize e.kids[i]=x at hx
    have hxc:=x.cs_eq
    have hyc:=(irE (sco ch) x).cs_eq
    refine(PC hb n ch _ hs).trim G (AC.go rh ?_) (by simp[below])
    rw[←hI]
    have hx2:=Pm G hb hx hs rfl [.row 1 [[.ptr 1 1 0 0]],.row 4 [[.p (.int .i64 e.op),.p (.int .i64 e.n),.p (.str nm),.p (exL e.kids)]],.row 1 [[upV ch]],.row 4 [[.p (.int .i64 0),.p (.int .i64 0),.p (.str []),.nils]],.row 4 [[.p (.int .i64 x.op),.p (.int .i64 x.n),.p (.str x.name),.p (exL x.kids)]],.row 4 [[.p (.int .i64 0),.p (.int .i64 0),.p (.str []),.nils]]] ⟨by simp only[below];omega,by simp,eu ch (YY _),trivial⟩
    have hcaps:(PC hb n ch [.int .i64 e.op,.int .i64 e.n,.str nm,exL e.kids] hs).caps=[.ptr (2+scL ch) 1 0 0,.ptr (2+scL ch+2) 1 0 0]:=rfl
    rw[hxc] at hx2
    rw[hcaps]
    simp-implicitDefEqProofs[jT,hxc,hlen]
    refine hx2.mono ?_
    rintro r h ⟨rfl,rfl⟩
    rw[hyc]
    simp-implicitDefEqProofs[aa,hlen,PC,rBx]
   rw[hec]
   have hub:below (2+scL ch) (upV ch):=eu ch (YY _)
   generalize upV ch=u at hup hub hfind hmp⊢
   have hmp:=hmp (if e.op=2 then irN (sco ch) e.name else e.name)
   have hD:=hm.getD e.name
   have hirn:irN (sco ch) e.name=vnm ((fC (sco ch) e.name).getD 0):=rfl
   rw[hre]
   clear hre ih
   have hsame:∀(op:Int) (nm:List UInt8) (r1:List (Nat × AV)),Aw.look r1 3= .ptr (2+scL ch) 1 0 0->Aw.look r1 4= .ptr (2+scL ch+1) 4 0 0->Aw.look r1 5= .ptr (2+scL ch+2) 1 0 0->Aw.look r1 6= .ptr (2+scL ch+3) 4 0 0->
    Wk (2+scL ch) (aj 29 r1) (RH b0 n ch++[.row 1 [[.ptr 1 1 0 0]],.row 4 [[.p (.int .i64 op),.p (.int .i64 e.n),.p (.str nm),.p (exL e.kids)]],.row 1 [[u]],.row 4 [[.p (.int .i64 0),.p (.int .i64 0),.p (.str []),.nils]]])
     (aj 29 [(3,.ptr (2+scL ch) 1 0 0),(4,.ptr (2+scL ch+1) 4 0 0),(5,.ptr (2+scL ch+2) 1 0 0),(6,.ptr (2+scL ch+3) 4 0 0)]) (RH b0 n ch++[.row 1 [[.ptr 1 1 0 0]],.row 4 [[.p (.int .i64 op),.p (.int .i64 e.n),.p (.str nm),.p (exL e.kids)]],.row 1 [[u]],.row 4 [[.p (.int .i64 0),.p (.int .i64 0),.p (.str []),.nils]]]):=by
    intro op nm r1 e3 e4 e5 e6
    refine ta (r:=[_,_,_,_]) (s:=[]) hlen (Nat.le_add_right _ _) (Aq hb hs (YY _)) ?_ (by simp[below,e3,e4,e5,e6])
    refine ae (by intro x hx;rw[YQ.1 hx];exact⟨by simp only[below];omega,trivial⟩) (ae (cw (by simp[okO])) (ae (by intro x hx;rw[YQ.1 hx];exact⟨(aJ (Nat.le_add_right _ _) [u] ⟨hub,trivial⟩).1,trivial⟩) (ae (cw (by simp[okO])) dX)))
   rcases hup with rfl|⟨i,rfl⟩
   ·simp-implicitDefEqProofs[ee,ef,hlen]
    refine nk (aj 29 [(3,.ptr (2+scL ch) 1 0 0),(4,.ptr (2+scL ch+1) 4 0 0),(5,.ptr (2+scL ch+2) 1 0 0),(6,.ptr (2+scL ch+3) 4 0 0)]) (RH b0 n ch++[.row 1 [[.ptr 1 1 0 0]],.row 4 [[.p (.int .i64 e.op),.p (.int .i64 e.n),.p (.str (if e.op=2 then irN (sco ch) e.name else e.name)),.p (exL e.kids)]],.row 1 [[.nilp]],.row 4 [[.p (.int .i64 0),.p (.int .i64 0),.p (.str []),.nils]]]) ?_ ?_
    ·by_cases o2:e.op=2
     ·rw[o2] at hfind
      simp-implicitDefEqProofs[o2,hlen]
      refine hfind.mono ?_
      rintro r h ⟨rfl,rfl⟩
      simp-implicitDefEqProofs[aa,hlen]
      refine(Fl G _ hD _ _).mono ?_
      rintro r h ⟨rfl,rfl⟩
      rw[hirn]
      simp-implicitDefEqProofs[aa,hlen]
      exact hsame 2 _ _ (by simp) (by simp) (by simp) (by simp)
     ·simp-implicitDefEqProofs[o2,hlen]
      exact hsame e.op _ _ (by simp) (by simp) (by simp) (by simp)
    ·simp-implicitDefEqProofs[hlen]
     refine hmp.mono ?_
     rintro r h ⟨rfl,rfl⟩
     simp-implicitDefEqProofs[aa,hlen]
   ·simp-implicitDefEqProofs[ee,ef,hlen]
    refine nk (aj 29 [(3,.ptr (2+scL ch) 1 0 0),(4,.ptr (2+scL ch+1) 4 0 0),(5,.ptr (2+scL ch+2) 1 0 0),(6,.ptr (2+scL ch+3) 4 0 0)]) (RH b0 n ch++[.row 1 [[.ptr 1 1 0 0]],.row 4 [[.p (.int .i64 e.op),.p (.int .i64 e.n),.p (.str (if e.op=2 then irN (sco ch) e.name else e.name)),.p (exL e.kids)]],.row 1 [[.ptr i 2 0 0]],.row 4 [[.p (.int .i64 0),.p (.int .i64 0),.p (.str []),.nils]]]) ?_ ?_
    ·by_cases o2:e.op=2
     ·rw[o2] at hfind
      simp-implicitDefEqProofs[o2,hlen]
      refine hfind.mono ?_
      rintro r h ⟨rfl,rfl⟩
      simp-implicitDefEqProofs[aa,hlen]
      refine(Fl G _ hD _ _).mono ?_
      rintro r h ⟨rfl,rfl⟩
      rw[hirn]
      simp-implicitDefEqProofs[aa,hlen]
      exact hsame 2 _ _ (by simp) (by simp) (by simp) (by simp)
     ·simp-implicitDefEqProofs[o2,hlen]
      exact hsame e.op _ _ (by simp) (by simp) (by simp) (by simp)
    ·simp-implicitDefEqProofs[hlen]
     refine hmp.mono ?_
     rintro r h ⟨rfl,rfl⟩
     simp-implicitDefEqProofs[aa,hlen]
  exact Lg G hcl rfl (by rw[hlen];exact Aq hb hs (YY _)) (by simp[below])
end
section
theorem pY:AK.whole fg=FK.ak fc:=rfl
def irG(up:List Scp)(st:Scp × Nat)(s:Sm):Sm × (Scp × Nat):=((irS s st.1 up st.2).1,((irS s st.1 up st.2).2.1,(irS s st.1 up st.2).2.2))
theorem Li(up:List Scp):∀(l:List Sm) (m:Scp) (n:Nat),aT (irG up) (m,n) l=((eL l m up n).1,((eL l m up n).2.1,(eL l m up n).2.2))
 |[],m,n=>rfl
 |s::r,m,n=>by
  rw[aT,eL]
  have:=Li up r (irS s m up n).2.1 (irS s m up n).2.2
  simp only[irG] at this⊢
  rw[this]
theorem Km:∀(s:Sm) (m:Scp) (up:List Scp) (n:Nat),(irS s m up n).2.2=n+ju s/\(irS s m up n).2.1=opS s.op s.name m n:=by
 have key:∀N:Nat,(∀s:Sm,s.sz<N->∀m up n,(irS s m up n).2.2=n+ju s/\(irS s m up n).2.1=opS s.op s.name m n)/\∀l:List Sm,ay l<N->∀m up n,(eL l m up n).2.2=n+bI l:=by
  intro N
  induction N with
  |zero=>exact⟨λs h=>by omega,λl h=>by omega⟩
  |succ N ih=>
   have dT:∀s:Sm,s.sz<N+1->∀m up n,(irS s m up n).2.2=n+ju s/\(irS s m up n).2.1=opS s.op s.name m n:=by
    intro s hs m up n
    obtain⟨o,nme,a,bd,el⟩:=s
    rw[Sm.sz] at hs
    rw[irS,ju]
    simp only
    refine⟨?_,rfl⟩
    rw[ih.2 el (by omega),ih.2 bd (by omega)]
    split<;>omega
   refine⟨dT,λl hl m up n=>?_⟩
   induction l generalizing m n with
   |nil=>rfl
   |cons s r ihl=>
    rw[ay] at hl
    rw[eL,bI]
    simp only
    rw[ihl (by omega),(dT s (by omega) m up n).1]
    omega
 exact λs=>(key (s.sz+1)).1 s (by omega)
theorem PE{l:List Sm}{i:Nat}(h:i<l.length):bI (l.drop i)=ju l[i]+bI (l.drop (i+1)):=by
 rw[ZJ h,bI]
def sBx(ch:List GS):List AO:=[.row 1 [[.ptr 1 1 0 0]],.row 1 [[upV ch]]]
theorem Oq(ch:List GS){n:Nat}(h:2+scL ch<=n):∀o∈sBx ch,okO n o:=by
 intro o ho
 simp only[sBx,Za,Zj,or_false] at ho
 rcases ho with rfl|rfl
 ·intro e he;rw[YQ.1 he];exact⟨by simp only[below];omega,trivial⟩
 ·intro e he;rw[YQ.1 he];exact⟨eu ch h,trivial⟩
theorem vj(gap:List AO)(m:Scp)(up:List GS):scL (⟨gap,m⟩::up)=scL up+gap.length+2:=rfl
def Dy{b0:AO}(hb:okO 0 b0)(gap:List AO)(up:List GS)(hs:∀m,oT (⟨gap,m⟩::up)):Vis (Scp × Nat) where
 I:=λst=>RH b0 st.2 (⟨gap,st.1⟩::up)++sBx (⟨gap,[]⟩::up)
 n:=2+(scL up+gap.length+2)+2
 F:=bX
 caps:=[.ptr (2+(scL up+gap.length+2)) 1 0 0,.ptr (2+(scL up+gap.length+2)+1) 1 0 0]
 len:=λst=>by rw[YZ,mH b0];rfl
 ok:=λst o ho=>by
  rcases YV.1 ho with h|h
  ·exact Aq hb (hs _) (by rw[vj];omega) o h
  ·exact Oq (⟨gap,[]⟩::up) (by rw[vj];omega) o h
 capsOk:=by simp[below]
def Gt{b0:AO}(hb:okO 0 b0)(n:Nat)(ch:List GS)(x:List PV)(hs:oT ch):Vis Unit where
 I:=λ_=>RH b0 n ch++(sBx ch++[.row 5 [x.map .p],.row 5 [[.p (.int .i64 0),.p (.str []),.nils,.nils,.nils]]])
 n:=2+scL ch+4
 F:=cy
 caps:=[.ptr (2+scL ch) 1 0 0,.ptr (2+scL ch+1) 1 0 0]
 len:=λ_=>by rw[YZ,mH b0];rfl
 ok:=λ_ o ho=>by
  rcases YV.1 ho with h|h
  ·exact Aq hb hs (by omega) o h
  ·rcases YV.1 h with h|h
   ·exact Oq ch (by omega) o h
   ·simp only[Za,Zj,or_false] at h
    rcases h with rfl|rfl
    ·intro e he;rw[YQ.1 he];exact aJ (ZD _) _ (by simp)
    ·intro e he;rw[YQ.1 he];exact aJ (ZD _) _ (by simp)
 capsOk:=by simp[below]
variable (G:am)
theorem Sn{b0:AO}(hb:okO 0 b0)(n:Nat)(gap:List AO)(m:Scp)(up:List GS)(hs:oT (⟨gap,m⟩::up))(hm:Sml (m::sco up))(x:List PV)(hx5:x.length=5)(a:List Ex)(hz:aY a<=1073741824):
 AC Tryz.prog G aX [.p (exL a),.fn (.func cy) [.ptr (2+scL (⟨gap,m⟩::up)) 1 0 0,.ptr (2+scL (⟨gap,m⟩::up)+1) 1 0 0]] ((Gt hb n (⟨gap,m⟩::up) x hs).I ()) λy h=>y= .ret (.p (exL (oG (m::sco up) a)))/\h=(Gt hb n (⟨gap,m⟩::up) x hs).I ():=by
 have hal:=bB a
 have hm2:=EO G (Gt hb n (⟨gap,m⟩::up) x hs) (λst x=>(irE (m::sco up) x,st)) (λ_ _=>True) a (by omega) (by show 0<2+scL (⟨gap,m⟩::up)+4;omega) (λi st hi _=>⟨trivial,?_⟩) () trivial
 ·rw[zh] at hm2
  rw[CC]
  exact hm2
 have hks:=bS (Zf hi)
 have hx:=Sh G hb n (⟨gap,m⟩::up) hs hm a[i].sz a[i] (YY _) (by omega)
 rw[show sco (⟨gap,m⟩::up)=m::sco up from rfl] at hx
 generalize a[i]=e at hx
 have hxc:=e.cs_eq
 have hyc:=(irE (m::sco up) e).cs_eq
 have hup:upV (⟨gap,m⟩::up)= .ptr (2+scL up+gap.length+1) 2 0 0:=rfl
 generalize hch:(GS.mk gap m::up)=ch at*
 have hlen:=mH b0 n ch
 refine(Gt hb n ch x hs).trim G (AC.go ow ?_) (by simp[below])
 have hI:(Gt hb n ch x hs).I ()=RH b0 n ch++[.row 1 [[.ptr 1 1 0 0]],.row 1 [[.ptr (2+scL up+gap.length+1) 2 0 0]],.row 5 [x.map .p],.row 5 [[.p (.int .i64 0),.p (.str []),.nils,.nils,.nils]]]:=by
  simp only[Gt,sBx,hup];rfl
 have hx2:=Pm G hb hx hs rfl [.row 1 [[.ptr 1 1 0 0]],.row 1 [[.ptr (2+scL up+gap.length+1) 2 0 0]],.row 5 [x.map .p],.row 5 [[.p (.int .i64 0),.p (.str []),.nils,.nils,.nils]],.row 4 [[.p (.int .i64 e.op),.p (.int .i64 e.n),.p (.str e.name),.p (exL e.kids)]],.row 4 [[.p (.int .i64 0),.p (.int .i64 0),.p (.str []),.nils]]] ⟨by simp only[below];omega,by simp,eu ch (YY _),trivial⟩
 have hcaps:(Gt hb n ch x hs).caps=[.ptr (2+scL ch) 1 0 0,.ptr (2+scL ch+1) 1 0 0]:=rfl
 rw[hxc,hup] at hx2
 rw[hcaps,hI]
 simp-implicitDefEqProofs[gP,hxc,hlen]
 refine hx2.mono ?_
 rintro r h ⟨rfl,rfl⟩
 rw[hyc]
 simp-implicitDefEqProofs[aa,hlen]
end
section
variable (G:am)
theorem NA(o:Int)(s:List UInt8)(a:List Ex)(bd el:List Sm)(m:Scp)(up:List Scp)(n:Nat):
 (irS ⟨o,s,a,bd,el⟩ m up n).1=⟨o,if o=1 then vnm n else if o=2 then irN (m::up) s else s,oG (m::up) a,(eL bd [] (opS o s m n::up) (if o=1 then n+1 else n)).1,(eL el [] (opS o s m n::up) (eL bd [] (opS o s m n::up) (if o=1 then n+1 else n)).2.2).1⟩:=rfl
theorem GQ:∀(l:List Sm) (m:Scp) (up:List Scp) (n:Nat),(eL l m up n).2.2=n+bI l
 |[],m,up,n=>rfl
 |s::r,m,up,n=>by
  rw[eL,bI]
  simp only
  rw[GQ r,(Km s m up n).1]
  omega
def Qw(b0:AO)(l:List Sm):Prop:=∀(gap:List AO) (m:Scp) (up:List GS) (n:Nat),(∀m,oT (⟨gap,m⟩::up))->Sml (m::sco up)->n+bI l<=26->
 AC Tryz.prog G bQ [.ptr 1 1 0 0,.p (smL l),.ptr (2+scL up+gap.length+1) 2 0 0] (RH b0 n (⟨gap,m⟩::up)) λx h=>x= .ret (.p (smL (eL l m (sco up) n).1))/\h=RH b0 (eL l m (sco up) n).2.2 (⟨gap,(eL l m (sco up) n).2.1⟩::up)
theorem TD{b0:AO}(hb:okO 0 b0){o:Int}{nme:List UInt8}{a:List Ex}{bd el:List Sm}(hz:aY a<=1073741824)(ib:Qw G b0 bd)(ie:Qw G b0 el)(gap:List AO)(m:Scp)(up:List GS)(n:Nat)(hs:∀m,oT (⟨gap,m⟩::up))(hm:Sml (m::sco up))(hc:n+ju ⟨o,nme,a,bd,el⟩<=26):
 AC Tryz.prog G bX (.agg ((Sm.mk o nme a bd el).cs.map .p)::(Dy hb gap up hs).caps) ((Dy hb gap up hs).I (m,n)) λx h=>x= .ret (.agg ((irG (sco up) (m,n) ⟨o,nme,a,bd,el⟩).1.cs.map .p))/\h=(Dy hb gap up hs).I (irG (sco up) (m,n) ⟨o,nme,a,bd,el⟩).2:=by
 refine(Dy hb gap up hs).trim G (AC.goK pH pY ?_) (by simp[below])
 have hse:(Sm.mk o nme a bd el).cs=[.int .i64 o,.str nme,exL a,smL bd,smL el]:=Sm.cs_eq _
 have hcaps:(Dy hb gap up hs).caps=[.ptr (2+(scL up+gap.length+2)) 1 0 0,.ptr (2+(scL up+gap.length+2)+1) 1 0 0]:=rfl
 have hI:∀n m,(Dy hb gap up hs).I (m,n)=RH b0 n (⟨gap,m⟩::up)++[.row 1 [[.ptr 1 1 0 0]],.row 1 [[.ptr (2+scL up+gap.length+1) 2 0 0]]]:=λ_ _=>rfl
 have hA:=Sn G hb n gap m up (hs m) hm [.int .i64 o,.str nme,exL a,smL bd,smL el] rfl a hz
 have hIA:(Gt hb n (⟨gap,m⟩::up) [.int .i64 o,.str nme,exL a,smL bd,smL el] (hs m)).I ()=RH b0 n (⟨gap,m⟩::up)++[.row 1 [[.ptr 1 1 0 0]],.row 1 [[.ptr (2+scL up+gap.length+1) 2 0 0]],.row 5 [[.p (.int .i64 o),.p (.str nme),.p (exL a),.p (smL bd),.p (smL el)]],.row 5 [[.p (.int .i64 0),.p (.str []),.nils,.nils,.nils]]]:=rfl
 rw[hIA,vj] at hA
 have hlen:∀n m,(RH b0 n (⟨gap,m⟩::up)).length=2+(scL up+gap.length+2):=λn m=>by rw[mH b0];rfl
 have hgS:(irG (sco up) (m,n) ⟨o,nme,a,bd,el⟩).2=(opS o nme m n,(eL el [] (opS o nme m n::sco up) (eL bd [] (opS o nme m n::sco up) (if o=1 then n+1 else n)).2.2).2.2):=rfl
 have hg1:(irG (sco up) (m,n) ⟨o,nme,a,bd,el⟩).1.cs=[.int .i64 o,.str (if o=1 then vnm n else if o=2 then irN (m::sco up) nme else nme),exL (oG (m::sco up) a),smL (eL bd [] (opS o nme m n::sco up) (if o=1 then n+1 else n)).1,smL (eL el [] (opS o nme m n::sco up) (eL bd [] (opS o nme m n::sco up) (if o=1 then n+1 else n)).2.2).1]:=by
  show(irS ⟨o,nme,a,bd,el⟩ m (sco up) n).1.cs=_
  rw[NA,Sm.cs_eq];rfl
 rw[hgS,hg1,hcaps,hI,hI,hse]
 have hfind:=λrest=>Ko G b0 n (⟨gap,m⟩::up) rest nme
 have hbind:=λ(hn:n<26) rest=>OV G b0 gap m up nme n hn rest
 have hup:∀m,upV (⟨gap,m⟩::up)= .ptr (2+scL up+gap.length+1) 2 0 0:=λ_=>rfl
 simp only[hup] at hfind hbind
 have hblk:∀(l':List Sm) (hl:Qw G b0 l') (n2:Nat) (m2:Scp) (gap2:List AO),Sml (m2::sco up)->n2+bI l'<=26->(∀o∈gap2,okO (2+(scL up+gap.length+2)+gap2.length) o)->
  AC Tryz.prog G bQ [.ptr 1 1 0 0,.p (smL l'),.ptr (2+(scL up+gap.length+2)+gap2.length+1) 2 0 0] (RH b0 n2 (⟨gap,m2⟩::up)++(gap2++[.mp [],.row 2 [[.mp (2+(scL up+gap.length+2)+gap2.length),.ptr (2+scL up+gap.length+1) 2 0 0]]]))
   λx h=>x= .ret (.p (smL (eL l' [] (m2::sco up) n2).1))/\∃m',h=RH b0 (eL l' [] (m2::sco up) n2).2.2 (⟨gap,m2⟩::up)++(gap2++[.mp (mpE m'),.row 2 [[.mp (2+(scL up+gap.length+2)+gap2.length),.ptr (2+scL up+gap.length+1) 2 0 0]]]):=by
  intro l' hl n2 m2 gap2 h1 h2 h3
  have e2:∀n m',RH b0 n (⟨gap2,m'⟩::⟨gap,m2⟩::up)=RH b0 n (⟨gap,m2⟩::up)++(gap2++[.mp (mpE m'),.row 2 [[.mp (2+(scL up+gap.length+2)+gap2.length),.ptr (2+scL up+gap.length+1) 2 0 0]]]):=by
   intro n m'
   simp[RH,scH,upV,scL]
  have:=hl gap2 [] (⟨gap,m2⟩::up) n2 (λ_=>⟨h3,hs m2⟩) h1.open h2
  rw[e2] at this
  refine this.mono ?_
  rintro x h ⟨hx,hh⟩
  exact⟨hx,(eL l' [] (sco (⟨gap,m2⟩::up)) n2).2.1,by rw[hh,e2];rfl⟩
 have hmO:Sml (opS o nme m n::sco up):=hm.opS o nme (λh1=>by rw[ju,if_pos h1] at hc;omega)
 have hcb:(if o=1 then n+1 else n)+bI bd+bI el<=26:=by
  rw[ju] at hc
  split<;>rename_i h1
  ·rw[if_pos h1] at hc;omega
  ·rw[if_neg h1] at hc;omega
 have hn26:o=1->n<26:=λh1=>by rw[ju,if_pos h1] at hc;omega
 generalize hK:2+scL up+gap.length=K at*
 have hKL:2+(scL up+gap.length+2)=K+2:=by omega
 rw[hKL] at hA hlen hblk⊢
 simp-implicitDefEqProofs[fg,fc,hlen]
 refine hA.mono ?_
 rintro r h ⟨rfl,rfl⟩
 simp-implicitDefEqProofs[aa,hlen]
 generalize hmO':opS o nme m n=m2 at hmO hfind⊢
 have hsame:∀(nm:List UInt8) (n2:Nat) (r1:List (Nat × AV)),Aw.look r1 1= .ptr (K+2) 1 0 0->Aw.look r1 2= .ptr (K+2+1) 1 0 0->Aw.look r1 3= .ptr (K+2+2) 5 0 0->Aw.look r1 4= .ptr (K+2+3) 5 0 0->
  Wk (K+2+2) (aj 50 r1) (RH b0 n2 (⟨gap,m2⟩::up)++[.row 1 [[.ptr 1 1 0 0]],.row 1 [[.ptr (K+1) 2 0 0]],.row 5 [[.p (.int .i64 o),.p (.str nm),.p (exL (oG (m::sco up) a)),.p (smL bd),.p (smL el)]],.row 5 [[.p (.int .i64 0),.p (.str []),.nils,.nils,.nils]]])
   (aj 50 [(1,.ptr (K+2) 1 0 0),(2,.ptr (K+2+1) 1 0 0),(3,.ptr (K+2+2) 5 0 0),(4,.ptr (K+2+3) 5 0 0)]) (RH b0 n2 (⟨gap,m2⟩::up)++[.row 1 [[.ptr 1 1 0 0]],.row 1 [[.ptr (K+1) 2 0 0]],.row 5 [[.p (.int .i64 o),.p (.str nm),.p (exL (oG (m::sco up) a)),.p (smL bd),.p (smL el)]],.row 5 [[.p (.int .i64 0),.p (.str []),.nils,.nils,.nils]]]):=by
  intro nm n2 r1 e1 e2 e3 e4
  refine ta (r:=[_,_,_,_]) (s:=[]) (hlen n2 m2) (Nat.add_le_add_left (by simp) _) (Aq hb (hs m2) (by rw[vj];omega)) ?_ (by simp[below,e1,e2,e3,e4])
  refine ae (by intro x hx;rw[YQ.1 hx];exact⟨by simp only[below];omega,trivial⟩) (ae (by intro x hx;rw[YQ.1 hx];exact⟨by simp only[below];omega,trivial⟩) (ae (cw (by simp[okO])) (ae (cw (by simp[okO])) dX)))
 refine nk (aj 50 [(1,.ptr (K+2) 1 0 0),(2,.ptr (K+2+1) 1 0 0),(3,.ptr (K+2+2) 5 0 0),(4,.ptr (K+2+3) 5 0 0)]) (RH b0 (if o=1 then n+1 else n) (⟨gap,m2⟩::up)++[.row 1 [[.ptr 1 1 0 0]],.row 1 [[.ptr (K+1) 2 0 0]],.row 5 [[.p (.int .i64 o),.p (.str (if o=1 then vnm n else if o=2 then irN (m::sco up) nme else nme)),.p (exL (oG (m::sco up) a)),.p (smL bd),.p (smL el)]],.row 5 [[.p (.int .i64 0),.p (.str []),.nils,.nils,.nils]]]) ?_ ?_
 ·by_cases o1:o=1
  ·subst o1
   have e:m2=eK m nme n:=by rw[←hmO'];exact if_pos rfl
   subst e
   simp-implicitDefEqProofs[hlen]
   refine(hbind (hn26 rfl) _).mono ?_
   rintro r h ⟨rfl,rfl⟩
   simp-implicitDefEqProofs[aa,hlen]
   exact hsame _ _ _ (by simp) (by simp) (by simp) (by simp)
  have e:m2=m:=by rw[←hmO'];exact if_neg o1
  subst e
  by_cases o2:o=2
  ·subst o2
   have hD:=hm.getD nme
   have hirn:irN (m2::sco up) nme=vnm ((fC (m2::sco up) nme).getD 0):=rfl
   rw[hirn]
   simp-implicitDefEqProofs[hlen]
   refine(hfind _).mono ?_
   rintro r h ⟨rfl,rfl⟩
   simp-implicitDefEqProofs[aa,hlen]
   refine(Fl G _ hD _ _).mono ?_
   rintro r h ⟨rfl,rfl⟩
   simp-implicitDefEqProofs[aa,hlen]
   exact hsame _ _ _ (by simp) (by simp) (by simp) (by simp)
  ·simp-implicitDefEqProofs[o1,o2,hlen]
   exact hsame _ _ _ (by simp) (by simp) (by simp) (by simp)
 generalize (if o=1 then vnm n else if o=2 then irN (m::sco up) nme else nme)=nm at*
 generalize (if o=1 then n+1 else n)=n2 at*
 have hb2:=GQ bd [] (m2::sco up) n2
 simp-implicitDefEqProofs[hlen]
 refine(sL G (.ptr (K+1) 2 0 0) (.inr ⟨_,rfl⟩) _).mono ?_
 rintro r h ⟨rfl,rfl⟩
 simp-implicitDefEqProofs[aa,hlen]
 have okg:∀(b' e':AV),below 0 b'->below 0 e'->∀x∈[AO.row 1 [[.ptr 1 1 0 0]],.row 1 [[.ptr (K+1) 2 0 0]],.row 5 [[.p (.int .i64 o),.p (.str nm),.p (exL (oG (m::sco up) a)),b',e']],.row 5 [[.p (.int .i64 0),.p (.str []),.nils,.nils,.nils]]],okO (K+2) x:=by
  intro b' e' hb' he'
  refine ae (by intro x hx;rw[YQ.1 hx];exact⟨by simp only[below];omega,trivial⟩) (ae (by intro x hx;rw[YQ.1 hx];exact⟨by simp only[below];omega,trivial⟩) (ae (cw ?_) (ae (cw (by simp[okO])) dX)))
  intro x hx;rw[YQ.1 hx];exact⟨by simp,by simp,by simp,hb',he',trivial⟩
 refine(hblk bd ib n2 m2 [.row 1 [[.ptr 1 1 0 0]],.row 1 [[.ptr (K+1) 2 0 0]],.row 5 [[.p (.int .i64 o),.p (.str nm),.p (exL (oG (m::sco up) a)),.p (smL bd),.p (smL el)]],.row 5 [[.p (.int .i64 0),.p (.str []),.nils,.nils,.nils]]] hmO (by omega) (λx hx=>oX (by omega) (okg _ _ (by simp) (by simp) x hx))).mono ?_
 rintro r h ⟨rfl,m3,rfl⟩
 simp-implicitDefEqProofs[aa,hlen]
 refine(sL G (.ptr (K+1) 2 0 0) (.inr ⟨_,rfl⟩) _).mono ?_
 rintro r h ⟨rfl,rfl⟩
 simp-implicitDefEqProofs[aa,hlen]
 refine(hblk el ie _ m2 [.row 1 [[.ptr 1 1 0 0]],.row 1 [[.ptr (K+1) 2 0 0]],.row 5 [[.p (.int .i64 o),.p (.str nm),.p (exL (oG (m::sco up) a)),.p (smL (eL bd [] (m2::sco up) n2).1),.p (smL el)]],.row 5 [[.p (.int .i64 0),.p (.str []),.nils,.nils,.nils]],.mp (mpE m3),.row 2 [[.mp (K+2+4),.ptr (K+1) 2 0 0]]] hmO (by omega) ?_).mono ?_
 ·intro x hx
  rcases YV.1 (show x∈[AO.row 1 [[.ptr 1 1 0 0]],.row 1 [[.ptr (K+1) 2 0 0]],.row 5 [[.p (.int .i64 o),.p (.str nm),.p (exL (oG (m::sco up) a)),.p (smL (eL bd [] (m2::sco up) n2).1),.p (smL el)]],.row 5 [[.p (.int .i64 0),.p (.str []),.nils,.nils,.nils]]]++[.mp (mpE m3),.row 2 [[.mp (K+2+4),.ptr (K+1) 2 0 0]]] from hx) with h|h
  ·exact oX (by omega) (okg _ _ (by simp) (by simp) x h)
  ·simp only[Za,Zj,or_false] at h
   rcases h with rfl|rfl
   ·exact Cn _ _
   ·intro e he;rw[YQ.1 he]
    exact⟨by simp only[below];simp,by simp only[below];omega,trivial⟩
 rintro r h ⟨rfl,m4,rfl⟩
 simp-implicitDefEqProofs[aa,hlen]
theorem Qf{b0:AO}(hb:okO 0 b0):∀(N:Nat) (l:List Sm),ay l<N->ay l<=1073741824->Qw G b0 l:=by
 intro N
 induction N with
 |zero=>intro l h;omega
 |succ N ih=>
  intro l hl hz gap m up n hs hm hc
  have hll:=cC l
  have hup:upV (⟨gap,m⟩::up)= .ptr (2+scL up+gap.length+1) 2 0 0:=rfl
  have hlen:∀n m,(RH b0 n (⟨gap,m⟩::up)).length=2+(scL up+gap.length+2):=λn m=>by rw[mH b0];rfl
  have hM:=LJ G (Dy hb gap up hs) (irG (sco up)) (λi st=>Sml (st.1::sco up)/\st.2+bI (l.drop i)<=26) l (by omega) (by show 0<2+(scL up+gap.length+2)+2;omega) (λi st hi hv=>?_) (m,n) ⟨hm,by simpa using hc⟩
  ·rw[Li] at hM
   refine Lg G (AC.go rp ?_) (by rw[hlen,hlen]) (by rw[hlen];exact Aq hb (hs _) (by rw[vj];omega)) (by simp[below])
   have hcaps:(Dy hb gap up hs).caps=[.ptr (2+(scL up+gap.length+2)) 1 0 0,.ptr (2+(scL up+gap.length+2)+1) 1 0 0]:=rfl
   have hF:(Dy hb gap up hs).F=bX:=rfl
   have hI:∀n m,(Dy hb gap up hs).I (m,n)=RH b0 n (⟨gap,m⟩::up)++[.row 1 [[.ptr 1 1 0 0]],.row 1 [[.ptr (2+scL up+gap.length+1) 2 0 0]]]:=λ_ _=>rfl
   rw[hcaps,hF,hI,hI] at hM
   simp-implicitDefEqProofs[kV,hlen]
   refine hM.mono ?_
   rintro r h ⟨rfl,rfl⟩
   simp-implicitDefEqProofs[aa,hlen]
  ·obtain⟨h1,h2⟩:=hv
   have hat:=PE hi
   have hks:=ew (Zf hi)
   obtain⟨mi,ni⟩:=st
   simp only at h1 h2
   generalize l[i]=s at hat hks
   have hcs:=Km s mi (sco up) ni
   obtain⟨o,nme,a,bd,el⟩:=s
   rw[Sm.sz] at hks
   refine⟨⟨?_,?_⟩,?_⟩
   ·show Sml ((irS _ mi (sco up) ni).2.1::sco up)
    rw[hcs.2]
    exact h1.opS _ _ (λho=>by
     have ho':o=1:=ho
     rw[ju,if_pos ho'] at hat;omega)
   ·show(irS _ mi (sco up) ni).2.2+_<=26
    rw[hcs.1];omega
   ·exact TD G hb (by omega) (ih bd (by omega) (by omega)) (ih el (by omega) (by omega)) gap mi up ni hs h1 (by omega)
end
section
variable (G:am)
theorem Sx{f:FuncId}{args args0:List AV}{b0 o0:AO}{n n':Nat}{m m':Scp}{v:AV}(H:AC Tryz.prog G f args0 (RH b0 n [⟨[],m⟩]) λx h=>x= .ret v/\h=RH b0 n' [⟨[],m'⟩])(hb:okO 0 b0)(hv:below 0 v)(hT:TW [1,2,3,4] args args0)(rest:List AO):
 AC Tryz.prog G f args (o0::b0::rO n:: .mp (mpE m):: .row 2 [[.mp 3,.nilp]]::rest) λx h=>x= .ret v/\h=o0::b0::rO n':: .mp (mpE m'):: .row 2 [[.mp 3,.nilp]]::rest:=by
 have hRH:∀n m,RH b0 n [⟨[],m⟩]=[b0,rO n,.mp (mpE m),.row 2 [[.mp 2,.nilp]]]:=λ_ _=>rfl
 rw[hRH,hRH] at H
 have hmp:∀m:Scp,∀σ:List Nat,(mpE m).map (λx=>(x.1,ren σ x.2))=mpE m:=λm σ=>by
  rw[mpE,List.map_map];rfl
 have hren:∀σ,ren σ v=v:=λσ=>by
  have:=eC σ [v] ⟨hv,trivial⟩
  simpa[bn] using this
 have hrb:∀σ,gf σ b0=b0:=λσ=>sk (n:=0) (λi hi=>by omega) b0 hb
 have hrr:∀(σ:List Nat) (n:Nat),gf σ (rO n)=rO n:=λσ n=>by simp[rO,gf,bn,ren]
 have hrm:∀(σ:List Nat) (m:Scp),gf σ (.mp (mpE m))= .mp (mpE m):=λσ m=>by rw[gf,hmp]
 refine(H.frame [1,2,3,4] (by decide) hT ?_).mono ?_
 ·refine cr rfl hb (cr rfl (by intro e he;rw[YQ.1 he];simp[below]) ?_)
  refine⟨by simp,⟨λx hx=>by obtain⟨y,_,rfl⟩:=Zh.1 hx;simp[below],?_⟩,da (es:=[[.mp 2,.nilp]]) (by simp[below]) ?_ cm⟩
  ·rw[hmp];rfl
  ·simp[ren,bn]
 ·rintro x h' ⟨x0,h0,⟨rfl,rfl⟩,_,rfl,rfl⟩
  refine⟨by rw[BG,hren],?_⟩
  simp only[Ze,List.length_nil,Nat.sub_self,List.range'_zero,ZB,List.take_succ_cons,List.take_zero,Zn,List.map_nil,List.drop_succ_cons,List.drop_zero,hrb,hrr,hrm,mrg]
  simp[gf,bn,ren]
def zF:AO:= .row 3 [[.p (.str []),.nils,.nils]]
def pG(st:Scp × Nat)(s:List UInt8):List UInt8 × (Scp × Nat):=(vnm st.2,(eK st.1 s st.2,st.2+1))
theorem Kp:∀(ps:List (List UInt8)) (m:Scp) (n:Nat),aT pG (m,n) ps=((gn ps m n).1,((gn ps m n).2.1,(gn ps m n).2.2))
 |[],m,n=>rfl
 |s::r,m,n=>by
  rw[aT,gn]
  have:=Kp r (eK m s n) (n+1)
  simp only[pG] at this⊢
  rw[this]
theorem HM:∀(ps:List (List UInt8)) (m:Scp) (n:Nat),(gn ps m n).2.2=n+ps.length
 |[],m,n=>rfl
 |s::r,m,n=>by rw[gn];simp only;rw[HM r];simp only[Ze];omega
theorem GN:∀(ps:List (List UInt8)) (m:Scp) (n:Nat),n+ps.length<=26->Sml [m]->Sml [(gn ps m n).2.1]
 |[],m,n,_,h=>h
 |s::r,m,n,hn,h=>by
  rw[Ze] at hn
  rw[gn]
  exact GN r (eK m s n) (n+1) (by omega) (h.set s (by omega))
theorem Sml.base:Sml [[]]:=λs n e=>by simp[fC,eZ] at e
def LW(f:List AV)(hf:ah 0 f):Vis (Scp × Nat) where
 I:=λst=>[.row 3 [f],zF,rO st.2,.mp (mpE st.1),.row 2 [[.mp 3,.nilp]],.row 1 [[.ptr 2 1 0 0]],.row 1 [[.ptr 4 2 0 0]]]
 n:=7
 F:=cx
 caps:=[.ptr 5 1 0 0,.ptr 6 1 0 0]
 len:=λ_=>rfl
 ok:=λst=>ae (by intro e he;rw[YQ.1 he];exact aJ (ZD _) _ hf) (ae (cw (by simp[zF,okO,below])) (ae (cw (by simp[rO,okO,below])) (ae (Cn _ _) (ae (by simp[okO,below]) (ae (by simp[okO,below]) (ae (by simp[okO,below]) dX))))))
 capsOk:=by simp[below]
theorem QY(f:Fd)(hz:f.sz<=1073741824)(hv:lJ f<=26):VF Tryz.prog G bW [.agg (f.cs.map .p)] (.agg ((irF f).cs.map .p)):=by
 have hfc:=f.cs_eq'
 have hfz:f.sz=1+f.name.length+(f.params.length+(f.params.map List.length).sum)+ay f.body:=rfl
 have hst:al f.params= .lst 1 (f.params.map λw=>[.str w]):=rfl
 have hvn:lJ f=f.params.length+bI f.body:=rfl
 have hzF:okO 0 zF:=by simp[zF,okO,below]
 have hup:∀m,upV [⟨[],m⟩]= .ptr 3 2 0 0:=λ_=>rfl
 have hps:=Tf G (LW [.p (.str f.name),.p (al f.params),.p (smL f.body)] (by simp)) pG (λi st=>st.2=i/\Sml [st.1]) f.params (by omega) (by show 0<7;omega) (λi st hi hst=>?_) ([],0) ⟨rfl,Sml.base⟩
 ·rw[Kp] at hps
  have hcnt:=HM f.params [] 0
  have hcaps:(LW [.p (.str f.name),.p (al f.params),.p (smL f.body)] (by simp)).caps=[.ptr 5 1 0 0,.ptr 6 1 0 0]:=rfl
  have hF:(LW [.p (.str f.name),.p (al f.params),.p (smL f.body)] (by simp)).F=cx:=rfl
  have hI:∀m n,(LW [.p (.str f.name),.p (al f.params),.p (smL f.body)] (by simp)).I (m,n)=[.row 3 [[.p (.str f.name),.p (al f.params),.p (smL f.body)]],zF,rO n,.mp (mpE m),.row 2 [[.mp 3,.nilp]],.row 1 [[.ptr 2 1 0 0]],.row 1 [[.ptr 4 2 0 0]]]:=λ_ _=>rfl
  rw[hcaps,hF,hI,hI] at hps
  have hir:(irF f).cs=[.str f.name,al (gn f.params [] 0).1,smL (eL f.body (gn f.params [] 0).2.1 [] (gn f.params [] 0).2.2).1]:=rfl
  refine AC.go pB ?_
  rw[hir]
  have hsml:=GN f.params [] 0 (by omega) Sml.base
  have hbk:=Qf G hzF (ay f.body+1) f.body (by omega) (by omega) [] (gn f.params [] 0).2.1 [] (gn f.params [] 0).2.2 (λm=>⟨by simp,trivial⟩) hsml (by omega)
  generalize gn f.params [] 0=ps at hps hcnt hbk⊢
  have hbk2:=λo0 rest=>Sx G (o0:=o0) (args:=[.ptr 2 1 0 0,.p (smL f.body),.ptr 4 2 0 0]) hbk hzF (by simp) (by simp[below,ren,scL]) rest
  have hrO:∀n,rO n= .row 1 [[.p (.int .i64 n)]]:=λ_=>rfl
  have hmpE:mpE []=[]:=rfl
  simp-implicitDefEqProofs[jr,hfc]
  refine(sL G .nilp (.inl rfl) _).mono ?_
  rintro r h ⟨rfl,rfl⟩
  simp-implicitDefEqProofs[aa]
  refine hps.mono ?_
  rintro r h ⟨rfl,rfl⟩
  simp-implicitDefEqProofs[aa]
  refine(hbk2 _ _).mono ?_
  rintro r h ⟨rfl,rfl⟩
  simp-implicitDefEqProofs[aa,zF]
 ·obtain⟨m,n⟩:=st
  obtain⟨e1,e2⟩:=hst
  simp only at e1 e2
  subst e1
  refine⟨⟨rfl,e2.set _ (by omega)⟩,?_⟩
  have hbd:=λrest=>Sx G (o0:= .row 3 [[.p (.str f.name),.p (al f.params),.p (smL f.body)]]) (args:=[.ptr 2 1 0 0,.ptr 4 2 0 0,.p (.str f.params[n])]) (by
   have:=OV G zF [] m [] f.params[n] n (by omega) []
   rw[ZB,ZB] at this
   exact this) hzF (by simp) (by simp[below,ren,hup]) rest
  refine AC.go oy ?_
  have hcaps:(LW [.p (.str f.name),.p (al f.params),.p (smL f.body)] (by simp)).caps=[.ptr 5 1 0 0,.ptr 6 1 0 0]:=rfl
  have hI:∀m n,(LW [.p (.str f.name),.p (al f.params),.p (smL f.body)] (by simp)).I (m,n)=[.row 3 [[.p (.str f.name),.p (al f.params),.p (smL f.body)]],zF,rO n,.mp (mpE m),.row 2 [[.mp 3,.nilp]],.row 1 [[.ptr 2 1 0 0]],.row 1 [[.ptr 4 2 0 0]]]:=λ_ _=>rfl
  have hpg:∀s,pG (m,n) s=(vnm n,(eK m s n,n+1)):=λ_=>rfl
  rw[hpg,hcaps,hI,hI]
  generalize f.params[n]=s at hbd⊢
  simp-implicitDefEqProofs[gT]
  refine(hbd _).mono ?_
  rintro r h ⟨rfl,rfl⟩
  simp-implicitDefEqProofs[aa]
theorem Id(F:FuncId)(l:List Fd)(q:Fd->Bool)(hb:l.length<=1099511627776)(H:∀x∈l,VF Tryz.prog G F [.agg (x.cs.map .p)] (.p (.bool (q x)))):VF Tryz.prog G cH [.p (fdL l),.fn (.func F) []] (.p (.bool (l.any q))):=by
 have hfl:∀l,fdL l= .lst 3 (l.map Fd.cs):=λ_=>rfl
 have idx:VF Tryz.prog G bs [.p (fdL l),.fn (.func F) []] (.p (.int .i64 (ixI (l.findIdx? q)))):=by
  refine AC.go fQ ?_
  simp-implicitDefEqProofs[dv,hfl]
  refine aN (λi:Nat=>aj 19 [(0,.p (fdL l)),(1,.fn (.func F) []),(7,.p (.int .i64 l.length)),(8,.p (.int .i64 i))]) (λ_=>[]) (λi=>i<=l.length/\∀f∈l.take i,q f=false) (λi=>l.length-i) 0 (by simp) (bJ rfl (by simp[below,ah,hfl])) ?_
  intro i ⟨hi,hn⟩
  simp-implicitDefEqProofs[hfl]
  refine bi (λh1=>?_) (λh1=>?_)
  ·simp at h1
   have hg:=YO h1
   have hh:=H l[i] (Zf h1)
   have hcs:=l[i].cs_eq'
   rw[hcs] at hh
   simp-implicitDefEqProofs[hg,hcs]
   refine hh.use ?_
   cases he:q l[i] with
   |true=>
    have hf:l.findIdx? q=some i:=by
     rw[Zg]
     exact⟨h1,he,λj hj=>by have:=hn l[j] (ZO.2 ⟨j,by omega,rfl⟩);simp[this]⟩
    simp-implicitDefEqProofs[hf,ixI]
   |false=>
    simp-implicitDefEqProofs[]
    refine⟨i+1,⟨h1,λp hp=>?_⟩,by omega,bJ rfl (by simp[below,ah,hfl,w1 (i:=i) (by omega)])⟩
    rw[an h1] at hp
    rcases YV.1 hp with hp|hp
    ·exact hn p hp
    ·rw[YQ.1 hp];exact he
  ·simp at h1
   rw[YU h1] at hn
   have hf:l.findIdx? q=none:=by
    rw[Zs];exact hn
   simp-implicitDefEqProofs[hf,ixI]
 refine AC.go kP ?_
 simp-implicitDefEqProofs[eO]
 refine idx.use ?_
 cases hf:l.findIdx? q with
 |none=>
  have:l.any q=false:=by
   rw[Zs] at hf
   rw[List.any_eq_false];intro x hx;simp[hf x hx]
  rw[this]
  simp-implicitDefEqProofs[ixI]
 |some j=>
  have:l.any q=true:=by
   rw[Zg] at hf
   obtain⟨h1,h2,_⟩:=hf
   exact List.any_eq_true.2 ⟨_,Zf h1,h2⟩
  rw[this]
  have hj:(0:Int)<=(j:Int):=by omega
  simp-implicitDefEqProofs[ixI,hj]
theorem Qt(f:Fd)(hz:f.sz<=1073741824):VF Tryz.prog G cZ [.agg (f.cs.map .p)] (.p (.bool (!decide (lJ f<=26)))):=by
 have hfc:=f.cs_eq'
 have hvc:=Dt G f hz
 rw[hfc] at hvc
 refine AC.go pw ?_
 simp-implicitDefEqProofs[jp,hfc]
 refine hvc.use ?_
 by_cases h:lJ f<=26
 ·have h':¬(26:Int)<(lJ f:Int):=by omega
  simp-implicitDefEqProofs[h,h']
 ·have h':(26:Int)<(lJ f:Int):=by omega
  simp-implicitDefEqProofs[h,h']
def So(l:List Fd):Vis Unit where
 I:=λ_=>[.row 1 [[.p (fdL l)]],.row 1 [[.nils]]]
 n:=2
 F:=bW
 caps:=[]
 len:=λ_=>rfl
 ok:=λ_=>by simp[okO,below]
 capsOk:=trivial
variable (hK:G fy=some fe) (hS:G cI=some [.tbl opK opV])
include hK hS
theorem AG(l:List Fd)(hz:aH l<=1073741824):VF Tryz.prog G dH [.agg [.p (fdL l)]] (.tup [.agg [.p (fdL (AF l))],.p (.bool (jg l))]):=by
 have hll:=fS l
 have hfl:∀l,fdL l= .lst 3 (l.map Fd.cs):=λ_=>rfl
 have key:AC Tryz.prog G dH [.agg [.p (fdL l)]] [] λx h=>∃v,x= .ret (.tup [.agg [v],.p (.bool (jg l))])/\View h v (fdL (AF l)):=by
  refine AC.go rV ?_
  simp-implicitDefEqProofs[kY]
  refine(Jh G hK hS l hz).use ?_
  by_cases h0:aI l=0
  case neg=>
   have hr:jg l=false:=by simp[jg,h0]
   have hp:AF l=[]:=by simp[AF,hr]
   rw[hr,hp]
   simp-implicitDefEqProofs[h0]
   exact .nils 3
  have hro:jg l=Gd l:=by simp[jg,h0]
  have hrp:AF l=if Gd l=true then l.map irF else[]:=by rw[AF,hro]
  have hfa:(l.any λf=> !decide (lJ f<=26))= !Gd l:=by rw[Gd,List.not_all_eq_any_not]
  rw[hro,hrp]
  simp-implicitDefEqProofs[h0]
  refine(Id G cZ l (λf=> !decide (lJ f<=26)) (by omega) λx hx=>Qt G x (by have:=cG hx;omega)).use ?_
  rw[hfa]
  cases hf:Gd l with
  |false=>
   simp-implicitDefEqProofs[]
   exact .nils 3
  |true=>
   have hmp:=Sf G (So l) (λst x=>(irF x,st)) (λ_ _=>True) l (by omega) (by show 0<2;omega) (λi st hi _=>⟨trivial,?_⟩) () trivial
   ·rw[zh] at hmp
    have hI:(So l).I ()=[.row 1 [[.p (fdL l)]],.row 1 [[.nils]]]:=rfl
    have hF:(So l).F=bW:=rfl
    have hc:(So l).caps=[]:=rfl
    rw[hI,hF,hc] at hmp
    simp-implicitDefEqProofs[]
    refine hmp.mono ?_
    rintro r h ⟨rfl,rfl⟩
    simp-implicitDefEqProofs[aa]
    exact .p _
   ·have hm:=cG (Zf hi)
    have hv:lJ l[i]<=26:=by
     rw[Gd,YW] at hf
     simpa using hf _ (Zf hi)
    exact(QY G l[i] (by omega) hv).ac (by simp[below]) (by simp[below]) _
 refine key.freezeR (λt v h ⟨_,e,_⟩=>by cases e) λv h ⟨u,e1,e2⟩=>?_
 cases e1
 exact .tup (.agg (.one e2 .nil) (.keep (by simp) .nil)) .nil
end
section
theorem td{s:List UInt8}(h:aD s=true):s.length<=4:=by
 rw[aD] at h
 simp at h
 omega
theorem JM{e:Ex}(h:lZ e=true):e.name.length<=4:=by
 simp only[lZ,YX,Bool.or_eq_true,decide_eq_true_eq,beq_iff_eq] at h
 obtain⟨⟨⟨⟨_,h1⟩,h2⟩,_⟩,_⟩:=h
 rcases h2 with h2|h2
 ·exact td (h1▸h2)
 ·rw[h2];simp
theorem Nh:∀(d:Nat) (e:Ex),bV d e=true->e.sz<=5*e.parts:=by
 intro d
 induction d with
 |zero=>intro e h;simp[bV] at h
 |succ d ih=>
  intro e h
  rw[bV,YX] at h
  have h1:=JM h.1
  have h2:∀l:List Ex,l.all (bV d)=true->aY l<=5*fx l:=by
   intro l
   induction l with
   |nil=>intro _;simp[aY,fx]
   |cons x r ihl=>
    intro hl
    rw[List.all_cons,YX] at hl
    have:=ih x hl.1
    have:=ihl hl.2
    rw[aY,fx];omega
  have h3:=h2 e.kids h.2
  rw[e.sz_eq,e.parts_eq];omega
theorem RW{e:Ex}(h:iR e=true):e.sz<=150:=by
 simp only[iR,YX,decide_eq_true_eq] at h
 have:=Nh 6 e h.1
 omega
theorem MW{s:Sm}(h:gu s=true):1+s.name.length+aY s.args<=305:=by
 simp only[gu,YX,Bool.or_eq_true,decide_eq_true_eq,beq_iff_eq] at h
 obtain⟨⟨⟨⟨⟨⟨⟨_,h0⟩,h1⟩,h2⟩,h3⟩,_⟩,_⟩,_⟩:=h
 have hn:s.name.length<=4:=by
  rcases h2 with h2|h2
  ·exact td (h1▸h2)
  ·rw[h2];simp
 have ha:∀l:List Ex,l.all iR=true->aY l<=150*l.length:=by
  intro l
  induction l with
  |nil=>intro _;simp[aY]
  |cons x r ihl=>
   intro hl
   rw[List.all_cons,YX] at hl
   have:=RW hl.1
   have:=ihl hl.2
   rw[aY,Ze];omega
 have h4:=ha s.args h3
 have h5:s.args.length<=2:=by rw[h0,iI];split<;>omega
 omega
theorem Pj:∀(d:Nat) (l:List Sm),l.all (az d)=true->ay l<=305*di l:=by
 intro d
 induction d with
 |zero=>
  intro l h
  cases l with
  |nil=>simp[ay]
  |cons s r=>simp[az] at h
 |succ d ih=>
  intro l
  induction l with
  |nil=>intro _;simp[ay]
  |cons s r ihl=>
   intro h
   rw[List.all_cons,YX] at h
   have h2:=ihl h.2
   have h1:=h.1
   simp only[az,YX] at h1
   obtain⟨⟨h3,h4⟩,h5⟩:=h1
   have:=MW h3
   have:=ih s.body h4
   have:=ih s.els h5
   rw[ay,di,s.sz_eq,s.cnt_eq];omega
theorem Qy{f:Fd}(h:iO f=true):f.sz<=20+305*di f.body:=by
 simp only[iO,YX,decide_eq_true_eq] at h
 obtain⟨⟨⟨h1,h2⟩,h3⟩,h4⟩:=h
 have:=td h2
 have:=Pj 4 f.body h4
 have hp:∀l:List (List UInt8),l.all aD=true->(l.map List.length).sum<=4*l.length:=by
  intro l
  induction l with
  |nil=>intro _;simp
  |cons x r ihl=>
   intro hl
   rw[List.all_cons,YX] at hl
   have:=td hl.1
   have:=ihl hl.2
   rw[Zn,List.sum_cons,Ze];omega
 have:=hp f.params h1
 have e:f.sz=1+f.name.length+(f.params.length+(f.params.map List.length).sum)+ay f.body:=rfl
 omega
theorem LL{l:List Fd}(h:bA l=true):aH l<=12280:=by
 obtain⟨h1,h2,h3⟩:=(fT l).1 h
 have key:∀l:List Fd,(∀f∈l,iO f=true)->aH l<=20*l.length+305*iP l:=by
  intro l
  induction l with
  |nil=>intro _;simp[aH]
  |cons f r ih=>
   intro hl
   have a:=Qy (hl f (by simp))
   have b:=ih λg hg=>hl g (by simp[hg])
   have e1:aH (f::r)=f.sz+aH r:=by simp[aH]
   have e2:iP (f::r)=di f.body+iP r:=by simp[iP]
   rw[e1,e2,Ze];omega
 have:=key l h2
 omega
mutual
theorem Ul(ch:List Scp):∀e:Ex,(irE ch e).sz<=3*e.sz
 | .mk o n s ks=>by
   have h:=Fa ch ks
   have hn:(if o=2 then irN ch s else s).length<=2+s.length:=by
    split
    ·simp[irN,vnm]
    ·omega
   rw[irE,Ex.sz,Ex.sz];omega
theorem Fa(ch:List Scp):∀l:List Ex,aY (oG ch l)<=3*aY l
 |[]=>by simp[oG,aY]
 |e::r=>by have h1:=Ul ch e;have h2:=Fa ch r;rw[oG,aY,aY];omega
end
theorem TF:∀(N:Nat) (l:List Sm),ay l<N->∀m up n,ay (eL l m up n).1<=3*ay l:=by
 intro N
 induction N with
 |zero=>intro l h;omega
 |succ N ih=>
  intro l
  induction l with
  |nil=>intro _ m up n;simp[eL,ay]
  |cons s r ihl=>
   intro hl m up n
   obtain⟨o,nme,a,bd,el⟩:=s
   rw[ay,Sm.sz] at hl
   have h1:=Fa (m::up) a
   have h2:=ih bd (by omega) [] (opS o nme m n::up) (if o=1 then n+1 else n)
   have h3:=ih el (by omega) [] (opS o nme m n::up) (eL bd [] (opS o nme m n::up) (if o=1 then n+1 else n)).2.2
   have h4:=ihl (by omega) (irS ⟨o,nme,a,bd,el⟩ m up n).2.1 up (irS ⟨o,nme,a,bd,el⟩ m up n).2.2
   have hn:(if o=1 then vnm n else if o=2 then irN (m::up) nme else nme).length<=2+nme.length:=by
    split
    ·simp[vnm]
    ·split
     ·simp[irN,vnm]
     ·omega
   rw[eL]
   simp only
   rw[ay,NA,Sm.sz,ay,Sm.sz]
   omega
theorem Ks:∀(ps:List (List UInt8)) (m:Scp) (n:Nat),(gn ps m n).1.length=ps.length/\((gn ps m n).1.map List.length).sum=2*ps.length
 |[],m,n=>by simp[gn]
 |s::r,m,n=>by
  obtain⟨h1,h2⟩:=Ks r (eK m s n) (n+1)
  rw[gn]
  simp only
  rw[Ze,Ze,h1,Zn,List.sum_cons,h2]
  simp[vnm];omega
theorem Un(f:Fd):(irF f).sz<=3*f.sz:=by
 obtain⟨h1,h2⟩:=Ks f.params [] 0
 have h3:=TF (ay f.body+1) f.body (by omega) (gn f.params [] 0).2.1 [] (gn f.params [] 0).2.2
 have e:f.sz=1+f.name.length+(f.params.length+(f.params.map List.length).sum)+ay f.body:=rfl
 have e2:(irF f).sz=1+f.name.length+((gn f.params [] 0).1.length+((gn f.params [] 0).1.map List.length).sum)+ay (eL f.body (gn f.params [] 0).2.1 [] (gn f.params [] 0).2.2).1:=rfl
 omega
theorem Sr(l:List Fd):aH (AF l)<=36840:=by
 unfold AF
 split
 ·rename_i h
  have h0:aI l=0:=by simp[jg] at h;exact h.1
  have hz:=LL ((pU l).1 h0).1
  have key:∀l:List Fd,aH (l.map irF)<=3*aH l:=by
   intro l
   induction l with
   |nil=>simp[aH]
   |cons f r ih=>
    have a:=Un f
    have e1:aH (f::r)=f.sz+aH r:=by simp[aH]
    have e2:aH ((f::r).map irF)=(irF f).sz+aH (r.map irF):=by simp[aH]
    rw[e1,e2];omega
  have:=key l
  omega
 ·simp[aH]
variable (G:am) (hK:G fy=some fe) (hS:G cI=some [.tbl opK opV])
include hK hS
end
section
theorem Ru{l:List Fd}(hc:aI l=0)(hr:jg l=false)(h1:¬26<Fi l 0):1<l.length:=by
 have h0:0<l.length:=by have:=(iB hc).1;cases l<;>simp_all
 refine Nat.lt_of_not_le λhle=>?_
 match l,h0,hle with
 |[f],_,_=>
  have hi:inR 0 0 (([f]:List Fd).length-1:Int)=true:=by simp[inR]
  have e:Fi [f] 0=lJ f:=by rw[Fi,if_pos ⟨hc,hi⟩];rfl
  rw[e] at h1
  have:jg [f]=true:=by
   have hv:lJ f<=26:=by omega
   simp[jg,hc,Gd,hv]
  rw[this] at hr
  cases hr
variable (G:am)
variable (hK:G fy=some fe) (hS:G cI=some [.tbl opK opV])
include hK hS
theorem zy(code:List Int)(hb:Byt code)(hl:code.length<=9223372036854775807):VF Tryz.prog G ma [.p (zT code)] (.p (.bool true)):=by
 refine AC.go tC ?_
 have hbl:zT code= .lst 1 (code.map λn=>[.int .u8 n]):=rfl
 simp-implicitDefEqProofs[lY,hbl]
 rw[←hbl]
 by_cases hc:(1048576:Int)<code.length
 ·simp-implicitDefEqProofs[hc]
 simp-implicitDefEqProofs[hc]
 refine(NO G (Aa G code hb) PN (by simp) _).mono ?_
 rintro r h ⟨⟨l,us,fuel,rfl,hz,hu⟩,rfl⟩
 simp-implicitDefEqProofs[aa]
 by_cases hq:eM l us=true/\inR fuel 0 4000=true
 case neg=>
  obtain⟨hi,hs⟩:=WN G hK hS (l:=l) (us:=us) (fuel:=fuel) (by omega) (by omega) hq
  have hsm:=Ki G [] [] 0 0 (by simp) (by simp)
  refine hi.use ?_
  simp-implicitDefEqProofs[]
  refine hs.use ?_
  simp-implicitDefEqProofs[]
  refine hsm.use ?_
  simp-implicitDefEqProofs[]
  refine hsm.use ?_
  simp-implicitDefEqProofs[]
 obtain⟨ho,hf⟩:=hq
 have hf':0<=fuel/\fuel<=4000:=by simpa[inR] using hf
 obtain⟨F,rfl⟩:∃F:Nat,fuel=(F:Int):=⟨fuel.toNat,by omega⟩
 have hF:F<=4000:=by omega
 obtain⟨s',r,R⟩:=Yw G hK hS (l:=l) (us:=us) (fuel:=F) (by omega) (by omega) ho hF
 have hsl:=R.said
 have hcl:=R.cells
 have hi:=R.impl
 have hs:=R.spec
 have hsm:=Ki G s'.said s'.cells (cf r) (GB r) (by omega) (by omega)
 have him:=Rm G s'.said s'.cells (cf r) (GB r) (by omega) (by omega)
 have hrn:=AG G hK hS l (by omega)
 have hcv:=Gz G hK hS l (by omega) 0
 have hchk:aI l=0:=(sY ho).1
 have hfl:fdL l= .lst 3 (l.map Fd.cs):=rfl
 refine hi.use ?_
 simp-implicitDefEqProofs[CW]
 refine hs.use ?_
 simp-implicitDefEqProofs[CW]
 refine hsm.use ?_
 simp-implicitDefEqProofs[]
 refine hrn.use ?_
 cases hr:jg l with
 |false=>
  simp-implicitDefEqProofs[]
  refine hcv.use ?_
  by_cases hg:26<Fi l 0
  ·simp-implicitDefEqProofs[hg]
  ·have h1:(1:Int)<l.length:=by have:=Ru hchk hr hg;omega
   simp-implicitDefEqProofs[hg,hfl,h1]
 |true=>
  have he:=Qu hr R.ev
  have hck:=(Uk hr).chk
  have ho2:=MG FS hck ho
  rw[←CA hr] at ho2
  have hlen:(AF l).length=l.length:=by rw[CA hr,Zu]
  rw[←hlen] at he
  have hrz:=Sr l
  have hi2:=(Kf G hK hS (l:=AF l) (by omega) (by omega) ho2 hF he).impl
  simp-implicitDefEqProofs[]
  refine hi2.use ?_
  simp-implicitDefEqProofs[CW]
  refine him.use ?_
  simp-implicitDefEqProofs[]
end
end Go.Proofs.YtokiapglmedipaaGreatDoor
namespace Go.Proofs.YtokiapglmedipaaGreatDoor
open Go Go.Aw Go.ChangeShapes Go.WideShapes Go.ChangeAt Go.RowKit
set_option maxRecDepth 100000
abbrev Te:TypeId:=24
abbrev Wd:TypeId:=22
abbrev Xz:TypeId:=122
abbrev UD:TypeId:=55
abbrev WL:TypeId:=9
abbrev QE:TypeId:=120
abbrev UH:TypeId:=206
abbrev RB:TypeId:=204
abbrev SZ:TypeId:=245
abbrev Sw:TypeId:=3
abbrev Uw:TypeId:=4
abbrev Iy:TypeId:=160
abbrev Qg:TypeId:=240
abbrev QN:TypeId:=241
abbrev Lq:TypeId:=45
abbrev FE:TypeId:=5
theorem Wu:Kids Tryz.prog (· <Tryz.prog.types.size):=kids_rows (by kernel_rfl) (by kernel_rfl)
theorem WI:∀t e,t<Tryz.prog.types.size->Tryz.prog.underlying t=some (.slice e)->0<Tryz.prog.cellsOf e:=slices_full_of Tryz.prog (by kernel_rfl)
def NN:List TypeId:=[Te,Wd,Xz,UD,WL,QE,UH,RB,SZ,Sw,Uw,Iy,Qg]
theorem PQ:Plain Tryz.prog NN=true:=by kernel_rfl
theorem XT:ownKnob Tryz.prog.godebug=none:=by kernel_rfl
theorem Co{H:Type}:∀l:List (DataW H),Rows.uptoBulkAll l=(l.map Rows.uptoBulk).sum
 |[]=>by simp[Rows.uptoBulkAll]
 |d::r=>by simp[Rows.uptoBulkAll,Co r]
theorem RL{H:Type}:BulkOk (Rows.uptoBulk (H:=H)) where
 lit:=λl=>by cases l<;>simp[Rows.uptoBulk]
 str:=λs=>by simp[Rows.uptoBulk]
 nil:=by simp[Rows.uptoBulk]
 slice:=λes sp=>by simp only[Rows.uptoBulk,Co];omega
 agg:=λps=>by simp only[Rows.uptoBulk,Co];omega
theorem Pi{t e:TypeId}{vs:List PV}(h:Conf Tryz.prog t vs)(hu:Tryz.prog.underlying t=some (.slice e)):∃es,vs=[.lst (Tryz.prog.cellsOf e) es]/\es.length<=9223372036854775807/\∀x∈es,Conf Tryz.prog e x:=by
 cases h with
 |sl es e' hl hs=>rw[hu] at e';cases e';exact⟨es,rfl,hl,hs⟩
 |bool b e=>rw[e] at hu;cases hu
 |int n e=>rw[e] at hu;cases hu
 |str s e=>rw[e] at hu;cases hu
 |st vs e=>rw[e] at hu;cases hu
 |arr vs e=>rw[e] at hu;cases hu
def G0:am:=λg=>if g=fy then some fe else if g=cI then some [.tbl opK opV] else none
theorem TJ:∀k,ke Tryz.prog (k+10) Iy (Rows.laid_loop_example_wholeway_impl_keys (H:=Unit))=fe:=λk=>by kernel_rfl
theorem XX{W:World}{laid:List (String × DataW Unit)}(hL:laidMet Tryz.prog laid W)(h1:("loop.example/wholeway/impl.keys",Rows.laid_loop_example_wholeway_impl_keys)∈laid)(h2:("loop.example/wholeway/impl.opSign",Rows.laid_loop_example_wholeway_impl_opSign)∈laid):
 ∀g cs,G0 g=some cs->g<W.heap.size/\∀(j:Nat) (c:PV),cs[j]?=some c->∃v,W.cell? ⟨g,j,none⟩=some v/\PRel W (· <W.heap.size) c v:=by
 intro g cs h
 unfold G0 at h
 split at h
 ·rename_i e;subst e;cases h
  exact Lt PQ hL (n:= "loop.example/wholeway/impl.keys") (d:=Rows.laid_loop_example_wholeway_impl_keys) (t:=Iy) h1 (by kernel_rfl) (by kernel_rfl) (by decide) TJ
 ·split at h
  ·rename_i e;subst e;cases h
   exact MP PQ hL (n:= "loop.example/wholeway/impl.opSign") h2 (t:=QN) (k:=Sw) (e:=Qg) (by kernel_rfl) (by kernel_rfl) (by kernel_rfl) (.inl ⟨.i64,by kernel_rfl⟩) (by decide) (by kernel_rfl) (by kernel_rfl) (λm=>by kernel_rfl)
  ·cases h
def Lj:List TypeId:=Lq::FE::NN
theorem Tn:Plain Tryz.prog Lj=true:=by kernel_rfl
theorem Jp{vs:List PV}(h:Conf Tryz.prog Lq vs):∃l:List Int,vs=[zT l]/\l.length<=9223372036854775807/\Byt l:=by
 obtain⟨es,rfl,hl,h4⟩:=Pi h (e:=FE) (by kernel_rfl)
 have hk:∀x∈es,∃n:Int,x=[PV.int .u8 n]/\(Lit.int .u8 n).wf=true:=λx hx=>Oj (h4 x hx) (by kernel_rfl)
 obtain⟨l,rfl⟩:=KX (λn:Int=>[PV.int .u8 n]) (λx hx=>by obtain⟨n,e,_⟩:=hk x hx;exact⟨n,e⟩)
 rw[show Tryz.prog.cellsOf FE=1 by kernel_rfl]
 refine⟨l,rfl,by rwa[Zu] at hl,λn hn=>?_⟩
 obtain⟨m,e,hw⟩:=hk [PV.int .u8 n] (Zh.2 ⟨n,hn,rfl⟩)
 cases e
 simp[Lit.wf,IntKind.min,IntKind.max,IntKind.bits,IntKind.signed] at hw
 omega
end Go.Proofs.YtokiapglmedipaaGreatDoor
