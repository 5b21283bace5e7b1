/-
  Contracts and lemmas that the card needs, part 7.
-/
import Derived.Test.YtokiapglmedipaaGreatDoorRr6
import Derived.Recover
import Derived.Tactics
import Derived.Tactics2
namespace Go.Proofs.YtokiapglmedipaaGreatDoor
open Go Go.Aw
set_option maxRecDepth 100000
set_option maxHeartbeats 4000000
section
def aQ(l:List Fd)(sid cid:Nat)(s:S5)(e:Int)(o:Bool):AO:= .row 7 [[.p (fdL l),.sl sid 1 0 s.said.length,.p (.int .i64 e),.p (.int .i64 0),.sl cid 1 0 16,.p (.int .i64 s.left),.p (.bool o)]]
def cF(nid n:Nat)(uv:AV)(b:Bool)(x:Int):AO:= .row 4 [[.sl nid 1 0 n,uv,.p (.bool b),.p (.int .i64 x)]]
inductive UV (h:List AO):AV->Nat->List Int->Prop where
 |nn (uid:Nat):UV h .nils uid []
 |ss (uid:Nat) (xs t:List Int):h[uid]?=some (bz (xs++t))->UV h (.sl uid 1 0 xs.length) uid xs
theorem UV.frame{h h':List AO}{uv:AV}{uid:Nat}{xs:List Int}(H:UV h uv uid xs)(e:uid<h.length->h'[uid]?=h[uid]?):UV h' uv uid xs:=by
 cases H with
 |nn=>exact .nn _
 |ss _ _ t h1=>exact .ss _ _ t (by rw[e (YL.1 h1).1];exact h1)
theorem UV.ne{h:List AO}{uv:AV}{uid:Nat}{xs:List Int}(H:UV h uv uid xs)(hx:0<xs.length):∃t,uv= .sl uid 1 0 xs.length/\h[uid]?=some (bz (xs++t)):=by
 cases H with
 |nn=>simp at hx
 |ss _ _ t h1=>exact⟨t,rfl,h1⟩
theorem UV.cell{h:List AO}{uv:AV}{uid:Nat}{xs:List Int}(H:UV h uv uid xs):uv.isCell=true/\uv.cells=[uv]:=by cases H<;>exact⟨rfl,rfl⟩
structure RI (R cid:Nat) (l:List Fd) (sid:Nat) (s:S5) (e:Int) (o:Bool) (h:List AO):Prop where
 run:h[R]?=some (aQ l sid cid s e o)
 said:h[sid]?=some (bz s.said)
 cells:h[cid]?=some (bz s.cells)
 ne:sid≠cid
structure EI (V nid uid:Nat) (uv:AV) (w:Sc5) (b:Bool) (x:Int) (h:List AO):Prop where
 env:h[V]?=some (cF nid w.length uv b x)
 names:∃t,h[nid]?=some (dt (w.map (·.1)++t))
 vals:UV h uv uid (w.map (·.2))
 ne:nid≠uid
 ul:uid<h.length
structure Ap (R V sid cid nid uid:Nat):Prop where
 ns:nid≠sid
 nc:nid≠cid
 us:uid≠sid
 uc:uid≠cid
 uR:uid≠R
 uV:uid≠V
section
variable {R cid:Nat} {l:List Fd} {sid:Nat} {s:S5} {e:Int} {o:Bool} {h h':List AO} {V nid uid:Nat} {uv:AV} {w:Sc5} {b:Bool} {x:Int}
theorem RI.lt(H:RI R cid l sid s e o h):R<h.length/\sid<h.length/\cid<h.length:=⟨(YL.1 H.run).1,(YL.1 H.said).1,(YL.1 H.cells).1⟩
theorem RI.neR(H:RI R cid l sid s e o h):R≠sid/\R≠cid:=by
 refine⟨λe=>?_,λe=>?_⟩
 ·have h1:=H.run;rw[e,H.said] at h1;simp[aQ,bz] at h1
 ·have h1:=H.run;rw[e,H.cells] at h1;simp[aQ,bz] at h1
theorem RI.frame(H:RI R cid l sid s e o h)(a:h'[R]?=h[R]?)(b:h'[sid]?=h[sid]?)(c:h'[cid]?=h[cid]?):RI R cid l sid s e o h':=⟨a.trans H.run,b.trans H.said,c.trans H.cells,H.ne⟩
theorem RI.more(H:RI R cid l sid s e o h)(os:List AO):RI R cid l sid s e o (h++os):=
 have hl:=H.lt
 H.frame (YN hl.1) (YN hl.2.1) (YN hl.2.2)
theorem EI.lt(H:EI V nid uid uv w b x h):V<h.length/\nid<h.length/\uid<h.length:=by
 obtain⟨t,h1⟩:=H.names
 exact⟨(YL.1 H.env).1,(YL.1 h1).1,H.ul⟩
theorem EI.neN(H:EI V nid uid uv w b x h):V≠nid:=by
 obtain⟨t,h1⟩:=H.names
 intro e
 have h3:=H.env;rw[e,h1] at h3;simp[cF,dt] at h3
theorem EI.neR(H:EI V nid uid uv w b x h){sid2:Nat}(K:RI R cid l sid2 s e o h):V≠R/\V≠sid2/\V≠cid/\nid≠R:=by
 obtain⟨t,h1⟩:=H.names
 have h3:=H.env
 refine⟨λe=>?_,λe=>?_,λe=>?_,λe=>?_⟩
 ·rw[e,K.run] at h3;simp[cF,aQ] at h3
 ·rw[e,K.said] at h3;simp[cF,bz] at h3
 ·rw[e,K.cells] at h3;simp[cF,bz] at h3
 ·rw[e,K.run] at h1;simp[dt,aQ] at h1
theorem EI.frame(H:EI V nid uid uv w b x h)(hl:h.length<=h'.length)(a:h'[V]?=h[V]?)(c:h'[nid]?=h[nid]?)(d:h'[uid]?=h[uid]?):EI V nid uid uv w b x h':=by
 obtain⟨t,h1⟩:=H.names
 exact⟨a.trans H.env,⟨t,c.trans h1⟩,H.vals.frame λ_=>d,H.ne,Zm H.ul hl⟩
theorem EI.more(H:EI V nid uid uv w b x h)(os:List AO):EI V nid uid uv w b x (h++os):=
 have hl:=H.lt
 H.frame (by simp) (YN hl.1) (YN hl.2.1) (YN hl.2.2)
theorem EI.keep(H:EI V nid uid uv w b x h)(K:RI R cid l sid s e o h)(A:Ap R V sid cid nid uid)(F:Fr [R,sid,cid] h h'):EI V nid uid uv w b x h':=by
 obtain⟨a1,a2,a3,a4⟩:=H.neR K
 obtain⟨l1,l2,l3⟩:=H.lt
 exact H.frame F.1 (F.2 V l1 (by simp[a1,a2,a3])) (F.2 nid l2 (by simp[a4,A.ns,A.nc])) (F.2 uid l3 (by simp[A.uR,A.us,A.uc]))
theorem Ap.step{sid2:Nat}(H:EI V nid uid uv w b x h)(A:Ap R V sid cid nid uid)(f:sid2=sid\/h.length<=sid2):Ap R V sid2 cid nid uid:=by
 obtain⟨l1,l2,l3⟩:=H.lt
 obtain⟨a,b,c,d,e,f'⟩:=A
 rcases f with rfl|f
 ·exact⟨a,b,c,d,e,f'⟩
 ·exact⟨by omega,b,by omega,d,e,f'⟩
end
def cf{α:Type}:O5 α->Int
 | .ok _=>0
 | .st c=>c
def dL{α:Type}:O5 α->Bool
 | .ok _=>false
 | .st _=>true
def ExL(R cid:Nat)(l:List Fd)(sid:Nat)(h:List AO)(s':S5)(r:O5 Int)(x:ARes)(h':List AO):Prop:=
 ∃(n:Int) (sid':Nat),x= .ret (.p (.int .i64 n))/\V5 n/\(∀m,r= .ok m->n=m)/\RI R cid l sid' s' (cf r) (dL r) h'/\Fr [R,sid,cid] h h'/\(sid'=sid\/h.length<=sid')
def bkB:O5 (Option Int)->Bool
 | .ok (some _)=>true
 |_=>false
def bkV(x0:Int):O5 (Option Int)->Int
 | .ok (some n)=>n
 |_=>x0
def StL(R cid:Nat)(l:List Fd)(V sid nid uid:Nat)(h:List AO)(w:Sc5)(x0:Int)(s':S5)(r:O5 (Option Int))(x:ARes)(h':List AO):Prop:=
 ∃sid' nid' uid' uv',x= .ret (.tup [])/\RI R cid l sid' s' (cf r) (dL r) h'/\EI V nid' uid' uv' w (bkB r) (bkV x0 r) h'/\Ap R V sid' cid nid' uid'/\Fr [R,sid,cid,V,nid,uid] h h'/\(sid'=sid\/h.length<=sid')/\(nid'=nid\/h.length<=nid')/\(uid'=uid\/h.length<=uid')
end
section
def kX(l:List Fd)(fuel:Nat)(sv:AV)(s:S5):AO:= .row 20 [[.p (fdL l),.p (.int .i64 fuel),.p (.int .i64 ((fuel-s.left:Nat):Int)),sv]++s.cells.map λn=> .p (.int .i64 n)]
inductive SaidAt (h:List AO):AV->Nat->List Int->Prop where
 |nn (sid:Nat):sid<h.length->SaidAt h .nils sid []
 |ss (sid:Nat) (xs:List Int):h[sid]?=some (bz xs)->SaidAt h (.sl sid 1 0 xs.length) sid xs
structure MI (M:Nat) (l:List Fd) (fuel:Nat) (sv:AV) (sid:Nat) (s:S5) (h:List AO):Prop where
 men:h[M]?=some (kX l fuel sv s)
 said:SaidAt h sv sid s.said
 le:s.left<=fuel
 fu:fuel<=4000
 len:s.cells.length=16
def mpV(m:Sc5):List (PV × AV):=m.map λx=>(.str x.1,.p (.int .i64 x.2))
inductive Chn (h:List AO):AV->List Sc5->List Nat->Prop where
 |last (e m:Nat) (c:Sc5):h[e]?=some (.row 2 [[.mp m,.nilp]])->h[m]?=some (.mp (mpV c))->Chn h (.ptr e 2 0 0) [c] [e,m]
 |cons (e m:Nat) (c:Sc5) (u:AV) (v:List Sc5) (I:List Nat):h[e]?=some (.row 2 [[.mp m,u]])->h[m]?=some (.mp (mpV c))->Chn h u v I->Chn h (.ptr e 2 0 0) (c::v) (e::m::I)
section
variable {h h':List AO} {u:AV} {v:List Sc5} {I:List Nat}
theorem Chn.frame(H:Chn h u v I)(e:∀i∈I,h'[i]?=h[i]?):Chn h' u v I:=by
 induction H with
 |last a m c h1 h2=>exact .last a m c (by rw[e a (by simp)];exact h1) (by rw[e m (by simp)];exact h2)
 |cons a m c u v I h1 h2 _ ih=>exact .cons a m c u v I (by rw[e a (by simp)];exact h1) (by rw[e m (by simp)];exact h2) (ih λi hi=>e i (by simp[hi]))
theorem Chn.lt(H:Chn h u v I):∀i∈I,i<h.length:=by
 induction H with
 |last a m c h1 h2=>
  intro i hi
  simp only[Za,Zj,or_false] at hi
  rcases hi with rfl|rfl
  ·exact(YL.1 h1).1
  ·exact(YL.1 h2).1
 |cons a m c u v I h1 h2 _ ih=>
  intro i hi
  simp only[Za] at hi
  rcases hi with rfl|rfl|hi
  ·exact(YL.1 h1).1
  ·exact(YL.1 h2).1
  ·exact ih i hi
theorem Chn.more(H:Chn h u v I)(os:List AO):Chn (h++os) u v I:=H.frame λi hi=>YN (H.lt i hi)
theorem Chn.is(H:Chn h u v I):∃e,u= .ptr e 2 0 0/\e∈I/\e<h.length:=by
 cases H with
 |last a m c h1 h2=>exact⟨a,rfl,by simp,(YL.1 h1).1⟩
 |cons a m c u v I h1 h2 _=>exact⟨a,rfl,by simp,(YL.1 h1).1⟩
theorem Chn.apart(H:Chn h u v I){i sz:Nat}{es:List (List AV)}(hi:h[i]?=some (.row sz es))(hz:sz≠2):i∉I:=by
 induction H with
 |last a m c h1 h2=>
  simp only[Za,Zj,or_false,not_or]
  refine⟨λe=>?_,λe=>?_⟩
  ·subst e;rw[h1] at hi;simp only[Option.some.injEq,AO.row.injEq] at hi;exact hz hi.1.symm
  ·subst e;rw[h2] at hi;cases hi
 |cons a m c u v I h1 h2 _ ih=>
  simp only[Za,not_or]
  refine⟨λe=>?_,λe=>?_,ih⟩
  ·subst e;rw[h1] at hi;simp only[Option.some.injEq,AO.row.injEq] at hi;exact hz hi.1.symm
  ·subst e;rw[h2] at hi;cases hi
theorem Bx(s:List UInt8):∀m:Sc5,gt (.str s) (mpV m)=some ((ce m s).map λn=>AV.p (.int .i64 n))
 |[]=>rfl
 |x::r=>by
  have ih:=Bx s r
  by_cases h:x.1=s
  ·simp[mpV,gt,keq,h,ce]
  ·have h':¬s=x.1:=λe=>h e.symm
   simp only[mpV,Zn,gt,keq,h',decide_false]
   simp only[mpV] at ih
   rw[ih];simp[ce,h]
theorem yS(s:List UInt8)(n:Int):∀m:Sc5,iJ (.str s) (.p (.int .i64 n)) (mpV m)=some (mpV (if(ce m s).isSome then sset m s n else m++[(s,n)]))
 |[]=>rfl
 |x::r=>by
  have ih:=yS s n r
  by_cases h:x.1=s
  ·simp[mpV,iJ,keq,h,ce,sset]
  ·have h':¬s=x.1:=λe=>h e.symm
   simp only[mpV,Zn,iJ,keq,h',decide_false]
   simp only[mpV] at ih
   rw[ih,ce,if_neg h,sset,if_neg h]
   cases (ce r s).isSome<;>simp
theorem Chn.var(H:Chn h u v I)(nd:I.Nodup){s:List UInt8}{n:Int}(hv:iL v s=some n):
 ∃(e m:Nat) (c:Sc5) (w:AV),h[e]?=some (.row 2 [[.mp m,w]])/\h[m]?=some (.mp (mpV c))/\ce c s=some n/\m∈I/\∀k,Chn (h.set m (.mp (mpV (sset c s k)))) u (iu v s k) I:=by
 induction H with
 |last a m c h1 h2=>
  rw[iL] at hv
  have hm:=(YL.1 h2).1
  have hne:m≠a:=λe=>by subst e;rw[h1] at h2;cases h2
  cases hs:ce c s with
  |none=>rw[hs] at hv;cases hv
  |some k=>
   rw[hs] at hv;cases hv
   refine⟨a,m,c,.nilp,h1,h2,hs,by simp,λq=>?_⟩
   rw[iu,hs]
   exact .last a m _ (by rw[YM hne];exact h1) (YR hm)
 |cons a m c u v I h1 h2 H ih=>
  rw[iL] at hv
  have hm:=(YL.1 h2).1
  have hne:m≠a:=λe=>by subst e;rw[h1] at h2;cases h2
  simp only[ZN,Za,not_or] at nd
  cases hs:ce c s with
  |some k=>
   rw[hs] at hv;cases hv
   refine⟨a,m,c,u,h1,h2,hs,by simp,λq=>?_⟩
   rw[iu,hs]
   exact .cons a m _ u v I (by rw[YM hne];exact h1) (YR hm) (H.frame λi hi=>YM (show m≠i from λe=>nd.2.1 (e▸hi)))
  |none=>
   rw[hs] at hv
   obtain⟨e',m',c',w,g1,g2,g3,g4,g5⟩:=ih nd.2.2 hv
   refine⟨e',m',c',w,g1,g2,g3,by simp[g4],λq=>?_⟩
   rw[iu,hs]
   have n1:m'≠a:=λe=>nd.1.2 (e▸g4)
   have n2:m'≠m:=λe=>nd.2.1 (e▸g4)
   exact .cons a m c u _ I (by rw[YM n1];exact h1) (by rw[YM n2];exact h2) (g5 q)
end
section
variable {M:Nat} {l:List Fd} {fuel:Nat} {sv:AV} {sid:Nat} {s:S5} {h h':List AO}
theorem SaidAt.frame{xs:List Int}(H:SaidAt h sv sid xs)(hl:h.length<=h'.length)(e:sv≠ .nils->h'[sid]?=h[sid]?):SaidAt h' sv sid xs:=by
 cases H with
 |nn _ h1=>exact .nn _ (Zm h1 hl)
 |ss _ _ h1=>exact .ss _ _ (by rw[e (by simp)];exact h1)
theorem SaidAt.lt{xs:List Int}(H:SaidAt h sv sid xs):sid<h.length:=by
 cases H with
 |nn _ h1=>exact h1
 |ss _ _ h1=>exact(YL.1 h1).1
theorem MI.lt(H:MI M l fuel sv sid s h):M<h.length:=(YL.1 H.men).1
theorem MI.frame(H:MI M l fuel sv sid s h)(hl:h.length<=h'.length)(a:h'[M]?=h[M]?)(b:h'[sid]?=h[sid]?):MI M l fuel sv sid s h':=⟨a.trans H.men,H.said.frame hl λ_=>b,H.le,H.fu,H.len⟩
theorem SaidAt.more{xs:List Int}(H:SaidAt h sv sid xs)(os:List AO):SaidAt (h++os) sv sid xs:=H.frame (by simp) λ_=>YN H.lt
theorem MI.more(H:MI M l fuel sv sid s h)(os:List AO):MI M l fuel sv sid s (h++os):=
 ⟨by rw[YN H.lt];exact H.men,H.said.more os,H.le,H.fu,H.len⟩
theorem SaidAt.cell{xs:List Int}(H:SaidAt h sv sid xs):sv.isCell=true/\sv.cells=[sv]:=by cases H<;>exact⟨rfl,rfl⟩
end
end
end Go.Proofs.YtokiapglmedipaaGreatDoor
namespace Go.Aw
open Go
section
variable {G:am} {W:World} {S:Nat->Prop} {φ:Aw.Place} {h:List AO}
theorem HRel.box_at(H:HRel G W S φ h){id:Nat}{x:Int}(e:h[id]?=some (.row 1 [[.p (.int .i64 x)]])):
 W.cell? ⟨(φ id).1,(φ id).2,none⟩=some (.int .i64 x)/\W.frozen? ⟨(φ id).1,(φ id).2,none⟩=false/\
  ∀c:Int,HRel G (W.setCell ⟨(φ id).1,(φ id).2,none⟩ (.int .i64 c)) S φ (h.set id (.row 1 [[.p (.int .i64 c)]]))/\Keep W S φ h (W.setCell ⟨(φ id).1,(φ id).2,none⟩ (.int .i64 c)) S φ (h.set id (.row 1 [[.p (.int .i64 c)]])):=by
 obtain⟨c0,t0,fr,a1,a2,a3,a4,a5⟩:=H.obj id 1 _ e
 obtain⟨_,v,b1,b2⟩:=a5 0 (.p (.int .i64 x)) rfl
 have hv:=bT b2
 subst hv
 rw[Nat.add_zero] at b1
 have hlt:(φ id).2<c0.size:=(Zo.1 b1).1
 refine⟨by simp only[World.cell?,a1];simpa using b1,?_,λc=>?_⟩
 ·simp only[World.frozen?,a1]
  have:=a2 _ hlt
  simp only[not_and,Nat.not_lt] at this
  by_cases hq:fr.1<=(φ id).2
  ·have:=this hq
   simp[hq];omega
  ·simp[hq]
 ·have B:=uo (off:=(φ id).2) a1 (.int .i64 c)
  refine H.update e a1 (by simp) B (by simpa using a2) (λq hq=>by rw[YQ.1 hq];rfl) (by simpa using a4) λj u hj=>?_
  cases j with
  |zero=>
   cases hj
   refine⟨rfl,.int .i64 c,?_,.p _ _ (.int _ _)⟩
   rw[Nat.add_zero,Array.getElem?_setIfInBounds_self_of_lt hlt]
  |succ j=>simp at hj
end
theorem NC{P:Program}{ops:Array Oper}{Q:Exit->Act->World->Prop}{o:Oper}{rest:List Oper}{a:Act}{w w':World}{v:Value}(hg:o.guard=none)(hr:(execOp a.eval o).run P w= .halt (.panic v) w')(h:Q (.panic [{v,recovered:=false}]) a w'):wpList P ops Q (o::rest) a w:=by
 simp only[wpList]
 rw[if_pos (by simp[Region.wanted,hg])]
 refine .inl ?_
 unfold Oper.wp
 rw[hr]
 exact h
theorem Og{P:Program}{ops:Array Oper}{Q:Exit->Act->World->Prop}{o:Oper}{rest:List Oper}{a:Act}{w w':World}{d:Deferred}(hg:o.guard=none)(hr:(execOp a.eval o).run P w= .ok (.defer d) w')(h:wpList P ops Q rest ({a with defers:=d::a.defers}.put o.dst undef) w'):wpList P ops Q (o::rest) a w:=by
 simp only[wpList]
 rw[if_pos (by simp[Region.wanted,hg])]
 refine .inl ?_
 unfold Oper.wp
 rw[hr]
 exact h
theorem Kr{P:Program}{ops:Array Oper}{Q:Exit->Act->World->Prop}{o:Oper}{rest:List Oper}{a:Act}{w w':World}(hg:o.guard=none)(hr:(execOp a.eval o).run P w= .ok .skip w')(h:wpList P ops Q rest (a.put o.dst undef) w'):wpList P ops Q (o::rest) a w:=by
 simp only[wpList]
 rw[if_pos (by simp[Region.wanted,hg])]
 refine .inl ?_
 unfold Oper.wp
 rw[hr]
 exact h
theorem MN{P:Program}{ops:Array Oper}{Q:Exit->Act->World->Prop}{o:Oper}{rest:List Oper}{a:Act}{w w':World}{f:FuncId}{vs:Array Value}{R:Ending->World->Prop}(hg:o.guard=none)(hr:(execOp a.eval o).run P w= .ok (.enter f vs) w')
 (hc:Calls P f vs w' R)(h1:∀v w2,R (.returned v) w2->wpList P ops Q rest (a.put o.dst v) w2)(h2:∀chain w2,R (.panicked chain) w2->Q (.panic chain) a w2)(h3:∀w2,¬R .outgrown w2):wpList P ops Q (o::rest) a w:=by
 simp only[wpList]
 rw[if_pos (by simp[Region.wanted,hg])]
 refine .inl ?_
 unfold Oper.wp
 rw[hr,Oper.upon_enter]
 refine hc.mono λe w2 r=>?_
 cases e with
 |returned v=>exact h1 v w2 r
 |panicked chain=>exact h2 chain w2 r
 |outgrown=>exact(h3 w2 r).elim
theorem uU{P:Program}{f:FuncId}(hc:gQ P f=true)(args caps:Array Value)(w:World):(invoke (.fn (.func f) caps) args).run P w= .ok (.enter f (args++caps)) w:=by
 unfold gQ at hc
 split at hc
 ·rename_i fn hf
  simp only[YX,Bool.not_eq_true',beq_eq_false_iff_ne] at hc
  obtain⟨hb,hn⟩:=hc
  obtain⟨c,hb⟩:=Option.isSome_iff_exists.1 hb
  simp[invoke,callFunc,hf,hn,hb]
 ·cases hc
end Go.Aw
namespace Go.Proofs.YtokiapglmedipaaGreatDoor
open Go Go.Aw
set_option maxRecDepth 100000
set_option maxHeartbeats 4000000
section
abbrev bU:TypeId:=179
variable (G:am)
theorem fU{a:Act}{d d':Nat}{v:Value}(h:d≠d'):(a.put (some d) v).eval (.tmp d')=a.eval (.tmp d'):=by simp[Act.eval,Act.put,h]
theorem fX{a:Act}{d:Option Nat}{v:Value}:(a.put d v).tmps.size=a.tmps.size:=by cases d<;>simp[Act.put]
theorem Da{a:Act}{d:Option Nat}{v:Value}:(a.put d v).defers=a.defers:=by cases d<;>rfl
theorem Cv{P:Program}{code:Code}{Q:Exit->Act->World->Prop}{a:Act}{w:World}(T:Act->Prop)(ha:T a)(h:∀a,T a->Code.wp P code Q a w):Code.wp P code Q a w:=h a ha
theorem Ta(v:Value)(w:World):(Instr.typeAssert (.iface bU v) 20 bU true).run Tryz.prog w= .ok (.tuple #[v,.bool true]) w:=by
 have:Tryz.prog.underlying bU=some (.int .i64):=by kernel_rfl
 simp[Instr.typeAssert,run_underlying this]
theorem JP(c:Int)(h:List AO):AC Tryz.prog G nC [.p (.int .i64 c)] h λx h'=>x= .pan bU (.int .i64 c)/\h'=h:=by
 refine AC.enterC Tryz.func212 rfl (rs:=[]) (by kernel_rfl) (by kernel_rfl) λW S φ a hH s0=>?_
 have h0:a.eval (.tmp 0)= .int .i64 c:=by
  have:=s0.trel.get 0 (.p (.int .i64 c)) rfl
  exact bT this
 have hsz:a.tmps.size=4:=s0.trel.size
 refine wp_region_list (dI (v:= .int .i64 c) (w':=W) rfl ?_ (dI (v:= .iface bU (.int .i64 c)) (w':=W) rfl ?_ (NC (v:= .iface bU (.int .i64 c)) (w':=W) rfl ?_ ?_)))
 ·simp[execOp,h0]
 ·have:((a.put (some 2) (.int .i64 c))).eval (.tmp 2)= .int .i64 c:=du (by omega)
  simp[execOp,this,Instr.makeInterface]
 ·have:(((a.put (some 2) (.int .i64 c)).put (some 3) (.iface bU (.int .i64 c)))).eval (.tmp 3)= .iface bU (.int .i64 c):=du (by simp[Act.put];omega)
  simp[execOp,this,Instr.panic]
 ·exact⟨.pan bU (.int .i64 c),_,h,S,φ,⟨rfl,rfl⟩,.pan _ _ _ (.int _ _),(s0.put (some 2) (.p _ _ (.int _ _)) s0.hrel (Keep.refl s0.hrel)).put (some 3) (.any _) s0.hrel (Keep.refl s0.hrel)⟩
theorem Uo(p:Addr)(w:World):
 CallsD Tryz.prog bv #[.pointer (some p)] .returning w λe u' w'=>e= .returned (.tuple #[])/\u'= .returning/\w'=w:=by
 refine callsD_of_wpS Tryz.func157 rfl λc₀ cs hu=>?_
 have hr0:Tryz.f157.results=#[]:=by kernel_rfl
 have hres:∀t,(results Tryz.f157 t).run Tryz.prog w= .ok (.tuple #[]) w:=λt=>by simp[results,hr0]
 apply wpS_seq
 apply wpS_region
 simp[wpOpsS,go_sem,recoverD,hu,Exit.thenS]
 apply wpS_seq
 apply wpS_region
 simp[wpOpsS,go_sem,recoverD,Exit.thenS]
 refine wpS_cond (t:=false) (by simp[Act.eval,Array.replicate]) ?_
 simp only[Bool.false_eq_true,if_false]
 refine wpS_of_wp (wp_skip ?_)
 refine⟨rfl,.returning,?_,_,hres _,rfl,rfl,rfl⟩
 cases c₀
 simp only at hu
 rw[hu]
theorem TL(p:Addr)(x c:Int)(w:World)(hc:w.cell? p=some (.int .i64 x))(hz:w.frozen? p=false):
 CallsD Tryz.prog bv #[.pointer (some p)] (.panicking [{v:= .iface bU (.int .i64 c),recovered:=false}]) w λe u' w'=>
  e= .returned (.tuple #[])/\u'= .panicking [{v:= .iface bU (.int .i64 c),recovered:=true}]/\w'=w.setCell p (.int .i64 c):=by
 refine callsD_of_wpS Tryz.func157 rfl λc₀ cs hu=>?_
 have hr0:Tryz.f157.results=#[]:=by kernel_rfl
 have hres:∀t w,(results Tryz.f157 t).run Tryz.prog w= .ok (.tuple #[]) w:=λt w=>by simp[results,hr0]
 apply wpS_seq
 apply wpS_region
 simp[wpOpsS,go_sem,recoverD,hu,Exit.thenS]
 apply wpS_seq
 apply wpS_region
 simp[wpOpsS,go_sem,recoverD,Exit.thenS]
 refine wpS_cond (t:=true) (by simp[Act.eval,Array.replicate]) ?_
 simp only[if_true]
 refine wpS_of_wp ?_
 refine Cv (λa=>a.eval (.tmp 0)= .pointer (some p)/\a.eval (.tmp 1)= .iface bU (.int .i64 c)/\a.tmps.size=16/\a.defers=[]) ⟨by simp[Act.eval],by simp[Act.eval],by simp,rfl⟩ λa ⟨h0,h1,hs,hd⟩=>?_
 apply wp_seq
 refine wp_region_list ?_
 refine dI (v:= .iface bU (.int .i64 c)) (w':=w) rfl (by simp[execOp,h1]) ?_
 refine dI (v:= .tuple #[.int .i64 c,.bool true]) (w':=w) rfl (by simp[execOp,du,hs,Ta]) ?_
 refine dI (v:= .tuple #[.int .i64 c,.bool true]) (w':=w) rfl (by simp[execOp,du,fX,hs]) ?_
 refine dI (v:= .int .i64 c) (w':=w) rfl (by simp[execOp,du,fX,hs,Instr.extract]) ?_
 refine dI (v:= .bool true) (w':=w) rfl (by simp[execOp,fU,du,fX,hs,Instr.extract]) ?_
 refine dI (v:= .int .i64 c) (w':=w) rfl (by simp[execOp,fU,du,fX,hs]) ?_
 refine dI (v:= .bool true) (w':=w) rfl (by simp[execOp,fU,du,fX,hs]) ?_
 refine Cv (λa=>a.eval (.tmp 0)= .pointer (some p)/\a.eval (.tmp 3)= .bool true/\a.eval (.tmp 2)= .int .i64 c/\a.tmps.size=16/\a.defers=[]) ⟨by simp[fU,h0],by simp[du,fX,hs],by simp[fU,du,fX,hs],by simp[fX,hs],by simp only[Da,hd]⟩ λa ⟨h0,h3,h2,hs,hd⟩=>?_
 have h0':a.tmps[0]= .pointer (some p):=by simpa[Act.eval,hs] using h0
 apply wp_seq
 apply wp_seq
 refine wp_region_list ?_
 refine dI (v:= .bool true) (w':=w) rfl (by simp[execOp,h3]) ?_
 refine dI (v:= .bool false) (w':=w) rfl (by simp[execOp,du,hs,go_sem]) ?_
 refine wp_cond (t:=false) (by simp[du,fX,hs]) (wp_skip ?_)
 refine wp_region_list ?_
 refine dI (v:= .int .i64 c) (w':=w) rfl (by simp[execOp,fU,h2]) ?_
 refine Kr (w':=w.setCell p (.int .i64 c)) rfl (by simp[execOp,fU,du,fX,h0',hs,go_sem,hc,hz]) ?_
 refine⟨by simp only[Da,hd],_,rfl,_,hres _ _,rfl,rfl,rfl⟩
theorem Ql{p:Addr}{c:Int}{w:World}(hc:w.cell? p=some (.int .i64 c)){t:Array Value}(ht:t.getD 2 undef= .pointer (some p)):(results Tryz.f105 t).run Tryz.prog w= .ok (.int .i64 c) w:=by
 have hr0:Tryz.f105.results=#[.cell 2 3]:=by kernel_rfl
 have hi:Tryz.prog.underlying 3=some (.int .i64):=by kernel_rfl
 rw[ZA] at ht
 simp[results,hr0,ht,loadVar,asAddr,isAgg,run_underlying hi,go_sem,hc]
def XI(id:Nat)(R:ARes->List AO->Prop)(x:ARes)(h':List AO):Prop:=
 ∃c:Int,(x= .ret (.tup [])/\c=0\/x= .pan bU (.int .i64 c))/\h'[id]?=some (.row 1 [[.p (.int .i64 0)]])/\R (.ret (.p (.int .i64 c))) (h'.set id (.row 1 [[.p (.int .i64 c)]]))
theorem Ov(F:FuncId)(caps:List AV)(h:List AO)(R:ARes->List AO->Prop)(HF:AC Tryz.prog G F caps (h++[.row 1 [[.p (.int .i64 0)]]]) (XI h.length R)):
 AC Tryz.prog G ua [.fn (.func F) caps] h R:=by
 refine⟨by kernel_rfl,λW S φ vs hH hA=>calls_of_wp_defers Tryz.func105 rfl ?_⟩
 have s:St G W S φ h W S φ {tmps:=vs++Array.replicate (6-vs.size) undef,defers:=[]} [.fn (.func F) caps,.any,.any,.any,.any,.any] h:=by
  refine⟨hH,⟨by simp[hA.1],λi v hi=>?_⟩,rfl,Keep.refl hH⟩
  match i,hi with
  |0,hi=>
   cases hi
   have hl:0<vs.size:=by rw[hA.1];simp
   have:(vs++Array.replicate (6-vs.size) undef).getD 0 undef=vs[0]:=by
    rw[ZA,Array.getElem?_append_left hl,Zp hl];rfl
   rw[this]
   exact hA.2 0 _ _ rfl (Zp hl)
  |1,hi=>cases hi;exact .any _
  |2,hi=>cases hi;exact .any _
  |3,hi=>cases hi;exact .any _
  |4,hi=>cases hi;exact .any _
  |5,hi=>cases hi;exact .any _
 refine Cv (λa=>St G W S φ h W S φ a [.fn (.func F) caps,.any,.any,.any,.any,.any] h) s λa s=>?_
 refine wp_seq (Wi (k:= .reg [⟨some 2,none,.alloc [.p (.int .i64 0)]⟩]) (by kernel_rfl) s (Q:=λx ts' h'=>x= .normal/\ts'=[.fn (.func F) caps,.any,.ptr h.length 1 0 0,.any,.any,.any]/\h'=h++[.row 1 [[.p (.int .i64 0)]]]) (by simp) ?_)
 rintro x ts' h1 S1 φ1 e a1 W1 ⟨rfl,rfl,rfl⟩ hx s1 K1
 cases hx
 have hsz:a1.tmps.size=6:=s1.trel.size
 have hp2:a1.tmps.getD 2 undef= .pointer (some ⟨(φ1 h.length).1,(φ1 h.length).2,none⟩):=by
  have:=s1.trel.get 2 _ rfl
  generalize a1.tmps.getD 2 undef=x at this
  cases this with
  |ptr _ _ _ _ _=>simp
 obtain⟨cv,hp0,hcv⟩:∃cv:Array Value,a1.tmps.getD 0 undef= .func (.func F) #[] cv/\nv W1 S1 φ1 (h++[.row 1 [[.p (.int .i64 0)]]]:List AO).length caps cv:=by
  have:=s1.trel.get 0 _ rfl
  generalize a1.tmps.getD 0 undef=x at this
  cases this with
  |fn _ _ cv h1 h2=>exact⟨cv,rfl,h1,h2⟩
 have hd:=s1.defers
 generalize hp:(⟨(φ1 h.length).1,(φ1 h.length).2,none⟩:Addr)=p at hp2
 refine wp_seq (wp_region_list ?_)
 refine dI (v:= .func (.func bv) #[] #[.pointer (some p)]) (w':=W1) rfl ?_ ?_
 ·have:a1.eval (.tmp 2)= .pointer (some p):=hp2
  simp[execOp,this,Instr.makeFunc]
 refine Og (d:={target:= .fn (.func bv) #[.pointer (some p)],args:=#[]}) (w':=W1) rfl ?_ ?_
 ·have:(a1.put (some 3) (.func (.func bv) #[] #[.pointer (some p)])).eval (.tmp 3)= .func (.func bv) #[] #[.pointer (some p)]:=du (by rw[hsz];decide)
  simp[execOp,this,resolve,Deferred.ofValue]
 generalize hP:(λ(e:Ending) (W':World)=>∃r S' φ' h',R r h'/\HRel G W' S' φ' h'/\ERel W' S' φ' h'.length r e/\Keep W S φ h W' S' φ' h')=RR
 have fin:∀(W2 W3:World) (S2:Nat->Prop) (φ2:Aw.Place) (h2:List AO) (c:Int),HRel G W2 S2 φ2 h2->Keep W1 S1 φ1 (h++[.row 1 [[.p (.int .i64 0)]]]) W2 S2 φ2 h2->h2[h.length]?=some (.row 1 [[.p (.int .i64 0)]])->
  R (.ret (.p (.int .i64 c))) (h2.set h.length (.row 1 [[.p (.int .i64 c)]]))->W3=W2.setCell p (.int .i64 c)->∀t:Array Value,t.getD 2 undef= .pointer (some p)->Leaves Tryz.prog Tryz.f105 t RR [] .returning W3:=λW2 W3 S2 φ2 h2 c H2 K2 hb hR hw t ht=>by
  subst hw
  have hφ:(⟨(φ2 h.length).1,(φ2 h.length).2,none⟩:Addr)=p:=by rw[K2.same h.length (by simp)];exact hp
  obtain⟨b1,b2,b3⟩:=H2.box_at hb
  obtain⟨b4,b5⟩:=b3 c
  rw[hφ] at b4 b5
  obtain⟨c1,_,_⟩:=b4.box_at (id:=h.length) (x:=c) (by rw[YR (YL.1 hb).1])
  rw[hφ] at c1
  refine⟨_,Ql c1 ht,?_⟩
  rw[←hP]
  exact⟨_,_,_,_,hR,b4,.ret _ _ (.p _ _ (.int _ _)),s1.keep.trans (K2.trans b5)⟩
 refine Cv (λa=>a.tmps.size=6/\a.tmps.getD 2 undef= .pointer (some p)/\a.tmps.getD 0 undef= .func (.func F) #[] cv/\a.defers=[{target:= .fn (.func bv) #[.pointer (some p)],args:=#[]}]) ⟨by simp[Act.put,hsz],?_,?_,by simp[Act.put,hd]⟩ λa2 ⟨hz2,hq2,hq0,hdf⟩=>?_
 ·refine Eq.trans ?_ hp2
  simp[Act.put]
 ·refine Eq.trans ?_ hp0
  simp[Act.put]
 refine wp_seq (wp_region_list ?_)
 refine dI (v:= .func (.func F) #[] cv) (w':=W1) rfl ?_ ?_
 ·have:a2.eval (.tmp 0)= .func (.func F) #[] cv:=hq0
  simp[execOp,this]
 refine MN (vs:=#[]++cv) (w':=W1) rfl ?_ (HF.2 W1 S1 φ1 _ s1.hrel (by simpa using hcv)) (λv w2 ⟨r,S2,φ2,h2,⟨c,k1,k2,k3⟩,H2,E2,K2⟩=>?_) (λchain w2 ⟨r,S2,φ2,h2,⟨c,k1,k2,k3⟩,H2,E2,K2⟩=>?_) (λw2 ⟨r,S2,φ2,h2,⟨c,k1,k2,k3⟩,H2,E2,K2⟩=>by cases E2)
 ·have:(a2.put (some 4) (.func (.func F) #[] cv)).eval (.tmp 4)= .func (.func F) #[] cv:=du (by rw[hz2];decide)
  simp[execOp,this,resolve,Deferred.ofValue,uU HF.1]
 ·have hb:=H2.box_at k2
  have hφ:(⟨(φ2 h.length).1,(φ2 h.length).2,none⟩:Addr)=p:=by rw[K2.same h.length (by simp)];exact hp
  rw[hφ] at hb
  obtain⟨b1,b2,b3⟩:=hb
  have hv:r= .ret (.tup [])/\c=0:=by
   rcases k1 with h|h
   ·exact h
   ·subst h;cases E2
  obtain⟨_,rfl⟩:=hv
  refine Cv (λa=>a.tmps.size=6/\a.tmps.getD 2 undef= .pointer (some p)/\a.defers=[{target:= .fn (.func bv) #[.pointer (some p)],args:=#[]}]) ⟨by simp[Act.put,hz2],?_,by simp[Act.put,hdf]⟩ λa3 ⟨hz3,hr2,hdf3⟩=>?_
  ·refine Eq.trans ?_ hq2
   simp[Act.put]
  refine wp_seq (wp_region_list ?_)
  have hr2':a3.tmps[2]= .pointer (some p):=by simpa[hz3] using hr2
  refine Kr (w':=w2.setCell p (.int .i64 0)) rfl (by simp[execOp,Act.eval,hr2',hz3,go_sem,b1,b2]) ?_
  refine wp_ret ?_
  show Leaves _ _ _ _ _ _ _
  have ht:(a3.put none undef).tmps.getD 2 undef= .pointer (some p):=hr2
  have e1:(a3.put none undef).defers=[{target:= .fn (.func bv) #[.pointer (some p)],args:=#[]}]:=hdf3
  rw[e1]
  refine leaves_cons (by simp) (uU (by kernel_rfl) _ _ _) ((Uo p _).mono λe u' w' hh=>?_)
  obtain⟨rfl,rfl,rfl⟩:=hh
  exact fin w2 _ S2 φ2 h2 0 H2 K2 k2 k3 rfl _ ht
 ·have hb:=H2.box_at k2
  have hφ:(⟨(φ2 h.length).1,(φ2 h.length).2,none⟩:Addr)=p:=by rw[K2.same h.length (by simp)];exact hp
  rw[hφ] at hb
  obtain⟨b1,b2,b3⟩:=hb
  have hv:r= .pan bU (.int .i64 c):=by
   rcases k1 with h|h
   ·obtain⟨h,_⟩:=h;subst h;cases E2
   ·exact h
  subst hv
  have hch:chain=[{v:= .iface bU (.int .i64 c),recovered:=false}]:=by
   cases E2 with
   |pan _ _ x hx=>rw[bT (φ:=φ2) (hp:=0) (.p _ _ hx)]
  subst hch
  show Leaves _ _ _ _ _ _ _
  have ht:(a2.put (some 4) (.func (.func F) #[] cv)).tmps.getD 2 undef= .pointer (some p):=by
   refine Eq.trans ?_ hq2
   simp[Act.put]
  have e1:(a2.put (some 4) (.func (.func F) #[] cv)).defers=[{target:= .fn (.func bv) #[.pointer (some p)],args:=#[]}]:=hdf
  rw[e1]
  refine leaves_cons (by simp) (uU (by kernel_rfl) _ _ _) ((TL p 0 c _ b1 b2).mono λe u' w' hh=>?_)
  obtain⟨rfl,rfl,rfl⟩:=hh
  exact fin w2 _ S2 φ2 h2 c H2 K2 k2 k3 rfl _ ht
end
section
def M5(s:S5):Nat:=s.said.length+s.left
def IX:J5->Prop
 | .ex _ _ s _ s' _=>M5 s'<=M5 s/\s'.left<=s.left
 | .exs _ _ s _ s' _=>M5 s'<=M5 s/\s'.left<=s.left
 | .cal _ _ s s' _=>M5 s'<=M5 s/\s'.left<=s.left
 | .stm _ v s _ v' s' _=>M5 s'<=M5 s+1/\s'.left<=s.left/\(aC v').length+s'.left<=(aC v).length+s.left+1
 | .blk _ v s _ v' s' _=>M5 s'<=M5 s/\s'.left<=s.left/\(aC v').length+s'.left<=(aC v).length+s.left
 | .lp _ v s _ v' s' _=>M5 s'<=M5 s/\s'.left<=s.left/\(aC v').length+s'.left<=(aC v).length+s.left
theorem zl(m:Sc5)(v:List Sc5):(aC v).length<=(aC (m::v)).length:=by simp[aC]
theorem nz(v:List Sc5):(aC ([]::v)).length=(aC v).length:=by simp[aC]
theorem Kk{s:S5}{F:Nat}(h:s.left=F+1):M5 (s.at_ F)+1=M5 s/\(s.at_ F).left+1=s.left:=by
 simp only[M5,S5.at_]
 omega
theorem Mq(s:List UInt8)(n:Int)(v:List Sc5):(aC (iu v s n)).length=(aC v).length:=iW (Bu s n v)
theorem om{l:List Fd}{j:J5}(h:Ev l j):IX j:=by
 induction h with
 |num _ _=>exact⟨YY _,YY _⟩
 |var _ _=>exact⟨YY _,YY _⟩
 |call _ _ _ _ _ i1 i2=>exact⟨Zi i2.1 i1.1,Zi i2.2 i1.2⟩
 |callS _ _ i1=>exact i1
 |firstS _ _ _ _ i1=>exact i1
 |and0 _ _ _ i1=>exact i1
 |and1 _ _ _ _ _ i1 i2=>exact⟨Zi i2.1 i1.1,Zi i2.2 i1.2⟩
 |andS _ _ _ _ _ i1 i2=>exact⟨Zi i2.1 i1.1,Zi i2.2 i1.2⟩
 |not _ _ _ i1=>exact i1
 |at_ _ _ _ _ _ i1=>exact i1
 |atS _ _ _ _ i1=>exact i1
 |bin _ _ _ _ _ _ i1 i2=>exact⟨Zi i2.1 i1.1,Zi i2.2 i1.2⟩
 |binS _ _ _ _ _ i1 i2=>exact⟨Zi i2.1 i1.1,Zi i2.2 i1.2⟩
 |binD _ _ _ _ _ _ i1 i2=>exact⟨Zi i2.1 i1.1,Zi i2.2 i1.2⟩
 |nil=>exact⟨YY _,YY _⟩
 |cons _ _ i1 i2=>exact⟨Zi i2.1 i1.1,Zi i2.2 i1.2⟩
 |consS _ i1=>exact i1
 |consT _ _ i1 i2=>exact⟨Zi i2.1 i1.1,Zi i2.2 i1.2⟩
 |cal _ _ _ i1=>exact⟨i1.1,i1.2.1⟩
 |bnil=>exact⟨YY _,YY _,YY _⟩
 |bfuel _=>exact⟨YY _,YY _,YY _⟩
 |bgo hl _ _ i1 i2=>
  obtain⟨a,b⟩:=Kk hl
  obtain⟨c1,c2,c3⟩:=i1
  obtain⟨d1,d2,d3⟩:=i2
  exact⟨by omega,by omega,by omega⟩
 |bend hl _ _ i1=>
  obtain⟨a,b⟩:=Kk hl
  obtain⟨c1,c2,c3⟩:=i1
  exact⟨by omega,by omega,by omega⟩
 |argS _ _ _ i1=>exact⟨by have:=i1.1;omega,i1.2,by have:=i1.2;omega⟩
 |slet _ _ _ hv _ i1=>
  subst hv
  refine⟨by have:=i1.1;omega,i1.2,?_⟩
  have:=i1.2
  simp only[aC,YZ,Ze,List.length_nil]
  omega
 |sset _ _ _ _ i1=>exact⟨by have:=i1.1;omega,i1.2,by rw[Mq];have:=i1.2;omega⟩
 |ssay _ _ _ i1=>
  obtain⟨a,b⟩:=i1
  refine⟨?_,b,?_⟩
  ·simp only[M5,S5.say,YZ,Ze,List.length_nil] at a⊢;omega
  ·simp only[S5.say];omega
 |sput _ _ _ _ _ i1 i2=>
  obtain⟨a,b⟩:=i1
  obtain⟨c,d⟩:=i2
  refine⟨?_,?_,?_⟩
  ·simp only[M5,S5.put] at a c⊢;omega
  ·simp only[S5.put];omega
  ·simp only[S5.put];omega
 |sputC _ _ _ _ _ i1 i2=>exact⟨by have:=i1.1;have:=i2.1;omega,by have:=i1.2;have:=i2.2;omega,by have:=i1.2;have:=i2.2;omega⟩
 |sputS _ _ _ _ i1 i2=>exact⟨by have:=i1.1;have:=i2.1;omega,by have:=i1.2;have:=i2.2;omega,by have:=i1.2;have:=i2.2;omega⟩
 | @sif k v s x a s1 n m v' s2 q _ _ _ _ i1 i2=>
   obtain⟨a,b⟩:=i1
   obtain⟨c1,c2,c3⟩:=i2
   have:=zl m v'
   rw[nz] at c3
   exact⟨by omega,by omega,by omega⟩
 |sloop _ _ i1=>exact⟨by have:=i1.1;omega,i1.2.1,by have:=i1.2.2;omega⟩
 |sback _ _ _ i1=>exact⟨by have:=i1.1;omega,i1.2,by have:=i1.2;omega⟩
 |sdo _ _ _ i1=>exact⟨by have:=i1.1;omega,i1.2,by have:=i1.2;omega⟩
 |lpS _ _ i1=>exact⟨i1.1,i1.2,by have:=i1.2;omega⟩
 |lp0 _ _ i1=>exact⟨i1.1,i1.2,by have:=i1.2;omega⟩
 | @lpEnd k v s x a s1 n m v' s2 q _ _ _ _ _ i1 i2=>
   obtain⟨a,b⟩:=i1
   obtain⟨c1,c2,c3⟩:=i2
   have:=zl m v'
   rw[nz] at c3
   exact⟨by omega,by omega,by omega⟩
 | @lpFuel k v s x a s1 n m v' s2 _ _ _ _ _ i1 i2=>
   obtain⟨a,b⟩:=i1
   obtain⟨c1,c2,c3⟩:=i2
   have:=zl m v'
   rw[nz] at c3
   exact⟨by omega,by omega,by omega⟩
 | @lpGo k v s x a s1 n m v' s2 F v'' s3 q _ _ _ _ hl _ i1 i2 i3=>
   obtain⟨a,b⟩:=i1
   obtain⟨c1,c2,c3⟩:=i2
   obtain⟨e1,e2⟩:=Kk hl
   obtain⟨d1,d2,d3⟩:=i3
   have:=zl m v'
   rw[nz] at c3
   exact⟨by omega,by omega,by omega⟩
end
section
section
variable {M:Nat} {l:List Fd} {fuel:Nat} {sv:AV} {sid:Nat} {s s2:S5} {h h':List AO}
theorem MI.neS(H:MI M l fuel sv sid s h)(hs:sv≠ .nils):M≠sid:=by
 intro e
 have h1:=H.men
 have h2:=H.said
 generalize s.said=xs at h2
 cases h2 with
 |nn _ _=>exact hs rfl
 |ss _ _ h2=>rw[e,h2] at h1;simp[kX,bz] at h1
theorem MI.upd(H:MI M l fuel sv sid s h)(h1:s2.said=s.said)(h2:s2.left<=s.left)(h3:s2.cells.length=16):MI M l fuel sv sid s2 (h.set M (kX l fuel sv s2)):=
 ⟨YR H.lt,by rw[h1];exact H.said.frame (by rw[Zq];exact YY _) λhs=>YM (H.neS hs),Zi h2 H.le,H.fu,h3⟩
end
def WhR(h:List AO)(u:AV)(v:List Sc5)(I:List Nat)(s:List UInt8)(n:Int)(e:Nat):Prop:=
 ∃(m:Nat) (c:Sc5) (w:AV),h[e]?=some (.row 2 [[.mp m,w]])/\h[m]?=some (.mp (mpV c))/\ce c s=some n/\m∈I/\(∀k,Chn (h.set m (.mp (mpV (sset c s k)))) u (iu v s k) I)
theorem sO{m:Sc5}{s:List UInt8}{n:Int}(h:ce m s=some n):(ce m s).isSome=true:=by rw[h];rfl
theorem QK{h:List AO}{e:Nat}{v:List Sc5}{I:List Nat}{s:List UInt8}{n:Int}(H:Chn h (.ptr e 2 0 0) v I)(nd:I.Nodup)(hv:iL v s=some n):
 ∃(m:Nat) (c:Sc5) (r:List Sc5) (w:AV),v=c::r/\h[e]?=some (.row 2 [[.mp m,w]])/\h[m]?=some (.mp (mpV c))/\
  (∀k,ce c s=some k->WhR h (.ptr e 2 0 0) v I s n e)/\((w= .nilp/\(ce c s).isSome=true)\/∃e2 I2,w= .ptr e2 2 0 0/\Chn h w r I2/\I2.Nodup/\(ce c s=none->iL r s=some n/\∀e3,WhR h w r I2 s n e3->WhR h (.ptr e 2 0 0) v I s n e3)):=by
 cases H with
 |last _ m c h1 h2=>
  have hm:=(YL.1 h2).1
  have hne:m≠e:=λq=>by subst q;rw[h1] at h2;cases h2
  have hs:ce c s=some n:=by
   rw[iL] at hv
   cases hq:ce c s with
   |none=>rw[hq] at hv;cases hv
   |some k=>rw[hq] at hv;exact hv
  refine⟨m,c,[],.nilp,rfl,h1,h2,λk hk=>⟨m,c,.nilp,h1,h2,hs,by simp,λq=>?_⟩,.inl ⟨rfl,sO hs⟩⟩
  rw[iu,if_pos (sO hs)]
  exact .last e m _ (by rw[YM hne];exact h1) (YR hm)
 |cons _ m c u r I h1 h2 H=>
  have hm:=(YL.1 h2).1
  have hne:m≠e:=λq=>by subst q;rw[h1] at h2;cases h2
  simp only[ZN,Za,not_or] at nd
  obtain⟨e2,rfl,_,_⟩:=H.is
  refine⟨m,c,r,_,rfl,h1,h2,λk hk=>⟨m,c,_,h1,h2,?_,by simp,λq=>?_⟩,.inr ⟨e2,I,rfl,H,nd.2.2,λhn=>?_⟩⟩
  ·rw[iL,hk] at hv;rw[hk];exact hv
  ·rw[iu,if_pos (sO hk)]
   exact .cons e m _ _ r I (by rw[YM hne];exact h1) (YR hm) (H.frame λi hi=>YM (show m≠i from λq=>nd.2.1 (q▸hi)))
  ·rw[iL,hn] at hv
   refine⟨hv,λe3 ⟨m',c',w,g1,g2,g3,g4,g5⟩=>⟨m',c',w,g1,g2,g3,by simp[g4],λq=>?_⟩⟩
   have n1:m'≠e:=λq=>nd.1.2 (q▸g4)
   have n2:m'≠m:=λq=>nd.2.1 (q▸g4)
   rw[iu,hn,if_neg (by simp)]
   exact .cons e m c _ _ I (by rw[YM n1];exact h1) (by rw[YM n2];exact h2) (g5 q)
variable (G:am)
theorem MQ{M:Nat}{l:List Fd}{fuel:Nat}{sv:AV}{sid:Nat}{s:S5}{h:List AO}(H:MI M l fuel sv sid s h):
 AC Tryz.prog G dU [.ptr M 20 0 0] h λx h'=>if s.left=0 then x= .pan bU (.int .i64 3)/\h'=h else x= .ret (.tup [])/\h'=h.set M (kX l fuel sv (s.at_ (s.left-1))):=by
 have hm:=H.men
 have hle:=H.le
 have hfu:=H.fu
 simp only[kX] at hm
 refine AC.go tx ?_
 by_cases h0:s.left=0
 ·simp-implicitDefEqProofs[gB,hm,h0]
  refine(JP G 3 h).mono ?_
  rintro r h1 ⟨rfl,rfl⟩
  simp-implicitDefEqProofs[]
 ·have h1:¬((fuel-s.left:Nat):Int)=(fuel:Int):=by omega
  have h2:IntKind.i64.wrap (((fuel-s.left:Nat):Int)+1)=((fuel-(s.left-1):Nat):Int):=by rw[ab (by omega) (by omega)];omega
  simp-implicitDefEqProofs[gB,hm,h0,h1,h2,kX,S5.at_]
theorem FX{u:AV}{v:List Sc5}{I:List Nat}{h:List AO}(C:Chn h u v I):
 AC Tryz.prog G ji [u] h λx h'=>x= .ret (.ptr (h.length+1) 2 0 0)/\h'=h++[.mp [],.row 2 [[.mp h.length,u]]]:=by
 obtain⟨e,rfl,_,_⟩:=C.is
 refine AC.go EQ ?_
 simp-implicitDefEqProofs[vL]
theorem Jw{M:Nat}{l:List Fd}{fuel:Nat}{sv:AV}{sid:Nat}{s:S5}{h:List AO}(H:MI M l fuel sv sid s h)(n:Nat)(hn:n<=255):
 AC Tryz.prog G ec [.ptr M 20 0 0,.p (.int .i64 n)] h λx h'=>if 16<=n then x= .pan bU (.int .i64 2)/\h'=h else x= .ret (.ptr M 20 0 (4+n))/\h'=h:=by
 have hm:=H.men
 simp only[kX] at hm
 refine AC.go tJ ?_
 by_cases h0:16<=n
 ·have h1:(16:Int)<=n:=by omega
  simp-implicitDefEqProofs[gw,hm,h0,h1]
  refine(JP G 2 h).mono ?_
  rintro r h1 ⟨rfl,rfl⟩
  simp-implicitDefEqProofs[]
 ·have h1:¬(16:Int)<=n:=by omega
  simp-implicitDefEqProofs[gw,hm,h0,h1]
  omega
structure WhS where (e:Nat) (v:List Sc5) (I:List Nat)
structure WhI (h:List AO) (u:AV) (v:List Sc5) (I:List Nat) (s:List UInt8) (n:Int) (a:WhS):Prop where
 chn:Chn h (.ptr a.e 2 0 0) a.v a.I
 nd:a.I.Nodup
 has:iL a.v s=some n
 up:∀e,WhR h (.ptr a.e 2 0 0) a.v a.I s n e->WhR h u v I s n e
theorem KO{u:AV}{v:List Sc5}{I:List Nat}{h:List AO}(C:Chn h u v I)(nd:I.Nodup){s:List UInt8}{n:Int}(hv:iL v s=some n):
 AC Tryz.prog G gl [u,.p (.str s)] h λx h'=>h'=h/\∃e,x= .ret (.ptr e 2 0 0)/\WhR h u v I s n e:=by
 obtain⟨e0,rfl,_,he0⟩:=C.is
 refine AC.go zU ?_
 simp-implicitDefEqProofs[pg]
 refine aN (λa:WhS=>aj 28 [(4,.nilp),(0,.ptr a.e 2 0 0),(1,.p (.str s))]) (λ_=>h) (WhI h (.ptr e0 2 0 0) v I s n) (λa=>a.v.length) ⟨e0,v,I⟩ ⟨C,nd,hv,λ_ q=>q⟩ ?_ ?_
 ·exact bj (YY _) (by simp[below];exact he0)
 rintro⟨e,v1,I1⟩ ⟨C1,nd1,hv1,hup⟩
 simp only at C1 nd1 hv1 hup
 obtain⟨m,c,r,w,rfl,g1,g2,g3,g4⟩:=QK C1 nd1 hv1
 rcases g4 with⟨rfl,hs⟩|⟨e2,I2,rfl,C2,nd2,hn⟩
 ·obtain⟨k,hk⟩:=Option.isSome_iff_exists.1 hs
  simp-implicitDefEqProofs[g1]
  exact hup _ (g3 k hk)
 ·have hq:=Bx s c
  cases hk:ce c s with
  |some k=>
   rw[hk] at hq
   simp-implicitDefEqProofs[g1,g2,hq]
   exact hup _ (g3 k hk)
  |none=>
   rw[hk] at hq
   obtain⟨k1,k2⟩:=hn hk
   simp-implicitDefEqProofs[g1,g2,hq]
   refine⟨⟨e2,r,I2⟩,⟨C2,nd2,k1,λe q=>hup e (k2 e q)⟩,by simp,bj (YY _) ?_⟩
   obtain⟨_,q,_,q2⟩:=C2.is
   cases q
   simp[below]
   exact q2
end
section
def ar5(o a b:Int):Option Int:=if o=10 then some (tr5 (decide (a≠0/\b≠0))) else Gn o a b
def isN(e:Ex)(n:Int):Bool:=decide (e.op=1)&&decide (e.n=n)
section
variable {l:List Fd}
end
end
section
theorem MF{d:Nat}{e a:Ex}(h:bV (d+1) e=true)(ha:a∈e.kids):bV d a=true:=by
 rw[bV,YX] at h
 exact YW.1 h.2 a ha
theorem Je{d:Nat}{e:Ex}(h:bV d e=true):lZ e=true:=by
 cases d with
 |zero=>cases h
 |succ d=>rw[bV,YX] at h;exact h.1
section
variable {fns fns':List Fd} (hL:Like fns fns')
include hL
end
end
section
theorem Mf{d:Nat}{e:Ex}(h:bV d e=true):∃c,d=c+1:=by
 cases d with
 |zero=>cases h
 |succ d=>exact⟨d,rfl⟩
theorem Ew{d:Nat}{e:Ex}(h:bV d e=true):loK e.op<=e.kids.length/\e.kids.length<=hiK e.op/\1<=e.op/\e.op<=13:=by
 have h:=Je h
 simp only[lZ,YX,inR,decide_eq_true_eq] at h
 obtain⟨⟨⟨⟨⟨h1,h2⟩,_⟩,_⟩,_⟩,_⟩:=h
 exact⟨by omega,by omega,h1.1,h1.2⟩
section
variable {l:List Fd} {k:Nat} {v:List Sc5} {s s':S5} {r:O5 Int}
end
end
section
def TU(x:Sm)(n:Int):Bool:=match x.args with|a::_=>isN a n|[]=>false
def XM(x:Sm):Bool:=match x.args with|a::_=>decide (a.op=1)|[]=>false
def WM(x:Sm):Bool:=decide (x.op=6)&&TU x 0
mutual
def PB:Sm->Sm
 | .mk o s a bd el=> .mk o s a
   (if o=5/\TU (.mk o s a bd el) 0=true then[] else Lc bd)
   (if o=5/\TU (.mk o s a bd el) 0=false/\XM (.mk o s a bd el)=true then[] else Lc el)
def Lc:List Sm->List Sm
 |[]=>[]
 |s::r=>if WM s=true then Lc r else PB s::(if s.op=7 then[] else Lc r)
end
section
variable {l:List Fd} {k:Nat} {v v':List Sc5} {s s':S5} {x:Sm} {r:O5 (Option Int)}
end
end
section
variable (G:am)
theorem kq(b:Bool):VF Tryz.prog G eJ [.p (.bool b)] (.p (.int .i64 (tr5 b))):=by
 refine AC.go CV ?_
 cases b<;>simp-implicitDefEqProofs[sA,tr5]
def EZ:Option Int->AV
 |some q=> .tup [.p (.int .i64 q),.p (.int .i64 0)]
 |none=> .tup [.p (.int .i64 0),.p (.int .i64 1)]
theorem Lh(o a b:Int)(ho:3<=o)(h9:o<=9)(ha:V5 a)(hb:V5 b):VF Tryz.prog G pz [.p (.int .i64 o),.p (.int .i64 a),.p (.int .i64 b)] (EZ (Gn o a b)):=by
 obtain⟨a0,a1⟩:=ha
 obtain⟨b0,b1⟩:=hb
 refine AC.go Gh ?_
 have hm:a*b<=65025:=by
  have h1:=Int.mul_le_mul_of_nonneg_right a1 b0
  omega
 have hm0:0<=a*b:=Int.mul_nonneg a0 b0
 have ho':o=3\/o=4\/o=5\/o=6\/o=7\/o=8\/o=9:=by omega
 rcases ho' with rfl|rfl|rfl|rfl|rfl|rfl|rfl
 all_goals simp-implicitDefEqProofs[vF,Gn]
 ·rw[ab (by omega) (by omega),Int.tmod_eq_emod_of_nonneg (by omega)];rfl
 ·have hw:IntKind.i64.wrap (a-b)=a-b:=ab (by omega) (by omega)
  rw[hw,ab (by omega) (by omega),Int.tmod_eq_emod_of_nonneg (by omega)]
  have:(a-b+256)%256=(a-b)%256:=by omega
  rw[this];rfl
 ·rw[ab (by omega) (by omega),Int.tmod_eq_emod_of_nonneg (by omega)];rfl
 ·refine bi (λh=>?_) (λh=>?_)
  ·simp at h
   simp-implicitDefEqProofs[h,EZ]
  ·simp at h
   simp-implicitDefEqProofs[h,EZ]
   rw[Int.tdiv_eq_ediv_of_nonneg (by omega)]
   have h1:a/b<=a:=Int.ediv_le_self b a0
   have h2:0<=a/b:=Int.ediv_nonneg a0 b0
   exact ab (by omega) (by omega)
 ·refine bi (λh=>?_) (λh=>?_)
  ·simp at h
   simp-implicitDefEqProofs[h,EZ]
  ·simp at h
   simp-implicitDefEqProofs[h,EZ]
   rw[Int.tmod_eq_emod_of_nonneg (by omega)]
 ·refine(kq G _).use ?_
  simp-implicitDefEqProofs[EZ]
 ·refine(kq G _).use ?_
  simp-implicitDefEqProofs[EZ]
end
section
def Byt(l:List Int):Prop:=∀n∈l,0<=n/\n<=255
def rdO(b:List Int)(p:Nat):AO:= .row 2 [[.p (zT b),.p (.int .i64 p)]]
theorem Mo{a b:Int}(ha:0<=a)(ha2:a<4611686018427387904)(hb:0<=b)(hb2:b<4611686018427387904):∃n:Nat,IntKind.i64.wrap ((BitVec.ofInt IntKind.i64.bits a^^^BitVec.ofInt IntKind.i64.bits b).toNat:Int)=n:=by
 refine⟨(BitVec.ofInt IntKind.i64.bits a^^^BitVec.ofInt IntKind.i64.bits b).toNat,?_⟩
 obtain⟨x,rfl⟩:∃x:Nat,a=x:=⟨a.toNat,by omega⟩
 obtain⟨y,rfl⟩:∃y:Nat,b=y:=⟨b.toNat,by omega⟩
 have h1:(BitVec.ofInt 64 (x:Int)).toNat=x:=by simp;omega
 have h2:(BitVec.ofInt 64 (y:Int)).toNat=y:=by simp;omega
 have h3:(BitVec.ofInt 64 (x:Int)^^^BitVec.ofInt 64 (y:Int)).toNat<2^63:=by
  rw[BitVec.toNat_xor,h1,h2]
  exact Nat.xor_lt_two_pow (by omega) (by omega)
 have h4:(BitVec.ofInt IntKind.i64.bits (x:Int)^^^BitVec.ofInt IntKind.i64.bits (y:Int)).toNat<2^63:=h3
 exact ab (by omega) (by omega)
theorem KP{a:Nat}{n:Int}(hn:1<=n):∃k:Nat,((a:Int).tmod n)=k/\(k:Int)<n:=by
 obtain⟨m,rfl⟩:∃m:Nat,n=m:=⟨n.toNat,by omega⟩
 refine⟨a%m,?_,?_⟩
 ·rfl
 ·have:a%m<m:=Nat.mod_lt _ (by omega)
  omega
variable (G:am)
theorem TA(l:List Int):AC Tryz.prog G mB [.p (zT l)] [] λx h=>x= .ret (.ptr 0 2 0 0)/\h=[rdO (l.take 2000) 0]:=by
 refine AC.go CU ?_
 have hbl:zT l= .lst 1 (l.map λn=>[.int .u8 n]):=rfl
 simp-implicitDefEqProofs[sF,hbl]
 refine bi (λh=>?_) (λh=>?_)
 ·simp at h
  have:2000<=l.length:=by omega
  simp-implicitDefEqProofs[this,rdO,zT,List.map_take]
 ·simp at h
  have:l.take 2000=l:=YU (by omega)
  simp-implicitDefEqProofs[rdO,this,zT]
theorem Pw(b:List Int)(hb:Byt b)(hl:b.length<=2000)(p:Nat)(hp:p<=1099511627776)(n:Int):AC Tryz.prog G be [.ptr 0 2 0 0,.p (.int .i64 n)] [rdO b p] λx h=>∃k:Nat,x= .ret (.p (.int .i64 k))/\h=[rdO b (p+1)]/\((k:Int)<n\/k=0):=by
 refine AC.go yV ?_
 have hbl:zT b= .lst 1 (b.map λn=>[.int .u8 n]):=rfl
 have hw:IntKind.i64.wrap ((p:Int)+1)=((p+1:Nat):Int):=w1 (by omega)
 by_cases hn:n<1
 ·simp-implicitDefEqProofs[fK,rdO,hbl,hw,hn]
  exact⟨0,rfl,.inr rfl⟩
 by_cases hbn:b=[]
 ·subst hbn
  have hb0:zT []= .lst 1 []:=rfl
  simp-implicitDefEqProofs[fK,rdO,hb0,hw,hn]
  exact⟨0,rfl,.inr rfl⟩
 have hpos:0<b.length:=List.length_pos_iff.2 hbn
 have hlb:¬b.length=0:=by omega
 have hn0:¬n=0:=by omega
 have hw2:IntKind.i64.wrap (p:Int)=(p:Int):=ab (by omega) (by omega)
 have at_:∀q:Nat,∃c:Int,b[q%b.length]?=some c/\0<=c/\c<=255:=λq=>by
  have h:=Nat.mod_lt q hpos
  exact⟨_,YO h,hb _ (Zf h)⟩
 simp-implicitDefEqProofs[fK,rdO,hbl,hw,hn,hbn,hw2]
 refine bi (λh1=>?_) (λh1=>?_)
 ·simp at h1
  obtain⟨c,e1,e2,e3⟩:=at_ p
  rw[Nat.mod_eq_of_lt h1] at e1
  obtain⟨d,rfl⟩:∃d:Nat,c=d:=⟨c.toNat,by omega⟩
  obtain⟨k,q1,q2⟩:=KP (a:=d) (n:=n) (by omega)
  have hw3:IntKind.i64.wrap (d:Int)=d:=ab (by omega) (by omega)
  simp-implicitDefEqProofs[e1,hw3,hn0,q1]
  exact⟨k,rfl,.inl q2⟩
 ·simp at h1
  obtain⟨c1,e1,e2,e3⟩:=at_ p
  obtain⟨c2,f1,f2,f3⟩:=at_ (p*7+3)
  have hq:p/b.length<=p:=Nat.div_le_self _ _
  have ht1:(p:Int).tmod (b.length:Int)=((p%b.length:Nat):Int):=rfl
  have ht2:((p:Int)*7+3).tmod (b.length:Int)=(((p*7+3)%b.length:Nat):Int):=rfl
  have ht3:(p:Int).tdiv (b.length:Int)=((p/b.length:Nat):Int):=rfl
  generalize p/b.length=q at hq ht3
  generalize p%b.length=r1 at e1 ht1
  generalize (p*7+3)%b.length=r2 at f1 ht2
  obtain⟨x1,rfl⟩:∃d:Nat,c1=d:=⟨c1.toNat,by omega⟩
  obtain⟨x2,rfl⟩:∃d:Nat,c2=d:=⟨c2.toNat,by omega⟩
  obtain⟨m,hx⟩:=Mo (a:=x1*131+x2*1117+p*29+q*53) (b:=(x1*131+x2*1117+p*29+q*53)/64) (by omega) (by omega) (by omega) (by omega)
  obtain⟨k,q1,q2⟩:=KP (a:=m) (n:=n) (by omega)
  have ht4:((x1:Int)*131+x2*1117+p*29+q*53).tdiv 64=((x1:Int)*131+x2*1117+p*29+q*53)/64:=Int.tdiv_eq_ediv_of_nonneg (by omega)
  have w1:IntKind.i64.wrap ((p:Int)*7)=(p:Int)*7:=ab (by omega) (by omega)
  have w2:IntKind.i64.wrap ((p:Int)*7+3)=(p:Int)*7+3:=ab (by omega) (by omega)
  have w3:IntKind.i64.wrap ((p:Int)*29)=(p:Int)*29:=ab (by omega) (by omega)
  have w4:IntKind.i64.wrap (x1:Int)=x1:=ab (by omega) (by omega)
  have w5:IntKind.i64.wrap (x2:Int)=x2:=ab (by omega) (by omega)
  have w6:IntKind.i64.wrap ((x1:Int)*131)=(x1:Int)*131:=ab (by omega) (by omega)
  have w7:IntKind.i64.wrap ((x2:Int)*1117)=(x2:Int)*1117:=ab (by omega) (by omega)
  have w8:IntKind.i64.wrap ((x1:Int)*131+x2*1117)=(x1:Int)*131+x2*1117:=ab (by omega) (by omega)
  have w9:IntKind.i64.wrap ((x1:Int)*131+x2*1117+p*29)=(x1:Int)*131+x2*1117+p*29:=ab (by omega) (by omega)
  have w10:IntKind.i64.wrap (q:Int)=q:=ab (by omega) (by omega)
  have w11:IntKind.i64.wrap ((q:Int)*53)=(q:Int)*53:=ab (by omega) (by omega)
  have w12:IntKind.i64.wrap ((x1:Int)*131+x2*1117+p*29+q*53)=(x1:Int)*131+x2*1117+p*29+q*53:=ab (by omega) (by omega)
  have w13:IntKind.i64.wrap (((x1:Int)*131+x2*1117+p*29+q*53)/64)=((x1:Int)*131+x2*1117+p*29+q*53)/64:=ab (by omega) (by omega)
  simp-implicitDefEqProofs[hlb,ht1,ht2,ht3,e1,f1,w1,w2,w3,w4,w5,w6,w7,w8,w9,w10,w11,w12,w13,ht4,hx,hn0,q1]
  simp-implicitDefEqProofs[] at hx
  rw[hx]
  exact⟨k,q1,.inl q2⟩
theorem bh(b:List Int)(p n:Nat):okO n (rdO b p):=by simp[okO,rdO]
theorem aW(b:List Int)(hb:Byt b)(hl:b.length<=2000)(p:Nat)(hp:p<=1099511627776)(n:Int)(rest:List AO):AC Tryz.prog G be [.ptr 0 2 0 0,.p (.int .i64 n)] (rdO b p::rest) λx h=>∃k:Nat,x= .ret (.p (.int .i64 k))/\h=rdO b (p+1)::rest/\((k:Int)<n\/k=0):=by
 refine((Pw G b hb hl p hp n).pre rest (by simp[below]) (λo ho=>by rw[YQ.1 ho];exact bh _ _ _) ?_).mono ?_
 ·rintro x h ⟨k,_,rfl,_⟩;rfl
 ·rintro x h ⟨h1,⟨k,e1,rfl,e3⟩,rfl⟩
  exact⟨k,e1,rfl,e3⟩
theorem SL{f:FuncId}{args:List AV}{b:List Int}{p:Nat}{o:AO}{R:AV->Nat->Prop}(H:AC Tryz.prog G f (.ptr 0 2 0 0::args) [rdO b p,o] λx h=>∃v q,x= .ret (.p v)/\h=[rdO b q,o]/\R (.p v) q)(ho:okO 0 o)
 {h:List AO}{k:Nat}{args':List AV}(hk:k≠0)(h0:h[0]?=some (rdO b p))(h1:h[k]?=some o)(hT:TW [0,k] args' args):AC Tryz.prog G f (.ptr 0 2 0 0::args') h λx h'=>∃v q,x= .ret (.p v)/\h'=h.set 0 (rdO b q)/\R (.p v) q:=by
 have nd:[0,k].Nodup:=by simp;omega
 refine(H.frame (args:= .ptr 0 2 0 0::args') [0,k] nd (by rw[Bw];exact⟨.inr ⟨by simp[below],rfl⟩,hT⟩) (cr h0 (bh _ _ _) (cr h1 ho cm))).mono ?_
 rintro x h' ⟨x0,h2,⟨v,q,rfl,rfl,r⟩,_,rfl,rfl⟩
 refine⟨v,q,by simp[BG,ren],?_,r⟩
 have e1:∀σ,gf σ (rdO b q)=rdO b q:=λσ=>sk (n:=0) (λi hi=>by omega) _ (bh _ _ _)
 have e2:∀σ,gf σ o=o:=λσ=>sk (n:=0) (λi hi=>by omega) _ ho
 simp only[List.take,Ze,List.length_nil,Zn,List.map_nil,e1,e2,mrg,List.drop,ZB]
 refine List.ext_getElem? λi=>?_
 rw[List.getElem?_set]
 split
 ·rename_i e;subst e
  rw[YM (Ne.symm hk)]
  split
  ·exact h1.symm
  ·rename_i hl
   have:=(YL.1 h1).1
   simp at hl;omega
 ·rfl
theorem Ui(b:List Int)(hb:Byt b)(hl:b.length<=2000)(p:Nat)(hp:p<=1099511627776)(l:List Int)(hne:l≠[])(hll:l.length<=1099511627776):AC Tryz.prog G dh [.ptr 0 2 0 0,.sl 1 1 0 l.length] [rdO b p,iN l] λx h=>∃v q,x= .ret (.p v)/\h=[rdO b q,iN l]/\(∃n,v= .int .i64 n/\n∈l)/\q=p+1:=by
 refine AC.go pf ?_
 have hpos:0<l.length:=List.length_pos_iff.2 hne
 simp-implicitDefEqProofs[kj]
 refine(aW G b hb hl p hp l.length [iN l]).mono ?_
 rintro r h ⟨k,rfl,rfl,hk⟩
 have hkl:k<l.length:=by omega
 have hg:=YO hkl
 have hn:iN l= .row 1 (l.map λn=>[.p (.int .i64 n)]):=rfl
 simp-implicitDefEqProofs[aa,hkl,hn,hg]
theorem lW{b:List Int}(hb:Byt b)(hl:b.length<=2000){p:Nat}(hp:p<=1099511627776)(l:List Int){h:List AO}{k:Nat}(hne:l≠[])(hll:l.length<=1099511627776)(hk:k≠0)(h0:h[0]?=some (rdO b p))(h1:h[k]?=some (iN l)):
 AC Tryz.prog G dh [.ptr 0 2 0 0,.sl k 1 0 l.length] h λx h'=>∃n,n∈l/\x= .ret (.p (.int .i64 n))/\h'=h.set 0 (rdO b (p+1)):=by
 refine(SL G (args:=[.sl 1 1 0 l.length]) (R:=λv q=>(∃n,v= .p (.int .i64 n)/\n∈l)/\q=p+1) ((Ui G b hb hl p hp l hne hll).mono ?_) (by simp[okO,iN]) (args':=[.sl k 1 0 l.length]) hk h0 h1 (by simp[below,ren])).mono ?_
 ·rintro x h ⟨v,q,e1,e2,⟨n,rfl,e3⟩,e4⟩
  exact⟨_,q,e1,e2,⟨n,rfl,e3⟩,e4⟩
 ·rintro x h' ⟨v,q,e1,e2,⟨n,e3,e4⟩,e5⟩
  cases e3;subst e5
  exact⟨n,e4,e1,e2⟩
theorem Wp(b:List Int)(hb:Byt b)(hl:b.length<=2000)(p:Nat)(hp:p<=1099511627776)(l:List (List UInt8))(hne:l≠[])(hll:l.length<=1099511627776):AC Tryz.prog G dD [.ptr 0 2 0 0,.sl 1 1 0 l.length] [rdO b p,dt l] λx h=>∃v q,x= .ret (.p v)/\h=[rdO b q,dt l]/\(∃s,v= .str s/\s∈l)/\q=p+1:=by
 refine AC.go rb ?_
 have hpos:0<l.length:=List.length_pos_iff.2 hne
 simp-implicitDefEqProofs[lE]
 refine(aW G b hb hl p hp l.length [dt l]).mono ?_
 rintro r h ⟨k,rfl,rfl,hk⟩
 have hkl:k<l.length:=by omega
 have hg:=YO hkl
 have hn:dt l= .row 1 (l.map λn=>[.p (.str n)]):=rfl
 simp-implicitDefEqProofs[aa,hkl,hn,hg]
theorem Is{b:List Int}(hb:Byt b)(hl:b.length<=2000){p:Nat}(hp:p<=1099511627776)(l:List (List UInt8)){h:List AO}{k:Nat}(hne:l≠[])(hll:l.length<=1099511627776)(hk:k≠0)(h0:h[0]?=some (rdO b p))(h1:h[k]?=some (dt l)):
 AC Tryz.prog G dD [.ptr 0 2 0 0,.sl k 1 0 l.length] h λx h'=>∃s,s∈l/\x= .ret (.p (.str s))/\h'=h.set 0 (rdO b (p+1)):=by
 refine(SL G (args:=[.sl 1 1 0 l.length]) (R:=λv q=>(∃n,v= .p (.str n)/\n∈l)/\q=p+1) ((Wp G b hb hl p hp l hne hll).mono ?_) (by simp[okO,dt]) (args':=[.sl k 1 0 l.length]) hk h0 h1 (by simp[below,ren])).mono ?_
 ·rintro x h ⟨v,q,e1,e2,⟨n,rfl,e3⟩,e4⟩
  exact⟨_,q,e1,e2,⟨n,rfl,e3⟩,e4⟩
 ·rintro x h' ⟨v,q,e1,e2,⟨n,e3,e4⟩,e5⟩
  cases e3;subst e5
  exact⟨n,e4,e1,e2⟩
theorem Ku{b:List Int}(hb:Byt b)(hl:b.length<=2000){p:Nat}(hp:p<=1099511627776)(l:List (List UInt8))(hne:l≠[])(hll:l.length<=1099511627776)(rest:List AO):AC Tryz.prog G dD [.ptr 0 2 0 0,.p (al l)] (rdO b p::rest) λx h=>∃s,s∈l/\x= .ret (.p (.str s))/\h=rdO b (p+1)::rest:=by
 have key:AC Tryz.prog G dD [.ptr 0 2 0 0,.p (al l)] [rdO b p] λx h=>∃s,s∈l/\x= .ret (.p (.str s))/\h=[rdO b (p+1)]:=by
  refine AC.go rb ?_
  have hpos:0<l.length:=List.length_pos_iff.2 hne
  have hsl:al l= .lst 1 (l.map λw=>[.str w]):=rfl
  simp-implicitDefEqProofs[lE,hsl]
  refine(aW G b hb hl p hp l.length []).mono ?_
  rintro r h ⟨k,rfl,rfl,hk⟩
  have hkl:k<l.length:=by omega
  have hg:=YO hkl
  simp-implicitDefEqProofs[aa,hg]
 refine(key.pre rest (by simp[below]) (λo ho=>by rw[YQ.1 ho];exact bh _ _ _) ?_).mono ?_
 ·rintro x h ⟨k,_,_,rfl⟩;rfl
 ·rintro x h ⟨h1,⟨s,e1,e2,rfl⟩,rfl⟩
  exact⟨s,e1,e2,rfl⟩
def DP(b:List Int)(Q:AV->Nat->Prop)(x:ARes)(h:List AO):Prop:=∃v rest q v1,x= .ret v/\h=rdO b q::rest/\Fzs (.dead::rest) 1 [v] [v1]/\Q v1 q
theorem nr{f:FuncId}{args:List AV}{b:List Int}{p:Nat}{Q:AV->Nat->Prop}(H:AC Tryz.prog G f args [rdO b p] (DP b Q)):AC Tryz.prog G f args [rdO b p] λx h=>∃v q,x= .ret v/\h=[rdO b q]/\Q v q:=by
 refine H.frz 1 (YY _) (λt v h ⟨_,_,_,_,e,_⟩=>by cases e) ?_
 rintro v h ⟨v0,rest,q,v1,e,rfl,hf,r⟩
 cases e
 exact⟨v1,[rdO b q],by simp,rfl,hf,.same (bh _ _ _) (.nil _),v1,q,rfl,rfl,r⟩
theorem lL{f:FuncId}{args:List AV}{b:List Int}{p:Nat}{Q:AV->Nat->Prop}(H:AC Tryz.prog G f args [rdO b p] λx h=>∃v q,x= .ret v/\h=[rdO b q]/\Q v q)(rest:List AO)(ha:ah 1 args):AC Tryz.prog G f args (rdO b p::rest) λx h=>∃v q,x= .ret v/\h=rdO b q::rest/\Q v q:=by
 refine(H.pre rest ha (λo ho=>by rw[YQ.1 ho];exact bh _ _ _) ?_).mono ?_
 ·rintro x h ⟨k,_,_,rfl,_⟩;rfl
 ·rintro x h ⟨h1,⟨s,q,e1,rfl,e2⟩,rfl⟩
  exact⟨s,q,e1,rfl,e2⟩
end
section
def zC(l:List (List UInt8)):Prop:=l.length<=1000000/\∀s∈l,s.length<=8
theorem fq{h:List AO}{id:Nat}{l:List Ex}(e:h[id]?=some (.row 4 (l.map λx=>x.cs.map .p))):View h (.sl id 4 0 l.length) (exL l):=by
 have:=la (h:=h) (id:=id) (sz:=4) (n:=l.length) (ls:=l.map Ex.cs) (by rw[e];simp) (by simp) (λx hx=>by obtain⟨b,_,rfl⟩:=Zh.1 hx;exact b.cs_len)
 exact this
variable (G:am)
def ExQ(p n m:Nat)(v:AV)(q:Nat):Prop:=(∃e:Ex,v= .agg (e.cs.map .p)/\e.sz<=n)/\p<=q/\q<=p+m
theorem CM{b:List Int}(hb:Byt b)(hl:b.length<=2000){p:Nat}(hp:p<=1000000000000)(names:List (List UInt8))(hn:zC names):AC Tryz.prog G dN [.ptr 0 2 0 0,.p (al names)] [rdO b p] λx h=>∃v q,x= .ret v/\h=[rdO b q]/\ExQ p 9 2 v q:=by
 refine nr G (AC.go tX ?_)
 have hsl:al names= .lst 1 (names.map λw=>[.str w]):=rfl
 have fin1:∀(o n:Int) (s:List UInt8) (q:Nat) (rest:List AO),p<=q->q<=p+2->s.length<=8->DP b (ExQ p 9 2) (.ret (.agg [.p (.int .i64 o),.p (.int .i64 n),.p (.str s),.nils])) (rdO b q::rest):=λo n s q rest h1 h2 hs=>
  ⟨_,rest,q,.agg ((Ex.mk o n s []).cs.map .p),rfl,rfl,.agg (.keep (by simp) (.keep (by simp) (.keep (by simp) (.one (View.nils 4) .nil)))) .nil,⟨_,rfl,by simp[Ex.sz,aY];omega⟩,h1,h2⟩
 have num:∀(q:Nat) (h:List AO),q<=1000000000001->h[0]?=some (rdO b q)->h[2]?=some (iN [0,1,2,3,5,7,15,16,100,255])->_:=λq h hq h0 h1=>lW G hb hl (p:=q) (by omega) [0,1,2,3,5,7,15,16,100,255] (h:=h) (k:=2) (by simp) (by simp) (by omega) h0 h1
 by_cases hne:names=[]
 ·subst hne
  have hs0:al []= .lst 1 []:=rfl
  simp-implicitDefEqProofs[gU,hs0]
  refine(num p _ (by omega) rfl rfl).mono ?_
  rintro r h ⟨n,_,rfl,rfl⟩
  simp-implicitDefEqProofs[aa]
  exact fin1 _ _ _ _ _ (by omega) (by omega) (by simp)
 ·have hlen:¬names.length=0:=λh=>hne (ZE h)
  simp-implicitDefEqProofs[gU,hsl,hne]
  refine(aW G b hb hl p (by omega) 3 _).mono ?_
  rintro r h ⟨k,rfl,rfl,_⟩
  simp-implicitDefEqProofs[aa]
  refine bi (λhc=>?_) (λhc=>?_)
  ·simp-implicitDefEqProofs[]
   refine(num (p+1) _ (by omega) rfl rfl).mono ?_
   rintro r h ⟨n,_,rfl,rfl⟩
   simp-implicitDefEqProofs[aa]
   exact fin1 _ _ _ _ _ (by omega) (by omega) (by simp)
  ·simp-implicitDefEqProofs[]
   rw[←hsl]
   refine(Ku G hb hl (by omega) names hne (by have:=hn.1;omega) _).mono ?_
   rintro r h ⟨s,hs,rfl,rfl⟩
   have:=hn.2 s hs
   simp-implicitDefEqProofs[aa]
   exact fin1 _ _ _ _ _ (by omega) (by omega) this
theorem CT{b:List Int}(hb:Byt b)(hl:b.length<=2000)(names:List (List UInt8))(hn:zC names):∀(d:Nat),d<=20->∀{p:Nat},p+6*3^d<=1000000000000->AC Tryz.prog G bf [.ptr 0 2 0 0,.p (al names),.p (.int .i64 d)] [rdO b p] λx h=>∃v q,x= .ret v/\h=[rdO b q]/\ExQ p (10*3^d) (6*3^d) v q:=by
 intro d
 induction d with
 |zero=>
  intro _ p hp
  refine nr G (AC.go od ?_)
  simp-implicitDefEqProofs[fv]
  refine(lL G (CM G hb hl (by omega) names hn) _ (by simp[below])).mono ?_
  rintro r h ⟨v,q,rfl,rfl,⟨e,rfl,he⟩,h1,h2⟩
  have hec:=e.cs_eq
  simp-implicitDefEqProofs[aa,hec]
  exact⟨_,_,q,.agg (e.cs.map .p),rfl,rfl,.agg (by rw[hec];exact js (by simp)) .nil,⟨e,rfl,by omega⟩,h1,by omega⟩
 |succ d ih=>
  intro hd p hp
  have hpow:3^(d+1)=3*3^d:=by rw[Nat.pow_succ];omega
  have h1p:1<=3^d:=Nat.one_le_pow _ _ (by omega)
  have ih:=λ{p:Nat} (hp:p+6*3^d<=1000000000000)=>ih (by omega) (p:=p) hp
  rw[hpow] at hp⊢
  generalize 3^d=t at*
  have hw:IntKind.i64.wrap (d:Int)=(d:Int):=ab (by omega) (by omega)
  have leaf:∀(q:Nat) (rest:List AO),p<=q->q<=p+3->AC Tryz.prog G dN [.ptr 0 2 0 0,.p (al names)] (rdO b q::rest) λx h=>∃v q',x= .ret v/\h=rdO b q'::rest/\ExQ q 9 2 v q':=λq rest _ _=>lL G (CM G hb hl (by omega) names hn) rest (by simp[below])
  have sub:∀(q:Nat) (rest:List AO),p<=q->q<=p+6+6*t->AC Tryz.prog G bf [.ptr 0 2 0 0,.p (al names),.p (.int .i64 d)] (rdO b q::rest) λx h=>∃v q',x= .ret v/\h=rdO b q'::rest/\ExQ q (10*t) (6*t) v q':=λq rest _ _=>lL G (ih (by omega)) rest (by simp[below])
  refine nr G (AC.go od ?_)
  have leafCase:∀(e:Ex) (q:Nat) (rest:List AO),e.sz<=9->p<=q->q<=p+5->DP b (ExQ p (10*(3*t)) (6*(3*t))) (.ret (.agg (e.cs.map .p))) (rdO b q::rest):=λe q rest h1 h2 h3=>
   ⟨_,_,q,.agg (e.cs.map .p),rfl,rfl,.agg (by rw[e.cs_eq];exact js (by simp)) .nil,⟨e,rfl,by omega⟩,h2,by omega⟩
  have bin:∀(o:Int) (e1 e2:Ex) (q:Nat) (rest:List AO) (k:Nat),(rdO b q::rest)[k+1]?=some (.row 4 [e1.cs.map .p,e2.cs.map .p])->e1.sz<=10*t->e2.sz<=10*t->p<=q->q<=p+6*(3*t)->DP b (ExQ p (10*(3*t)) (6*(3*t))) (.ret (.agg [.p (.int .i64 o),.p (.int .i64 0),.p (.str []),.sl (k+1) 4 0 2])) (rdO b q::rest):=λo e1 e2 q rest k hk h1 h2 h3 h4=>
   ⟨_,rest,q,.agg ((Ex.mk o 0 [] [e1,e2]).cs.map .p),rfl,rfl,.agg (.keep (by simp) (.keep (by simp) (.keep (by simp) (.one (fq (l:=[e1,e2]) (by simpa using hk)) .nil)))) .nil,⟨_,rfl,by simp[Ex.sz,aY];omega⟩,h3,h4⟩
  have una:∀(o:Int) (e1:Ex) (q:Nat) (rest:List AO) (k:Nat),(rdO b q::rest)[k+1]?=some (.row 4 [e1.cs.map .p])->e1.sz<=10*t->p<=q->q<=p+6*(3*t)->DP b (ExQ p (10*(3*t)) (6*(3*t))) (.ret (.agg [.p (.int .i64 o),.p (.int .i64 0),.p (.str []),.sl (k+1) 4 0 1])) (rdO b q::rest):=λo e1 q rest k hk h1 h3 h4=>
   ⟨_,rest,q,.agg ((Ex.mk o 0 [] [e1]).cs.map .p),rfl,rfl,.agg (.keep (by simp) (.keep (by simp) (.keep (by simp) (.one (fq (l:=[e1]) (by simpa using hk)) .nil)))) .nil,⟨_,rfl,by simp[Ex.sz,aY];omega⟩,h3,h4⟩
  by_cases hd0:d=0
  ·subst hd0
   simp-implicitDefEqProofs[fv]
   refine(leaf p _ (by omega) (by omega)).mono ?_
   rintro r h ⟨v,q,rfl,rfl,⟨e,rfl,he⟩,h1,h2⟩
   have hec:=e.cs_eq
   simp-implicitDefEqProofs[aa,hec]
   have:=leafCase e q [.row 4 [e.cs.map .p]] he h1 (by omega)
   rw[hec] at this
   exact this
  have hd2:¬(d:Int)+1<2:=by omega
  simp-implicitDefEqProofs[fv,hd2]
  refine(aW G b hb hl p (by omega) 4 _).mono ?_
  rintro r h ⟨k1,rfl,rfl,_⟩
  simp-implicitDefEqProofs[aa]
  refine bi (λhc=>?_) (λhc=>?_)
  ·simp-implicitDefEqProofs[]
   refine(leaf (p+1) _ (by omega) (by omega)).mono ?_
   rintro r h ⟨v,q,rfl,rfl,⟨e,rfl,he⟩,h1,h2⟩
   have hec:=e.cs_eq
   simp-implicitDefEqProofs[aa,hec]
   have:=leafCase e q [.row 4 [e.cs.map .p]] he (by omega) (by omega)
   rw[hec] at this
   exact this
  simp-implicitDefEqProofs[]
  refine(aW G b hb hl (p+1) (by omega) 7 _).mono ?_
  rintro r h ⟨k2,rfl,rfl,_⟩
  simp-implicitDefEqProofs[aa]
  refine bi (λhc=>?_) (λhc=>?_)
  ·simp-implicitDefEqProofs[]
   refine(lW G hb hl (p:=p+2) (by omega) [11,12,11] (k:=2) (by simp) (by simp) (by omega) rfl rfl).mono ?_
   rintro r h ⟨n,_,rfl,rfl⟩
   simp-implicitDefEqProofs[aa,hw]
   refine(sub (p+3) _ (by omega) (by omega)).mono ?_
   rintro r h ⟨v,q,rfl,rfl,⟨e,rfl,he⟩,h1,h2⟩
   have hec:=e.cs_eq
   simp-implicitDefEqProofs[aa,hec]
   exact una n e q _ 2 (by rw[hec];rfl) he (by omega) (by omega)
  ·simp-implicitDefEqProofs[]
   refine(lW G hb hl (p:=p+2) (by omega) [3,3,4,5,6,7,8,9,10] (k:=2) (by simp) (by simp) (by omega) rfl rfl).mono ?_
   rintro r h ⟨n,_,rfl,rfl⟩
   simp-implicitDefEqProofs[aa,hw]
   refine(sub (p+3) _ (by omega) (by omega)).mono ?_
   rintro r h ⟨v,q,rfl,rfl,⟨e,rfl,he⟩,h1,h2⟩
   have hec:=e.cs_eq
   simp-implicitDefEqProofs[aa,hec,hw]
   refine(sub q _ (by omega) (by omega)).mono ?_
   rintro r h ⟨v,q2,rfl,rfl,⟨e2,rfl,he2⟩,h3,h4⟩
   have hec2:=e2.cs_eq
   simp-implicitDefEqProofs[aa,hec2]
   exact bin n e e2 q2 _ 2 (by rw[hec,hec2];rfl) he he2 (by omega) (by omega)
end
section
def cW(fns:List Fd)(vs:List (List UInt8))(next left:Int):List AV:=[.ptr 0 2 0 0,slE 2 3 (aS fns),.p (al vs),.p (.int .i64 next),.p (.int .i64 left)]
def HG(b:List Int)(p:Nat)(fns:List Fd)(vs:List (List UInt8))(next left:Int):List AO:=[rdO b p,.row 5 [cW fns vs next left],bx 3 (aS fns)]
def DG(b:List Int)(fns:List Fd)(Q:AV->Nat->List (List UInt8)->Int->Int->Prop)(x:ARes)(h:List AO):Prop:=
 ∃v rest q vc v1 vs next left,x= .ret v/\h=rdO b q:: .row 5 [[.ptr 0 2 0 0,slE 2 3 (aS fns),vc,.p (.int .i64 next),.p (.int .i64 left)]]::bx 3 (aS fns)::rest/\
  Fzs (.dead:: .dead:: .dead::rest) 3 [vc] [.p (al vs)]/\Fzs (.dead:: .dead:: .dead::rest) 3 [v] [v1]/\Q v1 q vs next left
def PG(b:List Int)(fns:List Fd)(Q:AV->Nat->List (List UInt8)->Int->Int->Prop)(rest:List AO)(x:ARes)(h:List AO):Prop:=
 ∃v q vs next left,x= .ret v/\h=rdO b q:: .row 5 [cW fns vs next left]::bx 3 (aS fns)::rest/\Q v q vs next left
variable (G:am)
theorem nM{f:FuncId}{args:List AV}{b:List Int}{p:Nat}{fns:List Fd}{vs:List (List UInt8)}{next left:Int}{Q:AV->Nat->List (List UInt8)->Int->Int->Prop}(H:AC Tryz.prog G f args (HG b p fns vs next left) (DG b fns Q)):
 AC Tryz.prog G f args (HG b p fns vs next left) (PG b fns Q []):=by
 refine H.frz 3 (by simp[HG]) (λt v h ⟨_,_,_,_,_,_,_,_,e,_⟩=>by cases e) ?_
 rintro v h ⟨v0,rest,q,vc,v1,vs',n',l',e,rfl,hc,hf,r⟩
 cases e
 refine⟨v1,HG b q fns vs' n' l',by simp,rfl,hf,.same (bh _ _ _) (.one ?_ (.same (nT _ _) (.nil _))),v1,q,vs',n',l',rfl,rfl,r⟩
 exact .keep (by simp[below]) (.keep (sV (by omega)) (hc.append (.keep (by simp) (.keep (by simp) .nil))))
theorem OA(b:List Int)(p:Nat)(fns:List Fd)(vs:List (List UInt8))(next left:Int):∀o∈HG b p fns vs next left,okO 3 o:=by
 intro o ho
 simp only[HG,Za,Zj,or_false] at ho
 rcases ho with rfl|rfl|rfl
 ·exact bh _ _ _
 ·intro e he
  rw[YQ.1 he]
  exact⟨by simp[below],sV (by omega),by simp,by simp,by simp,trivial⟩
 ·exact nT _ _
theorem dz{f:FuncId}{args:List AV}{b:List Int}{p:Nat}{fns:List Fd}{vs:List (List UInt8)}{next left:Int}{Q:AV->Nat->List (List UInt8)->Int->Int->Prop}(H:AC Tryz.prog G f args (HG b p fns vs next left) (PG b fns Q []))(rest:List AO)(ha:ah 3 args):
 AC Tryz.prog G f args (rdO b p:: .row 5 [cW fns vs next left]::bx 3 (aS fns)::rest) (PG b fns Q rest):=by
 refine(AC.pre H rest ha (OA _ _ _ _ _ _) ?_).mono ?_
 ·rintro x h ⟨v,q,vs',n',l',_,rfl,_⟩;rfl
 ·rintro x h ⟨h1,⟨v,q,vs',n',l',e1,rfl,e2⟩,rfl⟩
  exact⟨v,q,vs',n',l',e1,rfl,e2⟩
def Ws(p:Nat)(vs:List (List UInt8))(next left:Int)(v:AV)(q:Nat)(vs':List (List UInt8))(next' left':Int):Prop:=(∃s:List UInt8,v= .p (.str s)/\s.length<=8)/\p<=q/\q<=p+2/\vs'=vs/\next'=next+1/\left'=left
theorem Le{b:List Int}(hb:Byt b)(hl:b.length<=2000){p:Nat}(hp:p+2<=1000000000000)(fns:List Fd)(vs:List (List UInt8))(hv:zC vs){next:Int}(hn: -1<=next)(hn2:next<=1000000000000)(left:Int):
 AC Tryz.prog G iz [.ptr 1 5 0 0] (HG b p fns vs next left) (PG b fns (Ws p vs next left) []):=by
 refine nM G (AC.go uS ?_)
 have hw:IntKind.i64.wrap (next+1)=next+1:=ab (by omega) (by omega)
 have hsl:al vs= .lst 1 (vs.map λw=>[.str w]):=rfl
 simp-implicitDefEqProofs[mO,HG,cW,hw]
 refine(aW G b hb hl p (by omega) 9 _).mono ?_
 rintro r h ⟨k,rfl,rfl,_⟩
 have fin:∀(s:List UInt8) (q:Nat),s.length<=8->p<=q->q<=p+2->DG b fns (Ws p vs next left) (.ret (.p (.str s))) [rdO b q,.row 5 [[.ptr 0 2 0 0,slE 2 3 (aS fns),.p (al vs),.p (.int .i64 (next+1)),.p (.int .i64 left)]],bx 3 (aS fns)]:=λs q h1 h2 h3=>
  ⟨_,[],q,_,_,vs,next+1,left,rfl,rfl,.keep (by simp) .nil,.keep (by simp) .nil,⟨s,rfl,h1⟩,h2,h3,rfl,rfl,rfl⟩
 obtain⟨N,hN⟩:∃N:Nat,next+1=N:=⟨(next+1).toNat,by omega⟩
 have hm:N%24<24:=Nat.mod_lt _ (by omega)
 have ht:(N:Int).tmod 24=((N%24:Nat):Int):=rfl
 have hw2:IntKind.i64.wrap (((N%24:Nat):Int)+1)=((N%24+1:Nat):Int):=w1 (by omega)
 rw[hN] at fin⊢
 generalize N%24=m at hm ht hw2
 have hm1:m+1<=24:=by omega
 have h0m:(0:Int)<=(m:Int)+1:=by omega
 by_cases hc:k=0/\vs≠[]
 ·obtain⟨rfl,hne⟩:=hc
  have hpos:0<vs.length:=List.length_pos_iff.2 hne
  simp-implicitDefEqProofs[aa,hsl,hpos]
  rw[←hsl]
  refine(Ku G hb hl (by omega) vs hne (by have:=hv.1;omega) _).mono ?_
  rintro r h ⟨s,hs,rfl,rfl⟩
  simp-implicitDefEqProofs[aa]
  exact fin s _ (hv.2 s hs) (by omega) (by omega)
 ·have hcc:(k=0/\0<vs.length)=False:=by
   simp only[eq_iff_iff,iff_false]
   exact λ⟨a,c⟩=>hc ⟨a,List.length_pos_iff.1 c⟩
  by_cases hk:k=0
  ·have hv0:vs=[]:=by
    by_cases e:vs=[]
    ·exact e
    ·exact absurd ⟨hk,e⟩ hc
   subst hv0
   have hs0:al []= .lst 1 []:=rfl
   simp-implicitDefEqProofs[aa,hs0,hk,ht,hw2,hm1,h0m]
   rw[←hs0]
   refine fin _ (p+1) ?_ (by omega) (by omega)
   simp
   omega
  ·simp-implicitDefEqProofs[aa,hk,ht,hw2,hm1,h0m]
   refine fin _ (p+1) ?_ (by omega) (by omega)
   simp
   omega
def CQ(fns:List Fd):Prop:=fns.length<=1000/\∀f∈fns,f.name.length<=8/\f.params.length<=3
def Wb(p:Nat)(vs:List (List UInt8))(next left:Int)(v:AV)(q:Nat)(vs':List (List UInt8))(next' left':Int):Prop:=(∃e:Ex,v= .agg (e.cs.map .p)/\e.sz<=400)/\p<=q/\q<=p+400/\vs'=vs/\next'=next/\left'=left
theorem Gg{b:List Int}(hb:Byt b)(hl:b.length<=2000){p:Nat}(hp:p<=1000000000000)(l:List Int)(hne:l≠[])(hll:l.length<=1000000000000)(rest:List AO):
 AC Tryz.prog G dh [.ptr 0 2 0 0,.p (bl l)] (rdO b p::rest) λx h=>∃n,n∈l/\x= .ret (.p (.int .i64 n))/\h=rdO b (p+1)::rest:=by
 have key:AC Tryz.prog G dh [.ptr 0 2 0 0,.p (bl l)] [rdO b p] λx h=>∃n,n∈l/\x= .ret (.p (.int .i64 n))/\h=[rdO b (p+1)]:=by
  refine AC.go pf ?_
  have hpos:0<l.length:=List.length_pos_iff.2 hne
  have hnl:bl l= .lst 1 (l.map λn=>[.int .i64 n]):=rfl
  simp-implicitDefEqProofs[kj,hnl]
  refine(aW G b hb hl p (by omega) l.length []).mono ?_
  rintro r h ⟨m,rfl,rfl,hm⟩
  have hml:m<l.length:=by omega
  have hg:=YO hml
  simp-implicitDefEqProofs[aa,hg]
 refine(key.pre rest (by simp[below]) (λo ho=>by rw[YQ.1 ho];exact bh _ _ _) ?_).mono ?_
 ·rintro x h ⟨n,_,_,rfl⟩;rfl
 ·rintro x h ⟨h1,⟨n,e1,e2,rfl⟩,rfl⟩
  exact⟨n,e1,e2,rfl⟩
structure ExS where (es:List Ex) (q:Nat)
theorem oz{b:List Int}(hb:Byt b)(hl:b.length<=2000){p:Nat}(hp:p+1000<=1000000000000)(fns:List Fd)(hf:CQ fns)(vs:List (List UInt8))(hv:zC vs)(next left:Int){d:Nat}(hd:d<=3):
 AC Tryz.prog G jn [.ptr 1 5 0 0,.p (.int .i64 d)] (HG b p fns vs next left) (PG b fns (Wb p vs next left) []):=by
 refine nM G (AC.go vY ?_)
 have hpow:3^d<=27:=by
  have:3^d<=3^3:=Nat.pow_le_pow_right (by omega) hd
  omega
 have sub:∀(k:Nat),k<=3->∀(q:Nat) (rest:List AO),p<=q->q<=p+700->AC Tryz.prog G bf [.ptr 0 2 0 0,.p (al vs),.p (.int .i64 k)] (rdO b q::rest) λx h=>∃v q',x= .ret v/\h=rdO b q'::rest/\ExQ q (10*3^k) (6*3^k) v q':=λk hk q rest _ _=>by
  have:3^k<=3^3:=Nat.pow_le_pow_right (by omega) hk
  exact lL G (CT G hb hl vs hv k (by omega) (by omega)) rest (by simp[below])
 simp-implicitDefEqProofs[nG,HG,cW]
 refine(sub d hd p _ (by omega) (by omega)).mono ?_
 rintro r h ⟨v,q0,rfl,rfl,⟨e0,rfl,he0⟩,hq1,hq2⟩
 have hec:=e0.cs_eq
 simp-implicitDefEqProofs[aa,hec]
 have finE:∀(e:Ex) (q:Nat) (rest:List AO) (v:AV),Fzs (.dead:: .dead:: .dead::rest) 3 [v] [.agg (e.cs.map .p)]->e.sz<=400->p<=q->q<=p+400->DG b fns (Wb p vs next left) (.ret v) (rdO b q:: .row 5 [[.ptr 0 2 0 0,slE 2 3 (aS fns),.p (al vs),.p (.int .i64 next),.p (.int .i64 left)]]::bx 3 (aS fns)::rest):=λe q rest v hz h1 h2 h3=>
  ⟨_,rest,q,_,_,vs,next,left,rfl,rfl,.keep (by simp) .nil,hz,⟨e,rfl,h1⟩,h2,h3,rfl,rfl,rfl⟩
 have fz0:∀rest,Fzs (.dead:: .dead:: .dead::rest) 3 [.agg [.p (.int .i64 e0.op),.p (.int .i64 e0.n),.p (.str e0.name),.p (exL e0.kids)]] [.agg (e0.cs.map .p)]:=λrest=> .agg (by rw[hec];exact js (by simp)) .nil
 by_cases hfe:fns=[]
 ·have h0:aS fns=[]:=by rw[hfe];rfl
  simp-implicitDefEqProofs[h0]
  rw[←h0]
  have:=finE e0 q0 [.row 4 [[.p (.int .i64 e0.op),.p (.int .i64 e0.n),.p (.str e0.name),.p (exL e0.kids)]],.row 4 [[.p (.int .i64 e0.op),.p (.int .i64 e0.n),.p (.str e0.name),.p (exL e0.kids)]]] _ (fz0 _) (by omega) (by omega) (by omega)
  rw[h0] at this⊢
  exact this
 have hfr:¬aS fns=[]:=λh=>hfe (List.map_eq_nil_iff.1 h)
 have hfl:(aS fns).length=fns.length:=by simp[aS]
 have hfp:0<fns.length:=List.length_pos_iff.2 hfe
 simp only[gm hfr,eG hfr,hfl] at finE
 rw[show bx 3 (aS fns)= .row 3 (aS fns) from gm hfr,show slE 2 3 (aS fns)= .sl 2 3 0 (aS fns).length from eG hfr,hfl]
 generalize hR:aS fns=R at*
 simp-implicitDefEqProofs[hfr]
 refine(aW G b hb hl q0 (by omega) 4 _).mono ?_
 rintro r h ⟨k1,rfl,rfl,_⟩
 simp-implicitDefEqProofs[aa]
 refine bi (λhc=>?_) (λhc=>?_)
 ·simp-implicitDefEqProofs[]
  exact finE e0 _ _ _ (fz0 _) (by omega) (by omega) (by omega)
 simp-implicitDefEqProofs[hfl]
 refine(aW G b hb hl (q0+1) (by omega) fns.length _).mono ?_
 rintro r h ⟨k2,rfl,rfl,hk2⟩
 have hk:k2<fns.length:=by omega
 have hg:=YO hk
 have hgr:R[k2]?=some (fns[k2].cs.map .p):=by rw[←hR,aS,Zb,hg];rfl
 have hfo:=hf.2 _ (Zf hk)
 generalize fns[k2]=fd at hg hgr hfo
 have hfc:fd.cs=[.str fd.name,al fd.params,smL fd.body]:=rfl
 have hsp:al fd.params= .lst 1 (fd.params.map λw=>[.str w]):=rfl
 clear hfl hg
 simp-implicitDefEqProofs[aa,hgr,hk,hfc]
 have hexn:∀(es:List Ex) (e:Ex),exR (es++[e])=exR es++[e.cs.map .p]:=λes e=>by simp[exR]
 have hRp:∀x∈R,ah 0 x:=by rw[←hR];exact sN fns
 refine aN (λs:ExS=>aj 99 [(8,.p (.int .i64 s.es.length)),(7,.ptr 6 4 0 0),(6,.ptr 5 3 0 0),(4,.ptr 3 4 0 0),(0,.ptr 1 5 0 0)])
  (λs=>[rdO b s.q,.row 5 [[.ptr 0 2 0 0,.sl 2 3 0 fns.length,.p (al vs),.p (.int .i64 next),.p (.int .i64 left)]],.row 3 R,.row 4 [[.p (.int .i64 0),.p (.int .i64 0),.p (.str []),.nils]],
    .row 4 [[.p (.int .i64 e0.op),.p (.int .i64 e0.n),.p (.str e0.name),.p (exL e0.kids)]],.row 3 [[.p (.str fd.name),.p (al fd.params),.p (smL fd.body)]],.row 4 [[.p (.int .i64 13),.p (.int .i64 0),.p (.str fd.name),slE 7 4 (exR s.es)]],bx 4 (exR s.es)])
  (λs=>s.es.length<=fd.params.length/\aY s.es<=90*s.es.length/\q0<=s.q/\s.q<=q0+2+54*s.es.length) (λs=>fd.params.length-s.es.length) ⟨[],q0+1+1⟩ ⟨by simp,by simp[aY],by simp only;omega,by simp⟩
  (kQ (by simp) (by simp) (by
    intro o h
    simp only[Za,Zj,or_false] at h
    rcases h with rfl|rfl|rfl|rfl|rfl|rfl|rfl
    ·exact bh _ _ _
    ·simp[okO,below]
    ·exact cw (λe he=>hRp e he)
    ·simp[okO,below]
    ·simp[okO,below]
    ·simp[okO,below]
    ·simp[okO,below]) (by simp[below])) ?_
 rintro⟨es,q⟩ ⟨h1,h2,h3,h4⟩
 simp only at h1 h2 h3 h4
 simp-implicitDefEqProofs[hsp]
 refine bi (λhc=>?_) (λhc=>?_)
 ·simp at hc
  have hp3:=hfo.2
  simp-implicitDefEqProofs[]
  refine(sub 2 (by omega) q _ (by omega) (by omega)).mono ?_
  rintro r h ⟨v,q2,rfl,rfl,⟨e,rfl,he⟩,hq3,hq4⟩
  have hec:=e.cs_eq
  simp-implicitDefEqProofs[aa,hec]
  have hxl:(exR es).length=es.length:=by simp[exR]
  refine⟨by rw[hxl];omega,⟨es++[e],q2⟩,⟨by simp;omega,by rw[gd];simp[aY];omega,by simp only;omega,by simp;omega⟩,by simp;omega,?_⟩
  rw[hexn,sP _ (by simp),oQ _ (by simp),hec]
  refine dx [0,1,2,3,4,5,6,8] (by simp) (by decide) (by decide) (cr rfl (bh _ _ _) (da (by simp[below]) (by simp[ren,bn]) (br rfl hRp (br rfl (by simp[below]) (br rfl (by simp[below]) (br rfl (by simp[below]) (da (by simp[below]) (by simp[ren,bn]) (br rfl (λx hx=>by
   rcases YV.1 hx with h|h
   ·exact ey _ x h
   ·rw[YQ.1 h];simp) cm)))))))) ?_
  simp[below,ren,w1 (i:=es.length) (by omega)]
 ·simp at hc
  have hp3:=hfo.2
  have hlen:es.length=fd.params.length:=by omega
  have hxl:(exR es).length=es.length:=by simp[exR]
  have hkids:∀(h:List AO),h[7]?=some (bx 4 (exR es))->View h (slE 7 4 (exR es)) (exL es):=λh hh=>jz hh
  simp-implicitDefEqProofs[]
  refine(aW G b hb hl q (by omega) 2 _).mono ?_
  rintro r h ⟨k3,rfl,rfl,_⟩
  simp-implicitDefEqProofs[aa]
  refine bi (λhc2=>?_) (λhc2=>?_)
  ·simp-implicitDefEqProofs[]
   have hcc:(Ex.mk 13 0 fd.name es).cs=[.int .i64 13,.int .i64 0,.str fd.name,exL es]:=Ex.cs_eq _
   exact finE ⟨13,0,fd.name,es⟩ (q+1) _ _ (.agg (by rw[hcc];exact .keep (by simp) (.keep (by simp) (.keep (by simp) (.one (hkids _ rfl) .nil)))) .nil) (by simp[Ex.sz];omega) (by omega) (by omega)
  ·simp-implicitDefEqProofs[]
   refine(Gg G hb hl (p:=q+1) (by omega) [3,4,8,10] (by simp) (by simp) _).mono ?_
   rintro r h ⟨n,_,rfl,rfl⟩
   simp-implicitDefEqProofs[aa]
   refine(sub 2 (by omega) (q+1+1) _ (by omega) (by omega)).mono ?_
   rintro r h ⟨v,q2,rfl,rfl,⟨e,rfl,he⟩,hq3,hq4⟩
   have hec:=e.cs_eq
   simp-implicitDefEqProofs[aa,hec]
   have hcc:(Ex.mk 13 0 fd.name es).cs=[.int .i64 13,.int .i64 0,.str fd.name,exL es]:=Ex.cs_eq _
   exact finE ⟨n,0,[],[⟨13,0,fd.name,es⟩,e]⟩ q2 _ _ (.agg (.keep (by simp) (.keep (by simp) (.keep (by simp) (.one (vv (p0:=(Ex.mk 13 0 fd.name es).cs) (p1:=e.cs) rfl (Ex.cs_len _) (Ex.cs_len _) (λj q a e1 e2=>by
    rw[hcc] at e1
    match j,e1,e2 with
    |0,e1,e2=>cases e1;cases e2;exact .p _
    |1,e1,e2=>cases e1;cases e2;exact .p _
    |2,e1,e2=>cases e1;cases e2;exact .p _
    |3,e1,e2=>cases e1;cases e2;exact hkids _ rfl
    |j+4,e1,e2=>simp at e1) (λj q a e1 e2=>by
    rw[hec] at e1
    match j,e1,e2 with
    |0,e1,e2=>cases e1;cases e2;exact .p _
    |1,e1,e2=>cases e1;cases e2;exact .p _
    |2,e1,e2=>cases e1;cases e2;exact .p _
    |3,e1,e2=>cases e1;cases e2;exact .p _
    |j+4,e1,e2=>simp at e1)) .nil)))) .nil) (by simp[Ex.sz,aY];omega) (by omega) (by omega)
end
section
variable (G:am)
def XP(p:Nat)(vs:List (List UInt8))(next left:Int)(v:AV)(q:Nat)(vs':List (List UInt8))(next' left':Int):Prop:=(∃e:Ex,v= .agg (e.cs.map .p)/\e.sz<=410)/\p<=q/\q<=p+401/\vs'=vs/\next'=next/\left'=left
theorem Ni{b:List Int}(hb:Byt b)(hl:b.length<=2000){p:Nat}(hp:p+2000<=1000000000000)(fns:List Fd)(hf:CQ fns)(vs:List (List UInt8))(hv:zC vs)(next left:Int):
 AC Tryz.prog G fL [.ptr 1 5 0 0] (HG b p fns vs next left) (PG b fns (XP p vs next left) []):=by
 refine nM G (AC.go vD ?_)
 simp-implicitDefEqProofs[nK,HG,cW]
 refine(dz G (oz G hb hl (p:=p) (by omega) fns hf vs hv next left (d:=2) (by omega)) _ (by simp[below])).mono ?_
 rintro r h ⟨v,q,vs',n',l',rfl,rfl,⟨e,rfl,he⟩,h1,h2,rfl,rfl,rfl⟩
 have hec:=e.cs_eq
 simp-implicitDefEqProofs[aa,cW,hec]
 refine(Gg G hb hl (p:=q) (by omega) [16,16,16,8,17,0] (by simp) (by simp) _).mono ?_
 rintro r h ⟨n,_,rfl,rfl⟩
 simp-implicitDefEqProofs[aa]
 have hn:(Ex.mk 1 n [] []).cs=[.int .i64 1,.int .i64 n,.str [],.lst 4 []]:=Ex.cs_eq _
 refine⟨_,[_,_],q+1,_,.agg ((Ex.mk 7 0 [] [e,⟨1,n,[],[]⟩]).cs.map .p),vs',n',l',rfl,rfl,.keep (by simp) .nil,.agg (.keep (by simp) (.keep (by simp) (.keep (by simp) (.one (vv (p0:=e.cs) (p1:=(Ex.mk 1 n [] []).cs) rfl (Ex.cs_len _) (Ex.cs_len _) (λj q a e1 e2=>?_) (λj q a e1 e2=>?_)) .nil)))) .nil,⟨_,rfl,by simp[Ex.sz,aY];omega⟩,by omega,by omega,rfl,rfl,rfl⟩
 ·rw[hec] at e1
  match j,e1,e2 with
  |0,e1,e2=>cases e1;cases e2;exact .p _
  |1,e1,e2=>cases e1;cases e2;exact .p _
  |2,e1,e2=>cases e1;cases e2;exact .p _
  |3,e1,e2=>cases e1;cases e2;exact .p _
  |j+4,e1,e2=>simp at e1
 ·rw[hn] at e1
  match j,e1,e2 with
  |0,e1,e2=>cases e1;cases e2;exact .p _
  |1,e1,e2=>cases e1;cases e2;exact .p _
  |2,e1,e2=>cases e1;cases e2;exact .p _
  |3,e1,e2=>cases e1;cases e2;exact View.nils 4
  |j+4,e1,e2=>simp at e1
def VU(p:Nat)(e:Ex)(vs:List (List UInt8))(next left:Int)(v:AV)(q:Nat)(vs':List (List UInt8))(next' left':Int):Prop:=
 ∃s:List UInt8,s.length<=8/\v= .agg ((Sm.mk 1 s [e] [] []).cs.map .p)/\p<=q/\q<=p+2/\vs'=vs++[s]/\next'=next+1/\left'=left
theorem SA{b:List Int}(hb:Byt b)(hl:b.length<=2000){p:Nat}(hp:p+2<=1000000000000)(fns:List Fd)(vs:List (List UInt8))(hv:zC vs){next:Int}(hn: -1<=next)(hn2:next<=1000000000000)(left:Int)(e:Ex):
 AC Tryz.prog G eq [.ptr 1 5 0 0,.agg (e.cs.map .p)] (HG b p fns vs next left) (PG b fns (VU p e vs next left) []):=by
 refine nM G (AC.go oV ?_)
 have hec:=e.cs_eq
 simp-implicitDefEqProofs[ko,HG,cW,hec]
 refine(dz G (Le G hb hl hp fns vs hv hn hn2 left) _ (by simp[below])).mono ?_
 rintro r h ⟨v,q,vs',n',l',rfl,rfl,⟨s,rfl,hs⟩,h1,h2,rfl,rfl,rfl⟩
 have hsl:al vs'= .lst 1 (vs'.map λw=>[.str w]):=rfl
 simp-implicitDefEqProofs[aa,cW,hsl]
 have hv1:=hv.1
 have hrow:List.take vs'.length (List.map ((λx=>List.map AV.p x)∘λw=>[PV.str w]) vs')++[[AV.p (PV.str s)]]=(vs'++[s]).map λw=>[AV.p (.str w)]:=by
  rw[YU (by simp)];simp[Function.comp_def]
 have hlen:vs'.length+1=(vs'++[s]).length:=by simp
 refine⟨by omega,by omega,?_⟩
 rw[hrow,hlen]
 have hsm:(Sm.mk 1 s [e] [] []).cs=[.int .i64 1,.str s,exL [e],smL [],smL []]:=Sm.cs_eq _
 refine⟨_,_,q,_,.agg ((Sm.mk 1 s [e] [] []).cs.map .p),vs'++[s],next+1,l',rfl,rfl,.one (iH rfl) .nil,.agg ?_ .nil,⟨s,hs,rfl,h1,h2,rfl,rfl,rfl⟩⟩
 rw[hsm]
 refine .keep (by simp) (.keep (by simp) (.one ?_ (.one (View.nils 5) (.one (View.nils 5) .nil))))
 exact fq (l:=[e]) (by rw[ZR,hec];rfl)
theorem UA{b:List Int}(hb:Byt b)(hl:b.length<=2000){p:Nat}(hp:p+2<=1000000000000)(fns:List Fd)(vs:List (List UInt8))(hv:zC vs){next:Int}(hn: -1<=next)(hn2:next<=1000000000000)(left:Int)(N:Int):
 AC Tryz.prog G eq [.ptr 1 5 0 0,.agg [.p (.int .i64 1),.p (.int .i64 N),.p (.str []),.nils]] (HG b p fns vs next left) (PG b fns (VU p ⟨1,N,[],[]⟩ vs next left) []):=by
 refine nM G (AC.go oV ?_)
 simp-implicitDefEqProofs[ko,HG,cW]
 refine(dz G (Le G hb hl hp fns vs hv hn hn2 left) _ (by simp[below])).mono ?_
 rintro r h ⟨v,q,vs',n',l',rfl,rfl,⟨s,rfl,hs⟩,h1,h2,rfl,rfl,rfl⟩
 have hsl:al vs'= .lst 1 (vs'.map λw=>[.str w]):=rfl
 simp-implicitDefEqProofs[aa,cW,hsl]
 have hv1:=hv.1
 have hrow:List.take vs'.length (List.map ((λx=>List.map AV.p x)∘λw=>[PV.str w]) vs')++[[AV.p (PV.str s)]]=(vs'++[s]).map λw=>[AV.p (.str w)]:=by
  rw[YU (by simp)];simp[Function.comp_def]
 have hlen:vs'.length+1=(vs'++[s]).length:=by simp
 refine⟨by omega,by omega,?_⟩
 rw[hrow,hlen]
 have hsm:(Sm.mk 1 s [⟨1,N,[],[]⟩] [] []).cs=[.int .i64 1,.str s,exL [⟨1,N,[],[]⟩],smL [],smL []]:=Sm.cs_eq _
 refine⟨_,_,q,_,.agg ((Sm.mk 1 s [⟨1,N,[],[]⟩] [] []).cs.map .p),vs'++[s],next+1,l',rfl,rfl,.one (iH rfl) .nil,.agg ?_ .nil,⟨s,hs,rfl,h1,h2,rfl,rfl,rfl⟩⟩
 rw[hsm]
 refine .keep (by simp) (.keep (by simp) (.one ?_ (.one (View.nils 5) (.one (View.nils 5) .nil))))
 refine View.sl _ _ _ _ [(Ex.mk 1 N [] []).cs] rfl (by simp) (by simp) λi j e q e' a a1 a2 a3 a4=>?_
 rw[Zz] at a3
 match i,a1,a3 with
 |0,a1,a3=>
  cases a1;cases a3
  have hn:(Ex.mk 1 N [] []).cs=[.int .i64 1,.int .i64 N,.str [],.lst 4 []]:=Ex.cs_eq _
  rw[hn] at a2
  match j,a2,a4 with
  |0,e1,e2=>cases e1;cases e2;exact .p _
  |1,e1,e2=>cases e1;cases e2;exact .p _
  |2,e1,e2=>cases e1;cases e2;exact .p _
  |3,e1,e2=>cases e1;cases e2;exact View.nils 4
  |j+4,e1,e2=>simp at e1
 |i+1,a1,a3=>simp at a1
end
section
def Pd(d:Nat):Nat:=5000*20^d
structure Bd (n:Nat) (p:Nat) (vs:List (List UInt8)) (next left:Int):Prop where
 p:p+n<=100000000000
 v:vs.length+n/50<=900000
 w:∀s∈vs,s.length<=8
 n0: -1<=next
 n1:next+n<=100000000000
 l0: -100000000000<=left-n
 l1:left<=100000000000
theorem Bd.shrt{n p:Nat}{vs:List (List UInt8)}{next left:Int}(h:Bd n p vs next left):zC vs:=⟨by have:=h.v;omega,h.w⟩
def Mv(n p q:Nat)(next next' left left':Int):Prop:=p<=q/\q<=p+n/\next<=next'/\next'<=next+n/\left-n<=left'/\left'<=left
def QO(b:List Int)(fns:List Fd)(vs:List (List UInt8))(p n:Nat)(next left:Int)(rest:List AO)(x:ARes)(h:List AO):Prop:=
 ∃(out:List Sm) (q:Nat) (next' left':Int),x= .ret (.sl (3+rest.length) 5 0 out.length)/\h=rdO b q:: .row 5 [cW fns vs next' left']::bx 3 (aS fns)::rest++[.row 5 (smR out)]/\ay out<=n/\out.length<=100/\Mv n p q next next' left left'
def LN(G:am)(b:List Int)(fns:List Fd)(d:Nat):Prop:=∀{p:Nat} {vs:List (List UInt8)} {next left:Int},Bd (Pd d) p vs next left->AC Tryz.prog G bm [.ptr 1 5 0 0,.p (.int .i64 d)] (HG b p fns vs next left) (QO b fns vs p (Pd d) next left [])
variable (G:am)
theorem vo{b:List Int}{fns:List Fd}{d p:Nat}{vs:List (List UInt8)}{next left:Int}(H:AC Tryz.prog G bm [.ptr 1 5 0 0,.p (.int .i64 d)] (HG b p fns vs next left) (QO b fns vs p (Pd d) next left []))(rest:List AO):
 AC Tryz.prog G bm [.ptr 1 5 0 0,.p (.int .i64 d)] (rdO b p:: .row 5 [cW fns vs next left]::bx 3 (aS fns)::rest) (QO b fns vs p (Pd d) next left rest):=by
 have H2:AC Tryz.prog G bm [.ptr 1 5 0 0,.p (.int .i64 d)] (HG b p fns vs next left) λx h'=>∃h1 es,h'=h1++[.row 5 es]/\h1.length=(HG b p fns vs next left).length/\x= .ret (.sl (HG b p fns vs next left).length 5 0 es.length)/\(∀e∈es,ah 0 e)/\
  (∃(out:List Sm) (q:Nat) (next' left':Int),es=smR out/\h1=HG b q fns vs next' left'/\ay out<=Pd d/\out.length<=100/\Mv (Pd d) p q next next' left left'):=by
  refine H.mono ?_
  rintro x h ⟨out,q,n',l',rfl,rfl,h1,h2,h3⟩
  exact⟨HG b q fns vs n' l',smR out,rfl,rfl,by simp[HG,gZ],ep out,out,q,n',l',rfl,rfl,h1,h2,h3⟩
 refine(AC.pre1 (R:=λh1 es=>∃(out:List Sm) (q:Nat) (next' left':Int),es=smR out/\h1=HG b q fns vs next' left'/\ay out<=Pd d/\out.length<=100/\Mv (Pd d) p q next next' left left') H2 rest (by simp[below,HG]) (OA _ _ _ _ _ _) ?_).mono ?_
 ·rintro h1 es ⟨out,q,n',l',rfl,rfl,_⟩
  exact OA _ _ _ _ _ _
 ·rintro x h ⟨h1,es,rfl,_,rfl,_,out,q,n',l',rfl,rfl,r⟩
  exact⟨out,q,n',l',by simp[HG,gZ],rfl,r⟩
theorem za:AK.whole jd=FK.ak jI:=rfl
def Yc(n p:Nat)(vs:List (List UInt8))(next left:Int)(v:AV)(q:Nat)(vs':List (List UInt8))(next' left':Int):Prop:=
 ∃(out:List Sm) (s:List UInt8),v= .p (smL out)/\ay out<=n/\1<=out.length/\out.length<=2/\s.length<=8/\vs'=vs++[s]/\Mv n p q next next' left left'
theorem ML{b:List Int}(hb:Byt b)(hl:b.length<=2000)(fns:List Fd){d:Nat}(hd:d<=10)(hblk:LN G b fns d){p:Nat}{vs:List (List UInt8)}{next left:Int}(hB:Bd (Pd d+60) p vs next left):
 AC Tryz.prog G iX [.ptr 1 5 0 0,.p (.int .i64 ((d:Int)+1))] (HG b p fns vs next left) (PG b fns (Yc (Pd d+60) p vs next left) []):=by
 have hp:=hB.p
 have hv:=hB.v
 have hn0:=hB.n0
 have hn1:=hB.n1
 have hl0:=hB.l0
 have hl1:=hB.l1
 refine nM G (AC.goK vh za ?_)
 simp-implicitDefEqProofs[jd,jI,HG,cW]
 refine(lW G hb hl (p:=p) (by omega) [2,3,1,0,5] (k:=3) (by simp) (by simp) (by omega) rfl rfl).mono ?_
 rintro r h ⟨N,hN,rfl,rfl⟩
 have hN5:0<=N/\N<=5:=by simp at hN;omega
 simp-implicitDefEqProofs[aa]
 refine(dz G (UA G hb hl (p:=p+1) (by omega) fns vs hB.shrt hn0 (by omega) left N) _ (by simp[below])).mono ?_
 rintro r h ⟨v,q,vs',n',l',rfl,rfl,s,hs,rfl,h1,h2,rfl,rfl,rfl⟩
 have hsm:(Sm.mk 1 s [⟨1,N,[],[]⟩] [] []).cs=[.int .i64 1,.str s,exL [⟨1,N,[],[]⟩],smL [],smL []]:=Sm.cs_eq _
 have hwd:IntKind.i64.wrap ((d:Int)+1-1)=d:=by rw[ab (by omega) (by omega)];omega
 have hw2:IntKind.i64.wrap (d:Int)=d:=ab (by omega) (by omega)
 simp-implicitDefEqProofs[aa,cW,hsm,hw2]
 have hB2:Bd (Pd d) q (vs++[s]) (next+1) l':=⟨by omega,by simp;omega,λw hw=>by
  rcases YV.1 hw with h|h
  ·exact hB.w w h
  ·rw[YQ.1 h];exact hs,by omega,by omega,by omega,by omega⟩
 refine(vo G (hblk hB2) _).mono ?_
 rintro r h ⟨out,q2,n2,l2,rfl,rfl,z1,z2,m1,m2,m3,m4,m5,m6⟩
 have hwl:IntKind.i64.wrap (l2-2)=l2-2:=ab (by omega) (by omega)
 simp-implicitDefEqProofs[aa,cW,hwl]
 have hHb:∀(l:Int),okO 7 (.row 5 [[.ptr 0 2 0 0,slE 2 3 (aS fns),.p (al (vs++[s])),.p (.int .i64 n2),.p (.int .i64 l)]]):=λl e he=>by
  rw[YQ.1 he];exact⟨by simp[below],sV (by omega),by simp,by simp,by simp,trivial⟩
 refine nk (aj 50 [(0,.ptr 1 5 0 0),(5,.ptr 3 5 0 0),(6,.ptr 4 4 0 0),(7,.sl 5 5 0 out.length),(8,.ptr 6 5 0 0)])
  [rdO b q2,.row 5 [[.ptr 0 2 0 0,slE 2 3 (aS fns),.p (al (vs++[s])),.p (.int .i64 n2),.p (.int .i64 (l2-2))]],bx 3 (aS fns),
   .row 5 [[.p (.int .i64 1),.p (.str s),.p (exL [Ex.mk 1 N [] []]),.p (smL []),.p (smL [])]],.row 4 [[.p (.int .i64 2),.p (.int .i64 0),.p (.str s),.p (exL [])]],.row 5 (smR out),
   .row 5 [[.p (.int .i64 2),.p (.str s),.p (exL [Ex.mk 4 0 [] [⟨2,0,s,[]⟩,⟨1,1,[],[]⟩]]),.p (smL []),.p (smL [])]]] ?_ ?_
 ·simp-implicitDefEqProofs[hwl]
  refine Wk.trans (dx (l1:=[(0,.ptr 1 5 0 0),(5,.ptr 3 5 0 0),(6,.ptr 4 4 0 0),(7,.sl 5 5 0 out.length),(8,.ptr 6 5 0 0)])
   (h1:=[rdO b q2,.row 5 [[.ptr 0 2 0 0,slE 2 3 (aS fns),.p (al (vs++[s])),.p (.int .i64 n2),.p (.int .i64 (l2-2))]],bx 3 (aS fns),
   .row 5 [[.p (.int .i64 1),.p (.str s),.p (exL [Ex.mk 1 N [] []]),.p (smL []),.p (smL [])]],.row 4 [[.p (.int .i64 2),.p (.int .i64 0),.p (.str s),.nils]],.row 5 (smR out),
   .row 5 [[.p (.int .i64 2),.p (.str s),.sl 8 4 0 1,.nils,.nils]],.row 4 [[.p (.int .i64 2),.p (.int .i64 0),.p (.str s),.nils],[.p (.int .i64 1),.p (.int .i64 1),.p (.str []),.nils]],.row 4 [[.p (.int .i64 4),.p (.int .i64 0),.p (.str []),.sl 7 4 0 2]]])
   [0,1,2,4,5,6,9,7,8] (by simp) (by decide) (by decide) (cr rfl (bh _ _ _) (da (by simp[below]) (by simp[ren,bn]) (cr rfl (nT _ _) (br rfl (by simp[below]) (br rfl (by simp[below]) (br rfl (ep out) (da (by simp[below]) (by simp[ren,bn]) (br rfl (by simp[below]) (da (by simp[below]) (by simp[ren,bn]) cm))))))))) (by simp[below,ren]))
   (pE 7 (by omega) (by simp) rfl (.same (bh _ _ _) (.same (hHb _) (.same (nT _ _) (.same (by simp[okO,below]) (.one (.keep (by simp) (.keep (by simp) (.keep (by simp) (.one (View.nils 4) .nil)))) (.same (cw (ep out)) (.one (.keep (by simp) (.keep (by simp) (.one ?_ (.one (View.nils 5) (.one (View.nils 5) .nil))))) (.nil _)))))))) ?_)
  ·exact bH (p0:=(Ex.mk 4 0 [] [⟨2,0,s,[]⟩,⟨1,1,[],[]⟩]).cs) rfl (Ex.cs_len _) (jJ (vv (p0:=(Ex.mk 2 0 s []).cs) (p1:=(Ex.mk 1 1 [] []).cs) rfl (Ex.cs_len _) (Ex.cs_len _) (jJ (View.nils 4)) (jJ (View.nils 4))))
  ·exact⟨.keep (by simp[below]) .nil,.keep (by simp[below]) .nil,.keep (by simp[below]) .nil,.keep (by simp[below]) .nil,.keep (by simp[below]) .nil,trivial⟩
 ·simp-implicitDefEqProofs[]
  have hless:(Sm.mk 2 s [Ex.mk 4 0 [] [⟨2,0,s,[]⟩,⟨1,1,[],[]⟩]] [] []).cs=[.int .i64 2,.str s,exL [Ex.mk 4 0 [] [⟨2,0,s,[]⟩,⟨1,1,[],[]⟩]],smL [],smL []]:=Sm.cs_eq _
  have hrow:List.take out.length (smR out)++[[AV.p (.int .i64 2),.p (.str s),.p (exL [Ex.mk 4 0 [] [⟨2,0,s,[]⟩,⟨1,1,[],[]⟩]]),.p (smL []),.p (smL [])]]=smR (out++[Sm.mk 2 s [Ex.mk 4 0 [] [⟨2,0,s,[]⟩,⟨1,1,[],[]⟩]] [] []]):=by
   rw[YU (by rw[gZ];exact YY _),Gp];exact congrArg (smR out++ ·) (by rw[smR,ZR,hless];rfl)
  have hlen:out.length+1=(out++[Sm.mk 2 s [Ex.mk 4 0 [] [⟨2,0,s,[]⟩,⟨1,1,[],[]⟩]] [] []]).length:=by simp
  refine⟨⟨by rw[gZ];exact YY _,by omega,by omega⟩,?_⟩
  rw[hrow,hlen]
  refine⟨_,_,q2,_,.p (smL [Sm.mk 1 s [⟨1,N,[],[]⟩] [] [],Sm.mk 6 [] [⟨2,0,s,[]⟩] (out++[Sm.mk 2 s [Ex.mk 4 0 [] [⟨2,0,s,[]⟩,⟨1,1,[],[]⟩]] [] []]) []]),vs++[s],n2,l2-2,rfl,rfl,.keep (by simp) .nil,
   .one (vv (p0:=(Sm.mk 1 s [⟨1,N,[],[]⟩] [] []).cs) (p1:=(Sm.mk 6 [] [⟨2,0,s,[]⟩] (out++[Sm.mk 2 s [Ex.mk 4 0 [] [⟨2,0,s,[]⟩,⟨1,1,[],[]⟩]] [] []]) []).cs) rfl (Sm.cs_len _) (Sm.cs_len _)
    (cA (.p _) (.p _) (.p _)) (cA ?_ (mE rfl) (View.nils 5))) .nil,_,s,rfl,?_,by simp,by simp,hs,rfl,?_⟩
  ·have h2:(Ex.mk 2 0 s []).cs=[.int .i64 2,.int .i64 0,.str s,exL []]:=Ex.cs_eq _
   have he:exL [Ex.mk 2 0 s []]= .lst 4 [[.int .i64 2,.int .i64 0,.str s,exL []]]:=by rw[exL,ZR,h2]
   rw[he]
   exact .p _
  ·simp[ay,bM,Sm.sz,Ex.sz,aY]
   omega
  ·exact⟨by omega,by omega,by omega,by omega,by omega,by omega⟩
end
section
variable (G:am)
def Wr(n p:Nat)(vs:List (List UInt8))(next left:Int)(v:AV)(q:Nat)(vs':List (List UInt8))(next' left':Int):Prop:=
 ∃out:List Sm,v= .p (smL out)/\ay out<=n/\1<=out.length/\out.length<=2/\(vs'=vs\/∃s:List UInt8,s.length<=8/\vs'=vs++[s])/\Mv n p q next next' left left'
theorem Tb{b:List Int}(hb:Byt b)(hl:b.length<=2000)(fns:List Fd)(hf:CQ fns){d:Nat}(hd:d<=10)(hblk:1<=d->LN G b fns d){p:Nat}{vs:List (List UInt8)}{next left:Int}(hB:Bd (2*Pd d+3000) p vs next left):
 AC Tryz.prog G jH [.ptr 1 5 0 0,.p (.int .i64 ((d:Int)+1))] (HG b p fns vs next left) (PG b fns (Wr (2*Pd d+3000) p vs next left) []):=by
 have hp:=hB.p
 have hv:=hB.v
 have hn0:=hB.n0
 have hn1:=hB.n1
 have hl0:=hB.l0
 have hl1:=hB.l1
 refine nM G (AC.go zk ?_)
 have hwl:IntKind.i64.wrap (left-1)=left-1:=ab (by omega) (by omega)
 have hsl:al vs= .lst 1 (vs.map λw=>[.str w]):=rfl
 simp-implicitDefEqProofs[nt,HG,cW,hwl]
 refine(aW G b hb hl p (by omega) 13 _).mono ?_
 rintro r h ⟨k,rfl,rfl,hk⟩
 have dT:∀(m:Sm) (q:Nat) (rest:List AO) (v:AV) (vc:AV) (vs':List (List UInt8)) (next' left':Int),Fzs (.dead:: .dead:: .dead::rest) 3 [vc] [.p (al vs')]->Fzs (.dead:: .dead:: .dead::rest) 3 [v] [.p (smL [m])]->m.sz<=2*Pd d+3000->(vs'=vs\/∃s:List UInt8,s.length<=8/\vs'=vs++[s])->Mv (2*Pd d+3000) p q next next' left left'->
  DG b fns (Wr (2*Pd d+3000) p vs next left) (.ret v) (rdO b q:: .row 5 [[.ptr 0 2 0 0,slE 2 3 (aS fns),vc,.p (.int .i64 next'),.p (.int .i64 left')]]::bx 3 (aS fns)::rest):=λm q rest v vc vs' next' left' h1 h2 h3 h4 h5=>
  ⟨_,rest,q,_,_,vs',next',left',rfl,rfl,h1,h2,[m],rfl,by simp[ay];omega,by simp,by simp,h4,h5⟩
 by_cases hc:k<3/\vs≠[]
 ·obtain⟨hc1,hne⟩:=hc
  have hpos:0<vs.length:=List.length_pos_iff.2 hne
  have hc1':(k:Int)<3:=by omega
  have hv1:=hB.v
  simp-implicitDefEqProofs[aa,hsl,hc1,hc1',hpos]
  rw[←hsl]
  refine(Ku G hb hl (p:=p+1) (by omega) vs hne (by omega) _).mono ?_
  rintro r h ⟨w,hw,rfl,rfl⟩
  have hw8:=hB.w w hw
  simp-implicitDefEqProofs[aa]
  refine(dz G (oz G hb hl (p:=p+1+1) (by omega) fns hf vs hB.shrt next (left-1) (d:=3) (by omega)) _ (by simp[below])).mono ?_
  rintro r h ⟨v,q,vs',n',l',rfl,rfl,⟨e,rfl,he⟩,h1,h2,rfl,rfl,rfl⟩
  have hec:=e.cs_eq
  simp-implicitDefEqProofs[aa,cW,hec]
  exact dT ⟨2,w,[e],[],[]⟩ q _ _ _ vs' n' (left-1) (.keep (by simp) .nil) (.one (bH (p0:=(Sm.mk 2 w [e] [] []).cs) rfl (Sm.cs_len _) (cA (fq (l:=[e]) (by rw[ZR,hec];rfl)) (View.nils 5) (View.nils 5))) .nil) (by simp[Sm.sz,aY,ay];omega) (.inl rfl) ⟨by omega,by omega,by omega,by omega,by omega,by omega⟩
 have hcc:(k<3/\0<vs.length)=False:=by
  simp only[eq_iff_iff,iff_false]
  exact λ⟨a,c⟩=>hc ⟨a,List.length_pos_iff.1 c⟩
 have hvz:(k:Int)<3->vs.length=0:=λh=>by
  by_cases e:vs=[]
  ·rw[e];rfl
  ·exact absurd ⟨by omega,e⟩ hc
 have hvx:=hB.shrt
 have hvv:=hB.v
 by_cases k5:(k:Int)<5
 ·by_cases k3:(k:Int)<3
  ·have hv0:=hvz k3
   simp-implicitDefEqProofs[aa,hsl,k3,hv0,k5]
   rw[←hsl]
   refine(dz G (oz G hb hl (p:=p+1) (by omega) fns hf vs hvx next (left-1) (d:=3) (by omega)) _ (by simp[below])).mono ?_
   rintro r h ⟨v,q,vs',n',l',rfl,rfl,⟨e,rfl,he⟩,h1,h2,rfl,rfl,rfl⟩
   have hec:=e.cs_eq
   have hL:=SA G hb hl (p:=q) (by omega) fns vs' hvx hn0 (by omega) (left-1) e
   rw[hec] at hL
   simp-implicitDefEqProofs[aa,cW,hec]
   refine(dz G hL _ (by simp[below])).mono ?_
   rintro r h ⟨v,q2,vs2,n2,l2,rfl,rfl,s,hs,rfl,h3,h4,rfl,rfl,rfl⟩
   have hsm:(Sm.mk 1 s [e] [] []).cs=[.int .i64 1,.str s,exL [e],smL [],smL []]:=Sm.cs_eq _
   simp-implicitDefEqProofs[aa,cW,hsm]
   exact dT ⟨1,s,[e],[],[]⟩ q2 _ _ _ (vs'++[s]) (n'+1) (left-1) (.keep (by simp) .nil) (.one (bH (p0:=(Sm.mk 1 s [e] [] []).cs) rfl (Sm.cs_len _) (cA (.p _) (.p _) (.p _))) .nil) (by simp[Sm.sz,aY,ay];omega) (.inr ⟨s,hs,rfl⟩) ⟨by omega,by omega,by omega,by omega,by omega,by omega⟩
  ·simp-implicitDefEqProofs[aa,hsl,k3,k5]
   rw[←hsl]
   refine(dz G (oz G hb hl (p:=p+1) (by omega) fns hf vs hvx next (left-1) (d:=3) (by omega)) _ (by simp[below])).mono ?_
   rintro r h ⟨v,q,vs',n',l',rfl,rfl,⟨e,rfl,he⟩,h1,h2,rfl,rfl,rfl⟩
   have hec:=e.cs_eq
   have hL:=SA G hb hl (p:=q) (by omega) fns vs' hvx hn0 (by omega) (left-1) e
   rw[hec] at hL
   simp-implicitDefEqProofs[aa,cW,hec]
   refine(dz G hL _ (by simp[below])).mono ?_
   rintro r h ⟨v,q2,vs2,n2,l2,rfl,rfl,s,hs,rfl,h3,h4,rfl,rfl,rfl⟩
   have hsm:(Sm.mk 1 s [e] [] []).cs=[.int .i64 1,.str s,exL [e],smL [],smL []]:=Sm.cs_eq _
   simp-implicitDefEqProofs[aa,cW,hsm]
   exact dT ⟨1,s,[e],[],[]⟩ q2 _ _ _ (vs'++[s]) (n'+1) (left-1) (.keep (by simp) .nil) (.one (bH (p0:=(Sm.mk 1 s [e] [] []).cs) rfl (Sm.cs_len _) (cA (.p _) (.p _) (.p _))) .nil) (by simp[Sm.sz,aY,ay];omega) (.inr ⟨s,hs,rfl⟩) ⟨by omega,by omega,by omega,by omega,by omega,by omega⟩
 have k3:¬(k:Int)<3:=by omega
 by_cases k7:(k:Int)<7\/d=0
 ·by_cases k7':(k:Int)<7
  ·simp-implicitDefEqProofs[aa,k3,k5,k7']
   refine(dz G (oz G hb hl (p:=p+1) (by omega) fns hf vs hvx next (left-1) (d:=3) (by omega)) _ (by simp[below])).mono ?_
   rintro r h ⟨v,q,vs',n',l',rfl,rfl,⟨e,rfl,he⟩,h1,h2,rfl,rfl,rfl⟩
   have hec:=e.cs_eq
   simp-implicitDefEqProofs[aa,cW,hec]
   exact dT ⟨3,[],[e],[],[]⟩ q _ _ _ vs' n' (left-1) (.keep (by simp) .nil) (.one (bH (p0:=(Sm.mk 3 [] [e] [] []).cs) rfl (Sm.cs_len _) (cA (fq (l:=[e]) (by rw[ZR,hec];rfl)) (View.nils 5) (View.nils 5))) .nil) (by simp[Sm.sz,aY,ay];omega) (.inl rfl) ⟨by omega,by omega,by omega,by omega,by omega,by omega⟩
  ·have hdl:(d:Int)+1<2:=by omega
   simp-implicitDefEqProofs[aa,k3,k5,k7',hdl]
   refine(dz G (oz G hb hl (p:=p+1) (by omega) fns hf vs hvx next (left-1) (d:=3) (by omega)) _ (by simp[below])).mono ?_
   rintro r h ⟨v,q,vs',n',l',rfl,rfl,⟨e,rfl,he⟩,h1,h2,rfl,rfl,rfl⟩
   have hec:=e.cs_eq
   simp-implicitDefEqProofs[aa,cW,hec]
   exact dT ⟨3,[],[e],[],[]⟩ q _ _ _ vs' n' (left-1) (.keep (by simp) .nil) (.one (bH (p0:=(Sm.mk 3 [] [e] [] []).cs) rfl (Sm.cs_len _) (cA (fq (l:=[e]) (by rw[ZR,hec];rfl)) (View.nils 5) (View.nils 5))) .nil) (by simp[Sm.sz,aY,ay];omega) (.inl rfl) ⟨by omega,by omega,by omega,by omega,by omega,by omega⟩
 have k7':¬(k:Int)<7:=λh=>k7 (.inl h)
 have hd1:1<=d:=by omega
 have hd2:¬((d:Int)+1)<2:=by omega
 have hblk2:LN G b fns d:= @hblk hd1
 by_cases e7:(k:Int)=7
 ·simp-implicitDefEqProofs[aa,k3,k5,k7',hd2,e7]
  refine(dz G (Ni G hb hl (p:=p+1) (by omega) fns hf vs hvx next (left-1)) _ (by simp[below])).mono ?_
  rintro r h ⟨v,q,vs',n',l',rfl,rfl,⟨e,rfl,he⟩,h1,h2,rfl,rfl,rfl⟩
  have hec:=e.cs_eq
  simp-implicitDefEqProofs[aa,cW,hec]
  refine(dz G (oz G hb hl (p:=q) (by omega) fns hf vs' hvx n' (left-1) (d:=2) (by omega)) _ (by simp[below])).mono ?_
  rintro r h ⟨v,q2,vs2,n2,l2,rfl,rfl,⟨e2,rfl,he2⟩,h3,h4,rfl,rfl,rfl⟩
  have hec2:=e2.cs_eq
  simp-implicitDefEqProofs[aa,cW,hec2]
  exact dT ⟨4,[],[e,e2],[],[]⟩ q2 _ _ _ vs2 n2 (left-1) (.keep (by simp) .nil) (.one (bH (p0:=(Sm.mk 4 [] [e,e2] [] []).cs) rfl (Sm.cs_len _) (cA (fq (l:=[e,e2]) (by rw[Zn,ZR,hec,hec2];rfl)) (View.nils 5) (View.nils 5))) .nil) (by simp[Sm.sz,aY,ay];omega) (.inl rfl) ⟨by omega,by omega,by omega,by omega,by omega,by omega⟩
 by_cases e8:(k:Int)=8
 ·simp-implicitDefEqProofs[aa,k3,k5,k7',hd2,e7,e8]
  refine(dz G (Ni G hb hl (p:=p+1) (by omega) fns hf vs hvx next (left-1)) _ (by simp[below])).mono ?_
  rintro r h ⟨v,q,vs',n',l',rfl,rfl,⟨e,rfl,he⟩,h1,h2,rfl,rfl,rfl⟩
  have hec:=e.cs_eq
  simp-implicitDefEqProofs[aa,cW,hec]
  exact dT ⟨3,[],[⟨12,0,[],[e]⟩],[],[]⟩ q _ _ _ vs' n' (left-1) (.keep (by simp) .nil) (.one (bH (p0:=(Sm.mk 3 [] [⟨12,0,[],[e]⟩] [] []).cs) rfl (Sm.cs_len _) (cA (bH (p0:=(Ex.mk 12 0 [] [e]).cs) rfl (Ex.cs_len _) (jJ (fq (l:=[e]) (by rw[ZR,hec];rfl)))) (View.nils 5) (View.nils 5))) .nil) (by simp[Sm.sz,Ex.sz,aY,ay];omega) (.inl rfl) ⟨by omega,by omega,by omega,by omega,by omega,by omega⟩
 have hwd:IntKind.i64.wrap ((d:Int)+1-1)=d:=by rw[ab (by omega) (by omega)];omega
 have hwd2:IntKind.i64.wrap (d:Int)=d:=ab (by omega) (by omega)
 by_cases k11:(k:Int)<11
 ·simp-implicitDefEqProofs[aa,k3,k5,k7',hd2,e7,e8,k11]
  refine(dz G (oz G hb hl (p:=p+1) (by omega) fns hf vs hvx next (left-1) (d:=3) (by omega)) _ (by simp[below])).mono ?_
  rintro r h ⟨v,q,vs',n',l',rfl,rfl,⟨e,rfl,he⟩,h1,h2,rfl,rfl,rfl⟩
  have hec:=e.cs_eq
  simp-implicitDefEqProofs[aa,cW,hec,hwd2]
  have hB2:Bd (Pd d) q vs' n' (left-1):=⟨by omega,by omega,hB.w,by omega,by omega,by omega,by omega⟩
  refine(vo G (hblk2 hB2) _).mono ?_
  rintro r h ⟨out,q2,n2,l2,rfl,rfl,z1,z2,m1,m2,m3,m4,m5,m6⟩
  simp-implicitDefEqProofs[aa,cW]
  refine(aW G b hb hl q2 (by omega) 2 _).mono ?_
  rintro r h ⟨k2,rfl,rfl,_⟩
  simp-implicitDefEqProofs[aa]
  refine bi (λhq=>?_) (λhq=>?_)
  ·simp-implicitDefEqProofs[hwd2]
   have hB3:Bd (Pd d) (q2+1) vs' n2 l2:=⟨by omega,by omega,hB.w,by omega,by omega,by omega,by omega⟩
   refine(vo G (hblk2 hB3) _).mono ?_
   rintro r h ⟨out2,q3,n3,l3,rfl,rfl,y1,y2,w1,w2,w3,w4,w5,w6⟩
   simp-implicitDefEqProofs[aa,cW]
   exact dT ⟨5,[],[e],out,out2⟩ q3 _ _ _ vs' n3 l3 (.keep (by simp) .nil) (.one (bH (p0:=(Sm.mk 5 [] [e] out out2).cs) rfl (Sm.cs_len _) (cA (fq (l:=[e]) (by rw[ZR,hec];rfl)) (mE rfl) (mE rfl))) .nil) (by simp[Sm.sz,aY];omega) (.inl rfl) ⟨by omega,by omega,by omega,by omega,by omega,by omega⟩
  ·simp-implicitDefEqProofs[]
   exact dT ⟨5,[],[e],out,[]⟩ (q2+1) _ _ _ vs' n2 l2 (.keep (by simp) .nil) (.one (bH (p0:=(Sm.mk 5 [] [e] out []).cs) rfl (Sm.cs_len _) (cA (fq (l:=[e]) (by rw[ZR,hec];rfl)) (mE rfl) (View.nils 5))) .nil) (by simp[Sm.sz,aY,ay];omega) (.inl rfl) ⟨by omega,by omega,by omega,by omega,by omega,by omega⟩
 by_cases e11:(k:Int)=11
 ·simp-implicitDefEqProofs[aa,k3,k5,k7',hd2,e7,e8,k11,e11]
  refine(aW G b hb hl (p+1) (by omega) 3 _).mono ?_
  rintro r h ⟨k2,rfl,rfl,_⟩
  simp-implicitDefEqProofs[aa]
  refine bi (λhq=>?_) (λhq=>?_)
  ·simp-implicitDefEqProofs[]
   refine(dz G (oz G hb hl (p:=p+1+1) (by omega) fns hf vs hvx next (left-1) (d:=2) (by omega)) _ (by simp[below])).mono ?_
   rintro r h ⟨v,q,vs',n',l',rfl,rfl,⟨e,rfl,he⟩,h1,h2,rfl,rfl,rfl⟩
   have hec:=e.cs_eq
   simp-implicitDefEqProofs[aa,cW,hec]
   exact dT ⟨7,[],[e],[],[]⟩ q _ _ _ vs' n' (left-1) (.keep (by simp) .nil) (.one (bH (p0:=(Sm.mk 7 [] [e] [] []).cs) rfl (Sm.cs_len _) (cA (fq (l:=[e]) (by rw[ZR,hec];rfl)) (View.nils 5) (View.nils 5))) .nil) (by simp[Sm.sz,aY,ay];omega) (.inl rfl) ⟨by omega,by omega,by omega,by omega,by omega,by omega⟩
  ·simp-implicitDefEqProofs[]
   have hBL:Bd (Pd d+60) (p+1+1) vs next (left-1):=⟨by omega,by omega,hB.w,hn0,by omega,by omega,by omega⟩
   refine(dz G (ML G hb hl fns hd hblk2 hBL) _ (by simp[below])).mono ?_
   rintro r h ⟨v,q,vs2,n2,l2,rfl,rfl,out,s,rfl,z1,z2,z3,hs,rfl,m1,m2,m3,m4,m5,m6⟩
   simp-implicitDefEqProofs[aa,cW]
   exact⟨_,_,q,_,_,vs++[s],n2,l2,rfl,rfl,.keep (by simp) .nil,.keep (by simp) .nil,out,rfl,by omega,z2,z3,.inr ⟨s,hs,rfl⟩,by omega,by omega,by omega,by omega,by omega,by omega⟩
 ·simp-implicitDefEqProofs[aa,k3,k5,k7',hd2,e7,e8,k11,e11]
  have hBL:Bd (Pd d+60) (p+1) vs next (left-1):=⟨by omega,by omega,hB.w,hn0,by omega,by omega,by omega⟩
  refine(dz G (ML G hb hl fns hd hblk2 hBL) _ (by simp[below])).mono ?_
  rintro r h ⟨v,q,vs2,n2,l2,rfl,rfl,out,s,rfl,z1,z2,z3,hs,rfl,m1,m2,m3,m4,m5,m6⟩
  simp-implicitDefEqProofs[aa,cW]
  exact⟨_,_,q,_,_,vs++[s],n2,l2,rfl,rfl,.keep (by simp) .nil,.keep (by simp) .nil,out,rfl,by omega,z2,z3,.inr ⟨s,hs,rfl⟩,by omega,by omega,by omega,by omega,by omega,by omega⟩
end
section
variable (G:am)
structure BkS where (j m:Nat) (out:List Sm) (q:Nat) (vs:List (List UInt8)) (next left:Int)
theorem WG(d:Nat):5000<=Pd d:=by
 have:1<=20^d:=Nat.one_le_pow _ _ (by omega)
 simp only[Pd];omega
theorem QZ(d:Nat):Pd (d+1)=20*Pd d:=by simp only[Pd,Nat.pow_succ];omega
theorem ET{b:List Int}(hb:Byt b)(hl:b.length<=2000)(fns:List Fd)(hf:CQ fns){d:Nat}(hd:d<=10)(hblk:1<=d->LN G b fns d):LN G b fns (d+1):=by
 intro p vs next left hB
 have hp:=hB.p
 have hv:=hB.v
 have hn0:=hB.n0
 have hn1:=hB.n1
 have hl0:=hB.l0
 have hl1:=hB.l1
 have hP:=WG d
 have hPs:=QZ d
 generalize hN:Pd d=N at*
 rw[hPs] at hp hv hn1 hl0⊢
 have hGok:∀(vs:List (List UInt8)) (nx lf:Int),okO 4 (.row 5 [cW fns vs nx lf]):=λvs nx lf e he=>by
  rw[YQ.1 he];exact⟨by simp[below],sV (by omega),by simp,by simp,by simp,trivial⟩
 refine AC.go uY ?_
 simp-implicitDefEqProofs[nb,HG,cW]
 refine(lW G hb hl (p:=p) (by omega) [2,3,1,4] (k:=4) (by simp) (by simp) (by omega) rfl rfl).mono ?_
 rintro r h ⟨I,hI,rfl,rfl⟩
 obtain⟨J,rfl,hJ⟩:∃J:Nat,I=J/\J<=4:=⟨I.toNat,by simp at hI;omega,by simp at hI;omega⟩
 simp-implicitDefEqProofs[aa]
 refine aN (λs:BkS=>aj 40 [(0,.ptr 1 5 0 0),(1,.p (.int .i64 ((d:Int)+1))),(5,.p (al vs)),(6,.sl 3 5 0 s.out.length),(7,.p (.int .i64 s.j))])
  (λs=>[rdO b s.q,.row 5 [cW fns s.vs s.next s.left],bx 3 (aS fns),.row 5 (smR s.out)])
  (λs=>s.j+s.m<=4/\ay s.out<=s.m*(2*N+3000)/\s.out.length<=2*s.m/\p<=s.q/\s.q<=p+1+s.m*(2*N+3000)/\s.vs.length<=vs.length+s.m/\(∀w∈s.vs,w.length<=8)/\next<=s.next/\s.next<=next+((s.m*(2*N+3000):Nat):Int)/\left-((s.m*(2*N+3000):Nat):Int)<=s.left/\s.left<=left)
  (λs=>s.j) ⟨J,0,[],p+1,vs,next,left⟩ ⟨by simp only;omega,by simp[ay],by simp,by simp,by simp,by simp,hB.w,by simp,by simp,by simp,by simp⟩ ?_ ?_
 ·refine je (m:=4) (by omega) (eE (h1:=[rdO b (p+1),.row 5 [cW fns vs next left],bx 3 (aS fns),.row 5 (smR [])]) rfl rfl (ae (bh _ _ _) (ae (hGok _ _ _) (ae (nT _ _) (ae (cw (ep [])) dX))))) (by simp[below])
 rintro⟨j,m,out,q,vs',nx,lf⟩ ⟨i1,i2,i3,i4,i5,i6,i7,i8,i9,i10,i11⟩
 simp only at i1 i2 i3 i4 i5 i6 i7 i8 i9 i10 i11
 simp-implicitDefEqProofs[cW]
 have hm4:m*(2*N+3000)<=4*(2*N+3000):=Nat.mul_le_mul_right _ (by omega)
 by_cases hc:0<j/\0<lf
 ·obtain⟨c1,c2⟩:=hc
  have hm3:m*(2*N+3000)<=3*(2*N+3000):=Nat.mul_le_mul_right _ (by omega)
  have hms:(m+1)*(2*N+3000)=m*(2*N+3000)+(2*N+3000):=by rw[ZS,Nat.one_mul]
  have hmsI:((m+1:Nat):Int)*(2*(N:Int)+3000)=((m*(2*N+3000)+(2*N+3000):Nat):Int):=by rw[←hms];simp
  generalize m*(2*N+3000)=M at*
  have hB2:Bd (2*Pd d+3000) q vs' nx lf:=by
   rw[hN];exact⟨by omega,by omega,i7,by omega,by omega,by omega,by omega⟩
  have hS:=Tb G hb hl fns hf hd hblk hB2
  rw[hN] at hS
  simp-implicitDefEqProofs[c1,c2]
  refine(dz G hS _ (by simp[below])).mono ?_
  rintro r h ⟨v,q2,vs2,n2,l2,rfl,rfl,out2,rfl,z1,z2,z3,hvs,m1,m2,m3,m4,m5,m6⟩
  have hsl:smL out2= .lst 5 (out2.map Sm.cs):=rfl
  simp-implicitDefEqProofs[aa,cW,hsl]
  have hol:(smR out).length=out.length:=gZ out
  have hwj:IntKind.i64.wrap ((j:Int)-1)=((j-1:Nat):Int):=by rw[ab (by omega) (by omega)];omega
  have hrow:List.take out.length (smR out)++List.map ((λx=>List.map AV.p x)∘Sm.cs) out2=smR (out++out2):=by
   rw[YU (by omega),Gp];rfl
  refine⟨⟨by omega,by omega,by omega⟩,⟨j-1,m+1,out++out2,q2,vs2,n2,l2⟩,⟨by simp only;omega,by simp only;rw[bM,hms];omega,by simp only;rw[YZ];omega,by simp only;omega,by simp only;rw[hms];omega,?_,?_,by simp only;omega,by simp only;rw[hmsI];omega,by simp only;rw[hmsI];omega,by simp only;omega⟩,by simp only;omega,?_⟩
  ·simp only
   rcases hvs with rfl|⟨s,_,rfl⟩
   ·omega
   ·rw[YZ,List.length_singleton];omega
  ·simp only
   rcases hvs with rfl|⟨s,hs,rfl⟩
   ·exact i7
   ·intro w hw
    rcases YV.1 hw with h|h
    ·exact i7 w h
    ·rw[YQ.1 h];exact hs
  ·rw[hrow]
   refine dx [0,1,2,4] (by simp) (by decide) (by decide) (cr rfl (bh _ _ _) (da ?_ ?_ (cr rfl (nT _ _) (br rfl (ep _) cm)))) (by simp[below,ren,hwj])
   ·intro x hx
    rw[YQ.1 hx];exact⟨by simp[below],sV (by simp),by simp,by simp,by simp,trivial⟩
   ·simp[cW,ren,bn]
 ·have hce:(decide (0<j)&&decide (0<lf))=false:=by
   by_cases h1:0<j
   ·have h2:¬0<lf:=λh=>hc ⟨h1,h⟩
    simp[h2]
   ·simp[h1]
  have fin:QO b fns vs p (20*N) next left [] (.ret (.sl 3 5 0 out.length)) [rdO b q,.row 5 [[.ptr 0 2 0 0,slE 2 3 (aS fns),.p (al vs),.p (.int .i64 nx),.p (.int .i64 lf)]],bx 3 (aS fns),.row 5 (smR out)]:=
   ⟨out,q,nx,lf,rfl,rfl,by omega,by omega,by omega,by omega,by omega,by omega,by omega,by omega⟩
  by_cases h1:0<j
  ·have h2:¬0<lf:=λh=>hc ⟨h1,h⟩
   simp-implicitDefEqProofs[h1,h2]
   exact fin
  ·simp-implicitDefEqProofs[h1]
   exact fin
end
section
theorem AZ:AK.whole lF=FK.ak lH:=rfl
theorem ER{h:List AO}{id:Nat}{out:List Sm}{m:Sm}{c:List AV}(e:h[id]?=some (.row 5 (smR out++[c])))(hc:∀(j:Nat) (q:PV) (a:AV),m.cs[j]?=some q->c[j]?=some a->View h a q):View h (.sl id 5 0 (out.length+1)) (smL (out++[m])):=by
 have hl:((out++[m]).map Sm.cs).length=out.length+1:=by simp
 have:=View.sl (h:=h) id 5 0 _ ((out++[m]).map Sm.cs) e (by rw[hl];simp[gZ]) (λx hx=>by obtain⟨b,_,rfl⟩:=Zh.1 hx;exact b.cs_len) (λi j e q e' a a1 a2 a3 a4=>?_)
 ·rwa[hl] at this
 rw[Zz] at a3
 rw[List.map_append] at a1
 rcases Zy i out.length with hi|hi
 ·rw[YN (by simpa using hi),Zb,YO hi] at a1
  rw[YN (by simpa[gZ] using hi),smR,Zb,YO hi] at a3
  cases a1;cases a3
  rw[Zb,a2] at a4
  cases a4
  exact .p _
 ·rw[YT (by simpa using hi)] at a1
  rw[YT (by simpa[gZ] using hi),gZ] at a3
  rw[Zu] at a1
  cases hd:i-out.length with
  |zero=>
   rw[hd] at a1 a3
   cases a1;cases a3
   exact hc j q a a2 a4
  |succ n=>rw[hd] at a3;simp at a3
variable (G:am)
theorem NH{b:List Int}(hb:Byt b)(hl:b.length<=2000)(fns:List Fd)(hf:CQ fns):LN G b fns 3:=
 ET G hb hl fns hf (d:=2) (by omega) λ_=>ET G hb hl fns hf (d:=1) (by omega) λ_=>ET G hb hl fns hf (d:=0) (by omega) λh=>absurd h (by omega)
def abcW:List (List UInt8):=[[97],[98],[99]]
def fnQ(p:Nat)(name:List UInt8)(np:Nat)(left:Int)(v:AV)(q:Nat)(vs':List (List UInt8))(next' left':Int):Prop:=
 ∃f:Fd,v= .agg (f.cs.map .p)/\f.name=name/\f.params=abcW.take np/\ay f.body<=40000500/\p<=q/\q<=p+40000500/\left-40000500<=left'/\left'<=left
theorem Wh{b:List Int}(hb:Byt b)(hl:b.length<=2000){p:Nat}(hp:p<=90000000000)(fns:List Fd)(hf:CQ fns)(vs:List (List UInt8))(next left:Int)(hl0: -1000000000<=left)(hl1:left<=1000000000)(name:List UInt8)(np:Nat)(hnp:np<=3):
 AC Tryz.prog G ij [.ptr 1 5 0 0,.p (.str name),.p (.int .i64 np)] (HG b p fns vs next left) (PG b fns (fnQ p name np left) []):=by
 refine nM G (AC.goK AN AZ ?_)
 have hwn:IntKind.i64.wrap ((np:Int)-1)=(np:Int)-1:=ab (by omega) (by omega)
 have h3:(np:Int)<=3:=by omega
 simp-implicitDefEqProofs[lF,lH,HG,cW,hwn,h3,hnp]
 refine nk (aj 61 [(0,.ptr 1 5 0 0),(6,.ptr 3 3 0 0),(7,.ptr 4 3 0 0)]) [rdO b p,.row 5 [cW fns (abcW.take np) ((np:Int)-1) left],bx 3 (aS fns),.row 3 [[.p (.str []),.nils,.nils]],.row 3 [[.p (.str name),.p (al (abcW.take np)),.nils]]] ?_ ?_
 ·have hlen:(abcW.take np).length=np:=by simp[abcW];omega
  simp-implicitDefEqProofs[hnp,hlen]
  refine⟨⟨by omega,by omega⟩,?_⟩
  have hcutR:dt (abcW.take np)= .row 1 (List.take np [[AV.p (PV.str [97])],[AV.p (PV.str [98])],[AV.p (PV.str [99])]]):=by
   simp only[dt,List.map_take];rfl
  rw[←hcutR]
  refine Wk.trans (Kh (h1:=[rdO b p,.row 5 [[.ptr 0 2 0 0,slE 2 3 (aS fns),.sl 4 1 0 np,.p (.int .i64 ((np:Int)-1)),.p (.int .i64 left)]],bx 3 (aS fns),.row 3 [[.p (.str []),.nils,.nils]],dt (abcW.take np),.dead,dt (abcW.take np),.row 3 [[.p (.str name),.sl 6 1 0 np,.nils]]])
   ⟨.inl rfl,.inl rfl,.inl rfl,.inl rfl,.inr ⟨1,_,np,rfl,hcutR⟩,.inl rfl,.inl rfl,.inl rfl,trivial⟩) ?_
  refine Wk.trans (dx (l1:=[(0,.ptr 1 5 0 0),(6,.ptr 3 3 0 0),(7,.ptr 4 3 0 0)])
   (h1:=[rdO b p,.row 5 [[.ptr 0 2 0 0,slE 2 3 (aS fns),.sl 5 1 0 np,.p (.int .i64 ((np:Int)-1)),.p (.int .i64 left)]],bx 3 (aS fns),.row 3 [[.p (.str []),.nils,.nils]],.row 3 [[.p (.str name),.sl 6 1 0 np,.nils]],dt (abcW.take np),dt (abcW.take np)])
   [0,1,2,3,7,4,6] (by simp) (by decide) (by decide) (cr rfl (bh _ _ _) (da (by simp[below]) (by simp[ren,bn]) (cr rfl (nT _ _) (br rfl (by simp[below]) (da (by simp[below]) (by simp[ren,bn]) (cr rfl (pj _) (cr rfl (pj _) cm))))))) (by simp[below,ren]))
   (pE 5 (by omega) (by simp) rfl (.same (bh _ _ _) (.one (.keep (by simp[below]) (.keep (sV (by omega)) (.one ?_ (.keep (by simp) (.keep (by simp) .nil))))) (.same (nT _ _) (.same (by simp[okO,below]) (.one (.keep (by simp) (.one ?_ (.keep (by simp[below]) .nil))) (.nil _)))))) ?_)
  ·have:=iH (l:=abcW.take np) (id:=5) (h:=tail 5 [rdO b p,.row 5 [[.ptr 0 2 0 0,slE 2 3 (aS fns),.sl 5 1 0 np,.p (.int .i64 ((np:Int)-1)),.p (.int .i64 left)]],bx 3 (aS fns),.row 3 [[.p (.str []),.nils,.nils]],.row 3 [[.p (.str name),.sl 6 1 0 np,.nils]],dt (abcW.take np),dt (abcW.take np)]) rfl
   rwa[hlen] at this
  ·have:=iH (l:=abcW.take np) (id:=6) (h:=tail 5 [rdO b p,.row 5 [[.ptr 0 2 0 0,slE 2 3 (aS fns),.sl 5 1 0 np,.p (.int .i64 ((np:Int)-1)),.p (.int .i64 left)]],bx 3 (aS fns),.row 3 [[.p (.str []),.nils,.nils]],.row 3 [[.p (.str name),.sl 6 1 0 np,.nils]],dt (abcW.take np),dt (abcW.take np)]) rfl
   rwa[hlen] at this
  ·exact⟨.keep (by simp[below]) .nil,.keep (by simp[below]) .nil,.keep (by simp[below]) .nil,trivial⟩
 have hlen:(abcW.take np).length<=3:=by simp[abcW];omega
 have hw8:∀s∈abcW.take np,s.length<=8:=by
  intro s hs
  have:=ZG hs
  simp only[abcW,Za,Zj,or_false] at this
  rcases this with rfl|rfl|rfl<;>simp
 have hPd:Pd 3=40000000:=rfl
 have hB:Bd (Pd 3) p (abcW.take np) ((np:Int)-1) left:=by rw[hPd];exact⟨by omega,by omega,hw8,by omega,by omega,by omega,by omega⟩
 simp-implicitDefEqProofs[cW]
 refine(vo G (NH G hb hl fns hf hB) _).mono ?_
 rintro r h ⟨out,q,n2,l2,rfl,rfl,z1,z2,m1,m2,m3,m4,m5,m6⟩
 rw[hPd] at z1 m2 m4 m5
 simp-implicitDefEqProofs[aa,cW]
 have fin:∀(out:List Sm) (q:Nat) (l2:Int) (rest:List AO) (v:AV) (vc:AV) (vs':List (List UInt8)) (n2:Int),Fzs (.dead:: .dead:: .dead::rest) 3 [vc] [.p (al vs')]->Fzs (.dead:: .dead:: .dead::rest) 3 [v] [.agg ((Fd.mk name (abcW.take np) out).cs.map .p)]->ay out<=40000500->p<=q->q<=p+40000500->left-40000500<=l2->l2<=left->
  DG b fns (fnQ p name np left) (.ret v) (rdO b q:: .row 5 [[.ptr 0 2 0 0,slE 2 3 (aS fns),vc,.p (.int .i64 n2),.p (.int .i64 l2)]]::bx 3 (aS fns)::rest):=λout q l2 rest v vc vs' n2 h1 h2 h3 h4 h5 h6 h7=>
  ⟨_,rest,q,_,_,vs',n2,l2,rfl,rfl,h1,h2,⟨name,abcW.take np,out⟩,rfl,rfl,rfl,h3,h4,h5,h6,h7⟩
 by_cases hl2:0<l2
 ·simp-implicitDefEqProofs[hl2]
  refine(aW G b hb hl q (by omega) 4 _).mono ?_
  rintro r h ⟨k,rfl,rfl,_⟩
  simp-implicitDefEqProofs[aa]
  refine bi (λhc=>?_) (λhc=>?_)
  ·have hwl:IntKind.i64.wrap (l2-1)=l2-1:=ab (by omega) (by omega)
   simp-implicitDefEqProofs[hwl]
   have hShrt:zC (abcW.take np):=⟨by omega,hw8⟩
   refine(dz G (oz G hb hl (p:=q+1) (by omega) fns hf (abcW.take np) hShrt n2 (l2-1) (d:=2) (by omega)) _ (by simp[below])).mono ?_
   rintro r h ⟨v,q2,vs2,n3,l3,rfl,rfl,⟨e,rfl,he⟩,h1,h2,hvs,rfl,rfl⟩
   subst hvs
   have hec:=e.cs_eq
   have hol:(smR out).length=out.length:=gZ out
   simp-implicitDefEqProofs[aa,cW,hec,hol]
   refine⟨⟨by omega,by omega⟩,?_⟩
   have htk:List.take out.length (smR out)=smR out:=YU (by omega)
   rw[htk]
   have hm:(Sm.mk 7 [] [e] [] []).cs=[.int .i64 7,.str [],.lst 4 [[.int .i64 e.op,.int .i64 e.n,.str e.name,exL e.kids]],.lst 5 [],.lst 5 []]:=by
    rw[Sm.cs_eq,←hec];rfl
   refine fin (out++[⟨7,[],[e],[],[]⟩]) q2 (l2-1) _ _ _ (abcW.take np) n3 (.keep (by simp) .nil) (.agg (.keep (by simp) (.keep (by simp) (.one (ER rfl ?_) .nil))) .nil) (by simp[bM,ay,Sm.sz,aY];omega) (by omega) (by omega) (by omega) (by omega)
   intro j q a a1 a2
   rw[hm] at a1
   match j,a1,a2 with
   |0,a1,a2=>cases a1;cases a2;exact .p _
   |1,a1,a2=>cases a1;cases a2;exact .p _
   |2,a1,a2=>cases a1;cases a2;exact .p _
   |3,a1,a2=>cases a1;cases a2;exact View.e 0 5
   |4,a1,a2=>cases a1;cases a2;exact View.e 0 5
   |j+5,a1,a2=>simp at a1
  ·simp-implicitDefEqProofs[]
   exact fin out (q+1) l2 _ _ _ (abcW.take np) n2 (.keep (by simp) .nil) (.agg (.keep (by simp) (.keep (by simp) (.one (mE rfl) .nil))) .nil) (by omega) (by omega) (by omega) (by omega) (by omega)
 ·simp-implicitDefEqProofs[hl2]
  exact fin out q l2 _ _ _ (abcW.take np) n2 (.keep (by simp) .nil) (.agg (.keep (by simp) (.keep (by simp) (.one (mE rfl) .nil))) .nil) (by omega) (by omega) (by omega) (by omega) (by omega)
end
section
theorem BW{h:List AO}{s:List UInt8}{ps:List (List UInt8)}{bd:List Sm}{P B:AV}(hP:View h P (al ps))(hB:View h B (smL bd)):∀(j:Nat) (q:PV) (x:AV),(Fd.mk s ps bd).cs[j]?=some q->[AV.p (.str s),P,B][j]?=some x->View h x q:=by
 intro j q x e1 e2
 match j,e1,e2 with
 |0,e1,e2=>cases e1;cases e2;exact .p _
 |1,e1,e2=>cases e1;cases e2;exact hP
 |2,e1,e2=>cases e1;cases e2;exact hB
 |j+3,e1,e2=>simp[Fd.cs] at e1
theorem Ac{h:List AO}{id:Nat}{l:List Fd}(e:h[id]?=some (.row 3 (aS l))):View h (.sl id 3 0 l.length) (fdL l):=by
 have:=la (h:=h) (id:=id) (sz:=3) (n:=l.length) (ls:=l.map Fd.cs) (by rw[e,aS];simp) (by simp) (λx hx=>by obtain⟨b,_,rfl⟩:=Zh.1 hx;exact b.cs_len)
 exact this
theorem HU(a b:List Fd):aS (a++b)=aS a++aS b:=by simp[aS]
theorem Dp(a:List Fd):(aS a).length=a.length:=by simp[aS]
theorem oO(a b:List Fd):aH (a++b)=aH a+aH b:=by simp[aH]
def TO:List Fd:=[⟨[109],[],[⟨3,[],[⟨1,1,[],[]⟩],[],[]⟩]⟩]
theorem KR:bA TO=true:=by decide
theorem Ln(k:Nat)(hk:k<=3):(abcW.take k).length+((abcW.take k).map List.length).sum<=6:=by
 have h:k=0\/k=1\/k=2\/k=3:=by omega
 rcases h with rfl|rfl|rfl|rfl<;>decide
variable (G:am)
structure PgS where (j:Nat) (fns:List Fd) (q:Nat) (vs:List (List UInt8)) (next left:Int)
def XW(b:List Int)(p n:Nat)(x:ARes)(h:List AO):Prop:=∃(l:List Fd) (q:Nat),x= .ret (.agg [.p (fdL l)])/\h=[rdO b q]/\bA l=true/\aH l<=200000000/\p<=q/\q<=p+n
def Yg(b:List Int)(p n:Nat)(x:ARes)(h:List AO):Prop:=∃(l:List Fd) (q:Nat) (v:AV) (rest:List AO),x= .ret (.agg [v])/\h=rdO b q::rest/\View (tail 1 h) v (fdL l)/\bA l=true/\aH l<=200000000/\p<=q/\q<=p+n
theorem Jm{b:List Int}(hb:Byt b)(hl:b.length<=2000){p:Nat}(hp:p<=10000000000):AC Tryz.prog G dM [.ptr 0 2 0 0] [rdO b p] (XW b p 200000000):=by
 refine AC.frz (R:=Yg b p 200000000) ?_ 1 (by simp) (λt v h ⟨_,_,_,_,e,_⟩=>by cases e) ?_
 ·refine AC.go DA ?_
  simp-implicitDefEqProofs[tP]
  refine(lW G hb hl (p:=p) (by omega) [14,20,8,26] (k:=2) (by simp) (by simp) (by omega) rfl rfl).mono ?_
  rintro r h ⟨L0,hL0,rfl,rfl⟩
  have hL:0<=L0/\L0<=26:=by simp at hL0;omega
  simp-implicitDefEqProofs[aa]
  refine(lW G hb hl (p:=p+1) (by omega) [0,1,1,2] (k:=4) (by simp) (by simp) (by omega) rfl rfl).mono ?_
  rintro r h ⟨J0,hJ0,rfl,rfl⟩
  obtain⟨J,rfl,hJ⟩:∃J:Nat,J0=J/\J<=2:=⟨J0.toNat,by simp at hJ0;omega,by simp at hJ0;omega⟩
  simp-implicitDefEqProofs[aa]
  refine aN (λs:PgS=>aj 69 [(0,.ptr 0 2 0 0),(2,.ptr 3 1 0 0),(3,.ptr 1 5 0 0),(4,.p (.int .i64 s.j))])
   (λs=>[rdO b s.q,.row 5 [cW s.fns s.vs s.next s.left],bx 3 (aS s.fns),.row 1 [[.nils]]])
   (λs=>s.j+s.fns.length<=2/\CQ s.fns/\aH s.fns<=s.fns.length*40000600/\p<=s.q/\s.q<=p+2+s.fns.length*40000600/\L0-s.fns.length*40000600<=s.left/\s.left<=L0)
   (λs=>s.j) ⟨J,[],p+1+1,[],0,L0⟩ ⟨by simp only[List.length_nil];omega,⟨by simp,by simp⟩,by simp[aH],by simp only;omega,by simp,by simp,by simp⟩ ?_ ?_
  ·refine Wk.trans (dx (l1:=[(0,.ptr 0 2 0 0),(2,.ptr 3 1 0 0),(3,.ptr 1 5 0 0),(4,.p (.int .i64 J))])
    (h1:=[rdO b (p+1+1),.row 5 [[.ptr 0 2 0 0,.nils,.nils,.p (.int .i64 0),.p (.int .i64 L0)]],.dead,.row 1 [[.nils]]])
    [0,3,2,1] (by simp) (by decide) (by decide) (cr rfl (bh _ _ _) (da (by simp[below]) (by simp[ren,bn]) (fO (by simp) (br rfl (by simp[below]) cm)))) (by simp[below,ren]))
    (pE 4 (by omega) (by simp) rfl (.same (bh _ _ _) (.one (.keep (by simp[below]) (.keep (by simp[below,aS,slE]) (.one (View.nils 1) (.keep (by simp) (.keep (by simp) .nil))))) (.dead (.same (by simp[okO,below]) (.nil _))))) ?_)
   exact⟨.keep (by simp[below]) .nil,.keep (by simp[below]) .nil,.keep (by simp[below]) .nil,.keep (by simp[below]) .nil,trivial⟩
  rintro⟨j,fns,q,vs,nx,lf⟩ ⟨i1,i2,i3,i4,i5,i6,i7⟩
  simp only at i1 i2 i3 i4 i5 i6 i7
  simp-implicitDefEqProofs[cW]
  by_cases hj:0<j
  ·have hfl:fns.length<3:=by omega
   have hcl:(aS fns).length=fns.length:=Dp fns
   obtain⟨nm,hget,hnm⟩:∃nm:List UInt8,([[PV.str [102]],[PV.str [103]],[PV.str [104]]]:List (List PV))[fns.length]?=some [.str nm]/\nm.length<=8:=by
    have h3:fns.length=0\/fns.length=1\/fns.length=2:=by omega
    rcases h3 with h|h|h<;>rw[h]
    ·exact⟨[102],rfl,by simp⟩
    ·exact⟨[103],rfl,by simp⟩
    ·exact⟨[104],rfl,by simp⟩
   simp-implicitDefEqProofs[hj,hcl,hget]
   refine(aW G b hb hl q (by omega) 3 _).mono ?_
   rintro r h ⟨k,rfl,rfl,hk⟩
   have hk3:k<=3:=by omega
   simp-implicitDefEqProofs[aa,hcl,hget]
   refine(dz G (Wh G hb hl (p:=q+1) (by omega) fns i2 vs nx lf (by omega) (by omega) nm k hk3) _ (by simp[below])).mono ?_
   rintro r h ⟨v,q2,vs2,n2,l2,rfl,rfl,f,rfl,hf1,hf2,z1,z2,z3,z4,z5⟩
   have hcs:=f.cs_len
   have hcf:f.cs=[.str f.name,al f.params,smL f.body]:=rfl
   simp-implicitDefEqProofs[aa,cW,hcf]
   have hfs:f.sz<=40000600:=by
    have h1:f.sz=1+f.name.length+(f.params.length+(f.params.map List.length).sum)+ay f.body:=rfl
    have h2:=Ln k hk3
    rw[←hf2] at h2
    rw[hf1] at h1
    omega
   have hwj:IntKind.i64.wrap ((j:Int)-1)=((j-1:Nat):Int):=by rw[ab (by omega) (by omega)];omega
   have hfp:f.params.length<=3:=by rw[hf2];simp[abcW];omega
   have hrow:aS fns++[[AV.p (.str f.name),.p (al f.params),.p (smL f.body)]]=aS (fns++[f]):=by rw[HU];rfl
   have hne:aS (fns++[f])≠[]:=by simp[aS]
   have hll:(aS fns).length+1=(aS (fns++[f])).length:=by simp[aS]
   rw[hrow,hll]
   refine⟨⟨by rw[←hll,hcl];omega,by omega⟩,⟨j-1,fns++[f],q2,vs2,n2,l2⟩,⟨by simp;omega,⟨by simp;omega,?_⟩,by simp only[oO,YZ];simp[aH] at*;omega,by simp only;omega,by simp;omega,by simp;omega,by simp only;omega⟩,by simp only;omega,?_⟩
   ·intro x hx
    rcases YV.1 hx with h|h
    ·exact i2.2 x h
    ·rw[YQ.1 h,hf1];exact⟨hnm,hfp⟩
   ·rw[eG hne,gm hne]
    refine dx [0,1,5,3] (by simp) (by decide) (by decide) (cr rfl (bh _ _ _) (da (by simp[below]) (by simp[ren,bn]) (br rfl (sN _) (br rfl (by simp[below]) cm)))) (by simp[below,ren,hwj])
  ·simp-implicitDefEqProofs[hj]
   refine(lW G hb hl (p:=q) (by omega) [0,1,2,1] (k:=4) (by simp) (by simp) (by omega) rfl rfl).mono ?_
   rintro r h ⟨N0,hN0,rfl,rfl⟩
   obtain⟨np,rfl,hnp⟩:∃J:Nat,N0=J/\J<=2:=⟨N0.toNat,by simp at hN0;omega,by simp at hN0;omega⟩
   simp-implicitDefEqProofs[aa]
   refine(dz G (Wh G hb hl (p:=q+1) (by omega) fns i2 vs nx lf (by omega) (by omega) [109] np (by omega)) _ (by simp[below])).mono ?_
   rintro r h ⟨v,q2,vs2,n2,l2,rfl,rfl,f,rfl,hf1,hf2,z1,z2,z3,z4,z5⟩
   have hcf:f.cs=[.str f.name,al f.params,smL f.body]:=rfl
   have hcl:(aS fns).length=fns.length:=Dp fns
   have hfs:f.sz<=40000600:=by
    have h1:f.sz=1+f.name.length+(f.params.length+(f.params.map List.length).sum)+ay f.body:=rfl
    have h2:=Ln np (by omega)
    rw[←hf2] at h2
    rw[hf1] at h1
    simp at h1
    omega
   by_cases hfe:fns=[]
   ·subst hfe
    have h0:aS []=[]:=rfl
    rw[h0]
    simp-implicitDefEqProofs[aa,cW,hcf,h0,pM,Cw]
    have hrow:[[AV.p (.str f.name),.p (al f.params),.p (smL f.body)]]=aS [f]:=rfl
    rw[hrow]
    have vw:∀h:List AO,h[8]?=some (.row 3 (aS [f]))->View h (.sl 8 3 0 1) (fdL [f]):=λh e=>Ac (l:=[f]) e
    refine((mA G [f] (by simp only[aH,Zn,List.map_nil,List.sum_cons,List.sum_nil] at*;omega)).lend (.agg (.one (vw _ rfl) .nil) .nil) rfl).mono ?_
    rintro r h ⟨rfl,rfl⟩
    simp-implicitDefEqProofs[aa]
    by_cases hok:bA [f]=true
    ·simp-implicitDefEqProofs[hok]
     exact⟨[f],q2,_,_,rfl,rfl,vw _ rfl,hok,by simp only[aH,Zn,List.map_nil,List.sum_cons,List.sum_nil] at*;omega,by omega,by omega⟩
    ·have hok':bA [f]=false:=by simpa using hok
     simp-implicitDefEqProofs[hok']
     exact⟨TO,q2,_,_,rfl,rfl,bH (p0:=(Fd.mk [109] [] [⟨3,[],[⟨1,1,[],[]⟩],[],[]⟩]).cs) rfl rfl (BW (View.nils 1) (bH (p0:=(Sm.mk 3 [] [⟨1,1,[],[]⟩] [] []).cs) rfl (Sm.cs_len _) (cA (bH (p0:=(Ex.mk 1 1 [] []).cs) rfl (Ex.cs_len _) (jJ (View.nils 4))) (View.nils 5) (View.nils 5)))),KR,by decide,by omega,by omega⟩
   ·have h0:aS fns≠[]:=λh=>hfe (List.map_eq_nil_iff.1 h)
    simp only[cW,gm h0,eG h0]
    simp-implicitDefEqProofs[aa,hcf,hcl]
    refine⟨⟨by omega,by omega⟩,⟨by omega,by omega⟩,?_⟩
    have hrow:List.take fns.length (List.take fns.length (aS fns))++[[AV.p (.str f.name),.p (al f.params),.p (smL f.body)]]=aS (fns++[f]):=by
     rw[YU (by rw[Zl];omega),YU (by omega),HU];rfl
    rw[hrow]
    have vw:∀h:List AO,h[8]?=some (.row 3 (aS (fns++[f])))->View h (.sl 8 3 0 (fns.length+1)) (fdL (fns++[f])):=λh e=>by
     have:=Ac e
     rwa[YZ,List.length_singleton] at this
    refine((mA G (fns++[f]) (by rw[oO];simp only[aH,Zn,List.map_nil,List.sum_cons,List.sum_nil] at*;omega)).lend (.agg (.one (vw _ rfl) .nil) .nil) rfl).mono ?_
    rintro r h ⟨rfl,rfl⟩
    simp-implicitDefEqProofs[aa]
    by_cases hok:bA (fns++[f])=true
    ·simp-implicitDefEqProofs[hok]
     exact⟨fns++[f],q2,_,_,rfl,rfl,vw _ rfl,hok,by rw[oO];simp only[aH,Zn,List.map_nil,List.sum_cons,List.sum_nil] at*;omega,by omega,by omega⟩
    ·have hok':bA (fns++[f])=false:=by simpa using hok
     simp-implicitDefEqProofs[hok']
     exact⟨TO,q2,_,_,rfl,rfl,bH (p0:=(Fd.mk [109] [] [⟨3,[],[⟨1,1,[],[]⟩],[],[]⟩]).cs) rfl rfl (BW (View.nils 1) (bH (p0:=(Sm.mk 3 [] [⟨1,1,[],[]⟩] [] []).cs) rfl (Sm.cs_len _) (cA (bH (p0:=(Ex.mk 1 1 [] []).cs) rfl (Ex.cs_len _) (jJ (View.nils 4))) (View.nils 5) (View.nils 5)))),KR,by decide,by omega,by omega⟩
 ·rintro v h ⟨l,q,v0,rest,e,rfl,hv,h1,h2,h3,h4⟩
  cases e
  exact⟨_,[rdO b q],by simp,rfl,.agg (.one hv .nil) .nil,.same (bh _ _ _) (.nil _),l,q,rfl,rfl,h1,h2,h3,h4⟩
end
section
variable (G:am)
theorem Ej{hF:List AO}{n:Nat}{o k:Int}{w:List UInt8}{ks:List Ex}{K:AV}(hk:View hF K (exL ks)):Fzs hF n [.agg [.p (.int .i64 o),.p (.int .i64 k),.p (.str w),K]] [.agg ((Ex.mk o k w ks).cs.map .p)]:=by
 rw[Ex.cs_eq]
 exact .agg (.keep (by simp) (.keep (by simp) (.keep (by simp) (.one hk .nil)))) .nil
def Sb(h:List AO)(kids:List Ex)(K:AV):Prop:=(K= .nils/\kids=[])\/∃id rows hX,K= .sl (id+1) 4 0 kids.length/\kids≠[]/\h[id+1]?=some (.row 4 rows)/\hX.length=h.length/\(∀(i:Nat) o,hX[i]?=some o->o.live->h[i]?=some o)/\¬Live hX 0/\¬Live hX (id+1)/\
 rows.length=kids.length/\∀(j:Nat) (e e1:List AV),rows[j]?=some e->(exR kids)[j]?=some e1->Fzs hX h.length e e1
def DT(b:List Int)(Q:Ex->Nat->Prop)(x:ARes)(h:List AO):Prop:=∃(e:Ex) (q:Nat) (rest:List AO) (K:AV),x= .ret (.agg [.p (.int .i64 e.op),.p (.int .i64 e.n),.p (.str e.name),K])/\h=rdO b q::rest/\Sb h e.kids K/\Q e q
def EN(b:List Int)(Q:Ex->Nat->Prop)(x:ARes)(h:List AO):Prop:=∃(e:Ex) (q:Nat),x= .ret (.agg [.p (.int .i64 e.op),.p (.int .i64 e.n),.p (.str e.name),slE 1 4 (exR e.kids)])/\h=[rdO b q,bx 4 (exR e.kids)]/\Q e q
def EoQ(p n m:Nat)(e:Ex)(q:Nat):Prop:=e.sz<=n/\p<=q/\q<=p+m
theorem HP{hF:List AO}{n:Nat}:∀h:List AO,FzO hF n h (List.replicate h.length .dead)
 |[]=> .nil _
 |o::r=>by rw[Ze,List.replicate_succ];exact .dead (HP r)
theorem Hm{hF:List AO}{n sz:Nat}{es es1:List (List AV)}(hl:es.length=es1.length)(hv:∀(j:Nat) (e e1:List AV),es[j]?=some e->es1[j]?=some e1->Fzs hF n e e1):∀(h:List AO) (id:Nat),h[id]?=some (.row sz es)->FzO hF n h ((List.replicate h.length .dead).set id (.row sz es1))
 |[],id,e=>by simp at e
 |o::r,0,e=>by
  cases e
  rw[Ze,List.replicate_succ,List.set_cons_zero]
  exact .rows hl hv (HP r)
 |o::r,id+1,e=>by
  rw[Ze,List.replicate_succ,List.set_cons_succ]
  exact .dead (Hm hl hv r id (by simpa using e))
theorem Gr{f:FuncId}{args:List AV}{b:List Int}{p:Nat}{Q:Ex->Nat->Prop}(H:AC Tryz.prog G f args [rdO b p] (DT b Q)):AC Tryz.prog G f args [rdO b p] (EN b Q):=by
 refine H.wk (λt v h ⟨_,_,_,_,e,_⟩=>by cases e) ?_
 rintro v h ⟨e,q,rest,K,ev,rfl,hk,hq⟩
 cases ev
 rcases hk with⟨rfl,hk⟩|⟨id,rows,hX,rfl,hne,he,x1,x2,x3,x4,x5,x6⟩
 ·refine⟨_,_,?_,e,q,rfl,rfl,hq⟩
  have h0:exR e.kids=[]:=by rw[hk];rfl
  rw[h0,pM,Cw]
  exact Wk.ofL [0,0] (by simp) (by simp) (by simp[rdO,lb]) (by simp[below,ah,ren,bn]) (cr rfl (bh _ _ _) (fO (by simp) cm))
 ·have hr:exR e.kids≠[]:=λh=>hne (List.map_eq_nil_iff.1 h)
  have hrl:(exR e.kids).length=e.kids.length:=by simp[exR]
  rw[Zd] at he
  have hid:id<rest.length:=(YL.1 he).1
  refine⟨.agg [.p (.int .i64 e.op),.p (.int .i64 e.n),.p (.str e.name),slE 1 4 (exR e.kids)],[rdO b q,bx 4 (exR e.kids)],?_,e,q,rfl,rfl,hq⟩
  rw[eG hr,gm hr,hrl]
  refine Wk.trans (ts1:=[.agg [.p (.int .i64 e.op),.p (.int .i64 e.n),.p (.str e.name),.sl (id+1) 4 0 e.kids.length]]) (h1:=rdO b q::(List.replicate rest.length .dead).set id (.row 4 (exR e.kids))) (KQ (hX:=hX) (by simp) x1 x2 (λi ⟨o,e1,l1⟩ ⟨o2,e2,l2⟩=>?_) (by simp) rfl (λi u hi=>?_) (.same (bh _ _ _) (Hm (by rw[hrl];exact x5) x6 rest id he))) ?_
  ·cases i with
   |zero=>exact x3 ⟨o,e1,l1⟩
   |succ i=>
    by_cases hi:i=id
    ·subst hi;exact x4 ⟨o,e1,l1⟩
    ·rw[Zd,YM (Ne.symm hi),List.getElem?_replicate] at e2
     split at e2
     ·cases e2;exact l2
     ·cases e2
  ·cases i with
   |zero=>cases hi;exact .inr ⟨_,rfl,js (by simp[below,ah];exact hid)⟩
   |succ i=>simp at hi
  ·refine Wk.of [0,id+1] (by simp) (by simp) (by simp) (by simp[below,ah,ren,bn]) (cr rfl (bh _ _ _) (br ?_ (ey _) cm))
   rw[Zd,YR (by simpa using hid)]
theorem Bv{f:FuncId}{args:List AV}{b:List Int}{p:Nat}{Q:Ex->Nat->Prop}(H:AC Tryz.prog G f args [rdO b p] (EN b Q))(rest:List AO)(ha:ah 1 args):
 AC Tryz.prog G f args (rdO b p::rest) λx h=>∃(e:Ex) (q:Nat),x= .ret (.agg [.p (.int .i64 e.op),.p (.int .i64 e.n),.p (.str e.name),slE (rest.length+1) 4 (exR e.kids)])/\h=rdO b q::(rest++[bx 4 (exR e.kids)])/\Q e q:=by
 refine(H.frame (h:=rdO b p::rest) [0] (by simp) (HK (n:=1) ha) (cr rfl (bh _ _ _) cm)).mono ?_
 rintro x h ⟨x0,h0,⟨e,q,rfl,rfl,hq⟩,hl,rfl,rfl⟩
 have hp:∀σ,gf σ (bx 4 (exR e.kids))=bx 4 (exR e.kids):=λσ=>by
  unfold bx
  split
  ·rfl
  ·simp only[gf]
   rw[Zk (g:=id) λx hx=>eC _ x (ey _ x hx)];simp
 have hp2:∀σ,gf σ (rdO b q)=rdO b q:=λσ=>by simp[rdO,gf,bn,ren]
 refine⟨e,q,?_,?_,hq⟩
 ·simp[BG,ren,bn]
 ·have hl2:([rdO b q,bx 4 (exR e.kids)]:List AO).length-[rdO b p].length=1:=rfl
  rw[hl2]
  simp only[Ze,List.length_nil,Zz,List.take_succ_cons,List.take_zero,Zn,List.map_nil,hp2,List.drop_succ_cons,List.drop_zero,mrg,List.set_cons_zero,Zx,hp]
def LfQ(p:Nat)(v:AV)(q:Nat):Prop:=(∃(o n:Int) (s:List UInt8),v= .agg [.p (.int .i64 o),.p (.int .i64 n),.p (.str s),.nils]/\s.length<=8)/\p<=q/\q<=p+2
theorem MA{b:List Int}(hb:Byt b)(hl:b.length<=2000){p:Nat}(hp:p<=1000000000000)(names:List (List UInt8))(hn:zC names):AC Tryz.prog G dN [.ptr 0 2 0 0,.p (al names)] [rdO b p] λx h=>∃v q,x= .ret v/\h=[rdO b q]/\LfQ p v q:=by
 refine nr G (AC.go tX ?_)
 have hsl:al names= .lst 1 (names.map λw=>[.str w]):=rfl
 have fin1:∀(o n:Int) (s:List UInt8) (q:Nat) (rest:List AO),p<=q->q<=p+2->s.length<=8->DP b (LfQ p) (.ret (.agg [.p (.int .i64 o),.p (.int .i64 n),.p (.str s),.nils])) (rdO b q::rest):=λo n s q rest h1 h2 hs=>
  ⟨_,rest,q,_,rfl,rfl,js (by simp),⟨o,n,s,rfl,hs⟩,h1,h2⟩
 have num:∀(q:Nat) (h:List AO),q<=1000000000001->h[0]?=some (rdO b q)->h[2]?=some (iN [0,1,2,3,5,7,15,16,100,255])->_:=λq h hq h0 h1=>lW G hb hl (p:=q) (by omega) [0,1,2,3,5,7,15,16,100,255] (h:=h) (k:=2) (by simp) (by simp) (by omega) h0 h1
 by_cases hne:names=[]
 ·subst hne
  have hs0:al []= .lst 1 []:=rfl
  simp-implicitDefEqProofs[gU,hs0]
  refine(num p _ (by omega) rfl rfl).mono ?_
  rintro r h ⟨n,_,rfl,rfl⟩
  simp-implicitDefEqProofs[aa]
  exact fin1 _ _ _ _ _ (by omega) (by omega) (by simp)
 ·have hlen:¬names.length=0:=λh=>hne (ZE h)
  simp-implicitDefEqProofs[gU,hsl,hne]
  refine(aW G b hb hl p (by omega) 3 _).mono ?_
  rintro r h ⟨k,rfl,rfl,_⟩
  simp-implicitDefEqProofs[aa]
  refine bi (λhc=>?_) (λhc=>?_)
  ·simp-implicitDefEqProofs[]
   refine(num (p+1) _ (by omega) rfl rfl).mono ?_
   rintro r h ⟨n,_,rfl,rfl⟩
   simp-implicitDefEqProofs[aa]
   exact fin1 _ _ _ _ _ (by omega) (by omega) (by simp)
  ·simp-implicitDefEqProofs[]
   rw[←hsl]
   refine(Ku G hb hl (by omega) names hne (by have:=hn.1;omega) _).mono ?_
   rintro r h ⟨s,hs,rfl,rfl⟩
   have:=hn.2 s hs
   simp-implicitDefEqProofs[aa]
   exact fin1 _ _ _ _ _ (by omega) (by omega) this
theorem Mu{b:List Int}(hb:Byt b)(hl:b.length<=2000)(names:List (List UInt8))(hn:zC names)(d:Nat)(hd:d+1<=20){p:Nat}(hp:p+6*3^(d+1)<=1000000000000):AC Tryz.prog G bf [.ptr 0 2 0 0,.p (al names),.p (.int .i64 ((d+1:Nat):Int))] [rdO b p] (EN b (EoQ p (10*3^(d+1)) (6*3^(d+1)))):=by
 have hpow:3^(d+1)=3*3^d:=by rw[Nat.pow_succ];omega
 have h1p:1<=3^d:=Nat.one_le_pow _ _ (by omega)
 have ih:=λ{p:Nat} (hp:p+6*3^d<=1000000000000)=>CT G hb hl names hn d (by omega) (p:=p) hp
 rw[hpow] at hp⊢
 generalize 3^d=t at*
 have hw:IntKind.i64.wrap (d:Int)=(d:Int):=ab (by omega) (by omega)
 have leaf:∀(q:Nat) (rest:List AO),p<=q->q<=p+3->AC Tryz.prog G dN [.ptr 0 2 0 0,.p (al names)] (rdO b q::rest) λx h=>∃v q',x= .ret v/\h=rdO b q'::rest/\LfQ q v q':=λq rest _ _=>lL G (MA G hb hl (by omega) names hn) rest (by simp[below])
 have sub:∀(q:Nat) (rest:List AO),p<=q->q<=p+6+6*t->AC Tryz.prog G bf [.ptr 0 2 0 0,.p (al names),.p (.int .i64 d)] (rdO b q::rest) λx h=>∃v q',x= .ret v/\h=rdO b q'::rest/\ExQ q (10*t) (6*t) v q':=λq rest _ _=>lL G (ih (by omega)) rest (by simp[below])
 refine Gr G (AC.go od ?_)
 have leafCase:∀(o n:Int) (s:List UInt8) (q:Nat) (rest:List AO),s.length<=8->p<=q->q<=p+5->DT b (EoQ p (10*(3*t)) (6*(3*t))) (.ret (.agg [.p (.int .i64 o),.p (.int .i64 n),.p (.str s),.nils])) (rdO b q::rest):=λo n s q rest h1 h2 h3=>
  ⟨⟨o,n,s,[]⟩,q,rest,_,rfl,rfl,.inl ⟨rfl,rfl⟩,by simp[Ex.sz,aY];omega,h2,by omega⟩
 have top:∀(kids:List Ex) (h:List AO) (k:Nat),h[k+1]?=some (.row 4 (exR kids))->kids≠[]->Sb h kids (.sl (k+1) 4 0 kids.length):=λkids h k hk hne=>
  .inr ⟨k,exR kids,List.replicate h.length .dead,rfl,hne,hk,by simp,λi o e l=>(by rw[List.getElem?_replicate] at e;split at e<;>cases e;exact l.elim),λ⟨o,e,l⟩=>(by rw[List.getElem?_replicate] at e;split at e<;>cases e;exact l.elim),λ⟨o,e,l⟩=>(by rw[List.getElem?_replicate] at e;split at e<;>cases e;exact l.elim),by simp[exR],λj e e1 h1 h2=>(by rw[h1] at h2;cases h2;exact js (aJ (ZD _) _ (ey _ e (YS h1))))⟩
 have bin:∀(o:Int) (e1 e2:Ex) (q:Nat) (rest:List AO) (k:Nat),(rdO b q::rest)[k+1]?=some (.row 4 [e1.cs.map .p,e2.cs.map .p])->e1.sz<=10*t->e2.sz<=10*t->p<=q->q<=p+6*(3*t)->DT b (EoQ p (10*(3*t)) (6*(3*t))) (.ret (.agg [.p (.int .i64 o),.p (.int .i64 0),.p (.str []),.sl (k+1) 4 0 2])) (rdO b q::rest):=λo e1 e2 q rest k hk h1 h2 h3 h4=>
  ⟨⟨o,0,[],[e1,e2]⟩,q,rest,_,rfl,rfl,top [e1,e2] _ k hk (by simp),by simp[Ex.sz,aY];omega,h3,h4⟩
 have una:∀(o:Int) (e1:Ex) (q:Nat) (rest:List AO) (k:Nat),(rdO b q::rest)[k+1]?=some (.row 4 [e1.cs.map .p])->e1.sz<=10*t->p<=q->q<=p+6*(3*t)->DT b (EoQ p (10*(3*t)) (6*(3*t))) (.ret (.agg [.p (.int .i64 o),.p (.int .i64 0),.p (.str []),.sl (k+1) 4 0 1])) (rdO b q::rest):=λo e1 q rest k hk h1 h3 h4=>
  ⟨⟨o,0,[],[e1]⟩,q,rest,_,rfl,rfl,top [e1] _ k hk (by simp),by simp[Ex.sz,aY];omega,h3,h4⟩
 by_cases hd0:d=0
 ·subst hd0
  simp-implicitDefEqProofs[fv]
  refine(leaf p _ (by omega) (by omega)).mono ?_
  rintro r h ⟨v,q,rfl,rfl,⟨o,n,s,rfl,he⟩,h1,h2⟩
  simp-implicitDefEqProofs[aa]
  exact leafCase o n s q _ he (by omega) (by omega)
 have hd2:¬(d:Int)+1<2:=by omega
 simp-implicitDefEqProofs[fv,hd2]
 refine(aW G b hb hl p (by omega) 4 _).mono ?_
 rintro r h ⟨k1,rfl,rfl,_⟩
 simp-implicitDefEqProofs[aa]
 refine bi (λhc=>?_) (λhc=>?_)
 ·simp-implicitDefEqProofs[]
  refine(leaf (p+1) _ (by omega) (by omega)).mono ?_
  rintro r h ⟨v,q,rfl,rfl,⟨o,n,s,rfl,he⟩,h1,h2⟩
  simp-implicitDefEqProofs[aa]
  exact leafCase o n s q _ he (by omega) (by omega)
 simp-implicitDefEqProofs[]
 refine(aW G b hb hl (p+1) (by omega) 7 _).mono ?_
 rintro r h ⟨k2,rfl,rfl,_⟩
 simp-implicitDefEqProofs[aa]
 refine bi (λhc=>?_) (λhc=>?_)
 ·simp-implicitDefEqProofs[]
  refine(lW G hb hl (p:=p+2) (by omega) [11,12,11] (k:=2) (by simp) (by simp) (by omega) rfl rfl).mono ?_
  rintro r h ⟨n,_,rfl,rfl⟩
  simp-implicitDefEqProofs[aa,hw]
  refine(sub (p+3) _ (by omega) (by omega)).mono ?_
  rintro r h ⟨v,q,rfl,rfl,⟨e,rfl,he⟩,h1,h2⟩
  have hec:=e.cs_eq
  simp-implicitDefEqProofs[aa,hec]
  exact una n e q _ 2 (by rw[hec];rfl) he (by omega) (by omega)
 ·simp-implicitDefEqProofs[]
  refine(lW G hb hl (p:=p+2) (by omega) [3,3,4,5,6,7,8,9,10] (k:=2) (by simp) (by simp) (by omega) rfl rfl).mono ?_
  rintro r h ⟨n,_,rfl,rfl⟩
  simp-implicitDefEqProofs[aa,hw]
  refine(sub (p+3) _ (by omega) (by omega)).mono ?_
  rintro r h ⟨v,q,rfl,rfl,⟨e,rfl,he⟩,h1,h2⟩
  have hec:=e.cs_eq
  simp-implicitDefEqProofs[aa,hec,hw]
  refine(sub q _ (by omega) (by omega)).mono ?_
  rintro r h ⟨v,q2,rfl,rfl,⟨e2,rfl,he2⟩,h3,h4⟩
  have hec2:=e2.cs_eq
  simp-implicitDefEqProofs[aa,hec2]
  exact bin n e e2 q2 _ 2 (by rw[hec,hec2];rfl) he he2 (by omega) (by omega)
end
section
variable (G:am)
theorem VN{h:List AO}{kids:List Ex}{id:Nat}(he:h[id+1]?=some (bx 4 (exR kids))):Sb h kids (slE (id+1) 4 (exR kids)):=by
 by_cases hk:kids=[]
 ·subst hk;exact .inl ⟨rfl,rfl⟩
 ·have hr:exR kids≠[]:=λh=>hk (List.map_eq_nil_iff.1 h)
  rw[gm hr] at he
  rw[eG hr]
  have hrl:(exR kids).length=kids.length:=by simp[exR]
  rw[hrl]
  exact .inr ⟨id,exR kids,List.replicate h.length .dead,rfl,hk,he,by simp,λi o e l=>(by rw[List.getElem?_replicate] at e;split at e<;>cases e;exact l.elim),λ⟨o,e,l⟩=>(by rw[List.getElem?_replicate] at e;split at e<;>cases e;exact l.elim),λ⟨o,e,l⟩=>(by rw[List.getElem?_replicate] at e;split at e<;>cases e;exact l.elim),by simp[exR],λj e e1 h1 h2=>(by rw[h1] at h2;cases h2;exact js (aJ (ZD _) _ (ey _ e (YS h1))))⟩
theorem Ug(l:List Ex)(n:Nat):okO n (bx 4 (exR l)):=cw (Oc (ey l))
theorem OZ{hF:List AO}{n id:Nat}{e:Ex}(he:hF[id]?=some (bx 4 (exR e.kids))):Fzs hF n [.p (.int .i64 e.op),.p (.int .i64 e.n),.p (.str e.name),slE id 4 (exR e.kids)] (e.cs.map .p):=by
 rw[e.cs_eq]
 exact .keep (by simp) (.keep (by simp) (.keep (by simp) (.one (jz he) .nil)))
structure KdS where (k:Nat) (es:List Ex) (q:Nat)
theorem FM{b:List Int}(hb:Byt b)(hl:b.length<=2000){d:Nat}(hd:d+1<=7){p:Nat}(hp:p+20000<=1000000000000):AC Tryz.prog G iT [.ptr 0 2 0 0,.p (.int .i64 ((d+1:Nat):Int))] [rdO b p] (EN b (EoQ p 30000 20000)):=by
 refine Gr G (AC.go Fz ?_)
 have h3:3^(d+1)<=2187:=by
  have:3^(d+1)<=3^7:=Nat.pow_le_pow_right (by omega) hd
  omega
 have fin:∀(e:Ex) (q:Nat) (rest:List AO) (K:AV),Sb (rdO b q::rest) e.kids K->e.sz<=30000->p<=q->q<=p+20000->DT b (EoQ p 30000 20000) (.ret (.agg [.p (.int .i64 e.op),.p (.int .i64 e.n),.p (.str e.name),K])) (rdO b q::rest):=λe q rest K hk h1 h2 h3=>
  ⟨e,q,rest,K,rfl,rfl,hk,h1,h2,h3⟩
 have hn4:zC [[97],[98],[120],[103,111]]:=⟨by simp,by simp⟩
 have hn2:zC [[97],[98]]:=⟨by simp,by simp⟩
 simp-implicitDefEqProofs[yE]
 refine(AC.give (hX:=[.dead,.dead,dt [[97],[98],[120],[103,111]]]) (hR:=[rdO b p,.row 4 [[.p (.int .i64 0),.p (.int .i64 0),.p (.str []),.nils]],.dead]) (pargs:=[.ptr 0 2 0 0,.p (al [[97],[98],[120],[103,111]]),.p (.int .i64 ((d+1:Nat):Int))]) (.keep _ (.keep _ (.give _ .nil))) (.keep (by simp[below]) (.one (iH (l:=[[97],[98],[120],[103,111]]) rfl) (.keep (by simp) .nil))) (Bv G (Mu G hb hl _ hn4 d (by omega) (by omega)) _ (by simp[below]))).mono ?_
 rintro r h ⟨e0,q,rfl,rfl,he0,h1,h2⟩
 simp-implicitDefEqProofs[aa]
 refine(aW G b hb hl q (by omega) 3 _).mono ?_
 rintro r h ⟨k1,rfl,rfl,_⟩
 simp-implicitDefEqProofs[aa]
 refine bi (λhc=>?_) (λhc=>?_)
 ·simp-implicitDefEqProofs[]
  exact fin e0 _ _ _ (VN rfl) (by omega) (by omega) (by omega)
 simp-implicitDefEqProofs[]
 refine(Is G hb hl (p:=q+1) (by omega) [[102],[103],[97]] (k:=5) (by simp) (by simp) (by omega) rfl rfl).mono ?_
 rintro r h ⟨s,hs,rfl,rfl⟩
 have hsl:s.length<=8:=by simp at hs;rcases hs with rfl|rfl|rfl<;>simp
 simp-implicitDefEqProofs[aa]
 refine(aW G b hb hl (q+1+1) (by omega) 4 _).mono ?_
 rintro r h ⟨k2,rfl,rfl,hk2⟩
 simp-implicitDefEqProofs[aa]
 have hexn:∀(es:List Ex) (e:Ex),exR (es++[e])=exR es++[e.cs.map .p]:=λes e=>by simp[exR]
 refine aN (λs:KdS=>aj 42 [(7,.p (.int .i64 s.k)),(6,.ptr 6 4 0 0),(5,.ptr 4 4 0 0),(4,.ptr 1 4 0 0),(0,.ptr 0 2 0 0)])
  (λa=>[rdO b a.q,.row 4 [[.p (.int .i64 0),.p (.int .i64 0),.p (.str []),.nils]],.dead,bx 4 (exR e0.kids),.row 4 [[.p (.int .i64 e0.op),.p (.int .i64 e0.n),.p (.str e0.name),slE 3 4 (exR e0.kids)]],.row 1 [[.p (.str [102])],[.p (.str [103])],[.p (.str [97])]],
    .row 4 [[.p (.int .i64 13),.p (.int .i64 0),.p (.str s),slE 7 4 (exR a.es)]],bx 4 (exR a.es)])
  (λa=>a.k+a.es.length<=3/\aY a.es<=90*a.es.length/\q<=a.q/\a.q<=q+3+54*a.es.length) (λa=>a.k) ⟨k2,[],q+1+1+1⟩ ⟨by simp only[List.length_nil];omega,by simp[aY],by simp only;omega,by simp⟩
  (kQ (by simp) (by simp) (by
    intro o h
    simp only[Za,Zj,or_false] at h
    rcases h with rfl|rfl|rfl|rfl|rfl|rfl|rfl
    ·exact bh _ _ _
    ·simp[okO,below]
    ·simp[okO]
    ·exact Ug _ _
    ·simp[okO,below]
    ·simp[okO,below]
    ·simp[okO,below]) (by simp[below])) ?_
 rintro⟨k,es,q1⟩ ⟨i1,i2,i3,i4⟩
 simp only at i1 i2 i3 i4
 have hxl:(exR es).length=es.length:=by simp[exR]
 simp-implicitDefEqProofs[]
 refine bi (λhc=>?_) (λhc=>?_)
 ·simp at hc
  simp-implicitDefEqProofs[]
  have hE:=lL G (CT G hb hl _ hn2 2 (by omega) (p:=q1) (by omega)) ([.row 4 [[.p (.int .i64 0),.p (.int .i64 0),.p (.str []),.nils]],.dead,bx 4 (exR e0.kids),.row 4 [[.p (.int .i64 e0.op),.p (.int .i64 e0.n),.p (.str e0.name),slE 3 4 (exR e0.kids)]],.row 1 [[.p (.str [102])],[.p (.str [103])],[.p (.str [97])]],
   .row 4 [[.p (.int .i64 13),.p (.int .i64 0),.p (.str s),slE 7 4 (exR es)]],bx 4 (exR es)]) (by simp[below])
  refine hE.mono ?_
  rintro r h ⟨v,q2,rfl,rfl,⟨e,rfl,he⟩,hq1,hq2⟩
  have hec':=e.cs_eq
  simp-implicitDefEqProofs[aa,hec']
  refine⟨by rw[hxl];omega,⟨k-1,es++[e],q2⟩,⟨by simp;omega,by rw[gd];simp[aY];omega,by simp only;omega,by simp;omega⟩,by simp;omega,?_⟩
  have hwk:IntKind.i64.wrap ((k:Int)-1)=((k-1:Nat):Int):=by rw[ab (by omega) (by omega)];omega
  rw[hexn,sP _ (by simp),oQ _ (by simp),hec']
  refine dx [0,1,2,3,4,5,6,8] (by simp) (by decide) (by decide) (cr rfl (bh _ _ _) (da (by simp[below]) (by simp[ren,bn]) (fO (by simp) (QG rfl (ey _) (da (by simp[below]) (by simp[ren,bn]) (br rfl (by simp[below]) (da (by simp[below]) (by simp[ren,bn]) (br rfl (λx hx=>by
   rcases YV.1 hx with h|h
   ·exact ey _ x h
   ·rw[YQ.1 h];simp) cm)))))))) ?_
  simp[below,ren,hwk]
 ·simp at hc
  simp-implicitDefEqProofs[]
  refine(aW G b hb hl q1 (by omega) 2 _).mono ?_
  rintro r h ⟨k3,rfl,rfl,_⟩
  simp-implicitDefEqProofs[aa]
  refine bi (λhc2=>?_) (λhc2=>?_)
  ·simp-implicitDefEqProofs[]
   exact fin ⟨13,0,s,es⟩ (q1+1) _ _ (VN rfl) (by simp[Ex.sz];omega) (by omega) (by omega)
  ·simp-implicitDefEqProofs[]
   have hv:∀hF:List AO,hF[3]?=some (bx 4 (exR e0.kids))->hF[7]?=some (bx 4 (exR es))->∀(n j:Nat) (x x1:List AV),[[AV.p (.int .i64 e0.op),.p (.int .i64 e0.n),.p (.str e0.name),slE 3 4 (exR e0.kids)],[.p (.int .i64 13),.p (.int .i64 0),.p (.str s),slE 7 4 (exR es)]][j]?=some x->(exR [e0,⟨13,0,s,es⟩])[j]?=some x1->Fzs hF n x x1:=by
    intro hF h3 h7 n j x x1 a1 a2
    match j,a1,a2 with
    |0,a1,a2=>cases a1;cases a2;exact OZ h3
    |1,a1,a2=>cases a1;cases a2;exact OZ (e:=⟨13,0,s,es⟩) h7
    |j+2,a1,a2=>simp at a1
   refine fin ⟨3,0,[],[e0,⟨13,0,s,es⟩]⟩ (q1+1) _ _ (.inr ⟨7,_,[.dead,.dead,.dead,bx 4 (exR e0.kids),.dead,.dead,.dead,bx 4 (exR es),.dead],rfl,by simp[Ex.kids],rfl,rfl,λi o e l=>?_,λ⟨o,e,l⟩=>?_,λ⟨o,e,l⟩=>?_,rfl,hv _ rfl rfl _⟩) (by simp[Ex.sz,aY];omega) (by omega) (by omega)
   ·match i,e with
    |0,e=>cases e;exact l.elim
    |1,e=>cases e;exact l.elim
    |2,e=>cases e;exact l.elim
    |3,e=>exact e
    |4,e=>cases e;exact l.elim
    |5,e=>cases e;exact l.elim
    |6,e=>cases e;exact l.elim
    |7,e=>exact e
    |8,e=>cases e;exact l.elim
    |i+9,e=>simp at e
   ·cases e;exact l
   ·cases e;exact l
theorem Nl{b:List Int}(hb:Byt b)(hl:b.length<=2000){p:Nat}(hp:p+50000<=1000000000000):AC Tryz.prog G nZ [.ptr 0 2 0 0] [rdO b p] λx h=>∃v q,x= .ret v/\h=[rdO b q]/\ExQ p 60000 50000 v q:=by
 refine nr G (AC.go Ed ?_)
 have fin:∀(e:Ex) (q:Nat) (rest:List AO) (v:AV),Fzs (.dead::rest) 1 [v] [.agg (e.cs.map .p)]->e.sz<=60000->p<=q->q<=p+50000->DP b (ExQ p 60000 50000) (.ret v) (rdO b q::rest):=λe q rest v hz h1 h2 h3=>
  ⟨_,rest,q,.agg (e.cs.map .p),rfl,rfl,hz,⟨e,rfl,h1⟩,h2,h3⟩
 simp-implicitDefEqProofs[uk]
 refine(Bv G (FM G hb hl (d:=3) (by omega) (by omega)) _ (by simp[below])).mono ?_
 rintro r h ⟨e0,q,rfl,rfl,he0,h1,h2⟩
 have hsz:=e0.sz_eq
 have hkl:=bB e0.kids
 have hrl:(exR e0.kids).length=e0.kids.length:=by simp[exR]
 simp-implicitDefEqProofs[aa]
 refine(aW G b hb hl q (by omega) 20 _).mono ?_
 rintro r h ⟨k1,rfl,rfl,_⟩
 by_cases k10:k1=0
 ·subst k10
  simp-implicitDefEqProofs[aa]
  refine(lW G hb hl (p:=q+1) (by omega) [-1,256,3] (k:=4) (by simp) (by simp) (by omega) rfl rfl).mono ?_
  rintro r h ⟨n,_,rfl,rfl⟩
  simp-implicitDefEqProofs[aa]
  exact fin ⟨e0.op,n,e0.name,e0.kids⟩ _ _ _ (Ej (jz rfl)) (by simp[Ex.sz];omega) (by omega) (by omega)
 by_cases k11:k1=1
 ·subst k11
  simp-implicitDefEqProofs[aa]
  refine(Is G hb hl (p:=q+1) (by omega) [[],[100,111],[65],[97,98,99,100,101],[113]] (k:=4) (by simp) (by simp) (by omega) rfl rfl).mono ?_
  rintro r h ⟨s,hs,rfl,rfl⟩
  have hsl:s.length<=8:=by simp at hs;rcases hs with rfl|rfl|rfl|rfl|rfl<;>simp
  simp-implicitDefEqProofs[aa]
  exact fin ⟨e0.op,e0.n,s,e0.kids⟩ _ _ _ (Ej (jz rfl)) (by simp[Ex.sz];omega) (by omega) (by omega)
 by_cases k12:k1=2
 ·subst k12
  simp-implicitDefEqProofs[aa]
  refine(lW G hb hl (p:=q+1) (by omega) [0,14,-1,5,11] (k:=4) (by simp) (by simp) (by omega) rfl rfl).mono ?_
  rintro r h ⟨n,_,rfl,rfl⟩
  simp-implicitDefEqProofs[aa]
  exact fin ⟨n,e0.n,e0.name,e0.kids⟩ _ _ _ (Ej (jz rfl)) (by simp[Ex.sz];omega) (by omega) (by omega)
 by_cases k13:k1=3
 ·subst k13
  simp-implicitDefEqProofs[aa]
  refine(AC.give (pargs:=[.ptr 0 2 0 0,.p (al [])]) (Spl.rest _) (.keep (by simp[below]) (.one (View.nils 1) .nil)) (lL G (CM G hb hl (p:=q+1) (by omega) [] ⟨by simp,by simp⟩) _ (by simp[below]))).mono ?_
  rintro r h ⟨v,q2,rfl,rfl,⟨e1,rfl,he1⟩,h3,h4⟩
  have hec1:=e1.cs_eq
  have hx:exR (e0.kids++[e1])=exR e0.kids++[[.p (.int .i64 e1.op),.p (.int .i64 e1.n),.p (.str e1.name),.p (exL e1.kids)]]:=by simp[exR,hec1]
  have hne:exR (e0.kids++[e1])≠[]:=by simp[exR]
  simp-implicitDefEqProofs[aa,hec1]
  refine⟨by omega,?_⟩
  rw[←hx]
  have hl2:(exR e0.kids).length+1=(exR (e0.kids++[e1])).length:=by simp[exR]
  have hv:∀h:List AO,h[4]?=some (.row 4 (exR (e0.kids++[e1])))->View h (.sl 4 4 0 ((exR e0.kids).length+1)) (exL (e0.kids++[e1])):=λh e=>by
   have:=jz (h:=h) (id:=4) (l:=e0.kids++[e1]) (by rw[gm hne];exact e)
   rwa[eG hne,←hl2] at this
  exact fin ⟨e0.op,e0.n,e0.name,e0.kids++[e1]⟩ q2 _ _ (Ej (hv _ rfl)) (by simp[Ex.sz,gd,aY];omega) (by omega) (by omega)
 by_cases k14:k1=4
 ·subst k14
  simp-implicitDefEqProofs[aa]
  refine(Bv G (FM G hb hl (d:=6) (by omega) (by omega)) _ (by simp[below])).mono ?_
  rintro r h ⟨e1,q2,rfl,rfl,he1,h3,h4⟩
  simp-implicitDefEqProofs[aa]
  have hs1:=e1.sz_eq
  exact fin ⟨e1.op,e1.n,e1.name,e1.kids⟩ _ _ _ (Ej (jz rfl)) (by simp[Ex.sz];omega) (by omega) (by omega)
 have c1:¬(k1:Int)=1:=by omega
 have c2:¬(k1:Int)=2:=by omega
 have c3:¬(k1:Int)=3:=by omega
 have c4:¬(k1:Int)=4:=by omega
 simp-implicitDefEqProofs[aa,k10,c1,c2,c3,c4]
 exact fin ⟨e0.op,e0.n,e0.name,e0.kids⟩ _ _ _ (Ej (jz rfl)) (by simp[Ex.sz];omega) (by omega) (by omega)
end
section
variable (G:am)
def PgQ(p n m:Nat)(v:AV)(q:Nat):Prop:=(∃l:List Fd,v= .agg [.p (fdL l)]/\aH l<=n)/\p<=q/\q<=p+m
theorem EE{h:List AO}{id sz:Nat}{rows:List (List AV)}{es:List (List PV)}(he:h[id]?=some (.row sz rows))(hl:rows.length=es.length)(hs:∀e∈es,e.length=sz)(hv:∀(i j:Nat) (e:List PV) (q:PV) (e':List AV) (a:AV),es[i]?=some e->e[j]?=some q->rows[i]?=some e'->e'[j]?=some a->View h a q){n:Nat}(hn:n=es.length):View h (.sl id sz 0 n) (.lst sz es):=by
 subst hn
 exact .sl id sz 0 rows es he (by omega) hs λi j e q e' a a1 a2 a3 a4=>hv i j e q e' a a1 a2 (by rwa[Zz] at a3) a4
theorem uZ{h:List AO}{e:List PV}{j:Nat}{q:PV}{a:AV}(h1:e[j]?=some q)(h2:(e.map AV.p)[j]?=some a):View h a q:=by
 rw[Zb,h1] at h2;cases h2;exact .p _
theorem LH{h:List AO}{id k:Nat}{l:List Fd}{f:Fd}{P B:AV}(he:h[id]?=some (.row 3 ((aS l).set k [.p (.str f.name),P,B])))(hk:k<l.length)(hP:View h P (al f.params))(hB:View h B (smL f.body)){n:Nat}(hn:n=l.length):View h (.sl id 3 0 n) (fdL (l.set k f)):=by
 refine EE (es:=(l.set k f).map Fd.cs) he (by simp[aS]) (λe he=>by obtain⟨x,_,rfl⟩:=Zh.1 he;simp) (λi j e q e' a a1 a2 a3 a4=>?_) (by simpa using hn)
 rw[Zb] at a1
 by_cases hik:k=i
 ·subst hik
  rw[YR hk] at a1
  rw[YR (by simpa[aS] using hk)] at a3
  cases a1;cases a3
  exact BW (s:=f.name) (ps:=f.params) (bd:=f.body) hP hB j q a a2 a4
 ·rw[YM hik] at a1 a3
  obtain⟨g,g1,g2⟩:=YP.1 a1
  subst g2
  rw[aS,Zb,g1] at a3
  cases a3
  exact uZ a2 a4
theorem Lx{h:List AO}{id:Nat}{l:List (List UInt8)}{s:List UInt8}(he:h[id]?=some (.row 1 (List.take l.length (l.map λw=>[AV.p (.str w)])++[[.p (.str s)]]))):View h (.sl id 1 0 (l.length+1)) (al (l++[s])):=by
 have e:h[id]?=some (dt (l++[s])):=by rw[he,YU (by simp)];simp[dt]
 have:=iH e
 rwa[YZ,List.length_singleton] at this
theorem yL{h:List AO}{id:Nat}{l:List Sm}{s:Sm}{r:List AV}(he:h[id]?=some (.row 5 (List.take l.length (smR l)++[r])))(hr:∀(j:Nat) (q:PV) (a:AV),s.cs[j]?=some q->r[j]?=some a->View h a q):View h (.sl id 5 0 (l.length+1)) (smL (l++[s])):=by
 have hl:=gZ l
 refine EE (es:=(l++[s]).map Sm.cs) he (by simp[hl]) (λe he=>by obtain⟨x,_,rfl⟩:=Zh.1 he;simp) (λi j e q e' a a1 a2 a3 a4=>?_) (by simp)
 rw[YU (by omega)] at a3
 rw[List.map_append] at a1
 rcases Zy i l.length with hi|hi
 ·rw[YN (by simpa using hi)] at a1
  rw[YN (by omega)] at a3
  rw[Zb] at a1
  obtain⟨g,g1,g2⟩:=YP.1 a1
  subst g2
  rw[smR,Zb,g1] at a3
  cases a3
  exact uZ a2 a4
 ·rw[YT (by simpa using hi)] at a1
  rw[YT (by omega),hl] at a3
  simp only[Zu] at a1
  generalize i-l.length=k at a1 a3
  cases k with
  |zero=>cases a1;cases a3;exact hr j q a a2 a4
  |succ k=>simp at a1
theorem PZ{h:List AO}{id:Nat}{l:List Fd}{f:Fd}(he:h[id]?=some (.row 3 (List.take l.length (aS l)++[f.cs.map .p]))):View h (.sl id 3 0 (l.length+1)) (fdL (l++[f])):=by
 have hl:=Dp l
 have:=Ac (h:=h) (id:=id) (l:=l++[f]) (by rw[he,YU (by omega)];simp[aS])
 rwa[YZ,List.length_singleton] at this
theorem GZ(l:List Fd)(k:Nat)(f:Fd):aH (l.set k f)<=aH l+f.sz:=by
 by_cases hk:k<l.length
 ·rw[gV f hk]
  have e:l=l.take k++l.drop k:=(ZH _ _).symm
  have e2:l.drop k=l[k]::l.drop (k+1):=ZJ hk
  have h1:aH l=aH (l.take k)+aH (l.drop k):=by rw[←oO,←e]
  rw[oO]
  have h3:aH (f::l.drop (k+1))=f.sz+aH (l.drop (k+1)):=by simp[aH]
  have h4:aH (l.drop k)=l[k].sz+aH (l.drop (k+1)):=by rw[e2];unfold aH;rw[Zn,List.sum_cons]
  omega
 ·rw[List.set_eq_of_length_le (by omega)];omega
theorem EA{l:List Fd}{f:Fd}(h:f∈l):f.sz<=aH l:=by
 induction l with
 |nil=>cases h
 |cons x r ih=>
  have e:aH (x::r)=x.sz+aH r:=by simp[aH]
  rcases Za.1 h with rfl|h
  ·omega
  ·have:=ih h;omega
theorem DZ:AK.whole oC=FK.ak og:=rfl
structure NsS where (i:Nat) (o:Int) (w:List UInt8) (A B C:PV) (q:Nat)
structure BdS where (i:Nat) (bd:List Sm)
structure CfS where (f:Fd) (q:Nat)
theorem PY{b:List Int}(hb:Byt b)(hl:b.length<=2000){p:Nat}(hp:p<=10000000000):AC Tryz.prog G nX [.ptr 0 2 0 0] [rdO b p] λx h=>∃v q,x= .ret v/\h=[rdO b q]/\PgQ p 500000000 200200000 v q:=by
 refine nr G (AC.goK DJ DZ ?_)
 have hprog:AC Tryz.prog G dM [.ptr 0 2 0 0] [rdO b p] λx h=>∃v q,x= .ret v/\h=[rdO b q]/\((∃l:List Fd,v= .agg [.p (fdL l)]/\bA l=true/\aH l<=200000000)/\p<=q/\q<=p+200000000):=
  (Jm G hb hl hp).mono λx h ⟨l,q,e1,e2,e3,e4,e5,e6⟩=>⟨_,q,e1,e2,⟨l,rfl,e3,e4⟩,e5,e6⟩
 simp-implicitDefEqProofs[oC,og]
 refine(lL G hprog _ (by simp[below])).mono ?_
 rintro r h ⟨v,q,rfl,rfl,⟨l,rfl,hok,hz⟩,h1,h2⟩
 have hlen:=((fT l).1 hok).1
 obtain⟨n,hn⟩:∃n,l.length=n+1:=⟨l.length-1,by omega⟩
 have hnl:n<l.length:=by omega
 have hfz:=EA (Zf hnl)
 obtain⟨f,hfe⟩:∃f,l[n]=f:=⟨_,rfl⟩
 rw[hfe] at hfz
 have hg:l[n]?=some f:=by rw[YO hnl,hfe]
 have fin:∀(r1:List (Nat × AV)) (f':Fd) (q':Nat) (rest:List AO) (P B:AV),Aw.look r1 0= .ptr 0 2 0 0->Aw.look r1 2= .ptr 1 1 0 0->Aw.look r1 3= .ptr 2 1 0 0->Aw.look r1 4= .ptr 3 3 0 0->View (.dead:: .dead:: .dead:: .dead::rest) P (al f'.params)->View (.dead:: .dead:: .dead:: .dead::rest) B (smL f'.body)->f'.sz<=300000000->q<=q'->q'<=q+100000->
  ∃s:CfS,(s.f.sz<=300000000/\q<=s.q/\s.q<=q+100000)/\Wk 1 (aj 145 r1) (rdO b q':: .row 1 [[.nils]]:: .row 1 [[.p (.lst 3 (l.map Fd.cs))]]:: .row 3 [[.p (.str f'.name),P,B]]::rest) (aj 145 [(4,.ptr 3 3 0 0),(3,.ptr 2 1 0 0),(2,.ptr 1 1 0 0),(0,.ptr 0 2 0 0)])
   [rdO b s.q,.row 1 [[.nils]],.row 1 [[.p (.lst 3 (l.map Fd.cs))]],.row 3 [[.p (.str s.f.name),.p (al s.f.params),.p (smL s.f.body)]]]:=λr1 f' q' rest P B e0 e2 e3 e4 hP hB hz' h3 h4=>
  ⟨⟨f',q'⟩,⟨hz',h3,h4⟩,pE 4 (by omega) (by simp) rfl (.same (bh _ _ _) (.same (by simp[okO,below]) (.same (by simp[okO,below]) (.one (.keep (by simp[below]) (.one hP (.one hB .nil))) (.nil _))))) (by
    simp only[FzA,e0,e2,e3,e4]
    exact⟨.keep (by simp[below]) .nil,.keep (by simp[below]) .nil,.keep (by simp[below]) .nil,.keep (by simp[below]) .nil,trivial⟩)⟩
 have hfsz:f.sz=1+f.name.length+(f.params.length+(f.params.map List.length).sum)+ay f.body:=rfl
 have hln:l.length<=4:=hlen.2
 have hbl:=cC f.body
 have hcs:f.cs=[.str f.name,al f.params,smL f.body]:=rfl
 have hfl:fdL l= .lst 3 (l.map Fd.cs):=rfl
 have hw:IntKind.i64.wrap ((l.length:Int)-1)=(n:Int):=by rw[ab (by omega) (by omega)];omega
 have hsl:al f.params= .lst 1 (f.params.map λw=>[.str w]):=rfl
 have hml:smL f.body= .lst 5 (f.body.map Sm.cs):=rfl
 simp-implicitDefEqProofs[aa,hfl,hw,hg,hcs]
 refine zD (λ_:CfS=>aj 145 [(4,.ptr 3 3 0 0),(3,.ptr 2 1 0 0),(2,.ptr 1 1 0 0),(0,.ptr 0 2 0 0)]) (λs=>[rdO b s.q,.row 1 [[.nils]],.row 1 [[.p (.lst 3 (l.map Fd.cs))]],.row 3 [[.p (.str s.f.name),.p (al s.f.params),.p (smL s.f.body)]]])
  (λs=>s.f.sz<=300000000/\q<=s.q/\s.q<=q+100000) ?_ ?_
 rotate_left
 ·rintro⟨f',q'⟩ ⟨h3,h4,h5⟩
  simp only at h3 h4 h5
  simp-implicitDefEqProofs[hw,hnl,hfe,hcs]
  exact⟨⟨by omega,by omega⟩,_,_,q',.agg [.p (fdL (l.set n f'))],rfl,rfl,.agg (.one (LH (f:=f') rfl hnl (.p _) (.p _) rfl) .nil) .nil,⟨_,rfl,by have:=GZ l n f';omega⟩,by omega,by omega⟩
 simp-implicitDefEqProofs[]
 refine(aW G b hb hl q (by omega) 32 _).mono ?_
 rintro r h ⟨k,rfl,rfl,_⟩
 by_cases k0:k=0
 ·subst k0
  simp-implicitDefEqProofs[aa]
  refine(Is G hb hl (p:=q+1) (by omega) [[102],[100,111],[],[103]] (k:=4) (by simp) (by simp) (by omega) rfl rfl).mono ?_
  rintro r h ⟨s,hs,rfl,rfl⟩
  have hs8:s.length<=8:=by simp at hs;rcases hs with rfl|rfl|rfl|rfl<;>simp
  simp-implicitDefEqProofs[aa]
  exact fin _ ⟨s,f.params,f.body⟩ _ _ _ _ (by simp) (by simp) (by simp) (by simp) (.p _) (.p _) (by simp only[Fd.sz];omega) (by omega) (by omega)
 by_cases k1:k=1
 ·subst k1
  simp-implicitDefEqProofs[aa,hsl]
  refine⟨⟨by omega,by omega⟩,?_⟩
  refine(Is G hb hl (p:=q+1) (by omega) [[97],[120],[105,102]] (k:=6) (by simp) (by simp) (by omega) rfl rfl).mono ?_
  rintro r h ⟨s,hs,rfl,rfl⟩
  have hs8:s.length<=8:=by simp at hs;rcases hs with rfl|rfl|rfl<;>simp
  simp-implicitDefEqProofs[aa]
  refine⟨⟨by omega,by omega⟩,?_⟩
  exact fin _ ⟨f.name,f.params++[s],f.body⟩ _ _ _ _ (by simp) (by simp) (by simp) (by simp) (Lx rfl) (.p _) (by simp[Fd.sz];omega) (by omega) (by omega)
 by_cases k2:k=2
 ·subst k2
  simp-implicitDefEqProofs[aa,hml]
  refine⟨⟨by omega,by omega⟩,?_⟩
  refine(lL G (Nl G hb hl (p:=q+1) (by omega)) _ (by simp[below])).mono ?_
  rintro r h ⟨v,q2,rfl,rfl,⟨e,rfl,he⟩,h3,h4⟩
  have hec:=e.cs_eq
  simp-implicitDefEqProofs[aa,hec]
  refine⟨⟨by omega,by omega⟩,?_⟩
  exact fin _ ⟨f.name,f.params,f.body++[⟨3,[],[e],[],[]⟩]⟩ _ _ _ _ (by simp) (by simp) (by simp) (by simp) (.p _) (yL rfl (cA (fq (l:=[e]) (by rw[ZR,hec];rfl)) (View.nils 5) (View.nils 5))) (by simp[Fd.sz,bM,ay,Sm.sz,aY];omega) (by omega) (by omega)
 by_cases k3:k=3
 ·subst k3
  simp-implicitDefEqProofs[aa,hml]
  refine⟨⟨by omega,by omega⟩,?_⟩
  refine(aW G b hb hl (q+1) (by omega) 10 _).mono ?_
  rintro r h ⟨o,rfl,rfl,_⟩
  simp-implicitDefEqProofs[aa]
  refine(Is G hb hl (p:=q+1+1) (by omega) [[],[97],[122,122]] (k:=6) (by simp) (by simp) (by omega) rfl rfl).mono ?_
  rintro r h ⟨s,hs,rfl,rfl⟩
  have hs8:s.length<=8:=by simp at hs;rcases hs with rfl|rfl|rfl<;>simp
  simp-implicitDefEqProofs[aa]
  refine(Bv G (FM G hb hl (d:=1) (by omega) (p:=q+1+1+1) (by omega)) _ (by simp[below])).mono ?_
  rintro r h ⟨e,q2,rfl,rfl,he,h3,h4⟩
  simp-implicitDefEqProofs[aa]
  refine⟨⟨by omega,by omega⟩,?_⟩
  obtain⟨eo,en,es,ek⟩:=e
  exact fin _ ⟨f.name,f.params,f.body++[⟨o,s,[⟨eo,en,es,ek⟩],[],[]⟩]⟩ _ _ _ _ (by simp) (by simp) (by simp) (by simp) (.p _) (yL rfl (cA (bH (p0:=(Ex.mk eo en es ek).cs) rfl (Ex.cs_len _) (jJ (jz rfl))) (View.nils 5) (View.nils 5))) (by simp[Fd.sz,bM,ay,Sm.sz,aY];omega) (by omega) (by omega)
 by_cases k5:k=5
 ·subst k5
  simp-implicitDefEqProofs[aa]
  exact⟨_,_,q+1,.agg [.p (fdL [])],rfl,rfl,.agg (.one (View.nils 3) .nil) .nil,⟨[],rfl,by simp[aH]⟩,by omega,by omega⟩
 by_cases k7:k=7
 ·subst k7
  simp-implicitDefEqProofs[aa,hfl]
  have hl0:0<l.length:=by omega
  have hf0:=EA (Zf hl0)
  obtain⟨f0,hg0,hf0⟩:∃f0,l[0]?=some f0/\f0.sz<=aH l:=⟨_,YO hl0,hf0⟩
  have hc0:f0.cs=[.str f0.name,al f0.params,smL f0.body]:=rfl
  have hfa:aH (l++[f0])=aH l+f0.sz:=by rw[oO];simp[aH]
  simp-implicitDefEqProofs[hg0,hc0]
  exact⟨⟨by omega,by omega⟩,⟨by omega,by omega⟩,_,_,q+1,.agg [.p (fdL (l++[f0]))],rfl,rfl,.agg (.one (PZ rfl) .nil) .nil,⟨_,rfl,by omega⟩,by omega,by omega⟩
 by_cases k4:k=4
 ·subst k4
  simp-implicitDefEqProofs[aa]
  refine zD (λ_:NsS=>aj 145 [(5,.ptr 5 5 0 0),(4,.ptr 3 3 0 0),(3,.ptr 2 1 0 0),(2,.ptr 1 1 0 0),(0,.ptr 0 2 0 0)])
   (λa=>[rdO b a.q,.row 1 [[.nils]],.row 1 [[.p (.lst 3 (l.map Fd.cs))]],.row 3 [[.p (.str f.name),.p (al f.params),.p (smL f.body)]],.dead,.row 5 [[.p (.int .i64 a.o),.p (.str a.w),.p a.A,.p a.B,.p a.C]]])
   (λa=>(∃s:Sm,s.cs=[.int .i64 a.o,.str a.w,a.A,a.B,a.C]/\aY s.args<=1/\s.sz+2*a.i<=20)/\q+2<=a.q/\a.q+a.i<=q+10) ?_ ?_
  rotate_left
  ·rintro⟨i,o,w,A,B,C,q1⟩ ⟨⟨s,hse,j1,j2⟩,j3,j4⟩
   simp only at hse j1 j2 j3 j4
   have hss:∀(h:List AO) (id:Nat),h[id]?=some (.row 5 (List.take f.body.length (smR f.body)++[[.p (.int .i64 o),.p (.str w),.p A,.p B,.p C]]))->View h (.sl id 5 0 (f.body.length+1)) (smL (f.body++[s])):=λh id e=>yL e (λj q a a1 a2=>uZ (e:=[.int .i64 o,.str w,A,B,C]) (hse▸a1) a2)
   simp-implicitDefEqProofs[hml]
   refine⟨⟨by omega,by omega⟩,⟨by omega,by omega⟩,?_⟩
   exact fin _ ⟨f.name,f.params,f.body++[s]⟩ _ _ _ _ (by simp) (by simp) (by simp) (by simp) (.p _) (hss _ _ rfl) (by simp[Fd.sz,bM,ay];omega) (by omega) (by omega)
  simp-implicitDefEqProofs[]
  refine(aW G b hb hl (q+1) (by omega) 5 _).mono ?_
  rintro r h ⟨i0,rfl,rfl,hi0⟩
  simp-implicitDefEqProofs[aa]
  have hs0:(Sm.mk 6 [] [⟨1,0,[],[]⟩] [] []).cs=[.int .i64 6,.str [],exL [⟨1,0,[],[]⟩],smL [],smL []]:=Sm.cs_eq _
  refine aN (λa:NsS=>aj 145 [(6,.p (.int .i64 a.i)),(5,.ptr 5 5 0 0),(4,.ptr 3 3 0 0),(3,.ptr 2 1 0 0),(2,.ptr 1 1 0 0),(0,.ptr 0 2 0 0)])
   (λa=>[rdO b a.q,.row 1 [[.nils]],.row 1 [[.p (.lst 3 (l.map Fd.cs))]],.row 3 [[.p (.str f.name),.p (al f.params),.p (smL f.body)]],.dead,.row 5 [[.p (.int .i64 a.o),.p (.str a.w),.p a.A,.p a.B,.p a.C]]])
   (λa=>(∃s:Sm,s.cs=[.int .i64 a.o,.str a.w,a.A,a.B,a.C]/\aY s.args<=1/\s.sz+2*a.i<=20)/\q+2<=a.q/\a.q+a.i<=q+10) (λa=>a.i) ⟨i0,6,[],exL [⟨1,0,[],[]⟩],smL [],smL [],q+1+1⟩ ⟨⟨_,hs0,by simp[Sm.args,aY,Ex.sz],by simp[Sm.sz,aY,Ex.sz,ay];omega⟩,by simp only;omega,by simp only;omega⟩ ?_ ?_
  ·refine yX (hX:=[.dead,.dead,.dead,.dead,.row 4 [[.p (.int .i64 1),.p (.int .i64 0),.p (.str []),.nils]],.dead]) (by simp)
    (.same (bh _ _ _) (.same (by simp[okO,below]) (.same (by simp[okO,below]) (.same (by simp[okO,below]) (.give (.one ?_ .nil)))))) ?_
   ·exact .keep (by simp[below]) (.keep (by simp[below]) (.one (bH (p0:=(Ex.mk 1 0 [] []).cs) rfl (Ex.cs_len _) (jJ (View.nils 4))) (.one (View.nils 5) (.one (View.nils 5) .nil))))
   ·exact⟨.keep (by simp[below]) .nil,.keep (by simp[below]) .nil,.keep (by simp[below]) .nil,.keep (by simp[below]) .nil,.keep (by simp[below]) .nil,.keep (by simp[below]) .nil,trivial⟩
  rintro⟨i,o,w,A,B,C,q1⟩ ⟨⟨s,hse,j1,j2⟩,j3,j4⟩
  simp only at hse j1 j2 j3 j4
  have hcs1:∀n:Int,(Sm.mk n [] s.args [s] []).cs=[.int .i64 n,.str [],A,.lst 5 [[.int .i64 o,.str w,A,B,C]],.lst 5 []]:=λn=>by
   have hsa:=s.cs_eq
   rw[hse] at hsa
   simp only[List.cons.injEq] at hsa
   rw[Sm.cs_eq];simp only[Sm.op,Sm.name,Sm.args,Sm.body,Sm.els];rw[←hse,hsa.2.2.1];rfl
  have hsz:∀n:Int,(Sm.mk n [] s.args [s] []).sz=1+aY s.args+s.sz:=λn=>by simp[Sm.sz,ay]
  simp-implicitDefEqProofs[]
  refine bi (λhc=>?_) (λhc=>?_)
  ·simp at hc
   simp-implicitDefEqProofs[]
   refine(Gg G hb hl (p:=q1) (by omega) [5,6] (by simp) (by simp) _).mono ?_
   rintro r h ⟨n1,_,rfl,rfl⟩
   have hwk:IntKind.i64.wrap ((i:Int)-1)=((i-1:Nat):Int):=by rw[ab (by omega) (by omega)];omega
   simp-implicitDefEqProofs[aa]
   refine⟨⟨i-1,n1,[],A,.lst 5 [[.int .i64 o,.str w,A,B,C]],.lst 5 [],q1+1⟩,⟨⟨_,hcs1 n1,j1,by simp only[hsz];omega⟩,by simp only;omega,by simp only;omega⟩,by simp only;omega,?_⟩
   refine yX (hX:=[.dead,.dead,.dead,.dead,.dead,.dead]) (by simp) (.same (bh _ _ _) (.same (by simp[okO,below]) (.same (by simp[okO,below]) (.same (by simp[okO,below]) (.drop (.one (.keep (by simp[below]) (.keep (by simp[below]) (.keep (by simp[below]) (.keep (by simp[below]) (.one (View.nils 5) .nil))))) .nil)))))) ?_
   simp only[hwk]
   exact⟨.keep (by simp[below]) .nil,.keep (by simp[below]) .nil,.keep (by simp[below]) .nil,.keep (by simp[below]) .nil,.keep (by simp[below]) .nil,.keep (by simp[below]) .nil,trivial⟩
  ·simp at hc
   exact⟨⟨i,o,w,A,B,C,q1⟩,⟨⟨s,hse,j1,j2⟩,j3,j4⟩,je (m:=6) (by simp) (eE rfl rfl (ae (bh _ _ _) (ae (by simp[okO,below]) (ae (by simp[okO,below]) (ae (by simp[okO,below]) (ae (by simp[okO]) (ae (by simp[okO,below]) dX))))))) (by simp[below])⟩
 by_cases k6:k=6
 ·subst k6
  simp-implicitDefEqProofs[aa]
  refine(lW G hb hl (p:=q+1) (by omega) [20,40,41] (k:=4) (by simp) (by simp) (by omega) rfl rfl).mono ?_
  rintro r h ⟨i0,hi0,rfl,rfl⟩
  obtain⟨i,rfl,hi⟩:∃J:Nat,i0=J/\J<=41:=⟨i0.toNat,by simp at hi0;omega,by simp at hi0;omega⟩
  simp-implicitDefEqProofs[aa]
  refine aN (λa:BdS=>aj 145 [(7,.p (.int .i64 a.i)),(4,.ptr 3 3 0 0),(3,.ptr 2 1 0 0),(2,.ptr 1 1 0 0),(0,.ptr 0 2 0 0)])
   (λa=>[rdO b (q+1+1),.row 1 [[.nils]],.row 1 [[.p (.lst 3 (l.map Fd.cs))]],.row 3 [[.p (.str f.name),.p (al f.params),.p (smL a.bd)]]])
   (λa=>a.i<=41/\ay a.bd+10*a.i<=ay f.body+500) (λa=>a.i) ⟨i,f.body⟩ ⟨hi,by simp only;omega⟩ ?_ ?_
  ·exact je (m:=4) (by simp) (eE rfl rfl (ae (bh _ _ _) (ae (by simp[okO,below]) (ae (by simp[okO,below]) (ae (by simp[okO,below]) dX))))) (by simp[below])
  rintro⟨i1,bd⟩ ⟨j1,j2⟩
  simp only at j1 j2
  have hbl2:=cC bd
  have hml2:smL bd= .lst 5 (bd.map Sm.cs):=rfl
  simp-implicitDefEqProofs[hml2]
  refine bi (λhc=>?_) (λhc=>?_)
  ·simp at hc
   have hwk:IntKind.i64.wrap ((i1:Int)-1)=((i1-1:Nat):Int):=by rw[ab (by omega) (by omega)];omega
   simp-implicitDefEqProofs[hml2]
   refine⟨⟨by omega,by omega⟩,⟨by omega,by omega⟩,⟨i1-1,bd++[⟨3,[],[⟨1,i1,[],[]⟩],[],[]⟩]⟩,⟨by simp only;omega,by simp[bM,ay,Sm.sz,aY,Ex.sz];omega⟩,by simp only;omega,?_⟩
   refine pE 4 (by omega) (by simp) rfl (.same (bh _ _ _) (.same (by simp[okO,below]) (.same (by simp[okO,below]) (.one (.keep (by simp[below]) (.keep (by simp[below]) (.one (yL rfl (cA (bH (p0:=(Ex.mk 1 i1 [] []).cs) rfl (Ex.cs_len _) (jJ (View.nils 4))) (View.nils 5) (View.nils 5))) .nil))) (.nil _))))) ?_
   simp only[hwk]
   exact⟨.keep (by simp[below]) .nil,.keep (by simp[below]) .nil,.keep (by simp[below]) .nil,.keep (by simp[below]) .nil,.keep (by simp[below]) .nil,trivial⟩
  ·simp at hc
   exact fin _ ⟨f.name,f.params,bd⟩ _ _ _ _ (by simp) (by simp) (by simp) (by simp) (.p _) (.p _) (by simp[Fd.sz];omega) (by omega) (by omega)
 have c1:¬(k:Int)=1:=by omega
 have c2:¬(k:Int)=2:=by omega
 have c3:¬(k:Int)=3:=by omega
 have c4:¬(k:Int)=4:=by omega
 have c5:¬(k:Int)=5:=by omega
 have c6:¬(k:Int)=6:=by omega
 have c7:¬(k:Int)=7:=by omega
 simp-implicitDefEqProofs[aa,k0,c1,c2,c3,c4,c5,c6,c7]
 exact fin _ ⟨f.name,f.params,f.body⟩ _ _ _ _ (by simp) (by simp) (by simp) (by simp) (.p _) (.p _) (by simp only[Fd.sz];omega) (by omega) (by omega)
end
end Go.Proofs.YtokiapglmedipaaGreatDoor
