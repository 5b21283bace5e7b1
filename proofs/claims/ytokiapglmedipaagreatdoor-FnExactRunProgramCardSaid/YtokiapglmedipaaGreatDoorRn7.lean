/-
  Contracts and lemmas that the card needs, part 7.
-/
import Derived.Test.YtokiapglmedipaaGreatDoorRn6
import Derived.Recover
import Derived.Tactics
import Derived.Tactics2
namespace Go.Proofs.YtokiapglmedipaaGreatDoor
open Go Go.Aw
set_option maxRecDepth 100000
set_option maxHeartbeats 4000000
section
def aJ(l:List Fd)(sid cid:Nat)(s:S5)(e:Int)(o:Bool):AO:= .row 7 [[.p (fdL l),.sl sid 1 0 s.said.length,.p (.int .i64 e),.p (.int .i64 0),.sl cid 1 0 16,.p (.int .i64 s.left),.p (.bool o)]]
def bO(nid n:Nat)(uv:AV)(b:Bool)(x:Int):AO:= .row 4 [[.sl nid 1 0 n,uv,.p (.bool b),.p (.int .i64 x)]]
inductive UV (h:List AO):AV->Nat->List Int->Prop where
 |nn (uid:Nat):UV h .nils uid []
 |ss (uid:Nat) (xs t:List Int):h[uid]?=some (bf (xs++t))->UV h (.sl uid 1 0 xs.length) uid xs
theorem UV.frame{h h':List AO}{uv:AV}{uid:Nat}{xs:List Int}(H:UV h uv uid xs)(e:uid<h.length->h'[uid]?=h[uid]?):UV h' uv uid xs:=by
 cases H with
 |nn=>exact .nn _
 |ss _ _ t h1=>exact .ss _ _ t (by rw[e (Ua.1 h1).1];exact h1)
theorem UV.ne{h:List AO}{uv:AV}{uid:Nat}{xs:List Int}(H:UV h uv uid xs)(hx:0<xs.length):∃t,uv= .sl uid 1 0 xs.length/\h[uid]?=some (bf (xs++t)):=by
 cases H with
 |nn=>simp at hx
 |ss _ _ t h1=>exact⟨t,rfl,h1⟩
theorem UV.cell{h:List AO}{uv:AV}{uid:Nat}{xs:List Int}(H:UV h uv uid xs):uv.isCell=true/\uv.cells=[uv]:=by cases H<;>exact⟨rfl,rfl⟩
structure RI (R cid:Nat) (l:List Fd) (sid:Nat) (s:S5) (e:Int) (o:Bool) (h:List AO):Prop where
 run:h[R]?=some (aJ l sid cid s e o)
 said:h[sid]?=some (bf s.said)
 cells:h[cid]?=some (bf s.cells)
 ne:sid≠cid
structure EI (V nid uid:Nat) (uv:AV) (w:Sc5) (b:Bool) (x:Int) (h:List AO):Prop where
 env:h[V]?=some (bO nid w.length uv b x)
 names:∃t,h[nid]?=some (fU (w.map (·.1)++t))
 vals:UV h uv uid (w.map (·.2))
 ne:nid≠uid
 ul:uid<h.length
structure Ap (R V sid cid nid uid:Nat):Prop where
 ns:nid≠sid
 nc:nid≠cid
 us:uid≠sid
 uc:uid≠cid
 uR:uid≠R
 uV:uid≠V
section
variable {R cid:Nat} {l:List Fd} {sid:Nat} {s:S5} {e:Int} {o:Bool} {h h':List AO} {V nid uid:Nat} {uv:AV} {w:Sc5} {b:Bool} {x:Int}
theorem RI.lt(H:RI R cid l sid s e o h):R<h.length/\sid<h.length/\cid<h.length:=⟨(Ua.1 H.run).1,(Ua.1 H.said).1,(Ua.1 H.cells).1⟩
theorem RI.neR(H:RI R cid l sid s e o h):R≠sid/\R≠cid:=by
 refine⟨λe=>?_,λe=>?_⟩
 ·have h1:=H.run;rw[e,H.said] at h1;simp[aJ,bf] at h1
 ·have h1:=H.run;rw[e,H.cells] at h1;simp[aJ,bf] at h1
theorem RI.frame(H:RI R cid l sid s e o h)(a:h'[R]?=h[R]?)(b:h'[sid]?=h[sid]?)(c:h'[cid]?=h[cid]?):RI R cid l sid s e o h':=⟨a.trans H.run,b.trans H.said,c.trans H.cells,H.ne⟩
theorem RI.more(H:RI R cid l sid s e o h)(os:List AO):RI R cid l sid s e o (h++os):=
 have hl:=H.lt
 H.frame (Ue hl.1) (Ue hl.2.1) (Ue hl.2.2)
theorem EI.lt(H:EI V nid uid uv w b x h):V<h.length/\nid<h.length/\uid<h.length:=by
 obtain⟨t,h1⟩:=H.names
 exact⟨(Ua.1 H.env).1,(Ua.1 h1).1,H.ul⟩
theorem EI.neN(H:EI V nid uid uv w b x h):V≠nid:=by
 obtain⟨t,h1⟩:=H.names
 intro e
 have h3:=H.env;rw[e,h1] at h3;simp[bO,fU] at h3
theorem EI.neR(H:EI V nid uid uv w b x h){sid2:Nat}(K:RI R cid l sid2 s e o h):V≠R/\V≠sid2/\V≠cid/\nid≠R:=by
 obtain⟨t,h1⟩:=H.names
 have h3:=H.env
 refine⟨λe=>?_,λe=>?_,λe=>?_,λe=>?_⟩
 ·rw[e,K.run] at h3;simp[bO,aJ] at h3
 ·rw[e,K.said] at h3;simp[bO,bf] at h3
 ·rw[e,K.cells] at h3;simp[bO,bf] at h3
 ·rw[e,K.run] at h1;simp[fU,aJ] at h1
theorem EI.frame(H:EI V nid uid uv w b x h)(hl:h.length<=h'.length)(a:h'[V]?=h[V]?)(c:h'[nid]?=h[nid]?)(d:h'[uid]?=h[uid]?):EI V nid uid uv w b x h':=by
 obtain⟨t,h1⟩:=H.names
 exact⟨a.trans H.env,⟨t,c.trans h1⟩,H.vals.frame λ_=>d,H.ne,Uy H.ul hl⟩
theorem EI.more(H:EI V nid uid uv w b x h)(os:List AO):EI V nid uid uv w b x (h++os):=
 have hl:=H.lt
 H.frame (by simp) (Ue hl.1) (Ue hl.2.1) (Ue hl.2.2)
theorem EI.keep(H:EI V nid uid uv w b x h)(K:RI R cid l sid s e o h)(A:Ap R V sid cid nid uid)(F:Fr [R,sid,cid] h h'):EI V nid uid uv w b x h':=by
 obtain⟨a1,a2,a3,a4⟩:=H.neR K
 obtain⟨l1,l2,l3⟩:=H.lt
 exact H.frame F.1 (F.2 V l1 (by simp[a1,a2,a3])) (F.2 nid l2 (by simp[a4,A.ns,A.nc])) (F.2 uid l3 (by simp[A.uR,A.us,A.uc]))
theorem Ap.step{sid2:Nat}(H:EI V nid uid uv w b x h)(A:Ap R V sid cid nid uid)(f:sid2=sid\/h.length<=sid2):Ap R V sid2 cid nid uid:=by
 obtain⟨l1,l2,l3⟩:=H.lt
 obtain⟨a,b,c,d,e,f'⟩:=A
 rcases f with rfl|f
 ·exact⟨a,b,c,d,e,f'⟩
 ·exact⟨by omega,b,by omega,d,e,f'⟩
end
def bC{α:Type}:O5 α->Int
 | .ok _=>0
 | .st c=>c
def cX{α:Type}:O5 α->Bool
 | .ok _=>false
 | .st _=>true
def ExL(R cid:Nat)(l:List Fd)(sid:Nat)(h:List AO)(s':S5)(r:O5 Int)(x:ARes)(h':List AO):Prop:=
 ∃(n:Int) (sid':Nat),x= .ret (.p (.int .i64 n))/\V5 n/\(∀m,r= .ok m->n=m)/\RI R cid l sid' s' (bC r) (cX r) h'/\Fr [R,sid,cid] h h'/\(sid'=sid\/h.length<=sid')
def bkB:O5 (Option Int)->Bool
 | .ok (some _)=>true
 |_=>false
def bkV(x0:Int):O5 (Option Int)->Int
 | .ok (some n)=>n
 |_=>x0
def StL(R cid:Nat)(l:List Fd)(V sid nid uid:Nat)(h:List AO)(w:Sc5)(x0:Int)(s':S5)(r:O5 (Option Int))(x:ARes)(h':List AO):Prop:=
 ∃sid' nid' uid' uv',x= .ret (.tup [])/\RI R cid l sid' s' (bC r) (cX r) h'/\EI V nid' uid' uv' w (bkB r) (bkV x0 r) h'/\Ap R V sid' cid nid' uid'/\Fr [R,sid,cid,V,nid,uid] h h'/\(sid'=sid\/h.length<=sid')/\(nid'=nid\/h.length<=nid')/\(uid'=uid\/h.length<=uid')
end
section
def hZ(l:List Fd)(fuel:Nat)(sv:AV)(s:S5):AO:= .row 20 [[.p (fdL l),.p (.int .i64 fuel),.p (.int .i64 ((fuel-s.left:Nat):Int)),sv]++s.cells.map λn=> .p (.int .i64 n)]
inductive SaidAt (h:List AO):AV->Nat->List Int->Prop where
 |nn (sid:Nat):sid<h.length->SaidAt h .nils sid []
 |ss (sid:Nat) (xs:List Int):h[sid]?=some (bf xs)->SaidAt h (.sl sid 1 0 xs.length) sid xs
structure MI (M:Nat) (l:List Fd) (fuel:Nat) (sv:AV) (sid:Nat) (s:S5) (h:List AO):Prop where
 men:h[M]?=some (hZ l fuel sv s)
 said:SaidAt h sv sid s.said
 le:s.left<=fuel
 fu:fuel<=4000
 len:s.cells.length=16
def mpV(m:Sc5):List (PV × AV):=m.map λx=>(.str x.1,.p (.int .i64 x.2))
inductive Chn (h:List AO):AV->List Sc5->List Nat->Prop where
 |last (e m:Nat) (c:Sc5):h[e]?=some (.row 2 [[.mp m,.nilp]])->h[m]?=some (.mp (mpV c))->Chn h (.ptr e 2 0 0) [c] [e,m]
 |cons (e m:Nat) (c:Sc5) (u:AV) (v:List Sc5) (I:List Nat):h[e]?=some (.row 2 [[.mp m,u]])->h[m]?=some (.mp (mpV c))->Chn h u v I->Chn h (.ptr e 2 0 0) (c::v) (e::m::I)
section
variable {h h':List AO} {u:AV} {v:List Sc5} {I:List Nat}
theorem Chn.frame(H:Chn h u v I)(e:∀i∈I,h'[i]?=h[i]?):Chn h' u v I:=by
 induction H with
 |last a m c h1 h2=>exact .last a m c (by rw[e a (by simp)];exact h1) (by rw[e m (by simp)];exact h2)
 |cons a m c u v I h1 h2 _ ih=>exact .cons a m c u v I (by rw[e a (by simp)];exact h1) (by rw[e m (by simp)];exact h2) (ih λi hi=>e i (by simp[hi]))
theorem Chn.lt(H:Chn h u v I):∀i∈I,i<h.length:=by
 induction H with
 |last a m c h1 h2=>
  intro i hi
  simp only[Uj,UF,or_false] at hi
  rcases hi with rfl|rfl
  ·exact(Ua.1 h1).1
  ·exact(Ua.1 h2).1
 |cons a m c u v I h1 h2 _ ih=>
  intro i hi
  simp only[Uj] at hi
  rcases hi with rfl|rfl|hi
  ·exact(Ua.1 h1).1
  ·exact(Ua.1 h2).1
  ·exact ih i hi
theorem Chn.more(H:Chn h u v I)(os:List AO):Chn (h++os) u v I:=H.frame λi hi=>Ue (H.lt i hi)
theorem Chn.is(H:Chn h u v I):∃e,u= .ptr e 2 0 0/\e∈I/\e<h.length:=by
 cases H with
 |last a m c h1 h2=>exact⟨a,rfl,by simp,(Ua.1 h1).1⟩
 |cons a m c u v I h1 h2 _=>exact⟨a,rfl,by simp,(Ua.1 h1).1⟩
theorem Chn.apart(H:Chn h u v I){i sz:Nat}{es:List (List AV)}(hi:h[i]?=some (.row sz es))(hz:sz≠2):i∉I:=by
 induction H with
 |last a m c h1 h2=>
  simp only[Uj,UF,or_false,not_or]
  refine⟨λe=>?_,λe=>?_⟩
  ·subst e;rw[h1] at hi;simp only[Option.some.injEq,AO.row.injEq] at hi;exact hz hi.1.symm
  ·subst e;rw[h2] at hi;cases hi
 |cons a m c u v I h1 h2 _ ih=>
  simp only[Uj,not_or]
  refine⟨λe=>?_,λe=>?_,ih⟩
  ·subst e;rw[h1] at hi;simp only[Option.some.injEq,AO.row.injEq] at hi;exact hz hi.1.symm
  ·subst e;rw[h2] at hi;cases hi
theorem yO(s:List UInt8):∀m:Sc5,eS (.str s) (mpV m)=some ((bF m s).map λn=>AV.p (.int .i64 n))
 |[]=>rfl
 |x::r=>by
  have ih:=yO s r
  by_cases h:x.1=s
  ·simp[mpV,eS,keq,h,bF]
  ·have h':¬s=x.1:=λe=>h e.symm
   simp only[mpV,UA,eS,keq,h',decide_false]
   simp only[mpV] at ih
   rw[ih];simp[bF,h]
theorem tP(s:List UInt8)(n:Int):∀m:Sc5,gq (.str s) (.p (.int .i64 n)) (mpV m)=some (mpV (if(bF m s).isSome then sset m s n else m++[(s,n)]))
 |[]=>rfl
 |x::r=>by
  have ih:=tP s n r
  by_cases h:x.1=s
  ·simp[mpV,gq,keq,h,bF,sset]
  ·have h':¬s=x.1:=λe=>h e.symm
   simp only[mpV,UA,gq,keq,h',decide_false]
   simp only[mpV] at ih
   rw[ih,bF,if_neg h,sset,if_neg h]
   cases (bF r s).isSome<;>simp
theorem Chn.var(H:Chn h u v I)(nd:I.Nodup){s:List UInt8}{n:Int}(hv:gu v s=some n):
 ∃(e m:Nat) (c:Sc5) (w:AV),h[e]?=some (.row 2 [[.mp m,w]])/\h[m]?=some (.mp (mpV c))/\bF c s=some n/\m∈I/\∀k,Chn (h.set m (.mp (mpV (sset c s k)))) u (gN v s k) I:=by
 induction H with
 |last a m c h1 h2=>
  rw[gu] at hv
  have hm:=(Ua.1 h2).1
  have hne:m≠a:=λe=>by subst e;rw[h1] at h2;cases h2
  cases hs:bF c s with
  |none=>rw[hs] at hv;cases hv
  |some k=>
   rw[hs] at hv;cases hv
   refine⟨a,m,c,.nilp,h1,h2,hs,by simp,λq=>?_⟩
   rw[gN,hs]
   exact .last a m _ (by rw[Uc hne];exact h1) (Ug hm)
 |cons a m c u v I h1 h2 H ih=>
  rw[gu] at hv
  have hm:=(Ua.1 h2).1
  have hne:m≠a:=λe=>by subst e;rw[h1] at h2;cases h2
  simp only[UX,Uj,not_or] at nd
  cases hs:bF c s with
  |some k=>
   rw[hs] at hv;cases hv
   refine⟨a,m,c,u,h1,h2,hs,by simp,λq=>?_⟩
   rw[gN,hs]
   exact .cons a m _ u v I (by rw[Uc hne];exact h1) (Ug hm) (H.frame λi hi=>Uc (show m≠i from λe=>nd.2.1 (e▸hi)))
  |none=>
   rw[hs] at hv
   obtain⟨e',m',c',w,g1,g2,g3,g4,g5⟩:=ih nd.2.2 hv
   refine⟨e',m',c',w,g1,g2,g3,by simp[g4],λq=>?_⟩
   rw[gN,hs]
   have n1:m'≠a:=λe=>nd.1.2 (e▸g4)
   have n2:m'≠m:=λe=>nd.2.1 (e▸g4)
   exact .cons a m c u _ I (by rw[Uc n1];exact h1) (by rw[Uc n2];exact h2) (g5 q)
end
section
variable {M:Nat} {l:List Fd} {fuel:Nat} {sv:AV} {sid:Nat} {s:S5} {h h':List AO}
theorem SaidAt.frame{xs:List Int}(H:SaidAt h sv sid xs)(hl:h.length<=h'.length)(e:sv≠ .nils->h'[sid]?=h[sid]?):SaidAt h' sv sid xs:=by
 cases H with
 |nn _ h1=>exact .nn _ (Uy h1 hl)
 |ss _ _ h1=>exact .ss _ _ (by rw[e (by simp)];exact h1)
theorem SaidAt.lt{xs:List Int}(H:SaidAt h sv sid xs):sid<h.length:=by
 cases H with
 |nn _ h1=>exact h1
 |ss _ _ h1=>exact(Ua.1 h1).1
theorem MI.lt(H:MI M l fuel sv sid s h):M<h.length:=(Ua.1 H.men).1
theorem MI.frame(H:MI M l fuel sv sid s h)(hl:h.length<=h'.length)(a:h'[M]?=h[M]?)(b:h'[sid]?=h[sid]?):MI M l fuel sv sid s h':=⟨a.trans H.men,H.said.frame hl λ_=>b,H.le,H.fu,H.len⟩
theorem SaidAt.more{xs:List Int}(H:SaidAt h sv sid xs)(os:List AO):SaidAt (h++os) sv sid xs:=H.frame (by simp) λ_=>Ue H.lt
theorem MI.more(H:MI M l fuel sv sid s h)(os:List AO):MI M l fuel sv sid s (h++os):=
 ⟨by rw[Ue H.lt];exact H.men,H.said.more os,H.le,H.fu,H.len⟩
theorem SaidAt.cell{xs:List Int}(H:SaidAt h sv sid xs):sv.isCell=true/\sv.cells=[sv]:=by cases H<;>exact⟨rfl,rfl⟩
end
end
end Go.Proofs.YtokiapglmedipaaGreatDoor
namespace Go.Aw
open Go
section
variable {G:aq} {W:World} {S:Nat->Prop} {φ:Aw.Place} {h:List AO}
theorem HRel.box_at(H:HRel G W S φ h){id:Nat}{x:Int}(e:h[id]?=some (.row 1 [[.p (.int .i64 x)]])):
 W.cell? ⟨(φ id).1,(φ id).2,none⟩=some (.int .i64 x)/\W.frozen? ⟨(φ id).1,(φ id).2,none⟩=false/\
  ∀c:Int,HRel G (W.setCell ⟨(φ id).1,(φ id).2,none⟩ (.int .i64 c)) S φ (h.set id (.row 1 [[.p (.int .i64 c)]]))/\Keep W S φ h (W.setCell ⟨(φ id).1,(φ id).2,none⟩ (.int .i64 c)) S φ (h.set id (.row 1 [[.p (.int .i64 c)]])):=by
 obtain⟨c0,t0,fr,a1,a2,a3,a4,a5⟩:=H.obj id 1 _ e
 obtain⟨_,v,b1,b2⟩:=a5 0 (.p (.int .i64 x)) rfl
 have hv:=bs b2
 subst hv
 rw[Nat.add_zero] at b1
 have hlt:(φ id).2<c0.size:=(Uz.1 b1).1
 refine⟨by simp only[World.cell?,a1];simpa using b1,?_,λc=>?_⟩
 ·simp only[World.frozen?,a1]
  have:=a2 _ hlt
  simp only[not_and,Nat.not_lt] at this
  by_cases hq:fr.1<=(φ id).2
  ·have:=this hq
   simp[hq];omega
  ·simp[hq]
 ·have B:=rx (off:=(φ id).2) a1 (.int .i64 c)
  refine H.update e a1 (by simp) B (by simpa using a2) (λq hq=>by rw[Up.1 hq];rfl) (by simpa using a4) λj u hj=>?_
  cases j with
  |zero=>
   cases hj
   refine⟨rfl,.int .i64 c,?_,.p _ _ (.int _ _)⟩
   rw[Nat.add_zero,Array.getElem?_setIfInBounds_self_of_lt hlt]
  |succ j=>simp at hj
end
theorem JN{P:Program}{ops:Array Oper}{Q:Exit->Act->World->Prop}{o:Oper}{rest:List Oper}{a:Act}{w w':World}{v:Value}(hg:o.guard=none)(hr:(execOp a.eval o).run P w= .halt (.panic v) w')(h:Q (.panic [{v,recovered:=false}]) a w'):wpList P ops Q (o::rest) a w:=by
 simp only[wpList]
 rw[if_pos (by simp[Region.wanted,hg])]
 refine .inl ?_
 unfold Oper.wp
 rw[hr]
 exact h
theorem Lb{P:Program}{ops:Array Oper}{Q:Exit->Act->World->Prop}{o:Oper}{rest:List Oper}{a:Act}{w w':World}{d:Deferred}(hg:o.guard=none)(hr:(execOp a.eval o).run P w= .ok (.defer d) w')(h:wpList P ops Q rest ({a with defers:=d::a.defers}.put o.dst undef) w'):wpList P ops Q (o::rest) a w:=by
 simp only[wpList]
 rw[if_pos (by simp[Region.wanted,hg])]
 refine .inl ?_
 unfold Oper.wp
 rw[hr]
 exact h
theorem Gz{P:Program}{ops:Array Oper}{Q:Exit->Act->World->Prop}{o:Oper}{rest:List Oper}{a:Act}{w w':World}(hg:o.guard=none)(hr:(execOp a.eval o).run P w= .ok .skip w')(h:wpList P ops Q rest (a.put o.dst undef) w'):wpList P ops Q (o::rest) a w:=by
 simp only[wpList]
 rw[if_pos (by simp[Region.wanted,hg])]
 refine .inl ?_
 unfold Oper.wp
 rw[hr]
 exact h
theorem Lx{P:Program}{ops:Array Oper}{Q:Exit->Act->World->Prop}{o:Oper}{rest:List Oper}{a:Act}{w w':World}{f:FuncId}{vs:Array Value}{R:Ending->World->Prop}(hg:o.guard=none)(hr:(execOp a.eval o).run P w= .ok (.enter f vs) w')
 (hc:Calls P f vs w' R)(h1:∀v w2,R (.returned v) w2->wpList P ops Q rest (a.put o.dst v) w2)(h2:∀chain w2,R (.panicked chain) w2->Q (.panic chain) a w2)(h3:∀w2,¬R .outgrown w2):wpList P ops Q (o::rest) a w:=by
 simp only[wpList]
 rw[if_pos (by simp[Region.wanted,hg])]
 refine .inl ?_
 unfold Oper.wp
 rw[hr,Oper.upon_enter]
 refine hc.mono λe w2 r=>?_
 cases e with
 |returned v=>exact h1 v w2 r
 |panicked chain=>exact h2 chain w2 r
 |outgrown=>exact(h3 w2 r).elim
theorem rN{P:Program}{f:FuncId}(hc:fH P f=true)(args caps:Array Value)(w:World):(invoke (.fn (.func f) caps) args).run P w= .ok (.enter f (args++caps)) w:=by
 unfold fH at hc
 split at hc
 ·rename_i fn hf
  simp only[Ut,Bool.not_eq_true',beq_eq_false_iff_ne] at hc
  obtain⟨hb,hn⟩:=hc
  obtain⟨c,hb⟩:=Option.isSome_iff_exists.1 hb
  simp[invoke,callFunc,hf,hn,hb]
 ·cases hc
end Go.Aw
namespace Go.Proofs.YtokiapglmedipaaGreatDoor
open Go Go.Aw
set_option maxRecDepth 100000
set_option maxHeartbeats 4000000
section
abbrev bt:TypeId:=179
variable (G:aq)
theorem eG{a:Act}{d d':Nat}{v:Value}(h:d≠d'):(a.put (some d) v).eval (.tmp d')=a.eval (.tmp d'):=by simp[Act.eval,Act.put,h]
theorem eD{a:Act}{d:Option Nat}{v:Value}:(a.put d v).tmps.size=a.tmps.size:=by cases d<;>simp[Act.put]
theorem zl{a:Act}{d:Option Nat}{v:Value}:(a.put d v).defers=a.defers:=by cases d<;>rfl
theorem yQ{P:Program}{code:Code}{Q:Exit->Act->World->Prop}{a:Act}{w:World}(T:Act->Prop)(ha:T a)(h:∀a,T a->Code.wp P code Q a w):Code.wp P code Q a w:=h a ha
theorem OJ(v:Value)(w:World):(Instr.typeAssert (.iface bt v) 20 bt true).run Tryz.prog w= .ok (.tuple #[v,.bool true]) w:=by
 have:Tryz.prog.underlying bt=some (.int .i64):=by kernel_rfl
 simp[Instr.typeAssert,run_underlying this]
theorem FO(c:Int)(h:List AO):AC Tryz.prog G lz [.p (.int .i64 c)] h λx h'=>x= .pan bt (.int .i64 c)/\h'=h:=by
 refine AC.enterC Tryz.func212 rfl (rs:=[]) (by kernel_rfl) (by kernel_rfl) λW S φ a hH s0=>?_
 have h0:a.eval (.tmp 0)= .int .i64 c:=by
  have:=s0.trel.get 0 (.p (.int .i64 c)) rfl
  exact bs this
 have hsz:a.tmps.size=4:=s0.trel.size
 refine wp_region_list (cM (v:= .int .i64 c) (w':=W) rfl ?_ (cM (v:= .iface bt (.int .i64 c)) (w':=W) rfl ?_ (JN (v:= .iface bt (.int .i64 c)) (w':=W) rfl ?_ ?_)))
 ·simp[execOp,h0]
 ·have:((a.put (some 2) (.int .i64 c))).eval (.tmp 2)= .int .i64 c:=cA (by omega)
  simp[execOp,this,Instr.makeInterface]
 ·have:(((a.put (some 2) (.int .i64 c)).put (some 3) (.iface bt (.int .i64 c)))).eval (.tmp 3)= .iface bt (.int .i64 c):=cA (by simp[Act.put];omega)
  simp[execOp,this,Instr.panic]
 ·exact⟨.pan bt (.int .i64 c),_,h,S,φ,⟨rfl,rfl⟩,.pan _ _ _ (.int _ _),(s0.put (some 2) (.p _ _ (.int _ _)) s0.hrel (Keep.refl s0.hrel)).put (some 3) (.any _) s0.hrel (Keep.refl s0.hrel)⟩
theorem PE(p:Addr)(w:World):
 CallsD Tryz.prog aZ #[.pointer (some p)] .returning w λe u' w'=>e= .returned (.tuple #[])/\u'= .returning/\w'=w:=by
 refine callsD_of_wpS Tryz.func157 rfl λc₀ cs hu=>?_
 have hr0:Tryz.f157.results=#[]:=by kernel_rfl
 have hres:∀t,(results Tryz.f157 t).run Tryz.prog w= .ok (.tuple #[]) w:=λt=>by simp[results,hr0]
 apply wpS_seq
 apply wpS_region
 simp[wpOpsS,go_sem,recoverD,hu,Exit.thenS]
 apply wpS_seq
 apply wpS_region
 simp[wpOpsS,go_sem,recoverD,Exit.thenS]
 refine wpS_cond (t:=false) (by simp[Act.eval,Array.replicate]) ?_
 simp only[Bool.false_eq_true,if_false]
 refine wpS_of_wp (wp_skip ?_)
 refine⟨rfl,.returning,?_,_,hres _,rfl,rfl,rfl⟩
 cases c₀
 simp only at hu
 rw[hu]
theorem PY(p:Addr)(x c:Int)(w:World)(hc:w.cell? p=some (.int .i64 x))(hz:w.frozen? p=false):
 CallsD Tryz.prog aZ #[.pointer (some p)] (.panicking [{v:= .iface bt (.int .i64 c),recovered:=false}]) w λe u' w'=>
  e= .returned (.tuple #[])/\u'= .panicking [{v:= .iface bt (.int .i64 c),recovered:=true}]/\w'=w.setCell p (.int .i64 c):=by
 refine callsD_of_wpS Tryz.func157 rfl λc₀ cs hu=>?_
 have hr0:Tryz.f157.results=#[]:=by kernel_rfl
 have hres:∀t w,(results Tryz.f157 t).run Tryz.prog w= .ok (.tuple #[]) w:=λt w=>by simp[results,hr0]
 apply wpS_seq
 apply wpS_region
 simp[wpOpsS,go_sem,recoverD,hu,Exit.thenS]
 apply wpS_seq
 apply wpS_region
 simp[wpOpsS,go_sem,recoverD,Exit.thenS]
 refine wpS_cond (t:=true) (by simp[Act.eval,Array.replicate]) ?_
 simp only[if_true]
 refine wpS_of_wp ?_
 refine yQ (λa=>a.eval (.tmp 0)= .pointer (some p)/\a.eval (.tmp 1)= .iface bt (.int .i64 c)/\a.tmps.size=16/\a.defers=[]) ⟨by simp[Act.eval],by simp[Act.eval],by simp,rfl⟩ λa ⟨h0,h1,hs,hd⟩=>?_
 apply wp_seq
 refine wp_region_list ?_
 refine cM (v:= .iface bt (.int .i64 c)) (w':=w) rfl (by simp[execOp,h1]) ?_
 refine cM (v:= .tuple #[.int .i64 c,.bool true]) (w':=w) rfl (by simp[execOp,cA,hs,OJ]) ?_
 refine cM (v:= .tuple #[.int .i64 c,.bool true]) (w':=w) rfl (by simp[execOp,cA,eD,hs]) ?_
 refine cM (v:= .int .i64 c) (w':=w) rfl (by simp[execOp,cA,eD,hs,Instr.extract]) ?_
 refine cM (v:= .bool true) (w':=w) rfl (by simp[execOp,eG,cA,eD,hs,Instr.extract]) ?_
 refine cM (v:= .int .i64 c) (w':=w) rfl (by simp[execOp,eG,cA,eD,hs]) ?_
 refine cM (v:= .bool true) (w':=w) rfl (by simp[execOp,eG,cA,eD,hs]) ?_
 refine yQ (λa=>a.eval (.tmp 0)= .pointer (some p)/\a.eval (.tmp 3)= .bool true/\a.eval (.tmp 2)= .int .i64 c/\a.tmps.size=16/\a.defers=[]) ⟨by simp[eG,h0],by simp[cA,eD,hs],by simp[eG,cA,eD,hs],by simp[eD,hs],by simp only[zl,hd]⟩ λa ⟨h0,h3,h2,hs,hd⟩=>?_
 have h0':a.tmps[0]= .pointer (some p):=by simpa[Act.eval,hs] using h0
 apply wp_seq
 apply wp_seq
 refine wp_region_list ?_
 refine cM (v:= .bool true) (w':=w) rfl (by simp[execOp,h3]) ?_
 refine cM (v:= .bool false) (w':=w) rfl (by simp[execOp,cA,hs,go_sem]) ?_
 refine wp_cond (t:=false) (by simp[cA,eD,hs]) (wp_skip ?_)
 refine wp_region_list ?_
 refine cM (v:= .int .i64 c) (w':=w) rfl (by simp[execOp,eG,h2]) ?_
 refine Gz (w':=w.setCell p (.int .i64 c)) rfl (by simp[execOp,eG,cA,eD,h0',hs,go_sem,hc,hz]) ?_
 refine⟨by simp only[zl,hd],_,rfl,_,hres _ _,rfl,rfl,rfl⟩
theorem Od{p:Addr}{c:Int}{w:World}(hc:w.cell? p=some (.int .i64 c)){t:Array Value}(ht:t.getD 2 undef= .pointer (some p)):(results Tryz.f105 t).run Tryz.prog w= .ok (.int .i64 c) w:=by
 have hr0:Tryz.f105.results=#[.cell 2 3]:=by kernel_rfl
 have hi:Tryz.prog.underlying 3=some (.int .i64):=by kernel_rfl
 rw[UL] at ht
 simp[results,hr0,ht,loadVar,asAddr,isAgg,run_underlying hi,go_sem,hc]
def Tq(id:Nat)(R:ARes->List AO->Prop)(x:ARes)(h':List AO):Prop:=
 ∃c:Int,(x= .ret (.tup [])/\c=0\/x= .pan bt (.int .i64 c))/\h'[id]?=some (.row 1 [[.p (.int .i64 0)]])/\R (.ret (.p (.int .i64 c))) (h'.set id (.row 1 [[.p (.int .i64 c)]]))
theorem Kl(F:FuncId)(caps:List AV)(h:List AO)(R:ARes->List AO->Prop)(HF:AC Tryz.prog G F caps (h++[.row 1 [[.p (.int .i64 0)]]]) (Tq h.length R)):
 AC Tryz.prog G re [.fn (.func F) caps] h R:=by
 refine⟨by kernel_rfl,λW S φ vs hH hA=>calls_of_wp_defers Tryz.func105 rfl ?_⟩
 have s:St G W S φ h W S φ {tmps:=vs++Array.replicate (6-vs.size) undef,defers:=[]} [.fn (.func F) caps,.any,.any,.any,.any,.any] h:=by
  refine⟨hH,⟨by simp[hA.1],λi v hi=>?_⟩,rfl,Keep.refl hH⟩
  match i,hi with
  |0,hi=>
   cases hi
   have hl:0<vs.size:=by rw[hA.1];simp
   have:(vs++Array.replicate (6-vs.size) undef).getD 0 undef=vs[0]:=by
    rw[UL,Array.getElem?_append_left hl,UB hl];rfl
   rw[this]
   exact hA.2 0 _ _ rfl (UB hl)
  |1,hi=>cases hi;exact .any _
  |2,hi=>cases hi;exact .any _
  |3,hi=>cases hi;exact .any _
  |4,hi=>cases hi;exact .any _
  |5,hi=>cases hi;exact .any _
 refine yQ (λa=>St G W S φ h W S φ a [.fn (.func F) caps,.any,.any,.any,.any,.any] h) s λa s=>?_
 refine wp_seq (Ry (k:= .reg [⟨some 2,none,.alloc [.p (.int .i64 0)]⟩]) (by kernel_rfl) s (Q:=λx ts' h'=>x= .normal/\ts'=[.fn (.func F) caps,.any,.ptr h.length 1 0 0,.any,.any,.any]/\h'=h++[.row 1 [[.p (.int .i64 0)]]]) (by simp) ?_)
 rintro x ts' h1 S1 φ1 e a1 W1 ⟨rfl,rfl,rfl⟩ hx s1 K1
 cases hx
 have hsz:a1.tmps.size=6:=s1.trel.size
 have hp2:a1.tmps.getD 2 undef= .pointer (some ⟨(φ1 h.length).1,(φ1 h.length).2,none⟩):=by
  have:=s1.trel.get 2 _ rfl
  generalize a1.tmps.getD 2 undef=x at this
  cases this with
  |ptr _ _ _ _ _=>simp
 obtain⟨cv,hp0,hcv⟩:∃cv:Array Value,a1.tmps.getD 0 undef= .func (.func F) #[] cv/\lI W1 S1 φ1 (h++[.row 1 [[.p (.int .i64 0)]]]:List AO).length caps cv:=by
  have:=s1.trel.get 0 _ rfl
  generalize a1.tmps.getD 0 undef=x at this
  cases this with
  |fn _ _ cv h1 h2=>exact⟨cv,rfl,h1,h2⟩
 have hd:=s1.defers
 generalize hp:(⟨(φ1 h.length).1,(φ1 h.length).2,none⟩:Addr)=p at hp2
 refine wp_seq (wp_region_list ?_)
 refine cM (v:= .func (.func aZ) #[] #[.pointer (some p)]) (w':=W1) rfl ?_ ?_
 ·have:a1.eval (.tmp 2)= .pointer (some p):=hp2
  simp[execOp,this,Instr.makeFunc]
 refine Lb (d:={target:= .fn (.func aZ) #[.pointer (some p)],args:=#[]}) (w':=W1) rfl ?_ ?_
 ·have:(a1.put (some 3) (.func (.func aZ) #[] #[.pointer (some p)])).eval (.tmp 3)= .func (.func aZ) #[] #[.pointer (some p)]:=cA (by rw[hsz];decide)
  simp[execOp,this,resolve,Deferred.ofValue]
 generalize hP:(λ(e:Ending) (W':World)=>∃r S' φ' h',R r h'/\HRel G W' S' φ' h'/\ERel W' S' φ' h'.length r e/\Keep W S φ h W' S' φ' h')=RR
 have fin:∀(W2 W3:World) (S2:Nat->Prop) (φ2:Aw.Place) (h2:List AO) (c:Int),HRel G W2 S2 φ2 h2->Keep W1 S1 φ1 (h++[.row 1 [[.p (.int .i64 0)]]]) W2 S2 φ2 h2->h2[h.length]?=some (.row 1 [[.p (.int .i64 0)]])->
  R (.ret (.p (.int .i64 c))) (h2.set h.length (.row 1 [[.p (.int .i64 c)]]))->W3=W2.setCell p (.int .i64 c)->∀t:Array Value,t.getD 2 undef= .pointer (some p)->Leaves Tryz.prog Tryz.f105 t RR [] .returning W3:=λW2 W3 S2 φ2 h2 c H2 K2 hb hR hw t ht=>by
  subst hw
  have hφ:(⟨(φ2 h.length).1,(φ2 h.length).2,none⟩:Addr)=p:=by rw[K2.same h.length (by simp)];exact hp
  obtain⟨b1,b2,b3⟩:=H2.box_at hb
  obtain⟨b4,b5⟩:=b3 c
  rw[hφ] at b4 b5
  obtain⟨c1,_,_⟩:=b4.box_at (id:=h.length) (x:=c) (by rw[Ug (Ua.1 hb).1])
  rw[hφ] at c1
  refine⟨_,Od c1 ht,?_⟩
  rw[←hP]
  exact⟨_,_,_,_,hR,b4,.ret _ _ (.p _ _ (.int _ _)),s1.keep.trans (K2.trans b5)⟩
 refine yQ (λa=>a.tmps.size=6/\a.tmps.getD 2 undef= .pointer (some p)/\a.tmps.getD 0 undef= .func (.func F) #[] cv/\a.defers=[{target:= .fn (.func aZ) #[.pointer (some p)],args:=#[]}]) ⟨by simp[Act.put,hsz],?_,?_,by simp[Act.put,hd]⟩ λa2 ⟨hz2,hq2,hq0,hdf⟩=>?_
 ·refine Eq.trans ?_ hp2
  simp[Act.put]
 ·refine Eq.trans ?_ hp0
  simp[Act.put]
 refine wp_seq (wp_region_list ?_)
 refine cM (v:= .func (.func F) #[] cv) (w':=W1) rfl ?_ ?_
 ·have:a2.eval (.tmp 0)= .func (.func F) #[] cv:=hq0
  simp[execOp,this]
 refine Lx (vs:=#[]++cv) (w':=W1) rfl ?_ (HF.2 W1 S1 φ1 _ s1.hrel (by simpa using hcv)) (λv w2 ⟨r,S2,φ2,h2,⟨c,k1,k2,k3⟩,H2,E2,K2⟩=>?_) (λchain w2 ⟨r,S2,φ2,h2,⟨c,k1,k2,k3⟩,H2,E2,K2⟩=>?_) (λw2 ⟨r,S2,φ2,h2,⟨c,k1,k2,k3⟩,H2,E2,K2⟩=>by cases E2)
 ·have:(a2.put (some 4) (.func (.func F) #[] cv)).eval (.tmp 4)= .func (.func F) #[] cv:=cA (by rw[hz2];decide)
  simp[execOp,this,resolve,Deferred.ofValue,rN HF.1]
 ·have hb:=H2.box_at k2
  have hφ:(⟨(φ2 h.length).1,(φ2 h.length).2,none⟩:Addr)=p:=by rw[K2.same h.length (by simp)];exact hp
  rw[hφ] at hb
  obtain⟨b1,b2,b3⟩:=hb
  have hv:r= .ret (.tup [])/\c=0:=by
   rcases k1 with h|h
   ·exact h
   ·subst h;cases E2
  obtain⟨_,rfl⟩:=hv
  refine yQ (λa=>a.tmps.size=6/\a.tmps.getD 2 undef= .pointer (some p)/\a.defers=[{target:= .fn (.func aZ) #[.pointer (some p)],args:=#[]}]) ⟨by simp[Act.put,hz2],?_,by simp[Act.put,hdf]⟩ λa3 ⟨hz3,hr2,hdf3⟩=>?_
  ·refine Eq.trans ?_ hq2
   simp[Act.put]
  refine wp_seq (wp_region_list ?_)
  have hr2':a3.tmps[2]= .pointer (some p):=by simpa[hz3] using hr2
  refine Gz (w':=w2.setCell p (.int .i64 0)) rfl (by simp[execOp,Act.eval,hr2',hz3,go_sem,b1,b2]) ?_
  refine wp_ret ?_
  show Leaves _ _ _ _ _ _ _
  have ht:(a3.put none undef).tmps.getD 2 undef= .pointer (some p):=hr2
  have e1:(a3.put none undef).defers=[{target:= .fn (.func aZ) #[.pointer (some p)],args:=#[]}]:=hdf3
  rw[e1]
  refine leaves_cons (by simp) (rN (by kernel_rfl) _ _ _) ((PE p _).mono λe u' w' hh=>?_)
  obtain⟨rfl,rfl,rfl⟩:=hh
  exact fin w2 _ S2 φ2 h2 0 H2 K2 k2 k3 rfl _ ht
 ·have hb:=H2.box_at k2
  have hφ:(⟨(φ2 h.length).1,(φ2 h.length).2,none⟩:Addr)=p:=by rw[K2.same h.length (by simp)];exact hp
  rw[hφ] at hb
  obtain⟨b1,b2,b3⟩:=hb
  have hv:r= .pan bt (.int .i64 c):=by
   rcases k1 with h|h
   ·obtain⟨h,_⟩:=h;subst h;cases E2
   ·exact h
  subst hv
  have hch:chain=[{v:= .iface bt (.int .i64 c),recovered:=false}]:=by
   cases E2 with
   |pan _ _ x hx=>rw[bs (φ:=φ2) (hp:=0) (.p _ _ hx)]
  subst hch
  show Leaves _ _ _ _ _ _ _
  have ht:(a2.put (some 4) (.func (.func F) #[] cv)).tmps.getD 2 undef= .pointer (some p):=by
   refine Eq.trans ?_ hq2
   simp[Act.put]
  have e1:(a2.put (some 4) (.func (.func F) #[] cv)).defers=[{target:= .fn (.func aZ) #[.pointer (some p)],args:=#[]}]:=hdf
  rw[e1]
  refine leaves_cons (by simp) (rN (by kernel_rfl) _ _ _) ((PY p 0 c _ b1 b2).mono λe u' w' hh=>?_)
  obtain⟨rfl,rfl,rfl⟩:=hh
  exact fin w2 _ S2 φ2 h2 c H2 K2 k2 k3 rfl _ ht
end
section
def M5(s:S5):Nat:=s.said.length+s.left
def Ff:J5->Prop
 | .ex _ _ s _ s' _=>M5 s'<=M5 s/\s'.left<=s.left
 | .exs _ _ s _ s' _=>M5 s'<=M5 s/\s'.left<=s.left
 | .cal _ _ s s' _=>M5 s'<=M5 s/\s'.left<=s.left
 | .stm _ v s _ v' s' _=>M5 s'<=M5 s+1/\s'.left<=s.left/\(aw v').length+s'.left<=(aw v).length+s.left+1
 | .blk _ v s _ v' s' _=>M5 s'<=M5 s/\s'.left<=s.left/\(aw v').length+s'.left<=(aw v).length+s.left
 | .lp _ v s _ v' s' _=>M5 s'<=M5 s/\s'.left<=s.left/\(aw v').length+s'.left<=(aw v).length+s.left
theorem sP(m:Sc5)(v:List Sc5):(aw v).length<=(aw (m::v)).length:=by simp[aw]
theorem lh(v:List Sc5):(aw ([]::v)).length=(aw v).length:=by simp[aw]
theorem GW{s:S5}{F:Nat}(h:s.left=F+1):M5 (s.at_ F)+1=M5 s/\(s.at_ F).left+1=s.left:=by
 simp only[M5,S5.at_]
 omega
theorem HD(s:List UInt8)(n:Int)(v:List Sc5):(aw (gN v s n)).length=(aw v).length:=gB (vW s n v)
theorem no{l:List Fd}{j:J5}(h:Ev l j):Ff j:=by
 induction h with
 |num _ _=>exact⟨Uf _,Uf _⟩
 |var _ _=>exact⟨Uf _,Uf _⟩
 |call _ _ _ _ _ i1 i2=>exact⟨Uv i2.1 i1.1,Uv i2.2 i1.2⟩
 |callS _ _ i1=>exact i1
 |firstS _ _ _ _ i1=>exact i1
 |and0 _ _ _ i1=>exact i1
 |and1 _ _ _ _ _ i1 i2=>exact⟨Uv i2.1 i1.1,Uv i2.2 i1.2⟩
 |andS _ _ _ _ _ i1 i2=>exact⟨Uv i2.1 i1.1,Uv i2.2 i1.2⟩
 |not _ _ _ i1=>exact i1
 |at_ _ _ _ _ _ i1=>exact i1
 |atS _ _ _ _ i1=>exact i1
 |bin _ _ _ _ _ _ i1 i2=>exact⟨Uv i2.1 i1.1,Uv i2.2 i1.2⟩
 |binS _ _ _ _ _ i1 i2=>exact⟨Uv i2.1 i1.1,Uv i2.2 i1.2⟩
 |binD _ _ _ _ _ _ i1 i2=>exact⟨Uv i2.1 i1.1,Uv i2.2 i1.2⟩
 |nil=>exact⟨Uf _,Uf _⟩
 |cons _ _ i1 i2=>exact⟨Uv i2.1 i1.1,Uv i2.2 i1.2⟩
 |consS _ i1=>exact i1
 |consT _ _ i1 i2=>exact⟨Uv i2.1 i1.1,Uv i2.2 i1.2⟩
 |cal _ _ _ i1=>exact⟨i1.1,i1.2.1⟩
 |bnil=>exact⟨Uf _,Uf _,Uf _⟩
 |bfuel _=>exact⟨Uf _,Uf _,Uf _⟩
 |bgo hl _ _ i1 i2=>
  obtain⟨a,b⟩:=GW hl
  obtain⟨c1,c2,c3⟩:=i1
  obtain⟨d1,d2,d3⟩:=i2
  exact⟨by omega,by omega,by omega⟩
 |bend hl _ _ i1=>
  obtain⟨a,b⟩:=GW hl
  obtain⟨c1,c2,c3⟩:=i1
  exact⟨by omega,by omega,by omega⟩
 |argS _ _ _ i1=>exact⟨by have:=i1.1;omega,i1.2,by have:=i1.2;omega⟩
 |slet _ _ _ hv _ i1=>
  subst hv
  refine⟨by have:=i1.1;omega,i1.2,?_⟩
  have:=i1.2
  simp only[aw,Uu,Ur,List.length_nil]
  omega
 |sset _ _ _ _ i1=>exact⟨by have:=i1.1;omega,i1.2,by rw[HD];have:=i1.2;omega⟩
 |ssay _ _ _ i1=>
  obtain⟨a,b⟩:=i1
  refine⟨?_,b,?_⟩
  ·simp only[M5,S5.say,Uu,Ur,List.length_nil] at a⊢;omega
  ·simp only[S5.say];omega
 |sput _ _ _ _ _ i1 i2=>
  obtain⟨a,b⟩:=i1
  obtain⟨c,d⟩:=i2
  refine⟨?_,?_,?_⟩
  ·simp only[M5,S5.put] at a c⊢;omega
  ·simp only[S5.put];omega
  ·simp only[S5.put];omega
 |sputC _ _ _ _ _ i1 i2=>exact⟨by have:=i1.1;have:=i2.1;omega,by have:=i1.2;have:=i2.2;omega,by have:=i1.2;have:=i2.2;omega⟩
 |sputS _ _ _ _ i1 i2=>exact⟨by have:=i1.1;have:=i2.1;omega,by have:=i1.2;have:=i2.2;omega,by have:=i1.2;have:=i2.2;omega⟩
 | @sif k v s x a s1 n m v' s2 q _ _ _ _ i1 i2=>
   obtain⟨a,b⟩:=i1
   obtain⟨c1,c2,c3⟩:=i2
   have:=sP m v'
   rw[lh] at c3
   exact⟨by omega,by omega,by omega⟩
 |sloop _ _ i1=>exact⟨by have:=i1.1;omega,i1.2.1,by have:=i1.2.2;omega⟩
 |sback _ _ _ i1=>exact⟨by have:=i1.1;omega,i1.2,by have:=i1.2;omega⟩
 |sdo _ _ _ i1=>exact⟨by have:=i1.1;omega,i1.2,by have:=i1.2;omega⟩
 |lpS _ _ i1=>exact⟨i1.1,i1.2,by have:=i1.2;omega⟩
 |lp0 _ _ i1=>exact⟨i1.1,i1.2,by have:=i1.2;omega⟩
 | @lpEnd k v s x a s1 n m v' s2 q _ _ _ _ _ i1 i2=>
   obtain⟨a,b⟩:=i1
   obtain⟨c1,c2,c3⟩:=i2
   have:=sP m v'
   rw[lh] at c3
   exact⟨by omega,by omega,by omega⟩
 | @lpFuel k v s x a s1 n m v' s2 _ _ _ _ _ i1 i2=>
   obtain⟨a,b⟩:=i1
   obtain⟨c1,c2,c3⟩:=i2
   have:=sP m v'
   rw[lh] at c3
   exact⟨by omega,by omega,by omega⟩
 | @lpGo k v s x a s1 n m v' s2 F v'' s3 q _ _ _ _ hl _ i1 i2 i3=>
   obtain⟨a,b⟩:=i1
   obtain⟨c1,c2,c3⟩:=i2
   obtain⟨e1,e2⟩:=GW hl
   obtain⟨d1,d2,d3⟩:=i3
   have:=sP m v'
   rw[lh] at c3
   exact⟨by omega,by omega,by omega⟩
end
section
section
variable {M:Nat} {l:List Fd} {fuel:Nat} {sv:AV} {sid:Nat} {s s2:S5} {h h':List AO}
theorem MI.neS(H:MI M l fuel sv sid s h)(hs:sv≠ .nils):M≠sid:=by
 intro e
 have h1:=H.men
 have h2:=H.said
 generalize s.said=xs at h2
 cases h2 with
 |nn _ _=>exact hs rfl
 |ss _ _ h2=>rw[e,h2] at h1;simp[hZ,bf] at h1
theorem MI.upd(H:MI M l fuel sv sid s h)(h1:s2.said=s.said)(h2:s2.left<=s.left)(h3:s2.cells.length=16):MI M l fuel sv sid s2 (h.set M (hZ l fuel sv s2)):=
 ⟨Ug H.lt,by rw[h1];exact H.said.frame (by rw[UI];exact Uf _) λhs=>Uc (H.neS hs),Uv h2 H.le,H.fu,h3⟩
end
def WhR(h:List AO)(u:AV)(v:List Sc5)(I:List Nat)(s:List UInt8)(n:Int)(e:Nat):Prop:=
 ∃(m:Nat) (c:Sc5) (w:AV),h[e]?=some (.row 2 [[.mp m,w]])/\h[m]?=some (.mp (mpV c))/\bF c s=some n/\m∈I/\(∀k,Chn (h.set m (.mp (mpV (sset c s k)))) u (gN v s k) I)
theorem po{m:Sc5}{s:List UInt8}{n:Int}(h:bF m s=some n):(bF m s).isSome=true:=by rw[h];rfl
theorem NA{h:List AO}{e:Nat}{v:List Sc5}{I:List Nat}{s:List UInt8}{n:Int}(H:Chn h (.ptr e 2 0 0) v I)(nd:I.Nodup)(hv:gu v s=some n):
 ∃(m:Nat) (c:Sc5) (r:List Sc5) (w:AV),v=c::r/\h[e]?=some (.row 2 [[.mp m,w]])/\h[m]?=some (.mp (mpV c))/\
  (∀k,bF c s=some k->WhR h (.ptr e 2 0 0) v I s n e)/\((w= .nilp/\(bF c s).isSome=true)\/∃e2 I2,w= .ptr e2 2 0 0/\Chn h w r I2/\I2.Nodup/\(bF c s=none->gu r s=some n/\∀e3,WhR h w r I2 s n e3->WhR h (.ptr e 2 0 0) v I s n e3)):=by
 cases H with
 |last _ m c h1 h2=>
  have hm:=(Ua.1 h2).1
  have hne:m≠e:=λq=>by subst q;rw[h1] at h2;cases h2
  have hs:bF c s=some n:=by
   rw[gu] at hv
   cases hq:bF c s with
   |none=>rw[hq] at hv;cases hv
   |some k=>rw[hq] at hv;exact hv
  refine⟨m,c,[],.nilp,rfl,h1,h2,λk hk=>⟨m,c,.nilp,h1,h2,hs,by simp,λq=>?_⟩,.inl ⟨rfl,po hs⟩⟩
  rw[gN,if_pos (po hs)]
  exact .last e m _ (by rw[Uc hne];exact h1) (Ug hm)
 |cons _ m c u r I h1 h2 H=>
  have hm:=(Ua.1 h2).1
  have hne:m≠e:=λq=>by subst q;rw[h1] at h2;cases h2
  simp only[UX,Uj,not_or] at nd
  obtain⟨e2,rfl,_,_⟩:=H.is
  refine⟨m,c,r,_,rfl,h1,h2,λk hk=>⟨m,c,_,h1,h2,?_,by simp,λq=>?_⟩,.inr ⟨e2,I,rfl,H,nd.2.2,λhn=>?_⟩⟩
  ·rw[gu,hk] at hv;rw[hk];exact hv
  ·rw[gN,if_pos (po hk)]
   exact .cons e m _ _ r I (by rw[Uc hne];exact h1) (Ug hm) (H.frame λi hi=>Uc (show m≠i from λq=>nd.2.1 (q▸hi)))
  ·rw[gu,hn] at hv
   refine⟨hv,λe3 ⟨m',c',w,g1,g2,g3,g4,g5⟩=>⟨m',c',w,g1,g2,g3,by simp[g4],λq=>?_⟩⟩
   have n1:m'≠e:=λq=>nd.1.2 (q▸g4)
   have n2:m'≠m:=λq=>nd.2.1 (q▸g4)
   rw[gN,hn,if_neg (by simp)]
   exact .cons e m c _ _ I (by rw[Uc n1];exact h1) (by rw[Uc n2];exact h2) (g5 q)
variable (G:aq)
theorem LU{M:Nat}{l:List Fd}{fuel:Nat}{sv:AV}{sid:Nat}{s:S5}{h:List AO}(H:MI M l fuel sv sid s h):
 AC Tryz.prog G dg [.ptr M 20 0 0] h λx h'=>if s.left=0 then x= .pan bt (.int .i64 3)/\h'=h else x= .ret (.tup [])/\h'=h.set M (hZ l fuel sv (s.at_ (s.left-1))):=by
 have hm:=H.men
 have hle:=H.le
 have hfu:=H.fu
 simp only[hZ] at hm
 refine AC.go px ?_
 by_cases h0:s.left=0
 ·simp-implicitDefEqProofs[ff,hm,h0]
  refine(FO G 3 h).mono ?_
  rintro r h1 ⟨rfl,rfl⟩
  simp-implicitDefEqProofs[]
 ·have h1:¬((fuel-s.left:Nat):Int)=(fuel:Int):=by omega
  have h2:IntKind.i64.wrap (((fuel-s.left:Nat):Int)+1)=((fuel-(s.left-1):Nat):Int):=by rw[af (by omega) (by omega)];omega
  simp-implicitDefEqProofs[ff,hm,h0,h1,h2,hZ,S5.at_]
theorem BZ{u:AV}{v:List Sc5}{I:List Nat}{h:List AO}(C:Chn h u v I):
 AC Tryz.prog G gM [u] h λx h'=>x= .ret (.ptr (h.length+1) 2 0 0)/\h'=h++[.mp [],.row 2 [[.mp h.length,u]]]:=by
 obtain⟨e,rfl,_,_⟩:=C.is
 refine AC.go Cl ?_
 simp-implicitDefEqProofs[th]
theorem Gi{M:Nat}{l:List Fd}{fuel:Nat}{sv:AV}{sid:Nat}{s:S5}{h:List AO}(H:MI M l fuel sv sid s h)(n:Nat)(hn:n<=255):
 AC Tryz.prog G dh [.ptr M 20 0 0,.p (.int .i64 n)] h λx h'=>if 16<=n then x= .pan bt (.int .i64 2)/\h'=h else x= .ret (.ptr M 20 0 (4+n))/\h'=h:=by
 have hm:=H.men
 simp only[hZ] at hm
 refine AC.go pG ?_
 by_cases h0:16<=n
 ·have h1:(16:Int)<=n:=by omega
  simp-implicitDefEqProofs[fk,hm,h0,h1]
  refine(FO G 2 h).mono ?_
  rintro r h1 ⟨rfl,rfl⟩
  simp-implicitDefEqProofs[]
 ·have h1:¬(16:Int)<=n:=by omega
  simp-implicitDefEqProofs[fk,hm,h0,h1]
  omega
structure WhS where (e:Nat) (v:List Sc5) (I:List Nat)
structure WhI (h:List AO) (u:AV) (v:List Sc5) (I:List Nat) (s:List UInt8) (n:Int) (a:WhS):Prop where
 chn:Chn h (.ptr a.e 2 0 0) a.v a.I
 nd:a.I.Nodup
 has:gu a.v s=some n
 up:∀e,WhR h (.ptr a.e 2 0 0) a.v a.I s n e->WhR h u v I s n e
theorem GV{u:AV}{v:List Sc5}{I:List Nat}{h:List AO}(C:Chn h u v I)(nd:I.Nodup){s:List UInt8}{n:Int}(hv:gu v s=some n):
 AC Tryz.prog G eM [u,.p (.str s)] h λx h'=>h'=h/\∃e,x= .ret (.ptr e 2 0 0)/\WhR h u v I s n e:=by
 obtain⟨e0,rfl,_,he0⟩:=C.is
 refine AC.go uL ?_
 simp-implicitDefEqProofs[mN]
 refine az (λa:WhS=>ag 28 [(4,.nilp),(0,.ptr a.e 2 0 0),(1,.p (.str s))]) (λ_=>h) (WhI h (.ptr e0 2 0 0) v I s n) (λa=>a.v.length) ⟨e0,v,I⟩ ⟨C,nd,hv,λ_ q=>q⟩ ?_ ?_
 ·exact aH (Uf _) (by simp[below];exact he0)
 rintro⟨e,v1,I1⟩ ⟨C1,nd1,hv1,hup⟩
 simp only at C1 nd1 hv1 hup
 obtain⟨m,c,r,w,rfl,g1,g2,g3,g4⟩:=NA C1 nd1 hv1
 rcases g4 with⟨rfl,hs⟩|⟨e2,I2,rfl,C2,nd2,hn⟩
 ·obtain⟨k,hk⟩:=Option.isSome_iff_exists.1 hs
  simp-implicitDefEqProofs[g1]
  exact hup _ (g3 k hk)
 ·have hq:=yO s c
  cases hk:bF c s with
  |some k=>
   rw[hk] at hq
   simp-implicitDefEqProofs[g1,g2,hq]
   exact hup _ (g3 k hk)
  |none=>
   rw[hk] at hq
   obtain⟨k1,k2⟩:=hn hk
   simp-implicitDefEqProofs[g1,g2,hq]
   refine⟨⟨e2,r,I2⟩,⟨C2,nd2,k1,λe q=>hup e (k2 e q)⟩,by simp,aH (Uf _) ?_⟩
   obtain⟨_,q,_,q2⟩:=C2.is
   cases q
   simp[below]
   exact q2
end
section
def ar5(o a b:Int):Option Int:=if o=10 then some (tr5 (decide (a≠0/\b≠0))) else Cd o a b
def isN(e:Ex)(n:Int):Bool:=decide (e.op=1)&&decide (e.n=n)
section
variable {l:List Fd}
end
end
section
theorem HK{d:Nat}{e a:Ex}(h:cb (d+1) e=true)(ha:a∈e.kids):cb d a=true:=by
 rw[cb,Ut] at h
 exact Ui.1 h.2 a ha
theorem FS{d:Nat}{e:Ex}(h:cb d e=true):mg e=true:=by
 cases d with
 |zero=>cases h
 |succ d=>rw[cb,Ut] at h;exact h.1
section
variable {fns fns':List Fd} (hL:Like fns fns')
include hL
end
end
section
theorem It{d:Nat}{e:Ex}(h:cb d e=true):∃c,d=c+1:=by
 cases d with
 |zero=>cases h
 |succ d=>exact⟨d,rfl⟩
theorem Bh{d:Nat}{e:Ex}(h:cb d e=true):loK e.op<=e.kids.length/\e.kids.length<=hiK e.op/\1<=e.op/\e.op<=13:=by
 have h:=FS h
 simp only[mg,Ut,inR,decide_eq_true_eq] at h
 obtain⟨⟨⟨⟨⟨h1,h2⟩,_⟩,_⟩,_⟩,_⟩:=h
 exact⟨by omega,by omega,h1.1,h1.2⟩
section
variable {l:List Fd} {k:Nat} {v:List Sc5} {s s':S5} {r:O5 Int}
end
end
section
def PX(x:Sm)(n:Int):Bool:=match x.args with|a::_=>isN a n|[]=>false
def Tj(x:Sm):Bool:=match x.args with|a::_=>decide (a.op=1)|[]=>false
def RK(x:Sm):Bool:=decide (x.op=6)&&PX x 0
mutual
def JP:Sm->Sm
 | .mk o s a bd el=> .mk o s a
   (if o=5/\PX (.mk o s a bd el) 0=true then[] else Hh bd)
   (if o=5/\PX (.mk o s a bd el) 0=false/\Tj (.mk o s a bd el)=true then[] else Hh el)
def Hh:List Sm->List Sm
 |[]=>[]
 |s::r=>if RK s=true then Hh r else JP s::(if s.op=7 then[] else Hh r)
end
section
variable {l:List Fd} {k:Nat} {v v':List Sc5} {s s':S5} {x:Sm} {r:O5 (Option Int)}
end
end
section
variable (G:aq)
theorem ip(b:Bool):VF Tryz.prog G dq [.p (.bool b)] (.p (.int .i64 (tr5 b))):=by
 refine AC.go yR ?_
 cases b<;>simp-implicitDefEqProofs[oD,tr5]
def Cm:Option Int->AV
 |some q=> .tup [.p (.int .i64 q),.p (.int .i64 0)]
 |none=> .tup [.p (.int .i64 0),.p (.int .i64 1)]
theorem Hi(o a b:Int)(ho:3<=o)(h9:o<=9)(ha:V5 a)(hb:V5 b):VF Tryz.prog G nq [.p (.int .i64 o),.p (.int .i64 a),.p (.int .i64 b)] (Cm (Cd o a b)):=by
 obtain⟨a0,a1⟩:=ha
 obtain⟨b0,b1⟩:=hb
 refine AC.go CJ ?_
 have hm:a*b<=65025:=by
  have h1:=Int.mul_le_mul_of_nonneg_right a1 b0
  omega
 have hm0:0<=a*b:=Int.mul_nonneg a0 b0
 have ho':o=3\/o=4\/o=5\/o=6\/o=7\/o=8\/o=9:=by omega
 rcases ho' with rfl|rfl|rfl|rfl|rfl|rfl|rfl
 all_goals simp-implicitDefEqProofs[tv,Cd]
 ·rw[af (by omega) (by omega),Vi (by omega)];rfl
 ·have hw:IntKind.i64.wrap (a-b)=a-b:=af (by omega) (by omega)
  rw[hw,af (by omega) (by omega),Vi (by omega)]
  have:(a-b+256)%256=(a-b)%256:=by omega
  rw[this];rfl
 ·rw[af (by omega) (by omega),Vi (by omega)];rfl
 ·refine bj (λh=>?_) (λh=>?_)
  ·simp at h
   simp-implicitDefEqProofs[h,Cm]
  ·simp at h
   simp-implicitDefEqProofs[h,Cm]
   rw[Int.tdiv_eq_ediv_of_nonneg (by omega)]
   have h1:a/b<=a:=Int.ediv_le_self b a0
   have h2:0<=a/b:=Int.ediv_nonneg a0 b0
   exact af (by omega) (by omega)
 ·refine bj (λh=>?_) (λh=>?_)
  ·simp at h
   simp-implicitDefEqProofs[h,Cm]
  ·simp at h
   simp-implicitDefEqProofs[h,Cm]
   rw[Vi (by omega)]
 ·refine(ip G _).use ?_
  simp-implicitDefEqProofs[Cm]
 ·refine(ip G _).use ?_
  simp-implicitDefEqProofs[Cm]
end
section
variable (G:aq)
def PshF(s:Bool)(sz:Nat)(D:List (List PV))(h0:List AO)(a:PshS):Prop:=a.i<=D.length/\h0.length<=a.id/\h0.length<=a.h.length/\(∀j,j<h0.length->a.h[j]?=h0[j]?)/\∃rows J,RowOwn s a.h a.id sz rows (D.take a.i) J/\∀j∈J,h0.length<=j
theorem FW{h h2:List AO}(hl:h.length<=h2.length)(hf:∀j,j<h.length->h2[j]?=h[j]?):h2=h++h2.drop h.length:=by
 have e:h2.take h.length=h:=by
  apply List.ext_getElem?
  intro j
  by_cases hj:j<h.length
  ·rw[List.getElem?_take_of_lt hj];exact hf j hj
  ·rw[UM (by rw[UD];omega),UM (by omega)]
 have e2:=UO h.length h2
 rw[e] at e2
 exact e2.symm
theorem PshF.init{s:Bool}{sz:Nat}{D:List (List PV)}(h0 os:List AO):PshF s sz D h0 ⟨0,h0.length,h0++ .row sz []::os⟩:=
 ⟨Vf _,Uf _,by simp,λj hj=>Ue hj,[],[],⟨by simp,rfl,λ_ h=>(by cases h),λ_ h=>(by cases h),.nil,by simp⟩,λj hj=>by cases hj⟩
theorem PshF.step{s:Bool}{sz i id:Nat}{D:List (List PV)}{h0 h:List AO}(H:PshF s sz D h0 ⟨i,id,h⟩){e:List PV}(hi:D[i]?=some e){h2:List AO}(hl:h.length<=h2.length)(hf:∀j,j<h.length->h2[j]?=h[j]?){r':List AV}{I2:List Nat}(ho:OwnL s h2 r' e I2)(nd2:I2.Nodup)(hn:∀j∈I2,h.length<=j)(he:e.length=sz):
 ∃rows,(∀os,(h2++os)[id]?=some (.row sz rows))/\rows.length=i/\i<D.length/\id<h2.length/\∀os1 os2,PshF s sz D h0 ⟨i+1,(h2++os1).length,(h2++os1).set id .dead++ .row sz (rows++[r'])::os2⟩:=by
 obtain⟨h1,h3,h4,h5,rows,J,hr,hJ⟩:=H
 have hil:i<D.length:=(Ua.1 hi).1
 have hlen:=hr.len
 simp only at h1 h3 h4 h5 hlen hr
 rw[UD,Nat.min_eq_left h1] at hlen
 have e2:=FW hl hf
 have hid:=hr.lt
 have h2e:h2[id]?=some (.row sz rows):=by rw[hf id hid];exact hr.here
 refine⟨rows,λos=>by rw[Ue (by omega)];exact h2e,hlen,hil,by omega,λos1 os2=>⟨hil,by simp only[Uu];omega,by simp;omega,λj hj=>?_,rows++[r'],J++I2,?_,λj hj=>?_⟩⟩
 ·simp only
  rw[Ue (by simp only[UI,Uu,Ur];omega),Uc (by omega),Ue (by omega),hf j (by omega)]
  exact h5 j hj
 ·have hp:=(hr.push (h2:=h2++os1) (os:=h2.drop h.length++os1) (by rw[←UK,←e2]) (ho.more os1) nd2 hn he).more os2
  have hd:D.take i++[e]=D.take (i+1):=by rw[List.take_add_one,hi];rfl
  rw[hd,UK] at hp
  exact hp
 ·rcases Un.1 hj with hj|hj
  ·exact hJ j hj
  ·have:=hn j hj;omega
theorem PshF.done{s:Bool}{sz i id:Nat}{D:List (List PV)}{h0 h:List AO}(H:PshF s sz D h0 ⟨i,id,h⟩)(hi:D.length<=i):h0.length<=h.length/\(∀j,j<h0.length->h[j]?=h0[j]?)/\∃I,OwnL s h [.sl id sz 0 i] [.lst sz D] I/\I.Nodup/\∀j∈I,h0.length<=j:=by
 obtain⟨h1,h3,h4,h5,rows,J,hr,hJ⟩:=H
 simp only at h1 h3 h4 h5 hr
 rw[Uq hi] at hr
 exact⟨h4,h5,id::J,hr.tree (by omega),hr.nd,λj hj=>by
  rcases Uj.1 hj with rfl|hj
  ·exact h3
  ·exact hJ j hj⟩
theorem ia:∀l:List Fd,l.length<=be l
 |[]=>Uf _
 |f::r=>by
  have:=ia r
  have h1:be (f::r)=f.sz+be r:=by simp[be]
  have h2:f.sz=1+f.name.length+(f.params.length+(f.params.map List.length).sum)+aK f.body:=rfl
  simp only[Ur];omega
end
section
variable (G:aq)
theorem sY{α:Type}{l:List α}{k:Nat}{x:α}(h:l[k]?=some x):l.set k x=l:=by
 apply List.ext_getElem?
 intro i
 by_cases hi:k=i
 ·subst hi;rw[Ug (Ua.1 h).1,h]
 ·rw[Uc hi]
theorem Kc{h:List AO}{id sz n m:Nat}{es:List (List PV)}(H:View h (.sl id sz 0 n) (.lst sz es))(hm:m<=es.length):View h (.sl id sz 0 m) (.lst sz (es.take m)):=by
 cases H with
 |sl _ _ _ rows _ e1 e2 e3 e4=>
  have hl:(es.take m).length=m:=by rw[UD];omega
  have:=View.sl id sz 0 rows (es.take m) e1 (by omega) (λe he=>e3 e (US he)) (λi j e q e' a a1 a2 a3 a4=>by
   have hi:i<m:=by have:=(Ua.1 a1).1;omega
   rw[List.getElem?_take_of_lt hi] at a1
   exact e4 i j e q e' a a1 a2 a3 a4)
  rwa[hl] at this
 |fl _ sz' _ rows ps e1 e2=>
  have hl:(ps.take m).length=m:=by rw[UD];rw[Ux] at hm;omega
  have:=View.fl id sz' 0 rows (ps.take m) e1 (λi q hq=>by
   have hi:i<m:=by have:=(Ua.1 hq).1;omega
   rw[List.getElem?_take_of_lt hi] at hq
   exact e2 i q hq)
  rw[hl,List.map_take] at this
  exact this
end
section
variable (G:aq)
theorem yF{R cid sid:Nat}{l:List Fd}{s:S5}{e c:Int}{o:Bool}{h:List AO}(H:h[R]?=some (aJ l sid cid s e o)):
 AC Tryz.prog G bU [.ptr R 7 0 0,.p (.int .i64 c)] h λx h'=>x= .ret (.tup [])/\h'=h.set R (aJ l sid cid s (if o then e else c) true):=by
 have s0:∀z,(h.set R z)[R]?=some z:=λz=>Ug (Ua.1 H).1
 refine AC.go tL ?_
 cases o with
 |true=>
  simp-implicitDefEqProofs[gI,H,aJ]
  exact(sY (by rw[H];rfl)).symm
 |false=>simp-implicitDefEqProofs[gI,H,aJ,s0]
theorem LN{R cid sid:Nat}{l:List Fd}{s:S5}{h:List AO}(H:h[R]?=some (aJ l sid cid s 0 false))(hs:s.left<=1000000):
 AC Tryz.prog G dX [.ptr R 7 0 0] h λx h'=>x= .ret (.tup [])/\h'=h.set R (if s.left=0 then aJ l sid cid s 3 true else aJ l sid cid (s.at_ (s.left-1)) 0 false):=by
 refine AC.go tm ?_
 by_cases h0:s.left=0
 ·simp-implicitDefEqProofs[gG,H,aJ,h0]
  refine(yF G H).mono ?_
  rintro r h1 ⟨rfl,rfl⟩
  simp-implicitDefEqProofs[aa,aJ,h0]
 ·have h1:IntKind.i64.wrap ((s.left:Int)-1)=((s.left-1:Nat):Int):=by rw[af (by omega) (by omega)];omega
  simp-implicitDefEqProofs[gG,H,aJ,h0,h1,S5.at_]
theorem Eu(a:Sc5)(x:List UInt8 × Int)(s:List UInt8):cE (a++[x]) s=if x.1=s then some a.length else cE a s:=by
 rw[nt]
 by_cases h:x.1=s
 ·simp[cE,h]
 ·simp[cE,h]
theorem Hd(w:Sc5)(s:List UInt8)(hl:w.length<=1000000000000):VF Tryz.prog G jA [.p (aD (w.map (·.1))),.p (.str s)] (.p (.int .i64 (ixI (cE w s)))):=by
 have hsl:aD (w.map (·.1))= .lst 1 (w.map λx=>[.str x.1]):=by simp[aD,Function.comp_def]
 refine AC.go BX ?_
 have hw:∀n:Nat,n<=1000000000000->IntKind.i64.wrap ((n:Int)-1)=(n:Int)-1:=λn hn=>af (by omega) (by omega)
 simp-implicitDefEqProofs[sD,hsl,hw _ hl]
 refine az (λn:Nat=>ag 20 [(5,.p (.int .i64 ((n:Int)-1))),(1,.p (.str s)),(0,.p (.lst 1 (w.map λx=>[.str x.1])))]) (λ_=>[]) (λn=>n<=w.length/\cE w s=cE (w.take n) s) (λn=>n) w.length ⟨Uf _,by rw[UU]⟩ ?_ ?_
 ·exact aG rfl (by simp[below])
 rintro n ⟨hn,hi⟩
 simp-implicitDefEqProofs[]
 refine bj (λh1=>?_) (λh1=>?_)
 ·simp at h1
  obtain⟨m,rfl⟩:∃m,n=m+1:=⟨n-1,by omega⟩
  have hg:=Ub (show m<w.length by omega)
  have ht:w.take (m+1)=w.take m++[w[m]]:=ah (by omega)
  have hnn:((m+1:Nat):Int)-1=(m:Int):=by omega
  rw[ht,Eu,UD,Nat.min_eq_left (by omega)] at hi
  generalize w[m]=x at hg hi
  simp-implicitDefEqProofs[hnn,hg]
  by_cases hx:x.1=s
  ·rw[if_pos hx] at hi
   simp-implicitDefEqProofs[hx,hi,ixI]
  ·rw[if_neg hx] at hi
   simp-implicitDefEqProofs[hx,hw m (by omega)]
   exact⟨m,⟨by omega,hi⟩,by omega,aG rfl (by simp[below])⟩
 ·simp at h1
  have:n=0:=by omega
  subst this
  simp-implicitDefEqProofs[hi,cE,ixI]
theorem yd{R:Nat}{cid sid:Nat}{l:List Fd}{s:S5}{c:Int}{h:List AO}(H:h[R]?=some (aJ l sid cid s c true))(e:Ex)(v:AV):
 AC Tryz.prog G aU [.ptr R 7 0 0,.agg (e.cs.map .p),v] h λx h'=>x= .ret (.p (.int .i64 0))/\∃os,h'=h++os:=by
 have hec:=e.cs_eq
 have a0:∀os,(h++os)[R]?=some (aJ l sid cid s c true):=λos=>by rw[Ue (Ua.1 H).1];exact H
 refine AC.go gL ?_
 simp-implicitDefEqProofs[aA,hec, ↓a0,aJ]
end
section
def Cok(l:List Fd)(k:Nat)(x:Ex):Prop:=∃j f,bL l x.name=some j/\j<k/\l[j]?=some f/\f.params.length=x.kids.length
mutual
theorem Mg{fns:List Fd}{k:Nat}{vs:List LV}:∀(e:Ex) (c:Int),oC fns k vs e c=0->∀x∈e.pre,x.op=13->Cok fns k x
 | .mk o n t ks,c,h,x,hx,hop=>by
   rw[oC] at h
   rw[Ex.pre] at hx
   have h0:=fR h
   rcases Uj.1 hx with rfl|hx
   ·have hop':o=13:=hop
    have hz:¬(13:Int)=2:=by omega
    rw[js,hop',if_neg hz,if_pos rfl,lA] at h0
    show∃j f,bL fns t=some j/\j<k/\fns[j]?=some f/\f.params.length=ks.length
    cases e:bL fns t with
    |none=>rw[e] at h0;simp only[fl] at h0;split at h0<;>omega
    |some j=>
     rw[e] at h0
     simp only[fl] at h0
     by_cases hj:k<=j
     ·rw[if_pos hj] at h0;split at h0<;>omega
     ·rw[if_neg hj] at h0
      have hjl:j<fns.length:=(Us.1 e).1
      have hg:=Ub hjl
      refine⟨j,fns[j],rfl,by omega,hg,?_⟩
      rw[Az,hg] at h0
      simp only at h0
      by_cases hp:fns[j].params.length=ks.length
      ·exact hp
      ·rw[if_neg hp] at h0;split at h0<;>omega
   ·exact ue ks _ h x hx hop
theorem ue{fns:List Fd}{k:Nat}{vs:List LV}:∀(l:List Ex) (c:Int),bz fns k vs l c=0->∀x∈dc l,x.op=13->Cok fns k x
 |[],c,h,x,hx,_=>by simp[dc] at hx
 |e::r,c,h,x,hx,hop=>by
  rw[bz] at h
  rw[dc] at hx
  rcases Un.1 hx with hx|hx
  ·exact Mg e _ (fR h) x hx hop
  ·exact ue r _ h x hx hop
end
mutual
theorem Nb{fns:List Fd}{k:Nat}:∀(s:Sm) (b d:Nat) (w:WS),(stW fns k b s w).code=0->∀x∈dc s.args++(de (d+1) s.body++de (d+1) s.els),x.op=13->Cok fns k x
 | .mk o n a bd el,b,d,w,h,x,hx,hop=>by
   rw[stW] at h
   rw[dt] at h
   have h1:=cI h
   rw[dt] at h1
   have h2:=cI h1
   have h3:=yH h2
   simp only[Sm.args,Sm.body,Sm.els,Un] at hx
   rcases hx with hx|hx|hx
   ·exact ue a _ h3 x hx hop
   ·exact tw bd _ (d+1) _ h1 x hx hop
   ·exact tw el _ (d+1) _ h x hx hop
theorem tw{fns:List Fd}{k:Nat}:∀(l:List Sm) (b d:Nat) (w:WS),(bG fns k b l w).code=0->∀x∈de d l,x.op=13->Cok fns k x
 |[],b,d,w,h,x,hx,_=>by simp[de,bu] at hx
 |s::r,b,d,w,h,x,hx,hop=>by
  rw[bG] at h
  rw[mW] at hx
  rcases Un.1 hx with hx|hx
  ·exact Nb s b d _ (cI h) x hx hop
  ·exact tw r b d _ h x hx hop
end
theorem NS{l:List Fd}{k:Nat}{f:Fd}(hc:aP l=0)(hk:l[k]?=some f):(fnW l k f).code=0:=by
 unfold aP at hc
 split at hc
 ·have:=(oP l l 0).1 hc k f hk
  rwa[Nat.zero_add] at this
 ·omega
theorem zM{l:List Fd}{k:Nat}{f:Fd}(hc:aP l=0)(hk:l[k]?=some f):∀x∈de 1 f.body,x.op=13->Cok l k x:=by
 have h:=NS hc hk
 rw[fnW] at h
 exact tw _ _ 1 _ h
def CoE(l:List Fd)(k:Nat)(e:Ex):Prop:=∀x∈e.pre,x.op=13->Cok l k x
def CoS(l:List Fd)(k d:Nat)(xs:List Sm):Prop:=∀x∈de d xs,x.op=13->Cok l k x
theorem yG{a:Ex}:∀{l:List Ex},a∈l->∀x∈a.pre,x∈dc l
 |b::r,h,x,hx=>by
  rw[dc]
  rcases Uj.1 h with rfl|h
  ·exact List.mem_append_left _ hx
  ·exact List.mem_append_right _ (yG h x hx)
theorem CoE.kid{l:List Fd}{k:Nat}{e a:Ex}(h:CoE l k e)(ha:a∈e.kids):CoE l k a:=λx hx ho=>h x (by rw[Ex.pre_eq];exact Ve _ (yG ha x hx)) ho
theorem CoS.head{l:List Fd}{k d:Nat}{s:Sm}{r:List Sm}(h:CoS l k d (s::r)):(∀a∈s.args,CoE l k a)/\CoS l k (d+1) s.body/\CoS l k (d+1) s.els/\CoS l k d r:=by
 have e:=mW d s r
 unfold CoS at*
 rw[e] at h
 simp only[Un] at h
 exact⟨λa ha x hx ho=>h x (.inl (.inl (yG ha x hx))) ho,λx hx ho=>h x (.inl (.inr (.inl hx))) ho,λx hx ho=>h x (.inl (.inr (.inr hx))) ho,λx hx ho=>h x (.inr hx) ho⟩
end
section
structure In5 (v:List Sc5) (s:S5):Prop where
 g:G5 s
 ge:GE5 v
 un:Un5 v
 m:M5 s<=4000
 f:(aw v).length+s.left<=1073750000
theorem In5.ex{l:List Fd}{k:Nat}{v:List Sc5}{s s':S5}{e:Ex}{r:O5 Int}(I:In5 v s)(h:Ev l (.ex k v s e s' r)):In5 v s'/\∀n,r= .ok n->V5 n:=by
 have a:=dE h ⟨I.g,I.ge⟩
 have b:=no h
 exact⟨⟨a.1,I.ge,I.un,Uv b.1 I.m,by have:=b.2;have:=I.f;omega⟩,a.2.2⟩
structure WfE (l:List Fd) (k:Nat) (e:Ex):Prop where
 form:∃d,cb d e=true
 co:CoE l k e
 sz:e.sz<=1073741824
theorem II{d:Nat}{e a:Ex}(h:cb d e=true)(ha:a∈e.kids):∃d,cb d a=true:=by
 obtain⟨c,rfl⟩:=It h
 exact⟨c,HK h ha⟩
theorem WfE.kid{l:List Fd}{k:Nat}{e a:Ex}(h:WfE l k e)(ha:a∈e.kids):WfE l k a:=by
 obtain⟨d,hd⟩:=h.form
 exact⟨II hd ha,h.co.kid ha,by have:=aS ha;have:=e.sz_eq;have:=h.sz;omega⟩
variable (G:aq)
def ExC(l:List Fd)(R cid k:Nat)(e:Ex):Prop:=∀v s s' r,Ev l (.ex k v s e s' r)->In5 v s->∀V b x sid nid uid uv h,RI R cid l sid s 0 false h->EI V nid uid uv (aw v) b x h->Ap R V sid cid nid uid->
 AC Tryz.prog G aU [.ptr R 7 0 0,.agg (e.cs.map .p),.ptr V 4 0 0] h (ExL R cid l sid h s' r)
def StC(l:List Fd)(R cid k:Nat):Prop:=∀(xs:List Sm) v s v' s' r,(∀x∈xs,∃d,aB d x=true)->aK xs<=1073741824->(∃d,CoS l k d xs)->Ev l (.blk k v s xs v' s' r)->In5 v s->
 ∀V x0 sid nid uid uv h,RI R cid l sid s 0 false h->EI V nid uid uv (aw v) false x0 h->Ap R V sid cid nid uid->AC Tryz.prog G aI [.ptr R 7 0 0,.p (smL xs),.ptr V 4 0 0] h (StL R cid l V sid nid uid h ((aw v').take (aw v).length) x0 s' r)
theorem yL{l:List Fd}{R cid sid:Nat}{v:List Sc5}{s s1:S5}{r:O5 Int}{V nid uid:Nat}{uv:AV}{b:Bool}{x:Int}{h os h2:List AO}{z:ARes}(H:RI R cid l sid s 0 false h)(E:EI V nid uid uv (aw v) b x h)(A:Ap R V sid cid nid uid)
 (L:ExL R cid l sid (h++os) s1 r z h2):∃n sid1,z= .ret (.p (.int .i64 n))/\V5 n/\(∀m,r= .ok m->n=m)/\RI R cid l sid1 s1 (bC r) (cX r) h2/\EI V nid uid uv (aw v) b x h2/\Ap R V sid1 cid nid uid/\Fr [R,sid,cid] h h2/\(sid1=sid\/h.length<=sid1)/\
   (∀i,i<os.length->h2[h.length+i]?=os[i]?)/\h.length+os.length<=h2.length:=by
 obtain⟨n,sid1,rfl,e1,e2,e3,e4,e5⟩:=L
 have hl:=H.lt
 refine⟨n,sid1,rfl,e1,e2,e3,?_,?_,e4.from,?_,λi hi=>?_,by have:=e4.1;simpa using this⟩
 ·exact(E.more os).keep (H.more os) A e4
 ·exact Ap.step (E.more os) A e5
 ·rcases e5 with e|e
  ·exact .inl e
  ·exact .inr (by simp at e;omega)
 ·rw[e4.2 (h.length+i) (by simp;omega) (by simp;omega),Um (by omega),Nat.add_sub_cancel_left]
theorem zw{V nid uid:Nat}{uv:AV}{w:Sc5}{b:Bool}{x:Int}{h:List AO}(E:EI V nid uid uv w b x h):View h (.sl nid 1 0 w.length) (aD (w.map (·.1))):=by
 obtain⟨t,hn⟩:=E.names
 have h1:View h (.sl nid 1 0 (w.map (·.1)++t).length) (aD (w.map (·.1)++t)):=uO hn
 have h2:=Kc (m:=w.length) h1 (by simp)
 have e:((w.map (·.1)++t).map λn=>[PV.str n]).take w.length=(w.map (·.1)).map λn=>[PV.str n]:=by
  rw[List.map_append,List.take_append_of_le_length (by simp),Uq (by simp)]
 rw[e] at h2
 exact h2
theorem Nf{s:S5}(g:G5 s){n:Int}(hn:V5 n)(h16:n<16):∃(m:Nat) (c:Int),n=(m:Int)/\m<16/\s.cells[m]?=some c/\V5 c:=by
 obtain⟨m,rfl⟩:∃m:Nat,n=(m:Int):=⟨n.toNat,by have:=hn.1;omega⟩
 have hm:m<s.cells.length:=by rw[g.len];omega
 exact⟨m,s.cells[m],rfl,by omega,Ub hm,g.cells _ (Uo hm)⟩
theorem RI.ended{R cid:Nat}{l:List Fd}{sid:Nat}{s:S5}{e c:Int}{o:Bool}{h:List AO}(H:RI R cid l sid s e o h):RI R cid l sid s c true (h.set R (aJ l sid cid s c true)):=
 ⟨Ug H.lt.1,by rw[Uc H.neR.1];exact H.said,by rw[Uc H.neR.2];exact H.cells,H.ne⟩
theorem Fr.set{K:List Nat}{h h2:List AO}(F:Fr K h h2){i:Nat}(hi:i∈K)(o:AO):Fr K h (h2.set i o):=
 ⟨by rw[UI];exact F.1,λj hj hn=>by
   rw[Uc (show i≠j from λe=>hn (e▸hi))];exact F.2 j hj hn⟩
theorem Pz{l:List Fd}{R cid k:Nat}(hC:∀e:Ex,e.op=13->WfE l k e->(∀a∈e.kids,ExC G l R cid k a)->∀v s s' r,Ev l (.ex k v s e s' r)->In5 v s->∀V b x sid nid uid uv h,RI R cid l sid s 0 false h->EI V nid uid uv (aw v) b x h->Ap R V sid cid nid uid->
 AC Tryz.prog G dW [.ptr R 7 0 0,.agg (e.cs.map .p),.ptr V 4 0 0] h (ExL R cid l sid h s' r)):∀(N:Nat) (e:Ex),e.sz<=N->WfE l k e->ExC G l R cid k e:=by
 intro N
 induction N with
 |zero=>intro e he;have:=e.sz_eq;omega
 |succ N ih=>
  intro e hN W v s s' r hE I V b x sid nid uid uv h H E A
  have hec:=e.cs_eq
  have hsz:=e.sz_eq
  have hkl:=aX e.kids
  have hsl:exL e.kids= .lst 4 (e.kids.map Ex.cs):=rfl
  have ihk:∀a∈e.kids,ExC G l R cid k a:=λa ha=>ih a (by have:=aS ha;omega) (W.kid ha)
  have aR:∀os,(h++os)[R]?=some (aJ l sid cid s 0 false):=λos=>(H.more os).run
  have aV:∀os,(h++os)[V]?=some (bO nid (aw v).length uv b x):=λos=>(E.more os).env
  have fin0:∀n os,V5 n->ExL R cid l sid h s (.ok n) (.ret (.p (.int .i64 n))) (h++os):=λn os hn=>⟨n,sid,rfl,hn,λm h=>by cases h;rfl,H.more _,Fr.more _ _ _,.inl rfl⟩
  by_cases hop:e.op=13
  ·refine AC.go gL ?_
   simp-implicitDefEqProofs[aA,hec, ↓aR, ↓aV,aJ,bO,hop]
   have hcall:=hC e hop W ihk v s s' r hE I V b x sid nid uid uv _ (H.more [.row 4 [[.p (.int .i64 13),.p (.int .i64 e.n),.p (.str e.name),.p (exL e.kids)]]]) (E.more _) A
   rw[hec,hop] at hcall
   refine hcall.mono ?_
   rintro z h2 L
   obtain⟨n,sid1,rfl,e1,e2,e3,E2,A2,e4,e5,e6,e7⟩:=yL H E A L
   simp-implicitDefEqProofs[aa]
   exact⟨n,sid1,rfl,e1,e2,e3,e4,e5⟩
  refine AC.go gL ?_
  obtain⟨box,hbox⟩:∃box,box=AO.row 4 [[.p (.int .i64 e.op),.p (.int .i64 e.n),.p (.str e.name),.p (.lst 4 (e.kids.map Ex.cs))]]:=⟨_,rfl⟩
  have first:∀a s1 r1 (Q:ARes->List AO->Prop),a∈e.kids->Ev l (.ex k v s a s1 r1)->(∀n sid1 h2,V5 n->(∀m,r1= .ok m->n=m)->RI R cid l sid1 s1 (bC r1) (cX r1) h2->EI V nid uid uv (aw v) b x h2->Ap R V sid1 cid nid uid->Fr [R,sid,cid] h h2->(sid1=sid\/h.length<=sid1)->
   h2[h.length]?=some box->h.length+1<=h2.length->In5 v s1->Q (.ret (.p (.int .i64 n))) h2)->AC Tryz.prog G aU [.ptr R 7 0 0,.agg [.p (.int .i64 a.op),.p (.int .i64 a.n),.p (.str a.name),.p (exL a.kids)],.ptr V 4 0 0] (h++[box]) Q:=λa s1 r1 Q ha hE1 hq=>by
   have hac:a.cs.map AV.p=[.p (.int .i64 a.op),.p (.int .i64 a.n),.p (.str a.name),.p (exL a.kids)]:=by rw[a.cs_eq];rfl
   rw[←hac]
   refine(ihk a ha v s s1 r1 hE1 I V b x sid nid uid uv _ (H.more [box]) (E.more _) A).mono ?_
   rintro z h2 L
   obtain⟨n,sid1,rfl,e1,e2,e3,E2,A2,e4,e5,e6,e7⟩:=yL H E A L
   exact hq n sid1 h2 e1 e2 e3 E2 A2 e4 e5 (by have:=e6 0 (by simp);simpa using this) (by simpa using e7) (I.ex hE1).1
  have second:∀a s1 s2 r2 sid1 h2 (Q:ARes->List AO->Prop),a∈e.kids->Ev l (.ex k v s1 a s2 r2)->In5 v s1->RI R cid l sid1 s1 0 false h2->EI V nid uid uv (aw v) b x h2->Ap R V sid1 cid nid uid->Fr [R,sid,cid] h h2->(sid1=sid\/h.length<=sid1)->h2[h.length]?=some box->h.length+1<=h2.length->
   (∀n sid2 h3,V5 n->(∀m,r2= .ok m->n=m)->RI R cid l sid2 s2 (bC r2) (cX r2) h3->Fr [R,sid,cid] h h3->(sid2=sid\/h.length<=sid2)->h3[h.length]?=some box->In5 v s2->Q (.ret (.p (.int .i64 n))) h3)->
   AC Tryz.prog G aU [.ptr R 7 0 0,.agg [.p (.int .i64 a.op),.p (.int .i64 a.n),.p (.str a.name),.p (exL a.kids)],.ptr V 4 0 0] h2 Q:=λa s1 s2 r2 sid1 h2 Q ha hE1 I1 H1 E1 A1 F1 f1 b1 l1 hq=>by
   have hac:a.cs.map AV.p=[.p (.int .i64 a.op),.p (.int .i64 a.n),.p (.str a.name),.p (exL a.kids)]:=by rw[a.cs_eq];rfl
   rw[←hac]
   refine(ihk a ha v s1 s2 r2 hE1 I1 V b x sid1 nid uid uv h2 H1 E1 A1).mono ?_
   rintro z h3 ⟨n,sid2,rfl,e1,e2,e3,e4,e5⟩
   have hlR:=H.lt
   refine hq n sid2 h3 e1 e2 e3 (F1.trans e4 λi hi=>?_) ?_ ?_ (I1.ex hE1).1
   ·simp only[Uj,UF,or_false] at hi⊢
    rcases hi with rfl|rfl|rfl
    ·exact .inl (.inl rfl)
    ·rcases f1 with rfl|f1
     ·exact .inl (.inr (.inl rfl))
     ·exact .inr f1
    ·exact .inl (.inr (.inr rfl))
   ·rcases e5 with rfl|e5
    ·exact f1
    ·exact .inr (by omega)
   ·rw[e4.2 _ (by omega) ?_,b1]
    simp only[Uj,UF,or_false,not_or]
    refine⟨by omega,λe=>?_,by omega⟩
    have:=H1.said
    rw[←e,b1,hbox] at this
    simp[bf] at this
  have kids2:3<=e.op->e.op<=10->∃a b,e.kids=[a,b]:=λq1 q2=>by
   obtain⟨d,hd⟩:=W.form
   obtain⟨f1,f2,_,_⟩:=Bh hd
   have hlen:e.kids.length=2:=by
    have:e.op=3\/e.op=4\/e.op=5\/e.op=6\/e.op=7\/e.op=8\/e.op=9\/e.op=10:=by omega
    rcases this with q|q|q|q|q|q|q|q<;>rw[q] at f1 f2<;>simp[loK,hiK] at f1 f2<;>omega
   match hk:e.kids,hlen with
   |[a,b],_=>exact⟨a,b,rfl⟩
  cases hE with
  |num hop hv=>
   simp-implicitDefEqProofs[aA,hec, ↓aR,aJ,hop]
   exact fin0 _ _ hv
  | @var _ _ _ _ n hop hv=>
    obtain⟨i,v1,v2,v3⟩:=zV I.un hv
    have hiw:i<(aw v).length:=(Ua.1 v2).1
    have hnv:=uI I.ge hv
    obtain⟨t,rfl,hu⟩:=E.vals.ne (by simpa using Nat.lt_of_le_of_lt (Vf _) hiw)
    obtain⟨t2,hn⟩:=E.names
    obtain⟨rows,hr,hri⟩:∃rows,bf ((aw v).map (·.2)++t)= .row 1 rows/\rows[i]?=some [.p (.int .i64 n)]:=⟨_,rfl,by
     rw[Uk,Ue (by simpa using hiw),Uk,v2];rfl⟩
    rw[hr] at hu
    have au:∀os,(h++os)[uid]?=some (.row 1 rows):=λos=>by rw[Ue E.ul];exact hu
    simp-implicitDefEqProofs[aA,hec, ↓aR, ↓aV,aJ,bO,hop]
    refine((Hd G (aw v) e.name (by have:=I.f;omega)).lend (.one (zw (E.more _)) (.keep (by simp) .nil)) rfl).mono ?_
    rintro r h' ⟨rfl,rfl⟩
    simp-implicitDefEqProofs[aa,v1,ixI]
    refine⟨by simp[aV,bO],?_⟩
    simp-implicitDefEqProofs[hiw, ↓au,hri]
    exact fin0 _ _ hnv
  |call h0 _ _ _ _=>exact(hop h0).elim
  |callS h0 _=>exact(hop h0).elim
  | @firstS _ _ _ _ a rr _ c h1 h2 h3 h4=>
    have ha:a∈e.kids:=by rw[h3];simp
    have n1:¬e.op=1:=by omega
    have n2:¬e.op=2:=by omega
    have hg:e.kids[0]?=some a:=by rw[h3];rfl
    have hka:=a.cs_eq
    simp-implicitDefEqProofs[aA,hec,hsl, ↓aR, ↓aV,aJ,bO,hg,hka,n1,n2,hop]
    rw[←hbox]
    refine first a _ _ _ ha h4 ?_
    intro n sid1 h2 e1 e2 e3 E2 A2 e4 e5 e6 e7 I2
    have cR:=e3.run
    have finO:∀n' os,V5 n'->ExL R cid l sid h s' (.st c) (.ret (.p (.int .i64 n'))) (h2++os):=λn' os hn'=>⟨n',sid1,rfl,hn',(λm h=>by cases h),e3.more os,⟨by have:=e4.1;simp;omega,λi hi hh=>by rw[Ue (by omega)];exact e4.2 i hi hh⟩,e5⟩
    have finO':∀n',V5 n'->ExL R cid l sid h s' (.st c) (.ret (.p (.int .i64 n'))) h2:=λn' hn'=>by have:=finO n' [] hn';rwa[UG] at this
    simp only[bC,cX] at cR
    have cO:∀b:Ex,AC Tryz.prog G aU [.ptr R 7 0 0,.agg [.p (.int .i64 b.op),.p (.int .i64 b.n),.p (.str b.name),.p (exL b.kids)],.ptr V 4 0 0] h2 λx h'=>x= .ret (.p (.int .i64 0))/\∃os,h'=h2++os:=λb=>by
     have hbc:b.cs.map AV.p=[.p (.int .i64 b.op),.p (.int .i64 b.n),.p (.str b.name),.p (exL b.kids)]:=by rw[b.cs_eq];rfl
     rw[←hbc]
     exact yd G cR b _
    have cR2:∀os,(h2++os)[R]?=some (aJ l sid1 cid s' c true):=λos=>by rw[Ue (e3.lt.1)];exact cR
    have cB:∀os,(h2++os)[h.length]?=some box:=λos=>by rw[Ue (by omega)];exact e6
    simp only[aJ] at cR cR2
    rw[hbox] at e6 cB
    by_cases o11:e.op=11
    ·simp-implicitDefEqProofs[aa,cR,e6,o11]
     refine(ip G _).use ?_
     simp-implicitDefEqProofs[]
     exact finO' _ (gg _)
    by_cases o12:e.op=12
    ·by_cases hn:16<=n
     ·simp-implicitDefEqProofs[aa,cR,e6,o11,o12,hn]
      refine(yF G e3.run).mono ?_
      rintro z h3 ⟨rfl,rfl⟩
      rw[show h2.set R (aJ l sid1 cid s' (if cX (O5.st c:O5 Int)=true then bC (O5.st c:O5 Int) else 2) true)=h2 from sY e3.run]
      simp-implicitDefEqProofs[aa]
      exact finO' 0 ⟨by omega,by omega⟩
     ·obtain⟨m,c0,rfl,hm,hc0,hcv⟩:=Nf I2.g e1 (by omega)
      have cc:=e3.cells
      have hcr:(bf s'.cells)= .row 1 (s'.cells.map λx=>[.p (.int .i64 x)]):=rfl
      rw[hcr] at cc
      simp-implicitDefEqProofs[aa,cR,e6,o11,o12,hn,hm,cc,hc0]
      exact⟨by omega,finO' _ hcv⟩
    obtain⟨a',b',hk⟩:=kids2 h1 (by omega)
    have hgb:e.kids[1]?=some b':=by rw[hk];rfl
    have hkb:=b'.cs_eq
    by_cases o10:e.op=10
    ·by_cases hn0:n=0
     ·simp-implicitDefEqProofs[aa,cR,e6,o11,o12,o10,hn0]
      exact finO' 0 ⟨by omega,by omega⟩
     ·simp-implicitDefEqProofs[aa,cR,e6,o11,o12,o10,hn0,hgb,hkb]
      refine(cO b').mono ?_
      rintro z h3 ⟨rfl,os,rfl⟩
      simp-implicitDefEqProofs[aa]
      refine(ip G _).use ?_
      simp-implicitDefEqProofs[]
      exact finO _ _ (gg _)
    ·simp-implicitDefEqProofs[aa,cR,e6,o11,o12,o10,hgb,hkb]
     refine(cO b').mono ?_
     rintro z h3 ⟨rfl,os,rfl⟩
     simp-implicitDefEqProofs[aa, ↓cR2]
     exact finO 0 _ ⟨by omega,by omega⟩
  | @and0 _ _ _ _ a b' _ h1 h2 h3=>
    have ha:a∈e.kids:=by rw[h2];simp
    have n1:¬e.op=1:=by omega
    have n2:¬e.op=2:=by omega
    have hg:e.kids[0]?=some a:=by rw[h2];rfl
    have hka:=a.cs_eq
    simp-implicitDefEqProofs[aA,hec,hsl, ↓aR, ↓aV,aJ,bO,hg,hka,n1,n2,hop]
    rw[←hbox]
    refine first a _ _ _ ha h3 ?_
    intro n' sid1 hh2 e1 e2 e3 E2 A2 e4 e5 e6 e7 I2
    have hnn:=e2 _ rfl
    have cR:=e3.run
    simp only[bC,cX] at cR e3
    subst hnn
    simp only[aJ] at cR
    rw[hbox] at e6
    simp-implicitDefEqProofs[aa,cR,e6,h1]
    exact⟨0,sid1,rfl,⟨by omega,by omega⟩,(λm h=>by cases h;rfl),e3,e4,e5⟩
  | @not _ _ _ _ a _ n h1 h2 h3=>
    have ha:a∈e.kids:=by rw[h2];simp
    have n1:¬e.op=1:=by omega
    have n2:¬e.op=2:=by omega
    have hg:e.kids[0]?=some a:=by rw[h2];rfl
    have hka:=a.cs_eq
    simp-implicitDefEqProofs[aA,hec,hsl, ↓aR, ↓aV,aJ,bO,hg,hka,n1,n2,hop]
    rw[←hbox]
    refine first a _ _ _ ha h3 ?_
    intro n' sid1 hh2 e1 e2 e3 E2 A2 e4 e5 e6 e7 I2
    have hnn:=e2 _ rfl
    have cR:=e3.run
    simp only[bC,cX] at cR e3
    subst hnn
    simp only[aJ] at cR
    rw[hbox] at e6
    simp-implicitDefEqProofs[aa,cR,e6,h1]
    refine(ip G _).use ?_
    simp-implicitDefEqProofs[]
    exact⟨_,sid1,rfl,gg _,(λm h=>by cases h;rfl),e3,e4,e5⟩
  | @at_ _ _ _ _ a _ n m h1 h2 h3 h4 h5=>
    have ha:a∈e.kids:=by rw[h2];simp
    have n1:¬e.op=1:=by omega
    have n2:¬e.op=2:=by omega
    have hg:e.kids[0]?=some a:=by rw[h2];rfl
    have hka:=a.cs_eq
    simp-implicitDefEqProofs[aA,hec,hsl, ↓aR, ↓aV,aJ,bO,hg,hka,n1,n2,hop]
    rw[←hbox]
    refine first a _ _ _ ha h3 ?_
    intro n' sid1 hh2 e1 e2 e3 E2 A2 e4 e5 e6 e7 I2
    have hnn:=e2 _ rfl
    have cR:=e3.run
    simp only[bC,cX] at cR e3
    subst hnn
    have cc:=e3.cells
    have hcr:(bf s'.cells)= .row 1 (s'.cells.map λx=>[.p (.int .i64 x)]):=rfl
    rw[hcr] at cc
    have hn16:¬(16:Int)<=n:=by omega
    have hmv:V5 m:=I2.g.cells _ (Uh h5)
    simp only[aJ] at cR
    rw[hbox] at e6
    simp-implicitDefEqProofs[aa,cR,e6,h1,hn16,cc,h4,h5]
    exact⟨by omega,m,sid1,rfl,hmv,(λm h=>by cases h;rfl),e3,e4,e5⟩
  | @atS _ _ _ _ a _ n h1 h2 h3 h4=>
    have ha:a∈e.kids:=by rw[h2];simp
    have n1:¬e.op=1:=by omega
    have n2:¬e.op=2:=by omega
    have hg:e.kids[0]?=some a:=by rw[h2];rfl
    have hka:=a.cs_eq
    simp-implicitDefEqProofs[aA,hec,hsl, ↓aR, ↓aV,aJ,bO,hg,hka,n1,n2,hop]
    rw[←hbox]
    refine first a _ _ _ ha h3 ?_
    intro n' sid1 hh2 e1 e2 e3 E2 A2 e4 e5 e6 e7 I2
    have hnn:=e2 _ rfl
    have cR:=e3.run
    simp only[bC,cX] at cR e3
    subst hnn
    have hst:=yF G (c:=2) cR
    simp only[aJ] at cR
    rw[hbox] at e6
    simp-implicitDefEqProofs[aa,cR,e6,h1,h4]
    refine hst.mono ?_
    rintro z h3 ⟨rfl,rfl⟩
    simp-implicitDefEqProofs[aa]
    exact⟨0,sid1,rfl,⟨by omega,by omega⟩,(λm h=>by cases h),e3.ended,e4.set (by simp) _,e5⟩
  | @and1 _ _ _ _ a b' s1 n _ m h1 h2 h3 h4 h5=>
    have ha:a∈e.kids:=by rw[h2];simp
    have n1:¬e.op=1:=by omega
    have n2:¬e.op=2:=by omega
    have hg:e.kids[0]?=some a:=by rw[h2];rfl
    have hka:=a.cs_eq
    simp-implicitDefEqProofs[aA,hec,hsl, ↓aR, ↓aV,aJ,bO,hg,hka,n1,n2,hop]
    rw[←hbox]
    refine first a _ _ _ ha h3 ?_
    intro n' sid1 hh2 e1 e2 e3 E2 A2 e4 e5 e6 e7 I2
    have hnn:=e2 _ rfl
    have cR:=e3.run
    simp only[bC,cX] at cR e3
    have hb:b'∈e.kids:=by rw[h2];simp
    have hgb:e.kids[1]?=some b':=by rw[h2];rfl
    have hkb:=b'.cs_eq
    have e6':=e6
    subst hnn
    simp only[aJ] at cR
    rw[hbox] at e6
    simp-implicitDefEqProofs[aa,cR,e6,h1,h4,hgb,hkb]
    refine second b' _ _ _ _ _ _ hb h5 I2 e3 E2 A2 e4 e5 e6' e7 ?_
    intro n2 sid2 h3 i1 i2 i3 i4 i5 i6 i7
    have:=i2 _ rfl
    subst this
    simp-implicitDefEqProofs[aa]
    refine(ip G _).use ?_
    simp-implicitDefEqProofs[]
    exact⟨_,sid2,rfl,gg _,(λm h=>by cases h;simp),i3,i4,i5⟩
  | @andS _ _ _ _ a b' s1 n _ c h1 h2 h3 h4 h5=>
    have ha:a∈e.kids:=by rw[h2];simp
    have n1:¬e.op=1:=by omega
    have n2:¬e.op=2:=by omega
    have hg:e.kids[0]?=some a:=by rw[h2];rfl
    have hka:=a.cs_eq
    simp-implicitDefEqProofs[aA,hec,hsl, ↓aR, ↓aV,aJ,bO,hg,hka,n1,n2,hop]
    rw[←hbox]
    refine first a _ _ _ ha h3 ?_
    intro n' sid1 hh2 e1 e2 e3 E2 A2 e4 e5 e6 e7 I2
    have hnn:=e2 _ rfl
    have cR:=e3.run
    simp only[bC,cX] at cR e3
    have hb:b'∈e.kids:=by rw[h2];simp
    have hgb:e.kids[1]?=some b':=by rw[h2];rfl
    have hkb:=b'.cs_eq
    have e6':=e6
    subst hnn
    simp only[aJ] at cR
    rw[hbox] at e6
    simp-implicitDefEqProofs[aa,cR,e6,h1,h4,hgb,hkb]
    refine second b' _ _ _ _ _ _ hb h5 I2 e3 E2 A2 e4 e5 e6' e7 ?_
    intro n2 sid2 h3 i1 i2 i3 i4 i5 i6 i7
    simp-implicitDefEqProofs[aa]
    refine(ip G _).use ?_
    simp-implicitDefEqProofs[]
    exact⟨_,sid2,rfl,gg _,(λm h=>by cases h),i3,i4,i5⟩
  | @bin _ _ _ _ a b' s1 n _ m q h1 h2 h3 h4 h5 h6=>
    have ha:a∈e.kids:=by rw[h3];simp
    have n1:¬e.op=1:=by omega
    have n2:¬e.op=2:=by omega
    have hg:e.kids[0]?=some a:=by rw[h3];rfl
    have hka:=a.cs_eq
    simp-implicitDefEqProofs[aA,hec,hsl, ↓aR, ↓aV,aJ,bO,hg,hka,n1,n2,hop]
    rw[←hbox]
    refine first a _ _ _ ha h4 ?_
    intro n' sid1 hh2 e1 e2 e3 E2 A2 e4 e5 e6 e7 I2
    have hnn:=e2 _ rfl
    have cR:=e3.run
    simp only[bC,cX] at cR e3
    have hb:b'∈e.kids:=by rw[h3];simp
    have hgb:e.kids[1]?=some b':=by rw[h3];rfl
    have hkb:=b'.cs_eq
    have e6':=e6
    have o10:¬e.op=10:=by omega
    have o11:¬e.op=11:=by omega
    have o12:¬e.op=12:=by omega
    subst hnn
    simp only[aJ] at cR
    rw[hbox] at e6
    simp-implicitDefEqProofs[aa,cR,e6,o10,o11,o12,hgb,hkb]
    refine second b' _ _ _ _ _ _ hb h5 I2 e3 E2 A2 e4 e5 e6' e7 ?_
    intro n2 sid2 h3 i1 i2 i3 i4 i5 i6 i7
    have:=i2 _ rfl
    subst this
    have dR:=i3.run
    simp only[bC,cX,aJ] at dR i3
    rw[hbox] at i6
    simp-implicitDefEqProofs[aa,dR,i6]
    have hT:=Hi G e.op _ _ h1 h2 e1 i1
    rw[h6] at hT
    simp only[Cm] at hT
    refine hT.use ?_
    simp-implicitDefEqProofs[]
    exact⟨_,sid2,rfl,Bp e1 i1 h6,(λm h=>by cases h;rfl),i3,i4,i5⟩
  | @binS _ _ _ _ a b' s1 n _ c h1 h2 h3 h4 h5=>
    have ha:a∈e.kids:=by rw[h3];simp
    have n1:¬e.op=1:=by omega
    have n2:¬e.op=2:=by omega
    have hg:e.kids[0]?=some a:=by rw[h3];rfl
    have hka:=a.cs_eq
    simp-implicitDefEqProofs[aA,hec,hsl, ↓aR, ↓aV,aJ,bO,hg,hka,n1,n2,hop]
    rw[←hbox]
    refine first a _ _ _ ha h4 ?_
    intro n' sid1 hh2 e1 e2 e3 E2 A2 e4 e5 e6 e7 I2
    have hnn:=e2 _ rfl
    have cR:=e3.run
    simp only[bC,cX] at cR e3
    have hb:b'∈e.kids:=by rw[h3];simp
    have hgb:e.kids[1]?=some b':=by rw[h3];rfl
    have hkb:=b'.cs_eq
    have e6':=e6
    have o10:¬e.op=10:=by omega
    have o11:¬e.op=11:=by omega
    have o12:¬e.op=12:=by omega
    subst hnn
    simp only[aJ] at cR
    rw[hbox] at e6
    simp-implicitDefEqProofs[aa,cR,e6,o10,o11,o12,hgb,hkb]
    refine second b' _ _ _ _ _ _ hb h5 I2 e3 E2 A2 e4 e5 e6' e7 ?_
    intro n2 sid2 h3 i1 i2 i3 i4 i5 i6 i7
    have dR:=i3.run
    simp only[bC,cX,aJ] at dR i3
    simp-implicitDefEqProofs[aa,dR]
    exact⟨0,sid2,rfl,⟨by omega,by omega⟩,(λm h=>by cases h),i3,i4,i5⟩
  | @binD _ _ _ _ a b' s1 n _ m h1 h2 h3 h4 h5 h6=>
    have ha:a∈e.kids:=by rw[h3];simp
    have n1:¬e.op=1:=by omega
    have n2:¬e.op=2:=by omega
    have hg:e.kids[0]?=some a:=by rw[h3];rfl
    have hka:=a.cs_eq
    simp-implicitDefEqProofs[aA,hec,hsl, ↓aR, ↓aV,aJ,bO,hg,hka,n1,n2,hop]
    rw[←hbox]
    refine first a _ _ _ ha h4 ?_
    intro n' sid1 hh2 e1 e2 e3 E2 A2 e4 e5 e6 e7 I2
    have hnn:=e2 _ rfl
    have cR:=e3.run
    simp only[bC,cX] at cR e3
    have hb:b'∈e.kids:=by rw[h3];simp
    have hgb:e.kids[1]?=some b':=by rw[h3];rfl
    have hkb:=b'.cs_eq
    have e6':=e6
    have o10:¬e.op=10:=by omega
    have o11:¬e.op=11:=by omega
    have o12:¬e.op=12:=by omega
    subst hnn
    simp only[aJ] at cR
    rw[hbox] at e6
    simp-implicitDefEqProofs[aa,cR,e6,o10,o11,o12,hgb,hkb]
    refine second b' _ _ _ _ _ _ hb h5 I2 e3 E2 A2 e4 e5 e6' e7 ?_
    intro n2 sid2 h3 i1 i2 i3 i4 i5 i6 i7
    have:=i2 _ rfl
    subst this
    have dR:=i3.run
    simp only[bC,cX] at dR i3
    have hst:=yF G (c:=1) dR
    simp only[aJ] at dR
    rw[hbox] at i6
    simp-implicitDefEqProofs[aa,dR,i6]
    have hT:=Hi G e.op _ _ h1 h2 e1 i1
    rw[h6] at hT
    simp only[Cm] at hT
    refine hT.use ?_
    simp-implicitDefEqProofs[]
    refine hst.mono ?_
    rintro z h3 ⟨rfl,rfl⟩
    simp-implicitDefEqProofs[aa]
    exact⟨0,sid2,rfl,⟨by omega,by omega⟩,(λm h=>by cases h),i3.ended,i4.set (by simp) _,i5⟩
end
section
variable (G:aq)
theorem my(b:Bool):VF Tryz.prog G jT [.p (.bool b)] (.p (.int .i64 (tr5 b))):=by
 refine AC.go zB ?_
 cases b<;>simp-implicitDefEqProofs[oo,tr5]
def vM:Option Int->AV
 |some q=> .tup [.p (.int .i64 q),.p (.bool true)]
 |none=> .tup [.p (.int .i64 0),.p (.bool false)]
theorem Kq(a b:Int):VF Tryz.prog G gx [.p (.int .i64 11),.p (.int .i64 a),.p (.int .i64 b)] (.tup [.p (.int .i64 (tr5 (decide (a=0)))),.p (.bool true)]):=by
 refine AC.go tt ?_
 simp-implicitDefEqProofs[nk]
 refine(my G _).use ?_
 simp-implicitDefEqProofs[]
theorem Cy(o a b:Int)(ho:3<=o)(h9:o<=10)(ha:V5 a)(hb:V5 b):VF Tryz.prog G gx [.p (.int .i64 o),.p (.int .i64 a),.p (.int .i64 b)] (vM (ar5 o a b)):=by
 obtain⟨a0,a1⟩:=ha
 obtain⟨b0,b1⟩:=hb
 refine AC.go tt ?_
 have hm:a*b<=65025:=by
  have h1:=Int.mul_le_mul_of_nonneg_right a1 b0
  omega
 have hm0:0<=a*b:=Int.mul_nonneg a0 b0
 have ho':o=3\/o=4\/o=5\/o=6\/o=7\/o=8\/o=9\/o=10:=by omega
 rcases ho' with rfl|rfl|rfl|rfl|rfl|rfl|rfl|rfl
 all_goals simp-implicitDefEqProofs[nk,ar5,Cd]
 ·rw[af (by omega) (by omega),Vi (by omega)];rfl
 ·have hw:IntKind.i64.wrap (a-b)=a-b:=af (by omega) (by omega)
  rw[hw,af (by omega) (by omega),Vi (by omega)]
  have:(a-b+256)%256=(a-b)%256:=by omega
  rw[this];rfl
 ·rw[af (by omega) (by omega),Vi (by omega)];rfl
 ·refine bj (λh=>?_) (λh=>?_)
  ·simp at h
   simp-implicitDefEqProofs[h,vM]
  ·simp at h
   simp-implicitDefEqProofs[h,vM]
   rw[Int.tdiv_eq_ediv_of_nonneg (by omega)]
   have h1:a/b<=a:=Int.ediv_le_self b a0
   have h2:0<=a/b:=Int.ediv_nonneg a0 b0
   exact af (by omega) (by omega)
 ·refine bj (λh=>?_) (λh=>?_)
  ·simp at h
   simp-implicitDefEqProofs[h,vM]
  ·simp at h
   simp-implicitDefEqProofs[h,vM]
   rw[Vi (by omega)]
 ·refine(my G _).use ?_
  simp-implicitDefEqProofs[vM]
 ·refine(my G _).use ?_
  simp-implicitDefEqProofs[vM]
 ·by_cases h:a=0
  ·simp-implicitDefEqProofs[h]
   refine(my G _).use ?_
   simp-implicitDefEqProofs[vM]
  ·simp-implicitDefEqProofs[h]
   refine(my G _).use ?_
   simp-implicitDefEqProofs[vM]
end
section
def db:O5 Int->ARes
 | .ok n=> .ret (.p (.int .i64 n))
 | .st c=> .pan bt (.int .i64 c)
structure PL (M:Nat) (l:List Fd) (fuel sid:Nat) (h:List AO) (s':S5) (sv':AV) (sid':Nat) (h':List AO):Prop where
 run:MI M l fuel sv' sid' s' h'
 fr:Fr [M,sid] h h'
 fs:sid'=sid\/h.length<=sid'
def PxL(M:Nat)(l:List Fd)(fuel sid:Nat)(h:List AO)(s':S5)(r:O5 Int)(x:ARes)(h':List AO):Prop:=x=db r/\∃sv' sid',PL M l fuel sid h s' sv' sid' h'
structure CI (h:List AO) (u:AV) (v:List Sc5) (I:List Nat) (M sid:Nat):Prop where
 chn:Chn h u v I
 nd:I.Nodup
 sn:sid∉I
 mn:M∉I
section
variable {M:Nat} {l:List Fd} {fuel sid:Nat} {h h' h2 os:List AO} {s s1 s':S5} {sv sv1 sv':AV} {sid1 sid':Nat} {u:AV} {v:List Sc5} {I:List Nat}
theorem CI.more(C:CI h u v I M sid)(os:List AO):CI (h++os) u v I M sid:=⟨C.chn.more os,C.nd,C.sn,C.mn⟩
theorem PL.from(P:PL M l fuel sid (h++os) s' sv' sid' h'):PL M l fuel sid h s' sv' sid' h':=⟨P.run,P.fr.from,by
 rcases P.fs with e|e
 ·exact .inl e
 ·exact .inr (by simp at e;omega)⟩
theorem CI.after(C:CI h u v I M sid)(P:PL M l fuel sid h s' sv' sid' h'):CI h' u v I M sid':=
 ⟨C.chn.frame λi hi=>P.fr.2 i (C.chn.lt i hi) (by simp only[Uj,UF,or_false,not_or];exact⟨λe=>C.mn (e▸hi),λe=>C.sn (e▸hi)⟩),C.nd,λhm=>by
   rcases P.fs with e|e
   ·exact C.sn (e▸hm)
   ·have:=C.chn.lt _ hm;omega,C.mn⟩
theorem PL.keep(H:MI M l fuel sv sid s h)(P:PL M l fuel sid (h++os) s' sv' sid' h'){i:Nat}(hi:i<os.length):h'[h.length+i]?=os[i]?:=by
 have a:=H.lt
 have b:=H.said.lt
 rw[P.fr.2 (h.length+i) (by simp;omega) (by simp;omega),Um (by omega),Nat.add_sub_cancel_left]
theorem PL.trans(P:PL M l fuel sid h s1 sv1 sid1 h2)(Q:PL M l fuel sid1 h2 s' sv' sid' h'):PL M l fuel sid h s' sv' sid' h':=by
 refine⟨Q.run,P.fr.trans Q.fr λi hi=>?_,?_⟩
 ·have:=P.fs
  simp only[Uj,UF,or_false] at hi⊢
  omega
 ·have:=P.fs
  have:=Q.fs
  have:=P.fr.1
  omega
theorem PL.refl(H:MI M l fuel sv sid s h)(os:List AO):PL M l fuel sid h s sv sid (h++os):=⟨H.more os,Fr.more _ _ _,.inl rfl⟩
end
variable (G:aq)
def PxC(l:List Fd)(M k fuel:Nat)(e:Ex):Prop:=∀v s s' r,Ev l (.ex k v s e s' r)->In5 v s->∀u I sid sv h,MI M l fuel sv sid s h->CI h u v I M sid->
 AC Tryz.prog G bB [.ptr M 20 0 0,.agg (e.cs.map .p),u] h (PxL M l fuel sid h s' r)
inductive AgV (h:List AO) (lo sid:Nat):AV->List Int->Prop where
 |nn:AgV h lo sid .nils []
 |ss (aid:Nat) (xs:List Int):h[aid]?=some (bf xs)->lo<=aid->aid≠sid->AgV h lo sid (.sl aid 1 0 xs.length) xs
 |pp (xs:List Int):AgV h lo sid (.p (ay xs)) xs
def PcC(l:List Fd)(M k fuel:Nat):Prop:=∀us s s' r,Ev l (.cal k us s s' r)->(∀n∈us,V5 n)->G5 s->M5 s<=4000->∀av sid sv h,MI M l fuel sv sid s h->AgV h 0 sid av us->
 AC Tryz.prog G dj [.ptr M 20 0 0,.p (.int .i64 k),av] h (PxL M l fuel sid h s' r)
theorem Qb{l:List Fd}{M k fuel:Nat}(hC:∀e:Ex,e.op=13->WfE l k e->(∀a∈e.kids,PxC G l M k fuel a)->PxC G l M k fuel e):∀(N:Nat) (e:Ex),e.sz<=N->WfE l k e->PxC G l M k fuel e:=by
 intro N
 induction N with
 |zero=>intro e he;have:=e.sz_eq;omega
 |succ N ih=>
  intro e hN W
  have hsz:=e.sz_eq
  have ihk:∀a∈e.kids,PxC G l M k fuel a:=λa ha=>ih a (by have:=aS ha;omega) (W.kid ha)
  by_cases hop:e.op=13
  ·exact hC e hop W ihk
  intro v s s' r hE I0 u I sid sv h H C
  have hec:=e.cs_eq
  have hkl:=aX e.kids
  have hsl:exL e.kids= .lst 4 (e.kids.map Ex.cs):=rfl
  have fin0:∀n os,PxL M l fuel sid h s (.ok n) (.ret (.p (.int .i64 n))) (h++os):=λn os=>⟨rfl,_,_,PL.refl H os⟩
  obtain⟨e0,rfl,_,hue⟩:=C.chn.is
  obtain⟨box,hbox⟩:∃box,box=AO.row 4 [[.p (.int .i64 e.op),.p (.int .i64 e.n),.p (.str e.name),.p (.lst 4 (e.kids.map Ex.cs))]]:=⟨_,rfl⟩
  have first:∀a s1 r1 (Q:ARes->List AO->Prop),a∈e.kids->Ev l (.ex k v s a s1 r1)->(∀sv1 sid1 h2,PL M l fuel sid (h++[box]) s1 sv1 sid1 h2->CI h2 (.ptr e0 2 0 0) v I M sid1->h2[h.length]?=some box->In5 v s1->(∀n,r1= .ok n->V5 n)->Q (db r1) h2)->
   AC Tryz.prog G bB [.ptr M 20 0 0,.agg [.p (.int .i64 a.op),.p (.int .i64 a.n),.p (.str a.name),.p (exL a.kids)],.ptr e0 2 0 0] (h++[box]) Q:=λa s1 r1 Q ha hE1 hq=>by
   have hac:a.cs.map AV.p=[.p (.int .i64 a.op),.p (.int .i64 a.n),.p (.str a.name),.p (exL a.kids)]:=by rw[a.cs_eq];rfl
   rw[←hac]
   refine(ihk a ha v s s1 r1 hE1 I0 _ I sid sv _ (H.more [box]) (C.more [box])).mono ?_
   rintro z h2 ⟨rfl,sv1,sid1,P⟩
   have I1:=I0.ex hE1
   exact hq sv1 sid1 h2 P ((C.more [box]).after P) (by have:=PL.keep H P (i:=0) (by simp);simpa using this) I1.1 I1.2
  have second:∀a s1 s2 r2 sv1 sid1 h2 (Q:ARes->List AO->Prop),a∈e.kids->Ev l (.ex k v s1 a s2 r2)->In5 v s1->PL M l fuel sid (h++[box]) s1 sv1 sid1 h2->CI h2 (.ptr e0 2 0 0) v I M sid1->
   (∀sv2 sid2 h3,PL M l fuel sid (h++[box]) s2 sv2 sid2 h3->h3[h.length]?=some box->In5 v s2->(∀n,r2= .ok n->V5 n)->Q (db r2) h3)->
   AC Tryz.prog G bB [.ptr M 20 0 0,.agg [.p (.int .i64 a.op),.p (.int .i64 a.n),.p (.str a.name),.p (exL a.kids)],.ptr e0 2 0 0] h2 Q:=λa s1 s2 r2 sv1 sid1 h2 Q ha hE1 I1 P1 C1 hq=>by
   have hac:a.cs.map AV.p=[.p (.int .i64 a.op),.p (.int .i64 a.n),.p (.str a.name),.p (exL a.kids)]:=by rw[a.cs_eq];rfl
   rw[←hac]
   refine(ihk a ha v s1 s2 r2 hE1 I1 _ I sid1 sv1 _ P1.run C1).mono ?_
   rintro z h3 ⟨rfl,sv2,sid2,P⟩
   have I2:=I1.ex hE1
   exact hq sv2 sid2 h3 (P1.trans P) (by have:=PL.keep H (P1.trans P) (i:=0) (by simp);simpa using this) I2.1 I2.2
  have kids2:3<=e.op->e.op<=10->∃a b,e.kids=[a,b]:=λq1 q2=>by
   obtain⟨d,hd⟩:=W.form
   obtain⟨f1,f2,_,_⟩:=Bh hd
   have hlen:e.kids.length=2:=by
    have:e.op=3\/e.op=4\/e.op=5\/e.op=6\/e.op=7\/e.op=8\/e.op=9\/e.op=10:=by omega
    rcases this with q|q|q|q|q|q|q|q<;>rw[q] at f1 f2<;>simp[loK,hiK] at f1 f2<;>omega
   match hk:e.kids,hlen with
   |[a,b],_=>exact⟨a,b,rfl⟩
  refine AC.go ju ?_
  cases hE with
  |num hop hv=>
   simp-implicitDefEqProofs[am,hec,hop]
   exact fin0 _ _
  | @var _ _ _ _ n hop hv=>
    simp-implicitDefEqProofs[am,hec,hop]
    refine(GV G (C.more _).chn C.nd hv).mono ?_
    rintro z h1 ⟨rfl,e1,rfl,m,c,w,g1,g2,g3,g4,g5⟩
    have hq:=yO e.name c
    rw[g3] at hq
    simp-implicitDefEqProofs[aa,g1,g2,hq]
    exact fin0 _ _
  |call h0 _ _ _ _=>exact(hop h0).elim
  |callS h0 _=>exact(hop h0).elim
  | @firstS _ _ _ _ a rr _ c h1 h2 h3 h4=>
    have ha:a∈e.kids:=by rw[h3];simp
    have n1:¬e.op=1:=by omega
    have n2:¬e.op=2:=by omega
    have hg:e.kids[0]?=some a:=by rw[h3];rfl
    have hka:=a.cs_eq
    by_cases o10:e.op=10
    ·rw[o10] at hbox
     simp-implicitDefEqProofs[am,hec,hsl,hg,hka,o10]
     rw[←hbox]
     refine first a _ _ _ ha h4 λsv1 sid1 h2 P C1 b1 I1 hv=>?_
     simp-implicitDefEqProofs[db]
     exact⟨rfl,sv1,sid1,P.from⟩
    by_cases o12:e.op=12
    ·rw[o12] at hbox
     simp-implicitDefEqProofs[am,hec,hsl,hg,hka,o12]
     rw[←hbox]
     refine first a _ _ _ ha h4 λsv1 sid1 h2 P C1 b1 I1 hv=>?_
     simp-implicitDefEqProofs[db]
     exact⟨rfl,sv1,sid1,P.from⟩
    simp-implicitDefEqProofs[am,hec,hsl,hg,hka,n1,n2,hop,o10,o12]
    rw[←hbox]
    refine first a _ _ _ ha h4 λsv1 sid1 h2 P C1 b1 I1 hv=>?_
    simp-implicitDefEqProofs[db]
    exact⟨rfl,sv1,sid1,P.from⟩
  | @and0 _ _ _ _ a b _ h1 h2 h3=>
    have ha:a∈e.kids:=by rw[h2];simp
    have n1:¬e.op=1:=by omega
    have n2:¬e.op=2:=by omega
    have hg:e.kids[0]?=some a:=by rw[h2];rfl
    have hka:=a.cs_eq
    rw[h1] at hbox
    simp-implicitDefEqProofs[am,hec,hsl,hg,hka,n1,n2,hop,h1]
    rw[←hbox]
    refine first a _ _ _ ha h3 λsv1 sid1 h2 P C1 b1 I1 hv=>?_
    simp-implicitDefEqProofs[db,aa]
    exact⟨rfl,sv1,sid1,P.from⟩
  | @and1 _ _ _ _ a b s1 n _ m h1 h2 h3 h4 h5=>
    have ha:a∈e.kids:=by rw[h2];simp
    have n1:¬e.op=1:=by omega
    have n2:¬e.op=2:=by omega
    have hg:e.kids[0]?=some a:=by rw[h2];rfl
    have hka:=a.cs_eq
    have hb:b∈e.kids:=by rw[h2];simp
    have hgb:e.kids[1]?=some b:=by rw[h2];rfl
    have hkb:=b.cs_eq
    rw[h1] at hbox
    simp-implicitDefEqProofs[am,hec,hsl,hg,hka,n1,n2,hop,h1]
    rw[←hbox]
    refine first a _ _ _ ha h3 λsv1 sid1 h2 P C1 b1 I1 hv=>?_
    rw[hbox] at b1
    simp-implicitDefEqProofs[db,aa,h4,b1,hsl,hgb,hkb]
    refine second b _ _ _ _ _ _ _ hb h5 I1 P C1 λsv2 sid2 h3 P2 b2 I2 hv2=>?_
    have hA:ar5 10 1 m=some (tr5 (decide (m≠0))):=by simp[ar5]
    have hT:=Cy G 10 1 m (by omega) (by omega) ⟨by omega,by omega⟩ (hv2 m rfl)
    rw[hA] at hT
    simp only[vM] at hT
    simp-implicitDefEqProofs[db,aa]
    refine hT.use ?_
    simp-implicitDefEqProofs[]
    exact⟨by simp[db],sv2,sid2,P2.from⟩
  | @andS _ _ _ _ a b s1 n _ c h1 h2 h3 h4 h5=>
    have ha:a∈e.kids:=by rw[h2];simp
    have n1:¬e.op=1:=by omega
    have n2:¬e.op=2:=by omega
    have hg:e.kids[0]?=some a:=by rw[h2];rfl
    have hka:=a.cs_eq
    have hb:b∈e.kids:=by rw[h2];simp
    have hgb:e.kids[1]?=some b:=by rw[h2];rfl
    have hkb:=b.cs_eq
    rw[h1] at hbox
    simp-implicitDefEqProofs[am,hec,hsl,hg,hka,n1,n2,hop,h1]
    rw[←hbox]
    refine first a _ _ _ ha h3 λsv1 sid1 h2 P C1 b1 I1 hv=>?_
    rw[hbox] at b1
    simp-implicitDefEqProofs[db,aa,h4,b1,hsl,hgb,hkb]
    refine second b _ _ _ _ _ _ _ hb h5 I1 P C1 λsv2 sid2 h3 P2 b2 I2 hv2=>?_
    simp-implicitDefEqProofs[db]
    exact⟨rfl,sv2,sid2,P2.from⟩
  | @not _ _ _ _ a _ n h1 h2 h3=>
    have ha:a∈e.kids:=by rw[h2];simp
    have n1:¬e.op=1:=by omega
    have n2:¬e.op=2:=by omega
    have hg:e.kids[0]?=some a:=by rw[h2];rfl
    have hka:=a.cs_eq
    have hl1:e.kids.length=1:=by rw[h2];rfl
    rw[h1] at hbox
    simp-implicitDefEqProofs[am,hec,hsl,hg,hka,n1,n2,hop,h1]
    rw[←hbox]
    refine first a _ _ _ ha h3 λsv1 sid1 h2 P C1 b1 I1 hv=>?_
    rw[hbox] at b1
    simp-implicitDefEqProofs[db,aa,b1,hsl,hl1]
    refine(Kq G n 0).use ?_
    simp-implicitDefEqProofs[]
    exact⟨by simp[db],sv1,sid1,P.from⟩
  | @at_ _ _ _ _ a s1 n m h1 h2 h3 h4 h5=>
    have ha:a∈e.kids:=by rw[h2];simp
    have n1:¬e.op=1:=by omega
    have n2:¬e.op=2:=by omega
    have hg:e.kids[0]?=some a:=by rw[h2];rfl
    have hka:=a.cs_eq
    rw[h1] at hbox
    simp-implicitDefEqProofs[am,hec,hsl,hg,hka,n1,n2,hop,h1]
    rw[←hbox]
    refine first a _ _ _ ha h3 λsv1 sid1 h2 P C1 b1 I1 hv=>?_
    simp-implicitDefEqProofs[db,aa]
    refine(Gi G P.run n (by omega)).mono ?_
    rintro z h3 hz
    rw[if_neg (by omega)] at hz
    obtain⟨rfl,rfl⟩:=hz
    have hm:=P.run.men
    simp only[hZ] at hm
    have hcl:∀a b c d,(a::b::c::d::s'.cells.map (λn=>AV.p (.int .i64 n)))[4+n]?=some (.p (.int .i64 m)):=λa b c d=>by
     rw[show 4+n=n+1+1+1+1 by omega]
     simp[h5]
    simp-implicitDefEqProofs[aa,hm,hcl]
    exact⟨rfl,sv1,sid1,P.from⟩
  | @atS _ _ _ _ a _ n h1 h2 h3 h4=>
    have ha:a∈e.kids:=by rw[h2];simp
    have n1:¬e.op=1:=by omega
    have n2:¬e.op=2:=by omega
    have hg:e.kids[0]?=some a:=by rw[h2];rfl
    have hka:=a.cs_eq
    rw[h1] at hbox
    simp-implicitDefEqProofs[am,hec,hsl,hg,hka,n1,n2,hop,h1]
    rw[←hbox]
    refine first a _ _ _ ha h3 λsv1 sid1 h2 P C1 b1 I1 hv=>?_
    simp-implicitDefEqProofs[db,aa]
    obtain⟨q0,q1⟩:=hv n rfl
    obtain⟨i,rfl⟩:∃i:Nat,n=(i:Int):=⟨n.toNat,by omega⟩
    refine(Gi G P.run i (by omega)).mono ?_
    rintro z h3 hz
    rw[if_pos (by omega)] at hz
    obtain⟨rfl,rfl⟩:=hz
    simp-implicitDefEqProofs[]
    exact⟨rfl,sv1,sid1,P.from⟩
  | @bin _ _ _ _ a b s1 n _ m q h1 h2 h3 h4 h5 h6=>
    have ha:a∈e.kids:=by rw[h3];simp
    have n1:¬e.op=1:=by omega
    have n2:¬e.op=2:=by omega
    have hg:e.kids[0]?=some a:=by rw[h3];rfl
    have hka:=a.cs_eq
    have hb:b∈e.kids:=by rw[h3];simp
    have hgb:e.kids[1]?=some b:=by rw[h3];rfl
    have hkb:=b.cs_eq
    have hl2:e.kids.length=2:=by rw[h3];rfl
    have hgi:e.kids[1]'(by omega)=b:=(Ua.1 hgb).2
    have o10:¬e.op=10:=by omega
    have o12:¬e.op=12:=by omega
    simp-implicitDefEqProofs[am,hec,hsl,hg,hka,n1,n2,hop,o10,o12]
    rw[←hbox]
    refine first a _ _ _ ha h4 λsv1 sid1 h2 P C1 b1 I1 hv=>?_
    rw[hbox] at b1
    simp-implicitDefEqProofs[db,aa,b1,hsl,hgi,hkb,hl2]
    refine second b _ _ _ _ _ _ _ hb h5 I1 P C1 λsv2 sid2 h3 P2 b2 I2 hv2=>?_
    rw[hbox] at b2
    have hT:=Cy G e.op n m h1 (by omega) (hv n rfl) (hv2 m rfl)
    rw[ar5,if_neg o10,h6] at hT
    simp only[vM] at hT
    simp-implicitDefEqProofs[db,aa,b2]
    refine hT.use ?_
    simp-implicitDefEqProofs[]
    exact⟨rfl,sv2,sid2,P2.from⟩
  | @binS _ _ _ _ a b s1 n _ c h1 h2 h3 h4 h5=>
    have ha:a∈e.kids:=by rw[h3];simp
    have n1:¬e.op=1:=by omega
    have n2:¬e.op=2:=by omega
    have hg:e.kids[0]?=some a:=by rw[h3];rfl
    have hka:=a.cs_eq
    have hb:b∈e.kids:=by rw[h3];simp
    have hgb:e.kids[1]?=some b:=by rw[h3];rfl
    have hkb:=b.cs_eq
    have hl2:e.kids.length=2:=by rw[h3];rfl
    have hgi:e.kids[1]'(by omega)=b:=(Ua.1 hgb).2
    have o10:¬e.op=10:=by omega
    have o12:¬e.op=12:=by omega
    simp-implicitDefEqProofs[am,hec,hsl,hg,hka,n1,n2,hop,o10,o12]
    rw[←hbox]
    refine first a _ _ _ ha h4 λsv1 sid1 h2 P C1 b1 I1 hv=>?_
    rw[hbox] at b1
    simp-implicitDefEqProofs[db,aa,b1,hsl,hgi,hkb,hl2]
    refine second b _ _ _ _ _ _ _ hb h5 I1 P C1 λsv2 sid2 h3 P2 b2 I2 hv2=>?_
    simp-implicitDefEqProofs[db]
    exact⟨rfl,sv2,sid2,P2.from⟩
  | @binD _ _ _ _ a b s1 n _ m h1 h2 h3 h4 h5 h6=>
    have ha:a∈e.kids:=by rw[h3];simp
    have n1:¬e.op=1:=by omega
    have n2:¬e.op=2:=by omega
    have hg:e.kids[0]?=some a:=by rw[h3];rfl
    have hka:=a.cs_eq
    have hb:b∈e.kids:=by rw[h3];simp
    have hgb:e.kids[1]?=some b:=by rw[h3];rfl
    have hkb:=b.cs_eq
    have hl2:e.kids.length=2:=by rw[h3];rfl
    have hgi:e.kids[1]'(by omega)=b:=(Ua.1 hgb).2
    have o10:¬e.op=10:=by omega
    have o12:¬e.op=12:=by omega
    simp-implicitDefEqProofs[am,hec,hsl,hg,hka,n1,n2,hop,o10,o12]
    rw[←hbox]
    refine first a _ _ _ ha h4 λsv1 sid1 h2 P C1 b1 I1 hv=>?_
    rw[hbox] at b1
    simp-implicitDefEqProofs[db,aa,b1,hsl,hgi,hkb,hl2]
    refine second b _ _ _ _ _ _ _ hb h5 I1 P C1 λsv2 sid2 h3 P2 b2 I2 hv2=>?_
    rw[hbox] at b2
    have hT:=Cy G e.op n m h1 (by omega) (hv n rfl) (hv2 m rfl)
    rw[ar5,if_neg o10,h6] at hT
    simp only[vM] at hT
    simp-implicitDefEqProofs[db,aa,b2]
    refine hT.use ?_
    simp-implicitDefEqProofs[]
    refine(FO G 1 h3).mono ?_
    rintro z h4 ⟨rfl,rfl⟩
    simp-implicitDefEqProofs[]
    exact⟨rfl,sv2,sid2,P2.from⟩
end
section
theorem ij{l:List Fd}(h:aP l=0):l≠[]/\∀f∈l,∀x∈f.body,aB 4 x=true:=by
 have hp:=((CD l).1 h).1
 obtain⟨h1,h2,h3⟩:=(yA l).1 hp
 refine⟨?_,λf hf x hx=>?_⟩
 ·rintro rfl;simp at h1
 ·have:=h2 f hf
  simp only[ka,Ut,Ui] at this
  exact this.2 x hx
variable (G:aq)
end
section
variable (G:aq)
theorem Jy{R cid sid W nid n:Nat}{l:List Fd}{s:S5}{c x:Int}{b:Bool}{uv:AV}{h:List AO}(H:h[R]?=some (aJ l sid cid s c true))(E:h[W]?=some (bO nid n uv b x))(hu:(uv= .nils/\n=0)\/∃uid,uv= .sl uid 1 0 n)(xs:List Sm):
 AC Tryz.prog G aI [.ptr R 7 0 0,.p (smL xs),.ptr W 4 0 0] h λz h'=>z= .ret (.tup [])/\h'=h:=by
 have hsl:smL xs= .lst 5 (xs.map Sm.cs):=rfl
 have hW:=(Ua.1 E).1
 have s0:∀z,(h.set W z)[W]?=some z:=λz=>Ug hW
 have key:AC Tryz.prog G aI [.ptr R 7 0 0,.p (smL xs),.ptr W 4 0 0] h λz h'=>z= .ret (.tup [])/\h'=h.set W (bO nid n uv b x):=by
  refine AC.go kR ?_
  simp-implicitDefEqProofs[fX,hsl,E,bO]
  refine az (λ_:Unit=>ag 65 [(7,.p (.int .i64 0)),(6,.p (.int .i64 n)),(0,.ptr R 7 0 0),(1,.p (.lst 5 (xs.map Sm.cs))),(2,.ptr W 4 0 0)]) (λ_=>h) (λ_=>True) (λ_=>0) () trivial ?_ ?_
  ·exact aH (Uf _) (by simp[below];exact⟨(Ua.1 H).1,hW⟩)
  rintro⟨⟩-
  by_cases h0:xs.length=0
  ·rcases hu with⟨rfl,rfl⟩|⟨uid,rfl⟩
   ·simp-implicitDefEqProofs[h0,H,E,aJ,bO,s0]
   ·simp-implicitDefEqProofs[h0,H,E,aJ,bO,s0]
  ·have hpos:0<xs.length:=by omega
   rcases hu with⟨rfl,rfl⟩|⟨uid,rfl⟩
   ·simp-implicitDefEqProofs[hpos,H,E,aJ,bO,s0]
   ·simp-implicitDefEqProofs[hpos,H,E,aJ,bO,s0]
 refine key.mono ?_
 rintro z h' ⟨rfl,rfl⟩
 exact⟨rfl,sY E⟩
def vT(xs:List Int):O5 (List Int)->O5 (List Int)
 | .ok us=> .ok (xs++us)
 | .st c=> .st c
structure CaS where (i sid uw:Nat) (hh:List AO) (wv:AV) (xs:List Int) (s:S5) (o:Bool)
structure CaI (l:List Fd) (R cid k V sid nid uid:Nat) (uv:AV) (v:List Sc5) (b:Bool) (x:Int) (h:List AO) (e:Ex) (f:Fd) (s1:S5) (rr:O5 (List Int)) (a:CaS):Prop where
 run:RI R cid l a.sid a.s (if a.o then bC rr else 0) a.o a.hh
 env:EI V nid uid uv (aw v) b x a.hh
 ap:Ap R V a.sid cid nid uid
 fr:Fr [R,sid,cid] h a.hh
 fs:a.sid=sid\/h.length+5<=a.sid
 box:a.hh[h.length]?=some (.row 4 [[.p (.int .i64 13),.p (.int .i64 e.n),.p (.str e.name),.p (exL e.kids)]])
 fbox:a.hh[h.length+1]?=some (.row 3 [[.p (.str f.name),.p (aD f.params),.p (smL f.body)]])
 nms:a.hh[h.length+3]?=some (fU f.params)
 envW:a.hh[h.length+4]?=some (bO (h.length+3) f.params.length a.wv false 0)
 len:h.length+5<=a.hh.length
 vals:UV a.hh a.wv a.uw a.xs
 fu:a.uw=h.length+2\/h.length+5<=a.uw
 ul:a.uw<a.hh.length
 us:a.uw≠a.sid
 xl:a.xs.length=a.i
 il:a.i<=e.kids.length
 v5:∀n∈a.xs,V5 n
 go:a.o=false->In5 v a.s/\∃r2,Ev l (.exs k v a.s (e.kids.drop a.i) s1 r2)/\rr=vT a.xs r2
 over:a.o=true->a.s=s1/\∃c,rr= .st c
theorem PU{l:List Fd}{R cid k:Nat}(hc:aP l=0)(hz:be l<=1073741824)(hB:∀j,j<k->StC G l R cid j)(e:Ex)(hop:e.op=13)(W:WfE l k e)(ihk:∀a∈e.kids,ExC G l R cid k a)(v:List Sc5)(s s':S5)(r:O5 Int)(hE:Ev l (.ex k v s e s' r))(I:In5 v s)
 (V:Nat)(b:Bool)(x:Int)(sid nid uid:Nat)(uv:AV)(h:List AO)(H:RI R cid l sid s 0 false h)(E:EI V nid uid uv (aw v) b x h)(A:Ap R V sid cid nid uid):
 AC Tryz.prog G dW [.ptr R 7 0 0,.agg (e.cs.map .p),.ptr V 4 0 0] h (ExL R cid l sid h s' r):=by
 obtain⟨j,f,hj,hjk,hf,hpl⟩:=W.co e (by rw[Ex.pre_eq];simp) hop
 obtain⟨s1,rr,hX,hX2⟩:∃s1 rr,Ev l (.exs k v s e.kids s1 rr)/\((∃us,rr= .ok us/\Ev l (.cal j us s1 s' r))\/∃c,rr= .st c/\s'=s1/\r= .st c):=by
  cases hE with
  |call _ h1 h2 h3 h4=>
   rw[hj] at h2;cases h2
   exact⟨_,_,h1,.inl ⟨_,rfl,h4⟩⟩
  |callS _ h1=>exact⟨_,_,h1,.inr ⟨_,rfl,rfl,rfl⟩⟩
  |num h1 _=>omega
  |var h1 _=>omega
  |firstS h1 h2 _ _=>omega
  |and0 h1 _ _=>omega
  |and1 h1 _ _ _ _=>omega
  |andS h1 _ _ _ _=>omega
  |not h1 _ _=>omega
  |at_ h1 _ _ _ _=>omega
  |atS h1 _ _ _=>omega
  |bin _ h1 _ _ _ _=>omega
  |binS _ h1 _ _ _=>omega
  |binD _ h1 _ _ _ _=>omega
 have hec:=e.cs_eq
 have hsl:exL e.kids= .lst 4 (e.kids.map Ex.cs):=rfl
 have hfl:fdL l= .lst 3 (l.map Fd.cs):=rfl
 have hfc:f.cs=[.str f.name,aD f.params,smL f.body]:=rfl
 have hpL:aD f.params= .lst 1 (f.params.map λw=>[.str w]):=rfl
 have hfz:=cK (Uh hf)
 have hfs:f.sz=1+f.name.length+(f.params.length+(f.params.map List.length).sum)+aK f.body:=rfl
 have hll:l.length<=be l:=ia l
 have hjl:=(Ua.1 hf).1
 have aR:∀os,(h++os)[R]?=some (aJ l sid cid s 0 false):=λos=>(H.more os).run
 refine AC.go tD ?_
 simp-implicitDefEqProofs[ll,hec,hop, ↓aR,aJ]
 refine(EY G l e.name (by omega)).use ?_
 simp-implicitDefEqProofs[hj,ixI]
 refine⟨by simp[aR,aJ],?_⟩
 simp-implicitDefEqProofs[hfl,hf,hfc,hpL]
 have hst:(AO.row 1 (List.map ((λx=>List.map AV.p x)∘λw=>[PV.str w]) f.params))=fU f.params:=by simp[fU,Function.comp_def]
 rw[hst,←hpL]
 refine⟨⟨by omega,by omega⟩,?_⟩
 obtain⟨hR0,hs0,hc0⟩:=H.lt
 have helt:=E.lt
 have hRV:=E.neR H
 obtain⟨hh0,hhh⟩:∃x,x=h++[.row 4 [[.p (.int .i64 13),.p (.int .i64 e.n),.p (.str e.name),.p (exL e.kids)]],.row 3 [[.p (.str f.name),.p (aD f.params),.p (smL f.body)]],.dead,fU f.params,.row 4 [[.sl (h.length+3) 1 0 f.params.length,.nils,.p (.bool false),.p (.int .i64 0)]]]:=⟨_,rfl⟩
 rw[←hhh]
 have J0:CaI l R cid k V sid nid uid uv v b x h e f s1 rr ⟨0,sid,h.length+2,hh0,.nils,[],s,false⟩:=by
  subst hhh
  refine⟨H.more _,E.more _,A,Fr.more _ _ _,.inl rfl,by simp,by simp,by simp,by simp[bO],by simp,.nn _,.inl rfl,by simp,?_,rfl,Vf _,(λn h=>by cases h),(λ_=>⟨I,rr,hX,?_⟩),(λh=>by cases h)⟩
  ·simp only;omega
  ·cases rr<;>rfl
 clear hhh
 refine az (λa:CaS=>ag 67 [(9,.p (.int .i64 a.i)),(8,.ptr (h.length+4) 4 0 0),(7,.ptr (h.length+1) 3 0 0),(4,.ptr h.length 4 0 0),(0,.ptr R 7 0 0),(2,.ptr V 4 0 0)]) (λa=>a.hh) (CaI l R cid k V sid nid uid uv v b x h e f s1 rr) (λa=>e.kids.length-a.i) ⟨0,sid,h.length+2,hh0,.nils,[],s,false⟩ J0 ?_ ?_
 ·refine aH (by have:=J0.len;simp only at this;omega) ?_
  have:=J0.len
  simp only at this
  simp[below]
  omega
 clear J0
 rintro⟨i,sidc,uw,hh,wv,xs,sc,o⟩ J
 have jR:=J.run.run
 have jB:=J.box
 have jF:=J.fbox
 have jN:=J.nms
 have jW:=J.envW
 have jl:=J.len
 have jc:=J.vals.cell
 simp only at jR jB jF jN jW jl jc
 simp-implicitDefEqProofs[jB,hsl]
 refine bj (λh1=>?_) (λh1=>?_)
 ·simp at h1
  have hg:=Ub h1
  have ha:=Uo h1
  generalize e.kids[i]=a at hg ha
  have hka:=a.cs_eq
  have hdr:e.kids.drop i=a::e.kids.drop (i+1):=by
   rw[UY h1,(Ua.1 hg).2]
  have step:AC Tryz.prog G aU [.ptr R 7 0 0,.agg [.p (.int .i64 a.op),.p (.int .i64 a.n),.p (.str a.name),.p (exL a.kids)],.ptr V 4 0 0] hh λz h3=>∃n sid2 s2 o2,z= .ret (.p (.int .i64 n))/\V5 n/\RI R cid l sid2 s2 (if o2 then bC rr else 0) o2 h3/\Fr [R,sidc,cid] hh h3/\(sid2=sidc\/hh.length<=sid2)/\
   (o2=false->In5 v s2/\∃r2,Ev l (.exs k v s2 (e.kids.drop (i+1)) s1 r2)/\rr=vT (xs++[n]) r2)/\(o2=true->s2=s1/\∃c,rr= .st c):=by
   have hac:a.cs.map AV.p=[.p (.int .i64 a.op),.p (.int .i64 a.n),.p (.str a.name),.p (exL a.kids)]:=by rw[a.cs_eq];rfl
   rw[←hac]
   cases o with
   |true=>
    refine(yd G jR a _).mono ?_
    rintro z h3 ⟨rfl,os,rfl⟩
    exact⟨0,sidc,sc,true,rfl,⟨by omega,by omega⟩,J.run.more os,Fr.more _ _ _,.inl rfl,(λh=>by cases h),J.over⟩
   |false=>
    obtain⟨Ic,r2,hx,hr⟩:=J.go rfl
    simp only[hdr] at hx
    have hexc:=λs2 r3 (he:Ev l (.ex k v sc a s2 r3))=>ihk a ha v sc s2 r3 he Ic V b x sidc nid uid uv hh J.run J.env J.ap
    cases hx with
    | @cons _ _ _ _ _ s2 n _ ns h1 h2=>
      refine(hexc _ _ h1).mono ?_
      rintro z h3 ⟨n',sid2,rfl,e1,e2,e3,e4,e5⟩
      have:=e2 _ rfl
      subst this
      refine⟨n',sid2,s2,false,rfl,e1,e3,e4,e5,λ_=>⟨(Ic.ex h1).1,_,h2,?_⟩,λh=>by cases h⟩
      rw[hr];simp[vT]
    | @consS _ _ _ _ _ _ c h1=>
      refine(hexc _ _ h1).mono ?_
      rintro z h3 ⟨n',sid2,rfl,e1,e2,e3,e4,e5⟩
      rw[hr]
      exact⟨n',sid2,s1,true,rfl,e1,e3,e4,e5,(λh=>by cases h),λ_=>⟨rfl,c,rfl⟩⟩
    | @consT _ _ _ _ _ s2 n _ c h1 h2=>
      refine(hexc _ _ h1).mono ?_
      rintro z h3 ⟨n',sid2,rfl,e1,e2,e3,e4,e5⟩
      have:=e2 _ rfl
      subst this
      refine⟨n',sid2,s2,false,rfl,e1,e3,e4,e5,λ_=>⟨(Ic.ex h1).1,_,h2,?_⟩,λh=>by cases h⟩
      rw[hr];simp[vT]
  simp-implicitDefEqProofs[-AV.isCell,-AV.cells,cN,Mv,FM,cP,Ko,FL,jB,jW,bO,jc.1,jc.2,hg,hka,hsl]
  refine step.mono ?_
  rintro z h3 ⟨n,sid2,s2,o2,rfl,t1,t2,t3,t4,t5,t6⟩
  have hlR:=J.run.lt
  simp only at hlR
  have hsc:=J.fs
  have hsv:=J.us
  have huf:=J.fu
  have hul:=J.ul
  simp only at hsc hsv huf hul
  have kB:=t3.2 (h.length) (by omega) (by simp;omega)
  have kF:=t3.2 (h.length+1) (by omega) (by simp;omega)
  have kN:=t3.2 (h.length+3) (by omega) (by simp;omega)
  have kW:=t3.2 (h.length+4) (by omega) (by simp;omega)
  have kU:=t3.2 uw (by omega) (by simp;omega)
  rw[jB] at kB
  rw[jF] at kF
  rw[jN] at kN
  rw[jW] at kW
  have kE:EI V nid uid uv (aw v) b x h3:=J.env.keep J.run J.ap t3
  have kA:Ap R V sid2 cid nid uid:=Ap.step J.env J.ap t4
  have kv:=J.vals
  simp only at kv
  have kl:=t3.1
  have hs2:sid2<h3.length:=t2.lt.2.1
  have hsb:sid2≠h.length+4/\sid2≠uw:=by rcases t4 with rfl|t4<;>omega
  obtain⟨hV0,hn0,hu0⟩:=helt
  have hxl:=J.xl
  simp only at hxl
  have hkb:e.kids.length<=1073741824:=by have:=W.sz;have:=aX e.kids;have:=e.sz_eq;omega
  have next:∀h5:List AO,h5.length=h3.length+1->(∀j,j<h3.length->j≠h.length+4->j≠uw->h5[j]?=h3[j]?)->h5[h.length+4]?=some (bO (h.length+3) f.params.length (.sl h3.length 1 0 (xs++[n]).length) false 0)->h5[h3.length]?=some (bf (xs++[n]))->
   CaI l R cid k V sid nid uid uv v b x h e f s1 rr ⟨i+1,sid2,h3.length,h5,.sl h3.length 1 0 (xs++[n]).length,xs++[n],s2,o2⟩:=λh5 g1 g2 g3 g4=>by
   refine⟨t2.frame (g2 _ (by omega) (by omega) (by omega)) (g2 _ (by omega) hsb.1 hsb.2) (g2 _ (by omega) (by omega) (by omega)),kE.frame (show h3.length<=h5.length by omega) (g2 _ (by omega) (by omega) (by omega)) (g2 _ (by omega) (by omega) (by omega)) (g2 _ (by omega) (by omega) (by omega)),kA,?_,?_,by rw[g2 _ (by omega) (by omega) (by omega)];exact kB,by rw[g2 _ (by omega) (by omega) (by omega)];exact kF,by rw[g2 _ (by omega) (by omega) (by omega)];exact kN,g3,by simp only;omega,.ss _ _ [] (by rw[UG];exact g4),.inr (by simp only;omega),by simp only;omega,by simp only;omega,by simp[hxl],by simp only;omega,λm hm=>?_,t5,t6⟩
   ·refine⟨by simp only;omega,λj j1 j2=>?_⟩
    simp only[Uj,UF,or_false,not_or] at j2
    rw[g2 j (by omega) (by omega) (by omega),t3.2 j (by omega) ?_,J.fr.2 j j1 (by simp[j2])]
    simp only[Uj,UF,or_false,not_or]
    exact⟨j2.1,by omega,j2.2.2⟩
   ·simp only
    rcases t4 with rfl|t4
    ·exact hsc
    ·exact .inr (by omega)
   ·rcases Un.1 hm with hm|hm
    ·exact J.v5 m hm
    ·rw[Up.1 hm];exact t1
  have hwi:=w1 (i:=i) (by have:=W.sz;have:=aX e.kids;have:=e.sz_eq;omega)
  have kWa:∀os,(h3++os)[h.length+4]?=some (bO (h.length+3) f.params.length wv false 0):=λos=>by rw[Ue (by omega)];exact kW
  have kWs:∀os z,(h3.set uw z++os)[h.length+4]?=some (bO (h.length+3) f.params.length wv false 0):=λos z=>by
   rw[Ue (by rw[UI];omega),Uc (by omega)];exact kW
  have fin:∀(h5:List AO) (sl:List (Nat × AV)),CaI l R cid k V sid nid uid uv v b x h e f s1 rr ⟨i+1,sid2,h3.length,h5,.sl h3.length 1 0 (xs++[n]).length,xs++[n],s2,o2⟩->Aw.look sl 9= .p (.int .i64 (IntKind.i64.wrap ((i:Int)+1)))->Aw.look sl 8= .ptr (h.length+4) 4 0 0->Aw.look sl 7= .ptr (h.length+1) 3 0 0->Aw.look sl 4= .ptr h.length 4 0 0->Aw.look sl 0= .ptr R 7 0 0->Aw.look sl 2= .ptr V 4 0 0->
   ∃a:CaS,CaI l R cid k V sid nid uid uv v b x h e f s1 rr a/\e.kids.length-a.i<e.kids.length-i/\Wk h.length (ag 67 sl) h5 (ag 67 [(9,.p (.int .i64 a.i)),(8,.ptr (h.length+4) 4 0 0),(7,.ptr (h.length+1) 3 0 0),(4,.ptr h.length 4 0 0),(0,.ptr R 7 0 0),(2,.ptr V 4 0 0)]) a.hh:=λh5 sl J5 e9 e8 e7 e4 e0 e2=>by
   have hl5:=J5.len
   simp only at hl5
   refine⟨_,J5,by simp only;omega,aH (by omega) ?_⟩
   simp[below,e9,e8,e7,e4,e0,e2,hwi]
   omega
  cases kv with
  |nn=>
   simp-implicitDefEqProofs[aa,kW, ↓kWa,bO]
   refine fin _ _ (next _ (by simp) (λj j1 j2 j3=>?_) ?_ ?_) (by simp) (by simp) (by simp) (by simp) (by simp) (by simp)
   ·rw[Uc (by omega),Ue j1]
   ·rw[Ug (by simp;omega)];rfl
   ·rw[Uc (by omega),Um (Uf _),Nat.sub_self];rfl
  |ss _ _ t hu=>
   rw[hu] at kU
   simp-implicitDefEqProofs[aa,kW, ↓kWs,bO,kU,bf]
   refine⟨⟨by omega,by omega⟩,?_⟩
   refine fin _ _ (next _ (by simp) (λj j1 j2 j3=>?_) ?_ ?_) (by simp) (by simp) (by simp) (by simp) (by simp) (by simp)
   ·rw[Uc (by omega),Ue (by simpa using j1),Uc (by omega)]
   ·rw[Ug (by simp;omega)];simp[bO]
   ·rw[Uc (by omega),Um (by simp)];simp[bf]
 ·simp at h1
  have hie:i=e.kids.length:=by have:=J.il;simp only at this;omega
  subst hie
  obtain⟨hR0',hs0',hc0'⟩:=J.run.lt
  simp only at hR0' hs0' hc0'
  have hsc:=J.fs
  have hsv:=J.us
  have huf:=J.fu
  have hul:=J.ul
  simp only at hsc hsv huf hul
  obtain⟨hV0,hn0,hu0⟩:=helt
  have hxl:=J.xl
  simp only at hxl
  simp-implicitDefEqProofs[jF]
  have hvu:=J.vals
  simp only at hvu
  cases o with
  |true=>
   obtain⟨e1,c,e2⟩:=J.over rfl
   simp only at e1
   subst e1
   rcases hX2 with⟨us,h3,_⟩|⟨c',h3,rfl,rfl⟩
   ·rw[e2] at h3;cases h3
   rw[e2] at h3
   cases h3
   have hrun:=J.run
   simp only[e2] at hrun
   refine(Jy G hrun.run jW (by
    cases hvu with
    |nn=>exact .inl ⟨rfl,by rw[hpl,←hxl];rfl⟩
    |ss _ _ t _=>exact .inr ⟨uw,by rw[hpl,←hxl]⟩) f.body).mono ?_
   rintro z h' ⟨rfl,rfl⟩
   have jR2:=hrun.run
   simp only[aJ] at jR2
   simp-implicitDefEqProofs[aa,jR2]
   exact⟨0,sidc,rfl,⟨by omega,by omega⟩,(λm h=>by cases h),hrun,J.fr,by rcases hsc with e|e<;>omega⟩
  |false=>
   obtain⟨Ic,r2,hx,hr⟩:=J.go rfl
   simp only[List.drop_length] at hx Ic hr
   cases hx with
   |nil=>
   have hrr:rr= .ok xs:=by rw[hr];simp[vT]
   rcases hX2 with⟨us,h3,hcal⟩|⟨c',h3,_,_⟩
   case inr=>rw[hrr] at h3;cases h3
   rw[hrr] at h3
   cases h3
   cases hcal with
   | @cal _ f' _ _ v'' _ r'' q1 q2 q3=>
   rw[hf] at q1
   cases q1
   have hap:=nu hc hf
   have hflat:aw [f.params.zip xs]=f.params.zip xs:=by simp[aw]
   have hz1:(f.params.zip xs).map (·.1)=f.params:=List.map_fst_zip (by omega)
   have hz2:(f.params.zip xs).map (·.2)=xs:=List.map_snd_zip (by omega)
   have hzl:(f.params.zip xs).length=f.params.length:=by rw[List.length_zip];omega
   have IW:In5 [f.params.zip xs] s1:=by
    refine⟨Ic.g,λm hm y hy=>?_,uE hap q2,Ic.m,?_⟩
    ·rw[Up.1 hm] at hy
     exact J.v5 _ (by rw[show y.2=y.2 from rfl];have:=List.mem_map_of_mem (f:=Prod.snd) hy;rw[hz2] at this;exact this)
    ·rw[hflat,hzl]
     have:=Ic.m
     unfold M5 at this
     omega
   have EW:EI (h.length+4) (h.length+3) uw wv (aw [f.params.zip xs]) false 0 hh:=by
    rw[hflat]
    refine⟨by rw[hzl];exact jW,⟨[],by rw[hz1,UG];exact jN⟩,by rw[hz2];exact hvu,by omega,hul⟩
   have AW:Ap R (h.length+4) sidc cid (h.length+3) uw:=⟨by omega,by omega,hsv,by omega,by omega,by omega⟩
   have hrun:=J.run
   simp only at hrun
   refine(hB j hjk f.body [f.params.zip xs] s1 v'' s' r'' (λy hy=>⟨4,(ij hc).2 f (Uh hf) y hy⟩) (by omega) ⟨1,zM hc hf⟩ q3 IW (h.length+4) 0 sidc (h.length+3) uw wv hh hrun EW AW).mono ?_
   rintro z h' ⟨sid',nid',uid',uv',rfl,p1,p2,p3,p4,p5,p6,p7⟩
   have pR:=p1.run
   have pW:=p2.env
   simp only[aJ] at pR
   have hfr:Fr [R,sid,cid] h h':=by
    refine J.fr.trans p4 λy hy=>?_
    simp only[Uj,UF,or_false] at hy⊢
    rcases hy with rfl|rfl|rfl|rfl|rfl|rfl
    ·exact .inl (.inl rfl)
    ·rcases hsc with e|e
     ·exact .inl (.inr (.inl e))
     ·exact .inr (by omega)
    ·exact .inl (.inr (.inr rfl))
    ·exact .inr (by omega)
    ·exact .inr (by omega)
    ·exact .inr (by omega)
   have hsd:sid'=sid\/h.length<=sid':=by
    have hl0:=J.len
    simp only at hl0
    rcases p5 with e|e
    ·rw[e];rcases hsc with q|q<;>omega
    ·exact .inr (by omega)
   cases r'' with
   |st c=>
    simp only[cX,bC] at pR p1
    simp-implicitDefEqProofs[aa,pR]
    exact⟨0,sid',rfl,⟨by omega,by omega⟩,(λm h=>by cases h),p1,hfr,hsd⟩
   |ok q=>
    simp only[cX,bC] at pR p1
    simp-implicitDefEqProofs[aa,pR,pW,bO]
    have hgood:=(dE q3 ⟨IW.g,IW.ge⟩).2.2.2
    cases q with
    |none=>exact⟨0,sid',rfl,⟨by omega,by omega⟩,(λm h=>by cases h;rfl),p1,hfr,hsd⟩
    |some n=>exact⟨n,sid',rfl,hgood n rfl,(λm h=>by cases h;rfl),p1,hfr,hsd⟩
end
section
theorem AgV.step{h h':List AO}{lo sid sid':Nat}{av:AV}{xs:List Int}(A:AgV h lo sid av xs)(e:∀i,lo<=i->i<h.length->i≠sid->h'[i]?=h[i]?)(hs:sid'=sid\/h.length<=sid'):AgV h' lo sid' av xs:=by
 cases A with
 |nn=>exact .nn
 |pp xs=>exact .pp xs
 |ss aid xs h1 h2 h3=>
  have hl:=(Ua.1 h1).1
  exact .ss aid xs (by rw[e aid h2 hl h3];exact h1) h2 (by omega)
theorem AgV.low{h:List AO}{lo lo' sid:Nat}{av:AV}{xs:List Int}(A:AgV h lo sid av xs)(hl:lo'<=lo):AgV h lo' sid av xs:=by
 cases A with
 |nn=>exact .nn
 |pp xs=>exact .pp xs
 |ss aid xs h1 h2 h3=>exact .ss aid xs h1 (Uv hl h2) h3
theorem AgV.sl_inv{h:List AO}{lo sid nid n:Nat}{xs:List Int}(A:AgV h lo sid (.sl nid 1 0 n) xs):h[nid]?=some (bf xs)/\lo<=nid/\nid≠sid:=by
 generalize hz:AV.sl nid 1 0 n=z at A
 cases A with
 |nn=>cases hz
 |pp=>cases hz
 |ss aid _ h1 h2 h3=>
  simp only[AV.sl.injEq] at hz
  obtain⟨rfl,_⟩:=hz
  exact⟨h1,h2,h3⟩
structure CbS where (i sid:Nat) (sv:AV) (hh:List AO) (av:AV) (xs:List Int) (s:S5)
structure CbI (l:List Fd) (M k fuel sid:Nat) (u:AV) (v:List Sc5) (I:List Nat) (h:List AO) (box:AO) (e:Ex) (s1:S5) (rr:O5 (List Int)) (a:CbS):Prop where
 pl:PL M l fuel sid (h++[box]) a.s a.sv a.sid a.hh
 ci:CI a.hh u v I M a.sid
 args:AgV a.hh (h.length+1) a.sid a.av a.xs
 np:∀xs,a.av≠ .p (ay xs)
 xl:a.xs.length=a.i
 il:a.i<=e.kids.length
 v5:∀n∈a.xs,V5 n
 go:In5 v a.s/\∃r2,Ev l (.exs k v a.s (e.kids.drop a.i) s1 r2)/\rr=vT a.xs r2
variable (G:aq)
theorem Ek{P:Program}{k:Nat}{c:AK}{ts:List AV}{h:List AO}{Q:Aw.AX->List AV->List AO->Prop}(n:Nat)(R:List AV->List AO->Prop)(Z:TypeId->PV->List AO->Prop)
 (h1:∀Q',(∀ts' h',R ts' h'->Q' (.exit n) ts' h')->(∀t v ts' h',Z t v h'->Q' (.pan t v) ts' h')->AKW P G k c ts h Q')(h2:∀ts' h',R ts' h'->Q (.exit n) ts' h')(h3:∀t v ts' h',Z t v h'->Q (.pan t v) ts' h'):AKW P G k c ts h Q:=h1 Q h2 h3
theorem Ok{l:List Fd}{M k fuel:Nat}(hc:aP l=0)(hz:be l<=1073741824)(hB:∀j,j<k->PcC G l M j fuel)(e:Ex)(hop:e.op=13)(W:WfE l k e)(ihk:∀a∈e.kids,PxC G l M k fuel a):PxC G l M k fuel e:=by
 intro v s s' r hE I0 u I sid sv h H C
 obtain⟨j,f,hj,hjk,hf,hpl⟩:=W.co e (by rw[Ex.pre_eq];simp) hop
 obtain⟨s1,rr,hX,hX2⟩:∃s1 rr,Ev l (.exs k v s e.kids s1 rr)/\((∃us,rr= .ok us/\Ev l (.cal j us s1 s' r))\/∃c,rr= .st c/\s'=s1/\r= .st c):=by
  cases hE with
  |call _ h1 h2 h3 h4=>
   rw[hj] at h2;cases h2
   exact⟨_,_,h1,.inl ⟨_,rfl,h4⟩⟩
  |callS _ h1=>exact⟨_,_,h1,.inr ⟨_,rfl,rfl,rfl⟩⟩
  |num h1 _=>omega
  |var h1 _=>omega
  |firstS h1 h2 _ _=>omega
  |and0 h1 _ _=>omega
  |and1 h1 _ _ _ _=>omega
  |andS h1 _ _ _ _=>omega
  |not h1 _ _=>omega
  |at_ h1 _ _ _ _=>omega
  |atS h1 _ _ _=>omega
  |bin _ h1 _ _ _ _=>omega
  |binS _ h1 _ _ _=>omega
  |binD _ h1 _ _ _ _=>omega
 have hec:=e.cs_eq
 have hsl:exL e.kids= .lst 4 (e.kids.map Ex.cs):=rfl
 have hll:l.length<=be l:=ia l
 obtain⟨e0,rfl,_,hue⟩:=C.chn.is
 obtain⟨box,hbox⟩:∃box,box=AO.row 4 [[.p (.int .i64 13),.p (.int .i64 e.n),.p (.str e.name),.p (.lst 4 (e.kids.map Ex.cs))]]:=⟨_,rfl⟩
 refine AC.go ju ?_
 simp-implicitDefEqProofs[am,hec,hsl,hop]
 rw[←hbox]
 have J0:CbI l M k fuel sid (.ptr e0 2 0 0) v I h box e s1 rr ⟨0,sid,sv,h++[box],.nils,[],s⟩:=by
  refine⟨⟨H.more _,Fr.refl _ _,.inl rfl⟩,C.more _,.nn,(λxs h=>by cases h),rfl,Vf _,(λn h=>by cases h),I0,rr,hX,?_⟩
  cases rr<;>rfl
 have hmb:M<h.length:=H.lt
 have hsb:=H.said.lt
 refine Ek G 1 (λts' h'=>∃a,CbI l M k fuel sid (.ptr e0 2 0 0) v I h box e s1 rr a/\a.i=e.kids.length/\h'=a.hh/\∃z,ts'=ag 126 ((75,z)::[(74,.p (.int .i64 a.i)),(73,.p (.int .i64 e.kids.length)),(72,.p (.lst 4 (e.kids.map Ex.cs))),(9,a.av),(4,.ptr h.length 4 0 0),(0,.ptr M 20 0 0),(2,.ptr e0 2 0 0)]))
  (λt x h'=>∃c,t=bt/\x= .int .i64 c/\rr= .st c/\∃sv' sid',PL M l fuel sid h s1 sv' sid' h') (λQ' qE qP=>?_) ?_ ?_
 ·refine az (λa:CbS=>ag 126 [(74,.p (.int .i64 a.i)),(73,.p (.int .i64 e.kids.length)),(72,.p (.lst 4 (e.kids.map Ex.cs))),(9,a.av),(4,.ptr h.length 4 0 0),(0,.ptr M 20 0 0),(2,.ptr e0 2 0 0)]) (λa=>a.hh) (CbI l M k fuel sid (.ptr e0 2 0 0) v I h box e s1 rr) (λa=>e.kids.length-a.i) ⟨0,sid,sv,h++[box],.nils,[],s⟩ J0 ?_ ?_
  ·refine aH (by simp) ?_
   simp[below]
   omega
  clear J0
  rintro⟨i,sidc,svc,hh,av,xs,sc⟩ J
  have jB:hh[h.length]?=some box:=by have:=PL.keep H J.pl (i:=0) (by simp);simpa using this
  have jl:=J.pl.fr.1
  simp only[Uu,Ur,List.length_nil] at jl
  have hxl:=J.xl
  have hil:=J.il
  simp only at hxl hil
  by_cases h1:i<e.kids.length
  ·have hg:=Ub h1
   have ha:=Uo h1
   obtain⟨a,hga⟩:∃a,a=e.kids[i]:=⟨_,rfl⟩
   rw[←hga] at hg ha
   have hka:=a.cs_eq
   have hdr:e.kids.drop i=a::e.kids.drop (i+1):=by
    rw[UY h1,hga]
   obtain⟨Ic,r2,hx,hr⟩:=J.go
   simp only[hdr] at hx hr Ic
   simp-implicitDefEqProofs[h1,hg,hka]
   rw[←hga]
   have P0:PL M l fuel sid (h++[box]) sc svc sidc (hh++[.row 4 [a.cs.map .p]]):=⟨J.pl.run.more _,J.pl.fr.trans (Fr.more [] _ _) (λi hi=>by cases hi),J.pl.fs⟩
   have C0:CI (hh++[.row 4 [a.cs.map .p]]) (.ptr e0 2 0 0) v I M sidc:=J.ci.more _
   have hexc:=λs2 r3 (he:Ev l (.ex k v sc a s2 r3))=>ihk a ha v sc s2 r3 he Ic _ I sidc svc (hh++[.row 4 [a.cs.map .p]]) P0.run C0
   have hwi:=w1 (i:=i) (by have:=W.sz;have:=aX e.kids;have:=e.sz_eq;omega)
   have hav:=J.args
   have hnp:=J.np
   simp only at hav hnp
   have step:∀s2 n r4,Ev l (.ex k v sc a s2 (.ok n))->Ev l (.exs k v s2 (e.kids.drop (i+1)) s1 r4)->rr=vT (xs++[n]) r4->AC Tryz.prog G bB [.ptr M 20 0 0,.agg (a.cs.map .p),.ptr e0 2 0 0] (hh++[.row 4 [a.cs.map .p]]) λz h2=>z= .ret (.p (.int .i64 n))/\∃sv2 sid2,CI h2 (.ptr e0 2 0 0) v I M sid2/\PL M l fuel sid (h++[box]) s2 sv2 sid2 h2/\V5 n/\In5 v s2/\AgV h2 (h.length+1) sid2 av xs:=λs2 n r4 q1 q2 q3=>by
    refine(hexc _ _ q1).mono ?_
    rintro z h2 ⟨rfl,sv2,sid2,P⟩
    have Ie:=Ic.ex q1
    refine⟨rfl,sv2,sid2,C0.after P,P0.trans P,Ie.2 n rfl,Ie.1,AgV.step hav (λj j1 j2 j3=>?_) ?_⟩
    ·rw[P.fr.2 j (by simp;omega) (by simp only[Uj,UF,or_false,not_or];exact⟨by omega,j3⟩),Ue j2]
    ·rcases P.fs with q|q
     ·exact .inl q
     ·simp at q;exact .inr (by omega)
   have next:∀s2 n r4,Ev l (.exs k v s2 (e.kids.drop (i+1)) s1 r4)->rr=vT (xs++[n]) r4->∀sv2 sid2 h2,CI h2 (.ptr e0 2 0 0) v I M sid2->PL M l fuel sid (h++[box]) s2 sv2 sid2 h2->V5 n->In5 v s2->∀h5 nid,h2.length<=nid->(∀j,j<h2.length->j<h.length+1\/j=sid2->h5[j]?=h2[j]?)->h5[nid]?=some (bf (xs++[n]))->
    CbI l M k fuel sid (.ptr e0 2 0 0) v I h box e s1 rr ⟨i+1,sid2,sv2,h5,.sl nid 1 0 (xs++[n]).length,xs++[n],s2⟩:=λs2 n r4 q2 q3 sv2 sid2 h2 C2 P hn I2 h5 nid g1 g2 g3=>by
    have hnl:=(Ua.1 g3).1
    have hM:=P.run.lt
    have hS:=P.run.said.lt
    have hl:=P.fr.1
    simp only[Uu,Ur,List.length_nil] at hl
    refine⟨⟨P.run.frame (by simp only;omega) (g2 _ hM (.inl (by omega))) (g2 _ hS (.inr rfl)),⟨by simp only[Uu,Ur,List.length_nil];omega,λj j1 j2=>?_⟩,P.fs⟩,⟨C2.chn.frame λj j1=>g2 j (C2.chn.lt j j1) (.inl (by have:=C.chn.lt j j1;omega)),C2.nd,C2.sn,C2.mn⟩,.ss _ _ g3 (by omega) (by simp only;omega),(λxs h=>by cases h),by simp[hxl],by simp only;omega,λm hm=>?_,I2,r4,q2,q3⟩
    ·simp only[Uu,Ur,List.length_nil] at j1
     rw[g2 j (by omega) (.inl (by omega))]
     exact P.fr.2 j (by simp;omega) j2
    ·rcases Un.1 hm with hm|hm
     ·exact J.v5 m hm
     ·rw[Up.1 hm];exact hn
   have fin:∀(h5:List AO) (sl:List (Nat × AV)) (nid sid2:Nat) (sv2:AV) (n:Int) (s2:S5),CbI l M k fuel sid (.ptr e0 2 0 0) v I h box e s1 rr ⟨i+1,sid2,sv2,h5,.sl nid 1 0 (xs++[n]).length,xs++[n],s2⟩->Aw.look sl 74= .p (.int .i64 (IntKind.i64.wrap ((i:Int)+1)))->Aw.look sl 73= .p (.int .i64 e.kids.length)->Aw.look sl 72= .p (.lst 4 (e.kids.map Ex.cs))->Aw.look sl 9= .sl nid 1 0 (xs++[n]).length->Aw.look sl 4= .ptr h.length 4 0 0->Aw.look sl 0= .ptr M 20 0 0->Aw.look sl 2= .ptr e0 2 0 0->
    ∃a:CbS,CbI l M k fuel sid (.ptr e0 2 0 0) v I h box e s1 rr a/\e.kids.length-a.i<e.kids.length-i/\Wk h.length (ag 126 sl) h5 (ag 126 [(74,.p (.int .i64 a.i)),(73,.p (.int .i64 e.kids.length)),(72,.p (.lst 4 (e.kids.map Ex.cs))),(9,a.av),(4,.ptr h.length 4 0 0),(0,.ptr M 20 0 0),(2,.ptr e0 2 0 0)]) a.hh:=λh5 sl nid sid2 sv2 n s2 J5 e74 e73 e72 e9 e4 e0' e2=>by
    have hl5:=J5.pl.fr.1
    simp only[Uu,Ur,List.length_nil] at hl5
    have hn5:nid<h5.length:=by
     exact(Ua.1 J5.args.sl_inv.1).1
    refine⟨_,J5,by simp only;omega,aH (by omega) ?_⟩
    simp[below,e74,e73,e72,e9,e4,e0',e2,hwi]
    omega
   have hx':(∃c,Ev l (.ex k v sc a s1 (.st c))/\rr= .st c)\/∃s2 n r4,Ev l (.ex k v sc a s2 (.ok n))/\Ev l (.exs k v s2 (e.kids.drop (i+1)) s1 r4)/\rr=vT (xs++[n]) r4:=by
    cases hx with
    |consS h1=>exact .inl ⟨_,h1,hr⟩
    |cons h1 h2=>exact .inr ⟨_,_,_,h1,h2,by rw[hr];simp[vT]⟩
    |consT h1 h2=>exact .inr ⟨_,_,_,h1,h2,by rw[hr];simp[vT]⟩
   rcases hx' with⟨c,h1,hr'⟩|⟨s2,n,r4,h1,h2,hr'⟩
   ·refine(hexc _ _ h1).mono ?_
    rintro z h3 ⟨rfl,sv2,sid2,P⟩
    simp-implicitDefEqProofs[db]
    exact λts=>qP _ _ _ _ ⟨c,rfl,rfl,hr',sv2,sid2,(P0.trans P).from⟩
   ·have hkb:e.kids.length<=1073741824:=by have:=W.sz;have:=aX e.kids;have:=e.sz_eq;omega
    cases hav with
    |pp=>exact(hnp _ rfl).elim
    |nn=>
     refine(step s2 n _ h1 h2 hr').mono ?_
     rintro z h3 ⟨rfl,sv2,sid2,C2,P,hn,I2,A2⟩
     simp-implicitDefEqProofs[aa]
     refine fin _ _ (h3.length+1) _ _ n _ (next _ n _ h2 hr' _ _ _ C2 P hn I2 _ _ (by omega) (λj j1 j2=>by rw[Ue j1]) ?_) (by simp) (by simp) (by simp) (by simp) (by simp) (by simp) (by simp)
     rw[Um (by omega)];simp[bf]
    |ss aid _ hu h4 h5=>
     refine(step s2 n _ h1 h2 hr').mono ?_
     rintro z h3 ⟨rfl,sv2,sid2,C2,P,hn,I2,A2⟩
     obtain⟨hu3,h43,h53⟩:=A2.sl_inv
     have hul:=(Ua.1 hu3).1
     simp only[bf] at hu3
     have hua:∀os,(h3++os)[aid]?=some (.row 1 (xs.map λn=>[.p (.int .i64 n)])):=λos=>by rw[Ue hul];exact hu3
     simp-implicitDefEqProofs[aa, ↓hua]
     refine⟨⟨by omega,by omega⟩,?_⟩
     refine fin _ _ (h3.length+1) _ _ n _ (next _ n _ h2 hr' _ _ _ C2 P hn I2 _ _ (by omega) (λj j1 j2=>?_) ?_) (by simp) (by simp) (by simp) (by simp) (by simp) (by simp) (by simp)
     ·rw[Ue (by simp;omega),Uc (by omega),Ue j1]
     ·rw[Um (by simp)];simp[bf]
      exact Uq (by simp)
  ·simp-implicitDefEqProofs[h1]
   refine qE _ _ ⟨⟨i,sidc,svc,hh,av,xs,sc⟩,J,by simp only;omega,rfl,_,rfl⟩
 ·rintro ts' h' ⟨a,J,hi,rfl,z,rfl⟩
  obtain⟨i,sidc,svc,hh,av,xs,sc⟩:=a
  have jB:hh[h.length]?=some box:=by have:=PL.keep H J.pl (i:=0) (by simp);simpa using this
  simp only at hi
  subst hi
  obtain⟨Ic,r2,hx,hr⟩:=J.go
  simp only[List.drop_length] at hx Ic hr
  cases hx with
  |nil=>
  have hrr:rr= .ok xs:=by rw[hr];simp[vT]
  rcases hX2 with⟨us,h3,hcal⟩|⟨c',h3,_,_⟩
  case inr=>rw[hrr] at h3;cases h3
  rw[hrr] at h3
  cases h3
  have jM:=J.pl.run.men
  simp only[hZ] at jM
  rw[hbox] at jB
  simp-implicitDefEqProofs[jM,jB]
  refine(Fe G l e.name (by omega)).use ?_
  simp-implicitDefEqProofs[hj,ixI]
  refine(hB j hjk xs s1 s' r hcal J.v5 Ic.g Ic.m av sidc svc hh J.pl.run (J.args.low (Vf _))).mono ?_
  rintro z h3 ⟨rfl,sv2,sid2,P⟩
  have PP:=(J.pl.trans P).from
  cases r with
  |ok n=>
   simp-implicitDefEqProofs[aa,db]
   exact⟨rfl,sv2,sid2,PP⟩
  |st c=>
   simp-implicitDefEqProofs[db]
   exact⟨rfl,sv2,sid2,PP⟩
 ·rintro t x ts' h' ⟨c,rfl,rfl,hr,sv',sid',P⟩
  rcases hX2 with⟨us,h3,hcal⟩|⟨c',h3,rfl,rfl⟩
  ·rw[hr] at h3;cases h3
  rw[hr] at h3
  cases h3
  simp-implicitDefEqProofs[]
  exact⟨rfl,sv',sid',P⟩
end
section
def TF(r:O5 (Option Int))(x:ARes)(h':List AO):Prop:=
 match r with
 | .ok none=>x= .ret .nilp
 | .ok (some n)=>∃b,x= .ret (.ptr b 1 0 0)/\h'[b]?=some (.row 1 [[.p (.int .i64 n)]])
 | .st c=>x= .pan bt (.int .i64 c)
structure BkL (M:Nat) (l:List Fd) (fuel sid:Nat) (u:AV) (v':List Sc5) (I:List Nat) (h:List AO) (s':S5) (sv':AV) (sid':Nat) (h':List AO):Prop where
 run:MI M l fuel sv' sid' s' h'
 ci:CI h' u v' I M sid'
 fr:Fr (M::sid::I) h h'
 fs:sid'=sid\/h.length<=sid'
 env:∀i∈I,∀x,h[i]?=some (.row 2 x)->h'[i]?=some (.row 2 x)
def BkX(M:Nat)(l:List Fd)(fuel sid:Nat)(u:AV)(v':List Sc5)(I:List Nat)(h:List AO)(s':S5)(r:O5 (Option Int))(x:ARes)(h':List AO):Prop:=TF r x h'/\∃sv' sid',BkL M l fuel sid u v' I h s' sv' sid' h'
def jk(h:List AO)(ps:List (List UInt8))(us:List Int)(i:Nat):List AO:=h++[.mp (mpV ((ps.zip us).take i)),.row 2 [[.mp h.length,.nilp]]]
theorem Hr{h:List AO}{ps:List (List UInt8)}{us:List Int}{i j:Nat}(hj:j<h.length):(jk h ps us i)[j]?=h[j]?:=Ue hj
theorem Gl{h:List AO}{ps:List (List UInt8)}{us:List Int}{i:Nat}:(jk h ps us i)[h.length]?=some (.mp (mpV ((ps.zip us).take i))):=by simp[jk]
theorem FG{h:List AO}{ps:List (List UInt8)}{us:List Int}{i:Nat}:(jk h ps us i)[h.length+1]?=some (.row 2 [[.mp h.length,.nilp]]):=by simp[jk]
theorem HA{h:List AO}{ps:List (List UInt8)}{us:List Int}{i:Nat}{p:List UInt8}{n:Int}(hp:ps[i]?=some p)(hn:us[i]?=some n)(hap:ps.Pairwise (· ≠ ·)):
 ∃m,gq (.str p) (.p (.int .i64 n)) (mpV ((ps.zip us).take i))=some m/\(jk h ps us i).set h.length (.mp m)=jk h ps us (i+1):=by
 have hz:(ps.zip us)[i]?=some (p,n):=by rw[List.getElem?_zip_eq_some];exact⟨hp,hn⟩
 have hl:=(Ua.1 hz).1
 refine⟨_,tP p n _,?_⟩
 have hno:p∉((ps.zip us).take i).map (·.1):=λhm=>by
  obtain⟨x,hx,rfl⟩:=Uw.1 hm
  obtain⟨j,hj,he⟩:=UZ.1 hx
  have hji:j<i:=by omega
  have:=List.pairwise_iff_getElem.1 hap j i (by simp at hl hj;omega) (Ua.1 hp).1 hji
  rw[(Ua.1 hp).2,←he,List.getElem_zip] at this
  exact this rfl
 rw[CK hno]
 unfold jk
 rw[ah hl,(Ua.1 hz).2]
 simp
variable (G:aq)
def PbC(l:List Fd)(M k fuel:Nat)(xs:List Sm):Prop:=∀v s v' s' r,Ev l (.blk k v s xs v' s' r)->In5 v s->∀u I sid sv h,MI M l fuel sv sid s h->CI h u v I M sid->
 AC Tryz.prog G aW [.ptr M 20 0 0,.p (smL xs),u] h (BkX M l fuel sid u v' I h s' r)
theorem ON{l:List Fd}{M k fuel:Nat}(hc:aP l=0)(hz:be l<=1073741824)(hB:∀f,l[k]?=some f->PbC G l M k fuel f.body):PcC G l M k fuel:=by
 intro us s s' r hE hus hg hm av sid sv h H A
 cases hE with
 | @cal _ f _ _ v' _ r' q1 q2 q3=>
 have hap:=nu hc q1
 have hflat:aw [f.params.zip us]=f.params.zip us:=by simp[aw]
 have hz1:(f.params.zip us).map (·.1)=f.params:=List.map_fst_zip (by omega)
 have hz2:(f.params.zip us).map (·.2)=us:=List.map_snd_zip (by omega)
 have hzl:(f.params.zip us).length=f.params.length:=by rw[List.length_zip];omega
 have hfz:=cK (Uh q1)
 have hfs:f.sz=1+f.name.length+(f.params.length+(f.params.map List.length).sum)+aK f.body:=rfl
 have IW:In5 [f.params.zip us] s:=by
  refine⟨hg,λm hm y hy=>?_,uE hap q2,hm,?_⟩
  ·rw[Up.1 hm] at hy
   exact hus _ (by rw[show y.2=y.2 from rfl];have:=List.mem_map_of_mem (f:=Prod.snd) hy;rw[hz2] at this;exact this)
  ·rw[hflat,hzl]
   unfold M5 at hm
   omega
 have hfl:fdL l= .lst 3 (l.map Fd.cs):=rfl
 have hfc:f.cs=[.str f.name,aD f.params,smL f.body]:=rfl
 have hpL:aD f.params= .lst 1 (f.params.map λw=>[.str w]):=rfl
 have hmb:=H.lt
 have hsb:=H.said.lt
 have aM:∀os,(h++os)[M]?=some (hZ l fuel sv s):=λos=>(H.more os).men
 simp only[hZ] at aM
 refine AC.go pN ?_
 simp-implicitDefEqProofs[jr, ↓aM,hfl,q1,hfc,hpL]
 rw[←hpL]
 have h0:h++[AO.mp [],AO.row 2 [[.mp h.length,.nilp]]]=jk h f.params us 0:=by simp[jk,mpV]
 rw[h0]
 have hpn:f.params.length<=1073741824:=by omega
 refine Ek G 0 (λts' h'=>h'=jk h f.params us f.params.length/\∃z,ts'=ag 57 ((25,z)::[(24,.p (.int .i64 f.params.length)),(23,.p (.int .i64 f.params.length)),(22,.p (aD f.params)),(7,.ptr (h.length+1) 2 0 0),(0,.ptr M 20 0 0),(1,.p (.int .i64 k)),(2,av)]))
  (λt x h'=>False) (λQ' qE _=>?_) ?_ ?_
 ·refine az (λi:Nat=>ag 57 [(24,.p (.int .i64 i)),(23,.p (.int .i64 f.params.length)),(22,.p (aD f.params)),(7,.ptr (h.length+1) 2 0 0),(0,.ptr M 20 0 0),(1,.p (.int .i64 k)),(2,av)]) (λi=>jk h f.params us i) (λi=>i<=f.params.length) (λi=>f.params.length-i) 0 (Vf _) ?_ ?_
  ·refine aH (by simp[jk]) ?_
   cases A with
   |nn=>simp[below,jk];omega
   |pp=>simp[below,jk];omega
   |ss aid _ q4 q5 q6=>have:=(Ua.1 q4).1;simp[below,jk];omega
  rintro i hi
  by_cases h1:i<f.params.length
  ·have hp:=Ub h1
   have hu:us[i]?=some us[i]:=Ub (by omega)
   generalize us[i]=n at hu
   obtain⟨m,e1,e2⟩:=HA (h:=h) hp hu hap
   have hwi:=w1 (i:=i) (by omega)
   cases A with
   |nn=>simp at hu
   |pp=>
    have hnL:ay us= .lst 1 (us.map λn=>[.int .i64 n]):=rfl
    simp-implicitDefEqProofs[h1,hpL,hp,hu,FG,Gl,e1,hnL]
    refine⟨i+1,by omega,by omega,?_⟩
    rw[e2]
    refine aH (by simp[jk]) ?_
    simp[below,jk,hwi,hpL]
    omega
   |ss aid _ q4 q5 q6=>
    have q7:∀i,(jk h f.params us i)[aid]?=some (bf us):=λi=>by rw[Hr (Ua.1 q4).1];exact q4
    simp only[bf] at q7
    simp-implicitDefEqProofs[h1,hpL,hp,hu,FG,Gl,e1,q7]
    refine⟨by omega,i+1,by omega,by omega,?_⟩
    rw[e2]
    have:=(Ua.1 q4).1
    refine aH (by simp[jk]) ?_
    simp[below,jk,hwi,hpL]
    omega
  ·simp-implicitDefEqProofs[h1]
   have:i=f.params.length:=by omega
   subst this
   exact qE _ _ ⟨rfl,_,rfl⟩
 ·rintro ts' h' ⟨rfl,z,rfl⟩
  have hM:(jk h f.params us f.params.length)[M]?=some (hZ l fuel sv s):=by rw[Hr hmb];exact H.men
  simp only[hZ] at hM
  have hall:(f.params.zip us).take f.params.length=f.params.zip us:=Uq (by omega)
  have C0:CI (jk h f.params us f.params.length) (.ptr (h.length+1) 2 0 0) [f.params.zip us] [h.length+1,h.length] M sid:=by
   refine⟨.last _ h.length _ FG (by rw[Gl,hall]),by simp,?_,?_⟩
   ·simp only[Uj,UF,or_false,not_or];omega
   ·simp only[Uj,UF,or_false,not_or];omega
  simp-implicitDefEqProofs[hM,hfl,q1,hfc]
  refine(hB f q1 _ _ _ _ _ q3 IW _ _ sid sv _ (H.more _) C0).mono ?_
  rintro z h2 ⟨hR,sv2,sid2,B⟩
  have PP:PL M l fuel sid h s' sv2 sid2 h2:=by
   have hfr:=B.fr
   unfold jk at hfr
   refine⟨B.run,hfr.from.sub λi hi=>?_,?_⟩
   ·simp only[Uj,UF,or_false] at hi⊢
    omega
   ·have:=B.fs
    simp only[jk,Uu] at this
    omega
  match r',hR with
  | .ok none,hR=>
    cases hR
    simp-implicitDefEqProofs[aa]
    exact⟨rfl,sv2,sid2,PP⟩
  | .ok (some n),⟨b,hb1,hb2⟩=>
    cases hb1
    simp-implicitDefEqProofs[aa,hb2]
    exact⟨rfl,sv2,sid2,PP⟩
  | .st c,hR=>
    cases hR
    simp-implicitDefEqProofs[]
    exact⟨rfl,sv2,sid2,PP⟩
 ·rintro t x ts' h' ⟨⟩
end
section
structure Snc (R cid V sid nid uid:Nat) (hb:List AO) (sid' nid' uid':Nat) (hh:List AO):Prop where
 fr:Fr [R,sid,cid,V,nid,uid] hb hh
 fs:sid'=sid\/hb.length<=sid'
 fn:nid'=nid\/hb.length<=nid'
 fu:uid'=uid\/hb.length<=uid'
section
variable {R cid V sid nid uid:Nat} {hb hh h2:List AO} {sid1 nid1 uid1 sid2 nid2 uid2:Nat}
theorem Snc.init(hb:List AO):Snc R cid V sid nid uid hb sid nid uid hb:=⟨Fr.refl _ _,.inl rfl,.inl rfl,.inl rfl⟩
theorem pq{a b c n m:Nat}(h1:b=a\/n<=b)(h2:c=b\/m<=c)(hnm:n<=m):c=a\/n<=c:=by
 rcases h2 with rfl|h2
 ·exact h1
 ·exact .inr (by omega)
theorem Snc.st(S:Snc R cid V sid nid uid hb sid1 nid1 uid1 hh)(F:Fr [R,sid1,cid,V,nid1,uid1] hh h2)(a:sid2=sid1\/hh.length<=sid2)(b:nid2=nid1\/hh.length<=nid2)(c:uid2=uid1\/hh.length<=uid2):Snc R cid V sid nid uid hb sid2 nid2 uid2 h2:=by
 refine⟨S.fr.trans F λy hy=>?_,pq S.fs a S.fr.1,pq S.fn b S.fr.1,pq S.fu c S.fr.1⟩
 have h1:=S.fs
 have h2:=S.fn
 have h3:=S.fu
 simp only[Uj,UF,or_false] at hy⊢
 omega
theorem Fr.wide{K:List Nat}{V nid uid:Nat}(F:Fr [R,sid,cid] hb hh):Fr [R,sid,cid,V,nid,uid] hb hh:=F.sub λi hi=> .inl (by
 simp only[Uj,UF,or_false] at hi⊢;omega)
theorem Snc.ex(S:Snc R cid V sid nid uid hb sid1 nid1 uid1 hh)(F:Fr [R,sid1,cid] hh h2)(a:sid2=sid1\/hh.length<=sid2):Snc R cid V sid nid uid hb sid2 nid1 uid1 h2:=
 S.st (Fr.wide (K:=[]) F) a (.inl rfl) (.inl rfl)
theorem Snc.keep(S:Snc R cid V sid nid uid hb sid1 nid1 uid1 hh){i:Nat}(hi:i<hb.length)(hn:i≠R/\i≠sid/\i≠cid/\i≠V/\i≠nid/\i≠uid):hh[i]?=hb[i]?:=
 S.fr.2 i hi (by simp only[Uj,UF,or_false];omega)
theorem Snc.base{h os:List AO}(S:Snc R cid V sid nid uid (h++os) sid1 nid1 uid1 hh):Snc R cid V sid nid uid h sid1 nid1 uid1 hh:=
 ⟨S.fr.from,pq (.inl rfl) S.fs (by simp),pq (.inl rfl) S.fn (by simp),pq (.inl rfl) S.fu (by simp)⟩
end
structure WfS (l:List Fd) (k:Nat) (x:Sm):Prop where
 form:∃d,aB d x=true
 args:∀a∈x.args,WfE l k a
 body:(∀y∈x.body,∃d,aB d y=true)/\aK x.body<=1073741824/\∃d,CoS l k d x.body
 els:(∀y∈x.els,∃d,aB d y=true)/\aK x.els<=1073741824/\∃d,CoS l k d x.els
 argn:x.args.length=gZ x.op
 op:1<=x.op/\x.op<=8
structure InS (v:List Sc5) (s:S5):Prop where
 g:G5 s
 ge:GE5 v
 un:Un5 v
 m:M5 s+1<=4000
 f:(aw v).length+s.left+1<=1073750000
theorem InS.in5{v:List Sc5}{s:S5}(I:InS v s):In5 v s:=⟨I.g,I.ge,I.un,by have:=I.m;omega,by have:=I.f;omega⟩
variable (G:aq)
def StX(l:List Fd)(R cid k:Nat)(xs:List Sm):Prop:=∀v s v' s' r,Ev l (.blk k v s xs v' s' r)->In5 v s->
 ∀V x0 sid nid uid uv h,RI R cid l sid s 0 false h->EI V nid uid uv (aw v) false x0 h->Ap R V sid cid nid uid->AC Tryz.prog G aI [.ptr R 7 0 0,.p (smL xs),.ptr V 4 0 0] h (StL R cid l V sid nid uid h ((aw v').take (aw v).length) x0 s' r)
def SmX(l:List Fd)(R cid k:Nat)(x:Sm):Prop:=∀v s v' s' r,Ev l (.stm k v s x v' s' r)->InS v s->
 ∀V x0 sid nid uid uv h,RI R cid l sid s 0 false h->EI V nid uid uv (aw v) false x0 h->Ap R V sid cid nid uid->AC Tryz.prog G gH [.ptr R 7 0 0,.agg (x.cs.map .p),.ptr V 4 0 0] h (StL R cid l V sid nid uid h (aw v') x0 s' r)
def LpA(l:List Fd)(k:Nat)(x:Sm)(v:List Sc5)(s1:S5)(n:Int)(v':List Sc5)(s':S5)(q:O5 (Option Int)):Prop:=
 (n=0/\v'=v/\s'=s1/\q= .ok none)\/(n≠0/\∃m v1 s2 q1,Ev l (.blk k ([]::v) s1 x.body (m::v1) s2 q1)/\((q1≠ .ok none/\v'=v1/\s'=s2/\q=q1)\/(q1= .ok none/\((s2.left=0/\v'=v1/\s'=s2/\q= .st 3)\/∃F,s2.left=F+1/\Ev l (.lp k v1 (s2.at_ F) x v' s' q)))))
theorem Ch{l:List Fd}{k:Nat}{x:Sm}{v v':List Sc5}{s s':S5}{q:O5 (Option Int)}(h:Ev l (.lp k v s x v' s' q)):∃a s1 r1,x.args=[a]/\Ev l (.ex k v s a s1 r1)/\((∃c,r1= .st c/\v'=v/\s'=s1/\q= .st c)\/∃n,r1= .ok n/\LpA l k x v s1 n v' s' q):=by
 cases h with
 |lpS ha h1=>exact⟨_,_,_,ha,h1,.inl ⟨_,rfl,rfl,rfl,rfl⟩⟩
 |lp0 ha h1=>exact⟨_,_,_,ha,h1,.inr ⟨_,rfl,.inl ⟨rfl,rfl,rfl,rfl⟩⟩⟩
 |lpEnd ha h1 hn h2 hq=>exact⟨_,_,_,ha,h1,.inr ⟨_,rfl,.inr ⟨hn,_,_,_,_,h2,.inl ⟨hq,rfl,rfl,rfl⟩⟩⟩⟩
 |lpFuel ha h1 hn h2 hl=>exact⟨_,_,_,ha,h1,.inr ⟨_,rfl,.inr ⟨hn,_,_,_,_,h2,.inr ⟨rfl,.inl ⟨hl,rfl,rfl,rfl⟩⟩⟩⟩⟩
 |lpGo ha h1 hn h2 hl h3=>exact⟨_,_,_,ha,h1,.inr ⟨_,rfl,.inr ⟨hn,_,_,_,_,h2,.inr ⟨rfl,.inr ⟨_,hl,h3⟩⟩⟩⟩⟩
def LpX(l:List Fd)(R cid k:Nat)(x:Sm):Prop:=∀v s n v' s' r,LpA l k x v s n v' s' r->InS v s->
 ∀V x0 sid nid uid uv h,RI R cid l sid s 0 false h->EI V nid uid uv (aw v) false x0 h->Ap R V sid cid nid uid->AC Tryz.prog G gJ [.ptr R 7 0 0,.agg (x.cs.map .p),.p (.int .i64 n),.ptr V 4 0 0] h (StL R cid l V sid nid uid h (aw v') x0 s' r)
theorem StL.mk{l:List Fd}{R cid V sid nid uid:Nat}{h hh:List AO}{w:Sc5}{x0:Int}{s':S5}{r:O5 (Option Int)}{sid' nid' uid':Nat}{uv':AV}(H:RI R cid l sid' s' (bC r) (cX r) hh)(E:EI V nid' uid' uv' w (bkB r) (bkV x0 r) hh)(A:Ap R V sid' cid nid' uid')(S:Snc R cid V sid nid uid h sid' nid' uid' hh):StL R cid l V sid nid uid h w x0 s' r (.ret (.tup [])) hh:=
 ⟨sid',nid',uid',uv',rfl,H,E,A,S.fr,S.fs,S.fn,S.fu⟩
theorem RI.setV{R cid V sid nid uid:Nat}{l:List Fd}{s s2:S5}{e:Int}{o:Bool}{uv:AV}{w:Sc5}{b:Bool}{x:Int}{h:List AO}(H:RI R cid l sid s e o h)(E:EI V nid uid uv w b x h)(z:AO):RI R cid l sid s e o (h.set V z):=by
 obtain⟨a1,a2,a3,a4⟩:=E.neR H
 exact H.frame (Uc a1) (Uc a2) (Uc a3)
theorem EI.setV{R cid V sid nid uid:Nat}{uv:AV}{w:Sc5}{b b':Bool}{x x':Int}{h:List AO}(E:EI V nid uid uv w b x h)(A:Ap R V sid cid nid uid):EI V nid uid uv w b' x' (h.set V (bO nid w.length uv b' x')):=by
 obtain⟨t,h1⟩:=E.names
 refine⟨Ug E.lt.1,⟨t,by rw[Uc E.neN];exact h1⟩,E.vals.frame λ_=>Uc (Ne.symm A.uV),E.ne,by rw[UI];exact E.ul⟩
theorem Pe{l:List Fd}{R cid k:Nat}{x:Sm}(W:WfS l k x)(hX:∀e,WfE l k e->ExC G l R cid k e)(hB:StX G l R cid k x.body)(hE:StX G l R cid k x.els)(hL:x.op=6->LpX G l R cid k x):SmX G l R cid k x:=by
 intro v s v' s' r hS I V x0 sid nid uid uv h H E A
 have hxc:=x.cs_eq
 have hsl:exL x.args= .lst 4 (x.args.map Ex.cs):=rfl
 obtain⟨hR0,hs0,hc0⟩:=H.lt
 obtain⟨hV0,hn0,hu0⟩:=E.lt
 have aR:∀os,(h++os)[R]?=some (aJ l sid cid s 0 false):=λos=>(H.more os).run
 have aV:∀os,(h++os)[V]?=some (bO nid (aw v).length uv false x0):=λos=>(E.more os).env
 obtain⟨box,hbox⟩:∃box,box=AO.row 5 [[.p (.int .i64 x.op),.p (.str x.name),.p (exL x.args),.p (smL x.body),.p (smL x.els)]]:=⟨_,rfl⟩
 obtain⟨a,ha0⟩:∃a,x.args[0]?=some a:=by
  have:x.args.length≠0:=by
   rw[W.argn]
   obtain⟨q1,q2⟩:=W.op
   have:x.op=1\/x.op=2\/x.op=3\/x.op=4\/x.op=5\/x.op=6\/x.op=7\/x.op=8:=by omega
   rcases this with q|q|q|q|q|q|q|q<;>rw[q]<;>decide
  exact⟨x.args[0],Ub (by omega)⟩
 have ham:=Uh ha0
 have hka:=a.cs_eq
 obtain⟨s1,r1,hx1,hrest⟩:∃s1 r1,Ev l (.ex k v s a s1 r1)/\((∃c,r1= .st c/\v'=v/\s'=s1/\r= .st c)\/∃n,r1= .ok n/\
  ((x.op=1/\∃m up,v=m::up/\bF m x.name=none/\v'=(m++[(x.name,n)])::up/\s'=s1/\r= .ok none)\/(x.op=2/\(gu v x.name).isSome=true/\v'=gN v x.name n/\s'=s1/\r= .ok none)\/(x.op=3/\v'=v/\s'=s1.say n/\r= .ok none)\/
    (x.op=4/\v'=v/\∃b s2 r2,x.args[1]?=some b/\Ev l (.ex k v s1 b s2 r2)/\((∃c,r2= .st c/\s'=s2/\r= .st c)\/∃m,r2= .ok m/\((16<=n/\s'=s2/\r= .st 2)\/∃i:Nat,n=(i:Int)/\i<16/\s'=s2.put i m/\r= .ok none)))\/
    (x.op=5/\∃m,Ev l (.blk k ([]::v) s1 (if n≠0 then x.body else x.els) (m::v') s' r))\/(x.op=6/\LpA l k x v s1 n v' s' r)\/(x.op=7/\v'=v/\s'=s1/\r= .ok (some n))\/(x.op=8/\v'=v/\s'=s1/\r= .ok none))):=by
  have hd:∀{b:Ex} {q:List Ex},x.args=b::q->b=a:=λ{b q} e=>by rw[e] at ha0;cases ha0;rfl
  cases hS with
  |argS h6 hA h1=>cases hd hA;exact⟨_,_,h1,.inl ⟨_,rfl,rfl,rfl,rfl⟩⟩
  |slet h6 hA h1 h2 h3=>cases hd hA;exact⟨_,_,h1,.inr ⟨_,rfl,.inl ⟨h6,_,_,h2,h3,rfl,rfl,rfl⟩⟩⟩
  |sset h6 hA h1 h2=>cases hd hA;exact⟨_,_,h1,.inr ⟨_,rfl,.inr (.inl ⟨h6,h2,rfl,rfl,rfl⟩)⟩⟩
  |ssay h6 hA h1=>cases hd hA;exact⟨_,_,h1,.inr ⟨_,rfl,.inr (.inr (.inl ⟨h6,rfl,rfl,rfl⟩))⟩⟩
  |sput h6 hA h1 h2 h3=>cases hd hA;exact⟨_,_,h1,.inr ⟨_,rfl,.inr (.inr (.inr (.inl ⟨h6,rfl,_,_,_,by rw[hA];rfl,h2,.inr ⟨_,rfl,.inr ⟨_,rfl,h3,rfl,rfl⟩⟩⟩)))⟩⟩
  |sputC h6 hA h1 h2 h3=>cases hd hA;exact⟨_,_,h1,.inr ⟨_,rfl,.inr (.inr (.inr (.inl ⟨h6,rfl,_,_,_,by rw[hA];rfl,h2,.inr ⟨_,rfl,.inl ⟨h3,rfl,rfl⟩⟩⟩)))⟩⟩
  |sputS h6 hA h1 h2=>cases hd hA;exact⟨_,_,h1,.inr ⟨_,rfl,.inr (.inr (.inr (.inl ⟨h6,rfl,_,_,_,by rw[hA];rfl,h2,.inl ⟨_,rfl,rfl,rfl⟩⟩)))⟩⟩
  |sif h6 hA h1 h2=>cases hd hA;exact⟨_,_,h1,.inr ⟨_,rfl,.inr (.inr (.inr (.inr (.inl ⟨h6,_,h2⟩))))⟩⟩
  |sloop h6 h1=>
   obtain⟨b,s1,r1,hA,g1,g2⟩:=Ch h1
   cases hd hA
   rcases g2 with g2|⟨n,g2,g3⟩
   ·exact⟨_,_,g1,.inl g2⟩
   ·exact⟨_,_,g1,.inr ⟨n,g2,.inr (.inr (.inr (.inr (.inr (.inl ⟨h6,g3⟩)))))⟩⟩
  |sback h6 hA h1=>cases hd hA;exact⟨_,_,h1,.inr ⟨_,rfl,.inr (.inr (.inr (.inr (.inr (.inr (.inl ⟨h6,rfl,rfl,rfl⟩))))))⟩⟩
  |sdo h6 hA h1=>cases hd hA;exact⟨_,_,h1,.inr ⟨_,rfl,.inr (.inr (.inr (.inr (.inr (.inr (.inr ⟨h6,rfl,rfl,rfl⟩))))))⟩⟩
 clear hS
 refine AC.go tH ?_
 simp-implicitDefEqProofs[lK,hxc,hsl,ha0,hka]
 have hbox':AO.row 5 [[.p (.int .i64 x.op),.p (.str x.name),.p (.lst 4 (x.args.map Ex.cs)),.p (smL x.body),.p (smL x.els)]]=box:=hbox.symm
 rw[hbox']
 have hX1:=hX a (W.args a ham) v s s1 r1 hx1 I.in5 V false x0 sid nid uid uv _ (H.more [box]) (E.more [box]) A
 rw[show a.cs.map AV.p=[.p (.int .i64 a.op),.p (.int .i64 a.n),.p (.str a.name),.p (exL a.kids)] by rw[hka];rfl] at hX1
 refine hX1.mono ?_
 rintro z h2 L
 obtain⟨n,sid1,rfl,e1,e2,e3,E2,A2,e4,e5,e6,e7⟩:=yL H E A L
 have I1:=(I.in5.ex hx1).1
 have hc1:=no hx1
 have b2:h2[h.length]?=some box:=by have:=e6 0 (by simp);simpa using this
 have S1:Snc R cid V sid nid uid h sid1 nid uid h2:=⟨Fr.wide (K:=[]) e4,e5,.inl rfl,.inl rfl⟩
 have cR:=e3.run
 have lB:h.length+1<=h2.length:=by simpa using e7
 clear L hX1 e6 e7
 rcases hrest with⟨c,rfl,rfl,rfl,rfl⟩|⟨n',rfl,hrest⟩
 ·
  simp only[bC,cX] at cR e3
  have cO:∀b:Ex,AC Tryz.prog G aU [.ptr R 7 0 0,.agg [.p (.int .i64 b.op),.p (.int .i64 b.n),.p (.str b.name),.p (exL b.kids)],.ptr V 4 0 0] h2 λx h'=>x= .ret (.p (.int .i64 0))/\∃os,h'=h2++os:=λb=>by
   have hbc:b.cs.map AV.p=[.p (.int .i64 b.op),.p (.int .i64 b.n),.p (.str b.name),.p (exL b.kids)]:=by rw[b.cs_eq];rfl
   rw[←hbc]
   exact yd G cR b _
  have cR2:∀os,(h2++os)[R]?=some (aJ l sid1 cid s' c true):=λos=>(e3.more os).run
  simp only[aJ] at cR cR2
  rw[hbox] at b2
  by_cases o4:x.op=4
  ·obtain⟨b,hb1⟩:∃b,x.args[1]?=some b:=by
    have:x.args.length=2:=by rw[W.argn,o4];decide
    exact⟨x.args[1],Ub (by omega)⟩
   have hkb:=b.cs_eq
   simp-implicitDefEqProofs[aa,b2,o4,hsl,hb1,hkb]
   refine(cO b).mono ?_
   rintro z h3 ⟨rfl,os,rfl⟩
   simp-implicitDefEqProofs[aa, ↓cR2]
   exact StL.mk (e3.more os) (E2.more os) A2 (S1.st (Fr.more _ _ _) (.inl rfl) (.inl rfl) (.inl rfl))
  ·simp-implicitDefEqProofs[aa,b2,o4,cR]
   exact StL.mk e3 E2 A2 S1
 ·have hnn:=e2 _ rfl
  subst hnn
  simp only[bC,cX] at cR e3
  have cR2:∀os,(h2++os)[R]?=some (aJ l sid1 cid s1 0 false):=λos=>(e3.more os).run
  have cV:=E2.env
  have vS:∀z,(h2.set V z)[V]?=some z:=λz=>Ug E2.lt.1
  obtain⟨lV,ln,lu⟩:=E2.lt
  obtain⟨lR,ls,lc⟩:=e3.lt
  obtain⟨d1,d2,d3,d4⟩:=E2.neR e3
  obtain⟨d5,d6⟩:=e3.neR
  have d7:=E2.neN
  have d8:=E2.ne
  have d9:=e3.ne
  obtain⟨A3,A4,A5,A6,A7,A8⟩:=A2
  have A2:Ap R V sid1 cid nid uid:=⟨A3,A4,A5,A6,A7,A8⟩
  have b2':=b2
  rw[hbox] at b2
  have fin:=λ(q:O5 (Option Int)) (sid2 nid2 uid2:Nat) (uv2:AV) (h3:List AO) (w:Sc5) (s2:S5) (g1:RI R cid l sid2 s2 (bC q) (cX q) h3) (g2:EI V nid2 uid2 uv2 w (bkB q) (bkV x0 q) h3) (g3:Ap R V sid2 cid nid2 uid2) (g4:Snc R cid V sid nid uid h sid2 nid2 uid2 h3)=>StL.mk (l:=l) (w:=w) (x0:=x0) (s':=s2) (r:=q) g1 g2 g3 g4
  rcases hrest with⟨o1,m,up,rfl,hsg,rfl,rfl,rfl⟩|⟨o2,hvs,rfl,rfl,rfl⟩|⟨o3,rfl,rfl,rfl⟩|⟨o4,rfl,b,s2,r2,hb1,hx2,hrest⟩|⟨o5,m,hbk⟩|⟨o6,hlp⟩|⟨o7,rfl,rfl,rfl⟩|⟨o8,rfl,rfl,rfl⟩
  ·
   have hfl:=KJ (m:=m) (up:=up) (x.name,n)
   obtain⟨t,hn⟩:=E2.names
   have hul:=E2.vals
   have hwl:(aw (m::up)).length+1<=1073750000:=by have:=I.f;omega
   have next:∀(h5:List AO) (nid5 uid5:Nat),h2.length<=h5.length->(∀j,j<h2.length->j≠V->j≠nid->j≠uid->h5[j]?=h2[j]?)->h5[V]?=some (bO nid5 ((aw (m::up)).length+1) (.sl uid5 1 0 ((aw (m::up)).length+1)) false x0)->h5[nid5]?=some (fU ((aw (m::up)).map (·.1)++[x.name]))->h5[uid5]?=some (bf ((aw (m::up)).map (·.2)++[n]))->
    h2.length<=nid5->h2.length<=uid5->nid5≠uid5->StL R cid l V sid nid uid h (aw ((m++[(x.name,n)])::up)) x0 s' (.ok none) (.ret (.tup [])) h5:=λh5 nid5 uid5 g1 g2 g3 g4 g5 g6 g7 g8=>by
    have hu5:=(Ua.1 g5).1
    refine fin (.ok none) sid1 nid5 uid5 (.sl uid5 1 0 ((aw (m::up)).length+1)) h5 _ _ (e3.frame (g2 _ lR (by omega) (by omega) (by omega)) (g2 _ ls (by omega) (by omega) (by omega)) (g2 _ lc (by omega) (by omega) (by omega))) ?_ ⟨by omega,by omega,by omega,by omega,by omega,by omega⟩ (S1.st (hh:=h2) ⟨g1,λj j1 j2=>?_⟩ (.inl rfl) (.inr g6) (.inr g7))
    ·rw[hfl]
     refine⟨by simpa[bkB,bkV] using g3,⟨[],by simpa using g4⟩,?_,g8,hu5⟩
     have:=UV.ss uid5 ((aw (m::up)).map (·.2)++[n]) [] (by rw[UG];exact g5)
     simpa using this
    ·simp only[Uj,UF,or_false,not_or] at j2
     exact g2 j j1 (by omega) (by omega) (by omega)
   simp only[bO] at cV
   have cVs:∀z os,(h2.set nid z++os)[V]?=some (.row 4 [[.sl nid 1 0 (aw (m::up)).length,uv,.p (.bool false),.p (.int .i64 x0)]]):=λz os=>by
    rw[Ue (by rw[UI];exact lV),Uc (Ne.symm d7)];exact cV
   have cVt:∀z os w,((h2.set nid z++os).set V w)[V]?=some w:=λz os w=>Ug (by simp;omega)
   have cVu:∀z os w os2,((h2.set nid z++os).set V w++os2)[V]?=some w:=λz os w os2=>by
    rw[Ue (by simp;omega)];exact cVt z os w
   generalize hfm:aw (m::up)=fm at*
   have hvl:(fm.map (·.2)).length=fm.length:=by simp
   generalize hvm:fm.map (·.2)=vm at*
   cases hul with
   |nn=>
    have hf0:fm=[]:=Vh (by rw[←hvl];rfl)
    subst hf0
    simp-implicitDefEqProofs[aa,b2,o1,hsl,cR,aJ,cV,hn,fU, ↓cVs, ↓cVt, ↓cVu]
    refine next _ h2.length (h2.length+1+1) (by simp;omega) (λj j1 j2 j3 j4=>?_) ?_ ?_ ?_ (by omega) (by omega) (by omega)
    ·rw[Uc (by omega),Ue (by simp;omega),Uc (by omega),Ue (by simp;omega),Uc (by omega)]
    ·rw[Ug (by simp;omega)];simp[bO]
    ·rw[Uc (by omega),Ue (by simp),Uc (by omega),Um (by simp)];simp[fU]
    ·rw[Uc (by omega),Um (by simp)];simp[bf]
   |ss _ _ t2 hu=>
    have cUu:∀z os w os2,((h2.set nid z++os).set V w++os2)[uid]?=some (.row 1 ((vm++t2).map λx=>[.p (.int .i64 x)])):=λz os w os2=>by
     rw[Ue (by simp;omega),Uc (by omega),Ue (by simp;omega),Uc (by omega)];exact hu
    have cVw:∀z os w os2 z2 os3,((((h2.set nid z++os).set V w++os2).set uid z2)++os3)[V]?=some w:=λz os w os2 z2 os3=>by
     rw[Ue (by simp;omega),Uc (by omega)];exact cVu z os w os2
    simp-implicitDefEqProofs[aa,b2,o1,hsl,cR,aJ,cV,hn,fU, ↓cVs, ↓cVt, ↓cVu, ↓cUu, ↓cVw]
    refine⟨⟨by omega,by omega⟩,⟨by omega,by omega⟩,?_⟩
    refine next _ h2.length (h2.length+1+1) (by simp;omega) (λj j1 j2 j3 j4=>?_) ?_ ?_ ?_ (by omega) (by omega) (by omega)
    ·rw[Uc (by omega),Ue (by simp;omega),Uc (by omega),Ue (by simp;omega),Uc (by omega),Ue (by simp;omega),Uc (by omega)]
    ·rw[Ug (by simp;omega)];simp[bO,hvl]
    ·rw[Uc (by omega),Ue (by simp;omega),Uc (by omega),Ue (by simp),Uc (by omega),Um (by simp)];simp[fU]
    ·rw[Uc (by omega),Um (by simp)];simp[bf]
  ·
   obtain⟨n0,hv0⟩:=Option.isSome_iff_exists.1 hvs
   obtain⟨i,v1,v2,v3⟩:=zV I.un hv0
   have hiw:i<(aw v).length:=(Ua.1 v2).1
   obtain⟨t,rfl,hu⟩:=E2.vals.ne (by simpa using Nat.lt_of_le_of_lt (Vf _) hiw)
   have cVe:=cV
   simp only[bO] at cVe
   have hlen:((aw v).map (·.2)).length=(aw v).length:=by simp
   simp-implicitDefEqProofs[aa,b2,o2,hsl,cR,aJ,cVe]
   refine((Hd G (aw v) x.name (by have:=I.f;omega)).lend (.one (zw E2) (.keep (by simp) .nil)) rfl).mono ?_
   rintro z h3 ⟨rfl,hh3⟩
   rw[hh3]
   simp-implicitDefEqProofs[aa,v1,ixI,cVe]
   have hgi:(bf ((aw v).map (·.2)++t))= .row 1 (((aw v).map (·.2)++t).map λx=>[.p (.int .i64 x)]):=rfl
   have hri:(((aw v).map (·.2)++t).map λx=>[AV.p (.int .i64 x)])[i]?=some [.p (.int .i64 n0)]:=by
    rw[Uk,Ue (by simpa using hiw),Uk,v2];rfl
   rw[hgi] at hu
   generalize hrows:(((aw v).map (·.2)++t).map λx=>[AV.p (.int .i64 x)])=rows at hu hri
   simp-implicitDefEqProofs[hu,hri,hiw]
   have hset:rows.set i [.p (.int .i64 n)]=(((aw v).set i (x.name,n)).map (·.2)++t).map λx=>[AV.p (.int .i64 x)]:=by
    rw[←hrows,List.map_set,List.set_append_left _ _ (by simpa using hiw)|>.symm,List.map_set]
   have hnm:((aw v).set i (x.name,n)).map (·.1)=(aw v).map (·.1):=by
    rw[List.map_set]
    exact sY (by rw[Uk,v2];rfl)
   refine fin (.ok none) sid1 nid uid (.sl uid 1 0 (aw v).length) _ _ _ (e3.frame (Uc (by omega)) (Uc (by omega)) (Uc (by omega))) ?_ A2 ⟨S1.fr.set (by simp) _,S1.fs,S1.fn,S1.fu⟩
   rw[v3 n]
   obtain⟨t2,hn⟩:=E2.names
   refine⟨by rw[Uc (by omega),UI];simpa[bkB,bkV] using cV,⟨t2,by rw[Uc (by omega),hnm];exact hn⟩,?_,d8,by rw[UI];exact lu⟩
   have hself:(h2.set uid (.row 1 (rows.set i [.p (.int .i64 n)])))[uid]?=some (bf (((aw v).set i (x.name,n)).map (·.2)++t)):=by
    rw[Ug lu,hset];rfl
   have:=UV.ss uid _ t hself
   simpa using this
  ·
   have hs:=e3.said
   have hsr:bf s1.said= .row 1 (s1.said.map λx=>[.p (.int .i64 x)]):=rfl
   have hm5:=I1.m
   unfold M5 at hm5
   rw[hsr] at hs
   have cRs:∀os z os2,((h2++os).set sid1 z++os2)[R]?=some (aJ l sid1 cid s1 0 false):=λos z os2=>by
    rw[Ue (by simp;omega),Uc (by omega)];exact cR2 os
   have cSs:∀os,(h2++os)[sid1]?=some (.row 1 (s1.said.map λx=>[.p (.int .i64 x)])):=λos=>by rw[Ue ls];exact hs
   simp only[aJ] at cR cR2 cRs
   simp-implicitDefEqProofs[aa,b2,o3,hsl,cR, ↓cR2, ↓cRs, ↓cSs]
   refine⟨⟨by omega,by omega⟩,?_⟩
   have keep:∀(h5:List AO),h2.length<=h5.length->(∀j,j<h2.length->j≠R->j≠sid1->h5[j]?=h2[j]?)->∀sid5,h2.length<=sid5->h5[R]?=some (aJ l sid5 cid (s1.say n) 0 false)->h5[sid5]?=some (bf (s1.said++[n]))->StL R cid l V sid nid uid h (aw v') x0 (s1.say n) (.ok none) (.ret (.tup [])) h5:=λh5 g1 g2 sid5 g3 g4 g5=>by
    have E5:EI V nid uid uv (aw v') false x0 h5:=E2.frame g1 (g2 _ lV (by omega) (by omega)) (g2 _ ln (by omega) (by omega)) (g2 _ lu (by omega) (by omega))
    refine fin (.ok none) sid5 nid uid uv h5 _ _ ⟨g4,g5,by rw[g2 _ lc (by omega) (by omega)];exact e3.cells,by omega⟩ E5 ⟨by omega,A4,by omega,A6,A7,A8⟩ (S1.st (hh:=h2) ⟨g1,λj j1 j2=>?_⟩ (.inr g3) (.inl rfl) (.inl rfl))
    simp only[Uj,UF,or_false,not_or] at j2
    exact g2 j j1 (by omega) (by omega)
   refine keep _ (by simp;omega) (λj j1 j2 j3=>?_) (h2.length+1) (by omega) ?_ ?_
   ·rw[Uc (by omega),Ue (by simp;omega),Uc (by omega),Ue (by omega)]
   ·rw[Ug (by simp;omega)];simp[aJ,S5.say]
   ·rw[Uc (by omega),Um (by simp)]
    simp only[UI,Uu,Ur,List.length_nil,Nat.zero_add,Nat.sub_self,List.getElem?_cons_zero,bf]
    rw[Uq (by simp)]
    simp
  ·
   have hgb:=Uh hb1
   have hkb:=b.cs_eq
   have hac:b.cs.map AV.p=[.p (.int .i64 b.op),.p (.int .i64 b.n),.p (.str b.name),.p (exL b.kids)]:=by rw[hkb];rfl
   have hX2:=hX b (W.args b hgb) v' s1 s2 r2 hx2 I1 V false x0 sid1 nid uid uv h2 e3 E2 A2
   rw[hac] at hX2
   simp-implicitDefEqProofs[aa,b2,o4,hsl,hb1,hkb]
   refine hX2.mono ?_
   rintro z h3 ⟨n2,sid2,rfl,f1,f2,f3,f4,f5⟩
   have I2:=(I1.ex hx2).1
   have E3:=E2.keep e3 A2 f4
   have A3':=Ap.step E2 A2 f5
   have S2:=S1.ex f4 f5
   have c2:h3[h.length]?=some box:=by
    rw[f4.2 _ (by omega) ?_];exact b2'
    simp only[Uj,UF,or_false,not_or]
    refine⟨by omega,λe=>?_,by omega⟩
    have:=e3.said
    rw[←e,b2',hbox] at this
    simp[bf] at this
   rw[hbox] at c2
   rcases hrest with⟨c,rfl,rfl,rfl⟩|⟨m,rfl,hrest⟩
   ·simp only[bC,cX] at f3
    have dR:=f3.run
    simp only[aJ] at dR
    simp-implicitDefEqProofs[aa,dR]
    exact fin (.st c) _ _ _ _ _ _ _ f3 E3 A3' S2
   ·have hm:=f2 _ rfl
    subst hm
    simp only[bC,cX] at f3
    have dR:=f3.run
    rcases hrest with⟨h16,rfl,rfl⟩|⟨i,rfl,h16,rfl,rfl⟩
    ·have hst:=yF G (c:=2) dR
     simp only[aJ] at dR
     simp-implicitDefEqProofs[aa,dR,c2,o4,h16]
     refine hst.mono ?_
     rintro z h4 ⟨rfl,rfl⟩
     simp-implicitDefEqProofs[aa]
     have hRV:=E3.neR f3
     exact fin (.st 2) _ _ _ _ _ _ _ f3.ended (E3.frame (by simp) (Uc (by omega)) (Uc (by omega)) (Uc (by omega))) A3' ⟨S2.fr.set (by simp) _,S2.fs,S2.fn,S2.fu⟩
    ·have cc:=f3.cells
     have hcr:(bf s2.cells)= .row 1 (s2.cells.map λx=>[.p (.int .i64 x)]):=rfl
     rw[hcr] at cc
     have hn16:¬(16:Int)<=i:=by omega
     have hi16:i<s2.cells.length:=by rw[I2.g.len];omega
     have hgc:=Ub hi16
     generalize s2.cells[i]=c0 at hgc
     simp only[aJ] at dR
     simp-implicitDefEqProofs[aa,dR,c2,o4,hn16,cc,hgc]
     have hRV:=E3.neR f3
     have hRc:=f3.neR
     have hlc:=f3.lt
     have hne3:=f3.ne
     refine⟨by omega,fin (.ok none) sid2 nid uid uv _ _ _ ⟨by rw[Uc (by omega)];exact f3.run,by rw[Uc (by omega)];exact f3.said,?_,hne3⟩ (E3.frame (by simp) (Uc (by omega)) (Uc (by have:=A3'.nc;omega)) (Uc (by have:=A3'.uc;omega))) A3' ⟨S2.fr.set (by simp) _,S2.fs,S2.fn,S2.fu⟩⟩
     rw[Ug hlc.2.2]
     simp[bf,S5.put,List.map_set]
  ·
   have hsh:nmV v'=nmV v:=(show Grw ([]::v) (m::v') from yC hbk).tail
   have hft:(aw (m::v')).take (aw ([]::v)).length=aw v':=by
    rw[lh];exact BM hsh
   have Ib:In5 ([]::v) s1:=⟨I1.g,I1.ge.opn,I1.un.opn,I1.m,by rw[lh];exact I1.f⟩
   have Eb:EI V nid uid uv (aw ([]::v)) false x0 h2:=by rw[BG];exact E2
   simp only[aJ] at cR
   by_cases hn:n=0
   ·rw[if_neg (by simpa using hn)] at hbk
    have:=hE _ _ _ _ _ hbk Ib V x0 sid1 nid uid uv h2 e3 Eb A2
    rw[hft] at this
    simp-implicitDefEqProofs[aa,b2,o5,hsl,cR,hn]
    refine this.mono ?_
    rintro z h3 ⟨sid',nid',uid',uv',rfl,p1,p2,p3,p4,p5,p6,p7⟩
    simp-implicitDefEqProofs[aa]
    exact fin r _ _ _ _ _ _ _ p1 p2 p3 (S1.st p4 p5 p6 p7)
   ·rw[if_pos hn] at hbk
    have:=hB _ _ _ _ _ hbk Ib V x0 sid1 nid uid uv h2 e3 Eb A2
    rw[hft] at this
    simp-implicitDefEqProofs[aa,b2,o5,hsl,cR,hn]
    refine this.mono ?_
    rintro z h3 ⟨sid',nid',uid',uv',rfl,p1,p2,p3,p4,p5,p6,p7⟩
    simp-implicitDefEqProofs[aa]
    exact fin r _ _ _ _ _ _ _ p1 p2 p3 (S1.st p4 p5 p6 p7)
  ·
   simp only[Ff] at hc1
   have Il:InS v s1:=⟨I1.g,I1.ge,I1.un,by have:=I.m;omega,by have:=I.f;omega⟩
   have:=hL o6 _ _ _ _ _ _ hlp Il V x0 sid1 nid uid uv h2 e3 E2 A2
   rw[hxc,hsl] at this
   simp only[aJ] at cR
   simp-implicitDefEqProofs[aa,b2,o6,hsl,cR]
   rw[o6] at this
   refine this.mono ?_
   rintro z h3 ⟨sid',nid',uid',uv',rfl,p1,p2,p3,p4,p5,p6,p7⟩
   simp-implicitDefEqProofs[aa]
   exact fin r _ _ _ _ _ _ _ p1 p2 p3 (S1.st p4 p5 p6 p7)
  ·simp only[aJ] at cR
   simp only[bO] at cV
   simp-implicitDefEqProofs[aa,b2,o7,hsl,cR,cV,vS]
   exact fin (.ok (some n)) _ _ _ _ _ _ _ (e3.setV (s2:=s') E2 _) (E2.setV A2) A2 ⟨S1.fr.set (by simp) _,S1.fs,S1.fn,S1.fu⟩
  ·simp only[aJ] at cR
   simp-implicitDefEqProofs[aa,b2,o8,hsl,cR]
   exact fin (.ok none) _ _ _ _ _ _ _ e3 E2 A2 S1
end
section
theorem In5.opn{v:List Sc5}{s:S5}(I:In5 v s):In5 ([]::v) s:=⟨I.g,I.ge.opn,I.un.opn,I.m,by rw[lh];exact I.f⟩
theorem In5.blk{l:List Fd}{k:Nat}{v v':List Sc5}{s s':S5}{xs:List Sm}{q:O5 (Option Int)}(I:In5 v s)(h:Ev l (.blk k v s xs v' s' q)):In5 v' s':=by
 have a:=dE h ⟨I.g,I.ge⟩
 have b:=no h
 have c:=OE h I.un
 exact⟨a.1,a.2.2.1,c,Uv b.1 I.m,Uv b.2.2 I.f⟩
theorem In5.tl{m:Sc5}{v:List Sc5}{s:S5}(I:In5 (m::v) s):In5 v s:=⟨I.g,I.ge.tail,I.un.tail,I.m,by have:=sP m v;have:=I.f;omega⟩
theorem In5.tick{v:List Sc5}{s:S5}{F:Nat}(I:In5 v s)(h:s.left=F+1):InS v (s.at_ F):=by
 obtain⟨a,b⟩:=GW h
 exact⟨I.g.at_ F,I.ge,I.un,by have:=I.m;omega,by have:=I.f;omega⟩
theorem In5.stm{l:List Fd}{k:Nat}{v v':List Sc5}{s s':S5}{x:Sm}{q:O5 (Option Int)}(I:InS v s)(h:Ev l (.stm k v s x v' s' q)):In5 v' s':=by
 have a:=dE h ⟨I.g,I.ge⟩
 have b:=no h
 have c:=OE h I.un
 simp only[Ff] at b
 exact⟨a.1,a.2.2.1,c,by have:=I.m;omega,by have:=I.f;omega⟩
structure LoS where (sid nid uid:Nat) (uv:AV) (hh:List AO) (v:List Sc5) (s:S5) (n:Int) (o:Bool)
structure LoI (l:List Fd) (R cid k V sid nid uid:Nat) (x0:Int) (hb:List AO) (x:Sm) (v':List Sc5) (s':S5) (r:O5 (Option Int)) (a:LoS):Prop where
 run:RI R cid l a.sid a.s (if a.o then bC r else 0) a.o a.hh
 env:EI V a.nid a.uid a.uv (aw a.v) false x0 a.hh
 ap:Ap R V a.sid cid a.nid a.uid
 snc:Snc R cid V sid nid uid hb a.sid a.nid a.uid a.hh
 go:a.o=false->InS a.v a.s/\LpA l k x a.v a.s a.n v' s' r
 over:a.o=true->a.v=v'/\a.s=s'/\∃c,r= .st c
variable (G:aq)
theorem Pq{l:List Fd}{R cid k:Nat}{x:Sm}(W:WfS l k x)(h6:x.op=6)(hX:∀e,WfE l k e->ExC G l R cid k e)(hB:StX G l R cid k x.body):LpX G l R cid k x:=by
 intro v s n v' s' r hS I V x0 sid nid uid uv h H E A
 have hxc:=x.cs_eq
 have hsl:exL x.args= .lst 4 (x.args.map Ex.cs):=rfl
 obtain⟨hR0,hs0,hc0⟩:=H.lt
 obtain⟨hV0,hn0,hu0⟩:=E.lt
 have hNR:=E.neR H
 obtain⟨a,ha⟩:∃a,x.args=[a]:=by
  have:x.args.length=1:=by rw[W.argn,h6];decide
  match hx:x.args,this with
  |[a],_=>exact⟨a,rfl⟩
 have ham:a∈x.args:=by rw[ha];simp
 have hg0:x.args[0]?=some a:=by rw[ha];rfl
 have hka:=a.cs_eq
 refine AC.go te ?_
 simp-implicitDefEqProofs[lf,hxc]
 obtain⟨box,hbox⟩:∃box,box=AO.row 5 [[.p (.int .i64 x.op),.p (.str x.name),.p (exL x.args),.p (smL x.body),.p (smL x.els)]]:=⟨_,rfl⟩
 rw[←hbox]
 obtain⟨hb,hhb⟩:∃hb,hb=h++[box]:=⟨_,rfl⟩
 have hbl:hb.length=h.length+1:=by rw[hhb];simp
 have hbb:hb[h.length]?=some box:=by rw[hhb];simp
 have J0:LoI l R cid k V sid nid uid x0 hb x v' s' r ⟨sid,nid,uid,uv,hb,v,s,n,false⟩:=
  ⟨by rw[hhb];exact H.more _,by rw[hhb];exact E.more _,A,Snc.init _,λ_=>⟨I,hS⟩,λh=>by cases h⟩
 refine az (λa:LoS=>ag 41 [(2,.p (.int .i64 a.n)),(5,.ptr h.length 5 0 0),(0,.ptr R 7 0 0),(3,.ptr V 4 0 0)]) (λa=>a.hh) (LoI l R cid k V sid nid uid x0 hb x v' s' r) (λa=>if a.o then 0 else a.s.left+1) ⟨sid,nid,uid,uv,hb,v,s,n,false⟩ J0 ?_ ?_
 ·rw[hhb]
  refine aH (by simp) ?_
  simp[below]
  omega
 clear J0
 rintro⟨sc,nc,uc,uvc,hh,vc,sx,nx,o⟩ J
 have jR:=J.run.run
 have jV:=J.env.env
 have jS:=J.snc
 simp only at jR jV jS
 have fin:∀(q:O5 (Option Int)) (sid2 nid2 uid2:Nat) (uv2:AV) (h3:List AO) (w:Sc5) (s2:S5),RI R cid l sid2 s2 (bC q) (cX q) h3->EI V nid2 uid2 uv2 w (bkB q) (bkV x0 q) h3->Ap R V sid2 cid nid2 uid2->Snc R cid V sid nid uid hb sid2 nid2 uid2 h3->StL R cid l V sid nid uid h w x0 s2 q (.ret (.tup [])) h3:=λq sid2 nid2 uid2 uv2 h3 w s2 g1 g2 g3 g4=>StL.mk g1 g2 g3 (by rw[hhb] at g4;exact g4.base)
 cases o with
 |true=>
  obtain⟨rfl,rfl,c,rfl⟩:=J.over rfl
  simp only[bC,if_true] at jR
  have hrun:=J.run
  have henv:=J.env
  simp only[bC,if_true] at hrun henv
  simp only[aJ] at jR
  by_cases hn:nx=0
  ·simp-implicitDefEqProofs[hn]
   exact fin (.st c) _ _ _ _ _ _ _ hrun henv J.ap J.snc
  ·simp-implicitDefEqProofs[hn,jR]
   exact fin (.st c) _ _ _ _ _ _ _ hrun henv J.ap J.snc
 |false=>
  obtain⟨Ic,hlp⟩:=J.go rfl
  simp only at Ic hlp
  have hrun:=J.run
  have henv:=J.env
  simp only[Bool.false_eq_true,if_false] at jR hrun henv
  rcases hlp with⟨rfl,rfl,rfl,rfl⟩|⟨hn,m,v1,s2,q1,hbk,hrest⟩
  ·simp-implicitDefEqProofs[]
   exact fin (.ok none) _ _ _ _ _ _ _ hrun henv J.ap J.snc
  have hsh:nmV v1=nmV vc:=(show Grw ([]::vc) (m::v1) from yC hbk).tail
  have hft:(aw (m::v1)).take (aw ([]::vc)).length=aw v1:=by
   rw[lh];exact BM hsh
  have Eb:EI V nc uc uvc (aw ([]::vc)) false x0 hh:=by rw[BG];exact henv
  have I2:In5 v1 s2:=(Ic.in5.opn.blk hbk).tl
  have hBk:=hB _ _ _ _ _ hbk Ic.in5.opn V x0 sc nc uc uvc hh hrun Eb J.ap
  rw[hft] at hBk
  have hbox2:hh[h.length]?=some box:=by
   rw[jS.keep (by omega) (by omega)];exact hbb
  rw[hbox] at hbox2
  simp only[aJ] at jR
  simp-implicitDefEqProofs[hn,jR,hbox2]
  refine hBk.mono ?_
  rintro z h3 ⟨sid',nid',uid',uv',rfl,p1,p2,p3,p4,p5,p6,p7⟩
  have S3:=jS.st p4 p5 p6 p7
  have pR:=p1.run
  have pV:=p2.env
  rcases hrest with⟨hq,rfl,rfl,rfl⟩|⟨rfl,hrest⟩
  ·cases r with
   |st c=>
    simp only[bC,cX,aJ] at pR
    simp-implicitDefEqProofs[aa,pR]
    exact fin (.st c) _ _ _ _ _ _ _ p1 p2 p3 S3
   |ok q=>
    cases q with
    |none=>exact(hq rfl).elim
    |some m=>
     simp only[bC,cX,aJ] at pR
     simp only[bkB,bkV,bO] at pV
     simp-implicitDefEqProofs[aa,pR,pV]
     exact fin (.ok (some m)) _ _ _ _ _ _ _ p1 p2 p3 S3
  ·simp only[bC,cX] at pR p1
   simp only[bkB,bkV] at pV p2
   have htk:=LN G pR (by have:=I2.m;unfold M5 at this;omega)
   obtain⟨q1,q2,q3⟩:=p1.lt
   obtain⟨q4,q5,q6⟩:=p2.lt
   have q7:=p2.neR p1
   have q8:=p1.neR
   have q9:=p1.ne
   have uR:=p3.uR
   simp only[aJ] at pR
   simp only[bO] at pV
   simp-implicitDefEqProofs[aa,pR,pV]
   refine htk.mono ?_
   rintro z h4 ⟨rfl,rfl⟩
   have hlen3:∀z,(h3.set R z).length=h3.length:=λz=>UI
   have S4:∀z,Snc R cid V sid nid uid hb sid' nid' uid' (h3.set R z):=λz=>⟨S3.fr.set (by simp) _,S3.fs,S3.fn,S3.fu⟩
   have c4:∀z,(h3.set R z)[h.length]?=some (.row 5 [[.p (.int .i64 x.op),.p (.str x.name),.p (.lst 4 (x.args.map Ex.cs)),.p (smL x.body),.p (smL x.els)]]):=λz=>by
    rw[(S4 z).keep (by omega) (by omega),hbb,hbox];rfl
   have E4:∀z,EI V nid' uid' uv' (aw v1) false x0 (h3.set R z):=λz=>p2.frame (by simp) (Uc (by omega)) (Uc (by omega)) (Uc (by omega))
   have next:∀(sid5:Nat) (h5:List AO) (s5:S5) (n5:Int) (o5:Bool) (sl:List (Nat × AV)),LoI l R cid k V sid nid uid x0 hb x v' s' r ⟨sid5,nid',uid',uv',h5,v1,s5,n5,o5⟩->s5.left<=s2.left->s2.left<=sx.left->(o5=false->s5.left<sx.left)->Aw.look sl 2= .p (.int .i64 n5)->Aw.look sl 5= .ptr h.length 5 0 0->Aw.look sl 0= .ptr R 7 0 0->Aw.look sl 3= .ptr V 4 0 0->
    ∃a:LoS,LoI l R cid k V sid nid uid x0 hb x v' s' r a/\(if a.o=true then 0 else a.s.left+1)<sx.left+1/\Wk h.length (ag 41 sl) h5 (ag 41 [(2,.p (.int .i64 a.n)),(5,.ptr h.length 5 0 0),(0,.ptr R 7 0 0),(3,.ptr V 4 0 0)]) a.hh:=λsid5 h5 s5 n5 o5 sl J5 g1 g2 g3 e2 e5 e0 e3=>by
    refine⟨_,J5,?_,aH ?_ ?_⟩
    ·cases o5 with
     |true=>simp
     |false=>have:=g3 rfl;simp only[Bool.false_eq_true,if_false];omega
    ·have:=J5.snc.fr.1;simp only at this;omega
    ·have:=J5.snc.fr.1
     simp only at this
     simp[below,e2,e5,e0,e3]
     omega
   have hcb:=no hbk
   simp only[Ff] at hcb
   have hac:a.cs.map AV.p=[.p (.int .i64 a.op),.p (.int .i64 a.n),.p (.str a.name),.p (exL a.kids)]:=by rw[hka];rfl
   rcases hrest with⟨h0,rfl,rfl,rfl⟩|⟨F,hF,hl2⟩
   ·rw[if_pos h0]
    have rS:(h3.set R (aJ l sid' cid s' 3 true))[R]?=some (aJ l sid' cid s' 3 true):=Ug q1
    have hxo:=yd G rS a (.ptr V 4 0 0)
    rw[hac] at hxo
    have c5:=c4 (aJ l sid' cid s' 3 true)
    simp-implicitDefEqProofs[aa,c5,hsl,hg0,hka]
    refine hxo.mono ?_
    rintro z h5 ⟨rfl,os,rfl⟩
    simp-implicitDefEqProofs[aa]
    refine next sid' _ s' 0 true _ ⟨by simpa[bC] using p1.ended.more os,(E4 _).more os,p3,(S4 _).st (Fr.more _ _ _) (.inl rfl) (.inl rfl) (.inl rfl),(λh=>by cases h),λ_=>⟨rfl,rfl,3,rfl⟩⟩ (Uf _) hcb.2.1 (λh=>by cases h) (by simp) (by simp) (by simp) (by simp)
   ·rw[if_neg (by omega)]
    have hF1:s2.left-1=F:=by omega
    rw[hF1]
    have I4:=I2.tick hF
    have R4:RI R cid l sid' (s2.at_ F) 0 false (h3.set R (aJ l sid' cid (s2.at_ F) 0 false)):=⟨Ug q1,by rw[Uc (by omega)];exact p1.said,by rw[Uc (by omega)];exact p1.cells,q9⟩
    obtain⟨a',s4,r4,hA',hx4,hr4⟩:=Ch hl2
    rw[ha] at hA'
    cases hA'
    have hx5:=hX a (W.args a ham) v1 (s2.at_ F) s4 r4 hx4 I4.in5 V false x0 sid' nid' uid' uv' _ R4 (E4 _) p3
    rw[hac] at hx5
    have c5:=c4 (aJ l sid' cid (s2.at_ F) 0 false)
    have hc4:=no hx4
    simp only[Ff,S5.at_] at hc4
    simp-implicitDefEqProofs[aa,c5,hsl,hg0,hka]
    refine hx5.mono ?_
    rintro z h5 ⟨n5,sid5,rfl,f1,f2,f3,f4,f5⟩
    have E5:=(E4 _).keep R4 p3 f4
    have A5:=Ap.step (E4 _) p3 f5
    have S5':=(S4 _).ex f4 f5
    have I5:=I4.in5.ex hx4
    simp-implicitDefEqProofs[aa]
    rcases hr4 with⟨c,rfl,rfl,rfl,rfl⟩|⟨n6,rfl,hl6⟩
    ·simp only[bC,cX] at f3
     exact next sid5 _ s' n5 true _ ⟨by simpa[bC] using f3,E5,A5,S5',(λh=>by cases h),λ_=>⟨rfl,rfl,c,rfl⟩⟩ (by omega) hcb.2.1 (λh=>by cases h) (by simp) (by simp) (by simp) (by simp)
    ·have:=f2 _ rfl
     subst this
     simp only[bC,cX] at f3
     refine next sid5 _ s4 n5 false _ ⟨by simpa using f3,E5,A5,S5',(λ_=>⟨⟨I5.1.g,I5.1.ge,I5.1.un,?_,?_⟩,hl6⟩),(λh=>by cases h)⟩ (by omega) hcb.2.1 (λh=>by omega) (by simp) (by simp) (by simp) (by simp)
     ·have:=I4.m;simp only[M5,S5.at_] at this hc4⊢;omega
     ·have:=I4.f;simp only[S5.at_] at this⊢;omega
end
section
section
variable {M:Nat} {l:List Fd} {fuel sid sid1 sid2:Nat} {u sv sv1 sv2:AV} {v v1 v2:List Sc5} {I:List Nat} {h h1 h2 os:List AO} {s s1 s2:S5}
theorem BkL.refl(H:MI M l fuel sv sid s h)(C:CI h u v I M sid):BkL M l fuel sid u v I h s sv sid h:=⟨H,C,Fr.refl _ _,.inl rfl,λ_ _ _ q=>q⟩
theorem BkL.trans(B:BkL M l fuel sid u v1 I h s1 sv1 sid1 h1)(D:BkL M l fuel sid1 u v2 I h1 s2 sv2 sid2 h2):BkL M l fuel sid u v2 I h s2 sv2 sid2 h2:=by
 have hb:=B.fs
 have hd:=D.fs
 have hl:=B.fr.1
 refine⟨D.run,D.ci,B.fr.trans D.fr λi hi=>?_,by omega,λi hi x q=>D.env i hi x (B.env i hi x q)⟩
 simp only[Uj] at hi⊢
 rcases hi with rfl|rfl|hi
 ·exact .inl (.inl rfl)
 ·rcases hb with rfl|hb
  ·exact .inl (.inr (.inl rfl))
  ·exact .inr hb
 ·exact .inl (.inr (.inr hi))
theorem BkL.more(B:BkL M l fuel sid u v I h s sv1 sid1 h1)(os:List AO):BkL M l fuel sid u v I h s sv1 sid1 (h1++os):=
 ⟨B.run.more os,B.ci.more os,B.fr.trans (Fr.more [] _ _) (λi hi=>by cases hi),B.fs,λi hi x q=>by rw[Ue (B.ci.chn.lt i hi)];exact B.env i hi x q⟩
theorem BkL.ex(B:BkL M l fuel sid u v I h s1 sv1 sid1 h1)(P:PL M l fuel sid1 h1 s2 sv2 sid2 h2):BkL M l fuel sid u v I h s2 sv2 sid2 h2:=
 B.trans ⟨P.run,B.ci.after P,P.fr.sub λi hi=> .inl (by simp only[Uj,UF,or_false] at hi⊢;omega),P.fs,λi hi x q=>by
  rw[P.fr.2 i (B.ci.chn.lt i hi) (by simp only[Uj,UF,or_false,not_or];exact⟨λe=>B.ci.mn (e▸hi),λe=>B.ci.sn (e▸hi)⟩)];exact q⟩
theorem BkL.upd(B:BkL M l fuel sid u v I h s1 sv1 sid1 h1)(a1:s2.said=s1.said)(a2:s2.left<=s1.left)(a3:s2.cells.length=16):BkL M l fuel sid u v I h s2 sv1 sid1 (h1.set M (hZ l fuel sv1 s2)):=
 ⟨B.run.upd a1 a2 a3,⟨B.ci.chn.frame λi hi=>Uc (show M≠i from λe=>B.ci.mn (e▸hi)),B.ci.nd,B.ci.sn,B.ci.mn⟩,B.fr.set (by simp) _,B.fs,λi hi x q=>by rw[Uc (show M≠i from λe=>B.ci.mn (e▸hi))];exact B.env i hi x q⟩
end
theorem DX{P:Program}{G:aq}{k:Nat}{c:AK}{ts:List AV}{h:List AO}{Q:Aw.AX->List AV->List AO->Prop}(n:Nat)(R Y:List AV->List AO->Prop)(Z:TypeId->PV->List AO->Prop)
 (h1:∀Q',(∀ts' h',R ts' h'->Q' (.exit n) ts' h')->(∀ts' h',Y ts' h'->Q' .ret ts' h')->(∀t v ts' h',Z t v h'->Q' (.pan t v) ts' h')->AKW P G k c ts h Q')(h2:∀ts' h',R ts' h'->Q (.exit n) ts' h')(h4:∀ts' h',Y ts' h'->Q .ret ts' h')(h3:∀t v ts' h',Z t v h'->Q (.pan t v) ts' h'):AKW P G k c ts h Q:=h1 Q h2 h4 h3
variable (G:aq)
def PsC(l:List Fd)(M k fuel:Nat)(x:Sm):Prop:=∀v s v' s' r,Ev l (.stm k v s x v' s' r)->InS v s->∀u I sid sv h,MI M l fuel sv sid s h->CI h u v I M sid->
 AC Tryz.prog G fj [.ptr M 20 0 0,.agg (x.cs.map .p),u] h (BkX M l fuel sid u v' I h s' r)
theorem InS.stm{l:List Fd}{k:Nat}{v v':List Sc5}{s s':S5}{x:Sm}{q:O5 (Option Int)}(I:InS v s)(h:Ev l (.stm k v s x v' s' q)):In5 v' s':=In5.stm I h
structure BlS where (i sid:Nat) (sv:AV) (hh:List AO) (v:List Sc5) (s:S5)
structure BlI (l:List Fd) (M k fuel sid:Nat) (u:AV) (I:List Nat) (h:List AO) (xs:List Sm) (v':List Sc5) (s':S5) (r:O5 (Option Int)) (a:BlS):Prop where
 bk:BkL M l fuel sid u a.v I h a.s a.sv a.sid a.hh
 inn:In5 a.v a.s
 ev:Ev l (.blk k a.v a.s (xs.drop a.i) v' s' r)
 il:a.i<=xs.length
theorem MT{l:List Fd}{M k fuel:Nat}{xs:List Sm}(hz:xs.length<=1073741824)(hS:∀x∈xs,PsC G l M k fuel x):PbC G l M k fuel xs:=by
 intro v s v' s' r hE I0 u I sid sv h H C
 have hsl:smL xs= .lst 5 (xs.map Sm.cs):=rfl
 obtain⟨e0,rfl,_,hue⟩:=C.chn.is
 have hmb:=H.lt
 refine AC.go oM ?_
 simp-implicitDefEqProofs[iU,hsl]
 refine DX 0 (λts' h'=>r= .ok none/\(∃sv2 sid2,BkL M l fuel sid (.ptr e0 2 0 0) v' I h s' sv2 sid2 h')/\∃l,ts'=ag 26 l)
  (λts' h'=>∃n b,r= .ok (some n)/\(∃sv2 sid2,BkL M l fuel sid (.ptr e0 2 0 0) v' I h s' sv2 sid2 h')/\h'[b]?=some (.row 1 [[.p (.int .i64 n)]])/\∃l,ts'=ag 26 ((6,.ptr b 1 0 0)::l))
  (λt x h'=>∃c,t=bt/\x= .int .i64 c/\r= .st c/\∃sv2 sid2,BkL M l fuel sid (.ptr e0 2 0 0) v' I h s' sv2 sid2 h') (λQ' qE qR qP=>?_) ?_ ?_ ?_
 ·refine az (λa:BlS=>ag 26 [(12,.p (.int .i64 a.i)),(11,.p (.int .i64 xs.length)),(10,.p (.lst 5 (xs.map Sm.cs))),(0,.ptr M 20 0 0),(2,.ptr e0 2 0 0)]) (λa=>a.hh) (BlI l M k fuel sid (.ptr e0 2 0 0) I h xs v' s' r) (λa=>xs.length-a.i) ⟨0,sid,sv,h,v,s⟩ ⟨BkL.refl H C,I0,hE,Vf _⟩ ?_ ?_
  ·refine aH (Uf _) ?_
   simp[below]
   omega
  rintro⟨i,sidc,svc,hh,vc,sc⟩ J
  have hil:=J.il
  have jl:=J.bk.fr.1
  simp only at hil jl
  by_cases h1:i<xs.length
  ·have hg:=Ub h1
   have ha:=Uo h1
   obtain⟨x,hgx⟩:∃x,x=xs[i]:=⟨_,rfl⟩
   rw[←hgx] at hg ha
   have hkx:=x.cs_eq
   have hdr:xs.drop i=x::xs.drop (i+1):=by
    rw[UY h1,hgx]
   have hev:=J.ev
   simp only[hdr] at hev
   simp-implicitDefEqProofs[h1,hg,hkx]
   rw[←hgx]
   have B0:=J.bk.more [.row 5 [x.cs.map .p]]
   have hM0:=J.bk.run.lt
   simp only at hM0 B0
   have hwi:=w1 (i:=i) (by omega)
   refine(LU G B0.run).mono ?_
   rintro z h2 hz2
   by_cases hF:sc.left=0
   ·rw[if_pos hF] at hz2
    obtain⟨rfl,rfl⟩:=hz2
    have hr:r= .st 3/\v'=vc/\s'=sc:=by
     cases hev with
     |bfuel _=>exact⟨rfl,rfl,rfl⟩
     |bgo q _ _=>omega
     |bend q _ _=>omega
    obtain⟨rfl,rfl,rfl⟩:=hr
    simp-implicitDefEqProofs[]
    exact λts=>qP _ _ _ _ ⟨3,rfl,rfl,rfl,_,_,B0⟩
   rw[if_neg hF] at hz2
   obtain⟨rfl,rfl⟩:=hz2
   obtain⟨F,hF1⟩:∃F,sc.left=F+1:=⟨sc.left-1,by omega⟩
   have hFF:sc.left-1=F:=by omega
   rw[hFF]
   have IS:=J.inn.tick hF1
   have B1:BkL M l fuel sid (.ptr e0 2 0 0) vc I h (sc.at_ F) svc sidc ((hh++[AO.row 5 [x.cs.map AV.p]]).set M (hZ l fuel svc (sc.at_ F))):=B0.upd rfl (by simp only[S5.at_];omega) B0.run.len
   have hb:((hh++[AO.row 5 [x.cs.map AV.p]]).set M (hZ l fuel svc (sc.at_ F)))[hh.length]?=some (.row 5 [x.cs.map .p]):=by
    rw[Uc (by omega)];simp
   have hlen:((hh++[AO.row 5 [x.cs.map AV.p]]).set M (hZ l fuel svc (sc.at_ F))).length=hh.length+1:=by simp
   generalize (hh++[AO.row 5 [x.cs.map AV.p]]).set M (hZ l fuel svc (sc.at_ F))=h2 at B1 hb hlen
   simp-implicitDefEqProofs[aa,hb]
   have fin:∀v1 s1 sv2 sid2 h3,BkL M l fuel sid (.ptr e0 2 0 0) v1 I h s1 sv2 sid2 h3->In5 v1 s1->Ev l (.blk k v1 s1 (xs.drop (i+1)) v' s' r)->∀sl,Aw.look sl 12= .p (.int .i64 (IntKind.i64.wrap ((i:Int)+1)))->Aw.look sl 11= .p (.int .i64 xs.length)->Aw.look sl 10= .p (.lst 5 (xs.map Sm.cs))->Aw.look sl 0= .ptr M 20 0 0->Aw.look sl 2= .ptr e0 2 0 0->
    ∃a:BlS,BlI l M k fuel sid (.ptr e0 2 0 0) I h xs v' s' r a/\xs.length-a.i<xs.length-i/\Wk h.length (ag 26 sl) h3 (ag 26 [(12,.p (.int .i64 a.i)),(11,.p (.int .i64 xs.length)),(10,.p (.lst 5 (xs.map Sm.cs))),(0,.ptr M 20 0 0),(2,.ptr e0 2 0 0)]) a.hh:=λv1 s1 sv2 sid2 h3 B I1 hE1 sl e12 e11 e10 e0' e2=>by
    have:=B.fr.1
    refine⟨⟨i+1,sid2,sv2,h3,v1,s1⟩,⟨B,I1,hE1,by simp only;omega⟩,by simp only;omega,aH (by omega) ?_⟩
    simp[below,e12,e11,e10,e0',e2,hwi]
    omega
   have hone:∃v1 s1 q,Ev l (.stm k vc (sc.at_ F) x v1 s1 q)/\((q= .ok none/\Ev l (.blk k v1 s1 (xs.drop (i+1)) v' s' r))\/(q≠ .ok none/\v'=v1/\s'=s1/\r=q)):=by
    cases hev with
    |bfuel q=>omega
    |bgo q q2 q3=>rw[hF1] at q;cases q;exact⟨_,_,_,q2,.inl ⟨rfl,q3⟩⟩
    |bend q q2 q3=>rw[hF1] at q;cases q;exact⟨_,_,_,q2,.inr ⟨q3,rfl,rfl,rfl⟩⟩
   obtain⟨v1,s1,q,q1,q2⟩:=hone
   refine(hS x ha _ _ _ _ _ q1 IS _ I sidc svc h2 B1.run B1.ci).mono ?_
   rintro z h3 ⟨hR,sv2,sid2,B2⟩
   have B3:=B1.trans B2
   match q,hR with
   | .ok none,hR=>
     cases hR
     rcases q2 with⟨_,q2⟩|⟨q2,_⟩
     case inr=>exact(q2 rfl).elim
     simp-implicitDefEqProofs[aa]
     exact fin _ _ _ _ _ B3 (IS.stm q1) q2 _ (by simp) (by simp) (by simp) (by simp) (by simp)
   | .ok (some n),⟨b,hb1,hb2⟩=>
     cases hb1
     rcases q2 with⟨q2,_⟩|⟨_,rfl,rfl,rfl⟩
     ·cases q2
     simp-implicitDefEqProofs[aa]
     exact qR _ _ ⟨n,b,rfl,⟨sv2,sid2,B3⟩,hb2,_,rfl⟩
   | .st c,hR=>
     cases hR
     rcases q2 with⟨q2,_⟩|⟨_,rfl,rfl,rfl⟩
     ·cases q2
     simp-implicitDefEqProofs[]
     exact λts=>qP _ _ _ _ ⟨c,rfl,rfl,rfl,sv2,sid2,B3⟩
  ·simp-implicitDefEqProofs[h1]
   have:i=xs.length:=by omega
   subst this
   have hev:=J.ev
   simp only[List.drop_length] at hev
   cases hev
   exact qE _ _ ⟨rfl,⟨svc,sidc,J.bk⟩,_,rfl⟩
 ·rintro ts' h' ⟨rfl,B,l',rfl⟩
  simp-implicitDefEqProofs[]
  exact⟨rfl,B⟩
 ·rintro ts' h' ⟨n,b,rfl,B,hb,l',rfl⟩
  simp-implicitDefEqProofs[]
  exact⟨⟨b,rfl,hb⟩,B⟩
 ·rintro t y ts' h' ⟨c,rfl,rfl,rfl,B⟩
  simp-implicitDefEqProofs[]
  exact⟨rfl,B⟩
end
section
section
variable {M:Nat} {l:List Fd} {fuel sid sid1 sid2:Nat} {u sv sv1 sv2:AV} {v v1 v2:List Sc5} {I:List Nat} {h h1 h2 os:List AO} {s s1 s2:S5}
theorem BkL.map(B:BkL M l fuel sid u v1 I h s1 sv1 sid1 h1){m:Nat}(hm:m∈I){o:AO}{q0:List (PV × AV)}(hq:h1[m]?=some (.mp q0))(hC:Chn (h1.set m o) u v2 I):BkL M l fuel sid u v2 I h s1 sv1 sid1 (h1.set m o):=
 ⟨B.run.frame (by rw[UI];exact Uf _) (Uc (show m≠M from λe=>B.ci.mn (e▸hm))) (Uc (show m≠sid1 from λe=>B.ci.sn (e▸hm))),⟨hC,B.ci.nd,B.ci.sn,B.ci.mn⟩,B.fr.set (by simp[hm]) _,B.fs,λi hi x q=>by
   have h3:=B.env i hi x q
   rw[Uc (show m≠i from λe=>by subst e;rw[hq] at h3;cases h3)];exact h3⟩
theorem Chn.hd{c:Sc5}{up:List Sc5}(H:Chn h u (c::up) I)(nd:I.Nodup):∃e m w,u= .ptr e 2 0 0/\h[e]?=some (.row 2 [[.mp m,w]])/\h[m]?=some (.mp (mpV c))/\m∈I/\∀c',Chn (h.set m (.mp (mpV c'))) u (c'::up) I:=by
 cases H with
 |last e m c h1 h2=>
  have hm:=(Ua.1 h2).1
  have hne:m≠e:=λq=>by subst q;rw[h1] at h2;cases h2
  exact⟨e,m,_,rfl,h1,h2,by simp,λc'=> .last e m _ (by rw[Uc hne];exact h1) (Ug hm)⟩
 |cons e m c u v I h1 h2 H=>
  have hm:=(Ua.1 h2).1
  have hne:m≠e:=λq=>by subst q;rw[h1] at h2;cases h2
  simp only[UX,Uj,not_or] at nd
  exact⟨e,m,_,rfl,h1,h2,by simp,λc'=> .cons e m _ u _ I (by rw[Uc hne];exact h1) (Ug hm) (H.frame λi hi=>Uc (show m≠i from λq=>nd.2.1 (q▸hi)))⟩
theorem BkL.say(B:BkL M l fuel sid u v I h s1 sv1 sid1 h1){n:Int}{nid:Nat}(a1:h1.length<=nid)(a2:∀j,j<h1.length->j≠M->j≠sid1->h2[j]?=h1[j]?)(a3:h2[M]?=some (hZ l fuel (.sl nid 1 0 (s1.said++[n]).length) (s1.say n)))(a4:h2[nid]?=some (bf (s1.said++[n]))):
 BkL M l fuel sid u v I h (s1.say n) (.sl nid 1 0 (s1.said++[n]).length) nid h2:=by
 have hn:=(Ua.1 a4).1
 have hs:=B.fs
 have hl:=B.fr.1
 refine⟨⟨a3,.ss _ _ a4,B.run.le,B.run.fu,B.run.len⟩,⟨B.ci.chn.frame λi hi=>a2 i (B.ci.chn.lt i hi) (λe=>B.ci.mn (e▸hi)) (λe=>B.ci.sn (e▸hi)),B.ci.nd,λhm=>by have:=B.ci.chn.lt _ hm;omega,B.ci.mn⟩,⟨by omega,λi hi hk=>?_⟩,.inr (by omega),λi hi x q=>by rw[a2 i (B.ci.chn.lt i hi) (λe=>B.ci.mn (e▸hi)) (λe=>B.ci.sn (e▸hi))];exact B.env i hi x q⟩
 simp only[Uj,not_or] at hk
 rw[a2 i (by omega) hk.1 (by omega),B.fr.2 i hi (by simp only[Uj,not_or];exact hk)]
end
theorem MM{l:List Fd}{fuel:Nat}{sv:AV}{s:S5}{i:Nat}{m:Int}(hi:i<s.cells.length)(a b c:AV)(ha:a= .p (fdL l))(hb:b= .p (.int .i64 fuel))(hc:c= .p (.int .i64 ((fuel-s.left:Nat):Int))):
 AO.row 20 [List.take (4+i) (a::b::c::sv::s.cells.map λn=> .p (.int .i64 n))++ .p (.int .i64 m)::List.drop (4+i) (b::c::sv::s.cells.map λn=> .p (.int .i64 n))]=hZ l fuel sv (s.put i m):=by
 subst ha;subst hb;subst hc
 rw[show 4+i=i+1+1+1+1 by omega]
 simp only[List.take_succ_cons,List.drop_succ_cons,hZ,S5.put,UN,List.nil_append]
 rw[List.map_set,List.set_eq_take_append_cons_drop,if_pos (by simpa using hi)]
variable (G:aq)
theorem Chn.tl{h:List AO}{e e2 m:Nat}{c:Sc5}{v:List Sc5}{I:List Nat}(H:Chn h (.ptr e 2 0 0) (c::v) (e::m::I))(hI:I≠[])(he:h[e]?=some (.row 2 [[.mp m,.ptr e2 2 0 0]])):Chn h (.ptr e2 2 0 0) v I:=by
 cases H with
 |last=>exact(hI rfl).elim
 |cons _ _ _ u _ _ h1 h2 h3=>
  rw[he] at h1
  simp only[Option.some.injEq,AO.row.injEq,List.cons.injEq,and_true,true_and] at h1
  subst h1
  exact h3
theorem Qc{l:List Fd}{M k fuel sid e0:Nat}{sv:AV}{v v':List Sc5}{m:Sc5}{s s':S5}{I:List Nat}{h2:List AO}{r:O5 (Option Int)}{xs:List Sm}(hP:PbC G l M k fuel xs)(hev:Ev l (.blk k ([]::v) s xs (m::v') s' r))(I1:In5 v s)(H:MI M l fuel sv sid s h2)(C:CI h2 (.ptr e0 2 0 0) v I M sid):
 AC Tryz.prog G aW [.ptr M 20 0 0,.p (smL xs),.ptr (h2.length+1) 2 0 0] (h2++[.mp [],.row 2 [[.mp h2.length,.ptr e0 2 0 0]]]) (BkX M l fuel sid (.ptr e0 2 0 0) v' I h2 s' r):=by
 have hch:Chn (h2++[.mp [],.row 2 [[.mp h2.length,.ptr e0 2 0 0]]]) (.ptr (h2.length+1) 2 0 0) ([]::v) ((h2.length+1)::h2.length::I):= .cons _ _ [] _ _ _ (by simp) (by simp[mpV]) (C.chn.more _)
 have hIl:=C.chn.lt
 have hM1:=H.lt
 have hS1:=H.said.lt
 have C3:CI (h2++[.mp [],.row 2 [[.mp h2.length,.ptr e0 2 0 0]]]) (.ptr (h2.length+1) 2 0 0) ([]::v) ((h2.length+1)::h2.length::I) M sid:=by
  refine⟨hch,?_,?_,?_⟩
  ·simp only[UX,Uj,not_or]
   exact⟨⟨by omega,λq=>by have:=hIl _ q;omega⟩,λq=>by have:=hIl _ q;omega,C.nd⟩
  ·simp only[Uj,not_or];exact⟨by omega,by omega,C.sn⟩
  ·simp only[Uj,not_or];exact⟨by omega,by omega,C.mn⟩
 have hI0:I≠[]:=by
  obtain⟨_,_,q,_⟩:=C.chn.is
  intro e
  rw[e] at q
  cases q
 refine(hP _ _ _ _ _ hev I1.opn _ _ sid sv _ (H.more _) C3).mono ?_
 rintro z h3 ⟨hR,sv3,sid3,B3⟩
 have hsd:sid3=sid\/h2.length<=sid3:=by
  have:=B3.fs
  simp at this
  omega
 have hfr:Fr (M::sid::I) h2 h3:=B3.fr.from.sub λi hi=>by
  simp only[Uj] at hi⊢
  rcases hi with rfl|rfl|rfl|rfl|hi
  ·exact .inl (.inl rfl)
  ·exact .inl (.inr (.inl rfl))
  ·exact .inr (by omega)
  ·exact .inr (Uf _)
  ·exact .inl (.inr (.inr hi))
 have hsn:=B3.ci.sn
 simp only[Uj,not_or] at hsn
 refine⟨hR,sv3,sid3,B3.run,⟨B3.ci.chn.tl hI0 (B3.env _ (by simp) _ (by simp)),C.nd,hsn.2.2,C.mn⟩,hfr,hsd,λi hi x q=>B3.env i (by simp[hi]) x (by rw[Ue (hIl i hi)];exact q)⟩
theorem PN{l:List Fd}{M k fuel:Nat}{x:Sm}(W:WfS l k x)(hX:∀e,WfE l k e->PxC G l M k fuel e)(hB:PbC G l M k fuel x.body)(hE:PbC G l M k fuel x.els)(n6:x.op≠6):PsC G l M k fuel x:=by
 intro v s v' s' r hS I0 u I sid sv h H C
 have hxc:=x.cs_eq
 have hsl:exL x.args= .lst 4 (x.args.map Ex.cs):=rfl
 obtain⟨e0,rfl,_,hue⟩:=C.chn.is
 have hmb:=H.lt
 have hsb:=H.said.lt
 obtain⟨box,hbox⟩:∃box,box=AO.row 5 [[.p (.int .i64 x.op),.p (.str x.name),.p (exL x.args),.p (smL x.body),.p (smL x.els)]]:=⟨_,rfl⟩
 obtain⟨a,ha0⟩:∃a,x.args[0]?=some a:=by
  have:x.args.length≠0:=by
   rw[W.argn]
   obtain⟨q1,q2⟩:=W.op
   have:x.op=1\/x.op=2\/x.op=3\/x.op=4\/x.op=5\/x.op=6\/x.op=7\/x.op=8:=by omega
   rcases this with q|q|q|q|q|q|q|q<;>rw[q]<;>decide
  exact⟨x.args[0],Ub (by omega)⟩
 have ham:=Uh ha0
 have hka:=a.cs_eq
 obtain⟨s1,r1,hx1,hrest⟩:∃s1 r1,Ev l (.ex k v s a s1 r1)/\((∃c,r1= .st c/\v'=v/\s'=s1/\r= .st c)\/∃n,r1= .ok n/\
  ((x.op=1/\∃m up,v=m::up/\bF m x.name=none/\v'=(m++[(x.name,n)])::up/\s'=s1/\r= .ok none)\/(x.op=2/\(gu v x.name).isSome=true/\v'=gN v x.name n/\s'=s1/\r= .ok none)\/(x.op=3/\v'=v/\s'=s1.say n/\r= .ok none)\/
    (x.op=4/\v'=v/\∃b s2 r2,x.args[1]?=some b/\Ev l (.ex k v s1 b s2 r2)/\((∃c,r2= .st c/\s'=s2/\r= .st c)\/∃m,r2= .ok m/\((16<=n/\s'=s2/\r= .st 2)\/∃i:Nat,n=(i:Int)/\i<16/\s'=s2.put i m/\r= .ok none)))\/
    (x.op=5/\∃m,Ev l (.blk k ([]::v) s1 (if n≠0 then x.body else x.els) (m::v') s' r))\/(x.op=6/\LpA l k x v s1 n v' s' r)\/(x.op=7/\v'=v/\s'=s1/\r= .ok (some n))\/(x.op=8/\v'=v/\s'=s1/\r= .ok none))):=by
  have hd:∀{b:Ex} {q:List Ex},x.args=b::q->b=a:=λ{b q} e=>by rw[e] at ha0;cases ha0;rfl
  cases hS with
  |argS h6 hA h1=>cases hd hA;exact⟨_,_,h1,.inl ⟨_,rfl,rfl,rfl,rfl⟩⟩
  |slet h6 hA h1 h2 h3=>cases hd hA;exact⟨_,_,h1,.inr ⟨_,rfl,.inl ⟨h6,_,_,h2,h3,rfl,rfl,rfl⟩⟩⟩
  |sset h6 hA h1 h2=>cases hd hA;exact⟨_,_,h1,.inr ⟨_,rfl,.inr (.inl ⟨h6,h2,rfl,rfl,rfl⟩)⟩⟩
  |ssay h6 hA h1=>cases hd hA;exact⟨_,_,h1,.inr ⟨_,rfl,.inr (.inr (.inl ⟨h6,rfl,rfl,rfl⟩))⟩⟩
  |sput h6 hA h1 h2 h3=>cases hd hA;exact⟨_,_,h1,.inr ⟨_,rfl,.inr (.inr (.inr (.inl ⟨h6,rfl,_,_,_,by rw[hA];rfl,h2,.inr ⟨_,rfl,.inr ⟨_,rfl,h3,rfl,rfl⟩⟩⟩)))⟩⟩
  |sputC h6 hA h1 h2 h3=>cases hd hA;exact⟨_,_,h1,.inr ⟨_,rfl,.inr (.inr (.inr (.inl ⟨h6,rfl,_,_,_,by rw[hA];rfl,h2,.inr ⟨_,rfl,.inl ⟨h3,rfl,rfl⟩⟩⟩)))⟩⟩
  |sputS h6 hA h1 h2=>cases hd hA;exact⟨_,_,h1,.inr ⟨_,rfl,.inr (.inr (.inr (.inl ⟨h6,rfl,_,_,_,by rw[hA];rfl,h2,.inl ⟨_,rfl,rfl,rfl⟩⟩)))⟩⟩
  |sif h6 hA h1 h2=>cases hd hA;exact⟨_,_,h1,.inr ⟨_,rfl,.inr (.inr (.inr (.inr (.inl ⟨h6,_,h2⟩))))⟩⟩
  |sloop h6 h1=>
   obtain⟨b,s1,r1,hA,g1,g2⟩:=Ch h1
   cases hd hA
   rcases g2 with g2|⟨n,g2,g3⟩
   ·exact⟨_,_,g1,.inl g2⟩
   ·exact⟨_,_,g1,.inr ⟨n,g2,.inr (.inr (.inr (.inr (.inr (.inl ⟨h6,g3⟩)))))⟩⟩
  |sback h6 hA h1=>cases hd hA;exact⟨_,_,h1,.inr ⟨_,rfl,.inr (.inr (.inr (.inr (.inr (.inr (.inl ⟨h6,rfl,rfl,rfl⟩))))))⟩⟩
  |sdo h6 hA h1=>cases hd hA;exact⟨_,_,h1,.inr ⟨_,rfl,.inr (.inr (.inr (.inr (.inr (.inr (.inr ⟨h6,rfl,rfl,rfl⟩))))))⟩⟩
 clear hS
 refine AC.go jp ?_
 simp-implicitDefEqProofs[fp,hxc,hsl,ha0,hka,n6]
 have hbox':AO.row 5 [[.p (.int .i64 x.op),.p (.str x.name),.p (.lst 4 (x.args.map Ex.cs)),.p (smL x.body),.p (smL x.els)]]=box:=hbox.symm
 rw[hbox']
 have hX1:=hX a (W.args a ham) v s s1 r1 hx1 I0.in5 _ I sid sv _ (H.more [box]) (C.more [box])
 rw[show a.cs.map AV.p=[.p (.int .i64 a.op),.p (.int .i64 a.n),.p (.str a.name),.p (exL a.kids)] by rw[hka];rfl] at hX1
 refine hX1.mono ?_
 rintro z h2 ⟨rfl,sv1,sid1,P⟩
 have b2:h2[h.length]?=some box:=by have:=PL.keep H P (i:=0) (by simp);simpa using this
 have B1:BkL M l fuel sid (.ptr e0 2 0 0) v I h s1 sv1 sid1 h2:=(BkL.refl H C).ex P.from
 have I1:=I0.in5.ex hx1
 rcases hrest with⟨c,rfl,rfl,rfl,rfl⟩|⟨n,rfl,hrest⟩
 ·simp-implicitDefEqProofs[db]
  exact⟨rfl,sv1,sid1,B1⟩
 ·rw[hbox] at b2
  rcases hrest with⟨o1,m,up,rfl,hsg,rfl,rfl,rfl⟩|⟨o2,hvs,rfl,rfl,rfl⟩|⟨o3,rfl,rfl,rfl⟩|⟨o4,rfl,b,s2,r2,hb1,hx2,hrest⟩|⟨o5,m,hbk⟩|⟨o6,hlp⟩|⟨o7,rfl,rfl,rfl⟩|⟨o8,rfl,rfl,rfl⟩
  ·obtain⟨e,mm,w,he,g1,g2,g3,g4⟩:=B1.ci.chn.hd B1.ci.nd
   cases he
   have hq:=tP x.name n m
   rw[hsg] at hq
   simp only[Option.isSome_none,Bool.false_eq_true,if_false] at hq
   simp-implicitDefEqProofs[aa,db,b2,o1,g1,g2,hq]
   exact⟨rfl,_,_,B1.map g3 g2 (g4 _)⟩
  ·obtain⟨n0,hn0⟩:=Option.isSome_iff_exists.1 hvs
   simp-implicitDefEqProofs[aa,db,b2,o2]
   refine(GV G B1.ci.chn B1.ci.nd hn0).mono ?_
   rintro z h3 ⟨rfl,e1,rfl,m,c,w,g1,g2,g3,g4,g5⟩
   have hq:=tP x.name n c
   rw[if_pos (po g3)] at hq
   simp-implicitDefEqProofs[aa,g1,g2,hq,b2]
   exact⟨rfl,_,_,B1.map g4 g2 (g5 _)⟩
  ·have jM:=B1.run.men
   simp only[hZ] at jM
   have hM2:=B1.run.lt
   have hm5:=I1.1.m
   unfold M5 at hm5
   have hsd:=B1.run.said
   obtain⟨xs,hxs⟩:∃xs,xs=s1.said:=⟨_,rfl⟩
   rw[←hxs] at hsd hm5
   cases hsd with
   |nn _ _=>
    have jMa:∀os,(h2++os)[M]?=_:=λos=>(Ue hM2).trans jM
    simp-implicitDefEqProofs[aa,db,b2,o3,jM, ↓jMa]
    refine⟨rfl,_,_,B1.say (n:=n) (nid:=h2.length+1) (by omega) (λj j1 j2 _=>by rw[Uc (Ne.symm j2),Ue j1]) ?_ ?_⟩
    ·rw[Ug (by simp;omega),←hxs];rfl
    ·rw[Uc (by omega),Um (by omega),←hxs];simp[bf]
   |ss _ _ hu=>
    have hul:=(Ua.1 hu).1
    simp only[bf] at hu
    have hua:∀os,(h2++os)[sid1]?=some (.row 1 (xs.map λn=>[.p (.int .i64 n)])):=λos=>by rw[Ue hul];exact hu
    have hne:sid1≠M:=Ne.symm (B1.run.neS (by simp))
    have jMb:∀os z os',((h2++os).set sid1 z++os')[M]?=_:=λos z os'=>((Ue (by simp;omega)).trans (Uc hne)).trans ((Ue hM2).trans jM)
    simp-implicitDefEqProofs[aa,db,b2,o3,jM, ↓hua, ↓jMb]
    have htk:List.take xs.length (xs.map λn=>[AV.p (.int .i64 n)])=xs.map λn=>[AV.p (.int .i64 n)]:=Uq (by simp)
    refine⟨⟨by omega,by omega⟩,?_⟩
    refine⟨rfl,_,_,B1.say (n:=n) (nid:=h2.length+1) (by omega) (λj j1 j2 j3=>?_) ?_ ?_⟩
    ·rw[Uc (Ne.symm j2),Ue (by simp;omega),Uc (Ne.symm j3),Ue j1]
    ·rw[Ug (by simp;omega),←hxs];simp[hZ,S5.say]
    ·rw[Uc (by omega),Um (by simp),←hxs];simp[bf,htk]
  ·have hb:=Uh hb1
   have hkb:=b.cs_eq
   simp-implicitDefEqProofs[aa,db,b2,o4,hsl,hb1,hkb]
   have hX2:=hX b (W.args b hb) _ _ _ _ hx2 I1.1 _ I sid1 sv1 _ P.run B1.ci
   rw[show b.cs.map AV.p=[.p (.int .i64 b.op),.p (.int .i64 b.n),.p (.str b.name),.p (exL b.kids)] by rw[hkb];rfl] at hX2
   refine hX2.mono ?_
   rintro z h3 ⟨rfl,sv2,sid2,P2⟩
   have B2:=B1.ex P2
   have I2:=I1.1.ex hx2
   rcases hrest with⟨c,rfl,rfl,rfl⟩|⟨m,rfl,hrest⟩
   ·simp-implicitDefEqProofs[db]
    exact⟨rfl,sv2,sid2,B2⟩
   ·simp-implicitDefEqProofs[aa,db]
    have hn5:=I1.2 n rfl
    obtain⟨i,rfl⟩:∃i:Nat,n=(i:Int):=⟨n.toNat,by have:=hn5.1;omega⟩
    refine(Gi G B2.run i (by have:=hn5.2;omega)).mono ?_
    rintro z h4 hz
    rcases hrest with⟨h16,rfl,rfl⟩|⟨i',hi,h16,rfl,rfl⟩
    ·rw[if_pos (by omega)] at hz
     obtain⟨rfl,rfl⟩:=hz
     simp-implicitDefEqProofs[]
     exact⟨rfl,sv2,sid2,B2⟩
    ·have hii:i'=i:=by omega
     subst hii
     rw[if_neg (by omega)] at hz
     obtain⟨rfl,rfl⟩:=hz
     have jM:=B2.run.men
     simp only[hZ] at jM
     have hcl:=B2.run.len
     simp-implicitDefEqProofs[aa,jM]
     rw[MM (by omega) _ _ _ rfl rfl rfl]
     exact⟨by omega,rfl,_,_,B2.upd rfl (Uf _) (by simp[S5.put,hcl])⟩
  ·have fin:∀z h3,BkX M l fuel sid1 (.ptr e0 2 0 0) v' I h2 s' r z h3->BkX M l fuel sid (.ptr e0 2 0 0) v' I h s' r z h3:=λz h3 ⟨hR,sv3,sid3,B3⟩=>⟨hR,sv3,sid3,B1.trans B3⟩
   by_cases hn0:n=0
   ·simp-implicitDefEqProofs[aa,db,b2,o5,hn0]
    refine(BZ G B1.ci.chn).mono ?_
    rintro z h3 ⟨rfl,rfl⟩
    have b3:∀os,(h2++os)[h.length]?=_:=λos=>(Ue (Ua.1 b2).1).trans b2
    simp-implicitDefEqProofs[aa,b3,b2]
    rw[if_neg (by omega)] at hbk
    refine(Qc G hE hbk I1.1 B1.run B1.ci).mono ?_
    rintro z h3 hz
    have hz:=fin _ _ hz
    obtain⟨hR,B3⟩:=hz
    match r,hR with
    | .ok none,hR=>
      cases hR
      simp-implicitDefEqProofs[aa]
      exact⟨rfl,B3⟩
    | .ok (some q),⟨b,hb1,hb2⟩=>
      cases hb1
      simp-implicitDefEqProofs[aa]
      exact⟨⟨b,rfl,hb2⟩,B3⟩
    | .st c,hR=>
      cases hR
      simp-implicitDefEqProofs[]
      exact⟨rfl,B3⟩
   ·simp-implicitDefEqProofs[aa,db,b2,o5,hn0]
    refine(BZ G B1.ci.chn).mono ?_
    rintro z h3 ⟨rfl,rfl⟩
    have b3:∀os,(h2++os)[h.length]?=_:=λos=>(Ue (Ua.1 b2).1).trans b2
    simp-implicitDefEqProofs[aa,b3,b2]
    rw[if_pos hn0] at hbk
    refine(Qc G hB hbk I1.1 B1.run B1.ci).mono ?_
    rintro z h3 hz
    have hz:=fin _ _ hz
    obtain⟨hR,B3⟩:=hz
    match r,hR with
    | .ok none,hR=>
      cases hR
      simp-implicitDefEqProofs[aa]
      exact⟨rfl,B3⟩
    | .ok (some q),⟨b,hb1,hb2⟩=>
      cases hb1
      simp-implicitDefEqProofs[aa]
      exact⟨⟨b,rfl,hb2⟩,B3⟩
    | .st c,hR=>
      cases hR
      simp-implicitDefEqProofs[]
      exact⟨rfl,B3⟩
  ·exact(n6 o6).elim
  ·simp-implicitDefEqProofs[aa,db,b2,o7]
   exact⟨⟨h2.length,rfl,by simp⟩,_,_,B1.more _⟩
  ·simp-implicitDefEqProofs[aa,db,b2,o8]
   exact⟨rfl,_,_,B1⟩
end
section
structure LzS where (sid:Nat) (sv:AV) (hh:List AO) (v:List Sc5) (s:S5)
structure LzI (l:List Fd) (M k fuel sid:Nat) (u:AV) (I:List Nat) (h:List AO) (box:AO) (x:Sm) (v':List Sc5) (s':S5) (r:O5 (Option Int)) (a:LzS):Prop where
 bk:BkL M l fuel sid u a.v I (h++[box]) a.s a.sv a.sid a.hh
 inn:In5 a.v a.s
 ev:Ev l (.lp k a.v a.s x v' s' r)
theorem BkL.keep{M:Nat}{l:List Fd}{fuel sid sid1:Nat}{u sv sv1:AV}{v v1:List Sc5}{I:List Nat}{h h1 os:List AO}{s s1:S5}(H:MI M l fuel sv sid s h)(C:CI h u v I M sid)(B:BkL M l fuel sid u v1 I (h++os) s1 sv1 sid1 h1){i:Nat}(hi:i<os.length):h1[h.length+i]?=os[i]?:=by
 have a:=H.lt
 have b:=H.said.lt
 rw[B.fr.2 (h.length+i) (by simp;omega) (by simp only[Uj,not_or];exact⟨by omega,by omega,λq=>by have:=C.chn.lt _ q;omega⟩),Um (by omega),Nat.add_sub_cancel_left]
theorem BkL.from{M:Nat}{l:List Fd}{fuel sid sid1:Nat}{u sv1:AV}{v v1:List Sc5}{I:List Nat}{h h1 os:List AO}{s1:S5}(C:CI h u v I M sid)(B:BkL M l fuel sid u v1 I (h++os) s1 sv1 sid1 h1):BkL M l fuel sid u v1 I h s1 sv1 sid1 h1:=
 ⟨B.run,B.ci,B.fr.from,by have:=B.fs;simp at this;omega,λi hi x q=>B.env i hi x (by rw[Ue (C.chn.lt i hi)];exact q)⟩
variable (G:aq)
theorem OP{l:List Fd}{M k fuel:Nat}{x:Sm}(W:WfS l k x)(hX:∀e,WfE l k e->PxC G l M k fuel e)(hB:PbC G l M k fuel x.body)(h6:x.op=6):PsC G l M k fuel x:=by
 intro v s v' s' r hS I0 u I sid sv h H C
 have hxc:=x.cs_eq
 have hsl:exL x.args= .lst 4 (x.args.map Ex.cs):=rfl
 obtain⟨e0,rfl,_,hue⟩:=C.chn.is
 have hmb:=H.lt
 have hsb:=H.said.lt
 obtain⟨box,hbox⟩:∃box,box=AO.row 5 [[.p (.int .i64 6),.p (.str x.name),.p (.lst 4 (x.args.map Ex.cs)),.p (smL x.body),.p (smL x.els)]]:=⟨_,rfl⟩
 obtain⟨a,ha0⟩:∃a,x.args[0]?=some a:=by
  have:x.args.length≠0:=by rw[W.argn,h6];decide
  exact⟨x.args[0],Ub (by omega)⟩
 have ham:=Uh ha0
 have hka:=a.cs_eq
 have hlp:Ev l (.lp k v s x v' s' r):=by
  cases hS with
  |argS q _ _=>exact(q h6).elim
  |sloop _ q=>exact q
  |slet q _ _ _ _=>omega
  |sset q _ _ _=>omega
  |ssay q _ _=>omega
  |sput q _ _ _ _=>omega
  |sputC q _ _ _ _=>omega
  |sputS q _ _ _=>omega
  |sif q _ _ _=>omega
  |sback q _ _=>omega
  |sdo q _ _=>omega
 clear hS
 refine AC.go jp ?_
 simp-implicitDefEqProofs[fp,hxc,hsl,h6]
 rw[←hbox]
 refine DX 0 (λts' h'=>r= .ok none/\(∃sv2 sid2,BkL M l fuel sid (.ptr e0 2 0 0) v' I h s' sv2 sid2 h')/\∃l,ts'=ag 109 l)
  (λts' h'=>∃n b,r= .ok (some n)/\(∃sv2 sid2,BkL M l fuel sid (.ptr e0 2 0 0) v' I h s' sv2 sid2 h')/\h'[b]?=some (.row 1 [[.p (.int .i64 n)]])/\∃l,ts'=ag 109 ((6,.ptr b 1 0 0)::l))
  (λt x h'=>∃c,t=bt/\x= .int .i64 c/\r= .st c/\∃sv2 sid2,BkL M l fuel sid (.ptr e0 2 0 0) v' I h s' sv2 sid2 h') (λQ' qE qR qP=>?_) ?_ ?_ ?_
 ·refine az (λa:LzS=>ag 109 [(4,.ptr h.length 5 0 0),(0,.ptr M 20 0 0),(2,.ptr e0 2 0 0)]) (λa=>a.hh) (LzI l M k fuel sid (.ptr e0 2 0 0) I h box x v' s' r) (λa=>a.s.left) ⟨sid,sv,h++[box],v,s⟩ ⟨BkL.refl (H.more _) (C.more _),I0.in5,hlp⟩ ?_ ?_
  ·refine aH (by simp) ?_
   simp[below]
   omega
  rintro⟨sidc,svc,hh,vc,sc⟩ J
  have jB:hh[h.length]?=some box:=by have:=BkL.keep H C J.bk (i:=0) (by simp);simpa using this
  have jl:=J.bk.fr.1
  simp only[Uu,Ur,List.length_nil] at jl
  rw[hbox] at jB
  have hge:=J.bk.from C
  simp-implicitDefEqProofs[jB,hsl,ha0,hka]
  have hev:=J.ev
  simp only at hev
  obtain⟨a',s1,r1,hxa,hx1,hrest⟩:=Ch hev
  have haa:a'=a:=by rw[hxa] at ha0;cases ha0;rfl
  subst haa
  have hX1:=hX a' (W.args a' ham) _ _ _ _ hx1 J.inn _ I sidc svc hh J.bk.run J.bk.ci
  rw[show a'.cs.map AV.p=[.p (.int .i64 a'.op),.p (.int .i64 a'.n),.p (.str a'.name),.p (exL a'.kids)] by rw[hka];rfl] at hX1
  refine hX1.mono ?_
  rintro z h2 ⟨rfl,sv1,sid1,P⟩
  have B1:=J.bk.ex P
  simp only at B1
  have jB2:h2[h.length]?=some box:=by have:=BkL.keep H C B1 (i:=0) (by simp);simpa using this
  rw[hbox] at jB2
  have I1:=J.inn.ex hx1
  have hcn:=no hx1
  simp only[Ff] at hcn
  rcases hrest with⟨c,rfl,rfl,rfl,rfl⟩|⟨n,rfl,hrest⟩
  ·simp-implicitDefEqProofs[db]
   exact λts=>qP _ _ _ _ ⟨c,rfl,rfl,rfl,_,_,B1.from C⟩
  rcases hrest with⟨rfl,rfl,rfl,rfl⟩|⟨hn0,m,v1,s2,q1,hbk,hrest⟩
  ·simp-implicitDefEqProofs[aa,db]
   exact qE _ _ ⟨rfl,⟨_,_,B1.from C⟩,_,rfl⟩
  have b3:∀os,(h2++os)[h.length]?=_:=λos=>(Ue (Ua.1 jB2).1).trans jB2
  simp-implicitDefEqProofs[aa,db,hn0,jB2]
  refine(BZ G B1.ci.chn).mono ?_
  rintro z h3 ⟨rfl,rfl⟩
  simp-implicitDefEqProofs[aa,b3,jB2]
  refine(Qc G hB hbk I1.1 B1.run B1.ci).mono ?_
  rintro z h3 ⟨hR,sv3,sid3,B3⟩
  have B4:=B1.trans B3
  have I3:=(I1.1.opn.blk hbk).tl
  have hcb:=no hbk
  simp only[Ff] at hcb
  match q1,hR with
  | .st c,hR=>
    cases hR
    rcases hrest with⟨_,rfl,rfl,rfl⟩|⟨q,_⟩
    case inr=>cases q
    simp-implicitDefEqProofs[]
    exact λts=>qP _ _ _ _ ⟨c,rfl,rfl,rfl,_,_,B4.from C⟩
  | .ok (some q),⟨b,hb1,hb2⟩=>
    cases hb1
    rcases hrest with⟨_,rfl,rfl,rfl⟩|⟨q,_⟩
    case inr=>cases q
    simp-implicitDefEqProofs[aa]
    exact qR _ _ ⟨q,b,rfl,⟨_,_,B4.from C⟩,hb2,_,rfl⟩
  | .ok none,hR=>
    cases hR
    rcases hrest with⟨q,_⟩|⟨_,hrest⟩
    ·exact(q rfl).elim
    simp-implicitDefEqProofs[aa]
    refine(LU G B4.run).mono ?_
    rintro z h4 hz
    rcases hrest with⟨hF,rfl,rfl,rfl⟩|⟨F,hF,hlp2⟩
    ·rw[if_pos hF] at hz
     obtain⟨rfl,rfl⟩:=hz
     simp-implicitDefEqProofs[]
     exact λts=>qP _ _ _ _ ⟨3,rfl,rfl,rfl,_,_,B4.from C⟩
    ·rw[if_neg (by omega)] at hz
     obtain⟨rfl,rfl⟩:=hz
     have hFF:s2.left-1=F:=by omega
     rw[hFF]
     have B5:=B4.upd (s2:=s2.at_ F) rfl (by simp only[S5.at_];omega) B4.run.len
     simp-implicitDefEqProofs[aa]
     refine⟨⟨sid3,sv3,_,v1,s2.at_ F⟩,⟨B5,(I3.tick hF).in5,hlp2⟩,by simp only[S5.at_];omega,aH (by have:=B5.fr.1;simp at this⊢;omega) ?_⟩
     have:=B5.fr.1
     simp at this
     simp[below]
     omega
 ·rintro ts' h' ⟨rfl,B,l',rfl⟩
  simp-implicitDefEqProofs[]
  exact⟨rfl,B⟩
 ·rintro ts' h' ⟨n,b,rfl,B,hb,l',rfl⟩
  simp-implicitDefEqProofs[]
  exact⟨⟨b,rfl,hb⟩,B⟩
 ·rintro t y ts' h' ⟨c,rfl,rfl,rfl,B⟩
  simp-implicitDefEqProofs[]
  exact⟨rfl,B⟩
end
end Go.Proofs.YtokiapglmedipaaGreatDoor
