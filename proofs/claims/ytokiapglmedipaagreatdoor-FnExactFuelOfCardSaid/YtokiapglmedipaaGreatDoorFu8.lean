/-
  Contracts and lemmas that the card needs, part 8.
-/
import Derived.Test.YtokiapglmedipaaGreatDoorFu7
namespace Go.Proofs.YtokiapglmedipaaGreatDoor
open Go Go.Aw
set_option maxRecDepth 100000
set_option maxHeartbeats 4000000
section
theorem JN{v v':List Sc5}(h:Grw v v'):(aq v).length<=(aq v').length:=by
 rcases h with h|⟨m,up,m',up',t,rfl,rfl,h1,h2⟩
 ·rw[fK h];exact Rl _
 ·have e1:=fK h1
  have e2:=congrArg List.length h2
  simp only[nmS,RL,Rx] at e2
  simp only[aq,Rx]
  omega
def pG(uid n:Nat):AV->AV
 | .nils=> .nils
 |_=> .sl uid 1 0 n
theorem EI.cut{R cid V sid nid uid:Nat}{uv:AV}{w:Sc5}{b:Bool}{x:Int}{h:List AO}(E:EI V nid uid uv w b x h)(A:Ap R V sid cid nid uid){n:Nat}(hn:n<=w.length):EI V nid uid (pG uid n uv) (w.take n) b x (h.set V (bC nid n (pG uid n uv) b x)):=by
 obtain⟨t,h1⟩:=E.names
 have hl:(w.take n).length=n:=by rw[RG];omega
 refine⟨by rw[hl];exact Rj E.lt.1,⟨(w.drop n).map (·.1)++t,?_⟩,?_,E.ne,by rw[RQ];exact E.ul⟩
 ·rw[Rg E.neN,h1,←RT,←List.map_append,RZ]
 ·have hv:=E.vals
  have hx:∀z,(h.set V z)[uid]?=h[uid]?:=λz=>Rg (Ne.symm A.uV)
  have hwl:(w.map (·.2)).length=w.length:=by simp
  generalize hvm:w.map (·.2)=vm at hv hwl
  have hvt:(w.take n).map (·.2)=vm.take n:=by rw[←hvm,List.map_take]
  rw[hvt]
  cases hv with
  |nn=>simp only[pG,List.take_nil];exact .nn _
  |ss _ _ t2 h2=>
   have hl2:(vm.take n).length=n:=by rw[RG];omega
   have:=UV.ss (h:=h.set V (bC nid n (pG uid n (.sl uid 1 0 vm.length)) b x)) uid (vm.take n) (vm.drop n++t2) (by rw[hx,h2,←RT,RZ])
   rw[hl2] at this
   exact this
structure BqS where (sid nid uid:Nat) (uv:AV) (hh:List AO) (v:List Sc5) (s:S5) (i:Nat) (q:O5 (Option Int))
structure BqI (l:List Fd) (R cid k V sid nid uid:Nat) (x0:Int) (hb:List AO) (xs:List Sm) (v':List Sc5) (s':S5) (r:O5 (Option Int)) (a:BqS):Prop where
 run:RI R cid l a.sid a.s (bj a.q) (cz a.q) a.hh
 env:EI V a.nid a.uid a.uv (aq a.v) (bkB a.q) (bkV x0 a.q) a.hh
 ap:Ap R V a.sid cid a.nid a.uid
 snc:Snc R cid V sid nid uid hb a.sid a.nid a.uid a.hh
 il:a.i<=xs.length
 go:a.q= .ok none->In5 a.v a.s/\Ev l (.blk k a.v a.s (xs.drop a.i) v' s' r)
 over:a.q≠ .ok none->a.v=v'/\a.s=s'/\a.q=r
variable (G:aw)
theorem Kf{l:List Fd}{R cid k:Nat}{xs:List Sm}(hz:xs.length<=1073741824)(hS:∀x∈xs,SmX G l R cid k x):StX G l R cid k xs:=by
 intro v s v' s' r hE I V x0 sid nid uid uv h H E A
 have hsl:smL xs= .lst 5 (xs.map Sm.cs):=rfl
 have hgw:Grw v v':=uG hE
 have hlen:=JN hgw
 obtain⟨hR0,hs0,hc0⟩:=H.lt
 obtain⟨hV0,hn0,hu0⟩:=E.lt
 obtain⟨u1,u2⟩:=E.vals.cell
 have aV:=E.env
 simp only[bC] at aV
 refine AC.go jz ?_
 simp-implicitDefEqProofs[ff,hsl,aV]
 have J0:BqI l R cid k V sid nid uid x0 h xs v' s' r ⟨sid,nid,uid,uv,h,v,s,0,.ok none⟩:=⟨H,E,A,Snc.init _,Sk _,λ_=>⟨I,hE⟩,λh=>(h rfl).elim⟩
 refine aF (λa:BqS=>af 65 [(7,.p (.int .i64 a.i)),(6,.p (.int .i64 (aq v).length)),(0,.ptr R 7 0 0),(1,.p (.lst 5 (xs.map Sm.cs))),(2,.ptr V 4 0 0)]) (λa=>a.hh) (BqI l R cid k V sid nid uid x0 h xs v' s' r) (λa=>xs.length-a.i) ⟨sid,nid,uid,uv,h,v,s,0,.ok none⟩ J0 ?_ ?_
 ·refine cf (Rl _) ?_
  simp[below]
  omega
 clear J0
 rintro⟨sc,nc,uc,uvc,hh,vc,sx,i,q⟩ J
 have jR:=J.run.run
 have jV:=J.env.env
 have jS:=J.snc
 have jl:=jS.fr.1
 simp only at jR jV jS jl
 obtain⟨q1,q2,q3⟩:=J.run.lt
 obtain⟨q4,q5,q6⟩:=J.env.lt
 have q7:=J.env.neR J.run
 have q8:=J.run.neR
 have q9:=J.run.ne
 have uR:=J.ap.uR
 simp only at q1 q2 q3 q4 q5 q6 q7 q8 q9 uR
 have out:∀hv:vc=v'/\sx=s'/\q=r,StL R cid l V sid nid uid h ((aq v').take (aq v).length) x0 s' r (.ret (.tup [])) ((hh.set V (.row 4 [[.sl nc 1 0 (aq v).length,pG uc (aq v).length uvc,.p (.bool (bkB q)),.p (.int .i64 (bkV x0 q))]]))):=by
  rintro⟨rfl,rfl,rfl⟩
  exact StL.mk (J.run.setV (s2:=sx) J.env _) (J.env.cut J.ap hlen) J.ap ⟨jS.fr.set (by simp) _,jS.fs,jS.fn,jS.fu⟩
 have vS:∀z,(hh.set V z)[V]?=some z:=λz=>Rj q4
 have huv:=J.env.vals
 simp only at huv
 have hwl:((aq vc).map (·.2)).length=(aq vc).length:=by simp
 simp only[aD] at jR
 simp only[bC] at jV
 by_cases hq:q= .ok none
 case neg=>
  have ho:=out (J.over hq)
  have hvl:(aq v).length<=(aq vc).length:=by have:=(J.over hq).1;simp only at this;rw[this];exact hlen
  generalize hvm:(aq vc).map (·.2)=vm at huv hwl
  cases q with
  |st c=>
   simp only[cz,bj] at jR
   by_cases hi:i<xs.length
   ·cases huv with
    |nn=>
     have h0:(aq v).length=0:=by simp at hwl;omega
     simp-implicitDefEqProofs[hi,jR,jV,vS,h0]
     simpa[h0,pG] using ho
    |ss _ _ t hu=>
     simp-implicitDefEqProofs[hi,jR,jV,vS,hvl,hwl]
     simpa[pG] using ho
   ·cases huv with
    |nn=>
     have h0:(aq v).length=0:=by simp at hwl;omega
     simp-implicitDefEqProofs[hi,jR,jV,vS,h0]
     simpa[h0,pG] using ho
    |ss _ _ t hu=>
     simp-implicitDefEqProofs[hi,jR,jV,vS,hvl,hwl]
     simpa[pG] using ho
  |ok p=>
   cases p with
   |none=>exact(hq rfl).elim
   |some m=>
    simp only[cz,bj,bkB,bkV] at jR jV ho
    by_cases hi:i<xs.length
    ·cases huv with
     |nn=>
      have h0:(aq v).length=0:=by simp at hwl;omega
      simp-implicitDefEqProofs[hi,jR,jV,vS,h0]
      simpa[h0,pG] using ho
     |ss _ _ t hu=>
      simp-implicitDefEqProofs[hi,jR,jV,vS,hvl,hwl]
      simpa[pG] using ho
    ·cases huv with
     |nn=>
      have h0:(aq v).length=0:=by simp at hwl;omega
      simp-implicitDefEqProofs[hi,jR,jV,vS,h0]
      simpa[h0,pG] using ho
     |ss _ _ t hu=>
      simp-implicitDefEqProofs[hi,jR,jV,vS,hvl,hwl]
      simpa[pG] using ho
 subst hq
 obtain⟨Ic,hev⟩:=J.go rfl
 simp only at Ic hev
 simp only[cz,bj,bkB,bkV] at jR jV out
 by_cases hi:i<xs.length
 case neg=>
  rw[List.drop_eq_nil_of_le (by omega)] at hev
  cases hev
  have ho:=out ⟨rfl,rfl,rfl⟩
  generalize hvm:(aq v').map (·.2)=vm at huv hwl
  cases huv with
  |nn=>
   have h0:(aq v).length=0:=by simp at hwl;omega
   simp-implicitDefEqProofs[hi,jR,jV,vS,h0]
   simpa[h0,pG] using ho
  |ss _ _ t hu=>
   simp-implicitDefEqProofs[hi,jR,jV,vS,hlen,hwl]
   simpa[pG] using ho
 have hg:=Re hi
 have hmem:=Rt hi
 have hdr:xs.drop i=xs[i]::xs.drop (i+1):=List.drop_eq_getElem_cons hi
 generalize xs[i]=x at hg hmem hdr
 have hxc:=x.cs_eq
 have hSx:=hS x hmem
 have hac:x.cs.map AV.p=[.p (.int .i64 x.op),.p (.str x.name),.p (exL x.args),.p (smL x.body),.p (smL x.els)]:=by rw[hxc];rfl
 have hrun:=J.run
 have henv:=J.env
 have hap:=J.ap
 simp only[bj,cz,bkB,bkV] at hrun henv hap
 have htk:=Jy G hrun.run (by have:=Ic.m;unfold M5 at this;omega)
 have hwi:=w1 (i:=i) (by omega)
 have next:∀(sid5 nid5 uid5:Nat) (uv5:AV) (h5:List AO) (v5:List Sc5) (s5:S5) (q5:O5 (Option Int)) (sl:List (Nat × AV)),BqI l R cid k V sid nid uid x0 h xs v' s' r ⟨sid5,nid5,uid5,uv5,h5,v5,s5,i+1,q5⟩->Aw.look sl 7= .p (.int .i64 (IntKind.i64.wrap ((i:Int)+1)))->Aw.look sl 6= .p (.int .i64 (aq v).length)->Aw.look sl 0= .ptr R 7 0 0->Aw.look sl 1= .p (.lst 5 (xs.map Sm.cs))->Aw.look sl 2= .ptr V 4 0 0->
  ∃a:BqS,BqI l R cid k V sid nid uid x0 h xs v' s' r a/\xs.length-a.i<xs.length-i/\Wk h.length (af 65 sl) h5 (af 65 [(7,.p (.int .i64 a.i)),(6,.p (.int .i64 (aq v).length)),(0,.ptr R 7 0 0),(1,.p (.lst 5 (xs.map Sm.cs))),(2,.ptr V 4 0 0)]) a.hh:=λsid5 nid5 uid5 uv5 h5 v5 s5 q5 sl J5 e7 e6 e0 e1 e2=>by
  have:=J5.snc.fr.1
  simp only at this
  refine⟨_,J5,by simp only;omega,cf this ?_⟩
  simp[below,e7,e6,e0,e1,e2,hwi]
  omega
 have S4:∀z,Snc R cid V sid nid uid h sc nc uc (hh.set R z):=λz=>⟨jS.fr.set (by simp) _,jS.fs,jS.fn,jS.fu⟩
 have E4:∀z,EI V nc uc uvc (aq vc) false x0 (hh.set R z):=λz=>henv.frame (by simp) (Rg (by omega)) (Rg (by omega)) (Rg (by omega))
 simp-implicitDefEqProofs[hi,jR,jV]
 refine htk.mono ?_
 rintro z h4 ⟨rfl,rfl⟩
 rw[hdr] at hev
 have rS:∀z,(hh.set R z)[R]?=some z:=λz=>Rj q1
 by_cases h0:sx.left=0
 ·rw[if_pos h0]
  have hr:v'=vc/\s'=sx/\r= .st 3:=by
   cases hev with
   |bfuel _=>exact⟨rfl,rfl,rfl⟩
   |bgo h1 _ _=>omega
   |bend h1 _ _=>omega
  obtain⟨rfl,rfl,rfl⟩:=hr
  simp-implicitDefEqProofs[aa,rS,aD]
  exact next sc nc uc uvc _ v' s' (.st 3) _ ⟨hrun.ended,E4 _,hap,S4 _,by simp only;omega,(λh=>by cases h),λ_=>⟨rfl,rfl,rfl⟩⟩ (by simp) (by simp) (by simp) (by simp) (by simp)
 ·rw[if_neg h0]
  obtain⟨F,hF⟩:∃F,sx.left=F+1:=⟨sx.left-1,by omega⟩
  have hF1:sx.left-1=F:=by omega
  rw[hF1]
  have R4:RI R cid l sc (sx.at_ F) 0 false (hh.set R (aD l sc cid (sx.at_ F) 0 false)):=⟨rS _,by rw[Rg (by omega)];exact hrun.said,by rw[Rg (by omega)];exact hrun.cells,q9⟩
  have I4:=Ic.tick hF
  have hq:∃v1 s1 q1,Ev l (.stm k vc (sx.at_ F) x v1 s1 q1)/\((q1= .ok none/\Ev l (.blk k v1 s1 (xs.drop (i+1)) v' s' r))\/(q1≠ .ok none/\v1=v'/\s1=s'/\q1=r)):=by
   cases hev with
   |bfuel h1=>omega
   |bgo h1 h2 h3=>
    rw[hF] at h1
    cases h1
    exact⟨_,_,_,h2,.inl ⟨rfl,h3⟩⟩
   |bend h1 h2 h3=>
    rw[hF] at h1
    cases h1
    exact⟨_,_,_,h2,.inr ⟨h3,rfl,rfl,rfl⟩⟩
  obtain⟨v1,s1,q1',hst,hrest⟩:=hq
  have hcall:=hSx _ _ _ _ _ hst I4 V x0 sc nc uc uvc _ R4 (E4 _) hap
  rw[hac] at hcall
  have rS':=rS (aD l sc cid (sx.at_ F) 0 false)
  simp only[aD] at rS'
  simp-implicitDefEqProofs[aa,rS',aD,hg,hxc]
  refine hcall.mono ?_
  rintro z h5 ⟨sid',nid',uid',uv',rfl,p1,p2,p3,p4,p5,p6,p7⟩
  simp-implicitDefEqProofs[aa]
  refine next sid' nid' uid' uv' h5 v1 s1 q1' _ ⟨p1,p2,p3,(S4 _).st p4 p5 p6 p7,by simp only;omega,λhq=>?_,λhq=>?_⟩ (by simp) (by simp) (by simp) (by simp) (by simp)
  ·rcases hrest with⟨_,h3⟩|⟨h3,_⟩
   ·exact⟨In5.stm I4 hst,h3⟩
   ·exact(h3 hq).elim
  ·rcases hrest with⟨h3,_⟩|⟨_,h3⟩
   ·exact(hq h3).elim
   ·exact h3
end
section
theorem CoS.mem{l:List Fd}{k:Nat}{x:Sm}:∀{xs:List Sm} {d:Nat},CoS l k d xs->x∈xs->(∀a∈x.args,CoE l k a)/\(∃d,CoS l k d x.body)/\∃d,CoS l k d x.els
 |y::r,d,h,hx=>by
  obtain⟨a,b,c,e⟩:=h.head
  rcases Rm.1 hx with rfl|hx
  ·exact⟨a,⟨_,b⟩,⟨_,c⟩⟩
  ·exact e.mem hx
theorem Hg{l:List Fd}{k d:Nat}{xs:List Sm}{x:Sm}(hf:∀x∈xs,∃d,ay d x=true)(hz:aH xs<=1073741824)(hc:CoS l k d xs)(hx:x∈xs):WfS l k x:=by
 obtain⟨c,hform⟩:=hf x hx
 obtain⟨h1,h2,h3,h4,h5⟩:=GN hform
 obtain⟨g1,g2,g3⟩:=hc.mem hx
 have hxz:=aW hx
 have hse:=x.sz_eq
 exact⟨⟨c,hform⟩,λa ha=>⟨⟨6,sG (h3 a ha)⟩,g1 a ha,by have:=aT ha;omega⟩,⟨h4,by omega,g2⟩,⟨h5,by omega,g3⟩,h2,h1⟩
variable (G:aw)
theorem Ot{l:List Fd}(hc:aJ l=0)(hz:bh l<=1073741824)(R cid:Nat):∀k,StC G l R cid k:=by
 intro k
 induction k using Nat.strongRecOn with
 |_ k ih=>
  have hX:∀e,WfE l k e->ExC G l R cid k e:=λe W=>MQ G (λe hop W ihk v s s' r hE I V b x sid nid uid uv h H E A=>LZ G hc hz ih e hop W ihk v s s' r hE I V b x sid nid uid uv h H E A) e.sz e (Rl _) W
  have key:∀(N:Nat) (xs:List Sm),aH xs<N->(∀x∈xs,∃d,ay d x=true)->aH xs<=1073741824->(∃d,CoS l k d xs)->StX G l R cid k xs:=by
   intro N
   induction N with
   |zero=>intro xs h;omega
   |succ N ihN=>
    rintro xs hN hf hzx ⟨d,hco⟩
    refine Kf G (by have:=bF xs;omega) λx hx=>?_
    have W:=Hg hf hzx hco hx
    have hxz:=aW hx
    have hse:=x.sz_eq
    have hB:=ihN x.body (by omega) W.body.1 W.body.2.1 W.body.2.2
    exact MO G W hX hB (ihN x.els (by omega) W.els.1 W.els.2.1 W.els.2.2) λh6=>LT G W h6 hX hB
  intro xs v s v' s' r hf hzx hco
  exact key (aH xs+1) xs (Nat.lt_succ_self _) hf hzx hco v s v' s' r
def Fo:O5 Int->Int
 | .ok n=>n
 | .st _=>0
def FL(s:S5)(r:O5 Int):List PV:=[bG s.said,.int .i64 (bj r),.int .i64 (Fo r),bG s.cells]
theorem MW{l:List Fd}{f:Fd}{us:List Int}{fuel:Nat}{s':S5}{r:O5 Int}(hc:aJ l=0)(hz:bh l<=1073741824)(hf:l[l.length-1]?=some f)(hl:us.length=f.params.length)(hu:∀n∈us,V5 n)(hfu:fuel<=4000)(hE:Ev l (.cal (l.length-1) us (s0 fuel) s' r)):
 VF Tryz.prog G jK [.agg [.p (fdL l)],.p (bG us),.p (.int .i64 fuel)] (.tup [.agg ((FL s' r).map .p),.p (.int .i64 s'.left)]):=by
 have hfl:fdL l= .lst 3 (l.map Fd.cs):=rfl
 have hfc:f.cs=[.str f.name,aB f.params,smL f.body]:=rfl
 have hpL:aB f.params= .lst 1 (f.params.map λw=>[.str w]):=rfl
 have hnL:bG us= .lst 1 (us.map λn=>[.int .i64 n]):=rfl
 have hfz:=cS (Ri hf)
 have hfs:f.sz=1+f.name.length+(f.params.length+(f.params.map List.length).sum)+aH f.body:=rfl
 have hll:l.length<=bh l:=gx l
 have hjl:=(Rd.1 hf).1
 have hn1:IntKind.i64.wrap ((l.length:Int)-1)=((l.length-1:Nat):Int):=by rw[ag (by omega) (by omega)];omega
 cases hE with
 | @cal _ f' _ _ v'' _ r'' q1 q2 q3=>
 rw[hf] at q1
 cases q1
 have key:AC Tryz.prog G jK [.agg [.p (fdL l)],.p (bG us),.p (.int .i64 fuel)] [] λx h=>∃sid cid,x= .ret (.tup [.agg [.sl sid 1 0 s'.said.length,.p (.int .i64 (bj (DL r''))),.p (.int .i64 (Fo (DL r''))),.sl cid 1 0 16],.p (.int .i64 s'.left)])/\h[sid]?=some (aS s'.said)/\h[cid]?=some (aS s'.cells):=by
  refine AC.go Bn ?_
  have hap:=lU hc hf
  have hflat:aq [f.params.zip us]=f.params.zip us:=by simp[aq]
  have hz1:(f.params.zip us).map (·.1)=f.params:=List.map_fst_zip (by omega)
  have hz2:(f.params.zip us).map (·.2)=us:=List.map_snd_zip (by omega)
  have hzl:(f.params.zip us).length=f.params.length:=by rw[List.length_zip];omega
  have IW:In5 [f.params.zip us] (s0 fuel):=by
   refine⟨nS fuel,λm hm y hy=>?_,sC hap q2,by simp[M5,s0];omega,by rw[hflat,hzl];simp only[s0];omega⟩
   rw[Rq.1 hm] at hy
   have:=List.mem_map_of_mem (f:=Prod.snd) hy
   rw[hz2] at this
   exact hu _ this
  have hI2:=IW.blk q3
  have call:∀(sid cid:Nat) (hh:List AO),RI 4 cid l sid (s0 fuel) 0 false hh->hh[10]?=some (bC 7 f.params.length (.sl 9 1 0 us.length) false 0)->hh[7]?=some (jh f.params)->hh[9]?=some (aS us)->hh.length=11->(sid=2\/sid=3)->(cid=2\/cid=3)->sid≠cid->
   AC Tryz.prog G aC [.ptr 4 7 0 0,.p (smL f.body),.ptr 10 4 0 0] hh λx h'=>x= .ret (.tup [])/\∃sid2 nid uid uv w,RI 4 cid l sid2 s' (bj r'') (cz r'') h'/\EI 10 nid uid uv w (bkB r'') (bkV 0 r'') h'/\h'[1]?=hh[1]?/\(sid2=sid\/11<=sid2):=λsid cid hh g1 g2 g3 g4 g5 g6 g7 g8=>by
   have EW:EI 10 7 9 (.sl 9 1 0 us.length) (aq [f.params.zip us]) false 0 hh:=by
    rw[hflat]
    refine⟨by rw[hzl];exact g2,⟨[],by rw[hz1,RO];exact g3⟩,by rw[hz2];exact .ss _ _ [] (by rw[RO];exact g4),by omega,by omega⟩
   have AW:Ap 4 10 sid cid 7 9:=⟨by omega,by omega,by omega,by omega,by omega,by omega⟩
   refine(Ot G hc hz 4 cid (l.length-1) f.body [f.params.zip us] (s0 fuel) v'' s' r'' (λy hy=>⟨4,(gl hc).2 f (Ri hf) y hy⟩) (by omega) ⟨1,vJ hc hf⟩ q3 IW 10 0 sid 7 9 _ hh g1 EW AW).mono ?_
   rintro z h' ⟨sid',nid',uid',uv',rfl,p1,p2,p3,p4,p5,p6,p7⟩
   exact⟨rfl,sid',nid',uid',uv',_,p1,p2,p4.2 1 (by omega) (by simp only[Rm,RH,or_false,not_or];omega),by omega⟩
  simp-implicitDefEqProofs[tv]
  have hst:(AO.row 1 (List.map ((λx=>List.map AV.p x)∘λw=>[PV.str w]) f.params))=jh f.params:=by simp[jh,Function.comp_def]
  have hnt:(AO.row 1 (List.map ((λx=>List.map AV.p x)∘λn=>[PV.int IntKind.i64 n]) us))=aS us:=by simp[aS,Function.comp_def]
  refine⟨?_,?_⟩
  ·simp-implicitDefEqProofs[hfl,hn1,hf,hfc,hpL,hnL]
   rw[hst,hnt]
   refine⟨⟨by omega,by omega⟩,⟨by omega,by omega⟩,?_⟩
   refine(call 2 3 _ ⟨rfl,rfl,rfl,by omega⟩ rfl rfl rfl rfl (.inl rfl) (.inr rfl) (by omega)).mono ?_
   rintro z h' ⟨rfl,sid2,nid,uid,uv,w,p1,p2,p3,p4⟩
   have pR:=p1.run
   have pV:=p2.env
   have pS:=p1.said
   have pC:=p1.cells
   simp only[Sb,List.getElem?_cons_zero] at p3
   have rT:∀z,(h'.set 1 z)[1]?=some z:=λz=>Rj (Rd.1 p3).1
   have rS:∀z,(h'.set 4 z)[4]?=some z:=λz=>Rj p1.lt.1
   have rS1:∀z,(h'.set 4 z)[1]?=some (.row 4 [[AV.nils,AV.p (PV.int IntKind.i64 0),AV.p (PV.int IntKind.i64 0),AV.nils]]):=λz=>by rw[Rg (by omega)];exact p3
   have rSo:∀z w,((h'.set 4 z).set 1 w)[1]?=some w:=λz w=>Rj (by rw[RQ];exact(Rd.1 p3).1)
   have rS4:∀z w,((h'.set 4 z).set 1 w)[4]?=some z:=λz w=>by rw[Rg (by omega)];exact rS z
   simp only[aD] at pR
   simp only[bC] at pV
   have q4:=p1.neR.1
   cases r'' with
   |st c=>
    simp only[cz,bj] at pR p1
    simp-implicitDefEqProofs[aa,pR,pV,p3,rT]
    refine⟨sid2,3,⟨rfl,rfl,rfl,rfl⟩,by rw[Rg (by omega)];exact pS,by rw[Rg (by omega)];exact pC⟩
   |ok q=>
    simp only[cz,bj] at pR p1
    simp-implicitDefEqProofs[aa,pR,pV,p3,rS,rS1,rSo,rS4]
    refine⟨sid2,3,⟨rfl,?_,?_,rfl⟩,by rw[Rg (by omega),Rg (by omega)];exact pS,by rw[Rg (by omega),Rg (by omega)];exact pC⟩
    ·cases q<;>rfl
    ·cases q<;>rfl
  ·simp-implicitDefEqProofs[hfl,hn1,hf,hfc,hpL,hnL]
   rw[hst,hnt]
   refine⟨⟨by omega,by omega⟩,⟨by omega,by omega⟩,?_⟩
   refine(call 3 2 _ ⟨rfl,rfl,rfl,by omega⟩ rfl rfl rfl rfl (.inr rfl) (.inl rfl) (by omega)).mono ?_
   rintro z h' ⟨rfl,sid2,nid,uid,uv,w,p1,p2,p3,p4⟩
   have pR:=p1.run
   have pV:=p2.env
   have pS:=p1.said
   have pC:=p1.cells
   simp only[Sb,List.getElem?_cons_zero] at p3
   have rT:∀z,(h'.set 1 z)[1]?=some z:=λz=>Rj (Rd.1 p3).1
   have rS:∀z,(h'.set 4 z)[4]?=some z:=λz=>Rj p1.lt.1
   have rS1:∀z,(h'.set 4 z)[1]?=some (.row 4 [[AV.nils,AV.p (PV.int IntKind.i64 0),AV.p (PV.int IntKind.i64 0),AV.nils]]):=λz=>by rw[Rg (by omega)];exact p3
   have rSo:∀z w,((h'.set 4 z).set 1 w)[1]?=some w:=λz w=>Rj (by rw[RQ];exact(Rd.1 p3).1)
   have rS4:∀z w,((h'.set 4 z).set 1 w)[4]?=some z:=λz w=>by rw[Rg (by omega)];exact rS z
   simp only[aD] at pR
   simp only[bC] at pV
   have q4:=p1.neR.1
   cases r'' with
   |st c=>
    simp only[cz,bj] at pR p1
    simp-implicitDefEqProofs[aa,pR,pV,p3,rT]
    refine⟨sid2,2,⟨rfl,rfl,rfl,rfl⟩,by rw[Rg (by omega)];exact pS,by rw[Rg (by omega)];exact pC⟩
   |ok q=>
    simp only[cz,bj] at pR p1
    simp-implicitDefEqProofs[aa,pR,pV,p3,rS,rS1,rSo,rS4]
    refine⟨sid2,2,⟨rfl,?_,?_,rfl⟩,by rw[Rg (by omega),Rg (by omega)];exact pS,by rw[Rg (by omega),Rg (by omega)];exact pC⟩
    ·cases q<;>rfl
    ·cases q<;>rfl
 refine key.freezeR (λt v h e=>by obtain⟨_,_,e,_⟩:=e;cases e) λv h e=>?_
 obtain⟨sid,cid,e,h1,h2⟩:=e
 cases e
 have hgv:GE5 [f.params.zip us]:=λm hm y hy=>by
  have hz2:(f.params.zip us).map (·.2)=us:=List.map_snd_zip (by omega)
  rw[Rq.1 hm] at hy
  have:=List.mem_map_of_mem (f:=Prod.snd) hy
  rw[hz2] at this
  exact hu _ this
 have hg:=(cG q3 ⟨nS fuel,hgv⟩).1
 have v1:=lz (l:=s'.said) h1
 have v2:=lz (l:=s'.cells) h2
 rw[hg.len] at v2
 exact .tup (.agg (.one v1 (.keep (by simp) (.keep (by simp) (.one v2 .nil)))) (.keep (by simp) .nil)) .nil
end
section
variable (G:aw)
theorem Ov{l:List Fd}(hc:aJ l=0)(hz:bh l<=1073741824)(M fuel:Nat):∀k,PcC G l M k fuel:=by
 intro k
 induction k using Nat.strongRecOn with
 |_ k ih=>
  have hX:∀e,WfE l k e->PxC G l M k fuel e:=λe W=>LR G (λe hop W ihk=>JS G hc hz ih e hop W ihk) e.sz e (Rl _) W
  have key:∀(N:Nat) (xs:List Sm),aH xs<N->(∀x∈xs,∃d,ay d x=true)->aH xs<=1073741824->(∃d,CoS l k d xs)->PbC G l M k fuel xs:=by
   intro N
   induction N with
   |zero=>intro xs h;omega
   |succ N ihN=>
    rintro xs hN hf hzx ⟨d,hco⟩
    refine KV G (by have:=bF xs;omega) λx hx=>?_
    have W:=Hg hf hzx hco hx
    have hxz:=aW hx
    have hse:=x.sz_eq
    have hB:=ihN x.body (by omega) W.body.1 W.body.2.1 W.body.2.2
    by_cases h6:x.op=6
    ·exact MD G W hX hB h6
    ·exact MJ G W hX hB (ihN x.els (by omega) W.els.1 W.els.2.1 W.els.2.2) h6
  refine Mj G hc hz λf hf=>?_
  have hfz:=cS (Ri hf)
  have hfs:f.sz=1+f.name.length+(f.params.length+(f.params.map List.length).sum)+aH f.body:=rfl
  exact key (aH f.body+1) f.body (Nat.lt_succ_self _) (λy hy=>⟨4,(gl hc).2 f (Ri hf) y hy⟩) (by omega) ⟨1,vJ hc hf⟩
def no(l:List Fd)(us:List Int)(fuel:Nat):List AO:=[.row 1 [[.p (fdL l)]],.row 1 [[.p (bG us)]],.row 4 [[.nils,.p (.int .i64 0),.p (.int .i64 0),.nils]],hZ l fuel .nils (s0 fuel),.row 1 [[.ptr 3 20 0 0]],.row 4 [[.nils,.p (.int .i64 0),.p (.int .i64 0),.nils]]]
theorem LO{l:List Fd}{us:List Int}{fuel:Nat}{s':S5}{r:O5 Int}(hc:aJ l=0)(hz:bh l<=1073741824)(hl:0<l.length)(hu:∀n∈us,V5 n)(hfu:fuel<=4000)(hE:Ev l (.cal (l.length-1) us (s0 fuel) s' r)):
 AC Tryz.prog G cI [.ptr 4 1 0 0,.ptr 0 1 0 0,.ptr 1 1 0 0,.ptr 5 4 0 0] (no l us fuel++[.row 1 [[.p (.int .i64 0)]]]) λx h'=>∃sv sid h2,MI 3 l fuel sv sid s' h2/\Fr [3] (no l us fuel++[.row 1 [[.p (.int .i64 0)]]]) h2/\(sid=3\/7<=sid)/\
  (match r with| .ok n=>x= .ret (.tup [])/\h'=h2.set 5 (.row 4 [[.nils,.p (.int .i64 0),.p (.int .i64 n),.nils]])| .st c=>x= .pan bf (.int .i64 c)/\h'=h2):=by
 have hfl:fdL l= .lst 3 (l.map Fd.cs):=rfl
 have hll:l.length<=bh l:=gx l
 have hn1:IntKind.i64.wrap ((l.length:Int)-1)=((l.length-1:Nat):Int):=by rw[ag (by omega) (by omega)];omega
 have hM:MI 3 l fuel .nils 3 (s0 fuel) (no l us fuel++[.row 1 [[.p (.int .i64 0)]]]):=⟨rfl,.nn _ (by simp[no]),Rl _,hfu,by simp[s0]⟩
 refine AC.go oe ?_
 simp-implicitDefEqProofs[iz,no,hfl,hn1]
 rw[←hfl]
 refine(Ov G hc hz 3 fuel (l.length-1) us (s0 fuel) s' r hE hu (nS fuel) (by simp[M5,s0];omega) _ 3 .nils _ hM (.pp us)).mono ?_
 rintro z h2 ⟨rfl,sv,sid,P⟩
 have h5:h2[5]?=some (.row 4 [[.nils,.p (.int .i64 0),.p (.int .i64 0),.nils]]):=(P.fr.2 5 (by simp[no]) (by simp)).trans rfl
 have hsid:sid=3\/7<=sid:=by have:=P.fs;simp[no] at this;exact this
 have hF:Fr [3] (no l us fuel++[.row 1 [[.p (.int .i64 0)]]]) h2:=P.fr.sub λi hi=>by simp at hi;exact .inl (by simp[hi])
 cases r with
 |ok n=>
  simp-implicitDefEqProofs[aa,cD,h5]
  exact⟨sv,sid,h2,P.run,hF,hsid,rfl⟩
 |st c=>
  simp-implicitDefEqProofs[cD]
  exact⟨sv,sid,h2,P.run,hF,hsid,rfl⟩
end
section
variable (G:aw)
end
section
variable (G:aw)
mutual
def Sm.mq:Sm->Nat
 | .mk _ _ a b e=>2+3*fp a+KE b+KE e
def KE:List Sm->Nat
 |[]=>0
 |s::r=>s.mq+KE r
end
def Fd.mq(f:Fd):Nat:=1+f.params.length+KE f.body
end
section
abbrev KF:Nat:=0
def Kd:List PV:=[.int .i64 0,.int .i64 0,.int .i64 0,.int .i64 1,.int .i64 2,.int .i64 3,.int .i64 255,.int .i64 16,.int .i64 7]
variable (G:aw)
theorem Jd(L:List (List PV))(hl:∀x∈L,x.length=1)(hne:L≠[])(hb:L.length<=1048576):AC Tryz.prog G cZ [.p (.lst 1 L)] [] λx h=>x= .ret (.sl 1 1 0 L.length)/\h=[.dead,.row 1 (L.map (·.map .p))]:=by
 obtain⟨x,r,rfl⟩:=List.exists_cons_of_ne_nil hne
 refine AC.go pr ?_
 simp-implicitDefEqProofs[jy]
 simp at hb
 omega
end
section
variable (G:aw)
def trO(x:List Int)(n:Nat):AO:=vX (x.take n)
theorem Ng(x:List Int)(n m:Nat):ee m (trO x n)=trO x n:=by
 simp only[trO,ee,vX,List.map_map];rfl
theorem Hf(x:List Int)(n:Nat)(hn:0<n)(hnx:n<=x.length)(hb:x.length<=1000)(h:List AO):AC Tryz.prog G cZ [.p (.lst 1 (List.take n (x.map λv=>[.int .i64 v])))] h λy h'=>y= .ret (.sl (h.length+1) 1 0 n)/\h'=h++[.dead,trO x n]:=by
 have hl:(List.take n (x.map λv=>[PV.int .i64 v])).length=n:=by rw[RG,RL];omega
 have:=Jd G (List.take n (x.map λv=>[.int .i64 v])) (λy hy=>by obtain⟨_,_,rfl⟩:=RC.1 (RP hy);rfl) (by intro e;rw[e] at hl;simp at hl;omega) (by rw[hl];omega)
 rw[hl] at this
 have e:AO.row 1 ((List.take n (x.map λv=>[PV.int .i64 v])).map (·.map .p))=trO x n:=by
  rw[trO,vX,←List.map_take,List.map_map];rfl
 rw[e] at this
 refine(AC.lift this (by simp) rfl ?_).mono ?_
 ·simp[EK,trO,vX,ty,vH]
  intro y hy
  obtain⟨_,_,rfl⟩:=RC.1 (RP hy)
  rfl
 ·rintro y h' ⟨rfl,rfl⟩
  refine⟨?_,?_⟩
  ·rfl
  ·simp only[RF,List.map_nil,Ng];rfl
variable (hT:G KF=some Kd)
include hT
omit hT
include hT
end
section
variable (G:aw)
def oc(l:List Fd)(fuel:Nat)(s:S5):List PV:=[fdL l,.int .i64 fuel,.int .i64 ((fuel-s.left:Nat):Int),bG s.said]++s.cells.map λn=> .int .i64 n
theorem vD{hF:List AO}{m:Nat}{L:List (Nat × AV)}:∀{l1:List (Nat × AV)},(∀x∈l1,Aw.look L x.1=x.2/\below m x.2)->FzA hF m L l1
 |[],_=>trivial
 |x::r,h=>⟨by obtain⟨q1,q2⟩:=h x (by simp);rw[q1];exact .keep q2 .nil,vD λy hy=>h y (by simp[hy])⟩
theorem MA{l:List Fd}{fuel:Nat}{sv:AV}{sid:Nat}{s:S5}{h:List AO}{r2 r5:AO}{n:Nat}(H:MI 3 l fuel sv sid s h)(h2:h[2]?=some r2)(h4:h[4]?=some (.row 1 [[.ptr 3 20 0 0]]))(h5:h[5]?=some r5)(k2:okO h.length r2)(k5:okO h.length r5)(hs:sid=3\/7<=sid)
 {l1:List (Nat × AV)}(hl:∀x∈l1,below h.length x.2)(hl1:∀x∈l1,Aw.look l1 x.1=x.2):
 ∃h',(∀L,(∀x∈l1,Aw.look L x.1=x.2)->Wk 0 (af n L) h (af n l1) h')/\h'.length=h.length/\h'[2]?=some r2/\h'[4]?=some (.row 1 [[.eptr (oc l fuel s) 0]])/\h'[5]?=some r5:=by
 have hl3:=H.lt
 have hl5:=(Rd.1 h5).1
 have hm:=H.men
 obtain⟨X,hX⟩:∃X:Nat->AO->AO,X=λi o=>if i=sid/\sid≠3 then o else .dead:=⟨_,rfl⟩
 obtain⟨Y,hY⟩:∃Y:Nat->AO->AO,Y=λi o=>if i=3 then .row 20 [(oc l fuel s).map .p] else if i=2\/i=4\/i=5 then o else .dead:=⟨_,rfl⟩
 have hF1:View (h.mapIdx X) sv (bG s.said):=by
  have hsd:=H.said
  have hne:=H.neS
  generalize s.said=xs at hsd
  cases hsd with
  |nn _ _=>exact .nils _
  |ss _ _ q=>
   have hn3:sid≠3:=λe=>hne (by simp) e.symm
   exact lz (by rw[List.getElem?_mapIdx,q,hX];simp[hn3,aS,vX])
 have hcs:∀xs:List Int,Fzs (h.mapIdx X) h.length (xs.map λn=> .p (.int .i64 n)) (xs.map λn=> .p (.int .i64 n)):=λxs=>by
  induction xs with
  |nil=>exact .nil
  |cons x r ih=>exact .keep (by simp[below]) ih
 have eX:∀i o,X i o=if i=sid/\sid≠3 then o else .dead:=λ_ _=>by rw[hX]
 have eY:∀i o,Y i o=if i=3 then .row 20 [(oc l fuel s).map .p] else if i=2\/i=4\/i=5 then o else .dead:=λ_ _=>by rw[hY]
 have t1:Thn (h.mapIdx X) h.length h (h.mapIdx X) (h.mapIdx Y):=zY h X Y λi o hi=>by
  by_cases i3:i=3
  ·subst i3
   rw[hm] at hi
   cases hi
   refine .inr (.inr (.inr ⟨by rw[eX,if_neg (by omega)],20,_,(oc l fuel s).map .p,rfl,by rw[eY,if_pos rfl],?_⟩))
   simp only[oc,List.map_append,RF,List.map_nil,List.map_map]
   exact .keep (by simp[below]) (.keep (by simp[below]) (.keep (by simp[below]) (.one hF1 (hcs s.cells))))
  by_cases i2:i=2\/i=4\/i=5
  ·refine .inl ⟨by rw[eX,if_neg (by omega)],by rw[eY,if_neg i3,if_pos i2],?_⟩
   rcases i2 with rfl|rfl|rfl
   ·rw[h2] at hi;cases hi;exact k2
   ·rw[h4] at hi;cases hi;simp[okO,below,ah];omega
   ·rw[h5] at hi;cases hi;exact k5
  by_cases is:i=sid/\sid≠3
  ·exact .inr (.inr (.inl ⟨by rw[eX,if_pos is],by rw[eY,if_neg i3,if_neg i2]⟩))
  ·exact .inr (.inl ⟨by rw[eX,if_neg is],by rw[eY,if_neg i3,if_neg i2]⟩)
 have w1:∀L,(∀x∈l1,Aw.look L x.1=x.2)->Wk 0 (af n L) h (af n l1) (h.mapIdx Y):=λL hL=>BY (Sk _) t1 (vD λx hx=>⟨hL x hx,hl x hx⟩)
 have g:∀i o,h[i]?=some o->(h.mapIdx Y)[i]?=some (Y i o):=λi o q=>by rw[List.getElem?_mapIdx,q];rfl
 have hlen:(h.mapIdx Y).length=h.length:=List.length_mapIdx
 generalize h.mapIdx Y=h1 at w1 g hlen
 have g3:h1[3]?=some (.row 20 [(oc l fuel s).map .p]):=by rw[g 3 _ hm,eY,if_pos rfl]
 have g2:h1[2]?=some r2:=by rw[g 2 _ h2,eY,if_neg (by omega),if_pos (by omega)]
 have g4:h1[4]?=some (.row 1 [[.ptr 3 20 0 0]]):=by rw[g 4 _ h4,eY,if_neg (by omega),if_pos (by omega)]
 have g5:h1[5]?=some r5:=by rw[g 5 _ h5,eY,if_neg (by omega),if_pos (by omega)]
 obtain⟨X2,hX2⟩:∃X:Nat->AO->AO,X=λi o=>if i=3 then o else .dead:=⟨_,rfl⟩
 obtain⟨Y2,hY2⟩:∃Y:Nat->AO->AO,Y=λi o=>if i=4 then .row 1 [[.eptr (oc l fuel s) 0]] else if i=2\/i=5 then o else .dead:=⟨_,rfl⟩
 have eX2:∀i o,X2 i o=if i=3 then o else .dead:=λ_ _=>by rw[hX2]
 have eY2:∀i o,Y2 i o=if i=4 then .row 1 [[.eptr (oc l fuel s) 0]] else if i=2\/i=5 then o else .dead:=λ_ _=>by rw[hY2]
 have f3:(h1.mapIdx X2)[3]?=some (.row 20 [(oc l fuel s).map .p]):=by rw[List.getElem?_mapIdx,g3];simp[eX2]
 have t2:Thn (h1.mapIdx X2) h1.length h1 (h1.mapIdx X2) (h1.mapIdx Y2):=zY h1 X2 Y2 λi o hi=>by
  by_cases i4:i=4
  ·subst i4
   rw[g4] at hi
   cases hi
   exact .inr (.inr (.inr ⟨by rw[eX2,if_neg (by omega)],1,_,_,rfl,by rw[eY2,if_pos rfl],.ptr f3 rfl .nil⟩))
  by_cases i2:i=2\/i=5
  ·refine .inl ⟨by rw[eX2,if_neg (by omega)],by rw[eY2,if_neg i4,if_pos i2],?_⟩
   rw[hlen]
   rcases i2 with rfl|rfl
   ·rw[g2] at hi;cases hi;exact k2
   ·rw[g5] at hi;cases hi;exact k5
  by_cases i3:i=3
  ·exact .inr (.inr (.inl ⟨by rw[eX2,if_pos i3],by rw[eY2,if_neg i4,if_neg i2]⟩))
  ·exact .inr (.inl ⟨by rw[eX2,if_neg i3],by rw[eY2,if_neg i4,if_neg i2]⟩)
 have w2:Wk 0 (af n l1) h1 (af n l1) (h1.mapIdx Y2):=BY (Sk _) t2 (vD λx hx=>⟨hl1 x hx,by rw[hlen];exact hl x hx⟩)
 refine⟨_,λL hL=>(w1 L hL).trans w2,by rw[List.length_mapIdx,hlen],?_,?_,?_⟩
 ·rw[List.getElem?_mapIdx,g2];simp[eY2]
 ·rw[List.getElem?_mapIdx,g4];simp[eY2]
 ·rw[List.getElem?_mapIdx,g5];simp[eY2]
theorem Kk(l:List Fd)(us:List Int)(fuel:Nat):no l us fuel=[.row 1 [[.p (fdL l)]],.row 1 [[.p (bG us)]],.row 4 [[.nils,.p (.int .i64 0),.p (.int .i64 0),.nils]],.row 20 [[.p (fdL l),.p (.int .i64 fuel),.p (.int .i64 0),.nils,.p (.int .i64 0),.p (.int .i64 0),.p (.int .i64 0),.p (.int .i64 0),.p (.int .i64 0),.p (.int .i64 0),.p (.int .i64 0),.p (.int .i64 0),.p (.int .i64 0),.p (.int .i64 0),.p (.int .i64 0),.p (.int .i64 0),.p (.int .i64 0),.p (.int .i64 0),.p (.int .i64 0),.p (.int .i64 0)]],.row 1 [[.ptr 3 20 0 0]],.row 4 [[.nils,.p (.int .i64 0),.p (.int .i64 0),.nils]]]:=by
 simp[no,hZ,s0,List.replicate]
theorem rU:AK.whole fH=FK.ak fy:=rfl
theorem AR{l:List Fd}{us:List Int}{fuel:Nat}{s':S5}{r:O5 Int}(hc:aJ l=0)(hz:bh l<=1073741824)(hl:0<l.length)(hu:∀n∈us,V5 n)(hfu:fuel<=4000)(hE:Ev l (.cal (l.length-1) us (s0 fuel) s' r)):
 VF Tryz.prog G dw [.agg [.p (fdL l)],.p (bG us),.p (.int .i64 fuel)] (.tup [.agg ((FL s' r).map .p),.p (.int .i64 ((fuel-s'.left:Nat):Int))]):=by
 have key:AC Tryz.prog G dw [.agg [.p (fdL l)],.p (bG us),.p (.int .i64 fuel)] [] λx h=>∃sv cid,x= .ret (.tup [.agg [sv,.p (.int .i64 (bj r)),.p (.int .i64 (Fo r)),.sl cid 1 0 16],.p (.int .i64 ((fuel-s'.left:Nat):Int))])/\View h sv (bG s'.said)/\h[cid]?=some (vX s'.cells):=by
  refine AC.goK rf rU ?_
  simp-implicitDefEqProofs[fH,fy]
  rw[←Kk]
  refine yZ (λ_:List AO=>af 33 [(6,.ptr 2 4 0 0),(7,.p (.int .i64 0)),(8,.ptr 4 1 0 0),(9,.ptr 5 4 0 0)]) (λh=>h)
   (λh=>s'.cells.length=16/\h[2]?=some (.row 4 [[.nils,.p (.int .i64 0),.p (.int .i64 0),.nils]])/\h[4]?=some (.row 1 [[.eptr (oc l fuel s') 0]])/\h[5]?=some (.row 4 [[.nils,.p (.int .i64 (bj r)),.p (.int .i64 (Fo r)),.nils]])) ?_ ?_
  ·simp-implicitDefEqProofs[]
   refine(HY G cI [.ptr 4 1 0 0,.ptr 0 1 0 0,.ptr 1 1 0 0,.ptr 5 4 0 0] (no l us fuel) (λx h'=>∃h2 sv sid,x= .ret (.p (.int .i64 (bj r)))/\MI 3 l fuel sv sid s' h'/\(sid=3\/7<=sid)/\h'[2]?=some (.row 4 [[.nils,.p (.int .i64 0),.p (.int .i64 0),.nils]])/\h'[4]?=some (.row 1 [[.ptr 3 20 0 0]])/\h'[5]?=some (.row 4 [[.nils,.p (.int .i64 0),.p (.int .i64 (Fo r)),.nils]])/\h2=h') ?_).mono ?_
   ·refine(LO G hc hz hl hu hfu hE).mono ?_
    rintro x h' ⟨sv,sid,h2,q1,q2,q3,q4⟩
    have e6:h2[6]?=some (.row 1 [[.p (.int .i64 0)]]):=(q2.2 6 (by simp[no]) (by simp)).trans rfl
    have e2:h2[2]?=some (.row 4 [[.nils,.p (.int .i64 0),.p (.int .i64 0),.nils]]):=(q2.2 2 (by simp[no]) (by simp)).trans rfl
    have e4:h2[4]?=some (.row 1 [[.ptr 3 20 0 0]]):=(q2.2 4 (by simp[no]) (by simp)).trans rfl
    have e5:h2[5]?=some (.row 4 [[.nils,.p (.int .i64 0),.p (.int .i64 0),.nils]]):=(q2.2 5 (by simp[no]) (by simp)).trans rfl
    have hl6:=(Rd.1 e6).1
    have hlen:(no l us fuel).length=6:=by simp[no]
    rw[hlen]
    cases r with
    |ok n=>
     obtain⟨rfl,rfl⟩:=q4
     refine⟨0,.inl ⟨rfl,rfl⟩,by rw[Rg (by omega)];exact e6,_,sv,sid,rfl,q1.frame (by simp) (by rw[Rg (by omega),Rg (by omega)]) (by rw[Rg (by omega),Rg (by omega)]),q3,?_,?_,?_,rfl⟩
     ·rw[Rg (by omega),Rg (by omega)];exact e2
     ·rw[Rg (by omega),Rg (by omega)];exact e4
     ·rw[Rg (by omega),Rj (by omega)];rfl
    |st c=>
     obtain⟨rfl,rfl⟩:=q4
     refine⟨c,.inr rfl,e6,_,sv,sid,rfl,q1.frame (by simp) (by rw[Rg (by omega)]) (by rw[Rg (by omega)]),q3,?_,?_,?_,rfl⟩
     ·rw[Rg (by omega)];exact e2
     ·rw[Rg (by omega)];exact e4
     ·rw[Rg (by omega)];exact e5
   ·rintro z h' ⟨h2,sv,sid,rfl,q1,q2,q3,q4,q5,rfl⟩
    simp-implicitDefEqProofs[aa,q5]
    have hl5:=(Rd.1 q5).1
    have hH:=q1.frame (h':=h2.set 5 (.row 4 [[.nils,.p (.int .i64 (bj r)),.p (.int .i64 (Fo r)),.nils]])) (by simp) (by rw[Rg (by omega)]) (by rw[Rg (by omega)])
    obtain⟨h3,w1,w2,w3,w4,w5⟩:=MA (n:=33) (l1:=[(6,.ptr 2 4 0 0),(7,.p (.int .i64 0)),(8,.ptr 4 1 0 0),(9,.ptr 5 4 0 0)]) hH ((Rg (by omega)).trans q3) ((Rg (by omega)).trans q4) (Rj hl5) (by simp[okO,below,ah]) (by simp[okO,below,ah]) q2
     (by simp[below];omega) (by simp)
    exact⟨h3,⟨q1.len,w3,w4,w5⟩,w1 _ (by simp)⟩
  ·rintro h ⟨qc,q2,q4,q5⟩
   have hch:(bJ 1 (oc l fuel s') 4 16)=s'.cells.map λn=>[.int .i64 n]:=by
    unfold oc
    generalize s'.cells=cs at qc
    match cs,qc with
    |[c0,c1,c2,c3,c4,c5,c6,c7,c8,c9,c10,c11,c12,c13,c14,c15],_=>rfl
   have hml:(oc l fuel s').length=20:=by simp[oc,qc]
   have hm2:∀q,(oc l fuel s')[2]'q= .int .i64 ((fuel-s'.left:Nat):Int):=λ_=>rfl
   have hm3:∀q,(oc l fuel s')[3]'q=bG s'.said:=λ_=>rfl
   have hcl:=Hf G s'.cells 16 (by omega) (by omega) (by omega) h
   rw[trO,Rp (l:=s'.cells) (by omega)] at hcl
   have hl5:=(Rd.1 q5).1
   have a5:∀os,(h++os)[5]?=_:=λos=>(Rh hl5).trans q5
   have a4:∀os,(h++os)[4]?=_:=λos=>(Rh (by omega)).trans q4
   have a2:∀os,(h++os)[2]?=_:=λos=>(Rh (by omega)).trans q2
   simp-implicitDefEqProofs[q2,q4,q5, ↓hch,hml,hm2,hm3]
   refine hcl.mono ?_
   rintro z h' ⟨rfl,rfl⟩
   have s55:∀os z,((h++os).set 5 z)[5]?=some z:=λos z=>Rj (by simp;omega)
   have s54:∀os z,((h++os).set 5 z)[4]?=_:=λos z=>(Rg (by omega)).trans (a4 os)
   have s52:∀os z,((h++os).set 5 z)[2]?=_:=λos z=>(Rg (by omega)).trans (a2 os)
   have s22:∀os z w,(((h++os).set 5 z).set 2 w)[2]?=some w:=λos z w=>Rj (by simp;omega)
   have s24:∀os z w,(((h++os).set 5 z).set 2 w)[4]?=_:=λos z w=>(Rg (by omega)).trans (s54 os z)
   simp-implicitDefEqProofs[aa, ↓a5, ↓a4, ↓a2, ↓s55, ↓s54, ↓s52, ↓s22, ↓s24,hm2,hm3,hml]
   refine⟨_,_,⟨rfl,rfl⟩,.p _,?_⟩
   rw[Rg (by omega),Rg (by omega),Ro (by omega)]
   simp
 refine key.freezeR (λt v h e=>by obtain⟨_,_,e,_⟩:=e;cases e) λv h e=>?_
 obtain⟨sv,cid,e,h1,h2⟩:=e
 cases e
 have v2:=lz (l:=s'.cells) h2
 have hlc:s'.cells.length=16:=(cG hE ⟨nS fuel,hu⟩).1.len
 rw[hlc] at v2
 exact .tup (.agg (.one h1 (.keep (by simp) (.keep (by simp) (.one v2 .nil)))) (.keep (by simp) .nil)) .nil
end
section
variable (G:aw)
theorem BZ(n:Int):VF Tryz.prog G bV [.p (.int .i64 n)] (.p (.bool (!inR n 0 255))):=by
 refine AC.go sE ?_
 simp-implicitDefEqProofs[lb]
 refine(Bj G n).use ?_
 simp-implicitDefEqProofs[]
def tw(us:List Int):Option Nat:=us.findIdx? λn=> !inR n 0 255
theorem Ed(us:List Int)(hl:us.length<=1000000000000):VF Tryz.prog G dc [.p (bG us),.fn (.func bV) []] (.p (.int .i64 (ixI (tw us)))):=by
 have hnL:bG us= .lst 1 (us.map λn=>[.int .i64 n]):=rfl
 refine AC.go lG ?_
 simp-implicitDefEqProofs[fM,hnL]
 refine aF (λi:Nat=>af 19 [(8,.p (.int .i64 i)),(7,.p (.int .i64 us.length)),(0,.p (.lst 1 (us.map λn=>[.int .i64 n]))),(1,.fn (.func bV) [])]) (λ_=>[]) (λi=>i<=us.length/\∀n∈us.take i,inR n 0 255=true) (λi=>us.length-i) 0 (by simp) ?_ ?_
 ·exact aE rfl (by simp[below])
 intro i ⟨hi,hn⟩
 have hwi:=w1 (i:=i) (by omega)
 by_cases h1:i<us.length
 ·have hg:us[i]?=some us[i]:=Re h1
  simp-implicitDefEqProofs[h1,hg]
  refine(BZ G us[i]).use ?_
  cases hb:inR us[i] 0 255 with
  |false=>
   have hf:tw us=some i:=by
    rw[tw,Ru]
    exact⟨h1,by simp[hb],λj hj=>by have:=hn us[j] (Sc.2 ⟨j,by omega,rfl⟩);simp[this]⟩
   simp-implicitDefEqProofs[hf,ixI]
  |true=>
   simp-implicitDefEqProofs[hwi]
   refine⟨i+1,⟨by omega,λp hp=>?_⟩,by omega,aE rfl (by simp[below])⟩
   rw[aj h1] at hp
   rcases Rr.1 hp with hp|hp
   ·exact hn p hp
   ·rw[Rq.1 hp];exact hb
 ·have hie:i=us.length:=by omega
  subst hie
  rw[Sj] at hn
  have hf:tw us=none:=by
   rw[tw,RJ]
   intro x hx
   simp[hn x hx]
  simp-implicitDefEqProofs[hf,ixI]
theorem Ip(us:List Int)(hl:us.length<=1000000000000):VF Tryz.prog G cm [.p (bG us),.fn (.func bV) []] (.p (.bool (!us.all λv=>inR v 0 255))):=by
 refine AC.go jH ?_
 simp-implicitDefEqProofs[dU]
 refine(Ed G us hl).use ?_
 simp-implicitDefEqProofs[]
 cases hb:tw us with
 |none=>
  have:(us.all λv=>inR v 0 255)=true:=by
   rw[tw,RJ] at hb
   rw[Rk]
   intro x hx
   simpa using hb x hx
  rw[this];simp[ixI]
 |some i=>
  have:(us.all λv=>inR v 0 255)=false:=by
   rw[tw,Ru] at hb
   obtain⟨h1,h2,_⟩:=hb
   rw[List.all_eq_false]
   exact⟨us[i],Rt h1,by simpa using h2⟩
  rw[this];simp[ixI]
def nw(us:List Int)(n:Nat):Bool:=decide (us.length=n)&&us.all λv=>inR v 0 255
theorem Gq(us:List Int)(n:Nat)(hl:us.length<=1000000000000):VF Tryz.prog G ju [.p (bG us),.p (.int .i64 n)] (.p (.bool (nw us n))):=by
 have hnL:bG us= .lst 1 (us.map λn=>[.int .i64 n]):=rfl
 refine AC.go vo ?_
 by_cases h:us.length=n
 ·have h':(us.length:Int)=(n:Int):=by omega
  simp-implicitDefEqProofs[iY,hnL,h']
  rw[←hnL]
  refine(Ip G us hl).use ?_
  simp-implicitDefEqProofs[nw,h]
 ·have h':¬(us.length:Int)=(n:Int):=by omega
  simp-implicitDefEqProofs[iY,hnL,h',nw,h]
def ja(l:List Fd)(us:List Int):Bool:=decide (aJ l=0)&&(match l[l.length-1]? with|some f=>nw us f.params.length|none=>false)
variable (hK:G ip=some gw) (hS:G dJ=some [.tbl opK opV])
include hK hS
theorem Ck(l:List Fd)(us:List Int)(hz:bh l<=1073741824)(hl:us.length<=1000000000000):VF Tryz.prog G kJ [.agg [.p (fdL l)],.p (bG us)] (.p (.bool (ja l us))):=by
 have hfl:fdL l= .lst 3 (l.map Fd.cs):=rfl
 have hll:l.length<=bh l:=gx l
 refine AC.go yQ ?_
 simp-implicitDefEqProofs[oI]
 refine(LS G hK hS l hz).use ?_
 by_cases hc:aJ l=0
 ·have h0:0<l.length:=by have:=(gl hc).1;cases l<;>simp_all
  have hn1:IntKind.i64.wrap ((l.length:Int)-1)=((l.length-1:Nat):Int):=by rw[ag (by omega) (by omega)];omega
  have hg:l[l.length-1]?=some l[l.length-1]:=Re (by omega)
  generalize l[l.length-1]=f at hg
  have hfc:f.cs=[.str f.name,aB f.params,smL f.body]:=rfl
  have hpL:aB f.params= .lst 1 (f.params.map λw=>[.str w]):=rfl
  simp-implicitDefEqProofs[hc,hfl,hn1,hg,hfc,hpL]
  refine(Gq G us f.params.length hl).use ?_
  simp-implicitDefEqProofs[ja,hc,hg]
 ·simp-implicitDefEqProofs[hc,ja]
end
section
variable (G:aw)
variable (hK:G ip=some gw) (hS:G dJ=some [.tbl opK opV])
include hK hS
theorem Fq{l:List Fd}{us:List Int}(hz:bh l<=1073741824)(hl:us.length<=1000000000000)(ho:ja l us=false):VF Tryz.prog G eG [.agg [.p (fdL l)],.p (bG us)] (.p (.int .i64 (-1))):=by
 refine AC.go oL ?_
 simp-implicitDefEqProofs[ku]
 refine(Ck G hK hS l us hz hl).use ?_
 simp-implicitDefEqProofs[ho]
theorem GB{l:List Fd}{us:List Int}{s':S5}{r:O5 Int}(hz:bh l<=1073741824)(hl:us.length<=1000000000000)(ho:ja l us=true)(hc:aJ l=0)(h0:0<l.length)(hu:∀n∈us,V5 n)(hE:Ev l (.cal (l.length-1) us (s0 4000) s' r)):
 VF Tryz.prog G eG [.agg [.p (fdL l)],.p (bG us)] (.p (.int .i64 (if bj r=3 then-1 else((4000-s'.left:Nat):Int)))):=by
 refine AC.go oL ?_
 simp-implicitDefEqProofs[ku]
 refine(Ck G hK hS l us hz hl).use ?_
 simp-implicitDefEqProofs[ho]
 refine(AR G hc hz h0 hu (Rl _) hE).use ?_
 by_cases h3:bj r=3
 ·simp-implicitDefEqProofs[FL,h3]
 ·simp-implicitDefEqProofs[FL,h3]
end
section
variable (G:aw)
theorem DY(us:List Int)(hl:us.length<=1000000000000):VF Tryz.prog G iq [.p (bG us)] (.p (.bool (us.all λv=>inR v 0 255))):=by
 have hnL:bG us= .lst 1 (us.map λn=>[.int .i64 n]):=rfl
 refine AC.go tT ?_
 simp-implicitDefEqProofs[ma,hnL]
 refine aF (λi:Nat=>af 16 [(3,.p (.int .i64 i)),(0,.p (.lst 1 (us.map λn=>[.int .i64 n])))]) (λ_=>[]) (λi=>i<=us.length/\∀n∈us.take i,inR n 0 255=true) (λi=>us.length-i) 0 (by simp) ?_ ?_
 ·exact aE rfl (by simp[below])
 intro i ⟨hi,hn⟩
 have hwi:=w1 (i:=i) (by omega)
 by_cases h1:i<us.length
 ·have hg:us[i]?=some us[i]:=Re h1
  simp-implicitDefEqProofs[h1,hg]
  refine(sN G us[i] 0 255).use ?_
  cases hb:inR us[i] 0 255 with
  |false=>
   have hf:(us.all λv=>inR v 0 255)=false:=by
    rw[List.all_eq_false]
    exact⟨us[i],Rt h1,by simp[hb]⟩
   simp-implicitDefEqProofs[hf]
  |true=>
   simp-implicitDefEqProofs[hwi]
   refine⟨i+1,⟨by omega,λp hp=>?_⟩,by omega,aE rfl (by simp[below])⟩
   rw[aj h1] at hp
   rcases Rr.1 hp with hp|hp
   ·exact hn p hp
   ·rw[Rq.1 hp];exact hb
 ·have hie:i=us.length:=by omega
  subst hie
  rw[Sj] at hn
  have hf:(us.all λv=>inR v 0 255)=true:=by
   rw[Rk];exact hn
  simp-implicitDefEqProofs[hf]
theorem BE(l:List Fd)(us:List Int)(hz:bh l<=1073741824)(hl:us.length<=1000000000000):VF Tryz.prog G kL [.agg [.p (fdL l)],.p (bG us)] (.p (.bool (ja l us))):=by
 have hfl:fdL l= .lst 3 (l.map Fd.cs):=rfl
 have hnL:bG us= .lst 1 (us.map λn=>[.int .i64 n]):=rfl
 have hll:l.length<=bh l:=gx l
 refine AC.go yA ?_
 simp-implicitDefEqProofs[oY]
 refine(Hp G l hz).use ?_
 by_cases hc:aJ l=0
 ·have h0:0<l.length:=by have:=(gl hc).1;cases l<;>simp_all
  have hn1:IntKind.i64.wrap ((l.length:Int)-1)=((l.length-1:Nat):Int):=by rw[ag (by omega) (by omega)];omega
  have hg:l[l.length-1]?=some l[l.length-1]:=Re (by omega)
  generalize l[l.length-1]=f at hg
  have hfc:f.cs=[.str f.name,aB f.params,smL f.body]:=rfl
  have hpL:aB f.params= .lst 1 (f.params.map λw=>[.str w]):=rfl
  simp-implicitDefEqProofs[hc]
  refine(DY G us hl).use ?_
  cases hb:(us.all λv=>inR v 0 255) with
  |false=>simp-implicitDefEqProofs[ja,nw,hc,hg,hb]
  |true=>
   by_cases hq:us.length=f.params.length
   ·have hq':(us.length:Int)=(f.params.length:Int):=by omega
    simp-implicitDefEqProofs[hfl,hnL,hn1,hg,hfc,hpL,ja,nw,hc,hb,hq,hq']
   ·have hq':¬(us.length:Int)=(f.params.length:Int):=by omega
    simp-implicitDefEqProofs[hfl,hnL,hn1,hg,hfc,hpL,ja,nw,hc,hb,hq,hq']
 ·simp-implicitDefEqProofs[hc,ja]
theorem FV{l:List Fd}{us:List Int}(hz:bh l<=1073741824)(hl:us.length<=1000000000000)(ho:ja l us=false):VF Tryz.prog G eK [.agg [.p (fdL l)],.p (bG us)] (.p (.int .i64 (-1))):=by
 refine AC.go oH ?_
 simp-implicitDefEqProofs[kK]
 refine(BE G l us hz hl).use ?_
 simp-implicitDefEqProofs[ho]
theorem Fj{l:List Fd}{f:Fd}{us:List Int}{s':S5}{r:O5 Int}(hz:bh l<=1073741824)(hl:us.length<=1000000000000)(ho:ja l us=true)(hc:aJ l=0)(hf:l[l.length-1]?=some f)(hp:us.length=f.params.length)(hu:∀n∈us,V5 n)(hE:Ev l (.cal (l.length-1) us (s0 4000) s' r))(hle:s'.left<=4000):
 VF Tryz.prog G eK [.agg [.p (fdL l)],.p (bG us)] (.p (.int .i64 (if bj r=3 then-1 else((4000-s'.left:Nat):Int)))):=by
 have hn1:IntKind.i64.wrap (4000-(s'.left:Int))=((4000-s'.left:Nat):Int):=by rw[ag (by omega) (by omega)];omega
 refine AC.go oH ?_
 simp-implicitDefEqProofs[kK]
 refine(BE G l us hz hl).use ?_
 simp-implicitDefEqProofs[ho]
 refine(MW G hc hz hf hp hu (Rl _) hE).use ?_
 by_cases h3:bj r=3
 ·simp-implicitDefEqProofs[FL,h3]
 ·simp-implicitDefEqProofs[FL,h3,hn1]
end
section
variable (G:aw)
theorem FZ(xs:List Int)(hb:xs.length<=1048576):VF Tryz.prog G kM [.p (bG xs),.p (bG xs)] (.p (.bool true)):=by
 refine AC.go yC ?_
 have hsl:∀l,bG l= .lst 1 (l.map λw=>[.int .i64 w]):=λ_=>rfl
 simp-implicitDefEqProofs[pa,hsl]
 refine aF (λi:Nat=>af 26 [(0,.p (bG xs)),(1,.p (bG xs)),(5,.p (.int .i64 i))]) (λ_=>[]) (λi=>i<=xs.length) (λi=>xs.length-i) 0 (by simp) ?_ ?_
 ·exact aE rfl (by simp[below,bG])
 intro i hi
 simp-implicitDefEqProofs[hsl]
 refine bx (λh1=>?_) (λh1=>?_)
 ·simp at h1
  have hg:xs[i]?=some xs[i]:=Re h1
  generalize xs[i]=x at hg
  simp-implicitDefEqProofs[hg]
  refine⟨i+1,by omega,by omega,aE rfl ?_⟩
  simp[below,bG,w1 (i:=i) (by omega)]
 ·simp at h1
  simp-implicitDefEqProofs[]
end
section
variable (G:aw)
def lw(l:List Int)(i:Nat):List Int:=l.take i++List.replicate (l.length-i) 0
theorem FC{l:List Int}{i:Nat}(h:i<l.length):(lw l i).set i l[i]=lw l (i+1):=by
 have hl:(l.take i).length=i:=by simp;omega
 have e:l.length-i=(l.length-(i+1))+1:=by omega
 show(l.take i++List.replicate (l.length-i) 0).set i l[i]=l.take (i+1)++List.replicate (l.length-(i+1)) 0
 rw[List.set_append_right _ _ (by omega),hl,Nat.sub_self,e,List.replicate_succ,List.set_cons_zero,aj h,RT]
 rfl
theorem Gi{l:List Int}{i:Nat}(h:i<l.length):(lw l i)[i]?=some 0:=by
 have hl:(l.take i).length=i:=by simp;omega
 rw[lw,Ro (by omega),hl,Nat.sub_self,List.getElem?_replicate,if_pos (by omega)]
theorem Gm{l:List Int}{i:Nat}(h:i<=l.length):(lw l i).length=l.length:=by simp[lw];omega
theorem Is(l:List Int)(hb:l.length<=1048576):AC Tryz.prog G dm [.p (bG l)] [] λx h=>x= .ret (.sl 0 1 0 l.length)/\h=[vX l]:=by
 refine AC.go yz ?_
 have hbl:bG l= .lst 1 (l.map λn=>[.int .i64 n]):=rfl
 simp-implicitDefEqProofs[oO,hbl]
 refine⟨by omega,?_⟩
 refine aF (λi:Nat=>af 22 [(0,.p (bG l)),(3,.sl 0 1 0 l.length),(4,.p (.int .i64 i))]) (λi=>[vX (lw l i)]) (λi=>i<=l.length) (λi=>l.length-i) 0 (by simp) ?_ ?_
 ·refine dE [0] rfl (by simp) (bD (by simp[lw]) (by simp) cY) ?_
  simp[below,ren,bG]
 ·intro i hi
  have hlen:=Gm hi
  simp-implicitDefEqProofs[hbl]
  refine bx (λh1=>?_) (λh1=>?_)
  ·simp at h1
   have hg:=Re h1
   have hg2:=Gi h1
   have hset:((lw l i).map λn=>[AV.p (.int .i64 n)]).set i [.p (.int .i64 l[i])]=(lw l (i+1)).map λn=>[AV.p (.int .i64 n)]:=by rw[←FC h1,List.map_set]
   have hbo:vX (lw l i)= .row 1 ((lw l i).map λn=>[.p (.int .i64 n)]):=rfl
   clear hlen
   simp-implicitDefEqProofs[hg,hbo,hg2,h1,hset]
   refine⟨i+1,h1,by omega,dE [0] rfl (by simp) (bD rfl (by simp) cY) ?_⟩
   simp[below,ren,bG,w1 (i:=i) (by omega)]
  ·simp at h1
   have:i=l.length:=by omega
   subst this
   simp-implicitDefEqProofs[lw]
theorem JG(l:List Int)(hb:l.length<=1048576):VF Tryz.prog G dm [.p (bG l)] (.p (bG l)):=AC.freeze (Is G l hb) (.one (lz rfl) .nil)
variable (hK:G ip=some gw) (hS:G dJ=some [.tbl opK opV])
theorem Gf{l:List Fd}{us:List Int}(h:ja l us=true):aJ l=0/\0<l.length/\(∃f,l[l.length-1]?=some f/\us.length=f.params.length)/\∀n∈us,V5 n:=by
 simp only[ja,Rv,decide_eq_true_eq] at h
 obtain⟨h1,h2⟩:=h
 refine⟨h1,by have:=(gl h1).1;cases l<;>simp_all,?_⟩
 split at h2
 ·rename_i f hf
  simp only[nw,Rv,decide_eq_true_eq,Rk] at h2
  exact⟨⟨f,hf,h2.1⟩,λn hn=>by have:=h2.2 n hn;simpa[inR,V5] using this⟩
 ·cases h2
include hK hS
theorem CP(l:List Fd)(hf:Ml l)(us:List Int):VF Tryz.prog G gW [.agg [.p (fdL l)],.p (bG us)] (.p (.bool true)):=by
 have hnL:bG us= .lst 1 (us.map λn=>[.int .i64 n]):=rfl
 refine AC.go nk ?_
 have hsz:=Cu G l hf 1048576 (Rl _)
 have hsz':VF Tryz.prog G dT [.agg [.p (fdL l)],.p (.int .i64 1048576)] (.p (.int .i64 (bu 1048576 (bh l)))):=hsz
 by_cases hu:(us.length:Int)>1048576
 ·simp-implicitDefEqProofs[dD,hnL,hu]
 have hub:us.length<=1048576:=by omega
 have hul:us.length<=1000000000000:=by omega
 simp-implicitDefEqProofs[dD,hnL,hu]
 rw[←hnL]
 refine hsz'.use ?_
 by_cases hz:bh l<=1048576
 case neg=>
  rw[bn hz]
  simp-implicitDefEqProofs[]
 have hto:=BM G l hz
 have hnn:¬((1048576-bh l:Nat):Int)<0:=by omega
 have hti:=JG G us hub
 rw[dp hz]
 obtain⟨n,hs,hi⟩:∃n:Int,VF Tryz.prog G eK [.agg [.p (fdL l)],.p (bG us)] (.p (.int .i64 n))/\VF Tryz.prog G eG [.agg [.p (fdL l)],.p (bG us)] (.p (.int .i64 n)):=by
  cases ho:ja l us with
  |false=>exact⟨-1,FV G (by omega) hul ho,Fq G hK hS (by omega) hul ho⟩
  |true=>
   obtain⟨hc,h0,⟨f,hf1,hf2⟩,hv⟩:=Gf ho
   obtain⟨s',r,hE,_,hle,_⟩:=QK hc hf1 hf2 hv 4000
   exact⟨_,Fj G (by omega) hul ho hc hf1 hf2 hv hE hle,GB G hK hS (by omega) hul ho hc h0 hv hE⟩
 simp-implicitDefEqProofs[hnn]
 refine hto.use ?_
 simp-implicitDefEqProofs[]
 refine hti.use ?_
 simp-implicitDefEqProofs[]
 refine hs.use ?_
 simp-implicitDefEqProofs[]
 refine hto.use ?_
 simp-implicitDefEqProofs[]
 refine hti.use ?_
 simp-implicitDefEqProofs[]
 refine hi.use ?_
 simp-implicitDefEqProofs[]
 refine hto.use ?_
 simp-implicitDefEqProofs[]
 refine(BB G l hz).use ?_
 simp-implicitDefEqProofs[]
 refine hti.use ?_
 simp-implicitDefEqProofs[]
 refine(FZ G us hub).use ?_
 simp-implicitDefEqProofs[]
end
end Go.Proofs.YtokiapglmedipaaGreatDoor
namespace Go.Proofs.YtokiapglmedipaaGreatDoor
open Go Go.Aw Go.ChangeShapes Go.WideShapes Go.ChangeAt Go.RowKit
set_option maxRecDepth 100000
abbrev Hc:TypeId:=24
abbrev LF:TypeId:=22
abbrev KD:TypeId:=122
abbrev CL:TypeId:=55
abbrev zA:TypeId:=9
abbrev rZ:TypeId:=120
abbrev jn:TypeId:=206
abbrev uh:TypeId:=204
abbrev nj:TypeId:=245
abbrev tE:TypeId:=3
abbrev Mc:TypeId:=4
abbrev CZ:TypeId:=160
abbrev IH:TypeId:=240
abbrev Ka:TypeId:=241
theorem Ox:Kids Tryz.prog (· <Tryz.prog.types.size):=kids_rows (by kernel_rfl) (by kernel_rfl)
theorem OB:∀t e,t<Tryz.prog.types.size->Tryz.prog.underlying t=some (.slice e)->0<Tryz.prog.cellsOf e:=slices_full_of Tryz.prog (by kernel_rfl)
def Ih:List TypeId:=[Hc,LF,KD,CL,zA,rZ,jn,uh,nj,tE,Mc,CZ,IH]
theorem Iu:Plain Tryz.prog Ih=true:=by kernel_rfl
theorem Qt:ownKnob Tryz.prog.godebug=none:=by kernel_rfl
theorem vG{H:Type}:∀l:List (DataW H),Rows.uptoBulkAll l=(l.map Rows.uptoBulk).sum
 |[]=>by simp[Rows.uptoBulkAll]
 |d::r=>by simp[Rows.uptoBulkAll,vG r]
theorem Kj{H:Type}:BulkOk (Rows.uptoBulk (H:=H)) where
 lit:=λl=>by cases l<;>simp[Rows.uptoBulk]
 str:=λs=>by simp[Rows.uptoBulk]
 nil:=by simp[Rows.uptoBulk]
 slice:=λes sp=>by simp only[Rows.uptoBulk,vG];omega
 agg:=λps=>by simp only[Rows.uptoBulk,vG];omega
theorem gU{t e:TypeId}{vs:List PV}(h:Conf Tryz.prog t vs)(hu:Tryz.prog.underlying t=some (.slice e)):∃es,vs=[.lst (Tryz.prog.cellsOf e) es]/\es.length<=9223372036854775807/\∀x∈es,Conf Tryz.prog e x:=by
 cases h with
 |sl es e' hl hs=>rw[hu] at e';cases e';exact⟨es,rfl,hl,hs⟩
 |bool b e=>rw[e] at hu;cases hu
 |int n e=>rw[e] at hu;cases hu
 |str s e=>rw[e] at hu;cases hu
 |st vs e=>rw[e] at hu;cases hu
 |arr vs e=>rw[e] at hu;cases hu
theorem FJ{vs:List PV}(h:Conf Tryz.prog CL vs):∃l:List (List UInt8),vs=[aB l]/\l.length<=9223372036854775807/\∀x∈l,x.length<=9223372036854775807:=by
 obtain⟨es,rfl,hl,h4⟩:=gU h (e:=zA) (by kernel_rfl)
 have hk:∀x∈es,∃s:List UInt8,x=[PV.str s]/\s.length<=maxLen:=λx hx=>rQ (h4 x hx) (by kernel_rfl)
 obtain⟨l,rfl⟩:=AY (λs:List UInt8=>[PV.str s]) (λx hx=>by obtain⟨n,e,_⟩:=hk x hx;exact⟨n,e⟩)
 rw[show Tryz.prog.cellsOf zA=1 by kernel_rfl]
 refine⟨l,rfl,by rwa[RL] at hl,λs hs=>?_⟩
 obtain⟨m,e,hw⟩:=hk [PV.str s] (RC.2 ⟨s,hs,rfl⟩)
 cases e
 exact hw
theorem js{α β:Type}(g:β->α)(p:β->Prop):∀{es:List α},(∀x∈es,∃m,x=g m/\p m)->∃ms:List β,es=ms.map g/\∀m∈ms,p m
 |[],_=>⟨[],rfl,λm hm=>by cases hm⟩
 |e::r,h=>by
  obtain⟨m,hm,hp⟩:=h e (by simp)
  obtain⟨ms,hms,hps⟩:=js g p (es:=r) λx hx=>h x (by simp[hx])
  exact⟨m::ms,by simp[hm,hms],λx hx=>by
   rcases Rm.1 hx with rfl|hx
   ·exact hp
   ·exact hps x hx⟩
theorem sQ:∀{l:List Ex},(∀e∈l,e.fit)->lM l
 |[],_=>trivial
 |e::r,h=>⟨h e (by simp),sQ λx hx=>h x (by simp[hx])⟩
theorem nF:∀{l:List Sm},(∀e∈l,e.fit)->jd l
 |[],_=>trivial
 |e::r,h=>⟨h e (by simp),nF λx hx=>h x (by simp[hx])⟩
theorem uy{x:List PV}{es:List (List PV)}(h:x∈es)(sz:Nat):SizeOf.sizeOf x<SizeOf.sizeOf [PV.lst sz es]:=by
 have:=List.sizeOf_lt_of_mem h
 simp
 omega
theorem JT:∀(n:Nat) (vs:List PV),SizeOf.sizeOf vs<n->Conf Tryz.prog nj vs->∃e:Ex,vs=e.cs/\e.fit:=by
 intro n
 induction n with
 |zero=>intro vs h;omega
 |succ n ih=>
  intro vs hn h
  have h:=ug (ts:=[tE,tE,zA,uh]) h (by kernel_rfl)
  obtain⟨a,r,rfl,h1,h⟩:=bw h
  obtain⟨b,r,rfl,h2,h⟩:=bw h
  obtain⟨c,r,rfl,h3,h⟩:=bw h
  obtain⟨d,r,rfl,h4,h⟩:=bw h
  cases nM h
  obtain⟨n1,rfl,_⟩:=rk h1 (k:= .i64) (by kernel_rfl)
  obtain⟨n2,rfl,_⟩:=rk h2 (k:= .i64) (by kernel_rfl)
  obtain⟨s,rfl,l3⟩:=rQ h3 (by kernel_rfl)
  obtain⟨es,rfl,l4,h5⟩:=gU h4 (e:=nj) (by kernel_rfl)
  have hs1:SizeOf.sizeOf [PV.lst (Tryz.prog.cellsOf nj) es]<n+1:=by simp at hn⊢;omega
  obtain⟨l,rfl,hl⟩:=js Ex.cs Ex.fit (λx hx=>ih x (by have:=uy hx (Tryz.prog.cellsOf nj);omega) (h5 x hx))
  refine⟨⟨n1,n2,s,l⟩,?_,?_⟩
  ·rw[show Tryz.prog.cellsOf nj=4 by kernel_rfl,Ex.cs_eq];rfl
  ·exact⟨l3,by rwa[RL] at l4,sQ hl⟩
theorem Iw{vs:List PV}(h:Conf Tryz.prog uh vs):∃l:List Ex,vs=[exL l]/\l.length<=BL/\lM l:=by
 obtain⟨es,rfl,l4,h5⟩:=gU h (e:=nj) (by kernel_rfl)
 obtain⟨l,rfl,hl⟩:=js Ex.cs Ex.fit (λx hx=>JT _ x (Nat.lt_succ_self _) (h5 x hx))
 rw[show Tryz.prog.cellsOf nj=4 by kernel_rfl]
 exact⟨l,rfl,by rwa[RL] at l4,sQ hl⟩
theorem Lh:∀(n:Nat) (vs:List PV),SizeOf.sizeOf vs<n->Conf Tryz.prog jn vs->∃e:Sm,vs=e.cs/\e.fit:=by
 intro n
 induction n with
 |zero=>intro vs h;omega
 |succ n ih=>
  intro vs hn h
  have h:=ug (ts:=[tE,zA,uh,rZ,rZ]) h (by kernel_rfl)
  obtain⟨a,r,rfl,h1,h⟩:=bw h
  obtain⟨b,r,rfl,h2,h⟩:=bw h
  obtain⟨c,r,rfl,h3,h⟩:=bw h
  obtain⟨d,r,rfl,h4,h⟩:=bw h
  obtain⟨d',r,rfl,h4',h⟩:=bw h
  cases nM h
  obtain⟨n1,rfl,_⟩:=rk h1 (k:= .i64) (by kernel_rfl)
  obtain⟨s,rfl,l3⟩:=rQ h2 (by kernel_rfl)
  obtain⟨ar,rfl,la,fa⟩:=Iw h3
  obtain⟨es,rfl,l4,h5⟩:=gU h4 (e:=jn) (by kernel_rfl)
  obtain⟨es',rfl,l4',h5'⟩:=gU h4' (e:=jn) (by kernel_rfl)
  have hs1:SizeOf.sizeOf [PV.lst (Tryz.prog.cellsOf jn) es]<n+1:=by simp at hn⊢;omega
  have hs2:SizeOf.sizeOf [PV.lst (Tryz.prog.cellsOf jn) es']<n+1:=by simp at hn⊢;omega
  obtain⟨l,rfl,hl⟩:=js Sm.cs Sm.fit (λx hx=>ih x (by have:=uy hx (Tryz.prog.cellsOf jn);omega) (h5 x hx))
  obtain⟨l',rfl,hl'⟩:=js Sm.cs Sm.fit (λx hx=>ih x (by have:=uy hx (Tryz.prog.cellsOf jn);omega) (h5' x hx))
  refine⟨⟨n1,s,ar,l,l'⟩,?_,?_⟩
  ·rw[show Tryz.prog.cellsOf jn=5 by kernel_rfl,Sm.cs_eq];rfl
  ·exact⟨l3,⟨la,fa⟩,⟨by rwa[RL] at l4,nF hl⟩,⟨by rwa[RL] at l4',nF hl'⟩⟩
theorem IA{vs:List PV}(h:Conf Tryz.prog rZ vs):∃l:List Sm,vs=[smL l]/\l.length<=BL/\jd l:=by
 obtain⟨es,rfl,l4,h5⟩:=gU h (e:=jn) (by kernel_rfl)
 obtain⟨l,rfl,hl⟩:=js Sm.cs Sm.fit (λx hx=>Lh _ x (Nat.lt_succ_self _) (h5 x hx))
 rw[show Tryz.prog.cellsOf jn=5 by kernel_rfl]
 exact⟨l,rfl,by rwa[RL] at l4,nF hl⟩
theorem Lu{vs:List PV}(h:Conf Tryz.prog KD vs):∃f:Fd,vs=f.cs/\f.fit:=by
 have h:=ug (ts:=[zA,CL,rZ]) h (by kernel_rfl)
 obtain⟨a,r,rfl,h1,h⟩:=bw h
 obtain⟨b,r,rfl,h2,h⟩:=bw h
 obtain⟨c,r,rfl,h3,h⟩:=bw h
 cases nM h
 obtain⟨s,rfl,l1⟩:=rQ h1 (by kernel_rfl)
 obtain⟨ws,rfl,l2,w2⟩:=FJ h2
 obtain⟨bd,rfl,l3,f3⟩:=IA h3
 exact⟨⟨s,ws,bd⟩,rfl,l1,⟨l2,w2⟩,l3,f3⟩
theorem Gp{vs:List PV}(h:Conf Tryz.prog Hc vs):∃l:List Fd,vs=[fdL l]/\Ml l:=by
 have h:=ug (ts:=[LF]) h (by kernel_rfl)
 obtain⟨a,r,rfl,h1,h⟩:=bw h
 cases nM h
 obtain⟨es,rfl,l4,h5⟩:=gU h1 (e:=KD) (by kernel_rfl)
 obtain⟨l,rfl,hl⟩:=js Fd.cs Fd.fit (λx hx=>Lu (h5 x hx))
 rw[show Tryz.prog.cellsOf KD=3 by kernel_rfl]
 exact⟨l,rfl,by rwa[RL] at l4,hl⟩
def G0:aw:=λg=>if g=ip then some gw else if g=dJ then some [.tbl opK opV] else none
theorem LX:∀k,gy Tryz.prog (k+10) CZ (Rows.laid_loop_example_wholeway_impl_keys (H:=Unit))=gw:=λk=>by kernel_rfl
theorem Qx{W:World}{laid:List (String × DataW Unit)}(hL:laidMet Tryz.prog laid W)(h1:("loop.example/wholeway/impl.keys",Rows.laid_loop_example_wholeway_impl_keys)∈laid)(h2:("loop.example/wholeway/impl.opSign",Rows.laid_loop_example_wholeway_impl_opSign)∈laid):
 ∀g cs,G0 g=some cs->g<W.heap.size/\∀(j:Nat) (c:PV),cs[j]?=some c->∃v,W.cell? ⟨g,j,none⟩=some v/\PRel W (· <W.heap.size) c v:=by
 intro g cs h
 unfold G0 at h
 split at h
 ·rename_i e;subst e;cases h
  exact Gd Iu hL (n:= "loop.example/wholeway/impl.keys") (d:=Rows.laid_loop_example_wholeway_impl_keys) (t:=CZ) h1 (by kernel_rfl) (by kernel_rfl) (by decide) LX
 ·split at h
  ·rename_i e;subst e;cases h
   exact Hq Iu hL (n:= "loop.example/wholeway/impl.opSign") h2 (t:=Ka) (k:=tE) (e:=IH) (by kernel_rfl) (by kernel_rfl) (by kernel_rfl) (.inl ⟨.i64,by kernel_rfl⟩) (by decide) (by kernel_rfl) (by kernel_rfl) (λm=>by kernel_rfl)
  ·cases h
end Go.Proofs.YtokiapglmedipaaGreatDoor
namespace Go.Proofs.YtokiapglmedipaaGreatDoor
open Go Go.Aw
set_option maxRecDepth 100000
abbrev Hy:TypeId:=25
def Em:List TypeId:=Hy::Ih
theorem My:Plain Tryz.prog Em=true:=by kernel_rfl
theorem Gg{vs:List PV}(h:Conf Tryz.prog Hy vs):∃l:List Int,vs=[bG l]:=by
 obtain⟨es,rfl,hl,h4⟩:=gU h (e:=tE) (by kernel_rfl)
 have hk:∀x∈es,∃n:Int,x=[PV.int .i64 n]/\(Lit.int .i64 n).wf=true:=λx hx=>rk (h4 x hx) (by kernel_rfl)
 obtain⟨l,rfl⟩:=AY (λn:Int=>[PV.int .i64 n]) (λx hx=>by obtain⟨n,e,_⟩:=hk x hx;exact⟨n,e⟩)
 rw[show Tryz.prog.cellsOf tE=1 by kernel_rfl]
 exact⟨l,rfl⟩
end Go.Proofs.YtokiapglmedipaaGreatDoor
