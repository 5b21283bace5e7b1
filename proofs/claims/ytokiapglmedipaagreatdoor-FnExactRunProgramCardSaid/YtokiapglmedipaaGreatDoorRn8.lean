/-
  Contracts and lemmas that the card needs, part 8.
-/
import Derived.Test.YtokiapglmedipaaGreatDoorRn7
namespace Go.Proofs.YtokiapglmedipaaGreatDoor
open Go Go.Aw
set_option maxRecDepth 100000
set_option maxHeartbeats 4000000
section
theorem Nx{v v':List Sc5}(h:Grw v v'):(aw v).length<=(aw v').length:=by
 rcases h with h|⟨m,up,m',up',t,rfl,rfl,h1,h2⟩
 ·rw[gB h];exact Uf _
 ·have e1:=gB h1
  have e2:=congrArg List.length h2
  simp only[nmS,Ux,Uu] at e2
  simp only[aw,Uu]
  omega
def sr(uid n:Nat):AV->AV
 | .nils=> .nils
 |_=> .sl uid 1 0 n
theorem EI.cut{R cid V sid nid uid:Nat}{uv:AV}{w:Sc5}{b:Bool}{x:Int}{h:List AO}(E:EI V nid uid uv w b x h)(A:Ap R V sid cid nid uid){n:Nat}(hn:n<=w.length):EI V nid uid (sr uid n uv) (w.take n) b x (h.set V (bO nid n (sr uid n uv) b x)):=by
 obtain⟨t,h1⟩:=E.names
 have hl:(w.take n).length=n:=by rw[UD];omega
 refine⟨by rw[hl];exact Ug E.lt.1,⟨(w.drop n).map (·.1)++t,?_⟩,?_,E.ne,by rw[UI];exact E.ul⟩
 ·rw[Uc E.neN,h1,←UK,←List.map_append,UO]
 ·have hv:=E.vals
  have hx:∀z,(h.set V z)[uid]?=h[uid]?:=λz=>Uc (Ne.symm A.uV)
  have hwl:(w.map (·.2)).length=w.length:=by simp
  generalize hvm:w.map (·.2)=vm at hv hwl
  have hvt:(w.take n).map (·.2)=vm.take n:=by rw[←hvm,List.map_take]
  rw[hvt]
  cases hv with
  |nn=>simp only[sr,List.take_nil];exact .nn _
  |ss _ _ t2 h2=>
   have hl2:(vm.take n).length=n:=by rw[UD];omega
   have:=UV.ss (h:=h.set V (bO nid n (sr uid n (.sl uid 1 0 vm.length)) b x)) uid (vm.take n) (vm.drop n++t2) (by rw[hx,h2,←UK,UO])
   rw[hl2] at this
   exact this
structure BqS where (sid nid uid:Nat) (uv:AV) (hh:List AO) (v:List Sc5) (s:S5) (i:Nat) (q:O5 (Option Int))
structure BqI (l:List Fd) (R cid k V sid nid uid:Nat) (x0:Int) (hb:List AO) (xs:List Sm) (v':List Sc5) (s':S5) (r:O5 (Option Int)) (a:BqS):Prop where
 run:RI R cid l a.sid a.s (bC a.q) (cX a.q) a.hh
 env:EI V a.nid a.uid a.uv (aw a.v) (bkB a.q) (bkV x0 a.q) a.hh
 ap:Ap R V a.sid cid a.nid a.uid
 snc:Snc R cid V sid nid uid hb a.sid a.nid a.uid a.hh
 il:a.i<=xs.length
 go:a.q= .ok none->In5 a.v a.s/\Ev l (.blk k a.v a.s (xs.drop a.i) v' s' r)
 over:a.q≠ .ok none->a.v=v'/\a.s=s'/\a.q=r
variable (G:aq)
theorem MB{l:List Fd}{R cid k:Nat}{xs:List Sm}(hz:xs.length<=1073741824)(hS:∀x∈xs,SmX G l R cid k x):StX G l R cid k xs:=by
 intro v s v' s' r hE I V x0 sid nid uid uv h H E A
 have hsl:smL xs= .lst 5 (xs.map Sm.cs):=rfl
 have hgw:Grw v v':=yC hE
 have hlen:=Nx hgw
 obtain⟨hR0,hs0,hc0⟩:=H.lt
 obtain⟨hV0,hn0,hu0⟩:=E.lt
 obtain⟨u1,u2⟩:=E.vals.cell
 have aV:=E.env
 simp only[bO] at aV
 refine AC.go kR ?_
 simp-implicitDefEqProofs[fX,hsl,aV]
 have J0:BqI l R cid k V sid nid uid x0 h xs v' s' r ⟨sid,nid,uid,uv,h,v,s,0,.ok none⟩:=⟨H,E,A,Snc.init _,Vf _,λ_=>⟨I,hE⟩,λh=>(h rfl).elim⟩
 refine az (λa:BqS=>ag 65 [(7,.p (.int .i64 a.i)),(6,.p (.int .i64 (aw v).length)),(0,.ptr R 7 0 0),(1,.p (.lst 5 (xs.map Sm.cs))),(2,.ptr V 4 0 0)]) (λa=>a.hh) (BqI l R cid k V sid nid uid x0 h xs v' s' r) (λa=>xs.length-a.i) ⟨sid,nid,uid,uv,h,v,s,0,.ok none⟩ J0 ?_ ?_
 ·refine aH (Uf _) ?_
  simp[below]
  omega
 clear J0
 rintro⟨sc,nc,uc,uvc,hh,vc,sx,i,q⟩ J
 have jR:=J.run.run
 have jV:=J.env.env
 have jS:=J.snc
 have jl:=jS.fr.1
 simp only at jR jV jS jl
 obtain⟨q1,q2,q3⟩:=J.run.lt
 obtain⟨q4,q5,q6⟩:=J.env.lt
 have q7:=J.env.neR J.run
 have q8:=J.run.neR
 have q9:=J.run.ne
 have uR:=J.ap.uR
 simp only at q1 q2 q3 q4 q5 q6 q7 q8 q9 uR
 have out:∀hv:vc=v'/\sx=s'/\q=r,StL R cid l V sid nid uid h ((aw v').take (aw v).length) x0 s' r (.ret (.tup [])) ((hh.set V (.row 4 [[.sl nc 1 0 (aw v).length,sr uc (aw v).length uvc,.p (.bool (bkB q)),.p (.int .i64 (bkV x0 q))]]))):=by
  rintro⟨rfl,rfl,rfl⟩
  exact StL.mk (J.run.setV (s2:=sx) J.env _) (J.env.cut J.ap hlen) J.ap ⟨jS.fr.set (by simp) _,jS.fs,jS.fn,jS.fu⟩
 have vS:∀z,(hh.set V z)[V]?=some z:=λz=>Ug q4
 have huv:=J.env.vals
 simp only at huv
 have hwl:((aw vc).map (·.2)).length=(aw vc).length:=by simp
 simp only[aJ] at jR
 simp only[bO] at jV
 by_cases hq:q= .ok none
 case neg=>
  have ho:=out (J.over hq)
  have hvl:(aw v).length<=(aw vc).length:=by have:=(J.over hq).1;simp only at this;rw[this];exact hlen
  generalize hvm:(aw vc).map (·.2)=vm at huv hwl
  cases q with
  |st c=>
   simp only[cX,bC] at jR
   by_cases hi:i<xs.length
   ·cases huv with
    |nn=>
     have h0:(aw v).length=0:=by simp at hwl;omega
     simp-implicitDefEqProofs[hi,jR,jV,vS,h0]
     simpa[h0,sr] using ho
    |ss _ _ t hu=>
     simp-implicitDefEqProofs[hi,jR,jV,vS,hvl,hwl]
     simpa[sr] using ho
   ·cases huv with
    |nn=>
     have h0:(aw v).length=0:=by simp at hwl;omega
     simp-implicitDefEqProofs[hi,jR,jV,vS,h0]
     simpa[h0,sr] using ho
    |ss _ _ t hu=>
     simp-implicitDefEqProofs[hi,jR,jV,vS,hvl,hwl]
     simpa[sr] using ho
  |ok p=>
   cases p with
   |none=>exact(hq rfl).elim
   |some m=>
    simp only[cX,bC,bkB,bkV] at jR jV ho
    by_cases hi:i<xs.length
    ·cases huv with
     |nn=>
      have h0:(aw v).length=0:=by simp at hwl;omega
      simp-implicitDefEqProofs[hi,jR,jV,vS,h0]
      simpa[h0,sr] using ho
     |ss _ _ t hu=>
      simp-implicitDefEqProofs[hi,jR,jV,vS,hvl,hwl]
      simpa[sr] using ho
    ·cases huv with
     |nn=>
      have h0:(aw v).length=0:=by simp at hwl;omega
      simp-implicitDefEqProofs[hi,jR,jV,vS,h0]
      simpa[h0,sr] using ho
     |ss _ _ t hu=>
      simp-implicitDefEqProofs[hi,jR,jV,vS,hvl,hwl]
      simpa[sr] using ho
 subst hq
 obtain⟨Ic,hev⟩:=J.go rfl
 simp only at Ic hev
 simp only[cX,bC,bkB,bkV] at jR jV out
 by_cases hi:i<xs.length
 case neg=>
  rw[List.drop_eq_nil_of_le (by omega)] at hev
  cases hev
  have ho:=out ⟨rfl,rfl,rfl⟩
  generalize hvm:(aw v').map (·.2)=vm at huv hwl
  cases huv with
  |nn=>
   have h0:(aw v).length=0:=by simp at hwl;omega
   simp-implicitDefEqProofs[hi,jR,jV,vS,h0]
   simpa[h0,sr] using ho
  |ss _ _ t hu=>
   simp-implicitDefEqProofs[hi,jR,jV,vS,hlen,hwl]
   simpa[sr] using ho
 have hg:=Ub hi
 have hmem:=Uo hi
 have hdr:xs.drop i=xs[i]::xs.drop (i+1):=UY hi
 generalize xs[i]=x at hg hmem hdr
 have hxc:=x.cs_eq
 have hSx:=hS x hmem
 have hac:x.cs.map AV.p=[.p (.int .i64 x.op),.p (.str x.name),.p (exL x.args),.p (smL x.body),.p (smL x.els)]:=by rw[hxc];rfl
 have hrun:=J.run
 have henv:=J.env
 have hap:=J.ap
 simp only[bC,cX,bkB,bkV] at hrun henv hap
 have htk:=LN G hrun.run (by have:=Ic.m;unfold M5 at this;omega)
 have hwi:=w1 (i:=i) (by omega)
 have next:∀(sid5 nid5 uid5:Nat) (uv5:AV) (h5:List AO) (v5:List Sc5) (s5:S5) (q5:O5 (Option Int)) (sl:List (Nat × AV)),BqI l R cid k V sid nid uid x0 h xs v' s' r ⟨sid5,nid5,uid5,uv5,h5,v5,s5,i+1,q5⟩->Aw.look sl 7= .p (.int .i64 (IntKind.i64.wrap ((i:Int)+1)))->Aw.look sl 6= .p (.int .i64 (aw v).length)->Aw.look sl 0= .ptr R 7 0 0->Aw.look sl 1= .p (.lst 5 (xs.map Sm.cs))->Aw.look sl 2= .ptr V 4 0 0->
  ∃a:BqS,BqI l R cid k V sid nid uid x0 h xs v' s' r a/\xs.length-a.i<xs.length-i/\Wk h.length (ag 65 sl) h5 (ag 65 [(7,.p (.int .i64 a.i)),(6,.p (.int .i64 (aw v).length)),(0,.ptr R 7 0 0),(1,.p (.lst 5 (xs.map Sm.cs))),(2,.ptr V 4 0 0)]) a.hh:=λsid5 nid5 uid5 uv5 h5 v5 s5 q5 sl J5 e7 e6 e0 e1 e2=>by
  have:=J5.snc.fr.1
  simp only at this
  refine⟨_,J5,by simp only;omega,aH this ?_⟩
  simp[below,e7,e6,e0,e1,e2,hwi]
  omega
 have S4:∀z,Snc R cid V sid nid uid h sc nc uc (hh.set R z):=λz=>⟨jS.fr.set (by simp) _,jS.fs,jS.fn,jS.fu⟩
 have E4:∀z,EI V nc uc uvc (aw vc) false x0 (hh.set R z):=λz=>henv.frame (by simp) (Uc (by omega)) (Uc (by omega)) (Uc (by omega))
 simp-implicitDefEqProofs[hi,jR,jV]
 refine htk.mono ?_
 rintro z h4 ⟨rfl,rfl⟩
 rw[hdr] at hev
 have rS:∀z,(hh.set R z)[R]?=some z:=λz=>Ug q1
 by_cases h0:sx.left=0
 ·rw[if_pos h0]
  have hr:v'=vc/\s'=sx/\r= .st 3:=by
   cases hev with
   |bfuel _=>exact⟨rfl,rfl,rfl⟩
   |bgo h1 _ _=>omega
   |bend h1 _ _=>omega
  obtain⟨rfl,rfl,rfl⟩:=hr
  simp-implicitDefEqProofs[aa,rS,aJ]
  exact next sc nc uc uvc _ v' s' (.st 3) _ ⟨hrun.ended,E4 _,hap,S4 _,by simp only;omega,(λh=>by cases h),λ_=>⟨rfl,rfl,rfl⟩⟩ (by simp) (by simp) (by simp) (by simp) (by simp)
 ·rw[if_neg h0]
  obtain⟨F,hF⟩:∃F,sx.left=F+1:=⟨sx.left-1,by omega⟩
  have hF1:sx.left-1=F:=by omega
  rw[hF1]
  have R4:RI R cid l sc (sx.at_ F) 0 false (hh.set R (aJ l sc cid (sx.at_ F) 0 false)):=⟨rS _,by rw[Uc (by omega)];exact hrun.said,by rw[Uc (by omega)];exact hrun.cells,q9⟩
  have I4:=Ic.tick hF
  have hq:∃v1 s1 q1,Ev l (.stm k vc (sx.at_ F) x v1 s1 q1)/\((q1= .ok none/\Ev l (.blk k v1 s1 (xs.drop (i+1)) v' s' r))\/(q1≠ .ok none/\v1=v'/\s1=s'/\q1=r)):=by
   cases hev with
   |bfuel h1=>omega
   |bgo h1 h2 h3=>
    rw[hF] at h1
    cases h1
    exact⟨_,_,_,h2,.inl ⟨rfl,h3⟩⟩
   |bend h1 h2 h3=>
    rw[hF] at h1
    cases h1
    exact⟨_,_,_,h2,.inr ⟨h3,rfl,rfl,rfl⟩⟩
  obtain⟨v1,s1,q1',hst,hrest⟩:=hq
  have hcall:=hSx _ _ _ _ _ hst I4 V x0 sc nc uc uvc _ R4 (E4 _) hap
  rw[hac] at hcall
  have rS':=rS (aJ l sc cid (sx.at_ F) 0 false)
  simp only[aJ] at rS'
  simp-implicitDefEqProofs[aa,rS',aJ,hg,hxc]
  refine hcall.mono ?_
  rintro z h5 ⟨sid',nid',uid',uv',rfl,p1,p2,p3,p4,p5,p6,p7⟩
  simp-implicitDefEqProofs[aa]
  refine next sid' nid' uid' uv' h5 v1 s1 q1' _ ⟨p1,p2,p3,(S4 _).st p4 p5 p6 p7,by simp only;omega,λhq=>?_,λhq=>?_⟩ (by simp) (by simp) (by simp) (by simp) (by simp)
  ·rcases hrest with⟨_,h3⟩|⟨h3,_⟩
   ·exact⟨In5.stm I4 hst,h3⟩
   ·exact(h3 hq).elim
  ·rcases hrest with⟨h3,_⟩|⟨_,h3⟩
   ·exact(hq h3).elim
   ·exact h3
end
section
theorem CoS.mem{l:List Fd}{k:Nat}{x:Sm}:∀{xs:List Sm} {d:Nat},CoS l k d xs->x∈xs->(∀a∈x.args,CoE l k a)/\(∃d,CoS l k d x.body)/\∃d,CoS l k d x.els
 |y::r,d,h,hx=>by
  obtain⟨a,b,c,e⟩:=h.head
  rcases Uj.1 hx with rfl|hx
  ·exact⟨a,⟨_,b⟩,⟨_,c⟩⟩
  ·exact e.mem hx
theorem Lg{l:List Fd}{k d:Nat}{xs:List Sm}{x:Sm}(hf:∀x∈xs,∃d,aB d x=true)(hz:aK xs<=1073741824)(hc:CoS l k d xs)(hx:x∈xs):WfS l k x:=by
 obtain⟨c,hform⟩:=hf x hx
 obtain⟨h1,h2,h3,h4,h5⟩:=LB hform
 obtain⟨g1,g2,g3⟩:=hc.mem hx
 have hxz:=aQ hx
 have hse:=x.sz_eq
 exact⟨⟨c,hform⟩,λa ha=>⟨⟨6,uP (h3 a ha)⟩,g1 a ha,by have:=aS ha;omega⟩,⟨h4,by omega,g2⟩,⟨h5,by omega,g3⟩,h2,h1⟩
variable (G:aq)
theorem RE{l:List Fd}(hc:aP l=0)(hz:be l<=1073741824)(R cid:Nat):∀k,StC G l R cid k:=by
 intro k
 induction k using Nat.strongRecOn with
 |_ k ih=>
  have hX:∀e,WfE l k e->ExC G l R cid k e:=λe W=>Pz G (λe hop W ihk v s s' r hE I V b x sid nid uid uv h H E A=>PU G hc hz ih e hop W ihk v s s' r hE I V b x sid nid uid uv h H E A) e.sz e (Uf _) W
  have key:∀(N:Nat) (xs:List Sm),aK xs<N->(∀x∈xs,∃d,aB d x=true)->aK xs<=1073741824->(∃d,CoS l k d xs)->StX G l R cid k xs:=by
   intro N
   induction N with
   |zero=>intro xs h;omega
   |succ N ihN=>
    rintro xs hN hf hzx ⟨d,hco⟩
    refine MB G (by have:=bp xs;omega) λx hx=>?_
    have W:=Lg hf hzx hco hx
    have hxz:=aQ hx
    have hse:=x.sz_eq
    have hB:=ihN x.body (by omega) W.body.1 W.body.2.1 W.body.2.2
    exact Pe G W hX hB (ihN x.els (by omega) W.els.1 W.els.2.1 W.els.2.2) λh6=>Pq G W h6 hX hB
  intro xs v s v' s' r hf hzx hco
  exact key (aK xs+1) xs (Nat.lt_succ_self _) hf hzx hco v s v' s' r
def Dm:O5 Int->Int
 | .ok n=>n
 | .st _=>0
def KD(s:S5)(r:O5 Int):List PV:=[ay s.said,.int .i64 (bC r),.int .i64 (Dm r),ay s.cells]
theorem PR{l:List Fd}{f:Fd}{us:List Int}{fuel:Nat}{s':S5}{r:O5 Int}(hc:aP l=0)(hz:be l<=1073741824)(hf:l[l.length-1]?=some f)(hl:us.length=f.params.length)(hu:∀n∈us,V5 n)(hfu:fuel<=4000)(hE:Ev l (.cal (l.length-1) us (s0 fuel) s' r)):
 VF Tryz.prog G lJ [.agg [.p (fdL l)],.p (ay us),.p (.int .i64 fuel)] (.tup [.agg ((KD s' r).map .p),.p (.int .i64 s'.left)]):=by
 have hfl:fdL l= .lst 3 (l.map Fd.cs):=rfl
 have hfc:f.cs=[.str f.name,aD f.params,smL f.body]:=rfl
 have hpL:aD f.params= .lst 1 (f.params.map λw=>[.str w]):=rfl
 have hnL:ay us= .lst 1 (us.map λn=>[.int .i64 n]):=rfl
 have hfz:=cK (Uh hf)
 have hfs:f.sz=1+f.name.length+(f.params.length+(f.params.map List.length).sum)+aK f.body:=rfl
 have hll:l.length<=be l:=ia l
 have hjl:=(Ua.1 hf).1
 have hn1:IntKind.i64.wrap ((l.length:Int)-1)=((l.length-1:Nat):Int):=by rw[af (by omega) (by omega)];omega
 cases hE with
 | @cal _ f' _ _ v'' _ r'' q1 q2 q3=>
 rw[hf] at q1
 cases q1
 have key:AC Tryz.prog G lJ [.agg [.p (fdL l)],.p (ay us),.p (.int .i64 fuel)] [] λx h=>∃sid cid,x= .ret (.tup [.agg [.sl sid 1 0 s'.said.length,.p (.int .i64 (bC (Gn r''))),.p (.int .i64 (Dm (Gn r''))),.sl cid 1 0 16],.p (.int .i64 s'.left)])/\h[sid]?=some (bf s'.said)/\h[cid]?=some (bf s'.cells):=by
  refine AC.go Dp ?_
  have hap:=nu hc hf
  have hflat:aw [f.params.zip us]=f.params.zip us:=by simp[aw]
  have hz1:(f.params.zip us).map (·.1)=f.params:=List.map_fst_zip (by omega)
  have hz2:(f.params.zip us).map (·.2)=us:=List.map_snd_zip (by omega)
  have hzl:(f.params.zip us).length=f.params.length:=by rw[List.length_zip];omega
  have IW:In5 [f.params.zip us] (s0 fuel):=by
   refine⟨ta fuel,λm hm y hy=>?_,uE hap q2,by simp[M5,s0];omega,by rw[hflat,hzl];simp only[s0];omega⟩
   rw[Up.1 hm] at hy
   have:=List.mem_map_of_mem (f:=Prod.snd) hy
   rw[hz2] at this
   exact hu _ this
  have hI2:=IW.blk q3
  have call:∀(sid cid:Nat) (hh:List AO),RI 4 cid l sid (s0 fuel) 0 false hh->hh[10]?=some (bO 7 f.params.length (.sl 9 1 0 us.length) false 0)->hh[7]?=some (fU f.params)->hh[9]?=some (bf us)->hh.length=11->(sid=2\/sid=3)->(cid=2\/cid=3)->sid≠cid->
   AC Tryz.prog G aI [.ptr 4 7 0 0,.p (smL f.body),.ptr 10 4 0 0] hh λx h'=>x= .ret (.tup [])/\∃sid2 nid uid uv w,RI 4 cid l sid2 s' (bC r'') (cX r'') h'/\EI 10 nid uid uv w (bkB r'') (bkV 0 r'') h'/\h'[1]?=hh[1]?/\(sid2=sid\/11<=sid2):=λsid cid hh g1 g2 g3 g4 g5 g6 g7 g8=>by
   have EW:EI 10 7 9 (.sl 9 1 0 us.length) (aw [f.params.zip us]) false 0 hh:=by
    rw[hflat]
    refine⟨by rw[hzl];exact g2,⟨[],by rw[hz1,UG];exact g3⟩,by rw[hz2];exact .ss _ _ [] (by rw[UG];exact g4),by omega,by omega⟩
   have AW:Ap 4 10 sid cid 7 9:=⟨by omega,by omega,by omega,by omega,by omega,by omega⟩
   refine(RE G hc hz 4 cid (l.length-1) f.body [f.params.zip us] (s0 fuel) v'' s' r'' (λy hy=>⟨4,(ij hc).2 f (Uh hf) y hy⟩) (by omega) ⟨1,zM hc hf⟩ q3 IW 10 0 sid 7 9 _ hh g1 EW AW).mono ?_
   rintro z h' ⟨sid',nid',uid',uv',rfl,p1,p2,p3,p4,p5,p6,p7⟩
   exact⟨rfl,sid',nid',uid',uv',_,p1,p2,p4.2 1 (by omega) (by simp only[Uj,UF,or_false,not_or];omega),by omega⟩
  simp-implicitDefEqProofs[vw]
  have hst:(AO.row 1 (List.map ((λx=>List.map AV.p x)∘λw=>[PV.str w]) f.params))=fU f.params:=by simp[fU,Function.comp_def]
  have hnt:(AO.row 1 (List.map ((λx=>List.map AV.p x)∘λn=>[PV.int IntKind.i64 n]) us))=bf us:=by simp[bf,Function.comp_def]
  refine⟨?_,?_⟩
  ·simp-implicitDefEqProofs[hfl,hn1,hf,hfc,hpL,hnL]
   rw[hst,hnt]
   refine⟨⟨by omega,by omega⟩,⟨by omega,by omega⟩,?_⟩
   refine(call 2 3 _ ⟨rfl,rfl,rfl,by omega⟩ rfl rfl rfl rfl (.inl rfl) (.inr rfl) (by omega)).mono ?_
   rintro z h' ⟨rfl,sid2,nid,uid,uv,w,p1,p2,p3,p4⟩
   have pR:=p1.run
   have pV:=p2.env
   have pS:=p1.said
   have pC:=p1.cells
   simp only[UP,List.getElem?_cons_zero] at p3
   have rT:∀z,(h'.set 1 z)[1]?=some z:=λz=>Ug (Ua.1 p3).1
   have rS:∀z,(h'.set 4 z)[4]?=some z:=λz=>Ug p1.lt.1
   have rS1:∀z,(h'.set 4 z)[1]?=some (.row 4 [[AV.nils,AV.p (PV.int IntKind.i64 0),AV.p (PV.int IntKind.i64 0),AV.nils]]):=λz=>by rw[Uc (by omega)];exact p3
   have rSo:∀z w,((h'.set 4 z).set 1 w)[1]?=some w:=λz w=>Ug (by rw[UI];exact(Ua.1 p3).1)
   have rS4:∀z w,((h'.set 4 z).set 1 w)[4]?=some z:=λz w=>by rw[Uc (by omega)];exact rS z
   simp only[aJ] at pR
   simp only[bO] at pV
   have q4:=p1.neR.1
   cases r'' with
   |st c=>
    simp only[cX,bC] at pR p1
    simp-implicitDefEqProofs[aa,pR,pV,p3,rT]
    refine⟨sid2,3,⟨rfl,rfl,rfl,rfl⟩,by rw[Uc (by omega)];exact pS,by rw[Uc (by omega)];exact pC⟩
   |ok q=>
    simp only[cX,bC] at pR p1
    simp-implicitDefEqProofs[aa,pR,pV,p3,rS,rS1,rSo,rS4]
    refine⟨sid2,3,⟨rfl,?_,?_,rfl⟩,by rw[Uc (by omega),Uc (by omega)];exact pS,by rw[Uc (by omega),Uc (by omega)];exact pC⟩
    ·cases q<;>rfl
    ·cases q<;>rfl
  ·simp-implicitDefEqProofs[hfl,hn1,hf,hfc,hpL,hnL]
   rw[hst,hnt]
   refine⟨⟨by omega,by omega⟩,⟨by omega,by omega⟩,?_⟩
   refine(call 3 2 _ ⟨rfl,rfl,rfl,by omega⟩ rfl rfl rfl rfl (.inr rfl) (.inl rfl) (by omega)).mono ?_
   rintro z h' ⟨rfl,sid2,nid,uid,uv,w,p1,p2,p3,p4⟩
   have pR:=p1.run
   have pV:=p2.env
   have pS:=p1.said
   have pC:=p1.cells
   simp only[UP,List.getElem?_cons_zero] at p3
   have rT:∀z,(h'.set 1 z)[1]?=some z:=λz=>Ug (Ua.1 p3).1
   have rS:∀z,(h'.set 4 z)[4]?=some z:=λz=>Ug p1.lt.1
   have rS1:∀z,(h'.set 4 z)[1]?=some (.row 4 [[AV.nils,AV.p (PV.int IntKind.i64 0),AV.p (PV.int IntKind.i64 0),AV.nils]]):=λz=>by rw[Uc (by omega)];exact p3
   have rSo:∀z w,((h'.set 4 z).set 1 w)[1]?=some w:=λz w=>Ug (by rw[UI];exact(Ua.1 p3).1)
   have rS4:∀z w,((h'.set 4 z).set 1 w)[4]?=some z:=λz w=>by rw[Uc (by omega)];exact rS z
   simp only[aJ] at pR
   simp only[bO] at pV
   have q4:=p1.neR.1
   cases r'' with
   |st c=>
    simp only[cX,bC] at pR p1
    simp-implicitDefEqProofs[aa,pR,pV,p3,rT]
    refine⟨sid2,2,⟨rfl,rfl,rfl,rfl⟩,by rw[Uc (by omega)];exact pS,by rw[Uc (by omega)];exact pC⟩
   |ok q=>
    simp only[cX,bC] at pR p1
    simp-implicitDefEqProofs[aa,pR,pV,p3,rS,rS1,rSo,rS4]
    refine⟨sid2,2,⟨rfl,?_,?_,rfl⟩,by rw[Uc (by omega),Uc (by omega)];exact pS,by rw[Uc (by omega),Uc (by omega)];exact pC⟩
    ·cases q<;>rfl
    ·cases q<;>rfl
 refine key.freezeR (λt v h e=>by obtain⟨_,_,e,_⟩:=e;cases e) λv h e=>?_
 obtain⟨sid,cid,e,h1,h2⟩:=e
 cases e
 have hgv:GE5 [f.params.zip us]:=λm hm y hy=>by
  have hz2:(f.params.zip us).map (·.2)=us:=List.map_snd_zip (by omega)
  rw[Up.1 hm] at hy
  have:=List.mem_map_of_mem (f:=Prod.snd) hy
  rw[hz2] at this
  exact hu _ this
 have hg:=(dE q3 ⟨ta fuel,hgv⟩).1
 have v1:=uD (l:=s'.said) h1
 have v2:=uD (l:=s'.cells) h2
 rw[hg.len] at v2
 exact .tup (.agg (.one v1 (.keep (by simp) (.keep (by simp) (.one v2 .nil)))) (.keep (by simp) .nil)) .nil
end
section
variable (G:aq)
theorem RM{l:List Fd}(hc:aP l=0)(hz:be l<=1073741824)(M fuel:Nat):∀k,PcC G l M k fuel:=by
 intro k
 induction k using Nat.strongRecOn with
 |_ k ih=>
  have hX:∀e,WfE l k e->PxC G l M k fuel e:=λe W=>Qb G (λe hop W ihk=>Ok G hc hz ih e hop W ihk) e.sz e (Uf _) W
  have key:∀(N:Nat) (xs:List Sm),aK xs<N->(∀x∈xs,∃d,aB d x=true)->aK xs<=1073741824->(∃d,CoS l k d xs)->PbC G l M k fuel xs:=by
   intro N
   induction N with
   |zero=>intro xs h;omega
   |succ N ihN=>
    rintro xs hN hf hzx ⟨d,hco⟩
    refine MT G (by have:=bp xs;omega) λx hx=>?_
    have W:=Lg hf hzx hco hx
    have hxz:=aQ hx
    have hse:=x.sz_eq
    have hB:=ihN x.body (by omega) W.body.1 W.body.2.1 W.body.2.2
    by_cases h6:x.op=6
    ·exact OP G W hX hB h6
    ·exact PN G W hX hB (ihN x.els (by omega) W.els.1 W.els.2.1 W.els.2.2) h6
  refine ON G hc hz λf hf=>?_
  have hfz:=cK (Uh hf)
  have hfs:f.sz=1+f.name.length+(f.params.length+(f.params.map List.length).sum)+aK f.body:=rfl
  exact key (aK f.body+1) f.body (Nat.lt_succ_self _) (λy hy=>⟨4,(ij hc).2 f (Uh hf) y hy⟩) (by omega) ⟨1,zM hc hf⟩
def oW(l:List Fd)(us:List Int)(fuel:Nat):List AO:=[.row 1 [[.p (fdL l)]],.row 1 [[.p (ay us)]],.row 4 [[.nils,.p (.int .i64 0),.p (.int .i64 0),.nils]],hZ l fuel .nils (s0 fuel),.row 1 [[.ptr 3 20 0 0]],.row 4 [[.nils,.p (.int .i64 0),.p (.int .i64 0),.nils]]]
theorem OH{l:List Fd}{us:List Int}{fuel:Nat}{s':S5}{r:O5 Int}(hc:aP l=0)(hz:be l<=1073741824)(hl:0<l.length)(hu:∀n∈us,V5 n)(hfu:fuel<=4000)(hE:Ev l (.cal (l.length-1) us (s0 fuel) s' r)):
 AC Tryz.prog G dd [.ptr 4 1 0 0,.ptr 0 1 0 0,.ptr 1 1 0 0,.ptr 5 4 0 0] (oW l us fuel++[.row 1 [[.p (.int .i64 0)]]]) λx h'=>∃sv sid h2,MI 3 l fuel sv sid s' h2/\Fr [3] (oW l us fuel++[.row 1 [[.p (.int .i64 0)]]]) h2/\(sid=3\/7<=sid)/\
  (match r with| .ok n=>x= .ret (.tup [])/\h'=h2.set 5 (.row 4 [[.nils,.p (.int .i64 0),.p (.int .i64 n),.nils]])| .st c=>x= .pan bt (.int .i64 c)/\h'=h2):=by
 have hfl:fdL l= .lst 3 (l.map Fd.cs):=rfl
 have hll:l.length<=be l:=ia l
 have hn1:IntKind.i64.wrap ((l.length:Int)-1)=((l.length-1:Nat):Int):=by rw[af (by omega) (by omega)];omega
 have hM:MI 3 l fuel .nils 3 (s0 fuel) (oW l us fuel++[.row 1 [[.p (.int .i64 0)]]]):=⟨rfl,.nn _ (by simp[oW]),Uf _,hfu,by simp[s0]⟩
 refine AC.go pQ ?_
 simp-implicitDefEqProofs[jw,oW,hfl,hn1]
 rw[←hfl]
 refine(RM G hc hz 3 fuel (l.length-1) us (s0 fuel) s' r hE hu (ta fuel) (by simp[M5,s0];omega) _ 3 .nils _ hM (.pp us)).mono ?_
 rintro z h2 ⟨rfl,sv,sid,P⟩
 have h5:h2[5]?=some (.row 4 [[.nils,.p (.int .i64 0),.p (.int .i64 0),.nils]]):=(P.fr.2 5 (by simp[oW]) (by simp)).trans rfl
 have hsid:sid=3\/7<=sid:=by have:=P.fs;simp[oW] at this;exact this
 have hF:Fr [3] (oW l us fuel++[.row 1 [[.p (.int .i64 0)]]]) h2:=P.fr.sub λi hi=>by simp at hi;exact .inl (by simp[hi])
 cases r with
 |ok n=>
  simp-implicitDefEqProofs[aa,db,h5]
  exact⟨sv,sid,h2,P.run,hF,hsid,rfl⟩
 |st c=>
  simp-implicitDefEqProofs[db]
  exact⟨sv,sid,h2,P.run,hF,hsid,rfl⟩
end
section
theorem PG{r:List AV}(h:r.length=4):∃a b c d,r=[a,b,c,d]:=by
 match r,h with
 |[a,b,c,d],_=>exact⟨a,b,c,d,rfl⟩
theorem Tr{r:List AV}(h:r.length=5):∃a b c d e,r=[a,b,c,d,e]:=by
 match r,h with
 |[a,b,c,d,e],_=>exact⟨a,b,c,d,e,rfl⟩
theorem Tw{r:List AV}(h:r.length=3):∃a b c,r=[a,b,c]:=by
 match r,h with
 |[a,b,c],_=>exact⟨a,b,c,rfl⟩
def zEx:List PV:=[.int .i64 0,.int .i64 0,.str [],.lst 4 []]
def zSm:List PV:=[.int .i64 0,.str [],.lst 4 [],.lst 5 [],.lst 5 []]
def zFd:List PV:=[.str [],.lst 1 [],.lst 5 []]
theorem dy{s:Bool}{h:List AO}{v:AV}{q:PV}{I:List Nat}(H:OwnL s h [v] [q] I):v.cells=[v]/\v.isCell=true:=by
 cases H with
 |p _ _ _=>exact⟨rfl,rfl⟩
 |nils _ _=>exact⟨rfl,rfl⟩
 |sl id sz n rows es _ _ _ _ _ _ _=>exact⟨rfl,rfl⟩
theorem fr3{s:Bool}{a b c a' b' c':AO}{os r:List AO}{vs:List AV}{qs:List PV}{I:List Nat}(H:OwnL s (a::b::c::os) vs qs I)(hI:∀i∈I,3<=i):OwnL s (a'::b'::c'::(os++r)) vs qs I:=by
 have h1:OwnL s (a'::b'::c'::os) vs qs I:=H.frame λi hi=>by
  have:=hI i hi
  obtain⟨k,rfl⟩:∃k,i=k+3:=⟨i-3,by omega⟩
  rfl
 exact h1.more r
theorem Fk{I J:List Nat}(k:Nat)(n1:I.Nodup)(n2:J.Nodup)(h1:∀i∈I,i<k)(h2:∀j∈J,k<=j):(I++J).Nodup:=
 List.nodup_append.2 ⟨n1,n2,λa ha b hb e=>by have:=h1 a ha;have:=h2 b hb;omega⟩
variable (G:aq)
theorem Bj(l:List Ex)(hb:l.length<=1048576)(H:∀e∈l,AC Tryz.prog G dQ [.agg (e.cs.map .p)] [] (MkW .agg true e.cs)):AC Tryz.prog G bP [.p (exL l)] [] (MkW fz true [exL l]):=by
 have hsl:∀l,exL l= .lst 4 (l.map Ex.cs):=λ_=>rfl
 refine AC.go ou ?_
 simp-implicitDefEqProofs[jP,hsl]
 refine⟨by omega,?_⟩
 refine az (λa:FilS=>ag 23 [(0,.p (exL l)),(3,.sl 0 4 0 l.length),(4,.p (.int .i64 a.i))]) (λa=>a.h) (FilI true 0 4 (l.map Ex.cs) zEx) (λa=>l.length-a.i) ⟨0,[.row 4 (List.replicate l.length [.p (.int .i64 0),.p (.int .i64 0),.p (.str []),.nils])]⟩
  (FilI.init rfl (by simp) (.p _ (λ_=>rfl) (.p _ (λ_=>rfl) (.p _ (λ_=>rfl) (.nils 4 .nil)))) rfl) ?_ ?_
 ·exact aH (by simp) (by simp[below,hsl])
 ·rintro⟨i,hh⟩ hI
  simp-implicitDefEqProofs[hsl]
  refine bj (λh1=>?_) (λh1=>?_)
  ·simp at h1
   have hg:=Ub h1
   have hH:=H l[i] (Uo h1)
   have hcs:=l[i].cs_eq
   have hD':(l.map Ex.cs)[i]?=some l[i].cs:=by rw[Uk,hg];rfl
   generalize l[i]=e at hg hH hcs hD'
   have hA:=AC.mkLift yk hH (h:=hh) (by rw[hcs];simp)
   rw[hcs] at hA
   simp-implicitDefEqProofs[hg,hcs]
   refine hA.mono ?_
   rintro r h2 ⟨vs,I2,os,rfl,e2,ho,nd,hf⟩
   rw[←hcs] at ho
   obtain⟨rows,r0,k1,k2,k3,k4,k5,k6⟩:=hI.step hD' e2 ho nd hf e.cs_len
   obtain⟨K,rfl,hK⟩:=Md ho
   obtain⟨c1,c2⟩:=dy hK
   obtain⟨z1,z2,z3,z4,rfl⟩:=PG k3
   have hll:0<h2.length:=(Ua.1 k1).1
   simp-implicitDefEqProofs[-AV.cells,-AV.isCell,cP,aE,aL,cN,aF,c1,c2,aa,k1,k2,h1,eq]
   refine⟨_,k6,by simp;omega,aH (by simp) ?_⟩
   simp[below,hsl,w1 (i:=i) (by omega)]
   omega
  ·simp at h1
   obtain⟨rows,J,hr⟩:=hI.done (by simpa using h1)
   simp-implicitDefEqProofs[]
   exact⟨_,_,rfl,hr.tree (by simp),hr.nd⟩
theorem JF:∀(N:Nat) (e:Ex),e.sz<=N->e.sz<=1048576->AC Tryz.prog G dQ [.agg (e.cs.map .p)] [] (MkW .agg true e.cs):=by
 intro N
 induction N with
 |zero=>intro e he;have:=e.sz_pos;omega
 |succ N ih=>
  intro e he hb
  have hec:=e.cs_eq
  have hsz:=e.sz_eq
  have hkl:=aX e.kids
  have hS:=Bj G e.kids (by omega) (λx hx=>ih x (by have:=aS hx;omega) (by have:=aS hx;omega))
  refine AC.go rd ?_
  simp-implicitDefEqProofs[lZ,hec]
  refine(AC.mkLift lb hS (by simp)).mono ?_
  rintro r h2 ⟨vs,I2,os,rfl,e2,ho,nd,hf⟩
  obtain⟨K,rfl⟩:=cU ho
  obtain⟨c1,c2⟩:=dy ho
  simp at hf
  subst e2
  simp-implicitDefEqProofs[-AV.cells,-AV.isCell,cP,aE,aL,cN,aF,c1,c2,aa,fz]
  refine⟨_,I2,rfl,?_,nd⟩
  have:=Pf (o:=e.op) (n:=e.n) (w:=e.name) (k:=e.kids) (fr3 (r:=[]) (a':= .row 4 [[.p (.int .i64 e.op),.p (.int .i64 e.n),.p (.str e.name),.p (exL e.kids)]]) (b':= .row 4 [[.p (.int .i64 e.op),.p (.int .i64 e.n),.p (.str e.name),K]]) (c':= .row 4 [[.p (.int .i64 e.op),.p (.int .i64 e.n),.p (.str e.name),K]]) ho hf)
  rw[UG,Ex.cs_eq] at this
  exact this
theorem Jd(l:List Ex)(hb:dm l<=1048576):AC Tryz.prog G bP [.p (exL l)] [] (MkW fz true [exL l]):=
 Bj G l (by have:=aX l;omega) (λe he=>JF G e.sz e (Uf _) (by have:=aS he;omega))
theorem uA(l:List Sm)(hb:l.length<=1048576)(H:∀e∈l,AC Tryz.prog G dS [.agg (e.cs.map .p)] [] (MkW .agg true e.cs)):AC Tryz.prog G bw [.p (smL l)] [] (MkW fz true [smL l]):=by
 have hsl:∀l,smL l= .lst 5 (l.map Sm.cs):=λ_=>rfl
 refine AC.go oS ?_
 simp-implicitDefEqProofs[kJ,hsl]
 refine⟨by omega,?_⟩
 refine az (λa:FilS=>ag 23 [(0,.p (smL l)),(3,.sl 0 5 0 l.length),(4,.p (.int .i64 a.i))]) (λa=>a.h) (FilI true 0 5 (l.map Sm.cs) zSm) (λa=>l.length-a.i) ⟨0,[.row 5 (List.replicate l.length [.p (.int .i64 0),.p (.str []),.nils,.nils,.nils])]⟩
  (FilI.init rfl (by simp) (.p _ (λ_=>rfl) (.p _ (λ_=>rfl) (.nils 4 (.nils 5 (.nils 5 .nil))))) rfl) ?_ ?_
 ·exact aH (by simp) (by simp[below,hsl])
 ·rintro⟨i,hh⟩ hI
  simp-implicitDefEqProofs[hsl]
  refine bj (λh1=>?_) (λh1=>?_)
  ·simp at h1
   have hg:=Ub h1
   have hH:=H l[i] (Uo h1)
   have hcs:=l[i].cs_eq
   have hD':(l.map Sm.cs)[i]?=some l[i].cs:=by rw[Uk,hg];rfl
   generalize l[i]=e at hg hH hcs hD'
   have hA:=AC.mkLift yk hH (h:=hh) (by rw[hcs];simp)
   rw[hcs] at hA
   simp-implicitDefEqProofs[hg,hcs]
   refine hA.mono ?_
   rintro r h2 ⟨vs,I2,os,rfl,e2,ho,nd,hf⟩
   rw[←hcs] at ho
   obtain⟨rows,r0,k1,k2,k3,k4,k5,k6⟩:=hI.step hD' e2 ho nd hf e.cs_len
   obtain⟨A,B,E,I3,I4,I5,rfl,_,hA1,hA2,hA3⟩:=Ki ho
   obtain⟨c1,c2⟩:=dy hA1
   obtain⟨c3,c4⟩:=dy hA2
   obtain⟨c5,c6⟩:=dy hA3
   obtain⟨z1,z2,z3,z4,z5,rfl⟩:=Tr k3
   have hll:0<h2.length:=(Ua.1 k1).1
   simp-implicitDefEqProofs[-AV.cells,-AV.isCell,cP,aE,aL,cN,aF,c1,c2,c3,c4,c5,c6,aa,k1,k2,h1,eq]
   refine⟨_,k6,by simp;omega,aH (by simp) ?_⟩
   simp[below,hsl,w1 (i:=i) (by omega)]
   omega
  ·simp at h1
   obtain⟨rows,J,hr⟩:=hI.done (by simpa using h1)
   simp-implicitDefEqProofs[]
   exact⟨_,_,rfl,hr.tree (by simp),hr.nd⟩
theorem Kx:∀(N:Nat) (e:Sm),e.sz<=N->e.sz<=1048576->AC Tryz.prog G dS [.agg (e.cs.map .p)] [] (MkW .agg true e.cs):=by
 intro N
 induction N with
 |zero=>intro e he;have:=e.sz_pos;omega
 |succ N ih=>
  intro e he hb
  have hec:=e.cs_eq
  have hsz:=e.sz_eq
  have hA:=Jd G e.args (by omega)
  have hB:=uA G e.body (by have:=bp e.body;omega) (λx hx=>ih x (by have:=aQ hx;omega) (by have:=aQ hx;omega))
  have hE:=uA G e.els (by have:=bp e.els;omega) (λx hx=>ih x (by have:=aQ hx;omega) (by have:=aQ hx;omega))
  refine AC.go rm ?_
  simp-implicitDefEqProofs[lT,hec]
  refine(AC.mkLift lb hA (by simp)).mono ?_
  rintro r h2 ⟨vs,I1,os1,rfl,e2,o1,n1,f1⟩
  obtain⟨A,rfl⟩:=cU o1
  obtain⟨c1,c2⟩:=dy o1
  have l1:=λi (hi:i∈I1)=>o1.lt hi
  simp at f1
  subst e2
  simp at l1
  simp-implicitDefEqProofs[-AV.cells,-AV.isCell,cP,aE,aL,cN,aF,c1,c2,aa,fz]
  refine(AC.mkLift lb hB (by simp)).mono ?_
  rintro r h2 ⟨vs,I2,os2,rfl,e2,o2,n2,f2⟩
  obtain⟨B,rfl⟩:=cU o2
  obtain⟨c3,c4⟩:=dy o2
  have l2:=λi (hi:i∈I2)=>o2.lt hi
  simp at f2
  subst e2
  simp at l2
  simp-implicitDefEqProofs[-AV.cells,-AV.isCell,cP,aE,aL,cN,aF,c1,c2,c3,c4,aa,fz]
  refine(AC.mkLift lb hE (by simp)).mono ?_
  rintro r h2 ⟨vs,I3,os3,rfl,e2,o3,n3,f3⟩
  obtain⟨E,rfl⟩:=cU o3
  obtain⟨c5,c6⟩:=dy o3
  simp at f3
  subst e2
  simp-implicitDefEqProofs[-AV.cells,-AV.isCell,cP,aE,aL,cN,aF,c1,c2,c3,c4,c5,c6,aa,fz]
  simp only[UN,List.nil_append,UK] at o1 o2 o3
  refine⟨_,I1++(I2++I3),rfl,?_,Fk (os1.length+3) n1 (Fk (os1.length+os2.length+3) n2 n3 (λi hi=>by have:=l2 i hi;omega) (λi hi=>by have:=f3 i hi;omega)) (λi hi=>by have:=l1 i hi;omega) (λi hi=>by
   rcases Un.1 hi with h|h
   ·have:=f2 i h;omega
   ·have:=f3 i h;omega)⟩
  have hd:=Pl (o:=e.op) (w:=e.name) (a:=e.args) (b:=e.body) (e:=e.els) (A:=A) (B:=B) (E:=E) (I1:=I1) (I2:=I2) (I3:=I3)
   (fr3 (r:=os2++os3) (a':= .row 5 [[.p (.int .i64 e.op),.p (.str e.name),.p (exL e.args),.p (smL e.body),.p (smL e.els)]]) (b':= .row 5 [[.p (.int .i64 e.op),.p (.str e.name),A,B,E]]) (c':= .row 5 [[.p (.int .i64 e.op),.p (.str e.name),A,B,E]]) o1 f1)
   (by
     have:=fr3 (r:=os3) (a':= .row 5 [[.p (.int .i64 e.op),.p (.str e.name),.p (exL e.args),.p (smL e.body),.p (smL e.els)]]) (b':= .row 5 [[.p (.int .i64 e.op),.p (.str e.name),A,B,E]]) (c':= .row 5 [[.p (.int .i64 e.op),.p (.str e.name),A,B,E]]) o2 (λi hi=>by have:=f2 i hi;omega)
     rwa[UK] at this)
   (by
     have:=fr3 (r:=[]) (a':= .row 5 [[.p (.int .i64 e.op),.p (.str e.name),.p (exL e.args),.p (smL e.body),.p (smL e.els)]]) (b':= .row 5 [[.p (.int .i64 e.op),.p (.str e.name),A,B,E]]) (c':= .row 5 [[.p (.int .i64 e.op),.p (.str e.name),A,B,E]]) o3 (λi hi=>by have:=f3 i hi;omega)
     rwa[UG] at this)
  rw[Sm.cs_eq] at hd
  exact hd
theorem ID(l:List Sm)(hb:aK l<=1048576):AC Tryz.prog G bw [.p (smL l)] [] (MkW fz true [smL l]):=
 uA G l (by have:=bp l;omega) (λe he=>Kx G e.sz e (Uf _) (by have:=aQ he;omega))
theorem Bx{h:List AO}{id:Nat}{l:List (List UInt8)}(e:h[id]?=some (fU l)){n:Nat}(hn:n=l.length):OwnL true h [.sl id 1 0 n] [aD l] [id]:=by
 have hf:∀l:List (List UInt8),OwnL true h (l.map λw=>[AV.p (.str w)]).flatten (l.map λw=>[PV.str w]).flatten []:=by
  intro l
  induction l with
  |nil=>exact .nil
  |cons w r ih=>exact .p _ (λ_=>rfl) ih
 exact .sl id 1 n _ _ (by rw[e];rfl) (by simp[hn]) (by simp) (by simp) (by simp) (hf l) .nil
theorem Nz(l:List Fd)(hb:l.length<=1048576)(H:∀e∈l,AC Tryz.prog G gd [.agg (e.cs.map .p)] [] (MkW .agg true e.cs)):AC Tryz.prog G gC [.p (fdL l)] [] (MkW fz true [fdL l]):=by
 have hsl:∀l,fdL l= .lst 3 (l.map Fd.cs):=λ_=>rfl
 refine AC.go sV ?_
 simp-implicitDefEqProofs[mS,hsl]
 refine⟨by omega,?_⟩
 refine az (λa:FilS=>ag 23 [(0,.p (fdL l)),(3,.sl 0 3 0 l.length),(4,.p (.int .i64 a.i))]) (λa=>a.h) (FilI true 0 3 (l.map Fd.cs) zFd) (λa=>l.length-a.i) ⟨0,[.row 3 (List.replicate l.length [.p (.str []),.nils,.nils])]⟩
  (FilI.init rfl (by simp) (.p _ (λ_=>rfl) (.nils 1 (.nils 5 .nil))) rfl) ?_ ?_
 ·exact aH (by simp) (by simp[below,hsl])
 ·rintro⟨i,hh⟩ hI
  simp-implicitDefEqProofs[hsl]
  refine bj (λh1=>?_) (λh1=>?_)
  ·simp at h1
   have hg:=Ub h1
   have hH:=H l[i] (Uo h1)
   have hcs:=l[i].cs_eq'
   have hD':(l.map Fd.cs)[i]?=some l[i].cs:=by rw[Uk,hg];rfl
   generalize l[i]=e at hg hH hcs hD'
   have hA:=AC.mkLift yk hH (h:=hh) (by rw[hcs];simp)
   rw[hcs] at hA
   simp-implicitDefEqProofs[hg,hcs]
   refine hA.mono ?_
   rintro r h2 ⟨vs,I2,os,rfl,e2,ho,nd,hf⟩
   rw[←hcs] at ho
   obtain⟨rows,r0,k1,k2,k3,k4,k5,k6⟩:=hI.step hD' e2 ho nd hf e.cs_len
   obtain⟨A,B,I3,I4,rfl,_,hA1,hA2⟩:=LT ho
   obtain⟨c1,c2⟩:=dy hA1
   obtain⟨c3,c4⟩:=dy hA2
   obtain⟨z1,z2,z3,rfl⟩:=Tw k3
   have hll:0<h2.length:=(Ua.1 k1).1
   simp-implicitDefEqProofs[-AV.cells,-AV.isCell,cP,aE,aL,cN,aF,c1,c2,c3,c4,aa,k1,k2,h1,eq]
   refine⟨_,k6,by simp;omega,aH (by simp) ?_⟩
   simp[below,hsl,w1 (i:=i) (by omega)]
   omega
  ·simp at h1
   obtain⟨rows,J,hr⟩:=hI.done (by simpa using h1)
   simp-implicitDefEqProofs[]
   exact⟨_,_,rfl,hr.tree (by simp),hr.nd⟩
theorem PD(e:Fd)(hb:e.sz<=1048576):AC Tryz.prog G gd [.agg (e.cs.map .p)] [] (MkW .agg true e.cs):=by
 have hec:=e.cs_eq'
 have hsz:e.sz=1+e.name.length+(e.params.length+(e.params.map List.length).sum)+aK e.body:=rfl
 have hA:AC Tryz.prog G dp [.p (aD e.params)] [] (MkW fz true [aD e.params]):=(vl G e.params (by omega)).mono λx h ⟨h1,h2⟩=>⟨[.sl 0 1 0 e.params.length],[0],by rw[h1];rfl,Bx (by rw[h2];rfl) rfl,by simp⟩
 have hB:=ID G e.body (by omega)
 refine AC.go vp ?_
 simp-implicitDefEqProofs[oN,hec]
 refine(AC.mkLift lb hA (by simp)).mono ?_
 rintro r h2 ⟨vs,I1,os1,rfl,e2,o1,n1,f1⟩
 obtain⟨A,rfl⟩:=cU o1
 obtain⟨c1,c2⟩:=dy o1
 have l1:=λi (hi:i∈I1)=>o1.lt hi
 simp at f1
 subst e2
 simp at l1
 simp-implicitDefEqProofs[-AV.cells,-AV.isCell,cP,aE,aL,cN,aF,c1,c2,aa,fz]
 refine(AC.mkLift lb hB (by simp)).mono ?_
 rintro r h2 ⟨vs,I2,os2,rfl,e2,o2,n2,f2⟩
 obtain⟨B,rfl⟩:=cU o2
 obtain⟨c3,c4⟩:=dy o2
 simp at f2
 subst e2
 simp-implicitDefEqProofs[-AV.cells,-AV.isCell,cP,aE,aL,cN,aF,c1,c2,c3,c4,aa,fz]
 simp only[UN,List.nil_append,UK] at o1 o2
 refine⟨_,I1++I2,rfl,?_,Fk (os1.length+3) n1 n2 (λi hi=>by have:=l1 i hi;omega) (λi hi=>by have:=f2 i hi;omega)⟩
 refine PZ (fr3 (r:=os2) o1 f1) ?_
 have:=fr3 (r:=[]) (a':= .row 3 [[.p (.str e.name),.p (aD e.params),.p (smL e.body)]]) (b':= .row 3 [[.p (.str e.name),A,B]]) (c':= .row 3 [[.p (.str e.name),A,B]]) o2 (λi hi=>by have:=f2 i hi;omega)
 rwa[UG] at this
theorem DS(l:List Fd)(hb:be l<=1048576):AC Tryz.prog G bK [.agg [.p (fdL l)]] [] (MkW .agg true [fdL l]):=by
 have hA:=Nz G l (by have:=eh l;omega) (λe he=>PD G e (by have:=cK he;omega))
 refine AC.go mr ?_
 simp-implicitDefEqProofs[io]
 refine(AC.mkLift lb hA (by simp)).mono ?_
 rintro r h2 ⟨vs,I1,os1,rfl,e2,o1,n1,f1⟩
 obtain⟨A,rfl⟩:=cU o1
 obtain⟨c1,c2⟩:=dy o1
 simp at f1
 subst e2
 simp-implicitDefEqProofs[-AV.cells,-AV.isCell,cP,aE,aL,cN,aF,c1,c2,aa,fz]
 have:=fr3 (r:=[]) (a':= .row 1 [[.p (fdL l)]]) (b':= .row 1 [[A]]) (c':= .row 1 [[A]]) o1 f1
 rw[UG] at this
 exact⟨_,I1,rfl,this,n1⟩
end
section
theorem Pk(n:Int):IntKind.u8.wrap n=n%256:=by simp[IntKind.wrap,IntKind.bits,IntKind.signed]
theorem Lc{x:Int}{n:Nat}(h:x=n)(hn:n<=9223372036854775807):IntKind.i64.wrap x=n:=by rw[af (by omega) (by omega),h]
def AP(n:Nat)(acc:List UInt8):List UInt8:=if n=0 then acc else AP (n/10) (UInt8.ofNat (48+n%10)::acc)
termination_by n
theorem HO(acc:List UInt8):AP 0 acc=acc:=by rw[AP,if_pos rfl]
theorem Jw{n:Nat}(h:¬n=0)(acc:List UInt8):AP n acc=AP (n/10) (UInt8.ofNat (48+n%10)::acc):=by rw[AP,if_neg h]
def eb(n:Nat):List UInt8:=if n=0 then[109,48] else 109::AP n []
structure DGm where (n:Nat) (acc:List UInt8)
variable (G:aq)
theorem mX(n:Nat)(hn:n<=1152921504606846976):VF Tryz.prog G bl [.p (.int .i64 n)] (.p (.str (eb n))):=by
 refine AC.go vQ ?_
 by_cases h0:n=0
 ·subst h0
  simp-implicitDefEqProofs[jh,eb]
 have h1:¬(n:Int)<=0:=by omega
 simp-implicitDefEqProofs[jh,h1,h0]
 refine az (λd:DGm=>ag 20 [(0,.p (.int .i64 d.n)),(3,.p (.str d.acc))]) (λ_=>[]) (λd=>AP d.n d.acc=AP n []/\d.acc.length+d.n<=n) (λd=>d.n) ⟨n,[]⟩ (by simp) ?_ ?_
 ·exact aG rfl (by simp[below])
 ·rintro⟨m,acc⟩ ⟨i1,i2⟩
  simp only at i1 i2
  simp-implicitDefEqProofs[]
  refine bj (λh2=>?_) (λh2=>?_)
  ·simp at h2
   have hm0:¬m=0:=by omega
   have e10:(m:Int).tmod 10=(m:Int)%10:=Vi (by omega)
   have ew:IntKind.i64.wrap (48+(m:Int)%10)=48+(m:Int)%10:=af (by omega) (by omega)
   have e8:IntKind.u8.wrap (48+(m:Int)%10)=48+(m:Int)%10:=by rw[Pk];omega
   have et:(48+(m:Int)%10).toNat=48+m%10:=by omega
   have ed:IntKind.i64.wrap ((m:Int)/10)=((m/10:Nat):Int):=Lc (by omega) (by omega)
   simp-implicitDefEqProofs[e10,ew,e8,et,ed]
   refine⟨by omega,⟨m/10,UInt8.ofNat (48+m%10)::acc⟩,⟨?_,?_⟩,by simp only;omega,aG rfl ?_⟩
   ·rw[←i1];exact(Jw hm0 acc).symm
   ·simp only[Ur];omega
   ·simp[below]
  ·simp at h2
   have:m=0:=by omega
   subst this
   rw[HO] at i1
   have hl:1+(AP n []).length<=9223372036854775807:=by rw[←i1];omega
   simp-implicitDefEqProofs[eb,h0,i1]
   exact hl
def kM(k n:Nat):List Int:=(List.range n).map λj=>((k+j:Nat):Int)
def pJ(k n:Nat):List (List UInt8):=(List.range n).map λj=>eb (k+j)
theorem EN(k n:Nat):(kM k n).length=n:=by simp[kM]
theorem Mf(k n:Nat):(pJ k n).length=n:=by simp[pJ]
theorem Ga{h:List AO}{id:Nat}{xs:List Int}{k:Nat}(hr:h[id]?=some (jD xs))(hk:k+xs.length<=1152921504606846976):
 AC Tryz.prog G cJ [.sl id 1 0 xs.length,.p (.int .i64 k)] h λx h'=>x= .ret (.p (.int .i64 ((k+xs.length:Nat):Int)))/\h'=h.set id (jD (kM k xs.length)):=by
 refine AC.enterB fJ λhb=>AC.go fJ ?_
 have hid:id<h.length:=(Ua.1 hr).1
 have hbs:∀ys:List Int,HB (h.set id (jD ys)):=λys=>hb.set_row λe he=>by
  obtain⟨x,_,rfl⟩:=Uw.1 he
  simp
 simp-implicitDefEqProofs[fK]
 have e0:kM k 0++xs.drop 0=xs:=by simp[kM]
 refine az (λa:Nat × List Int=>ag 19 [(0,.sl id 1 0 xs.length),(1,.p (.int .i64 ((k+a.1:Nat):Int))),(5,.p (.int .i64 a.1))]) (λa=>h.set id (jD a.2)) (λa=>a.1<=xs.length/\a.2=kM k a.1++xs.drop a.1) (λa=>xs.length-a.1) (0,xs) ⟨by simp,e0.symm⟩ ?_ ?_
 ·have e:h.set id (jD xs)=h:=by
   obtain⟨hi,e⟩:=Ua.1 hr
   rw[←e];simp
  rw[e]
  exact kr (by simp) hb (by simp-implicitDefEqProofs[below,hid])
 ·rintro⟨i,ys⟩ ⟨hi,hy⟩
  simp only at hi hy
  simp-implicitDefEqProofs[]
  refine bj (λh1=>?_) (λh1=>?_)
  ·simp at h1
   have hyl:ys.length=xs.length:=by rw[hy];simp[kM];omega
   have hys:ys.set i ((k+i:Nat):Int)=kM k (i+1)++xs.drop (i+1):=by
    rw[hy,List.set_append_right _ _ (by simp[kM])]
    simp only[kM,Ux,List.length_range,Nat.sub_self]
    rw[UY h1,List.set_cons_zero,List.range_succ]
    simp
   have hg:(List.map (λn=>[AV.p (.int .i64 n)]) ys)[i]?=some [AV.p (.int .i64 (ys[i]'(by omega)))]:=by rw[Uk,Ub (by omega)];rfl
   have hw1:IntKind.i64.wrap ((k:Int)+(i:Int)+1)=(k:Int)+(i:Int)+1:=af (by omega) (by omega)
   simp-implicitDefEqProofs[jD,hid,h1,hg,hw1]
   refine⟨i+1,ys.set i ((k+i:Nat):Int),⟨h1,hys⟩,by omega,?_⟩
   have e:(List.map (λn=>[AV.p (PV.int IntKind.i64 n)]) ys).set i [AV.p (PV.int IntKind.i64 (↑k+ ↑i))]=List.map (λn=>[AV.p (PV.int IntKind.i64 n)]) (ys.set i ((k+i:Nat):Int)):=by
    rw[List.map_set];simp
   rw[e]
   refine kr ?_ (hbs (ys.set i ((k+i:Nat):Int))) ?_
   ·simp
   simp[w1 (i:=i) (by omega),below,hid]
   omega
  ·simp at h1
   have:i=xs.length:=by omega
   subst this
   simp[hy]
theorem Ec(k i:Nat)(hn:k+i<=1152921504606846976):VF Tryz.prog G bl [.p (.int .i64 ((k:Int)+(i:Int)))] (.p (.str (eb (k+i)))):=by
 have:=mX G (k+i) hn
 rwa[Int.natCast_add] at this
theorem AR{h:List AO}{id:Nat}{xs:List (List UInt8)}{k:Nat}(hr:h[id]?=some (fU xs))(hk:k+xs.length<=1152921504606846976):
 AC Tryz.prog G dD [.sl id 1 0 xs.length,.p (.int .i64 k)] h λx h'=>x= .ret (.p (.int .i64 ((k+xs.length:Nat):Int)))/\h'=h.set id (fU (pJ k xs.length)):=by
 refine AC.enterB dz λhb=>AC.go dz ?_
 have hid:id<h.length:=(Ua.1 hr).1
 have hbs:∀ys:List (List UInt8),HB (h.set id (fU ys)):=λys=>hb.set_row λe he=>by
  obtain⟨x,_,rfl⟩:=Uw.1 he
  simp
 simp-implicitDefEqProofs[dB]
 have e0:pJ k 0++xs.drop 0=xs:=by simp[pJ]
 refine az (λa:Nat × List (List UInt8)=>ag 20 [(0,.sl id 1 0 xs.length),(1,.p (.int .i64 ((k+a.1:Nat):Int))),(5,.p (.int .i64 a.1))]) (λa=>h.set id (fU a.2)) (λa=>a.1<=xs.length/\a.2=pJ k a.1++xs.drop a.1) (λa=>xs.length-a.1) (0,xs) ⟨by simp,e0.symm⟩ ?_ ?_
 ·have e:h.set id (fU xs)=h:=by
   obtain⟨hi,e⟩:=Ua.1 hr
   rw[←e];simp
  rw[e]
  exact kr (by simp) hb (by simp-implicitDefEqProofs[below,hid])
 ·rintro⟨i,ys⟩ ⟨hi,hy⟩
  simp only at hi hy
  simp-implicitDefEqProofs[]
  refine bj (λh1=>?_) (λh1=>?_)
  ·simp at h1
   have hyl:ys.length=xs.length:=by rw[hy];simp[pJ];omega
   have hys:ys.set i (eb (k+i))=pJ k (i+1)++xs.drop (i+1):=by
    rw[hy,List.set_append_right _ _ (by simp[pJ])]
    simp only[pJ,Ux,List.length_range,Nat.sub_self]
    rw[UY h1,List.set_cons_zero,List.range_succ]
    simp
   have hg:(List.map (λn=>[AV.p (.str n)]) ys)[i]?=some [AV.p (.str (ys[i]'(by omega)))]:=by rw[Uk,Ub (by omega)];rfl
   have hw1:IntKind.i64.wrap ((k:Int)+(i:Int)+1)=(k:Int)+(i:Int)+1:=af (by omega) (by omega)
   simp-implicitDefEqProofs[]
   refine(Ec G k i (by omega)).use ?_
   simp-implicitDefEqProofs[fU,hid,h1,hg,hw1]
   refine⟨i+1,ys.set i (eb (k+i)),⟨h1,hys⟩,by omega,?_⟩
   have e:(List.map (λn=>[AV.p (PV.str n)]) ys).set i [AV.p (PV.str (eb (k+i)))]=List.map (λn=>[AV.p (PV.str n)]) (ys.set i (eb (k+i))):=by
    rw[List.map_set]
   rw[e]
   refine kr ?_ (hbs (ys.set i (eb (k+i)))) ?_
   ·simp
   simp[w1 (i:=i) (by omega),below,hid]
   omega
  ·simp at h1
   have:i=xs.length:=by omega
   subst this
   simp[hy]
theorem yT(k n:Nat)(hk:k+n<=1152921504606846976):VF Tryz.prog G fN [.p (ay (kM k n)),.p (.int .i64 k)] (.p (.int .i64 ((k+n:Nat):Int))):=by
 refine AC.go vI ?_
 have hsl:∀l,ay l= .lst 1 (l.map λw=>[.int .i64 w]):=λ_=>rfl
 have hl:=EN k n
 simp-implicitDefEqProofs[nA]
 refine az (λi:Nat=>ag 21 [(0,.p (ay (kM k n))),(1,.p (.int .i64 ((k+i:Nat):Int))),(5,.p (.int .i64 i))]) (λ_=>[]) (λi=>i<=n) (λi=>n-i) 0 (by simp) ?_ ?_
 ·exact aG rfl (by simp[below,ay])
 intro i hi
 simp-implicitDefEqProofs[hsl,hl]
 refine bj (λh1=>?_) (λh1=>?_)
 ·simp at h1
  have hg:(kM k n)[i]?=some ((k+i:Nat):Int):=by simp[kM,h1]
  have hw1:IntKind.i64.wrap ((k:Int)+(i:Int)+1)=(k:Int)+(i:Int)+1:=af (by omega) (by omega)
  clear hl
  simp-implicitDefEqProofs[hg,hw1]
  refine⟨i+1,h1,by omega,aG rfl ?_⟩
  simp[below,ay,w1 (i:=i) (by omega)]
  omega
 ·simp at h1
  have:i=n:=by omega
  subst this
  simp-implicitDefEqProofs[]
end
section
mutual
def mkE(k:Nat):Ex->Ex
 | .mk _ _ _ ks=> .mk k ((k+1:Nat):Int) (eb (k+2)) (sa (k+3) ks)
def sa(k:Nat):List Ex->List Ex
 |[]=>[]
 |e::r=>mkE k e::sa (k+3*e.parts) r
end
theorem yD:∀(l:List Ex) (k:Nat),(sa k l).length=l.length
 |[],k=>rfl
 |e::r,k=>by rw[sa,Ur,yD r,Ur]
theorem Hp:∀(l:List Ex) (k i:Nat) (e:Ex),l[i]?=some e->(sa k l)[i]?=some (mkE (k+3*bc (l.take i)) e)
 |x::r,k,0,e,h=>by cases h;rfl
 |x::r,k,i+1,e,h=>by
  have:=Hp r (k+3*x.parts) i e h
  rw[sa,UP,this,List.take_succ_cons,bc]
  congr 2
  omega
theorem OV(k:Nat)(e:Ex):(mkE k e).cs=[.int .i64 k,.int .i64 ((k+1:Nat):Int),.str (eb (k+2)),exL (sa (k+3) e.kids)]:=by
 obtain⟨o,n,s,ks⟩:=e;rw[mkE,Ex.cs_eq];rfl
theorem Gf{l:List Ex}{i:Nat}(h:i<l.length):bc (l.take (i+1))=bc (l.take i)+l[i].parts:=by
 rw[ah h,eF];simp[bc]
theorem Id(l:List Ex)(i:Nat):bc (l.take i)<=bc l:=by
 have e:bc l=bc (l.take i)+bc (l.drop i):=by rw[←eF,UO]
 omega
theorem Jv{l:List Ex}{e:Ex}(h:e∈l):e.parts<=bc l:=by
 induction l with
 |nil=>cases h
 |cons x r ih=>
  rw[bc]
  rcases Uj.1 h with rfl|h
  ·omega
  ·have:=ih h;omega
theorem Im(l:List Ex):l.length<=bc l:=by
 induction l with
 |nil=>exact Uf _
 |cons x r ih=>have:=x.parts_eq;rw[bc,Ur];omega
variable (G:aq)
theorem DF:∀(N:Nat) (l:List Ex),bc l<N->∀(h:List AO) (v:AV) (I:List Nat) (k:Nat),OwnL true h [v] [exL l] I->I.Nodup->k+3*bc l<=1152921504606846976->
 AC Tryz.prog G eJ [v,.p (.int .i64 k)] h (Mkd h v I (exL (sa k l)) (.int .i64 ((k+3*bc l:Nat):Int))):=by
 intro N
 induction N with
 |zero=>intro l hl;omega
 |succ N ih=>
  intro l hl h v I k ho nd hk
  have hxl:∀l,exL l= .lst 4 (l.map Ex.cs):=λ_=>rfl
  have hll:=Im l
  rcases ho.inv nd with⟨h0,rfl,rfl|rfl⟩|⟨h0,_⟩|⟨id,rows,J,rfl,rfl,hr⟩
  ·have hl0:l=[]:=List.map_eq_nil_iff.1 h0
   subst hl0
   refine AC.go ig ?_
   have hst:Mkd h .nils [] (exL (sa k [])) (.int .i64 ((k+3*bc []:Nat):Int)) (.ret (.p (.int .i64 k))) h:=⟨rfl,.nils 4 .nil,λ_ _ _=>rfl,Uf _⟩
   simp-implicitDefEqProofs[eQ]
   refine az (λ_:Unit=>ag 42 [(0,.nils),(1,.p (.int .i64 k)),(5,.p (.int .i64 0))]) (λ_=>h) (λ_=>True) (λ_=>0) () trivial (aH (Uf _) (by simp[below])) ?_
   intro _ _
   simp-implicitDefEqProofs[]
   exact hst
  ·have hl0:l=[]:=List.map_eq_nil_iff.1 h0
   subst hl0
   refine AC.go ig ?_
   have hst:Mkd h (.p (.lst 4 [])) [] (exL (sa k [])) (.int .i64 ((k+3*bc []:Nat):Int)) (.ret (.p (.int .i64 k))) h:=⟨rfl,.p _ (λ_=>rfl) .nil,λ_ _ _=>rfl,Uf _⟩
   simp-implicitDefEqProofs[eQ]
   refine az (λ_:Unit=>ag 42 [(0,(.p (.lst 4 []))),(1,.p (.int .i64 k)),(5,.p (.int .i64 0))]) (λ_=>h) (λ_=>True) (λ_=>0) () trivial (aH (Uf _) (by simp[below])) ?_
   intro _ _
   simp-implicitDefEqProofs[]
   exact hst
  ·cases h0
  rw[Ux]
  refine AC.go ig ?_
  simp-implicitDefEqProofs[eQ]
  refine az (λa:FilS=>ag 42 [(0,.sl id 4 0 l.length),(1,.p (.int .i64 ((k+3*bc (l.take a.i):Nat):Int))),(5,.p (.int .i64 a.i))]) (λa=>a.h) (MkI h id 4 ((sa k l).map Ex.cs) (l.map Ex.cs) J) (λa=>l.length-a.i) ⟨0,h⟩ (MkI.init hr) ?_ ?_
  ·exact aH (Uf _) (by simp[below,bc,hr.lt])
  rintro⟨i,hh⟩ hI
  simp-implicitDefEqProofs[]
  refine bj (λh1=>?_) (λh1=>?_)
  ·simp at h1
   have hg:=Ub h1
   have hP:=Gf h1
   have hM:=Jv (Uo h1)
   have hT:=Id l (i+1)
   generalize l[i]=e at hg hP hM
   have hD:(l.map Ex.cs)[i]?=some e.cs:=by rw[Uk,hg];rfl
   have hA:((sa k l).map Ex.cs)[i]?=some (mkE (k+3*bc (l.take i)) e).cs:=by rw[Uk,Hp l k i e hg];rfl
   obtain⟨rows',r,Ji,s1,s2,s3,s4,s5,s6,s7⟩:=hI.step hD hA
   obtain⟨K,rfl,hK⟩:=Md s3
   obtain⟨c1,c2⟩:=dy hK
   have q1:∀x,(hh.set id x)[id]?=some x:=λx=>Ug s5
   have q2:∀x,(rows'.set i x)[i]?=some x:=λx=>Ug s6
   have hnid:id∉Ji:=λhm=>by rw[UX] at s4;exact s4.1 hm
   have hpe:=e.parts_eq
   have hmt:=mX G (k+3*bc (l.take i)+2) (by omega)
   generalize hkk:k+3*bc (l.take i)=kk at*
   have hkI:(k:Int)+3*(bc (l.take i):Int)=(kk:Int):=by omega
   have w0:IntKind.i64.wrap ((kk:Int)+1)=(kk:Int)+1:=af (by omega) (by omega)
   have w2:IntKind.i64.wrap ((kk:Int)+1+1)=(kk:Int)+1+1:=af (by omega) (by omega)
   have w3:IntKind.i64.wrap ((kk:Int)+1+1+1)=(kk:Int)+1+1+1:=af (by omega) (by omega)
   have hm2:VF Tryz.prog G bl [.p (.int .i64 ((kk:Int)+1+1))] (.p (.str (eb (kk+2)))):=by
    have e:((kk+2:Nat):Int)=(kk:Int)+1+1:=by omega
    rw[←e];exact hmt
   have hIH:=λh1 ho=>ih e.kids (by have:=e.parts_eq;omega) h1 K Ji (kk+3) ho (UX.1 s4).2 (by have:=e.parts_eq;omega)
   have e3:((kk+3:Nat):Int)=(kk:Int)+1+1+1:=by omega
   rw[e3] at hIH
   simp-implicitDefEqProofs[-AV.cells,-AV.isCell,cP,aE,aL,cN,aF,c1,c2,s1,s2,q1,q2,hkI,w0,w2,w3]
   refine⟨h1,?_⟩
   refine hm2.use ?_
   simp-implicitDefEqProofs[-AV.cells,-AV.isCell,cP,aE,aL,cN,aF,c1,c2,s1,s2,q1,q2,w3]
   refine⟨h1,(hIH _ (hK.set_out hnid _)).mono ?_⟩
   rintro r h2 ⟨rfl,o2,f2,l2⟩
   rw[UI] at f2 l2
   have hgo:=s7 h2 [.p (.int .i64 kk),.p (.int .i64 ((kk+1:Nat):Int)),.p (.str (eb (kk+2))),K] (by rw[f2 id s5 hnid,q1];simp) (λj hj hn hm=>by rw[f2 j hj hm,Uc (λe=>hn e.symm)]) (by rw[OV];exact .p _ (λ_=>rfl) (.p _ (λ_=>rfl) (.p _ (λ_=>rfl) o2))) (Ex.cs_len _) l2
   have hid2:id<h2.length:=by omega
   have hwi:=w1 (i:=i) (by omega)
   have hkn:k+3*bc (l.take (i+1))=kk+3+3*bc e.kids:=by omega
   simp-implicitDefEqProofs[aa]
   refine⟨⟨i+1,h2⟩,hgo,by simp only;omega,aH hgo.2.2.2 ?_⟩
   simp[below,hid2,hwi]
   omega
  ·simp at h1
   have hie:i=l.length:=by have:=hI.1;simp at this;omega
   obtain⟨⟨rows2,d1⟩,d2,d3⟩:=hI.done (by simpa using h1) (by simp[yD])
   subst hie
   rw[UU]
   simp-implicitDefEqProofs[]
   refine⟨by simp,?_,d2,d3⟩
   have:=d1.tree (n:=l.length) (by simp[yD])
   exact this
theorem Ez{h:List AO}:∀{ps:List (List UInt8)} {vs:List AV} {J:List Nat},OwnL true h vs (ps.map PV.str) J->vs=ps.map (λw=> .p (.str w))/\J=[]
 |[],vs,J,H=>by
  cases H
  exact⟨rfl,rfl⟩
 |w::r,vs,J,H=>by
  rw[UA] at H
  cases H with
  |p _ _ H=>
   obtain⟨e1,e2⟩:=Ez H
   exact⟨by rw[e1];rfl,e2⟩
theorem yp{α:Type}:∀{rows:List (List α)} {l:List α},rows.flatten=l->(∀e∈rows,e.length=1)->rows=l.map λx=>[x]
 |[],l,e,_=>by subst e;rfl
 |r::rs,l,e,h=>by
  subst e
  have h1:=h r (by simp)
  match r,h1 with
  |[x],_=>
   have ih:=yp (rows:=rs) rfl λe he=>h e (by simp[he])
   rw[UJ,List.singleton_append,UA,←ih]
theorem Bq:∀ps:List (List UInt8),(ps.map λw=>[PV.str w]).flatten=ps.map PV.str
 |[]=>rfl
 |w::r=>by rw[UA,UJ,Bq r];rfl
theorem Qf(h:List AO)(v:AV)(I:List Nat)(ps:List (List UInt8))(k:Nat)(ho:OwnL true h [v] [aD ps] I)(nd:I.Nodup)(hk:k+ps.length<=1152921504606846976):
 AC Tryz.prog G dD [v,.p (.int .i64 k)] h (Mkd h v I (aD (pJ k ps.length)) (.int .i64 ((k+ps.length:Nat):Int))):=by
 rcases ho.inv nd with⟨h0,rfl,rfl|rfl⟩|⟨h0,_⟩|⟨id,rows,J,rfl,rfl,hr⟩
 ·have hl0:ps=[]:=List.map_eq_nil_iff.1 h0
  subst hl0
  refine AC.go dz ?_
  have hst:Mkd h .nils [] (aD (pJ k 0)) (.int .i64 ((k+0:Nat):Int)) (.ret (.p (.int .i64 k))) h:=⟨rfl,.nils 1 .nil,λ_ _ _=>rfl,Uf _⟩
  simp-implicitDefEqProofs[dB]
  refine az (λ_:Unit=>ag 20 [(0,.nils),(1,.p (.int .i64 k)),(5,.p (.int .i64 0))]) (λ_=>h) (λ_=>True) (λ_=>0) () trivial (aH (Uf _) (by simp[below])) ?_
  intro _ _
  simp-implicitDefEqProofs[]
  exact hst
 ·have hl0:ps=[]:=List.map_eq_nil_iff.1 h0
  subst hl0
  refine AC.go dz ?_
  have hst:Mkd h (.p (.lst 1 [])) [] (aD (pJ k 0)) (.int .i64 ((k+0:Nat):Int)) (.ret (.p (.int .i64 k))) h:=⟨rfl,.p _ (λ_=>rfl) .nil,λ_ _ _=>rfl,Uf _⟩
  simp-implicitDefEqProofs[dB]
  refine az (λ_:Unit=>ag 20 [(0,.p (.lst 1 [])),(1,.p (.int .i64 k)),(5,.p (.int .i64 0))]) (λ_=>h) (λ_=>True) (λ_=>0) () trivial (aH (Uf _) (by simp[below])) ?_
  intro _ _
  simp-implicitDefEqProofs[]
  exact hst
 ·cases h0
 rw[Ux]
 have hfl:(ps.map λw=>[PV.str w]).flatten=ps.map PV.str:=by
  exact Bq ps
 have hown:=hr.own
 rw[hfl] at hown
 obtain⟨e1,e2⟩:=Ez hown
 subst e2
 have e3:=yp e1 hr.rl
 have hh:h[id]?=some (fU ps):=by rw[hr.here,e3,List.map_map];rfl
 refine(AR G hh hk).mono ?_
 rintro x h' ⟨rfl,rfl⟩
 have hid:id<h.length:=hr.lt
 refine⟨rfl,Bx (Ug hid) (by simp[Mf]),λj hj hn=>?_,by simp⟩
 simp at hn
 exact Uc λe=>hn e.symm
mutual
def Sm.mq:Sm->Nat
 | .mk _ _ a b e=>2+3*bc a+bV b+bV e
def bV:List Sm->Nat
 |[]=>0
 |s::r=>s.mq+bV r
end
mutual
def mkS(k:Nat):Sm->Sm
 | .mk _ _ a b e=> .mk k (eb (k+1)) (sa (k+2) a) (nK (k+2+3*bc a) b) (nK (k+2+3*bc a+bV b) e)
def nK(k:Nat):List Sm->List Sm
 |[]=>[]
 |s::r=>mkS k s::nK (k+s.mq) r
end
theorem Sm.mq_eq(s:Sm):s.mq=2+3*bc s.args+bV s.body+bV s.els:=by cases s;rfl
theorem zX:∀a b:List Sm,bV (a++b)=bV a+bV b
 |[],b=>by simp[bV]
 |s::r,b=>by rw[UN,bV,bV,zX r b];omega
theorem zn:∀(l:List Sm) (k:Nat),(nK k l).length=l.length
 |[],k=>rfl
 |e::r,k=>by rw[nK,Ur,zn r,Ur]
theorem GD:∀(l:List Sm) (k i:Nat) (e:Sm),l[i]?=some e->(nK k l)[i]?=some (mkS (k+bV (l.take i)) e)
 |x::r,k,0,e,h=>by cases h;rfl
 |x::r,k,i+1,e,h=>by
  have:=GD r (k+x.mq) i e h
  rw[nK,UP,this,List.take_succ_cons,bV]
  congr 2
  omega
theorem Pv(k:Nat)(e:Sm):(mkS k e).cs=[.int .i64 k,.str (eb (k+1)),exL (sa (k+2) e.args),smL (nK (k+2+3*bc e.args) e.body),smL (nK (k+2+3*bc e.args+bV e.body) e.els)]:=by
 obtain⟨o,s,a,b,el⟩:=e;rw[mkS,Sm.cs_eq];rfl
theorem Ij{l:List Sm}{i:Nat}(h:i<l.length):bV (l.take (i+1))=bV (l.take i)+l[i].mq:=by
 rw[ah h,zX];simp[bV]
theorem BV(l:List Sm)(i:Nat):bV (l.take i)<=bV l:=by
 have e:bV l=bV (l.take i)+bV (l.drop i):=by rw[←zX,UO]
 omega
theorem LS{l:List Sm}{e:Sm}(h:e∈l):e.mq<=bV l:=by
 induction l with
 |nil=>cases h
 |cons x r ih=>
  rw[bV]
  rcases Uj.1 h with rfl|h
  ·omega
  ·have:=ih h;omega
theorem LE(l:List Sm):l.length<=bV l:=by
 induction l with
 |nil=>exact Uf _
 |cons x r ih=>have:=x.mq_eq;rw[bV,Ur];omega
theorem ER:∀(N:Nat) (l:List Sm),bV l<N->∀(h:List AO) (v:AV) (I:List Nat) (k:Nat),OwnL true h [v] [smL l] I->I.Nodup->k+bV l<=1152921504606846976->
 AC Tryz.prog G dr [v,.p (.int .i64 k)] h (Mkd h v I (smL (nK k l)) (.int .i64 ((k+bV l:Nat):Int))):=by
 intro N
 induction N with
 |zero=>intro l hl;omega
 |succ N ih=>
  intro l hl h v I k ho nd hk
  have hll:=LE l
  rcases ho.inv nd with⟨h0,rfl,rfl|rfl⟩|⟨h0,_⟩|⟨id,rows,J,rfl,rfl,hr⟩
  ·have hl0:l=[]:=List.map_eq_nil_iff.1 h0
   subst hl0
   refine AC.go ir ?_
   have hst:Mkd h .nils [] (smL (nK k [])) (.int .i64 ((k+bV []:Nat):Int)) (.ret (.p (.int .i64 k))) h:=⟨rfl,.nils 5 .nil,λ_ _ _=>rfl,Uf _⟩
   simp-implicitDefEqProofs[eN]
   refine az (λ_:Unit=>ag 49 [(0,.nils),(1,.p (.int .i64 k)),(5,.p (.int .i64 0))]) (λ_=>h) (λ_=>True) (λ_=>0) () trivial (aH (Uf _) (by simp[below])) ?_
   intro _ _
   simp-implicitDefEqProofs[]
   exact hst
  ·have hl0:l=[]:=List.map_eq_nil_iff.1 h0
   subst hl0
   refine AC.go ir ?_
   have hst:Mkd h (.p (.lst 5 [])) [] (smL (nK k [])) (.int .i64 ((k+bV []:Nat):Int)) (.ret (.p (.int .i64 k))) h:=⟨rfl,.p _ (λ_=>rfl) .nil,λ_ _ _=>rfl,Uf _⟩
   simp-implicitDefEqProofs[eN]
   refine az (λ_:Unit=>ag 49 [(0,(.p (.lst 5 []))),(1,.p (.int .i64 k)),(5,.p (.int .i64 0))]) (λ_=>h) (λ_=>True) (λ_=>0) () trivial (aH (Uf _) (by simp[below])) ?_
   intro _ _
   simp-implicitDefEqProofs[]
   exact hst
  ·cases h0
  rw[Ux]
  refine AC.go ir ?_
  simp-implicitDefEqProofs[eN]
  refine az (λa:FilS=>ag 49 [(0,.sl id 5 0 l.length),(1,.p (.int .i64 ((k+bV (l.take a.i):Nat):Int))),(5,.p (.int .i64 a.i))]) (λa=>a.h) (MkI h id 5 ((nK k l).map Sm.cs) (l.map Sm.cs) J) (λa=>l.length-a.i) ⟨0,h⟩ (MkI.init hr) ?_ ?_
  ·exact aH (Uf _) (by simp[below,bV,hr.lt])
  rintro⟨i,hh⟩ hI
  simp-implicitDefEqProofs[]
  refine bj (λh1=>?_) (λh1=>?_)
  ·simp at h1
   have hg:=Ub h1
   have hP:=Ij h1
   have hM:=LS (Uo h1)
   have hT:=BV l (i+1)
   generalize l[i]=e at hg hP hM
   have hD:(l.map Sm.cs)[i]?=some e.cs:=by rw[Uk,hg];rfl
   have hA:((nK k l).map Sm.cs)[i]?=some (mkS (k+bV (l.take i)) e).cs:=by rw[Uk,GD l k i e hg];rfl
   obtain⟨rows',r,Ji,s1,s2,s3,s4,s5,s6,s7⟩:=hI.step hD hA
   obtain⟨A,B,E,I1,I2,I3,rfl,rfl,oA,oB,oE⟩:=Ki s3
   obtain⟨c1,c2⟩:=dy oA
   obtain⟨c3,c4⟩:=dy oB
   obtain⟨c5,c6⟩:=dy oE
   have q1:∀x,(hh.set id x)[id]?=some x:=λx=>Ug s5
   have q2:∀x,(rows'.set i x)[i]?=some x:=λx=>Ug s6
   rw[UX] at s4
   obtain⟨hnid,n123⟩:=s4
   simp only[Un,not_or] at hnid
   obtain⟨x1,x2,x3⟩:=hnid
   obtain⟨n1,n23,d123⟩:=List.nodup_append.1 n123
   obtain⟨n2,n3,d23⟩:=List.nodup_append.1 n23
   have hpe:=e.mq_eq
   have hmt:=mX G (k+bV (l.take i)+1) (by omega)
   generalize hkk:k+bV (l.take i)=kk at*
   have hkI:(k:Int)+(bV (l.take i):Int)=(kk:Int):=by omega
   have w0:IntKind.i64.wrap ((kk:Int)+1)=(kk:Int)+1:=af (by omega) (by omega)
   have w2:IntKind.i64.wrap ((kk:Int)+1+1)=(kk:Int)+1+1:=af (by omega) (by omega)
   have hm2:VF Tryz.prog G bl [.p (.int .i64 ((kk:Int)+1))] (.p (.str (eb (kk+1)))):=by
    have e:((kk+1:Nat):Int)=(kk:Int)+1:=by omega
    rw[←e];exact hmt
   have e2:((kk+2:Nat):Int)=(kk:Int)+1+1:=by omega
   have mA:=λh1 ho=>DF G (bc e.args+1) e.args (by omega) h1 A I1 (kk+2) ho n1 (by omega)
   have mB:=λh1 ho=>ih e.body (by omega) h1 B I2 (kk+2+3*bc e.args) ho n2 (by omega)
   have mE:=λh1 ho=>ih e.els (by omega) h1 E I3 (kk+2+3*bc e.args+bV e.body) ho n3 (by omega)
   rw[e2] at mA
   simp-implicitDefEqProofs[-AV.cells,-AV.isCell,cP,aE,aL,cN,aF,c1,c2,c3,c4,c5,c6,s1,s2,q1,q2,hkI,w0,w2]
   refine⟨h1,?_⟩
   refine hm2.use ?_
   simp-implicitDefEqProofs[-AV.cells,-AV.isCell,cP,aE,aL,cN,aF,c1,c2,c3,c4,c5,c6,s1,s2,q1,q2,w2]
   refine⟨h1,(mA _ (oA.set_out x1 _)).mono ?_⟩
   rintro r h2 ⟨rfl,o2,f2,l2⟩
   rw[UI] at f2 l2
   have g2:h2[id]?=some (.row 5 (rows'.set i [.p (.int .i64 kk),.p (.str (eb (kk+1))),A,B,E])):=by rw[f2 id s5 x1,q1]
   simp-implicitDefEqProofs[-AV.cells,-AV.isCell,cP,aE,aL,cN,aF,c1,c2,c3,c4,c5,c6,aa,g2,q2]
   have oB2:OwnL true h2 [B] [smL e.body] I2:=oB.frame λj hj=>by
    have hne:id≠j:=λe=>x2 (by rw[e];exact hj)
    rw[f2 j (oB.lt hj) (λhm=>d123 j hm j (List.mem_append_left _ hj) rfl),Uc hne]
   refine⟨h1,(mB _ oB2).mono ?_⟩
   rintro r h3 ⟨rfl,o3,f3,l3⟩
   have g3:h3[id]?=some (.row 5 (rows'.set i [.p (.int .i64 kk),.p (.str (eb (kk+1))),A,B,E])):=by rw[f3 id (by omega) x2,g2]
   simp-implicitDefEqProofs[-AV.cells,-AV.isCell,cP,aE,aL,cN,aF,c1,c2,c3,c4,c5,c6,aa,g3,q2]
   have oE3:OwnL true h3 [E] [smL e.els] I3:=oE.frame λj hj=>by
    have:=oE.lt hj
    have hne:id≠j:=λe=>x3 (by rw[e];exact hj)
    rw[f3 j (by omega) (λhm=>d23 j hm j hj rfl),f2 j this (λhm=>d123 j hm j (List.mem_append_right _ hj) rfl),Uc hne]
   refine⟨h1,(mE _ oE3).mono ?_⟩
   rintro r h4 ⟨rfl,o4,f4,l4⟩
   have hid4:id<h4.length:=by omega
   have hwi:=w1 (i:=i) (by omega)
   have hkn:k+bV (l.take (i+1))=kk+2+3*bc e.args+bV e.body+bV e.els:=by omega
   have oA4:OwnL true h4 [A] [exL (sa (kk+2) e.args)] I1:=o2.frame λj hj=>by
    have:=o2.lt hj
    rw[f4 j (by omega) (λhm=>d123 j hj j (List.mem_append_right _ hm) rfl),f3 j this (λhm=>d123 j hj j (List.mem_append_left _ hm) rfl)]
   have oB4:OwnL true h4 [B] [smL (nK (kk+2+3*bc e.args) e.body)] I2:=o3.frame λj hj=>by
    have:=o3.lt hj
    rw[f4 j this (λhm=>d23 j hj j hm rfl)]
   have hgo:=s7 h4 [.p (.int .i64 kk),.p (.str (eb (kk+1))),A,B,E] (by rw[f4 id (by omega) x3,g3]) (λj hj hn hm=>by
    simp only[Un,not_or] at hm
    rw[f4 j (by omega) hm.2.2,f3 j (by omega) hm.2.1,f2 j hj hm.1,Uc (λe=>hn e.symm)]) (by
    rw[Pv];exact .p _ (λ_=>rfl) (.p _ (λ_=>rfl) (oA4.app (oB4.app o4)))) (Sm.cs_len _) (by omega)
   simp-implicitDefEqProofs[aa]
   refine⟨⟨i+1,h4⟩,hgo,by simp only;omega,aH hgo.2.2.2 ?_⟩
   simp[below,hid4,hwi]
   omega
  ·simp at h1
   have hie:i=l.length:=by have:=hI.1;simp at this;omega
   obtain⟨⟨rows2,d1⟩,d2,d3⟩:=hI.done (by simpa using h1) (by simp[zn])
   subst hie
   rw[UU]
   simp-implicitDefEqProofs[]
   refine⟨by simp,?_,d2,d3⟩
   have:=d1.tree (n:=l.length) (by simp[zn])
   exact this
def Fd.mq(f:Fd):Nat:=1+f.params.length+bV f.body
def cG(l:List Fd):Nat:=(l.map Fd.mq).sum
def mkF(k:Nat)(f:Fd):Fd:=⟨eb k,pJ (k+1) f.params.length,nK (k+1+f.params.length) f.body⟩
def zo(k:Nat):List Fd->List Fd
 |[]=>[]
 |s::r=>mkF k s::zo (k+s.mq) r
theorem DK(a b:List Fd):cG (a++b)=cG a+cG b:=by simp[cG]
theorem zA:∀(l:List Fd) (k:Nat),(zo k l).length=l.length
 |[],k=>rfl
 |e::r,k=>by rw[zo,Ur,zA r,Ur]
theorem Ht:∀(l:List Fd) (k i:Nat) (e:Fd),l[i]?=some e->(zo k l)[i]?=some (mkF (k+cG (l.take i)) e)
 |x::r,k,0,e,h=>by cases h;rfl
 |x::r,k,i+1,e,h=>by
  have:=Ht r (k+x.mq) i e h
  have e1:cG (x::r.take i)=x.mq+cG (r.take i):=by simp[cG]
  rw[zo,UP,this,List.take_succ_cons,e1]
  congr 2
  omega
theorem OW(k:Nat)(e:Fd):(mkF k e).cs=[.str (eb k),aD (pJ (k+1) e.params.length),smL (nK (k+1+e.params.length) e.body)]:=rfl
theorem IH{l:List Fd}{i:Nat}(h:i<l.length):cG (l.take (i+1))=cG (l.take i)+l[i].mq:=by
 rw[ah h,DK];simp[cG]
theorem CP(l:List Fd)(i:Nat):cG (l.take i)<=cG l:=by
 have e:cG l=cG (l.take i)+cG (l.drop i):=by rw[←DK,UO]
 omega
theorem JM{l:List Fd}{e:Fd}(h:e∈l):e.mq<=cG l:=by
 induction l with
 |nil=>cases h
 |cons x r ih=>
  have e1:cG (x::r)=x.mq+cG r:=by simp[cG]
  rw[e1]
  rcases Uj.1 h with rfl|h
  ·omega
  ·have:=ih h;omega
theorem Mq(l:List Fd):l.length<=cG l:=by
 induction l with
 |nil=>exact Vf _
 |cons x r ih=>
  have e1:cG (x::r)=x.mq+cG r:=by simp[cG]
  have e2:x.mq=1+x.params.length+bV x.body:=rfl
  rw[e1,Ur];omega
theorem HS(l:List Fd)(h:List AO)(v:AV)(I:List Nat)(k:Nat)(ho:OwnL true h [v] [fdL l] I)(nd:I.Nodup)(hk:k+cG l<=1152921504606846976):
 AC Tryz.prog G kj [v,.p (.int .i64 k)] h (Mkd h v I (fdL (zo k l)) (.int .i64 ((k+cG l:Nat):Int))):=by
 have hll:=Mq l
 rcases ho.inv nd with⟨h0,rfl,rfl|rfl⟩|⟨h0,_⟩|⟨id,rows,J,rfl,rfl,hr⟩
 ·have hl0:l=[]:=List.map_eq_nil_iff.1 h0
  subst hl0
  refine AC.go kH ?_
  have hst:Mkd h .nils [] (fdL (zo k [])) (.int .i64 ((k+cG []:Nat):Int)) (.ret (.p (.int .i64 k))) h:=⟨rfl,.nils 3 .nil,λ_ _ _=>rfl,Uf _⟩
  simp-implicitDefEqProofs[gQ]
  refine az (λ_:Unit=>ag 35 [(0,.nils),(1,.p (.int .i64 k)),(5,.p (.int .i64 0))]) (λ_=>h) (λ_=>True) (λ_=>0) () trivial (aH (Uf _) (by simp[below])) ?_
  intro _ _
  simp-implicitDefEqProofs[]
  exact hst
 ·have hl0:l=[]:=List.map_eq_nil_iff.1 h0
  subst hl0
  refine AC.go kH ?_
  have hst:Mkd h (.p (.lst 3 [])) [] (fdL (zo k [])) (.int .i64 ((k+cG []:Nat):Int)) (.ret (.p (.int .i64 k))) h:=⟨rfl,.p _ (λ_=>rfl) .nil,λ_ _ _=>rfl,Uf _⟩
  simp-implicitDefEqProofs[gQ]
  refine az (λ_:Unit=>ag 35 [(0,(.p (.lst 3 []))),(1,.p (.int .i64 k)),(5,.p (.int .i64 0))]) (λ_=>h) (λ_=>True) (λ_=>0) () trivial (aH (Uf _) (by simp[below])) ?_
  intro _ _
  simp-implicitDefEqProofs[]
  exact hst
 ·cases h0
 rw[Ux]
 refine AC.go kH ?_
 simp-implicitDefEqProofs[gQ]
 refine az (λa:FilS=>ag 35 [(0,.sl id 3 0 l.length),(1,.p (.int .i64 ((k+cG (l.take a.i):Nat):Int))),(5,.p (.int .i64 a.i))]) (λa=>a.h) (MkI h id 3 ((zo k l).map Fd.cs) (l.map Fd.cs) J) (λa=>l.length-a.i) ⟨0,h⟩ (MkI.init hr) ?_ ?_
 ·exact aH (Uf _) (by simp[below,cG,hr.lt])
 rintro⟨i,hh⟩ hI
 simp-implicitDefEqProofs[]
 refine bj (λh1=>?_) (λh1=>?_)
 ·simp at h1
  have hg:=Ub h1
  have hP:=IH h1
  have hM:=JM (Uo h1)
  have hT:=CP l (i+1)
  generalize l[i]=e at hg hP hM
  have hD:(l.map Fd.cs)[i]?=some e.cs:=by rw[Uk,hg];rfl
  have hA:((zo k l).map Fd.cs)[i]?=some (mkF (k+cG (l.take i)) e).cs:=by rw[Uk,Ht l k i e hg];rfl
  obtain⟨rows',r,Ji,s1,s2,s3,s4,s5,s6,s7⟩:=hI.step hD hA
  obtain⟨A,B,I1,I2,rfl,rfl,oA,oB⟩:=LT s3
  obtain⟨c1,c2⟩:=dy oA
  obtain⟨c3,c4⟩:=dy oB
  have q1:∀x,(hh.set id x)[id]?=some x:=λx=>Ug s5
  have q2:∀x,(rows'.set i x)[i]?=some x:=λx=>Ug s6
  rw[UX] at s4
  obtain⟨hnid,n12⟩:=s4
  simp only[Un,not_or] at hnid
  obtain⟨x1,x2⟩:=hnid
  obtain⟨n1,n2,d12⟩:=List.nodup_append.1 n12
  have hpe:e.mq=1+e.params.length+bV e.body:=rfl
  have hmt:=mX G (k+cG (l.take i)) (by omega)
  generalize hkk:k+cG (l.take i)=kk at*
  have hkI:(k:Int)+(cG (l.take i):Int)=(kk:Int):=by omega
  have w0:IntKind.i64.wrap ((kk:Int)+1)=(kk:Int)+1:=af (by omega) (by omega)
  have e2:((kk+1:Nat):Int)=(kk:Int)+1:=by omega
  have mA:=λh1 ho=>Qf G h1 A I1 e.params (kk+1) ho n1 (by omega)
  have mB:=λh1 ho=>ER G (bV e.body+1) e.body (by omega) h1 B I2 (kk+1+e.params.length) ho n2 (by omega)
  rw[e2] at mA
  simp-implicitDefEqProofs[-AV.cells,-AV.isCell,cP,aE,aL,cN,aF,c1,c2,c3,c4,s1,s2,q1,q2,hkI,w0]
  refine hmt.use ?_
  simp-implicitDefEqProofs[-AV.cells,-AV.isCell,cP,aE,aL,cN,aF,c1,c2,c3,c4,s1,s2,q1,q2,w0]
  refine⟨h1,(mA _ (oA.set_out x1 _)).mono ?_⟩
  rintro r h2 ⟨rfl,o2,f2,l2⟩
  rw[UI] at f2 l2
  have g2:h2[id]?=some (.row 3 (rows'.set i [.p (.str (eb kk)),A,B])):=by rw[f2 id s5 x1,q1]
  simp-implicitDefEqProofs[-AV.cells,-AV.isCell,cP,aE,aL,cN,aF,c1,c2,c3,c4,aa,g2,q2]
  have oB2:OwnL true h2 [B] [smL e.body] I2:=oB.frame λj hj=>by
   have hne:id≠j:=λe=>x2 (by rw[e];exact hj)
   rw[f2 j (oB.lt hj) (λhm=>d12 j hm j hj rfl),Uc hne]
  refine⟨h1,(mB _ oB2).mono ?_⟩
  rintro r h3 ⟨rfl,o3,f3,l3⟩
  have hid3:id<h3.length:=by omega
  have hwi:=w1 (i:=i) (by omega)
  have hkn:k+cG (l.take (i+1))=kk+1+e.params.length+bV e.body:=by omega
  have oA3:OwnL true h3 [A] [aD (pJ (kk+1) e.params.length)] I1:=o2.frame λj hj=>by
   have:=o2.lt hj
   rw[f3 j this (λhm=>d12 j hj j hm rfl)]
  have hgo:=s7 h3 [.p (.str (eb kk)),A,B] (by rw[f3 id (by omega) x2,g2]) (λj hj hn hm=>by
   simp only[Un,not_or] at hm
   rw[f3 j (by omega) hm.2,f2 j hj hm.1,Uc (λe=>hn e.symm)]) (by
   rw[OW];exact .p _ (λ_=>rfl) (oA3.app o3)) (Fd.cs_len _) (by omega)
  simp-implicitDefEqProofs[aa]
  refine⟨⟨i+1,h3⟩,hgo,by simp only;omega,aH hgo.2.2.2 ?_⟩
  simp[below,hid3,hwi]
  omega
 ·simp at h1
  have hie:i=l.length:=by have:=hI.1;simp at this;omega
  obtain⟨⟨rows2,d1⟩,d2,d3⟩:=hI.done (by simpa using h1) (by simp[zA])
  subst hie
  rw[UU]
  simp-implicitDefEqProofs[]
  refine⟨by simp,?_,d2,d3⟩
  have:=d1.tree (n:=l.length) (by simp[zA])
  exact this
theorem Al(l:List Fd)(h:List AO)(v:AV)(I:List Nat)(k:Nat)(ho:OwnL true h [v] [fdL l] I)(nd:I.Nodup)(hk:k+cG l<=1152921504606846976):
 AC Tryz.prog G fT [.agg [v],.p (.int .i64 k)] h (Mkd h v I (fdL (zo k l)) (.int .i64 ((k+cG l:Nat):Int))):=by
 obtain⟨c1,c2⟩:=dy ho
 have hm:=HS G l (h++[.row 1 [[v]]]) v I k (ho.more _) nd hk
 refine AC.go rY ?_
 simp-implicitDefEqProofs[-AV.cells,-AV.isCell,cP,aE,aL,cN,aF,c1,c2,kK]
 refine hm.mono ?_
 rintro r h2 ⟨rfl,o2,f2,l2⟩
 simp-implicitDefEqProofs[aa]
 rw[Uu] at f2 l2
 refine⟨by simp,o2,λj hj hn=>?_,by omega⟩
 rw[f2 j (by omega) hn,Ue hj]
end
section
abbrev Ng:Nat:=0
def ME:List PV:=[.int .i64 0,.int .i64 0,.int .i64 0,.int .i64 1,.int .i64 2,.int .i64 3,.int .i64 255,.int .i64 16,.int .i64 7]
variable (G:aq)
theorem Ln(L:List (List PV))(hl:∀x∈L,x.length=1)(hne:L≠[])(hb:L.length<=1048576):AC Tryz.prog G dG [.p (.lst 1 L)] [] λx h=>x= .ret (.sl 1 1 0 L.length)/\h=[.dead,.row 1 (L.map (·.map .p))]:=by
 obtain⟨x,r,rfl⟩:=List.exists_cons_of_ne_nil hne
 refine AC.go su ?_
 simp-implicitDefEqProofs[jX]
 simp at hb
 omega
end
section
variable (G:aq)
variable (hT:G Ng=some ME)
include hT
omit hT
theorem pk{h:List AO}{id:Nat}{l:List Int}(e:h[id]?=some (jD l)){n:Nat}(hn:n=l.length):OwnL true h [.sl id 1 0 n] [ay l] [id]:=by
 subst hn
 have hf:∀l:List Int,OwnL true h (l.map λw=>[AV.p (.int .i64 w)]).flatten (l.map λw=>[PV.int .i64 w]).flatten []:=by
  intro l
  induction l with
  |nil=>exact .nil
  |cons w r ih=>exact .p _ (λ_=>rfl) ih
 have:RowOwn true h id 1 (l.map λw=>[.p (.int .i64 w)]) (l.map λw=>[.int .i64 w]) []:=⟨e,by simp,by simp,by simp,hf l,by simp⟩
 exact this.tree (by simp)
include hT
end
section
variable (G:aq)
theorem MW(l:List Fd)(us:List Int)(fuel:Nat):oW l us fuel=[.row 1 [[.p (fdL l)]],.row 1 [[.p (ay us)]],.row 4 [[.nils,.p (.int .i64 0),.p (.int .i64 0),.nils]],.row 20 [[.p (fdL l),.p (.int .i64 fuel),.p (.int .i64 0),.nils,.p (.int .i64 0),.p (.int .i64 0),.p (.int .i64 0),.p (.int .i64 0),.p (.int .i64 0),.p (.int .i64 0),.p (.int .i64 0),.p (.int .i64 0),.p (.int .i64 0),.p (.int .i64 0),.p (.int .i64 0),.p (.int .i64 0),.p (.int .i64 0),.p (.int .i64 0),.p (.int .i64 0),.p (.int .i64 0)]],.row 1 [[.ptr 3 20 0 0]],.row 4 [[.nils,.p (.int .i64 0),.p (.int .i64 0),.nils]]]:=by
 simp[oW,hZ,s0,List.replicate]
theorem sX:AK.whole gn=FK.ak gi:=rfl
end
section
variable (G:aq)
theorem Ef(n:Int):VF Tryz.prog G cm [.p (.int .i64 n)] (.p (.bool (!inR n 0 255))):=by
 refine AC.go tZ ?_
 simp-implicitDefEqProofs[mf]
 refine(DT G n).use ?_
 simp-implicitDefEqProofs[]
def vD(us:List Int):Option Nat:=us.findIdx? λn=> !inR n 0 255
theorem Fx(us:List Int)(hl:us.length<=1000000000000):VF Tryz.prog G dH [.p (ay us),.fn (.func cm) []] (.p (.int .i64 (ixI (vD us)))):=by
 have hnL:ay us= .lst 1 (us.map λn=>[.int .i64 n]):=rfl
 refine AC.go mT ?_
 simp-implicitDefEqProofs[gh,hnL]
 refine az (λi:Nat=>ag 19 [(8,.p (.int .i64 i)),(7,.p (.int .i64 us.length)),(0,.p (.lst 1 (us.map λn=>[.int .i64 n]))),(1,.fn (.func cm) [])]) (λ_=>[]) (λi=>i<=us.length/\∀n∈us.take i,inR n 0 255=true) (λi=>us.length-i) 0 (by simp) ?_ ?_
 ·exact aG rfl (by simp[below])
 intro i ⟨hi,hn⟩
 have hwi:=w1 (i:=i) (by omega)
 by_cases h1:i<us.length
 ·have hg:us[i]?=some us[i]:=Ub h1
  simp-implicitDefEqProofs[h1,hg]
  refine(Ef G us[i]).use ?_
  cases hb:inR us[i] 0 255 with
  |false=>
   have hf:vD us=some i:=by
    rw[vD,Us]
    exact⟨h1,by simp[hb],λj hj=>by have:=hn us[j] (UZ.2 ⟨j,by omega,rfl⟩);simp[this]⟩
   simp-implicitDefEqProofs[hf,ixI]
  |true=>
   simp-implicitDefEqProofs[hwi]
   refine⟨i+1,⟨by omega,λp hp=>?_⟩,by omega,aG rfl (by simp[below])⟩
   rw[ah h1] at hp
   rcases Un.1 hp with hp|hp
   ·exact hn p hp
   ·rw[Up.1 hp];exact hb
 ·have hie:i=us.length:=by omega
  subst hie
  rw[UU] at hn
  have hf:vD us=none:=by
   rw[vD,UH]
   intro x hx
   simp[hn x hx]
  simp-implicitDefEqProofs[hf,ixI]
theorem Lf(us:List Int)(hl:us.length<=1000000000000):VF Tryz.prog G cD [.p (ay us),.fn (.func cm) []] (.p (.bool (!us.all λv=>inR v 0 255))):=by
 refine AC.go kY ?_
 simp-implicitDefEqProofs[eU]
 refine(Fx G us hl).use ?_
 simp-implicitDefEqProofs[]
 cases hb:vD us with
 |none=>
  have:(us.all λv=>inR v 0 255)=true:=by
   rw[vD,UH] at hb
   rw[Ui]
   intro x hx
   simpa using hb x hx
  rw[this];simp[ixI]
 |some i=>
  have:(us.all λv=>inR v 0 255)=false:=by
   rw[vD,Us] at hb
   obtain⟨h1,h2,_⟩:=hb
   rw[List.all_eq_false]
   exact⟨us[i],Uo h1,by simpa using h2⟩
  rw[this];simp[ixI]
def ov(us:List Int)(n:Nat):Bool:=decide (us.length=n)&&us.all λv=>inR v 0 255
theorem Hx(us:List Int)(n:Nat)(hl:us.length<=1000000000000):VF Tryz.prog G kx [.p (ay us),.p (.int .i64 n)] (.p (.bool (ov us n))):=by
 have hnL:ay us= .lst 1 (us.map λn=>[.int .i64 n]):=rfl
 refine AC.go zs ?_
 by_cases h:us.length=n
 ·have h':(us.length:Int)=(n:Int):=by omega
  simp-implicitDefEqProofs[ke,hnL,h']
  rw[←hnL]
  refine(Lf G us hl).use ?_
  simp-implicitDefEqProofs[ov,h]
 ·have h':¬(us.length:Int)=(n:Int):=by omega
  simp-implicitDefEqProofs[ke,hnL,h',ov,h]
def gk(l:List Fd)(us:List Int):Bool:=decide (aP l=0)&&(match l[l.length-1]? with|some f=>ov us f.params.length|none=>false)
variable (hK:G iy=some gy) (hS:G dK=some [.tbl opK opV])
include hK hS
theorem DP(l:List Fd)(us:List Int)(hz:be l<=1073741824)(hl:us.length<=1000000000000):VF Tryz.prog G md [.agg [.p (fdL l)],.p (ay us)] (.p (.bool (gk l us))):=by
 have hfl:fdL l= .lst 3 (l.map Fd.cs):=rfl
 have hll:l.length<=be l:=ia l
 refine AC.go Ay ?_
 simp-implicitDefEqProofs[rk]
 refine(OZ G hK hS l hz).use ?_
 by_cases hc:aP l=0
 ·have h0:0<l.length:=by have:=(ij hc).1;cases l<;>simp_all
  have hn1:IntKind.i64.wrap ((l.length:Int)-1)=((l.length-1:Nat):Int):=by rw[af (by omega) (by omega)];omega
  have hg:l[l.length-1]?=some l[l.length-1]:=Ub (by omega)
  generalize l[l.length-1]=f at hg
  have hfc:f.cs=[.str f.name,aD f.params,smL f.body]:=rfl
  have hpL:aD f.params= .lst 1 (f.params.map λw=>[.str w]):=rfl
  simp-implicitDefEqProofs[hc,hfl,hn1,hg,hfc,hpL]
  refine(Hx G us f.params.length hl).use ?_
  simp-implicitDefEqProofs[gk,hc,hg]
 ·simp-implicitDefEqProofs[hc,gk]
end
section
variable (G:aq)
def Nv(n:Int)(vs:List AV):AV:= .tup [.agg vs,.p (.int .i64 n)]
theorem Lq{h:List AO}{l:List Fd}{fuel:Nat}{sv:AV}{s:S5}(hm:h[3]?=some (hZ l fuel sv s))(hc:s.cells.length=16):AC Tryz.prog G dG [.sl 3 1 4 16] h λy h'=>y= .ret (.sl (h.length+1) 1 0 16)/\h'=h++[.dead,jD s.cells]:=by
 have H:=Ln G (s.cells.map λv=>[.int .i64 v]) (λy hy=>by obtain⟨_,_,rfl⟩:=Uw.1 hy;rfl) (by intro e;rw[List.map_eq_nil_iff] at e;rw[e] at hc;cases hc) (by rw[Ux];omega)
 rw[Ux,hc] at H
 have e:AO.row 1 ((s.cells.map λv=>[PV.int .i64 v]).map (·.map .p))=jD s.cells:=by
  rw[jD,List.map_map];rfl
 rw[e] at H
 have hv:View h (.sl 3 1 4 16) (.lst 1 (s.cells.map λv=>[.int .i64 v])):=by
  have:=View.fl (h:=h) 3 20 4 _ (s.cells.map (PV.int .i64)) hm λi q hq=>by
   rw[Uk] at hq
   obtain⟨n,hn,rfl⟩:=Ud.1 hq
   rw[UJ,List.flatten_nil,UG,Um (by simp),Uk]
   simp[hn]
  rw[Ux,hc,List.map_map] at this
  exact this
 refine(H.lend (.one hv .nil) rfl (by simp[cleanO,jD,dU,clean])).mono ?_
 rintro y h' ⟨rfl,rfl⟩
 refine⟨rfl,?_⟩
 have:fv h.length (jD s.cells)=jD s.cells:=by
  simp only[fv,jD,List.map_map];rfl
 simp only[UA,List.map_nil,this];rfl
theorem CF{l:List Fd}{us:List Int}{fuel:Nat}{s':S5}{r:O5 Int}(hc:aP l=0)(hz:be l<=1073741824)(hl:0<l.length)(hu:∀n∈us,V5 n)(hfu:fuel<=4000)(hE:Ev l (.cal (l.length-1) us (s0 fuel) s' r)):
 AC Tryz.prog G gA [.agg [.p (fdL l)],.p (ay us),.p (.int .i64 fuel)] [] (MkW (Nv ((fuel-s'.left:Nat):Int)) true (KD s' r)):=by
 refine AC.goK sR sX ?_
 simp-implicitDefEqProofs[gn,gi]
 rw[←MW]
 refine AA (λ_:List AO=>ag 33 [(6,.ptr 2 4 0 0),(7,.p (.int .i64 0)),(8,.ptr 4 1 0 0),(9,.ptr 5 4 0 0)]) (λh=>h)
  (λh=>∃sv sid,MI 3 l fuel sv sid s' h/\(sid=3\/7<=sid)/\h[2]?=some (.row 4 [[.nils,.p (.int .i64 0),.p (.int .i64 0),.nils]])/\h[4]?=some (.row 1 [[.ptr 3 20 0 0]])/\h[5]?=some (.row 4 [[.nils,.p (.int .i64 (bC r)),.p (.int .i64 (Dm r)),.nils]])) ?_ ?_
 ·simp-implicitDefEqProofs[]
  refine(Kl G dd [.ptr 4 1 0 0,.ptr 0 1 0 0,.ptr 1 1 0 0,.ptr 5 4 0 0] (oW l us fuel) (λx h'=>∃h2 sv sid,x= .ret (.p (.int .i64 (bC r)))/\MI 3 l fuel sv sid s' h'/\(sid=3\/7<=sid)/\h'[2]?=some (.row 4 [[.nils,.p (.int .i64 0),.p (.int .i64 0),.nils]])/\h'[4]?=some (.row 1 [[.ptr 3 20 0 0]])/\h'[5]?=some (.row 4 [[.nils,.p (.int .i64 0),.p (.int .i64 (Dm r)),.nils]])/\h2=h') ?_).mono ?_
  ·refine(OH G hc hz hl hu hfu hE).mono ?_
   rintro x h' ⟨sv,sid,h2,q1,q2,q3,q4⟩
   have e6:h2[6]?=some (.row 1 [[.p (.int .i64 0)]]):=(q2.2 6 (by simp[oW]) (by simp)).trans rfl
   have e2:h2[2]?=some (.row 4 [[.nils,.p (.int .i64 0),.p (.int .i64 0),.nils]]):=(q2.2 2 (by simp[oW]) (by simp)).trans rfl
   have e4:h2[4]?=some (.row 1 [[.ptr 3 20 0 0]]):=(q2.2 4 (by simp[oW]) (by simp)).trans rfl
   have e5:h2[5]?=some (.row 4 [[.nils,.p (.int .i64 0),.p (.int .i64 0),.nils]]):=(q2.2 5 (by simp[oW]) (by simp)).trans rfl
   have hl6:=(Ua.1 e6).1
   have hlen:(oW l us fuel).length=6:=by simp[oW]
   rw[hlen]
   cases r with
   |ok n=>
    obtain⟨rfl,rfl⟩:=q4
    refine⟨0,.inl ⟨rfl,rfl⟩,by rw[Uc (by omega)];exact e6,_,sv,sid,rfl,q1.frame (by simp) (by rw[Uc (by omega),Uc (by omega)]) (by rw[Uc (by omega),Uc (by omega)]),q3,?_,?_,?_,rfl⟩
    ·rw[Uc (by omega),Uc (by omega)];exact e2
    ·rw[Uc (by omega),Uc (by omega)];exact e4
    ·rw[Uc (by omega),Ug (by omega)];rfl
   |st c=>
    obtain⟨rfl,rfl⟩:=q4
    refine⟨c,.inr rfl,e6,_,sv,sid,rfl,q1.frame (by simp) (by rw[Uc (by omega)]) (by rw[Uc (by omega)]),q3,?_,?_,?_,rfl⟩
    ·rw[Uc (by omega)];exact e2
    ·rw[Uc (by omega)];exact e4
    ·rw[Uc (by omega)];exact e5
  ·rintro z h' ⟨h2,sv,sid,rfl,q1,q2,q3,q4,q5,rfl⟩
   simp-implicitDefEqProofs[aa,q5]
   have hl5:=(Ua.1 q5).1
   have hH:=q1.frame (h':=h2.set 5 (.row 4 [[.nils,.p (.int .i64 (bC r)),.p (.int .i64 (Dm r)),.nils]])) (by simp) (by rw[Uc (by omega)]) (by rw[Uc (by omega)])
   exact⟨_,⟨sv,sid,hH,q2,(Uc (by omega)).trans q3,(Uc (by omega)).trans q4,Ug hl5⟩,aH (Vf _) (by simp[below];omega)⟩
 ·rintro h ⟨sv,sid,hM,hsid,q2,q4,q5⟩
  have qc:=hM.len
  obtain⟨c1,c2⟩:=hM.said.cell
  have q3:=hM.men
  have hcl:=Lq G q3 qc
  obtain⟨M,hMe⟩:∃M,M=[.p (fdL l),.p (.int .i64 fuel),.p (.int .i64 ((fuel-s'.left:Nat):Int)),sv]++s'.cells.map λn=>AV.p (.int .i64 n):=⟨_,rfl⟩
  have hml:M.length=20:=by rw[hMe];simp[qc]
  have m2:M[2]?=some (.p (.int .i64 ((fuel-s'.left:Nat):Int))):=by rw[hMe];rfl
  have m3:M[3]?=some sv:=by rw[hMe];rfl
  have q3':h[3]?=some (.row 20 [M]):=by rw[q3,hMe];rfl
  have hl5:=(Ua.1 q5).1
  have a5:∀os,(h++os)[5]?=_:=λos=>(Ue hl5).trans q5
  have a4:∀os,(h++os)[4]?=_:=λos=>(Ue (by omega)).trans q4
  have a3:∀os,(h++os)[3]?=_:=λos=>(Ue (by omega)).trans q3'
  have a2:∀os,(h++os)[2]?=_:=λos=>(Ue (by omega)).trans q2
  have m2':∀q,M[2]'q= .p (.int .i64 ((fuel-s'.left:Nat):Int)):=λq=>by rw[Ub q] at m2;exact Option.some.inj m2
  have m3':∀q,M[3]'q=sv:=λq=>by rw[Ub q] at m3;exact Option.some.inj m3
  simp-implicitDefEqProofs[-AV.cells,-AV.isCell,cP,aE,aL,Ko,FL,cN,aF,Mv,FM,c1,c2,q2,q3',q4,q5,hml,m3',m2']
  refine hcl.mono ?_
  rintro z h' ⟨rfl,rfl⟩
  have s55:∀os z,((h++os).set 5 z)[5]?=some z:=λos z=>Ug (by simp;omega)
  have s54:∀os z,((h++os).set 5 z)[4]?=_:=λos z=>(Uc (by omega)).trans (a4 os)
  have s53:∀os z,((h++os).set 5 z)[3]?=_:=λos z=>(Uc (by omega)).trans (a3 os)
  have s52:∀os z,((h++os).set 5 z)[2]?=_:=λos z=>(Uc (by omega)).trans (a2 os)
  have s22:∀os z w,(((h++os).set 5 z).set 2 w)[2]?=some w:=λos z w=>Ug (by simp;omega)
  have s24:∀os z w,(((h++os).set 5 z).set 2 w)[4]?=_:=λos z w=>(Uc (by omega)).trans (s54 os z)
  have s23:∀os z w,(((h++os).set 5 z).set 2 w)[3]?=_:=λos z w=>(Uc (by omega)).trans (s53 os z)
  simp-implicitDefEqProofs[-AV.cells,-AV.isCell,cP,aE,aL,Ko,FL,cN,aF,Mv,FM,c1,c2,aa, ↓a5, ↓a4, ↓a3, ↓a2, ↓s55, ↓s54, ↓s53, ↓s52, ↓s22, ↓s24, ↓s23,hml,m3',m2']
  generalize hz1:AO.row 4 [[sv,.p (.int .i64 (bC r)),.p (.int .i64 (Dm r)),.sl (h.length+1) 1 0 16]]=z1
  have hg:∀i,i≠2->i≠5->i<h.length->(((h++[AO.dead,jD s'.cells]).set 5 z1).set 2 z1)[i]?=h[i]?:=λi i2 i5 il=>by
   rw[Uc (by omega),Uc (by omega),Ue il]
  have hc16:(((h++[AO.dead,jD s'.cells]).set 5 z1).set 2 z1)[h.length+1]?=some (jD s'.cells):=by
   rw[Uc (by omega),Uc (by omega),Um (by omega)]
   simp
  generalize ((h++[AO.dead,jD s'.cells]).set 5 z1).set 2 z1=H at hg hc16
  have key:∃J,OwnL true H [sv] [ay s'.said] J/\(∀j∈J,j<h.length)/\J.Nodup:=by
   have hsd:=hM.said
   have hne:=hM.neS
   generalize s'.said=xs at hsd hne
   cases hsd with
   |nn _ _=>exact⟨[],.nils 1 .nil,λj hj=>by simp at hj,List.nodup_nil⟩
   |ss _ _ q=>
    have hn3:sid≠3:=λe=>hne (by simp) e.symm
    have hsl:=(Ua.1 q).1
    exact⟨[sid],pk (by rw[hg sid (by omega) (by omega) hsl];exact q) rfl,λj hj=>by simp at hj;omega,by simp⟩
  obtain⟨J,o1,o2,o3⟩:=key
  refine⟨[sv,.p (.int .i64 (bC r)),.p (.int .i64 (Dm r)),.sl (h.length+1) 1 0 16],J++([]++[h.length+1]),rfl,?_,?_⟩
  ·exact o1.app (c:=[ay s'.said]) (.p _ (λ_=>rfl) (.p _ (λ_=>rfl) (pk hc16 qc.symm)))
  ·rw[List.nodup_append]
   refine⟨o3,by simp,λa ha b hb=>?_⟩
   have:=o2 a ha
   simp at hb
   omega
theorem Kh(n:Int):Shp (Nv n):=⟨λ_ _=>rfl,λ_ _=>rfl,λvs h=>by simp[Nv,Go.Aw.clean,dU,h],λn vs h=>⟨h,True.intro,True.intro⟩,λ_ _ _ h=> .tup (.agg h (.one (.p _) .nil)) .nil⟩
variable (hK:G iy=some gy) (hS:G dK=some [.tbl opK opV])
include hK hS
theorem Bd{l:List Fd}{us:List Int}{fuel:Int}(hz:be l<=1073741824)(hl:us.length<=1000000000000)(ho:gk l us=false\/inR fuel 0 4000=false):
 AC Tryz.prog G bh [.agg [.p (fdL l)],.p (ay us),.p (.int .i64 fuel)] [] (MkW (AM false) true [ay [],.int .i64 0,.int .i64 0,ay []]):=by
 refine AC.go lF ?_
 have fin:MkW (AM false) true [ay [],.int .i64 0,.int .i64 0,ay []] (.ret (.tup [.agg [.nils,.p (.int .i64 0),.p (.int .i64 0),.nils],.p (.bool false)]))=λh=>MkW (AM false) true [ay [],.int .i64 0,.int .i64 0,ay []] (.ret (.tup [.agg [.nils,.p (.int .i64 0),.p (.int .i64 0),.nils],.p (.bool false)])) h:=rfl
 have fin2:∀h,MkW (AM false) true [ay [],.int .i64 0,.int .i64 0,ay []] (.ret (.tup [.agg [.nils,.p (.int .i64 0),.p (.int .i64 0),.nils],.p (.bool false)])) h:=λh=>⟨[.nils,.p (.int .i64 0),.p (.int .i64 0),.nils],[],rfl,.nils 1 (.p _ (λ_=>rfl) (.p _ (λ_=>rfl) (.nils 1 .nil))),List.nodup_nil⟩
 clear fin
 simp-implicitDefEqProofs[gR]
 refine(DP G hK hS l us hz hl).use ?_
 cases hq:gk l us with
 |false=>
  simp-implicitDefEqProofs[]
  exact fin2 _
 |true=>
  have hf:inR fuel 0 4000=false:=by rw[hq] at ho;simpa using ho
  simp-implicitDefEqProofs[]
  refine(kS G fuel 0 4000).use ?_
  simp-implicitDefEqProofs[hf]
  exact fin2 _
theorem AJ{l:List Fd}{us:List Int}{fuel:Nat}{s':S5}{r:O5 Int}(hz:be l<=1073741824)(hl:us.length<=1000000000000)(ho:gk l us=true)(hc:aP l=0)(h0:0<l.length)(hu:∀n∈us,V5 n)(hfu:fuel<=4000)(hE:Ev l (.cal (l.length-1) us (s0 fuel) s' r)):
 AC Tryz.prog G bh [.agg [.p (fdL l)],.p (ay us),.p (.int .i64 fuel)] [] (MkW (AM true) true (KD s' r)):=by
 have hf:inR (fuel:Int) 0 4000=true:=by simp[inR];omega
 refine AC.go lF ?_
 simp-implicitDefEqProofs[gR]
 refine(DP G hK hS l us hz hl).use ?_
 simp-implicitDefEqProofs[ho]
 refine(kS G fuel 0 4000).use ?_
 simp-implicitDefEqProofs[hf]
 refine(AC.mkLift (Kh _) (CF G hc hz h0 hu hfu hE) (by simp[below])).mono ?_
 rintro x h ⟨vs,I,os,rfl,e,hw,nd,hI⟩
 obtain⟨a,b,c,d,rfl⟩:=PG (r:=vs) hw.len
 have hcl:∀u∈[a,b,c,d],u.isCell=true:=Ui.1 hw.cells
 have g1:∀u:AV,u.isCell=true->u.cells=[u]:=λu h=>by cases u<;>first|rfl|cases h
 have k1:=hcl a (by simp)
 have k2:=hcl b (by simp)
 have k3:=hcl c (by simp)
 have k4:=hcl d (by simp)
 have h1:∀os,(h++os)[1]?=some (.row 4 [[.nils,.p (.int .i64 0),.p (.int .i64 0),.nils]]):=λos=>by rw[e];rfl
 have hl2:2<=h.length:=by rw[e];simp
 have s11:∀os z,((h++os).set 1 z)[1]?=some z:=λos z=>Ug (by simp;omega)
 simp-implicitDefEqProofs[-AV.cells,-AV.isCell,cP,aE,aL,cN,aF,aa,Nv,k1,k2,k3,k4,g1 _ k1,g1 _ k2,g1 _ k3,g1 _ k4, ↓h1, ↓s11]
 refine⟨[a,b,c,d],I,rfl,hw.frame λi hi=>?_,nd⟩
 have:=hw.lt hi
 have:=hI i hi
 simp at this
 rw[Uc (by omega),Ue (by omega)]
end
section
variable (G:aq)
theorem Gp(us:List Int)(hl:us.length<=1000000000000):VF Tryz.prog G jg [.p (ay us)] (.p (.bool (us.all λv=>inR v 0 255))):=by
 have hnL:ay us= .lst 1 (us.map λn=>[.int .i64 n]):=rfl
 refine AC.go vK ?_
 simp-implicitDefEqProofs[nz,hnL]
 refine az (λi:Nat=>ag 16 [(3,.p (.int .i64 i)),(0,.p (.lst 1 (us.map λn=>[.int .i64 n])))]) (λ_=>[]) (λi=>i<=us.length/\∀n∈us.take i,inR n 0 255=true) (λi=>us.length-i) 0 (by simp) ?_ ?_
 ·exact aG rfl (by simp[below])
 intro i ⟨hi,hn⟩
 have hwi:=w1 (i:=i) (by omega)
 by_cases h1:i<us.length
 ·have hg:us[i]?=some us[i]:=Ub h1
  simp-implicitDefEqProofs[h1,hg]
  refine(og G us[i] 0 255).use ?_
  cases hb:inR us[i] 0 255 with
  |false=>
   have hf:(us.all λv=>inR v 0 255)=false:=by
    rw[List.all_eq_false]
    exact⟨us[i],Uo h1,by simp[hb]⟩
   simp-implicitDefEqProofs[hf]
  |true=>
   simp-implicitDefEqProofs[hwi]
   refine⟨i+1,⟨by omega,λp hp=>?_⟩,by omega,aG rfl (by simp[below])⟩
   rw[ah h1] at hp
   rcases Un.1 hp with hp|hp
   ·exact hn p hp
   ·rw[Up.1 hp];exact hb
 ·have hie:i=us.length:=by omega
  subst hie
  rw[UU] at hn
  have hf:(us.all λv=>inR v 0 255)=true:=by
   rw[Ui];exact hn
  simp-implicitDefEqProofs[hf]
theorem DV(l:List Fd)(us:List Int)(hz:be l<=1073741824)(hl:us.length<=1000000000000):VF Tryz.prog G lP [.agg [.p (fdL l)],.p (ay us)] (.p (.bool (gk l us))):=by
 have hfl:fdL l= .lst 3 (l.map Fd.cs):=rfl
 have hnL:ay us= .lst 1 (us.map λn=>[.int .i64 n]):=rfl
 have hll:l.length<=be l:=ia l
 refine AC.go Au ?_
 simp-implicitDefEqProofs[rF]
 refine(KO G l hz).use ?_
 by_cases hc:aP l=0
 ·have h0:0<l.length:=by have:=(ij hc).1;cases l<;>simp_all
  have hn1:IntKind.i64.wrap ((l.length:Int)-1)=((l.length-1:Nat):Int):=by rw[af (by omega) (by omega)];omega
  have hg:l[l.length-1]?=some l[l.length-1]:=Ub (by omega)
  generalize l[l.length-1]=f at hg
  have hfc:f.cs=[.str f.name,aD f.params,smL f.body]:=rfl
  have hpL:aD f.params= .lst 1 (f.params.map λw=>[.str w]):=rfl
  simp-implicitDefEqProofs[hc]
  refine(Gp G us hl).use ?_
  cases hb:(us.all λv=>inR v 0 255) with
  |false=>simp-implicitDefEqProofs[gk,ov,hc,hg,hb]
  |true=>
   by_cases hq:us.length=f.params.length
   ·have hq':(us.length:Int)=(f.params.length:Int):=by omega
    simp-implicitDefEqProofs[hfl,hnL,hn1,hg,hfc,hpL,gk,ov,hc,hb,hq,hq']
   ·have hq':¬(us.length:Int)=(f.params.length:Int):=by omega
    simp-implicitDefEqProofs[hfl,hnL,hn1,hg,hfc,hpL,gk,ov,hc,hb,hq,hq']
 ·simp-implicitDefEqProofs[hc,gk]
theorem AS{l:List Fd}{us:List Int}{fuel:Int}(hz:be l<=1073741824)(hl:us.length<=1000000000000)(ho:gk l us=false\/inR fuel 0 4000=false):
 VF Tryz.prog G bT [.agg [.p (fdL l)],.p (ay us),.p (.int .i64 fuel)] (.tup [.agg [.p (ay []),.p (.int .i64 0),.p (.int .i64 0),.p (ay [])],.p (.bool false)]):=by
 have key:AC Tryz.prog G bT [.agg [.p (fdL l)],.p (ay us),.p (.int .i64 fuel)] [] λx h=>x= .ret (.tup [.agg [.nils,.p (.int .i64 0),.p (.int .i64 0),.nils],.p (.bool false)]):=by
  refine AC.go lv ?_
  simp-implicitDefEqProofs[gw]
  refine(DV G l us hz hl).use ?_
  cases hq:gk l us with
  |false=>simp-implicitDefEqProofs[]
  |true=>
   have hf:inR fuel 0 4000=false:=by rw[hq] at ho;simpa using ho
   simp-implicitDefEqProofs[]
   refine(og G fuel 0 4000).use ?_
   simp-implicitDefEqProofs[hf]
 refine key.freezeR (λt v h e=>by cases e) λv h e=>?_
 cases e
 exact .tup (.agg (.one (.nils 1) (.keep (by simp) (.keep (by simp) (.one (.nils 1) .nil)))) (.keep (by simp) .nil)) .nil
theorem AN{l:List Fd}{f:Fd}{us:List Int}{fuel:Nat}{s':S5}{r:O5 Int}(hz:be l<=1073741824)(hl:us.length<=1000000000000)(ho:gk l us=true)(hc:aP l=0)(hf:l[l.length-1]?=some f)(hp:us.length=f.params.length)(hu:∀n∈us,V5 n)(hfu:fuel<=4000)(hE:Ev l (.cal (l.length-1) us (s0 fuel) s' r)):
 VF Tryz.prog G bT [.agg [.p (fdL l)],.p (ay us),.p (.int .i64 fuel)] (.tup [.agg ((KD s' r).map .p),.p (.bool true)]):=by
 have hq:inR (fuel:Int) 0 4000=true:=by simp[inR];omega
 refine AC.go lv ?_
 simp-implicitDefEqProofs[gw]
 refine(DV G l us hz hl).use ?_
 simp-implicitDefEqProofs[ho]
 refine(og G fuel 0 4000).use ?_
 simp-implicitDefEqProofs[hq]
 refine(PR G hc hz hf hp hu hfu hE).use ?_
 simp-implicitDefEqProofs[KD]
end
section
variable (G:aq)
theorem uM(xs:List Int)(hb:xs.length<=1048576):VF Tryz.prog G fC [.p (ay xs),.p (ay xs)] (.p (.bool true)):=by
 refine AC.go AD ?_
 have hsl:∀l,ay l= .lst 1 (l.map λw=>[.int .i64 w]):=λ_=>rfl
 simp-implicitDefEqProofs[ry,hsl]
 refine az (λi:Nat=>ag 26 [(0,.p (ay xs)),(1,.p (ay xs)),(5,.p (.int .i64 i))]) (λ_=>[]) (λi=>i<=xs.length) (λi=>xs.length-i) 0 (by simp) ?_ ?_
 ·exact aG rfl (by simp[below,ay])
 intro i hi
 simp-implicitDefEqProofs[hsl]
 refine bj (λh1=>?_) (λh1=>?_)
 ·simp at h1
  have hg:xs[i]?=some xs[i]:=Ub h1
  generalize xs[i]=x at hg
  simp-implicitDefEqProofs[hg]
  refine⟨i+1,by omega,by omega,aG rfl ?_⟩
  simp[below,ay,w1 (i:=i) (by omega)]
 ·simp at h1
  simp-implicitDefEqProofs[]
theorem Dt{h:List AO}:∀{ps:List Int} {vs:List AV} {J:List Nat},OwnL true h vs (ps.map (PV.int .i64)) J->vs=ps.map (λw=> .p (.int .i64 w))/\J=[]
 |[],vs,J,H=>by
  cases H
  exact⟨rfl,rfl⟩
 |w::r,vs,J,H=>by
  rw[UA] at H
  cases H with
  |p _ _ H=>
   obtain⟨e1,e2⟩:=Dt H
   exact⟨by rw[e1];rfl,e2⟩
theorem Bw:∀ps:List Int,(ps.map λw=>[PV.int .i64 w]).flatten=ps.map (PV.int .i64)
 |[]=>rfl
 |w::r=>by rw[UA,UJ,Bw r];rfl
theorem FV(h:List AO)(v:AV)(I:List Nat)(ps:List Int)(k:Nat)(ho:OwnL true h [v] [ay ps] I)(nd:I.Nodup)(hk:k+ps.length<=1152921504606846976):
 AC Tryz.prog G cJ [v,.p (.int .i64 k)] h (Mkd h v I (ay (kM k ps.length)) (.int .i64 ((k+ps.length:Nat):Int))):=by
 rcases ho.inv nd with⟨h0,rfl,rfl|rfl⟩|⟨h0,_⟩|⟨id,rows,J,rfl,rfl,hr⟩
 ·have hl0:ps=[]:=List.map_eq_nil_iff.1 h0
  subst hl0
  refine AC.go fJ ?_
  have hst:Mkd h .nils [] (ay (kM k 0)) (.int .i64 ((k+0:Nat):Int)) (.ret (.p (.int .i64 k))) h:=⟨rfl,.nils 1 .nil,λ_ _ _=>rfl,Uf _⟩
  simp-implicitDefEqProofs[fK]
  refine az (λ_:Unit=>ag 19 [(0,.nils),(1,.p (.int .i64 k)),(5,.p (.int .i64 0))]) (λ_=>h) (λ_=>True) (λ_=>0) () trivial (aH (Uf _) (by simp[below])) ?_
  intro _ _
  simp-implicitDefEqProofs[]
  exact hst
 ·have hl0:ps=[]:=List.map_eq_nil_iff.1 h0
  subst hl0
  refine AC.go fJ ?_
  have hst:Mkd h (.p (.lst 1 [])) [] (ay (kM k 0)) (.int .i64 ((k+0:Nat):Int)) (.ret (.p (.int .i64 k))) h:=⟨rfl,.p _ (λ_=>rfl) .nil,λ_ _ _=>rfl,Uf _⟩
  simp-implicitDefEqProofs[fK]
  refine az (λ_:Unit=>ag 19 [(0,.p (.lst 1 [])),(1,.p (.int .i64 k)),(5,.p (.int .i64 0))]) (λ_=>h) (λ_=>True) (λ_=>0) () trivial (aH (Uf _) (by simp[below])) ?_
  intro _ _
  simp-implicitDefEqProofs[]
  exact hst
 ·cases h0
 rw[Ux]
 have hown:=hr.own
 have hfl:(ps.map λw=>[PV.int .i64 w]).flatten=ps.map (PV.int .i64):=Bw ps
 rw[hfl] at hown
 obtain⟨e1,e2⟩:=Dt hown
 subst e2
 have e3:=yp e1 hr.rl
 have hh:h[id]?=some (jD ps):=by rw[hr.here,e3,List.map_map];rfl
 refine(Ga G hh hk).mono ?_
 rintro x h' ⟨rfl,rfl⟩
 have hid:id<h.length:=hr.lt
 refine⟨rfl,pk (Ug hid) (by simp[EN]),λj hj hn=>?_,by simp⟩
 simp at hn
 exact Uc λe=>hn e.symm
end
section
variable (G:aq)
def mC(l:List Int)(i:Nat):List Int:=l.take i++List.replicate (l.length-i) 0
theorem IP{l:List Int}{i:Nat}(h:i<l.length):(mC l i).set i l[i]=mC l (i+1):=by
 have hl:(l.take i).length=i:=by simp;omega
 have e:l.length-i=(l.length-(i+1))+1:=by omega
 show(l.take i++List.replicate (l.length-i) 0).set i l[i]=l.take (i+1)++List.replicate (l.length-(i+1)) 0
 rw[List.set_append_right _ _ (by omega),hl,Nat.sub_self,e,List.replicate_succ,List.set_cons_zero,ah h,UK]
 rfl
theorem IX{l:List Int}{i:Nat}(h:i<l.length):(mC l i)[i]?=some 0:=by
 have hl:(l.take i).length=i:=by simp;omega
 rw[mC,Um (by omega),hl,Nat.sub_self,List.getElem?_replicate,if_pos (by omega)]
theorem Jl{l:List Int}{i:Nat}(h:i<=l.length):(mC l i).length=l.length:=by simp[mC];omega
theorem En(l:List Int)(hb:l.length<=1048576):AC Tryz.prog G cf [.p (ay l)] [] λx h=>x= .ret (.sl 0 1 0 l.length)/\h=[jD l]:=by
 refine AC.go Aq ?_
 have hbl:ay l= .lst 1 (l.map λn=>[.int .i64 n]):=rfl
 simp-implicitDefEqProofs[rc,hbl]
 refine⟨by omega,?_⟩
 refine az (λi:Nat=>ag 22 [(0,.p (ay l)),(3,.sl 0 1 0 l.length),(4,.p (.int .i64 i))]) (λi=>[jD (mC l i)]) (λi=>i<=l.length) (λi=>l.length-i) 0 (by simp) ?_ ?_
 ·refine eB [0] rfl (by simp) (bN (by simp[mC]) (by simp) dA) ?_
  simp[below,ren,ay]
 ·intro i hi
  have hlen:=Jl hi
  simp-implicitDefEqProofs[hbl]
  refine bj (λh1=>?_) (λh1=>?_)
  ·simp at h1
   have hg:=Ub h1
   have hg2:=IX h1
   have hset:((mC l i).map λn=>[AV.p (.int .i64 n)]).set i [.p (.int .i64 l[i])]=(mC l (i+1)).map λn=>[AV.p (.int .i64 n)]:=by rw[←IP h1,List.map_set]
   have hbo:jD (mC l i)= .row 1 ((mC l i).map λn=>[.p (.int .i64 n)]):=rfl
   clear hlen
   simp-implicitDefEqProofs[hg,hbo,hg2,h1,hset]
   refine⟨i+1,h1,by omega,eB [0] rfl (by simp) (bN rfl (by simp) dA) ?_⟩
   simp[below,ren,ay,w1 (i:=i) (by omega)]
  ·simp at h1
   have:i=l.length:=by omega
   subst this
   simp-implicitDefEqProofs[mC]
theorem LW(l:List Int)(hb:l.length<=1048576):VF Tryz.prog G cf [.p (ay l)] (.p (ay l)):=AC.freeze (En G l hb) (.one (uD rfl) .nil)
variable (hK:G iy=some gy) (hS:G dK=some [.tbl opK opV])
theorem Ip{l:List Fd}{us:List Int}(h:gk l us=true):aP l=0/\0<l.length/\(∃f,l[l.length-1]?=some f/\us.length=f.params.length)/\∀n∈us,V5 n:=by
 simp only[gk,Ut,decide_eq_true_eq] at h
 obtain⟨h1,h2⟩:=h
 refine⟨h1,by have:=(ij h1).1;cases l<;>simp_all,?_⟩
 split at h2
 ·rename_i f hf
  simp only[ov,Ut,decide_eq_true_eq,Ui] at h2
  exact⟨⟨f,hf,h2.1⟩,λn hn=>by have:=h2.2 n hn;simpa[inR,V5] using this⟩
 ·cases h2
include hK hS
end
section
mutual
theorem Ex.parts_szI:∀e:Ex,e.parts<=e.sz
 | .mk _ _ w k=>by
   have:=ym k
   rw[Ex.parts_eq,Ex.sz_eq]
   simp only[Ex.kids,Ex.name]
   omega
theorem ym:∀l:List Ex,bc l<=dm l
 |[]=>by simp[bc]
 |e::r=>by
  have h1:=Ex.parts_szI e
  have h2:=ym r
  rw[bc,dm]
  omega
end
mutual
theorem Sm.mq_sz:∀s:Sm,s.mq<=3*s.sz
 | .mk _ w a b e=>by
   have h1:=ym a
   have h2:=tn b
   have h3:=tn e
   rw[Sm.mq_eq,Sm.sz_eq]
   simp only[Sm.args,Sm.body,Sm.els,Sm.name]
   omega
theorem tn:∀l:List Sm,bV l<=3*aK l
 |[]=>by simp[bV]
 |s::r=>by
  have h1:=Sm.mq_sz s
  have h2:=tn r
  rw[bV,aK]
  omega
end
theorem Dl:∀l:List Fd,cG l<=3*be l
 |[]=>by simp[cG]
 |f::r=>by
  have h1:=tn f.body
  have h2:=Dl r
  have e1:be (f::r)=f.sz+be r:=by simp[be]
  have e2:cG (f::r)=f.mq+cG r:=by simp[cG]
  have e3:f.mq=1+f.params.length+bV f.body:=rfl
  have e4:f.sz=1+f.name.length+(f.params.length+(f.params.map List.length).sum)+aK f.body:=rfl
  omega
end
section
variable (G:aq)
theorem Ot{h:List AO}{vs:List AV}{xs ys:List Int}{e v:Int}{I:List Nat}(H:OwnL true h vs [ay xs,.int .i64 e,.int .i64 v,ay ys] I):
 ∃a b I1 I2,vs=[a,.p (.int .i64 e),.p (.int .i64 v),b]/\I=I1++I2/\OwnL true h [a] [ay xs] I1/\OwnL true h [b] [ay ys] I2:=by
 obtain⟨a,b,c,d,rfl⟩:=PG (r:=vs) H.len
 obtain⟨I1,I',rfl,h1,H⟩:=H.one
 cases H with
 |p _ _ H=>
  cases H with
  |p _ _ H=>exact⟨a,d,I1,_,rfl,rfl,h1,H⟩
theorem Ci(xs ys:List Int)(e v:Int)(hx:xs.length<=1048576)(hy:ys.length<=1048576):VF Tryz.prog G du [.agg [.p (ay xs),.p (.int .i64 e),.p (.int .i64 v),.p (ay ys)],.agg [.p (ay xs),.p (.int .i64 e),.p (.int .i64 v),.p (ay ys)]] (.p (.bool true)):=by
 refine AC.go um ?_
 simp-implicitDefEqProofs[mw]
 refine(uM G xs hx).use ?_
 simp-implicitDefEqProofs[]
 refine(uM G ys hy).use ?_
 simp-implicitDefEqProofs[]
theorem Ar(k n m:Nat)(e v:Int)(hk:k+n+m<=1152921504606846976):VF Tryz.prog G dF [.agg [.p (ay (kM k n)),.p (.int .i64 e),.p (.int .i64 v),.p (ay (kM (k+n) m))],.p (.int .i64 k)] (.p (.int .i64 ((k+n+m:Nat):Int))):=by
 have h1:¬((k+n:Nat):Int)<0:=by omega
 have h2:¬((k+n+m:Nat):Int)<0:=by omega
 have hA:=yT G k n (by omega)
 have hB:=yT G (k+n) m (by omega)
 generalize k+n+m=q at*
 generalize k+n=p at*
 refine AC.go sm ?_
 simp-implicitDefEqProofs[ky]
 refine hA.use ?_
 simp-implicitDefEqProofs[h1]
 refine hB.use ?_
 simp-implicitDefEqProofs[h2]
theorem At{h:List AO}{a b:AV}{I1 I2:List Nat}{xs ys:List Int}(e v:Int)(k:Nat)(h1:OwnL true h [a] [ay xs] I1)(h2:OwnL true h [b] [ay ys] I2)(nd:(I1++I2).Nodup)(hk:k+xs.length+ys.length<=1152921504606846976):
 AC Tryz.prog G fW [.agg [a,.p (.int .i64 e),.p (.int .i64 v),b],.p (.int .i64 k)] h λx h'=>x= .ret (.p (.int .i64 ((k+xs.length+ys.length:Nat):Int)))/\OwnL true h' [a] [ay (kM k xs.length)] I1/\OwnL true h' [b] [ay (kM (k+xs.length) ys.length)] I2/\(∀j,j<h.length->j∉I1->j∉I2->h'[j]?=h[j]?)/\h.length<=h'.length:=by
 obtain⟨c1,c2⟩:=dy h1
 obtain⟨c3,c4⟩:=dy h2
 rw[List.nodup_append] at nd
 obtain⟨n1,n2,n3⟩:=nd
 have hA:=FV G (h++[.row 4 [[a,.p (.int .i64 e),.p (.int .i64 v),b]]]) a I1 xs k (h1.more _) n1 (by omega)
 have hB:=λh3 o4=>FV G h3 b I2 ys (k+xs.length) o4 n2 (by omega)
 generalize k+xs.length+ys.length=q at*
 generalize k+xs.length=p at*
 refine AC.go sk ?_
 simp-implicitDefEqProofs[-AV.cells,-AV.isCell,cP,aE,aL,cN,aF,c1,c2,c3,c4,kn]
 refine hA.mono ?_
 rintro r h3 ⟨rfl,o3,f3,l3⟩
 rw[Uu,List.length_singleton] at f3 l3
 have hb:h3[h.length]?=some (.row 4 [[a,.p (.int .i64 e),.p (.int .i64 v),b]]):=by
  rw[f3 _ (by omega) λhm=>by have:=h1.lt hm;omega];simp
 have o4:OwnL true h3 [b] [ay ys] I2:=(h2.more [.row 4 [[a,.p (.int .i64 e),.p (.int .i64 v),b]]]).frame λi hi=>f3 i (by have:=h2.lt hi;omega) λhm=>n3 _ hm _ hi rfl
 simp-implicitDefEqProofs[-AV.cells,-AV.isCell,cP,aE,aL,cN,aF,c1,c2,c3,c4,aa,hb]
 refine(hB h3 o4).mono ?_
 rintro r h4 ⟨rfl,o5,f5,l5⟩
 simp-implicitDefEqProofs[aa]
 refine⟨?_,o5,λj hj hn1 hn2=>?_,by omega⟩
 ·exact o3.frame λi hi=>f5 i (o3.lt hi) λhm=>n3 _ hi _ hm rfl
 ·rw[f5 j (by omega) hn2,f3 j (by omega) hn1,Ue hj]
theorem Ph(l:List Int)(hb:l.length<=1048576):AC Tryz.prog G cf [.p (ay l)] [] (MkW fz true [ay l]):=
 (En G l hb).mono λx h ⟨e1,e2⟩=>by subst e1 e2;exact⟨[.sl 0 1 0 l.length],[0],rfl,pk rfl rfl,by simp⟩
theorem DJ(l:List Fd)(us:List Int)(fuel:Int)(xs ys:List Int)(e v:Int)(ok:Bool)(hz:be l<=1048576)(hu:us.length<=1048576)(hx:xs.length<=1048576)(hy:ys.length<=1048576)
 (hsz:VF Tryz.prog G dk [.agg [.p (fdL l)],.p (.int .i64 1048576)] (.p (.int .i64 ((1048576-be l:Nat):Int))))
 (hs:VF Tryz.prog G bT [.agg [.p (fdL l)],.p (ay us),.p (.int .i64 fuel)] (.tup [.agg [.p (ay xs),.p (.int .i64 e),.p (.int .i64 v),.p (ay ys)],.p (.bool ok)]))
 (hO:AC Tryz.prog G bh [.agg [.p (fdL l)],.p (ay us),.p (.int .i64 fuel)] [] (MkW (AM ok) true [ay xs,.int .i64 e,.int .i64 v,ay ys])):
 VF Tryz.prog G cZ [.agg [.p (fdL l)],.p (ay us),.p (.int .i64 fuel)] (.p (.bool true)):=by
 have hnL:ay us= .lst 1 (us.map λn=>[.int .i64 n]):=rfl
 have hu':¬(us.length:Int)>1048576:=by omega
 have hto:=EK G l hz
 have hti:=LW G us hu
 have hnn:¬((1048576-be l:Nat):Int)<0:=by omega
 have hQ:=Dl l
 have hot:=λh:List AO=>AC.mkLift yk (DS G l hz) (h:=h) (by simp)
 have hoi:=λh:List AO=>AC.mkLift lb (Ph G us hu) (h:=h) (by simp)
 have hin:∀(h:List AO) (w vi:AV) (I J:List Nat),OwnL true h [w] [fdL l] I->OwnL true h [vi] [ay us] J->AC Tryz.prog G bh [.agg [w],vi,.p (.int .i64 fuel)] h (Mk (AM ok) true [ay xs,.int .i64 e,.int .i64 v,ay ys] h):=λh w vi I J h1 h2=>AC.mkLend (ET _) hO (.agg h1.views (.one (h2.view 0 _ _ rfl rfl) (.keep (by simp[below]) .nil)))
 have hpu:VF Tryz.prog G bh [.agg [.p (fdL l)],.p (ay us),.p (.int .i64 fuel)] (.tup [.agg [.p (ay xs),.p (.int .i64 e),.p (.int .i64 v),.p (ay ys)],.p (.bool ok)]):=AC.mkFreeze (ET _) hO
 have heq:=Ci G xs ys e v hx hy
 refine AC.go cW ?_
 simp-implicitDefEqProofs[bM,hnL,hu']
 rw[←hnL]
 refine hsz.use ?_
 simp-implicitDefEqProofs[hnn]
 refine hto.use ?_
 simp-implicitDefEqProofs[]
 refine hti.use ?_
 simp-implicitDefEqProofs[]
 refine hs.use ?_
 simp-implicitDefEqProofs[]
 refine(hot _).mono ?_
 rintro x h2 ⟨vs,I,os,rfl,e2,ho,nd,hf⟩
 obtain⟨w,rfl⟩:=cU ho
 obtain⟨c1,c2⟩:=dy ho
 simp-implicitDefEqProofs[-AV.cells,-AV.isCell,cP,aE,aL,cN,aF,c1,c2,aa]
 refine(hoi _).mono ?_
 rintro x h3 ⟨vs3,I3,os3,rfl,e3,ho3,nd3,hf3⟩
 obtain⟨vi,rfl⟩:=cU ho3
 obtain⟨c3,c4⟩:=dy ho3
 have hb5:h3[h2.length]?=some (.row 1 [[w]]):=by rw[e3];simp
 have hoV:OwnL true h3 [w] [fdL l] I:=by rw[e3];exact(ho.more _).more _
 simp-implicitDefEqProofs[-AV.cells,-AV.isCell,cP,aE,aL,cN,aF,c1,c2,c3,c4,aa,fz,hb5]
 refine(hin _ w vi I I3 hoV ho3).mono ?_
 rintro x h4 ⟨vs4,I4,os4,rfl,e4,ho4,nd4,hf4⟩
 obtain⟨a,b,Ia,Ib,rfl,rfl,hA,hB⟩:=Ot ho4
 obtain⟨c5,c6⟩:=dy hA
 obtain⟨c7,c8⟩:=dy hB
 have hg0:∀t,(h4++t)[0]?=some (.row 1 [[.p (fdL l)]]):=λt=>by rw[e4,e3,e2];rfl
 have hg1:∀t,(h4++t)[1]?=some (.row 4 [[.p (ay xs),.p (.int .i64 e),.p (.int .i64 v),.p (ay ys)]]):=λt=>by rw[e4,e3,e2];rfl
 have hl23:h2.length<h3.length:=(Ua.1 hb5).1
 have hl34:h3.length<=h4.length:=by rw[e4];simp
 have hg5:∀t,(h4++t)[h2.length]?=some (.row 1 [[w]]):=λt=>by
  rw[e4,UK,Ue hl23];exact hb5
 simp-implicitDefEqProofs[-AV.cells,-AV.isCell,cP,aE,aL,cN,aF,c1,c2,c3,c4,c5,c6,c7,c8,aa,AM, ↓hg0, ↓hg1, ↓hg5]
 have hG0:=hg0 [.row 4 [[a,.p (.int .i64 e),.p (.int .i64 v),b]]]
 have hG1:=hg1 [.row 4 [[a,.p (.int .i64 e),.p (.int .i64 v),b]]]
 have hG5:=hg5 [.row 4 [[a,.p (.int .i64 e),.p (.int .i64 v),b]]]
 have hG7:(h4++[AO.row 4 [[a,.p (.int .i64 e),.p (.int .i64 v),b]]])[h4.length]?=some (.row 4 [[a,.p (.int .i64 e),.p (.int .i64 v),b]]):=by simp
 have oV:OwnL true (h4++[AO.row 4 [[a,.p (.int .i64 e),.p (.int .i64 v),b]]]) [w] [fdL l] I:=(by rw[e4];exact hoV.more _:OwnL true h4 [w] [fdL l] I).more _
 have oI:OwnL true (h4++[AO.row 4 [[a,.p (.int .i64 e),.p (.int .i64 v),b]]]) [vi] [ay us] I3:=(by rw[e4];exact ho3.more _:OwnL true h4 [vi] [ay us] I3).more _
 have oA:=hA.more [AO.row 4 [[a,.p (.int .i64 e),.p (.int .i64 v),b]]]
 have oB:=hB.more [AO.row 4 [[a,.p (.int .i64 e),.p (.int .i64 v),b]]]
 have rI:∀i∈I,2<=i/\i<h2.length:=λi hi=>⟨hf i hi,ho.lt hi⟩
 have rI3:∀i∈I3,h2.length<i/\i<h3.length:=λi hi=>⟨by have:=hf3 i hi;simp at this;omega,ho3.lt hi⟩
 have rA:∀i∈Ia,h3.length<=i/\i<h4.length:=λi hi=>⟨hf4 i (by simp[hi]),hA.lt hi⟩
 have rB:∀i∈Ib,h3.length<=i/\i<h4.length:=λi hi=>⟨hf4 i (by simp[hi]),hB.lt hi⟩
 have hn2:2<=h2.length:=by rw[e2];simp
 have hLH:h4.length<(h4++[AO.row 4 [[a,.p (.int .i64 e),.p (.int .i64 v),b]]]).length:=by simp
 clear hg0 hg1 hg5 hb5 hoV ho ho3 hA hB ho4 hf hf3 hf4
 generalize h4++[AO.row 4 [[a,.p (.int .i64 e),.p (.int .i64 v),b]]]=H at*
 clear e4 e3 e2
 generalize h4.length=n4 at*
 generalize h3.length=n3 at*
 generalize h2.length=n2 at*
 have hde:=λH (o1:OwnL true H [a] [ay xs] Ia) (o2:OwnL true H [b] [ay ys] Ib)=>heq.lend (h:=H) (args:=[.agg [a,.p (.int .i64 e),.p (.int .i64 v),b],.agg [.p (ay xs),.p (.int .i64 e),.p (.int .i64 v),.p (ay ys)]]) (.agg (.one (o1.view 0 _ _ rfl rfl) (.keep (by simp[below]) (.keep (by simp[below]) (.one (o2.view 0 _ _ rfl rfl) .nil)))) (.keep (by simp[below]) .nil)) rfl
 refine(hde _ oA oB).mono ?_
 rintro x H1 ⟨rfl,rfl⟩
 simp-implicitDefEqProofs[-AV.cells,-AV.isCell,cP,aE,aL,cN,aF,c1,c2,c3,c4,c5,c6,c7,c8,aa,hG0,hG1,hG5,hG7]
 refine hto.use ?_
 simp-implicitDefEqProofs[-AV.cells,-AV.isCell,cP,aE,aL,cN,aF,c1,c2,c3,c4,c5,c6,c7,c8,aa,hG0,hG1,hG5,hG7]
 have hep:=λh v I (ho:OwnL true h [v] [fdL l] I)=>(EH G l hz).lend (h:=h) (args:=[.agg [v],.agg [.p (fdL l)]]) (.agg ho.views (.keep (by simp[below]) .nil)) rfl
 refine(hep _ w I oV).mono ?_
 rintro x H2 ⟨rfl,rfl⟩
 simp-implicitDefEqProofs[-AV.cells,-AV.isCell,cP,aE,aL,cN,aF,c1,c2,c3,c4,c5,c6,c7,c8,aa,hG0,hG1,hG5,hG7]
 refine hti.use ?_
 simp-implicitDefEqProofs[-AV.cells,-AV.isCell,cP,aE,aL,cN,aF,c1,c2,c3,c4,c5,c6,c7,c8,aa,hG0,hG1,hG5,hG7]
 have hei:=λH (o:OwnL true H [vi] [ay us] I3)=>(uM G us hu).lend (h:=H) (args:=[vi,.p (ay us)]) (.one (o.view 0 _ _ rfl rfl) (.keep (by simp[below]) .nil)) rfl
 refine(hei _ oI).mono ?_
 rintro x H3 ⟨rfl,rfl⟩
 simp-implicitDefEqProofs[-AV.cells,-AV.isCell,cP,aE,aL,cN,aF,c1,c2,c3,c4,c5,c6,c7,c8,aa,hG0,hG1,hG5,hG7]
 refine(Al G l H3 w I 1 oV nd (by omega)).mono ?_
 rintro x M1 ⟨rfl,oV1,f1,l1⟩
 have mG0:M1[0]?=some (.row 1 [[.p (fdL l)]]):=by rw[f1 _ (by omega) λhm=>by have:=rI _ hm;omega,hG0]
 have mG1:M1[1]?=some (.row 4 [[.p (ay xs),.p (.int .i64 e),.p (.int .i64 v),.p (ay ys)]]):=by rw[f1 _ (by omega) λhm=>by have:=rI _ hm;omega,hG1]
 have mG7:M1[n4]?=some (.row 4 [[a,.p (.int .i64 e),.p (.int .i64 v),b]]):=by rw[f1 _ hLH λhm=>by have:=rI _ hm;omega,hG7]
 have pI:OwnL true M1 [vi] [ay us] I3:=oI.frame λi hi=>f1 i (oI.lt hi) λhm=>by have:=rI _ hm;have:=rI3 _ hi;omega
 have pA:OwnL true M1 [a] [ay xs] Ia:=oA.frame λi hi=>f1 i (oA.lt hi) λhm=>by have:=rI _ hm;have:=rA _ hi;omega
 have pB:OwnL true M1 [b] [ay ys] Ib:=oB.frame λi hi=>f1 i (oB.lt hi) λhm=>by have:=rI _ hm;have:=rB _ hi;omega
 clear hG0 hG1 hG5 hG7 oV oI oA oB f1
 have hk1:((1+cG l:Nat):Int)=1+(cG l:Int):=by omega
 obtain⟨Q1,hQ1⟩:∃Q1,Q1=1+cG l:=⟨_,rfl⟩
 have hQb:Q1<=5000000:=by omega
 rw[←hQ1] at*
 simp-implicitDefEqProofs[-AV.cells,-AV.isCell,cP,aE,aL,cN,aF,c1,c2,c3,c4,c5,c6,c7,c8,aa,mG0,mG1,mG7]
 refine(FV G M1 vi I3 us Q1 pI nd3 (by omega)).mono ?_
 rintro x M2 ⟨rfl,oI2,f2,l2⟩
 have nG0:M2[0]?=some (.row 1 [[.p (fdL l)]]):=by rw[f2 _ (by omega) λhm=>by have:=rI3 _ hm;omega,mG0]
 have nG1:M2[1]?=some (.row 4 [[.p (ay xs),.p (.int .i64 e),.p (.int .i64 v),.p (ay ys)]]):=by rw[f2 _ (by omega) λhm=>by have:=rI3 _ hm;omega,mG1]
 have nG7:M2[n4]?=some (.row 4 [[a,.p (.int .i64 e),.p (.int .i64 v),b]]):=by rw[f2 _ (by omega) λhm=>by have:=rI3 _ hm;omega,mG7]
 have qA:OwnL true M2 [a] [ay xs] Ia:=pA.frame λi hi=>f2 i (pA.lt hi) λhm=>by have:=rI3 _ hm;have:=rA _ hi;omega
 have qB:OwnL true M2 [b] [ay ys] Ib:=pB.frame λi hi=>f2 i (pB.lt hi) λhm=>by have:=rI3 _ hm;have:=rB _ hi;omega
 clear mG0 mG1 mG7 pI pA pB f2
 have hkn:¬((Q1+us.length:Nat):Int)<0:=by omega
 generalize Q1+us.length=Q2 at*
 simp-implicitDefEqProofs[-AV.cells,-AV.isCell,cP,aE,aL,cN,aF,c1,c2,c3,c4,c5,c6,c7,c8,aa,nG0,nG1,nG7,hkn]
 refine(hde _ qA qB).mono ?_
 rintro x M3 ⟨rfl,rfl⟩
 simp-implicitDefEqProofs[-AV.cells,-AV.isCell,cP,aE,aL,cN,aF,c1,c2,c3,c4,c5,c6,c7,c8,aa,nG0,nG1,nG7]
 refine(At G e v 1 qA qB nd4 (by omega)).mono ?_
 rintro x M4 ⟨rfl,sA,sB,f3,l3⟩
 have kG0:M4[0]?=some (.row 1 [[.p (fdL l)]]):=by rw[f3 _ (by omega) (λhm=>by have:=rA _ hm;omega) (λhm=>by have:=rB _ hm;omega),nG0]
 have kG1:M4[1]?=some (.row 4 [[.p (ay xs),.p (.int .i64 e),.p (.int .i64 v),.p (ay ys)]]):=by rw[f3 _ (by omega) (λhm=>by have:=rA _ hm;omega) (λhm=>by have:=rB _ hm;omega),nG1]
 have kG7:M4[n4]?=some (.row 4 [[a,.p (.int .i64 e),.p (.int .i64 v),b]]):=by rw[f3 _ (by omega) (λhm=>by have:=rA _ hm;omega) (λhm=>by have:=rB _ hm;omega),nG7]
 clear nG0 nG1 nG7 qA qB f3
 have hho:=Ar G 1 xs.length ys.length e v (by omega)
 have hhe:=λH (o1:OwnL true H [a] [ay (kM 1 xs.length)] Ia) (o2:OwnL true H [b] [ay (kM (1+xs.length) ys.length)] Ib)=>hho.lend (h:=H) (args:=[.agg [a,.p (.int .i64 e),.p (.int .i64 v),b],.p (.int .i64 1)]) (.agg (.one (o1.view 0 _ _ rfl rfl) (.keep (by simp[below]) (.keep (by simp[below]) (.one (o2.view 0 _ _ rfl rfl) .nil)))) (.keep (by simp[below]) .nil)) rfl
 have hhn:¬((1+xs.length+ys.length:Nat):Int)<0:=by omega
 generalize 1+xs.length+ys.length=Q3 at*
 simp-implicitDefEqProofs[-AV.cells,-AV.isCell,cP,aE,aL,cN,aF,c1,c2,c3,c4,c5,c6,c7,c8,aa,kG0,kG1,kG7]
 refine(hhe _ sA sB).mono ?_
 rintro x M5 ⟨rfl,rfl⟩
 simp-implicitDefEqProofs[-AV.cells,-AV.isCell,cP,aE,aL,cN,aF,c1,c2,c3,c4,c5,c6,c7,c8,aa,kG0,kG1,kG7,hhn]
 refine hto.use ?_
 simp-implicitDefEqProofs[-AV.cells,-AV.isCell,cP,aE,aL,cN,aF,c1,c2,c3,c4,c5,c6,c7,c8,aa,kG0,kG1,kG7]
 refine hti.use ?_
 simp-implicitDefEqProofs[-AV.cells,-AV.isCell,cP,aE,aL,cN,aF,c1,c2,c3,c4,c5,c6,c7,c8,aa,kG0,kG1,kG7]
 refine hpu.use ?_
 have tA:=sA.more [AO.row 4 [[.p (ay xs),.p (.int .i64 e),.p (.int .i64 v),.p (ay ys)]]]
 have tB:=sB.more [AO.row 4 [[.p (ay xs),.p (.int .i64 e),.p (.int .i64 v),.p (ay ys)]]]
 have tG0:∀os,(M5++os)[0]?=_:=λos=>(Ue (by omega)).trans kG0
 have tG1:∀os,(M5++os)[1]?=_:=λos=>(Ue (by omega)).trans kG1
 have tG7:∀os,(M5++os)[n4]?=_:=λos=>(Ue (by omega)).trans kG7
 simp-implicitDefEqProofs[-AV.cells,-AV.isCell,cP,aE,aL,cN,aF,c1,c2,c3,c4,c5,c6,c7,c8,aa, ↓tG0, ↓tG1, ↓tG7]
 refine heq.use ?_
 simp-implicitDefEqProofs[-AV.cells,-AV.isCell,cP,aE,aL,cN,aF,c1,c2,c3,c4,c5,c6,c7,c8,aa, ↓tG0, ↓tG1, ↓tG7]
 refine(hhe _ tA tB).mono ?_
 rintro x M6 ⟨rfl,rfl⟩
 simp-implicitDefEqProofs[-AV.cells,-AV.isCell,cP,aE,aL,cN,aF,c1,c2,c3,c4,c5,c6,c7,c8,aa, ↓tG0, ↓tG1, ↓tG7,hhn]
variable (hK:G iy=some gy) (hS:G dK=some [.tbl opK opV])
include hK hS
theorem zt(l:List Fd)(hf:Pm l)(us:List Int)(fuel:Int):VF Tryz.prog G cZ [.agg [.p (fdL l)],.p (ay us),.p (.int .i64 fuel)] (.p (.bool true)):=by
 have hnL:ay us= .lst 1 (us.map λn=>[.int .i64 n]):=rfl
 have hsz':VF Tryz.prog G dk [.agg [.p (fdL l)],.p (.int .i64 1048576)] (.p (.int .i64 (bH 1048576 (be l)))):=Da G l hf 1048576 (Uf _)
 by_cases hu:(us.length:Int)>1048576
 ·refine AC.go cW ?_
  simp-implicitDefEqProofs[bM,hnL,hu]
 by_cases hz:be l<=1048576
 case neg=>
  rw[bA hz] at hsz'
  refine AC.go cW ?_
  simp-implicitDefEqProofs[bM,hnL,hu]
  refine hsz'.use ?_
  simp-implicitDefEqProofs[]
 rw[dT hz] at hsz'
 have hub:us.length<=1048576:=by omega
 by_cases hq:gk l us=true/\inR fuel 0 4000=true
 ·obtain⟨ho,hfu⟩:=hq
  have hf':0<=fuel/\fuel<=4000:=by simpa[inR] using hfu
  obtain⟨F,rfl⟩:∃F:Nat,fuel=(F:Int):=⟨fuel.toNat,by omega⟩
  have hF:F<=4000:=by omega
  obtain⟨hc,h0,⟨f,hf1,hf2⟩,hv⟩:=Ip ho
  obtain⟨s',r,hE,hg,_⟩:=Td hc hf1 hf2 hv F
  have hsd:s'.said.length<=F:=by
   have h1:M5 s'<=M5 (s0 F)/\s'.left<=(s0 F).left:=no hE
   have h3:=h1.1
   rw[show M5 (s0 F)=F by simp[M5,s0]] at h3
   simp only[M5] at h3
   omega
  exact DJ G l us F s'.said s'.cells (bC r) (Dm r) true hz hub (by omega) (by rw[hg.len];omega) hsz' (AN G (by omega) (by omega) ho hc hf1 hf2 hv hF hE) (AJ G hK hS (by omega) (by omega) ho hc h0 hv hF hE)
 ·have h:gk l us=false\/inR fuel 0 4000=false:=by
   cases h1:gk l us with
   |false=>exact .inl rfl
   |true=>
    cases h2:inR fuel 0 4000 with
    |false=>exact .inr rfl
    |true=>exact absurd ⟨h1,h2⟩ hq
  exact DJ G l us fuel [] [] 0 0 false hz hub (by simp) (by simp) hsz' (AS G (by omega) (by omega) h) (Bd G hK hS (by omega) (by omega) h)
end
end Go.Proofs.YtokiapglmedipaaGreatDoor
namespace Go.Proofs.YtokiapglmedipaaGreatDoor
open Go Go.Aw Go.ChangeShapes Go.WideShapes Go.ChangeAt Go.RowKit
set_option maxRecDepth 100000
abbrev Mr:TypeId:=24
abbrev Oy:TypeId:=22
abbrev Ni:TypeId:=122
abbrev FD:TypeId:=55
abbrev Bv:TypeId:=9
abbrev ti:TypeId:=120
abbrev kC:TypeId:=206
abbrev ye:TypeId:=204
abbrev oH:TypeId:=245
abbrev uY:TypeId:=3
abbrev OS:TypeId:=4
abbrev Gk:TypeId:=160
abbrev LJ:TypeId:=240
abbrev Oi:TypeId:=241
theorem RD:Kids Tryz.prog (· <Tryz.prog.types.size):=kids_rows (by kernel_rfl) (by kernel_rfl)
theorem RH:∀t e,t<Tryz.prog.types.size->Tryz.prog.underlying t=some (.slice e)->0<Tryz.prog.cellsOf e:=slices_full_of Tryz.prog (by kernel_rfl)
def JC:List TypeId:=[Mr,Oy,Ni,FD,Bv,ti,kC,ye,oH,uY,OS,Gk,LJ]
theorem JD:Plain Tryz.prog JC=true:=by kernel_rfl
theorem TD:ownKnob Tryz.prog.godebug=none:=by kernel_rfl
theorem yI{H:Type}:∀l:List (DataW H),Rows.uptoBulkAll l=(l.map Rows.uptoBulk).sum
 |[]=>by simp[Rows.uptoBulkAll]
 |d::r=>by simp[Rows.uptoBulkAll,yI r]
theorem Oc{H:Type}:BulkOk (Rows.uptoBulk (H:=H)) where
 lit:=λl=>by cases l<;>simp[Rows.uptoBulk]
 str:=λs=>by simp[Rows.uptoBulk]
 nil:=by simp[Rows.uptoBulk]
 slice:=λes sp=>by simp only[Rows.uptoBulk,yI];omega
 agg:=λps=>by simp only[Rows.uptoBulk,yI];omega
theorem iS{t e:TypeId}{vs:List PV}(h:Conf Tryz.prog t vs)(hu:Tryz.prog.underlying t=some (.slice e)):∃es,vs=[.lst (Tryz.prog.cellsOf e) es]/\es.length<=9223372036854775807/\∀x∈es,Conf Tryz.prog e x:=by
 cases h with
 |sl es e' hl hs=>rw[hu] at e';cases e';exact⟨es,rfl,hl,hs⟩
 |bool b e=>rw[e] at hu;cases hu
 |int n e=>rw[e] at hu;cases hu
 |str s e=>rw[e] at hu;cases hu
 |st vs e=>rw[e] at hu;cases hu
 |arr vs e=>rw[e] at hu;cases hu
theorem Is{vs:List PV}(h:Conf Tryz.prog FD vs):∃l:List (List UInt8),vs=[aD l]/\l.length<=9223372036854775807/\∀x∈l,x.length<=9223372036854775807:=by
 obtain⟨es,rfl,hl,h4⟩:=iS h (e:=Bv) (by kernel_rfl)
 have hk:∀x∈es,∃s:List UInt8,x=[PV.str s]/\s.length<=maxLen:=λx hx=>sO (h4 x hx) (by kernel_rfl)
 obtain⟨l,rfl⟩:=Cn (λs:List UInt8=>[PV.str s]) (λx hx=>by obtain⟨n,e,_⟩:=hk x hx;exact⟨n,e⟩)
 rw[show Tryz.prog.cellsOf Bv=1 by kernel_rfl]
 refine⟨l,rfl,by rwa[Ux] at hl,λs hs=>?_⟩
 obtain⟨m,e,hw⟩:=hk [PV.str s] (Uw.2 ⟨s,hs,rfl⟩)
 cases e
 exact hw
theorem kq{α β:Type}(g:β->α)(p:β->Prop):∀{es:List α},(∀x∈es,∃m,x=g m/\p m)->∃ms:List β,es=ms.map g/\∀m∈ms,p m
 |[],_=>⟨[],rfl,λm hm=>by cases hm⟩
 |e::r,h=>by
  obtain⟨m,hm,hp⟩:=h e (by simp)
  obtain⟨ms,hms,hps⟩:=kq g p (es:=r) λx hx=>h x (by simp[hx])
  exact⟨m::ms,by simp[hm,hms],λx hx=>by
   rcases Uj.1 hx with rfl|hx
   ·exact hp
   ·exact hps x hx⟩
theorem ud:∀{l:List Ex},(∀e∈l,e.fit)->mO l
 |[],_=>trivial
 |e::r,h=>⟨h e (by simp),ud λx hx=>h x (by simp[hx])⟩
theorem pt:∀{l:List Sm},(∀e∈l,e.fit)->kg l
 |[],_=>trivial
 |e::r,h=>⟨h e (by simp),pt λx hx=>h x (by simp[hx])⟩
theorem zP{x:List PV}{es:List (List PV)}(h:x∈es)(sz:Nat):SizeOf.sizeOf x<SizeOf.sizeOf [PV.lst sz es]:=by
 have:=List.sizeOf_lt_of_mem h
 simp
 omega
theorem NO:∀(n:Nat) (vs:List PV),SizeOf.sizeOf vs<n->Conf Tryz.prog oH vs->∃e:Ex,vs=e.cs/\e.fit:=by
 intro n
 induction n with
 |zero=>intro vs h;omega
 |succ n ih=>
  intro vs hn h
  have h:=yf (ts:=[uY,uY,Bv,ye]) h (by kernel_rfl)
  obtain⟨a,r,rfl,h1,h⟩:=bJ h
  obtain⟨b,r,rfl,h2,h⟩:=bJ h
  obtain⟨c,r,rfl,h3,h⟩:=bJ h
  obtain⟨d,r,rfl,h4,h⟩:=bJ h
  cases pj h
  obtain⟨n1,rfl,_⟩:=od h1 (k:= .i64) (by kernel_rfl)
  obtain⟨n2,rfl,_⟩:=od h2 (k:= .i64) (by kernel_rfl)
  obtain⟨s,rfl,l3⟩:=sO h3 (by kernel_rfl)
  obtain⟨es,rfl,l4,h5⟩:=iS h4 (e:=oH) (by kernel_rfl)
  have hs1:SizeOf.sizeOf [PV.lst (Tryz.prog.cellsOf oH) es]<n+1:=by simp at hn⊢;omega
  obtain⟨l,rfl,hl⟩:=kq Ex.cs Ex.fit (λx hx=>ih x (by have:=zP hx (Tryz.prog.cellsOf oH);omega) (h5 x hx))
  refine⟨⟨n1,n2,s,l⟩,?_,?_⟩
  ·rw[show Tryz.prog.cellsOf oH=4 by kernel_rfl,Ex.cs_eq];rfl
  ·exact⟨l3,by rwa[Ux] at l4,ud hl⟩
theorem Lz{vs:List PV}(h:Conf Tryz.prog ye vs):∃l:List Ex,vs=[exL l]/\l.length<=BL/\mO l:=by
 obtain⟨es,rfl,l4,h5⟩:=iS h (e:=oH) (by kernel_rfl)
 obtain⟨l,rfl,hl⟩:=kq Ex.cs Ex.fit (λx hx=>NO _ x (Nat.lt_succ_self _) (h5 x hx))
 rw[show Tryz.prog.cellsOf oH=4 by kernel_rfl]
 exact⟨l,rfl,by rwa[Ux] at l4,ud hl⟩
theorem NI:∀(n:Nat) (vs:List PV),SizeOf.sizeOf vs<n->Conf Tryz.prog kC vs->∃e:Sm,vs=e.cs/\e.fit:=by
 intro n
 induction n with
 |zero=>intro vs h;omega
 |succ n ih=>
  intro vs hn h
  have h:=yf (ts:=[uY,Bv,ye,ti,ti]) h (by kernel_rfl)
  obtain⟨a,r,rfl,h1,h⟩:=bJ h
  obtain⟨b,r,rfl,h2,h⟩:=bJ h
  obtain⟨c,r,rfl,h3,h⟩:=bJ h
  obtain⟨d,r,rfl,h4,h⟩:=bJ h
  obtain⟨d',r,rfl,h4',h⟩:=bJ h
  cases pj h
  obtain⟨n1,rfl,_⟩:=od h1 (k:= .i64) (by kernel_rfl)
  obtain⟨s,rfl,l3⟩:=sO h2 (by kernel_rfl)
  obtain⟨ar,rfl,la,fa⟩:=Lz h3
  obtain⟨es,rfl,l4,h5⟩:=iS h4 (e:=kC) (by kernel_rfl)
  obtain⟨es',rfl,l4',h5'⟩:=iS h4' (e:=kC) (by kernel_rfl)
  have hs1:SizeOf.sizeOf [PV.lst (Tryz.prog.cellsOf kC) es]<n+1:=by simp at hn⊢;omega
  have hs2:SizeOf.sizeOf [PV.lst (Tryz.prog.cellsOf kC) es']<n+1:=by simp at hn⊢;omega
  obtain⟨l,rfl,hl⟩:=kq Sm.cs Sm.fit (λx hx=>ih x (by have:=zP hx (Tryz.prog.cellsOf kC);omega) (h5 x hx))
  obtain⟨l',rfl,hl'⟩:=kq Sm.cs Sm.fit (λx hx=>ih x (by have:=zP hx (Tryz.prog.cellsOf kC);omega) (h5' x hx))
  refine⟨⟨n1,s,ar,l,l'⟩,?_,?_⟩
  ·rw[show Tryz.prog.cellsOf kC=5 by kernel_rfl,Sm.cs_eq];rfl
  ·exact⟨l3,⟨la,fa⟩,⟨by rwa[Ux] at l4,pt hl⟩,⟨by rwa[Ux] at l4',pt hl'⟩⟩
theorem KB{vs:List PV}(h:Conf Tryz.prog ti vs):∃l:List Sm,vs=[smL l]/\l.length<=BL/\kg l:=by
 obtain⟨es,rfl,l4,h5⟩:=iS h (e:=kC) (by kernel_rfl)
 obtain⟨l,rfl,hl⟩:=kq Sm.cs Sm.fit (λx hx=>NI _ x (Nat.lt_succ_self _) (h5 x hx))
 rw[show Tryz.prog.cellsOf kC=5 by kernel_rfl]
 exact⟨l,rfl,by rwa[Ux] at l4,pt hl⟩
theorem On{vs:List PV}(h:Conf Tryz.prog Ni vs):∃f:Fd,vs=f.cs/\f.fit:=by
 have h:=yf (ts:=[Bv,FD,ti]) h (by kernel_rfl)
 obtain⟨a,r,rfl,h1,h⟩:=bJ h
 obtain⟨b,r,rfl,h2,h⟩:=bJ h
 obtain⟨c,r,rfl,h3,h⟩:=bJ h
 cases pj h
 obtain⟨s,rfl,l1⟩:=sO h1 (by kernel_rfl)
 obtain⟨ws,rfl,l2,w2⟩:=Is h2
 obtain⟨bd,rfl,l3,f3⟩:=KB h3
 exact⟨⟨s,ws,bd⟩,rfl,l1,⟨l2,w2⟩,l3,f3⟩
theorem Ju{vs:List PV}(h:Conf Tryz.prog Mr vs):∃l:List Fd,vs=[fdL l]/\Pm l:=by
 have h:=yf (ts:=[Oy]) h (by kernel_rfl)
 obtain⟨a,r,rfl,h1,h⟩:=bJ h
 cases pj h
 obtain⟨es,rfl,l4,h5⟩:=iS h1 (e:=Ni) (by kernel_rfl)
 obtain⟨l,rfl,hl⟩:=kq Fd.cs Fd.fit (λx hx=>On (h5 x hx))
 rw[show Tryz.prog.cellsOf Ni=3 by kernel_rfl]
 exact⟨l,rfl,by rwa[Ux] at l4,hl⟩
def G0:aq:=λg=>if g=iy then some gy else if g=dK then some [.tbl opK opV] else none
theorem Pj:∀k,iA Tryz.prog (k+10) Gk (Rows.laid_loop_example_wholeway_impl_keys (H:=Unit))=gy:=λk=>by kernel_rfl
theorem Tc{W:World}{laid:List (String × DataW Unit)}(hL:laidMet Tryz.prog laid W)(h1:("loop.example/wholeway/impl.keys",Rows.laid_loop_example_wholeway_impl_keys)∈laid)(h2:("loop.example/wholeway/impl.opSign",Rows.laid_loop_example_wholeway_impl_opSign)∈laid):
 ∀g cs,G0 g=some cs->g<W.heap.size/\∀(j:Nat) (c:PV),cs[j]?=some c->∃v,W.cell? ⟨g,j,none⟩=some v/\PRel W (· <W.heap.size) c v:=by
 intro g cs h
 unfold G0 at h
 split at h
 ·rename_i e;subst e;cases h
  exact HC JD hL (n:= "loop.example/wholeway/impl.keys") (d:=Rows.laid_loop_example_wholeway_impl_keys) (t:=Gk) h1 (by kernel_rfl) (by kernel_rfl) (by decide) Pj
 ·split at h
  ·rename_i e;subst e;cases h
   exact JI JD hL (n:= "loop.example/wholeway/impl.opSign") h2 (t:=Oi) (k:=uY) (e:=LJ) (by kernel_rfl) (by kernel_rfl) (by kernel_rfl) (.inl ⟨.i64,by kernel_rfl⟩) (by decide) (by kernel_rfl) (by kernel_rfl) (λm=>by kernel_rfl)
  ·cases h
end Go.Proofs.YtokiapglmedipaaGreatDoor
namespace Go.Proofs.YtokiapglmedipaaGreatDoor
open Go Go.Aw
set_option maxRecDepth 100000
abbrev LR:TypeId:=25
def He:List TypeId:=LR::JC
theorem Qe:Plain Tryz.prog He=true:=by kernel_rfl
theorem HE{vs:List PV}(h:Conf Tryz.prog LR vs):∃l:List Int,vs=[ay l]:=by
 obtain⟨es,rfl,hl,h4⟩:=iS h (e:=uY) (by kernel_rfl)
 have hk:∀x∈es,∃n:Int,x=[PV.int .i64 n]/\(Lit.int .i64 n).wf=true:=λx hx=>od (h4 x hx) (by kernel_rfl)
 obtain⟨l,rfl⟩:=Cn (λn:Int=>[PV.int .i64 n]) (λx hx=>by obtain⟨n,e,_⟩:=hk x hx;exact⟨n,e⟩)
 rw[show Tryz.prog.cellsOf uY=1 by kernel_rfl]
 exact⟨l,rfl⟩
end Go.Proofs.YtokiapglmedipaaGreatDoor
