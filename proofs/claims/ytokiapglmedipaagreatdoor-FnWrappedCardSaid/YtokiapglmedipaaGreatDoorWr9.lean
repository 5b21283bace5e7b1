/-
  Contracts and lemmas that the card needs, part 9.
-/
import Derived.Test.YtokiapglmedipaaGreatDoorWr8
namespace Go.Proofs.YtokiapglmedipaaGreatDoor
open Go Go.Aw
set_option maxRecDepth 100000
set_option maxHeartbeats 4000000
section
variable (G:al)
theorem Se{l:List Fd}(hc:aI l=0)(hz:aH l<=1073741824)(M fuel:Nat):∀k,PcC G l M k fuel:=by
 intro k
 induction k using Nat.strongRecOn with
 |_ k ih=>
  have hX:∀e,WfE l k e->PxC G l M k fuel e:=λe W=>QC G (λe hop W ihk=>NL G hc hz ih e hop W ihk) e.sz e (VM _) W
  have key:∀(N:Nat) (xs:List Sm),aC xs<N->(∀x∈xs,∃d,az d x=true)->aC xs<=1073741824->(∃d,CoS l k d xs)->PbC G l M k fuel xs:=by
   intro N
   induction N with
   |zero=>intro xs h;omega
   |succ N ihN=>
    rintro xs hN hf hzx ⟨d,hco⟩
    refine NI G (by have:=cr xs;omega) λx hx=>?_
    have W:=LA hf hzx hco hx
    have hxz:=dT hx
    have hse:=x.sz_eq
    have hB:=ihN x.body (by omega) W.body.1 W.body.2.1 W.body.2.2
    by_cases h6:x.op=6
    ·exact PF G W hX hB h6
    ·exact PY G W hX hB (ihN x.els (by omega) W.els.1 W.els.2.1 W.els.2.2) h6
  refine QL G hc hz λf hf=>?_
  have hfz:=cN (VD hf)
  have hfs:f.sz=1+f.name.length+(f.params.length+(f.params.map List.length).sum)+aC f.body:=rfl
  exact key (aC f.body+1) f.body (Nat.lt_succ_self _) (λy hy=>⟨4,(iV hc).2 f (VD hf) y hy⟩) (by omega) ⟨1,zJ hc hf⟩
def oJ(l:List Fd)(us:List Int)(fuel:Nat):List AO:=[.row 1 [[.p (fdL l)]],.row 1 [[.p (bu us)]],.row 4 [[.nils,.p (.int .i64 0),.p (.int .i64 0),.nils]],jv l fuel .nils (s0 fuel),.row 1 [[.ptr 3 20 0 0]],.row 4 [[.nils,.p (.int .i64 0),.p (.int .i64 0),.nils]]]
theorem PQ{l:List Fd}{us:List Int}{fuel:Nat}{s':S5}{r:O5 Int}(hc:aI l=0)(hz:aH l<=1073741824)(hl:0<l.length)(hu:∀n∈us,V5 n)(hfu:fuel<=4000)(hE:Ev l (.cal (l.length-1) us (s0 fuel) s' r)):
 AC Tryz.prog G dB [.ptr 4 1 0 0,.ptr 0 1 0 0,.ptr 1 1 0 0,.ptr 5 4 0 0] (oJ l us fuel++[.row 1 [[.p (.int .i64 0)]]]) λx h'=>∃sv sid h2,MI 3 l fuel sv sid s' h2/\Fr [3] (oJ l us fuel++[.row 1 [[.p (.int .i64 0)]]]) h2/\(sid=3\/7<=sid)/\
  (match r with| .ok n=>x= .ret (.tup [])/\h'=h2.set 5 (.row 4 [[.nils,.p (.int .i64 0),.p (.int .i64 n),.nils]])| .st c=>x= .pan bH (.int .i64 c)/\h'=h2):=by
 have hfl:fdL l= .lst 3 (l.map Fd.cs):=rfl
 have hll:l.length<=aH l:=gC l
 have hn1:IntKind.i64.wrap ((l.length:Int)-1)=((l.length-1:Nat):Int):=by rw[ab (by omega) (by omega)];omega
 have hM:MI 3 l fuel .nils 3 (s0 fuel) (oJ l us fuel++[.row 1 [[.p (.int .i64 0)]]]):=⟨rfl,.nn _ (by simp[oJ]),VM _,hfu,by simp[s0]⟩
 refine AC.go rf ?_
 simp-implicitDefEqProofs[kf,oJ,hfl,hn1]
 rw[←hfl]
 refine(Se G hc hz 3 fuel (l.length-1) us (s0 fuel) s' r hE hu (nD fuel) (by simp[M5,s0];omega) _ 3 .nils _ hM (.pp us)).mono ?_
 rintro z h2 ⟨rfl,sv,sid,P⟩
 have h5:h2[5]?=some (.row 4 [[.nils,.p (.int .i64 0),.p (.int .i64 0),.nils]]):=(P.fr.2 5 (by simp[oJ]) (by simp)).trans rfl
 have hsid:sid=3\/7<=sid:=by have:=P.fs;simp[oJ] at this;exact this
 have hF:Fr [3] (oJ l us fuel++[.row 1 [[.p (.int .i64 0)]]]) h2:=P.fr.sub λi hi=>by simp at hi;exact .inl (by simp[hi])
 cases r with
 |ok n=>
  simp-implicitDefEqProofs[aa,du,h5]
  exact⟨sv,sid,h2,P.run,hF,hsid,rfl⟩
 |st c=>
  simp-implicitDefEqProofs[du]
  exact⟨sv,sid,h2,P.run,hF,hsid,rfl⟩
end
section
variable (G:al)
end
section
variable (G:al)
mutual
def Sm.mq:Sm->Nat
 | .mk _ _ a b e=>2+3*fz a+OL b+OL e
def OL:List Sm->Nat
 |[]=>0
 |s::r=>s.mq+OL r
end
def Fd.mq(f:Fd):Nat:=1+f.params.length+OL f.body
end
section
abbrev NN:Nat:=0
def NR:List PV:=[.int .i64 0,.int .i64 0,.int .i64 0,.int .i64 1,.int .i64 2,.int .i64 3,.int .i64 255,.int .i64 16,.int .i64 7]
variable (G:al)
theorem Lh(L:List (List PV))(hl:∀x∈L,x.length=1)(hne:L≠[])(hb:L.length<=1048576):AC Tryz.prog G dK [.p (.lst 1 L)] [] λx h=>x= .ret (.sl 1 1 0 L.length)/\h=[.dead,.row 1 (L.map (·.map .p))]:=by
 obtain⟨x,r,rfl⟩:=List.exists_cons_of_ne_nil hne
 refine AC.go sJ ?_
 simp-implicitDefEqProofs[kY]
 simp at hb
 omega
end
section
variable (G:al)
def trO(x:List Int)(n:Nat):AO:=gE (x.take n)
theorem Qg(x:List Int)(n m:Nat):cz m (trO x n)=trO x n:=by
 simp only[trO,cz,gE,List.map_map];rfl
theorem MN(x:List Int)(n:Nat)(hn:0<n)(hnx:n<=x.length)(hb:x.length<=1000)(h:List AO):AC Tryz.prog G dK [.p (.lst 1 (List.take n (x.map λv=>[.int .i64 v])))] h λy h'=>y= .ret (.sl (h.length+1) 1 0 n)/\h'=h++[.dead,trO x n]:=by
 have hl:(List.take n (x.map λv=>[PV.int .i64 v])).length=n:=by rw[Wb,Wl];omega
 have:=Lh G (List.take n (x.map λv=>[.int .i64 v])) (λy hy=>by obtain⟨_,_,rfl⟩:=VW.1 (Wr hy);rfl) (by intro e;rw[e] at hl;simp at hl;omega) (by rw[hl];omega)
 rw[hl] at this
 have e:AO.row 1 ((List.take n (x.map λv=>[PV.int .i64 v])).map (·.map .p))=trO x n:=by
  rw[trO,gE,←List.map_take,List.map_map];rfl
 rw[e] at this
 refine(AC.lift this (by simp) rfl ?_).mono ?_
 ·simp[Ik,trO,gE,yB,Az]
  intro y hy
  obtain⟨_,_,rfl⟩:=VW.1 (Wr hy)
  rfl
 ·rintro y h' ⟨rfl,rfl⟩
  refine⟨?_,?_⟩
  ·rfl
  ·simp only[VY,List.map_nil,Qg];rfl
variable (hT:G NN=some NR)
include hT
omit hT
include hT
end
section
variable (G:al)
def rb(l:List Fd)(fuel:Nat)(s:S5):List PV:=[fdL l,.int .i64 fuel,.int .i64 ((fuel-s.left:Nat):Int),bu s.said]++s.cells.map λn=> .int .i64 n
theorem Ac{hF:List AO}{m:Nat}{L:List (Nat × AV)}:∀{l1:List (Nat × AV)},(∀x∈l1,Aw.look L x.1=x.2/\below m x.2)->FzA hF m L l1
 |[],_=>trivial
 |x::r,h=>⟨by obtain⟨q1,q2⟩:=h x (by simp);rw[q1];exact .keep q2 .nil,Ac λy hy=>h y (by simp[hy])⟩
theorem Qi{l:List Fd}{fuel:Nat}{sv:AV}{sid:Nat}{s:S5}{h:List AO}{r2 r5:AO}{n:Nat}(H:MI 3 l fuel sv sid s h)(h2:h[2]?=some r2)(h4:h[4]?=some (.row 1 [[.ptr 3 20 0 0]]))(h5:h[5]?=some r5)(k2:okO h.length r2)(k5:okO h.length r5)(hs:sid=3\/7<=sid)
 {l1:List (Nat × AV)}(hl:∀x∈l1,below h.length x.2)(hl1:∀x∈l1,Aw.look l1 x.1=x.2):
 ∃h',(∀L,(∀x∈l1,Aw.look L x.1=x.2)->Wk 0 (ah n L) h (ah n l1) h')/\h'.length=h.length/\h'[2]?=some r2/\h'[4]?=some (.row 1 [[.eptr (rb l fuel s) 0]])/\h'[5]?=some r5:=by
 have hl3:=H.lt
 have hl5:=(Vx.1 h5).1
 have hm:=H.men
 obtain⟨X,hX⟩:∃X:Nat->AO->AO,X=λi o=>if i=sid/\sid≠3 then o else .dead:=⟨_,rfl⟩
 obtain⟨Y,hY⟩:∃Y:Nat->AO->AO,Y=λi o=>if i=3 then .row 20 [(rb l fuel s).map .p] else if i=2\/i=4\/i=5 then o else .dead:=⟨_,rfl⟩
 have hF1:View (h.mapIdx X) sv (bu s.said):=by
  have hsd:=H.said
  have hne:=H.neS
  generalize s.said=xs at hsd
  cases hsd with
  |nn _ _=>exact .nils _
  |ss _ _ q=>
   have hn3:sid≠3:=λe=>hne (by simp) e.symm
   exact iW (by rw[List.getElem?_mapIdx,q,hX];simp[hn3,bs,gE])
 have hcs:∀xs:List Int,Fzs (h.mapIdx X) h.length (xs.map λn=> .p (.int .i64 n)) (xs.map λn=> .p (.int .i64 n)):=λxs=>by
  induction xs with
  |nil=>exact .nil
  |cons x r ih=>exact .keep (by simp[below]) ih
 have eX:∀i o,X i o=if i=sid/\sid≠3 then o else .dead:=λ_ _=>by rw[hX]
 have eY:∀i o,Y i o=if i=3 then .row 20 [(rb l fuel s).map .p] else if i=2\/i=4\/i=5 then o else .dead:=λ_ _=>by rw[hY]
 have t1:Thn (h.mapIdx X) h.length h (h.mapIdx X) (h.mapIdx Y):=CG h X Y λi o hi=>by
  by_cases i3:i=3
  ·subst i3
   rw[hm] at hi
   cases hi
   refine .inr (.inr (.inr ⟨by rw[eX,if_neg (by omega)],20,_,(rb l fuel s).map .p,rfl,by rw[eY,if_pos rfl],?_⟩))
   simp only[rb,List.map_append,VY,List.map_nil,List.map_map]
   exact .keep (by simp[below]) (.keep (by simp[below]) (.keep (by simp[below]) (.one hF1 (hcs s.cells))))
  by_cases i2:i=2\/i=4\/i=5
  ·refine .inl ⟨by rw[eX,if_neg (by omega)],by rw[eY,if_neg i3,if_pos i2],?_⟩
   rcases i2 with rfl|rfl|rfl
   ·rw[h2] at hi;cases hi;exact k2
   ·rw[h4] at hi;cases hi;simp[okO,below,af];omega
   ·rw[h5] at hi;cases hi;exact k5
  by_cases is:i=sid/\sid≠3
  ·exact .inr (.inr (.inl ⟨by rw[eX,if_pos is],by rw[eY,if_neg i3,if_neg i2]⟩))
  ·exact .inr (.inl ⟨by rw[eX,if_neg is],by rw[eY,if_neg i3,if_neg i2]⟩)
 have w1:∀L,(∀x∈l1,Aw.look L x.1=x.2)->Wk 0 (ah n L) h (ah n l1) (h.mapIdx Y):=λL hL=>uy (WA _) t1 (Ac λx hx=>⟨hL x hx,hl x hx⟩)
 have g:∀i o,h[i]?=some o->(h.mapIdx Y)[i]?=some (Y i o):=λi o q=>by rw[List.getElem?_mapIdx,q];rfl
 have hlen:(h.mapIdx Y).length=h.length:=List.length_mapIdx
 generalize h.mapIdx Y=h1 at w1 g hlen
 have g3:h1[3]?=some (.row 20 [(rb l fuel s).map .p]):=by rw[g 3 _ hm,eY,if_pos rfl]
 have g2:h1[2]?=some r2:=by rw[g 2 _ h2,eY,if_neg (by omega),if_pos (by omega)]
 have g4:h1[4]?=some (.row 1 [[.ptr 3 20 0 0]]):=by rw[g 4 _ h4,eY,if_neg (by omega),if_pos (by omega)]
 have g5:h1[5]?=some r5:=by rw[g 5 _ h5,eY,if_neg (by omega),if_pos (by omega)]
 obtain⟨X2,hX2⟩:∃X:Nat->AO->AO,X=λi o=>if i=3 then o else .dead:=⟨_,rfl⟩
 obtain⟨Y2,hY2⟩:∃Y:Nat->AO->AO,Y=λi o=>if i=4 then .row 1 [[.eptr (rb l fuel s) 0]] else if i=2\/i=5 then o else .dead:=⟨_,rfl⟩
 have eX2:∀i o,X2 i o=if i=3 then o else .dead:=λ_ _=>by rw[hX2]
 have eY2:∀i o,Y2 i o=if i=4 then .row 1 [[.eptr (rb l fuel s) 0]] else if i=2\/i=5 then o else .dead:=λ_ _=>by rw[hY2]
 have f3:(h1.mapIdx X2)[3]?=some (.row 20 [(rb l fuel s).map .p]):=by rw[List.getElem?_mapIdx,g3];simp[eX2]
 have t2:Thn (h1.mapIdx X2) h1.length h1 (h1.mapIdx X2) (h1.mapIdx Y2):=CG h1 X2 Y2 λi o hi=>by
  by_cases i4:i=4
  ·subst i4
   rw[g4] at hi
   cases hi
   exact .inr (.inr (.inr ⟨by rw[eX2,if_neg (by omega)],1,_,_,rfl,by rw[eY2,if_pos rfl],.ptr f3 rfl .nil⟩))
  by_cases i2:i=2\/i=5
  ·refine .inl ⟨by rw[eX2,if_neg (by omega)],by rw[eY2,if_neg i4,if_pos i2],?_⟩
   rw[hlen]
   rcases i2 with rfl|rfl
   ·rw[g2] at hi;cases hi;exact k2
   ·rw[g5] at hi;cases hi;exact k5
  by_cases i3:i=3
  ·exact .inr (.inr (.inl ⟨by rw[eX2,if_pos i3],by rw[eY2,if_neg i4,if_neg i2]⟩))
  ·exact .inr (.inl ⟨by rw[eX2,if_neg i3],by rw[eY2,if_neg i4,if_neg i2]⟩)
 have w2:Wk 0 (ah n l1) h1 (ah n l1) (h1.mapIdx Y2):=uy (WA _) t2 (Ac λx hx=>⟨hl1 x hx,by rw[hlen];exact hl x hx⟩)
 refine⟨_,λL hL=>(w1 L hL).trans w2,by rw[List.length_mapIdx,hlen],?_,?_,?_⟩
 ·rw[List.getElem?_mapIdx,g2];simp[eY2]
 ·rw[List.getElem?_mapIdx,g4];simp[eY2]
 ·rw[List.getElem?_mapIdx,g5];simp[eY2]
theorem OK(l:List Fd)(us:List Int)(fuel:Nat):oJ l us fuel=[.row 1 [[.p (fdL l)]],.row 1 [[.p (bu us)]],.row 4 [[.nils,.p (.int .i64 0),.p (.int .i64 0),.nils]],.row 20 [[.p (fdL l),.p (.int .i64 fuel),.p (.int .i64 0),.nils,.p (.int .i64 0),.p (.int .i64 0),.p (.int .i64 0),.p (.int .i64 0),.p (.int .i64 0),.p (.int .i64 0),.p (.int .i64 0),.p (.int .i64 0),.p (.int .i64 0),.p (.int .i64 0),.p (.int .i64 0),.p (.int .i64 0),.p (.int .i64 0),.p (.int .i64 0),.p (.int .i64 0),.p (.int .i64 0)]],.row 1 [[.ptr 3 20 0 0]],.row 4 [[.nils,.p (.int .i64 0),.p (.int .i64 0),.nils]]]:=by
 simp[oJ,jv,s0,List.replicate]
theorem tv:AK.whole iw=FK.ak gU:=rfl
theorem tp{l:List Fd}{us:List Int}{fuel:Nat}{s':S5}{r:O5 Int}(hc:aI l=0)(hz:aH l<=1073741824)(hl:0<l.length)(hu:∀n∈us,V5 n)(hfu:fuel<=4000)(hE:Ev l (.cal (l.length-1) us (s0 fuel) s' r)):
 VF Tryz.prog G dd [.agg [.p (fdL l)],.p (bu us),.p (.int .i64 fuel)] (.tup [.agg ((rd s' r).map .p),.p (.int .i64 ((fuel-s'.left:Nat):Int))]):=by
 have key:AC Tryz.prog G dd [.agg [.p (fdL l)],.p (bu us),.p (.int .i64 fuel)] [] λx h=>∃sv cid,x= .ret (.tup [.agg [sv,.p (.int .i64 (bt r)),.p (.int .i64 (FS r)),.sl cid 1 0 16],.p (.int .i64 ((fuel-s'.left:Nat):Int))])/\View h sv (bu s'.said)/\h[cid]?=some (gE s'.cells):=by
  refine AC.goK tG tv ?_
  simp-implicitDefEqProofs[iw,gU]
  rw[←OK]
  refine vp (λ_:List AO=>ah 33 [(6,.ptr 2 4 0 0),(7,.p (.int .i64 0)),(8,.ptr 4 1 0 0),(9,.ptr 5 4 0 0)]) (λh=>h)
   (λh=>s'.cells.length=16/\h[2]?=some (.row 4 [[.nils,.p (.int .i64 0),.p (.int .i64 0),.nils]])/\h[4]?=some (.row 1 [[.eptr (rb l fuel s') 0]])/\h[5]?=some (.row 4 [[.nils,.p (.int .i64 (bt r)),.p (.int .i64 (FS r)),.nils]])) ?_ ?_
  ·simp-implicitDefEqProofs[]
   refine(Mm G dB [.ptr 4 1 0 0,.ptr 0 1 0 0,.ptr 1 1 0 0,.ptr 5 4 0 0] (oJ l us fuel) (λx h'=>∃h2 sv sid,x= .ret (.p (.int .i64 (bt r)))/\MI 3 l fuel sv sid s' h'/\(sid=3\/7<=sid)/\h'[2]?=some (.row 4 [[.nils,.p (.int .i64 0),.p (.int .i64 0),.nils]])/\h'[4]?=some (.row 1 [[.ptr 3 20 0 0]])/\h'[5]?=some (.row 4 [[.nils,.p (.int .i64 0),.p (.int .i64 (FS r)),.nils]])/\h2=h') ?_).mono ?_
   ·refine(PQ G hc hz hl hu hfu hE).mono ?_
    rintro x h' ⟨sv,sid,h2,q1,q2,q3,q4⟩
    have e6:h2[6]?=some (.row 1 [[.p (.int .i64 0)]]):=(q2.2 6 (by simp[oJ]) (by simp)).trans rfl
    have e2:h2[2]?=some (.row 4 [[.nils,.p (.int .i64 0),.p (.int .i64 0),.nils]]):=(q2.2 2 (by simp[oJ]) (by simp)).trans rfl
    have e4:h2[4]?=some (.row 1 [[.ptr 3 20 0 0]]):=(q2.2 4 (by simp[oJ]) (by simp)).trans rfl
    have e5:h2[5]?=some (.row 4 [[.nils,.p (.int .i64 0),.p (.int .i64 0),.nils]]):=(q2.2 5 (by simp[oJ]) (by simp)).trans rfl
    have hl6:=(Vx.1 e6).1
    have hlen:(oJ l us fuel).length=6:=by simp[oJ]
    rw[hlen]
    cases r with
    |ok n=>
     obtain⟨rfl,rfl⟩:=q4
     refine⟨0,.inl ⟨rfl,rfl⟩,by rw[Vy (by omega)];exact e6,_,sv,sid,rfl,q1.frame (by simp) (by rw[Vy (by omega),Vy (by omega)]) (by rw[Vy (by omega),Vy (by omega)]),q3,?_,?_,?_,rfl⟩
     ·rw[Vy (by omega),Vy (by omega)];exact e2
     ·rw[Vy (by omega),Vy (by omega)];exact e4
     ·rw[Vy (by omega),VC (by omega)];rfl
    |st c=>
     obtain⟨rfl,rfl⟩:=q4
     refine⟨c,.inr rfl,e6,_,sv,sid,rfl,q1.frame (by simp) (by rw[Vy (by omega)]) (by rw[Vy (by omega)]),q3,?_,?_,?_,rfl⟩
     ·rw[Vy (by omega)];exact e2
     ·rw[Vy (by omega)];exact e4
     ·rw[Vy (by omega)];exact e5
   ·rintro z h' ⟨h2,sv,sid,rfl,q1,q2,q3,q4,q5,rfl⟩
    simp-implicitDefEqProofs[aa,q5]
    have hl5:=(Vx.1 q5).1
    have hH:=q1.frame (h':=h2.set 5 (.row 4 [[.nils,.p (.int .i64 (bt r)),.p (.int .i64 (FS r)),.nils]])) (by simp) (by rw[Vy (by omega)]) (by rw[Vy (by omega)])
    obtain⟨h3,w1,w2,w3,w4,w5⟩:=Qi (n:=33) (l1:=[(6,.ptr 2 4 0 0),(7,.p (.int .i64 0)),(8,.ptr 4 1 0 0),(9,.ptr 5 4 0 0)]) hH ((Vy (by omega)).trans q3) ((Vy (by omega)).trans q4) (VC hl5) (by simp[okO,below,af]) (by simp[okO,below,af]) q2
     (by simp[below];omega) (by simp)
    exact⟨h3,⟨q1.len,w3,w4,w5⟩,w1 _ (by simp)⟩
  ·rintro h ⟨qc,q2,q4,q5⟩
   have hch:(cf 1 (rb l fuel s') 4 16)=s'.cells.map λn=>[.int .i64 n]:=by
    unfold rb
    generalize s'.cells=cs at qc
    match cs,qc with
    |[c0,c1,c2,c3,c4,c5,c6,c7,c8,c9,c10,c11,c12,c13,c14,c15],_=>rfl
   have hml:(rb l fuel s').length=20:=by simp[rb,qc]
   have hm2:∀q,(rb l fuel s')[2]'q= .int .i64 ((fuel-s'.left:Nat):Int):=λ_=>rfl
   have hm3:∀q,(rb l fuel s')[3]'q=bu s'.said:=λ_=>rfl
   have hcl:=MN G s'.cells 16 (by omega) (by omega) (by omega) h
   rw[trO,VE (l:=s'.cells) (by omega)] at hcl
   have hl5:=(Vx.1 q5).1
   have a5:∀os,(h++os)[5]?=_:=λos=>(Vz hl5).trans q5
   have a4:∀os,(h++os)[4]?=_:=λos=>(Vz (by omega)).trans q4
   have a2:∀os,(h++os)[2]?=_:=λos=>(Vz (by omega)).trans q2
   simp-implicitDefEqProofs[q2,q4,q5, ↓hch,hml,hm2,hm3]
   refine hcl.mono ?_
   rintro z h' ⟨rfl,rfl⟩
   have s55:∀os z,((h++os).set 5 z)[5]?=some z:=λos z=>VC (by simp;omega)
   have s54:∀os z,((h++os).set 5 z)[4]?=_:=λos z=>(Vy (by omega)).trans (a4 os)
   have s52:∀os z,((h++os).set 5 z)[2]?=_:=λos z=>(Vy (by omega)).trans (a2 os)
   have s22:∀os z w,(((h++os).set 5 z).set 2 w)[2]?=some w:=λos z w=>VC (by simp;omega)
   have s24:∀os z w,(((h++os).set 5 z).set 2 w)[4]?=_:=λos z w=>(Vy (by omega)).trans (s54 os z)
   simp-implicitDefEqProofs[aa, ↓a5, ↓a4, ↓a2, ↓s55, ↓s54, ↓s52, ↓s22, ↓s24,hm2,hm3,hml]
   refine⟨_,_,⟨rfl,rfl⟩,.p _,?_⟩
   rw[Vy (by omega),Vy (by omega),VG (by omega)]
   simp
 refine key.freezeR (λt v h e=>by obtain⟨_,_,e,_⟩:=e;cases e) λv h e=>?_
 obtain⟨sv,cid,e,h1,h2⟩:=e
 cases e
 have v2:=iW (l:=s'.cells) h2
 have hlc:s'.cells.length=16:=(da hE ⟨nD fuel,hu⟩).1.len
 rw[hlc] at v2
 exact .tup (.agg (.one h1 (.keep (by simp) (.keep (by simp) (.one v2 .nil)))) (.keep (by simp) .nil)) .nil
end
section
variable (G:al)
theorem DS(n:Int):VF Tryz.prog G cD [.p (.int .i64 n)] (.p (.bool (!inR n 0 255))):=by
 refine AC.go uL ?_
 simp-implicitDefEqProofs[nh]
 refine(DV G n).use ?_
 simp-implicitDefEqProofs[]
def vL(us:List Int):Option Nat:=us.findIdx? λn=> !inR n 0 255
theorem Gq(us:List Int)(hl:us.length<=1000000000000):VF Tryz.prog G dO [.p (bu us),.fn (.func cD) []] (.p (.int .i64 (ixI (vL us)))):=by
 have hnL:bu us= .lst 1 (us.map λn=>[.int .i64 n]):=rfl
 refine AC.go nr ?_
 simp-implicitDefEqProofs[gN,hnL]
 refine aN (λi:Nat=>ah 19 [(8,.p (.int .i64 i)),(7,.p (.int .i64 us.length)),(0,.p (.lst 1 (us.map λn=>[.int .i64 n]))),(1,.fn (.func cD) [])]) (λ_=>[]) (λi=>i<=us.length/\∀n∈us.take i,inR n 0 255=true) (λi=>us.length-i) 0 (by simp) ?_ ?_
 ·exact bX rfl (by simp[below])
 intro i ⟨hi,hn⟩
 have hwi:=w1 (i:=i) (by omega)
 by_cases h1:i<us.length
 ·have hg:us[i]?=some us[i]:=VA h1
  simp-implicitDefEqProofs[h1,hg]
  refine(DS G us[i]).use ?_
  cases hb:inR us[i] 0 255 with
  |false=>
   have hf:vL us=some i:=by
    rw[vL,VU]
    exact⟨h1,by simp[hb],λj hj=>by have:=hn us[j] (WH.2 ⟨j,by omega,rfl⟩);simp[this]⟩
   simp-implicitDefEqProofs[hf,ixI]
  |true=>
   simp-implicitDefEqProofs[hwi]
   refine⟨i+1,⟨by omega,λp hp=>?_⟩,by omega,bX rfl (by simp[below])⟩
   rw[an h1] at hp
   rcases VJ.1 hp with hp|hp
   ·exact hn p hp
   ·rw[VK.1 hp];exact hb
 ·have hie:i=us.length:=by omega
  subst hie
  rw[List.take_length] at hn
  have hf:vL us=none:=by
   rw[vL,Wh]
   intro x hx
   simp[hn x hx]
  simp-implicitDefEqProofs[hf,ixI]
theorem Ki(us:List Int)(hl:us.length<=1000000000000):VF Tryz.prog G cT [.p (bu us),.fn (.func cD) []] (.p (.bool (!us.all λv=>inR v 0 255))):=by
 refine AC.go lJ ?_
 simp-implicitDefEqProofs[fh]
 refine(Gq G us hl).use ?_
 simp-implicitDefEqProofs[]
 cases hb:vL us with
 |none=>
  have:(us.all λv=>inR v 0 255)=true:=by
   rw[vL,Wh] at hb
   rw[VH]
   intro x hx
   simpa using hb x hx
  rw[this];simp[ixI]
 |some i=>
  have:(us.all λv=>inR v 0 255)=false:=by
   rw[vL,VU] at hb
   obtain⟨h1,h2,_⟩:=hb
   rw[List.all_eq_false]
   exact⟨us[i],VT h1,by simpa using h2⟩
  rw[this];simp[ixI]
def nt(us:List Int)(n:Nat):Bool:=decide (us.length=n)&&us.all λv=>inR v 0 255
theorem Jx(us:List Int)(n:Nat)(hl:us.length<=1000000000000):VF Tryz.prog G kS [.p (bu us),.p (.int .i64 n)] (.p (.bool (nt us n))):=by
 have hnL:bu us= .lst 1 (us.map λn=>[.int .i64 n]):=rfl
 refine AC.go zi ?_
 by_cases h:us.length=n
 ·have h':(us.length:Int)=(n:Int):=by omega
  simp-implicitDefEqProofs[kQ,hnL,h']
  rw[←hnL]
  refine(Ki G us hl).use ?_
  simp-implicitDefEqProofs[nt,h]
 ·have h':¬(us.length:Int)=(n:Int):=by omega
  simp-implicitDefEqProofs[kQ,hnL,h',nt,h]
def eJ(l:List Fd)(us:List Int):Bool:=decide (aI l=0)&&(match l[l.length-1]? with|some f=>nt us f.params.length|none=>false)
variable (hK:G eS=some ep) (hS:G cu=some [.tbl opK opV])
include hK hS
theorem zM(l:List Fd)(us:List Int)(hz:aH l<=1073741824)(hl:us.length<=1000000000000):VF Tryz.prog G je [.agg [.p (fdL l)],.p (bu us)] (.p (.bool (eJ l us))):=by
 have hfl:fdL l= .lst 3 (l.map Fd.cs):=rfl
 have hll:l.length<=aH l:=gC l
 refine AC.go BI ?_
 simp-implicitDefEqProofs[rV]
 refine(PE G hK hS l hz).use ?_
 by_cases hc:aI l=0
 ·have h0:0<l.length:=by have:=(iV hc).1;cases l<;>simp_all
  have hn1:IntKind.i64.wrap ((l.length:Int)-1)=((l.length-1:Nat):Int):=by rw[ab (by omega) (by omega)];omega
  have hg:l[l.length-1]?=some l[l.length-1]:=VA (by omega)
  generalize l[l.length-1]=f at hg
  have hfc:f.cs=[.str f.name,am f.params,smL f.body]:=rfl
  have hpL:am f.params= .lst 1 (f.params.map λw=>[.str w]):=rfl
  simp-implicitDefEqProofs[hc,hfl,hn1,hg,hfc,hpL]
  refine(Jx G us f.params.length hl).use ?_
  simp-implicitDefEqProofs[eJ,hc,hg]
 ·simp-implicitDefEqProofs[hc,eJ]
end
section
variable (G:al)
variable (hK:G eS=some ep) (hS:G cu=some [.tbl opK opV])
include hK hS
theorem Jt{l:List Fd}{us:List Int}(hz:aH l<=1073741824)(hl:us.length<=1000000000000)(ho:eJ l us=false):VF Tryz.prog G dZ [.agg [.p (fdL l)],.p (bu us)] (.p (.int .i64 (-1))):=by
 refine AC.go rR ?_
 simp-implicitDefEqProofs[mu]
 refine(zM G hK hS l us hz hl).use ?_
 simp-implicitDefEqProofs[ho]
theorem Jq{l:List Fd}{us:List Int}{s':S5}{r:O5 Int}(hz:aH l<=1073741824)(hl:us.length<=1000000000000)(ho:eJ l us=true)(hc:aI l=0)(h0:0<l.length)(hu:∀n∈us,V5 n)(hE:Ev l (.cal (l.length-1) us (s0 4000) s' r)):
 VF Tryz.prog G dZ [.agg [.p (fdL l)],.p (bu us)] (.p (.int .i64 (if bt r=3 then-1 else((4000-s'.left:Nat):Int)))):=by
 refine AC.go rR ?_
 simp-implicitDefEqProofs[mu]
 refine(zM G hK hS l us hz hl).use ?_
 simp-implicitDefEqProofs[ho]
 refine(tp G hc hz h0 hu (VM _) hE).use ?_
 by_cases h3:bt r=3
 ·simp-implicitDefEqProofs[rd,h3]
 ·simp-implicitDefEqProofs[rd,h3]
theorem BH{l:List Fd}{us:List Int}{fuel:Nat}{s':S5}{r:O5 Int}(hz:aH l<=1073741824)(hl:us.length<=1000000000000)(ho:eJ l us=true)(hc:aI l=0)(h0:0<l.length)(hu:∀n∈us,V5 n)(hfu:fuel<=4000)(hE:Ev l (.cal (l.length-1) us (s0 fuel) s' r)):
 VF Tryz.prog G dc [.agg [.p (fdL l)],.p (bu us),.p (.int .i64 fuel)] (.tup [.agg ((rd s' r).map .p),.p (.bool true)]):=by
 have hf:inR (fuel:Int) 0 4000=true:=by simp[inR];omega
 refine AC.go tw ?_
 simp-implicitDefEqProofs[me]
 refine(zM G hK hS l us hz hl).use ?_
 simp-implicitDefEqProofs[ho]
 refine(mY G fuel 0 4000).use ?_
 simp-implicitDefEqProofs[hf]
 refine(tp G hc hz h0 hu hfu hE).use ?_
 simp-implicitDefEqProofs[rd]
end
section
variable (G:al)
theorem FY(us:List Int)(hl:us.length<=1000000000000):VF Tryz.prog G jH [.p (bu us)] (.p (.bool (us.all λv=>inR v 0 255))):=by
 have hnL:bu us= .lst 1 (us.map λn=>[.int .i64 n]):=rfl
 refine AC.go yE ?_
 simp-implicitDefEqProofs[nP,hnL]
 refine aN (λi:Nat=>ah 16 [(3,.p (.int .i64 i)),(0,.p (.lst 1 (us.map λn=>[.int .i64 n])))]) (λ_=>[]) (λi=>i<=us.length/\∀n∈us.take i,inR n 0 255=true) (λi=>us.length-i) 0 (by simp) ?_ ?_
 ·exact bX rfl (by simp[below])
 intro i ⟨hi,hn⟩
 have hwi:=w1 (i:=i) (by omega)
 by_cases h1:i<us.length
 ·have hg:us[i]?=some us[i]:=VA h1
  simp-implicitDefEqProofs[h1,hg]
  refine(sw G us[i] 0 255).use ?_
  cases hb:inR us[i] 0 255 with
  |false=>
   have hf:(us.all λv=>inR v 0 255)=false:=by
    rw[List.all_eq_false]
    exact⟨us[i],VT h1,by simp[hb]⟩
   simp-implicitDefEqProofs[hf]
  |true=>
   simp-implicitDefEqProofs[hwi]
   refine⟨i+1,⟨by omega,λp hp=>?_⟩,by omega,bX rfl (by simp[below])⟩
   rw[an h1] at hp
   rcases VJ.1 hp with hp|hp
   ·exact hn p hp
   ·rw[VK.1 hp];exact hb
 ·have hie:i=us.length:=by omega
  subst hie
  rw[List.take_length] at hn
  have hf:(us.all λv=>inR v 0 255)=true:=by
   rw[VH];exact hn
  simp-implicitDefEqProofs[hf]
theorem Ao(l:List Fd)(us:List Int)(hz:aH l<=1073741824)(hl:us.length<=1000000000000):VF Tryz.prog G jo [.agg [.p (fdL l)],.p (bu us)] (.p (.bool (eJ l us))):=by
 have hfl:fdL l= .lst 3 (l.map Fd.cs):=rfl
 have hnL:bu us= .lst 1 (us.map λn=>[.int .i64 n]):=rfl
 have hll:l.length<=aH l:=gC l
 refine AC.go Bh ?_
 simp-implicitDefEqProofs[rM]
 refine(LR G l hz).use ?_
 by_cases hc:aI l=0
 ·have h0:0<l.length:=by have:=(iV hc).1;cases l<;>simp_all
  have hn1:IntKind.i64.wrap ((l.length:Int)-1)=((l.length-1:Nat):Int):=by rw[ab (by omega) (by omega)];omega
  have hg:l[l.length-1]?=some l[l.length-1]:=VA (by omega)
  generalize l[l.length-1]=f at hg
  have hfc:f.cs=[.str f.name,am f.params,smL f.body]:=rfl
  have hpL:am f.params= .lst 1 (f.params.map λw=>[.str w]):=rfl
  simp-implicitDefEqProofs[hc]
  refine(FY G us hl).use ?_
  cases hb:(us.all λv=>inR v 0 255) with
  |false=>simp-implicitDefEqProofs[eJ,nt,hc,hg,hb]
  |true=>
   by_cases hq:us.length=f.params.length
   ·have hq':(us.length:Int)=(f.params.length:Int):=by omega
    simp-implicitDefEqProofs[hfl,hnL,hn1,hg,hfc,hpL,eJ,nt,hc,hb,hq,hq']
   ·have hq':¬(us.length:Int)=(f.params.length:Int):=by omega
    simp-implicitDefEqProofs[hfl,hnL,hn1,hg,hfc,hpL,eJ,nt,hc,hb,hq,hq']
 ·simp-implicitDefEqProofs[hc,eJ]
theorem IF{l:List Fd}{us:List Int}(hz:aH l<=1073741824)(hl:us.length<=1000000000000)(ho:eJ l us=false):VF Tryz.prog G eb [.agg [.p (fdL l)],.p (bu us)] (.p (.int .i64 (-1))):=by
 refine AC.go sg ?_
 simp-implicitDefEqProofs[mM]
 refine(Ao G l us hz hl).use ?_
 simp-implicitDefEqProofs[ho]
theorem Io{l:List Fd}{f:Fd}{us:List Int}{s':S5}{r:O5 Int}(hz:aH l<=1073741824)(hl:us.length<=1000000000000)(ho:eJ l us=true)(hc:aI l=0)(hf:l[l.length-1]?=some f)(hp:us.length=f.params.length)(hu:∀n∈us,V5 n)(hE:Ev l (.cal (l.length-1) us (s0 4000) s' r))(hle:s'.left<=4000):
 VF Tryz.prog G eb [.agg [.p (fdL l)],.p (bu us)] (.p (.int .i64 (if bt r=3 then-1 else((4000-s'.left:Nat):Int)))):=by
 have hn1:IntKind.i64.wrap (4000-(s'.left:Int))=((4000-s'.left:Nat):Int):=by rw[ab (by omega) (by omega)];omega
 refine AC.go sg ?_
 simp-implicitDefEqProofs[mM]
 refine(Ao G l us hz hl).use ?_
 simp-implicitDefEqProofs[ho]
 refine(Kk G hc hz hf hp hu (VM _) hE).use ?_
 by_cases h3:bt r=3
 ·simp-implicitDefEqProofs[rd,h3]
 ·simp-implicitDefEqProofs[rd,h3,hn1]
theorem Bw{l:List Fd}{f:Fd}{us:List Int}{fuel:Nat}{s':S5}{r:O5 Int}(hz:aH l<=1073741824)(hl:us.length<=1000000000000)(ho:eJ l us=true)(hc:aI l=0)(hf:l[l.length-1]?=some f)(hp:us.length=f.params.length)(hu:∀n∈us,V5 n)(hfu:fuel<=4000)(hE:Ev l (.cal (l.length-1) us (s0 fuel) s' r)):
 VF Tryz.prog G ir [.agg [.p (fdL l)],.p (bu us),.p (.int .i64 fuel)] (.tup [.agg ((rd s' r).map .p),.p (.bool true)]):=by
 have hq:inR (fuel:Int) 0 4000=true:=by simp[inR];omega
 refine AC.go tL ?_
 simp-implicitDefEqProofs[mc]
 refine(Ao G l us hz hl).use ?_
 simp-implicitDefEqProofs[ho]
 refine(sw G fuel 0 4000).use ?_
 simp-implicitDefEqProofs[hq]
 refine(Kk G hc hz hf hp hu hfu hE).use ?_
 simp-implicitDefEqProofs[rd]
end
section
variable (G:al)
variable (hK:G eS=some ep) (hS:G cu=some [.tbl opK opV])
theorem pO{l:List Fd}{us:List Int}(h:eJ l us=true):aI l=0/\0<l.length/\(∃f,l[l.length-1]?=some f/\us.length=f.params.length)/\∀n∈us,V5 n:=by
 simp only[eJ,VS,decide_eq_true_eq] at h
 obtain⟨h1,h2⟩:=h
 refine⟨h1,by have:=(iV h1).1;cases l<;>simp_all,?_⟩
 split at h2
 ·rename_i f hf
  simp only[nt,VS,decide_eq_true_eq,VH] at h2
  exact⟨⟨f,hf,h2.1⟩,λn hn=>by have:=h2.2 n hn;simpa[inR,V5] using this⟩
 ·cases h2
include hK hS
end
section
theorem OS{l:List Fd}{K fuel:Nat}{us:List Int}{s':S5}{r:O5 Int}(h:Ev l (.cal K us (s0 fuel) s' r)):s'.said.length<=fuel:=by
 have h1:M5 s'<=M5 (s0 fuel)/\s'.left<=(s0 fuel).left:=mL h
 have h2:M5 (s0 fuel)=fuel:=by simp[M5,s0]
 have h3:=h1.1
 rw[h2] at h3
 simp only[M5] at h3
 omega
theorem OE{l:List Fd}{K fuel:Nat}{us:List Int}{s':S5}{r:O5 Int}(h:Ev l (.cal K us (s0 fuel) s' r)):s'.left<=fuel:=(show M5 s'<=M5 (s0 fuel)/\s'.left<=(s0 fuel).left from mL h).2
theorem Lv{l:List Fd}{us:List Int}{f:Fd}(hc:aI l=0)(hf:l[l.length-1]?=some f)(hl:us.length=f.params.length)(hv:∀n∈us,V5 n):eJ l us=true:=by
 simp only[eJ,hc,hf,nt,hl,decide_true,Bool.true_and,VH]
 intro n hn
 have:=hv n hn
 simp only[inR,VS,decide_eq_true_eq]
 exact this
variable (G:al)
structure Runs (l:List Fd) (us:List Int) (fuel:Nat) (s':S5) (r:O5 Int):Prop where
 ev:Ev l (.cal (l.length-1) us (s0 fuel) s' r)
 said:s'.said.length<=4000
 cells:s'.cells.length=16
 left:s'.left<=fuel
 impl:VF Tryz.prog G dc [.agg [.p (fdL l)],.p (bu us),.p (.int .i64 fuel)] (.tup [.agg ((rd s' r).map .p),.p (.bool true)])
 spec:VF Tryz.prog G ir [.agg [.p (fdL l)],.p (bu us),.p (.int .i64 fuel)] (.tup [.agg ((rd s' r).map .p),.p (.bool true)])
theorem EH(xs:List Int)(hb:xs.length<=1048576):VF Tryz.prog G dP [.p (bu xs),.p (bu xs)] (.p (.bool true)):=by
 have hsl:∀l,bu l= .lst 1 (l.map λw=>[.int .i64 w]):=λ_=>rfl
 refine AC.go sV ?_
 simp-implicitDefEqProofs[lg,hsl]
 refine aN (λi:Nat=>ah 26 [(0,.p (bu xs)),(1,.p (bu xs)),(11,.p (bu xs)),(12,.p (.int .i64 xs.length)),(13,.p (.int .i64 i))]) (λ_=>[]) (λi=>i<=xs.length) (λi=>xs.length-i) 0 (by simp) ?_ ?_
 ·exact bX rfl (by simp[below,bu])
 intro i hi
 simp-implicitDefEqProofs[hsl]
 refine bh (λh1=>?_) (λh1=>?_)
 ·simp at h1
  have hg:xs[i]?=some xs[i]:=VA h1
  generalize xs[i]=x at hg
  simp-implicitDefEqProofs[hg]
  refine⟨i+1,by omega,by omega,bX rfl ?_⟩
  simp[below,bu,w1 (i:=i) (by omega)]
 ·simp at h1
  simp-implicitDefEqProofs[]
theorem Ns(xs ys:List Int)(e v:Int)(hx:xs.length<=1048576)(hy:ys.length<=1048576):VF Tryz.prog G gl [.agg [.p (bu xs),.p (.int .i64 e),.p (.int .i64 v),.p (bu ys)],.agg [.p (bu xs),.p (.int .i64 e),.p (.int .i64 v),.p (bu ys)]] (.p (.bool true)):=by
 refine AC.go sX ?_
 simp-implicitDefEqProofs[kL]
 refine(EH G xs hx).use ?_
 simp-implicitDefEqProofs[]
 refine(EH G ys hy).use ?_
 simp-implicitDefEqProofs[]
variable (hK:G eS=some ep) (hS:G cu=some [.tbl opK opV])
include hK hS
theorem yY{l:List Fd}{us:List Int}{fuel:Nat}{s':S5}{r:O5 Int}(hz:aH l<=1073741824)(hl:us.length<=1000000000000)(ho:eJ l us=true)(hfu:fuel<=4000)(hE:Ev l (.cal (l.length-1) us (s0 fuel) s' r)):Runs G l us fuel s' r:=by
 obtain⟨hc,h0,⟨f,hf1,hf2⟩,hv⟩:=pO ho
 exact⟨hE,VR (OS hE) hfu,(da hE ⟨nD fuel,hv⟩).1.len,OE hE,BH G hK hS hz hl ho hc h0 hv hfu hE,Bw G hz hl ho hc hf1 hf2 hv hfu hE⟩
theorem Uz{l:List Fd}{us:List Int}{fuel:Nat}(hz:aH l<=1073741824)(hl:us.length<=1000000000000)(ho:eJ l us=true)(hfu:fuel<=4000):∃s' r,Runs G l us fuel s' r:=by
 obtain⟨hc,h0,⟨f,hf1,hf2⟩,hv⟩:=pO ho
 obtain⟨s',r,hE,_⟩:=UH hc hf1 hf2 hv fuel
 exact⟨s',r,yY G hK hS hz hl ho hfu hE⟩
theorem Pv{l:List Fd}{us:List Int}{s':S5}{r:O5 Int}(hz:aH l<=1073741824)(hl:us.length<=1000000000000)(ho:eJ l us=true)(R:Runs G l us 4000 s' r):
 VF Tryz.prog G dZ [.agg [.p (fdL l)],.p (bu us)] (.p (.int .i64 (if bt r=3 then-1 else((4000-s'.left:Nat):Int))))/\VF Tryz.prog G eb [.agg [.p (fdL l)],.p (bu us)] (.p (.int .i64 (if bt r=3 then-1 else((4000-s'.left:Nat):Int)))):=by
 obtain⟨hc,h0,⟨f,hf1,hf2⟩,hv⟩:=pO ho
 exact⟨Jq G hK hS hz hl ho hc h0 hv R.ev,Io G hz hl ho hc hf1 hf2 hv R.ev R.left⟩
omit hK hS in
theorem endI_three{r:O5 Int}:bt r=3↔r= .st 3:=by
 cases r with
 |ok n=>simp[bt]
 |st c=>simp[bt]
end
section
variable (G:al)
theorem KE{ρ:List Nat}:∀{args:List AV},af 0 args->TW ρ args args
 |[],_=>trivial
 |v::r,h=>⟨.inr ⟨(bj (WA _) [v] ⟨h.1,trivial⟩).1,by have:=dY ρ [v] ⟨h.1,trivial⟩;simpa[bg] using this⟩,KE h.2⟩
theorem Lz{f:FuncId}{args:List AV}{b:List Int}{p:Nat}{Q:AV->Nat->Prop}(H:AC Tryz.prog G f (.ptr 0 2 0 0::args) [rdO b p] λx h=>∃v q,x= .ret v/\h=[rdO b q]/\Q v q)(hq:∀v q,Q v q->below 0 v){h:List AO}{k:Nat}(hk:h[k]?=some (rdO b p))(ha:af 0 args):
 AC Tryz.prog G f (.ptr k 2 0 0::args) h λx h'=>∃v q,x= .ret v/\h'=h.set k (rdO b q)/\Q v q:=by
 refine(H.frame (h:=h) (args:= .ptr k 2 0 0::args) [k] (by simp) ⟨.inr ⟨by simp[below],by simp[ren]⟩,KE ha⟩ (bJ hk (aW _ _ _) bL)).mono ?_
 rintro x h' ⟨x0,h0,⟨v,q,rfl,rfl,r⟩,hl,rfl,rfl⟩
 refine⟨v,q,?_,?_,r⟩
 ·simp only[BA]
  have:=dY ([k]++List.range' h.length ([rdO b q].length-[rdO b p].length)) [v] ⟨hq v q r,trivial⟩
  simpa[bg] using this
 ·have hp2:∀σ,ib σ (rdO b q)=rdO b q:=λσ=>by simp[rdO,ib,bg,ren]
  simp[mrg,hp2]
theorem Nj{l:List Int}(h:Byt l)(n:Nat):Byt (l.take n):=λx hx=>h x (Wr hx)
theorem EB{f:FuncId}{args:List AV}{R:ARes->Prop}(H:AC Tryz.prog G f args [] λx _=>R x)(hR:∀x,R x->∃v,x= .ret v/\below 0 v)(ha:af 0 args)(h:List AO):AC Tryz.prog G f args h λx h'=>R x/\h'=h:=by
 have H2:AC Tryz.prog G f args [] λx h'=>R x/\h'=[]:=by
  refine H.wk (λt v h' r=>by obtain⟨_,e,_⟩:=hR _ r;cases e) λv h' r=>?_
  obtain⟨v',e,hv⟩:=hR _ r
  cases e
  exact⟨v,[],ML rfl ⟨.inr ⟨hv,rfl⟩,trivial⟩,r,rfl⟩
 refine(H2.pre h ha (λo ho=>by cases ho) (λx h' r=>by rw[r.2])).mono ?_
 rintro x h' ⟨h1,⟨r,rfl⟩,rfl⟩
 exact⟨r,rfl⟩
variable (hK:G eS=some ep) (hS:G cu=some [.tbl opK opV])
include hK hS
end
section
theorem EE:AK.whole oz=FK.ak pk:=rfl
variable (G:al)
def Dw(l:List Fd):Nat:=match l[l.length-1]? with|some f=>f.params.length|none=>0
theorem OF(l:List Fd):Dw l<=aH l:=by
 unfold Dw
 split
 ·rename_i f hf
  have:=cN (VD hf)
  rw[Fd.sz] at this
  omega
 ·exact WA _
structure Ys5 where (us:List Int) (q i:Nat)
theorem Rj{b:List Int}(hb:Byt b)(hl:b.length<=2000){p:Nat}(hp:p<=3000000000)(l:List Fd)(hz:aH l<=900000000):AC Tryz.prog G oO [.ptr 0 2 0 0,.agg [.p (fdL l)]] [rdO b p] λx h=>∃v q,x= .ret v/\h=[rdO b q]/\(∃us:List Int,v= .p (bu us)/\us.length<=900000001)/\p<=q/\q<=p+1800000003:=by
 refine lM G (AC.goK Ew EE ?_)
 have hll:=fO l
 have hpl:=OF l
 have hfl:fdL l= .lst 3 (l.map Fd.cs):=rfl
 have hn0:gE []= .row 1 []:=rfl
 simp-implicitDefEqProofs[pk,oz]
 refine lI (ah 54 [(0,.ptr 0 2 0 0),(5,.sl 1 1 0 0),(6,.p (.int .i64 (Dw l)))]) [rdO b p,gE []] ?_ ?_
 ·by_cases h0:l=[]
  ·subst h0
   simp-implicitDefEqProofs[hfl]
   refine cZ [0,2] (by simp) (by decide) (by decide) (bJ rfl (aW _ _ _) (bJ rfl (by simp[gE,okO]) bL)) ?_
   simp[below,ren,Dw]
  ·have hlen:0<l.length:=List.length_pos_iff.2 h0
   have hg:l[l.length-1]?=some l[l.length-1]:=VA (by omega)
   have hpe:Dw l=l[l.length-1].params.length:=by rw[Dw,hg]
   rw[hpe]
   generalize l[l.length-1]=f at hg
   have hw:IntKind.i64.wrap ((l.length:Int)-1)=((l.length-1:Nat):Int):=by rw[ab (by omega) (by omega)];omega
   have hfc:f.cs=[.str f.name,am f.params,smL f.body]:=rfl
   have hsl:∀l,am l= .lst 1 (l.map λw=>[.str w]):=λ_=>rfl
   have hc:(0:Int)<l.length:=by omega
   simp-implicitDefEqProofs[hfl,hlen,hw,hg,hfc,hsl]
   refine cZ [0,2] (by simp) (by decide) (by decide) (bJ rfl (aW _ _ _) (bJ rfl (by simp[gE,okO]) bL)) ?_
   simp[below,ren]
 refine vp (λs:Ys5=>ah 54 [(0,.ptr 0 2 0 0),(5,.sl 1 1 0 s.us.length)]) (λs=>[rdO b s.q,gE s.us]) (λs=>s.us.length<=900000000/\p<=s.q/\s.q<=p+1800000000) ?_ ?_
 ·simp-implicitDefEqProofs[]
  refine aN (λs:Ys5=>ah 54 [(0,.ptr 0 2 0 0),(5,.sl 1 1 0 s.us.length),(6,.p (.int .i64 (Dw l))),(7,.p (.int .i64 s.i))]) (λs=>[rdO b s.q,gE s.us]) (λs=>s.i<=Dw l/\s.us.length=s.i/\p<=s.q/\s.q<=p+2*s.i) (λs=>Dw l-s.i) ⟨[],p,0⟩ (by simp) ?_ ?_
  ·refine cZ [0,1] (by simp) (by decide) (by decide) (bJ rfl (aW _ _ _) (bJ rfl (by simp[gE,okO]) bL)) ?_
   simp[below,ren]
  rintro⟨us,q,i⟩ ⟨h1,h2,h3,h4⟩
  simp only at h1 h2 h3 h4
  have hwi:=w1 (i:=i) (by omega)
  have hbo:∀us,gE us= .row 1 (us.map λn=>[.p (.int .i64 n)]):=λ_=>rfl
  have ht:∀us:List Int,List.take us.length (us.map λn=>[AV.p (.int .i64 n)])=us.map λn=>[.p (.int .i64 n)]:=λus=>VE (by simp)
  simp-implicitDefEqProofs[]
  refine bh (λhc=>?_) (λhc=>?_)
  ·simp at hc
   simp-implicitDefEqProofs[]
   refine(aP G b hb hl q (by omega) 256 _).mono ?_
   rintro r h ⟨k,rfl,rfl,_⟩
   simp-implicitDefEqProofs[aa]
   refine(jY G hb hl (p:=q+1) (by omega) [0,1,2,3,7,16,255,(k:Int)] (k:=2) (by simp) (by simp) (by omega) rfl (by simp[gE])).mono ?_
   rintro r h ⟨n,_,rfl,rfl⟩
   simp-implicitDefEqProofs[aa,hbo,ht]
   refine⟨by omega,?_⟩
   simp-implicitDefEqProofs[hwi]
   refine⟨⟨us++[n],q+2,i+1⟩,⟨by simp only;omega,by simp only[VO,List.length_singleton];omega,by simp only;omega,by simp only;omega⟩,by simp only;omega,?_⟩
   refine cZ [0,4] (by simp) (by decide) (by decide) (bJ rfl (aW _ _ _) (bf (by simp) (Cc (us++[n])) bL)) ?_
   simp[below,ren]
  ·simp at hc
   refine⟨⟨us,q,0⟩,⟨by simp only;omega,by simp only;omega,by simp only;omega⟩,?_⟩
   refine cZ [0,1] (by simp) (by decide) (by decide) (bJ rfl (aW _ _ _) (bf rfl (Cc us) bL)) ?_
   simp[below,ren]
 rintro⟨us,q,i⟩ ⟨h1,h2,h3⟩
 simp only at h1 h2 h3
 have hbo:∀us,gE us= .row 1 (us.map λn=>[.p (.int .i64 n)]):=λ_=>rfl
 simp-implicitDefEqProofs[]
 refine(aP G b hb hl q (by omega) 40 _).mono ?_
 rintro r h ⟨k,rfl,rfl,_⟩
 simp-implicitDefEqProofs[aa]
 have hv:∀(h:List AO) (j:Nat) (us:List Int) (n:Nat),n=us.length->h[j]?=some (gE us)->View h (.sl j 1 0 n) (bu us):=λh j us n e q=>by subst e;exact iW q
 have ht:∀us:List Int,List.take us.length (us.map λn=>[AV.p (.int .i64 n)])=us.map λn=>[.p (.int .i64 n)]:=λus=>VE (by simp)
 by_cases k0:k=0
 ·simp-implicitDefEqProofs[k0,hbo,ht]
  refine⟨by omega,?_⟩
  exact⟨_,_,q+1,.p (bu (us++[0])),rfl,rfl,.one (hv _ _ _ _ (by simp) (by simp[gE])) .nil,⟨_,rfl,by simp;omega⟩,by omega,by omega⟩
 have k1':¬(k:Int)=0:=by omega
 by_cases k1:(k:Int)=1
 ·simp-implicitDefEqProofs[k0,k1]
  refine bh (λhc=>?_) (λhc=>?_)
  ·cases us with
   |nil=>simp at hc
   |cons u us=>
    simp-implicitDefEqProofs[]
    refine(jY G hb hl (p:=q+1) (by omega) [-1,256] (k:=2) (by simp) (by simp) (by omega) rfl (by simp[gE])).mono ?_
    rintro r h ⟨n,_,rfl,rfl⟩
    simp-implicitDefEqProofs[aa,hbo]
    exact⟨_,_,q+2,.p (bu (n::us)),rfl,rfl,.one (hv _ _ _ _ (by simp) (by simp[gE])) .nil,⟨_,rfl,by simpa using Nat.le_succ_of_le h1⟩,by omega,by omega⟩
  ·simp-implicitDefEqProofs[]
   exact⟨_,_,q+1,.p (bu us),rfl,rfl,.one (iW rfl) .nil,⟨_,rfl,by omega⟩,by omega,by omega⟩
 ·simp-implicitDefEqProofs[k0,k1]
  exact⟨_,_,q+1,.p (bu us),rfl,rfl,.one (iW rfl) .nil,⟨_,rfl,by omega⟩,by omega,by omega⟩
def DrR(x:ARes):Prop:=∃(l:List Fd) (us:List Int) (fuel:Int),x= .ret (.tup [.agg [.p (fdL l)],.p (bu us),.p (.int .i64 fuel)])/\aH l<=900000000/\us.length<=900000001
theorem KR:∀x,DrR x->∃v,x= .ret v/\below 0 v:=λx ⟨l,us,fuel,e,_⟩=>⟨_,e,by simp[below]⟩
theorem vA(code:List Int)(hb:Byt code):AC Tryz.prog G ef [.p (sZ code)] [] λx _=>DrR x:=by
 refine AC.go oc ?_
 simp-implicitDefEqProofs[iF]
 refine(AC.lift (Rb G code) (by simp) rfl rfl).mono ?_
 rintro r h ⟨rfl,rfl⟩
 have hr:∀n,cz n (rdO (code.take 2000) 0)=rdO (code.take 2000) 0:=λn=>by simp[rdO,cz,dG,cg]
 have hbt:=Nj hb 2000
 have hbl:(code.take 2000).length<=2000:=by rw[Wb];omega
 generalize code.take 2000=b at hr hbt hbl
 simp-implicitDefEqProofs[aa,cg,hr]
 refine(Lz G (Q:=λv q2=>(∃l:List Fd,v= .agg [.p (fdL l)]/\aH l<=200000000)/\q2<=200000000) ((GA G hbt hbl (p:=0) (by omega)).mono λx h ⟨l,q,e1,e2,_,e4,_,e6⟩=>⟨_,q,e1,e2,⟨l,rfl,e4⟩,by omega⟩) (λv q ⟨⟨l,e,_⟩,_⟩=>by rw[e];simp[below]) (h:=[.row 1 [[.nils]],rdO b 0]) (k:=1) rfl (by simp)).mono ?_
 rintro r h ⟨v,q,rfl,rfl,⟨l,rfl,hz⟩,hq⟩
 simp-implicitDefEqProofs[aa]
 have pick:∀(q:Nat) (h:List AO) (n:Int),q<=3000000000->h[1]?=some (rdO b q)->AC Tryz.prog G aT [.ptr 1 2 0 0,.p (.int .i64 n)] h λx h'=>∃v q2,x= .ret v/\h'=h.set 1 (rdO b q2)/\∃k:Nat,v= .p (.int .i64 k)/\q2=q+1:=λq h n hq h1=>
  Lz G (Q:=λv q2=>∃k:Nat,v= .p (.int .i64 k)/\q2=q+1) ((Mw G b hbt hbl q (by omega) n).mono λx h ⟨k,e1,e2,_⟩=>⟨_,_,e1,e2,k,rfl,rfl⟩) (λv q ⟨k,e,_⟩=>by rw[e];simp[below]) h1 (by simp[below])
 have fin:∀(l:List Fd) (q:Nat),aH l<=900000000->q<=3000000000->∀T,T=AO.row 1 [[.nils]]->True:=λ_ _ _ _ _ _=>trivial
 refine(pick q _ 12 (by omega) rfl).mono ?_
 rintro r h ⟨v,q2,rfl,rfl,k,rfl,rfl⟩
 simp-implicitDefEqProofs[aa]
 have inn:=λ(l:List Fd) (q:Nat) (hz:aH l<=900000000) (hq:q<=3000000000) (h:List AO) (h1:h[1]?=some (rdO b q))=>Lz G (Rj G hbt hbl hq l hz) (λv q ⟨⟨us,e,_⟩,_⟩=>by rw[e];simp[below]) h1 (by simp[below])
 have num:=λ(q:Nat) (hq:q<=5000000000) (h:List AO) (h1:h[1]?=some (rdO b q))=>Lz G (args:=[.p (bu [400,400,1000,20,5,1,0,4000,-1,4001])]) (Q:=λv q2=>∃n:Int,v= .p (.int .i64 n)/\q2=q+1) ((CW G hbt hbl (p:=q) (by omega) _ (by simp) (by simp) []).mono λx h ⟨n,_,e1,e2⟩=>⟨_,_,e1,e2,n,rfl,rfl⟩) (λv q ⟨k,e,_⟩=>by rw[e];simp[below]) h1 (by simp[below])
 refine bh (λhc=>?_) (λhc=>?_)
 ·simp-implicitDefEqProofs[]
  refine(Lz G (KY G hbt hbl (p:=q+1) (by omega)) (λv q ⟨⟨l,e,_⟩,_⟩=>by rw[e];simp[below]) (k:=1) rfl trivial).mono ?_
  rintro r h ⟨v,q2,rfl,rfl,⟨l2,rfl,hz2⟩,hq1,hq2⟩
  simp-implicitDefEqProofs[aa]
  refine(inn l2 q2 hz2 (by omega) _ rfl).mono ?_
  rintro r h ⟨v,q3,rfl,rfl,⟨us,rfl,hu⟩,hq3,hq4⟩
  simp-implicitDefEqProofs[aa]
  refine(num q3 (by omega) _ rfl).mono ?_
  rintro r h ⟨v,q4,rfl,rfl,n,rfl,rfl⟩
  simp-implicitDefEqProofs[aa]
  exact⟨l2,us,n,rfl,hz2,hu⟩
 ·simp-implicitDefEqProofs[]
  refine(inn l (q+1) (by omega) (by omega) _ rfl).mono ?_
  rintro r h ⟨v,q3,rfl,rfl,⟨us,rfl,hu⟩,hq3,hq4⟩
  simp-implicitDefEqProofs[aa]
  refine(num q3 (by omega) _ rfl).mono ?_
  rintro r h ⟨v,q4,rfl,rfl,n,rfl,rfl⟩
  simp-implicitDefEqProofs[aa]
  exact⟨l,us,n,rfl,by omega,hu⟩
def DrU(x:ARes):Prop:=∃(l:List Fd) (us:List Int),x= .ret (.tup [.agg [.p (fdL l)],.p (bu us)])/\aH l<=900000000/\us.length<=900000001
theorem LB:∀x,DrU x->∃v,x= .ret v/\below 0 v:=λx ⟨l,us,e,_⟩=>⟨_,e,by simp[below]⟩
theorem DD(code:List Int)(hb:Byt code):AC Tryz.prog G iq [.p (sZ code)] [] λx _=>DrU x:=by
 refine AC.go uA ?_
 simp-implicitDefEqProofs[lW]
 refine(EB G (vA G code hb) KR (by simp) _).mono ?_
 rintro r h ⟨⟨l,us,fuel,rfl,hz,hu⟩,rfl⟩
 simp-implicitDefEqProofs[aa]
 exact⟨l,us,rfl,hz,hu⟩
end
section
structure Ext5 (l l':List Fd):Prop where
 at_:∀s j,be l s=some j->be l' s=some j
 par:∀s j,be l s=some j->rt l' j=rt l j
theorem Like.ext{l l':List Fd}(h:Like l l'):Ext5 l l':=⟨λs j e=>by rw[h.at_];exact e,λ_ j _=>h.par j⟩
section
variable {fns fns':List Fd} (hL:Ext5 fns fns')
include hL
theorem Jv{k:Nat}{vs:List LV}{o:Int}{s:List UInt8}{n:Nat}(h:fg fns k vs o s n 0=0):fg fns' k vs o s n 0=0:=by
 unfold fg at h⊢
 split
 ·rename_i h2;rw[if_pos h2] at h;exact h
 ·rename_i h2
  rw[if_neg h2] at h
  split
  ·rename_i h3
   rw[if_pos h3] at h
   unfold ki at h⊢
   cases e:be fns s with
   |none=>rw[e] at h;simp[fl] at h
   |some j=>
    rw[e] at h
    rw[hL.at_ s j e]
    simp only at h⊢
    rw[hL.par s j e]
    exact h
  ·rfl
mutual
theorem Nh{k:Nat}{vs:List LV}:∀e:Ex,jy fns k vs e 0=0->jy fns' k vs e 0=0
 | .mk o n s ks,h=>by
   rw[jy] at h⊢
   have h0:=ck h
   rw[h0] at h
   rw[Jv hL h0]
   exact vo ks h
theorem vo{k:Nat}{vs:List LV}:∀l:List Ex,bc fns k vs l 0=0->bc fns' k vs l 0=0
 |[],_=>rfl
 |e::r,h=>by
  have _:=hL
  rw[bc] at h
  have h0:=ck h
  rw[h0] at h
  rw[bc,Nh e h0]
  exact vo r h
end
mutual
theorem Lb{k:Nat}:∀(s:Sm) (b:Nat) (w:WS),(stW fns k b s w).code=0->stW fns' k b s w=stW fns k b s w
 | .mk o s a bd el,b,w,hz=>by
   rw[stW,cH] at hz
   have z1:=bE hz
   rw[cH] at z1
   have z2:=bE z1
   have z3:bc fns k w.vs a w.code=0:=tq z2
   have hc0:=ck z3
   have z3':=z3
   rw[hc0] at z3'
   have e1:bc fns' k w.vs a w.code=bc fns k w.vs a w.code:=by rw[z3,hc0];exact vo hL a z3'
   rw[stW,stW]
   simp only[e1]
   rw[pN bd _ _ z1,pN el _ _ hz]
theorem pN{k:Nat}:∀(l:List Sm) (b:Nat) (w:WS),(bv fns k b l w).code=0->bv fns' k b l w=bv fns k b l w
 |[],b,w,_=>rfl
 |s::r,b,w,hz=>by
  have _:=hL
  rw[bv] at hz
  rw[bv,bv,Lb s b w (bE hz)]
  exact pN r b _ hz
end
theorem Mr{k:Nat}{f:Fd}(hz:(fnW fns k f).code=0):(fnW fns' k f).code=0:=by
 have hat:=KZ hz
 rw[fnW,if_pos hat] at hz
 rw[fnW,if_pos (hL.at_ _ _ hat),pN hL f.body 0 _ hz]
 exact hz
end
end
section
theorem DY(l:List Fd)(g:Fd)(s:List UInt8):be (l++[g]) s=match be l s with|some j=>some j|none=>if g.name=s then some l.length else none:=by
 rw[be,List.findIdx?_append,be]
 cases h:l.findIdx? λf=>decide (f.name=s) with
 |some j=>rfl
 |none=>
  by_cases e:g.name=s
  ·simp[e]
  ·simp[e]
theorem Mh{l:List Fd}{s:List UInt8}{j:Nat}(h:be l s=some j):j<l.length:=by
 rw[be,VU] at h
 exact h.1
theorem OG(l:List Fd)(g:Fd):Ext5 l (l++[g]) where
 at_:=λs j h=>by rw[DY,h]
 par:=λs j h=>by
  rw[rt,rt,Vz (Mh h)]
theorem MU{vs:List LV}{s:List UInt8}(h:s∈vs.map LV.name):∃v,lkV vs s=some v:=by
 obtain⟨v,hv,rfl⟩:=VW.1 h
 cases e:lkV vs v.name with
 |some w=>exact⟨w,rfl⟩
 |none=>
  rw[lkV,List.find?_eq_none] at e
  have:=e v hv
  simp at this
theorem MC{l:List Fd}(hc:aI l=0){K:Nat}{f:Fd}(hK:K+1=l.length)(hf:l[K]?=some f){nm:List UInt8}(hn:be l nm=none)(hp:bl (l++[bV f nm])=true):aI (l++[bV f nm])=0:=by
 have h0:=((pK l).1 hc).2
 have hL:=OG l (bV f nm)
 rw[aI,if_pos hp,mr]
 intro i g hg
 rw[WC]
 by_cases hi:i<l.length
 ·rw[Vz hi] at hg
  exact Mr hL (h0 i g hg)
 ·rw[VG (by omega)] at hg
  have hi0:i-l.length=0:=by
   have:=(Vx.1 hg).1
   simp at this;omega
  rw[hi0] at hg
  have hg:bV f nm=g:=Option.some.inj hg
  subst hg
  have hz:=h0 K f hf
  have hat:be l f.name=some K:=KZ hz
  have hat':be (l++[bV f nm]) f.name=some K:=hL.at_ _ _ hat
  have hw:be (l++[bV f nm]) (bV f nm).name=some i:=by
   rw[DY]
   have:be l (bV f nm).name=none:=hn
   rw[this]
   simp only
   rw[if_pos trivial]
   congr 1;omega
  rw[fnW,if_pos hat] at hz
  have hps:(bw f.params ⟨[],0,0⟩).code=0:=bE hz
  have hin:=(Di f.params ⟨[],0,0⟩).1
  rw[fnW,if_pos hw]
  show(bv (l++[bV f nm]) i 0 [.mk 7 [] [vU f] [] []] (bw f.params ⟨[],0,0⟩)).code=0
  generalize bw f.params ⟨[],0,0⟩=w at hps hin
  have hpar:rt (l++[bV f nm]) K=f.params.length:=by
   rw[hL.par _ _ hat,rt,hf]
  have hE:jy (l++[bV f nm]) i w.vs (vU f) 0=0:=by
   refine chkE_iff.2 ⟨?_,λa ha=>?_⟩
   ·rw[fg,if_neg (by omega),if_pos rfl,ki,hat']
    simp only
    rw[if_neg (by omega),if_pos (by rw[hpar];simp)]
   ·obtain⟨s,hs,rfl⟩:=VW.1 ha
    have hm:s∈w.vs.map LV.name:=by
     have h1:s∈w.vs.reverse.map LV.name:=by rw[hin];exact List.mem_append_right _ hs
     simpa using h1
    obtain⟨v,hv⟩:=MU hm
    rw[jy]
    simp[fg,nX,hv,bc]
  rw[bv,bv,stW]
  simp only[opW]
  have h71:¬(7:Int)=1:=by omega
  have h72:¬(7:Int)=2:=by omega
  rw[if_neg h71,if_neg h72]
  simp only[bv,WS.back]
  rw[hps,bc,hE,bc]
end
section
def Sml(ch:List Scp):Prop:=∀s n,fP ch s=some n->n<26
theorem Sml.getD{ch:List Scp}(h:Sml ch)(s:List UInt8):(fP ch s).getD 0<26:=by
 cases e:fP ch s with
 |none=>simp
 |some n=>exact h s n e
theorem Sml.set{m:Scp}{up:List Scp}(h:Sml (m::up))(s:List UInt8){n:Nat}(hn:n<26):Sml (gx m s n::up):=by
 intro t k e
 rw[fP,AZ] at e
 by_cases hst:s=t
 ·rw[if_pos hst] at e;cases e;exact hn
 ·rw[if_neg hst] at e
  exact h t k (by rw[fP];exact e)
theorem Sml.open{ch:List Scp}(h:Sml ch):Sml ([]::ch):=λs n e=>h s n (by rw[fP] at e;exact e)
theorem Sml.opS{m:Scp}{up:List Scp}(h:Sml (m::up))(o:Int)(s:List UInt8){n:Nat}(hn:o=1->n<26):Sml (opS o s m n::up):=by
 unfold Go.Proofs.YtokiapglmedipaaGreatDoor.opS
 split
 ·rename_i e;exact h.set s (hn e)
 ·exact h
variable (G:al)
end
section
variable (G:al)
theorem Sml.base:Sml [[]]:=λs n e=>by simp[fP,dN] at e
variable (hK:G eS=some ep) (hS:G cu=some [.tbl opK opV])
include hK hS
end
section
theorem pI{s:List UInt8}(h:aG s=true):s.length<=4:=by
 rw[aG] at h
 simp at h
 omega
theorem Gl{e:Ex}(h:lA e=true):e.name.length<=4:=by
 simp only[lA,VS,Bool.or_eq_true,decide_eq_true_eq,beq_iff_eq] at h
 obtain⟨⟨⟨⟨_,h1⟩,h2⟩,_⟩,_⟩:=h
 rcases h2 with h2|h2
 ·exact pI (h1▸h2)
 ·rw[h2];simp
theorem MJ:∀(d:Nat) (e:Ex),bU d e=true->e.sz<=5*e.parts:=by
 intro d
 induction d with
 |zero=>intro e h;simp[bU] at h
 |succ d ih=>
  intro e h
  rw[bU,VS] at h
  have h1:=Gl h.1
  have h2:∀l:List Ex,l.all (bU d)=true->aX l<=5*fz l:=by
   intro l
   induction l with
   |nil=>intro _;simp[aX,fz]
   |cons x r ihl=>
    intro hl
    rw[List.all_cons,VS] at hl
    have:=ih x hl.1
    have:=ihl hl.2
    rw[aX,fz];omega
  have h3:=h2 e.kids h.2
  rw[e.sz_eq,e.parts_eq];omega
theorem OQ{e:Ex}(h:kw e=true):e.sz<=150:=by
 simp only[kw,VS,decide_eq_true_eq] at h
 have:=MJ 6 e h.1
 omega
theorem LD{s:Sm}(h:gP s=true):1+s.name.length+aX s.args<=305:=by
 simp only[gP,VS,Bool.or_eq_true,decide_eq_true_eq,beq_iff_eq] at h
 obtain⟨⟨⟨⟨⟨⟨⟨_,h0⟩,h1⟩,h2⟩,h3⟩,_⟩,_⟩,_⟩:=h
 have hn:s.name.length<=4:=by
  rcases h2 with h2|h2
  ·exact pI (h1▸h2)
  ·rw[h2];simp
 have ha:∀l:List Ex,l.all kw=true->aX l<=150*l.length:=by
  intro l
  induction l with
  |nil=>intro _;simp[aX]
  |cons x r ihl=>
   intro hl
   rw[List.all_cons,VS] at hl
   have:=OQ hl.1
   have:=ihl hl.2
   rw[aX,VV];omega
 have h4:=ha s.args h3
 have h5:s.args.length<=2:=by rw[h0,gz];split<;>omega
 omega
theorem MR:∀(d:Nat) (l:List Sm),l.all (az d)=true->aC l<=305*dr l:=by
 intro d
 induction d with
 |zero=>
  intro l h
  cases l with
  |nil=>simp[aC]
  |cons s r=>simp[az] at h
 |succ d ih=>
  intro l
  induction l with
  |nil=>intro _;simp[aC]
  |cons s r ihl=>
   intro h
   rw[List.all_cons,VS] at h
   have h2:=ihl h.2
   have h1:=h.1
   simp only[az,VS] at h1
   obtain⟨⟨h3,h4⟩,h5⟩:=h1
   have:=LD h3
   have:=ih s.body h4
   have:=ih s.els h5
   rw[aC,dr,s.sz_eq,s.cnt_eq];omega
theorem ON{f:Fd}(h:iL f=true):f.sz<=20+305*dr f.body:=by
 simp only[iL,VS,decide_eq_true_eq] at h
 obtain⟨⟨⟨h1,h2⟩,h3⟩,h4⟩:=h
 have:=pI h2
 have:=MR 4 f.body h4
 have hp:∀l:List (List UInt8),l.all aG=true->(l.map List.length).sum<=4*l.length:=by
  intro l
  induction l with
  |nil=>intro _;simp
  |cons x r ihl=>
   intro hl
   rw[List.all_cons,VS] at hl
   have:=pI hl.1
   have:=ihl hl.2
   rw[VY,List.sum_cons,VV];omega
 have:=hp f.params h1
 have e:f.sz=1+f.name.length+(f.params.length+(f.params.map List.length).sum)+aC f.body:=rfl
 omega
theorem Ir{l:List Fd}(h:bl l=true):aH l<=12280:=by
 obtain⟨h1,h2,h3⟩:=(iY l).1 h
 have key:∀l:List Fd,(∀f∈l,iL f=true)->aH l<=20*l.length+305*kx l:=by
  intro l
  induction l with
  |nil=>intro _;simp[aH]
  |cons f r ih=>
   intro hl
   have a:=ON (hl f (by simp))
   have b:=ih λg hg=>hl g (by simp[hg])
   have e1:aH (f::r)=f.sz+aH r:=by simp[aH]
   have e2:kx (f::r)=dr f.body+kx r:=by simp[kx]
   rw[e1,e2,VV];omega
 have:=key l h2
 omega
variable (G:al) (hK:G eS=some ep) (hS:G cu=some [.tbl opK opV])
include hK hS
end
section
theorem vl:AK.whole iJ=FK.ak iX:=rfl
def Mq(s:List UInt8):Ex:= .mk 2 0 s []
def kR(ps:List (List UInt8)):List (List AV):=ps.map λs=>[.p (.int .i64 2),.p (.int .i64 0),.p (.str s),.nils]
theorem Pl(ps:List (List UInt8)):∀x∈kR ps,af 0 x:=by
 intro x hx;obtain⟨m,_,rfl⟩:=VW.1 hx;simp[af,below]
theorem Rk(ps:List (List UInt8)):(kR ps).length=ps.length:=by simp[kR]
theorem OJ(ps:List (List UInt8))(s:List UInt8):kR (ps++[s])=kR ps++[[.p (.int .i64 2),.p (.int .i64 0),.p (.str s),.nils]]:=by simp[kR]
theorem Oh{h:List AO}{id:Nat}{ps:List (List UInt8)}(he:h[id]?=some (bR 4 (kR ps))):View h (slE id 4 (kR ps)) (exL (ps.map Mq)):=by
 by_cases h0:ps=[]
 ·subst h0
  exact View.nils 4
 have hk:kR ps≠[]:=by simp[kR,h0]
 rw[ew hk] at he
 rw[dh hk]
 refine uK (es:=(ps.map Mq).map Ex.cs) he (by simp[kR]) (λe he=>by obtain⟨x,_,rfl⟩:=VW.1 he;exact x.cs_len) (λi j e q e' a a1 a2 a3 a4=>?_) (by simp[kR])
 rw[List.map_map,VN] at a1
 rw[kR,VN] at a3
 obtain⟨s,g1,g2⟩:=VB.1 a1
 subst g2
 rw[g1] at a3
 cases a3
 exact fW (o:=2) (n:=0) (w:=s) (k:=[]) (.nils 4) j q a a2 a4
theorem Mg(f:Fd)(nm:List UInt8):(bV f nm).sz<=nm.length+2*f.sz+10:=by
 have h:∀ps:List (List UInt8),aX (ps.map λs=>Ex.mk 2 0 s [])=ps.length+(ps.map List.length).sum:=by
  intro ps
  induction ps with
  |nil=>rfl
  |cons a r ih=>
   rw[VY,aX,ih]
   simp[Ex.sz,aX];omega
 simp[Fd.sz,bV,vU,aC,Sm.sz,aX,Ex.sz,h]
 omega
variable (G:al)
variable (hK:G eS=some ep) (hS:G cu=some [.tbl opK opV])
include hK hS
theorem Bo(code:List Int)(hb:Byt code)(hl:code.length<=9223372036854775807):VF Tryz.prog G na [.p (sZ code)] (.p (.bool true)):=by
 refine AC.goK uP vl ?_
 have hbl:sZ code= .lst 1 (code.map λn=>[.int .u8 n]):=rfl
 simp-implicitDefEqProofs[iJ,iX,hbl]
 rw[←hbl]
 by_cases hc:(1048576:Int)<code.length
 ·simp-implicitDefEqProofs[hc]
 simp-implicitDefEqProofs[hc]
 refine(EB G (DD G code hb) LB (by simp) _).mono ?_
 rintro r h ⟨⟨l,us,rfl,hz,hu⟩,rfl⟩
 simp-implicitDefEqProofs[aa]
 cases ho:eJ l us with
 |false=>
  have hi:=Jt G hK hS (l:=l) (us:=us) (by omega) (by omega) ho
  have hs:=IF G (l:=l) (us:=us) (by omega) (by omega) ho
  refine hi.use ?_
  simp-implicitDefEqProofs[]
  refine hs.use ?_
  simp-implicitDefEqProofs[]
  refine hs.use ?_
  simp-implicitDefEqProofs[]
 |true=>
  obtain⟨s',r,R⟩:=Uz G hK hS (l:=l) (us:=us) (fuel:=4000) (by omega) (by omega) ho (VM _)
  obtain⟨hi,hs⟩:=Pv G hK hS (by omega) (by omega) ho R
  by_cases h3:bt r=3
  ·rw[if_pos h3] at hi hs
   refine hi.use ?_
   simp-implicitDefEqProofs[]
   refine hs.use ?_
   simp-implicitDefEqProofs[]
   refine hs.use ?_
   simp-implicitDefEqProofs[]
  rw[if_neg h3] at hi hs
  have hle:=R.left
  have hn3:r≠ .st 3:=λe=>h3 (endI_three.2 e)
  have hR2:=yY G hK hS (by omega) (by omega) ho (show 4000-s'.left<=4000 by omega) (sH R.ev (F:=4000-s'.left) (by omega) hn3 (by omega))
  have hnn:¬(((4000-s'.left:Nat):Int)<0):=by omega
  have hfl:fdL l= .lst 3 (l.map Fd.cs):=rfl
  have hll:=fO l
  have hat:=DB G l [119] (by omega)
  obtain⟨N,hN⟩:∃N,N=4000-s'.left:=⟨_,rfl⟩
  rw[←hN] at hi hs hR2 hnn
  refine hi.use ?_
  simp-implicitDefEqProofs[]
  refine hs.use ?_
  by_cases hl4:l.length=4
  ·have hl4':(l.length:Int)=4:=by omega
   simp-implicitDefEqProofs[hnn,hfl,hl4,hl4']
   refine hs.use ?_
   simp-implicitDefEqProofs[]
  have hl4':¬(l.length:Int)=4:=by omega
  simp-implicitDefEqProofs[hnn,hfl,hl4,hl4']
  refine hat.use ?_
  cases hfa:be l [119] with
  |some j=>
   simp-implicitDefEqProofs[ixI]
   refine hs.use ?_
   simp-implicitDefEqProofs[]
  |none=>
   obtain⟨hchk,h0,⟨f,hf1,hf2⟩,hv⟩:=pO ho
   obtain⟨K,hK1⟩:∃K,l.length=K+1:=⟨l.length-1,by omega⟩
   have hKe:l.length-1=K:=by omega
   rw[hKe] at hf1
   have hcs:f.cs=[.str f.name,am f.params,smL f.body]:=rfl
   have hwK:IntKind.i64.wrap ((l.length:Int)-1)=(K:Int):=by rw[ab (by omega) (by omega)];omega
   have hpL:am f.params= .lst 1 (f.params.map λw=>[.str w]):=rfl
   have hm:=cN (VD hf1)
   have hfz:f.sz=1+f.name.length+(f.params.length+(f.params.map List.length).sum)+aC f.body:=rfl
   simp-implicitDefEqProofs[ixI,hfl,hwK,hf1,hcs]
   refine lI (ah 132 [(3,.ptr 0 1 0 0),(4,.p (bu us)),(5,.p (.int .i64 N)),(6,.ptr 1 3 0 0),(7,.ptr 2 4 0 0)]) [.row 1 [[.p (.lst 3 (l.map Fd.cs))]],.row 3 [[.p (.str f.name),.p (am f.params),.p (smL f.body)]],.row 4 [[.p (.int .i64 13),.p (.int .i64 0),.p (.str f.name),.p (exL (f.params.map Mq))]]] ?_ ?_
   ·simp-implicitDefEqProofs[hpL]
    refine aN (λi:Nat=>ah 132 [(3,.ptr 0 1 0 0),(4,.p (bu us)),(5,.p (.int .i64 N)),(6,.ptr 1 3 0 0),(7,.ptr 2 4 0 0),(64,.p (am f.params)),(65,.p (.int .i64 f.params.length)),(66,.p (.int .i64 i))]) (λi=>[.row 1 [[.p (.lst 3 (l.map Fd.cs))]],.row 3 [[.p (.str f.name),.p (am f.params),.p (smL f.body)]],.row 4 [[.p (.int .i64 13),.p (.int .i64 0),.p (.str f.name),slE 3 4 (kR (f.params.take i))]],bR 4 (kR (f.params.take i))]) (λi=>i<=f.params.length) (λi=>f.params.length-i) 0 (by simp) ?_ ?_
    ·exact oo (by simp) (by simp) (by simp[okO,below]) (by simp[below,hpL])
    intro i hi
    simp-implicitDefEqProofs[hpL]
    refine bh (λh1=>?_) (λh1=>?_)
    ·simp at h1
     have hg:f.params[i]?=some f.params[i]:=VA h1
     have hkl:=Rk (f.params.take i)
     rw[Wb] at hkl
     have hsn:=an h1
     generalize f.params[i]=s at hg hsn
     simp-implicitDefEqProofs[hg]
     refine⟨by omega,i+1,by omega,by omega,?_⟩
     rw[hsn,OJ,CJ _ (by simp),zE _ (by simp)]
     refine th [0,1,2,5] rfl (by simp) (bJ rfl (by simp[okO,below]) (bJ rfl (by simp[okO,below]) (bW (by simp[below]) (by simp[ren,bg]) (bf rfl (λx hx=>by
      rcases VJ.1 hx with h|h
      ·exact Pl _ x h
      ·rw[VK.1 h];simp[below]) bL)))) ?_
     simp[below,ren,hpL,w1 (i:=i) (by omega)]
    ·simp at h1
     have hie:i=f.params.length:=by omega
     subst hie
     simp-implicitDefEqProofs[]
     refine jj 3 (by omega) (by simp) rfl (.same (by simp[okO,below]) (.same (by simp[okO,below]) (.one (.keep (by simp[below]) (.keep (by simp[below]) (.keep (by simp[below]) (.one (Oh rfl) .nil)))) (.nil _)))) ?_
     exact⟨.keep (by simp[below]) .nil,.keep (by simp[below]) .nil,.keep (by simp[below]) .nil,.keep (by simp[below]) .nil,.keep (by simp[below]) .nil,trivial⟩
   have hwc:(vU f).cs=[.int .i64 13,.int .i64 0,.str f.name,exL (f.params.map Mq)]:=Ex.cs_eq _
   refine lI (ah 132 [(3,.ptr 0 1 0 0),(4,.p (bu us)),(5,.p (.int .i64 N)),(10,.ptr 1 3 0 0)]) [.row 1 [[.p (.lst 3 (l.map Fd.cs))]],.row 3 [[.p (.str [119]),.p (am f.params),.p (smL (bV f [119]).body)]]] ?_ ?_
   ·simp-implicitDefEqProofs[]
    refine Wk.trans (th [0,5,4,3] (l1:=[(3,.ptr 0 1 0 0),(4,.p (bu us)),(5,.p (.int .i64 N)),(10,.ptr 1 3 0 0)])
     (h1:=[.row 1 [[.p (.lst 3 (l.map Fd.cs))]],.row 3 [[.p (.str [119]),.p (am f.params),.sl 2 5 0 1]],.row 5 [[.p (.int .i64 7),.p (.str []),.sl 3 4 0 1,.nils,.nils]],.row 4 [[.p (.int .i64 13),.p (.int .i64 0),.p (.str f.name),.p (exL (f.params.map Mq))]]])
     rfl (by simp) (bJ rfl (by simp[okO,below]) (bW (by simp[below]) (by simp[ren,bg]) (bW (by simp[below]) (by simp[ren,bg]) (bJ rfl (by simp[okO,below]) bL)))) (by simp[below,ren]))
     (jj 2 (by omega) (by simp) rfl (.same (by simp[okO,below]) (.one (.keep (by simp[below]) (.keep (by simp[below]) (.one ?_ .nil))) (.nil _))) ?_)
    ·exact bm (h:=_) rfl (Sm.cs_len _) (bT (bm (h:=_) rfl (Ex.cs_len (vU f)) (λj q a e1 e2=>ny (e:=(vU f).cs) e1 (by rw[hwc];exact e2))) (.nils 5) (.nils 5))
    ·exact⟨.keep (by simp[below]) .nil,.keep (by simp[below]) .nil,.keep (by simp[below]) .nil,.keep (by simp[below]) .nil,trivial⟩
   have hxz:aH (l++[bV f [119]])<=1000000:=by
    have hsm:=Ir ((pK l).1 hchk).1
    have:=Mg f [119]
    have e1:aH [bV f [119]]=(bV f [119]).sz:=by simp[aH]
    rw[lC,e1]
    simp only[List.length_singleton] at this
    omega
   refine lI (ah 132 [(3,.ptr 0 1 0 0),(4,.p (bu us)),(5,.p (.int .i64 N)),(11,.ptr 1 1 0 0)]) [.row 1 [[.p (fdL l)]],.row 1 [[.p (fdL (l++[bV f [119]]))]]] ?_ ?_
   ·simp-implicitDefEqProofs[]
    refine⟨⟨by omega,by omega⟩,⟨by omega,by omega⟩,?_⟩
    refine Wk.trans (th [0,5,4] (l1:=[(3,.ptr 0 1 0 0),(4,.p (bu us)),(5,.p (.int .i64 N)),(11,.ptr 1 1 0 0)])
     (h1:=[.row 1 [[.p (.lst 3 (l.map Fd.cs))]],.row 1 [[.sl 2 3 0 (l.length+1)]],.row 3 (aQ (l++[bV f [119]]))])
     rfl (by simp) (bJ rfl (by simp[okO,below]) (bW (by simp[below]) (by simp[ren,bg]) (bf ?_ (pG _) bL))) (by simp[below,ren]))
     (jj 2 (by omega) (by simp) rfl (.same (by simp[okO,below]) (.one (.one ?_ .nil) (.nil _))) ?_)
    ·have e1:aQ (l++[bV f [119]])=List.take l.length (l.map ((λx=>List.map AV.p x)∘Fd.cs))++[[.p (.str [119]),.p (am f.params),.p (smL (bV f [119]).body)]]:=by
      rw[VE (by simp)]
      simp only[aQ,List.map_append,VY,List.map_nil]
      rfl
     rw[e1];rfl
    ·have:=pB (h:=tail 2 [.row 1 [[.p (.lst 3 (l.map Fd.cs))]],.row 1 [[.sl 2 3 0 (l.length+1)]],.row 3 (aQ (l++[bV f [119]]))]) (id:=2) (l:=l++[bV f [119]]) rfl
     rwa[VO,List.length_singleton] at this
    ·exact⟨.keep (by simp[below]) .nil,.keep (by simp[below]) .nil,.keep (by simp[below]) .nil,.keep (by simp[below]) .nil,trivial⟩
   have hpv:=ou G hK hS (l++[bV f [119]]) (by omega)
   generalize hxe:l++[bV f [119]]=x at*
   simp-implicitDefEqProofs[]
   refine hpv.use ?_
   cases hp:bl x with
   |false=>simp-implicitDefEqProofs[]
   |true=>
    by_cases h4:N=4000
    ·have h4':(N:Int)=4000:=by omega
     simp-implicitDefEqProofs[h4,h4']
    have h4':¬(N:Int)=4000:=by omega
    have hchx:aI x=0:=by rw[←hxe];exact MC hchk hK1.symm hf1 hfa (by rw[hxe];exact hp)
    have hxl:x.length=K+2:=by rw[←hxe];simp;omega
    have hfx:x[K+1]?=some (bV f [119]):=by rw[←hxe,VG (by omega),hK1,Nat.sub_self];rfl
    have hox:eJ x us=true:=Lv (f:=bV f [119]) hchx (by rw[hxl];exact hfx) hf2 hv
    have hE1:=sH R.ev (F:=N) (by omega) hn3 (by omega)
    have hE3:=sH R.ev (F:=3999) (by omega) hn3 (by omega)
    rw[hKe] at hE1 hE3
    have hW1:=DZ (nm:=[119]) hchk hK1.symm hf1 hE1
    have hW3:=DZ (nm:=[119]) hchk hK1.symm hf1 hE3
    have hxK:x.length-1=K+1:=by omega
    rw[hxe,←hxK] at hW1 hW3
    have R1:=yY G hK hS (l:=x) (by omega) (by omega) hox (show N+1<=4000 by omega) hW1
    have R3:=yY G hK hS (l:=x) (by omega) (by omega) hox (show 3999+1<=4000 by omega) hW3
    obtain⟨hfx2,_⟩:=Pv G hK hS (by omega) (by omega) hox R3
    rw[if_neg h3] at hfx2
    have hL3:(4000-(s'.dn (4000-3999)).left:Nat)=N+1:=by
     show 4000-(s'.left-(4000-3999))=N+1
     omega
    rw[hL3] at hfx2
    have hi1:=hR2.impl
    have hi2:=R1.impl
    have hsl:=R.said
    have hcl:=R.cells
    have hd2:rd (s'.dn (4000-N)) r=rd s' r:=rfl
    rw[hd2] at hi1 hi2
    have hwN:IntKind.i64.wrap ((N:Int)+1)=((N+1:Nat):Int):=by rw[ab (by omega) (by omega)];omega
    have him:=Ns G s'.said s'.cells (bt r) (FS r) (by omega) (by omega)
    simp-implicitDefEqProofs[h4']
    refine hi1.use ?_
    simp-implicitDefEqProofs[rd,hwN]
    refine hi2.use ?_
    simp-implicitDefEqProofs[rd]
    refine him.use ?_
    simp-implicitDefEqProofs[]
    refine hfx2.use ?_
    simp-implicitDefEqProofs[hwN]
end
end Go.Proofs.YtokiapglmedipaaGreatDoor
namespace Go.Proofs.YtokiapglmedipaaGreatDoor
open Go Go.Aw Go.ChangeShapes Go.WideShapes Go.ChangeAt Go.RowKit
set_option maxRecDepth 100000
abbrev Rl:TypeId:=24
abbrev SI:TypeId:=22
abbrev UK:TypeId:=122
abbrev Re:TypeId:=55
abbrev To:TypeId:=9
abbrev OX:TypeId:=120
abbrev Qb:TypeId:=206
abbrev Pf:TypeId:=204
abbrev QZ:TypeId:=245
abbrev PC:TypeId:=3
abbrev Qr:TypeId:=4
abbrev FQ:TypeId:=160
abbrev Lt:TypeId:=240
abbrev Nl:TypeId:=241
abbrev He:TypeId:=45
abbrev Dc:TypeId:=5
theorem ST:Kids Tryz.prog (· <Tryz.prog.types.size):=kids_rows (by kernel_rfl) (by kernel_rfl)
theorem Tj:∀t e,t<Tryz.prog.types.size->Tryz.prog.underlying t=some (.slice e)->0<Tryz.prog.cellsOf e:=slices_full_of Tryz.prog (by kernel_rfl)
def LE:List TypeId:=[Rl,SI,UK,Re,To,OX,Qb,Pf,QZ,PC,Qr,FQ,Lt]
theorem Ku:Plain Tryz.prog LE=true:=by kernel_rfl
theorem UW:ownKnob Tryz.prog.godebug=none:=by kernel_rfl
theorem An{H:Type}:∀l:List (DataW H),Rows.uptoBulkAll l=(l.map Rows.uptoBulk).sum
 |[]=>by simp[Rows.uptoBulkAll]
 |d::r=>by simp[Rows.uptoBulkAll,An r]
theorem OM{H:Type}:BulkOk (Rows.uptoBulk (H:=H)) where
 lit:=λl=>by cases l<;>simp[Rows.uptoBulk]
 str:=λs=>by simp[Rows.uptoBulk]
 nil:=by simp[Rows.uptoBulk]
 slice:=λes sp=>by simp only[Rows.uptoBulk,An];omega
 agg:=λps=>by simp only[Rows.uptoBulk,An];omega
theorem MD{t e:TypeId}{vs:List PV}(h:Conf Tryz.prog t vs)(hu:Tryz.prog.underlying t=some (.slice e)):∃es,vs=[.lst (Tryz.prog.cellsOf e) es]/\es.length<=9223372036854775807/\∀x∈es,Conf Tryz.prog e x:=by
 cases h with
 |sl es e' hl hs=>rw[hu] at e';cases e';exact⟨es,rfl,hl,hs⟩
 |bool b e=>rw[e] at hu;cases hu
 |int n e=>rw[e] at hu;cases hu
 |str s e=>rw[e] at hu;cases hu
 |st vs e=>rw[e] at hu;cases hu
 |arr vs e=>rw[e] at hu;cases hu
def G0:al:=λg=>if g=eS then some ep else if g=cu then some [.tbl opK opV] else none
theorem Rh:∀k,iN Tryz.prog (k+10) FQ (Rows.laid_loop_example_wholeway_impl_keys (H:=Unit))=ep:=λk=>by kernel_rfl
theorem UT{W:World}{laid:List (String × DataW Unit)}(hL:laidMet Tryz.prog laid W)(h1:("loop.example/wholeway/impl.keys",Rows.laid_loop_example_wholeway_impl_keys)∈laid)(h2:("loop.example/wholeway/impl.opSign",Rows.laid_loop_example_wholeway_impl_opSign)∈laid):
 ∀g cs,G0 g=some cs->g<W.heap.size/\∀(j:Nat) (c:PV),cs[j]?=some c->∃v,W.cell? ⟨g,j,none⟩=some v/\PRel W (· <W.heap.size) c v:=by
 intro g cs h
 unfold G0 at h
 split at h
 ·rename_i e;subst e;cases h
  exact IT Ku hL (n:= "loop.example/wholeway/impl.keys") (d:=Rows.laid_loop_example_wholeway_impl_keys) (t:=FQ) h1 (by kernel_rfl) (by kernel_rfl) (by decide) Rh
 ·split at h
  ·rename_i e;subst e;cases h
   exact LO Ku hL (n:= "loop.example/wholeway/impl.opSign") h2 (t:=Nl) (k:=PC) (e:=Lt) (by kernel_rfl) (by kernel_rfl) (by kernel_rfl) (.inl ⟨.i64,by kernel_rfl⟩) (by decide) (by kernel_rfl) (by kernel_rfl) (λm=>by kernel_rfl)
  ·cases h
def Hl:List TypeId:=He::Dc::LE
theorem Qw:Plain Tryz.prog Hl=true:=by kernel_rfl
theorem GV{vs:List PV}(h:Conf Tryz.prog He vs):∃l:List Int,vs=[sZ l]/\l.length<=9223372036854775807/\Byt l:=by
 obtain⟨es,rfl,hl,h4⟩:=MD h (e:=Dc) (by kernel_rfl)
 have hk:∀x∈es,∃n:Int,x=[PV.int .u8 n]/\(Lit.int .u8 n).wf=true:=λx hx=>LZ (h4 x hx) (by kernel_rfl)
 obtain⟨l,rfl⟩:=HL (λn:Int=>[PV.int .u8 n]) (λx hx=>by obtain⟨n,e,_⟩:=hk x hx;exact⟨n,e⟩)
 rw[show Tryz.prog.cellsOf Dc=1 by kernel_rfl]
 refine⟨l,rfl,by rwa[Wl] at hl,λn hn=>?_⟩
 obtain⟨m,e,hw⟩:=hk [PV.int .u8 n] (VW.2 ⟨n,hn,rfl⟩)
 cases e
 simp[Lit.wf,IntKind.min,IntKind.max,IntKind.bits,IntKind.signed] at hw
 omega
end Go.Proofs.YtokiapglmedipaaGreatDoor
