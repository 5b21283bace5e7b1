/-
  Contracts and lemmas that the card needs, part 9.
-/
import Derived.Test.YtokiapglmedipaaGreatDoorSf8
namespace Go.Proofs.YtokiapglmedipaaGreatDoor
open Go Go.Aw
set_option maxRecDepth 100000
set_option maxHeartbeats 4000000
section
variable (G:al)
theorem Se{l:List Fd}(hc:aJ l=0)(hz:aH l<=1073741824)(M fuel:Nat):∀k,PcC G l M k fuel:=by
 intro k
 induction k using Nat.strongRecOn with
 |_ k ih=>
  have hX:∀e,WfE l k e->PxC G l M k fuel e:=λe W=>Pz G (λe hop W ihk=>NM G hc hz ih e hop W ihk) e.sz e (Vi _) W
  have key:∀(N:Nat) (xs:List Sm),aC xs<N->(∀x∈xs,∃d,az d x=true)->aC xs<=1073741824->(∃d,CoS l k d xs)->PbC G l M k fuel xs:=by
   intro N
   induction N with
   |zero=>intro xs h;omega
   |succ N ihN=>
    rintro xs hN hf hzx ⟨d,hco⟩
    refine Ou G (by have:=cb xs;omega) λx hx=>?_
    have W:=KL hf hzx hco hx
    have hxz:=dQ hx
    have hse:=x.sz_eq
    have hB:=ihN x.body (by omega) W.body.1 W.body.2.1 W.body.2.2
    by_cases h6:x.op=6
    ·exact Qc G W hX hB h6
    ·exact PQ G W hX hB (ihN x.els (by omega) W.els.1 W.els.2.1 W.els.2.2) h6
  refine PA G hc hz λf hf=>?_
  have hfz:=cK (UZ hf)
  have hfs:f.sz=1+f.name.length+(f.params.length+(f.params.map List.length).sum)+aC f.body:=rfl
  exact key (aC f.body+1) f.body (Nat.lt_succ_self _) (λy hy=>⟨4,(iO hc).2 f (UZ hf) y hy⟩) (by omega) ⟨1,zP hc hf⟩
def oU(l:List Fd)(us:List Int)(fuel:Nat):List AO:=[.row 1 [[.p (fdL l)]],.row 1 [[.p (aK us)]],.row 4 [[.nils,.p (.int .i64 0),.p (.int .i64 0),.nils]],jo l fuel .nils (s0 fuel),.row 1 [[.ptr 3 20 0 0]],.row 4 [[.nils,.p (.int .i64 0),.p (.int .i64 0),.nils]]]
theorem Qj{l:List Fd}{us:List Int}{fuel:Nat}{s':S5}{r:O5 Int}(hc:aJ l=0)(hz:aH l<=1073741824)(hl:0<l.length)(hu:∀n∈us,V5 n)(hfu:fuel<=4000)(hE:Ev l (.cal (l.length-1) us (s0 fuel) s' r)):
 AC Tryz.prog G dz [.ptr 4 1 0 0,.ptr 0 1 0 0,.ptr 1 1 0 0,.ptr 5 4 0 0] (oU l us fuel++[.row 1 [[.p (.int .i64 0)]]]) λx h'=>∃sv sid h2,MI 3 l fuel sv sid s' h2/\Fr [3] (oU l us fuel++[.row 1 [[.p (.int .i64 0)]]]) h2/\(sid=3\/7<=sid)/\
  (match r with| .ok n=>x= .ret (.tup [])/\h'=h2.set 5 (.row 4 [[.nils,.p (.int .i64 0),.p (.int .i64 n),.nils]])| .st c=>x= .pan bI (.int .i64 c)/\h'=h2):=by
 have hfl:fdL l= .lst 3 (l.map Fd.cs):=rfl
 have hll:l.length<=aH l:=gr l
 have hn1:IntKind.i64.wrap ((l.length:Int)-1)=((l.length-1:Nat):Int):=by rw[ab (by omega) (by omega)];omega
 have hM:MI 3 l fuel .nils 3 (s0 fuel) (oU l us fuel++[.row 1 [[.p (.int .i64 0)]]]):=⟨rfl,.nn _ (by simp[oU]),Vi _,hfu,by simp[s0]⟩
 refine AC.go ro ?_
 simp-implicitDefEqProofs[jZ,oU,hfl,hn1]
 rw[←hfl]
 refine(Se G hc hz 3 fuel (l.length-1) us (s0 fuel) s' r hE hu (nM fuel) (by simp[M5,s0];omega) _ 3 .nils _ hM (.pp us)).mono ?_
 rintro z h2 ⟨rfl,sv,sid,P⟩
 have h5:h2[5]?=some (.row 4 [[.nils,.p (.int .i64 0),.p (.int .i64 0),.nils]]):=(P.fr.2 5 (by simp[oU]) (by simp)).trans rfl
 have hsid:sid=3\/7<=sid:=by have:=P.fs;simp[oU] at this;exact this
 have hF:Fr [3] (oU l us fuel++[.row 1 [[.p (.int .i64 0)]]]) h2:=P.fr.sub λi hi=>by simp at hi;exact .inl (by simp[hi])
 cases r with
 |ok n=>
  simp-implicitDefEqProofs[aa,dq,h5]
  exact⟨sv,sid,h2,P.run,hF,hsid,rfl⟩
 |st c=>
  simp-implicitDefEqProofs[dq]
  exact⟨sv,sid,h2,P.run,hF,hsid,rfl⟩
end
section
variable (G:al)
end
section
variable (G:al)
mutual
def Sm.mq:Sm->Nat
 | .mk _ _ a b e=>2+3*ga a+NY b+NY e
def NY:List Sm->Nat
 |[]=>0
 |s::r=>s.mq+NY r
end
def Fd.mq(f:Fd):Nat:=1+f.params.length+NY f.body
end
section
abbrev Nh:Nat:=0
def NX:List PV:=[.int .i64 0,.int .i64 0,.int .i64 0,.int .i64 1,.int .i64 2,.int .i64 3,.int .i64 255,.int .i64 16,.int .i64 7]
variable (G:al)
theorem LQ(L:List (List PV))(hl:∀x∈L,x.length=1)(hne:L≠[])(hb:L.length<=1048576):AC Tryz.prog G dK [.p (.lst 1 L)] [] λx h=>x= .ret (.sl 1 1 0 L.length)/\h=[.dead,.row 1 (L.map (·.map .p))]:=by
 obtain⟨x,r,rfl⟩:=List.exists_cons_of_ne_nil hne
 refine AC.go sf ?_
 simp-implicitDefEqProofs[kK]
 simp at hb
 omega
end
section
variable (G:al)
def trO(x:List Int)(n:Nat):AO:=gx (x.take n)
theorem Px(x:List Int)(n m:Nat):cy m (trO x n)=trO x n:=by
 simp only[trO,cy,gx,List.map_map];rfl
theorem KP(x:List Int)(n:Nat)(hn:0<n)(hnx:n<=x.length)(hb:x.length<=1000)(h:List AO):AC Tryz.prog G dK [.p (.lst 1 (List.take n (x.map λv=>[.int .i64 v])))] h λy h'=>y= .ret (.sl (h.length+1) 1 0 n)/\h'=h++[.dead,trO x n]:=by
 have hl:(List.take n (x.map λv=>[PV.int .i64 v])).length=n:=by rw[Vs,VE];omega
 have:=LQ G (List.take n (x.map λv=>[.int .i64 v])) (λy hy=>by obtain⟨_,_,rfl⟩:=Vq.1 (VK hy);rfl) (by intro e;rw[e] at hl;simp at hl;omega) (by rw[hl];omega)
 rw[hl] at this
 have e:AO.row 1 ((List.take n (x.map λv=>[PV.int .i64 v])).map (·.map .p))=trO x n:=by
  rw[trO,gx,←List.map_take,List.map_map];rfl
 rw[e] at this
 refine(AC.lift this (by simp) rfl ?_).mono ?_
 ·simp[Hj,trO,gx,vH,zI]
  intro y hy
  obtain⟨_,_,rfl⟩:=Vq.1 (VK hy)
  rfl
 ·rintro y h' ⟨rfl,rfl⟩
  refine⟨?_,?_⟩
  ·rfl
  ·simp only[Vt,List.map_nil,Px];rfl
variable (hT:G Nh=some NX)
include hT
omit hT
include hT
end
section
variable (G:al)
def pX(l:List Fd)(fuel:Nat)(s:S5):List PV:=[fdL l,.int .i64 fuel,.int .i64 ((fuel-s.left:Nat):Int),aK s.said]++s.cells.map λn=> .int .i64 n
theorem Ak{hF:List AO}{m:Nat}{L:List (Nat × AV)}:∀{l1:List (Nat × AV)},(∀x∈l1,Aw.look L x.1=x.2/\below m x.2)->FzA hF m L l1
 |[],_=>trivial
 |x::r,h=>⟨by obtain⟨q1,q2⟩:=h x (by simp);rw[q1];exact .keep q2 .nil,Ak λy hy=>h y (by simp[hy])⟩
theorem QJ{l:List Fd}{fuel:Nat}{sv:AV}{sid:Nat}{s:S5}{h:List AO}{r2 r5:AO}{n:Nat}(H:MI 3 l fuel sv sid s h)(h2:h[2]?=some r2)(h4:h[4]?=some (.row 1 [[.ptr 3 20 0 0]]))(h5:h[5]?=some r5)(k2:okO h.length r2)(k5:okO h.length r5)(hs:sid=3\/7<=sid)
 {l1:List (Nat × AV)}(hl:∀x∈l1,below h.length x.2)(hl1:∀x∈l1,Aw.look l1 x.1=x.2):
 ∃h',(∀L,(∀x∈l1,Aw.look L x.1=x.2)->Wk 0 (ah n L) h (ah n l1) h')/\h'.length=h.length/\h'[2]?=some r2/\h'[4]?=some (.row 1 [[.eptr (pX l fuel s) 0]])/\h'[5]?=some r5:=by
 have hl3:=H.lt
 have hl5:=(US.1 h5).1
 have hm:=H.men
 obtain⟨X,hX⟩:∃X:Nat->AO->AO,X=λi o=>if i=sid/\sid≠3 then o else .dead:=⟨_,rfl⟩
 obtain⟨Y,hY⟩:∃Y:Nat->AO->AO,Y=λi o=>if i=3 then .row 20 [(pX l fuel s).map .p] else if i=2\/i=4\/i=5 then o else .dead:=⟨_,rfl⟩
 have hF1:View (h.mapIdx X) sv (aK s.said):=by
  have hsd:=H.said
  have hne:=H.neS
  generalize s.said=xs at hsd
  cases hsd with
  |nn _ _=>exact .nils _
  |ss _ _ q=>
   have hn3:sid≠3:=λe=>hne (by simp) e.symm
   exact iM (by rw[List.getElem?_mapIdx,q,hX];simp[hn3,bq,gx])
 have hcs:∀xs:List Int,Fzs (h.mapIdx X) h.length (xs.map λn=> .p (.int .i64 n)) (xs.map λn=> .p (.int .i64 n)):=λxs=>by
  induction xs with
  |nil=>exact .nil
  |cons x r ih=>exact .keep (by simp[below]) ih
 have eX:∀i o,X i o=if i=sid/\sid≠3 then o else .dead:=λ_ _=>by rw[hX]
 have eY:∀i o,Y i o=if i=3 then .row 20 [(pX l fuel s).map .p] else if i=2\/i=4\/i=5 then o else .dead:=λ_ _=>by rw[hY]
 have t1:Thn (h.mapIdx X) h.length h (h.mapIdx X) (h.mapIdx Y):=Co h X Y λi o hi=>by
  by_cases i3:i=3
  ·subst i3
   rw[hm] at hi
   cases hi
   refine .inr (.inr (.inr ⟨by rw[eX,if_neg (by omega)],20,_,(pX l fuel s).map .p,rfl,by rw[eY,if_pos rfl],?_⟩))
   simp only[pX,List.map_append,Vt,List.map_nil,List.map_map]
   exact .keep (by simp[below]) (.keep (by simp[below]) (.keep (by simp[below]) (.one hF1 (hcs s.cells))))
  by_cases i2:i=2\/i=4\/i=5
  ·refine .inl ⟨by rw[eX,if_neg (by omega)],by rw[eY,if_neg i3,if_pos i2],?_⟩
   rcases i2 with rfl|rfl|rfl
   ·rw[h2] at hi;cases hi;exact k2
   ·rw[h4] at hi;cases hi;simp[okO,below,af];omega
   ·rw[h5] at hi;cases hi;exact k5
  by_cases is:i=sid/\sid≠3
  ·exact .inr (.inr (.inl ⟨by rw[eX,if_pos is],by rw[eY,if_neg i3,if_neg i2]⟩))
  ·exact .inr (.inl ⟨by rw[eX,if_neg is],by rw[eY,if_neg i3,if_neg i2]⟩)
 have w1:∀L,(∀x∈l1,Aw.look L x.1=x.2)->Wk 0 (ah n L) h (ah n l1) (h.mapIdx Y):=λL hL=>ti (VV _) t1 (Ak λx hx=>⟨hL x hx,hl x hx⟩)
 have g:∀i o,h[i]?=some o->(h.mapIdx Y)[i]?=some (Y i o):=λi o q=>by rw[List.getElem?_mapIdx,q];rfl
 have hlen:(h.mapIdx Y).length=h.length:=List.length_mapIdx
 generalize h.mapIdx Y=h1 at w1 g hlen
 have g3:h1[3]?=some (.row 20 [(pX l fuel s).map .p]):=by rw[g 3 _ hm,eY,if_pos rfl]
 have g2:h1[2]?=some r2:=by rw[g 2 _ h2,eY,if_neg (by omega),if_pos (by omega)]
 have g4:h1[4]?=some (.row 1 [[.ptr 3 20 0 0]]):=by rw[g 4 _ h4,eY,if_neg (by omega),if_pos (by omega)]
 have g5:h1[5]?=some r5:=by rw[g 5 _ h5,eY,if_neg (by omega),if_pos (by omega)]
 obtain⟨X2,hX2⟩:∃X:Nat->AO->AO,X=λi o=>if i=3 then o else .dead:=⟨_,rfl⟩
 obtain⟨Y2,hY2⟩:∃Y:Nat->AO->AO,Y=λi o=>if i=4 then .row 1 [[.eptr (pX l fuel s) 0]] else if i=2\/i=5 then o else .dead:=⟨_,rfl⟩
 have eX2:∀i o,X2 i o=if i=3 then o else .dead:=λ_ _=>by rw[hX2]
 have eY2:∀i o,Y2 i o=if i=4 then .row 1 [[.eptr (pX l fuel s) 0]] else if i=2\/i=5 then o else .dead:=λ_ _=>by rw[hY2]
 have f3:(h1.mapIdx X2)[3]?=some (.row 20 [(pX l fuel s).map .p]):=by rw[List.getElem?_mapIdx,g3];simp[eX2]
 have t2:Thn (h1.mapIdx X2) h1.length h1 (h1.mapIdx X2) (h1.mapIdx Y2):=Co h1 X2 Y2 λi o hi=>by
  by_cases i4:i=4
  ·subst i4
   rw[g4] at hi
   cases hi
   exact .inr (.inr (.inr ⟨by rw[eX2,if_neg (by omega)],1,_,_,rfl,by rw[eY2,if_pos rfl],.ptr f3 rfl .nil⟩))
  by_cases i2:i=2\/i=5
  ·refine .inl ⟨by rw[eX2,if_neg (by omega)],by rw[eY2,if_neg i4,if_pos i2],?_⟩
   rw[hlen]
   rcases i2 with rfl|rfl
   ·rw[g2] at hi;cases hi;exact k2
   ·rw[g5] at hi;cases hi;exact k5
  by_cases i3:i=3
  ·exact .inr (.inr (.inl ⟨by rw[eX2,if_pos i3],by rw[eY2,if_neg i4,if_neg i2]⟩))
  ·exact .inr (.inl ⟨by rw[eX2,if_neg i3],by rw[eY2,if_neg i4,if_neg i2]⟩)
 have w2:Wk 0 (ah n l1) h1 (ah n l1) (h1.mapIdx Y2):=ti (VV _) t2 (Ak λx hx=>⟨hl1 x hx,by rw[hlen];exact hl x hx⟩)
 refine⟨_,λL hL=>(w1 L hL).trans w2,by rw[List.length_mapIdx,hlen],?_,?_,?_⟩
 ·rw[List.getElem?_mapIdx,g2];simp[eY2]
 ·rw[List.getElem?_mapIdx,g4];simp[eY2]
 ·rw[List.getElem?_mapIdx,g5];simp[eY2]
theorem NQ(l:List Fd)(us:List Int)(fuel:Nat):oU l us fuel=[.row 1 [[.p (fdL l)]],.row 1 [[.p (aK us)]],.row 4 [[.nils,.p (.int .i64 0),.p (.int .i64 0),.nils]],.row 20 [[.p (fdL l),.p (.int .i64 fuel),.p (.int .i64 0),.nils,.p (.int .i64 0),.p (.int .i64 0),.p (.int .i64 0),.p (.int .i64 0),.p (.int .i64 0),.p (.int .i64 0),.p (.int .i64 0),.p (.int .i64 0),.p (.int .i64 0),.p (.int .i64 0),.p (.int .i64 0),.p (.int .i64 0),.p (.int .i64 0),.p (.int .i64 0),.p (.int .i64 0),.p (.int .i64 0)]],.row 1 [[.ptr 3 20 0 0]],.row 4 [[.nils,.p (.int .i64 0),.p (.int .i64 0),.nils]]]:=by
 simp[oU,jo,s0,List.replicate]
theorem tv:AK.whole gU=FK.ak gW:=rfl
theorem CS{l:List Fd}{us:List Int}{fuel:Nat}{s':S5}{r:O5 Int}(hc:aJ l=0)(hz:aH l<=1073741824)(hl:0<l.length)(hu:∀n∈us,V5 n)(hfu:fuel<=4000)(hE:Ev l (.cal (l.length-1) us (s0 fuel) s' r)):
 VF Tryz.prog G eB [.agg [.p (fdL l)],.p (aK us),.p (.int .i64 fuel)] (.tup [.agg ((zD s' r).map .p),.p (.int .i64 ((fuel-s'.left:Nat):Int))]):=by
 have key:AC Tryz.prog G eB [.agg [.p (fdL l)],.p (aK us),.p (.int .i64 fuel)] [] λx h=>∃sv cid,x= .ret (.tup [.agg [sv,.p (.int .i64 (bE r)),.p (.int .i64 (yE r)),.sl cid 1 0 16],.p (.int .i64 ((fuel-s'.left:Nat):Int))])/\View h sv (aK s'.said)/\h[cid]?=some (gx s'.cells):=by
  refine AC.goK tP tv ?_
  simp-implicitDefEqProofs[gU,gW]
  rw[←NQ]
  refine uF (λ_:List AO=>ah 33 [(6,.ptr 2 4 0 0),(7,.p (.int .i64 0)),(8,.ptr 4 1 0 0),(9,.ptr 5 4 0 0)]) (λh=>h)
   (λh=>s'.cells.length=16/\h[2]?=some (.row 4 [[.nils,.p (.int .i64 0),.p (.int .i64 0),.nils]])/\h[4]?=some (.row 1 [[.eptr (pX l fuel s') 0]])/\h[5]?=some (.row 4 [[.nils,.p (.int .i64 (bE r)),.p (.int .i64 (yE r)),.nils]])) ?_ ?_
  ·simp-implicitDefEqProofs[]
   refine(KM G dz [.ptr 4 1 0 0,.ptr 0 1 0 0,.ptr 1 1 0 0,.ptr 5 4 0 0] (oU l us fuel) (λx h'=>∃h2 sv sid,x= .ret (.p (.int .i64 (bE r)))/\MI 3 l fuel sv sid s' h'/\(sid=3\/7<=sid)/\h'[2]?=some (.row 4 [[.nils,.p (.int .i64 0),.p (.int .i64 0),.nils]])/\h'[4]?=some (.row 1 [[.ptr 3 20 0 0]])/\h'[5]?=some (.row 4 [[.nils,.p (.int .i64 0),.p (.int .i64 (yE r)),.nils]])/\h2=h') ?_).mono ?_
   ·refine(Qj G hc hz hl hu hfu hE).mono ?_
    rintro x h' ⟨sv,sid,h2,q1,q2,q3,q4⟩
    have e6:h2[6]?=some (.row 1 [[.p (.int .i64 0)]]):=(q2.2 6 (by simp[oU]) (by simp)).trans rfl
    have e2:h2[2]?=some (.row 4 [[.nils,.p (.int .i64 0),.p (.int .i64 0),.nils]]):=(q2.2 2 (by simp[oU]) (by simp)).trans rfl
    have e4:h2[4]?=some (.row 1 [[.ptr 3 20 0 0]]):=(q2.2 4 (by simp[oU]) (by simp)).trans rfl
    have e5:h2[5]?=some (.row 4 [[.nils,.p (.int .i64 0),.p (.int .i64 0),.nils]]):=(q2.2 5 (by simp[oU]) (by simp)).trans rfl
    have hl6:=(US.1 e6).1
    have hlen:(oU l us fuel).length=6:=by simp[oU]
    rw[hlen]
    cases r with
    |ok n=>
     obtain⟨rfl,rfl⟩:=q4
     refine⟨0,.inl ⟨rfl,rfl⟩,by rw[UT (by omega)];exact e6,_,sv,sid,rfl,q1.frame (by simp) (by rw[UT (by omega),UT (by omega)]) (by rw[UT (by omega),UT (by omega)]),q3,?_,?_,?_,rfl⟩
     ·rw[UT (by omega),UT (by omega)];exact e2
     ·rw[UT (by omega),UT (by omega)];exact e4
     ·rw[UT (by omega),UY (by omega)];rfl
    |st c=>
     obtain⟨rfl,rfl⟩:=q4
     refine⟨c,.inr rfl,e6,_,sv,sid,rfl,q1.frame (by simp) (by rw[UT (by omega)]) (by rw[UT (by omega)]),q3,?_,?_,?_,rfl⟩
     ·rw[UT (by omega)];exact e2
     ·rw[UT (by omega)];exact e4
     ·rw[UT (by omega)];exact e5
   ·rintro z h' ⟨h2,sv,sid,rfl,q1,q2,q3,q4,q5,rfl⟩
    simp-implicitDefEqProofs[aa,q5]
    have hl5:=(US.1 q5).1
    have hH:=q1.frame (h':=h2.set 5 (.row 4 [[.nils,.p (.int .i64 (bE r)),.p (.int .i64 (yE r)),.nils]])) (by simp) (by rw[UT (by omega)]) (by rw[UT (by omega)])
    obtain⟨h3,w1,w2,w3,w4,w5⟩:=QJ (n:=33) (l1:=[(6,.ptr 2 4 0 0),(7,.p (.int .i64 0)),(8,.ptr 4 1 0 0),(9,.ptr 5 4 0 0)]) hH ((UT (by omega)).trans q3) ((UT (by omega)).trans q4) (UY hl5) (by simp[okO,below,af]) (by simp[okO,below,af]) q2
     (by simp[below];omega) (by simp)
    exact⟨h3,⟨q1.len,w3,w4,w5⟩,w1 _ (by simp)⟩
  ·rintro h ⟨qc,q2,q4,q5⟩
   have hch:(cf 1 (pX l fuel s') 4 16)=s'.cells.map λn=>[.int .i64 n]:=by
    unfold pX
    generalize s'.cells=cs at qc
    match cs,qc with
    |[c0,c1,c2,c3,c4,c5,c6,c7,c8,c9,c10,c11,c12,c13,c14,c15],_=>rfl
   have hml:(pX l fuel s').length=20:=by simp[pX,qc]
   have hm2:∀q,(pX l fuel s')[2]'q= .int .i64 ((fuel-s'.left:Nat):Int):=λ_=>rfl
   have hm3:∀q,(pX l fuel s')[3]'q=aK s'.said:=λ_=>rfl
   have hcl:=KP G s'.cells 16 (by omega) (by omega) (by omega) h
   rw[trO,Va (l:=s'.cells) (by omega)] at hcl
   have hl5:=(US.1 q5).1
   have a5:∀os,(h++os)[5]?=_:=λos=>(UU hl5).trans q5
   have a4:∀os,(h++os)[4]?=_:=λos=>(UU (by omega)).trans q4
   have a2:∀os,(h++os)[2]?=_:=λos=>(UU (by omega)).trans q2
   simp-implicitDefEqProofs[q2,q4,q5, ↓hch,hml,hm2,hm3]
   refine hcl.mono ?_
   rintro z h' ⟨rfl,rfl⟩
   have s55:∀os z,((h++os).set 5 z)[5]?=some z:=λos z=>UY (by simp;omega)
   have s54:∀os z,((h++os).set 5 z)[4]?=_:=λos z=>(UT (by omega)).trans (a4 os)
   have s52:∀os z,((h++os).set 5 z)[2]?=_:=λos z=>(UT (by omega)).trans (a2 os)
   have s22:∀os z w,(((h++os).set 5 z).set 2 w)[2]?=some w:=λos z w=>UY (by simp;omega)
   have s24:∀os z w,(((h++os).set 5 z).set 2 w)[4]?=_:=λos z w=>(UT (by omega)).trans (s54 os z)
   simp-implicitDefEqProofs[aa, ↓a5, ↓a4, ↓a2, ↓s55, ↓s54, ↓s52, ↓s22, ↓s24,hm2,hm3,hml]
   refine⟨_,_,⟨rfl,rfl⟩,.p _,?_⟩
   rw[UT (by omega),UT (by omega),Vb (by omega)]
   simp
 refine key.freezeR (λt v h e=>by obtain⟨_,_,e,_⟩:=e;cases e) λv h e=>?_
 obtain⟨sv,cid,e,h1,h2⟩:=e
 cases e
 have v2:=iM (l:=s'.cells) h2
 have hlc:s'.cells.length=16:=(dd hE ⟨nM fuel,hu⟩).1.len
 rw[hlc] at v2
 exact .tup (.agg (.one h1 (.keep (by simp) (.keep (by simp) (.one v2 .nil)))) (.keep (by simp) .nil)) .nil
end
section
variable (G:al)
theorem Eh(n:Int):VF Tryz.prog G cC [.p (.int .i64 n)] (.p (.bool (!inR n 0 255))):=by
 refine AC.go uS ?_
 simp-implicitDefEqProofs[mY]
 refine(EK G n).use ?_
 simp-implicitDefEqProofs[]
def vF(us:List Int):Option Nat:=us.findIdx? λn=> !inR n 0 255
theorem Gb(us:List Int)(hl:us.length<=1000000000000):VF Tryz.prog G dO [.p (aK us),.fn (.func cC) []] (.p (.int .i64 (ixI (vF us)))):=by
 have hnL:aK us= .lst 1 (us.map λn=>[.int .i64 n]):=rfl
 refine AC.go nw ?_
 simp-implicitDefEqProofs[ib,hnL]
 refine aO (λi:Nat=>ah 19 [(8,.p (.int .i64 i)),(7,.p (.int .i64 us.length)),(0,.p (.lst 1 (us.map λn=>[.int .i64 n]))),(1,.fn (.func cC) [])]) (λ_=>[]) (λi=>i<=us.length/\∀n∈us.take i,inR n 0 255=true) (λi=>us.length-i) 0 (by simp) ?_ ?_
 ·exact bx rfl (by simp[below])
 intro i ⟨hi,hn⟩
 have hwi:=w1 (i:=i) (by omega)
 by_cases h1:i<us.length
 ·have hg:us[i]?=some us[i]:=UW h1
  simp-implicitDefEqProofs[h1,hg]
  refine(Eh G us[i]).use ?_
  cases hb:inR us[i] 0 255 with
  |false=>
   have hf:vF us=some i:=by
    rw[vF,Vn]
    exact⟨h1,by simp[hb],λj hj=>by have:=hn us[j] (Wc.2 ⟨j,by omega,rfl⟩);simp[this]⟩
   simp-implicitDefEqProofs[hf,ixI]
  |true=>
   simp-implicitDefEqProofs[hwi]
   refine⟨i+1,⟨by omega,λp hp=>?_⟩,by omega,bx rfl (by simp[below])⟩
   rw[aq h1] at hp
   rcases Vd.1 hp with hp|hp
   ·exact hn p hp
   ·rw[Ve.1 hp];exact hb
 ·have hie:i=us.length:=by omega
  subst hie
  rw[List.take_length] at hn
  have hf:vF us=none:=by
   rw[vF,VB]
   intro x hx
   simp[hn x hx]
  simp-implicitDefEqProofs[hf,ixI]
theorem LY(us:List Int)(hl:us.length<=1000000000000):VF Tryz.prog G cU [.p (aK us),.fn (.func cC) []] (.p (.bool (!us.all λv=>inR v 0 255))):=by
 refine AC.go lF ?_
 simp-implicitDefEqProofs[fc]
 refine(Gb G us hl).use ?_
 simp-implicitDefEqProofs[]
 cases hb:vF us with
 |none=>
  have:(us.all λv=>inR v 0 255)=true:=by
   rw[vF,VB] at hb
   rw[Vc]
   intro x hx
   simpa using hb x hx
  rw[this];simp[ixI]
 |some i=>
  have:(us.all λv=>inR v 0 255)=false:=by
   rw[vF,Vn] at hb
   obtain⟨h1,h2,_⟩:=hb
   rw[List.all_eq_false]
   exact⟨us[i],Vl h1,by simpa using h2⟩
  rw[this];simp[ixI]
def nO(us:List Int)(n:Nat):Bool:=decide (us.length=n)&&us.all λv=>inR v 0 255
theorem Ir(us:List Int)(n:Nat)(hl:us.length<=1000000000000):VF Tryz.prog G lh [.p (aK us),.p (.int .i64 n)] (.p (.bool (nO us n))):=by
 have hnL:aK us= .lst 1 (us.map λn=>[.int .i64 n]):=rfl
 refine AC.go zx ?_
 by_cases h:us.length=n
 ·have h':(us.length:Int)=(n:Int):=by omega
  simp-implicitDefEqProofs[kQ,hnL,h']
  rw[←hnL]
  refine(LY G us hl).use ?_
  simp-implicitDefEqProofs[nO,h]
 ·have h':¬(us.length:Int)=(n:Int):=by omega
  simp-implicitDefEqProofs[kQ,hnL,h',nO,h]
def dP(l:List Fd)(us:List Int):Bool:=decide (aJ l=0)&&(match l[l.length-1]? with|some f=>nO us f.params.length|none=>false)
variable (hK:G fy=some eF) (hS:G cL=some [.tbl opK opV])
include hK hS
theorem Dy(l:List Fd)(us:List Int)(hz:aH l<=1073741824)(hl:us.length<=1000000000000):VF Tryz.prog G mr [.agg [.p (fdL l)],.p (aK us)] (.p (.bool (dP l us))):=by
 have hfl:fdL l= .lst 3 (l.map Fd.cs):=rfl
 have hll:l.length<=aH l:=gr l
 refine AC.go Bg ?_
 simp-implicitDefEqProofs[rD]
 refine(Ps G hK hS l hz).use ?_
 by_cases hc:aJ l=0
 ·have h0:0<l.length:=by have:=(iO hc).1;cases l<;>simp_all
  have hn1:IntKind.i64.wrap ((l.length:Int)-1)=((l.length-1:Nat):Int):=by rw[ab (by omega) (by omega)];omega
  have hg:l[l.length-1]?=some l[l.length-1]:=UW (by omega)
  generalize l[l.length-1]=f at hg
  have hfc:f.cs=[.str f.name,aw f.params,smL f.body]:=rfl
  have hpL:aw f.params= .lst 1 (f.params.map λw=>[.str w]):=rfl
  simp-implicitDefEqProofs[hc,hfl,hn1,hg,hfc,hpL]
  refine(Ir G us f.params.length hl).use ?_
  simp-implicitDefEqProofs[dP,hc,hg]
 ·simp-implicitDefEqProofs[hc,dP]
end
section
variable (G:al)
variable (hK:G fy=some eF) (hS:G cL=some [.tbl opK opV])
include hK hS
theorem Bo{l:List Fd}{us:List Int}{fuel:Int}(hz:aH l<=1073741824)(hl:us.length<=1000000000000)(ho:dP l us=false\/inR fuel 0 4000=false):
 VF Tryz.prog G bu [.agg [.p (fdL l)],.p (aK us),.p (.int .i64 fuel)] (.tup [.agg [.p (aK []),.p (.int .i64 0),.p (.int .i64 0),.p (aK [])],.p (.bool false)]):=by
 have key:AC Tryz.prog G bu [.agg [.p (fdL l)],.p (aK us),.p (.int .i64 fuel)] [] λx h=>x= .ret (.tup [.agg [.nils,.p (.int .i64 0),.p (.int .i64 0),.nils],.p (.bool false)]):=by
  refine AC.go lP ?_
  simp-implicitDefEqProofs[gH]
  refine(Dy G hK hS l us hz hl).use ?_
  cases hq:dP l us with
  |false=>simp-implicitDefEqProofs[]
  |true=>
   have hf:inR fuel 0 4000=false:=by rw[hq] at ho;simpa using ho
   simp-implicitDefEqProofs[]
   refine(lA G fuel 0 4000).use ?_
   simp-implicitDefEqProofs[hf]
 refine key.freezeR (λt v h e=>by cases e) λv h e=>?_
 cases e
 exact .tup (.agg (.one (.nils 1) (.keep (by simp) (.keep (by simp) (.one (.nils 1) .nil)))) (.keep (by simp) .nil)) .nil
theorem AQ{l:List Fd}{us:List Int}{fuel:Nat}{s':S5}{r:O5 Int}(hz:aH l<=1073741824)(hl:us.length<=1000000000000)(ho:dP l us=true)(hc:aJ l=0)(h0:0<l.length)(hu:∀n∈us,V5 n)(hfu:fuel<=4000)(hE:Ev l (.cal (l.length-1) us (s0 fuel) s' r)):
 VF Tryz.prog G bu [.agg [.p (fdL l)],.p (aK us),.p (.int .i64 fuel)] (.tup [.agg ((zD s' r).map .p),.p (.bool true)]):=by
 have hf:inR (fuel:Int) 0 4000=true:=by simp[inR];omega
 refine AC.go lP ?_
 simp-implicitDefEqProofs[gH]
 refine(Dy G hK hS l us hz hl).use ?_
 simp-implicitDefEqProofs[ho]
 refine(lA G fuel 0 4000).use ?_
 simp-implicitDefEqProofs[hf]
 refine(CS G hc hz h0 hu hfu hE).use ?_
 simp-implicitDefEqProofs[zD]
end
section
variable (G:al)
theorem GI(us:List Int)(hl:us.length<=1000000000000):VF Tryz.prog G jG [.p (aK us)] (.p (.bool (us.all λv=>inR v 0 255))):=by
 have hnL:aK us= .lst 1 (us.map λn=>[.int .i64 n]):=rfl
 refine AC.go yv ?_
 simp-implicitDefEqProofs[nQ,hnL]
 refine aO (λi:Nat=>ah 16 [(3,.p (.int .i64 i)),(0,.p (.lst 1 (us.map λn=>[.int .i64 n])))]) (λ_=>[]) (λi=>i<=us.length/\∀n∈us.take i,inR n 0 255=true) (λi=>us.length-i) 0 (by simp) ?_ ?_
 ·exact bx rfl (by simp[below])
 intro i ⟨hi,hn⟩
 have hwi:=w1 (i:=i) (by omega)
 by_cases h1:i<us.length
 ·have hg:us[i]?=some us[i]:=UW h1
  simp-implicitDefEqProofs[h1,hg]
  refine(pi G us[i] 0 255).use ?_
  cases hb:inR us[i] 0 255 with
  |false=>
   have hf:(us.all λv=>inR v 0 255)=false:=by
    rw[List.all_eq_false]
    exact⟨us[i],Vl h1,by simp[hb]⟩
   simp-implicitDefEqProofs[hf]
  |true=>
   simp-implicitDefEqProofs[hwi]
   refine⟨i+1,⟨by omega,λp hp=>?_⟩,by omega,bx rfl (by simp[below])⟩
   rw[aq h1] at hp
   rcases Vd.1 hp with hp|hp
   ·exact hn p hp
   ·rw[Ve.1 hp];exact hb
 ·have hie:i=us.length:=by omega
  subst hie
  rw[List.take_length] at hn
  have hf:(us.all λv=>inR v 0 255)=true:=by
   rw[Vc];exact hn
  simp-implicitDefEqProofs[hf]
theorem Ff(l:List Fd)(us:List Int)(hz:aH l<=1073741824)(hl:us.length<=1000000000000):VF Tryz.prog G mE [.agg [.p (fdL l)],.p (aK us)] (.p (.bool (dP l us))):=by
 have hfl:fdL l= .lst 3 (l.map Fd.cs):=rfl
 have hnL:aK us= .lst 1 (us.map λn=>[.int .i64 n]):=rfl
 have hll:l.length<=aH l:=gr l
 refine AC.go Bq ?_
 simp-implicitDefEqProofs[rO]
 refine(LH G l hz).use ?_
 by_cases hc:aJ l=0
 ·have h0:0<l.length:=by have:=(iO hc).1;cases l<;>simp_all
  have hn1:IntKind.i64.wrap ((l.length:Int)-1)=((l.length-1:Nat):Int):=by rw[ab (by omega) (by omega)];omega
  have hg:l[l.length-1]?=some l[l.length-1]:=UW (by omega)
  generalize l[l.length-1]=f at hg
  have hfc:f.cs=[.str f.name,aw f.params,smL f.body]:=rfl
  have hpL:aw f.params= .lst 1 (f.params.map λw=>[.str w]):=rfl
  simp-implicitDefEqProofs[hc]
  refine(GI G us hl).use ?_
  cases hb:(us.all λv=>inR v 0 255) with
  |false=>simp-implicitDefEqProofs[dP,nO,hc,hg,hb]
  |true=>
   by_cases hq:us.length=f.params.length
   ·have hq':(us.length:Int)=(f.params.length:Int):=by omega
    simp-implicitDefEqProofs[hfl,hnL,hn1,hg,hfc,hpL,dP,nO,hc,hb,hq,hq']
   ·have hq':¬(us.length:Int)=(f.params.length:Int):=by omega
    simp-implicitDefEqProofs[hfl,hnL,hn1,hg,hfc,hpL,dP,nO,hc,hb,hq,hq']
 ·simp-implicitDefEqProofs[hc,dP]
theorem AP{l:List Fd}{us:List Int}{fuel:Int}(hz:aH l<=1073741824)(hl:us.length<=1000000000000)(ho:dP l us=false\/inR fuel 0 4000=false):
 VF Tryz.prog G bK [.agg [.p (fdL l)],.p (aK us),.p (.int .i64 fuel)] (.tup [.agg [.p (aK []),.p (.int .i64 0),.p (.int .i64 0),.p (aK [])],.p (.bool false)]):=by
 have key:AC Tryz.prog G bK [.agg [.p (fdL l)],.p (aK us),.p (.int .i64 fuel)] [] λx h=>x= .ret (.tup [.agg [.nils,.p (.int .i64 0),.p (.int .i64 0),.nils],.p (.bool false)]):=by
  refine AC.go ma ?_
  simp-implicitDefEqProofs[gT]
  refine(Ff G l us hz hl).use ?_
  cases hq:dP l us with
  |false=>simp-implicitDefEqProofs[]
  |true=>
   have hf:inR fuel 0 4000=false:=by rw[hq] at ho;simpa using ho
   simp-implicitDefEqProofs[]
   refine(pi G fuel 0 4000).use ?_
   simp-implicitDefEqProofs[hf]
 refine key.freezeR (λt v h e=>by cases e) λv h e=>?_
 cases e
 exact .tup (.agg (.one (.nils 1) (.keep (by simp) (.keep (by simp) (.one (.nils 1) .nil)))) (.keep (by simp) .nil)) .nil
theorem AU{l:List Fd}{f:Fd}{us:List Int}{fuel:Nat}{s':S5}{r:O5 Int}(hz:aH l<=1073741824)(hl:us.length<=1000000000000)(ho:dP l us=true)(hc:aJ l=0)(hf:l[l.length-1]?=some f)(hp:us.length=f.params.length)(hu:∀n∈us,V5 n)(hfu:fuel<=4000)(hE:Ev l (.cal (l.length-1) us (s0 fuel) s' r)):
 VF Tryz.prog G bK [.agg [.p (fdL l)],.p (aK us),.p (.int .i64 fuel)] (.tup [.agg ((zD s' r).map .p),.p (.bool true)]):=by
 have hq:inR (fuel:Int) 0 4000=true:=by simp[inR];omega
 refine AC.go ma ?_
 simp-implicitDefEqProofs[gT]
 refine(Ff G l us hz hl).use ?_
 simp-implicitDefEqProofs[ho]
 refine(pi G fuel 0 4000).use ?_
 simp-implicitDefEqProofs[hq]
 refine(Pk G hc hz hf hp hu hfu hE).use ?_
 simp-implicitDefEqProofs[zD]
end
section
variable (G:al)
variable (hK:G fy=some eF) (hS:G cL=some [.tbl opK opV])
theorem uN{l:List Fd}{us:List Int}(h:dP l us=true):aJ l=0/\0<l.length/\(∃f,l[l.length-1]?=some f/\us.length=f.params.length)/\∀n∈us,V5 n:=by
 simp only[dP,Vm,decide_eq_true_eq] at h
 obtain⟨h1,h2⟩:=h
 refine⟨h1,by have:=(iO h1).1;cases l<;>simp_all,?_⟩
 split at h2
 ·rename_i f hf
  simp only[nO,Vm,decide_eq_true_eq,Vc] at h2
  exact⟨⟨f,hf,h2.1⟩,λn hn=>by have:=h2.2 n hn;simpa[inR,V5] using this⟩
 ·cases h2
include hK hS
end
section
theorem Od{l:List Fd}{K fuel:Nat}{us:List Int}{s':S5}{r:O5 Int}(h:Ev l (.cal K us (s0 fuel) s' r)):s'.said.length<=fuel:=by
 have h1:M5 s'<=M5 (s0 fuel)/\s'.left<=(s0 fuel).left:=mt h
 have h2:M5 (s0 fuel)=fuel:=by simp[M5,s0]
 have h3:=h1.1
 rw[h2] at h3
 simp only[M5] at h3
 omega
theorem NO{l:List Fd}{K fuel:Nat}{us:List Int}{s':S5}{r:O5 Int}(h:Ev l (.cal K us (s0 fuel) s' r)):s'.left<=fuel:=(show M5 s'<=M5 (s0 fuel)/\s'.left<=(s0 fuel).left from mt h).2
theorem JQ{l:List Fd}{us:List Int}{f:Fd}(hc:aJ l=0)(hf:l[l.length-1]?=some f)(hl:us.length=f.params.length)(hv:∀n∈us,V5 n):dP l us=true:=by
 simp only[dP,hc,hf,nO,hl,decide_true,Bool.true_and,Vc]
 intro n hn
 have:=hv n hn
 simp only[inR,Vm,decide_eq_true_eq]
 exact this
variable (G:al)
structure Runs (l:List Fd) (us:List Int) (fuel:Nat) (s':S5) (r:O5 Int):Prop where
 ev:Ev l (.cal (l.length-1) us (s0 fuel) s' r)
 said:s'.said.length<=4000
 cells:s'.cells.length=16
 left:s'.left<=fuel
 impl:VF Tryz.prog G bu [.agg [.p (fdL l)],.p (aK us),.p (.int .i64 fuel)] (.tup [.agg ((zD s' r).map .p),.p (.bool true)])
 spec:VF Tryz.prog G bK [.agg [.p (fdL l)],.p (aK us),.p (.int .i64 fuel)] (.tup [.agg ((zD s' r).map .p),.p (.bool true)])
theorem RN(xs:List Int)(hb:xs.length<=1048576):VF Tryz.prog G kJ [.p (aK xs),.p (aK xs)] (.p (.bool true)):=by
 have hsl:∀l,aK l= .lst 1 (l.map λw=>[.int .i64 w]):=λ_=>rfl
 refine AC.go sw ?_
 simp-implicitDefEqProofs[kT,hsl]
 refine aO (λi:Nat=>ah 26 [(0,.p (aK xs)),(1,.p (aK xs)),(11,.p (aK xs)),(12,.p (.int .i64 xs.length)),(13,.p (.int .i64 i))]) (λ_=>[]) (λi=>i<=xs.length) (λi=>xs.length-i) 0 (by simp) ?_ ?_
 ·exact bx rfl (by simp[below,aK])
 intro i hi
 simp-implicitDefEqProofs[hsl]
 refine be (λh1=>?_) (λh1=>?_)
 ·simp at h1
  have hg:xs[i]?=some xs[i]:=UW h1
  generalize xs[i]=x at hg
  simp-implicitDefEqProofs[hg]
  refine⟨i+1,by omega,by omega,bx rfl ?_⟩
  simp[below,aK,w1 (i:=i) (by omega)]
 ·simp at h1
  simp-implicitDefEqProofs[]
theorem BG(xs:List Int)(hb:xs.length<=1048576):VF Tryz.prog G je [.p (aK xs),.p (aK xs)] (.p (.bool true)):=by
 have hsl:∀l,aK l= .lst 1 (l.map λw=>[.int .i64 w]):=λ_=>rfl
 refine AC.go AR ?_
 simp-implicitDefEqProofs[rL,hsl]
 refine aO (λi:Nat=>ah 26 [(0,.p (aK xs)),(1,.p (aK xs)),(5,.p (.int .i64 i))]) (λ_=>[]) (λi=>i<=xs.length) (λi=>xs.length-i) 0 (by simp) ?_ ?_
 ·exact bx rfl (by simp[below,aK])
 intro i hi
 simp-implicitDefEqProofs[hsl]
 refine be (λh1=>?_) (λh1=>?_)
 ·simp at h1
  have hg:xs[i]?=some xs[i]:=UW h1
  generalize xs[i]=x at hg
  simp-implicitDefEqProofs[hg]
  refine⟨i+1,by omega,by omega,bx rfl ?_⟩
  simp[below,aK,w1 (i:=i) (by omega)]
 ·simp at h1
  simp-implicitDefEqProofs[]
theorem Hr(xs ys:List Int)(e v:Int)(hx:xs.length<=1048576)(hy:ys.length<=1048576):VF Tryz.prog G dJ [.agg [.p (aK xs),.p (.int .i64 e),.p (.int .i64 v),.p (aK ys)],.agg [.p (aK xs),.p (.int .i64 e),.p (.int .i64 v),.p (aK ys)]] (.p (.bool true)):=by
 refine AC.go sM ?_
 simp-implicitDefEqProofs[ll]
 refine(BG G xs hx).use ?_
 simp-implicitDefEqProofs[]
 refine(BG G ys hy).use ?_
 simp-implicitDefEqProofs[]
theorem Lh(xs:List Int)(hb:xs.length<=1073741824):VF Tryz.prog G jg [.p (aK xs),.p (aK xs)] (.p (.bool true)):=by
 refine AC.go Ba ?_
 have hsl:∀l,aK l= .lst 1 (l.map λw=>[.int .i64 w]):=λ_=>rfl
 simp-implicitDefEqProofs[rI,hsl]
 refine aO (λi:Nat=>ah 29 [(0,.p (aK xs)),(1,.p (aK xs)),(10,.p (.int .i64 xs.length)),(11,.p (.int .i64 i))]) (λ_=>[]) (λi=>i<=xs.length) (λi=>xs.length-i) 0 (by simp) ?_ ?_
 ·exact bx rfl (by simp[below,aK])
 intro i hi
 simp-implicitDefEqProofs[hsl]
 refine be (λh1=>?_) (λh1=>?_)
 ·simp at h1
  have hg:xs[i]?=some xs[i]:=UW h1
  generalize xs[i]=x at hg
  simp-implicitDefEqProofs[hg]
  refine⟨i+1,by omega,by omega,bx rfl ?_⟩
  simp[below,aK,w1 (i:=i) (by omega)]
 ·simp at h1
  simp-implicitDefEqProofs[]
variable (hK:G fy=some eF) (hS:G cL=some [.tbl opK opV])
include hK hS
theorem MP(l:List Fd)(hz:aH l<=1073741824):VF Tryz.prog G iR [.agg [.p (fdL l)]] (.p (.int .i64 (if aY l=true then(gz l:Int) else-1))):=by
 refine AC.go uY ?_
 simp-implicitDefEqProofs[mZ]
 refine(lE G hK hS l hz).use ?_
 cases h:aY l with
 |false=>simp-implicitDefEqProofs[]
 |true=>
  simp-implicitDefEqProofs[]
  refine(BW G l hz).use ?_
  simp-implicitDefEqProofs[]
theorem HL{l:List Fd}{us:List Int}{fuel:Nat}{s':S5}{r:O5 Int}(hz:aH l<=1073741824)(hl:us.length<=1000000000000)(ho:dP l us=true)(hfu:fuel<=4000)(hE:Ev l (.cal (l.length-1) us (s0 fuel) s' r)):Runs G l us fuel s' r:=by
 obtain⟨hc,h0,⟨f,hf1,hf2⟩,hv⟩:=uN ho
 exact⟨hE,Vp (Od hE) hfu,(dd hE ⟨nM fuel,hv⟩).1.len,NO hE,AQ G hK hS hz hl ho hc h0 hv hfu hE,AU G hz hl ho hc hf1 hf2 hv hfu hE⟩
theorem Uw{l:List Fd}{us:List Int}{fuel:Nat}(hz:aH l<=1073741824)(hl:us.length<=1000000000000)(ho:dP l us=true)(hfu:fuel<=4000):∃s' r,Runs G l us fuel s' r:=by
 obtain⟨hc,h0,⟨f,hf1,hf2⟩,hv⟩:=uN ho
 obtain⟨s',r,hE,_⟩:=Ur hc hf1 hf2 hv fuel
 exact⟨s',r,HL G hK hS hz hl ho hfu hE⟩
end
section
variable (G:al)
theorem Lt{ρ:List Nat}:∀{args:List AV},af 0 args->TW ρ args args
 |[],_=>trivial
 |v::r,h=>⟨.inr ⟨(bi (VV _) [v] ⟨h.1,trivial⟩).1,by have:=ec ρ [v] ⟨h.1,trivial⟩;simpa[bh] using this⟩,Lt h.2⟩
theorem Me{f:FuncId}{args:List AV}{b:List Int}{p:Nat}{Q:AV->Nat->Prop}(H:AC Tryz.prog G f (.ptr 0 2 0 0::args) [rdO b p] λx h=>∃v q,x= .ret v/\h=[rdO b q]/\Q v q)(hq:∀v q,Q v q->below 0 v){h:List AO}{k:Nat}(hk:h[k]?=some (rdO b p))(ha:af 0 args):
 AC Tryz.prog G f (.ptr k 2 0 0::args) h λx h'=>∃v q,x= .ret v/\h'=h.set k (rdO b q)/\Q v q:=by
 refine(H.frame (h:=h) (args:= .ptr k 2 0 0::args) [k] (by simp) ⟨.inr ⟨by simp[below],by simp[ren]⟩,Lt ha⟩ (bS hk (aZ _ _ _) bV)).mono ?_
 rintro x h' ⟨x0,h0,⟨v,q,rfl,rfl,r⟩,hl,rfl,rfl⟩
 refine⟨v,q,?_,?_,r⟩
 ·simp only[Bs]
  have:=ec ([k]++List.range' h.length ([rdO b q].length-[rdO b p].length)) [v] ⟨hq v q r,trivial⟩
  simpa[bh] using this
 ·have hp2:∀σ,hZ σ (rdO b q)=rdO b q:=λσ=>by simp[rdO,hZ,bh,ren]
  simp[mrg,hp2]
theorem Mp{l:List Int}(h:Byt l)(n:Nat):Byt (l.take n):=λx hx=>h x (VK hx)
theorem LJ{f:FuncId}{args:List AV}{R:ARes->Prop}(H:AC Tryz.prog G f args [] λx _=>R x)(hR:∀x,R x->∃v,x= .ret v/\below 0 v)(ha:af 0 args)(h:List AO):AC Tryz.prog G f args h λx h'=>R x/\h'=h:=by
 have H2:AC Tryz.prog G f args [] λx h'=>R x/\h'=[]:=by
  refine H.wk (λt v h' r=>by obtain⟨_,e,_⟩:=hR _ r;cases e) λv h' r=>?_
  obtain⟨v',e,hv⟩:=hR _ r
  cases e
  exact⟨v,[],KG rfl ⟨.inr ⟨hv,rfl⟩,trivial⟩,r,rfl⟩
 refine(H2.pre h ha (λo ho=>by cases ho) (λx h' r=>by rw[r.2])).mono ?_
 rintro x h' ⟨h1,⟨r,rfl⟩,rfl⟩
 exact⟨r,rfl⟩
variable (hK:G fy=some eF) (hS:G cL=some [.tbl opK opV])
include hK hS
end
section
theorem DW:AK.whole oH=FK.ak pj:=rfl
variable (G:al)
def Ds(l:List Fd):Nat:=match l[l.length-1]? with|some f=>f.params.length|none=>0
theorem NJ(l:List Fd):Ds l<=aH l:=by
 unfold Ds
 split
 ·rename_i f hf
  have:=cK (UZ hf)
  rw[Fd.sz] at this
  omega
 ·exact VV _
structure Ys5 where (us:List Int) (q i:Nat)
theorem PM{b:List Int}(hb:Byt b)(hl:b.length<=2000){p:Nat}(hp:p<=3000000000)(l:List Fd)(hz:aH l<=900000000):AC Tryz.prog G pf [.ptr 0 2 0 0,.agg [.p (fdL l)]] [rdO b p] λx h=>∃v q,x= .ret v/\h=[rdO b q]/\(∃us:List Int,v= .p (aK us)/\us.length<=900000001)/\p<=q/\q<=p+1800000003:=by
 refine lK G (AC.goK Er DW ?_)
 have hll:=fQ l
 have hpl:=NJ l
 have hfl:fdL l= .lst 3 (l.map Fd.cs):=rfl
 have hn0:gx []= .row 1 []:=rfl
 simp-implicitDefEqProofs[pj,oH]
 refine mB (ah 54 [(0,.ptr 0 2 0 0),(5,.sl 1 1 0 0),(6,.p (.int .i64 (Ds l)))]) [rdO b p,gx []] ?_ ?_
 ·by_cases h0:l=[]
  ·subst h0
   simp-implicitDefEqProofs[hfl]
   refine dc [0,2] (by simp) (by decide) (by decide) (bS rfl (aZ _ _ _) (bS rfl (by simp[gx,okO]) bV)) ?_
   simp[below,ren,Ds]
  ·have hlen:0<l.length:=List.length_pos_iff.2 h0
   have hg:l[l.length-1]?=some l[l.length-1]:=UW (by omega)
   have hpe:Ds l=l[l.length-1].params.length:=by rw[Ds,hg]
   rw[hpe]
   generalize l[l.length-1]=f at hg
   have hw:IntKind.i64.wrap ((l.length:Int)-1)=((l.length-1:Nat):Int):=by rw[ab (by omega) (by omega)];omega
   have hfc:f.cs=[.str f.name,aw f.params,smL f.body]:=rfl
   have hsl:∀l,aw l= .lst 1 (l.map λw=>[.str w]):=λ_=>rfl
   have hc:(0:Int)<l.length:=by omega
   simp-implicitDefEqProofs[hfl,hlen,hw,hg,hfc,hsl]
   refine dc [0,2] (by simp) (by decide) (by decide) (bS rfl (aZ _ _ _) (bS rfl (by simp[gx,okO]) bV)) ?_
   simp[below,ren]
 refine uF (λs:Ys5=>ah 54 [(0,.ptr 0 2 0 0),(5,.sl 1 1 0 s.us.length)]) (λs=>[rdO b s.q,gx s.us]) (λs=>s.us.length<=900000000/\p<=s.q/\s.q<=p+1800000000) ?_ ?_
 ·simp-implicitDefEqProofs[]
  refine aO (λs:Ys5=>ah 54 [(0,.ptr 0 2 0 0),(5,.sl 1 1 0 s.us.length),(6,.p (.int .i64 (Ds l))),(7,.p (.int .i64 s.i))]) (λs=>[rdO b s.q,gx s.us]) (λs=>s.i<=Ds l/\s.us.length=s.i/\p<=s.q/\s.q<=p+2*s.i) (λs=>Ds l-s.i) ⟨[],p,0⟩ (by simp) ?_ ?_
  ·refine dc [0,1] (by simp) (by decide) (by decide) (bS rfl (aZ _ _ _) (bS rfl (by simp[gx,okO]) bV)) ?_
   simp[below,ren]
  rintro⟨us,q,i⟩ ⟨h1,h2,h3,h4⟩
  simp only at h1 h2 h3 h4
  have hwi:=w1 (i:=i) (by omega)
  have hbo:∀us,gx us= .row 1 (us.map λn=>[.p (.int .i64 n)]):=λ_=>rfl
  have ht:∀us:List Int,List.take us.length (us.map λn=>[AV.p (.int .i64 n)])=us.map λn=>[.p (.int .i64 n)]:=λus=>Va (by simp)
  simp-implicitDefEqProofs[]
  refine be (λhc=>?_) (λhc=>?_)
  ·simp at hc
   simp-implicitDefEqProofs[]
   refine(aQ G b hb hl q (by omega) 256 _).mono ?_
   rintro r h ⟨k,rfl,rfl,_⟩
   simp-implicitDefEqProofs[aa]
   refine(jX G hb hl (p:=q+1) (by omega) [0,1,2,3,7,16,255,(k:Int)] (k:=2) (by simp) (by simp) (by omega) rfl (by simp[gx])).mono ?_
   rintro r h ⟨n,_,rfl,rfl⟩
   simp-implicitDefEqProofs[aa,hbo,ht]
   refine⟨by omega,?_⟩
   simp-implicitDefEqProofs[hwi]
   refine⟨⟨us++[n],q+2,i+1⟩,⟨by simp only;omega,by simp only[Vh,List.length_singleton];omega,by simp only;omega,by simp only;omega⟩,by simp only;omega,?_⟩
   refine dc [0,4] (by simp) (by decide) (by decide) (bS rfl (aZ _ _ _) (bg (by simp) (BU (us++[n])) bV)) ?_
   simp[below,ren]
  ·simp at hc
   refine⟨⟨us,q,0⟩,⟨by simp only;omega,by simp only;omega,by simp only;omega⟩,?_⟩
   refine dc [0,1] (by simp) (by decide) (by decide) (bS rfl (aZ _ _ _) (bg rfl (BU us) bV)) ?_
   simp[below,ren]
 rintro⟨us,q,i⟩ ⟨h1,h2,h3⟩
 simp only at h1 h2 h3
 have hbo:∀us,gx us= .row 1 (us.map λn=>[.p (.int .i64 n)]):=λ_=>rfl
 simp-implicitDefEqProofs[]
 refine(aQ G b hb hl q (by omega) 40 _).mono ?_
 rintro r h ⟨k,rfl,rfl,_⟩
 simp-implicitDefEqProofs[aa]
 have hv:∀(h:List AO) (j:Nat) (us:List Int) (n:Nat),n=us.length->h[j]?=some (gx us)->View h (.sl j 1 0 n) (aK us):=λh j us n e q=>by subst e;exact iM q
 have ht:∀us:List Int,List.take us.length (us.map λn=>[AV.p (.int .i64 n)])=us.map λn=>[.p (.int .i64 n)]:=λus=>Va (by simp)
 by_cases k0:k=0
 ·simp-implicitDefEqProofs[k0,hbo,ht]
  refine⟨by omega,?_⟩
  exact⟨_,_,q+1,.p (aK (us++[0])),rfl,rfl,.one (hv _ _ _ _ (by simp) (by simp[gx])) .nil,⟨_,rfl,by simp;omega⟩,by omega,by omega⟩
 have k1':¬(k:Int)=0:=by omega
 by_cases k1:(k:Int)=1
 ·simp-implicitDefEqProofs[k0,k1]
  refine be (λhc=>?_) (λhc=>?_)
  ·cases us with
   |nil=>simp at hc
   |cons u us=>
    simp-implicitDefEqProofs[]
    refine(jX G hb hl (p:=q+1) (by omega) [-1,256] (k:=2) (by simp) (by simp) (by omega) rfl (by simp[gx])).mono ?_
    rintro r h ⟨n,_,rfl,rfl⟩
    simp-implicitDefEqProofs[aa,hbo]
    exact⟨_,_,q+2,.p (aK (n::us)),rfl,rfl,.one (hv _ _ _ _ (by simp) (by simp[gx])) .nil,⟨_,rfl,by simpa using Nat.le_succ_of_le h1⟩,by omega,by omega⟩
  ·simp-implicitDefEqProofs[]
   exact⟨_,_,q+1,.p (aK us),rfl,rfl,.one (iM rfl) .nil,⟨_,rfl,by omega⟩,by omega,by omega⟩
 ·simp-implicitDefEqProofs[k0,k1]
  exact⟨_,_,q+1,.p (aK us),rfl,rfl,.one (iM rfl) .nil,⟨_,rfl,by omega⟩,by omega,by omega⟩
def DrR(x:ARes):Prop:=∃(l:List Fd) (us:List Int) (fuel:Int),x= .ret (.tup [.agg [.p (fdL l)],.p (aK us),.p (.int .i64 fuel)])/\aH l<=900000000/\us.length<=900000001
theorem MH:∀x,DrR x->∃v,x= .ret v/\below 0 v:=λx ⟨l,us,fuel,e,_⟩=>⟨_,e,by simp[below]⟩
theorem ve(code:List Int)(hb:Byt code):AC Tryz.prog G ef [.p (uZ code)] [] λx _=>DrR x:=by
 refine AC.go nY ?_
 simp-implicitDefEqProofs[iF]
 refine(AC.lift (Pa G code) (by simp) rfl rfl).mono ?_
 rintro r h ⟨rfl,rfl⟩
 have hr:∀n,cy n (rdO (code.take 2000) 0)=rdO (code.take 2000) 0:=λn=>by simp[rdO,cy,dC,cg]
 have hbt:=Mp hb 2000
 have hbl:(code.take 2000).length<=2000:=by rw[Vs];omega
 generalize code.take 2000=b at hr hbt hbl
 simp-implicitDefEqProofs[aa,cg,hr]
 refine(Me G (Q:=λv q2=>(∃l:List Fd,v= .agg [.p (fdL l)]/\aH l<=200000000)/\q2<=200000000) ((Gl G hbt hbl (p:=0) (by omega)).mono λx h ⟨l,q,e1,e2,_,e4,_,e6⟩=>⟨_,q,e1,e2,⟨l,rfl,e4⟩,by omega⟩) (λv q ⟨⟨l,e,_⟩,_⟩=>by rw[e];simp[below]) (h:=[.row 1 [[.nils]],rdO b 0]) (k:=1) rfl (by simp)).mono ?_
 rintro r h ⟨v,q,rfl,rfl,⟨l,rfl,hz⟩,hq⟩
 simp-implicitDefEqProofs[aa]
 have pick:∀(q:Nat) (h:List AO) (n:Int),q<=3000000000->h[1]?=some (rdO b q)->AC Tryz.prog G aW [.ptr 1 2 0 0,.p (.int .i64 n)] h λx h'=>∃v q2,x= .ret v/\h'=h.set 1 (rdO b q2)/\∃k:Nat,v= .p (.int .i64 k)/\q2=q+1:=λq h n hq h1=>
  Me G (Q:=λv q2=>∃k:Nat,v= .p (.int .i64 k)/\q2=q+1) ((KZ G b hbt hbl q (by omega) n).mono λx h ⟨k,e1,e2,_⟩=>⟨_,_,e1,e2,k,rfl,rfl⟩) (λv q ⟨k,e,_⟩=>by rw[e];simp[below]) h1 (by simp[below])
 have fin:∀(l:List Fd) (q:Nat),aH l<=900000000->q<=3000000000->∀T,T=AO.row 1 [[.nils]]->True:=λ_ _ _ _ _ _=>trivial
 refine(pick q _ 12 (by omega) rfl).mono ?_
 rintro r h ⟨v,q2,rfl,rfl,k,rfl,rfl⟩
 simp-implicitDefEqProofs[aa]
 have inn:=λ(l:List Fd) (q:Nat) (hz:aH l<=900000000) (hq:q<=3000000000) (h:List AO) (h1:h[1]?=some (rdO b q))=>Me G (PM G hbt hbl hq l hz) (λv q ⟨⟨us,e,_⟩,_⟩=>by rw[e];simp[below]) h1 (by simp[below])
 have num:=λ(q:Nat) (hq:q<=5000000000) (h:List AO) (h1:h[1]?=some (rdO b q))=>Me G (args:=[.p (aK [400,400,1000,20,5,1,0,4000,-1,4001])]) (Q:=λv q2=>∃n:Int,v= .p (.int .i64 n)/\q2=q+1) ((CG G hbt hbl (p:=q) (by omega) _ (by simp) (by simp) []).mono λx h ⟨n,_,e1,e2⟩=>⟨_,_,e1,e2,n,rfl,rfl⟩) (λv q ⟨k,e,_⟩=>by rw[e];simp[below]) h1 (by simp[below])
 refine be (λhc=>?_) (λhc=>?_)
 ·simp-implicitDefEqProofs[]
  refine(Me G (Mu G hbt hbl (p:=q+1) (by omega)) (λv q ⟨⟨l,e,_⟩,_⟩=>by rw[e];simp[below]) (k:=1) rfl trivial).mono ?_
  rintro r h ⟨v,q2,rfl,rfl,⟨l2,rfl,hz2⟩,hq1,hq2⟩
  simp-implicitDefEqProofs[aa]
  refine(inn l2 q2 hz2 (by omega) _ rfl).mono ?_
  rintro r h ⟨v,q3,rfl,rfl,⟨us,rfl,hu⟩,hq3,hq4⟩
  simp-implicitDefEqProofs[aa]
  refine(num q3 (by omega) _ rfl).mono ?_
  rintro r h ⟨v,q4,rfl,rfl,n,rfl,rfl⟩
  simp-implicitDefEqProofs[aa]
  exact⟨l2,us,n,rfl,hz2,hu⟩
 ·simp-implicitDefEqProofs[]
  refine(inn l (q+1) (by omega) (by omega) _ rfl).mono ?_
  rintro r h ⟨v,q3,rfl,rfl,⟨us,rfl,hu⟩,hq3,hq4⟩
  simp-implicitDefEqProofs[aa]
  refine(num q3 (by omega) _ rfl).mono ?_
  rintro r h ⟨v,q4,rfl,rfl,n,rfl,rfl⟩
  simp-implicitDefEqProofs[aa]
  exact⟨l,us,n,rfl,by omega,hu⟩
end
section
variable (G:al)
variable (hK:G fy=some eF) (hS:G cL=some [.tbl opK opV])
include hK hS
theorem Sj{l:List Fd}{us:List Int}{fuel:Int}(hz:aH l<=1073741824)(hl:us.length<=1000000000000)(ho:¬(dP l us=true/\inR fuel 0 4000=true)):
 VF Tryz.prog G bu [.agg [.p (fdL l)],.p (aK us),.p (.int .i64 fuel)] (.tup [.agg [.p (aK []),.p (.int .i64 0),.p (.int .i64 0),.p (aK [])],.p (.bool false)])/\VF Tryz.prog G bK [.agg [.p (fdL l)],.p (aK us),.p (.int .i64 fuel)] (.tup [.agg [.p (aK []),.p (.int .i64 0),.p (.int .i64 0),.p (aK [])],.p (.bool false)]):=by
 have h:dP l us=false\/inR fuel 0 4000=false:=by
  cases h1:dP l us with
  |false=>exact .inl rfl
  |true=>
   cases h2:inR fuel 0 4000 with
   |false=>exact .inr rfl
   |true=>exact absurd ⟨h1,h2⟩ ho
 exact⟨Bo G hK hS hz hl h,AP G hz hl h⟩
end
section
theorem EX(l:List Fd)(s:List UInt8):bt l s=(l.map Fd.name).findIdx? λx=>decide (x=s):=by
 rw[bt,List.findIdx?_map];rfl
theorem EU(l:List Fd)(j:Nat):tC l j=((l.map λf=>f.params.length)[j]?).getD 0:=by
 rw[tC,Vg]
 cases l[j]?<;>rfl
theorem Ov{l l':List Fd}(h1:l'.map Fd.name=l.map Fd.name)(h2:(l'.map λf=>f.params.length)=l.map λf=>f.params.length):Like l l' where
 at_:=λs=>by rw[EX,EX,h1]
 par:=λj=>by rw[EU,EU,h2]
structure Ext5 (l l':List Fd):Prop where
 at_:∀s j,bt l s=some j->bt l' s=some j
 par:∀s j,bt l s=some j->tC l' j=tC l j
theorem Like.ext{l l':List Fd}(h:Like l l'):Ext5 l l':=⟨λs j e=>by rw[h.at_];exact e,λ_ j _=>h.par j⟩
section
variable {fns fns':List Fd} (hL:Ext5 fns fns')
include hL
theorem Iq{k:Nat}{vs:List LV}{o:Int}{s:List UInt8}{n:Nat}(h:gu fns k vs o s n 0=0):gu fns' k vs o s n 0=0:=by
 unfold gu at h⊢
 split
 ·rename_i h2;rw[if_pos h2] at h;exact h
 ·rename_i h2
  rw[if_neg h2] at h
  split
  ·rename_i h3
   rw[if_pos h3] at h
   unfold kD at h⊢
   cases e:bt fns s with
   |none=>rw[e] at h;simp[fl] at h
   |some j=>
    rw[e] at h
    rw[hL.at_ s j e]
    simp only at h⊢
    rw[hL.par s j e]
    exact h
  ·rfl
mutual
theorem Ku{k:Nat}{vs:List LV}:∀e:Ex,mK fns k vs e 0=0->mK fns' k vs e 0=0
 | .mk o n s ks,h=>by
   rw[mK] at h⊢
   have h0:=di h
   rw[h0] at h
   rw[Iq hL h0]
   exact vl ks h
theorem vl{k:Nat}{vs:List LV}:∀l:List Ex,bj fns k vs l 0=0->bj fns' k vs l 0=0
 |[],_=>rfl
 |e::r,h=>by
  have _:=hL
  rw[bj] at h
  have h0:=di h
  rw[h0] at h
  rw[bj,Ku e h0]
  exact vl r h
end
mutual
theorem JU{k:Nat}:∀(s:Sm) (b:Nat) (w:WS),(stW fns k b s w).code=0->stW fns' k b s w=stW fns k b s w
 | .mk o s a bd el,b,w,hz=>by
   rw[stW,cF] at hz
   have z1:=bN hz
   rw[cF] at z1
   have z2:=bN z1
   have z3:bj fns k w.vs a w.code=0:=tH z2
   have hc0:=di z3
   have z3':=z3
   rw[hc0] at z3'
   have e1:bj fns' k w.vs a w.code=bj fns k w.vs a w.code:=by rw[z3,hc0];exact vl hL a z3'
   rw[stW,stW]
   simp only[e1]
   rw[py bd _ _ z1,py el _ _ hz]
theorem py{k:Nat}:∀(l:List Sm) (b:Nat) (w:WS),(bv fns k b l w).code=0->bv fns' k b l w=bv fns k b l w
 |[],b,w,_=>rfl
 |s::r,b,w,hz=>by
  have _:=hL
  rw[bv] at hz
  rw[bv,bv,JU s b w (bN hz)]
  exact py r b _ hz
end
theorem Eo{k:Nat}{f:Fd}(hz:(fnW fns k f).code=0):(fnW fns' k f).code=0:=by
 have hat:=Qo hz
 rw[fnW,if_pos hat] at hz
 rw[fnW,if_pos (hL.at_ _ _ hat),py hL f.body 0 _ hz]
 exact hz
end
def ik(l:List Fd)(K:Nat)(f:Fd)(n:Int):List Fd:=l.take K++[f.sayF n]
theorem zZ{l:List Fd}{K:Nat}{f:Fd}(hK:K+1=l.length)(hf:l[K]?=some f):l=l.take K++[f]:=by
 have h:=VM K l
 have hd:l.drop K=[f]:=by
  obtain⟨h1,h2⟩:=US.1 hf
  rw[VS h1,h2,List.drop_eq_nil_of_le (by omega)]
 rw[hd] at h
 exact h.symm
theorem En{l:List Fd}{K:Nat}{f:Fd}(hK:K+1=l.length)(hf:l[K]?=some f)(n:Int):Like l (ik l K f n):=by
 have h:=zZ hK hf
 generalize l.take K=t at h
 have e:ik l K f n=l.take K++[f.sayF n]:=rfl
 have ht:l.take K=t:=by
  rw[h,List.take_left']
  have:=congrArg List.length h
  simp at this;omega
 rw[e,ht,h]
 exact Ov (by simp[Fd.sayF]) (by simp[Fd.sayF])
theorem ML(fns:List Fd)(k:Nat)(n:Int)(w:WS):stW fns k 0 (DE n) w=w:=by
 rw[DE,stW]
 simp[opW,bj,mK,gu,bv,WS.back]
theorem Nb{l:List Fd}{K:Nat}{f:Fd}(hK:K+1=l.length)(n:Int){i:Nat}{g:Fd}(h:(ik l K f n)[i]?=some g):(i<K/\l[i]?=some g)\/(i=K/\g=f.sayF n):=by
 have hl:(l.take K).length=K:=by simp;omega
 rw[ik] at h
 by_cases hi:i<K
 ·rw[UU (by omega),VL,if_pos hi] at h
  exact .inl ⟨hi,h⟩
 ·rw[Vb (by omega),hl] at h
  have:i-K=0:=by
   have:=US.1 h
   simp at this;omega
  rw[this] at h
  exact .inr ⟨by omega,(Option.some.inj h).symm⟩
theorem No{l:List Fd}{K:Nat}{f:Fd}(hc:aJ l=0)(hK:K+1=l.length)(hf:l[K]?=some f){n:Int}(hp:aY (ik l K f n)=true):aJ (ik l K f n)=0:=by
 have h0:=((tL l).1 hc).2
 have hL:=En hK hf n
 rw[aJ,if_pos hp,lQ]
 intro i g hg
 rw[VX]
 rcases Nb hK n hg with⟨hi,h⟩|⟨rfl,rfl⟩
 ·exact Eo hL.ext (h0 i g h)
 ·have h1:=Eo hL.ext (h0 _ f hf)
  rw[fnW] at h1⊢
  show(bv _ _ 0 (DE n::f.body) (bz f.params ⟨[],0,if bt (ik l i f n) f.name=some i then 0 else 2⟩)).code=0
  rw[bv,ML]
  exact h1
theorem Qi{l:List Fd}{K:Nat}{f:Fd}(hp:aY l=true)(hK:K+1=l.length)(hf:l[K]?=some f){n:Int}(hn:V5 n):aY (ik l K f n)=true↔gz l+1<=40:=by
 obtain⟨h1,h2,h3⟩:=(eJ l).1 hp
 have hs:=zZ hK hf
 have hl:(ik l K f n).length=l.length:=by simp[ik];omega
 have ha:gz (ik l K f n)=gz l+1:=by
  have e1:gz l=((l.take K).map λf=>dB f.body).sum+dB f.body:=by
   conv=>lhs;rw[hs]
   simp[gz]
  rw[e1]
  simp only[gz,ik,List.map_append,List.sum_append,Vt,List.map_nil,List.sum_cons,List.sum_nil,Fd.sayF,dB,DE,Sm.cnt]
  omega
 rw[eJ,hl,ha]
 constructor
 ·exact λh=>h.2.2
 ·intro h
  refine⟨h1,λg hg=>?_,h⟩
  rw[ik] at hg
  rcases Vd.1 hg with hg|hg
  ·exact h2 g (VK hg)
  ·rw[Ve.1 hg]
   have hfo:=h2 f (UZ hf)
   simp only[jH,Fd.sayF,Vm,List.all_cons] at hfo⊢
   refine⟨hfo.1,?_,hfo.2⟩
   have h6:lz (.mk 1 n [] [])=true:=by
    rw[lz,Vm]
    exact⟨Iu (d:=5) hn,by simp[Ex.parts,ga]⟩
   have hni:aG []=false:=by decide
   simp[az,iJ,DE,Sm.op,Sm.args,Sm.name,Sm.body,Sm.els,inR,gw,cN,hni,h6]
end
section
theorem uf:AK.whole gD=FK.ak gL:=rfl
theorem KJ{h:List AO}{id n:Nat}{l:List Sm}{s:Sm}{r:List AV}(hn:n=l.length+1)(he:h[id]?=some (.row 5 (r::smR l)))(hr:∀(j:Nat) (q:PV) (a:AV),s.cs[j]?=some q->r[j]?=some a->View h a q):View h (.sl id 5 0 n) (smL (s::l)):=by
 subst hn
 refine vb (es:=(s::l).map Sm.cs) he (by simp[fa]) (λe he=>by obtain⟨x,_,rfl⟩:=Vq.1 he;exact x.cs_len) (λi j e q e' a a1 a2 a3 a4=>?_) (by simp)
 cases i with
 |zero=>cases a1;cases a3;exact hr j q a a2 a4
 |succ i=>
  rw[Vt,Vk,Vg] at a1
  rw[Vk,smR,Vg] at a3
  obtain⟨g,g1,g2⟩:=UX.1 a1
  subst g2
  rw[g1] at a3
  cases a3
  exact nk a2 a4
theorem Oi{l:List Fd}{K:Nat}{f:Fd}(hf:l[K]?=some f)(n:Int):aH (ik l K f n)<=aH l+2:=by
 have h1:aH l=aH (l.take K)+(f.sz+aH (l.drop (K+1))):=by
  have e:=nt hf
  have:aH l=aH (l.take K++f::l.drop (K+1)):=by rw[←e]
  rw[this,jw];simp[aH]
 have h3:aH (ik l K f n)=aH (l.take K)+(f.sayF n).sz:=by rw[ik,jw];simp[aH]
 have h4:(f.sayF n).sz=f.sz+2:=by
  simp[Fd.sz,Fd.sayF,DE,aC,Sm.sz,br,Ex.sz];omega
 omega
variable (G:al)
variable (hK:G fy=some eF) (hS:G cL=some [.tbl opK opV])
include hK hS
theorem zC(code:List Int)(hb:Byt code)(hl:code.length<=9223372036854775807):VF Tryz.prog G mc [.p (uZ code)] (.p (.bool true)):=by
 refine AC.goK ug uf ?_
 have hbl:uZ code= .lst 1 (code.map λn=>[.int .u8 n]):=rfl
 simp-implicitDefEqProofs[gD,gL,hbl]
 rw[←hbl]
 by_cases hc:(1048576:Int)<code.length
 ·simp-implicitDefEqProofs[hc]
 simp-implicitDefEqProofs[hc]
 refine(LJ G (ve G code hb) MH (by simp) _).mono ?_
 rintro r h ⟨⟨l,us,fuel,rfl,hz,hu⟩,rfl⟩
 simp-implicitDefEqProofs[aa]
 by_cases hq:dP l us=true/\inR fuel 0 4000=true
 case neg=>
  obtain⟨hi,hs⟩:=Sj G hK hS (l:=l) (us:=us) (fuel:=fuel) (by omega) (by omega) hq
  have hsm:=Hr G [] [] 0 0 (by simp) (by simp)
  refine hi.use ?_
  simp-implicitDefEqProofs[]
  refine hs.use ?_
  simp-implicitDefEqProofs[]
  refine hsm.use ?_
  simp-implicitDefEqProofs[]
  refine hsm.use ?_
  simp-implicitDefEqProofs[]
 obtain⟨ho,hf⟩:=hq
 have hf':0<=fuel/\fuel<=4000:=by simpa[inR] using hf
 obtain⟨F,rfl⟩:∃F:Nat,fuel=(F:Int):=⟨fuel.toNat,by omega⟩
 have hF:F<=4000:=by omega
 obtain⟨s',r,R⟩:=Uw G hK hS (l:=l) (us:=us) (fuel:=F) (by omega) (by omega) ho hF
 have hsl:=R.said
 have hcl:=R.cells
 have hi:=R.impl
 have hs:=R.spec
 have hsm:=Hr G s'.said s'.cells (bE r) (yE r) (by omega) (by omega)
 refine hi.use ?_
 simp-implicitDefEqProofs[zD]
 refine hs.use ?_
 simp-implicitDefEqProofs[zD]
 refine hsm.use ?_
 by_cases h4:F=4000
 ·have h4':(F:Int)=4000:=by omega
  simp-implicitDefEqProofs[h4']
  refine hsm.use ?_
  simp-implicitDefEqProofs[]
 have h4':¬(F:Int)=4000:=by omega
 obtain⟨hchk,h0,⟨f,hf1,hf2⟩,hv⟩:=uN ho
 obtain⟨K,hK1⟩:∃K,l.length=K+1:=⟨l.length-1,by omega⟩
 have hKe:l.length-1=K:=by omega
 rw[hKe] at hf1
 have hpx:aY l=true:=((tL l).1 hchk).1
 have hst:=MP G hK hS l (by omega)
 rw[if_pos hpx] at hst
 have h40:gz l<=40:=((eJ l).1 hpx).2.2
 have hx2:=Oi hf1 77
 have hpv:=lE G hK hS (ik l K f 77) (by omega)
 have hso:=Qi hpx hK1.symm hf1 (n:=77) ⟨by decide,by decide⟩
 have hcs:f.cs=[.str f.name,aw f.params,smL f.body]:=rfl
 have hfl:fdL l= .lst 3 (l.map Fd.cs):=rfl
 have hml:smL f.body= .lst 5 (f.body.map Sm.cs):=rfl
 have hll:=fQ l
 have hm:=cK (UZ hf1)
 have hfz:f.sz=1+f.name.length+(f.params.length+(f.params.map List.length).sum)+aC f.body:=rfl
 have hbl2:=cb f.body
 have hwK:IntKind.i64.wrap ((l.length:Int)-1)=(K:Int):=by rw[ab (by omega) (by omega)];omega
 have hKl:K<l.length:=by omega
 simp-implicitDefEqProofs[h4',hfl,hwK,hf1,hcs,hml]
 refine mB (ah 147 [(3,.ptr 0 1 0 0),(4,.p (aK us)),(5,.p (.int .i64 F)),(6,.ptr 1 4 0 0),(10,.p (.int .i64 K)),(11,.ptr 3 3 0 0)]) [.row 1 [[.p (.lst 3 (l.map Fd.cs))]],.row 4 [[.p (aK s'.said),.p (.int .i64 (bE r)),.p (.int .i64 (yE r)),.p (aK s'.cells)]],.row 4 [[.p (aK s'.said),.p (.int .i64 (bE r)),.p (.int .i64 (yE r)),.p (aK s'.cells)]],.row 3 [[.p (.str f.name),.p (aw f.params),.p (smL (f.sayF 77).body)]]] ?_ ?_
 ·simp-implicitDefEqProofs[]
  refine⟨⟨by omega,by omega⟩,?_⟩
  refine kj 4 (by omega) (by simp) rfl (.same (by simp[okO,below]) (.same (by simp[okO,below]) (.same (by simp[okO,below]) (.one (.keep (by simp[below]) (.keep (by simp[below]) (.one ?_ .nil))) (.nil _))))) ?_
  ·refine KJ (l:=f.body) (s:=DE 77) (r:=[.p (.int .i64 3),.p (.str []),.sl 4 4 0 1,.nils,.nils]) (by omega) ?_ (bU (bs (h:=_) rfl (Ex.cs_len _) (fP (.nils 4))) (.nils 5) (.nils 5))
   have e:List.map ((λx=>List.map AV.p x)∘Sm.cs) f.body=smR f.body:=rfl
   rw[e];rfl
  ·exact⟨.keep (by simp[below]) .nil,.keep (by simp[below]) .nil,.keep (by simp[below]) .nil,.keep (by simp[below]) .nil,.keep (by simp[below]) .nil,.keep (by simp[below]) .nil,trivial⟩
 have hmin:min K l.length=K:=Nat.min_eq_left (by omega)
 have hmin2:K<=l.length:=by omega
 refine mB (ah 147 [(3,.ptr 0 1 0 0),(4,.p (aK us)),(5,.p (.int .i64 F)),(6,.ptr 1 4 0 0),(12,.ptr 2 1 0 0)]) [.row 1 [[.p (fdL l)]],.row 4 [[.p (aK s'.said),.p (.int .i64 (bE r)),.p (.int .i64 (yE r)),.p (aK s'.cells)]],.row 1 [[.p (fdL (ik l K f 77))]]] ?_ ?_
 ·simp-implicitDefEqProofs[hmin]
  refine⟨by omega,⟨by omega,by omega⟩,⟨by omega,by omega⟩,?_⟩
  refine Wk.trans (DR [0,1,7,6] (l1:=[(3,.ptr 0 1 0 0),(4,.p (aK us)),(5,.p (.int .i64 F)),(6,.ptr 1 4 0 0),(12,.ptr 2 1 0 0)])
   (h1:=[.row 1 [[.p (.lst 3 (l.map Fd.cs))]],.row 4 [[.p (aK s'.said),.p (.int .i64 (bE r)),.p (.int .i64 (yE r)),.p (aK s'.cells)]],.row 1 [[.sl 3 3 0 (K+1)]],.row 3 (aS (ik l K f 77))])
   rfl (by simp) (bS rfl (by simp[okO,below]) (bS rfl (by simp[okO,below]) (cS (by simp[below]) (by simp[ren,bh]) (bg ?_ (pJ _) bV)))) (by simp[below,ren]))
   (kj 3 (by omega) (by simp) rfl (.same (by simp[okO,below]) (.same (by simp[okO,below]) (.one (.one ?_ .nil) (.nil _)))) ?_)
  ·have e1:aS (ik l K f 77)=List.take K (List.take K (l.map ((λx=>List.map AV.p x)∘Fd.cs)))++[[.p (.str f.name),.p (aw f.params),.p (smL (f.sayF 77).body)]]:=by
    rw[List.take_take,Nat.min_self,←List.map_take]
    simp only[aS,ik,List.map_append,Vt,List.map_nil]
    rfl
   rw[e1];rfl
  ·have e2:(ik l K f 77).length=K+1:=by simp[ik];omega
   have:=pH (h:=tail 3 [.row 1 [[.p (.lst 3 (l.map Fd.cs))]],.row 4 [[.p (aK s'.said),.p (.int .i64 (bE r)),.p (.int .i64 (yE r)),.p (aK s'.cells)]],.row 1 [[.sl 3 3 0 (K+1)]],.row 3 (aS (ik l K f 77))]) (id:=3) (l:=ik l K f 77) rfl
   rwa[e2] at this
  ·exact⟨.keep (by simp[below]) .nil,.keep (by simp[below]) .nil,.keep (by simp[below]) .nil,.keep (by simp[below]) .nil,.keep (by simp[below]) .nil,trivial⟩
 have hnum:aK (77::s'.said)= .lst 1 ([.int .i64 77]::s'.said.map λw=>[.int .i64 w]):=rfl
 generalize hxe:ik l K f 77=x at*
 simp-implicitDefEqProofs[]
 refine hpv.use ?_
 cases hp:aY x with
 |false=>
  have hnot:¬gz l+1<=40:=λh=>by rw[hso.2 h] at hp;cases hp
  have he:gz l=40:=by omega
  rw[he] at hst
  simp-implicitDefEqProofs[]
  refine hst.use ?_
  simp-implicitDefEqProofs[]
 |true=>
  have hchx:aJ x=0:=by rw[←hxe];exact No hchk hK1.symm hf1 (by rw[hxe];exact hp)
  have hfx:x[K]?=some (f.sayF 77):=by
   rw[←hxe,ik,Vb (by rw[Vs,hmin];exact Vi _),Vs,hmin,Nat.sub_self];rfl
  have hxl:x.length=K+1:=by rw[←hxe,ik];simp;omega
  have hox:dP x us=true:=JQ (f:=f.sayF 77) hchx (by rw[hxl];exact hfx) hf2 hv
  have hlike:=En hK1.symm hf1 77
  rw[hxe] at hlike
  have hEv:=R.ev
  rw[hKe] at hEv
  have hE2:Ev x (.cal K us (s0 (F+1)) (s'.pre [77]) r):=Nq hEv hf1 hfx (λj hj=>by
   rw[←hxe,ik,UU (by rw[Vs,hmin];exact hj),VL,if_pos hj]) (λs j h=>by rw[hlike.at_];exact h)
  have hxK:x.length-1=K:=by omega
  rw[←hxK] at hE2
  have R2:=HL G hK hS (l:=x) (by omega) (by omega) hox (show F+1<=4000 by omega) hE2
  have hi2:=R2.impl
  have hps:(s'.pre [77]).said=77::s'.said:=rfl
  have hpc:(s'.pre [77]).cells=s'.cells:=rfl
  have hwF:IntKind.i64.wrap ((F:Int)+1)=((F+1:Nat):Int):=by rw[ab (by omega) (by omega)];omega
  have hw1:=Lh G s'.said (by omega)
  have hw2:=Lh G s'.cells (by omega)
  simp-implicitDefEqProofs[hwF]
  refine hi2.use ?_
  have htk:List.take s'.said.length (s'.said.map λw=>[PV.int .i64 w])=s'.said.map λw=>[.int .i64 w]:=Va (by simp)
  simp-implicitDefEqProofs[zD,hps,hpc,hnum,htk]
  refine hw1.use ?_
  simp-implicitDefEqProofs[]
  refine hw2.use ?_
  simp-implicitDefEqProofs[]
end
end Go.Proofs.YtokiapglmedipaaGreatDoor
namespace Go.Proofs.YtokiapglmedipaaGreatDoor
open Go Go.Aw Go.ChangeShapes Go.WideShapes Go.ChangeAt Go.RowKit
set_option maxRecDepth 100000
abbrev PO:TypeId:=24
abbrev RF:TypeId:=22
abbrev Uv:TypeId:=122
abbrev Pj:TypeId:=55
abbrev Sh:TypeId:=9
abbrev OH:TypeId:=120
abbrev PN:TypeId:=206
abbrev Nv:TypeId:=204
abbrev QD:TypeId:=245
abbrev OJ:TypeId:=3
abbrev Pi:TypeId:=4
abbrev FV:TypeId:=160
abbrev Le:TypeId:=240
abbrev Og:TypeId:=241
abbrev Hk:TypeId:=45
abbrev Cj:TypeId:=5
theorem Sa:Kids Tryz.prog (· <Tryz.prog.types.size):=kids_rows (by kernel_rfl) (by kernel_rfl)
theorem RA:∀t e,t<Tryz.prog.types.size->Tryz.prog.underlying t=some (.slice e)->0<Tryz.prog.cellsOf e:=slices_full_of Tryz.prog (by kernel_rfl)
def KR:List TypeId:=[PO,RF,Uv,Pj,Sh,OH,PN,Nv,QD,OJ,Pi,FV,Le]
theorem Lf:Plain Tryz.prog KR=true:=by kernel_rfl
theorem Uk:ownKnob Tryz.prog.godebug=none:=by kernel_rfl
theorem zH{H:Type}:∀l:List (DataW H),Rows.uptoBulkAll l=(l.map Rows.uptoBulk).sum
 |[]=>by simp[Rows.uptoBulkAll]
 |d::r=>by simp[Rows.uptoBulkAll,zH r]
theorem MQ{H:Type}:BulkOk (Rows.uptoBulk (H:=H)) where
 lit:=λl=>by cases l<;>simp[Rows.uptoBulk]
 str:=λs=>by simp[Rows.uptoBulk]
 nil:=by simp[Rows.uptoBulk]
 slice:=λes sp=>by simp only[Rows.uptoBulk,zH];omega
 agg:=λps=>by simp only[Rows.uptoBulk,zH];omega
theorem Ke{t e:TypeId}{vs:List PV}(h:Conf Tryz.prog t vs)(hu:Tryz.prog.underlying t=some (.slice e)):∃es,vs=[.lst (Tryz.prog.cellsOf e) es]/\es.length<=9223372036854775807/\∀x∈es,Conf Tryz.prog e x:=by
 cases h with
 |sl es e' hl hs=>rw[hu] at e';cases e';exact⟨es,rfl,hl,hs⟩
 |bool b e=>rw[e] at hu;cases hu
 |int n e=>rw[e] at hu;cases hu
 |str s e=>rw[e] at hu;cases hu
 |st vs e=>rw[e] at hu;cases hu
 |arr vs e=>rw[e] at hu;cases hu
def G0:al:=λg=>if g=fy then some eF else if g=cL then some [.tbl opK opV] else none
theorem Ph:∀k,iV Tryz.prog (k+10) FV (Rows.laid_loop_example_wholeway_impl_keys (H:=Unit))=eF:=λk=>by kernel_rfl
theorem TY{W:World}{laid:List (String × DataW Unit)}(hL:laidMet Tryz.prog laid W)(h1:("loop.example/wholeway/impl.keys",Rows.laid_loop_example_wholeway_impl_keys)∈laid)(h2:("loop.example/wholeway/impl.opSign",Rows.laid_loop_example_wholeway_impl_opSign)∈laid):
 ∀g cs,G0 g=some cs->g<W.heap.size/\∀(j:Nat) (c:PV),cs[j]?=some c->∃v,W.cell? ⟨g,j,none⟩=some v/\PRel W (· <W.heap.size) c v:=by
 intro g cs h
 unfold G0 at h
 split at h
 ·rename_i e;subst e;cases h
  exact IF Lf hL (n:= "loop.example/wholeway/impl.keys") (d:=Rows.laid_loop_example_wholeway_impl_keys) (t:=FV) h1 (by kernel_rfl) (by kernel_rfl) (by decide) Ph
 ·split at h
  ·rename_i e;subst e;cases h
   exact Mc Lf hL (n:= "loop.example/wholeway/impl.opSign") h2 (t:=Og) (k:=OJ) (e:=Le) (by kernel_rfl) (by kernel_rfl) (by kernel_rfl) (.inl ⟨.i64,by kernel_rfl⟩) (by decide) (by kernel_rfl) (by kernel_rfl) (λm=>by kernel_rfl)
  ·cases h
def Ht:List TypeId:=Hk::Cj::KR
theorem PD:Plain Tryz.prog Ht=true:=by kernel_rfl
theorem Gi{vs:List PV}(h:Conf Tryz.prog Hk vs):∃l:List Int,vs=[uZ l]/\l.length<=9223372036854775807/\Byt l:=by
 obtain⟨es,rfl,hl,h4⟩:=Ke h (e:=Cj) (by kernel_rfl)
 have hk:∀x∈es,∃n:Int,x=[PV.int .u8 n]/\(Lit.int .u8 n).wf=true:=λx hx=>My (h4 x hx) (by kernel_rfl)
 obtain⟨l,rfl⟩:=HE (λn:Int=>[PV.int .u8 n]) (λx hx=>by obtain⟨n,e,_⟩:=hk x hx;exact⟨n,e⟩)
 rw[show Tryz.prog.cellsOf Cj=1 by kernel_rfl]
 refine⟨l,rfl,by rwa[VE] at hl,λn hn=>?_⟩
 obtain⟨m,e,hw⟩:=hk [PV.int .u8 n] (Vq.2 ⟨n,hn,rfl⟩)
 cases e
 simp[Lit.wf,IntKind.min,IntKind.max,IntKind.bits,IntKind.signed] at hw
 omega
end Go.Proofs.YtokiapglmedipaaGreatDoor
