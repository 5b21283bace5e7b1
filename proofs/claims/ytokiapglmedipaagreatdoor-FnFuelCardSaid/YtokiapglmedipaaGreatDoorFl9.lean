/-
  Contracts and lemmas that the card needs, part 9.
-/
import Derived.Test.YtokiapglmedipaaGreatDoorFl8
namespace Go.Proofs.YtokiapglmedipaaGreatDoor
open Go Go.Aw
set_option maxRecDepth 100000
set_option maxHeartbeats 4000000
section
variable (G:al)
theorem Se{l:List Fd}(hc:aN l=0)(hz:aI l<=1073741824)(M fuel:Nat):∀k,PcC G l M k fuel:=by
 intro k
 induction k using Nat.strongRecOn with
 |_ k ih=>
  have hX:∀e,WfE l k e->PxC G l M k fuel e:=λe W=>PN G (λe hop W ihk=>MU G hc hz ih e hop W ihk) e.sz e (UM _) W
  have key:∀(N:Nat) (xs:List Sm),aD xs<N->(∀x∈xs,∃d,az d x=true)->aD xs<=1073741824->(∃d,CoS l k d xs)->PbC G l M k fuel xs:=by
   intro N
   induction N with
   |zero=>intro xs h;omega
   |succ N ihN=>
    rintro xs hN hf hzx ⟨d,hco⟩
    refine NW G (by have:=cn xs;omega) λx hx=>?_
    have W:=LK hf hzx hco hx
    have hxz:=dP hx
    have hse:=x.sz_eq
    have hB:=ihN x.body (by omega) W.body.1 W.body.2.1 W.body.2.2
    by_cases h6:x.op=6
    ·exact Qg G W hX hB h6
    ·exact OK G W hX hB (ihN x.els (by omega) W.els.1 W.els.2.1 W.els.2.2) h6
  refine PZ G hc hz λf hf=>?_
  have hfz:=cS (UF hf)
  have hfs:f.sz=1+f.name.length+(f.params.length+(f.params.map List.length).sum)+aD f.body:=rfl
  exact key (aD f.body+1) f.body (Nat.lt_succ_self _) (λy hy=>⟨4,(iM hc).2 f (UF hf) y hy⟩) (by omega) ⟨1,yR hc hf⟩
def ou(l:List Fd)(us:List Int)(fuel:Nat):List AO:=[.row 1 [[.p (fdL l)]],.row 1 [[.p (bp us)]],.row 4 [[.nils,.p (.int .i64 0),.p (.int .i64 0),.nils]],jk l fuel .nils (s0 fuel),.row 1 [[.ptr 3 20 0 0]],.row 4 [[.nils,.p (.int .i64 0),.p (.int .i64 0),.nils]]]
theorem Pk{l:List Fd}{us:List Int}{fuel:Nat}{s':S5}{r:O5 Int}(hc:aN l=0)(hz:aI l<=1073741824)(hl:0<l.length)(hu:∀n∈us,V5 n)(hfu:fuel<=4000)(hE:Ev l (.cal (l.length-1) us (s0 fuel) s' r)):
 AC Tryz.prog G dv [.ptr 4 1 0 0,.ptr 0 1 0 0,.ptr 1 1 0 0,.ptr 5 4 0 0] (ou l us fuel++[.row 1 [[.p (.int .i64 0)]]]) λx h'=>∃sv sid h2,MI 3 l fuel sv sid s' h2/\Fr [3] (ou l us fuel++[.row 1 [[.p (.int .i64 0)]]]) h2/\(sid=3\/7<=sid)/\
  (match r with| .ok n=>x= .ret (.tup [])/\h'=h2.set 5 (.row 4 [[.nils,.p (.int .i64 0),.p (.int .i64 n),.nils]])| .st c=>x= .pan bC (.int .i64 c)/\h'=h2):=by
 have hfl:fdL l= .lst 3 (l.map Fd.cs):=rfl
 have hll:l.length<=aI l:=gl l
 have hn1:IntKind.i64.wrap ((l.length:Int)-1)=((l.length-1:Nat):Int):=by rw[ab (by omega) (by omega)];omega
 have hM:MI 3 l fuel .nils 3 (s0 fuel) (ou l us fuel++[.row 1 [[.p (.int .i64 0)]]]):=⟨rfl,.nn _ (by simp[ou]),UM _,hfu,by simp[s0]⟩
 refine AC.go pY ?_
 simp-implicitDefEqProofs[jP,ou,hfl,hn1]
 rw[←hfl]
 refine(Se G hc hz 3 fuel (l.length-1) us (s0 fuel) s' r hE hu (ng fuel) (by simp[M5,s0];omega) _ 3 .nils _ hM (.pp us)).mono ?_
 rintro z h2 ⟨rfl,sv,sid,P⟩
 have h5:h2[5]?=some (.row 4 [[.nils,.p (.int .i64 0),.p (.int .i64 0),.nils]]):=(P.fr.2 5 (by simp[ou]) (by simp)).trans rfl
 have hsid:sid=3\/7<=sid:=by have:=P.fs;simp[ou] at this;exact this
 have hF:Fr [3] (ou l us fuel++[.row 1 [[.p (.int .i64 0)]]]) h2:=P.fr.sub λi hi=>by simp at hi;exact .inl (by simp[hi])
 cases r with
 |ok n=>
  simp-implicitDefEqProofs[aa,dk,h5]
  exact⟨sv,sid,h2,P.run,hF,hsid,rfl⟩
 |st c=>
  simp-implicitDefEqProofs[dk]
  exact⟨sv,sid,h2,P.run,hF,hsid,rfl⟩
end
section
variable (G:al)
end
section
variable (G:al)
mutual
def Sm.mq:Sm->Nat
 | .mk _ _ a b e=>2+3*gr a+Og b+Og e
def Og:List Sm->Nat
 |[]=>0
 |s::r=>s.mq+Og r
end
def Fd.mq(f:Fd):Nat:=1+f.params.length+Og f.body
end
section
abbrev NM:Nat:=0
def NF:List PV:=[.int .i64 0,.int .i64 0,.int .i64 0,.int .i64 1,.int .i64 2,.int .i64 3,.int .i64 255,.int .i64 16,.int .i64 7]
variable (G:al)
theorem Ls(L:List (List PV))(hl:∀x∈L,x.length=1)(hne:L≠[])(hb:L.length<=1048576):AC Tryz.prog G dI [.p (.lst 1 L)] [] λx h=>x= .ret (.sl 1 1 0 L.length)/\h=[.dead,.row 1 (L.map (·.map .p))]:=by
 obtain⟨x,r,rfl⟩:=List.exists_cons_of_ne_nil hne
 refine AC.go sh ?_
 simp-implicitDefEqProofs[kG]
 simp at hb
 omega
end
section
variable (G:al)
def trO(x:List Int)(n:Nat):AO:=gq (x.take n)
theorem Qk(x:List Int)(n m:Nat):cr m (trO x n)=trO x n:=by
 simp only[trO,cr,gq,List.map_map];rfl
theorem Km(x:List Int)(n:Nat)(hn:0<n)(hnx:n<=x.length)(hb:x.length<=1000)(h:List AO):AC Tryz.prog G dI [.p (.lst 1 (List.take n (x.map λv=>[.int .i64 v])))] h λy h'=>y= .ret (.sl (h.length+1) 1 0 n)/\h'=h++[.dead,trO x n]:=by
 have hl:(List.take n (x.map λv=>[PV.int .i64 v])).length=n:=by rw[Vf,Vl];omega
 have:=Ls G (List.take n (x.map λv=>[.int .i64 v])) (λy hy=>by obtain⟨_,_,rfl⟩:=UX.1 (Vr hy);rfl) (by intro e;rw[e] at hl;simp at hl;omega) (by rw[hl];omega)
 rw[hl] at this
 have e:AO.row 1 ((List.take n (x.map λv=>[PV.int .i64 v])).map (·.map .p))=trO x n:=by
  rw[trO,gq,←List.map_take,List.map_map];rfl
 rw[e] at this
 refine(AC.lift this (by simp) rfl ?_).mono ?_
 ·simp[GB,trO,gq,vt,Ah]
  intro y hy
  obtain⟨_,_,rfl⟩:=UX.1 (Vr hy)
  rfl
 ·rintro y h' ⟨rfl,rfl⟩
  refine⟨?_,?_⟩
  ·rfl
  ·simp only[Ve,List.map_nil,Qk];rfl
variable (hT:G NM=some NF)
include hT
omit hT
include hT
end
section
variable (G:al)
def rb(l:List Fd)(fuel:Nat)(s:S5):List PV:=[fdL l,.int .i64 fuel,.int .i64 ((fuel-s.left:Nat):Int),bp s.said]++s.cells.map λn=> .int .i64 n
theorem yZ{hF:List AO}{m:Nat}{L:List (Nat × AV)}:∀{l1:List (Nat × AV)},(∀x∈l1,Aw.look L x.1=x.2/\below m x.2)->FzA hF m L l1
 |[],_=>trivial
 |x::r,h=>⟨by obtain⟨q1,q2⟩:=h x (by simp);rw[q1];exact .keep q2 .nil,yZ λy hy=>h y (by simp[hy])⟩
theorem Qm{l:List Fd}{fuel:Nat}{sv:AV}{sid:Nat}{s:S5}{h:List AO}{r2 r5:AO}{n:Nat}(H:MI 3 l fuel sv sid s h)(h2:h[2]?=some r2)(h4:h[4]?=some (.row 1 [[.ptr 3 20 0 0]]))(h5:h[5]?=some r5)(k2:okO h.length r2)(k5:okO h.length r5)(hs:sid=3\/7<=sid)
 {l1:List (Nat × AV)}(hl:∀x∈l1,below h.length x.2)(hl1:∀x∈l1,Aw.look l1 x.1=x.2):
 ∃h',(∀L,(∀x∈l1,Aw.look L x.1=x.2)->Wk 0 (ah n L) h (ah n l1) h')/\h'.length=h.length/\h'[2]?=some r2/\h'[4]?=some (.row 1 [[.eptr (rb l fuel s) 0]])/\h'[5]?=some r5:=by
 have hl3:=H.lt
 have hl5:=(Uz.1 h5).1
 have hm:=H.men
 obtain⟨X,hX⟩:∃X:Nat->AO->AO,X=λi o=>if i=sid/\sid≠3 then o else .dead:=⟨_,rfl⟩
 obtain⟨Y,hY⟩:∃Y:Nat->AO->AO,Y=λi o=>if i=3 then .row 20 [(rb l fuel s).map .p] else if i=2\/i=4\/i=5 then o else .dead:=⟨_,rfl⟩
 have hF1:View (h.mapIdx X) sv (bp s.said):=by
  have hsd:=H.said
  have hne:=H.neS
  generalize s.said=xs at hsd
  cases hsd with
  |nn _ _=>exact .nils _
  |ss _ _ q=>
   have hn3:sid≠3:=λe=>hne (by simp) e.symm
   exact iF (by rw[List.getElem?_mapIdx,q,hX];simp[hn3,bm,gq])
 have hcs:∀xs:List Int,Fzs (h.mapIdx X) h.length (xs.map λn=> .p (.int .i64 n)) (xs.map λn=> .p (.int .i64 n)):=λxs=>by
  induction xs with
  |nil=>exact .nil
  |cons x r ih=>exact .keep (by simp[below]) ih
 have eX:∀i o,X i o=if i=sid/\sid≠3 then o else .dead:=λ_ _=>by rw[hX]
 have eY:∀i o,Y i o=if i=3 then .row 20 [(rb l fuel s).map .p] else if i=2\/i=4\/i=5 then o else .dead:=λ_ _=>by rw[hY]
 have t1:Thn (h.mapIdx X) h.length h (h.mapIdx X) (h.mapIdx Y):=CV h X Y λi o hi=>by
  by_cases i3:i=3
  ·subst i3
   rw[hm] at hi
   cases hi
   refine .inr (.inr (.inr ⟨by rw[eX,if_neg (by omega)],20,_,(rb l fuel s).map .p,rfl,by rw[eY,if_pos rfl],?_⟩))
   simp only[rb,List.map_append,Ve,List.map_nil,List.map_map]
   exact .keep (by simp[below]) (.keep (by simp[below]) (.keep (by simp[below]) (.one hF1 (hcs s.cells))))
  by_cases i2:i=2\/i=4\/i=5
  ·refine .inl ⟨by rw[eX,if_neg (by omega)],by rw[eY,if_neg i3,if_pos i2],?_⟩
   rcases i2 with rfl|rfl|rfl
   ·rw[h2] at hi;cases hi;exact k2
   ·rw[h4] at hi;cases hi;simp[okO,below,af];omega
   ·rw[h5] at hi;cases hi;exact k5
  by_cases is:i=sid/\sid≠3
  ·exact .inr (.inr (.inl ⟨by rw[eX,if_pos is],by rw[eY,if_neg i3,if_neg i2]⟩))
  ·exact .inr (.inl ⟨by rw[eX,if_neg is],by rw[eY,if_neg i3,if_neg i2]⟩)
 have w1:∀L,(∀x∈l1,Aw.look L x.1=x.2)->Wk 0 (ah n L) h (ah n l1) (h.mapIdx Y):=λL hL=>ti (VA _) t1 (yZ λx hx=>⟨hL x hx,hl x hx⟩)
 have g:∀i o,h[i]?=some o->(h.mapIdx Y)[i]?=some (Y i o):=λi o q=>by rw[List.getElem?_mapIdx,q];rfl
 have hlen:(h.mapIdx Y).length=h.length:=List.length_mapIdx
 generalize h.mapIdx Y=h1 at w1 g hlen
 have g3:h1[3]?=some (.row 20 [(rb l fuel s).map .p]):=by rw[g 3 _ hm,eY,if_pos rfl]
 have g2:h1[2]?=some r2:=by rw[g 2 _ h2,eY,if_neg (by omega),if_pos (by omega)]
 have g4:h1[4]?=some (.row 1 [[.ptr 3 20 0 0]]):=by rw[g 4 _ h4,eY,if_neg (by omega),if_pos (by omega)]
 have g5:h1[5]?=some r5:=by rw[g 5 _ h5,eY,if_neg (by omega),if_pos (by omega)]
 obtain⟨X2,hX2⟩:∃X:Nat->AO->AO,X=λi o=>if i=3 then o else .dead:=⟨_,rfl⟩
 obtain⟨Y2,hY2⟩:∃Y:Nat->AO->AO,Y=λi o=>if i=4 then .row 1 [[.eptr (rb l fuel s) 0]] else if i=2\/i=5 then o else .dead:=⟨_,rfl⟩
 have eX2:∀i o,X2 i o=if i=3 then o else .dead:=λ_ _=>by rw[hX2]
 have eY2:∀i o,Y2 i o=if i=4 then .row 1 [[.eptr (rb l fuel s) 0]] else if i=2\/i=5 then o else .dead:=λ_ _=>by rw[hY2]
 have f3:(h1.mapIdx X2)[3]?=some (.row 20 [(rb l fuel s).map .p]):=by rw[List.getElem?_mapIdx,g3];simp[eX2]
 have t2:Thn (h1.mapIdx X2) h1.length h1 (h1.mapIdx X2) (h1.mapIdx Y2):=CV h1 X2 Y2 λi o hi=>by
  by_cases i4:i=4
  ·subst i4
   rw[g4] at hi
   cases hi
   exact .inr (.inr (.inr ⟨by rw[eX2,if_neg (by omega)],1,_,_,rfl,by rw[eY2,if_pos rfl],.ptr f3 rfl .nil⟩))
  by_cases i2:i=2\/i=5
  ·refine .inl ⟨by rw[eX2,if_neg (by omega)],by rw[eY2,if_neg i4,if_pos i2],?_⟩
   rw[hlen]
   rcases i2 with rfl|rfl
   ·rw[g2] at hi;cases hi;exact k2
   ·rw[g5] at hi;cases hi;exact k5
  by_cases i3:i=3
  ·exact .inr (.inr (.inl ⟨by rw[eX2,if_pos i3],by rw[eY2,if_neg i4,if_neg i2]⟩))
  ·exact .inr (.inl ⟨by rw[eX2,if_neg i3],by rw[eY2,if_neg i4,if_neg i2]⟩)
 have w2:Wk 0 (ah n l1) h1 (ah n l1) (h1.mapIdx Y2):=ti (VA _) t2 (yZ λx hx=>⟨hl1 x hx,by rw[hlen];exact hl x hx⟩)
 refine⟨_,λL hL=>(w1 L hL).trans w2,by rw[List.length_mapIdx,hlen],?_,?_,?_⟩
 ·rw[List.getElem?_mapIdx,g2];simp[eY2]
 ·rw[List.getElem?_mapIdx,g4];simp[eY2]
 ·rw[List.getElem?_mapIdx,g5];simp[eY2]
theorem MA(l:List Fd)(us:List Int)(fuel:Nat):ou l us fuel=[.row 1 [[.p (fdL l)]],.row 1 [[.p (bp us)]],.row 4 [[.nils,.p (.int .i64 0),.p (.int .i64 0),.nils]],.row 20 [[.p (fdL l),.p (.int .i64 fuel),.p (.int .i64 0),.nils,.p (.int .i64 0),.p (.int .i64 0),.p (.int .i64 0),.p (.int .i64 0),.p (.int .i64 0),.p (.int .i64 0),.p (.int .i64 0),.p (.int .i64 0),.p (.int .i64 0),.p (.int .i64 0),.p (.int .i64 0),.p (.int .i64 0),.p (.int .i64 0),.p (.int .i64 0),.p (.int .i64 0),.p (.int .i64 0)]],.row 1 [[.ptr 3 20 0 0]],.row 4 [[.nils,.p (.int .i64 0),.p (.int .i64 0),.nils]]]:=by
 simp[ou,jk,s0,List.replicate]
theorem sM:AK.whole ij=FK.ak gS:=rfl
theorem tq{l:List Fd}{us:List Int}{fuel:Nat}{s':S5}{r:O5 Int}(hc:aN l=0)(hz:aI l<=1073741824)(hl:0<l.length)(hu:∀n∈us,V5 n)(hfu:fuel<=4000)(hE:Ev l (.cal (l.length-1) us (s0 fuel) s' r)):
 VF Tryz.prog G cT [.agg [.p (fdL l)],.p (bp us),.p (.int .i64 fuel)] (.tup [.agg ((sG s' r).map .p),.p (.int .i64 ((fuel-s'.left:Nat):Int))]):=by
 have key:AC Tryz.prog G cT [.agg [.p (fdL l)],.p (bp us),.p (.int .i64 fuel)] [] λx h=>∃sv cid,x= .ret (.tup [.agg [sv,.p (.int .i64 (bq r)),.p (.int .i64 (Ip r)),.sl cid 1 0 16],.p (.int .i64 ((fuel-s'.left:Nat):Int))])/\View h sv (bp s'.said)/\h[cid]?=some (gq s'.cells):=by
  refine AC.goK sR sM ?_
  simp-implicitDefEqProofs[ij,gS]
  rw[←MA]
  refine uS (λ_:List AO=>ah 33 [(6,.ptr 2 4 0 0),(7,.p (.int .i64 0)),(8,.ptr 4 1 0 0),(9,.ptr 5 4 0 0)]) (λh=>h)
   (λh=>s'.cells.length=16/\h[2]?=some (.row 4 [[.nils,.p (.int .i64 0),.p (.int .i64 0),.nils]])/\h[4]?=some (.row 1 [[.eptr (rb l fuel s') 0]])/\h[5]?=some (.row 4 [[.nils,.p (.int .i64 (bq r)),.p (.int .i64 (Ip r)),.nils]])) ?_ ?_
  ·simp-implicitDefEqProofs[]
   refine(KI G dv [.ptr 4 1 0 0,.ptr 0 1 0 0,.ptr 1 1 0 0,.ptr 5 4 0 0] (ou l us fuel) (λx h'=>∃h2 sv sid,x= .ret (.p (.int .i64 (bq r)))/\MI 3 l fuel sv sid s' h'/\(sid=3\/7<=sid)/\h'[2]?=some (.row 4 [[.nils,.p (.int .i64 0),.p (.int .i64 0),.nils]])/\h'[4]?=some (.row 1 [[.ptr 3 20 0 0]])/\h'[5]?=some (.row 4 [[.nils,.p (.int .i64 0),.p (.int .i64 (Ip r)),.nils]])/\h2=h') ?_).mono ?_
   ·refine(Pk G hc hz hl hu hfu hE).mono ?_
    rintro x h' ⟨sv,sid,h2,q1,q2,q3,q4⟩
    have e6:h2[6]?=some (.row 1 [[.p (.int .i64 0)]]):=(q2.2 6 (by simp[ou]) (by simp)).trans rfl
    have e2:h2[2]?=some (.row 4 [[.nils,.p (.int .i64 0),.p (.int .i64 0),.nils]]):=(q2.2 2 (by simp[ou]) (by simp)).trans rfl
    have e4:h2[4]?=some (.row 1 [[.ptr 3 20 0 0]]):=(q2.2 4 (by simp[ou]) (by simp)).trans rfl
    have e5:h2[5]?=some (.row 4 [[.nils,.p (.int .i64 0),.p (.int .i64 0),.nils]]):=(q2.2 5 (by simp[ou]) (by simp)).trans rfl
    have hl6:=(Uz.1 e6).1
    have hlen:(ou l us fuel).length=6:=by simp[ou]
    rw[hlen]
    cases r with
    |ok n=>
     obtain⟨rfl,rfl⟩:=q4
     refine⟨0,.inl ⟨rfl,rfl⟩,by rw[UA (by omega)];exact e6,_,sv,sid,rfl,q1.frame (by simp) (by rw[UA (by omega),UA (by omega)]) (by rw[UA (by omega),UA (by omega)]),q3,?_,?_,?_,rfl⟩
     ·rw[UA (by omega),UA (by omega)];exact e2
     ·rw[UA (by omega),UA (by omega)];exact e4
     ·rw[UA (by omega),UE (by omega)];rfl
    |st c=>
     obtain⟨rfl,rfl⟩:=q4
     refine⟨c,.inr rfl,e6,_,sv,sid,rfl,q1.frame (by simp) (by rw[UA (by omega)]) (by rw[UA (by omega)]),q3,?_,?_,?_,rfl⟩
     ·rw[UA (by omega)];exact e2
     ·rw[UA (by omega)];exact e4
     ·rw[UA (by omega)];exact e5
   ·rintro z h' ⟨h2,sv,sid,rfl,q1,q2,q3,q4,q5,rfl⟩
    simp-implicitDefEqProofs[aa,q5]
    have hl5:=(Uz.1 q5).1
    have hH:=q1.frame (h':=h2.set 5 (.row 4 [[.nils,.p (.int .i64 (bq r)),.p (.int .i64 (Ip r)),.nils]])) (by simp) (by rw[UA (by omega)]) (by rw[UA (by omega)])
    obtain⟨h3,w1,w2,w3,w4,w5⟩:=Qm (n:=33) (l1:=[(6,.ptr 2 4 0 0),(7,.p (.int .i64 0)),(8,.ptr 4 1 0 0),(9,.ptr 5 4 0 0)]) hH ((UA (by omega)).trans q3) ((UA (by omega)).trans q4) (UE hl5) (by simp[okO,below,af]) (by simp[okO,below,af]) q2
     (by simp[below];omega) (by simp)
    exact⟨h3,⟨q1.len,w3,w4,w5⟩,w1 _ (by simp)⟩
  ·rintro h ⟨qc,q2,q4,q5⟩
   have hch:(ca 1 (rb l fuel s') 4 16)=s'.cells.map λn=>[.int .i64 n]:=by
    unfold rb
    generalize s'.cells=cs at qc
    match cs,qc with
    |[c0,c1,c2,c3,c4,c5,c6,c7,c8,c9,c10,c11,c12,c13,c14,c15],_=>rfl
   have hml:(rb l fuel s').length=20:=by simp[rb,qc]
   have hm2:∀q,(rb l fuel s')[2]'q= .int .i64 ((fuel-s'.left:Nat):Int):=λ_=>rfl
   have hm3:∀q,(rb l fuel s')[3]'q=bp s'.said:=λ_=>rfl
   have hcl:=Km G s'.cells 16 (by omega) (by omega) (by omega) h
   rw[trO,UG (l:=s'.cells) (by omega)] at hcl
   have hl5:=(Uz.1 q5).1
   have a5:∀os,(h++os)[5]?=_:=λos=>(UB hl5).trans q5
   have a4:∀os,(h++os)[4]?=_:=λos=>(UB (by omega)).trans q4
   have a2:∀os,(h++os)[2]?=_:=λos=>(UB (by omega)).trans q2
   simp-implicitDefEqProofs[q2,q4,q5, ↓hch,hml,hm2,hm3]
   refine hcl.mono ?_
   rintro z h' ⟨rfl,rfl⟩
   have s55:∀os z,((h++os).set 5 z)[5]?=some z:=λos z=>UE (by simp;omega)
   have s54:∀os z,((h++os).set 5 z)[4]?=_:=λos z=>(UA (by omega)).trans (a4 os)
   have s52:∀os z,((h++os).set 5 z)[2]?=_:=λos z=>(UA (by omega)).trans (a2 os)
   have s22:∀os z w,(((h++os).set 5 z).set 2 w)[2]?=some w:=λos z w=>UE (by simp;omega)
   have s24:∀os z w,(((h++os).set 5 z).set 2 w)[4]?=_:=λos z w=>(UA (by omega)).trans (s54 os z)
   simp-implicitDefEqProofs[aa, ↓a5, ↓a4, ↓a2, ↓s55, ↓s54, ↓s52, ↓s22, ↓s24,hm2,hm3,hml]
   refine⟨_,_,⟨rfl,rfl⟩,.p _,?_⟩
   rw[UA (by omega),UA (by omega),UH (by omega)]
   simp
 refine key.freezeR (λt v h e=>by obtain⟨_,_,e,_⟩:=e;cases e) λv h e=>?_
 obtain⟨sv,cid,e,h1,h2⟩:=e
 cases e
 have v2:=iF (l:=s'.cells) h2
 have hlc:s'.cells.length=16:=(da hE ⟨ng fuel,hu⟩).1.len
 rw[hlc] at v2
 exact .tup (.agg (.one h1 (.keep (by simp) (.keep (by simp) (.one v2 .nil)))) (.keep (by simp) .nil)) .nil
end
section
variable (G:al)
theorem EA(n:Int):VF Tryz.prog G cx [.p (.int .i64 n)] (.p (.bool (!inR n 0 255))):=by
 refine AC.go ve ?_
 simp-implicitDefEqProofs[mJ]
 refine(EP G n).use ?_
 simp-implicitDefEqProofs[]
def vJ(us:List Int):Option Nat:=us.findIdx? λn=> !inR n 0 255
theorem Fg(us:List Int)(hl:us.length<=1000000000000):VF Tryz.prog G dG [.p (bp us),.fn (.func cx) []] (.p (.int .i64 (ixI (vJ us)))):=by
 have hnL:bp us= .lst 1 (us.map λn=>[.int .i64 n]):=rfl
 refine AC.go nr ?_
 simp-implicitDefEqProofs[gG,hnL]
 refine aL (λi:Nat=>ah 19 [(8,.p (.int .i64 i)),(7,.p (.int .i64 us.length)),(0,.p (.lst 1 (us.map λn=>[.int .i64 n]))),(1,.fn (.func cx) [])]) (λ_=>[]) (λi=>i<=us.length/\∀n∈us.take i,inR n 0 255=true) (λi=>us.length-i) 0 (by simp) ?_ ?_
 ·exact bF rfl (by simp[below])
 intro i ⟨hi,hn⟩
 have hwi:=w1 (i:=i) (by omega)
 by_cases h1:i<us.length
 ·have hg:us[i]?=some us[i]:=UC h1
  simp-implicitDefEqProofs[h1,hg]
  refine(EA G us[i]).use ?_
  cases hb:inR us[i] 0 255 with
  |false=>
   have hf:vJ us=some i:=by
    rw[vJ,UU]
    exact⟨h1,by simp[hb],λj hj=>by have:=hn us[j] (VJ.2 ⟨j,by omega,rfl⟩);simp[this]⟩
   simp-implicitDefEqProofs[hf,ixI]
  |true=>
   simp-implicitDefEqProofs[hwi]
   refine⟨i+1,⟨by omega,λp hp=>?_⟩,by omega,bF rfl (by simp[below])⟩
   rw[aq h1] at hp
   rcases UJ.1 hp with hp|hp
   ·exact hn p hp
   ·rw[UL.1 hp];exact hb
 ·have hie:i=us.length:=by omega
  subst hie
  rw[List.take_length] at hn
  have hf:vJ us=none:=by
   rw[vJ,Vi]
   intro x hx
   simp[hn x hx]
  simp-implicitDefEqProofs[hf,ixI]
theorem Ma(us:List Int)(hl:us.length<=1000000000000):VF Tryz.prog G cJ [.p (bp us),.fn (.func cx) []] (.p (.bool (!us.all λv=>inR v 0 255))):=by
 refine AC.go lq ?_
 simp-implicitDefEqProofs[eQ]
 refine(Fg G us hl).use ?_
 simp-implicitDefEqProofs[]
 cases hb:vJ us with
 |none=>
  have:(us.all λv=>inR v 0 255)=true:=by
   rw[vJ,Vi] at hb
   rw[UI]
   intro x hx
   simpa using hb x hx
  rw[this];simp[ixI]
 |some i=>
  have:(us.all λv=>inR v 0 255)=false:=by
   rw[vJ,UU] at hb
   obtain⟨h1,h2,_⟩:=hb
   rw[List.all_eq_false]
   exact⟨us[i],US h1,by simpa using h2⟩
  rw[this];simp[ixI]
def nW(us:List Int)(n:Nat):Bool:=decide (us.length=n)&&us.all λv=>inR v 0 255
theorem IF(us:List Int)(n:Nat)(hl:us.length<=1000000000000):VF Tryz.prog G lb [.p (bp us),.p (.int .i64 n)] (.p (.bool (nW us n))):=by
 have hnL:bp us= .lst 1 (us.map λn=>[.int .i64 n]):=rfl
 refine AC.go zs ?_
 by_cases h:us.length=n
 ·have h':(us.length:Int)=(n:Int):=by omega
  simp-implicitDefEqProofs[lh,hnL,h']
  rw[←hnL]
  refine(Ma G us hl).use ?_
  simp-implicitDefEqProofs[nW,h]
 ·have h':¬(us.length:Int)=(n:Int):=by omega
  simp-implicitDefEqProofs[lh,hnL,h',nW,h]
def gk(l:List Fd)(us:List Int):Bool:=decide (aN l=0)&&(match l[l.length-1]? with|some f=>nW us f.params.length|none=>false)
variable (hK:G gh=some eZ) (hS:G cX=some [.tbl opK opV])
include hK hS
theorem Ac(l:List Fd)(us:List Int)(hz:aI l<=1073741824)(hl:us.length<=1000000000000):VF Tryz.prog G iV [.agg [.p (fdL l)],.p (bp us)] (.p (.bool (gk l us))):=by
 have hfl:fdL l= .lst 3 (l.map Fd.cs):=rfl
 have hll:l.length<=aI l:=gl l
 refine AC.go AQ ?_
 simp-implicitDefEqProofs[rQ]
 refine(Pm G hK hS l hz).use ?_
 by_cases hc:aN l=0
 ·have h0:0<l.length:=by have:=(iM hc).1;cases l<;>simp_all
  have hn1:IntKind.i64.wrap ((l.length:Int)-1)=((l.length-1:Nat):Int):=by rw[ab (by omega) (by omega)];omega
  have hg:l[l.length-1]?=some l[l.length-1]:=UC (by omega)
  generalize l[l.length-1]=f at hg
  have hfc:f.cs=[.str f.name,aw f.params,smL f.body]:=rfl
  have hpL:aw f.params= .lst 1 (f.params.map λw=>[.str w]):=rfl
  simp-implicitDefEqProofs[hc,hfl,hn1,hg,hfc,hpL]
  refine(IF G us f.params.length hl).use ?_
  simp-implicitDefEqProofs[gk,hc,hg]
 ·simp-implicitDefEqProofs[hc,gk]
end
section
variable (G:al)
variable (hK:G gh=some eZ) (hS:G cX=some [.tbl opK opV])
include hK hS
theorem IH{l:List Fd}{us:List Int}(hz:aI l<=1073741824)(hl:us.length<=1000000000000)(ho:gk l us=false):VF Tryz.prog G fG [.agg [.p (fdL l)],.p (bp us)] (.p (.int .i64 (-1))):=by
 refine AC.go rv ?_
 simp-implicitDefEqProofs[my]
 refine(Ac G hK hS l us hz hl).use ?_
 simp-implicitDefEqProofs[ho]
theorem Ih{l:List Fd}{us:List Int}{s':S5}{r:O5 Int}(hz:aI l<=1073741824)(hl:us.length<=1000000000000)(ho:gk l us=true)(hc:aN l=0)(h0:0<l.length)(hu:∀n∈us,V5 n)(hE:Ev l (.cal (l.length-1) us (s0 4000) s' r)):
 VF Tryz.prog G fG [.agg [.p (fdL l)],.p (bp us)] (.p (.int .i64 (if bq r=3 then-1 else((4000-s'.left:Nat):Int)))):=by
 refine AC.go rv ?_
 simp-implicitDefEqProofs[my]
 refine(Ac G hK hS l us hz hl).use ?_
 simp-implicitDefEqProofs[ho]
 refine(tq G hc hz h0 hu (UM _) hE).use ?_
 by_cases h3:bq r=3
 ·simp-implicitDefEqProofs[sG,h3]
 ·simp-implicitDefEqProofs[sG,h3]
theorem Bq{l:List Fd}{us:List Int}{fuel:Nat}{s':S5}{r:O5 Int}(hz:aI l<=1073741824)(hl:us.length<=1000000000000)(ho:gk l us=true)(hc:aN l=0)(h0:0<l.length)(hu:∀n∈us,V5 n)(hfu:fuel<=4000)(hE:Ev l (.cal (l.length-1) us (s0 fuel) s' r)):
 VF Tryz.prog G cW [.agg [.p (fdL l)],.p (bp us),.p (.int .i64 fuel)] (.tup [.agg ((sG s' r).map .p),.p (.bool true)]):=by
 have hf:inR (fuel:Int) 0 4000=true:=by simp[inR];omega
 refine AC.go ua ?_
 simp-implicitDefEqProofs[lE]
 refine(Ac G hK hS l us hz hl).use ?_
 simp-implicitDefEqProofs[ho]
 refine(mT G fuel 0 4000).use ?_
 simp-implicitDefEqProofs[hf]
 refine(tq G hc hz h0 hu hfu hE).use ?_
 simp-implicitDefEqProofs[sG]
end
section
variable (G:al)
theorem Fx(us:List Int)(hl:us.length<=1000000000000):VF Tryz.prog G ju [.p (bp us)] (.p (.bool (us.all λv=>inR v 0 255))):=by
 have hnL:bp us= .lst 1 (us.map λn=>[.int .i64 n]):=rfl
 refine AC.go yt ?_
 simp-implicitDefEqProofs[nK,hnL]
 refine aL (λi:Nat=>ah 16 [(3,.p (.int .i64 i)),(0,.p (.lst 1 (us.map λn=>[.int .i64 n])))]) (λ_=>[]) (λi=>i<=us.length/\∀n∈us.take i,inR n 0 255=true) (λi=>us.length-i) 0 (by simp) ?_ ?_
 ·exact bF rfl (by simp[below])
 intro i ⟨hi,hn⟩
 have hwi:=w1 (i:=i) (by omega)
 by_cases h1:i<us.length
 ·have hg:us[i]?=some us[i]:=UC h1
  simp-implicitDefEqProofs[h1,hg]
  refine(sA G us[i] 0 255).use ?_
  cases hb:inR us[i] 0 255 with
  |false=>
   have hf:(us.all λv=>inR v 0 255)=false:=by
    rw[List.all_eq_false]
    exact⟨us[i],US h1,by simp[hb]⟩
   simp-implicitDefEqProofs[hf]
  |true=>
   simp-implicitDefEqProofs[hwi]
   refine⟨i+1,⟨by omega,λp hp=>?_⟩,by omega,bF rfl (by simp[below])⟩
   rw[aq h1] at hp
   rcases UJ.1 hp with hp|hp
   ·exact hn p hp
   ·rw[UL.1 hp];exact hb
 ·have hie:i=us.length:=by omega
  subst hie
  rw[List.take_length] at hn
  have hf:(us.all λv=>inR v 0 255)=true:=by
   rw[UI];exact hn
  simp-implicitDefEqProofs[hf]
theorem As(l:List Fd)(us:List Int)(hz:aI l<=1073741824)(hl:us.length<=1000000000000):VF Tryz.prog G iY [.agg [.p (fdL l)],.p (bp us)] (.p (.bool (gk l us))):=by
 have hfl:fdL l= .lst 3 (l.map Fd.cs):=rfl
 have hnL:bp us= .lst 1 (us.map λn=>[.int .i64 n]):=rfl
 have hll:l.length<=aI l:=gl l
 refine AC.go Bl ?_
 simp-implicitDefEqProofs[rH]
 refine(Le G l hz).use ?_
 by_cases hc:aN l=0
 ·have h0:0<l.length:=by have:=(iM hc).1;cases l<;>simp_all
  have hn1:IntKind.i64.wrap ((l.length:Int)-1)=((l.length-1:Nat):Int):=by rw[ab (by omega) (by omega)];omega
  have hg:l[l.length-1]?=some l[l.length-1]:=UC (by omega)
  generalize l[l.length-1]=f at hg
  have hfc:f.cs=[.str f.name,aw f.params,smL f.body]:=rfl
  have hpL:aw f.params= .lst 1 (f.params.map λw=>[.str w]):=rfl
  simp-implicitDefEqProofs[hc]
  refine(Fx G us hl).use ?_
  cases hb:(us.all λv=>inR v 0 255) with
  |false=>simp-implicitDefEqProofs[gk,nW,hc,hg,hb]
  |true=>
   by_cases hq:us.length=f.params.length
   ·have hq':(us.length:Int)=(f.params.length:Int):=by omega
    simp-implicitDefEqProofs[hfl,hnL,hn1,hg,hfc,hpL,gk,nW,hc,hb,hq,hq']
   ·have hq':¬(us.length:Int)=(f.params.length:Int):=by omega
    simp-implicitDefEqProofs[hfl,hnL,hn1,hg,hfc,hpL,gk,nW,hc,hb,hq,hq']
 ·simp-implicitDefEqProofs[hc,gk]
theorem IZ{l:List Fd}{us:List Int}(hz:aI l<=1073741824)(hl:us.length<=1000000000000)(ho:gk l us=false):VF Tryz.prog G dU [.agg [.p (fdL l)],.p (bp us)] (.p (.int .i64 (-1))):=by
 refine AC.go rP ?_
 simp-implicitDefEqProofs[mc]
 refine(As G l us hz hl).use ?_
 simp-implicitDefEqProofs[ho]
theorem Ij{l:List Fd}{f:Fd}{us:List Int}{s':S5}{r:O5 Int}(hz:aI l<=1073741824)(hl:us.length<=1000000000000)(ho:gk l us=true)(hc:aN l=0)(hf:l[l.length-1]?=some f)(hp:us.length=f.params.length)(hu:∀n∈us,V5 n)(hE:Ev l (.cal (l.length-1) us (s0 4000) s' r))(hle:s'.left<=4000):
 VF Tryz.prog G dU [.agg [.p (fdL l)],.p (bp us)] (.p (.int .i64 (if bq r=3 then-1 else((4000-s'.left:Nat):Int)))):=by
 have hn1:IntKind.i64.wrap (4000-(s'.left:Int))=((4000-s'.left:Nat):Int):=by rw[ab (by omega) (by omega)];omega
 refine AC.go rP ?_
 simp-implicitDefEqProofs[mc]
 refine(As G l us hz hl).use ?_
 simp-implicitDefEqProofs[ho]
 refine(LS G hc hz hf hp hu (UM _) hE).use ?_
 by_cases h3:bq r=3
 ·simp-implicitDefEqProofs[sG,h3]
 ·simp-implicitDefEqProofs[sG,h3,hn1]
theorem AT{l:List Fd}{f:Fd}{us:List Int}{fuel:Nat}{s':S5}{r:O5 Int}(hz:aI l<=1073741824)(hl:us.length<=1000000000000)(ho:gk l us=true)(hc:aN l=0)(hf:l[l.length-1]?=some f)(hp:us.length=f.params.length)(hu:∀n∈us,V5 n)(hfu:fuel<=4000)(hE:Ev l (.cal (l.length-1) us (s0 fuel) s' r)):
 VF Tryz.prog G gy [.agg [.p (fdL l)],.p (bp us),.p (.int .i64 fuel)] (.tup [.agg ((sG s' r).map .p),.p (.bool true)]):=by
 have hq:inR (fuel:Int) 0 4000=true:=by simp[inR];omega
 refine AC.go tt ?_
 simp-implicitDefEqProofs[lX]
 refine(As G l us hz hl).use ?_
 simp-implicitDefEqProofs[ho]
 refine(sA G fuel 0 4000).use ?_
 simp-implicitDefEqProofs[hq]
 refine(LS G hc hz hf hp hu hfu hE).use ?_
 simp-implicitDefEqProofs[sG]
end
section
variable (G:al)
variable (hK:G gh=some eZ) (hS:G cX=some [.tbl opK opV])
theorem ut{l:List Fd}{us:List Int}(h:gk l us=true):aN l=0/\0<l.length/\(∃f,l[l.length-1]?=some f/\us.length=f.params.length)/\∀n∈us,V5 n:=by
 simp only[gk,UT,decide_eq_true_eq] at h
 obtain⟨h1,h2⟩:=h
 refine⟨h1,by have:=(iM h1).1;cases l<;>simp_all,?_⟩
 split at h2
 ·rename_i f hf
  simp only[nW,UT,decide_eq_true_eq,UI] at h2
  exact⟨⟨f,hf,h2.1⟩,λn hn=>by have:=h2.2 n hn;simpa[inR,V5] using this⟩
 ·cases h2
include hK hS
end
section
theorem Nx{l:List Fd}{K fuel:Nat}{us:List Int}{s':S5}{r:O5 Int}(h:Ev l (.cal K us (s0 fuel) s' r)):s'.said.length<=fuel:=by
 have h1:M5 s'<=M5 (s0 fuel)/\s'.left<=(s0 fuel).left:=mh h
 have h2:M5 (s0 fuel)=fuel:=by simp[M5,s0]
 have h3:=h1.1
 rw[h2] at h3
 simp only[M5] at h3
 omega
theorem MQ{l:List Fd}{K fuel:Nat}{us:List Int}{s':S5}{r:O5 Int}(h:Ev l (.cal K us (s0 fuel) s' r)):s'.left<=fuel:=(show M5 s'<=M5 (s0 fuel)/\s'.left<=(s0 fuel).left from mh h).2
variable (G:al)
structure Runs (l:List Fd) (us:List Int) (fuel:Nat) (s':S5) (r:O5 Int):Prop where
 ev:Ev l (.cal (l.length-1) us (s0 fuel) s' r)
 said:s'.said.length<=4000
 cells:s'.cells.length=16
 left:s'.left<=fuel
 impl:VF Tryz.prog G cW [.agg [.p (fdL l)],.p (bp us),.p (.int .i64 fuel)] (.tup [.agg ((sG s' r).map .p),.p (.bool true)])
 spec:VF Tryz.prog G gy [.agg [.p (fdL l)],.p (bp us),.p (.int .i64 fuel)] (.tup [.agg ((sG s' r).map .p),.p (.bool true)])
theorem Ry(xs:List Int)(hb:xs.length<=1048576):VF Tryz.prog G ku [.p (bp xs),.p (bp xs)] (.p (.bool true)):=by
 have hsl:∀l,bp l= .lst 1 (l.map λw=>[.int .i64 w]):=λ_=>rfl
 refine AC.go si ?_
 simp-implicitDefEqProofs[kO,hsl]
 refine aL (λi:Nat=>ah 26 [(0,.p (bp xs)),(1,.p (bp xs)),(11,.p (bp xs)),(12,.p (.int .i64 xs.length)),(13,.p (.int .i64 i))]) (λ_=>[]) (λi=>i<=xs.length) (λi=>xs.length-i) 0 (by simp) ?_ ?_
 ·exact bF rfl (by simp[below,bp])
 intro i hi
 simp-implicitDefEqProofs[hsl]
 refine bc (λh1=>?_) (λh1=>?_)
 ·simp at h1
  have hg:xs[i]?=some xs[i]:=UC h1
  generalize xs[i]=x at hg
  simp-implicitDefEqProofs[hg]
  refine⟨i+1,by omega,by omega,bF rfl ?_⟩
  simp[below,bp,w1 (i:=i) (by omega)]
 ·simp at h1
  simp-implicitDefEqProofs[]
theorem PW(xs:List Int)(hb:xs.length<=1073741824):VF Tryz.prog G mj [.p (bp xs),.p (bp xs)] (.p (.bool true)):=by
 refine AC.go AM ?_
 have hsl:∀l,bp l= .lst 1 (l.map λw=>[.int .i64 w]):=λ_=>rfl
 simp-implicitDefEqProofs[ro,hsl]
 refine aL (λi:Nat=>ah 29 [(0,.p (bp xs)),(1,.p (bp xs)),(10,.p (.int .i64 xs.length)),(11,.p (.int .i64 i))]) (λ_=>[]) (λi=>i<=xs.length) (λi=>xs.length-i) 0 (by simp) ?_ ?_
 ·exact bF rfl (by simp[below,bp])
 intro i hi
 simp-implicitDefEqProofs[hsl]
 refine bc (λh1=>?_) (λh1=>?_)
 ·simp at h1
  have hg:xs[i]?=some xs[i]:=UC h1
  generalize xs[i]=x at hg
  simp-implicitDefEqProofs[hg]
  refine⟨i+1,by omega,by omega,bF rfl ?_⟩
  simp[below,bp,w1 (i:=i) (by omega)]
 ·simp at h1
  simp-implicitDefEqProofs[]
theorem IT(xs ys:List Int)(hx:xs.length<=1048576)(h:ys<+:xs):VF Tryz.prog G jE [.p (bp xs),.p (bp ys)] (.p (.bool true)):=by
 have hsl:∀l,bp l= .lst 1 (l.map λw=>[.int .i64 w]):=λ_=>rfl
 have hl:=h.length_le
 have ht:xs.take ys.length=ys:=(List.prefix_iff_eq_take.1 h).symm
 have htm:List.take ys.length (xs.map λw=>[PV.int .i64 w])=ys.map λw=>[PV.int .i64 w]:=by rw[←List.map_take,ht]
 refine AC.go vZ ?_
 simp-implicitDefEqProofs[nG,hsl,hl,htm]
 rw[←hsl]
 refine(PW G ys (by omega)).use ?_
 simp-implicitDefEqProofs[]
variable (hK:G gh=some eZ) (hS:G cX=some [.tbl opK opV])
include hK hS
theorem Cu{l:List Fd}{us:List Int}{fuel:Nat}{s':S5}{r:O5 Int}(hz:aI l<=1073741824)(hl:us.length<=1000000000000)(ho:gk l us=true)(hfu:fuel<=4000)(hE:Ev l (.cal (l.length-1) us (s0 fuel) s' r)):Runs G l us fuel s' r:=by
 obtain⟨hc,h0,⟨f,hf1,hf2⟩,hv⟩:=ut ho
 exact⟨hE,UR (Nx hE) hfu,(da hE ⟨ng fuel,hv⟩).1.len,MQ hE,Bq G hK hS hz hl ho hc h0 hv hfu hE,AT G hz hl ho hc hf1 hf2 hv hfu hE⟩
theorem TN{l:List Fd}{us:List Int}{fuel:Nat}(hz:aI l<=1073741824)(hl:us.length<=1000000000000)(ho:gk l us=true)(hfu:fuel<=4000):∃s' r,Runs G l us fuel s' r:=by
 obtain⟨hc,h0,⟨f,hf1,hf2⟩,hv⟩:=ut ho
 obtain⟨s',r,hE,_⟩:=Tw hc hf1 hf2 hv fuel
 exact⟨s',r,Cu G hK hS hz hl ho hfu hE⟩
theorem RF{l:List Fd}{us:List Int}{s':S5}{r:O5 Int}(hz:aI l<=1073741824)(hl:us.length<=1000000000000)(ho:gk l us=true)(R:Runs G l us 4000 s' r):
 VF Tryz.prog G fG [.agg [.p (fdL l)],.p (bp us)] (.p (.int .i64 (if bq r=3 then-1 else((4000-s'.left:Nat):Int))))/\VF Tryz.prog G dU [.agg [.p (fdL l)],.p (bp us)] (.p (.int .i64 (if bq r=3 then-1 else((4000-s'.left:Nat):Int)))):=by
 obtain⟨hc,h0,⟨f,hf1,hf2⟩,hv⟩:=ut ho
 exact⟨Ih G hK hS hz hl ho hc h0 hv R.ev,Ij G hz hl ho hc hf1 hf2 hv R.ev R.left⟩
omit hK hS in
theorem endI_three{r:O5 Int}:bq r=3↔r= .st 3:=by
 cases r with
 |ok n=>simp[bq]
 |st c=>simp[bq]
end
section
variable (G:al)
theorem Mp{ρ:List Nat}:∀{args:List AV},af 0 args->TW ρ args args
 |[],_=>trivial
 |v::r,h=>⟨.inr ⟨(bi (VA _) [v] ⟨h.1,trivial⟩).1,by have:=dY ρ [v] ⟨h.1,trivial⟩;simpa[bg] using this⟩,Mp h.2⟩
theorem Md{f:FuncId}{args:List AV}{b:List Int}{p:Nat}{Q:AV->Nat->Prop}(H:AC Tryz.prog G f (.ptr 0 2 0 0::args) [rdO b p] λx h=>∃v q,x= .ret v/\h=[rdO b q]/\Q v q)(hq:∀v q,Q v q->below 0 v){h:List AO}{k:Nat}(hk:h[k]?=some (rdO b p))(ha:af 0 args):
 AC Tryz.prog G f (.ptr k 2 0 0::args) h λx h'=>∃v q,x= .ret v/\h'=h.set k (rdO b q)/\Q v q:=by
 refine(H.frame (h:=h) (args:= .ptr k 2 0 0::args) [k] (by simp) ⟨.inr ⟨by simp[below],by simp[ren]⟩,Mp ha⟩ (bS hk (aX _ _ _) bR)).mono ?_
 rintro x h' ⟨x0,h0,⟨v,q,rfl,rfl,r⟩,hl,rfl,rfl⟩
 refine⟨v,q,?_,?_,r⟩
 ·simp only[Be]
  have:=dY ([k]++List.range' h.length ([rdO b q].length-[rdO b p].length)) [v] ⟨hq v q r,trivial⟩
  simpa[bg] using this
 ·have hp2:∀σ,ie σ (rdO b q)=rdO b q:=λσ=>by simp[rdO,ie,bg,ren]
  simp[mrg,hp2]
theorem Mw{l:List Int}(h:Byt l)(n:Nat):Byt (l.take n):=λx hx=>h x (Vr hx)
theorem EM{f:FuncId}{args:List AV}{R:ARes->Prop}(H:AC Tryz.prog G f args [] λx _=>R x)(hR:∀x,R x->∃v,x= .ret v/\below 0 v)(ha:af 0 args)(h:List AO):AC Tryz.prog G f args h λx h'=>R x/\h'=h:=by
 have H2:AC Tryz.prog G f args [] λx h'=>R x/\h'=[]:=by
  refine H.wk (λt v h' r=>by obtain⟨_,e,_⟩:=hR _ r;cases e) λv h' r=>?_
  obtain⟨v',e,hv⟩:=hR _ r
  cases e
  exact⟨v,[],JJ rfl ⟨.inr ⟨hv,rfl⟩,trivial⟩,r,rfl⟩
 refine(H2.pre h ha (λo ho=>by cases ho) (λx h' r=>by rw[r.2])).mono ?_
 rintro x h' ⟨h1,⟨r,rfl⟩,rfl⟩
 exact⟨r,rfl⟩
variable (hK:G gh=some eZ) (hS:G cX=some [.tbl opK opV])
include hK hS
end
section
theorem EJ:AK.whole pj=FK.ak nV:=rfl
variable (G:al)
def CZ(l:List Fd):Nat:=match l[l.length-1]? with|some f=>f.params.length|none=>0
theorem NB(l:List Fd):CZ l<=aI l:=by
 unfold CZ
 split
 ·rename_i f hf
  have:=cS (UF hf)
  rw[Fd.sz] at this
  omega
 ·exact VA _
structure Ys5 where (us:List Int) (q i:Nat)
theorem PT{b:List Int}(hb:Byt b)(hl:b.length<=2000){p:Nat}(hp:p<=3000000000)(l:List Fd)(hz:aI l<=900000000):AC Tryz.prog G og [.ptr 0 2 0 0,.agg [.p (fdL l)]] [rdO b p] λx h=>∃v q,x= .ret v/\h=[rdO b q]/\(∃us:List Int,v= .p (bp us)/\us.length<=900000001)/\p<=q/\q<=p+1800000003:=by
 refine lJ G (AC.goK Dt EJ ?_)
 have hll:=gQ l
 have hpl:=NB l
 have hfl:fdL l= .lst 3 (l.map Fd.cs):=rfl
 have hn0:gq []= .row 1 []:=rfl
 simp-implicitDefEqProofs[nV,pj]
 refine nq (ah 54 [(0,.ptr 0 2 0 0),(5,.sl 1 1 0 0),(6,.p (.int .i64 (CZ l)))]) [rdO b p,gq []] ?_ ?_
 ·by_cases h0:l=[]
  ·subst h0
   simp-implicitDefEqProofs[hfl]
   refine cY [0,2] (by simp) (by decide) (by decide) (bS rfl (aX _ _ _) (bS rfl (by simp[gq,okO]) bR)) ?_
   simp[below,ren,CZ]
  ·have hlen:0<l.length:=List.length_pos_iff.2 h0
   have hg:l[l.length-1]?=some l[l.length-1]:=UC (by omega)
   have hpe:CZ l=l[l.length-1].params.length:=by rw[CZ,hg]
   rw[hpe]
   generalize l[l.length-1]=f at hg
   have hw:IntKind.i64.wrap ((l.length:Int)-1)=((l.length-1:Nat):Int):=by rw[ab (by omega) (by omega)];omega
   have hfc:f.cs=[.str f.name,aw f.params,smL f.body]:=rfl
   have hsl:∀l,aw l= .lst 1 (l.map λw=>[.str w]):=λ_=>rfl
   have hc:(0:Int)<l.length:=by omega
   simp-implicitDefEqProofs[hfl,hlen,hw,hg,hfc,hsl]
   refine cY [0,2] (by simp) (by decide) (by decide) (bS rfl (aX _ _ _) (bS rfl (by simp[gq,okO]) bR)) ?_
   simp[below,ren]
 refine uS (λs:Ys5=>ah 54 [(0,.ptr 0 2 0 0),(5,.sl 1 1 0 s.us.length)]) (λs=>[rdO b s.q,gq s.us]) (λs=>s.us.length<=900000000/\p<=s.q/\s.q<=p+1800000000) ?_ ?_
 ·simp-implicitDefEqProofs[]
  refine aL (λs:Ys5=>ah 54 [(0,.ptr 0 2 0 0),(5,.sl 1 1 0 s.us.length),(6,.p (.int .i64 (CZ l))),(7,.p (.int .i64 s.i))]) (λs=>[rdO b s.q,gq s.us]) (λs=>s.i<=CZ l/\s.us.length=s.i/\p<=s.q/\s.q<=p+2*s.i) (λs=>CZ l-s.i) ⟨[],p,0⟩ (by simp) ?_ ?_
  ·refine cY [0,1] (by simp) (by decide) (by decide) (bS rfl (aX _ _ _) (bS rfl (by simp[gq,okO]) bR)) ?_
   simp[below,ren]
  rintro⟨us,q,i⟩ ⟨h1,h2,h3,h4⟩
  simp only at h1 h2 h3 h4
  have hwi:=w1 (i:=i) (by omega)
  have hbo:∀us,gq us= .row 1 (us.map λn=>[.p (.int .i64 n)]):=λ_=>rfl
  have ht:∀us:List Int,List.take us.length (us.map λn=>[AV.p (.int .i64 n)])=us.map λn=>[.p (.int .i64 n)]:=λus=>UG (by simp)
  simp-implicitDefEqProofs[]
  refine bc (λhc=>?_) (λhc=>?_)
  ·simp at hc
   simp-implicitDefEqProofs[]
   refine(aP G b hb hl q (by omega) 256 _).mono ?_
   rintro r h ⟨k,rfl,rfl,_⟩
   simp-implicitDefEqProofs[aa]
   refine(jK G hb hl (p:=q+1) (by omega) [0,1,2,3,7,16,255,(k:Int)] (k:=2) (by simp) (by simp) (by omega) rfl (by simp[gq])).mono ?_
   rintro r h ⟨n,_,rfl,rfl⟩
   simp-implicitDefEqProofs[aa,hbo,ht]
   refine⟨by omega,?_⟩
   simp-implicitDefEqProofs[hwi]
   refine⟨⟨us++[n],q+2,i+1⟩,⟨by simp only;omega,by simp only[UN,List.length_singleton];omega,by simp only;omega,by simp only;omega⟩,by simp only;omega,?_⟩
   refine cY [0,4] (by simp) (by decide) (by decide) (bS rfl (aX _ _ _) (bf (by simp) (Bw (us++[n])) bR)) ?_
   simp[below,ren]
  ·simp at hc
   refine⟨⟨us,q,0⟩,⟨by simp only;omega,by simp only;omega,by simp only;omega⟩,?_⟩
   refine cY [0,1] (by simp) (by decide) (by decide) (bS rfl (aX _ _ _) (bf rfl (Bw us) bR)) ?_
   simp[below,ren]
 rintro⟨us,q,i⟩ ⟨h1,h2,h3⟩
 simp only at h1 h2 h3
 have hbo:∀us,gq us= .row 1 (us.map λn=>[.p (.int .i64 n)]):=λ_=>rfl
 simp-implicitDefEqProofs[]
 refine(aP G b hb hl q (by omega) 40 _).mono ?_
 rintro r h ⟨k,rfl,rfl,_⟩
 simp-implicitDefEqProofs[aa]
 have hv:∀(h:List AO) (j:Nat) (us:List Int) (n:Nat),n=us.length->h[j]?=some (gq us)->View h (.sl j 1 0 n) (bp us):=λh j us n e q=>by subst e;exact iF q
 have ht:∀us:List Int,List.take us.length (us.map λn=>[AV.p (.int .i64 n)])=us.map λn=>[.p (.int .i64 n)]:=λus=>UG (by simp)
 by_cases k0:k=0
 ·simp-implicitDefEqProofs[k0,hbo,ht]
  refine⟨by omega,?_⟩
  exact⟨_,_,q+1,.p (bp (us++[0])),rfl,rfl,.one (hv _ _ _ _ (by simp) (by simp[gq])) .nil,⟨_,rfl,by simp;omega⟩,by omega,by omega⟩
 have k1':¬(k:Int)=0:=by omega
 by_cases k1:(k:Int)=1
 ·simp-implicitDefEqProofs[k0,k1]
  refine bc (λhc=>?_) (λhc=>?_)
  ·cases us with
   |nil=>simp at hc
   |cons u us=>
    simp-implicitDefEqProofs[]
    refine(jK G hb hl (p:=q+1) (by omega) [-1,256] (k:=2) (by simp) (by simp) (by omega) rfl (by simp[gq])).mono ?_
    rintro r h ⟨n,_,rfl,rfl⟩
    simp-implicitDefEqProofs[aa,hbo]
    exact⟨_,_,q+2,.p (bp (n::us)),rfl,rfl,.one (hv _ _ _ _ (by simp) (by simp[gq])) .nil,⟨_,rfl,by simpa using Nat.le_succ_of_le h1⟩,by omega,by omega⟩
  ·simp-implicitDefEqProofs[]
   exact⟨_,_,q+1,.p (bp us),rfl,rfl,.one (iF rfl) .nil,⟨_,rfl,by omega⟩,by omega,by omega⟩
 ·simp-implicitDefEqProofs[k0,k1]
  exact⟨_,_,q+1,.p (bp us),rfl,rfl,.one (iF rfl) .nil,⟨_,rfl,by omega⟩,by omega,by omega⟩
def DrR(x:ARes):Prop:=∃(l:List Fd) (us:List Int) (fuel:Int),x= .ret (.tup [.agg [.p (fdL l)],.p (bp us),.p (.int .i64 fuel)])/\aI l<=900000000/\us.length<=900000001
theorem LE:∀x,DrR x->∃v,x= .ret v/\below 0 v:=λx ⟨l,us,fuel,e,_⟩=>⟨_,e,by simp[below]⟩
theorem uF(code:List Int)(hb:Byt code):AC Tryz.prog G ec [.p (tz code)] [] λx _=>DrR x:=by
 refine AC.go nO ?_
 simp-implicitDefEqProofs[iA]
 refine(AC.lift (Pp G code) (by simp) rfl rfl).mono ?_
 rintro r h ⟨rfl,rfl⟩
 have hr:∀n,cr n (rdO (code.take 2000) 0)=rdO (code.take 2000) 0:=λn=>by simp[rdO,cr,dE,bZ]
 have hbt:=Mw hb 2000
 have hbl:(code.take 2000).length<=2000:=by rw[Vf];omega
 generalize code.take 2000=b at hr hbt hbl
 simp-implicitDefEqProofs[aa,bZ,hr]
 refine(Md G (Q:=λv q2=>(∃l:List Fd,v= .agg [.p (fdL l)]/\aI l<=200000000)/\q2<=200000000) ((Fp G hbt hbl (p:=0) (by omega)).mono λx h ⟨l,q,e1,e2,_,e4,_,e6⟩=>⟨_,q,e1,e2,⟨l,rfl,e4⟩,by omega⟩) (λv q ⟨⟨l,e,_⟩,_⟩=>by rw[e];simp[below]) (h:=[.row 1 [[.nils]],rdO b 0]) (k:=1) rfl (by simp)).mono ?_
 rintro r h ⟨v,q,rfl,rfl,⟨l,rfl,hz⟩,hq⟩
 simp-implicitDefEqProofs[aa]
 have pick:∀(q:Nat) (h:List AO) (n:Int),q<=3000000000->h[1]?=some (rdO b q)->AC Tryz.prog G aT [.ptr 1 2 0 0,.p (.int .i64 n)] h λx h'=>∃v q2,x= .ret v/\h'=h.set 1 (rdO b q2)/\∃k:Nat,v= .p (.int .i64 k)/\q2=q+1:=λq h n hq h1=>
  Md G (Q:=λv q2=>∃k:Nat,v= .p (.int .i64 k)/\q2=q+1) ((Mh G b hbt hbl q (by omega) n).mono λx h ⟨k,e1,e2,_⟩=>⟨_,_,e1,e2,k,rfl,rfl⟩) (λv q ⟨k,e,_⟩=>by rw[e];simp[below]) h1 (by simp[below])
 have fin:∀(l:List Fd) (q:Nat),aI l<=900000000->q<=3000000000->∀T,T=AO.row 1 [[.nils]]->True:=λ_ _ _ _ _ _=>trivial
 refine(pick q _ 12 (by omega) rfl).mono ?_
 rintro r h ⟨v,q2,rfl,rfl,k,rfl,rfl⟩
 simp-implicitDefEqProofs[aa]
 have inn:=λ(l:List Fd) (q:Nat) (hz:aI l<=900000000) (hq:q<=3000000000) (h:List AO) (h1:h[1]?=some (rdO b q))=>Md G (PT G hbt hbl hq l hz) (λv q ⟨⟨us,e,_⟩,_⟩=>by rw[e];simp[below]) h1 (by simp[below])
 have num:=λ(q:Nat) (hq:q<=5000000000) (h:List AO) (h1:h[1]?=some (rdO b q))=>Md G (args:=[.p (bp [400,400,1000,20,5,1,0,4000,-1,4001])]) (Q:=λv q2=>∃n:Int,v= .p (.int .i64 n)/\q2=q+1) ((Cz G hbt hbl (p:=q) (by omega) _ (by simp) (by simp) []).mono λx h ⟨n,_,e1,e2⟩=>⟨_,_,e1,e2,n,rfl,rfl⟩) (λv q ⟨k,e,_⟩=>by rw[e];simp[below]) h1 (by simp[below])
 refine bc (λhc=>?_) (λhc=>?_)
 ·simp-implicitDefEqProofs[]
  refine(Md G (Kh G hbt hbl (p:=q+1) (by omega)) (λv q ⟨⟨l,e,_⟩,_⟩=>by rw[e];simp[below]) (k:=1) rfl trivial).mono ?_
  rintro r h ⟨v,q2,rfl,rfl,⟨l2,rfl,hz2⟩,hq1,hq2⟩
  simp-implicitDefEqProofs[aa]
  refine(inn l2 q2 hz2 (by omega) _ rfl).mono ?_
  rintro r h ⟨v,q3,rfl,rfl,⟨us,rfl,hu⟩,hq3,hq4⟩
  simp-implicitDefEqProofs[aa]
  refine(num q3 (by omega) _ rfl).mono ?_
  rintro r h ⟨v,q4,rfl,rfl,n,rfl,rfl⟩
  simp-implicitDefEqProofs[aa]
  exact⟨l2,us,n,rfl,hz2,hu⟩
 ·simp-implicitDefEqProofs[]
  refine(inn l (q+1) (by omega) (by omega) _ rfl).mono ?_
  rintro r h ⟨v,q3,rfl,rfl,⟨us,rfl,hu⟩,hq3,hq4⟩
  simp-implicitDefEqProofs[aa]
  refine(num q3 (by omega) _ rfl).mono ?_
  rintro r h ⟨v,q4,rfl,rfl,n,rfl,rfl⟩
  simp-implicitDefEqProofs[aa]
  exact⟨l,us,n,rfl,by omega,hu⟩
def DrU(x:ARes):Prop:=∃(l:List Fd) (us:List Int),x= .ret (.tup [.agg [.p (fdL l)],.p (bp us)])/\aI l<=900000000/\us.length<=900000001
theorem KS:∀x,DrU x->∃v,x= .ret v/\below 0 v:=λx ⟨l,us,e,_⟩=>⟨_,e,by simp[below]⟩
theorem Cn(code:List Int)(hb:Byt code):AC Tryz.prog G gH [.p (tz code)] [] λx _=>DrU x:=by
 refine AC.go tJ ?_
 simp-implicitDefEqProofs[lD]
 refine(EM G (uF G code hb) LE (by simp) _).mono ?_
 rintro r h ⟨⟨l,us,fuel,rfl,hz,hu⟩,rfl⟩
 simp-implicitDefEqProofs[aa]
 exact⟨l,us,rfl,hz,hu⟩
end
section
variable (G:al)
variable (hK:G gh=some eZ) (hS:G cX=some [.tbl opK opV])
include hK hS
theorem FG(code:List Int)(hb:Byt code)(hl:code.length<=9223372036854775807):VF Tryz.prog G ry [.p (tz code)] (.p (.bool true)):=by
 refine AC.go AF ?_
 have hbl:tz code= .lst 1 (code.map λn=>[.int .u8 n]):=rfl
 simp-implicitDefEqProofs[rh,hbl]
 rw[←hbl]
 by_cases hc:(1048576:Int)<code.length
 ·simp-implicitDefEqProofs[hc]
 simp-implicitDefEqProofs[hc]
 refine(EM G (Cn G code hb) KS (by simp) _).mono ?_
 rintro r h ⟨⟨l,us,rfl,hz,hu⟩,rfl⟩
 simp-implicitDefEqProofs[aa]
 cases ho:gk l us with
 |false=>
  have hi:=IH G hK hS (l:=l) (us:=us) (by omega) (by omega) ho
  have hs:=IZ G (l:=l) (us:=us) (by omega) (by omega) ho
  refine hi.use ?_
  simp-implicitDefEqProofs[]
  refine hs.use ?_
  simp-implicitDefEqProofs[]
  refine hs.use ?_
  simp-implicitDefEqProofs[]
 |true=>
  obtain⟨s',r,R⟩:=TN G hK hS (l:=l) (us:=us) (fuel:=4000) (by omega) (by omega) ho (UM _)
  obtain⟨hi,hs⟩:=RF G hK hS (by omega) (by omega) ho R
  by_cases h3:bq r=3
  ·rw[if_pos h3] at hi hs
   refine hi.use ?_
   simp-implicitDefEqProofs[]
   refine hs.use ?_
   simp-implicitDefEqProofs[]
   refine hs.use ?_
   simp-implicitDefEqProofs[]
  rw[if_neg h3] at hi hs
  have hle:=R.left
  have hn3:r≠ .st 3:=λe=>h3 (endI_three.2 e)
  have hR2:=Cu G hK hS (by omega) (by omega) ho (show 4000-s'.left<=4000 by omega) (Fo R.ev (F:=4000-s'.left) (by omega) hn3 (by omega))
  have hi2:=hR2.impl
  have hnn:¬(((4000-s'.left:Nat):Int)<0):=by omega
  refine hi.use ?_
  simp-implicitDefEqProofs[]
  refine hs.use ?_
  simp-implicitDefEqProofs[hnn]
  refine hi2.use ?_
  by_cases hn0:4000-s'.left=0
  ·have hn0':((4000-s'.left:Nat):Int)=0:=by omega
   simp-implicitDefEqProofs[sG,h3,hn0]
  have hn0':¬((4000-s'.left:Nat):Int)=0:=by omega
  obtain⟨s1,hE3,hp⟩:=IP R.ev (F:=4000-s'.left-1) (by omega) (.inr (by omega))
  have hR3:=Cu G hK hS (by omega) (by omega) ho (by omega) hE3
  have hi3:=hR3.impl
  have hw:IntKind.i64.wrap (((4000-s'.left:Nat):Int)-1)=((4000-s'.left-1:Nat):Int):=by rw[ab (by omega) (by omega)];omega
  have hsd:(s'.dn (4000-(4000-s'.left))).said=s'.said:=rfl
  have he3:bq (O5.st 3:O5 Int)=3:=rfl
  have hsl:=R.said
  simp-implicitDefEqProofs[sG,h3,hn0,hw,hsd]
  refine hi3.use ?_
  simp-implicitDefEqProofs[sG,he3]
  refine(IT G s'.said s1.said (by omega) hp).use ?_
  simp-implicitDefEqProofs[]
end
end Go.Proofs.YtokiapglmedipaaGreatDoor
namespace Go.Proofs.YtokiapglmedipaaGreatDoor
open Go Go.Aw Go.ChangeShapes Go.WideShapes Go.ChangeAt Go.RowKit
set_option maxRecDepth 100000
abbrev Ph:TypeId:=24
abbrev Sx:TypeId:=22
abbrev TX:TypeId:=122
abbrev Pu:TypeId:=55
abbrev Rw:TypeId:=9
abbrev MV:TypeId:=120
abbrev OY:TypeId:=206
abbrev MG:TypeId:=204
abbrev Pn:TypeId:=245
abbrev Ov:TypeId:=3
abbrev PH:TypeId:=4
abbrev Gi:TypeId:=160
abbrev JG:TypeId:=240
abbrev Nw:TypeId:=241
abbrev Hn:TypeId:=45
abbrev Cv:TypeId:=5
theorem Sz:Kids Tryz.prog (· <Tryz.prog.types.size):=kids_rows (by kernel_rfl) (by kernel_rfl)
theorem Re:∀t e,t<Tryz.prog.types.size->Tryz.prog.underlying t=some (.slice e)->0<Tryz.prog.cellsOf e:=slices_full_of Tryz.prog (by kernel_rfl)
def JH:List TypeId:=[Ph,Sx,TX,Pu,Rw,MV,OY,MG,Pn,Ov,PH,Gi,JG]
theorem Mq:Plain Tryz.prog JH=true:=by kernel_rfl
theorem Uf:ownKnob Tryz.prog.godebug=none:=by kernel_rfl
theorem Ax{H:Type}:∀l:List (DataW H),Rows.uptoBulkAll l=(l.map Rows.uptoBulk).sum
 |[]=>by simp[Rows.uptoBulkAll]
 |d::r=>by simp[Rows.uptoBulkAll,Ax r]
theorem Nf{H:Type}:BulkOk (Rows.uptoBulk (H:=H)) where
 lit:=λl=>by cases l<;>simp[Rows.uptoBulk]
 str:=λs=>by simp[Rows.uptoBulk]
 nil:=by simp[Rows.uptoBulk]
 slice:=λes sp=>by simp only[Rows.uptoBulk,Ax];omega
 agg:=λps=>by simp only[Rows.uptoBulk,Ax];omega
theorem LF{t e:TypeId}{vs:List PV}(h:Conf Tryz.prog t vs)(hu:Tryz.prog.underlying t=some (.slice e)):∃es,vs=[.lst (Tryz.prog.cellsOf e) es]/\es.length<=9223372036854775807/\∀x∈es,Conf Tryz.prog e x:=by
 cases h with
 |sl es e' hl hs=>rw[hu] at e';cases e';exact⟨es,rfl,hl,hs⟩
 |bool b e=>rw[e] at hu;cases hu
 |int n e=>rw[e] at hu;cases hu
 |str s e=>rw[e] at hu;cases hu
 |st vs e=>rw[e] at hu;cases hu
 |arr vs e=>rw[e] at hu;cases hu
def G0:al:=λg=>if g=gh then some eZ else if g=cX then some [.tbl opK opV] else none
theorem PR:∀k,iC Tryz.prog (k+10) Gi (Rows.laid_loop_example_wholeway_impl_keys (H:=Unit))=eZ:=λk=>by kernel_rfl
theorem TV{W:World}{laid:List (String × DataW Unit)}(hL:laidMet Tryz.prog laid W)(h1:("loop.example/wholeway/impl.keys",Rows.laid_loop_example_wholeway_impl_keys)∈laid)(h2:("loop.example/wholeway/impl.opSign",Rows.laid_loop_example_wholeway_impl_opSign)∈laid):
 ∀g cs,G0 g=some cs->g<W.heap.size/\∀(j:Nat) (c:PV),cs[j]?=some c->∃v,W.cell? ⟨g,j,none⟩=some v/\PRel W (· <W.heap.size) c v:=by
 intro g cs h
 unfold G0 at h
 split at h
 ·rename_i e;subst e;cases h
  exact Jp Mq hL (n:= "loop.example/wholeway/impl.keys") (d:=Rows.laid_loop_example_wholeway_impl_keys) (t:=Gi) h1 (by kernel_rfl) (by kernel_rfl) (by decide) PR
 ·split at h
  ·rename_i e;subst e;cases h
   exact Kr Mq hL (n:= "loop.example/wholeway/impl.opSign") h2 (t:=Nw) (k:=Ov) (e:=JG) (by kernel_rfl) (by kernel_rfl) (by kernel_rfl) (.inl ⟨.i64,by kernel_rfl⟩) (by decide) (by kernel_rfl) (by kernel_rfl) (λm=>by kernel_rfl)
  ·cases h
def Ht:List TypeId:=Hn::Cv::JH
theorem Qb:Plain Tryz.prog Ht=true:=by kernel_rfl
theorem FI{vs:List PV}(h:Conf Tryz.prog Hn vs):∃l:List Int,vs=[tz l]/\l.length<=9223372036854775807/\Byt l:=by
 obtain⟨es,rfl,hl,h4⟩:=LF h (e:=Cv) (by kernel_rfl)
 have hk:∀x∈es,∃n:Int,x=[PV.int .u8 n]/\(Lit.int .u8 n).wf=true:=λx hx=>Kt (h4 x hx) (by kernel_rfl)
 obtain⟨l,rfl⟩:=HD (λn:Int=>[PV.int .u8 n]) (λx hx=>by obtain⟨n,e,_⟩:=hk x hx;exact⟨n,e⟩)
 rw[show Tryz.prog.cellsOf Cv=1 by kernel_rfl]
 refine⟨l,rfl,by rwa[Vl] at hl,λn hn=>?_⟩
 obtain⟨m,e,hw⟩:=hk [PV.int .u8 n] (UX.2 ⟨n,hn,rfl⟩)
 cases e
 simp[Lit.wf,IntKind.min,IntKind.max,IntKind.bits,IntKind.signed] at hw
 omega
end Go.Proofs.YtokiapglmedipaaGreatDoor
