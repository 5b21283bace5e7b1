/-
  Contracts and lemmas that the card needs, part 9.
-/
import Derived.Test.YtokiapglmedipaaGreatDoorMf8
namespace Go.Proofs.YtokiapglmedipaaGreatDoor
open Go Go.Aw
set_option maxRecDepth 100000
set_option maxHeartbeats 4000000
section
variable (G:al)
theorem Sn{l:List Fd}(hc:aO l=0)(hz:aH l<=1073741824)(M fuel:Nat):∀k,PcC G l M k fuel:=by
 intro k
 induction k using Nat.strongRecOn with
 |_ k ih=>
  have hX:∀e,WfE l k e->PxC G l M k fuel e:=λe W=>Pz G (λe hop W ihk=>ND G hc hz ih e hop W ihk) e.sz e (Vi _) W
  have key:∀(N:Nat) (xs:List Sm),aD xs<N->(∀x∈xs,∃d,az d x=true)->aD xs<=1073741824->(∃d,CoS l k d xs)->PbC G l M k fuel xs:=by
   intro N
   induction N with
   |zero=>intro xs h;omega
   |succ N ihN=>
    rintro xs hN hf hzx ⟨d,hco⟩
    refine Ox G (by have:=cn xs;omega) λx hx=>?_
    have W:=Ls hf hzx hco hx
    have hxz:=dS hx
    have hse:=x.sz_eq
    have hB:=ihN x.body (by omega) W.body.1 W.body.2.1 W.body.2.2
    by_cases h6:x.op=6
    ·exact Ph G W hX hB h6
    ·exact PJ G W hX hB (ihN x.els (by omega) W.els.1 W.els.2.1 W.els.2.2) h6
  refine PX G hc hz λf hf=>?_
  have hfz:=cZ (Vb hf)
  have hfs:f.sz=1+f.name.length+(f.params.length+(f.params.map List.length).sum)+aD f.body:=rfl
  exact key (aD f.body+1) f.body (Nat.lt_succ_self _) (λy hy=>⟨4,(iP hc).2 f (Vb hf) y hy⟩) (by omega) ⟨1,At hc hf⟩
def oY(l:List Fd)(us:List Int)(fuel:Nat):List AO:=[.row 1 [[.p (fdL l)]],.row 1 [[.p (aJ us)]],.row 4 [[.nils,.p (.int .i64 0),.p (.int .i64 0),.nils]],jk l fuel .nils (s0 fuel),.row 1 [[.ptr 3 20 0 0]],.row 4 [[.nils,.p (.int .i64 0),.p (.int .i64 0),.nils]]]
theorem QA{l:List Fd}{us:List Int}{fuel:Nat}{s':S5}{r:O5 Int}(hc:aO l=0)(hz:aH l<=1073741824)(hl:0<l.length)(hu:∀n∈us,V5 n)(hfu:fuel<=4000)(hE:Ev l (.cal (l.length-1) us (s0 fuel) s' r)):
 AC Tryz.prog G dx [.ptr 4 1 0 0,.ptr 0 1 0 0,.ptr 1 1 0 0,.ptr 5 4 0 0] (oY l us fuel++[.row 1 [[.p (.int .i64 0)]]]) λx h'=>∃sv sid h2,MI 3 l fuel sv sid s' h2/\Fr [3] (oY l us fuel++[.row 1 [[.p (.int .i64 0)]]]) h2/\(sid=3\/7<=sid)/\
  (match r with| .ok n=>x= .ret (.tup [])/\h'=h2.set 5 (.row 4 [[.nils,.p (.int .i64 0),.p (.int .i64 n),.nils]])| .st c=>x= .pan bE (.int .i64 c)/\h'=h2):=by
 have hfl:fdL l= .lst 3 (l.map Fd.cs):=rfl
 have hll:l.length<=aH l:=gt l
 have hn1:IntKind.i64.wrap ((l.length:Int)-1)=((l.length-1:Nat):Int):=by rw[ab (by omega) (by omega)];omega
 have hM:MI 3 l fuel .nils 3 (s0 fuel) (oY l us fuel++[.row 1 [[.p (.int .i64 0)]]]):=⟨rfl,.nn _ (by simp[oY]),Vi _,hfu,by simp[s0]⟩
 refine AC.go ri ?_
 simp-implicitDefEqProofs[jZ,oY,hfl,hn1]
 rw[←hfl]
 refine(Sn G hc hz 3 fuel (l.length-1) us (s0 fuel) s' r hE hu (nO fuel) (by simp[M5,s0];omega) _ 3 .nils _ hM (.pp us)).mono ?_
 rintro z h2 ⟨rfl,sv,sid,P⟩
 have h5:h2[5]?=some (.row 4 [[.nils,.p (.int .i64 0),.p (.int .i64 0),.nils]]):=(P.fr.2 5 (by simp[oY]) (by simp)).trans rfl
 have hsid:sid=3\/7<=sid:=by have:=P.fs;simp[oY] at this;exact this
 have hF:Fr [3] (oY l us fuel++[.row 1 [[.p (.int .i64 0)]]]) h2:=P.fr.sub λi hi=>by simp at hi;exact .inl (by simp[hi])
 cases r with
 |ok n=>
  simp-implicitDefEqProofs[aa,dq,h5]
  exact⟨sv,sid,h2,P.run,hF,hsid,rfl⟩
 |st c=>
  simp-implicitDefEqProofs[dq]
  exact⟨sv,sid,h2,P.run,hF,hsid,rfl⟩
end
section
variable (G:al)
end
section
variable (G:al)
mutual
def Sm.mq:Sm->Nat
 | .mk _ _ a b e=>2+3*gy a+Nu b+Nu e
def Nu:List Sm->Nat
 |[]=>0
 |s::r=>s.mq+Nu r
end
def Fd.mq(f:Fd):Nat:=1+f.params.length+Nu f.body
end
section
abbrev Nz:Nat:=0
def NR:List PV:=[.int .i64 0,.int .i64 0,.int .i64 0,.int .i64 1,.int .i64 2,.int .i64 3,.int .i64 255,.int .i64 16,.int .i64 7]
variable (G:al)
theorem JX(L:List (List PV))(hl:∀x∈L,x.length=1)(hne:L≠[])(hb:L.length<=1048576):AC Tryz.prog G dN [.p (.lst 1 L)] [] λx h=>x= .ret (.sl 1 1 0 L.length)/\h=[.dead,.row 1 (L.map (·.map .p))]:=by
 obtain⟨x,r,rfl⟩:=List.exists_cons_of_ne_nil hne
 refine AC.go sL ?_
 simp-implicitDefEqProofs[lD]
 simp at hb
 omega
end
section
variable (G:al)
def trO(x:List Int)(n:Nat):AO:=gw (x.take n)
theorem PF(x:List Int)(n m:Nat):cw m (trO x n)=trO x n:=by
 simp only[trO,cw,gw,List.map_map];rfl
theorem LY(x:List Int)(n:Nat)(hn:0<n)(hnx:n<=x.length)(hb:x.length<=1000)(h:List AO):AC Tryz.prog G dN [.p (.lst 1 (List.take n (x.map λv=>[.int .i64 v])))] h λy h'=>y= .ret (.sl (h.length+1) 1 0 n)/\h'=h++[.dead,trO x n]:=by
 have hl:(List.take n (x.map λv=>[PV.int .i64 v])).length=n:=by rw[VA,VH];omega
 have:=JX G (List.take n (x.map λv=>[.int .i64 v])) (λy hy=>by obtain⟨_,_,rfl⟩:=Vs.1 (VO hy);rfl) (by intro e;rw[e] at hl;simp at hl;omega) (by rw[hl];omega)
 rw[hl] at this
 have e:AO.row 1 ((List.take n (x.map λv=>[PV.int .i64 v])).map (·.map .p))=trO x n:=by
  rw[trO,gw,←List.map_take,List.map_map];rfl
 rw[e] at this
 refine(AC.lift this (by simp) rfl ?_).mono ?_
 ·simp[Hu,trO,gw,yv,Ay]
  intro y hy
  obtain⟨_,_,rfl⟩:=Vs.1 (VO hy)
  rfl
 ·rintro y h' ⟨rfl,rfl⟩
  refine⟨?_,?_⟩
  ·rfl
  ·simp only[Vz,List.map_nil,PF];rfl
variable (hT:G Nz=some NR)
include hT
omit hT
include hT
end
section
variable (G:al)
def rd(l:List Fd)(fuel:Nat)(s:S5):List PV:=[fdL l,.int .i64 fuel,.int .i64 ((fuel-s.left:Nat):Int),aJ s.said]++s.cells.map λn=> .int .i64 n
theorem zL{hF:List AO}{m:Nat}{L:List (Nat × AV)}:∀{l1:List (Nat × AV)},(∀x∈l1,Aw.look L x.1=x.2/\below m x.2)->FzA hF m L l1
 |[],_=>trivial
 |x::r,h=>⟨by obtain⟨q1,q2⟩:=h x (by simp);rw[q1];exact .keep q2 .nil,zL λy hy=>h y (by simp[hy])⟩
theorem Qi{l:List Fd}{fuel:Nat}{sv:AV}{sid:Nat}{s:S5}{h:List AO}{r2 r5:AO}{n:Nat}(H:MI 3 l fuel sv sid s h)(h2:h[2]?=some r2)(h4:h[4]?=some (.row 1 [[.ptr 3 20 0 0]]))(h5:h[5]?=some r5)(k2:okO h.length r2)(k5:okO h.length r5)(hs:sid=3\/7<=sid)
 {l1:List (Nat × AV)}(hl:∀x∈l1,below h.length x.2)(hl1:∀x∈l1,Aw.look l1 x.1=x.2):
 ∃h',(∀L,(∀x∈l1,Aw.look L x.1=x.2)->Wk 0 (ah n L) h (ah n l1) h')/\h'.length=h.length/\h'[2]?=some r2/\h'[4]?=some (.row 1 [[.eptr (rd l fuel s) 0]])/\h'[5]?=some r5:=by
 have hl3:=H.lt
 have hl5:=(UU.1 h5).1
 have hm:=H.men
 obtain⟨X,hX⟩:∃X:Nat->AO->AO,X=λi o=>if i=sid/\sid≠3 then o else .dead:=⟨_,rfl⟩
 obtain⟨Y,hY⟩:∃Y:Nat->AO->AO,Y=λi o=>if i=3 then .row 20 [(rd l fuel s).map .p] else if i=2\/i=4\/i=5 then o else .dead:=⟨_,rfl⟩
 have hF1:View (h.mapIdx X) sv (aJ s.said):=by
  have hsd:=H.said
  have hne:=H.neS
  generalize s.said=xs at hsd
  cases hsd with
  |nn _ _=>exact .nils _
  |ss _ _ q=>
   have hn3:sid≠3:=λe=>hne (by simp) e.symm
   exact iU (by rw[List.getElem?_mapIdx,q,hX];simp[hn3,bq,gw])
 have hcs:∀xs:List Int,Fzs (h.mapIdx X) h.length (xs.map λn=> .p (.int .i64 n)) (xs.map λn=> .p (.int .i64 n)):=λxs=>by
  induction xs with
  |nil=>exact .nil
  |cons x r ih=>exact .keep (by simp[below]) ih
 have eX:∀i o,X i o=if i=sid/\sid≠3 then o else .dead:=λ_ _=>by rw[hX]
 have eY:∀i o,Y i o=if i=3 then .row 20 [(rd l fuel s).map .p] else if i=2\/i=4\/i=5 then o else .dead:=λ_ _=>by rw[hY]
 have t1:Thn (h.mapIdx X) h.length h (h.mapIdx X) (h.mapIdx Y):=CG h X Y λi o hi=>by
  by_cases i3:i=3
  ·subst i3
   rw[hm] at hi
   cases hi
   refine .inr (.inr (.inr ⟨by rw[eX,if_neg (by omega)],20,_,(rd l fuel s).map .p,rfl,by rw[eY,if_pos rfl],?_⟩))
   simp only[rd,List.map_append,Vz,List.map_nil,List.map_map]
   exact .keep (by simp[below]) (.keep (by simp[below]) (.keep (by simp[below]) (.one hF1 (hcs s.cells))))
  by_cases i2:i=2\/i=4\/i=5
  ·refine .inl ⟨by rw[eX,if_neg (by omega)],by rw[eY,if_neg i3,if_pos i2],?_⟩
   rcases i2 with rfl|rfl|rfl
   ·rw[h2] at hi;cases hi;exact k2
   ·rw[h4] at hi;cases hi;simp[okO,below,ag];omega
   ·rw[h5] at hi;cases hi;exact k5
  by_cases is:i=sid/\sid≠3
  ·exact .inr (.inr (.inl ⟨by rw[eX,if_pos is],by rw[eY,if_neg i3,if_neg i2]⟩))
  ·exact .inr (.inl ⟨by rw[eX,if_neg is],by rw[eY,if_neg i3,if_neg i2]⟩)
 have w1:∀L,(∀x∈l1,Aw.look L x.1=x.2)->Wk 0 (ah n L) h (ah n l1) (h.mapIdx Y):=λL hL=>uG (VX _) t1 (zL λx hx=>⟨hL x hx,hl x hx⟩)
 have g:∀i o,h[i]?=some o->(h.mapIdx Y)[i]?=some (Y i o):=λi o q=>by rw[List.getElem?_mapIdx,q];rfl
 have hlen:(h.mapIdx Y).length=h.length:=List.length_mapIdx
 generalize h.mapIdx Y=h1 at w1 g hlen
 have g3:h1[3]?=some (.row 20 [(rd l fuel s).map .p]):=by rw[g 3 _ hm,eY,if_pos rfl]
 have g2:h1[2]?=some r2:=by rw[g 2 _ h2,eY,if_neg (by omega),if_pos (by omega)]
 have g4:h1[4]?=some (.row 1 [[.ptr 3 20 0 0]]):=by rw[g 4 _ h4,eY,if_neg (by omega),if_pos (by omega)]
 have g5:h1[5]?=some r5:=by rw[g 5 _ h5,eY,if_neg (by omega),if_pos (by omega)]
 obtain⟨X2,hX2⟩:∃X:Nat->AO->AO,X=λi o=>if i=3 then o else .dead:=⟨_,rfl⟩
 obtain⟨Y2,hY2⟩:∃Y:Nat->AO->AO,Y=λi o=>if i=4 then .row 1 [[.eptr (rd l fuel s) 0]] else if i=2\/i=5 then o else .dead:=⟨_,rfl⟩
 have eX2:∀i o,X2 i o=if i=3 then o else .dead:=λ_ _=>by rw[hX2]
 have eY2:∀i o,Y2 i o=if i=4 then .row 1 [[.eptr (rd l fuel s) 0]] else if i=2\/i=5 then o else .dead:=λ_ _=>by rw[hY2]
 have f3:(h1.mapIdx X2)[3]?=some (.row 20 [(rd l fuel s).map .p]):=by rw[List.getElem?_mapIdx,g3];simp[eX2]
 have t2:Thn (h1.mapIdx X2) h1.length h1 (h1.mapIdx X2) (h1.mapIdx Y2):=CG h1 X2 Y2 λi o hi=>by
  by_cases i4:i=4
  ·subst i4
   rw[g4] at hi
   cases hi
   exact .inr (.inr (.inr ⟨by rw[eX2,if_neg (by omega)],1,_,_,rfl,by rw[eY2,if_pos rfl],.ptr f3 rfl .nil⟩))
  by_cases i2:i=2\/i=5
  ·refine .inl ⟨by rw[eX2,if_neg (by omega)],by rw[eY2,if_neg i4,if_pos i2],?_⟩
   rw[hlen]
   rcases i2 with rfl|rfl
   ·rw[g2] at hi;cases hi;exact k2
   ·rw[g5] at hi;cases hi;exact k5
  by_cases i3:i=3
  ·exact .inr (.inr (.inl ⟨by rw[eX2,if_pos i3],by rw[eY2,if_neg i4,if_neg i2]⟩))
  ·exact .inr (.inl ⟨by rw[eX2,if_neg i3],by rw[eY2,if_neg i4,if_neg i2]⟩)
 have w2:Wk 0 (ah n l1) h1 (ah n l1) (h1.mapIdx Y2):=uG (VX _) t2 (zL λx hx=>⟨hl1 x hx,by rw[hlen];exact hl x hx⟩)
 refine⟨_,λL hL=>(w1 L hL).trans w2,by rw[List.length_mapIdx,hlen],?_,?_,?_⟩
 ·rw[List.getElem?_mapIdx,g2];simp[eY2]
 ·rw[List.getElem?_mapIdx,g4];simp[eY2]
 ·rw[List.getElem?_mapIdx,g5];simp[eY2]
theorem OI(l:List Fd)(us:List Int)(fuel:Nat):oY l us fuel=[.row 1 [[.p (fdL l)]],.row 1 [[.p (aJ us)]],.row 4 [[.nils,.p (.int .i64 0),.p (.int .i64 0),.nils]],.row 20 [[.p (fdL l),.p (.int .i64 fuel),.p (.int .i64 0),.nils,.p (.int .i64 0),.p (.int .i64 0),.p (.int .i64 0),.p (.int .i64 0),.p (.int .i64 0),.p (.int .i64 0),.p (.int .i64 0),.p (.int .i64 0),.p (.int .i64 0),.p (.int .i64 0),.p (.int .i64 0),.p (.int .i64 0),.p (.int .i64 0),.p (.int .i64 0),.p (.int .i64 0),.p (.int .i64 0)]],.row 1 [[.ptr 3 20 0 0]],.row 4 [[.nils,.p (.int .i64 0),.p (.int .i64 0),.nils]]]:=by
 simp[oY,jk,s0,List.replicate]
theorem tG:AK.whole gA=FK.ak hZ:=rfl
theorem th{l:List Fd}{us:List Int}{fuel:Nat}{s':S5}{r:O5 Int}(hc:aO l=0)(hz:aH l<=1073741824)(hl:0<l.length)(hu:∀n∈us,V5 n)(hfu:fuel<=4000)(hE:Ev l (.cal (l.length-1) us (s0 fuel) s' r)):
 VF Tryz.prog G dd [.agg [.p (fdL l)],.p (aJ us),.p (.int .i64 fuel)] (.tup [.agg ((lr s' r).map .p),.p (.int .i64 ((fuel-s'.left:Nat):Int))]):=by
 have key:AC Tryz.prog G dd [.agg [.p (fdL l)],.p (aJ us),.p (.int .i64 fuel)] [] λx h=>∃sv cid,x= .ret (.tup [.agg [sv,.p (.int .i64 (bj r)),.p (.int .i64 (DH r)),.sl cid 1 0 16],.p (.int .i64 ((fuel-s'.left:Nat):Int))])/\View h sv (aJ s'.said)/\h[cid]?=some (gw s'.cells):=by
  refine AC.goK ug tG ?_
  simp-implicitDefEqProofs[gA,hZ]
  rw[←OI]
  refine vD (λ_:List AO=>ah 33 [(6,.ptr 2 4 0 0),(7,.p (.int .i64 0)),(8,.ptr 4 1 0 0),(9,.ptr 5 4 0 0)]) (λh=>h)
   (λh=>s'.cells.length=16/\h[2]?=some (.row 4 [[.nils,.p (.int .i64 0),.p (.int .i64 0),.nils]])/\h[4]?=some (.row 1 [[.eptr (rd l fuel s') 0]])/\h[5]?=some (.row 4 [[.nils,.p (.int .i64 (bj r)),.p (.int .i64 (DH r)),.nils]])) ?_ ?_
  ·simp-implicitDefEqProofs[]
   refine(LS G dx [.ptr 4 1 0 0,.ptr 0 1 0 0,.ptr 1 1 0 0,.ptr 5 4 0 0] (oY l us fuel) (λx h'=>∃h2 sv sid,x= .ret (.p (.int .i64 (bj r)))/\MI 3 l fuel sv sid s' h'/\(sid=3\/7<=sid)/\h'[2]?=some (.row 4 [[.nils,.p (.int .i64 0),.p (.int .i64 0),.nils]])/\h'[4]?=some (.row 1 [[.ptr 3 20 0 0]])/\h'[5]?=some (.row 4 [[.nils,.p (.int .i64 0),.p (.int .i64 (DH r)),.nils]])/\h2=h') ?_).mono ?_
   ·refine(QA G hc hz hl hu hfu hE).mono ?_
    rintro x h' ⟨sv,sid,h2,q1,q2,q3,q4⟩
    have e6:h2[6]?=some (.row 1 [[.p (.int .i64 0)]]):=(q2.2 6 (by simp[oY]) (by simp)).trans rfl
    have e2:h2[2]?=some (.row 4 [[.nils,.p (.int .i64 0),.p (.int .i64 0),.nils]]):=(q2.2 2 (by simp[oY]) (by simp)).trans rfl
    have e4:h2[4]?=some (.row 1 [[.ptr 3 20 0 0]]):=(q2.2 4 (by simp[oY]) (by simp)).trans rfl
    have e5:h2[5]?=some (.row 4 [[.nils,.p (.int .i64 0),.p (.int .i64 0),.nils]]):=(q2.2 5 (by simp[oY]) (by simp)).trans rfl
    have hl6:=(UU.1 e6).1
    have hlen:(oY l us fuel).length=6:=by simp[oY]
    rw[hlen]
    cases r with
    |ok n=>
     obtain⟨rfl,rfl⟩:=q4
     refine⟨0,.inl ⟨rfl,rfl⟩,by rw[UW (by omega)];exact e6,_,sv,sid,rfl,q1.frame (by simp) (by rw[UW (by omega),UW (by omega)]) (by rw[UW (by omega),UW (by omega)]),q3,?_,?_,?_,rfl⟩
     ·rw[UW (by omega),UW (by omega)];exact e2
     ·rw[UW (by omega),UW (by omega)];exact e4
     ·rw[UW (by omega),Va (by omega)];rfl
    |st c=>
     obtain⟨rfl,rfl⟩:=q4
     refine⟨c,.inr rfl,e6,_,sv,sid,rfl,q1.frame (by simp) (by rw[UW (by omega)]) (by rw[UW (by omega)]),q3,?_,?_,?_,rfl⟩
     ·rw[UW (by omega)];exact e2
     ·rw[UW (by omega)];exact e4
     ·rw[UW (by omega)];exact e5
   ·rintro z h' ⟨h2,sv,sid,rfl,q1,q2,q3,q4,q5,rfl⟩
    simp-implicitDefEqProofs[aa,q5]
    have hl5:=(UU.1 q5).1
    have hH:=q1.frame (h':=h2.set 5 (.row 4 [[.nils,.p (.int .i64 (bj r)),.p (.int .i64 (DH r)),.nils]])) (by simp) (by rw[UW (by omega)]) (by rw[UW (by omega)])
    obtain⟨h3,w1,w2,w3,w4,w5⟩:=Qi (n:=33) (l1:=[(6,.ptr 2 4 0 0),(7,.p (.int .i64 0)),(8,.ptr 4 1 0 0),(9,.ptr 5 4 0 0)]) hH ((UW (by omega)).trans q3) ((UW (by omega)).trans q4) (Va hl5) (by simp[okO,below,ag]) (by simp[okO,below,ag]) q2
     (by simp[below];omega) (by simp)
    exact⟨h3,⟨q1.len,w3,w4,w5⟩,w1 _ (by simp)⟩
  ·rintro h ⟨qc,q2,q4,q5⟩
   have hch:(cb 1 (rd l fuel s') 4 16)=s'.cells.map λn=>[.int .i64 n]:=by
    unfold rd
    generalize s'.cells=cs at qc
    match cs,qc with
    |[c0,c1,c2,c3,c4,c5,c6,c7,c8,c9,c10,c11,c12,c13,c14,c15],_=>rfl
   have hml:(rd l fuel s').length=20:=by simp[rd,qc]
   have hm2:∀q,(rd l fuel s')[2]'q= .int .i64 ((fuel-s'.left:Nat):Int):=λ_=>rfl
   have hm3:∀q,(rd l fuel s')[3]'q=aJ s'.said:=λ_=>rfl
   have hcl:=LY G s'.cells 16 (by omega) (by omega) (by omega) h
   rw[trO,Vc (l:=s'.cells) (by omega)] at hcl
   have hl5:=(UU.1 q5).1
   have a5:∀os,(h++os)[5]?=_:=λos=>(UX hl5).trans q5
   have a4:∀os,(h++os)[4]?=_:=λos=>(UX (by omega)).trans q4
   have a2:∀os,(h++os)[2]?=_:=λos=>(UX (by omega)).trans q2
   simp-implicitDefEqProofs[q2,q4,q5, ↓hch,hml,hm2,hm3]
   refine hcl.mono ?_
   rintro z h' ⟨rfl,rfl⟩
   have s55:∀os z,((h++os).set 5 z)[5]?=some z:=λos z=>Va (by simp;omega)
   have s54:∀os z,((h++os).set 5 z)[4]?=_:=λos z=>(UW (by omega)).trans (a4 os)
   have s52:∀os z,((h++os).set 5 z)[2]?=_:=λos z=>(UW (by omega)).trans (a2 os)
   have s22:∀os z w,(((h++os).set 5 z).set 2 w)[2]?=some w:=λos z w=>Va (by simp;omega)
   have s24:∀os z w,(((h++os).set 5 z).set 2 w)[4]?=_:=λos z w=>(UW (by omega)).trans (s54 os z)
   simp-implicitDefEqProofs[aa, ↓a5, ↓a4, ↓a2, ↓s55, ↓s54, ↓s52, ↓s22, ↓s24,hm2,hm3,hml]
   refine⟨_,_,⟨rfl,rfl⟩,.p _,?_⟩
   rw[UW (by omega),UW (by omega),Vd (by omega)]
   simp
 refine key.freezeR (λt v h e=>by obtain⟨_,_,e,_⟩:=e;cases e) λv h e=>?_
 obtain⟨sv,cid,e,h1,h2⟩:=e
 cases e
 have v2:=iU (l:=s'.cells) h2
 have hlc:s'.cells.length=16:=(dc hE ⟨nO fuel,hu⟩).1.len
 rw[hlc] at v2
 exact .tup (.agg (.one h1 (.keep (by simp) (.keep (by simp) (.one v2 .nil)))) (.keep (by simp) .nil)) .nil
end
section
variable (G:al)
theorem Ej(n:Int):VF Tryz.prog G cC [.p (.int .i64 n)] (.p (.bool (!inR n 0 255))):=by
 refine AC.go vf ?_
 simp-implicitDefEqProofs[ng]
 refine(Eh G n).use ?_
 simp-implicitDefEqProofs[]
def vU(us:List Int):Option Nat:=us.findIdx? λn=> !inR n 0 255
theorem FJ(us:List Int)(hl:us.length<=1000000000000):VF Tryz.prog G dJ [.p (aJ us),.fn (.func cC) []] (.p (.int .i64 (ixI (vU us)))):=by
 have hnL:aJ us= .lst 1 (us.map λn=>[.int .i64 n]):=rfl
 refine AC.go nv ?_
 simp-implicitDefEqProofs[gT,hnL]
 refine aN (λi:Nat=>ah 19 [(8,.p (.int .i64 i)),(7,.p (.int .i64 us.length)),(0,.p (.lst 1 (us.map λn=>[.int .i64 n]))),(1,.fn (.func cC) [])]) (λ_=>[]) (λi=>i<=us.length/\∀n∈us.take i,inR n 0 255=true) (λi=>us.length-i) 0 (by simp) ?_ ?_
 ·exact bv rfl (by simp[below])
 intro i ⟨hi,hn⟩
 have hwi:=w1 (i:=i) (by omega)
 by_cases h1:i<us.length
 ·have hg:us[i]?=some us[i]:=UY h1
  simp-implicitDefEqProofs[h1,hg]
  refine(Ej G us[i]).use ?_
  cases hb:inR us[i] 0 255 with
  |false=>
   have hf:vU us=some i:=by
    rw[vU,Vq]
    exact⟨h1,by simp[hb],λj hj=>by have:=hn us[j] (We.2 ⟨j,by omega,rfl⟩);simp[this]⟩
   simp-implicitDefEqProofs[hf,ixI]
  |true=>
   simp-implicitDefEqProofs[hwi]
   refine⟨i+1,⟨by omega,λp hp=>?_⟩,by omega,bv rfl (by simp[below])⟩
   rw[aq h1] at hp
   rcases Vf.1 hp with hp|hp
   ·exact hn p hp
   ·rw[Vh.1 hp];exact hb
 ·have hie:i=us.length:=by omega
  subst hie
  rw[List.take_length] at hn
  have hf:vU us=none:=by
   rw[vU,VD]
   intro x hx
   simp[hn x hx]
  simp-implicitDefEqProofs[hf,ixI]
theorem KH(us:List Int)(hl:us.length<=1000000000000):VF Tryz.prog G cQ [.p (aJ us),.fn (.func cC) []] (.p (.bool (!us.all λv=>inR v 0 255))):=by
 refine AC.go lE ?_
 simp-implicitDefEqProofs[fa]
 refine(FJ G us hl).use ?_
 simp-implicitDefEqProofs[]
 cases hb:vU us with
 |none=>
  have:(us.all λv=>inR v 0 255)=true:=by
   rw[vU,VD] at hb
   rw[Ve]
   intro x hx
   simpa using hb x hx
  rw[this];simp[ixI]
 |some i=>
  have:(us.all λv=>inR v 0 255)=false:=by
   rw[vU,Vq] at hb
   obtain⟨h1,h2,_⟩:=hb
   rw[List.all_eq_false]
   exact⟨us[i],Vo h1,by simpa using h2⟩
  rw[this];simp[ixI]
def oL(us:List Int)(n:Nat):Bool:=decide (us.length=n)&&us.all λv=>inR v 0 255
theorem Iu(us:List Int)(n:Nat)(hl:us.length<=1000000000000):VF Tryz.prog G kC [.p (aJ us),.p (.int .i64 n)] (.p (.bool (oL us n))):=by
 have hnL:aJ us= .lst 1 (us.map λn=>[.int .i64 n]):=rfl
 refine AC.go Az ?_
 by_cases h:us.length=n
 ·have h':(us.length:Int)=(n:Int):=by omega
  simp-implicitDefEqProofs[kX,hnL,h']
  rw[←hnL]
  refine(KH G us hl).use ?_
  simp-implicitDefEqProofs[oL,h]
 ·have h':¬(us.length:Int)=(n:Int):=by omega
  simp-implicitDefEqProofs[kX,hnL,h',oL,h]
def dm(l:List Fd)(us:List Int):Bool:=decide (aO l=0)&&(match l[l.length-1]? with|some f=>oL us f.params.length|none=>false)
variable (hK:G gn=some fz) (hS:G db=some [.tbl opK opV])
include hK hS
theorem tD(l:List Fd)(us:List Int)(hz:aH l<=1073741824)(hl:us.length<=1000000000000):VF Tryz.prog G jf [.agg [.p (fdL l)],.p (aJ us)] (.p (.bool (dm l us))):=by
 have hfl:fdL l= .lst 3 (l.map Fd.cs):=rfl
 have hll:l.length<=aH l:=gt l
 refine AC.go Bx ?_
 simp-implicitDefEqProofs[rI]
 refine(PB G hK hS l hz).use ?_
 by_cases hc:aO l=0
 ·have h0:0<l.length:=by have:=(iP hc).1;cases l<;>simp_all
  have hn1:IntKind.i64.wrap ((l.length:Int)-1)=((l.length-1:Nat):Int):=by rw[ab (by omega) (by omega)];omega
  have hg:l[l.length-1]?=some l[l.length-1]:=UY (by omega)
  generalize l[l.length-1]=f at hg
  have hfc:f.cs=[.str f.name,aw f.params,smL f.body]:=rfl
  have hpL:aw f.params= .lst 1 (f.params.map λw=>[.str w]):=rfl
  simp-implicitDefEqProofs[hc,hfl,hn1,hg,hfc,hpL]
  refine(Iu G us f.params.length hl).use ?_
  simp-implicitDefEqProofs[dm,hc,hg]
 ·simp-implicitDefEqProofs[hc,dm]
end
section
variable (G:al)
variable (hK:G gn=some fz) (hS:G db=some [.tbl opK opV])
include hK hS
theorem Iy{l:List Fd}{us:List Int}(hz:aH l<=1073741824)(hl:us.length<=1000000000000)(ho:dm l us=false):VF Tryz.prog G fO [.agg [.p (fdL l)],.p (aJ us)] (.p (.int .i64 (-1))):=by
 refine AC.go rG ?_
 simp-implicitDefEqProofs[my]
 refine(tD G hK hS l us hz hl).use ?_
 simp-implicitDefEqProofs[ho]
theorem Jm{l:List Fd}{us:List Int}{s':S5}{r:O5 Int}(hz:aH l<=1073741824)(hl:us.length<=1000000000000)(ho:dm l us=true)(hc:aO l=0)(h0:0<l.length)(hu:∀n∈us,V5 n)(hE:Ev l (.cal (l.length-1) us (s0 4000) s' r)):
 VF Tryz.prog G fO [.agg [.p (fdL l)],.p (aJ us)] (.p (.int .i64 (if bj r=3 then-1 else((4000-s'.left:Nat):Int)))):=by
 refine AC.go rG ?_
 simp-implicitDefEqProofs[my]
 refine(tD G hK hS l us hz hl).use ?_
 simp-implicitDefEqProofs[ho]
 refine(th G hc hz h0 hu (Vi _) hE).use ?_
 by_cases h3:bj r=3
 ·simp-implicitDefEqProofs[lr,h3]
 ·simp-implicitDefEqProofs[lr,h3]
theorem Bw{l:List Fd}{us:List Int}{fuel:Int}(hz:aH l<=1073741824)(hl:us.length<=1000000000000)(ho:dm l us=false\/inR fuel 0 4000=false):
 VF Tryz.prog G aT [.agg [.p (fdL l)],.p (aJ us),.p (.int .i64 fuel)] (.tup [.agg [.p (aJ []),.p (.int .i64 0),.p (.int .i64 0),.p (aJ [])],.p (.bool false)]):=by
 have key:AC Tryz.prog G aT [.agg [.p (fdL l)],.p (aJ us),.p (.int .i64 fuel)] [] λx h=>x= .ret (.tup [.agg [.nils,.p (.int .i64 0),.p (.int .i64 0),.nils],.p (.bool false)]):=by
  refine AC.go lO ?_
  simp-implicitDefEqProofs[gP]
  refine(tD G hK hS l us hz hl).use ?_
  cases hq:dm l us with
  |false=>simp-implicitDefEqProofs[]
  |true=>
   have hf:inR fuel 0 4000=false:=by rw[hq] at ho;simpa using ho
   simp-implicitDefEqProofs[]
   refine(lC G fuel 0 4000).use ?_
   simp-implicitDefEqProofs[hf]
 refine key.freezeR (λt v h e=>by cases e) λv h e=>?_
 cases e
 exact .tup (.agg (.one (.nils 1) (.keep (by simp) (.keep (by simp) (.one (.nils 1) .nil)))) (.keep (by simp) .nil)) .nil
theorem Bn{l:List Fd}{us:List Int}{fuel:Nat}{s':S5}{r:O5 Int}(hz:aH l<=1073741824)(hl:us.length<=1000000000000)(ho:dm l us=true)(hc:aO l=0)(h0:0<l.length)(hu:∀n∈us,V5 n)(hfu:fuel<=4000)(hE:Ev l (.cal (l.length-1) us (s0 fuel) s' r)):
 VF Tryz.prog G aT [.agg [.p (fdL l)],.p (aJ us),.p (.int .i64 fuel)] (.tup [.agg ((lr s' r).map .p),.p (.bool true)]):=by
 have hf:inR (fuel:Int) 0 4000=true:=by simp[inR];omega
 refine AC.go lO ?_
 simp-implicitDefEqProofs[gP]
 refine(tD G hK hS l us hz hl).use ?_
 simp-implicitDefEqProofs[ho]
 refine(lC G fuel 0 4000).use ?_
 simp-implicitDefEqProofs[hf]
 refine(th G hc hz h0 hu hfu hE).use ?_
 simp-implicitDefEqProofs[lr]
end
section
variable (G:al)
theorem GU(us:List Int)(hl:us.length<=1000000000000):VF Tryz.prog G jG [.p (aJ us)] (.p (.bool (us.all λv=>inR v 0 255))):=by
 have hnL:aJ us= .lst 1 (us.map λn=>[.int .i64 n]):=rfl
 refine AC.go yz ?_
 simp-implicitDefEqProofs[nX,hnL]
 refine aN (λi:Nat=>ah 16 [(3,.p (.int .i64 i)),(0,.p (.lst 1 (us.map λn=>[.int .i64 n])))]) (λ_=>[]) (λi=>i<=us.length/\∀n∈us.take i,inR n 0 255=true) (λi=>us.length-i) 0 (by simp) ?_ ?_
 ·exact bv rfl (by simp[below])
 intro i ⟨hi,hn⟩
 have hwi:=w1 (i:=i) (by omega)
 by_cases h1:i<us.length
 ·have hg:us[i]?=some us[i]:=UY h1
  simp-implicitDefEqProofs[h1,hg]
  refine(oT G us[i] 0 255).use ?_
  cases hb:inR us[i] 0 255 with
  |false=>
   have hf:(us.all λv=>inR v 0 255)=false:=by
    rw[List.all_eq_false]
    exact⟨us[i],Vo h1,by simp[hb]⟩
   simp-implicitDefEqProofs[hf]
  |true=>
   simp-implicitDefEqProofs[hwi]
   refine⟨i+1,⟨by omega,λp hp=>?_⟩,by omega,bv rfl (by simp[below])⟩
   rw[aq h1] at hp
   rcases Vf.1 hp with hp|hp
   ·exact hn p hp
   ·rw[Vh.1 hp];exact hb
 ·have hie:i=us.length:=by omega
  subst hie
  rw[List.take_length] at hn
  have hf:(us.all λv=>inR v 0 255)=true:=by
   rw[Ve];exact hn
  simp-implicitDefEqProofs[hf]
theorem tY(l:List Fd)(us:List Int)(hz:aH l<=1073741824)(hl:us.length<=1000000000000):VF Tryz.prog G ji [.agg [.p (fdL l)],.p (aJ us)] (.p (.bool (dm l us))):=by
 have hfl:fdL l= .lst 3 (l.map Fd.cs):=rfl
 have hnL:aJ us= .lst 1 (us.map λn=>[.int .i64 n]):=rfl
 have hll:l.length<=aH l:=gt l
 refine AC.go Bc ?_
 simp-implicitDefEqProofs[rD]
 refine(Me G l hz).use ?_
 by_cases hc:aO l=0
 ·have h0:0<l.length:=by have:=(iP hc).1;cases l<;>simp_all
  have hn1:IntKind.i64.wrap ((l.length:Int)-1)=((l.length-1:Nat):Int):=by rw[ab (by omega) (by omega)];omega
  have hg:l[l.length-1]?=some l[l.length-1]:=UY (by omega)
  generalize l[l.length-1]=f at hg
  have hfc:f.cs=[.str f.name,aw f.params,smL f.body]:=rfl
  have hpL:aw f.params= .lst 1 (f.params.map λw=>[.str w]):=rfl
  simp-implicitDefEqProofs[hc]
  refine(GU G us hl).use ?_
  cases hb:(us.all λv=>inR v 0 255) with
  |false=>simp-implicitDefEqProofs[dm,oL,hc,hg,hb]
  |true=>
   by_cases hq:us.length=f.params.length
   ·have hq':(us.length:Int)=(f.params.length:Int):=by omega
    simp-implicitDefEqProofs[hfl,hnL,hn1,hg,hfc,hpL,dm,oL,hc,hb,hq,hq']
   ·have hq':¬(us.length:Int)=(f.params.length:Int):=by omega
    simp-implicitDefEqProofs[hfl,hnL,hn1,hg,hfc,hpL,dm,oL,hc,hb,hq,hq']
 ·simp-implicitDefEqProofs[hc,dm]
theorem Iq{l:List Fd}{us:List Int}(hz:aH l<=1073741824)(hl:us.length<=1000000000000)(ho:dm l us=false):VF Tryz.prog G ed [.agg [.p (fdL l)],.p (aJ us)] (.p (.int .i64 (-1))):=by
 refine AC.go sf ?_
 simp-implicitDefEqProofs[mr]
 refine(tY G l us hz hl).use ?_
 simp-implicitDefEqProofs[ho]
theorem IM{l:List Fd}{f:Fd}{us:List Int}{s':S5}{r:O5 Int}(hz:aH l<=1073741824)(hl:us.length<=1000000000000)(ho:dm l us=true)(hc:aO l=0)(hf:l[l.length-1]?=some f)(hp:us.length=f.params.length)(hu:∀n∈us,V5 n)(hE:Ev l (.cal (l.length-1) us (s0 4000) s' r))(hle:s'.left<=4000):
 VF Tryz.prog G ed [.agg [.p (fdL l)],.p (aJ us)] (.p (.int .i64 (if bj r=3 then-1 else((4000-s'.left:Nat):Int)))):=by
 have hn1:IntKind.i64.wrap (4000-(s'.left:Int))=((4000-s'.left:Nat):Int):=by rw[ab (by omega) (by omega)];omega
 refine AC.go sf ?_
 simp-implicitDefEqProofs[mr]
 refine(tY G l us hz hl).use ?_
 simp-implicitDefEqProofs[ho]
 refine(LZ G hc hz hf hp hu (Vi _) hE).use ?_
 by_cases h3:bj r=3
 ·simp-implicitDefEqProofs[lr,h3]
 ·simp-implicitDefEqProofs[lr,h3,hn1]
theorem Bf{l:List Fd}{us:List Int}{fuel:Int}(hz:aH l<=1073741824)(hl:us.length<=1000000000000)(ho:dm l us=false\/inR fuel 0 4000=false):
 VF Tryz.prog G bH [.agg [.p (fdL l)],.p (aJ us),.p (.int .i64 fuel)] (.tup [.agg [.p (aJ []),.p (.int .i64 0),.p (.int .i64 0),.p (aJ [])],.p (.bool false)]):=by
 have key:AC Tryz.prog G bH [.agg [.p (fdL l)],.p (aJ us),.p (.int .i64 fuel)] [] λx h=>x= .ret (.tup [.agg [.nils,.p (.int .i64 0),.p (.int .i64 0),.nils],.p (.bool false)]):=by
  refine AC.go lX ?_
  simp-implicitDefEqProofs[iy]
  refine(tY G l us hz hl).use ?_
  cases hq:dm l us with
  |false=>simp-implicitDefEqProofs[]
  |true=>
   have hf:inR fuel 0 4000=false:=by rw[hq] at ho;simpa using ho
   simp-implicitDefEqProofs[]
   refine(oT G fuel 0 4000).use ?_
   simp-implicitDefEqProofs[hf]
 refine key.freezeR (λt v h e=>by cases e) λv h e=>?_
 cases e
 exact .tup (.agg (.one (.nils 1) (.keep (by simp) (.keep (by simp) (.one (.nils 1) .nil)))) (.keep (by simp) .nil)) .nil
theorem Bu{l:List Fd}{f:Fd}{us:List Int}{fuel:Nat}{s':S5}{r:O5 Int}(hz:aH l<=1073741824)(hl:us.length<=1000000000000)(ho:dm l us=true)(hc:aO l=0)(hf:l[l.length-1]?=some f)(hp:us.length=f.params.length)(hu:∀n∈us,V5 n)(hfu:fuel<=4000)(hE:Ev l (.cal (l.length-1) us (s0 fuel) s' r)):
 VF Tryz.prog G bH [.agg [.p (fdL l)],.p (aJ us),.p (.int .i64 fuel)] (.tup [.agg ((lr s' r).map .p),.p (.bool true)]):=by
 have hq:inR (fuel:Int) 0 4000=true:=by simp[inR];omega
 refine AC.go lX ?_
 simp-implicitDefEqProofs[iy]
 refine(tY G l us hz hl).use ?_
 simp-implicitDefEqProofs[ho]
 refine(oT G fuel 0 4000).use ?_
 simp-implicitDefEqProofs[hq]
 refine(LZ G hc hz hf hp hu hfu hE).use ?_
 simp-implicitDefEqProofs[lr]
end
section
variable (G:al)
variable (hK:G gn=some fz) (hS:G db=some [.tbl opK opV])
theorem vn{l:List Fd}{us:List Int}(h:dm l us=true):aO l=0/\0<l.length/\(∃f,l[l.length-1]?=some f/\us.length=f.params.length)/\∀n∈us,V5 n:=by
 simp only[dm,Vp,decide_eq_true_eq] at h
 obtain⟨h1,h2⟩:=h
 refine⟨h1,by have:=(iP h1).1;cases l<;>simp_all,?_⟩
 split at h2
 ·rename_i f hf
  simp only[oL,Vp,decide_eq_true_eq,Ve] at h2
  exact⟨⟨f,hf,h2.1⟩,λn hn=>by have:=h2.2 n hn;simpa[inR,V5] using this⟩
 ·cases h2
include hK hS
end
section
theorem Ns{l:List Fd}{K fuel:Nat}{us:List Int}{s':S5}{r:O5 Int}(h:Ev l (.cal K us (s0 fuel) s' r)):s'.said.length<=fuel:=by
 have h1:M5 s'<=M5 (s0 fuel)/\s'.left<=(s0 fuel).left:=mE h
 have h2:M5 (s0 fuel)=fuel:=by simp[M5,s0]
 have h3:=h1.1
 rw[h2] at h3
 simp only[M5] at h3
 omega
theorem Nt{l:List Fd}{K fuel:Nat}{us:List Int}{s':S5}{r:O5 Int}(h:Ev l (.cal K us (s0 fuel) s' r)):s'.left<=fuel:=(show M5 s'<=M5 (s0 fuel)/\s'.left<=(s0 fuel).left from mE h).2
variable (G:al)
structure Runs (l:List Fd) (us:List Int) (fuel:Nat) (s':S5) (r:O5 Int):Prop where
 ev:Ev l (.cal (l.length-1) us (s0 fuel) s' r)
 said:s'.said.length<=4000
 cells:s'.cells.length=16
 left:s'.left<=fuel
 impl:VF Tryz.prog G aT [.agg [.p (fdL l)],.p (aJ us),.p (.int .i64 fuel)] (.tup [.agg ((lr s' r).map .p),.p (.bool true)])
 spec:VF Tryz.prog G bH [.agg [.p (fdL l)],.p (aJ us),.p (.int .i64 fuel)] (.tup [.agg ((lr s' r).map .p),.p (.bool true)])
theorem DL(xs:List Int)(hb:xs.length<=1048576):VF Tryz.prog G dM [.p (aJ xs),.p (aJ xs)] (.p (.bool true)):=by
 have hsl:∀l,aJ l= .lst 1 (l.map λw=>[.int .i64 w]):=λ_=>rfl
 refine AC.go sG ?_
 simp-implicitDefEqProofs[kR,hsl]
 refine aN (λi:Nat=>ah 26 [(0,.p (aJ xs)),(1,.p (aJ xs)),(11,.p (aJ xs)),(12,.p (.int .i64 xs.length)),(13,.p (.int .i64 i))]) (λ_=>[]) (λi=>i<=xs.length) (λi=>xs.length-i) 0 (by simp) ?_ ?_
 ·exact bv rfl (by simp[below,aJ])
 intro i hi
 simp-implicitDefEqProofs[hsl]
 refine be (λh1=>?_) (λh1=>?_)
 ·simp at h1
  have hg:xs[i]?=some xs[i]:=UY h1
  generalize xs[i]=x at hg
  simp-implicitDefEqProofs[hg]
  refine⟨i+1,by omega,by omega,bv rfl ?_⟩
  simp[below,aJ,w1 (i:=i) (by omega)]
 ·simp at h1
  simp-implicitDefEqProofs[]
theorem BN(xs:List Int)(hb:xs.length<=1048576):VF Tryz.prog G iW [.p (aJ xs),.p (aJ xs)] (.p (.bool true)):=by
 have hsl:∀l,aJ l= .lst 1 (l.map λw=>[.int .i64 w]):=λ_=>rfl
 refine AC.go BG ?_
 simp-implicitDefEqProofs[rL,hsl]
 refine aN (λi:Nat=>ah 26 [(0,.p (aJ xs)),(1,.p (aJ xs)),(5,.p (.int .i64 i))]) (λ_=>[]) (λi=>i<=xs.length) (λi=>xs.length-i) 0 (by simp) ?_ ?_
 ·exact bv rfl (by simp[below,aJ])
 intro i hi
 simp-implicitDefEqProofs[hsl]
 refine be (λh1=>?_) (λh1=>?_)
 ·simp at h1
  have hg:xs[i]?=some xs[i]:=UY h1
  generalize xs[i]=x at hg
  simp-implicitDefEqProofs[hg]
  refine⟨i+1,by omega,by omega,bv rfl ?_⟩
  simp[below,aJ,w1 (i:=i) (by omega)]
 ·simp at h1
  simp-implicitDefEqProofs[]
theorem CF(xs ys:List Int)(e v:Int)(hx:xs.length<=1048576)(hy:ys.length<=1048576):VF Tryz.prog G dL [.agg [.p (aJ xs),.p (.int .i64 e),.p (.int .i64 v),.p (aJ ys)],.agg [.p (aJ xs),.p (.int .i64 e),.p (.int .i64 v),.p (aJ ys)]] (.p (.bool true)):=by
 refine AC.go sr ?_
 simp-implicitDefEqProofs[lb]
 refine(BN G xs hx).use ?_
 simp-implicitDefEqProofs[]
 refine(BN G ys hy).use ?_
 simp-implicitDefEqProofs[]
theorem OM(xs ys:List Int)(e v:Int)(hx:xs.length<=1048576)(hy:ys.length<=1048576):VF Tryz.prog G gf [.agg [.p (aJ xs),.p (.int .i64 e),.p (.int .i64 v),.p (aJ ys)],.agg [.p (aJ xs),.p (.int .i64 e),.p (.int .i64 v),.p (aJ ys)]] (.p (.bool true)):=by
 refine AC.go sV ?_
 simp-implicitDefEqProofs[kT]
 refine(DL G xs hx).use ?_
 simp-implicitDefEqProofs[]
 refine(DL G ys hy).use ?_
 simp-implicitDefEqProofs[]
theorem Qj(xs:List Int)(hb:xs.length<=1073741824):VF Tryz.prog G mI [.p (aJ xs),.p (aJ xs)] (.p (.bool true)):=by
 refine AC.go BL ?_
 have hsl:∀l,aJ l= .lst 1 (l.map λw=>[.int .i64 w]):=λ_=>rfl
 simp-implicitDefEqProofs[rM,hsl]
 refine aN (λi:Nat=>ah 29 [(0,.p (aJ xs)),(1,.p (aJ xs)),(10,.p (.int .i64 xs.length)),(11,.p (.int .i64 i))]) (λ_=>[]) (λi=>i<=xs.length) (λi=>xs.length-i) 0 (by simp) ?_ ?_
 ·exact bv rfl (by simp[below,aJ])
 intro i hi
 simp-implicitDefEqProofs[hsl]
 refine be (λh1=>?_) (λh1=>?_)
 ·simp at h1
  have hg:xs[i]?=some xs[i]:=UY h1
  generalize xs[i]=x at hg
  simp-implicitDefEqProofs[hg]
  refine⟨i+1,by omega,by omega,bv rfl ?_⟩
  simp[below,aJ,w1 (i:=i) (by omega)]
 ·simp at h1
  simp-implicitDefEqProofs[]
theorem BP(xs ys:List Int)(hx:xs.length<=1048576)(h:ys<+:xs):VF Tryz.prog G fY [.p (aJ xs),.p (aJ ys)] (.p (.bool true)):=by
 have hsl:∀l,aJ l= .lst 1 (l.map λw=>[.int .i64 w]):=λ_=>rfl
 have hl:=h.length_le
 have ht:xs.take ys.length=ys:=(List.prefix_iff_eq_take.1 h).symm
 have htm:List.take ys.length (xs.map λw=>[PV.int .i64 w])=ys.map λw=>[PV.int .i64 w]:=by rw[←List.map_take,ht]
 refine AC.go yC ?_
 simp-implicitDefEqProofs[nT,hsl,hl,htm]
 rw[←hsl]
 refine(Qj G ys (by omega)).use ?_
 simp-implicitDefEqProofs[]
variable (hK:G gn=some fz) (hS:G db=some [.tbl opK opV])
include hK hS
theorem tu{l:List Fd}{us:List Int}{fuel:Nat}{s':S5}{r:O5 Int}(hz:aH l<=1073741824)(hl:us.length<=1000000000000)(ho:dm l us=true)(hfu:fuel<=4000)(hE:Ev l (.cal (l.length-1) us (s0 fuel) s' r)):Runs G l us fuel s' r:=by
 obtain⟨hc,h0,⟨f,hf1,hf2⟩,hv⟩:=vn ho
 exact⟨hE,Vn (Ns hE) hfu,(dc hE ⟨nO fuel,hv⟩).1.len,Nt hE,Bn G hK hS hz hl ho hc h0 hv hfu hE,Bu G hz hl ho hc hf1 hf2 hv hfu hE⟩
theorem Sc{l:List Fd}{us:List Int}{fuel:Nat}(hz:aH l<=1073741824)(hl:us.length<=1000000000000)(ho:dm l us=true)(hfu:fuel<=4000):∃s' r,Runs G l us fuel s' r:=by
 obtain⟨hc,h0,⟨f,hf1,hf2⟩,hv⟩:=vn ho
 obtain⟨s',r,hE,_⟩:=TX hc hf1 hf2 hv fuel
 exact⟨s',r,tu G hK hS hz hl ho hfu hE⟩
theorem RL{l:List Fd}{us:List Int}{s':S5}{r:O5 Int}(hz:aH l<=1073741824)(hl:us.length<=1000000000000)(ho:dm l us=true)(R:Runs G l us 4000 s' r):
 VF Tryz.prog G fO [.agg [.p (fdL l)],.p (aJ us)] (.p (.int .i64 (if bj r=3 then-1 else((4000-s'.left:Nat):Int))))/\VF Tryz.prog G ed [.agg [.p (fdL l)],.p (aJ us)] (.p (.int .i64 (if bj r=3 then-1 else((4000-s'.left:Nat):Int)))):=by
 obtain⟨hc,h0,⟨f,hf1,hf2⟩,hv⟩:=vn ho
 exact⟨Jm G hK hS hz hl ho hc h0 hv R.ev,IM G hz hl ho hc hf1 hf2 hv R.ev R.left⟩
omit hK hS in
theorem endI_three{r:O5 Int}:bj r=3↔r= .st 3:=by
 cases r with
 |ok n=>simp[bj]
 |st c=>simp[bj]
end
section
variable (G:al)
theorem JT{ρ:List Nat}:∀{args:List AV},ag 0 args->TW ρ args args
 |[],_=>trivial
 |v::r,h=>⟨.inr ⟨(bm (VX _) [v] ⟨h.1,trivial⟩).1,by have:=eb ρ [v] ⟨h.1,trivial⟩;simpa[bg] using this⟩,JT h.2⟩
theorem Ly{f:FuncId}{args:List AV}{b:List Int}{p:Nat}{Q:AV->Nat->Prop}(H:AC Tryz.prog G f (.ptr 0 2 0 0::args) [rdO b p] λx h=>∃v q,x= .ret v/\h=[rdO b q]/\Q v q)(hq:∀v q,Q v q->below 0 v){h:List AO}{k:Nat}(hk:h[k]?=some (rdO b p))(ha:ag 0 args):
 AC Tryz.prog G f (.ptr k 2 0 0::args) h λx h'=>∃v q,x= .ret v/\h'=h.set k (rdO b q)/\Q v q:=by
 refine(H.frame (h:=h) (args:= .ptr k 2 0 0::args) [k] (by simp) ⟨.inr ⟨by simp[below],by simp[ren]⟩,JT ha⟩ (bT hk (aY _ _ _) bW)).mono ?_
 rintro x h' ⟨x0,h0,⟨v,q,rfl,rfl,r⟩,hl,rfl,rfl⟩
 refine⟨v,q,?_,?_,r⟩
 ·simp only[BH]
  have:=eb ([k]++List.range' h.length ([rdO b q].length-[rdO b p].length)) [v] ⟨hq v q r,trivial⟩
  simpa[bg] using this
 ·have hp2:∀σ,gW σ (rdO b q)=rdO b q:=λσ=>by simp[rdO,gW,bg,ren]
  simp[mrg,hp2]
theorem KJ{l:List Int}(h:Byt l)(n:Nat):Byt (l.take n):=λx hx=>h x (VO hx)
theorem AH{f:FuncId}{args:List AV}{R:ARes->Prop}(H:AC Tryz.prog G f args [] λx _=>R x)(hR:∀x,R x->∃v,x= .ret v/\below 0 v)(ha:ag 0 args)(h:List AO):AC Tryz.prog G f args h λx h'=>R x/\h'=h:=by
 have H2:AC Tryz.prog G f args [] λx h'=>R x/\h'=[]:=by
  refine H.wk (λt v h' r=>by obtain⟨_,e,_⟩:=hR _ r;cases e) λv h' r=>?_
  obtain⟨v',e,hv⟩:=hR _ r
  cases e
  exact⟨v,[],Le rfl ⟨.inr ⟨hv,rfl⟩,trivial⟩,r,rfl⟩
 refine(H2.pre h ha (λo ho=>by cases ho) (λx h' r=>by rw[r.2])).mono ?_
 rintro x h' ⟨h1,⟨r,rfl⟩,rfl⟩
 exact⟨r,rfl⟩
variable (hK:G gn=some fz) (hS:G db=some [.tbl opK opV])
include hK hS
end
section
theorem Em:AK.whole pt=FK.ak oz:=rfl
variable (G:al)
def CV(l:List Fd):Nat:=match l[l.length-1]? with|some f=>f.params.length|none=>0
theorem NM(l:List Fd):CV l<=aH l:=by
 unfold CV
 split
 ·rename_i f hf
  have:=cZ (Vb hf)
  rw[Fd.sz] at this
  omega
 ·exact VX _
structure Ys5 where (us:List Int) (q i:Nat)
theorem Pm{b:List Int}(hb:Byt b)(hl:b.length<=2000){p:Nat}(hp:p<=3000000000)(l:List Fd)(hz:aH l<=900000000):AC Tryz.prog G og [.ptr 0 2 0 0,.agg [.p (fdL l)]] [rdO b p] λx h=>∃v q,x= .ret v/\h=[rdO b q]/\(∃us:List Int,v= .p (aJ us)/\us.length<=900000001)/\p<=q/\q<=p+1800000003:=by
 refine lQ G (AC.goK Fp Em ?_)
 have hll:=gI l
 have hpl:=NM l
 have hfl:fdL l= .lst 3 (l.map Fd.cs):=rfl
 have hn0:gw []= .row 1 []:=rfl
 simp-implicitDefEqProofs[oz,pt]
 refine nM (ah 54 [(0,.ptr 0 2 0 0),(5,.sl 1 1 0 0),(6,.p (.int .i64 (CV l)))]) [rdO b p,gw []] ?_ ?_
 ·by_cases h0:l=[]
  ·subst h0
   simp-implicitDefEqProofs[hfl]
   refine da [0,2] (by simp) (by decide) (by decide) (bT rfl (aY _ _ _) (bT rfl (by simp[gw,okO]) bW)) ?_
   simp[below,ren,CV]
  ·have hlen:0<l.length:=List.length_pos_iff.2 h0
   have hg:l[l.length-1]?=some l[l.length-1]:=UY (by omega)
   have hpe:CV l=l[l.length-1].params.length:=by rw[CV,hg]
   rw[hpe]
   generalize l[l.length-1]=f at hg
   have hw:IntKind.i64.wrap ((l.length:Int)-1)=((l.length-1:Nat):Int):=by rw[ab (by omega) (by omega)];omega
   have hfc:f.cs=[.str f.name,aw f.params,smL f.body]:=rfl
   have hsl:∀l,aw l= .lst 1 (l.map λw=>[.str w]):=λ_=>rfl
   have hc:(0:Int)<l.length:=by omega
   simp-implicitDefEqProofs[hfl,hlen,hw,hg,hfc,hsl]
   refine da [0,2] (by simp) (by decide) (by decide) (bT rfl (aY _ _ _) (bT rfl (by simp[gw,okO]) bW)) ?_
   simp[below,ren]
 refine vD (λs:Ys5=>ah 54 [(0,.ptr 0 2 0 0),(5,.sl 1 1 0 s.us.length)]) (λs=>[rdO b s.q,gw s.us]) (λs=>s.us.length<=900000000/\p<=s.q/\s.q<=p+1800000000) ?_ ?_
 ·simp-implicitDefEqProofs[]
  refine aN (λs:Ys5=>ah 54 [(0,.ptr 0 2 0 0),(5,.sl 1 1 0 s.us.length),(6,.p (.int .i64 (CV l))),(7,.p (.int .i64 s.i))]) (λs=>[rdO b s.q,gw s.us]) (λs=>s.i<=CV l/\s.us.length=s.i/\p<=s.q/\s.q<=p+2*s.i) (λs=>CV l-s.i) ⟨[],p,0⟩ (by simp) ?_ ?_
  ·refine da [0,1] (by simp) (by decide) (by decide) (bT rfl (aY _ _ _) (bT rfl (by simp[gw,okO]) bW)) ?_
   simp[below,ren]
  rintro⟨us,q,i⟩ ⟨h1,h2,h3,h4⟩
  simp only at h1 h2 h3 h4
  have hwi:=w1 (i:=i) (by omega)
  have hbo:∀us,gw us= .row 1 (us.map λn=>[.p (.int .i64 n)]):=λ_=>rfl
  have ht:∀us:List Int,List.take us.length (us.map λn=>[AV.p (.int .i64 n)])=us.map λn=>[.p (.int .i64 n)]:=λus=>Vc (by simp)
  simp-implicitDefEqProofs[]
  refine be (λhc=>?_) (λhc=>?_)
  ·simp at hc
   simp-implicitDefEqProofs[]
   refine(aQ G b hb hl q (by omega) 256 _).mono ?_
   rintro r h ⟨k,rfl,rfl,_⟩
   simp-implicitDefEqProofs[aa]
   refine(jU G hb hl (p:=q+1) (by omega) [0,1,2,3,7,16,255,(k:Int)] (k:=2) (by simp) (by simp) (by omega) rfl (by simp[gw])).mono ?_
   rintro r h ⟨n,_,rfl,rfl⟩
   simp-implicitDefEqProofs[aa,hbo,ht]
   refine⟨by omega,?_⟩
   simp-implicitDefEqProofs[hwi]
   refine⟨⟨us++[n],q+2,i+1⟩,⟨by simp only;omega,by simp only[Vj,List.length_singleton];omega,by simp only;omega,by simp only;omega⟩,by simp only;omega,?_⟩
   refine da [0,4] (by simp) (by decide) (by decide) (bT rfl (aY _ _ _) (bi (by simp) (Ct (us++[n])) bW)) ?_
   simp[below,ren]
  ·simp at hc
   refine⟨⟨us,q,0⟩,⟨by simp only;omega,by simp only;omega,by simp only;omega⟩,?_⟩
   refine da [0,1] (by simp) (by decide) (by decide) (bT rfl (aY _ _ _) (bi rfl (Ct us) bW)) ?_
   simp[below,ren]
 rintro⟨us,q,i⟩ ⟨h1,h2,h3⟩
 simp only at h1 h2 h3
 have hbo:∀us,gw us= .row 1 (us.map λn=>[.p (.int .i64 n)]):=λ_=>rfl
 simp-implicitDefEqProofs[]
 refine(aQ G b hb hl q (by omega) 40 _).mono ?_
 rintro r h ⟨k,rfl,rfl,_⟩
 simp-implicitDefEqProofs[aa]
 have hv:∀(h:List AO) (j:Nat) (us:List Int) (n:Nat),n=us.length->h[j]?=some (gw us)->View h (.sl j 1 0 n) (aJ us):=λh j us n e q=>by subst e;exact iU q
 have ht:∀us:List Int,List.take us.length (us.map λn=>[AV.p (.int .i64 n)])=us.map λn=>[.p (.int .i64 n)]:=λus=>Vc (by simp)
 by_cases k0:k=0
 ·simp-implicitDefEqProofs[k0,hbo,ht]
  refine⟨by omega,?_⟩
  exact⟨_,_,q+1,.p (aJ (us++[0])),rfl,rfl,.one (hv _ _ _ _ (by simp) (by simp[gw])) .nil,⟨_,rfl,by simp;omega⟩,by omega,by omega⟩
 have k1':¬(k:Int)=0:=by omega
 by_cases k1:(k:Int)=1
 ·simp-implicitDefEqProofs[k0,k1]
  refine be (λhc=>?_) (λhc=>?_)
  ·cases us with
   |nil=>simp at hc
   |cons u us=>
    simp-implicitDefEqProofs[]
    refine(jU G hb hl (p:=q+1) (by omega) [-1,256] (k:=2) (by simp) (by simp) (by omega) rfl (by simp[gw])).mono ?_
    rintro r h ⟨n,_,rfl,rfl⟩
    simp-implicitDefEqProofs[aa,hbo]
    exact⟨_,_,q+2,.p (aJ (n::us)),rfl,rfl,.one (hv _ _ _ _ (by simp) (by simp[gw])) .nil,⟨_,rfl,by simpa using Nat.le_succ_of_le h1⟩,by omega,by omega⟩
  ·simp-implicitDefEqProofs[]
   exact⟨_,_,q+1,.p (aJ us),rfl,rfl,.one (iU rfl) .nil,⟨_,rfl,by omega⟩,by omega,by omega⟩
 ·simp-implicitDefEqProofs[k0,k1]
  exact⟨_,_,q+1,.p (aJ us),rfl,rfl,.one (iU rfl) .nil,⟨_,rfl,by omega⟩,by omega,by omega⟩
def DrR(x:ARes):Prop:=∃(l:List Fd) (us:List Int) (fuel:Int),x= .ret (.tup [.agg [.p (fdL l)],.p (aJ us),.p (.int .i64 fuel)])/\aH l<=900000000/\us.length<=900000001
theorem Ff:∀x,DrR x->∃v,x= .ret v/\below 0 v:=λx ⟨l,us,fuel,e,_⟩=>⟨_,e,by simp[below]⟩
theorem mO(code:List Int)(hb:Byt code):AC Tryz.prog G cK [.p (rn code)] [] λx _=>DrR x:=by
 refine AC.go oa ?_
 simp-implicitDefEqProofs[iH]
 refine(AC.lift (Qm G code) (by simp) rfl rfl).mono ?_
 rintro r h ⟨rfl,rfl⟩
 have hr:∀n,cw n (rdO (code.take 2000) 0)=rdO (code.take 2000) 0:=λn=>by simp[rdO,cw,dG,cd]
 have hbt:=KJ hb 2000
 have hbl:(code.take 2000).length<=2000:=by rw[VA];omega
 generalize code.take 2000=b at hr hbt hbl
 simp-implicitDefEqProofs[aa,cd,hr]
 refine(Ly G (Q:=λv q2=>(∃l:List Fd,v= .agg [.p (fdL l)]/\aH l<=200000000)/\q2<=200000000) ((FS G hbt hbl (p:=0) (by omega)).mono λx h ⟨l,q,e1,e2,_,e4,_,e6⟩=>⟨_,q,e1,e2,⟨l,rfl,e4⟩,by omega⟩) (λv q ⟨⟨l,e,_⟩,_⟩=>by rw[e];simp[below]) (h:=[.row 1 [[.nils]],rdO b 0]) (k:=1) rfl (by simp)).mono ?_
 rintro r h ⟨v,q,rfl,rfl,⟨l,rfl,hz⟩,hq⟩
 simp-implicitDefEqProofs[aa]
 have pick:∀(q:Nat) (h:List AO) (n:Int),q<=3000000000->h[1]?=some (rdO b q)->AC Tryz.prog G aS [.ptr 1 2 0 0,.p (.int .i64 n)] h λx h'=>∃v q2,x= .ret v/\h'=h.set 1 (rdO b q2)/\∃k:Nat,v= .p (.int .i64 k)/\q2=q+1:=λq h n hq h1=>
  Ly G (Q:=λv q2=>∃k:Nat,v= .p (.int .i64 k)/\q2=q+1) ((LD G b hbt hbl q (by omega) n).mono λx h ⟨k,e1,e2,_⟩=>⟨_,_,e1,e2,k,rfl,rfl⟩) (λv q ⟨k,e,_⟩=>by rw[e];simp[below]) h1 (by simp[below])
 have fin:∀(l:List Fd) (q:Nat),aH l<=900000000->q<=3000000000->∀T,T=AO.row 1 [[.nils]]->True:=λ_ _ _ _ _ _=>trivial
 refine(pick q _ 12 (by omega) rfl).mono ?_
 rintro r h ⟨v,q2,rfl,rfl,k,rfl,rfl⟩
 simp-implicitDefEqProofs[aa]
 have inn:=λ(l:List Fd) (q:Nat) (hz:aH l<=900000000) (hq:q<=3000000000) (h:List AO) (h1:h[1]?=some (rdO b q))=>Ly G (Pm G hbt hbl hq l hz) (λv q ⟨⟨us,e,_⟩,_⟩=>by rw[e];simp[below]) h1 (by simp[below])
 have num:=λ(q:Nat) (hq:q<=5000000000) (h:List AO) (h1:h[1]?=some (rdO b q))=>Ly G (args:=[.p (aJ [400,400,1000,20,5,1,0,4000,-1,4001])]) (Q:=λv q2=>∃n:Int,v= .p (.int .i64 n)/\q2=q+1) ((Dn G hbt hbl (p:=q) (by omega) _ (by simp) (by simp) []).mono λx h ⟨n,_,e1,e2⟩=>⟨_,_,e1,e2,n,rfl,rfl⟩) (λv q ⟨k,e,_⟩=>by rw[e];simp[below]) h1 (by simp[below])
 refine be (λhc=>?_) (λhc=>?_)
 ·simp-implicitDefEqProofs[]
  refine(Ly G (KP G hbt hbl (p:=q+1) (by omega)) (λv q ⟨⟨l,e,_⟩,_⟩=>by rw[e];simp[below]) (k:=1) rfl trivial).mono ?_
  rintro r h ⟨v,q2,rfl,rfl,⟨l2,rfl,hz2⟩,hq1,hq2⟩
  simp-implicitDefEqProofs[aa]
  refine(inn l2 q2 hz2 (by omega) _ rfl).mono ?_
  rintro r h ⟨v,q3,rfl,rfl,⟨us,rfl,hu⟩,hq3,hq4⟩
  simp-implicitDefEqProofs[aa]
  refine(num q3 (by omega) _ rfl).mono ?_
  rintro r h ⟨v,q4,rfl,rfl,n,rfl,rfl⟩
  simp-implicitDefEqProofs[aa]
  exact⟨l2,us,n,rfl,hz2,hu⟩
 ·simp-implicitDefEqProofs[]
  refine(inn l (q+1) (by omega) (by omega) _ rfl).mono ?_
  rintro r h ⟨v,q3,rfl,rfl,⟨us,rfl,hu⟩,hq3,hq4⟩
  simp-implicitDefEqProofs[aa]
  refine(num q3 (by omega) _ rfl).mono ?_
  rintro r h ⟨v,q4,rfl,rfl,n,rfl,rfl⟩
  simp-implicitDefEqProofs[aa]
  exact⟨l,us,n,rfl,by omega,hu⟩
def DrU(x:ARes):Prop:=∃(l:List Fd) (us:List Int),x= .ret (.tup [.agg [.p (fdL l)],.p (aJ us)])/\aH l<=900000000/\us.length<=900000001
theorem MD:∀x,DrU x->∃v,x= .ret v/\below 0 v:=λx ⟨l,us,e,_⟩=>⟨_,e,by simp[below]⟩
theorem Dx(code:List Int)(hb:Byt code):AC Tryz.prog G ij [.p (rn code)] [] λx _=>DrU x:=by
 refine AC.go to ?_
 simp-implicitDefEqProofs[lN]
 refine(AH G (mO G code hb) Ff (by simp) _).mono ?_
 rintro r h ⟨⟨l,us,fuel,rfl,hz,hu⟩,rfl⟩
 simp-implicitDefEqProofs[aa]
 exact⟨l,us,rfl,hz,hu⟩
end
section
variable (G:al)
variable (hK:G gn=some fz) (hS:G db=some [.tbl opK opV])
include hK hS
theorem Qd(code:List Int)(hb:Byt code)(hl:code.length<=9223372036854775807):VF Tryz.prog G sj [.p (rn code)] (.p (.bool true)):=by
 refine AC.go BJ ?_
 have hbl:rn code= .lst 1 (code.map λn=>[.int .u8 n]):=rfl
 simp-implicitDefEqProofs[rR,hbl]
 rw[←hbl]
 by_cases hc:(1048576:Int)<code.length
 ·simp-implicitDefEqProofs[hc]
 simp-implicitDefEqProofs[hc]
 refine(AH G (Dx G code hb) MD (by simp) _).mono ?_
 rintro r h ⟨⟨l,us,rfl,hz,hu⟩,rfl⟩
 simp-implicitDefEqProofs[aa]
 cases ho:dm l us with
 |false=>
  have hi:=Iy G hK hS (l:=l) (us:=us) (by omega) (by omega) ho
  have hs:=Iq G (l:=l) (us:=us) (by omega) (by omega) ho
  refine hi.use ?_
  simp-implicitDefEqProofs[]
  refine hs.use ?_
  simp-implicitDefEqProofs[]
  refine hs.use ?_
  simp-implicitDefEqProofs[]
 |true=>
  obtain⟨s',r,R⟩:=Sc G hK hS (l:=l) (us:=us) (fuel:=4000) (by omega) (by omega) ho (Vi _)
  obtain⟨hi,hs⟩:=RL G hK hS (by omega) (by omega) ho R
  by_cases h3:bj r=3
  ·rw[if_pos h3] at hi hs
   refine hi.use ?_
   simp-implicitDefEqProofs[]
   refine hs.use ?_
   simp-implicitDefEqProofs[]
   refine hs.use ?_
   simp-implicitDefEqProofs[]
  rw[if_neg h3] at hi hs
  have hle:=R.left
  have hn3:r≠ .st 3:=λe=>h3 (endI_three.2 e)
  have hR2:=tu G hK hS (by omega) (by omega) ho (show 4000-s'.left<=4000 by omega) (zM R.ev (F:=4000-s'.left) (by omega) hn3 (by omega))
  have hi2:=hR2.impl
  have hnn:¬(((4000-s'.left:Nat):Int)<0):=by omega
  refine hi.use ?_
  simp-implicitDefEqProofs[]
  refine hs.use ?_
  simp-implicitDefEqProofs[hnn]
  refine hi2.use ?_
  by_cases hn0:4000-s'.left=0
  ·have hn0':((4000-s'.left:Nat):Int)=0:=by omega
   simp-implicitDefEqProofs[lr,h3,hn0]
  have hn0':¬((4000-s'.left:Nat):Int)=0:=by omega
  obtain⟨s1,hE3,hp⟩:=Co R.ev (F:=4000-s'.left-1) (by omega) (.inr (by omega))
  have hR3:=tu G hK hS (by omega) (by omega) ho (by omega) hE3
  have hi3:=hR3.impl
  have hw:IntKind.i64.wrap (((4000-s'.left:Nat):Int)-1)=((4000-s'.left-1:Nat):Int):=by rw[ab (by omega) (by omega)];omega
  have hsd:(s'.dn (4000-(4000-s'.left))).said=s'.said:=rfl
  have he3:bj (O5.st 3:O5 Int)=3:=rfl
  have hsl:=R.said
  simp-implicitDefEqProofs[lr,h3,hn0,hw,hsd]
  refine hi3.use ?_
  simp-implicitDefEqProofs[lr,he3]
  refine(BP G s'.said s1.said (by omega) hp).use ?_
  simp-implicitDefEqProofs[]
theorem SY{l:List Fd}{us:List Int}{fuel:Int}(hz:aH l<=1073741824)(hl:us.length<=1000000000000)(ho:¬(dm l us=true/\inR fuel 0 4000=true)):
 VF Tryz.prog G aT [.agg [.p (fdL l)],.p (aJ us),.p (.int .i64 fuel)] (.tup [.agg [.p (aJ []),.p (.int .i64 0),.p (.int .i64 0),.p (aJ [])],.p (.bool false)])/\VF Tryz.prog G bH [.agg [.p (fdL l)],.p (aJ us),.p (.int .i64 fuel)] (.tup [.agg [.p (aJ []),.p (.int .i64 0),.p (.int .i64 0),.p (aJ [])],.p (.bool false)]):=by
 have h:dm l us=false\/inR fuel 0 4000=false:=by
  cases h1:dm l us with
  |false=>exact .inl rfl
  |true=>
   cases h2:inR fuel 0 4000 with
   |false=>exact .inr rfl
   |true=>exact absurd ⟨h1,h2⟩ ho
 exact⟨Bw G hK hS hz hl h,Bf G hz hl h⟩
theorem zg(code:List Int)(hb:Byt code)(hl:code.length<=9223372036854775807):VF Tryz.prog G lH [.p (rn code)] (.p (.bool true)):=by
 refine AC.go tg ?_
 have hbl:rn code= .lst 1 (code.map λn=>[.int .u8 n]):=rfl
 simp-implicitDefEqProofs[mg,hbl]
 rw[←hbl]
 by_cases hc:(1048576:Int)<code.length
 ·simp-implicitDefEqProofs[hc]
 simp-implicitDefEqProofs[hc]
 refine(AH G (mO G code hb) Ff (by simp) _).mono ?_
 rintro r h ⟨⟨l,us,fuel,rfl,hz,hu⟩,rfl⟩
 simp-implicitDefEqProofs[aa]
 by_cases hq:dm l us=true/\inR fuel 0 4000=true
 case neg=>
  obtain⟨hi,hs⟩:=SY G hK hS (l:=l) (us:=us) (fuel:=fuel) (by omega) (by omega) hq
  have hsm:=CF G [] [] 0 0 (by simp) (by simp)
  refine hi.use ?_
  simp-implicitDefEqProofs[]
  refine hs.use ?_
  simp-implicitDefEqProofs[]
  refine hsm.use ?_
  simp-implicitDefEqProofs[]
  refine hsm.use ?_
  simp-implicitDefEqProofs[]
 obtain⟨ho,hf⟩:=hq
 have hf':0<=fuel/\fuel<=4000:=by simpa[inR] using hf
 obtain⟨F,rfl⟩:∃F:Nat,fuel=(F:Int):=⟨fuel.toNat,by omega⟩
 have hF:F<=4000:=by omega
 obtain⟨s',r,R⟩:=Sc G hK hS (l:=l) (us:=us) (fuel:=4000) (by omega) (by omega) ho (Vi _)
 have hle:=R.left
 have hsl:=R.said
 have hcl:=R.cells
 have hi4:=R.impl
 by_cases he:r≠ .st 3/\4000-F<=s'.left
 ·obtain⟨h3,h4⟩:=he
  have hn3:¬bj r=3:=λe=>h3 (endI_three.1 e)
  have R2:=tu G hK hS (by omega) (by omega) ho hF (zM R.ev hF h3 h4)
  have hi:=R2.impl
  have hs:=R2.spec
  have e1:lr (s'.dn (4000-F)) r=lr s' r:=rfl
  rw[e1] at hi hs
  have hsm:=CF G s'.said s'.cells (bj r) (DH r) (by omega) (by omega)
  have him:=OM G s'.said s'.cells (bj r) (DH r) (by omega) (by omega)
  refine hi.use ?_
  simp-implicitDefEqProofs[lr]
  refine hs.use ?_
  simp-implicitDefEqProofs[lr]
  refine hsm.use ?_
  simp-implicitDefEqProofs[]
  refine hi4.use ?_
  simp-implicitDefEqProofs[lr,hn3]
  refine him.use ?_
  simp-implicitDefEqProofs[]
 ·have he':r= .st 3\/s'.left<4000-F:=by
   by_cases h3:r= .st 3
   ·exact .inl h3
   ·exact .inr (by have:=not_and.1 he h3;omega)
  obtain⟨s1,hE,hp⟩:=Co R.ev hF he'
  have R2:=tu G hK hS (by omega) (by omega) ho hF hE
  have hi:=R2.impl
  have hs:=R2.spec
  have hs1:=R2.said
  have hc1:=R2.cells
  have he3:bj (O5.st 3:O5 Int)=3:=rfl
  have hv3:DH (O5.st 3:O5 Int)=0:=rfl
  have hsm:=CF G s1.said s1.cells 3 0 (by omega) (by omega)
  refine hi.use ?_
  simp-implicitDefEqProofs[lr,he3,hv3]
  refine hs.use ?_
  simp-implicitDefEqProofs[lr,he3,hv3]
  refine hsm.use ?_
  simp-implicitDefEqProofs[]
  refine hi4.use ?_
  simp-implicitDefEqProofs[lr]
  refine(BP G s'.said s1.said (by omega) hp).use ?_
  simp-implicitDefEqProofs[]
end
end Go.Proofs.YtokiapglmedipaaGreatDoor
namespace Go.Proofs.YtokiapglmedipaaGreatDoor
open Go Go.Aw Go.ChangeShapes Go.WideShapes Go.ChangeAt Go.RowKit
set_option maxRecDepth 100000
abbrev PM:TypeId:=24
abbrev SD:TypeId:=22
abbrev TY:TypeId:=122
abbrev Pv:TypeId:=55
abbrev Sk:TypeId:=9
abbrev MU:TypeId:=120
abbrev Pj:TypeId:=206
abbrev OB:TypeId:=204
abbrev PH:TypeId:=245
abbrev OZ:TypeId:=3
abbrev QD:TypeId:=4
abbrev Gh:TypeId:=160
abbrev Ks:TypeId:=240
abbrev Nx:TypeId:=241
abbrev HN:TypeId:=45
abbrev CL:TypeId:=5
theorem Sp:Kids Tryz.prog (· <Tryz.prog.types.size):=kids_rows (by kernel_rfl) (by kernel_rfl)
theorem RF:∀t e,t<Tryz.prog.types.size->Tryz.prog.underlying t=some (.slice e)->0<Tryz.prog.cellsOf e:=slices_full_of Tryz.prog (by kernel_rfl)
def Mu:List TypeId:=[PM,SD,TY,Pv,Sk,MU,Pj,OB,PH,OZ,QD,Gh,Ks]
theorem Kz:Plain Tryz.prog Mu=true:=by kernel_rfl
theorem Ua:ownKnob Tryz.prog.godebug=none:=by kernel_rfl
theorem AD{H:Type}:∀l:List (DataW H),Rows.uptoBulkAll l=(l.map Rows.uptoBulk).sum
 |[]=>by simp[Rows.uptoBulkAll]
 |d::r=>by simp[Rows.uptoBulkAll,AD r]
theorem NF{H:Type}:BulkOk (Rows.uptoBulk (H:=H)) where
 lit:=λl=>by cases l<;>simp[Rows.uptoBulk]
 str:=λs=>by simp[Rows.uptoBulk]
 nil:=by simp[Rows.uptoBulk]
 slice:=λes sp=>by simp only[Rows.uptoBulk,AD];omega
 agg:=λps=>by simp only[Rows.uptoBulk,AD];omega
theorem KC{t e:TypeId}{vs:List PV}(h:Conf Tryz.prog t vs)(hu:Tryz.prog.underlying t=some (.slice e)):∃es,vs=[.lst (Tryz.prog.cellsOf e) es]/\es.length<=9223372036854775807/\∀x∈es,Conf Tryz.prog e x:=by
 cases h with
 |sl es e' hl hs=>rw[hu] at e';cases e';exact⟨es,rfl,hl,hs⟩
 |bool b e=>rw[e] at hu;cases hu
 |int n e=>rw[e] at hu;cases hu
 |str s e=>rw[e] at hu;cases hu
 |st vs e=>rw[e] at hu;cases hu
 |arr vs e=>rw[e] at hu;cases hu
def G0:al:=λg=>if g=gn then some fz else if g=db then some [.tbl opK opV] else none
theorem Pu:∀k,iS Tryz.prog (k+10) Gh (Rows.laid_loop_example_wholeway_impl_keys (H:=Unit))=fz:=λk=>by kernel_rfl
theorem TM{W:World}{laid:List (String × DataW Unit)}(hL:laidMet Tryz.prog laid W)(h1:("loop.example/wholeway/impl.keys",Rows.laid_loop_example_wholeway_impl_keys)∈laid)(h2:("loop.example/wholeway/impl.opSign",Rows.laid_loop_example_wholeway_impl_opSign)∈laid):
 ∀g cs,G0 g=some cs->g<W.heap.size/\∀(j:Nat) (c:PV),cs[j]?=some c->∃v,W.cell? ⟨g,j,none⟩=some v/\PRel W (· <W.heap.size) c v:=by
 intro g cs h
 unfold G0 at h
 split at h
 ·rename_i e;subst e;cases h
  exact Js Kz hL (n:= "loop.example/wholeway/impl.keys") (d:=Rows.laid_loop_example_wholeway_impl_keys) (t:=Gh) h1 (by kernel_rfl) (by kernel_rfl) (by decide) Pu
 ·split at h
  ·rename_i e;subst e;cases h
   exact Ld Kz hL (n:= "loop.example/wholeway/impl.opSign") h2 (t:=Nx) (k:=OZ) (e:=Ks) (by kernel_rfl) (by kernel_rfl) (by kernel_rfl) (.inl ⟨.i64,by kernel_rfl⟩) (by decide) (by kernel_rfl) (by kernel_rfl) (λm=>by kernel_rfl)
  ·cases h
def HC:List TypeId:=HN::CL::Mu
theorem PS:Plain Tryz.prog HC=true:=by kernel_rfl
theorem FX{vs:List PV}(h:Conf Tryz.prog HN vs):∃l:List Int,vs=[rn l]/\l.length<=9223372036854775807/\Byt l:=by
 obtain⟨es,rfl,hl,h4⟩:=KC h (e:=CL) (by kernel_rfl)
 have hk:∀x∈es,∃n:Int,x=[PV.int .u8 n]/\(Lit.int .u8 n).wf=true:=λx hx=>KV (h4 x hx) (by kernel_rfl)
 obtain⟨l,rfl⟩:=Ht (λn:Int=>[PV.int .u8 n]) (λx hx=>by obtain⟨n,e,_⟩:=hk x hx;exact⟨n,e⟩)
 rw[show Tryz.prog.cellsOf CL=1 by kernel_rfl]
 refine⟨l,rfl,by rwa[VH] at hl,λn hn=>?_⟩
 obtain⟨m,e,hw⟩:=hk [PV.int .u8 n] (Vs.2 ⟨n,hn,rfl⟩)
 cases e
 simp[Lit.wf,IntKind.min,IntKind.max,IntKind.bits,IntKind.signed] at hw
 omega
end Go.Proofs.YtokiapglmedipaaGreatDoor
