/-
  Contracts and lemmas that the card needs, part 9.
-/
import Derived.Test.YtokiapglmedipaaGreatDoorIn8
namespace Go.Proofs.YtokiapglmedipaaGreatDoor
open Go Go.Aw
set_option maxRecDepth 100000
set_option maxHeartbeats 4000000
section
variable (G:al)
def rq(l:List Fd)(fuel:Nat)(s:S5):List PV:=[fdL l,.int .i64 fuel,.int .i64 ((fuel-s.left:Nat):Int),aO s.said]++s.cells.map λn=> .int .i64 n
theorem Ad{hF:List AO}{m:Nat}{L:List (Nat × AV)}:∀{l1:List (Nat × AV)},(∀x∈l1,Aw.look L x.1=x.2/\below m x.2)->FzA hF m L l1
 |[],_=>trivial
 |x::r,h=>⟨by obtain⟨q1,q2⟩:=h x (by simp);rw[q1];exact .keep q2 .nil,Ad λy hy=>h y (by simp[hy])⟩
theorem Ql{l:List Fd}{fuel:Nat}{sv:AV}{sid:Nat}{s:S5}{h:List AO}{r2 r5:AO}{n:Nat}(H:MI 3 l fuel sv sid s h)(h2:h[2]?=some r2)(h4:h[4]?=some (.row 1 [[.ptr 3 20 0 0]]))(h5:h[5]?=some r5)(k2:okO h.length r2)(k5:okO h.length r5)(hs:sid=3\/7<=sid)
 {l1:List (Nat × AV)}(hl:∀x∈l1,below h.length x.2)(hl1:∀x∈l1,Aw.look l1 x.1=x.2):
 ∃h',(∀L,(∀x∈l1,Aw.look L x.1=x.2)->Wk 0 (ah n L) h (ah n l1) h')/\h'.length=h.length/\h'[2]?=some r2/\h'[4]?=some (.row 1 [[.eptr (rq l fuel s) 0]])/\h'[5]?=some r5:=by
 have hl3:=H.lt
 have hl5:=(UL.1 h5).1
 have hm:=H.men
 obtain⟨X,hX⟩:∃X:Nat->AO->AO,X=λi o=>if i=sid/\sid≠3 then o else .dead:=⟨_,rfl⟩
 obtain⟨Y,hY⟩:∃Y:Nat->AO->AO,Y=λi o=>if i=3 then .row 20 [(rq l fuel s).map .p] else if i=2\/i=4\/i=5 then o else .dead:=⟨_,rfl⟩
 have hF1:View (h.mapIdx X) sv (aO s.said):=by
  have hsd:=H.said
  have hne:=H.neS
  generalize s.said=xs at hsd
  cases hsd with
  |nn _ _=>exact .nils _
  |ss _ _ q=>
   have hn3:sid≠3:=λe=>hne (by simp) e.symm
   exact gv (by rw[List.getElem?_mapIdx,q,hX];simp[hn3,bm,lm])
 have hcs:∀xs:List Int,Fzs (h.mapIdx X) h.length (xs.map λn=> .p (.int .i64 n)) (xs.map λn=> .p (.int .i64 n)):=λxs=>by
  induction xs with
  |nil=>exact .nil
  |cons x r ih=>exact .keep (by simp[below]) ih
 have eX:∀i o,X i o=if i=sid/\sid≠3 then o else .dead:=λ_ _=>by rw[hX]
 have eY:∀i o,Y i o=if i=3 then .row 20 [(rq l fuel s).map .p] else if i=2\/i=4\/i=5 then o else .dead:=λ_ _=>by rw[hY]
 have t1:Thn (h.mapIdx X) h.length h (h.mapIdx X) (h.mapIdx Y):=Dv h X Y λi o hi=>by
  by_cases i3:i=3
  ·subst i3
   rw[hm] at hi
   cases hi
   refine .inr (.inr (.inr ⟨by rw[eX,if_neg (by omega)],20,_,(rq l fuel s).map .p,rfl,by rw[eY,if_pos rfl],?_⟩))
   simp only[rq,List.map_append,Vn,List.map_nil,List.map_map]
   exact .keep (by simp[below]) (.keep (by simp[below]) (.keep (by simp[below]) (.one hF1 (hcs s.cells))))
  by_cases i2:i=2\/i=4\/i=5
  ·refine .inl ⟨by rw[eX,if_neg (by omega)],by rw[eY,if_neg i3,if_pos i2],?_⟩
   rcases i2 with rfl|rfl|rfl
   ·rw[h2] at hi;cases hi;exact k2
   ·rw[h4] at hi;cases hi;simp[okO,below,af];omega
   ·rw[h5] at hi;cases hi;exact k5
  by_cases is:i=sid/\sid≠3
  ·exact .inr (.inr (.inl ⟨by rw[eX,if_pos is],by rw[eY,if_neg i3,if_neg i2]⟩))
  ·exact .inr (.inl ⟨by rw[eX,if_neg is],by rw[eY,if_neg i3,if_neg i2]⟩)
 have w1:∀L,(∀x∈l1,Aw.look L x.1=x.2)->Wk 0 (ah n L) h (ah n l1) (h.mapIdx Y):=λL hL=>ti (VQ _) t1 (Ad λx hx=>⟨hL x hx,hl x hx⟩)
 have g:∀i o,h[i]?=some o->(h.mapIdx Y)[i]?=some (Y i o):=λi o q=>by rw[List.getElem?_mapIdx,q];rfl
 have hlen:(h.mapIdx Y).length=h.length:=List.length_mapIdx
 generalize h.mapIdx Y=h1 at w1 g hlen
 have g3:h1[3]?=some (.row 20 [(rq l fuel s).map .p]):=by rw[g 3 _ hm,eY,if_pos rfl]
 have g2:h1[2]?=some r2:=by rw[g 2 _ h2,eY,if_neg (by omega),if_pos (by omega)]
 have g4:h1[4]?=some (.row 1 [[.ptr 3 20 0 0]]):=by rw[g 4 _ h4,eY,if_neg (by omega),if_pos (by omega)]
 have g5:h1[5]?=some r5:=by rw[g 5 _ h5,eY,if_neg (by omega),if_pos (by omega)]
 obtain⟨X2,hX2⟩:∃X:Nat->AO->AO,X=λi o=>if i=3 then o else .dead:=⟨_,rfl⟩
 obtain⟨Y2,hY2⟩:∃Y:Nat->AO->AO,Y=λi o=>if i=4 then .row 1 [[.eptr (rq l fuel s) 0]] else if i=2\/i=5 then o else .dead:=⟨_,rfl⟩
 have eX2:∀i o,X2 i o=if i=3 then o else .dead:=λ_ _=>by rw[hX2]
 have eY2:∀i o,Y2 i o=if i=4 then .row 1 [[.eptr (rq l fuel s) 0]] else if i=2\/i=5 then o else .dead:=λ_ _=>by rw[hY2]
 have f3:(h1.mapIdx X2)[3]?=some (.row 20 [(rq l fuel s).map .p]):=by rw[List.getElem?_mapIdx,g3];simp[eX2]
 have t2:Thn (h1.mapIdx X2) h1.length h1 (h1.mapIdx X2) (h1.mapIdx Y2):=Dv h1 X2 Y2 λi o hi=>by
  by_cases i4:i=4
  ·subst i4
   rw[g4] at hi
   cases hi
   exact .inr (.inr (.inr ⟨by rw[eX2,if_neg (by omega)],1,_,_,rfl,by rw[eY2,if_pos rfl],.ptr f3 rfl .nil⟩))
  by_cases i2:i=2\/i=5
  ·refine .inl ⟨by rw[eX2,if_neg (by omega)],by rw[eY2,if_neg i4,if_pos i2],?_⟩
   rw[hlen]
   rcases i2 with rfl|rfl
   ·rw[g2] at hi;cases hi;exact k2
   ·rw[g5] at hi;cases hi;exact k5
  by_cases i3:i=3
  ·exact .inr (.inr (.inl ⟨by rw[eX2,if_pos i3],by rw[eY2,if_neg i4,if_neg i2]⟩))
  ·exact .inr (.inl ⟨by rw[eX2,if_neg i3],by rw[eY2,if_neg i4,if_neg i2]⟩)
 have w2:Wk 0 (ah n l1) h1 (ah n l1) (h1.mapIdx Y2):=ti (VQ _) t2 (Ad λx hx=>⟨hl1 x hx,by rw[hlen];exact hl x hx⟩)
 refine⟨_,λL hL=>(w1 L hL).trans w2,by rw[List.length_mapIdx,hlen],?_,?_,?_⟩
 ·rw[List.getElem?_mapIdx,g2];simp[eY2]
 ·rw[List.getElem?_mapIdx,g4];simp[eY2]
 ·rw[List.getElem?_mapIdx,g5];simp[eY2]
theorem Nw(l:List Fd)(us:List Int)(fuel:Nat):pu l us fuel=[.row 1 [[.p (fdL l)]],.row 1 [[.p (aO us)]],.row 4 [[.nils,.p (.int .i64 0),.p (.int .i64 0),.nils]],.row 20 [[.p (fdL l),.p (.int .i64 fuel),.p (.int .i64 0),.nils,.p (.int .i64 0),.p (.int .i64 0),.p (.int .i64 0),.p (.int .i64 0),.p (.int .i64 0),.p (.int .i64 0),.p (.int .i64 0),.p (.int .i64 0),.p (.int .i64 0),.p (.int .i64 0),.p (.int .i64 0),.p (.int .i64 0),.p (.int .i64 0),.p (.int .i64 0),.p (.int .i64 0),.p (.int .i64 0)]],.row 1 [[.ptr 3 20 0 0]],.row 4 [[.nils,.p (.int .i64 0),.p (.int .i64 0),.nils]]]:=by
 simp[pu,ju,s0,List.replicate]
theorem tv:AK.whole iv=FK.ak gC:=rfl
theorem CV{l:List Fd}{us:List Int}{fuel:Nat}{s':S5}{r:O5 Int}(hc:aG l=0)(hz:aN l<=1073741824)(hl:0<l.length)(hu:∀n∈us,V5 n)(hfu:fuel<=4000)(hE:Ev l (.cal (l.length-1) us (s0 fuel) s' r)):
 VF Tryz.prog G eb [.agg [.p (fdL l)],.p (aO us),.p (.int .i64 fuel)] (.tup [.agg ((Bf s' r).map .p),.p (.int .i64 ((fuel-s'.left:Nat):Int))]):=by
 have key:AC Tryz.prog G eb [.agg [.p (fdL l)],.p (aO us),.p (.int .i64 fuel)] [] λx h=>∃sv cid,x= .ret (.tup [.agg [sv,.p (.int .i64 (bH r)),.p (.int .i64 (Bh r)),.sl cid 1 0 16],.p (.int .i64 ((fuel-s'.left:Nat):Int))])/\View h sv (aO s'.said)/\h[cid]?=some (lm s'.cells):=by
  refine AC.goK te tv ?_
  simp-implicitDefEqProofs[iv,gC]
  rw[←Nw]
  refine yy (λ_:List AO=>ah 33 [(6,.ptr 2 4 0 0),(7,.p (.int .i64 0)),(8,.ptr 4 1 0 0),(9,.ptr 5 4 0 0)]) (λh=>h)
   (λh=>s'.cells.length=16/\h[2]?=some (.row 4 [[.nils,.p (.int .i64 0),.p (.int .i64 0),.nils]])/\h[4]?=some (.row 1 [[.eptr (rq l fuel s') 0]])/\h[5]?=some (.row 4 [[.nils,.p (.int .i64 (bH r)),.p (.int .i64 (Bh r)),.nils]])) ?_ ?_
  ·simp-implicitDefEqProofs[]
   refine(KX G dm [.ptr 4 1 0 0,.ptr 0 1 0 0,.ptr 1 1 0 0,.ptr 5 4 0 0] (pu l us fuel) (λx h'=>∃h2 sv sid,x= .ret (.p (.int .i64 (bH r)))/\MI 3 l fuel sv sid s' h'/\(sid=3\/7<=sid)/\h'[2]?=some (.row 4 [[.nils,.p (.int .i64 0),.p (.int .i64 0),.nils]])/\h'[4]?=some (.row 1 [[.ptr 3 20 0 0]])/\h'[5]?=some (.row 4 [[.nils,.p (.int .i64 0),.p (.int .i64 (Bh r)),.nils]])/\h2=h') ?_).mono ?_
   ·refine(PX G hc hz hl hu hfu hE).mono ?_
    rintro x h' ⟨sv,sid,h2,q1,q2,q3,q4⟩
    have e6:h2[6]?=some (.row 1 [[.p (.int .i64 0)]]):=(q2.2 6 (by simp[pu]) (by simp)).trans rfl
    have e2:h2[2]?=some (.row 4 [[.nils,.p (.int .i64 0),.p (.int .i64 0),.nils]]):=(q2.2 2 (by simp[pu]) (by simp)).trans rfl
    have e4:h2[4]?=some (.row 1 [[.ptr 3 20 0 0]]):=(q2.2 4 (by simp[pu]) (by simp)).trans rfl
    have e5:h2[5]?=some (.row 4 [[.nils,.p (.int .i64 0),.p (.int .i64 0),.nils]]):=(q2.2 5 (by simp[pu]) (by simp)).trans rfl
    have hl6:=(UL.1 e6).1
    have hlen:(pu l us fuel).length=6:=by simp[pu]
    rw[hlen]
    cases r with
    |ok n=>
     obtain⟨rfl,rfl⟩:=q4
     refine⟨0,.inl ⟨rfl,rfl⟩,by rw[UM (by omega)];exact e6,_,sv,sid,rfl,q1.frame (by simp) (by rw[UM (by omega),UM (by omega)]) (by rw[UM (by omega),UM (by omega)]),q3,?_,?_,?_,rfl⟩
     ·rw[UM (by omega),UM (by omega)];exact e2
     ·rw[UM (by omega),UM (by omega)];exact e4
     ·rw[UM (by omega),UQ (by omega)];rfl
    |st c=>
     obtain⟨rfl,rfl⟩:=q4
     refine⟨c,.inr rfl,e6,_,sv,sid,rfl,q1.frame (by simp) (by rw[UM (by omega)]) (by rw[UM (by omega)]),q3,?_,?_,?_,rfl⟩
     ·rw[UM (by omega)];exact e2
     ·rw[UM (by omega)];exact e4
     ·rw[UM (by omega)];exact e5
   ·rintro z h' ⟨h2,sv,sid,rfl,q1,q2,q3,q4,q5,rfl⟩
    simp-implicitDefEqProofs[aa,q5]
    have hl5:=(UL.1 q5).1
    have hH:=q1.frame (h':=h2.set 5 (.row 4 [[.nils,.p (.int .i64 (bH r)),.p (.int .i64 (Bh r)),.nils]])) (by simp) (by rw[UM (by omega)]) (by rw[UM (by omega)])
    obtain⟨h3,w1,w2,w3,w4,w5⟩:=Ql (n:=33) (l1:=[(6,.ptr 2 4 0 0),(7,.p (.int .i64 0)),(8,.ptr 4 1 0 0),(9,.ptr 5 4 0 0)]) hH ((UM (by omega)).trans q3) ((UM (by omega)).trans q4) (UQ hl5) (by simp[okO,below,af]) (by simp[okO,below,af]) q2
     (by simp[below];omega) (by simp)
    exact⟨h3,⟨q1.len,w3,w4,w5⟩,w1 _ (by simp)⟩
  ·rintro h ⟨qc,q2,q4,q5⟩
   have hch:(cd 1 (rq l fuel s') 4 16)=s'.cells.map λn=>[.int .i64 n]:=by
    unfold rq
    generalize s'.cells=cs at qc
    match cs,qc with
    |[c0,c1,c2,c3,c4,c5,c6,c7,c8,c9,c10,c11,c12,c13,c14,c15],_=>rfl
   have hml:(rq l fuel s').length=20:=by simp[rq,qc]
   have hm2:∀q,(rq l fuel s')[2]'q= .int .i64 ((fuel-s'.left:Nat):Int):=λ_=>rfl
   have hm3:∀q,(rq l fuel s')[3]'q=aO s'.said:=λ_=>rfl
   have hcl:=tS G s'.cells 16 (by omega) (by omega) (by omega) h
   rw[trO,US (l:=s'.cells) (by omega)] at hcl
   have hl5:=(UL.1 q5).1
   have a5:∀os,(h++os)[5]?=_:=λos=>(UN hl5).trans q5
   have a4:∀os,(h++os)[4]?=_:=λos=>(UN (by omega)).trans q4
   have a2:∀os,(h++os)[2]?=_:=λos=>(UN (by omega)).trans q2
   simp-implicitDefEqProofs[q2,q4,q5, ↓hch,hml,hm2,hm3]
   refine hcl.mono ?_
   rintro z h' ⟨rfl,rfl⟩
   have s55:∀os z,((h++os).set 5 z)[5]?=some z:=λos z=>UQ (by simp;omega)
   have s54:∀os z,((h++os).set 5 z)[4]?=_:=λos z=>(UM (by omega)).trans (a4 os)
   have s52:∀os z,((h++os).set 5 z)[2]?=_:=λos z=>(UM (by omega)).trans (a2 os)
   have s22:∀os z w,(((h++os).set 5 z).set 2 w)[2]?=some w:=λos z w=>UQ (by simp;omega)
   have s24:∀os z w,(((h++os).set 5 z).set 2 w)[4]?=_:=λos z w=>(UM (by omega)).trans (s54 os z)
   simp-implicitDefEqProofs[aa, ↓a5, ↓a4, ↓a2, ↓s55, ↓s54, ↓s52, ↓s22, ↓s24,hm2,hm3,hml]
   refine⟨_,_,⟨rfl,rfl⟩,.p _,?_⟩
   rw[UM (by omega),UM (by omega),UT (by omega)]
   simp
 refine key.freezeR (λt v h e=>by obtain⟨_,_,e,_⟩:=e;cases e) λv h e=>?_
 obtain⟨sv,cid,e,h1,h2⟩:=e
 cases e
 have v2:=gv (l:=s'.cells) h2
 have hlc:s'.cells.length=16:=(cW hE ⟨nG fuel,hu⟩).1.len
 rw[hlc] at v2
 exact .tup (.agg (.one h1 (.keep (by simp) (.keep (by simp) (.one v2 .nil)))) (.keep (by simp) .nil)) .nil
end
section
variable (G:al)
theorem Fa(n:Int):VF Tryz.prog G cz [.p (.int .i64 n)] (.p (.bool (!inR n 0 255))):=by
 refine AC.go uH ?_
 simp-implicitDefEqProofs[ni]
 refine(Eg G n).use ?_
 simp-implicitDefEqProofs[]
def vH(us:List Int):Option Nat:=us.findIdx? λn=> !inR n 0 255
theorem GB(us:List Int)(hl:us.length<=1000000000000):VF Tryz.prog G dJ [.p (aO us),.fn (.func cz) []] (.p (.int .i64 (ixI (vH us)))):=by
 have hnL:aO us= .lst 1 (us.map λn=>[.int .i64 n]):=rfl
 refine AC.go nM ?_
 simp-implicitDefEqProofs[gY,hnL]
 refine aJ (λi:Nat=>ah 19 [(8,.p (.int .i64 i)),(7,.p (.int .i64 us.length)),(0,.p (.lst 1 (us.map λn=>[.int .i64 n]))),(1,.fn (.func cz) [])]) (λ_=>[]) (λi=>i<=us.length/\∀n∈us.take i,inR n 0 255=true) (λi=>us.length-i) 0 (by simp) ?_ ?_
 ·exact bp rfl (by simp[below])
 intro i ⟨hi,hn⟩
 have hwi:=w1 (i:=i) (by omega)
 by_cases h1:i<us.length
 ·have hg:us[i]?=some us[i]:=UO h1
  simp-implicitDefEqProofs[h1,hg]
  refine(Fa G us[i]).use ?_
  cases hb:inR us[i] 0 255 with
  |false=>
   have hf:vH us=some i:=by
    rw[vH,Vg]
    exact⟨h1,by simp[hb],λj hj=>by have:=hn us[j] (VV.2 ⟨j,by omega,rfl⟩);simp[this]⟩
   simp-implicitDefEqProofs[hf,ixI]
  |true=>
   simp-implicitDefEqProofs[hwi]
   refine⟨i+1,⟨by omega,λp hp=>?_⟩,by omega,bp rfl (by simp[below])⟩
   rw[aq h1] at hp
   rcases UW.1 hp with hp|hp
   ·exact hn p hp
   ·rw[UY.1 hp];exact hb
 ·have hie:i=us.length:=by omega
  subst hie
  rw[List.take_length] at hn
  have hf:vH us=none:=by
   rw[vH,Vu]
   intro x hx
   simp[hn x hx]
  simp-implicitDefEqProofs[hf,ixI]
theorem Kh(us:List Int)(hl:us.length<=1000000000000):VF Tryz.prog G cP [.p (aO us),.fn (.func cz) []] (.p (.bool (!us.all λv=>inR v 0 255))):=by
 refine AC.go lF ?_
 simp-implicitDefEqProofs[fe]
 refine(GB G us hl).use ?_
 simp-implicitDefEqProofs[]
 cases hb:vH us with
 |none=>
  have:(us.all λv=>inR v 0 255)=true:=by
   rw[vH,Vu] at hb
   rw[UU]
   intro x hx
   simpa using hb x hx
  rw[this];simp[ixI]
 |some i=>
  have:(us.all λv=>inR v 0 255)=false:=by
   rw[vH,Vg] at hb
   obtain⟨h1,h2,_⟩:=hb
   rw[List.all_eq_false]
   exact⟨us[i],Ve h1,by simpa using h2⟩
  rw[this];simp[ixI]
def nF(us:List Int)(n:Nat):Bool:=decide (us.length=n)&&us.all λv=>inR v 0 255
theorem Iq(us:List Int)(n:Nat)(hl:us.length<=1000000000000):VF Tryz.prog G kT [.p (aO us),.p (.int .i64 n)] (.p (.bool (nF us n))):=by
 have hnL:aO us= .lst 1 (us.map λn=>[.int .i64 n]):=rfl
 refine AC.go zw ?_
 by_cases h:us.length=n
 ·have h':(us.length:Int)=(n:Int):=by omega
  simp-implicitDefEqProofs[kI,hnL,h']
  rw[←hnL]
  refine(Kh G us hl).use ?_
  simp-implicitDefEqProofs[nF,h]
 ·have h':¬(us.length:Int)=(n:Int):=by omega
  simp-implicitDefEqProofs[kI,hnL,h',nF,h]
def jk(l:List Fd)(us:List Int):Bool:=decide (aG l=0)&&(match l[l.length-1]? with|some f=>nF us f.params.length|none=>false)
variable (hK:G fv=some ew) (hS:G cJ=some [.tbl opK opV])
include hK hS
theorem KW(l:List Fd)(us:List Int)(hz:aN l<=1073741824)(hl:us.length<=1000000000000):VF Tryz.prog G mB [.agg [.p (fdL l)],.p (aO us)] (.p (.bool (jk l us))):=by
 have hfl:fdL l= .lst 3 (l.map Fd.cs):=rfl
 have hll:l.length<=aN l:=gw l
 refine AC.go Bp ?_
 simp-implicitDefEqProofs[rC]
 refine(Mn G hK hS l hz).use ?_
 by_cases hc:aG l=0
 ·have h0:0<l.length:=by have:=(iR hc).1;cases l<;>simp_all
  have hn1:IntKind.i64.wrap ((l.length:Int)-1)=((l.length-1:Nat):Int):=by rw[ab (by omega) (by omega)];omega
  have hg:l[l.length-1]?=some l[l.length-1]:=UO (by omega)
  generalize l[l.length-1]=f at hg
  have hfc:f.cs=[.str f.name,aw f.params,smL f.body]:=rfl
  have hpL:aw f.params= .lst 1 (f.params.map λw=>[.str w]):=rfl
  simp-implicitDefEqProofs[hc,hfl,hn1,hg,hfc,hpL]
  refine(Iq G us f.params.length hl).use ?_
  simp-implicitDefEqProofs[jk,hc,hg]
 ·simp-implicitDefEqProofs[hc,jk]
end
section
variable (G:al)
variable (hK:G fv=some ew) (hS:G cJ=some [.tbl opK opV])
include hK hS
theorem Bb{l:List Fd}{us:List Int}{fuel:Nat}{s':S5}{r:O5 Int}(hz:aN l<=1073741824)(hl:us.length<=1000000000000)(ho:jk l us=true)(hc:aG l=0)(h0:0<l.length)(hu:∀n∈us,V5 n)(hfu:fuel<=4000)(hE:Ev l (.cal (l.length-1) us (s0 fuel) s' r)):
 VF Tryz.prog G eu [.agg [.p (fdL l)],.p (aO us),.p (.int .i64 fuel)] (.tup [.agg ((Bf s' r).map .p),.p (.bool true)]):=by
 have hf:inR (fuel:Int) 0 4000=true:=by simp[inR];omega
 refine AC.go ta ?_
 simp-implicitDefEqProofs[lM]
 refine(KW G hK hS l us hz hl).use ?_
 simp-implicitDefEqProofs[ho]
 refine(mW G fuel 0 4000).use ?_
 simp-implicitDefEqProofs[hf]
 refine(CV G hc hz h0 hu hfu hE).use ?_
 simp-implicitDefEqProofs[Bf]
end
section
variable (G:al)
theorem FM(us:List Int)(hl:us.length<=1000000000000):VF Tryz.prog G jT [.p (aO us)] (.p (.bool (us.all λv=>inR v 0 255))):=by
 have hnL:aO us= .lst 1 (us.map λn=>[.int .i64 n]):=rfl
 refine AC.go vU ?_
 simp-implicitDefEqProofs[nZ,hnL]
 refine aJ (λi:Nat=>ah 16 [(3,.p (.int .i64 i)),(0,.p (.lst 1 (us.map λn=>[.int .i64 n])))]) (λ_=>[]) (λi=>i<=us.length/\∀n∈us.take i,inR n 0 255=true) (λi=>us.length-i) 0 (by simp) ?_ ?_
 ·exact bp rfl (by simp[below])
 intro i ⟨hi,hn⟩
 have hwi:=w1 (i:=i) (by omega)
 by_cases h1:i<us.length
 ·have hg:us[i]?=some us[i]:=UO h1
  simp-implicitDefEqProofs[h1,hg]
  refine(sw G us[i] 0 255).use ?_
  cases hb:inR us[i] 0 255 with
  |false=>
   have hf:(us.all λv=>inR v 0 255)=false:=by
    rw[List.all_eq_false]
    exact⟨us[i],Ve h1,by simp[hb]⟩
   simp-implicitDefEqProofs[hf]
  |true=>
   simp-implicitDefEqProofs[hwi]
   refine⟨i+1,⟨by omega,λp hp=>?_⟩,by omega,bp rfl (by simp[below])⟩
   rw[aq h1] at hp
   rcases UW.1 hp with hp|hp
   ·exact hn p hp
   ·rw[UY.1 hp];exact hb
 ·have hie:i=us.length:=by omega
  subst hie
  rw[List.take_length] at hn
  have hf:(us.all λv=>inR v 0 255)=true:=by
   rw[UU];exact hn
  simp-implicitDefEqProofs[hf]
theorem MC(l:List Fd)(us:List Int)(hz:aN l<=1073741824)(hl:us.length<=1000000000000):VF Tryz.prog G mF [.agg [.p (fdL l)],.p (aO us)] (.p (.bool (jk l us))):=by
 have hfl:fdL l= .lst 3 (l.map Fd.cs):=rfl
 have hnL:aO us= .lst 1 (us.map λn=>[.int .i64 n]):=rfl
 have hll:l.length<=aN l:=gw l
 refine AC.go Bt ?_
 simp-implicitDefEqProofs[rE]
 refine(DZ G l hz).use ?_
 by_cases hc:aG l=0
 ·have h0:0<l.length:=by have:=(iR hc).1;cases l<;>simp_all
  have hn1:IntKind.i64.wrap ((l.length:Int)-1)=((l.length-1:Nat):Int):=by rw[ab (by omega) (by omega)];omega
  have hg:l[l.length-1]?=some l[l.length-1]:=UO (by omega)
  generalize l[l.length-1]=f at hg
  have hfc:f.cs=[.str f.name,aw f.params,smL f.body]:=rfl
  have hpL:aw f.params= .lst 1 (f.params.map λw=>[.str w]):=rfl
  simp-implicitDefEqProofs[hc]
  refine(FM G us hl).use ?_
  cases hb:(us.all λv=>inR v 0 255) with
  |false=>simp-implicitDefEqProofs[jk,nF,hc,hg,hb]
  |true=>
   by_cases hq:us.length=f.params.length
   ·have hq':(us.length:Int)=(f.params.length:Int):=by omega
    simp-implicitDefEqProofs[hfl,hnL,hn1,hg,hfc,hpL,jk,nF,hc,hb,hq,hq']
   ·have hq':¬(us.length:Int)=(f.params.length:Int):=by omega
    simp-implicitDefEqProofs[hfl,hnL,hn1,hg,hfc,hpL,jk,nF,hc,hb,hq,hq']
 ·simp-implicitDefEqProofs[hc,jk]
theorem Bl{l:List Fd}{f:Fd}{us:List Int}{fuel:Nat}{s':S5}{r:O5 Int}(hz:aN l<=1073741824)(hl:us.length<=1000000000000)(ho:jk l us=true)(hc:aG l=0)(hf:l[l.length-1]?=some f)(hp:us.length=f.params.length)(hu:∀n∈us,V5 n)(hfu:fuel<=4000)(hE:Ev l (.cal (l.length-1) us (s0 fuel) s' r)):
 VF Tryz.prog G ed [.agg [.p (fdL l)],.p (aO us),.p (.int .i64 fuel)] (.tup [.agg ((Bf s' r).map .p),.p (.bool true)]):=by
 have hq:inR (fuel:Int) 0 4000=true:=by simp[inR];omega
 refine AC.go sW ?_
 simp-implicitDefEqProofs[lP]
 refine(MC G l us hz hl).use ?_
 simp-implicitDefEqProofs[ho]
 refine(sw G fuel 0 4000).use ?_
 simp-implicitDefEqProofs[hq]
 refine(Pp G hc hz hf hp hu hfu hE).use ?_
 simp-implicitDefEqProofs[Bf]
end
section
theorem yR{l:List Fd}(h:aG l=0):∃f,l[l.length-1]?=some f/\f.params.length<=3/\1<=l.length/\uB l=oc f.params.length:=by
 have hp:=((yX l).1 h).1
 obtain⟨⟨h1,_⟩,h2,_⟩:=(iT l).1 hp
 have hn:l.length-1<l.length:=by omega
 have hg:=UO hn
 refine⟨l[l.length-1],hg,?_,h1,?_⟩
 ·have:=h2 _ (Ve hn)
  simp only[jA,Vf,decide_eq_true_eq] at this
  exact this.1.2
 ·rw[uB,if_pos h,hg]
theorem yK{l:List Fd}(h:¬aG l=0):uB l=[]:=if_neg h
variable (G:al)
theorem DW(l:List Fd)(hz:aN l<=1073741824):VF Tryz.prog G fb [.agg [.p (fdL l)]] (.p (nsL (uB l))):=by
 have key:AC Tryz.prog G fb [.agg [.p (fdL l)]] [] λx h=>∃v,x= .ret v/\View h v (nsL (uB l)):=by
  refine AC.go uG ?_
  have hll:=fS l
  have hfl:fdL l= .lst 3 (l.map Fd.cs):=rfl
  simp-implicitDefEqProofs[mN]
  refine(DZ G l hz).use ?_
  by_cases h0:aG l=0
  case neg=>
   rw[yK h0]
   simp-implicitDefEqProofs[h0]
   exact View.sl _ 1 0 [] [] rfl (by simp) (by simp) (λi j e q e' a h=>by simp at h)
  obtain⟨f,hg,hf3,hl1,hi⟩:=yR h0
  have hw:IntKind.i64.wrap ((l.length:Int)-1)=((l.length-1:Nat):Int):=by rw[ab (by omega) (by omega)];omega
  have hcs:=f.cs_eq'
  rw[hi]
  have hsl:∀l,aw l= .lst 1 (l.map λw=>[.str w]):=λ_=>rfl
  simp-implicitDefEqProofs[h0,hfl,hw,hg,hcs,hsl]
  refine(GJ G f.params.length hf3).use ?_
  simp-implicitDefEqProofs[]
  exact .p _
 exact key.freezeR (λt v h ⟨_,e,_⟩=>by cases e) λv h ⟨u,e1,e2⟩=>by cases e1;exact .one e2 .nil
variable (hT:G pF=some pvTries) (hK:G fv=some ew) (hS:G cJ=some [.tbl opK opV])
include hT hK hS
theorem EQ(l:List Fd)(hz:aN l<=1073741824):AC Tryz.prog G eS [.agg [.p (fdL l)]] [] (MkW dg true [nsL (uB l)]):=by
 refine AC.go vg ?_
 have hll:=fS l
 have hfl:fdL l= .lst 3 (l.map Fd.cs):=rfl
 simp-implicitDefEqProofs[mO]
 refine(Mn G hK hS l hz).use ?_
 by_cases h0:aG l=0
 case neg=>
  rw[yK h0]
  simp-implicitDefEqProofs[h0]
  exact⟨[.nils],[],rfl,.nils 1 .nil,List.nodup_nil⟩
 obtain⟨f,hg,hf3,hl1,hi⟩:=yR h0
 have hw:IntKind.i64.wrap ((l.length:Int)-1)=((l.length-1:Nat):Int):=by rw[ab (by omega) (by omega)];omega
 have hcs:=f.cs_eq'
 rw[hi]
 have hsl:∀l,aw l= .lst 1 (l.map λw=>[.str w]):=λ_=>rfl
 have hA:=λh:List AO=>AC.mkLift nS (Jq G hT f.params.length hf3) (h:=h) (by simp)
 simp-implicitDefEqProofs[h0,hfl,hw,hg,hcs,hsl]
 refine(hA _).mono ?_
 rintro x h2 ⟨vs,I,os,rfl,rfl,ho,nd,hf⟩
 obtain⟨v,rfl⟩:=eE ho
 simp-implicitDefEqProofs[aa,dg]
 exact⟨[v],I,rfl,ho,nd⟩
theorem Ee(l:List Fd)(hz:aN l<=1073741824):VF Tryz.prog G eS [.agg [.p (fdL l)]] (.p (nsL (uB l))):=
 AC.mkFreeze nS (EQ G hT hK hS l hz)
end
section
variable (G:al)
variable (hK:G fv=some ew) (hS:G cJ=some [.tbl opK opV])
theorem BJ{l:List Fd}{us:List Int}(h:jk l us=true):aG l=0/\0<l.length/\(∃f,l[l.length-1]?=some f/\us.length=f.params.length)/\∀n∈us,V5 n:=by
 simp only[jk,Vf,decide_eq_true_eq] at h
 obtain⟨h1,h2⟩:=h
 refine⟨h1,by have:=(iR h1).1;cases l<;>simp_all,?_⟩
 split at h2
 ·rename_i f hf
  simp only[nF,Vf,decide_eq_true_eq,UU] at h2
  exact⟨⟨f,hf,h2.1⟩,λn hn=>by have:=h2.2 n hn;simpa[inR,V5] using this⟩
 ·cases h2
include hK hS
end
section
theorem MN{l:List Fd}{K fuel:Nat}{us:List Int}{s':S5}{r:O5 Int}(h:Ev l (.cal K us (s0 fuel) s' r)):s'.said.length<=fuel:=by
 have h1:M5 s'<=M5 (s0 fuel)/\s'.left<=(s0 fuel).left:=mu h
 have h2:M5 (s0 fuel)=fuel:=by simp[M5,s0]
 have h3:=h1.1
 rw[h2] at h3
 simp only[M5] at h3
 omega
theorem MV{l:List Fd}{K fuel:Nat}{us:List Int}{s':S5}{r:O5 Int}(h:Ev l (.cal K us (s0 fuel) s' r)):s'.left<=fuel:=(show M5 s'<=M5 (s0 fuel)/\s'.left<=(s0 fuel).left from mu h).2
variable (G:al)
structure Runs (l:List Fd) (us:List Int) (fuel:Nat) (s':S5) (r:O5 Int):Prop where
 ev:Ev l (.cal (l.length-1) us (s0 fuel) s' r)
 said:s'.said.length<=4000
 cells:s'.cells.length=16
 left:s'.left<=fuel
 impl:VF Tryz.prog G eu [.agg [.p (fdL l)],.p (aO us),.p (.int .i64 fuel)] (.tup [.agg ((Bf s' r).map .p),.p (.bool true)])
 spec:VF Tryz.prog G ed [.agg [.p (fdL l)],.p (aO us),.p (.int .i64 fuel)] (.tup [.agg ((Bf s' r).map .p),.p (.bool true)])
theorem RX(xs:List Int)(hb:xs.length<=1048576):VF Tryz.prog G lb [.p (aO xs),.p (aO xs)] (.p (.bool true)):=by
 have hsl:∀l,aO l= .lst 1 (l.map λw=>[.int .i64 w]):=λ_=>rfl
 refine AC.go sr ?_
 simp-implicitDefEqProofs[kO,hsl]
 refine aJ (λi:Nat=>ah 26 [(0,.p (aO xs)),(1,.p (aO xs)),(11,.p (aO xs)),(12,.p (.int .i64 xs.length)),(13,.p (.int .i64 i))]) (λ_=>[]) (λi=>i<=xs.length) (λi=>xs.length-i) 0 (by simp) ?_ ?_
 ·exact bp rfl (by simp[below,aO])
 intro i hi
 simp-implicitDefEqProofs[hsl]
 refine aY (λh1=>?_) (λh1=>?_)
 ·simp at h1
  have hg:xs[i]?=some xs[i]:=UO h1
  generalize xs[i]=x at hg
  simp-implicitDefEqProofs[hg]
  refine⟨i+1,by omega,by omega,bp rfl ?_⟩
  simp[below,aO,w1 (i:=i) (by omega)]
 ·simp at h1
  simp-implicitDefEqProofs[]
theorem Ci(xs:List Int)(hb:xs.length<=1048576):VF Tryz.prog G je [.p (aO xs),.p (aO xs)] (.p (.bool true)):=by
 have hsl:∀l,aO l= .lst 1 (l.map λw=>[.int .i64 w]):=λ_=>rfl
 refine AC.go AZ ?_
 simp-implicitDefEqProofs[rN,hsl]
 refine aJ (λi:Nat=>ah 26 [(0,.p (aO xs)),(1,.p (aO xs)),(5,.p (.int .i64 i))]) (λ_=>[]) (λi=>i<=xs.length) (λi=>xs.length-i) 0 (by simp) ?_ ?_
 ·exact bp rfl (by simp[below,aO])
 intro i hi
 simp-implicitDefEqProofs[hsl]
 refine aY (λh1=>?_) (λh1=>?_)
 ·simp at h1
  have hg:xs[i]?=some xs[i]:=UO h1
  generalize xs[i]=x at hg
  simp-implicitDefEqProofs[hg]
  refine⟨i+1,by omega,by omega,bp rfl ?_⟩
  simp[below,aO,w1 (i:=i) (by omega)]
 ·simp at h1
  simp-implicitDefEqProofs[]
theorem OF(xs ys:List Int)(e v:Int)(hx:xs.length<=1048576)(hy:ys.length<=1048576):VF Tryz.prog G gt [.agg [.p (aO xs),.p (.int .i64 e),.p (.int .i64 v),.p (aO ys)],.agg [.p (aO xs),.p (.int .i64 e),.p (.int .i64 v),.p (aO ys)]] (.p (.bool true)):=by
 refine AC.go sS ?_
 simp-implicitDefEqProofs[kY]
 refine(Ci G xs hx).use ?_
 simp-implicitDefEqProofs[]
 refine(Ci G ys hy).use ?_
 simp-implicitDefEqProofs[]
theorem Qf(xs:List Int)(hb:xs.length<=1073741824):VF Tryz.prog G my [.p (aO xs),.p (aO xs)] (.p (.bool true)):=by
 refine AC.go Bi ?_
 have hsl:∀l,aO l= .lst 1 (l.map λw=>[.int .i64 w]):=λ_=>rfl
 simp-implicitDefEqProofs[rM,hsl]
 refine aJ (λi:Nat=>ah 29 [(0,.p (aO xs)),(1,.p (aO xs)),(10,.p (.int .i64 xs.length)),(11,.p (.int .i64 i))]) (λ_=>[]) (λi=>i<=xs.length) (λi=>xs.length-i) 0 (by simp) ?_ ?_
 ·exact bp rfl (by simp[below,aO])
 intro i hi
 simp-implicitDefEqProofs[hsl]
 refine aY (λh1=>?_) (λh1=>?_)
 ·simp at h1
  have hg:xs[i]?=some xs[i]:=UO h1
  generalize xs[i]=x at hg
  simp-implicitDefEqProofs[hg]
  refine⟨i+1,by omega,by omega,bp rfl ?_⟩
  simp[below,aO,w1 (i:=i) (by omega)]
 ·simp at h1
  simp-implicitDefEqProofs[]
variable (hK:G fv=some ew) (hS:G cJ=some [.tbl opK opV])
include hK hS
theorem Nc{l:List Fd}{us:List Int}{fuel:Nat}{s':S5}{r:O5 Int}(hz:aN l<=1073741824)(hl:us.length<=1000000000000)(ho:jk l us=true)(hfu:fuel<=4000)(hE:Ev l (.cal (l.length-1) us (s0 fuel) s' r)):Runs G l us fuel s' r:=by
 obtain⟨hc,h0,⟨f,hf1,hf2⟩,hv⟩:=BJ ho
 exact⟨hE,Vj (MN hE) hfu,(cW hE ⟨nG fuel,hv⟩).1.len,MV hE,Bb G hK hS hz hl ho hc h0 hv hfu hE,Bl G hz hl ho hc hf1 hf2 hv hfu hE⟩
theorem Ui{l:List Fd}{us:List Int}{fuel:Nat}(hz:aN l<=1073741824)(hl:us.length<=1000000000000)(ho:jk l us=true)(hfu:fuel<=4000):∃s' r,Runs G l us fuel s' r:=by
 obtain⟨hc,h0,⟨f,hf1,hf2⟩,hv⟩:=BJ ho
 obtain⟨s',r,hE,_⟩:=TY hc hf1 hf2 hv fuel
 exact⟨s',r,Nc G hK hS hz hl ho hfu hE⟩
end
section
variable (G:al)
theorem MB{ρ:List Nat}:∀{args:List AV},af 0 args->TW ρ args args
 |[],_=>trivial
 |v::r,h=>⟨.inr ⟨(aZ (VQ _) [v] ⟨h.1,trivial⟩).1,by have:=dv ρ [v] ⟨h.1,trivial⟩;simpa[be] using this⟩,MB h.2⟩
theorem Tz{f:FuncId}{args:List AV}{b:List Int}{p:Nat}{Q:AV->Nat->Prop}(H:AC Tryz.prog G f (.ptr 0 2 0 0::args) [rdO b p] λx h=>∃v q,x= .ret v/\h=[rdO b q]/\Q v q)(hq:∀v q,Q v q->below 0 v){h:List AO}{k:Nat}(hk:h[k]?=some (rdO b p))(ha:af 0 args):
 AC Tryz.prog G f (.ptr k 2 0 0::args) h λx h'=>∃v q,x= .ret v/\h'=h.set k (rdO b q)/\Q v q:=by
 refine(H.frame (h:=h) (args:= .ptr k 2 0 0::args) [k] (by simp) ⟨.inr ⟨by simp[below],by simp[ren]⟩,MB ha⟩ (bR hk (bn _ _ _) bv)).mono ?_
 rintro x h' ⟨x0,h0,⟨v,q,rfl,rfl,r⟩,hl,rfl,rfl⟩
 refine⟨v,q,?_,?_,r⟩
 ·simp only[Bo]
  have:=dv ([k]++List.range' h.length ([rdO b q].length-[rdO b p].length)) [v] ⟨hq v q r,trivial⟩
  simpa[be] using this
 ·have hp2:∀σ,gT σ (rdO b q)=rdO b q:=λσ=>by simp[rdO,gT,be,ren]
  simp[mrg,hp2]
theorem JS{l:List Int}(h:Byt l)(n:Nat):Byt (l.take n):=λx hx=>h x (VB hx)
def DrP(n:Nat)(x:ARes):Prop:=∃l:List Fd,x= .ret (.agg [.p (fdL l)])/\aN l<=n
theorem La{f:FuncId}{args:List AV}{R:ARes->Prop}(H:AC Tryz.prog G f args [] λx _=>R x)(hR:∀x,R x->∃v,x= .ret v/\below 0 v)(ha:af 0 args)(h:List AO):AC Tryz.prog G f args h λx h'=>R x/\h'=h:=by
 have H2:AC Tryz.prog G f args [] λx h'=>R x/\h'=[]:=by
  refine H.wk (λt v h' r=>by obtain⟨_,e,_⟩:=hR _ r;cases e) λv h' r=>?_
  obtain⟨v',e,hv⟩:=hR _ r
  cases e
  exact⟨v,[],Ll rfl ⟨.inr ⟨hv,rfl⟩,trivial⟩,r,rfl⟩
 refine(H2.pre h ha (λo ho=>by cases ho) (λx h' r=>by rw[r.2])).mono ?_
 rintro x h' ⟨h1,⟨r,rfl⟩,rfl⟩
 exact⟨r,rfl⟩
theorem LU{n:Nat}:∀x,DrP n x->∃v,x= .ret v/\below 0 v:=λx ⟨l,e,_⟩=>⟨_,e,by simp[below]⟩
variable (hK:G fv=some ew) (hS:G cJ=some [.tbl opK opV])
include hK hS
end
section
theorem Og:∀x∈triL,x.length=3/\∀n∈x,V5 n:=by
 intro x hx
 simp only[triL,UX,Vk,or_false] at hx
 rcases hx with rfl|rfl|rfl<;>refine⟨rfl,λn hn=>?_⟩<;>simp only[UX,Vk,or_false] at hn<;>(rcases hn with rfl|rfl|rfl<;>exact⟨by decide,by decide⟩)
theorem GI{l:List Fd}(hc:aG l=0){us:List Int}(h:us∈uB l):jk l us=true/\us.length<=3:=by
 obtain⟨f,hf,h3,_,e⟩:=yR hc
 rw[e] at h
 obtain⟨x,hx,rfl⟩:=Vi.1 h
 obtain⟨h1,h2⟩:=Og x hx
 refine⟨?_,by rw[Vl];omega⟩
 have hl:(x.take f.params.length).length=f.params.length:=by rw[Vl];omega
 simp only[jk,hc,hf,nF,hl,decide_true,Bool.true_and,UU]
 intro n hn
 have:=h2 n (VB hn)
 simp only[inR,Vf,decide_eq_true_eq]
 exact this
theorem Gx{l:List Fd}(hc:aG l=0):(uB l).length=3:=by
 obtain⟨f,hf,h3,_,e⟩:=yR hc
 rw[e];simp[oc,triL]
variable (G:al)
theorem yv(code:List Int)(hb:Byt code):AC Tryz.prog G eA [.p (uD code)] [] λx _=>DrP 900000000 x:=by
 refine AC.go ow ?_
 simp-implicitDefEqProofs[jp]
 refine(AC.lift (Qn G code) (by simp) rfl rfl).mono ?_
 rintro r h ⟨rfl,rfl⟩
 have hr:∀n,cw n (rdO (code.take 2000) 0)=rdO (code.take 2000) 0:=λn=>by simp[rdO,cw,dA,cf]
 simp-implicitDefEqProofs[aa,cf,hr]
 refine(Tz G (KN G (JS hb 2000) (by rw[Vl];omega) (p:=0) (by omega)) (λv q ⟨⟨l,e,_⟩,_⟩=>by rw[e];simp[below]) (h:=[.row 1 [[.nils]],rdO (code.take 2000) 0]) (k:=1) rfl trivial).mono ?_
 rintro r h ⟨v,q,rfl,rfl,⟨l,rfl,hz⟩,_⟩
 simp-implicitDefEqProofs[aa]
 exact⟨l,rfl,hz⟩
variable (hT:G pF=some pvTries) (hK:G fv=some ew) (hS:G cJ=some [.tbl opK opV])
include hT hK hS
theorem Dy(code:List Int)(hb:Byt code)(hl:code.length<=9223372036854775807):VF Tryz.prog G nW [.p (uD code)] (.p (.bool true)):=by
 refine AC.go yx ?_
 have hbl:uD code= .lst 1 (code.map λn=>[.int .u8 n]):=rfl
 simp-implicitDefEqProofs[nY,hbl]
 rw[←hbl]
 by_cases hc:(1048576:Int)<code.length
 ·simp-implicitDefEqProofs[hc]
 simp-implicitDefEqProofs[hc]
 refine(La G (yv G code hb) LU (by simp) _).mono ?_
 rintro r h ⟨⟨l,rfl,hz⟩,rfl⟩
 simp-implicitDefEqProofs[aa]
 have hinp:=Ee G hT hK hS l (by omega)
 have hsnp:=DW G l (by omega)
 have hcp:=pA G hK hS l (by omega)
 have hok:∀us∈uB l,jk l us=true/\us.length<=3:=λus h=>by
  by_cases h0:aG l=0
  ·exact GI h0 h
  ·rw[yK h0] at h;cases h
 have hend:((uB l).length=3/\aG l=0)\/((uB l).length=0/\¬aG l=0):=by
  by_cases h0:aG l=0
  ·exact .inl ⟨Gx h0,h0⟩
  ·rw[yK h0];exact .inr ⟨rfl,h0⟩
 have hnl:∀L,nsL L= .lst 1 (L.map λx=>[aO x]):=λ_=>rfl
 refine hinp.use ?_
 simp-implicitDefEqProofs[]
 refine hsnp.use ?_
 generalize uB l=L at*
 have hL3:L.length<=3:=by omega
 simp-implicitDefEqProofs[hnl]
 refine aJ (λi:Nat=>ah 91 [(3,.ptr 0 1 0 0),(4,.p (nsL L)),(5,.p (nsL L)),(26,.p (nsL L)),(27,.p (.int .i64 L.length)),(28,.p (.int .i64 i))]) (λ_=>[.row 1 [[.p (fdL l)]]]) (λi=>i<=L.length) (λi=>L.length-i) 0 (by simp) ?_ ?_
 ·refine fM [0] rfl (by simp) (bR rfl (by simp[okO,below]) bv) ?_
  simp[below,ren,hnl]
 intro i hi
 simp-implicitDefEqProofs[hnl]
 refine aY (λh1=>?_) (λh1=>?_)
 ·simp at h1
  have hg:L[i]?=some L[i]:=UO h1
  obtain⟨ho,hul⟩:=hok L[i] (Ve h1)
  generalize L[i]=us at hg ho hul
  obtain⟨s',r,R⟩:=Ui G hK hS (l:=l) (us:=us) (fuel:=200) (by omega) (by omega) ho (by omega)
  have hsl:=R.said
  have hcl:=R.cells
  have hsm:=OF G s'.said s'.cells (bH r) (Bh r) (by omega) (by omega)
  have hi1:=R.impl
  have hi2:=R.spec
  have hww:=Qf G us (by omega)
  have hev:bH r=0\/Bh r=0:=by cases r<;>simp[bH,Bh]
  have hnum:∀xs,aO xs= .lst 1 (xs.map λw=>[.int .i64 w]):=λ_=>rfl
  simp-implicitDefEqProofs[hg]
  refine hi1.use ?_
  simp-implicitDefEqProofs[Bf,hg]
  refine hi2.use ?_
  simp-implicitDefEqProofs[Bf,hg]
  refine hww.use ?_
  simp-implicitDefEqProofs[]
  refine hsm.use ?_
  by_cases he:bH r=0
  ·simp-implicitDefEqProofs[he,hcl,hnum s'.cells]
   refine⟨i+1,by omega,by omega,fM [0] rfl (by simp) (bR rfl (by simp[okO,below]) bv) ?_⟩
   simp[below,ren,hnl,w1 (i:=i) (by omega)]
  ·have hv:Bh r=0:=hev.resolve_left he
   simp-implicitDefEqProofs[he,hv,hcl,hnum s'.cells]
   refine⟨i+1,by omega,by omega,fM [0] rfl (by simp) (bR rfl (by simp[okO,below]) bv) ?_⟩
   simp[below,ren,hnl,w1 (i:=i) (by omega)]
 ·simp-implicitDefEqProofs[]
  rcases hend with⟨e3,e0⟩|⟨e3,e0⟩
  ·refine hcp.use ?_
   simp-implicitDefEqProofs[e3,e0]
  ·refine hcp.use ?_
   simp-implicitDefEqProofs[e3,e0]
end
end Go.Proofs.YtokiapglmedipaaGreatDoor
namespace Go.Proofs.YtokiapglmedipaaGreatDoor
open Go Go.Aw Go.ChangeShapes Go.WideShapes Go.ChangeAt Go.RowKit
set_option maxRecDepth 100000
abbrev Ps:TypeId:=24
abbrev Si:TypeId:=22
abbrev TI:TypeId:=122
abbrev Qz:TypeId:=55
abbrev Rv:TypeId:=9
abbrev NS:TypeId:=120
abbrev PW:TypeId:=206
abbrev NJ:TypeId:=204
abbrev Px:TypeId:=245
abbrev OR:TypeId:=3
abbrev Pf:TypeId:=4
abbrev GO:TypeId:=160
abbrev Lv:TypeId:=240
abbrev Oe:TypeId:=241
abbrev Hm:TypeId:=45
abbrev CF:TypeId:=5
theorem Rx:Kids Tryz.prog (· <Tryz.prog.types.size):=kids_rows (by kernel_rfl) (by kernel_rfl)
theorem Sq:∀t e,t<Tryz.prog.types.size->Tryz.prog.underlying t=some (.slice e)->0<Tryz.prog.cellsOf e:=slices_full_of Tryz.prog (by kernel_rfl)
def KI:List TypeId:=[Ps,Si,TI,Qz,Rv,NS,PW,NJ,Px,OR,Pf,GO,Lv]
theorem JM:Plain Tryz.prog KI=true:=by kernel_rfl
theorem Ty:ownKnob Tryz.prog.godebug=none:=by kernel_rfl
theorem zo{H:Type}:∀l:List (DataW H),Rows.uptoBulkAll l=(l.map Rows.uptoBulk).sum
 |[]=>by simp[Rows.uptoBulkAll]
 |d::r=>by simp[Rows.uptoBulkAll,zo r]
theorem Od{H:Type}:BulkOk (Rows.uptoBulk (H:=H)) where
 lit:=λl=>by cases l<;>simp[Rows.uptoBulk]
 str:=λs=>by simp[Rows.uptoBulk]
 nil:=by simp[Rows.uptoBulk]
 slice:=λes sp=>by simp only[Rows.uptoBulk,zo];omega
 agg:=λps=>by simp only[Rows.uptoBulk,zo];omega
theorem Kp{t e:TypeId}{vs:List PV}(h:Conf Tryz.prog t vs)(hu:Tryz.prog.underlying t=some (.slice e)):∃es,vs=[.lst (Tryz.prog.cellsOf e) es]/\es.length<=9223372036854775807/\∀x∈es,Conf Tryz.prog e x:=by
 cases h with
 |sl es e' hl hs=>rw[hu] at e';cases e';exact⟨es,rfl,hl,hs⟩
 |bool b e=>rw[e] at hu;cases hu
 |int n e=>rw[e] at hu;cases hu
 |str s e=>rw[e] at hu;cases hu
 |st vs e=>rw[e] at hu;cases hu
 |arr vs e=>rw[e] at hu;cases hu
def G0:al:=λg=>if g=fv then some ew else if g=cJ then some [.tbl opK opV] else none
theorem PM:∀k,iB Tryz.prog (k+10) GO (Rows.laid_loop_example_wholeway_impl_keys (H:=Unit))=ew:=λk=>by kernel_rfl
theorem Tx{W:World}{laid:List (String × DataW Unit)}(hL:laidMet Tryz.prog laid W)(h1:("loop.example/wholeway/impl.keys",Rows.laid_loop_example_wholeway_impl_keys)∈laid)(h2:("loop.example/wholeway/impl.opSign",Rows.laid_loop_example_wholeway_impl_opSign)∈laid):
 ∀g cs,G0 g=some cs->g<W.heap.size/\∀(j:Nat) (c:PV),cs[j]?=some c->∃v,W.cell? ⟨g,j,none⟩=some v/\PRel W (· <W.heap.size) c v:=by
 intro g cs h
 unfold G0 at h
 split at h
 ·rename_i e;subst e;cases h
  exact Ce JM hL (n:= "loop.example/wholeway/impl.keys") (d:=Rows.laid_loop_example_wholeway_impl_keys) (t:=GO) h1 (by kernel_rfl) (by kernel_rfl) (by decide) PM
 ·split at h
  ·rename_i e;subst e;cases h
   exact Lk JM hL (n:= "loop.example/wholeway/impl.opSign") h2 (t:=Oe) (k:=OR) (e:=Lv) (by kernel_rfl) (by kernel_rfl) (by kernel_rfl) (.inl ⟨.i64,by kernel_rfl⟩) (by decide) (by kernel_rfl) (by kernel_rfl) (λm=>by kernel_rfl)
  ·cases h
theorem FV{vs:List PV}(h:Conf Tryz.prog Hm vs):∃l:List Int,vs=[uD l]/\l.length<=9223372036854775807/\Byt l:=by
 obtain⟨es,rfl,hl,h4⟩:=Kp h (e:=CF) (by kernel_rfl)
 have hk:∀x∈es,∃n:Int,x=[PV.int .u8 n]/\(Lit.int .u8 n).wf=true:=λx hx=>Lc (h4 x hx) (by kernel_rfl)
 obtain⟨l,rfl⟩:=HD (λn:Int=>[PV.int .u8 n]) (λx hx=>by obtain⟨n,e,_⟩:=hk x hx;exact⟨n,e⟩)
 rw[show Tryz.prog.cellsOf CF=1 by kernel_rfl]
 refine⟨l,rfl,by rwa[Vv] at hl,λn hn=>?_⟩
 obtain⟨m,e,hw⟩:=hk [PV.int .u8 n] (Vi.2 ⟨n,hn,rfl⟩)
 cases e
 simp[Lit.wf,IntKind.min,IntKind.max,IntKind.bits,IntKind.signed] at hw
 omega
end Go.Proofs.YtokiapglmedipaaGreatDoor
namespace Go.Proofs.YtokiapglmedipaaGreatDoor
open Go Go.Aw Go.ChangeShapes Go.WideShapes Go.ChangeAt Go.RowKit
set_option maxRecDepth 100000
abbrev LN:TypeId:=154
abbrev Py:TypeId:=153
def HL:List TypeId:=LN::Py::KI
theorem jX:Plain Tryz.prog HL=true:=by kernel_rfl
def El:List TypeId:=Hm::CF::HL
theorem Ov:Plain Tryz.prog El=true:=by kernel_rfl
def G0T:al:=λg=>if g=pF then some pvTries else G0 g
theorem MX:∀k,iB Tryz.prog (k+10) LN (Rows.laid_loop_example_wholeway_impl_tries (H:=Unit))=pvTries:=λk=>by kernel_rfl
theorem TS{W:World}{laid:List (String × DataW Unit)}(hL:laidMet Tryz.prog laid W)(h1:("loop.example/wholeway/impl.keys",Rows.laid_loop_example_wholeway_impl_keys)∈laid)(h2:("loop.example/wholeway/impl.opSign",Rows.laid_loop_example_wholeway_impl_opSign)∈laid)(h3:("loop.example/wholeway/impl.tries",Rows.laid_loop_example_wholeway_impl_tries)∈laid):
 ∀g cs,G0T g=some cs->g<W.heap.size/\∀(j:Nat) (c:PV),cs[j]?=some c->∃v,W.cell? ⟨g,j,none⟩=some v/\PRel W (· <W.heap.size) c v:=by
 intro g cs h
 unfold G0T at h
 split at h
 ·rename_i e;subst e;cases h
  exact Ce jX hL (n:= "loop.example/wholeway/impl.tries") (d:=Rows.laid_loop_example_wholeway_impl_tries) (t:=LN) h3 (by kernel_rfl) (by kernel_rfl) (by decide) MX
 ·exact Tx hL h1 h2 g cs h
end Go.Proofs.YtokiapglmedipaaGreatDoor
