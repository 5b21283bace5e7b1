/-
  Contracts and lemmas that the card needs, part 6.
-/
import Derived.Test.YtbnajafpkeficaaGreatDoorLo5
namespace Go.Proofs.YtbnajafpkeficaaGreatDoor
open Go Go.Aw
set_option maxRecDepth 100000
set_option maxHeartbeats 4000000
section
theorem Ak(n:Nat)(l:List PV):bi n (l.map .p)=l.map .p:=by
 rw[bu,List.map_map];rfl
theorem tl(n:Nat)(L:List Bool):aX n (aG L)=aG L:=by
 simp only[aX,aG,List.map_map];rfl
theorem sJ(n:Nat)(L:List Nat):aX n (ay L)=ay L:=by
 simp only[aX,ay,List.map_map];rfl
theorem oz(n:Nat)(L:List Int):aX n (bV L)=bV L:=by
 simp only[aX,bV,List.map_map];rfl
theorem zn(n:Nat)(f:Mfn):aX n (.row 3 [f.cs.map .p])= .row 3 [f.cs.map .p]:=by
 simp only[aX,List.map_cons,List.map_nil,Ak]
theorem uI(n:Nat)(f:Mfn)(a b c la lb lc:Nat)(z:Int):aX n (.row 7 [aM f (.sl a 1 0 la) (.sl b 1 0 lb) (.sl c 1 0 lc) z])= .row 7 [aM f (.sl (n+a) 1 0 la) (.sl (n+b) 1 0 lb) (.sl (n+c) 1 0 lc) z]:=rfl
theorem Dv(l:List PV):jD (l.map .p)=true:=by
 induction l with
 |nil=>rfl
 |cons a r ih=>simp[jD,nN,ih]
theorem vc(L:List Bool):iL (aG L)=true:=by simp[iL,aG,jD,nN]
theorem vb(L:List Nat):iL (ay L)=true:=by simp[iL,ay,jD,nN]
variable (G:az) (hG:G bW=some pvForms)
include hG
theorem tj(f:Mfn)(hn:f.ins.length<=1000000)(hlo:∀x∈f.ins,x.op=14-> -9223372036854775808<=x.n)(hc:aC f=true):AC Tryz.prog G cz [.agg (f.cs.map .p)] [] λr h=>
 r= .ret (.ptr 2 7 0 0)/\h=[.row 3 [f.cs.map .p],aG (bE f.ins),.row 7 [aM f (.sl 1 1 0 f.ins.length) (.sl 3 1 0 f.ins.length) (.sl 4 1 0 f.ins.length) (plc f.ins (bE f.ins) f.ins.length)],ay (szl f.ins (bE f.ins) f.ins.length),ay (dj f.ins (bE f.ins) f.ins.length)]:=
 (sD G hG f hn hlo).mono λr h e=>by rw[if_pos hc] at e;exact e
theorem sH(f:Mfn)(hn:f.ins.length<=1000000)(hlo:∀x∈f.ins,x.op=14-> -9223372036854775808<=x.n)(hc:¬aC f=true):VF Tryz.prog G cz [.agg (f.cs.map .p)] .nilp:=
 AC.freezeR ((sD G hG f hn hlo).mono (R':=λr _=>r= .ret .nilp) λr h e=>by rw[if_neg hc] at e;exact e) (λt v h e=>by cases e) λv h e=>by cases e;exact .keep (by simp[below]) .nil
def ko(f:Mfn)(L:List Bool):List AO:=[.row 3 [f.cs.map .p],.dead,aG L,.row 7 [aM f (.sl 2 1 0 f.ins.length) (.sl 4 1 0 f.ins.length) (.sl 5 1 0 f.ins.length) (plc f.ins L f.ins.length)],ay (szl f.ins L f.ins.length),ay (dj f.ins L f.ins.length)]
theorem Bv(f:Mfn)(hn:f.ins.length<=1000000)(hlo:∀x∈f.ins,x.op=14-> -9223372036854775808<=x.n)(hc:aC f=true):AC Tryz.prog G dH [.agg (f.cs.map .p)] [] λr h=>
 r= .ret (.tup [.sl 6 1 0 (gJ f).length,.p (.bool true)])/\∃h0,h=h0++[bV (gJ f)]/\h0.length=6:=by
 refine AC.go lB ?_
 have hal:bn (aZ (cB f.ins) f)=true:=by simp[aC] at hc;exact hc.1
 have hf:=bP hal
 have hpos:=kT hal
 obtain⟨hn2,hfi⟩:=id hf
 simp-implicitDefEqProofs[ii]
 refine(AC.lift (tj G hG f hn hlo hc) (by simp[ab,below]) rfl ?_).mono ?_
 ·simp only[List.all_cons,List.all_nil,vc,vb];rfl
 rintro r h ⟨rfl,rfl⟩
 simp-implicitDefEqProofs[ag,tl,sJ,zn,uI,aY,bi]
 simp-implicitDefEqProofs[Mfn.cs]
 have hL:=fy f.ins
 simp only[gJ]
 generalize bE f.ins=L at hL⊢
 have hin:bp f.ins= .lst 5 (f.ins.map Mins.cs):=rfl
 refine aw (λi:Nat=>aB 88 [(1,.ptr 0 3 0 0),(4,.ptr 3 7 0 0),(5,if i=0 then .nils else .sl 6 1 0 (lX f.ins L i).length),(15,.p (bp f.ins)),(16,.p (.int .i64 f.ins.length)),(17,.p (.int .i64 i))]) (λi=>if i=0 then ko f L else ko f L++[bV (lX f.ins L i)])
  (λi=>i<=f.ins.length) (λi=>f.ins.length-i) 0 (by simp) ?_ ?_
 ·rw[if_pos rfl,if_pos rfl]
  refine al [0,1,2,3,4,5] rfl (by decide) (af rfl (by simp[ab,Mfn.cs]) (cm (by simp) (an rfl (by simp[-Bool.exists_bool,-Bool.forall_bool,okO,aG]) (aE (by simp[aM,below]) (by simp[aM,ren,aF]) (an rfl (by simp[okO,ay]) (an rfl (by simp[okO,ay]) aj)))))) ?_
  simp[below,ren,hin]
 ·intro i hi
  simp-implicitDefEqProofs[hin]
  refine aR (λh1=>?_) (λh1=>?_)
  ·simp at h1
   have h2:i<L.length:=by omega
   obtain⟨q1,q2,q3,q4⟩:=hfi _ (List.getElem_mem h1)
   have hg1:=List.getElem?_eq_getElem h1
   have hg2:=List.getElem?_eq_getElem h2
   have hbo:∀l,bV l= .row 1 (l.map λn=>[.p (.int .u8 n)]):=λ_=>rfl
   have hbl:∀l,aN l= .lst 1 (l.map λn=>[.int .u8 n]):=λ_=>rfl
   have hoo:aG L= .row 1 (L.map λb=>[.p (.bool b)]):=rfl
   have hii:∀l,ay l= .row 1 (l.map λ(n:Nat)=>[.p (.int .i64 (n:Int))]):=λ_=>rfl
   have htk:∀l:List Int,List.take l.length (l.map λn=>[AV.p (.int .u8 n)])=l.map λn=>[AV.p (.int .u8 n)]:=λl=>List.take_of_length_le (by simp)
   have henc:=iz f.ins L i
   have hel:=uD f.ins L i
   have he0:lX f.ins L 0=[]:=by simp[lX]
   by_cases hj:jmp f.ins[i]=true
   rotate_left
   ·have hjo:(f.ins[i].op==20||f.ins[i].op==21)=false:=by simpa[jmp] using hj
    have he:je f.ins L i=aO f.ins[i]:=by simp[je,hg1,hg2,hj]
    have hl1:=fm f.ins[i]
    have hp0:¬aO f.ins[i]=[]:=λe=>by rw[e] at hl1;simp at hl1
    rcases Nat.eq_zero_or_pos i with rfl|hz
    ·simp-implicitDefEqProofs[hg1,ko]
     simp-implicitDefEqProofs[Mins.cs]
     refine(bf G _).use ?_
     simp-implicitDefEqProofs[hjo]
     refine(nC G f.ins[0] q3 (by simpa using hj) q1 q2).use ?_
     simp-implicitDefEqProofs[hbl,hbo,hp0,htk]
     refine⟨by omega,1,h1,by omega,?_⟩
     rw[if_neg (by omega),if_neg (by omega)]
     refine al [0,1,2,3,4,5,7] rfl (by decide) (af rfl (by simp[ab,Mfn.cs]) (cm (by simp) (an rfl (by simp[-Bool.exists_bool,-Bool.forall_bool,okO,aG]) (aE (by simp[aM,below]) (by simp[aM,ren,aF]) (an rfl (by simp[okO,ay]) (an rfl (by simp[okO,ay]) (af (by simp[henc,he,he0,Function.comp_def]) (by simp) aj))))))) ?_
     simp[below,ren,henc,he,he0,IntKind.wrap,IntKind.bits,IntKind.signed]
    ·have hz1:¬i=0:=by omega
     simp-implicitDefEqProofs[hz1,hg1,ko]
     simp-implicitDefEqProofs[Mins.cs]
     refine(bf G _).use ?_
     simp-implicitDefEqProofs[hjo]
     refine(nC G f.ins[i] q3 (by simpa using hj) q1 q2).use ?_
     simp-implicitDefEqProofs[hbl,hbo,hp0,htk]
     refine⟨by omega,i+1,h1,by omega,?_⟩
     rw[if_neg (by omega),if_neg (by omega)]
     refine al [0,1,2,3,4,5,8] rfl (by decide) (af rfl (by simp[ab,Mfn.cs]) (cm (by simp) (an rfl (by simp[-Bool.exists_bool,-Bool.forall_bool,okO,aG]) (aE (by simp[aM,below]) (by simp[aM,ren,aF]) (an rfl (by simp[okO,ay]) (an rfl (by simp[okO,ay]) (af (by simp[henc,he,Function.comp_def]) (by simp) aj))))))) ?_
     simp[below,ren,henc,he,w1 (i:=i) (by omega)]
   ·have hjo:(f.ins[i].op==20||f.ins[i].op==21)=true:=by simpa[jmp] using hj
    have q5:=q4 hj
    simp[inR] at q5
    have hnl:f.ins[i].n.toNat<f.ins.length:=by omega
    have hp1:=fQ (ins:=f.ins) (L:=L) hnl
    have hle2:=jZ (ins:=f.ins) (L:=L) hL (i:=f.ins[i].n.toNat)
    have hoff:=λ(h:List AO) e0 e1 e2=>BN G (h:=h) (id:=3) (sid:=4) (pid:=5) (f:=f) (lv:= .sl 2 1 0 f.ins.length) (sz:=plc f.ins L f.ins.length) (L:=L) (i:=i) hL hf h1 hj e0 e1 e2
    generalize hp:plc f.ins L f.ins[i].n.toNat=p at hp1 hle2 hoff
    have htm:(p:Int).tmod 256=(p:Int)%256:=by rw[show(p:Int).tmod 256=((p%256:Nat):Int) from rfl];omega
    have htd:IntKind.i64.wrap ((p:Int)/256)=(p:Int)/256:=aa (by omega) (by omega)
    have w148:IntKind.u8.wrap 148=148:=rfl
    have w149:IntKind.u8.wrap 149=149:=rfl
    have w20:IntKind.u8.wrap 20=20:=rfl
    have w21:IntKind.u8.wrap 21=21:=rfl
    have hc2:f.ins[i].op=20\/f.ins[i].op=21:=by simpa[jmp] using hj
    cases hLi:L[i] with
    |true=>
     have he:je f.ins L i=[u8 (f.ins[i].op+128)]++(if f.ins[i].op=21 then[u8 f.ins[i].a] else[])++[u8 (p%256:Nat),u8 (p/256:Nat)]:=by simp[je,hg1,hg2,hj,hLi,hp]
     clear hoff
     rcases hc2 with e|e
     ·have hjt:(f.ins[i].op==20||f.ins[i].op==21)=true:=hjo
      rcases Nat.eq_zero_or_pos i with rfl|hz
      ·simp-implicitDefEqProofs[hg1,ko]
       simp-implicitDefEqProofs[Mins.cs]
       refine(bf G _).use ?_
       simp-implicitDefEqProofs[hjo,aM,hbo,hoo,hii,h1,hg2,hLi,hL,hnl,hp1,e,w20,w21,w148,w149,htm,htd,htk]
       refine⟨⟨by omega,by omega⟩,1,h1,by omega,?_⟩
       rw[if_neg (by omega),if_neg (by omega)]
       refine al [0,1,2,3,4,5,10] rfl (by decide) (af rfl (by simp[ab,Mfn.cs]) (cm (by simp) (an rfl (by simp[-Bool.exists_bool,-Bool.forall_bool,okO,aG]) (aE (by simp[aM,below]) (by simp[aM,ren,aF]) (an rfl (by simp[okO,ay]) (an rfl (by simp[okO,ay]) (af (by simp[w20,w21,w148,w149,henc,he,e,u8,htm,htd,List.take_of_length_le,he0]) (by simp) aj))))))) ?_
       simp[below,ren,henc,he,e,he0,IntKind.wrap,IntKind.bits,IntKind.signed]
      ·have hz1:¬i=0:=by omega
       simp-implicitDefEqProofs[hz1,hg1,ko]
       simp-implicitDefEqProofs[Mins.cs]
       refine(bf G _).use ?_
       simp-implicitDefEqProofs[hjo,aM,hbo,hoo,hii,h1,hg2,hLi,hL,hnl,hp1,e,w20,w21,w148,w149,htm,htd,htk]
       refine⟨by omega,⟨by omega,by omega⟩,by omega,i+1,h1,by omega,?_⟩
       rw[if_neg (by omega),if_neg (by omega)]
       refine al [0,1,2,3,4,5,11] rfl (by decide) (af rfl (by simp[ab,Mfn.cs]) (cm (by simp) (an rfl (by simp[-Bool.exists_bool,-Bool.forall_bool,okO,aG]) (aE (by simp[aM,below]) (by simp[aM,ren,aF]) (an rfl (by simp[okO,ay]) (an rfl (by simp[okO,ay]) (af (by simp[w20,w21,w148,w149,henc,he,e,u8,htm,htd,List.take_of_length_le]) (by simp) aj))))))) ?_
       simp[below,ren,henc,he,e,w1 (i:=i) (by omega)]
     ·have hjt:(f.ins[i].op==20||f.ins[i].op==21)=true:=hjo
      rcases Nat.eq_zero_or_pos i with rfl|hz
      ·simp-implicitDefEqProofs[hg1,ko]
       simp-implicitDefEqProofs[Mins.cs]
       refine(bf G _).use ?_
       simp-implicitDefEqProofs[hjo,aM,hbo,hoo,hii,h1,hg2,hLi,hL,hnl,hp1,e,w20,w21,w148,w149,htm,htd,htk]
       refine⟨⟨by omega,by omega⟩,1,h1,by omega,?_⟩
       rw[if_neg (by omega),if_neg (by omega)]
       refine al [0,1,2,3,4,5,12] rfl (by decide) (af rfl (by simp[ab,Mfn.cs]) (cm (by simp) (an rfl (by simp[-Bool.exists_bool,-Bool.forall_bool,okO,aG]) (aE (by simp[aM,below]) (by simp[aM,ren,aF]) (an rfl (by simp[okO,ay]) (an rfl (by simp[okO,ay]) (af (by simp[w20,w21,w148,w149,henc,he,e,u8,htm,htd,List.take_of_length_le,he0]) (by simp) aj))))))) ?_
       simp[below,ren,henc,he,e,he0,IntKind.wrap,IntKind.bits,IntKind.signed]
      ·have hz1:¬i=0:=by omega
       simp-implicitDefEqProofs[hz1,hg1,ko]
       simp-implicitDefEqProofs[Mins.cs]
       refine(bf G _).use ?_
       simp-implicitDefEqProofs[hjo,aM,hbo,hoo,hii,h1,hg2,hLi,hL,hnl,hp1,e,w20,w21,w148,w149,htm,htd,htk]
       refine⟨by omega,by omega,⟨by omega,by omega⟩,by omega,i+1,h1,by omega,?_⟩
       rw[if_neg (by omega),if_neg (by omega)]
       refine al [0,1,2,3,4,5,13] rfl (by decide) (af rfl (by simp[ab,Mfn.cs]) (cm (by simp) (an rfl (by simp[-Bool.exists_bool,-Bool.forall_bool,okO,aG]) (aE (by simp[aM,below]) (by simp[aM,ren,aF]) (an rfl (by simp[okO,ay]) (an rfl (by simp[okO,ay]) (af (by simp[w20,w21,w148,w149,henc,he,e,u8,htm,htd,List.take_of_length_le]) (by simp) aj))))))) ?_
       simp[below,ren,henc,he,e,w1 (i:=i) (by omega)]
    |false=>
     have he:je f.ins L i=[u8 f.ins[i].op]++(if f.ins[i].op=21 then[u8 f.ins[i].a] else[])++[u8 ((p:Int)-plc f.ins L i-aL f.ins[i] false)]:=by simp[je,hg1,hg2,hj,hLi,hp]
     rw[hLi] at hoff
     rcases hc2 with e|e
     ·have hjt:(f.ins[i].op==20||f.ins[i].op==21)=true:=hjo
      rcases Nat.eq_zero_or_pos i with rfl|hz
      ·simp-implicitDefEqProofs[hg1,ko]
       simp-implicitDefEqProofs[Mins.cs]
       refine(bf G _).use ?_
       simp-implicitDefEqProofs[hjo,aM,hbo,hoo,hii,h1,hg2,hLi,hL,hnl,hp1,e,w20,w21,w148,w149,htm,htd,htk]
       refine⟨⟨by omega,by omega⟩,?_⟩
       refine AC.mono (hoff _ rfl rfl rfl) ?_
       rintro r h ⟨rfl,rfl⟩
       simp-implicitDefEqProofs[ag,hbo,htk]
       refine⟨1,h1,by omega,?_⟩
       rw[if_neg (by omega),if_neg (by omega)]
       refine al [0,1,2,3,4,5,10] rfl (by decide) (af rfl (by simp[ab,Mfn.cs]) (cm (by simp) (an rfl (by simp[-Bool.exists_bool,-Bool.forall_bool,okO,aG]) (aE (by simp[aM,below]) (by simp[aM,ren,aF]) (an rfl (by simp[okO,ay]) (an rfl (by simp[okO,ay]) (af (by simp[w20,w21,w148,w149,henc,he,e,u8,htm,htd,List.take_of_length_le,he0]) (by simp) aj))))))) ?_
       simp[below,ren,henc,he,e,he0,IntKind.wrap,IntKind.bits,IntKind.signed]
      ·have hz1:¬i=0:=by omega
       simp-implicitDefEqProofs[hz1,hg1,ko]
       simp-implicitDefEqProofs[Mins.cs]
       refine(bf G _).use ?_
       simp-implicitDefEqProofs[hjo,aM,hbo,hoo,hii,h1,hg2,hLi,hL,hnl,hp1,e,w20,w21,w148,w149,htm,htd,htk]
       refine⟨by omega,⟨by omega,by omega⟩,?_⟩
       refine AC.mono (hoff _ rfl rfl rfl) ?_
       rintro r h ⟨rfl,rfl⟩
       simp-implicitDefEqProofs[ag,hbo,htk]
       refine⟨by omega,i+1,h1,by omega,?_⟩
       rw[if_neg (by omega),if_neg (by omega)]
       refine al [0,1,2,3,4,5,11] rfl (by decide) (af rfl (by simp[ab,Mfn.cs]) (cm (by simp) (an rfl (by simp[-Bool.exists_bool,-Bool.forall_bool,okO,aG]) (aE (by simp[aM,below]) (by simp[aM,ren,aF]) (an rfl (by simp[okO,ay]) (an rfl (by simp[okO,ay]) (af (by simp[w20,w21,w148,w149,henc,he,e,u8,htm,htd,List.take_of_length_le]) (by simp) aj))))))) ?_
       simp[below,ren,henc,he,e,w1 (i:=i) (by omega)]
     ·have hjt:(f.ins[i].op==20||f.ins[i].op==21)=true:=hjo
      rcases Nat.eq_zero_or_pos i with rfl|hz
      ·simp-implicitDefEqProofs[hg1,ko]
       simp-implicitDefEqProofs[Mins.cs]
       refine(bf G _).use ?_
       simp-implicitDefEqProofs[hjo,aM,hbo,hoo,hii,h1,hg2,hLi,hL,hnl,hp1,e,w20,w21,w148,w149,htm,htd,htk]
       refine⟨⟨by omega,by omega⟩,?_⟩
       refine AC.mono (hoff _ rfl rfl rfl) ?_
       rintro r h ⟨rfl,rfl⟩
       simp-implicitDefEqProofs[ag,hbo,htk]
       refine⟨1,h1,by omega,?_⟩
       rw[if_neg (by omega),if_neg (by omega)]
       refine al [0,1,2,3,4,5,12] rfl (by decide) (af rfl (by simp[ab,Mfn.cs]) (cm (by simp) (an rfl (by simp[-Bool.exists_bool,-Bool.forall_bool,okO,aG]) (aE (by simp[aM,below]) (by simp[aM,ren,aF]) (an rfl (by simp[okO,ay]) (an rfl (by simp[okO,ay]) (af (by simp[w20,w21,w148,w149,henc,he,e,u8,htm,htd,List.take_of_length_le,he0]) (by simp) aj))))))) ?_
       simp[below,ren,henc,he,e,he0,IntKind.wrap,IntKind.bits,IntKind.signed]
      ·have hz1:¬i=0:=by omega
       simp-implicitDefEqProofs[hz1,hg1,ko]
       simp-implicitDefEqProofs[Mins.cs]
       refine(bf G _).use ?_
       simp-implicitDefEqProofs[hjo,aM,hbo,hoo,hii,h1,hg2,hLi,hL,hnl,hp1,e,w20,w21,w148,w149,htm,htd,htk]
       refine⟨by omega,by omega,⟨by omega,by omega⟩,?_⟩
       refine AC.mono (hoff _ rfl rfl rfl) ?_
       rintro r h ⟨rfl,rfl⟩
       simp-implicitDefEqProofs[ag,hbo,htk]
       refine⟨by omega,i+1,h1,by omega,?_⟩
       rw[if_neg (by omega),if_neg (by omega)]
       refine al [0,1,2,3,4,5,13] rfl (by decide) (af rfl (by simp[ab,Mfn.cs]) (cm (by simp) (an rfl (by simp[-Bool.exists_bool,-Bool.forall_bool,okO,aG]) (aE (by simp[aM,below]) (by simp[aM,ren,aF]) (an rfl (by simp[okO,ay]) (an rfl (by simp[okO,ay]) (af (by simp[w20,w21,w148,w149,henc,he,e,u8,htm,htd,List.take_of_length_le]) (by simp) aj))))))) ?_
       simp[below,ren,henc,he,e,w1 (i:=i) (by omega)]
  ·simp at h1
   have hie:i=f.ins.length:=by omega
   subst hie
   have hz1:¬f.ins.length=0:=by omega
   simp-implicitDefEqProofs[hz1]
   simp[ko]
end
section
variable (G:az) (hG:G bW=some pvForms)
section
include hG
theorem AU(f:Mfn)(hn:f.ins.length<=1000000)(hlo:∀x∈f.ins,x.op=14-> -9223372036854775808<=x.n)(hc:aC f=true):AC Tryz.prog G dH [.agg (f.cs.map .p)] [] λr h=>
 r= .ret (.tup [.sl 0 1 0 (gJ f).length,.p (.bool true)])/\h=[bV (gJ f)]:=by
 refine(Bv G hG f hn hlo hc).gc (λt v h ⟨e,_⟩=>by cases e) λv h ⟨e1,h0,e2,e3⟩=>?_
 cases e1;subst e2
 exact⟨.tup [.sl 0 1 0 (gJ f).length,.p (.bool true)],[bV (gJ f)],⟨[6],by simp,by simp,by simp,by simp[below],by simp[ren,aF],af (by rw[List.getElem?_append_right (by omega),e3];rfl) (by simp[bV]) aj⟩,rfl,rfl⟩
theorem BS(f:Mfn)(hn:f.ins.length<=1000000)(hlo:∀x∈f.ins,x.op=14-> -9223372036854775808<=x.n)(hc:¬aC f=true):VF Tryz.prog G dH [.agg (f.cs.map .p)] (.tup [.nils,.p (.bool false)]):=by
 refine AC.go lB ?_
 simp-implicitDefEqProofs[ii]
 refine(sH G hG f hn hlo hc).use ?_
 simp-implicitDefEqProofs[]
end
variable (hM:G Jn=some JA)
include hG hM
end
section
def LX(b:AO)(mid os:List AO):List AO:=b::(mid++os)
theorem Jx(b:AO)(mid os:List AO){m:Nat}(hm:mid.length=m)(k:Nat):(LX b mid os)[m+1+k]?=os[k]?:=by
 subst hm
 rw[LX,show mid.length+1+k=(mid.length+k)+1 by omega,List.getElem?_cons_succ,List.getElem?_append_right (by omega)]
 congr 1;omega
theorem Ku(b:AO)(mid os l:List AO):LX b mid os++l=LX b mid (os++l):=by simp[LX]
theorem Ia(b:AO)(mid os:List AO){m:Nat}(hm:mid.length=m)(k:Nat)(o:AO):(LX b mid os).set (m+1+k) o=LX b mid (os.set k o):=by
 subst hm
 rw[LX,show mid.length+1+k=(mid.length+k)+1 by omega,List.set_cons_succ,List.set_append_right _ _ (by omega),LX]
 congr 3;omega
section
variable {b:AO} {mid:List AO} {n:Nat} (hm:mid.length=n+1)
include hm
@[simp high] theorem Oq(o:AO)(os:List AO):(LX b mid (o::os))[n+2]?=some o:=Jx b mid _ hm 0
@[simp high] theorem Ow(o p:AO)(os:List AO):(LX b mid (o::p::os))[n+3]?=some p:=Jx b mid _ hm 1
@[simp high] theorem Oh(o p q:AO)(os:List AO):(LX b mid (o::p::q::os))[n+4]?=some q:=Jx b mid _ hm 2
@[simp high] theorem Ot(o p q r:AO)(os:List AO):(LX b mid (o::p::q::r::os))[n+5]?=some r:=Jx b mid _ hm 3
@[simp high] theorem Ok(o o':AO)(os:List AO):(LX b mid (o::os)).set (n+2) o'=LX b mid (o'::os):=Ia b mid _ hm 0 o'
@[simp high] theorem Oo(o p o':AO)(os:List AO):(LX b mid (o::p::os)).set (n+3) o'=LX b mid (o::o'::os):=Ia b mid _ hm 1 o'
end
@[simp high] theorem Og(b:AO)(mid os:List AO):(LX b mid os)[0]?=some b:=rfl
attribute [simp] Ku
theorem oV(n:Nat)(L:List Mins):aX n (bq L)=bq L:=by
 simp only[aX,bq,List.map_map];rfl
variable (G:az)
end
section
def mk1(k i:Nat):Mins:=⟨(k:Int)+5*i,(k:Int)+5*i+1,(k:Int)+5*i+1+1,(k:Int)+5*i+1+1+1,(k:Int)+5*i+1+1+1+1⟩
def mkI(k n:Nat):List Mins:=(List.range n).map (mk1 k)
theorem ln(k n:Nat):(mkI k n).length=n:=by simp[mkI]
theorem IX{k n i:Nat}(h:i<n):(mkI k n)[i]?=some (mk1 k i):=by simp[mkI,h]
def sr(k:Nat)(xs:List Mins)(i:Nat):List Mins:=mkI k i++xs.drop i
theorem FO{k:Nat}{xs:List Mins}{i:Nat}(h:i<=xs.length):(sr k xs i).length=xs.length:=by simp[sr,ln];omega
theorem Mi{k:Nat}{xs:List Mins}{i:Nat}(h:i<xs.length):(sr k xs i)[i]?=some xs[i]:=by
 rw[sr,List.getElem?_append_right (by rw[ln];omega),ln,Nat.sub_self,List.drop_eq_getElem_cons h];rfl
theorem GA{k:Nat}{xs:List Mins}{i:Nat}(h:i<xs.length):(sr k xs i).set i (mk1 k i)=sr k xs (i+1):=by
 rw[sr,List.set_append_right _ _ (by rw[ln];omega),ln,Nat.sub_self,List.drop_eq_getElem_cons h,List.set_cons_zero,sr,mkI,mkI,List.range_succ,List.map_append]
 simp
theorem Hv(k:Nat)(xs:List Mins):sr k xs xs.length=mkI k xs.length:=by simp[sr]
theorem FC(k:Nat)(xs:List Mins):sr k xs 0=xs:=by simp[sr,mkI]
def dR(k:Nat)(fs:List Mfn)(i:Nat):List Mfn:=fs.mapIdx λj f=>if j<i then⟨(k:Int)+2*j+5*szT fs j,(k:Int)+2*j+5*szT fs j+1,mkI (k+2*j+5*szT fs j+2) f.ins.length⟩ else f
theorem pa(k:Nat)(fs:List Mfn)(i:Nat):(dR k fs i).length=fs.length:=by simp[dR]
variable (G:az)
theorem Bz{h:List AO}{id:Nat}{xs:List Mins}{k:Nat}(hr:h[id]?=some (bq xs))(hk:k+5*xs.length<=1152921504606846976):
 AC Tryz.prog G eu [.sl id 5 0 xs.length,.p (.int .i64 k)] h λx h'=>x= .ret (.p (.int .i64 ((k+5*xs.length:Nat):Int)))/\h'=h.set id (bq (mkI k xs.length)):=by
 refine AC.enterB cV λhb=>AC.enter cV ?_
 have hid:id<h.length:=(List.getElem?_eq_some_iff.1 hr).1
 have hbs:∀ys:List Mins,HB (h.set id (bq ys)):=λys=>hb.set_row λe he=>by
  obtain⟨x,_,rfl⟩:=List.mem_map.1 he
  simp[Mins.av,Mins.cs]
 simp-implicitDefEqProofs[dd,List.replicate]
 refine aw (λa:Nat × List Mins=>slots 48 [(0,.sl id 5 0 xs.length),(1,.p (.int .i64 ((k+5*a.1:Nat):Int))),(5,.p (.int .i64 a.1))]) (λa=>h.set id (bq a.2)) (λa=>a.1<=xs.length/\a.2=sr k xs a.1) (λa=>xs.length-a.1) (0,xs) (by simp[FC]) ?_ ?_
 ·have e:h.set id (bq xs)=h:=by
   obtain⟨hi,e⟩:=List.getElem?_eq_some_iff.1 hr
   rw[←e];simp
  rw[e]
  exact kV (by simp) hb (by simp-implicitDefEqProofs[slots,List.replicate,below,hid])
 ·rintro⟨i,ys⟩ ⟨hi,hy⟩
  simp only at hi hy
  have hyl:ys.length=xs.length:=by rw[hy];exact FO hi
  simp-implicitDefEqProofs[slots,List.replicate]
  refine cnd (λh1=>?_) (λh1=>?_)
  ·simp at h1
   have h2:i<ys.length:=by omega
   have hg:(List.map Mins.av ys)[i]?=some ys[i].av:=by rw[List.getElem?_map,List.getElem?_eq_getElem h2];rfl
   have hw1:IntKind.i64.wrap ((k:Int)+5*(i:Int)+1)=(k:Int)+5*(i:Int)+1:=aa (by omega) (by omega)
   have hw2:IntKind.i64.wrap ((k:Int)+5*(i:Int)+1+1)=(k:Int)+5*(i:Int)+1+1:=aa (by omega) (by omega)
   have hw3:IntKind.i64.wrap ((k:Int)+5*(i:Int)+1+1+1)=(k:Int)+5*(i:Int)+1+1+1:=aa (by omega) (by omega)
   have hw4:IntKind.i64.wrap ((k:Int)+5*(i:Int)+1+1+1+1)=(k:Int)+5*(i:Int)+1+1+1+1:=aa (by omega) (by omega)
   have hw5:IntKind.i64.wrap ((k:Int)+5*(i:Int)+1+1+1+1+1)=(k:Int)+5*(i:Int)+1+1+1+1+1:=aa (by omega) (by omega)
   simp-implicitDefEqProofs[bq,hid,h1,hg,Mins.av_eq,h2,hw1,hw2,hw3,hw4,hw5]
   obtain⟨m,hm⟩:∃m:Mins,m=mk1 k i:=⟨_,rfl⟩
   have hm':m=⟨(k:Int)+5*i,(k:Int)+5*i+1,(k:Int)+5*i+1+1,(k:Int)+5*i+1+1+1,(k:Int)+5*i+1+1+1+1⟩:=hm
   refine⟨i+1,ys.set i m,⟨h1,by rw[hy,hm];exact GA h1⟩,by omega,?_⟩
   have e:((List.map Mins.av ys).set i m.av)=List.map Mins.av (ys.set i m):=by rw[List.map_set]
   rw[Mins.av_eq,hm'] at e
   rw[e,←hm']
   refine kV (by simp) (hbs _) ?_
   simp[w1 (i:=i) (by omega),below,hid]
   omega
  ·simp at h1
   have:i=xs.length:=by omega
   subst this
   simp
   rw[hy,Hv]
theorem AM(k n:Nat)(hk:k+5*n<=1152921504606846976):VF Tryz.prog G gq [.p (bp (mkI k n)),.p (.int .i64 k)] (.p (.int .i64 ((k+5*n:Nat):Int))):=by
 refine AC.go sx ?_
 have hl:bp (mkI k n)= .lst 5 ((mkI k n).map Mins.cs):=rfl
 have hml:=ln k n
 simp-implicitDefEqProofs[kr]
 refine aw (λi:Nat=>aB 58 [(0,.p (bp (mkI k n))),(1,.p (.int .i64 ((k+5*i:Nat):Int))),(5,.p (.int .i64 i))]) (λ_=>[]) (λi=>i<=n) (λi=>n-i) 0 (by simp) ?_ ?_
 ·exact aD rfl (by simp[below,bp])
 ·intro i hi
  simp-implicitDefEqProofs[hl,hml]
  refine aR (λh1=>?_) (λh1=>?_)
  ·simp at h1
   have hg:=IX (k:=k) h1
   have hw1:IntKind.i64.wrap ((k:Int)+5*(i:Int)+1)=(k:Int)+5*(i:Int)+1:=aa (by omega) (by omega)
   have hw2:IntKind.i64.wrap ((k:Int)+5*(i:Int)+1+1)=(k:Int)+5*(i:Int)+1+1:=aa (by omega) (by omega)
   have hw3:IntKind.i64.wrap ((k:Int)+5*(i:Int)+1+1+1)=(k:Int)+5*(i:Int)+1+1+1:=aa (by omega) (by omega)
   have hw4:IntKind.i64.wrap ((k:Int)+5*(i:Int)+1+1+1+1)=(k:Int)+5*(i:Int)+1+1+1+1:=aa (by omega) (by omega)
   have hw5:IntKind.i64.wrap ((k:Int)+5*(i:Int)+1+1+1+1+1)=(k:Int)+5*(i:Int)+1+1+1+1+1:=aa (by omega) (by omega)
   clear hml
   simp-implicitDefEqProofs[hl,hg,mk1,Mins.cs,hw1,hw2,hw3,hw4,hw5]
   refine⟨i+1,h1,by omega,aD rfl ?_⟩
   simp[below,w1 (i:=i) (by omega)]
   omega
  ·simp at h1
   have:i=n:=by omega
   subst this
   simp-implicitDefEqProofs[]
theorem Dc(k:Nat)(fs:List Mfn)(hk:k+5*szF fs<=1152921504606846976):VF Tryz.prog G il [.p (bc (dR k fs fs.length)),.p (.int .i64 k)] (.p (.int .i64 ((k+2*fs.length+5*szT fs fs.length:Nat):Int))):=by
 refine AC.go tp ?_
 have hl:bc (dR k fs fs.length)= .lst 3 ((dR k fs fs.length).map Mfn.cs):=rfl
 have hml:=pa k fs fs.length
 have hsz:szF fs=fs.length+(fs.map (·.ins.length)).sum:=rfl
 simp-implicitDefEqProofs[lE]
 refine aw (λi:Nat=>aB 40 [(0,.p (bc (dR k fs fs.length))),(1,.p (.int .i64 ((k+2*i+5*szT fs i:Nat):Int))),(5,.p (.int .i64 i))]) (λ_=>[]) (λi=>i<=fs.length) (λi=>fs.length-i) 0 (by simp) ?_ ?_
 ·exact aD rfl (by simp[below,bc,szT])
 ·intro i hi
  simp-implicitDefEqProofs[hl,hml]
  refine aR (λh1=>?_) (λh1=>?_)
  ·simp at h1
   have hg:(dR k fs fs.length)[i]?=some ⟨(k:Int)+2*i+5*szT fs i,(k:Int)+2*i+5*szT fs i+1,mkI (k+2*i+5*szT fs i+2) fs[i].ins.length⟩:=by
    simp[dR,List.getElem?_mapIdx,h1]
   have hx:=mi h1
   have hx2:=pp (fs:=fs) (i:=i+1)
   have hw1:IntKind.i64.wrap ((k:Int)+2*(i:Int)+5*(szT fs i:Int)+1)=(k:Int)+2*(i:Int)+5*(szT fs i:Int)+1:=aa (by omega) (by omega)
   have hw2:IntKind.i64.wrap ((k:Int)+2*(i:Int)+5*(szT fs i:Int)+1+1)=((k+2*i+5*szT fs i+2:Nat):Int):=by rw[aa (by omega) (by omega)];omega
   have hcall:=AM G (k+2*i+5*szT fs i+2) fs[i].ins.length (by omega)
   generalize fs[i].ins.length=w at*
   clear hml
   simp-implicitDefEqProofs[hl,hg,Mfn.cs,hw1,hw2]
   refine hcall.use ?_
   have hng:¬(k:Int)+2*(i:Int)+5*(szT fs i:Int)+2+5*(w:Int)<0:=by omega
   simp-implicitDefEqProofs[hng]
   refine⟨i+1,h1,by omega,aD rfl ?_⟩
   simp[below,w1 (i:=i) (by omega)]
   omega
  ·simp at h1
   have:i=fs.length:=by omega
   subst this
   simp-implicitDefEqProofs[]
theorem Cg(k:Nat)(fs:List Mfn)(hk:k+5*szF fs<=1152921504606846976):VF Tryz.prog G fb [.agg [.p (bc (dR k fs fs.length))],.p (.int .i64 k)] (.p (.int .i64 ((k+2*fs.length+5*szT fs fs.length:Nat):Int))):=by
 refine AC.go ty ?_
 simp-implicitDefEqProofs[lN]
 refine(Dc G k fs hk).use ?_
 have hng:¬(k:Int)+2*(fs.length:Int)+5*(szT fs fs.length:Int)<0:=by omega
 simp-implicitDefEqProofs[hng]
def ku(l:List Int)(i:Nat):List Int:=l.take i++List.replicate (l.length-i) 0
theorem EF{l:List Int}{i:Nat}(h:i<l.length):(ku l i).set i l[i]=ku l (i+1):=by
 have hl:(l.take i).length=i:=by simp;omega
 have e:l.length-i=(l.length-(i+1))+1:=by omega
 show(l.take i++List.replicate (l.length-i) 0).set i l[i]=l.take (i+1)++List.replicate (l.length-(i+1)) 0
 rw[List.set_append_right _ _ (by omega),hl,Nat.sub_self,e,List.replicate_succ,List.set_cons_zero,aq h,List.append_assoc]
 rfl
theorem Et{l:List Int}{i:Nat}(h:i<l.length):(ku l i)[i]?=some 0:=by
 have hl:(l.take i).length=i:=by simp;omega
 rw[ku,List.getElem?_append_right (by omega),hl,Nat.sub_self,List.getElem?_replicate,if_pos (by omega)]
theorem EA{l:List Int}{i:Nat}(h:i<=l.length):(ku l i).length=l.length:=by simp[ku];omega
theorem Fl(l:List Int)(hb:l.length<=1048576):AC Tryz.prog G iI [.p (aN l)] [] λx h=>x= .ret (.sl 0 1 0 l.length)/\h=[bV l]:=by
 refine AC.go uu ?_
 have hbl:aN l= .lst 1 (l.map λn=>[.int .u8 n]):=rfl
 simp-implicitDefEqProofs[mT,hbl]
 refine⟨by omega,?_⟩
 refine aw (λi:Nat=>aB 22 [(0,.p (aN l)),(3,.sl 0 1 0 l.length),(4,.p (.int .i64 i))]) (λi=>[bV (ku l i)]) (λi=>i<=l.length) (λi=>l.length-i) 0 (by simp) ?_ ?_
 ·refine al [0] rfl (by simp) (af (by simp[ku]) (by simp) aj) ?_
  simp[below,ren,aN]
 ·intro i hi
  have hlen:=EA hi
  simp-implicitDefEqProofs[hbl]
  refine aR (λh1=>?_) (λh1=>?_)
  ·simp at h1
   have hg:=List.getElem?_eq_getElem h1
   have hg2:=Et h1
   have hset:((ku l i).map λn=>[AV.p (.int .u8 n)]).set i [.p (.int .u8 l[i])]=(ku l (i+1)).map λn=>[AV.p (.int .u8 n)]:=by rw[←EF h1,List.map_set]
   have hbo:bV (ku l i)= .row 1 ((ku l i).map λn=>[.p (.int .u8 n)]):=rfl
   clear hlen
   simp-implicitDefEqProofs[hg,hbo,hg2,h1,hset]
   refine⟨i+1,h1,by omega,al [0] rfl (by simp) (af rfl (by simp) aj) ?_⟩
   simp[below,ren,aN,w1 (i:=i) (by omega)]
  ·simp at h1
   have:i=l.length:=by omega
   subst this
   simp-implicitDefEqProofs[ku]
end
section
variable (G:az)
theorem EQ(xs:List Int)(left:Nat)(hl:left<=1048576)(hb:xs.length<=9223372036854775807):VF Tryz.prog G jd [.p (aN xs),.p (.int .i64 left)] (.p (.int .i64 (if xs.length<=left then((left-xs.length:Nat):Int) else-1))):=by
 refine AC.go vA ?_
 have hw:IntKind.i64.wrap ((left:Int)-xs.length)=(left:Int)-xs.length:=aa (by omega) (by omega)
 by_cases h:xs.length<=left
 ·have h1:¬(left:Int)-xs.length<0:=by omega
  have h2:(left:Int)-xs.length=((left-xs.length:Nat):Int):=by omega
  simp-implicitDefEqProofs[jc,aN,hw,h1,h]
  omega
 ·have h1:(left:Int)-xs.length<0:=by omega
  simp-implicitDefEqProofs[jc,aN,hw,h1,h]
theorem Gn(xs:List Int)(left:Nat)(hl:left<=1048576)(hb:xs.length<=9223372036854775807):VF Tryz.prog G kh [.p (bk xs),.p (.int .i64 left)] (.p (.int .i64 (if xs.length<=left then((left-xs.length:Nat):Int) else-1))):=by
 refine AC.go yB ?_
 have hw:IntKind.i64.wrap ((left:Int)-xs.length)=(left:Int)-xs.length:=aa (by omega) (by omega)
 by_cases h:xs.length<=left
 ·have h1:¬(left:Int)-xs.length<0:=by omega
  have h2:(left:Int)-xs.length=((left-xs.length:Nat):Int):=by omega
  simp-implicitDefEqProofs[jY,bk,hw,h1,h]
  omega
 ·have h1:(left:Int)-xs.length<0:=by omega
  simp-implicitDefEqProofs[jY,bk,hw,h1,h]
def mb(xs:List (List UInt8))(i:Nat):Nat:=((xs.take i).map List.length).sum
theorem Fx{xs:List (List UInt8)}{i:Nat}(h:i<xs.length):mb xs (i+1)=mb xs i+xs[i].length:=by
 show((xs.take (i+1)).map List.length).sum=((xs.take i).map List.length).sum+xs[i].length
 rw[aq h,List.map_append,List.sum_append]
 rfl
theorem Hl{xs:List (List UInt8)}{i:Nat}(h:xs.length<=i):mb xs i=(xs.map List.length).sum:=by rw[mb,List.take_of_length_le h]
theorem IJ{xs:List (List UInt8)}{i:Nat}:mb xs i<=(xs.map List.length).sum:=by
 conv=>rhs;rw[←List.take_append_drop i xs,List.map_append,List.sum_append]
 simp[mb]
def szW(xs:List (List UInt8)):Nat:=xs.length+(xs.map List.length).sum
theorem Ba(xs:List (List UInt8))(left:Nat)(hl:left<=1048576)(hb:xs.length<=9223372036854775807)(hs:∀x∈xs,x.length<=9223372036854775807):VF Tryz.prog G gf [.p (aQ xs),.p (.int .i64 left)] (.p (.int .i64 (if szW xs<=left then((left-szW xs:Nat):Int) else-1))):=by
 refine AC.go rU ?_
 have hw:IntKind.i64.wrap ((left:Int)-xs.length)=(left:Int)-xs.length:=aa (by omega) (by omega)
 have hsz:szW xs=xs.length+(xs.map List.length).sum:=rfl
 by_cases h:xs.length<=left
 case neg=>
  have h1:(left:Int)-xs.length<0:=by omega
  have h2:¬szW xs<=left:=by omega
  simp-implicitDefEqProofs[gw,aQ,hw,h1,h2]
 have h1:¬(left:Int)-xs.length<0:=by omega
 simp-implicitDefEqProofs[gw,aQ,hw,h1]
 refine aw (λi:Nat=>aB 28 [(0,.p (aQ xs)),(1,.p (.int .i64 ((left-xs.length-mb xs i:Nat):Int))),(5,.p (.int .i64 i))]) (λ_=>[]) (λi=>i<=xs.length/\xs.length+mb xs i<=left) (λi=>xs.length-i) 0 (by simp[mb];omega) ?_ ?_
 ·refine aD rfl ?_
  simp[below,aQ,mb]
  omega
 ·intro i ⟨hi,hx⟩
  simp-implicitDefEqProofs[aQ]
  refine aR (λh1=>?_) (λh1=>?_)
  ·simp at h1
   have hg:=List.getElem?_eq_getElem h1
   have hle:=hs _ (List.getElem_mem h1)
   have hsu:=Fx h1
   have hsl:=IJ (xs:=xs) (i:=i+1)
   have hw2:IntKind.i64.wrap (((left-xs.length-mb xs i:Nat):Int)-(xs[i].length:Int))=((left-xs.length-mb xs i:Nat):Int)-(xs[i].length:Int):=aa (by omega) (by omega)
   by_cases h2:xs.length+mb xs (i+1)<=left
   ·have h3:¬((left-xs.length-mb xs i:Nat):Int)-(xs[i].length:Int)<0:=by omega
    have h4:((left-xs.length-mb xs i:Nat):Int)-(xs[i].length:Int)=((left-xs.length-mb xs (i+1):Nat):Int):=by omega
    rw[h4] at h3
    replace hw2:=hw2.trans h4
    clear hle hsu hsl
    simp-implicitDefEqProofs[hg,hw2,h3]
    refine⟨i+1,⟨h1,h2⟩,by omega,aD rfl (by simp[below,aQ,w1 (i:=i) (by omega)])⟩
   ·have h3:((left-xs.length-mb xs i:Nat):Int)-(xs[i].length:Int)<0:=by omega
    have h5:¬szW xs<=left:=by omega
    clear hle hsu hsl
    simp-implicitDefEqProofs[hg,hw2,h3,h5]
  ·simp at h1
   have hta:=Hl (xs:=xs) h1
   have h5:szW xs<=left:=by omega
   have h6:((left-xs.length-mb xs i:Nat):Int)=((left-szW xs:Nat):Int):=by omega
   simp-implicitDefEqProofs[h5,h6]
def szO(o:Obj):Nat:=o.name.length+o.code.length+o.calls.length+szW o.names
structure ObjSm (o:Obj):Prop where
 name:o.name.length<=9223372036854775807
 code:o.code.length<=9223372036854775807
 calls:o.calls.length<=9223372036854775807
 names:o.names.length<=9223372036854775807
 words:∀x∈o.names,x.length<=9223372036854775807
 bytes:bJ o.code
theorem CK(o:Obj)(left:Nat)(hl:left<=1048576)(ho:ObjSm o):VF Tryz.prog G ib [.agg (o.cs.map .p),.p (.int .i64 left)] (.p (.int .i64 (if szO o<=left then((left-szO o:Nat):Int) else-1))):=by
 refine AC.go tu ?_
 have hn:=ho.name
 have hw:IntKind.i64.wrap ((left:Int)-o.name.length)=(left:Int)-o.name.length:=aa (by omega) (by omega)
 have hsz:szO o=o.name.length+o.code.length+o.calls.length+szW o.names:=rfl
 by_cases h1:o.name.length<=left
 case neg=>
  have h2:(left:Int)-o.name.length<0:=by omega
  have h3:¬szO o<=left:=by omega
  simp-implicitDefEqProofs[im,Obj.cs,hw,h2,h3]
 have h2:¬(left:Int)-o.name.length<0:=by omega
 have e2:(left:Int)-o.name.length=((left-o.name.length:Nat):Int):=by omega
 rw[e2] at h2
 replace hw:=hw.trans e2
 simp-implicitDefEqProofs[im,Obj.cs,hw,h2]
 refine(EQ G o.code (left-o.name.length) (by omega) ho.code).use ?_
 by_cases h4:o.code.length<=left-o.name.length
 case neg=>
  have h3:¬szO o<=left:=by omega
  simp-implicitDefEqProofs[h4,h3]
 have n4:¬((left-o.name.length-o.code.length:Nat):Int)<0:=by omega
 simp-implicitDefEqProofs[h4,n4]
 refine(Gn G o.calls (left-o.name.length-o.code.length) (by omega) ho.calls).use ?_
 by_cases h5:o.calls.length<=left-o.name.length-o.code.length
 case neg=>
  have h3:¬szO o<=left:=by omega
  simp-implicitDefEqProofs[h5,h3]
 have n5:¬((left-o.name.length-o.code.length-o.calls.length:Nat):Int)<0:=by omega
 simp-implicitDefEqProofs[h5,n5]
 refine(Ba G o.names (left-o.name.length-o.code.length-o.calls.length) (by omega) ho.names ho.words).use ?_
 by_cases h6:szW o.names<=left-o.name.length-o.code.length-o.calls.length
 case neg=>
  have h3:¬szO o<=left:=by omega
  simp-implicitDefEqProofs[h6,h3]
 have n6:¬((left-o.name.length-o.code.length-o.calls.length-szW o.names:Nat):Int)<0:=by omega
 have h3:szO o<=left:=by omega
 simp-implicitDefEqProofs[h6,n6,h3]
 omega
def gM(l:List Int):AO:= .row 1 (l.map λn=>[.p (.int .i64 n)])
theorem yW{l:List Int}{id:Nat}{h:List AO}(e:h[id]?=some (gM l)):View h (.sl id 1 0 l.length) (bk l):=by
 have:=eP (h:=h) (id:=id) (sz:=1) (n:=l.length) (ls:=l.map λn=>[.int .i64 n]) (by rw[e,gM];simp) (by simp) (λx hx=>by obtain⟨b,_,rfl⟩:=List.mem_map.1 hx;rfl)
 exact this
def kO(l:List Int)(i:Nat):List Int:=l.take i++List.replicate (l.length-i) 0
theorem FF{l:List Int}{i:Nat}(h:i<l.length):(kO l i).set i l[i]=kO l (i+1):=by
 have hl:(l.take i).length=i:=by simp;omega
 have e:l.length-i=(l.length-(i+1))+1:=by omega
 show(l.take i++List.replicate (l.length-i) 0).set i l[i]=l.take (i+1)++List.replicate (l.length-(i+1)) 0
 rw[List.set_append_right _ _ (by omega),hl,Nat.sub_self,e,List.replicate_succ,List.set_cons_zero,aq h,List.append_assoc]
 rfl
theorem En{l:List Int}{i:Nat}(h:i<l.length):(kO l i)[i]?=some 0:=by
 have hl:(l.take i).length=i:=by simp;omega
 rw[kO,List.getElem?_append_right (by omega),hl,Nat.sub_self,List.getElem?_replicate,if_pos (by omega)]
theorem Ew{l:List Int}{i:Nat}(h:i<=l.length):(kO l i).length=l.length:=by simp[kO];omega
theorem Hd(l:List Int)(hb:l.length<=1048576):AC Tryz.prog G jJ [.p (bk l)] [] λx h=>x= .ret (.sl 0 1 0 l.length)/\h=[gM l]:=by
 refine AC.go yq ?_
 have hbl:bk l= .lst 1 (l.map λn=>[.int .i64 n]):=rfl
 simp-implicitDefEqProofs[nO,hbl]
 refine⟨by omega,?_⟩
 refine aw (λi:Nat=>aB 22 [(0,.p (bk l)),(3,.sl 0 1 0 l.length),(4,.p (.int .i64 i))]) (λi=>[gM (kO l i)]) (λi=>i<=l.length) (λi=>l.length-i) 0 (by simp) ?_ ?_
 ·refine al [0] rfl (by simp) (af (by simp[kO]) (by simp) aj) ?_
  simp[below,ren,bk]
 ·intro i hi
  have hlen:=Ew hi
  simp-implicitDefEqProofs[hbl]
  refine aR (λh1=>?_) (λh1=>?_)
  ·simp at h1
   have hg:=List.getElem?_eq_getElem h1
   have hg2:=En h1
   have hset:((kO l i).map λn=>[AV.p (.int .i64 n)]).set i [.p (.int .i64 l[i])]=(kO l (i+1)).map λn=>[AV.p (.int .i64 n)]:=by rw[←FF h1,List.map_set]
   have hbo:gM (kO l i)= .row 1 ((kO l i).map λn=>[.p (.int .i64 n)]):=rfl
   clear hlen
   simp-implicitDefEqProofs[hg,hbo,hg2,h1,hset]
   refine⟨i+1,h1,by omega,al [0] rfl (by simp) (af rfl (by simp) aj) ?_⟩
   simp[below,ren,bk,w1 (i:=i) (by omega)]
  ·simp at h1
   have:i=l.length:=by omega
   subst this
   simp-implicitDefEqProofs[kO]
def fR(l:List (List UInt8)):AO:= .row 1 (l.map λn=>[.p (.str n)])
theorem nE{l:List (List UInt8)}{id:Nat}{h:List AO}(e:h[id]?=some (fR l)):View h (.sl id 1 0 l.length) (aQ l):=by
 have:=eP (h:=h) (id:=id) (sz:=1) (n:=l.length) (ls:=l.map λn=>[.str n]) (by rw[e,fR];simp) (by simp) (λx hx=>by obtain⟨b,_,rfl⟩:=List.mem_map.1 hx;rfl)
 exact this
def kM(l:List (List UInt8))(i:Nat):List (List UInt8):=l.take i++List.replicate (l.length-i) []
theorem EB{l:List (List UInt8)}{i:Nat}(h:i<l.length):(kM l i).set i l[i]=kM l (i+1):=by
 have hl:(l.take i).length=i:=by simp;omega
 have e:l.length-i=(l.length-(i+1))+1:=by omega
 show(l.take i++List.replicate (l.length-i) []).set i l[i]=l.take (i+1)++List.replicate (l.length-(i+1)) []
 rw[List.set_append_right _ _ (by omega),hl,Nat.sub_self,e,List.replicate_succ,List.set_cons_zero,aq h,List.append_assoc]
 rfl
theorem Ez{l:List (List UInt8)}{i:Nat}(h:i<l.length):(kM l i)[i]?=some []:=by
 have hl:(l.take i).length=i:=by simp;omega
 rw[kM,List.getElem?_append_right (by omega),hl,Nat.sub_self,List.getElem?_replicate,if_pos (by omega)]
theorem EZ{l:List (List UInt8)}{i:Nat}(h:i<=l.length):(kM l i).length=l.length:=by simp[kM];omega
theorem Av(l:List (List UInt8))(hb:l.length<=1048576):AC Tryz.prog G gl [.p (aQ l)] [] λx h=>x= .ret (.sl 0 1 0 l.length)/\h=[fR l]:=by
 refine AC.go rJ ?_
 have hbl:aQ l= .lst 1 (l.map λn=>[.str n]):=rfl
 simp-implicitDefEqProofs[kz,hbl]
 refine⟨by omega,?_⟩
 refine aw (λi:Nat=>aB 22 [(0,.p (aQ l)),(3,.sl 0 1 0 l.length),(4,.p (.int .i64 i))]) (λi=>[fR (kM l i)]) (λi=>i<=l.length) (λi=>l.length-i) 0 (by simp) ?_ ?_
 ·refine al [0] rfl (by simp) (af (by simp[kM]) (by simp) aj) ?_
  simp[below,ren,aQ]
 ·intro i hi
  have hlen:=EZ hi
  simp-implicitDefEqProofs[hbl]
  refine aR (λh1=>?_) (λh1=>?_)
  ·simp at h1
   have hg:=List.getElem?_eq_getElem h1
   have hg2:=Ez h1
   have hset:((kM l i).map λn=>[AV.p (.str n)]).set i [.p (.str l[i])]=(kM l (i+1)).map λn=>[AV.p (.str n)]:=by rw[←EB h1,List.map_set]
   have hbo:fR (kM l i)= .row 1 ((kM l i).map λn=>[.p (.str n)]):=rfl
   clear hlen
   simp-implicitDefEqProofs[hg,hbo,hg2,h1,hset]
   refine⟨i+1,h1,by omega,al [0] rfl (by simp) (af rfl (by simp) aj) ?_⟩
   simp[below,ren,aQ,w1 (i:=i) (by omega)]
  ·simp at h1
   have:i=l.length:=by omega
   subst this
   simp-implicitDefEqProofs[kM]
end
section
variable (G:az)
theorem CE(n:Int):VF Tryz.prog G cy [.p (.int .i32 n)] (.p (.bool (decide (n<97)||decide (122<n)))):=by
 refine AC.go tD ?_
 simp-implicitDefEqProofs[lL]
 by_cases h:n<97
 ·simp-implicitDefEqProofs[h]
 ·simp-implicitDefEqProofs[h]
theorem Iv{s:List UInt8}{i:Nat}(h:i<s.length)(hl:dm s[i]=true):Utf8.decode ⟨⟨s⟩⟩ i=(s[i].toNat,1):=by
 simp only[dm,Bool.and_eq_true,decide_eq_true_eq] at hl
 exact decode_ascii ⟨⟨s⟩⟩ i h (by show(s[i]).toNat<128;omega)
theorem Fy{s:List UInt8}{i:Nat}(h:i<s.length)(hl:¬dm s[i]=true):(((Utf8.decode ⟨⟨s⟩⟩ i).1:Int)<97\/122<((Utf8.decode ⟨⟨s⟩⟩ i).1:Int)):=by
 rcases Nat.lt_or_ge s[i].toNat 128 with h1|h1
 ·rw[show Utf8.decode ⟨⟨s⟩⟩ i=(s[i].toNat,1) from decode_ascii ⟨⟨s⟩⟩ i h h1]
  simp[dm] at hl
  simp only
  omega
 ·have:=(decode_high ⟨⟨s⟩⟩ i h h1).1
  omega
theorem Bo(s:List UInt8)(hb:s.length<=140737488355328):VF Tryz.prog G eJ [.p (.str s),.fn (.func cy) [],.p (.bool true)] (.p (.int .i64 (Am s))):=by
 refine AC.go nJ ?_
 simp-implicitDefEqProofs[ir]
 refine aw (λi:Nat=>aB 21 [(0,.p (.str s)),(1,.fn (.func cy) []),(2,.p (.bool true)),(10,.it 0)]) (λi=>[.sit s i]) (λi=>i<=s.length/\∀x∈s.take i,dm x=true) (λi=>s.length-i) 0 (by simp) ?_ ?_
 ·exact bh (by simp) (by simp[okO]) (by simp[below,ab])
 ·intro i ⟨hi,hn⟩
  simp-implicitDefEqProofs[]
  by_cases h1:i<s.length
  ·have hg:=List.getElem?_eq_getElem h1
   simp-implicitDefEqProofs[h1]
   refine(CE G _).use ?_
   by_cases hl:dm s[i]=true
   ·have hd:=Iv h1 hl
    have hl':=hl
    simp only[dm,Bool.and_eq_true,decide_eq_true_eq] at hl'
    have e1:¬((s[i].toNat:Int)<97):=by omega
    have e2:¬(122<(s[i].toNat:Int)):=by omega
    rw[hd]
    simp-implicitDefEqProofs[e1,e2]
    refine⟨i+1,⟨h1,λp hp=>?_⟩,by omega,bh (by simp) (by simp[okO]) (by simp[below,ab])⟩
    rw[aq h1] at hp
    rcases List.mem_append.1 hp with hp|hp
    ·exact hn p hp
    ·rw[List.mem_singleton.1 hp];exact hl
   ·have hd:=Fy h1 hl
    have hf:Am s=i:=by
     have:s.findIdx? (λx=> !dm x)=some i:=by
      rw[List.findIdx?_eq_some_iff_getElem]
      exact⟨h1,by simpa using hl,λj hj=>by have:=hn s[j] (List.mem_take_iff_getElem.2 ⟨j,by omega,rfl⟩);simpa using this⟩
     rw[Am,this]
    have hdb:(decide (((Utf8.decode ⟨⟨s⟩⟩ i).1:Int)<97)||decide (122<((Utf8.decode ⟨⟨s⟩⟩ i).1:Int)))=true:=by
     rcases hd with h|h<;>simp[h]
    rw[hdb]
    simp-implicitDefEqProofs[hf]
  ·have hn':=hn
   rw[List.take_of_length_le (by omega)] at hn'
   have hf:Am s= -1:=by
    have:s.findIdx? (λx=> !dm x)=none:=by
     rw[List.findIdx?_eq_none_iff];intro x hx;simpa using hn' x hx
    rw[Am,this]
   simp-implicitDefEqProofs[h1,hf]
theorem AE(s:List UInt8)(hb:s.length<=140737488355328):VF Tryz.prog G eD [.p (.str s),.fn (.func cy) []] (.p (.int .i64 (Am s))):=by
 refine AC.go nK ?_
 simp-implicitDefEqProofs[ip]
 refine(Bo G s hb).use ?_
 simp-implicitDefEqProofs[]
theorem Ij(L:List (List UInt8))(s:List UInt8)(hb:L.length<=1048576):VF Tryz.prog G dQ [.p (aQ L),.p (.str s)] (.p (.int .i64 (idxS L s))):=by
 refine AC.go me ?_
 have hsl:aQ L= .lst 1 (L.map λw=>[.str w]):=rfl
 simp-implicitDefEqProofs[fZ,hsl]
 refine aw (λi:Nat=>aB 19 [(0,.p (aQ L)),(1,.p (.str s)),(6,.p (aQ L)),(7,.p (.int .i64 L.length)),(8,.p (.int .i64 i))]) (λ_=>[]) (λi=>i<=L.length/\∀w∈L.take i,w≠s) (λi=>L.length-i) 0 (by simp) ?_ ?_
 ·exact aD rfl (by simp[below,aQ])
 ·intro i ⟨hi,hn⟩
  simp-implicitDefEqProofs[hsl]
  refine aR (λh1=>?_) (λh1=>?_)
  ·simp at h1
   have hg:=List.getElem?_eq_getElem h1
   by_cases he:L[i]=s
   ·have hf:idxS L s=i:=by
     have:L.findIdx? (λw=>w==s)=some i:=by
      rw[List.findIdx?_eq_some_iff_getElem]
      exact⟨h1,by simpa using he,λj hj=>by have:=hn L[j] (List.mem_take_iff_getElem.2 ⟨j,by omega,rfl⟩);simpa using this⟩
     rw[idxS,this]
    have he':s=L[i]:=he.symm
    simp-implicitDefEqProofs[hg,hf,←he']
   ·have he':¬s=L[i]:=λe=>he e.symm
    simp-implicitDefEqProofs[hg,he']
    refine⟨i+1,⟨h1,λp hp=>?_⟩,by omega,aD rfl ?_⟩
    ·rw[aq h1] at hp
     rcases List.mem_append.1 hp with hp|hp
     ·exact hn p hp
     ·rw[List.mem_singleton.1 hp];exact he
    ·simp[below,aQ,w1 (i:=i) (by omega)]
  ·simp at h1
   rw[List.take_of_length_le h1] at hn
   have hf:idxS L s= -1:=by
    have:L.findIdx? (λw=>w==s)=none:=by
     rw[List.findIdx?_eq_none_iff];intro x hx;simpa using hn x hx
    rw[idxS,this]
   simp-implicitDefEqProofs[hf]
theorem oY(L:List (List UInt8))(s:List UInt8)(hb:L.length<=1048576):VF Tryz.prog G bR [.p (aQ L),.p (.str s)] (.p (.bool (L.contains s))):=by
 rw[←GB]
 refine AC.go jP ?_
 simp-implicitDefEqProofs[eS]
 refine(Ij G L s hb).use ?_
 simp-implicitDefEqProofs[]
abbrev ig:Nat:=0
def gB:List PV:=keyW.map .str
variable (hK:G ig=some gB)
include hK
theorem pS(s:List UInt8)(hb:s.length<=140737488355328):VF Tryz.prog G eM [.p (.str s)] (.p (.bool (aS s))):=by
 refine AC.go yN ?_
 dsimp only[ig] at hK
 simp-implicitDefEqProofs[nV]
 refine(dI G _ _ _).use ?_
 have hr:inR (s.length:Int) 1 4=(decide (0<s.length)&&decide (s.length<=4)):=by
  unfold inR
  by_cases h1:0<s.length<;>by_cases h2:s.length<=4<;>simp[h1,h2]<;>omega
 rw[hr]
 have hi:aS s=((decide (0<s.length)&&decide (s.length<=4))&&(s.all dm&& !keyW.contains s)):=by
  rw[aS];cases s.all dm<;>cases decide (0<s.length)<;>cases decide (s.length<=4)<;>rfl
 cases h1:(decide (0<s.length)&&decide (s.length<=4)) with
 |false=>
  rw[hi,h1]
  simp-implicitDefEqProofs[]
 |true=>
  rw[hi,h1]
  simp-implicitDefEqProofs[]
  refine(AE G s hb).use ?_
  rw[←GL]
  by_cases hn:Am s<0
  ·simp-implicitDefEqProofs[hn,hK,gB,keyW]
   refine(oY G keyW s (by decide)).use ?_
   simp-implicitDefEqProofs[keyW]
  ·simp-implicitDefEqProofs[hn]
end
section
def sOf(op:Int):Int:=shpT.getD op.toNat 2
theorem Fo{op:Int}(h:inR op 1 22=true):
 (sOf op=0/\fP op=false/\(op==1||inR op 15 18)=true)\/
 (sOf op=1/\fP op=false/\(op==1||inR op 15 18)=false/\inR op 3 9=false/\(op==2||inR op 10 12)=true)\/
 (sOf op=2/\fP op=false/\(op==1||inR op 15 18)=false/\inR op 3 9=true)\/
 (sOf op=3/\fP op=false/\(op==1||inR op 15 18)=false/\inR op 3 9=false/\(op==2||inR op 10 12)=false/\(op==14)=false)\/
 (sOf op=4/\fP op=false/\(op==1||inR op 15 18)=false/\inR op 3 9=false/\(op==2||inR op 10 12)=false/\(op==14)=true)\/
 (sOf op=5/\fP op=true):=by
 rcases Az h with rfl|rfl|rfl|rfl|rfl|rfl|rfl|rfl|rfl|rfl|rfl|rfl|rfl|rfl|rfl|rfl|rfl|rfl|rfl|rfl|rfl|rfl<;>decide
variable (G:az)
theorem AF(n:Int)(h:0<=n/\n<=255):VF Tryz.prog G bj [.p (.int .u8 n)] (.p (.int .i64 n)):=by
 refine AC.go sk ?_
 simp-implicitDefEqProofs[kB,aa (x:=n) (by omega) (by omega)]
def uR(l:List Int):PV:= .lst 1 (l.map λn=>[.int .i64 n])
def jQ(l:List Int):List (List AV):=l.map λn=>[.p (.int .i64 n)]
theorem EK(l:List Int):∀x∈jQ l,ab 0 x:=by
 intro x hx;obtain⟨m,_,rfl⟩:=List.mem_map.1 hx;simp[ab,below]
theorem Hg(l:List Int)(hb:bJ l)(hl:l.length<=1048576):VF Tryz.prog G cE [.p (aN l),.fn (.func bj) []] (.p (uR l)):=by
 have key:AC Tryz.prog G cE [.p (aN l),.fn (.func bj) []] [] λx h=>x= .ret (slE 0 1 (jQ l))/\(l≠[]->h[0]?=some (.row 1 (jQ l))):=by
  refine AC.go rx ?_
  have hbl:aN l= .lst 1 (l.map λn=>[.int .u8 n]):=rfl
  simp-implicitDefEqProofs[jz,hbl]
  refine aw (λi:Nat=>aB 22 [(1,.fn (.func bj) []),(5,slE 0 1 (jQ (l.take i))),(8,.p (aN l)),(9,.p (.int .i64 l.length)),(10,.p (.int .i64 i))])
   (λi=>if i=0 then[] else[.row 1 (jQ (l.take i))]) (λi=>i<=l.length) (λi=>l.length-i) 0 (by simp) ?_ ?_
  ·exact aD rfl (by simp[below,ab,aN,jQ,slE])
  ·intro i hi
   simp-implicitDefEqProofs[hbl]
   refine aR (λh1=>?_) (λh1=>?_)
   ·simp at h1
    have hg:=List.getElem?_eq_getElem h1
    have hnb:=hb _ (List.getElem_mem h1)
    simp-implicitDefEqProofs[hg]
    refine(AF G _ hnb).use ?_
    have hts:jQ (l.take (i+1))=jQ (l.take i)++[[.p (.int .i64 l[i])]]:=by rw[jQ,aq h1,List.map_append];rfl
    have hne:([[.p (.int .i64 l[i])]]:List (List AV))≠[]:=by simp
    have hln:(jQ (l.take i)).length=i:=by simp[jQ];omega
    have fin:∀(l1:List (Nat × AV)) (h:List AO) (k:Nat),h[k]?=some (.row 1 (jQ (l.take (i+1))))->TWA [k] l1 [(1,.fn (.func bj) []),(5,.sl 0 1 0 (i+1)),(8,.p (aN l)),(9,.p (.int .i64 l.length)),(10,.p (.int .i64 ((i+1:Nat):Int)))]->
     Wk 0 (aB 22 l1) h (aB 22 [(1,.fn (.func bj) []),(5,slE 0 1 (jQ (l.take (i+1)))),(8,.p (aN l)),(9,.p (.int .i64 l.length)),(10,.p (.int .i64 ((i+1:Nat):Int)))]) (if i+1=0 then[] else[.row 1 (jQ (l.take (i+1)))]):=λl1 h k hk hl1=>by
     rw[if_neg (by omega),show slE 0 1 (jQ (l.take (i+1)))= .sl 0 1 0 (i+1) by rw[hts,tX _ hne,hln];rfl]
     exact al [k] rfl (by simp) (af hk (EK _) aj) hl1
    rcases Nat.eq_zero_or_pos i with h0|h0
    ·subst h0
     have hsl0:slE 0 1 (jQ ([]:List Int))= .nils:=rfl
     simp-implicitDefEqProofs[hsl0]
     refine⟨1,h1,by omega,?_⟩
     refine fin _ _ 1 ?_ ?_
     ·rw[hts];rfl
     ·simp[below,ab,ren,aF,aN]
      rfl
    ·have h0':¬i=0:=by omega
     have hsl:slE 0 1 (jQ (l.take i))= .sl 0 1 0 i:=by rw[cP (by intro e;rw[e] at hln;simp at hln;omega),hln]
     simp-implicitDefEqProofs[h0',hsl,hln]
     refine⟨⟨by omega,by omega⟩,i+1,h1,by omega,fin _ _ 2 (by rw[hts];simp[List.take_of_length_le,hln]) (by simp[below,ab,ren,aF,aN,w1 (i:=i) (by omega)])⟩
   ·simp at h1
    have hie:i=l.length:=by omega
    subst hie
    simp-implicitDefEqProofs[List.take_length]
    intro hne
    simp[hne]
 refine key.freezeR (λt v h ⟨e,_⟩=>by cases e) λv h ⟨e1,e2⟩=>?_
 cases e1
 by_cases hne:l=[]
 ·subst hne;exact .one (View.nils 1) .nil
 ·have hn:jQ l≠[]:=by simpa[jQ] using hne
  have hm:jQ l=(l.map λn=>[PV.int .i64 n]).map (·.map .p):=by simp[jQ]
  have:=Du (h:=h) (id:=0) (sz:=1) (ls:=l.map λn=>[PV.int .i64 n]) (by rw[←hm,dS hn];exact e2 hne) (by simp)
  rw[←hm] at this
  exact .one this .nil
def zMi:Mins:=⟨0,0,0,0,0⟩
theorem dV{code:List Int}{i n k:Nat}(hk:k<n)(h:i+n<=code.length):((code.drop i).take n)[k]?=some (aJ code (i+k)):=by
 rw[List.getElem?_take,if_pos hk,List.getElem?_drop,cX (by omega)]
theorem fV(op:Int)(h:inR op 1 22=true):VF Tryz.prog G cW [.p (.int .i64 op)] (.p (.int .i64 (sOf op))):=ze G op h
theorem Fw(code:List Int)(hb:bJ code)(i:Nat)(hi:i<code.length)(hl:code.length<=1048576):
 VF Tryz.prog G jl [.p (aN code),.p (.int .i64 i)] (.tup [.agg ((if bl code i then bS code i else zMi).cs.map .p),.p (.int .i64 (if bl code i then aI code i else 0:Nat))]):=by
 refine AC.go vw ?_
 have hbl:aN code= .lst 1 (code.map λn=>[.int .u8 n]):=rfl
 have hg0:=cX hi
 have h0:=dW hb i
 have hcv:IntKind.i64.wrap (aJ code i)=aJ code i:=aa (by omega) (by omega)
 have hsz:aI code i=aL (eG (aT code i)) (ee code i):=rfl
 have hX:bS code i=nL code i (aT code i) (ee code i):=rfl
 have hil:(i:Int)<=code.length:=by omega
 have hdr:List.drop i (List.take code.length (code.map λn=>[PV.int .u8 n]))=(code.drop i).map λn=>[PV.int .u8 n]:=by rw[List.take_of_length_le (by simp),List.map_drop]
 simp-implicitDefEqProofs[mz,hbl,hg0,hcv,hil,hdr]
 refine⟨by omega,?_⟩
 have hbad:¬fu code i=true->((if bl code i then bS code i else zMi)=zMi/\(if bl code i then aI code i else 0)=0):=λh=>by simp[bl,h]
 have hnofit:¬i+aI code i<=code.length->((if bl code i then bS code i else zMi)=zMi/\(if bl code i then aI code i else 0)=0):=λh=>by simp[bl,h]
 have hfine:fu code i=true->i+aI code i<=code.length->bl code i=true:=λh1 h2=>by simp[bl,h1,h2]
 have hrest:(((code.drop i).length:Nat):Int)=(code.length:Int)-i:=by simp;omega
 have hmp:∀n,VF Tryz.prog G cE [.p (.lst 1 (List.take n (List.drop i (code.map λn=>[PV.int .u8 n])))),.fn (.func bj) []] (.p (uR ((code.drop i).take n))):=λn=>by
  have:=Hg G ((code.drop i).take n) (λx hx=>hb x (List.mem_of_mem_drop (List.mem_of_mem_take hx))) (by simp;omega)
  rw[aN,List.map_take,List.map_drop] at this;exact this
 have b1:=dW hb (i+1)
 have hm:(aJ code (i+1)).tmod 8=aJ code (i+1)%8:=Int.tmod_eq_emod_of_nonneg b1.1
 have hdd:(aJ code (i+1)).tdiv 8=aJ code (i+1)/8:=Int.tdiv_eq_ediv_of_nonneg b1.1
 have hdv:IntKind.i64.wrap (aJ code (i+1)/8)=aJ code (i+1)/8:=aa (by omega) (by omega)
 have hs8:∀k,IntKind.i8.wrap (aJ code k)=s8 (aJ code k):=λk=>by
  have:=dW hb k
  simp[IntKind.wrap,IntKind.bits,IntKind.signed,s8]
  split<;>split<;>omega
 have hr8:∀k,-128<=s8 (aJ code k)/\s8 (aJ code k)<=127:=λk=>by
  have:=dW hb k
  unfold s8;split<;>omega
 have hr64:∀k,IntKind.i64.wrap (s8 (aJ code k))=s8 (aJ code k):=λk=>aa (by have:=hr8 k;omega) (by have:=hr8 k;omega)
 have hsum:∀n k:Nat,n<=4->IntKind.i64.wrap (((i+n:Nat):Int)+s8 (aJ code k))=((i+n:Nat):Int)+s8 (aJ code k):=λn k hn=>aa (by have:=hr8 k;omega) (by have:=hr8 k;omega)
 have hwi:∀n:Nat,n<=4->IntKind.i64.wrap ((i:Int)+n)=((i+n:Nat):Int):=λn hn=>iw (by omega) (by omega)
 have hlong:∀k l:Nat,IntKind.i64.wrap (aJ code k+IntKind.i64.wrap (256*aJ code l))=aJ code k+256*aJ code l:=λk l=>by
  have:=dW hb k
  have:=dW hb l
  rw[aa (x:=256*_) (by omega) (by omega),aa (by omega) (by omega)]
 cases hL:ee code i with
 |false=>
  have hlt:aJ code i<128:=by simpa[ee] using hL
  have hop:aT code i=aJ code i:=by rw[aT];omega
  have hng:¬128<=aT code i:=by omega
  rw[hL] at hsz hX
  rw[←hop]
  simp-implicitDefEqProofs[hng]
  refine(dI G _ _ _).use ?_
  by_cases hr:inR (aT code i) 1 22=true
  rotate_left
  ·obtain⟨e1,e2⟩:=hbad (by simp[fu,hr])
   simp-implicitDefEqProofs[hr,e1,e2]
   simp[zMi,Mins.cs]
  have hok:fu code i=true:=by simp[fu,hr,hL]
  simp-implicitDefEqProofs[hr,eA,keq]
  refine(fV G _ hr).use ?_
  rcases Fo hr with⟨hs,hj,c1⟩|⟨hs,hj,c1,c2,c3⟩|⟨hs,hj,c1,c2⟩|⟨hs,hj,c1,c2,c3,c4⟩|⟨hs,hj,c1,c2,c3,c4⟩|⟨hs,hj⟩
  ·have h21:¬aT code i=21:=by intro e;simp[fP,e] at hj
   have hn:aI code i=3:=by rw[hsz,aL,if_neg (by simpa[jmp,eG,fP] using hj),aO];simp only[eG,c1,if_true];try rfl
   have hXe:bS code i=⟨aT code i,aJ code (i+1),0,0,aJ code (i+2)⟩:=by rw[hX];simp only[nL,hj,c1,if_true];try rfl
   simp-implicitDefEqProofs[hs,h21,bB,keq]
   refine aR (λh1=>?_) (λh1=>?_)
   ·obtain⟨e1,e2⟩:=hnofit (by rw[hn];simp at h1;omega)
    simp-implicitDefEqProofs[e1,e2]
    simp[zMi,Mins.cs]
   have hfit:i+3<=code.length:=by simp at h1;omega
   have hgd:=hfine hok (by rw[hn];exact hfit)
   have hll:3<=code.length-i:=by omega
   simp-implicitDefEqProofs[hll]
   refine(hmp 3).use ?_
   have g1:=dV (code:=code) (i:=i) (n:=3) (k:=1) (by omega) hfit
   have g2:=dV (code:=code) (i:=i) (n:=3) (k:=2) (by omega) hfit
   generalize ((code.drop i).take 3)=q at g1 g2⊢
   simp-implicitDefEqProofs[]
   refine(fV G _ hr).use ?_
   simp-implicitDefEqProofs[hs,uR,g1,g2]
   simp[hgd,hn,Mins.cs,hXe]
  ·have h21:¬aT code i=21:=by intro e;simp[fP,e] at hj
   have hn:aI code i=2:=by rw[hsz,aL,if_neg (by simpa[jmp,eG,fP] using hj),aO];simp only[eG,c1,c2,c3,if_true,if_false,Bool.false_eq_true];try rfl
   have hXe:bS code i=⟨aT code i,aJ code (i+1)%8,aJ code (i+1)/8,0,0⟩:=by rw[hX];simp only[nL,hj,c1,c2,c3,if_true,if_false,Bool.false_eq_true];try rfl
   simp-implicitDefEqProofs[hs,h21,bB,keq]
   refine aR (λh1=>?_) (λh1=>?_)
   ·obtain⟨e1,e2⟩:=hnofit (by rw[hn];simp at h1;omega)
    simp-implicitDefEqProofs[e1,e2]
    simp[zMi,Mins.cs]
   have hfit:i+2<=code.length:=by simp at h1;omega
   have hgd:=hfine hok (by rw[hn];exact hfit)
   have hll:2<=code.length-i:=by omega
   simp-implicitDefEqProofs[hll]
   refine(hmp 2).use ?_
   have g1:=dV (code:=code) (i:=i) (n:=2) (k:=1) (by omega) hfit
   generalize ((code.drop i).take 2)=q at g1⊢
   simp-implicitDefEqProofs[]
   refine(fV G _ hr).use ?_
   simp-implicitDefEqProofs[hs,uR,g1,hm,hdd,hdv]
   simp[hgd,hn,Mins.cs,hXe]
  ·have h21:¬aT code i=21:=by intro e;simp[fP,e] at hj
   have hn:aI code i=3:=by rw[hsz,aL,if_neg (by simpa[jmp,eG,fP] using hj),aO];simp only[eG,c1,c2,if_true,if_false,Bool.false_eq_true];try rfl
   have hXe:bS code i=⟨aT code i,aJ code (i+1)%8,aJ code (i+1)/8,aJ code (i+2),0⟩:=by rw[hX];simp only[nL,hj,c1,c2,if_true,if_false,Bool.false_eq_true];try rfl
   simp-implicitDefEqProofs[hs,h21,bB,keq]
   refine aR (λh1=>?_) (λh1=>?_)
   ·obtain⟨e1,e2⟩:=hnofit (by rw[hn];simp at h1;omega)
    simp-implicitDefEqProofs[e1,e2]
    simp[zMi,Mins.cs]
   have hfit:i+3<=code.length:=by simp at h1;omega
   have hgd:=hfine hok (by rw[hn];exact hfit)
   have hll:3<=code.length-i:=by omega
   simp-implicitDefEqProofs[hll]
   refine(hmp 3).use ?_
   have g1:=dV (code:=code) (i:=i) (n:=3) (k:=1) (by omega) hfit
   have g2:=dV (code:=code) (i:=i) (n:=3) (k:=2) (by omega) hfit
   generalize ((code.drop i).take 3)=q at g1 g2⊢
   simp-implicitDefEqProofs[]
   refine(fV G _ hr).use ?_
   simp-implicitDefEqProofs[hs,uR,g1,g2,hm,hdd,hdv]
   simp[hgd,hn,Mins.cs,hXe]
  ·have h21:¬aT code i=21:=by intro e;simp[fP,e] at hj
   have hn:aI code i=2:=by rw[hsz,aL,if_neg (by simpa[jmp,eG,fP] using hj),aO];simp only[eG,c1,c2,c3,c4,if_true,if_false,Bool.false_eq_true];try rfl
   have hXe:bS code i=⟨aT code i,aJ code (i+1),0,0,0⟩:=by rw[hX];simp only[nL,hj,c1,c2,c3,c4,if_true,if_false,Bool.false_eq_true];try rfl
   simp-implicitDefEqProofs[hs,h21,bB,keq]
   refine aR (λh1=>?_) (λh1=>?_)
   ·obtain⟨e1,e2⟩:=hnofit (by rw[hn];simp at h1;omega)
    simp-implicitDefEqProofs[e1,e2]
    simp[zMi,Mins.cs]
   have hfit:i+2<=code.length:=by simp at h1;omega
   have hgd:=hfine hok (by rw[hn];exact hfit)
   have hll:2<=code.length-i:=by omega
   simp-implicitDefEqProofs[hll]
   refine(hmp 2).use ?_
   have g1:=dV (code:=code) (i:=i) (n:=2) (k:=1) (by omega) hfit
   generalize ((code.drop i).take 2)=q at g1⊢
   simp-implicitDefEqProofs[]
   refine(fV G _ hr).use ?_
   simp-implicitDefEqProofs[hs,uR,g1]
   simp[hgd,hn,Mins.cs,hXe]
  ·have h21:¬aT code i=21:=by intro e;simp[fP,e] at hj
   have hn:aI code i=2:=by rw[hsz,aL,if_neg (by simpa[jmp,eG,fP] using hj),aO];simp only[eG,c1,c2,c3,c4,if_true,if_false,Bool.false_eq_true];try rfl
   have hXe:bS code i=⟨aT code i,0,0,0,aJ code (i+1)⟩:=by rw[hX];simp only[nL,hj,c1,c2,c3,c4,if_true,if_false,Bool.false_eq_true];try rfl
   simp-implicitDefEqProofs[hs,h21,bB,keq]
   refine aR (λh1=>?_) (λh1=>?_)
   ·obtain⟨e1,e2⟩:=hnofit (by rw[hn];simp at h1;omega)
    simp-implicitDefEqProofs[e1,e2]
    simp[zMi,Mins.cs]
   have hfit:i+2<=code.length:=by simp at h1;omega
   have hgd:=hfine hok (by rw[hn];exact hfit)
   have hll:2<=code.length-i:=by omega
   simp-implicitDefEqProofs[hll]
   refine(hmp 2).use ?_
   have g1:=dV (code:=code) (i:=i) (n:=2) (k:=1) (by omega) hfit
   generalize ((code.drop i).take 2)=q at g1⊢
   simp-implicitDefEqProofs[]
   refine(fV G _ hr).use ?_
   simp-implicitDefEqProofs[hs,uR,g1]
   simp[hgd,hn,Mins.cs,hXe]
  ·have hc:aT code i=20\/aT code i=21:=by simpa[fP] using hj
   rcases hc with e|e
   ·skip
    have hn:aI code i=2:=by rw[hsz,e];rfl
    have hXe:bS code i=⟨20,0,0,0,((i+2:Nat):Int)+s8 (aJ code (i+1))⟩:=by rw[hX,e];rfl
    simp-implicitDefEqProofs[show sOf 20=5 from rfl,show sOf 21=5 from rfl,e,bB,keq,show IntKind.i64.wrap 3=3 from rfl,show IntKind.i64.wrap 4=4 from rfl]
    refine aR (λh1=>?_) (λh1=>?_)
    ·obtain⟨e1,e2⟩:=hnofit (by rw[hn];simp at h1;omega)
     simp-implicitDefEqProofs[e1,e2]
     simp[zMi,Mins.cs]
    have hfit:i+2<=code.length:=by simp at h1;omega
    have hgd:=hfine hok (by rw[hn];exact hfit)
    have hll:2<=code.length-i:=by omega
    simp-implicitDefEqProofs[hll]
    refine(hmp 2).use ?_
    have gr:=cX (code:=code) (i:=i+1) (by omega)
    have g0:=dV (code:=code) (i:=i) (n:=2) (k:=0) (by omega) hfit
    generalize ((code.drop i).take 2)=q at g0⊢
    simp-implicitDefEqProofs[]
    refine(fV G 20 rfl).use ?_
    simp-implicitDefEqProofs[show sOf 20=5 from rfl,show sOf 21=5 from rfl,e,uR,g0,show IntKind.i64.wrap 1=1 from rfl,show IntKind.i64.wrap 2=2 from rfl,show IntKind.i64.wrap 3=3 from rfl,gr,hs8,hr64]
    simp[hgd,hn,Mins.cs,hXe,hsum]
    have:=hr8 (i+1)
    rw[aa (x:=(i:Int)+2) (by omega) (by omega),aa (by omega) (by omega)]
   ·skip
    have hn:aI code i=3:=by rw[hsz,e];rfl
    have hXe:bS code i=⟨21,aJ code (i+1),0,0,((i+3:Nat):Int)+s8 (aJ code (i+2))⟩:=by rw[hX,e];rfl
    simp-implicitDefEqProofs[show sOf 20=5 from rfl,show sOf 21=5 from rfl,e,bB,keq,show IntKind.i64.wrap 3=3 from rfl,show IntKind.i64.wrap 4=4 from rfl]
    refine aR (λh1=>?_) (λh1=>?_)
    ·obtain⟨e1,e2⟩:=hnofit (by rw[hn];simp at h1;omega)
     simp-implicitDefEqProofs[e1,e2]
     simp[zMi,Mins.cs]
    have hfit:i+3<=code.length:=by simp at h1;omega
    have hgd:=hfine hok (by rw[hn];exact hfit)
    have hll:3<=code.length-i:=by omega
    simp-implicitDefEqProofs[hll]
    refine(hmp 3).use ?_
    have g1:=dV (code:=code) (i:=i) (n:=3) (k:=1) (by omega) hfit
    have gr:=cX (code:=code) (i:=i+2) (by omega)
    generalize ((code.drop i).take 3)=q at g1⊢
    simp-implicitDefEqProofs[]
    refine(fV G 21 rfl).use ?_
    simp-implicitDefEqProofs[show sOf 20=5 from rfl,show sOf 21=5 from rfl,e,uR,g1,show IntKind.i64.wrap 1=1 from rfl,show IntKind.i64.wrap 2=2 from rfl,show IntKind.i64.wrap 3=3 from rfl,gr,hs8,hr64]
    simp[hgd,hn,Mins.cs,hXe,hsum]
    have:=hr8 (i+2)
    rw[aa (x:=(i:Int)+3) (by omega) (by omega),aa (by omega) (by omega)]
 |true=>
  have hge:128<=aJ code i:=by simpa[ee] using hL
  have hop:aT code i=aJ code i-128:=by rw[aT];omega
  have hwo:IntKind.i64.wrap (aJ code i-128)=aT code i:=by rw[aa (by omega) (by omega),hop]
  rw[hL] at hsz hX
  simp-implicitDefEqProofs[hge,hwo]
  refine(dI G _ _ _).use ?_
  by_cases hr:inR (aT code i) 1 22=true
  rotate_left
  ·obtain⟨e1,e2⟩:=hbad (by simp[fu,hr])
   simp-implicitDefEqProofs[hr,e1,e2]
   simp[zMi,Mins.cs]
  simp-implicitDefEqProofs[hr]
  refine(bf G _).use ?_
  have hjo:(aT code i==20||aT code i==21)=fP (aT code i):=rfl
  cases hj:fP (aT code i) with
  |false=>
   obtain⟨e1,e2⟩:=hbad (by simp[fu,hL,hj])
   rw[hjo,hj]
   simp-implicitDefEqProofs[e1,e2]
   simp[zMi,Mins.cs]
  |true=>
  rw[hjo,hj]
  have hok:fu code i=true:=by simp[fu,hr,hL,hj]
  simp-implicitDefEqProofs[eA,keq]
  refine(fV G _ hr).use ?_
  have hc:aT code i=20\/aT code i=21:=by simpa[fP] using hj
  have hs:sOf (aT code i)=5:=by rcases hc with e|e<;>rw[e]<;>rfl
  rcases hc with e|e
  ·skip
   have hn:aI code i=3:=by rw[hsz,e];rfl
   have hXe:bS code i=⟨20,0,0,0,aJ code (i+1)+256*aJ code (i+2)⟩:=by rw[hX,e];rfl
   simp-implicitDefEqProofs[show sOf 20=5 from rfl,show sOf 21=5 from rfl,e,bB,keq,show IntKind.i64.wrap 3=3 from rfl,show IntKind.i64.wrap 4=4 from rfl]
   refine aR (λh1=>?_) (λh1=>?_)
   ·obtain⟨e1,e2⟩:=hnofit (by rw[hn];simp at h1;omega)
    simp-implicitDefEqProofs[e1,e2]
    simp[zMi,Mins.cs]
   have hfit:i+3<=code.length:=by simp at h1;omega
   have hgd:=hfine hok (by rw[hn];exact hfit)
   have hll:3<=code.length-i:=by omega
   simp-implicitDefEqProofs[hll]
   refine(hmp 3).use ?_
   have g1:=dV (code:=code) (i:=i) (n:=3) (k:=1) (by omega) hfit
   have g2:=dV (code:=code) (i:=i) (n:=3) (k:=2) (by omega) hfit
   generalize ((code.drop i).take 3)=q at g1 g2⊢
   simp-implicitDefEqProofs[]
   refine(fV G 20 rfl).use ?_
   simp-implicitDefEqProofs[show sOf 20=5 from rfl,show sOf 21=5 from rfl,e,uR,g1,g2,show IntKind.i64.wrap 1=1 from rfl,show IntKind.i64.wrap 2=2 from rfl,show IntKind.i64.wrap 3=3 from rfl,hlong]
   simp[hgd,hn,Mins.cs,hXe]
  ·skip
   have hn:aI code i=4:=by rw[hsz,e];rfl
   have hXe:bS code i=⟨21,aJ code (i+1),0,0,aJ code (i+2)+256*aJ code (i+3)⟩:=by rw[hX,e];rfl
   simp-implicitDefEqProofs[show sOf 20=5 from rfl,show sOf 21=5 from rfl,e,bB,keq,show IntKind.i64.wrap 3=3 from rfl,show IntKind.i64.wrap 4=4 from rfl]
   refine aR (λh1=>?_) (λh1=>?_)
   ·obtain⟨e1,e2⟩:=hnofit (by rw[hn];simp at h1;omega)
    simp-implicitDefEqProofs[e1,e2]
    simp[zMi,Mins.cs]
   have hfit:i+4<=code.length:=by simp at h1;omega
   have hgd:=hfine hok (by rw[hn];exact hfit)
   have hll:4<=code.length-i:=by omega
   simp-implicitDefEqProofs[hll]
   refine(hmp 4).use ?_
   have g1:=dV (code:=code) (i:=i) (n:=4) (k:=1) (by omega) hfit
   have g2:=dV (code:=code) (i:=i) (n:=4) (k:=2) (by omega) hfit
   have g3:=dV (code:=code) (i:=i) (n:=4) (k:=3) (by omega) hfit
   generalize ((code.drop i).take 4)=q at g1 g2 g3⊢
   simp-implicitDefEqProofs[]
   refine(fV G 21 rfl).use ?_
   simp-implicitDefEqProofs[show sOf 20=5 from rfl,show sOf 21=5 from rfl,e,uR,g1,g2,g3,show IntKind.i64.wrap 1=1 from rfl,show IntKind.i64.wrap 2=2 from rfl,show IntKind.i64.wrap 3=3 from rfl,hlong]
   simp[hgd,hn,Mins.cs,hXe]
end
section
variable (G:az)
structure DS where
 ps:List Nat
 a:Nat
def sdH(p s:Int)(ins:List Mins)(ps:List Nat):List AO:=[.row 3 [cK],.row 3 [[.p (.int .i64 p),.p (.int .i64 s),slE 3 5 (ins.map Mins.av)]],ay ps,lu 5 (ins.map Mins.av)]
theorem cC(ins:List Mins):∀x∈ins.map Mins.av,ab 0 x:=by
 intro x hx;obtain⟨m,_,rfl⟩:=List.mem_map.1 hx;simp[Mins.av_eq,ab,below]
theorem Fe(ps:List Nat):∀x∈ps.map (λ(n:Nat)=>[AV.p (.int .i64 (n:Int))]),ab 0 x:=by
 intro x hx;obtain⟨m,_,rfl⟩:=List.mem_map.1 hx;simp[ab,below]
theorem DJ(code:List Int)(ps:List Nat)(a:Nat):gL code (ps++[a])=gL code ps++[bS code a]:=by simp[gL]
theorem tH:AK.whole ia=FK.ak gY:=rfl
theorem sS(p s:Int)(code:List Int)(hb:bJ code)(hl:code.length<=1048576):
 AC Tryz.prog G cA [.p (.int .i64 p),.p (.int .i64 s),.p (aN code)] [] λx h=>match dG p s code with
  |none=>x= .ret (.tup [.agg cK,.p (.bool false)])
  |some f=>∃id,x= .ret (.tup [.agg (f.ov id),.p (.bool true)])/\h[id]?=some (bq f.ins):=by
 refine AC.goK tL tH ?_
 have hbl:aN code= .lst 1 (code.map λn=>[.int .u8 n]):=rfl
 have hin:∀ps,ay ps= .row 1 (ps.map λ(n:Nat)=>[.p (.int .i64 (n:Int))]):=λ_=>rfl
 simp-implicitDefEqProofs[ia,gY]
 refine LM (λps:List Nat=>aB 95 [(0,.p (.int .i64 p)),(1,.p (.int .i64 s)),(2,.p (aN code)),(6,.ptr 0 3 0 0),(7,.p (.bool false)),(8,.ptr 1 3 0 0),(9,.sl 2 1 0 ps.length)])
  (λps=>sdH p s (gL code ps) ps) (λps=>(code.length<=8000->cU code 0=some ps)/\(¬code.length<=8000->ps=[])/\2*ps.length<=code.length) ?_ λps hps=>?_
 ·simp-implicitDefEqProofs
  refine aw (λd:DS=>aB 95 [(0,.p (.int .i64 p)),(1,.p (.int .i64 s)),(2,.p (aN code)),(6,.ptr 0 3 0 0),(7,.p (.bool false)),(8,.ptr 1 3 0 0),(9,.sl 2 1 0 d.ps.length),(10,.p (.int .i64 d.a))])
   (λd=>sdH p s (gL code d.ps) d.ps) (λd=>(code.length<=8000->cU code 0=(cU code d.a).map (d.ps++ ·))/\(¬code.length<=8000->d.ps=[]/\d.a=0)/\2*d.ps.length<=d.a/\d.a<=code.length)
   (λd=>code.length-d.a) ⟨[],0⟩ (by simp) ?_ ?_
  ·simp only[sdH,gL,List.map_nil,rh,pT]
   exact tW [0,1,2,0] (by simp) (by simp) (by simp[iq,ay]) (af rfl (by simp[cK,ab,below]) (af rfl (by simp[ab,below]) (af rfl (by simp) (cm (by simp) aj)))) (by simp[below,ren,aN])
  ·rintro⟨ps,a⟩ ⟨i1,i2,i3,i4⟩
   simp only at i1 i2 i3 i4
   simp-implicitDefEqProofs[sdH,hbl]
   by_cases h1:a<code.length
   ·by_cases h8:code.length<=8000
    ·have h8i:(code.length:Int)<=8000:=by omega
     simp-implicitDefEqProofs[h1,h8i]
     have hone:=Gz G code hb a h1 hl
     by_cases hg:bl code a=true
     ·rw[if_pos hg] at hone
      refine hone.use ?_
      have hlen:(gL code ps).length=ps.length:=le _ _
      have hz2:=nz code a
      have hgl:=vo hg
      have hw:IntKind.i64.wrap ((a:Int)+aI code a)=((a+aI code a:Nat):Int):=iw (by omega) (by omega)
      simp-implicitDefEqProofs[hin,hlen,hw,Mins.cs]
      refine⟨⟨by omega,by omega⟩,⟨by omega,by omega⟩,⟨ps++[a],a+aI code a⟩,⟨?_,?_⟩,by simp only;omega,?_⟩
      ·intro _
       rw[i1 h8,rq h1 hg,Option.map_map]
       simp[Function.comp_def]
      ·constructor
       ·intro h;omega
       ·simp;omega
      ·simp only[sdH,DJ,List.map_append,List.map_cons,List.map_nil]
       have hne:([(bS code a).av]:List (List AV))≠[]:=by simp
       rw[tX _ hne,ur _ hne]
       refine al [0,1,8,6] rfl (by decide) (af rfl (by simp[cK,ab,below]) (aE (by simp[below]) (by simp[ren,aF,hlen]) (af (by simp[List.take_of_length_le]) (by simpa using Fe (ps++[a])) (af rfl (by simpa[gL] using cC (gL code (ps++[a]))) aj)))) ?_
       simp[below,ren,aN]
     ·rw[if_neg hg] at hone
      refine hone.use ?_
      have hd:dG p s code=none:=by rw[dG,i1 h8,tc h1 hg];rfl
      simp-implicitDefEqProofs[hd,cK]
    ·obtain⟨rfl,rfl⟩:=i2 h8
     have h8i:¬(code.length:Int)<=8000:=by omega
     simp-implicitDefEqProofs[h1,h8i]
     refine⟨[],⟨λh=>by omega,by simp⟩,?_⟩
     refine tW [0,1,2,3] (by simp) (by simp) (by simp[iq,ay,lu,gL]) (af rfl (by simp[cK,ab,below]) (aE (by simp[below]) (by simp[ren,aF]) (af rfl (by simp) (ri rfl (cC _) aj)))) ?_
     simp[below,ren,aN]
   ·simp-implicitDefEqProofs[h1]
    refine⟨ps,⟨λh8=>?_,λh8=>(i2 (by omega)).1,by omega⟩,?_⟩
    ·rw[i1 h8,sY (by omega)];simp
    refine cS [0,1,2,3] (by simp) (by simp) (by decide) (af rfl (by simp[cK,ab,below]) (aE (by simp[below]) (by simp[ren,aF]) (af rfl (by simp) (ri rfl (cC _) aj)))) ?_
    simp[below,ren,aN]
 obtain⟨p1,p2,p3⟩:=hps
 have hres:dG p s code=if fx code (de p s code ps) then some (de p s code ps) else none:=by
  by_cases h8:code.length<=8000
  ·rw[dG,p1 h8];rfl
  ·rw[HD h8,p2 h8,if_neg]
   intro hk
   simp only[fx,Bool.and_eq_true] at hk
   have:=ji hk.1
   simp[de,dA,gL] at this
 have hrl:=le code ps
 simp-implicitDefEqProofs[sdH]
 refine aw (λi:Nat=>aB 95 [(0,.p (.int .i64 p)),(1,.p (.int .i64 s)),(2,.p (aN code)),(6,.ptr 0 3 0 0),(7,.p (.bool false)),(8,.ptr 1 3 0 0),(9,.sl 2 1 0 ps.length),(14,.p (.int .i64 i))])
  (λi=>sdH p s (bm code ps i) ps) (λi=>i<=ps.length) (λi=>ps.length-i) 0 (by simp) ?_ ?_
 ·simp only[sdH,sQ]
  refine cS [0,1,2,3] (by simp) (by simp) (by decide) (af rfl (by simp[cK,ab,below]) (aE (by simp[below]) (by simp[ren,aF]) (af rfl (by simp) (ri rfl (cC _) aj)))) ?_
  simp[below,ren,aN]
 ·intro i hi
  have hll:=ja (code:=code) hi
  simp-implicitDefEqProofs[sdH,hll]
  refine aR (λh1=>?_) (λh1=>?_)
  ·simp at h1
   have hne:(bm code ps i).map Mins.av≠[]:=by intro e;rw[List.map_eq_nil_iff] at e;rw[e] at hll;simp at hll;omega
   have hll1:=ja (code:=code) (ps:=ps) (i:=i+1) h1
   have hne1:(bm code ps (i+1)).map Mins.av≠[]:=by intro e;rw[List.map_eq_nil_iff] at e;rw[e] at hll1;simp at hll1;omega
   have hg:=pq (code:=code) h1
   have hwk:∀l:List (Nat × AV),TWA [0,1,2,3] l [(0,.p (.int .i64 p)),(1,.p (.int .i64 s)),(2,.p (aN code)),(6,.ptr 0 3 0 0),(7,.p (.bool false)),(8,.ptr 1 3 0 0),(9,.sl 2 1 0 ps.length),(14,.p (.int .i64 ((i+1:Nat):Int)))]->
    Wk 0 (aB 95 l) [.row 3 [cK],.row 3 [[.p (.int .i64 p),.p (.int .i64 s),.sl 3 5 0 ps.length]],ay ps,.row 5 ((bm code ps (i+1)).map Mins.av)] (aB 95 [(0,.p (.int .i64 p)),(1,.p (.int .i64 s)),(2,.p (aN code)),(6,.ptr 0 3 0 0),(7,.p (.bool false)),(8,.ptr 1 3 0 0),(9,.sl 2 1 0 ps.length),(14,.p (.int .i64 ((i+1:Nat):Int)))]) (sdH p s (bm code ps (i+1)) ps):=λl hl=>by
    rw[sdH,cP hne1,dS hne1,List.length_map,hll1]
    exact al [0,1,2,3] rfl (by decide) (af rfl (by simp[cK,ab,below]) (aE (by simp[below]) (by simp[ren,aF]) (af rfl (by simp) (af rfl (cC _) aj)))) hl
   have hsl:slE 3 5 ((bm code ps i).map Mins.av)= .sl 3 5 0 ps.length:=by rw[cP hne,List.length_map,hll]
   have hrw:=dS (sz:=5) hne
   clear hll
   simp-implicitDefEqProofs[hsl,hrw,hg,h1,Mins.av_eq]
   refine(gA G (bS code ps[i])).use ?_
   cases hj:jmp (bS code ps[i]) with
   |true=>
    have hset:=oF (code:=code) h1
    rw[pD,hj] at hset
    simp-implicitDefEqProofs[hg,h1,Mins.av_eq]
    refine(VF.lend (IP G ps (bS code ps[i]).n (by omega)) (.one (lq rfl) (.keep (by simp[below]) .nil)) rfl).mono ?_
    rintro r h ⟨rfl,rfl⟩
    have hs2:((bm code ps i).map Mins.av).set i [.p (.int .i64 (bS code ps[i]).op),.p (.int .i64 (bS code ps[i]).a),.p (.int .i64 (bS code ps[i]).b),.p (.int .i64 (bS code ps[i]).c),.p (.int .i64 (tx ps (bS code ps[i]).n))]=(bm code ps (i+1)).map Mins.av:=by
     rw[←hset,List.map_set];rfl
    simp-implicitDefEqProofs[ag,hg,h1,Mins.av_eq,dP,hs2,w1 (i:=i) (by omega)]
    refine⟨i+1,h1,by omega,hwk _ (by simp[below,ren,aN])⟩
   |false=>
    have hnx:=td h1 hj
    simp-implicitDefEqProofs[w1 (i:=i) (by omega)]
    refine⟨i+1,h1,by omega,?_⟩
    rw[hnx]
    exact hwk _ (by simp[below,ren,aN])
  ·simp at h1
   have hie:i=ps.length:=by omega
   subst hie
   simp only[vD]
   have hv:∀h:List AO,h[3]?=some (lu 5 ((dA code ps).map Mins.av))->View h (slE 3 5 ((dA code ps).map Mins.av)) (bp (dA code ps)):=λh e=>LB e
   have hen:=Bh G (de p s code ps) (by rw[de];simp only;rw[ec];omega)
   simp-implicitDefEqProofs[]
   refine(AC.lend hen (.agg (.keep (by simp[below]) (.keep (by simp[below]) (.one (hv _ rfl) .nil))) .nil) rfl (by simp[cleanO,bV,dk,clean])).mono ?_
   rintro r h ⟨rfl,rfl⟩
   by_cases hc:aC (de p s code ps)=true
   rotate_left
   ·have hd:dG p s code=none:=by rw[hres,if_neg];simp[fx,hc]
    simp-implicitDefEqProofs[ag,aY,bi,hc,hd,cK]
   have hbo:∀l,bV l= .row 1 (l.map λn=>[.p (.int .u8 n)]):=λ_=>rfl
   have htk:∀l:List Int,List.take l.length (l.map λn=>[AV.p (.int .u8 n)])=l.map λn=>[AV.p (.int .u8 n)]:=λl=>List.take_of_length_le (by simp)
   have hcm:∀l:List Int,List.map ((λx=>List.map AV.p x)∘λn=>[PV.int .u8 n]) l=l.map λn=>[AV.p (.int .u8 n)]:=λl=>rfl
   have hpos:=ji hc
   have hne:(dA code ps).map Mins.av≠[]:=by intro e;rw[List.map_eq_nil_iff] at e;simp[de,e] at hpos
   have hsi:=uT (DY (de p s code ps)) hb
   simp-implicitDefEqProofs[ag,aY,bi,oz,hc]
   simp-implicitDefEqProofs[hbo,hbl,htk,hcm,pj,hsi]
   by_cases he:gJ (de p s code ps)=code
   ·have hd:dG p s code=some (de p s code ps):=by rw[hres,if_pos];simp[fx,hc,he]
    simp-implicitDefEqProofs[he,hd,cP hne,dS hne]
    exact⟨by simp[cK],3,rfl,rfl⟩
   ·have hd:dG p s code=none:=by rw[hres,if_neg];simp[fx,he]
    simp-implicitDefEqProofs[he,hd,cK]
def zF:Mfn:=⟨0,0,[]⟩
theorem sq{h:List AO}{id:Nat}{ins:List Mins}(e:h[id]?=some (bq ins)):View h (.sl id 5 0 ins.length) (bp ins):=by
 have:=eP (h:=h) (id:=id) (sz:=5) (n:=ins.length) (ls:=ins.map Mins.cs) (by rw[e,bq];simp[Mins.av]) (by simp) (λx hx=>by obtain⟨b,_,rfl⟩:=List.mem_map.1 hx;rfl)
 exact this
theorem Cx(p s:Int)(code:List Int)(hb:bJ code)(hl:code.length<=1048576):
 VF Tryz.prog G cA [.p (.int .i64 p),.p (.int .i64 s),.p (aN code)] (.tup [.agg (((dG p s code).getD zF).cs.map .p),.p (.bool (dG p s code).isSome)]):=by
 refine(sS G p s code hb hl).freezeR (λt v h e=>?_) λv h e=>?_
 ·cases hd:dG p s code<;>rw[hd] at e
  ·cases e
  ·obtain⟨_,e,_⟩:=e;cases e
 ·cases hd:dG p s code with
  |none=>
   rw[hd] at e
   cases e
   exact .tup (.agg (.keep (by simp) (.keep (by simp) (.one (View.nils 5) .nil))) (.keep (by simp) .nil)) .nil
  |some f=>
   rw[hd] at e
   obtain⟨id,e1,e2⟩:=e
   cases e1
   exact .tup (.agg (.keep (by simp) (.keep (by simp) (.one (sq e2) .nil))) (.keep (by simp) .nil)) .nil
end
section
def mpF:Nat->List Nat->List (PV × AV)
 |_,[]=>[]
 |k,p::r=>(.int .i64 (p:Int),.p (.int .i64 (k:Int)))::mpF (k+1) r
theorem DQ(n:Int):∀(k:Nat) (ps:List Nat),bB (.int .i64 n) (mpF k ps)=some ((ps.findIdx? (λ(p:Nat)=>(p:Int)==n)).map λi=> .p (.int .i64 ((k+i:Nat):Int)))
 |k,[]=>rfl
 |k,p::r=>by
  simp only[mpF,bB,keq,if_true,List.findIdx?_cons]
  by_cases h:n=(p:Int)
  ·subst h;simp
  ·have h':¬(p:Int)=n:=λe=>h e.symm
   simp only[h,h',decide_false,beq_iff_eq,if_false,DQ n (k+1) r,Option.map_map]
   have:((λi=>AV.p (.int .i64 ((k+i:Nat):Int)))∘λi=>i+1)=λi=>AV.p (.int .i64 ((k+1+i:Nat):Int)):=by
    funext i
    simp only[Function.comp]
    rw[show k+(i+1)=k+1+i by omega]
   rw[this]
theorem DB(a:Nat)(v:AV):∀(k:Nat) (ps:List Nat),(∀p∈ps,p≠a)->eA (.int .i64 (a:Int)) v (mpF k ps)=some (mpF k ps++[(.int .i64 (a:Int),v)])
 |k,[],_=>rfl
 |k,p::r,h=>by
  have h1:¬(a:Int)=(p:Int):=λe=>h p (by simp) (by omega)
  simp only[mpF,eA,keq,if_true,h1,decide_false,DB a v (k+1) r (λq hq=>h q (by simp[hq])),Option.map_some,List.cons_append]
theorem zB(a:Nat):∀(k:Nat) (ps:List Nat),mpF k (ps++[a])=mpF k ps++[(.int .i64 (a:Int),.p (.int .i64 ((k+ps.length:Nat):Int)))]
 |k,[]=>rfl
 |k,p::r=>by
  simp only[List.cons_append,mpF,zB a (k+1) r,List.length_cons]
  congr 6
  omega
theorem rj:∀(k:Nat) (ps:List Nat),∀x∈mpF k ps,below 0 x.2
 |k,[],x,h=>by simp[mpF] at h
 |k,p::r,x,h=>by
  simp only[mpF,List.mem_cons] at h
  rcases h with rfl|h
  ·trivial
  ·exact rj (k+1) r x h
theorem FB{ps:List Nat}{n:Int}{i:Nat}(h:ps.findIdx? (λ(p:Nat)=>(p:Int)==n)=some i):tx ps n=i:=by rw[tx,h]
theorem Ff{ps:List Nat}{n:Int}(h:ps.findIdx? (λ(p:Nat)=>(p:Int)==n)=none):tx ps n= -1:=by rw[tx,h]
theorem yp{p s:Int}{code:List Int}{ps:List Nat}{i:Nat}(h:i<ps.length)(hj:jmp (bS code ps[i])=true)(ha:tx ps (bS code ps[i]).n= -1):fx code (de p s code ps)=false:=by
 cases hk:fx code (de p s code ps) with
 |false=>rfl
 |true=>
  exfalso
  simp only[fx,aC,Bool.and_eq_true] at hk
  have hf:=bP hk.1.1
  have hm:pD ps (bS code ps[i])∈(de p s code ps).ins:=by
   simp only[de,dA,gL,List.mem_map]
   exact⟨_,⟨_,List.getElem_mem h,rfl⟩,rfl⟩
  have hq:=(hf.2 _ hm).2.2.2
  rw[pD,if_pos hj,ha] at hq
  have:=hq hj
  simp[inR] at this
theorem yP{code:List Int}(hb:bJ code){ps:List Nat}:∀x∈dA code ps,x.op=14-> -9223372036854775808<=x.n:=by
 intro x hx h14
 simp only[dA,gL,List.mem_map] at hx
 obtain⟨y,⟨a,_,rfl⟩,rfl⟩:=hx
 have hj:jmp (bS code a)=false:=by
  cases h:jmp (bS code a) with
  |false=>rfl
  |true=>
   rw[pD,if_pos h] at h14
   simp[jmp] at h
   simp only at h14
   omega
 rw[pD,hj] at h14⊢
 have b1:=dW hb (a+1)
 have b2:=dW hb (a+2)
 simp only[Bool.false_eq_true,if_false] at h14⊢
 have hjo:fP (aT code a)=false:=by
  have:(bS code a).op=aT code a:=by
   unfold bS nL;simp only;repeat' split
   all_goals rfl
  rw[←this];exact hj
 unfold bS nL
 simp only[hjo]
 repeat' split
 all_goals first|(simp only;omega)|contradiction
variable (G:az)
theorem zQ(a b:List Int)(ha:bJ a)(hb:bJ b):VF Tryz.prog G jR [.p (aN a),.p (aN b)] (.p (.bool (decide (a=b)))):=by
 refine AC.go yv ?_
 have hbl:∀l,aN l= .lst 1 (l.map λn=>[.int .u8 n]):=λ_=>rfl
 have hcm:∀l:List Int,List.map ((λx=>List.map AV.p x)∘λn=>[PV.int .u8 n]) l=l.map λn=>[AV.p (.int .u8 n)]:=λl=>rfl
 have hsi:=uT ha hb
 simp-implicitDefEqProofs[oy,hbl,hcm,pj,hsi]
def idH(p s:Int)(ins:List Mins)(ps:List Nat):List AO:=[.row 3 [cK],.row 3 [[.p (.int .i64 p),.p (.int .i64 s),slE 3 5 (ins.map Mins.av)]],.mp (mpF 0 ps),lu 5 (ins.map Mins.av)]
variable (hG:G bW=some pvForms)
include hG
theorem mH(p s:Int)(code:List Int)(hb:bJ code)(hl:code.length<=1048576):
 AC Tryz.prog G bY [.p (.int .i64 p),.p (.int .i64 s),.p (aN code)] [] λx h=>match dG p s code with
  |none=>x= .ret (.tup [.agg cK,.p (.bool false)])
  |some f=>∃id,x= .ret (.tup [.agg (f.ov id),.p (.bool true)])/\h[id]?=some (bq f.ins):=by
 refine AC.go tP ?_
 have hbl:aN code= .lst 1 (code.map λn=>[.int .u8 n]):=rfl
 simp-implicitDefEqProofs[lJ]
 refine aw (λd:DS=>aB 93 [(0,.p (.int .i64 p)),(1,.p (.int .i64 s)),(2,.p (aN code)),(6,.ptr 0 3 0 0),(7,.p (.bool false)),(8,.ptr 1 3 0 0),(9,.mp 2),(10,.p (.int .i64 d.a))])
  (λd=>idH p s (gL code d.ps) d.ps) (λd=>cU code 0=(cU code d.a).map (d.ps++ ·)/\2*d.ps.length<=d.a/\d.a<=code.length/\∀q∈d.ps,q<d.a)
  (λd=>code.length-d.a) ⟨[],0⟩ (by simp) ?_ ?_
 ·simp only[idH,gL,List.map_nil,rh,pT,mpF]
  exact tW [0,1,2,0] (by simp) (by simp) (by simp[iq]) (af rfl (by simp[cK,ab,below]) (af rfl (by simp[ab,below]) (an rfl (by simp[okO]) (cm (by simp) aj)))) (by simp[below,ren,aN])
 ·rintro⟨ps,a⟩ ⟨i1,i2,i3,i4⟩
  simp only at i1 i2 i3 i4
  simp-implicitDefEqProofs[idH,hbl]
  refine aR (λh1=>?_) (λh1=>?_)
  ·simp at h1
   simp-implicitDefEqProofs[]
   have hone:=Fw G code hb a h1 hl
   by_cases hg:bl code a=true
   ·rw[if_pos hg,if_pos hg] at hone
    refine hone.use ?_
    have hlen:(gL code ps).length=ps.length:=le _ _
    have hz2:=nz code a
    have hgl:=vo hg
    have hw:IntKind.i64.wrap ((a:Int)+aI code a)=((a+aI code a:Nat):Int):=iw (by omega) (by omega)
    have hz:¬aI code a=0:=by omega
    have hnew:=DB a (.p (.int .i64 (ps.length:Int))) 0 ps (λq hq=>by have:=i4 q hq;omega)
    simp-implicitDefEqProofs[hlen,hw,hz,hnew,Mins.cs]
    refine⟨⟨by omega,by omega⟩,⟨ps++[a],a+aI code a⟩,⟨?_,?_,?_,?_⟩,by simp only;omega,?_⟩
    ·rw[i1,rq h1 hg,Option.map_map]
     simp[Function.comp_def]
    ·simp;omega
    ·simp only;omega
    ·intro q hq
     simp only[List.mem_append,List.mem_singleton] at hq⊢
     rcases hq with hq|rfl
     ·have:=i4 q hq;omega
     ·omega
    ·have hne:([(bS code a).av]:List (List AV))≠[]:=by simp
     simp only[idH,DJ,List.map_append,List.map_cons,List.map_nil]
     rw[tX _ hne,ur _ hne,zB]
     refine al [0,1,2,6] rfl (by decide) (af rfl (by simp[cK,ab,below]) (aE (by simp[below]) (by simp[ren,aF,hlen]) (an (by simp) ?_ (af rfl (by simpa[gL] using cC (gL code (ps++[a]))) aj)))) ?_
     ·rw[←zB];exact rj _ _
     ·simp[below,ren,aN]
   ·rw[if_neg hg,if_neg hg] at hone
    refine hone.use ?_
    have hd:dG p s code=none:=by rw[dG,i1,tc h1 hg];rfl
    simp-implicitDefEqProofs[hd,cK,zMi,Mins.cs]
  ·simp at h1
   have hdf:cU code 0=some ps:=by rw[i1,sY (by omega)];simp
   have hres:dG p s code=if fx code (de p s code ps) then some (de p s code ps) else none:=by rw[dG,hdf];rfl
   have hrl:=le code ps
   simp-implicitDefEqProofs[hrl]
   refine aw (λi:Nat=>aB 93 [(0,.p (.int .i64 p)),(1,.p (.int .i64 s)),(2,.p (aN code)),(6,.ptr 0 3 0 0),(7,.p (.bool false)),(8,.ptr 1 3 0 0),(9,.mp 2),(51,slE 3 5 ((bm code ps i).map Mins.av)),(52,.p (.int .i64 ps.length)),(53,.p (.int .i64 i))])
    (λi=>idH p s (bm code ps i) ps) (λi=>i<=ps.length) (λi=>ps.length-i) 0 (by simp) ?_ ?_
   ·simp only[idH,sQ]
    refine cS [0,1,2,3] (by simp) (by simp) (by decide) (af rfl (by simp[cK,ab,below]) (aE (by simp[below]) (by simp[ren,aF]) (an rfl (rj _ _) (ri rfl (cC _) aj)))) ?_
    simp[below,ren,aN]
   ·intro i hi
    have hll:=ja (code:=code) hi
    simp-implicitDefEqProofs[idH,hll]
    refine aR (λh2=>?_) (λh2=>?_)
    ·simp at h2
     have hne:(bm code ps i).map Mins.av≠[]:=by intro e;rw[List.map_eq_nil_iff] at e;rw[e] at hll;simp at hll;omega
     have hll1:=ja (code:=code) (ps:=ps) (i:=i+1) h2
     have hne1:(bm code ps (i+1)).map Mins.av≠[]:=by intro e;rw[List.map_eq_nil_iff] at e;rw[e] at hll1;simp at hll1;omega
     have hg:=pq (code:=code) h2
     have hwk:∀(l:List (Nat × AV)) (os:List AO),TWA [0,1,2,3] l [(0,.p (.int .i64 p)),(1,.p (.int .i64 s)),(2,.p (aN code)),(6,.ptr 0 3 0 0),(7,.p (.bool false)),(8,.ptr 1 3 0 0),(9,.mp 2),(51,.sl 3 5 0 ps.length),(52,.p (.int .i64 ps.length)),(53,.p (.int .i64 ((i+1:Nat):Int)))]->
      Wk 0 (aB 93 l) (.row 3 [cK]:: .row 3 [[.p (.int .i64 p),.p (.int .i64 s),.sl 3 5 0 ps.length]]:: .mp (mpF 0 ps):: .row 5 ((bm code ps (i+1)).map Mins.av)::os)
       (aB 93 [(0,.p (.int .i64 p)),(1,.p (.int .i64 s)),(2,.p (aN code)),(6,.ptr 0 3 0 0),(7,.p (.bool false)),(8,.ptr 1 3 0 0),(9,.mp 2),(51,slE 3 5 ((bm code ps (i+1)).map Mins.av)),(52,.p (.int .i64 ps.length)),(53,.p (.int .i64 ((i+1:Nat):Int)))]) (idH p s (bm code ps (i+1)) ps):=λl os hl=>by
      rw[idH,cP hne1,dS hne1,List.length_map,hll1]
      exact al [0,1,2,3] rfl (by decide) (af rfl (by simp[cK,ab,below]) (aE (by simp[below]) (by simp[ren,aF]) (an rfl (rj _ _) (af rfl (cC _) aj)))) hl
     have hsl:slE 3 5 ((bm code ps i).map Mins.av)= .sl 3 5 0 ps.length:=by rw[cP hne,List.length_map,hll]
     have hrw:=dS (sz:=5) hne
     clear hll
     simp-implicitDefEqProofs[hsl,hrw,hg,h2,Mins.av_eq]
     refine(bf G _).use ?_
     have hjj:((bS code ps[i]).op==20||(bS code ps[i]).op==21)=jmp (bS code ps[i]):=rfl
     rw[hjj]
     cases hj:jmp (bS code ps[i]) with
     |true=>
      have hset:=oF (code:=code) h2
      rw[pD,hj] at hset
      have hmg:=DQ (bS code ps[i]).n 0 ps
      cases hfi:ps.findIdx? (λ(p:Nat)=>(p:Int)==(bS code ps[i]).n) with
      |none=>
       have hd:dG p s code=none:=by rw[hres,yp h2 hj (Ff hfi)];rfl
       rw[hfi] at hmg
       simp-implicitDefEqProofs[hmg,hd,cK]
      |some q=>
       have hat:=FB hfi
       rw[hfi] at hmg
       have hs2:((bm code ps i).map Mins.av).set i [.p (.int .i64 (bS code ps[i]).op),.p (.int .i64 (bS code ps[i]).a),.p (.int .i64 (bS code ps[i]).b),.p (.int .i64 (bS code ps[i]).c),.p (.int .i64 (q:Int))]=(bm code ps (i+1)).map Mins.av:=by
        rw[←hset,List.map_set,hat];rfl
       simp-implicitDefEqProofs[hmg,hg,h2,Mins.av_eq,dP,hs2,w1 (i:=i) (by omega)]
       refine⟨i+1,h2,by omega,hwk _ _ (by simp[below,ren,aN])⟩
     |false=>
      have hnx:=td h2 hj
      simp-implicitDefEqProofs[w1 (i:=i) (by omega)]
      refine⟨i+1,h2,by omega,?_⟩
      rw[hnx]
      exact hwk _ _ (by simp[below,ren,aN])
    ·simp at h2
     have hie:i=ps.length:=by omega
     subst hie
     simp only[vD]
     have hv:∀h:List AO,h[3]?=some (lu 5 ((dA code ps).map Mins.av))->View h (slE 3 5 ((dA code ps).map Mins.av)) (bp (dA code ps)):=λh e=>LB e
     have hlen:(de p s code ps).ins.length<=1000000:=by rw[de];simp only;rw[ec];omega
     simp-implicitDefEqProofs[]
     by_cases hc:aC (de p s code ps)=true
     rotate_left
     ·have hd:dG p s code=none:=by rw[hres,if_neg];simp[fx,hc]
      refine(AC.lend ((BS G hG (de p s code ps) hlen (yP hb) hc).ac (by simp[ab,below]) (by simp[ab,below]) []) (.agg (.keep (by simp[below]) (.keep (by simp[below]) (.one (hv _ rfl) .nil))) .nil) rfl rfl).mono ?_
      rintro r h ⟨rfl,rfl⟩
      simp-implicitDefEqProofs[ag,aY,bi,hd,cK]
     refine(AC.lend (AU G hG (de p s code ps) hlen (yP hb) hc) (.agg (.keep (by simp[below]) (.keep (by simp[below]) (.one (hv _ rfl) .nil))) .nil) rfl (by simp[cleanO,bV,dk,clean])).mono ?_
     rintro r h ⟨rfl,rfl⟩
     have hpos:=ji hc
     have hne:(dA code ps).map Mins.av≠[]:=by intro e;rw[List.map_eq_nil_iff] at e;simp[de,e] at hpos
     simp-implicitDefEqProofs[ag,aY,bi,oz]
     refine(VF.lend (zQ G (gJ (de p s code ps)) code (DY _) hb) (.one (nv rfl) (.keep (by simp[below]) .nil)) rfl).mono ?_
     rintro r h ⟨rfl,rfl⟩
     by_cases he:gJ (de p s code ps)=code
     ·have hd:dG p s code=some (de p s code ps):=by rw[hres,if_pos];simp[fx,hc,he]
      simp-implicitDefEqProofs[ag,he,hd,cP hne,dS hne]
      exact⟨by simp[cK],3,rfl,rfl⟩
     ·have hd:dG p s code=none:=by rw[hres,if_neg];simp[fx,he]
      simp-implicitDefEqProofs[ag,he,hd,cK]
theorem Bc{p s:Int}{code:List Int}(hb:bJ code)(hl:code.length<=1048576){f:Mfn}(hd:dG p s code=some f):
 AC Tryz.prog G bY [.p (.int .i64 p),.p (.int .i64 s),.p (aN code)] [] λx h=>x= .ret (.tup [.agg (f.ov 0),.p (.bool true)])/\h=[bq f.ins]:=by
 refine(mH G hG p s code hb hl).gc (λt v h e=>?_) λv h e=>?_
 ·rw[hd] at e
  obtain⟨_,e,_⟩:=e;cases e
 ·rw[hd] at e
  obtain⟨id,e1,e2⟩:=e
  cases e1
  exact⟨.tup [.agg (f.ov 0),.p (.bool true)],[bq f.ins],⟨[id],by simp,by simp,by simp,by simp[below,ab,Mfn.ov],by simp[ren,aF,Mfn.ov],af e2 (cC _) aj⟩,rfl,rfl⟩
theorem Bf{p s:Int}{code:List Int}(hb:bJ code)(hl:code.length<=1048576)(hd:dG p s code=none):
 VF Tryz.prog G bY [.p (.int .i64 p),.p (.int .i64 s),.p (aN code)] (.tup [.agg cK,.p (.bool false)]):=
 (mH G hG p s code hb hl).mono λx h e=>by rw[hd] at e;exact e
end
section
def ca(f:Mfn):List Nat:=if aC f then dj f.ins (bE f.ins) f.ins.length else[]
theorem uZ(f:Mfn):(ca f).length=if aC f then f.ins.length else 0:=by
 unfold ca;split
 ·exact iY ..
 ·rfl
def sB(x:Mins)(p:Nat):List Int:=if x.op=14 then[(p:Int)+1] else[]
def pt(f:Mfn)(i:Nat):List Int:=((List.zip f.ins (ca f)).take i).flatMap λx=>sB x.1 x.2
def bI(f:Mfn):List Int:=(List.zip f.ins (ca f)).flatMap λx=>sB x.1 x.2
theorem si(f:Mfn):pt f 0=[]:=rfl
theorem ss{f:Mfn}{i:Nat}(h1:i<f.ins.length)(h2:i<(ca f).length):pt f (i+1)=pt f i++sB f.ins[i] (ca f)[i]:=by
 have hz:i<(List.zip f.ins (ca f)).length:=by rw[List.length_zip];omega
 rw[pt,aq hz,List.flatMap_append,List.getElem_zip]
 simp[pt]
theorem mI{f:Mfn}{i:Nat}(h:(ca f).length<=i):pt f i=bI f:=by
 rw[pt,List.take_of_length_le (by rw[List.length_zip];omega)];rfl
theorem pK(f:Mfn)(i:Nat):(pt f i).length<=i:=by
 have key:∀l:List (Mins × Nat),(l.flatMap λx=>sB x.1 x.2).length<=l.length:=by
  intro l
  induction l with
  |nil=>simp
  |cons a r ih=>
   rw[List.flatMap_cons,List.length_append,List.length_cons]
   have:(sB a.1 a.2).length<=1:=by unfold sB;split<;>simp
   omega
 have:=key ((List.zip f.ins (ca f)).take i)
 rw[List.length_take] at this
 exact Nat.le_trans this (Nat.min_le_left ..)
theorem Gj(ins:List Mins)(L:List Bool){i k:Nat}(h:i<=k):plc ins L i<=plc ins L k:=by
 unfold plc
 generalize List.zipWith aL ins L=l
 have e:l.take i=(l.take k).take i:=by rw[List.take_take,Nat.min_eq_left h]
 rw[e]
 conv=>rhs;rw[←List.take_append_drop i (l.take k),List.sum_append]
 omega
theorem DT{f:Mfn}:∀p∈ca f,p<=8000:=by
 intro p hp
 by_cases hc:aC f=true
 ·rw[ca,if_pos hc] at hp
  have h8:plc f.ins (bE f.ins) f.ins.length<=8000:=by simp only[aC,Bool.and_eq_true,decide_eq_true_eq] at hc;exact hc.2
  obtain⟨i,hi,rfl⟩:=List.mem_map.1 hp
  rw[List.mem_range] at hi
  exact Nat.le_trans (Gj _ _ (Nat.le_of_lt hi)) h8
 ·rw[ca,if_neg hc] at hp;cases hp
variable (G:az)
theorem Ap(f:Mfn)(hn:f.ins.length<=1000000):VF Tryz.prog G dU [.agg (f.cs.map .p)] (.p (iT (ca f))):=by
 have key:AC Tryz.prog G dU [.agg (f.cs.map .p)] [] λx h=>x= .ret (.p (iT (ca f)))\/(∃id,x= .ret (.sl id 1 0 0)/\h[id]?=some (ay [])/\ca f=[]):=by
  refine AC.go pQ ?_
  simp-implicitDefEqProofs[jB]
  refine(BO G f hn).use ?_
  by_cases hc:aC f=true
  rotate_left
  ·have hp:ca f=[]:=by rw[ca,if_neg hc]
   simp-implicitDefEqProofs[hc,ay,hp]
  have hal:bn (aZ (cB f.ins) f)=true:=by simp[aC] at hc;exact hc.1
  have hf:=bP hal
  have hp:ca f=dj f.ins (bE f.ins) f.ins.length:=by rw[ca,if_pos hc]
  simp-implicitDefEqProofs[hc]
  refine(rN G f hf).use ?_
  simp-implicitDefEqProofs
  refine(mR G f _ (fy _) hf).use ?_
  simp-implicitDefEqProofs[hp]
 refine key.freezeR (λt v h e=>?_) λv h e=>?_
 ·rcases e with e|⟨_,e,_⟩<;>cases e
 ·rcases e with e|⟨id,e,e2,e3⟩
  ·cases e;exact .keep (by simp[below]) .nil
  ·cases e
   rw[e3]
   exact .one (by have:=lq e2;exact this) .nil
theorem tR(f:Mfn):(ca f).length<=f.ins.length:=by rw[uZ];split<;>omega
theorem Cr(f:Mfn)(hn:f.ins.length<=1000000):AC Tryz.prog G eV [.agg (f.cs.map .p)] [] λx h=>∃id,x= .ret (.sl id 1 0 (bI f).length)/\h[id]?=some (gM (bI f)):=by
 refine AC.go tq ?_
 have hpi:=tR f
 have hps:∀l,iT l= .lst 1 (l.map λ(n:Nat)=>[.int .i64 (n:Int)]):=λ_=>rfl
 have hin:bp f.ins= .lst 5 (f.ins.map Mins.cs):=rfl
 simp-implicitDefEqProofs[lA]
 refine(Ap G f hn).use ?_
 simp-implicitDefEqProofs[]
 refine aw (λi:Nat=>aB 31 [(1,.ptr 0 3 0 0),(3,.sl 1 1 0 (pt f i).length),(4,.p (iT (ca f))),(5,.p (.int .i64 i))]) (λi=>[.row 3 [f.cs.map .p],gM (pt f i)])
  (λi=>i<=(ca f).length) (λi=>(ca f).length-i) 0 (by simp) ?_ ?_
 ·refine bh ?_ ?_ ?_
  ·simp
  ·simp[okO,si,gM]
  simp[below,si]
 ·intro i hi
  simp-implicitDefEqProofs[hps]
  refine aR (λh1=>?_) (λh1=>?_)
  ·simp at h1
   have h2:i<f.ins.length:=by omega
   have hg1:=List.getElem?_eq_getElem h2
   have hg2:=List.getElem?_eq_getElem h1
   have hle:(ca f)[i]<=8000:=DT _ (List.getElem_mem h1)
   have hsu:=ss h2 h1
   have hcl:=pK f i
   have hnb:∀l,gM l= .row 1 (l.map λn=>[.p (.int .i64 n)]):=λ_=>rfl
   simp-implicitDefEqProofs[Mfn.cs,hg1,Mins.cs]
   by_cases ho:f.ins[i].op=14
   ·have hw:IntKind.i64.wrap (((ca f)[i]:Int)+1)=((ca f)[i]:Int)+1:=aa (by omega) (by omega)
    rw[sB,if_pos ho] at hsu
    clear hle
    simp-implicitDefEqProofs[Mfn.cs,hg1,hg2,Mins.cs,ho,hw,hnb]
    refine⟨by omega,i+1,h1,by omega,al [0,3] rfl (by simp) (af rfl (by simp) (af (by simp[hnb,hsu,List.take_of_length_le]) (by simp) aj)) ?_⟩
    simp[below,ren,hps,hsu,w1 (i:=i) (by omega)]
   ·rw[sB,if_neg ho,List.append_nil] at hsu
    clear hle
    simp-implicitDefEqProofs[Mfn.cs,hg1,hg2,Mins.cs,ho]
    refine⟨i+1,h1,by omega,al [0,1] rfl (by simp) (af rfl (by simp) (af (by simp[gM,hsu];done) (by simp) aj)) ?_⟩
    simp[below,ren,hps,hsu,w1 (i:=i) (by omega)]
  ·simp at h1
   have:=mI (f:=f) (i:=i) h1
   simp-implicitDefEqProofs[this]
theorem Df(f:Mfn)(hn:f.ins.length<=1000000):VF Tryz.prog G eV [.agg (f.cs.map .p)] (.p (bk (bI f))):=by
 refine(Cr G f hn).freezeR (λt v h ⟨id,e,_⟩=>by cases e) λv h ⟨id,e1,e2⟩=>?_
 cases e1
 exact .one (yW e2) .nil
end
section
theorem zL{f:Mfn}(hc:aC f=true):gQ (cB f.ins) f=true:=by
 simp only[aC,Bool.and_eq_true] at hc
 have h:=hc.1
 simp only[bn,Bool.and_eq_true,decide_eq_true_eq] at h
 have:=kN h.2 (i:=cB f.ins) (f:=f) (by simp[aZ])
 simpa using this
theorem Cf{f:Mfn}(hc:aC f=true){x:Mins}(hx:x∈f.ins)(ho:x.op=14):0<=x.n/\x.n<4:=by
 have h:=zL hc
 simp only[gQ,Bool.and_eq_true,List.all_eq_true] at h
 have hi:=h.2 x hx
 simp only[gT,Bool.and_eq_true] at hi
 have h5:=hi.2
 have hm:cB f.ins<=4:=by have:=nb f.ins f.ins.length;rwa[ex,List.take_of_length_le (Nat.le_refl _)] at this
 simp[fN,ta,ho,inR] at h5
 omega
theorem Io{ins:List Mins}{L:List Bool}{i k:Nat}(h:i<=k):∃r,lX ins L k=lX ins L i++r:=by
 induction k with
 |zero=>exact⟨[],by rw[show i=0 by omega];simp⟩
 |succ k ih=>
  rcases Nat.lt_or_ge k i with h1|h1
  ·exact⟨[],by rw[show i=k+1 by omega];simp⟩
  ·obtain⟨r,e⟩:=ih h1
   exact⟨r++je ins L k,by rw[iz,e,List.append_assoc]⟩
theorem zE{f:Mfn}{i:Nat}(h1:i<f.ins.length)(ho:f.ins[i].op=14):(gJ f)[plc f.ins (bE f.ins) i+1]?=some (u8 f.ins[i].n):=by
 have hL:=fy f.ins
 obtain⟨r,e⟩:=Io (ins:=f.ins) (L:=bE f.ins) (i:=i+1) (k:=f.ins.length) h1
 have hs:=rQ hL i (Nat.le_of_lt h1)
 have hj:jmp f.ins[i]=false:=by simp[jmp,ho]
 have he:je f.ins (bE f.ins) i=[u8 14,u8 f.ins[i].n]:=by
  have h2:i<(bE f.ins).length:=by omega
  simp only[je,List.getElem?_eq_getElem h1,List.getElem?_eq_getElem h2,hj]
  simp[aO,ho,inR]
 rw[gJ,e,iz,he,List.append_assoc,List.getElem?_append_right (by omega),hs]
 simp
theorem oD{f:Mfn}(hc:aC f=true){c:Int}:c∈bI f↔∃(i:Nat) (h:i<f.ins.length),f.ins[i].op=14/\c=((plc f.ins (bE f.ins) i+1:Nat):Int):=by
 have hp:ca f=dj f.ins (bE f.ins) f.ins.length:=by rw[ca,if_pos hc]
 simp only[bI,List.mem_flatMap]
 constructor
 ·rintro⟨⟨x,p⟩,hm,hcl⟩
  obtain⟨i,hi,e⟩:=List.getElem_of_mem hm
  rw[List.getElem_zip,Prod.mk.injEq] at e
  rw[List.length_zip] at hi
  obtain⟨e1,e2⟩:=e
  simp only[sB] at hcl
  split at hcl
  ·rename_i ho
   refine⟨i,by omega,by rw[e1];exact ho,?_⟩
   rw[List.mem_singleton] at hcl
   have hg:(ca f)[i]?=some p:=by rw[List.getElem?_eq_getElem (by omega),e2]
   rw[hp,fQ (by omega)] at hg
   cases hg
   rw[hcl];omega
  ·cases hcl
 ·rintro⟨i,h,ho,rfl⟩
  have hl:i<(ca f).length:=by rw[hp,iY];exact h
  have hg:(ca f)[i]?=some (plc f.ins (bE f.ins) i):=by rw[hp];exact fQ h
  rw[List.getElem?_eq_getElem hl,Option.some.injEq] at hg
  refine⟨(f.ins[i],(ca f)[i]),?_,?_⟩
  ·have hz:i<(List.zip f.ins (ca f)).length:=by rw[List.length_zip];omega
   have:=List.getElem_mem hz
   rwa[List.getElem_zip] at this
  ·simp only[sB,if_pos ho,List.mem_singleton,hg];omega
def iO(x:Mins):Mins:=if x.op=14 then{x with n:=0} else x
def cg(f:Mfn):Mfn:={f with ins:=f.ins.map iO}
def nj(code:List Int)(c:Int):Bool:=code[c.toNat]?==some 0
theorem EP{f:Mfn}:f=cg f↔∀x∈f.ins,x.op=14->x.n=0:=by
 constructor
 ·intro e x hx ho
  obtain⟨i,hi,rfl⟩:=List.getElem_of_mem hx
  have e2:f.ins[i]?=(cg f).ins[i]?:=congrArg (λg:Mfn=>g.ins[i]?) e
  rw[show(cg f).ins=f.ins.map iO from rfl,List.getElem?_map,List.getElem?_eq_getElem hi,Option.map_some,Option.some.injEq,iO,if_pos ho] at e2
  exact congrArg Mins.n e2
 ·intro h
  have:f.ins.map iO=f.ins:=by
   conv=>rhs;rw[←List.map_id f.ins]
   refine List.map_congr_left λx hx=>?_
   unfold iO
   split
   ·rename_i ho;have:=h x hx ho;cases x;simp_all
   ·rfl
  rw[cg,this]
theorem Dk{f:Mfn}(hc:aC f=true):(bI f).all (nj (gJ f))=decide (f=cg f):=by
 rw[Bool.eq_iff_iff,List.all_eq_true,decide_eq_true_eq,EP]
 constructor
 ·intro h x hx ho
  obtain⟨i,hi,rfl⟩:=List.getElem_of_mem hx
  have h1:=h _ ((oD hc).2 ⟨i,hi,ho,rfl⟩)
  simp only[nj,Int.toNat_natCast,zE hi ho,beq_iff_eq,Option.some.injEq,rM] at h1
  have:=Cf hc hx ho
  omega
 ·intro h c hm
  obtain⟨i,hi,ho,rfl⟩:=(oD hc).1 hm
  simp only[nj,Int.toNat_natCast,zE hi ho,h _ (List.getElem_mem hi) ho]
  rfl
theorem rL{p s:Int}{code:List Int}{f:Mfn}(h:dG p s code=some f):aC f=true/\gJ f=code:=by
 unfold dG at h
 rw[Option.bind_eq_some_iff] at h
 obtain⟨ps,_,h2⟩:=h
 split at h2
 ·rename_i hk
  cases h2
  simp only[fx,Bool.and_eq_true,decide_eq_true_eq] at hk
  exact hk
 ·cases h2
def bC(o:Obj):Bool:=match dG o.params o.slots o.code with
 |none=>false
 |some f=>aS o.name&&decide (bI f=o.calls)&&decide (o.names.length=o.calls.length)&&o.names.all aS&&decide (f=cg f)
theorem Gw:∀{l:List (List UInt8)} {x:List UInt8},x∈l->x.length<=(l.map List.length).sum
 |y::r,x,h=>by
  rw[List.map_cons,List.sum_cons]
  rcases List.mem_cons.1 h with rfl|h
  ·omega
  ·have:=Gw h;omega
theorem uy{o:Obj}(hz:szO o<=1048576):∀x∈o.names,x.length<=140737488355328:=λx hx=>by
 have h:=Gw hx
 have hsz:szO o=o.name.length+o.code.length+o.calls.length+szW o.names:=rfl
 have hwz:szW o.names=o.names.length+(o.names.map List.length).sum:=rfl
 omega
variable (G:az)
theorem og(o:Obj)(ho:ObjSm o)(hz:szO o<=1048576):VF Tryz.prog G dx [.agg (o.cs.map .p)] (.p (.bool (bC o))):=by
 refine AC.go oU ?_
 have hsz:szO o=o.name.length+o.code.length+o.calls.length+szW o.names:=rfl
 have hwz:szW o.names=o.names.length+(o.names.map List.length).sum:=rfl
 simp-implicitDefEqProofs[iX,Obj.cs]
 refine(Cx G o.params o.slots o.code ho.bytes (by omega)).use ?_
 cases hd:dG o.params o.slots o.code with
 |none=>
  have hob:bC o=false:=by simp only[bC,hd]
  simp-implicitDefEqProofs[Mfn.cs,hob]
 |some f=>
  obtain⟨hc,henc⟩:=rL hd
  have hob:bC o=(aS o.name&&decide (bI f=o.calls)&&decide (o.names.length=o.calls.length)&&o.names.all aS&&decide (f=cg f)):=by simp only[bC,hd]
  have hil:f.ins.length<=1000000:=by
   have:=(bP (by simp only[aC,Bool.and_eq_true] at hc;exact hc.1):fK f.ins).1
   omega
  have hcb:(bI f).length<=1048576:=by
   have h1:=pK f (ca f).length
   have h2:=tR f
   rw[mI (Nat.le_refl _)] at h1
   omega
  simp-implicitDefEqProofs[Mfn.cs]
  refine(vK G o.name (by omega)).use ?_
  by_cases h1:aS o.name=true
  case neg=>simp-implicitDefEqProofs[h1,hob]
  have hl26:=Df G f hil
  rw[Mfn.cs] at hl26
  simp-implicitDefEqProofs[h1]
  refine hl26.useQ ?_
  simp-implicitDefEqProofs[]
  refine(Hk G (bI f) o.calls hcb).use ?_
  by_cases h2:bI f=o.calls
  case neg=>simp-implicitDefEqProofs[h2,hob]
  have hnl:bk o.calls= .lst 1 (o.calls.map λn=>[.int .i64 n]):=rfl
  have hsl:aQ o.names= .lst 1 (o.names.map λw=>[.str w]):=rfl
  simp-implicitDefEqProofs[h2,hnl,hsl]
  by_cases h3:o.names.length=o.calls.length
  case neg=>
   have h3':¬(o.names.length:Int)=(o.calls.length:Int):=by omega
   simp-implicitDefEqProofs[h3,h3',hob]
  simp-implicitDefEqProofs[h3]
  rw[←hnl,←hsl]
  have hzb:=Dk hc
  rw[h2,henc] at hzb
  have hobj:bC o=(o.names.all aS&&o.calls.all (nj o.code)):=by
   rw[hob,h1,h2,hzb];simp[h3]
  refine aw (λi:Nat=>aB 67 [(1,.ptr 0 6 0 0),(5,.p (.int .i64 i))]) (λi=>[.row 6 [o.cs.map .p],.row 3 [f.cs.map .p]])
   (λi=>i<=o.calls.length/\(o.names.take i).all aS=true/\(o.calls.take i).all (nj o.code)=true) (λi=>o.calls.length-i) 0 (by simp) ?_ ?_
  ·refine bh (by simp) (by simp[okO]) (by simp[below,ab])
  ·intro i ⟨hi,hn,hq⟩
   simp-implicitDefEqProofs[Obj.cs,hnl]
   refine aR (λh4=>?_) (λh4=>?_)
   ·simp at h4
    have h5:i<o.names.length:=by omega
    have hg1:=List.getElem?_eq_getElem h4
    have hg2:=List.getElem?_eq_getElem h5
    have hbl:aN o.code= .lst 1 (o.code.map λn=>[.int .u8 n]):=rfl
    simp-implicitDefEqProofs[Obj.cs,hnl,hsl,hg2]
    refine(vK G _ (uy hz _ (List.getElem_mem h5))).use ?_
    by_cases h6:aS o.names[i]=true
    case neg=>
     have hf:o.names.all aS=false:=List.all_eq_false.2 ⟨_,List.getElem_mem h5,h6⟩
     simp-implicitDefEqProofs[h6,hobj,hf]
    have hmem:o.calls[i]∈bI f:=by rw[h2];exact List.getElem_mem h4
    obtain⟨k,hk,hop,hce⟩:=(oD hc).1 hmem
    have hca:=zE hk hop
    rw[henc] at hca
    generalize plc f.ins (bE f.ins) k+1=q at hce hca
    generalize u8 f.ins[k].n=b at hca
    have hqb:o.code[q]?=some b:=hca
    have hql:q<o.code.length:=(List.getElem?_eq_some_iff.1 hca).1
    have hgb:o.code[q]=b:=by rw[List.getElem?_eq_getElem hql] at hqb;exact Option.some.inj hqb
    have hza:nj o.code o.calls[i]=(b==0):=by rw[nj,hce,Int.toNat_natCast,hqb];rfl
    rw[hce] at hg1
    by_cases h7:b=0
    ·simp-implicitDefEqProofs[h6,hg1,hg2,hbl,hqb,hql,hgb,h7]
     refine⟨i+1,⟨h4,?_,?_⟩,by omega,bh (by simp) (by simp[okO]) ?_⟩
     ·rw[List.all_eq_true] at hn
      intro x hx
      rw[aq h5] at hx
      rcases List.mem_append.1 hx with hx|hx
      ·exact hn x hx
      ·rw[List.mem_singleton.1 hx];exact h6
     ·rw[List.all_eq_true] at hq
      intro x hx
      rw[aq h4] at hx
      rcases List.mem_append.1 hx with hx|hx
      ·exact hq x hx
      ·rw[List.mem_singleton.1 hx,hza,h7];rfl
     ·simp[below,ab,w1 (i:=i) (by omega)]
    ·have hf:o.calls.all (nj o.code)=false:=List.all_eq_false.2 ⟨_,List.getElem_mem h4,by rw[hza];simp[h7]⟩
     simp-implicitDefEqProofs[h6,hg1,hg2,hbl,hqb,hql,hgb,h7,hobj,hf]
   ·simp at h4
    rw[List.take_of_length_le (by omega)] at hn hq
    simp-implicitDefEqProofs[hobj,hn,hq]
end
section
variable (G:az)
theorem sV(x y:Mins):fI [0,0,0,0,0] [.p (.int .i64 x.op),.p (.int .i64 x.a),.p (.int .i64 x.b),.p (.int .i64 x.c),.p (.int .i64 x.n)] [.p (.int .i64 y.op),.p (.int .i64 y.a),.p (.int .i64 y.b),.p (.int .i64 y.c),.p (.int .i64 y.n)]=some (decide (x=y)):=by
 have:fI [0,0,0,0,0] [.p (.int .i64 x.op),.p (.int .i64 x.a),.p (.int .i64 x.b),.p (.int .i64 x.c),.p (.int .i64 x.n)] [.p (.int .i64 y.op),.p (.int .i64 y.a),.p (.int .i64 y.b),.p (.int .i64 y.c),.p (.int .i64 y.n)]
  =some (decide (x.op=y.op)&&(decide (x.a=y.a)&&(decide (x.b=y.b)&&(decide (x.c=y.c)&&(decide (x.n=y.n)&&true))))):=rfl
 rw[this]
 cases x;cases y
 simp[Bool.eq_iff_iff]
theorem BQ(xs ys:List Mins)(hb:xs.length<=1048576):VF Tryz.prog G cO [.p (bp xs),.p (bp ys)] (.p (.bool (decide (xs=ys)))):=by
 refine AC.go jG ?_
 simp-implicitDefEqProofs[eQ,bp]
 refine aR (λh=>?_) (λh=>?_)
 ·have h':xs≠ys:=by rintro rfl;simp at h
  simp-implicitDefEqProofs[h']
 have h:xs.length=ys.length:=by simp at h;omega
 simp-implicitDefEqProofs[]
 refine aw (λi:Nat=>aB 26 [(0,.p (bp xs)),(1,.p (bp ys)),(11,.p (bp xs)),(12,.p (.int .i64 xs.length)),(13,.p (.int .i64 i))]) (λ_=>[]) (λi=>i<=xs.length/\xs.take i=ys.take i) (λi=>xs.length-i) 0 (by simp) ?_ ?_
 ·exact aD rfl (by simp[below,bp,h])
 intro i ⟨hi,he⟩
 simp-implicitDefEqProofs[bp]
 refine aR (λh1=>?_) (λh1=>?_)
 ·simp at h1
  have h1:i<ys.length:=by omega
  have h1':i<xs.length:=by omega
  have hx:=List.getElem?_eq_getElem h1'
  have hy:=List.getElem?_eq_getElem h1
  by_cases h3:xs[i]=ys[i]
  ·simp-implicitDefEqProofs[hx,hy,h3,Mins.cs,sV]
   exact⟨i+1,⟨h1',cF h1' h1 h3 he⟩,by omega,aD rfl (by simp[below,bp,w1 (i:=i) (by omega)])⟩
  ·have h':xs≠ys:=by rintro rfl;exact h3 rfl
   simp-implicitDefEqProofs[hx,hy,h',h3,Mins.cs,sV]
 ·simp at h1
  have h1:ys.length<=i:=by omega
  have h':xs=ys:=iV h h1 he
  simp-implicitDefEqProofs[h']
theorem zt(x y:Mfn)(hb:x.ins.length<=1048576):VF Tryz.prog G jj [.agg (x.cs.map .p),.agg (y.cs.map .p)] (.p (.bool (decide (x=y)))):=by
 refine AC.go uK ?_
 have hxy:(x=y)↔(x.params=y.params/\x.slots=y.slots/\x.ins=y.ins):=by cases x;cases y;simp
 have hil:∀f:Mfn,bp f.ins= .lst 5 (f.ins.map Mins.cs):=λ_=>rfl
 by_cases h1:x.params=y.params
 case neg=>simp-implicitDefEqProofs[fO,Mfn.cs,hxy,h1]
 by_cases h2:x.slots=y.slots
 case neg=>simp-implicitDefEqProofs[fO,Mfn.cs,hxy,h1,h2]
 simp-implicitDefEqProofs[fO,Mfn.cs,h1,h2]
 refine(BQ G x.ins y.ins hb).use ?_
 simp-implicitDefEqProofs[hxy,h1,h2]
variable (hG:G bW=some pvForms)
include hG
theorem zJ(f:Mfn)(hn:f.ins.length<=1000000)(hlo:∀x∈f.ins,x.op=14-> -9223372036854775808<=x.n):VF Tryz.prog G cG [.agg (f.cs.map .p)] (.p (iT (ca f))):=by
 by_cases hc:aC f=true
 ·have key:AC Tryz.prog G cG [.agg (f.cs.map .p)] [] λx h=>∃id,x= .ret (.sl id 1 0 f.ins.length)/\h[id]?=some (ay (dj f.ins (bE f.ins) f.ins.length)):=by
   refine AC.go jF ?_
   simp-implicitDefEqProofs[fH]
   refine(AC.lift (tj G hG f hn hlo hc) (by simp[ab,below]) rfl ?_).mono ?_
   ·simp only[List.all_cons,List.all_nil,vc,vb];rfl
   rintro r h ⟨rfl,rfl⟩
   simp-implicitDefEqProofs[ag,tl,sJ,zn,uI,aY,bi]
   simp-implicitDefEqProofs[Mfn.cs,aM]
  have hp:ca f=dj f.ins (bE f.ins) f.ins.length:=by rw[ca,if_pos hc]
  refine key.freezeR (λt v h ⟨id,e,_⟩=>by cases e) λv h ⟨id,e1,e2⟩=>?_
  cases e1
  rw[hp]
  exact .one (by have:=lq e2;rwa[iY] at this) .nil
 ·have hp:ca f=[]:=by rw[ca,if_neg hc]
  have key:AC Tryz.prog G cG [.agg (f.cs.map .p)] [] λx _=>x= .ret .nils:=by
   refine AC.go jF ?_
   simp-implicitDefEqProofs[fH]
   refine(sH G hG f hn hlo hc).use ?_
   simp-implicitDefEqProofs[]
  refine key.freezeR (λt v h e=>by cases e) λv h e=>?_
  cases e
  rw[hp]
  exact .one (View.nils 1) .nil
end
section
variable (G:az)
def jm(l:List Int):List (List AV):=l.map λn=>[.p (.int .i64 n)]
theorem Cb(a b:List Int):jm (a++b)=jm a++jm b:=by simp[jm]
theorem zw(l:List Int):∀x∈jm l,ab 0 x:=by
 intro x hx;obtain⟨m,_,rfl⟩:=List.mem_map.1 hx;simp[ab,below]
theorem EY{h:List AO}{id:Nat}{l:List Int}(e:h[id]?=some (lu 1 (jm l))):View h (slE id 1 (jm l)) (bk l):=by
 have hh:jm l=(l.map λn=>[PV.int .i64 n]).map (·.map .p):=by simp[jm]
 rw[hh] at e⊢
 exact Du e (λx hx=>by obtain⟨b,_,rfl⟩:=List.mem_map.1 hx;rfl)
theorem pm(l:List Mins):iL (bq l)=true:=by
 simp only[iL,bq,List.all_map,List.all_eq_true]
 intro m _
 exact Dv m.cs
section
theorem Js(xs:List Mins)(hx:xs≠[])(hb:xs.length<=1000000):AC Tryz.prog G bQ [.p (bp xs)] [] λx h=>∃id,x= .ret (.sl id 5 0 xs.length)/\h[id]?=some (bq xs):=by
 obtain⟨y,r,rfl⟩:∃y r,xs=y::r:=by cases xs with|nil=>exact absurd rfl hx|cons y r=>exact⟨y,r,rfl⟩
 refine AC.go kg ?_
 have hin:bp (y::r)= .lst 5 (y.cs::r.map Mins.cs):=rfl
 have hl:(y::r).length=r.length+1:=rfl
 rw[hl] at hb
 simp-implicitDefEqProofs[eO,hin]
 refine⟨by omega,?_⟩
 simp only[bq,List.map_cons]
 rfl
theorem Iq(xs:List Mins)(hx:xs≠[])(hb:xs.length<=1000000):AC Tryz.prog G bQ [.p (bp xs)] [] λx h=>x= .ret (.sl 0 5 0 xs.length)/\h=[bq xs]:=by
 refine(Js G xs hx hb).gc (λt v h ⟨id,e,_⟩=>by cases e) λv h ⟨id,e1,e2⟩=>?_
 cases e1
 exact⟨.sl 0 5 0 xs.length,[bq xs],⟨[id],by simp,by simp,by simp,by simp[below],by simp[ren],af e2 (cC _) aj⟩,rfl,rfl⟩
theorem Dm(f:Mfn)(hx:f.ins≠[])(hb:f.ins.length<=1000000):AC Tryz.prog G fc [.agg (f.cs.map .p)] [] λx h=>∃id,x= .ret (.agg (f.ov id))/\h[id]?=some (bq f.ins):=by
 refine AC.go tA ?_
 have hin:bp f.ins= .lst 5 (f.ins.map Mins.cs):=rfl
 simp-implicitDefEqProofs[lW,Mfn.cs,←hin]
 refine(AC.lift (Iq G f.ins hx hb) (by simp[ab,below]) rfl ?_).mono ?_
 ·simp only[List.all_cons,List.all_nil,pm];rfl
 rintro r h ⟨rfl,rfl⟩
 simp-implicitDefEqProofs[ag,aY,bi,oV]
 exact⟨2,rfl,rfl⟩
theorem uH(f:Mfn)(hx:f.ins≠[])(hb:f.ins.length<=1000000):AC Tryz.prog G fc [.agg (f.cs.map .p)] [] λx h=>x= .ret (.agg (f.ov 0))/\h=[bq f.ins]:=by
 refine(Dm G f hx hb).gc (λt v h ⟨id,e,_⟩=>by cases e) λv h ⟨id,e1,e2⟩=>?_
 cases e1
 exact⟨.agg (f.ov 0),[bq f.ins],⟨[id],by simp,by simp,by simp,by simp[below,ab,Mfn.ov],by simp[ren,aF,Mfn.ov],af e2 (cC _) aj⟩,rfl,rfl⟩
end
variable (hG:G bW=some pvForms)
include hG
theorem sN(f:Mfn)(hn:f.ins.length<=1000000)(hlo:∀x∈f.ins,x.op=14-> -9223372036854775808<=x.n):AC Tryz.prog G dh [.agg (f.cs.map .p)] [] λx h=>∃id,x= .ret (slE id 1 (jm (bI f)))/\h[id]?=some (lu 1 (jm (bI f))):=by
 refine AC.go kL ?_
 have hpi:=tR f
 have hps:∀l,iT l= .lst 1 (l.map λ(n:Nat)=>[.int .i64 (n:Int)]):=λ_=>rfl
 simp-implicitDefEqProofs[kw]
 refine(zJ G hG f hn hlo).use ?_
 simp-implicitDefEqProofs[hps]
 refine aw (λi:Nat=>aB 28 [(1,.ptr 0 3 0 0),(3,slE 1 1 (jm (pt f i))),(7,.p (iT (ca f))),(8,.p (.int .i64 (ca f).length)),(9,.p (.int .i64 i))]) (λi=>[.row 3 [f.cs.map .p],lu 1 (jm (pt f i))])
  (λi=>i<=(ca f).length) (λi=>(ca f).length-i) 0 (by simp) ?_ ?_
 ·simp only[si,jm,List.map_nil,rh,pT]
  exact tW [0,0] (by simp) (by simp) (by simp[iq]) (af rfl (by simp) (cm (by simp) aj)) (by simp[below,ren,hps])
 ·intro i hi
  simp-implicitDefEqProofs[hps]
  refine aR (λh1=>?_) (λh1=>?_)
  ·simp at h1
   have h2:i<f.ins.length:=by omega
   have hg1:=List.getElem?_eq_getElem h2
   have hg2:=List.getElem?_eq_getElem h1
   have hle:(ca f)[i]<=8000:=DT _ (List.getElem_mem h1)
   have hsu:=ss h2 h1
   have hcl:=pK f i
   have hnl:(jm (pt f i)).length=(pt f i).length:=by simp[jm]
   by_cases ho:f.ins[i].op=14
   ·have hw:IntKind.i64.wrap (((ca f)[i]:Int)+1)=((ca f)[i]:Int)+1:=aa (by omega) (by omega)
    rw[sB,if_pos ho] at hsu
    clear hle
    simp-implicitDefEqProofs[Mfn.cs,hg1,hg2,Mins.cs,ho,hw,hnl]
    refine⟨by omega,i+1,h1,by omega,?_⟩
    rw[hsu,Cb,tX _ (by simp[jm]),ur _ (by simp[jm])]
    refine al [0,3] rfl (by decide) (af rfl (by simp) (af rfl (by rw[←Cb];exact zw _) aj)) ?_
    simp[below,ren,hps,hnl,jm,w1 (i:=i) (by omega)]
   ·rw[sB,if_neg ho,List.append_nil] at hsu
    clear hle
    simp-implicitDefEqProofs[Mfn.cs,hg1,hg2,Mins.cs,ho]
    refine⟨i+1,h1,by omega,?_⟩
    rw[hsu]
    exact al [0,1] rfl (by decide) (af rfl (by simp) (ri rfl (zw _) aj)) (by simp[below,ren,hps,w1 (i:=i) (by omega)])
  ·simp at h1
   have:=mI (f:=f) (i:=i) h1
   simp-implicitDefEqProofs[this]
   exact⟨1,rfl,rfl⟩
theorem Bx(f:Mfn)(hn:f.ins.length<=1000000)(hlo:∀x∈f.ins,x.op=14-> -9223372036854775808<=x.n):VF Tryz.prog G dh [.agg (f.cs.map .p)] (.p (bk (bI f))):=by
 refine(sN G hG f hn hlo).freezeR (λt v h ⟨id,e,_⟩=>by cases e) λv h ⟨id,e1,e2⟩=>?_
 cases e1
 exact .one (EY e2) .nil
end
section
variable (G:az)
def ce(f:Mfn)(i:Nat):List Mins:=(f.ins.take i).map iO++f.ins.drop i
theorem sF(f:Mfn):ce f 0=f.ins:=by simp[ce]
theorem vO(f:Mfn):ce f f.ins.length=(cg f).ins:=by simp[ce,cg]
theorem uY{f:Mfn}{i:Nat}(h:i<f.ins.length):(ce f i)[i]?=some f.ins[i]:=by
 rw[ce,List.getElem?_append_right (by simp;omega)]
 simp[Nat.min_eq_left (Nat.le_of_lt h),h]
theorem ya{f:Mfn}{i:Nat}(h:i<f.ins.length):(ce f i).set i (iO f.ins[i])=ce f (i+1):=by
 have hl:((f.ins.take i).map iO).length=i:=by simp;omega
 rw[ce,List.set_append_right _ _ (by omega),hl,Nat.sub_self,List.drop_eq_getElem_cons h,List.set_cons_zero,ce,aq h,List.map_append,List.append_assoc]
 rfl
theorem sO{f:Mfn}{i:Nat}(h:i<f.ins.length)(ho:¬f.ins[i].op=14):ce f (i+1)=ce f i:=by
 rw[ce,aq h,List.map_append,List.append_assoc,ce,List.drop_eq_getElem_cons h,List.map_cons,iO,if_neg ho]
 rfl
theorem JD(f:Mfn)(hx:f.ins≠[])(hb:f.ins.length<=1000000):VF Tryz.prog G ep [.agg (f.cs.map .p)] (.agg ((cg f).cs.map .p)):=by
 have key:AC Tryz.prog G ep [.agg (f.cs.map .p)] [] λx h=>∃id,x= .ret (.agg ((cg f).ov id))/\h[id]?=some (bq (cg f).ins):=by
  refine AC.go ll ?_
  have hin:bp f.ins= .lst 5 (f.ins.map Mins.cs):=rfl
  simp-implicitDefEqProofs[lf]
  refine(AC.lift (uH G f hx hb) (by simp[ab,below]) rfl ?_).mono ?_
  ·simp only[List.all_cons,List.all_nil,pm];rfl
  rintro r h ⟨rfl,rfl⟩
  simp-implicitDefEqProofs[ag,aY,bi,oV,Mfn.ov]
  refine aw (λi:Nat=>aB 26 [(1,.ptr 0 3 0 0),(2,.ptr 1 3 0 0),(8,.p (.int .i64 f.ins.length)),(9,.p (.int .i64 i))]) (λi=>[.row 3 [[.p (.int .i64 f.params),.p (.int .i64 f.slots),.sl 2 5 0 f.ins.length]],.row 3 [cK],bq (ce f i)])
   (λi=>i<=f.ins.length) (λi=>f.ins.length-i) 0 (by simp) ?_ ?_
  ·rw[sF]
   refine al [0,1,2] rfl (by decide) (aE (by simp[below]) (by simp[ren,aF]) (af rfl (by simp[cK,ab,below]) (af rfl (cC _) aj))) ?_
   simp[below,ren]
  ·intro i hi
   simp-implicitDefEqProofs[]
   refine aR (λh1=>?_) (λh1=>?_)
   ·simp at h1
    have hg:=uY h1
    have hbo:bq (ce f i)= .row 5 ((ce f i).map Mins.av):=rfl
    by_cases ho:f.ins[i].op=14
    ·have hs:=ya h1
     have hs2:((ce f i).map Mins.av).set i [.p (.int .i64 14),.p (.int .i64 f.ins[i].a),.p (.int .i64 f.ins[i].b),.p (.int .i64 f.ins[i].c),.p (.int .i64 0)]=(ce f (i+1)).map Mins.av:=by
      rw[←hs,List.map_set,iO,if_pos ho,Mins.av_eq,ho]
     simp-implicitDefEqProofs[hbo,hg,h1,Mins.av_eq,ho,dP,hs2]
     refine⟨i+1,h1,by omega,?_⟩
     refine al [0,1,2] rfl (by decide) (aE (by simp[below]) (by simp[ren,aF]) (af rfl (by simp[cK,ab,below]) (af rfl (cC _) aj))) ?_
     simp[below,ren,w1 (i:=i) (by omega)]
    ·have hs:=sO h1 ho
     simp-implicitDefEqProofs[hbo,hg,h1,Mins.av_eq,ho]
     refine⟨i+1,h1,by omega,?_⟩
     rw[hs]
     refine al [0,1,2] rfl (by decide) (aE (by simp[below]) (by simp[ren,aF]) (af rfl (by simp[cK,ab,below]) (af rfl (cC _) aj))) ?_
     simp[below,ren,w1 (i:=i) (by omega)]
   ·simp at h1
    have hie:i=f.ins.length:=by omega
    subst hie
    simp-implicitDefEqProofs[vO]
    exact⟨by simp[cK],2,⟨rfl,rfl,rfl,by simp[cg]⟩,rfl⟩
 refine key.freezeR (λt v h ⟨id,e,_⟩=>by cases e) λv h ⟨id,e1,e2⟩=>?_
 cases e1
 exact .agg (.keep (by simp[below]) (.keep (by simp[below]) (.one (sq e2) .nil))) .nil
def CP(L:List (List UInt8)):Int:=match L.findIdx? (λw=> !aS w) with|some i=>i|none=> -1
theorem Gb(L:List (List UInt8)):decide (0<=CP L)= !(L.all aS):=by
 unfold CP
 cases h:L.findIdx? (λx=> !aS x) with
 |none=>
  rw[List.findIdx?_eq_none_iff] at h
  have:L.all aS=true:=List.all_eq_true.2 λx hx=>by have:=h x hx;simpa using this
  simp[this]
 |some i=>
  rw[List.findIdx?_eq_some_iff_getElem] at h
  obtain⟨h1,h2,_⟩:=h
  have:L.all aS=false:=List.all_eq_false.2 ⟨_,List.getElem_mem h1,by simpa using h2⟩
  rw[this];simp
variable (hK:G ig=some gB)
include hK
theorem GV(s:List UInt8)(hb:s.length<=140737488355328):VF Tryz.prog G dM [.p (.str s)] (.p (.bool (!aS s))):=by
 refine AC.go yi ?_
 simp-implicitDefEqProofs[oa]
 refine(pS G hK s hb).use ?_
 simp-implicitDefEqProofs[]
theorem CC(L:List (List UInt8))(hb:L.length<=1048576)(hw:∀x∈L,x.length<=140737488355328):VF Tryz.prog G cu [.p (aQ L),.fn (.func dM) []] (.p (.int .i64 (CP L))):=by
 refine AC.go jq ?_
 have hsl:aQ L= .lst 1 (L.map λw=>[.str w]):=rfl
 simp-implicitDefEqProofs[ey,hsl]
 refine aw (λi:Nat=>aB 19 [(0,.p (aQ L)),(1,.fn (.func dM) []),(6,.p (aQ L)),(7,.p (.int .i64 L.length)),(8,.p (.int .i64 i))]) (λ_=>[]) (λi=>i<=L.length/\∀w∈L.take i,aS w=true) (λi=>L.length-i) 0 (by simp) ?_ ?_
 ·exact bh (by simp) (by simp[okO]) (by simp[below,ab,aQ])
 ·intro i ⟨hi,hn⟩
  simp-implicitDefEqProofs[hsl]
  refine aR (λh1=>?_) (λh1=>?_)
  ·simp at h1
   have hg:=List.getElem?_eq_getElem h1
   simp-implicitDefEqProofs[hg]
   refine(GV G hK _ (hw _ (List.getElem_mem h1))).use ?_
   by_cases he:aS L[i]=true
   ·simp-implicitDefEqProofs[he]
    refine⟨i+1,⟨h1,λp hp=>?_⟩,by omega,bh (by simp) (by simp[okO]) ?_⟩
    ·rw[aq h1] at hp
     rcases List.mem_append.1 hp with hp|hp
     ·exact hn p hp
     ·rw[List.mem_singleton.1 hp];exact he
    ·simp[below,ab,aQ,w1 (i:=i) (by omega)]
   ·have hf:CP L=i:=by
     have:L.findIdx? (λw=> !aS w)=some i:=by
      rw[List.findIdx?_eq_some_iff_getElem]
      exact⟨h1,by simpa using he,λj hj=>by have:=hn L[j] (List.mem_take_iff_getElem.2 ⟨j,by omega,rfl⟩);simpa using this⟩
     rw[CP,this]
    simp-implicitDefEqProofs[he,hf]
  ·simp at h1
   rw[List.take_of_length_le h1] at hn
   have hf:CP L= -1:=by
    have:L.findIdx? (λw=> !aS w)=none:=by
     rw[List.findIdx?_eq_none_iff];intro x hx;simpa using hn x hx
    rw[CP,this]
   simp-implicitDefEqProofs[hf]
theorem od(L:List (List UInt8))(hb:L.length<=1048576)(hw:∀x∈L,x.length<=140737488355328):VF Tryz.prog G bZ [.p (aQ L),.fn (.func dM) []] (.p (.bool (!L.all aS))):=by
 rw[←Gb]
 refine AC.go gX ?_
 simp-implicitDefEqProofs[dL]
 refine(CC G hK L hb hw).use ?_
 simp-implicitDefEqProofs[]
end
section
variable (G:az)
def fnR(o:Obj):List AV:=match dG o.params o.slots o.code with
 |none=>cK
 |some f=>f.cs.map .p
section
variable (hG:G bW=some pvForms)
include hG
theorem By{p s:Int}{code:List Int}(hb:bJ code)(hl:code.length<=1048576){f:Mfn}(hd:dG p s code=some f):
 VF Tryz.prog G bY [.p (.int .i64 p),.p (.int .i64 s),.p (aN code)] (.tup [.agg (f.cs.map .p),.p (.bool true)]):=
 AC.freeze (Bc G hG hb hl hd) (.tup (.agg (.keep (by simp) (.keep (by simp) (.one (sq rfl) .nil))) (.keep (by simp) .nil)) .nil)
end
variable (hG:G bW=some pvForms) (hK:G ig=some gB)
include hG hK
theorem KG(o:Obj)(ho:ObjSm o)(hz:szO o<=1048576):VF Tryz.prog G gP [.agg (o.cs.map .p)] (.tup [.agg (fnR o),.p (.bool (bC o))]):=by
 refine AC.go sW ?_
 have hsz:szO o=o.name.length+o.code.length+o.calls.length+szW o.names:=rfl
 have hwz:szW o.names=o.names.length+(o.names.map List.length).sum:=rfl
 simp-implicitDefEqProofs[mY,Obj.cs]
 cases hd:dG o.params o.slots o.code with
 |none=>
  have hob:bC o=false:=by simp only[bC,hd]
  have hfr:fnR o=cK:=by simp only[fnR,hd]
  have h2:=Bf G hG ho.bytes (by omega) hd
  rw[cK] at h2
  refine h2.use ?_
  simp-implicitDefEqProofs[cK,hob,hfr]
 |some f=>
  obtain⟨hc,henc⟩:=rL hd
  have hob:bC o=(aS o.name&&decide (bI f=o.calls)&&decide (o.names.length=o.calls.length)&&o.names.all aS&&decide (f=cg f)):=by simp only[bC,hd]
  have hfr:fnR o=f.cs.map .p:=by simp only[fnR,hd]
  have hil:f.ins.length<=1000000:=by
   have:=(bP (by simp only[aC,Bool.and_eq_true] at hc;exact hc.1):fK f.ins).1
   omega
  have hne:f.ins≠[]:=by intro e;have:=ji hc;rw[e] at this;simp at this
  have hlo:∀x∈f.ins,x.op=14-> -9223372036854775808<=x.n:=λx hx h=>by have:=Cf hc hx h;omega
  have hcb:(bI f).length<=1048576:=by
   have h1:=pK f (ca f).length
   have h2:=tR f
   rw[mI (Nat.le_refl _)] at h1
   omega
  refine(By G hG ho.bytes (by omega) hd).use ?_
  simp-implicitDefEqProofs[]
  refine(pS G hK o.name (by omega)).use ?_
  by_cases h1:aS o.name=true
  case neg=>simp-implicitDefEqProofs[h1,hob,hfr,Mfn.cs]
  simp-implicitDefEqProofs[h1]
  refine(JD G f hne hil).useQ ?_
  simp-implicitDefEqProofs[]
  refine(zt G f (cg f) (by omega)).use ?_
  by_cases h2:f=cg f
  case neg=>simp-implicitDefEqProofs[h2,hob,hfr,Mfn.cs]
  simp-implicitDefEqProofs[←h2]
  refine(Bx G hG f hil hlo).useQ ?_
  simp-implicitDefEqProofs[]
  refine(uj G (bI f) o.calls hcb).use ?_
  by_cases h3:bI f=o.calls
  case neg=>simp-implicitDefEqProofs[h3,hob,hfr,Mfn.cs]
  have hnl:bk o.calls= .lst 1 (o.calls.map λn=>[.int .i64 n]):=rfl
  have hsl:aQ o.names= .lst 1 (o.names.map λw=>[.str w]):=rfl
  simp-implicitDefEqProofs[h3,hnl,hsl]
  by_cases h4:o.names.length=o.calls.length
  case neg=>
   have h4':¬(o.names.length:Int)=(o.calls.length:Int):=by omega
   simp-implicitDefEqProofs[h4,h4',hob,hfr,Mfn.cs]
  simp-implicitDefEqProofs[h4]
  rw[←hsl]
  refine(od G hK o.names (by omega) (uy hz)).use ?_
  simp-implicitDefEqProofs[hob,hfr,Mfn.cs,h1,h3,h4,←h2]
theorem yu(o:Obj)(ho:ObjSm o)(hz:szO o<=1048576):VF Tryz.prog G fh [.agg (o.cs.map .p)] (.p (.bool (bC o))):=by
 refine AC.go oX ?_
 have hfn:=KG G hG hK o ho hz
 simp-implicitDefEqProofs[jh]
 rw[fnR] at hfn
 cases hd:dG o.params o.slots o.code with
 |none=>
  rw[hd] at hfn
  simp only[cK] at hfn
  refine hfn.use ?_
  simp-implicitDefEqProofs[]
 |some f=>
  rw[hd] at hfn
  simp only at hfn
  refine hfn.use ?_
  simp-implicitDefEqProofs[Mfn.cs]
end
section
def yl(n:Nat)(acc:List UInt8):List UInt8:=if n=0 then acc else yl (n/10) (UInt8.ofNat (48+n%10)::acc)
termination_by n
theorem Fk(acc:List UInt8):yl 0 acc=acc:=by rw[yl,if_pos rfl]
theorem Fu{n:Nat}(h:¬n=0)(acc:List UInt8):yl n acc=yl (n/10) (UInt8.ofNat (48+n%10)::acc):=by rw[yl,if_neg h]
def jt(n:Nat):List UInt8:=if n=0 then[109,48] else 109::yl n []
structure DG where (n:Nat) (acc:List UInt8)
variable (G:az)
theorem uM(n:Nat)(hn:n<=1152921504606846976):VF Tryz.prog G dC [.p (.int .i64 n)] (.p (.str (jt n))):=by
 refine AC.go tv ?_
 by_cases h0:n=0
 ·subst h0
  simp-implicitDefEqProofs[ij,jt]
 have h1:¬(n:Int)<=0:=by omega
 simp-implicitDefEqProofs[ij,h1,h0]
 refine aw (λd:DG=>aB 20 [(0,.p (.int .i64 d.n)),(3,.p (.str d.acc))]) (λ_=>[]) (λd=>yl d.n d.acc=yl n []/\d.acc.length+d.n<=n) (λd=>d.n) ⟨n,[]⟩ (by simp) ?_ ?_
 ·exact aD rfl (by simp[below])
 ·rintro⟨m,acc⟩ ⟨i1,i2⟩
  simp only at i1 i2
  simp-implicitDefEqProofs[]
  refine aR (λh2=>?_) (λh2=>?_)
  ·simp at h2
   have hm0:¬m=0:=by omega
   have e10:(m:Int).tmod 10=(m:Int)%10:=Int.tmod_eq_emod_of_nonneg (by omega)
   have ew:IntKind.i64.wrap (48+(m:Int)%10)=48+(m:Int)%10:=aa (by omega) (by omega)
   have e8:IntKind.u8.wrap (48+(m:Int)%10)=48+(m:Int)%10:=by have:=rM (48+(m:Int)%10);rw[u8] at this;rw[this];omega
   have et:(48+(m:Int)%10).toNat=48+m%10:=by omega
   have ed:IntKind.i64.wrap ((m:Int)/10)=((m/10:Nat):Int):=iw (by omega) (by omega)
   simp-implicitDefEqProofs[e10,ew,e8,et,ed]
   refine⟨by omega,⟨m/10,UInt8.ofNat (48+m%10)::acc⟩,⟨?_,?_⟩,by simp only;omega,aD rfl ?_⟩
   ·rw[←i1];exact(Fu hm0 acc).symm
   ·simp only[List.length_cons];omega
   ·simp[below]
  ·simp at h2
   have:m=0:=by omega
   subst this
   rw[Fk] at i1
   have hl:1+(yl n []).length<=9223372036854775807:=by rw[←i1];omega
   simp-implicitDefEqProofs[jt,h0,i1]
   exact hl
def rk(k n:Nat):List Int:=(List.range n).map λj=>((k+j:Nat):Int)
def rB(k n:Nat):List (List UInt8):=(List.range n).map λj=>jt (k+j)
theorem Dn{h:List AO}{id:Nat}{xs:List Int}{k:Nat}(hr:h[id]?=some (gM xs))(hk:k+xs.length<=1152921504606846976):
 AC Tryz.prog G ff [.sl id 1 0 xs.length,.p (.int .i64 k)] h λx h'=>x= .ret (.p (.int .i64 ((k+xs.length:Nat):Int)))/\h'=h.set id (gM (rk k xs.length)):=by
 refine AC.enterB fa λhb=>AC.go fa ?_
 have hid:id<h.length:=(List.getElem?_eq_some_iff.1 hr).1
 have hbs:∀ys:List Int,HB (h.set id (gM ys)):=λys=>hb.set_row λe he=>by
  obtain⟨x,_,rfl⟩:=List.mem_map.1 he
  simp
 simp-implicitDefEqProofs[eX]
 have e0:rk k 0++xs.drop 0=xs:=by simp[rk]
 refine aw (λa:Nat × List Int=>aB 19 [(0,.sl id 1 0 xs.length),(1,.p (.int .i64 ((k+a.1:Nat):Int))),(5,.p (.int .i64 a.1))]) (λa=>h.set id (gM a.2)) (λa=>a.1<=xs.length/\a.2=rk k a.1++xs.drop a.1) (λa=>xs.length-a.1) (0,xs) ⟨by simp,e0.symm⟩ ?_ ?_
 ·have e:h.set id (gM xs)=h:=by
   obtain⟨hi,e⟩:=List.getElem?_eq_some_iff.1 hr
   rw[←e];simp
  rw[e]
  exact mo (by simp) hb (by simp-implicitDefEqProofs[below,hid])
 ·rintro⟨i,ys⟩ ⟨hi,hy⟩
  simp only at hi hy
  simp-implicitDefEqProofs[]
  refine aR (λh1=>?_) (λh1=>?_)
  ·simp at h1
   have hyl:ys.length=xs.length:=by rw[hy];simp[rk];omega
   have hys:ys.set i ((k+i:Nat):Int)=rk k (i+1)++xs.drop (i+1):=by
    rw[hy,List.set_append_right _ _ (by simp[rk])]
    simp only[rk,List.length_map,List.length_range,Nat.sub_self]
    rw[List.drop_eq_getElem_cons h1,List.set_cons_zero,List.range_succ]
    simp
   have hg:(List.map (λn=>[AV.p (.int .i64 n)]) ys)[i]?=some [AV.p (.int .i64 (ys[i]'(by omega)))]:=by rw[List.getElem?_map,List.getElem?_eq_getElem (by omega)];rfl
   have hw1:IntKind.i64.wrap ((k:Int)+(i:Int)+1)=(k:Int)+(i:Int)+1:=aa (by omega) (by omega)
   simp-implicitDefEqProofs[gM,hid,h1,hg,hw1]
   refine⟨i+1,ys.set i ((k+i:Nat):Int),⟨h1,hys⟩,by omega,?_⟩
   have e:(List.map (λn=>[AV.p (PV.int IntKind.i64 n)]) ys).set i [AV.p (PV.int IntKind.i64 (↑k+ ↑i))]=List.map (λn=>[AV.p (PV.int IntKind.i64 n)]) (ys.set i ((k+i:Nat):Int)):=by
    rw[List.map_set];simp
   rw[e]
   refine mo ?_ (hbs (ys.set i ((k+i:Nat):Int))) ?_
   ·simp
   simp[w1 (i:=i) (by omega),below,hid]
   omega
  ·simp at h1
   have:i=xs.length:=by omega
   subst this
   simp[hy]
end
section
variable (G:az)
theorem AA(k i:Nat)(hn:k+i<=1152921504606846976):VF Tryz.prog G dC [.p (.int .i64 ((k:Int)+(i:Int)))] (.p (.str (jt (k+i)))):=by
 have:=uM G (k+i) hn
 rwa[Int.natCast_add] at this
theorem yH{h:List AO}{id:Nat}{xs:List (List UInt8)}{k:Nat}(hr:h[id]?=some (fR xs))(hk:k+xs.length<=1152921504606846976):
 AC Tryz.prog G dq [.sl id 1 0 xs.length,.p (.int .i64 k)] h λx h'=>x= .ret (.p (.int .i64 ((k+xs.length:Nat):Int)))/\h'=h.set id (fR (rB k xs.length)):=by
 refine AC.enterB dr λhb=>AC.go dr ?_
 have hid:id<h.length:=(List.getElem?_eq_some_iff.1 hr).1
 have hbs:∀ys:List (List UInt8),HB (h.set id (fR ys)):=λys=>hb.set_row λe he=>by
  obtain⟨x,_,rfl⟩:=List.mem_map.1 he
  simp
 simp-implicitDefEqProofs[dz]
 have e0:rB k 0++xs.drop 0=xs:=by simp[rB]
 refine aw (λa:Nat × List (List UInt8)=>aB 20 [(0,.sl id 1 0 xs.length),(1,.p (.int .i64 ((k+a.1:Nat):Int))),(5,.p (.int .i64 a.1))]) (λa=>h.set id (fR a.2)) (λa=>a.1<=xs.length/\a.2=rB k a.1++xs.drop a.1) (λa=>xs.length-a.1) (0,xs) ⟨by simp,e0.symm⟩ ?_ ?_
 ·have e:h.set id (fR xs)=h:=by
   obtain⟨hi,e⟩:=List.getElem?_eq_some_iff.1 hr
   rw[←e];simp
  rw[e]
  exact mo (by simp) hb (by simp-implicitDefEqProofs[below,hid])
 ·rintro⟨i,ys⟩ ⟨hi,hy⟩
  simp only at hi hy
  simp-implicitDefEqProofs[]
  refine aR (λh1=>?_) (λh1=>?_)
  ·simp at h1
   have hyl:ys.length=xs.length:=by rw[hy];simp[rB];omega
   have hys:ys.set i (jt (k+i))=rB k (i+1)++xs.drop (i+1):=by
    rw[hy,List.set_append_right _ _ (by simp[rB])]
    simp only[rB,List.length_map,List.length_range,Nat.sub_self]
    rw[List.drop_eq_getElem_cons h1,List.set_cons_zero,List.range_succ]
    simp
   have hg:(List.map (λn=>[AV.p (.str n)]) ys)[i]?=some [AV.p (.str (ys[i]'(by omega)))]:=by rw[List.getElem?_map,List.getElem?_eq_getElem (by omega)];rfl
   have hw1:IntKind.i64.wrap ((k:Int)+(i:Int)+1)=(k:Int)+(i:Int)+1:=aa (by omega) (by omega)
   simp-implicitDefEqProofs[]
   refine(AA G k i (by omega)).use ?_
   simp-implicitDefEqProofs[fR,hid,h1,hg,hw1]
   refine⟨i+1,ys.set i (jt (k+i)),⟨h1,hys⟩,by omega,?_⟩
   have e:(List.map (λn=>[AV.p (PV.str n)]) ys).set i [AV.p (PV.str (jt (k+i)))]=List.map (λn=>[AV.p (PV.str n)]) (ys.set i (jt (k+i))):=by
    rw[List.map_set]
   rw[e]
   refine mo ?_ (hbs (ys.set i (jt (k+i)))) ?_
   ·simp
   simp[w1 (i:=i) (by omega),below,hid]
   omega
  ·simp at h1
   have:i=xs.length:=by omega
   subst this
   simp[hy]
def Obj.ov(o:Obj)(a b c:Nat):List AV:=[.p (.str o.name),.p (.int .i64 o.params),.p (.int .i64 o.slots),.sl a 1 0 o.code.length,.sl b 1 0 o.calls.length,.sl c 1 0 o.names.length]
end
section
def tF(acc:List (List UInt8))(w:List UInt8):List (List UInt8):=if acc.contains w then acc else acc++[w]
def mf(l:List (List UInt8))(i:Nat):List (List UInt8):=(l.take i).foldl tF []
def tw(l:List (List UInt8)):List (List UInt8):=l.foldl tF []
theorem iC(l:List (List UInt8)):mf l 0=[]:=rfl
theorem rS{l:List (List UInt8)}{i:Nat}(h:i<l.length):mf l (i+1)=tF (mf l i) l[i]:=by
 rw[mf,aq h,List.foldl_append];rfl
theorem vH{l:List (List UInt8)}{i:Nat}(h:l.length<=i):mf l i=tw l:=by rw[mf,List.take_of_length_le h];rfl
theorem GQ(acc:List (List UInt8))(w:List UInt8):(tF acc w).length<=acc.length+1:=by
 unfold tF;split<;>simp
theorem pX{l:List (List UInt8)}:∀{i:Nat},i<=l.length->(mf l i).length<=i
 |0,_=>by simp[iC]
 |i+1,h=>by
  rw[rS h]
  have h1:=GQ (mf l i) l[i]
  have h2:=pX (l:=l) (i:=i) (by omega)
  omega
theorem Bq(l:List (List UInt8)):(tw l).length<=l.length:=by
 have:=pX (l:=l) (Nat.le_refl _)
 rwa[vH (Nat.le_refl _)] at this
variable (G:az)
theorem In(L:List (List UInt8))(s:List UInt8)(hb:L.length<=1048576):VF Tryz.prog G lg [.p (aQ L),.p (.str s)] (.p (.bool (L.contains s))):=by
 refine AC.go zS ?_
 have hsl:aQ L= .lst 1 (L.map λw=>[.str w]):=rfl
 simp-implicitDefEqProofs[pZ,hsl]
 refine aw (λi:Nat=>aB 18 [(0,.p (aQ L)),(1,.p (.str s)),(5,.p (.int .i64 i))]) (λ_=>[]) (λi=>i<=L.length/\∀w∈L.take i,w≠s) (λi=>L.length-i) 0 (by simp) ?_ ?_
 ·exact aD rfl (by simp[below,aQ])
 ·intro i ⟨hi,hn⟩
  simp-implicitDefEqProofs[hsl]
  refine aR (λh1=>?_) (λh1=>?_)
  ·simp at h1
   have hg:=List.getElem?_eq_getElem h1
   by_cases he:L[i]=s
   ·have hf:L.contains s=true:=by rw[List.contains_iff_mem,←he];exact List.getElem_mem h1
    have hf':s∈L:=by rw[←he];exact List.getElem_mem h1
    simp-implicitDefEqProofs[hg,hf',he]
   ·simp-implicitDefEqProofs[hg,he]
    refine⟨i+1,⟨h1,λp hp=>?_⟩,by omega,aD rfl ?_⟩
    ·rw[aq h1] at hp
     rcases List.mem_append.1 hp with hp|hp
     ·exact hn p hp
     ·rw[List.mem_singleton.1 hp];exact he
    ·simp[below,aQ,w1 (i:=i) (by omega)]
  ·simp at h1
   rw[List.take_of_length_le h1] at hn
   have hf:¬s∈L:=λhm=>absurd rfl (hn s hm)
   simp-implicitDefEqProofs[hf]
def kA(o:Obj):List (List UInt8):=if bC o then tw o.names else[]
theorem gD(o:Obj)(ho:ObjSm o)(hz:szO o<=1048576):VF Tryz.prog G bt [.agg (o.cs.map .p)] (.p (aQ (kA o))):=by
 have hsz:szO o=o.name.length+o.code.length+o.calls.length+szW o.names:=rfl
 have hwz:szW o.names=o.names.length+(o.names.map List.length).sum:=rfl
 have key:AC Tryz.prog G bt [.agg (o.cs.map .p)] [] λx h=>∃id,x= .ret (.sl id 1 0 (kA o).length)/\h[id]?=some (fR (kA o)):=by
  refine AC.go oI ?_
  have hsl:∀l,aQ l= .lst 1 (l.map λw=>[.str w]):=λ_=>rfl
  have hso:∀l,fR l= .row 1 (l.map λw=>[.p (.str w)]):=λ_=>rfl
  simp-implicitDefEqProofs[iD]
  refine aw (λi:Nat=>aB 34 [(1,.ptr 0 6 0 0),(3,.sl 1 1 0 (mf o.names i).length),(4,.p (.int .i64 i))]) (λi=>[.row 6 [o.cs.map .p],fR (mf o.names i)])
   (λi=>i<=o.names.length/\(0<i->bC o=true)) (λi=>o.names.length-i) 0 (by simp) ?_ ?_
  ·exact bh (by simp) (by simp[okO,iC,hso]) (by simp[below,iC])
  ·intro i ⟨hi,hob⟩
   by_cases h1:i<o.names.length
   ·have hg:=List.getElem?_eq_getElem h1
    have hv:=og G o ho hz
    rw[Obj.cs,hsl] at hv
    have hul:=pX (l:=o.names) (i:=i) (Nat.le_of_lt h1)
    simp-implicitDefEqProofs[Obj.cs,hsl,h1]
    refine hv.use ?_
    by_cases hk:bC o=true
    case neg=>
     have hi0:i=0:=by
      rcases Nat.eq_zero_or_pos i with e|e
      ·exact e
      ·exact absurd (hob e) hk
     subst hi0
     have hcl:kA o=[]:=by rw[kA,if_neg hk]
     simp-implicitDefEqProofs[hk,hcl,iC]
    have hsu:=rS h1
    simp-implicitDefEqProofs[hk,hg]
    refine(VF.lend (In G (mf o.names i) o.names[i] (by omega)) (.one (nE rfl) (.keep (by simp[below]) .nil)) rfl).mono ?_
    rintro r h ⟨rfl,rfl⟩
    by_cases hm:o.names[i]∈mf o.names i
    ·rw[tF,if_pos (by simpa using hm)] at hsu
     simp-implicitDefEqProofs[ag,hm]
     refine⟨i+1,h1,by omega,?_⟩
     rw[hsu]
     exact bh (by simp) (by simp[okO,hso]) (by simp[below,w1 (i:=i) (by omega)])
    ·rw[tF,if_neg (by simpa using hm)] at hsu
     simp-implicitDefEqProofs[ag,hm,hg,hso]
     refine⟨by omega,i+1,h1,by omega,?_⟩
     rw[hsu]
     refine al [0,3] rfl (by decide) (af rfl (by simp) (af (by simp[hso,List.take_of_length_le]) (by intro x hx;simp at hx;rcases hx with⟨a,_,rfl⟩|rfl<;>simp[ab,below]) aj)) ?_
     simp[below,ren,w1 (i:=i) (by omega)]
   ·have hiN:¬(i:Int)<(o.names.length:Int):=by omega
    have hcl:kA o=mf o.names i:=by
     rcases Nat.eq_zero_or_pos i with e|e
     ·subst e
      have hn:o.names=[]:=List.eq_nil_of_length_eq_zero (by omega)
      rw[kA,hn,iC];split<;>rfl
     ·rw[kA,if_pos (hob e),vH (by omega)]
    simp-implicitDefEqProofs[Obj.cs,hsl,h1,hiN,hcl]
 refine key.freezeR (λt v h ⟨id,e,_⟩=>by cases e) λv h ⟨id,e1,e2⟩=>?_
 cases e1
 exact .one (nE e2) .nil
theorem Hs(l:List (List UInt8))(hb:l.length<=1048576):AC Tryz.prog G gV [.p (aQ l)] [] λx h=>if l=[] then x= .ret .nils else∃id,x= .ret (.sl id 1 0 (tw l).length)/\h[id]?=some (fR (tw l)):=by
 refine AC.go BT ?_
 have hsl:∀l,aQ l= .lst 1 (l.map λw=>[.str w]):=λ_=>rfl
 have hso:∀l,fR l= .row 1 (l.map λw=>[.p (.str w)]):=λ_=>rfl
 simp-implicitDefEqProofs[tf,hsl]
 refine aw (λi:Nat=>aB 22 [(3,if i=0 then .nils else .sl 0 1 0 (mf l i).length),(6,.p (aQ l)),(7,.p (.int .i64 l.length)),(8,.p (.int .i64 i))]) (λi=>if i=0 then[] else[fR (mf l i)])
  (λi=>i<=l.length) (λi=>l.length-i) 0 (by simp) ?_ ?_
 ·rw[if_pos rfl,if_pos rfl]
  exact aD rfl (by simp[below,hsl])
 ·intro i hi
  by_cases h1:i<l.length
  ·have hg:=List.getElem?_eq_getElem h1
   have hne:l≠[]:=by rintro rfl;simp at h1
   have hsu:=rS h1
   have hul:=pX (l:=l) (i:=i) (Nat.le_of_lt h1)
   have hi1:¬i+1=0:=by omega
   by_cases h0:i=0
   ·subst h0
    have hu1:mf l (0+1)=[l[0]]:=by rw[hsu,iC];rfl
    simp-implicitDefEqProofs[hsl,h1,hg]
    refine(VF.lend (oY G [] l[0] (by simp)) (.one (View.nils 1) (.keep (by simp[below]) .nil)) rfl).mono ?_
    rintro r h ⟨rfl,rfl⟩
    simp-implicitDefEqProofs[ag]
    refine⟨0+1,h1,by omega,?_⟩
    rw[if_neg hi1,if_neg hi1,hu1]
    rw[show IntKind.i64.wrap 1=((0+1:Nat):Int) from rfl]
    refine al [1] rfl (by decide) (af rfl (by simp[ab,below]) aj) ?_
    simp[below,ren,hsl]
   ·rw[if_neg h0,if_neg h0]
    simp-implicitDefEqProofs[hsl,h1,hg]
    refine(VF.lend (oY G (mf l i) l[i] (by omega)) (.one (nE rfl) (.keep (by simp[below]) .nil)) rfl).mono ?_
    rintro r h ⟨rfl,rfl⟩
    by_cases hm:l[i]∈mf l i
    ·rw[tF,if_pos (by simpa using hm)] at hsu
     simp-implicitDefEqProofs[ag,hm]
     refine⟨i+1,h1,by omega,?_⟩
     rw[if_neg hi1,if_neg hi1,hsu]
     exact bh (by simp) (by simp[okO,hso]) (by simp[below,hsl,w1 (i:=i) (by omega)])
    ·rw[tF,if_neg (by simpa using hm)] at hsu
     simp-implicitDefEqProofs[ag,hm,hso]
     refine⟨by omega,i+1,h1,by omega,?_⟩
     rw[if_neg hi1,if_neg hi1,hsu]
     refine al [2] rfl (by decide) (af (by simp[hso,List.take_of_length_le]) (by intro x hx;simp at hx;rcases hx with⟨a,_,rfl⟩|rfl<;>simp[ab,below]) aj) ?_
     simp[below,ren,hsl,w1 (i:=i) (by omega)]
  ·have hiN:¬(i:Int)<(l.length:Int):=by omega
   have hall:=vH (l:=l) (i:=i) (by omega)
   by_cases h0:i=0
   ·subst h0
    have hn:l=[]:=List.eq_nil_of_length_eq_zero (by omega)
    simp-implicitDefEqProofs[hsl,h1,hiN,hn]
   ·have hn:l≠[]:=by rintro rfl;simp at hi;omega
    rw[if_neg h0,if_neg h0]
    simp-implicitDefEqProofs[hsl,h1,hiN,hn,hall]
theorem zj(l:List (List UInt8)):∀x∈l.map (λw=>[AV.p (.str w)]),ab 0 x:=by
 intro x hx;obtain⟨m,_,rfl⟩:=List.mem_map.1 hx;simp[ab,below]
theorem Eu(l:List (List UInt8)):iL (fR l)=true:=by simp[iL,fR,jD,nN]
theorem Dx(n:Nat)(l:List (List UInt8)):aX n (fR l)=fR l:=by
 simp only[aX,fR,List.map_map];rfl
theorem IT{l:List (List UInt8)}(hb:l.length<=1048576)(hn:l≠[]):AC Tryz.prog G gV [.p (aQ l)] [] λx h=>x= .ret (.sl 0 1 0 (tw l).length)/\h=[fR (tw l)]:=by
 refine(Hs G l hb).gc (λt v h e=>?_) λv h e=>?_
 ·rw[if_neg hn] at e;obtain⟨_,e,_⟩:=e;cases e
 ·rw[if_neg hn] at e
  obtain⟨id,e1,e2⟩:=e
  cases e1
  exact⟨.sl 0 1 0 (tw l).length,[fR (tw l)],⟨[id],by simp,by simp,by simp,by simp[below],by simp[ren],af e2 (zj _) aj⟩,rfl,rfl⟩
variable (hG:G bW=some pvForms) (hK:G ig=some gB)
include hG hK
end
section
inductive Ld {α:Type} (ix:α->Option Nat) (cs:Nat->List α) (k:Nat):Nat->Prop
 |refl:Ld ix cs k k
 |step {j m:Nat} {w:α}:Ld ix cs k j->w∈cs j->ix w=some m->Ld ix cs k m
def Lp{α:Type}(ix:α->Option Nat)(cs:Nat->List α)(k m:Nat):Prop:=∃(j:Nat) (w:α),Ld ix cs k j/\w∈cs j/\ix w=some m
def Ls{α:Type}(ix:α->Option Nat)(cs:Nat->List α)(k:Nat):Prop:=∃(j:Nat) (w:α),Ld ix cs k j/\w∈cs j/\ix w=none
section
variable {α:Type} {ix:α->Option Nat} {cs:Nat->List α}
theorem Ld.trans{a b c:Nat}(h1:Ld ix cs a b)(h2:Ld ix cs b c):Ld ix cs a c:=by
 induction h2 with
 |refl=>exact h1
 |step _ hw hm ih=>exact .step ih hw hm
theorem Ld.first{k j:Nat}{w:α}(hw:w∈cs k)(hj:ix w=some j){x:Nat}(h:Ld ix cs j x):Ld ix cs k x:=(Ld.step .refl hw hj).trans h
theorem Ld.lp{k j:Nat}{w:α}{a:Nat}(h:Ld ix cs a k)(hw:w∈cs k)(hj:ix w=some j){x:Nat}(h2:Ld ix cs j x):Lp ix cs a x:=by
 cases h2 with
 |refl=>exact⟨k,w,h,hw,hj⟩
 |step h3 hw3 hm=>exact⟨_,_,(Ld.step h hw hj).trans h3,hw3,hm⟩
theorem Ls.up{k j:Nat}{w:α}(hw:w∈cs k)(hj:ix w=some j)(h:Ls ix cs j):Ls ix cs k:=by
 obtain⟨a,v,h1,h2,h3⟩:=h
 exact⟨a,v,.first hw hj h1,h2,h3⟩
theorem Lp.ld{a b c:Nat}(h:Lp ix cs a b)(h2:Ld ix cs b c):Lp ix cs a c:=by
 obtain⟨j,w,h1,hw,hm⟩:=h
 exact h1.lp hw hm h2
theorem Ld.pl{a b c:Nat}(h2:Ld ix cs a b)(h:Lp ix cs b c):Lp ix cs a c:=by
 obtain⟨j,w,h1,hw,hm⟩:=h
 exact⟨j,w,h2.trans h1,hw,hm⟩
structure Lk where (mark:Nat->Nat) (out:List Nat) (lost round:Bool)
def kX(f:Nat->Nat)(k v:Nat):Nat->Nat:=λx=>if x=k then v else f x
def cb(ix:α->Option Nat)(cs:Nat->List α):Nat->α->Lk->Lk
 |0,_,s=>s
 |f+1,w,s=>match ix w with
  |none=>{s with lost:=true}
  |some k=>if s.mark k=1 then{s with round:=true} else if s.mark k=2 then s else
    let t:=(cs k).foldl (λs w=>cb ix cs f w s) {s with mark:=kX s.mark k 1}
    {t with mark:=kX t.mark k 2,out:=t.out++[k]}
def dg(ix:α->Option Nat)(cs:Nat->List α)(f:Nat)(ws:List α)(s:Lk):Lk:=ws.foldl (λs w=>cb ix cs f w s) s
theorem oN(f:Nat)(w:α)(ws:List α)(s:Lk):dg ix cs f (w::ws) s=dg ix cs f ws (cb ix cs f w s):=rfl
theorem Dg(f:Nat)(w:α)(ws:List α)(s:Lk):dg ix cs f (ws++[w]) s=cb ix cs f w (dg ix cs f ws s):=by
 simp[dg,List.foldl_append]
theorem nw{f:Nat}{w:α}{s:Lk}(h:ix w=none):cb ix cs (f+1) w s={s with lost:=true}:=by rw[cb,h]
theorem pz{f:Nat}{w:α}{s:Lk}{k:Nat}(h:ix w=some k)(h1:s.mark k=1):cb ix cs (f+1) w s={s with round:=true}:=by rw[cb,h];simp only;rw[if_pos h1]
theorem rm{f:Nat}{w:α}{s:Lk}{k:Nat}(h:ix w=some k)(h1:s.mark k=2):cb ix cs (f+1) w s=s:=by rw[cb,h];simp only;rw[if_neg (by omega),if_pos h1]
def newS(s:Lk)(k:Nat):Lk:={s with mark:=kX s.mark k 1}
def ma(t:Lk)(k:Nat):Lk:={t with mark:=kX t.mark k 2,out:=t.out++[k]}
theorem ro{f:Nat}{w:α}{s:Lk}{k:Nat}(h:ix w=some k)(h1:s.mark k≠1)(h2:s.mark k≠2):cb ix cs (f+1) w s=ma (dg ix cs f (cs k) (newS s k)) k:=by rw[cb,h];simp only;rw[if_neg h1,if_neg h2];rfl
def dO(n:Nat)(s:Lk):Nat:=(List.range n).countP λx=>decide (s.mark x=0)
theorem gH{n:Nat}{s t:Lk}(h:∀x,s.mark x≠0->t.mark x≠0):dO n t<=dO n s:=by
 refine List.countP_mono_left λx _ hx=>?_
 rw[decide_eq_true_iff] at hx⊢
 exact Classical.byContradiction λh2=>h x h2 hx
theorem rZ:∀{l:List Nat} {p q:Nat->Bool} {k:Nat},k∈l->(∀x∈l,p x=true->q x=true)->p k=false->q k=true->l.countP p<l.countP q
 |a::r,p,q,k,hk,h,h1,h2=>by
  have hr:r.countP p<=r.countP q:=List.countP_mono_left λx hx=>h x (by simp[hx])
  rw[List.countP_cons,List.countP_cons]
  rcases List.mem_cons.1 hk with e|e
  ·subst e
   rw[h1,h2];simp;omega
  ·have:=rZ e (λx hx=>h x (by simp[hx])) h1 h2
   have h3:=h a (by simp)
   cases e1:p a with
   |false=>simp;omega
   |true=>rw[h3 e1];simp;omega
theorem tZ{n:Nat}{s:Lk}{k:Nat}(hk:k<n)(h:s.mark k=0):dO n (newS s k)<dO n s:=by
 refine rZ (k:=k) (List.mem_range.2 hk) (λx _ hx=>?_) (by simp[newS,kX]) (by simp[h])
 simp only[newS,kX,decide_eq_true_iff] at hx⊢
 split at hx
 ·cases hx
 ·simpa using hx
def Dd(ix:α->Option Nat)(cs:Nat->List α)(out:List Nat):Prop:=∀(i x:Nat),out[i]?=some x->∀w∈cs x,∃j,j<i/\∃y,ix w=some y/\out[j]?=some y
def sM(ix:α->Option Nat)(cs:Nat->List α)(s:Lk):Prop:=(∀x,s.mark x=2↔x∈s.out)/\Dd ix cs s.out/\s.out.Nodup
structure LI (ix:α->Option Nat) (cs:Nat->List α) (R:Nat->Prop) (L:Prop) (s t:Lk):Prop where
 old:∀x,s.mark x≠0->t.mark x=s.mark x
 new:∀x,s.mark x=0->t.mark x≠0->t.mark x=2/\R x/\∀v∈cs x,(ix v=none->t.lost=true)/\∀j,ix v=some j->t.mark j≠0
 lost:t.lost=true->s.lost=true\/L
 lostS:s.lost=true->t.lost=true
 roundS:s.round=true->t.round=true
 round:t.round=true->s.round=true\/∃y,R y/\(s.mark y=1\/Lp ix cs y y)
 good:t.lost=false->t.round=false->sM ix cs s->sM ix cs t
theorem LI.rfl'{R:Nat->Prop}{L:Prop}(s:Lk):LI ix cs R L s s:=⟨λ_ _=>rfl,λ_ h1 h2=>absurd h1 h2,.inl,id,id,.inl,λ_ _ h=>h⟩
theorem LI.trans{R:Nat->Prop}{L:Prop}{s t u:Lk}(h1:LI ix cs R L s t)(h2:LI ix cs R L t u):LI ix cs R L s u:=by
 have hk:∀x,t.mark x≠0->u.mark x≠0:=λx h=>by rw[h2.old x h];exact h
 refine⟨λx h=>?_,λx hs hu=>?_,λh=>?_,λh=>h2.lostS (h1.lostS h),λh=>h2.roundS (h1.roundS h),λh=>?_,λhl hr hg=>?_⟩
 ·have:=h1.old x h
  rw[h2.old x (by rw[this];exact h),this]
 ·by_cases ht:t.mark x=0
  ·exact h2.new x ht hu
  ·obtain⟨a,b,c⟩:=h1.new x hs ht
   refine⟨by rw[h2.old x ht];exact a,b,λv hv=>⟨λe=>h2.lostS ((c v hv).1 e),λj e=>hk j ((c v hv).2 j e)⟩⟩
 ·rcases h2.lost h with g|g
  ·exact h1.lost g
  ·exact .inr g
 ·rcases h2.round h with g|⟨y,g1,g2⟩
  ·exact h1.round g
  ·refine .inr ⟨y,g1,?_⟩
   rcases g2 with g2|g2
   ·by_cases hy:s.mark y=0
    ·have:=(h1.new y hy (by omega)).1;omega
    ·exact .inl (by rw[←h1.old y hy];exact g2)
   ·exact .inr g2
 ·have hl1:t.lost=false:=by
   cases e:t.lost with
   |false=>rfl
   |true=>rw[h2.lostS e] at hl;cases hl
  have hr1:t.round=false:=by
   cases e:t.round with
   |false=>rfl
   |true=>rw[h2.roundS e] at hr;cases hr
  exact h2.good hl hr (h1.good hl1 hr1 hg)
theorem LI.mono{R R':Nat->Prop}{L L':Prop}{s t:Lk}(h:LI ix cs R L s t)(hR:∀x,R x->R' x)(hL:L->L'):LI ix cs R' L' s t:=
 ⟨h.old,λx h1 h2=>⟨(h.new x h1 h2).1,hR x (h.new x h1 h2).2.1,(h.new x h1 h2).2.2⟩,λe=>(h.lost e).imp id hL,h.lostS,h.roundS,λe=>(h.round e).imp id λ⟨y,a,b⟩=>⟨y,hR y a,b⟩,h.good⟩
def RW(ix:α->Option Nat)(cs:Nat->List α)(w:α)(x:Nat):Prop:=∃k,ix w=some k/\Ld ix cs k x
def LW(ix:α->Option Nat)(cs:Nat->List α)(w:α):Prop:=ix w=none\/∃k,ix w=some k/\Ls ix cs k
def CW(ix:α->Option Nat)(w:α)(t:Lk):Prop:=(ix w=none->t.lost=true)/\∀k,ix w=some k->t.mark k≠0/\(t.round=false->t.mark k=2)
theorem CW.up{R:Nat->Prop}{L:Prop}{w:α}{s t:Lk}(h:CW ix w s)(h1:LI ix cs R L s t):CW ix w t:=by
 refine⟨λe=>h1.lostS (h.1 e),λk e=>?_⟩
 obtain⟨a,b⟩:=h.2 k e
 rw[h1.old k a]
 refine⟨a,λhr=>b ?_⟩
 cases e:s.round with
 |false=>rfl
 |true=>rw[h1.roundS e] at hr;cases hr
theorem LI.le2{R:Nat->Prop}{L:Prop}{s t:Lk}(h1:LI ix cs R L s t)(h:∀x,s.mark x<=2)(x:Nat):t.mark x<=2:=by
 by_cases hs:s.mark x=0
 ·by_cases ht:t.mark x=0
  ·omega
  ·rw[(h1.new x hs ht).1];omega
 ·rw[h1.old x hs];exact h x
theorem py{f:Nat}{n:Nat}(hf:∀w s,dO n s<f->(∀x,s.mark x<=2)->LI ix cs (RW ix cs w) (LW ix cs w) s (cb ix cs f w s)/\CW ix w (cb ix cs f w s)):
 ∀(ws:List α) (s:Lk),dO n s<f->(∀x,s.mark x<=2)->LI ix cs (λx=>∃w∈ws,RW ix cs w x) (∃w∈ws,LW ix cs w) s (dg ix cs f ws s)/\∀w∈ws,CW ix w (dg ix cs f ws s)
 |[],s,_,_=>⟨.rfl' s,λw hw=>by cases hw⟩
 |w::ws,s,hc,hm=>by
  obtain⟨h1,h2⟩:=hf w s hc hm
  have hc2:dO n (cb ix cs f w s)<f:=Nat.lt_of_le_of_lt (gH λx hx=>by rw[h1.old x hx];exact hx) hc
  obtain⟨g1,g2⟩:=py hf ws (cb ix cs f w s) hc2 (h1.le2 hm)
  rw[oN]
  refine⟨(h1.mono (λx hx=>⟨w,by simp,hx⟩) λhx=>⟨w,by simp,hx⟩).trans (g1.mono (λx ⟨v,hv,hx⟩=>⟨v,by simp[hv],hx⟩) λ⟨v,hv,hx⟩=>⟨v,by simp[hv],hx⟩),λv hv=>?_⟩
  rcases List.mem_cons.1 hv with e|e
  ·subst e;exact h2.up g1
  ·exact g2 v e
theorem Ey{out:List Nat}{k:Nat}(h:Dd ix cs out)(hk:∀w∈cs k,∃y,ix w=some y/\y∈out):Dd ix cs (out++[k]):=by
 intro i x hi w hw
 rcases Nat.lt_or_ge i out.length with h1|h1
 ·rw[List.getElem?_append_left h1] at hi
  obtain⟨j,h2,y,h3,h4⟩:=h i x hi w hw
  exact⟨j,h2,y,h3,by rw[List.getElem?_append_left (by omega)];exact h4⟩
 ·rw[List.getElem?_append_right h1] at hi
  have hx:i-out.length=0/\k=x:=by
   rw[List.getElem?_singleton] at hi
   split at hi
   ·rename_i e;exact⟨e,by cases hi;rfl⟩
   ·cases hi
  obtain⟨h2,rfl⟩:=hx
  obtain⟨y,h3,h4⟩:=hk w hw
  obtain⟨j,h5,h6⟩:=List.getElem_of_mem h4
  exact⟨j,by omega,y,h3,by rw[List.getElem?_append_left h5,List.getElem?_eq_getElem h5,h6]⟩
theorem pJ{n:Nat}(hn:∀w k,ix w=some k->k<n):∀(f:Nat) (w:α) (s:Lk),dO n s<f->(∀x,s.mark x<=2)->LI ix cs (RW ix cs w) (LW ix cs w) s (cb ix cs f w s)/\CW ix w (cb ix cs f w s):=by
 intro f
 induction f with
 |zero=>intro w s h;omega
 |succ f ih=>
  intro w s hc hm
  cases hk:ix w with
  |none=>
   rw[nw hk]
   exact⟨⟨λ_ _=>rfl,λ_ h1 h2=>absurd h1 h2,λ_=> .inr (.inl hk),λ_=>rfl,id,.inl,λh=>by cases h⟩,λ_=>rfl,λk e=>by rw[hk] at e;cases e⟩
  |some k=>
   by_cases h1:s.mark k=1
   ·rw[pz hk h1]
    refine⟨⟨λ_ _=>rfl,λ_ h1 h2=>absurd h1 h2,.inl,id,λ_=>rfl,λ_=> .inr ⟨k,⟨k,hk,.refl⟩,.inl h1⟩,λ_ h=>by cases h⟩,(λe=>by rw[hk] at e;cases e),λj e=>?_⟩
    rw[hk] at e
    cases e
    exact⟨by show s.mark k≠0;omega,λh=>by cases h⟩
   by_cases h2:s.mark k=2
   ·rw[rm hk h2]
    exact⟨.rfl' s,(λe=>by rw[hk] at e;cases e),λj e=>by rw[hk] at e;cases e;exact⟨by omega,λ_=>h2⟩⟩
   rw[ro hk h1 h2]
   have h0:s.mark k=0:=by have:=hm k;omega
   have hc1:dO n (newS s k)<f:=by have:=tZ (hn w k hk) h0;omega
   have hm1:∀x,(newS s k).mark x<=2:=λx=>by
    simp only[newS,kX];split
    ·omega
    ·exact hm x
   have nk:(newS s k).mark k=1:=by simp[newS,kX]
   have no:∀x,x≠k->(newS s k).mark x=s.mark x:=λx hx=>by simp[newS,kX,hx]
   obtain⟨g1,g2⟩:=py ih (cs k) (newS s k) hc1 hm1
   generalize dg ix cs f (cs k) (newS s k)=t at g1 g2
   have tk:t.mark k=1:=by rw[g1.old k (by omega),nk]
   have ek:(ma t k).mark k=2:=by simp[ma,kX]
   have eo:∀x,x≠k->(ma t k).mark x=t.mark x:=λx hx=>by simp[ma,kX,hx]
   have e0:∀x,t.mark x≠0->(ma t k).mark x≠0:=λx hx=>by
    by_cases e:x=k
    ·subst e;omega
    ·rw[eo x e];exact hx
   have hR:∀x,(∃w∈cs k,RW ix cs w x)->RW ix cs w x:=λx ⟨v,hv,j,hj,hx⟩=>⟨k,hk,.first hv hj hx⟩
   have hcs:∀v∈cs k,(ix v=none->(ma t k).lost=true)/\∀j,ix v=some j->(ma t k).mark j≠0:=λv hv=>⟨λe=>(g2 v hv).1 e,λj e=>e0 j ((g2 v hv).2 j e).1⟩
   refine⟨⟨λx hx=>?_,λx hx h=>?_,λh=>?_,λh=>g1.lostS h,λh=>g1.roundS h,λh=>?_,λhl hr hg=>?_⟩,(λe=>by rw[hk] at e;cases e),λj e=>by rw[hk] at e;cases e;exact⟨by omega,λ_=>ek⟩⟩
   ·have hxk:x≠k:=λe=>hx (e▸h0)
    rw[eo x hxk,g1.old x (by rw[no x hxk];exact hx),no x hxk]
   ·by_cases hxk:x=k
    ·subst hxk
     exact⟨ek,⟨x,hk,.refl⟩,hcs⟩
    ·rw[eo x hxk] at h⊢
     obtain⟨a,b,c⟩:=g1.new x (by rw[no x hxk];exact hx) h
     exact⟨a,hR x b,λv hv=>⟨λe=>(c v hv).1 e,λj e=>e0 j ((c v hv).2 j e)⟩⟩
   ·rcases g1.lost h with g|⟨v,hv,g⟩
    ·exact .inl g
    ·refine .inr (.inr ⟨k,hk,?_⟩)
     rcases g with g|⟨j,hj,g⟩
     ·exact⟨k,v,.refl,hv,g⟩
     ·exact g.up hv hj
   ·rcases g1.round h with g|⟨y,⟨v,hv,j,hj,hy⟩,g⟩
    ·exact .inl g
    ·refine .inr ⟨y,⟨k,hk,.first hv hj hy⟩,?_⟩
     rcases g with g|g
     ·by_cases e:y=k
      ·subst e
       exact .inr (Ld.lp .refl hv hj hy)
      ·exact .inl (by rw[←no y e];exact g)
     ·exact .inr g
   ·obtain⟨q1,q2,q3⟩:=hg
    have hgn:sM ix cs (newS s k):=by
     refine⟨λx=>?_,q2,q3⟩
     by_cases e:x=k
     ·subst e
      rw[nk]
      have:=q1 x
      rw[h0] at this
      exact⟨λh=>by omega,λh=>by have:=this.2 h;omega⟩
     ·rw[no x e];exact q1 x
    obtain⟨p1,p2,p3⟩:=g1.good hl hr hgn
    have hko:k∉t.out:=λh=>by have:=(p1 k).2 h;omega
    refine⟨λx=>?_,Ey p2 λv hv=>?_,?_⟩
    ·show _↔x∈t.out++[k]
     by_cases e:x=k
     ·subst e;simp[ek]
     ·rw[eo x e,p1 x];simp[e]
    ·cases hv2:ix v with
     |none=>have h3:=(g2 v hv).1 hv2;rw[show t.lost=false from hl] at h3;cases h3
     |some y=>exact⟨y,rfl,(p1 y).1 (((g2 v hv).2 y hv2).2 hr)⟩
    ·show(t.out++[k]).Nodup
     rw[List.nodup_append]
     exact⟨p3,by simp,λa ha b hb e=>hko (by rw[List.mem_singleton] at hb;rw[←hb,←e];exact ha)⟩
def rb(ix:α->Option Nat)(cs:Nat->List α):Nat->Nat->List Nat->List Nat
 |0,_,out=>out
 |f+1,k,out=>if k∈out then out else(cs k).foldl (λout w=>match ix w with|none=>out|some j=>rb ix cs f j out) out++[k]
def rO(ix:α->Option Nat)(cs:Nat->List α)(f:Nat)(w:α)(out:List Nat):List Nat:=match ix w with|none=>out|some j=>rb ix cs f j out
def lM(ix:α->Option Nat)(cs:Nat->List α)(f:Nat)(ws:List α)(out:List Nat):List Nat:=ws.foldl (λout w=>rO ix cs f w out) out
theorem pi(f:Nat)(w:α)(ws:List α)(out:List Nat):lM ix cs f (w::ws) out=lM ix cs f ws (rO ix cs f w out):=rfl
theorem Cl(f:Nat)(w:α)(ws:List α)(out:List Nat):lM ix cs f (ws++[w]) out=rO ix cs f w (lM ix cs f ws out):=by
 simp[lM,List.foldl_append]
theorem tT{f k:Nat}{out:List Nat}(h:k∈out):rb ix cs f k out=out:=by
 cases f with
 |zero=>rfl
 |succ f=>rw[rb,if_pos h]
theorem nu{f k:Nat}{out:List Nat}(h:k∉out):rb ix cs (f+1) k out=lM ix cs f (cs k) out++[k]:=by rw[rb,if_neg h];rfl
theorem LI.back{R:Nat->Prop}{L:Prop}{s t:Lk}(h:LI ix cs R L s t)(hl:t.lost=false)(hr:t.round=false):s.lost=false/\s.round=false:=by
 constructor
 ·cases e:s.lost with
  |false=>rfl
  |true=>rw[h.lostS e] at hl;cases hl
 ·cases e:s.round with
  |false=>rfl
  |true=>rw[h.roundS e] at hr;cases hr
theorem AW{n:Nat}(hn:∀w k,ix w=some k->k<n){f:Nat}(hf:∀w s,dO n s<f->(∀x,s.mark x<=2)->(cb ix cs f w s).lost=false->(cb ix cs f w s).round=false->sM ix cs s->(cb ix cs f w s).out=rO ix cs f w s.out):
 ∀(ws:List α) (s:Lk),dO n s<f->(∀x,s.mark x<=2)->(dg ix cs f ws s).lost=false->(dg ix cs f ws s).round=false->sM ix cs s->(dg ix cs f ws s).out=lM ix cs f ws s.out
 |[],s,_,_,_,_,_=>rfl
 |w::ws,s,hc,hm,hl,hr,hg=>by
  rw[oN] at hl hr⊢
  obtain⟨h1,h2⟩:=pJ hn f w s hc hm
  have hc2:dO n (cb ix cs f w s)<f:=Nat.lt_of_le_of_lt (gH λx hx=>by rw[h1.old x hx];exact hx) hc
  obtain⟨g1,g2⟩:=py (pJ hn f) ws (cb ix cs f w s) hc2 (h1.le2 hm)
  obtain⟨hl1,hr1⟩:=g1.back hl hr
  have hg1:=h1.good hl1 hr1 hg
  rw[AW hn hf ws _ hc2 (h1.le2 hm) hl hr hg1,pi,hf w s hc hm hl1 hr1 hg]
theorem Jm{n:Nat}(hn:∀w k,ix w=some k->k<n):∀(f:Nat) (w:α) (s:Lk),dO n s<f->(∀x,s.mark x<=2)->(cb ix cs f w s).lost=false->(cb ix cs f w s).round=false->sM ix cs s->(cb ix cs f w s).out=rO ix cs f w s.out:=by
 intro f
 induction f with
 |zero=>intro w s h;omega
 |succ f ih=>
  intro w s hc hm hl hr hg
  cases hk:ix w with
  |none=>rw[nw hk] at hl;cases hl
  |some k=>
   rw[rO,hk]
   simp only
   by_cases h1:s.mark k=1
   ·rw[pz hk h1] at hr;cases hr
   by_cases h2:s.mark k=2
   ·rw[rm hk h2,tT ((hg.1 k).1 h2)]
   rw[ro hk h1 h2] at hl hr⊢
   have h0:s.mark k=0:=by have:=hm k;omega
   have hko:k∉s.out:=λh=>h2 ((hg.1 k).2 h)
   have hc1:dO n (newS s k)<f:=by have:=tZ (hn w k hk) h0;omega
   have hm1:∀x,(newS s k).mark x<=2:=λx=>by
    simp only[newS,kX];split
    ·omega
    ·exact hm x
   have hgn:sM ix cs (newS s k):=by
    refine⟨λx=>?_,hg.2.1,hg.2.2⟩
    by_cases e:x=k
    ·subst e
     have:=hg.1 x
     simp only[newS,kX,if_pos]
     exact⟨λh=>by omega,λh=>absurd h hko⟩
    ·simp only[newS,kX,if_neg e];exact hg.1 x
   have:=AW hn ih (cs k) (newS s k) hc1 hm1 hl hr hgn
   rw[nu hko]
   show(dg ix cs f (cs k) (newS s k)).out++[k]=_
   rw[this];rfl
theorem Jj{out:List Nat}(h:Dd ix cs out){k x:Nat}(hl:Ld ix cs k x){i:Nat}(hi:out[i]?=some k):∃j,j<=i/\out[j]?=some x:=by
 induction hl with
 |refl=>exact⟨i,Nat.le_refl _,hi⟩
 |step _ hw hm ih=>
  obtain⟨j,h1,h2⟩:=ih
  obtain⟨j2,h3,y,h4,h5⟩:=h j _ h2 _ hw
  rw[hm] at h4
  cases h4
  exact⟨j2,by omega,h5⟩
theorem IQ{out:List Nat}(h:Dd ix cs out){k x:Nat}(hl:Lp ix cs k x){i:Nat}(hi:out[i]?=some k):∃j,j<i/\out[j]?=some x:=by
 obtain⟨a,w,h1,hw,hm⟩:=hl
 obtain⟨j,h3,h4⟩:=Jj h h1 hi
 obtain⟨j2,h5,y,h6,h7⟩:=h j _ h4 _ hw
 rw[hm] at h6
 cases h6
 exact⟨j2,by omega,h7⟩
def lk0:Lk:=⟨λ_=>0,[],false,false⟩
theorem BA:sM ix cs lk0:=⟨λx=>by simp[lk0],λi x h=>by simp[lk0] at h,by simp[lk0]⟩
theorem zK(n:Nat):dO n lk0=n:=by
 simp[dO,lk0]
theorem AH{n:Nat}(hn:∀w k,ix w=some k->k<n)(w:α):((cb ix cs (n+1) w lk0).lost=true↔LW ix cs w)/\
 ((cb ix cs (n+1) w lk0).lost=false->((cb ix cs (n+1) w lk0).round=true↔∃y,RW ix cs w y/\Lp ix cs y y))/\
 ((cb ix cs (n+1) w lk0).lost=false->(cb ix cs (n+1) w lk0).round=false->(cb ix cs (n+1) w lk0).out=rO ix cs (n+1) w []/\(cb ix cs (n+1) w lk0).out.Nodup/\Dd ix cs (cb ix cs (n+1) w lk0).out/\∀x∈(cb ix cs (n+1) w lk0).out,x<n):=by
 have hc:dO n lk0<n+1:=by rw[zK];omega
 have hm:∀x,lk0.mark x<=2:=λx=>Nat.zero_le _
 obtain⟨h1,h2⟩:=pJ (cs:=cs) hn (n+1) w lk0 hc hm
 have h3:=Jm (cs:=cs) hn (n+1) w lk0 hc hm
 generalize cb ix cs (n+1) w lk0=t at h1 h2 h3
 have hcl:∀x,RW ix cs w x->t.mark x≠0:=λx h=>by
  obtain⟨k,hk,hx⟩:=h
  induction hx with
  |refl=>exact(h2.2 k hk).1
  | @step j m v _ hv hm ih=>exact((h1.new j rfl ih).2.2 v hv).2 m hm
 have hgd:=λhl hr=>h1.good hl hr BA
 refine⟨⟨λh=>(h1.lost h).resolve_left (by simp[lk0]),λh=>?_⟩,λhl=>⟨λh=>?_,λ⟨y,hy,hp⟩=>?_⟩,λhl hr=>⟨h3 hl hr BA,(hgd hl hr).2.2,(hgd hl hr).2.1,λx hx=>?_⟩⟩
 ·rcases h with h|⟨k,hk,j,v,hj,hv,hm⟩
  ·exact h2.1 h
  ·exact((h1.new j rfl (hcl j ⟨k,hk,hj⟩)).2.2 v hv).1 hm
 ·rcases h1.round h with g|⟨y,g1,g2⟩
  ·simp[lk0] at g
  ·exact⟨y,g1,g2.resolve_left (by simp[lk0])⟩
 ·cases hr:t.round with
  |true=>rfl
  |false=>
   obtain⟨p1,p2,p3⟩:=hgd hl hr
   have hm:=(h1.new y rfl (hcl y hy)).1
   obtain⟨i,h4,h5⟩:=List.getElem_of_mem ((p1 y).1 hm)
   have h6:t.out[i]?=some y:=by rw[List.getElem?_eq_getElem h4,h5]
   obtain⟨j,h7,h8⟩:=IQ p2 hp h6
   obtain⟨h9,h10⟩:=List.getElem?_eq_some_iff.1 h8
   have:=(List.getElem_inj (h₀:=h9) (h₁:=h4) p3).1 (by rw[h10,h5])
   omega
 ·have hm:=((hgd hl hr).1 x).2 hx
  obtain⟨_,⟨k,hk,hx⟩,_⟩:=h1.new x rfl (by omega)
  cases hx with
  |refl=>exact hn w _ hk
  |step _ _ hm=>exact hn _ _ hm
end
end
section
section
variable {α:Type} {ix:α->Option Nat} {cs:Nat->List α}
def onB(S:List Bool)(x:Nat):Prop:=S[x]?=some true
theorem tQ{S:List Bool}{k x:Nat}(hk:k<S.length):onB (S.set k true) x↔x=k\/onB S x:=by
 unfold onB
 rw[List.getElem?_set]
 by_cases e:k=x
 ·subst e;simp[hk]
 ·have:¬x=k:=λh=>e h.symm
  simp[e,this]
theorem nf{n x:Nat}:¬onB (List.replicate n false) x:=by
 unfold onB
 intro h
 rw[List.getElem?_replicate] at h
 split at h<;>cases h
def yJ(S:List Bool):Nat:=(List.range S.length).countP λx=> !decide (S[x]?=some true)
theorem El{S:List Bool}:yJ S<=S.length:=by
 have:=List.countP_le_length (p:=λx=> !decide (S[x]?=some true)) (l:=List.range S.length)
 rwa[List.length_range] at this
theorem FM{S T:List Bool}(hl:T.length=S.length)(h:∀x,onB S x->onB T x):yJ T<=yJ S:=by
 unfold yJ
 rw[hl]
 refine List.countP_mono_left λx _ hx=>?_
 simp only[Bool.not_eq_true',decide_eq_false_iff_not] at hx⊢
 exact λh2=>hx (h x h2)
theorem AP{S:List Bool}{k:Nat}(hk:k<S.length)(h:¬onB S k):yJ (S.set k true)<yJ S:=by
 unfold yJ
 rw[List.length_set]
 refine rZ (k:=k) (List.mem_range.2 hk) (λx _ hx=>?_) ?_ ?_
 ·simp only[Bool.not_eq_true',decide_eq_false_iff_not] at hx⊢
  exact λh2=>hx ((tQ hk).2 (.inr h2))
 ·have:=(tQ (x:=k) hk).2 (.inl rfl)
  simp only[Bool.not_eq_false',decide_eq_true_iff]
  exact this
 ·simp only[Bool.not_eq_true',decide_eq_false_iff_not]
  exact h
theorem Kq{S:List Bool}{k:Nat}(hk:k<S.length):(onB S k/\S[k]?=some true)\/(¬onB S k/\S[k]?=some false):=by
 unfold onB
 rw[List.getElem?_eq_getElem hk]
 cases S[k]<;>simp
structure NdI (ix:α->Option Nat) (cs:Nat->List α) (R:Nat->Prop) (S T:List Bool):Prop where
 len:T.length=S.length
 sub:∀x,onB S x->onB T x
 new:∀x,onB T x->¬onB S x->R x/\∀v∈cs x,∃j,ix v=some j/\onB T j
theorem NdI.rfl'{R:Nat->Prop}(S:List Bool):NdI ix cs R S S:=⟨rfl,λ_ h=>h,λ_ h1 h2=>absurd h1 h2⟩
theorem NdI.trans{R:Nat->Prop}{S T U:List Bool}(h1:NdI ix cs R S T)(h2:NdI ix cs R T U):NdI ix cs R S U:=by
 refine⟨h2.len.trans h1.len,λx h=>h2.sub x (h1.sub x h),λx hu hs=>?_⟩
 by_cases ht:onB T x
 ·obtain⟨a,b⟩:=h1.new x ht hs
  exact⟨a,λv hv=>(b v hv).imp λj hj=>⟨hj.1,h2.sub j hj.2⟩⟩
 ·exact h2.new x hu ht
theorem NdI.mono{R R':Nat->Prop}{S T:List Bool}(h:NdI ix cs R S T)(hR:∀x,R x->R' x):NdI ix cs R' S T:=
 ⟨h.len,h.sub,λx h1 h2=>⟨hR x (h.new x h1 h2).1,(h.new x h1 h2).2⟩⟩
theorem NdI.close{S T:List Bool}{k:Nat}(hk:k<S.length)(h:NdI ix cs (Ld ix cs k) (S.set k true) T)(ht:∀v∈cs k,∃j,ix v=some j/\onB T j):NdI ix cs (Ld ix cs k) S T/\onB T k:=by
 have hon:=λx=>tQ (S:=S) (k:=k) (x:=x) hk
 refine⟨⟨by rw[h.len,List.length_set],λx hx=>h.sub x ((hon x).2 (.inr hx)),λx hx hs=>?_⟩,h.sub k ((hon k).2 (.inl rfl))⟩
 by_cases e:x=k
 ·subst e;exact⟨.refl,ht⟩
 ·exact h.new x hx λh2=>((hon x).1 h2).elim e hs
theorem NdI.done{n k:Nat}{T:List Bool}(h:NdI ix cs (Ld ix cs k) (List.replicate n false) T)(hk:onB T k):(∀x,onB T x↔Ld ix cs k x)/\¬Ls ix cs k:=by
 have hcl:∀x,Ld ix cs k x->onB T x:=λx hx=>by
  induction hx with
  |refl=>exact hk
  | @step j m w _ hw hm ih=>
    obtain⟨i,h1,h2⟩:=(h.new j ih nf).2 w hw
    rw[hm] at h1;cases h1;exact h2
 refine⟨λx=>⟨λhx=>(h.new x hx nf).1,hcl x⟩,λ⟨j,w,hj,hw,hm⟩=>?_⟩
 obtain⟨i,h1,_⟩:=(h.new j (hcl j hj) nf).2 w hw
 rw[hm] at h1;cases h1
structure RdI (ix:α->Option Nat) (cs:Nat->List α) (k:Nat) (S:List Bool) (W:List α):Prop where
 inS:∀x,onB S x->Lp ix cs k x
 inW:∀v∈W,∃j,Ld ix cs k j/\v∈cs j
 all:∀x,x=k\/onB S x->∀v∈cs x,v∈W\/∀j,ix v=some j->onB S j/\j≠k
theorem RdI.start(n k:Nat):RdI ix cs k (List.replicate n false) (cs k):=
 ⟨λx h=>absurd h nf,λv hv=>⟨k,.refl,hv⟩,λx h v hv=>by
   rcases h with e|h
   ·subst e;exact .inl hv
   ·exact absurd h nf⟩
theorem RdI.found{k:Nat}{S:List Bool}{W:List α}{v:α}(h:RdI ix cs k S (v::W))(hv:ix v=some k):Lp ix cs k k:=by
 obtain⟨j,h1,h2⟩:=h.inW v (by simp)
 exact⟨j,v,h1,h2,hv⟩
theorem RdI.skip{k:Nat}{S:List Bool}{W:List α}{v:α}(h:RdI ix cs k S (v::W))(hv:∀j,ix v=some j->onB S j/\j≠k):RdI ix cs k S W:=by
 refine⟨h.inS,λu hu=>h.inW u (by simp[hu]),λx hx u hu=>?_⟩
 rcases h.all x hx u hu with g|g
 ·rcases List.mem_cons.1 g with e|g
  ·subst e;exact .inr hv
  ·exact .inl g
 ·exact .inr g
theorem RdI.step{k:Nat}{S:List Bool}{W:List α}{v:α}{i:Nat}(h:RdI ix cs k S (v::W))(hv:ix v=some i)(hi:i<S.length)(hk:i≠k):RdI ix cs k (S.set i true) (W++cs i):=by
 have hon:=λx=>tQ (S:=S) (k:=i) (x:=x) hi
 obtain⟨j,h1,h2⟩:=h.inW v (by simp)
 have hlp:Lp ix cs k i:=⟨j,v,h1,h2,hv⟩
 have hld:Ld ix cs k i:= .step h1 h2 hv
 refine⟨λx hx=>?_,λu hu=>?_,λx hx u hu=>?_⟩
 ·rcases(hon x).1 hx with e|hx
  ·subst e;exact hlp
  ·exact h.inS x hx
 ·rcases List.mem_append.1 hu with hu|hu
  ·exact h.inW u (by simp[hu])
  ·exact⟨i,hld,hu⟩
 ·have key:x=i\/(x=k\/onB S x):=by
   rcases hx with e|hx
   ·exact .inr (.inl e)
   ·rcases(hon x).1 hx with e|hx
    ·exact .inl e
    ·exact .inr (.inr hx)
  rcases key with e|hx
  ·subst e;exact .inl (by simp[hu])
  ·rcases h.all x hx u hu with g|g
   ·rcases List.mem_cons.1 g with e|g
    ·subst e
     refine .inr λj hj=>?_
     rw[hv] at hj
     cases hj
     exact⟨(hon i).2 (.inl rfl),hk⟩
    ·exact .inl (by simp[g])
   ·exact .inr λj hj=>⟨(hon j).2 (.inr (g j hj).1),(g j hj).2⟩
theorem RdI.done{k:Nat}{S:List Bool}(h:RdI ix cs k S []):¬Lp ix cs k k:=by
 have hcl:∀x,Ld ix cs k x->x=k\/onB S x:=λx hx=>by
  induction hx with
  |refl=>exact .inl rfl
  | @step j m w _ hw hm ih=>
    rcases h.all j ih w hw with g|g
    ·cases g
    ·exact .inr (g m hm).1
 rintro⟨j,w,hj,hw,hm⟩
 rcases h.all j (hcl j hj) w hw with g|g
 ·cases g
 ·exact(g k hm).2 rfl
end
end
end Go.Proofs.YtbnajafpkeficaaGreatDoor
