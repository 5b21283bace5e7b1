/-
  Contracts and lemmas that the card needs, part 6.
-/
import Derived.Test.YtiojgfhdcpppcaaGreatDoorRp5
namespace Go.Proofs.YtiojgfhdcpppcaaGreatDoor
open Go Go.Aw
set_option maxRecDepth 100000
set_option maxHeartbeats 4000000
abbrev BL:Nat:=9223372036854775807
mutual
def Ex.fit:Ex→Prop
 | .mk _ _ s k=>s.length≤BL∧k.length≤BL∧kr k
def kr:List Ex→Prop
 |[]=>True
 |e::r=>e.fit∧kr r
end
mutual
def Sm.fit:Sm→Prop
 | .mk _ s a b e=>s.length≤BL∧(a.length≤BL∧kr a)∧(b.length≤BL∧iT b)∧(e.length≤BL∧iT e)
def iT:List Sm→Prop
 |[]=>True
 |s::r=>s.fit∧iT r
end
def Fd.fit(f:Fd):Prop:=f.name.length≤BL∧(f.params.length≤BL∧∀x∈f.params,x.length≤BL)∧(f.body.length≤BL∧iT f.body)
theorem nP:∀{l:List Ex} {e:Ex},kr l→e∈l→e.fit
 |x::r,e,h,hm=>by
  rcases List.mem_cons.1 hm with rfl|hm
  ·exact h.1
  ·exact nP h.2 hm
theorem nO:∀{l:List Sm} {e:Sm},iT l→e∈l→e.fit
 |x::r,e,h,hm=>by
  rcases List.mem_cons.1 hm with rfl|hm
  ·exact h.1
  ·exact nO h.2 hm
theorem Ex.fit_eq(e:Ex):e.fit=(e.name.length≤BL∧e.kids.length≤BL∧kr e.kids):=by cases e;rfl
theorem Sm.fit_eq(s:Sm):s.fit=(s.name.length≤BL∧(s.args.length≤BL∧kr s.args)∧(s.body.length≤BL∧iT s.body)∧(s.els.length≤BL∧iT s.els)):=by cases s;rfl
theorem Fd.cs_eq'(f:Fd):f.cs=[.str f.name,ay f.params,smL f.body]:=rfl
def cW(ss:List Nat)(i:Nat):Nat:=ss.length+((ss.take i).map (· -1)).sum
theorem qx(ss:List Nat):cW ss 0=ss.length:=by simp[cW]
theorem qt{ss:List Nat}{i v:Nat}(h:ss[i]?=some v):cW ss (i+1)=cW ss i+(v-1):=by
 rw[cW,cW,List.take_add_one,h,List.map_append,List.sum_append];simp;omega
theorem vL:∀{ss:List Nat},(∀v∈ss,1≤v)→ss.length+(ss.map (· -1)).sum=ss.sum
 |[],_=>rfl
 |v::r,h=>by
  have:=vL (ss:=r) fun x hx=>h x (by simp[hx])
  have h1:=h v (by simp)
  simp only[List.length_cons,List.map_cons,List.sum_cons];omega
theorem tl{ss:List Nat}(h:∀v∈ss,1≤v){i:Nat}(hi:ss.length≤i):cW ss i=ss.sum:=by
 rw[cW,List.take_of_length_le hi,vL h]
theorem vj{ss:List Nat}(h:∀v∈ss,1≤v)(i:Nat):cW ss i≤ss.sum:=by
 rw[←vL h,cW]
 have:(ss.map (· -1)).sum=((ss.take i).map (· -1)).sum+((ss.drop i).map (· -1)).sum:=by
  conv=>lhs;rw[←List.take_append_drop i ss,List.map_append,List.sum_append]
 omega
theorem xH:∀l:List Ex,bK l=(l.map Ex.sz).sum
 |[]=>rfl
 |e::r=>by simp only[bK,List.map_cons,List.sum_cons,xH r]
theorem xt:∀l:List Sm,aG l=(l.map Sm.sz).sum
 |[]=>rfl
 |e::r=>by simp only[aG,List.map_cons,List.sum_cons,xt r]
theorem BN(l:List Fd):bm l=(l.map Fd.sz).sum:=rfl
theorem Ex.sz_pos(e:Ex):1≤e.sz:=by rw[e.sz_eq];omega
theorem Sm.sz_pos(e:Sm):1≤e.sz:=by rw[e.sz_eq];omega
theorem Fd.sz_pos(f:Fd):1≤f.sz:=by unfold Fd.sz;omega
def bF(left z:Nat):Int:=if z≤left then((left-z:Nat):Int) else-1
variable (G:aA)
theorem uo(l:List Ex)(left:Nat)(hl:left≤1048576)(hb:l.length≤BL)(H:∀e∈l,∀left:Nat,left≤1048576→VF Tryz.prog G gq [.agg (e.cs.map .p),.p (.int .i64 left)] (.p (.int .i64 (bF left (e.sz-1))))):
 VF Tryz.prog G dJ [.p (exL l),.p (.int .i64 left)] (.p (.int .i64 (bF left (bK l)))):=by
 refine AC.go sO ?_
 have hpos:∀v∈l.map Ex.sz,1≤v:=fun v hv=>by obtain⟨e,_,rfl⟩:=List.mem_map.1 hv;exact e.sz_pos
 have hz:=xH l
 have hal:=fun i (hi:l.length≤i)=>tl hpos (i:=i) (by rw[List.length_map];exact hi)
 have hle:=vj hpos
 have h00:cW (l.map Ex.sz) 0=l.length:=by rw[qx,List.length_map]
 rw[←hz] at hal hle
 have hsl:∀l,exL l= .lst 4 (l.map Ex.cs):=fun _=>rfl
 have hw:IntKind.i64.wrap ((left:Int)-l.length)=(left:Int)-l.length:=ag (by simp only[BL] at hb;omega) (by omega)
 by_cases h:l.length≤left
 case neg=>
  have h1:(left:Int)-l.length<0:=by omega
  have:=hle 0
  have h2:bF left (bK l)= -1:=if_neg (by omega)
  simp-implicitDefEqProofs[iV,hsl,hw,h1,h2]
 have h1:¬(left:Int)-l.length<0:=by omega
 simp-implicitDefEqProofs[iV,hsl,hw,h1]
 refine az (fun i:Nat=>aj 27 [(0,.p (exL l)),(1,.p (.int .i64 ((left-cW (l.map Ex.sz) i:Nat):Int))),(5,.p (.int .i64 i))]) (fun _=>[]) (fun i=>i≤l.length∧cW (l.map Ex.sz) i≤left) (fun i=>l.length-i) 0 ⟨by omega,by rw[h00];exact h⟩ ?_ ?_
 ·refine aC rfl ?_
  simp only[h00]
  simp[below,hsl]
  omega
 ·intro i ⟨hi,hx⟩
  simp-implicitDefEqProofs[hsl]
  refine bi (fun h1=>?_) (fun h1=>?_)
  ·simp at h1
   have hg:=List.getElem?_eq_getElem h1
   have hsu:=qt (ss:=l.map Ex.sz) (i:=i) (v:=l[i].sz) (by rw[List.getElem?_map,hg];rfl)
   have hH:=H l[i] (List.getElem_mem h1) (left-cW (l.map Ex.sz) i) (by omega)
   have hcs:l[i].cs.length=4:=by simp
   have hle1:=hle (i+1)
   generalize l[i]=e at hg hsu hH hcs
   simp-implicitDefEqProofs[hg,hcs]
   refine hH.use ?_
   by_cases h2:e.sz-1≤left-cW (l.map Ex.sz) i
   ·have e2:bF (left-cW (l.map Ex.sz) i) (e.sz-1)=((left-cW (l.map Ex.sz) (i+1):Nat):Int):=by rw[bF,if_pos h2];omega
    have h3:¬((left-cW (l.map Ex.sz) (i+1):Nat):Int)<0:=by omega
    rw[e2]
    simp-implicitDefEqProofs[h3]
    refine⟨i+1,⟨h1,by omega⟩,by omega,aC rfl (by simp[below,hsl,w1 (i:=i) (by simp only[BL] at hb;omega)])⟩
   ·have e2:bF (left-cW (l.map Ex.sz) i) (e.sz-1)= -1:=if_neg h2
    have e3:bF left (bK l)= -1:=if_neg (by omega)
    rw[e2,e3]
    simp-implicitDefEqProofs[]
  ·simp at h1
   have hta:=hal i h1
   have h5:bF left (bK l)=((left-cW (l.map Ex.sz) i:Nat):Int):=by rw[hta,bF,if_pos (by omega)]
   simp-implicitDefEqProofs[h5]
theorem uf(l:List Ex)(hb:l.length≤1048576)(H:∀e∈l,VF Tryz.prog G dt [.agg (e.cs.map .p)] (.agg (e.cs.map .p))):VF Tryz.prog G bN [.p (exL l)] (.p (exL l)):=by
 have hsl:∀l,exL l= .lst 4 (l.map Ex.cs):=fun _=>rfl
 have key:AC Tryz.prog G bN [.p (exL l)] [] fun x h=>x= .ret (.sl 0 4 0 l.length)∧h=[.row 4 (l.map fun e=>e.cs.map .p)]:=by
  refine AC.go lU ?_
  have hn:(l.map fun e=>e.cs.map AV.p).length=l.length:=by simp
  simp-implicitDefEqProofs[iU,hsl]
  refine⟨by omega,?_⟩
  refine az (fun i:Nat=>aj 23 [(0,.p (exL l)),(3,.sl 0 4 0 l.length),(4,.p (.int .i64 i))]) (fun i=>[.row 4 ((l.map fun e=>e.cs.map AV.p).take i++List.replicate (l.length-i) [.p (.int .i64 0),.p (.int .i64 0),.p (.str []),.nils])]) (fun i=>i≤l.length) (fun i=>l.length-i) 0 (by simp) ?_ ?_
  ·refine eJ [0] rfl (by simp) (bJ (by simp) (by simp[below]) cP) ?_
   simp[below,ren,hsl]
  ·intro i hi
   simp-implicitDefEqProofs[hsl]
   refine bi (fun h1=>?_) (fun h1=>?_)
   ·simp at h1
    have hg:=List.getElem?_eq_getElem h1
    have hg2:=rC (z:=([.p (.int .i64 0),.p (.int .i64 0),.p (.str []),.nils]:List AV)) hn h1
    have hset:=oG (z:=([.p (.int .i64 0),.p (.int .i64 0),.p (.str []),.nils]:List AV)) (v:=l[i].cs.map AV.p) hn h1 (by rw[List.getElem?_map,hg];rfl)
    have hH:=H l[i] (List.getElem_mem h1)
    have hcs:=l[i].cs_eq
    have htl:(List.take i (l.map fun(e:Ex)=>e.cs.map AV.p)++List.replicate (l.length-i) ([.p (.int .i64 0),.p (.int .i64 0),.p (.str []),.nils]:List AV)).length=l.length:=by simp;omega
    generalize l[i]=e at hg hset hH hcs
    generalize hRow:(List.take i (l.map fun(e:Ex)=>e.cs.map AV.p)++List.replicate (l.length-i) ([.p (.int .i64 0),.p (.int .i64 0),.p (.str []),.nils]:List AV))=Rw at hg2 hset htl⊢
    rw[hcs] at hH hset
    simp-implicitDefEqProofs[hg,hcs]
    refine hH.use ?_
    simp-implicitDefEqProofs[hg2,h1,dK]
    simp only[List.map_cons,List.map_nil] at hset
    rw[hset]
    refine⟨i+1,h1,by omega,eJ [0] rfl (by simp) (bJ rfl ?_ cP) ?_⟩
    ·intro x hx
     rcases List.mem_append.1 hx with hx|hx
     ·obtain⟨y,_,rfl⟩:=List.mem_map.1 (List.mem_of_mem_take hx);simp
     ·rw[(List.mem_replicate.1 hx).2];simp[below]
    ·simp[below,ren,hsl,w1 (i:=i) (by omega)]
   ·simp at h1
    have hie:i=l.length:=by omega
    subst hie
    rw[Nat.sub_self,List.replicate_zero,List.append_nil,List.take_of_length_le (by rw[hn];exact Nat.le_refl _)]
    simp-implicitDefEqProofs[]
 refine AC.freeze key (.one ?_ .nil)
 have:=gJ (h:=[.row 4 (l.map fun e=>e.cs.map .p)]) (id:=0) (sz:=4) (n:=l.length) (ls:=l.map Ex.cs) (by simp) (by simp) (fun x hx=>by obtain⟨b,_,rfl⟩:=List.mem_map.1 hx;simp)
 exact this
theorem uA(l:List Ex)(hb:l.length≤1048576)(H:∀e∈l,VF Tryz.prog G gv [.agg (e.cs.map .p),.agg (e.cs.map .p)] (.p (.bool true))):VF Tryz.prog G dI [.p (exL l),.p (exL l)] (.p (.bool true)):=by
 refine AC.go sv ?_
 have hsl:∀l,exL l= .lst 4 (l.map Ex.cs):=fun _=>rfl
 simp-implicitDefEqProofs[mo,hsl]
 refine az (fun i:Nat=>aj 27 [(0,.p (exL l)),(1,.p (exL l)),(5,.p (.int .i64 i))]) (fun _=>[]) (fun i=>i≤l.length) (fun i=>l.length-i) 0 (by simp) ?_ ?_
 ·exact aC rfl (by simp[below,hsl])
 intro i hi
 simp-implicitDefEqProofs[hsl]
 refine bi (fun h1=>?_) (fun h1=>?_)
 ·simp at h1
  have hg:=List.getElem?_eq_getElem h1
  have hH:=H l[i] (List.getElem_mem h1)
  have hcs:l[i].cs.length=4:=by simp
  generalize l[i]=e at hg hH hcs
  simp-implicitDefEqProofs[hg,hcs]
  refine hH.use ?_
  simp-implicitDefEqProofs[]
  exact⟨i+1,h1,by omega,aC rfl (by simp[below,hsl,w1 (i:=i) (by omega)])⟩
 ·simp at h1
  simp-implicitDefEqProofs[]
theorem ug(l:List Sm)(left:Nat)(hl:left≤1048576)(hb:l.length≤BL)(H:∀e∈l,∀left:Nat,left≤1048576→VF Tryz.prog G gt [.agg (e.cs.map .p),.p (.int .i64 left)] (.p (.int .i64 (bF left (e.sz-1))))):
 VF Tryz.prog G cm [.p (smL l),.p (.int .i64 left)] (.p (.int .i64 (bF left (aG l)))):=by
 refine AC.go sF ?_
 have hpos:∀v∈l.map Sm.sz,1≤v:=fun v hv=>by obtain⟨e,_,rfl⟩:=List.mem_map.1 hv;exact e.sz_pos
 have hz:=xt l
 have hal:=fun i (hi:l.length≤i)=>tl hpos (i:=i) (by rw[List.length_map];exact hi)
 have hle:=vj hpos
 have h00:cW (l.map Sm.sz) 0=l.length:=by rw[qx,List.length_map]
 rw[←hz] at hal hle
 have hsl:∀l,smL l= .lst 5 (l.map Sm.cs):=fun _=>rfl
 have hw:IntKind.i64.wrap ((left:Int)-l.length)=(left:Int)-l.length:=ag (by simp only[BL] at hb;omega) (by omega)
 by_cases h:l.length≤left
 case neg=>
  have h1:(left:Int)-l.length<0:=by omega
  have:=hle 0
  have h2:bF left (aG l)= -1:=if_neg (by omega)
  simp-implicitDefEqProofs[iL,hsl,hw,h1,h2]
 have h1:¬(left:Int)-l.length<0:=by omega
 simp-implicitDefEqProofs[iL,hsl,hw,h1]
 refine az (fun i:Nat=>aj 27 [(0,.p (smL l)),(1,.p (.int .i64 ((left-cW (l.map Sm.sz) i:Nat):Int))),(5,.p (.int .i64 i))]) (fun _=>[]) (fun i=>i≤l.length∧cW (l.map Sm.sz) i≤left) (fun i=>l.length-i) 0 ⟨by omega,by rw[h00];exact h⟩ ?_ ?_
 ·refine aC rfl ?_
  simp only[h00]
  simp[below,hsl]
  omega
 ·intro i ⟨hi,hx⟩
  simp-implicitDefEqProofs[hsl]
  refine bi (fun h1=>?_) (fun h1=>?_)
  ·simp at h1
   have hg:=List.getElem?_eq_getElem h1
   have hsu:=qt (ss:=l.map Sm.sz) (i:=i) (v:=l[i].sz) (by rw[List.getElem?_map,hg];rfl)
   have hH:=H l[i] (List.getElem_mem h1) (left-cW (l.map Sm.sz) i) (by omega)
   have hcs:l[i].cs.length=5:=by simp
   have hle1:=hle (i+1)
   generalize l[i]=e at hg hsu hH hcs
   simp-implicitDefEqProofs[hg,hcs]
   refine hH.use ?_
   by_cases h2:e.sz-1≤left-cW (l.map Sm.sz) i
   ·have e2:bF (left-cW (l.map Sm.sz) i) (e.sz-1)=((left-cW (l.map Sm.sz) (i+1):Nat):Int):=by rw[bF,if_pos h2];omega
    have h3:¬((left-cW (l.map Sm.sz) (i+1):Nat):Int)<0:=by omega
    rw[e2]
    simp-implicitDefEqProofs[h3]
    refine⟨i+1,⟨h1,by omega⟩,by omega,aC rfl (by simp[below,hsl,w1 (i:=i) (by simp only[BL] at hb;omega)])⟩
   ·have e2:bF (left-cW (l.map Sm.sz) i) (e.sz-1)= -1:=if_neg h2
    have e3:bF left (aG l)= -1:=if_neg (by omega)
    rw[e2,e3]
    simp-implicitDefEqProofs[]
  ·simp at h1
   have hta:=hal i h1
   have h5:bF left (aG l)=((left-cW (l.map Sm.sz) i:Nat):Int):=by rw[hta,bF,if_pos (by omega)]
   simp-implicitDefEqProofs[h5]
theorem pJ(l:List Sm)(hb:l.length≤1048576)(H:∀e∈l,VF Tryz.prog G dv [.agg (e.cs.map .p)] (.agg (e.cs.map .p))):VF Tryz.prog G bq [.p (smL l)] (.p (smL l)):=by
 have hsl:∀l,smL l= .lst 5 (l.map Sm.cs):=fun _=>rfl
 have key:AC Tryz.prog G bq [.p (smL l)] [] fun x h=>x= .ret (.sl 0 5 0 l.length)∧h=[.row 5 (l.map fun e=>e.cs.map .p)]:=by
  refine AC.go lZ ?_
  have hn:(l.map fun e=>e.cs.map AV.p).length=l.length:=by simp
  simp-implicitDefEqProofs[iJ,hsl]
  refine⟨by omega,?_⟩
  refine az (fun i:Nat=>aj 23 [(0,.p (smL l)),(3,.sl 0 5 0 l.length),(4,.p (.int .i64 i))]) (fun i=>[.row 5 ((l.map fun e=>e.cs.map AV.p).take i++List.replicate (l.length-i) [.p (.int .i64 0),.p (.str []),.nils,.nils,.nils])]) (fun i=>i≤l.length) (fun i=>l.length-i) 0 (by simp) ?_ ?_
  ·refine eJ [0] rfl (by simp) (bJ (by simp) (by simp[below]) cP) ?_
   simp[below,ren,hsl]
  ·intro i hi
   simp-implicitDefEqProofs[hsl]
   refine bi (fun h1=>?_) (fun h1=>?_)
   ·simp at h1
    have hg:=List.getElem?_eq_getElem h1
    have hg2:=rC (z:=([.p (.int .i64 0),.p (.str []),.nils,.nils,.nils]:List AV)) hn h1
    have hset:=oG (z:=([.p (.int .i64 0),.p (.str []),.nils,.nils,.nils]:List AV)) (v:=l[i].cs.map AV.p) hn h1 (by rw[List.getElem?_map,hg];rfl)
    have hH:=H l[i] (List.getElem_mem h1)
    have hcs:=l[i].cs_eq
    have htl:(List.take i (l.map fun(e:Sm)=>e.cs.map AV.p)++List.replicate (l.length-i) ([.p (.int .i64 0),.p (.str []),.nils,.nils,.nils]:List AV)).length=l.length:=by simp;omega
    generalize l[i]=e at hg hset hH hcs
    generalize hRow:(List.take i (l.map fun(e:Sm)=>e.cs.map AV.p)++List.replicate (l.length-i) ([.p (.int .i64 0),.p (.str []),.nils,.nils,.nils]:List AV))=Rw at hg2 hset htl⊢
    rw[hcs] at hH hset
    simp-implicitDefEqProofs[hg,hcs]
    refine hH.use ?_
    simp-implicitDefEqProofs[hg2,h1,dK]
    simp only[List.map_cons,List.map_nil] at hset
    rw[hset]
    refine⟨i+1,h1,by omega,eJ [0] rfl (by simp) (bJ rfl ?_ cP) ?_⟩
    ·intro x hx
     rcases List.mem_append.1 hx with hx|hx
     ·obtain⟨y,_,rfl⟩:=List.mem_map.1 (List.mem_of_mem_take hx);simp
     ·rw[(List.mem_replicate.1 hx).2];simp[below]
    ·simp[below,ren,hsl,w1 (i:=i) (by omega)]
   ·simp at h1
    have hie:i=l.length:=by omega
    subst hie
    rw[Nat.sub_self,List.replicate_zero,List.append_nil,List.take_of_length_le (by rw[hn];exact Nat.le_refl _)]
    simp-implicitDefEqProofs[]
 refine AC.freeze key (.one ?_ .nil)
 have:=gJ (h:=[.row 5 (l.map fun e=>e.cs.map .p)]) (id:=0) (sz:=5) (n:=l.length) (ls:=l.map Sm.cs) (by simp) (by simp) (fun x hx=>by obtain⟨b,_,rfl⟩:=List.mem_map.1 hx;simp)
 exact this
theorem qj(l:List Sm)(hb:l.length≤1048576)(H:∀e∈l,VF Tryz.prog G gn [.agg (e.cs.map .p),.agg (e.cs.map .p)] (.p (.bool true))):VF Tryz.prog G cJ [.p (smL l),.p (smL l)] (.p (.bool true)):=by
 refine AC.go rT ?_
 have hsl:∀l,smL l= .lst 5 (l.map Sm.cs):=fun _=>rfl
 simp-implicitDefEqProofs[lS,hsl]
 refine az (fun i:Nat=>aj 27 [(0,.p (smL l)),(1,.p (smL l)),(5,.p (.int .i64 i))]) (fun _=>[]) (fun i=>i≤l.length) (fun i=>l.length-i) 0 (by simp) ?_ ?_
 ·exact aC rfl (by simp[below,hsl])
 intro i hi
 simp-implicitDefEqProofs[hsl]
 refine bi (fun h1=>?_) (fun h1=>?_)
 ·simp at h1
  have hg:=List.getElem?_eq_getElem h1
  have hH:=H l[i] (List.getElem_mem h1)
  have hcs:l[i].cs.length=5:=by simp
  generalize l[i]=e at hg hH hcs
  simp-implicitDefEqProofs[hg,hcs]
  refine hH.use ?_
  simp-implicitDefEqProofs[]
  exact⟨i+1,h1,by omega,aC rfl (by simp[below,hsl,w1 (i:=i) (by omega)])⟩
 ·simp at h1
  simp-implicitDefEqProofs[]
theorem EI(l:List Fd)(left:Nat)(hl:left≤1048576)(hb:l.length≤BL)(H:∀e∈l,∀left:Nat,left≤1048576→VF Tryz.prog G jg [.agg (e.cs.map .p),.p (.int .i64 left)] (.p (.int .i64 (bF left (e.sz-1))))):
 VF Tryz.prog G kF [.p (fdL l),.p (.int .i64 left)] (.p (.int .i64 (bF left (bm l)))):=by
 refine AC.go vr ?_
 have hpos:∀v∈l.map Fd.sz,1≤v:=fun v hv=>by obtain⟨e,_,rfl⟩:=List.mem_map.1 hv;exact e.sz_pos
 have hz:=BN l
 have hal:=fun i (hi:l.length≤i)=>tl hpos (i:=i) (by rw[List.length_map];exact hi)
 have hle:=vj hpos
 have h00:cW (l.map Fd.sz) 0=l.length:=by rw[qx,List.length_map]
 rw[←hz] at hal hle
 have hsl:∀l,fdL l= .lst 3 (l.map Fd.cs):=fun _=>rfl
 have hw:IntKind.i64.wrap ((left:Int)-l.length)=(left:Int)-l.length:=ag (by simp only[BL] at hb;omega) (by omega)
 by_cases h:l.length≤left
 case neg=>
  have h1:(left:Int)-l.length<0:=by omega
  have:=hle 0
  have h2:bF left (bm l)= -1:=if_neg (by omega)
  simp-implicitDefEqProofs[kz,hsl,hw,h1,h2]
 have h1:¬(left:Int)-l.length<0:=by omega
 simp-implicitDefEqProofs[kz,hsl,hw,h1]
 refine az (fun i:Nat=>aj 27 [(0,.p (fdL l)),(1,.p (.int .i64 ((left-cW (l.map Fd.sz) i:Nat):Int))),(5,.p (.int .i64 i))]) (fun _=>[]) (fun i=>i≤l.length∧cW (l.map Fd.sz) i≤left) (fun i=>l.length-i) 0 ⟨by omega,by rw[h00];exact h⟩ ?_ ?_
 ·refine aC rfl ?_
  simp only[h00]
  simp[below,hsl]
  omega
 ·intro i ⟨hi,hx⟩
  simp-implicitDefEqProofs[hsl]
  refine bi (fun h1=>?_) (fun h1=>?_)
  ·simp at h1
   have hg:=List.getElem?_eq_getElem h1
   have hsu:=qt (ss:=l.map Fd.sz) (i:=i) (v:=l[i].sz) (by rw[List.getElem?_map,hg];rfl)
   have hH:=H l[i] (List.getElem_mem h1) (left-cW (l.map Fd.sz) i) (by omega)
   have hcs:l[i].cs.length=3:=by simp
   have hle1:=hle (i+1)
   generalize l[i]=e at hg hsu hH hcs
   simp-implicitDefEqProofs[hg,hcs]
   refine hH.use ?_
   by_cases h2:e.sz-1≤left-cW (l.map Fd.sz) i
   ·have e2:bF (left-cW (l.map Fd.sz) i) (e.sz-1)=((left-cW (l.map Fd.sz) (i+1):Nat):Int):=by rw[bF,if_pos h2];omega
    have h3:¬((left-cW (l.map Fd.sz) (i+1):Nat):Int)<0:=by omega
    rw[e2]
    simp-implicitDefEqProofs[h3]
    refine⟨i+1,⟨h1,by omega⟩,by omega,aC rfl (by simp[below,hsl,w1 (i:=i) (by simp only[BL] at hb;omega)])⟩
   ·have e2:bF (left-cW (l.map Fd.sz) i) (e.sz-1)= -1:=if_neg h2
    have e3:bF left (bm l)= -1:=if_neg (by omega)
    rw[e2,e3]
    simp-implicitDefEqProofs[]
  ·simp at h1
   have hta:=hal i h1
   have h5:bF left (bm l)=((left-cW (l.map Fd.sz) i:Nat):Int):=by rw[hta,bF,if_pos (by omega)]
   simp-implicitDefEqProofs[h5]
theorem EH(l:List Fd)(hb:l.length≤1048576)(H:∀e∈l,VF Tryz.prog G fd [.agg (e.cs.map .p)] (.agg (e.cs.map .p))):VF Tryz.prog G fj [.p (fdL l)] (.p (fdL l)):=by
 have hsl:∀l,fdL l= .lst 3 (l.map Fd.cs):=fun _=>rfl
 have key:AC Tryz.prog G fj [.p (fdL l)] [] fun x h=>x= .ret (.sl 0 3 0 l.length)∧h=[.row 3 (l.map fun e=>e.cs.map .p)]:=by
  refine AC.go pw ?_
  have hn:(l.map fun e=>e.cs.map AV.p).length=l.length:=by simp
  simp-implicitDefEqProofs[kN,hsl]
  refine⟨by omega,?_⟩
  refine az (fun i:Nat=>aj 23 [(0,.p (fdL l)),(3,.sl 0 3 0 l.length),(4,.p (.int .i64 i))]) (fun i=>[.row 3 ((l.map fun e=>e.cs.map AV.p).take i++List.replicate (l.length-i) [.p (.str []),.nils,.nils])]) (fun i=>i≤l.length) (fun i=>l.length-i) 0 (by simp) ?_ ?_
  ·refine eJ [0] rfl (by simp) (bJ (by simp) (by simp[below]) cP) ?_
   simp[below,ren,hsl]
  ·intro i hi
   simp-implicitDefEqProofs[hsl]
   refine bi (fun h1=>?_) (fun h1=>?_)
   ·simp at h1
    have hg:=List.getElem?_eq_getElem h1
    have hg2:=rC (z:=([.p (.str []),.nils,.nils]:List AV)) hn h1
    have hset:=oG (z:=([.p (.str []),.nils,.nils]:List AV)) (v:=l[i].cs.map AV.p) hn h1 (by rw[List.getElem?_map,hg];rfl)
    have hH:=H l[i] (List.getElem_mem h1)
    have hcs:=l[i].cs_eq'
    have htl:(List.take i (l.map fun(e:Fd)=>e.cs.map AV.p)++List.replicate (l.length-i) ([.p (.str []),.nils,.nils]:List AV)).length=l.length:=by simp;omega
    generalize l[i]=e at hg hset hH hcs
    generalize hRow:(List.take i (l.map fun(e:Fd)=>e.cs.map AV.p)++List.replicate (l.length-i) ([.p (.str []),.nils,.nils]:List AV))=Rw at hg2 hset htl⊢
    rw[hcs] at hH hset
    simp-implicitDefEqProofs[hg,hcs]
    refine hH.use ?_
    simp-implicitDefEqProofs[hg2,h1,dK]
    simp only[List.map_cons,List.map_nil] at hset
    rw[hset]
    refine⟨i+1,h1,by omega,eJ [0] rfl (by simp) (bJ rfl ?_ cP) ?_⟩
    ·intro x hx
     rcases List.mem_append.1 hx with hx|hx
     ·obtain⟨y,_,rfl⟩:=List.mem_map.1 (List.mem_of_mem_take hx);simp
     ·rw[(List.mem_replicate.1 hx).2];simp[below]
    ·simp[below,ren,hsl,w1 (i:=i) (by omega)]
   ·simp at h1
    have hie:i=l.length:=by omega
    subst hie
    rw[Nat.sub_self,List.replicate_zero,List.append_nil,List.take_of_length_le (by rw[hn];exact Nat.le_refl _)]
    simp-implicitDefEqProofs[]
 refine AC.freeze key (.one ?_ .nil)
 have:=gJ (h:=[.row 3 (l.map fun e=>e.cs.map .p)]) (id:=0) (sz:=3) (n:=l.length) (ls:=l.map Fd.cs) (by simp) (by simp) (fun x hx=>by obtain⟨b,_,rfl⟩:=List.mem_map.1 hx;simp)
 exact this
theorem EW(l:List Fd)(hb:l.length≤1048576)(H:∀e∈l,VF Tryz.prog G je [.agg (e.cs.map .p),.agg (e.cs.map .p)] (.p (.bool true))):VF Tryz.prog G kJ [.p (fdL l),.p (fdL l)] (.p (.bool true)):=by
 refine AC.go vp ?_
 have hsl:∀l,fdL l= .lst 3 (l.map Fd.cs):=fun _=>rfl
 simp-implicitDefEqProofs[pr,hsl]
 refine az (fun i:Nat=>aj 27 [(0,.p (fdL l)),(1,.p (fdL l)),(5,.p (.int .i64 i))]) (fun _=>[]) (fun i=>i≤l.length) (fun i=>l.length-i) 0 (by simp) ?_ ?_
 ·exact aC rfl (by simp[below,hsl])
 intro i hi
 simp-implicitDefEqProofs[hsl]
 refine bi (fun h1=>?_) (fun h1=>?_)
 ·simp at h1
  have hg:=List.getElem?_eq_getElem h1
  have hH:=H l[i] (List.getElem_mem h1)
  have hcs:l[i].cs.length=3:=by simp
  generalize l[i]=e at hg hH hcs
  simp-implicitDefEqProofs[hg,hcs]
  refine hH.use ?_
  simp-implicitDefEqProofs[]
  exact⟨i+1,h1,by omega,aC rfl (by simp[below,hsl,w1 (i:=i) (by omega)])⟩
 ·simp at h1
  simp-implicitDefEqProofs[]
end Go.Proofs.YtiojgfhdcpppcaaGreatDoor
namespace Go.Proofs.YtiojgfhdcpppcaaGreatDoor
open Go Go.Aw
set_option maxRecDepth 100000
set_option maxHeartbeats 4000000
variable (G:aA)
theorem bx{left z:Nat}(h:¬z≤left):bF left z= -1:=if_neg h
theorem du{left z:Nat}(h:z≤left):bF left z=((left-z:Nat):Int):=if_pos h
theorem Co:∀(N:Nat) (e:Ex),e.sz≤N→e.fit→∀left:Nat,left≤1048576→VF Tryz.prog G gq [.agg (e.cs.map .p),.p (.int .i64 left)] (.p (.int .i64 (bF left (e.sz-1)))):=by
 intro N
 induction N with
 |zero=>intro e he;have:=e.sz_pos;omega
 |succ N ih=>
  intro e he hf left hl
  have hec:=e.cs_eq
  have hsz:=e.sz_eq
  rw[e.fit_eq] at hf
  obtain⟨f1,f2,f3⟩:=hf
  refine AC.go tM ?_
  have hw:IntKind.i64.wrap ((left:Int)-e.name.length)=(left:Int)-e.name.length:=ag (by simp only[BL] at f1;omega) (by omega)
  by_cases h1:e.name.length≤left
  case neg=>
   have h2:(left:Int)-e.name.length<0:=by omega
   rw[bx (by omega)]
   simp-implicitDefEqProofs[jq,hec,hw,h2]
  have h2:¬(left:Int)-e.name.length<0:=by omega
  have e2:(left:Int)-e.name.length=((left-e.name.length:Nat):Int):=by omega
  have hS:=uo G e.kids (left-e.name.length) (by omega) f2 (fun x hx l hl=>ih x (by have:=aW hx;omega) (nP f3 hx) l hl)
  rw[e2] at h2
  replace hw:=hw.trans e2
  simp-implicitDefEqProofs[jq,hec,hw,h2]
  refine hS.use ?_
  by_cases h3:bK e.kids≤left-e.name.length
  ·have n3:¬((left-e.name.length-bK e.kids:Nat):Int)<0:=by omega
   rw[du h3,du (by omega)]
   simp-implicitDefEqProofs[n3]
   omega
  ·rw[bx h3,bx (by omega)]
   simp-implicitDefEqProofs[]
theorem Aa(l:List Ex)(hf:kr l)(hb:l.length≤BL)(left:Nat)(hl:left≤1048576):VF Tryz.prog G dJ [.p (exL l),.p (.int .i64 left)] (.p (.int .i64 (bF left (bK l)))):=
 uo G l left hl hb (fun e he l hl=>Co G e.sz e (Nat.le_refl _) (nP hf he) l hl)
theorem BT:∀(N:Nat) (s:Sm),s.sz≤N→s.fit→∀left:Nat,left≤1048576→VF Tryz.prog G gt [.agg (s.cs.map .p),.p (.int .i64 left)] (.p (.int .i64 (bF left (s.sz-1)))):=by
 intro N
 induction N with
 |zero=>intro e he;have:=e.sz_pos;omega
 |succ N ih=>
  intro e he hf left hl
  have hec:=e.cs_eq
  have hsz:=e.sz_eq
  rw[e.fit_eq] at hf
  obtain⟨f1,⟨f2,f3⟩,⟨f4,f5⟩,f6,f7⟩:=hf
  have sub:∀l:List Sm,aG l≤N→iT l→l.length≤BL→∀left:Nat,left≤1048576→VF Tryz.prog G cm [.p (smL l),.p (.int .i64 left)] (.p (.int .i64 (bF left (aG l)))):=fun l hz hf hb left hl=>
   ug G l left hl hb (fun x hx l hl=>ih x (by have:=aV hx;omega) (nO hf hx) l hl)
  refine AC.go tB ?_
  have hw:IntKind.i64.wrap ((left:Int)-e.name.length)=(left:Int)-e.name.length:=ag (by simp only[BL] at f1;omega) (by omega)
  by_cases h1:e.name.length≤left
  case neg=>
   have h2:(left:Int)-e.name.length<0:=by omega
   rw[bx (by omega)]
   simp-implicitDefEqProofs[jt,hec,hw,h2]
  have h2:¬(left:Int)-e.name.length<0:=by omega
  have e2:(left:Int)-e.name.length=((left-e.name.length:Nat):Int):=by omega
  rw[e2] at h2
  replace hw:=hw.trans e2
  simp-implicitDefEqProofs[jt,hec,hw,h2]
  refine(Aa G e.args f3 f2 (left-e.name.length) (by omega)).use ?_
  by_cases h3:bK e.args≤left-e.name.length
  case neg=>
   rw[bx h3,bx (by omega)]
   simp-implicitDefEqProofs[]
  have n3:¬((left-e.name.length-bK e.args:Nat):Int)<0:=by omega
  rw[du h3]
  simp-implicitDefEqProofs[n3]
  refine(sub e.body (by omega) f5 f4 (left-e.name.length-bK e.args) (by omega)).use ?_
  by_cases h4:aG e.body≤left-e.name.length-bK e.args
  case neg=>
   rw[bx h4,bx (by omega)]
   simp-implicitDefEqProofs[]
  have n4:¬((left-e.name.length-bK e.args-aG e.body:Nat):Int)<0:=by omega
  rw[du h4]
  simp-implicitDefEqProofs[n4]
  refine(sub e.els (by omega) f7 f6 (left-e.name.length-bK e.args-aG e.body) (by omega)).use ?_
  by_cases h5:aG e.els≤left-e.name.length-bK e.args-aG e.body
  case neg=>
   rw[bx h5,bx (by omega)]
   simp-implicitDefEqProofs[]
  have n5:¬((left-e.name.length-bK e.args-aG e.body-aG e.els:Nat):Int)<0:=by omega
  rw[du h5,du (by omega)]
  simp-implicitDefEqProofs[n5]
  omega
theorem Bq(l:List Sm)(hf:iT l)(hb:l.length≤BL)(left:Nat)(hl:left≤1048576):VF Tryz.prog G cm [.p (smL l),.p (.int .i64 left)] (.p (.int .i64 (bF left (aG l)))):=
 ug G l left hl hb (fun e he l hl=>BT G e.sz e (Nat.le_refl _) (nO hf he) l hl)
def lb(xs:List (List UInt8))(i:Nat):Nat:=((xs.take i).map List.length).sum
theorem Ag{xs:List (List UInt8)}{i:Nat}(h:i<xs.length):lb xs (i+1)=lb xs i+xs[i].length:=by
 show((xs.take (i+1)).map List.length).sum=((xs.take i).map List.length).sum+xs[i].length
 rw[al h,List.map_append,List.sum_append]
 rfl
theorem Dx{xs:List (List UInt8)}{i:Nat}(h:xs.length≤i):lb xs i=(xs.map List.length).sum:=by rw[lb,List.take_of_length_le h]
theorem FC{xs:List (List UInt8)}{i:Nat}:lb xs i≤(xs.map List.length).sum:=by
 conv=>rhs;rw[←List.take_append_drop i xs,List.map_append,List.sum_append]
 simp[lb]
def szW(xs:List (List UInt8)):Nat:=xs.length+(xs.map List.length).sum
theorem vR(xs:List (List UInt8))(left:Nat)(hl:left≤1048576)(hb:xs.length≤9223372036854775807)(hs:∀x∈xs,x.length≤9223372036854775807):VF Tryz.prog G fU [.p (ay xs),.p (.int .i64 left)] (.p (.int .i64 (if szW xs≤left then((left-szW xs:Nat):Int) else-1))):=by
 refine AC.go qm ?_
 have hw:IntKind.i64.wrap ((left:Int)-xs.length)=(left:Int)-xs.length:=ag (by omega) (by omega)
 have hsz:szW xs=xs.length+(xs.map List.length).sum:=rfl
 by_cases h:xs.length≤left
 case neg=>
  have h1:(left:Int)-xs.length<0:=by omega
  have h2:¬szW xs≤left:=by omega
  simp-implicitDefEqProofs[fQ,ay,hw,h1,h2]
 have h1:¬(left:Int)-xs.length<0:=by omega
 simp-implicitDefEqProofs[fQ,ay,hw,h1]
 refine az (fun i:Nat=>aj 28 [(0,.p (ay xs)),(1,.p (.int .i64 ((left-xs.length-lb xs i:Nat):Int))),(5,.p (.int .i64 i))]) (fun _=>[]) (fun i=>i≤xs.length∧xs.length+lb xs i≤left) (fun i=>xs.length-i) 0 (by simp[lb];omega) ?_ ?_
 ·refine aC rfl ?_
  simp[below,ay,lb]
  omega
 ·intro i ⟨hi,hx⟩
  simp-implicitDefEqProofs[ay]
  refine bi (fun h1=>?_) (fun h1=>?_)
  ·simp at h1
   have hg:=List.getElem?_eq_getElem h1
   have hle:=hs _ (List.getElem_mem h1)
   have hsu:=Ag h1
   have hsl:=FC (xs:=xs) (i:=i+1)
   have hw2:IntKind.i64.wrap (((left-xs.length-lb xs i:Nat):Int)-(xs[i].length:Int))=((left-xs.length-lb xs i:Nat):Int)-(xs[i].length:Int):=ag (by omega) (by omega)
   by_cases h2:xs.length+lb xs (i+1)≤left
   ·have h3:¬((left-xs.length-lb xs i:Nat):Int)-(xs[i].length:Int)<0:=by omega
    have h4:((left-xs.length-lb xs i:Nat):Int)-(xs[i].length:Int)=((left-xs.length-lb xs (i+1):Nat):Int):=by omega
    rw[h4] at h3
    replace hw2:=hw2.trans h4
    clear hle hsu hsl
    simp-implicitDefEqProofs[hg,hw2,h3]
    refine⟨i+1,⟨h1,h2⟩,by omega,aC rfl (by simp[below,ay,w1 (i:=i) (by omega)])⟩
   ·have h3:((left-xs.length-lb xs i:Nat):Int)-(xs[i].length:Int)<0:=by omega
    have h5:¬szW xs≤left:=by omega
    clear hle hsu hsl
    simp-implicitDefEqProofs[hg,hw2,h3,h5]
  ·simp at h1
   have hta:=Dx (xs:=xs) h1
   have h5:szW xs≤left:=by omega
   have h6:((left-xs.length-lb xs i:Nat):Int)=((left-szW xs:Nat):Int):=by omega
   simp-implicitDefEqProofs[h5,h6]
theorem Hl(f:Fd)(hf:f.fit)(left:Nat)(hl:left≤1048576):VF Tryz.prog G jg [.agg (f.cs.map .p),.p (.int .i64 left)] (.p (.int .i64 (bF left (f.sz-1)))):=by
 obtain⟨f1,⟨f2,f3⟩,f4,f5⟩:=hf
 have hec:=f.cs_eq'
 have hsz:f.sz=1+f.name.length+szW f.params+aG f.body:=rfl
 refine AC.go wc ?_
 have hw:IntKind.i64.wrap ((left:Int)-f.name.length)=(left:Int)-f.name.length:=ag (by simp only[BL] at f1;omega) (by omega)
 by_cases h1:f.name.length≤left
 case neg=>
  have h2:(left:Int)-f.name.length<0:=by omega
  rw[bx (by omega)]
  simp-implicitDefEqProofs[ll,hec,hw,h2]
 have h2:¬(left:Int)-f.name.length<0:=by omega
 have e2:(left:Int)-f.name.length=((left-f.name.length:Nat):Int):=by omega
 rw[e2] at h2
 replace hw:=hw.trans e2
 simp-implicitDefEqProofs[ll,hec,hw,h2]
 refine(vR G f.params (left-f.name.length) (by omega) f2 f3).use ?_
 by_cases h3:szW f.params≤left-f.name.length
 case neg=>
  rw[if_neg h3,bx (by omega)]
  simp-implicitDefEqProofs[]
 have n3:¬((left-f.name.length-szW f.params:Nat):Int)<0:=by omega
 rw[if_pos h3]
 simp-implicitDefEqProofs[n3]
 refine(Bq G f.body f5 f4 (left-f.name.length-szW f.params) (by omega)).use ?_
 by_cases h4:aG f.body≤left-f.name.length-szW f.params
 case neg=>
  rw[bx h4,bx (by omega)]
  simp-implicitDefEqProofs[]
 have n4:¬((left-f.name.length-szW f.params-aG f.body:Nat):Int)<0:=by omega
 rw[du h4,du (by omega)]
 simp-implicitDefEqProofs[n4]
 omega
def Hv(l:List Fd):Prop:=l.length≤BL∧∀f∈l,f.fit
theorem xa(l:List Fd)(hf:Hv l)(left:Nat)(hl:left≤1048576):VF Tryz.prog G dQ [.agg [.p (fdL l)],.p (.int .i64 left)] (.p (.int .i64 (bF left (bm l)))):=by
 have hS:=EI G l left hl hf.1 (fun f hm left hl=>Hl G f (hf.2 f hm) left hl)
 refine AC.go qc ?_
 simp-implicitDefEqProofs[jN]
 refine hS.use ?_
 by_cases h:bm l≤left
 ·have n:¬((left-bm l:Nat):Int)<0:=by omega
  rw[du h]
  simp-implicitDefEqProofs[n]
 ·rw[bx h]
  simp-implicitDefEqProofs[]
theorem Dw:∀(N:Nat) (e:Ex),e.sz≤N→e.sz≤1048576→VF Tryz.prog G dt [.agg (e.cs.map .p)] (.agg (e.cs.map .p)):=by
 intro N
 induction N with
 |zero=>intro e he;have:=e.sz_pos;omega
 |succ N ih=>
  intro e he hb
  have hec:=e.cs_eq
  have hsz:=e.sz_eq
  have hkl:=bt e.kids
  have hS:=uf G e.kids (by omega) (fun x hx=>ih x (by have:=aW hx;omega) (by have:=aW hx;omega))
  refine AC.go nD ?_
  simp-implicitDefEqProofs[jE,hec]
  refine hS.use ?_
  simp-implicitDefEqProofs[]
theorem AF(l:List Ex)(hb:bK l≤1048576):VF Tryz.prog G bN [.p (exL l)] (.p (exL l)):=
 uf G l (by have:=bt l;omega) (fun e he=>Dw G e.sz e (Nat.le_refl _) (by have:=aW he;omega))
theorem DD:∀(N:Nat) (e:Sm),e.sz≤N→e.sz≤1048576→VF Tryz.prog G dv [.agg (e.cs.map .p)] (.agg (e.cs.map .p)):=by
 intro N
 induction N with
 |zero=>intro e he;have:=e.sz_pos;omega
 |succ N ih=>
  intro e he hb
  have hec:=e.cs_eq
  have hsz:=e.sz_eq
  have h1:=bv e.body
  have h2:=bv e.els
  have hB:=pJ G e.body (by omega) (fun x hx=>ih x (by have:=aV hx;omega) (by have:=aV hx;omega))
  have hE:=pJ G e.els (by omega) (fun x hx=>ih x (by have:=aV hx;omega) (by have:=aV hx;omega))
  refine AC.go nH ?_
  simp-implicitDefEqProofs[jz,hec]
  refine(AF G e.args (by omega)).use ?_
  simp-implicitDefEqProofs[]
  refine hB.use ?_
  simp-implicitDefEqProofs[]
  refine hE.use ?_
  simp-implicitDefEqProofs[]
theorem Bu(l:List Sm)(hb:aG l≤1048576):VF Tryz.prog G bq [.p (smL l)] (.p (smL l)):=
 pJ G l (by have:=bv l;omega) (fun e he=>DD G e.sz e (Nat.le_refl _) (by have:=aV he;omega))
def jK(l:List (List UInt8))(i:Nat):List (List UInt8):=l.take i++List.replicate (l.length-i) []
theorem Bh{l:List (List UInt8)}{i:Nat}(h:i<l.length):(jK l i).set i l[i]=jK l (i+1):=by
 have hl:(l.take i).length=i:=by simp;omega
 have e:l.length-i=(l.length-(i+1))+1:=by omega
 show(l.take i++List.replicate (l.length-i) []).set i l[i]=l.take (i+1)++List.replicate (l.length-(i+1)) []
 rw[List.set_append_right _ _ (by omega),hl,Nat.sub_self,e,List.replicate_succ,List.set_cons_zero,al h,List.append_assoc]
 rfl
theorem AP{l:List (List UInt8)}{i:Nat}(h:i<l.length):(jK l i)[i]?=some []:=by
 have hl:(l.take i).length=i:=by simp;omega
 rw[jK,List.getElem?_append_right (by omega),hl,Nat.sub_self,List.getElem?_replicate,if_pos (by omega)]
theorem Bc{l:List (List UInt8)}{i:Nat}(h:i≤l.length):(jK l i).length=l.length:=by simp[jK];omega
theorem qE(l:List (List UInt8))(hb:l.length≤1048576):AC Tryz.prog G cM [.p (ay l)] [] fun x h=>x= .ret (.sl 0 1 0 l.length)∧h=[mT l]:=by
 refine AC.go pX ?_
 have hbl:ay l= .lst 1 (l.map fun n=>[.str n]):=rfl
 simp-implicitDefEqProofs[kj,hbl]
 refine⟨by omega,?_⟩
 refine az (fun i:Nat=>aj 22 [(0,.p (ay l)),(3,.sl 0 1 0 l.length),(4,.p (.int .i64 i))]) (fun i=>[mT (jK l i)]) (fun i=>i≤l.length) (fun i=>l.length-i) 0 (by simp) ?_ ?_
 ·refine eJ [0] rfl (by simp) (bJ (by simp[jK]) (by simp) cP) ?_
  simp[below,ren,ay]
 ·intro i hi
  have hlen:=Bc hi
  simp-implicitDefEqProofs[hbl]
  refine bi (fun h1=>?_) (fun h1=>?_)
  ·simp at h1
   have hg:=List.getElem?_eq_getElem h1
   have hg2:=AP h1
   have hset:((jK l i).map fun n=>[AV.p (.str n)]).set i [.p (.str l[i])]=(jK l (i+1)).map fun n=>[AV.p (.str n)]:=by rw[←Bh h1,List.map_set]
   have hbo:mT (jK l i)= .row 1 ((jK l i).map fun n=>[.p (.str n)]):=rfl
   clear hlen
   simp-implicitDefEqProofs[hg,hbo,hg2,h1,hset]
   refine⟨i+1,h1,by omega,eJ [0] rfl (by simp) (bJ rfl (by simp) cP) ?_⟩
   simp[below,ren,ay,w1 (i:=i) (by omega)]
  ·simp at h1
   have:i=l.length:=by omega
   subst this
   simp-implicitDefEqProofs[jK]
theorem wT(l:List (List UInt8))(hb:l.length≤1048576):VF Tryz.prog G cM [.p (ay l)] (.p (ay l)):=AC.freeze (qE G l hb) (.one (uh rfl) .nil)
theorem Hj(f:Fd)(hb:f.sz≤1048576):VF Tryz.prog G fd [.agg (f.cs.map .p)] (.agg (f.cs.map .p)):=by
 have hec:=f.cs_eq'
 have hsz:f.sz=1+f.name.length+szW f.params+aG f.body:=rfl
 have hw:szW f.params=f.params.length+(f.params.map List.length).sum:=rfl
 refine AC.go qB ?_
 simp-implicitDefEqProofs[md,hec]
 refine(wT G f.params (by omega)).use ?_
 simp-implicitDefEqProofs[]
 refine(Bu G f.body (by omega)).use ?_
 simp-implicitDefEqProofs[]
theorem wW(l:List Fd)(hb:bm l≤1048576):VF Tryz.prog G bH [.agg [.p (fdL l)]] (.agg [.p (fdL l)]):=by
 have hS:=EH G l (by have:=cK l;omega) (fun f hm=>Hj G f (by have:=dh hm;omega))
 refine AC.go jI ?_
 simp-implicitDefEqProofs[fV]
 refine hS.use ?_
 simp-implicitDefEqProofs[]
theorem Da:∀(N:Nat) (e:Ex),e.sz≤N→e.sz≤1048576→VF Tryz.prog G gv [.agg (e.cs.map .p),.agg (e.cs.map .p)] (.p (.bool true)):=by
 intro N
 induction N with
 |zero=>intro e he;have:=e.sz_pos;omega
 |succ N ih=>
  intro e he hb
  have hec:=e.cs_eq
  have hsz:=e.sz_eq
  have hkl:=bt e.kids
  have hS:=uA G e.kids (by omega) (fun x hx=>ih x (by have:=aW hx;omega) (by have:=aW hx;omega))
  refine AC.go tv ?_
  simp-implicitDefEqProofs[nA,hec]
  refine hS.use ?_
  simp-implicitDefEqProofs[]
theorem Ae(l:List Ex)(hb:bK l≤1048576):VF Tryz.prog G dI [.p (exL l),.p (exL l)] (.p (.bool true)):=
 uA G l (by have:=bt l;omega) (fun e he=>Da G e.sz e (Nat.le_refl _) (by have:=aW he;omega))
theorem Dg:∀(N:Nat) (e:Sm),e.sz≤N→e.sz≤1048576→VF Tryz.prog G gn [.agg (e.cs.map .p),.agg (e.cs.map .p)] (.p (.bool true)):=by
 intro N
 induction N with
 |zero=>intro e he;have:=e.sz_pos;omega
 |succ N ih=>
  intro e he hb
  have hec:=e.cs_eq
  have hsz:=e.sz_eq
  have h1:=bv e.body
  have h2:=bv e.els
  have hB:=qj G e.body (by omega) (fun x hx=>ih x (by have:=aV hx;omega) (by have:=aV hx;omega))
  have hE:=qj G e.els (by omega) (fun x hx=>ih x (by have:=aV hx;omega) (by have:=aV hx;omega))
  refine AC.go tJ ?_
  simp-implicitDefEqProofs[nC,hec]
  refine(Ae G e.args (by omega)).use ?_
  simp-implicitDefEqProofs[]
  refine hB.use ?_
  simp-implicitDefEqProofs[]
  refine hE.use ?_
  simp-implicitDefEqProofs[]
theorem Ba(l:List Sm)(hb:aG l≤1048576):VF Tryz.prog G cJ [.p (smL l),.p (smL l)] (.p (.bool true)):=
 qj G l (by have:=bv l;omega) (fun e he=>Dg G e.sz e (Nat.le_refl _) (by have:=aV he;omega))
theorem wL(xs:List (List UInt8))(hb:xs.length≤1048576):VF Tryz.prog G fX [.p (ay xs),.p (ay xs)] (.p (.bool true)):=by
 refine AC.go pN ?_
 have hsl:ay xs= .lst 1 (xs.map fun w=>[.str w]):=rfl
 simp-implicitDefEqProofs[jX,hsl]
 refine az (fun i:Nat=>aj 26 [(0,.p (ay xs)),(1,.p (ay xs)),(5,.p (.int .i64 i))]) (fun _=>[]) (fun i=>i≤xs.length) (fun i=>xs.length-i) 0 (by simp) (aC rfl (by simp[below,hsl])) ?_
 intro i hi
 simp-implicitDefEqProofs[hsl]
 refine bi (fun h1=>?_) (fun h1=>?_)
 ·simp at h1
  have hx:=List.getElem?_eq_getElem h1
  generalize xs[i]=v at hx
  simp-implicitDefEqProofs[hx]
  exact⟨i+1,h1,by omega,aC rfl (by simp[below,hsl,w1 (i:=i) (by omega)])⟩
 ·simp at h1
  simp-implicitDefEqProofs[]
theorem GV(f:Fd)(hb:f.sz≤1048576):VF Tryz.prog G je [.agg (f.cs.map .p),.agg (f.cs.map .p)] (.p (.bool true)):=by
 have hec:=f.cs_eq'
 have hsz:f.sz=1+f.name.length+szW f.params+aG f.body:=rfl
 have hw:szW f.params=f.params.length+(f.params.map List.length).sum:=rfl
 refine AC.go xG ?_
 simp-implicitDefEqProofs[qR,hec]
 refine(wL G f.params (by omega)).use ?_
 simp-implicitDefEqProofs[]
 refine(Ba G f.body (by omega)).use ?_
 simp-implicitDefEqProofs[]
theorem qM(l:List Fd)(hb:bm l≤1048576):VF Tryz.prog G cg [.agg [.p (fdL l)],.agg [.p (fdL l)]] (.p (.bool true)):=by
 have hS:=EW G l (by have:=cK l;omega) (fun f hm=>GV G f (by have:=dh hm;omega))
 refine AC.go qq ?_
 simp-implicitDefEqProofs[jH]
 refine hS.use ?_
 simp-implicitDefEqProofs[]
end Go.Proofs.YtiojgfhdcpppcaaGreatDoor
namespace Go.Proofs.YtiojgfhdcpppcaaGreatDoor
open Go Go.Aw Go.ChangeShapes Go.WideShapes Go.ChangeAt Go.RowKit
set_option maxRecDepth 100000
abbrev DZ:TypeId:=24
abbrev FX:TypeId:=22
abbrev Fv:TypeId:=111
abbrev yB:TypeId:=54
abbrev ua:TypeId:=9
abbrev oX:TypeId:=109
abbrev iY:TypeId:=185
abbrev rA:TypeId:=183
abbrev lr:TypeId:=225
abbrev wn:TypeId:=3
abbrev Hq:TypeId:=4
abbrev yt:TypeId:=177
abbrev DY:TypeId:=232
abbrev Fz:TypeId:=233
theorem Jj:Kids Tryz.prog (· <Tryz.prog.types.size):=kids_rows (by kernel_rfl) (by kernel_rfl)
theorem IX:∀t e,t<Tryz.prog.types.size→Tryz.prog.underlying t=some (.slice e)→0<Tryz.prog.cellsOf e:=slices_full_of Tryz.prog (by kernel_rfl)
def CT:List TypeId:=[DZ,FX,Fv,yB,ua,oX,iY,rA,lr,wn,Hq,yt,DY]
theorem yO:Plain Tryz.prog CT=true:=by kernel_rfl
theorem Kq:ownKnob Tryz.prog.godebug=none:=by kernel_rfl
theorem rQ{H:Type}:∀l:List (DataW H),Rows.uptoBulkAll l=(l.map Rows.uptoBulk).sum
 |[]=>by simp[Rows.uptoBulkAll]
 |d::r=>by simp[Rows.uptoBulkAll,rQ r]
theorem Ei{H:Type}:BulkOk (Rows.uptoBulk (H:=H)) where
 lit:=fun l=>by cases l<;>simp[Rows.uptoBulk]
 str:=fun s=>by simp[Rows.uptoBulk]
 nil:=by simp[Rows.uptoBulk]
 slice:=fun es sp=>by simp only[Rows.uptoBulk,rQ];omega
 agg:=fun ps=>by simp only[Rows.uptoBulk,rQ];omega
theorem iN{t e:TypeId}{vs:List PV}(h:Conf Tryz.prog t vs)(hu:Tryz.prog.underlying t=some (.slice e)):∃es,vs=[.lst (Tryz.prog.cellsOf e) es]∧es.length≤9223372036854775807∧∀x∈es,Conf Tryz.prog e x:=by
 cases h with
 |sl es e' hl hs=>rw[hu] at e';cases e';exact⟨es,rfl,hl,hs⟩
 |bool b e=>rw[e] at hu;cases hu
 |int n e=>rw[e] at hu;cases hu
 |str s e=>rw[e] at hu;cases hu
 |st vs e=>rw[e] at hu;cases hu
 |arr vs e=>rw[e] at hu;cases hu
theorem AG{vs:List PV}(h:Conf Tryz.prog yB vs):∃l:List (List UInt8),vs=[ay l]∧l.length≤9223372036854775807∧∀x∈l,x.length≤9223372036854775807:=by
 obtain⟨es,rfl,hl,h4⟩:=iN h (e:=ua) (by kernel_rfl)
 have hk:∀x∈es,∃s:List UInt8,x=[PV.str s]∧s.length≤maxLen:=fun x hx=>pk (h4 x hx) (by kernel_rfl)
 obtain⟨l,rfl⟩:=zd (fun s:List UInt8=>[PV.str s]) (fun x hx=>by obtain⟨n,e,_⟩:=hk x hx;exact⟨n,e⟩)
 rw[show Tryz.prog.cellsOf ua=1 by kernel_rfl]
 refine⟨l,rfl,by rwa[List.length_map] at hl,fun s hs=>?_⟩
 obtain⟨m,e,hw⟩:=hk [PV.str s] (List.mem_map.2 ⟨s,hs,rfl⟩)
 cases e
 exact hw
theorem iF{α β:Type}(g:β→α)(p:β→Prop):∀{es:List α},(∀x∈es,∃m,x=g m∧p m)→∃ms:List β,es=ms.map g∧∀m∈ms,p m
 |[],_=>⟨[],rfl,fun m hm=>by cases hm⟩
 |e::r,h=>by
  obtain⟨m,hm,hp⟩:=h e (by simp)
  obtain⟨ms,hms,hps⟩:=iF g p (es:=r) fun x hx=>h x (by simp[hx])
  exact⟨m::ms,by simp[hm,hms],fun x hx=>by
   rcases List.mem_cons.1 hx with rfl|hx
   ·exact hp
   ·exact hps x hx⟩
theorem qi:∀{l:List Ex},(∀e∈l,e.fit)→kr l
 |[],_=>trivial
 |e::r,h=>⟨h e (by simp),qi fun x hx=>h x (by simp[hx])⟩
theorem mM:∀{l:List Sm},(∀e∈l,e.fit)→iT l
 |[],_=>trivial
 |e::r,h=>⟨h e (by simp),mM fun x hx=>h x (by simp[hx])⟩
theorem tj{x:List PV}{es:List (List PV)}(h:x∈es)(sz:Nat):SizeOf.sizeOf x<SizeOf.sizeOf [PV.lst sz es]:=by
 have:=List.sizeOf_lt_of_mem h
 simp
 omega
theorem ER:∀(n:Nat) (vs:List PV),SizeOf.sizeOf vs<n→Conf Tryz.prog lr vs→∃e:Ex,vs=e.cs∧e.fit:=by
 intro n
 induction n with
 |zero=>intro vs h;omega
 |succ n ih=>
  intro vs hn h
  have h:=rt (ts:=[wn,wn,ua,rA]) h (by kernel_rfl)
  obtain⟨a,r,rfl,h1,h⟩:=bI h
  obtain⟨b,r,rfl,h2,h⟩:=bI h
  obtain⟨c,r,rfl,h3,h⟩:=bI h
  obtain⟨d,r,rfl,h4,h⟩:=bI h
  cases mv h
  obtain⟨n1,rfl,_⟩:=sm h1 (k:= .i64) (by kernel_rfl)
  obtain⟨n2,rfl,_⟩:=sm h2 (k:= .i64) (by kernel_rfl)
  obtain⟨s,rfl,l3⟩:=pk h3 (by kernel_rfl)
  obtain⟨es,rfl,l4,h5⟩:=iN h4 (e:=lr) (by kernel_rfl)
  have hs1:SizeOf.sizeOf [PV.lst (Tryz.prog.cellsOf lr) es]<n+1:=by simp at hn⊢;omega
  obtain⟨l,rfl,hl⟩:=iF Ex.cs Ex.fit (fun x hx=>ih x (by have:=tj hx (Tryz.prog.cellsOf lr);omega) (h5 x hx))
  refine⟨⟨n1,n2,s,l⟩,?_,?_⟩
  ·rw[show Tryz.prog.cellsOf lr=4 by kernel_rfl,Ex.cs_eq];rfl
  ·exact⟨l3,by rwa[List.length_map] at l4,qi hl⟩
theorem BM{vs:List PV}(h:Conf Tryz.prog rA vs):∃l:List Ex,vs=[exL l]∧l.length≤BL∧kr l:=by
 obtain⟨es,rfl,l4,h5⟩:=iN h (e:=lr) (by kernel_rfl)
 obtain⟨l,rfl,hl⟩:=iF Ex.cs Ex.fit (fun x hx=>ER _ x (Nat.lt_succ_self _) (h5 x hx))
 rw[show Tryz.prog.cellsOf lr=4 by kernel_rfl]
 exact⟨l,rfl,by rwa[List.length_map] at l4,qi hl⟩
theorem Fa:∀(n:Nat) (vs:List PV),SizeOf.sizeOf vs<n→Conf Tryz.prog iY vs→∃e:Sm,vs=e.cs∧e.fit:=by
 intro n
 induction n with
 |zero=>intro vs h;omega
 |succ n ih=>
  intro vs hn h
  have h:=rt (ts:=[wn,ua,rA,oX,oX]) h (by kernel_rfl)
  obtain⟨a,r,rfl,h1,h⟩:=bI h
  obtain⟨b,r,rfl,h2,h⟩:=bI h
  obtain⟨c,r,rfl,h3,h⟩:=bI h
  obtain⟨d,r,rfl,h4,h⟩:=bI h
  obtain⟨d',r,rfl,h4',h⟩:=bI h
  cases mv h
  obtain⟨n1,rfl,_⟩:=sm h1 (k:= .i64) (by kernel_rfl)
  obtain⟨s,rfl,l3⟩:=pk h2 (by kernel_rfl)
  obtain⟨ar,rfl,la,fa⟩:=BM h3
  obtain⟨es,rfl,l4,h5⟩:=iN h4 (e:=iY) (by kernel_rfl)
  obtain⟨es',rfl,l4',h5'⟩:=iN h4' (e:=iY) (by kernel_rfl)
  have hs1:SizeOf.sizeOf [PV.lst (Tryz.prog.cellsOf iY) es]<n+1:=by simp at hn⊢;omega
  have hs2:SizeOf.sizeOf [PV.lst (Tryz.prog.cellsOf iY) es']<n+1:=by simp at hn⊢;omega
  obtain⟨l,rfl,hl⟩:=iF Sm.cs Sm.fit (fun x hx=>ih x (by have:=tj hx (Tryz.prog.cellsOf iY);omega) (h5 x hx))
  obtain⟨l',rfl,hl'⟩:=iF Sm.cs Sm.fit (fun x hx=>ih x (by have:=tj hx (Tryz.prog.cellsOf iY);omega) (h5' x hx))
  refine⟨⟨n1,s,ar,l,l'⟩,?_,?_⟩
  ·rw[show Tryz.prog.cellsOf iY=5 by kernel_rfl,Sm.cs_eq];rfl
  ·exact⟨l3,⟨la,fa⟩,⟨by rwa[List.length_map] at l4,mM hl⟩,⟨by rwa[List.length_map] at l4',mM hl'⟩⟩
theorem CY{vs:List PV}(h:Conf Tryz.prog oX vs):∃l:List Sm,vs=[smL l]∧l.length≤BL∧iT l:=by
 obtain⟨es,rfl,l4,h5⟩:=iN h (e:=iY) (by kernel_rfl)
 obtain⟨l,rfl,hl⟩:=iF Sm.cs Sm.fit (fun x hx=>Fa _ x (Nat.lt_succ_self _) (h5 x hx))
 rw[show Tryz.prog.cellsOf iY=5 by kernel_rfl]
 exact⟨l,rfl,by rwa[List.length_map] at l4,mM hl⟩
theorem Ek{vs:List PV}(h:Conf Tryz.prog Fv vs):∃f:Fd,vs=f.cs∧f.fit:=by
 have h:=rt (ts:=[ua,yB,oX]) h (by kernel_rfl)
 obtain⟨a,r,rfl,h1,h⟩:=bI h
 obtain⟨b,r,rfl,h2,h⟩:=bI h
 obtain⟨c,r,rfl,h3,h⟩:=bI h
 cases mv h
 obtain⟨s,rfl,l1⟩:=pk h1 (by kernel_rfl)
 obtain⟨ws,rfl,l2,w2⟩:=AG h2
 obtain⟨bd,rfl,l3,f3⟩:=CY h3
 exact⟨⟨s,ws,bd⟩,rfl,l1,⟨l2,w2⟩,l3,f3⟩
theorem BB{vs:List PV}(h:Conf Tryz.prog DZ vs):∃l:List Fd,vs=[fdL l]∧Hv l:=by
 have h:=rt (ts:=[FX]) h (by kernel_rfl)
 obtain⟨a,r,rfl,h1,h⟩:=bI h
 cases mv h
 obtain⟨es,rfl,l4,h5⟩:=iN h1 (e:=Fv) (by kernel_rfl)
 obtain⟨l,rfl,hl⟩:=iF Fd.cs Fd.fit (fun x hx=>Ek (h5 x hx))
 rw[show Tryz.prog.cellsOf Fv=3 by kernel_rfl]
 exact⟨l,rfl,by rwa[List.length_map] at l4,hl⟩
def G0:aA:=fun g=>if g=fN then some fD else if g=di then some [.tbl opK opV] else none
theorem GY:∀k,fO Tryz.prog (k+10) yt (Rows.laid_loop_example_wholeway_impl_keys (H:=Unit))=fD:=fun k=>by kernel_rfl
theorem Kz{W:World}{laid:List (String × DataW Unit)}(hL:laidMet Tryz.prog laid W)(h1:("loop.example/wholeway/impl.keys",Rows.laid_loop_example_wholeway_impl_keys)∈laid)(h2:("loop.example/wholeway/impl.opSign",Rows.laid_loop_example_wholeway_impl_opSign)∈laid):
 ∀g cs,G0 g=some cs→g<W.heap.size∧∀(j:Nat) (c:PV),cs[j]?=some c→∃v,W.cell? ⟨g,j,none⟩=some v∧PRel W (· <W.heap.size) c v:=by
 intro g cs h
 unfold G0 at h
 split at h
 ·rename_i e;subst e;cases h
  exact AZ yO hL (n:= "loop.example/wholeway/impl.keys") (d:=Rows.laid_loop_example_wholeway_impl_keys) (t:=yt) h1 (by kernel_rfl) (by kernel_rfl) (by decide) GY
 ·split at h
  ·rename_i e;subst e;cases h
   exact Dh yO hL (n:= "loop.example/wholeway/impl.opSign") h2 (t:=Fz) (k:=wn) (e:=DY) (by kernel_rfl) (by kernel_rfl) (by kernel_rfl) (.inl ⟨.i64,by kernel_rfl⟩) (by decide) (by kernel_rfl) (by kernel_rfl) (fun m=>by kernel_rfl)
  ·cases h
end Go.Proofs.YtiojgfhdcpppcaaGreatDoor
namespace Go.Proofs.YtiojgfhdcpppcaaGreatDoor
open Go Go.Aw
set_option maxRecDepth 100000
abbrev aL:FuncId:=92
abbrev dg:FuncId:=93
abbrev dS:FuncId:=142
abbrev cQ:FuncId:=94
abbrev iB:FuncId:=51
abbrev cZ:FuncId:=18
abbrev fc:FuncId:=115
abbrev dR:FuncId:=151
abbrev cL:FuncId:=116
abbrev iy:FuncId:=71
abbrev dc:FuncId:=27
abbrev dA:FuncId:=6
def gM:FK:=⟨20,[.t 2],
 .seq (.reg [oJ 2 (.mov (.c (.p (.str []))))])
 (.seq (.seq (.reg [oM 4 0,
   oJ 5 (.bin .leq (.t 4) (.c (.p (.int .i64 0))))])
 (.cond (.t 5)
  (.seq (.reg [oJ 2 (.mov (.c (.p (.str [109,48]))))])
  (.ret))
  (.skip)))
 (.seq (.reg [oJ 3 (.mov (.c (.p (.str []))))])
 (.seq (.blk 0 (.loop (.seq (.seq (.reg [oM 6 0,
   oJ 7 (.bin .gtr (.t 6) (.c (.p (.int .i64 0))))])
 (.cond (.t 7)
  (.skip)
  (.exit 0)))
 (.blk 1 (.seq (.reg [oM 8 0,
   oJ 9 (.bin .rem (.t 8) (.c (.p (.int .i64 10)))),
   oJ 10 (.bin .add (.c (.p (.int .i64 48))) (.t 9)),
   oJ 11 (.conv .u8 (.t 10)),
   oJ 12 (.bsl 1 [(.p (.int .u8 0))] 1 [(0,1,(.t 11))]),
   oJ 13 (.btos (.t 12)),
   oM 14 3,
   oJ 15 (.bins .add (.t 13) (.t 14)),
   oM 3 15])
 (.reg [oM 16 0,
   oJ 17 (.bin .quo (.t 16) (.c (.p (.int .i64 10)))),
   oM 0 17]))))))
 (.seq (.reg [oM 18 3,
   oJ 19 (.bins .add (.c (.p (.str [109]))) (.t 18)),
   oM 2 19])
 (.ret)))))⟩
theorem rn:af Tryz.prog aL=some gM:=by kernel_rfl
def dd:FK:=⟨20,[.t 4],
 .seq (.reg [oK 4 0])
 (.seq (.seq (.reg [oK 5 0])
 (.blk 0 (.loop (.seq (.seq (.reg [oM 6 5,
   oM 7 0,
   oJ 8 (.len false (.t 7)),
   oJ 9 (.bin .lss (.t 6) (.t 8))])
 (.cond (.t 9)
  (.skip)
  (.exit 0)))
 (.seq (.blk 1 (.seq (.reg [oM 12 0,
   oM 13 5,
   oM 14 1,
   oJ 15 (.call aL [(.t 14)]),
   oJ 16 (.idxS 1 (.t 12) (.t 13)),
   oS 16 15])
 (.reg [oM 17 1,
   oJ 18 (.bin .add (.t 17) (.c (.p (.int .i64 1)))),
   oM 1 18])))
 (.reg [oM 10 5,
   oJ 11 (.bin .add (.t 10) (.c (.p (.int .i64 1)))),
   oM 5 11]))))))
 (.seq (.reg [oM 19 1,
   oM 4 19])
 (.ret)))⟩
theorem db:af Tryz.prog dg=some dd:=by kernel_rfl
def dT:FK:=⟨42,[.t 4],
 .seq (.reg [oK 4 0])
 (.seq (.seq (.reg [oK 5 0])
 (.blk 0 (.loop (.seq (.seq (.reg [oM 6 5,
   oM 7 0,
   oJ 8 (.len false (.t 7)),
   oJ 9 (.bin .lss (.t 6) (.t 8))])
 (.cond (.t 9)
  (.skip)
  (.exit 0)))
 (.seq (.blk 1 (.seq (.reg [oM 12 0,
   oM 13 5,
   oM 14 1,
   oJ 15 (.idxS 4 (.t 12) (.t 13)),
   oF 16 0 15,
   oS 16 14])
 (.seq (.reg [oM 17 1,
   oJ 18 (.bin .add (.t 17) (.c (.p (.int .i64 1)))),
   oM 1 18])
 (.seq (.reg [oM 19 0,
   oM 20 5,
   oM 21 1,
   oJ 22 (.idxS 4 (.t 19) (.t 20)),
   oF 23 1 22,
   oS 23 21])
 (.seq (.reg [oM 24 1,
   oJ 25 (.bin .add (.t 24) (.c (.p (.int .i64 1)))),
   oM 1 25])
 (.seq (.reg [oM 26 0,
   oM 27 5,
   oM 28 1,
   oJ 29 (.call aL [(.t 28)]),
   oJ 30 (.idxS 4 (.t 26) (.t 27)),
   oF 31 2 30,
   oS 31 29])
 (.seq (.reg [oM 32 1,
   oJ 33 (.bin .add (.t 32) (.c (.p (.int .i64 1)))),
   oM 1 33])
 (.reg [oM 34 0,
   oM 35 5,
   oJ 36 (.idxS 4 (.t 34) (.t 35)),
   oF 37 3 36,
   oL 38 37,
   oM 39 1,
   oJ 40 (.call dS [(.t 38),(.t 39)]),
   oM 1 40]))))))))
 (.reg [oM 10 5,
   oJ 11 (.bin .add (.t 10) (.c (.p (.int .i64 1)))),
   oM 5 11]))))))
 (.seq (.reg [oM 41 1,
   oM 4 41])
 (.ret)))⟩
theorem fT:af Tryz.prog dS=some dT:=by kernel_rfl
def dX:FK:=⟨49,[.t 4],
 .seq (.reg [oK 4 0])
 (.seq (.seq (.reg [oK 5 0])
 (.blk 0 (.loop (.seq (.seq (.reg [oM 6 5,
   oM 7 0,
   oJ 8 (.len false (.t 7)),
   oJ 9 (.bin .lss (.t 6) (.t 8))])
 (.cond (.t 9)
  (.skip)
  (.exit 0)))
 (.seq (.blk 1 (.seq (.reg [oM 12 0,
   oM 13 5,
   oM 14 1,
   oJ 15 (.idxS 5 (.t 12) (.t 13)),
   oF 16 0 15,
   oS 16 14])
 (.seq (.reg [oM 17 1,
   oJ 18 (.bin .add (.t 17) (.c (.p (.int .i64 1)))),
   oM 1 18])
 (.seq (.reg [oM 19 0,
   oM 20 5,
   oM 21 1,
   oJ 22 (.call aL [(.t 21)]),
   oJ 23 (.idxS 5 (.t 19) (.t 20)),
   oF 24 1 23,
   oS 24 22])
 (.seq (.reg [oM 25 1,
   oJ 26 (.bin .add (.t 25) (.c (.p (.int .i64 1)))),
   oM 1 26])
 (.seq (.reg [oM 27 0,
   oM 28 5,
   oJ 29 (.idxS 5 (.t 27) (.t 28)),
   oF 30 2 29,
   oL 31 30,
   oM 32 1,
   oJ 33 (.call dS [(.t 31),(.t 32)]),
   oM 1 33])
 (.seq (.reg [oM 34 0,
   oM 35 5,
   oJ 36 (.idxS 5 (.t 34) (.t 35)),
   oF 37 3 36,
   oL 38 37,
   oM 39 1,
   oJ 40 (.call cQ [(.t 38),(.t 39)]),
   oM 1 40])
 (.reg [oM 41 0,
   oM 42 5,
   oJ 43 (.idxS 5 (.t 41) (.t 42)),
   oF 44 4 43,
   oL 45 44,
   oM 46 1,
   oJ 47 (.call cQ [(.t 45),(.t 46)]),
   oM 1 47]))))))))
 (.reg [oM 10 5,
   oJ 11 (.bin .add (.t 10) (.c (.p (.int .i64 1)))),
   oM 5 11]))))))
 (.seq (.reg [oM 48 1,
   oM 4 48])
 (.ret)))⟩
theorem gb:af Tryz.prog cQ=some dX:=by kernel_rfl
def fx:FK:=⟨35,[.t 4],
 .seq (.reg [oK 4 0])
 (.seq (.seq (.reg [oK 5 0])
 (.blk 0 (.loop (.seq (.seq (.reg [oM 6 5,
   oM 7 0,
   oJ 8 (.len false (.t 7)),
   oJ 9 (.bin .lss (.t 6) (.t 8))])
 (.cond (.t 9)
  (.skip)
  (.exit 0)))
 (.seq (.blk 1 (.seq (.reg [oM 12 0,
   oM 13 5,
   oM 14 1,
   oJ 15 (.call aL [(.t 14)]),
   oJ 16 (.idxS 3 (.t 12) (.t 13)),
   oF 17 0 16,
   oS 17 15])
 (.seq (.reg [oM 18 1,
   oJ 19 (.bin .add (.t 18) (.c (.p (.int .i64 1)))),
   oM 1 19])
 (.seq (.reg [oM 20 0,
   oM 21 5,
   oJ 22 (.idxS 3 (.t 20) (.t 21)),
   oF 23 1 22,
   oL 24 23,
   oM 25 1,
   oJ 26 (.call dg [(.t 24),(.t 25)]),
   oM 1 26])
 (.reg [oM 27 0,
   oM 28 5,
   oJ 29 (.idxS 3 (.t 27) (.t 28)),
   oF 30 2 29,
   oL 31 30,
   oM 32 1,
   oJ 33 (.call cQ [(.t 31),(.t 32)]),
   oM 1 33])))))
 (.reg [oM 10 5,
   oJ 11 (.bin .add (.t 10) (.c (.p (.int .i64 1)))),
   oM 5 11]))))))
 (.seq (.reg [oM 34 1,
   oM 4 34])
 (.ret)))⟩
theorem iQ:af Tryz.prog iB=some fx:=by kernel_rfl
def iW:FK:=⟨10,[.t 4],
 .seq (.reg [oJ 2 (.box 1 (.t 0)),
  oK 4 0])
 (.seq (.reg [oF 5 0 2,
   oL 6 5,
   oM 7 1,
   oJ 8 (.call iB [(.t 6),(.t 7)]),
   oM 1 8])
 (.seq (.reg [oM 9 1,
   oM 4 9])
 (.ret)))⟩
theorem nV:af Tryz.prog cZ=some iW:=by kernel_rfl
def iz:FK:=⟨22,[.t 4],
 .seq (.reg [oK 4 0])
 (.seq (.seq (.reg [oK 5 0])
 (.blk 0 (.loop (.seq (.seq (.reg [oM 6 5,
   oM 7 0,
   oJ 8 (.len false (.t 7)),
   oJ 9 (.bin .lss (.t 6) (.t 8))])
 (.cond (.t 9)
  (.skip)
  (.exit 0)))
 (.seq (.blk 1 (.seq (.seq (.reg [oM 12 0,
   oM 13 5,
   oJ 14 (.idxS 1 (.t 12) (.t 13)),
   oM 16 1,
   oL 15 14,
   oJ 17 (.call aL [(.t 16)]),
   ⟨none,none,.chk none 14 15⟩,
   oJ 18 (.bins .neq (.t 15) (.t 17))])
 (.cond (.t 18)
  (.seq (.reg [oJ 4 (.mov (.c (.p (.int .i64 (-1)))))])
  (.ret))
  (.skip)))
 (.reg [oM 19 1,
   oJ 20 (.bin .add (.t 19) (.c (.p (.int .i64 1)))),
   oM 1 20])))
 (.reg [oM 10 5,
   oJ 11 (.bin .add (.t 10) (.c (.p (.int .i64 1)))),
   oM 5 11]))))))
 (.seq (.reg [oM 21 1,
   oM 4 21])
 (.ret)))⟩
theorem oa:af Tryz.prog fc=some iz:=by kernel_rfl
def kg:FK:=⟨50,[.t 4],
 .seq (.reg [oK 4 0])
 (.seq (.seq (.reg [oK 5 0])
 (.blk 0 (.loop (.seq (.seq (.reg [oM 6 5,
   oM 7 0,
   oJ 8 (.len false (.t 7)),
   oJ 9 (.bin .lss (.t 6) (.t 8))])
 (.cond (.t 9)
  (.skip)
  (.exit 0)))
 (.seq (.blk 1 (.seq (.seq (.reg [oM 12 0,
   oM 13 5,
   oJ 14 (.idxS 4 (.t 12) (.t 13)),
   oF 15 0 14,
   oL 16 15,
   oM 17 1,
   oJ 18 (.bin .neq (.t 16) (.t 17))])
 (.cond (.t 18)
  (.seq (.reg [oJ 4 (.mov (.c (.p (.int .i64 (-1)))))])
  (.ret))
  (.skip)))
 (.seq (.reg [oM 19 1,
   oJ 20 (.bin .add (.t 19) (.c (.p (.int .i64 1)))),
   oM 1 20])
 (.seq (.seq (.reg [oM 21 0,
   oM 22 5,
   oJ 23 (.idxS 4 (.t 21) (.t 22)),
   oF 24 1 23,
   oL 25 24,
   oM 26 1,
   oJ 27 (.bin .neq (.t 25) (.t 26))])
 (.cond (.t 27)
  (.seq (.reg [oJ 4 (.mov (.c (.p (.int .i64 (-1)))))])
  (.ret))
  (.skip)))
 (.seq (.reg [oM 28 1,
   oJ 29 (.bin .add (.t 28) (.c (.p (.int .i64 1)))),
   oM 1 29])
 (.seq (.seq (.reg [oM 30 0,
   oM 31 5,
   oJ 32 (.idxS 4 (.t 30) (.t 31)),
   oF 33 2 32,
   oM 35 1,
   oL 34 33,
   oJ 36 (.call aL [(.t 35)]),
   ⟨none,none,.chk none 33 34⟩,
   oJ 37 (.bins .neq (.t 34) (.t 36))])
 (.cond (.t 37)
  (.seq (.reg [oJ 4 (.mov (.c (.p (.int .i64 (-1)))))])
  (.ret))
  (.skip)))
 (.seq (.reg [oM 38 1,
   oJ 39 (.bin .add (.t 38) (.c (.p (.int .i64 1)))),
   oM 1 39])
 (.seq (.reg [oM 40 0,
   oM 41 5,
   oJ 42 (.idxS 4 (.t 40) (.t 41)),
   oF 43 3 42,
   oL 44 43,
   oM 45 1,
   oJ 46 (.call dR [(.t 44),(.t 45)]),
   oM 1 46])
 (.seq (.reg [oM 47 1,
   oJ 48 (.bin .lss (.t 47) (.c (.p (.int .i64 0))))])
 (.cond (.t 48)
  (.seq (.reg [oJ 4 (.mov (.c (.p (.int .i64 (-1)))))])
  (.ret))
  (.skip)))))))))))
 (.reg [oM 10 5,
   oJ 11 (.bin .add (.t 10) (.c (.p (.int .i64 1)))),
   oM 5 11]))))))
 (.seq (.reg [oM 49 1,
   oM 4 49])
 (.ret)))⟩
theorem qz:af Tryz.prog dR=some kg:=by kernel_rfl
def ka:FK:=⟨59,[.t 4],
 .seq (.reg [oK 4 0])
 (.seq (.seq (.reg [oK 5 0])
 (.blk 0 (.loop (.seq (.seq (.reg [oM 6 5,
   oM 7 0,
   oJ 8 (.len false (.t 7)),
   oJ 9 (.bin .lss (.t 6) (.t 8))])
 (.cond (.t 9)
  (.skip)
  (.exit 0)))
 (.seq (.blk 1 (.seq (.seq (.reg [oM 12 0,
   oM 13 5,
   oJ 14 (.idxS 5 (.t 12) (.t 13)),
   oF 15 0 14,
   oL 16 15,
   oM 17 1,
   oJ 18 (.bin .neq (.t 16) (.t 17))])
 (.cond (.t 18)
  (.seq (.reg [oJ 4 (.mov (.c (.p (.int .i64 (-1)))))])
  (.ret))
  (.skip)))
 (.seq (.reg [oM 19 1,
   oJ 20 (.bin .add (.t 19) (.c (.p (.int .i64 1)))),
   oM 1 20])
 (.seq (.seq (.reg [oM 21 0,
   oM 22 5,
   oJ 23 (.idxS 5 (.t 21) (.t 22)),
   oF 24 1 23,
   oM 26 1,
   oL 25 24,
   oJ 27 (.call aL [(.t 26)]),
   ⟨none,none,.chk none 24 25⟩,
   oJ 28 (.bins .neq (.t 25) (.t 27))])
 (.cond (.t 28)
  (.seq (.reg [oJ 4 (.mov (.c (.p (.int .i64 (-1)))))])
  (.ret))
  (.skip)))
 (.seq (.reg [oM 29 1,
   oJ 30 (.bin .add (.t 29) (.c (.p (.int .i64 1)))),
   oM 1 30])
 (.seq (.reg [oM 31 0,
   oM 32 5,
   oJ 33 (.idxS 5 (.t 31) (.t 32)),
   oF 34 2 33,
   oL 35 34,
   oM 36 1,
   oJ 37 (.call dR [(.t 35),(.t 36)]),
   oM 1 37])
 (.seq (.seq (.reg [oM 38 1,
   oJ 39 (.bin .lss (.t 38) (.c (.p (.int .i64 0))))])
 (.cond (.t 39)
  (.seq (.reg [oJ 4 (.mov (.c (.p (.int .i64 (-1)))))])
  (.ret))
  (.skip)))
 (.seq (.reg [oM 40 0,
   oM 41 5,
   oJ 42 (.idxS 5 (.t 40) (.t 41)),
   oF 43 3 42,
   oL 44 43,
   oM 45 1,
   oJ 46 (.call cL [(.t 44),(.t 45)]),
   oM 1 46])
 (.seq (.seq (.reg [oM 47 1,
   oJ 48 (.bin .lss (.t 47) (.c (.p (.int .i64 0))))])
 (.cond (.t 48)
  (.seq (.reg [oJ 4 (.mov (.c (.p (.int .i64 (-1)))))])
  (.ret))
  (.skip)))
 (.seq (.reg [oM 49 0,
   oM 50 5,
   oJ 51 (.idxS 5 (.t 49) (.t 50)),
   oF 52 4 51,
   oL 53 52,
   oM 54 1,
   oJ 55 (.call cL [(.t 53),(.t 54)]),
   oM 1 55])
 (.seq (.reg [oM 56 1,
   oJ 57 (.bin .lss (.t 56) (.c (.p (.int .i64 0))))])
 (.cond (.t 57)
  (.seq (.reg [oJ 4 (.mov (.c (.p (.int .i64 (-1)))))])
  (.ret))
  (.skip)))))))))))))
 (.reg [oM 10 5,
   oJ 11 (.bin .add (.t 10) (.c (.p (.int .i64 1)))),
   oM 5 11]))))))
 (.seq (.reg [oM 58 1,
   oM 4 58])
 (.ret)))⟩
theorem qr:af Tryz.prog cL=some ka:=by kernel_rfl
def lM:FK:=⟨41,[.t 4],
 .seq (.reg [oK 4 0])
 (.seq (.seq (.reg [oK 5 0])
 (.blk 0 (.loop (.seq (.seq (.reg [oM 6 5,
   oM 7 0,
   oJ 8 (.len false (.t 7)),
   oJ 9 (.bin .lss (.t 6) (.t 8))])
 (.cond (.t 9)
  (.skip)
  (.exit 0)))
 (.seq (.blk 1 (.seq (.seq (.reg [oM 12 0,
   oM 13 5,
   oJ 14 (.idxS 3 (.t 12) (.t 13)),
   oF 15 0 14,
   oM 17 1,
   oL 16 15,
   oJ 18 (.call aL [(.t 17)]),
   ⟨none,none,.chk none 15 16⟩,
   oJ 19 (.bins .neq (.t 16) (.t 18))])
 (.cond (.t 19)
  (.seq (.reg [oJ 4 (.mov (.c (.p (.int .i64 (-1)))))])
  (.ret))
  (.skip)))
 (.seq (.reg [oM 20 1,
   oJ 21 (.bin .add (.t 20) (.c (.p (.int .i64 1)))),
   oM 1 21])
 (.seq (.reg [oM 22 0,
   oM 23 5,
   oJ 24 (.idxS 3 (.t 22) (.t 23)),
   oF 25 1 24,
   oL 26 25,
   oM 27 1,
   oJ 28 (.call fc [(.t 26),(.t 27)]),
   oM 1 28])
 (.seq (.seq (.reg [oM 29 1,
   oJ 30 (.bin .lss (.t 29) (.c (.p (.int .i64 0))))])
 (.cond (.t 30)
  (.seq (.reg [oJ 4 (.mov (.c (.p (.int .i64 (-1)))))])
  (.ret))
  (.skip)))
 (.seq (.reg [oM 31 0,
   oM 32 5,
   oJ 33 (.idxS 3 (.t 31) (.t 32)),
   oF 34 2 33,
   oL 35 34,
   oM 36 1,
   oJ 37 (.call cL [(.t 35),(.t 36)]),
   oM 1 37])
 (.seq (.reg [oM 38 1,
   oJ 39 (.bin .lss (.t 38) (.c (.p (.int .i64 0))))])
 (.cond (.t 39)
  (.seq (.reg [oJ 4 (.mov (.c (.p (.int .i64 (-1)))))])
  (.ret))
  (.skip)))))))))
 (.reg [oM 10 5,
   oJ 11 (.bin .add (.t 10) (.c (.p (.int .i64 1)))),
   oM 5 11]))))))
 (.seq (.reg [oM 40 1,
   oM 4 40])
 (.ret)))⟩
theorem rR:af Tryz.prog iy=some lM:=by kernel_rfl
def iI:FK:=⟨12,[.t 4],
 .seq (.reg [oJ 2 (.box 1 (.t 0)),
  oK 4 0])
 (.seq (.reg [oF 5 0 2,
   oL 6 5,
   oM 7 1,
   oJ 8 (.call iy [(.t 6),(.t 7)]),
   oM 1 8])
 (.seq (.seq (.reg [oM 9 1,
   oJ 10 (.bin .lss (.t 9) (.c (.p (.int .i64 0))))])
 (.cond (.t 10)
  (.seq (.reg [oJ 4 (.mov (.c (.p (.int .i64 (-1)))))])
  (.ret))
  (.skip)))
 (.seq (.reg [oM 11 1,
   oM 4 11])
 (.ret))))⟩
theorem nZ:af Tryz.prog dc=some iI:=by kernel_rfl
def dB:FK:=⟨96,[.t 2],
 .seq (.reg [oJ 1 (.box 1 (.t 0)),
  oJ 2 (.mov (.c (.p (.bool false))))])
 (.seq (.reg [oK 3 1048576])
 (.seq (.reg [oJ 14 (.ld (some 1) (.t 1)),
   oM 15 3,
   oJ 16 (.call dQ [(.t 14),(.t 15)]),
   oM 3 16])
 (.seq (.seq (.reg [oM 17 3,
   oJ 18 (.bin .lss (.t 17) (.c (.p (.int .i64 0))))])
 (.cond (.t 18)
  (.seq (.reg [oJ 2 (.mov (.c (.p (.bool true))))])
  (.ret))
  (.skip)))
 (.seq (.reg [oJ 20 (.ld (some 1) (.t 1)),
   oJ 21 (.call bH [(.t 20)]),
   oJ 22 (.call cB [(.t 21)]),
   oM 19 22,
   oJ 23 (.ext 0 (.t 19)),
   oJ 24 (.ext 1 (.t 19)),
   oJ 4 (.alloc [.nils]),
   oS 4 23,
   oM 5 24])
 (.seq (.reg [oJ 25 (.ld (some 1) (.t 1)),
   oJ 26 (.call bH [(.t 25)]),
   oJ 6 (.alloc [.nils]),
   oS 6 26])
 (.seq (.reg [oJ 28 (.ld (some 1) (.t 6)),
   oJ 29 (.call aX [(.t 28)]),
   oM 27 29,
   oJ 30 (.ext 0 (.t 27)),
   oJ 31 (.ext 1 (.t 27)),
   oJ 7 (.alloc [.nils]),
   oS 7 30,
   oM 8 31])
 (.seq (.seq (.reg [oJ 32 (.ld (some 1) (.t 7)),
   oJ 33 (.ld (some 1) (.t 4)),
   oJ 34 (.call cg [(.t 32),(.t 33)]),
   oJ 35 (.not (.t 34)),
   oM 36 35,
   ⟨(some 37),some (36,false),.mov (.t 8)⟩,
   ⟨(some 38),some (36,false),.mov (.t 5)⟩,
   ⟨(some 39),some (36,false),.beq true (.t 37) (.t 38)⟩,
   oJ 40 (.pick (.t 36) (.c (.p (.bool true))) (.t 39))])
 (.cond (.t 40)
  (.seq (.reg [oJ 2 (.mov (.c (.p (.bool false))))])
  (.ret))
  (.skip)))
 (.seq (.seq (.reg [oJ 41 (.ld (some 1) (.t 6)),
   oJ 42 (.ld (some 1) (.t 1)),
   oJ 43 (.call bH [(.t 42)]),
   ⟨none,none,.chk (some 1) 6 41⟩,
   oJ 44 (.call cg [(.t 41),(.t 43)]),
   oJ 45 (.not (.t 44))])
 (.cond (.t 45)
  (.seq (.reg [oJ 2 (.mov (.c (.p (.bool false))))])
  (.ret))
  (.skip)))
 (.seq (.reg [oK 9 1])
 (.seq (.reg [oJ 46 (.ld (some 1) (.t 6)),
   oM 47 9,
   oJ 48 (.call cZ [(.t 46),(.t 47)]),
   oM 9 48])
 (.seq (.seq (.reg [oM 49 9,
   oJ 50 (.bin .lss (.t 49) (.c (.p (.int .i64 0)))),
   oM 51 50,
   ⟨(some 52),some (51,false),.ld (some 1) (.t 7)⟩,
   ⟨(some 53),some (51,false),.ld (some 1) (.t 4)⟩,
   ⟨(some 54),some (51,false),.call cg [(.t 52),(.t 53)]⟩,
   ⟨(some 55),some (51,false),.not (.t 54)⟩,
   oJ 56 (.pick (.t 51) (.c (.p (.bool true))) (.t 55)),
   oM 57 56,
   ⟨(some 58),some (57,false),.mov (.t 8)⟩,
   ⟨(some 59),some (57,false),.mov (.t 5)⟩,
   ⟨(some 60),some (57,false),.beq true (.t 58) (.t 59)⟩,
   oJ 61 (.pick (.t 57) (.c (.p (.bool true))) (.t 60))])
 (.cond (.t 61)
  (.seq (.reg [oJ 2 (.mov (.c (.p (.bool false))))])
  (.ret))
  (.skip)))
 (.seq (.reg [oK 10 1])
 (.seq (.reg [oJ 62 (.ld (some 1) (.t 7)),
   oM 63 10,
   oJ 64 (.call cZ [(.t 62),(.t 63)]),
   oM 10 64])
 (.seq (.reg [oK 11 1])
 (.seq (.reg [oJ 65 (.ld (some 1) (.t 7)),
   oM 66 11,
   oJ 67 (.call dc [(.t 65),(.t 66)]),
   oM 11 67])
 (.seq (.seq (.reg [oM 68 11,
   oJ 69 (.bin .lss (.t 68) (.c (.p (.int .i64 0))))])
 (.cond (.t 69)
  (.seq (.reg [oJ 2 (.mov (.c (.p (.bool false))))])
  (.ret))
  (.skip)))
 (.seq (.seq (.reg [oM 70 11,
   oM 71 10,
   oJ 72 (.bin .neq (.t 70) (.t 71))])
 (.cond (.t 72)
  (.seq (.reg [oJ 2 (.mov (.c (.p (.bool false))))])
  (.ret))
  (.skip)))
 (.seq (.reg [oJ 74 (.ld (some 1) (.t 1)),
   oJ 75 (.call bH [(.t 74)]),
   oJ 76 (.call aX [(.t 75)]),
   oM 73 76,
   oJ 77 (.ext 0 (.t 73)),
   oJ 78 (.ext 1 (.t 73)),
   oJ 12 (.alloc [.nils]),
   oS 12 77,
   oM 13 78])
 (.seq (.seq (.reg [oJ 79 (.ld (some 1) (.t 12)),
   oJ 80 (.ld (some 1) (.t 4)),
   oJ 81 (.call cg [(.t 79),(.t 80)]),
   oJ 82 (.not (.t 81)),
   oM 83 82,
   ⟨(some 84),some (83,false),.mov (.t 13)⟩,
   ⟨(some 85),some (83,false),.mov (.t 5)⟩,
   ⟨(some 86),some (83,false),.beq true (.t 84) (.t 85)⟩,
   oJ 87 (.pick (.t 83) (.c (.p (.bool true))) (.t 86))])
 (.cond (.t 87)
  (.seq (.reg [oJ 2 (.mov (.c (.p (.bool false))))])
  (.ret))
  (.skip)))
 (.seq (.reg [oK 11 1])
 (.seq (.reg [oJ 88 (.ld (some 1) (.t 7)),
   oM 89 11,
   oJ 90 (.call dc [(.t 88),(.t 89)]),
   oM 11 90])
 (.seq (.seq (.reg [oM 91 11,
   oJ 92 (.bin .lss (.t 91) (.c (.p (.int .i64 0))))])
 (.cond (.t 92)
  (.seq (.reg [oJ 2 (.mov (.c (.p (.bool false))))])
  (.ret))
  (.skip)))
 (.seq (.seq (.reg [oM 93 11,
   oM 94 10,
   oJ 95 (.bin .neq (.t 93) (.t 94))])
 (.cond (.t 95)
  (.seq (.reg [oJ 2 (.mov (.c (.p (.bool false))))])
  (.ret))
  (.skip)))
 (.seq (.reg [oJ 2 (.mov (.c (.p (.bool true))))])
 (.ret)))))))))))))))))))))))))⟩
theorem ij:af Tryz.prog dA=some dB:=by kernel_rfl
end Go.Proofs.YtiojgfhdcpppcaaGreatDoor
namespace Go.Proofs.YtiojgfhdcpppcaaGreatDoor
open Go Go.Aw
set_option maxRecDepth 100000
set_option maxHeartbeats 4000000
def K_spec_l4Walk_expr:AK:= .seq (.reg [oJ 3 (.box 4 (.t 1)),oJ 4 (.alloc [(.p (.int .i64 0)),(.p (.int .i64 0)),(.p (.str [])),.nils])]) (.cut (.seq (.reg [oF 8 0 3,oL 9 8,oJ 10 (.bin .eql (.t 9) (.c (.p (.int .i64 2))))]) (.cond (.t 10) (.reg [oM 11 0,oF 12 2 3,oL 13 12,oJ 14 (.call bT [(.t 11),(.t 13)]),oF 15 2 3,oS 15 14]) (.skip))) (.cut (.seq (.reg [oF 16 0 3,oL 17 16,oJ 18 (.bin .eql (.t 17) (.c (.p (.int .i64 13))))]) (.cond (.t 18) (.seq (.reg [oM 19 0,oN 20 19,oF 21 0 20,oF 23 2 3,oJ 22 (.ld (some 1) (.t 21)),oL 24 23,oJ 25 (.call ff [(.t 22),(.t 24)]),oM 5 25]) (.seq (.reg [oM 26 5,oJ 27 (.bin .lss (.t 26) (.c (.p (.int .i64 0)))),oM 28 27,⟨(some 29),some (28,false),.mov (.t 5)⟩,⟨(some 30),some (28,false),.mov (.t 0)⟩,⟨(some 31),some (28,false),.nilck (.t 30)⟩,⟨(some 32),some (28,false),.fldA 1 (.t 31)⟩,⟨(some 33),some (28,false),.ld none (.t 32)⟩,⟨(some 34),some (28,false),.bin .geq (.t 29) (.t 33)⟩,oJ 35 (.pick (.t 28) (.c (.p (.bool true))) (.t 34))]) (.cond (.t 35) (.reg [oM 36 0,oJ 37 (.call aJ [(.t 36),(.c (.p (.int .i64 4)))])]) (.seq (.reg [oM 38 0,oN 39 38,oF 40 0 39,oF 41 0 40,oM 43 5,oF 48 3 3,oL 42 41,oJ 44 (.idxS 3 (.t 42) (.t 43)),oF 45 1 44,oL 46 45,oJ 47 (.len false (.t 46)),oL 49 48,oJ 50 (.len false (.t 49)),oJ 51 (.bin .neq (.t 47) (.t 50))]) (.cond (.t 51) (.reg [oM 52 0,oJ 53 (.call aJ [(.t 52),(.c (.p (.int .i64 5)))])]) (.skip)))))) (.skip))) (.seq (.reg [oJ 54 (.bsl 4 [(.p (.int .i64 0)),(.p (.int .i64 0)),(.p (.str [])),.nils] 0 []),oM 6 54]) (.seq (.seq (.reg [oK 7 0]) (.blk 0 (.loop (.seq (.seq (.reg [oM 55 7,oF 56 3 3,oL 57 56,oJ 58 (.len false (.t 57)),oJ 59 (.bin .lss (.t 55) (.t 58))]) (.cond (.t 59) (.skip) (.exit 0))) (.seq (.blk 1 (.reg [oM 62 6,oM 63 0,oF 64 3 3,oL 65 64,oM 66 7,oJ 67 (.idxS 4 (.t 65) (.t 66)),oJ 68 (.ld (some 4) (.t 67)),oJ 69 (.call bj [(.t 63),(.t 68)]),oJ 70 (.bsl 4 [(.p (.int .i64 0)),(.p (.int .i64 0)),(.p (.str [])),.nils] 1 [(0,4,(.t 69))]),oJ 71 (.app 4 56 (.t 62) (.t 70)),oM 6 71])) (.reg [oM 60 7,oJ 61 (.bin .add (.t 60) (.c (.p (.int .i64 1)))),oM 7 61])))))) (.seq (.reg [oM 72 6,oF 73 3 3,oS 73 72]) (.seq (.reg [oJ 74 (.ld (some 4) (.t 3)),⟨none,none,.st 4 (.t 4) (.t 74)⟩]) (.ret)))))))
theorem nS:K_spec_l4Walk_expr.whole=F_spec_l4Walk_expr.ak:=rfl
variable (G:aA)
theorem wU{f:FuncId}{args:List AV}{nf:Bool}{fns:List Fd}{k:Nat}{w w':WS}{v:AV}(H:AC Tryz.prog G f args (HWk nf fns k w) fun x h=>x= .ret v∧h=HWk nf fns k w')(rest:List AO)(ha:ah 2 args):
 AC Tryz.prog G f args (wO 1 nf fns k w::roC nf w.vs::rest) fun x h=>x= .ret v∧h=wO 1 nf fns k w'::roC nf w'.vs::rest:=by
 refine(AC.pre H rest ha (rY _ _ _ _) ?_).mono ?_
 ·rintro x h ⟨_,rfl⟩;rfl
 ·rintro x h ⟨h1,⟨rfl,rfl⟩,rfl⟩
  exact⟨rfl,rfl⟩
theorem oO{n id:Nat}(hn:id<n){nf nf':Bool}{fns:List Fd}{k:Nat}{w:WS}{vs:List LV}{l:List AO}(r:∀o∈l,okO n o):∀o∈wO id nf fns k w::roC nf' vs::l,okO n o:=ae (qQ hn) (ae (fb _ _ _) r)
theorem sg{ρ π:List Nat}{h r1:List AO}{i id:Nat}{nf:Bool}{fns:List Fd}{k:Nat}{w:WS}(hid:id<ρ.length)(e:h[i]?=some (wO (ρ.getD id 0) nf fns k w))(hr:HW ρ h π r1):HW ρ h (i::π) (wO id nf fns k w::r1):=by
 refine kE (es:=[wC id nf fns k w]) (fun x hx=>?_) ?_ hr
 ·rw[List.mem_singleton.1 hx];exact sQ hid
 ·rw[e,List.map_cons,List.map_nil,uY];rfl
theorem AE{α:Type}{l:List α}{i j:Nat}{a b:α}(hij:i≠j)(h:l[j]?=some b):(l.set i a).set j b=l.set i a:=by
 apply List.ext_getElem?
 intro n
 rw[List.getElem?_set]
 split
 ·rename_i e
  subst e
  rw[List.getElem?_set_ne hij,h]
  rw[if_pos (by rw[List.length_set];exact(List.getElem?_eq_some_iff.1 h).1)]
 ·rfl
theorem vv(ρ:List Nat):∀l:List AV,ah 0 l→TW ρ l l
 |[],_=>by simp
 |v::r,h=>by
  rw[vM]
  refine⟨.inr ⟨(au (Nat.zero_le _) [v] ⟨h.1,trivial⟩).1,?_⟩,vv ρ r h.2⟩
  have:=fS ρ [v] ⟨h.1,trivial⟩
  simpa[bn] using this
theorem IO{h:List AO}{wid id:Nat}{nf:Bool}{fns:List Fd}{k:Nat}{w:WS}(e0:h[wid]?=some (wO id nf fns k w))(e1:h[id]?=some (roC nf w.vs)):HW [wid,id] h [wid,id] (HWk nf fns k w):=by
 refine kE (es:=[wC 1 nf fns k w]) (fun x hx=>?_) ?_ ?_
 ·rw[List.mem_singleton.1 hx];exact sQ (by simp)
 ·rw[e0,List.map_cons,List.map_nil,uY];rfl
 ·exact kQ e1 (fb _ _ _) cP
theorem Gh{f:FuncId}{args:List AV}{nf:Bool}{fns:List Fd}{k:Nat}{w:WS}{v:AV}{c:Int}(H:AC Tryz.prog G f (.ptr 0 5 0 0::args) (HWk nf fns k w) fun x h=>x= .ret v∧h=HWk nf fns k ⟨w.vs,w.count,c⟩)(ha:ah 0 args)(hv:below 0 v)
 {h:List AO}{wid id:Nat}(hid:wid≠id)(e0:h[wid]?=some (wO id nf fns k w))(e1:h[id]?=some (roC nf w.vs)):
 AC Tryz.prog G f (.ptr wid 5 0 0::args) h fun x h'=>x= .ret v∧h'=h.set wid (wO id nf fns k ⟨w.vs,w.count,c⟩):=by
 refine(H.frame [wid,id] (by simp[hid]) ?_ (IO e0 e1)).mono ?_
 ·rw[vM];exact⟨.inr ⟨by simp[below],rfl⟩,vv _ _ ha⟩
 ·rintro x h' ⟨x0,h0,⟨rfl,rfl⟩,_,rfl,rfl⟩
  refine⟨?_,?_⟩
  ·have:=fS ([wid,id]++List.range' h.length ((HWk nf fns k ⟨w.vs,w.count,c⟩).length-(HWk nf fns k w).length)) [v] ⟨hv,trivial⟩
   simp only[bn] at this
   simp only[vO]
   exact congrArg ARes.ret (List.cons.inj this).1
  ·simp only[HWk,List.length_cons,List.length_nil,Nat.sub_self,List.range'_zero,List.append_nil,List.take_succ_cons,List.take_zero,List.map_cons,List.map_nil,List.drop_succ_cons,List.drop_zero,ze,wH,mrg]
   exact AE hid e1
theorem Cu{f:FuncId}{args:List AV}{nf:Bool}{fns:List Fd}{k:Nat}{w:WS}{v:AV}{Q:Bool→WS→Prop}(H:AC Tryz.prog G f (.ptr 0 5 0 0::args) (HWk nf fns k w) fun x h=>∃nf' w',x= .ret v∧h=[wO 2 nf' fns k w',.dead,roC nf' w'.vs]∧Q nf' w')(ha:ah 0 args)(hv:below 0 v)
 {h:List AO}{wid id:Nat}(hid:wid≠id)(e0:h[wid]?=some (wO id nf fns k w))(e1:h[id]?=some (roC nf w.vs)):
 AC Tryz.prog G f (.ptr wid 5 0 0::args) h fun x h'=>∃nf' w',x= .ret v∧h'=(h.set wid (wO h.length nf' fns k w')).set id .dead++[roC nf' w'.vs]∧Q nf' w':=by
 refine(H.frame [wid,id] (by simp[hid]) ?_ (IO e0 e1)).mono ?_
 ·rw[vM];exact⟨.inr ⟨by simp[below],rfl⟩,vv _ _ ha⟩
 ·rintro x h' ⟨x0,h0,⟨nf',w',rfl,rfl,q⟩,_,rfl,rfl⟩
  refine⟨nf',w',?_,?_,q⟩
  ·have:=fS ([wid,id]++List.range' h.length ([wO 2 nf' fns k w',.dead,roC nf' w'.vs].length-(HWk nf fns k w).length)) [v] ⟨hv,trivial⟩
   simp only[bn] at this
   simp only[vO]
   exact congrArg ARes.ret (List.cons.inj this).1
  ·simp only[HWk,List.length_cons,List.length_nil,List.take_succ_cons,List.take_zero,List.map_cons,List.map_nil,List.drop_succ_cons,List.drop_zero,ze,wH,mrg]
   rfl
theorem tZ(fns:List Fd)(k:Nat)(vs:List LV):∀(a b:List Ex) (c:Int),bs fns k vs (a++b) c=bs fns k vs b (bs fns k vs a c)
 |[],b,c=>rfl
 |e::r,b,c=>by rw[List.cons_append,bs,bs,tZ fns k vs r]
theorem pu(vs:List LV):∀l:List Ex,gL vs l=l.map (rnE vs)
 |[]=>rfl
 |e::r=>by rw[gL,pu vs r];rfl
theorem sn{fns:List Fd}{k:Nat}{vs:List LV}{l:List Ex}{c:Int}{i:Nat}(h:i<l.length):bs fns k vs (l.take (i+1)) c=rj fns k vs l[i] (bs fns k vs (l.take i) c):=by
 rw[al h,tZ];rfl
theorem tU{vs:List LV}{l:List Ex}{i:Nat}(h:i<l.length):gL vs (l.take (i+1))=gL vs (l.take i)++[rnE vs l[i]]:=by
 rw[pu,pu,al h,List.map_append];rfl
theorem oU(vs:List LV)(l:List Ex):(gL vs l).length=l.length:=by rw[pu,List.length_map]
theorem zs(l:List Ex):(exR l).length=l.length:=by simp[exR]
theorem zn(a b:List Ex):exR (a++b)=exR a++exR b:=by simp[exR]
theorem xh{h:List AO}{id:Nat}{l:List Ex}(e:h[id]?=some (.row 4 (exR l))):View h (.sl id 4 0 l.length) (exL l):=by
 have:=gJ (h:=h) (id:=id) (sz:=4) (n:=l.length) (ls:=l.map Ex.cs) (by rw[e,exR];simp) (by simp) (fun x hx=>by obtain⟨b,_,rfl⟩:=List.mem_map.1 hx;exact b.cs_len)
 exact this
theorem Er{fns:List Fd}{s:List UInt8}{j:Nat}(h:dy fns s=some j):j<fns.length:=by
 rw[dy,List.findIdx?_eq_some_iff_getElem] at h;exact h.1
theorem EX{fns:List Fd}{k:Nat}(hf:fns.length≤1099511627776):∀(N:Nat) (e:Ex),e.sz≤N→N≤1099511627776→∀(nf:Bool) (w:WS),(nf=true→w.vs=[])→w.vs.length≤1099511627776→
 AC Tryz.prog G bj [.ptr 0 5 0 0,.agg (e.cs.map .p)] (HWk nf fns k w) fun x h=>x= .ret (.agg ((rnE w.vs e).cs.map .p))∧h=HWk nf fns k ⟨w.vs,w.count,rj fns k w.vs e w.code⟩:=by
 intro N
 induction N with
 |zero=>intro e he;have:=e.sz_eq;omega
 |succ N ih=>
  intro e he hN nf w hn hl
  have hec:=e.cs_eq
  have hsz:=e.sz_eq
  have hkl:=bt e.kids
  have hre:(rnE w.vs e).cs=[.int .i64 e.op,.int .i64 e.n,.str (if e.op=2 then pW w.vs e.name else e.name),exL (gL w.vs e.kids)]:=by
   obtain⟨o,n,s,ks⟩:=e;rw[rnE,Ex.cs_eq];rfl
  have hce:rj fns k w.vs e w.code=bs fns k w.vs e.kids (jL fns k w.vs e.op e.name e.kids.length w.code):=by
   obtain⟨o,n,s,ks⟩:=e;rfl
  have main:AC Tryz.prog G bj [.ptr 0 5 0 0,.agg (e.cs.map .p)] (HWk nf fns k w) fun x h=>∃E1 E2,x= .ret (.agg [.p (.int .i64 e.op),.p (.int .i64 e.n),.p (.str (if e.op=2 then pW w.vs e.name else e.name)),.sl 4 4 0 e.kids.length])∧
   h=[wO 1 nf fns k ⟨w.vs,w.count,rj fns k w.vs e w.code⟩,roC nf w.vs,E1,E2,.row 4 (exR (gL w.vs e.kids))]:=by
   refine AC.goK nK nS ?_
   simp-implicitDefEqProofs[K_spec_l4Walk_expr,F_spec_l4Walk_expr,HWk,hec]
   refine ky (aj 75 [(0,.ptr 0 5 0 0),(3,.ptr 2 4 0 0),(4,.ptr 3 4 0 0)]) [wO 1 nf fns k ⟨w.vs,w.count,if e.op=2 then mX w.vs e.name w.code else w.code⟩,roC nf w.vs,.row 4 [[.p (.int .i64 e.op),.p (.int .i64 e.n),.p (.str (if e.op=2 then pW w.vs e.name else e.name)),.p (exL e.kids)]],.row 4 [[.p (.int .i64 0),.p (.int .i64 0),.p (.str []),.nils]]] ?_ ?_
   ·by_cases o2:e.op=2
    ·simp-implicitDefEqProofs[o2]
     refine(wU G (DA G nf fns k w hn hl e.name) _ (by simp[below])).mono ?_
     rintro r h ⟨rfl,rfl⟩
     simp-implicitDefEqProofs[aa]
     exact ab (by simp) (oO (by simp) (by simp[okO,below])) (by simp[below])
    ·simp-implicitDefEqProofs[o2]
     exact ab (by simp) (oO (by simp) (by simp[okO,below])) (by simp[below])
   refine ky (aj 75 [(0,.ptr 0 5 0 0),(3,.ptr 2 4 0 0),(4,.ptr 3 4 0 0)]) [wO 1 nf fns k ⟨w.vs,w.count,jL fns k w.vs e.op e.name e.kids.length w.code⟩,roC nf w.vs,.row 4 [[.p (.int .i64 e.op),.p (.int .i64 e.n),.p (.str (if e.op=2 then pW w.vs e.name else e.name)),.p (exL e.kids)]],.row 4 [[.p (.int .i64 0),.p (.int .i64 0),.p (.str []),.nils]]] ?_ ?_
   ·by_cases o13:e.op=13
    ·have hhd:jL fns k w.vs e.op e.name e.kids.length w.code=lJ fns k e.name e.kids.length w.code:=by simp[jL,o13]
     rw[hhd]
     simp-implicitDefEqProofs[o13,wO,wC]
     refine(Dm G fns e.name hf).use ?_
     have fin:∀c:Int,Wk 2 (aj 75 [(0,.ptr 0 5 0 0),(3,.ptr 2 4 0 0),(4,.ptr 3 4 0 0)]) [wO 1 nf fns k ⟨w.vs,w.count,c⟩,roC nf w.vs,.row 4 [[.p (.int .i64 13),.p (.int .i64 e.n),.p (.str e.name),.p (exL e.kids)]],.row 4 [[.p (.int .i64 0),.p (.int .i64 0),.p (.str []),.nils]]] (aj 75 [(0,.ptr 0 5 0 0),(3,.ptr 2 4 0 0),(4,.ptr 3 4 0 0)]) [wO 1 nf fns k ⟨w.vs,w.count,c⟩,roC nf w.vs,.row 4 [[.p (.int .i64 13),.p (.int .i64 e.n),.p (.str e.name),.p (exL e.kids)]],.row 4 [[.p (.int .i64 0),.p (.int .i64 0),.p (.str []),.nils]]]:=fun c=>
      ab (by simp) (oO (by simp) (by simp[okO,below])) (by simp[below])
     cases hfa:dy fns e.name with
     |none=>
      simp-implicitDefEqProofs[ixI,lJ,hfa]
      refine(wU G (mJ G nf fns k w 4) _ (by simp[below])).mono ?_
      rintro r h ⟨rfl,rfl⟩
      simp-implicitDefEqProofs[aa]
      exact ab (h:=[wO 1 nf fns k ⟨w.vs,w.count,fl w.code 4⟩,roC nf w.vs,.row 4 [[.p (.int .i64 13),.p (.int .i64 e.n),.p (.str e.name),.p (exL e.kids)]],.row 4 [[.p (.int .i64 0),.p (.int .i64 0),.p (.str []),.nils]]]) (by simp) (oO (by simp) (by simp[okO,below])) (by simp[below])
     |some j=>
      have hj:=Er hfa
      have hg:=List.getElem?_eq_getElem hj
      have hjn:¬(j:Int)<0:=by omega
      by_cases hkj:k≤j
      ·have hkj':(k:Int)≤(j:Int):=by omega
       simp-implicitDefEqProofs[ixI,lJ,hfa,hkj,hkj',hjn]
       refine(wU G (mJ G nf fns k w 4) _ (by simp[below])).mono ?_
       rintro r h ⟨rfl,rfl⟩
       simp-implicitDefEqProofs[aa]
       exact ab (h:=[wO 1 nf fns k ⟨w.vs,w.count,fl w.code 4⟩,roC nf w.vs,.row 4 [[.p (.int .i64 13),.p (.int .i64 e.n),.p (.str e.name),.p (exL e.kids)]],.row 4 [[.p (.int .i64 0),.p (.int .i64 0),.p (.str []),.nils]]]) (by simp) (oO (by simp) (by simp[okO,below])) (by simp[below])
      ·have hkj':¬(k:Int)≤(j:Int):=by omega
       have hfl:fdL fns= .lst 3 (fns.map Fd.cs):=rfl
       have hcs:fns[j].cs=[.str fns[j].name,ay fns[j].params,smL fns[j].body]:=rfl
       have hst:ay fns[j].params= .lst 1 (fns[j].params.map fun w=>[.str w]):=rfl
       have hxl:∀l,exL l= .lst 4 (l.map Ex.cs):=fun _=>rfl
       have hpn:AN fns j=fns[j].params.length:=by simp[AN,hg]
       by_cases hp:fns[j].params.length=e.kids.length
       ·have hcc:lJ fns k e.name e.kids.length w.code=w.code:=by simp[lJ,hfa,hkj,hpn,hp]
        rw[hcc]
        simp-implicitDefEqProofs[ixI,hkj',hjn,hfl,hg,hcs,hst,hxl,hp]
        exact ab (h:=[wO 1 nf fns k w,roC nf w.vs,.row 4 [[.p (.int .i64 13),.p (.int .i64 e.n),.p (.str e.name),.p (exL e.kids)]],.row 4 [[.p (.int .i64 0),.p (.int .i64 0),.p (.str []),.nils]]]) (by simp) (oO (by simp) (by simp[okO,below])) (by simp[below])
       ·have hcc:lJ fns k e.name e.kids.length w.code=fl w.code 5:=by simp[lJ,hfa,hkj,hpn,hp]
        have hp':¬(fns[j].params.length:Int)=(e.kids.length:Int):=by omega
        rw[hcc]
        simp-implicitDefEqProofs[ixI,hkj',hjn,hfl,hg,hcs,hst,hxl,hp']
        refine(wU G (mJ G nf fns k w 5) _ (by simp[below])).mono ?_
        rintro r h ⟨rfl,rfl⟩
        simp-implicitDefEqProofs[aa]
        exact ab (h:=[wO 1 nf fns k ⟨w.vs,w.count,fl w.code 5⟩,roC nf w.vs,.row 4 [[.p (.int .i64 13),.p (.int .i64 e.n),.p (.str e.name),.p (exL e.kids)]],.row 4 [[.p (.int .i64 0),.p (.int .i64 0),.p (.str []),.nils]]]) (by simp) (oO (by simp) (by simp[okO,below])) (by simp[below])
    ·have hhd:jL fns k w.vs e.op e.name e.kids.length w.code=if e.op=2 then mX w.vs e.name w.code else w.code:=by simp[jL,o13]
     rw[hhd]
     simp-implicitDefEqProofs[o13]
     exact ab (by simp) (oO (by simp) (by simp[okO,below])) (by simp[below])
   rw[hce]
   generalize jL fns k w.vs e.op e.name e.kids.length w.code=c2
   generalize (if e.op=2 then pW w.vs e.name else e.name)=s1
   have hxl:exL e.kids= .lst 4 (e.kids.map Ex.cs):=rfl
   simp-implicitDefEqProofs[]
   refine az (fun i:Nat=>aj 75 [(0,.ptr 0 5 0 0),(3,.ptr 2 4 0 0),(4,.ptr 3 4 0 0),(6,.sl 4 4 0 i),(7,.p (.int .i64 i))])
    (fun i=>[wO 1 nf fns k ⟨w.vs,w.count,bs fns k w.vs (e.kids.take i) c2⟩,roC nf w.vs,.row 4 [[.p (.int .i64 e.op),.p (.int .i64 e.n),.p (.str s1),.p (exL e.kids)]],.row 4 [[.p (.int .i64 0),.p (.int .i64 0),.p (.str []),.nils]],.row 4 (exR (gL w.vs (e.kids.take i)))])
    (fun i=>i≤e.kids.length) (fun i=>e.kids.length-i) 0 (by simp) ?_ ?_
   ·exact ab (by simp) (oO (by simp) (by simp[okO,below])) (by simp[below])
   ·intro i hi
    have hrl:(exR (gL w.vs (e.kids.take i))).length=i:=by rw[zs,oU];simp;omega
    simp-implicitDefEqProofs[hxl]
    refine bi (fun h=>?_) (fun h=>?_)
    ·simp at h
     have hg:=List.getElem?_eq_getElem h
     have hks:=aW (List.getElem_mem h)
     have hkc:=(rnE w.vs e.kids[i]).cs_eq
     simp-implicitDefEqProofs[hg]
     refine(wU G (ih e.kids[i] (by omega) (by omega) nf ⟨w.vs,w.count,bs fns k w.vs (e.kids.take i) c2⟩ hn hl) _ (by simp[below])).mono ?_
     rintro r h ⟨rfl,rfl⟩
     rw[show(rnE (WS.mk w.vs w.count (bs fns k w.vs (e.kids.take i) c2)).vs e.kids[i])=rnE w.vs e.kids[i] from rfl]
     simp-implicitDefEqProofs[aa,hkc,hrl]
     refine⟨by omega,?_⟩
     refine⟨i+1,by omega,by omega,?_⟩
     have htk:List.take i (exR (gL w.vs (e.kids.take i)))=exR (gL w.vs (e.kids.take i)):=List.take_of_length_le (by omega)
     rw[sn h,tU h,zn,htk]
     refine oy [0,1,2,3,6] (by simp) (by decide) (by decide) (sg (by simp) rfl (kQ rfl (fb _ _ _) (bJ rfl (by simp[below]) (bJ rfl (by simp[below]) (bJ ?_ ?_ cP))))) (by simp[below,ren,w1 (i:=i) (by omega)])
     ·have:exR [rnE w.vs e.kids[i]]=[[.p (.int .i64 (rnE w.vs e.kids[i]).op),.p (.int .i64 (rnE w.vs e.kids[i]).n),.p (.str (rnE w.vs e.kids[i]).name),.p (exL (rnE w.vs e.kids[i]).kids)]]:=by rw[exR,List.map_singleton,hkc];rfl
      rw[this];rfl
     ·intro x hx
      rcases List.mem_append.1 hx with h|h
      ·exact pH _ x h
      ·exact pH _ x h
    ·simp at h
     have hie:i=e.kids.length:=by omega
     subst hie
     simp-implicitDefEqProofs[]
  refine main.frz 2 (by simp[HWk]) (fun t v h ⟨_,_,e,_⟩=>by cases e) ?_
  rintro v h ⟨E1,E2,e,rfl⟩
  cases e
  refine⟨_,HWk nf fns k ⟨w.vs,w.count,rj fns k w.vs e w.code⟩,by simp,rfl,.agg ?_ .nil,.same (qQ (by omega)) (.same (fb _ _ _) (.nil _)),rfl,rfl⟩
  rw[hre]
  have hrl:=oU w.vs e.kids
  rw[←hrl]
  exact .keep (by simp) (.keep (by simp) (.keep (by simp) (.one (xh rfl) .nil)))
end Go.Proofs.YtiojgfhdcpppcaaGreatDoor
namespace Go.Proofs.YtiojgfhdcpppcaaGreatDoor
open Go Go.Aw
set_option maxRecDepth 100000
set_option maxHeartbeats 4000000
def K_spec_l4Walk_stmts:AK:= .seq (.reg [oJ 6 (.mov (.c .nils))]) (.seq (.reg [oJ 13 (.bsl 5 [(.p (.int .i64 0)),(.p (.str [])),.nils,.nils,.nils] 0 []),oM 7 13]) (.seq (.reg [oM 14 0,oN 15 14,oF 16 2 15,oL 17 16,oJ 18 (.len false (.t 17)),oM 8 18]) (.seq (.seq (.reg [oK 9 0]) (.blk 0 (.loop (.seq (.seq (.reg [oM 19 9,oM 20 1,oJ 21 (.len false (.t 20)),oJ 22 (.bin .lss (.t 19) (.t 21))]) (.cond (.t 22) (.skip) (.exit 0))) (.seq (.blk 1 (.seq (.reg [oM 25 1,oM 26 9,oJ 27 (.idxS 5 (.t 25) (.t 26)),oJ 28 (.ld (some 5) (.t 27)),oJ 10 (.alloc [(.p (.int .i64 0)),(.p (.str [])),.nils,.nils,.nils]),⟨none,none,.st 5 (.t 10) (.t 28)⟩]) (.seq (.reg [oJ 29 (.bsl 4 [(.p (.int .i64 0)),(.p (.int .i64 0)),(.p (.str [])),.nils] 0 []),oM 11 29]) (.seq (.seq (.reg [oK 12 0]) (.blk 2 (.loop (.seq (.seq (.reg [oM 30 12,oF 31 2 10,oL 32 31,oJ 33 (.len false (.t 32)),oJ 34 (.bin .lss (.t 30) (.t 33))]) (.cond (.t 34) (.skip) (.exit 2))) (.seq (.blk 3 (.reg [oM 37 11,oM 38 0,oF 39 2 10,oL 40 39,oM 41 12,oJ 42 (.idxS 4 (.t 40) (.t 41)),oJ 43 (.ld (some 4) (.t 42)),oJ 44 (.call bj [(.t 38),(.t 43)]),oJ 45 (.bsl 4 [(.p (.int .i64 0)),(.p (.int .i64 0)),(.p (.str [])),.nils] 1 [(0,4,(.t 44))]),oJ 46 (.app 4 56 (.t 37) (.t 45)),oM 11 46])) (.reg [oM 35 12,oJ 36 (.bin .add (.t 35) (.c (.p (.int .i64 1)))),oM 12 36])))))) (.cut (.reg [oM 47 11,oF 48 2 10,oS 48 47]) (.cut (.seq (.reg [oF 49 0 10,oL 50 49,oJ 51 (.bin .eql (.t 50) (.c (.p (.int .i64 1))))]) (.cond (.t 51) (.reg [oM 52 0,oF 53 1 10,oL 54 53,oM 55 2,oJ 56 (.call bS [(.t 52),(.t 54),(.t 55)]),oF 57 1 10,oS 57 56]) (.skip))) (.cut (.seq (.reg [oF 58 0 10,oL 59 58,oJ 60 (.bin .eql (.t 59) (.c (.p (.int .i64 2))))]) (.cond (.t 60) (.reg [oM 61 0,oF 62 1 10,oL 63 62,oJ 64 (.call bT [(.t 61),(.t 63)]),oF 65 1 10,oS 65 64]) (.skip))) (.seq (.reg [oM 66 0,oF 67 3 10,oL 68 67,oM 69 2,oJ 70 (.bin .add (.t 69) (.c (.p (.int .i64 1)))),oJ 71 (.call aT [(.t 66),(.t 68),(.t 70)]),oF 72 3 10,oS 72 71]) (.seq (.reg [oM 73 0,oF 74 4 10,oL 75 74,oM 76 2,oJ 77 (.bin .add (.t 76) (.c (.p (.int .i64 1)))),oJ 78 (.call aT [(.t 73),(.t 75),(.t 77)]),oF 79 4 10,oS 79 78]) (.reg [oM 80 7,oJ 81 (.ld (some 5) (.t 10)),oJ 82 (.bsl 5 [(.p (.int .i64 0)),(.p (.str [])),.nils,.nils,.nils] 1 [(0,5,(.t 81))]),oJ 83 (.app 5 96 (.t 80) (.t 82)),oM 7 83])))))))))) (.reg [oM 23 9,oJ 24 (.bin .add (.t 23) (.c (.p (.int .i64 1)))),oM 9 24])))))) (.cut (.seq (.reg [oM 84 2,oJ 85 (.bin .gtr (.t 84) (.c (.p (.int .i64 0))))]) (.cond (.t 85) (.reg [oM 86 0,oM 87 0,oN 88 87,oF 89 2 88,oL 90 89,oM 91 8,oJ 92 (.slS 3 (.t 90) none (some (.t 91))),oN 93 86,oF 94 2 93,oS 94 92]) (.skip))) (.seq (.reg [oM 95 7,oM 6 95]) (.ret))))))
theorem nj:K_spec_l4Walk_stmts.whole=F_spec_l4Walk_stmts.ak:=rfl
theorem vZ(fns:List Fd)(k b:Nat):∀(x y:List Sm) (w:WS),bA fns k b (x++y) w=bA fns k b y (bA fns k b x w)
 |[],y,w=>rfl
 |s::r,y,w=>by rw[List.cons_append,bA,bA,vZ fns k b r]
theorem xr(fns:List Fd)(k b:Nat):∀(x y:List Sm) (w:WS),eS fns k b (x++y) w=eS fns k b x w++eS fns k b y (bA fns k b x w)
 |[],y,w=>rfl
 |s::r,y,w=>by rw[List.cons_append,eS,eS,xr fns k b r];rfl
theorem Ah{fns:List Fd}{k b:Nat}{l:List Sm}{w:WS}{i:Nat}(h:i<l.length):bA fns k b (l.take (i+1)) w=stW fns k b l[i] (bA fns k b (l.take i) w):=by
 rw[al h,vZ];rfl
theorem Az{fns:List Fd}{k b:Nat}{l:List Sm}{w:WS}{i:Nat}(h:i<l.length):eS fns k b (l.take (i+1)) w=eS fns k b (l.take i) w++[rnS fns k b l[i] (bA fns k b (l.take i) w)]:=by
 rw[al h,xr];rfl
theorem rJ(fns:List Fd)(k b:Nat):∀(l:List Sm) (w:WS),(eS fns k b l w).length=l.length
 |[],w=>rfl
 |s::r,w=>by rw[eS,List.length_cons,rJ fns k b r,List.length_cons]
theorem Fx{l:List Sm}{i:Nat}(h:i<l.length):aG (l.take i)+l[i].sz≤aG l:=by
 have e:l=l.take i++l[i]::l.drop (i+1):=by rw[←List.drop_eq_getElem_cons h,List.take_append_drop]
 have h2:aG l=aG (l.take i)+(l[i].sz+aG (l.drop (i+1))):=by
  conv=>lhs;rw[e]
  rw[qI];rfl
 omega
def nT(fns:List Fd)(k b:Nat)(l:List Sm)(w:WS):WS:=if 0<b then(bA fns k b l w).back w.vs else bA fns k b l w
theorem yr(fns:List Fd)(k b:Nat)(l:List Sm)(w:WS):(nT fns k b l w).count=w.count+cy l:=by
 unfold nT
 split
 ·exact eY fns k l b w
 ·exact eY fns k l b w
theorem Cy{e vs:List LV}:(lvR (e++vs)).take vs.length=lvR vs:=by
 have h:lvR (e++vs)=lvR vs++lvR e:=by simp[lvR]
 rw[h,List.take_append_of_le_length (by rw[rr];exact Nat.le_refl _),List.take_of_length_le (by rw[rr];exact Nat.le_refl _)]
theorem ux(l:List Sm):cy l≤aG l:=Nat.le_trans (mm l) (kq l)
theorem yu(nf:Bool)(id n:Nat):(vaC nf id n).isCell=true:=by cases nf<;>rfl
theorem Ay(nf:Bool)(id n:Nat):(vaC nf id n).cells=[vaC nf id n]:=by cases nf<;>rfl
attribute [simp ↓] yu Ay
variable (G:aA)
def StP(fns:List Fd)(k b:Nat)(l:List Sm)(w:WS)(x:ARes)(h:List AO):Prop:=∃nf' w',x= .ret (.p (smL (eS fns k b l w)))∧h=[wO 2 nf' fns k w',.dead,roC nf' w'.vs]∧(nf'=true→w'.vs=[])∧w'=nT fns k b l w
structure StS where (i:Nat) (nf:Bool)
theorem Cm{fns:List Fd}{k:Nat}(hf:fns.length≤1099511627776):∀(N:Nat) (l:List Sm),aG l<N→∀(b:Nat) (nf:Bool) (w:WS),(nf=true→w.vs=[])→w.vs.length≤w.count→w.count+aG l≤1099511627776→b+aG l≤1099511627776→
 AC Tryz.prog G aT [.ptr 0 5 0 0,.p (smL l),.p (.int .i64 b)] (HWk nf fns k w) (StP fns k b l w):=by
 intro N
 induction N with
 |zero=>
  intro l hl b nf w hn hv hc hb
  omega
 |succ N ih=>
  intro l hl b nf w hn hv hc hb
  have hll:=bv l
  refine AC.goK nh nj ?_
  have hsl:∀l,smL l= .lst 5 (l.map Sm.cs):=fun _=>rfl
  have hlen0:xS (vaC nf 1 w.vs.length)=some (.p (.int .i64 w.vs.length)):=by
   cases nf
   ·rfl
   ·simp[vaC,hn rfl]
  simp-implicitDefEqProofs[K_spec_l4Walk_stmts,F_spec_l4Walk_stmts,HWk,wO,wC,hlen0]
  refine az (fun s:StS=>aj 96 [(0,.ptr 0 5 0 0),(1,.p (smL l)),(2,.p (.int .i64 b)),(7,.sl 2 5 0 s.i),(8,.p (.int .i64 w.vs.length)),(9,.p (.int .i64 s.i))])
   (fun s=>[wO 3 s.nf fns k (bA fns k b (l.take s.i) w),.dead,.row 5 (smR (eS fns k b (l.take s.i) w)),roC s.nf (bA fns k b (l.take s.i) w).vs])
   (fun s=>s.i≤l.length∧(s.nf=true→(bA fns k b (l.take s.i) w).vs=[])) (fun s=>l.length-s.i) ⟨0,nf⟩ ⟨by simp,hn⟩ ?_ ?_
  ·refine yZ [0,1,2,1] (by simp) (by decide) ?_ (sg (by simp) rfl (gu (by simp) (bJ rfl (by simp[smR,eS]) (kQ rfl (fb _ _ _) cP)))) (by simp[below,ren])
   cases nf<;>simp[gY,roC,wO,bA]
  ·rintro⟨i,nf⟩ ⟨hi,hn⟩
   simp only at hi hn
   simp-implicitDefEqProofs[hsl]
   refine bi (fun h=>?_) (fun h=>?_)
   ·simp at h
    have hg:=List.getElem?_eq_getElem h
    have hat:=Fx h
    have hse:=l[i].cs_eq
    have hsz:=l[i].sz_eq
    have hle:=zG fns k (l:=l.take i) (b:=b) hv
    have hcn:=eY fns k (l.take i) b w
    have hlz:=ux (l.take i)
    have eW:=Ah (fns:=fns) (k:=k) (b:=b) (w:=w) h
    have eR:=Az (fns:=fns) (k:=k) (b:=b) (w:=w) h
    have hol:=rJ fns k b (l.take i) w
    rw[List.length_take,Nat.min_eq_left hi] at hol
    generalize l[i]=s at hg hat hse hsz eW eR
    generalize bA fns k b (l.take i) w=wi at hn hle hcn eW eR⊢
    generalize eS fns k b (l.take i) w=out at hol eR⊢
    obtain⟨o,nme,a,bd,el⟩:=s
    simp only[Sm.op,Sm.name,Sm.args,Sm.body,Sm.els] at hse hsz
    simp-implicitDefEqProofs[hg,hse]
    have hxl:∀l,exL l= .lst 4 (l.map Ex.cs):=fun _=>rfl
    have hal:=bt a
    have hlE:=ux bd
    have hwl:wi.vs.length≤1099511627776:=by omega
    have hopR:∀(x y z u v:AV),ah 0 [x,y,z,u,v]→okO 5 (AO.row 5 [[x,y,z,u,v]]):=fun x y z u v hh=>cS (fun e he=>by rw[List.mem_singleton.1 he];exact hh)
    refine az (fun j:Nat=>aj 96 [(0,.ptr 0 5 0 0),(1,.p (smL l)),(2,.p (.int .i64 b)),(7,.sl 2 5 0 i),(8,.p (.int .i64 w.vs.length)),(9,.p (.int .i64 i)),(10,.ptr 4 5 0 0),(11,.sl 5 4 0 j),(12,.p (.int .i64 j))])
     (fun j=>[wO 3 nf fns k ⟨wi.vs,wi.count,bs fns k wi.vs (a.take j) wi.code⟩,.dead,.row 5 (smR out),roC nf wi.vs,.row 5 [[.p (.int .i64 o),.p (.str nme),.p (exL a),.p (smL bd),.p (smL el)]],.row 4 (exR (gL wi.vs (a.take j)))])
     (fun j=>j≤a.length) (fun j=>a.length-j) 0 (by simp) ?_ ?_
    ·refine ab (h:=[wO 3 nf fns k wi,.dead,.row 5 (smR out),roC nf wi.vs,.row 5 [[.p (.int .i64 o),.p (.str nme),.p (exL a),.p (smL bd),.p (smL el)]],.row 4 []]) (by simp) (ae (qQ (by simp)) (ae trivial (ae (cS (iA out)) (ae (fb _ _ _) (by simp[okO,below]))))) (by simp[below,hsl])
    intro j hj
    have hrl:(exR (gL wi.vs (a.take j))).length=j:=by rw[zs,oU];simp;omega
    simp-implicitDefEqProofs[hxl]
    refine bi (fun hc=>?_) (fun hc=>?_)
    ·simp at hc
     have hga:=List.getElem?_eq_getElem hc
     have hks:=aW (List.getElem_mem hc)
     have hkc:=(rnE wi.vs a[j]).cs_eq
     simp-implicitDefEqProofs[hga]
     refine(Gh G (id:=3) (EX G hf (a[j].sz) a[j] (Nat.le_refl _) (by omega) nf ⟨wi.vs,wi.count,bs fns k wi.vs (a.take j) wi.code⟩ hn hwl) (by simp) (by simp[below]) (by decide) rfl rfl).mono ?_
     rintro r h' ⟨rfl,rfl⟩
     rw[show(rnE (WS.mk wi.vs wi.count (bs fns k wi.vs (a.take j) wi.code)).vs a[j])=rnE wi.vs a[j] from rfl]
     simp-implicitDefEqProofs[aa,hkc,hrl]
     refine⟨by omega,j+1,by omega,by omega,?_⟩
     have htk:List.take j (exR (gL wi.vs (a.take j)))=exR (gL wi.vs (a.take j)):=List.take_of_length_le (by omega)
     rw[sn hc,tU hc,zn,htk]
     refine oy [0,1,2,3,4,7] (by simp) (by decide) (by decide) (sg (by simp) rfl (gu (by simp) (bJ rfl (iA out) (kQ rfl (fb _ _ _) (bJ rfl (by simp[below]) (bJ ?_ ?_ cP)))))) (by simp[below,ren,hsl,w1 (i:=j) (by omega)])
     ·have:exR [rnE wi.vs a[j]]=[[.p (.int .i64 (rnE wi.vs a[j]).op),.p (.int .i64 (rnE wi.vs a[j]).n),.p (.str (rnE wi.vs a[j]).name),.p (exL (rnE wi.vs a[j]).kids)]]:=by rw[exR,List.map_singleton,hkc];rfl
      rw[this];rfl
     ·intro x hx
      rcases List.mem_append.1 hx with h|h
      ·exact pH _ x h
      ·exact pH _ x h
    simp at hc
    have hje:j=a.length:=by omega
    subst hje
    rw[List.take_length] at hrl⊢
    have hal2:=oU wi.vs a
    simp-implicitDefEqProofs[]
    generalize hw1:WS.mk wi.vs wi.count (bs fns k wi.vs a wi.code)=w1
    have e1v:w1.vs=wi.vs:=by rw[←hw1]
    have e1c:w1.count=wi.count:=by rw[←hw1]
    have e1l:w1.vs.length=wi.vs.length:=by rw[e1v]
    rw[←e1v]
    refine ky (aj 96 [(0,.ptr 0 5 0 0),(1,.p (smL l)),(2,.p (.int .i64 b)),(7,.sl 2 5 0 i),(8,.p (.int .i64 w.vs.length)),(9,.p (.int .i64 i)),(10,.ptr 4 5 0 0)])
     [wO 3 nf fns k w1,.dead,.row 5 (smR out),roC nf w1.vs,.row 5 [[.p (.int .i64 o),.p (.str nme),.p (exL (gL w1.vs a)),.p (smL bd),.p (smL el)]]] ?_ ?_
    ·simp-implicitDefEqProofs[]
     refine zU 5 (by omega) (by simp) rfl (.same (qQ (by omega)) (.dead (.same (cS (iA out)) (.same (fb _ _ _) (.one (.keep (by simp[below]) (.keep (by simp[below]) (.one ?_ (.keep (by simp[below]) (.keep (by simp[below]) .nil))))) (.nil _)))))) ?_
     ·rw[←e1v] at hal2
      rw[←hal2]
      exact xh rfl
     ·refine⟨.keep (by simp[below]) .nil,.keep (by simp[below]) .nil,.keep (by simp[below]) .nil,.keep (by simp[below]) .nil,.keep (by simp[below]) .nil,.keep (by simp[below]) .nil,.keep (by simp[below]) .nil,trivial⟩
    have TT:∀(r1:List (Nat × AV)),Aw.look r1 0= .ptr 0 5 0 0→Aw.look r1 1= .p (smL l)→Aw.look r1 2= .p (.int .i64 b)→Aw.look r1 7= .sl 2 5 0 i→Aw.look r1 8= .p (.int .i64 w.vs.length)→Aw.look r1 9= .p (.int .i64 i)→Aw.look r1 10= .ptr 4 5 0 0→∀ρ:List Nat,ρ.length=5→ρ.getD 0 0=0→ρ.getD 2 0=2→ρ.getD 4 0=4→
     TWA ρ r1 [(0,.ptr 0 5 0 0),(1,.p (smL l)),(2,.p (.int .i64 b)),(7,.sl 2 5 0 i),(8,.p (.int .i64 w.vs.length)),(9,.p (.int .i64 i)),(10,.ptr 4 5 0 0)]:=by
     intro r1 a0 a1 a2 a7 a8 a9 a10 ρ hr r0 r2 r4
     simp[below,ren,hr,a0,a1,a2,a7,a8,a9,a10]
     rw[List.getD_eq_getElem?_getD,List.getElem?_eq_getElem (by omega)] at r0 r2 r4
     exact⟨r0,r2,r4⟩
    have hn1:nf=true→w1.vs=[]:=fun h=>by rw[e1v];exact hn h
    have okB:∀(nf:Bool) (w:WS) (r:AO),okO 0 r→∀x∈[wO 3 nf fns k w,.dead,.row 5 (smR out),roC nf w.vs,r],okO 5 x:=fun nf w r hr=>
     ae (qQ (by omega)) (ae trivial (ae (cS (iA out)) (ae (fb _ _ _) (ae (cS hr) dY))))
    refine ky (aj 96 [(0,.ptr 0 5 0 0),(1,.p (smL l)),(2,.p (.int .i64 b)),(7,.sl 2 5 0 i),(8,.p (.int .i64 w.vs.length)),(9,.p (.int .i64 i)),(10,.ptr 4 5 0 0)])
     [wO 3 (if o=1 then false else nf) fns k (if o=1 then iG w1 nme b else w1),.dead,.row 5 (smR out),roC (if o=1 then false else nf) (if o=1 then iG w1 nme b else w1).vs,.row 5 [[.p (.int .i64 o),.p (.str (if o=1 then vnm w1.count else nme)),.p (exL (gL w1.vs a)),.p (smL bd),.p (smL el)]]] ?_ ?_
    ·by_cases o1:o=1
     ·simp-implicitDefEqProofs[o1]
      refine(Cu G (id:=3) (Q:=fun nf' w'=>nf'=false∧w'=iG w1 nme b) ((Cx G nf fns k w1 hn1 (by omega) (by omega) nme b).mono (by rintro x h ⟨rfl,rfl⟩;exact⟨false,_,rfl,rfl,rfl,rfl⟩)) (by simp) (by simp[below]) (by decide) rfl rfl).mono ?_
      rintro r h' ⟨nf',w',rfl,rfl,rfl,rfl⟩
      simp-implicitDefEqProofs[aa]
      refine oy [0,1,2,5,4] (by simp) (by decide) (by decide) (sg (by simp) rfl (gu (by simp) (bJ rfl (iA out) (kQ rfl (fb _ _ _) (bJ rfl (by simp[below]) cP))))) (TT _ (by simp) (by simp) (by simp) (by simp) (by simp) (by simp) (by simp) _ rfl rfl rfl rfl)
     ·simp-implicitDefEqProofs[o1]
      refine ab (by simp) (okB nf w1 _ (by simp[okO,below])) (by simp[below])
    generalize hw2:(if o=1 then iG w1 nme b else w1)=w2
    generalize hnf2:(if o=1 then false else nf)=nf2
    generalize hnm2:(if o=1 then vnm w1.count else nme)=nm2
    have hn2:nf2=true→w2.vs=[]:=by
     intro h
     by_cases o1:o=1
     ·rw[if_pos o1] at hnf2;rw[←hnf2] at h;cases h
     ·rw[if_neg o1] at hnf2 hw2;rw[←hw2];exact hn1 (by rw[hnf2];exact h)
    have h2c:w2.count=w1.count+if o=1 then 1 else 0:=by rw[←hw2];split<;>rfl
    have h2v:w2.vs.length≤w2.count:=by
     rw[←hw2];split
     ·simp[iG];omega
     ·omega
    have h2b:w2.count≤wi.count+1:=by rw[h2c,e1c];split<;>omega
    refine ky (aj 96 [(0,.ptr 0 5 0 0),(1,.p (smL l)),(2,.p (.int .i64 b)),(7,.sl 2 5 0 i),(8,.p (.int .i64 w.vs.length)),(9,.p (.int .i64 i)),(10,.ptr 4 5 0 0)])
     [wO 3 nf2 fns k (opW o nme b w1),.dead,.row 5 (smR out),roC nf2 (opW o nme b w1).vs,.row 5 [[.p (.int .i64 o),.p (.str (opN o nme w1)),.p (exL (gL w1.vs a)),.p (smL bd),.p (smL el)]]] ?_ ?_
    ·by_cases o2:o=2
     ·have o1:¬o=1:=by omega
      rw[if_neg o1] at hw2 hnm2
      subst hw2;subst hnm2
      have eo:opW o nme b w1=⟨w1.vs,w1.count,mX w1.vs nme w1.code⟩:=by rw[opW,if_neg o1,if_pos o2]
      have en:opN o nme w1=pW w1.vs nme:=by rw[opN,if_neg o1,if_pos o2]
      rw[eo,en]
      simp-implicitDefEqProofs[o2]
      refine(Gh G (id:=3) (DA G nf2 fns k w1 hn2 (by omega) nme) (by simp) (by simp[below]) (by decide) rfl rfl).mono ?_
      rintro r h' ⟨rfl,rfl⟩
      simp-implicitDefEqProofs[aa]
      refine ab (h:=[wO 3 nf2 fns k ⟨w1.vs,w1.count,mX w1.vs nme w1.code⟩,.dead,.row 5 (smR out),roC nf2 w1.vs,_]) (by simp) (okB nf2 ⟨w1.vs,w1.count,mX w1.vs nme w1.code⟩ _ (by simp[okO,below])) (by simp[below])
     ·have eo:opW o nme b w1=w2:=by rw[opW,if_neg o2,←hw2]
      have en:opN o nme w1=nm2:=by rw[opN,if_neg o2,←hnm2]
      rw[eo,en]
      simp-implicitDefEqProofs[o2]
      refine ab (by simp) (okB nf2 w2 _ (by simp[okO,below])) (by simp[below])
    have eov:(opW o nme b w1).vs=w2.vs:=by
     rw[opW,←hw2];split
     ·rfl
     ·split<;>rfl
    have eoc:(opW o nme b w1).count=w2.count:=by rw[mC,h2c]
    have hwb:IntKind.i64.wrap ((b:Int)+1)=((b+1:Nat):Int):=by rw[ag (by omega) (by omega)];omega
    have hstw:stW fns k b (.mk o nme a bd el) wi=nT fns k (b+1) el (nT fns k (b+1) bd (opW o nme b w1)):=by
     rw[stW]
     simp only[hw1,nT,Nat.succ_pos,if_true]
     rfl
    have hrns:(rnS fns k b (.mk o nme a bd el) wi).cs=[.int .i64 o,.str (opN o nme w1),exL (gL w1.vs a),smL (eS fns k (b+1) bd (opW o nme b w1)),smL (eS fns k (b+1) el (nT fns k (b+1) bd (opW o nme b w1)))]:=by
     rw[rnS,Sm.cs_eq]
     simp only[hw1,nT,Nat.succ_pos,if_true,Sm.op,Sm.name,Sm.args,Sm.body,Sm.els,e1v]
     have:opN o nme wi=opN o nme w1:=by simp only[opN,e1v,e1c]
     rw[this]
    rw[hstw] at eW
    clear hstw
    generalize opW o nme b w1=w3 at eov eoc hrns eW⊢
    have hn3:nf2=true→w3.vs=[]:=fun h=>by rw[eov];exact hn2 h
    have h3v:w3.vs.length≤w3.count:=by rw[eov,eoc];exact h2v
    simp-implicitDefEqProofs[hwb]
    refine(Cu G (id:=3) (ih bd (by omega) (b+1) nf2 w3 hn3 h3v (by omega) (by omega)) (by simp) (by simp[below]) (by decide) rfl rfl).mono ?_
    rintro r h' ⟨nf4,w4,rfl,rfl,hn4,hw4⟩
    rw[←hw4] at hrns eW
    have h4c:w4.count=w3.count+cy bd:=by rw[hw4];exact yr _ _ _ _ _
    have h4v:w4.vs.length≤w4.count:=by
     have:w4.vs=w3.vs:=by rw[hw4];simp[nT,WS.back]
     rw[this,h4c];omega
    simp-implicitDefEqProofs[aa,hwb]
    refine(Cu G (id:=5) (ih el (by omega) (b+1) nf4 w4 hn4 h4v (by omega) (by omega)) (by simp) (by simp[below]) (by decide) rfl rfl).mono ?_
    rintro r h' ⟨nf5,w5,rfl,rfl,hn5,hw5⟩
    rw[←hw5] at eW
    have hsl2:(smR out).length=i:=by rw[EQ];exact hol
    simp-implicitDefEqProofs[aa,hsl2]
    refine⟨⟨by omega,by omega⟩,⟨i+1,nf5⟩,⟨by simp only;omega,fun h=>by simp only at h⊢;rw[eW];exact hn5 h⟩,by simp only;omega,?_⟩
    simp only
    rw[eW,eR,Es]
    have htk:List.take i (smR out)=smR out:=List.take_of_length_le (by omega)
    rw[htk]
    have hsm1:smR [rnS fns k b (.mk o nme a bd el) wi]=[[.p (.int .i64 o),.p (.str (opN o nme w1)),.p (exL (gL w1.vs a)),.p (smL (eS fns k (b+1) bd w3)),.p (smL (eS fns k (b+1) el w4))]]:=by rw[smR,List.map_singleton,hrns];rfl
    rw[hsm1]
    refine oy [0,1,8,6] (by simp) (by decide) (by decide) (sg (by simp) rfl (gu (by simp) (bJ rfl (fun x hx=>?_) (kQ rfl (fb _ _ _) cP)))) (by simp[below,ren,hsl,show IntKind.i64.wrap ((i:Int)+1)=((i:Int)+1) from ag (by omega) (by omega)])
    rcases List.mem_append.1 hx with h|h
    ·exact iA out x h
    ·rw[List.mem_singleton.1 h];simp
   ·simp at h
    have hie:i=l.length:=by omega
    subst hie
    rw[List.take_length] at hn⊢
    obtain⟨ext,hext⟩:=xA fns k l b w
    have hlen:=rJ fns k b l w
    refine ky (aj 96 [(7,.p (smL (eS fns k b l w)))]) [wO 2 nf fns k (nT fns k b l w),.dead,roC nf (nT fns k b l w).vs] ?_ ?_
    ·have fin:∀(r1:List (Nat × AV)) (w':WS),w'.vs=w.vs∨w'.vs=(bA fns k b l w).vs→(Aw.look r1 7= .sl 2 5 0 l.length)→
      Wk 2 (aj 96 r1) [wO 3 nf fns k w',.dead,.row 5 (smR (eS fns k b l w)),roC nf (bA fns k b l w).vs] (aj 96 [(7,.p (smL (eS fns k b l w)))]) [wO 2 nf fns k w',.dead,roC nf w'.vs]:=by
      intro r1 w' hv' hr
      refine Wk.trans (Ep (h1:=[wO 3 nf fns k w',.dead,.row 5 (smR (eS fns k b l w)),roC nf w'.vs]) ?_) (Wk.trans (oy (l1:=[(7,.sl 3 5 0 l.length)]) (h1:=[wO 2 nf fns k w',.dead,roC nf w'.vs,.row 5 (smR (eS fns k b l w))]) [0,1,3,2] (by simp) (by decide) (by decide) (sg (by simp) rfl (gu (by simp) (kQ rfl (fb _ _ _) (bJ rfl (iA _) cP)))) (by simp[below,ren,hr]))
       (zU 3 (by omega) (by simp) rfl (.same (qQ (by omega)) (.dead (.same (fb _ _ _) (.nil _)))) ?_))
      ·refine⟨.inl rfl,.inl rfl,.inl rfl,?_,trivial⟩
       rcases hv' with e|e
       ·cases nf with
        |true=>exact .inl rfl
        |false=>
         refine .inr ⟨3,lvR (bA fns k b l w).vs,w.vs.length,rfl,?_⟩
         rw[hext,Cy,e];rfl
       ·rw[e];exact .inl rfl
      ·rw[←hlen]
       exact⟨.one (BP rfl) .nil,trivial⟩
     by_cases hb0:0<b
     ·have hwe:nT fns k b l w=(bA fns k b l w).back w.vs:=if_pos hb0
      rw[hwe]
      have hll2:(bA fns k b l w).vs.length=ext.length+w.vs.length:=by rw[hext,List.length_append]
      cases nf with
      |true=>
       have h0:=hn rfl
       rw[h0] at hext
       have h00:w.vs=[]:=(List.append_eq_nil_iff.1 hext.symm).2
       simp-implicitDefEqProofs[hb0,wO,wC,vaC,h00]
       rw[h00] at fin
       exact fin _ ⟨[],(bA fns k b l w).count,(bA fns k b l w).code⟩ (.inl rfl) (by simp)
      |false=>
       have hle:w.vs.length≤(bA fns k b l w).vs.length:=by omega
       simp-implicitDefEqProofs[hb0,wO,wC,vaC,hle]
       exact fin _ ⟨w.vs,(bA fns k b l w).count,(bA fns k b l w).code⟩ (.inl rfl) (by simp)
     ·have hwe:nT fns k b l w=bA fns k b l w:=if_neg hb0
      have hb0':b=0:=by omega
      subst hb0'
      rw[hwe]
      simp-implicitDefEqProofs[]
      exact fin _ _ (.inr rfl) (by simp)
    ·simp-implicitDefEqProofs[]
     refine⟨nf,_,rfl,rfl,?_,rfl⟩
     intro hnf
     have h0:=hn hnf
     unfold nT
     split
     ·rw[h0] at hext;exact(List.append_eq_nil_iff.1 hext.symm).2
     ·exact h0
end Go.Proofs.YtiojgfhdcpppcaaGreatDoor
namespace Go.Proofs.YtiojgfhdcpppcaaGreatDoor
open Go Go.Aw
set_option maxRecDepth 100000
set_option maxHeartbeats 4000000
def K_spec_l4Fn:AK:= .seq (.reg [oJ 2 (.box 1 (.t 0)),oJ 4 (.alloc [(.p (.str [])),.nils,.nils]),oK 5 0,oK 6 0]) (.seq (.reg [oJ 11 (.ld (some 1) (.t 2)),oM 12 1,oJ 13 (.bld [.nils,(.p (.int .i64 0)),.nils,(.p (.int .i64 0)),(.p (.int .i64 0))] [(0,1,(.t 11)),(1,1,(.t 12))]),oJ 14 (.box 5 (.t 13)),oM 7 14]) (.cut (.reg [oF 15 0 2,oL 16 15,oM 17 1,oJ 18 (.idxS 3 (.t 16) (.t 17)),oJ 19 (.ld (some 3) (.t 18)),oJ 8 (.alloc [(.p (.str [])),.nils,.nils]),⟨none,none,.st 3 (.t 8) (.t 19)⟩]) (.cut (.seq (.reg [oJ 20 (.ld (some 1) (.t 2)),oF 21 0 8,oL 22 21,oJ 23 (.call ff [(.t 20),(.t 22)]),oM 24 1,oJ 25 (.bin .neq (.t 23) (.t 24))]) (.cond (.t 25) (.reg [oM 26 7,oJ 27 (.call aJ [(.t 26),(.c (.p (.int .i64 2)))])]) (.skip))) (.seq (.reg [oJ 28 (.bsl 1 [(.p (.str []))] 0 []),oM 9 28]) (.seq (.seq (.reg [oK 10 0]) (.blk 0 (.loop (.seq (.seq (.reg [oM 29 10,oF 30 1 8,oL 31 30,oJ 32 (.len false (.t 31)),oJ 33 (.bin .lss (.t 29) (.t 32))]) (.cond (.t 33) (.skip) (.exit 0))) (.seq (.blk 1 (.reg [oM 36 9,oM 37 7,oF 38 1 8,oL 39 38,oM 40 10,oJ 41 (.idxS 1 (.t 39) (.t 40)),oL 42 41,oJ 43 (.call bS [(.t 37),(.t 42),(.c (.p (.int .i64 0)))]),oJ 44 (.bsl 1 [(.p (.str []))] 1 [(0,1,(.t 43))]),oJ 45 (.app 1 16 (.t 36) (.t 44)),oM 9 45])) (.reg [oM 34 10,oJ 35 (.bin .add (.t 34) (.c (.p (.int .i64 1)))),oM 10 35])))))) (.seq (.reg [oM 46 9,oF 47 1 8,oS 47 46]) (.seq (.reg [oM 48 7,oF 49 2 8,oL 50 49,oJ 51 (.call aT [(.t 48),(.t 50),(.c (.p (.int .i64 0)))]),oF 52 2 8,oS 52 51]) (.seq (.reg [oM 54 7,oN 55 54,oF 56 4 55,oM 58 7,oN 59 58,oF 60 3 59,oJ 53 (.ld (some 3) (.t 8)),oL 57 56,oL 61 60,⟨none,none,.st 3 (.t 4) (.t 53)⟩,⟨none,none,.chk none 56 57⟩,⟨none,none,.chk none 60 61⟩,oM 5 57,oM 6 61]) (.ret)))))))))
theorem wB:K_spec_l4Fn.whole=F_spec_l4Fn.ak:=rfl
theorem wu:∀(ps:List (List UInt8)) (w:WS),w.vs.length≤w.count→(ca ps w).vs.length≤(ca ps w).count
 |[],w,h=>h
 |s::r,w,h=>wu r (iG w s 0) (by simp[iG];omega)
theorem AB(a b:List (List UInt8))(w:WS):ca (a++b) w=ca b (ca a w):=by simp[ca]
theorem xR{l:List (List UInt8)}{w:WS}{i:Nat}(h:i<l.length):ca (l.take (i+1)) w=iG (ca (l.take i) w) l[i] 0:=by
 rw[al h,AB];rfl
theorem xy:∀(a b:List (List UInt8)) (w:WS),kK (a++b) w=kK a w++kK b (ca a w)
 |[],b,w=>rfl
 |s::r,b,w=>by rw[List.cons_append,kK,kK,xy r];rfl
theorem AS{l:List (List UInt8)}{w:WS}{i:Nat}(h:i<l.length):kK (l.take (i+1)) w=kK (l.take i) w++[vnm (ca (l.take i) w).count]:=by
 rw[al h,xy];rfl
theorem rI:∀(l:List (List UInt8)) (w:WS),(kK l w).length=l.length
 |[],w=>rfl
 |s::r,w=>by rw[kK,List.length_cons,rI r,List.length_cons]
def w0(fns:List Fd)(k:Nat)(f:Fd):WS:=⟨[],0,if dy fns f.name=some k then 0 else 2⟩
theorem Hd(fns:List Fd)(k:Nat)(f:Fd):fnW fns k f=bA fns k 0 f.body (ca f.params (w0 fns k f)):=rfl
theorem yE(fns:List Fd)(k:Nat)(f:Fd):(rnF fns k f).cs=[.str f.name,ay (kK f.params (w0 fns k f)),smL (eS fns k 0 f.body (ca f.params (w0 fns k f)))]:=rfl
variable (G:aA)
theorem BU{fns:List Fd}{k:Nat}{f:Fd}(hk:fns[k]?=some f)(hz:bm fns≤1073741824):VF Tryz.prog G gH [.agg [.p (fdL fns)],.p (.int .i64 k)] (.tup [.agg ((rnF fns k f).cs.map .p),.p (.int .i64 (fnW fns k f).code),.p (.int .i64 (fnW fns k f).count)]):=by
 have hfl:=cK fns
 have hfm:=dh (List.mem_of_getElem? hk)
 have hfz:f.sz=1+f.name.length+(f.params.length+(f.params.map List.length).sum)+aG f.body:=rfl
 have hkl:=(List.getElem?_eq_some_iff.1 hk).1
 have key:AC Tryz.prog G gH [.agg [.p (fdL fns)],.p (.int .i64 k)] [] fun x h=>x= .ret (.tup [.agg [.p (.str f.name),.sl 5 1 0 f.params.length,.p (smL (eS fns k 0 f.body (ca f.params (w0 fns k f))))],.p (.int .i64 (fnW fns k f).code),.p (.int .i64 (fnW fns k f).count)])∧h[5]?=some (mT (kK f.params (w0 fns k f))):=by
  refine AC.goK wE wB ?_
  have hfd:∀l,fdL l= .lst 3 (l.map Fd.cs):=fun _=>rfl
  have hcs:f.cs=[.str f.name,ay f.params,smL f.body]:=rfl
  have hst:ay f.params= .lst 1 (f.params.map fun w=>[.str w]):=rfl
  simp-implicitDefEqProofs[K_spec_l4Fn,F_spec_l4Fn]
  refine ky (aj 62 [(1,.p (.int .i64 k)),(2,.ptr 0 1 0 0),(4,.ptr 1 3 0 0),(7,.ptr 2 5 0 0),(8,.ptr 3 3 0 0)])
   [.row 1 [[.p (fdL fns)]],.row 3 [[.p (.str []),.nils,.nils]],wO 4 true fns k ⟨[],0,0⟩,.row 3 [[.p (.str f.name),.p (ay f.params),.p (smL f.body)]],.dead] ?_ ?_
  ·simp-implicitDefEqProofs[hfd,hk,hcs]
   refine ti (h:=[.row 1 [[.p (fdL fns)]],.row 3 [[.p (.str []),.nils,.nils]],wO 4 true fns k ⟨[],0,0⟩,.row 3 [[.p (.str f.name),.p (ay f.params),.p (smL f.body)]]]) (by simp) (by simp) ?_ (by simp[below])
   refine ae (by simp[okO,below]) (ae (by simp[okO,below]) (ae ?_ (ae (by simp[okO,below]) dY)))
   intro x hx
   rw[List.mem_singleton.1 hx];simp[wC,vaC,below]
  refine ky (aj 62 [(1,.p (.int .i64 k)),(2,.ptr 0 1 0 0),(4,.ptr 1 3 0 0),(7,.ptr 2 5 0 0),(8,.ptr 3 3 0 0)])
   [.row 1 [[.p (fdL fns)]],.row 3 [[.p (.str []),.nils,.nils]],wO 4 true fns k (w0 fns k f),.row 3 [[.p (.str f.name),.p (ay f.params),.p (smL f.body)]],.dead] ?_ ?_
  ·simp-implicitDefEqProofs[]
   refine(Dm G fns f.name (by omega)).use ?_
   have hok:∀w:WS,∀o∈[AO.row 1 [[.p (fdL fns)]],.row 3 [[.p (.str []),.nils,.nils]],wO 4 true fns k w,.row 3 [[.p (.str f.name),.p (ay f.params),.p (smL f.body)]],.dead],okO 5 o:=fun w=>
    ae (by simp[okO,below]) (ae (by simp[okO,below]) (ae (qQ (by simp)) (ae (by simp[okO,below]) (ae trivial dY))))
   by_cases he:dy fns f.name=some k
   ·have hw:w0 fns k f=⟨[],0,0⟩:=by rw[w0,if_pos he]
    rw[hw,he]
    simp-implicitDefEqProofs[ixI]
    exact ab (by simp) (hok _) (by simp[below])
   ·have hw:w0 fns k f=⟨[],0,2⟩:=by rw[w0,if_neg he]
    have hne:¬ixI (dy fns f.name)=(k:Int):=by
     intro h
     apply he
     cases e:dy fns f.name with
     |none=>rw[e] at h;simp only[ixI] at h;omega
     |some j=>rw[e] at h;simp only[ixI] at h;have:j=k:=by omega
              rw[this]
    rw[hw]
    simp-implicitDefEqProofs[hne]
    refine(Gh G (wid:=2) (id:=4) (mJ G true fns k ⟨[],0,0⟩ 2) (by simp) (by simp[below]) (by decide) rfl rfl).mono ?_
    rintro r h' ⟨rfl,rfl⟩
    simp-implicitDefEqProofs[aa]
    exact ab (h:=[AO.row 1 [[.p (fdL fns)]],.row 3 [[.p (.str []),.nils,.nils]],wO 4 true fns k ⟨[],0,2⟩,.row 3 [[.p (.str f.name),.p (ay f.params),.p (smL f.body)]],.dead]) (by simp) (hok _) (by simp[below])
  rw[Hd]
  have hw0v:(w0 fns k f).vs=[]:=rfl
  have hw0c:(w0 fns k f).count=0:=rfl
  generalize w0 fns k f=w0 at hw0v hw0c⊢
  simp-implicitDefEqProofs[]
  have hcnt:∀j,j≤f.params.length→(ca (f.params.take j) w0).count=j:=fun j hj=>by rw[lK,hw0c];simp;omega
  have hvl:∀j,(ca (f.params.take j) w0).vs.length≤(ca (f.params.take j) w0).count:=fun j=>wu _ _ (by rw[hw0v];simp)
  refine az (fun j:Nat=>aj 62 [(1,.p (.int .i64 k)),(2,.ptr 0 1 0 0),(4,.ptr 1 3 0 0),(7,.ptr 2 5 0 0),(8,.ptr 3 3 0 0),(9,.sl 5 1 0 j),(10,.p (.int .i64 j))])
   (fun j=>[.row 1 [[.p (fdL fns)]],.row 3 [[.p (.str []),.nils,.nils]],wO 6 (decide (j=0)) fns k (ca (f.params.take j) w0),.row 3 [[.p (.str f.name),.p (ay f.params),.p (smL f.body)]],.dead,mT (kK (f.params.take j) w0),roC (decide (j=0)) (ca (f.params.take j) w0).vs])
   (fun j=>j≤f.params.length) (fun j=>f.params.length-j) 0 (by simp) ?_ ?_
  ·refine ti (h:=[.row 1 [[.p (fdL fns)]],.row 3 [[.p (.str []),.nils,.nils]],wO 6 true fns k w0,.row 3 [[.p (.str f.name),.p (ay f.params),.p (smL f.body)]],.dead,.row 1 []]) (by simp) (by simp) ?_ (by simp[below])
   refine ae (by simp[okO,below]) (ae (by simp[okO,below]) (ae ?_ (ae (by simp[okO,below]) (ae trivial (ae (by simp[okO]) dY)))))
   intro x hx
   rw[List.mem_singleton.1 hx];simp[wC,vaC,below]
  intro j hj
  have hjc:=hcnt j hj
  have hjv:=hvl j
  have hol:=rI (f.params.take j) w0
  rw[List.length_take,Nat.min_eq_left hj] at hol
  have hnf:decide (j=0)=true→(ca (f.params.take j) w0).vs=[]:=by
   intro h
   have h0:j=0:=by simpa using h
   rw[h0,List.take_zero]
   exact hw0v
  simp-implicitDefEqProofs[hst]
  refine bi (fun h=>?_) (fun h=>?_)
  ·simp at h
   have hg:=List.getElem?_eq_getElem h
   have eP:=xR (w:=w0) h
   have eR:=AS (w:=w0) h
   simp-implicitDefEqProofs[hg]
   refine(Cu G (wid:=2) (id:=6) (Q:=fun nf' w'=>nf'=false∧w'=iG (ca (f.params.take j) w0) f.params[j] 0) ((Cx G (decide (j=0)) fns k _ hnf (by omega) (by omega) f.params[j] 0).mono (by rintro x h ⟨rfl,rfl⟩;exact⟨false,_,rfl,rfl,rfl,rfl⟩)) (by simp) (by simp[below]) (by decide) rfl rfl).mono ?_
   rintro r h' ⟨nf',w',rfl,rfl,rfl,rfl⟩
   have hso:∀l,mT l= .row 1 (l.map fun n=>[.p (.str n)]):=fun _=>rfl
   simp-implicitDefEqProofs[aa,hso,hol]
   refine⟨by omega,j+1,by omega,by omega,?_⟩
   have htk:List.take j ((kK (f.params.take j) w0).map fun n=>[AV.p (.str n)])=(kK (f.params.take j) w0).map fun n=>[AV.p (.str n)]:=List.take_of_length_le (by rw[List.length_map];omega)
   have hd:decide (j+1=0)=false:=by simp
   rw[eP,eR,hd,List.map_append,←List.map_take,List.map_take,htk]
   refine eJ [0,1,2,3,4,9,7] rfl (by decide) (bJ rfl (by simp) (bJ rfl (by simp[below]) (sg (by simp) rfl (bJ rfl (by simp) (gu (by simp) (bJ rfl (fun x hx=>?_) (kQ rfl (fb _ _ _) cP))))))) (by simp[below,ren,w1 (i:=j) (by omega)])
   rcases List.mem_append.1 hx with h|h
   ·exact tV _ x h
   ·exact tV _ x h
  ·simp at h
   have hje:j=f.params.length:=by omega
   subst hje
   rw[List.take_length] at hol hjc hjv hnf⊢
   generalize decide (f.params.length=0)=nf at hnf⊢
   simp-implicitDefEqProofs[]
   refine(Cu G (wid:=2) (id:=6) (Cm G (fns:=fns) (by omega) (aG f.body+1) f.body (by omega) 0 _ (ca f.params w0) hnf hjv (by omega) (by omega)) (by simp) (by simp[below]) (by decide) rfl rfl).mono ?_
   rintro r h' ⟨nf',w',rfl,rfl,hn',hw'⟩
   have hb:nT fns k 0 f.body (ca f.params w0)=bA fns k 0 f.body (ca f.params w0):=rfl
   rw[hb] at hw'
   rw[←hw']
   simp-implicitDefEqProofs[aa,wO,wC]
 refine key.freezeR (fun t v h ⟨e,_⟩=>by cases e) fun v h ⟨e1,e2⟩=>?_
 cases e1
 rw[yE]
 have hol:=rI f.params (w0 fns k f)
 have hv:=uh e2
 rw[hol] at hv
 exact .tup (.agg (.keep (by simp) (.one hv (.keep (by simp) .nil))) (.keep (by simp) (.keep (by simp) .nil))) .nil
theorem xd{fns:List Fd}{i:Nat}(h:i<fns.length):fP fns i (fns.drop i)=if(fnW fns i fns[i]).code=0 then fP fns (i+1) (fns.drop (i+1)) else(fnW fns i fns[i]).code:=by
 rw[List.drop_eq_getElem_cons h,fP]
theorem sP(l:List Fd)(hz:bm l≤1073741824):VF Tryz.prog G ey [.agg [.p (fdL l)]] (.p (.int .i64 (de l))):=by
 refine AC.go na ?_
 have hll:=cK l
 have hfd:∀l,fdL l= .lst 3 (l.map Fd.cs):=fun _=>rfl
 simp-implicitDefEqProofs[gU]
 refine(sy G l (by omega)).use ?_
 by_cases hv:cb l=true
 case neg=>
  have:de l=1:=if_neg hv
  have hv':cb l=false:=by simpa using hv
  simp-implicitDefEqProofs[hv',this]
 have hc:de l=fP l 0 (l.drop 0):=if_pos hv
 rw[hc]
 simp-implicitDefEqProofs[hv]
 refine az (fun i:Nat=>aj 27 [(1,.ptr 0 1 0 0),(3,.p (.int .i64 i))]) (fun _=>[.row 1 [[.p (fdL l)]]]) (fun i=>i≤l.length∧fP l 0 l=fP l i (l.drop i)) (fun i=>l.length-i) 0 (by simp) (ab (by simp) (by simp[okO]) (by simp[below])) ?_
 rintro i ⟨hi,he⟩
 simp-implicitDefEqProofs[hfd]
 refine bi (fun h=>?_) (fun h=>?_)
 ·simp at h
  have hg:=List.getElem?_eq_getElem h
  have hd:=xd h
  simp-implicitDefEqProofs[]
  refine(BU G hg hz).use ?_
  have hrc:=yE l i l[i]
  by_cases h0:(fnW l i l[i]).code=0
  ·rw[if_pos h0] at hd
   simp-implicitDefEqProofs[h0,hrc]
   refine⟨i+1,⟨by omega,by rw[he,hd]⟩,by omega,?_⟩
   refine ji (m:=1) (by omega) (eD rfl rfl (by simp[okO,below])) (by simp[below,hfd,w1 (i:=i) (by omega)])
  ·rw[if_neg h0] at hd
   simp-implicitDefEqProofs[h0,hrc]
   rw[he,hd]
 ·simp at h
  have hie:i=l.length:=by omega
  subst hie
  rw[List.drop_length] at he
  simp-implicitDefEqProofs[]
  rw[he];rfl
end Go.Proofs.YtiojgfhdcpppcaaGreatDoor
namespace Go.Proofs.YtiojgfhdcpppcaaGreatDoor
open Go Go.Aw
set_option maxRecDepth 100000
set_option maxHeartbeats 4000000
def lW(f:Fd):Nat:=f.params.length+cy f.body
def qV(st:Int)(x:Sm × Nat):Int:=if x.1.op=1 then IntKind.i64.wrap (st+1) else st
mutual
theorem FI:∀(s:Sm) (d:Nat) (st:Int),0≤st→st+jO s≤1099511627776→(s.pre d).foldl qV st=st+jO s
 | .mk o n a bd el,d,st,h0,h=>by
   rw[jO] at h
   have h1:=rv bd (d+1)
   have h2:=rv el (d+1)
   rw[Sm.pre,List.foldl_cons,List.foldl_append,jO]
   by_cases ho:o=1
   ·have e:qV st (⟨o,n,a,bd,el⟩,d)=st+1:=by show(if o=1 then _ else _)=_;rw[if_pos ho,ag (by omega) (by rw[if_pos ho] at h;omega)]
    rw[if_pos ho] at h⊢
    rw[e,h1 _ (by omega) (by omega),h2 _ (by omega) (by omega)]
    omega
   ·have e:qV st (⟨o,n,a,bd,el⟩,d)=st:=by show(if o=1 then _ else _)=_;rw[if_neg ho]
    rw[if_neg ho] at h⊢
    rw[e,h1 _ (by omega) (by omega),h2 _ (by omega) (by omega)]
    omega
theorem rv:∀(l:List Sm) (d:Nat) (st:Int),0≤st→st+cy l≤1099511627776→(bw d l).foldl qV st=st+cy l
 |[],d,st,_,_=>by simp[bw,cy]
 |s::r,d,st,h0,h=>by
  rw[cy] at h
  rw[bw,List.foldl_append,FI s d st h0 (by omega),rv r d _ (by omega) (by omega),cy]
  omega
end
def yn(f:Fd):Vis Int where
 I:=fun st=>[.row 3 [[.p (.str f.name),.p (ay f.params),.p (smL f.body)]],.row 1 [[.p (.int .i64 st)]]]
 n:=2
 F:=dz
 caps:=[.ptr 1 1 0 0]
 len:=fun _=>rfl
 ok:=fun st=>by simp[okO,below]
 capsOk:=by simp[below]
variable (G:aA)
theorem vE(f:Fd)(st:Int)(s:Sm)(d:Nat):AC Tryz.prog G dz [.agg (s.cs.map .p),.p (.int .i64 d),.ptr 1 1 0 0] ((yn f).I st) fun x h=>x= .ret (.tup [])∧h=(yn f).I (qV st (s,d)):=by
 refine(yn f).trim G (AC.go ov ?_) (by simp[below])
 have hse:=s.cs_eq
 by_cases ho:s.op=1
 ·simp-implicitDefEqProofs[fC,hse,yn,qV,ho]
 ·simp-implicitDefEqProofs[fC,hse,yn,qV,ho]
theorem xV(f:Fd)(hb:f.sz≤1073741824):VF Tryz.prog G gP [.agg (f.cs.map .p)] (.p (.int .i64 (lW f))):=by
 have hcs:=f.cs_eq'
 have hfz:f.sz=1+f.name.length+(f.params.length+(f.params.map List.length).sum)+aG f.body:=rfl
 have hl:=mm f.body
 have hl2:=kq f.body
 have hst:ay f.params= .lst 1 (f.params.map fun w=>[.str w]):=rfl
 have hI:=(zP G (yn f) qV (fun _=>True) 1073741824 (by omega) (fun st s d _ _=>⟨trivial,vE G f st s d⟩) (aG f.body+1) f.body (by omega) (by omega) 1 (by omega) (f.params.length:Int) trivial).2
 rw[rv f.body 1 f.params.length (by omega) (by omega)] at hI
 refine AC.go ri ?_
 simp-implicitDefEqProofs[kR,hcs,hst]
 refine hI.mono ?_
 rintro r h ⟨rfl,rfl⟩
 simp-implicitDefEqProofs[aa,yn,lW]
theorem Cr(l:List Fd)(hz:bm l≤1073741824):VF Tryz.prog G jA [.agg [.p (fdL l)]] (.p (.bool (decide (de l=0)))):=by
 refine AC.go tz ?_
 simp-implicitDefEqProofs[nv]
 refine(sP G l hz).use ?_
 simp-implicitDefEqProofs[]
variable (hK:G fN=some fD) (hS:G di=some [.tbl opK opV])
include hK hS
theorem GM(l:List Fd)(hz:bm l≤1073741824):VF Tryz.prog G mg [.agg [.p (fdL l)]] (.p (.bool (decide (de l=0)))):=by
 refine AC.go vT ?_
 simp-implicitDefEqProofs[qF]
 refine(sY G hK hS l hz).use ?_
 simp-implicitDefEqProofs[]
end Go.Proofs.YtiojgfhdcpppcaaGreatDoor
namespace Go.Proofs.YtiojgfhdcpppcaaGreatDoor
open Go Go.Aw
set_option maxRecDepth 100000
set_option maxHeartbeats 4000000
def cr{σ α β:Type}(g:σ→α→β × σ):σ→List α→List β × σ
 |st,[]=>([],st)
 |st,x::r=>((g st x).1::(cr g (g st x).2 r).1,(cr g (g st x).2 r).2)
theorem wK{σ α β:Type}(g:σ→α→β × σ):∀(a b:List α) (st:σ),cr g st (a++b)=((cr g st a).1++(cr g (cr g st a).2 b).1,(cr g (cr g st a).2 b).2)
 |[],b,st=>rfl
 |x::r,b,st=>by rw[List.cons_append,cr,wK g r];rfl
theorem mu{σ α β:Type}{g:σ→α→β × σ}{l:List α}{st:σ}{i:Nat}(h:i<l.length):cr g st (l.take (i+1))=((cr g st (l.take i)).1++[(g (cr g st (l.take i)).2 l[i]).1],(g (cr g st (l.take i)).2 l[i]).2):=by
 rw[al h,wK];rfl
theorem lD{σ α β:Type}(g:σ→α→β × σ):∀(l:List α) (st:σ),(cr g st l).1.length=l.length
 |[],st=>rfl
 |x::r,st=>by rw[cr,List.length_cons,List.length_cons,lD g r]
theorem ma{σ α β:Type}{g:σ→α→β × σ}{inv:Nat→σ→Prop}:∀{l:List α} {st:σ} {k:Nat},inv k st→(∀(i:Nat) st (h:i<l.length),inv (k+i) st→inv (k+i+1) (g st l[i]).2)→∀i,i≤l.length→inv (k+i) (cr g st (l.take i)).2
 |[],st,k,h0,_,i,hi=>by
  have:i=0:=by simpa using hi
  subst this;exact h0
 |x::r,st,k,h0,hs,0,_=>h0
 |x::r,st,k,h0,hs,i+1,hi=>by
  have h1:=hs 0 st (by simp) h0
  have:=ma (g:=g) (l:=r) (st:=(g st x).2) (k:=k+1) h1 (fun j st hj hv=>by
   have:=hs (j+1) st (by simp;omega) (by rw[show k+(j+1)=k+1+j by omega];exact hv)
   rw[show k+(j+1)+1=k+1+j+1 by omega] at this
   exact this) i (by simpa using hi)
  rw[List.take_succ_cons,cr,show k+(i+1)=k+1+i by omega]
  exact this
variable (G:aA)
end Go.Proofs.YtiojgfhdcpppcaaGreatDoor
namespace Go.Proofs.YtiojgfhdcpppcaaGreatDoor
open Go Go.Aw
set_option maxRecDepth 100000
theorem aS{s:Bool}{h:List AO}{vs:List AV}{q:PV}{I:List Nat}(H:OwnL s h vs [q] I):∃v,vs=[v]:=by
 have:=H.len
 match vs,this with
 |[v],_=>exact⟨v,rfl⟩
theorem Em{s:Bool}{h:List AO}{vs:List AV}{q r:PV}{I:List Nat}(H:OwnL s h vs [q,r] I):∃a b,vs=[a,b]:=by
 have:=H.len
 match vs,this with
 |[a,b],_=>exact⟨a,b,rfl⟩
theorem Bz{s:Bool}{h:List AO}{vs:List AV}{q r t:PV}{I:List Nat}(H:OwnL s h vs [q,r,t] I):∃a b c,vs=[a,b,c]:=by
 have:=H.len
 match vs,this with
 |[a,b,c],_=>exact⟨a,b,c,rfl⟩
theorem rG{s:Bool}{h:List AO}{vs:List AV}{e:Ex}{I:List Nat}(H:OwnL s h vs e.cs I):∃K,vs=[.p (.int .i64 e.op),.p (.int .i64 e.n),.p (.str e.name),K]∧OwnL s h [K] [exL e.kids] I:=by
 rw[e.cs_eq] at H
 cases H with
 |p _ _ H=>
  cases H with
  |p _ _ H=>
   cases H with
   |p _ _ H=>
    obtain⟨v,rfl⟩:=aS H
    exact⟨v,rfl,H⟩
theorem GO{s:Bool}{h:List AO}{o n:Int}{w:List UInt8}{k:List Ex}{K:AV}{I:List Nat}(H:OwnL s h [K] [exL k] I):OwnL s h [.p (.int .i64 o),.p (.int .i64 n),.p (.str w),K] (Ex.mk o n w k).cs I:=by
 rw[Ex.cs_eq]
 exact .p _ (fun _=>rfl) (.p _ (fun _=>rfl) (.p _ (fun _=>rfl) H))
theorem ye{s:Bool}{h:List AO}{vs:List AV}{e:Sm}{I:List Nat}(H:OwnL s h vs e.cs I):∃A B E I1 I2 I3,vs=[.p (.int .i64 e.op),.p (.str e.name),A,B,E]∧I=I1++(I2++I3)∧OwnL s h [A] [exL e.args] I1∧OwnL s h [B] [smL e.body] I2∧OwnL s h [E] [smL e.els] I3:=by
 rw[e.cs_eq] at H
 cases H with
 |p _ _ H=>
  cases H with
  |p _ _ H=>
   obtain⟨A,B,E,rfl⟩:=Bz H
   obtain⟨I1,I',rfl,h1,H⟩:=H.one
   obtain⟨I2,I3,rfl,h2,h3⟩:=H.one
   exact⟨A,B,E,I1,I2,I3,rfl,rfl,h1,h2,h3⟩
theorem Ha{s:Bool}{h:List AO}{o:Int}{w:List UInt8}{a:List Ex}{b e:List Sm}{A B E:AV}{I1 I2 I3:List Nat}(h1:OwnL s h [A] [exL a] I1)(h2:OwnL s h [B] [smL b] I2)(h3:OwnL s h [E] [smL e] I3):
 OwnL s h [.p (.int .i64 o),.p (.str w),A,B,E] (Sm.mk o w a b e).cs (I1++(I2++I3)):=by
 rw[Sm.cs_eq]
 exact .p _ (fun _=>rfl) (.p _ (fun _=>rfl) (h1.app (h2.app h3)))
theorem yR{s:Bool}{h:List AO}{vs:List AV}{f:Fd}{I:List Nat}(H:OwnL s h vs f.cs I):∃A B I1 I2,vs=[.p (.str f.name),A,B]∧I=I1++I2∧OwnL s h [A] [ay f.params] I1∧OwnL s h [B] [smL f.body] I2:=by
 rw[show f.cs=[.str f.name,ay f.params,smL f.body] from rfl] at H
 cases H with
 |p _ _ H=>
  obtain⟨A,B,rfl⟩:=Em H
  obtain⟨I1,I2,rfl,h1,H⟩:=H.one
  exact⟨A,B,I1,I2,rfl,rfl,h1,H⟩
theorem Hp{s:Bool}{h:List AO}{w:List UInt8}{ps:List (List UInt8)}{b:List Sm}{A B:AV}{I1 I2:List Nat}(h1:OwnL s h [A] [ay ps] I1)(h2:OwnL s h [B] [smL b] I2):OwnL s h [.p (.str w),A,B] (Fd.mk w ps b).cs (I1++I2):=
 .p _ (fun _=>rfl) (h1.app h2)
end Go.Proofs.YtiojgfhdcpppcaaGreatDoor
namespace Go.Proofs.YtiojgfhdcpppcaaGreatDoor
open Go Go.Aw
set_option maxRecDepth 100000
theorem FW{P:Program}{G:aA}{f:FuncId}{args:List AV}{w:List AV→AV}{s:Bool}{qs:List PV}{A A':List AO}(hw:Shp w)(H:AC P G f args A (Mk w s qs A'))(hl:A'.length=A.length)(ha:ah A.length args)(hA:∀o∈A,okO A.length o)(hA':∀o∈A',okO A.length o)(B:List AO):
 AC P G f args (A++B) (Mk w s qs (A'++B)):=by
 refine(H.frame (List.range' 0 A.length) List.nodup_range' (zB ha) (FR rfl hA)).mono ?_
 rintro x h' ⟨x0,h0,⟨vs,I,os,rfl,rfl,ho,nd,hf⟩,hl0,rfl,rfl⟩
 have hlen:(A'++os).length-A.length=os.length:=by rw[List.length_append];omega
 rw[hlen]
 have hσ:∀i,i<A.length→(List.range' 0 A.length++List.range' (A++B).length os.length).getD i 0=i:=fun i hi=>by
  rw[List.getD_eq_getElem?_getD,List.getElem?_append_left (by simpa using hi)];simp[hi]
 have hσ2:∀i,i<os.length→(List.range' 0 A.length++List.range' (A++B).length os.length).getD (A.length+i) 0=(A++B).length+i:=fun i hi=>by
  rw[List.getD_eq_getElem?_getD,List.getElem?_append_right (by simp)];simp[hi]
 generalize List.range' 0 A.length++List.range' (A++B).length os.length=σ at hσ hσ2⊢
 have em:A'.map (dC σ)=A':=by
  rw[List.map_congr_left (g:=id) fun o ho=>oV hσ o (hA' o ho)];simp
 have hm:=vC A A' B 0 hl [] rfl
 simp only[List.nil_append] at hm
 rw[List.take_append_of_le_length (by omega),List.take_of_length_le (by omega),List.drop_append_of_le_length (by omega),List.drop_of_length_le (by omega),em,List.nil_append,hm]
 have hlt:∀i∈I,∃j,i=A.length+j∧j<os.length:=fun i hi=>by
  have h1:=hf i hi
  have h2:=ho.lt hi
  rw[List.length_append] at h2
  exact⟨i-A.length,by omega,by omega⟩
 refine⟨bn σ vs,I.map fun i=>σ.getD i 0,os.map (dC σ),by simp only[vO];rw[hw.ren],rfl,ho.ren fun i hi sz rows e=>?_,?_,fun i hi=>?_⟩
 ·obtain⟨j,rfl,hj⟩:=hlt i hi
  rw[List.getElem?_append_right (by omega),hl,Nat.add_sub_cancel_left] at e
  rw[hσ2 j hj,List.getElem?_append_right (by rw[List.length_append,List.length_append,hl];omega),List.length_append,List.length_append,hl,Nat.add_sub_cancel_left,List.getElem?_map,e]
  rfl
 ·rw[List.map_congr_left (g:=fun i=>B.length+i) fun i hi=>by
   obtain⟨j,rfl,hj⟩:=hlt i hi
   rw[hσ2 j hj,List.length_append];omega]
  exact jU (fun i j e=>by omega) nd
 ·obtain⟨i',hi',rfl⟩:=List.mem_map.1 hi
  obtain⟨j,rfl,hj⟩:=hlt i' hi'
  rw[hσ2 j hj,List.length_append,List.length_append,hl];omega
theorem Vis.preO{G:aA}{σ:Type}(V:Vis σ){f:FuncId}{args:List AV}{st st':σ}{w:List AV→AV}{qs:List PV}(hw:Shp w)(H:AC Tryz.prog G f args (V.I st) (Mk w true qs (V.I st')))(rest:List AO)(ha:ah V.n args):
 AC Tryz.prog G f args (V.I st++rest) (Mk w true qs (V.I st'++rest)):=
 FW hw H (by rw[V.len,V.len]) (by rw[V.len];exact ha) (by rw[V.len];exact V.ok st) (by rw[V.len];exact V.ok st') rest
theorem Dz{w:List AV→AV}{vs:List AV}{qs:List PV}{I:List Nat}{X Y C0 C1 os:List AO}(ho:OwnL true (X++os) vs qs I)(nd:I.Nodup)(hf:∀i∈I,X.length≤i)(hl:Y.length+C0.length+C1.length=X.length):
 Mk w true qs (Y++C0) (.ret (w vs)) (Y++(C0++(C1++os))):=by
 refine⟨vs,I,C1++os,rfl,by simp,ho.frame fun i hi=>?_,nd,fun i hi=>?_⟩
 ·have h1:=hf i hi
  rw[List.getElem?_append_right h1,←List.append_assoc,←List.append_assoc,List.getElem?_append_right (by rw[List.length_append,List.length_append];omega),List.length_append,List.length_append,hl]
 ·have h1:=hf i hi
  rw[List.length_append];omega
theorem xX{w:List AV→AV}{vs:List AV}{qs:List PV}{I:List Nat}{X Y C1 os:List AO}(ho:OwnL true (X++os) vs qs I)(nd:I.Nodup)(hf:∀i∈I,X.length≤i)(hl:Y.length+C1.length=X.length):
 Mk w true qs Y (.ret (w vs)) (Y++(C1++os)):=by
 have:=Dz (w:=w) (Y:=Y) (C0:=[]) (C1:=C1) ho nd hf (by simpa using hl)
 simpa using this
def GroI{σ:Type}(V:Vis σ)(sz:Nat)(D:List (List PV))(st:σ)(h:List AO)(x:AV):Prop:=
 (∃os,h=V.I st++os)∧((D=[]∧x= .nils)∨∃id rows J,x= .sl id sz 0 D.length∧D≠[]∧RowOwn true h id sz rows D J∧∀j∈id::J,V.n≤j)
section
variable {σ:Type} {V:Vis σ} {sz:Nat} {D:List (List PV)} {st st':σ} {h:List AO} {x:AV}
theorem GroI.init:GroI V sz [] st (V.I st) .nils:=⟨⟨[],by simp⟩,.inl ⟨rfl,rfl⟩⟩
theorem GroI.done(H:GroI V sz D st h x):Mk one true [.lst sz D] (V.I st) (.ret x) h:=by
 obtain⟨⟨os,rfl⟩,⟨rfl,rfl⟩|⟨id,rows,J,rfl,_,hr,hJ⟩⟩:=H
 ·exact⟨[.nils],[],os,rfl,rfl,.nils sz .nil,List.nodup_nil,fun _ h=>by cases h⟩
 ·exact⟨[_],id::J,os,rfl,rfl,hr.tree rfl,hr.nd,fun i hi=>by rw[V.len];exact hJ i hi⟩
structure GroS (σ:Type) where (i:Nat) (st:σ) (h:List AO) (x:AV)
theorem GroI.call{G:aA}(H:GroI V sz D st h x){f:FuncId}{args:List AV}{w:List AV→AV}{qs:List PV}(hw:Shp w)(HA:AC Tryz.prog G f args (V.I st) (Mk w true qs (V.I st')))(ha:ah V.n args)(B:List AO):
 AC Tryz.prog G f args (h++B) (Mk w true qs (V.I st'++h.drop V.n++B)):=by
 obtain⟨⟨os,rfl⟩,_⟩:=H
 have hdrop:(V.I st++os).drop V.n=os:=by rw[←V.len st,List.drop_left'];rfl
 rw[hdrop,List.append_assoc,List.append_assoc]
 exact V.preO hw HA (os++B) ha
theorem GroI.len(H:GroI V sz D st h x):V.n≤h.length:=by
 obtain⟨⟨os,rfl⟩,_⟩:=H
 rw[List.length_append,V.len];omega
theorem GroI.step(H:GroI V sz D st h x){e:List PV}(he:e.length=sz){h2 os2:List AO}(e2:h2=V.I st'++h.drop V.n++os2){r':List AV}{I2:List Nat}(ho:OwnL true h2 r' e I2)(nd2:I2.Nodup)(hf:∀j∈I2,h.length≤j):
 (x= .nils∧D=[]∧∀m:List AO,GroI V sz [e] st' (h2++(m++[.row sz [r']])) (.sl (h2.length+m.length) sz 0 1))∨
 ∃id rows,x= .sl id sz 0 D.length∧h2[id]?=some (.row sz rows)∧rows.length=D.length∧id<h2.length∧∀m:List AO,GroI V sz (D++[e]) st' ((h2++m).set id .dead++[.row sz (rows++[r'])]) (.sl (h2.length+m.length) sz 0 (D.length+1)):=by
 obtain⟨⟨os,rfl⟩,hx⟩:=H
 have hdrop:(V.I st++os).drop V.n=os:=by rw[←V.len st,List.drop_left'];rfl
 rw[hdrop] at e2
 have hl:(V.I st++os).length=V.n+os.length:=by rw[List.length_append,V.len]
 rw[hl] at hf
 have hsz:r'.length=sz:=by rw[ho.len,he]
 rcases hx with⟨rfl,rfl⟩|⟨id,rows,J,rfl,hD,hr,hJ⟩
 ·refine .inl ⟨rfl,rfl,fun m=>⟨⟨os++os2++(m++[.row sz [r']]),by rw[e2];simp⟩,.inr ⟨_,[r'],I2,rfl,by simp,⟨?_,rfl,by simp[hsz],by simp[he],?_,?_⟩,?_⟩⟩⟩
  ·rw[←List.append_assoc,List.getElem?_append_right (by simp)];simp
  ·have:=ho.more (m++[.row sz [r']])
   simpa using this
  ·rw[List.nodup_cons]
   exact⟨fun hm=>by have:=ho.lt hm;omega,nd2⟩
  ·intro j hj
   rcases List.mem_cons.1 hj with rfl|hj
   ·rw[e2];simp[V.len]<;>omega
   ·have:=hf j hj;omega
 ·have hr2:RowOwn true (V.I st'++os) id sz rows D J:=hr.frame fun i hi=>by
   have:=hJ i hi
   rw[List.getElem?_append_right (by rw[V.len];exact this),List.getElem?_append_right (by rw[V.len];exact this),V.len,V.len]
  have hid:h2[id]?=some (.row sz rows):=by rw[e2,List.getElem?_append_left hr2.lt];exact hr2.here
  refine .inr ⟨id,rows,rfl,hid,hr.len,(List.getElem?_eq_some_iff.1 hid).1,fun m=>?_⟩
  have hp:=hr2.push (h2:=h2++m) (os:=os2++m) (by rw[e2];simp) (ho.more m) nd2 (fun j hj=>by have:=hf j hj;rw[List.length_append,V.len];exact this) he
  have hid0:=hJ id (by simp)
  refine⟨⟨(os++os2++m).set (id-V.n) .dead++[.row sz (rows++[r'])],?_⟩,.inr ⟨(h2++m).length,rows++[r'],J++I2,by simp,by simp,hp,fun j hj=>?_⟩⟩
  ·rw[e2,←List.append_assoc]
   congr 1
   rw[List.append_assoc,List.append_assoc,List.set_append_right _ _ (by rw[V.len];exact hid0),V.len]
   simp
  ·rcases List.mem_cons.1 hj with rfl|hj
   ·rw[e2];simp[V.len]<;>omega
   ·rcases List.mem_append.1 hj with hj|hj
    ·exact hJ j (by simp[hj])
    ·have:=hf j hj;omega
end
end Go.Proofs.YtiojgfhdcpppcaaGreatDoor
namespace Go.Proofs.YtiojgfhdcpppcaaGreatDoor
open Go Go.Aw
set_option maxRecDepth 100000
set_option maxHeartbeats 4000000
theorem Ko{r:List AV}(h:r.length=4):∃a b c d,r=[a,b,c,d]:=by
 match r,h with
 |[a,b,c,d],_=>exact⟨a,b,c,d,rfl⟩
theorem Kj{r:List AV}(h:r.length=5):∃a b c d e,r=[a,b,c,d,e]:=by
 match r,h with
 |[a,b,c,d,e],_=>exact⟨a,b,c,d,e,rfl⟩
theorem KI{r:List AV}(h:r.length=3):∃a b c,r=[a,b,c]:=by
 match r,h with
 |[a,b,c],_=>exact⟨a,b,c,rfl⟩
def zEx:List PV:=[.int .i64 0,.int .i64 0,.str [],.lst 4 []]
def zSm:List PV:=[.int .i64 0,.str [],.lst 4 [],.lst 5 [],.lst 5 []]
def zFd:List PV:=[.str [],.lst 1 [],.lst 5 []]
theorem cT(q:PV):(AV.p q).cells=[.p q]:=rfl
theorem aE:AV.nils.cells=[.nils]:=rfl
theorem aQ(c:List AV):(AV.agg c).cells=c:=rfl
theorem cU(q:PV):(AV.p q).isCell=true:=rfl
theorem aD:AV.nils.isCell=true:=rfl
theorem bz{s:Bool}{h:List AO}{v:AV}{q:PV}{I:List Nat}(H:OwnL s h [v] [q] I):v.cells=[v]∧v.isCell=true:=by
 cases H with
 |p _ _ _=>exact⟨rfl,rfl⟩
 |nils _ _=>exact⟨rfl,rfl⟩
 |sl id sz n rows es _ _ _ _ _ _ _=>exact⟨rfl,rfl⟩
theorem fr3{s:Bool}{a b c a' b' c':AO}{os r:List AO}{vs:List AV}{qs:List PV}{I:List Nat}(H:OwnL s (a::b::c::os) vs qs I)(hI:∀i∈I,3≤i):OwnL s (a'::b'::c'::(os++r)) vs qs I:=by
 have h1:OwnL s (a'::b'::c'::os) vs qs I:=H.frame fun i hi=>by
  have:=hI i hi
  obtain⟨k,rfl⟩:∃k,i=k+3:=⟨i-3,by omega⟩
  rfl
 exact h1.more r
theorem pT{I J:List Nat}(k:Nat)(n1:I.Nodup)(n2:J.Nodup)(h1:∀i∈I,i<k)(h2:∀j∈J,k≤j):(I++J).Nodup:=
 List.nodup_append.2 ⟨n1,n2,fun a ha b hb e=>by have:=h1 a ha;have:=h2 b hb;omega⟩
variable (G:aA)
theorem ur(l:List Ex)(hb:l.length≤1048576)(H:∀e∈l,AC Tryz.prog G dt [.agg (e.cs.map .p)] [] (MkW .agg true e.cs)):AC Tryz.prog G bN [.p (exL l)] [] (MkW one true [exL l]):=by
 have hsl:∀l,exL l= .lst 4 (l.map Ex.cs):=fun _=>rfl
 refine AC.go lU ?_
 simp-implicitDefEqProofs[iU,hsl]
 refine⟨by omega,?_⟩
 refine az (fun a:FilS=>aj 23 [(0,.p (exL l)),(3,.sl 0 4 0 l.length),(4,.p (.int .i64 a.i))]) (fun a=>a.h) (FilI true 0 4 (l.map Ex.cs) zEx) (fun a=>l.length-a.i) ⟨0,[.row 4 (List.replicate l.length [.p (.int .i64 0),.p (.int .i64 0),.p (.str []),.nils])]⟩
  (FilI.init rfl (by simp) (.p _ (fun _=>rfl) (.p _ (fun _=>rfl) (.p _ (fun _=>rfl) (.nils 4 .nil)))) rfl) ?_ ?_
 ·exact aP (by simp) (by simp[below,hsl])
 ·rintro⟨i,hh⟩ hI
  simp-implicitDefEqProofs[hsl]
  refine bi (fun h1=>?_) (fun h1=>?_)
  ·simp at h1
   have hg:=List.getElem?_eq_getElem h1
   have hH:=H l[i] (List.getElem_mem h1)
   have hcs:=l[i].cs_eq
   have hD':(l.map Ex.cs)[i]?=some l[i].cs:=by rw[List.getElem?_map,hg];rfl
   generalize l[i]=e at hg hH hcs hD'
   have hA:=AC.mkLift gw hH (h:=hh) (by rw[hcs];simp)
   rw[hcs] at hA
   simp-implicitDefEqProofs[hg,hcs]
   refine hA.mono ?_
   rintro r h2 ⟨vs,I2,os,rfl,e2,ho,nd,hf⟩
   rw[←hcs] at ho
   obtain⟨rows,r0,k1,k2,k3,k4,k5,k6⟩:=hI.step hD' e2 ho nd hf e.cs_len
   obtain⟨K,rfl,hK⟩:=rG ho
   obtain⟨c1,c2⟩:=bz hK
   obtain⟨z1,z2,z3,z4,rfl⟩:=Ko k3
   have hll:0<h2.length:=(List.getElem?_eq_some_iff.1 k1).1
   simp-implicitDefEqProofs[-AV.cells,-AV.isCell,cT,aE,aQ,cU,aD,c1,c2,aa,k1,k2,h1,dK]
   refine⟨_,k6,by simp;omega,aP (by simp) ?_⟩
   simp[below,hsl,w1 (i:=i) (by omega)]
   omega
  ·simp at h1
   obtain⟨rows,J,hr⟩:=hI.done (by simpa using h1)
   simp-implicitDefEqProofs[]
   exact⟨_,_,rfl,hr.tree (by simp),hr.nd⟩
theorem Cw:∀(N:Nat) (e:Ex),e.sz≤N→e.sz≤1048576→AC Tryz.prog G dt [.agg (e.cs.map .p)] [] (MkW .agg true e.cs):=by
 intro N
 induction N with
 |zero=>intro e he;have:=e.sz_pos;omega
 |succ N ih=>
  intro e he hb
  have hec:=e.cs_eq
  have hsz:=e.sz_eq
  have hkl:=bt e.kids
  have hS:=ur G e.kids (by omega) (fun x hx=>ih x (by have:=aW hx;omega) (by have:=aW hx;omega))
  refine AC.go nD ?_
  simp-implicitDefEqProofs[jE,hec]
  refine(AC.mkLift ig hS (by simp)).mono ?_
  rintro r h2 ⟨vs,I2,os,rfl,e2,ho,nd,hf⟩
  obtain⟨K,rfl⟩:=aS ho
  obtain⟨c1,c2⟩:=bz ho
  simp at hf
  subst e2
  simp-implicitDefEqProofs[-AV.cells,-AV.isCell,cT,aE,aQ,cU,aD,c1,c2,aa,one]
  refine⟨_,I2,rfl,?_,nd⟩
  have:=GO (o:=e.op) (n:=e.n) (w:=e.name) (k:=e.kids) (fr3 (r:=[]) (a':= .row 4 [[.p (.int .i64 e.op),.p (.int .i64 e.n),.p (.str e.name),.p (exL e.kids)]]) (b':= .row 4 [[.p (.int .i64 e.op),.p (.int .i64 e.n),.p (.str e.name),K]]) (c':= .row 4 [[.p (.int .i64 e.op),.p (.int .i64 e.n),.p (.str e.name),K]]) ho hf)
  rw[List.append_nil,Ex.cs_eq] at this
  exact this
theorem Bs(l:List Ex)(hb:bK l≤1048576):AC Tryz.prog G bN [.p (exL l)] [] (MkW one true [exL l]):=
 ur G l (by have:=bt l;omega) (fun e he=>Cw G e.sz e (Nat.le_refl _) (by have:=aW he;omega))
theorem qv(l:List Sm)(hb:l.length≤1048576)(H:∀e∈l,AC Tryz.prog G dv [.agg (e.cs.map .p)] [] (MkW .agg true e.cs)):AC Tryz.prog G bq [.p (smL l)] [] (MkW one true [smL l]):=by
 have hsl:∀l,smL l= .lst 5 (l.map Sm.cs):=fun _=>rfl
 refine AC.go lZ ?_
 simp-implicitDefEqProofs[iJ,hsl]
 refine⟨by omega,?_⟩
 refine az (fun a:FilS=>aj 23 [(0,.p (smL l)),(3,.sl 0 5 0 l.length),(4,.p (.int .i64 a.i))]) (fun a=>a.h) (FilI true 0 5 (l.map Sm.cs) zSm) (fun a=>l.length-a.i) ⟨0,[.row 5 (List.replicate l.length [.p (.int .i64 0),.p (.str []),.nils,.nils,.nils])]⟩
  (FilI.init rfl (by simp) (.p _ (fun _=>rfl) (.p _ (fun _=>rfl) (.nils 4 (.nils 5 (.nils 5 .nil))))) rfl) ?_ ?_
 ·exact aP (by simp) (by simp[below,hsl])
 ·rintro⟨i,hh⟩ hI
  simp-implicitDefEqProofs[hsl]
  refine bi (fun h1=>?_) (fun h1=>?_)
  ·simp at h1
   have hg:=List.getElem?_eq_getElem h1
   have hH:=H l[i] (List.getElem_mem h1)
   have hcs:=l[i].cs_eq
   have hD':(l.map Sm.cs)[i]?=some l[i].cs:=by rw[List.getElem?_map,hg];rfl
   generalize l[i]=e at hg hH hcs hD'
   have hA:=AC.mkLift gw hH (h:=hh) (by rw[hcs];simp)
   rw[hcs] at hA
   simp-implicitDefEqProofs[hg,hcs]
   refine hA.mono ?_
   rintro r h2 ⟨vs,I2,os,rfl,e2,ho,nd,hf⟩
   rw[←hcs] at ho
   obtain⟨rows,r0,k1,k2,k3,k4,k5,k6⟩:=hI.step hD' e2 ho nd hf e.cs_len
   obtain⟨A,B,E,I3,I4,I5,rfl,_,hA1,hA2,hA3⟩:=ye ho
   obtain⟨c1,c2⟩:=bz hA1
   obtain⟨c3,c4⟩:=bz hA2
   obtain⟨c5,c6⟩:=bz hA3
   obtain⟨z1,z2,z3,z4,z5,rfl⟩:=Kj k3
   have hll:0<h2.length:=(List.getElem?_eq_some_iff.1 k1).1
   simp-implicitDefEqProofs[-AV.cells,-AV.isCell,cT,aE,aQ,cU,aD,c1,c2,c3,c4,c5,c6,aa,k1,k2,h1,dK]
   refine⟨_,k6,by simp;omega,aP (by simp) ?_⟩
   simp[below,hsl,w1 (i:=i) (by omega)]
   omega
  ·simp at h1
   obtain⟨rows,J,hr⟩:=hI.done (by simpa using h1)
   simp-implicitDefEqProofs[]
   exact⟨_,_,rfl,hr.tree (by simp),hr.nd⟩
theorem CV:∀(N:Nat) (e:Sm),e.sz≤N→e.sz≤1048576→AC Tryz.prog G dv [.agg (e.cs.map .p)] [] (MkW .agg true e.cs):=by
 intro N
 induction N with
 |zero=>intro e he;have:=e.sz_pos;omega
 |succ N ih=>
  intro e he hb
  have hec:=e.cs_eq
  have hsz:=e.sz_eq
  have hA:=Bs G e.args (by omega)
  have hB:=qv G e.body (by have:=bv e.body;omega) (fun x hx=>ih x (by have:=aV hx;omega) (by have:=aV hx;omega))
  have hE:=qv G e.els (by have:=bv e.els;omega) (fun x hx=>ih x (by have:=aV hx;omega) (by have:=aV hx;omega))
  refine AC.go nH ?_
  simp-implicitDefEqProofs[jz,hec]
  refine(AC.mkLift ig hA (by simp)).mono ?_
  rintro r h2 ⟨vs,I1,os1,rfl,e2,o1,n1,f1⟩
  obtain⟨A,rfl⟩:=aS o1
  obtain⟨c1,c2⟩:=bz o1
  have l1:=fun i (hi:i∈I1)=>o1.lt hi
  simp at f1
  subst e2
  simp at l1
  simp-implicitDefEqProofs[-AV.cells,-AV.isCell,cT,aE,aQ,cU,aD,c1,c2,aa,one]
  refine(AC.mkLift ig hB (by simp)).mono ?_
  rintro r h2 ⟨vs,I2,os2,rfl,e2,o2,n2,f2⟩
  obtain⟨B,rfl⟩:=aS o2
  obtain⟨c3,c4⟩:=bz o2
  have l2:=fun i (hi:i∈I2)=>o2.lt hi
  simp at f2
  subst e2
  simp at l2
  simp-implicitDefEqProofs[-AV.cells,-AV.isCell,cT,aE,aQ,cU,aD,c1,c2,c3,c4,aa,one]
  refine(AC.mkLift ig hE (by simp)).mono ?_
  rintro r h2 ⟨vs,I3,os3,rfl,e2,o3,n3,f3⟩
  obtain⟨E,rfl⟩:=aS o3
  obtain⟨c5,c6⟩:=bz o3
  simp at f3
  subst e2
  simp-implicitDefEqProofs[-AV.cells,-AV.isCell,cT,aE,aQ,cU,aD,c1,c2,c3,c4,c5,c6,aa,one]
  simp only[List.cons_append,List.nil_append,List.append_assoc] at o1 o2 o3
  refine⟨_,I1++(I2++I3),rfl,?_,pT (os1.length+3) n1 (pT (os1.length+os2.length+3) n2 n3 (fun i hi=>by have:=l2 i hi;omega) (fun i hi=>by have:=f3 i hi;omega)) (fun i hi=>by have:=l1 i hi;omega) (fun i hi=>by
   rcases List.mem_append.1 hi with h|h
   ·have:=f2 i h;omega
   ·have:=f3 i h;omega)⟩
  have hd:=Ha (o:=e.op) (w:=e.name) (a:=e.args) (b:=e.body) (e:=e.els) (A:=A) (B:=B) (E:=E) (I1:=I1) (I2:=I2) (I3:=I3)
   (fr3 (r:=os2++os3) (a':= .row 5 [[.p (.int .i64 e.op),.p (.str e.name),.p (exL e.args),.p (smL e.body),.p (smL e.els)]]) (b':= .row 5 [[.p (.int .i64 e.op),.p (.str e.name),A,B,E]]) (c':= .row 5 [[.p (.int .i64 e.op),.p (.str e.name),A,B,E]]) o1 f1)
   (by
     have:=fr3 (r:=os3) (a':= .row 5 [[.p (.int .i64 e.op),.p (.str e.name),.p (exL e.args),.p (smL e.body),.p (smL e.els)]]) (b':= .row 5 [[.p (.int .i64 e.op),.p (.str e.name),A,B,E]]) (c':= .row 5 [[.p (.int .i64 e.op),.p (.str e.name),A,B,E]]) o2 (fun i hi=>by have:=f2 i hi;omega)
     rwa[List.append_assoc] at this)
   (by
     have:=fr3 (r:=[]) (a':= .row 5 [[.p (.int .i64 e.op),.p (.str e.name),.p (exL e.args),.p (smL e.body),.p (smL e.els)]]) (b':= .row 5 [[.p (.int .i64 e.op),.p (.str e.name),A,B,E]]) (c':= .row 5 [[.p (.int .i64 e.op),.p (.str e.name),A,B,E]]) o3 (fun i hi=>by have:=f3 i hi;omega)
     rwa[List.append_nil] at this)
  rw[Sm.cs_eq] at hd
  exact hd
theorem Ap(l:List Sm)(hb:aG l≤1048576):AC Tryz.prog G bq [.p (smL l)] [] (MkW one true [smL l]):=
 qv G l (by have:=bv l;omega) (fun e he=>CV G e.sz e (Nat.le_refl _) (by have:=aV he;omega))
theorem tW{h:List AO}{id:Nat}{l:List (List UInt8)}(e:h[id]?=some (mT l)){n:Nat}(hn:n=l.length):OwnL true h [.sl id 1 0 n] [ay l] [id]:=by
 have hf:∀l:List (List UInt8),OwnL true h (l.map fun w=>[AV.p (.str w)]).flatten (l.map fun w=>[PV.str w]).flatten []:=by
  intro l
  induction l with
  |nil=>exact .nil
  |cons w r ih=>exact .p _ (fun _=>rfl) ih
 exact .sl id 1 n _ _ (by rw[e];rfl) (by simp[hn]) (by simp) (by simp) (by simp) (hf l) .nil
theorem Fw(l:List Fd)(hb:l.length≤1048576)(H:∀e∈l,AC Tryz.prog G fd [.agg (e.cs.map .p)] [] (MkW .agg true e.cs)):AC Tryz.prog G fj [.p (fdL l)] [] (MkW one true [fdL l]):=by
 have hsl:∀l,fdL l= .lst 3 (l.map Fd.cs):=fun _=>rfl
 refine AC.go pw ?_
 simp-implicitDefEqProofs[kN,hsl]
 refine⟨by omega,?_⟩
 refine az (fun a:FilS=>aj 23 [(0,.p (fdL l)),(3,.sl 0 3 0 l.length),(4,.p (.int .i64 a.i))]) (fun a=>a.h) (FilI true 0 3 (l.map Fd.cs) zFd) (fun a=>l.length-a.i) ⟨0,[.row 3 (List.replicate l.length [.p (.str []),.nils,.nils])]⟩
  (FilI.init rfl (by simp) (.p _ (fun _=>rfl) (.nils 1 (.nils 5 .nil))) rfl) ?_ ?_
 ·exact aP (by simp) (by simp[below,hsl])
 ·rintro⟨i,hh⟩ hI
  simp-implicitDefEqProofs[hsl]
  refine bi (fun h1=>?_) (fun h1=>?_)
  ·simp at h1
   have hg:=List.getElem?_eq_getElem h1
   have hH:=H l[i] (List.getElem_mem h1)
   have hcs:=l[i].cs_eq'
   have hD':(l.map Fd.cs)[i]?=some l[i].cs:=by rw[List.getElem?_map,hg];rfl
   generalize l[i]=e at hg hH hcs hD'
   have hA:=AC.mkLift gw hH (h:=hh) (by rw[hcs];simp)
   rw[hcs] at hA
   simp-implicitDefEqProofs[hg,hcs]
   refine hA.mono ?_
   rintro r h2 ⟨vs,I2,os,rfl,e2,ho,nd,hf⟩
   rw[←hcs] at ho
   obtain⟨rows,r0,k1,k2,k3,k4,k5,k6⟩:=hI.step hD' e2 ho nd hf e.cs_len
   obtain⟨A,B,I3,I4,rfl,_,hA1,hA2⟩:=yR ho
   obtain⟨c1,c2⟩:=bz hA1
   obtain⟨c3,c4⟩:=bz hA2
   obtain⟨z1,z2,z3,rfl⟩:=KI k3
   have hll:0<h2.length:=(List.getElem?_eq_some_iff.1 k1).1
   simp-implicitDefEqProofs[-AV.cells,-AV.isCell,cT,aE,aQ,cU,aD,c1,c2,c3,c4,aa,k1,k2,h1,dK]
   refine⟨_,k6,by simp;omega,aP (by simp) ?_⟩
   simp[below,hsl,w1 (i:=i) (by omega)]
   omega
  ·simp at h1
   obtain⟨rows,J,hr⟩:=hI.done (by simpa using h1)
   simp-implicitDefEqProofs[]
   exact⟨_,_,rfl,hr.tree (by simp),hr.nd⟩
theorem Ht(e:Fd)(hb:e.sz≤1048576):AC Tryz.prog G fd [.agg (e.cs.map .p)] [] (MkW .agg true e.cs):=by
 have hec:=e.cs_eq'
 have hsz:e.sz=1+e.name.length+(e.params.length+(e.params.map List.length).sum)+aG e.body:=rfl
 have hA:AC Tryz.prog G cM [.p (ay e.params)] [] (MkW one true [ay e.params]):=(qE G e.params (by omega)).mono fun x h ⟨h1,h2⟩=>⟨[.sl 0 1 0 e.params.length],[0],by rw[h1];rfl,tW (by rw[h2];rfl) rfl,by simp⟩
 have hB:=Ap G e.body (by omega)
 refine AC.go qB ?_
 simp-implicitDefEqProofs[md,hec]
 refine(AC.mkLift ig hA (by simp)).mono ?_
 rintro r h2 ⟨vs,I1,os1,rfl,e2,o1,n1,f1⟩
 obtain⟨A,rfl⟩:=aS o1
 obtain⟨c1,c2⟩:=bz o1
 have l1:=fun i (hi:i∈I1)=>o1.lt hi
 simp at f1
 subst e2
 simp at l1
 simp-implicitDefEqProofs[-AV.cells,-AV.isCell,cT,aE,aQ,cU,aD,c1,c2,aa,one]
 refine(AC.mkLift ig hB (by simp)).mono ?_
 rintro r h2 ⟨vs,I2,os2,rfl,e2,o2,n2,f2⟩
 obtain⟨B,rfl⟩:=aS o2
 obtain⟨c3,c4⟩:=bz o2
 simp at f2
 subst e2
 simp-implicitDefEqProofs[-AV.cells,-AV.isCell,cT,aE,aQ,cU,aD,c1,c2,c3,c4,aa,one]
 simp only[List.cons_append,List.nil_append,List.append_assoc] at o1 o2
 refine⟨_,I1++I2,rfl,?_,pT (os1.length+3) n1 n2 (fun i hi=>by have:=l1 i hi;omega) (fun i hi=>by have:=f2 i hi;omega)⟩
 refine Hp (fr3 (r:=os2) o1 f1) ?_
 have:=fr3 (r:=[]) (a':= .row 3 [[.p (.str e.name),.p (ay e.params),.p (smL e.body)]]) (b':= .row 3 [[.p (.str e.name),A,B]]) (c':= .row 3 [[.p (.str e.name),A,B]]) o2 (fun i hi=>by have:=f2 i hi;omega)
 rwa[List.append_nil] at this
theorem wS(l:List Fd)(hb:bm l≤1048576):AC Tryz.prog G bH [.agg [.p (fdL l)]] [] (MkW .agg true [fdL l]):=by
 have hA:=Fw G l (by have:=cK l;omega) (fun e he=>Ht G e (by have:=dh he;omega))
 refine AC.go jI ?_
 simp-implicitDefEqProofs[fV]
 refine(AC.mkLift ig hA (by simp)).mono ?_
 rintro r h2 ⟨vs,I1,os1,rfl,e2,o1,n1,f1⟩
 obtain⟨A,rfl⟩:=aS o1
 obtain⟨c1,c2⟩:=bz o1
 simp at f1
 subst e2
 simp-implicitDefEqProofs[-AV.cells,-AV.isCell,cT,aE,aQ,cU,aD,c1,c2,aa,one]
 have:=fr3 (r:=[]) (a':= .row 1 [[.p (fdL l)]]) (b':= .row 1 [[A]]) (c':= .row 1 [[A]]) o1 f1
 rw[List.append_nil] at this
 exact⟨_,I1,rfl,this,n1⟩
end Go.Proofs.YtiojgfhdcpppcaaGreatDoor
namespace Go.Proofs.YtiojgfhdcpppcaaGreatDoor
open Go Go.Aw
set_option maxRecDepth 100000
set_option maxHeartbeats 4000000
theorem De{h:List AO}{vs:List AV}{w:List UInt8}{I:List Nat}(H:OwnL true h vs [.str w] I):vs=[.p (.str w)]∧I=[]:=by
 cases H with
 |p _ _ H=>cases H;exact⟨rfl,rfl⟩
variable (G:aA)
theorem um{σ:Type}(V:Vis σ)(g:σ→Ex→Ex × σ)(inv:Nat→σ→Prop)(l:List Ex)(hb:l.length≤1073741824)
 (hv:∀(i:Nat) st (h:i<l.length),inv i st→inv (i+1) (g st l[i]).2∧AC Tryz.prog G V.F (.agg (l[i].cs.map .p)::V.caps) (V.I st) (Mk .agg true (g st l[i]).1.cs (V.I (g st l[i]).2)))(st:σ)(h0:inv 0 st):
 AC Tryz.prog G aK [.p (exL l),.fn (.func V.F) V.caps] (V.I st) (Mk one true [exL (cr g st l).1] (V.I (cr g st l).2)):=by
 have hxl:∀l,exL l= .lst 4 (l.map Ex.cs):=fun _=>rfl
 have hcb:=V.capsOk
 have hinv:∀i,i≤l.length→inv i (cr g st (l.take i)).2:=fun i hi=>by
  have:=ma (g:=g) (inv:=inv) (l:=l) (st:=st) (k:=0) h0 (fun i st h hi=>by
   rw[Nat.zero_add] at hi⊢;exact(hv i st h hi).1) i hi
  rwa[Nat.zero_add] at this
 refine AC.go jT ?_
 simp-implicitDefEqProofs[fg,hxl]
 refine az (fun a:GroS σ=>aj 22 [(5,a.x),(0,.p (exL l)),(1,.fn (.func V.F) V.caps),(8,.p (exL l)),(9,.p (.int .i64 l.length)),(10,.p (.int .i64 a.i))]) (fun a=>a.h)
  (fun a=>a.i≤l.length∧a.st=(cr g st (l.take a.i)).2∧GroI V 4 ((cr g st (l.take a.i)).1.map Ex.cs) a.st a.h a.x) (fun a=>l.length-a.i) ⟨0,st,V.I st,.nils⟩ ⟨Nat.zero_le _,rfl,GroI.init⟩ ?_ ?_
 ·exact aP (Nat.le_refl _) (by simp[below,hxl,V.len,hcb])
 rintro⟨i,s,hh,x⟩ ⟨hi,hst,hI⟩
 simp only at hi hst hI
 have hT:=fun h=>mu (g:=g) (l:=l) (st:=st) (i:=i) h
 have hi2:=hinv i hi
 have hml:=lD g (l.take i) st
 rw[List.length_take,Nat.min_eq_left hi] at hml
 rw[←hst] at hT hi2
 generalize hcur:(cr g st (l.take i)).1=out at hT hml hI
 simp-implicitDefEqProofs[hxl]
 refine bi (fun hc=>?_) (fun hc=>?_)
 ·simp at hc
  have hg:=List.getElem?_eq_getElem hc
  have hT:=hT hc
  obtain⟨_,hA⟩:=hv i s hc hi2
  generalize l[i]=y at hg hT hA
  have hkc:=y.cs_eq
  rw[hkc] at hA
  simp-implicitDefEqProofs[hg,hkc]
  refine(hI.call gw hA ⟨by simp[below],hcb⟩ _).mono ?_
  rintro r h2 ⟨vs,I2,os2,rfl,e2,ho,nd2,hf⟩
  obtain⟨K,rfl,hK⟩:=rG ho
  obtain⟨c1,c2⟩:=bz hK
  have hll:=hI.len
  have hl2:hh.length+1≤h2.length:=by rw[e2,List.length_append,List.length_append,List.length_append,List.length_drop,V.len];simp;omega
  rcases hI.step (by rw[Ex.cs_len]) (by rw[e2,List.append_assoc]) ho nd2 (fun j hj=>by have:=hf j hj;simp[V.len] at this;omega) with⟨rfl,hD,hgo⟩|⟨id,rows,rfl,k1,k2,k3,hgo⟩
  ·simp-implicitDefEqProofs[-AV.cells,-AV.isCell,cT,aE,aQ,cU,aD,c1,c2,aa]
   have hgo:=hgo [.row 4 [[.p (.int .i64 (g s y).1.op),.p (.int .i64 (g s y).1.n),.p (.str (g s y).1.name),K]]]
   have hD':out=[]:=by simpa using hD
   subst hD'
   refine⟨⟨i+1,(g s y).2,_,.sl (h2.length+1) 4 0 1⟩,⟨hc,?_,?_⟩,?_,aP ?_ ?_⟩
   ·rw[hT]
   ·rw[hT];exact hgo
   ·show l.length-(i+1)<l.length-i;omega
   ·simp[V.len];omega
   ·simp[below,hxl,w1 (i:=i) (by omega)]
    exact au (by omega) _ hcb
  ·have k1':∀m,(h2++m)[id]?=some (.row 4 rows):=fun m=>by rw[List.getElem?_append_left k3];exact k1
   rw[List.length_map] at k2
   simp-implicitDefEqProofs[-AV.cells,-AV.isCell,cT,aE,aQ,cU,aD,c1,c2,aa,k1',k2]
   have ht:List.take out.length rows=rows:=List.take_of_length_le (by omega)
   have hgo:=hgo [.row 4 [[.p (.int .i64 (g s y).1.op),.p (.int .i64 (g s y).1.n),.p (.str (g s y).1.name),K]]]
   rw[List.length_map] at hgo
   rw[ht]
   refine⟨⟨by omega,by omega⟩,⟨i+1,(g s y).2,_,.sl (h2.length+1) 4 0 (out.length+1)⟩,⟨hc,?_,?_⟩,?_,aP ?_ ?_⟩
   ·rw[hT]
   ·rw[hT,List.map_append];exact hgo
   ·show l.length-(i+1)<l.length-i;omega
   ·simp[V.len];omega
   ·simp[below,hxl,w1 (i:=i) (by omega)]
    exact au (by omega) _ hcb
 ·simp at hc
  have hie:i=l.length:=by omega
  subst hie
  rw[List.take_length] at hcur
  simp-implicitDefEqProofs[]
  rw[←hcur,hst] at hI
  have:=hI.done
  rw[List.take_length] at this
  exact this
theorem AW{σ:Type}(V:Vis σ)(g:σ→Sm→Sm × σ)(inv:Nat→σ→Prop)(l:List Sm)(hb:l.length≤1073741824)
 (hv:∀(i:Nat) st (h:i<l.length),inv i st→inv (i+1) (g st l[i]).2∧AC Tryz.prog G V.F (.agg (l[i].cs.map .p)::V.caps) (V.I st) (Mk .agg true (g st l[i]).1.cs (V.I (g st l[i]).2)))(st:σ)(h0:inv 0 st):
 AC Tryz.prog G cN [.p (smL l),.fn (.func V.F) V.caps] (V.I st) (Mk one true [smL (cr g st l).1] (V.I (cr g st l).2)):=by
 have hxl:∀l,smL l= .lst 5 (l.map Sm.cs):=fun _=>rfl
 have hcb:=V.capsOk
 have hinv:∀i,i≤l.length→inv i (cr g st (l.take i)).2:=fun i hi=>by
  have:=ma (g:=g) (inv:=inv) (l:=l) (st:=st) (k:=0) h0 (fun i st h hi=>by
   rw[Nat.zero_add] at hi⊢;exact(hv i st h hi).1) i hi
  rwa[Nat.zero_add] at this
 refine AC.go jW ?_
 simp-implicitDefEqProofs[fe,hxl]
 refine az (fun a:GroS σ=>aj 22 [(5,a.x),(0,.p (smL l)),(1,.fn (.func V.F) V.caps),(8,.p (smL l)),(9,.p (.int .i64 l.length)),(10,.p (.int .i64 a.i))]) (fun a=>a.h)
  (fun a=>a.i≤l.length∧a.st=(cr g st (l.take a.i)).2∧GroI V 5 ((cr g st (l.take a.i)).1.map Sm.cs) a.st a.h a.x) (fun a=>l.length-a.i) ⟨0,st,V.I st,.nils⟩ ⟨Nat.zero_le _,rfl,GroI.init⟩ ?_ ?_
 ·exact aP (Nat.le_refl _) (by simp[below,hxl,V.len,hcb])
 rintro⟨i,s,hh,x⟩ ⟨hi,hst,hI⟩
 simp only at hi hst hI
 have hT:=fun h=>mu (g:=g) (l:=l) (st:=st) (i:=i) h
 have hi2:=hinv i hi
 have hml:=lD g (l.take i) st
 rw[List.length_take,Nat.min_eq_left hi] at hml
 rw[←hst] at hT hi2
 generalize hcur:(cr g st (l.take i)).1=out at hT hml hI
 simp-implicitDefEqProofs[hxl]
 refine bi (fun hc=>?_) (fun hc=>?_)
 ·simp at hc
  have hg:=List.getElem?_eq_getElem hc
  have hT:=hT hc
  obtain⟨_,hA⟩:=hv i s hc hi2
  generalize l[i]=y at hg hT hA
  have hkc:=y.cs_eq
  rw[hkc] at hA
  simp-implicitDefEqProofs[hg,hkc]
  refine(hI.call gw hA ⟨by simp[below],hcb⟩ _).mono ?_
  rintro r h2 ⟨vs,I2,os2,rfl,e2,ho,nd2,hf⟩
  obtain⟨A,B,E,J1,J2,J3,rfl,rfl,oA,oB,oE⟩:=ye ho
  obtain⟨c1,c2⟩:=bz oA
  obtain⟨c3,c4⟩:=bz oB
  obtain⟨c5,c6⟩:=bz oE
  have hll:=hI.len
  have hl2:hh.length+1≤h2.length:=by rw[e2,List.length_append,List.length_append,List.length_append,List.length_drop,V.len];simp;omega
  rcases hI.step (by rw[Sm.cs_len]) (by rw[e2,List.append_assoc]) ho nd2 (fun j hj=>by have:=hf j hj;simp[V.len] at this;omega) with⟨rfl,hD,hgo⟩|⟨id,rows,rfl,k1,k2,k3,hgo⟩
  ·simp-implicitDefEqProofs[-AV.cells,-AV.isCell,cT,aE,aQ,cU,aD,c1,c2,c3,c4,c5,c6,aa]
   have hgo:=hgo [.row 5 [[.p (.int .i64 (g s y).1.op),.p (.str (g s y).1.name),A,B,E]]]
   have hD':out=[]:=by simpa using hD
   subst hD'
   refine⟨⟨i+1,(g s y).2,_,.sl (h2.length+1) 5 0 1⟩,⟨hc,?_,?_⟩,?_,aP ?_ ?_⟩
   ·rw[hT]
   ·rw[hT];exact hgo
   ·show l.length-(i+1)<l.length-i;omega
   ·simp[V.len];omega
   ·simp[below,hxl,w1 (i:=i) (by omega)]
    exact au (by omega) _ hcb
  ·have k1':∀m,(h2++m)[id]?=some (.row 5 rows):=fun m=>by rw[List.getElem?_append_left k3];exact k1
   rw[List.length_map] at k2
   simp-implicitDefEqProofs[-AV.cells,-AV.isCell,cT,aE,aQ,cU,aD,c1,c2,c3,c4,c5,c6,aa,k1',k2]
   have ht:List.take out.length rows=rows:=List.take_of_length_le (by omega)
   have hgo:=hgo [.row 5 [[.p (.int .i64 (g s y).1.op),.p (.str (g s y).1.name),A,B,E]]]
   rw[List.length_map] at hgo
   rw[ht]
   refine⟨⟨by omega,by omega⟩,⟨i+1,(g s y).2,_,.sl (h2.length+1) 5 0 (out.length+1)⟩,⟨hc,?_,?_⟩,?_,aP ?_ ?_⟩
   ·rw[hT]
   ·rw[hT,List.map_append];exact hgo
   ·show l.length-(i+1)<l.length-i;omega
   ·simp[V.len];omega
   ·simp[below,hxl,w1 (i:=i) (by omega)]
    exact au (by omega) _ hcb
 ·simp at hc
  have hie:i=l.length:=by omega
  subst hie
  rw[List.take_length] at hcur
  simp-implicitDefEqProofs[]
  rw[←hcur,hst] at hI
  have:=hI.done
  rw[List.take_length] at this
  exact this
theorem FN{σ:Type}(V:Vis σ)(g:σ→Fd→Fd × σ)(inv:Nat→σ→Prop)(l:List Fd)(hb:l.length≤1073741824)
 (hv:∀(i:Nat) st (h:i<l.length),inv i st→inv (i+1) (g st l[i]).2∧AC Tryz.prog G V.F (.agg (l[i].cs.map .p)::V.caps) (V.I st) (Mk .agg true (g st l[i]).1.cs (V.I (g st l[i]).2)))(st:σ)(h0:inv 0 st):
 AC Tryz.prog G dw [.p (fdL l),.fn (.func V.F) V.caps] (V.I st) (Mk one true [fdL (cr g st l).1] (V.I (cr g st l).2)):=by
 have hxl:∀l,fdL l= .lst 3 (l.map Fd.cs):=fun _=>rfl
 have hcb:=V.capsOk
 have hinv:∀i,i≤l.length→inv i (cr g st (l.take i)).2:=fun i hi=>by
  have:=ma (g:=g) (inv:=inv) (l:=l) (st:=st) (k:=0) h0 (fun i st h hi=>by
   rw[Nat.zero_add] at hi⊢;exact(hv i st h hi).1) i hi
  rwa[Nat.zero_add] at this
 refine AC.go kZ ?_
 simp-implicitDefEqProofs[fH,hxl]
 refine az (fun a:GroS σ=>aj 22 [(5,a.x),(0,.p (fdL l)),(1,.fn (.func V.F) V.caps),(8,.p (fdL l)),(9,.p (.int .i64 l.length)),(10,.p (.int .i64 a.i))]) (fun a=>a.h)
  (fun a=>a.i≤l.length∧a.st=(cr g st (l.take a.i)).2∧GroI V 3 ((cr g st (l.take a.i)).1.map Fd.cs) a.st a.h a.x) (fun a=>l.length-a.i) ⟨0,st,V.I st,.nils⟩ ⟨Nat.zero_le _,rfl,GroI.init⟩ ?_ ?_
 ·exact aP (Nat.le_refl _) (by simp[below,hxl,V.len,hcb])
 rintro⟨i,s,hh,x⟩ ⟨hi,hst,hI⟩
 simp only at hi hst hI
 have hT:=fun h=>mu (g:=g) (l:=l) (st:=st) (i:=i) h
 have hi2:=hinv i hi
 have hml:=lD g (l.take i) st
 rw[List.length_take,Nat.min_eq_left hi] at hml
 rw[←hst] at hT hi2
 generalize hcur:(cr g st (l.take i)).1=out at hT hml hI
 simp-implicitDefEqProofs[hxl]
 refine bi (fun hc=>?_) (fun hc=>?_)
 ·simp at hc
  have hg:=List.getElem?_eq_getElem hc
  have hT:=hT hc
  obtain⟨_,hA⟩:=hv i s hc hi2
  generalize l[i]=y at hg hT hA
  have hkc:=y.cs_eq'
  rw[hkc] at hA
  simp-implicitDefEqProofs[hg,hkc]
  refine(hI.call gw hA ⟨by simp[below],hcb⟩ _).mono ?_
  rintro r h2 ⟨vs,I2,os2,rfl,e2,ho,nd2,hf⟩
  obtain⟨A,B,J1,J2,rfl,rfl,oA,oB⟩:=yR ho
  obtain⟨c1,c2⟩:=bz oA
  obtain⟨c3,c4⟩:=bz oB
  have hll:=hI.len
  have hl2:hh.length+1≤h2.length:=by rw[e2,List.length_append,List.length_append,List.length_append,List.length_drop,V.len];simp;omega
  rcases hI.step (by rw[Fd.cs_len]) (by rw[e2,List.append_assoc]) ho nd2 (fun j hj=>by have:=hf j hj;simp[V.len] at this;omega) with⟨rfl,hD,hgo⟩|⟨id,rows,rfl,k1,k2,k3,hgo⟩
  ·simp-implicitDefEqProofs[-AV.cells,-AV.isCell,cT,aE,aQ,cU,aD,c1,c2,c3,c4,aa]
   have hgo:=hgo [.row 3 [[.p (.str (g s y).1.name),A,B]]]
   have hD':out=[]:=by simpa using hD
   subst hD'
   refine⟨⟨i+1,(g s y).2,_,.sl (h2.length+1) 3 0 1⟩,⟨hc,?_,?_⟩,?_,aP ?_ ?_⟩
   ·rw[hT]
   ·rw[hT];exact hgo
   ·show l.length-(i+1)<l.length-i;omega
   ·simp[V.len];omega
   ·simp[below,hxl,w1 (i:=i) (by omega)]
    exact au (by omega) _ hcb
  ·have k1':∀m,(h2++m)[id]?=some (.row 3 rows):=fun m=>by rw[List.getElem?_append_left k3];exact k1
   rw[List.length_map] at k2
   simp-implicitDefEqProofs[-AV.cells,-AV.isCell,cT,aE,aQ,cU,aD,c1,c2,c3,c4,aa,k1',k2]
   have ht:List.take out.length rows=rows:=List.take_of_length_le (by omega)
   have hgo:=hgo [.row 3 [[.p (.str (g s y).1.name),A,B]]]
   rw[List.length_map] at hgo
   rw[ht]
   refine⟨⟨by omega,by omega⟩,⟨i+1,(g s y).2,_,.sl (h2.length+1) 3 0 (out.length+1)⟩,⟨hc,?_,?_⟩,?_,aP ?_ ?_⟩
   ·rw[hT]
   ·rw[hT,List.map_append];exact hgo
   ·show l.length-(i+1)<l.length-i;omega
   ·simp[V.len];omega
   ·simp[below,hxl,w1 (i:=i) (by omega)]
    exact au (by omega) _ hcb
 ·simp at hc
  have hie:i=l.length:=by omega
  subst hie
  rw[List.take_length] at hcur
  simp-implicitDefEqProofs[]
  rw[←hcur,hst] at hI
  have:=hI.done
  rw[List.take_length] at this
  exact this
theorem GX{σ:Type}(V:Vis σ)(g:σ→List UInt8→List UInt8 × σ)(inv:Nat→σ→Prop)(l:List (List UInt8))(hb:l.length≤1073741824)
 (hv:∀(i:Nat) st (h:i<l.length),inv i st→inv (i+1) (g st l[i]).2∧AC Tryz.prog G V.F (.p (.str l[i])::V.caps) (V.I st) fun x h=>x= .ret (.p (.str (g st l[i]).1))∧h=V.I (g st l[i]).2)(st:σ)(h0:inv 0 st):
 AC Tryz.prog G dD [.p (ay l),.fn (.func V.F) V.caps] (V.I st) (Mk one true [ay (cr g st l).1] (V.I (cr g st l).2)):=by
 have hxl:∀l,ay l= .lst 1 (l.map fun w=>[.str w]):=fun _=>rfl
 have hcb:=V.capsOk
 have hinv:∀i,i≤l.length→inv i (cr g st (l.take i)).2:=fun i hi=>by
  have:=ma (g:=g) (inv:=inv) (l:=l) (st:=st) (k:=0) h0 (fun i st h hi=>by
   rw[Nat.zero_add] at hi⊢;exact(hv i st h hi).1) i hi
  rwa[Nat.zero_add] at this
 refine AC.go lX ?_
 simp-implicitDefEqProofs[gI,hxl]
 refine az (fun a:GroS σ=>aj 22 [(5,a.x),(0,.p (ay l)),(1,.fn (.func V.F) V.caps),(8,.p (ay l)),(9,.p (.int .i64 l.length)),(10,.p (.int .i64 a.i))]) (fun a=>a.h)
  (fun a=>a.i≤l.length∧a.st=(cr g st (l.take a.i)).2∧GroI V 1 ((cr g st (l.take a.i)).1.map fun w=>[PV.str w]) a.st a.h a.x) (fun a=>l.length-a.i) ⟨0,st,V.I st,.nils⟩ ⟨Nat.zero_le _,rfl,GroI.init⟩ ?_ ?_
 ·exact aP (Nat.le_refl _) (by simp[below,hxl,V.len,hcb])
 rintro⟨i,s,hh,x⟩ ⟨hi,hst,hI⟩
 simp only at hi hst hI
 have hT:=fun h=>mu (g:=g) (l:=l) (st:=st) (i:=i) h
 have hi2:=hinv i hi
 have hml:=lD g (l.take i) st
 rw[List.length_take,Nat.min_eq_left hi] at hml
 rw[←hst] at hT hi2
 generalize hcur:(cr g st (l.take i)).1=out at hT hml hI
 simp-implicitDefEqProofs[hxl]
 refine bi (fun hc=>?_) (fun hc=>?_)
 ·simp at hc
  have hg:=List.getElem?_eq_getElem hc
  have hT:=hT hc
  obtain⟨_,hA⟩:=hv i s hc hi2
  generalize l[i]=y at hg hT hA
  have hA:=hA.mono (R':=Mk one true [.str (g s y).1] (V.I (g s y).2)) (by
   rintro x h ⟨rfl,rfl⟩
   exact⟨[.p (.str (g s y).1)],[],[],rfl,by simp,.p _ (fun _=>rfl) .nil,List.nodup_nil,fun _ h=>by cases h⟩)
  simp-implicitDefEqProofs[hg]
  have hcall:=hI.call ig hA ⟨by simp[below],hcb⟩ []
  rw[List.append_nil,List.append_nil] at hcall
  refine hcall.mono ?_
  rintro r h2 ⟨vs,I2,os2,rfl,e2,ho,nd2,hf⟩
  obtain⟨rfl,rfl⟩:=De ho
  have hll:=hI.len
  have hl2:hh.length≤h2.length:=by rw[e2,List.length_append,List.length_append,List.length_drop,V.len];omega
  rcases hI.step rfl (by rw[e2]) ho nd2 (fun j hj=>by have:=hf j hj;simp[V.len] at this;omega) with⟨rfl,hD,hgo⟩|⟨id,rows,rfl,k1,k2,k3,hgo⟩
  ·simp-implicitDefEqProofs[-AV.cells,-AV.isCell,cT,aE,aQ,cU,aD,aa,one]
   have hgo:=hgo [.row 1 [[.p (.str (g s y).1)]]]
   have hD':out=[]:=by simpa using hD
   subst hD'
   refine⟨⟨i+1,(g s y).2,_,.sl (h2.length+1) 1 0 1⟩,⟨hc,?_,?_⟩,?_,aP ?_ ?_⟩
   ·rw[hT]
   ·rw[hT];exact hgo
   ·show l.length-(i+1)<l.length-i;omega
   ·simp[V.len];omega
   ·simp[below,hxl,w1 (i:=i) (by omega)]
    exact au (by omega) _ hcb
  ·have k1':∀m,(h2++m)[id]?=some (.row 1 rows):=fun m=>by rw[List.getElem?_append_left k3];exact k1
   rw[List.length_map] at k2
   simp-implicitDefEqProofs[-AV.cells,-AV.isCell,cT,aE,aQ,cU,aD,aa,one,k1',k2]
   have ht:List.take out.length rows=rows:=List.take_of_length_le (by omega)
   have hgo:=hgo [.row 1 [[.p (.str (g s y).1)]]]
   rw[List.length_map] at hgo
   rw[ht]
   refine⟨⟨by omega,by omega⟩,⟨i+1,(g s y).2,_,.sl (h2.length+1) 1 0 (out.length+1)⟩,⟨hc,?_,?_⟩,?_,aP ?_ ?_⟩
   ·rw[hT]
   ·rw[hT,List.map_append];exact hgo
   ·show l.length-(i+1)<l.length-i;omega
   ·simp[V.len];omega
   ·simp[below,hxl,w1 (i:=i) (by omega)]
    exact au (by omega) _ hcb
 ·simp at hc
  have hie:i=l.length:=by omega
  subst hie
  rw[List.take_length] at hcur
  simp-implicitDefEqProofs[]
  rw[←hcur,hst] at hI
  have:=hI.done
  rw[List.take_length] at this
  exact this
end Go.Proofs.YtiojgfhdcpppcaaGreatDoor
namespace Go.Proofs.YtiojgfhdcpppcaaGreatDoor
open Go Go.Aw
set_option maxRecDepth 100000
def irN(ch:List Scp)(s:List UInt8):List UInt8:=vnm ((dL ch s).getD 0)
mutual
def irE(ch:List Scp):Ex→Ex
 | .mk o n s ks=> .mk o n (if o=2 then irN ch s else s) (pK ch ks)
def pK(ch:List Scp):List Ex→List Ex
 |[]=>[]
 |e::r=>irE ch e::pK ch r
end
mutual
def irS:Sm→Scp→List Scp→Nat→Sm × Scp × Nat
 | .mk o s a bd el,m,up,n=>
   let m2:=opS o s m n
   let n2:=if o=1 then n+1 else n
   let x:=cV bd [] (m2::up) n2
   let y:=cV el [] (m2::up) x.2.2
   (.mk o (if o=1 then vnm n else if o=2 then irN (m::up) s else s) (pK (m::up) a) x.1 y.1,m2,y.2.2)
def cV:List Sm→Scp→List Scp→Nat→List Sm × Scp × Nat
 |[],m,_,n=>([],m,n)
 |s::r,m,up,n=>
  let x:=irS s m up n
  let y:=cV r x.2.1 up x.2.2
  (x.1::y.1,y.2.1,y.2.2)
end
def eE:List (List UInt8)→Scp→Nat→List (List UInt8) × Scp × Nat
 |[],m,n=>([],m,n)
 |s::r,m,n=>let y:=eE r (dZ m s n) (n+1);(vnm n::y.1,y.2.1,y.2.2)
def irF(f:Fd):Fd:=
 let x:=eE f.params [] 0
 ⟨f.name,x.1,(cV f.body x.2.1 [] x.2.2).1⟩
theorem ql{vs:List LV}{s:List UInt8}{c:Int}(h:c≠0):mX vs s c=c:=by unfold mX;split<;>simp[rM h]
theorem yF{fns:List Fd}{k:Nat}{s:List UInt8}{n:Nat}{c:Int}(h:c≠0):lJ fns k s n c=c:=by
 unfold lJ
 simp only[rM h]
 split
 ·rfl
 ·split
  ·rfl
  ·split<;>rfl
theorem yQ{fns:List Fd}{k:Nat}{vs:List LV}{o:Int}{s:List UInt8}{n:Nat}{c:Int}(h:c≠0):jL fns k vs o s n c=c:=by
 unfold jL
 rw[ql h,yF h]
 split
 ·rfl
 ·split<;>rfl
mutual
theorem Ak(fns:List Fd)(k:Nat)(vs:List LV){c:Int}(h:c≠0):∀e:Ex,rj fns k vs e c=c
 | .mk o n s ks=>by rw[rj,yQ h,ku fns k vs h ks]
theorem ku(fns:List Fd)(k:Nat)(vs:List LV){c:Int}(h:c≠0):∀l:List Ex,bs fns k vs l c=c
 |[]=>rfl
 |e::r=>by rw[bs,Ak fns k vs h e,ku fns k vs h r]
end
theorem sx{fns:List Fd}{k:Nat}{vs:List LV}{l:List Ex}{c:Int}(h:bs fns k vs l c=0):c=0:=by
 by_cases hc:c=0
 ·exact hc
 ·rw[ku fns k vs hc] at h;exact h
theorem tR{vs:List LV}{s:List UInt8}{c:Int}(h:mX vs s c=0):c=0∧∃v,lkV vs s=some v:=by
 by_cases hc:c=0
 ·refine⟨hc,?_⟩
  unfold mX at h
  cases e:lkV vs s with
  |some v=>exact⟨v,rfl⟩
  |none=>rw[e] at h;simp[fl,hc] at h
 ·rw[ql hc] at h;exact absurd h hc
abbrev gN:LV→Nat:=fun v=>v.num
theorem zq{b:Nat}{vs:List LV}{ch:List Scp}(h:SR gN b vs ch){s:List UInt8}(hv:∃v,lkV vs s=some v):pW vs s=irN ch s:=by
 obtain⟨v,e⟩:=hv
 rw[pW,irN,←h.fnd s,e];rfl
mutual
theorem GA{fns:List Fd}{k b:Nat}{vs:List LV}{ch:List Scp}(h:SR gN b vs ch):∀(e:Ex) (c:Int),rj fns k vs e c=0→rnE vs e=irE ch e
 | .mk o n s ks,c,hz=>by
   rw[rj] at hz
   rw[rnE,irE,vI h ks _ hz]
   by_cases ho:o=2
   ·have h1:=sx hz
    rw[jL,if_pos ho] at h1
    rw[if_pos ho,if_pos ho,zq h (tR h1).2]
   ·rw[if_neg ho,if_neg ho]
theorem vI{fns:List Fd}{k b:Nat}{vs:List LV}{ch:List Scp}(h:SR gN b vs ch):∀(l:List Ex) (c:Int),bs fns k vs l c=0→gL vs l=pK ch l
 |[],c,_=>rfl
 |e::r,c,hz=>by
  rw[bs] at hz
  rw[gL,pK,GA h e c (sx hz),vI h r _ hz]
end
theorem wJ{o:Int}{s:List UInt8}{b:Nat}{w:WS}(h:w.code≠0):(opW o s b w).code=w.code:=by
 unfold opW
 split
 ·simp only[iG,sq,rM h]
  split
  ·rfl
  ·split<;>rfl
 ·split
  ·exact ql h
  ·rfl
mutual
theorem Dv(fns:List Fd)(k:Nat):∀(s:Sm) (b:Nat) (w:WS),w.code≠0→(stW fns k b s w).code=w.code
 | .mk o s a bd el,b,w,h=>by
   have e1:(bs fns k w.vs a w.code)=w.code:=ku fns k w.vs h a
   have e2:(opW o s b ⟨w.vs,w.count,bs fns k w.vs a w.code⟩).code=w.code:=by rw[wJ]<;>simp only[e1];exact h
   have e3:=mG fns k bd (b+1) (opW o s b ⟨w.vs,w.count,bs fns k w.vs a w.code⟩) (by rw[e2];exact h)
   rw[stW,fY,mG fns k el _ _ (by rw[fY,e3,e2];exact h),fY,e3,e2]
theorem mG(fns:List Fd)(k:Nat):∀(l:List Sm) (b:Nat) (w:WS),w.code≠0→(bA fns k b l w).code=w.code
 |[],b,w,h=>rfl
 |s::r,b,w,h=>by
  have e1:=Dv fns k s b w h
  rw[bA,mG fns k r b _ (by rw[e1];exact h),e1]
end
theorem pL{fns:List Fd}{k b:Nat}{l:List Sm}{w:WS}(h:(bA fns k b l w).code=0):w.code=0:=by
 by_cases hc:w.code=0
 ·exact hc
 ·rw[mG fns k l b w hc] at h;exact h
theorem Dn{o:Int}{s:List UInt8}{b:Nat}{w:WS}(h:(opW o s b w).code=0):w.code=0:=by
 by_cases hc:w.code=0
 ·exact hc
 ·rw[wJ hc] at h;exact h
theorem GQ{b:Nat}{w:WS}{m:Scp}{up:List Scp}(h:SR gN b w.vs (m::up))(o:Int)(s:List UInt8)(c:Int)(hz:(opW o s b ⟨w.vs,w.count,c⟩).code=0):
 SR gN b (opW o s b ⟨w.vs,w.count,c⟩).vs (opS o s m w.count::up)∧opN o s w=(if o=1 then vnm w.count else if o=2 then irN (m::up) s else s):=by
 unfold opW at hz⊢
 unfold opS opN
 by_cases h1:o=1
 ·simp only[h1,if_true]
  exact⟨h.add s _ _ rfl,trivial⟩
 ·simp only[if_neg h1] at hz⊢
  by_cases h2:o=2
  ·simp only[h2,if_true] at hz⊢
   exact⟨h,zq h (tR hz).2⟩
  ·simp only[if_neg h2]
   exact⟨h,trivial⟩
mutual
theorem GL(fns:List Fd)(k:Nat):∀(s:Sm) (b:Nat) (w:WS) (m:Scp) (up:List Scp),SR gN b w.vs (m::up)→(stW fns k b s w).code=0→
 rnS fns k b s w=(irS s m up w.count).1∧SR gN b (stW fns k b s w).vs ((irS s m up w.count).2.1::up)∧(stW fns k b s w).count=(irS s m up w.count).2.2
 | .mk o s a bd el,b,w,m,up,h,hz=>by
   rw[stW,fY] at hz
   have z1:=pL hz
   rw[fY] at z1
   have z2:=pL z1
   have z3:=Dn z2
   obtain⟨p1,p2⟩:=GQ h o s _ z2
   obtain⟨q1,q2,q3⟩:=rz fns k bd (b+1) _ [] _ p1.open z1
   obtain⟨r1,r2,r3⟩:=rz fns k el (b+1) ((bA fns k (b+1) bd (opW o s b ⟨w.vs,w.count,bs fns k w.vs a w.code⟩)).back (opW o s b ⟨w.vs,w.count,bs fns k w.vs a w.code⟩).vs) [] _ p1.open hz
   have hcn:(opW o s b ⟨w.vs,w.count,bs fns k w.vs a w.code⟩).count=if o=1 then w.count+1 else w.count:=by
    rw[mC];split<;>rfl
   have hbc:((bA fns k (b+1) bd (opW o s b ⟨w.vs,w.count,bs fns k w.vs a w.code⟩)).back (opW o s b ⟨w.vs,w.count,bs fns k w.vs a w.code⟩).vs).count=(bA fns k (b+1) bd (opW o s b ⟨w.vs,w.count,bs fns k w.vs a w.code⟩)).count:=rfl
   rw[hcn] at q1 q3
   rw[hbc,q3] at r1 r3
   refine⟨?_,p1,?_⟩
   ·rw[rnS,irS]
    simp only
    rw[q1,r1,p2,vI h a _ z3]
   ·rw[stW,irS]
    exact r3
theorem rz(fns:List Fd)(k:Nat):∀(l:List Sm) (b:Nat) (w:WS) (m:Scp) (up:List Scp),SR gN b w.vs (m::up)→(bA fns k b l w).code=0→
 eS fns k b l w=(cV l m up w.count).1∧SR gN b (bA fns k b l w).vs ((cV l m up w.count).2.1::up)∧(bA fns k b l w).count=(cV l m up w.count).2.2
 |[],b,w,m,up,h,hz=>⟨rfl,h,rfl⟩
 |s::r,b,w,m,up,h,hz=>by
  rw[bA] at hz
  obtain⟨p1,p2,p3⟩:=GL fns k s b w m up h (pL hz)
  obtain⟨q1,q2,q3⟩:=rz fns k r b _ _ up p2 hz
  rw[p3] at q1 q2 q3
  refine⟨?_,?_,?_⟩
  ·rw[eS,cV];simp only;rw[p1,q1]
  ·rw[bA,cV];exact q2
  ·rw[bA,cV];exact q3
end
theorem zM:∀(ps:List (List UInt8)) (w:WS) (m:Scp),SR gN 0 w.vs [m]→kK ps w=(eE ps m w.count).1∧SR gN 0 (ca ps w).vs [(eE ps m w.count).2.1]∧(ca ps w).count=(eE ps m w.count).2.2
 |[],w,m,h=>⟨rfl,h,rfl⟩
 |s::r,w,m,h=>by
  obtain⟨a1,a2,a3⟩:=zM r (iG w s 0) (dZ m s w.count) (h.add s w.count w.count rfl)
  have hc:(iG w s 0).count=w.count+1:=rfl
  rw[hc] at a1 a2 a3
  refine⟨?_,?_,?_⟩
  ·rw[kK,eE];simp only;rw[a1]
  ·rw[eE];exact a2
  ·rw[eE];exact a3
theorem Hg(fns:List Fd)(k:Nat)(f:Fd)(h:(fnW fns k f).code=0):rnF fns k f=irF f:=by
 rw[fnW] at h
 obtain⟨p1,p2,p3⟩:=zM f.params ⟨[],0,if dy fns f.name=some k then 0 else 2⟩ [] SR.base
 obtain⟨q1,q2,q3⟩:=rz fns k f.body 0 _ _ [] p2 h
 rw[p3] at q1
 rw[rnF,irF,p1,q1]
end Go.Proofs.YtiojgfhdcpppcaaGreatDoor
namespace Go.Proofs.YtiojgfhdcpppcaaGreatDoor
open Go Go.Aw
set_option maxRecDepth 100000
set_option maxHeartbeats 4000000
def rO(n:Nat):AO:= .row 1 [[.p (.int .i64 n)]]
def RH(b0:AO)(n:Nat)(ch:List GS):List AO:=b0::rO n::scH ch
theorem jw(b0:AO)(n:Nat)(ch:List GS):(RH b0 n ch).length=2+scL ch:=by simp only[RH,List.length_cons,gm];omega
theorem ut{b0:AO}(hb:okO 0 b0){n:Nat}{ch:List GS}(hs:jQ ch){m:Nat}(hm:2+scL ch≤m):∀o∈RH b0 n ch,okO m o:=
 ae (cS hb) (ae (by intro e he;rw[List.mem_singleton.1 he];simp[below]) (vN ch hs hm))
def Sml(ch:List Scp):Prop:=∀s n,dL ch s=some n→n<26
theorem Sml.getD{ch:List Scp}(h:Sml ch)(s:List UInt8):(dL ch s).getD 0<26:=by
 cases e:dL ch s with
 |none=>simp
 |some n=>exact h s n e
theorem Sml.set{m:Scp}{up:List Scp}(h:Sml (m::up))(s:List UInt8){n:Nat}(hn:n<26):Sml (dZ m s n::up):=by
 intro t k e
 rw[dL,sW] at e
 by_cases hst:s=t
 ·rw[if_pos hst] at e;cases e;exact hn
 ·rw[if_neg hst] at e
  exact h t k (by rw[dL];exact e)
theorem Sml.open{ch:List Scp}(h:Sml ch):Sml ([]::ch):=fun s n e=>h s n (by rw[dL] at e;exact e)
theorem Sml.opS{m:Scp}{up:List Scp}(h:Sml (m::up))(o:Int)(s:List UInt8){n:Nat}(hn:o=1→n<26):Sml (opS o s m n::up):=by
 unfold Go.Proofs.YtiojgfhdcpppcaaGreatDoor.opS
 split
 ·rename_i e;exact h.set s (hn e)
 ·exact h
def K_impl_renamer_expr:AK:= .seq (.reg [oJ 3 (.box 1 (.t 0)),oJ 4 (.box 4 (.t 1)),oJ 5 (.box 1 (.t 2)),oJ 6 (.alloc [(.p (.int .i64 0)),(.p (.int .i64 0)),(.p (.str [])),.nils])]) (.cut (.seq (.reg [oF 9 0 4,oL 10 9,oJ 11 (.bin .eql (.t 10) (.c (.p (.int .i64 2))))]) (.cond (.t 11) (.seq (.reg [oL 13 5,oF 14 2 4,oL 15 14,oJ 16 (.call aI [(.t 13),(.t 15)]),oM 12 16,oJ 17 (.ext 0 (.t 12)),oJ 18 (.ext 1 (.t 12)),oM 7 17,oM 8 18]) (.reg [oL 19 3,oM 20 7,oJ 21 (.call be [(.t 19),(.t 20)]),oF 22 2 4,oS 22 21])) (.skip))) (.seq (.reg [oF 23 3 4,oL 24 23,oJ 25 (.mkf (.func bG) [(.t 3),(.t 5)]),oJ 26 (.call aK [(.t 24),(.t 25)]),oF 27 3 4,oS 27 26]) (.seq (.reg [oJ 28 (.ld (some 4) (.t 4)),⟨none,none,.st 4 (.t 6) (.t 28)⟩]) (.ret))))
theorem mR:K_impl_renamer_expr.whole=F_impl_renamer_expr.ak:=rfl
variable (G:aA)
theorem vc(n:Nat)(hn:n<26)(r:AV)(h:List AO):AC Tryz.prog G be [r,.p (.int .i64 n)] h fun x h'=>x= .ret (.p (.str (vnm n)))∧h'=h:=by
 refine AC.go mQ ?_
 have hv:vnm n=[118,UInt8.ofNat (97+n)]:=by rw[vnm,Nat.mod_eq_of_lt hn]
 have hw:IntKind.i64.wrap (97+(n:Int))=((97+n:Nat):Int):=by rw[ag (by omega) (by omega)];omega
 have hw2:IntKind.i32.wrap (97+(n:Int))=97+(n:Int):=by
  have:∀m:Nat,m<26→IntKind.i32.wrap (97+(m:Int))=97+(m:Int):=by decide
  exact this _ hn
 have htn:(97+(n:Int)).toNat=97+n:=by omega
 have hof:UInt8.ofNat (97+n)=97+UInt8.ofNat n:=by
  have:∀m:Nat,m<26→UInt8.ofNat (97+m)=97+UInt8.ofNat m:=by decide
  exact this _ hn
 rw[hv]
 simp-implicitDefEqProofs[gW,hw,hw2,htn,hof]
 omega
def RX(b0:AO)(up:List GS)(gap:List AO)(n:Nat):List AO:=b0::rO n::(scH up++gap)
theorem Hs(b0:AO)(up:List GS)(gap:List AO)(n:Nat):(RX b0 up gap n).length=2+scL up+gap.length:=by
 simp only[RX,List.length_cons,List.length_append,gm];omega
theorem Gc(b0:AO)(up:List GS)(gap:List AO)(m:Scp)(n:Nat)(rest:List AO):RH b0 n (⟨gap,m⟩::up)++rest=RX b0 up gap n++(.mp (mpE m):: .row 2 [[.mp (2+scL up+gap.length),upV up]]::rest):=by
 simp[RH,RX,scH]
theorem IT(b0:AO)(up:List GS)(gap:List AO)(n:Nat)(t:List AO):(RX b0 up gap n++t)[1]?=some (.row 1 [[.p (.int .i64 n)]]):=rfl
theorem IR(b0:AO)(up:List GS)(gap:List AO)(n k:Nat)(t:List AO):(RX b0 up gap n++t).set 1 (.row 1 [[.p (.int .i64 k)]])=RX b0 up gap k++t:=rfl
theorem BR(b0:AO)(gap:List AO)(m:Scp)(up:List GS)(s:List UInt8)(n:Nat)(hn:n<26)(rest:List AO):AC Tryz.prog G bY [.ptr 1 1 0 0,upV (⟨gap,m⟩::up),.p (.str s)] (RH b0 n (⟨gap,m⟩::up)++rest) fun x h=>x= .ret (.p (.str (vnm n)))∧h=RH b0 (n+1) (⟨gap,dZ m s n⟩::up)++rest:=by
 refine AC.go nk ?_
 have hup:upV (⟨gap,m⟩::up)= .ptr (2+scL up+gap.length+1) 2 0 0:=rfl
 have hms:hU (.str s) (.p (.int .i64 n)) (mpE m)=some (mpE (dZ m s n)):=ou s n m
 have hl:=Hs b0 up gap
 have hw:IntKind.i64.wrap ((n:Int)+1)=(n:Int)+1:=ag (by omega) (by omega)
 have hw2:IntKind.i64.wrap ((n:Int)+1-1)=(n:Int):=by rw[ag (by omega) (by omega)];omega
 have hw3:IntKind.i64.wrap (n:Int)=(n:Int):=ag (by omega) (by omega)
 have hs1:∀t,(RX b0 up gap n++t).set 1 (.row 1 [[.p (.int .i64 ((n:Int)+1))]])=RX b0 up gap (n+1)++t:=fun t=>IR b0 up gap n (n+1) t
 have h1:∀t,(RX b0 up gap (n+1)++t)[1]?=some (.row 1 [[.p (.int .i64 ((n:Int)+1))]]):=fun t=>IT b0 up gap (n+1) t
 rw[Gc,Gc,hup]
 generalize RX b0 up gap (n+1)=B at hs1 h1⊢
 have h0:=IT b0 up gap n
 have hln:=hl n
 generalize RX b0 up gap n=A at hs1 h0 hln⊢
 simp-implicitDefEqProofs[gX,hln,hms,h0,h1,hs1,hw,hw2,hw3]
 refine(vc G n hn _ _).mono ?_
 rintro r h ⟨rfl,rfl⟩
 simp-implicitDefEqProofs[aa]
theorem zm(b0:AO)(n:Nat)(ch:List GS)(rest:List AO)(s:List UInt8):AC Tryz.prog G aI [upV ch,.p (.str s)] (RH b0 n ch++rest) fun x h=>x= .ret (.tup [.p (.int .i64 (((dL (sco ch) s).getD 0:Nat):Int)),.p (.bool (dL (sco ch) s).isSome)])∧h=RH b0 n ch++rest:=xQ G b0 (rO n) ch rest s
def rBx(ch:List GS)(e:List AV):List AO:=[.row 1 [[.ptr 1 1 0 0]],.row 4 [e],.row 1 [[upV ch]],.row 4 [[.p (.int .i64 0),.p (.int .i64 0),.p (.str []),.nils]]]
def Gz{b0:AO}(hb:okO 0 b0)(n:Nat)(ch:List GS)(e:List PV)(hs:jQ ch):Vis Unit where
 I:=fun _=>RH b0 n ch++rBx ch (e.map .p)
 n:=2+scL ch+4
 F:=bG
 caps:=[.ptr (2+scL ch) 1 0 0,.ptr (2+scL ch+2) 1 0 0]
 len:=fun _=>by rw[List.length_append,jw b0];rfl
 ok:=fun _ o ho=>by
  rcases List.mem_append.1 ho with h|h
  ·exact ut hb hs (by omega) o h
  ·simp only[rBx,List.mem_cons,List.not_mem_nil,or_false] at h
   rcases h with rfl|rfl|rfl|rfl
   ·intro e he;rw[List.mem_singleton.1 he];exact⟨by simp only[below];omega,trivial⟩
   ·intro e he;rw[List.mem_singleton.1 he];exact au (Nat.zero_le _) _ (by simp)
   ·intro e he;rw[List.mem_singleton.1 he];exact⟨cR ch (by omega),trivial⟩
   ·intro e he;rw[List.mem_singleton.1 he];exact au (Nat.zero_le _) _ (by simp)
 capsOk:=by simp[below]
theorem px{α β:Type}(f:α→β):∀(l:List α) (u:Unit),cr (fun(st:Unit) x=>(f x,st)) u l=(l.map f,u)
 |[],u=>rfl
 |x::r,u=>by rw[cr,px f r];rfl
theorem tm(ch:List Scp):∀l:List Ex,pK ch l=l.map (irE ch)
 |[]=>rfl
 |e::r=>by rw[pK,tm ch r];rfl
end Go.Proofs.YtiojgfhdcpppcaaGreatDoor
namespace Go.Proofs.YtiojgfhdcpppcaaGreatDoor
open Go Go.Aw
set_option maxRecDepth 100000
set_option maxHeartbeats 4000000
variable (G:aA)
theorem zD{b0:AO}(hb:okO 0 b0){f:FuncId}{args:List AV}{n:Nat}{ch:List GS}{w:List AV→AV}{qs:List PV}(hw:Shp w)(H:AC Tryz.prog G f args (RH b0 n ch) (Mk w true qs (RH b0 n ch)))(hs:jQ ch)(rest:List AO)(ha:ah (2+scL ch) args):
 AC Tryz.prog G f args (RH b0 n ch++rest) (Mk w true qs (RH b0 n ch++rest)):=
 FW hw H rfl (by rw[jw b0];exact ha) (by rw[jw b0];exact ut hb hs (Nat.le_refl _)) (by rw[jw b0];exact ut hb hs (Nat.le_refl _)) rest
theorem Ej{b0:AO}(hb:okO 0 b0)(n:Nat)(ch:List GS)(hs:jQ ch)(hm:Sml (sco ch)):∀(N:Nat) (e:Ex),e.sz≤N→e.sz≤1073741824→
 AC Tryz.prog G bW [.ptr 1 1 0 0,.agg (e.cs.map .p),upV ch] (RH b0 n ch) (Mk .agg true (irE (sco ch) e).cs (RH b0 n ch)):=by
 intro N
 induction N with
 |zero=>intro e he;have:=e.sz_eq;omega
 |succ N ih=>
  intro e he hz
  have hec:=e.cs_eq
  have hsz:=e.sz_eq
  have hkl:=bt e.kids
  have hre:(irE (sco ch) e).cs=[.int .i64 e.op,.int .i64 e.n,.str (if e.op=2 then irN (sco ch) e.name else e.name),exL (e.kids.map (irE (sco ch)))]:=by
   obtain⟨o,m,s,ks⟩:=e;rw[irE,Ex.cs_eq,←tm];rfl
  have hlen:(RH b0 n ch).length=2+scL ch:=jw b0 n ch
  have hcl:AC Tryz.prog G bW [.ptr 1 1 0 0,.agg (e.cs.map .p),upV ch] (RH b0 n ch) (Mk .agg true (irE (sco ch) e).cs (RH b0 n ch)):=by
   refine AC.goK mZ mR ?_
   have hup:=zV ch
   have hfind:=zm G b0 n ch [.row 1 [[.ptr 1 1 0 0]],.row 4 [[.p (.int .i64 e.op),.p (.int .i64 e.n),.p (.str e.name),.p (exL e.kids)]],.row 1 [[upV ch]],.row 4 [[.p (.int .i64 0),.p (.int .i64 0),.p (.str []),.nils]]] e.name
   have hmp:∀nm:List UInt8,AC Tryz.prog G aK [.p (exL e.kids),.fn (.func bG) [.ptr (2+scL ch) 1 0 0,.ptr (2+scL ch+2) 1 0 0]] (RH b0 n ch++[.row 1 [[.ptr 1 1 0 0]],.row 4 [[.p (.int .i64 e.op),.p (.int .i64 e.n),.p (.str nm),.p (exL e.kids)]],.row 1 [[upV ch]],.row 4 [[.p (.int .i64 0),.p (.int .i64 0),.p (.str []),.nils]]])
    (Mk one true [exL (e.kids.map (irE (sco ch)))] (RH b0 n ch++[.row 1 [[.ptr 1 1 0 0]],.row 4 [[.p (.int .i64 e.op),.p (.int .i64 e.n),.p (.str nm),.p (exL e.kids)]],.row 1 [[upV ch]],.row 4 [[.p (.int .i64 0),.p (.int .i64 0),.p (.str []),.nils]]])):=by
    intro nm
    have hI:RH b0 n ch++[.row 1 [[.ptr 1 1 0 0]],.row 4 [[.p (.int .i64 e.op),.p (.int .i64 e.n),.p (.str nm),.p (exL e.kids)]],.row 1 [[upV ch]],.row 4 [[.p (.int .i64 0),.p (.int .i64 0),.p (.str []),.nils]]]=(Gz hb n ch [.int .i64 e.op,.int .i64 e.n,.str nm,exL e.kids] hs).I ():=rfl
    have hm2:=um G (Gz hb n ch [.int .i64 e.op,.int .i64 e.n,.str nm,exL e.kids] hs) (fun st x=>(irE (sco ch) x,st)) (fun _ _=>True) e.kids (by omega) (fun i st hi _=>⟨trivial,?_⟩) () trivial
    ·rw[px] at hm2
     exact hm2
    have hks:=aW (List.getElem_mem hi)
    have hx:=ih e.kids[i] (by omega) (by omega)
    generalize e.kids[i]=x at hx
    have hxc:=x.cs_eq
    have hyc:=(irE (sco ch) x).cs_eq
    refine AC.go kY ?_
    rw[←hI]
    have hx2:=zD G hb gw hx hs [.row 1 [[.ptr 1 1 0 0]],.row 4 [[.p (.int .i64 e.op),.p (.int .i64 e.n),.p (.str nm),.p (exL e.kids)]],.row 1 [[upV ch]],.row 4 [[.p (.int .i64 0),.p (.int .i64 0),.p (.str []),.nils]],.row 4 [[.p (.int .i64 x.op),.p (.int .i64 x.n),.p (.str x.name),.p (exL x.kids)]],.row 4 [[.p (.int .i64 0),.p (.int .i64 0),.p (.str []),.nils]]] ⟨by simp only[below];omega,by simp,cR ch (Nat.le_refl _),trivial⟩
    have hcaps:(Gz hb n ch [.int .i64 e.op,.int .i64 e.n,.str nm,exL e.kids] hs).caps=[.ptr (2+scL ch) 1 0 0,.ptr (2+scL ch+2) 1 0 0]:=rfl
    rw[hxc] at hx2
    rw[hcaps]
    simp-implicitDefEqProofs[fI,hxc,hlen]
    refine hx2.mono ?_
    rintro r h ⟨vs,I,os,rfl,rfl,ho,nd,hf⟩
    obtain⟨K,rfl,hK⟩:=rG ho
    obtain⟨c1,c2⟩:=bz hK
    simp-implicitDefEqProofs[-AV.cells,-AV.isCell,cT,aE,aQ,cU,aD,c1,c2,aa,hlen]
    rw[hyc] at ho⊢
    exact Dz (C0:=[_,_,_,_]) (C1:=[_,_]) ho nd hf (by simp)
   rw[hec]
   have hub:below (2+scL ch) (upV ch):=cR ch (Nat.le_refl _)
   generalize upV ch=u at hup hub hfind hmp⊢
   have hmp:=hmp (if e.op=2 then irN (sco ch) e.name else e.name)
   have hD:=hm.getD e.name
   have hirn:irN (sco ch) e.name=vnm ((dL (sco ch) e.name).getD 0):=rfl
   rw[hre]
   clear hre ih
   have hsame:∀(op:Int) (nm:List UInt8) (r1:List (Nat × AV)),Aw.look r1 3= .ptr (2+scL ch) 1 0 0→Aw.look r1 4= .ptr (2+scL ch+1) 4 0 0→Aw.look r1 5= .ptr (2+scL ch+2) 1 0 0→Aw.look r1 6= .ptr (2+scL ch+3) 4 0 0→
    Wk (2+scL ch) (aj 29 r1) (RH b0 n ch++[.row 1 [[.ptr 1 1 0 0]],.row 4 [[.p (.int .i64 op),.p (.int .i64 e.n),.p (.str nm),.p (exL e.kids)]],.row 1 [[u]],.row 4 [[.p (.int .i64 0),.p (.int .i64 0),.p (.str []),.nils]]])
     (aj 29 [(3,.ptr (2+scL ch) 1 0 0),(4,.ptr (2+scL ch+1) 4 0 0),(5,.ptr (2+scL ch+2) 1 0 0),(6,.ptr (2+scL ch+3) 4 0 0)]) (RH b0 n ch++[.row 1 [[.ptr 1 1 0 0]],.row 4 [[.p (.int .i64 op),.p (.int .i64 e.n),.p (.str nm),.p (exL e.kids)]],.row 1 [[u]],.row 4 [[.p (.int .i64 0),.p (.int .i64 0),.p (.str []),.nils]]]):=by
    intro op nm r1 e3 e4 e5 e6
    refine pf (r:=[_,_,_,_]) (s:=[]) hlen (Nat.le_add_right _ _) (ut hb hs (Nat.le_refl _)) ?_ (by simp[below,e3,e4,e5,e6])
    refine ae (by intro x hx;rw[List.mem_singleton.1 hx];exact⟨by simp only[below];omega,trivial⟩) (ae (cS (by simp[okO])) (ae (by intro x hx;rw[List.mem_singleton.1 hx];exact⟨(au (Nat.le_add_right _ _) [u] ⟨hub,trivial⟩).1,trivial⟩) (ae (cS (by simp[okO])) dY)))
   rcases hup with rfl|⟨i,rfl⟩
   ·simp-implicitDefEqProofs[K_impl_renamer_expr,F_impl_renamer_expr,hlen]
    refine ky (aj 29 [(3,.ptr (2+scL ch) 1 0 0),(4,.ptr (2+scL ch+1) 4 0 0),(5,.ptr (2+scL ch+2) 1 0 0),(6,.ptr (2+scL ch+3) 4 0 0)]) (RH b0 n ch++[.row 1 [[.ptr 1 1 0 0]],.row 4 [[.p (.int .i64 e.op),.p (.int .i64 e.n),.p (.str (if e.op=2 then irN (sco ch) e.name else e.name)),.p (exL e.kids)]],.row 1 [[.nilp]],.row 4 [[.p (.int .i64 0),.p (.int .i64 0),.p (.str []),.nils]]]) ?_ ?_
    ·by_cases o2:e.op=2
     ·rw[o2] at hfind
      simp-implicitDefEqProofs[o2,hlen]
      refine hfind.mono ?_
      rintro r h ⟨rfl,rfl⟩
      simp-implicitDefEqProofs[aa,hlen]
      refine(vc G _ hD _ _).mono ?_
      rintro r h ⟨rfl,rfl⟩
      rw[hirn]
      simp-implicitDefEqProofs[aa,hlen]
      exact hsame 2 _ _ (by simp) (by simp) (by simp) (by simp)
     ·simp-implicitDefEqProofs[o2,hlen]
      exact hsame e.op _ _ (by simp) (by simp) (by simp) (by simp)
    ·simp-implicitDefEqProofs[hlen]
     refine hmp.mono ?_
     rintro r h ⟨vs,I,os,rfl,rfl,ho,nd,hf⟩
     obtain⟨K,rfl⟩:=aS ho
     obtain⟨c1,c2⟩:=bz ho
     simp-implicitDefEqProofs[-AV.cells,-AV.isCell,cT,aE,aQ,cU,aD,c1,c2,aa,hlen,one]
     have ho2:OwnL true _ _ _ _:= .p (.int .i64 e.op) (fun _=>rfl) (.p (.int .i64 e.n) (fun _=>rfl) (.p (.str (if e.op=2 then irN (sco ch) e.name else e.name)) (fun _=>rfl) ho))
     exact xX (C1:=[_,_,_,_]) ho2 nd hf (by simp)
   ·simp-implicitDefEqProofs[K_impl_renamer_expr,F_impl_renamer_expr,hlen]
    refine ky (aj 29 [(3,.ptr (2+scL ch) 1 0 0),(4,.ptr (2+scL ch+1) 4 0 0),(5,.ptr (2+scL ch+2) 1 0 0),(6,.ptr (2+scL ch+3) 4 0 0)]) (RH b0 n ch++[.row 1 [[.ptr 1 1 0 0]],.row 4 [[.p (.int .i64 e.op),.p (.int .i64 e.n),.p (.str (if e.op=2 then irN (sco ch) e.name else e.name)),.p (exL e.kids)]],.row 1 [[.ptr i 2 0 0]],.row 4 [[.p (.int .i64 0),.p (.int .i64 0),.p (.str []),.nils]]]) ?_ ?_
    ·by_cases o2:e.op=2
     ·rw[o2] at hfind
      simp-implicitDefEqProofs[o2,hlen]
      refine hfind.mono ?_
      rintro r h ⟨rfl,rfl⟩
      simp-implicitDefEqProofs[aa,hlen]
      refine(vc G _ hD _ _).mono ?_
      rintro r h ⟨rfl,rfl⟩
      rw[hirn]
      simp-implicitDefEqProofs[aa,hlen]
      exact hsame 2 _ _ (by simp) (by simp) (by simp) (by simp)
     ·simp-implicitDefEqProofs[o2,hlen]
      exact hsame e.op _ _ (by simp) (by simp) (by simp) (by simp)
    ·simp-implicitDefEqProofs[hlen]
     refine hmp.mono ?_
     rintro r h ⟨vs,I,os,rfl,rfl,ho,nd,hf⟩
     obtain⟨K,rfl⟩:=aS ho
     obtain⟨c1,c2⟩:=bz ho
     simp-implicitDefEqProofs[-AV.cells,-AV.isCell,cT,aE,aQ,cU,aD,c1,c2,aa,hlen,one]
     have ho2:OwnL true _ _ _ _:= .p (.int .i64 e.op) (fun _=>rfl) (.p (.int .i64 e.n) (fun _=>rfl) (.p (.str (if e.op=2 then irN (sco ch) e.name else e.name)) (fun _=>rfl) ho))
     exact xX (C1:=[_,_,_,_]) ho2 nd hf (by simp)
  exact hcl
end Go.Proofs.YtiojgfhdcpppcaaGreatDoor
