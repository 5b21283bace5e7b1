/-
  Contracts and lemmas that the card needs, part 6.
-/
import Derived.Test.YtnjbhgpbgmpkcaaGreatDoorRp5
namespace Go.Proofs.YtnjbhgpbgmpkcaaGreatDoor
open Go Go.Aw
set_option maxRecDepth 100000
set_option maxHeartbeats 4000000
abbrev BL:Nat:=9223372036854775807
mutual
def Ex.fit:Ex→Prop
 | .mk _ _ s k=>s.length≤BL∧k.length≤BL∧kA k
def kA:List Ex→Prop
 |[]=>True
 |e::r=>e.fit∧kA r
end
mutual
def Sm.fit:Sm→Prop
 | .mk _ s a b e=>s.length≤BL∧(a.length≤BL∧kA a)∧(b.length≤BL∧iX b)∧(e.length≤BL∧iX e)
def iX:List Sm→Prop
 |[]=>True
 |s::r=>s.fit∧iX r
end
def Fd.fit(f:Fd):Prop:=f.name.length≤BL∧(f.params.length≤BL∧∀x∈f.params,x.length≤BL)∧(f.body.length≤BL∧iX f.body)
theorem oe:∀{l:List Ex} {e:Ex},kA l→e∈l→e.fit
 |x::r,e,h,hm=>by
  rcases List.mem_cons.1 hm with rfl|hm
  ·exact h.1
  ·exact oe h.2 hm
theorem nP:∀{l:List Sm} {e:Sm},iX l→e∈l→e.fit
 |x::r,e,h,hm=>by
  rcases List.mem_cons.1 hm with rfl|hm
  ·exact h.1
  ·exact nP h.2 hm
theorem Ex.fit_eq(e:Ex):e.fit=(e.name.length≤BL∧e.kids.length≤BL∧kA e.kids):=by cases e;rfl
theorem Sm.fit_eq(s:Sm):s.fit=(s.name.length≤BL∧(s.args.length≤BL∧kA s.args)∧(s.body.length≤BL∧iX s.body)∧(s.els.length≤BL∧iX s.els)):=by cases s;rfl
theorem Fd.cs_eq'(f:Fd):f.cs=[.str f.name,ay f.params,smL f.body]:=rfl
def cU(ss:List Nat)(i:Nat):Nat:=ss.length+((ss.take i).map (· -1)).sum
theorem pL(ss:List Nat):cU ss 0=ss.length:=by simp[cU]
theorem pY{ss:List Nat}{i v:Nat}(h:ss[i]?=some v):cU ss (i+1)=cU ss i+(v-1):=by
 rw[cU,cU,List.take_add_one,h,List.map_append,List.sum_append];simp;omega
theorem vh:∀{ss:List Nat},(∀v∈ss,1≤v)→ss.length+(ss.map (· -1)).sum=ss.sum
 |[],_=>rfl
 |v::r,h=>by
  have:=vh (ss:=r) fun x hx=>h x (by simp[hx])
  have h1:=h v (by simp)
  simp only[List.length_cons,List.map_cons,List.sum_cons];omega
theorem tm{ss:List Nat}(h:∀v∈ss,1≤v){i:Nat}(hi:ss.length≤i):cU ss i=ss.sum:=by
 rw[cU,List.take_of_length_le hi,vh h]
theorem vj{ss:List Nat}(h:∀v∈ss,1≤v)(i:Nat):cU ss i≤ss.sum:=by
 rw[←vh h,cU]
 have:(ss.map (· -1)).sum=((ss.take i).map (· -1)).sum+((ss.drop i).map (· -1)).sum:=by
  conv=>lhs;rw[←List.take_append_drop i ss,List.map_append,List.sum_append]
 omega
theorem we:∀l:List Ex,bK l=(l.map Ex.sz).sum
 |[]=>rfl
 |e::r=>by simp only[bK,List.map_cons,List.sum_cons,we r]
theorem xn:∀l:List Sm,aG l=(l.map Sm.sz).sum
 |[]=>rfl
 |e::r=>by simp only[aG,List.map_cons,List.sum_cons,xn r]
theorem Du(l:List Fd):bm l=(l.map Fd.sz).sum:=rfl
theorem Ex.sz_pos(e:Ex):1≤e.sz:=by rw[e.sz_eq];omega
theorem Sm.sz_pos(e:Sm):1≤e.sz:=by rw[e.sz_eq];omega
theorem Fd.sz_pos(f:Fd):1≤f.sz:=by unfold Fd.sz;omega
def bE(left z:Nat):Int:=if z≤left then((left-z:Nat):Int) else-1
variable (G:aA)
theorem tT(l:List Ex)(left:Nat)(hl:left≤1048576)(hb:l.length≤BL)(H:∀e∈l,∀left:Nat,left≤1048576→VF Tryz.prog G gl [.agg (e.cs.map .p),.p (.int .i64 left)] (.p (.int .i64 (bE left (e.sz-1))))):
 VF Tryz.prog G dI [.p (exL l),.p (.int .i64 left)] (.p (.int .i64 (bE left (bK l)))):=by
 refine AC.go rZ ?_
 have hpos:∀v∈l.map Ex.sz,1≤v:=fun v hv=>by obtain⟨e,_,rfl⟩:=List.mem_map.1 hv;exact e.sz_pos
 have hz:=we l
 have hal:=fun i (hi:l.length≤i)=>tm hpos (i:=i) (by rw[List.length_map];exact hi)
 have hle:=vj hpos
 have h00:cU (l.map Ex.sz) 0=l.length:=by rw[pL,List.length_map]
 rw[←hz] at hal hle
 have hsl:∀l,exL l= .lst 4 (l.map Ex.cs):=fun _=>rfl
 have hw:IntKind.i64.wrap ((left:Int)-l.length)=(left:Int)-l.length:=ag (by simp only[BL] at hb;omega) (by omega)
 by_cases h:l.length≤left
 case neg=>
  have h1:(left:Int)-l.length<0:=by omega
  have:=hle 0
  have h2:bE left (bK l)= -1:=if_neg (by omega)
  simp-implicitDefEqProofs[iy,hsl,hw,h1,h2]
 have h1:¬(left:Int)-l.length<0:=by omega
 simp-implicitDefEqProofs[iy,hsl,hw,h1]
 refine az (fun i:Nat=>aj 27 [(0,.p (exL l)),(1,.p (.int .i64 ((left-cU (l.map Ex.sz) i:Nat):Int))),(5,.p (.int .i64 i))]) (fun _=>[]) (fun i=>i≤l.length∧cU (l.map Ex.sz) i≤left) (fun i=>l.length-i) 0 ⟨by omega,by rw[h00];exact h⟩ ?_ ?_
 ·refine aC rfl ?_
  simp only[h00]
  simp[below,hsl]
  omega
 ·intro i ⟨hi,hx⟩
  simp-implicitDefEqProofs[hsl]
  refine bh (fun h1=>?_) (fun h1=>?_)
  ·simp at h1
   have hg:=List.getElem?_eq_getElem h1
   have hsu:=pY (ss:=l.map Ex.sz) (i:=i) (v:=l[i].sz) (by rw[List.getElem?_map,hg];rfl)
   have hH:=H l[i] (List.getElem_mem h1) (left-cU (l.map Ex.sz) i) (by omega)
   have hcs:l[i].cs.length=4:=by simp
   have hle1:=hle (i+1)
   generalize l[i]=e at hg hsu hH hcs
   simp-implicitDefEqProofs[hg,hcs]
   refine hH.use ?_
   by_cases h2:e.sz-1≤left-cU (l.map Ex.sz) i
   ·have e2:bE (left-cU (l.map Ex.sz) i) (e.sz-1)=((left-cU (l.map Ex.sz) (i+1):Nat):Int):=by rw[bE,if_pos h2];omega
    have h3:¬((left-cU (l.map Ex.sz) (i+1):Nat):Int)<0:=by omega
    rw[e2]
    simp-implicitDefEqProofs[h3]
    refine⟨i+1,⟨h1,by omega⟩,by omega,aC rfl (by simp[below,hsl,w1 (i:=i) (by simp only[BL] at hb;omega)])⟩
   ·have e2:bE (left-cU (l.map Ex.sz) i) (e.sz-1)= -1:=if_neg h2
    have e3:bE left (bK l)= -1:=if_neg (by omega)
    rw[e2,e3]
    simp-implicitDefEqProofs[]
  ·simp at h1
   have hta:=hal i h1
   have h5:bE left (bK l)=((left-cU (l.map Ex.sz) i:Nat):Int):=by rw[hta,bE,if_pos (by omega)]
   simp-implicitDefEqProofs[h5]
theorem ur(l:List Ex)(hb:l.length≤1048576)(H:∀e∈l,VF Tryz.prog G dv [.agg (e.cs.map .p)] (.agg (e.cs.map .p))):VF Tryz.prog G bQ [.p (exL l)] (.p (exL l)):=by
 have hsl:∀l,exL l= .lst 4 (l.map Ex.cs):=fun _=>rfl
 have key:AC Tryz.prog G bQ [.p (exL l)] [] fun x h=>x= .ret (.sl 0 4 0 l.length)∧h=[.row 4 (l.map fun e=>e.cs.map .p)]:=by
  refine AC.go lL ?_
  have hn:(l.map fun e=>e.cs.map AV.p).length=l.length:=by simp
  simp-implicitDefEqProofs[iP,hsl]
  refine⟨by omega,?_⟩
  refine az (fun i:Nat=>aj 23 [(0,.p (exL l)),(3,.sl 0 4 0 l.length),(4,.p (.int .i64 i))]) (fun i=>[.row 4 ((l.map fun e=>e.cs.map AV.p).take i++List.replicate (l.length-i) [.p (.int .i64 0),.p (.int .i64 0),.p (.str []),.nils])]) (fun i=>i≤l.length) (fun i=>l.length-i) 0 (by simp) ?_ ?_
  ·refine eC [0] rfl (by simp) (bH (by simp) (by simp[below]) cQ) ?_
   simp[below,ren,hsl]
  ·intro i hi
   simp-implicitDefEqProofs[hsl]
   refine bh (fun h1=>?_) (fun h1=>?_)
   ·simp at h1
    have hg:=List.getElem?_eq_getElem h1
    have hg2:=th (z:=([.p (.int .i64 0),.p (.int .i64 0),.p (.str []),.nils]:List AV)) hn h1
    have hset:=oX (z:=([.p (.int .i64 0),.p (.int .i64 0),.p (.str []),.nils]:List AV)) (v:=l[i].cs.map AV.p) hn h1 (by rw[List.getElem?_map,hg];rfl)
    have hH:=H l[i] (List.getElem_mem h1)
    have hcs:=l[i].cs_eq
    have htl:(List.take i (l.map fun(e:Ex)=>e.cs.map AV.p)++List.replicate (l.length-i) ([.p (.int .i64 0),.p (.int .i64 0),.p (.str []),.nils]:List AV)).length=l.length:=by simp;omega
    generalize l[i]=e at hg hset hH hcs
    generalize hRow:(List.take i (l.map fun(e:Ex)=>e.cs.map AV.p)++List.replicate (l.length-i) ([.p (.int .i64 0),.p (.int .i64 0),.p (.str []),.nils]:List AV))=Rw at hg2 hset htl⊢
    rw[hcs] at hH hset
    simp-implicitDefEqProofs[hg,hcs]
    refine hH.use ?_
    simp-implicitDefEqProofs[hg2,h1,dK]
    simp only[List.map_cons,List.map_nil] at hset
    rw[hset]
    refine⟨i+1,h1,by omega,eC [0] rfl (by simp) (bH rfl ?_ cQ) ?_⟩
    ·intro x hx
     rcases List.mem_append.1 hx with hx|hx
     ·obtain⟨y,_,rfl⟩:=List.mem_map.1 (List.mem_of_mem_take hx);simp
     ·rw[(List.mem_replicate.1 hx).2];simp[below]
    ·simp[below,ren,hsl,w1 (i:=i) (by omega)]
   ·simp at h1
    have hie:i=l.length:=by omega
    subst hie
    rw[Nat.sub_self,List.replicate_zero,List.append_nil,List.take_of_length_le (by rw[hn];exact Nat.le_refl _)]
    simp-implicitDefEqProofs[]
 refine AC.freeze key (.one ?_ .nil)
 have:=gD (h:=[.row 4 (l.map fun e=>e.cs.map .p)]) (id:=0) (sz:=4) (n:=l.length) (ls:=l.map Ex.cs) (by simp) (by simp) (fun x hx=>by obtain⟨b,_,rfl⟩:=List.mem_map.1 hx;simp)
 exact this
theorem uB(l:List Ex)(hb:l.length≤1048576)(H:∀e∈l,VF Tryz.prog G gn [.agg (e.cs.map .p),.agg (e.cs.map .p)] (.p (.bool true))):VF Tryz.prog G dF [.p (exL l),.p (exL l)] (.p (.bool true)):=by
 refine AC.go rE ?_
 have hsl:∀l,exL l= .lst 4 (l.map Ex.cs):=fun _=>rfl
 simp-implicitDefEqProofs[lT,hsl]
 refine az (fun i:Nat=>aj 27 [(0,.p (exL l)),(1,.p (exL l)),(5,.p (.int .i64 i))]) (fun _=>[]) (fun i=>i≤l.length) (fun i=>l.length-i) 0 (by simp) ?_ ?_
 ·exact aC rfl (by simp[below,hsl])
 intro i hi
 simp-implicitDefEqProofs[hsl]
 refine bh (fun h1=>?_) (fun h1=>?_)
 ·simp at h1
  have hg:=List.getElem?_eq_getElem h1
  have hH:=H l[i] (List.getElem_mem h1)
  have hcs:l[i].cs.length=4:=by simp
  generalize l[i]=e at hg hH hcs
  simp-implicitDefEqProofs[hg,hcs]
  refine hH.use ?_
  simp-implicitDefEqProofs[]
  exact⟨i+1,h1,by omega,aC rfl (by simp[below,hsl,w1 (i:=i) (by omega)])⟩
 ·simp at h1
  simp-implicitDefEqProofs[]
theorem tS(l:List Sm)(left:Nat)(hl:left≤1048576)(hb:l.length≤BL)(H:∀e∈l,∀left:Nat,left≤1048576→VF Tryz.prog G gv [.agg (e.cs.map .p),.p (.int .i64 left)] (.p (.int .i64 (bE left (e.sz-1))))):
 VF Tryz.prog G cu [.p (smL l),.p (.int .i64 left)] (.p (.int .i64 (bE left (aG l)))):=by
 refine AC.go sL ?_
 have hpos:∀v∈l.map Sm.sz,1≤v:=fun v hv=>by obtain⟨e,_,rfl⟩:=List.mem_map.1 hv;exact e.sz_pos
 have hz:=xn l
 have hal:=fun i (hi:l.length≤i)=>tm hpos (i:=i) (by rw[List.length_map];exact hi)
 have hle:=vj hpos
 have h00:cU (l.map Sm.sz) 0=l.length:=by rw[pL,List.length_map]
 rw[←hz] at hal hle
 have hsl:∀l,smL l= .lst 5 (l.map Sm.cs):=fun _=>rfl
 have hw:IntKind.i64.wrap ((left:Int)-l.length)=(left:Int)-l.length:=ag (by simp only[BL] at hb;omega) (by omega)
 by_cases h:l.length≤left
 case neg=>
  have h1:(left:Int)-l.length<0:=by omega
  have:=hle 0
  have h2:bE left (aG l)= -1:=if_neg (by omega)
  simp-implicitDefEqProofs[iF,hsl,hw,h1,h2]
 have h1:¬(left:Int)-l.length<0:=by omega
 simp-implicitDefEqProofs[iF,hsl,hw,h1]
 refine az (fun i:Nat=>aj 27 [(0,.p (smL l)),(1,.p (.int .i64 ((left-cU (l.map Sm.sz) i:Nat):Int))),(5,.p (.int .i64 i))]) (fun _=>[]) (fun i=>i≤l.length∧cU (l.map Sm.sz) i≤left) (fun i=>l.length-i) 0 ⟨by omega,by rw[h00];exact h⟩ ?_ ?_
 ·refine aC rfl ?_
  simp only[h00]
  simp[below,hsl]
  omega
 ·intro i ⟨hi,hx⟩
  simp-implicitDefEqProofs[hsl]
  refine bh (fun h1=>?_) (fun h1=>?_)
  ·simp at h1
   have hg:=List.getElem?_eq_getElem h1
   have hsu:=pY (ss:=l.map Sm.sz) (i:=i) (v:=l[i].sz) (by rw[List.getElem?_map,hg];rfl)
   have hH:=H l[i] (List.getElem_mem h1) (left-cU (l.map Sm.sz) i) (by omega)
   have hcs:l[i].cs.length=5:=by simp
   have hle1:=hle (i+1)
   generalize l[i]=e at hg hsu hH hcs
   simp-implicitDefEqProofs[hg,hcs]
   refine hH.use ?_
   by_cases h2:e.sz-1≤left-cU (l.map Sm.sz) i
   ·have e2:bE (left-cU (l.map Sm.sz) i) (e.sz-1)=((left-cU (l.map Sm.sz) (i+1):Nat):Int):=by rw[bE,if_pos h2];omega
    have h3:¬((left-cU (l.map Sm.sz) (i+1):Nat):Int)<0:=by omega
    rw[e2]
    simp-implicitDefEqProofs[h3]
    refine⟨i+1,⟨h1,by omega⟩,by omega,aC rfl (by simp[below,hsl,w1 (i:=i) (by simp only[BL] at hb;omega)])⟩
   ·have e2:bE (left-cU (l.map Sm.sz) i) (e.sz-1)= -1:=if_neg h2
    have e3:bE left (aG l)= -1:=if_neg (by omega)
    rw[e2,e3]
    simp-implicitDefEqProofs[]
  ·simp at h1
   have hta:=hal i h1
   have h5:bE left (aG l)=((left-cU (l.map Sm.sz) i:Nat):Int):=by rw[hta,bE,if_pos (by omega)]
   simp-implicitDefEqProofs[h5]
theorem qm(l:List Sm)(hb:l.length≤1048576)(H:∀e∈l,VF Tryz.prog G dr [.agg (e.cs.map .p)] (.agg (e.cs.map .p))):VF Tryz.prog G bu [.p (smL l)] (.p (smL l)):=by
 have hsl:∀l,smL l= .lst 5 (l.map Sm.cs):=fun _=>rfl
 have key:AC Tryz.prog G bu [.p (smL l)] [] fun x h=>x= .ret (.sl 0 5 0 l.length)∧h=[.row 5 (l.map fun e=>e.cs.map .p)]:=by
  refine AC.go lu ?_
  have hn:(l.map fun e=>e.cs.map AV.p).length=l.length:=by simp
  simp-implicitDefEqProofs[iZ,hsl]
  refine⟨by omega,?_⟩
  refine az (fun i:Nat=>aj 23 [(0,.p (smL l)),(3,.sl 0 5 0 l.length),(4,.p (.int .i64 i))]) (fun i=>[.row 5 ((l.map fun e=>e.cs.map AV.p).take i++List.replicate (l.length-i) [.p (.int .i64 0),.p (.str []),.nils,.nils,.nils])]) (fun i=>i≤l.length) (fun i=>l.length-i) 0 (by simp) ?_ ?_
  ·refine eC [0] rfl (by simp) (bH (by simp) (by simp[below]) cQ) ?_
   simp[below,ren,hsl]
  ·intro i hi
   simp-implicitDefEqProofs[hsl]
   refine bh (fun h1=>?_) (fun h1=>?_)
   ·simp at h1
    have hg:=List.getElem?_eq_getElem h1
    have hg2:=th (z:=([.p (.int .i64 0),.p (.str []),.nils,.nils,.nils]:List AV)) hn h1
    have hset:=oX (z:=([.p (.int .i64 0),.p (.str []),.nils,.nils,.nils]:List AV)) (v:=l[i].cs.map AV.p) hn h1 (by rw[List.getElem?_map,hg];rfl)
    have hH:=H l[i] (List.getElem_mem h1)
    have hcs:=l[i].cs_eq
    have htl:(List.take i (l.map fun(e:Sm)=>e.cs.map AV.p)++List.replicate (l.length-i) ([.p (.int .i64 0),.p (.str []),.nils,.nils,.nils]:List AV)).length=l.length:=by simp;omega
    generalize l[i]=e at hg hset hH hcs
    generalize hRow:(List.take i (l.map fun(e:Sm)=>e.cs.map AV.p)++List.replicate (l.length-i) ([.p (.int .i64 0),.p (.str []),.nils,.nils,.nils]:List AV))=Rw at hg2 hset htl⊢
    rw[hcs] at hH hset
    simp-implicitDefEqProofs[hg,hcs]
    refine hH.use ?_
    simp-implicitDefEqProofs[hg2,h1,dK]
    simp only[List.map_cons,List.map_nil] at hset
    rw[hset]
    refine⟨i+1,h1,by omega,eC [0] rfl (by simp) (bH rfl ?_ cQ) ?_⟩
    ·intro x hx
     rcases List.mem_append.1 hx with hx|hx
     ·obtain⟨y,_,rfl⟩:=List.mem_map.1 (List.mem_of_mem_take hx);simp
     ·rw[(List.mem_replicate.1 hx).2];simp[below]
    ·simp[below,ren,hsl,w1 (i:=i) (by omega)]
   ·simp at h1
    have hie:i=l.length:=by omega
    subst hie
    rw[Nat.sub_self,List.replicate_zero,List.append_nil,List.take_of_length_le (by rw[hn];exact Nat.le_refl _)]
    simp-implicitDefEqProofs[]
 refine AC.freeze key (.one ?_ .nil)
 have:=gD (h:=[.row 5 (l.map fun e=>e.cs.map .p)]) (id:=0) (sz:=5) (n:=l.length) (ls:=l.map Sm.cs) (by simp) (by simp) (fun x hx=>by obtain⟨b,_,rfl⟩:=List.mem_map.1 hx;simp)
 exact this
theorem qp(l:List Sm)(hb:l.length≤1048576)(H:∀e∈l,VF Tryz.prog G gh [.agg (e.cs.map .p),.agg (e.cs.map .p)] (.p (.bool true))):VF Tryz.prog G cR [.p (smL l),.p (smL l)] (.p (.bool true)):=by
 refine AC.go sW ?_
 have hsl:∀l,smL l= .lst 5 (l.map Sm.cs):=fun _=>rfl
 simp-implicitDefEqProofs[lK,hsl]
 refine az (fun i:Nat=>aj 27 [(0,.p (smL l)),(1,.p (smL l)),(5,.p (.int .i64 i))]) (fun _=>[]) (fun i=>i≤l.length) (fun i=>l.length-i) 0 (by simp) ?_ ?_
 ·exact aC rfl (by simp[below,hsl])
 intro i hi
 simp-implicitDefEqProofs[hsl]
 refine bh (fun h1=>?_) (fun h1=>?_)
 ·simp at h1
  have hg:=List.getElem?_eq_getElem h1
  have hH:=H l[i] (List.getElem_mem h1)
  have hcs:l[i].cs.length=5:=by simp
  generalize l[i]=e at hg hH hcs
  simp-implicitDefEqProofs[hg,hcs]
  refine hH.use ?_
  simp-implicitDefEqProofs[]
  exact⟨i+1,h1,by omega,aC rfl (by simp[below,hsl,w1 (i:=i) (by omega)])⟩
 ·simp at h1
  simp-implicitDefEqProofs[]
theorem Fo(l:List Fd)(left:Nat)(hl:left≤1048576)(hb:l.length≤BL)(H:∀e∈l,∀left:Nat,left≤1048576→VF Tryz.prog G jj [.agg (e.cs.map .p),.p (.int .i64 left)] (.p (.int .i64 (bE left (e.sz-1))))):
 VF Tryz.prog G kJ [.p (fdL l),.p (.int .i64 left)] (.p (.int .i64 (bE left (bm l)))):=by
 refine AC.go vq ?_
 have hpos:∀v∈l.map Fd.sz,1≤v:=fun v hv=>by obtain⟨e,_,rfl⟩:=List.mem_map.1 hv;exact e.sz_pos
 have hz:=Du l
 have hal:=fun i (hi:l.length≤i)=>tm hpos (i:=i) (by rw[List.length_map];exact hi)
 have hle:=vj hpos
 have h00:cU (l.map Fd.sz) 0=l.length:=by rw[pL,List.length_map]
 rw[←hz] at hal hle
 have hsl:∀l,fdL l= .lst 3 (l.map Fd.cs):=fun _=>rfl
 have hw:IntKind.i64.wrap ((left:Int)-l.length)=(left:Int)-l.length:=ag (by simp only[BL] at hb;omega) (by omega)
 by_cases h:l.length≤left
 case neg=>
  have h1:(left:Int)-l.length<0:=by omega
  have:=hle 0
  have h2:bE left (bm l)= -1:=if_neg (by omega)
  simp-implicitDefEqProofs[kP,hsl,hw,h1,h2]
 have h1:¬(left:Int)-l.length<0:=by omega
 simp-implicitDefEqProofs[kP,hsl,hw,h1]
 refine az (fun i:Nat=>aj 27 [(0,.p (fdL l)),(1,.p (.int .i64 ((left-cU (l.map Fd.sz) i:Nat):Int))),(5,.p (.int .i64 i))]) (fun _=>[]) (fun i=>i≤l.length∧cU (l.map Fd.sz) i≤left) (fun i=>l.length-i) 0 ⟨by omega,by rw[h00];exact h⟩ ?_ ?_
 ·refine aC rfl ?_
  simp only[h00]
  simp[below,hsl]
  omega
 ·intro i ⟨hi,hx⟩
  simp-implicitDefEqProofs[hsl]
  refine bh (fun h1=>?_) (fun h1=>?_)
  ·simp at h1
   have hg:=List.getElem?_eq_getElem h1
   have hsu:=pY (ss:=l.map Fd.sz) (i:=i) (v:=l[i].sz) (by rw[List.getElem?_map,hg];rfl)
   have hH:=H l[i] (List.getElem_mem h1) (left-cU (l.map Fd.sz) i) (by omega)
   have hcs:l[i].cs.length=3:=by simp
   have hle1:=hle (i+1)
   generalize l[i]=e at hg hsu hH hcs
   simp-implicitDefEqProofs[hg,hcs]
   refine hH.use ?_
   by_cases h2:e.sz-1≤left-cU (l.map Fd.sz) i
   ·have e2:bE (left-cU (l.map Fd.sz) i) (e.sz-1)=((left-cU (l.map Fd.sz) (i+1):Nat):Int):=by rw[bE,if_pos h2];omega
    have h3:¬((left-cU (l.map Fd.sz) (i+1):Nat):Int)<0:=by omega
    rw[e2]
    simp-implicitDefEqProofs[h3]
    refine⟨i+1,⟨h1,by omega⟩,by omega,aC rfl (by simp[below,hsl,w1 (i:=i) (by simp only[BL] at hb;omega)])⟩
   ·have e2:bE (left-cU (l.map Fd.sz) i) (e.sz-1)= -1:=if_neg h2
    have e3:bE left (bm l)= -1:=if_neg (by omega)
    rw[e2,e3]
    simp-implicitDefEqProofs[]
  ·simp at h1
   have hta:=hal i h1
   have h5:bE left (bm l)=((left-cU (l.map Fd.sz) i:Nat):Int):=by rw[hta,bE,if_pos (by omega)]
   simp-implicitDefEqProofs[h5]
theorem EX(l:List Fd)(hb:l.length≤1048576)(H:∀e∈l,VF Tryz.prog G fg [.agg (e.cs.map .p)] (.agg (e.cs.map .p))):VF Tryz.prog G fk [.p (fdL l)] (.p (fdL l)):=by
 have hsl:∀l,fdL l= .lst 3 (l.map Fd.cs):=fun _=>rfl
 have key:AC Tryz.prog G fk [.p (fdL l)] [] fun x h=>x= .ret (.sl 0 3 0 l.length)∧h=[.row 3 (l.map fun e=>e.cs.map .p)]:=by
  refine AC.go pq ?_
  have hn:(l.map fun e=>e.cs.map AV.p).length=l.length:=by simp
  simp-implicitDefEqProofs[kD,hsl]
  refine⟨by omega,?_⟩
  refine az (fun i:Nat=>aj 23 [(0,.p (fdL l)),(3,.sl 0 3 0 l.length),(4,.p (.int .i64 i))]) (fun i=>[.row 3 ((l.map fun e=>e.cs.map AV.p).take i++List.replicate (l.length-i) [.p (.str []),.nils,.nils])]) (fun i=>i≤l.length) (fun i=>l.length-i) 0 (by simp) ?_ ?_
  ·refine eC [0] rfl (by simp) (bH (by simp) (by simp[below]) cQ) ?_
   simp[below,ren,hsl]
  ·intro i hi
   simp-implicitDefEqProofs[hsl]
   refine bh (fun h1=>?_) (fun h1=>?_)
   ·simp at h1
    have hg:=List.getElem?_eq_getElem h1
    have hg2:=th (z:=([.p (.str []),.nils,.nils]:List AV)) hn h1
    have hset:=oX (z:=([.p (.str []),.nils,.nils]:List AV)) (v:=l[i].cs.map AV.p) hn h1 (by rw[List.getElem?_map,hg];rfl)
    have hH:=H l[i] (List.getElem_mem h1)
    have hcs:=l[i].cs_eq'
    have htl:(List.take i (l.map fun(e:Fd)=>e.cs.map AV.p)++List.replicate (l.length-i) ([.p (.str []),.nils,.nils]:List AV)).length=l.length:=by simp;omega
    generalize l[i]=e at hg hset hH hcs
    generalize hRow:(List.take i (l.map fun(e:Fd)=>e.cs.map AV.p)++List.replicate (l.length-i) ([.p (.str []),.nils,.nils]:List AV))=Rw at hg2 hset htl⊢
    rw[hcs] at hH hset
    simp-implicitDefEqProofs[hg,hcs]
    refine hH.use ?_
    simp-implicitDefEqProofs[hg2,h1,dK]
    simp only[List.map_cons,List.map_nil] at hset
    rw[hset]
    refine⟨i+1,h1,by omega,eC [0] rfl (by simp) (bH rfl ?_ cQ) ?_⟩
    ·intro x hx
     rcases List.mem_append.1 hx with hx|hx
     ·obtain⟨y,_,rfl⟩:=List.mem_map.1 (List.mem_of_mem_take hx);simp
     ·rw[(List.mem_replicate.1 hx).2];simp[below]
    ·simp[below,ren,hsl,w1 (i:=i) (by omega)]
   ·simp at h1
    have hie:i=l.length:=by omega
    subst hie
    rw[Nat.sub_self,List.replicate_zero,List.append_nil,List.take_of_length_le (by rw[hn];exact Nat.le_refl _)]
    simp-implicitDefEqProofs[]
 refine AC.freeze key (.one ?_ .nil)
 have:=gD (h:=[.row 3 (l.map fun e=>e.cs.map .p)]) (id:=0) (sz:=3) (n:=l.length) (ls:=l.map Fd.cs) (by simp) (by simp) (fun x hx=>by obtain⟨b,_,rfl⟩:=List.mem_map.1 hx;simp)
 exact this
theorem Ft(l:List Fd)(hb:l.length≤1048576)(H:∀e∈l,VF Tryz.prog G jl [.agg (e.cs.map .p),.agg (e.cs.map .p)] (.p (.bool true))):VF Tryz.prog G kr [.p (fdL l),.p (fdL l)] (.p (.bool true)):=by
 refine AC.go vn ?_
 have hsl:∀l,fdL l= .lst 3 (l.map Fd.cs):=fun _=>rfl
 simp-implicitDefEqProofs[pt,hsl]
 refine az (fun i:Nat=>aj 27 [(0,.p (fdL l)),(1,.p (fdL l)),(5,.p (.int .i64 i))]) (fun _=>[]) (fun i=>i≤l.length) (fun i=>l.length-i) 0 (by simp) ?_ ?_
 ·exact aC rfl (by simp[below,hsl])
 intro i hi
 simp-implicitDefEqProofs[hsl]
 refine bh (fun h1=>?_) (fun h1=>?_)
 ·simp at h1
  have hg:=List.getElem?_eq_getElem h1
  have hH:=H l[i] (List.getElem_mem h1)
  have hcs:l[i].cs.length=3:=by simp
  generalize l[i]=e at hg hH hcs
  simp-implicitDefEqProofs[hg,hcs]
  refine hH.use ?_
  simp-implicitDefEqProofs[]
  exact⟨i+1,h1,by omega,aC rfl (by simp[below,hsl,w1 (i:=i) (by omega)])⟩
 ·simp at h1
  simp-implicitDefEqProofs[]
end Go.Proofs.YtnjbhgpbgmpkcaaGreatDoor
namespace Go.Proofs.YtnjbhgpbgmpkcaaGreatDoor
open Go Go.Aw
set_option maxRecDepth 100000
set_option maxHeartbeats 4000000
variable (G:aA)
theorem bx{left z:Nat}(h:¬z≤left):bE left z= -1:=if_neg h
theorem du{left z:Nat}(h:z≤left):bE left z=((left-z:Nat):Int):=if_pos h
theorem BM:∀(N:Nat) (e:Ex),e.sz≤N→e.fit→∀left:Nat,left≤1048576→VF Tryz.prog G gl [.agg (e.cs.map .p),.p (.int .i64 left)] (.p (.int .i64 (bE left (e.sz-1)))):=by
 intro N
 induction N with
 |zero=>intro e he;have:=e.sz_pos;omega
 |succ N ih=>
  intro e he hf left hl
  have hec:=e.cs_eq
  have hsz:=e.sz_eq
  rw[e.fit_eq] at hf
  obtain⟨f1,f2,f3⟩:=hf
  refine AC.go tF ?_
  have hw:IntKind.i64.wrap ((left:Int)-e.name.length)=(left:Int)-e.name.length:=ag (by simp only[BL] at f1;omega) (by omega)
  by_cases h1:e.name.length≤left
  case neg=>
   have h2:(left:Int)-e.name.length<0:=by omega
   rw[bx (by omega)]
   simp-implicitDefEqProofs[jE,hec,hw,h2]
  have h2:¬(left:Int)-e.name.length<0:=by omega
  have e2:(left:Int)-e.name.length=((left-e.name.length:Nat):Int):=by omega
  have hS:=tT G e.kids (left-e.name.length) (by omega) f2 (fun x hx l hl=>ih x (by have:=aW hx;omega) (oe f3 hx) l hl)
  rw[e2] at h2
  replace hw:=hw.trans e2
  simp-implicitDefEqProofs[jE,hec,hw,h2]
  refine hS.use ?_
  by_cases h3:bK e.kids≤left-e.name.length
  ·have n3:¬((left-e.name.length-bK e.kids:Nat):Int)<0:=by omega
   rw[du h3,du (by omega)]
   simp-implicitDefEqProofs[n3]
   omega
  ·rw[bx h3,bx (by omega)]
   simp-implicitDefEqProofs[]
theorem AQ(l:List Ex)(hf:kA l)(hb:l.length≤BL)(left:Nat)(hl:left≤1048576):VF Tryz.prog G dI [.p (exL l),.p (.int .i64 left)] (.p (.int .i64 (bE left (bK l)))):=
 tT G l left hl hb (fun e he l hl=>BM G e.sz e (Nat.le_refl _) (oe hf he) l hl)
theorem Ct:∀(N:Nat) (s:Sm),s.sz≤N→s.fit→∀left:Nat,left≤1048576→VF Tryz.prog G gv [.agg (s.cs.map .p),.p (.int .i64 left)] (.p (.int .i64 (bE left (s.sz-1)))):=by
 intro N
 induction N with
 |zero=>intro e he;have:=e.sz_pos;omega
 |succ N ih=>
  intro e he hf left hl
  have hec:=e.cs_eq
  have hsz:=e.sz_eq
  rw[e.fit_eq] at hf
  obtain⟨f1,⟨f2,f3⟩,⟨f4,f5⟩,f6,f7⟩:=hf
  have sub:∀l:List Sm,aG l≤N→iX l→l.length≤BL→∀left:Nat,left≤1048576→VF Tryz.prog G cu [.p (smL l),.p (.int .i64 left)] (.p (.int .i64 (bE left (aG l)))):=fun l hz hf hb left hl=>
   tS G l left hl hb (fun x hx l hl=>ih x (by have:=aV hx;omega) (nP hf hx) l hl)
  refine AC.go tz ?_
  have hw:IntKind.i64.wrap ((left:Int)-e.name.length)=(left:Int)-e.name.length:=ag (by simp only[BL] at f1;omega) (by omega)
  by_cases h1:e.name.length≤left
  case neg=>
   have h2:(left:Int)-e.name.length<0:=by omega
   rw[bx (by omega)]
   simp-implicitDefEqProofs[js,hec,hw,h2]
  have h2:¬(left:Int)-e.name.length<0:=by omega
  have e2:(left:Int)-e.name.length=((left-e.name.length:Nat):Int):=by omega
  rw[e2] at h2
  replace hw:=hw.trans e2
  simp-implicitDefEqProofs[js,hec,hw,h2]
  refine(AQ G e.args f3 f2 (left-e.name.length) (by omega)).use ?_
  by_cases h3:bK e.args≤left-e.name.length
  case neg=>
   rw[bx h3,bx (by omega)]
   simp-implicitDefEqProofs[]
  have n3:¬((left-e.name.length-bK e.args:Nat):Int)<0:=by omega
  rw[du h3]
  simp-implicitDefEqProofs[n3]
  refine(sub e.body (by omega) f5 f4 (left-e.name.length-bK e.args) (by omega)).use ?_
  by_cases h4:aG e.body≤left-e.name.length-bK e.args
  case neg=>
   rw[bx h4,bx (by omega)]
   simp-implicitDefEqProofs[]
  have n4:¬((left-e.name.length-bK e.args-aG e.body:Nat):Int)<0:=by omega
  rw[du h4]
  simp-implicitDefEqProofs[n4]
  refine(sub e.els (by omega) f7 f6 (left-e.name.length-bK e.args-aG e.body) (by omega)).use ?_
  by_cases h5:aG e.els≤left-e.name.length-bK e.args-aG e.body
  case neg=>
   rw[bx h5,bx (by omega)]
   simp-implicitDefEqProofs[]
  have n5:¬((left-e.name.length-bK e.args-aG e.body-aG e.els:Nat):Int)<0:=by omega
  rw[du h5,du (by omega)]
  simp-implicitDefEqProofs[n5]
  omega
theorem AA(l:List Sm)(hf:iX l)(hb:l.length≤BL)(left:Nat)(hl:left≤1048576):VF Tryz.prog G cu [.p (smL l),.p (.int .i64 left)] (.p (.int .i64 (bE left (aG l)))):=
 tS G l left hl hb (fun e he l hl=>Ct G e.sz e (Nat.le_refl _) (nP hf he) l hl)
def kZ(xs:List (List UInt8))(i:Nat):Nat:=((xs.take i).map List.length).sum
theorem AJ{xs:List (List UInt8)}{i:Nat}(h:i<xs.length):kZ xs (i+1)=kZ xs i+xs[i].length:=by
 show((xs.take (i+1)).map List.length).sum=((xs.take i).map List.length).sum+xs[i].length
 rw[al h,List.map_append,List.sum_append]
 rfl
theorem BX{xs:List (List UInt8)}{i:Nat}(h:xs.length≤i):kZ xs i=(xs.map List.length).sum:=by rw[kZ,List.take_of_length_le h]
theorem FL{xs:List (List UInt8)}{i:Nat}:kZ xs i≤(xs.map List.length).sum:=by
 conv=>rhs;rw[←List.take_append_drop i xs,List.map_append,List.sum_append]
 simp[kZ]
def szW(xs:List (List UInt8)):Nat:=xs.length+(xs.map List.length).sum
theorem xv(xs:List (List UInt8))(left:Nat)(hl:left≤1048576)(hb:xs.length≤9223372036854775807)(hs:∀x∈xs,x.length≤9223372036854775807):VF Tryz.prog G gb [.p (ay xs),.p (.int .i64 left)] (.p (.int .i64 (if szW xs≤left then((left-szW xs:Nat):Int) else-1))):=by
 refine AC.go qf ?_
 have hw:IntKind.i64.wrap ((left:Int)-xs.length)=(left:Int)-xs.length:=ag (by omega) (by omega)
 have hsz:szW xs=xs.length+(xs.map List.length).sum:=rfl
 by_cases h:xs.length≤left
 case neg=>
  have h1:(left:Int)-xs.length<0:=by omega
  have h2:¬szW xs≤left:=by omega
  simp-implicitDefEqProofs[fU,ay,hw,h1,h2]
 have h1:¬(left:Int)-xs.length<0:=by omega
 simp-implicitDefEqProofs[fU,ay,hw,h1]
 refine az (fun i:Nat=>aj 28 [(0,.p (ay xs)),(1,.p (.int .i64 ((left-xs.length-kZ xs i:Nat):Int))),(5,.p (.int .i64 i))]) (fun _=>[]) (fun i=>i≤xs.length∧xs.length+kZ xs i≤left) (fun i=>xs.length-i) 0 (by simp[kZ];omega) ?_ ?_
 ·refine aC rfl ?_
  simp[below,ay,kZ]
  omega
 ·intro i ⟨hi,hx⟩
  simp-implicitDefEqProofs[ay]
  refine bh (fun h1=>?_) (fun h1=>?_)
  ·simp at h1
   have hg:=List.getElem?_eq_getElem h1
   have hle:=hs _ (List.getElem_mem h1)
   have hsu:=AJ h1
   have hsl:=FL (xs:=xs) (i:=i+1)
   have hw2:IntKind.i64.wrap (((left-xs.length-kZ xs i:Nat):Int)-(xs[i].length:Int))=((left-xs.length-kZ xs i:Nat):Int)-(xs[i].length:Int):=ag (by omega) (by omega)
   by_cases h2:xs.length+kZ xs (i+1)≤left
   ·have h3:¬((left-xs.length-kZ xs i:Nat):Int)-(xs[i].length:Int)<0:=by omega
    have h4:((left-xs.length-kZ xs i:Nat):Int)-(xs[i].length:Int)=((left-xs.length-kZ xs (i+1):Nat):Int):=by omega
    rw[h4] at h3
    replace hw2:=hw2.trans h4
    clear hle hsu hsl
    simp-implicitDefEqProofs[hg,hw2,h3]
    refine⟨i+1,⟨h1,h2⟩,by omega,aC rfl (by simp[below,ay,w1 (i:=i) (by omega)])⟩
   ·have h3:((left-xs.length-kZ xs i:Nat):Int)-(xs[i].length:Int)<0:=by omega
    have h5:¬szW xs≤left:=by omega
    clear hle hsu hsl
    simp-implicitDefEqProofs[hg,hw2,h3,h5]
  ·simp at h1
   have hta:=BX (xs:=xs) h1
   have h5:szW xs≤left:=by omega
   have h6:((left-xs.length-kZ xs i:Nat):Int)=((left-szW xs:Nat):Int):=by omega
   simp-implicitDefEqProofs[h5,h6]
theorem GY(f:Fd)(hf:f.fit)(left:Nat)(hl:left≤1048576):VF Tryz.prog G jj [.agg (f.cs.map .p),.p (.int .i64 left)] (.p (.int .i64 (bE left (f.sz-1)))):=by
 obtain⟨f1,⟨f2,f3⟩,f4,f5⟩:=hf
 have hec:=f.cs_eq'
 have hsz:f.sz=1+f.name.length+szW f.params+aG f.body:=rfl
 refine AC.go wL ?_
 have hw:IntKind.i64.wrap ((left:Int)-f.name.length)=(left:Int)-f.name.length:=ag (by simp only[BL] at f1;omega) (by omega)
 by_cases h1:f.name.length≤left
 case neg=>
  have h2:(left:Int)-f.name.length<0:=by omega
  rw[bx (by omega)]
  simp-implicitDefEqProofs[lv,hec,hw,h2]
 have h2:¬(left:Int)-f.name.length<0:=by omega
 have e2:(left:Int)-f.name.length=((left-f.name.length:Nat):Int):=by omega
 rw[e2] at h2
 replace hw:=hw.trans e2
 simp-implicitDefEqProofs[lv,hec,hw,h2]
 refine(xv G f.params (left-f.name.length) (by omega) f2 f3).use ?_
 by_cases h3:szW f.params≤left-f.name.length
 case neg=>
  rw[if_neg h3,bx (by omega)]
  simp-implicitDefEqProofs[]
 have n3:¬((left-f.name.length-szW f.params:Nat):Int)<0:=by omega
 rw[if_pos h3]
 simp-implicitDefEqProofs[n3]
 refine(AA G f.body f5 f4 (left-f.name.length-szW f.params) (by omega)).use ?_
 by_cases h4:aG f.body≤left-f.name.length-szW f.params
 case neg=>
  rw[bx h4,bx (by omega)]
  simp-implicitDefEqProofs[]
 have n4:¬((left-f.name.length-szW f.params-aG f.body:Nat):Int)<0:=by omega
 rw[du h4,du (by omega)]
 simp-implicitDefEqProofs[n4]
 omega
def GL(l:List Fd):Prop:=l.length≤BL∧∀f∈l,f.fit
theorem wl(l:List Fd)(hf:GL l)(left:Nat)(hl:left≤1048576):VF Tryz.prog G dR [.agg [.p (fdL l)],.p (.int .i64 left)] (.p (.int .i64 (bE left (bm l)))):=by
 have hS:=Fo G l left hl hf.1 (fun f hm left hl=>GY G f (hf.2 f hm) left hl)
 refine AC.go qA ?_
 simp-implicitDefEqProofs[kg]
 refine hS.use ?_
 by_cases h:bm l≤left
 ·have n:¬((left-bm l:Nat):Int)<0:=by omega
  rw[du h]
  simp-implicitDefEqProofs[n]
 ·rw[bx h]
  simp-implicitDefEqProofs[]
theorem Cl:∀(N:Nat) (e:Ex),e.sz≤N→e.sz≤1048576→VF Tryz.prog G dv [.agg (e.cs.map .p)] (.agg (e.cs.map .p)):=by
 intro N
 induction N with
 |zero=>intro e he;have:=e.sz_pos;omega
 |succ N ih=>
  intro e he hb
  have hec:=e.cs_eq
  have hsz:=e.sz_eq
  have hkl:=bt e.kids
  have hS:=ur G e.kids (by omega) (fun x hx=>ih x (by have:=aW hx;omega) (by have:=aW hx;omega))
  refine AC.go nF ?_
  simp-implicitDefEqProofs[jw,hec]
  refine hS.use ?_
  simp-implicitDefEqProofs[]
theorem AL(l:List Ex)(hb:bK l≤1048576):VF Tryz.prog G bQ [.p (exL l)] (.p (exL l)):=
 ur G l (by have:=bt l;omega) (fun e he=>Cl G e.sz e (Nat.le_refl _) (by have:=aW he;omega))
theorem Dh:∀(N:Nat) (e:Sm),e.sz≤N→e.sz≤1048576→VF Tryz.prog G dr [.agg (e.cs.map .p)] (.agg (e.cs.map .p)):=by
 intro N
 induction N with
 |zero=>intro e he;have:=e.sz_pos;omega
 |succ N ih=>
  intro e he hb
  have hec:=e.cs_eq
  have hsz:=e.sz_eq
  have h1:=br e.body
  have h2:=br e.els
  have hB:=qm G e.body (by omega) (fun x hx=>ih x (by have:=aV hx;omega) (by have:=aV hx;omega))
  have hE:=qm G e.els (by omega) (fun x hx=>ih x (by have:=aV hx;omega) (by have:=aV hx;omega))
  refine AC.go no ?_
  simp-implicitDefEqProofs[jz,hec]
  refine(AL G e.args (by omega)).use ?_
  simp-implicitDefEqProofs[]
  refine hB.use ?_
  simp-implicitDefEqProofs[]
  refine hE.use ?_
  simp-implicitDefEqProofs[]
theorem Bc(l:List Sm)(hb:aG l≤1048576):VF Tryz.prog G bu [.p (smL l)] (.p (smL l)):=
 qm G l (by have:=br l;omega) (fun e he=>Dh G e.sz e (Nat.le_refl _) (by have:=aV he;omega))
def jM(l:List (List UInt8))(i:Nat):List (List UInt8):=l.take i++List.replicate (l.length-i) []
theorem Bl{l:List (List UInt8)}{i:Nat}(h:i<l.length):(jM l i).set i l[i]=jM l (i+1):=by
 have hl:(l.take i).length=i:=by simp;omega
 have e:l.length-i=(l.length-(i+1))+1:=by omega
 show(l.take i++List.replicate (l.length-i) []).set i l[i]=l.take (i+1)++List.replicate (l.length-(i+1)) []
 rw[List.set_append_right _ _ (by omega),hl,Nat.sub_self,e,List.replicate_succ,List.set_cons_zero,al h,List.append_assoc]
 rfl
theorem Bf{l:List (List UInt8)}{i:Nat}(h:i<l.length):(jM l i)[i]?=some []:=by
 have hl:(l.take i).length=i:=by simp;omega
 rw[jM,List.getElem?_append_right (by omega),hl,Nat.sub_self,List.getElem?_replicate,if_pos (by omega)]
theorem Bo{l:List (List UInt8)}{i:Nat}(h:i≤l.length):(jM l i).length=l.length:=by simp[jM];omega
theorem qU(l:List (List UInt8))(hb:l.length≤1048576):AC Tryz.prog G cP [.p (ay l)] [] fun x h=>x= .ret (.sl 0 1 0 l.length)∧h=[mT l]:=by
 refine AC.go pK ?_
 have hbl:ay l= .lst 1 (l.map fun n=>[.str n]):=rfl
 simp-implicitDefEqProofs[jZ,hbl]
 refine⟨by omega,?_⟩
 refine az (fun i:Nat=>aj 22 [(0,.p (ay l)),(3,.sl 0 1 0 l.length),(4,.p (.int .i64 i))]) (fun i=>[mT (jM l i)]) (fun i=>i≤l.length) (fun i=>l.length-i) 0 (by simp) ?_ ?_
 ·refine eC [0] rfl (by simp) (bH (by simp[jM]) (by simp) cQ) ?_
  simp[below,ren,ay]
 ·intro i hi
  have hlen:=Bo hi
  simp-implicitDefEqProofs[hbl]
  refine bh (fun h1=>?_) (fun h1=>?_)
  ·simp at h1
   have hg:=List.getElem?_eq_getElem h1
   have hg2:=Bf h1
   have hset:((jM l i).map fun n=>[AV.p (.str n)]).set i [.p (.str l[i])]=(jM l (i+1)).map fun n=>[AV.p (.str n)]:=by rw[←Bl h1,List.map_set]
   have hbo:mT (jM l i)= .row 1 ((jM l i).map fun n=>[.p (.str n)]):=rfl
   clear hlen
   simp-implicitDefEqProofs[hg,hbo,hg2,h1,hset]
   refine⟨i+1,h1,by omega,eC [0] rfl (by simp) (bH rfl (by simp) cQ) ?_⟩
   simp[below,ren,ay,w1 (i:=i) (by omega)]
  ·simp at h1
   have:i=l.length:=by omega
   subst this
   simp-implicitDefEqProofs[jM]
theorem wv(l:List (List UInt8))(hb:l.length≤1048576):VF Tryz.prog G cP [.p (ay l)] (.p (ay l)):=AC.freeze (qU G l hb) (.one (uD rfl) .nil)
theorem Ho(f:Fd)(hb:f.sz≤1048576):VF Tryz.prog G fg [.agg (f.cs.map .p)] (.agg (f.cs.map .p)):=by
 have hec:=f.cs_eq'
 have hsz:f.sz=1+f.name.length+szW f.params+aG f.body:=rfl
 have hw:szW f.params=f.params.length+(f.params.map List.length).sum:=rfl
 refine AC.go qC ?_
 simp-implicitDefEqProofs[lr,hec]
 refine(wv G f.params (by omega)).use ?_
 simp-implicitDefEqProofs[]
 refine(Bc G f.body (by omega)).use ?_
 simp-implicitDefEqProofs[]
theorem xx(l:List Fd)(hb:bm l≤1048576):VF Tryz.prog G bI [.agg [.p (fdL l)]] (.agg [.p (fdL l)]):=by
 have hS:=EX G l (by have:=cK l;omega) (fun f hm=>Ho G f (by have:=dk hm;omega))
 refine AC.go jP ?_
 simp-implicitDefEqProofs[fR]
 refine hS.use ?_
 simp-implicitDefEqProofs[]
theorem CB:∀(N:Nat) (e:Ex),e.sz≤N→e.sz≤1048576→VF Tryz.prog G gn [.agg (e.cs.map .p),.agg (e.cs.map .p)] (.p (.bool true)):=by
 intro N
 induction N with
 |zero=>intro e he;have:=e.sz_pos;omega
 |succ N ih=>
  intro e he hb
  have hec:=e.cs_eq
  have hsz:=e.sz_eq
  have hkl:=bt e.kids
  have hS:=uB G e.kids (by omega) (fun x hx=>ih x (by have:=aW hx;omega) (by have:=aW hx;omega))
  refine AC.go tN ?_
  simp-implicitDefEqProofs[nv,hec]
  refine hS.use ?_
  simp-implicitDefEqProofs[]
theorem Bj(l:List Ex)(hb:bK l≤1048576):VF Tryz.prog G dF [.p (exL l),.p (exL l)] (.p (.bool true)):=
 uB G l (by have:=bt l;omega) (fun e he=>CB G e.sz e (Nat.le_refl _) (by have:=aW he;omega))
theorem Cq:∀(N:Nat) (e:Sm),e.sz≤N→e.sz≤1048576→VF Tryz.prog G gh [.agg (e.cs.map .p),.agg (e.cs.map .p)] (.p (.bool true)):=by
 intro N
 induction N with
 |zero=>intro e he;have:=e.sz_pos;omega
 |succ N ih=>
  intro e he hb
  have hec:=e.cs_eq
  have hsz:=e.sz_eq
  have h1:=br e.body
  have h2:=br e.els
  have hB:=qp G e.body (by omega) (fun x hx=>ih x (by have:=aV hx;omega) (by have:=aV hx;omega))
  have hE:=qp G e.els (by omega) (fun x hx=>ih x (by have:=aV hx;omega) (by have:=aV hx;omega))
  refine AC.go tE ?_
  simp-implicitDefEqProofs[nH,hec]
  refine(Bj G e.args (by omega)).use ?_
  simp-implicitDefEqProofs[]
  refine hB.use ?_
  simp-implicitDefEqProofs[]
  refine hE.use ?_
  simp-implicitDefEqProofs[]
theorem BB(l:List Sm)(hb:aG l≤1048576):VF Tryz.prog G cR [.p (smL l),.p (smL l)] (.p (.bool true)):=
 qp G l (by have:=br l;omega) (fun e he=>Cq G e.sz e (Nat.le_refl _) (by have:=aV he;omega))
theorem wH(xs:List (List UInt8))(hb:xs.length≤1048576):VF Tryz.prog G fM [.p (ay xs),.p (ay xs)] (.p (.bool true)):=by
 refine AC.go qg ?_
 have hsl:ay xs= .lst 1 (xs.map fun w=>[.str w]):=rfl
 simp-implicitDefEqProofs[kh,hsl]
 refine az (fun i:Nat=>aj 26 [(0,.p (ay xs)),(1,.p (ay xs)),(5,.p (.int .i64 i))]) (fun _=>[]) (fun i=>i≤xs.length) (fun i=>xs.length-i) 0 (by simp) (aC rfl (by simp[below,hsl])) ?_
 intro i hi
 simp-implicitDefEqProofs[hsl]
 refine bh (fun h1=>?_) (fun h1=>?_)
 ·simp at h1
  have hx:=List.getElem?_eq_getElem h1
  generalize xs[i]=v at hx
  simp-implicitDefEqProofs[hx]
  exact⟨i+1,h1,by omega,aC rfl (by simp[below,hsl,w1 (i:=i) (by omega)])⟩
 ·simp at h1
  simp-implicitDefEqProofs[]
theorem Gr(f:Fd)(hb:f.sz≤1048576):VF Tryz.prog G jl [.agg (f.cs.map .p),.agg (f.cs.map .p)] (.p (.bool true)):=by
 have hec:=f.cs_eq'
 have hsz:f.sz=1+f.name.length+szW f.params+aG f.body:=rfl
 have hw:szW f.params=f.params.length+(f.params.map List.length).sum:=rfl
 refine AC.go xf ?_
 simp-implicitDefEqProofs[qJ,hec]
 refine(wH G f.params (by omega)).use ?_
 simp-implicitDefEqProofs[]
 refine(BB G f.body (by omega)).use ?_
 simp-implicitDefEqProofs[]
theorem qQ(l:List Fd)(hb:bm l≤1048576):VF Tryz.prog G cg [.agg [.p (fdL l)],.agg [.p (fdL l)]] (.p (.bool true)):=by
 have hS:=Ft G l (by have:=cK l;omega) (fun f hm=>Gr G f (by have:=dk hm;omega))
 refine AC.go qt ?_
 simp-implicitDefEqProofs[jN]
 refine hS.use ?_
 simp-implicitDefEqProofs[]
end Go.Proofs.YtnjbhgpbgmpkcaaGreatDoor
namespace Go.Proofs.YtnjbhgpbgmpkcaaGreatDoor
open Go Go.Aw Go.ChangeShapes Go.WideShapes Go.ChangeAt Go.RowKit
set_option maxRecDepth 100000
abbrev DA:TypeId:=24
abbrev FS:TypeId:=22
abbrev EJ:TypeId:=111
abbrev yp:TypeId:=54
abbrev uA:TypeId:=9
abbrev pg:TypeId:=109
abbrev iH:TypeId:=185
abbrev rx:TypeId:=183
abbrev mf:TypeId:=225
abbrev wY:TypeId:=3
abbrev GA:TypeId:=4
abbrev xO:TypeId:=177
abbrev BE:TypeId:=232
abbrev EV:TypeId:=233
theorem IR:Kids Tryz.prog (· <Tryz.prog.types.size):=kids_rows (by kernel_rfl) (by kernel_rfl)
theorem IK:∀t e,t<Tryz.prog.types.size→Tryz.prog.underlying t=some (.slice e)→0<Tryz.prog.cellsOf e:=slices_full_of Tryz.prog (by kernel_rfl)
def BI:List TypeId:=[DA,FS,EJ,yp,uA,pg,iH,rx,mf,wY,GA,xO,BE]
theorem yh:Plain Tryz.prog BI=true:=by kernel_rfl
theorem KO:ownKnob Tryz.prog.godebug=none:=by kernel_rfl
theorem rS{H:Type}:∀l:List (DataW H),Rows.uptoBulkAll l=(l.map Rows.uptoBulk).sum
 |[]=>by simp[Rows.uptoBulkAll]
 |d::r=>by simp[Rows.uptoBulkAll,rS r]
theorem Fs{H:Type}:BulkOk (Rows.uptoBulk (H:=H)) where
 lit:=fun l=>by cases l<;>simp[Rows.uptoBulk]
 str:=fun s=>by simp[Rows.uptoBulk]
 nil:=by simp[Rows.uptoBulk]
 slice:=fun es sp=>by simp only[Rows.uptoBulk,rS];omega
 agg:=fun ps=>by simp only[Rows.uptoBulk,rS];omega
theorem iw{t e:TypeId}{vs:List PV}(h:Conf Tryz.prog t vs)(hu:Tryz.prog.underlying t=some (.slice e)):∃es,vs=[.lst (Tryz.prog.cellsOf e) es]∧es.length≤9223372036854775807∧∀x∈es,Conf Tryz.prog e x:=by
 cases h with
 |sl es e' hl hs=>rw[hu] at e';cases e';exact⟨es,rfl,hl,hs⟩
 |bool b e=>rw[e] at hu;cases hu
 |int n e=>rw[e] at hu;cases hu
 |str s e=>rw[e] at hu;cases hu
 |st vs e=>rw[e] at hu;cases hu
 |arr vs e=>rw[e] at hu;cases hu
theorem Bz{vs:List PV}(h:Conf Tryz.prog yp vs):∃l:List (List UInt8),vs=[ay l]∧l.length≤9223372036854775807∧∀x∈l,x.length≤9223372036854775807:=by
 obtain⟨es,rfl,hl,h4⟩:=iw h (e:=uA) (by kernel_rfl)
 have hk:∀x∈es,∃s:List UInt8,x=[PV.str s]∧s.length≤maxLen:=fun x hx=>pa (h4 x hx) (by kernel_rfl)
 obtain⟨l,rfl⟩:=zX (fun s:List UInt8=>[PV.str s]) (fun x hx=>by obtain⟨n,e,_⟩:=hk x hx;exact⟨n,e⟩)
 rw[show Tryz.prog.cellsOf uA=1 by kernel_rfl]
 refine⟨l,rfl,by rwa[List.length_map] at hl,fun s hs=>?_⟩
 obtain⟨m,e,hw⟩:=hk [PV.str s] (List.mem_map.2 ⟨s,hs,rfl⟩)
 cases e
 exact hw
theorem iv{α β:Type}(g:β→α)(p:β→Prop):∀{es:List α},(∀x∈es,∃m,x=g m∧p m)→∃ms:List β,es=ms.map g∧∀m∈ms,p m
 |[],_=>⟨[],rfl,fun m hm=>by cases hm⟩
 |e::r,h=>by
  obtain⟨m,hm,hp⟩:=h e (by simp)
  obtain⟨ms,hms,hps⟩:=iv g p (es:=r) fun x hx=>h x (by simp[hx])
  exact⟨m::ms,by simp[hm,hms],fun x hx=>by
   rcases List.mem_cons.1 hx with rfl|hx
   ·exact hp
   ·exact hps x hx⟩
theorem qv:∀{l:List Ex},(∀e∈l,e.fit)→kA l
 |[],_=>trivial
 |e::r,h=>⟨h e (by simp),qv fun x hx=>h x (by simp[hx])⟩
theorem mD:∀{l:List Sm},(∀e∈l,e.fit)→iX l
 |[],_=>trivial
 |e::r,h=>⟨h e (by simp),mD fun x hx=>h x (by simp[hx])⟩
theorem tp{x:List PV}{es:List (List PV)}(h:x∈es)(sz:Nat):SizeOf.sizeOf x<SizeOf.sizeOf [PV.lst sz es]:=by
 have:=List.sizeOf_lt_of_mem h
 simp
 omega
theorem Fm:∀(n:Nat) (vs:List PV),SizeOf.sizeOf vs<n→Conf Tryz.prog mf vs→∃e:Ex,vs=e.cs∧e.fit:=by
 intro n
 induction n with
 |zero=>intro vs h;omega
 |succ n ih=>
  intro vs hn h
  have h:=rt (ts:=[wY,wY,uA,rx]) h (by kernel_rfl)
  obtain⟨a,r,rfl,h1,h⟩:=bJ h
  obtain⟨b,r,rfl,h2,h⟩:=bJ h
  obtain⟨c,r,rfl,h3,h⟩:=bJ h
  obtain⟨d,r,rfl,h4,h⟩:=bJ h
  cases mu h
  obtain⟨n1,rfl,_⟩:=sU h1 (k:= .i64) (by kernel_rfl)
  obtain⟨n2,rfl,_⟩:=sU h2 (k:= .i64) (by kernel_rfl)
  obtain⟨s,rfl,l3⟩:=pa h3 (by kernel_rfl)
  obtain⟨es,rfl,l4,h5⟩:=iw h4 (e:=mf) (by kernel_rfl)
  have hs1:SizeOf.sizeOf [PV.lst (Tryz.prog.cellsOf mf) es]<n+1:=by simp at hn⊢;omega
  obtain⟨l,rfl,hl⟩:=iv Ex.cs Ex.fit (fun x hx=>ih x (by have:=tp hx (Tryz.prog.cellsOf mf);omega) (h5 x hx))
  refine⟨⟨n1,n2,s,l⟩,?_,?_⟩
  ·rw[show Tryz.prog.cellsOf mf=4 by kernel_rfl,Ex.cs_eq];rfl
  ·exact⟨l3,by rwa[List.length_map] at l4,qv hl⟩
theorem DH{vs:List PV}(h:Conf Tryz.prog rx vs):∃l:List Ex,vs=[exL l]∧l.length≤BL∧kA l:=by
 obtain⟨es,rfl,l4,h5⟩:=iw h (e:=mf) (by kernel_rfl)
 obtain⟨l,rfl,hl⟩:=iv Ex.cs Ex.fit (fun x hx=>Fm _ x (Nat.lt_succ_self _) (h5 x hx))
 rw[show Tryz.prog.cellsOf mf=4 by kernel_rfl]
 exact⟨l,rfl,by rwa[List.length_map] at l4,qv hl⟩
theorem Es:∀(n:Nat) (vs:List PV),SizeOf.sizeOf vs<n→Conf Tryz.prog iH vs→∃e:Sm,vs=e.cs∧e.fit:=by
 intro n
 induction n with
 |zero=>intro vs h;omega
 |succ n ih=>
  intro vs hn h
  have h:=rt (ts:=[wY,uA,rx,pg,pg]) h (by kernel_rfl)
  obtain⟨a,r,rfl,h1,h⟩:=bJ h
  obtain⟨b,r,rfl,h2,h⟩:=bJ h
  obtain⟨c,r,rfl,h3,h⟩:=bJ h
  obtain⟨d,r,rfl,h4,h⟩:=bJ h
  obtain⟨d',r,rfl,h4',h⟩:=bJ h
  cases mu h
  obtain⟨n1,rfl,_⟩:=sU h1 (k:= .i64) (by kernel_rfl)
  obtain⟨s,rfl,l3⟩:=pa h2 (by kernel_rfl)
  obtain⟨ar,rfl,la,fa⟩:=DH h3
  obtain⟨es,rfl,l4,h5⟩:=iw h4 (e:=iH) (by kernel_rfl)
  obtain⟨es',rfl,l4',h5'⟩:=iw h4' (e:=iH) (by kernel_rfl)
  have hs1:SizeOf.sizeOf [PV.lst (Tryz.prog.cellsOf iH) es]<n+1:=by simp at hn⊢;omega
  have hs2:SizeOf.sizeOf [PV.lst (Tryz.prog.cellsOf iH) es']<n+1:=by simp at hn⊢;omega
  obtain⟨l,rfl,hl⟩:=iv Sm.cs Sm.fit (fun x hx=>ih x (by have:=tp hx (Tryz.prog.cellsOf iH);omega) (h5 x hx))
  obtain⟨l',rfl,hl'⟩:=iv Sm.cs Sm.fit (fun x hx=>ih x (by have:=tp hx (Tryz.prog.cellsOf iH);omega) (h5' x hx))
  refine⟨⟨n1,s,ar,l,l'⟩,?_,?_⟩
  ·rw[show Tryz.prog.cellsOf iH=5 by kernel_rfl,Sm.cs_eq];rfl
  ·exact⟨l3,⟨la,fa⟩,⟨by rwa[List.length_map] at l4,mD hl⟩,⟨by rwa[List.length_map] at l4',mD hl'⟩⟩
theorem CW{vs:List PV}(h:Conf Tryz.prog pg vs):∃l:List Sm,vs=[smL l]∧l.length≤BL∧iX l:=by
 obtain⟨es,rfl,l4,h5⟩:=iw h (e:=iH) (by kernel_rfl)
 obtain⟨l,rfl,hl⟩:=iv Sm.cs Sm.fit (fun x hx=>Es _ x (Nat.lt_succ_self _) (h5 x hx))
 rw[show Tryz.prog.cellsOf iH=5 by kernel_rfl]
 exact⟨l,rfl,by rwa[List.length_map] at l4,mD hl⟩
theorem EO{vs:List PV}(h:Conf Tryz.prog EJ vs):∃f:Fd,vs=f.cs∧f.fit:=by
 have h:=rt (ts:=[uA,yp,pg]) h (by kernel_rfl)
 obtain⟨a,r,rfl,h1,h⟩:=bJ h
 obtain⟨b,r,rfl,h2,h⟩:=bJ h
 obtain⟨c,r,rfl,h3,h⟩:=bJ h
 cases mu h
 obtain⟨s,rfl,l1⟩:=pa h1 (by kernel_rfl)
 obtain⟨ws,rfl,l2,w2⟩:=Bz h2
 obtain⟨bd,rfl,l3,f3⟩:=CW h3
 exact⟨⟨s,ws,bd⟩,rfl,l1,⟨l2,w2⟩,l3,f3⟩
theorem Ax{vs:List PV}(h:Conf Tryz.prog DA vs):∃l:List Fd,vs=[fdL l]∧GL l:=by
 have h:=rt (ts:=[FS]) h (by kernel_rfl)
 obtain⟨a,r,rfl,h1,h⟩:=bJ h
 cases mu h
 obtain⟨es,rfl,l4,h5⟩:=iw h1 (e:=EJ) (by kernel_rfl)
 obtain⟨l,rfl,hl⟩:=iv Fd.cs Fd.fit (fun x hx=>EO (h5 x hx))
 rw[show Tryz.prog.cellsOf EJ=3 by kernel_rfl]
 exact⟨l,rfl,by rwa[List.length_map] at l4,hl⟩
def G0:aA:=fun g=>if g=fS then some fq else if g=dj then some [.tbl opK opV] else none
theorem Hh:∀k,fQ Tryz.prog (k+10) xO (Rows.laid_loop_example_wholeway_impl_keys (H:=Unit))=fq:=fun k=>by kernel_rfl
theorem Ko{W:World}{laid:List (String × DataW Unit)}(hL:laidMet Tryz.prog laid W)(h1:("loop.example/wholeway/impl.keys",Rows.laid_loop_example_wholeway_impl_keys)∈laid)(h2:("loop.example/wholeway/impl.opSign",Rows.laid_loop_example_wholeway_impl_opSign)∈laid):
 ∀g cs,G0 g=some cs→g<W.heap.size∧∀(j:Nat) (c:PV),cs[j]?=some c→∃v,W.cell? ⟨g,j,none⟩=some v∧PRel W (· <W.heap.size) c v:=by
 intro g cs h
 unfold G0 at h
 split at h
 ·rename_i e;subst e;cases h
  exact AT yh hL (n:= "loop.example/wholeway/impl.keys") (d:=Rows.laid_loop_example_wholeway_impl_keys) (t:=xO) h1 (by kernel_rfl) (by kernel_rfl) (by decide) Hh
 ·split at h
  ·rename_i e;subst e;cases h
   exact Dk yh hL (n:= "loop.example/wholeway/impl.opSign") h2 (t:=EV) (k:=wY) (e:=BE) (by kernel_rfl) (by kernel_rfl) (by kernel_rfl) (.inl ⟨.i64,by kernel_rfl⟩) (by decide) (by kernel_rfl) (by kernel_rfl) (fun m=>by kernel_rfl)
  ·cases h
end Go.Proofs.YtnjbhgpbgmpkcaaGreatDoor
namespace Go.Proofs.YtnjbhgpbgmpkcaaGreatDoor
open Go Go.Aw
set_option maxRecDepth 100000
abbrev aL:FuncId:=92
abbrev dc:FuncId:=93
abbrev dY:FuncId:=142
abbrev cS:FuncId:=94
abbrev iR:FuncId:=51
abbrev db:FuncId:=18
abbrev eV:FuncId:=115
abbrev dU:FuncId:=151
abbrev cJ:FuncId:=116
abbrev iY:FuncId:=71
abbrev dg:FuncId:=27
abbrev dB:FuncId:=6
def gO:FK:=⟨20,[.t 2],
 .seq (.reg [oJ 2 (.mov (.c (.p (.str []))))])
 (.seq (.seq (.reg [oM 4 0,
   oJ 5 (.bin .leq (.t 4) (.c (.p (.int .i64 0))))])
 (.cond (.t 5)
  (.seq (.reg [oJ 2 (.mov (.c (.p (.str [109,48]))))])
  (.ret))
  (.skip)))
 (.seq (.reg [oJ 3 (.mov (.c (.p (.str []))))])
 (.seq (.blk 0 (.loop (.seq (.seq (.reg [oM 6 0,
   oJ 7 (.bin .gtr (.t 6) (.c (.p (.int .i64 0))))])
 (.cond (.t 7)
  (.skip)
  (.exit 0)))
 (.blk 1 (.seq (.reg [oM 8 0,
   oJ 9 (.bin .rem (.t 8) (.c (.p (.int .i64 10)))),
   oJ 10 (.bin .add (.c (.p (.int .i64 48))) (.t 9)),
   oJ 11 (.conv .u8 (.t 10)),
   oJ 12 (.bsl 1 [(.p (.int .u8 0))] 1 [(0,1,(.t 11))]),
   oJ 13 (.btos (.t 12)),
   oM 14 3,
   oJ 15 (.bins .add (.t 13) (.t 14)),
   oM 3 15])
 (.reg [oM 16 0,
   oJ 17 (.bin .quo (.t 16) (.c (.p (.int .i64 10)))),
   oM 0 17]))))))
 (.seq (.reg [oM 18 3,
   oJ 19 (.bins .add (.c (.p (.str [109]))) (.t 18)),
   oM 2 19])
 (.ret)))))⟩
theorem rd:af Tryz.prog aL=some gO:=by kernel_rfl
def dd:FK:=⟨20,[.t 4],
 .seq (.reg [oK 4 0])
 (.seq (.seq (.reg [oK 5 0])
 (.blk 0 (.loop (.seq (.seq (.reg [oM 6 5,
   oM 7 0,
   oJ 8 (.len false (.t 7)),
   oJ 9 (.bin .lss (.t 6) (.t 8))])
 (.cond (.t 9)
  (.skip)
  (.exit 0)))
 (.seq (.blk 1 (.seq (.reg [oM 12 0,
   oM 13 5,
   oM 14 1,
   oJ 15 (.call aL [(.t 14)]),
   oJ 16 (.idxS 1 (.t 12) (.t 13)),
   oS 16 15])
 (.reg [oM 17 1,
   oJ 18 (.bin .add (.t 17) (.c (.p (.int .i64 1)))),
   oM 1 18])))
 (.reg [oM 10 5,
   oJ 11 (.bin .add (.t 10) (.c (.p (.int .i64 1)))),
   oM 5 11]))))))
 (.seq (.reg [oM 19 1,
   oM 4 19])
 (.ret)))⟩
theorem da:af Tryz.prog dc=some dd:=by kernel_rfl
def dW:FK:=⟨42,[.t 4],
 .seq (.reg [oK 4 0])
 (.seq (.seq (.reg [oK 5 0])
 (.blk 0 (.loop (.seq (.seq (.reg [oM 6 5,
   oM 7 0,
   oJ 8 (.len false (.t 7)),
   oJ 9 (.bin .lss (.t 6) (.t 8))])
 (.cond (.t 9)
  (.skip)
  (.exit 0)))
 (.seq (.blk 1 (.seq (.reg [oM 12 0,
   oM 13 5,
   oM 14 1,
   oJ 15 (.idxS 4 (.t 12) (.t 13)),
   oF 16 0 15,
   oS 16 14])
 (.seq (.reg [oM 17 1,
   oJ 18 (.bin .add (.t 17) (.c (.p (.int .i64 1)))),
   oM 1 18])
 (.seq (.reg [oM 19 0,
   oM 20 5,
   oM 21 1,
   oJ 22 (.idxS 4 (.t 19) (.t 20)),
   oF 23 1 22,
   oS 23 21])
 (.seq (.reg [oM 24 1,
   oJ 25 (.bin .add (.t 24) (.c (.p (.int .i64 1)))),
   oM 1 25])
 (.seq (.reg [oM 26 0,
   oM 27 5,
   oM 28 1,
   oJ 29 (.call aL [(.t 28)]),
   oJ 30 (.idxS 4 (.t 26) (.t 27)),
   oF 31 2 30,
   oS 31 29])
 (.seq (.reg [oM 32 1,
   oJ 33 (.bin .add (.t 32) (.c (.p (.int .i64 1)))),
   oM 1 33])
 (.reg [oM 34 0,
   oM 35 5,
   oJ 36 (.idxS 4 (.t 34) (.t 35)),
   oF 37 3 36,
   oL 38 37,
   oM 39 1,
   oJ 40 (.call dY [(.t 38),(.t 39)]),
   oM 1 40]))))))))
 (.reg [oM 10 5,
   oJ 11 (.bin .add (.t 10) (.c (.p (.int .i64 1)))),
   oM 5 11]))))))
 (.seq (.reg [oM 41 1,
   oM 4 41])
 (.ret)))⟩
theorem fO:af Tryz.prog dY=some dW:=by kernel_rfl
def dX:FK:=⟨49,[.t 4],
 .seq (.reg [oK 4 0])
 (.seq (.seq (.reg [oK 5 0])
 (.blk 0 (.loop (.seq (.seq (.reg [oM 6 5,
   oM 7 0,
   oJ 8 (.len false (.t 7)),
   oJ 9 (.bin .lss (.t 6) (.t 8))])
 (.cond (.t 9)
  (.skip)
  (.exit 0)))
 (.seq (.blk 1 (.seq (.reg [oM 12 0,
   oM 13 5,
   oM 14 1,
   oJ 15 (.idxS 5 (.t 12) (.t 13)),
   oF 16 0 15,
   oS 16 14])
 (.seq (.reg [oM 17 1,
   oJ 18 (.bin .add (.t 17) (.c (.p (.int .i64 1)))),
   oM 1 18])
 (.seq (.reg [oM 19 0,
   oM 20 5,
   oM 21 1,
   oJ 22 (.call aL [(.t 21)]),
   oJ 23 (.idxS 5 (.t 19) (.t 20)),
   oF 24 1 23,
   oS 24 22])
 (.seq (.reg [oM 25 1,
   oJ 26 (.bin .add (.t 25) (.c (.p (.int .i64 1)))),
   oM 1 26])
 (.seq (.reg [oM 27 0,
   oM 28 5,
   oJ 29 (.idxS 5 (.t 27) (.t 28)),
   oF 30 2 29,
   oL 31 30,
   oM 32 1,
   oJ 33 (.call dY [(.t 31),(.t 32)]),
   oM 1 33])
 (.seq (.reg [oM 34 0,
   oM 35 5,
   oJ 36 (.idxS 5 (.t 34) (.t 35)),
   oF 37 3 36,
   oL 38 37,
   oM 39 1,
   oJ 40 (.call cS [(.t 38),(.t 39)]),
   oM 1 40])
 (.reg [oM 41 0,
   oM 42 5,
   oJ 43 (.idxS 5 (.t 41) (.t 42)),
   oF 44 4 43,
   oL 45 44,
   oM 46 1,
   oJ 47 (.call cS [(.t 45),(.t 46)]),
   oM 1 47]))))))))
 (.reg [oM 10 5,
   oJ 11 (.bin .add (.t 10) (.c (.p (.int .i64 1)))),
   oM 5 11]))))))
 (.seq (.reg [oM 48 1,
   oM 4 48])
 (.ret)))⟩
theorem fY:af Tryz.prog cS=some dX:=by kernel_rfl
def fA:FK:=⟨35,[.t 4],
 .seq (.reg [oK 4 0])
 (.seq (.seq (.reg [oK 5 0])
 (.blk 0 (.loop (.seq (.seq (.reg [oM 6 5,
   oM 7 0,
   oJ 8 (.len false (.t 7)),
   oJ 9 (.bin .lss (.t 6) (.t 8))])
 (.cond (.t 9)
  (.skip)
  (.exit 0)))
 (.seq (.blk 1 (.seq (.reg [oM 12 0,
   oM 13 5,
   oM 14 1,
   oJ 15 (.call aL [(.t 14)]),
   oJ 16 (.idxS 3 (.t 12) (.t 13)),
   oF 17 0 16,
   oS 17 15])
 (.seq (.reg [oM 18 1,
   oJ 19 (.bin .add (.t 18) (.c (.p (.int .i64 1)))),
   oM 1 19])
 (.seq (.reg [oM 20 0,
   oM 21 5,
   oJ 22 (.idxS 3 (.t 20) (.t 21)),
   oF 23 1 22,
   oL 24 23,
   oM 25 1,
   oJ 26 (.call dc [(.t 24),(.t 25)]),
   oM 1 26])
 (.reg [oM 27 0,
   oM 28 5,
   oJ 29 (.idxS 3 (.t 27) (.t 28)),
   oF 30 2 29,
   oL 31 30,
   oM 32 1,
   oJ 33 (.call cS [(.t 31),(.t 32)]),
   oM 1 33])))))
 (.reg [oM 10 5,
   oJ 11 (.bin .add (.t 10) (.c (.p (.int .i64 1)))),
   oM 5 11]))))))
 (.seq (.reg [oM 34 1,
   oM 4 34])
 (.ret)))⟩
theorem iK:af Tryz.prog iR=some fA:=by kernel_rfl
def ir:FK:=⟨10,[.t 4],
 .seq (.reg [oJ 2 (.box 1 (.t 0)),
  oK 4 0])
 (.seq (.reg [oF 5 0 2,
   oL 6 5,
   oM 7 1,
   oJ 8 (.call iR [(.t 6),(.t 7)]),
   oM 1 8])
 (.seq (.reg [oM 9 1,
   oM 4 9])
 (.ret)))⟩
theorem nL:af Tryz.prog db=some ir:=by kernel_rfl
def iE:FK:=⟨22,[.t 4],
 .seq (.reg [oK 4 0])
 (.seq (.seq (.reg [oK 5 0])
 (.blk 0 (.loop (.seq (.seq (.reg [oM 6 5,
   oM 7 0,
   oJ 8 (.len false (.t 7)),
   oJ 9 (.bin .lss (.t 6) (.t 8))])
 (.cond (.t 9)
  (.skip)
  (.exit 0)))
 (.seq (.blk 1 (.seq (.seq (.reg [oM 12 0,
   oM 13 5,
   oJ 14 (.idxS 1 (.t 12) (.t 13)),
   oM 16 1,
   oL 15 14,
   oJ 17 (.call aL [(.t 16)]),
   ⟨none,none,.chk none 14 15⟩,
   oJ 18 (.bins .neq (.t 15) (.t 17))])
 (.cond (.t 18)
  (.seq (.reg [oJ 4 (.mov (.c (.p (.int .i64 (-1)))))])
  (.ret))
  (.skip)))
 (.reg [oM 19 1,
   oJ 20 (.bin .add (.t 19) (.c (.p (.int .i64 1)))),
   oM 1 20])))
 (.reg [oM 10 5,
   oJ 11 (.bin .add (.t 10) (.c (.p (.int .i64 1)))),
   oM 5 11]))))))
 (.seq (.reg [oM 21 1,
   oM 4 21])
 (.ret)))⟩
theorem nO:af Tryz.prog eV=some iE:=by kernel_rfl
def jV:FK:=⟨50,[.t 4],
 .seq (.reg [oK 4 0])
 (.seq (.seq (.reg [oK 5 0])
 (.blk 0 (.loop (.seq (.seq (.reg [oM 6 5,
   oM 7 0,
   oJ 8 (.len false (.t 7)),
   oJ 9 (.bin .lss (.t 6) (.t 8))])
 (.cond (.t 9)
  (.skip)
  (.exit 0)))
 (.seq (.blk 1 (.seq (.seq (.reg [oM 12 0,
   oM 13 5,
   oJ 14 (.idxS 4 (.t 12) (.t 13)),
   oF 15 0 14,
   oL 16 15,
   oM 17 1,
   oJ 18 (.bin .neq (.t 16) (.t 17))])
 (.cond (.t 18)
  (.seq (.reg [oJ 4 (.mov (.c (.p (.int .i64 (-1)))))])
  (.ret))
  (.skip)))
 (.seq (.reg [oM 19 1,
   oJ 20 (.bin .add (.t 19) (.c (.p (.int .i64 1)))),
   oM 1 20])
 (.seq (.seq (.reg [oM 21 0,
   oM 22 5,
   oJ 23 (.idxS 4 (.t 21) (.t 22)),
   oF 24 1 23,
   oL 25 24,
   oM 26 1,
   oJ 27 (.bin .neq (.t 25) (.t 26))])
 (.cond (.t 27)
  (.seq (.reg [oJ 4 (.mov (.c (.p (.int .i64 (-1)))))])
  (.ret))
  (.skip)))
 (.seq (.reg [oM 28 1,
   oJ 29 (.bin .add (.t 28) (.c (.p (.int .i64 1)))),
   oM 1 29])
 (.seq (.seq (.reg [oM 30 0,
   oM 31 5,
   oJ 32 (.idxS 4 (.t 30) (.t 31)),
   oF 33 2 32,
   oM 35 1,
   oL 34 33,
   oJ 36 (.call aL [(.t 35)]),
   ⟨none,none,.chk none 33 34⟩,
   oJ 37 (.bins .neq (.t 34) (.t 36))])
 (.cond (.t 37)
  (.seq (.reg [oJ 4 (.mov (.c (.p (.int .i64 (-1)))))])
  (.ret))
  (.skip)))
 (.seq (.reg [oM 38 1,
   oJ 39 (.bin .add (.t 38) (.c (.p (.int .i64 1)))),
   oM 1 39])
 (.seq (.reg [oM 40 0,
   oM 41 5,
   oJ 42 (.idxS 4 (.t 40) (.t 41)),
   oF 43 3 42,
   oL 44 43,
   oM 45 1,
   oJ 46 (.call dU [(.t 44),(.t 45)]),
   oM 1 46])
 (.seq (.reg [oM 47 1,
   oJ 48 (.bin .lss (.t 47) (.c (.p (.int .i64 0))))])
 (.cond (.t 48)
  (.seq (.reg [oJ 4 (.mov (.c (.p (.int .i64 (-1)))))])
  (.ret))
  (.skip)))))))))))
 (.reg [oM 10 5,
   oJ 11 (.bin .add (.t 10) (.c (.p (.int .i64 1)))),
   oM 5 11]))))))
 (.seq (.reg [oM 49 1,
   oM 4 49])
 (.ret)))⟩
theorem qy:af Tryz.prog dU=some jV:=by kernel_rfl
def jO:FK:=⟨59,[.t 4],
 .seq (.reg [oK 4 0])
 (.seq (.seq (.reg [oK 5 0])
 (.blk 0 (.loop (.seq (.seq (.reg [oM 6 5,
   oM 7 0,
   oJ 8 (.len false (.t 7)),
   oJ 9 (.bin .lss (.t 6) (.t 8))])
 (.cond (.t 9)
  (.skip)
  (.exit 0)))
 (.seq (.blk 1 (.seq (.seq (.reg [oM 12 0,
   oM 13 5,
   oJ 14 (.idxS 5 (.t 12) (.t 13)),
   oF 15 0 14,
   oL 16 15,
   oM 17 1,
   oJ 18 (.bin .neq (.t 16) (.t 17))])
 (.cond (.t 18)
  (.seq (.reg [oJ 4 (.mov (.c (.p (.int .i64 (-1)))))])
  (.ret))
  (.skip)))
 (.seq (.reg [oM 19 1,
   oJ 20 (.bin .add (.t 19) (.c (.p (.int .i64 1)))),
   oM 1 20])
 (.seq (.seq (.reg [oM 21 0,
   oM 22 5,
   oJ 23 (.idxS 5 (.t 21) (.t 22)),
   oF 24 1 23,
   oM 26 1,
   oL 25 24,
   oJ 27 (.call aL [(.t 26)]),
   ⟨none,none,.chk none 24 25⟩,
   oJ 28 (.bins .neq (.t 25) (.t 27))])
 (.cond (.t 28)
  (.seq (.reg [oJ 4 (.mov (.c (.p (.int .i64 (-1)))))])
  (.ret))
  (.skip)))
 (.seq (.reg [oM 29 1,
   oJ 30 (.bin .add (.t 29) (.c (.p (.int .i64 1)))),
   oM 1 30])
 (.seq (.reg [oM 31 0,
   oM 32 5,
   oJ 33 (.idxS 5 (.t 31) (.t 32)),
   oF 34 2 33,
   oL 35 34,
   oM 36 1,
   oJ 37 (.call dU [(.t 35),(.t 36)]),
   oM 1 37])
 (.seq (.seq (.reg [oM 38 1,
   oJ 39 (.bin .lss (.t 38) (.c (.p (.int .i64 0))))])
 (.cond (.t 39)
  (.seq (.reg [oJ 4 (.mov (.c (.p (.int .i64 (-1)))))])
  (.ret))
  (.skip)))
 (.seq (.reg [oM 40 0,
   oM 41 5,
   oJ 42 (.idxS 5 (.t 40) (.t 41)),
   oF 43 3 42,
   oL 44 43,
   oM 45 1,
   oJ 46 (.call cJ [(.t 44),(.t 45)]),
   oM 1 46])
 (.seq (.seq (.reg [oM 47 1,
   oJ 48 (.bin .lss (.t 47) (.c (.p (.int .i64 0))))])
 (.cond (.t 48)
  (.seq (.reg [oJ 4 (.mov (.c (.p (.int .i64 (-1)))))])
  (.ret))
  (.skip)))
 (.seq (.reg [oM 49 0,
   oM 50 5,
   oJ 51 (.idxS 5 (.t 49) (.t 50)),
   oF 52 4 51,
   oL 53 52,
   oM 54 1,
   oJ 55 (.call cJ [(.t 53),(.t 54)]),
   oM 1 55])
 (.seq (.reg [oM 56 1,
   oJ 57 (.bin .lss (.t 56) (.c (.p (.int .i64 0))))])
 (.cond (.t 57)
  (.seq (.reg [oJ 4 (.mov (.c (.p (.int .i64 (-1)))))])
  (.ret))
  (.skip)))))))))))))
 (.reg [oM 10 5,
   oJ 11 (.bin .add (.t 10) (.c (.p (.int .i64 1)))),
   oM 5 11]))))))
 (.seq (.reg [oM 58 1,
   oM 4 58])
 (.ret)))⟩
theorem pU:af Tryz.prog cJ=some jO:=by kernel_rfl
def mo:FK:=⟨41,[.t 4],
 .seq (.reg [oK 4 0])
 (.seq (.seq (.reg [oK 5 0])
 (.blk 0 (.loop (.seq (.seq (.reg [oM 6 5,
   oM 7 0,
   oJ 8 (.len false (.t 7)),
   oJ 9 (.bin .lss (.t 6) (.t 8))])
 (.cond (.t 9)
  (.skip)
  (.exit 0)))
 (.seq (.blk 1 (.seq (.seq (.reg [oM 12 0,
   oM 13 5,
   oJ 14 (.idxS 3 (.t 12) (.t 13)),
   oF 15 0 14,
   oM 17 1,
   oL 16 15,
   oJ 18 (.call aL [(.t 17)]),
   ⟨none,none,.chk none 15 16⟩,
   oJ 19 (.bins .neq (.t 16) (.t 18))])
 (.cond (.t 19)
  (.seq (.reg [oJ 4 (.mov (.c (.p (.int .i64 (-1)))))])
  (.ret))
  (.skip)))
 (.seq (.reg [oM 20 1,
   oJ 21 (.bin .add (.t 20) (.c (.p (.int .i64 1)))),
   oM 1 21])
 (.seq (.reg [oM 22 0,
   oM 23 5,
   oJ 24 (.idxS 3 (.t 22) (.t 23)),
   oF 25 1 24,
   oL 26 25,
   oM 27 1,
   oJ 28 (.call eV [(.t 26),(.t 27)]),
   oM 1 28])
 (.seq (.seq (.reg [oM 29 1,
   oJ 30 (.bin .lss (.t 29) (.c (.p (.int .i64 0))))])
 (.cond (.t 30)
  (.seq (.reg [oJ 4 (.mov (.c (.p (.int .i64 (-1)))))])
  (.ret))
  (.skip)))
 (.seq (.reg [oM 31 0,
   oM 32 5,
   oJ 33 (.idxS 3 (.t 31) (.t 32)),
   oF 34 2 33,
   oL 35 34,
   oM 36 1,
   oJ 37 (.call cJ [(.t 35),(.t 36)]),
   oM 1 37])
 (.seq (.reg [oM 38 1,
   oJ 39 (.bin .lss (.t 38) (.c (.p (.int .i64 0))))])
 (.cond (.t 39)
  (.seq (.reg [oJ 4 (.mov (.c (.p (.int .i64 (-1)))))])
  (.ret))
  (.skip)))))))))
 (.reg [oM 10 5,
   oJ 11 (.bin .add (.t 10) (.c (.p (.int .i64 1)))),
   oM 5 11]))))))
 (.seq (.reg [oM 40 1,
   oM 4 40])
 (.ret)))⟩
theorem se:af Tryz.prog iY=some mo:=by kernel_rfl
def iT:FK:=⟨12,[.t 4],
 .seq (.reg [oJ 2 (.box 1 (.t 0)),
  oK 4 0])
 (.seq (.reg [oF 5 0 2,
   oL 6 5,
   oM 7 1,
   oJ 8 (.call iY [(.t 6),(.t 7)]),
   oM 1 8])
 (.seq (.seq (.reg [oM 9 1,
   oJ 10 (.bin .lss (.t 9) (.c (.p (.int .i64 0))))])
 (.cond (.t 10)
  (.seq (.reg [oJ 4 (.mov (.c (.p (.int .i64 (-1)))))])
  (.ret))
  (.skip)))
 (.seq (.reg [oM 11 1,
   oM 4 11])
 (.ret))))⟩
theorem nW:af Tryz.prog dg=some iT:=by kernel_rfl
def dz:FK:=⟨96,[.t 2],
 .seq (.reg [oJ 1 (.box 1 (.t 0)),
  oJ 2 (.mov (.c (.p (.bool false))))])
 (.seq (.reg [oK 3 1048576])
 (.seq (.reg [oJ 14 (.ld (some 1) (.t 1)),
   oM 15 3,
   oJ 16 (.call dR [(.t 14),(.t 15)]),
   oM 3 16])
 (.seq (.seq (.reg [oM 17 3,
   oJ 18 (.bin .lss (.t 17) (.c (.p (.int .i64 0))))])
 (.cond (.t 18)
  (.seq (.reg [oJ 2 (.mov (.c (.p (.bool true))))])
  (.ret))
  (.skip)))
 (.seq (.reg [oJ 20 (.ld (some 1) (.t 1)),
   oJ 21 (.call bI [(.t 20)]),
   oJ 22 (.call cB [(.t 21)]),
   oM 19 22,
   oJ 23 (.ext 0 (.t 19)),
   oJ 24 (.ext 1 (.t 19)),
   oJ 4 (.alloc [.nils]),
   oS 4 23,
   oM 5 24])
 (.seq (.reg [oJ 25 (.ld (some 1) (.t 1)),
   oJ 26 (.call bI [(.t 25)]),
   oJ 6 (.alloc [.nils]),
   oS 6 26])
 (.seq (.reg [oJ 28 (.ld (some 1) (.t 6)),
   oJ 29 (.call aY [(.t 28)]),
   oM 27 29,
   oJ 30 (.ext 0 (.t 27)),
   oJ 31 (.ext 1 (.t 27)),
   oJ 7 (.alloc [.nils]),
   oS 7 30,
   oM 8 31])
 (.seq (.seq (.reg [oJ 32 (.ld (some 1) (.t 7)),
   oJ 33 (.ld (some 1) (.t 4)),
   oJ 34 (.call cg [(.t 32),(.t 33)]),
   oJ 35 (.not (.t 34)),
   oM 36 35,
   ⟨(some 37),some (36,false),.mov (.t 8)⟩,
   ⟨(some 38),some (36,false),.mov (.t 5)⟩,
   ⟨(some 39),some (36,false),.beq true (.t 37) (.t 38)⟩,
   oJ 40 (.pick (.t 36) (.c (.p (.bool true))) (.t 39))])
 (.cond (.t 40)
  (.seq (.reg [oJ 2 (.mov (.c (.p (.bool false))))])
  (.ret))
  (.skip)))
 (.seq (.seq (.reg [oJ 41 (.ld (some 1) (.t 6)),
   oJ 42 (.ld (some 1) (.t 1)),
   oJ 43 (.call bI [(.t 42)]),
   ⟨none,none,.chk (some 1) 6 41⟩,
   oJ 44 (.call cg [(.t 41),(.t 43)]),
   oJ 45 (.not (.t 44))])
 (.cond (.t 45)
  (.seq (.reg [oJ 2 (.mov (.c (.p (.bool false))))])
  (.ret))
  (.skip)))
 (.seq (.reg [oK 9 1])
 (.seq (.reg [oJ 46 (.ld (some 1) (.t 6)),
   oM 47 9,
   oJ 48 (.call db [(.t 46),(.t 47)]),
   oM 9 48])
 (.seq (.seq (.reg [oM 49 9,
   oJ 50 (.bin .lss (.t 49) (.c (.p (.int .i64 0)))),
   oM 51 50,
   ⟨(some 52),some (51,false),.ld (some 1) (.t 7)⟩,
   ⟨(some 53),some (51,false),.ld (some 1) (.t 4)⟩,
   ⟨(some 54),some (51,false),.call cg [(.t 52),(.t 53)]⟩,
   ⟨(some 55),some (51,false),.not (.t 54)⟩,
   oJ 56 (.pick (.t 51) (.c (.p (.bool true))) (.t 55)),
   oM 57 56,
   ⟨(some 58),some (57,false),.mov (.t 8)⟩,
   ⟨(some 59),some (57,false),.mov (.t 5)⟩,
   ⟨(some 60),some (57,false),.beq true (.t 58) (.t 59)⟩,
   oJ 61 (.pick (.t 57) (.c (.p (.bool true))) (.t 60))])
 (.cond (.t 61)
  (.seq (.reg [oJ 2 (.mov (.c (.p (.bool false))))])
  (.ret))
  (.skip)))
 (.seq (.reg [oK 10 1])
 (.seq (.reg [oJ 62 (.ld (some 1) (.t 7)),
   oM 63 10,
   oJ 64 (.call db [(.t 62),(.t 63)]),
   oM 10 64])
 (.seq (.reg [oK 11 1])
 (.seq (.reg [oJ 65 (.ld (some 1) (.t 7)),
   oM 66 11,
   oJ 67 (.call dg [(.t 65),(.t 66)]),
   oM 11 67])
 (.seq (.seq (.reg [oM 68 11,
   oJ 69 (.bin .lss (.t 68) (.c (.p (.int .i64 0))))])
 (.cond (.t 69)
  (.seq (.reg [oJ 2 (.mov (.c (.p (.bool false))))])
  (.ret))
  (.skip)))
 (.seq (.seq (.reg [oM 70 11,
   oM 71 10,
   oJ 72 (.bin .neq (.t 70) (.t 71))])
 (.cond (.t 72)
  (.seq (.reg [oJ 2 (.mov (.c (.p (.bool false))))])
  (.ret))
  (.skip)))
 (.seq (.reg [oJ 74 (.ld (some 1) (.t 1)),
   oJ 75 (.call bI [(.t 74)]),
   oJ 76 (.call aY [(.t 75)]),
   oM 73 76,
   oJ 77 (.ext 0 (.t 73)),
   oJ 78 (.ext 1 (.t 73)),
   oJ 12 (.alloc [.nils]),
   oS 12 77,
   oM 13 78])
 (.seq (.seq (.reg [oJ 79 (.ld (some 1) (.t 12)),
   oJ 80 (.ld (some 1) (.t 4)),
   oJ 81 (.call cg [(.t 79),(.t 80)]),
   oJ 82 (.not (.t 81)),
   oM 83 82,
   ⟨(some 84),some (83,false),.mov (.t 13)⟩,
   ⟨(some 85),some (83,false),.mov (.t 5)⟩,
   ⟨(some 86),some (83,false),.beq true (.t 84) (.t 85)⟩,
   oJ 87 (.pick (.t 83) (.c (.p (.bool true))) (.t 86))])
 (.cond (.t 87)
  (.seq (.reg [oJ 2 (.mov (.c (.p (.bool false))))])
  (.ret))
  (.skip)))
 (.seq (.reg [oK 11 1])
 (.seq (.reg [oJ 88 (.ld (some 1) (.t 7)),
   oM 89 11,
   oJ 90 (.call dg [(.t 88),(.t 89)]),
   oM 11 90])
 (.seq (.seq (.reg [oM 91 11,
   oJ 92 (.bin .lss (.t 91) (.c (.p (.int .i64 0))))])
 (.cond (.t 92)
  (.seq (.reg [oJ 2 (.mov (.c (.p (.bool false))))])
  (.ret))
  (.skip)))
 (.seq (.seq (.reg [oM 93 11,
   oM 94 10,
   oJ 95 (.bin .neq (.t 93) (.t 94))])
 (.cond (.t 95)
  (.seq (.reg [oJ 2 (.mov (.c (.p (.bool false))))])
  (.ret))
  (.skip)))
 (.seq (.reg [oJ 2 (.mov (.c (.p (.bool true))))])
 (.ret)))))))))))))))))))))))))⟩
theorem io:af Tryz.prog dB=some dz:=by kernel_rfl
end Go.Proofs.YtnjbhgpbgmpkcaaGreatDoor
namespace Go.Proofs.YtnjbhgpbgmpkcaaGreatDoor
open Go Go.Aw
set_option maxRecDepth 100000
set_option maxHeartbeats 4000000
def K_spec_l4Walk_expr:AK:= .seq (.reg [oJ 3 (.box 4 (.t 1)),oJ 4 (.alloc [(.p (.int .i64 0)),(.p (.int .i64 0)),(.p (.str [])),.nils])]) (.cut (.seq (.reg [oF 8 0 3,oL 9 8,oJ 10 (.bin .eql (.t 9) (.c (.p (.int .i64 2))))]) (.cond (.t 10) (.reg [oM 11 0,oF 12 2 3,oL 13 12,oJ 14 (.call bS [(.t 11),(.t 13)]),oF 15 2 3,oS 15 14]) (.skip))) (.cut (.seq (.reg [oF 16 0 3,oL 17 16,oJ 18 (.bin .eql (.t 17) (.c (.p (.int .i64 13))))]) (.cond (.t 18) (.seq (.reg [oM 19 0,oN 20 19,oF 21 0 20,oF 23 2 3,oJ 22 (.ld (some 1) (.t 21)),oL 24 23,oJ 25 (.call ff [(.t 22),(.t 24)]),oM 5 25]) (.seq (.reg [oM 26 5,oJ 27 (.bin .lss (.t 26) (.c (.p (.int .i64 0)))),oM 28 27,⟨(some 29),some (28,false),.mov (.t 5)⟩,⟨(some 30),some (28,false),.mov (.t 0)⟩,⟨(some 31),some (28,false),.nilck (.t 30)⟩,⟨(some 32),some (28,false),.fldA 1 (.t 31)⟩,⟨(some 33),some (28,false),.ld none (.t 32)⟩,⟨(some 34),some (28,false),.bin .geq (.t 29) (.t 33)⟩,oJ 35 (.pick (.t 28) (.c (.p (.bool true))) (.t 34))]) (.cond (.t 35) (.reg [oM 36 0,oJ 37 (.call aJ [(.t 36),(.c (.p (.int .i64 4)))])]) (.seq (.reg [oM 38 0,oN 39 38,oF 40 0 39,oF 41 0 40,oM 43 5,oF 48 3 3,oL 42 41,oJ 44 (.idxS 3 (.t 42) (.t 43)),oF 45 1 44,oL 46 45,oJ 47 (.len false (.t 46)),oL 49 48,oJ 50 (.len false (.t 49)),oJ 51 (.bin .neq (.t 47) (.t 50))]) (.cond (.t 51) (.reg [oM 52 0,oJ 53 (.call aJ [(.t 52),(.c (.p (.int .i64 5)))])]) (.skip)))))) (.skip))) (.seq (.reg [oJ 54 (.bsl 4 [(.p (.int .i64 0)),(.p (.int .i64 0)),(.p (.str [])),.nils] 0 []),oM 6 54]) (.seq (.seq (.reg [oK 7 0]) (.blk 0 (.loop (.seq (.seq (.reg [oM 55 7,oF 56 3 3,oL 57 56,oJ 58 (.len false (.t 57)),oJ 59 (.bin .lss (.t 55) (.t 58))]) (.cond (.t 59) (.skip) (.exit 0))) (.seq (.blk 1 (.reg [oM 62 6,oM 63 0,oF 64 3 3,oL 65 64,oM 66 7,oJ 67 (.idxS 4 (.t 65) (.t 66)),oJ 68 (.ld (some 4) (.t 67)),oJ 69 (.call bj [(.t 63),(.t 68)]),oJ 70 (.bsl 4 [(.p (.int .i64 0)),(.p (.int .i64 0)),(.p (.str [])),.nils] 1 [(0,4,(.t 69))]),oJ 71 (.app 4 56 (.t 62) (.t 70)),oM 6 71])) (.reg [oM 60 7,oJ 61 (.bin .add (.t 60) (.c (.p (.int .i64 1)))),oM 7 61])))))) (.seq (.reg [oM 72 6,oF 73 3 3,oS 73 72]) (.seq (.reg [oJ 74 (.ld (some 4) (.t 3)),⟨none,none,.st 4 (.t 4) (.t 74)⟩]) (.ret)))))))
theorem og:K_spec_l4Walk_expr.whole=F_spec_l4Walk_expr.ak:=rfl
variable (G:aA)
theorem xj{f:FuncId}{args:List AV}{nf:Bool}{fns:List Fd}{k:Nat}{w w':WS}{v:AV}(H:AC Tryz.prog G f args (HWk nf fns k w) fun x h=>x= .ret v∧h=HWk nf fns k w')(rest:List AO)(ha:ah 2 args):
 AC Tryz.prog G f args (wO 1 nf fns k w::roC nf w.vs::rest) fun x h=>x= .ret v∧h=wO 1 nf fns k w'::roC nf w'.vs::rest:=by
 refine(AC.pre H rest ha (sE _ _ _ _) ?_).mono ?_
 ·rintro x h ⟨_,rfl⟩;rfl
 ·rintro x h ⟨h1,⟨rfl,rfl⟩,rfl⟩
  exact⟨rfl,rfl⟩
theorem pm{n id:Nat}(hn:id<n){nf nf':Bool}{fns:List Fd}{k:Nat}{w:WS}{vs:List LV}{l:List AO}(r:∀o∈l,okO n o):∀o∈wO id nf fns k w::roC nf' vs::l,okO n o:=ae (qK hn) (ae (fb _ _ _) r)
theorem tl{ρ π:List Nat}{h r1:List AO}{i id:Nat}{nf:Bool}{fns:List Fd}{k:Nat}{w:WS}(hid:id<ρ.length)(e:h[i]?=some (wO (ρ.getD id 0) nf fns k w))(hr:HW ρ h π r1):HW ρ h (i::π) (wO id nf fns k w::r1):=by
 refine kC (es:=[wC id nf fns k w]) (fun x hx=>?_) ?_ hr
 ·rw[List.mem_singleton.1 hx];exact su hid
 ·rw[e,List.map_cons,List.map_nil,vN];rfl
theorem Bt{α:Type}{l:List α}{i j:Nat}{a b:α}(hij:i≠j)(h:l[j]?=some b):(l.set i a).set j b=l.set i a:=by
 apply List.ext_getElem?
 intro n
 rw[List.getElem?_set]
 split
 ·rename_i e
  subst e
  rw[List.getElem?_set_ne hij,h]
  rw[if_pos (by rw[List.length_set];exact(List.getElem?_eq_some_iff.1 h).1)]
 ·rfl
theorem vB(ρ:List Nat):∀l:List AV,ah 0 l→TW ρ l l
 |[],_=>by simp
 |v::r,h=>by
  rw[vF]
  refine⟨.inr ⟨(au (Nat.zero_le _) [v] ⟨h.1,trivial⟩).1,?_⟩,vB ρ r h.2⟩
  have:=gf ρ [v] ⟨h.1,trivial⟩
  simpa[bn] using this
theorem Ip{h:List AO}{wid id:Nat}{nf:Bool}{fns:List Fd}{k:Nat}{w:WS}(e0:h[wid]?=some (wO id nf fns k w))(e1:h[id]?=some (roC nf w.vs)):HW [wid,id] h [wid,id] (HWk nf fns k w):=by
 refine kC (es:=[wC 1 nf fns k w]) (fun x hx=>?_) ?_ ?_
 ·rw[List.mem_singleton.1 hx];exact su (by simp)
 ·rw[e0,List.map_cons,List.map_nil,vN];rfl
 ·exact kV e1 (fb _ _ _) cQ
theorem Hd{f:FuncId}{args:List AV}{nf:Bool}{fns:List Fd}{k:Nat}{w:WS}{v:AV}{c:Int}(H:AC Tryz.prog G f (.ptr 0 5 0 0::args) (HWk nf fns k w) fun x h=>x= .ret v∧h=HWk nf fns k ⟨w.vs,w.count,c⟩)(ha:ah 0 args)(hv:below 0 v)
 {h:List AO}{wid id:Nat}(hid:wid≠id)(e0:h[wid]?=some (wO id nf fns k w))(e1:h[id]?=some (roC nf w.vs)):
 AC Tryz.prog G f (.ptr wid 5 0 0::args) h fun x h'=>x= .ret v∧h'=h.set wid (wO id nf fns k ⟨w.vs,w.count,c⟩):=by
 refine(H.frame [wid,id] (by simp[hid]) ?_ (Ip e0 e1)).mono ?_
 ·rw[vF];exact⟨.inr ⟨by simp[below],rfl⟩,vB _ _ ha⟩
 ·rintro x h' ⟨x0,h0,⟨rfl,rfl⟩,_,rfl,rfl⟩
  refine⟨?_,?_⟩
  ·have:=gf ([wid,id]++List.range' h.length ((HWk nf fns k ⟨w.vs,w.count,c⟩).length-(HWk nf fns k w).length)) [v] ⟨hv,trivial⟩
   simp only[bn] at this
   simp only[uH]
   exact congrArg ARes.ret (List.cons.inj this).1
  ·simp only[HWk,List.length_cons,List.length_nil,Nat.sub_self,List.range'_zero,List.append_nil,List.take_succ_cons,List.take_zero,List.map_cons,List.map_nil,List.drop_succ_cons,List.drop_zero,zY,vY,mrg]
   exact Bt hid e1
theorem BS{f:FuncId}{args:List AV}{nf:Bool}{fns:List Fd}{k:Nat}{w:WS}{v:AV}{Q:Bool→WS→Prop}(H:AC Tryz.prog G f (.ptr 0 5 0 0::args) (HWk nf fns k w) fun x h=>∃nf' w',x= .ret v∧h=[wO 2 nf' fns k w',.dead,roC nf' w'.vs]∧Q nf' w')(ha:ah 0 args)(hv:below 0 v)
 {h:List AO}{wid id:Nat}(hid:wid≠id)(e0:h[wid]?=some (wO id nf fns k w))(e1:h[id]?=some (roC nf w.vs)):
 AC Tryz.prog G f (.ptr wid 5 0 0::args) h fun x h'=>∃nf' w',x= .ret v∧h'=(h.set wid (wO h.length nf' fns k w')).set id .dead++[roC nf' w'.vs]∧Q nf' w':=by
 refine(H.frame [wid,id] (by simp[hid]) ?_ (Ip e0 e1)).mono ?_
 ·rw[vF];exact⟨.inr ⟨by simp[below],rfl⟩,vB _ _ ha⟩
 ·rintro x h' ⟨x0,h0,⟨nf',w',rfl,rfl,q⟩,_,rfl,rfl⟩
  refine⟨nf',w',?_,?_,q⟩
  ·have:=gf ([wid,id]++List.range' h.length ([wO 2 nf' fns k w',.dead,roC nf' w'.vs].length-(HWk nf fns k w).length)) [v] ⟨hv,trivial⟩
   simp only[bn] at this
   simp only[uH]
   exact congrArg ARes.ret (List.cons.inj this).1
  ·simp only[HWk,List.length_cons,List.length_nil,List.take_succ_cons,List.take_zero,List.map_cons,List.map_nil,List.drop_succ_cons,List.drop_zero,zY,vY,mrg]
   rfl
theorem uz(fns:List Fd)(k:Nat)(vs:List LV):∀(a b:List Ex) (c:Int),bw fns k vs (a++b) c=bw fns k vs b (bw fns k vs a c)
 |[],b,c=>rfl
 |e::r,b,c=>by rw[List.cons_append,bw,bw,uz fns k vs r]
theorem oG(vs:List LV):∀l:List Ex,gM vs l=l.map (rnE vs)
 |[]=>rfl
 |e::r=>by rw[gM,oG vs r];rfl
theorem sI{fns:List Fd}{k:Nat}{vs:List LV}{l:List Ex}{c:Int}{i:Nat}(h:i<l.length):bw fns k vs (l.take (i+1)) c=rk fns k vs l[i] (bw fns k vs (l.take i) c):=by
 rw[al h,uz];rfl
theorem uj{vs:List LV}{l:List Ex}{i:Nat}(h:i<l.length):gM vs (l.take (i+1))=gM vs (l.take i)++[rnE vs l[i]]:=by
 rw[oG,oG,al h,List.map_append];rfl
theorem oz(vs:List LV)(l:List Ex):(gM vs l).length=l.length:=by rw[oG,List.length_map]
theorem zV(l:List Ex):(exR l).length=l.length:=by simp[exR]
theorem zA(a b:List Ex):exR (a++b)=exR a++exR b:=by simp[exR]
theorem wz{h:List AO}{id:Nat}{l:List Ex}(e:h[id]?=some (.row 4 (exR l))):View h (.sl id 4 0 l.length) (exL l):=by
 have:=gD (h:=h) (id:=id) (sz:=4) (n:=l.length) (ls:=l.map Ex.cs) (by rw[e,exR];simp) (by simp) (fun x hx=>by obtain⟨b,_,rfl⟩:=List.mem_map.1 hx;exact b.cs_len)
 exact this
theorem FN{fns:List Fd}{s:List UInt8}{j:Nat}(h:dx fns s=some j):j<fns.length:=by
 rw[dx,List.findIdx?_eq_some_iff_getElem] at h;exact h.1
theorem Et{fns:List Fd}{k:Nat}(hf:fns.length≤1099511627776):∀(N:Nat) (e:Ex),e.sz≤N→N≤1099511627776→∀(nf:Bool) (w:WS),(nf=true→w.vs=[])→w.vs.length≤1099511627776→
 AC Tryz.prog G bj [.ptr 0 5 0 0,.agg (e.cs.map .p)] (HWk nf fns k w) fun x h=>x= .ret (.agg ((rnE w.vs e).cs.map .p))∧h=HWk nf fns k ⟨w.vs,w.count,rk fns k w.vs e w.code⟩:=by
 intro N
 induction N with
 |zero=>intro e he;have:=e.sz_eq;omega
 |succ N ih=>
  intro e he hN nf w hn hl
  have hec:=e.cs_eq
  have hsz:=e.sz_eq
  have hkl:=bt e.kids
  have hre:(rnE w.vs e).cs=[.int .i64 e.op,.int .i64 e.n,.str (if e.op=2 then pS w.vs e.name else e.name),exL (gM w.vs e.kids)]:=by
   obtain⟨o,n,s,ks⟩:=e;rw[rnE,Ex.cs_eq];rfl
  have hce:rk fns k w.vs e w.code=bw fns k w.vs e.kids (ka fns k w.vs e.op e.name e.kids.length w.code):=by
   obtain⟨o,n,s,ks⟩:=e;rfl
  have main:AC Tryz.prog G bj [.ptr 0 5 0 0,.agg (e.cs.map .p)] (HWk nf fns k w) fun x h=>∃E1 E2,x= .ret (.agg [.p (.int .i64 e.op),.p (.int .i64 e.n),.p (.str (if e.op=2 then pS w.vs e.name else e.name)),.sl 4 4 0 e.kids.length])∧
   h=[wO 1 nf fns k ⟨w.vs,w.count,rk fns k w.vs e w.code⟩,roC nf w.vs,E1,E2,.row 4 (exR (gM w.vs e.kids))]:=by
   refine AC.goK nQ og ?_
   simp-implicitDefEqProofs[K_spec_l4Walk_expr,F_spec_l4Walk_expr,HWk,hec]
   refine kH (aj 75 [(0,.ptr 0 5 0 0),(3,.ptr 2 4 0 0),(4,.ptr 3 4 0 0)]) [wO 1 nf fns k ⟨w.vs,w.count,if e.op=2 then nb w.vs e.name w.code else w.code⟩,roC nf w.vs,.row 4 [[.p (.int .i64 e.op),.p (.int .i64 e.n),.p (.str (if e.op=2 then pS w.vs e.name else e.name)),.p (exL e.kids)]],.row 4 [[.p (.int .i64 0),.p (.int .i64 0),.p (.str []),.nils]]] ?_ ?_
   ·by_cases o2:e.op=2
    ·simp-implicitDefEqProofs[o2]
     refine(xj G (BW G nf fns k w hn hl e.name) _ (by simp[below])).mono ?_
     rintro r h ⟨rfl,rfl⟩
     simp-implicitDefEqProofs[aa]
     exact ab (by simp) (pm (by simp) (by simp[okO,below])) (by simp[below])
    ·simp-implicitDefEqProofs[o2]
     exact ab (by simp) (pm (by simp) (by simp[okO,below])) (by simp[below])
   refine kH (aj 75 [(0,.ptr 0 5 0 0),(3,.ptr 2 4 0 0),(4,.ptr 3 4 0 0)]) [wO 1 nf fns k ⟨w.vs,w.count,ka fns k w.vs e.op e.name e.kids.length w.code⟩,roC nf w.vs,.row 4 [[.p (.int .i64 e.op),.p (.int .i64 e.n),.p (.str (if e.op=2 then pS w.vs e.name else e.name)),.p (exL e.kids)]],.row 4 [[.p (.int .i64 0),.p (.int .i64 0),.p (.str []),.nils]]] ?_ ?_
   ·by_cases o13:e.op=13
    ·have hhd:ka fns k w.vs e.op e.name e.kids.length w.code=lX fns k e.name e.kids.length w.code:=by simp[ka,o13]
     rw[hhd]
     simp-implicitDefEqProofs[o13,wO,wC]
     refine(Dw G fns e.name hf).use ?_
     have fin:∀c:Int,Wk 2 (aj 75 [(0,.ptr 0 5 0 0),(3,.ptr 2 4 0 0),(4,.ptr 3 4 0 0)]) [wO 1 nf fns k ⟨w.vs,w.count,c⟩,roC nf w.vs,.row 4 [[.p (.int .i64 13),.p (.int .i64 e.n),.p (.str e.name),.p (exL e.kids)]],.row 4 [[.p (.int .i64 0),.p (.int .i64 0),.p (.str []),.nils]]] (aj 75 [(0,.ptr 0 5 0 0),(3,.ptr 2 4 0 0),(4,.ptr 3 4 0 0)]) [wO 1 nf fns k ⟨w.vs,w.count,c⟩,roC nf w.vs,.row 4 [[.p (.int .i64 13),.p (.int .i64 e.n),.p (.str e.name),.p (exL e.kids)]],.row 4 [[.p (.int .i64 0),.p (.int .i64 0),.p (.str []),.nils]]]:=fun c=>
      ab (by simp) (pm (by simp) (by simp[okO,below])) (by simp[below])
     cases hfa:dx fns e.name with
     |none=>
      simp-implicitDefEqProofs[ixI,lX,hfa]
      refine(xj G (mF G nf fns k w 4) _ (by simp[below])).mono ?_
      rintro r h ⟨rfl,rfl⟩
      simp-implicitDefEqProofs[aa]
      exact ab (h:=[wO 1 nf fns k ⟨w.vs,w.count,fl w.code 4⟩,roC nf w.vs,.row 4 [[.p (.int .i64 13),.p (.int .i64 e.n),.p (.str e.name),.p (exL e.kids)]],.row 4 [[.p (.int .i64 0),.p (.int .i64 0),.p (.str []),.nils]]]) (by simp) (pm (by simp) (by simp[okO,below])) (by simp[below])
     |some j=>
      have hj:=FN hfa
      have hg:=List.getElem?_eq_getElem hj
      have hjn:¬(j:Int)<0:=by omega
      by_cases hkj:k≤j
      ·have hkj':(k:Int)≤(j:Int):=by omega
       simp-implicitDefEqProofs[ixI,lX,hfa,hkj,hkj',hjn]
       refine(xj G (mF G nf fns k w 4) _ (by simp[below])).mono ?_
       rintro r h ⟨rfl,rfl⟩
       simp-implicitDefEqProofs[aa]
       exact ab (h:=[wO 1 nf fns k ⟨w.vs,w.count,fl w.code 4⟩,roC nf w.vs,.row 4 [[.p (.int .i64 13),.p (.int .i64 e.n),.p (.str e.name),.p (exL e.kids)]],.row 4 [[.p (.int .i64 0),.p (.int .i64 0),.p (.str []),.nils]]]) (by simp) (pm (by simp) (by simp[okO,below])) (by simp[below])
      ·have hkj':¬(k:Int)≤(j:Int):=by omega
       have hfl:fdL fns= .lst 3 (fns.map Fd.cs):=rfl
       have hcs:fns[j].cs=[.str fns[j].name,ay fns[j].params,smL fns[j].body]:=rfl
       have hst:ay fns[j].params= .lst 1 (fns[j].params.map fun w=>[.str w]):=rfl
       have hxl:∀l,exL l= .lst 4 (l.map Ex.cs):=fun _=>rfl
       have hpn:AN fns j=fns[j].params.length:=by simp[AN,hg]
       by_cases hp:fns[j].params.length=e.kids.length
       ·have hcc:lX fns k e.name e.kids.length w.code=w.code:=by simp[lX,hfa,hkj,hpn,hp]
        rw[hcc]
        simp-implicitDefEqProofs[ixI,hkj',hjn,hfl,hg,hcs,hst,hxl,hp]
        exact ab (h:=[wO 1 nf fns k w,roC nf w.vs,.row 4 [[.p (.int .i64 13),.p (.int .i64 e.n),.p (.str e.name),.p (exL e.kids)]],.row 4 [[.p (.int .i64 0),.p (.int .i64 0),.p (.str []),.nils]]]) (by simp) (pm (by simp) (by simp[okO,below])) (by simp[below])
       ·have hcc:lX fns k e.name e.kids.length w.code=fl w.code 5:=by simp[lX,hfa,hkj,hpn,hp]
        have hp':¬(fns[j].params.length:Int)=(e.kids.length:Int):=by omega
        rw[hcc]
        simp-implicitDefEqProofs[ixI,hkj',hjn,hfl,hg,hcs,hst,hxl,hp']
        refine(xj G (mF G nf fns k w 5) _ (by simp[below])).mono ?_
        rintro r h ⟨rfl,rfl⟩
        simp-implicitDefEqProofs[aa]
        exact ab (h:=[wO 1 nf fns k ⟨w.vs,w.count,fl w.code 5⟩,roC nf w.vs,.row 4 [[.p (.int .i64 13),.p (.int .i64 e.n),.p (.str e.name),.p (exL e.kids)]],.row 4 [[.p (.int .i64 0),.p (.int .i64 0),.p (.str []),.nils]]]) (by simp) (pm (by simp) (by simp[okO,below])) (by simp[below])
    ·have hhd:ka fns k w.vs e.op e.name e.kids.length w.code=if e.op=2 then nb w.vs e.name w.code else w.code:=by simp[ka,o13]
     rw[hhd]
     simp-implicitDefEqProofs[o13]
     exact ab (by simp) (pm (by simp) (by simp[okO,below])) (by simp[below])
   rw[hce]
   generalize ka fns k w.vs e.op e.name e.kids.length w.code=c2
   generalize (if e.op=2 then pS w.vs e.name else e.name)=s1
   have hxl:exL e.kids= .lst 4 (e.kids.map Ex.cs):=rfl
   simp-implicitDefEqProofs[]
   refine az (fun i:Nat=>aj 75 [(0,.ptr 0 5 0 0),(3,.ptr 2 4 0 0),(4,.ptr 3 4 0 0),(6,.sl 4 4 0 i),(7,.p (.int .i64 i))])
    (fun i=>[wO 1 nf fns k ⟨w.vs,w.count,bw fns k w.vs (e.kids.take i) c2⟩,roC nf w.vs,.row 4 [[.p (.int .i64 e.op),.p (.int .i64 e.n),.p (.str s1),.p (exL e.kids)]],.row 4 [[.p (.int .i64 0),.p (.int .i64 0),.p (.str []),.nils]],.row 4 (exR (gM w.vs (e.kids.take i)))])
    (fun i=>i≤e.kids.length) (fun i=>e.kids.length-i) 0 (by simp) ?_ ?_
   ·exact ab (by simp) (pm (by simp) (by simp[okO,below])) (by simp[below])
   ·intro i hi
    have hrl:(exR (gM w.vs (e.kids.take i))).length=i:=by rw[zV,oz];simp;omega
    simp-implicitDefEqProofs[hxl]
    refine bh (fun h=>?_) (fun h=>?_)
    ·simp at h
     have hg:=List.getElem?_eq_getElem h
     have hks:=aW (List.getElem_mem h)
     have hkc:=(rnE w.vs e.kids[i]).cs_eq
     simp-implicitDefEqProofs[hg]
     refine(xj G (ih e.kids[i] (by omega) (by omega) nf ⟨w.vs,w.count,bw fns k w.vs (e.kids.take i) c2⟩ hn hl) _ (by simp[below])).mono ?_
     rintro r h ⟨rfl,rfl⟩
     rw[show(rnE (WS.mk w.vs w.count (bw fns k w.vs (e.kids.take i) c2)).vs e.kids[i])=rnE w.vs e.kids[i] from rfl]
     simp-implicitDefEqProofs[aa,hkc,hrl]
     refine⟨by omega,?_⟩
     refine⟨i+1,by omega,by omega,?_⟩
     have htk:List.take i (exR (gM w.vs (e.kids.take i)))=exR (gM w.vs (e.kids.take i)):=List.take_of_length_le (by omega)
     rw[sI h,uj h,zA,htk]
     refine pH [0,1,2,3,6] (by simp) (by decide) (by decide) (tl (by simp) rfl (kV rfl (fb _ _ _) (bH rfl (by simp[below]) (bH rfl (by simp[below]) (bH ?_ ?_ cQ))))) (by simp[below,ren,w1 (i:=i) (by omega)])
     ·have:exR [rnE w.vs e.kids[i]]=[[.p (.int .i64 (rnE w.vs e.kids[i]).op),.p (.int .i64 (rnE w.vs e.kids[i]).n),.p (.str (rnE w.vs e.kids[i]).name),.p (exL (rnE w.vs e.kids[i]).kids)]]:=by rw[exR,List.map_singleton,hkc];rfl
      rw[this];rfl
     ·intro x hx
      rcases List.mem_append.1 hx with h|h
      ·exact oR _ x h
      ·exact oR _ x h
    ·simp at h
     have hie:i=e.kids.length:=by omega
     subst hie
     simp-implicitDefEqProofs[]
  refine main.frz 2 (by simp[HWk]) (fun t v h ⟨_,_,e,_⟩=>by cases e) ?_
  rintro v h ⟨E1,E2,e,rfl⟩
  cases e
  refine⟨_,HWk nf fns k ⟨w.vs,w.count,rk fns k w.vs e w.code⟩,by simp,rfl,.agg ?_ .nil,.same (qK (by omega)) (.same (fb _ _ _) (.nil _)),rfl,rfl⟩
  rw[hre]
  have hrl:=oz w.vs e.kids
  rw[←hrl]
  exact .keep (by simp) (.keep (by simp) (.keep (by simp) (.one (wz rfl) .nil)))
end Go.Proofs.YtnjbhgpbgmpkcaaGreatDoor
namespace Go.Proofs.YtnjbhgpbgmpkcaaGreatDoor
open Go Go.Aw
set_option maxRecDepth 100000
set_option maxHeartbeats 4000000
def K_spec_l4Walk_stmts:AK:= .seq (.reg [oJ 6 (.mov (.c .nils))]) (.seq (.reg [oJ 13 (.bsl 5 [(.p (.int .i64 0)),(.p (.str [])),.nils,.nils,.nils] 0 []),oM 7 13]) (.seq (.reg [oM 14 0,oN 15 14,oF 16 2 15,oL 17 16,oJ 18 (.len false (.t 17)),oM 8 18]) (.seq (.seq (.reg [oK 9 0]) (.blk 0 (.loop (.seq (.seq (.reg [oM 19 9,oM 20 1,oJ 21 (.len false (.t 20)),oJ 22 (.bin .lss (.t 19) (.t 21))]) (.cond (.t 22) (.skip) (.exit 0))) (.seq (.blk 1 (.seq (.reg [oM 25 1,oM 26 9,oJ 27 (.idxS 5 (.t 25) (.t 26)),oJ 28 (.ld (some 5) (.t 27)),oJ 10 (.alloc [(.p (.int .i64 0)),(.p (.str [])),.nils,.nils,.nils]),⟨none,none,.st 5 (.t 10) (.t 28)⟩]) (.seq (.reg [oJ 29 (.bsl 4 [(.p (.int .i64 0)),(.p (.int .i64 0)),(.p (.str [])),.nils] 0 []),oM 11 29]) (.seq (.seq (.reg [oK 12 0]) (.blk 2 (.loop (.seq (.seq (.reg [oM 30 12,oF 31 2 10,oL 32 31,oJ 33 (.len false (.t 32)),oJ 34 (.bin .lss (.t 30) (.t 33))]) (.cond (.t 34) (.skip) (.exit 2))) (.seq (.blk 3 (.reg [oM 37 11,oM 38 0,oF 39 2 10,oL 40 39,oM 41 12,oJ 42 (.idxS 4 (.t 40) (.t 41)),oJ 43 (.ld (some 4) (.t 42)),oJ 44 (.call bj [(.t 38),(.t 43)]),oJ 45 (.bsl 4 [(.p (.int .i64 0)),(.p (.int .i64 0)),(.p (.str [])),.nils] 1 [(0,4,(.t 44))]),oJ 46 (.app 4 56 (.t 37) (.t 45)),oM 11 46])) (.reg [oM 35 12,oJ 36 (.bin .add (.t 35) (.c (.p (.int .i64 1)))),oM 12 36])))))) (.cut (.reg [oM 47 11,oF 48 2 10,oS 48 47]) (.cut (.seq (.reg [oF 49 0 10,oL 50 49,oJ 51 (.bin .eql (.t 50) (.c (.p (.int .i64 1))))]) (.cond (.t 51) (.reg [oM 52 0,oF 53 1 10,oL 54 53,oM 55 2,oJ 56 (.call bT [(.t 52),(.t 54),(.t 55)]),oF 57 1 10,oS 57 56]) (.skip))) (.cut (.seq (.reg [oF 58 0 10,oL 59 58,oJ 60 (.bin .eql (.t 59) (.c (.p (.int .i64 2))))]) (.cond (.t 60) (.reg [oM 61 0,oF 62 1 10,oL 63 62,oJ 64 (.call bS [(.t 61),(.t 63)]),oF 65 1 10,oS 65 64]) (.skip))) (.seq (.reg [oM 66 0,oF 67 3 10,oL 68 67,oM 69 2,oJ 70 (.bin .add (.t 69) (.c (.p (.int .i64 1)))),oJ 71 (.call aT [(.t 66),(.t 68),(.t 70)]),oF 72 3 10,oS 72 71]) (.seq (.reg [oM 73 0,oF 74 4 10,oL 75 74,oM 76 2,oJ 77 (.bin .add (.t 76) (.c (.p (.int .i64 1)))),oJ 78 (.call aT [(.t 73),(.t 75),(.t 77)]),oF 79 4 10,oS 79 78]) (.reg [oM 80 7,oJ 81 (.ld (some 5) (.t 10)),oJ 82 (.bsl 5 [(.p (.int .i64 0)),(.p (.str [])),.nils,.nils,.nils] 1 [(0,5,(.t 81))]),oJ 83 (.app 5 96 (.t 80) (.t 82)),oM 7 83])))))))))) (.reg [oM 23 9,oJ 24 (.bin .add (.t 23) (.c (.p (.int .i64 1)))),oM 9 24])))))) (.cut (.seq (.reg [oM 84 2,oJ 85 (.bin .gtr (.t 84) (.c (.p (.int .i64 0))))]) (.cond (.t 85) (.reg [oM 86 0,oM 87 0,oN 88 87,oF 89 2 88,oL 90 89,oM 91 8,oJ 92 (.slS 3 (.t 90) none (some (.t 91))),oN 93 86,oF 94 2 93,oS 94 92]) (.skip))) (.seq (.reg [oM 95 7,oM 6 95]) (.ret))))))
theorem na:K_spec_l4Walk_stmts.whole=F_spec_l4Walk_stmts.ak:=rfl
theorem wB(fns:List Fd)(k b:Nat):∀(x y:List Sm) (w:WS),bB fns k b (x++y) w=bB fns k b y (bB fns k b x w)
 |[],y,w=>rfl
 |s::r,y,w=>by rw[List.cons_append,bB,bB,wB fns k b r]
theorem xt(fns:List Fd)(k b:Nat):∀(x y:List Sm) (w:WS),eU fns k b (x++y) w=eU fns k b x w++eU fns k b y (bB fns k b x w)
 |[],y,w=>rfl
 |s::r,y,w=>by rw[List.cons_append,eU,eU,xt fns k b r];rfl
theorem Ad{fns:List Fd}{k b:Nat}{l:List Sm}{w:WS}{i:Nat}(h:i<l.length):bB fns k b (l.take (i+1)) w=stW fns k b l[i] (bB fns k b (l.take i) w):=by
 rw[al h,wB];rfl
theorem AR{fns:List Fd}{k b:Nat}{l:List Sm}{w:WS}{i:Nat}(h:i<l.length):eU fns k b (l.take (i+1)) w=eU fns k b (l.take i) w++[rnS fns k b l[i] (bB fns k b (l.take i) w)]:=by
 rw[al h,xt];rfl
theorem sk(fns:List Fd)(k b:Nat):∀(l:List Sm) (w:WS),(eU fns k b l w).length=l.length
 |[],w=>rfl
 |s::r,w=>by rw[eU,List.length_cons,sk fns k b r,List.length_cons]
theorem FJ{l:List Sm}{i:Nat}(h:i<l.length):aG (l.take i)+l[i].sz≤aG l:=by
 have e:l=l.take i++l[i]::l.drop (i+1):=by rw[←List.drop_eq_getElem_cons h,List.take_append_drop]
 have h2:aG l=aG (l.take i)+(l[i].sz+aG (l.drop (i+1))):=by
  conv=>lhs;rw[e]
  rw[qG];rfl
 omega
def oc(fns:List Fd)(k b:Nat)(l:List Sm)(w:WS):WS:=if 0<b then(bB fns k b l w).back w.vs else bB fns k b l w
theorem yv(fns:List Fd)(k b:Nat)(l:List Sm)(w:WS):(oc fns k b l w).count=w.count+cy l:=by
 unfold oc
 split
 ·exact eZ fns k l b w
 ·exact eZ fns k l b w
theorem BZ{e vs:List LV}:(lvR (e++vs)).take vs.length=lvR vs:=by
 have h:lvR (e++vs)=lvR vs++lvR e:=by simp[lvR]
 rw[h,List.take_append_of_le_length (by rw[rv];exact Nat.le_refl _),List.take_of_length_le (by rw[rv];exact Nat.le_refl _)]
theorem uq(l:List Sm):cy l≤aG l:=Nat.le_trans (lE l) (kw l)
theorem xX(nf:Bool)(id n:Nat):(vaC nf id n).isCell=true:=by cases nf<;>rfl
theorem AW(nf:Bool)(id n:Nat):(vaC nf id n).cells=[vaC nf id n]:=by cases nf<;>rfl
attribute [simp ↓] xX AW
variable (G:aA)
def StP(fns:List Fd)(k b:Nat)(l:List Sm)(w:WS)(x:ARes)(h:List AO):Prop:=∃nf' w',x= .ret (.p (smL (eU fns k b l w)))∧h=[wO 2 nf' fns k w',.dead,roC nf' w'.vs]∧(nf'=true→w'.vs=[])∧w'=oc fns k b l w
structure StS where (i:Nat) (nf:Bool)
theorem Cf{fns:List Fd}{k:Nat}(hf:fns.length≤1099511627776):∀(N:Nat) (l:List Sm),aG l<N→∀(b:Nat) (nf:Bool) (w:WS),(nf=true→w.vs=[])→w.vs.length≤w.count→w.count+aG l≤1099511627776→b+aG l≤1099511627776→
 AC Tryz.prog G aT [.ptr 0 5 0 0,.p (smL l),.p (.int .i64 b)] (HWk nf fns k w) (StP fns k b l w):=by
 intro N
 induction N with
 |zero=>
  intro l hl b nf w hn hv hc hb
  omega
 |succ N ih=>
  intro l hl b nf w hn hv hc hb
  have hll:=br l
  refine AC.goK mS na ?_
  have hsl:∀l,smL l= .lst 5 (l.map Sm.cs):=fun _=>rfl
  have hlen0:yj (vaC nf 1 w.vs.length)=some (.p (.int .i64 w.vs.length)):=by
   cases nf
   ·rfl
   ·simp[vaC,hn rfl]
  simp-implicitDefEqProofs[K_spec_l4Walk_stmts,F_spec_l4Walk_stmts,HWk,wO,wC,hlen0]
  refine az (fun s:StS=>aj 96 [(0,.ptr 0 5 0 0),(1,.p (smL l)),(2,.p (.int .i64 b)),(7,.sl 2 5 0 s.i),(8,.p (.int .i64 w.vs.length)),(9,.p (.int .i64 s.i))])
   (fun s=>[wO 3 s.nf fns k (bB fns k b (l.take s.i) w),.dead,.row 5 (smR (eU fns k b (l.take s.i) w)),roC s.nf (bB fns k b (l.take s.i) w).vs])
   (fun s=>s.i≤l.length∧(s.nf=true→(bB fns k b (l.take s.i) w).vs=[])) (fun s=>l.length-s.i) ⟨0,nf⟩ ⟨by simp,hn⟩ ?_ ?_
  ·refine zt [0,1,2,1] (by simp) (by decide) ?_ (tl (by simp) rfl (gk (by simp) (bH rfl (by simp[smR,eU]) (kV rfl (fb _ _ _) cQ)))) (by simp[below,ren])
   cases nf<;>simp[gW,roC,wO,bB]
  ·rintro⟨i,nf⟩ ⟨hi,hn⟩
   simp only at hi hn
   simp-implicitDefEqProofs[hsl]
   refine bh (fun h=>?_) (fun h=>?_)
   ·simp at h
    have hg:=List.getElem?_eq_getElem h
    have hat:=FJ h
    have hse:=l[i].cs_eq
    have hsz:=l[i].sz_eq
    have hle:=zz fns k (l:=l.take i) (b:=b) hv
    have hcn:=eZ fns k (l.take i) b w
    have hlz:=uq (l.take i)
    have eW:=Ad (fns:=fns) (k:=k) (b:=b) (w:=w) h
    have eR:=AR (fns:=fns) (k:=k) (b:=b) (w:=w) h
    have hol:=sk fns k b (l.take i) w
    rw[List.length_take,Nat.min_eq_left hi] at hol
    generalize l[i]=s at hg hat hse hsz eW eR
    generalize bB fns k b (l.take i) w=wi at hn hle hcn eW eR⊢
    generalize eU fns k b (l.take i) w=out at hol eR⊢
    obtain⟨o,nme,a,bd,el⟩:=s
    simp only[Sm.op,Sm.name,Sm.args,Sm.body,Sm.els] at hse hsz
    simp-implicitDefEqProofs[hg,hse]
    have hxl:∀l,exL l= .lst 4 (l.map Ex.cs):=fun _=>rfl
    have hal:=bt a
    have hlE:=uq bd
    have hwl:wi.vs.length≤1099511627776:=by omega
    have hopR:∀(x y z u v:AV),ah 0 [x,y,z,u,v]→okO 5 (AO.row 5 [[x,y,z,u,v]]):=fun x y z u v hh=>cM (fun e he=>by rw[List.mem_singleton.1 he];exact hh)
    refine az (fun j:Nat=>aj 96 [(0,.ptr 0 5 0 0),(1,.p (smL l)),(2,.p (.int .i64 b)),(7,.sl 2 5 0 i),(8,.p (.int .i64 w.vs.length)),(9,.p (.int .i64 i)),(10,.ptr 4 5 0 0),(11,.sl 5 4 0 j),(12,.p (.int .i64 j))])
     (fun j=>[wO 3 nf fns k ⟨wi.vs,wi.count,bw fns k wi.vs (a.take j) wi.code⟩,.dead,.row 5 (smR out),roC nf wi.vs,.row 5 [[.p (.int .i64 o),.p (.str nme),.p (exL a),.p (smL bd),.p (smL el)]],.row 4 (exR (gM wi.vs (a.take j)))])
     (fun j=>j≤a.length) (fun j=>a.length-j) 0 (by simp) ?_ ?_
    ·refine ab (h:=[wO 3 nf fns k wi,.dead,.row 5 (smR out),roC nf wi.vs,.row 5 [[.p (.int .i64 o),.p (.str nme),.p (exL a),.p (smL bd),.p (smL el)]],.row 4 []]) (by simp) (ae (qK (by simp)) (ae trivial (ae (cM (iM out)) (ae (fb _ _ _) (by simp[okO,below]))))) (by simp[below,hsl])
    intro j hj
    have hrl:(exR (gM wi.vs (a.take j))).length=j:=by rw[zV,oz];simp;omega
    simp-implicitDefEqProofs[hxl]
    refine bh (fun hc=>?_) (fun hc=>?_)
    ·simp at hc
     have hga:=List.getElem?_eq_getElem hc
     have hks:=aW (List.getElem_mem hc)
     have hkc:=(rnE wi.vs a[j]).cs_eq
     simp-implicitDefEqProofs[hga]
     refine(Hd G (id:=3) (Et G hf (a[j].sz) a[j] (Nat.le_refl _) (by omega) nf ⟨wi.vs,wi.count,bw fns k wi.vs (a.take j) wi.code⟩ hn hwl) (by simp) (by simp[below]) (by decide) rfl rfl).mono ?_
     rintro r h' ⟨rfl,rfl⟩
     rw[show(rnE (WS.mk wi.vs wi.count (bw fns k wi.vs (a.take j) wi.code)).vs a[j])=rnE wi.vs a[j] from rfl]
     simp-implicitDefEqProofs[aa,hkc,hrl]
     refine⟨by omega,j+1,by omega,by omega,?_⟩
     have htk:List.take j (exR (gM wi.vs (a.take j)))=exR (gM wi.vs (a.take j)):=List.take_of_length_le (by omega)
     rw[sI hc,uj hc,zA,htk]
     refine pH [0,1,2,3,4,7] (by simp) (by decide) (by decide) (tl (by simp) rfl (gk (by simp) (bH rfl (iM out) (kV rfl (fb _ _ _) (bH rfl (by simp[below]) (bH ?_ ?_ cQ)))))) (by simp[below,ren,hsl,w1 (i:=j) (by omega)])
     ·have:exR [rnE wi.vs a[j]]=[[.p (.int .i64 (rnE wi.vs a[j]).op),.p (.int .i64 (rnE wi.vs a[j]).n),.p (.str (rnE wi.vs a[j]).name),.p (exL (rnE wi.vs a[j]).kids)]]:=by rw[exR,List.map_singleton,hkc];rfl
      rw[this];rfl
     ·intro x hx
      rcases List.mem_append.1 hx with h|h
      ·exact oR _ x h
      ·exact oR _ x h
    simp at hc
    have hje:j=a.length:=by omega
    subst hje
    rw[List.take_length] at hrl⊢
    have hal2:=oz wi.vs a
    simp-implicitDefEqProofs[]
    generalize hw1:WS.mk wi.vs wi.count (bw fns k wi.vs a wi.code)=w1
    have e1v:w1.vs=wi.vs:=by rw[←hw1]
    have e1c:w1.count=wi.count:=by rw[←hw1]
    have e1l:w1.vs.length=wi.vs.length:=by rw[e1v]
    rw[←e1v]
    refine kH (aj 96 [(0,.ptr 0 5 0 0),(1,.p (smL l)),(2,.p (.int .i64 b)),(7,.sl 2 5 0 i),(8,.p (.int .i64 w.vs.length)),(9,.p (.int .i64 i)),(10,.ptr 4 5 0 0)])
     [wO 3 nf fns k w1,.dead,.row 5 (smR out),roC nf w1.vs,.row 5 [[.p (.int .i64 o),.p (.str nme),.p (exL (gM w1.vs a)),.p (smL bd),.p (smL el)]]] ?_ ?_
    ·simp-implicitDefEqProofs[]
     refine zl 5 (by omega) (by simp) rfl (.same (qK (by omega)) (.dead (.same (cM (iM out)) (.same (fb _ _ _) (.one (.keep (by simp[below]) (.keep (by simp[below]) (.one ?_ (.keep (by simp[below]) (.keep (by simp[below]) .nil))))) (.nil _)))))) ?_
     ·rw[←e1v] at hal2
      rw[←hal2]
      exact wz rfl
     ·refine⟨.keep (by simp[below]) .nil,.keep (by simp[below]) .nil,.keep (by simp[below]) .nil,.keep (by simp[below]) .nil,.keep (by simp[below]) .nil,.keep (by simp[below]) .nil,.keep (by simp[below]) .nil,trivial⟩
    have TT:∀(r1:List (Nat × AV)),Aw.look r1 0= .ptr 0 5 0 0→Aw.look r1 1= .p (smL l)→Aw.look r1 2= .p (.int .i64 b)→Aw.look r1 7= .sl 2 5 0 i→Aw.look r1 8= .p (.int .i64 w.vs.length)→Aw.look r1 9= .p (.int .i64 i)→Aw.look r1 10= .ptr 4 5 0 0→∀ρ:List Nat,ρ.length=5→ρ.getD 0 0=0→ρ.getD 2 0=2→ρ.getD 4 0=4→
     TWA ρ r1 [(0,.ptr 0 5 0 0),(1,.p (smL l)),(2,.p (.int .i64 b)),(7,.sl 2 5 0 i),(8,.p (.int .i64 w.vs.length)),(9,.p (.int .i64 i)),(10,.ptr 4 5 0 0)]:=by
     intro r1 a0 a1 a2 a7 a8 a9 a10 ρ hr r0 r2 r4
     simp[below,ren,hr,a0,a1,a2,a7,a8,a9,a10]
     rw[List.getD_eq_getElem?_getD,List.getElem?_eq_getElem (by omega)] at r0 r2 r4
     exact⟨r0,r2,r4⟩
    have hn1:nf=true→w1.vs=[]:=fun h=>by rw[e1v];exact hn h
    have okB:∀(nf:Bool) (w:WS) (r:AO),okO 0 r→∀x∈[wO 3 nf fns k w,.dead,.row 5 (smR out),roC nf w.vs,r],okO 5 x:=fun nf w r hr=>
     ae (qK (by omega)) (ae trivial (ae (cM (iM out)) (ae (fb _ _ _) (ae (cM hr) dS))))
    refine kH (aj 96 [(0,.ptr 0 5 0 0),(1,.p (smL l)),(2,.p (.int .i64 b)),(7,.sl 2 5 0 i),(8,.p (.int .i64 w.vs.length)),(9,.p (.int .i64 i)),(10,.ptr 4 5 0 0)])
     [wO 3 (if o=1 then false else nf) fns k (if o=1 then iC w1 nme b else w1),.dead,.row 5 (smR out),roC (if o=1 then false else nf) (if o=1 then iC w1 nme b else w1).vs,.row 5 [[.p (.int .i64 o),.p (.str (if o=1 then vnm w1.count else nme)),.p (exL (gM w1.vs a)),.p (smL bd),.p (smL el)]]] ?_ ?_
    ·by_cases o1:o=1
     ·simp-implicitDefEqProofs[o1]
      refine(BS G (id:=3) (Q:=fun nf' w'=>nf'=false∧w'=iC w1 nme b) ((BK G nf fns k w1 hn1 (by omega) (by omega) nme b).mono (by rintro x h ⟨rfl,rfl⟩;exact⟨false,_,rfl,rfl,rfl,rfl⟩)) (by simp) (by simp[below]) (by decide) rfl rfl).mono ?_
      rintro r h' ⟨nf',w',rfl,rfl,rfl,rfl⟩
      simp-implicitDefEqProofs[aa]
      refine pH [0,1,2,5,4] (by simp) (by decide) (by decide) (tl (by simp) rfl (gk (by simp) (bH rfl (iM out) (kV rfl (fb _ _ _) (bH rfl (by simp[below]) cQ))))) (TT _ (by simp) (by simp) (by simp) (by simp) (by simp) (by simp) (by simp) _ rfl rfl rfl rfl)
     ·simp-implicitDefEqProofs[o1]
      refine ab (by simp) (okB nf w1 _ (by simp[okO,below])) (by simp[below])
    generalize hw2:(if o=1 then iC w1 nme b else w1)=w2
    generalize hnf2:(if o=1 then false else nf)=nf2
    generalize hnm2:(if o=1 then vnm w1.count else nme)=nm2
    have hn2:nf2=true→w2.vs=[]:=by
     intro h
     by_cases o1:o=1
     ·rw[if_pos o1] at hnf2;rw[←hnf2] at h;cases h
     ·rw[if_neg o1] at hnf2 hw2;rw[←hw2];exact hn1 (by rw[hnf2];exact h)
    have h2c:w2.count=w1.count+if o=1 then 1 else 0:=by rw[←hw2];split<;>rfl
    have h2v:w2.vs.length≤w2.count:=by
     rw[←hw2];split
     ·simp[iC];omega
     ·omega
    have h2b:w2.count≤wi.count+1:=by rw[h2c,e1c];split<;>omega
    refine kH (aj 96 [(0,.ptr 0 5 0 0),(1,.p (smL l)),(2,.p (.int .i64 b)),(7,.sl 2 5 0 i),(8,.p (.int .i64 w.vs.length)),(9,.p (.int .i64 i)),(10,.ptr 4 5 0 0)])
     [wO 3 nf2 fns k (opW o nme b w1),.dead,.row 5 (smR out),roC nf2 (opW o nme b w1).vs,.row 5 [[.p (.int .i64 o),.p (.str (opN o nme w1)),.p (exL (gM w1.vs a)),.p (smL bd),.p (smL el)]]] ?_ ?_
    ·by_cases o2:o=2
     ·have o1:¬o=1:=by omega
      rw[if_neg o1] at hw2 hnm2
      subst hw2;subst hnm2
      have eo:opW o nme b w1=⟨w1.vs,w1.count,nb w1.vs nme w1.code⟩:=by rw[opW,if_neg o1,if_pos o2]
      have en:opN o nme w1=pS w1.vs nme:=by rw[opN,if_neg o1,if_pos o2]
      rw[eo,en]
      simp-implicitDefEqProofs[o2]
      refine(Hd G (id:=3) (BW G nf2 fns k w1 hn2 (by omega) nme) (by simp) (by simp[below]) (by decide) rfl rfl).mono ?_
      rintro r h' ⟨rfl,rfl⟩
      simp-implicitDefEqProofs[aa]
      refine ab (h:=[wO 3 nf2 fns k ⟨w1.vs,w1.count,nb w1.vs nme w1.code⟩,.dead,.row 5 (smR out),roC nf2 w1.vs,_]) (by simp) (okB nf2 ⟨w1.vs,w1.count,nb w1.vs nme w1.code⟩ _ (by simp[okO,below])) (by simp[below])
     ·have eo:opW o nme b w1=w2:=by rw[opW,if_neg o2,←hw2]
      have en:opN o nme w1=nm2:=by rw[opN,if_neg o2,←hnm2]
      rw[eo,en]
      simp-implicitDefEqProofs[o2]
      refine ab (by simp) (okB nf2 w2 _ (by simp[okO,below])) (by simp[below])
    have eov:(opW o nme b w1).vs=w2.vs:=by
     rw[opW,←hw2];split
     ·rfl
     ·split<;>rfl
    have eoc:(opW o nme b w1).count=w2.count:=by rw[mw,h2c]
    have hwb:IntKind.i64.wrap ((b:Int)+1)=((b+1:Nat):Int):=by rw[ag (by omega) (by omega)];omega
    have hstw:stW fns k b (.mk o nme a bd el) wi=oc fns k (b+1) el (oc fns k (b+1) bd (opW o nme b w1)):=by
     rw[stW]
     simp only[hw1,oc,Nat.succ_pos,if_true]
     rfl
    have hrns:(rnS fns k b (.mk o nme a bd el) wi).cs=[.int .i64 o,.str (opN o nme w1),exL (gM w1.vs a),smL (eU fns k (b+1) bd (opW o nme b w1)),smL (eU fns k (b+1) el (oc fns k (b+1) bd (opW o nme b w1)))]:=by
     rw[rnS,Sm.cs_eq]
     simp only[hw1,oc,Nat.succ_pos,if_true,Sm.op,Sm.name,Sm.args,Sm.body,Sm.els,e1v]
     have:opN o nme wi=opN o nme w1:=by simp only[opN,e1v,e1c]
     rw[this]
    rw[hstw] at eW
    clear hstw
    generalize opW o nme b w1=w3 at eov eoc hrns eW⊢
    have hn3:nf2=true→w3.vs=[]:=fun h=>by rw[eov];exact hn2 h
    have h3v:w3.vs.length≤w3.count:=by rw[eov,eoc];exact h2v
    simp-implicitDefEqProofs[hwb]
    refine(BS G (id:=3) (ih bd (by omega) (b+1) nf2 w3 hn3 h3v (by omega) (by omega)) (by simp) (by simp[below]) (by decide) rfl rfl).mono ?_
    rintro r h' ⟨nf4,w4,rfl,rfl,hn4,hw4⟩
    rw[←hw4] at hrns eW
    have h4c:w4.count=w3.count+cy bd:=by rw[hw4];exact yv _ _ _ _ _
    have h4v:w4.vs.length≤w4.count:=by
     have:w4.vs=w3.vs:=by rw[hw4];simp[oc,WS.back]
     rw[this,h4c];omega
    simp-implicitDefEqProofs[aa,hwb]
    refine(BS G (id:=5) (ih el (by omega) (b+1) nf4 w4 hn4 h4v (by omega) (by omega)) (by simp) (by simp[below]) (by decide) rfl rfl).mono ?_
    rintro r h' ⟨nf5,w5,rfl,rfl,hn5,hw5⟩
    rw[←hw5] at eW
    have hsl2:(smR out).length=i:=by rw[EC];exact hol
    simp-implicitDefEqProofs[aa,hsl2]
    refine⟨⟨by omega,by omega⟩,⟨i+1,nf5⟩,⟨by simp only;omega,fun h=>by simp only at h⊢;rw[eW];exact hn5 h⟩,by simp only;omega,?_⟩
    simp only
    rw[eW,eR,FC]
    have htk:List.take i (smR out)=smR out:=List.take_of_length_le (by omega)
    rw[htk]
    have hsm1:smR [rnS fns k b (.mk o nme a bd el) wi]=[[.p (.int .i64 o),.p (.str (opN o nme w1)),.p (exL (gM w1.vs a)),.p (smL (eU fns k (b+1) bd w3)),.p (smL (eU fns k (b+1) el w4))]]:=by rw[smR,List.map_singleton,hrns];rfl
    rw[hsm1]
    refine pH [0,1,8,6] (by simp) (by decide) (by decide) (tl (by simp) rfl (gk (by simp) (bH rfl (fun x hx=>?_) (kV rfl (fb _ _ _) cQ)))) (by simp[below,ren,hsl,show IntKind.i64.wrap ((i:Int)+1)=((i:Int)+1) from ag (by omega) (by omega)])
    rcases List.mem_append.1 hx with h|h
    ·exact iM out x h
    ·rw[List.mem_singleton.1 h];simp
   ·simp at h
    have hie:i=l.length:=by omega
    subst hie
    rw[List.take_length] at hn⊢
    obtain⟨ext,hext⟩:=wt fns k l b w
    have hlen:=sk fns k b l w
    refine kH (aj 96 [(7,.p (smL (eU fns k b l w)))]) [wO 2 nf fns k (oc fns k b l w),.dead,roC nf (oc fns k b l w).vs] ?_ ?_
    ·have fin:∀(r1:List (Nat × AV)) (w':WS),w'.vs=w.vs∨w'.vs=(bB fns k b l w).vs→(Aw.look r1 7= .sl 2 5 0 l.length)→
      Wk 2 (aj 96 r1) [wO 3 nf fns k w',.dead,.row 5 (smR (eU fns k b l w)),roC nf (bB fns k b l w).vs] (aj 96 [(7,.p (smL (eU fns k b l w)))]) [wO 2 nf fns k w',.dead,roC nf w'.vs]:=by
      intro r1 w' hv' hr
      refine Wk.trans (Fr (h1:=[wO 3 nf fns k w',.dead,.row 5 (smR (eU fns k b l w)),roC nf w'.vs]) ?_) (Wk.trans (pH (l1:=[(7,.sl 3 5 0 l.length)]) (h1:=[wO 2 nf fns k w',.dead,roC nf w'.vs,.row 5 (smR (eU fns k b l w))]) [0,1,3,2] (by simp) (by decide) (by decide) (tl (by simp) rfl (gk (by simp) (kV rfl (fb _ _ _) (bH rfl (iM _) cQ)))) (by simp[below,ren,hr]))
       (zl 3 (by omega) (by simp) rfl (.same (qK (by omega)) (.dead (.same (fb _ _ _) (.nil _)))) ?_))
      ·refine⟨.inl rfl,.inl rfl,.inl rfl,?_,trivial⟩
       rcases hv' with e|e
       ·cases nf with
        |true=>exact .inl rfl
        |false=>
         refine .inr ⟨3,lvR (bB fns k b l w).vs,w.vs.length,rfl,?_⟩
         rw[hext,BZ,e];rfl
       ·rw[e];exact .inl rfl
      ·rw[←hlen]
       exact⟨.one (CC rfl) .nil,trivial⟩
     by_cases hb0:0<b
     ·have hwe:oc fns k b l w=(bB fns k b l w).back w.vs:=if_pos hb0
      rw[hwe]
      have hll2:(bB fns k b l w).vs.length=ext.length+w.vs.length:=by rw[hext,List.length_append]
      cases nf with
      |true=>
       have h0:=hn rfl
       rw[h0] at hext
       have h00:w.vs=[]:=(List.append_eq_nil_iff.1 hext.symm).2
       simp-implicitDefEqProofs[hb0,wO,wC,vaC,h00]
       rw[h00] at fin
       exact fin _ ⟨[],(bB fns k b l w).count,(bB fns k b l w).code⟩ (.inl rfl) (by simp)
      |false=>
       have hle:w.vs.length≤(bB fns k b l w).vs.length:=by omega
       simp-implicitDefEqProofs[hb0,wO,wC,vaC,hle]
       exact fin _ ⟨w.vs,(bB fns k b l w).count,(bB fns k b l w).code⟩ (.inl rfl) (by simp)
     ·have hwe:oc fns k b l w=bB fns k b l w:=if_neg hb0
      have hb0':b=0:=by omega
      subst hb0'
      rw[hwe]
      simp-implicitDefEqProofs[]
      exact fin _ _ (.inr rfl) (by simp)
    ·simp-implicitDefEqProofs[]
     refine⟨nf,_,rfl,rfl,?_,rfl⟩
     intro hnf
     have h0:=hn hnf
     unfold oc
     split
     ·rw[h0] at hext;exact(List.append_eq_nil_iff.1 hext.symm).2
     ·exact h0
end Go.Proofs.YtnjbhgpbgmpkcaaGreatDoor
namespace Go.Proofs.YtnjbhgpbgmpkcaaGreatDoor
open Go Go.Aw
set_option maxRecDepth 100000
set_option maxHeartbeats 4000000
def K_spec_l4Fn:AK:= .seq (.reg [oJ 2 (.box 1 (.t 0)),oJ 4 (.alloc [(.p (.str [])),.nils,.nils]),oK 5 0,oK 6 0]) (.seq (.reg [oJ 11 (.ld (some 1) (.t 2)),oM 12 1,oJ 13 (.bld [.nils,(.p (.int .i64 0)),.nils,(.p (.int .i64 0)),(.p (.int .i64 0))] [(0,1,(.t 11)),(1,1,(.t 12))]),oJ 14 (.box 5 (.t 13)),oM 7 14]) (.cut (.reg [oF 15 0 2,oL 16 15,oM 17 1,oJ 18 (.idxS 3 (.t 16) (.t 17)),oJ 19 (.ld (some 3) (.t 18)),oJ 8 (.alloc [(.p (.str [])),.nils,.nils]),⟨none,none,.st 3 (.t 8) (.t 19)⟩]) (.cut (.seq (.reg [oJ 20 (.ld (some 1) (.t 2)),oF 21 0 8,oL 22 21,oJ 23 (.call ff [(.t 20),(.t 22)]),oM 24 1,oJ 25 (.bin .neq (.t 23) (.t 24))]) (.cond (.t 25) (.reg [oM 26 7,oJ 27 (.call aJ [(.t 26),(.c (.p (.int .i64 2)))])]) (.skip))) (.seq (.reg [oJ 28 (.bsl 1 [(.p (.str []))] 0 []),oM 9 28]) (.seq (.seq (.reg [oK 10 0]) (.blk 0 (.loop (.seq (.seq (.reg [oM 29 10,oF 30 1 8,oL 31 30,oJ 32 (.len false (.t 31)),oJ 33 (.bin .lss (.t 29) (.t 32))]) (.cond (.t 33) (.skip) (.exit 0))) (.seq (.blk 1 (.reg [oM 36 9,oM 37 7,oF 38 1 8,oL 39 38,oM 40 10,oJ 41 (.idxS 1 (.t 39) (.t 40)),oL 42 41,oJ 43 (.call bT [(.t 37),(.t 42),(.c (.p (.int .i64 0)))]),oJ 44 (.bsl 1 [(.p (.str []))] 1 [(0,1,(.t 43))]),oJ 45 (.app 1 16 (.t 36) (.t 44)),oM 9 45])) (.reg [oM 34 10,oJ 35 (.bin .add (.t 34) (.c (.p (.int .i64 1)))),oM 10 35])))))) (.seq (.reg [oM 46 9,oF 47 1 8,oS 47 46]) (.seq (.reg [oM 48 7,oF 49 2 8,oL 50 49,oJ 51 (.call aT [(.t 48),(.t 50),(.c (.p (.int .i64 0)))]),oF 52 2 8,oS 52 51]) (.seq (.reg [oM 54 7,oN 55 54,oF 56 4 55,oM 58 7,oN 59 58,oF 60 3 59,oJ 53 (.ld (some 3) (.t 8)),oL 57 56,oL 61 60,⟨none,none,.st 3 (.t 4) (.t 53)⟩,⟨none,none,.chk none 56 57⟩,⟨none,none,.chk none 60 61⟩,oM 5 57,oM 6 61]) (.ret)))))))))
theorem vX:K_spec_l4Fn.whole=F_spec_l4Fn.ak:=rfl
theorem wD:∀(ps:List (List UInt8)) (w:WS),w.vs.length≤w.count→(bX ps w).vs.length≤(bX ps w).count
 |[],w,h=>h
 |s::r,w,h=>wD r (iC w s 0) (by simp[iC];omega)
theorem Ao(a b:List (List UInt8))(w:WS):bX (a++b) w=bX b (bX a w):=by simp[bX]
theorem yM{l:List (List UInt8)}{w:WS}{i:Nat}(h:i<l.length):bX (l.take (i+1)) w=iC (bX (l.take i) w) l[i] 0:=by
 rw[al h,Ao];rfl
theorem xc:∀(a b:List (List UInt8)) (w:WS),kx (a++b) w=kx a w++kx b (bX a w)
 |[],b,w=>rfl
 |s::r,b,w=>by rw[List.cons_append,kx,kx,xc r];rfl
theorem AG{l:List (List UInt8)}{w:WS}{i:Nat}(h:i<l.length):kx (l.take (i+1)) w=kx (l.take i) w++[vnm (bX (l.take i) w).count]:=by
 rw[al h,xc];rfl
theorem sR:∀(l:List (List UInt8)) (w:WS),(kx l w).length=l.length
 |[],w=>rfl
 |s::r,w=>by rw[kx,List.length_cons,sR r,List.length_cons]
def w0(fns:List Fd)(k:Nat)(f:Fd):WS:=⟨[],0,if dx fns f.name=some k then 0 else 2⟩
theorem GG(fns:List Fd)(k:Nat)(f:Fd):fnW fns k f=bB fns k 0 f.body (bX f.params (w0 fns k f)):=rfl
theorem yB(fns:List Fd)(k:Nat)(f:Fd):(rnF fns k f).cs=[.str f.name,ay (kx f.params (w0 fns k f)),smL (eU fns k 0 f.body (bX f.params (w0 fns k f)))]:=rfl
variable (G:aA)
theorem Cb{fns:List Fd}{k:Nat}{f:Fd}(hk:fns[k]?=some f)(hz:bm fns≤1073741824):VF Tryz.prog G gy [.agg [.p (fdL fns)],.p (.int .i64 k)] (.tup [.agg ((rnF fns k f).cs.map .p),.p (.int .i64 (fnW fns k f).code),.p (.int .i64 (fnW fns k f).count)]):=by
 have hfl:=cK fns
 have hfm:=dk (List.mem_of_getElem? hk)
 have hfz:f.sz=1+f.name.length+(f.params.length+(f.params.map List.length).sum)+aG f.body:=rfl
 have hkl:=(List.getElem?_eq_some_iff.1 hk).1
 have key:AC Tryz.prog G gy [.agg [.p (fdL fns)],.p (.int .i64 k)] [] fun x h=>x= .ret (.tup [.agg [.p (.str f.name),.sl 5 1 0 f.params.length,.p (smL (eU fns k 0 f.body (bX f.params (w0 fns k f))))],.p (.int .i64 (fnW fns k f).code),.p (.int .i64 (fnW fns k f).count)])∧h[5]?=some (mT (kx f.params (w0 fns k f))):=by
  refine AC.goK xF vX ?_
  have hfd:∀l,fdL l= .lst 3 (l.map Fd.cs):=fun _=>rfl
  have hcs:f.cs=[.str f.name,ay f.params,smL f.body]:=rfl
  have hst:ay f.params= .lst 1 (f.params.map fun w=>[.str w]):=rfl
  simp-implicitDefEqProofs[K_spec_l4Fn,F_spec_l4Fn]
  refine kH (aj 62 [(1,.p (.int .i64 k)),(2,.ptr 0 1 0 0),(4,.ptr 1 3 0 0),(7,.ptr 2 5 0 0),(8,.ptr 3 3 0 0)])
   [.row 1 [[.p (fdL fns)]],.row 3 [[.p (.str []),.nils,.nils]],wO 4 true fns k ⟨[],0,0⟩,.row 3 [[.p (.str f.name),.p (ay f.params),.p (smL f.body)]],.dead] ?_ ?_
  ·simp-implicitDefEqProofs[hfd,hk,hcs]
   refine rQ (h:=[.row 1 [[.p (fdL fns)]],.row 3 [[.p (.str []),.nils,.nils]],wO 4 true fns k ⟨[],0,0⟩,.row 3 [[.p (.str f.name),.p (ay f.params),.p (smL f.body)]]]) (by simp) (by simp) ?_ (by simp[below])
   refine ae (by simp[okO,below]) (ae (by simp[okO,below]) (ae ?_ (ae (by simp[okO,below]) dS)))
   intro x hx
   rw[List.mem_singleton.1 hx];simp[wC,vaC,below]
  refine kH (aj 62 [(1,.p (.int .i64 k)),(2,.ptr 0 1 0 0),(4,.ptr 1 3 0 0),(7,.ptr 2 5 0 0),(8,.ptr 3 3 0 0)])
   [.row 1 [[.p (fdL fns)]],.row 3 [[.p (.str []),.nils,.nils]],wO 4 true fns k (w0 fns k f),.row 3 [[.p (.str f.name),.p (ay f.params),.p (smL f.body)]],.dead] ?_ ?_
  ·simp-implicitDefEqProofs[]
   refine(Dw G fns f.name (by omega)).use ?_
   have hok:∀w:WS,∀o∈[AO.row 1 [[.p (fdL fns)]],.row 3 [[.p (.str []),.nils,.nils]],wO 4 true fns k w,.row 3 [[.p (.str f.name),.p (ay f.params),.p (smL f.body)]],.dead],okO 5 o:=fun w=>
    ae (by simp[okO,below]) (ae (by simp[okO,below]) (ae (qK (by simp)) (ae (by simp[okO,below]) (ae trivial dS))))
   by_cases he:dx fns f.name=some k
   ·have hw:w0 fns k f=⟨[],0,0⟩:=by rw[w0,if_pos he]
    rw[hw,he]
    simp-implicitDefEqProofs[ixI]
    exact ab (by simp) (hok _) (by simp[below])
   ·have hw:w0 fns k f=⟨[],0,2⟩:=by rw[w0,if_neg he]
    have hne:¬ixI (dx fns f.name)=(k:Int):=by
     intro h
     apply he
     cases e:dx fns f.name with
     |none=>rw[e] at h;simp only[ixI] at h;omega
     |some j=>rw[e] at h;simp only[ixI] at h;have:j=k:=by omega
              rw[this]
    rw[hw]
    simp-implicitDefEqProofs[hne]
    refine(Hd G (wid:=2) (id:=4) (mF G true fns k ⟨[],0,0⟩ 2) (by simp) (by simp[below]) (by decide) rfl rfl).mono ?_
    rintro r h' ⟨rfl,rfl⟩
    simp-implicitDefEqProofs[aa]
    exact ab (h:=[AO.row 1 [[.p (fdL fns)]],.row 3 [[.p (.str []),.nils,.nils]],wO 4 true fns k ⟨[],0,2⟩,.row 3 [[.p (.str f.name),.p (ay f.params),.p (smL f.body)]],.dead]) (by simp) (hok _) (by simp[below])
  rw[GG]
  have hw0v:(w0 fns k f).vs=[]:=rfl
  have hw0c:(w0 fns k f).count=0:=rfl
  generalize w0 fns k f=w0 at hw0v hw0c⊢
  simp-implicitDefEqProofs[]
  have hcnt:∀j,j≤f.params.length→(bX (f.params.take j) w0).count=j:=fun j hj=>by rw[lR,hw0c];simp;omega
  have hvl:∀j,(bX (f.params.take j) w0).vs.length≤(bX (f.params.take j) w0).count:=fun j=>wD _ _ (by rw[hw0v];simp)
  refine az (fun j:Nat=>aj 62 [(1,.p (.int .i64 k)),(2,.ptr 0 1 0 0),(4,.ptr 1 3 0 0),(7,.ptr 2 5 0 0),(8,.ptr 3 3 0 0),(9,.sl 5 1 0 j),(10,.p (.int .i64 j))])
   (fun j=>[.row 1 [[.p (fdL fns)]],.row 3 [[.p (.str []),.nils,.nils]],wO 6 (decide (j=0)) fns k (bX (f.params.take j) w0),.row 3 [[.p (.str f.name),.p (ay f.params),.p (smL f.body)]],.dead,mT (kx (f.params.take j) w0),roC (decide (j=0)) (bX (f.params.take j) w0).vs])
   (fun j=>j≤f.params.length) (fun j=>f.params.length-j) 0 (by simp) ?_ ?_
  ·refine rQ (h:=[.row 1 [[.p (fdL fns)]],.row 3 [[.p (.str []),.nils,.nils]],wO 6 true fns k w0,.row 3 [[.p (.str f.name),.p (ay f.params),.p (smL f.body)]],.dead,.row 1 []]) (by simp) (by simp) ?_ (by simp[below])
   refine ae (by simp[okO,below]) (ae (by simp[okO,below]) (ae ?_ (ae (by simp[okO,below]) (ae trivial (ae (by simp[okO]) dS)))))
   intro x hx
   rw[List.mem_singleton.1 hx];simp[wC,vaC,below]
  intro j hj
  have hjc:=hcnt j hj
  have hjv:=hvl j
  have hol:=sR (f.params.take j) w0
  rw[List.length_take,Nat.min_eq_left hj] at hol
  have hnf:decide (j=0)=true→(bX (f.params.take j) w0).vs=[]:=by
   intro h
   have h0:j=0:=by simpa using h
   rw[h0,List.take_zero]
   exact hw0v
  simp-implicitDefEqProofs[hst]
  refine bh (fun h=>?_) (fun h=>?_)
  ·simp at h
   have hg:=List.getElem?_eq_getElem h
   have eP:=yM (w:=w0) h
   have eR:=AG (w:=w0) h
   simp-implicitDefEqProofs[hg]
   refine(BS G (wid:=2) (id:=6) (Q:=fun nf' w'=>nf'=false∧w'=iC (bX (f.params.take j) w0) f.params[j] 0) ((BK G (decide (j=0)) fns k _ hnf (by omega) (by omega) f.params[j] 0).mono (by rintro x h ⟨rfl,rfl⟩;exact⟨false,_,rfl,rfl,rfl,rfl⟩)) (by simp) (by simp[below]) (by decide) rfl rfl).mono ?_
   rintro r h' ⟨nf',w',rfl,rfl,rfl,rfl⟩
   have hso:∀l,mT l= .row 1 (l.map fun n=>[.p (.str n)]):=fun _=>rfl
   simp-implicitDefEqProofs[aa,hso,hol]
   refine⟨by omega,j+1,by omega,by omega,?_⟩
   have htk:List.take j ((kx (f.params.take j) w0).map fun n=>[AV.p (.str n)])=(kx (f.params.take j) w0).map fun n=>[AV.p (.str n)]:=List.take_of_length_le (by rw[List.length_map];omega)
   have hd:decide (j+1=0)=false:=by simp
   rw[eP,eR,hd,List.map_append,←List.map_take,List.map_take,htk]
   refine eC [0,1,2,3,4,9,7] rfl (by decide) (bH rfl (by simp) (bH rfl (by simp[below]) (tl (by simp) rfl (bH rfl (by simp) (gk (by simp) (bH rfl (fun x hx=>?_) (kV rfl (fb _ _ _) cQ))))))) (by simp[below,ren,w1 (i:=j) (by omega)])
   rcases List.mem_append.1 hx with h|h
   ·exact tZ _ x h
   ·exact tZ _ x h
  ·simp at h
   have hje:j=f.params.length:=by omega
   subst hje
   rw[List.take_length] at hol hjc hjv hnf⊢
   generalize decide (f.params.length=0)=nf at hnf⊢
   simp-implicitDefEqProofs[]
   refine(BS G (wid:=2) (id:=6) (Cf G (fns:=fns) (by omega) (aG f.body+1) f.body (by omega) 0 _ (bX f.params w0) hnf hjv (by omega) (by omega)) (by simp) (by simp[below]) (by decide) rfl rfl).mono ?_
   rintro r h' ⟨nf',w',rfl,rfl,hn',hw'⟩
   have hb:oc fns k 0 f.body (bX f.params w0)=bB fns k 0 f.body (bX f.params w0):=rfl
   rw[hb] at hw'
   rw[←hw']
   simp-implicitDefEqProofs[aa,wO,wC]
 refine key.freezeR (fun t v h ⟨e,_⟩=>by cases e) fun v h ⟨e1,e2⟩=>?_
 cases e1
 rw[yB]
 have hol:=sR f.params (w0 fns k f)
 have hv:=uD e2
 rw[hol] at hv
 exact .tup (.agg (.keep (by simp) (.one hv (.keep (by simp) .nil))) (.keep (by simp) (.keep (by simp) .nil))) .nil
theorem wu{fns:List Fd}{i:Nat}(h:i<fns.length):fN fns i (fns.drop i)=if(fnW fns i fns[i]).code=0 then fN fns (i+1) (fns.drop (i+1)) else(fnW fns i fns[i]).code:=by
 rw[List.drop_eq_getElem_cons h,fN]
theorem sj(l:List Fd)(hz:bm l≤1073741824):VF Tryz.prog G ee [.agg [.p (fdL l)]] (.p (.int .i64 (cZ l))):=by
 refine AC.go mW ?_
 have hll:=cK l
 have hfd:∀l,fdL l= .lst 3 (l.map Fd.cs):=fun _=>rfl
 simp-implicitDefEqProofs[gV]
 refine(sH G l (by omega)).use ?_
 by_cases hv:ce l=true
 case neg=>
  have:cZ l=1:=if_neg hv
  have hv':ce l=false:=by simpa using hv
  simp-implicitDefEqProofs[hv',this]
 have hc:cZ l=fN l 0 (l.drop 0):=if_pos hv
 rw[hc]
 simp-implicitDefEqProofs[hv]
 refine az (fun i:Nat=>aj 27 [(1,.ptr 0 1 0 0),(3,.p (.int .i64 i))]) (fun _=>[.row 1 [[.p (fdL l)]]]) (fun i=>i≤l.length∧fN l 0 l=fN l i (l.drop i)) (fun i=>l.length-i) 0 (by simp) (ab (by simp) (by simp[okO]) (by simp[below])) ?_
 rintro i ⟨hi,he⟩
 simp-implicitDefEqProofs[hfd]
 refine bh (fun h=>?_) (fun h=>?_)
 ·simp at h
  have hg:=List.getElem?_eq_getElem h
  have hd:=wu h
  simp-implicitDefEqProofs[]
  refine(Cb G hg hz).use ?_
  have hrc:=yB l i l[i]
  by_cases h0:(fnW l i l[i]).code=0
  ·rw[if_pos h0] at hd
   simp-implicitDefEqProofs[h0,hrc]
   refine⟨i+1,⟨by omega,by rw[he,hd]⟩,by omega,?_⟩
   refine jb (m:=1) (by omega) (eK rfl rfl (by simp[okO,below])) (by simp[below,hfd,w1 (i:=i) (by omega)])
  ·rw[if_neg h0] at hd
   simp-implicitDefEqProofs[h0,hrc]
   rw[he,hd]
 ·simp at h
  have hie:i=l.length:=by omega
  subst hie
  rw[List.drop_length] at he
  simp-implicitDefEqProofs[]
  rw[he];rfl
end Go.Proofs.YtnjbhgpbgmpkcaaGreatDoor
namespace Go.Proofs.YtnjbhgpbgmpkcaaGreatDoor
open Go Go.Aw
set_option maxRecDepth 100000
set_option maxHeartbeats 4000000
def mg(f:Fd):Nat:=f.params.length+cy f.body
def qM(st:Int)(x:Sm × Nat):Int:=if x.1.op=1 then IntKind.i64.wrap (st+1) else st
mutual
theorem Ej:∀(s:Sm) (d:Nat) (st:Int),0≤st→st+jQ s≤1099511627776→(s.pre d).foldl qM st=st+jQ s
 | .mk o n a bd el,d,st,h0,h=>by
   rw[jQ] at h
   have h1:=rA bd (d+1)
   have h2:=rA el (d+1)
   rw[Sm.pre,List.foldl_cons,List.foldl_append,jQ]
   by_cases ho:o=1
   ·have e:qM st (⟨o,n,a,bd,el⟩,d)=st+1:=by show(if o=1 then _ else _)=_;rw[if_pos ho,ag (by omega) (by rw[if_pos ho] at h;omega)]
    rw[if_pos ho] at h⊢
    rw[e,h1 _ (by omega) (by omega),h2 _ (by omega) (by omega)]
    omega
   ·have e:qM st (⟨o,n,a,bd,el⟩,d)=st:=by show(if o=1 then _ else _)=_;rw[if_neg ho]
    rw[if_neg ho] at h⊢
    rw[e,h1 _ (by omega) (by omega),h2 _ (by omega) (by omega)]
    omega
theorem rA:∀(l:List Sm) (d:Nat) (st:Int),0≤st→st+cy l≤1099511627776→(bv d l).foldl qM st=st+cy l
 |[],d,st,_,_=>by simp[bv,cy]
 |s::r,d,st,h0,h=>by
  rw[cy] at h
  rw[bv,List.foldl_append,Ej s d st h0 (by omega),rA r d _ (by omega) (by omega),cy]
  omega
end
def yz(f:Fd):Vis Int where
 I:=fun st=>[.row 3 [[.p (.str f.name),.p (ay f.params),.p (smL f.body)]],.row 1 [[.p (.int .i64 st)]]]
 n:=2
 F:=dA
 caps:=[.ptr 1 1 0 0]
 len:=fun _=>rfl
 ok:=fun st=>by simp[okO,below]
 capsOk:=by simp[below]
variable (G:aA)
theorem uJ(f:Fd)(st:Int)(s:Sm)(d:Nat):AC Tryz.prog G dA [.agg (s.cs.map .p),.p (.int .i64 d),.ptr 1 1 0 0] ((yz f).I st) fun x h=>x= .ret (.tup [])∧h=(yz f).I (qM st (s,d)):=by
 refine(yz f).trim G (AC.go pc ?_) (by simp[below])
 have hse:=s.cs_eq
 by_cases ho:s.op=1
 ·simp-implicitDefEqProofs[fv,hse,yz,qM,ho]
 ·simp-implicitDefEqProofs[fv,hse,yz,qM,ho]
theorem xL(f:Fd)(hb:f.sz≤1073741824):VF Tryz.prog G gS [.agg (f.cs.map .p)] (.p (.int .i64 (mg f))):=by
 have hcs:=f.cs_eq'
 have hfz:f.sz=1+f.name.length+(f.params.length+(f.params.map List.length).sum)+aG f.body:=rfl
 have hl:=lE f.body
 have hl2:=kw f.body
 have hst:ay f.params= .lst 1 (f.params.map fun w=>[.str w]):=rfl
 have hI:=(zs G (yz f) qM (fun _=>True) 1073741824 (by omega) (fun st s d _ _=>⟨trivial,uJ G f st s d⟩) (aG f.body+1) f.body (by omega) (by omega) 1 (by omega) (f.params.length:Int) trivial).2
 rw[rA f.body 1 f.params.length (by omega) (by omega)] at hI
 refine AC.go rb ?_
 simp-implicitDefEqProofs[kQ,hcs,hst]
 refine hI.mono ?_
 rintro r h ⟨rfl,rfl⟩
 simp-implicitDefEqProofs[aa,yz,mg]
theorem Ea(l:List Fd)(hz:bm l≤1073741824):VF Tryz.prog G ju [.agg [.p (fdL l)]] (.p (.bool (decide (cZ l=0)))):=by
 refine AC.go tD ?_
 simp-implicitDefEqProofs[np]
 refine(sj G l hz).use ?_
 simp-implicitDefEqProofs[]
variable (hK:G fS=some fq) (hS:G dj=some [.tbl opK opV])
include hK hS
theorem GF(l:List Fd)(hz:bm l≤1073741824):VF Tryz.prog G me [.agg [.p (fdL l)]] (.p (.bool (decide (cZ l=0)))):=by
 refine AC.go wq ?_
 simp-implicitDefEqProofs[qR]
 refine(sD G hK hS l hz).use ?_
 simp-implicitDefEqProofs[]
end Go.Proofs.YtnjbhgpbgmpkcaaGreatDoor
namespace Go.Proofs.YtnjbhgpbgmpkcaaGreatDoor
open Go Go.Aw
set_option maxRecDepth 100000
set_option maxHeartbeats 4000000
def cw{σ α β:Type}(g:σ→α→β × σ):σ→List α→List β × σ
 |st,[]=>([],st)
 |st,x::r=>((g st x).1::(cw g (g st x).2 r).1,(cw g (g st x).2 r).2)
theorem wU{σ α β:Type}(g:σ→α→β × σ):∀(a b:List α) (st:σ),cw g st (a++b)=((cw g st a).1++(cw g (cw g st a).2 b).1,(cw g (cw g st a).2 b).2)
 |[],b,st=>rfl
 |x::r,b,st=>by rw[List.cons_append,cw,wU g r];rfl
theorem mL{σ α β:Type}{g:σ→α→β × σ}{l:List α}{st:σ}{i:Nat}(h:i<l.length):cw g st (l.take (i+1))=((cw g st (l.take i)).1++[(g (cw g st (l.take i)).2 l[i]).1],(g (cw g st (l.take i)).2 l[i]).2):=by
 rw[al h,wU];rfl
theorem lH{σ α β:Type}(g:σ→α→β × σ):∀(l:List α) (st:σ),(cw g st l).1.length=l.length
 |[],st=>rfl
 |x::r,st=>by rw[cw,List.length_cons,List.length_cons,lH g r]
theorem lF{σ α β:Type}{g:σ→α→β × σ}{inv:Nat→σ→Prop}:∀{l:List α} {st:σ} {k:Nat},inv k st→(∀(i:Nat) st (h:i<l.length),inv (k+i) st→inv (k+i+1) (g st l[i]).2)→∀i,i≤l.length→inv (k+i) (cw g st (l.take i)).2
 |[],st,k,h0,_,i,hi=>by
  have:i=0:=by simpa using hi
  subst this;exact h0
 |x::r,st,k,h0,hs,0,_=>h0
 |x::r,st,k,h0,hs,i+1,hi=>by
  have h1:=hs 0 st (by simp) h0
  have:=lF (g:=g) (l:=r) (st:=(g st x).2) (k:=k+1) h1 (fun j st hj hv=>by
   have:=hs (j+1) st (by simp;omega) (by rw[show k+(j+1)=k+1+j by omega];exact hv)
   rw[show k+(j+1)+1=k+1+j+1 by omega] at this
   exact this) i (by simpa using hi)
  rw[List.take_succ_cons,cw,show k+(i+1)=k+1+i by omega]
  exact this
variable (G:aA)
end Go.Proofs.YtnjbhgpbgmpkcaaGreatDoor
namespace Go.Proofs.YtnjbhgpbgmpkcaaGreatDoor
open Go Go.Aw
set_option maxRecDepth 100000
theorem aS{s:Bool}{h:List AO}{vs:List AV}{q:PV}{I:List Nat}(H:OwnL s h vs [q] I):∃v,vs=[v]:=by
 have:=H.len
 match vs,this with
 |[v],_=>exact⟨v,rfl⟩
theorem Eo{s:Bool}{h:List AO}{vs:List AV}{q r:PV}{I:List Nat}(H:OwnL s h vs [q,r] I):∃a b,vs=[a,b]:=by
 have:=H.len
 match vs,this with
 |[a,b],_=>exact⟨a,b,rfl⟩
theorem BA{s:Bool}{h:List AO}{vs:List AV}{q r t:PV}{I:List Nat}(H:OwnL s h vs [q,r,t] I):∃a b c,vs=[a,b,c]:=by
 have:=H.len
 match vs,this with
 |[a,b,c],_=>exact⟨a,b,c,rfl⟩
theorem sg{s:Bool}{h:List AO}{vs:List AV}{e:Ex}{I:List Nat}(H:OwnL s h vs e.cs I):∃K,vs=[.p (.int .i64 e.op),.p (.int .i64 e.n),.p (.str e.name),K]∧OwnL s h [K] [exL e.kids] I:=by
 rw[e.cs_eq] at H
 cases H with
 |p _ _ H=>
  cases H with
  |p _ _ H=>
   cases H with
   |p _ _ H=>
    obtain⟨v,rfl⟩:=aS H
    exact⟨v,rfl,H⟩
theorem Hg{s:Bool}{h:List AO}{o n:Int}{w:List UInt8}{k:List Ex}{K:AV}{I:List Nat}(H:OwnL s h [K] [exL k] I):OwnL s h [.p (.int .i64 o),.p (.int .i64 n),.p (.str w),K] (Ex.mk o n w k).cs I:=by
 rw[Ex.cs_eq]
 exact .p _ (fun _=>rfl) (.p _ (fun _=>rfl) (.p _ (fun _=>rfl) H))
theorem yE{s:Bool}{h:List AO}{vs:List AV}{e:Sm}{I:List Nat}(H:OwnL s h vs e.cs I):∃A B E I1 I2 I3,vs=[.p (.int .i64 e.op),.p (.str e.name),A,B,E]∧I=I1++(I2++I3)∧OwnL s h [A] [exL e.args] I1∧OwnL s h [B] [smL e.body] I2∧OwnL s h [E] [smL e.els] I3:=by
 rw[e.cs_eq] at H
 cases H with
 |p _ _ H=>
  cases H with
  |p _ _ H=>
   obtain⟨A,B,E,rfl⟩:=BA H
   obtain⟨I1,I',rfl,h1,H⟩:=H.one
   obtain⟨I2,I3,rfl,h2,h3⟩:=H.one
   exact⟨A,B,E,I1,I2,I3,rfl,rfl,h1,h2,h3⟩
theorem GB{s:Bool}{h:List AO}{o:Int}{w:List UInt8}{a:List Ex}{b e:List Sm}{A B E:AV}{I1 I2 I3:List Nat}(h1:OwnL s h [A] [exL a] I1)(h2:OwnL s h [B] [smL b] I2)(h3:OwnL s h [E] [smL e] I3):
 OwnL s h [.p (.int .i64 o),.p (.str w),A,B,E] (Sm.mk o w a b e).cs (I1++(I2++I3)):=by
 rw[Sm.cs_eq]
 exact .p _ (fun _=>rfl) (.p _ (fun _=>rfl) (h1.app (h2.app h3)))
theorem yq{s:Bool}{h:List AO}{vs:List AV}{f:Fd}{I:List Nat}(H:OwnL s h vs f.cs I):∃A B I1 I2,vs=[.p (.str f.name),A,B]∧I=I1++I2∧OwnL s h [A] [ay f.params] I1∧OwnL s h [B] [smL f.body] I2:=by
 rw[show f.cs=[.str f.name,ay f.params,smL f.body] from rfl] at H
 cases H with
 |p _ _ H=>
  obtain⟨A,B,rfl⟩:=Eo H
  obtain⟨I1,I2,rfl,h1,H⟩:=H.one
  exact⟨A,B,I1,I2,rfl,rfl,h1,H⟩
theorem Hb{s:Bool}{h:List AO}{w:List UInt8}{ps:List (List UInt8)}{b:List Sm}{A B:AV}{I1 I2:List Nat}(h1:OwnL s h [A] [ay ps] I1)(h2:OwnL s h [B] [smL b] I2):OwnL s h [.p (.str w),A,B] (Fd.mk w ps b).cs (I1++I2):=
 .p _ (fun _=>rfl) (h1.app h2)
end Go.Proofs.YtnjbhgpbgmpkcaaGreatDoor
namespace Go.Proofs.YtnjbhgpbgmpkcaaGreatDoor
open Go Go.Aw
set_option maxRecDepth 100000
theorem Gb{P:Program}{G:aA}{f:FuncId}{args:List AV}{w:List AV→AV}{s:Bool}{qs:List PV}{A A':List AO}(hw:Shp w)(H:AC P G f args A (Mk w s qs A'))(hl:A'.length=A.length)(ha:ah A.length args)(hA:∀o∈A,okO A.length o)(hA':∀o∈A',okO A.length o)(B:List AO):
 AC P G f args (A++B) (Mk w s qs (A'++B)):=by
 refine(H.frame (List.range' 0 A.length) List.nodup_range' (zZ ha) (FX rfl hA)).mono ?_
 rintro x h' ⟨x0,h0,⟨vs,I,os,rfl,rfl,ho,nd,hf⟩,hl0,rfl,rfl⟩
 have hlen:(A'++os).length-A.length=os.length:=by rw[List.length_append];omega
 rw[hlen]
 have hσ:∀i,i<A.length→(List.range' 0 A.length++List.range' (A++B).length os.length).getD i 0=i:=fun i hi=>by
  rw[List.getD_eq_getElem?_getD,List.getElem?_append_left (by simpa using hi)];simp[hi]
 have hσ2:∀i,i<os.length→(List.range' 0 A.length++List.range' (A++B).length os.length).getD (A.length+i) 0=(A++B).length+i:=fun i hi=>by
  rw[List.getD_eq_getElem?_getD,List.getElem?_append_right (by simp)];simp[hi]
 generalize List.range' 0 A.length++List.range' (A++B).length os.length=σ at hσ hσ2⊢
 have em:A'.map (dC σ)=A':=by
  rw[List.map_congr_left (g:=id) fun o ho=>oy hσ o (hA' o ho)];simp
 have hm:=vg A A' B 0 hl [] rfl
 simp only[List.nil_append] at hm
 rw[List.take_append_of_le_length (by omega),List.take_of_length_le (by omega),List.drop_append_of_le_length (by omega),List.drop_of_length_le (by omega),em,List.nil_append,hm]
 have hlt:∀i∈I,∃j,i=A.length+j∧j<os.length:=fun i hi=>by
  have h1:=hf i hi
  have h2:=ho.lt hi
  rw[List.length_append] at h2
  exact⟨i-A.length,by omega,by omega⟩
 refine⟨bn σ vs,I.map fun i=>σ.getD i 0,os.map (dC σ),by simp only[uH];rw[hw.ren],rfl,ho.ren fun i hi sz rows e=>?_,?_,fun i hi=>?_⟩
 ·obtain⟨j,rfl,hj⟩:=hlt i hi
  rw[List.getElem?_append_right (by omega),hl,Nat.add_sub_cancel_left] at e
  rw[hσ2 j hj,List.getElem?_append_right (by rw[List.length_append,List.length_append,hl];omega),List.length_append,List.length_append,hl,Nat.add_sub_cancel_left,List.getElem?_map,e]
  rfl
 ·rw[List.map_congr_left (g:=fun i=>B.length+i) fun i hi=>by
   obtain⟨j,rfl,hj⟩:=hlt i hi
   rw[hσ2 j hj,List.length_append];omega]
  exact kj (fun i j e=>by omega) nd
 ·obtain⟨i',hi',rfl⟩:=List.mem_map.1 hi
  obtain⟨j,rfl,hj⟩:=hlt i' hi'
  rw[hσ2 j hj,List.length_append,List.length_append,hl];omega
theorem Vis.preO{G:aA}{σ:Type}(V:Vis σ){f:FuncId}{args:List AV}{st st':σ}{w:List AV→AV}{qs:List PV}(hw:Shp w)(H:AC Tryz.prog G f args (V.I st) (Mk w true qs (V.I st')))(rest:List AO)(ha:ah V.n args):
 AC Tryz.prog G f args (V.I st++rest) (Mk w true qs (V.I st'++rest)):=
 Gb hw H (by rw[V.len,V.len]) (by rw[V.len];exact ha) (by rw[V.len];exact V.ok st) (by rw[V.len];exact V.ok st') rest
theorem Db{w:List AV→AV}{vs:List AV}{qs:List PV}{I:List Nat}{X Y C0 C1 os:List AO}(ho:OwnL true (X++os) vs qs I)(nd:I.Nodup)(hf:∀i∈I,X.length≤i)(hl:Y.length+C0.length+C1.length=X.length):
 Mk w true qs (Y++C0) (.ret (w vs)) (Y++(C0++(C1++os))):=by
 refine⟨vs,I,C1++os,rfl,by simp,ho.frame fun i hi=>?_,nd,fun i hi=>?_⟩
 ·have h1:=hf i hi
  rw[List.getElem?_append_right h1,←List.append_assoc,←List.append_assoc,List.getElem?_append_right (by rw[List.length_append,List.length_append];omega),List.length_append,List.length_append,hl]
 ·have h1:=hf i hi
  rw[List.length_append];omega
theorem xS{w:List AV→AV}{vs:List AV}{qs:List PV}{I:List Nat}{X Y C1 os:List AO}(ho:OwnL true (X++os) vs qs I)(nd:I.Nodup)(hf:∀i∈I,X.length≤i)(hl:Y.length+C1.length=X.length):
 Mk w true qs Y (.ret (w vs)) (Y++(C1++os)):=by
 have:=Db (w:=w) (Y:=Y) (C0:=[]) (C1:=C1) ho nd hf (by simpa using hl)
 simpa using this
def GroI{σ:Type}(V:Vis σ)(sz:Nat)(D:List (List PV))(st:σ)(h:List AO)(x:AV):Prop:=
 (∃os,h=V.I st++os)∧((D=[]∧x= .nils)∨∃id rows J,x= .sl id sz 0 D.length∧D≠[]∧RowOwn true h id sz rows D J∧∀j∈id::J,V.n≤j)
section
variable {σ:Type} {V:Vis σ} {sz:Nat} {D:List (List PV)} {st st':σ} {h:List AO} {x:AV}
theorem GroI.init:GroI V sz [] st (V.I st) .nils:=⟨⟨[],by simp⟩,.inl ⟨rfl,rfl⟩⟩
theorem GroI.done(H:GroI V sz D st h x):Mk one true [.lst sz D] (V.I st) (.ret x) h:=by
 obtain⟨⟨os,rfl⟩,⟨rfl,rfl⟩|⟨id,rows,J,rfl,_,hr,hJ⟩⟩:=H
 ·exact⟨[.nils],[],os,rfl,rfl,.nils sz .nil,List.nodup_nil,fun _ h=>by cases h⟩
 ·exact⟨[_],id::J,os,rfl,rfl,hr.tree rfl,hr.nd,fun i hi=>by rw[V.len];exact hJ i hi⟩
structure GroS (σ:Type) where (i:Nat) (st:σ) (h:List AO) (x:AV)
theorem GroI.call{G:aA}(H:GroI V sz D st h x){f:FuncId}{args:List AV}{w:List AV→AV}{qs:List PV}(hw:Shp w)(HA:AC Tryz.prog G f args (V.I st) (Mk w true qs (V.I st')))(ha:ah V.n args)(B:List AO):
 AC Tryz.prog G f args (h++B) (Mk w true qs (V.I st'++h.drop V.n++B)):=by
 obtain⟨⟨os,rfl⟩,_⟩:=H
 have hdrop:(V.I st++os).drop V.n=os:=by rw[←V.len st,List.drop_left'];rfl
 rw[hdrop,List.append_assoc,List.append_assoc]
 exact V.preO hw HA (os++B) ha
theorem GroI.len(H:GroI V sz D st h x):V.n≤h.length:=by
 obtain⟨⟨os,rfl⟩,_⟩:=H
 rw[List.length_append,V.len];omega
theorem GroI.step(H:GroI V sz D st h x){e:List PV}(he:e.length=sz){h2 os2:List AO}(e2:h2=V.I st'++h.drop V.n++os2){r':List AV}{I2:List Nat}(ho:OwnL true h2 r' e I2)(nd2:I2.Nodup)(hf:∀j∈I2,h.length≤j):
 (x= .nils∧D=[]∧∀m:List AO,GroI V sz [e] st' (h2++(m++[.row sz [r']])) (.sl (h2.length+m.length) sz 0 1))∨
 ∃id rows,x= .sl id sz 0 D.length∧h2[id]?=some (.row sz rows)∧rows.length=D.length∧id<h2.length∧∀m:List AO,GroI V sz (D++[e]) st' ((h2++m).set id .dead++[.row sz (rows++[r'])]) (.sl (h2.length+m.length) sz 0 (D.length+1)):=by
 obtain⟨⟨os,rfl⟩,hx⟩:=H
 have hdrop:(V.I st++os).drop V.n=os:=by rw[←V.len st,List.drop_left'];rfl
 rw[hdrop] at e2
 have hl:(V.I st++os).length=V.n+os.length:=by rw[List.length_append,V.len]
 rw[hl] at hf
 have hsz:r'.length=sz:=by rw[ho.len,he]
 rcases hx with⟨rfl,rfl⟩|⟨id,rows,J,rfl,hD,hr,hJ⟩
 ·refine .inl ⟨rfl,rfl,fun m=>⟨⟨os++os2++(m++[.row sz [r']]),by rw[e2];simp⟩,.inr ⟨_,[r'],I2,rfl,by simp,⟨?_,rfl,by simp[hsz],by simp[he],?_,?_⟩,?_⟩⟩⟩
  ·rw[←List.append_assoc,List.getElem?_append_right (by simp)];simp
  ·have:=ho.more (m++[.row sz [r']])
   simpa using this
  ·rw[List.nodup_cons]
   exact⟨fun hm=>by have:=ho.lt hm;omega,nd2⟩
  ·intro j hj
   rcases List.mem_cons.1 hj with rfl|hj
   ·rw[e2];simp[V.len]<;>omega
   ·have:=hf j hj;omega
 ·have hr2:RowOwn true (V.I st'++os) id sz rows D J:=hr.frame fun i hi=>by
   have:=hJ i hi
   rw[List.getElem?_append_right (by rw[V.len];exact this),List.getElem?_append_right (by rw[V.len];exact this),V.len,V.len]
  have hid:h2[id]?=some (.row sz rows):=by rw[e2,List.getElem?_append_left hr2.lt];exact hr2.here
  refine .inr ⟨id,rows,rfl,hid,hr.len,(List.getElem?_eq_some_iff.1 hid).1,fun m=>?_⟩
  have hp:=hr2.push (h2:=h2++m) (os:=os2++m) (by rw[e2];simp) (ho.more m) nd2 (fun j hj=>by have:=hf j hj;rw[List.length_append,V.len];exact this) he
  have hid0:=hJ id (by simp)
  refine⟨⟨(os++os2++m).set (id-V.n) .dead++[.row sz (rows++[r'])],?_⟩,.inr ⟨(h2++m).length,rows++[r'],J++I2,by simp,by simp,hp,fun j hj=>?_⟩⟩
  ·rw[e2,←List.append_assoc]
   congr 1
   rw[List.append_assoc,List.append_assoc,List.set_append_right _ _ (by rw[V.len];exact hid0),V.len]
   simp
  ·rcases List.mem_cons.1 hj with rfl|hj
   ·rw[e2];simp[V.len]<;>omega
   ·rcases List.mem_append.1 hj with hj|hj
    ·exact hJ j (by simp[hj])
    ·have:=hf j hj;omega
end
end Go.Proofs.YtnjbhgpbgmpkcaaGreatDoor
namespace Go.Proofs.YtnjbhgpbgmpkcaaGreatDoor
open Go Go.Aw
set_option maxRecDepth 100000
set_option maxHeartbeats 4000000
theorem KC{r:List AV}(h:r.length=4):∃a b c d,r=[a,b,c,d]:=by
 match r,h with
 |[a,b,c,d],_=>exact⟨a,b,c,d,rfl⟩
theorem Ka{r:List AV}(h:r.length=5):∃a b c d e,r=[a,b,c,d,e]:=by
 match r,h with
 |[a,b,c,d,e],_=>exact⟨a,b,c,d,e,rfl⟩
theorem Kh{r:List AV}(h:r.length=3):∃a b c,r=[a,b,c]:=by
 match r,h with
 |[a,b,c],_=>exact⟨a,b,c,rfl⟩
def zEx:List PV:=[.int .i64 0,.int .i64 0,.str [],.lst 4 []]
def zSm:List PV:=[.int .i64 0,.str [],.lst 4 [],.lst 5 [],.lst 5 []]
def zFd:List PV:=[.str [],.lst 1 [],.lst 5 []]
theorem cT(q:PV):(AV.p q).cells=[.p q]:=rfl
theorem aD:AV.nils.cells=[.nils]:=rfl
theorem aQ(c:List AV):(AV.agg c).cells=c:=rfl
theorem cV(q:PV):(AV.p q).isCell=true:=rfl
theorem aE:AV.nils.isCell=true:=rfl
theorem bz{s:Bool}{h:List AO}{v:AV}{q:PV}{I:List Nat}(H:OwnL s h [v] [q] I):v.cells=[v]∧v.isCell=true:=by
 cases H with
 |p _ _ _=>exact⟨rfl,rfl⟩
 |nils _ _=>exact⟨rfl,rfl⟩
 |sl id sz n rows es _ _ _ _ _ _ _=>exact⟨rfl,rfl⟩
theorem fr3{s:Bool}{a b c a' b' c':AO}{os r:List AO}{vs:List AV}{qs:List PV}{I:List Nat}(H:OwnL s (a::b::c::os) vs qs I)(hI:∀i∈I,3≤i):OwnL s (a'::b'::c'::(os++r)) vs qs I:=by
 have h1:OwnL s (a'::b'::c'::os) vs qs I:=H.frame fun i hi=>by
  have:=hI i hi
  obtain⟨k,rfl⟩:∃k,i=k+3:=⟨i-3,by omega⟩
  rfl
 exact h1.more r
theorem qu{I J:List Nat}(k:Nat)(n1:I.Nodup)(n2:J.Nodup)(h1:∀i∈I,i<k)(h2:∀j∈J,k≤j):(I++J).Nodup:=
 List.nodup_append.2 ⟨n1,n2,fun a ha b hb e=>by have:=h1 a ha;have:=h2 b hb;omega⟩
variable (G:aA)
theorem ux(l:List Ex)(hb:l.length≤1048576)(H:∀e∈l,AC Tryz.prog G dv [.agg (e.cs.map .p)] [] (MkW .agg true e.cs)):AC Tryz.prog G bQ [.p (exL l)] [] (MkW one true [exL l]):=by
 have hsl:∀l,exL l= .lst 4 (l.map Ex.cs):=fun _=>rfl
 refine AC.go lL ?_
 simp-implicitDefEqProofs[iP,hsl]
 refine⟨by omega,?_⟩
 refine az (fun a:FilS=>aj 23 [(0,.p (exL l)),(3,.sl 0 4 0 l.length),(4,.p (.int .i64 a.i))]) (fun a=>a.h) (FilI true 0 4 (l.map Ex.cs) zEx) (fun a=>l.length-a.i) ⟨0,[.row 4 (List.replicate l.length [.p (.int .i64 0),.p (.int .i64 0),.p (.str []),.nils])]⟩
  (FilI.init rfl (by simp) (.p _ (fun _=>rfl) (.p _ (fun _=>rfl) (.p _ (fun _=>rfl) (.nils 4 .nil)))) rfl) ?_ ?_
 ·exact aP (by simp) (by simp[below,hsl])
 ·rintro⟨i,hh⟩ hI
  simp-implicitDefEqProofs[hsl]
  refine bh (fun h1=>?_) (fun h1=>?_)
  ·simp at h1
   have hg:=List.getElem?_eq_getElem h1
   have hH:=H l[i] (List.getElem_mem h1)
   have hcs:=l[i].cs_eq
   have hD':(l.map Ex.cs)[i]?=some l[i].cs:=by rw[List.getElem?_map,hg];rfl
   generalize l[i]=e at hg hH hcs hD'
   have hA:=AC.mkLift gt hH (h:=hh) (by rw[hcs];simp)
   rw[hcs] at hA
   simp-implicitDefEqProofs[hg,hcs]
   refine hA.mono ?_
   rintro r h2 ⟨vs,I2,os,rfl,e2,ho,nd,hf⟩
   rw[←hcs] at ho
   obtain⟨rows,r0,k1,k2,k3,k4,k5,k6⟩:=hI.step hD' e2 ho nd hf e.cs_len
   obtain⟨K,rfl,hK⟩:=sg ho
   obtain⟨c1,c2⟩:=bz hK
   obtain⟨z1,z2,z3,z4,rfl⟩:=KC k3
   have hll:0<h2.length:=(List.getElem?_eq_some_iff.1 k1).1
   simp-implicitDefEqProofs[-AV.cells,-AV.isCell,cT,aD,aQ,cV,aE,c1,c2,aa,k1,k2,h1,dK]
   refine⟨_,k6,by simp;omega,aP (by simp) ?_⟩
   simp[below,hsl,w1 (i:=i) (by omega)]
   omega
  ·simp at h1
   obtain⟨rows,J,hr⟩:=hI.done (by simpa using h1)
   simp-implicitDefEqProofs[]
   exact⟨_,_,rfl,hr.tree (by simp),hr.nd⟩
theorem Ci:∀(N:Nat) (e:Ex),e.sz≤N→e.sz≤1048576→AC Tryz.prog G dv [.agg (e.cs.map .p)] [] (MkW .agg true e.cs):=by
 intro N
 induction N with
 |zero=>intro e he;have:=e.sz_pos;omega
 |succ N ih=>
  intro e he hb
  have hec:=e.cs_eq
  have hsz:=e.sz_eq
  have hkl:=bt e.kids
  have hS:=ux G e.kids (by omega) (fun x hx=>ih x (by have:=aW hx;omega) (by have:=aW hx;omega))
  refine AC.go nF ?_
  simp-implicitDefEqProofs[jw,hec]
  refine(AC.mkLift ic hS (by simp)).mono ?_
  rintro r h2 ⟨vs,I2,os,rfl,e2,ho,nd,hf⟩
  obtain⟨K,rfl⟩:=aS ho
  obtain⟨c1,c2⟩:=bz ho
  simp at hf
  subst e2
  simp-implicitDefEqProofs[-AV.cells,-AV.isCell,cT,aD,aQ,cV,aE,c1,c2,aa,one]
  refine⟨_,I2,rfl,?_,nd⟩
  have:=Hg (o:=e.op) (n:=e.n) (w:=e.name) (k:=e.kids) (fr3 (r:=[]) (a':= .row 4 [[.p (.int .i64 e.op),.p (.int .i64 e.n),.p (.str e.name),.p (exL e.kids)]]) (b':= .row 4 [[.p (.int .i64 e.op),.p (.int .i64 e.n),.p (.str e.name),K]]) (c':= .row 4 [[.p (.int .i64 e.op),.p (.int .i64 e.n),.p (.str e.name),K]]) ho hf)
  rw[List.append_nil,Ex.cs_eq] at this
  exact this
theorem AM(l:List Ex)(hb:bK l≤1048576):AC Tryz.prog G bQ [.p (exL l)] [] (MkW one true [exL l]):=
 ux G l (by have:=bt l;omega) (fun e he=>Ci G e.sz e (Nat.le_refl _) (by have:=aW he;omega))
theorem qh(l:List Sm)(hb:l.length≤1048576)(H:∀e∈l,AC Tryz.prog G dr [.agg (e.cs.map .p)] [] (MkW .agg true e.cs)):AC Tryz.prog G bu [.p (smL l)] [] (MkW one true [smL l]):=by
 have hsl:∀l,smL l= .lst 5 (l.map Sm.cs):=fun _=>rfl
 refine AC.go lu ?_
 simp-implicitDefEqProofs[iZ,hsl]
 refine⟨by omega,?_⟩
 refine az (fun a:FilS=>aj 23 [(0,.p (smL l)),(3,.sl 0 5 0 l.length),(4,.p (.int .i64 a.i))]) (fun a=>a.h) (FilI true 0 5 (l.map Sm.cs) zSm) (fun a=>l.length-a.i) ⟨0,[.row 5 (List.replicate l.length [.p (.int .i64 0),.p (.str []),.nils,.nils,.nils])]⟩
  (FilI.init rfl (by simp) (.p _ (fun _=>rfl) (.p _ (fun _=>rfl) (.nils 4 (.nils 5 (.nils 5 .nil))))) rfl) ?_ ?_
 ·exact aP (by simp) (by simp[below,hsl])
 ·rintro⟨i,hh⟩ hI
  simp-implicitDefEqProofs[hsl]
  refine bh (fun h1=>?_) (fun h1=>?_)
  ·simp at h1
   have hg:=List.getElem?_eq_getElem h1
   have hH:=H l[i] (List.getElem_mem h1)
   have hcs:=l[i].cs_eq
   have hD':(l.map Sm.cs)[i]?=some l[i].cs:=by rw[List.getElem?_map,hg];rfl
   generalize l[i]=e at hg hH hcs hD'
   have hA:=AC.mkLift gt hH (h:=hh) (by rw[hcs];simp)
   rw[hcs] at hA
   simp-implicitDefEqProofs[hg,hcs]
   refine hA.mono ?_
   rintro r h2 ⟨vs,I2,os,rfl,e2,ho,nd,hf⟩
   rw[←hcs] at ho
   obtain⟨rows,r0,k1,k2,k3,k4,k5,k6⟩:=hI.step hD' e2 ho nd hf e.cs_len
   obtain⟨A,B,E,I3,I4,I5,rfl,_,hA1,hA2,hA3⟩:=yE ho
   obtain⟨c1,c2⟩:=bz hA1
   obtain⟨c3,c4⟩:=bz hA2
   obtain⟨c5,c6⟩:=bz hA3
   obtain⟨z1,z2,z3,z4,z5,rfl⟩:=Ka k3
   have hll:0<h2.length:=(List.getElem?_eq_some_iff.1 k1).1
   simp-implicitDefEqProofs[-AV.cells,-AV.isCell,cT,aD,aQ,cV,aE,c1,c2,c3,c4,c5,c6,aa,k1,k2,h1,dK]
   refine⟨_,k6,by simp;omega,aP (by simp) ?_⟩
   simp[below,hsl,w1 (i:=i) (by omega)]
   omega
  ·simp at h1
   obtain⟨rows,J,hr⟩:=hI.done (by simpa using h1)
   simp-implicitDefEqProofs[]
   exact⟨_,_,rfl,hr.tree (by simp),hr.nd⟩
theorem Ck:∀(N:Nat) (e:Sm),e.sz≤N→e.sz≤1048576→AC Tryz.prog G dr [.agg (e.cs.map .p)] [] (MkW .agg true e.cs):=by
 intro N
 induction N with
 |zero=>intro e he;have:=e.sz_pos;omega
 |succ N ih=>
  intro e he hb
  have hec:=e.cs_eq
  have hsz:=e.sz_eq
  have hA:=AM G e.args (by omega)
  have hB:=qh G e.body (by have:=br e.body;omega) (fun x hx=>ih x (by have:=aV hx;omega) (by have:=aV hx;omega))
  have hE:=qh G e.els (by have:=br e.els;omega) (fun x hx=>ih x (by have:=aV hx;omega) (by have:=aV hx;omega))
  refine AC.go no ?_
  simp-implicitDefEqProofs[jz,hec]
  refine(AC.mkLift ic hA (by simp)).mono ?_
  rintro r h2 ⟨vs,I1,os1,rfl,e2,o1,n1,f1⟩
  obtain⟨A,rfl⟩:=aS o1
  obtain⟨c1,c2⟩:=bz o1
  have l1:=fun i (hi:i∈I1)=>o1.lt hi
  simp at f1
  subst e2
  simp at l1
  simp-implicitDefEqProofs[-AV.cells,-AV.isCell,cT,aD,aQ,cV,aE,c1,c2,aa,one]
  refine(AC.mkLift ic hB (by simp)).mono ?_
  rintro r h2 ⟨vs,I2,os2,rfl,e2,o2,n2,f2⟩
  obtain⟨B,rfl⟩:=aS o2
  obtain⟨c3,c4⟩:=bz o2
  have l2:=fun i (hi:i∈I2)=>o2.lt hi
  simp at f2
  subst e2
  simp at l2
  simp-implicitDefEqProofs[-AV.cells,-AV.isCell,cT,aD,aQ,cV,aE,c1,c2,c3,c4,aa,one]
  refine(AC.mkLift ic hE (by simp)).mono ?_
  rintro r h2 ⟨vs,I3,os3,rfl,e2,o3,n3,f3⟩
  obtain⟨E,rfl⟩:=aS o3
  obtain⟨c5,c6⟩:=bz o3
  simp at f3
  subst e2
  simp-implicitDefEqProofs[-AV.cells,-AV.isCell,cT,aD,aQ,cV,aE,c1,c2,c3,c4,c5,c6,aa,one]
  simp only[List.cons_append,List.nil_append,List.append_assoc] at o1 o2 o3
  refine⟨_,I1++(I2++I3),rfl,?_,qu (os1.length+3) n1 (qu (os1.length+os2.length+3) n2 n3 (fun i hi=>by have:=l2 i hi;omega) (fun i hi=>by have:=f3 i hi;omega)) (fun i hi=>by have:=l1 i hi;omega) (fun i hi=>by
   rcases List.mem_append.1 hi with h|h
   ·have:=f2 i h;omega
   ·have:=f3 i h;omega)⟩
  have hd:=GB (o:=e.op) (w:=e.name) (a:=e.args) (b:=e.body) (e:=e.els) (A:=A) (B:=B) (E:=E) (I1:=I1) (I2:=I2) (I3:=I3)
   (fr3 (r:=os2++os3) (a':= .row 5 [[.p (.int .i64 e.op),.p (.str e.name),.p (exL e.args),.p (smL e.body),.p (smL e.els)]]) (b':= .row 5 [[.p (.int .i64 e.op),.p (.str e.name),A,B,E]]) (c':= .row 5 [[.p (.int .i64 e.op),.p (.str e.name),A,B,E]]) o1 f1)
   (by
     have:=fr3 (r:=os3) (a':= .row 5 [[.p (.int .i64 e.op),.p (.str e.name),.p (exL e.args),.p (smL e.body),.p (smL e.els)]]) (b':= .row 5 [[.p (.int .i64 e.op),.p (.str e.name),A,B,E]]) (c':= .row 5 [[.p (.int .i64 e.op),.p (.str e.name),A,B,E]]) o2 (fun i hi=>by have:=f2 i hi;omega)
     rwa[List.append_assoc] at this)
   (by
     have:=fr3 (r:=[]) (a':= .row 5 [[.p (.int .i64 e.op),.p (.str e.name),.p (exL e.args),.p (smL e.body),.p (smL e.els)]]) (b':= .row 5 [[.p (.int .i64 e.op),.p (.str e.name),A,B,E]]) (c':= .row 5 [[.p (.int .i64 e.op),.p (.str e.name),A,B,E]]) o3 (fun i hi=>by have:=f3 i hi;omega)
     rwa[List.append_nil] at this)
  rw[Sm.cs_eq] at hd
  exact hd
theorem AF(l:List Sm)(hb:aG l≤1048576):AC Tryz.prog G bu [.p (smL l)] [] (MkW one true [smL l]):=
 qh G l (by have:=br l;omega) (fun e he=>Ck G e.sz e (Nat.le_refl _) (by have:=aV he;omega))
theorem uf{h:List AO}{id:Nat}{l:List (List UInt8)}(e:h[id]?=some (mT l)){n:Nat}(hn:n=l.length):OwnL true h [.sl id 1 0 n] [ay l] [id]:=by
 have hf:∀l:List (List UInt8),OwnL true h (l.map fun w=>[AV.p (.str w)]).flatten (l.map fun w=>[PV.str w]).flatten []:=by
  intro l
  induction l with
  |nil=>exact .nil
  |cons w r ih=>exact .p _ (fun _=>rfl) ih
 exact .sl id 1 n _ _ (by rw[e];rfl) (by simp[hn]) (by simp) (by simp) (by simp) (hf l) .nil
theorem El(l:List Fd)(hb:l.length≤1048576)(H:∀e∈l,AC Tryz.prog G fg [.agg (e.cs.map .p)] [] (MkW .agg true e.cs)):AC Tryz.prog G fk [.p (fdL l)] [] (MkW one true [fdL l]):=by
 have hsl:∀l,fdL l= .lst 3 (l.map Fd.cs):=fun _=>rfl
 refine AC.go pq ?_
 simp-implicitDefEqProofs[kD,hsl]
 refine⟨by omega,?_⟩
 refine az (fun a:FilS=>aj 23 [(0,.p (fdL l)),(3,.sl 0 3 0 l.length),(4,.p (.int .i64 a.i))]) (fun a=>a.h) (FilI true 0 3 (l.map Fd.cs) zFd) (fun a=>l.length-a.i) ⟨0,[.row 3 (List.replicate l.length [.p (.str []),.nils,.nils])]⟩
  (FilI.init rfl (by simp) (.p _ (fun _=>rfl) (.nils 1 (.nils 5 .nil))) rfl) ?_ ?_
 ·exact aP (by simp) (by simp[below,hsl])
 ·rintro⟨i,hh⟩ hI
  simp-implicitDefEqProofs[hsl]
  refine bh (fun h1=>?_) (fun h1=>?_)
  ·simp at h1
   have hg:=List.getElem?_eq_getElem h1
   have hH:=H l[i] (List.getElem_mem h1)
   have hcs:=l[i].cs_eq'
   have hD':(l.map Fd.cs)[i]?=some l[i].cs:=by rw[List.getElem?_map,hg];rfl
   generalize l[i]=e at hg hH hcs hD'
   have hA:=AC.mkLift gt hH (h:=hh) (by rw[hcs];simp)
   rw[hcs] at hA
   simp-implicitDefEqProofs[hg,hcs]
   refine hA.mono ?_
   rintro r h2 ⟨vs,I2,os,rfl,e2,ho,nd,hf⟩
   rw[←hcs] at ho
   obtain⟨rows,r0,k1,k2,k3,k4,k5,k6⟩:=hI.step hD' e2 ho nd hf e.cs_len
   obtain⟨A,B,I3,I4,rfl,_,hA1,hA2⟩:=yq ho
   obtain⟨c1,c2⟩:=bz hA1
   obtain⟨c3,c4⟩:=bz hA2
   obtain⟨z1,z2,z3,rfl⟩:=Kh k3
   have hll:0<h2.length:=(List.getElem?_eq_some_iff.1 k1).1
   simp-implicitDefEqProofs[-AV.cells,-AV.isCell,cT,aD,aQ,cV,aE,c1,c2,c3,c4,aa,k1,k2,h1,dK]
   refine⟨_,k6,by simp;omega,aP (by simp) ?_⟩
   simp[below,hsl,w1 (i:=i) (by omega)]
   omega
  ·simp at h1
   obtain⟨rows,J,hr⟩:=hI.done (by simpa using h1)
   simp-implicitDefEqProofs[]
   exact⟨_,_,rfl,hr.tree (by simp),hr.nd⟩
theorem GC(e:Fd)(hb:e.sz≤1048576):AC Tryz.prog G fg [.agg (e.cs.map .p)] [] (MkW .agg true e.cs):=by
 have hec:=e.cs_eq'
 have hsz:e.sz=1+e.name.length+(e.params.length+(e.params.map List.length).sum)+aG e.body:=rfl
 have hA:AC Tryz.prog G cP [.p (ay e.params)] [] (MkW one true [ay e.params]):=(qU G e.params (by omega)).mono fun x h ⟨h1,h2⟩=>⟨[.sl 0 1 0 e.params.length],[0],by rw[h1];rfl,uf (by rw[h2];rfl) rfl,by simp⟩
 have hB:=AF G e.body (by omega)
 refine AC.go qC ?_
 simp-implicitDefEqProofs[lr,hec]
 refine(AC.mkLift ic hA (by simp)).mono ?_
 rintro r h2 ⟨vs,I1,os1,rfl,e2,o1,n1,f1⟩
 obtain⟨A,rfl⟩:=aS o1
 obtain⟨c1,c2⟩:=bz o1
 have l1:=fun i (hi:i∈I1)=>o1.lt hi
 simp at f1
 subst e2
 simp at l1
 simp-implicitDefEqProofs[-AV.cells,-AV.isCell,cT,aD,aQ,cV,aE,c1,c2,aa,one]
 refine(AC.mkLift ic hB (by simp)).mono ?_
 rintro r h2 ⟨vs,I2,os2,rfl,e2,o2,n2,f2⟩
 obtain⟨B,rfl⟩:=aS o2
 obtain⟨c3,c4⟩:=bz o2
 simp at f2
 subst e2
 simp-implicitDefEqProofs[-AV.cells,-AV.isCell,cT,aD,aQ,cV,aE,c1,c2,c3,c4,aa,one]
 simp only[List.cons_append,List.nil_append,List.append_assoc] at o1 o2
 refine⟨_,I1++I2,rfl,?_,qu (os1.length+3) n1 n2 (fun i hi=>by have:=l1 i hi;omega) (fun i hi=>by have:=f2 i hi;omega)⟩
 refine Hb (fr3 (r:=os2) o1 f1) ?_
 have:=fr3 (r:=[]) (a':= .row 3 [[.p (.str e.name),.p (ay e.params),.p (smL e.body)]]) (b':= .row 3 [[.p (.str e.name),A,B]]) (c':= .row 3 [[.p (.str e.name),A,B]]) o2 (fun i hi=>by have:=f2 i hi;omega)
 rwa[List.append_nil] at this
theorem vV(l:List Fd)(hb:bm l≤1048576):AC Tryz.prog G bI [.agg [.p (fdL l)]] [] (MkW .agg true [fdL l]):=by
 have hA:=El G l (by have:=cK l;omega) (fun e he=>GC G e (by have:=dk he;omega))
 refine AC.go jP ?_
 simp-implicitDefEqProofs[fR]
 refine(AC.mkLift ic hA (by simp)).mono ?_
 rintro r h2 ⟨vs,I1,os1,rfl,e2,o1,n1,f1⟩
 obtain⟨A,rfl⟩:=aS o1
 obtain⟨c1,c2⟩:=bz o1
 simp at f1
 subst e2
 simp-implicitDefEqProofs[-AV.cells,-AV.isCell,cT,aD,aQ,cV,aE,c1,c2,aa,one]
 have:=fr3 (r:=[]) (a':= .row 1 [[.p (fdL l)]]) (b':= .row 1 [[A]]) (c':= .row 1 [[A]]) o1 f1
 rw[List.append_nil] at this
 exact⟨_,I1,rfl,this,n1⟩
end Go.Proofs.YtnjbhgpbgmpkcaaGreatDoor
namespace Go.Proofs.YtnjbhgpbgmpkcaaGreatDoor
open Go Go.Aw
set_option maxRecDepth 100000
set_option maxHeartbeats 4000000
theorem CL{h:List AO}{vs:List AV}{w:List UInt8}{I:List Nat}(H:OwnL true h vs [.str w] I):vs=[.p (.str w)]∧I=[]:=by
 cases H with
 |p _ _ H=>cases H;exact⟨rfl,rfl⟩
variable (G:aA)
theorem ud{σ:Type}(V:Vis σ)(g:σ→Ex→Ex × σ)(inv:Nat→σ→Prop)(l:List Ex)(hb:l.length≤1073741824)
 (hv:∀(i:Nat) st (h:i<l.length),inv i st→inv (i+1) (g st l[i]).2∧AC Tryz.prog G V.F (.agg (l[i].cs.map .p)::V.caps) (V.I st) (Mk .agg true (g st l[i]).1.cs (V.I (g st l[i]).2)))(st:σ)(h0:inv 0 st):
 AC Tryz.prog G aK [.p (exL l),.fn (.func V.F) V.caps] (V.I st) (Mk one true [exL (cw g st l).1] (V.I (cw g st l).2)):=by
 have hxl:∀l,exL l= .lst 4 (l.map Ex.cs):=fun _=>rfl
 have hcb:=V.capsOk
 have hinv:∀i,i≤l.length→inv i (cw g st (l.take i)).2:=fun i hi=>by
  have:=lF (g:=g) (inv:=inv) (l:=l) (st:=st) (k:=0) h0 (fun i st h hi=>by
   rw[Nat.zero_add] at hi⊢;exact(hv i st h hi).1) i hi
  rwa[Nat.zero_add] at this
 refine AC.go ki ?_
 simp-implicitDefEqProofs[fd,hxl]
 refine az (fun a:GroS σ=>aj 22 [(5,a.x),(0,.p (exL l)),(1,.fn (.func V.F) V.caps),(8,.p (exL l)),(9,.p (.int .i64 l.length)),(10,.p (.int .i64 a.i))]) (fun a=>a.h)
  (fun a=>a.i≤l.length∧a.st=(cw g st (l.take a.i)).2∧GroI V 4 ((cw g st (l.take a.i)).1.map Ex.cs) a.st a.h a.x) (fun a=>l.length-a.i) ⟨0,st,V.I st,.nils⟩ ⟨Nat.zero_le _,rfl,GroI.init⟩ ?_ ?_
 ·exact aP (Nat.le_refl _) (by simp[below,hxl,V.len,hcb])
 rintro⟨i,s,hh,x⟩ ⟨hi,hst,hI⟩
 simp only at hi hst hI
 have hT:=fun h=>mL (g:=g) (l:=l) (st:=st) (i:=i) h
 have hi2:=hinv i hi
 have hml:=lH g (l.take i) st
 rw[List.length_take,Nat.min_eq_left hi] at hml
 rw[←hst] at hT hi2
 generalize hcur:(cw g st (l.take i)).1=out at hT hml hI
 simp-implicitDefEqProofs[hxl]
 refine bh (fun hc=>?_) (fun hc=>?_)
 ·simp at hc
  have hg:=List.getElem?_eq_getElem hc
  have hT:=hT hc
  obtain⟨_,hA⟩:=hv i s hc hi2
  generalize l[i]=y at hg hT hA
  have hkc:=y.cs_eq
  rw[hkc] at hA
  simp-implicitDefEqProofs[hg,hkc]
  refine(hI.call gt hA ⟨by simp[below],hcb⟩ _).mono ?_
  rintro r h2 ⟨vs,I2,os2,rfl,e2,ho,nd2,hf⟩
  obtain⟨K,rfl,hK⟩:=sg ho
  obtain⟨c1,c2⟩:=bz hK
  have hll:=hI.len
  have hl2:hh.length+1≤h2.length:=by rw[e2,List.length_append,List.length_append,List.length_append,List.length_drop,V.len];simp;omega
  rcases hI.step (by rw[Ex.cs_len]) (by rw[e2,List.append_assoc]) ho nd2 (fun j hj=>by have:=hf j hj;simp[V.len] at this;omega) with⟨rfl,hD,hgo⟩|⟨id,rows,rfl,k1,k2,k3,hgo⟩
  ·simp-implicitDefEqProofs[-AV.cells,-AV.isCell,cT,aD,aQ,cV,aE,c1,c2,aa]
   have hgo:=hgo [.row 4 [[.p (.int .i64 (g s y).1.op),.p (.int .i64 (g s y).1.n),.p (.str (g s y).1.name),K]]]
   have hD':out=[]:=by simpa using hD
   subst hD'
   refine⟨⟨i+1,(g s y).2,_,.sl (h2.length+1) 4 0 1⟩,⟨hc,?_,?_⟩,?_,aP ?_ ?_⟩
   ·rw[hT]
   ·rw[hT];exact hgo
   ·show l.length-(i+1)<l.length-i;omega
   ·simp[V.len];omega
   ·simp[below,hxl,w1 (i:=i) (by omega)]
    exact au (by omega) _ hcb
  ·have k1':∀m,(h2++m)[id]?=some (.row 4 rows):=fun m=>by rw[List.getElem?_append_left k3];exact k1
   rw[List.length_map] at k2
   simp-implicitDefEqProofs[-AV.cells,-AV.isCell,cT,aD,aQ,cV,aE,c1,c2,aa,k1',k2]
   have ht:List.take out.length rows=rows:=List.take_of_length_le (by omega)
   have hgo:=hgo [.row 4 [[.p (.int .i64 (g s y).1.op),.p (.int .i64 (g s y).1.n),.p (.str (g s y).1.name),K]]]
   rw[List.length_map] at hgo
   rw[ht]
   refine⟨⟨by omega,by omega⟩,⟨i+1,(g s y).2,_,.sl (h2.length+1) 4 0 (out.length+1)⟩,⟨hc,?_,?_⟩,?_,aP ?_ ?_⟩
   ·rw[hT]
   ·rw[hT,List.map_append];exact hgo
   ·show l.length-(i+1)<l.length-i;omega
   ·simp[V.len];omega
   ·simp[below,hxl,w1 (i:=i) (by omega)]
    exact au (by omega) _ hcb
 ·simp at hc
  have hie:i=l.length:=by omega
  subst hie
  rw[List.take_length] at hcur
  simp-implicitDefEqProofs[]
  rw[←hcur,hst] at hI
  have:=hI.done
  rw[List.take_length] at this
  exact this
theorem Bh{σ:Type}(V:Vis σ)(g:σ→Sm→Sm × σ)(inv:Nat→σ→Prop)(l:List Sm)(hb:l.length≤1073741824)
 (hv:∀(i:Nat) st (h:i<l.length),inv i st→inv (i+1) (g st l[i]).2∧AC Tryz.prog G V.F (.agg (l[i].cs.map .p)::V.caps) (V.I st) (Mk .agg true (g st l[i]).1.cs (V.I (g st l[i]).2)))(st:σ)(h0:inv 0 st):
 AC Tryz.prog G cN [.p (smL l),.fn (.func V.F) V.caps] (V.I st) (Mk one true [smL (cw g st l).1] (V.I (cw g st l).2)):=by
 have hxl:∀l,smL l= .lst 5 (l.map Sm.cs):=fun _=>rfl
 have hcb:=V.capsOk
 have hinv:∀i,i≤l.length→inv i (cw g st (l.take i)).2:=fun i hi=>by
  have:=lF (g:=g) (inv:=inv) (l:=l) (st:=st) (k:=0) h0 (fun i st h hi=>by
   rw[Nat.zero_add] at hi⊢;exact(hv i st h hi).1) i hi
  rwa[Nat.zero_add] at this
 refine AC.go jX ?_
 simp-implicitDefEqProofs[fe,hxl]
 refine az (fun a:GroS σ=>aj 22 [(5,a.x),(0,.p (smL l)),(1,.fn (.func V.F) V.caps),(8,.p (smL l)),(9,.p (.int .i64 l.length)),(10,.p (.int .i64 a.i))]) (fun a=>a.h)
  (fun a=>a.i≤l.length∧a.st=(cw g st (l.take a.i)).2∧GroI V 5 ((cw g st (l.take a.i)).1.map Sm.cs) a.st a.h a.x) (fun a=>l.length-a.i) ⟨0,st,V.I st,.nils⟩ ⟨Nat.zero_le _,rfl,GroI.init⟩ ?_ ?_
 ·exact aP (Nat.le_refl _) (by simp[below,hxl,V.len,hcb])
 rintro⟨i,s,hh,x⟩ ⟨hi,hst,hI⟩
 simp only at hi hst hI
 have hT:=fun h=>mL (g:=g) (l:=l) (st:=st) (i:=i) h
 have hi2:=hinv i hi
 have hml:=lH g (l.take i) st
 rw[List.length_take,Nat.min_eq_left hi] at hml
 rw[←hst] at hT hi2
 generalize hcur:(cw g st (l.take i)).1=out at hT hml hI
 simp-implicitDefEqProofs[hxl]
 refine bh (fun hc=>?_) (fun hc=>?_)
 ·simp at hc
  have hg:=List.getElem?_eq_getElem hc
  have hT:=hT hc
  obtain⟨_,hA⟩:=hv i s hc hi2
  generalize l[i]=y at hg hT hA
  have hkc:=y.cs_eq
  rw[hkc] at hA
  simp-implicitDefEqProofs[hg,hkc]
  refine(hI.call gt hA ⟨by simp[below],hcb⟩ _).mono ?_
  rintro r h2 ⟨vs,I2,os2,rfl,e2,ho,nd2,hf⟩
  obtain⟨A,B,E,J1,J2,J3,rfl,rfl,oA,oB,oE⟩:=yE ho
  obtain⟨c1,c2⟩:=bz oA
  obtain⟨c3,c4⟩:=bz oB
  obtain⟨c5,c6⟩:=bz oE
  have hll:=hI.len
  have hl2:hh.length+1≤h2.length:=by rw[e2,List.length_append,List.length_append,List.length_append,List.length_drop,V.len];simp;omega
  rcases hI.step (by rw[Sm.cs_len]) (by rw[e2,List.append_assoc]) ho nd2 (fun j hj=>by have:=hf j hj;simp[V.len] at this;omega) with⟨rfl,hD,hgo⟩|⟨id,rows,rfl,k1,k2,k3,hgo⟩
  ·simp-implicitDefEqProofs[-AV.cells,-AV.isCell,cT,aD,aQ,cV,aE,c1,c2,c3,c4,c5,c6,aa]
   have hgo:=hgo [.row 5 [[.p (.int .i64 (g s y).1.op),.p (.str (g s y).1.name),A,B,E]]]
   have hD':out=[]:=by simpa using hD
   subst hD'
   refine⟨⟨i+1,(g s y).2,_,.sl (h2.length+1) 5 0 1⟩,⟨hc,?_,?_⟩,?_,aP ?_ ?_⟩
   ·rw[hT]
   ·rw[hT];exact hgo
   ·show l.length-(i+1)<l.length-i;omega
   ·simp[V.len];omega
   ·simp[below,hxl,w1 (i:=i) (by omega)]
    exact au (by omega) _ hcb
  ·have k1':∀m,(h2++m)[id]?=some (.row 5 rows):=fun m=>by rw[List.getElem?_append_left k3];exact k1
   rw[List.length_map] at k2
   simp-implicitDefEqProofs[-AV.cells,-AV.isCell,cT,aD,aQ,cV,aE,c1,c2,c3,c4,c5,c6,aa,k1',k2]
   have ht:List.take out.length rows=rows:=List.take_of_length_le (by omega)
   have hgo:=hgo [.row 5 [[.p (.int .i64 (g s y).1.op),.p (.str (g s y).1.name),A,B,E]]]
   rw[List.length_map] at hgo
   rw[ht]
   refine⟨⟨by omega,by omega⟩,⟨i+1,(g s y).2,_,.sl (h2.length+1) 5 0 (out.length+1)⟩,⟨hc,?_,?_⟩,?_,aP ?_ ?_⟩
   ·rw[hT]
   ·rw[hT,List.map_append];exact hgo
   ·show l.length-(i+1)<l.length-i;omega
   ·simp[V.len];omega
   ·simp[below,hxl,w1 (i:=i) (by omega)]
    exact au (by omega) _ hcb
 ·simp at hc
  have hie:i=l.length:=by omega
  subst hie
  rw[List.take_length] at hcur
  simp-implicitDefEqProofs[]
  rw[←hcur,hst] at hI
  have:=hI.done
  rw[List.take_length] at this
  exact this
theorem Fk{σ:Type}(V:Vis σ)(g:σ→Fd→Fd × σ)(inv:Nat→σ→Prop)(l:List Fd)(hb:l.length≤1073741824)
 (hv:∀(i:Nat) st (h:i<l.length),inv i st→inv (i+1) (g st l[i]).2∧AC Tryz.prog G V.F (.agg (l[i].cs.map .p)::V.caps) (V.I st) (Mk .agg true (g st l[i]).1.cs (V.I (g st l[i]).2)))(st:σ)(h0:inv 0 st):
 AC Tryz.prog G dy [.p (fdL l),.fn (.func V.F) V.caps] (V.I st) (Mk one true [fdL (cw g st l).1] (V.I (cw g st l).2)):=by
 have hxl:∀l,fdL l= .lst 3 (l.map Fd.cs):=fun _=>rfl
 have hcb:=V.capsOk
 have hinv:∀i,i≤l.length→inv i (cw g st (l.take i)).2:=fun i hi=>by
  have:=lF (g:=g) (inv:=inv) (l:=l) (st:=st) (k:=0) h0 (fun i st h hi=>by
   rw[Nat.zero_add] at hi⊢;exact(hv i st h hi).1) i hi
  rwa[Nat.zero_add] at this
 refine AC.go kX ?_
 simp-implicitDefEqProofs[fL,hxl]
 refine az (fun a:GroS σ=>aj 22 [(5,a.x),(0,.p (fdL l)),(1,.fn (.func V.F) V.caps),(8,.p (fdL l)),(9,.p (.int .i64 l.length)),(10,.p (.int .i64 a.i))]) (fun a=>a.h)
  (fun a=>a.i≤l.length∧a.st=(cw g st (l.take a.i)).2∧GroI V 3 ((cw g st (l.take a.i)).1.map Fd.cs) a.st a.h a.x) (fun a=>l.length-a.i) ⟨0,st,V.I st,.nils⟩ ⟨Nat.zero_le _,rfl,GroI.init⟩ ?_ ?_
 ·exact aP (Nat.le_refl _) (by simp[below,hxl,V.len,hcb])
 rintro⟨i,s,hh,x⟩ ⟨hi,hst,hI⟩
 simp only at hi hst hI
 have hT:=fun h=>mL (g:=g) (l:=l) (st:=st) (i:=i) h
 have hi2:=hinv i hi
 have hml:=lH g (l.take i) st
 rw[List.length_take,Nat.min_eq_left hi] at hml
 rw[←hst] at hT hi2
 generalize hcur:(cw g st (l.take i)).1=out at hT hml hI
 simp-implicitDefEqProofs[hxl]
 refine bh (fun hc=>?_) (fun hc=>?_)
 ·simp at hc
  have hg:=List.getElem?_eq_getElem hc
  have hT:=hT hc
  obtain⟨_,hA⟩:=hv i s hc hi2
  generalize l[i]=y at hg hT hA
  have hkc:=y.cs_eq'
  rw[hkc] at hA
  simp-implicitDefEqProofs[hg,hkc]
  refine(hI.call gt hA ⟨by simp[below],hcb⟩ _).mono ?_
  rintro r h2 ⟨vs,I2,os2,rfl,e2,ho,nd2,hf⟩
  obtain⟨A,B,J1,J2,rfl,rfl,oA,oB⟩:=yq ho
  obtain⟨c1,c2⟩:=bz oA
  obtain⟨c3,c4⟩:=bz oB
  have hll:=hI.len
  have hl2:hh.length+1≤h2.length:=by rw[e2,List.length_append,List.length_append,List.length_append,List.length_drop,V.len];simp;omega
  rcases hI.step (by rw[Fd.cs_len]) (by rw[e2,List.append_assoc]) ho nd2 (fun j hj=>by have:=hf j hj;simp[V.len] at this;omega) with⟨rfl,hD,hgo⟩|⟨id,rows,rfl,k1,k2,k3,hgo⟩
  ·simp-implicitDefEqProofs[-AV.cells,-AV.isCell,cT,aD,aQ,cV,aE,c1,c2,c3,c4,aa]
   have hgo:=hgo [.row 3 [[.p (.str (g s y).1.name),A,B]]]
   have hD':out=[]:=by simpa using hD
   subst hD'
   refine⟨⟨i+1,(g s y).2,_,.sl (h2.length+1) 3 0 1⟩,⟨hc,?_,?_⟩,?_,aP ?_ ?_⟩
   ·rw[hT]
   ·rw[hT];exact hgo
   ·show l.length-(i+1)<l.length-i;omega
   ·simp[V.len];omega
   ·simp[below,hxl,w1 (i:=i) (by omega)]
    exact au (by omega) _ hcb
  ·have k1':∀m,(h2++m)[id]?=some (.row 3 rows):=fun m=>by rw[List.getElem?_append_left k3];exact k1
   rw[List.length_map] at k2
   simp-implicitDefEqProofs[-AV.cells,-AV.isCell,cT,aD,aQ,cV,aE,c1,c2,c3,c4,aa,k1',k2]
   have ht:List.take out.length rows=rows:=List.take_of_length_le (by omega)
   have hgo:=hgo [.row 3 [[.p (.str (g s y).1.name),A,B]]]
   rw[List.length_map] at hgo
   rw[ht]
   refine⟨⟨by omega,by omega⟩,⟨i+1,(g s y).2,_,.sl (h2.length+1) 3 0 (out.length+1)⟩,⟨hc,?_,?_⟩,?_,aP ?_ ?_⟩
   ·rw[hT]
   ·rw[hT,List.map_append];exact hgo
   ·show l.length-(i+1)<l.length-i;omega
   ·simp[V.len];omega
   ·simp[below,hxl,w1 (i:=i) (by omega)]
    exact au (by omega) _ hcb
 ·simp at hc
  have hie:i=l.length:=by omega
  subst hie
  rw[List.take_length] at hcur
  simp-implicitDefEqProofs[]
  rw[←hcur,hst] at hI
  have:=hI.done
  rw[List.take_length] at this
  exact this
theorem Gw{σ:Type}(V:Vis σ)(g:σ→List UInt8→List UInt8 × σ)(inv:Nat→σ→Prop)(l:List (List UInt8))(hb:l.length≤1073741824)
 (hv:∀(i:Nat) st (h:i<l.length),inv i st→inv (i+1) (g st l[i]).2∧AC Tryz.prog G V.F (.p (.str l[i])::V.caps) (V.I st) fun x h=>x= .ret (.p (.str (g st l[i]).1))∧h=V.I (g st l[i]).2)(st:σ)(h0:inv 0 st):
 AC Tryz.prog G dG [.p (ay l),.fn (.func V.F) V.caps] (V.I st) (Mk one true [ay (cw g st l).1] (V.I (cw g st l).2)):=by
 have hxl:∀l,ay l= .lst 1 (l.map fun w=>[.str w]):=fun _=>rfl
 have hcb:=V.capsOk
 have hinv:∀i,i≤l.length→inv i (cw g st (l.take i)).2:=fun i hi=>by
  have:=lF (g:=g) (inv:=inv) (l:=l) (st:=st) (k:=0) h0 (fun i st h hi=>by
   rw[Nat.zero_add] at hi⊢;exact(hv i st h hi).1) i hi
  rwa[Nat.zero_add] at this
 refine AC.go lJ ?_
 simp-implicitDefEqProofs[gG,hxl]
 refine az (fun a:GroS σ=>aj 22 [(5,a.x),(0,.p (ay l)),(1,.fn (.func V.F) V.caps),(8,.p (ay l)),(9,.p (.int .i64 l.length)),(10,.p (.int .i64 a.i))]) (fun a=>a.h)
  (fun a=>a.i≤l.length∧a.st=(cw g st (l.take a.i)).2∧GroI V 1 ((cw g st (l.take a.i)).1.map fun w=>[PV.str w]) a.st a.h a.x) (fun a=>l.length-a.i) ⟨0,st,V.I st,.nils⟩ ⟨Nat.zero_le _,rfl,GroI.init⟩ ?_ ?_
 ·exact aP (Nat.le_refl _) (by simp[below,hxl,V.len,hcb])
 rintro⟨i,s,hh,x⟩ ⟨hi,hst,hI⟩
 simp only at hi hst hI
 have hT:=fun h=>mL (g:=g) (l:=l) (st:=st) (i:=i) h
 have hi2:=hinv i hi
 have hml:=lH g (l.take i) st
 rw[List.length_take,Nat.min_eq_left hi] at hml
 rw[←hst] at hT hi2
 generalize hcur:(cw g st (l.take i)).1=out at hT hml hI
 simp-implicitDefEqProofs[hxl]
 refine bh (fun hc=>?_) (fun hc=>?_)
 ·simp at hc
  have hg:=List.getElem?_eq_getElem hc
  have hT:=hT hc
  obtain⟨_,hA⟩:=hv i s hc hi2
  generalize l[i]=y at hg hT hA
  have hA:=hA.mono (R':=Mk one true [.str (g s y).1] (V.I (g s y).2)) (by
   rintro x h ⟨rfl,rfl⟩
   exact⟨[.p (.str (g s y).1)],[],[],rfl,by simp,.p _ (fun _=>rfl) .nil,List.nodup_nil,fun _ h=>by cases h⟩)
  simp-implicitDefEqProofs[hg]
  have hcall:=hI.call ic hA ⟨by simp[below],hcb⟩ []
  rw[List.append_nil,List.append_nil] at hcall
  refine hcall.mono ?_
  rintro r h2 ⟨vs,I2,os2,rfl,e2,ho,nd2,hf⟩
  obtain⟨rfl,rfl⟩:=CL ho
  have hll:=hI.len
  have hl2:hh.length≤h2.length:=by rw[e2,List.length_append,List.length_append,List.length_drop,V.len];omega
  rcases hI.step rfl (by rw[e2]) ho nd2 (fun j hj=>by have:=hf j hj;simp[V.len] at this;omega) with⟨rfl,hD,hgo⟩|⟨id,rows,rfl,k1,k2,k3,hgo⟩
  ·simp-implicitDefEqProofs[-AV.cells,-AV.isCell,cT,aD,aQ,cV,aE,aa,one]
   have hgo:=hgo [.row 1 [[.p (.str (g s y).1)]]]
   have hD':out=[]:=by simpa using hD
   subst hD'
   refine⟨⟨i+1,(g s y).2,_,.sl (h2.length+1) 1 0 1⟩,⟨hc,?_,?_⟩,?_,aP ?_ ?_⟩
   ·rw[hT]
   ·rw[hT];exact hgo
   ·show l.length-(i+1)<l.length-i;omega
   ·simp[V.len];omega
   ·simp[below,hxl,w1 (i:=i) (by omega)]
    exact au (by omega) _ hcb
  ·have k1':∀m,(h2++m)[id]?=some (.row 1 rows):=fun m=>by rw[List.getElem?_append_left k3];exact k1
   rw[List.length_map] at k2
   simp-implicitDefEqProofs[-AV.cells,-AV.isCell,cT,aD,aQ,cV,aE,aa,one,k1',k2]
   have ht:List.take out.length rows=rows:=List.take_of_length_le (by omega)
   have hgo:=hgo [.row 1 [[.p (.str (g s y).1)]]]
   rw[List.length_map] at hgo
   rw[ht]
   refine⟨⟨by omega,by omega⟩,⟨i+1,(g s y).2,_,.sl (h2.length+1) 1 0 (out.length+1)⟩,⟨hc,?_,?_⟩,?_,aP ?_ ?_⟩
   ·rw[hT]
   ·rw[hT,List.map_append];exact hgo
   ·show l.length-(i+1)<l.length-i;omega
   ·simp[V.len];omega
   ·simp[below,hxl,w1 (i:=i) (by omega)]
    exact au (by omega) _ hcb
 ·simp at hc
  have hie:i=l.length:=by omega
  subst hie
  rw[List.take_length] at hcur
  simp-implicitDefEqProofs[]
  rw[←hcur,hst] at hI
  have:=hI.done
  rw[List.take_length] at this
  exact this
end Go.Proofs.YtnjbhgpbgmpkcaaGreatDoor
namespace Go.Proofs.YtnjbhgpbgmpkcaaGreatDoor
open Go Go.Aw
set_option maxRecDepth 100000
def irN(ch:List Scp)(s:List UInt8):List UInt8:=vnm ((dL ch s).getD 0)
mutual
def irE(ch:List Scp):Ex→Ex
 | .mk o n s ks=> .mk o n (if o=2 then irN ch s else s) (qz ch ks)
def qz(ch:List Scp):List Ex→List Ex
 |[]=>[]
 |e::r=>irE ch e::qz ch r
end
mutual
def irS:Sm→Scp→List Scp→Nat→Sm × Scp × Nat
 | .mk o s a bd el,m,up,n=>
   let m2:=opS o s m n
   let n2:=if o=1 then n+1 else n
   let x:=cW bd [] (m2::up) n2
   let y:=cW el [] (m2::up) x.2.2
   (.mk o (if o=1 then vnm n else if o=2 then irN (m::up) s else s) (qz (m::up) a) x.1 y.1,m2,y.2.2)
def cW:List Sm→Scp→List Scp→Nat→List Sm × Scp × Nat
 |[],m,_,n=>([],m,n)
 |s::r,m,up,n=>
  let x:=irS s m up n
  let y:=cW r x.2.1 up x.2.2
  (x.1::y.1,y.2.1,y.2.2)
end
def eL:List (List UInt8)→Scp→Nat→List (List UInt8) × Scp × Nat
 |[],m,n=>([],m,n)
 |s::r,m,n=>let y:=eL r (eb m s n) (n+1);(vnm n::y.1,y.2.1,y.2.2)
def irF(f:Fd):Fd:=
 let x:=eL f.params [] 0
 ⟨f.name,x.1,(cW f.body x.2.1 [] x.2.2).1⟩
theorem qo{vs:List LV}{s:List UInt8}{c:Int}(h:c≠0):nb vs s c=c:=by unfold nb;split<;>simp[sO h]
theorem xP{fns:List Fd}{k:Nat}{s:List UInt8}{n:Nat}{c:Int}(h:c≠0):lX fns k s n c=c:=by
 unfold lX
 simp only[sO h]
 split
 ·rfl
 ·split
  ·rfl
  ·split<;>rfl
theorem yT{fns:List Fd}{k:Nat}{vs:List LV}{o:Int}{s:List UInt8}{n:Nat}{c:Int}(h:c≠0):ka fns k vs o s n c=c:=by
 unfold ka
 rw[qo h,xP h]
 split
 ·rfl
 ·split<;>rfl
mutual
theorem Bn(fns:List Fd)(k:Nat)(vs:List LV){c:Int}(h:c≠0):∀e:Ex,rk fns k vs e c=c
 | .mk o n s ks=>by rw[rk,yT h,kq fns k vs h ks]
theorem kq(fns:List Fd)(k:Nat)(vs:List LV){c:Int}(h:c≠0):∀l:List Ex,bw fns k vs l c=c
 |[]=>rfl
 |e::r=>by rw[bw,Bn fns k vs h e,kq fns k vs h r]
end
theorem sM{fns:List Fd}{k:Nat}{vs:List LV}{l:List Ex}{c:Int}(h:bw fns k vs l c=0):c=0:=by
 by_cases hc:c=0
 ·exact hc
 ·rw[kq fns k vs hc] at h;exact h
theorem um{vs:List LV}{s:List UInt8}{c:Int}(h:nb vs s c=0):c=0∧∃v,lkV vs s=some v:=by
 by_cases hc:c=0
 ·refine⟨hc,?_⟩
  unfold nb at h
  cases e:lkV vs s with
  |some v=>exact⟨v,rfl⟩
  |none=>rw[e] at h;simp[fl,hc] at h
 ·rw[qo hc] at h;exact absurd h hc
abbrev gN:LV→Nat:=fun v=>v.num
theorem zo{b:Nat}{vs:List LV}{ch:List Scp}(h:SR gN b vs ch){s:List UInt8}(hv:∃v,lkV vs s=some v):pS vs s=irN ch s:=by
 obtain⟨v,e⟩:=hv
 rw[pS,irN,←h.fnd s,e];rfl
mutual
theorem Hr{fns:List Fd}{k b:Nat}{vs:List LV}{ch:List Scp}(h:SR gN b vs ch):∀(e:Ex) (c:Int),rk fns k vs e c=0→rnE vs e=irE ch e
 | .mk o n s ks,c,hz=>by
   rw[rk] at hz
   rw[rnE,irE,vt h ks _ hz]
   by_cases ho:o=2
   ·have h1:=sM hz
    rw[ka,if_pos ho] at h1
    rw[if_pos ho,if_pos ho,zo h (um h1).2]
   ·rw[if_neg ho,if_neg ho]
theorem vt{fns:List Fd}{k b:Nat}{vs:List LV}{ch:List Scp}(h:SR gN b vs ch):∀(l:List Ex) (c:Int),bw fns k vs l c=0→gM vs l=qz ch l
 |[],c,_=>rfl
 |e::r,c,hz=>by
  rw[bw] at hz
  rw[gM,qz,Hr h e c (sM hz),vt h r _ hz]
end
theorem vS{o:Int}{s:List UInt8}{b:Nat}{w:WS}(h:w.code≠0):(opW o s b w).code=w.code:=by
 unfold opW
 split
 ·simp only[iC,rH,sO h]
  split
  ·rfl
  ·split<;>rfl
 ·split
  ·exact qo h
  ·rfl
mutual
theorem DZ(fns:List Fd)(k:Nat):∀(s:Sm) (b:Nat) (w:WS),w.code≠0→(stW fns k b s w).code=w.code
 | .mk o s a bd el,b,w,h=>by
   have e1:(bw fns k w.vs a w.code)=w.code:=kq fns k w.vs h a
   have e2:(opW o s b ⟨w.vs,w.count,bw fns k w.vs a w.code⟩).code=w.code:=by rw[vS]<;>simp only[e1];exact h
   have e3:=mK fns k bd (b+1) (opW o s b ⟨w.vs,w.count,bw fns k w.vs a w.code⟩) (by rw[e2];exact h)
   rw[stW,fT,mK fns k el _ _ (by rw[fT,e3,e2];exact h),fT,e3,e2]
theorem mK(fns:List Fd)(k:Nat):∀(l:List Sm) (b:Nat) (w:WS),w.code≠0→(bB fns k b l w).code=w.code
 |[],b,w,h=>rfl
 |s::r,b,w,h=>by
  have e1:=DZ fns k s b w h
  rw[bB,mK fns k r b _ (by rw[e1];exact h),e1]
end
theorem pP{fns:List Fd}{k b:Nat}{l:List Sm}{w:WS}(h:(bB fns k b l w).code=0):w.code=0:=by
 by_cases hc:w.code=0
 ·exact hc
 ·rw[mK fns k l b w hc] at h;exact h
theorem Dr{o:Int}{s:List UInt8}{b:Nat}{w:WS}(h:(opW o s b w).code=0):w.code=0:=by
 by_cases hc:w.code=0
 ·exact hc
 ·rw[vS hc] at h;exact h
theorem GW{b:Nat}{w:WS}{m:Scp}{up:List Scp}(h:SR gN b w.vs (m::up))(o:Int)(s:List UInt8)(c:Int)(hz:(opW o s b ⟨w.vs,w.count,c⟩).code=0):
 SR gN b (opW o s b ⟨w.vs,w.count,c⟩).vs (opS o s m w.count::up)∧opN o s w=(if o=1 then vnm w.count else if o=2 then irN (m::up) s else s):=by
 unfold opW at hz⊢
 unfold opS opN
 by_cases h1:o=1
 ·simp only[h1,if_true]
  exact⟨h.add s _ _ rfl,trivial⟩
 ·simp only[if_neg h1] at hz⊢
  by_cases h2:o=2
  ·simp only[h2,if_true] at hz⊢
   exact⟨h,zo h (um hz).2⟩
  ·simp only[if_neg h2]
   exact⟨h,trivial⟩
mutual
theorem Hm(fns:List Fd)(k:Nat):∀(s:Sm) (b:Nat) (w:WS) (m:Scp) (up:List Scp),SR gN b w.vs (m::up)→(stW fns k b s w).code=0→
 rnS fns k b s w=(irS s m up w.count).1∧SR gN b (stW fns k b s w).vs ((irS s m up w.count).2.1::up)∧(stW fns k b s w).count=(irS s m up w.count).2.2
 | .mk o s a bd el,b,w,m,up,h,hz=>by
   rw[stW,fT] at hz
   have z1:=pP hz
   rw[fT] at z1
   have z2:=pP z1
   have z3:=Dr z2
   obtain⟨p1,p2⟩:=GW h o s _ z2
   obtain⟨q1,q2,q3⟩:=ru fns k bd (b+1) _ [] _ p1.open z1
   obtain⟨r1,r2,r3⟩:=ru fns k el (b+1) ((bB fns k (b+1) bd (opW o s b ⟨w.vs,w.count,bw fns k w.vs a w.code⟩)).back (opW o s b ⟨w.vs,w.count,bw fns k w.vs a w.code⟩).vs) [] _ p1.open hz
   have hcn:(opW o s b ⟨w.vs,w.count,bw fns k w.vs a w.code⟩).count=if o=1 then w.count+1 else w.count:=by
    rw[mw];split<;>rfl
   have hbc:((bB fns k (b+1) bd (opW o s b ⟨w.vs,w.count,bw fns k w.vs a w.code⟩)).back (opW o s b ⟨w.vs,w.count,bw fns k w.vs a w.code⟩).vs).count=(bB fns k (b+1) bd (opW o s b ⟨w.vs,w.count,bw fns k w.vs a w.code⟩)).count:=rfl
   rw[hcn] at q1 q3
   rw[hbc,q3] at r1 r3
   refine⟨?_,p1,?_⟩
   ·rw[rnS,irS]
    simp only
    rw[q1,r1,p2,vt h a _ z3]
   ·rw[stW,irS]
    exact r3
theorem ru(fns:List Fd)(k:Nat):∀(l:List Sm) (b:Nat) (w:WS) (m:Scp) (up:List Scp),SR gN b w.vs (m::up)→(bB fns k b l w).code=0→
 eU fns k b l w=(cW l m up w.count).1∧SR gN b (bB fns k b l w).vs ((cW l m up w.count).2.1::up)∧(bB fns k b l w).count=(cW l m up w.count).2.2
 |[],b,w,m,up,h,hz=>⟨rfl,h,rfl⟩
 |s::r,b,w,m,up,h,hz=>by
  rw[bB] at hz
  obtain⟨p1,p2,p3⟩:=Hm fns k s b w m up h (pP hz)
  obtain⟨q1,q2,q3⟩:=ru fns k r b _ _ up p2 hz
  rw[p3] at q1 q2 q3
  refine⟨?_,?_,?_⟩
  ·rw[eU,cW];simp only;rw[p1,q1]
  ·rw[bB,cW];exact q2
  ·rw[bB,cW];exact q3
end
theorem zC:∀(ps:List (List UInt8)) (w:WS) (m:Scp),SR gN 0 w.vs [m]→kx ps w=(eL ps m w.count).1∧SR gN 0 (bX ps w).vs [(eL ps m w.count).2.1]∧(bX ps w).count=(eL ps m w.count).2.2
 |[],w,m,h=>⟨rfl,h,rfl⟩
 |s::r,w,m,h=>by
  obtain⟨a1,a2,a3⟩:=zC r (iC w s 0) (eb m s w.count) (h.add s w.count w.count rfl)
  have hc:(iC w s 0).count=w.count+1:=rfl
  rw[hc] at a1 a2 a3
  refine⟨?_,?_,?_⟩
  ·rw[kx,eL];simp only;rw[a1]
  ·rw[eL];exact a2
  ·rw[eL];exact a3
theorem Gt(fns:List Fd)(k:Nat)(f:Fd)(h:(fnW fns k f).code=0):rnF fns k f=irF f:=by
 rw[fnW] at h
 obtain⟨p1,p2,p3⟩:=zC f.params ⟨[],0,if dx fns f.name=some k then 0 else 2⟩ [] SR.base
 obtain⟨q1,q2,q3⟩:=ru fns k f.body 0 _ _ [] p2 h
 rw[p3] at q1
 rw[rnF,irF,p1,q1]
end Go.Proofs.YtnjbhgpbgmpkcaaGreatDoor
namespace Go.Proofs.YtnjbhgpbgmpkcaaGreatDoor
open Go Go.Aw
set_option maxRecDepth 100000
set_option maxHeartbeats 4000000
def rO(n:Nat):AO:= .row 1 [[.p (.int .i64 n)]]
def RH(b0:AO)(n:Nat)(ch:List GS):List AO:=b0::rO n::scH ch
theorem jt(b0:AO)(n:Nat)(ch:List GS):(RH b0 n ch).length=2+scL ch:=by simp only[RH,List.length_cons,gq];omega
theorem uc{b0:AO}(hb:okO 0 b0){n:Nat}{ch:List GS}(hs:jH ch){m:Nat}(hm:2+scL ch≤m):∀o∈RH b0 n ch,okO m o:=
 ae (cM hb) (ae (by intro e he;rw[List.mem_singleton.1 he];simp[below]) (vO ch hs hm))
def Sml(ch:List Scp):Prop:=∀s n,dL ch s=some n→n<26
theorem Sml.getD{ch:List Scp}(h:Sml ch)(s:List UInt8):(dL ch s).getD 0<26:=by
 cases e:dL ch s with
 |none=>simp
 |some n=>exact h s n e
theorem Sml.set{m:Scp}{up:List Scp}(h:Sml (m::up))(s:List UInt8){n:Nat}(hn:n<26):Sml (eb m s n::up):=by
 intro t k e
 rw[dL,rI] at e
 by_cases hst:s=t
 ·rw[if_pos hst] at e;cases e;exact hn
 ·rw[if_neg hst] at e
  exact h t k (by rw[dL];exact e)
theorem Sml.open{ch:List Scp}(h:Sml ch):Sml ([]::ch):=fun s n e=>h s n (by rw[dL] at e;exact e)
theorem Sml.opS{m:Scp}{up:List Scp}(h:Sml (m::up))(o:Int)(s:List UInt8){n:Nat}(hn:o=1→n<26):Sml (opS o s m n::up):=by
 unfold Go.Proofs.YtnjbhgpbgmpkcaaGreatDoor.opS
 split
 ·rename_i e;exact h.set s (hn e)
 ·exact h
def K_impl_renamer_expr:AK:= .seq (.reg [oJ 3 (.box 1 (.t 0)),oJ 4 (.box 4 (.t 1)),oJ 5 (.box 1 (.t 2)),oJ 6 (.alloc [(.p (.int .i64 0)),(.p (.int .i64 0)),(.p (.str [])),.nils])]) (.cut (.seq (.reg [oF 9 0 4,oL 10 9,oJ 11 (.bin .eql (.t 10) (.c (.p (.int .i64 2))))]) (.cond (.t 11) (.seq (.reg [oL 13 5,oF 14 2 4,oL 15 14,oJ 16 (.call aI [(.t 13),(.t 15)]),oM 12 16,oJ 17 (.ext 0 (.t 12)),oJ 18 (.ext 1 (.t 12)),oM 7 17,oM 8 18]) (.reg [oL 19 3,oM 20 7,oJ 21 (.call be [(.t 19),(.t 20)]),oF 22 2 4,oS 22 21])) (.skip))) (.seq (.reg [oF 23 3 4,oL 24 23,oJ 25 (.mkf (.func bF) [(.t 3),(.t 5)]),oJ 26 (.call aK [(.t 24),(.t 25)]),oF 27 3 4,oS 27 26]) (.seq (.reg [oJ 28 (.ld (some 4) (.t 4)),⟨none,none,.st 4 (.t 6) (.t 28)⟩]) (.ret))))
theorem mY:K_impl_renamer_expr.whole=F_impl_renamer_expr.ak:=rfl
variable (G:aA)
theorem vp(n:Nat)(hn:n<26)(r:AV)(h:List AO):AC Tryz.prog G be [r,.p (.int .i64 n)] h fun x h'=>x= .ret (.p (.str (vnm n)))∧h'=h:=by
 refine AC.go mX ?_
 have hv:vnm n=[118,UInt8.ofNat (97+n)]:=by rw[vnm,Nat.mod_eq_of_lt hn]
 have hw:IntKind.i64.wrap (97+(n:Int))=((97+n:Nat):Int):=by rw[ag (by omega) (by omega)];omega
 have hw2:IntKind.i32.wrap (97+(n:Int))=97+(n:Int):=by
  have:∀m:Nat,m<26→IntKind.i32.wrap (97+(m:Int))=97+(m:Int):=by decide
  exact this _ hn
 have htn:(97+(n:Int)).toNat=97+n:=by omega
 have hof:UInt8.ofNat (97+n)=97+UInt8.ofNat n:=by
  have:∀m:Nat,m<26→UInt8.ofNat (97+m)=97+UInt8.ofNat m:=by decide
  exact this _ hn
 rw[hv]
 simp-implicitDefEqProofs[gZ,hw,hw2,htn,hof]
 omega
def RX(b0:AO)(up:List GS)(gap:List AO)(n:Nat):List AO:=b0::rO n::(scH up++gap)
theorem GQ(b0:AO)(up:List GS)(gap:List AO)(n:Nat):(RX b0 up gap n).length=2+scL up+gap.length:=by
 simp only[RX,List.length_cons,List.length_append,gq];omega
theorem Gd(b0:AO)(up:List GS)(gap:List AO)(m:Scp)(n:Nat)(rest:List AO):RH b0 n (⟨gap,m⟩::up)++rest=RX b0 up gap n++(.mp (mpE m):: .row 2 [[.mp (2+scL up+gap.length),upV up]]::rest):=by
 simp[RH,RX,scH]
theorem Jj(b0:AO)(up:List GS)(gap:List AO)(n:Nat)(t:List AO):(RX b0 up gap n++t)[1]?=some (.row 1 [[.p (.int .i64 n)]]):=rfl
theorem Jr(b0:AO)(up:List GS)(gap:List AO)(n k:Nat)(t:List AO):(RX b0 up gap n++t).set 1 (.row 1 [[.p (.int .i64 k)]])=RX b0 up gap k++t:=rfl
theorem CX(b0:AO)(gap:List AO)(m:Scp)(up:List GS)(s:List UInt8)(n:Nat)(hn:n<26)(rest:List AO):AC Tryz.prog G ca [.ptr 1 1 0 0,upV (⟨gap,m⟩::up),.p (.str s)] (RH b0 n (⟨gap,m⟩::up)++rest) fun x h=>x= .ret (.p (.str (vnm n)))∧h=RH b0 (n+1) (⟨gap,eb m s n⟩::up)++rest:=by
 refine AC.go mP ?_
 have hup:upV (⟨gap,m⟩::up)= .ptr (2+scL up+gap.length+1) 2 0 0:=rfl
 have hms:hZ (.str s) (.p (.int .i64 n)) (mpE m)=some (mpE (eb m s n)):=pj s n m
 have hl:=GQ b0 up gap
 have hw:IntKind.i64.wrap ((n:Int)+1)=(n:Int)+1:=ag (by omega) (by omega)
 have hw2:IntKind.i64.wrap ((n:Int)+1-1)=(n:Int):=by rw[ag (by omega) (by omega)];omega
 have hw3:IntKind.i64.wrap (n:Int)=(n:Int):=ag (by omega) (by omega)
 have hs1:∀t,(RX b0 up gap n++t).set 1 (.row 1 [[.p (.int .i64 ((n:Int)+1))]])=RX b0 up gap (n+1)++t:=fun t=>Jr b0 up gap n (n+1) t
 have h1:∀t,(RX b0 up gap (n+1)++t)[1]?=some (.row 1 [[.p (.int .i64 ((n:Int)+1))]]):=fun t=>Jj b0 up gap (n+1) t
 rw[Gd,Gd,hup]
 generalize RX b0 up gap (n+1)=B at hs1 h1⊢
 have h0:=Jj b0 up gap n
 have hln:=hl n
 generalize RX b0 up gap n=A at hs1 h0 hln⊢
 simp-implicitDefEqProofs[gY,hln,hms,h0,h1,hs1,hw,hw2,hw3]
 refine(vp G n hn _ _).mono ?_
 rintro r h ⟨rfl,rfl⟩
 simp-implicitDefEqProofs[aa]
theorem zS(b0:AO)(n:Nat)(ch:List GS)(rest:List AO)(s:List UInt8):AC Tryz.prog G aI [upV ch,.p (.str s)] (RH b0 n ch++rest) fun x h=>x= .ret (.tup [.p (.int .i64 (((dL (sco ch) s).getD 0:Nat):Int)),.p (.bool (dL (sco ch) s).isSome)])∧h=RH b0 n ch++rest:=yg G b0 (rO n) ch rest s
def rBx(ch:List GS)(e:List AV):List AO:=[.row 1 [[.ptr 1 1 0 0]],.row 4 [e],.row 1 [[upV ch]],.row 4 [[.p (.int .i64 0),.p (.int .i64 0),.p (.str []),.nils]]]
def Gx{b0:AO}(hb:okO 0 b0)(n:Nat)(ch:List GS)(e:List PV)(hs:jH ch):Vis Unit where
 I:=fun _=>RH b0 n ch++rBx ch (e.map .p)
 n:=2+scL ch+4
 F:=bF
 caps:=[.ptr (2+scL ch) 1 0 0,.ptr (2+scL ch+2) 1 0 0]
 len:=fun _=>by rw[List.length_append,jt b0];rfl
 ok:=fun _ o ho=>by
  rcases List.mem_append.1 ho with h|h
  ·exact uc hb hs (by omega) o h
  ·simp only[rBx,List.mem_cons,List.not_mem_nil,or_false] at h
   rcases h with rfl|rfl|rfl|rfl
   ·intro e he;rw[List.mem_singleton.1 he];exact⟨by simp only[below];omega,trivial⟩
   ·intro e he;rw[List.mem_singleton.1 he];exact au (Nat.zero_le _) _ (by simp)
   ·intro e he;rw[List.mem_singleton.1 he];exact⟨cL ch (by omega),trivial⟩
   ·intro e he;rw[List.mem_singleton.1 he];exact au (Nat.zero_le _) _ (by simp)
 capsOk:=by simp[below]
theorem oV{α β:Type}(f:α→β):∀(l:List α) (u:Unit),cw (fun(st:Unit) x=>(f x,st)) u l=(l.map f,u)
 |[],u=>rfl
 |x::r,u=>by rw[cw,oV f r];rfl
theorem sf(ch:List Scp):∀l:List Ex,qz ch l=l.map (irE ch)
 |[]=>rfl
 |e::r=>by rw[qz,sf ch r];rfl
end Go.Proofs.YtnjbhgpbgmpkcaaGreatDoor
namespace Go.Proofs.YtnjbhgpbgmpkcaaGreatDoor
open Go Go.Aw
set_option maxRecDepth 100000
set_option maxHeartbeats 4000000
variable (G:aA)
theorem zi{b0:AO}(hb:okO 0 b0){f:FuncId}{args:List AV}{n:Nat}{ch:List GS}{w:List AV→AV}{qs:List PV}(hw:Shp w)(H:AC Tryz.prog G f args (RH b0 n ch) (Mk w true qs (RH b0 n ch)))(hs:jH ch)(rest:List AO)(ha:ah (2+scL ch) args):
 AC Tryz.prog G f args (RH b0 n ch++rest) (Mk w true qs (RH b0 n ch++rest)):=
 Gb hw H rfl (by rw[jt b0];exact ha) (by rw[jt b0];exact uc hb hs (Nat.le_refl _)) (by rw[jt b0];exact uc hb hs (Nat.le_refl _)) rest
theorem EE{b0:AO}(hb:okO 0 b0)(n:Nat)(ch:List GS)(hs:jH ch)(hm:Sml (sco ch)):∀(N:Nat) (e:Ex),e.sz≤N→e.sz≤1073741824→
 AC Tryz.prog G bW [.ptr 1 1 0 0,.agg (e.cs.map .p),upV ch] (RH b0 n ch) (Mk .agg true (irE (sco ch) e).cs (RH b0 n ch)):=by
 intro N
 induction N with
 |zero=>intro e he;have:=e.sz_eq;omega
 |succ N ih=>
  intro e he hz
  have hec:=e.cs_eq
  have hsz:=e.sz_eq
  have hkl:=bt e.kids
  have hre:(irE (sco ch) e).cs=[.int .i64 e.op,.int .i64 e.n,.str (if e.op=2 then irN (sco ch) e.name else e.name),exL (e.kids.map (irE (sco ch)))]:=by
   obtain⟨o,m,s,ks⟩:=e;rw[irE,Ex.cs_eq,←sf];rfl
  have hlen:(RH b0 n ch).length=2+scL ch:=jt b0 n ch
  have hcl:AC Tryz.prog G bW [.ptr 1 1 0 0,.agg (e.cs.map .p),upV ch] (RH b0 n ch) (Mk .agg true (irE (sco ch) e).cs (RH b0 n ch)):=by
   refine AC.goK mQ mY ?_
   have hup:=zE ch
   have hfind:=zS G b0 n ch [.row 1 [[.ptr 1 1 0 0]],.row 4 [[.p (.int .i64 e.op),.p (.int .i64 e.n),.p (.str e.name),.p (exL e.kids)]],.row 1 [[upV ch]],.row 4 [[.p (.int .i64 0),.p (.int .i64 0),.p (.str []),.nils]]] e.name
   have hmp:∀nm:List UInt8,AC Tryz.prog G aK [.p (exL e.kids),.fn (.func bF) [.ptr (2+scL ch) 1 0 0,.ptr (2+scL ch+2) 1 0 0]] (RH b0 n ch++[.row 1 [[.ptr 1 1 0 0]],.row 4 [[.p (.int .i64 e.op),.p (.int .i64 e.n),.p (.str nm),.p (exL e.kids)]],.row 1 [[upV ch]],.row 4 [[.p (.int .i64 0),.p (.int .i64 0),.p (.str []),.nils]]])
    (Mk one true [exL (e.kids.map (irE (sco ch)))] (RH b0 n ch++[.row 1 [[.ptr 1 1 0 0]],.row 4 [[.p (.int .i64 e.op),.p (.int .i64 e.n),.p (.str nm),.p (exL e.kids)]],.row 1 [[upV ch]],.row 4 [[.p (.int .i64 0),.p (.int .i64 0),.p (.str []),.nils]]])):=by
    intro nm
    have hI:RH b0 n ch++[.row 1 [[.ptr 1 1 0 0]],.row 4 [[.p (.int .i64 e.op),.p (.int .i64 e.n),.p (.str nm),.p (exL e.kids)]],.row 1 [[upV ch]],.row 4 [[.p (.int .i64 0),.p (.int .i64 0),.p (.str []),.nils]]]=(Gx hb n ch [.int .i64 e.op,.int .i64 e.n,.str nm,exL e.kids] hs).I ():=rfl
    have hm2:=ud G (Gx hb n ch [.int .i64 e.op,.int .i64 e.n,.str nm,exL e.kids] hs) (fun st x=>(irE (sco ch) x,st)) (fun _ _=>True) e.kids (by omega) (fun i st hi _=>⟨trivial,?_⟩) () trivial
    ·rw[oV] at hm2
     exact hm2
    have hks:=aW (List.getElem_mem hi)
    have hx:=ih e.kids[i] (by omega) (by omega)
    generalize e.kids[i]=x at hx
    have hxc:=x.cs_eq
    have hyc:=(irE (sco ch) x).cs_eq
    refine AC.go lb ?_
    rw[←hI]
    have hx2:=zi G hb gt hx hs [.row 1 [[.ptr 1 1 0 0]],.row 4 [[.p (.int .i64 e.op),.p (.int .i64 e.n),.p (.str nm),.p (exL e.kids)]],.row 1 [[upV ch]],.row 4 [[.p (.int .i64 0),.p (.int .i64 0),.p (.str []),.nils]],.row 4 [[.p (.int .i64 x.op),.p (.int .i64 x.n),.p (.str x.name),.p (exL x.kids)]],.row 4 [[.p (.int .i64 0),.p (.int .i64 0),.p (.str []),.nils]]] ⟨by simp only[below];omega,by simp,cL ch (Nat.le_refl _),trivial⟩
    have hcaps:(Gx hb n ch [.int .i64 e.op,.int .i64 e.n,.str nm,exL e.kids] hs).caps=[.ptr (2+scL ch) 1 0 0,.ptr (2+scL ch+2) 1 0 0]:=rfl
    rw[hxc] at hx2
    rw[hcaps]
    simp-implicitDefEqProofs[fI,hxc,hlen]
    refine hx2.mono ?_
    rintro r h ⟨vs,I,os,rfl,rfl,ho,nd,hf⟩
    obtain⟨K,rfl,hK⟩:=sg ho
    obtain⟨c1,c2⟩:=bz hK
    simp-implicitDefEqProofs[-AV.cells,-AV.isCell,cT,aD,aQ,cV,aE,c1,c2,aa,hlen]
    rw[hyc] at ho⊢
    exact Db (C0:=[_,_,_,_]) (C1:=[_,_]) ho nd hf (by simp)
   rw[hec]
   have hub:below (2+scL ch) (upV ch):=cL ch (Nat.le_refl _)
   generalize upV ch=u at hup hub hfind hmp⊢
   have hmp:=hmp (if e.op=2 then irN (sco ch) e.name else e.name)
   have hD:=hm.getD e.name
   have hirn:irN (sco ch) e.name=vnm ((dL (sco ch) e.name).getD 0):=rfl
   rw[hre]
   clear hre ih
   have hsame:∀(op:Int) (nm:List UInt8) (r1:List (Nat × AV)),Aw.look r1 3= .ptr (2+scL ch) 1 0 0→Aw.look r1 4= .ptr (2+scL ch+1) 4 0 0→Aw.look r1 5= .ptr (2+scL ch+2) 1 0 0→Aw.look r1 6= .ptr (2+scL ch+3) 4 0 0→
    Wk (2+scL ch) (aj 29 r1) (RH b0 n ch++[.row 1 [[.ptr 1 1 0 0]],.row 4 [[.p (.int .i64 op),.p (.int .i64 e.n),.p (.str nm),.p (exL e.kids)]],.row 1 [[u]],.row 4 [[.p (.int .i64 0),.p (.int .i64 0),.p (.str []),.nils]]])
     (aj 29 [(3,.ptr (2+scL ch) 1 0 0),(4,.ptr (2+scL ch+1) 4 0 0),(5,.ptr (2+scL ch+2) 1 0 0),(6,.ptr (2+scL ch+3) 4 0 0)]) (RH b0 n ch++[.row 1 [[.ptr 1 1 0 0]],.row 4 [[.p (.int .i64 op),.p (.int .i64 e.n),.p (.str nm),.p (exL e.kids)]],.row 1 [[u]],.row 4 [[.p (.int .i64 0),.p (.int .i64 0),.p (.str []),.nils]]]):=by
    intro op nm r1 e3 e4 e5 e6
    refine oh (r:=[_,_,_,_]) (s:=[]) hlen (Nat.le_add_right _ _) (uc hb hs (Nat.le_refl _)) ?_ (by simp[below,e3,e4,e5,e6])
    refine ae (by intro x hx;rw[List.mem_singleton.1 hx];exact⟨by simp only[below];omega,trivial⟩) (ae (cM (by simp[okO])) (ae (by intro x hx;rw[List.mem_singleton.1 hx];exact⟨(au (Nat.le_add_right _ _) [u] ⟨hub,trivial⟩).1,trivial⟩) (ae (cM (by simp[okO])) dS)))
   rcases hup with rfl|⟨i,rfl⟩
   ·simp-implicitDefEqProofs[K_impl_renamer_expr,F_impl_renamer_expr,hlen]
    refine kH (aj 29 [(3,.ptr (2+scL ch) 1 0 0),(4,.ptr (2+scL ch+1) 4 0 0),(5,.ptr (2+scL ch+2) 1 0 0),(6,.ptr (2+scL ch+3) 4 0 0)]) (RH b0 n ch++[.row 1 [[.ptr 1 1 0 0]],.row 4 [[.p (.int .i64 e.op),.p (.int .i64 e.n),.p (.str (if e.op=2 then irN (sco ch) e.name else e.name)),.p (exL e.kids)]],.row 1 [[.nilp]],.row 4 [[.p (.int .i64 0),.p (.int .i64 0),.p (.str []),.nils]]]) ?_ ?_
    ·by_cases o2:e.op=2
     ·rw[o2] at hfind
      simp-implicitDefEqProofs[o2,hlen]
      refine hfind.mono ?_
      rintro r h ⟨rfl,rfl⟩
      simp-implicitDefEqProofs[aa,hlen]
      refine(vp G _ hD _ _).mono ?_
      rintro r h ⟨rfl,rfl⟩
      rw[hirn]
      simp-implicitDefEqProofs[aa,hlen]
      exact hsame 2 _ _ (by simp) (by simp) (by simp) (by simp)
     ·simp-implicitDefEqProofs[o2,hlen]
      exact hsame e.op _ _ (by simp) (by simp) (by simp) (by simp)
    ·simp-implicitDefEqProofs[hlen]
     refine hmp.mono ?_
     rintro r h ⟨vs,I,os,rfl,rfl,ho,nd,hf⟩
     obtain⟨K,rfl⟩:=aS ho
     obtain⟨c1,c2⟩:=bz ho
     simp-implicitDefEqProofs[-AV.cells,-AV.isCell,cT,aD,aQ,cV,aE,c1,c2,aa,hlen,one]
     have ho2:OwnL true _ _ _ _:= .p (.int .i64 e.op) (fun _=>rfl) (.p (.int .i64 e.n) (fun _=>rfl) (.p (.str (if e.op=2 then irN (sco ch) e.name else e.name)) (fun _=>rfl) ho))
     exact xS (C1:=[_,_,_,_]) ho2 nd hf (by simp)
   ·simp-implicitDefEqProofs[K_impl_renamer_expr,F_impl_renamer_expr,hlen]
    refine kH (aj 29 [(3,.ptr (2+scL ch) 1 0 0),(4,.ptr (2+scL ch+1) 4 0 0),(5,.ptr (2+scL ch+2) 1 0 0),(6,.ptr (2+scL ch+3) 4 0 0)]) (RH b0 n ch++[.row 1 [[.ptr 1 1 0 0]],.row 4 [[.p (.int .i64 e.op),.p (.int .i64 e.n),.p (.str (if e.op=2 then irN (sco ch) e.name else e.name)),.p (exL e.kids)]],.row 1 [[.ptr i 2 0 0]],.row 4 [[.p (.int .i64 0),.p (.int .i64 0),.p (.str []),.nils]]]) ?_ ?_
    ·by_cases o2:e.op=2
     ·rw[o2] at hfind
      simp-implicitDefEqProofs[o2,hlen]
      refine hfind.mono ?_
      rintro r h ⟨rfl,rfl⟩
      simp-implicitDefEqProofs[aa,hlen]
      refine(vp G _ hD _ _).mono ?_
      rintro r h ⟨rfl,rfl⟩
      rw[hirn]
      simp-implicitDefEqProofs[aa,hlen]
      exact hsame 2 _ _ (by simp) (by simp) (by simp) (by simp)
     ·simp-implicitDefEqProofs[o2,hlen]
      exact hsame e.op _ _ (by simp) (by simp) (by simp) (by simp)
    ·simp-implicitDefEqProofs[hlen]
     refine hmp.mono ?_
     rintro r h ⟨vs,I,os,rfl,rfl,ho,nd,hf⟩
     obtain⟨K,rfl⟩:=aS ho
     obtain⟨c1,c2⟩:=bz ho
     simp-implicitDefEqProofs[-AV.cells,-AV.isCell,cT,aD,aQ,cV,aE,c1,c2,aa,hlen,one]
     have ho2:OwnL true _ _ _ _:= .p (.int .i64 e.op) (fun _=>rfl) (.p (.int .i64 e.n) (fun _=>rfl) (.p (.str (if e.op=2 then irN (sco ch) e.name else e.name)) (fun _=>rfl) ho))
     exact xS (C1:=[_,_,_,_]) ho2 nd hf (by simp)
  exact hcl
end Go.Proofs.YtnjbhgpbgmpkcaaGreatDoor
