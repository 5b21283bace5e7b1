/-
  Contracts and lemmas that the card needs, part 6.
-/
import Derived.Test.YtiojgfhdcpppcaaGreatDoorIr5
namespace Go.Proofs.YtiojgfhdcpppcaaGreatDoor
open Go Go.Aw
set_option maxRecDepth 100000
set_option maxHeartbeats 4000000
abbrev BL:Nat:=9223372036854775807
mutual
def Ex.fit:Ex→Prop
 | .mk _ _ s k=>s.length≤BL∧k.length≤BL∧jR k
def jR:List Ex→Prop
 |[]=>True
 |e::r=>e.fit∧jR r
end
mutual
def Sm.fit:Sm→Prop
 | .mk _ s a b e=>s.length≤BL∧(a.length≤BL∧jR a)∧(b.length≤BL∧iI b)∧(e.length≤BL∧iI e)
def iI:List Sm→Prop
 |[]=>True
 |s::r=>s.fit∧iI r
end
def Fd.fit(f:Fd):Prop:=f.name.length≤BL∧(f.params.length≤BL∧∀x∈f.params,x.length≤BL)∧(f.body.length≤BL∧iI f.body)
theorem nk:∀{l:List Ex} {e:Ex},jR l→e∈l→e.fit
 |x::r,e,h,hm=>by
  rcases List.mem_cons.1 hm with rfl|hm
  ·exact h.1
  ·exact nk h.2 hm
theorem nv:∀{l:List Sm} {e:Sm},iI l→e∈l→e.fit
 |x::r,e,h,hm=>by
  rcases List.mem_cons.1 hm with rfl|hm
  ·exact h.1
  ·exact nv h.2 hm
theorem Ex.fit_eq(e:Ex):e.fit=(e.name.length≤BL∧e.kids.length≤BL∧jR e.kids):=by cases e;rfl
theorem Sm.fit_eq(s:Sm):s.fit=(s.name.length≤BL∧(s.args.length≤BL∧jR s.args)∧(s.body.length≤BL∧iI s.body)∧(s.els.length≤BL∧iI s.els)):=by cases s;rfl
theorem Fd.cs_eq'(f:Fd):f.cs=[.str f.name,ay f.params,smL f.body]:=rfl
def cV(ss:List Nat)(i:Nat):Nat:=ss.length+((ss.take i).map (· -1)).sum
theorem oX(ss:List Nat):cV ss 0=ss.length:=by simp[cV]
theorem pM{ss:List Nat}{i v:Nat}(h:ss[i]?=some v):cV ss (i+1)=cV ss i+(v-1):=by
 rw[cV,cV,List.take_add_one,h,List.map_append,List.sum_append];simp;omega
theorem ud:∀{ss:List Nat},(∀v∈ss,1≤v)→ss.length+(ss.map (· -1)).sum=ss.sum
 |[],_=>rfl
 |v::r,h=>by
  have:=ud (ss:=r) fun x hx=>h x (by simp[hx])
  have h1:=h v (by simp)
  simp only[List.length_cons,List.map_cons,List.sum_cons];omega
theorem rW{ss:List Nat}(h:∀v∈ss,1≤v){i:Nat}(hi:ss.length≤i):cV ss i=ss.sum:=by
 rw[cV,List.take_of_length_le hi,ud h]
theorem tW{ss:List Nat}(h:∀v∈ss,1≤v)(i:Nat):cV ss i≤ss.sum:=by
 rw[←ud h,cV]
 have:(ss.map (· -1)).sum=((ss.take i).map (· -1)).sum+((ss.drop i).map (· -1)).sum:=by
  conv=>lhs;rw[←List.take_append_drop i ss,List.map_append,List.sum_append]
 omega
theorem wv:∀l:List Ex,bC l=(l.map Ex.sz).sum
 |[]=>rfl
 |e::r=>by simp only[bC,List.map_cons,List.sum_cons,wv r]
theorem uO:∀l:List Sm,az l=(l.map Sm.sz).sum
 |[]=>rfl
 |e::r=>by simp only[az,List.map_cons,List.sum_cons,uO r]
theorem Bi(l:List Fd):bc l=(l.map Fd.sz).sum:=rfl
theorem Ex.sz_pos(e:Ex):1≤e.sz:=by rw[e.sz_eq];omega
theorem Sm.sz_pos(e:Sm):1≤e.sz:=by rw[e.sz_eq];omega
theorem Fd.sz_pos(f:Fd):1≤f.sz:=by unfold Fd.sz;omega
def bs(left z:Nat):Int:=if z≤left then((left-z:Nat):Int) else-1
variable (G:aF)
theorem tA(l:List Ex)(left:Nat)(hl:left≤1048576)(hb:l.length≤BL)(H:∀e∈l,∀left:Nat,left≤1048576→VF Tryz.prog G fY [.agg (e.cs.map .p),.p (.int .i64 left)] (.p (.int .i64 (bs left (e.sz-1))))):
 VF Tryz.prog G dx [.p (exL l),.p (.int .i64 left)] (.p (.int .i64 (bs left (bC l)))):=by
 refine AC.go rr ?_
 have hpos:∀v∈l.map Ex.sz,1≤v:=fun v hv=>by obtain⟨e,_,rfl⟩:=List.mem_map.1 hv;exact e.sz_pos
 have hz:=wv l
 have hal:=fun i (hi:l.length≤i)=>rW hpos (i:=i) (by rw[List.length_map];exact hi)
 have hle:=tW hpos
 have h00:cV (l.map Ex.sz) 0=l.length:=by rw[oX,List.length_map]
 rw[←hz] at hal hle
 have hsl:∀l,exL l= .lst 4 (l.map Ex.cs):=fun _=>rfl
 have hw:IntKind.i64.wrap ((left:Int)-l.length)=(left:Int)-l.length:=aq (by simp only[BL] at hb;omega) (by omega)
 by_cases h:l.length≤left
 case neg=>
  have h1:(left:Int)-l.length<0:=by omega
  have:=hle 0
  have h2:bs left (bC l)= -1:=if_neg (by omega)
  simp-implicitDefEqProofs[ia,hsl,hw,h1,h2]
 have h1:¬(left:Int)-l.length<0:=by omega
 simp-implicitDefEqProofs[ia,hsl,hw,h1]
 refine aH (fun i:Nat=>aj 27 [(0,.p (exL l)),(1,.p (.int .i64 ((left-cV (l.map Ex.sz) i:Nat):Int))),(5,.p (.int .i64 i))]) (fun _=>[]) (fun i=>i≤l.length∧cV (l.map Ex.sz) i≤left) (fun i=>l.length-i) 0 ⟨by omega,by rw[h00];exact h⟩ ?_ ?_
 ·refine aw rfl ?_
  simp only[h00]
  simp[below,hsl]
  omega
 ·intro i ⟨hi,hx⟩
  simp-implicitDefEqProofs[hsl]
  refine bg (fun h1=>?_) (fun h1=>?_)
  ·simp at h1
   have hg:=List.getElem?_eq_getElem h1
   have hsu:=pM (ss:=l.map Ex.sz) (i:=i) (v:=l[i].sz) (by rw[List.getElem?_map,hg];rfl)
   have hH:=H l[i] (List.getElem_mem h1) (left-cV (l.map Ex.sz) i) (by omega)
   have hcs:l[i].cs.length=4:=by simp
   have hle1:=hle (i+1)
   generalize l[i]=e at hg hsu hH hcs
   simp-implicitDefEqProofs[hg,hcs]
   refine hH.use ?_
   by_cases h2:e.sz-1≤left-cV (l.map Ex.sz) i
   ·have e2:bs (left-cV (l.map Ex.sz) i) (e.sz-1)=((left-cV (l.map Ex.sz) (i+1):Nat):Int):=by rw[bs,if_pos h2];omega
    have h3:¬((left-cV (l.map Ex.sz) (i+1):Nat):Int)<0:=by omega
    rw[e2]
    simp-implicitDefEqProofs[h3]
    refine⟨i+1,⟨h1,by omega⟩,by omega,aw rfl (by simp[below,hsl,w1 (i:=i) (by simp only[BL] at hb;omega)])⟩
   ·have e2:bs (left-cV (l.map Ex.sz) i) (e.sz-1)= -1:=if_neg h2
    have e3:bs left (bC l)= -1:=if_neg (by omega)
    rw[e2,e3]
    simp-implicitDefEqProofs[]
  ·simp at h1
   have hta:=hal i h1
   have h5:bs left (bC l)=((left-cV (l.map Ex.sz) i:Nat):Int):=by rw[hta,bs,if_pos (by omega)]
   simp-implicitDefEqProofs[h5]
theorem td(l:List Ex)(hb:l.length≤1048576)(H:∀e∈l,VF Tryz.prog G ga [.agg (e.cs.map .p)] (.agg (e.cs.map .p))):VF Tryz.prog G cQ [.p (exL l)] (.p (exL l)):=by
 have hsl:∀l,exL l= .lst 4 (l.map Ex.cs):=fun _=>rfl
 have key:AC Tryz.prog G cQ [.p (exL l)] [] fun x h=>x= .ret (.sl 0 4 0 l.length)∧h=[.row 4 (l.map fun e=>e.cs.map .p)]:=by
  refine AC.go rF ?_
  have hn:(l.map fun e=>e.cs.map AV.p).length=l.length:=by simp
  simp-implicitDefEqProofs[kK,hsl]
  refine⟨by omega,?_⟩
  refine aH (fun i:Nat=>aj 23 [(0,.p (exL l)),(3,.sl 0 4 0 l.length),(4,.p (.int .i64 i))]) (fun i=>[.row 4 ((l.map fun e=>e.cs.map AV.p).take i++List.replicate (l.length-i) [.p (.int .i64 0),.p (.int .i64 0),.p (.str []),.nils])]) (fun i=>i≤l.length) (fun i=>l.length-i) 0 (by simp) ?_ ?_
  ·refine eb [0] rfl (by simp) (bq (by simp) (by simp[below]) cP) ?_
   simp[below,ren,hsl]
  ·intro i hi
   simp-implicitDefEqProofs[hsl]
   refine bg (fun h1=>?_) (fun h1=>?_)
   ·simp at h1
    have hg:=List.getElem?_eq_getElem h1
    have hg2:=rA (z:=([.p (.int .i64 0),.p (.int .i64 0),.p (.str []),.nils]:List AV)) hn h1
    have hset:=oe (z:=([.p (.int .i64 0),.p (.int .i64 0),.p (.str []),.nils]:List AV)) (v:=l[i].cs.map AV.p) hn h1 (by rw[List.getElem?_map,hg];rfl)
    have hH:=H l[i] (List.getElem_mem h1)
    have hcs:=l[i].cs_eq
    have htl:(List.take i (l.map fun(e:Ex)=>e.cs.map AV.p)++List.replicate (l.length-i) ([.p (.int .i64 0),.p (.int .i64 0),.p (.str []),.nils]:List AV)).length=l.length:=by simp;omega
    generalize l[i]=e at hg hset hH hcs
    generalize hRow:(List.take i (l.map fun(e:Ex)=>e.cs.map AV.p)++List.replicate (l.length-i) ([.p (.int .i64 0),.p (.int .i64 0),.p (.str []),.nils]:List AV))=Rw at hg2 hset htl⊢
    rw[hcs] at hH hset
    simp-implicitDefEqProofs[hg,hcs]
    refine hH.use ?_
    simp-implicitDefEqProofs[hg2,h1,eO]
    simp only[List.map_cons,List.map_nil] at hset
    rw[hset]
    refine⟨i+1,h1,by omega,eb [0] rfl (by simp) (bq rfl ?_ cP) ?_⟩
    ·intro x hx
     rcases List.mem_append.1 hx with hx|hx
     ·obtain⟨y,_,rfl⟩:=List.mem_map.1 (List.mem_of_mem_take hx);simp
     ·rw[(List.mem_replicate.1 hx).2];simp[below]
    ·simp[below,ren,hsl,w1 (i:=i) (by omega)]
   ·simp at h1
    have hie:i=l.length:=by omega
    subst hie
    rw[Nat.sub_self,List.replicate_zero,List.append_nil,List.take_of_length_le (by rw[hn];exact Nat.le_refl _)]
    simp-implicitDefEqProofs[]
 refine AC.freeze key (.one ?_ .nil)
 have:=gg (h:=[.row 4 (l.map fun e=>e.cs.map .p)]) (id:=0) (sz:=4) (n:=l.length) (ls:=l.map Ex.cs) (by simp) (by simp) (fun x hx=>by obtain⟨b,_,rfl⟩:=List.mem_map.1 hx;simp)
 exact this
theorem tz(l:List Ex)(hb:l.length≤1048576)(H:∀e∈l,VF Tryz.prog G fS [.agg (e.cs.map .p),.agg (e.cs.map .p)] (.p (.bool true))):VF Tryz.prog G dC [.p (exL l),.p (exL l)] (.p (.bool true)):=by
 refine AC.go ro ?_
 have hsl:∀l,exL l= .lst 4 (l.map Ex.cs):=fun _=>rfl
 simp-implicitDefEqProofs[kJ,hsl]
 refine aH (fun i:Nat=>aj 27 [(0,.p (exL l)),(1,.p (exL l)),(5,.p (.int .i64 i))]) (fun _=>[]) (fun i=>i≤l.length) (fun i=>l.length-i) 0 (by simp) ?_ ?_
 ·exact aw rfl (by simp[below,hsl])
 intro i hi
 simp-implicitDefEqProofs[hsl]
 refine bg (fun h1=>?_) (fun h1=>?_)
 ·simp at h1
  have hg:=List.getElem?_eq_getElem h1
  have hH:=H l[i] (List.getElem_mem h1)
  have hcs:l[i].cs.length=4:=by simp
  generalize l[i]=e at hg hH hcs
  simp-implicitDefEqProofs[hg,hcs]
  refine hH.use ?_
  simp-implicitDefEqProofs[]
  exact⟨i+1,h1,by omega,aw rfl (by simp[below,hsl,w1 (i:=i) (by omega)])⟩
 ·simp at h1
  simp-implicitDefEqProofs[]
theorem tu(l:List Sm)(left:Nat)(hl:left≤1048576)(hb:l.length≤BL)(H:∀e∈l,∀left:Nat,left≤1048576→VF Tryz.prog G fP [.agg (e.cs.map .p),.p (.int .i64 left)] (.p (.int .i64 (bs left (e.sz-1))))):
 VF Tryz.prog G cm [.p (smL l),.p (.int .i64 left)] (.p (.int .i64 (bs left (az l)))):=by
 refine AC.go qO ?_
 have hpos:∀v∈l.map Sm.sz,1≤v:=fun v hv=>by obtain⟨e,_,rfl⟩:=List.mem_map.1 hv;exact e.sz_pos
 have hz:=uO l
 have hal:=fun i (hi:l.length≤i)=>rW hpos (i:=i) (by rw[List.length_map];exact hi)
 have hle:=tW hpos
 have h00:cV (l.map Sm.sz) 0=l.length:=by rw[oX,List.length_map]
 rw[←hz] at hal hle
 have hsl:∀l,smL l= .lst 5 (l.map Sm.cs):=fun _=>rfl
 have hw:IntKind.i64.wrap ((left:Int)-l.length)=(left:Int)-l.length:=aq (by simp only[BL] at hb;omega) (by omega)
 by_cases h:l.length≤left
 case neg=>
  have h1:(left:Int)-l.length<0:=by omega
  have:=hle 0
  have h2:bs left (az l)= -1:=if_neg (by omega)
  simp-implicitDefEqProofs[ig,hsl,hw,h1,h2]
 have h1:¬(left:Int)-l.length<0:=by omega
 simp-implicitDefEqProofs[ig,hsl,hw,h1]
 refine aH (fun i:Nat=>aj 27 [(0,.p (smL l)),(1,.p (.int .i64 ((left-cV (l.map Sm.sz) i:Nat):Int))),(5,.p (.int .i64 i))]) (fun _=>[]) (fun i=>i≤l.length∧cV (l.map Sm.sz) i≤left) (fun i=>l.length-i) 0 ⟨by omega,by rw[h00];exact h⟩ ?_ ?_
 ·refine aw rfl ?_
  simp only[h00]
  simp[below,hsl]
  omega
 ·intro i ⟨hi,hx⟩
  simp-implicitDefEqProofs[hsl]
  refine bg (fun h1=>?_) (fun h1=>?_)
  ·simp at h1
   have hg:=List.getElem?_eq_getElem h1
   have hsu:=pM (ss:=l.map Sm.sz) (i:=i) (v:=l[i].sz) (by rw[List.getElem?_map,hg];rfl)
   have hH:=H l[i] (List.getElem_mem h1) (left-cV (l.map Sm.sz) i) (by omega)
   have hcs:l[i].cs.length=5:=by simp
   have hle1:=hle (i+1)
   generalize l[i]=e at hg hsu hH hcs
   simp-implicitDefEqProofs[hg,hcs]
   refine hH.use ?_
   by_cases h2:e.sz-1≤left-cV (l.map Sm.sz) i
   ·have e2:bs (left-cV (l.map Sm.sz) i) (e.sz-1)=((left-cV (l.map Sm.sz) (i+1):Nat):Int):=by rw[bs,if_pos h2];omega
    have h3:¬((left-cV (l.map Sm.sz) (i+1):Nat):Int)<0:=by omega
    rw[e2]
    simp-implicitDefEqProofs[h3]
    refine⟨i+1,⟨h1,by omega⟩,by omega,aw rfl (by simp[below,hsl,w1 (i:=i) (by simp only[BL] at hb;omega)])⟩
   ·have e2:bs (left-cV (l.map Sm.sz) i) (e.sz-1)= -1:=if_neg h2
    have e3:bs left (az l)= -1:=if_neg (by omega)
    rw[e2,e3]
    simp-implicitDefEqProofs[]
  ·simp at h1
   have hta:=hal i h1
   have h5:bs left (az l)=((left-cV (l.map Sm.sz) i:Nat):Int):=by rw[hta,bs,if_pos (by omega)]
   simp-implicitDefEqProofs[h5]
theorem pE(l:List Sm)(hb:l.length≤1048576)(H:∀e∈l,VF Tryz.prog G fT [.agg (e.cs.map .p)] (.agg (e.cs.map .p))):VF Tryz.prog G cn [.p (smL l)] (.p (smL l)):=by
 have hsl:∀l,smL l= .lst 5 (l.map Sm.cs):=fun _=>rfl
 have key:AC Tryz.prog G cn [.p (smL l)] [] fun x h=>x= .ret (.sl 0 5 0 l.length)∧h=[.row 5 (l.map fun e=>e.cs.map .p)]:=by
  refine AC.go qR ?_
  have hn:(l.map fun e=>e.cs.map AV.p).length=l.length:=by simp
  simp-implicitDefEqProofs[kU,hsl]
  refine⟨by omega,?_⟩
  refine aH (fun i:Nat=>aj 23 [(0,.p (smL l)),(3,.sl 0 5 0 l.length),(4,.p (.int .i64 i))]) (fun i=>[.row 5 ((l.map fun e=>e.cs.map AV.p).take i++List.replicate (l.length-i) [.p (.int .i64 0),.p (.str []),.nils,.nils,.nils])]) (fun i=>i≤l.length) (fun i=>l.length-i) 0 (by simp) ?_ ?_
  ·refine eb [0] rfl (by simp) (bq (by simp) (by simp[below]) cP) ?_
   simp[below,ren,hsl]
  ·intro i hi
   simp-implicitDefEqProofs[hsl]
   refine bg (fun h1=>?_) (fun h1=>?_)
   ·simp at h1
    have hg:=List.getElem?_eq_getElem h1
    have hg2:=rA (z:=([.p (.int .i64 0),.p (.str []),.nils,.nils,.nils]:List AV)) hn h1
    have hset:=oe (z:=([.p (.int .i64 0),.p (.str []),.nils,.nils,.nils]:List AV)) (v:=l[i].cs.map AV.p) hn h1 (by rw[List.getElem?_map,hg];rfl)
    have hH:=H l[i] (List.getElem_mem h1)
    have hcs:=l[i].cs_eq
    have htl:(List.take i (l.map fun(e:Sm)=>e.cs.map AV.p)++List.replicate (l.length-i) ([.p (.int .i64 0),.p (.str []),.nils,.nils,.nils]:List AV)).length=l.length:=by simp;omega
    generalize l[i]=e at hg hset hH hcs
    generalize hRow:(List.take i (l.map fun(e:Sm)=>e.cs.map AV.p)++List.replicate (l.length-i) ([.p (.int .i64 0),.p (.str []),.nils,.nils,.nils]:List AV))=Rw at hg2 hset htl⊢
    rw[hcs] at hH hset
    simp-implicitDefEqProofs[hg,hcs]
    refine hH.use ?_
    simp-implicitDefEqProofs[hg2,h1,eO]
    simp only[List.map_cons,List.map_nil] at hset
    rw[hset]
    refine⟨i+1,h1,by omega,eb [0] rfl (by simp) (bq rfl ?_ cP) ?_⟩
    ·intro x hx
     rcases List.mem_append.1 hx with hx|hx
     ·obtain⟨y,_,rfl⟩:=List.mem_map.1 (List.mem_of_mem_take hx);simp
     ·rw[(List.mem_replicate.1 hx).2];simp[below]
    ·simp[below,ren,hsl,w1 (i:=i) (by omega)]
   ·simp at h1
    have hie:i=l.length:=by omega
    subst hie
    rw[Nat.sub_self,List.replicate_zero,List.append_nil,List.take_of_length_le (by rw[hn];exact Nat.le_refl _)]
    simp-implicitDefEqProofs[]
 refine AC.freeze key (.one ?_ .nil)
 have:=gg (h:=[.row 5 (l.map fun e=>e.cs.map .p)]) (id:=0) (sz:=5) (n:=l.length) (ls:=l.map Sm.cs) (by simp) (by simp) (fun x hx=>by obtain⟨b,_,rfl⟩:=List.mem_map.1 hx;simp)
 exact this
theorem pL(l:List Sm)(hb:l.length≤1048576)(H:∀e∈l,VF Tryz.prog G fN [.agg (e.cs.map .p),.agg (e.cs.map .p)] (.p (.bool true))):VF Tryz.prog G cS [.p (smL l),.p (smL l)] (.p (.bool true)):=by
 refine AC.go rR ?_
 have hsl:∀l,smL l= .lst 5 (l.map Sm.cs):=fun _=>rfl
 simp-implicitDefEqProofs[kO,hsl]
 refine aH (fun i:Nat=>aj 27 [(0,.p (smL l)),(1,.p (smL l)),(5,.p (.int .i64 i))]) (fun _=>[]) (fun i=>i≤l.length) (fun i=>l.length-i) 0 (by simp) ?_ ?_
 ·exact aw rfl (by simp[below,hsl])
 intro i hi
 simp-implicitDefEqProofs[hsl]
 refine bg (fun h1=>?_) (fun h1=>?_)
 ·simp at h1
  have hg:=List.getElem?_eq_getElem h1
  have hH:=H l[i] (List.getElem_mem h1)
  have hcs:l[i].cs.length=5:=by simp
  generalize l[i]=e at hg hH hcs
  simp-implicitDefEqProofs[hg,hcs]
  refine hH.use ?_
  simp-implicitDefEqProofs[]
  exact⟨i+1,h1,by omega,aw rfl (by simp[below,hsl,w1 (i:=i) (by omega)])⟩
 ·simp at h1
  simp-implicitDefEqProofs[]
theorem DU(l:List Fd)(left:Nat)(hl:left≤1048576)(hb:l.length≤BL)(H:∀e∈l,∀left:Nat,left≤1048576→VF Tryz.prog G iU [.agg (e.cs.map .p),.p (.int .i64 left)] (.p (.int .i64 (bs left (e.sz-1))))):
 VF Tryz.prog G ka [.p (fdL l),.p (.int .i64 left)] (.p (.int .i64 (bs left (bc l)))):=by
 refine AC.go ue ?_
 have hpos:∀v∈l.map Fd.sz,1≤v:=fun v hv=>by obtain⟨e,_,rfl⟩:=List.mem_map.1 hv;exact e.sz_pos
 have hz:=Bi l
 have hal:=fun i (hi:l.length≤i)=>rW hpos (i:=i) (by rw[List.length_map];exact hi)
 have hle:=tW hpos
 have h00:cV (l.map Fd.sz) 0=l.length:=by rw[oX,List.length_map]
 rw[←hz] at hal hle
 have hsl:∀l,fdL l= .lst 3 (l.map Fd.cs):=fun _=>rfl
 have hw:IntKind.i64.wrap ((left:Int)-l.length)=(left:Int)-l.length:=aq (by simp only[BL] at hb;omega) (by omega)
 by_cases h:l.length≤left
 case neg=>
  have h1:(left:Int)-l.length<0:=by omega
  have:=hle 0
  have h2:bs left (bc l)= -1:=if_neg (by omega)
  simp-implicitDefEqProofs[kc,hsl,hw,h1,h2]
 have h1:¬(left:Int)-l.length<0:=by omega
 simp-implicitDefEqProofs[kc,hsl,hw,h1]
 refine aH (fun i:Nat=>aj 27 [(0,.p (fdL l)),(1,.p (.int .i64 ((left-cV (l.map Fd.sz) i:Nat):Int))),(5,.p (.int .i64 i))]) (fun _=>[]) (fun i=>i≤l.length∧cV (l.map Fd.sz) i≤left) (fun i=>l.length-i) 0 ⟨by omega,by rw[h00];exact h⟩ ?_ ?_
 ·refine aw rfl ?_
  simp only[h00]
  simp[below,hsl]
  omega
 ·intro i ⟨hi,hx⟩
  simp-implicitDefEqProofs[hsl]
  refine bg (fun h1=>?_) (fun h1=>?_)
  ·simp at h1
   have hg:=List.getElem?_eq_getElem h1
   have hsu:=pM (ss:=l.map Fd.sz) (i:=i) (v:=l[i].sz) (by rw[List.getElem?_map,hg];rfl)
   have hH:=H l[i] (List.getElem_mem h1) (left-cV (l.map Fd.sz) i) (by omega)
   have hcs:l[i].cs.length=3:=by simp
   have hle1:=hle (i+1)
   generalize l[i]=e at hg hsu hH hcs
   simp-implicitDefEqProofs[hg,hcs]
   refine hH.use ?_
   by_cases h2:e.sz-1≤left-cV (l.map Fd.sz) i
   ·have e2:bs (left-cV (l.map Fd.sz) i) (e.sz-1)=((left-cV (l.map Fd.sz) (i+1):Nat):Int):=by rw[bs,if_pos h2];omega
    have h3:¬((left-cV (l.map Fd.sz) (i+1):Nat):Int)<0:=by omega
    rw[e2]
    simp-implicitDefEqProofs[h3]
    refine⟨i+1,⟨h1,by omega⟩,by omega,aw rfl (by simp[below,hsl,w1 (i:=i) (by simp only[BL] at hb;omega)])⟩
   ·have e2:bs (left-cV (l.map Fd.sz) i) (e.sz-1)= -1:=if_neg h2
    have e3:bs left (bc l)= -1:=if_neg (by omega)
    rw[e2,e3]
    simp-implicitDefEqProofs[]
  ·simp at h1
   have hta:=hal i h1
   have h5:bs left (bc l)=((left-cV (l.map Fd.sz) i:Nat):Int):=by rw[hta,bs,if_pos (by omega)]
   simp-implicitDefEqProofs[h5]
theorem DW(l:List Fd)(hb:l.length≤1048576)(H:∀e∈l,VF Tryz.prog G iK [.agg (e.cs.map .p)] (.agg (e.cs.map .p))):VF Tryz.prog G gX [.p (fdL l)] (.p (fdL l)):=by
 have hsl:∀l,fdL l= .lst 3 (l.map Fd.cs):=fun _=>rfl
 have key:AC Tryz.prog G gX [.p (fdL l)] [] fun x h=>x= .ret (.sl 0 3 0 l.length)∧h=[.row 3 (l.map fun e=>e.cs.map .p)]:=by
  refine AC.go uq ?_
  have hn:(l.map fun e=>e.cs.map AV.p).length=l.length:=by simp
  simp-implicitDefEqProofs[oE,hsl]
  refine⟨by omega,?_⟩
  refine aH (fun i:Nat=>aj 23 [(0,.p (fdL l)),(3,.sl 0 3 0 l.length),(4,.p (.int .i64 i))]) (fun i=>[.row 3 ((l.map fun e=>e.cs.map AV.p).take i++List.replicate (l.length-i) [.p (.str []),.nils,.nils])]) (fun i=>i≤l.length) (fun i=>l.length-i) 0 (by simp) ?_ ?_
  ·refine eb [0] rfl (by simp) (bq (by simp) (by simp[below]) cP) ?_
   simp[below,ren,hsl]
  ·intro i hi
   simp-implicitDefEqProofs[hsl]
   refine bg (fun h1=>?_) (fun h1=>?_)
   ·simp at h1
    have hg:=List.getElem?_eq_getElem h1
    have hg2:=rA (z:=([.p (.str []),.nils,.nils]:List AV)) hn h1
    have hset:=oe (z:=([.p (.str []),.nils,.nils]:List AV)) (v:=l[i].cs.map AV.p) hn h1 (by rw[List.getElem?_map,hg];rfl)
    have hH:=H l[i] (List.getElem_mem h1)
    have hcs:=l[i].cs_eq'
    have htl:(List.take i (l.map fun(e:Fd)=>e.cs.map AV.p)++List.replicate (l.length-i) ([.p (.str []),.nils,.nils]:List AV)).length=l.length:=by simp;omega
    generalize l[i]=e at hg hset hH hcs
    generalize hRow:(List.take i (l.map fun(e:Fd)=>e.cs.map AV.p)++List.replicate (l.length-i) ([.p (.str []),.nils,.nils]:List AV))=Rw at hg2 hset htl⊢
    rw[hcs] at hH hset
    simp-implicitDefEqProofs[hg,hcs]
    refine hH.use ?_
    simp-implicitDefEqProofs[hg2,h1,eO]
    simp only[List.map_cons,List.map_nil] at hset
    rw[hset]
    refine⟨i+1,h1,by omega,eb [0] rfl (by simp) (bq rfl ?_ cP) ?_⟩
    ·intro x hx
     rcases List.mem_append.1 hx with hx|hx
     ·obtain⟨y,_,rfl⟩:=List.mem_map.1 (List.mem_of_mem_take hx);simp
     ·rw[(List.mem_replicate.1 hx).2];simp[below]
    ·simp[below,ren,hsl,w1 (i:=i) (by omega)]
   ·simp at h1
    have hie:i=l.length:=by omega
    subst hie
    rw[Nat.sub_self,List.replicate_zero,List.append_nil,List.take_of_length_le (by rw[hn];exact Nat.le_refl _)]
    simp-implicitDefEqProofs[]
 refine AC.freeze key (.one ?_ .nil)
 have:=gg (h:=[.row 3 (l.map fun e=>e.cs.map .p)]) (id:=0) (sz:=3) (n:=l.length) (ls:=l.map Fd.cs) (by simp) (by simp) (fun x hx=>by obtain⟨b,_,rfl⟩:=List.mem_map.1 hx;simp)
 exact this
theorem DM(l:List Fd)(hb:l.length≤1048576)(H:∀e∈l,VF Tryz.prog G iR [.agg (e.cs.map .p),.agg (e.cs.map .p)] (.p (.bool true))):VF Tryz.prog G jW [.p (fdL l),.p (fdL l)] (.p (.bool true)):=by
 refine AC.go um ?_
 have hsl:∀l,fdL l= .lst 3 (l.map Fd.cs):=fun _=>rfl
 simp-implicitDefEqProofs[nO,hsl]
 refine aH (fun i:Nat=>aj 27 [(0,.p (fdL l)),(1,.p (fdL l)),(5,.p (.int .i64 i))]) (fun _=>[]) (fun i=>i≤l.length) (fun i=>l.length-i) 0 (by simp) ?_ ?_
 ·exact aw rfl (by simp[below,hsl])
 intro i hi
 simp-implicitDefEqProofs[hsl]
 refine bg (fun h1=>?_) (fun h1=>?_)
 ·simp at h1
  have hg:=List.getElem?_eq_getElem h1
  have hH:=H l[i] (List.getElem_mem h1)
  have hcs:l[i].cs.length=3:=by simp
  generalize l[i]=e at hg hH hcs
  simp-implicitDefEqProofs[hg,hcs]
  refine hH.use ?_
  simp-implicitDefEqProofs[]
  exact⟨i+1,h1,by omega,aw rfl (by simp[below,hsl,w1 (i:=i) (by omega)])⟩
 ·simp at h1
  simp-implicitDefEqProofs[]
end Go.Proofs.YtiojgfhdcpppcaaGreatDoor
namespace Go.Proofs.YtiojgfhdcpppcaaGreatDoor
open Go Go.Aw
set_option maxRecDepth 100000
set_option maxHeartbeats 4000000
variable (G:aF)
theorem bm{left z:Nat}(h:¬z≤left):bs left z= -1:=if_neg h
theorem dg{left z:Nat}(h:z≤left):bs left z=((left-z:Nat):Int):=if_pos h
theorem AH:∀(N:Nat) (e:Ex),e.sz≤N→e.fit→∀left:Nat,left≤1048576→VF Tryz.prog G fY [.agg (e.cs.map .p),.p (.int .i64 left)] (.p (.int .i64 (bs left (e.sz-1)))):=by
 intro N
 induction N with
 |zero=>intro e he;have:=e.sz_pos;omega
 |succ N ih=>
  intro e he hf left hl
  have hec:=e.cs_eq
  have hsz:=e.sz_eq
  rw[e.fit_eq] at hf
  obtain⟨f1,f2,f3⟩:=hf
  refine AC.go sM ?_
  have hw:IntKind.i64.wrap ((left:Int)-e.name.length)=(left:Int)-e.name.length:=aq (by simp only[BL] at f1;omega) (by omega)
  by_cases h1:e.name.length≤left
  case neg=>
   have h2:(left:Int)-e.name.length<0:=by omega
   rw[bm (by omega)]
   simp-implicitDefEqProofs[jc,hec,hw,h2]
  have h2:¬(left:Int)-e.name.length<0:=by omega
  have e2:(left:Int)-e.name.length=((left-e.name.length:Nat):Int):=by omega
  have hS:=tA G e.kids (left-e.name.length) (by omega) f2 (fun x hx l hl=>ih x (by have:=aL hx;omega) (nk f3 hx) l hl)
  rw[e2] at h2
  replace hw:=hw.trans e2
  simp-implicitDefEqProofs[jc,hec,hw,h2]
  refine hS.use ?_
  by_cases h3:bC e.kids≤left-e.name.length
  ·have n3:¬((left-e.name.length-bC e.kids:Nat):Int)<0:=by omega
   rw[dg h3,dg (by omega)]
   simp-implicitDefEqProofs[n3]
   omega
  ·rw[bm h3,bm (by omega)]
   simp-implicitDefEqProofs[]
theorem zl(l:List Ex)(hf:jR l)(hb:l.length≤BL)(left:Nat)(hl:left≤1048576):VF Tryz.prog G dx [.p (exL l),.p (.int .i64 left)] (.p (.int .i64 (bs left (bC l)))):=
 tA G l left hl hb (fun e he l hl=>AH G e.sz e (Nat.le_refl _) (nk hf he) l hl)
theorem Ba:∀(N:Nat) (s:Sm),s.sz≤N→s.fit→∀left:Nat,left≤1048576→VF Tryz.prog G fP [.agg (s.cs.map .p),.p (.int .i64 left)] (.p (.int .i64 (bs left (s.sz-1)))):=by
 intro N
 induction N with
 |zero=>intro e he;have:=e.sz_pos;omega
 |succ N ih=>
  intro e he hf left hl
  have hec:=e.cs_eq
  have hsz:=e.sz_eq
  rw[e.fit_eq] at hf
  obtain⟨f1,⟨f2,f3⟩,⟨f4,f5⟩,f6,f7⟩:=hf
  have sub:∀l:List Sm,az l≤N→iI l→l.length≤BL→∀left:Nat,left≤1048576→VF Tryz.prog G cm [.p (smL l),.p (.int .i64 left)] (.p (.int .i64 (bs left (az l)))):=fun l hz hf hb left hl=>
   tu G l left hl hb (fun x hx l hl=>ih x (by have:=aP hx;omega) (nv hf hx) l hl)
  refine AC.go sC ?_
  have hw:IntKind.i64.wrap ((left:Int)-e.name.length)=(left:Int)-e.name.length:=aq (by simp only[BL] at f1;omega) (by omega)
  by_cases h1:e.name.length≤left
  case neg=>
   have h2:(left:Int)-e.name.length<0:=by omega
   rw[bm (by omega)]
   simp-implicitDefEqProofs[jg,hec,hw,h2]
  have h2:¬(left:Int)-e.name.length<0:=by omega
  have e2:(left:Int)-e.name.length=((left-e.name.length:Nat):Int):=by omega
  rw[e2] at h2
  replace hw:=hw.trans e2
  simp-implicitDefEqProofs[jg,hec,hw,h2]
  refine(zl G e.args f3 f2 (left-e.name.length) (by omega)).use ?_
  by_cases h3:bC e.args≤left-e.name.length
  case neg=>
   rw[bm h3,bm (by omega)]
   simp-implicitDefEqProofs[]
  have n3:¬((left-e.name.length-bC e.args:Nat):Int)<0:=by omega
  rw[dg h3]
  simp-implicitDefEqProofs[n3]
  refine(sub e.body (by omega) f5 f4 (left-e.name.length-bC e.args) (by omega)).use ?_
  by_cases h4:az e.body≤left-e.name.length-bC e.args
  case neg=>
   rw[bm h4,bm (by omega)]
   simp-implicitDefEqProofs[]
  have n4:¬((left-e.name.length-bC e.args-az e.body:Nat):Int)<0:=by omega
  rw[dg h4]
  simp-implicitDefEqProofs[n4]
  refine(sub e.els (by omega) f7 f6 (left-e.name.length-bC e.args-az e.body) (by omega)).use ?_
  by_cases h5:az e.els≤left-e.name.length-bC e.args-az e.body
  case neg=>
   rw[bm h5,bm (by omega)]
   simp-implicitDefEqProofs[]
  have n5:¬((left-e.name.length-bC e.args-az e.body-az e.els:Nat):Int)<0:=by omega
  rw[dg h5,dg (by omega)]
  simp-implicitDefEqProofs[n5]
  omega
theorem yP(l:List Sm)(hf:iI l)(hb:l.length≤BL)(left:Nat)(hl:left≤1048576):VF Tryz.prog G cm [.p (smL l),.p (.int .i64 left)] (.p (.int .i64 (bs left (az l)))):=
 tu G l left hl hb (fun e he l hl=>Ba G e.sz e (Nat.le_refl _) (nv hf he) l hl)
def ky(xs:List (List UInt8))(i:Nat):Nat:=((xs.take i).map List.length).sum
theorem zx{xs:List (List UInt8)}{i:Nat}(h:i<xs.length):ky xs (i+1)=ky xs i+xs[i].length:=by
 show((xs.take (i+1)).map List.length).sum=((xs.take i).map List.length).sum+xs[i].length
 rw[ah h,List.map_append,List.sum_append]
 rfl
theorem BI{xs:List (List UInt8)}{i:Nat}(h:xs.length≤i):ky xs i=(xs.map List.length).sum:=by rw[ky,List.take_of_length_le h]
theorem CY{xs:List (List UInt8)}{i:Nat}:ky xs i≤(xs.map List.length).sum:=by
 conv=>rhs;rw[←List.take_append_drop i xs,List.map_append,List.sum_append]
 simp[ky]
def szW(xs:List (List UInt8)):Nat:=xs.length+(xs.map List.length).sum
theorem vg(xs:List (List UInt8))(left:Nat)(hl:left≤1048576)(hb:xs.length≤9223372036854775807)(hs:∀x∈xs,x.length≤9223372036854775807):VF Tryz.prog G fy [.p (ay xs),.p (.int .i64 left)] (.p (.int .i64 (if szW xs≤left then((left-szW xs:Nat):Int) else-1))):=by
 refine AC.go pK ?_
 have hw:IntKind.i64.wrap ((left:Int)-xs.length)=(left:Int)-xs.length:=aq (by omega) (by omega)
 have hsz:szW xs=xs.length+(xs.map List.length).sum:=rfl
 by_cases h:xs.length≤left
 case neg=>
  have h1:(left:Int)-xs.length<0:=by omega
  have h2:¬szW xs≤left:=by omega
  simp-implicitDefEqProofs[fz,ay,hw,h1,h2]
 have h1:¬(left:Int)-xs.length<0:=by omega
 simp-implicitDefEqProofs[fz,ay,hw,h1]
 refine aH (fun i:Nat=>aj 28 [(0,.p (ay xs)),(1,.p (.int .i64 ((left-xs.length-ky xs i:Nat):Int))),(5,.p (.int .i64 i))]) (fun _=>[]) (fun i=>i≤xs.length∧xs.length+ky xs i≤left) (fun i=>xs.length-i) 0 (by simp[ky];omega) ?_ ?_
 ·refine aw rfl ?_
  simp[below,ay,ky]
  omega
 ·intro i ⟨hi,hx⟩
  simp-implicitDefEqProofs[ay]
  refine bg (fun h1=>?_) (fun h1=>?_)
  ·simp at h1
   have hg:=List.getElem?_eq_getElem h1
   have hle:=hs _ (List.getElem_mem h1)
   have hsu:=zx h1
   have hsl:=CY (xs:=xs) (i:=i+1)
   have hw2:IntKind.i64.wrap (((left-xs.length-ky xs i:Nat):Int)-(xs[i].length:Int))=((left-xs.length-ky xs i:Nat):Int)-(xs[i].length:Int):=aq (by omega) (by omega)
   by_cases h2:xs.length+ky xs (i+1)≤left
   ·have h3:¬((left-xs.length-ky xs i:Nat):Int)-(xs[i].length:Int)<0:=by omega
    have h4:((left-xs.length-ky xs i:Nat):Int)-(xs[i].length:Int)=((left-xs.length-ky xs (i+1):Nat):Int):=by omega
    rw[h4] at h3
    replace hw2:=hw2.trans h4
    clear hle hsu hsl
    simp-implicitDefEqProofs[hg,hw2,h3]
    refine⟨i+1,⟨h1,h2⟩,by omega,aw rfl (by simp[below,ay,w1 (i:=i) (by omega)])⟩
   ·have h3:((left-xs.length-ky xs i:Nat):Int)-(xs[i].length:Int)<0:=by omega
    have h5:¬szW xs≤left:=by omega
    clear hle hsu hsl
    simp-implicitDefEqProofs[hg,hw2,h3,h5]
  ·simp at h1
   have hta:=BI (xs:=xs) h1
   have h5:szW xs≤left:=by omega
   have h6:((left-xs.length-ky xs i:Nat):Int)=((left-szW xs:Nat):Int):=by omega
   simp-implicitDefEqProofs[h5,h6]
theorem Fy(f:Fd)(hf:f.fit)(left:Nat)(hl:left≤1048576):VF Tryz.prog G iU [.agg (f.cs.map .p),.p (.int .i64 left)] (.p (.int .i64 (bs left (f.sz-1)))):=by
 obtain⟨f1,⟨f2,f3⟩,f4,f5⟩:=hf
 have hec:=f.cs_eq'
 have hsz:f.sz=1+f.name.length+szW f.params+az f.body:=rfl
 refine AC.go vP ?_
 have hw:IntKind.i64.wrap ((left:Int)-f.name.length)=(left:Int)-f.name.length:=aq (by simp only[BL] at f1;omega) (by omega)
 by_cases h1:f.name.length≤left
 case neg=>
  have h2:(left:Int)-f.name.length<0:=by omega
  rw[bm (by omega)]
  simp-implicitDefEqProofs[kG,hec,hw,h2]
 have h2:¬(left:Int)-f.name.length<0:=by omega
 have e2:(left:Int)-f.name.length=((left-f.name.length:Nat):Int):=by omega
 rw[e2] at h2
 replace hw:=hw.trans e2
 simp-implicitDefEqProofs[kG,hec,hw,h2]
 refine(vg G f.params (left-f.name.length) (by omega) f2 f3).use ?_
 by_cases h3:szW f.params≤left-f.name.length
 case neg=>
  rw[if_neg h3,bm (by omega)]
  simp-implicitDefEqProofs[]
 have n3:¬((left-f.name.length-szW f.params:Nat):Int)<0:=by omega
 rw[if_pos h3]
 simp-implicitDefEqProofs[n3]
 refine(yP G f.body f5 f4 (left-f.name.length-szW f.params) (by omega)).use ?_
 by_cases h4:az f.body≤left-f.name.length-szW f.params
 case neg=>
  rw[bm h4,bm (by omega)]
  simp-implicitDefEqProofs[]
 have n4:¬((left-f.name.length-szW f.params-az f.body:Nat):Int)<0:=by omega
 rw[dg h4,dg (by omega)]
 simp-implicitDefEqProofs[n4]
 omega
def Ff(l:List Fd):Prop:=l.length≤BL∧∀f∈l,f.fit
theorem uR(l:List Fd)(hf:Ff l)(left:Nat)(hl:left≤1048576):VF Tryz.prog G dD [.agg [.p (fdL l)],.p (.int .i64 left)] (.p (.int .i64 (bs left (bc l)))):=by
 have hS:=DU G l left hl hf.1 (fun f hm left hl=>Fy G f (hf.2 f hm) left hl)
 refine AC.go oW ?_
 simp-implicitDefEqProofs[jG]
 refine hS.use ?_
 by_cases h:bc l≤left
 ·have n:¬((left-bc l:Nat):Int)<0:=by omega
  rw[dg h]
  simp-implicitDefEqProofs[n]
 ·rw[bm h]
  simp-implicitDefEqProofs[]
theorem BX:∀(N:Nat) (e:Ex),e.sz≤N→e.sz≤1048576→VF Tryz.prog G ga [.agg (e.cs.map .p)] (.agg (e.cs.map .p)):=by
 intro N
 induction N with
 |zero=>intro e he;have:=e.sz_pos;omega
 |succ N ih=>
  intro e he hb
  have hec:=e.cs_eq
  have hsz:=e.sz_eq
  have hkl:=aR e.kids
  have hS:=td G e.kids (by omega) (fun x hx=>ih x (by have:=aL hx;omega) (by have:=aL hx;omega))
  refine AC.go sJ ?_
  simp-implicitDefEqProofs[mJ,hec]
  refine hS.use ?_
  simp-implicitDefEqProofs[]
theorem zu(l:List Ex)(hb:bC l≤1048576):VF Tryz.prog G cQ [.p (exL l)] (.p (exL l)):=
 td G l (by have:=aR l;omega) (fun e he=>BX G e.sz e (Nat.le_refl _) (by have:=aL he;omega))
theorem Ah:∀(N:Nat) (e:Sm),e.sz≤N→e.sz≤1048576→VF Tryz.prog G fT [.agg (e.cs.map .p)] (.agg (e.cs.map .p)):=by
 intro N
 induction N with
 |zero=>intro e he;have:=e.sz_pos;omega
 |succ N ih=>
  intro e he hb
  have hec:=e.cs_eq
  have hsz:=e.sz_eq
  have h1:=aV e.body
  have h2:=aV e.els
  have hB:=pE G e.body (by omega) (fun x hx=>ih x (by have:=aP hx;omega) (by have:=aP hx;omega))
  have hE:=pE G e.els (by omega) (fun x hx=>ih x (by have:=aP hx;omega) (by have:=aP hx;omega))
  refine AC.go sQ ?_
  simp-implicitDefEqProofs[mZ,hec]
  refine(zu G e.args (by omega)).use ?_
  simp-implicitDefEqProofs[]
  refine hB.use ?_
  simp-implicitDefEqProofs[]
  refine hE.use ?_
  simp-implicitDefEqProofs[]
theorem zU(l:List Sm)(hb:az l≤1048576):VF Tryz.prog G cn [.p (smL l)] (.p (smL l)):=
 pE G l (by have:=aV l;omega) (fun e he=>Ah G e.sz e (Nat.le_refl _) (by have:=aP he;omega))
def jo(l:List (List UInt8))(i:Nat):List (List UInt8):=l.take i++List.replicate (l.length-i) []
theorem yV{l:List (List UInt8)}{i:Nat}(h:i<l.length):(jo l i).set i l[i]=jo l (i+1):=by
 have hl:(l.take i).length=i:=by simp;omega
 have e:l.length-i=(l.length-(i+1))+1:=by omega
 show(l.take i++List.replicate (l.length-i) []).set i l[i]=l.take (i+1)++List.replicate (l.length-(i+1)) []
 rw[List.set_append_right _ _ (by omega),hl,Nat.sub_self,e,List.replicate_succ,List.set_cons_zero,ah h,List.append_assoc]
 rfl
theorem zm{l:List (List UInt8)}{i:Nat}(h:i<l.length):(jo l i)[i]?=some []:=by
 have hl:(l.take i).length=i:=by simp;omega
 rw[jo,List.getElem?_append_right (by omega),hl,Nat.sub_self,List.getElem?_replicate,if_pos (by omega)]
theorem zH{l:List (List UInt8)}{i:Nat}(h:i≤l.length):(jo l i).length=l.length:=by simp[jo];omega
theorem vU(l:List (List UInt8))(hb:l.length≤1048576):AC Tryz.prog G dE [.p (ay l)] [] fun x h=>x= .ret (.sl 0 1 0 l.length)∧h=[vW l]:=by
 refine AC.go py ?_
 have hbl:ay l= .lst 1 (l.map fun n=>[.str n]):=rfl
 simp-implicitDefEqProofs[jI,hbl]
 refine⟨by omega,?_⟩
 refine aH (fun i:Nat=>aj 22 [(0,.p (ay l)),(3,.sl 0 1 0 l.length),(4,.p (.int .i64 i))]) (fun i=>[vW (jo l i)]) (fun i=>i≤l.length) (fun i=>l.length-i) 0 (by simp) ?_ ?_
 ·refine eb [0] rfl (by simp) (bq (by simp[jo]) (by simp) cP) ?_
  simp[below,ren,ay]
 ·intro i hi
  have hlen:=zH hi
  simp-implicitDefEqProofs[hbl]
  refine bg (fun h1=>?_) (fun h1=>?_)
  ·simp at h1
   have hg:=List.getElem?_eq_getElem h1
   have hg2:=zm h1
   have hset:((jo l i).map fun n=>[AV.p (.str n)]).set i [.p (.str l[i])]=(jo l (i+1)).map fun n=>[AV.p (.str n)]:=by rw[←yV h1,List.map_set]
   have hbo:vW (jo l i)= .row 1 ((jo l i).map fun n=>[.p (.str n)]):=rfl
   clear hlen
   simp-implicitDefEqProofs[hg,hbo,hg2,h1,hset]
   refine⟨i+1,h1,by omega,eb [0] rfl (by simp) (bq rfl (by simp) cP) ?_⟩
   simp[below,ren,ay,w1 (i:=i) (by omega)]
  ·simp at h1
   have:i=l.length:=by omega
   subst this
   simp-implicitDefEqProofs[jo]
theorem uI(l:List (List UInt8))(hb:l.length≤1048576):VF Tryz.prog G dE [.p (ay l)] (.p (ay l)):=AC.freeze (vU G l hb) (.one (tn rfl) .nil)
theorem EJ(f:Fd)(hb:f.sz≤1048576):VF Tryz.prog G iK [.agg (f.cs.map .p)] (.agg (f.cs.map .p)):=by
 have hec:=f.cs_eq'
 have hsz:f.sz=1+f.name.length+szW f.params+az f.body:=rfl
 have hw:szW f.params=f.params.length+(f.params.map List.length).sum:=rfl
 refine AC.go vM ?_
 simp-implicitDefEqProofs[pS,hec]
 refine(uI G f.params (by omega)).use ?_
 simp-implicitDefEqProofs[]
 refine(zU G f.body (by omega)).use ?_
 simp-implicitDefEqProofs[]
theorem ww(l:List Fd)(hb:bc l≤1048576):VF Tryz.prog G cT [.agg [.p (fdL l)]] (.agg [.p (fdL l)]):=by
 have hS:=DW G l (by have:=bT l;omega) (fun f hm=>EJ G f (by have:=ce hm;omega))
 refine AC.go pr ?_
 simp-implicitDefEqProofs[ju]
 refine hS.use ?_
 simp-implicitDefEqProofs[]
theorem Av:∀(N:Nat) (e:Ex),e.sz≤N→e.sz≤1048576→VF Tryz.prog G fS [.agg (e.cs.map .p),.agg (e.cs.map .p)] (.p (.bool true)):=by
 intro N
 induction N with
 |zero=>intro e he;have:=e.sz_pos;omega
 |succ N ih=>
  intro e he hb
  have hec:=e.cs_eq
  have hsz:=e.sz_eq
  have hkl:=aR e.kids
  have hS:=tz G e.kids (by omega) (fun x hx=>ih x (by have:=aL hx;omega) (by have:=aL hx;omega))
  refine AC.go sP ?_
  simp-implicitDefEqProofs[mQ,hec]
  refine hS.use ?_
  simp-implicitDefEqProofs[]
theorem zz(l:List Ex)(hb:bC l≤1048576):VF Tryz.prog G dC [.p (exL l),.p (exL l)] (.p (.bool true)):=
 tz G l (by have:=aR l;omega) (fun e he=>Av G e.sz e (Nat.le_refl _) (by have:=aL he;omega))
theorem BP:∀(N:Nat) (e:Sm),e.sz≤N→e.sz≤1048576→VF Tryz.prog G fN [.agg (e.cs.map .p),.agg (e.cs.map .p)] (.p (.bool true)):=by
 intro N
 induction N with
 |zero=>intro e he;have:=e.sz_pos;omega
 |succ N ih=>
  intro e he hb
  have hec:=e.cs_eq
  have hsz:=e.sz_eq
  have h1:=aV e.body
  have h2:=aV e.els
  have hB:=pL G e.body (by omega) (fun x hx=>ih x (by have:=aP hx;omega) (by have:=aP hx;omega))
  have hE:=pL G e.els (by omega) (fun x hx=>ih x (by have:=aP hx;omega) (by have:=aP hx;omega))
  refine AC.go sR ?_
  simp-implicitDefEqProofs[mU,hec]
  refine(zz G e.args (by omega)).use ?_
  simp-implicitDefEqProofs[]
  refine hB.use ?_
  simp-implicitDefEqProofs[]
  refine hE.use ?_
  simp-implicitDefEqProofs[]
theorem zd(l:List Sm)(hb:az l≤1048576):VF Tryz.prog G cS [.p (smL l),.p (smL l)] (.p (.bool true)):=
 pL G l (by have:=aV l;omega) (fun e he=>BP G e.sz e (Nat.le_refl _) (by have:=aP he;omega))
theorem vL(xs:List (List UInt8))(hb:xs.length≤1048576):VF Tryz.prog G fA [.p (ay xs),.p (ay xs)] (.p (.bool true)):=by
 refine AC.go pa ?_
 have hsl:ay xs= .lst 1 (xs.map fun w=>[.str w]):=rfl
 simp-implicitDefEqProofs[jr,hsl]
 refine aH (fun i:Nat=>aj 26 [(0,.p (ay xs)),(1,.p (ay xs)),(5,.p (.int .i64 i))]) (fun _=>[]) (fun i=>i≤xs.length) (fun i=>xs.length-i) 0 (by simp) (aw rfl (by simp[below,hsl])) ?_
 intro i hi
 simp-implicitDefEqProofs[hsl]
 refine bg (fun h1=>?_) (fun h1=>?_)
 ·simp at h1
  have hx:=List.getElem?_eq_getElem h1
  generalize xs[i]=v at hx
  simp-implicitDefEqProofs[hx]
  exact⟨i+1,h1,by omega,aw rfl (by simp[below,hsl,w1 (i:=i) (by omega)])⟩
 ·simp at h1
  simp-implicitDefEqProofs[]
theorem Fz(f:Fd)(hb:f.sz≤1048576):VF Tryz.prog G iR [.agg (f.cs.map .p),.agg (f.cs.map .p)] (.p (.bool true)):=by
 have hec:=f.cs_eq'
 have hsz:f.sz=1+f.name.length+szW f.params+az f.body:=rfl
 have hw:szW f.params=f.params.length+(f.params.map List.length).sum:=rfl
 refine AC.go uL ?_
 simp-implicitDefEqProofs[pU,hec]
 refine(vL G f.params (by omega)).use ?_
 simp-implicitDefEqProofs[]
 refine(zd G f.body (by omega)).use ?_
 simp-implicitDefEqProofs[]
theorem uT(l:List Fd)(hb:bc l≤1048576):VF Tryz.prog G fL [.agg [.p (fdL l)],.agg [.p (fdL l)]] (.p (.bool true)):=by
 have hS:=DM G l (by have:=bT l;omega) (fun f hm=>Fz G f (by have:=ce hm;omega))
 refine AC.go pu ?_
 simp-implicitDefEqProofs[jw]
 refine hS.use ?_
 simp-implicitDefEqProofs[]
end Go.Proofs.YtiojgfhdcpppcaaGreatDoor
namespace Go.Proofs.YtiojgfhdcpppcaaGreatDoor
open Go Go.Aw Go.ChangeShapes Go.WideShapes Go.ChangeAt Go.RowKit
set_option maxRecDepth 100000
abbrev BO:TypeId:=24
abbrev Ev:TypeId:=22
abbrev De:TypeId:=111
abbrev xm:TypeId:=54
abbrev ty:TypeId:=9
abbrev om:TypeId:=109
abbrev hU:TypeId:=185
abbrev qL:TypeId:=183
abbrev kL:TypeId:=225
abbrev uX:TypeId:=3
abbrev EN:TypeId:=4
abbrev wP:TypeId:=177
abbrev Cv:TypeId:=232
abbrev DG:TypeId:=233
theorem Hn:Kids Tryz.prog (· <Tryz.prog.types.size):=kids_rows (by kernel_rfl) (by kernel_rfl)
theorem Hl:∀t e,t<Tryz.prog.types.size→Tryz.prog.underlying t=some (.slice e)→0<Tryz.prog.cellsOf e:=slices_full_of Tryz.prog (by kernel_rfl)
def Cp:List TypeId:=[BO,Ev,De,xm,ty,om,hU,qL,kL,uX,EN,wP,Cv]
theorem wR:Plain Tryz.prog Cp=true:=by kernel_rfl
theorem IH:ownKnob Tryz.prog.godebug=none:=by kernel_rfl
theorem rh{H:Type}:∀l:List (DataW H),Rows.uptoBulkAll l=(l.map Rows.uptoBulk).sum
 |[]=>by simp[Rows.uptoBulkAll]
 |d::r=>by simp[Rows.uptoBulkAll,rh r]
theorem Dd{H:Type}:BulkOk (Rows.uptoBulk (H:=H)) where
 lit:=fun l=>by cases l<;>simp[Rows.uptoBulk]
 str:=fun s=>by simp[Rows.uptoBulk]
 nil:=by simp[Rows.uptoBulk]
 slice:=fun es sp=>by simp only[Rows.uptoBulk,rh];omega
 agg:=fun ps=>by simp only[Rows.uptoBulk,rh];omega
theorem iC{t e:TypeId}{vs:List PV}(h:Conf Tryz.prog t vs)(hu:Tryz.prog.underlying t=some (.slice e)):∃es,vs=[.lst (Tryz.prog.cellsOf e) es]∧es.length≤9223372036854775807∧∀x∈es,Conf Tryz.prog e x:=by
 cases h with
 |sl es e' hl hs=>rw[hu] at e';cases e';exact⟨es,rfl,hl,hs⟩
 |bool b e=>rw[e] at hu;cases hu
 |int n e=>rw[e] at hu;cases hu
 |str s e=>rw[e] at hu;cases hu
 |st vs e=>rw[e] at hu;cases hu
 |arr vs e=>rw[e] at hu;cases hu
theorem Ac{vs:List PV}(h:Conf Tryz.prog xm vs):∃l:List (List UInt8),vs=[ay l]∧l.length≤9223372036854775807∧∀x∈l,x.length≤9223372036854775807:=by
 obtain⟨es,rfl,hl,h4⟩:=iC h (e:=ty) (by kernel_rfl)
 have hk:∀x∈es,∃s:List UInt8,x=[PV.str s]∧s.length≤maxLen:=fun x hx=>nT (h4 x hx) (by kernel_rfl)
 obtain⟨l,rfl⟩:=yy (fun s:List UInt8=>[PV.str s]) (fun x hx=>by obtain⟨n,e,_⟩:=hk x hx;exact⟨n,e⟩)
 rw[show Tryz.prog.cellsOf ty=1 by kernel_rfl]
 refine⟨l,rfl,by rwa[List.length_map] at hl,fun s hs=>?_⟩
 obtain⟨m,e,hw⟩:=hk [PV.str s] (List.mem_map.2 ⟨s,hs,rfl⟩)
 cases e
 exact hw
theorem im{α β:Type}(g:β→α)(p:β→Prop):∀{es:List α},(∀x∈es,∃m,x=g m∧p m)→∃ms:List β,es=ms.map g∧∀m∈ms,p m
 |[],_=>⟨[],rfl,fun m hm=>by cases hm⟩
 |e::r,h=>by
  obtain⟨m,hm,hp⟩:=h e (by simp)
  obtain⟨ms,hms,hps⟩:=im g p (es:=r) fun x hx=>h x (by simp[hx])
  exact⟨m::ms,by simp[hm,hms],fun x hx=>by
   rcases List.mem_cons.1 hx with rfl|hx
   ·exact hp
   ·exact hps x hx⟩
theorem pk:∀{l:List Ex},(∀e∈l,e.fit)→jR l
 |[],_=>trivial
 |e::r,h=>⟨h e (by simp),pk fun x hx=>h x (by simp[hx])⟩
theorem ma:∀{l:List Sm},(∀e∈l,e.fit)→iI l
 |[],_=>trivial
 |e::r,h=>⟨h e (by simp),ma fun x hx=>h x (by simp[hx])⟩
theorem sq{x:List PV}{es:List (List PV)}(h:x∈es)(sz:Nat):SizeOf.sizeOf x<SizeOf.sizeOf [PV.lst sz es]:=by
 have:=List.sizeOf_lt_of_mem h
 simp
 omega
theorem Ee:∀(n:Nat) (vs:List PV),SizeOf.sizeOf vs<n→Conf Tryz.prog kL vs→∃e:Ex,vs=e.cs∧e.fit:=by
 intro n
 induction n with
 |zero=>intro vs h;omega
 |succ n ih=>
  intro vs hn h
  have h:=qI (ts:=[uX,uX,ty,qL]) h (by kernel_rfl)
  obtain⟨a,r,rfl,h1,h⟩:=bv h
  obtain⟨b,r,rfl,h2,h⟩:=bv h
  obtain⟨c,r,rfl,h3,h⟩:=bv h
  obtain⟨d,r,rfl,h4,h⟩:=bv h
  cases lY h
  obtain⟨n1,rfl,_⟩:=sw h1 (k:= .i64) (by kernel_rfl)
  obtain⟨n2,rfl,_⟩:=sw h2 (k:= .i64) (by kernel_rfl)
  obtain⟨s,rfl,l3⟩:=nT h3 (by kernel_rfl)
  obtain⟨es,rfl,l4,h5⟩:=iC h4 (e:=kL) (by kernel_rfl)
  have hs1:SizeOf.sizeOf [PV.lst (Tryz.prog.cellsOf kL) es]<n+1:=by simp at hn⊢;omega
  obtain⟨l,rfl,hl⟩:=im Ex.cs Ex.fit (fun x hx=>ih x (by have:=sq hx (Tryz.prog.cellsOf kL);omega) (h5 x hx))
  refine⟨⟨n1,n2,s,l⟩,?_,?_⟩
  ·rw[show Tryz.prog.cellsOf kL=4 by kernel_rfl,Ex.cs_eq];rfl
  ·exact⟨l3,by rwa[List.length_map] at l4,pk hl⟩
theorem BB{vs:List PV}(h:Conf Tryz.prog qL vs):∃l:List Ex,vs=[exL l]∧l.length≤BL∧jR l:=by
 obtain⟨es,rfl,l4,h5⟩:=iC h (e:=kL) (by kernel_rfl)
 obtain⟨l,rfl,hl⟩:=im Ex.cs Ex.fit (fun x hx=>Ee _ x (Nat.lt_succ_self _) (h5 x hx))
 rw[show Tryz.prog.cellsOf kL=4 by kernel_rfl]
 exact⟨l,rfl,by rwa[List.length_map] at l4,pk hl⟩
theorem DH:∀(n:Nat) (vs:List PV),SizeOf.sizeOf vs<n→Conf Tryz.prog hU vs→∃e:Sm,vs=e.cs∧e.fit:=by
 intro n
 induction n with
 |zero=>intro vs h;omega
 |succ n ih=>
  intro vs hn h
  have h:=qI (ts:=[uX,ty,qL,om,om]) h (by kernel_rfl)
  obtain⟨a,r,rfl,h1,h⟩:=bv h
  obtain⟨b,r,rfl,h2,h⟩:=bv h
  obtain⟨c,r,rfl,h3,h⟩:=bv h
  obtain⟨d,r,rfl,h4,h⟩:=bv h
  obtain⟨d',r,rfl,h4',h⟩:=bv h
  cases lY h
  obtain⟨n1,rfl,_⟩:=sw h1 (k:= .i64) (by kernel_rfl)
  obtain⟨s,rfl,l3⟩:=nT h2 (by kernel_rfl)
  obtain⟨ar,rfl,la,fa⟩:=BB h3
  obtain⟨es,rfl,l4,h5⟩:=iC h4 (e:=hU) (by kernel_rfl)
  obtain⟨es',rfl,l4',h5'⟩:=iC h4' (e:=hU) (by kernel_rfl)
  have hs1:SizeOf.sizeOf [PV.lst (Tryz.prog.cellsOf hU) es]<n+1:=by simp at hn⊢;omega
  have hs2:SizeOf.sizeOf [PV.lst (Tryz.prog.cellsOf hU) es']<n+1:=by simp at hn⊢;omega
  obtain⟨l,rfl,hl⟩:=im Sm.cs Sm.fit (fun x hx=>ih x (by have:=sq hx (Tryz.prog.cellsOf hU);omega) (h5 x hx))
  obtain⟨l',rfl,hl'⟩:=im Sm.cs Sm.fit (fun x hx=>ih x (by have:=sq hx (Tryz.prog.cellsOf hU);omega) (h5' x hx))
  refine⟨⟨n1,s,ar,l,l'⟩,?_,?_⟩
  ·rw[show Tryz.prog.cellsOf hU=5 by kernel_rfl,Sm.cs_eq];rfl
  ·exact⟨l3,⟨la,fa⟩,⟨by rwa[List.length_map] at l4,ma hl⟩,⟨by rwa[List.length_map] at l4',ma hl'⟩⟩
theorem Cq{vs:List PV}(h:Conf Tryz.prog om vs):∃l:List Sm,vs=[smL l]∧l.length≤BL∧iI l:=by
 obtain⟨es,rfl,l4,h5⟩:=iC h (e:=hU) (by kernel_rfl)
 obtain⟨l,rfl,hl⟩:=im Sm.cs Sm.fit (fun x hx=>DH _ x (Nat.lt_succ_self _) (h5 x hx))
 rw[show Tryz.prog.cellsOf hU=5 by kernel_rfl]
 exact⟨l,rfl,by rwa[List.length_map] at l4,ma hl⟩
theorem Dk{vs:List PV}(h:Conf Tryz.prog De vs):∃f:Fd,vs=f.cs∧f.fit:=by
 have h:=qI (ts:=[ty,xm,om]) h (by kernel_rfl)
 obtain⟨a,r,rfl,h1,h⟩:=bv h
 obtain⟨b,r,rfl,h2,h⟩:=bv h
 obtain⟨c,r,rfl,h3,h⟩:=bv h
 cases lY h
 obtain⟨s,rfl,l1⟩:=nT h1 (by kernel_rfl)
 obtain⟨ws,rfl,l2,w2⟩:=Ac h2
 obtain⟨bd,rfl,l3,f3⟩:=Cq h3
 exact⟨⟨s,ws,bd⟩,rfl,l1,⟨l2,w2⟩,l3,f3⟩
theorem zE{vs:List PV}(h:Conf Tryz.prog BO vs):∃l:List Fd,vs=[fdL l]∧Ff l:=by
 have h:=qI (ts:=[Ev]) h (by kernel_rfl)
 obtain⟨a,r,rfl,h1,h⟩:=bv h
 cases lY h
 obtain⟨es,rfl,l4,h5⟩:=iC h1 (e:=De) (by kernel_rfl)
 obtain⟨l,rfl,hl⟩:=im Fd.cs Fd.fit (fun x hx=>Dk (h5 x hx))
 rw[show Tryz.prog.cellsOf De=3 by kernel_rfl]
 exact⟨l,rfl,by rwa[List.length_map] at l4,hl⟩
def G0:aF:=fun g=>if g=gZ then some gx else if g=ec then some [.tbl opK opV] else none
theorem Fb:∀k,fK Tryz.prog (k+10) wP (Rows.laid_loop_example_wholeway_impl_keys (H:=Unit))=gx:=fun k=>by kernel_rfl
theorem Iy{W:World}{laid:List (String × DataW Unit)}(hL:laidMet Tryz.prog laid W)(h1:("loop.example/wholeway/impl.keys",Rows.laid_loop_example_wholeway_impl_keys)∈laid)(h2:("loop.example/wholeway/impl.opSign",Rows.laid_loop_example_wholeway_impl_opSign)∈laid):
 ∀g cs,G0 g=some cs→g<W.heap.size∧∀(j:Nat) (c:PV),cs[j]?=some c→∃v,W.cell? ⟨g,j,none⟩=some v∧PRel W (· <W.heap.size) c v:=by
 intro g cs h
 unfold G0 at h
 split at h
 ·rename_i e;subst e;cases h
  exact zr wR hL (n:= "loop.example/wholeway/impl.keys") (d:=Rows.laid_loop_example_wholeway_impl_keys) (t:=wP) h1 (by kernel_rfl) (by kernel_rfl) (by decide) Fb
 ·split at h
  ·rename_i e;subst e;cases h
   exact Cb wR hL (n:= "loop.example/wholeway/impl.opSign") h2 (t:=DG) (k:=uX) (e:=Cv) (by kernel_rfl) (by kernel_rfl) (by kernel_rfl) (.inl ⟨.i64,by kernel_rfl⟩) (by decide) (by kernel_rfl) (by kernel_rfl) (fun m=>by kernel_rfl)
  ·cases h
end Go.Proofs.YtiojgfhdcpppcaaGreatDoor
namespace Go.Proofs.YtiojgfhdcpppcaaGreatDoor
open Go Go.Aw
set_option maxRecDepth 100000
set_option maxHeartbeats 4000000
def K_spec_l4Walk_expr:AK:= .seq (.reg [oJ 3 (.box 4 (.t 1)),oJ 4 (.alloc [(.p (.int .i64 0)),(.p (.int .i64 0)),(.p (.str [])),.nils])]) (.cut (.seq (.reg [oF 8 0 3,oL 9 8,oJ 10 (.bin .eql (.t 9) (.c (.p (.int .i64 2))))]) (.cond (.t 10) (.reg [oM 11 0,oF 12 2 3,oL 13 12,oJ 14 (.call bI [(.t 11),(.t 13)]),oF 15 2 3,oS 15 14]) (.skip))) (.cut (.seq (.reg [oF 16 0 3,oL 17 16,oJ 18 (.bin .eql (.t 17) (.c (.p (.int .i64 13))))]) (.cond (.t 18) (.seq (.reg [oM 19 0,oN 20 19,oF 21 0 20,oF 23 2 3,oJ 22 (.ld (some 1) (.t 21)),oL 24 23,oJ 25 (.call eM [(.t 22),(.t 24)]),oM 5 25]) (.seq (.reg [oM 26 5,oJ 27 (.bin .lss (.t 26) (.c (.p (.int .i64 0)))),oM 28 27,⟨(some 29),some (28,false),.mov (.t 5)⟩,⟨(some 30),some (28,false),.mov (.t 0)⟩,⟨(some 31),some (28,false),.nilck (.t 30)⟩,⟨(some 32),some (28,false),.fldA 1 (.t 31)⟩,⟨(some 33),some (28,false),.ld none (.t 32)⟩,⟨(some 34),some (28,false),.bin .geq (.t 29) (.t 33)⟩,oJ 35 (.pick (.t 28) (.c (.p (.bool true))) (.t 34))]) (.cond (.t 35) (.reg [oM 36 0,oJ 37 (.call aG [(.t 36),(.c (.p (.int .i64 4)))])]) (.seq (.reg [oM 38 0,oN 39 38,oF 40 0 39,oF 41 0 40,oM 43 5,oF 48 3 3,oL 42 41,oJ 44 (.idxS 3 (.t 42) (.t 43)),oF 45 1 44,oL 46 45,oJ 47 (.len false (.t 46)),oL 49 48,oJ 50 (.len false (.t 49)),oJ 51 (.bin .neq (.t 47) (.t 50))]) (.cond (.t 51) (.reg [oM 52 0,oJ 53 (.call aG [(.t 52),(.c (.p (.int .i64 5)))])]) (.skip)))))) (.skip))) (.seq (.reg [oJ 54 (.bsl 4 [(.p (.int .i64 0)),(.p (.int .i64 0)),(.p (.str [])),.nils] 0 []),oM 6 54]) (.seq (.seq (.reg [oK 7 0]) (.blk 0 (.loop (.seq (.seq (.reg [oM 55 7,oF 56 3 3,oL 57 56,oJ 58 (.len false (.t 57)),oJ 59 (.bin .lss (.t 55) (.t 58))]) (.cond (.t 59) (.skip) (.exit 0))) (.seq (.blk 1 (.reg [oM 62 6,oM 63 0,oF 64 3 3,oL 65 64,oM 66 7,oJ 67 (.idxS 4 (.t 65) (.t 66)),oJ 68 (.ld (some 4) (.t 67)),oJ 69 (.call be [(.t 63),(.t 68)]),oJ 70 (.bsl 4 [(.p (.int .i64 0)),(.p (.int .i64 0)),(.p (.str [])),.nils] 1 [(0,4,(.t 69))]),oJ 71 (.app 4 56 (.t 62) (.t 70)),oM 6 71])) (.reg [oM 60 7,oJ 61 (.bin .add (.t 60) (.c (.p (.int .i64 1)))),oM 7 61])))))) (.seq (.reg [oM 72 6,oF 73 3 3,oS 73 72]) (.seq (.reg [oJ 74 (.ld (some 4) (.t 3)),⟨none,none,.st 4 (.t 4) (.t 74)⟩]) (.ret)))))))
theorem nF:K_spec_l4Walk_expr.whole=F_spec_l4Walk_expr.ak:=rfl
variable (G:aF)
theorem uH{f:FuncId}{args:List AV}{nf:Bool}{fns:List Fd}{k:Nat}{w w':WS}{v:AV}(H:AC Tryz.prog G f args (HWk nf fns k w) fun x h=>x= .ret v∧h=HWk nf fns k w')(rest:List AO)(ha:ag 2 args):
 AC Tryz.prog G f args (wO 1 nf fns k w::roC nf w.vs::rest) fun x h=>x= .ret v∧h=wO 1 nf fns k w'::roC nf w'.vs::rest:=by
 refine(AC.pre H rest ha (rx _ _ _ _) ?_).mono ?_
 ·rintro x h ⟨_,rfl⟩;rfl
 ·rintro x h ⟨h1,⟨rfl,rfl⟩,rfl⟩
  exact⟨rfl,rfl⟩
theorem oA{n id:Nat}(hn:id<n){nf nf':Bool}{fns:List Fd}{k:Nat}{w:WS}{vs:List LV}{l:List AO}(r:∀o∈l,okO n o):∀o∈wO id nf fns k w::roC nf' vs::l,okO n o:=ae (pZ hn) (ae (eD _ _ _) r)
theorem rd{ρ π:List Nat}{h r1:List AO}{i id:Nat}{nf:Bool}{fns:List Fd}{k:Nat}{w:WS}(hid:id<ρ.length)(e:h[i]?=some (wO (ρ.getD id 0) nf fns k w))(hr:HW ρ h π r1):HW ρ h (i::π) (wO id nf fns k w::r1):=by
 refine mb (es:=[wC id nf fns k w]) (fun x hx=>?_) ?_ hr
 ·rw[List.mem_singleton.1 hx];exact sn hid
 ·rw[e,List.map_cons,List.map_nil,ut];rfl
theorem zy{α:Type}{l:List α}{i j:Nat}{a b:α}(hij:i≠j)(h:l[j]?=some b):(l.set i a).set j b=l.set i a:=by
 apply List.ext_getElem?
 intro n
 rw[List.getElem?_set]
 split
 ·rename_i e
  subst e
  rw[List.getElem?_set_ne hij,h]
  rw[if_pos (by rw[List.length_set];exact(List.getElem?_eq_some_iff.1 h).1)]
 ·rfl
theorem uv(ρ:List Nat):∀l:List AV,ag 0 l→TW ρ l l
 |[],_=>by simp
 |v::r,h=>by
  rw[us]
  refine⟨.inr ⟨(aD (Nat.zero_le _) [v] ⟨h.1,trivial⟩).1,?_⟩,uv ρ r h.2⟩
  have:=fC ρ [v] ⟨h.1,trivial⟩
  simpa[bz] using this
theorem Hw{h:List AO}{wid id:Nat}{nf:Bool}{fns:List Fd}{k:Nat}{w:WS}(e0:h[wid]?=some (wO id nf fns k w))(e1:h[id]?=some (roC nf w.vs)):HW [wid,id] h [wid,id] (HWk nf fns k w):=by
 refine mb (es:=[wC 1 nf fns k w]) (fun x hx=>?_) ?_ ?_
 ·rw[List.mem_singleton.1 hx];exact sn (by simp)
 ·rw[e0,List.map_cons,List.map_nil,ut];rfl
 ·exact mO e1 (eD _ _ _) cP
theorem EH{f:FuncId}{args:List AV}{nf:Bool}{fns:List Fd}{k:Nat}{w:WS}{v:AV}{c:Int}(H:AC Tryz.prog G f (.ptr 0 5 0 0::args) (HWk nf fns k w) fun x h=>x= .ret v∧h=HWk nf fns k ⟨w.vs,w.count,c⟩)(ha:ag 0 args)(hv:below 0 v)
 {h:List AO}{wid id:Nat}(hid:wid≠id)(e0:h[wid]?=some (wO id nf fns k w))(e1:h[id]?=some (roC nf w.vs)):
 AC Tryz.prog G f (.ptr wid 5 0 0::args) h fun x h'=>x= .ret v∧h'=h.set wid (wO id nf fns k ⟨w.vs,w.count,c⟩):=by
 refine(H.frame [wid,id] (by simp[hid]) ?_ (Hw e0 e1)).mono ?_
 ·rw[us];exact⟨.inr ⟨by simp[below],rfl⟩,uv _ _ ha⟩
 ·rintro x h' ⟨x0,h0,⟨rfl,rfl⟩,_,rfl,rfl⟩
  refine⟨?_,?_⟩
  ·have:=fC ([wid,id]++List.range' h.length ((HWk nf fns k ⟨w.vs,w.count,c⟩).length-(HWk nf fns k w).length)) [v] ⟨hv,trivial⟩
   simp only[bz] at this
   simp only[yT]
   exact congrArg ARes.ret (List.cons.inj this).1
  ·simp only[HWk,List.length_cons,List.length_nil,Nat.sub_self,List.range'_zero,List.append_nil,List.take_succ_cons,List.take_zero,List.map_cons,List.map_nil,List.drop_succ_cons,List.drop_zero,yp,vS,mrg]
   exact zy hid e1
theorem AQ{f:FuncId}{args:List AV}{nf:Bool}{fns:List Fd}{k:Nat}{w:WS}{v:AV}{Q:Bool→WS→Prop}(H:AC Tryz.prog G f (.ptr 0 5 0 0::args) (HWk nf fns k w) fun x h=>∃nf' w',x= .ret v∧h=[wO 2 nf' fns k w',.dead,roC nf' w'.vs]∧Q nf' w')(ha:ag 0 args)(hv:below 0 v)
 {h:List AO}{wid id:Nat}(hid:wid≠id)(e0:h[wid]?=some (wO id nf fns k w))(e1:h[id]?=some (roC nf w.vs)):
 AC Tryz.prog G f (.ptr wid 5 0 0::args) h fun x h'=>∃nf' w',x= .ret v∧h'=(h.set wid (wO h.length nf' fns k w')).set id .dead++[roC nf' w'.vs]∧Q nf' w':=by
 refine(H.frame [wid,id] (by simp[hid]) ?_ (Hw e0 e1)).mono ?_
 ·rw[us];exact⟨.inr ⟨by simp[below],rfl⟩,uv _ _ ha⟩
 ·rintro x h' ⟨x0,h0,⟨nf',w',rfl,rfl,q⟩,_,rfl,rfl⟩
  refine⟨nf',w',?_,?_,q⟩
  ·have:=fC ([wid,id]++List.range' h.length ([wO 2 nf' fns k w',.dead,roC nf' w'.vs].length-(HWk nf fns k w).length)) [v] ⟨hv,trivial⟩
   simp only[bz] at this
   simp only[yT]
   exact congrArg ARes.ret (List.cons.inj this).1
  ·simp only[HWk,List.length_cons,List.length_nil,List.take_succ_cons,List.take_zero,List.map_cons,List.map_nil,List.drop_succ_cons,List.drop_zero,yp,vS,mrg]
   rfl
theorem tx(fns:List Fd)(k:Nat)(vs:List LV):∀(a b:List Ex) (c:Int),bi fns k vs (a++b) c=bi fns k vs b (bi fns k vs a c)
 |[],b,c=>rfl
 |e::r,b,c=>by rw[List.cons_append,bi,bi,tx fns k vs r]
theorem nK(vs:List LV):∀l:List Ex,gA vs l=l.map (rnE vs)
 |[]=>rfl
 |e::r=>by rw[gA,nK vs r];rfl
theorem sy{fns:List Fd}{k:Nat}{vs:List LV}{l:List Ex}{c:Int}{i:Nat}(h:i<l.length):bi fns k vs (l.take (i+1)) c=qt fns k vs l[i] (bi fns k vs (l.take i) c):=by
 rw[ah h,tx];rfl
theorem tg{vs:List LV}{l:List Ex}{i:Nat}(h:i<l.length):gA vs (l.take (i+1))=gA vs (l.take i)++[rnE vs l[i]]:=by
 rw[nK,nK,ah h,List.map_append];rfl
theorem ox(vs:List LV)(l:List Ex):(gA vs l).length=l.length:=by rw[nK,List.length_map]
theorem xS(l:List Ex):(exR l).length=l.length:=by simp[exR]
theorem xP(a b:List Ex):exR (a++b)=exR a++exR b:=by simp[exR]
theorem uJ{h:List AO}{id:Nat}{l:List Ex}(e:h[id]?=some (.row 4 (exR l))):View h (.sl id 4 0 l.length) (exL l):=by
 have:=gg (h:=h) (id:=id) (sz:=4) (n:=l.length) (ls:=l.map Ex.cs) (by rw[e,exR];simp) (by simp) (fun x hx=>by obtain⟨b,_,rfl⟩:=List.mem_map.1 hx;exact b.cs_len)
 exact this
theorem DY{fns:List Fd}{s:List UInt8}{j:Nat}(h:dp fns s=some j):j<fns.length:=by
 rw[dp,List.findIdx?_eq_some_iff_getElem] at h;exact h.1
theorem Dn{fns:List Fd}{k:Nat}(hf:fns.length≤1099511627776):∀(N:Nat) (e:Ex),e.sz≤N→N≤1099511627776→∀(nf:Bool) (w:WS),(nf=true→w.vs=[])→w.vs.length≤1099511627776→
 AC Tryz.prog G be [.ptr 0 5 0 0,.agg (e.cs.map .p)] (HWk nf fns k w) fun x h=>x= .ret (.agg ((rnE w.vs e).cs.map .p))∧h=HWk nf fns k ⟨w.vs,w.count,qt fns k w.vs e w.code⟩:=by
 intro N
 induction N with
 |zero=>intro e he;have:=e.sz_eq;omega
 |succ N ih=>
  intro e he hN nf w hn hl
  have hec:=e.cs_eq
  have hsz:=e.sz_eq
  have hkl:=aR e.kids
  have hre:(rnE w.vs e).cs=[.int .i64 e.op,.int .i64 e.n,.str (if e.op=2 then pc w.vs e.name else e.name),exL (gA w.vs e.kids)]:=by
   obtain⟨o,n,s,ks⟩:=e;rw[rnE,Ex.cs_eq];rfl
  have hce:qt fns k w.vs e w.code=bi fns k w.vs e.kids (jH fns k w.vs e.op e.name e.kids.length w.code):=by
   obtain⟨o,n,s,ks⟩:=e;rfl
  have main:AC Tryz.prog G be [.ptr 0 5 0 0,.agg (e.cs.map .p)] (HWk nf fns k w) fun x h=>∃E1 E2,x= .ret (.agg [.p (.int .i64 e.op),.p (.int .i64 e.n),.p (.str (if e.op=2 then pc w.vs e.name else e.name)),.sl 4 4 0 e.kids.length])∧
   h=[wO 1 nf fns k ⟨w.vs,w.count,qt fns k w.vs e w.code⟩,roC nf w.vs,E1,E2,.row 4 (exR (gA w.vs e.kids))]:=by
   refine AC.goK np nF ?_
   simp-implicitDefEqProofs[K_spec_l4Walk_expr,F_spec_l4Walk_expr,HWk,hec]
   refine jQ (aj 75 [(0,.ptr 0 5 0 0),(3,.ptr 2 4 0 0),(4,.ptr 3 4 0 0)]) [wO 1 nf fns k ⟨w.vs,w.count,if e.op=2 then mE w.vs e.name w.code else w.code⟩,roC nf w.vs,.row 4 [[.p (.int .i64 e.op),.p (.int .i64 e.n),.p (.str (if e.op=2 then pc w.vs e.name else e.name)),.p (exL e.kids)]],.row 4 [[.p (.int .i64 0),.p (.int .i64 0),.p (.str []),.nils]]] ?_ ?_
   ·by_cases o2:e.op=2
    ·simp-implicitDefEqProofs[o2]
     refine(uH G (AF G nf fns k w hn hl e.name) _ (by simp[below])).mono ?_
     rintro r h ⟨rfl,rfl⟩
     simp-implicitDefEqProofs[aa]
     exact ab (by simp) (oA (by simp) (by simp[okO,below])) (by simp[below])
    ·simp-implicitDefEqProofs[o2]
     exact ab (by simp) (oA (by simp) (by simp[okO,below])) (by simp[below])
   refine jQ (aj 75 [(0,.ptr 0 5 0 0),(3,.ptr 2 4 0 0),(4,.ptr 3 4 0 0)]) [wO 1 nf fns k ⟨w.vs,w.count,jH fns k w.vs e.op e.name e.kids.length w.code⟩,roC nf w.vs,.row 4 [[.p (.int .i64 e.op),.p (.int .i64 e.n),.p (.str (if e.op=2 then pc w.vs e.name else e.name)),.p (exL e.kids)]],.row 4 [[.p (.int .i64 0),.p (.int .i64 0),.p (.str []),.nils]]] ?_ ?_
   ·by_cases o13:e.op=13
    ·have hhd:jH fns k w.vs e.op e.name e.kids.length w.code=lw fns k e.name e.kids.length w.code:=by simp[jH,o13]
     rw[hhd]
     simp-implicitDefEqProofs[o13,wO,wC]
     refine(Bb G fns e.name hf).use ?_
     have fin:∀c:Int,Wk 2 (aj 75 [(0,.ptr 0 5 0 0),(3,.ptr 2 4 0 0),(4,.ptr 3 4 0 0)]) [wO 1 nf fns k ⟨w.vs,w.count,c⟩,roC nf w.vs,.row 4 [[.p (.int .i64 13),.p (.int .i64 e.n),.p (.str e.name),.p (exL e.kids)]],.row 4 [[.p (.int .i64 0),.p (.int .i64 0),.p (.str []),.nils]]] (aj 75 [(0,.ptr 0 5 0 0),(3,.ptr 2 4 0 0),(4,.ptr 3 4 0 0)]) [wO 1 nf fns k ⟨w.vs,w.count,c⟩,roC nf w.vs,.row 4 [[.p (.int .i64 13),.p (.int .i64 e.n),.p (.str e.name),.p (exL e.kids)]],.row 4 [[.p (.int .i64 0),.p (.int .i64 0),.p (.str []),.nils]]]:=fun c=>
      ab (by simp) (oA (by simp) (by simp[okO,below])) (by simp[below])
     cases hfa:dp fns e.name with
     |none=>
      simp-implicitDefEqProofs[ixI,lw,hfa]
      refine(uH G (lV G nf fns k w 4) _ (by simp[below])).mono ?_
      rintro r h ⟨rfl,rfl⟩
      simp-implicitDefEqProofs[aa]
      exact ab (h:=[wO 1 nf fns k ⟨w.vs,w.count,fl w.code 4⟩,roC nf w.vs,.row 4 [[.p (.int .i64 13),.p (.int .i64 e.n),.p (.str e.name),.p (exL e.kids)]],.row 4 [[.p (.int .i64 0),.p (.int .i64 0),.p (.str []),.nils]]]) (by simp) (oA (by simp) (by simp[okO,below])) (by simp[below])
     |some j=>
      have hj:=DY hfa
      have hg:=List.getElem?_eq_getElem hj
      have hjn:¬(j:Int)<0:=by omega
      by_cases hkj:k≤j
      ·have hkj':(k:Int)≤(j:Int):=by omega
       simp-implicitDefEqProofs[ixI,lw,hfa,hkj,hkj',hjn]
       refine(uH G (lV G nf fns k w 4) _ (by simp[below])).mono ?_
       rintro r h ⟨rfl,rfl⟩
       simp-implicitDefEqProofs[aa]
       exact ab (h:=[wO 1 nf fns k ⟨w.vs,w.count,fl w.code 4⟩,roC nf w.vs,.row 4 [[.p (.int .i64 13),.p (.int .i64 e.n),.p (.str e.name),.p (exL e.kids)]],.row 4 [[.p (.int .i64 0),.p (.int .i64 0),.p (.str []),.nils]]]) (by simp) (oA (by simp) (by simp[okO,below])) (by simp[below])
      ·have hkj':¬(k:Int)≤(j:Int):=by omega
       have hfl:fdL fns= .lst 3 (fns.map Fd.cs):=rfl
       have hcs:fns[j].cs=[.str fns[j].name,ay fns[j].params,smL fns[j].body]:=rfl
       have hst:ay fns[j].params= .lst 1 (fns[j].params.map fun w=>[.str w]):=rfl
       have hxl:∀l,exL l= .lst 4 (l.map Ex.cs):=fun _=>rfl
       have hpn:zp fns j=fns[j].params.length:=by simp[zp,hg]
       by_cases hp:fns[j].params.length=e.kids.length
       ·have hcc:lw fns k e.name e.kids.length w.code=w.code:=by simp[lw,hfa,hkj,hpn,hp]
        rw[hcc]
        simp-implicitDefEqProofs[ixI,hkj',hjn,hfl,hg,hcs,hst,hxl,hp]
        exact ab (h:=[wO 1 nf fns k w,roC nf w.vs,.row 4 [[.p (.int .i64 13),.p (.int .i64 e.n),.p (.str e.name),.p (exL e.kids)]],.row 4 [[.p (.int .i64 0),.p (.int .i64 0),.p (.str []),.nils]]]) (by simp) (oA (by simp) (by simp[okO,below])) (by simp[below])
       ·have hcc:lw fns k e.name e.kids.length w.code=fl w.code 5:=by simp[lw,hfa,hkj,hpn,hp]
        have hp':¬(fns[j].params.length:Int)=(e.kids.length:Int):=by omega
        rw[hcc]
        simp-implicitDefEqProofs[ixI,hkj',hjn,hfl,hg,hcs,hst,hxl,hp']
        refine(uH G (lV G nf fns k w 5) _ (by simp[below])).mono ?_
        rintro r h ⟨rfl,rfl⟩
        simp-implicitDefEqProofs[aa]
        exact ab (h:=[wO 1 nf fns k ⟨w.vs,w.count,fl w.code 5⟩,roC nf w.vs,.row 4 [[.p (.int .i64 13),.p (.int .i64 e.n),.p (.str e.name),.p (exL e.kids)]],.row 4 [[.p (.int .i64 0),.p (.int .i64 0),.p (.str []),.nils]]]) (by simp) (oA (by simp) (by simp[okO,below])) (by simp[below])
    ·have hhd:jH fns k w.vs e.op e.name e.kids.length w.code=if e.op=2 then mE w.vs e.name w.code else w.code:=by simp[jH,o13]
     rw[hhd]
     simp-implicitDefEqProofs[o13]
     exact ab (by simp) (oA (by simp) (by simp[okO,below])) (by simp[below])
   rw[hce]
   generalize jH fns k w.vs e.op e.name e.kids.length w.code=c2
   generalize (if e.op=2 then pc w.vs e.name else e.name)=s1
   have hxl:exL e.kids= .lst 4 (e.kids.map Ex.cs):=rfl
   simp-implicitDefEqProofs[]
   refine aH (fun i:Nat=>aj 75 [(0,.ptr 0 5 0 0),(3,.ptr 2 4 0 0),(4,.ptr 3 4 0 0),(6,.sl 4 4 0 i),(7,.p (.int .i64 i))])
    (fun i=>[wO 1 nf fns k ⟨w.vs,w.count,bi fns k w.vs (e.kids.take i) c2⟩,roC nf w.vs,.row 4 [[.p (.int .i64 e.op),.p (.int .i64 e.n),.p (.str s1),.p (exL e.kids)]],.row 4 [[.p (.int .i64 0),.p (.int .i64 0),.p (.str []),.nils]],.row 4 (exR (gA w.vs (e.kids.take i)))])
    (fun i=>i≤e.kids.length) (fun i=>e.kids.length-i) 0 (by simp) ?_ ?_
   ·exact ab (by simp) (oA (by simp) (by simp[okO,below])) (by simp[below])
   ·intro i hi
    have hrl:(exR (gA w.vs (e.kids.take i))).length=i:=by rw[xS,ox];simp;omega
    simp-implicitDefEqProofs[hxl]
    refine bg (fun h=>?_) (fun h=>?_)
    ·simp at h
     have hg:=List.getElem?_eq_getElem h
     have hks:=aL (List.getElem_mem h)
     have hkc:=(rnE w.vs e.kids[i]).cs_eq
     simp-implicitDefEqProofs[hg]
     refine(uH G (ih e.kids[i] (by omega) (by omega) nf ⟨w.vs,w.count,bi fns k w.vs (e.kids.take i) c2⟩ hn hl) _ (by simp[below])).mono ?_
     rintro r h ⟨rfl,rfl⟩
     rw[show(rnE (WS.mk w.vs w.count (bi fns k w.vs (e.kids.take i) c2)).vs e.kids[i])=rnE w.vs e.kids[i] from rfl]
     simp-implicitDefEqProofs[aa,hkc,hrl]
     refine⟨by omega,?_⟩
     refine⟨i+1,by omega,by omega,?_⟩
     have htk:List.take i (exR (gA w.vs (e.kids.take i)))=exR (gA w.vs (e.kids.take i)):=List.take_of_length_le (by omega)
     rw[sy h,tg h,xP,htk]
     refine lS [0,1,2,3,6] (by simp) (by decide) (by decide) (rd (by simp) rfl (mO rfl (eD _ _ _) (bq rfl (by simp[below]) (bq rfl (by simp[below]) (bq ?_ ?_ cP))))) (by simp[below,ren,w1 (i:=i) (by omega)])
     ·have:exR [rnE w.vs e.kids[i]]=[[.p (.int .i64 (rnE w.vs e.kids[i]).op),.p (.int .i64 (rnE w.vs e.kids[i]).n),.p (.str (rnE w.vs e.kids[i]).name),.p (exL (rnE w.vs e.kids[i]).kids)]]:=by rw[exR,List.map_singleton,hkc];rfl
      rw[this];rfl
     ·intro x hx
      rcases List.mem_append.1 hx with h|h
      ·exact lh _ x h
      ·exact lh _ x h
    ·simp at h
     have hie:i=e.kids.length:=by omega
     subst hie
     simp-implicitDefEqProofs[]
  refine main.frz 2 (by simp[HWk]) (fun t v h ⟨_,_,e,_⟩=>by cases e) ?_
  rintro v h ⟨E1,E2,e,rfl⟩
  cases e
  refine⟨_,HWk nf fns k ⟨w.vs,w.count,qt fns k w.vs e w.code⟩,by simp,rfl,.agg ?_ .nil,.same (pZ (by omega)) (.same (eD _ _ _) (.nil _)),rfl,rfl⟩
  rw[hre]
  have hrl:=ox w.vs e.kids
  rw[←hrl]
  exact .keep (by simp) (.keep (by simp) (.keep (by simp) (.one (uJ rfl) .nil)))
end Go.Proofs.YtiojgfhdcpppcaaGreatDoor
namespace Go.Proofs.YtiojgfhdcpppcaaGreatDoor
open Go Go.Aw
set_option maxRecDepth 100000
set_option maxHeartbeats 4000000
def K_spec_l4Walk_stmts:AK:= .seq (.reg [oJ 6 (.mov (.c .nils))]) (.seq (.reg [oJ 13 (.bsl 5 [(.p (.int .i64 0)),(.p (.str [])),.nils,.nils,.nils] 0 []),oM 7 13]) (.seq (.reg [oM 14 0,oN 15 14,oF 16 2 15,oL 17 16,oJ 18 (.len false (.t 17)),oM 8 18]) (.seq (.seq (.reg [oK 9 0]) (.blk 0 (.loop (.seq (.seq (.reg [oM 19 9,oM 20 1,oJ 21 (.len false (.t 20)),oJ 22 (.bin .lss (.t 19) (.t 21))]) (.cond (.t 22) (.skip) (.exit 0))) (.seq (.blk 1 (.seq (.reg [oM 25 1,oM 26 9,oJ 27 (.idxS 5 (.t 25) (.t 26)),oJ 28 (.ld (some 5) (.t 27)),oJ 10 (.alloc [(.p (.int .i64 0)),(.p (.str [])),.nils,.nils,.nils]),⟨none,none,.st 5 (.t 10) (.t 28)⟩]) (.seq (.reg [oJ 29 (.bsl 4 [(.p (.int .i64 0)),(.p (.int .i64 0)),(.p (.str [])),.nils] 0 []),oM 11 29]) (.seq (.seq (.reg [oK 12 0]) (.blk 2 (.loop (.seq (.seq (.reg [oM 30 12,oF 31 2 10,oL 32 31,oJ 33 (.len false (.t 32)),oJ 34 (.bin .lss (.t 30) (.t 33))]) (.cond (.t 34) (.skip) (.exit 2))) (.seq (.blk 3 (.reg [oM 37 11,oM 38 0,oF 39 2 10,oL 40 39,oM 41 12,oJ 42 (.idxS 4 (.t 40) (.t 41)),oJ 43 (.ld (some 4) (.t 42)),oJ 44 (.call be [(.t 38),(.t 43)]),oJ 45 (.bsl 4 [(.p (.int .i64 0)),(.p (.int .i64 0)),(.p (.str [])),.nils] 1 [(0,4,(.t 44))]),oJ 46 (.app 4 56 (.t 37) (.t 45)),oM 11 46])) (.reg [oM 35 12,oJ 36 (.bin .add (.t 35) (.c (.p (.int .i64 1)))),oM 12 36])))))) (.cut (.reg [oM 47 11,oF 48 2 10,oS 48 47]) (.cut (.seq (.reg [oF 49 0 10,oL 50 49,oJ 51 (.bin .eql (.t 50) (.c (.p (.int .i64 1))))]) (.cond (.t 51) (.reg [oM 52 0,oF 53 1 10,oL 54 53,oM 55 2,oJ 56 (.call bK [(.t 52),(.t 54),(.t 55)]),oF 57 1 10,oS 57 56]) (.skip))) (.cut (.seq (.reg [oF 58 0 10,oL 59 58,oJ 60 (.bin .eql (.t 59) (.c (.p (.int .i64 2))))]) (.cond (.t 60) (.reg [oM 61 0,oF 62 1 10,oL 63 62,oJ 64 (.call bI [(.t 61),(.t 63)]),oF 65 1 10,oS 65 64]) (.skip))) (.seq (.reg [oM 66 0,oF 67 3 10,oL 68 67,oM 69 2,oJ 70 (.bin .add (.t 69) (.c (.p (.int .i64 1)))),oJ 71 (.call aS [(.t 66),(.t 68),(.t 70)]),oF 72 3 10,oS 72 71]) (.seq (.reg [oM 73 0,oF 74 4 10,oL 75 74,oM 76 2,oJ 77 (.bin .add (.t 76) (.c (.p (.int .i64 1)))),oJ 78 (.call aS [(.t 73),(.t 75),(.t 77)]),oF 79 4 10,oS 79 78]) (.reg [oM 80 7,oJ 81 (.ld (some 5) (.t 10)),oJ 82 (.bsl 5 [(.p (.int .i64 0)),(.p (.str [])),.nils,.nils,.nils] 1 [(0,5,(.t 81))]),oJ 83 (.app 5 96 (.t 80) (.t 82)),oM 7 83])))))))))) (.reg [oM 23 9,oJ 24 (.bin .add (.t 23) (.c (.p (.int .i64 1)))),oM 9 24])))))) (.cut (.seq (.reg [oM 84 2,oJ 85 (.bin .gtr (.t 84) (.c (.p (.int .i64 0))))]) (.cond (.t 85) (.reg [oM 86 0,oM 87 0,oN 88 87,oF 89 2 88,oL 90 89,oM 91 8,oJ 92 (.slS 3 (.t 90) none (some (.t 91))),oN 93 86,oF 94 2 93,oS 94 92]) (.skip))) (.seq (.reg [oM 95 7,oM 6 95]) (.ret))))))
theorem mh:K_spec_l4Walk_stmts.whole=F_spec_l4Walk_stmts.ak:=rfl
theorem wu(fns:List Fd)(k b:Nat):∀(x y:List Sm) (w:WS),br fns k b (x++y) w=br fns k b y (br fns k b x w)
 |[],y,w=>rfl
 |s::r,y,w=>by rw[List.cons_append,br,br,wu fns k b r]
theorem uD(fns:List Fd)(k b:Nat):∀(x y:List Sm) (w:WS),eA fns k b (x++y) w=eA fns k b x w++eA fns k b y (br fns k b x w)
 |[],y,w=>rfl
 |s::r,y,w=>by rw[List.cons_append,eA,eA,uD fns k b r];rfl
theorem zP{fns:List Fd}{k b:Nat}{l:List Sm}{w:WS}{i:Nat}(h:i<l.length):br fns k b (l.take (i+1)) w=stW fns k b l[i] (br fns k b (l.take i) w):=by
 rw[ah h,wu];rfl
theorem zj{fns:List Fd}{k b:Nat}{l:List Sm}{w:WS}{i:Nat}(h:i<l.length):eA fns k b (l.take (i+1)) w=eA fns k b (l.take i) w++[rnS fns k b l[i] (br fns k b (l.take i) w)]:=by
 rw[ah h,uD];rfl
theorem rH(fns:List Fd)(k b:Nat):∀(l:List Sm) (w:WS),(eA fns k b l w).length=l.length
 |[],w=>rfl
 |s::r,w=>by rw[eA,List.length_cons,rH fns k b r,List.length_cons]
theorem Ef{l:List Sm}{i:Nat}(h:i<l.length):az (l.take i)+l[i].sz≤az l:=by
 have e:l=l.take i++l[i]::l.drop (i+1):=by rw[←List.drop_eq_getElem_cons h,List.take_append_drop]
 have h2:az l=az (l.take i)+(l[i].sz+az (l.drop (i+1))):=by
  conv=>lhs;rw[e]
  rw[qf];rfl
 omega
def nw(fns:List Fd)(k b:Nat)(l:List Sm)(w:WS):WS:=if 0<b then(br fns k b l w).back w.vs else br fns k b l w
theorem xv(fns:List Fd)(k b:Nat)(l:List Sm)(w:WS):(nw fns k b l w).count=w.count+cz l:=by
 unfold nw
 split
 ·exact eE fns k l b w
 ·exact eE fns k l b w
theorem Ap{e vs:List LV}:(lvR (e++vs)).take vs.length=lvR vs:=by
 have h:lvR (e++vs)=lvR vs++lvR e:=by simp[lvR]
 rw[h,List.take_append_of_le_length (by rw[qM];exact Nat.le_refl _),List.take_of_length_le (by rw[qM];exact Nat.le_refl _)]
theorem tt(l:List Sm):cz l≤az l:=Nat.le_trans (kN l) (ki l)
theorem xb(nf:Bool)(id n:Nat):(vaC nf id n).isCell=true:=by cases nf<;>rfl
theorem zL(nf:Bool)(id n:Nat):(vaC nf id n).cells=[vaC nf id n]:=by cases nf<;>rfl
attribute [simp ↓] xb zL
variable (G:aF)
def StP(fns:List Fd)(k b:Nat)(l:List Sm)(w:WS)(x:ARes)(h:List AO):Prop:=∃nf' w',x= .ret (.p (smL (eA fns k b l w)))∧h=[wO 2 nf' fns k w',.dead,roC nf' w'.vs]∧(nf'=true→w'.vs=[])∧w'=nw fns k b l w
structure StS where (i:Nat) (nf:Bool)
theorem Am{fns:List Fd}{k:Nat}(hf:fns.length≤1099511627776):∀(N:Nat) (l:List Sm),az l<N→∀(b:Nat) (nf:Bool) (w:WS),(nf=true→w.vs=[])→w.vs.length≤w.count→w.count+az l≤1099511627776→b+az l≤1099511627776→
 AC Tryz.prog G aS [.ptr 0 5 0 0,.p (smL l),.p (.int .i64 b)] (HWk nf fns k w) (StP fns k b l w):=by
 intro N
 induction N with
 |zero=>
  intro l hl b nf w hn hv hc hb
  omega
 |succ N ih=>
  intro l hl b nf w hn hv hc hb
  have hll:=aV l
  refine AC.goK mA mh ?_
  have hsl:∀l,smL l= .lst 5 (l.map Sm.cs):=fun _=>rfl
  have hlen0:wB (vaC nf 1 w.vs.length)=some (.p (.int .i64 w.vs.length)):=by
   cases nf
   ·rfl
   ·simp[vaC,hn rfl]
  simp-implicitDefEqProofs[K_spec_l4Walk_stmts,F_spec_l4Walk_stmts,HWk,wO,wC,hlen0]
  refine aH (fun s:StS=>aj 96 [(0,.ptr 0 5 0 0),(1,.p (smL l)),(2,.p (.int .i64 b)),(7,.sl 2 5 0 s.i),(8,.p (.int .i64 w.vs.length)),(9,.p (.int .i64 s.i))])
   (fun s=>[wO 3 s.nf fns k (br fns k b (l.take s.i) w),.dead,.row 5 (smR (eA fns k b (l.take s.i) w)),roC s.nf (br fns k b (l.take s.i) w).vs])
   (fun s=>s.i≤l.length∧(s.nf=true→(br fns k b (l.take s.i) w).vs=[])) (fun s=>l.length-s.i) ⟨0,nf⟩ ⟨by simp,hn⟩ ?_ ?_
  ·refine yF [0,1,2,1] (by simp) (by decide) ?_ (rd (by simp) rfl (fW (by simp) (bq rfl (by simp[smR,eA]) (mO rfl (eD _ _ _) cP)))) (by simp[below,ren])
   cases nf<;>simp[gM,roC,wO,br]
  ·rintro⟨i,nf⟩ ⟨hi,hn⟩
   simp only at hi hn
   simp-implicitDefEqProofs[hsl]
   refine bg (fun h=>?_) (fun h=>?_)
   ·simp at h
    have hg:=List.getElem?_eq_getElem h
    have hat:=Ef h
    have hse:=l[i].cs_eq
    have hsz:=l[i].sz_eq
    have hle:=ya fns k (l:=l.take i) (b:=b) hv
    have hcn:=eE fns k (l.take i) b w
    have hlz:=tt (l.take i)
    have eW:=zP (fns:=fns) (k:=k) (b:=b) (w:=w) h
    have eR:=zj (fns:=fns) (k:=k) (b:=b) (w:=w) h
    have hol:=rH fns k b (l.take i) w
    rw[List.length_take,Nat.min_eq_left hi] at hol
    generalize l[i]=s at hg hat hse hsz eW eR
    generalize br fns k b (l.take i) w=wi at hn hle hcn eW eR⊢
    generalize eA fns k b (l.take i) w=out at hol eR⊢
    obtain⟨o,nme,a,bd,el⟩:=s
    simp only[Sm.op,Sm.name,Sm.args,Sm.body,Sm.els] at hse hsz
    simp-implicitDefEqProofs[hg,hse]
    have hxl:∀l,exL l= .lst 4 (l.map Ex.cs):=fun _=>rfl
    have hal:=aR a
    have hlE:=tt bd
    have hwl:wi.vs.length≤1099511627776:=by omega
    have hopR:∀(x y z u v:AV),ag 0 [x,y,z,u,v]→okO 5 (AO.row 5 [[x,y,z,u,v]]):=fun x y z u v hh=>cg (fun e he=>by rw[List.mem_singleton.1 he];exact hh)
    refine aH (fun j:Nat=>aj 96 [(0,.ptr 0 5 0 0),(1,.p (smL l)),(2,.p (.int .i64 b)),(7,.sl 2 5 0 i),(8,.p (.int .i64 w.vs.length)),(9,.p (.int .i64 i)),(10,.ptr 4 5 0 0),(11,.sl 5 4 0 j),(12,.p (.int .i64 j))])
     (fun j=>[wO 3 nf fns k ⟨wi.vs,wi.count,bi fns k wi.vs (a.take j) wi.code⟩,.dead,.row 5 (smR out),roC nf wi.vs,.row 5 [[.p (.int .i64 o),.p (.str nme),.p (exL a),.p (smL bd),.p (smL el)]],.row 4 (exR (gA wi.vs (a.take j)))])
     (fun j=>j≤a.length) (fun j=>a.length-j) 0 (by simp) ?_ ?_
    ·refine ab (h:=[wO 3 nf fns k wi,.dead,.row 5 (smR out),roC nf wi.vs,.row 5 [[.p (.int .i64 o),.p (.str nme),.p (exL a),.p (smL bd),.p (smL el)]],.row 4 []]) (by simp) (ae (pZ (by simp)) (ae trivial (ae (cg (gb out)) (ae (eD _ _ _) (by simp[okO,below]))))) (by simp[below,hsl])
    intro j hj
    have hrl:(exR (gA wi.vs (a.take j))).length=j:=by rw[xS,ox];simp;omega
    simp-implicitDefEqProofs[hxl]
    refine bg (fun hc=>?_) (fun hc=>?_)
    ·simp at hc
     have hga:=List.getElem?_eq_getElem hc
     have hks:=aL (List.getElem_mem hc)
     have hkc:=(rnE wi.vs a[j]).cs_eq
     simp-implicitDefEqProofs[hga]
     refine(EH G (id:=3) (Dn G hf (a[j].sz) a[j] (Nat.le_refl _) (by omega) nf ⟨wi.vs,wi.count,bi fns k wi.vs (a.take j) wi.code⟩ hn hwl) (by simp) (by simp[below]) (by decide) rfl rfl).mono ?_
     rintro r h' ⟨rfl,rfl⟩
     rw[show(rnE (WS.mk wi.vs wi.count (bi fns k wi.vs (a.take j) wi.code)).vs a[j])=rnE wi.vs a[j] from rfl]
     simp-implicitDefEqProofs[aa,hkc,hrl]
     refine⟨by omega,j+1,by omega,by omega,?_⟩
     have htk:List.take j (exR (gA wi.vs (a.take j)))=exR (gA wi.vs (a.take j)):=List.take_of_length_le (by omega)
     rw[sy hc,tg hc,xP,htk]
     refine lS [0,1,2,3,4,7] (by simp) (by decide) (by decide) (rd (by simp) rfl (fW (by simp) (bq rfl (gb out) (mO rfl (eD _ _ _) (bq rfl (by simp[below]) (bq ?_ ?_ cP)))))) (by simp[below,ren,hsl,w1 (i:=j) (by omega)])
     ·have:exR [rnE wi.vs a[j]]=[[.p (.int .i64 (rnE wi.vs a[j]).op),.p (.int .i64 (rnE wi.vs a[j]).n),.p (.str (rnE wi.vs a[j]).name),.p (exL (rnE wi.vs a[j]).kids)]]:=by rw[exR,List.map_singleton,hkc];rfl
      rw[this];rfl
     ·intro x hx
      rcases List.mem_append.1 hx with h|h
      ·exact lh _ x h
      ·exact lh _ x h
    simp at hc
    have hje:j=a.length:=by omega
    subst hje
    rw[List.take_length] at hrl⊢
    have hal2:=ox wi.vs a
    simp-implicitDefEqProofs[]
    generalize hw1:WS.mk wi.vs wi.count (bi fns k wi.vs a wi.code)=w1
    have e1v:w1.vs=wi.vs:=by rw[←hw1]
    have e1c:w1.count=wi.count:=by rw[←hw1]
    have e1l:w1.vs.length=wi.vs.length:=by rw[e1v]
    rw[←e1v]
    refine jQ (aj 96 [(0,.ptr 0 5 0 0),(1,.p (smL l)),(2,.p (.int .i64 b)),(7,.sl 2 5 0 i),(8,.p (.int .i64 w.vs.length)),(9,.p (.int .i64 i)),(10,.ptr 4 5 0 0)])
     [wO 3 nf fns k w1,.dead,.row 5 (smR out),roC nf w1.vs,.row 5 [[.p (.int .i64 o),.p (.str nme),.p (exL (gA w1.vs a)),.p (smL bd),.p (smL el)]]] ?_ ?_
    ·simp-implicitDefEqProofs[]
     refine yC 5 (by omega) (by simp) rfl (.same (pZ (by omega)) (.dead (.same (cg (gb out)) (.same (eD _ _ _) (.one (.keep (by simp[below]) (.keep (by simp[below]) (.one ?_ (.keep (by simp[below]) (.keep (by simp[below]) .nil))))) (.nil _)))))) ?_
     ·rw[←e1v] at hal2
      rw[←hal2]
      exact uJ rfl
     ·refine⟨.keep (by simp[below]) .nil,.keep (by simp[below]) .nil,.keep (by simp[below]) .nil,.keep (by simp[below]) .nil,.keep (by simp[below]) .nil,.keep (by simp[below]) .nil,.keep (by simp[below]) .nil,trivial⟩
    have TT:∀(r1:List (Nat × AV)),Aw.look r1 0= .ptr 0 5 0 0→Aw.look r1 1= .p (smL l)→Aw.look r1 2= .p (.int .i64 b)→Aw.look r1 7= .sl 2 5 0 i→Aw.look r1 8= .p (.int .i64 w.vs.length)→Aw.look r1 9= .p (.int .i64 i)→Aw.look r1 10= .ptr 4 5 0 0→∀ρ:List Nat,ρ.length=5→ρ.getD 0 0=0→ρ.getD 2 0=2→ρ.getD 4 0=4→
     TWA ρ r1 [(0,.ptr 0 5 0 0),(1,.p (smL l)),(2,.p (.int .i64 b)),(7,.sl 2 5 0 i),(8,.p (.int .i64 w.vs.length)),(9,.p (.int .i64 i)),(10,.ptr 4 5 0 0)]:=by
     intro r1 a0 a1 a2 a7 a8 a9 a10 ρ hr r0 r2 r4
     simp[below,ren,hr,a0,a1,a2,a7,a8,a9,a10]
     rw[List.getD_eq_getElem?_getD,List.getElem?_eq_getElem (by omega)] at r0 r2 r4
     exact⟨r0,r2,r4⟩
    have hn1:nf=true→w1.vs=[]:=fun h=>by rw[e1v];exact hn h
    have okB:∀(nf:Bool) (w:WS) (r:AO),okO 0 r→∀x∈[wO 3 nf fns k w,.dead,.row 5 (smR out),roC nf w.vs,r],okO 5 x:=fun nf w r hr=>
     ae (pZ (by omega)) (ae trivial (ae (cg (gb out)) (ae (eD _ _ _) (ae (cg hr) dr))))
    refine jQ (aj 96 [(0,.ptr 0 5 0 0),(1,.p (smL l)),(2,.p (.int .i64 b)),(7,.sl 2 5 0 i),(8,.p (.int .i64 w.vs.length)),(9,.p (.int .i64 i)),(10,.ptr 4 5 0 0)])
     [wO 3 (if o=1 then false else nf) fns k (if o=1 then iD w1 nme b else w1),.dead,.row 5 (smR out),roC (if o=1 then false else nf) (if o=1 then iD w1 nme b else w1).vs,.row 5 [[.p (.int .i64 o),.p (.str (if o=1 then vnm w1.count else nme)),.p (exL (gA w1.vs a)),.p (smL bd),.p (smL el)]]] ?_ ?_
    ·by_cases o1:o=1
     ·simp-implicitDefEqProofs[o1]
      refine(AQ G (id:=3) (Q:=fun nf' w'=>nf'=false∧w'=iD w1 nme b) ((BE G nf fns k w1 hn1 (by omega) (by omega) nme b).mono (by rintro x h ⟨rfl,rfl⟩;exact⟨false,_,rfl,rfl,rfl,rfl⟩)) (by simp) (by simp[below]) (by decide) rfl rfl).mono ?_
      rintro r h' ⟨nf',w',rfl,rfl,rfl,rfl⟩
      simp-implicitDefEqProofs[aa]
      refine lS [0,1,2,5,4] (by simp) (by decide) (by decide) (rd (by simp) rfl (fW (by simp) (bq rfl (gb out) (mO rfl (eD _ _ _) (bq rfl (by simp[below]) cP))))) (TT _ (by simp) (by simp) (by simp) (by simp) (by simp) (by simp) (by simp) _ rfl rfl rfl rfl)
     ·simp-implicitDefEqProofs[o1]
      refine ab (by simp) (okB nf w1 _ (by simp[okO,below])) (by simp[below])
    generalize hw2:(if o=1 then iD w1 nme b else w1)=w2
    generalize hnf2:(if o=1 then false else nf)=nf2
    generalize hnm2:(if o=1 then vnm w1.count else nme)=nm2
    have hn2:nf2=true→w2.vs=[]:=by
     intro h
     by_cases o1:o=1
     ·rw[if_pos o1] at hnf2;rw[←hnf2] at h;cases h
     ·rw[if_neg o1] at hnf2 hw2;rw[←hw2];exact hn1 (by rw[hnf2];exact h)
    have h2c:w2.count=w1.count+if o=1 then 1 else 0:=by rw[←hw2];split<;>rfl
    have h2v:w2.vs.length≤w2.count:=by
     rw[←hw2];split
     ·simp[iD];omega
     ·omega
    have h2b:w2.count≤wi.count+1:=by rw[h2c,e1c];split<;>omega
    refine jQ (aj 96 [(0,.ptr 0 5 0 0),(1,.p (smL l)),(2,.p (.int .i64 b)),(7,.sl 2 5 0 i),(8,.p (.int .i64 w.vs.length)),(9,.p (.int .i64 i)),(10,.ptr 4 5 0 0)])
     [wO 3 nf2 fns k (opW o nme b w1),.dead,.row 5 (smR out),roC nf2 (opW o nme b w1).vs,.row 5 [[.p (.int .i64 o),.p (.str (opN o nme w1)),.p (exL (gA w1.vs a)),.p (smL bd),.p (smL el)]]] ?_ ?_
    ·by_cases o2:o=2
     ·have o1:¬o=1:=by omega
      rw[if_neg o1] at hw2 hnm2
      subst hw2;subst hnm2
      have eo:opW o nme b w1=⟨w1.vs,w1.count,mE w1.vs nme w1.code⟩:=by rw[opW,if_neg o1,if_pos o2]
      have en:opN o nme w1=pc w1.vs nme:=by rw[opN,if_neg o1,if_pos o2]
      rw[eo,en]
      simp-implicitDefEqProofs[o2]
      refine(EH G (id:=3) (AF G nf2 fns k w1 hn2 (by omega) nme) (by simp) (by simp[below]) (by decide) rfl rfl).mono ?_
      rintro r h' ⟨rfl,rfl⟩
      simp-implicitDefEqProofs[aa]
      refine ab (h:=[wO 3 nf2 fns k ⟨w1.vs,w1.count,mE w1.vs nme w1.code⟩,.dead,.row 5 (smR out),roC nf2 w1.vs,_]) (by simp) (okB nf2 ⟨w1.vs,w1.count,mE w1.vs nme w1.code⟩ _ (by simp[okO,below])) (by simp[below])
     ·have eo:opW o nme b w1=w2:=by rw[opW,if_neg o2,←hw2]
      have en:opN o nme w1=nm2:=by rw[opN,if_neg o2,←hnm2]
      rw[eo,en]
      simp-implicitDefEqProofs[o2]
      refine ab (by simp) (okB nf2 w2 _ (by simp[okO,below])) (by simp[below])
    have eov:(opW o nme b w1).vs=w2.vs:=by
     rw[opW,←hw2];split
     ·rfl
     ·split<;>rfl
    have eoc:(opW o nme b w1).count=w2.count:=by rw[lP,h2c]
    have hwb:IntKind.i64.wrap ((b:Int)+1)=((b+1:Nat):Int):=by rw[aq (by omega) (by omega)];omega
    have hstw:stW fns k b (.mk o nme a bd el) wi=nw fns k (b+1) el (nw fns k (b+1) bd (opW o nme b w1)):=by
     rw[stW]
     simp only[hw1,nw,Nat.succ_pos,if_true]
     rfl
    have hrns:(rnS fns k b (.mk o nme a bd el) wi).cs=[.int .i64 o,.str (opN o nme w1),exL (gA w1.vs a),smL (eA fns k (b+1) bd (opW o nme b w1)),smL (eA fns k (b+1) el (nw fns k (b+1) bd (opW o nme b w1)))]:=by
     rw[rnS,Sm.cs_eq]
     simp only[hw1,nw,Nat.succ_pos,if_true,Sm.op,Sm.name,Sm.args,Sm.body,Sm.els,e1v]
     have:opN o nme wi=opN o nme w1:=by simp only[opN,e1v,e1c]
     rw[this]
    rw[hstw] at eW
    clear hstw
    generalize opW o nme b w1=w3 at eov eoc hrns eW⊢
    have hn3:nf2=true→w3.vs=[]:=fun h=>by rw[eov];exact hn2 h
    have h3v:w3.vs.length≤w3.count:=by rw[eov,eoc];exact h2v
    simp-implicitDefEqProofs[hwb]
    refine(AQ G (id:=3) (ih bd (by omega) (b+1) nf2 w3 hn3 h3v (by omega) (by omega)) (by simp) (by simp[below]) (by decide) rfl rfl).mono ?_
    rintro r h' ⟨nf4,w4,rfl,rfl,hn4,hw4⟩
    rw[←hw4] at hrns eW
    have h4c:w4.count=w3.count+cz bd:=by rw[hw4];exact xv _ _ _ _ _
    have h4v:w4.vs.length≤w4.count:=by
     have:w4.vs=w3.vs:=by rw[hw4];simp[nw,WS.back]
     rw[this,h4c];omega
    simp-implicitDefEqProofs[aa,hwb]
    refine(AQ G (id:=5) (ih el (by omega) (b+1) nf4 w4 hn4 h4v (by omega) (by omega)) (by simp) (by simp[below]) (by decide) rfl rfl).mono ?_
    rintro r h' ⟨nf5,w5,rfl,rfl,hn5,hw5⟩
    rw[←hw5] at eW
    have hsl2:(smR out).length=i:=by rw[DT];exact hol
    simp-implicitDefEqProofs[aa,hsl2]
    refine⟨⟨by omega,by omega⟩,⟨i+1,nf5⟩,⟨by simp only;omega,fun h=>by simp only at h⊢;rw[eW];exact hn5 h⟩,by simp only;omega,?_⟩
    simp only
    rw[eW,eR,Ej]
    have htk:List.take i (smR out)=smR out:=List.take_of_length_le (by omega)
    rw[htk]
    have hsm1:smR [rnS fns k b (.mk o nme a bd el) wi]=[[.p (.int .i64 o),.p (.str (opN o nme w1)),.p (exL (gA w1.vs a)),.p (smL (eA fns k (b+1) bd w3)),.p (smL (eA fns k (b+1) el w4))]]:=by rw[smR,List.map_singleton,hrns];rfl
    rw[hsm1]
    refine lS [0,1,8,6] (by simp) (by decide) (by decide) (rd (by simp) rfl (fW (by simp) (bq rfl (fun x hx=>?_) (mO rfl (eD _ _ _) cP)))) (by simp[below,ren,hsl,show IntKind.i64.wrap ((i:Int)+1)=((i:Int)+1) from aq (by omega) (by omega)])
    rcases List.mem_append.1 hx with h|h
    ·exact gb out x h
    ·rw[List.mem_singleton.1 h];simp
   ·simp at h
    have hie:i=l.length:=by omega
    subst hie
    rw[List.take_length] at hn⊢
    obtain⟨ext,hext⟩:=wg fns k l b w
    have hlen:=rH fns k b l w
    refine jQ (aj 96 [(7,.p (smL (eA fns k b l w)))]) [wO 2 nf fns k (nw fns k b l w),.dead,roC nf (nw fns k b l w).vs] ?_ ?_
    ·have fin:∀(r1:List (Nat × AV)) (w':WS),w'.vs=w.vs∨w'.vs=(br fns k b l w).vs→(Aw.look r1 7= .sl 2 5 0 l.length)→
      Wk 2 (aj 96 r1) [wO 3 nf fns k w',.dead,.row 5 (smR (eA fns k b l w)),roC nf (br fns k b l w).vs] (aj 96 [(7,.p (smL (eA fns k b l w)))]) [wO 2 nf fns k w',.dead,roC nf w'.vs]:=by
      intro r1 w' hv' hr
      refine Wk.trans (DN (h1:=[wO 3 nf fns k w',.dead,.row 5 (smR (eA fns k b l w)),roC nf w'.vs]) ?_) (Wk.trans (lS (l1:=[(7,.sl 3 5 0 l.length)]) (h1:=[wO 2 nf fns k w',.dead,roC nf w'.vs,.row 5 (smR (eA fns k b l w))]) [0,1,3,2] (by simp) (by decide) (by decide) (rd (by simp) rfl (fW (by simp) (mO rfl (eD _ _ _) (bq rfl (gb _) cP)))) (by simp[below,ren,hr]))
       (yC 3 (by omega) (by simp) rfl (.same (pZ (by omega)) (.dead (.same (eD _ _ _) (.nil _)))) ?_))
      ·refine⟨.inl rfl,.inl rfl,.inl rfl,?_,trivial⟩
       rcases hv' with e|e
       ·cases nf with
        |true=>exact .inl rfl
        |false=>
         refine .inr ⟨3,lvR (br fns k b l w).vs,w.vs.length,rfl,?_⟩
         rw[hext,Ap,e];rfl
       ·rw[e];exact .inl rfl
      ·rw[←hlen]
       exact⟨.one (CC rfl) .nil,trivial⟩
     by_cases hb0:0<b
     ·have hwe:nw fns k b l w=(br fns k b l w).back w.vs:=if_pos hb0
      rw[hwe]
      have hll2:(br fns k b l w).vs.length=ext.length+w.vs.length:=by rw[hext,List.length_append]
      cases nf with
      |true=>
       have h0:=hn rfl
       rw[h0] at hext
       have h00:w.vs=[]:=(List.append_eq_nil_iff.1 hext.symm).2
       simp-implicitDefEqProofs[hb0,wO,wC,vaC,h00]
       rw[h00] at fin
       exact fin _ ⟨[],(br fns k b l w).count,(br fns k b l w).code⟩ (.inl rfl) (by simp)
      |false=>
       have hle:w.vs.length≤(br fns k b l w).vs.length:=by omega
       simp-implicitDefEqProofs[hb0,wO,wC,vaC,hle]
       exact fin _ ⟨w.vs,(br fns k b l w).count,(br fns k b l w).code⟩ (.inl rfl) (by simp)
     ·have hwe:nw fns k b l w=br fns k b l w:=if_neg hb0
      have hb0':b=0:=by omega
      subst hb0'
      rw[hwe]
      simp-implicitDefEqProofs[]
      exact fin _ _ (.inr rfl) (by simp)
    ·simp-implicitDefEqProofs[]
     refine⟨nf,_,rfl,rfl,?_,rfl⟩
     intro hnf
     have h0:=hn hnf
     unfold nw
     split
     ·rw[h0] at hext;exact(List.append_eq_nil_iff.1 hext.symm).2
     ·exact h0
end Go.Proofs.YtiojgfhdcpppcaaGreatDoor
namespace Go.Proofs.YtiojgfhdcpppcaaGreatDoor
open Go Go.Aw
set_option maxRecDepth 100000
set_option maxHeartbeats 4000000
def K_spec_l4Fn:AK:= .seq (.reg [oJ 2 (.box 1 (.t 0)),oJ 4 (.alloc [(.p (.str [])),.nils,.nils]),oK 5 0,oK 6 0]) (.seq (.reg [oJ 11 (.ld (some 1) (.t 2)),oM 12 1,oJ 13 (.bld [.nils,(.p (.int .i64 0)),.nils,(.p (.int .i64 0)),(.p (.int .i64 0))] [(0,1,(.t 11)),(1,1,(.t 12))]),oJ 14 (.box 5 (.t 13)),oM 7 14]) (.cut (.reg [oF 15 0 2,oL 16 15,oM 17 1,oJ 18 (.idxS 3 (.t 16) (.t 17)),oJ 19 (.ld (some 3) (.t 18)),oJ 8 (.alloc [(.p (.str [])),.nils,.nils]),⟨none,none,.st 3 (.t 8) (.t 19)⟩]) (.cut (.seq (.reg [oJ 20 (.ld (some 1) (.t 2)),oF 21 0 8,oL 22 21,oJ 23 (.call eM [(.t 20),(.t 22)]),oM 24 1,oJ 25 (.bin .neq (.t 23) (.t 24))]) (.cond (.t 25) (.reg [oM 26 7,oJ 27 (.call aG [(.t 26),(.c (.p (.int .i64 2)))])]) (.skip))) (.seq (.reg [oJ 28 (.bsl 1 [(.p (.str []))] 0 []),oM 9 28]) (.seq (.seq (.reg [oK 10 0]) (.blk 0 (.loop (.seq (.seq (.reg [oM 29 10,oF 30 1 8,oL 31 30,oJ 32 (.len false (.t 31)),oJ 33 (.bin .lss (.t 29) (.t 32))]) (.cond (.t 33) (.skip) (.exit 0))) (.seq (.blk 1 (.reg [oM 36 9,oM 37 7,oF 38 1 8,oL 39 38,oM 40 10,oJ 41 (.idxS 1 (.t 39) (.t 40)),oL 42 41,oJ 43 (.call bK [(.t 37),(.t 42),(.c (.p (.int .i64 0)))]),oJ 44 (.bsl 1 [(.p (.str []))] 1 [(0,1,(.t 43))]),oJ 45 (.app 1 16 (.t 36) (.t 44)),oM 9 45])) (.reg [oM 34 10,oJ 35 (.bin .add (.t 34) (.c (.p (.int .i64 1)))),oM 10 35])))))) (.seq (.reg [oM 46 9,oF 47 1 8,oS 47 46]) (.seq (.reg [oM 48 7,oF 49 2 8,oL 50 49,oJ 51 (.call aS [(.t 48),(.t 50),(.c (.p (.int .i64 0)))]),oF 52 2 8,oS 52 51]) (.seq (.reg [oM 54 7,oN 55 54,oF 56 4 55,oM 58 7,oN 59 58,oF 60 3 59,oJ 53 (.ld (some 3) (.t 8)),oL 57 56,oL 61 60,⟨none,none,.st 3 (.t 4) (.t 53)⟩,⟨none,none,.chk none 56 57⟩,⟨none,none,.chk none 60 61⟩,oM 5 57,oM 6 61]) (.ret)))))))))
theorem vu:K_spec_l4Fn.whole=F_spec_l4Fn.ak:=rfl
theorem vA:∀(ps:List (List UInt8)) (w:WS),w.vs.length≤w.count→(bS ps w).vs.length≤(bS ps w).count
 |[],w,h=>h
 |s::r,w,h=>vA r (iD w s 0) (by simp[iD];omega)
theorem yQ(a b:List (List UInt8))(w:WS):bS (a++b) w=bS b (bS a w):=by simp[bS]
theorem wI{l:List (List UInt8)}{w:WS}{i:Nat}(h:i<l.length):bS (l.take (i+1)) w=iD (bS (l.take i) w) l[i] 0:=by
 rw[ah h,yQ];rfl
theorem wt:∀(a b:List (List UInt8)) (w:WS),jT (a++b) w=jT a w++jT b (bS a w)
 |[],b,w=>rfl
 |s::r,b,w=>by rw[List.cons_append,jT,jT,wt r];rfl
theorem zq{l:List (List UInt8)}{w:WS}{i:Nat}(h:i<l.length):jT (l.take (i+1)) w=jT (l.take i) w++[vnm (bS (l.take i) w).count]:=by
 rw[ah h,wt];rfl
theorem sv:∀(l:List (List UInt8)) (w:WS),(jT l w).length=l.length
 |[],w=>rfl
 |s::r,w=>by rw[jT,List.length_cons,sv r,List.length_cons]
def w0(fns:List Fd)(k:Nat)(f:Fd):WS:=⟨[],0,if dp fns f.name=some k then 0 else 2⟩
theorem EX(fns:List Fd)(k:Nat)(f:Fd):fnW fns k f=br fns k 0 f.body (bS f.params (w0 fns k f)):=rfl
theorem xw(fns:List Fd)(k:Nat)(f:Fd):(rnF fns k f).cs=[.str f.name,ay (jT f.params (w0 fns k f)),smL (eA fns k 0 f.body (bS f.params (w0 fns k f)))]:=rfl
variable (G:aF)
theorem Al{fns:List Fd}{k:Nat}{f:Fd}(hk:fns[k]?=some f)(hz:bc fns≤1073741824):VF Tryz.prog G gh [.agg [.p (fdL fns)],.p (.int .i64 k)] (.tup [.agg ((rnF fns k f).cs.map .p),.p (.int .i64 (fnW fns k f).code),.p (.int .i64 (fnW fns k f).count)]):=by
 have hfl:=bT fns
 have hfm:=ce (List.mem_of_getElem? hk)
 have hfz:f.sz=1+f.name.length+(f.params.length+(f.params.map List.length).sum)+az f.body:=rfl
 have hkl:=(List.getElem?_eq_some_iff.1 hk).1
 have key:AC Tryz.prog G gh [.agg [.p (fdL fns)],.p (.int .i64 k)] [] fun x h=>x= .ret (.tup [.agg [.p (.str f.name),.sl 5 1 0 f.params.length,.p (smL (eA fns k 0 f.body (bS f.params (w0 fns k f))))],.p (.int .i64 (fnW fns k f).code),.p (.int .i64 (fnW fns k f).count)])∧h[5]?=some (vW (jT f.params (w0 fns k f))):=by
  refine AC.goK vF vu ?_
  have hfd:∀l,fdL l= .lst 3 (l.map Fd.cs):=fun _=>rfl
  have hcs:f.cs=[.str f.name,ay f.params,smL f.body]:=rfl
  have hst:ay f.params= .lst 1 (f.params.map fun w=>[.str w]):=rfl
  simp-implicitDefEqProofs[K_spec_l4Fn,F_spec_l4Fn]
  refine jQ (aj 62 [(1,.p (.int .i64 k)),(2,.ptr 0 1 0 0),(4,.ptr 1 3 0 0),(7,.ptr 2 5 0 0),(8,.ptr 3 3 0 0)])
   [.row 1 [[.p (fdL fns)]],.row 3 [[.p (.str []),.nils,.nils]],wO 4 true fns k ⟨[],0,0⟩,.row 3 [[.p (.str f.name),.p (ay f.params),.p (smL f.body)]],.dead] ?_ ?_
  ·simp-implicitDefEqProofs[hfd,hk,hcs]
   refine iq (h:=[.row 1 [[.p (fdL fns)]],.row 3 [[.p (.str []),.nils,.nils]],wO 4 true fns k ⟨[],0,0⟩,.row 3 [[.p (.str f.name),.p (ay f.params),.p (smL f.body)]]]) (by simp) (by simp) ?_ (by simp[below])
   refine ae (by simp[okO,below]) (ae (by simp[okO,below]) (ae ?_ (ae (by simp[okO,below]) dr)))
   intro x hx
   rw[List.mem_singleton.1 hx];simp[wC,vaC,below]
  refine jQ (aj 62 [(1,.p (.int .i64 k)),(2,.ptr 0 1 0 0),(4,.ptr 1 3 0 0),(7,.ptr 2 5 0 0),(8,.ptr 3 3 0 0)])
   [.row 1 [[.p (fdL fns)]],.row 3 [[.p (.str []),.nils,.nils]],wO 4 true fns k (w0 fns k f),.row 3 [[.p (.str f.name),.p (ay f.params),.p (smL f.body)]],.dead] ?_ ?_
  ·simp-implicitDefEqProofs[]
   refine(Bb G fns f.name (by omega)).use ?_
   have hok:∀w:WS,∀o∈[AO.row 1 [[.p (fdL fns)]],.row 3 [[.p (.str []),.nils,.nils]],wO 4 true fns k w,.row 3 [[.p (.str f.name),.p (ay f.params),.p (smL f.body)]],.dead],okO 5 o:=fun w=>
    ae (by simp[okO,below]) (ae (by simp[okO,below]) (ae (pZ (by simp)) (ae (by simp[okO,below]) (ae trivial dr))))
   by_cases he:dp fns f.name=some k
   ·have hw:w0 fns k f=⟨[],0,0⟩:=by rw[w0,if_pos he]
    rw[hw,he]
    simp-implicitDefEqProofs[ixI]
    exact ab (by simp) (hok _) (by simp[below])
   ·have hw:w0 fns k f=⟨[],0,2⟩:=by rw[w0,if_neg he]
    have hne:¬ixI (dp fns f.name)=(k:Int):=by
     intro h
     apply he
     cases e:dp fns f.name with
     |none=>rw[e] at h;simp only[ixI] at h;omega
     |some j=>rw[e] at h;simp only[ixI] at h;have:j=k:=by omega
              rw[this]
    rw[hw]
    simp-implicitDefEqProofs[hne]
    refine(EH G (wid:=2) (id:=4) (lV G true fns k ⟨[],0,0⟩ 2) (by simp) (by simp[below]) (by decide) rfl rfl).mono ?_
    rintro r h' ⟨rfl,rfl⟩
    simp-implicitDefEqProofs[aa]
    exact ab (h:=[AO.row 1 [[.p (fdL fns)]],.row 3 [[.p (.str []),.nils,.nils]],wO 4 true fns k ⟨[],0,2⟩,.row 3 [[.p (.str f.name),.p (ay f.params),.p (smL f.body)]],.dead]) (by simp) (hok _) (by simp[below])
  rw[EX]
  have hw0v:(w0 fns k f).vs=[]:=rfl
  have hw0c:(w0 fns k f).count=0:=rfl
  generalize w0 fns k f=w0 at hw0v hw0c⊢
  simp-implicitDefEqProofs[]
  have hcnt:∀j,j≤f.params.length→(bS (f.params.take j) w0).count=j:=fun j hj=>by rw[lm,hw0c];simp;omega
  have hvl:∀j,(bS (f.params.take j) w0).vs.length≤(bS (f.params.take j) w0).count:=fun j=>vA _ _ (by rw[hw0v];simp)
  refine aH (fun j:Nat=>aj 62 [(1,.p (.int .i64 k)),(2,.ptr 0 1 0 0),(4,.ptr 1 3 0 0),(7,.ptr 2 5 0 0),(8,.ptr 3 3 0 0),(9,.sl 5 1 0 j),(10,.p (.int .i64 j))])
   (fun j=>[.row 1 [[.p (fdL fns)]],.row 3 [[.p (.str []),.nils,.nils]],wO 6 (decide (j=0)) fns k (bS (f.params.take j) w0),.row 3 [[.p (.str f.name),.p (ay f.params),.p (smL f.body)]],.dead,vW (jT (f.params.take j) w0),roC (decide (j=0)) (bS (f.params.take j) w0).vs])
   (fun j=>j≤f.params.length) (fun j=>f.params.length-j) 0 (by simp) ?_ ?_
  ·refine iq (h:=[.row 1 [[.p (fdL fns)]],.row 3 [[.p (.str []),.nils,.nils]],wO 6 true fns k w0,.row 3 [[.p (.str f.name),.p (ay f.params),.p (smL f.body)]],.dead,.row 1 []]) (by simp) (by simp) ?_ (by simp[below])
   refine ae (by simp[okO,below]) (ae (by simp[okO,below]) (ae ?_ (ae (by simp[okO,below]) (ae trivial (ae (by simp[okO]) dr)))))
   intro x hx
   rw[List.mem_singleton.1 hx];simp[wC,vaC,below]
  intro j hj
  have hjc:=hcnt j hj
  have hjv:=hvl j
  have hol:=sv (f.params.take j) w0
  rw[List.length_take,Nat.min_eq_left hj] at hol
  have hnf:decide (j=0)=true→(bS (f.params.take j) w0).vs=[]:=by
   intro h
   have h0:j=0:=by simpa using h
   rw[h0,List.take_zero]
   exact hw0v
  simp-implicitDefEqProofs[hst]
  refine bg (fun h=>?_) (fun h=>?_)
  ·simp at h
   have hg:=List.getElem?_eq_getElem h
   have eP:=wI (w:=w0) h
   have eR:=zq (w:=w0) h
   simp-implicitDefEqProofs[hg]
   refine(AQ G (wid:=2) (id:=6) (Q:=fun nf' w'=>nf'=false∧w'=iD (bS (f.params.take j) w0) f.params[j] 0) ((BE G (decide (j=0)) fns k _ hnf (by omega) (by omega) f.params[j] 0).mono (by rintro x h ⟨rfl,rfl⟩;exact⟨false,_,rfl,rfl,rfl,rfl⟩)) (by simp) (by simp[below]) (by decide) rfl rfl).mono ?_
   rintro r h' ⟨nf',w',rfl,rfl,rfl,rfl⟩
   have hso:∀l,vW l= .row 1 (l.map fun n=>[.p (.str n)]):=fun _=>rfl
   simp-implicitDefEqProofs[aa,hso,hol]
   refine⟨by omega,j+1,by omega,by omega,?_⟩
   have htk:List.take j ((jT (f.params.take j) w0).map fun n=>[AV.p (.str n)])=(jT (f.params.take j) w0).map fun n=>[AV.p (.str n)]:=List.take_of_length_le (by rw[List.length_map];omega)
   have hd:decide (j+1=0)=false:=by simp
   rw[eP,eR,hd,List.map_append,←List.map_take,List.map_take,htk]
   refine eb [0,1,2,3,4,9,7] rfl (by decide) (bq rfl (by simp) (bq rfl (by simp[below]) (rd (by simp) rfl (bq rfl (by simp) (fW (by simp) (bq rfl (fun x hx=>?_) (mO rfl (eD _ _ _) cP))))))) (by simp[below,ren,w1 (i:=j) (by omega)])
   rcases List.mem_append.1 hx with h|h
   ·exact pD _ x h
   ·exact pD _ x h
  ·simp at h
   have hje:j=f.params.length:=by omega
   subst hje
   rw[List.take_length] at hol hjc hjv hnf⊢
   generalize decide (f.params.length=0)=nf at hnf⊢
   simp-implicitDefEqProofs[]
   refine(AQ G (wid:=2) (id:=6) (Am G (fns:=fns) (by omega) (az f.body+1) f.body (by omega) 0 _ (bS f.params w0) hnf hjv (by omega) (by omega)) (by simp) (by simp[below]) (by decide) rfl rfl).mono ?_
   rintro r h' ⟨nf',w',rfl,rfl,hn',hw'⟩
   have hb:nw fns k 0 f.body (bS f.params w0)=br fns k 0 f.body (bS f.params w0):=rfl
   rw[hb] at hw'
   rw[←hw']
   simp-implicitDefEqProofs[aa,wO,wC]
 refine key.freezeR (fun t v h ⟨e,_⟩=>by cases e) fun v h ⟨e1,e2⟩=>?_
 cases e1
 rw[xw]
 have hol:=sv f.params (w0 fns k f)
 have hv:=tn e2
 rw[hol] at hv
 exact .tup (.agg (.keep (by simp) (.one hv (.keep (by simp) .nil))) (.keep (by simp) (.keep (by simp) .nil))) .nil
theorem vv{fns:List Fd}{i:Nat}(h:i<fns.length):fE fns i (fns.drop i)=if(fnW fns i fns[i]).code=0 then fE fns (i+1) (fns.drop (i+1)) else(fnW fns i fns[i]).code:=by
 rw[List.drop_eq_getElem_cons h,fE]
theorem rC(l:List Fd)(hz:bc l≤1073741824):VF Tryz.prog G dQ [.agg [.p (fdL l)]] (.p (.int .i64 (cY l))):=by
 refine AC.go mg ?_
 have hll:=bT l
 have hfd:∀l,fdL l= .lst 3 (l.map Fd.cs):=fun _=>rfl
 simp-implicitDefEqProofs[gE]
 refine(rD G l (by omega)).use ?_
 by_cases hv:bX l=true
 case neg=>
  have:cY l=1:=if_neg hv
  have hv':bX l=false:=by simpa using hv
  simp-implicitDefEqProofs[hv',this]
 have hc:cY l=fE l 0 (l.drop 0):=if_pos hv
 rw[hc]
 simp-implicitDefEqProofs[hv]
 refine aH (fun i:Nat=>aj 27 [(1,.ptr 0 1 0 0),(3,.p (.int .i64 i))]) (fun _=>[.row 1 [[.p (fdL l)]]]) (fun i=>i≤l.length∧fE l 0 l=fE l i (l.drop i)) (fun i=>l.length-i) 0 (by simp) (ab (by simp) (by simp[okO]) (by simp[below])) ?_
 rintro i ⟨hi,he⟩
 simp-implicitDefEqProofs[hfd]
 refine bg (fun h=>?_) (fun h=>?_)
 ·simp at h
  have hg:=List.getElem?_eq_getElem h
  have hd:=vv h
  simp-implicitDefEqProofs[]
  refine(Al G hg hz).use ?_
  have hrc:=xw l i l[i]
  by_cases h0:(fnW l i l[i]).code=0
  ·rw[if_pos h0] at hd
   simp-implicitDefEqProofs[h0,hrc]
   refine⟨i+1,⟨by omega,by rw[he,hd]⟩,by omega,?_⟩
   refine iQ (m:=1) (by omega) (eq rfl rfl (by simp[okO,below])) (by simp[below,hfd,w1 (i:=i) (by omega)])
  ·rw[if_neg h0] at hd
   simp-implicitDefEqProofs[h0,hrc]
   rw[he,hd]
 ·simp at h
  have hie:i=l.length:=by omega
  subst hie
  rw[List.drop_length] at he
  simp-implicitDefEqProofs[]
  rw[he];rfl
end Go.Proofs.YtiojgfhdcpppcaaGreatDoor
namespace Go.Proofs.YtiojgfhdcpppcaaGreatDoor
open Go Go.Aw
set_option maxRecDepth 100000
set_option maxHeartbeats 4000000
def lL(f:Fd):Nat:=f.params.length+cz f.body
def qg(st:Int)(x:Sm × Nat):Int:=if x.1.op=1 then IntKind.i64.wrap (st+1) else st
mutual
theorem CT:∀(s:Sm) (d:Nat) (st:Int),0≤st→st+jq s≤1099511627776→(s.pre d).foldl qg st=st+jq s
 | .mk o n a bd el,d,st,h0,h=>by
   rw[jq] at h
   have h1:=qJ bd (d+1)
   have h2:=qJ el (d+1)
   rw[Sm.pre,List.foldl_cons,List.foldl_append,jq]
   by_cases ho:o=1
   ·have e:qg st (⟨o,n,a,bd,el⟩,d)=st+1:=by show(if o=1 then _ else _)=_;rw[if_pos ho,aq (by omega) (by rw[if_pos ho] at h;omega)]
    rw[if_pos ho] at h⊢
    rw[e,h1 _ (by omega) (by omega),h2 _ (by omega) (by omega)]
    omega
   ·have e:qg st (⟨o,n,a,bd,el⟩,d)=st:=by show(if o=1 then _ else _)=_;rw[if_neg ho]
    rw[if_neg ho] at h⊢
    rw[e,h1 _ (by omega) (by omega),h2 _ (by omega) (by omega)]
    omega
theorem qJ:∀(l:List Sm) (d:Nat) (st:Int),0≤st→st+cz l≤1099511627776→(bj d l).foldl qg st=st+cz l
 |[],d,st,_,_=>by simp[bj,cz]
 |s::r,d,st,h0,h=>by
  rw[cz] at h
  rw[bj,List.foldl_append,CT s d st h0 (by omega),qJ r d _ (by omega) (by omega),cz]
  omega
end
def xa(f:Fd):Vis Int where
 I:=fun st=>[.row 3 [[.p (.str f.name),.p (ay f.params),.p (smL f.body)]],.row 1 [[.p (.int .i64 st)]]]
 n:=2
 F:=dt
 caps:=[.ptr 1 1 0 0]
 len:=fun _=>rfl
 ok:=fun st=>by simp[okO,below]
 capsOk:=by simp[below]
variable (G:aF)
theorem tT(f:Fd)(st:Int)(s:Sm)(d:Nat):AC Tryz.prog G dt [.agg (s.cs.map .p),.p (.int .i64 d),.ptr 1 1 0 0] ((xa f).I st) fun x h=>x= .ret (.tup [])∧h=(xa f).I (qg st (s,d)):=by
 refine(xa f).trim G (AC.go nS ?_) (by simp[below])
 have hse:=s.cs_eq
 by_cases ho:s.op=1
 ·simp-implicitDefEqProofs[eX,hse,xa,qg,ho]
 ·simp-implicitDefEqProofs[eX,hse,xa,qg,ho]
theorem xg(f:Fd)(hb:f.sz≤1073741824):VF Tryz.prog G gv [.agg (f.cs.map .p)] (.p (.int .i64 (lL f))):=by
 have hcs:=f.cs_eq'
 have hfz:f.sz=1+f.name.length+(f.params.length+(f.params.map List.length).sum)+az f.body:=rfl
 have hl:=kN f.body
 have hl2:=ki f.body
 have hst:ay f.params= .lst 1 (f.params.map fun w=>[.str w]):=rfl
 have hI:=(yk G (xa f) qg (fun _=>True) 1073741824 (by omega) (fun st s d _ _=>⟨trivial,tT G f st s d⟩) (az f.body+1) f.body (by omega) (by omega) 1 (by omega) (f.params.length:Int) trivial).2
 rw[qJ f.body 1 f.params.length (by omega) (by omega)] at hI
 refine AC.go qo ?_
 simp-implicitDefEqProofs[kr,hcs,hst]
 refine hI.mono ?_
 rintro r h ⟨rfl,rfl⟩
 simp-implicitDefEqProofs[aa,xa,lL]
theorem AD(l:List Fd)(hz:bc l≤1073741824):VF Tryz.prog G jh [.agg [.p (fdL l)]] (.p (.bool (decide (cY l=0)))):=by
 refine AC.go sN ?_
 simp-implicitDefEqProofs[mL]
 refine(rC G l hz).use ?_
 simp-implicitDefEqProofs[]
variable (hK:G gZ=some gx) (hS:G ec=some [.tbl opK opV])
include hK hS
theorem ES(l:List Fd)(hz:bc l≤1073741824):VF Tryz.prog G kS [.agg [.p (fdL l)]] (.p (.bool (decide (cY l=0)))):=by
 refine AC.go vZ ?_
 simp-implicitDefEqProofs[pT]
 refine(rt G hK hS l hz).use ?_
 simp-implicitDefEqProofs[]
end Go.Proofs.YtiojgfhdcpppcaaGreatDoor
namespace Go.Proofs.YtiojgfhdcpppcaaGreatDoor
open Go Go.Aw
set_option maxRecDepth 100000
set_option maxHeartbeats 4000000
def aI{σ α β:Type}(g:σ→α→β × σ):σ→List α→List β × σ
 |st,[]=>([],st)
 |st,x::r=>((g st x).1::(aI g (g st x).2 r).1,(aI g (g st x).2 r).2)
theorem uG{σ α β:Type}(g:σ→α→β × σ):∀(a b:List α) (st:σ),aI g st (a++b)=((aI g st a).1++(aI g (aI g st a).2 b).1,(aI g (aI g st a).2 b).2)
 |[],b,st=>rfl
 |x::r,b,st=>by rw[List.cons_append,aI,uG g r];rfl
theorem lR{σ α β:Type}{g:σ→α→β × σ}{l:List α}{st:σ}{i:Nat}(h:i<l.length):aI g st (l.take (i+1))=((aI g st (l.take i)).1++[(g (aI g st (l.take i)).2 l[i]).1],(g (aI g st (l.take i)).2 l[i]).2):=by
 rw[ah h,uG];rfl
theorem kH{σ α β:Type}(g:σ→α→β × σ):∀(l:List α) (st:σ),(aI g st l).1.length=l.length
 |[],st=>rfl
 |x::r,st=>by rw[aI,List.length_cons,List.length_cons,kH g r]
theorem kX{σ α β:Type}{g:σ→α→β × σ}{inv:Nat→σ→Prop}:∀{l:List α} {st:σ} {k:Nat},inv k st→(∀(i:Nat) st (h:i<l.length),inv (k+i) st→inv (k+i+1) (g st l[i]).2)→∀i,i≤l.length→inv (k+i) (aI g st (l.take i)).2
 |[],st,k,h0,_,i,hi=>by
  have:i=0:=by simpa using hi
  subst this;exact h0
 |x::r,st,k,h0,hs,0,_=>h0
 |x::r,st,k,h0,hs,i+1,hi=>by
  have h1:=hs 0 st (by simp) h0
  have:=kX (g:=g) (l:=r) (st:=(g st x).2) (k:=k+1) h1 (fun j st hj hv=>by
   have:=hs (j+1) st (by simp;omega) (by rw[show k+(j+1)=k+1+j by omega];exact hv)
   rw[show k+(j+1)+1=k+1+j+1 by omega] at this
   exact this) i (by simpa using hi)
  rw[List.take_succ_cons,aI,show k+(i+1)=k+1+i by omega]
  exact this
theorem Fw{n k:Nat}{A:List AO}{π:List Nat}{h r1:List AO}(hl:A.length=n)(ha:∀o∈A,okO n o)(hh:∀i,i<n→h[i]?=A[i]?)(ρ:List Nat)(hρ:∀i,i<n→ρ.getD i 0=i)(hρn:n≤ρ.length)(hk:k=n)(hr:HW ρ h π r1):HW ρ h (List.range' 0 k++π) (A++r1):=by
 subst hk
 have key:∀(B:List AO) (s:Nat),(∀i:Nat,B[i]?=h[s+i]?∨B.length≤i)→s+B.length=k→(∀o∈B,okO k o)→HW ρ h (List.range' s B.length++π) (B++r1):=by
  intro B
  induction B with
  |nil=>intro s _ _ _;exact hr
  |cons o r ih=>
   intro s hb hs ho
   rw[List.length_cons,List.range'_succ]
   have h0:h[s]?=some o:=by
    rcases hb 0 with h0|h0
    ·simpa using h0.symm
    ·simp at h0
   have hok:=ho o (by simp)
   have ih:=ih (s+1) (fun i=>by
    rcases hb (i+1) with h1|h1
    ·rw[List.getElem?_cons_succ] at h1;left;rw[h1];congr 1;omega
    ·right;simpa using h1) (by simp at hs;omega) (fun o ho'=>ho o (by simp[ho']))
   have hsl:=(List.getElem?_eq_some_iff.1 h0).1
   cases o with
   |dead=>exact fW hsl ih
   |row sz es=>
    refine mb (fun x hx=>aD hρn _ (hok x hx)) ?_ ih
    rw[h0,List.map_congr_left (g:=id) fun x hx=>kQ hρ x (hok x hx)];simp
   |mp es=>exact⟨hsl,⟨fun x hx=>by exact(aD hρn [x.2] ⟨hok x hx,trivial⟩).1,by rw[h0,List.map_congr_left (g:=id) fun x hx=>by rw[gS hρ x.2 (hok x hx)];rfl];simp⟩,ih⟩
   |sit s p=>exact⟨hsl,h0,ih⟩
 have:=key A 0 (fun i=>by
  rcases Nat.lt_or_ge i A.length with hi|hi
  ·left;rw[Nat.zero_add];exact(hh i (by omega)).symm
  ·right;exact hi) (by omega) ha
 rwa[hl] at this
theorem tI{kk q n m d sz c:Nat}{A mid s:List AO}{es:List (List AV)}{l l1:List (Nat × AV)}(hl:A.length=n)(hm:mid.length=m)(hk:kk≤n)(ha:∀o∈A,okO n o)(he:∀x∈es,ag 0 x)(H:FgA n l l1)(hd:Aw.look l d= .sl (n+m) sz 0 c):
 Wk kk (aj q l) (A++(mid++ .row sz es::s)) (aj q ((d,.sl n sz 0 c)::l1)) (A++[.row sz es]):=by
 have hρ:∀i,i<n→(List.range' 0 n++[n+m]).getD i 0=i:=fun i hi=>by
  rw[List.getD_eq_getElem?_getD,List.getElem?_append_left (by simp;exact hi)];simp[hi]
 have hρn:(List.range' 0 n++[n+m]).getD n 0=n+m:=by
  rw[List.getD_eq_getElem?_getD,List.getElem?_append_right (by simp)];simp
 refine lS (List.range' 0 n++[n+m]) (by simp;omega) (fun i hi=>hρ i (by omega)) ?_ ?_ ?_
 ·refine List.nodup_append.2 ⟨List.nodup_range',by simp,fun a ha b hb e=>?_⟩
  rw[List.mem_singleton] at hb
  have:=(List.mem_range'_1.1 ha).2
  omega
 ·refine Fw hl ha (fun i hi=>by rw[List.getElem?_append_left (by omega)]) _ hρ (by simp) rfl ?_
  refine bq ?_ he cP
  rw[List.getElem?_append_right (by omega),hl,Nat.add_sub_cancel_left,List.getElem?_append_right (by omega),hm,Nat.sub_self];rfl
 ·refine⟨⟨by simp only[below];simp,by simp only[ren,hρn];exact hd.symm⟩,?_⟩
  clear hd
  induction l1 with
  |nil=>trivial
  |cons x r ih=>
   obtain⟨⟨a,c⟩,e⟩:=H
   exact⟨⟨(aD (by simp) [x.2] ⟨a,trivial⟩).1,by rw[gS hρ _ a,c]⟩,ih e⟩
theorem nZ{hF:List AO}{n:Nat}:∀{A r:List AO},(∀o∈A,okO n o)→FzO hF n (A++r) A
 |[],r,_=> .nil r
 |o::a,r,h=> .same (h o (by simp)) (nZ fun o ho=>h o (by simp[ho]))
theorem qF{n:Nat}{A r:List AO}{o:AO}(hl:A.length=n):(nD n (A++o::r))[n]?=some o:=by
 unfold nD
 rw[List.getElem?_append_right (by simp),List.length_replicate,Nat.sub_self,←hl,List.drop_left']
 ·rfl
 ·rfl
variable (G:aF)
theorem ti{σ:Type}(V:Vis σ)(g:σ→Ex→Ex × σ)(inv:Nat→σ→Prop)(l:List Ex)(hb:l.length≤1073741824)(hn:0<V.n)
 (hv:∀(i:Nat) st (h:i<l.length),inv i st→inv (i+1) (g st l[i]).2∧AC Tryz.prog G V.F (.agg (l[i].cs.map .p)::V.caps) (V.I st) fun x h'=>x= .ret (.agg ((g st l[i]).1.cs.map .p))∧h'=V.I (g st l[i]).2)(st:σ)(h0:inv 0 st):
 AC Tryz.prog G aA [.p (exL l),.fn (.func V.F) V.caps] (V.I st) fun x h=>x= .ret (.p (exL (aI g st l).1))∧h=V.I (aI g st l).2:=by
 have hxl:∀l,exL l= .lst 4 (l.map Ex.cs):=fun _=>rfl
 have hlen:=V.len
 have hcb:=V.capsOk
 have hinv:∀i,i≤l.length→inv i (aI g st (l.take i)).2:=fun i hi=>by
  have:=kX (g:=g) (inv:=inv) (l:=l) (st:=st) (k:=0) h0 (fun i st h hi=>by
   rw[Nat.zero_add] at hi⊢;exact(hv i st h hi).1) i hi
  rwa[Nat.zero_add] at this
 have hRp:∀l:List Ex,∀x∈exR l,ag 0 x:=lh
 have hRl:∀l:List Ex,(exR l).length=l.length:=fun l=>by simp[exR]
 have hRa:∀(l:List Ex) (y:Ex),exR (l++[y])=exR l++[y.cs.map .p]:=fun l y=>by simp[exR]
 have key:AC Tryz.prog G aA [.p (exL l),.fn (.func V.F) V.caps] (V.I st) fun x h=>x= .ret (slE V.n 4 (exR (aI g st l).1))∧h=V.I (aI g st l).2++[eQ 4 (exR (aI g st l).1)]:=by
  refine AC.go jJ ?_
  simp-implicitDefEqProofs[eL,hxl]
  refine aH (fun i:Nat=>aj 22 [(5,slE V.n 4 (exR (aI g st (l.take i)).1)),(0,.p (exL l)),(1,.fn (.func V.F) V.caps),(8,.p (exL l)),(9,.p (.int .i64 l.length)),(10,.p (.int .i64 i))])
   (fun i=>V.I (aI g st (l.take i)).2++[eQ 4 (exR (aI g st (l.take i)).1)]) (fun i=>i≤l.length) (fun i=>l.length-i) 0 (by simp) ?_ ?_
  ·have e:eQ 4 (exR (aI g st (l.take 0)).1)= .dead:=rfl
   rw[e]
   exact iq (by rw[hlen];exact Nat.le_refl _) (by rw[hlen];exact hn) (by rw[hlen];exact V.ok st) (by simp[below,hxl,hcb,hlen,aI,exR,oP])
  intro i hi
  have hT:=fun h=>lR (g:=g) (l:=l) (st:=st) (i:=i) h
  have hi2:=hinv i hi
  have hml:=kH g (l.take i) st
  rw[List.length_take,Nat.min_eq_left hi] at hml
  generalize hcur:aI g st (l.take i)=cur at hT hi2 hml⊢
  obtain⟨out,s⟩:=cur
  simp only at hT hi2 hml⊢
  simp-implicitDefEqProofs[hxl]
  refine bg (fun hc=>?_) (fun hc=>?_)
  ·simp at hc
   have hg:=List.getElem?_eq_getElem hc
   have hT:=hT hc
   obtain⟨_,hA⟩:=hv i s hc hi2
   generalize l[i]=x at hg hT hA
   have hkc:=x.cs_eq
   have hyc:=(g s x).1.cs_eq
   rw[hkc] at hA
   simp-implicitDefEqProofs[hg,hkc,hlen]
   refine(V.pre G hA _ ⟨by simp[below],hcb⟩).mono ?_
   rintro r h ⟨rfl,rfl⟩
   rw[hyc]
   simp-implicitDefEqProofs[aa,hlen]
   have hol:=hRl out
   refine⟨⟨by omega,by omega⟩,i+1,hc,by omega,?_⟩
   rw[hT]
   simp only[hRa]
   rw[oq _ (by simp),lu _ (by simp),hyc]
   refine tI (mid:=[_,_,_]) (s:=[]) (hlen _) rfl (Nat.le_refl _) (V.ok _) ?_ ?_ ?_
   ·intro x hx
    rcases List.mem_append.1 hx with h|h
    ·exact hRp _ x h
    ·rw[List.mem_singleton.1 h];simp
   ·simp[below,hxl,hcb,w1 (i:=i) (by omega)]
   ·simp
  ·simp at hc
   have hie:i=l.length:=by omega
   subst hie
   rw[List.take_length] at hcur
   rw[hcur]
   simp-implicitDefEqProofs[]
 refine key.frz V.n (by rw[hlen];exact Nat.le_refl _) (fun t v h ⟨e,_⟩=>by cases e) ?_
 rintro v h ⟨e,rfl⟩
 cases e
 refine⟨_,V.I (aI g st l).2,by rw[List.length_append,hlen];omega,hlen _,.one ?_ .nil,nZ (V.ok _),rfl,rfl⟩
 have ht:=qF (r:=[]) (o:=eQ 4 (exR (aI g st l).1)) (hlen (aI g st l).2)
 have hh:exR (aI g st l).1=((aI g st l).1.map Ex.cs).map (·.map .p):=by simp[exR]
 rw[hh] at ht⊢
 exact rm ht (fun x hx=>by obtain⟨b,_,rfl⟩:=List.mem_map.1 hx;simp)
theorem ze{σ:Type}(V:Vis σ)(g:σ→Sm→Sm × σ)(inv:Nat→σ→Prop)(l:List Sm)(hb:l.length≤1073741824)(hn:0<V.n)
 (hv:∀(i:Nat) st (h:i<l.length),inv i st→inv (i+1) (g st l[i]).2∧AC Tryz.prog G V.F (.agg (l[i].cs.map .p)::V.caps) (V.I st) fun x h'=>x= .ret (.agg ((g st l[i]).1.cs.map .p))∧h'=V.I (g st l[i]).2)(st:σ)(h0:inv 0 st):
 AC Tryz.prog G bJ [.p (smL l),.fn (.func V.F) V.caps] (V.I st) fun x h=>x= .ret (.p (smL (aI g st l).1))∧h=V.I (aI g st l).2:=by
 have hxl:∀l,smL l= .lst 5 (l.map Sm.cs):=fun _=>rfl
 have hlen:=V.len
 have hcb:=V.capsOk
 have hinv:∀i,i≤l.length→inv i (aI g st (l.take i)).2:=fun i hi=>by
  have:=kX (g:=g) (inv:=inv) (l:=l) (st:=st) (k:=0) h0 (fun i st h hi=>by
   rw[Nat.zero_add] at hi⊢;exact(hv i st h hi).1) i hi
  rwa[Nat.zero_add] at this
 have hRp:∀l:List Sm,∀x∈smR l,ag 0 x:=gb
 have hRl:∀l:List Sm,(smR l).length=l.length:=fun l=>by simp[smR]
 have hRa:∀(l:List Sm) (y:Sm),smR (l++[y])=smR l++[y.cs.map .p]:=fun l y=>by simp[smR]
 have key:AC Tryz.prog G bJ [.p (smL l),.fn (.func V.F) V.caps] (V.I st) fun x h=>x= .ret (slE V.n 5 (smR (aI g st l).1))∧h=V.I (aI g st l).2++[eQ 5 (smR (aI g st l).1)]:=by
  refine AC.go jv ?_
  simp-implicitDefEqProofs[eK,hxl]
  refine aH (fun i:Nat=>aj 22 [(5,slE V.n 5 (smR (aI g st (l.take i)).1)),(0,.p (smL l)),(1,.fn (.func V.F) V.caps),(8,.p (smL l)),(9,.p (.int .i64 l.length)),(10,.p (.int .i64 i))])
   (fun i=>V.I (aI g st (l.take i)).2++[eQ 5 (smR (aI g st (l.take i)).1)]) (fun i=>i≤l.length) (fun i=>l.length-i) 0 (by simp) ?_ ?_
  ·have e:eQ 5 (smR (aI g st (l.take 0)).1)= .dead:=rfl
   rw[e]
   exact iq (by rw[hlen];exact Nat.le_refl _) (by rw[hlen];exact hn) (by rw[hlen];exact V.ok st) (by simp[below,hxl,hcb,hlen,aI,smR,oP])
  intro i hi
  have hT:=fun h=>lR (g:=g) (l:=l) (st:=st) (i:=i) h
  have hi2:=hinv i hi
  have hml:=kH g (l.take i) st
  rw[List.length_take,Nat.min_eq_left hi] at hml
  generalize hcur:aI g st (l.take i)=cur at hT hi2 hml⊢
  obtain⟨out,s⟩:=cur
  simp only at hT hi2 hml⊢
  simp-implicitDefEqProofs[hxl]
  refine bg (fun hc=>?_) (fun hc=>?_)
  ·simp at hc
   have hg:=List.getElem?_eq_getElem hc
   have hT:=hT hc
   obtain⟨_,hA⟩:=hv i s hc hi2
   generalize l[i]=x at hg hT hA
   have hkc:=x.cs_eq
   have hyc:=(g s x).1.cs_eq
   rw[hkc] at hA
   simp-implicitDefEqProofs[hg,hkc,hlen]
   refine(V.pre G hA _ ⟨by simp[below],hcb⟩).mono ?_
   rintro r h ⟨rfl,rfl⟩
   rw[hyc]
   simp-implicitDefEqProofs[aa,hlen]
   have hol:=hRl out
   refine⟨⟨by omega,by omega⟩,i+1,hc,by omega,?_⟩
   rw[hT]
   simp only[hRa]
   rw[oq _ (by simp),lu _ (by simp),hyc]
   refine tI (mid:=[_,_,_]) (s:=[]) (hlen _) rfl (Nat.le_refl _) (V.ok _) ?_ ?_ ?_
   ·intro x hx
    rcases List.mem_append.1 hx with h|h
    ·exact hRp _ x h
    ·rw[List.mem_singleton.1 h];simp
   ·simp[below,hxl,hcb,w1 (i:=i) (by omega)]
   ·simp
  ·simp at hc
   have hie:i=l.length:=by omega
   subst hie
   rw[List.take_length] at hcur
   rw[hcur]
   simp-implicitDefEqProofs[]
 refine key.frz V.n (by rw[hlen];exact Nat.le_refl _) (fun t v h ⟨e,_⟩=>by cases e) ?_
 rintro v h ⟨e,rfl⟩
 cases e
 refine⟨_,V.I (aI g st l).2,by rw[List.length_append,hlen];omega,hlen _,.one ?_ .nil,nZ (V.ok _),rfl,rfl⟩
 have ht:=qF (r:=[]) (o:=eQ 5 (smR (aI g st l).1)) (hlen (aI g st l).2)
 have hh:smR (aI g st l).1=((aI g st l).1.map Sm.cs).map (·.map .p):=by simp[smR]
 rw[hh] at ht⊢
 exact rm ht (fun x hx=>by obtain⟨b,_,rfl⟩:=List.mem_map.1 hx;simp)
theorem Db{σ:Type}(V:Vis σ)(g:σ→Fd→Fd × σ)(inv:Nat→σ→Prop)(l:List Fd)(hb:l.length≤1073741824)(hn:0<V.n)
 (hv:∀(i:Nat) st (h:i<l.length),inv i st→inv (i+1) (g st l[i]).2∧AC Tryz.prog G V.F (.agg (l[i].cs.map .p)::V.caps) (V.I st) fun x h'=>x= .ret (.agg ((g st l[i]).1.cs.map .p))∧h'=V.I (g st l[i]).2)(st:σ)(h0:inv 0 st):
 AC Tryz.prog G cx [.p (fdL l),.fn (.func V.F) V.caps] (V.I st) fun x h=>x= .ret (.p (fdL (aI g st l).1))∧h=V.I (aI g st l).2:=by
 have hxl:∀l,fdL l= .lst 3 (l.map Fd.cs):=fun _=>rfl
 have hlen:=V.len
 have hcb:=V.capsOk
 have hinv:∀i,i≤l.length→inv i (aI g st (l.take i)).2:=fun i hi=>by
  have:=kX (g:=g) (inv:=inv) (l:=l) (st:=st) (k:=0) h0 (fun i st h hi=>by
   rw[Nat.zero_add] at hi⊢;exact(hv i st h hi).1) i hi
  rwa[Nat.zero_add] at this
 have hRp:∀l:List Fd,∀x∈eG l,ag 0 x:=pn
 have hRl:∀l:List Fd,(eG l).length=l.length:=fun l=>by simp[eG]
 have hRa:∀(l:List Fd) (y:Fd),eG (l++[y])=eG l++[y.cs.map .p]:=fun l y=>by simp[eG]
 have key:AC Tryz.prog G cx [.p (fdL l),.fn (.func V.F) V.caps] (V.I st) fun x h=>x= .ret (slE V.n 3 (eG (aI g st l).1))∧h=V.I (aI g st l).2++[eQ 3 (eG (aI g st l).1)]:=by
  refine AC.go kA ?_
  simp-implicitDefEqProofs[fp,hxl]
  refine aH (fun i:Nat=>aj 22 [(5,slE V.n 3 (eG (aI g st (l.take i)).1)),(0,.p (fdL l)),(1,.fn (.func V.F) V.caps),(8,.p (fdL l)),(9,.p (.int .i64 l.length)),(10,.p (.int .i64 i))])
   (fun i=>V.I (aI g st (l.take i)).2++[eQ 3 (eG (aI g st (l.take i)).1)]) (fun i=>i≤l.length) (fun i=>l.length-i) 0 (by simp) ?_ ?_
  ·have e:eQ 3 (eG (aI g st (l.take 0)).1)= .dead:=rfl
   rw[e]
   exact iq (by rw[hlen];exact Nat.le_refl _) (by rw[hlen];exact hn) (by rw[hlen];exact V.ok st) (by simp[below,hxl,hcb,hlen,aI,eG,oP])
  intro i hi
  have hT:=fun h=>lR (g:=g) (l:=l) (st:=st) (i:=i) h
  have hi2:=hinv i hi
  have hml:=kH g (l.take i) st
  rw[List.length_take,Nat.min_eq_left hi] at hml
  generalize hcur:aI g st (l.take i)=cur at hT hi2 hml⊢
  obtain⟨out,s⟩:=cur
  simp only at hT hi2 hml⊢
  simp-implicitDefEqProofs[hxl]
  refine bg (fun hc=>?_) (fun hc=>?_)
  ·simp at hc
   have hg:=List.getElem?_eq_getElem hc
   have hT:=hT hc
   obtain⟨_,hA⟩:=hv i s hc hi2
   generalize l[i]=x at hg hT hA
   have hkc:=x.cs_eq'
   have hyc:=(g s x).1.cs_eq'
   rw[hkc] at hA
   simp-implicitDefEqProofs[hg,hkc,hlen]
   refine(V.pre G hA _ ⟨by simp[below],hcb⟩).mono ?_
   rintro r h ⟨rfl,rfl⟩
   rw[hyc]
   simp-implicitDefEqProofs[aa,hlen]
   have hol:=hRl out
   refine⟨⟨by omega,by omega⟩,i+1,hc,by omega,?_⟩
   rw[hT]
   simp only[hRa]
   rw[oq _ (by simp),lu _ (by simp),hyc]
   refine tI (mid:=[_,_,_]) (s:=[]) (hlen _) rfl (Nat.le_refl _) (V.ok _) ?_ ?_ ?_
   ·intro x hx
    rcases List.mem_append.1 hx with h|h
    ·exact hRp _ x h
    ·rw[List.mem_singleton.1 h];simp
   ·simp[below,hxl,hcb,w1 (i:=i) (by omega)]
   ·simp
  ·simp at hc
   have hie:i=l.length:=by omega
   subst hie
   rw[List.take_length] at hcur
   rw[hcur]
   simp-implicitDefEqProofs[]
 refine key.frz V.n (by rw[hlen];exact Nat.le_refl _) (fun t v h ⟨e,_⟩=>by cases e) ?_
 rintro v h ⟨e,rfl⟩
 cases e
 refine⟨_,V.I (aI g st l).2,by rw[List.length_append,hlen];omega,hlen _,.one ?_ .nil,nZ (V.ok _),rfl,rfl⟩
 have ht:=qF (r:=[]) (o:=eQ 3 (eG (aI g st l).1)) (hlen (aI g st l).2)
 have hh:eG (aI g st l).1=((aI g st l).1.map Fd.cs).map (·.map .p):=by simp[eG]
 rw[hh] at ht⊢
 exact rm ht (fun x hx=>by obtain⟨b,_,rfl⟩:=List.mem_map.1 hx;simp)
theorem EG{σ:Type}(V:Vis σ)(g:σ→List UInt8→List UInt8 × σ)(inv:Nat→σ→Prop)(l:List (List UInt8))(hb:l.length≤1073741824)(hn:0<V.n)
 (hv:∀(i:Nat) st (h:i<l.length),inv i st→inv (i+1) (g st l[i]).2∧AC Tryz.prog G V.F (.p (.str l[i])::V.caps) (V.I st) fun x h'=>x= .ret (.p (.str (g st l[i]).1))∧h'=V.I (g st l[i]).2)(st:σ)(h0:inv 0 st):
 AC Tryz.prog G cG [.p (ay l),.fn (.func V.F) V.caps] (V.I st) fun x h=>x= .ret (.p (ay (aI g st l).1))∧h=V.I (aI g st l).2:=by
 have hxl:∀l,ay l= .lst 1 (l.map fun w=>[.str w]):=fun _=>rfl
 have hlen:=V.len
 have hcb:=V.capsOk
 have hinv:∀i,i≤l.length→inv i (aI g st (l.take i)).2:=fun i hi=>by
  have:=kX (g:=g) (inv:=inv) (l:=l) (st:=st) (k:=0) h0 (fun i st h hi=>by
   rw[Nat.zero_add] at hi⊢;exact(hv i st h hi).1) i hi
  rwa[Nat.zero_add] at this
 have hRp:∀l:List (List UInt8),∀x∈ml l,ag 0 x:=pD
 have hRl:∀l:List (List UInt8),(ml l).length=l.length:=fun l=>by simp[ml]
 have hRa:∀(l:List (List UInt8)) (y:List UInt8),ml (l++[y])=ml l++[[.p (.str y)]]:=fun l y=>by simp[ml]
 have key:AC Tryz.prog G cG [.p (ay l),.fn (.func V.F) V.caps] (V.I st) fun x h=>x= .ret (slE V.n 1 (ml (aI g st l).1))∧h=V.I (aI g st l).2++[eQ 1 (ml (aI g st l).1)]:=by
  refine AC.go lv ?_
  simp-implicitDefEqProofs[gi,hxl]
  refine aH (fun i:Nat=>aj 22 [(5,slE V.n 1 (ml (aI g st (l.take i)).1)),(0,.p (ay l)),(1,.fn (.func V.F) V.caps),(8,.p (ay l)),(9,.p (.int .i64 l.length)),(10,.p (.int .i64 i))])
   (fun i=>V.I (aI g st (l.take i)).2++[eQ 1 (ml (aI g st (l.take i)).1)]) (fun i=>i≤l.length) (fun i=>l.length-i) 0 (by simp) ?_ ?_
  ·have e:eQ 1 (ml (aI g st (l.take 0)).1)= .dead:=rfl
   rw[e]
   exact iq (by rw[hlen];exact Nat.le_refl _) (by rw[hlen];exact hn) (by rw[hlen];exact V.ok st) (by simp[below,hxl,hcb,hlen,aI,ml,oP])
  intro i hi
  have hT:=fun h=>lR (g:=g) (l:=l) (st:=st) (i:=i) h
  have hi2:=hinv i hi
  have hml:=kH g (l.take i) st
  rw[List.length_take,Nat.min_eq_left hi] at hml
  generalize hcur:aI g st (l.take i)=cur at hT hi2 hml⊢
  obtain⟨out,s⟩:=cur
  simp only at hT hi2 hml⊢
  simp-implicitDefEqProofs[hxl]
  refine bg (fun hc=>?_) (fun hc=>?_)
  ·simp at hc
   have hg:=List.getElem?_eq_getElem hc
   have hT:=hT hc
   obtain⟨_,hA⟩:=hv i s hc hi2
   generalize l[i]=x at hg hT hA
   simp-implicitDefEqProofs[hg,hlen]
   refine(V.pre G hA _ ⟨by simp[below],hcb⟩).mono ?_
   rintro r h ⟨rfl,rfl⟩
   simp-implicitDefEqProofs[aa,hlen]
   have hol:=hRl out
   refine⟨⟨by omega,by omega⟩,i+1,hc,by omega,?_⟩
   rw[hT]
   simp only[hRa]
   rw[oq _ (by simp),lu _ (by simp)]
   refine tI (mid:=[_,_]) (s:=[]) (hlen _) rfl (Nat.le_refl _) (V.ok _) ?_ ?_ ?_
   ·intro x hx
    rcases List.mem_append.1 hx with h|h
    ·exact hRp _ x h
    ·rw[List.mem_singleton.1 h];simp
   ·simp[below,hxl,hcb,w1 (i:=i) (by omega)]
   ·simp
  ·simp at hc
   have hie:i=l.length:=by omega
   subst hie
   rw[List.take_length] at hcur
   rw[hcur]
   simp-implicitDefEqProofs[]
 refine key.frz V.n (by rw[hlen];exact Nat.le_refl _) (fun t v h ⟨e,_⟩=>by cases e) ?_
 rintro v h ⟨e,rfl⟩
 cases e
 refine⟨_,V.I (aI g st l).2,by rw[List.length_append,hlen];omega,hlen _,.one ?_ .nil,nZ (V.ok _),rfl,rfl⟩
 have ht:=qF (r:=[]) (o:=eQ 1 (ml (aI g st l).1)) (hlen (aI g st l).2)
 have hh:ml (aI g st l).1=((aI g st l).1.map fun w=>[PV.str w]).map (·.map .p):=by simp[ml]
 rw[hh] at ht⊢
 exact rm ht (fun x hx=>by obtain⟨b,_,rfl⟩:=List.mem_map.1 hx;rfl)
end Go.Proofs.YtiojgfhdcpppcaaGreatDoor
namespace Go.Proofs.YtiojgfhdcpppcaaGreatDoor
open Go Go.Aw
set_option maxRecDepth 100000
def irN(ch:List Scp)(s:List UInt8):List UInt8:=vnm ((dA ch s).getD 0)
mutual
def irE(ch:List Scp):Ex→Ex
 | .mk o n s ks=> .mk o n (if o=2 then irN ch s else s) (jO ch ks)
def jO(ch:List Scp):List Ex→List Ex
 |[]=>[]
 |e::r=>irE ch e::jO ch r
end
mutual
def irS:Sm→Scp→List Scp→Nat→Sm × Scp × Nat
 | .mk o s a bd el,m,up,n=>
   let m2:=opS o s m n
   let n2:=if o=1 then n+1 else n
   let x:=cU bd [] (m2::up) n2
   let y:=cU el [] (m2::up) x.2.2
   (.mk o (if o=1 then vnm n else if o=2 then irN (m::up) s else s) (jO (m::up) a) x.1 y.1,m2,y.2.2)
def cU:List Sm→Scp→List Scp→Nat→List Sm × Scp × Nat
 |[],m,_,n=>([],m,n)
 |s::r,m,up,n=>
  let x:=irS s m up n
  let y:=cU r x.2.1 up x.2.2
  (x.1::y.1,y.2.1,y.2.2)
end
def ed:List (List UInt8)→Scp→Nat→List (List UInt8) × Scp × Nat
 |[],m,n=>([],m,n)
 |s::r,m,n=>let y:=ed r (dI m s n) (n+1);(vnm n::y.1,y.2.1,y.2.2)
def irF(f:Fd):Fd:=
 let x:=ed f.params [] 0
 ⟨f.name,x.1,(cU f.body x.2.1 [] x.2.2).1⟩
theorem pm{vs:List LV}{s:List UInt8}{c:Int}(h:c≠0):mE vs s c=c:=by unfold mE;split<;>simp[rn h]
theorem xC{fns:List Fd}{k:Nat}{s:List UInt8}{n:Nat}{c:Int}(h:c≠0):lw fns k s n c=c:=by
 unfold lw
 simp only[rn h]
 split
 ·rfl
 ·split
  ·rfl
  ·split<;>rfl
theorem wJ{fns:List Fd}{k:Nat}{vs:List LV}{o:Int}{s:List UInt8}{n:Nat}{c:Int}(h:c≠0):jH fns k vs o s n c=c:=by
 unfold jH
 rw[pm h,xC h]
 split
 ·rfl
 ·split<;>rfl
mutual
theorem zZ(fns:List Fd)(k:Nat)(vs:List LV){c:Int}(h:c≠0):∀e:Ex,qt fns k vs e c=c
 | .mk o n s ks=>by rw[qt,wJ h,jZ fns k vs h ks]
theorem jZ(fns:List Fd)(k:Nat)(vs:List LV){c:Int}(h:c≠0):∀l:List Ex,bi fns k vs l c=c
 |[]=>rfl
 |e::r=>by rw[bi,zZ fns k vs h e,jZ fns k vs h r]
end
theorem su{fns:List Fd}{k:Nat}{vs:List LV}{l:List Ex}{c:Int}(h:bi fns k vs l c=0):c=0:=by
 by_cases hc:c=0
 ·exact hc
 ·rw[jZ fns k vs hc] at h;exact h
theorem tB{vs:List LV}{s:List UInt8}{c:Int}(h:mE vs s c=0):c=0∧∃v,lkV vs s=some v:=by
 by_cases hc:c=0
 ·refine⟨hc,?_⟩
  unfold mE at h
  cases e:lkV vs s with
  |some v=>exact⟨v,rfl⟩
  |none=>rw[e] at h;simp[fl,hc] at h
 ·rw[pm hc] at h;exact absurd h hc
abbrev gN:LV→Nat:=fun v=>v.num
theorem yn{b:Nat}{vs:List LV}{ch:List Scp}(h:SR gN b vs ch){s:List UInt8}(hv:∃v,lkV vs s=some v):pc vs s=irN ch s:=by
 obtain⟨v,e⟩:=hv
 rw[pc,irN,←h.fnd s,e];rfl
mutual
theorem ER{fns:List Fd}{k b:Nat}{vs:List LV}{ch:List Scp}(h:SR gN b vs ch):∀(e:Ex) (c:Int),qt fns k vs e c=0→rnE vs e=irE ch e
 | .mk o n s ks,c,hz=>by
   rw[qt] at hz
   rw[rnE,irE,tK h ks _ hz]
   by_cases ho:o=2
   ·have h1:=su hz
    rw[jH,if_pos ho] at h1
    rw[if_pos ho,if_pos ho,yn h (tB h1).2]
   ·rw[if_neg ho,if_neg ho]
theorem tK{fns:List Fd}{k b:Nat}{vs:List LV}{ch:List Scp}(h:SR gN b vs ch):∀(l:List Ex) (c:Int),bi fns k vs l c=0→gA vs l=jO ch l
 |[],c,_=>rfl
 |e::r,c,hz=>by
  rw[bi] at hz
  rw[gA,jO,ER h e c (su hz),tK h r _ hz]
end
theorem vI{o:Int}{s:List UInt8}{b:Nat}{w:WS}(h:w.code≠0):(opW o s b w).code=w.code:=by
 unfold opW
 split
 ·simp only[iD,si,rn h]
  split
  ·rfl
  ·split<;>rfl
 ·split
  ·exact pm h
  ·rfl
mutual
theorem AU(fns:List Fd)(k:Nat):∀(s:Sm) (b:Nat) (w:WS),w.code≠0→(stW fns k b s w).code=w.code
 | .mk o s a bd el,b,w,h=>by
   have e1:(bi fns k w.vs a w.code)=w.code:=jZ fns k w.vs h a
   have e2:(opW o s b ⟨w.vs,w.count,bi fns k w.vs a w.code⟩).code=w.code:=by rw[vI]<;>simp only[e1];exact h
   have e3:=md fns k bd (b+1) (opW o s b ⟨w.vs,w.count,bi fns k w.vs a w.code⟩) (by rw[e2];exact h)
   rw[stW,fD,md fns k el _ _ (by rw[fD,e3,e2];exact h),fD,e3,e2]
theorem md(fns:List Fd)(k:Nat):∀(l:List Sm) (b:Nat) (w:WS),w.code≠0→(br fns k b l w).code=w.code
 |[],b,w,h=>rfl
 |s::r,b,w,h=>by
  have e1:=AU fns k s b w h
  rw[br,md fns k r b _ (by rw[e1];exact h),e1]
end
theorem pw{fns:List Fd}{k b:Nat}{l:List Sm}{w:WS}(h:(br fns k b l w).code=0):w.code=0:=by
 by_cases hc:w.code=0
 ·exact hc
 ·rw[md fns k l b w hc] at h;exact h
theorem An{o:Int}{s:List UInt8}{b:Nat}{w:WS}(h:(opW o s b w).code=0):w.code=0:=by
 by_cases hc:w.code=0
 ·exact hc
 ·rw[vI hc] at h;exact h
theorem FF{b:Nat}{w:WS}{m:Scp}{up:List Scp}(h:SR gN b w.vs (m::up))(o:Int)(s:List UInt8)(c:Int)(hz:(opW o s b ⟨w.vs,w.count,c⟩).code=0):
 SR gN b (opW o s b ⟨w.vs,w.count,c⟩).vs (opS o s m w.count::up)∧opN o s w=(if o=1 then vnm w.count else if o=2 then irN (m::up) s else s):=by
 unfold opW at hz⊢
 unfold opS opN
 by_cases h1:o=1
 ·simp only[h1,if_true]
  exact⟨h.add s _ _ rfl,trivial⟩
 ·simp only[if_neg h1] at hz⊢
  by_cases h2:o=2
  ·simp only[h2,if_true] at hz⊢
   exact⟨h,yn h (tB hz).2⟩
  ·simp only[if_neg h2]
   exact⟨h,trivial⟩
mutual
theorem Fx(fns:List Fd)(k:Nat):∀(s:Sm) (b:Nat) (w:WS) (m:Scp) (up:List Scp),SR gN b w.vs (m::up)→(stW fns k b s w).code=0→
 rnS fns k b s w=(irS s m up w.count).1∧SR gN b (stW fns k b s w).vs ((irS s m up w.count).2.1::up)∧(stW fns k b s w).count=(irS s m up w.count).2.2
 | .mk o s a bd el,b,w,m,up,h,hz=>by
   rw[stW,fD] at hz
   have z1:=pw hz
   rw[fD] at z1
   have z2:=pw z1
   have z3:=An z2
   obtain⟨p1,p2⟩:=FF h o s _ z2
   obtain⟨q1,q2,q3⟩:=qG fns k bd (b+1) _ [] _ p1.open z1
   obtain⟨r1,r2,r3⟩:=qG fns k el (b+1) ((br fns k (b+1) bd (opW o s b ⟨w.vs,w.count,bi fns k w.vs a w.code⟩)).back (opW o s b ⟨w.vs,w.count,bi fns k w.vs a w.code⟩).vs) [] _ p1.open hz
   have hcn:(opW o s b ⟨w.vs,w.count,bi fns k w.vs a w.code⟩).count=if o=1 then w.count+1 else w.count:=by
    rw[lP];split<;>rfl
   have hbc:((br fns k (b+1) bd (opW o s b ⟨w.vs,w.count,bi fns k w.vs a w.code⟩)).back (opW o s b ⟨w.vs,w.count,bi fns k w.vs a w.code⟩).vs).count=(br fns k (b+1) bd (opW o s b ⟨w.vs,w.count,bi fns k w.vs a w.code⟩)).count:=rfl
   rw[hcn] at q1 q3
   rw[hbc,q3] at r1 r3
   refine⟨?_,p1,?_⟩
   ·rw[rnS,irS]
    simp only
    rw[q1,r1,p2,tK h a _ z3]
   ·rw[stW,irS]
    exact r3
theorem qG(fns:List Fd)(k:Nat):∀(l:List Sm) (b:Nat) (w:WS) (m:Scp) (up:List Scp),SR gN b w.vs (m::up)→(br fns k b l w).code=0→
 eA fns k b l w=(cU l m up w.count).1∧SR gN b (br fns k b l w).vs ((cU l m up w.count).2.1::up)∧(br fns k b l w).count=(cU l m up w.count).2.2
 |[],b,w,m,up,h,hz=>⟨rfl,h,rfl⟩
 |s::r,b,w,m,up,h,hz=>by
  rw[br] at hz
  obtain⟨p1,p2,p3⟩:=Fx fns k s b w m up h (pw hz)
  obtain⟨q1,q2,q3⟩:=qG fns k r b _ _ up p2 hz
  rw[p3] at q1 q2 q3
  refine⟨?_,?_,?_⟩
  ·rw[eA,cU];simp only;rw[p1,q1]
  ·rw[br,cU];exact q2
  ·rw[br,cU];exact q3
end
theorem yL:∀(ps:List (List UInt8)) (w:WS) (m:Scp),SR gN 0 w.vs [m]→jT ps w=(ed ps m w.count).1∧SR gN 0 (bS ps w).vs [(ed ps m w.count).2.1]∧(bS ps w).count=(ed ps m w.count).2.2
 |[],w,m,h=>⟨rfl,h,rfl⟩
 |s::r,w,m,h=>by
  obtain⟨a1,a2,a3⟩:=yL r (iD w s 0) (dI m s w.count) (h.add s w.count w.count rfl)
  have hc:(iD w s 0).count=w.count+1:=rfl
  rw[hc] at a1 a2 a3
  refine⟨?_,?_,?_⟩
  ·rw[jT,ed];simp only;rw[a1]
  ·rw[ed];exact a2
  ·rw[ed];exact a3
theorem Fe(fns:List Fd)(k:Nat)(f:Fd)(h:(fnW fns k f).code=0):rnF fns k f=irF f:=by
 rw[fnW] at h
 obtain⟨p1,p2,p3⟩:=yL f.params ⟨[],0,if dp fns f.name=some k then 0 else 2⟩ [] SR.base
 obtain⟨q1,q2,q3⟩:=qG fns k f.body 0 _ _ [] p2 h
 rw[p3] at q1
 rw[rnF,irF,p1,q1]
end Go.Proofs.YtiojgfhdcpppcaaGreatDoor
namespace Go.Proofs.YtiojgfhdcpppcaaGreatDoor
open Go Go.Aw
set_option maxRecDepth 100000
set_option maxHeartbeats 4000000
def rO(n:Nat):AO:= .row 1 [[.p (.int .i64 n)]]
def RH(b0:AO)(n:Nat)(ch:List GS):List AO:=b0::rO n::scH ch
theorem iv(b0:AO)(n:Nat)(ch:List GS):(RH b0 n ch).length=2+scL ch:=by simp only[RH,List.length_cons,fZ];omega
theorem qi{b0:AO}(hb:okO 0 b0){n:Nat}{ch:List GS}(hs:jK ch){m:Nat}(hm:2+scL ch≤m):∀o∈RH b0 n ch,okO m o:=
 ae (cg hb) (ae (by intro e he;rw[List.mem_singleton.1 he];simp[below]) (ua ch hs hm))
def Sml(ch:List Scp):Prop:=∀s n,dA ch s=some n→n<26
theorem Sml.getD{ch:List Scp}(h:Sml ch)(s:List UInt8):(dA ch s).getD 0<26:=by
 cases e:dA ch s with
 |none=>simp
 |some n=>exact h s n e
theorem Sml.set{m:Scp}{up:List Scp}(h:Sml (m::up))(s:List UInt8){n:Nat}(hn:n<26):Sml (dI m s n::up):=by
 intro t k e
 rw[dA,rZ] at e
 by_cases hst:s=t
 ·rw[if_pos hst] at e;cases e;exact hn
 ·rw[if_neg hst] at e
  exact h t k (by rw[dA];exact e)
theorem Sml.open{ch:List Scp}(h:Sml ch):Sml ([]::ch):=fun s n e=>h s n (by rw[dA] at e;exact e)
theorem Sml.opS{m:Scp}{up:List Scp}(h:Sml (m::up))(o:Int)(s:List UInt8){n:Nat}(hn:o=1→n<26):Sml (opS o s m n::up):=by
 unfold Go.Proofs.YtiojgfhdcpppcaaGreatDoor.opS
 split
 ·rename_i e;exact h.set s (hn e)
 ·exact h
def K_impl_renamer_expr:AK:= .seq (.reg [oJ 3 (.box 1 (.t 0)),oJ 4 (.box 4 (.t 1)),oJ 5 (.box 1 (.t 2)),oJ 6 (.alloc [(.p (.int .i64 0)),(.p (.int .i64 0)),(.p (.str [])),.nils])]) (.cut (.seq (.reg [oF 9 0 4,oL 10 9,oJ 11 (.bin .eql (.t 10) (.c (.p (.int .i64 2))))]) (.cond (.t 11) (.seq (.reg [oL 13 5,oF 14 2 4,oL 15 14,oJ 16 (.call aE [(.t 13),(.t 15)]),oM 12 16,oJ 17 (.ext 0 (.t 12)),oJ 18 (.ext 1 (.t 12)),oM 7 17,oM 8 18]) (.reg [oL 19 3,oM 20 7,oJ 21 (.call aX [(.t 19),(.t 20)]),oF 22 2 4,oS 22 21])) (.skip))) (.seq (.reg [oF 23 3 4,oL 24 23,oJ 25 (.mkf (.func bu) [(.t 3),(.t 5)]),oJ 26 (.call aA [(.t 24),(.t 25)]),oF 27 3 4,oS 27 26]) (.seq (.reg [oJ 28 (.ld (some 4) (.t 4)),⟨none,none,.st 4 (.t 6) (.t 28)⟩]) (.ret))))
theorem mo:K_impl_renamer_expr.whole=F_impl_renamer_expr.ak:=rfl
variable (G:aF)
theorem tP(n:Nat)(hn:n<26)(r:AV)(h:List AO):AC Tryz.prog G aX [r,.p (.int .i64 n)] h fun x h'=>x= .ret (.p (.str (vnm n)))∧h'=h:=by
 refine AC.go mD ?_
 have hv:vnm n=[118,UInt8.ofNat (97+n)]:=by rw[vnm,Nat.mod_eq_of_lt hn]
 have hw:IntKind.i64.wrap (97+(n:Int))=((97+n:Nat):Int):=by rw[aq (by omega) (by omega)];omega
 have hw2:IntKind.i32.wrap (97+(n:Int))=97+(n:Int):=by
  have:∀m:Nat,m<26→IntKind.i32.wrap (97+(m:Int))=97+(m:Int):=by decide
  exact this _ hn
 have htn:(97+(n:Int)).toNat=97+n:=by omega
 have hof:UInt8.ofNat (97+n)=97+UInt8.ofNat n:=by
  have:∀m:Nat,m<26→UInt8.ofNat (97+m)=97+UInt8.ofNat m:=by decide
  exact this _ hn
 rw[hv]
 simp-implicitDefEqProofs[gP,hw,hw2,htn,hof]
 omega
def RX(b0:AO)(up:List GS)(gap:List AO)(n:Nat):List AO:=b0::rO n::(scH up++gap)
theorem Fq(b0:AO)(up:List GS)(gap:List AO)(n:Nat):(RX b0 up gap n).length=2+scL up+gap.length:=by
 simp only[RX,List.length_cons,List.length_append,fZ];omega
theorem Eu(b0:AO)(up:List GS)(gap:List AO)(m:Scp)(n:Nat)(rest:List AO):RH b0 n (⟨gap,m⟩::up)++rest=RX b0 up gap n++(.mp (mpE m):: .row 2 [[.mp (2+scL up+gap.length),upV up]]::rest):=by
 simp[RH,RX,scH]
theorem Ho(b0:AO)(up:List GS)(gap:List AO)(n:Nat)(t:List AO):(RX b0 up gap n++t)[1]?=some (.row 1 [[.p (.int .i64 n)]]):=rfl
theorem GZ(b0:AO)(up:List GS)(gap:List AO)(n k:Nat)(t:List AO):(RX b0 up gap n++t).set 1 (.row 1 [[.p (.int .i64 k)]])=RX b0 up gap k++t:=rfl
theorem Bq(b0:AO)(gap:List AO)(m:Scp)(up:List GS)(s:List UInt8)(n:Nat)(hn:n<26)(rest:List AO):AC Tryz.prog G bU [.ptr 1 1 0 0,upV (⟨gap,m⟩::up),.p (.str s)] (RH b0 n (⟨gap,m⟩::up)++rest) fun x h=>x= .ret (.p (.str (vnm n)))∧h=RH b0 (n+1) (⟨gap,dI m s n⟩::up)++rest:=by
 refine AC.go mv ?_
 have hup:upV (⟨gap,m⟩::up)= .ptr (2+scL up+gap.length+1) 2 0 0:=rfl
 have hms:gH (.str s) (.p (.int .i64 n)) (mpE m)=some (mpE (dI m s n)):=oQ s n m
 have hl:=Fq b0 up gap
 have hw:IntKind.i64.wrap ((n:Int)+1)=(n:Int)+1:=aq (by omega) (by omega)
 have hw2:IntKind.i64.wrap ((n:Int)+1-1)=(n:Int):=by rw[aq (by omega) (by omega)];omega
 have hw3:IntKind.i64.wrap (n:Int)=(n:Int):=aq (by omega) (by omega)
 have hs1:∀t,(RX b0 up gap n++t).set 1 (.row 1 [[.p (.int .i64 ((n:Int)+1))]])=RX b0 up gap (n+1)++t:=fun t=>GZ b0 up gap n (n+1) t
 have h1:∀t,(RX b0 up gap (n+1)++t)[1]?=some (.row 1 [[.p (.int .i64 ((n:Int)+1))]]):=fun t=>Ho b0 up gap (n+1) t
 rw[Eu,Eu,hup]
 generalize RX b0 up gap (n+1)=B at hs1 h1⊢
 have h0:=Ho b0 up gap n
 have hln:=hl n
 generalize RX b0 up gap n=A at hs1 h0 hln⊢
 simp-implicitDefEqProofs[gF,hln,hms,h0,h1,hs1,hw,hw2,hw3]
 refine(tP G n hn _ _).mono ?_
 rintro r h ⟨rfl,rfl⟩
 simp-implicitDefEqProofs[aa]
theorem BS{b0:AO}(hb:okO 0 b0){f:FuncId}{args:List AV}{n n':Nat}{ch ch':List GS}{v:AV}(H:AC Tryz.prog G f args (RH b0 n ch) fun x h=>x= .ret v∧h=RH b0 n' ch')(hs:jK ch)(hl:scL ch'=scL ch)(rest:List AO)(ha:ag (2+scL ch) args):
 AC Tryz.prog G f args (RH b0 n ch++rest) fun x h=>x= .ret v∧h=RH b0 n' ch'++rest:=by
 refine(AC.pre H rest (by rw[iv b0];exact ha) (by rw[iv b0];exact qi hb hs (Nat.le_refl _)) ?_).mono ?_
 ·rintro x h ⟨_,rfl⟩;rw[iv b0,iv b0,hl]
 ·rintro x h ⟨h1,⟨rfl,rfl⟩,rfl⟩
  exact⟨rfl,rfl⟩
theorem yv(b0:AO)(n:Nat)(ch:List GS)(rest:List AO)(s:List UInt8):AC Tryz.prog G aE [upV ch,.p (.str s)] (RH b0 n ch++rest) fun x h=>x= .ret (.tup [.p (.int .i64 (((dA (sco ch) s).getD 0:Nat):Int)),.p (.bool (dA (sco ch) s).isSome)])∧h=RH b0 n ch++rest:=xN G b0 (rO n) ch rest s
def rBx(ch:List GS)(e:List AV):List AO:=[.row 1 [[.ptr 1 1 0 0]],.row 4 [e],.row 1 [[upV ch]],.row 4 [[.p (.int .i64 0),.p (.int .i64 0),.p (.str []),.nils]]]
def Cd{b0:AO}(hb:okO 0 b0)(n:Nat)(ch:List GS)(e:List PV)(hs:jK ch):Vis Unit where
 I:=fun _=>RH b0 n ch++rBx ch (e.map .p)
 n:=2+scL ch+4
 F:=bu
 caps:=[.ptr (2+scL ch) 1 0 0,.ptr (2+scL ch+2) 1 0 0]
 len:=fun _=>by rw[List.length_append,iv b0];rfl
 ok:=fun _ o ho=>by
  rcases List.mem_append.1 ho with h|h
  ·exact qi hb hs (by omega) o h
  ·simp only[rBx,List.mem_cons,List.not_mem_nil,or_false] at h
   rcases h with rfl|rfl|rfl|rfl
   ·intro e he;rw[List.mem_singleton.1 he];exact⟨by simp only[below];omega,trivial⟩
   ·intro e he;rw[List.mem_singleton.1 he];exact aD (Nat.zero_le _) _ (by simp)
   ·intro e he;rw[List.mem_singleton.1 he];exact⟨cR ch (by omega),trivial⟩
   ·intro e he;rw[List.mem_singleton.1 he];exact aD (Nat.zero_le _) _ (by simp)
 capsOk:=by simp[below]
theorem oo{α β:Type}(f:α→β):∀(l:List α) (u:Unit),aI (fun(st:Unit) x=>(f x,st)) u l=(l.map f,u)
 |[],u=>rfl
 |x::r,u=>by rw[aI,oo f r];rfl
theorem rY(ch:List Scp):∀l:List Ex,jO ch l=l.map (irE ch)
 |[]=>rfl
 |e::r=>by rw[jO,rY ch r];rfl
theorem DF{b0:AO}(hb:okO 0 b0)(n:Nat)(ch:List GS)(hs:jK ch)(hm:Sml (sco ch)):∀(N:Nat) (e:Ex),e.sz≤N→e.sz≤1073741824→
 AC Tryz.prog G bR [.ptr 1 1 0 0,.agg (e.cs.map .p),upV ch] (RH b0 n ch) fun x h=>x= .ret (.agg ((irE (sco ch) e).cs.map .p))∧h=RH b0 n ch:=by
 intro N
 induction N with
 |zero=>intro e he;have:=e.sz_eq;omega
 |succ N ih=>
  intro e he hz
  have hec:=e.cs_eq
  have hsz:=e.sz_eq
  have hkl:=aR e.kids
  have hre:(irE (sco ch) e).cs=[.int .i64 e.op,.int .i64 e.n,.str (if e.op=2 then irN (sco ch) e.name else e.name),exL (e.kids.map (irE (sco ch)))]:=by
   obtain⟨o,m,s,ks⟩:=e;rw[irE,Ex.cs_eq,←rY];rfl
  have hlen:(RH b0 n ch).length=2+scL ch:=iv b0 n ch
  have hcl:AC Tryz.prog G bR [.ptr 1 1 0 0,.agg (e.cs.map .p),upV ch] (RH b0 n ch) fun x h=>x= .ret (.agg ((irE (sco ch) e).cs.map .p))∧∃l,h=RH b0 n ch++l:=by
   refine AC.goK mw mo ?_
   have hup:=yg ch
   have hfind:=yv G b0 n ch [.row 1 [[.ptr 1 1 0 0]],.row 4 [[.p (.int .i64 e.op),.p (.int .i64 e.n),.p (.str e.name),.p (exL e.kids)]],.row 1 [[upV ch]],.row 4 [[.p (.int .i64 0),.p (.int .i64 0),.p (.str []),.nils]]] e.name
   have hmp:∀nm:List UInt8,AC Tryz.prog G aA [.p (exL e.kids),.fn (.func bu) [.ptr (2+scL ch) 1 0 0,.ptr (2+scL ch+2) 1 0 0]] (RH b0 n ch++[.row 1 [[.ptr 1 1 0 0]],.row 4 [[.p (.int .i64 e.op),.p (.int .i64 e.n),.p (.str nm),.p (exL e.kids)]],.row 1 [[upV ch]],.row 4 [[.p (.int .i64 0),.p (.int .i64 0),.p (.str []),.nils]]])
    fun x h=>x= .ret (.p (exL (e.kids.map (irE (sco ch)))))∧h=RH b0 n ch++[.row 1 [[.ptr 1 1 0 0]],.row 4 [[.p (.int .i64 e.op),.p (.int .i64 e.n),.p (.str nm),.p (exL e.kids)]],.row 1 [[upV ch]],.row 4 [[.p (.int .i64 0),.p (.int .i64 0),.p (.str []),.nils]]]:=by
    intro nm
    have hI:RH b0 n ch++[.row 1 [[.ptr 1 1 0 0]],.row 4 [[.p (.int .i64 e.op),.p (.int .i64 e.n),.p (.str nm),.p (exL e.kids)]],.row 1 [[upV ch]],.row 4 [[.p (.int .i64 0),.p (.int .i64 0),.p (.str []),.nils]]]=(Cd hb n ch [.int .i64 e.op,.int .i64 e.n,.str nm,exL e.kids] hs).I ():=rfl
    have hm2:=ti G (Cd hb n ch [.int .i64 e.op,.int .i64 e.n,.str nm,exL e.kids] hs) (fun st x=>(irE (sco ch) x,st)) (fun _ _=>True) e.kids (by omega) (by show 0<2+scL ch+4;omega) (fun i st hi _=>⟨trivial,?_⟩) () trivial
    ·rw[oo] at hm2
     exact hm2
    have hks:=aL (List.getElem_mem hi)
    have hx:=ih e.kids[i] (by omega) (by omega)
    generalize e.kids[i]=x at hx
    have hxc:=x.cs_eq
    have hyc:=(irE (sco ch) x).cs_eq
    refine(Cd hb n ch _ hs).trim G (AC.go kC ?_) (by simp[below])
    rw[←hI]
    have hx2:=BS G hb hx hs rfl [.row 1 [[.ptr 1 1 0 0]],.row 4 [[.p (.int .i64 e.op),.p (.int .i64 e.n),.p (.str nm),.p (exL e.kids)]],.row 1 [[upV ch]],.row 4 [[.p (.int .i64 0),.p (.int .i64 0),.p (.str []),.nils]],.row 4 [[.p (.int .i64 x.op),.p (.int .i64 x.n),.p (.str x.name),.p (exL x.kids)]],.row 4 [[.p (.int .i64 0),.p (.int .i64 0),.p (.str []),.nils]]] ⟨by simp only[below];omega,by simp,cR ch (Nat.le_refl _),trivial⟩
    have hcaps:(Cd hb n ch [.int .i64 e.op,.int .i64 e.n,.str nm,exL e.kids] hs).caps=[.ptr (2+scL ch) 1 0 0,.ptr (2+scL ch+2) 1 0 0]:=rfl
    rw[hxc] at hx2
    rw[hcaps]
    simp-implicitDefEqProofs[fm,hxc,hlen]
    refine hx2.mono ?_
    rintro r h ⟨rfl,rfl⟩
    rw[hyc]
    simp-implicitDefEqProofs[aa,hlen,Cd,rBx]
   rw[hec]
   have hub:below (2+scL ch) (upV ch):=cR ch (Nat.le_refl _)
   generalize upV ch=u at hup hub hfind hmp⊢
   have hmp:=hmp (if e.op=2 then irN (sco ch) e.name else e.name)
   have hD:=hm.getD e.name
   have hirn:irN (sco ch) e.name=vnm ((dA (sco ch) e.name).getD 0):=rfl
   rw[hre]
   clear hre ih
   have hsame:∀(op:Int) (nm:List UInt8) (r1:List (Nat × AV)),Aw.look r1 3= .ptr (2+scL ch) 1 0 0→Aw.look r1 4= .ptr (2+scL ch+1) 4 0 0→Aw.look r1 5= .ptr (2+scL ch+2) 1 0 0→Aw.look r1 6= .ptr (2+scL ch+3) 4 0 0→
    Wk (2+scL ch) (aj 29 r1) (RH b0 n ch++[.row 1 [[.ptr 1 1 0 0]],.row 4 [[.p (.int .i64 op),.p (.int .i64 e.n),.p (.str nm),.p (exL e.kids)]],.row 1 [[u]],.row 4 [[.p (.int .i64 0),.p (.int .i64 0),.p (.str []),.nils]]])
     (aj 29 [(3,.ptr (2+scL ch) 1 0 0),(4,.ptr (2+scL ch+1) 4 0 0),(5,.ptr (2+scL ch+2) 1 0 0),(6,.ptr (2+scL ch+3) 4 0 0)]) (RH b0 n ch++[.row 1 [[.ptr 1 1 0 0]],.row 4 [[.p (.int .i64 op),.p (.int .i64 e.n),.p (.str nm),.p (exL e.kids)]],.row 1 [[u]],.row 4 [[.p (.int .i64 0),.p (.int .i64 0),.p (.str []),.nils]]]):=by
    intro op nm r1 e3 e4 e5 e6
    refine lU (r:=[_,_,_,_]) (s:=[]) hlen (Nat.le_add_right _ _) (qi hb hs (Nat.le_refl _)) ?_ (by simp[below,e3,e4,e5,e6])
    refine ae (by intro x hx;rw[List.mem_singleton.1 hx];exact⟨by simp only[below];omega,trivial⟩) (ae (cg (by simp[okO])) (ae (by intro x hx;rw[List.mem_singleton.1 hx];exact⟨(aD (Nat.le_add_right _ _) [u] ⟨hub,trivial⟩).1,trivial⟩) (ae (cg (by simp[okO])) dr)))
   rcases hup with rfl|⟨i,rfl⟩
   ·simp-implicitDefEqProofs[K_impl_renamer_expr,F_impl_renamer_expr,hlen]
    refine jQ (aj 29 [(3,.ptr (2+scL ch) 1 0 0),(4,.ptr (2+scL ch+1) 4 0 0),(5,.ptr (2+scL ch+2) 1 0 0),(6,.ptr (2+scL ch+3) 4 0 0)]) (RH b0 n ch++[.row 1 [[.ptr 1 1 0 0]],.row 4 [[.p (.int .i64 e.op),.p (.int .i64 e.n),.p (.str (if e.op=2 then irN (sco ch) e.name else e.name)),.p (exL e.kids)]],.row 1 [[.nilp]],.row 4 [[.p (.int .i64 0),.p (.int .i64 0),.p (.str []),.nils]]]) ?_ ?_
    ·by_cases o2:e.op=2
     ·rw[o2] at hfind
      simp-implicitDefEqProofs[o2,hlen]
      refine hfind.mono ?_
      rintro r h ⟨rfl,rfl⟩
      simp-implicitDefEqProofs[aa,hlen]
      refine(tP G _ hD _ _).mono ?_
      rintro r h ⟨rfl,rfl⟩
      rw[hirn]
      simp-implicitDefEqProofs[aa,hlen]
      exact hsame 2 _ _ (by simp) (by simp) (by simp) (by simp)
     ·simp-implicitDefEqProofs[o2,hlen]
      exact hsame e.op _ _ (by simp) (by simp) (by simp) (by simp)
    ·simp-implicitDefEqProofs[hlen]
     refine hmp.mono ?_
     rintro r h ⟨rfl,rfl⟩
     simp-implicitDefEqProofs[aa,hlen]
   ·simp-implicitDefEqProofs[K_impl_renamer_expr,F_impl_renamer_expr,hlen]
    refine jQ (aj 29 [(3,.ptr (2+scL ch) 1 0 0),(4,.ptr (2+scL ch+1) 4 0 0),(5,.ptr (2+scL ch+2) 1 0 0),(6,.ptr (2+scL ch+3) 4 0 0)]) (RH b0 n ch++[.row 1 [[.ptr 1 1 0 0]],.row 4 [[.p (.int .i64 e.op),.p (.int .i64 e.n),.p (.str (if e.op=2 then irN (sco ch) e.name else e.name)),.p (exL e.kids)]],.row 1 [[.ptr i 2 0 0]],.row 4 [[.p (.int .i64 0),.p (.int .i64 0),.p (.str []),.nils]]]) ?_ ?_
    ·by_cases o2:e.op=2
     ·rw[o2] at hfind
      simp-implicitDefEqProofs[o2,hlen]
      refine hfind.mono ?_
      rintro r h ⟨rfl,rfl⟩
      simp-implicitDefEqProofs[aa,hlen]
      refine(tP G _ hD _ _).mono ?_
      rintro r h ⟨rfl,rfl⟩
      rw[hirn]
      simp-implicitDefEqProofs[aa,hlen]
      exact hsame 2 _ _ (by simp) (by simp) (by simp) (by simp)
     ·simp-implicitDefEqProofs[o2,hlen]
      exact hsame e.op _ _ (by simp) (by simp) (by simp) (by simp)
    ·simp-implicitDefEqProofs[hlen]
     refine hmp.mono ?_
     rintro r h ⟨rfl,rfl⟩
     simp-implicitDefEqProofs[aa,hlen]
  exact xX G hcl rfl (by rw[hlen];exact qi hb hs (Nat.le_refl _)) (by simp[below])
end Go.Proofs.YtiojgfhdcpppcaaGreatDoor
namespace Go.Proofs.YtiojgfhdcpppcaaGreatDoor
open Go Go.Aw
set_option maxRecDepth 100000
set_option maxHeartbeats 4000000
def K_impl_renamer_block_1:AK:= .seq (.reg [oJ 3 (.box 5 (.t 0)),oJ 4 (.alloc [(.p (.int .i64 0)),(.p (.str [])),.nils,.nils,.nils])]) (.seq (.reg [oF 7 2 3,oL 8 7,oJ 9 (.mkf (.func aZ) [(.t 1),(.t 2)]),oJ 10 (.call aA [(.t 8),(.t 9)]),oF 11 2 3,oS 11 10]) (.cut (.seq (.reg [oF 12 0 3,oL 13 12]) (.blk 0 (.seq (.reg [oJ 15 (.bin .eql (.t 13) (.c (.p (.int .i64 1)))),oM 14 15]) (.cond (.t 14) (.reg [oL 16 1,oL 17 2,oF 18 1 3,oL 19 18,oJ 20 (.call bU [(.t 16),(.t 17),(.t 19)]),oF 21 1 3,oS 21 20]) (.seq (.reg [oJ 23 (.bin .eql (.t 13) (.c (.p (.int .i64 2)))),oM 22 23]) (.cond (.t 22) (.seq (.reg [oL 25 2,oF 26 1 3,oL 27 26,oJ 28 (.call aE [(.t 25),(.t 27)]),oM 24 28,oJ 29 (.ext 0 (.t 24)),oJ 30 (.ext 1 (.t 24)),oM 5 29,oM 6 30]) (.reg [oL 31 1,oM 32 5,oJ 33 (.call aX [(.t 31),(.t 32)]),oF 34 1 3,oS 34 33])) (.skip))))))) (.seq (.reg [oF 36 3 3,oL 35 1,oL 37 36,oL 38 2,oJ 39 (.call aB [(.t 38)]),⟨none,none,.chk none 1 35⟩,⟨none,none,.chk none 36 37⟩,oJ 40 (.call aO [(.t 35),(.t 37),(.t 39)]),oF 41 3 3,oS 41 40]) (.seq (.reg [oF 43 4 3,oL 42 1,oL 44 43,oL 45 2,oJ 46 (.call aB [(.t 45)]),⟨none,none,.chk none 1 42⟩,⟨none,none,.chk none 43 44⟩,oJ 47 (.call aO [(.t 42),(.t 44),(.t 46)]),oF 48 4 3,oS 48 47]) (.seq (.reg [oJ 49 (.ld (some 5) (.t 3)),⟨none,none,.st 5 (.t 4) (.t 49)⟩]) (.ret))))))
theorem jV:K_impl_renamer_block_1.whole=F_impl_renamer_block_1.ak:=rfl
def irG(up:List Scp)(st:Scp × Nat)(s:Sm):Sm × (Scp × Nat):=((irS s st.1 up st.2).1,((irS s st.1 up st.2).2.1,(irS s st.1 up st.2).2.2))
theorem xY(up:List Scp):∀(l:List Sm) (m:Scp) (n:Nat),aI (irG up) (m,n) l=((cU l m up n).1,((cU l m up n).2.1,(cU l m up n).2.2))
 |[],m,n=>rfl
 |s::r,m,n=>by
  rw[aI,cU]
  have:=xY up r (irS s m up n).2.1 (irS s m up n).2.2
  simp only[irG] at this⊢
  rw[this]
theorem xW:∀(s:Sm) (m:Scp) (up:List Scp) (n:Nat),(irS s m up n).2.2=n+jq s∧(irS s m up n).2.1=opS s.op s.name m n:=by
 have key:∀N:Nat,(∀s:Sm,s.sz<N→∀m up n,(irS s m up n).2.2=n+jq s∧(irS s m up n).2.1=opS s.op s.name m n)∧∀l:List Sm,az l<N→∀m up n,(cU l m up n).2.2=n+cz l:=by
  intro N
  induction N with
  |zero=>exact⟨fun s h=>by omega,fun l h=>by omega⟩
  |succ N ih=>
   have one:∀s:Sm,s.sz<N+1→∀m up n,(irS s m up n).2.2=n+jq s∧(irS s m up n).2.1=opS s.op s.name m n:=by
    intro s hs m up n
    obtain⟨o,nme,a,bd,el⟩:=s
    rw[Sm.sz] at hs
    rw[irS,jq]
    simp only
    refine⟨?_,rfl⟩
    rw[ih.2 el (by omega),ih.2 bd (by omega)]
    split<;>omega
   refine⟨one,fun l hl m up n=>?_⟩
   induction l generalizing m n with
   |nil=>rfl
   |cons s r ihl=>
    rw[az] at hl
    rw[cU,cz]
    simp only
    rw[ihl (by omega),(one s (by omega) m up n).1]
    omega
 exact fun s=>(key (s.sz+1)).1 s (by omega)
theorem AT{l:List Sm}{i:Nat}(h:i<l.length):cz (l.drop i)=jq l[i]+cz (l.drop (i+1)):=by
 rw[List.drop_eq_getElem_cons h,cz]
def sBx(ch:List GS):List AO:=[.row 1 [[.ptr 1 1 0 0]],.row 1 [[upV ch]]]
theorem Aq(ch:List GS){n:Nat}(h:2+scL ch≤n):∀o∈sBx ch,okO n o:=by
 intro o ho
 simp only[sBx,List.mem_cons,List.not_mem_nil,or_false] at ho
 rcases ho with rfl|rfl
 ·intro e he;rw[List.mem_singleton.1 he];exact⟨by simp only[below];omega,trivial⟩
 ·intro e he;rw[List.mem_singleton.1 he];exact⟨cR ch h,trivial⟩
theorem od(gap:List AO)(m:Scp)(up:List GS):scL (⟨gap,m⟩::up)=scL up+gap.length+2:=rfl
def sF{b0:AO}(hb:okO 0 b0)(gap:List AO)(up:List GS)(hs:∀m,jK (⟨gap,m⟩::up)):Vis (Scp × Nat) where
 I:=fun st=>RH b0 st.2 (⟨gap,st.1⟩::up)++sBx (⟨gap,[]⟩::up)
 n:=2+(scL up+gap.length+2)+2
 F:=bk
 caps:=[.ptr (2+(scL up+gap.length+2)) 1 0 0,.ptr (2+(scL up+gap.length+2)+1) 1 0 0]
 len:=fun st=>by rw[List.length_append,iv b0];rfl
 ok:=fun st o ho=>by
  rcases List.mem_append.1 ho with h|h
  ·exact qi hb (hs _) (by rw[od];omega) o h
  ·exact Aq (⟨gap,[]⟩::up) (by rw[od];omega) o h
 capsOk:=by simp[below]
def vH{b0:AO}(hb:okO 0 b0)(n:Nat)(ch:List GS)(x:List PV)(hs:jK ch):Vis Unit where
 I:=fun _=>RH b0 n ch++(sBx ch++[.row 5 [x.map .p],.row 5 [[.p (.int .i64 0),.p (.str []),.nils,.nils,.nils]]])
 n:=2+scL ch+4
 F:=aZ
 caps:=[.ptr (2+scL ch) 1 0 0,.ptr (2+scL ch+1) 1 0 0]
 len:=fun _=>by rw[List.length_append,iv b0];rfl
 ok:=fun _ o ho=>by
  rcases List.mem_append.1 ho with h|h
  ·exact qi hb hs (by omega) o h
  ·rcases List.mem_append.1 h with h|h
   ·exact Aq ch (by omega) o h
   ·simp only[List.mem_cons,List.not_mem_nil,or_false] at h
    rcases h with rfl|rfl
    ·intro e he;rw[List.mem_singleton.1 he];exact aD (Nat.zero_le _) _ (by simp)
    ·intro e he;rw[List.mem_singleton.1 he];exact aD (Nat.zero_le _) _ (by simp)
 capsOk:=by simp[below]
variable (G:aF)
theorem Dv{b0:AO}(hb:okO 0 b0)(n:Nat)(gap:List AO)(m:Scp)(up:List GS)(hs:jK (⟨gap,m⟩::up))(hm:Sml (m::sco up))(x:List PV)(hx5:x.length=5)(a:List Ex)(hz:bC a≤1073741824):
 AC Tryz.prog G aA [.p (exL a),.fn (.func aZ) [.ptr (2+scL (⟨gap,m⟩::up)) 1 0 0,.ptr (2+scL (⟨gap,m⟩::up)+1) 1 0 0]] ((vH hb n (⟨gap,m⟩::up) x hs).I ()) fun y h=>y= .ret (.p (exL (jO (m::sco up) a)))∧h=(vH hb n (⟨gap,m⟩::up) x hs).I ():=by
 have hal:=aR a
 have hm2:=ti G (vH hb n (⟨gap,m⟩::up) x hs) (fun st x=>(irE (m::sco up) x,st)) (fun _ _=>True) a (by omega) (by show 0<2+scL (⟨gap,m⟩::up)+4;omega) (fun i st hi _=>⟨trivial,?_⟩) () trivial
 ·rw[oo] at hm2
  rw[rY]
  exact hm2
 have hks:=aL (List.getElem_mem hi)
 have hx:=DF G hb n (⟨gap,m⟩::up) hs hm a[i].sz a[i] (Nat.le_refl _) (by omega)
 rw[show sco (⟨gap,m⟩::up)=m::sco up from rfl] at hx
 generalize a[i]=e at hx
 have hxc:=e.cs_eq
 have hyc:=(irE (m::sco up) e).cs_eq
 have hup:upV (⟨gap,m⟩::up)= .ptr (2+scL up+gap.length+1) 2 0 0:=rfl
 generalize hch:(GS.mk gap m::up)=ch at*
 have hlen:=iv b0 n ch
 refine(vH hb n ch x hs).trim G (AC.go jj ?_) (by simp[below])
 have hI:(vH hb n ch x hs).I ()=RH b0 n ch++[.row 1 [[.ptr 1 1 0 0]],.row 1 [[.ptr (2+scL up+gap.length+1) 2 0 0]],.row 5 [x.map .p],.row 5 [[.p (.int .i64 0),.p (.str []),.nils,.nils,.nils]]]:=by
  simp only[vH,sBx,hup];rfl
 have hx2:=BS G hb hx hs rfl [.row 1 [[.ptr 1 1 0 0]],.row 1 [[.ptr (2+scL up+gap.length+1) 2 0 0]],.row 5 [x.map .p],.row 5 [[.p (.int .i64 0),.p (.str []),.nils,.nils,.nils]],.row 4 [[.p (.int .i64 e.op),.p (.int .i64 e.n),.p (.str e.name),.p (exL e.kids)]],.row 4 [[.p (.int .i64 0),.p (.int .i64 0),.p (.str []),.nils]]] ⟨by simp only[below];omega,by simp,cR ch (Nat.le_refl _),trivial⟩
 have hcaps:(vH hb n ch x hs).caps=[.ptr (2+scL ch) 1 0 0,.ptr (2+scL ch+1) 1 0 0]:=rfl
 rw[hxc,hup] at hx2
 rw[hcaps,hI]
 simp-implicitDefEqProofs[eg,hxc,hlen]
 refine hx2.mono ?_
 rintro r h ⟨rfl,rfl⟩
 rw[hyc]
 simp-implicitDefEqProofs[aa,hlen]
end Go.Proofs.YtiojgfhdcpppcaaGreatDoor
namespace Go.Proofs.YtiojgfhdcpppcaaGreatDoor
open Go Go.Aw
set_option maxRecDepth 100000
set_option maxHeartbeats 4000000
variable (G:aF)
theorem AS(o:Int)(s:List UInt8)(a:List Ex)(bd el:List Sm)(m:Scp)(up:List Scp)(n:Nat):
 (irS ⟨o,s,a,bd,el⟩ m up n).1=⟨o,if o=1 then vnm n else if o=2 then irN (m::up) s else s,jO (m::up) a,(cU bd [] (opS o s m n::up) (if o=1 then n+1 else n)).1,(cU el [] (opS o s m n::up) (cU bd [] (opS o s m n::up) (if o=1 then n+1 else n)).2.2).1⟩:=rfl
theorem wh:∀(l:List Sm) (m:Scp) (up:List Scp) (n:Nat),(cU l m up n).2.2=n+cz l
 |[],m,up,n=>rfl
 |s::r,m,up,n=>by
  rw[cU,cz]
  simp only
  rw[wh r,(xW s m up n).1]
  omega
def Eg(b0:AO)(l:List Sm):Prop:=∀(gap:List AO) (m:Scp) (up:List GS) (n:Nat),(∀m,jK (⟨gap,m⟩::up))→Sml (m::sco up)→n+cz l≤26→
 AC Tryz.prog G aO [.ptr 1 1 0 0,.p (smL l),.ptr (2+scL up+gap.length+1) 2 0 0] (RH b0 n (⟨gap,m⟩::up)) fun x h=>x= .ret (.p (smL (cU l m (sco up) n).1))∧h=RH b0 (cU l m (sco up) n).2.2 (⟨gap,(cU l m (sco up) n).2.1⟩::up)
theorem FG{b0:AO}(hb:okO 0 b0){o:Int}{nme:List UInt8}{a:List Ex}{bd el:List Sm}(hz:bC a≤1073741824)(ib:Eg G b0 bd)(ie:Eg G b0 el)(gap:List AO)(m:Scp)(up:List GS)(n:Nat)(hs:∀m,jK (⟨gap,m⟩::up))(hm:Sml (m::sco up))(hc:n+jq ⟨o,nme,a,bd,el⟩≤26):
 AC Tryz.prog G bk (.agg ((Sm.mk o nme a bd el).cs.map .p)::(sF hb gap up hs).caps) ((sF hb gap up hs).I (m,n)) fun x h=>x= .ret (.agg ((irG (sco up) (m,n) ⟨o,nme,a,bd,el⟩).1.cs.map .p))∧h=(sF hb gap up hs).I (irG (sco up) (m,n) ⟨o,nme,a,bd,el⟩).2:=by
 refine(sF hb gap up hs).trim G (AC.goK jS jV ?_) (by simp[below])
 have hse:(Sm.mk o nme a bd el).cs=[.int .i64 o,.str nme,exL a,smL bd,smL el]:=Sm.cs_eq _
 have hcaps:(sF hb gap up hs).caps=[.ptr (2+(scL up+gap.length+2)) 1 0 0,.ptr (2+(scL up+gap.length+2)+1) 1 0 0]:=rfl
 have hI:∀n m,(sF hb gap up hs).I (m,n)=RH b0 n (⟨gap,m⟩::up)++[.row 1 [[.ptr 1 1 0 0]],.row 1 [[.ptr (2+scL up+gap.length+1) 2 0 0]]]:=fun _ _=>rfl
 have hA:=Dv G hb n gap m up (hs m) hm [.int .i64 o,.str nme,exL a,smL bd,smL el] rfl a hz
 have hIA:(vH hb n (⟨gap,m⟩::up) [.int .i64 o,.str nme,exL a,smL bd,smL el] (hs m)).I ()=RH b0 n (⟨gap,m⟩::up)++[.row 1 [[.ptr 1 1 0 0]],.row 1 [[.ptr (2+scL up+gap.length+1) 2 0 0]],.row 5 [[.p (.int .i64 o),.p (.str nme),.p (exL a),.p (smL bd),.p (smL el)]],.row 5 [[.p (.int .i64 0),.p (.str []),.nils,.nils,.nils]]]:=rfl
 rw[hIA,od] at hA
 have hlen:∀n m,(RH b0 n (⟨gap,m⟩::up)).length=2+(scL up+gap.length+2):=fun n m=>by rw[iv b0];rfl
 have hgS:(irG (sco up) (m,n) ⟨o,nme,a,bd,el⟩).2=(opS o nme m n,(cU el [] (opS o nme m n::sco up) (cU bd [] (opS o nme m n::sco up) (if o=1 then n+1 else n)).2.2).2.2):=rfl
 have hg1:(irG (sco up) (m,n) ⟨o,nme,a,bd,el⟩).1.cs=[.int .i64 o,.str (if o=1 then vnm n else if o=2 then irN (m::sco up) nme else nme),exL (jO (m::sco up) a),smL (cU bd [] (opS o nme m n::sco up) (if o=1 then n+1 else n)).1,smL (cU el [] (opS o nme m n::sco up) (cU bd [] (opS o nme m n::sco up) (if o=1 then n+1 else n)).2.2).1]:=by
  show(irS ⟨o,nme,a,bd,el⟩ m (sco up) n).1.cs=_
  rw[AS,Sm.cs_eq];rfl
 rw[hgS,hg1,hcaps,hI,hI,hse]
 have hfind:=fun rest=>yv G b0 n (⟨gap,m⟩::up) rest nme
 have hbind:=fun(hn:n<26) rest=>Bq G b0 gap m up nme n hn rest
 have hup:∀m,upV (⟨gap,m⟩::up)= .ptr (2+scL up+gap.length+1) 2 0 0:=fun _=>rfl
 simp only[hup] at hfind hbind
 have hblk:∀(l':List Sm) (hl:Eg G b0 l') (n2:Nat) (m2:Scp) (gap2:List AO),Sml (m2::sco up)→n2+cz l'≤26→(∀o∈gap2,okO (2+(scL up+gap.length+2)+gap2.length) o)→
  AC Tryz.prog G aO [.ptr 1 1 0 0,.p (smL l'),.ptr (2+(scL up+gap.length+2)+gap2.length+1) 2 0 0] (RH b0 n2 (⟨gap,m2⟩::up)++(gap2++[.mp [],.row 2 [[.mp (2+(scL up+gap.length+2)+gap2.length),.ptr (2+scL up+gap.length+1) 2 0 0]]]))
   fun x h=>x= .ret (.p (smL (cU l' [] (m2::sco up) n2).1))∧∃m',h=RH b0 (cU l' [] (m2::sco up) n2).2.2 (⟨gap,m2⟩::up)++(gap2++[.mp (mpE m'),.row 2 [[.mp (2+(scL up+gap.length+2)+gap2.length),.ptr (2+scL up+gap.length+1) 2 0 0]]]):=by
  intro l' hl n2 m2 gap2 h1 h2 h3
  have e2:∀n m',RH b0 n (⟨gap2,m'⟩::⟨gap,m2⟩::up)=RH b0 n (⟨gap,m2⟩::up)++(gap2++[.mp (mpE m'),.row 2 [[.mp (2+(scL up+gap.length+2)+gap2.length),.ptr (2+scL up+gap.length+1) 2 0 0]]]):=by
   intro n m'
   simp[RH,scH,upV,scL]
  have:=hl gap2 [] (⟨gap,m2⟩::up) n2 (fun _=>⟨h3,hs m2⟩) h1.open h2
  rw[e2] at this
  refine this.mono ?_
  rintro x h ⟨hx,hh⟩
  exact⟨hx,(cU l' [] (sco (⟨gap,m2⟩::up)) n2).2.1,by rw[hh,e2];rfl⟩
 have hmO:Sml (opS o nme m n::sco up):=hm.opS o nme (fun h1=>by rw[jq,if_pos h1] at hc;omega)
 have hcb:(if o=1 then n+1 else n)+cz bd+cz el≤26:=by
  rw[jq] at hc
  split<;>rename_i h1
  ·rw[if_pos h1] at hc;omega
  ·rw[if_neg h1] at hc;omega
 have hn26:o=1→n<26:=fun h1=>by rw[jq,if_pos h1] at hc;omega
 generalize hK:2+scL up+gap.length=K at*
 have hKL:2+(scL up+gap.length+2)=K+2:=by omega
 rw[hKL] at hA hlen hblk⊢
 simp-implicitDefEqProofs[K_impl_renamer_block_1,F_impl_renamer_block_1,hlen]
 refine hA.mono ?_
 rintro r h ⟨rfl,rfl⟩
 simp-implicitDefEqProofs[aa,hlen]
 generalize hmO':opS o nme m n=m2 at hmO hfind⊢
 have hsame:∀(nm:List UInt8) (n2:Nat) (r1:List (Nat × AV)),Aw.look r1 1= .ptr (K+2) 1 0 0→Aw.look r1 2= .ptr (K+2+1) 1 0 0→Aw.look r1 3= .ptr (K+2+2) 5 0 0→Aw.look r1 4= .ptr (K+2+3) 5 0 0→
  Wk (K+2+2) (aj 50 r1) (RH b0 n2 (⟨gap,m2⟩::up)++[.row 1 [[.ptr 1 1 0 0]],.row 1 [[.ptr (K+1) 2 0 0]],.row 5 [[.p (.int .i64 o),.p (.str nm),.p (exL (jO (m::sco up) a)),.p (smL bd),.p (smL el)]],.row 5 [[.p (.int .i64 0),.p (.str []),.nils,.nils,.nils]]])
   (aj 50 [(1,.ptr (K+2) 1 0 0),(2,.ptr (K+2+1) 1 0 0),(3,.ptr (K+2+2) 5 0 0),(4,.ptr (K+2+3) 5 0 0)]) (RH b0 n2 (⟨gap,m2⟩::up)++[.row 1 [[.ptr 1 1 0 0]],.row 1 [[.ptr (K+1) 2 0 0]],.row 5 [[.p (.int .i64 o),.p (.str nm),.p (exL (jO (m::sco up) a)),.p (smL bd),.p (smL el)]],.row 5 [[.p (.int .i64 0),.p (.str []),.nils,.nils,.nils]]]):=by
  intro nm n2 r1 e1 e2 e3 e4
  refine lU (r:=[_,_,_,_]) (s:=[]) (hlen n2 m2) (Nat.add_le_add_left (by simp) _) (qi hb (hs m2) (by rw[od];omega)) ?_ (by simp[below,e1,e2,e3,e4])
  refine ae (by intro x hx;rw[List.mem_singleton.1 hx];exact⟨by simp only[below];omega,trivial⟩) (ae (by intro x hx;rw[List.mem_singleton.1 hx];exact⟨by simp only[below];omega,trivial⟩) (ae (cg (by simp[okO])) (ae (cg (by simp[okO])) dr)))
 refine jQ (aj 50 [(1,.ptr (K+2) 1 0 0),(2,.ptr (K+2+1) 1 0 0),(3,.ptr (K+2+2) 5 0 0),(4,.ptr (K+2+3) 5 0 0)]) (RH b0 (if o=1 then n+1 else n) (⟨gap,m2⟩::up)++[.row 1 [[.ptr 1 1 0 0]],.row 1 [[.ptr (K+1) 2 0 0]],.row 5 [[.p (.int .i64 o),.p (.str (if o=1 then vnm n else if o=2 then irN (m::sco up) nme else nme)),.p (exL (jO (m::sco up) a)),.p (smL bd),.p (smL el)]],.row 5 [[.p (.int .i64 0),.p (.str []),.nils,.nils,.nils]]]) ?_ ?_
 ·by_cases o1:o=1
  ·subst o1
   have e:m2=dI m nme n:=by rw[←hmO'];exact if_pos rfl
   subst e
   simp-implicitDefEqProofs[hlen]
   refine(hbind (hn26 rfl) _).mono ?_
   rintro r h ⟨rfl,rfl⟩
   simp-implicitDefEqProofs[aa,hlen]
   exact hsame _ _ _ (by simp) (by simp) (by simp) (by simp)
  have e:m2=m:=by rw[←hmO'];exact if_neg o1
  subst e
  by_cases o2:o=2
  ·subst o2
   have hD:=hm.getD nme
   have hirn:irN (m2::sco up) nme=vnm ((dA (m2::sco up) nme).getD 0):=rfl
   rw[hirn]
   simp-implicitDefEqProofs[hlen]
   refine(hfind _).mono ?_
   rintro r h ⟨rfl,rfl⟩
   simp-implicitDefEqProofs[aa,hlen]
   refine(tP G _ hD _ _).mono ?_
   rintro r h ⟨rfl,rfl⟩
   simp-implicitDefEqProofs[aa,hlen]
   exact hsame _ _ _ (by simp) (by simp) (by simp) (by simp)
  ·simp-implicitDefEqProofs[o1,o2,hlen]
   exact hsame _ _ _ (by simp) (by simp) (by simp) (by simp)
 generalize (if o=1 then vnm n else if o=2 then irN (m::sco up) nme else nme)=nm at*
 generalize (if o=1 then n+1 else n)=n2 at*
 have hb2:=wh bd [] (m2::sco up) n2
 simp-implicitDefEqProofs[hlen]
 refine(kZ G (.ptr (K+1) 2 0 0) (.inr ⟨_,rfl⟩) _).mono ?_
 rintro r h ⟨rfl,rfl⟩
 simp-implicitDefEqProofs[aa,hlen]
 have okg:∀(b' e':AV),below 0 b'→below 0 e'→∀x∈[AO.row 1 [[.ptr 1 1 0 0]],.row 1 [[.ptr (K+1) 2 0 0]],.row 5 [[.p (.int .i64 o),.p (.str nm),.p (exL (jO (m::sco up) a)),b',e']],.row 5 [[.p (.int .i64 0),.p (.str []),.nils,.nils,.nils]]],okO (K+2) x:=by
  intro b' e' hb' he'
  refine ae (by intro x hx;rw[List.mem_singleton.1 hx];exact⟨by simp only[below];omega,trivial⟩) (ae (by intro x hx;rw[List.mem_singleton.1 hx];exact⟨by simp only[below];omega,trivial⟩) (ae (cg ?_) (ae (cg (by simp[okO])) dr)))
  intro x hx;rw[List.mem_singleton.1 hx];exact⟨by simp,by simp,by simp,hb',he',trivial⟩
 refine(hblk bd ib n2 m2 [.row 1 [[.ptr 1 1 0 0]],.row 1 [[.ptr (K+1) 2 0 0]],.row 5 [[.p (.int .i64 o),.p (.str nm),.p (exL (jO (m::sco up) a)),.p (smL bd),.p (smL el)]],.row 5 [[.p (.int .i64 0),.p (.str []),.nils,.nils,.nils]]] hmO (by omega) (fun x hx=>jN (by omega) (okg _ _ (by simp) (by simp) x hx))).mono ?_
 rintro r h ⟨rfl,m3,rfl⟩
 simp-implicitDefEqProofs[aa,hlen]
 refine(kZ G (.ptr (K+1) 2 0 0) (.inr ⟨_,rfl⟩) _).mono ?_
 rintro r h ⟨rfl,rfl⟩
 simp-implicitDefEqProofs[aa,hlen]
 refine(hblk el ie _ m2 [.row 1 [[.ptr 1 1 0 0]],.row 1 [[.ptr (K+1) 2 0 0]],.row 5 [[.p (.int .i64 o),.p (.str nm),.p (exL (jO (m::sco up) a)),.p (smL (cU bd [] (m2::sco up) n2).1),.p (smL el)]],.row 5 [[.p (.int .i64 0),.p (.str []),.nils,.nils,.nils]],.mp (mpE m3),.row 2 [[.mp (K+2+4),.ptr (K+1) 2 0 0]]] hmO (by omega) ?_).mono ?_
 ·intro x hx
  rcases List.mem_append.1 (show x∈[AO.row 1 [[.ptr 1 1 0 0]],.row 1 [[.ptr (K+1) 2 0 0]],.row 5 [[.p (.int .i64 o),.p (.str nm),.p (exL (jO (m::sco up) a)),.p (smL (cU bd [] (m2::sco up) n2).1),.p (smL el)]],.row 5 [[.p (.int .i64 0),.p (.str []),.nils,.nils,.nils]]]++[.mp (mpE m3),.row 2 [[.mp (K+2+4),.ptr (K+1) 2 0 0]]] from hx) with h|h
  ·exact jN (by omega) (okg _ _ (by simp) (by simp) x h)
  ·simp only[List.mem_cons,List.not_mem_nil,or_false] at h
   rcases h with rfl|rfl
   ·exact qP _ _
   ·intro e he;rw[List.mem_singleton.1 he]
    exact⟨by simp only[below];simp,by simp only[below];omega,trivial⟩
 rintro r h ⟨rfl,m4,rfl⟩
 simp-implicitDefEqProofs[aa,hlen]
theorem Bp{b0:AO}(hb:okO 0 b0):∀(N:Nat) (l:List Sm),az l<N→az l≤1073741824→Eg G b0 l:=by
 intro N
 induction N with
 |zero=>intro l h;omega
 |succ N ih=>
  intro l hl hz gap m up n hs hm hc
  have hll:=aV l
  have hup:upV (⟨gap,m⟩::up)= .ptr (2+scL up+gap.length+1) 2 0 0:=rfl
  have hlen:∀n m,(RH b0 n (⟨gap,m⟩::up)).length=2+(scL up+gap.length+2):=fun n m=>by rw[iv b0];rfl
  have hM:=ze G (sF hb gap up hs) (irG (sco up)) (fun i st=>Sml (st.1::sco up)∧st.2+cz (l.drop i)≤26) l (by omega) (by show 0<2+(scL up+gap.length+2)+2;omega) (fun i st hi hv=>?_) (m,n) ⟨hm,by simpa using hc⟩
  ·rw[xY] at hM
   refine xX G (AC.go lI ?_) (by rw[hlen,hlen]) (by rw[hlen];exact qi hb (hs _) (by rw[od];omega)) (by simp[below])
   have hcaps:(sF hb gap up hs).caps=[.ptr (2+(scL up+gap.length+2)) 1 0 0,.ptr (2+(scL up+gap.length+2)+1) 1 0 0]:=rfl
   have hF:(sF hb gap up hs).F=bk:=rfl
   have hI:∀n m,(sF hb gap up hs).I (m,n)=RH b0 n (⟨gap,m⟩::up)++[.row 1 [[.ptr 1 1 0 0]],.row 1 [[.ptr (2+scL up+gap.length+1) 2 0 0]]]:=fun _ _=>rfl
   rw[hcaps,hF,hI,hI] at hM
   simp-implicitDefEqProofs[gf,hlen]
   refine hM.mono ?_
   rintro r h ⟨rfl,rfl⟩
   simp-implicitDefEqProofs[aa,hlen]
  ·obtain⟨h1,h2⟩:=hv
   have hat:=AT hi
   have hks:=aP (List.getElem_mem hi)
   obtain⟨mi,ni⟩:=st
   simp only at h1 h2
   generalize l[i]=s at hat hks
   have hcs:=xW s mi (sco up) ni
   obtain⟨o,nme,a,bd,el⟩:=s
   rw[Sm.sz] at hks
   refine⟨⟨?_,?_⟩,?_⟩
   ·show Sml ((irS _ mi (sco up) ni).2.1::sco up)
    rw[hcs.2]
    exact h1.opS _ _ (fun ho=>by
     have ho':o=1:=ho
     rw[jq,if_pos ho'] at hat;omega)
   ·show(irS _ mi (sco up) ni).2.2+_≤26
    rw[hcs.1];omega
   ·exact FG G hb (by omega) (ih bd (by omega) (by omega)) (ih el (by omega) (by omega)) gap mi up ni hs h1 (by omega)
end Go.Proofs.YtiojgfhdcpppcaaGreatDoor
namespace Go.Proofs.YtiojgfhdcpppcaaGreatDoor
open Go Go.Aw
set_option maxRecDepth 100000
set_option maxHeartbeats 4000000
noncomputable def eqX {α:Type} (a b:α):Bool:= @decide (a=b) (Classical.propDecidable _)
theorem cK{α:Type}{a b:α}(h:a=b):eqX a b=true:=by unfold eqX;exact @decide_eq_true _ (Classical.propDecidable _) h
theorem aN{α:Type}{a b:α}(h:¬a=b):eqX a b=false:=by unfold eqX;exact @decide_eq_false _ (Classical.propDecidable _) h
theorem Af{α:Type}(a b:α):eqX a b=eqX b a:=by
 by_cases h:a=b
 ·rw[cK h,cK h.symm]
 ·rw[aN h,aN fun e=>h e.symm]
theorem Ex.ext'{a b:Ex}(h1:a.op=b.op)(h2:a.n=b.n)(h3:a.name=b.name)(h4:a.kids=b.kids):a=b:=by
 cases a;cases b;simp only[Ex.op,Ex.n,Ex.name,Ex.kids] at*;subst h1 h2 h3 h4;rfl
theorem Sm.ext'{a b:Sm}(h1:a.op=b.op)(h2:a.name=b.name)(h3:a.args=b.args)(h4:a.body=b.body)(h5:a.els=b.els):a=b:=by
 cases a;cases b;simp only[Sm.op,Sm.name,Sm.args,Sm.body,Sm.els] at*;subst h1 h2 h3 h4 h5;rfl
theorem bZ{α:Type}{a b:List α}{i:Nat}(h:a.take i=b.take i)(ha:i<a.length)(hb:i<b.length)(e:a[i]=b[i]):a.take (i+1)=b.take (i+1):=by
 rw[ah ha,ah hb,h,e]
theorem cZ{α:Type}{a b:List α}(h:a.take a.length=b.take a.length)(hl:a.length=b.length):a=b:=by
 rw[List.take_length] at h
 rw[h,hl,List.take_length]
theorem oO{α:Type}{a b:List α}{i:Nat}(ha:i<a.length)(hb:i<b.length)(e:¬a[i]=b[i]):¬a=b:=fun h=>by
 subst h;exact e rfl
variable (G:aF)
theorem Aa(a b:List (List UInt8))(ha:a.length≤1099511627776)(hb:b.length≤1099511627776):VF Tryz.prog G il [.p (ay a),.p (ay b)] (.p (.bool (eqX a b))):=by
 refine AC.go sh ?_
 have hsl:∀l,ay l= .lst 1 (l.map fun w=>[.str w]):=fun _=>rfl
 by_cases hl:a.length=b.length
 case neg=>
  have hl':¬(a.length:Int)=b.length:=by omega
  rw[aN fun e=>hl (by rw[e])]
  simp-implicitDefEqProofs[iH,hsl,hl']
 simp-implicitDefEqProofs[iH,hsl,hl]
 refine aH (fun i:Nat=>aj 26 [(0,.p (ay a)),(1,.p (ay b)),(5,.p (.int .i64 i))]) (fun _=>[]) (fun i=>i≤a.length∧a.take i=b.take i) (fun i=>a.length-i) 0 (by simp) (aw rfl (by simp[below,hsl])) ?_
 rintro i ⟨hi,he⟩
 simp-implicitDefEqProofs[hsl,hl]
 refine bg (fun h=>?_) (fun h=>?_)
 ·simp at h
  have h2:i<a.length:=by omega
  have g1:=List.getElem?_eq_getElem h2
  have g2:=List.getElem?_eq_getElem h
  have nx:=bZ he h2 h
  have nn:=oO h2 h
  generalize a[i]=x at g1 nx nn
  generalize b[i]=y at g2 nx nn
  by_cases e:x=y
  ·simp-implicitDefEqProofs[g1,g2,e]
   exact⟨i+1,⟨by omega,nx e⟩,by omega,aw rfl (by simp[below,hsl,w1 (i:=i) (by omega)])⟩
  ·rw[aN (nn e)]
   simp-implicitDefEqProofs[g1,g2,e]
 ·simp at h
  have hie:i=a.length:=by omega
  subst hie
  rw[cK (cZ he hl)]
  simp-implicitDefEqProofs[]
theorem BT(a b:List (List UInt8))(ha:a.length≤1099511627776)(hb:b.length≤1099511627776):VF Tryz.prog G dm [.p (ay a),.p (ay b)] (.p (.bool (eqX a b))):=by
 refine AC.go kD ?_
 have hsl:∀l,ay l= .lst 1 (l.map fun w=>[.str w]):=fun _=>rfl
 by_cases hl:a.length=b.length
 case neg=>
  have hl':¬(a.length:Int)=b.length:=by omega
  rw[aN fun e=>hl (by rw[e])]
  simp-implicitDefEqProofs[dj,hsl,hl']
 simp-implicitDefEqProofs[dj,hsl,hl]
 refine aH (fun i:Nat=>aj 26 [(0,.p (ay a)),(1,.p (ay b)),(12,.p (.int .i64 b.length)),(13,.p (.int .i64 i))]) (fun _=>[]) (fun i=>i≤a.length∧a.take i=b.take i) (fun i=>a.length-i) 0 (by simp) (aw rfl (by simp[below,hsl])) ?_
 rintro i ⟨hi,he⟩
 simp-implicitDefEqProofs[hsl]
 refine bg (fun h=>?_) (fun h=>?_)
 ·simp at h
  have h2:i<a.length:=by omega
  have g1:=List.getElem?_eq_getElem h2
  have g2:=List.getElem?_eq_getElem h
  have nx:=bZ he h2 h
  have nn:=oO h2 h
  generalize a[i]=x at g1 nx nn
  generalize b[i]=y at g2 nx nn
  by_cases e:x=y
  ·simp-implicitDefEqProofs[g1,g2,e]
   exact⟨i+1,⟨by omega,nx e⟩,by omega,aw rfl (by simp[below,hsl,w1 (i:=i) (by omega)])⟩
  ·rw[aN (nn e)]
   simp-implicitDefEqProofs[g1,g2,e]
 ·simp at h
  have hie:i=a.length:=by omega
  subst hie
  rw[cK (cZ he hl)]
  simp-implicitDefEqProofs[]
theorem nh(F:FuncId)(a b:List Ex)(ha:a.length≤1099511627776)(hb:b.length≤1099511627776)(H:∀x∈a,∀y∈b,VF Tryz.prog G F [.agg (x.cs.map .p),.agg (y.cs.map .p)] (.p (.bool (eqX x y)))):VF Tryz.prog G aQ [.p (exL a),.p (exL b),.fn (.func F) []] (.p (.bool (eqX a b))):=by
 refine AC.go gC ?_
 have hsl:∀l,exL l= .lst 4 (l.map Ex.cs):=fun _=>rfl
 by_cases hl:a.length=b.length
 case neg=>
  have hl':¬(a.length:Int)=b.length:=by omega
  rw[aN fun e=>hl (by rw[e])]
  simp-implicitDefEqProofs[bM,hsl,hl']
 simp-implicitDefEqProofs[bM,hsl,hl]
 refine aH (fun i:Nat=>aj 32 [(0,.p (exL a)),(1,.p (exL b)),(2,.fn (.func F) []),(15,.p (exL a)),(16,.p (.int .i64 b.length)),(17,.p (.int .i64 i))]) (fun _=>[]) (fun i=>i≤a.length∧a.take i=b.take i) (fun i=>a.length-i) 0 (by simp) (aw rfl (by simp[below,ag,hsl])) ?_
 rintro i ⟨hi,he⟩
 simp-implicitDefEqProofs[hsl]
 refine bg (fun h=>?_) (fun h=>?_)
 ·simp at h
  have h2:i<a.length:=by omega
  have g1:=List.getElem?_eq_getElem h2
  have g2:=List.getElem?_eq_getElem h
  have nx:=bZ he h2 h
  have nn:=oO h2 h
  have hh:=H _ (List.getElem_mem h2) _ (List.getElem_mem h)
  generalize a[i]=x at g1 nx nn hh
  generalize b[i]=y at g2 nx nn hh
  have c1:=x.cs_eq
  have c2:=y.cs_eq
  rw[c1,c2] at hh
  simp-implicitDefEqProofs[g1,g2,c1,c2]
  refine hh.use ?_
  by_cases e:x=y
  ·rw[cK e]
   simp-implicitDefEqProofs[]
   exact⟨i+1,⟨by omega,nx e⟩,by omega,aw rfl (by simp[below,ag,hsl,w1 (i:=i) (by omega)])⟩
  ·rw[aN e,aN (nn e)]
   simp-implicitDefEqProofs[]
 ·simp at h
  have hie:i=a.length:=by omega
  subst hie
  rw[cK (cZ he hl)]
  simp-implicitDefEqProofs[]
theorem nc(F:FuncId)(a b:List Sm)(ha:a.length≤1099511627776)(hb:b.length≤1099511627776)(H:∀x∈a,∀y∈b,VF Tryz.prog G F [.agg (x.cs.map .p),.agg (y.cs.map .p)] (.p (.bool (eqX x y)))):VF Tryz.prog G aJ [.p (smL a),.p (smL b),.fn (.func F) []] (.p (.bool (eqX a b))):=by
 refine AC.go gu ?_
 have hsl:∀l,smL l= .lst 5 (l.map Sm.cs):=fun _=>rfl
 by_cases hl:a.length=b.length
 case neg=>
  have hl':¬(a.length:Int)=b.length:=by omega
  rw[aN fun e=>hl (by rw[e])]
  simp-implicitDefEqProofs[bL,hsl,hl']
 simp-implicitDefEqProofs[bL,hsl,hl]
 refine aH (fun i:Nat=>aj 32 [(0,.p (smL a)),(1,.p (smL b)),(2,.fn (.func F) []),(15,.p (smL a)),(16,.p (.int .i64 b.length)),(17,.p (.int .i64 i))]) (fun _=>[]) (fun i=>i≤a.length∧a.take i=b.take i) (fun i=>a.length-i) 0 (by simp) (aw rfl (by simp[below,ag,hsl])) ?_
 rintro i ⟨hi,he⟩
 simp-implicitDefEqProofs[hsl]
 refine bg (fun h=>?_) (fun h=>?_)
 ·simp at h
  have h2:i<a.length:=by omega
  have g1:=List.getElem?_eq_getElem h2
  have g2:=List.getElem?_eq_getElem h
  have nx:=bZ he h2 h
  have nn:=oO h2 h
  have hh:=H _ (List.getElem_mem h2) _ (List.getElem_mem h)
  generalize a[i]=x at g1 nx nn hh
  generalize b[i]=y at g2 nx nn hh
  have c1:=x.cs_eq
  have c2:=y.cs_eq
  rw[c1,c2] at hh
  simp-implicitDefEqProofs[g1,g2,c1,c2]
  refine hh.use ?_
  by_cases e:x=y
  ·rw[cK e]
   simp-implicitDefEqProofs[]
   exact⟨i+1,⟨by omega,nx e⟩,by omega,aw rfl (by simp[below,ag,hsl,w1 (i:=i) (by omega)])⟩
  ·rw[aN e,aN (nn e)]
   simp-implicitDefEqProofs[]
 ·simp at h
  have hie:i=a.length:=by omega
  subst hie
  rw[cK (cZ he hl)]
  simp-implicitDefEqProofs[]
theorem vT(F:FuncId)(a b:List Fd)(ha:a.length≤1099511627776)(hb:b.length≤1099511627776)(H:∀x∈a,∀y∈b,VF Tryz.prog G F [.agg (x.cs.map .p),.agg (y.cs.map .p)] (.p (.bool (eqX x y)))):VF Tryz.prog G ct [.p (fdL a),.p (fdL b),.fn (.func F) []] (.p (.bool (eqX a b))):=by
 refine AC.go ik ?_
 have hsl:∀l,fdL l= .lst 3 (l.map Fd.cs):=fun _=>rfl
 by_cases hl:a.length=b.length
 case neg=>
  have hl':¬(a.length:Int)=b.length:=by omega
  rw[aN fun e=>hl (by rw[e])]
  simp-implicitDefEqProofs[ck,hsl,hl']
 simp-implicitDefEqProofs[ck,hsl,hl]
 refine aH (fun i:Nat=>aj 32 [(0,.p (fdL a)),(1,.p (fdL b)),(2,.fn (.func F) []),(15,.p (fdL a)),(16,.p (.int .i64 b.length)),(17,.p (.int .i64 i))]) (fun _=>[]) (fun i=>i≤a.length∧a.take i=b.take i) (fun i=>a.length-i) 0 (by simp) (aw rfl (by simp[below,ag,hsl])) ?_
 rintro i ⟨hi,he⟩
 simp-implicitDefEqProofs[hsl]
 refine bg (fun h=>?_) (fun h=>?_)
 ·simp at h
  have h2:i<a.length:=by omega
  have g1:=List.getElem?_eq_getElem h2
  have g2:=List.getElem?_eq_getElem h
  have nx:=bZ he h2 h
  have nn:=oO h2 h
  have hh:=H _ (List.getElem_mem h2) _ (List.getElem_mem h)
  generalize a[i]=x at g1 nx nn hh
  generalize b[i]=y at g2 nx nn hh
  have c1:=x.cs_eq'
  have c2:=y.cs_eq'
  rw[c1,c2] at hh
  simp-implicitDefEqProofs[g1,g2,c1,c2]
  refine hh.use ?_
  by_cases e:x=y
  ·rw[cK e]
   simp-implicitDefEqProofs[]
   exact⟨i+1,⟨by omega,nx e⟩,by omega,aw rfl (by simp[below,ag,hsl,w1 (i:=i) (by omega)])⟩
  ·rw[aN e,aN (nn e)]
   simp-implicitDefEqProofs[]
 ·simp at h
  have hie:i=a.length:=by omega
  subst hie
  rw[cK (cZ he hl)]
  simp-implicitDefEqProofs[]
theorem xh:∀(N:Nat) (a:Ex),a.sz≤N→a.sz≤1073741824→∀b:Ex,b.sz≤1073741824→VF Tryz.prog G bP [.agg (a.cs.map .p),.agg (b.cs.map .p)] (.p (.bool (eqX a b))):=by
 intro N
 induction N with
 |zero=>intro e he;have:=e.sz_eq;omega
 |succ N ih=>
  intro a ha hz b hb
  have c1:=a.cs_eq
  have c2:=b.cs_eq
  have z1:=a.sz_eq
  have z2:=b.sz_eq
  have l1:=aR a.kids
  have l2:=aR b.kids
  refine AC.go qD ?_
  by_cases h1:a.op=b.op
  case neg=>
   rw[aN fun e=>h1 (by rw[e])]
   simp-implicitDefEqProofs[db,c1,c2,h1]
  by_cases h2:a.n=b.n
  case neg=>
   rw[aN fun e=>h2 (by rw[e])]
   simp-implicitDefEqProofs[db,c1,c2,h1,h2]
  by_cases h3:a.name=b.name
  case neg=>
   rw[aN fun e=>h3 (by rw[e])]
   simp-implicitDefEqProofs[db,c1,c2,h1,h2,h3]
  have hE:eqX a b=eqX a.kids b.kids:=by
   by_cases h4:a.kids=b.kids
   ·rw[cK h4,cK (Ex.ext' h1 h2 h3 h4)]
   ·rw[aN h4,aN fun e=>h4 (by rw[e])]
  rw[hE]
  simp-implicitDefEqProofs[db,c1,c2,h1,h2,h3]
  refine(nh G bP a.kids b.kids (by omega) (by omega) fun x hx y hy=>?_).use ?_
  ·have:=aL hx
   have:=aL hy
   exact ih x (by omega) (by omega) y (by omega)
  simp-implicitDefEqProofs[]
theorem uQ(a b:List Ex)(ha:bC a≤1073741824)(hb:bC b≤1073741824):VF Tryz.prog G aQ [.p (exL a),.p (exL b),.fn (.func bP) []] (.p (.bool (eqX a b))):=by
 have:=aR a
 have:=aR b
 exact nh G bP a b (by omega) (by omega) fun x hx y hy=>xh G x.sz x (Nat.le_refl _) (by have:=aL hx;omega) y (by have:=aL hy;omega)
theorem wW:∀(N:Nat) (a:Sm),a.sz≤N→a.sz≤1073741824→∀b:Sm,b.sz≤1073741824→VF Tryz.prog G bn [.agg (a.cs.map .p),.agg (b.cs.map .p)] (.p (.bool (eqX a b))):=by
 intro N
 induction N with
 |zero=>intro e he;have:=e.sz_eq;omega
 |succ N ih=>
  intro a ha hz b hb
  have c1:=a.cs_eq
  have c2:=b.cs_eq
  have z1:=a.sz_eq
  have z2:=b.sz_eq
  have sub:∀x y:List Sm,az x≤N→az x≤1073741824→az y≤1073741824→VF Tryz.prog G aJ [.p (smL x),.p (smL y),.fn (.func bn) []] (.p (.bool (eqX x y))):=fun x y h1 h2 h3=>
   nc G bn x y (by have:=aV x;omega) (by have:=aV y;omega) fun u hu v hv=>ih u (by have:=aP hu;omega) (by have:=aP hu;omega) v (by have:=aP hv;omega)
  refine AC.go qB ?_
  by_cases h1:a.op=b.op
  case neg=>
   rw[aN fun e=>h1 (by rw[e])]
   simp-implicitDefEqProofs[ey,c1,c2,h1]
  by_cases h2:a.name=b.name
  case neg=>
   rw[aN fun e=>h2 (by rw[e])]
   simp-implicitDefEqProofs[ey,c1,c2,h1,h2]
  simp-implicitDefEqProofs[ey,c1,c2,h1,h2]
  refine(uQ G a.args b.args (by omega) (by omega)).use ?_
  by_cases h3:a.args=b.args
  case neg=>
   rw[aN h3,aN fun e=>h3 (by rw[e])]
   simp-implicitDefEqProofs[]
  rw[cK h3]
  simp-implicitDefEqProofs[]
  refine(sub a.body b.body (by omega) (by omega) (by omega)).use ?_
  by_cases h4:a.body=b.body
  case neg=>
   rw[aN h4,aN fun e=>h4 (by rw[e])]
   simp-implicitDefEqProofs[]
  rw[cK h4]
  simp-implicitDefEqProofs[]
  refine(sub a.els b.els (by omega) (by omega) (by omega)).use ?_
  by_cases h5:a.els=b.els
  case neg=>
   rw[aN h5,aN fun e=>h5 (by rw[e])]
   simp-implicitDefEqProofs[]
  rw[cK h5,cK (Sm.ext' h1 h2 h3 h4 h5)]
  simp-implicitDefEqProofs[]
theorem pA(a b:Fd)(ha:a.sz≤1073741824)(hb:b.sz≤1073741824):VF Tryz.prog G cw [.agg (a.cs.map .p),.agg (b.cs.map .p)] (.p (.bool (eqX a b))):=by
 have c1:=a.cs_eq'
 have c2:=b.cs_eq'
 have z1:a.sz=1+a.name.length+(a.params.length+(a.params.map List.length).sum)+az a.body:=rfl
 have z2:b.sz=1+b.name.length+(b.params.length+(b.params.map List.length).sum)+az b.body:=rfl
 refine AC.go kF ?_
 by_cases h1:a.name=b.name
 case neg=>
  rw[aN fun e=>h1 (by rw[e])]
  simp-implicitDefEqProofs[dq,c1,c2,h1]
 simp-implicitDefEqProofs[dq,c1,c2,h1]
 refine(BT G a.params b.params (by omega) (by omega)).use ?_
 by_cases h2:a.params=b.params
 case neg=>
  rw[aN h2,aN fun e=>h2 (by rw[e])]
  simp-implicitDefEqProofs[]
 rw[cK h2]
 simp-implicitDefEqProofs[]
 refine(nc G bn a.body b.body (by have:=aV a.body;omega) (by have:=aV b.body;omega) fun u hu v hv=>wW G u.sz u (Nat.le_refl _) (by have:=aP hu;omega) v (by have:=aP hv;omega)).use ?_
 by_cases h3:a.body=b.body
 case neg=>
  rw[aN h3,aN fun e=>h3 (by rw[e])]
  simp-implicitDefEqProofs[]
 rw[cK h3,cK (by cases a;cases b;simp only at h1 h2 h3;subst h1 h2 h3;rfl)]
 simp-implicitDefEqProofs[]
theorem sa(a b:List Fd)(ha:bc a≤1073741824)(hb:bc b≤1073741824):VF Tryz.prog G dV [.agg [.p (fdL a)],.agg [.p (fdL b)]] (.p (.bool (eqX a b))):=by
 refine AC.go mC ?_
 simp-implicitDefEqProofs[gG]
 refine(vT G cw a b (by have:=bT a;omega) (by have:=bT b;omega) fun u hu v hv=>pA G u v (by have:=ce hu;omega) (by have:=ce hv;omega)).use ?_
 simp-implicitDefEqProofs[]
theorem xt:∀(N:Nat) (a:Ex),a.sz≤N→a.sz≤1073741824→∀b:Ex,b.sz≤1073741824→VF Tryz.prog G er [.agg (a.cs.map .p),.agg (b.cs.map .p)] (.p (.bool (eqX a b))):=by
 intro N
 induction N with
 |zero=>intro e he;have:=e.sz_eq;omega
 |succ N ih=>
  intro a ha hz b hb
  have c1:=a.cs_eq
  have c2:=b.cs_eq
  have z1:=a.sz_eq
  have z2:=b.sz_eq
  have l1:=aR a.kids
  have l2:=aR b.kids
  have hsl:∀l,exL l= .lst 4 (l.map Ex.cs):=fun _=>rfl
  refine AC.go qq ?_
  by_cases h1:a.op=b.op
  case neg=>
   rw[aN fun e=>h1 (by rw[e])]
   simp-implicitDefEqProofs[cC,c1,c2,h1]
  by_cases h2:a.n=b.n
  case neg=>
   rw[aN fun e=>h2 (by rw[e])]
   simp-implicitDefEqProofs[cC,c1,c2,h1,h2]
  by_cases h3:a.name=b.name
  case neg=>
   rw[aN fun e=>h3 (by rw[e])]
   simp-implicitDefEqProofs[cC,c1,c2,h1,h2,h3]
  by_cases hl:a.kids.length=b.kids.length
  case neg=>
   have hl':¬(a.kids.length:Int)=b.kids.length:=by omega
   rw[aN fun e=>hl (by rw[e])]
   simp-implicitDefEqProofs[cC,c1,c2,h1,h2,h3,hsl,hl']
  simp-implicitDefEqProofs[cC,c1,c2,h1,h2,h3,hsl,hl]
  refine aH (fun i:Nat=>aj 53 [(2,.ptr 0 4 0 0),(3,.ptr 1 4 0 0),(5,.p (.int .i64 i))]) (fun _=>[.row 4 [[.p (.int .i64 b.op),.p (.int .i64 b.n),.p (.str b.name),.p (.lst 4 (a.kids.map Ex.cs))]],.row 4 [[.p (.int .i64 b.op),.p (.int .i64 b.n),.p (.str b.name),.p (.lst 4 (b.kids.map Ex.cs))]]]) (fun i=>i≤a.kids.length∧a.kids.take i=b.kids.take i) (fun i=>a.kids.length-i) 0 (by simp) (ab (by simp) (by simp[okO,below]) (by simp[below])) ?_
  rintro i ⟨hi,he⟩
  simp-implicitDefEqProofs[hl]
  refine bg (fun h=>?_) (fun h=>?_)
  ·simp at h
   have h2':i<a.kids.length:=by omega
   have g1:=List.getElem?_eq_getElem h2'
   have g2:=List.getElem?_eq_getElem h
   have nx:=bZ he h2' h
   have nn:=oO h2' h
   have s1:=aL (List.getElem_mem h2')
   have s2:=aL (List.getElem_mem h)
   generalize a.kids[i]=x at g1 nx nn s1
   generalize b.kids[i]=y at g2 nx nn s2
   simp-implicitDefEqProofs[g1,g2]
   refine(ih x (by omega) (by omega) y (by omega)).use ?_
   by_cases e:x=y
   ·rw[cK e]
    simp-implicitDefEqProofs[]
    exact⟨i+1,⟨by omega,nx e⟩,by omega,ab (by simp) (by simp[okO,below]) (by simp[below,w1 (i:=i) (by omega)])⟩
   ·rw[aN e,aN fun e=>nn ‹_› (by rw[e])]
    simp-implicitDefEqProofs[]
  ·simp at h
   have hie:i=a.kids.length:=by omega
   subst hie
   rw[cK (Ex.ext' h1 h2 h3 (cZ he hl))]
   simp-implicitDefEqProofs[]
theorem tD:∀(N:Nat) (a:List Sm),az a<N→az a≤1073741824→∀b:List Sm,az b≤1073741824→VF Tryz.prog G cE [.p (smL a),.p (smL b)] (.p (.bool (eqX a b))):=by
 intro N
 induction N with
 |zero=>intro a ha;omega
 |succ N ih=>
  intro a ha hza b hzb
  have l1:=aV a
  have l2:=aV b
  have hsl:∀l,smL l= .lst 5 (l.map Sm.cs):=fun _=>rfl
  have hxl:∀l,exL l= .lst 4 (l.map Ex.cs):=fun _=>rfl
  refine AC.go ou ?_
  by_cases hl:a.length=b.length
  case neg=>
   have hl':¬(a.length:Int)=b.length:=by omega
   rw[aN fun e=>hl (by rw[e])]
   simp-implicitDefEqProofs[fb,hsl,hl']
  simp-implicitDefEqProofs[fb,hsl,hl]
  refine aH (fun i:Nat=>aj 111 [(0,.p (smL a)),(1,.p (smL b)),(5,.p (.int .i64 i))]) (fun _=>[]) (fun i=>i≤a.length∧a.take i=b.take i) (fun i=>a.length-i) 0 (by simp) (aw rfl (by simp[below,hsl])) ?_
  rintro i ⟨hi,he⟩
  simp-implicitDefEqProofs[hsl,hl]
  refine bg (fun h=>?_) (fun h=>?_)
  case _=>
   simp at h
   have h2:i<a.length:=by omega
   have g1:=List.getElem?_eq_getElem h2
   have g2:=List.getElem?_eq_getElem h
   have nx:=bZ he h2 h
   have nn:=oO h2 h
   have m1:=aP (List.getElem_mem h2)
   have m2:=aP (List.getElem_mem h)
   generalize a[i]=x at g1 nx nn m1
   generalize b[i]=y at g2 nx nn m2
   have c1:=x.cs_eq
   have c2:=y.cs_eq
   have z1:=x.sz_eq
   have z2:=y.sz_eq
   have q1:=aR x.args
   have q2:=aR y.args
   by_cases h1:x.op=y.op
   case neg=>
    rw[aN (nn fun e=>h1 (by rw[e]))]
    simp-implicitDefEqProofs[g1,g2,c1,c2,h1]
   by_cases h3:x.name=y.name
   case neg=>
    rw[aN (nn fun e=>h3 (by rw[e]))]
    simp-implicitDefEqProofs[g1,g2,c1,c2,h1,h3]
   by_cases h4:x.args.length=y.args.length
   case neg=>
    have h4':¬(x.args.length:Int)=y.args.length:=by omega
    rw[aN (nn fun e=>h4 (by rw[e]))]
    simp-implicitDefEqProofs[g1,g2,c1,c2,h1,h3,hxl,h4']
   simp-implicitDefEqProofs[g1,g2,c1,c2,h1,h3,hxl,h4]
   refine aH (fun j:Nat=>aj 111 [(0,.p (smL a)),(1,.p (smL b)),(5,.p (.int .i64 i)),(6,.p (.int .i64 j))]) (fun _=>[]) (fun j=>j≤x.args.length∧x.args.take j=y.args.take j) (fun j=>x.args.length-j) 0 (by simp) (aw rfl (by simp[below,hsl])) ?_
   rintro j ⟨hj,hej⟩
   simp-implicitDefEqProofs[hsl,g1,g2,c1,c2,hxl,h4]
   refine bg (fun hc=>?_) (fun hc=>?_)
   ·simp at hc
    have hc2:j<x.args.length:=by omega
    have a1:=List.getElem?_eq_getElem hc2
    have a2:=List.getElem?_eq_getElem hc
    have nx2:=bZ hej hc2 hc
    have nn2:=oO hc2 hc
    have u1:=aL (List.getElem_mem hc2)
    have u2:=aL (List.getElem_mem hc)
    generalize x.args[j]=v at a1 nx2 nn2 u1
    generalize y.args[j]=w at a2 nx2 nn2 u2
    simp-implicitDefEqProofs[hsl,g1,g2,c1,c2,hxl,a1,a2]
    refine(xt G v.sz v (Nat.le_refl _) (by omega) w (by omega)).use ?_
    by_cases e:v=w
    ·rw[cK e]
     simp-implicitDefEqProofs[]
     exact⟨j+1,⟨by omega,nx2 e⟩,by omega,aw rfl (by simp[below,hsl,w1 (i:=j) (by omega)])⟩
    ·rw[aN e,aN (nn fun q=>nn2 e (by rw[q]))]
     simp-implicitDefEqProofs[]
   ·simp at hc
    have hje:j=x.args.length:=by omega
    subst hje
    have hA:=cZ hej h4
    simp-implicitDefEqProofs[g1,g2,c1,c2]
    refine(ih x.body (by omega) (by omega) y.body (by omega)).use ?_
    by_cases h5:x.body=y.body
    case neg=>
     rw[aN h5,aN (nn fun e=>h5 (by rw[e]))]
     simp-implicitDefEqProofs[]
    rw[cK h5]
    simp-implicitDefEqProofs[g1,g2,c1,c2]
    refine(ih x.els (by omega) (by omega) y.els (by omega)).use ?_
    by_cases h6:x.els=y.els
    case neg=>
     rw[aN h6,aN (nn fun e=>h6 (by rw[e]))]
     simp-implicitDefEqProofs[]
    rw[cK h6]
    simp-implicitDefEqProofs[]
    exact⟨i+1,⟨by omega,nx (Sm.ext' h1 h3 hA h5 h6)⟩,by omega,aw rfl (by simp[below,hsl,w1 (i:=i) (by omega)])⟩
  case _=>
   simp at h
   have hie:i=a.length:=by omega
   subst hie
   rw[cK (cZ he hl)]
   simp-implicitDefEqProofs[]
theorem rI(a b:List Fd)(ha:bc a≤1073741824)(hb:bc b≤1073741824):VF Tryz.prog G dU [.agg [.p (fdL a)],.agg [.p (fdL b)]] (.p (.bool (eqX a b))):=by
 have hll1:=bT a
 have hll2:=bT b
 have hfl:∀l,fdL l= .lst 3 (l.map Fd.cs):=fun _=>rfl
 refine AC.go mH ?_
 by_cases hl:a.length=b.length
 case neg=>
  have hl':¬(a.length:Int)=b.length:=by omega
  rw[aN fun e=>hl (by rw[e])]
  simp-implicitDefEqProofs[dP,hfl,hl']
 simp-implicitDefEqProofs[dP,hfl,hl]
 refine aH (fun i:Nat=>aj 65 [(2,.ptr 0 1 0 0),(3,.ptr 1 1 0 0),(5,.p (.int .i64 i))]) (fun _=>[.row 1 [[.p (fdL a)]],.row 1 [[.p (fdL b)]]]) (fun i=>i≤a.length∧a.take i=b.take i) (fun i=>a.length-i) 0 (by simp) (ab (by simp) (by simp[okO,below]) (by simp[below])) ?_
 rintro i ⟨hi,he⟩
 simp-implicitDefEqProofs[hfl,hl]
 refine bg (fun h=>?_) (fun h=>?_)
 case _=>
  simp at h
  have h2:i<a.length:=by omega
  have g1:=List.getElem?_eq_getElem h2
  have g2:=List.getElem?_eq_getElem h
  have nx:=bZ he h2 h
  have nn:=oO h2 h
  have m1:=ce (List.getElem_mem h2)
  have m2:=ce (List.getElem_mem h)
  generalize a[i]=x at g1 nx nn m1
  generalize b[i]=y at g2 nx nn m2
  have c1:=x.cs_eq'
  have c2:=y.cs_eq'
  have z1:x.sz=1+x.name.length+(x.params.length+(x.params.map List.length).sum)+az x.body:=rfl
  have z2:y.sz=1+y.name.length+(y.params.length+(y.params.map List.length).sum)+az y.body:=rfl
  by_cases h1:x.name=y.name
  case neg=>
   rw[aN (nn fun e=>h1 (by rw[e]))]
   simp-implicitDefEqProofs[g1,g2,c1,c2,h1]
  simp-implicitDefEqProofs[g1,g2,c1,c2,h1]
  refine(Aa G x.params y.params (by omega) (by omega)).use ?_
  by_cases h3:x.params=y.params
  case neg=>
   rw[aN h3,aN (nn fun e=>h3 (by rw[e]))]
   simp-implicitDefEqProofs[]
  rw[cK h3]
  simp-implicitDefEqProofs[g1,g2,c1,c2]
  refine(tD G (az x.body+1) x.body (by omega) (by omega) y.body (by omega)).use ?_
  by_cases h4:x.body=y.body
  case neg=>
   rw[aN h4,aN (nn fun e=>h4 (by rw[e]))]
   simp-implicitDefEqProofs[]
  rw[cK h4]
  simp-implicitDefEqProofs[]
  exact⟨i+1,⟨by omega,nx (by cases x;cases y;simp only at h1 h3 h4;subst h1 h3 h4;rfl)⟩,by omega,ab (h:=[.row 1 [[.p (fdL a)]],.row 1 [[.p (fdL b)]]]) (by simp) (by simp[okO,below]) (by simp[below,w1 (i:=i) (by omega)])⟩
 case _=>
  simp at h
  have hie:i=a.length:=by omega
  subst hie
  rw[cK (cZ he hl)]
  simp-implicitDefEqProofs[]
end Go.Proofs.YtiojgfhdcpppcaaGreatDoor
namespace Go.Proofs.YtiojgfhdcpppcaaGreatDoor
open Go Go.Aw
set_option maxRecDepth 100000
theorem qh(fns:List Fd):∀(l:List Fd) (k:Nat),fE fns k l=0↔∀(i:Nat) (f:Fd),l[i]?=some f→(fnW fns (k+i) f).code=0
 |[],k=>by simp[fE]
 |f::r,k=>by
  rw[fE]
  have ih:=qh fns r (k+1)
  constructor
  ·intro h i g hg
   by_cases h0:(fnW fns k f).code=0
   ·rw[if_pos h0] at h
    cases i with
    |zero=>cases hg;exact h0
    |succ i=>have:=ih.1 h i g (by simpa using hg);rwa[show k+(i+1)=k+1+i by omega]
   ·rw[if_neg h0] at h;exact absurd h h0
  ·intro h
   rw[if_pos (by have:=h 0 f rfl;rwa[Nat.add_zero] at this)]
   exact ih.2 fun i g hg=>by have:=h (i+1) g (by simpa using hg);rwa[show k+(i+1)=k+1+i by omega] at this
theorem yD(l:List Fd):cY l=0↔bX l=true∧∀(k:Nat) (f:Fd),l[k]?=some f→(fnW l k f).code=0:=by
 unfold cY
 by_cases h:bX l=true
 ·rw[if_pos h,qh];simp[h]
 ·rw[if_neg h];simp[h]
theorem xc(l:List Fd):bX l=true↔(1≤l.length∧l.length≤4)∧(∀f∈l,gV f=true)∧gU l≤40:=by
 simp only[bX,inR,Bool.and_eq_true,decide_eq_true_eq,List.all_eq_true]
 constructor
 ·rintro⟨⟨⟨h1,h2⟩,h3⟩,h4⟩;exact⟨⟨by omega,by omega⟩,h3,h4⟩
 ·rintro⟨⟨h1,h2⟩,h3,h4⟩;exact⟨⟨⟨by omega,by omega⟩,h3⟩,h4⟩
def Fd.cut(f:Fd)(n:Nat):Fd:=⟨f.name,f.params,f.body.take n⟩
end Go.Proofs.YtiojgfhdcpppcaaGreatDoor
namespace Go.Proofs.YtiojgfhdcpppcaaGreatDoor
open Go Go.Aw
set_option maxRecDepth 100000
set_option maxHeartbeats 4000000
def jP(l:List Fd):Nat→List Fd
 |0=>[]
 |i+1=>jP l i++(match l[i]? with|some f=>[rnF l i f]|none=>[])
def oR(l:List Fd):Bool:=l.all fun f=>decide (lL f≤26)
def ft(l:List Fd):Bool:=decide (cY l=0)&&oR l
def jx(l:List Fd):List Fd:=if ft l=true then l.map irF else[]
theorem wc(l:List Fd):∀i,i≤l.length→(jP l i).length=i
 |0,_=>rfl
 |i+1,h=>by
  have hg:=List.getElem?_eq_getElem (show i<l.length by omega)
  rw[jP,List.length_append,wc l i (by omega),hg];rfl
theorem yG{l:List Fd}(h:cY l=0):∀i,i≤l.length→jP l i=(l.take i).map irF
 |0,_=>by simp[jP]
 |i+1,hi=>by
  have hl:i<l.length:=by omega
  have hg:=List.getElem?_eq_getElem hl
  rw[jP,yG h i (by omega),hg,ah hl,List.map_append]
  simp only
  rw[Fe l i l[i] (((yD l).1 h).2 i l[i] hg)];rfl
variable (G:aF)
theorem qw(l:List Fd)(hz:bc l≤1073741824):VF Tryz.prog G cF [.agg [.p (fdL l)]] (.tup [.agg [.p (fdL (jx l))],.p (.bool (ft l))]):=by
 have hll:=bT l
 have hfl:∀l,fdL l= .lst 3 (l.map Fd.cs):=fun _=>rfl
 have key:AC Tryz.prog G cF [.agg [.p (fdL l)]] [] fun x h=>∃v,x= .ret (.tup [.agg [v],.p (.bool (ft l))])∧View h v (fdL (jx l)):=by
  refine AC.go kI ?_
  simp-implicitDefEqProofs[gk]
  refine(AD G l hz).use ?_
  by_cases h0:cY l=0
  case neg=>
   have hr:ft l=false:=by simp[ft,h0]
   have hp:jx l=[]:=by simp[jx,hr]
   rw[hr,hp]
   simp-implicitDefEqProofs[h0]
   exact .nils 3
  have hro:ft l=oR l:=by simp[ft,h0]
  have hrp:jx l=if oR l=true then l.map irF else[]:=by rw[jx,hro]
  rw[hro,hrp]
  simp-implicitDefEqProofs[h0]
  have hE:∀i,okO 0 (eQ 3 (eG (jP l i))):=fun i=>GY (pn _)
  have hok:∀i,∀o∈[AO.row 1 [[.p (fdL l)]],.row 1 [[.nils]],.row 1 [[slE 3 3 (eG (jP l i))]],eQ 3 (eG (jP l i))],okO 4 o:=fun i=>
   ae (by simp[okO,below]) (ae (by simp[okO,below]) (ae (by intro e he;rw[List.mem_singleton.1 he];exact⟨Do (by omega),trivial⟩) (ae (cg (hE i)) dr)))
  refine aH (fun i:Nat=>aj 38 [(1,.ptr 0 1 0 0),(2,.ptr 1 1 0 0),(4,.ptr 2 1 0 0),(5,.p (.int .i64 i))]) (fun i=>[.row 1 [[.p (fdL l)]],.row 1 [[.nils]],.row 1 [[slE 3 3 (eG (jP l i))]],eQ 3 (eG (jP l i))]) (fun i=>i≤l.length∧∀f∈l.take i,lL f≤26) (fun i=>l.length-i) 0 (by simp) ?_ ?_
  ·have e1:slE 3 3 (eG (jP l 0))= .nils:=rfl
   have e2:eQ 3 (eG (jP l 0))= .dead:=rfl
   rw[e1,e2]
   exact iq (h:=[AO.row 1 [[.p (fdL l)]],.row 1 [[.nils]],.row 1 [[.nils]]]) (by simp) (by simp) (by simp[okO,below]) (by simp[below])
  rintro i ⟨hi,hf⟩
  simp-implicitDefEqProofs[hfl]
  refine bg (fun h=>?_) (fun h=>?_)
  ·simp at h
   have hg:=List.getElem?_eq_getElem h
   have hT:jP l (i+1)=jP l i++[rnF l i l[i]]:=by rw[jP,hg]
   have hol:=wc l i (by omega)
   have hmem:=List.getElem_mem h
   have htk:=ah h
   generalize l[i]=f at hg hT hmem htk
   have hcw:=zh l i f
   have hrc:=xw l i f
   have hrl:(eG (jP l i)).length=i:=by simp[eG,hol]
   generalize jP l i=out at hT hol hrl
   simp-implicitDefEqProofs[]
   refine(Al G hg hz).use ?_
   have hvn:(fnW l i f).count=lL f:=hcw
   by_cases h26:lL f≤26
   case neg=>
    have hfw:oR l=false:=by
     cases e:oR l with
     |false=>rfl
     |true=>
      rw[oR,List.all_eq_true] at e
      have:=e f hmem
      exact absurd (by simpa using this) h26
    have h26':(26:Int)<(lL f:Int):=by omega
    rw[hfw]
    simp-implicitDefEqProofs[hrc,hvn,h26']
    exact .nils 3
   have h26':¬(26:Int)<(lL f:Int):=by omega
   simp-implicitDefEqProofs[hrc,hvn,h26']
   refine⟨by omega,i+1,⟨h,fun g hgm=>?_⟩,by omega,?_⟩
   ·rw[htk] at hgm
    rcases List.mem_append.1 hgm with h|h
    ·exact hf g h
    ·rw[List.mem_singleton.1 h];exact h26
   ·rw[hT]
    have hR:eG (out++[rnF l i f])=eG out++[[.p (.str f.name),.p (ay (jT f.params (w0 l i f))),.p (smL (eA l i 0 f.body (bS f.params (w0 l i f))))]]:=by
     rw[eG,List.map_append,List.map_singleton,hrc];rfl
    rw[hR,oq _ (by simp),lu _ (by simp)]
    refine eb [0,1,2,6] rfl (by decide) (bq rfl (by simp) (bq rfl (by simp) (mb (es:=[[.sl 3 3 0 ((eG out).length+1)]]) (by simp[below]) (by simp[ren,bz]) (bq rfl (fun x hx=>?_) cP)))) (by simp[below,ren,hfl,w1 (i:=i) (by omega)])
    rcases List.mem_append.1 hx with h|h
    ·exact pn _ x h
    ·rw[List.mem_singleton.1 h];simp
  ·simp at h
   have hie:i=l.length:=by omega
   subst hie
   rw[List.take_length] at hf
   have hfw:oR l=true:=by
    rw[oR,List.all_eq_true];exact fun f hm=>by simpa using hf f hm
   have hmm:jP l l.length=l.map irF:=by rw[yG h0 _ (Nat.le_refl _),List.take_length]
   rw[hfw,if_pos rfl,hmm]
   simp-implicitDefEqProofs[]
   have hh:eG (l.map irF)=((l.map irF).map Fd.cs).map (·.map .p):=by simp[eG]
   rw[hh]
   have:=rm (h:=[AO.row 1 [[AV.p (PV.lst 3 (List.map Fd.cs l))]],AO.row 1 [[slE 3 3 (((l.map irF).map Fd.cs).map (·.map .p))]],AO.row 1 [[slE 3 3 (((l.map irF).map Fd.cs).map (·.map .p))]],eQ 3 (((l.map irF).map Fd.cs).map (·.map .p))]) (id:=3) (sz:=3) (ls:=(l.map irF).map Fd.cs) rfl (fun x hx=>by obtain⟨b,_,rfl⟩:=List.mem_map.1 hx;rfl)
   rw[List.map_map (l:=l)] at this
   simpa using this
 refine key.freezeR (fun t v h ⟨_,e,_⟩=>by cases e) fun v h ⟨u,e1,e2⟩=>?_
 cases e1
 exact .tup (.agg (.one e2 .nil) (.keep (by simp) .nil)) .nil
theorem wd(l:List Fd)(hz:bc l≤1073741824)(hr:bc (jx l)≤1073741824):VF Tryz.prog G fJ [.agg [.p (fdL l)]] (.p (.bool (ft l&&eqX (jx l) l))):=by
 refine AC.go pq ?_
 simp-implicitDefEqProofs[jA]
 refine(qw G l hz).use ?_
 cases h:ft l with
 |false=>simp-implicitDefEqProofs[]
 |true=>
  simp-implicitDefEqProofs[]
  refine(rI G (jx l) l hr hz).use ?_
  simp-implicitDefEqProofs[]
end Go.Proofs.YtiojgfhdcpppcaaGreatDoor
