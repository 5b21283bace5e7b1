/-
  Contracts and lemmas that the card needs, part 5.
-/
import Derived.Test.YtnjbhgpbgmpkcaaGreatDoorRm4
import Derived.Laws.RangeAny
import Derived.Laws.RangeString
namespace Go.Proofs.YtnjbhgpbgmpkcaaGreatDoor
open Go Go.Aw
set_option maxRecDepth 100000
set_option maxHeartbeats 4000000
theorem an{α:Type}{xs:List α}{i:Nat}(h:i<xs.length):xs.take (i+1)=xs.take i++[xs[i]]:=by
 rw[List.take_add_one,List.getElem?_eq_getElem h];rfl
def sc(l:List Int):PV:= .lst 1 (l.map fun n=>[.int .u8 n])
def rn(l:List Int):PV:= .lst 1 (l.map fun n=>[.int .i64 n])
def ug(l:List Int):AO:= .row 1 (l.map fun n=>[.p (.int .i64 n)])
def au(l:List (List UInt8)):PV:= .lst 1 (l.map fun w=>[.str w])
def oZ(l:List (List UInt8)):List (List AV):=l.map fun w=>[.p (.str w)]
def ga(l:List (List UInt8)):AO:= .row 1 (l.map fun n=>[.p (.str n)])
theorem lL(l:List (List UInt8)):∀x∈oZ l,ag 0 x:=by
 intro x hx;obtain⟨m,_,rfl⟩:=List.mem_map.1 hx;simp[ag,below]
theorem iJ{l:List (List UInt8)}{id:Nat}{h:List AO}(e:h[id]?=some (ga l)):View h (.sl id 1 0 l.length) (au l):=by
 have:=kf (h:=h) (id:=id) (sz:=1) (n:=l.length) (ls:=l.map fun n=>[.str n]) (by rw[e,ga];simp) (by simp) (fun x hx=>by obtain⟨b,_,rfl⟩:=List.mem_map.1 hx;rfl)
 exact this
end Go.Proofs.YtnjbhgpbgmpkcaaGreatDoor
namespace Go.Proofs.YtnjbhgpbgmpkcaaGreatDoor
open Go Go.Aw
set_option maxRecDepth 100000
set_option maxHeartbeats 4000000
def dZ(c:UInt8):Bool:=decide (97≤c.toNat)&&decide (c.toNat≤122)
def keyW:List (List UInt8):=[[102,110],[108,101,116],[115,97,121],[112,117,116],[105,102],[101,108,115,101],[108,111,111,112],[98,97,99,107],[100,111]]
def aD(s:List UInt8):Bool:=s.all dZ&&decide (0<s.length)&&decide (s.length≤4)&& !keyW.contains s
def vj:List UInt8:=[40,41,123,125,59,44,43,45,42,47,37,60,61,38,33,64]
def rf(s:List UInt8)(c:Int):Int:=match s.findIdx? (fun x=>(x.toNat:Int)==c) with|some i=>i|none=> -1
def zo(c:Int):Int:=if 97≤c∧c≤122 then 1 else if 48≤c∧c≤57 then 2 else if 0≤rf vj c then 3 else if c=32∨c=10 then 4 else 0
theorem Iz(x:UInt8):(zo (x.toNat:Int)=1)↔dZ x=true:=by
 have h:(97≤(x.toNat:Int)∧(x.toNat:Int)≤122)↔dZ x=true:=by simp[dZ];omega
 unfold zo
 constructor
 ·intro e
  split at e
  ·rename_i h1;exact h.1 h1
  ·repeat' split at e
   all_goals omega
 ·intro e;rw[if_pos (h.2 e)]
def xy(s:List UInt8):Int:=match s.findIdx? (fun x=> !dZ x) with|some i=>i|none=> -1
theorem Fs(s:List UInt8):decide (xy s<0)=s.all dZ:=by
 unfold xy
 cases h:s.findIdx? (fun x=> !dZ x) with
 |none=>
  rw[List.findIdx?_eq_none_iff] at h
  have:s.all dZ=true:=List.all_eq_true.2 fun x hx=>by have:=h x hx;simpa using this
  simp[this]
 |some i=>
  rw[List.findIdx?_eq_some_iff_getElem] at h
  obtain⟨h1,h2,_⟩:=h
  have:s.all dZ=false:=List.all_eq_false.2 ⟨_,List.getElem_mem h1,by simpa using h2⟩
  rw[this];simp
def idxS(l:List (List UInt8))(s:List UInt8):Int:=match l.findIdx? (fun w=>w==s) with|some i=>i|none=> -1
theorem Ef(l:List (List UInt8))(s:List UInt8):decide (0≤idxS l s)=l.contains s:=by
 unfold idxS
 cases h:l.findIdx? (fun w=>w==s) with
 |none=>
  rw[List.findIdx?_eq_none_iff] at h
  have:l.contains s=false:=by
   cases hc:l.contains s with
   |false=>rfl
   |true=>
    have hm:s∈l:=by simpa using hc
    have:=h s hm
    simp at this
  rw[this];simp
 |some i=>
  rw[List.findIdx?_eq_some_iff_getElem] at h
  obtain⟨h1,h2,_⟩:=h
  have:l.contains s=true:=by
   simp only[beq_iff_eq] at h2
   rw[List.contains_iff_mem,←h2];exact List.getElem_mem h1
  rw[this];simp
variable (G:aC)
theorem rZ(s:List UInt8)(c:Int)(hb:s.length≤1048576):VF Tryz.prog G jW [.p (.str s),.p (.int .u8 c)] (.p (.int .i64 (rf s c))):=by
 refine AC.go uj ?_
 simp-implicitDefEqProofs[mU]
 refine aN (fun i:Nat=>al 18 [(0,.p (.str s)),(1,.p (.int .u8 c)),(5,.p (.int .i64 i))]) (fun _=>[]) (fun i=>i≤s.length∧∀x∈s.take i,(x.toNat:Int)≠c) (fun i=>s.length-i) 0 (by simp) ?_ ?_
 ·exact bk rfl (by simp[below])
 ·intro i ⟨hi,hn⟩
  simp-implicitDefEqProofs[]
  refine bc (fun h1=>?_) (fun h1=>?_)
  ·simp at h1
   have hg:=List.getElem?_eq_getElem h1
   by_cases he:(s[i].toNat:Int)=c
   ·have hf:rf s c=i:=by
     have:s.findIdx? (fun x=>(x.toNat:Int)==c)=some i:=by
      rw[List.findIdx?_eq_some_iff_getElem]
      exact⟨h1,by simpa using he,fun j hj=>by have:=hn s[j] (List.mem_take_iff_getElem.2 ⟨j,by omega,rfl⟩);simpa using this⟩
     rw[rf,this]
    simp-implicitDefEqProofs[hg,he,hf]
   ·simp-implicitDefEqProofs[hg,he]
    refine⟨i+1,⟨h1,fun p hp=>?_⟩,by omega,bk rfl ?_⟩
    ·rw[an h1] at hp
     rcases List.mem_append.1 hp with hp|hp
     ·exact hn p hp
     ·rw[List.mem_singleton.1 hp];exact he
    ·simp[below,w1 (i:=i) (by omega)]
  ·simp at h1
   rw[List.take_of_length_le h1] at hn
   have hf:rf s c= -1:=by
    have:s.findIdx? (fun x=>(x.toNat:Int)==c)=none:=by
     rw[List.findIdx?_eq_none_iff];intro x hx;simpa using hn x hx
    rw[rf,this]
   simp-implicitDefEqProofs[hf]
theorem CR(c:Int):VF Tryz.prog G ki [.p (.int .u8 c)] (.p (.int .i64 (zo c))):=by
 refine AC.go uX ?_
 simp-implicitDefEqProofs[oe]
 unfold zo
 by_cases h1:97≤c
 ·by_cases h2:c≤122
  ·simp-implicitDefEqProofs[h1,h2]
  ·have h3:¬c≤57:=by omega
   have h4:¬c=32:=by omega
   have h5:¬c=10:=by omega
   have h6:48≤c:=by omega
   simp-implicitDefEqProofs[h1,h2,h3,h6]
   refine(rZ G vj c (by decide)).use ?_
   generalize rf vj c=w
   by_cases hf:0≤w
   ·simp-implicitDefEqProofs[hf]
   ·simp-implicitDefEqProofs[hf,h4,h5]
 ·simp-implicitDefEqProofs[h1]
  by_cases h2:48≤c
  ·by_cases h3:c≤57
   ·simp-implicitDefEqProofs[h2,h3]
   ·have h4:¬c=32:=by omega
    have h5:¬c=10:=by omega
    simp-implicitDefEqProofs[h2,h3]
    refine(rZ G vj c (by decide)).use ?_
    generalize rf vj c=w
    by_cases hf:0≤w
    ·simp-implicitDefEqProofs[hf]
    ·simp-implicitDefEqProofs[hf,h4,h5]
  ·simp-implicitDefEqProofs[h2]
   refine(rZ G vj c (by decide)).use ?_
   generalize rf vj c=w
   by_cases hf:0≤w
   ·simp-implicitDefEqProofs[hf]
   ·by_cases h4:c=32
    ·simp-implicitDefEqProofs[hf,h4]
    ·by_cases h5:c=10
     ·simp-implicitDefEqProofs[hf,h4,h5]
     ·simp-implicitDefEqProofs[hf,h4,h5]
theorem IR(s:List UInt8)(hb:s.length≤140737488355328):VF Tryz.prog G mg [.p (.str s),.p (.int .i64 1)] (.p (.bool (s.all dZ&&decide (0<s.length)))):=by
 refine AC.go wZ ?_
 simp-implicitDefEqProofs[rk]
 refine aN (fun i:Nat=>al 21 [(0,.p (.str s)),(1,.p (.int .i64 1)),(5,.p (.int .i64 i))]) (fun _=>[]) (fun i=>i≤s.length∧∀x∈s.take i,dZ x=true) (fun i=>s.length-i) 0 (by simp) ?_ ?_
 ·exact bk rfl (by simp[below])
 ·intro i ⟨hi,hn⟩
  simp-implicitDefEqProofs[]
  refine bc (fun h1=>?_) (fun h1=>?_)
  ·simp at h1
   have hg:=List.getElem?_eq_getElem h1
   simp-implicitDefEqProofs[hg]
   refine(CR G _).use ?_
   have hcl:=Iz s[i]
   by_cases he:dZ s[i]=true
   ·have hc:=hcl.2 he
    simp-implicitDefEqProofs[hc]
    refine⟨i+1,⟨h1,fun p hp=>?_⟩,by omega,bk rfl ?_⟩
    ·rw[an h1] at hp
     rcases List.mem_append.1 hp with hp|hp
     ·exact hn p hp
     ·rw[List.mem_singleton.1 hp];exact he
    ·simp[below,w1 (i:=i) (by omega)]
   ·have hc:¬zo (s[i].toNat:Int)=1:=fun e=>he (hcl.1 e)
    have ha:s.all dZ=false:=List.all_eq_false.2 ⟨_,List.getElem_mem h1,by simpa using he⟩
    simp-implicitDefEqProofs[hc,ha]
  ·simp at h1
   rw[List.take_of_length_le h1] at hn
   have ha:s.all dZ=true:=List.all_eq_true.2 hn
   simp-implicitDefEqProofs[ha]
theorem Ar:VF Tryz.prog G gb [] (.p (au keyW)):=by
 have key:AC Tryz.prog G gb [] [] fun x h=>x= .ret (.sl 0 1 0 9)∧h=[.row 1 (keyW.map fun w=>[.p (.str w)])]:=by
  refine AC.go sT ?_
  simp-implicitDefEqProofs[mG,keyW]
 exact AC.freeze key (.one (kf (ls:=keyW.map fun w=>[.str w]) (by simp) (by simp[keyW]) (by simp)) .nil)
theorem HM(s:List UInt8):VF Tryz.prog G mu [.p (.str s)] (.p (.bool (keyW.contains s))):=by
 refine AC.go xz ?_
 have hsl:au keyW= .lst 1 (keyW.map fun w=>[.str w]):=rfl
 have hkl:keyW.length=9:=rfl
 simp-implicitDefEqProofs[rq]
 refine(Ar G).use ?_
 simp-implicitDefEqProofs[]
 refine aN (fun i:Nat=>al 18 [(0,.p (.str s)),(3,.p (au keyW)),(4,.p (.int .i64 i))]) (fun _=>[]) (fun i=>i≤keyW.length∧∀w∈keyW.take i,w≠s) (fun i=>keyW.length-i) 0 (by simp) ?_ ?_
 ·exact bk rfl (by simp[below,au])
 ·intro i ⟨hi,hn⟩
  generalize keyW=L at*
  simp-implicitDefEqProofs[hsl]
  refine bc (fun h1=>?_) (fun h1=>?_)
  ·simp at h1
   have hg:=List.getElem?_eq_getElem h1
   by_cases he:L[i]=s
   ·have hm:s∈L:=by rw[←he];exact List.getElem_mem h1
    simp-implicitDefEqProofs[hg,he,hm]
   ·simp-implicitDefEqProofs[hg,he]
    refine⟨i+1,⟨h1,fun p hp=>?_⟩,by omega,bk rfl ?_⟩
    ·rw[an h1] at hp
     rcases List.mem_append.1 hp with hp|hp
     ·exact hn p hp
     ·rw[List.mem_singleton.1 hp];exact he
    ·simp[below,w1 (i:=i) (by omega)]
  ·simp at h1
   rw[List.take_of_length_le h1] at hn
   have hm:¬s∈L:=fun hm=>hn s hm rfl
   simp-implicitDefEqProofs[hm]
theorem rc(s:List UInt8)(hb:s.length≤140737488355328):VF Tryz.prog G cT [.p (.str s)] (.p (.bool (aD s))):=by
 refine AC.go wc ?_
 simp-implicitDefEqProofs[pP]
 refine(IR G s hb).use ?_
 cases h1:(s.all dZ&&decide (0<s.length)) with
 |false=>
  have hi:aD s=false:=by rw[aD,h1];rfl
  simp-implicitDefEqProofs[hi]
 |true=>
  by_cases h4:s.length≤4
  ·have h4i:(s.length:Int)≤4:=by omega
   have hi:aD s= !keyW.contains s:=by rw[aD,h1];simp[h4]
   simp-implicitDefEqProofs[h4i]
   refine(HM G s).use ?_
   rw[hi]
   simp-implicitDefEqProofs[]
  ·have h4i:¬(s.length:Int)≤4:=by omega
   have hi:aD s=false:=by rw[aD,h1];simp[h4]
   simp-implicitDefEqProofs[h4i,hi]
end Go.Proofs.YtnjbhgpbgmpkcaaGreatDoor
namespace Go.Proofs.YtnjbhgpbgmpkcaaGreatDoor
open Go Go.Aw
set_option maxRecDepth 100000
inductive Ex where
 |mk (op n:Int) (name:List UInt8) (kids:List Ex)
inductive Sm where
 |mk (op:Int) (name:List UInt8) (args:List Ex) (body els:List Sm)
structure Fd where (name:List UInt8) (params:List (List UInt8)) (body:List Sm)
def Ex.op:Ex→Int| .mk o _ _ _=>o
def Ex.n:Ex→Int| .mk _ n _ _=>n
def Ex.name:Ex→List UInt8| .mk _ _ s _=>s
def Ex.kids:Ex→List Ex| .mk _ _ _ k=>k
def Sm.op:Sm→Int| .mk o _ _ _ _=>o
def Sm.name:Sm→List UInt8| .mk _ s _ _ _=>s
def Sm.args:Sm→List Ex| .mk _ _ a _ _=>a
def Sm.body:Sm→List Sm| .mk _ _ _ b _=>b
def Sm.els:Sm→List Sm| .mk _ _ _ _ e=>e
mutual
def Ex.cs:Ex→List PV
 | .mk o n s k=>[.int .i64 o,.int .i64 n,.str s,.lst 4 (FO k)]
def FO:List Ex→List (List PV)
 |[]=>[]
 |e::r=>e.cs::FO r
end
mutual
def Sm.cs:Sm→List PV
 | .mk o s a b e=>[.int .i64 o,.str s,.lst 4 (FO a),.lst 5 (ED b),.lst 5 (ED e)]
def ED:List Sm→List (List PV)
 |[]=>[]
 |s::r=>s.cs::ED r
end
theorem tD:∀l:List Ex,FO l=l.map Ex.cs
 |[]=>rfl
 |e::r=>by rw[FO,tD r];rfl
theorem ve:∀l:List Sm,ED l=l.map Sm.cs
 |[]=>rfl
 |e::r=>by rw[ED,ve r];rfl
def exL(l:List Ex):PV:= .lst 4 (l.map Ex.cs)
def smL(l:List Sm):PV:= .lst 5 (l.map Sm.cs)
theorem Ex.cs_eq(e:Ex):e.cs=[.int .i64 e.op,.int .i64 e.n,.str e.name,exL e.kids]:=by
 cases e;rw[Ex.cs,tD];rfl
theorem Sm.cs_eq(s:Sm):s.cs=[.int .i64 s.op,.str s.name,exL s.args,smL s.body,smL s.els]:=by
 cases s;rw[Sm.cs,tD,ve,ve];rfl
@[simp] theorem Ex.cs_len(e:Ex):e.cs.length=4:=by cases e;rfl
@[simp] theorem Ex.cs_take(e:Ex):List.take 4 (e.cs.map AV.p)=e.cs.map AV.p:=by cases e;rfl
@[simp] theorem Sm.cs_len(s:Sm):s.cs.length=5:=by cases s;rfl
@[simp] theorem Sm.cs_take(s:Sm):List.take 5 (s.cs.map AV.p)=s.cs.map AV.p:=by cases s;rfl
def Fd.cs(f:Fd):List PV:=[.str f.name,au f.params,smL f.body]
@[simp] theorem Fd.cs_len(f:Fd):f.cs.length=3:=rfl
@[simp] theorem Fd.cs_take(f:Fd):List.take 3 (f.cs.map AV.p)=f.cs.map AV.p:=rfl
def fdL(l:List Fd):PV:= .lst 3 (l.map Fd.cs)
mutual
def Ex.sz:Ex→Nat
 | .mk _ _ s k=>1+s.length+aY k
def aY:List Ex→Nat
 |[]=>0
 |e::r=>e.sz+aY r
end
mutual
def Sm.sz:Sm→Nat
 | .mk _ s a b e=>1+s.length+aY a+am b+am e
def am:List Sm→Nat
 |[]=>0
 |s::r=>s.sz+am r
end
def Fd.sz(f:Fd):Nat:=1+f.name.length+(f.params.length+(f.params.map List.length).sum)+am f.body
def aO(l:List Fd):Nat:=(l.map Fd.sz).sum
theorem Ex.sz_eq(e:Ex):e.sz=1+e.name.length+aY e.kids:=by cases e;rfl
theorem Sm.sz_eq(s:Sm):s.sz=1+s.name.length+aY s.args+am s.body+am s.els:=by cases s;rfl
theorem fe:∀a b:List Ex,aY (a++b)=aY a+aY b
 |[],b=>by simp[aY]
 |e::r,b=>by simp only[List.cons_append,aY,fe r b];omega
theorem bC:∀a b:List Sm,am (a++b)=am a+am b
 |[],b=>by simp[am]
 |e::r,b=>by simp only[List.cons_append,am,bC r b];omega
theorem bj:∀{l:List Ex} {e:Ex},e∈l→e.sz≤aY l
 |x::r,e,h=>by
  simp only[aY]
  rcases List.mem_cons.1 h with rfl|h
  ·omega
  ·have:=bj h;omega
theorem bY:∀{l:List Sm} {e:Sm},e∈l→e.sz≤am l
 |x::r,e,h=>by
  simp only[am]
  rcases List.mem_cons.1 h with rfl|h
  ·omega
  ·have:=bY h;omega
theorem bi:∀l:List Ex,l.length≤aY l
 |[]=>Nat.le_refl _
 |e::r=>by have:=bi r;have:=e.sz_eq;simp only[aY,List.length_cons];omega
theorem bA:∀l:List Sm,l.length≤am l
 |[]=>Nat.le_refl _
 |e::r=>by have:=bA r;have:=e.sz_eq;simp only[am,List.length_cons];omega
mutual
def Ex.parts:Ex→Nat
 | .mk _ _ _ k=>1+bt k
def bt:List Ex→Nat
 |[]=>0
 |e::r=>e.parts+bt r
end
theorem Ex.parts_eq(e:Ex):e.parts=1+bt e.kids:=by cases e;rfl
theorem eU:∀a b:List Ex,bt (a++b)=bt a+bt b
 |[],b=>by simp[bt]
 |e::r,b=>by simp only[List.cons_append,bt,eU r b];omega
mutual
theorem Ex.parts_le:∀e:Ex,e.parts≤e.sz
 | .mk _ _ s k=>by have:=qD k;simp only[Ex.parts,Ex.sz];omega
theorem qD:∀l:List Ex,bt l≤aY l
 |[]=>Nat.le_refl _
 |e::r=>by have:=e.parts_le;have:=qD r;simp only[bt,aY];omega
end
mutual
def Sm.cnt:Sm→Nat
 | .mk _ _ _ b e=>1+cW b+cW e
def cW:List Sm→Nat
 |[]=>0
 |s::r=>s.cnt+cW r
end
theorem Sm.cnt_eq(s:Sm):s.cnt=1+cW s.body+cW s.els:=by cases s;rfl
theorem nQ:∀a b:List Sm,cW (a++b)=cW a+cW b
 |[],b=>by simp[cW]
 |e::r,b=>by simp only[List.cons_append,cW,nQ r b];omega
mutual
theorem Sm.cnt_le:∀s:Sm,s.cnt≤s.sz
 | .mk _ s a b e=>by have:=ma b;have:=ma e;simp only[Sm.cnt,Sm.sz];omega
theorem ma:∀l:List Sm,cW l≤am l
 |[]=>Nat.le_refl _
 |e::r=>by have:=e.cnt_le;have:=ma r;simp only[cW,am];omega
end
def inR(n lo hi:Int):Bool:=decide (lo≤n)&&decide (n≤hi)
def loK(op:Int):Nat:=if op=1∨op=2 then 0 else if op=11∨op=12 then 1 else if op=13 then 0 else 2
def hiK(op:Int):Nat:=if op=1∨op=2 then 0 else if op=11∨op=12 then 1 else if op=13 then 3 else 2
def zn(op:Int):Bool:=decide (op=2)||decide (op=13)
def lS(e:Ex):Bool:=inR e.op 1 13&&inR e.kids.length (loK e.op) (hiK e.op)&&(zn e.op==aD e.name)&&(zn e.op||decide (e.name=[]))&&inR e.n 0 255&&(decide (e.op=1)||decide (e.n=0))
def eb:Nat→Ex→Bool
 |0,_=>false
 |d+1,e=>lS e&&e.kids.all (eb d)
def iX(e:Ex):Bool:=eb 6 e&&decide (e.parts≤30)
def jQ(op:Int):Nat:=if op=4 then 2 else 1
def cV(op:Int):Bool:=decide (op=1)||decide (op=2)
def fY(s:Sm):Bool:=inR s.op 1 8&&decide (s.args.length=jQ s.op)&&(cV s.op==aD s.name)&&(cV s.op||decide (s.name=[]))&&s.args.all iX&&
 (!decide (s.op=8)||(match s.args with|a::_=>decide (a.op=13)|[]=>false))&&(s.els.isEmpty||decide (s.op=5))&&(s.body.isEmpty||decide (s.op=5)||decide (s.op=6))
def aH:Nat→Sm→Bool
 |0,_=>false
 |d+1,s=>fY s&&s.body.all (aH d)&&s.els.all (aH d)
def ig(f:Fd):Bool:=f.params.all aD&&aD f.name&&decide (f.params.length≤3)&&f.body.all (aH 4)
def fy(l:List Fd):Nat:=(l.map fun f=>cW f.body).sum
def bu(l:List Fd):Bool:=inR l.length 1 4&&l.all ig&&decide (fy l≤40)
end Go.Proofs.YtnjbhgpbgmpkcaaGreatDoor
namespace Go.Proofs.YtnjbhgpbgmpkcaaGreatDoor
open Go Go.Aw
set_option maxRecDepth 100000
set_option maxHeartbeats 4000000
theorem eD{α:Type}{p:α→Bool}{xs:List α}{i:Nat}(h:i<xs.length):(xs.take (i+1)).all p=((xs.take i).all p&&p xs[i]):=by
 rw[an h,List.all_append];simp
theorem mf{α:Type}{p:α→Bool}{xs:List α}{i:Nat}(h:i<xs.length)(hp:p xs[i]=false):xs.all p=false:=
 List.all_eq_false.2 ⟨_,List.getElem_mem h,by simp[hp]⟩
theorem gY{α:Type}{p:α→Bool}{xs:List α}{i:Nat}(h:xs.length≤i)(ht:(xs.take i).all p=true):xs.all p=true:=by
 rwa[List.take_of_length_le h] at ht
def K_spec_l2Form:AK:= .seq (.reg [oJ 2 (.box 4 (.t 0)),oJ 4 (.mov (.c (.p (.bool false))))]) (.seq (.reg [oF 10 0 2,oL 11 10,oJ 12 (.call iS [(.t 11)]),oM 9 12,oJ 13 (.ext 0 (.t 9)),oJ 14 (.ext 1 (.t 9)),oM 5 13,oM 6 14]) (.seq (.seq (.reg [oM 15 1,oJ 16 (.bin .lss (.t 15) (.c (.p (.int .i64 1)))),oM 17 16,⟨(some 18),some (17,false),.fldA 0 (.t 2)⟩,⟨(some 19),some (17,false),.ld none (.t 18)⟩,⟨(some 20),some (17,false),.call cm [(.t 19),(.c (.p (.int .i64 1))),(.c (.p (.int .i64 13)))]⟩,⟨(some 21),some (17,false),.not (.t 20)⟩,oJ 22 (.pick (.t 17) (.c (.p (.bool true))) (.t 21)),oM 23 22,⟨(some 24),some (23,false),.fldA 3 (.t 2)⟩,⟨(some 25),some (23,false),.ld none (.t 24)⟩,⟨(some 26),some (23,false),.len false (.t 25)⟩,⟨(some 27),some (23,false),.mov (.t 5)⟩,⟨(some 28),some (23,false),.mov (.t 6)⟩,⟨(some 29),some (23,false),.call cm [(.t 26),(.t 27),(.t 28)]⟩,⟨(some 30),some (23,false),.not (.t 29)⟩,oJ 31 (.pick (.t 23) (.c (.p (.bool true))) (.t 30))]) (.cond (.t 31) (.seq (.reg [oJ 4 (.mov (.c (.p (.bool false))))]) (.ret)) (.skip))) (.cut (.reg [oF 32 0 2,oL 33 32,oJ 34 (.bin .eql (.t 33) (.c (.p (.int .i64 2)))),oM 35 34,⟨(some 36),some (35,false),.fldA 0 (.t 2)⟩,⟨(some 37),some (35,false),.ld none (.t 36)⟩,⟨(some 38),some (35,false),.bin .eql (.t 37) (.c (.p (.int .i64 13)))⟩,oJ 39 (.pick (.t 35) (.c (.p (.bool true))) (.t 38)),oM 7 39]) (.cut (.seq (.reg [oM 40 7,oF 41 2 2,oL 42 41,oJ 43 (.call cT [(.t 42)]),oJ 44 (.beq true (.t 40) (.t 43)),oM 45 44,⟨(some 46),some (45,false),.mov (.t 7)⟩,⟨(some 47),some (45,false),.not (.t 46)⟩,⟨(some 48),some (45,false),.mov (.t 47)⟩,⟨(some 49),some (48,true),.fldA 2 (.t 2)⟩,⟨(some 50),some (48,true),.ld none (.t 49)⟩,⟨(some 51),some (48,true),.bins .neq (.t 50) (.c (.p (.str [])))⟩,⟨(some 52),some (45,false),.pick (.t 48) (.t 51) (.c (.p (.bool false)))⟩,oJ 53 (.pick (.t 45) (.c (.p (.bool true))) (.t 52)),oM 54 53,⟨(some 55),some (54,false),.fldA 1 (.t 2)⟩,⟨(some 56),some (54,false),.ld none (.t 55)⟩,⟨(some 57),some (54,false),.call cm [(.t 56),(.c (.p (.int .i64 0))),(.c (.p (.int .i64 255)))]⟩,⟨(some 58),some (54,false),.not (.t 57)⟩,oJ 59 (.pick (.t 54) (.c (.p (.bool true))) (.t 58)),oM 60 59,⟨(some 61),some (60,false),.fldA 0 (.t 2)⟩,⟨(some 62),some (60,false),.ld none (.t 61)⟩,⟨(some 63),some (60,false),.bin .neq (.t 62) (.c (.p (.int .i64 1)))⟩,⟨(some 64),some (60,false),.mov (.t 63)⟩,⟨(some 65),some (64,true),.fldA 1 (.t 2)⟩,⟨(some 66),some (64,true),.ld none (.t 65)⟩,⟨(some 67),some (64,true),.bin .neq (.t 66) (.c (.p (.int .i64 0)))⟩,⟨(some 68),some (60,false),.pick (.t 64) (.t 67) (.c (.p (.bool false)))⟩,oJ 69 (.pick (.t 60) (.c (.p (.bool true))) (.t 68))]) (.cond (.t 69) (.seq (.reg [oJ 4 (.mov (.c (.p (.bool false))))]) (.ret)) (.skip))) (.seq (.seq (.reg [oK 8 0]) (.blk 0 (.loop (.seq (.seq (.reg [oM 70 8,oF 71 3 2,oL 72 71,oJ 73 (.len false (.t 72)),oJ 74 (.bin .lss (.t 70) (.t 73))]) (.cond (.t 74) (.skip) (.exit 0))) (.seq (.blk 1 (.seq (.reg [oF 77 3 2,oL 78 77,oM 79 8,oJ 80 (.idxS 4 (.t 78) (.t 79)),oJ 81 (.ld (some 4) (.t 80)),oM 82 1,oJ 83 (.bin .sub (.t 82) (.c (.p (.int .i64 1)))),oJ 84 (.call fW [(.t 81),(.t 83)]),oJ 85 (.not (.t 84))]) (.cond (.t 85) (.seq (.reg [oJ 4 (.mov (.c (.p (.bool false))))]) (.ret)) (.skip)))) (.reg [oM 75 8,oJ 76 (.bin .add (.t 75) (.c (.p (.int .i64 1)))),oM 8 76])))))) (.seq (.reg [oJ 4 (.mov (.c (.p (.bool true))))]) (.ret)))))))
theorem vL:K_spec_l2Form.whole=F_spec_l2Form.ak:=rfl
def K_spec_l3Stmt:AK:= .seq (.reg [oJ 2 (.box 5 (.t 0)),oJ 4 (.mov (.c (.p (.bool false))))]) (.cut (.seq (.reg [oM 7 1,oJ 8 (.bin .lss (.t 7) (.c (.p (.int .i64 1)))),oM 9 8,⟨(some 10),some (9,false),.fldA 0 (.t 2)⟩,⟨(some 11),some (9,false),.ld none (.t 10)⟩,⟨(some 12),some (9,false),.call cm [(.t 11),(.c (.p (.int .i64 1))),(.c (.p (.int .i64 8)))]⟩,⟨(some 13),some (9,false),.not (.t 12)⟩,oJ 14 (.pick (.t 9) (.c (.p (.bool true))) (.t 13)),oM 15 14,⟨(some 16),some (15,false),.fldA 2 (.t 2)⟩,⟨(some 19),some (15,false),.fldA 0 (.t 2)⟩,⟨(some 17),some (15,false),.ld none (.t 16)⟩,⟨(some 18),some (15,false),.len false (.t 17)⟩,⟨(some 20),some (15,false),.ld none (.t 19)⟩,⟨(some 21),some (15,false),.qcall iP [(.t 20)]⟩,⟨(some 22),some (15,false),.bin .neq (.t 18) (.t 21)⟩,oJ 23 (.pick (.t 15) (.c (.p (.bool true))) (.t 22))]) (.cond (.t 23) (.seq (.reg [oJ 4 (.mov (.c (.p (.bool false))))]) (.ret)) (.skip))) (.cut (.reg [oF 24 0 2,oL 25 24,oJ 26 (.bin .eql (.t 25) (.c (.p (.int .i64 1)))),oM 27 26,⟨(some 28),some (27,false),.fldA 0 (.t 2)⟩,⟨(some 29),some (27,false),.ld none (.t 28)⟩,⟨(some 30),some (27,false),.bin .eql (.t 29) (.c (.p (.int .i64 2)))⟩,oJ 31 (.pick (.t 27) (.c (.p (.bool true))) (.t 30)),oM 5 31]) (.cut (.seq (.reg [oM 32 5,oF 33 1 2,oL 34 33,oJ 35 (.call cT [(.t 34)]),oJ 36 (.beq true (.t 32) (.t 35)),oM 37 36,⟨(some 38),some (37,false),.mov (.t 5)⟩,⟨(some 39),some (37,false),.not (.t 38)⟩,⟨(some 40),some (37,false),.mov (.t 39)⟩,⟨(some 41),some (40,true),.fldA 1 (.t 2)⟩,⟨(some 42),some (40,true),.ld none (.t 41)⟩,⟨(some 43),some (40,true),.bins .neq (.t 42) (.c (.p (.str [])))⟩,⟨(some 44),some (37,false),.pick (.t 40) (.t 43) (.c (.p (.bool false)))⟩,oJ 45 (.pick (.t 37) (.c (.p (.bool true))) (.t 44))]) (.cond (.t 45) (.seq (.reg [oJ 4 (.mov (.c (.p (.bool false))))]) (.ret)) (.skip))) (.seq (.seq (.reg [oK 6 0]) (.blk 0 (.loop (.seq (.seq (.reg [oM 46 6,oF 47 2 2,oL 48 47,oJ 49 (.len false (.t 48)),oJ 50 (.bin .lss (.t 46) (.t 49))]) (.cond (.t 50) (.skip) (.exit 0))) (.seq (.blk 1 (.seq (.reg [oF 53 2 2,oL 54 53,oM 55 6,oJ 56 (.idxS 4 (.t 54) (.t 55)),oJ 57 (.ld (some 4) (.t 56)),oJ 58 (.call ft [(.t 57)]),oJ 59 (.not (.t 58))]) (.cond (.t 59) (.seq (.reg [oJ 4 (.mov (.c (.p (.bool false))))]) (.ret)) (.skip)))) (.reg [oM 51 6,oJ 52 (.bin .add (.t 51) (.c (.p (.int .i64 1)))),oM 6 52])))))) (.cut (.seq (.reg [oF 60 0 2,oL 61 60,oJ 62 (.bin .eql (.t 61) (.c (.p (.int .i64 8)))),oM 63 62,⟨(some 64),some (63,true),.fldA 2 (.t 2)⟩,⟨(some 65),some (63,true),.ld none (.t 64)⟩,⟨(some 66),some (63,true),.idxS 4 (.t 65) (.c (.p (.int .i64 0)))⟩,⟨(some 67),some (63,true),.fldA 0 (.t 66)⟩,⟨(some 68),some (63,true),.ld none (.t 67)⟩,⟨(some 69),some (63,true),.bin .neq (.t 68) (.c (.p (.int .i64 13)))⟩,oJ 70 (.pick (.t 63) (.t 69) (.c (.p (.bool false))))]) (.cond (.t 70) (.seq (.reg [oJ 4 (.mov (.c (.p (.bool false))))]) (.ret)) (.skip))) (.cut (.seq (.reg [oF 71 4 2,oL 72 71,oJ 73 (.len false (.t 72)),oJ 74 (.bin .gtr (.t 73) (.c (.p (.int .i64 0)))),oM 75 74,⟨(some 76),some (75,true),.fldA 0 (.t 2)⟩,⟨(some 77),some (75,true),.ld none (.t 76)⟩,⟨(some 78),some (75,true),.bin .neq (.t 77) (.c (.p (.int .i64 5)))⟩,oJ 79 (.pick (.t 75) (.t 78) (.c (.p (.bool false)))),oM 80 79,⟨(some 81),some (80,false),.fldA 3 (.t 2)⟩,⟨(some 82),some (80,false),.ld none (.t 81)⟩,⟨(some 83),some (80,false),.len false (.t 82)⟩,⟨(some 84),some (80,false),.bin .gtr (.t 83) (.c (.p (.int .i64 0)))⟩,⟨(some 85),some (80,false),.mov (.t 84)⟩,⟨(some 86),some (85,true),.fldA 0 (.t 2)⟩,⟨(some 87),some (85,true),.ld none (.t 86)⟩,⟨(some 88),some (85,true),.bin .neq (.t 87) (.c (.p (.int .i64 5)))⟩,⟨(some 89),some (80,false),.pick (.t 85) (.t 88) (.c (.p (.bool false)))⟩,⟨(some 90),some (80,false),.mov (.t 89)⟩,⟨(some 91),some (90,true),.fldA 0 (.t 2)⟩,⟨(some 92),some (90,true),.ld none (.t 91)⟩,⟨(some 93),some (90,true),.bin .neq (.t 92) (.c (.p (.int .i64 6)))⟩,⟨(some 94),some (80,false),.pick (.t 90) (.t 93) (.c (.p (.bool false)))⟩,oJ 95 (.pick (.t 80) (.c (.p (.bool true))) (.t 94))]) (.cond (.t 95) (.seq (.reg [oJ 4 (.mov (.c (.p (.bool false))))]) (.ret)) (.skip))) (.seq (.reg [oF 96 3 2,oL 97 96,oM 98 1,oJ 99 (.bin .sub (.t 98) (.c (.p (.int .i64 1)))),oJ 100 (.call ck [(.t 97),(.t 99)]),oM 101 100,⟨(some 102),some (101,true),.fldA 4 (.t 2)⟩,⟨(some 103),some (101,true),.ld none (.t 102)⟩,⟨(some 104),some (101,true),.mov (.t 1)⟩,⟨(some 105),some (101,true),.bin .sub (.t 104) (.c (.p (.int .i64 1)))⟩,⟨(some 106),some (101,true),.call ck [(.t 103),(.t 105)]⟩,oJ 107 (.pick (.t 101) (.t 106) (.c (.p (.bool false)))),oM 4 107]) (.ret))))))))
theorem vZ:K_spec_l3Stmt.whole=F_spec_l3Stmt.ak:=rfl
variable (G:aC)
theorem tU(n lo hi:Int):VF Tryz.prog G cm [.p (.int .i64 n),.p (.int .i64 lo),.p (.int .i64 hi)] (.p (.bool (inR n lo hi))):=by
 refine AC.go yk ?_
 by_cases h:lo≤n
 ·simp-implicitDefEqProofs[mW,h,inR]
 ·simp-implicitDefEqProofs[mW,h,inR]
theorem zr(op:Int):VF Tryz.prog G iS [.p (.int .i64 op)] (.tup [.p (.int .i64 (loK op)),.p (.int .i64 (hiK op))]):=by
 refine AC.go vR ?_
 by_cases h1:op=1
 ·subst h1;simp-implicitDefEqProofs[dA,loK,hiK]
 by_cases h2:op=2
 ·subst h2;simp-implicitDefEqProofs[dA,loK,hiK]
 by_cases h3:op=11
 ·subst h3;simp-implicitDefEqProofs[dA,loK,hiK]
 by_cases h4:op=12
 ·subst h4;simp-implicitDefEqProofs[dA,loK,hiK]
 by_cases h5:op=13
 ·subst h5;simp-implicitDefEqProofs[dA,loK,hiK]
 simp-implicitDefEqProofs[dA,loK,hiK,h1,h2,h3,h4,h5]
theorem Ek:∀(d:Nat) (e:Ex),e.sz≤1099511627776→d≤1000→VF Tryz.prog G fW [.agg (e.cs.map .p),.p (.int .i64 d)] (.p (.bool (eb d e))):=by
 intro d
 induction d with
 |zero=>
  intro e he _
  refine AC.go pu ?_
  simp-implicitDefEqProofs[F_spec_l2Form,Ex.cs_eq]
  refine(zr G _).use ?_
  simp-implicitDefEqProofs[eb]
 |succ d ih=>
  intro e he hd
  have hsz:=e.sz_eq
  have hkl:=bi e.kids
  refine AC.goK pu vL ?_
  have hd1:¬(d:Int)+1<1:=by omega
  have hw:IntKind.i64.wrap ((d:Int)+1-1)=(d:Int):=by rw[show(d:Int)+1-1=d by omega];exact ah (by omega) (by omega)
  have hw':IntKind.i64.wrap (d:Int)=(d:Int):=ah (by omega) (by omega)
  have hxl:∀l,exL l= .lst 4 (l.map Ex.cs):=fun _=>rfl
  simp-implicitDefEqProofs[K_spec_l2Form,F_spec_l2Form,Ex.cs_eq]
  refine(zr G _).use ?_
  simp-implicitDefEqProofs[hd1]
  refine(tU G _ _ _).use ?_
  by_cases h1:inR e.op 1 13=true
  case neg=>simp-implicitDefEqProofs[h1,eb,lS]
  simp-implicitDefEqProofs[h1,hxl]
  refine(tU G _ _ _).use ?_
  by_cases h2:inR e.kids.length (loK e.op) (hiK e.op)=true
  case neg=>simp-implicitDefEqProofs[h2,eb,lS]
  simp-implicitDefEqProofs[h2]
  refine lg (al 86 [(1,.p (.int .i64 (d+1))),(2,.ptr 0 4 0 0),(7,.p (.bool (zn e.op)))]) [.row 4 [[.p (.int .i64 e.op),.p (.int .i64 e.n),.p (.str e.name),.p (.lst 4 (e.kids.map Ex.cs))]]] ?_ ?_
  ·by_cases o2:e.op=2
   ·simp-implicitDefEqProofs[o2]
    exact ab (by simp) (by simp[okO]) (by simp[below,zn])
   ·by_cases o13:e.op=13
    ·simp-implicitDefEqProofs[o13]
     exact ab (by simp) (by simp[okO]) (by simp[below,zn])
    ·simp-implicitDefEqProofs[o2,o13]
     exact ab (by simp) (by simp[okO]) (by simp[below,zn,o2,o13])
  have hn:e.name.length≤140737488355328:=by omega
  refine tP (fun _:Unit=>al 86 [(1,.p (.int .i64 ((d:Int)+1))),(2,.ptr 0 4 0 0)]) (fun _=>[.row 4 [[.p (.int .i64 e.op),.p (.int .i64 e.n),.p (.str e.name),.p (.lst 4 (e.kids.map Ex.cs))]]]) (fun _=>lS e=true) ?_ ?_
  ·simp-implicitDefEqProofs[]
   refine(rc G _ hn).use ?_
   simp-implicitDefEqProofs[]
   repeat' first
    |(refine(tU G _ _ _).use ?_;simp-implicitDefEqProofs[])
    |(refine bc (fun hc=>?_) (fun hc=>?_)<;>simp-implicitDefEqProofs[hc])
   all_goals first
    |exact⟨by simp_all [lS],ab (by simp) (by simp[okO]) (by simp[below])⟩
    |simp_all [eb,lS]
  intro _ hh
  simp-implicitDefEqProofs[]
  refine aN (fun i:Nat=>al 86 [(1,.p (.int .i64 ((d:Int)+1))),(2,.ptr 0 4 0 0),(8,.p (.int .i64 i))]) (fun _=>[.row 4 [[.p (.int .i64 e.op),.p (.int .i64 e.n),.p (.str e.name),.p (.lst 4 (e.kids.map Ex.cs))]]])
   (fun i=>i≤e.kids.length∧(e.kids.take i).all (eb d)=true) (fun i=>e.kids.length-i) 0 (by simp) (ab (by simp) (by simp[okO]) (by simp[below])) ?_
  intro i ⟨hi,hall⟩
  simp-implicitDefEqProofs[]
  refine bc (fun h=>?_) (fun h=>?_)
  ·simp at h
   have hg:=List.getElem?_eq_getElem h
   have hks:=bj (List.getElem_mem h)
   simp-implicitDefEqProofs[hg,hw']
   refine(ih e.kids[i] (by omega) (by omega)).use ?_
   by_cases hk:eb d e.kids[i]=true
   ·simp-implicitDefEqProofs[hk]
    refine⟨i+1,⟨h,by rw[←List.all_eq_true,eD h,hall,hk];rfl⟩,by omega,ab (by simp) (by simp[okO]) ?_⟩
    simp[below,w1 (i:=i) (by omega)]
   ·have hk':eb d e.kids[i]=false:=by simpa using hk
    have hf:eb (d+1) e=false:=by simp only[eb,mf h hk',Bool.and_false]
    simp-implicitDefEqProofs[hk',hf]
  ·simp at h
   have hf:eb (d+1) e=true:=by simp only[eb,gY h hall,hh,Bool.and_self]
   simp-implicitDefEqProofs[hf]
theorem Dt{l:List Ex}{i:Nat}(h:i<l.length):bt (l.take (i+1))=bt (l.take i)+l[i].parts:=by
 rw[an h,eU];simp[bt]
theorem xb(l:List Ex)(i:Nat):bt (l.take i)≤bt l:=by
 have:=eU (l.take i) (l.drop i)
 rw[List.take_append_drop] at this
 omega
theorem Dk:∀(k:Nat) (e:Ex),e.sz≤k→k≤1099511627776→VF Tryz.prog G hY [.agg (e.cs.map .p)] (.p (.int .i64 e.parts)):=by
 intro k
 induction k with
 |zero=>intro e he;have:=e.sz_eq;omega
 |succ k ih=>
  intro e he hk
  have hsz:=e.sz_eq
  have hkl:=bi e.kids
  have hpe:=e.parts_eq
  have hpz:=qD e.kids
  refine AC.go vG ?_
  have hxl:∀l,exL l= .lst 4 (l.map Ex.cs):=fun _=>rfl
  simp-implicitDefEqProofs[ng,Ex.cs_eq,hxl]
  refine aN (fun i:Nat=>al 21 [(1,.ptr 0 4 0 0),(3,.p (.int .i64 ((1+bt (e.kids.take i):Nat):Int))),(4,.p (.int .i64 i))]) (fun _=>[.row 4 [[.p (.int .i64 e.op),.p (.int .i64 e.n),.p (.str e.name),.p (.lst 4 (e.kids.map Ex.cs))]]])
   (fun i=>i≤e.kids.length) (fun i=>e.kids.length-i) 0 (by simp) (ab (by simp) (by simp[okO]) (by simp[below,bt])) ?_
  intro i hi
  simp-implicitDefEqProofs[]
  refine bc (fun h=>?_) (fun h=>?_)
  ·simp at h
   have hg:=List.getElem?_eq_getElem h
   have hks:=bj (List.getElem_mem h)
   have hps:=Dt h
   have hple:=xb e.kids (i+1)
   simp-implicitDefEqProofs[hg]
   refine(ih e.kids[i] (by omega) (by omega)).use ?_
   have hw:IntKind.i64.wrap (1+(bt (e.kids.take i):Int)+(e.kids[i].parts:Int))=((1+bt (e.kids.take (i+1)):Nat):Int):=by rw[ah (by omega) (by omega)];omega
   simp-implicitDefEqProofs[hw]
   exact⟨i+1,h,by omega,ab (by simp) (by simp[okO]) (by simp[below,w1 (i:=i) (by omega)])⟩
  ·simp at h
   rw[List.take_of_length_le h]
   simp-implicitDefEqProofs[]
   omega
theorem zJ(e:Ex)(he:e.sz≤1099511627776):VF Tryz.prog G ft [.agg (e.cs.map .p)] (.p (.bool (iX e))):=by
 refine AC.go rY ?_
 simp-implicitDefEqProofs[lO]
 have h6:=Ek G 6 e he (by omega)
 refine h6.use ?_
 by_cases h:eb 6 e=true
 ·simp-implicitDefEqProofs[h]
  refine(Dk G _ e (Nat.le_refl _) he).use ?_
  simp-implicitDefEqProofs[iX,h]
  omega
 ·simp-implicitDefEqProofs[h,iX]
theorem Gj(op:Int):VF Tryz.prog G iP [.p (.int .i64 op)] (.p (.int .i64 (jQ op))):=by
 refine AC.go wn ?_
 by_cases h:op=4
 ·simp-implicitDefEqProofs[lh,h,jQ]
 ·simp-implicitDefEqProofs[lh,h,jQ]
theorem sL(d:Nat)(hd:d≤1000)(hs:∀s:Sm,s.sz≤1099511627776→VF Tryz.prog G iM [.agg (s.cs.map .p),.p (.int .i64 d)] (.p (.bool (aH d s))))(l:List Sm)(hl:am l≤1099511627776):
 VF Tryz.prog G ck [.p (smL l),.p (.int .i64 d)] (.p (.bool (l.all (aH d)))):=by
 refine AC.go uw ?_
 have hll:=bA l
 have hsl:∀l,smL l= .lst 5 (l.map Sm.cs):=fun _=>rfl
 simp-implicitDefEqProofs[nX]
 refine aN (fun i:Nat=>al 19 [(0,.p (smL l)),(1,.p (.int .i64 d)),(5,.p (.int .i64 i))]) (fun _=>[]) (fun i=>i≤l.length∧(l.take i).all (aH d)=true) (fun i=>l.length-i) 0 (by simp) (bk rfl (by simp[below,hsl])) ?_
 intro i ⟨hi,hall⟩
 simp-implicitDefEqProofs[hsl]
 refine bc (fun h=>?_) (fun h=>?_)
 ·simp at h
  have hg:=List.getElem?_eq_getElem h
  have hks:=bY (List.getElem_mem h)
  simp-implicitDefEqProofs[hg]
  refine(hs l[i] (by omega)).use ?_
  by_cases hk:aH d l[i]=true
  ·simp-implicitDefEqProofs[hk]
   exact⟨i+1,⟨h,by rw[←List.all_eq_true,eD h,hall,hk];rfl⟩,by omega,bk rfl (by simp[below,hsl,w1 (i:=i) (by omega)])⟩
  ·have hk':aH d l[i]=false:=by simpa using hk
   have hf:=mf h hk'
   simp-implicitDefEqProofs[hk',hf]
 ·simp at h
  have hf:=gY h hall
  simp-implicitDefEqProofs[hf]
theorem Fb:∀(d:Nat),d≤1000→∀s:Sm,s.sz≤1099511627776→VF Tryz.prog G iM [.agg (s.cs.map .p),.p (.int .i64 d)] (.p (.bool (aH d s))):=by
 intro d
 induction d with
 |zero=>
  intro _ s _
  refine AC.go pM ?_
  simp-implicitDefEqProofs[F_spec_l3Stmt,Sm.cs_eq,aH]
 |succ d ih=>
  intro hd s he
  have hsz:=s.sz_eq
  have hal:=bi s.args
  have hbl:=bA s.body
  have hel:=bA s.els
  have ihs:=sL G d (by omega) (ih (by omega))
  refine AC.goK pM vZ ?_
  have hd1:¬(d:Int)+1<1:=by omega
  have hw':IntKind.i64.wrap (d:Int)=(d:Int):=ah (by omega) (by omega)
  have hxl:∀l,exL l= .lst 4 (l.map Ex.cs):=fun _=>rfl
  have hsl:∀l,smL l= .lst 5 (l.map Sm.cs):=fun _=>rfl
  have hn:s.name.length≤140737488355328:=by omega
  simp-implicitDefEqProofs[K_spec_l3Stmt,F_spec_l3Stmt,Sm.cs_eq]
  generalize hH:[AO.row 5 [[AV.p (.int .i64 s.op),.p (.str s.name),.p (exL s.args),.p (smL s.body),.p (smL s.els)]]]=H
  have hho:∀o∈H,okO H.length o:=by rw[←hH];simp[okO]
  have hhl:0<H.length:=by rw[←hH];simp
  have hh0:H[0]?=some (AO.row 5 [[AV.p (.int .i64 s.op),.p (.str s.name),.p (exL s.args),.p (smL s.body),.p (smL s.els)]]):=by rw[←hH];rfl
  have hhL:H.length=1:=by rw[←hH];rfl
  refine tP (fun _:Unit=>al 108 [(1,.p (.int .i64 ((d:Int)+1))),(2,.ptr 0 5 0 0)]) (fun _=>H) (fun _=>inR s.op 1 8=true∧s.args.length=jQ s.op) ?_ ?_
  ·simp-implicitDefEqProofs[hd1,hh0]
   refine(tU G _ _ _).use ?_
   by_cases h1:inR s.op 1 8=true
   case neg=>simp-implicitDefEqProofs[h1,aH,fY]
   simp-implicitDefEqProofs[h1,hh0,hxl]
   refine(Gj G _).useQ ?_
   by_cases h2:s.args.length=jQ s.op
   ·simp-implicitDefEqProofs[h2]
    exact ab (by omega) hho (by simp[below,hhl])
   ·have h2':¬(s.args.length:Int)=(jQ s.op:Int):=by omega
    simp-implicitDefEqProofs[h2,h2',aH,fY]
  intro _ ⟨h1,h2⟩
  refine tP (fun _:Unit=>al 108 [(1,.p (.int .i64 ((d:Int)+1))),(2,.ptr 0 5 0 0),(5,.p (.bool (cV s.op)))]) (fun _=>H) (fun _=>True) ?_ ?_
  ·simp-implicitDefEqProofs[hh0]
   by_cases o1:s.op=1
   ·simp-implicitDefEqProofs[o1,hh0,cV]
    exact ab (by omega) hho (by simp[below,hhl])
   ·by_cases o2:s.op=2
    ·simp-implicitDefEqProofs[o2,hh0,cV]
     exact ab (by omega) hho (by simp[below,hhl])
    ·simp-implicitDefEqProofs[o1,o2,hh0,cV]
     exact ab (by omega) hho (by simp[below,hhl])
  intro _ _
  refine tP (fun _:Unit=>al 108 [(1,.p (.int .i64 ((d:Int)+1))),(2,.ptr 0 5 0 0)]) (fun _=>H) (fun _=>(cV s.op==aD s.name)=true∧(cV s.op||decide (s.name=[]))=true) ?_ ?_
  ·simp-implicitDefEqProofs[hh0]
   refine(rc G _ hn).use ?_
   simp-implicitDefEqProofs[hh0]
   repeat' first
    |(refine bc (fun hc=>?_) (fun hc=>?_)<;>simp-implicitDefEqProofs[hc,hh0])
   all_goals first
    |exact ab (by omega) hho (by simp[below,hhl])
    |exact⟨by simp_all,by simp_all,ab (by omega) hho (by simp[below,hhl])⟩
    |exact⟨by simp_all,ab (by omega) hho (by simp[below,hhl])⟩
    |(simp_all [aH,fY];done)
  intro _ ⟨h3,h4⟩
  simp-implicitDefEqProofs[]
  refine aN (fun i:Nat=>al 108 [(1,.p (.int .i64 ((d:Int)+1))),(2,.ptr 0 5 0 0),(6,.p (.int .i64 i))]) (fun _=>H) (fun i=>i≤s.args.length∧(s.args.take i).all iX=true) (fun i=>s.args.length-i) 0 (by simp) (ab (by omega) hho (by simp[below,hhl])) ?_
  intro i ⟨hi,hall⟩
  simp-implicitDefEqProofs[hh0,hxl]
  refine bc (fun h=>?_) (fun h=>?_)
  ·simp at h
   have hg:=List.getElem?_eq_getElem h
   have hks:=bj (List.getElem_mem h)
   simp-implicitDefEqProofs[hg,hh0,hxl]
   refine(zJ G s.args[i] (by omega)).use ?_
   by_cases hk:iX s.args[i]=true
   ·simp-implicitDefEqProofs[hk]
    exact⟨i+1,⟨h,by rw[←List.all_eq_true,eD h,hall,hk];rfl⟩,by omega,ab (by omega) hho (by simp[below,hhl,w1 (i:=i) (by omega)])⟩
   ·have hk':iX s.args[i]=false:=by simpa using hk
    have hf:aH (d+1) s=false:=by simp only[aH,fY,mf h hk',Bool.and_false,Bool.false_and]
    simp-implicitDefEqProofs[hk',hf]
  simp at h
  have h5:s.args.all iX=true:=gY h hall
  have hlen1:1≤s.args.length:=by rw[h2];unfold jQ;split<;>omega
  obtain⟨a0,ar,ha⟩:∃a r,s.args=a::r:=by
   cases hh:s.args with
   |nil=>rw[hh] at hlen1;simp at hlen1
   |cons a r=>exact⟨a,r,rfl⟩
  have ha0:s.args[0]?=some a0:=by rw[ha];rfl
  refine tP (fun _:Unit=>al 108 [(1,.p (.int .i64 ((d:Int)+1))),(2,.ptr 0 5 0 0)]) (fun _=>H) (fun _=>(!decide (s.op=8)||decide (a0.op=13))=true) ?_ ?_
  ·simp-implicitDefEqProofs[hh0]
   by_cases o8:s.op=8
   ·have hae:=a0.cs_eq
    simp-implicitDefEqProofs[o8,hh0,hxl,ha0,hae]
    refine bc (fun hc=>?_) (fun hc=>?_)
    ·simp at hc
     have hf:aH (d+1) s=false:=by simp[aH,fY,o8,ha,hc]
     simp-implicitDefEqProofs[hf]
    ·simp at hc
     simp-implicitDefEqProofs[hc]
     exact ab (by omega) hho (by simp[below,hhl])
   ·simp-implicitDefEqProofs[o8,hh0]
    exact ab (by omega) hho (by simp[below,hhl])
  intro _ h6
  refine tP (fun _:Unit=>al 108 [(1,.p (.int .i64 ((d:Int)+1))),(2,.ptr 0 5 0 0)]) (fun _=>H) (fun _=>(s.els.isEmpty||decide (s.op=5))=true∧(s.body.isEmpty||decide (s.op=5)||decide (s.op=6))=true) ?_ ?_
  ·have hf:¬((s.els.isEmpty||decide (s.op=5))=true∧(s.body.isEmpty||decide (s.op=5)||decide (s.op=6))=true)→aH (d+1) s=false:=fun h=>by
    have:fY s=false:=by
     cases hx:fY s with
     |false=>rfl
     |true=>refine absurd ?_ h;simp only[fY,Bool.and_eq_true] at hx;exact⟨hx.1.2,hx.2⟩
    simp[aH,this]
   have pe:¬s.els=[]→0<s.els.length:=List.length_pos_iff.2
   have pb:¬s.body=[]→0<s.body.length:=List.length_pos_iff.2
   by_cases o5:s.op=5
   ·simp-implicitDefEqProofs[hh0,hsl,o5]
    repeat' first
     |(refine bc (fun hc=>?_) (fun hc=>?_)<;>simp-implicitDefEqProofs[hc,hh0,hsl,o5])
    all_goals exact ab (by omega) hho (by simp[below,hhl])
   by_cases e1:s.els=[]
   case neg=>
    have hf:=hf (by simp[e1,o5])
    have:=pe e1
    simp-implicitDefEqProofs[hh0,hsl,o5,e1,this,hf]
   by_cases e2:s.body=[]
   ·simp-implicitDefEqProofs[hh0,hsl,o5,e1,e2]
    exact ab (by omega) hho (by simp[below,hhl])
   have:=pb e2
   by_cases o6:s.op=6
   ·simp-implicitDefEqProofs[hh0,hsl,o6,e1,e2,this]
    exact ab (by omega) hho (by simp[below,hhl])
   ·have hf:=hf (by simp[e2,o5,o6])
    simp-implicitDefEqProofs[hh0,hsl,o5,o6,e1,e2,this,hf]
  intro _ ⟨h7,h8⟩
  have hm:(match s.args with|a::_=>decide (a.op=13)|[]=>false)=decide (a0.op=13):=by rw[ha]
  have hhd:fY s=true:=by
   have h6':(!decide (s.op=8)||(match s.args with|a::_=>decide (a.op=13)|[]=>false))=true:=by rw[hm];exact h6
   have h2':decide (s.args.length=jQ s.op)=true:=by simp[h2]
   simp only[fY,h1,h2',h3,h4,h5,h7,h8,Bool.and_self,Bool.and_true,Bool.true_and]
   exact h6'
  simp-implicitDefEqProofs[hh0,hw']
  refine(ihs s.body (by omega)).use ?_
  by_cases hB:s.body.all (aH d)=true
  ·simp only[hB]
   simp-implicitDefEqProofs[hh0,hw']
   refine(ihs s.els (by omega)).use ?_
   have hf:aH (d+1) s=s.els.all (aH d):=by simp only[aH,hhd,hB,Bool.true_and]
   rw[hf]
   generalize s.els.all (aH d)=w
   simp-implicitDefEqProofs[]
  ·have hB':s.body.all (aH d)=false:=by simpa using hB
   have hf:aH (d+1) s=false:=by simp only[aH,hB',Bool.and_false,Bool.false_and]
   simp only[hB',hf]
   simp-implicitDefEqProofs[]
theorem DL(d:Nat)(hd:d≤1000)(l:List Sm)(hl:am l≤1099511627776):VF Tryz.prog G ck [.p (smL l),.p (.int .i64 d)] (.p (.bool (l.all (aH d)))):=
 sL G d hd (Fb G d hd) l hl
theorem Kt(f:Fd)(hf:f.sz≤1099511627776):VF Tryz.prog G ny [.agg (f.cs.map .p)] (.p (.bool (ig f))):=by
 refine AC.go zx ?_
 have hsz:f.sz=1+f.name.length+(f.params.length+(f.params.map List.length).sum)+am f.body:=rfl
 have hps:∀x∈f.params,x.length≤(f.params.map List.length).sum:=fun x hx=>by
  have key:∀l:List (List UInt8),x∈l→x.length≤(l.map List.length).sum:=by
   intro l
   induction l with
   |nil=>intro h;cases h
   |cons y r ih=>
    intro h
    simp only[List.map_cons,List.sum_cons]
    rcases List.mem_cons.1 h with rfl|h
    ·omega
    ·have:=ih h;omega
  exact key _ hx
 have hst:au f.params= .lst 1 (f.params.map fun w=>[.str w]):=rfl
 have h4:=DL G 4 (by omega) f.body (by omega)
 simp-implicitDefEqProofs[sJ,Fd.cs,hst]
 refine aN (fun i:Nat=>al 32 [(1,.ptr 0 3 0 0),(3,.p (.int .i64 i))]) (fun _=>[.row 3 [[.p (.str f.name),.p (au f.params),.p (smL f.body)]]]) (fun i=>i≤f.params.length∧(f.params.take i).all aD=true) (fun i=>f.params.length-i) 0 (by simp) (ab (by simp) (by simp[okO]) (by simp[below])) ?_
 intro i ⟨hi,hall⟩
 simp-implicitDefEqProofs[hst]
 refine bc (fun h=>?_) (fun h=>?_)
 ·simp at h
  have hg:=List.getElem?_eq_getElem h
  have hl:=hps _ (List.getElem_mem h)
  simp-implicitDefEqProofs[hg]
  refine(rc G _ (by omega)).use ?_
  by_cases hk:aD f.params[i]=true
  ·simp-implicitDefEqProofs[hk]
   exact⟨i+1,⟨h,by rw[←List.all_eq_true,eD h,hall,hk];rfl⟩,by omega,ab (by simp) (by simp[okO]) (by simp[below,w1 (i:=i) (by omega)])⟩
  ·have hk':aD f.params[i]=false:=by simpa using hk
   have hff:ig f=false:=by simp only[ig,mf h hk',Bool.false_and]
   simp-implicitDefEqProofs[hk',hff]
 ·simp at h
  have h1:f.params.all aD=true:=gY h hall
  simp-implicitDefEqProofs[]
  refine(rc G _ (by omega)).use ?_
  by_cases h2:aD f.name=true
  case neg=>
   have h2':aD f.name=false:=by simpa using h2
   simp-implicitDefEqProofs[h2',ig]
  simp-implicitDefEqProofs[h2]
  by_cases h3:f.params.length≤3
  case neg=>
   have h3':¬(f.params.length:Int)≤3:=by omega
   simp-implicitDefEqProofs[h3,h3',ig]
  have h3':(f.params.length:Int)≤3:=by omega
  simp-implicitDefEqProofs[h3']
  refine h4.use ?_
  have hff:ig f=f.body.all (aH 4):=by simp only[ig,h1,h2,h3,decide_true,Bool.true_and]
  rw[hff]
  generalize f.body.all (aH 4)=w
  simp-implicitDefEqProofs[]
theorem CW{l:List Sm}{i:Nat}(h:i<l.length):cW (l.take (i+1))=cW (l.take i)+l[i].cnt:=by
 rw[an h,nQ];simp[cW]
theorem qF(l:List Sm)(i:Nat):cW (l.take i)≤cW l:=by
 have:=nQ (l.take i) (l.drop i)
 rw[List.take_append_drop] at this
 omega
def kK(l:List Sm)(i:Nat):Nat:=l.length+((l.take i).map fun s=>cW s.body+cW s.els).sum
theorem As(l:List Sm):kK l 0=l.length:=by simp[kK]
theorem ux{l:List Sm}{i:Nat}(h:i<l.length):kK l (i+1)=kK l i+cW l[i].body+cW l[i].els:=by
 rw[kK,kK,an h,List.map_append,List.sum_append]
 simp only[List.map_cons,List.map_nil,List.sum_cons,List.sum_nil]
 omega
theorem rD(l:List Sm):∀i,i≤l.length→cW (l.take i)+l.length=i+kK l i
 |0,_=>by simp[cW,kK]
 |i+1,h=>by
  have:=rD l i (by omega)
  rw[CW (by omega),ux (by omega),(l[i]'(by omega)).cnt_eq]
  omega
theorem Dm:∀(k:Nat) (l:List Sm),am l≤k→k≤1099511627776→VF Tryz.prog G eV [.p (smL l)] (.p (.int .i64 (cW l))):=by
 intro k
 induction k with
 |zero=>
  intro l hl _
  have:l=[]:=by
   cases l with
   |nil=>rfl
   |cons s r=>have:=s.sz_eq;simp only[am] at hl;omega
  subst this
  refine AC.go nc ?_
  have hsl:smL []= .lst 5 []:=rfl
  simp-implicitDefEqProofs[jK,hsl]
  refine aN (fun _:Unit=>al 29 [(0,.p (.lst 5 [])),(3,.p (.int .i64 0)),(4,.p (.int .i64 0))]) (fun _=>[]) (fun _=>True) (fun _=>0) () trivial (bk rfl (by simp[below])) ?_
  intro _ _
  simp-implicitDefEqProofs[cW]
 |succ k ih=>
  intro l hl hk
  have hll:=bA l
  have hnz:=ma l
  refine AC.go nc ?_
  have hsl:∀l,smL l= .lst 5 (l.map Sm.cs):=fun _=>rfl
  simp-implicitDefEqProofs[jK,hsl]
  refine aN (fun i:Nat=>al 29 [(0,.p (smL l)),(3,.p (.int .i64 (kK l i))),(4,.p (.int .i64 i))]) (fun _=>[]) (fun i=>i≤l.length) (fun i=>l.length-i) 0 (by simp) (bk rfl (by simp[below,hsl,As])) ?_
  intro i hi
  have k0:=rD l i hi
  have k2:=qF l i
  simp-implicitDefEqProofs[hsl]
  refine bc (fun h=>?_) (fun h=>?_)
  ·simp at h
   have hg:=List.getElem?_eq_getElem h
   have hks:=bY (List.getElem_mem h)
   have hse:=l[i].sz_eq
   have hce:=l[i].cs_eq
   have k1:=ux h
   have k3:=rD l (i+1) h
   have k4:=qF l (i+1)
   simp-implicitDefEqProofs[hg,hce]
   refine(ih l[i].body (by omega) (by omega)).use ?_
   simp-implicitDefEqProofs[hg,hce]
   refine(ih l[i].els (by omega) (by omega)).use ?_
   have w1':IntKind.i64.wrap ((kK l i:Int)+(cW l[i].body:Int))=(kK l i:Int)+(cW l[i].body:Int):=ah (by omega) (by omega)
   have w2':IntKind.i64.wrap ((kK l i:Int)+(cW l[i].body:Int)+(cW l[i].els:Int))=(kK l (i+1):Int):=by rw[ah (by omega) (by omega)];omega
   simp-implicitDefEqProofs[w1',w2']
   exact⟨i+1,h,by omega,bk rfl (by simp[below,hsl,w1 (i:=i) (by omega)])⟩
  ·simp at h
   rw[List.take_of_length_le h] at k0
   have:kK l i=cW l:=by omega
   simp-implicitDefEqProofs[this]
theorem cg:∀{l:List Fd} {f:Fd},f∈l→f.sz≤aO l
 |x::r,e,h=>by
  simp only[aO,List.map_cons,List.sum_cons]
  rcases List.mem_cons.1 h with rfl|h
  ·omega
  ·have:=cg h;simp only[aO] at this;omega
theorem bX:∀l:List Fd,l.length≤aO l
 |[]=>Nat.le_refl _
 |e::r=>by have:=bX r;simp only[aO,List.map_cons,List.sum_cons,List.length_cons] at this⊢;have:1≤e.sz:=by unfold Fd.sz;omega
           omega
def vo(l:List Fd)(i:Nat):Nat:=fy (l.take i)
theorem DB{l:List Fd}{i:Nat}(h:i<l.length):vo l (i+1)=vo l i+cW l[i].body:=by
 rw[vo,vo,fy,fy,an h,List.map_append,List.sum_append];simp
theorem xR:∀l:List Fd,fy l≤aO l
 |[]=>Nat.le_refl _
 |f::r=>by
  have:=xR r
  have h2:=ma f.body
  simp only[fy,aO,List.map_cons,List.sum_cons] at this⊢
  have:am f.body≤f.sz:=by unfold Fd.sz;omega
  omega
theorem IT(l:List Fd)(i:Nat):vo l i≤aO l:=by
 have h1:=xR (l.take i)
 have h2:aO (l.take i)≤aO l:=by
  have:aO l=aO (l.take i)+aO (l.drop i):=by
   rw[←List.take_append_drop i l,aO,List.map_append,List.sum_append];simp[aO]
  omega
 exact Nat.le_trans h1 h2
theorem Ho(l:List Fd)(hl:aO l≤1099511627776):VF Tryz.prog G mh [.agg [.p (fdL l)]] (.p (.int .i64 (fy l))):=by
 refine AC.go xT ?_
 have hll:=bX l
 have hfl:∀l,fdL l= .lst 3 (l.map Fd.cs):=fun _=>rfl
 simp-implicitDefEqProofs[ra]
 refine aN (fun i:Nat=>al 22 [(1,.ptr 0 1 0 0),(3,.p (.int .i64 (vo l i))),(4,.p (.int .i64 i))]) (fun _=>[.row 1 [[.p (fdL l)]]]) (fun i=>i≤l.length) (fun i=>l.length-i) 0 (by simp) (ab (by simp) (by simp[okO]) (by simp[below,vo,fy])) ?_
 intro i hi
 simp-implicitDefEqProofs[hfl]
 refine bc (fun h=>?_) (fun h=>?_)
 ·simp at h
  have hg:=List.getElem?_eq_getElem h
  have hks:=cg (List.getElem_mem h)
  have hse:l[i].sz=1+l[i].name.length+(l[i].params.length+(l[i].params.map List.length).sum)+am l[i].body:=rfl
  have hce:l[i].cs=[.str l[i].name,au l[i].params,smL l[i].body]:=rfl
  have k1:=DB h
  have k2:=IT l (i+1)
  simp-implicitDefEqProofs[hg,hce]
  refine(Dm G _ l[i].body (Nat.le_refl _) (by omega)).use ?_
  have w1':IntKind.i64.wrap ((vo l i:Int)+(cW l[i].body:Int))=(vo l (i+1):Int):=by rw[ah (by omega) (by omega)];omega
  simp-implicitDefEqProofs[w1']
  exact⟨i+1,h,by omega,ab (by simp) (by simp[okO]) (by simp[below,w1 (i:=i) (by omega),hfl])⟩
 ·simp at h
  have:vo l i=fy l:=by rw[vo,List.take_of_length_le h]
  simp-implicitDefEqProofs[this]
theorem ke(l:List Fd)(hl:aO l≤1099511627776):VF Tryz.prog G dH [.agg [.p (fdL l)]] (.p (.bool (bu l))):=by
 refine AC.go oQ ?_
 have hfl:∀l,fdL l= .lst 3 (l.map Fd.cs):=fun _=>rfl
 have hall:=Ho G l hl
 have hll:=bX l
 rw[hfl] at hall
 simp-implicitDefEqProofs[jw,hfl]
 refine(tU G _ _ _).use ?_
 by_cases h1:inR l.length 1 4=true
 case neg=>simp-implicitDefEqProofs[h1,bu]
 simp-implicitDefEqProofs[h1]
 refine aN (fun i:Nat=>al 26 [(1,.ptr 0 1 0 0),(3,.p (.int .i64 i))]) (fun _=>[.row 1 [[.p (.lst 3 (l.map Fd.cs))]]]) (fun i=>i≤l.length∧(l.take i).all ig=true) (fun i=>l.length-i) 0 (by simp) (ab (by simp) (by simp[okO]) (by simp[below])) ?_
 intro i ⟨hi,ha⟩
 simp-implicitDefEqProofs[]
 refine bc (fun h=>?_) (fun h=>?_)
 ·simp at h
  have hg:=List.getElem?_eq_getElem h
  have hks:=cg (List.getElem_mem h)
  simp-implicitDefEqProofs[hg]
  refine(Kt G l[i] (by omega)).use ?_
  by_cases hk:ig l[i]=true
  ·simp-implicitDefEqProofs[hk]
   exact⟨i+1,⟨h,by rw[←List.all_eq_true,eD h,ha,hk];rfl⟩,by omega,ab (by simp) (by simp[okO]) (by simp[below,w1 (i:=i) (by omega)])⟩
  ·have hk':ig l[i]=false:=by simpa using hk
   have hff:bu l=false:=by simp only[bu,mf h hk',Bool.and_false,Bool.false_and]
   simp-implicitDefEqProofs[hk',hff]
 ·simp at h
  have h2:l.all ig=true:=gY h ha
  simp-implicitDefEqProofs[]
  refine hall.use ?_
  have hff:bu l=decide (fy l≤40):=by simp only[bu,h1,h2,Bool.true_and]
  simp-implicitDefEqProofs[hff]
  omega
end Go.Proofs.YtnjbhgpbgmpkcaaGreatDoor
namespace Go.Proofs.YtnjbhgpbgmpkcaaGreatDoor
open Go Go.Aw
set_option maxRecDepth 100000
set_option maxHeartbeats 4000000
theorem dQ{n:Nat}{h h1:List AO}(e:h.take n=h1)(hn:h1.length=n)(ho:∀o∈h1,okO n o):Fst n h h1:=by
 have hl:n≤h.length:=by
  have:=congrArg List.length e
  rw[List.length_take] at this;omega
 have hg:∀(i:Nat) (o:AO),h1[i]?=some o→h[i]?=some o:=fun i o hi=>by
  have h2:=(List.getElem?_eq_some_iff.1 hi).1
  rw[←e,List.getElem?_take_of_lt (by omega)] at hi
  exact hi
 exact⟨hn,hl,fun i sz es hi=>⟨hg _ _ hi,ho _ (List.mem_of_getElem? hi)⟩,fun i es hi=>⟨hg _ _ hi,ho _ (List.mem_of_getElem? hi)⟩,fun i s p hi=>hg _ _ hi⟩
theorem wJ:∀(r:List AO) (s:Nat),((jb (List.range' s r.length++[0]) (r++[.dead])).Nodup∧∀i∈jb (List.range' s r.length++[0]) (r++[.dead]),s≤i)
 |[],s=>by simp[jb]
 |o::r,s=>by
  obtain⟨h1,h2⟩:=wJ r (s+1)
  rw[List.length_cons,List.range'_succ]
  cases o with
  |dead=>exact⟨h1,fun i hi=>Nat.le_of_succ_le (h2 i hi)⟩
  |_=>exact⟨List.nodup_cons.2 ⟨fun hm=>absurd (h2 _ hm) (by omega),h1⟩,fun i hi=>by
   rcases List.mem_cons.1 hi with rfl|hi
   ·exact Nat.le_refl _
   ·exact Nat.le_of_succ_le (h2 i hi)⟩
theorem ya{h:List AO}(hp:0<h.length)(ho:∀o∈h,okO h.length o):∀(r:List AO) (s:Nat),(∀i:Nat,r[i]?=h[s+i]?)→s+r.length=h.length→HW (List.range' 0 h.length++[0]) h (List.range' s r.length++[0]) (r++[.dead])
 |[],s,_,_=>eL hp cQ
 |o::r,s,hr,hs=>by
  have hσ:∀i,i<h.length→(List.range' 0 h.length++[0]).getD i 0=i:=fun i hi=>by
   rw[List.getD_eq_getElem?_getD,List.getElem?_append_left (by simp;exact hi)];simp[hi]
  rw[List.length_cons,List.range'_succ]
  have h0:=hr 0
  have ih:=ya hp ho r (s+1) (fun i=>by have:=hr (i+1);rw[List.getElem?_cons_succ] at this;rw[this];congr 1;omega) (by simp at hs;omega)
  have hm:h[s]?=some o:=by simpa using h0.symm
  have hok:=ho o (List.mem_of_getElem? hm)
  cases o with
  |dead=>exact eL (List.getElem?_eq_some_iff.1 hm).1 ih
  |row sz es=>
   refine cr (fun x hx=>az (by simp) _ (hok x hx)) ?_ ih
   rw[hm,List.map_congr_left (g:=id) fun x hx=>ka hσ x (hok x hx)];simp
  |mp es=>exact⟨(List.getElem?_eq_some_iff.1 hm).1,⟨fun x hx=>by exact(az (by simp) [x.2] ⟨hok x hx,trivial⟩).1,by rw[hm,List.map_congr_left (g:=id) fun x hx=>by rw[jD hσ x.2 (hok x hx)];rfl];simp⟩,ih⟩
  |sit s p=>exact⟨(List.getElem?_eq_some_iff.1 hm).1,hm,ih⟩
theorem zN{m:Nat}{l:List (Nat × AV)}:∀r:List (Nat × AV),FgA m l r→TWA (List.range' 0 m++[0]) l r
 |[],_=>trivial
 |x::r,⟨⟨a,c⟩,d⟩=>by
  have hσ:∀i,i<m→(List.range' 0 m++[0]).getD i 0=i:=fun i hi=>by
   rw[List.getD_eq_getElem?_getD,List.getElem?_append_left (by simp;exact hi)];simp[hi]
  exact⟨⟨(az (by simp) [x.2] ⟨a,trivial⟩).1,by rw[jD hσ _ a,c]⟩,zN r d⟩
theorem ic{k n:Nat}{l l1:List (Nat × AV)}{h:List AO}(hk:k≤h.length)(hp:0<h.length)(ho:∀o∈h,okO h.length o)(H:FgA h.length l l1):Wk k (al n l) h (al n l1) (h++[.dead]):=by
 have hσ:∀i,i<h.length→(List.range' 0 h.length++[0]).getD i 0=i:=fun i hi=>by
  rw[List.getD_eq_getElem?_getD,List.getElem?_append_left (by simp;exact hi)];simp[hi]
 refine BZ (List.range' 0 h.length++[0]) (by simp;omega) (fun i hi=>hσ i (by omega)) ?_ ?_ (zN _ H)
 ·exact(wJ h 0).1
 ·exact ya hp ho h 0 (fun i=>by simp) (by simp)
def aJ(fns:List Fd):List (List AV):=fns.map fun f=>f.cs.map .p
theorem jF(fns:List Fd):∀x∈aJ fns,ag 0 x:=by
 intro x hx;obtain⟨m,_,rfl⟩:=List.mem_map.1 hx;simp
theorem bU{n:Nat}{o:AO}(h:okO 0 o):okO n o:=by
 cases o with
 |dead=>trivial
 |sit=>trivial
 |row sz es=>exact fun e he=>az (Nat.zero_le _) _ (h e he)
 |mp es=>exact fun e he=>(az (Nat.zero_le n) [e.2] ⟨h e he,trivial⟩).1
theorem kz(fns:List Fd)(n:Nat):okO n (br 3 (aJ fns)):=bU (Cd (jF fns))
def exR(l:List Ex):List (List AV):=l.map fun e=>e.cs.map .p
theorem dM(l:List Ex):∀x∈exR l,ag 0 x:=by
 intro x hx;obtain⟨m,_,rfl⟩:=List.mem_map.1 hx;simp
theorem gD{h:List AO}{id:Nat}{l:List Ex}(e:h[id]?=some (br 4 (exR l))):View h (slE id 4 (exR l)) (exL l):=by
 have hh:exR l=(l.map Ex.cs).map (·.map .p):=by simp[exR]
 rw[hh] at e⊢
 exact rP e (fun x hx=>by obtain⟨b,_,rfl⟩:=List.mem_map.1 hx;exact b.cs_len)
theorem qN{h:List AO}{id sz:Nat}{r0 r1:List AV}{p0 p1:List PV}(he:h[id]?=some (.row sz [r0,r1]))(l0:p0.length=sz)(l1:p1.length=sz)(h0:∀(j:Nat) (q:PV) (a:AV),p0[j]?=some q→r0[j]?=some a→View h a q)(h1:∀(j:Nat) (q:PV) (a:AV),p1[j]?=some q→r1[j]?=some a→View h a q):View h (.sl id sz 0 2) (.lst sz [p0,p1]):=by
 refine View.sl id sz 0 _ [p0,p1] he (by simp) (by simp[l0,l1]) fun i j e q e' a a1 a2 a3 a4=>?_
 rw[Nat.zero_add] at a3
 match i,a1,a3 with
 |0,a1,a3=>cases a1;cases a3;exact h0 j q a a2 a4
 |1,a1,a3=>cases a1;cases a3;exact h1 j q a a2 a4
 |i+2,a1,a3=>simp at a1
def smR(l:List Sm):List (List AV):=l.map fun s=>s.cs.map .p
theorem dR(l:List Sm):∀x∈smR l,ag 0 x:=by
 intro x hx;obtain⟨m,_,rfl⟩:=List.mem_map.1 hx;simp
theorem gd(l:List Sm):(smR l).length=l.length:=by simp[smR]
theorem xK(a b:List Sm):smR (a++b)=smR a++smR b:=by simp[smR]
theorem bG{h:List AO}{id sz:Nat}{r0:List AV}{p0:List PV}(he:h[id]?=some (.row sz [r0]))(l0:p0.length=sz)(h0:∀(j:Nat) (q:PV) (a:AV),p0[j]?=some q→r0[j]?=some a→View h a q):View h (.sl id sz 0 1) (.lst sz [p0]):=by
 refine View.sl id sz 0 _ [p0] he (by simp) (by simp[l0]) fun i j e q e' a a1 a2 a3 a4=>?_
 rw[Nat.zero_add] at a3
 match i,a1,a3 with
 |0,a1,a3=>cases a1;cases a3;exact h0 j q a a2 a4
 |i+1,a1,a3=>simp at a1
theorem gE{h:List AO}{o n:Int}{w:List UInt8}{k:List Ex}{K:AV}(hk:View h K (exL k)):∀(j:Nat) (q:PV) (a:AV),(Ex.mk o n w k).cs[j]?=some q→[AV.p (.int .i64 o),.p (.int .i64 n),.p (.str w),K][j]?=some a→View h a q:=by
 intro j q a e1 e2
 have hc:(Ex.mk o n w k).cs=[.int .i64 o,.int .i64 n,.str w,exL k]:=Ex.cs_eq _
 rw[hc] at e1
 match j,e1,e2 with
 |0,e1,e2=>cases e1;cases e2;exact .p _
 |1,e1,e2=>cases e1;cases e2;exact .p _
 |2,e1,e2=>cases e1;cases e2;exact .p _
 |3,e1,e2=>cases e1;cases e2;exact hk
 |j+4,e1,e2=>simp at e1
theorem ko{h:List AO}{id:Nat}{l:List Sm}(e:h[id]?=some (.row 5 (smR l))):View h (.sl id 5 0 l.length) (smL l):=by
 have:=kf (h:=h) (id:=id) (sz:=5) (n:=l.length) (ls:=l.map Sm.cs) (by rw[e,smR];simp) (by simp) (fun x hx=>by obtain⟨b,_,rfl⟩:=List.mem_map.1 hx;exact b.cs_len)
 exact this
theorem cf{h:List AO}{o:Int}{w:List UInt8}{a:List Ex}{bd el:List Sm}{A B E:AV}(hA:View h A (exL a))(hB:View h B (smL bd))(hE:View h E (smL el)):∀(j:Nat) (q:PV) (x:AV),(Sm.mk o w a bd el).cs[j]?=some q→[AV.p (.int .i64 o),.p (.str w),A,B,E][j]?=some x→View h x q:=by
 intro j q x e1 e2
 have hc:(Sm.mk o w a bd el).cs=[.int .i64 o,.str w,exL a,smL bd,smL el]:=Sm.cs_eq _
 rw[hc] at e1
 match j,e1,e2 with
 |0,e1,e2=>cases e1;cases e2;exact .p _
 |1,e1,e2=>cases e1;cases e2;exact .p _
 |2,e1,e2=>cases e1;cases e2;exact hA
 |3,e1,e2=>cases e1;cases e2;exact hB
 |4,e1,e2=>cases e1;cases e2;exact hE
 |j+5,e1,e2=>simp at e1
theorem dv{n:Nat}:∀o∈([]:List AO),okO n o:=fun o h=>by cases h
theorem ae{n:Nat}{a:AO}{l:List AO}(h:okO n a)(r:∀o∈l,okO n o):∀o∈a::l,okO n o:=fun o ho=>by
 rcases List.mem_cons.1 ho with rfl|ho
 ·exact h
 ·exact r o ho
end Go.Proofs.YtnjbhgpbgmpkcaaGreatDoor
namespace Go.Proofs.YtnjbhgpbgmpkcaaGreatDoor
open Go Go.Aw
set_option maxRecDepth 100000
set_option maxHeartbeats 4000000
variable (G:aC)
theorem jU(n lo hi:Int):VF Tryz.prog G cd [.p (.int .i64 n),.p (.int .i64 lo),.p (.int .i64 hi)] (.p (.bool (inR n lo hi))):=by
 refine AC.go vX ?_
 by_cases h:lo≤n
 ·simp-implicitDefEqProofs[kN,h,inR]
 ·simp-implicitDefEqProofs[kN,h,inR]
theorem Ec(n:Int):VF Tryz.prog G iL [.p (.int .i64 n)] (.p (.bool (inR n 0 255))):=by
 refine AC.go wh ?_
 simp-implicitDefEqProofs[pA]
 refine(jU G _ _ _).use ?_
 simp-implicitDefEqProofs[]
theorem zX(n:Int):VF Tryz.prog G dr [.p (.int .i32 n)] (.p (.bool (decide (n<97)||decide (122<n)))):=by
 refine AC.go th ?_
 simp-implicitDefEqProofs[mD]
 by_cases h:n<97
 ·simp-implicitDefEqProofs[h]
 ·simp-implicitDefEqProofs[h]
theorem Hw{s:List UInt8}{i:Nat}(h:i<s.length)(hl:dZ s[i]=true):Utf8.decode ⟨⟨s⟩⟩ i=(s[i].toNat,1):=by
 simp only[dZ,Bool.and_eq_true,decide_eq_true_eq] at hl
 exact decode_ascii ⟨⟨s⟩⟩ i h (by show(s[i]).toNat<128;omega)
theorem CG{s:List UInt8}{i:Nat}(h:i<s.length)(hl:¬dZ s[i]=true):(((Utf8.decode ⟨⟨s⟩⟩ i).1:Int)<97∨122<((Utf8.decode ⟨⟨s⟩⟩ i).1:Int)):=by
 rcases Nat.lt_or_ge s[i].toNat 128 with h1|h1
 ·rw[show Utf8.decode ⟨⟨s⟩⟩ i=(s[i].toNat,1) from decode_ascii ⟨⟨s⟩⟩ i h h1]
  simp[dZ] at hl
  simp only
  omega
 ·have:=(decode_high ⟨⟨s⟩⟩ i h h1).1
  omega
theorem yy(s:List UInt8)(hb:s.length≤140737488355328):VF Tryz.prog G fz [.p (.str s),.fn (.func dr) [],.p (.bool true)] (.p (.int .i64 (xy s))):=by
 refine AC.go oV ?_
 simp-implicitDefEqProofs[jz]
 refine aN (fun i:Nat=>al 21 [(0,.p (.str s)),(1,.fn (.func dr) []),(2,.p (.bool true)),(10,.it 0)]) (fun i=>[.sit s i]) (fun i=>i≤s.length∧∀x∈s.take i,dZ x=true) (fun i=>s.length-i) 0 (by simp) ?_ ?_
 ·exact ab (by simp) (by simp[okO]) (by simp[below,ag])
 ·intro i ⟨hi,hn⟩
  simp-implicitDefEqProofs[]
  by_cases h1:i<s.length
  ·have hg:=List.getElem?_eq_getElem h1
   simp-implicitDefEqProofs[h1]
   refine(zX G _).use ?_
   by_cases hl:dZ s[i]=true
   ·have hd:=Hw h1 hl
    have hl':=hl
    simp only[dZ,Bool.and_eq_true,decide_eq_true_eq] at hl'
    have e1:¬((s[i].toNat:Int)<97):=by omega
    have e2:¬(122<(s[i].toNat:Int)):=by omega
    rw[hd]
    simp-implicitDefEqProofs[e1,e2]
    refine⟨i+1,⟨h1,fun p hp=>?_⟩,by omega,ab (by simp) (by simp[okO]) (by simp[below,ag])⟩
    rw[an h1] at hp
    rcases List.mem_append.1 hp with hp|hp
    ·exact hn p hp
    ·rw[List.mem_singleton.1 hp];exact hl
   ·have hd:=CG h1 hl
    have hf:xy s=i:=by
     have:s.findIdx? (fun x=> !dZ x)=some i:=by
      rw[List.findIdx?_eq_some_iff_getElem]
      exact⟨h1,by simpa using hl,fun j hj=>by have:=hn s[j] (List.mem_take_iff_getElem.2 ⟨j,by omega,rfl⟩);simpa using this⟩
     rw[xy,this]
    have hdb:(decide (((Utf8.decode ⟨⟨s⟩⟩ i).1:Int)<97)||decide (122<((Utf8.decode ⟨⟨s⟩⟩ i).1:Int)))=true:=by
     rcases hd with h|h<;>simp[h]
    rw[hdb]
    simp-implicitDefEqProofs[hf]
  ·have hn':=hn
   rw[List.take_of_length_le (by omega)] at hn'
   have hf:xy s= -1:=by
    have:s.findIdx? (fun x=> !dZ x)=none:=by
     rw[List.findIdx?_eq_none_iff];intro x hx;simpa using hn' x hx
    rw[xy,this]
   simp-implicitDefEqProofs[h1,hf]
theorem zl(s:List UInt8)(hb:s.length≤140737488355328):VF Tryz.prog G fL [.p (.str s),.fn (.func dr) []] (.p (.int .i64 (xy s))):=by
 refine AC.go pi ?_
 simp-implicitDefEqProofs[js]
 refine(yy G s hb).use ?_
 simp-implicitDefEqProofs[]
theorem Hk(L:List (List UInt8))(s:List UInt8)(hb:L.length≤1048576):VF Tryz.prog G eJ [.p (au L),.p (.str s)] (.p (.int .i64 (idxS L s))):=by
 refine AC.go mN ?_
 have hsl:au L= .lst 1 (L.map fun w=>[.str w]):=rfl
 simp-implicitDefEqProofs[ip,hsl]
 refine aN (fun i:Nat=>al 19 [(0,.p (au L)),(1,.p (.str s)),(6,.p (au L)),(7,.p (.int .i64 L.length)),(8,.p (.int .i64 i))]) (fun _=>[]) (fun i=>i≤L.length∧∀w∈L.take i,w≠s) (fun i=>L.length-i) 0 (by simp) ?_ ?_
 ·exact bk rfl (by simp[below,au])
 ·intro i ⟨hi,hn⟩
  simp-implicitDefEqProofs[hsl]
  refine bc (fun h1=>?_) (fun h1=>?_)
  ·simp at h1
   have hg:=List.getElem?_eq_getElem h1
   by_cases he:L[i]=s
   ·have hf:idxS L s=i:=by
     have:L.findIdx? (fun w=>w==s)=some i:=by
      rw[List.findIdx?_eq_some_iff_getElem]
      exact⟨h1,by simpa using he,fun j hj=>by have:=hn L[j] (List.mem_take_iff_getElem.2 ⟨j,by omega,rfl⟩);simpa using this⟩
     rw[idxS,this]
    have he':s=L[i]:=he.symm
    simp-implicitDefEqProofs[hg,hf,←he']
   ·have he':¬s=L[i]:=fun e=>he e.symm
    simp-implicitDefEqProofs[hg,he']
    refine⟨i+1,⟨h1,fun p hp=>?_⟩,by omega,bk rfl ?_⟩
    ·rw[an h1] at hp
     rcases List.mem_append.1 hp with hp|hp
     ·exact hn p hp
     ·rw[List.mem_singleton.1 hp];exact he
    ·simp[below,au,w1 (i:=i) (by omega)]
  ·simp at h1
   rw[List.take_of_length_le h1] at hn
   have hf:idxS L s= -1:=by
    have:L.findIdx? (fun w=>w==s)=none:=by
     rw[List.findIdx?_eq_none_iff];intro x hx;simpa using hn x hx
    rw[idxS,this]
   simp-implicitDefEqProofs[hf]
theorem AB(L:List (List UInt8))(s:List UInt8)(hb:L.length≤1048576):VF Tryz.prog G dB [.p (au L),.p (.str s)] (.p (.bool (L.contains s))):=by
 rw[←Ef]
 refine AC.go lc ?_
 simp-implicitDefEqProofs[fU]
 refine(Hk G L s hb).use ?_
 simp-implicitDefEqProofs[]
abbrev fC:Nat:=1
def ff:List PV:=keyW.map .str
variable (hK:G fC=some ff)
include hK
theorem nZ(s:List UInt8)(hb:s.length≤140737488355328):VF Tryz.prog G bM [.p (.str s)] (.p (.bool (aD s))):=by
 refine AC.go wb ?_
 unfold fC at hK
 simp-implicitDefEqProofs[pH]
 refine(jU G _ _ _).use ?_
 have hr:inR (s.length:Int) 1 4=(decide (0<s.length)&&decide (s.length≤4)):=by
  unfold inR
  by_cases h1:0<s.length<;>by_cases h2:s.length≤4<;>simp[h1,h2]<;>omega
 rw[hr]
 have hi:aD s=((decide (0<s.length)&&decide (s.length≤4))&&(s.all dZ&& !keyW.contains s)):=by
  rw[aD];cases s.all dZ<;>cases decide (0<s.length)<;>cases decide (s.length≤4)<;>rfl
 cases h1:(decide (0<s.length)&&decide (s.length≤4)) with
 |false=>
  rw[hi,h1]
  simp-implicitDefEqProofs[]
 |true=>
  rw[hi,h1]
  simp-implicitDefEqProofs[]
  refine(zl G s hb).use ?_
  rw[←Fs]
  by_cases hn:xy s<0
  ·simp-implicitDefEqProofs[hn,hK,ff,keyW]
   refine(AB G keyW s (by decide)).use ?_
   simp-implicitDefEqProofs[keyW]
  ·simp-implicitDefEqProofs[hn]
end Go.Proofs.YtnjbhgpbgmpkcaaGreatDoor
namespace Go.Proofs.YtnjbhgpbgmpkcaaGreatDoor
open Go Go.Aw
set_option maxRecDepth 100000
set_option maxHeartbeats 4000000
def K_impl_exprSize:AK:= .seq (.reg [oJ 2 (.box 4 (.t 0)),oK 4 0,oK 5 0,oJ 6 (.mov (.c (.p (.bool false))))]) (.seq (.reg [oK 7 0,oK 8 0]) (.cut (.blk 0 (.seq (.reg [oF 17 0 2,oL 18 17,oJ 19 (.bin .eql (.t 18) (.c (.p (.int .i64 1)))),oM 16 19]) (.cond (.t 16) (.seq (.reg [oF 20 1 2,oL 21 20,oJ 22 (.call iL [(.t 21)]),oJ 23 (.not (.t 22)),oM 24 23,⟨(some 25),some (24,false),.fldA 2 (.t 2)⟩,⟨(some 26),some (24,false),.ld none (.t 25)⟩,⟨(some 27),some (24,false),.bins .neq (.t 26) (.c (.p (.str [])))⟩,oJ 28 (.pick (.t 24) (.c (.p (.bool true))) (.t 27))]) (.cond (.t 28) (.seq (.reg [oK 4 0,oK 5 0,oJ 6 (.mov (.c (.p (.bool false))))]) (.ret)) (.skip))) (.seq (.reg [oF 30 0 2,oL 31 30,oJ 32 (.bin .eql (.t 31) (.c (.p (.int .i64 2)))),oM 29 32]) (.cond (.t 29) (.seq (.reg [oF 33 2 2,oL 34 33,oJ 35 (.call bM [(.t 34)]),oJ 36 (.not (.t 35)),oM 37 36,⟨(some 38),some (37,false),.fldA 1 (.t 2)⟩,⟨(some 39),some (37,false),.ld none (.t 38)⟩,⟨(some 40),some (37,false),.bin .neq (.t 39) (.c (.p (.int .i64 0)))⟩,oJ 41 (.pick (.t 37) (.c (.p (.bool true))) (.t 40))]) (.cond (.t 41) (.seq (.reg [oK 4 0,oK 5 0,oJ 6 (.mov (.c (.p (.bool false))))]) (.ret)) (.skip))) (.seq (.reg [oF 43 0 2,oL 44 43,oJ 45 (.bin .eql (.t 44) (.c (.p (.int .i64 13)))),oM 42 45]) (.cond (.t 42) (.seq (.reg [oK 8 3]) (.seq (.reg [oF 46 2 2,oL 47 46,oJ 48 (.call bM [(.t 47)]),oJ 49 (.not (.t 48)),oM 50 49,⟨(some 51),some (50,false),.fldA 1 (.t 2)⟩,⟨(some 52),some (50,false),.ld none (.t 51)⟩,⟨(some 53),some (50,false),.bin .neq (.t 52) (.c (.p (.int .i64 0)))⟩,oJ 54 (.pick (.t 50) (.c (.p (.bool true))) (.t 53))]) (.cond (.t 54) (.seq (.reg [oK 4 0,oK 5 0,oJ 6 (.mov (.c (.p (.bool false))))]) (.ret)) (.skip)))) (.seq (.reg [oJ 56 (.ld none (.c (.gp 2 0))),oF 57 0 2,oL 58 57,oJ 59 (.lk 0 (.agg [(.p (.str [])),(.p (.int .i64 0))]) false (.t 56) (.t 58)),oJ 60 (.fldv 1 none (.t 59)),oJ 61 (.bin .gtr (.t 60) (.c (.p (.int .i64 0)))),oM 55 61]) (.cond (.t 55) (.reg [oK 7 2,oK 8 2]) (.seq (.reg [oF 63 0 2,oL 64 63,oJ 65 (.bin .eql (.t 64) (.c (.p (.int .i64 11)))),oM 66 65,⟨(some 67),some (66,false),.fldA 0 (.t 2)⟩,⟨(some 68),some (66,false),.ld none (.t 67)⟩,⟨(some 69),some (66,false),.bin .eql (.t 68) (.c (.p (.int .i64 12)))⟩,oJ 70 (.pick (.t 66) (.c (.p (.bool true))) (.t 69)),oM 62 70]) (.cond (.t 62) (.reg [oK 7 1,oK 8 1]) (.seq (.reg [oK 4 0,oK 5 0,oJ 6 (.mov (.c (.p (.bool false))))]) (.ret))))))))))))) (.cut (.seq (.reg [oF 71 0 2,oL 72 71,oJ 73 (.call gI [(.t 72)]),oJ 74 (.bin .lss (.t 73) (.c (.p (.int .i64 6)))),oM 75 74,⟨(some 76),some (75,true),.fldA 1 (.t 2)⟩,⟨(some 77),some (75,true),.ld none (.t 76)⟩,⟨(some 78),some (75,true),.bin .neq (.t 77) (.c (.p (.int .i64 0)))⟩,⟨(some 79),some (75,true),.mov (.t 78)⟩,⟨(some 80),some (79,false),.fldA 2 (.t 2)⟩,⟨(some 81),some (79,false),.ld none (.t 80)⟩,⟨(some 82),some (79,false),.bins .neq (.t 81) (.c (.p (.str [])))⟩,⟨(some 83),some (75,true),.pick (.t 79) (.c (.p (.bool true))) (.t 82)⟩,oJ 84 (.pick (.t 75) (.t 83) (.c (.p (.bool false)))),oM 85 84,⟨(some 86),some (85,false),.fldA 3 (.t 2)⟩,⟨(some 87),some (85,false),.ld none (.t 86)⟩,⟨(some 88),some (85,false),.len false (.t 87)⟩,⟨(some 89),some (85,false),.mov (.t 7)⟩,⟨(some 90),some (85,false),.mov (.t 8)⟩,⟨(some 91),some (85,false),.call cd [(.t 88),(.t 89),(.t 90)]⟩,⟨(some 92),some (85,false),.not (.t 91)⟩,oJ 93 (.pick (.t 85) (.c (.p (.bool true))) (.t 92)),oM 94 93,⟨(some 95),some (94,false),.mov (.t 1)⟩,⟨(some 96),some (94,false),.bin .lss (.t 95) (.c (.p (.int .i64 1)))⟩,oJ 97 (.pick (.t 94) (.c (.p (.bool true))) (.t 96))]) (.cond (.t 97) (.seq (.reg [oK 4 0,oK 5 0,oJ 6 (.mov (.c (.p (.bool false))))]) (.ret)) (.skip))) (.seq (.reg [oK 9 1,oK 10 1]) (.seq (.seq (.reg [oF 98 3 2,oL 99 98,oJ 100 (.len false (.t 99)),oK 101 0]) (.blk 1 (.loop (.seq (.reg [oJ 102 (.bin .lss (.t 101) (.t 100))]) (.seq (.cond (.t 102) (.skip) (.exit 1)) (.seq (.blk 2 (.seq (.reg [oJ 103 (.idxS 4 (.t 99) (.t 101)),oJ 104 (.ld (some 4) (.t 103)),oJ 12 (.alloc [(.p (.int .i64 0)),(.p (.int .i64 0)),(.p (.str [])),.nils]),⟨none,none,.st 4 (.t 12) (.t 104)⟩]) (.seq (.reg [oJ 106 (.ld (some 4) (.t 12)),oM 107 1,oJ 108 (.bin .sub (.t 107) (.c (.p (.int .i64 1)))),oJ 109 (.call eu [(.t 106),(.t 108)]),oM 105 109,oJ 110 (.ext 0 (.t 105)),oJ 111 (.ext 1 (.t 105)),oJ 112 (.ext 2 (.t 105)),oM 13 110,oM 14 111,oM 15 112]) (.seq (.seq (.reg [oM 113 15,oJ 114 (.not (.t 113))]) (.cond (.t 114) (.seq (.reg [oK 4 0,oK 5 0,oJ 6 (.mov (.c (.p (.bool false))))]) (.ret)) (.skip))) (.seq (.reg [oM 115 9,oM 116 13,oJ 117 (.bin .add (.t 115) (.t 116)),oM 9 117]) (.reg [oM 118 10,oM 119 14,oJ 120 (.bin .add (.t 119) (.c (.p (.int .i64 1)))),oJ 121 (.mx (.t 118) (.t 120)),oM 10 121])))))) (.reg [oJ 122 (.bin .add (.t 101) (.c (.p (.int .i64 1)))),oM 101 122]))))))) (.seq (.reg [oM 123 9,oM 124 10,oM 125 9,oJ 126 (.bin .leq (.t 125) (.c (.p (.int .i64 30)))),oM 4 123,oM 5 124,oM 6 126]) (.ret)))))))
theorem sU:K_impl_exprSize.whole=F_impl_exprSize.ak:=rfl
abbrev db:Nat:=2
def opK:List PV:=[.int .i64 3,.int .i64 4,.int .i64 5,.int .i64 6,.int .i64 7,.int .i64 8,.int .i64 9,.int .i64 10]
def opV:List (List PV):=[[.str [43],.int .i64 3],[.str [45],.int .i64 3],[.str [42],.int .i64 4],[.str [47],.int .i64 4],[.str [37],.int .i64 4],[.str [60],.int .i64 2],[.str [61],.int .i64 2],[.str [38],.int .i64 1]]
def lvl(op:Int):Int:=if op=10 then 1 else if op=8 then 2 else if op=9 then 2 else if op=3 then 3 else if op=4 then 3 else 4
def sgB(op:Int):UInt8:=if op=3 then 43 else if op=4 then 45 else if op=5 then 42 else if op=6 then 47 else if op=7 then 37 else if op=8 then 60 else if op=9 then 61 else 38
def sgn(op:Int):Option AV:=if 3≤op∧op≤10 then some (.agg [.p (.str [sgB op]),.p (.int .i64 (lvl op))]) else none
theorem Co(op:Int):(opK.all fun k'=>(keq (.int .i64 op) k').isSome)=true:=by simp[opK,keq]
theorem BN(op:Int):gV (.int .i64 op) (CX opK opV)=some (sgn op):=by
 by_cases h:3≤op∧op≤10
 ·have h8:op=3∨op=4∨op=5∨op=6∨op=7∨op=8∨op=9∨op=10:=by omega
  rcases h8 with rfl|rfl|rfl|rfl|rfl|rfl|rfl|rfl<;>rfl
 ·have e:sgn op=none:=if_neg h
  have h3:¬op=3:=by omega
  have h4:¬op=4:=by omega
  have h5:¬op=5:=by omega
  have h6:¬op=6:=by omega
  have h7:¬op=7:=by omega
  have h8:¬op=8:=by omega
  have h9:¬op=9:=by omega
  have h10:¬op=10:=by omega
  rw[e]
  simp[opK,opV,CX,gV,keq,h3,h4,h5,h6,h7,h8,h9,h10]
theorem Cb(op:Int):0<lvl op:=by
 unfold lvl
 repeat' split
 all_goals omega
theorem JX(op:Int):lvl op<6:=by
 unfold lvl
 repeat' split
 all_goals omega
def lvI(op:Int):Int:=if 3≤op∧op≤10 then lvl op else if op=11∨op=12 then 5 else 6
mutual
def Ex.deep:Ex→Nat
 | .mk _ _ _ k=>1+lM k
def lM:List Ex→Nat
 |[]=>0
 |e::r=>max e.deep (lM r)
end
theorem Ex.deep_eq(e:Ex):e.deep=1+lM e.kids:=by cases e;rfl
theorem yz:∀a b:List Ex,lM (a++b)=max (lM a) (lM b)
 |[],b=>by simp[lM]
 |e::r,b=>by rw[List.cons_append,lM,lM,yz r b];omega
mutual
theorem Ex.deep_le:∀e:Ex,e.deep≤e.sz
 | .mk _ _ s k=>by have:=xA k;simp only[Ex.deep,Ex.sz];omega
theorem xA:∀l:List Ex,lM l≤aY l
 |[]=>Nat.le_refl _
 |e::r=>by have:=e.deep_le;have:=xA r;simp only[lM,aY];omega
end
theorem nJ{α:Type}{p:α→Bool}{xs:List α}{i:Nat}{c:α}(h:xs[i]?=some c):(xs.take (i+1)).all p=((xs.take i).all p&&p c):=by
 rw[List.take_add_one,h,List.all_append];simp
def okE(m:Nat)(e:Ex):Bool:=eb m e&&decide (e.parts≤30)
def sZ:Nat→Ex→Bool
 |0,_=>false
 |m+1,e=>lS e&&e.kids.all (okE m)
theorem yR:∀{l:List Ex} {e:Ex},e∈l→e.parts≤bt l
 |x::r,e,h=>by
  simp only[bt]
  rcases List.mem_cons.1 h with rfl|h
  ·omega
  ·have:=yR h;omega
theorem BC(m:Nat)(e:Ex):(sZ m e&&decide (e.parts≤30))=okE m e:=by
 cases m with
 |zero=>simp[sZ,okE,eb]
 |succ m=>
  by_cases hp:e.parts≤30
  ·have h2:e.kids.all (okE m)=e.kids.all (eb m):=by
    rw[Bool.eq_iff_iff,List.all_eq_true,List.all_eq_true]
    refine⟨fun h x hx=>?_,fun h x hx=>?_⟩
    ·have:=h x hx;simp only[okE,Bool.and_eq_true] at this;exact this.1
    ·have h1:=h x hx
     have:=yR hx
     have:=e.parts_eq
     simp only[okE,h1,Bool.true_and]
     simp;omega
   simp[sZ,okE,eb,h2]
  ·simp[okE,hp]
theorem It(e:Ex):okE 6 e=iX e:=rfl
def szA(m:Nat)(e:Ex):AV:=if sZ m e then .tup [.p (.int .i64 e.parts),.p (.int .i64 e.deep),.p (.bool (decide (e.parts≤30)))] else .tup [.p (.int .i64 0),.p (.int .i64 0),.p (.bool false)]
def cM(e:Ex):Bool:=inR e.op 1 13&&(if e.op=1 then inR e.n 0 255&&decide (e.name=[]) else if e.op=2∨e.op=13 then aD e.name&&decide (e.n=0) else true)
def iu(e:Ex):Bool:=(decide (e.op=1∨e.op=2∨e.op=13)||(decide (e.n=0)&&decide (e.name=[])))&&inR e.kids.length (loK e.op) (hiK e.op)
theorem qn:aD []=false:=rfl
theorem zC(e:Ex):lS e=(cM e&&iu e):=by
 unfold lS cM iu zn
 by_cases h1:e.op=1
 ·simp only[h1]
  cases inR (e.kids.length:Int) (loK 1:Nat) (hiK 1:Nat)<;>by_cases hn:e.name=[]<;>cases h2:inR e.n 0 255<;>simp[hn,qn,inR]
 by_cases h2:e.op=2
 ·simp only[h2]
  cases inR (e.kids.length:Int) (loK 2:Nat) (hiK 2:Nat)<;>cases hi:aD e.name<;>by_cases hn:e.n=0<;>simp[hn,inR]
 by_cases h3:e.op=13
 ·simp only[h3]
  cases inR (e.kids.length:Int) (loK 13:Nat) (hiK 13:Nat)<;>cases hi:aD e.name<;>by_cases hn:e.n=0<;>simp[hn,inR]
 ·cases inR e.op 1 13<;>cases inR (e.kids.length:Int) (loK e.op:Nat) (hiK e.op:Nat)<;>by_cases hn:e.n=0<;>by_cases hm:e.name=[]<;>simp[h1,h2,h3,hn,hm,qn,inR]
variable (G:aC) (hK:G fC=some ff) (hS:G db=some [.tbl opK opV])
include hS
theorem DM(op:Int):VF Tryz.prog G gI [.p (.int .i64 op)] (.p (.int .i64 (lvI op))):=by
 refine AC.go uF ?_
 have hall:=Co op
 have hget:=BN op
 have hS':=hS
 unfold db at hS'
 have hlp:=Cb op
 by_cases h:3≤op∧op≤10
 ·have e:sgn op=some (.agg [.p (.str [sgB op]),.p (.int .i64 (lvl op))]):=if_pos h
  have e2:lvI op=lvl op:=if_pos h
  rw[e2]
  generalize lvl op=L at*
  simp-implicitDefEqProofs[eY,hS',hall,hget,e,hlp]
 ·have e:sgn op=none:=if_neg h
  by_cases h11:op=11
  ·subst h11;simp-implicitDefEqProofs[eY,hS',hall,hget,e,lvI]
  by_cases h12:op=12
  ·subst h12;simp-implicitDefEqProofs[eY,hS',hall,hget,e,lvI]
  have e2:lvI op=6:=by rw[lvI,if_neg h,if_neg (by simp[h11,h12])]
  simp-implicitDefEqProofs[eY,hS',hall,hget,e,e2,h11,h12]
include hK
theorem Af:∀(m:Nat) (e:Ex),e.sz≤1073741824→m≤100→VF Tryz.prog G eu [.agg (e.cs.map .p),.p (.int .i64 m)] (szA m e):=by
 intro m
 induction m using Nat.strongRecOn with
 |_ m ih=>
 intro e he hm
 have hec:=e.cs_eq
 have hsz:=e.sz_eq
 have hkl:=bi e.kids
 have hS':=hS
 unfold db at hS'
 have hall:=Co e.op
 have hget:=BN e.op
 have hxl:exL e.kids= .lst 4 (e.kids.map Ex.cs):=rfl
 have hbad:(cM e&&iu e&&decide (1≤m))=false→szA m e= .tup [.p (.int .i64 0),.p (.int .i64 0),.p (.bool false)]:=by
  intro h
  have:sZ m e=false:=by
   cases m with
   |zero=>rfl
   |succ m=>rw[sZ,zC];simp at h;cases h1:cM e<;>cases h2:iu e<;>simp[h1,h2] at h⊢
  rw[szA,this];rfl
 have hb1:cM e=false→szA m e= .tup [.p (.int .i64 0),.p (.int .i64 0),.p (.bool false)]:=fun h=>hbad (by rw[h];rfl)
 refine AC.goK sS sU ?_
 simp-implicitDefEqProofs[K_impl_exprSize,F_impl_exprSize,hec]
 refine tP (fun _:Unit=>al 127 [(1,.p (.int .i64 m)),(2,.ptr 0 4 0 0),(7,.p (.int .i64 (loK e.op))),(8,.p (.int .i64 (hiK e.op)))]) (fun _=>[.row 4 [[.p (.int .i64 e.op),.p (.int .i64 e.n),.p (.str e.name),.p (exL e.kids)]]]) (fun _=>cM e=true) ?_ ?_
 ·have fin:∀(r1:List (Nat × AV)),Aw.look r1 1= .p (.int .i64 m)→Aw.look r1 2= .ptr 0 4 0 0→Aw.look r1 7= .p (.int .i64 (loK e.op))→Aw.look r1 8= .p (.int .i64 (hiK e.op))→
   Wk 0 (al 127 r1) [.row 4 [[.p (.int .i64 e.op),.p (.int .i64 e.n),.p (.str e.name),.p (exL e.kids)]]] (al 127 [(1,.p (.int .i64 m)),(2,.ptr 0 4 0 0),(7,.p (.int .i64 (loK e.op))),(8,.p (.int .i64 (hiK e.op)))]) [.row 4 [[.p (.int .i64 e.op),.p (.int .i64 e.n),.p (.str e.name),.p (exL e.kids)]]]:=fun r1 a b c d=>
   ab (by simp) (by simp[okO,below]) (by simp[below,a,b,c,d])
  have hop1:inR (1:Int) 1 13=true:=rfl
  have hop2:inR (2:Int) 1 13=true:=rfl
  have hop13:inR (13:Int) 1 13=true:=rfl
  by_cases o1:e.op=1
  ·rw[o1] at fin⊢
   simp-implicitDefEqProofs[o1]
   refine(Ec G _).use ?_
   by_cases h1:inR e.n 0 255=true
   ·by_cases h2:e.name=[]
    ·have hp:cM e=true:=by simp[cM,o1,h1,h2,hop1]
     rw[h2] at fin
     simp-implicitDefEqProofs[h1,h2,hp]
     exact fin _ (by simp) (by simp) (by simp[loK]) (by simp[hiK])
    ·have hp:cM e=false:=by simp[cM,o1,h1,h2,hop1]
     rw[hb1 hp]
     simp-implicitDefEqProofs[h1,h2]
   ·have hp:cM e=false:=by simp[cM,o1,h1,hop1]
    rw[hb1 hp]
    simp-implicitDefEqProofs[h1]
  by_cases o2:e.op=2
  ·rw[o2] at fin⊢
   simp-implicitDefEqProofs[o2]
   refine(nZ G hK _ (by omega)).use ?_
   by_cases h1:aD e.name=true
   ·by_cases h2:e.n=0
    ·have hp:cM e=true:=by simp[cM,o2,h1,h2,hop2]
     rw[h2] at fin
     simp-implicitDefEqProofs[h1,h2,hp]
     exact fin _ (by simp) (by simp) (by simp[loK]) (by simp[hiK])
    ·have hp:cM e=false:=by simp[cM,o2,h1,h2,hop2]
     rw[hb1 hp]
     simp-implicitDefEqProofs[h1,h2]
   ·have hp:cM e=false:=by simp[cM,o2,h1,hop2]
    rw[hb1 hp]
    simp-implicitDefEqProofs[h1]
  by_cases o13:e.op=13
  ·rw[o13] at fin⊢
   simp-implicitDefEqProofs[o13]
   refine(nZ G hK _ (by omega)).use ?_
   by_cases h1:aD e.name=true
   ·by_cases h2:e.n=0
    ·have hp:cM e=true:=by simp[cM,o13,h1,h2,hop13]
     rw[h2] at fin
     simp-implicitDefEqProofs[h1,h2,hp]
     exact fin _ (by simp) (by simp) (by simp[loK]) (by simp[hiK])
    ·have hp:cM e=false:=by simp[cM,o13,h1,h2,hop13]
     rw[hb1 hp]
     simp-implicitDefEqProofs[h1,h2]
   ·have hp:cM e=false:=by simp[cM,o13,h1,hop13]
    rw[hb1 hp]
    simp-implicitDefEqProofs[h1]
  have hlp:=Cb e.op
  by_cases h:3≤e.op∧e.op≤10
  ·have es:sgn e.op=some (.agg [.p (.str [sgB e.op]),.p (.int .i64 (lvl e.op))]):=if_pos h
   have hp:cM e=true:=by simp[cM,o1,o2,o13,inR];omega
   have o11:¬e.op=11:=by omega
   have o12:¬e.op=12:=by omega
   have elo:loK e.op=2:=by simp[loK,o1,o2,o11,o12,o13]
   have ehi:hiK e.op=2:=by simp[hiK,o1,o2,o11,o12,o13]
   generalize lvl e.op=L at*
   simp-implicitDefEqProofs[o1,o2,o13,hS',hall,hget,es,hlp,hp]
   exact fin _ (by simp) (by simp) (by simp[elo]) (by simp[ehi])
  have es:sgn e.op=none:=if_neg h
  by_cases o11:e.op=11
  ·have hp:cM e=true:=by simp[cM,o11,inR]
   have elo:loK e.op=1:=by simp[loK,o11]
   have ehi:hiK e.op=1:=by simp[hiK,o11]
   rw[o11] at hall hget es fin
   simp-implicitDefEqProofs[o11,hS',hall,hget,es,hp]
   exact fin _ (by simp) (by simp) (by simp[loK]) (by simp[hiK])
  by_cases o12:e.op=12
  ·have hp:cM e=true:=by simp[cM,o12,inR]
   rw[o12] at hall hget es fin
   simp-implicitDefEqProofs[o12,hS',hall,hget,es,hp]
   exact fin _ (by simp) (by simp) (by simp[loK]) (by simp[hiK])
  ·have hp:cM e=false:=by simp[cM,o1,o2,o13,inR];omega
   rw[hb1 hp]
   simp-implicitDefEqProofs[o1,o2,o13,hS',hall,hget,es,o11,o12]
 intro _ hp
 have hop:1≤e.op∧e.op≤13:=by
  simp only[cM,Bool.and_eq_true,inR,decide_eq_true_eq] at hp
  exact hp.1
 have hb2:iu e=false→szA m e= .tup [.p (.int .i64 0),.p (.int .i64 0),.p (.bool false)]:=fun h=>hbad (by rw[h];simp)
 have hb3:m<1→szA m e= .tup [.p (.int .i64 0),.p (.int .i64 0),.p (.bool false)]:=by
  intro h
  have hd:decide (1≤m)=false:=by simp;omega
  exact hbad (by rw[hd];simp)
 refine tP (fun _:Unit=>al 127 [(1,.p (.int .i64 m)),(2,.ptr 0 4 0 0)]) (fun _=>[.row 4 [[.p (.int .i64 e.op),.p (.int .i64 e.n),.p (.str e.name),.p (exL e.kids)]]]) (fun _=>iu e=true∧1≤m) ?_ ?_
 ·have fin:∀(r1:List (Nat × AV)),Aw.look r1 1= .p (.int .i64 m)→Aw.look r1 2= .ptr 0 4 0 0→
   Wk 0 (al 127 r1) [.row 4 [[.p (.int .i64 e.op),.p (.int .i64 e.n),.p (.str e.name),.p (exL e.kids)]]] (al 127 [(1,.p (.int .i64 m)),(2,.ptr 0 4 0 0)]) [.row 4 [[.p (.int .i64 e.op),.p (.int .i64 e.n),.p (.str e.name),.p (exL e.kids)]]]:=fun r1 a b=>
   ab (by simp) (by simp[okO,below]) (by simp[below,a,b])
  simp-implicitDefEqProofs[]
  refine(DM G hS e.op).use ?_
  by_cases ho:e.op=1∨e.op=2∨e.op=13
  ·have hlv:lvI e.op=6:=by
    rw[lvI,if_neg (by omega),if_neg (by omega)]
   have hd:decide (e.op=1∨e.op=2∨e.op=13)=true:=by simpa using ho
   simp-implicitDefEqProofs[hlv,hxl]
   refine(jU G _ _ _).use ?_
   by_cases hk:inR e.kids.length (loK e.op) (hiK e.op)=true
   ·have hr:iu e=true:=by rw[iu,hd,hk];rfl
    by_cases hm1:m<1
    ·have hm1':(m:Int)<1:=by omega
     rw[hb3 hm1]
     simp-implicitDefEqProofs[hk,hm1']
    ·have hm1':¬(m:Int)<1:=by omega
     have hm2:1≤m:=by omega
     simp-implicitDefEqProofs[hk,hm1',hr,hm2]
     exact fin _ (by simp) (by simp)
   ·have hk':inR e.kids.length (loK e.op) (hiK e.op)=false:=by simpa using hk
    have hr:iu e=false:=by rw[iu,hk',Bool.and_false]
    rw[hb2 hr]
    simp-implicitDefEqProofs[hk']
  ·have hlv:lvI e.op<6:=by
    have:=JX e.op
    unfold lvI
    split
    ·exact this
    ·rw[if_pos (by omega)];omega
   have hd:decide (e.op=1∨e.op=2∨e.op=13)=false:=by simpa using ho
   generalize lvI e.op=L at hlv⊢
   by_cases h1:e.n=0
   ·by_cases h2:e.name=[]
    ·have hz:decide (e.n=0)=true∧decide (e.name=[])=true:=by simp[h1,h2]
     simp-implicitDefEqProofs[hlv,h1,h2,hxl]
     refine(jU G _ _ _).use ?_
     rw[h1,h2] at fin
     by_cases hk:inR e.kids.length (loK e.op) (hiK e.op)=true
     ·have hr:iu e=true:=by rw[iu,hd,hk,hz.1,hz.2];rfl
      by_cases hm1:m<1
      ·have hm1':(m:Int)<1:=by omega
       rw[hb3 hm1]
       simp-implicitDefEqProofs[hk,hm1']
      ·have hm1':¬(m:Int)<1:=by omega
       have hm2:1≤m:=by omega
       simp-implicitDefEqProofs[hk,hm1',hr,hm2]
       exact fin _ (by simp) (by simp)
     ·have hk':inR e.kids.length (loK e.op) (hiK e.op)=false:=by simpa using hk
      have hr:iu e=false:=by rw[iu,hk',Bool.and_false]
      rw[hb2 hr]
      simp-implicitDefEqProofs[hk']
    ·have hr:iu e=false:=by rw[iu,hd];simp[h2]
     rw[hb2 hr]
     simp-implicitDefEqProofs[hlv,h1,h2]
   ·have hr:iu e=false:=by rw[iu,hd];simp[h1]
    rw[hb2 hr]
    simp-implicitDefEqProofs[hlv,h1]
 rintro _ ⟨hr,hm1⟩
 have hhd:lS e=true:=by rw[zC,hp,hr];rfl
 obtain⟨m',rfl⟩:∃m',m=m'+1:=⟨m-1,by omega⟩
 have hszO:sZ (m'+1) e=e.kids.all (okE m'):=by rw[sZ,hhd];rfl
 have hpe:=e.parts_eq
 have hde:=e.deep_eq
 have hpl:=e.parts_le
 have hwm:IntKind.i64.wrap (((m'+1:Nat):Int)-1)=(m':Int):=by rw[ah (by omega) (by omega)];omega
 simp-implicitDefEqProofs[hxl]
 refine aN (fun i:Nat=>al 127 [(1,.p (.int .i64 ((m':Int)+1))),(2,.ptr 0 4 0 0),(9,.p (.int .i64 ((1+bt (e.kids.take i):Nat):Int))),(10,.p (.int .i64 ((1+lM (e.kids.take i):Nat):Int))),(99,.p (exL e.kids)),(100,.p (.int .i64 e.kids.length)),(101,.p (.int .i64 i))])
  (fun _=>[.row 4 [[.p (.int .i64 e.op),.p (.int .i64 e.n),.p (.str e.name),.p (exL e.kids)]]]) (fun i=>i≤e.kids.length∧(e.kids.take i).all (okE m')=true) (fun i=>e.kids.length-i) 0 (by simp) ?_ ?_
 ·exact ab (by simp) (by simp[okO,below]) (by simp[below,hxl,bt,lM])
 rintro i ⟨hi,ha⟩
 have hwm':IntKind.i64.wrap (m':Int)=(m':Int):=ah (by omega) (by omega)
 simp-implicitDefEqProofs[hxl]
 refine bc (fun h=>?_) (fun h=>?_)
 ·simp at h
  have hg:=List.getElem?_eq_getElem h
  have hks:=bj (List.getElem_mem h)
  have hkc:=e.kids[i].cs_eq
  have hpt:bt (e.kids.take (i+1))=bt (e.kids.take i)+e.kids[i].parts:=by rw[an h,eU];simp[bt]
  have hdt:lM (e.kids.take (i+1))=max (lM (e.kids.take i)) e.kids[i].deep:=by rw[an h,yz];simp[lM]
  have hpl1:bt (e.kids.take (i+1))≤e.parts:=by
   have:=eU (e.kids.take (i+1)) (e.kids.drop (i+1))
   rw[List.take_append_drop] at this
   omega
  have hok:=BC m' e.kids[i]
  have hdl:e.kids[i].deep≤e.kids[i].sz:=Ex.deep_le _
  have hdl2:lM (e.kids.take i)≤e.sz:=by
   have h1:=xA (e.kids.take i)
   have h2:=fe (e.kids.take i) (e.kids.drop i)
   rw[List.take_append_drop] at h2
   omega
  generalize e.kids[i]=c at*
  simp-implicitDefEqProofs[hg,hkc,hwm']
  have hI:=ih m' (by omega) c (by omega) (by omega)
  rw[hkc] at hI
  by_cases ho:okE m' c=true
  ·have h1:sZ m' c=true∧c.parts≤30:=by rw[ho] at hok;simpa using hok
   have hA:szA m' c= .tup [.p (.int .i64 c.parts),.p (.int .i64 c.deep),.p (.bool true)]:=by rw[szA,if_pos h1.1];simp[h1.2]
   rw[hA] at hI
   refine hI.use ?_
   have hw1:IntKind.i64.wrap (1+(bt (e.kids.take i):Int)+(c.parts:Int))=((1+bt (e.kids.take (i+1)):Nat):Int):=by rw[ah (by omega) (by omega)];omega
   have hw2:IntKind.i64.wrap ((c.deep:Int)+1)=(c.deep:Int)+1:=ah (by omega) (by omega)
   have hmx:(if 1+(lM (e.kids.take i):Int)<(c.deep:Int)+1 then(c.deep:Int)+1 else 1+(lM (e.kids.take i):Int))=1+(lM (e.kids.take (i+1)):Int):=by
    rw[hdt];split<;>omega
   simp-implicitDefEqProofs[hw1,hw2,hmx]
   refine⟨i+1,⟨h,by rw[←List.all_eq_true,nJ hg,ha,ho];rfl⟩,by omega,?_⟩
   refine gH (m:=1) (by omega) (dQ rfl rfl (by simp[okO,below])) (by simp[below,hxl,w1 (i:=i) (by omega)])
  ·have hf:e.kids.all (okE m')=false:=List.all_eq_false.2 ⟨c,List.mem_of_getElem? hg,by simpa using ho⟩
   have hA2:szA (m'+1) e= .tup [.p (.int .i64 0),.p (.int .i64 0),.p (.bool false)]:=by rw[szA,hszO,hf];rfl
   rw[hA2]
   by_cases h1:sZ m' c=true
   ·have h2:¬c.parts≤30:=fun h2=>ho (by rw[←hok,h1];simpa using h2)
    have hA:szA m' c= .tup [.p (.int .i64 c.parts),.p (.int .i64 c.deep),.p (.bool false)]:=by rw[szA,if_pos h1];simp[h2]
    rw[hA] at hI
    refine hI.use ?_
    simp-implicitDefEqProofs[]
   ·have hA:szA m' c= .tup [.p (.int .i64 0),.p (.int .i64 0),.p (.bool false)]:=by rw[szA,if_neg h1]
    rw[hA] at hI
    refine hI.use ?_
    simp-implicitDefEqProofs[]
 ·simp at h
  rw[List.take_of_length_le h] at ha⊢
  have hA:szA (m'+1) e= .tup [.p (.int .i64 e.parts),.p (.int .i64 e.deep),.p (.bool (decide (e.parts≤30)))]:=by rw[szA,hszO,ha];rfl
  rw[hA,hpe,hde]
  simp-implicitDefEqProofs[]
  omega
theorem yO(e:Ex)(he:e.sz≤1073741824):VF Tryz.prog G fw [.agg (e.cs.map .p)] (.p (.bool (iX e))):=by
 refine AC.go ss ?_
 have hec:=e.cs_eq
 have hx:=Af G hK hS 6 e he (by omega)
 rw[hec] at hx
 simp-implicitDefEqProofs[lT,hec]
 rw[←It,←BC]
 unfold szA at hx
 by_cases h:sZ 6 e=true
 ·rw[if_pos h] at hx
  rw[h]
  refine hx.use ?_
  simp-implicitDefEqProofs[]
 ·have h':sZ 6 e=false:=by simpa using h
  rw[if_neg h] at hx
  rw[h']
  refine hx.use ?_
  simp-implicitDefEqProofs[]
end Go.Proofs.YtnjbhgpbgmpkcaaGreatDoor
namespace Go.Proofs.YtnjbhgpbgmpkcaaGreatDoor
open Go Go.Aw
set_option maxRecDepth 100000
structure LV where (name:List UInt8) (num block:Nat)
structure WS where (vs:List LV) (count:Nat) (code:Int)
def fl(c k:Int):Int:=if c=0 then k else c
theorem uJ{c k:Int}(h:c≠0):fl c k=c:=if_neg h
def lkV(vs:List LV)(s:List UInt8):Option LV:=vs.find? fun v=>decide (v.name=s)
def bW(fns:List Fd)(s:List UInt8):Option Nat:=fns.findIdx? fun f=>decide (f.name=s)
def vK(fns:List Fd)(j:Nat):Nat:=match fns[j]? with|some f=>f.params.length|none=>0
def lU(vs:List LV)(s:List UInt8)(c:Int):Int:=match lkV vs s with|none=>fl c 3|some _=>c
def lz(fns:List Fd)(k:Nat)(s:List UInt8)(n:Nat)(c:Int):Int:=
 match bW fns s with|none=>fl c 4|some j=>if k≤j then fl c 4 else if vK fns j=n then c else fl c 5
def gX(fns:List Fd)(k:Nat)(vs:List LV)(o:Int)(s:List UInt8)(n:Nat)(c:Int):Int:=
 if o=2 then lU vs s c else if o=13 then lz fns k s n c else c
mutual
def mP(fns:List Fd)(k:Nat)(vs:List LV):Ex→Int→Int
 | .mk o _ s ks,c=>bg fns k vs ks (gX fns k vs o s ks.length c)
def bg(fns:List Fd)(k:Nat)(vs:List LV):List Ex→Int→Int
 |[],c=>c
 |e::r,c=>bg fns k vs r (mP fns k vs e c)
end
def vnm(n:Nat):List UInt8:=[118,UInt8.ofNat (97+n%26)]
def jE(vs:List LV)(s:List UInt8):List UInt8:=match lkV vs s with|none=>s|some v=>vnm v.num
mutual
def rnE(vs:List LV):Ex→Ex
 | .mk o n s ks=> .mk o n (if o=2 then jE vs s else s) (dj vs ks)
def dj(vs:List LV):List Ex→List Ex
 |[]=>[]
 |e::r=>rnE vs e::dj vs r
end
def pk(vs:List LV)(s:List UInt8)(b:Nat)(c:Int):Int:=match lkV vs s with|none=>c|some v=>if v.block=b then fl c 2 else c
def eZ(w:WS)(s:List UInt8)(b:Nat):WS:=⟨⟨s,w.count,b⟩::w.vs,w.count+1,pk w.vs s b w.code⟩
def opW(o:Int)(s:List UInt8)(b:Nat)(w:WS):WS:=if o=1 then eZ w s b else if o=2 then⟨w.vs,w.count,lU w.vs s w.code⟩ else w
def opN(o:Int)(s:List UInt8)(w:WS):List UInt8:=if o=1 then vnm w.count else if o=2 then jE w.vs s else s
def WS.back(w:WS)(vs:List LV):WS:=⟨vs,w.count,w.code⟩
mutual
def stW(fns:List Fd)(k b:Nat):Sm→WS→WS
 | .mk o s a bd el,w=>
   let w2:=opW o s b ⟨w.vs,w.count,bg fns k w.vs a w.code⟩
   let w3:=(bn fns k (b+1) bd w2).back w2.vs
   (bn fns k (b+1) el w3).back w2.vs
def bn(fns:List Fd)(k b:Nat):List Sm→WS→WS
 |[],w=>w
 |s::r,w=>bn fns k b r (stW fns k b s w)
end
def bH(ps:List (List UInt8))(w:WS):WS:=ps.foldl (fun w s=>eZ w s 0) w
def fnW(fns:List Fd)(k:Nat)(f:Fd):WS:=bn fns k 0 f.body (bH f.params ⟨[],0,if bW fns f.name=some k then 0 else 2⟩)
def iI(fns:List Fd):Nat→List Fd→Int
 |_,[]=>0
 |k,f::r=>if(fnW fns k f).code=0 then iI fns (k+1) r else(fnW fns k f).code
def bD(fns:List Fd):Int:=if bu fns then iI fns 0 fns else 1
abbrev Scp:=List (List UInt8 × Nat)
def iK(m:Scp)(s:List UInt8):Option Nat:=(m.find? fun x=>decide (x.1=s)).map (·.2)
def fm:Scp→List UInt8→Nat→Scp
 |[],s,n=>[(s,n)]
 |x::r,s,n=>if x.1=s then(s,n)::r else x::fm r s n
def eS:List Scp→List UInt8→Option Nat
 |[],_=>none
 |m::r,s=>match iK m s with|some n=>some n|none=>eS r s
def gw(fns:List Fd)(k:Nat)(ch:List Scp)(c:Int)(e:Ex):Int:=
 if e.op=2 then(if(eS ch e.name).isSome then c else fl c 3)
 else if e.op=13 then(match bW (fns.take k) e.name with|none=>fl c 4|some j=>if vK fns j=e.kids.length then c else fl c 5)
 else c
mutual
def Ex.pre:Ex→List Ex
 | .mk o n s ks=> .mk o n s ks::ca ks
def ca:List Ex→List Ex
 |[]=>[]
 |e::r=>e.pre++ca r
end
def AR(fns:List Fd)(k:Nat)(ch:List Scp)(l:List Ex)(c:Int):Int:=(ca l).foldl (gw fns k ch) c
def opS(o:Int)(s:List UInt8)(m:Scp)(n:Nat):Scp:=if o=1 then fm m s n else m
def opC(o:Int)(s:List UInt8)(m:Scp)(up:List Scp)(c:Int):Int:=
 if o=1 then(if(iK m s).isSome then fl c 2 else c) else if o=2 then(if(eS (m::up) s).isSome then c else fl c 3) else c
mutual
def icS(fns:List Fd)(k:Nat):Sm→Scp→List Scp→Int→Scp × Int
 | .mk o s a bd el,m,up,c=>
   let m2:=opS o s m 0
   let c2:=opC o s m up (AR fns k (m::up) a c)
   (m2,if o=5∨o=6 then(ij fns k el [] (m2::up) (ij fns k bd [] (m2::up) c2).2).2 else c2)
def ij(fns:List Fd)(k:Nat):List Sm→Scp→List Scp→Int→Scp × Int
 |[],m,_,c=>(m,c)
 |s::r,m,up,c=>ij fns k r (icS fns k s m up c).1 up (icS fns k s m up c).2
end
def kZ(ps:List (List UInt8))(m:Scp)(c:Int):Scp × Int:=ps.foldl (fun x s=>(fm x.1 s 0,if(iK x.1 s).isSome then fl x.2 2 else x.2)) (m,c)
def icF(fns:List Fd)(k:Nat)(f:Fd)(c:Int):Int:=
 let c1:=if(match bW fns f.name with|some j=>decide (j<k)|none=>true) then fl c 2 else c
 let x:=kZ f.params [] c1
 (ij fns k f.body x.1 [] x.2).2
def kb(fns:List Fd):Nat→List Fd→Int→Int
 |_,[],c=>c
 |k,f::r,c=>kb fns (k+1) r (icF fns k f c)
def SR(g:LV→Nat):Nat→List LV→List Scp→Prop
 |_,_,[]=>False
 |b,vs,m::up=>∃v1 v2,vs=v1++v2∧(∀v∈v1,v.block=b)∧(∀s,(lkV v1 s).map g=iK m s)∧match b with
  |0=>v2=[]∧up=[]
  |b+1=>SR g b v2 up
theorem BM(a b:List LV)(s:List UInt8):lkV (a++b) s=match lkV a s with|some v=>some v|none=>lkV b s:=by
 simp only[lkV,List.find?_append]
 cases List.find? (fun v=>decide (v.name=s)) a<;>rfl
variable {g:LV→Nat}
theorem SR.blk:∀{b:Nat} {vs:List LV} {ch:List Scp},SR g b vs ch→∀v∈vs,v.block≤b
 |b,_,[],h,v,hv=>by cases b<;>exact False.elim h
 |0,vs,m::up,⟨v1,v2,e,h1,_,h3,_⟩,v,hv=>by
  subst e;subst h3
  rw[List.append_nil] at hv
  exact Nat.le_of_eq (h1 v hv)
 |b+1,vs,m::up,⟨v1,v2,e,h1,_,h3⟩,v,hv=>by
  subst e
  rcases List.mem_append.1 hv with h|h
  ·exact Nat.le_of_eq (h1 v h)
  ·exact Nat.le_succ_of_le (SR.blk h3 v h)
theorem SR.fnd:∀{b:Nat} {vs:List LV} {ch:List Scp},SR g b vs ch→∀s,(lkV vs s).map g=eS ch s
 |b,_,[],h,s=>by cases b<;>exact False.elim h
 |0,vs,m::up,⟨v1,v2,e,h1,h2,h3,h4⟩,s=>by
  subst e;subst h3;subst h4
  rw[List.append_nil,h2,eS]
  cases iK m s<;>rfl
 |b+1,vs,m::up,⟨v1,v2,e,h1,h2,h3⟩,s=>by
  subst e
  have ih:=SR.fnd h3 s
  have h2:=h2 s
  rw[BM,eS,←h2]
  cases e1:lkV v1 s with
  |some v=>rfl
  |none=>exact ih
theorem SR.is{b:Nat}{vs:List LV}{ch:List Scp}(h:SR g b vs ch)(s:List UInt8):(lkV vs s).isSome=(eS ch s).isSome:=by rw[←h.fnd s,Option.isSome_map]
theorem xx{vs:List LV}{s:List UInt8}{v:LV}(h:lkV vs s=some v):v∈vs:=List.mem_of_find?_eq_some h
theorem SR.put:∀{b:Nat} {vs:List LV} {m:Scp} {up:List Scp},SR g b vs (m::up)→∀(s:List UInt8) (c:Int),pk vs s b c=if(iK m s).isSome then fl c 2 else c:=by
 intro b vs m up h s c
 have key:∀v1 v2:List LV,(∀v∈v1,v.block=b)→(lkV v1 s).map g=iK m s→(∀v∈v2,v.block≠b)→pk (v1++v2) s b c=if(iK m s).isSome then fl c 2 else c:=by
  intro v1 v2 h1 h2 h3
  rw[←h2,pk,BM]
  cases e1:lkV v1 s with
  |some v=>simp[h1 v (xx e1)]
  |none=>
   cases e2:lkV v2 s with
   |none=>rfl
   |some v=>simp[h3 v (xx e2)]
 match b,h with
 |0,⟨v1,v2,e,h1,h2,h3,_⟩=>subst e;subst h3;exact key v1 [] h1 (h2 s) (fun v hv=>by simp at hv)
 |b+1,⟨v1,v2,e,h1,h2,h3⟩=>subst e;exact key v1 v2 h1 (h2 s) (fun v hv e=>by have:=h3.blk v hv;omega)
theorem um:∀(m:Scp) (s:List UInt8) (n:Nat) (t:List UInt8),iK (fm m s n) t=if s=t then some n else iK m t
 |[],s,n,t=>by
  by_cases h:s=t
  ·simp[fm,iK,h]
  ·simp[fm,iK,h]
 |x::r,s,n,t=>by
  have ih:=um r s n t
  simp only[iK] at ih
  by_cases hx:x.1=s
  ·by_cases h:s=t
   ·simp[fm,iK,hx,h]
   ·have:¬x.1=t:=by rw[hx];exact h
    simp[fm,iK,hx,h]
  ·by_cases ht:x.1=t
   ·have:¬s=t:=fun e=>hx (ht.trans e.symm)
    rw[fm,if_neg hx,if_neg this];simp[iK,ht]
   ·simp only[fm,iK,if_neg hx,List.find?_cons,ht,decide_false]
    exact ih
theorem SR.add{b:Nat}{vs:List LV}{m:Scp}{up:List Scp}(h:SR g b vs (m::up))(s:List UInt8)(n k:Nat)(hg:g ⟨s,n,b⟩=k):SR g b (⟨s,n,b⟩::vs) (fm m s k::up):=by
 have key:∀v1:List LV,(∀s,(lkV v1 s).map g=iK m s)→∀t,(lkV (⟨s,n,b⟩::v1) t).map g=iK (fm m s k) t:=by
  intro v1 h2 t
  rw[um]
  by_cases e:s=t
  ·simp[lkV,e,←hg]
  ·rw[if_neg e,←h2 t];simp[lkV,e]
 match b,h with
 |0,⟨v1,v2,e,h1,h2,h3⟩=>
  subst e
  refine⟨⟨s,n,0⟩::v1,v2,rfl,fun v hv=>?_,key v1 h2,h3⟩
  rcases List.mem_cons.1 hv with rfl|hv
  ·rfl
  ·exact h1 v hv
 |b+1,⟨v1,v2,e,h1,h2,h3⟩=>
  subst e
  refine⟨⟨s,n,b+1⟩::v1,v2,rfl,fun v hv=>?_,key v1 h2,h3⟩
  rcases List.mem_cons.1 hv with rfl|hv
  ·rfl
  ·exact h1 v hv
theorem SR.open{b:Nat}{vs:List LV}{ch:List Scp}(h:SR g b vs ch):SR g (b+1) vs ([]::ch):=⟨[],vs,rfl,fun v hv=>by simp at hv,fun s=>rfl,h⟩
theorem SR.base:SR g 0 [] [[]]:=⟨[],[],rfl,fun v hv=>by simp at hv,fun s=>rfl,rfl,rfl⟩
theorem xH{α:Type}{p:α→Bool}{l:List α}{k:Nat}:(l.take k).findIdx? p=match l.findIdx? p with|some j=>if j<k then some j else none|none=>none:=by
 cases h:l.findIdx? p with
 |none=>
  rw[List.findIdx?_eq_none_iff] at h⊢
  exact fun x hx=>h x (List.mem_of_mem_take hx)
 |some j=>
  rw[List.findIdx?_eq_some_iff_getElem] at h
  obtain⟨h1,h2,h3⟩:=h
  simp only
  split
  ·rename_i hj
   rw[List.findIdx?_eq_some_iff_getElem]
   exact⟨by rw[List.length_take];omega,by rw[List.getElem_take];exact h2,fun i hi=>by rw[List.getElem_take];exact h3 i hi⟩
  ·rename_i hj
   rw[List.findIdx?_eq_none_iff]
   intro x hx
   obtain⟨i,hi,rfl⟩:=List.mem_take_iff_getElem.1 hx
   simpa using h3 i (by omega)
theorem ET(fns:List Fd)(k:Nat){vs:List LV}{ch:List Scp}(h:∀s,(lkV vs s).isSome=(eS ch s).isSome)(e:Ex)(c:Int):gX fns k vs e.op e.name e.kids.length c=gw fns k ch c e:=by
 unfold gX gw
 split
 ·rw[←h,lU];cases lkV vs e.name<;>rfl
 ·split
  ·rw[lz,bW,bW,xH]
   cases List.findIdx? (fun f=>decide (f.name=e.name)) fns with
   |none=>rfl
   |some j=>
    simp only
    by_cases hj:j<k
    ·rw[if_neg (by omega),if_pos hj]
    ·rw[if_pos (by omega),if_neg hj]
  ·rfl
mutual
theorem HY(fns:List Fd)(k:Nat){vs:List LV}{ch:List Scp}(h:∀s,(lkV vs s).isSome=(eS ch s).isSome):∀(e:Ex) (c:Int),mP fns k vs e c=e.pre.foldl (gw fns k ch) c
 | .mk o n s ks,c=>by
   rw[mP,Ex.pre,List.foldl_cons,←uO fns k h ks,←ET fns k h];rfl
theorem uO(fns:List Fd)(k:Nat){vs:List LV}{ch:List Scp}(h:∀s,(lkV vs s).isSome=(eS ch s).isSome):∀(l:List Ex) (c:Int),bg fns k vs l c=(ca l).foldl (gw fns k ch) c
 |[],c=>rfl
 |e::r,c=>by rw[bg,ca,List.foldl_append,HY fns k h e,uO fns k h r]
end
abbrev g0:LV→Nat:=fun _=>0
theorem Kd{b:Nat}{w:WS}{m:Scp}{up:List Scp}(h:SR g0 b w.vs (m::up))(o:Int)(s:List UInt8):SR g0 b (opW o s b w).vs (opS o s m 0::up)∧(opW o s b w).code=opC o s m up w.code:=by
 unfold opW opS opC
 by_cases h1:o=1
 ·simp only[h1,if_true]
  exact⟨h.add s _ 0 rfl,h.put s _⟩
 ·simp only[if_neg h1]
  split
  ·refine⟨h,?_⟩
   have:=h.is s
   simp only[lU]
   rw[←this]
   cases lkV w.vs s<;>rfl
  ·exact⟨h,rfl⟩
theorem zP{d:Nat}{o:Int}{s:List UInt8}{a:List Ex}{bd el:List Sm}(h:aH (d+1) (.mk o s a bd el)=true):bd.all (aH d)=true∧el.all (aH d)=true∧(¬(o=5∨o=6)→bd=[]∧el=[]):=by
 simp only[aH,fY,Sm.op,Sm.body,Sm.els,Bool.and_eq_true,Bool.or_eq_true,decide_eq_true_eq,List.isEmpty_iff] at h
 refine⟨h.1.2,h.2,fun hn=>⟨?_,?_⟩⟩
 ·rcases h.1.1.2 with(h|h)|h
  ·exact h
  ·exact absurd (.inl (of_decide_eq_true h)) hn
  ·exact absurd (.inr (of_decide_eq_true h)) hn
 ·rcases h.1.1.1.2 with h|h
  ·exact h
  ·exact absurd (.inl (of_decide_eq_true h)) hn
theorem dW(w:WS)(vs:List LV):(w.back vs).code=w.code:=rfl
theorem JV(fns:List Fd)(k:Nat):∀(d b:Nat) (l:List Sm),l.all (aH d)=true→∀(w:WS) (m:Scp) (up:List Scp),SR g0 b w.vs (m::up)→
 SR g0 b (bn fns k b l w).vs ((ij fns k l m up w.code).1::up)∧(bn fns k b l w).code=(ij fns k l m up w.code).2:=by
 intro d
 induction d with
 |zero=>
  intro b l hl w m up h
  cases l with
  |nil=>exact⟨h,rfl⟩
  |cons s r=>simp[aH] at hl
 |succ d ih=>
  have di:∀(b:Nat) (s:Sm),aH (d+1) s=true→∀(w:WS) (m:Scp) (up:List Scp),SR g0 b w.vs (m::up)→
   SR g0 b (stW fns k b s w).vs ((icS fns k s m up w.code).1::up)∧(stW fns k b s w).code=(icS fns k s m up w.code).2:=by
   intro b s hs w m up h
   obtain⟨o,n,a,bd,el⟩:=s
   obtain⟨f1,f2,f3⟩:=zP hs
   have hc:=uO fns k h.is a w.code
   obtain⟨g1,g2⟩:=Kd (w:=⟨w.vs,w.count,bg fns k w.vs a w.code⟩) h o n
   rw[stW,icS]
   simp only[hc] at g1 g2⊢
   generalize hw2:opW o n b ⟨w.vs,w.count,(ca a).foldl (gw fns k (m::up)) w.code⟩=w2 at*
   refine⟨g1,?_⟩
   rw[dW]
   have g2':w2.code=opC o n m up (AR fns k (m::up) a w.code):=g2
   rw[←g2']
   by_cases ho:o=5∨o=6
   ·rw[if_pos ho]
    have k1:=ih (b+1) bd f1 w2 [] _ g1.open
    have k2:=ih (b+1) el f2 ((bn fns k (b+1) bd w2).back w2.vs) [] _ g1.open
    rw[k2.2,dW,k1.2]
   ·obtain⟨rfl,rfl⟩:=f3 ho
    rw[if_neg ho]
    simp[bn,WS.back]
  intro b l
  induction l with
  |nil=>intro _ w m up h;exact⟨h,rfl⟩
  |cons s r ihl=>
   intro hl w m up h
   rw[List.all_cons,Bool.and_eq_true] at hl
   obtain⟨k1,k2⟩:=di b s hl.1 w m up h
   have:=ihl hl.2 _ _ up k1
   rw[bn,ij,←k2]
   exact this
theorem Cu:∀(ps:List (List UInt8)) (w:WS) (m:Scp),SR g0 0 w.vs [m]→SR g0 0 (bH ps w).vs [(kZ ps m w.code).1]∧(bH ps w).code=(kZ ps m w.code).2
 |[],w,m,h=>⟨h,rfl⟩
 |s::r,w,m,h=>by
  have hp:=h.put s w.code
  have:=Cu r (eZ w s 0) (fm m s 0) (h.add s w.count 0 rfl)
  simp only[bH,kZ,List.foldl_cons] at this⊢
  rw[←hp]
  exact this
theorem Fj{fns:List Fd}{k:Nat}{ch:List Scp}{c:Int}(h:c≠0)(e:Ex):gw fns k ch c e=c:=by
 unfold gw
 simp only[uJ h]
 split
 ·split<;>rfl
 ·split
  ·split
   ·rfl
   ·split<;>rfl
  ·rfl
theorem wE{fns:List Fd}{k:Nat}{ch:List Scp}{c:Int}(h:c≠0):∀l:List Ex,l.foldl (gw fns k ch) c=c
 |[]=>rfl
 |e::r=>by rw[List.foldl_cons,Fj h,wE h r]
theorem DY{o:Int}{s:List UInt8}{m:Scp}{up:List Scp}{c:Int}(h:c≠0):opC o s m up c=c:=by
 unfold opC
 simp only[uJ h]
 split
 ·split<;>rfl
 ·split
  ·split<;>rfl
  ·rfl
mutual
theorem DQ(fns:List Fd)(k:Nat){c:Int}(h:c≠0):∀(s:Sm) (m:Scp) (up:List Scp),(icS fns k s m up c).2=c
 | .mk o s a bd el,m,up=>by
   rw[icS]
   simp only[AR,wE h,DY h]
   rw[oy fns k h bd,oy fns k h el,ite_self]
theorem oy(fns:List Fd)(k:Nat){c:Int}(h:c≠0):∀(l:List Sm) (m:Scp) (up:List Scp),(ij fns k l m up c).2=c
 |[],m,up=>rfl
 |s::r,m,up=>by rw[ij,DQ fns k h s m up,oy fns k h r]
end
theorem wQ{c:Int}(h:c≠0):∀(ps:List (List UInt8)) (m:Scp),(kZ ps m c).2=c
 |[],m=>rfl
 |s::r,m=>by
  have:=wQ h r (fm m s 0)
  simp only[kZ,List.foldl_cons,uJ h,ite_self] at this⊢
  exact this
theorem FI(fns:List Fd)(k:Nat)(f:Fd){c:Int}(h:c≠0):icF fns k f c=c:=by
 simp only[icF,uJ h,ite_self]
 rw[wQ h,oy fns k h]
theorem uu(fns:List Fd){c:Int}(h:c≠0):∀(l:List Fd) (k:Nat),kb fns k l c=c
 |[],k=>rfl
 |f::r,k=>by rw[kb,FI fns k f h,uu fns h r]
theorem wW{fns:List Fd}{k:Nat}{f:Fd}(h:fns[k]?=some f):∃j,bW fns f.name=some j∧j≤k:=by
 cases e:bW fns f.name with
 |none=>
  rw[bW,List.findIdx?_eq_none_iff] at e
  have:=e f (List.mem_of_getElem? h)
  simp at this
 |some j=>
  refine⟨j,rfl,?_⟩
  rw[bW,List.findIdx?_eq_some_iff_getElem] at e
  obtain⟨h1,h2,h3⟩:=e
  rcases Nat.lt_or_ge k j with hk|hk
  ·have:=h3 k hk
   obtain⟨a1,a2⟩:=List.getElem?_eq_some_iff.1 h
   rw[a2] at this
   simp at this
  ·exact hk
theorem Lz(fns:List Fd){k:Nat}{f:Fd}(hf:fns[k]?=some f)(hok:ig f=true):(fnW fns k f).code=icF fns k f 0:=by
 obtain⟨j,e1,e2⟩:=wW hf
 have hb:f.body.all (aH 4)=true:=by simp only[ig,Bool.and_eq_true] at hok;exact hok.2
 have hc:(if bW fns f.name=some k then(0:Int) else 2)=if(match bW fns f.name with|some j=>decide (j<k)|none=>true) then fl 0 2 else 0:=by
  rw[e1]
  by_cases h:j=k
  ·subst h;simp
  ·have:j<k:=by omega
   simp[h,this,fl]
 obtain⟨p1,p2⟩:=Cu f.params ⟨[],0,if bW fns f.name=some k then(0:Int) else 2⟩ [] SR.base
 obtain⟨q1,q2⟩:=JV fns k 4 0 f.body hb _ _ [] p1
 rw[fnW,q2,p2]
 simp only[icF,←hc]
theorem Es(fns:List Fd):∀(l:List Fd) (k:Nat),(∀i,l[i]?=fns[k+i]?)→l.all ig=true→iI fns k l=kb fns k l 0
 |[],k,_,_=>rfl
 |f::r,k,hl,ha=>by
  rw[List.all_cons,Bool.and_eq_true] at ha
  have h0:fns[k]?=some f:=by have:=hl 0;simpa using this.symm
  have hr:∀i,r[i]?=fns[k+1+i]?:=fun i=>by have:=hl (i+1);rw[List.getElem?_cons_succ] at this;rw[this];congr 1;omega
  rw[iI,kb,Lz fns h0 ha.1]
  split
  ·rename_i e;rw[e];exact Es fns r (k+1) hr ha.2
  ·rename_i e;rw[uu fns e]
theorem Au(fns:List Fd):bD fns=if bu fns then kb fns 0 fns 0 else 1:=by
 unfold bD
 split
 ·rename_i h
  simp only[bu,Bool.and_eq_true] at h
  exact Es fns fns 0 (fun i=>by rw[Nat.zero_add]) h.1.2
 ·rfl
end Go.Proofs.YtnjbhgpbgmpkcaaGreatDoor
namespace Go.Proofs.YtnjbhgpbgmpkcaaGreatDoor
open Go Go.Aw
set_option maxRecDepth 100000
mutual
def rnS(fns:List Fd)(k b:Nat):Sm→WS→Sm
 | .mk o s a bd el,w=>
   let w2:=opW o s b ⟨w.vs,w.count,bg fns k w.vs a w.code⟩
   .mk o (opN o s w) (dj w.vs a) (cG fns k (b+1) bd w2) (cG fns k (b+1) el ((bn fns k (b+1) bd w2).back w2.vs))
def cG(fns:List Fd)(k b:Nat):List Sm→WS→List Sm
 |[],_=>[]
 |s::r,w=>rnS fns k b s w::cG fns k b r (stW fns k b s w)
end
def fI:List (List UInt8)→WS→List (List UInt8)
 |[],_=>[]
 |s::r,w=>vnm w.count::fI r (eZ w s 0)
def rnF(fns:List Fd)(k:Nat)(f:Fd):Fd:=
 ⟨f.name,fI f.params ⟨[],0,if bW fns f.name=some k then 0 else 2⟩,cG fns k 0 f.body (bH f.params ⟨[],0,if bW fns f.name=some k then 0 else 2⟩)⟩
mutual
def jf:Sm→Nat
 | .mk o _ _ bd el=>(if o=1 then 1 else 0)+bS bd+bS el
def bS:List Sm→Nat
 |[]=>0
 |s::r=>jf s+bS r
end
theorem lQ(o:Int)(s:List UInt8)(b:Nat)(w:WS):(opW o s b w).count=w.count+if o=1 then 1 else 0:=by
 unfold opW
 split
 ·rfl
 ·split<;>rfl
mutual
theorem rG(fns:List Fd)(k:Nat):∀(s:Sm) (b:Nat) (w:WS),(stW fns k b s w).count=w.count+jf s
 | .mk o s a bd el,b,w=>by
   rw[stW,jf]
   simp only[WS.back]
   rw[ep fns k el,ep fns k bd,lQ];show w.count+_+_+_=_
   omega
theorem ep(fns:List Fd)(k:Nat):∀(l:List Sm) (b:Nat) (w:WS),(bn fns k b l w).count=w.count+bS l
 |[],b,w=>rfl
 |s::r,b,w=>by rw[bn,bS,ep fns k r,rG fns k s];omega
end
mutual
theorem HC:∀s:Sm,jf s≤s.cnt
 | .mk o s a bd el=>by
   have:=nL bd
   have:=nL el
   simp only[jf,Sm.cnt]
   split<;>omega
theorem nL:∀l:List Sm,bS l≤cW l
 |[]=>Nat.le_refl _
 |s::r=>by have:=HC s;have:=nL r;simp only[bS,cW];omega
end
theorem kI:∀(ps:List (List UInt8)) (w:WS),(bH ps w).count=w.count+ps.length
 |[],w=>rfl
 |s::r,w=>by
  have:=kI r (eZ w s 0)
  simp only[bH,List.foldl_cons,List.length_cons] at this⊢
  rw[this];simp only[eZ];omega
theorem DO(fns:List Fd)(k:Nat)(f:Fd):(fnW fns k f).count=f.params.length+bS f.body:=by
 rw[fnW,ep,kI];simp
theorem Hg(o:Int)(s:List UInt8)(b:Nat)(w:WS):∃e,(opW o s b w).vs=e++w.vs:=by
 unfold opW
 split
 ·exact⟨[_],rfl⟩
 ·split<;>exact⟨[],rfl⟩
theorem Gm(fns:List Fd)(k b:Nat)(o:Int)(s:List UInt8)(a:List Ex)(bd el:List Sm)(w:WS):(stW fns k b (.mk o s a bd el) w).vs=(opW o s b ⟨w.vs,w.count,bg fns k w.vs a w.code⟩).vs:=rfl
theorem yf(fns:List Fd)(k:Nat):∀(l:List Sm) (b:Nat) (w:WS),∃e,(bn fns k b l w).vs=e++w.vs
 |[],b,w=>⟨[],rfl⟩
 | .mk o s a bd el::r,b,w=>by
   obtain⟨e1,h1⟩:=yf fns k r b (stW fns k b (.mk o s a bd el) w)
   obtain⟨e2,h2⟩:=Hg o s b ⟨w.vs,w.count,bg fns k w.vs a w.code⟩
   exact⟨e1++e2,by rw[bn,h1,Gm,h2,List.append_assoc]⟩
theorem Kh{o:Int}{s:List UInt8}{b:Nat}{w:WS}(h:w.vs.length≤w.count):(opW o s b w).vs.length≤(opW o s b w).count:=by
 unfold opW
 split
 ·simp[eZ,h]
 ·split<;>exact h
theorem JE(fns:List Fd)(k:Nat){s:Sm}{b:Nat}{w:WS}(h:w.vs.length≤w.count):(stW fns k b s w).vs.length≤(stW fns k b s w).count:=by
 obtain⟨o,n,a,bd,el⟩:=s
 rw[rG,Gm]
 have:=Kh (o:=o) (s:=n) (b:=b) (w:=⟨w.vs,w.count,bg fns k w.vs a w.code⟩) h
 rw[lQ] at this
 simp only[jf]
 simp only at this
 omega
theorem Cs(fns:List Fd)(k:Nat):∀{l:List Sm} {b:Nat} {w:WS},w.vs.length≤w.count→(bn fns k b l w).vs.length≤(bn fns k b l w).count
 |[],_,_,h=>h
 |s::r,b,w,h=>Cs fns k (l:=r) (JE fns k h)
mutual
def Sm.pre(d:Nat):Sm→List (Sm × Nat)
 | .mk o s a bd el=>(.mk o s a bd el,d)::(aW (d+1) bd++aW (d+1) el)
def aW(d:Nat):List Sm→List (Sm × Nat)
 |[]=>[]
 |s::r=>Sm.pre d s++aW d r
end
theorem Sm.pre_eq(d:Nat)(s:Sm):s.pre d=(s,d)::(aW (d+1) s.body++aW (d+1) s.els):=by cases s;rfl
theorem mw(d:Nat):∀a b:List Sm,aW d (a++b)=aW d a++aW d b
 |[],b=>rfl
 |s::r,b=>by rw[List.cons_append,aW,aW,mw d r b,List.append_assoc]
theorem Ex.pre_eq(e:Ex):e.pre=e::ca e.kids:=by cases e;rfl
theorem lP:∀a b:List Ex,ca (a++b)=ca a++ca b
 |[],b=>rfl
 |e::r,b=>by rw[List.cons_append,ca,ca,lP r b,List.append_assoc]
mutual
theorem Sm.pre_len:∀(s:Sm) (d:Nat),(s.pre d).length=s.cnt
 | .mk o s a bd el,d=>by simp only[Sm.pre,Sm.cnt,List.length_cons,List.length_append,jS bd,jS el];omega
theorem jS:∀(l:List Sm) (d:Nat),(aW d l).length=cW l
 |[],d=>rfl
 |s::r,d=>by simp only[aW,cW,List.length_append,Sm.pre_len s,jS r]
end
end Go.Proofs.YtnjbhgpbgmpkcaaGreatDoor
namespace Go.Proofs.YtnjbhgpbgmpkcaaGreatDoor
open Go Go.Aw
set_option maxRecDepth 100000
set_option maxHeartbeats 4000000
def K_impl_stmtOk:AK:= .seq (.reg [oJ 2 (.box 5 (.t 0)),oJ 4 (.mov (.c (.p (.bool false))))]) (.seq (.reg [oF 12 0 2,oL 13 12,oJ 14 (.call gf [(.t 13)]),oM 11 14,oJ 15 (.ext 0 (.t 11)),oJ 16 (.ext 1 (.t 11)),oJ 17 (.ext 2 (.t 11)),oJ 18 (.ext 3 (.t 11)),oM 5 15,oM 6 16,oM 7 17,oM 8 18]) (.cut (.blk 0 (.seq (.seq (.reg [oM 20 1,oJ 21 (.bin .gtr (.t 20) (.c (.p (.int .i64 4)))),oM 19 21]) (.cond (.t 19) (.skip) (.seq (.reg [oF 22 2 2,oL 23 22,oJ 24 (.len false (.t 23)),oM 25 5,oJ 26 (.bin .neq (.t 24) (.t 25)),oM 19 26]) (.cond (.t 19) (.skip) (.cut (.reg [oM 27 6,oM 28 27,⟨(some 29),some (28,true),.fldA 1 (.t 2)⟩,⟨(some 30),some (28,true),.ld none (.t 29)⟩,⟨(some 31),some (28,true),.call bM [(.t 30)]⟩,⟨(some 32),some (28,true),.not (.t 31)⟩,oJ 33 (.pick (.t 28) (.t 32) (.c (.p (.bool false)))),oM 19 33]) (.cond (.t 19) (.skip) (.cut (.reg [oM 34 6,oJ 35 (.not (.t 34)),oM 36 35,⟨(some 37),some (36,true),.fldA 1 (.t 2)⟩,⟨(some 38),some (36,true),.ld none (.t 37)⟩,⟨(some 39),some (36,true),.bins .neq (.t 38) (.c (.p (.str [])))⟩,oJ 40 (.pick (.t 36) (.t 39) (.c (.p (.bool false)))),oM 19 40]) (.cond (.t 19) (.skip) (.cut (.reg [oM 41 7,oJ 42 (.not (.t 41)),oM 43 42,⟨(some 44),some (43,true),.fldA 3 (.t 2)⟩,⟨(some 45),some (43,true),.ld none (.t 44)⟩,⟨(some 46),some (43,true),.len false (.t 45)⟩,⟨(some 47),some (43,true),.bin .gtr (.t 46) (.c (.p (.int .i64 0)))⟩,oJ 48 (.pick (.t 43) (.t 47) (.c (.p (.bool false)))),oM 19 48]) (.cond (.t 19) (.skip) (.cut (.reg [oM 49 8,oJ 50 (.not (.t 49)),oM 51 50,⟨(some 52),some (51,true),.fldA 4 (.t 2)⟩,⟨(some 53),some (51,true),.ld none (.t 52)⟩,⟨(some 54),some (51,true),.len false (.t 53)⟩,⟨(some 55),some (51,true),.bin .gtr (.t 54) (.c (.p (.int .i64 0)))⟩,oJ 56 (.pick (.t 51) (.t 55) (.c (.p (.bool false)))),oM 19 56]) (.cond (.t 19) (.skip) (.reg [oF 57 0 2,oL 58 57,oJ 59 (.bin .eql (.t 58) (.c (.p (.int .i64 8)))),oM 60 59,⟨(some 61),some (60,true),.fldA 2 (.t 2)⟩,⟨(some 62),some (60,true),.ld none (.t 61)⟩,⟨(some 63),some (60,true),.idxS 4 (.t 62) (.c (.p (.int .i64 0)))⟩,⟨(some 64),some (60,true),.fldA 0 (.t 63)⟩,⟨(some 65),some (60,true),.ld none (.t 64)⟩,⟨(some 66),some (60,true),.bin .neq (.t 65) (.c (.p (.int .i64 13)))⟩,oJ 67 (.pick (.t 60) (.t 66) (.c (.p (.bool false)))),oM 19 67]))))))))))))) (.cond (.t 19) (.seq (.reg [oJ 4 (.mov (.c (.p (.bool false))))]) (.ret)) (.skip)))) (.seq (.seq (.reg [oF 68 2 2,oL 69 68,oJ 70 (.len false (.t 69)),oK 71 0]) (.blk 1 (.loop (.seq (.reg [oJ 72 (.bin .lss (.t 71) (.t 70))]) (.seq (.cond (.t 72) (.skip) (.exit 1)) (.seq (.blk 2 (.seq (.reg [oJ 73 (.idxS 4 (.t 69) (.t 71)),oJ 74 (.ld (some 4) (.t 73)),oJ 10 (.alloc [(.p (.int .i64 0)),(.p (.int .i64 0)),(.p (.str [])),.nils]),⟨none,none,.st 4 (.t 10) (.t 74)⟩]) (.seq (.reg [oJ 75 (.ld (some 4) (.t 10)),oJ 76 (.call fw [(.t 75)]),oJ 77 (.not (.t 76))]) (.cond (.t 77) (.seq (.reg [oJ 4 (.mov (.c (.p (.bool false))))]) (.ret)) (.skip))))) (.reg [oJ 78 (.bin .add (.t 71) (.c (.p (.int .i64 1)))),oM 71 78]))))))) (.seq (.reg [oF 79 3 2,oL 80 79,oM 81 1,oJ 82 (.bin .add (.t 81) (.c (.p (.int .i64 1)))),oJ 83 (.call cZ [(.t 80),(.t 82)]),oM 84 83,⟨(some 85),some (84,true),.fldA 4 (.t 2)⟩,⟨(some 86),some (84,true),.ld none (.t 85)⟩,⟨(some 87),some (84,true),.mov (.t 1)⟩,⟨(some 88),some (84,true),.bin .add (.t 87) (.c (.p (.int .i64 1)))⟩,⟨(some 89),some (84,true),.call cZ [(.t 86),(.t 88)]⟩,oJ 90 (.pick (.t 84) (.t 89) (.c (.p (.bool false)))),oM 4 90]) (.ret)))))
theorem vS:K_impl_stmtOk.whole=F_impl_stmtOk.ak:=rfl
variable (G:aC)
def oT(op:Int):Int:=if op=4 then 2 else if inR op 1 8 then 1 else-1
def jn(op:Int):Bool:=decide (op=5)||decide (op=6)
theorem vf(op:Int):VF Tryz.prog G gf [.p (.int .i64 op)] (.tup [.p (.int .i64 (oT op)),.p (.bool (cV op)),.p (.bool (jn op)),.p (.bool (decide (op=5)))]):=by
 refine AC.go ta ?_
 by_cases h1:op=1
 ·subst h1;simp-implicitDefEqProofs[bx,oT,inR,cV,jn]
 by_cases h2:op=2
 ·subst h2;simp-implicitDefEqProofs[bx,oT,inR,cV,jn]
 by_cases h3:op=3
 ·subst h3;simp-implicitDefEqProofs[bx,oT,inR,cV,jn]
 by_cases h4:op=4
 ·subst h4;simp-implicitDefEqProofs[bx,oT,inR,cV,jn]
 by_cases h5:op=5
 ·subst h5;simp-implicitDefEqProofs[bx,oT,inR,cV,jn]
 by_cases h6:op=6
 ·subst h6;simp-implicitDefEqProofs[bx,oT,inR,cV,jn]
 by_cases h7:op=7
 ·subst h7;simp-implicitDefEqProofs[bx,oT,inR,cV,jn]
 by_cases h8:op=8
 ·subst h8;simp-implicitDefEqProofs[bx,oT,inR,cV,jn]
 have ha:oT op= -1:=by
  have:inR op 1 8=false:=by simp[inR];omega
  rw[oT,if_neg h4,this];rfl
 have hn:cV op=false:=by simp[cV,h1,h2]
 have hb:jn op=false:=by simp[jn,h5,h6]
 rw[ha,hn,hb]
 simp-implicitDefEqProofs[bx,h1,h2,h3,h4,h5,h6,h7,h8]
def Bm:List Ex→Bool
 |a::_=>decide (a.op=13)
 |[]=>false
def jh(s:Sm):Bool:=decide ((s.args.length:Int)=oT s.op)&&(!cV s.op||aD s.name)&&(cV s.op||decide (s.name=[]))&&(jn s.op||decide (s.body=[]))&&(decide (s.op=5)||decide (s.els=[]))&&
 (!decide (s.op=8)||Bm s.args)
theorem Dj(s:Sm):fY s=(inR s.op 1 8&&decide (s.args.length=jQ s.op)&&(cV s.op==aD s.name)&&(cV s.op||decide (s.name=[]))&&s.args.all iX&&
 (!decide (s.op=8)||Bm s.args)&&(s.els.isEmpty||decide (s.op=5))&&(s.body.isEmpty||decide (s.op=5)||decide (s.op=6))):=by
 unfold fY
 cases s.args<;>rfl
theorem yG(s:Sm):fY s=(jh s&&s.args.all iX):=by
 have ha:decide ((s.args.length:Int)=oT s.op)=(inR s.op 1 8&&decide (s.args.length=jQ s.op)):=by
  unfold oT jQ
  by_cases h4:s.op=4
  ·have:inR s.op 1 8=true:=by simp[inR,h4]
   rw[this,if_pos h4,if_pos h4];simp;omega
  ·rw[if_neg h4,if_neg h4]
   cases h:inR s.op 1 8 with
   |true=>simp;omega
   |false=>simp
 have hn:(cV s.op==aD s.name&&(cV s.op||decide (s.name=[])))=((!cV s.op||aD s.name)&&(cV s.op||decide (s.name=[]))):=by
  cases cV s.op with
  |true=>cases aD s.name<;>rfl
  |false=>
   by_cases h:s.name=[]
   ·rw[h,qn];rfl
   ·simp[h]
 have hb:(s.body.isEmpty||decide (s.op=5)||decide (s.op=6))=(jn s.op||decide (s.body=[])):=by
  rw[jn]
  cases s.body<;>cases decide (s.op=5)<;>cases decide (s.op=6)<;>simp
 have he:(s.els.isEmpty||decide (s.op=5))=(decide (s.op=5)||decide (s.els=[])):=by
  cases s.els<;>cases decide (s.op=5)<;>simp
 rw[Dj]
 unfold jh
 rw[ha,hb,he]
 generalize Bm s.args=z
 generalize (cV s.op==aD s.name)=c at hn⊢
 generalize (!cV s.op||aD s.name)=c' at hn⊢
 generalize (cV s.op||decide (s.name=[]))=d at hn⊢
 generalize s.args.all iX=x
 generalize (jn s.op||decide (s.body=[]))=y
 generalize (decide (s.op=5)||decide (s.els=[]))=y'
 generalize (!decide (s.op=8))=u
 cases inR s.op 1 8<;>cases decide (s.args.length=jQ s.op)<;>cases c<;>cases c'<;>cases d<;>cases x<;>cases y<;>cases y'<;>cases u<;>cases z<;>simp_all
variable (hK:G fC=some ff) (hS:G db=some [.tbl opK opV])
def zU(d:Nat)(L:List Sm):Int:=match L.findIdx? (fun s=> !aH d s) with|some i=>i|none=> -1
theorem Ea(d:Nat)(L:List Sm):decide (0≤zU d L)= !(L.all (aH d)):=by
 unfold zU
 cases h:L.findIdx? (fun x=> !aH d x) with
 |none=>
  rw[List.findIdx?_eq_none_iff] at h
  have:L.all (aH d)=true:=List.all_eq_true.2 fun x hx=>by have:=h x hx;simpa using this
  simp[this]
 |some i=>
  rw[List.findIdx?_eq_some_iff_getElem] at h
  obtain⟨h1,h2,_⟩:=h
  have:L.all (aH d)=false:=List.all_eq_false.2 ⟨_,List.getElem_mem h1,by simpa using h2⟩
  rw[this];simp
theorem sA(d:Nat)(nest:Int)(hs:∀s:Sm,s.sz≤1073741824→VF Tryz.prog G iR [.agg (s.cs.map .p),.p (.int .i64 nest)] (.p (.bool (aH d s))))(L:List Sm)(hL:am L≤1073741824):
 VF Tryz.prog G cZ [.p (smL L),.p (.int .i64 nest)] (.p (.bool (L.all (aH d)))):=by
 have hsl:smL L= .lst 5 (L.map Sm.cs):=rfl
 have hll:=bA L
 have di:∀s:Sm,s.sz≤1073741824→AC Tryz.prog G cX [.agg (s.cs.map .p),.ptr 0 1 0 0] [.row 1 [[.p (.int .i64 nest)]]] fun x h=>x= .ret (.p (.bool (!aH d s)))∧h=[.row 1 [[.p (.int .i64 nest)]]]:=by
  intro s hz
  refine AC.trim (AC.go rC ?_) (by simp[below])
  have hse:=s.cs_eq
  have h1:=hs s hz
  rw[hse] at h1
  simp-implicitDefEqProofs[lp,hse]
  refine h1.use ?_
  simp-implicitDefEqProofs[]
 have idx:AC Tryz.prog G cy [.p (smL L),.fn (.func cX) [.ptr 0 1 0 0]] [.row 1 [[.p (.int .i64 nest)]]] fun x h=>x= .ret (.p (.int .i64 (zU d L)))∧h=[.row 1 [[.p (.int .i64 nest)]]]:=by
  refine AC.go jm ?_
  simp-implicitDefEqProofs[eA,hsl]
  refine aN (fun i:Nat=>al 19 [(0,.p (smL L)),(1,.fn (.func cX) [.ptr 0 1 0 0]),(7,.p (.int .i64 L.length)),(8,.p (.int .i64 i))]) (fun _=>[.row 1 [[.p (.int .i64 nest)]]]) (fun i=>i≤L.length∧∀w∈L.take i,aH d w=true) (fun i=>L.length-i) 0 (by simp) ?_ ?_
  ·exact ab (by simp) (by simp[okO,below]) (by simp[below,ag,hsl])
  ·intro i ⟨hi,hn⟩
   simp-implicitDefEqProofs[hsl]
   refine bc (fun h1=>?_) (fun h1=>?_)
   ·simp at h1
    have hg:=List.getElem?_eq_getElem h1
    have hz:=bY (List.getElem_mem h1)
    simp-implicitDefEqProofs[hg]
    refine(di L[i] (by omega)).mono ?_
    rintro r h ⟨rfl,rfl⟩
    by_cases he:aH d L[i]=true
    ·simp-implicitDefEqProofs[aa,he]
     refine⟨i+1,⟨h1,fun p hp=>?_⟩,by omega,ab (by simp) (by simp[okO,below]) (by simp[below,ag,hsl,w1 (i:=i) (by omega)])⟩
     rw[an h1] at hp
     rcases List.mem_append.1 hp with hp|hp
     ·exact hn p hp
     ·rw[List.mem_singleton.1 hp];exact he
    ·have hf:zU d L=i:=by
      have:L.findIdx? (fun w=> !aH d w)=some i:=by
       rw[List.findIdx?_eq_some_iff_getElem]
       exact⟨h1,by simpa using he,fun j hj=>by have:=hn L[j] (List.mem_take_iff_getElem.2 ⟨j,by omega,rfl⟩);simpa using this⟩
      rw[zU,this]
     simp-implicitDefEqProofs[aa,he,hf]
   ·simp at h1
    rw[List.take_of_length_le h1] at hn
    have hf:zU d L= -1:=by
     have:L.findIdx? (fun w=> !aH d w)=none:=by
      rw[List.findIdx?_eq_none_iff];intro x hx;simpa using hn x hx
     rw[zU,this]
    simp-implicitDefEqProofs[hf]
 have con:AC Tryz.prog G bT [.p (smL L),.fn (.func cX) [.ptr 0 1 0 0]] [.row 1 [[.p (.int .i64 nest)]]] fun x h=>x= .ret (.p (.bool (!L.all (aH d))))∧h=[.row 1 [[.p (.int .i64 nest)]]]:=by
  refine AC.go ik ?_
  simp-implicitDefEqProofs[dF]
  refine idx.mono ?_
  rintro r h ⟨rfl,rfl⟩
  have:=Ea d L
  simp-implicitDefEqProofs[aa]
  simpa using this
 refine AC.go vr ?_
 simp-implicitDefEqProofs[nO]
 refine con.mono ?_
 rintro r h ⟨rfl,rfl⟩
 simp-implicitDefEqProofs[aa]
include hS hK
theorem Fe:∀d:Nat,d≤4→∀s:Sm,s.sz≤1073741824→VF Tryz.prog G iR [.agg (s.cs.map .p),.p (.int .i64 (5-d))] (.p (.bool (aH d s))):=by
 intro d
 induction d with
 |zero=>
  intro _ s hz
  have hse:=s.cs_eq
  refine AC.go py ?_
  simp-implicitDefEqProofs[F_impl_stmtOk,hse]
  refine(vf G _).use ?_
  simp-implicitDefEqProofs[aH]
 |succ d ih=>
  intro hd s hz
  have hse:=s.cs_eq
  have hsz:=s.sz_eq
  have hal:=bi s.args
  have hblk:=sA G d (5-d) (ih (by omega))
  have hnn:(5:Int)-((d+1:Nat):Int)=4-d:=by omega
  have hnw:IntKind.i64.wrap (4-(d:Int)+1)=5-d:=by rw[ah (by omega) (by omega)];omega
  have hn4:¬(4:Int)<4-d:=by omega
  have hxl:exL s.args= .lst 4 (s.args.map Ex.cs):=rfl
  have hsl:∀l,smL l= .lst 5 (l.map Sm.cs):=fun _=>rfl
  rw[hnn]
  have hbad:jh s=false→aH (d+1) s=false:=fun h=>by rw[aH,yG,h];rfl
  refine AC.goK py vS ?_
  simp-implicitDefEqProofs[K_impl_stmtOk,F_impl_stmtOk,hse]
  refine(vf G _).use ?_
  simp-implicitDefEqProofs[]
  refine tP (fun _:Unit=>al 91 [(1,.p (.int .i64 (4-d))),(2,.ptr 0 5 0 0)]) (fun _=>[.row 5 [[.p (.int .i64 s.op),.p (.str s.name),.p (exL s.args),.p (smL s.body),.p (smL s.els)]]]) (fun _=>jh s=true) ?_ ?_
  ·have fin:∀(r1:List (Nat × AV)),Aw.look r1 1= .p (.int .i64 (4-d))→Aw.look r1 2= .ptr 0 5 0 0→
    Wk 0 (al 91 r1) [.row 5 [[.p (.int .i64 s.op),.p (.str s.name),.p (exL s.args),.p (smL s.body),.p (smL s.els)]]] (al 91 [(1,.p (.int .i64 (4-d))),(2,.ptr 0 5 0 0)]) [.row 5 [[.p (.int .i64 s.op),.p (.str s.name),.p (exL s.args),.p (smL s.body),.p (smL s.els)]]]:=fun r1 a b=>
    ab (by simp) (by simp[okO,below]) (by simp[below,a,b])
   have hb0:s.body=[]∨0<s.body.length:=by cases s.body<;>simp
   have he0:s.els=[]∨0<s.els.length:=by cases s.els<;>simp
   by_cases hl:(s.args.length:Int)=oT s.op
   case neg=>
    rw[hbad (by simp[jh,hl])]
    simp-implicitDefEqProofs[hn4,hxl,hl]
   have hel:(decide (s.els=[]))= !decide (0<s.els.length):=by cases s.els<;>simp
   have hbo:(decide (s.body=[]))= !decide (0<s.body.length):=by cases s.body<;>simp
   simp-implicitDefEqProofs[hn4,hxl,hl]
   refine lg (al 91 [(1,.p (.int .i64 (4-d))),(2,.ptr 0 5 0 0),(6,.p (.bool (cV s.op))),(7,.p (.bool (jn s.op))),(8,.p (.bool (decide (s.op=5)))),(19,.p (.bool (cV s.op&& !aD s.name)))]) ([.row 5 [[.p (.int .i64 s.op),.p (.str s.name),.p (exL s.args),.p (smL s.body),.p (smL s.els)]]]) ?_ ?_
   ·cases hn:cV s.op with
    |true=>
     simp-implicitDefEqProofs[]
     refine(nZ G hK _ (by omega)).use ?_
     simp-implicitDefEqProofs[]
     exact ab (by simp) (by simp[okO,below]) (by simp[below])
    |false=>
     simp-implicitDefEqProofs[]
     exact ab (by simp) (by simp[okO,below]) (by simp[below])
   by_cases h2:(cV s.op&& !aD s.name)=true
   ·rw[hbad (by simp only[jh];cases h:cV s.op<;>cases h':aD s.name<;>simp[h,h'] at h2⊢)]
    simp-implicitDefEqProofs[h2]
   have h2':(cV s.op&& !aD s.name)=false:=by simpa using h2
   rw[h2']
   simp-implicitDefEqProofs[]
   refine lg (al 91 [(1,.p (.int .i64 (4-d))),(2,.ptr 0 5 0 0),(6,.p (.bool (cV s.op))),(7,.p (.bool (jn s.op))),(8,.p (.bool (decide (s.op=5)))),(19,.p (.bool (!cV s.op&& !decide (s.name=[]))))]) ([.row 5 [[.p (.int .i64 s.op),.p (.str s.name),.p (exL s.args),.p (smL s.body),.p (smL s.els)]]]) ?_ ?_
   ·cases hn:cV s.op with
    |true=>
     simp-implicitDefEqProofs[]
     exact ab (by simp) (by simp[okO,below]) (by simp[below])
    |false=>
     simp-implicitDefEqProofs[]
     exact ab (by simp) (by simp[okO,below]) (by simp[below])
   by_cases h3:(!cV s.op&& !decide (s.name=[]))=true
   ·rw[hbad (by simp only[jh];cases h:cV s.op<;>cases h':decide (s.name=[])<;>simp[h,h'] at h3⊢)]
    simp-implicitDefEqProofs[h3]
   have h3':(!cV s.op&& !decide (s.name=[]))=false:=by simpa using h3
   rw[h3']
   simp-implicitDefEqProofs[]
   refine lg (al 91 [(1,.p (.int .i64 (4-d))),(2,.ptr 0 5 0 0),(6,.p (.bool (cV s.op))),(7,.p (.bool (jn s.op))),(8,.p (.bool (decide (s.op=5)))),(19,.p (.bool (!jn s.op&&decide (0<s.body.length))))]) ([.row 5 [[.p (.int .i64 s.op),.p (.str s.name),.p (exL s.args),.p (smL s.body),.p (smL s.els)]]]) ?_ ?_
   ·cases hn:jn s.op with
    |true=>
     simp-implicitDefEqProofs[hsl]
     exact ab (by simp) (by simp[okO,below]) (by simp[below])
    |false=>
     simp-implicitDefEqProofs[hsl]
     exact ab (by simp) (by simp[okO,below]) (by simp[below])
   by_cases h4:(!jn s.op&&decide (0<s.body.length))=true
   ·rw[hbad (by simp only[jh,hbo];cases h:jn s.op<;>cases h':decide (0<s.body.length)<;>simp[h,h'] at h4⊢)]
    simp-implicitDefEqProofs[h4]
   have h4':(!jn s.op&&decide (0<s.body.length))=false:=by simpa using h4
   rw[h4']
   simp-implicitDefEqProofs[]
   refine lg (al 91 [(1,.p (.int .i64 (4-d))),(2,.ptr 0 5 0 0),(6,.p (.bool (cV s.op))),(7,.p (.bool (jn s.op))),(8,.p (.bool (decide (s.op=5)))),(19,.p (.bool (!decide (s.op=5)&&decide (0<s.els.length))))]) ([.row 5 [[.p (.int .i64 s.op),.p (.str s.name),.p (exL s.args),.p (smL s.body),.p (smL s.els)]]]) ?_ ?_
   ·cases hn:decide (s.op=5) with
    |true=>
     simp-implicitDefEqProofs[hsl]
     exact ab (by simp) (by simp[okO,below]) (by simp[below])
    |false=>
     simp-implicitDefEqProofs[hsl]
     exact ab (by simp) (by simp[okO,below]) (by simp[below])
   by_cases h5:(!decide (s.op=5)&&decide (0<s.els.length))=true
   ·rw[hbad (by simp only[jh,hel];cases h:decide (s.op=5)<;>cases h':decide (0<s.els.length)<;>simp[h,h'] at h5⊢)]
    simp-implicitDefEqProofs[h5]
   have h5':(!decide (s.op=5)&&decide (0<s.els.length))=false:=by simpa using h5
   rw[h5']
   have hh1:jh s=(!decide (s.op=8)||Bm s.args):=by
    simp only[jh,hl,decide_true,Bool.true_and,hel,hbo]
    cases h:cV s.op<;>cases hi:aD s.name<;>cases hm:decide (s.name=[])<;>cases hb:jn s.op<;>cases hc:decide (0<s.body.length)<;>cases ho:decide (s.op=5)<;>cases he:decide (0<s.els.length)<;>simp[h,hi,hm,hb,hc,ho,he] at h2' h3' h4' h5'⊢
   by_cases o8:s.op=8
   ·have ha1:s.args.length=1:=by
     have:oT s.op=1:=by rw[o8];rfl
     omega
    obtain⟨a0,ha0⟩:∃a0,s.args=[a0]:=by
     match hh:s.args,ha1 with
     |[x],_=>exact⟨x,rfl⟩
    have hae:=a0.cs_eq
    rw[hh1,o8,ha0]
    rw[o8,ha0] at fin
    have hxa:exL [a0]= .lst 4 [a0.cs]:=rfl
    by_cases hc:a0.op=13
    ·have h13:Bm [a0]=true:=by simp[Bm,hc]
     simp-implicitDefEqProofs[o8,hae,hc,h13,hxa]
     rw[hxa,hae,hc] at fin
     exact fin _ (by simp) (by simp)
    ·rw[hbad (by rw[hh1,o8,ha0];simp[Bm,hc])]
     simp-implicitDefEqProofs[o8,hae,hc,hxa]
   ·have hh2:jh s=true:=by rw[hh1];simp[o8]
    simp-implicitDefEqProofs[o8,hh2]
    exact fin _ (by simp) (by simp)
  intro _ h1
  have hh:aH (d+1) s=(s.args.all iX&&(s.body.all (aH d)&&s.els.all (aH d))):=by rw[aH,yG,h1,Bool.true_and,Bool.and_assoc]
  simp-implicitDefEqProofs[hxl]
  refine aN (fun i:Nat=>al 91 [(1,.p (.int .i64 (4-d))),(2,.ptr 0 5 0 0),(69,.p (exL s.args)),(70,.p (.int .i64 s.args.length)),(71,.p (.int .i64 i))]) (fun _=>[.row 5 [[.p (.int .i64 s.op),.p (.str s.name),.p (exL s.args),.p (smL s.body),.p (smL s.els)]]]) (fun i=>i≤s.args.length∧(s.args.take i).all iX=true) (fun i=>s.args.length-i) 0 (by simp) ?_ ?_
  ·exact ab (by simp) (by simp[okO,below]) (by simp[below,hxl])
  rintro i ⟨hi,ha⟩
  simp-implicitDefEqProofs[hxl]
  refine bc (fun h=>?_) (fun h=>?_)
  ·simp at h
   have hg:=List.getElem?_eq_getElem h
   have hks:=bj (List.getElem_mem h)
   have hkc:=s.args[i].cs_eq
   have hx:=yO G hK hS s.args[i] (by omega)
   rw[hkc] at hx
   simp-implicitDefEqProofs[hg,hkc]
   refine hx.use ?_
   by_cases ho:iX s.args[i]=true
   ·simp-implicitDefEqProofs[ho]
    refine⟨i+1,⟨h,by rw[←List.all_eq_true,eD h,ha,ho];rfl⟩,by omega,?_⟩
    refine gH (m:=1) (by omega) (dQ rfl rfl (by simp[okO,below])) (by simp[below,hxl,w1 (i:=i) (by omega)])
   ·have ho':iX s.args[i]=false:=by simpa using ho
    rw[hh,mf h ho']
    simp-implicitDefEqProofs[ho']
  ·simp at h
   have ha2:s.args.all iX=true:=gY h ha
   rw[hh,ha2,Bool.true_and]
   simp-implicitDefEqProofs[hnw]
   refine(hblk s.body (by omega)).use ?_
   cases hb:s.body.all (aH d) with
   |true=>
    simp-implicitDefEqProofs[hnw]
    refine(hblk s.els (by omega)).use ?_
    simp-implicitDefEqProofs[]
   |false=>
    simp-implicitDefEqProofs[]
end Go.Proofs.YtnjbhgpbgmpkcaaGreatDoor
namespace Go.Proofs.YtnjbhgpbgmpkcaaGreatDoor
open Go Go.Aw
set_option maxRecDepth 100000
set_option maxHeartbeats 4000000
variable (G:aC)
structure Vis (σ:Type) where
 I:σ→List AO
 n:Nat
 F:FuncId
 caps:List AV
 len:∀st,(I st).length=n
 ok:∀st,∀o∈I st,okO n o
 capsOk:ag n caps
theorem Vis.pre{σ:Type}(V:Vis σ){f:FuncId}{args:List AV}{st st':σ}{v:AV}(H:AC Tryz.prog G f args (V.I st) fun x h=>x= .ret v∧h=V.I st')(rest:List AO)(ha:ag V.n args):
 AC Tryz.prog G f args (V.I st++rest) fun x h=>x= .ret v∧h=V.I st'++rest:=by
 refine(AC.pre H rest (by rw[V.len];exact ha) (by rw[V.len];exact V.ok st) ?_).mono ?_
 ·rintro x h ⟨_,rfl⟩;rw[V.len,V.len]
 ·rintro x h ⟨h1,⟨rfl,rfl⟩,rfl⟩
  exact⟨rfl,rfl⟩
theorem Vis.trim{σ:Type}(V:Vis σ){f:FuncId}{args:List AV}{st st':σ}{v:AV}(H:AC Tryz.prog G f args (V.I st) fun x h=>x= .ret v∧∃l,h=V.I st'++l)(hv:below V.n v):
 AC Tryz.prog G f args (V.I st) fun x h=>x= .ret v∧h=V.I st':=by
 refine H.wk (fun t v h ⟨e,_⟩=>by cases e) ?_
 rintro u h ⟨e,l,rfl⟩
 cases e
 refine⟨v,V.I st',uE (n:=V.n) (by rw[V.len];exact Nat.le_refl _) (dQ (by rw[←V.len st',List.take_left'];rfl) (V.len _) (V.ok _)) ?_,rfl,rfl⟩
 simp[Fgt,hv]
theorem lJ{n m:Nat}(h:n≤m){o:AO}(ho:okO n o):okO m o:=by
 cases o with
 |dead=>trivial
 |sit=>trivial
 |row sz es=>exact fun e he=>az h _ (ho e he)
 |mp es=>exact fun e he=>(az h [e.2] ⟨ho e he,trivial⟩).1
theorem Vis.oks{σ:Type}(V:Vis σ)(st:σ){m:Nat}(hm:V.n≤m){r:List AO}(hr:∀o∈r,okO m o):∀o∈V.I st++r,okO m o:=by
 intro o ho
 rcases List.mem_append.1 ho with h|h
 ·exact lJ hm (V.ok st o h)
 ·exact hr o h
theorem Vis.same{σ:Type}(V:Vis σ)(st:σ){k n:Nat}(hk:k≤V.n){r s:List AO}{l l1:List (Nat × AV)}(hr:∀o∈r,okO (V.n+r.length) o)(H:FgA (V.n+r.length) l l1):Wk k (al n l) (V.I st++(r++s)) (al n l1) (V.I st++r):=by
 have hl:(V.I st++r).length=V.n+r.length:=by rw[List.length_append,V.len]
 refine gH (m:=V.n+r.length) (by omega) (dQ ?_ hl (V.oks st (by omega) hr)) H
 rw[←List.append_assoc,←hl,List.take_left'];rfl
theorem Vis.same0{σ:Type}(V:Vis σ)(st:σ){k n:Nat}(hk:k≤V.n){s:List AO}{l l1:List (Nat × AV)}(H:FgA V.n l l1):Wk k (al n l) (V.I st++s) (al n l1) (V.I st):=by
 refine gH (m:=V.n) (by omega) (dQ ?_ (V.len _) (V.ok st)) H
 rw[←V.len st,List.take_left'];rfl
theorem Ic{α:Type}{a b:List α}{n:Nat}(h:a.length=n)(i:Nat):(a++b)[n+i]?=b[i]?:=by
 rw[←h,List.getElem?_append_right (by omega)];congr 1;omega
theorem IH{σ:Type}(V:Vis σ)(step:σ→Ex→σ)(inv:σ→Prop)(B:Nat)(hB:B≤1073741824)
 (hv:∀st e,inv st→e.sz≤B→inv (step st e)∧AC Tryz.prog G V.F (.agg (e.cs.map .p)::V.caps) (V.I st) fun x h=>x= .ret (.tup [])∧h=V.I (step st e)):
 ∀(N:Nat) (e:Ex),e.sz<N→e.sz≤B→∀st,inv st→inv (e.pre.foldl step st)∧AC Tryz.prog G fp [.agg (e.cs.map .p),.fn (.func V.F) V.caps] (V.I st) fun x h=>x= .ret (.tup [])∧h=V.I (e.pre.foldl step st):=by
 intro N
 induction N with
 |zero=>intro e h;omega
 |succ N ih=>
  intro e he hz st hi
  have hec:=e.cs_eq
  have hsz:=e.sz_eq
  have hkl:=bi e.kids
  have hxl:exL e.kids= .lst 4 (e.kids.map Ex.cs):=rfl
  have hlen:=V.len
  obtain⟨i1,h1⟩:=hv st e hi hz
  have hinv:∀i,i≤e.kids.length→inv ((ca (e.kids.take i)).foldl step (step st e)):=by
   intro i
   induction i with
   |zero=>intro _;exact i1
   |succ i ihi=>
    intro hl
    have hg:i<e.kids.length:=by omega
    have hks:=bj (List.getElem_mem hg)
    rw[an hg,lP,List.foldl_append,ca,ca,List.append_nil]
    exact(ih e.kids[i] (by omega) (by omega) _ (ihi (by omega))).1
  refine⟨?_,?_⟩
  ·rw[Ex.pre_eq,List.foldl_cons]
   have:=hinv e.kids.length (Nat.le_refl _)
   rwa[List.take_length] at this
  refine V.trim G (AC.go rt ?_) (by simp[below])
  have hcb:=V.capsOk
  have hcb1:ag (V.n+1) V.caps:=az (by omega) _ hcb
  rw[hec] at h1
  simp-implicitDefEqProofs[md,hec,hlen]
  refine(V.pre G h1 _ ⟨by simp[below],hcb⟩).mono ?_
  rintro r h ⟨rfl,rfl⟩
  simp-implicitDefEqProofs[aa,hlen,hxl]
  refine aN (fun i:Nat=>al 20 [(1,.fn (.func V.F) V.caps),(2,.ptr V.n 4 0 0),(10,.p (exL e.kids)),(11,.p (.int .i64 e.kids.length)),(12,.p (.int .i64 i))])
   (fun i=>V.I ((ca (e.kids.take i)).foldl step (step st e))++[.row 4 [[.p (.int .i64 e.op),.p (.int .i64 e.n),.p (.str e.name),.p (exL e.kids)]]]) (fun i=>i≤e.kids.length) (fun i=>e.kids.length-i) 0 (by simp) ?_ ?_
  ·refine V.same (r:=[_]) (s:=[]) _ (Nat.le_refl _) (by simp[okO,below]) ?_
   simp[below,hxl,hcb1]
  intro i hil
  simp-implicitDefEqProofs[hxl]
  refine bc (fun hc=>?_) (fun hc=>?_)
  ·simp at hc
   have hg:=List.getElem?_eq_getElem hc
   have hks:=bj (List.getElem_mem hc)
   have hkc:=e.kids[i].cs_eq
   have hI:=(ih e.kids[i] (by omega) (by omega) _ (hinv i hil)).2
   rw[hkc] at hI
   simp-implicitDefEqProofs[hg,hkc,hlen]
   refine(V.pre G hI _ ⟨by simp[below],by simp[below,hcb],trivial⟩).mono ?_
   rintro r h ⟨rfl,rfl⟩
   simp-implicitDefEqProofs[aa]
   refine⟨i+1,hc,by omega,?_⟩
   have hf:(ca (e.kids.take (i+1))).foldl step (step st e)=e.kids[i].pre.foldl step ((ca (e.kids.take i)).foldl step (step st e)):=by
    rw[an hc,lP,List.foldl_append,ca,ca,List.append_nil]
   rw[hf]
   refine V.same (r:=[_]) (s:=[_]) _ (Nat.le_refl _) (by simp[okO,below]) ?_
   simp[below,hxl,hcb1,w1 (i:=i) (by omega)]
  ·simp at hc
   have hie:i=e.kids.length:=by omega
   subst hie
   rw[List.take_length,Ex.pre_eq,List.foldl_cons]
   simp-implicitDefEqProofs[]
theorem BK{σ:Type}(V:Vis σ)(step:σ→Sm × Nat→σ)(inv:σ→Prop)(B:Nat)(hB:B≤1073741824)
 (hv:∀st s d,inv st→s.sz≤B→inv (step st (s,d))∧AC Tryz.prog G V.F (.agg (s.cs.map .p):: .p (.int .i64 (d:Nat))::V.caps) (V.I st) fun x h=>x= .ret (.tup [])∧h=V.I (step st (s,d))):
 ∀(N:Nat) (l:List Sm),am l<N→am l≤B→∀(d:Nat),d+am l≤1099511627776→∀st,inv st→inv ((aW d l).foldl step st)∧AC Tryz.prog G dy [.p (smL l),.p (.int .i64 d),.fn (.func V.F) V.caps] (V.I st) fun x h=>x= .ret (.tup [])∧h=V.I ((aW d l).foldl step st):=by
 intro N
 induction N with
 |zero=>intro l h;omega
 |succ N ih=>
  intro l hl hz d hd st hi
  have hll:=bA l
  have hlen:=V.len
  have hsl:∀l,smL l= .lst 5 (l.map Sm.cs):=fun _=>rfl
  have hone:∀s:Sm,s∈l→∀st,inv st→inv ((s.pre d).foldl step st):=by
   intro s hs st hi
   have hm:=bY hs
   have hsz:=s.sz_eq
   have i1:=(hv st s d hi (by omega)).1
   have i2:=(ih s.body (by omega) (by omega) (d+1) (by omega) _ i1).1
   have i3:=(ih s.els (by omega) (by omega) (d+1) (by omega) _ i2).1
   rw[Sm.pre_eq,List.foldl_cons,List.foldl_append]
   exact i3
  have hinv:∀i,i≤l.length→inv ((aW d (l.take i)).foldl step st):=by
   intro i
   induction i with
   |zero=>intro _;exact hi
   |succ i ihi=>
    intro hl
    have hg:i<l.length:=by omega
    rw[an hg,mw,List.foldl_append,aW,aW,List.append_nil]
    exact hone _ (List.getElem_mem hg) _ (ihi (by omega))
  refine⟨?_,?_⟩
  ·have:=hinv l.length (Nat.le_refl _)
   rwa[List.take_length] at this
  refine V.trim G (AC.go ru ?_) (by simp[below])
  have hcb:=V.capsOk
  simp-implicitDefEqProofs[ml,hsl]
  refine aN (fun i:Nat=>al 31 [(1,.p (.int .i64 d)),(2,.fn (.func V.F) V.caps),(8,.p (smL l)),(9,.p (.int .i64 l.length)),(10,.p (.int .i64 i))])
   (fun i=>V.I ((aW d (l.take i)).foldl step st)) (fun i=>i≤l.length) (fun i=>l.length-i) 0 (by simp) ?_ ?_
  ·rw[hlen]
   have:=V.same0 (s:=[]) st (k:=V.n) (n:=31) (Nat.le_refl _) (l:=[(10,.p (.int .i64 0)),(9,.p (.int .i64 l.length)),(8,.p (smL l)),(0,.p (smL l)),(1,.p (.int .i64 d)),(2,.fn (.func V.F) V.caps)]) (l1:=[(1,.p (.int .i64 d)),(2,.fn (.func V.F) V.caps),(8,.p (smL l)),(9,.p (.int .i64 l.length)),(10,.p (.int .i64 0))]) (by simp[below,hcb])
   rw[List.append_nil] at this
   exact this
  intro i hil
  simp-implicitDefEqProofs[hsl]
  refine bc (fun hc=>?_) (fun hc=>?_)
  ·simp at hc
   have hg:=List.getElem?_eq_getElem hc
   have hks:=bY (List.getElem_mem hc)
   have hkc:=l[i].cs_eq
   have hsz:=l[i].sz_eq
   have hf:(aW d (l.take (i+1))).foldl step st=(l[i].pre d).foldl step ((aW d (l.take i)).foldl step st):=by
    rw[an hc,mw,List.foldl_append,aW,aW,List.append_nil]
   have ii:=hinv i hil
   obtain⟨i1,h1⟩:=hv _ l[i] d ii (by omega)
   obtain⟨i2,h2⟩:=ih l[i].body (by omega) (by omega) (d+1) (by omega) _ i1
   obtain⟨i3,h3⟩:=ih l[i].els (by omega) (by omega) (d+1) (by omega) _ i2
   rw[Sm.pre_eq,List.foldl_cons,List.foldl_append] at hf
   have hwd:IntKind.i64.wrap ((d:Int)+1)=((d+1:Nat):Int):=by rw[ah (by omega) (by omega)];omega
   rw[hkc] at h1
   simp-implicitDefEqProofs[hg,hkc,hlen]
   refine(V.pre G h1 _ ⟨by simp,by simp,hcb⟩).mono ?_
   rintro r h ⟨rfl,rfl⟩
   simp-implicitDefEqProofs[aa,hlen,hwd]
   refine(V.pre G h2 _ ⟨by simp,by simp,by simp[below,hcb],trivial⟩).mono ?_
   rintro r h ⟨rfl,rfl⟩
   simp-implicitDefEqProofs[aa,hlen,hwd]
   refine(V.pre G h3 _ ⟨by simp,by simp,by simp[below,hcb],trivial⟩).mono ?_
   rintro r h ⟨rfl,rfl⟩
   simp-implicitDefEqProofs[aa]
   refine⟨i+1,hc,by omega,?_⟩
   rw[hf]
   refine V.same0 (s:=[_]) _ (Nat.le_refl _) ?_
   simp[below,hsl,hcb,w1 (i:=i) (by omega)]
  ·simp at hc
   have hie:i=l.length:=by omega
   subst hie
   rw[List.take_length]
   simp-implicitDefEqProofs[]
end Go.Proofs.YtnjbhgpbgmpkcaaGreatDoor
namespace Go.Proofs.YtnjbhgpbgmpkcaaGreatDoor
open Go Go.Aw
set_option maxRecDepth 100000
set_option maxHeartbeats 4000000
variable (G:aC)
abbrev MS:=Int × Int
def px(st:MS)(x:Sm × Nat):MS:=(IntKind.i64.wrap (st.1+1),if st.2<(x.2:Int) then(x.2:Int) else st.2)
def pR(l:List Fd)(st:MS):MS:=l.foldl (fun st f=>(aW 1 f.body).foldl px st) st
theorem vp:∀(l:List (Sm × Nat)) (st:MS),0≤st.1→st.1+l.length≤1099511627776→(l.foldl px st).1=st.1+l.length
 |[],st,_,_=>by simp
 |x::r,st,h0,h=>by
  have hw:IntKind.i64.wrap (st.1+1)=st.1+1:=ah (by omega) (by simp at h;omega)
  rw[List.foldl_cons,vp r _ (by simp only[px,hw];omega) (by simp only[px,hw];simp at h;omega)]
  simp only[px,hw,List.length_cons]
  omega
theorem vF:∀(l:List Fd) (st:MS),0≤st.1→st.1+fy l≤1099511627776→(pR l st).1=st.1+fy l
 |[],st,_,_=>by simp[pR,fy]
 |f::r,st,h0,h=>by
  have ha:fy (f::r)=cW f.body+fy r:=by simp[fy]
  have hs:=vp (aW 1 f.body) st h0 (by rw[jS];omega)
  rw[jS] at hs
  have:=vF r ((aW 1 f.body).foldl px st) (by omega) (by omega)
  simp only[pR,List.foldl_cons] at this⊢
  omega
theorem Ay{l:List Fd}{st:MS}{i:Nat}(h:i<l.length):pR (l.take (i+1)) st=(aW 1 l[i].body).foldl px (pR (l.take i) st):=by
 rw[pR,an h,List.foldl_append];rfl
def mL(p:PV):Vis MS where
 I:=fun st=>[.row 1 [[.p p]],.row 1 [[.p (.int .i64 st.1)]],.row 1 [[.p (.int .i64 st.2)]]]
 n:=3
 F:=fh
 caps:=[.ptr 1 1 0 0,.ptr 2 1 0 0]
 len:=fun _=>rfl
 ok:=fun st=>by simp[okO,below]
 capsOk:=by simp[below]
theorem zd(p:PV)(st:MS)(s:Sm)(d:Nat):AC Tryz.prog G fh [.agg (s.cs.map .p),.p (.int .i64 d),.ptr 1 1 0 0,.ptr 2 1 0 0] ((mL p).I st) fun x h=>x= .ret (.tup [])∧h=(mL p).I (px st (s,d)):=by
 refine(mL p).trim G (AC.go sh ?_) (by simp[below])
 have hse:=s.cs_eq
 simp-implicitDefEqProofs[lR,hse,mL,px]
theorem ww(l:List Fd)(hl:aO l≤1073741824):VF Tryz.prog G gM [.agg [.p (fdL l)]] (.tup [.p (.int .i64 (fy l)),.p (.int .i64 (pR l (0,0)).2)]):=by
 refine AC.go uC ?_
 have hll:=bX l
 have hfl:∀l,fdL l= .lst 3 (l.map Fd.cs):=fun _=>rfl
 have hn:(pR l (0,0)).1=fy l:=by rw[vF l (0,0) (by simp) (by simp only;have:=xR l;omega)];simp
 simp-implicitDefEqProofs[od,hfl]
 refine aN (fun i:Nat=>al 20 [(2,.ptr 1 1 0 0),(3,.ptr 2 1 0 0),(7,.p (fdL l)),(8,.p (.int .i64 l.length)),(9,.p (.int .i64 i))])
  (fun i=>(mL (fdL l)).I (pR (l.take i) (0,0))) (fun i=>i≤l.length) (fun i=>l.length-i) 0 (by simp) ?_ ?_
 ·exact ab (h:=(mL (fdL l)).I (0,0)) (by simp) ((mL (fdL l)).ok _) (by simp[below,hfl,mL])
 intro i hil
 simp-implicitDefEqProofs[hfl]
 refine bc (fun hc=>?_) (fun hc=>?_)
 ·simp at hc
  have hg:=List.getElem?_eq_getElem hc
  have hks:=cg (List.getElem_mem hc)
  have hcs:l[i].cs=[.str l[i].name,au l[i].params,smL l[i].body]:=rfl
  have hfz:l[i].sz=1+l[i].name.length+(l[i].params.length+(l[i].params.map List.length).sum)+am l[i].body:=rfl
  have hI:=(BK G (mL (fdL l)) px (fun _=>True) 1073741824 (by omega) (fun st s d _ _=>⟨trivial,zd G _ st s d⟩) (am l[i].body+1) l[i].body (by omega) (by omega) 1 (by omega) (pR (l.take i) (0,0)) trivial).2
  have hlen:=(mL (fdL l)).len
  have h3:(mL (.lst 3 (l.map Fd.cs))).n=3:=rfl
  have hlen':∀st,((mL (.lst 3 (l.map Fd.cs))).I st).length=3:=fun _=>rfl
  simp-implicitDefEqProofs[hg,hcs,hlen']
  refine((mL (fdL l)).pre G hI [_] ⟨by simp,by simp,by simp[below,mL],trivial⟩).mono ?_
  rintro r h ⟨rfl,rfl⟩
  simp-implicitDefEqProofs[aa]
  refine⟨i+1,hc,by omega,?_⟩
  rw[Ay hc]
  refine(mL (fdL l)).same0 (s:=[_]) _ (by simp[mL]) ?_
  simp[below,hfl,mL,w1 (i:=i) (by omega)]
 ·simp at hc
  have hie:i=l.length:=by omega
  subst hie
  rw[List.take_length]
  simp-implicitDefEqProofs[mL,hn]
theorem sa(hK:G fC=some ff)(s:List UInt8)(hb:s.length≤140737488355328):VF Tryz.prog G bE [.p (.str s)] (.p (.bool (!aD s))):=by
 refine AC.go mJ ?_
 simp-implicitDefEqProofs[iq]
 refine(nZ G hK s hb).use ?_
 simp-implicitDefEqProofs[]
def AN(L:List (List UInt8)):Int:=match L.findIdx? (fun w=> !aD w) with|some i=>i|none=> -1
theorem Gp(L:List (List UInt8)):decide (0≤AN L)= !(L.all aD):=by
 unfold AN
 cases h:L.findIdx? (fun x=> !aD x) with
 |none=>
  rw[List.findIdx?_eq_none_iff] at h
  have:L.all aD=true:=List.all_eq_true.2 fun x hx=>by have:=h x hx;simpa using this
  simp[this]
 |some i=>
  rw[List.findIdx?_eq_some_iff_getElem] at h
  obtain⟨h1,h2,_⟩:=h
  have:L.all aD=false:=List.all_eq_false.2 ⟨_,List.getElem_mem h1,by simpa using h2⟩
  rw[this];simp
theorem Ff{L:List (List UInt8)}{n:Nat}(h:(L.map List.length).sum≤n):∀x∈L,x.length≤n:=by
 induction L with
 |nil=>intro x hx;cases hx
 |cons y r ih=>
  intro x hx
  simp only[List.map_cons,List.sum_cons] at h
  rcases List.mem_cons.1 hx with rfl|hx
  ·omega
  ·exact ih (by omega) x hx
variable (hK:G fC=some ff)
include hK
theorem Aa(L:List (List UInt8))(hb:L.length≤1073741824)(hw:∀x∈L,x.length≤140737488355328):VF Tryz.prog G dm [.p (au L),.fn (.func bE) []] (.p (.int .i64 (AN L))):=by
 refine AC.go ku ?_
 have hsl:au L= .lst 1 (L.map fun w=>[.str w]):=rfl
 simp-implicitDefEqProofs[fx,hsl]
 refine aN (fun i:Nat=>al 19 [(0,.p (au L)),(1,.fn (.func bE) []),(6,.p (au L)),(7,.p (.int .i64 L.length)),(8,.p (.int .i64 i))]) (fun _=>[]) (fun i=>i≤L.length∧∀w∈L.take i,aD w=true) (fun i=>L.length-i) 0 (by simp) ?_ ?_
 ·exact ab (by simp) (by simp[okO]) (by simp[below,ag,au])
 ·intro i ⟨hi,hn⟩
  simp-implicitDefEqProofs[hsl]
  refine bc (fun h1=>?_) (fun h1=>?_)
  ·simp at h1
   have hg:=List.getElem?_eq_getElem h1
   simp-implicitDefEqProofs[hg]
   refine(sa G hK _ (hw _ (List.getElem_mem h1))).use ?_
   by_cases he:aD L[i]=true
   ·simp-implicitDefEqProofs[he]
    refine⟨i+1,⟨h1,fun p hp=>?_⟩,by omega,ab (by simp) (by simp[okO]) ?_⟩
    ·rw[an h1] at hp
     rcases List.mem_append.1 hp with hp|hp
     ·exact hn p hp
     ·rw[List.mem_singleton.1 hp];exact he
    ·simp[below,ag,au,w1 (i:=i) (by omega)]
   ·have hf:AN L=i:=by
     have:L.findIdx? (fun w=> !aD w)=some i:=by
      rw[List.findIdx?_eq_some_iff_getElem]
      exact⟨h1,by simpa using he,fun j hj=>by have:=hn L[j] (List.mem_take_iff_getElem.2 ⟨j,by omega,rfl⟩);simpa using this⟩
     rw[AN,this]
    simp-implicitDefEqProofs[he,hf]
  ·simp at h1
   rw[List.take_of_length_le h1] at hn
   have hf:AN L= -1:=by
    have:L.findIdx? (fun w=> !aD w)=none:=by
     rw[List.findIdx?_eq_none_iff];intro x hx;simpa using hn x hx
    rw[AN,this]
   simp-implicitDefEqProofs[hf]
theorem vH(L:List (List UInt8))(hb:L.length≤1073741824)(hw:∀x∈L,x.length≤140737488355328):VF Tryz.prog G cz [.p (au L),.fn (.func bE) []] (.p (.bool (!L.all aD))):=by
 rw[←Gp]
 refine AC.go jo ?_
 simp-implicitDefEqProofs[ey]
 refine(Aa G hK L hb hw).use ?_
 simp-implicitDefEqProofs[]
variable (hS:G db=some [.tbl opK opV])
include hS
theorem nY(l:List Fd)(hl:aO l≤1073741824):VF Tryz.prog G cK [.agg [.p (fdL l)]] (.p (.bool (bu l))):=by
 refine AC.go pp ?_
 have hll:=bX l
 have hfl:∀l,fdL l= .lst 3 (l.map Fd.cs):=fun _=>rfl
 have hm:=ww G l hl
 rw[hfl] at hm
 simp-implicitDefEqProofs[jx,hfl]
 refine(jU G _ _ _).use ?_
 by_cases h1:inR l.length 1 4=true
 case neg=>simp-implicitDefEqProofs[h1,bu]
 simp-implicitDefEqProofs[h1]
 refine aN (fun i:Nat=>al 48 [(1,.ptr 0 1 0 0),(13,.p (fdL l)),(14,.p (.int .i64 l.length)),(15,.p (.int .i64 i))]) (fun _=>[.row 1 [[.p (.lst 3 (l.map Fd.cs))]]]) (fun i=>i≤l.length∧(l.take i).all ig=true) (fun i=>l.length-i) 0 (by simp) (ab (by simp) (by simp[okO]) (by simp[below,hfl])) ?_
 intro i ⟨hi,ha⟩
 simp-implicitDefEqProofs[hfl]
 refine bc (fun h=>?_) (fun h=>?_)
 ·simp at h
  have hg:=List.getElem?_eq_getElem h
  have hks:=cg (List.getElem_mem h)
  have hbadF:ig l[i]=false→bu l=false:=fun hk'=>by simp only[bu,mf h hk',Bool.and_false,Bool.false_and]
  have hcs:l[i].cs=[.str l[i].name,au l[i].params,smL l[i].body]:=rfl
  have hfz:l[i].sz=1+l[i].name.length+(l[i].params.length+(l[i].params.map List.length).sum)+am l[i].body:=rfl
  have hokF:ig l[i]=(l[i].params.all aD&&aD l[i].name&&decide (l[i].params.length≤3)&&l[i].body.all (aH 4)):=rfl
  have hblk:=sA G 4 1 (fun s hs=>by simpa using Fe G hK hS 4 (by omega) s hs) l[i].body (by omega)
  have hcon:=vH G hK l[i].params (by omega) (Ff (by omega))
  have hst:au l[i].params= .lst 1 (l[i].params.map fun w=>[.str w]):=rfl
  generalize l[i]=f at*
  rw[hst] at hcon
  simp-implicitDefEqProofs[hg,hcs,hst]
  refine(nZ G hK _ (by omega)).use ?_
  by_cases k1:aD f.name=true
  case neg=>
   rw[hbadF (by rw[hokF];simp[k1])]
   simp-implicitDefEqProofs[k1]
  by_cases k2:f.params.length≤3
  case neg=>
   have k2':(3:Int)<f.params.length:=by omega
   rw[hbadF (by rw[hokF];simp[k2])]
   simp-implicitDefEqProofs[k1,k2']
  have k2':¬(3:Int)<f.params.length:=by omega
  simp-implicitDefEqProofs[k1,k2']
  refine hcon.use ?_
  by_cases k3:f.params.all aD=true
  case neg=>
   have k3':f.params.all aD=false:=by simpa using k3
   rw[hbadF (by rw[hokF,k3'];simp)]
   simp-implicitDefEqProofs[k3']
  simp only[k3]
  simp-implicitDefEqProofs[]
  refine hblk.use ?_
  by_cases k4:f.body.all (aH 4)=true
  case neg=>
   have k4':f.body.all (aH 4)=false:=by simpa using k4
   rw[hbadF (by rw[hokF,k4'];simp)]
   simp only[k4']
   simp-implicitDefEqProofs[]
  simp only[k4]
  simp-implicitDefEqProofs[]
  have hk:ig f=true:=by rw[hokF,k1,k3,k4];simp[k2]
  refine⟨i+1,⟨h,by rw[←List.all_eq_true,nJ hg,ha,hk];rfl⟩,by omega,gH (m:=1) (by omega) (dQ rfl rfl (by simp[okO,below])) (by simp[below,hfl,w1 (i:=i) (by omega)])⟩
 ·simp at h
  have h2:l.all ig=true:=gY h ha
  simp-implicitDefEqProofs[]
  refine hm.use ?_
  have hff:bu l=decide (fy l≤40):=by simp only[bu,h1,h2,Bool.true_and]
  simp-implicitDefEqProofs[hff]
  omega
end Go.Proofs.YtnjbhgpbgmpkcaaGreatDoor
namespace Go.Proofs.YtnjbhgpbgmpkcaaGreatDoor
open Go Go.Aw
set_option maxRecDepth 100000
set_option maxHeartbeats 4000000
def ixI:Option Nat→Int|none=> -1|some i=>i
def vaC(nf:Bool)(id n:Nat):AV:=if nf then .nils else .sl id 3 0 n
def lvC(v:LV):List AV:=[.p (.str v.name),.p (.int .i64 v.num),.p (.int .i64 v.block)]
def lvR(vs:List LV):List (List AV):=vs.reverse.map lvC
def roC(nf:Bool)(vs:List LV):AO:=if nf then .dead else .row 3 (lvR vs)
def wC(id:Nat)(nf:Bool)(fns:List Fd)(k:Nat)(w:WS):List AV:=[.p (fdL fns),.p (.int .i64 k),vaC nf id w.vs.length,.p (.int .i64 w.count),.p (.int .i64 w.code)]
def wO(id:Nat)(nf:Bool)(fns:List Fd)(k:Nat)(w:WS):AO:= .row 5 [wC id nf fns k w]
def HWk(nf:Bool)(fns:List Fd)(k:Nat)(w:WS):List AO:=[wO 1 nf fns k w,roC nf w.vs]
theorem tm(vs:List LV):(lvR vs).length=vs.length:=by simp[lvR]
theorem zw(vs:List LV):∀x∈lvR vs,ag 0 x:=by
 intro x hx;obtain⟨m,_,rfl⟩:=List.mem_map.1 hx;simp[lvC,ag,below]
theorem gq(nf:Bool)(vs:List LV)(n:Nat):okO n (roC nf vs):=by
 cases nf
 ·exact bU (fun e he=>zw vs e he)
 ·exact trivial
theorem Dw{nf:Bool}{id n m:Nat}(h:id<m):below m (vaC nf id n):=by cases nf<;>simp[vaC,below,h]
theorem uP{id:Nat}{nf:Bool}{fns:List Fd}{k:Nat}{w:WS}{m:Nat}(h:id<m):ag m (wC id nf fns k w):=⟨by simp,by simp,Dw h,by simp,by simp,trivial⟩
theorem sv{id:Nat}{nf:Bool}{fns:List Fd}{k:Nat}{w:WS}{m:Nat}(h:id<m):okO m (wO id nf fns k w):=by
 intro e he;rw[List.mem_singleton.1 he];exact uP h
theorem IC(σ:List Nat)(nf:Bool)(id n:Nat):ren σ (vaC nf id n)=vaC nf (σ.getD id 0) n:=by cases nf<;>rfl
theorem xm(σ:List Nat)(id:Nat)(nf:Bool)(fns:List Fd)(k:Nat)(w:WS):bp σ (wC id nf fns k w)=wC (σ.getD id 0) nf fns k w:=by
 simp only[wC,bp,IC];rfl
theorem Bw(σ:List Nat)(id:Nat)(nf:Bool)(fns:List Fd)(k:Nat)(w:WS):fb σ (wO id nf fns k w)=wO (σ.getD id 0) nf fns k w:=by
 simp only[wO,fb,List.map_cons,List.map_nil,xm]
theorem yn(σ:List Nat)(nf:Bool)(vs:List LV):fb σ (roC nf vs)=roC nf vs:=by
 cases nf
 ·show AO.row 3 ((lvR vs).map (bp σ))= .row 3 (lvR vs)
  rw[List.map_congr_left (g:=id) fun x hx=>dT σ x (zw vs x hx)];simp
 ·rfl
theorem Bj(pre:List LV)(v:LV)(r:List LV):(lvR (pre++v::r))[r.length]?=some (lvC v):=by
 simp[lvR]
theorem GE(v:LV)(r:List LV):lvR (v::r)=lvR r++[lvC v]:=by simp[lvR]
def sr:List LV→List UInt8→Int
 |[],_=> -1
 |v::r,s=>if v.name=s then r.length else sr r s
theorem rA:∀(vs:List LV) (s:List UInt8),(lkV vs s=none∧sr vs s= -1)∨∃pre v r,vs=pre++v::r∧lkV vs s=some v∧sr vs s=r.length
 |[],s=> .inl ⟨rfl,rfl⟩
 |v::r,s=>by
  by_cases h:v.name=s
  ·exact .inr ⟨[],v,r,rfl,by simp[lkV,h],by simp[sr,h]⟩
  ·have h1:lkV (v::r) s=lkV r s:=by simp[lkV,h]
   have h2:sr (v::r) s=sr r s:=by simp[sr,h]
   rw[h1,h2]
   rcases rA r s with h|⟨pre,u,q,e,h⟩
   ·exact .inl h
   ·exact .inr ⟨v::pre,u,q,by rw[e];rfl,h⟩
def K_spec_l4Walk_put:AK:= .seq (.reg [oJ 6 (.mov (.c (.p (.str []))))]) (.seq (.reg [oM 8 0,oM 9 1,oJ 10 (.call da [(.t 8),(.t 9)]),oM 7 10]) (.cut (.seq (.reg [oM 11 7,oJ 12 (.bin .geq (.t 11) (.c (.p (.int .i64 0)))),oM 13 12,⟨(some 14),some (13,true),.mov (.t 0)⟩,⟨(some 15),some (13,true),.nilck (.t 14)⟩,⟨(some 16),some (13,true),.fldA 2 (.t 15)⟩,⟨(some 17),some (13,true),.ld none (.t 16)⟩,⟨(some 18),some (13,true),.mov (.t 7)⟩,⟨(some 19),some (13,true),.idxS 3 (.t 17) (.t 18)⟩,⟨(some 20),some (13,true),.fldA 2 (.t 19)⟩,⟨(some 21),some (13,true),.ld none (.t 20)⟩,⟨(some 22),some (13,true),.mov (.t 2)⟩,⟨(some 23),some (13,true),.bin .eql (.t 21) (.t 22)⟩,oJ 24 (.pick (.t 13) (.t 23) (.c (.p (.bool false))))]) (.cond (.t 24) (.reg [oM 25 0,oJ 26 (.call aR [(.t 25),(.c (.p (.int .i64 2)))])]) (.skip))) (.seq (.reg [oM 27 0,oM 28 0,oN 29 28,oF 30 2 29,oM 32 1,oM 33 0,oN 34 33,oF 35 3 34,oM 37 2,oL 31 30,oL 36 35,oJ 38 (.bld [(.p (.str [])),(.p (.int .i64 0)),(.p (.int .i64 0))] [(0,1,(.t 32)),(1,1,(.t 36)),(2,1,(.t 37))]),oJ 39 (.bslP 3 [(.p (.str [])),(.p (.int .i64 0)),(.p (.int .i64 0))] 1 [(0,3,(.t 38))]),oJ 40 (.app 3 32 (.t 31) (.t 39)),oN 41 27,oF 42 2 41,oS 42 40]) (.seq (.reg [oM 43 0,oM 44 0,oN 45 44,oF 46 3 45,oL 47 46,oJ 48 (.bin .add (.t 47) (.c (.p (.int .i64 1)))),oN 49 43,oF 50 3 49,oS 50 48]) (.seq (.reg [oM 51 0,oN 52 51,oF 53 3 52,oL 54 53,oJ 55 (.bin .sub (.t 54) (.c (.p (.int .i64 1)))),oJ 56 (.call fZ [(.t 55)]),oM 6 56]) (.ret))))))
theorem rr:K_spec_l4Walk_put.whole=F_spec_l4Walk_put.ak:=rfl
variable (G:aC)
theorem GD(l:List Fd)(s:List UInt8)(hl:l.length≤1099511627776):VF Tryz.prog G gB [.agg [.p (fdL l)],.p (.str s)] (.p (.int .i64 (ixI (bW l s)))):=by
 refine AC.go yB ?_
 have hfl:∀l,fdL l= .lst 3 (l.map Fd.cs):=fun _=>rfl
 simp-implicitDefEqProofs[sH,hfl]
 refine aN (fun i:Nat=>al 22 [(1,.p (.str s)),(2,.ptr 0 1 0 0),(5,.p (.int .i64 i))]) (fun _=>[.row 1 [[.p (.lst 3 (l.map Fd.cs))]]]) (fun i=>i≤l.length∧∀f∈l.take i,f.name≠s) (fun i=>l.length-i) 0 (by simp) (ab (by simp) (by simp[okO]) (by simp[below])) ?_
 intro i ⟨hi,hn⟩
 simp-implicitDefEqProofs[]
 refine bc (fun h=>?_) (fun h=>?_)
 ·simp at h
  have hg:=List.getElem?_eq_getElem h
  have hce:l[i].cs=[.str l[i].name,au l[i].params,smL l[i].body]:=rfl
  by_cases he:l[i].name=s
  ·have hf:bW l s=some i:=by
    rw[bW,List.findIdx?_eq_some_iff_getElem]
    exact⟨h,by simpa using he,fun j hj=>by have:=hn l[j] (List.mem_take_iff_getElem.2 ⟨j,by omega,rfl⟩);simpa using this⟩
   simp-implicitDefEqProofs[hg,hce,he,hf,ixI]
  ·simp-implicitDefEqProofs[hg,hce,he]
   refine⟨i+1,⟨h,fun p hp=>?_⟩,by omega,ab (by simp) (by simp[okO]) (by simp[below,w1 (i:=i) (by omega)])⟩
   rw[an h] at hp
   rcases List.mem_append.1 hp with hp|hp
   ·exact hn p hp
   ·rw[List.mem_singleton.1 hp];exact he
 ·simp at h
  rw[List.take_of_length_le h] at hn
  have hf:bW l s=none:=by
   rw[bW,List.findIdx?_eq_none_iff];intro x hx;simpa using hn x hx
  simp-implicitDefEqProofs[hf,ixI]
theorem Jy:∀m:Nat,m<26→((([97,98,99,100,101,102,103,104,105,106,107,108,109,110,111,112,113,114,115,116,117,118,119,120,121,122]:List UInt8).take (m+1)).drop m)=[UInt8.ofNat (97+m)]:=by decide
theorem Iw:∀m:Nat,m<26→List.drop m ((97:UInt8)::List.take m [98,99,100,101,102,103,104,105,106,107,108,109,110,111,112,113,114,115,116,117,118,119,120,121,122])=[97+UInt8.ofNat m]:=by decide
theorem tR(n:Nat):VF Tryz.prog G fZ [.p (.int .i64 n)] (.p (.str (vnm n))):=by
 refine AC.go wo ?_
 have hm:n%26<26:=Nat.mod_lt _ (by omega)
 have ht:(n:Int).tmod 26=((n%26:Nat):Int):=rfl
 have hw:IntKind.i64.wrap (((n%26:Nat):Int)+1)=((n%26+1:Nat):Int):=w1 (by omega)
 have habc:=Jy _ hm
 rw[vnm]
 generalize n%26=m at hm ht hw habc
 have h0:(0:Int)≤(m:Int)+1:=by omega
 have h1:m+1≤26:=by omega
 simp-implicitDefEqProofs[pL,ht,hw,h0,h1]
 exact⟨by omega,Iw m hm⟩
theorem oq(nf:Bool)(fns:List Fd)(k:Nat)(w:WS)(c:Int):AC Tryz.prog G aR [.ptr 0 5 0 0,.p (.int .i64 c)] (HWk nf fns k w) fun x h=>x= .ret (.tup [])∧h=HWk nf fns k ⟨w.vs,w.count,fl w.code c⟩:=by
 refine AC.go qb ?_
 by_cases h0:w.code=0
 ·simp-implicitDefEqProofs[gv,HWk,wO,wC,h0,fl]
 ·simp-implicitDefEqProofs[gv,HWk,wO,wC,h0,fl]
theorem uS(nf:Bool)(fns:List Fd)(k:Nat)(w:WS):∀o∈HWk nf fns k w,okO 2 o:=by
 intro o ho
 simp only[HWk,List.mem_cons,List.not_mem_nil,or_false] at ho
 rcases ho with rfl|rfl
 ·exact sv (by omega)
 ·exact gq _ _ _
theorem BL(nf:Bool)(fns:List Fd)(k:Nat)(w:WS)(hn:nf=true→w.vs=[])(hl:w.vs.length≤1099511627776)(s:List UInt8):AC Tryz.prog G da [.ptr 0 5 0 0,.p (.str s)] (HWk nf fns k w) fun x h=>x= .ret (.p (.int .i64 (sr w.vs s)))∧h=HWk nf fns k w:=by
 refine AC.go qa ?_
 have hok:=uS nf fns k w
 cases nf with
 |true=>
  have hv:=hn rfl
  rw[HWk] at hok⊢
  simp-implicitDefEqProofs[gx,wO,wC,vaC,hv]
  refine aN (fun _:Unit=>al 27 [(0,.ptr 0 5 0 0),(1,.p (.str s)),(5,.p (.int .i64 (-1)))]) (fun _=>[wO 1 true fns k w,roC true w.vs]) (fun _=>True) (fun _=>0) () trivial ?_ ?_
  ·have e:wO 1 true fns k w= .row 5 [[.p (fdL fns),.p (.int .i64 k),.nils,.p (.int .i64 w.count),.p (.int .i64 w.code)]]:=by simp[wO,wC,vaC]
   rw[←e,←hv]
   exact ab (by simp) hok (by simp[below,ah (x:= -1) (by omega) (by omega)])
  ·intro _ _
   simp-implicitDefEqProofs[sr]
   simp[wO,wC,vaC,hv]
 |false=>
  rw[HWk] at hok⊢
  have e:∀r,roC false r= .row 3 (lvR r):=fun _=>rfl
  have hw0:IntKind.i64.wrap ((w.vs.length:Int)-1)=(w.vs.length:Int)-1:=ah (by omega) (by omega)
  simp-implicitDefEqProofs[gx,wO,wC,vaC,hw0]
  refine aN (fun r:List LV=>al 27 [(0,.ptr 0 5 0 0),(1,.p (.str s)),(5,.p (.int .i64 ((r.length:Int)-1)))]) (fun _=>[wO 1 false fns k w,roC false w.vs]) (fun r=>∃pre,w.vs=pre++r∧sr w.vs s=sr r s) (fun r=>r.length) w.vs ⟨[],rfl,rfl⟩ ?_ ?_
  ·exact ab (h:=[wO 1 false fns k w,roC false w.vs]) (by simp) hok (by simp[below])
  ·rintro r ⟨pre,e1,e2⟩
   cases r with
   |nil=>
    simp-implicitDefEqProofs[wO,wC,vaC]
    rw[e2];rfl
   |cons v r=>
    have hat:=Bj pre v r
    rw[←e1] at hat
    have hlen:r.length<w.vs.length:=by rw[e1];simp;omega
    have hll:=tm w.vs
    have c1:((r.length+1:Nat):Int)-1=(r.length:Int):=by omega
    have hw1:IntKind.i64.wrap ((r.length:Int)-1)=(r.length:Int)-1:=ah (by omega) (by omega)
    by_cases hs:v.name=s
    ·simp-implicitDefEqProofs[wO,wC,vaC,e,c1,hat,hlen,lvC,hs]
     rw[e2];simp[sr,hs]
    ·simp-implicitDefEqProofs[wO,wC,vaC,e,c1,hat,hlen,lvC,hs]
     refine⟨r,⟨⟨pre++[v],by rw[e1];simp⟩,by rw[e2];simp[sr,hs]⟩,by simp,?_⟩
     refine ab (h:=[wO 1 false fns k w,roC false w.vs]) (by simp) hok ?_
     simp[below,hw1]
theorem FJ(nf:Bool)(fns:List Fd)(k:Nat)(w:WS)(hn:nf=true→w.vs=[])(hl:w.vs.length≤1099511627776)(s:List UInt8):AC Tryz.prog G cu [.ptr 0 5 0 0,.p (.str s)] (HWk nf fns k w) fun x h=>x= .ret (.p (.str (jE w.vs s)))∧h=HWk nf fns k ⟨w.vs,w.count,lU w.vs s w.code⟩:=by
 refine AC.go qz ?_
 simp-implicitDefEqProofs[kL]
 refine(BL G nf fns k w hn hl s).mono ?_
 rintro r h ⟨rfl,rfl⟩
 rcases rA w.vs s with⟨e1,e2⟩|⟨pre,v,q,e0,e1,e2⟩
 ·simp-implicitDefEqProofs[aa,e2]
  refine(oq G nf fns k w 3).mono ?_
  rintro r h ⟨rfl,rfl⟩
  simp-implicitDefEqProofs[aa,jE,lU,e1]
 ·have hat:=Bj pre v q
  rw[←e0] at hat
  have hlen:q.length<w.vs.length:=by rw[e0];simp;omega
  have hnf:nf=false:=by
   cases nf with
   |false=>rfl
   |true=>rw[hn rfl] at e0;simp at e0
  subst hnf
  have e:∀r,roC false r= .row 3 (lvR r):=fun _=>rfl
  have hq:¬(q.length:Int)<0:=by omega
  simp-implicitDefEqProofs[aa,e2,hq,HWk,wO,wC,vaC,e,hat,hlen,lvC]
  refine(tR G v.num).use ?_
  simp-implicitDefEqProofs[jE,lU,e1]
theorem Gu(nf:Bool)(fns:List Fd)(k:Nat)(w:WS)(hn:nf=true→w.vs=[])(hl:w.vs.length≤1099511627776)(hc:w.count≤1099511627776)(s:List UInt8)(b:Nat):AC Tryz.prog G cw [.ptr 0 5 0 0,.p (.str s),.p (.int .i64 b)] (HWk nf fns k w) fun x h=>x= .ret (.p (.str (vnm w.count)))∧h=[wO 2 false fns k (eZ w s b),.dead,roC false (eZ w s b).vs]:=by
 refine AC.goK rp rr ?_
 have hw1:IntKind.i64.wrap ((w.count:Int)+1)=(w.count:Int)+1:=ah (by omega) (by omega)
 have hw2:IntKind.i64.wrap ((w.count:Int)+1-1)=(w.count:Int):=by rw[ah (by omega) (by omega)];omega
 have hw3:IntKind.i64.wrap (w.count:Int)=(w.count:Int):=ah (by omega) (by omega)
 have hll:=tm w.vs
 simp-implicitDefEqProofs[K_spec_l4Walk_put,F_spec_l4Walk_put]
 refine(BL G nf fns k w hn hl s).mono ?_
 rintro r h ⟨rfl,rfl⟩
 simp-implicitDefEqProofs[aa]
 refine lg (al 57 [(0,.ptr 0 5 0 0),(1,.p (.str s)),(2,.p (.int .i64 b))]) (HWk nf fns k ⟨w.vs,w.count,pk w.vs s b w.code⟩) ?_ ?_
 ·rcases rA w.vs s with⟨e1,e2⟩|⟨pre,v,q,e0,e1,e2⟩
  ·simp-implicitDefEqProofs[e2,pk,e1]
   exact ab (by simp[HWk]) (uS nf fns k w) (by simp[below,HWk])
  ·have hat:=Bj pre v q
   rw[←e0] at hat
   have hlen:q.length<w.vs.length:=by rw[e0];simp;omega
   have hnf:nf=false:=by
    cases nf with
    |false=>rfl
    |true=>rw[hn rfl] at e0;simp at e0
   subst hnf
   have e:∀r,roC false r= .row 3 (lvR r):=fun _=>rfl
   have hq:(0:Int)≤(q.length:Int):=by omega
   by_cases hb:v.block=b
   ·have:=oq G false fns k w 2
    simp only[HWk,wO,wC,vaC,e] at this
    simp-implicitDefEqProofs[e2,HWk,wO,wC,vaC,e,hat,hlen,lvC,hb]
    refine this.mono ?_
    rintro r h ⟨rfl,rfl⟩
    have hp:pk w.vs s b w.code=fl w.code 2:=by simp[pk,e1,hb]
    rw[hp]
    simp-implicitDefEqProofs[aa]
    refine ab (h:=HWk false fns k ⟨w.vs,w.count,fl w.code 2⟩) ?_ (uS _ _ _ _) ?_
    ·simp[HWk]
    ·simp[below,HWk]
   ·have hp:pk w.vs s b w.code=w.code:=by simp[pk,e1,hb]
    have hbi:¬(v.block:Int)=(b:Int):=by omega
    rw[hp]
    simp-implicitDefEqProofs[e2,HWk,wO,wC,vaC,e,hat,hlen,lvC,hbi]
    refine ab (h:=HWk false fns k w) ?_ (uS _ _ _ _) ?_
    ·simp[HWk]
    ·simp[below,HWk]
 ·cases nf with
  |true=>
   have hv:=hn rfl
   simp-implicitDefEqProofs[HWk,wO,wC,vaC,roC,hv,hw1,hw2,hw3]
   refine(tR G w.count).use ?_
   simp-implicitDefEqProofs[eZ,lvR,lvC,hv]
  |false=>
   have e:∀r,roC false r= .row 3 (lvR r):=fun _=>rfl
   simp-implicitDefEqProofs[HWk,wO,wC,vaC,e,hw1,hw2,hw3,hll]
   refine⟨by omega,?_⟩
   refine(tR G w.count).use ?_
   simp-implicitDefEqProofs[eZ,GE,lvC]
   rw[List.take_of_length_le (by omega)]
end Go.Proofs.YtnjbhgpbgmpkcaaGreatDoor
namespace Go.Proofs.YtnjbhgpbgmpkcaaGreatDoor
open Go Go.Aw
set_option maxRecDepth 100000
set_option maxHeartbeats 4000000
variable (G:aC)
theorem AD(l:List Fd)(s:List UInt8)(hl:l.length≤1073741824):VF Tryz.prog G gA [.agg [.p (fdL l)],.p (.str s)] (.p (.int .i64 (ixI (bW l s)))):=by
 have hfl:∀l,fdL l= .lst 3 (l.map Fd.cs):=fun _=>rfl
 have di:∀f:Fd,AC Tryz.prog G fV [.agg (f.cs.map .p),.ptr 1 1 0 0] [.row 1 [[.p (fdL l)]],.row 1 [[.p (.str s)]]] fun x h=>x= .ret (.p (.bool (decide (f.name=s))))∧h=[.row 1 [[.p (fdL l)]],.row 1 [[.p (.str s)]]]:=by
  intro f
  have hcs:f.cs=[.str f.name,au f.params,smL f.body]:=rfl
  refine AC.trim (AC.go vU ?_) (by simp[below])
  simp-implicitDefEqProofs[pw,hcs]
 have idx:AC Tryz.prog G bv [.p (fdL l),.fn (.func fV) [.ptr 1 1 0 0]] [.row 1 [[.p (fdL l)]],.row 1 [[.p (.str s)]]] fun x h=>x= .ret (.p (.int .i64 (ixI (bW l s))))∧h=[.row 1 [[.p (fdL l)]],.row 1 [[.p (.str s)]]]:=by
  refine AC.go fa ?_
  simp-implicitDefEqProofs[cY,hfl]
  refine aN (fun i:Nat=>al 19 [(0,.p (fdL l)),(1,.fn (.func fV) [.ptr 1 1 0 0]),(7,.p (.int .i64 l.length)),(8,.p (.int .i64 i))]) (fun _=>[.row 1 [[.p (fdL l)]],.row 1 [[.p (.str s)]]]) (fun i=>i≤l.length∧∀f∈l.take i,f.name≠s) (fun i=>l.length-i) 0 (by simp) ?_ ?_
  ·exact ab (by simp) (by simp[okO,below]) (by simp[below,ag,hfl])
  ·intro i ⟨hi,hn⟩
   simp-implicitDefEqProofs[hfl]
   refine bc (fun h1=>?_) (fun h1=>?_)
   ·simp at h1
    have hg:=List.getElem?_eq_getElem h1
    simp-implicitDefEqProofs[hg]
    refine(di l[i]).mono ?_
    rintro r h ⟨rfl,rfl⟩
    by_cases he:l[i].name=s
    ·have hf:bW l s=some i:=by
      rw[bW,List.findIdx?_eq_some_iff_getElem]
      exact⟨h1,by simpa using he,fun j hj=>by have:=hn l[j] (List.mem_take_iff_getElem.2 ⟨j,by omega,rfl⟩);simpa using this⟩
     simp-implicitDefEqProofs[aa,he,hf,ixI]
     exact hfl l
    ·simp-implicitDefEqProofs[aa,he]
     refine⟨i+1,⟨h1,fun p hp=>?_⟩,by omega,ab (h:=[.row 1 [[.p (fdL l)]],.row 1 [[.p (.str s)]]]) (by simp) (by simp[okO,below]) (by simp[below,ag,hfl,w1 (i:=i) (by omega)])⟩
     rw[an h1] at hp
     rcases List.mem_append.1 hp with hp|hp
     ·exact hn p hp
     ·rw[List.mem_singleton.1 hp];exact he
   ·simp at h1
    rw[List.take_of_length_le h1] at hn
    have hf:bW l s=none:=by
     rw[bW,List.findIdx?_eq_none_iff];intro x hx;simpa using hn x hx
    simp-implicitDefEqProofs[hf,ixI]
 refine AC.go zz ?_
 simp-implicitDefEqProofs[sO]
 refine idx.mono ?_
 rintro r h ⟨rfl,rfl⟩
 simp-implicitDefEqProofs[aa]
structure GS where (gap:List AO) (m:Scp)
def mpE(m:Scp):List (PV × AV):=m.map fun x=>(.str x.1,.p (.int .i64 x.2))
def scL:List GS→Nat
 |[]=>0
 |g::up=>scL up+g.gap.length+2
def upV:List GS→AV
 |[]=> .nilp
 |g::up=> .ptr (2+scL up+g.gap.length+1) 2 0 0
def scH:List GS→List AO
 |[]=>[]
 |g::up=>scH up++(g.gap++[.mp (mpE g.m),.row 2 [[.mp (2+scL up+g.gap.length),upV up]]])
theorem iT:∀ch:List GS,(scH ch).length=scL ch
 |[]=>rfl
 |g::up=>by simp only[scH,scL,List.length_append,iT up,List.length_cons,List.length_nil];omega
def cO(fns:List Fd)(k:Nat)(c:Int):AO:= .row 3 [[.p (fdL fns),.p (.int .i64 k),.p (.int .i64 c)]]
def CH(b0:AO)(fns:List Fd)(k:Nat)(c:Int)(ch:List GS):List AO:=b0::cO fns k c::scH ch
theorem iG(b0:AO)(fns:List Fd)(k:Nat)(c:Int)(ch:List GS):(CH b0 fns k c ch).length=2+scL ch:=by
 simp only[CH,List.length_cons,iT];omega
def lq:List GS→Prop
 |[]=>True
 |g::up=>(∀o∈g.gap,okO (2+scL up+g.gap.length) o)∧lq up
theorem dS:∀(ch:List GS) {n:Nat},2+scL ch≤n→below n (upV ch)
 |[],_,_=>by simp[upV,below]
 |g::up,n,h=>by simp only[scL] at h;simp only[upV,below];omega
theorem xI:∀(ch:List GS) {n:Nat},lq ch→2+scL ch≤n→∀o∈scH ch,okO n o
 |[],_,_,_,o,ho=>by cases ho
 |g::up,n,⟨h1,h2⟩,hn,o,ho=>by
  simp only[scL] at hn
  rw[scH] at ho
  rcases List.mem_append.1 ho with h|h
  ·exact xI up h2 (by omega) o h
  ·rcases List.mem_append.1 h with h|h
   ·exact lJ (by omega) (h1 o h)
   ·simp only[List.mem_cons,List.not_mem_nil,or_false] at h
    rcases h with rfl|rfl
    ·intro e he
     obtain⟨x,_,rfl⟩:=List.mem_map.1 he
     simp[below]
    ·intro e he
     rw[List.mem_singleton.1 he]
     exact⟨by simp only[below];omega,dS up (by omega),trivial⟩
theorem yL{b0:AO}{fns:List Fd}{k:Nat}{c:Int}{ch:List GS}(hb:okO 0 b0)(hs:lq ch){n:Nat}(hn:2+scL ch≤n):∀o∈CH b0 fns k c ch,okO n o:=
 ae (bU hb) (ae (by intro e he;rw[List.mem_singleton.1 he];simp[below]) (xI ch hs hn))
theorem qw(s:List UInt8):∀m:Scp,gV (.str s) (mpE m)=some ((iK m s).map fun n=>AV.p (.int .i64 n))
 |[]=>rfl
 |x::r=>by
  have ih:=qw s r
  by_cases h:x.1=s
  ·simp[mpE,gV,keq,h,iK]
  ·have h':¬s=x.1:=fun e=>h e.symm
   simp only[mpE,List.map_cons,gV,keq,h',decide_false]
   simp only[mpE] at ih
   rw[ih];simp[iK,h]
theorem rg(s:List UInt8)(n:Nat):∀m:Scp,jr (.str s) (.p (.int .i64 n)) (mpE m)=some (mpE (fm m s n))
 |[]=>rfl
 |x::r=>by
  have ih:=rg s n r
  by_cases h:x.1=s
  ·simp[mpE,jr,keq,h,fm]
  ·have h':¬s=x.1:=fun e=>h e.symm
   simp only[mpE,List.map_cons,jr,keq,h',decide_false]
   simp only[mpE] at ih
   rw[ih];simp[fm,h]
abbrev sco(ch:List GS):List Scp:=ch.map GS.m
theorem FG:∀(pre:List GS) (g:GS) (up:List GS),(scH (pre++g::up))[scL up+g.gap.length]?=some (.mp (mpE g.m))∧(scH (pre++g::up))[scL up+g.gap.length+1]?=some (.row 2 [[.mp (2+scL up+g.gap.length),upV up]])
 |[],g,up=>by
  have hl:(scH up++g.gap).length=scL up+g.gap.length:=by rw[List.length_append,iT]
  have e:scH (g::up)=(scH up++g.gap)++[.mp (mpE g.m),.row 2 [[.mp (2+scL up+g.gap.length),upV up]]]:=by rw[scH,List.append_assoc]
  rw[List.nil_append,e]
  exact⟨by rw[←hl,List.getElem?_append_right (Nat.le_refl _)];simp,by rw[←hl,List.getElem?_append_right (by omega)];simp⟩
 |p::pre,g,up=>by
  obtain⟨h1,h2⟩:=FG pre g up
  have hm1:=(List.getElem?_eq_some_iff.1 h1).1
  have hm2:=(List.getElem?_eq_some_iff.1 h2).1
  rw[List.cons_append,scH]
  exact⟨by rw[List.getElem?_append_left hm1];exact h1,by rw[List.getElem?_append_left hm2];exact h2⟩
theorem AT(ch:List GS):(upV ch).isCell=true:=by cases ch<;>rfl
theorem DE(ch:List GS):(upV ch).cells=[upV ch]:=by cases ch<;>rfl
attribute [simp ↓] AT DE
theorem xC(b0:AO)(fns:List Fd)(k:Nat)(c e:Int)(r:List AO):AC Tryz.prog G ay [.ptr 1 3 0 0,.p (.int .i64 e)] (b0::cO fns k c::r) fun x h=>x= .ret (.tup [])∧h=b0::cO fns k (fl c e)::r:=by
 refine AC.go pq ?_
 by_cases h0:c=0
 ·simp-implicitDefEqProofs[fD,cO,h0,fl]
 ·simp-implicitDefEqProofs[fD,cO,h0,fl]
theorem nD(up:AV)(hu:up= .nilp∨∃i,up= .ptr i 2 0 0)(h:List AO):AC Tryz.prog G aK [up] h fun x h'=>x= .ret (.ptr (h.length+1) 2 0 0)∧h'=h++[.mp [],.row 2 [[.mp h.length,up]]]:=by
 refine AC.go qX ?_
 rcases hu with rfl|⟨i,rfl⟩
 ·simp-implicitDefEqProofs[gJ]
 ·simp-implicitDefEqProofs[gJ]
theorem zV(b0 c0:AO)(ch:List GS)(rest:List AO)(s:List UInt8):AC Tryz.prog G aP [upV ch,.p (.str s)] (b0::c0::(scH ch++rest)) fun x h=>x= .ret (.tup [.p (.int .i64 (((eS (sco ch) s).getD 0:Nat):Int)),.p (.bool (eS (sco ch) s).isSome)])∧h=b0::c0::(scH ch++rest):=by
 refine AC.goB ri fun hb=>?_
 simp-implicitDefEqProofs[kF]
 have hHl:(b0::c0::(scH ch++rest)).length=2+scL ch+rest.length:=by simp only[List.length_cons,List.length_append,iT];omega
 refine aN (fun r:List GS=>al 25 [(0,upV r),(1,.p (.str s))]) (fun _=>b0::c0::(scH ch++rest)) (fun r=>∃pre,ch=pre++r∧eS (sco ch) s=eS (sco r) s) (fun r=>r.length) ch ⟨[],rfl,rfl⟩ ?_ ?_
 ·refine tG (by simp) hb ?_
  rw[hHl]
  exact⟨⟨dS ch (by omega),by simp⟩,⟨by simp,by simp⟩,trivial⟩
 rintro r ⟨pre,e1,e2⟩
 cases r with
 |nil=>
  rw[e2]
  simp-implicitDefEqProofs[upV,eS]
 |cons g up=>
  obtain⟨a1,a2⟩:=FG pre g up
  rw[←e1] at a1 a2
  have b1:=(List.getElem?_eq_some_iff.1 a1).1
  have b2:=(List.getElem?_eq_some_iff.1 a2).1
  have l1:(b0::c0::(scH ch++rest))[2+scL up+g.gap.length]?=some (.mp (mpE g.m)):=by
   rw[show 2+scL up+g.gap.length=(scL up+g.gap.length)+1+1 by omega,List.getElem?_cons_succ,List.getElem?_cons_succ,List.getElem?_append_left b1,a1]
  have l2:(b0::c0::(scH ch++rest))[2+scL up+g.gap.length+1]?=some (.row 2 [[.mp (2+scL up+g.gap.length),upV up]]):=by
   rw[show 2+scL up+g.gap.length+1=(scL up+g.gap.length+1)+1+1 by omega,List.getElem?_cons_succ,List.getElem?_cons_succ,List.getElem?_append_left b2,a2]
  have hmg:=qw s g.m
  have hle:=iT ch
  rw[e2]
  generalize hH:b0::c0::(scH ch++rest)=H at*
  have hup:upV (g::up)= .ptr (2+scL up+g.gap.length+1) 2 0 0:=rfl
  cases hh:iK g.m s with
  |some n=>
   rw[hh] at hmg
   simp-implicitDefEqProofs[hup,l1,l2,hmg,eS,hh]
  |none=>
   rw[hh] at hmg
   simp-implicitDefEqProofs[hup,l1,l2,hmg,eS,hh]
   refine⟨up,⟨⟨pre++[g],by rw[e1];simp⟩,rfl⟩,by simp,?_⟩
   refine tG ?_ hb ?_
   ·rw[hHl,iT];omega
   ·refine⟨⟨dS up ?_,?_⟩,⟨by simp,by simp⟩,trivial⟩
    ·rw[hHl]
     have:=congrArg List.length e1
     have h3:=(List.getElem?_eq_some_iff.1 l2).1
     rw[hHl] at h3
     omega
    ·simp
end Go.Proofs.YtnjbhgpbgmpkcaaGreatDoor
namespace Go.Proofs.YtnjbhgpbgmpkcaaGreatDoor
open Go Go.Aw
set_option maxRecDepth 100000
set_option maxHeartbeats 4000000
variable (G:aC)
theorem Bq{f:FuncId}{args:List AV}{h h1:List AO}{v:AV}(H:AC Tryz.prog G f args h fun x h'=>x= .ret v∧∃l,h'=h1++l)(hl:h1.length=h.length)(ho:∀o∈h1,okO h.length o)(hv:below h.length v):
 AC Tryz.prog G f args h fun x h'=>x= .ret v∧h'=h1:=by
 refine H.wk (fun t v h ⟨e,_⟩=>by cases e) ?_
 rintro u h' ⟨e,l,rfl⟩
 cases e
 refine⟨v,h1,uE (n:=h.length) (Nat.le_refl _) (dQ ?_ hl ho) ?_,rfl,rfl⟩
 ·rw[←hl,List.take_left'];rfl
 ·simp[Fgt,hv]
theorem KG{f:FuncId}{args:List AV}{b0:AO}{fns:List Fd}{k:Nat}{c c':Int}{ch ch':List GS}{v:AV}(H:AC Tryz.prog G f args (CH b0 fns k c ch) fun x h=>x= .ret v∧h=CH b0 fns k c' ch')(hb:okO 0 b0)(hs:lq ch)(hl:scL ch'=scL ch)(rest:List AO)(ha:ag (2+scL ch) args):
 AC Tryz.prog G f args (CH b0 fns k c ch++rest) fun x h=>x= .ret v∧h=CH b0 fns k c' ch'++rest:=by
 refine(AC.pre H rest (by rw[iG];exact ha) (by rw[iG];exact yL hb hs (Nat.le_refl _)) ?_).mono ?_
 ·rintro x h ⟨_,rfl⟩;rw[iG,iG,hl]
 ·rintro x h ⟨h1,⟨rfl,rfl⟩,rfl⟩
  exact⟨rfl,rfl⟩
def bxs(ch:List GS)(q:List AV):List AO:=[.row 1 [[.ptr 1 3 0 0]],.row 4 [q],.row 1 [[upV ch]]]
def oO(b0:AO)(fns:List Fd)(k:Nat)(ch:List GS)(q:List PV)(hb:okO 0 b0)(hs:lq ch):Vis Int where
 I:=fun c=>CH b0 fns k c ch++bxs ch (q.map .p)
 n:=2+scL ch+3
 F:=bV
 caps:=[.ptr (2+scL ch+2) 1 0 0,.ptr (2+scL ch) 1 0 0]
 len:=fun c=>by rw[List.length_append,iG];rfl
 ok:=fun c o ho=>by
  rcases List.mem_append.1 ho with h|h
  ·exact yL hb hs (by omega) o h
  ·simp only[bxs,List.mem_cons,List.not_mem_nil,or_false] at h
   rcases h with rfl|rfl|rfl
   ·intro e he;rw[List.mem_singleton.1 he];exact⟨by simp only[below];omega,trivial⟩
   ·intro e he;rw[List.mem_singleton.1 he];exact az (Nat.zero_le _) _ (by simp)
   ·intro e he;rw[List.mem_singleton.1 he];exact⟨dS ch (by omega),trivial⟩
 capsOk:=by simp[below]
def eH(b0:AO)(fns:List Fd)(k:Nat)(ch:List GS)(q:List PV)(e:Ex)(c:Int):List AO:=b0::cO fns k c::(scH ch++(bxs ch (q.map .p)++[.row 4 [[.p (.int .i64 e.op),.p (.int .i64 e.n),.p (.str e.name),.p (exL e.kids)]]]))
section
variable {b0:AO} {fns:List Fd} {k:Nat} {ch:List GS} {q:List PV} {e:Ex} {c:Int}
theorem eH_eq{hb:okO 0 b0}{hs:lq ch}:(oO b0 fns k ch q hb hs).I c++[.row 4 [[.p (.int .i64 e.op),.p (.int .i64 e.n),.p (.str e.name),.p (exL e.kids)]]]=eH b0 fns k ch q e c:=by
 simp[oO,eH,CH]
theorem GR:(eH b0 fns k ch q e c)[1]?=some (.row 3 [[.p (fdL fns),.p (.int .i64 k),.p (.int .i64 c)]]):=rfl
theorem FP(i:Nat):(eH b0 fns k ch q e c)[2+scL ch+i]?=(bxs ch (q.map .p)++[.row 4 [[.p (.int .i64 e.op),.p (.int .i64 e.n),.p (.str e.name),.p (exL e.kids)]]])[i]?:=by
 rw[eH,show 2+scL ch+i=(scL ch+i)+1+1 by omega,List.getElem?_cons_succ,List.getElem?_cons_succ]
 exact Ic (iT ch) i
theorem CF:(eH b0 fns k ch q e c)[2+scL ch]?=some (.row 1 [[.ptr 1 3 0 0]]):=FP 0
theorem LT:(eH b0 fns k ch q e c)[2+scL ch+2]?=some (.row 1 [[upV ch]]):=FP 2
theorem GA:(eH b0 fns k ch q e c)[2+scL ch+3]?=some (.row 4 [[.p (.int .i64 e.op),.p (.int .i64 e.n),.p (.str e.name),.p (exL e.kids)]]):=FP 3
end
theorem EV{fns:List Fd}{s:List UInt8}{j:Nat}(h:bW fns s=some j):j<fns.length:=by
 rw[bW,List.findIdx?_eq_some_iff_getElem] at h;exact h.1
theorem GM(b0:AO){fns:List Fd}{k:Nat}(hf:fns.length≤1073741824)(hk:k≤fns.length)(ch:List GS)(q:List PV)(hb:okO 0 b0)(hs:lq ch)(c:Int)(e:Ex)(he:e.sz≤1073741824):
 AC Tryz.prog G bV (.agg (e.cs.map .p)::(oO b0 fns k ch q hb hs).caps) ((oO b0 fns k ch q hb hs).I c) fun x h=>x= .ret (.tup [])∧h=(oO b0 fns k ch q hb hs).I (gw fns k (sco ch) c e):=by
 refine(oO b0 fns k ch q hb hs).trim G (AC.go mS ?_) (by simp[below])
 have hec:=e.cs_eq
 have hlen:((oO b0 fns k ch q hb hs).I c).length=2+scL ch+3:=(oO b0 fns k ch q hb hs).len c
 have hcaps:(oO b0 fns k ch q hb hs).caps=[.ptr (2+scL ch+2) 1 0 0,.ptr (2+scL ch) 1 0 0]:=rfl
 have fin:∀c',(∃l,eH b0 fns k ch q e c'=(oO b0 fns k ch q hb hs).I c'++l):=fun c'=>⟨_,eH_eq.symm⟩
 have hfail:∀n,AC Tryz.prog G ay [.ptr 1 3 0 0,.p (.int .i64 n)] (eH b0 fns k ch q e c) fun x h=>x= .ret (.tup [])∧h=eH b0 fns k ch q e (fl c n):=fun n=>xC G b0 fns k c n _
 have hkl:=bi e.kids
 have hsz:=e.sz_eq
 rw[hcaps]
 simp-implicitDefEqProofs[io,hec,hlen]
 rw[eH_eq]
 generalize hV:(oO b0 fns k ch q hb hs).I=VI at fin⊢
 by_cases o2:e.op=2
 ·have hfind:AC Tryz.prog G aP [upV ch,.p (.str e.name)] (eH b0 fns k ch q e c) fun x h=>x= .ret (.tup [.p (.int .i64 (((eS (sco ch) e.name).getD 0:Nat):Int)),.p (.bool (eS (sco ch) e.name).isSome)])∧h=eH b0 fns k ch q e c:=zV G b0 (cO fns k c) ch _ e.name
  simp-implicitDefEqProofs[o2,CF,LT,GA,GR]
  refine hfind.mono ?_
  rintro r h ⟨rfl,rfl⟩
  cases hfs:eS (sco ch) e.name with
  |some n=>
   have hv:gw fns k (sco ch) c e=c:=by simp[gw,o2,hfs]
   rw[hv]
   simp-implicitDefEqProofs[aa]
   exact fin c
  |none=>
   have hv:gw fns k (sco ch) c e=fl c 3:=by simp[gw,o2,hfs]
   rw[hv]
   simp-implicitDefEqProofs[aa,CF]
   refine(hfail 3).mono ?_
   rintro r h ⟨rfl,rfl⟩
   simp-implicitDefEqProofs[aa]
   exact fin _
 by_cases o13:e.op=13
 ·have hfl:fdL fns= .lst 3 (fns.map Fd.cs):=rfl
  have hfk:fdL (fns.take k)= .lst 3 ((fns.map Fd.cs).take k):=by rw[←List.map_take];rfl
  have hxl:exL e.kids= .lst 4 (e.kids.map Ex.cs):=rfl
  have hAt:=AD G (fns.take k) e.name (by rw[List.length_take];omega)
  rw[hfk] at hAt
  simp-implicitDefEqProofs[o13,CF,LT,GA,GR,hfl,hk]
  refine hAt.use ?_
  cases hfa:bW (fns.take k) e.name with
  |none=>
   have hv:gw fns k (sco ch) c e=fl c 4:=by simp[gw,o13,hfa]
   rw[hv]
   simp-implicitDefEqProofs[ixI,CF]
   refine(hfail 4).mono ?_
   rintro r h ⟨rfl,rfl⟩
   simp-implicitDefEqProofs[aa]
   exact fin _
  |some j=>
   have hj:=EV hfa
   rw[List.length_take] at hj
   have hjl:j<fns.length:=by omega
   have hg:=List.getElem?_eq_getElem hjl
   have hjn:¬(j:Int)<0:=by omega
   have hcs:fns[j].cs=[.str fns[j].name,au fns[j].params,smL fns[j].body]:=rfl
   have hst:au fns[j].params= .lst 1 (fns[j].params.map fun w=>[.str w]):=rfl
   have hpn:vK fns j=fns[j].params.length:=by simp[vK,hg]
   by_cases hp:fns[j].params.length=e.kids.length
   ·have hv:gw fns k (sco ch) c e=c:=by simp[gw,o13,hfa,hpn,hp]
    rw[hv]
    simp-implicitDefEqProofs[ixI,CF,GR,GA,hjn,hfl,hg,hcs,hst,hxl,hp]
    exact fin _
   ·have hv:gw fns k (sco ch) c e=fl c 5:=by simp[gw,o13,hfa,hpn,hp]
    have hp':¬(fns[j].params.length:Int)=(e.kids.length:Int):=by omega
    rw[hv]
    simp-implicitDefEqProofs[ixI,CF,GR,GA,hjn,hfl,hg,hcs,hst,hxl,hp']
    refine(hfail 5).mono ?_
    rintro r h ⟨rfl,rfl⟩
    simp-implicitDefEqProofs[aa]
    exact fin _
 ·have hv:gw fns k (sco ch) c e=c:=by simp[gw,o2,o13]
  rw[hv]
  simp-implicitDefEqProofs[o2,o13,GA]
  exact fin _
theorem BH(ch:List GS):upV ch= .nilp∨∃i,upV ch= .ptr i 2 0 0:=by
 cases ch with
 |nil=>exact .inl rfl
 |cons g up=>exact .inr ⟨_,rfl⟩
theorem JY(b0:AO){fns:List Fd}{k:Nat}(hf:fns.length≤1073741824)(hk:k≤fns.length)(ch:List GS)(hb:okO 0 b0)(hs:lq ch)(c:Int)(e:Ex)(he:e.sz≤1073741824):
 AC Tryz.prog G cL [.ptr 1 3 0 0,.agg (e.cs.map .p),upV ch] (CH b0 fns k c ch) fun x h=>x= .ret (.tup [])∧h=CH b0 fns k (e.pre.foldl (gw fns k (sco ch)) c) ch:=by
 refine Bq G (h:=CH b0 fns k c ch) (AC.go pj ?_) (by rw[iG,iG]) (by rw[iG];exact yL hb hs (Nat.le_refl _)) (by simp[below])
 have hec:=e.cs_eq
 have hlen:(CH b0 fns k c ch).length=2+scL ch:=iG _ _ _ _ _
 have hI:=(IH G (oO b0 fns k ch e.cs hb hs) (gw fns k (sco ch)) (fun _=>True) 1073741824 (by omega) (fun st x _ hx=>⟨trivial,GM G b0 hf hk ch e.cs hb hs st x hx⟩) (e.sz+1) e (by omega) he c trivial).2
 have hcaps:(oO b0 fns k ch e.cs hb hs).caps=[.ptr (2+scL ch+2) 1 0 0,.ptr (2+scL ch) 1 0 0]:=rfl
 have hF:(oO b0 fns k ch e.cs hb hs).F=bV:=rfl
 have hVI:(oO b0 fns k ch e.cs hb hs).I c=CH b0 fns k c ch++[.row 1 [[.ptr 1 3 0 0]],.row 4 [[.p (.int .i64 e.op),.p (.int .i64 e.n),.p (.str e.name),.p (exL e.kids)]],.row 1 [[upV ch]]]:=by simp[oO,bxs,hec]
 rw[hcaps,hF,hVI,hec] at hI
 have hup:=BH ch
 generalize upV ch=u at hI hup⊢
 rcases hup with rfl|⟨i,rfl⟩
 ·simp-implicitDefEqProofs[fJ,hec,hlen]
  refine hI.mono ?_
  rintro r h ⟨rfl,rfl⟩
  simp-implicitDefEqProofs[aa]
  exact⟨_,rfl⟩
 ·simp-implicitDefEqProofs[fJ,hec,hlen]
  refine hI.mono ?_
  rintro r h ⟨rfl,rfl⟩
  simp-implicitDefEqProofs[aa]
  exact⟨_,rfl⟩
end Go.Proofs.YtnjbhgpbgmpkcaaGreatDoor
