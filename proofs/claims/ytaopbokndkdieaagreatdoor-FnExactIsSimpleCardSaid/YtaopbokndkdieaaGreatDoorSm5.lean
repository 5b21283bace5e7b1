/-
  Contracts and lemmas that the card needs, part 5.
-/
import Derived.Test.YtaopbokndkdieaaGreatDoorSm4
import Derived.Laws.RangeAny
import Derived.Laws.RangeString
namespace Go.Proofs.YtaopbokndkdieaaGreatDoor
open Go Go.Aw
set_option maxRecDepth 100000
set_option maxHeartbeats 4000000
theorem ah{α:Type}{xs:List α}{i:Nat}(h:i<xs.length):xs.take (i+1)=xs.take i++[xs[i]]:=by
 rw[List.take_add_one,List.getElem?_eq_getElem h];rfl
def aN(l:List (List UInt8)):PV:= .lst 1 (l.map fun w=>[.str w])
def NL(l:List (List UInt8)):List (List AV):=l.map fun w=>[.p (.str w)]
def xI(l:List (List UInt8)):AO:= .row 1 (l.map fun n=>[.p (.str n)])
theorem xx(l:List (List UInt8)):∀x∈NL l,af 0 x:=by
 intro x hx;obtain⟨m,_,rfl⟩:=List.mem_map.1 hx;simp[af,below]
theorem kX{l:List (List UInt8)}{id:Nat}{h:List AO}(e:h[id]?=some (xI l)):View h (.sl id 1 0 l.length) (aN l):=by
 have:=gb (h:=h) (id:=id) (sz:=1) (n:=l.length) (ls:=l.map fun n=>[.str n]) (by rw[e,xI];simp) (by simp) (fun x hx=>by obtain⟨b,_,rfl⟩:=List.mem_map.1 hx;rfl)
 exact this
end Go.Proofs.YtaopbokndkdieaaGreatDoor
namespace Go.Proofs.YtaopbokndkdieaaGreatDoor
open Go Go.Aw
set_option maxRecDepth 100000
set_option maxHeartbeats 4000000
def dP(c:UInt8):Bool:=decide (97≤c.toNat)&&decide (c.toNat≤122)
def keyW:List (List UInt8):=[[102,110],[108,101,116],[115,97,121],[112,117,116],[105,102],[101,108,115,101],[108,111,111,112],[98,97,99,107],[100,111]]
def aH(s:List UInt8):Bool:=s.all dP&&decide (0<s.length)&&decide (s.length≤4)&& !keyW.contains s
def vn:List UInt8:=[40,41,123,125,59,44,43,45,42,47,37,60,61,38,33,64]
def ql(s:List UInt8)(c:Int):Int:=match s.findIdx? (fun x=>(x.toNat:Int)==c) with|some i=>i|none=> -1
def zK(c:Int):Int:=if 97≤c∧c≤122 then 1 else if 48≤c∧c≤57 then 2 else if 0≤ql vn c then 3 else if c=32∨c=10 then 4 else 0
theorem IT(x:UInt8):(zK (x.toNat:Int)=1)↔dP x=true:=by
 have h:(97≤(x.toNat:Int)∧(x.toNat:Int)≤122)↔dP x=true:=by simp[dP];omega
 unfold zK
 constructor
 ·intro e
  split at e
  ·rename_i h1;exact h.1 h1
  ·repeat' split at e
   all_goals omega
 ·intro e;rw[if_pos (h.2 e)]
def yE(s:List UInt8):Int:=match s.findIdx? (fun x=> !dP x) with|some i=>i|none=> -1
theorem Fs(s:List UInt8):decide (yE s<0)=s.all dP:=by
 unfold yE
 cases h:s.findIdx? (fun x=> !dP x) with
 |none=>
  rw[List.findIdx?_eq_none_iff] at h
  have:s.all dP=true:=List.all_eq_true.2 fun x hx=>by have:=h x hx;simpa using this
  simp[this]
 |some i=>
  rw[List.findIdx?_eq_some_iff_getElem] at h
  obtain⟨h1,h2,_⟩:=h
  have:s.all dP=false:=List.all_eq_false.2 ⟨_,List.getElem_mem h1,by simpa using h2⟩
  rw[this];simp
def idxS(l:List (List UInt8))(s:List UInt8):Int:=match l.findIdx? (fun w=>w==s) with|some i=>i|none=> -1
theorem FJ(l:List (List UInt8))(s:List UInt8):decide (0≤idxS l s)=l.contains s:=by
 unfold idxS
 cases h:l.findIdx? (fun w=>w==s) with
 |none=>
  rw[List.findIdx?_eq_none_iff] at h
  have:l.contains s=false:=by
   cases hc:l.contains s with
   |false=>rfl
   |true=>
    have hm:s∈l:=by simpa using hc
    have:=h s hm
    simp at this
  rw[this];simp
 |some i=>
  rw[List.findIdx?_eq_some_iff_getElem] at h
  obtain⟨h1,h2,_⟩:=h
  have:l.contains s=true:=by
   simp only[beq_iff_eq] at h2
   rw[List.contains_iff_mem,←h2];exact List.getElem_mem h1
  rw[this];simp
variable (G:aI)
theorem sk(s:List UInt8)(c:Int)(hb:s.length≤1048576):VF Tryz.prog G jx [.p (.str s),.p (.int .u8 c)] (.p (.int .i64 (ql s c))):=by
 refine AC.go vJ ?_
 simp-implicitDefEqProofs[mH]
 refine aF (fun i:Nat=>aj 18 [(0,.p (.str s)),(1,.p (.int .u8 c)),(5,.p (.int .i64 i))]) (fun _=>[]) (fun i=>i≤s.length∧∀x∈s.take i,(x.toNat:Int)≠c) (fun i=>s.length-i) 0 (by simp) ?_ ?_
 ·exact aK rfl (by simp[below])
 ·intro i ⟨hi,hn⟩
  simp-implicitDefEqProofs[]
  refine bh (fun h1=>?_) (fun h1=>?_)
  ·simp at h1
   have hg:=List.getElem?_eq_getElem h1
   by_cases he:(s[i].toNat:Int)=c
   ·have hf:ql s c=i:=by
     have:s.findIdx? (fun x=>(x.toNat:Int)==c)=some i:=by
      rw[List.findIdx?_eq_some_iff_getElem]
      exact⟨h1,by simpa using he,fun j hj=>by have:=hn s[j] (List.mem_take_iff_getElem.2 ⟨j,by omega,rfl⟩);simpa using this⟩
     rw[ql,this]
    simp-implicitDefEqProofs[hg,he,hf]
   ·simp-implicitDefEqProofs[hg,he]
    refine⟨i+1,⟨h1,fun p hp=>?_⟩,by omega,aK rfl ?_⟩
    ·rw[ah h1] at hp
     rcases List.mem_append.1 hp with hp|hp
     ·exact hn p hp
     ·rw[List.mem_singleton.1 hp];exact he
    ·simp[below,w1 (i:=i) (by omega)]
  ·simp at h1
   rw[List.take_of_length_le h1] at hn
   have hf:ql s c= -1:=by
    have:s.findIdx? (fun x=>(x.toNat:Int)==c)=none:=by
     rw[List.findIdx?_eq_none_iff];intro x hx;simpa using hn x hx
    rw[ql,this]
   simp-implicitDefEqProofs[hf]
theorem EG(c:Int):VF Tryz.prog G jv [.p (.int .u8 c)] (.p (.int .i64 (zK c))):=by
 refine AC.go ux ?_
 simp-implicitDefEqProofs[nk]
 unfold zK
 by_cases h1:97≤c
 ·by_cases h2:c≤122
  ·simp-implicitDefEqProofs[h1,h2]
  ·have h3:¬c≤57:=by omega
   have h4:¬c=32:=by omega
   have h5:¬c=10:=by omega
   have h6:48≤c:=by omega
   simp-implicitDefEqProofs[h1,h2,h3,h6]
   refine(sk G vn c (by decide)).use ?_
   generalize ql vn c=w
   by_cases hf:0≤w
   ·simp-implicitDefEqProofs[hf]
   ·simp-implicitDefEqProofs[hf,h4,h5]
 ·simp-implicitDefEqProofs[h1]
  by_cases h2:48≤c
  ·by_cases h3:c≤57
   ·simp-implicitDefEqProofs[h2,h3]
   ·have h4:¬c=32:=by omega
    have h5:¬c=10:=by omega
    simp-implicitDefEqProofs[h2,h3]
    refine(sk G vn c (by decide)).use ?_
    generalize ql vn c=w
    by_cases hf:0≤w
    ·simp-implicitDefEqProofs[hf]
    ·simp-implicitDefEqProofs[hf,h4,h5]
  ·simp-implicitDefEqProofs[h2]
   refine(sk G vn c (by decide)).use ?_
   generalize ql vn c=w
   by_cases hf:0≤w
   ·simp-implicitDefEqProofs[hf]
   ·by_cases h4:c=32
    ·simp-implicitDefEqProofs[hf,h4]
    ·by_cases h5:c=10
     ·simp-implicitDefEqProofs[hf,h4,h5]
     ·simp-implicitDefEqProofs[hf,h4,h5]
theorem Ig(s:List UInt8)(hb:s.length≤140737488355328):VF Tryz.prog G lY [.p (.str s),.p (.int .i64 1)] (.p (.bool (s.all dP&&decide (0<s.length)))):=by
 refine AC.go xG ?_
 simp-implicitDefEqProofs[rd]
 refine aF (fun i:Nat=>aj 21 [(0,.p (.str s)),(1,.p (.int .i64 1)),(5,.p (.int .i64 i))]) (fun _=>[]) (fun i=>i≤s.length∧∀x∈s.take i,dP x=true) (fun i=>s.length-i) 0 (by simp) ?_ ?_
 ·exact aK rfl (by simp[below])
 ·intro i ⟨hi,hn⟩
  simp-implicitDefEqProofs[]
  refine bh (fun h1=>?_) (fun h1=>?_)
  ·simp at h1
   have hg:=List.getElem?_eq_getElem h1
   simp-implicitDefEqProofs[hg]
   refine(EG G _).use ?_
   have hcl:=IT s[i]
   by_cases he:dP s[i]=true
   ·have hc:=hcl.2 he
    simp-implicitDefEqProofs[hc]
    refine⟨i+1,⟨h1,fun p hp=>?_⟩,by omega,aK rfl ?_⟩
    ·rw[ah h1] at hp
     rcases List.mem_append.1 hp with hp|hp
     ·exact hn p hp
     ·rw[List.mem_singleton.1 hp];exact he
    ·simp[below,w1 (i:=i) (by omega)]
   ·have hc:¬zK (s[i].toNat:Int)=1:=fun e=>he (hcl.1 e)
    have ha:s.all dP=false:=List.all_eq_false.2 ⟨_,List.getElem_mem h1,by simpa using he⟩
    simp-implicitDefEqProofs[hc,ha]
  ·simp at h1
   rw[List.take_of_length_le h1] at hn
   have ha:s.all dP=true:=List.all_eq_true.2 hn
   simp-implicitDefEqProofs[ha]
theorem BX:VF Tryz.prog G fx [] (.p (aN keyW)):=by
 have key:AC Tryz.prog G fx [] [] fun x h=>x= .ret (.sl 0 1 0 9)∧h=[.row 1 (keyW.map fun w=>[.p (.str w)])]:=by
  refine AC.go tj ?_
  simp-implicitDefEqProofs[mm,keyW]
 exact AC.freeze key (.one (gb (ls:=keyW.map fun w=>[.str w]) (by simp) (by simp[keyW]) (by simp)) .nil)
theorem Jr(s:List UInt8):VF Tryz.prog G lR [.p (.str s)] (.p (.bool (keyW.contains s))):=by
 refine AC.go yb ?_
 have hsl:aN keyW= .lst 1 (keyW.map fun w=>[.str w]):=rfl
 have hkl:keyW.length=9:=rfl
 simp-implicitDefEqProofs[qO]
 refine(BX G).use ?_
 simp-implicitDefEqProofs[]
 refine aF (fun i:Nat=>aj 18 [(0,.p (.str s)),(3,.p (aN keyW)),(4,.p (.int .i64 i))]) (fun _=>[]) (fun i=>i≤keyW.length∧∀w∈keyW.take i,w≠s) (fun i=>keyW.length-i) 0 (by simp) ?_ ?_
 ·exact aK rfl (by simp[below,aN])
 ·intro i ⟨hi,hn⟩
  generalize keyW=L at*
  simp-implicitDefEqProofs[hsl]
  refine bh (fun h1=>?_) (fun h1=>?_)
  ·simp at h1
   have hg:=List.getElem?_eq_getElem h1
   by_cases he:L[i]=s
   ·have hm:s∈L:=by rw[←he];exact List.getElem_mem h1
    simp-implicitDefEqProofs[hg,he,hm]
   ·simp-implicitDefEqProofs[hg,he]
    refine⟨i+1,⟨h1,fun p hp=>?_⟩,by omega,aK rfl ?_⟩
    ·rw[ah h1] at hp
     rcases List.mem_append.1 hp with hp|hp
     ·exact hn p hp
     ·rw[List.mem_singleton.1 hp];exact he
    ·simp[below,w1 (i:=i) (by omega)]
  ·simp at h1
   rw[List.take_of_length_le h1] at hn
   have hm:¬s∈L:=fun hm=>hn s hm rfl
   simp-implicitDefEqProofs[hm]
theorem qy(s:List UInt8)(hb:s.length≤140737488355328):VF Tryz.prog G cM [.p (.str s)] (.p (.bool (aH s))):=by
 refine AC.go wm ?_
 simp-implicitDefEqProofs[pg]
 refine(Ig G s hb).use ?_
 cases h1:(s.all dP&&decide (0<s.length)) with
 |false=>
  have hi:aH s=false:=by rw[aH,h1];rfl
  simp-implicitDefEqProofs[hi]
 |true=>
  by_cases h4:s.length≤4
  ·have h4i:(s.length:Int)≤4:=by omega
   have hi:aH s= !keyW.contains s:=by rw[aH,h1];simp[h4]
   simp-implicitDefEqProofs[h4i]
   refine(Jr G s).use ?_
   rw[hi]
   simp-implicitDefEqProofs[]
  ·have h4i:¬(s.length:Int)≤4:=by omega
   have hi:aH s=false:=by rw[aH,h1];simp[h4]
   simp-implicitDefEqProofs[h4i,hi]
end Go.Proofs.YtaopbokndkdieaaGreatDoor
namespace Go.Proofs.YtaopbokndkdieaaGreatDoor
open Go Go.Aw
set_option maxRecDepth 100000
inductive Ex where
 |mk (op n:Int) (name:List UInt8) (kids:List Ex)
inductive Sm where
 |mk (op:Int) (name:List UInt8) (args:List Ex) (body els:List Sm)
structure Fd where (name:List UInt8) (params:List (List UInt8)) (body:List Sm)
def Ex.op:Ex→Int| .mk o _ _ _=>o
def Ex.n:Ex→Int| .mk _ n _ _=>n
def Ex.name:Ex→List UInt8| .mk _ _ s _=>s
def Ex.kids:Ex→List Ex| .mk _ _ _ k=>k
def Sm.op:Sm→Int| .mk o _ _ _ _=>o
def Sm.name:Sm→List UInt8| .mk _ s _ _ _=>s
def Sm.args:Sm→List Ex| .mk _ _ a _ _=>a
def Sm.body:Sm→List Sm| .mk _ _ _ b _=>b
def Sm.els:Sm→List Sm| .mk _ _ _ _ e=>e
mutual
def Ex.cs:Ex→List PV
 | .mk o n s k=>[.int .i64 o,.int .i64 n,.str s,.lst 4 (GE k)]
def GE:List Ex→List (List PV)
 |[]=>[]
 |e::r=>e.cs::GE r
end
mutual
def Sm.cs:Sm→List PV
 | .mk o s a b e=>[.int .i64 o,.str s,.lst 4 (GE a),.lst 5 (FW b),.lst 5 (FW e)]
def FW:List Sm→List (List PV)
 |[]=>[]
 |s::r=>s.cs::FW r
end
theorem ve:∀l:List Ex,GE l=l.map Ex.cs
 |[]=>rfl
 |e::r=>by rw[GE,ve r];rfl
theorem vL:∀l:List Sm,FW l=l.map Sm.cs
 |[]=>rfl
 |e::r=>by rw[FW,vL r];rfl
def exL(l:List Ex):PV:= .lst 4 (l.map Ex.cs)
def smL(l:List Sm):PV:= .lst 5 (l.map Sm.cs)
theorem Ex.cs_eq(e:Ex):e.cs=[.int .i64 e.op,.int .i64 e.n,.str e.name,exL e.kids]:=by
 cases e;rw[Ex.cs,ve];rfl
theorem Sm.cs_eq(s:Sm):s.cs=[.int .i64 s.op,.str s.name,exL s.args,smL s.body,smL s.els]:=by
 cases s;rw[Sm.cs,ve,vL,vL];rfl
@[simp] theorem Ex.cs_len(e:Ex):e.cs.length=4:=by cases e;rfl
@[simp] theorem Ex.cs_take(e:Ex):List.take 4 (e.cs.map AV.p)=e.cs.map AV.p:=by cases e;rfl
@[simp] theorem Sm.cs_len(s:Sm):s.cs.length=5:=by cases s;rfl
@[simp] theorem Sm.cs_take(s:Sm):List.take 5 (s.cs.map AV.p)=s.cs.map AV.p:=by cases s;rfl
def Fd.cs(f:Fd):List PV:=[.str f.name,aN f.params,smL f.body]
@[simp] theorem Fd.cs_len(f:Fd):f.cs.length=3:=rfl
@[simp] theorem Fd.cs_take(f:Fd):List.take 3 (f.cs.map AV.p)=f.cs.map AV.p:=rfl
def fdL(l:List Fd):PV:= .lst 3 (l.map Fd.cs)
mutual
def Ex.sz:Ex→Nat
 | .mk _ _ s k=>1+s.length+cR k
def cR:List Ex→Nat
 |[]=>0
 |e::r=>e.sz+cR r
end
mutual
def Sm.sz:Sm→Nat
 | .mk _ s a b e=>1+s.length+cR a+aD b+aD e
def aD:List Sm→Nat
 |[]=>0
 |s::r=>s.sz+aD r
end
def Fd.sz(f:Fd):Nat:=1+f.name.length+(f.params.length+(f.params.map List.length).sum)+aD f.body
def bn(l:List Fd):Nat:=(l.map Fd.sz).sum
theorem Ex.sz_eq(e:Ex):e.sz=1+e.name.length+cR e.kids:=by cases e;rfl
theorem Sm.sz_eq(s:Sm):s.sz=1+s.name.length+cR s.args+aD s.body+aD s.els:=by cases s;rfl
theorem sC:∀a b:List Ex,cR (a++b)=cR a+cR b
 |[],b=>by simp[cR]
 |e::r,b=>by simp only[List.cons_append,cR,sC r b];omega
theorem sU:∀a b:List Sm,aD (a++b)=aD a+aD b
 |[],b=>by simp[aD]
 |e::r,b=>by simp only[List.cons_append,aD,sU r b];omega
theorem az:∀{l:List Ex} {e:Ex},e∈l→e.sz≤cR l
 |x::r,e,h=>by
  simp only[cR]
  rcases List.mem_cons.1 h with rfl|h
  ·omega
  ·have:=az h;omega
theorem aL:∀{l:List Sm} {e:Sm},e∈l→e.sz≤aD l
 |x::r,e,h=>by
  simp only[aD]
  rcases List.mem_cons.1 h with rfl|h
  ·omega
  ·have:=aL h;omega
theorem aM:∀l:List Ex,l.length≤cR l
 |[]=>Nat.le_refl _
 |e::r=>by have:=aM r;have:=e.sz_eq;simp only[cR,List.length_cons];omega
theorem aR:∀l:List Sm,l.length≤aD l
 |[]=>Nat.le_refl _
 |e::r=>by have:=aR r;have:=e.sz_eq;simp only[aD,List.length_cons];omega
mutual
def Ex.parts:Ex→Nat
 | .mk _ _ _ k=>1+de k
def de:List Ex→Nat
 |[]=>0
 |e::r=>e.parts+de r
end
theorem Ex.parts_eq(e:Ex):e.parts=1+de e.kids:=by cases e;rfl
theorem ir:∀a b:List Ex,de (a++b)=de a+de b
 |[],b=>by simp[de]
 |e::r,b=>by simp only[List.cons_append,de,ir r b];omega
mutual
theorem Ex.parts_le:∀e:Ex,e.parts≤e.sz
 | .mk _ _ s k=>by have:=xO k;simp only[Ex.parts,Ex.sz];omega
theorem xO:∀l:List Ex,de l≤cR l
 |[]=>Nat.le_refl _
 |e::r=>by have:=e.parts_le;have:=xO r;simp only[de,cR];omega
end
mutual
def Sm.cnt:Sm→Nat
 | .mk _ _ _ b e=>1+cD b+cD e
def cD:List Sm→Nat
 |[]=>0
 |s::r=>s.cnt+cD r
end
theorem Sm.cnt_eq(s:Sm):s.cnt=1+cD s.body+cD s.els:=by cases s;rfl
theorem nK:∀a b:List Sm,cD (a++b)=cD a+cD b
 |[],b=>by simp[cD]
 |e::r,b=>by simp only[List.cons_append,cD,nK r b];omega
mutual
theorem Sm.cnt_le:∀s:Sm,s.cnt≤s.sz
 | .mk _ s a b e=>by have:=nT b;have:=nT e;simp only[Sm.cnt,Sm.sz];omega
theorem nT:∀l:List Sm,cD l≤aD l
 |[]=>Nat.le_refl _
 |e::r=>by have:=e.cnt_le;have:=nT r;simp only[cD,aD];omega
end
def inR(n lo hi:Int):Bool:=decide (lo≤n)&&decide (n≤hi)
def loK(op:Int):Nat:=if op=1∨op=2 then 0 else if op=11∨op=12 then 1 else if op=13 then 0 else 2
def hiK(op:Int):Nat:=if op=1∨op=2 then 0 else if op=11∨op=12 then 1 else if op=13 then 3 else 2
def yV(op:Int):Bool:=decide (op=2)||decide (op=13)
def iB(e:Ex):Bool:=inR e.op 1 13&&inR e.kids.length (loK e.op) (hiK e.op)&&(yV e.op==aH e.name)&&(yV e.op||decide (e.name=[]))&&inR e.n 0 255&&(decide (e.op=1)||decide (e.n=0))
def aW:Nat→Ex→Bool
 |0,_=>false
 |d+1,e=>iB e&&e.kids.all (aW d)
def fF(e:Ex):Bool:=aW 6 e&&decide (e.parts≤30)
def jD(op:Int):Nat:=if op=4 then 2 else 1
def dd(op:Int):Bool:=decide (op=1)||decide (op=2)
def er(s:Sm):Bool:=inR s.op 1 8&&decide (s.args.length=jD s.op)&&(dd s.op==aH s.name)&&(dd s.op||decide (s.name=[]))&&s.args.all fF&&
 (!decide (s.op=8)||(match s.args with|a::_=>decide (a.op=13)|[]=>false))&&(s.els.isEmpty||decide (s.op=5))&&(s.body.isEmpty||decide (s.op=5)||decide (s.op=6))
def aq:Nat→Sm→Bool
 |0,_=>false
 |d+1,s=>er s&&s.body.all (aq d)&&s.els.all (aq d)
def gv(f:Fd):Bool:=f.params.all aH&&aH f.name&&decide (f.params.length≤3)&&f.body.all (aq 4)
def iq(l:List Fd):Nat:=(l.map fun f=>cD f.body).sum
def bH(l:List Fd):Bool:=inR l.length 1 4&&l.all gv&&decide (iq l≤40)
end Go.Proofs.YtaopbokndkdieaaGreatDoor
namespace Go.Proofs.YtaopbokndkdieaaGreatDoor
open Go Go.Aw
set_option maxRecDepth 100000
structure LV where (name:List UInt8) (num block:Nat)
structure WS where (vs:List LV) (count:Nat) (code:Int)
def fl(c k:Int):Int:=if c=0 then k else c
theorem vM{c k:Int}(h:c≠0):fl c k=c:=if_neg h
def lkV(vs:List LV)(s:List UInt8):Option LV:=vs.find? fun v=>decide (v.name=s)
def dk(fns:List Fd)(s:List UInt8):Option Nat:=fns.findIdx? fun f=>decide (f.name=s)
def we(fns:List Fd)(j:Nat):Nat:=match fns[j]? with|some f=>f.params.length|none=>0
def lH(vs:List LV)(s:List UInt8)(c:Int):Int:=match lkV vs s with|none=>fl c 3|some _=>c
def lc(fns:List Fd)(k:Nat)(s:List UInt8)(n:Nat)(c:Int):Int:=
 match dk fns s with|none=>fl c 4|some j=>if k≤j then fl c 4 else if we fns j=n then c else fl c 5
def fQ(fns:List Fd)(k:Nat)(vs:List LV)(o:Int)(s:List UInt8)(n:Nat)(c:Int):Int:=
 if o=2 then lH vs s c else if o=13 then lc fns k s n c else c
mutual
def iy(fns:List Fd)(k:Nat)(vs:List LV):Ex→Int→Int
 | .mk o _ s ks,c=>bg fns k vs ks (fQ fns k vs o s ks.length c)
def bg(fns:List Fd)(k:Nat)(vs:List LV):List Ex→Int→Int
 |[],c=>c
 |e::r,c=>bg fns k vs r (iy fns k vs e c)
end
def vnm(n:Nat):List UInt8:=[118,UInt8.ofNat (97+n%26)]
def ud(vs:List LV)(s:List UInt8):List UInt8:=match lkV vs s with|none=>s|some v=>vnm v.num
mutual
def rnE(vs:List LV):Ex→Ex
 | .mk o n s ks=> .mk o n (if o=2 then ud vs s else s) (ju vs ks)
def ju(vs:List LV):List Ex→List Ex
 |[]=>[]
 |e::r=>rnE vs e::ju vs r
end
def mB(vs:List LV)(s:List UInt8)(b:Nat)(c:Int):Int:=match lkV vs s with|none=>c|some v=>if v.block=b then fl c 2 else c
def jw(w:WS)(s:List UInt8)(b:Nat):WS:=⟨⟨s,w.count,b⟩::w.vs,w.count+1,mB w.vs s b w.code⟩
def opW(o:Int)(s:List UInt8)(b:Nat)(w:WS):WS:=if o=1 then jw w s b else if o=2 then⟨w.vs,w.count,lH w.vs s w.code⟩ else w
def opN(o:Int)(s:List UInt8)(w:WS):List UInt8:=if o=1 then vnm w.count else if o=2 then ud w.vs s else s
def WS.back(w:WS)(vs:List LV):WS:=⟨vs,w.count,w.code⟩
mutual
def stW(fns:List Fd)(k b:Nat):Sm→WS→WS
 | .mk o s a bd el,w=>
   let w2:=opW o s b ⟨w.vs,w.count,bg fns k w.vs a w.code⟩
   let w3:=(bA fns k (b+1) bd w2).back w2.vs
   (bA fns k (b+1) el w3).back w2.vs
def bA(fns:List Fd)(k b:Nat):List Sm→WS→WS
 |[],w=>w
 |s::r,w=>bA fns k b r (stW fns k b s w)
end
def cL(ps:List (List UInt8))(w:WS):WS:=ps.foldl (fun w s=>jw w s 0) w
def fnW(fns:List Fd)(k:Nat)(f:Fd):WS:=bA fns k 0 f.body (cL f.params ⟨[],0,if dk fns f.name=some k then 0 else 2⟩)
def gV(fns:List Fd):Nat→List Fd→Int
 |_,[]=>0
 |k,f::r=>if(fnW fns k f).code=0 then gV fns (k+1) r else(fnW fns k f).code
def aX(fns:List Fd):Int:=if bH fns then gV fns 0 fns else 1
abbrev Scp:=List (List UInt8 × Nat)
def gX(m:Scp)(s:List UInt8):Option Nat:=(m.find? fun x=>decide (x.1=s)).map (·.2)
def iX:Scp→List UInt8→Nat→Scp
 |[],s,n=>[(s,n)]
 |x::r,s,n=>if x.1=s then(s,n)::r else x::iX r s n
def fT:List Scp→List UInt8→Option Nat
 |[],_=>none
 |m::r,s=>match gX m s with|some n=>some n|none=>fT r s
def fK(fns:List Fd)(k:Nat)(ch:List Scp)(c:Int)(e:Ex):Int:=
 if e.op=2 then(if(fT ch e.name).isSome then c else fl c 3)
 else if e.op=13 then(match dk (fns.take k) e.name with|none=>fl c 4|some j=>if we fns j=e.kids.length then c else fl c 5)
 else c
mutual
def Ex.pre:Ex→List Ex
 | .mk o n s ks=> .mk o n s ks::dY ks
def dY:List Ex→List Ex
 |[]=>[]
 |e::r=>e.pre++dY r
end
def BQ(fns:List Fd)(k:Nat)(ch:List Scp)(l:List Ex)(c:Int):Int:=(dY l).foldl (fK fns k ch) c
def opS(o:Int)(s:List UInt8)(m:Scp)(n:Nat):Scp:=if o=1 then iX m s n else m
def opC(o:Int)(s:List UInt8)(m:Scp)(up:List Scp)(c:Int):Int:=
 if o=1 then(if(gX m s).isSome then fl c 2 else c) else if o=2 then(if(fT (m::up) s).isSome then c else fl c 3) else c
mutual
def icS(fns:List Fd)(k:Nat):Sm→Scp→List Scp→Int→Scp × Int
 | .mk o s a bd el,m,up,c=>
   let m2:=opS o s m 0
   let c2:=opC o s m up (BQ fns k (m::up) a c)
   (m2,if o=5∨o=6 then(gw fns k el [] (m2::up) (gw fns k bd [] (m2::up) c2).2).2 else c2)
def gw(fns:List Fd)(k:Nat):List Sm→Scp→List Scp→Int→Scp × Int
 |[],m,_,c=>(m,c)
 |s::r,m,up,c=>gw fns k r (icS fns k s m up c).1 up (icS fns k s m up c).2
end
def ky(ps:List (List UInt8))(m:Scp)(c:Int):Scp × Int:=ps.foldl (fun x s=>(iX x.1 s 0,if(gX x.1 s).isSome then fl x.2 2 else x.2)) (m,c)
def icF(fns:List Fd)(k:Nat)(f:Fd)(c:Int):Int:=
 let c1:=if(match dk fns f.name with|some j=>decide (j<k)|none=>true) then fl c 2 else c
 let x:=ky f.params [] c1
 (gw fns k f.body x.1 [] x.2).2
def jQ(fns:List Fd):Nat→List Fd→Int→Int
 |_,[],c=>c
 |k,f::r,c=>jQ fns (k+1) r (icF fns k f c)
def SR(g:LV→Nat):Nat→List LV→List Scp→Prop
 |_,_,[]=>False
 |b,vs,m::up=>∃v1 v2,vs=v1++v2∧(∀v∈v1,v.block=b)∧(∀s,(lkV v1 s).map g=gX m s)∧match b with
  |0=>v2=[]∧up=[]
  |b+1=>SR g b v2 up
theorem Dc(a b:List LV)(s:List UInt8):lkV (a++b) s=match lkV a s with|some v=>some v|none=>lkV b s:=by
 simp only[lkV,List.find?_append]
 cases List.find? (fun v=>decide (v.name=s)) a<;>rfl
variable {g:LV→Nat}
theorem SR.blk:∀{b:Nat} {vs:List LV} {ch:List Scp},SR g b vs ch→∀v∈vs,v.block≤b
 |b,_,[],h,v,hv=>by cases b<;>exact False.elim h
 |0,vs,m::up,⟨v1,v2,e,h1,_,h3,_⟩,v,hv=>by
  subst e;subst h3
  rw[List.append_nil] at hv
  exact Nat.le_of_eq (h1 v hv)
 |b+1,vs,m::up,⟨v1,v2,e,h1,_,h3⟩,v,hv=>by
  subst e
  rcases List.mem_append.1 hv with h|h
  ·exact Nat.le_of_eq (h1 v h)
  ·exact Nat.le_succ_of_le (SR.blk h3 v h)
theorem SR.fnd:∀{b:Nat} {vs:List LV} {ch:List Scp},SR g b vs ch→∀s,(lkV vs s).map g=fT ch s
 |b,_,[],h,s=>by cases b<;>exact False.elim h
 |0,vs,m::up,⟨v1,v2,e,h1,h2,h3,h4⟩,s=>by
  subst e;subst h3;subst h4
  rw[List.append_nil,h2,fT]
  cases gX m s<;>rfl
 |b+1,vs,m::up,⟨v1,v2,e,h1,h2,h3⟩,s=>by
  subst e
  have ih:=SR.fnd h3 s
  have h2:=h2 s
  rw[Dc,fT,←h2]
  cases e1:lkV v1 s with
  |some v=>rfl
  |none=>exact ih
theorem SR.is{b:Nat}{vs:List LV}{ch:List Scp}(h:SR g b vs ch)(s:List UInt8):(lkV vs s).isSome=(fT ch s).isSome:=by rw[←h.fnd s,Option.isSome_map]
theorem CE{vs:List LV}{s:List UInt8}{v:LV}(h:lkV vs s=some v):v∈vs:=List.mem_of_find?_eq_some h
theorem SR.put:∀{b:Nat} {vs:List LV} {m:Scp} {up:List Scp},SR g b vs (m::up)→∀(s:List UInt8) (c:Int),mB vs s b c=if(gX m s).isSome then fl c 2 else c:=by
 intro b vs m up h s c
 have key:∀v1 v2:List LV,(∀v∈v1,v.block=b)→(lkV v1 s).map g=gX m s→(∀v∈v2,v.block≠b)→mB (v1++v2) s b c=if(gX m s).isSome then fl c 2 else c:=by
  intro v1 v2 h1 h2 h3
  rw[←h2,mB,Dc]
  cases e1:lkV v1 s with
  |some v=>simp[h1 v (CE e1)]
  |none=>
   cases e2:lkV v2 s with
   |none=>rfl
   |some v=>simp[h3 v (CE e2)]
 match b,h with
 |0,⟨v1,v2,e,h1,h2,h3,_⟩=>subst e;subst h3;exact key v1 [] h1 (h2 s) (fun v hv=>by simp at hv)
 |b+1,⟨v1,v2,e,h1,h2,h3⟩=>subst e;exact key v1 v2 h1 (h2 s) (fun v hv e=>by have:=h3.blk v hv;omega)
theorem uF:∀(m:Scp) (s:List UInt8) (n:Nat) (t:List UInt8),gX (iX m s n) t=if s=t then some n else gX m t
 |[],s,n,t=>by
  by_cases h:s=t
  ·simp[iX,gX,h]
  ·simp[iX,gX,h]
 |x::r,s,n,t=>by
  have ih:=uF r s n t
  simp only[gX] at ih
  by_cases hx:x.1=s
  ·by_cases h:s=t
   ·simp[iX,gX,hx,h]
   ·have:¬x.1=t:=by rw[hx];exact h
    simp[iX,gX,hx,h]
  ·by_cases ht:x.1=t
   ·have:¬s=t:=fun e=>hx (ht.trans e.symm)
    rw[iX,if_neg hx,if_neg this];simp[gX,ht]
   ·simp only[iX,gX,if_neg hx,List.find?_cons,ht,decide_false]
    exact ih
theorem SR.add{b:Nat}{vs:List LV}{m:Scp}{up:List Scp}(h:SR g b vs (m::up))(s:List UInt8)(n k:Nat)(hg:g ⟨s,n,b⟩=k):SR g b (⟨s,n,b⟩::vs) (iX m s k::up):=by
 have key:∀v1:List LV,(∀s,(lkV v1 s).map g=gX m s)→∀t,(lkV (⟨s,n,b⟩::v1) t).map g=gX (iX m s k) t:=by
  intro v1 h2 t
  rw[uF]
  by_cases e:s=t
  ·simp[lkV,e,←hg]
  ·rw[if_neg e,←h2 t];simp[lkV,e]
 match b,h with
 |0,⟨v1,v2,e,h1,h2,h3⟩=>
  subst e
  refine⟨⟨s,n,0⟩::v1,v2,rfl,fun v hv=>?_,key v1 h2,h3⟩
  rcases List.mem_cons.1 hv with rfl|hv
  ·rfl
  ·exact h1 v hv
 |b+1,⟨v1,v2,e,h1,h2,h3⟩=>
  subst e
  refine⟨⟨s,n,b+1⟩::v1,v2,rfl,fun v hv=>?_,key v1 h2,h3⟩
  rcases List.mem_cons.1 hv with rfl|hv
  ·rfl
  ·exact h1 v hv
theorem SR.open{b:Nat}{vs:List LV}{ch:List Scp}(h:SR g b vs ch):SR g (b+1) vs ([]::ch):=⟨[],vs,rfl,fun v hv=>by simp at hv,fun s=>rfl,h⟩
theorem SR.base:SR g 0 [] [[]]:=⟨[],[],rfl,fun v hv=>by simp at hv,fun s=>rfl,rfl,rfl⟩
theorem yh{α:Type}{p:α→Bool}{l:List α}{k:Nat}:(l.take k).findIdx? p=match l.findIdx? p with|some j=>if j<k then some j else none|none=>none:=by
 cases h:l.findIdx? p with
 |none=>
  rw[List.findIdx?_eq_none_iff] at h⊢
  exact fun x hx=>h x (List.mem_of_mem_take hx)
 |some j=>
  rw[List.findIdx?_eq_some_iff_getElem] at h
  obtain⟨h1,h2,h3⟩:=h
  simp only
  split
  ·rename_i hj
   rw[List.findIdx?_eq_some_iff_getElem]
   exact⟨by rw[List.length_take];omega,by rw[List.getElem_take];exact h2,fun i hi=>by rw[List.getElem_take];exact h3 i hi⟩
  ·rename_i hj
   rw[List.findIdx?_eq_none_iff]
   intro x hx
   obtain⟨i,hi,rfl⟩:=List.mem_take_iff_getElem.1 hx
   simpa using h3 i (by omega)
theorem FZ(fns:List Fd)(k:Nat){vs:List LV}{ch:List Scp}(h:∀s,(lkV vs s).isSome=(fT ch s).isSome)(e:Ex)(c:Int):fQ fns k vs e.op e.name e.kids.length c=fK fns k ch c e:=by
 unfold fQ fK
 split
 ·rw[←h,lH];cases lkV vs e.name<;>rfl
 ·split
  ·rw[lc,dk,dk,yh]
   cases List.findIdx? (fun f=>decide (f.name=e.name)) fns with
   |none=>rfl
   |some j=>
    simp only
    by_cases hj:j<k
    ·rw[if_neg (by omega),if_pos hj]
    ·rw[if_pos (by omega),if_neg hj]
  ·rfl
mutual
theorem IM(fns:List Fd)(k:Nat){vs:List LV}{ch:List Scp}(h:∀s,(lkV vs s).isSome=(fT ch s).isSome):∀(e:Ex) (c:Int),iy fns k vs e c=e.pre.foldl (fK fns k ch) c
 | .mk o n s ks,c=>by
   rw[iy,Ex.pre,List.foldl_cons,←uP fns k h ks,←FZ fns k h];rfl
theorem uP(fns:List Fd)(k:Nat){vs:List LV}{ch:List Scp}(h:∀s,(lkV vs s).isSome=(fT ch s).isSome):∀(l:List Ex) (c:Int),bg fns k vs l c=(dY l).foldl (fK fns k ch) c
 |[],c=>rfl
 |e::r,c=>by rw[bg,dY,List.foldl_append,IM fns k h e,uP fns k h r]
end
abbrev g0:LV→Nat:=fun _=>0
theorem Kp{b:Nat}{w:WS}{m:Scp}{up:List Scp}(h:SR g0 b w.vs (m::up))(o:Int)(s:List UInt8):SR g0 b (opW o s b w).vs (opS o s m 0::up)∧(opW o s b w).code=opC o s m up w.code:=by
 unfold opW opS opC
 by_cases h1:o=1
 ·simp only[h1,if_true]
  exact⟨h.add s _ 0 rfl,h.put s _⟩
 ·simp only[if_neg h1]
  split
  ·refine⟨h,?_⟩
   have:=h.is s
   simp only[lH]
   rw[←this]
   cases lkV w.vs s<;>rfl
  ·exact⟨h,rfl⟩
theorem BD{d:Nat}{o:Int}{s:List UInt8}{a:List Ex}{bd el:List Sm}(h:aq (d+1) (.mk o s a bd el)=true):bd.all (aq d)=true∧el.all (aq d)=true∧(¬(o=5∨o=6)→bd=[]∧el=[]):=by
 simp only[aq,er,Sm.op,Sm.body,Sm.els,Bool.and_eq_true,Bool.or_eq_true,decide_eq_true_eq,List.isEmpty_iff] at h
 refine⟨h.1.2,h.2,fun hn=>⟨?_,?_⟩⟩
 ·rcases h.1.1.2 with(h|h)|h
  ·exact h
  ·exact absurd (.inl (of_decide_eq_true h)) hn
  ·exact absurd (.inr (of_decide_eq_true h)) hn
 ·rcases h.1.1.1.2 with h|h
  ·exact h
  ·exact absurd (.inl (of_decide_eq_true h)) hn
theorem eL(w:WS)(vs:List LV):(w.back vs).code=w.code:=rfl
theorem KE(fns:List Fd)(k:Nat):∀(d b:Nat) (l:List Sm),l.all (aq d)=true→∀(w:WS) (m:Scp) (up:List Scp),SR g0 b w.vs (m::up)→
 SR g0 b (bA fns k b l w).vs ((gw fns k l m up w.code).1::up)∧(bA fns k b l w).code=(gw fns k l m up w.code).2:=by
 intro d
 induction d with
 |zero=>
  intro b l hl w m up h
  cases l with
  |nil=>exact⟨h,rfl⟩
  |cons s r=>simp[aq] at hl
 |succ d ih=>
  have kE:∀(b:Nat) (s:Sm),aq (d+1) s=true→∀(w:WS) (m:Scp) (up:List Scp),SR g0 b w.vs (m::up)→
   SR g0 b (stW fns k b s w).vs ((icS fns k s m up w.code).1::up)∧(stW fns k b s w).code=(icS fns k s m up w.code).2:=by
   intro b s hs w m up h
   obtain⟨o,n,a,bd,el⟩:=s
   obtain⟨f1,f2,f3⟩:=BD hs
   have hc:=uP fns k h.is a w.code
   obtain⟨g1,g2⟩:=Kp (w:=⟨w.vs,w.count,bg fns k w.vs a w.code⟩) h o n
   rw[stW,icS]
   simp only[hc] at g1 g2⊢
   generalize hw2:opW o n b ⟨w.vs,w.count,(dY a).foldl (fK fns k (m::up)) w.code⟩=w2 at*
   refine⟨g1,?_⟩
   rw[eL]
   have g2':w2.code=opC o n m up (BQ fns k (m::up) a w.code):=g2
   rw[←g2']
   by_cases ho:o=5∨o=6
   ·rw[if_pos ho]
    have k1:=ih (b+1) bd f1 w2 [] _ g1.open
    have k2:=ih (b+1) el f2 ((bA fns k (b+1) bd w2).back w2.vs) [] _ g1.open
    rw[k2.2,eL,k1.2]
   ·obtain⟨rfl,rfl⟩:=f3 ho
    rw[if_neg ho]
    simp[bA,WS.back]
  intro b l
  induction l with
  |nil=>intro _ w m up h;exact⟨h,rfl⟩
  |cons s r ihl=>
   intro hl w m up h
   rw[List.all_cons,Bool.and_eq_true] at hl
   obtain⟨k1,k2⟩:=kE b s hl.1 w m up h
   have:=ihl hl.2 _ _ up k1
   rw[bA,gw,←k2]
   exact this
theorem CF:∀(ps:List (List UInt8)) (w:WS) (m:Scp),SR g0 0 w.vs [m]→SR g0 0 (cL ps w).vs [(ky ps m w.code).1]∧(cL ps w).code=(ky ps m w.code).2
 |[],w,m,h=>⟨h,rfl⟩
 |s::r,w,m,h=>by
  have hp:=h.put s w.code
  have:=CF r (jw w s 0) (iX m s 0) (h.add s w.count 0 rfl)
  simp only[cL,ky,List.foldl_cons] at this⊢
  rw[←hp]
  exact this
theorem HA{fns:List Fd}{k:Nat}{ch:List Scp}{c:Int}(h:c≠0)(e:Ex):fK fns k ch c e=c:=by
 unfold fK
 simp only[vM h]
 split
 ·split<;>rfl
 ·split
  ·split
   ·rfl
   ·split<;>rfl
  ·rfl
theorem xb{fns:List Fd}{k:Nat}{ch:List Scp}{c:Int}(h:c≠0):∀l:List Ex,l.foldl (fK fns k ch) c=c
 |[]=>rfl
 |e::r=>by rw[List.foldl_cons,HA h,xb h r]
theorem EX{o:Int}{s:List UInt8}{m:Scp}{up:List Scp}{c:Int}(h:c≠0):opC o s m up c=c:=by
 unfold opC
 simp only[vM h]
 split
 ·split<;>rfl
 ·split
  ·split<;>rfl
  ·rfl
mutual
theorem Gc(fns:List Fd)(k:Nat){c:Int}(h:c≠0):∀(s:Sm) (m:Scp) (up:List Scp),(icS fns k s m up c).2=c
 | .mk o s a bd el,m,up=>by
   rw[icS]
   simp only[BQ,xb h,EX h]
   rw[og fns k h bd,og fns k h el,ite_self]
theorem og(fns:List Fd)(k:Nat){c:Int}(h:c≠0):∀(l:List Sm) (m:Scp) (up:List Scp),(gw fns k l m up c).2=c
 |[],m,up=>rfl
 |s::r,m,up=>by rw[gw,Gc fns k h s m up,og fns k h r]
end
theorem xi{c:Int}(h:c≠0):∀(ps:List (List UInt8)) (m:Scp),(ky ps m c).2=c
 |[],m=>rfl
 |s::r,m=>by
  have:=xi h r (iX m s 0)
  simp only[ky,List.foldl_cons,vM h,ite_self] at this⊢
  exact this
theorem Fa(fns:List Fd)(k:Nat)(f:Fd){c:Int}(h:c≠0):icF fns k f c=c:=by
 simp only[icF,vM h,ite_self]
 rw[xi h,og fns k h]
theorem vl(fns:List Fd){c:Int}(h:c≠0):∀(l:List Fd) (k:Nat),jQ fns k l c=c
 |[],k=>rfl
 |f::r,k=>by rw[jQ,Fa fns k f h,vl fns h r]
theorem xm{fns:List Fd}{k:Nat}{f:Fd}(h:fns[k]?=some f):∃j,dk fns f.name=some j∧j≤k:=by
 cases e:dk fns f.name with
 |none=>
  rw[dk,List.findIdx?_eq_none_iff] at e
  have:=e f (List.mem_of_getElem? h)
  simp at this
 |some j=>
  refine⟨j,rfl,?_⟩
  rw[dk,List.findIdx?_eq_some_iff_getElem] at e
  obtain⟨h1,h2,h3⟩:=e
  rcases Nat.lt_or_ge k j with hk|hk
  ·have:=h3 k hk
   obtain⟨a1,a2⟩:=List.getElem?_eq_some_iff.1 h
   rw[a2] at this
   simp at this
  ·exact hk
theorem LI(fns:List Fd){k:Nat}{f:Fd}(hf:fns[k]?=some f)(hok:gv f=true):(fnW fns k f).code=icF fns k f 0:=by
 obtain⟨j,e1,e2⟩:=xm hf
 have hb:f.body.all (aq 4)=true:=by simp only[gv,Bool.and_eq_true] at hok;exact hok.2
 have hc:(if dk fns f.name=some k then(0:Int) else 2)=if(match dk fns f.name with|some j=>decide (j<k)|none=>true) then fl 0 2 else 0:=by
  rw[e1]
  by_cases h:j=k
  ·subst h;simp
  ·have:j<k:=by omega
   simp[h,this,fl]
 obtain⟨p1,p2⟩:=CF f.params ⟨[],0,if dk fns f.name=some k then(0:Int) else 2⟩ [] SR.base
 obtain⟨q1,q2⟩:=KE fns k 4 0 f.body hb _ _ [] p1
 rw[fnW,q2,p2]
 simp only[icF,←hc]
theorem Fq(fns:List Fd):∀(l:List Fd) (k:Nat),(∀i,l[i]?=fns[k+i]?)→l.all gv=true→gV fns k l=jQ fns k l 0
 |[],k,_,_=>rfl
 |f::r,k,hl,ha=>by
  rw[List.all_cons,Bool.and_eq_true] at ha
  have h0:fns[k]?=some f:=by have:=hl 0;simpa using this.symm
  have hr:∀i,r[i]?=fns[k+1+i]?:=fun i=>by have:=hl (i+1);rw[List.getElem?_cons_succ] at this;rw[this];congr 1;omega
  rw[gV,jQ,LI fns h0 ha.1]
  split
  ·rename_i e;rw[e];exact Fq fns r (k+1) hr ha.2
  ·rename_i e;rw[vl fns e]
theorem Bx(fns:List Fd):aX fns=if bH fns then jQ fns 0 fns 0 else 1:=by
 unfold aX
 split
 ·rename_i h
  simp only[bH,Bool.and_eq_true] at h
  exact Fq fns fns 0 (fun i=>by rw[Nat.zero_add]) h.1.2
 ·rfl
end Go.Proofs.YtaopbokndkdieaaGreatDoor
namespace Go.Proofs.YtaopbokndkdieaaGreatDoor
open Go Go.Aw
set_option maxRecDepth 100000
mutual
def rnS(fns:List Fd)(k b:Nat):Sm→WS→Sm
 | .mk o s a bd el,w=>
   let w2:=opW o s b ⟨w.vs,w.count,bg fns k w.vs a w.code⟩
   .mk o (opN o s w) (ju w.vs a) (gy fns k (b+1) bd w2) (gy fns k (b+1) el ((bA fns k (b+1) bd w2).back w2.vs))
def gy(fns:List Fd)(k b:Nat):List Sm→WS→List Sm
 |[],_=>[]
 |s::r,w=>rnS fns k b s w::gy fns k b r (stW fns k b s w)
end
def oD:List (List UInt8)→WS→List (List UInt8)
 |[],_=>[]
 |s::r,w=>vnm w.count::oD r (jw w s 0)
def rnF(fns:List Fd)(k:Nat)(f:Fd):Fd:=
 ⟨f.name,oD f.params ⟨[],0,if dk fns f.name=some k then 0 else 2⟩,gy fns k 0 f.body (cL f.params ⟨[],0,if dk fns f.name=some k then 0 else 2⟩)⟩
mutual
def DO:Sm→Nat
 | .mk o _ _ bd el=>(if o=1 then 1 else 0)+pj bd+pj el
def pj:List Sm→Nat
 |[]=>0
 |s::r=>DO s+pj r
end
theorem rS(o:Int)(s:List UInt8)(b:Nat)(w:WS):(opW o s b w).count=w.count+if o=1 then 1 else 0:=by
 unfold opW
 split
 ·rfl
 ·split<;>rfl
mutual
theorem xB(fns:List Fd)(k:Nat):∀(s:Sm) (b:Nat) (w:WS),(stW fns k b s w).count=w.count+DO s
 | .mk o s a bd el,b,w=>by
   rw[stW,DO]
   simp only[WS.back]
   rw[gH fns k el,gH fns k bd,rS];show w.count+_+_+_=_
   omega
theorem gH(fns:List Fd)(k:Nat):∀(l:List Sm) (b:Nat) (w:WS),(bA fns k b l w).count=w.count+pj l
 |[],b,w=>rfl
 |s::r,b,w=>by rw[bA,pj,gH fns k r,xB fns k s];omega
end
mutual
theorem Jv:∀s:Sm,DO s≤s.cnt
 | .mk o s a bd el=>by
   have:=ri bd
   have:=ri el
   simp only[DO,Sm.cnt]
   split<;>omega
theorem ri:∀l:List Sm,pj l≤cD l
 |[]=>Nat.le_refl _
 |s::r=>by have:=Jv s;have:=ri r;simp only[pj,cD];omega
end
theorem td:∀(ps:List (List UInt8)) (w:WS),(cL ps w).count=w.count+ps.length
 |[],w=>rfl
 |s::r,w=>by
  have:=td r (jw w s 0)
  simp only[cL,List.foldl_cons,List.length_cons] at this⊢
  rw[this];simp only[jw];omega
theorem IZ(o:Int)(s:List UInt8)(b:Nat)(w:WS):∃e,(opW o s b w).vs=e++w.vs:=by
 unfold opW
 split
 ·exact⟨[_],rfl⟩
 ·split<;>exact⟨[],rfl⟩
theorem GL(fns:List Fd)(k b:Nat)(o:Int)(s:List UInt8)(a:List Ex)(bd el:List Sm)(w:WS):(stW fns k b (.mk o s a bd el) w).vs=(opW o s b ⟨w.vs,w.count,bg fns k w.vs a w.code⟩).vs:=rfl
theorem zQ(fns:List Fd)(k:Nat):∀(l:List Sm) (b:Nat) (w:WS),∃e,(bA fns k b l w).vs=e++w.vs
 |[],b,w=>⟨[],rfl⟩
 | .mk o s a bd el::r,b,w=>by
   obtain⟨e1,h1⟩:=zQ fns k r b (stW fns k b (.mk o s a bd el) w)
   obtain⟨e2,h2⟩:=IZ o s b ⟨w.vs,w.count,bg fns k w.vs a w.code⟩
   exact⟨e1++e2,by rw[bA,h1,GL,h2,List.append_assoc]⟩
theorem KA{o:Int}{s:List UInt8}{b:Nat}{w:WS}(h:w.vs.length≤w.count):(opW o s b w).vs.length≤(opW o s b w).count:=by
 unfold opW
 split
 ·simp[jw,h]
 ·split<;>exact h
theorem KM(fns:List Fd)(k:Nat){s:Sm}{b:Nat}{w:WS}(h:w.vs.length≤w.count):(stW fns k b s w).vs.length≤(stW fns k b s w).count:=by
 obtain⟨o,n,a,bd,el⟩:=s
 rw[xB,GL]
 have:=KA (o:=o) (s:=n) (b:=b) (w:=⟨w.vs,w.count,bg fns k w.vs a w.code⟩) h
 rw[rS] at this
 simp only[DO]
 simp only at this
 omega
theorem CP(fns:List Fd)(k:Nat):∀{l:List Sm} {b:Nat} {w:WS},w.vs.length≤w.count→(bA fns k b l w).vs.length≤(bA fns k b l w).count
 |[],_,_,h=>h
 |s::r,b,w,h=>CP fns k (l:=r) (KM fns k h)
mutual
def Sm.pre(d:Nat):Sm→List (Sm × Nat)
 | .mk o s a bd el=>(.mk o s a bd el,d)::(ck (d+1) bd++ck (d+1) el)
def ck(d:Nat):List Sm→List (Sm × Nat)
 |[]=>[]
 |s::r=>Sm.pre d s++ck d r
end
theorem Sm.pre_eq(d:Nat)(s:Sm):s.pre d=(s,d)::(ck (d+1) s.body++ck (d+1) s.els):=by cases s;rfl
theorem qc(d:Nat):∀a b:List Sm,ck d (a++b)=ck d a++ck d b
 |[],b=>rfl
 |s::r,b=>by rw[List.cons_append,ck,ck,qc d r b,List.append_assoc]
theorem Ex.pre_eq(e:Ex):e.pre=e::dY e.kids:=by cases e;rfl
theorem ln:∀a b:List Ex,dY (a++b)=dY a++dY b
 |[],b=>rfl
 |e::r,b=>by rw[List.cons_append,dY,dY,ln r b,List.append_assoc]
mutual
theorem Sm.pre_len:∀(s:Sm) (d:Nat),(s.pre d).length=s.cnt
 | .mk o s a bd el,d=>by simp only[Sm.pre,Sm.cnt,List.length_cons,List.length_append,jm bd,jm el];omega
theorem jm:∀(l:List Sm) (d:Nat),(ck d l).length=cD l
 |[],d=>rfl
 |s::r,d=>by simp only[ck,cD,List.length_append,Sm.pre_len s,jm r]
end
end Go.Proofs.YtaopbokndkdieaaGreatDoor
namespace Go.Proofs.YtaopbokndkdieaaGreatDoor
open Go Go.Aw
set_option maxRecDepth 100000
theorem xg{vs:List LV}{s:List UInt8}{c:Int}(h:c≠0):lH vs s c=c:=by unfold lH;split<;>simp[vM h]
theorem Bc{fns:List Fd}{k:Nat}{s:List UInt8}{n:Nat}{c:Int}(h:c≠0):lc fns k s n c=c:=by
 unfold lc
 simp only[vM h]
 split
 ·rfl
 ·split
  ·rfl
  ·split<;>rfl
theorem AU{fns:List Fd}{k:Nat}{vs:List LV}{o:Int}{s:List UInt8}{n:Nat}{c:Int}(h:c≠0):fQ fns k vs o s n c=c:=by
 unfold fQ
 rw[xg h,Bc h]
 split
 ·rfl
 ·split<;>rfl
mutual
theorem DS(fns:List Fd)(k:Nat)(vs:List LV){c:Int}(h:c≠0):∀e:Ex,iy fns k vs e c=c
 | .mk o n s ks=>by rw[iy,AU h,lN fns k vs h ks]
theorem lN(fns:List Fd)(k:Nat)(vs:List LV){c:Int}(h:c≠0):∀l:List Ex,bg fns k vs l c=c
 |[]=>rfl
 |e::r=>by rw[bg,DS fns k vs h e,lN fns k vs h r]
end
theorem gL{fns:List Fd}{k:Nat}{vs:List LV}{l:List Ex}{c:Int}(h:bg fns k vs l c=0):c=0:=by
 by_cases hc:c=0
 ·exact hc
 ·rw[lN fns k vs hc] at h;exact h
theorem zD{o:Int}{s:List UInt8}{b:Nat}{w:WS}(h:w.code≠0):(opW o s b w).code=w.code:=by
 unfold opW
 split
 ·simp only[jw,mB,vM h]
  split
  ·rfl
  ·split<;>rfl
 ·split
  ·exact xg h
  ·rfl
mutual
theorem Hh(fns:List Fd)(k:Nat):∀(s:Sm) (b:Nat) (w:WS),w.code≠0→(stW fns k b s w).code=w.code
 | .mk o s a bd el,b,w,h=>by
   have e1:(bg fns k w.vs a w.code)=w.code:=lN fns k w.vs h a
   have e2:(opW o s b ⟨w.vs,w.count,bg fns k w.vs a w.code⟩).code=w.code:=by rw[zD]<;>simp only[e1];exact h
   have e3:=nS fns k bd (b+1) (opW o s b ⟨w.vs,w.count,bg fns k w.vs a w.code⟩) (by rw[e2];exact h)
   rw[stW,eL,nS fns k el _ _ (by rw[eL,e3,e2];exact h),eL,e3,e2]
theorem nS(fns:List Fd)(k:Nat):∀(l:List Sm) (b:Nat) (w:WS),w.code≠0→(bA fns k b l w).code=w.code
 |[],b,w,h=>rfl
 |s::r,b,w,h=>by
  have e1:=Hh fns k s b w h
  rw[bA,nS fns k r b _ (by rw[e1];exact h),e1]
end
theorem fL{fns:List Fd}{k b:Nat}{l:List Sm}{w:WS}(h:(bA fns k b l w).code=0):w.code=0:=by
 by_cases hc:w.code=0
 ·exact hc
 ·rw[nS fns k l b w hc] at h;exact h
theorem zJ{o:Int}{s:List UInt8}{b:Nat}{w:WS}(h:(opW o s b w).code=0):w.code=0:=by
 by_cases hc:w.code=0
 ·exact hc
 ·rw[zD hc] at h;exact h
end Go.Proofs.YtaopbokndkdieaaGreatDoor
namespace Go.Proofs.YtaopbokndkdieaaGreatDoor
open Go Go.Aw
set_option maxRecDepth 100000
theorem kc(fns:List Fd):∀(l:List Fd) (k:Nat),gV fns k l=0↔∀(i:Nat) (f:Fd),l[i]?=some f→(fnW fns (k+i) f).code=0
 |[],k=>by simp[gV]
 |f::r,k=>by
  rw[gV]
  have ih:=kc fns r (k+1)
  constructor
  ·intro h i g hg
   by_cases h0:(fnW fns k f).code=0
   ·rw[if_pos h0] at h
    cases i with
    |zero=>cases hg;exact h0
    |succ i=>have:=ih.1 h i g (by simpa using hg);rwa[show k+(i+1)=k+1+i by omega]
   ·rw[if_neg h0] at h;exact absurd h h0
  ·intro h
   rw[if_pos (by have:=h 0 f rfl;rwa[Nat.add_zero] at this)]
   exact ih.2 fun i g hg=>by have:=h (i+1) g (by simpa using hg);rwa[show k+(i+1)=k+1+i by omega] at this
theorem IC(l:List Fd):aX l=0↔bH l=true∧∀(k:Nat) (f:Fd),l[k]?=some f→(fnW l k f).code=0:=by
 unfold aX
 by_cases h:bH l=true
 ·rw[if_pos h,kc];simp[h]
 ·rw[if_neg h];simp[h]
theorem jo(l:List Fd):bH l=true↔(1≤l.length∧l.length≤4)∧(∀f∈l,gv f=true)∧iq l≤40:=by
 simp only[bH,inR,Bool.and_eq_true,decide_eq_true_eq,List.all_eq_true]
 constructor
 ·rintro⟨⟨⟨h1,h2⟩,h3⟩,h4⟩;exact⟨⟨by omega,by omega⟩,h3,h4⟩
 ·rintro⟨⟨h1,h2⟩,h3,h4⟩;exact⟨⟨⟨by omega,by omega⟩,h3⟩,h4⟩
def Fd.cut(f:Fd)(n:Nat):Fd:=⟨f.name,f.params,f.body.take n⟩
end Go.Proofs.YtaopbokndkdieaaGreatDoor
namespace Go.Proofs.YtaopbokndkdieaaGreatDoor
open Go Go.Aw
set_option maxRecDepth 100000
abbrev Sc5:=List (List UInt8 × Int)
structure S5 where (left:Nat) (said:List Int) (cells:List Int)
inductive O5 (α:Type) where
 |ok (a:α)
 |st (c:Int)
def tr5(b:Bool):Int:=if b then 1 else 0
def Bj(op a b:Int):Option Int:=
 if op=3 then some ((a+b)%256) else if op=4 then some ((a-b+256)%256) else if op=5 then some (a*b%256) else if op=8 then some (tr5 (decide (a<b))) else if op=9 then some (tr5 (decide (a=b)))
 else if b=0 then none else if op=6 then some (a/b) else some (a%b)
def S5.put(s:S5)(i:Nat)(n:Int):S5:=⟨s.left,s.said,s.cells.set i n⟩
def S5.at_(s:S5)(F:Nat):S5:=⟨F,s.said,s.cells⟩
def V5(n:Int):Prop:=0≤n∧n≤255
end Go.Proofs.YtaopbokndkdieaaGreatDoor
namespace Go.Proofs.YtaopbokndkdieaaGreatDoor
open Go Go.Aw
set_option maxRecDepth 100000
structure G5 (s:S5):Prop where
 len:s.cells.length=16
 cells:∀c∈s.cells,V5 c
 said:∀c∈s.said,V5 c
def GE5(v:List Sc5):Prop:=∀m∈v,∀x∈m,V5 x.2
theorem qP(b:Bool):V5 (tr5 b):=by cases b<;>simp[tr5,V5]
theorem Dr{op a b n:Int}(ha:V5 a)(hb:V5 b)(h:Bj op a b=some n):V5 n:=by
 obtain⟨a0,a1⟩:=ha
 obtain⟨b0,b1⟩:=hb
 unfold Bj at h
 split at h
 ·cases h;unfold V5;omega
 split at h
 ·cases h;unfold V5;omega
 split at h
 ·cases h
  have:0≤a*b:=Int.mul_nonneg a0 b0
  unfold V5
  generalize a*b=q at*
  omega
 split at h
 ·cases h;exact qP _
 split at h
 ·cases h;exact qP _
 split at h
 ·cases h
 split at h
 ·cases h
  have h1:0≤a/b:=Int.ediv_nonneg a0 b0
  have h2:a/b≤a:=Int.ediv_le_self b a0
  exact⟨h1,by omega⟩
 ·cases h
  rename_i hb0 _
  have h1:0≤a%b:=Int.emod_nonneg a hb0
  have h2:a%b<b:=Int.emod_lt_of_pos a (by omega)
  exact⟨h1,by omega⟩
theorem G5.put{s:S5}(g:G5 s)(i:Nat){n:Int}(hn:V5 n):G5 (s.put i n):=⟨by rw[←g.len];exact List.length_set,fun c hc=>by
 rcases List.mem_or_eq_of_mem_set hc with h|h
 ·exact g.cells c h
 ·rw[h];exact hn,g.said⟩
theorem G5.at_{s:S5}(g:G5 s)(F:Nat):G5 (s.at_ F):=⟨g.len,g.cells,g.said⟩
theorem GE5.tail{m:Sc5}{v:List Sc5}(g:GE5 (m::v)):GE5 v:=fun q hq=>g q (by simp[hq])
end Go.Proofs.YtaopbokndkdieaaGreatDoor
namespace Go.Proofs.YtaopbokndkdieaaGreatDoor
open Go Go.Aw
set_option maxRecDepth 100000
theorem xr{a:Ex}(h:fF a=true):aW 6 a=true:=by rw[fF,Bool.and_eq_true] at h;exact h.1
section
variable {l:List Fd}
end
def s0(fuel:Nat):S5:=⟨fuel,[],List.replicate 16 0⟩
end Go.Proofs.YtaopbokndkdieaaGreatDoor
namespace Go.Proofs.YtaopbokndkdieaaGreatDoor
open Go Go.Aw
set_option maxRecDepth 100000
def S5.dn(s:S5)(c:Nat):S5:=⟨s.left-c,s.said,s.cells⟩
end Go.Proofs.YtaopbokndkdieaaGreatDoor
namespace Go.Proofs.YtaopbokndkdieaaGreatDoor
open Go Go.Aw
set_option maxRecDepth 100000
def S5.pre(s:S5)(t:List Int):S5:=⟨s.left,t++s.said,s.cells⟩
end Go.Proofs.YtaopbokndkdieaaGreatDoor
namespace Go.Proofs.YtaopbokndkdieaaGreatDoor
open Go Go.Aw
set_option maxRecDepth 100000
set_option maxHeartbeats 4000000
def ar5(o a b:Int):Option Int:=if o=10 then some (tr5 (decide (a≠0∧b≠0))) else Bj o a b
def kY(n:Int):Ex:= .mk 1 n [] []
def isN(e:Ex)(n:Int):Bool:=decide (e.op=1)&&decide (e.n=n)
mutual
def dB:Ex→Bool
 | .mk o _ _ ks=> !decide (o=12)&& !decide (o=13)&&(!(decide (o=6)||decide (o=7))||(match ks with|[_,b]=>decide (b.op=1)&& !decide (b.n=0)|_=>false))&&yj ks
def yj:List Ex→Bool
 |[]=>true
 |e::r=>dB e&&yj r
end
def iT(o n:Int)(s:List UInt8)(a:Ex):Ex:=
 if a.op=1 then kY (tr5 (decide (a.n=0))) else match a.kids with|[c]=>if a.op=11∧c.op=11 then c else .mk o n s [a]|_=> .mk o n s [a]
def lp(o n:Int)(s:List UInt8)(a b:Ex):Ex:=
 match(if a.op=1∧b.op=1 then ar5 o a.n b.n else none) with
 |some q=>kY q
 |none=>
  if o=10∧isN a 0=true then kY 0 else if(o=3∨o=4)∧isN b 0=true∨(o=5∨o=6)∧isN b 1=true then a else if o=3∧isN a 0=true∨o=5∧isN a 1=true then b
  else if o=5∧(isN b 0=true∧dB a=true∨isN a 0=true∧dB b=true) then kY 0 else .mk o n s [a,b]
def dG(o n:Int)(s:List UInt8)(ks:List Ex):Ex:=
 if o=12∨o=13 then .mk o n s ks else match ks with|[a]=>iT o n s a|[a,b]=>lp o n s a b|ks=> .mk o n s ks
mutual
def cm:Ex→Ex
 | .mk o n s ks=>dG o n s (aJ ks)
def aJ:List Ex→List Ex
 |[]=>[]
 |e::r=>cm e::aJ r
end
theorem isN_iff{e:Ex}{n:Int}:isN e n=true↔e.op=1∧e.n=n:=by simp[isN]
section
variable {l:List Fd}
end
end Go.Proofs.YtaopbokndkdieaaGreatDoor
namespace Go.Proofs.YtaopbokndkdieaaGreatDoor
open Go Go.Aw
set_option maxRecDepth 100000
structure Like (fns fns':List Fd):Prop where
 at_:∀s,dk fns' s=dk fns s
 par:∀j,we fns' j=we fns j
theorem zS(l:List Fd)(g:Fd→Fd)(hn:∀f,(g f).name=f.name)(hp:∀f,(g f).params.length=f.params.length):Like l (l.map g) where
 at_:=fun s=>by
  rw[dk,dk,List.findIdx?_map]
  congr 1
  funext f
  simp[hn]
 par:=fun j=>by
  rw[we,we,List.getElem?_map]
  cases l[j]? with
  |none=>rfl
  |some f=>exact hp f
theorem BH{w:WS}{s:List UInt8}{b:Nat}(h:(jw w s b).code=0):w.code=0:=by
 have h:mB w.vs s b w.code=0:=h
 unfold mB at h
 split at h
 ·exact h
 ·split at h
  ·unfold fl at h
   split at h
   ·assumption
   ·exact h
  ·exact h
theorem sD:∀{ps:List (List UInt8)} {w:WS},(cL ps w).code=0→w.code=0
 |[],w,h=>h
 |s::r,w,h=>BH (sD (ps:=r) (w:=jw w s 0) h)
theorem Ga{fns:List Fd}{k:Nat}{f:Fd}(hz:(fnW fns k f).code=0):dk fns f.name=some k:=by
 rw[fnW] at hz
 have h1:=sD (fL hz)
 by_cases h:dk fns f.name=some k
 ·exact h
 ·rw[if_neg h] at h1;cases h1
end Go.Proofs.YtaopbokndkdieaaGreatDoor
namespace Go.Proofs.YtaopbokndkdieaaGreatDoor
open Go Go.Aw
set_option maxRecDepth 100000
set_option maxHeartbeats 4000000
theorem dv{α:Type}{p:α→Bool}{xs:List α}{i:Nat}(h:i<xs.length):(xs.take (i+1)).all p=((xs.take i).all p&&p xs[i]):=by
 rw[ah h,List.all_append];simp
theorem kj{α:Type}{p:α→Bool}{xs:List α}{i:Nat}(h:i<xs.length)(hp:p xs[i]=false):xs.all p=false:=
 List.all_eq_false.2 ⟨_,List.getElem_mem h,by simp[hp]⟩
theorem fp{α:Type}{p:α→Bool}{xs:List α}{i:Nat}(h:xs.length≤i)(ht:(xs.take i).all p=true):xs.all p=true:=by
 rwa[List.take_of_length_le h] at ht
def K_spec_l2Form:AK:= .seq (.reg [oJ 2 (.box 4 (.t 0)),oJ 4 (.mov (.c (.p (.bool false))))]) (.seq (.reg [oF 10 0 2,oL 11 10,oJ 12 (.call im [(.t 11)]),oM 9 12,oJ 13 (.ext 0 (.t 9)),oJ 14 (.ext 1 (.t 9)),oM 5 13,oM 6 14]) (.seq (.seq (.reg [oM 15 1,oJ 16 (.bin .lss (.t 15) (.c (.p (.int .i64 1)))),oM 17 16,⟨(some 18),some (17,false),.fldA 0 (.t 2)⟩,⟨(some 19),some (17,false),.ld none (.t 18)⟩,⟨(some 20),some (17,false),.call bD [(.t 19),(.c (.p (.int .i64 1))),(.c (.p (.int .i64 13)))]⟩,⟨(some 21),some (17,false),.not (.t 20)⟩,oJ 22 (.pick (.t 17) (.c (.p (.bool true))) (.t 21)),oM 23 22,⟨(some 24),some (23,false),.fldA 3 (.t 2)⟩,⟨(some 25),some (23,false),.ld none (.t 24)⟩,⟨(some 26),some (23,false),.len false (.t 25)⟩,⟨(some 27),some (23,false),.mov (.t 5)⟩,⟨(some 28),some (23,false),.mov (.t 6)⟩,⟨(some 29),some (23,false),.call bD [(.t 26),(.t 27),(.t 28)]⟩,⟨(some 30),some (23,false),.not (.t 29)⟩,oJ 31 (.pick (.t 23) (.c (.p (.bool true))) (.t 30))]) (.cond (.t 31) (.seq (.reg [oJ 4 (.mov (.c (.p (.bool false))))]) (.ret)) (.skip))) (.cut (.reg [oF 32 0 2,oL 33 32,oJ 34 (.bin .eql (.t 33) (.c (.p (.int .i64 2)))),oM 35 34,⟨(some 36),some (35,false),.fldA 0 (.t 2)⟩,⟨(some 37),some (35,false),.ld none (.t 36)⟩,⟨(some 38),some (35,false),.bin .eql (.t 37) (.c (.p (.int .i64 13)))⟩,oJ 39 (.pick (.t 35) (.c (.p (.bool true))) (.t 38)),oM 7 39]) (.cut (.seq (.reg [oM 40 7,oF 41 2 2,oL 42 41,oJ 43 (.call cM [(.t 42)]),oJ 44 (.beq true (.t 40) (.t 43)),oM 45 44,⟨(some 46),some (45,false),.mov (.t 7)⟩,⟨(some 47),some (45,false),.not (.t 46)⟩,⟨(some 48),some (45,false),.mov (.t 47)⟩,⟨(some 49),some (48,true),.fldA 2 (.t 2)⟩,⟨(some 50),some (48,true),.ld none (.t 49)⟩,⟨(some 51),some (48,true),.bins .neq (.t 50) (.c (.p (.str [])))⟩,⟨(some 52),some (45,false),.pick (.t 48) (.t 51) (.c (.p (.bool false)))⟩,oJ 53 (.pick (.t 45) (.c (.p (.bool true))) (.t 52)),oM 54 53,⟨(some 55),some (54,false),.fldA 1 (.t 2)⟩,⟨(some 56),some (54,false),.ld none (.t 55)⟩,⟨(some 57),some (54,false),.call bD [(.t 56),(.c (.p (.int .i64 0))),(.c (.p (.int .i64 255)))]⟩,⟨(some 58),some (54,false),.not (.t 57)⟩,oJ 59 (.pick (.t 54) (.c (.p (.bool true))) (.t 58)),oM 60 59,⟨(some 61),some (60,false),.fldA 0 (.t 2)⟩,⟨(some 62),some (60,false),.ld none (.t 61)⟩,⟨(some 63),some (60,false),.bin .neq (.t 62) (.c (.p (.int .i64 1)))⟩,⟨(some 64),some (60,false),.mov (.t 63)⟩,⟨(some 65),some (64,true),.fldA 1 (.t 2)⟩,⟨(some 66),some (64,true),.ld none (.t 65)⟩,⟨(some 67),some (64,true),.bin .neq (.t 66) (.c (.p (.int .i64 0)))⟩,⟨(some 68),some (60,false),.pick (.t 64) (.t 67) (.c (.p (.bool false)))⟩,oJ 69 (.pick (.t 60) (.c (.p (.bool true))) (.t 68))]) (.cond (.t 69) (.seq (.reg [oJ 4 (.mov (.c (.p (.bool false))))]) (.ret)) (.skip))) (.seq (.seq (.reg [oK 8 0]) (.blk 0 (.loop (.seq (.seq (.reg [oM 70 8,oF 71 3 2,oL 72 71,oJ 73 (.len false (.t 72)),oJ 74 (.bin .lss (.t 70) (.t 73))]) (.cond (.t 74) (.skip) (.exit 0))) (.seq (.blk 1 (.seq (.reg [oF 77 3 2,oL 78 77,oM 79 8,oJ 80 (.idxS 4 (.t 78) (.t 79)),oJ 81 (.ld (some 4) (.t 80)),oM 82 1,oJ 83 (.bin .sub (.t 82) (.c (.p (.int .i64 1)))),oJ 84 (.call fu [(.t 81),(.t 83)]),oJ 85 (.not (.t 84))]) (.cond (.t 85) (.seq (.reg [oJ 4 (.mov (.c (.p (.bool false))))]) (.ret)) (.skip)))) (.reg [oM 75 8,oJ 76 (.bin .add (.t 75) (.c (.p (.int .i64 1)))),oM 8 76])))))) (.seq (.reg [oJ 4 (.mov (.c (.p (.bool true))))]) (.ret)))))))
theorem ww:K_spec_l2Form.whole=F_spec_l2Form.ak:=rfl
def K_spec_l3Stmt:AK:= .seq (.reg [oJ 2 (.box 5 (.t 0)),oJ 4 (.mov (.c (.p (.bool false))))]) (.cut (.seq (.reg [oM 7 1,oJ 8 (.bin .lss (.t 7) (.c (.p (.int .i64 1)))),oM 9 8,⟨(some 10),some (9,false),.fldA 0 (.t 2)⟩,⟨(some 11),some (9,false),.ld none (.t 10)⟩,⟨(some 12),some (9,false),.call bD [(.t 11),(.c (.p (.int .i64 1))),(.c (.p (.int .i64 8)))]⟩,⟨(some 13),some (9,false),.not (.t 12)⟩,oJ 14 (.pick (.t 9) (.c (.p (.bool true))) (.t 13)),oM 15 14,⟨(some 16),some (15,false),.fldA 2 (.t 2)⟩,⟨(some 19),some (15,false),.fldA 0 (.t 2)⟩,⟨(some 17),some (15,false),.ld none (.t 16)⟩,⟨(some 18),some (15,false),.len false (.t 17)⟩,⟨(some 20),some (15,false),.ld none (.t 19)⟩,⟨(some 21),some (15,false),.qcall il [(.t 20)]⟩,⟨(some 22),some (15,false),.bin .neq (.t 18) (.t 21)⟩,oJ 23 (.pick (.t 15) (.c (.p (.bool true))) (.t 22))]) (.cond (.t 23) (.seq (.reg [oJ 4 (.mov (.c (.p (.bool false))))]) (.ret)) (.skip))) (.cut (.reg [oF 24 0 2,oL 25 24,oJ 26 (.bin .eql (.t 25) (.c (.p (.int .i64 1)))),oM 27 26,⟨(some 28),some (27,false),.fldA 0 (.t 2)⟩,⟨(some 29),some (27,false),.ld none (.t 28)⟩,⟨(some 30),some (27,false),.bin .eql (.t 29) (.c (.p (.int .i64 2)))⟩,oJ 31 (.pick (.t 27) (.c (.p (.bool true))) (.t 30)),oM 5 31]) (.cut (.seq (.reg [oM 32 5,oF 33 1 2,oL 34 33,oJ 35 (.call cM [(.t 34)]),oJ 36 (.beq true (.t 32) (.t 35)),oM 37 36,⟨(some 38),some (37,false),.mov (.t 5)⟩,⟨(some 39),some (37,false),.not (.t 38)⟩,⟨(some 40),some (37,false),.mov (.t 39)⟩,⟨(some 41),some (40,true),.fldA 1 (.t 2)⟩,⟨(some 42),some (40,true),.ld none (.t 41)⟩,⟨(some 43),some (40,true),.bins .neq (.t 42) (.c (.p (.str [])))⟩,⟨(some 44),some (37,false),.pick (.t 40) (.t 43) (.c (.p (.bool false)))⟩,oJ 45 (.pick (.t 37) (.c (.p (.bool true))) (.t 44))]) (.cond (.t 45) (.seq (.reg [oJ 4 (.mov (.c (.p (.bool false))))]) (.ret)) (.skip))) (.seq (.seq (.reg [oK 6 0]) (.blk 0 (.loop (.seq (.seq (.reg [oM 46 6,oF 47 2 2,oL 48 47,oJ 49 (.len false (.t 48)),oJ 50 (.bin .lss (.t 46) (.t 49))]) (.cond (.t 50) (.skip) (.exit 0))) (.seq (.blk 1 (.seq (.reg [oF 53 2 2,oL 54 53,oM 55 6,oJ 56 (.idxS 4 (.t 54) (.t 55)),oJ 57 (.ld (some 4) (.t 56)),oJ 58 (.call eI [(.t 57)]),oJ 59 (.not (.t 58))]) (.cond (.t 59) (.seq (.reg [oJ 4 (.mov (.c (.p (.bool false))))]) (.ret)) (.skip)))) (.reg [oM 51 6,oJ 52 (.bin .add (.t 51) (.c (.p (.int .i64 1)))),oM 6 52])))))) (.cut (.seq (.reg [oF 60 0 2,oL 61 60,oJ 62 (.bin .eql (.t 61) (.c (.p (.int .i64 8)))),oM 63 62,⟨(some 64),some (63,true),.fldA 2 (.t 2)⟩,⟨(some 65),some (63,true),.ld none (.t 64)⟩,⟨(some 66),some (63,true),.idxS 4 (.t 65) (.c (.p (.int .i64 0)))⟩,⟨(some 67),some (63,true),.fldA 0 (.t 66)⟩,⟨(some 68),some (63,true),.ld none (.t 67)⟩,⟨(some 69),some (63,true),.bin .neq (.t 68) (.c (.p (.int .i64 13)))⟩,oJ 70 (.pick (.t 63) (.t 69) (.c (.p (.bool false))))]) (.cond (.t 70) (.seq (.reg [oJ 4 (.mov (.c (.p (.bool false))))]) (.ret)) (.skip))) (.cut (.seq (.reg [oF 71 4 2,oL 72 71,oJ 73 (.len false (.t 72)),oJ 74 (.bin .gtr (.t 73) (.c (.p (.int .i64 0)))),oM 75 74,⟨(some 76),some (75,true),.fldA 0 (.t 2)⟩,⟨(some 77),some (75,true),.ld none (.t 76)⟩,⟨(some 78),some (75,true),.bin .neq (.t 77) (.c (.p (.int .i64 5)))⟩,oJ 79 (.pick (.t 75) (.t 78) (.c (.p (.bool false)))),oM 80 79,⟨(some 81),some (80,false),.fldA 3 (.t 2)⟩,⟨(some 82),some (80,false),.ld none (.t 81)⟩,⟨(some 83),some (80,false),.len false (.t 82)⟩,⟨(some 84),some (80,false),.bin .gtr (.t 83) (.c (.p (.int .i64 0)))⟩,⟨(some 85),some (80,false),.mov (.t 84)⟩,⟨(some 86),some (85,true),.fldA 0 (.t 2)⟩,⟨(some 87),some (85,true),.ld none (.t 86)⟩,⟨(some 88),some (85,true),.bin .neq (.t 87) (.c (.p (.int .i64 5)))⟩,⟨(some 89),some (80,false),.pick (.t 85) (.t 88) (.c (.p (.bool false)))⟩,⟨(some 90),some (80,false),.mov (.t 89)⟩,⟨(some 91),some (90,true),.fldA 0 (.t 2)⟩,⟨(some 92),some (90,true),.ld none (.t 91)⟩,⟨(some 93),some (90,true),.bin .neq (.t 92) (.c (.p (.int .i64 6)))⟩,⟨(some 94),some (80,false),.pick (.t 90) (.t 93) (.c (.p (.bool false)))⟩,oJ 95 (.pick (.t 80) (.c (.p (.bool true))) (.t 94))]) (.cond (.t 95) (.seq (.reg [oJ 4 (.mov (.c (.p (.bool false))))]) (.ret)) (.skip))) (.seq (.reg [oF 96 3 2,oL 97 96,oM 98 1,oJ 99 (.bin .sub (.t 98) (.c (.p (.int .i64 1)))),oJ 100 (.call cf [(.t 97),(.t 99)]),oM 101 100,⟨(some 102),some (101,true),.fldA 4 (.t 2)⟩,⟨(some 103),some (101,true),.ld none (.t 102)⟩,⟨(some 104),some (101,true),.mov (.t 1)⟩,⟨(some 105),some (101,true),.bin .sub (.t 104) (.c (.p (.int .i64 1)))⟩,⟨(some 106),some (101,true),.call cf [(.t 103),(.t 105)]⟩,oJ 107 (.pick (.t 101) (.t 106) (.c (.p (.bool false)))),oM 4 107]) (.ret))))))))
theorem wD:K_spec_l3Stmt.whole=F_spec_l3Stmt.ak:=rfl
variable (G:aI)
theorem mF(n lo hi:Int):VF Tryz.prog G bD [.p (.int .i64 n),.p (.int .i64 lo),.p (.int .i64 hi)] (.p (.bool (inR n lo hi))):=by
 refine AC.go zr ?_
 by_cases h:lo≤n
 ·simp-implicitDefEqProofs[mP,h,inR]
 ·simp-implicitDefEqProofs[mP,h,inR]
theorem Ad(op:Int):VF Tryz.prog G im [.p (.int .i64 op)] (.tup [.p (.int .i64 (loK op)),.p (.int .i64 (hiK op))]):=by
 refine AC.go wB ?_
 by_cases h1:op=1
 ·subst h1;simp-implicitDefEqProofs[du,loK,hiK]
 by_cases h2:op=2
 ·subst h2;simp-implicitDefEqProofs[du,loK,hiK]
 by_cases h3:op=11
 ·subst h3;simp-implicitDefEqProofs[du,loK,hiK]
 by_cases h4:op=12
 ·subst h4;simp-implicitDefEqProofs[du,loK,hiK]
 by_cases h5:op=13
 ·subst h5;simp-implicitDefEqProofs[du,loK,hiK]
 simp-implicitDefEqProofs[du,loK,hiK,h1,h2,h3,h4,h5]
theorem Fe:∀(d:Nat) (e:Ex),e.sz≤1099511627776→d≤1000→VF Tryz.prog G fu [.agg (e.cs.map .p),.p (.int .i64 d)] (.p (.bool (aW d e))):=by
 intro d
 induction d with
 |zero=>
  intro e he _
  refine AC.go px ?_
  simp-implicitDefEqProofs[F_spec_l2Form,Ex.cs_eq]
  refine(Ad G _).use ?_
  simp-implicitDefEqProofs[aW]
 |succ d ih=>
  intro e he hd
  have hsz:=e.sz_eq
  have hkl:=aM e.kids
  refine AC.goK px ww ?_
  have hd1:¬(d:Int)+1<1:=by omega
  have hw:IntKind.i64.wrap ((d:Int)+1-1)=(d:Int):=by rw[show(d:Int)+1-1=d by omega];exact al (by omega) (by omega)
  have hw':IntKind.i64.wrap (d:Int)=(d:Int):=al (by omega) (by omega)
  have hxl:∀l,exL l= .lst 4 (l.map Ex.cs):=fun _=>rfl
  simp-implicitDefEqProofs[K_spec_l2Form,F_spec_l2Form,Ex.cs_eq]
  refine(Ad G _).use ?_
  simp-implicitDefEqProofs[hd1]
  refine(mF G _ _ _).use ?_
  by_cases h1:inR e.op 1 13=true
  case neg=>simp-implicitDefEqProofs[h1,aW,iB]
  simp-implicitDefEqProofs[h1,hxl]
  refine(mF G _ _ _).use ?_
  by_cases h2:inR e.kids.length (loK e.op) (hiK e.op)=true
  case neg=>simp-implicitDefEqProofs[h2,aW,iB]
  simp-implicitDefEqProofs[h2]
  refine kH (aj 86 [(1,.p (.int .i64 (d+1))),(2,.ptr 0 4 0 0),(7,.p (.bool (yV e.op)))]) [.row 4 [[.p (.int .i64 e.op),.p (.int .i64 e.n),.p (.str e.name),.p (.lst 4 (e.kids.map Ex.cs))]]] ?_ ?_
  ·by_cases o2:e.op=2
   ·simp-implicitDefEqProofs[o2]
    exact aa (by simp) (by simp[okO]) (by simp[below,yV])
   ·by_cases o13:e.op=13
    ·simp-implicitDefEqProofs[o13]
     exact aa (by simp) (by simp[okO]) (by simp[below,yV])
    ·simp-implicitDefEqProofs[o2,o13]
     exact aa (by simp) (by simp[okO]) (by simp[below,yV,o2,o13])
  have hn:e.name.length≤140737488355328:=by omega
  refine pJ (fun _:Unit=>aj 86 [(1,.p (.int .i64 ((d:Int)+1))),(2,.ptr 0 4 0 0)]) (fun _=>[.row 4 [[.p (.int .i64 e.op),.p (.int .i64 e.n),.p (.str e.name),.p (.lst 4 (e.kids.map Ex.cs))]]]) (fun _=>iB e=true) ?_ ?_
  ·simp-implicitDefEqProofs[]
   refine(qy G _ hn).use ?_
   simp-implicitDefEqProofs[]
   repeat' first
    |(refine(mF G _ _ _).use ?_;simp-implicitDefEqProofs[])
    |(refine bh (fun hc=>?_) (fun hc=>?_)<;>simp-implicitDefEqProofs[hc])
   all_goals first
    |exact⟨by simp_all [iB],aa (by simp) (by simp[okO]) (by simp[below])⟩
    |simp_all [aW,iB]
  intro _ hh
  simp-implicitDefEqProofs[]
  refine aF (fun i:Nat=>aj 86 [(1,.p (.int .i64 ((d:Int)+1))),(2,.ptr 0 4 0 0),(8,.p (.int .i64 i))]) (fun _=>[.row 4 [[.p (.int .i64 e.op),.p (.int .i64 e.n),.p (.str e.name),.p (.lst 4 (e.kids.map Ex.cs))]]])
   (fun i=>i≤e.kids.length∧(e.kids.take i).all (aW d)=true) (fun i=>e.kids.length-i) 0 (by simp) (aa (by simp) (by simp[okO]) (by simp[below])) ?_
  intro i ⟨hi,hall⟩
  simp-implicitDefEqProofs[]
  refine bh (fun h=>?_) (fun h=>?_)
  ·simp at h
   have hg:=List.getElem?_eq_getElem h
   have hks:=az (List.getElem_mem h)
   simp-implicitDefEqProofs[hg,hw']
   refine(ih e.kids[i] (by omega) (by omega)).use ?_
   by_cases hk:aW d e.kids[i]=true
   ·simp-implicitDefEqProofs[hk]
    refine⟨i+1,⟨h,by rw[←List.all_eq_true,dv h,hall,hk];rfl⟩,by omega,aa (by simp) (by simp[okO]) ?_⟩
    simp[below,w1 (i:=i) (by omega)]
   ·have hk':aW d e.kids[i]=false:=by simpa using hk
    have hf:aW (d+1) e=false:=by simp only[aW,kj h hk',Bool.and_false]
    simp-implicitDefEqProofs[hk',hf]
  ·simp at h
   have hf:aW (d+1) e=true:=by simp only[aW,fp h hall,hh,Bool.and_self]
   simp-implicitDefEqProofs[hf]
theorem Ew{l:List Ex}{i:Nat}(h:i<l.length):de (l.take (i+1))=de (l.take i)+l[i].parts:=by
 rw[ah h,ir];simp[de]
theorem xY(l:List Ex)(i:Nat):de (l.take i)≤de l:=by
 have:=ir (l.take i) (l.drop i)
 rw[List.take_append_drop] at this
 omega
theorem DV:∀(k:Nat) (e:Ex),e.sz≤k→k≤1099511627776→VF Tryz.prog G gg [.agg (e.cs.map .p)] (.p (.int .i64 e.parts)):=by
 intro k
 induction k with
 |zero=>intro e he;have:=e.sz_eq;omega
 |succ k ih=>
  intro e he hk
  have hsz:=e.sz_eq
  have hkl:=aM e.kids
  have hpe:=e.parts_eq
  have hpz:=xO e.kids
  refine AC.go uf ?_
  have hxl:∀l,exL l= .lst 4 (l.map Ex.cs):=fun _=>rfl
  simp-implicitDefEqProofs[no,Ex.cs_eq,hxl]
  refine aF (fun i:Nat=>aj 21 [(1,.ptr 0 4 0 0),(3,.p (.int .i64 ((1+de (e.kids.take i):Nat):Int))),(4,.p (.int .i64 i))]) (fun _=>[.row 4 [[.p (.int .i64 e.op),.p (.int .i64 e.n),.p (.str e.name),.p (.lst 4 (e.kids.map Ex.cs))]]])
   (fun i=>i≤e.kids.length) (fun i=>e.kids.length-i) 0 (by simp) (aa (by simp) (by simp[okO]) (by simp[below,de])) ?_
  intro i hi
  simp-implicitDefEqProofs[]
  refine bh (fun h=>?_) (fun h=>?_)
  ·simp at h
   have hg:=List.getElem?_eq_getElem h
   have hks:=az (List.getElem_mem h)
   have hps:=Ew h
   have hple:=xY e.kids (i+1)
   simp-implicitDefEqProofs[hg]
   refine(ih e.kids[i] (by omega) (by omega)).use ?_
   have hw:IntKind.i64.wrap (1+(de (e.kids.take i):Int)+(e.kids[i].parts:Int))=((1+de (e.kids.take (i+1)):Nat):Int):=by rw[al (by omega) (by omega)];omega
   simp-implicitDefEqProofs[hw]
   exact⟨i+1,h,by omega,aa (by simp) (by simp[okO]) (by simp[below,w1 (i:=i) (by omega)])⟩
  ·simp at h
   rw[List.take_of_length_le h]
   simp-implicitDefEqProofs[]
   omega
theorem Ax(e:Ex)(he:e.sz≤1099511627776):VF Tryz.prog G eI [.agg (e.cs.map .p)] (.p (.bool (fF e))):=by
 refine AC.go rB ?_
 simp-implicitDefEqProofs[kW]
 have h6:=Fe G 6 e he (by omega)
 refine h6.use ?_
 by_cases h:aW 6 e=true
 ·simp-implicitDefEqProofs[h]
  refine(DV G _ e (Nat.le_refl _) he).use ?_
  simp-implicitDefEqProofs[fF,h]
  omega
 ·simp-implicitDefEqProofs[h,fF]
theorem Gz(op:Int):VF Tryz.prog G il [.p (.int .i64 op)] (.p (.int .i64 (jD op))):=by
 refine AC.go wl ?_
 by_cases h:op=4
 ·simp-implicitDefEqProofs[kM,h,jD]
 ·simp-implicitDefEqProofs[kM,h,jD]
theorem sR(d:Nat)(hd:d≤1000)(hs:∀s:Sm,s.sz≤1099511627776→VF Tryz.prog G ig [.agg (s.cs.map .p),.p (.int .i64 d)] (.p (.bool (aq d s))))(l:List Sm)(hl:aD l≤1099511627776):
 VF Tryz.prog G cf [.p (smL l),.p (.int .i64 d)] (.p (.bool (l.all (aq d)))):=by
 refine AC.go uj ?_
 have hll:=aR l
 have hsl:∀l,smL l= .lst 5 (l.map Sm.cs):=fun _=>rfl
 simp-implicitDefEqProofs[nL]
 refine aF (fun i:Nat=>aj 19 [(0,.p (smL l)),(1,.p (.int .i64 d)),(5,.p (.int .i64 i))]) (fun _=>[]) (fun i=>i≤l.length∧(l.take i).all (aq d)=true) (fun i=>l.length-i) 0 (by simp) (aK rfl (by simp[below,hsl])) ?_
 intro i ⟨hi,hall⟩
 simp-implicitDefEqProofs[hsl]
 refine bh (fun h=>?_) (fun h=>?_)
 ·simp at h
  have hg:=List.getElem?_eq_getElem h
  have hks:=aL (List.getElem_mem h)
  simp-implicitDefEqProofs[hg]
  refine(hs l[i] (by omega)).use ?_
  by_cases hk:aq d l[i]=true
  ·simp-implicitDefEqProofs[hk]
   exact⟨i+1,⟨h,by rw[←List.all_eq_true,dv h,hall,hk];rfl⟩,by omega,aK rfl (by simp[below,hsl,w1 (i:=i) (by omega)])⟩
  ·have hk':aq d l[i]=false:=by simpa using hk
   have hf:=kj h hk'
   simp-implicitDefEqProofs[hk',hf]
 ·simp at h
  have hf:=fp h hall
  simp-implicitDefEqProofs[hf]
theorem GX:∀(d:Nat),d≤1000→∀s:Sm,s.sz≤1099511627776→VF Tryz.prog G ig [.agg (s.cs.map .p),.p (.int .i64 d)] (.p (.bool (aq d s))):=by
 intro d
 induction d with
 |zero=>
  intro _ s _
  refine AC.go po ?_
  simp-implicitDefEqProofs[F_spec_l3Stmt,Sm.cs_eq,aq]
 |succ d ih=>
  intro hd s he
  have hsz:=s.sz_eq
  have hal:=aM s.args
  have hbl:=aR s.body
  have hel:=aR s.els
  have ihs:=sR G d (by omega) (ih (by omega))
  refine AC.goK po wD ?_
  have hd1:¬(d:Int)+1<1:=by omega
  have hw':IntKind.i64.wrap (d:Int)=(d:Int):=al (by omega) (by omega)
  have hxl:∀l,exL l= .lst 4 (l.map Ex.cs):=fun _=>rfl
  have hsl:∀l,smL l= .lst 5 (l.map Sm.cs):=fun _=>rfl
  have hn:s.name.length≤140737488355328:=by omega
  simp-implicitDefEqProofs[K_spec_l3Stmt,F_spec_l3Stmt,Sm.cs_eq]
  generalize hH:[AO.row 5 [[AV.p (.int .i64 s.op),.p (.str s.name),.p (exL s.args),.p (smL s.body),.p (smL s.els)]]]=H
  have hho:∀o∈H,okO H.length o:=by rw[←hH];simp[okO]
  have hhl:0<H.length:=by rw[←hH];simp
  have hh0:H[0]?=some (AO.row 5 [[AV.p (.int .i64 s.op),.p (.str s.name),.p (exL s.args),.p (smL s.body),.p (smL s.els)]]):=by rw[←hH];rfl
  have hhL:H.length=1:=by rw[←hH];rfl
  refine pJ (fun _:Unit=>aj 108 [(1,.p (.int .i64 ((d:Int)+1))),(2,.ptr 0 5 0 0)]) (fun _=>H) (fun _=>inR s.op 1 8=true∧s.args.length=jD s.op) ?_ ?_
  ·simp-implicitDefEqProofs[hd1,hh0]
   refine(mF G _ _ _).use ?_
   by_cases h1:inR s.op 1 8=true
   case neg=>simp-implicitDefEqProofs[h1,aq,er]
   simp-implicitDefEqProofs[h1,hh0,hxl]
   refine(Gz G _).useQ ?_
   by_cases h2:s.args.length=jD s.op
   ·simp-implicitDefEqProofs[h2]
    exact aa (by omega) hho (by simp[below,hhl])
   ·have h2':¬(s.args.length:Int)=(jD s.op:Int):=by omega
    simp-implicitDefEqProofs[h2,h2',aq,er]
  intro _ ⟨h1,h2⟩
  refine pJ (fun _:Unit=>aj 108 [(1,.p (.int .i64 ((d:Int)+1))),(2,.ptr 0 5 0 0),(5,.p (.bool (dd s.op)))]) (fun _=>H) (fun _=>True) ?_ ?_
  ·simp-implicitDefEqProofs[hh0]
   by_cases o1:s.op=1
   ·simp-implicitDefEqProofs[o1,hh0,dd]
    exact aa (by omega) hho (by simp[below,hhl])
   ·by_cases o2:s.op=2
    ·simp-implicitDefEqProofs[o2,hh0,dd]
     exact aa (by omega) hho (by simp[below,hhl])
    ·simp-implicitDefEqProofs[o1,o2,hh0,dd]
     exact aa (by omega) hho (by simp[below,hhl])
  intro _ _
  refine pJ (fun _:Unit=>aj 108 [(1,.p (.int .i64 ((d:Int)+1))),(2,.ptr 0 5 0 0)]) (fun _=>H) (fun _=>(dd s.op==aH s.name)=true∧(dd s.op||decide (s.name=[]))=true) ?_ ?_
  ·simp-implicitDefEqProofs[hh0]
   refine(qy G _ hn).use ?_
   simp-implicitDefEqProofs[hh0]
   repeat' first
    |(refine bh (fun hc=>?_) (fun hc=>?_)<;>simp-implicitDefEqProofs[hc,hh0])
   all_goals first
    |exact aa (by omega) hho (by simp[below,hhl])
    |exact⟨by simp_all,by simp_all,aa (by omega) hho (by simp[below,hhl])⟩
    |exact⟨by simp_all,aa (by omega) hho (by simp[below,hhl])⟩
    |(simp_all [aq,er];done)
  intro _ ⟨h3,h4⟩
  simp-implicitDefEqProofs[]
  refine aF (fun i:Nat=>aj 108 [(1,.p (.int .i64 ((d:Int)+1))),(2,.ptr 0 5 0 0),(6,.p (.int .i64 i))]) (fun _=>H) (fun i=>i≤s.args.length∧(s.args.take i).all fF=true) (fun i=>s.args.length-i) 0 (by simp) (aa (by omega) hho (by simp[below,hhl])) ?_
  intro i ⟨hi,hall⟩
  simp-implicitDefEqProofs[hh0,hxl]
  refine bh (fun h=>?_) (fun h=>?_)
  ·simp at h
   have hg:=List.getElem?_eq_getElem h
   have hks:=az (List.getElem_mem h)
   simp-implicitDefEqProofs[hg,hh0,hxl]
   refine(Ax G s.args[i] (by omega)).use ?_
   by_cases hk:fF s.args[i]=true
   ·simp-implicitDefEqProofs[hk]
    exact⟨i+1,⟨h,by rw[←List.all_eq_true,dv h,hall,hk];rfl⟩,by omega,aa (by omega) hho (by simp[below,hhl,w1 (i:=i) (by omega)])⟩
   ·have hk':fF s.args[i]=false:=by simpa using hk
    have hf:aq (d+1) s=false:=by simp only[aq,er,kj h hk',Bool.and_false,Bool.false_and]
    simp-implicitDefEqProofs[hk',hf]
  simp at h
  have h5:s.args.all fF=true:=fp h hall
  have hlen1:1≤s.args.length:=by rw[h2];unfold jD;split<;>omega
  obtain⟨a0,ar,ha⟩:∃a r,s.args=a::r:=by
   cases hh:s.args with
   |nil=>rw[hh] at hlen1;simp at hlen1
   |cons a r=>exact⟨a,r,rfl⟩
  have ha0:s.args[0]?=some a0:=by rw[ha];rfl
  refine pJ (fun _:Unit=>aj 108 [(1,.p (.int .i64 ((d:Int)+1))),(2,.ptr 0 5 0 0)]) (fun _=>H) (fun _=>(!decide (s.op=8)||decide (a0.op=13))=true) ?_ ?_
  ·simp-implicitDefEqProofs[hh0]
   by_cases o8:s.op=8
   ·have hae:=a0.cs_eq
    simp-implicitDefEqProofs[o8,hh0,hxl,ha0,hae]
    refine bh (fun hc=>?_) (fun hc=>?_)
    ·simp at hc
     have hf:aq (d+1) s=false:=by simp[aq,er,o8,ha,hc]
     simp-implicitDefEqProofs[hf]
    ·simp at hc
     simp-implicitDefEqProofs[hc]
     exact aa (by omega) hho (by simp[below,hhl])
   ·simp-implicitDefEqProofs[o8,hh0]
    exact aa (by omega) hho (by simp[below,hhl])
  intro _ h6
  refine pJ (fun _:Unit=>aj 108 [(1,.p (.int .i64 ((d:Int)+1))),(2,.ptr 0 5 0 0)]) (fun _=>H) (fun _=>(s.els.isEmpty||decide (s.op=5))=true∧(s.body.isEmpty||decide (s.op=5)||decide (s.op=6))=true) ?_ ?_
  ·have hf:¬((s.els.isEmpty||decide (s.op=5))=true∧(s.body.isEmpty||decide (s.op=5)||decide (s.op=6))=true)→aq (d+1) s=false:=fun h=>by
    have:er s=false:=by
     cases hx:er s with
     |false=>rfl
     |true=>refine absurd ?_ h;simp only[er,Bool.and_eq_true] at hx;exact⟨hx.1.2,hx.2⟩
    simp[aq,this]
   have pe:¬s.els=[]→0<s.els.length:=List.length_pos_iff.2
   have pb:¬s.body=[]→0<s.body.length:=List.length_pos_iff.2
   by_cases o5:s.op=5
   ·simp-implicitDefEqProofs[hh0,hsl,o5]
    repeat' first
     |(refine bh (fun hc=>?_) (fun hc=>?_)<;>simp-implicitDefEqProofs[hc,hh0,hsl,o5])
    all_goals exact aa (by omega) hho (by simp[below,hhl])
   by_cases e1:s.els=[]
   case neg=>
    have hf:=hf (by simp[e1,o5])
    have:=pe e1
    simp-implicitDefEqProofs[hh0,hsl,o5,e1,this,hf]
   by_cases e2:s.body=[]
   ·simp-implicitDefEqProofs[hh0,hsl,o5,e1,e2]
    exact aa (by omega) hho (by simp[below,hhl])
   have:=pb e2
   by_cases o6:s.op=6
   ·simp-implicitDefEqProofs[hh0,hsl,o6,e1,e2,this]
    exact aa (by omega) hho (by simp[below,hhl])
   ·have hf:=hf (by simp[e2,o5,o6])
    simp-implicitDefEqProofs[hh0,hsl,o5,o6,e1,e2,this,hf]
  intro _ ⟨h7,h8⟩
  have hm:(match s.args with|a::_=>decide (a.op=13)|[]=>false)=decide (a0.op=13):=by rw[ha]
  have hhd:er s=true:=by
   have h6':(!decide (s.op=8)||(match s.args with|a::_=>decide (a.op=13)|[]=>false))=true:=by rw[hm];exact h6
   have h2':decide (s.args.length=jD s.op)=true:=by simp[h2]
   simp only[er,h1,h2',h3,h4,h5,h7,h8,Bool.and_self,Bool.and_true,Bool.true_and]
   exact h6'
  simp-implicitDefEqProofs[hh0,hw']
  refine(ihs s.body (by omega)).use ?_
  by_cases hB:s.body.all (aq d)=true
  ·simp only[hB]
   simp-implicitDefEqProofs[hh0,hw']
   refine(ihs s.els (by omega)).use ?_
   have hf:aq (d+1) s=s.els.all (aq d):=by simp only[aq,hhd,hB,Bool.true_and]
   rw[hf]
   generalize s.els.all (aq d)=w
   simp-implicitDefEqProofs[]
  ·have hB':s.body.all (aq d)=false:=by simpa using hB
   have hf:aq (d+1) s=false:=by simp only[aq,hB',Bool.and_false,Bool.false_and]
   simp only[hB',hf]
   simp-implicitDefEqProofs[]
theorem Do(d:Nat)(hd:d≤1000)(l:List Sm)(hl:aD l≤1099511627776):VF Tryz.prog G cf [.p (smL l),.p (.int .i64 d)] (.p (.bool (l.all (aq d)))):=
 sR G d hd (GX G d hd) l hl
theorem JZ(f:Fd)(hf:f.sz≤1099511627776):VF Tryz.prog G ng [.agg (f.cs.map .p)] (.p (.bool (gv f))):=by
 refine AC.go yS ?_
 have hsz:f.sz=1+f.name.length+(f.params.length+(f.params.map List.length).sum)+aD f.body:=rfl
 have hps:∀x∈f.params,x.length≤(f.params.map List.length).sum:=fun x hx=>by
  have key:∀l:List (List UInt8),x∈l→x.length≤(l.map List.length).sum:=by
   intro l
   induction l with
   |nil=>intro h;cases h
   |cons y r ih=>
    intro h
    simp only[List.map_cons,List.sum_cons]
    rcases List.mem_cons.1 h with rfl|h
    ·omega
    ·have:=ih h;omega
  exact key _ hx
 have hst:aN f.params= .lst 1 (f.params.map fun w=>[.str w]):=rfl
 have h4:=Do G 4 (by omega) f.body (by omega)
 simp-implicitDefEqProofs[sS,Fd.cs,hst]
 refine aF (fun i:Nat=>aj 32 [(1,.ptr 0 3 0 0),(3,.p (.int .i64 i))]) (fun _=>[.row 3 [[.p (.str f.name),.p (aN f.params),.p (smL f.body)]]]) (fun i=>i≤f.params.length∧(f.params.take i).all aH=true) (fun i=>f.params.length-i) 0 (by simp) (aa (by simp) (by simp[okO]) (by simp[below])) ?_
 intro i ⟨hi,hall⟩
 simp-implicitDefEqProofs[hst]
 refine bh (fun h=>?_) (fun h=>?_)
 ·simp at h
  have hg:=List.getElem?_eq_getElem h
  have hl:=hps _ (List.getElem_mem h)
  simp-implicitDefEqProofs[hg]
  refine(qy G _ (by omega)).use ?_
  by_cases hk:aH f.params[i]=true
  ·simp-implicitDefEqProofs[hk]
   exact⟨i+1,⟨h,by rw[←List.all_eq_true,dv h,hall,hk];rfl⟩,by omega,aa (by simp) (by simp[okO]) (by simp[below,w1 (i:=i) (by omega)])⟩
  ·have hk':aH f.params[i]=false:=by simpa using hk
   have hff:gv f=false:=by simp only[gv,kj h hk',Bool.false_and]
   simp-implicitDefEqProofs[hk',hff]
 ·simp at h
  have h1:f.params.all aH=true:=fp h hall
  simp-implicitDefEqProofs[]
  refine(qy G _ (by omega)).use ?_
  by_cases h2:aH f.name=true
  case neg=>
   have h2':aH f.name=false:=by simpa using h2
   simp-implicitDefEqProofs[h2',gv]
  simp-implicitDefEqProofs[h2]
  by_cases h3:f.params.length≤3
  case neg=>
   have h3':¬(f.params.length:Int)≤3:=by omega
   simp-implicitDefEqProofs[h3,h3',gv]
  have h3':(f.params.length:Int)≤3:=by omega
  simp-implicitDefEqProofs[h3']
  refine h4.use ?_
  have hff:gv f=f.body.all (aq 4):=by simp only[gv,h1,h2,h3,decide_true,Bool.true_and]
  rw[hff]
  generalize f.body.all (aq 4)=w
  simp-implicitDefEqProofs[]
theorem EE{l:List Sm}{i:Nat}(h:i<l.length):cD (l.take (i+1))=cD (l.take i)+l[i].cnt:=by
 rw[ah h,nK];simp[cD]
theorem rp(l:List Sm)(i:Nat):cD (l.take i)≤cD l:=by
 have:=nK (l.take i) (l.drop i)
 rw[List.take_append_drop] at this
 omega
def jY(l:List Sm)(i:Nat):Nat:=l.length+((l.take i).map fun s=>cD s.body+cD s.els).sum
theorem AG(l:List Sm):jY l 0=l.length:=by simp[jY]
theorem uT{l:List Sm}{i:Nat}(h:i<l.length):jY l (i+1)=jY l i+cD l[i].body+cD l[i].els:=by
 rw[jY,jY,ah h,List.map_append,List.sum_append]
 simp only[List.map_cons,List.map_nil,List.sum_cons,List.sum_nil]
 omega
theorem se(l:List Sm):∀i,i≤l.length→cD (l.take i)+l.length=i+jY l i
 |0,_=>by simp[cD,jY]
 |i+1,h=>by
  have:=se l i (by omega)
  rw[EE (by omega),uT (by omega),(l[i]'(by omega)).cnt_eq]
  omega
theorem Dh:∀(k:Nat) (l:List Sm),aD l≤k→k≤1099511627776→VF Tryz.prog G ew [.p (smL l)] (.p (.int .i64 (cD l))):=by
 intro k
 induction k with
 |zero=>
  intro l hl _
  have:l=[]:=by
   cases l with
   |nil=>rfl
   |cons s r=>have:=s.sz_eq;simp only[aD] at hl;omega
  subst this
  refine AC.go np ?_
  have hsl:smL []= .lst 5 []:=rfl
  simp-implicitDefEqProofs[jk,hsl]
  refine aF (fun _:Unit=>aj 29 [(0,.p (.lst 5 [])),(3,.p (.int .i64 0)),(4,.p (.int .i64 0))]) (fun _=>[]) (fun _=>True) (fun _=>0) () trivial (aK rfl (by simp[below])) ?_
  intro _ _
  simp-implicitDefEqProofs[cD]
 |succ k ih=>
  intro l hl hk
  have hll:=aR l
  have hnz:=nT l
  refine AC.go np ?_
  have hsl:∀l,smL l= .lst 5 (l.map Sm.cs):=fun _=>rfl
  simp-implicitDefEqProofs[jk,hsl]
  refine aF (fun i:Nat=>aj 29 [(0,.p (smL l)),(3,.p (.int .i64 (jY l i))),(4,.p (.int .i64 i))]) (fun _=>[]) (fun i=>i≤l.length) (fun i=>l.length-i) 0 (by simp) (aK rfl (by simp[below,hsl,AG])) ?_
  intro i hi
  have k0:=se l i hi
  have k2:=rp l i
  simp-implicitDefEqProofs[hsl]
  refine bh (fun h=>?_) (fun h=>?_)
  ·simp at h
   have hg:=List.getElem?_eq_getElem h
   have hks:=aL (List.getElem_mem h)
   have hse:=l[i].sz_eq
   have hce:=l[i].cs_eq
   have k1:=uT h
   have k3:=se l (i+1) h
   have k4:=rp l (i+1)
   simp-implicitDefEqProofs[hg,hce]
   refine(ih l[i].body (by omega) (by omega)).use ?_
   simp-implicitDefEqProofs[hg,hce]
   refine(ih l[i].els (by omega) (by omega)).use ?_
   have w1':IntKind.i64.wrap ((jY l i:Int)+(cD l[i].body:Int))=(jY l i:Int)+(cD l[i].body:Int):=al (by omega) (by omega)
   have w2':IntKind.i64.wrap ((jY l i:Int)+(cD l[i].body:Int)+(cD l[i].els:Int))=(jY l (i+1):Int):=by rw[al (by omega) (by omega)];omega
   simp-implicitDefEqProofs[w1',w2']
   exact⟨i+1,h,by omega,aK rfl (by simp[below,hsl,w1 (i:=i) (by omega)])⟩
  ·simp at h
   rw[List.take_of_length_le h] at k0
   have:jY l i=cD l:=by omega
   simp-implicitDefEqProofs[this]
theorem bV:∀{l:List Fd} {f:Fd},f∈l→f.sz≤bn l
 |x::r,e,h=>by
  simp only[bn,List.map_cons,List.sum_cons]
  rcases List.mem_cons.1 h with rfl|h
  ·omega
  ·have:=bV h;simp only[bn] at this;omega
theorem bK:∀l:List Fd,l.length≤bn l
 |[]=>Nat.le_refl _
 |e::r=>by have:=bK r;simp only[bn,List.map_cons,List.sum_cons,List.length_cons] at this⊢;have:1≤e.sz:=by unfold Fd.sz;omega
           omega
def vS(l:List Fd)(i:Nat):Nat:=iq (l.take i)
theorem Ea{l:List Fd}{i:Nat}(h:i<l.length):vS l (i+1)=vS l i+cD l[i].body:=by
 rw[vS,vS,iq,iq,ah h,List.map_append,List.sum_append];simp
theorem yp:∀l:List Fd,iq l≤bn l
 |[]=>Nat.le_refl _
 |f::r=>by
  have:=yp r
  have h2:=nT f.body
  simp only[iq,bn,List.map_cons,List.sum_cons] at this⊢
  have:aD f.body≤f.sz:=by unfold Fd.sz;omega
  omega
theorem IO(l:List Fd)(i:Nat):vS l i≤bn l:=by
 have h1:=yp (l.take i)
 have h2:bn (l.take i)≤bn l:=by
  have:bn l=bn (l.take i)+bn (l.drop i):=by
   rw[←List.take_append_drop i l,bn,List.map_append,List.sum_append];simp[bn]
  omega
 exact Nat.le_trans h1 h2
theorem Iy(l:List Fd)(hl:bn l≤1099511627776):VF Tryz.prog G lK [.agg [.p (fdL l)]] (.p (.int .i64 (iq l))):=by
 refine AC.go yr ?_
 have hll:=bK l
 have hfl:∀l,fdL l= .lst 3 (l.map Fd.cs):=fun _=>rfl
 simp-implicitDefEqProofs[qZ]
 refine aF (fun i:Nat=>aj 22 [(1,.ptr 0 1 0 0),(3,.p (.int .i64 (vS l i))),(4,.p (.int .i64 i))]) (fun _=>[.row 1 [[.p (fdL l)]]]) (fun i=>i≤l.length) (fun i=>l.length-i) 0 (by simp) (aa (by simp) (by simp[okO]) (by simp[below,vS,iq])) ?_
 intro i hi
 simp-implicitDefEqProofs[hfl]
 refine bh (fun h=>?_) (fun h=>?_)
 ·simp at h
  have hg:=List.getElem?_eq_getElem h
  have hks:=bV (List.getElem_mem h)
  have hse:l[i].sz=1+l[i].name.length+(l[i].params.length+(l[i].params.map List.length).sum)+aD l[i].body:=rfl
  have hce:l[i].cs=[.str l[i].name,aN l[i].params,smL l[i].body]:=rfl
  have k1:=Ea h
  have k2:=IO l (i+1)
  simp-implicitDefEqProofs[hg,hce]
  refine(Dh G _ l[i].body (Nat.le_refl _) (by omega)).use ?_
  have w1':IntKind.i64.wrap ((vS l i:Int)+(cD l[i].body:Int))=(vS l (i+1):Int):=by rw[al (by omega) (by omega)];omega
  simp-implicitDefEqProofs[w1']
  exact⟨i+1,h,by omega,aa (by simp) (by simp[okO]) (by simp[below,w1 (i:=i) (by omega),hfl])⟩
 ·simp at h
  have:vS l i=iq l:=by rw[vS,List.take_of_length_le h]
  simp-implicitDefEqProofs[this]
theorem tT(l:List Fd)(hl:bn l≤1099511627776):VF Tryz.prog G fe [.agg [.p (fdL l)]] (.p (.bool (bH l))):=by
 refine AC.go oX ?_
 have hfl:∀l,fdL l= .lst 3 (l.map Fd.cs):=fun _=>rfl
 have hall:=Iy G l hl
 have hll:=bK l
 rw[hfl] at hall
 simp-implicitDefEqProofs[iS,hfl]
 refine(mF G _ _ _).use ?_
 by_cases h1:inR l.length 1 4=true
 case neg=>simp-implicitDefEqProofs[h1,bH]
 simp-implicitDefEqProofs[h1]
 refine aF (fun i:Nat=>aj 26 [(1,.ptr 0 1 0 0),(3,.p (.int .i64 i))]) (fun _=>[.row 1 [[.p (.lst 3 (l.map Fd.cs))]]]) (fun i=>i≤l.length∧(l.take i).all gv=true) (fun i=>l.length-i) 0 (by simp) (aa (by simp) (by simp[okO]) (by simp[below])) ?_
 intro i ⟨hi,ha⟩
 simp-implicitDefEqProofs[]
 refine bh (fun h=>?_) (fun h=>?_)
 ·simp at h
  have hg:=List.getElem?_eq_getElem h
  have hks:=bV (List.getElem_mem h)
  simp-implicitDefEqProofs[hg]
  refine(JZ G l[i] (by omega)).use ?_
  by_cases hk:gv l[i]=true
  ·simp-implicitDefEqProofs[hk]
   exact⟨i+1,⟨h,by rw[←List.all_eq_true,dv h,ha,hk];rfl⟩,by omega,aa (by simp) (by simp[okO]) (by simp[below,w1 (i:=i) (by omega)])⟩
  ·have hk':gv l[i]=false:=by simpa using hk
   have hff:bH l=false:=by simp only[bH,kj h hk',Bool.and_false,Bool.false_and]
   simp-implicitDefEqProofs[hk',hff]
 ·simp at h
  have h2:l.all gv=true:=fp h ha
  simp-implicitDefEqProofs[]
  refine hall.use ?_
  have hff:bH l=decide (iq l≤40):=by simp only[bH,h1,h2,Bool.true_and]
  simp-implicitDefEqProofs[hff]
  omega
end Go.Proofs.YtaopbokndkdieaaGreatDoor
namespace Go.Proofs.YtaopbokndkdieaaGreatDoor
open Go Go.Aw
set_option maxRecDepth 100000
set_option maxHeartbeats 4000000
theorem fg{n:Nat}{h h1:List AO}(e:h.take n=h1)(hn:h1.length=n)(ho:∀o∈h1,okO n o):Fst n h h1:=by
 have hl:n≤h.length:=by
  have:=congrArg List.length e
  rw[List.length_take] at this;omega
 have hg:∀(i:Nat) (o:AO),h1[i]?=some o→h[i]?=some o:=fun i o hi=>by
  have h2:=(List.getElem?_eq_some_iff.1 hi).1
  rw[←e,List.getElem?_take_of_lt (by omega)] at hi
  exact hi
 exact⟨hn,hl,fun i sz es hi=>⟨hg _ _ hi,ho _ (List.mem_of_getElem? hi)⟩,fun i es hi=>⟨hg _ _ hi,ho _ (List.mem_of_getElem? hi)⟩,fun i s p hi=>hg _ _ hi⟩
theorem xa:∀(r:List AO) (s:Nat),((iM (List.range' s r.length++[0]) (r++[.dead])).Nodup∧∀i∈iM (List.range' s r.length++[0]) (r++[.dead]),s≤i)
 |[],s=>by simp[iM]
 |o::r,s=>by
  obtain⟨h1,h2⟩:=xa r (s+1)
  rw[List.length_cons,List.range'_succ]
  cases o with
  |dead=>exact⟨h1,fun i hi=>Nat.le_of_succ_le (h2 i hi)⟩
  |_=>exact⟨List.nodup_cons.2 ⟨fun hm=>absurd (h2 _ hm) (by omega),h1⟩,fun i hi=>by
   rcases List.mem_cons.1 hi with rfl|hi
   ·exact Nat.le_refl _
   ·exact Nat.le_of_succ_le (h2 i hi)⟩
theorem yQ{h:List AO}(hp:0<h.length)(ho:∀o∈h,okO h.length o):∀(r:List AO) (s:Nat),(∀i:Nat,r[i]?=h[s+i]?)→s+r.length=h.length→HW (List.range' 0 h.length++[0]) h (List.range' s r.length++[0]) (r++[.dead])
 |[],s,_,_=>hU hp bj
 |o::r,s,hr,hs=>by
  have hσ:∀i,i<h.length→(List.range' 0 h.length++[0]).getD i 0=i:=fun i hi=>by
   rw[List.getD_eq_getElem?_getD,List.getElem?_append_left (by simp;exact hi)];simp[hi]
  rw[List.length_cons,List.range'_succ]
  have h0:=hr 0
  have ih:=yQ hp ho r (s+1) (fun i=>by have:=hr (i+1);rw[List.getElem?_cons_succ] at this;rw[this];congr 1;omega) (by simp at hs;omega)
  have hm:h[s]?=some o:=by simpa using h0.symm
  have hok:=ho o (List.mem_of_getElem? hm)
  cases o with
  |dead=>exact hU (List.getElem?_eq_some_iff.1 hm).1 ih
  |row sz es=>
   refine lV (fun x hx=>aT (by simp) _ (hok x hx)) ?_ ih
   rw[hm,List.map_congr_left (g:=id) fun x hx=>mU hσ x (hok x hx)];simp
  |mp es=>exact⟨(List.getElem?_eq_some_iff.1 hm).1,⟨fun x hx=>by exact(aT (by simp) [x.2] ⟨hok x hx,trivial⟩).1,by rw[hm,List.map_congr_left (g:=id) fun x hx=>by rw[iY hσ x.2 (hok x hx)];rfl];simp⟩,ih⟩
  |sit s p=>exact⟨(List.getElem?_eq_some_iff.1 hm).1,hm,ih⟩
theorem Ah{m:Nat}{l:List (Nat × AV)}:∀r:List (Nat × AV),FgA m l r→TWA (List.range' 0 m++[0]) l r
 |[],_=>trivial
 |x::r,⟨⟨a,c⟩,d⟩=>by
  have hσ:∀i,i<m→(List.range' 0 m++[0]).getD i 0=i:=fun i hi=>by
   rw[List.getD_eq_getElem?_getD,List.getElem?_append_left (by simp;exact hi)];simp[hi]
  exact⟨⟨(aT (by simp) [x.2] ⟨a,trivial⟩).1,by rw[iY hσ _ a,c]⟩,Ah r d⟩
theorem iA{k n:Nat}{l l1:List (Nat × AV)}{h:List AO}(hk:k≤h.length)(hp:0<h.length)(ho:∀o∈h,okO h.length o)(H:FgA h.length l l1):Wk k (aj n l) h (aj n l1) (h++[.dead]):=by
 have hσ:∀i,i<h.length→(List.range' 0 h.length++[0]).getD i 0=i:=fun i hi=>by
  rw[List.getD_eq_getElem?_getD,List.getElem?_append_left (by simp;exact hi)];simp[hi]
 refine Ct (List.range' 0 h.length++[0]) (by simp;omega) (fun i hi=>hσ i (by omega)) ?_ ?_ (Ah _ H)
 ·exact(xa h 0).1
 ·exact yQ hp ho h 0 (fun i=>by simp) (by simp)
def bT(fns:List Fd):List (List AV):=fns.map fun f=>f.cs.map .p
theorem gN(fns:List Fd):∀x∈bT fns,af 0 x:=by
 intro x hx;obtain⟨m,_,rfl⟩:=List.mem_map.1 hx;simp
theorem bN{n:Nat}{o:AO}(h:okO 0 o):okO n o:=by
 cases o with
 |dead=>trivial
 |sit=>trivial
 |row sz es=>exact fun e he=>aT (Nat.zero_le _) _ (h e he)
 |mp es=>exact fun e he=>(aT (Nat.zero_le n) [e.2] ⟨h e he,trivial⟩).1
def exR(l:List Ex):List (List AV):=l.map fun e=>e.cs.map .p
theorem jB(l:List Ex):∀x∈exR l,af 0 x:=by
 intro x hx;obtain⟨m,_,rfl⟩:=List.mem_map.1 hx;simp
def smR(l:List Sm):List (List AV):=l.map fun s=>s.cs.map .p
theorem aO(l:List Sm):∀x∈smR l,af 0 x:=by
 intro x hx;obtain⟨m,_,rfl⟩:=List.mem_map.1 hx;simp
theorem iW(l:List Sm):(smR l).length=l.length:=by simp[smR]
theorem rr(a b:List Sm):smR (a++b)=smR a++smR b:=by simp[smR]
theorem lg{h:List AO}{id:Nat}{l:List Sm}(e:h[id]?=some (.row 5 (smR l))):View h (.sl id 5 0 l.length) (smL l):=by
 have:=gb (h:=h) (id:=id) (sz:=5) (n:=l.length) (ls:=l.map Sm.cs) (by rw[e,smR];simp) (by simp) (fun x hx=>by obtain⟨b,_,rfl⟩:=List.mem_map.1 hx;exact b.cs_len)
 exact this
theorem dQ{n:Nat}:∀o∈([]:List AO),okO n o:=fun o h=>by cases h
theorem ag{n:Nat}{a:AO}{l:List AO}(h:okO n a)(r:∀o∈l,okO n o):∀o∈a::l,okO n o:=fun o ho=>by
 rcases List.mem_cons.1 ho with rfl|ho
 ·exact h
 ·exact r o ho
end Go.Proofs.YtaopbokndkdieaaGreatDoor
namespace Go.Proofs.YtaopbokndkdieaaGreatDoor
open Go Go.Aw
set_option maxRecDepth 100000
set_option maxHeartbeats 4000000
variable (G:aI)
theorem nI(n lo hi:Int):VF Tryz.prog G dw [.p (.int .i64 n),.p (.int .i64 lo),.p (.int .i64 hi)] (.p (.bool (inR n lo hi))):=by
 refine AC.go wg ?_
 by_cases h:lo≤n
 ·simp-implicitDefEqProofs[kJ,h,inR]
 ·simp-implicitDefEqProofs[kJ,h,inR]
theorem Gx(n:Int):VF Tryz.prog G gZ [.p (.int .i64 n)] (.p (.bool (inR n 0 255))):=by
 refine AC.go wa ?_
 simp-implicitDefEqProofs[pw]
 refine(nI G _ _ _).use ?_
 simp-implicitDefEqProofs[]
theorem BS(n:Int):VF Tryz.prog G dh [.p (.int .i32 n)] (.p (.bool (decide (n<97)||decide (122<n)))):=by
 refine AC.go tA ?_
 simp-implicitDefEqProofs[mg]
 by_cases h:n<97
 ·simp-implicitDefEqProofs[h]
 ·simp-implicitDefEqProofs[h]
theorem IP{s:List UInt8}{i:Nat}(h:i<s.length)(hl:dP s[i]=true):Utf8.decode ⟨⟨s⟩⟩ i=(s[i].toNat,1):=by
 simp only[dP,Bool.and_eq_true,decide_eq_true_eq] at hl
 exact decode_ascii ⟨⟨s⟩⟩ i h (by show(s[i]).toNat<128;omega)
theorem Ef{s:List UInt8}{i:Nat}(h:i<s.length)(hl:¬dP s[i]=true):(((Utf8.decode ⟨⟨s⟩⟩ i).1:Int)<97∨122<((Utf8.decode ⟨⟨s⟩⟩ i).1:Int)):=by
 rcases Nat.lt_or_ge s[i].toNat 128 with h1|h1
 ·rw[show Utf8.decode ⟨⟨s⟩⟩ i=(s[i].toNat,1) from decode_ascii ⟨⟨s⟩⟩ i h h1]
  simp[dP] at hl
  simp only
  omega
 ·have:=(decode_high ⟨⟨s⟩⟩ i h h1).1
  omega
theorem Af(s:List UInt8)(hb:s.length≤140737488355328):VF Tryz.prog G eU [.p (.str s),.fn (.func dh) [],.p (.bool true)] (.p (.int .i64 (yE s))):=by
 refine AC.go oW ?_
 simp-implicitDefEqProofs[iU]
 refine aF (fun i:Nat=>aj 21 [(0,.p (.str s)),(1,.fn (.func dh) []),(2,.p (.bool true)),(10,.it 0)]) (fun i=>[.sit s i]) (fun i=>i≤s.length∧∀x∈s.take i,dP x=true) (fun i=>s.length-i) 0 (by simp) ?_ ?_
 ·exact aa (by simp) (by simp[okO]) (by simp[below,af])
 ·intro i ⟨hi,hn⟩
  simp-implicitDefEqProofs[]
  by_cases h1:i<s.length
  ·have hg:=List.getElem?_eq_getElem h1
   simp-implicitDefEqProofs[h1]
   refine(BS G _).use ?_
   by_cases hl:dP s[i]=true
   ·have hd:=IP h1 hl
    have hl':=hl
    simp only[dP,Bool.and_eq_true,decide_eq_true_eq] at hl'
    have e1:¬((s[i].toNat:Int)<97):=by omega
    have e2:¬(122<(s[i].toNat:Int)):=by omega
    rw[hd]
    simp-implicitDefEqProofs[e1,e2]
    refine⟨i+1,⟨h1,fun p hp=>?_⟩,by omega,aa (by simp) (by simp[okO]) (by simp[below,af])⟩
    rw[ah h1] at hp
    rcases List.mem_append.1 hp with hp|hp
    ·exact hn p hp
    ·rw[List.mem_singleton.1 hp];exact hl
   ·have hd:=Ef h1 hl
    have hf:yE s=i:=by
     have:s.findIdx? (fun x=> !dP x)=some i:=by
      rw[List.findIdx?_eq_some_iff_getElem]
      exact⟨h1,by simpa using hl,fun j hj=>by have:=hn s[j] (List.mem_take_iff_getElem.2 ⟨j,by omega,rfl⟩);simpa using this⟩
     rw[yE,this]
    have hdb:(decide (((Utf8.decode ⟨⟨s⟩⟩ i).1:Int)<97)||decide (122<((Utf8.decode ⟨⟨s⟩⟩ i).1:Int)))=true:=by
     rcases hd with h|h<;>simp[h]
    rw[hdb]
    simp-implicitDefEqProofs[hf]
  ·have hn':=hn
   rw[List.take_of_length_le (by omega)] at hn'
   have hf:yE s= -1:=by
    have:s.findIdx? (fun x=> !dP x)=none:=by
     rw[List.findIdx?_eq_none_iff];intro x hx;simpa using hn' x hx
    rw[yE,this]
   simp-implicitDefEqProofs[h1,hf]
theorem zo(s:List UInt8)(hb:s.length≤140737488355328):VF Tryz.prog G ff [.p (.str s),.fn (.func dh) []] (.p (.int .i64 (yE s))):=by
 refine AC.go oR ?_
 simp-implicitDefEqProofs[iQ]
 refine(Af G s hb).use ?_
 simp-implicitDefEqProofs[]
theorem Iz(L:List (List UInt8))(s:List UInt8)(hb:L.length≤1048576):VF Tryz.prog G eg [.p (aN L),.p (.str s)] (.p (.int .i64 (idxS L s))):=by
 refine AC.go mt ?_
 have hsl:aN L= .lst 1 (L.map fun w=>[.str w]):=rfl
 simp-implicitDefEqProofs[gD,hsl]
 refine aF (fun i:Nat=>aj 19 [(0,.p (aN L)),(1,.p (.str s)),(6,.p (aN L)),(7,.p (.int .i64 L.length)),(8,.p (.int .i64 i))]) (fun _=>[]) (fun i=>i≤L.length∧∀w∈L.take i,w≠s) (fun i=>L.length-i) 0 (by simp) ?_ ?_
 ·exact aK rfl (by simp[below,aN])
 ·intro i ⟨hi,hn⟩
  simp-implicitDefEqProofs[hsl]
  refine bh (fun h1=>?_) (fun h1=>?_)
  ·simp at h1
   have hg:=List.getElem?_eq_getElem h1
   by_cases he:L[i]=s
   ·have hf:idxS L s=i:=by
     have:L.findIdx? (fun w=>w==s)=some i:=by
      rw[List.findIdx?_eq_some_iff_getElem]
      exact⟨h1,by simpa using he,fun j hj=>by have:=hn L[j] (List.mem_take_iff_getElem.2 ⟨j,by omega,rfl⟩);simpa using this⟩
     rw[idxS,this]
    have he':s=L[i]:=he.symm
    simp-implicitDefEqProofs[hg,hf,←he']
   ·have he':¬s=L[i]:=fun e=>he e.symm
    simp-implicitDefEqProofs[hg,he']
    refine⟨i+1,⟨h1,fun p hp=>?_⟩,by omega,aK rfl ?_⟩
    ·rw[ah h1] at hp
     rcases List.mem_append.1 hp with hp|hp
     ·exact hn p hp
     ·rw[List.mem_singleton.1 hp];exact he
    ·simp[below,aN,w1 (i:=i) (by omega)]
  ·simp at h1
   rw[List.take_of_length_le h1] at hn
   have hf:idxS L s= -1:=by
    have:L.findIdx? (fun w=>w==s)=none:=by
     rw[List.findIdx?_eq_none_iff];intro x hx;simpa using hn x hx
    rw[idxS,this]
   simp-implicitDefEqProofs[hf]
theorem Cg(L:List (List UInt8))(s:List UInt8)(hb:L.length≤1048576):VF Tryz.prog G dr [.p (aN L),.p (.str s)] (.p (.bool (L.contains s))):=by
 rw[←FJ]
 refine AC.go kD ?_
 simp-implicitDefEqProofs[fv]
 refine(Iz G L s hb).use ?_
 simp-implicitDefEqProofs[]
abbrev dI:Nat:=0
def dy:List PV:=keyW.map .str
variable (hK:G dI=some dy)
include hK
theorem nz(s:List UInt8)(hb:s.length≤140737488355328):VF Tryz.prog G bF [.p (.str s)] (.p (.bool (aH s))):=by
 refine AC.go wK ?_
 unfold dI at hK
 simp-implicitDefEqProofs[pC]
 refine(nI G _ _ _).use ?_
 have hr:inR (s.length:Int) 1 4=(decide (0<s.length)&&decide (s.length≤4)):=by
  unfold inR
  by_cases h1:0<s.length<;>by_cases h2:s.length≤4<;>simp[h1,h2]<;>omega
 rw[hr]
 have hi:aH s=((decide (0<s.length)&&decide (s.length≤4))&&(s.all dP&& !keyW.contains s)):=by
  rw[aH];cases s.all dP<;>cases decide (0<s.length)<;>cases decide (s.length≤4)<;>rfl
 cases h1:(decide (0<s.length)&&decide (s.length≤4)) with
 |false=>
  rw[hi,h1]
  simp-implicitDefEqProofs[]
 |true=>
  rw[hi,h1]
  simp-implicitDefEqProofs[]
  refine(zo G s hb).use ?_
  rw[←Fs]
  by_cases hn:yE s<0
  ·simp-implicitDefEqProofs[hn,hK,dy,keyW]
   refine(Cg G keyW s (by decide)).use ?_
   simp-implicitDefEqProofs[keyW]
  ·simp-implicitDefEqProofs[hn]
end Go.Proofs.YtaopbokndkdieaaGreatDoor
namespace Go.Proofs.YtaopbokndkdieaaGreatDoor
open Go Go.Aw
set_option maxRecDepth 100000
set_option maxHeartbeats 4000000
def K_impl_exprSize:AK:= .seq (.reg [oJ 2 (.box 4 (.t 0)),oK 4 0,oK 5 0,oJ 6 (.mov (.c (.p (.bool false))))]) (.seq (.reg [oK 7 0,oK 8 0]) (.cut (.blk 0 (.seq (.reg [oF 17 0 2,oL 18 17,oJ 19 (.bin .eql (.t 18) (.c (.p (.int .i64 1)))),oM 16 19]) (.cond (.t 16) (.seq (.reg [oF 20 1 2,oL 21 20,oJ 22 (.call gZ [(.t 21)]),oJ 23 (.not (.t 22)),oM 24 23,⟨(some 25),some (24,false),.fldA 2 (.t 2)⟩,⟨(some 26),some (24,false),.ld none (.t 25)⟩,⟨(some 27),some (24,false),.bins .neq (.t 26) (.c (.p (.str [])))⟩,oJ 28 (.pick (.t 24) (.c (.p (.bool true))) (.t 27))]) (.cond (.t 28) (.seq (.reg [oK 4 0,oK 5 0,oJ 6 (.mov (.c (.p (.bool false))))]) (.ret)) (.skip))) (.seq (.reg [oF 30 0 2,oL 31 30,oJ 32 (.bin .eql (.t 31) (.c (.p (.int .i64 2)))),oM 29 32]) (.cond (.t 29) (.seq (.reg [oF 33 2 2,oL 34 33,oJ 35 (.call bF [(.t 34)]),oJ 36 (.not (.t 35)),oM 37 36,⟨(some 38),some (37,false),.fldA 1 (.t 2)⟩,⟨(some 39),some (37,false),.ld none (.t 38)⟩,⟨(some 40),some (37,false),.bin .neq (.t 39) (.c (.p (.int .i64 0)))⟩,oJ 41 (.pick (.t 37) (.c (.p (.bool true))) (.t 40))]) (.cond (.t 41) (.seq (.reg [oK 4 0,oK 5 0,oJ 6 (.mov (.c (.p (.bool false))))]) (.ret)) (.skip))) (.seq (.reg [oF 43 0 2,oL 44 43,oJ 45 (.bin .eql (.t 44) (.c (.p (.int .i64 13)))),oM 42 45]) (.cond (.t 42) (.seq (.reg [oK 8 3]) (.seq (.reg [oF 46 2 2,oL 47 46,oJ 48 (.call bF [(.t 47)]),oJ 49 (.not (.t 48)),oM 50 49,⟨(some 51),some (50,false),.fldA 1 (.t 2)⟩,⟨(some 52),some (50,false),.ld none (.t 51)⟩,⟨(some 53),some (50,false),.bin .neq (.t 52) (.c (.p (.int .i64 0)))⟩,oJ 54 (.pick (.t 50) (.c (.p (.bool true))) (.t 53))]) (.cond (.t 54) (.seq (.reg [oK 4 0,oK 5 0,oJ 6 (.mov (.c (.p (.bool false))))]) (.ret)) (.skip)))) (.seq (.reg [oJ 56 (.ld none (.c (.gp 1 0))),oF 57 0 2,oL 58 57,oJ 59 (.lk 0 (.agg [(.p (.str [])),(.p (.int .i64 0))]) false (.t 56) (.t 58)),oJ 60 (.fldv 1 none (.t 59)),oJ 61 (.bin .gtr (.t 60) (.c (.p (.int .i64 0)))),oM 55 61]) (.cond (.t 55) (.reg [oK 7 2,oK 8 2]) (.seq (.reg [oF 63 0 2,oL 64 63,oJ 65 (.bin .eql (.t 64) (.c (.p (.int .i64 11)))),oM 66 65,⟨(some 67),some (66,false),.fldA 0 (.t 2)⟩,⟨(some 68),some (66,false),.ld none (.t 67)⟩,⟨(some 69),some (66,false),.bin .eql (.t 68) (.c (.p (.int .i64 12)))⟩,oJ 70 (.pick (.t 66) (.c (.p (.bool true))) (.t 69)),oM 62 70]) (.cond (.t 62) (.reg [oK 7 1,oK 8 1]) (.seq (.reg [oK 4 0,oK 5 0,oJ 6 (.mov (.c (.p (.bool false))))]) (.ret))))))))))))) (.cut (.seq (.reg [oF 71 0 2,oL 72 71,oJ 73 (.call gu [(.t 72)]),oJ 74 (.bin .lss (.t 73) (.c (.p (.int .i64 6)))),oM 75 74,⟨(some 76),some (75,true),.fldA 1 (.t 2)⟩,⟨(some 77),some (75,true),.ld none (.t 76)⟩,⟨(some 78),some (75,true),.bin .neq (.t 77) (.c (.p (.int .i64 0)))⟩,⟨(some 79),some (75,true),.mov (.t 78)⟩,⟨(some 80),some (79,false),.fldA 2 (.t 2)⟩,⟨(some 81),some (79,false),.ld none (.t 80)⟩,⟨(some 82),some (79,false),.bins .neq (.t 81) (.c (.p (.str [])))⟩,⟨(some 83),some (75,true),.pick (.t 79) (.c (.p (.bool true))) (.t 82)⟩,oJ 84 (.pick (.t 75) (.t 83) (.c (.p (.bool false)))),oM 85 84,⟨(some 86),some (85,false),.fldA 3 (.t 2)⟩,⟨(some 87),some (85,false),.ld none (.t 86)⟩,⟨(some 88),some (85,false),.len false (.t 87)⟩,⟨(some 89),some (85,false),.mov (.t 7)⟩,⟨(some 90),some (85,false),.mov (.t 8)⟩,⟨(some 91),some (85,false),.call dw [(.t 88),(.t 89),(.t 90)]⟩,⟨(some 92),some (85,false),.not (.t 91)⟩,oJ 93 (.pick (.t 85) (.c (.p (.bool true))) (.t 92)),oM 94 93,⟨(some 95),some (94,false),.mov (.t 1)⟩,⟨(some 96),some (94,false),.bin .lss (.t 95) (.c (.p (.int .i64 1)))⟩,oJ 97 (.pick (.t 94) (.c (.p (.bool true))) (.t 96))]) (.cond (.t 97) (.seq (.reg [oK 4 0,oK 5 0,oJ 6 (.mov (.c (.p (.bool false))))]) (.ret)) (.skip))) (.seq (.reg [oK 9 1,oK 10 1]) (.seq (.seq (.reg [oF 98 3 2,oL 99 98,oJ 100 (.len false (.t 99)),oK 101 0]) (.blk 1 (.loop (.seq (.reg [oJ 102 (.bin .lss (.t 101) (.t 100))]) (.seq (.cond (.t 102) (.skip) (.exit 1)) (.seq (.blk 2 (.seq (.reg [oJ 103 (.idxS 4 (.t 99) (.t 101)),oJ 104 (.ld (some 4) (.t 103)),oJ 12 (.alloc [(.p (.int .i64 0)),(.p (.int .i64 0)),(.p (.str [])),.nils]),⟨none,none,.st 4 (.t 12) (.t 104)⟩]) (.seq (.reg [oJ 106 (.ld (some 4) (.t 12)),oM 107 1,oJ 108 (.bin .sub (.t 107) (.c (.p (.int .i64 1)))),oJ 109 (.call dX [(.t 106),(.t 108)]),oM 105 109,oJ 110 (.ext 0 (.t 105)),oJ 111 (.ext 1 (.t 105)),oJ 112 (.ext 2 (.t 105)),oM 13 110,oM 14 111,oM 15 112]) (.seq (.seq (.reg [oM 113 15,oJ 114 (.not (.t 113))]) (.cond (.t 114) (.seq (.reg [oK 4 0,oK 5 0,oJ 6 (.mov (.c (.p (.bool false))))]) (.ret)) (.skip))) (.seq (.reg [oM 115 9,oM 116 13,oJ 117 (.bin .add (.t 115) (.t 116)),oM 9 117]) (.reg [oM 118 10,oM 119 14,oJ 120 (.bin .add (.t 119) (.c (.p (.int .i64 1)))),oJ 121 (.mx (.t 118) (.t 120)),oM 10 121])))))) (.reg [oJ 122 (.bin .add (.t 101) (.c (.p (.int .i64 1)))),oM 101 122]))))))) (.seq (.reg [oM 123 9,oM 124 10,oM 125 9,oJ 126 (.bin .leq (.t 125) (.c (.p (.int .i64 30)))),oM 4 123,oM 5 124,oM 6 126]) (.ret)))))))
theorem tC:K_impl_exprSize.whole=F_impl_exprSize.ak:=rfl
abbrev bJ:Nat:=1
def opK:List PV:=[.int .i64 3,.int .i64 4,.int .i64 5,.int .i64 6,.int .i64 7,.int .i64 8,.int .i64 9,.int .i64 10]
def opV:List (List PV):=[[.str [43],.int .i64 3],[.str [45],.int .i64 3],[.str [42],.int .i64 4],[.str [47],.int .i64 4],[.str [37],.int .i64 4],[.str [60],.int .i64 2],[.str [61],.int .i64 2],[.str [38],.int .i64 1]]
def lvl(op:Int):Int:=if op=10 then 1 else if op=8 then 2 else if op=9 then 2 else if op=3 then 3 else if op=4 then 3 else 4
def sgB(op:Int):UInt8:=if op=3 then 43 else if op=4 then 45 else if op=5 then 42 else if op=6 then 47 else if op=7 then 37 else if op=8 then 60 else if op=9 then 61 else 38
def sgn(op:Int):Option AV:=if 3≤op∧op≤10 then some (.agg [.p (.str [sgB op]),.p (.int .i64 (lvl op))]) else none
theorem CI(op:Int):(opK.all fun k'=>(keq (.int .i64 op) k').isSome)=true:=by simp[opK,keq]
theorem Cq(op:Int):gq (.int .i64 op) (EH opK opV)=some (sgn op):=by
 by_cases h:3≤op∧op≤10
 ·have h8:op=3∨op=4∨op=5∨op=6∨op=7∨op=8∨op=9∨op=10:=by omega
  rcases h8 with rfl|rfl|rfl|rfl|rfl|rfl|rfl|rfl<;>rfl
 ·have e:sgn op=none:=if_neg h
  have h3:¬op=3:=by omega
  have h4:¬op=4:=by omega
  have h5:¬op=5:=by omega
  have h6:¬op=6:=by omega
  have h7:¬op=7:=by omega
  have h8:¬op=8:=by omega
  have h9:¬op=9:=by omega
  have h10:¬op=10:=by omega
  rw[e]
  simp[opK,opV,EH,gq,keq,h3,h4,h5,h6,h7,h8,h9,h10]
theorem CR(op:Int):0<lvl op:=by
 unfold lvl
 repeat' split
 all_goals omega
theorem KO(op:Int):lvl op<6:=by
 unfold lvl
 repeat' split
 all_goals omega
def lvI(op:Int):Int:=if 3≤op∧op≤10 then lvl op else if op=11∨op=12 then 5 else 6
mutual
def Ex.deep:Ex→Nat
 | .mk _ _ _ k=>1+lf k
def lf:List Ex→Nat
 |[]=>0
 |e::r=>max e.deep (lf r)
end
theorem Ex.deep_eq(e:Ex):e.deep=1+lf e.kids:=by cases e;rfl
theorem zZ:∀a b:List Ex,lf (a++b)=max (lf a) (lf b)
 |[],b=>by simp[lf]
 |e::r,b=>by rw[List.cons_append,lf,lf,zZ r b];omega
mutual
theorem Ex.deep_le:∀e:Ex,e.deep≤e.sz
 | .mk _ _ s k=>by have:=xN k;simp only[Ex.deep,Ex.sz];omega
theorem xN:∀l:List Ex,lf l≤cR l
 |[]=>Nat.le_refl _
 |e::r=>by have:=e.deep_le;have:=xN r;simp only[lf,cR];omega
end
theorem mM{α:Type}{p:α→Bool}{xs:List α}{i:Nat}{c:α}(h:xs[i]?=some c):(xs.take (i+1)).all p=((xs.take i).all p&&p c):=by
 rw[List.take_add_one,h,List.all_append];simp
def okE(m:Nat)(e:Ex):Bool:=aW m e&&decide (e.parts≤30)
def tw:Nat→Ex→Bool
 |0,_=>false
 |m+1,e=>iB e&&e.kids.all (okE m)
theorem fj:∀{l:List Ex} {e:Ex},e∈l→e.parts≤de l
 |x::r,e,h=>by
  simp only[de]
  rcases List.mem_cons.1 h with rfl|h
  ·omega
  ·have:=fj h;omega
theorem Db(m:Nat)(e:Ex):(tw m e&&decide (e.parts≤30))=okE m e:=by
 cases m with
 |zero=>simp[tw,okE,aW]
 |succ m=>
  by_cases hp:e.parts≤30
  ·have h2:e.kids.all (okE m)=e.kids.all (aW m):=by
    rw[Bool.eq_iff_iff,List.all_eq_true,List.all_eq_true]
    refine⟨fun h x hx=>?_,fun h x hx=>?_⟩
    ·have:=h x hx;simp only[okE,Bool.and_eq_true] at this;exact this.1
    ·have h1:=h x hx
     have:=fj hx
     have:=e.parts_eq
     simp only[okE,h1,Bool.true_and]
     simp;omega
   simp[tw,okE,aW,h2]
  ·simp[okE,hp]
theorem Jt(e:Ex):okE 6 e=fF e:=rfl
def szA(m:Nat)(e:Ex):AV:=if tw m e then .tup [.p (.int .i64 e.parts),.p (.int .i64 e.deep),.p (.bool (decide (e.parts≤30)))] else .tup [.p (.int .i64 0),.p (.int .i64 0),.p (.bool false)]
def cI(e:Ex):Bool:=inR e.op 1 13&&(if e.op=1 then inR e.n 0 255&&decide (e.name=[]) else if e.op=2∨e.op=13 then aH e.name&&decide (e.n=0) else true)
def gF(e:Ex):Bool:=(decide (e.op=1∨e.op=2∨e.op=13)||(decide (e.n=0)&&decide (e.name=[])))&&inR e.kids.length (loK e.op) (hiK e.op)
theorem pZ:aH []=false:=rfl
theorem zj(e:Ex):iB e=(cI e&&gF e):=by
 unfold iB cI gF yV
 by_cases h1:e.op=1
 ·simp only[h1]
  cases inR (e.kids.length:Int) (loK 1:Nat) (hiK 1:Nat)<;>by_cases hn:e.name=[]<;>cases h2:inR e.n 0 255<;>simp[hn,pZ,inR]
 by_cases h2:e.op=2
 ·simp only[h2]
  cases inR (e.kids.length:Int) (loK 2:Nat) (hiK 2:Nat)<;>cases hi:aH e.name<;>by_cases hn:e.n=0<;>simp[hn,inR]
 by_cases h3:e.op=13
 ·simp only[h3]
  cases inR (e.kids.length:Int) (loK 13:Nat) (hiK 13:Nat)<;>cases hi:aH e.name<;>by_cases hn:e.n=0<;>simp[hn,inR]
 ·cases inR e.op 1 13<;>cases inR (e.kids.length:Int) (loK e.op:Nat) (hiK e.op:Nat)<;>by_cases hn:e.n=0<;>by_cases hm:e.name=[]<;>simp[h1,h2,h3,hn,hm,pZ,inR]
variable (G:aI) (hK:G dI=some dy) (hS:G bJ=some [.tbl opK opV])
include hS
theorem Ep(op:Int):VF Tryz.prog G gu [.p (.int .i64 op)] (.p (.int .i64 (lvI op))):=by
 refine AC.go vh ?_
 have hall:=CI op
 have hget:=Cq op
 have hS':=hS
 unfold bJ at hS'
 have hlp:=CR op
 by_cases h:3≤op∧op≤10
 ·have e:sgn op=some (.agg [.p (.str [sgB op]),.p (.int .i64 (lvl op))]):=if_pos h
  have e2:lvI op=lvl op:=if_pos h
  rw[e2]
  generalize lvl op=L at*
  simp-implicitDefEqProofs[eA,hS',hall,hget,e,hlp]
 ·have e:sgn op=none:=if_neg h
  by_cases h11:op=11
  ·subst h11;simp-implicitDefEqProofs[eA,hS',hall,hget,e,lvI]
  by_cases h12:op=12
  ·subst h12;simp-implicitDefEqProofs[eA,hS',hall,hget,e,lvI]
  have e2:lvI op=6:=by rw[lvI,if_neg h,if_neg (by simp[h11,h12])]
  simp-implicitDefEqProofs[eA,hS',hall,hget,e,e2,h11,h12]
include hK
theorem Bv:∀(m:Nat) (e:Ex),e.sz≤1073741824→m≤100→VF Tryz.prog G dX [.agg (e.cs.map .p),.p (.int .i64 m)] (szA m e):=by
 intro m
 induction m using Nat.strongRecOn with
 |_ m ih=>
 intro e he hm
 have hec:=e.cs_eq
 have hsz:=e.sz_eq
 have hkl:=aM e.kids
 have hS':=hS
 unfold bJ at hS'
 have hall:=CI e.op
 have hget:=Cq e.op
 have hxl:exL e.kids= .lst 4 (e.kids.map Ex.cs):=rfl
 have hbad:(cI e&&gF e&&decide (1≤m))=false→szA m e= .tup [.p (.int .i64 0),.p (.int .i64 0),.p (.bool false)]:=by
  intro h
  have:tw m e=false:=by
   cases m with
   |zero=>rfl
   |succ m=>rw[tw,zj];simp at h;cases h1:cI e<;>cases h2:gF e<;>simp[h1,h2] at h⊢
  rw[szA,this];rfl
 have hb1:cI e=false→szA m e= .tup [.p (.int .i64 0),.p (.int .i64 0),.p (.bool false)]:=fun h=>hbad (by rw[h];rfl)
 refine AC.goK tr tC ?_
 simp-implicitDefEqProofs[K_impl_exprSize,F_impl_exprSize,hec]
 refine pJ (fun _:Unit=>aj 127 [(1,.p (.int .i64 m)),(2,.ptr 0 4 0 0),(7,.p (.int .i64 (loK e.op))),(8,.p (.int .i64 (hiK e.op)))]) (fun _=>[.row 4 [[.p (.int .i64 e.op),.p (.int .i64 e.n),.p (.str e.name),.p (exL e.kids)]]]) (fun _=>cI e=true) ?_ ?_
 ·have fin:∀(r1:List (Nat × AV)),Aw.look r1 1= .p (.int .i64 m)→Aw.look r1 2= .ptr 0 4 0 0→Aw.look r1 7= .p (.int .i64 (loK e.op))→Aw.look r1 8= .p (.int .i64 (hiK e.op))→
   Wk 0 (aj 127 r1) [.row 4 [[.p (.int .i64 e.op),.p (.int .i64 e.n),.p (.str e.name),.p (exL e.kids)]]] (aj 127 [(1,.p (.int .i64 m)),(2,.ptr 0 4 0 0),(7,.p (.int .i64 (loK e.op))),(8,.p (.int .i64 (hiK e.op)))]) [.row 4 [[.p (.int .i64 e.op),.p (.int .i64 e.n),.p (.str e.name),.p (exL e.kids)]]]:=fun r1 a b c d=>
   aa (by simp) (by simp[okO,below]) (by simp[below,a,b,c,d])
  have hop1:inR (1:Int) 1 13=true:=rfl
  have hop2:inR (2:Int) 1 13=true:=rfl
  have hop13:inR (13:Int) 1 13=true:=rfl
  by_cases o1:e.op=1
  ·rw[o1] at fin⊢
   simp-implicitDefEqProofs[o1]
   refine(Gx G _).use ?_
   by_cases h1:inR e.n 0 255=true
   ·by_cases h2:e.name=[]
    ·have hp:cI e=true:=by simp[cI,o1,h1,h2,hop1]
     rw[h2] at fin
     simp-implicitDefEqProofs[h1,h2,hp]
     exact fin _ (by simp) (by simp) (by simp[loK]) (by simp[hiK])
    ·have hp:cI e=false:=by simp[cI,o1,h1,h2,hop1]
     rw[hb1 hp]
     simp-implicitDefEqProofs[h1,h2]
   ·have hp:cI e=false:=by simp[cI,o1,h1,hop1]
    rw[hb1 hp]
    simp-implicitDefEqProofs[h1]
  by_cases o2:e.op=2
  ·rw[o2] at fin⊢
   simp-implicitDefEqProofs[o2]
   refine(nz G hK _ (by omega)).use ?_
   by_cases h1:aH e.name=true
   ·by_cases h2:e.n=0
    ·have hp:cI e=true:=by simp[cI,o2,h1,h2,hop2]
     rw[h2] at fin
     simp-implicitDefEqProofs[h1,h2,hp]
     exact fin _ (by simp) (by simp) (by simp[loK]) (by simp[hiK])
    ·have hp:cI e=false:=by simp[cI,o2,h1,h2,hop2]
     rw[hb1 hp]
     simp-implicitDefEqProofs[h1,h2]
   ·have hp:cI e=false:=by simp[cI,o2,h1,hop2]
    rw[hb1 hp]
    simp-implicitDefEqProofs[h1]
  by_cases o13:e.op=13
  ·rw[o13] at fin⊢
   simp-implicitDefEqProofs[o13]
   refine(nz G hK _ (by omega)).use ?_
   by_cases h1:aH e.name=true
   ·by_cases h2:e.n=0
    ·have hp:cI e=true:=by simp[cI,o13,h1,h2,hop13]
     rw[h2] at fin
     simp-implicitDefEqProofs[h1,h2,hp]
     exact fin _ (by simp) (by simp) (by simp[loK]) (by simp[hiK])
    ·have hp:cI e=false:=by simp[cI,o13,h1,h2,hop13]
     rw[hb1 hp]
     simp-implicitDefEqProofs[h1,h2]
   ·have hp:cI e=false:=by simp[cI,o13,h1,hop13]
    rw[hb1 hp]
    simp-implicitDefEqProofs[h1]
  have hlp:=CR e.op
  by_cases h:3≤e.op∧e.op≤10
  ·have es:sgn e.op=some (.agg [.p (.str [sgB e.op]),.p (.int .i64 (lvl e.op))]):=if_pos h
   have hp:cI e=true:=by simp[cI,o1,o2,o13,inR];omega
   have o11:¬e.op=11:=by omega
   have o12:¬e.op=12:=by omega
   have elo:loK e.op=2:=by simp[loK,o1,o2,o11,o12,o13]
   have ehi:hiK e.op=2:=by simp[hiK,o1,o2,o11,o12,o13]
   generalize lvl e.op=L at*
   simp-implicitDefEqProofs[o1,o2,o13,hS',hall,hget,es,hlp,hp]
   exact fin _ (by simp) (by simp) (by simp[elo]) (by simp[ehi])
  have es:sgn e.op=none:=if_neg h
  by_cases o11:e.op=11
  ·have hp:cI e=true:=by simp[cI,o11,inR]
   have elo:loK e.op=1:=by simp[loK,o11]
   have ehi:hiK e.op=1:=by simp[hiK,o11]
   rw[o11] at hall hget es fin
   simp-implicitDefEqProofs[o11,hS',hall,hget,es,hp]
   exact fin _ (by simp) (by simp) (by simp[loK]) (by simp[hiK])
  by_cases o12:e.op=12
  ·have hp:cI e=true:=by simp[cI,o12,inR]
   rw[o12] at hall hget es fin
   simp-implicitDefEqProofs[o12,hS',hall,hget,es,hp]
   exact fin _ (by simp) (by simp) (by simp[loK]) (by simp[hiK])
  ·have hp:cI e=false:=by simp[cI,o1,o2,o13,inR];omega
   rw[hb1 hp]
   simp-implicitDefEqProofs[o1,o2,o13,hS',hall,hget,es,o11,o12]
 intro _ hp
 have hop:1≤e.op∧e.op≤13:=by
  simp only[cI,Bool.and_eq_true,inR,decide_eq_true_eq] at hp
  exact hp.1
 have hb2:gF e=false→szA m e= .tup [.p (.int .i64 0),.p (.int .i64 0),.p (.bool false)]:=fun h=>hbad (by rw[h];simp)
 have hb3:m<1→szA m e= .tup [.p (.int .i64 0),.p (.int .i64 0),.p (.bool false)]:=by
  intro h
  have hd:decide (1≤m)=false:=by simp;omega
  exact hbad (by rw[hd];simp)
 refine pJ (fun _:Unit=>aj 127 [(1,.p (.int .i64 m)),(2,.ptr 0 4 0 0)]) (fun _=>[.row 4 [[.p (.int .i64 e.op),.p (.int .i64 e.n),.p (.str e.name),.p (exL e.kids)]]]) (fun _=>gF e=true∧1≤m) ?_ ?_
 ·have fin:∀(r1:List (Nat × AV)),Aw.look r1 1= .p (.int .i64 m)→Aw.look r1 2= .ptr 0 4 0 0→
   Wk 0 (aj 127 r1) [.row 4 [[.p (.int .i64 e.op),.p (.int .i64 e.n),.p (.str e.name),.p (exL e.kids)]]] (aj 127 [(1,.p (.int .i64 m)),(2,.ptr 0 4 0 0)]) [.row 4 [[.p (.int .i64 e.op),.p (.int .i64 e.n),.p (.str e.name),.p (exL e.kids)]]]:=fun r1 a b=>
   aa (by simp) (by simp[okO,below]) (by simp[below,a,b])
  simp-implicitDefEqProofs[]
  refine(Ep G hS e.op).use ?_
  by_cases ho:e.op=1∨e.op=2∨e.op=13
  ·have hlv:lvI e.op=6:=by
    rw[lvI,if_neg (by omega),if_neg (by omega)]
   have hd:decide (e.op=1∨e.op=2∨e.op=13)=true:=by simpa using ho
   simp-implicitDefEqProofs[hlv,hxl]
   refine(nI G _ _ _).use ?_
   by_cases hk:inR e.kids.length (loK e.op) (hiK e.op)=true
   ·have hr:gF e=true:=by rw[gF,hd,hk];rfl
    by_cases hm1:m<1
    ·have hm1':(m:Int)<1:=by omega
     rw[hb3 hm1]
     simp-implicitDefEqProofs[hk,hm1']
    ·have hm1':¬(m:Int)<1:=by omega
     have hm2:1≤m:=by omega
     simp-implicitDefEqProofs[hk,hm1',hr,hm2]
     exact fin _ (by simp) (by simp)
   ·have hk':inR e.kids.length (loK e.op) (hiK e.op)=false:=by simpa using hk
    have hr:gF e=false:=by rw[gF,hk',Bool.and_false]
    rw[hb2 hr]
    simp-implicitDefEqProofs[hk']
  ·have hlv:lvI e.op<6:=by
    have:=KO e.op
    unfold lvI
    split
    ·exact this
    ·rw[if_pos (by omega)];omega
   have hd:decide (e.op=1∨e.op=2∨e.op=13)=false:=by simpa using ho
   generalize lvI e.op=L at hlv⊢
   by_cases h1:e.n=0
   ·by_cases h2:e.name=[]
    ·have hz:decide (e.n=0)=true∧decide (e.name=[])=true:=by simp[h1,h2]
     simp-implicitDefEqProofs[hlv,h1,h2,hxl]
     refine(nI G _ _ _).use ?_
     rw[h1,h2] at fin
     by_cases hk:inR e.kids.length (loK e.op) (hiK e.op)=true
     ·have hr:gF e=true:=by rw[gF,hd,hk,hz.1,hz.2];rfl
      by_cases hm1:m<1
      ·have hm1':(m:Int)<1:=by omega
       rw[hb3 hm1]
       simp-implicitDefEqProofs[hk,hm1']
      ·have hm1':¬(m:Int)<1:=by omega
       have hm2:1≤m:=by omega
       simp-implicitDefEqProofs[hk,hm1',hr,hm2]
       exact fin _ (by simp) (by simp)
     ·have hk':inR e.kids.length (loK e.op) (hiK e.op)=false:=by simpa using hk
      have hr:gF e=false:=by rw[gF,hk',Bool.and_false]
      rw[hb2 hr]
      simp-implicitDefEqProofs[hk']
    ·have hr:gF e=false:=by rw[gF,hd];simp[h2]
     rw[hb2 hr]
     simp-implicitDefEqProofs[hlv,h1,h2]
   ·have hr:gF e=false:=by rw[gF,hd];simp[h1]
    rw[hb2 hr]
    simp-implicitDefEqProofs[hlv,h1]
 rintro _ ⟨hr,hm1⟩
 have hhd:iB e=true:=by rw[zj,hp,hr];rfl
 obtain⟨m',rfl⟩:∃m',m=m'+1:=⟨m-1,by omega⟩
 have hszO:tw (m'+1) e=e.kids.all (okE m'):=by rw[tw,hhd];rfl
 have hpe:=e.parts_eq
 have hde:=e.deep_eq
 have hpl:=e.parts_le
 have hwm:IntKind.i64.wrap (((m'+1:Nat):Int)-1)=(m':Int):=by rw[al (by omega) (by omega)];omega
 simp-implicitDefEqProofs[hxl]
 refine aF (fun i:Nat=>aj 127 [(1,.p (.int .i64 ((m':Int)+1))),(2,.ptr 0 4 0 0),(9,.p (.int .i64 ((1+de (e.kids.take i):Nat):Int))),(10,.p (.int .i64 ((1+lf (e.kids.take i):Nat):Int))),(99,.p (exL e.kids)),(100,.p (.int .i64 e.kids.length)),(101,.p (.int .i64 i))])
  (fun _=>[.row 4 [[.p (.int .i64 e.op),.p (.int .i64 e.n),.p (.str e.name),.p (exL e.kids)]]]) (fun i=>i≤e.kids.length∧(e.kids.take i).all (okE m')=true) (fun i=>e.kids.length-i) 0 (by simp) ?_ ?_
 ·exact aa (by simp) (by simp[okO,below]) (by simp[below,hxl,de,lf])
 rintro i ⟨hi,ha⟩
 have hwm':IntKind.i64.wrap (m':Int)=(m':Int):=al (by omega) (by omega)
 simp-implicitDefEqProofs[hxl]
 refine bh (fun h=>?_) (fun h=>?_)
 ·simp at h
  have hg:=List.getElem?_eq_getElem h
  have hks:=az (List.getElem_mem h)
  have hkc:=e.kids[i].cs_eq
  have hpt:de (e.kids.take (i+1))=de (e.kids.take i)+e.kids[i].parts:=by rw[ah h,ir];simp[de]
  have hdt:lf (e.kids.take (i+1))=max (lf (e.kids.take i)) e.kids[i].deep:=by rw[ah h,zZ];simp[lf]
  have hpl1:de (e.kids.take (i+1))≤e.parts:=by
   have:=ir (e.kids.take (i+1)) (e.kids.drop (i+1))
   rw[List.take_append_drop] at this
   omega
  have hok:=Db m' e.kids[i]
  have hdl:e.kids[i].deep≤e.kids[i].sz:=Ex.deep_le _
  have hdl2:lf (e.kids.take i)≤e.sz:=by
   have h1:=xN (e.kids.take i)
   have h2:=sC (e.kids.take i) (e.kids.drop i)
   rw[List.take_append_drop] at h2
   omega
  generalize e.kids[i]=c at*
  simp-implicitDefEqProofs[hg,hkc,hwm']
  have hI:=ih m' (by omega) c (by omega) (by omega)
  rw[hkc] at hI
  by_cases ho:okE m' c=true
  ·have h1:tw m' c=true∧c.parts≤30:=by rw[ho] at hok;simpa using hok
   have hA:szA m' c= .tup [.p (.int .i64 c.parts),.p (.int .i64 c.deep),.p (.bool true)]:=by rw[szA,if_pos h1.1];simp[h1.2]
   rw[hA] at hI
   refine hI.use ?_
   have hw1:IntKind.i64.wrap (1+(de (e.kids.take i):Int)+(c.parts:Int))=((1+de (e.kids.take (i+1)):Nat):Int):=by rw[al (by omega) (by omega)];omega
   have hw2:IntKind.i64.wrap ((c.deep:Int)+1)=(c.deep:Int)+1:=al (by omega) (by omega)
   have hmx:(if 1+(lf (e.kids.take i):Int)<(c.deep:Int)+1 then(c.deep:Int)+1 else 1+(lf (e.kids.take i):Int))=1+(lf (e.kids.take (i+1)):Int):=by
    rw[hdt];split<;>omega
   simp-implicitDefEqProofs[hw1,hw2,hmx]
   refine⟨i+1,⟨h,by rw[←List.all_eq_true,mM hg,ha,ho];rfl⟩,by omega,?_⟩
   refine jW (m:=1) (by omega) (fg rfl rfl (by simp[okO,below])) (by simp[below,hxl,w1 (i:=i) (by omega)])
  ·have hf:e.kids.all (okE m')=false:=List.all_eq_false.2 ⟨c,List.mem_of_getElem? hg,by simpa using ho⟩
   have hA2:szA (m'+1) e= .tup [.p (.int .i64 0),.p (.int .i64 0),.p (.bool false)]:=by rw[szA,hszO,hf];rfl
   rw[hA2]
   by_cases h1:tw m' c=true
   ·have h2:¬c.parts≤30:=fun h2=>ho (by rw[←hok,h1];simpa using h2)
    have hA:szA m' c= .tup [.p (.int .i64 c.parts),.p (.int .i64 c.deep),.p (.bool false)]:=by rw[szA,if_pos h1];simp[h2]
    rw[hA] at hI
    refine hI.use ?_
    simp-implicitDefEqProofs[]
   ·have hA:szA m' c= .tup [.p (.int .i64 0),.p (.int .i64 0),.p (.bool false)]:=by rw[szA,if_neg h1]
    rw[hA] at hI
    refine hI.use ?_
    simp-implicitDefEqProofs[]
 ·simp at h
  rw[List.take_of_length_le h] at ha⊢
  have hA:szA (m'+1) e= .tup [.p (.int .i64 e.parts),.p (.int .i64 e.deep),.p (.bool (decide (e.parts≤30)))]:=by rw[szA,hszO,ha];rfl
  rw[hA,hpe,hde]
  simp-implicitDefEqProofs[]
  omega
theorem sI(e:Ex)(he:e.sz≤1073741824):VF Tryz.prog G dM [.agg (e.cs.map .p)] (.p (.bool (fF e))):=by
 refine AC.go sv ?_
 have hec:=e.cs_eq
 have hx:=Bv G hK hS 6 e he (by omega)
 rw[hec] at hx
 simp-implicitDefEqProofs[kV,hec]
 rw[←Jt,←Db]
 unfold szA at hx
 by_cases h:tw 6 e=true
 ·rw[if_pos h] at hx
  rw[h]
  refine hx.use ?_
  simp-implicitDefEqProofs[]
 ·have h':tw 6 e=false:=by simpa using h
  rw[if_neg h] at hx
  rw[h']
  refine hx.use ?_
  simp-implicitDefEqProofs[]
end Go.Proofs.YtaopbokndkdieaaGreatDoor
namespace Go.Proofs.YtaopbokndkdieaaGreatDoor
open Go Go.Aw
set_option maxRecDepth 100000
set_option maxHeartbeats 4000000
theorem cw:∀l:List Ex,aJ l=l.map cm
 |[]=>rfl
 |e::r=>by rw[aJ,cw r];rfl
mutual
def fZ:Sm→Sm
 | .mk o s a bd el=> .mk o s (aJ a) (ay bd) (ay el)
def ay:List Sm→List Sm
 |[]=>[]
 |s::r=>fZ s::ay r
end
theorem fP:∀l:List Sm,ay l=l.map fZ
 |[]=>rfl
 |e::r=>by rw[ay,fP r];rfl
def mh(f:Fd):Fd:=⟨f.name,f.params,ay f.body⟩
def cx(l:List Fd):List Fd:=l.map mh
theorem Ed(l:List Fd):Like l (cx l):=zS l mh (fun _=>rfl) (fun _=>rfl)
def P5(o n:Int)(s:List UInt8)(ks:List Ex)(x:Ex):Prop:=
 x= .mk o n s ks∨(∃q,x=kY q∧((∀a∈ks,a.op=1→V5 a.n)→V5 q))∨(∃a∈ks,x=a)∨∃a∈ks,∃c∈a.kids,x=c
theorem GI{o a b q:Int}(ha:V5 a)(hb:V5 b)(h:ar5 o a b=some q):V5 q:=by
 unfold ar5 at h
 split at h
 ·cases h;exact qP _
 ·exact Dr ha hb h
theorem JF(o n:Int)(s:List UInt8)(a:Ex):P5 o n s [a] (iT o n s a):=by
 unfold iT
 split
 ·exact .inr (.inl ⟨_,rfl,fun _=>qP _⟩)
 ·split
  ·rename_i c hc
   split
   ·exact .inr (.inr (.inr ⟨a,by simp,c,by rw[hc];simp,rfl⟩))
   ·exact .inl rfl
  ·exact .inl rfl
theorem Jp(o n:Int)(s:List UInt8)(a b:Ex):P5 o n s [a,b] (lp o n s a b):=by
 unfold lp
 split
 ·rename_i q hq
  split at hq
  ·rename_i h
   exact .inr (.inl ⟨q,rfl,fun hv=>GI (hv a (by simp) h.1) (hv b (by simp) h.2) hq⟩)
  ·cases hq
 ·split
  ·exact .inr (.inl ⟨0,rfl,fun _=>⟨by omega,by omega⟩⟩)
  ·split
   ·exact .inr (.inr (.inl ⟨a,by simp,rfl⟩))
   ·split
    ·exact .inr (.inr (.inl ⟨b,by simp,rfl⟩))
    ·split
     ·exact .inr (.inl ⟨0,rfl,fun _=>⟨by omega,by omega⟩⟩)
     ·exact .inl rfl
theorem ox(o n:Int)(s:List UInt8)(ks:List Ex):P5 o n s ks (dG o n s ks):=by
 unfold dG
 split
 ·exact .inl rfl
 ·split
  ·exact JF o n s _
  ·exact Jp o n s _ _
  ·exact .inl rfl
theorem qJ{e:Ex}(h:iB e=true):V5 e.n:=by
 simp only[iB,Bool.and_eq_true,inR,decide_eq_true_eq] at h
 exact⟨h.1.2.1,h.1.2.2⟩
theorem eM{d:Nat}{e a:Ex}(h:aW (d+1) e=true)(ha:a∈e.kids):aW d a=true:=by
 rw[aW,Bool.and_eq_true] at h
 exact List.all_eq_true.1 h.2 a ha
theorem gM{d:Nat}{e:Ex}(h:aW d e=true):iB e=true:=by
 cases d with
 |zero=>cases h
 |succ d=>rw[aW,Bool.and_eq_true] at h;exact h.1
theorem mT:∀{d:Nat} {e:Ex},aW d e=true→aW (d+1) e=true
 |0,e,h=>by cases h
 |d+1,e,h=>by
  have h0:=h
  rw[aW,Bool.and_eq_true] at h
  rw[aW,Bool.and_eq_true]
  exact⟨h.1,List.all_eq_true.2 fun a ha=>mT (eM h0 ha)⟩
theorem EB{d:Nat}{q:Int}(h:V5 q):aW (d+1) (kY q)=true:=by
 obtain⟨h0,h1⟩:=h
 have:aH []=false:=by decide
 simp[aW,kY,iB,inR,Ex.op,Ex.kids,Ex.name,Ex.n,loK,hiK,yV,this,h0,h1]
theorem IN{d:Nat}{o n:Int}{s:List UInt8}{ks:List Ex}{x:Ex}(h:aW (d+1) (.mk o n s ks)=true)(hx:P5 o n s ks x):aW (d+1) x=true:=by
 have hk:∀a∈ks,aW d a=true:=fun a ha=>eM h ha
 rcases hx with rfl|⟨q,rfl,hq⟩|⟨a,ha,rfl⟩|⟨a,ha,c,hc,rfl⟩
 ·exact h
 ·exact EB (hq fun a ha _=>qJ (gM (hk a ha)))
 ·exact mT (hk _ ha)
 ·have h1:=hk a ha
  cases d with
  |zero=>cases h1
  |succ d=>exact mT (mT (eM h1 hc))
theorem pP:∀(d:Nat) (e:Ex),aW d e=true→aW d (cm e)=true
 |0,e,h=>by cases h
 |d+1,.mk o n s ks,h=>by
  rw[cm]
  refine IN ?_ (ox o n s (aJ ks))
  rw[aW,Bool.and_eq_true] at h⊢
  refine⟨?_,?_⟩
  ·have h1:=h.1
   simp only[iB,Ex.op,Ex.n,Ex.name,Ex.kids,cw,List.length_map] at h1⊢
   exact h1
  ·have h2:=h.2
   simp only[Ex.kids,cw,List.all_eq_true] at h2⊢
   intro x hx
   obtain⟨e,he,rfl⟩:=List.mem_map.1 hx
   exact pP d e (h2 e he)
theorem Cj{o n:Int}{s:List UInt8}{ks:List Ex}{x:Ex}(hx:P5 o n s ks x):x.parts≤1+de ks:=by
 rcases hx with rfl|⟨q,rfl,hq⟩|⟨a,ha,rfl⟩|⟨a,ha,c,hc,rfl⟩
 ·exact Nat.le_refl _
 ·simp only[kY,Ex.parts,de];omega
 ·have:=fj ha;omega
 ·have h1:=fj ha
  have h2:=fj hc
  have h3:=a.parts_eq
  omega
mutual
theorem pX:∀e:Ex,(cm e).parts≤e.parts
 | .mk o n s ks=>by
   rw[cm,Ex.parts]
   have h1:=Cj (ox o n s (aJ ks))
   have h2:=kS ks
   omega
theorem kS:∀l:List Ex,de (aJ l)≤de l
 |[]=>Nat.le_refl _
 |e::r=>by
  have h1:=pX e
  have h2:=kS r
  rw[aJ,de,de]
  omega
end
theorem Em{e:Ex}(h:fF e=true):fF (cm e)=true:=by
 rw[fF,Bool.and_eq_true,decide_eq_true_eq] at h⊢
 exact⟨pP 6 e h.1,Nat.le_trans (pX e) h.2⟩
theorem chkEs_all{fns:List Fd}{k:Nat}{vs:List LV}:∀{l:List Ex},bg fns k vs l 0=0↔∀e∈l,iy fns k vs e 0=0
 |[]=>by simp[bg]
 |e::r=>by
  rw[bg]
  constructor
  ·intro h
   have h0:=gL h
   rw[h0] at h
   intro x hx
   rcases List.mem_cons.1 hx with rfl|hx
   ·exact h0
   ·exact chkEs_all.1 h x hx
  ·intro h
   rw[h e (by simp)]
   exact chkEs_all.2 fun x hx=>h x (by simp[hx])
theorem chkE_iff{fns:List Fd}{k:Nat}{vs:List LV}{o n:Int}{s:List UInt8}{ks:List Ex}:iy fns k vs (.mk o n s ks) 0=0↔fQ fns k vs o s ks.length 0=0∧∀a∈ks,iy fns k vs a 0=0:=by
 rw[iy]
 constructor
 ·intro h
  have h0:=gL h
  rw[h0] at h
  exact⟨h0,chkEs_all.1 h⟩
 ·rintro⟨h1,h2⟩
  rw[h1]
  exact chkEs_all.2 h2
theorem uA{fns:List Fd}{k:Nat}{vs:List LV}{e a:Ex}(h:iy fns k vs e 0=0)(ha:a∈e.kids):iy fns k vs a 0=0:=by
 obtain⟨o,n,s,ks⟩:=e
 exact(chkE_iff.1 h).2 a ha
theorem Kg{fns:List Fd}{k:Nat}{vs:List LV}{o n:Int}{s:List UInt8}{ks:List Ex}{x:Ex}(h:iy fns k vs (.mk o n s ks) 0=0)(hx:P5 o n s ks x):iy fns k vs x 0=0:=by
 rcases hx with rfl|⟨q,rfl,hq⟩|⟨a,ha,rfl⟩|⟨a,ha,c,hc,rfl⟩
 ·exact h
 ·simp[kY,iy,bg,fQ]
 ·exact uA h ha
 ·exact uA (uA h ha) hc
section
variable {fns fns':List Fd} (hL:Like fns fns')
include hL
theorem AJ(k:Nat)(vs:List LV)(o:Int)(s:List UInt8)(n:Nat)(c:Int):fQ fns' k vs o s n c=fQ fns k vs o s n c:=by
 simp only[fQ,lc,hL.at_,hL.par]
mutual
theorem Ek{k:Nat}{vs:List LV}:∀e:Ex,iy fns k vs e 0=0→iy fns' k vs (cm e) 0=0
 | .mk o n s ks,h=>by
   rw[cm]
   refine Kg ?_ (ox o n s (aJ ks))
   rw[iy] at h⊢
   have h0:=gL h
   rw[h0] at h
   rw[AJ hL,cw,List.length_map,h0,←cw]
   exact qg ks h
theorem qg{k:Nat}{vs:List LV}:∀l:List Ex,bg fns k vs l 0=0→bg fns' k vs (aJ l) 0=0
 |[],_=>rfl
 |e::r,h=>by
  rw[bg] at h
  have h0:=gL h
  rw[h0] at h
  rw[aJ,bg,Ek e h0]
  exact qg r h
end
mutual
theorem FR{k:Nat}:∀(s:Sm) (b:Nat) (w:WS),(stW fns k b s w).code=0→stW fns' k b (fZ s) w=stW fns k b s w
 | .mk o s a bd el,b,w,hz=>by
   rw[stW,eL] at hz
   have z1:=fL hz
   rw[eL] at z1
   have z2:=fL z1
   have z3:bg fns k w.vs a w.code=0:=zJ z2
   have hc0:=gL z3
   have z3':=z3
   rw[hc0] at z3'
   have e1:bg fns' k w.vs (aJ a) w.code=bg fns k w.vs a w.code:=by rw[z3,hc0];exact qg hL a z3'
   rw[fZ,stW,stW]
   simp only[e1]
   rw[om bd _ _ z1,om el _ _ hz]
theorem om{k:Nat}:∀(l:List Sm) (b:Nat) (w:WS),(bA fns k b l w).code=0→bA fns' k b (ay l) w=bA fns k b l w
 |[],b,w,_=>rfl
 |s::r,b,w,hz=>by
  rw[bA] at hz
  rw[ay,bA,bA,FR s b w (fL hz)]
  exact om r b _ hz
end
theorem Hc{k:Nat}{f:Fd}(hz:(fnW fns k f).code=0):(fnW fns' k (mh f)).code=0:=by
 have hat:=Ga hz
 have hat':dk fns' (mh f).name=some k:=by rw[hL.at_];exact hat
 rw[fnW,if_pos hat] at hz
 rw[fnW,if_pos hat']
 show(bA fns' k 0 (ay f.body) (cL f.params ⟨[],0,0⟩)).code=0
 rw[om hL f.body 0 _ hz]
 exact hz
end
mutual
theorem Fz:∀s:Sm,(fZ s).cnt=s.cnt
 | .mk o s a bd el=>by rw[fZ,Sm.cnt,Sm.cnt,nW bd,nW el]
theorem nW:∀l:List Sm,cD (ay l)=cD l
 |[]=>rfl
 |s::r=>by rw[ay,cD,cD,Fz s,nW r]
end
theorem AE(n:Int)(s:List UInt8)(ks:List Ex):dG 13 n s ks= .mk 13 n s ks:=by simp[dG]
theorem Bo{o:Int}{s:List UInt8}{a:List Ex}{bd el:List Sm}(h:er (.mk o s a bd el)=true):er (.mk o s (aJ a) (ay bd) (ay el))=true:=by
 simp only[er,Sm.op,Sm.args,Sm.name,Sm.body,Sm.els,Bool.and_eq_true,Bool.or_eq_true,decide_eq_true_eq,List.isEmpty_iff,Bool.not_eq_true',decide_eq_false_iff_not] at h⊢
 obtain⟨⟨⟨⟨h1,h2⟩,h3⟩,h4⟩,h5⟩:=h
 refine⟨⟨⟨⟨?_,?_⟩,?_⟩,?_⟩,?_⟩
 ·have hl:(aJ a).length=a.length:=by rw[cw,List.length_map]
  obtain⟨⟨⟨g1,g2⟩,g3⟩,g4⟩:=h1
  have g2:a.length=jD o:=of_decide_eq_true g2
  exact⟨⟨⟨g1,decide_eq_true (hl.trans g2)⟩,g3⟩,g4⟩
 ·rw[cw,List.all_eq_true]
  intro x hx
  obtain⟨e,he,rfl⟩:=List.mem_map.1 hx
  exact Em (List.all_eq_true.1 h2 e he)
 ·rcases h3 with h3|h3
  ·exact .inl h3
  ·right
   match a,h3 with
   |e::r,h3=>
    obtain⟨eo,en,es,ek⟩:=e
    have h3:eo=13:=of_decide_eq_true h3
    subst h3
    refine decide_eq_true (show(cm (.mk 13 en es ek)).op=13 from ?_)
    rw[cm,AE];rfl
 ·rcases h4 with h4|h4
  ·exact .inl (by rw[h4];rfl)
  ·exact .inr h4
 ·rcases h5 with(h5|h5)|h5
  ·exact .inl (.inl (by rw[h5];rfl))
  ·exact .inl (.inr h5)
  ·exact .inr h5
theorem qf:∀(d:Nat) (x:Sm),aq d x=true→aq d (fZ x)=true
 |0,x,h=>by cases h
 |d+1,.mk o s a bd el,h=>by
  rw[aq,Bool.and_eq_true,Bool.and_eq_true] at h
  rw[fZ,aq,Bool.and_eq_true,Bool.and_eq_true]
  refine⟨⟨Bo h.1.1,?_⟩,?_⟩
  ·have h2:=h.1.2
   simp only[Sm.body,fP,List.all_eq_true] at h2⊢
   intro x hx
   obtain⟨e,he,rfl⟩:=List.mem_map.1 hx
   exact qf d e (h2 e he)
  ·have h2:=h.2
   simp only[Sm.els,fP,List.all_eq_true] at h2⊢
   intro x hx
   obtain⟨e,he,rfl⟩:=List.mem_map.1 hx
   exact qf d e (h2 e he)
theorem Dn{f:Fd}(h:gv f=true):gv (mh f)=true:=by
 simp only[gv,mh,Bool.and_eq_true] at h⊢
 refine⟨h.1,?_⟩
 have h2:=h.2
 simp only[fP,List.all_eq_true] at h2⊢
 intro x hx
 obtain⟨e,he,rfl⟩:=List.mem_map.1 hx
 exact qf 4 e (h2 e he)
theorem DG(l:List Fd):iq (cx l)=iq l:=by
 simp only[iq,cx,List.map_map]
 congr 1
 exact List.map_congr_left fun f _=>nW f.body
theorem zR{l:List Fd}(h:bH l=true):bH (cx l)=true:=by
 obtain⟨h1,h2,h3⟩:=(jo l).1 h
 refine(jo _).2 ⟨by rw[cx,List.length_map];exact h1,fun f hf=>?_,by rw[DG];exact h3⟩
 obtain⟨g,hg,rfl⟩:=List.mem_map.1 hf
 exact Dn (h2 g hg)
theorem jd{l:List Fd}(h:aX l=0):aX (cx l)=0:=by
 rw[aX] at h⊢
 by_cases hp:bH l=true
 ·rw[if_pos hp] at h
  rw[if_pos (zR hp)]
  rw[kc] at h⊢
  intro i f hf
  rw[cx,List.getElem?_map,Option.map_eq_some_iff] at hf
  obtain⟨g,hg,rfl⟩:=hf
  exact Hc (Ed l) (h i g hg)
 ·rw[if_neg hp] at h;cases h
end Go.Proofs.YtaopbokndkdieaaGreatDoor
namespace Go.Proofs.YtaopbokndkdieaaGreatDoor
open Go Go.Aw
set_option maxRecDepth 100000
set_option maxHeartbeats 4000000
theorem Ai(e:Ex):cm e=dG e.op e.n e.name (aJ e.kids):=by cases e;rw[cm];rfl
theorem um(x:Sm):fZ x= .mk x.op x.name (aJ x.args) (ay x.body) (ay x.els):=by cases x;rw[fZ];rfl
theorem oc{d:Nat}{e:Ex}(h:aW d e=true):∃c,d=c+1:=by
 cases d with
 |zero=>cases h
 |succ d=>exact⟨d,rfl⟩
theorem qi{d:Nat}{e:Sm}(h:aq d e=true):∃c,d=c+1:=by
 cases d with
 |zero=>cases h
 |succ d=>exact⟨d,rfl⟩
theorem Cf{d:Nat}{x:Sm}(h:aq d x=true):∀a∈x.args,aW 6 a=true:=by
 obtain⟨d,rfl⟩:=qi h
 rw[aq,Bool.and_eq_true,Bool.and_eq_true] at h
 have h1:=h.1.1
 simp only[er,Bool.and_eq_true,List.all_eq_true] at h1
 intro a ha
 exact xr (h1.1.1.1.2 a ha)
theorem lI{d:Nat}{x:Sm}(h:aq (d+1) x=true):∀y∈x.body,aq d y=true:=by
 rw[aq,Bool.and_eq_true,Bool.and_eq_true] at h
 exact List.all_eq_true.1 h.1.2
theorem nU{d:Nat}{x:Sm}(h:aq (d+1) x=true):∀y∈x.els,aq d y=true:=by
 rw[aq,Bool.and_eq_true,Bool.and_eq_true] at h
 exact List.all_eq_true.1 h.2
theorem vo{d:Nat}{e:Ex}(h:aW d e=true):aW d (.mk e.op e.n e.name (aJ e.kids))=true:=by
 obtain⟨d,rfl⟩:=oc h
 rw[aW,Bool.and_eq_true] at h⊢
 refine⟨?_,?_⟩
 ·have h1:=h.1
  obtain⟨o,n,s,ks⟩:=e
  simp only[iB,Ex.op,Ex.n,Ex.name,Ex.kids,cw,List.length_map] at h1⊢
  exact h1
 ·have h2:=h.2
  show(aJ e.kids).all (aW d)=true
  simp only[cw,List.all_eq_true] at h2⊢
  intro x hx
  obtain⟨e,he,rfl⟩:=List.mem_map.1 hx
  exact pP d e (h2 e he)
theorem dH{d:Nat}{e:Ex}(h:aW d e=true):loK e.op≤e.kids.length∧e.kids.length≤hiK e.op∧1≤e.op∧e.op≤13:=by
 have h:=gM h
 simp only[iB,Bool.and_eq_true,inR,decide_eq_true_eq] at h
 obtain⟨⟨⟨⟨⟨h1,h2⟩,_⟩,_⟩,_⟩,_⟩:=h
 exact⟨by omega,by omega,h1.1,h1.2⟩
theorem JD{d:Nat}{e a:Ex}(h:aW d e=true)(hk:e.kids=[a])(h2:¬(e.op=12∨e.op=13)):e.op=11:=by
 obtain⟨h1,h3,h4,h5⟩:=dH h
 rw[hk] at h1 h3
 simp only[loK,hiK,List.length_cons,List.length_nil] at h1 h3
 split at h1
 ·rename_i hh;rw[if_pos hh] at h3;omega
 ·split at h1
  ·omega
  ·rw[if_neg (by omega)] at h1
   omega
theorem zA{d:Nat}{e a b:Ex}(h:aW d e=true)(hk:e.kids=[a,b])(h2:¬(e.op=12∨e.op=13)):3≤e.op∧e.op≤10:=by
 obtain⟨h1,h3,h4,h5⟩:=dH h
 rw[hk] at h1 h3
 simp only[loK,hiK,List.length_cons,List.length_nil] at h1 h3
 split at h3
 ·omega
 ·split at h3<;>omega
section
variable {l:List Fd} {k:Nat} {v:List Sc5} {s s':S5} {r:O5 Int}
end
end Go.Proofs.YtaopbokndkdieaaGreatDoor
namespace Go.Proofs.YtaopbokndkdieaaGreatDoor
open Go Go.Aw
set_option maxRecDepth 100000
set_option maxHeartbeats 4000000
def kL(x:Sm)(n:Int):Bool:=match x.args with|a::_=>isN a n|[]=>false
def ug(x:Sm):Bool:=match x.args with|a::_=>decide (a.op=1)|[]=>false
def iv(x:Sm):Bool:=decide (x.op=6)&&kL x 0
mutual
def cS:Sm→Sm
 | .mk o s a bd el=> .mk o s a
   (if o=5∧kL (.mk o s a bd el) 0=true then[] else aA bd)
   (if o=5∧kL (.mk o s a bd el) 0=false∧ug (.mk o s a bd el)=true then[] else aA el)
def aA:List Sm→List Sm
 |[]=>[]
 |s::r=>if iv s=true then aA r else cS s::(if s.op=7 then[] else aA r)
end
theorem dz(s:Sm)(r:List Sm):aA (s::r)=if iv s=true then aA r else cS s::(if s.op=7 then[] else aA r):=by rw[aA]
def rI(f:Fd):Fd:=⟨f.name,f.params,aA f.body⟩
def fY(l:List Fd):List Fd:=l.map rI
theorem Hw(l:List Fd):Like l (fY l):=zS l rI (fun _=>rfl) (fun _=>rfl)
theorem Jz(x:Sm):(cS x).op=x.op:=by cases x;rw[cS];rfl
theorem DQ(x:Sm):(cS x).name=x.name:=by cases x;rw[cS];rfl
theorem Dd(x:Sm):(cS x).args=x.args:=by cases x;rw[cS];rfl
theorem HO(x:Sm):(cS x).body=if x.op=5∧kL x 0=true then[] else aA x.body:=by cases x;rw[cS];rfl
theorem Hs(x:Sm):(cS x).els=if x.op=5∧kL x 0=false∧ug x=true then[] else aA x.els:=by cases x;rw[cS];rfl
section
variable {l:List Fd} {k:Nat} {v v':List Sc5} {s s':S5} {x:Sm} {r:O5 (Option Int)}
theorem zloop_iff:iv x=true↔x.op=6∧kL x 0=true:=by simp[iv]
end
end Go.Proofs.YtaopbokndkdieaaGreatDoor
namespace Go.Proofs.YtaopbokndkdieaaGreatDoor
open Go Go.Aw
set_option maxRecDepth 100000
set_option maxHeartbeats 4000000
def nb(x:LV):List UInt8 × Nat:=(x.name,x.block)
def VSq(a b:List LV):Prop:=b.map nb=a.map nb
theorem EP(vs:List LV)(s:List UInt8):(lkV vs s).map nb=(vs.map nb).find? fun p=>decide (p.1=s):=by
 rw[lkV,List.find?_map];rfl
theorem JP{a b:List LV}(h:VSq a b)(s:List UInt8):(lkV b s).map nb=(lkV a s).map nb:=by rw[EP,EP,h]
theorem Fx{a b:List LV}(h:VSq a b)(s:List UInt8)(c:Int):lH b s c=lH a s c:=by
 have e:=JP h s
 unfold lH
 cases ha:lkV a s<;>cases hb:lkV b s<;>rw[ha,hb] at e<;>first|rfl|cases e
theorem KD{a b:List LV}(h:VSq a b)(s:List UInt8)(n:Nat)(c:Int):mB b s n c=mB a s n c:=by
 have e:=JP h s
 unfold mB
 cases ha:lkV a s<;>cases hb:lkV b s<;>rw[ha,hb] at e<;>first|rfl|(cases e;done)|skip
 ·have e2:=congrArg Prod.snd (Option.some.inj e)
  simp only[nb] at e2
  simp only[e2]
section
variable {fns fns':List Fd} (hL:Like fns fns')
include hL
theorem IV{a b:List LV}(h:VSq a b)(k:Nat)(o:Int)(s:List UInt8)(n:Nat)(c:Int):fQ fns' k b o s n c=fQ fns k a o s n c:=by
 simp only[fQ,lc,hL.at_,hL.par,Fx h]
mutual
theorem KH{a b:List LV}(h:VSq a b){k:Nat}:∀(e:Ex) (c:Int),iy fns' k b e c=iy fns k a e c
 | .mk o n s ks,c=>by rw[iy,iy,IV hL h,xH h ks]
theorem xH{a b:List LV}(h:VSq a b){k:Nat}:∀(l:List Ex) (c:Int),bg fns' k b l c=bg fns k a l c
 |[],c=>rfl
 |e::r,c=>by rw[bg,bg,KH h e,xH h r]
end
omit hL in
theorem LT{w w':WS}(h:VSq w.vs w'.vs)(hc:w'.code=w.code)(o:Int)(s:List UInt8)(b:Nat):VSq (opW o s b w).vs (opW o s b w').vs∧(opW o s b w').code=(opW o s b w).code:=by
 unfold opW
 split
 ·refine⟨?_,?_⟩
  ·show(LV.mk s w'.count b::w'.vs).map nb=(LV.mk s w.count b::w.vs).map nb
   rw[List.map_cons,List.map_cons,h];rfl
  ·show mB w'.vs s b w'.code=mB w.vs s b w.code
   rw[KD h,hc]
 ·split
  ·refine⟨h,?_⟩
   show lH w'.vs s w'.code=lH w.vs s w.code
   rw[Fx h,hc]
  ·exact⟨h,hc⟩
omit hL in
theorem HU(fns:List Fd)(k b:Nat)(x:Sm)(w:WS):(stW fns k b x w).vs=(opW x.op x.name b ⟨w.vs,w.count,bg fns k w.vs x.args w.code⟩).vs:=by
 obtain⟨o,s,a,bd,el⟩:=x
 rw[stW];rfl
mutual
theorem Ic{k:Nat}:∀(x:Sm) (b:Nat) (w w':WS),VSq w.vs w'.vs→w'.code=0→(stW fns k b x w).code=0→VSq (stW fns k b x w).vs (stW fns' k b (cS x) w').vs∧(stW fns' k b (cS x) w').code=0
 | .mk o s a bd el,b,w,w',hv,hc,hz=>by
   rw[stW,eL] at hz
   have z1:=fL hz
   rw[eL] at z1
   have z2:=fL z1
   have z3:bg fns k w.vs a w.code=0:=zJ z2
   have hc0:=gL z3
   have e1:bg fns' k w'.vs a w'.code=bg fns k w.vs a w.code:=by rw[xH hL hv,hc,hc0]
   obtain⟨p1,p2⟩:=LT (w:=⟨w.vs,w.count,bg fns k w.vs a w.code⟩) (w':=⟨w'.vs,w'.count,bg fns' k w'.vs a w'.code⟩) hv e1 o s b
   rw[z2] at p2
   rw[cS,stW,stW]
   try simp only
   generalize opW o s b ⟨w.vs,w.count,bg fns k w.vs a w.code⟩=w2 at*
   generalize opW o s b ⟨w'.vs,w'.count,bg fns' k w'.vs a w'.code⟩=w2' at*
   have q1:(bA fns' k (b+1) (if o=5∧kL (.mk o s a bd el) 0=true then[] else aA bd) w2').code=0:=by
    split
    ·exact p2
    ·exact nr bd (b+1) w2 w2' p1 p2 z1
   generalize bA fns' k (b+1) (if o=5∧kL (.mk o s a bd el) 0=true then[] else aA bd) w2'=w3' at*
   have q2:(bA fns' k (b+1) (if o=5∧kL (.mk o s a bd el) 0=false∧ug (.mk o s a bd el)=true then[] else aA el) (w3'.back w2'.vs)).code=0:=by
    split
    ·exact q1
    ·exact nr el (b+1) ((bA fns k (b+1) bd w2).back w2.vs) (w3'.back w2'.vs) p1 q1 hz
   exact⟨p1,q2⟩
theorem nr{k:Nat}:∀(l:List Sm) (b:Nat) (w w':WS),VSq w.vs w'.vs→w'.code=0→(bA fns k b l w).code=0→(bA fns' k b (aA l) w').code=0
 |[],b,w,w',_,hc,_=>hc
 |x::r,b,w,w',hv,hc,hz=>by
  rw[bA] at hz
  have z1:=fL hz
  rw[dz]
  split
  ·rename_i h
   refine nr r b _ w' ?_ hc hz
   rw[HU,opW,if_neg (by have:=(zloop_iff.1 h).1;omega),if_neg (by have:=(zloop_iff.1 h).1;omega)]
   exact hv
  ·obtain⟨p1,p2⟩:=Ic x b w w' hv hc z1
   rw[bA]
   split
   ·exact p2
   ·exact nr r b _ _ p1 p2 hz
end
theorem Ih{k:Nat}{f:Fd}(hz:(fnW fns k f).code=0):(fnW fns' k (rI f)).code=0:=by
 have hat:=Ga hz
 have hat':dk fns' (rI f).name=some k:=by rw[hL.at_];exact hat
 rw[fnW,if_pos hat] at hz
 rw[fnW,if_pos hat']
 exact nr hL f.body 0 _ _ rfl (fL hz) hz
end
mutual
theorem HS:∀s:Sm,(cS s).cnt≤s.cnt
 | .mk o s a bd el=>by
   rw[cS,Sm.cnt,Sm.cnt]
   have h1:=re bd
   have h2:=re el
   have e1:cD (if o=5∧kL (.mk o s a bd el) 0=true then[] else aA bd)≤cD bd:=by
    split
    ·exact Nat.zero_le _
    ·exact h1
   have e2:cD (if o=5∧kL (.mk o s a bd el) 0=false∧ug (.mk o s a bd el)=true then[] else aA el)≤cD el:=by
    split
    ·exact Nat.zero_le _
    ·exact h2
   omega
theorem re:∀l:List Sm,cD (aA l)≤cD l
 |[]=>Nat.le_refl _
 |s::r=>by
  rw[dz,cD]
  have h1:=HS s
  have h2:=re r
  split
  ·omega
  ·rw[cD]
   split
   ·simp only[cD];omega
   ·omega
end
theorem oo:∀{l:List Sm} {y:Sm},y∈aA l→∃x∈l,y=cS x
 |s::r,y,h=>by
  rw[dz] at h
  split at h
  ·obtain⟨x,hx,e⟩:=oo h
   exact⟨x,by simp[hx],e⟩
  ·rcases List.mem_cons.1 h with rfl|h
   ·exact⟨s,by simp,rfl⟩
   ·split at h
    ·cases h
    ·obtain⟨x,hx,e⟩:=oo h
     exact⟨x,by simp[hx],e⟩
theorem yl{o:Int}{s:List UInt8}{a:List Ex}{bd el bd' el':List Sm}(h:er (.mk o s a bd el)=true)(h1:bd=[]→bd'=[])(h2:el=[]→el'=[]):er (.mk o s a bd' el')=true:=by
 simp only[er,Sm.op,Sm.args,Sm.name,Sm.body,Sm.els,Bool.and_eq_true,Bool.or_eq_true,List.isEmpty_iff] at h⊢
 obtain⟨⟨h3,h4⟩,h5⟩:=h
 refine⟨⟨h3,h4.imp h2 id⟩,?_⟩
 rcases h5 with(h5|h5)|h5
 ·exact .inl (.inl (h1 h5))
 ·exact .inl (.inr h5)
 ·exact .inr h5
theorem xc:∀(d:Nat) (x:Sm),aq d x=true→aq d (cS x)=true
 |0,x,h=>by cases h
 |d+1,.mk o s a bd el,h=>by
  rw[aq,Bool.and_eq_true,Bool.and_eq_true] at h
  rw[cS,aq,Bool.and_eq_true,Bool.and_eq_true]
  have hb:∀l:List Sm,l.all (aq d)=true→(aA l).all (aq d)=true:=by
   intro l hl
   rw[List.all_eq_true] at hl⊢
   intro y hy
   obtain⟨x,hx,rfl⟩:=oo hy
   exact xc d x (hl x hx)
  refine⟨⟨yl h.1.1 ?_ ?_,?_⟩,?_⟩
  ·rintro rfl;split<;>rfl
  ·rintro rfl;split<;>rfl
  ·show(if _ then _ else _:List Sm).all (aq d)=true
   split
   ·rfl
   ·exact hb _ h.1.2
  ·show(if _ then _ else _:List Sm).all (aq d)=true
   split
   ·rfl
   ·exact hb _ h.2
theorem Eu{f:Fd}(h:gv f=true):gv (rI f)=true:=by
 simp only[gv,rI,Bool.and_eq_true] at h⊢
 refine⟨h.1,?_⟩
 have h2:=h.2
 rw[List.all_eq_true] at h2⊢
 intro y hy
 obtain⟨x,hx,rfl⟩:=oo hy
 exact xc 4 x (h2 x hx)
theorem Fr(l:List Fd):iq (fY l)≤iq l:=by
 induction l with
 |nil=>exact Nat.le_refl _
 |cons f r ih=>
  have h1:=re f.body
  simp only[iq,fY,List.map_cons,List.sum_cons,rI] at ih⊢
  omega
theorem AY{l:List Fd}(h:bH l=true):bH (fY l)=true:=by
 obtain⟨h1,h2,h3⟩:=(jo l).1 h
 refine(jo _).2 ⟨by rw[fY,List.length_map];exact h1,fun f hf=>?_,Nat.le_trans (Fr l) h3⟩
 obtain⟨g,hg,rfl⟩:=List.mem_map.1 hf
 exact Eu (h2 g hg)
theorem zp{l:List Fd}(h:aX l=0):aX (fY l)=0:=by
 rw[aX] at h⊢
 by_cases hp:bH l=true
 ·rw[if_pos hp] at h
  rw[if_pos (AY hp)]
  rw[kc] at h⊢
  intro i f hf
  rw[fY,List.getElem?_map,Option.map_eq_some_iff] at hf
  obtain⟨g,hg,rfl⟩:=hf
  exact Ih (Hw l) (h i g hg)
 ·rw[if_neg hp] at h;cases h
end Go.Proofs.YtaopbokndkdieaaGreatDoor
namespace Go.Proofs.YtaopbokndkdieaaGreatDoor
open Go Go.Aw
set_option maxRecDepth 100000
set_option maxHeartbeats 4000000
mutual
def wS:Sm→Nat
 | .mk _ _ a bd el=>1+de a+wSs bd+wSs el
def wSs:List Sm→Nat
 |[]=>0
 |x::r=>wS x+wSs r
end
def wP(l:List Fd):Nat:=(l.map fun f=>wSs f.body).sum
theorem Fu(x:Sm):0<wS x:=by cases x;rw[wS];omega
theorem Eg(e:Ex):0<e.parts:=by have:=e.parts_eq;omega
theorem Gl(o n:Int)(s:List UInt8)(ks:List Ex):dG o n s ks= .mk o n s ks∨(dG o n s ks).parts<1+de ks:=by
 match ks with
 |[]=>
  left
  unfold dG
  split<;>rfl
 |a::r=>
  have ha:=Eg a
  have he:de (a::r)=a.parts+de r:=rfl
  rcases ox o n s (a::r) with h|⟨q,h,_⟩|⟨c,hc,h⟩|⟨c,hc,d,hd,h⟩
  ·exact .inl h
  ·right
   rw[h]
   show 1+de []<_
   have e0:de []=0:=rfl
   omega
  ·right
   rw[h]
   have:=fj hc
   omega
  ·right
   rw[h]
   have h1:=fj hc
   have h2:=fj hd
   have h3:=c.parts_eq
   omega
mutual
theorem GJ:∀e:Ex,cm e=e∨(cm e).parts<e.parts
 | .mk o n s ks=>by
   rw[cm,Ex.parts]
   rcases rW ks with h|h
   ·rw[h];exact Gl o n s ks
   ·right
    have h2:=Cj (ox o n s (aJ ks))
    omega
theorem rW:∀l:List Ex,aJ l=l∨de (aJ l)<de l
 |[]=> .inl rfl
 |e::r=>by
  rw[aJ,de,de]
  have h3:=pX e
  have h4:=kS r
  rcases GJ e with h|h
  ·rcases rW r with h2|h2
   ·exact .inl (by rw[h,h2])
   ·right;omega
  ·right;omega
end
mutual
theorem Hk:∀x:Sm,(fZ x=x∨wS (fZ x)<wS x)∧wS (fZ x)≤wS x
 | .mk o s a bd el=>by
   rw[fZ,wS,wS]
   have g1:=kS a
   obtain⟨k2,g2⟩:=nP bd
   obtain⟨k3,g3⟩:=nP el
   refine⟨?_,by omega⟩
   rcases rW a with h1|h1
   ·rcases k2 with k2|k2
    ·rcases k3 with k3|k3
     ·exact .inl (by rw[h1,k2,k3])
     ·right;omega
    ·right;omega
   ·right;omega
theorem nP:∀l:List Sm,(ay l=l∨wSs (ay l)<wSs l)∧wSs (ay l)≤wSs l
 |[]=>⟨.inl rfl,Nat.le_refl _⟩
 |x::r=>by
  rw[ay,wSs,wSs]
  obtain⟨k2,g2⟩:=Hk x
  obtain⟨k3,g3⟩:=nP r
  refine⟨?_,by omega⟩
  rcases k2 with k2|k2
  ·rcases k3 with k3|k3
   ·exact .inl (by rw[k2,k3])
   ·right;omega
  ·right;omega
end
theorem yw(c:Prop)[Decidable c](l m:List Sm)(h:(m=l∨wSs m<wSs l)∧wSs m≤wSs l):((if c then[] else m)=l∨wSs (if c then[] else m)<wSs l)∧wSs (if c then[] else m)≤wSs l:=by
 split
 ·have e:wSs []=0:=rfl
  refine⟨?_,by omega⟩
  match l with
  |[]=>exact .inl rfl
  |x::r=>
   right
   have:=Fu x
   rw[e,wSs];omega
 ·exact h
mutual
theorem HK:∀x:Sm,(cS x=x∨wS (cS x)<wS x)∧wS (cS x)≤wS x
 | .mk o s a bd el=>by
   rw[cS,wS,wS]
   obtain⟨k2,g2⟩:=yw (o=5∧kL (.mk o s a bd el) 0=true) bd (aA bd) (qL bd)
   obtain⟨k3,g3⟩:=yw (o=5∧kL (.mk o s a bd el) 0=false∧ug (.mk o s a bd el)=true) el (aA el) (qL el)
   refine⟨?_,by omega⟩
   rcases k2 with k2|k2
   ·rcases k3 with k3|k3
    ·exact .inl (by rw[k2,k3])
    ·right;omega
   ·right;omega
theorem qL:∀l:List Sm,(aA l=l∨wSs (aA l)<wSs l)∧wSs (aA l)≤wSs l
 |[]=>⟨.inl (by rw[aA]),by rw[aA];exact Nat.le_refl _⟩
 |x::r=>by
  have hx:=Fu x
  have hr:=qL r
  obtain⟨k2,g2⟩:=HK x
  rw[dz,wSs]
  split
  ·have:=hr.2
   exact⟨.inr (by omega),by omega⟩
  ·obtain⟨k3,g3⟩:=yw (x.op=7) r (aA r) hr
   rw[wSs]
   refine⟨?_,by omega⟩
   rcases k2 with k2|k2
   ·rcases k3 with k3|k3
    ·exact .inl (by rw[k2,k3])
    ·right;omega
   ·right;omega
end
theorem Gb(g:Fd→Fd)(hg:∀f,(g f=f∨wSs (g f).body<wSs f.body)∧wSs (g f).body≤wSs f.body):∀l:List Fd,(l.map g=l∨wP (l.map g)<wP l)∧wP (l.map g)≤wP l
 |[]=>⟨.inl rfl,Nat.le_refl _⟩
 |f::r=>by
  obtain⟨k2,g2⟩:=hg f
  obtain⟨k3,g3⟩:=Gb g hg r
  have e1:wP (f::r)=wSs f.body+wP r:=by simp[wP]
  have e2:wP ((f::r).map g)=wSs (g f).body+wP (r.map g):=by simp[wP]
  rw[e1,e2]
  refine⟨?_,by omega⟩
  rcases k2 with k2|k2
  ·rcases k3 with k3|k3
   ·exact .inl (by rw[List.map_cons,k2,k3])
   ·right;omega
  ·right;omega
theorem FE(l:List Fd):(cx l=l∨wP (cx l)<wP l)∧wP (cx l)≤wP l:=Gb mh (fun f=>by
 obtain⟨k,g⟩:=nP f.body
 refine⟨?_,g⟩
 rcases k with k|k
 ·exact .inl (by rw[mh,k])
 ·exact .inr k) l
theorem HN(l:List Fd):(fY l=l∨wP (fY l)<wP l)∧wP (fY l)≤wP l:=Gb rI (fun f=>by
 obtain⟨k,g⟩:=qL f.body
 refine⟨?_,g⟩
 rcases k with k|k
 ·exact .inl (by rw[rI,k])
 ·exact .inr k) l
def lD(l:List Fd):List Fd:=fY (cx l)
theorem nt(l:List Fd):lD l=l∨wP (lD l)<wP l:=by
 obtain⟨k1,g1⟩:=FE l
 obtain⟨k2,g2⟩:=HN (cx l)
 rcases k1 with k1|k1
 ·rw[lD,k1]
  rw[k1] at k2
  exact k2
 ·right
  rw[lD];omega
inductive Smp:List Fd→List Fd→Prop where
 |stop {l}:lD l=l→Smp l l
 |go {l x}:lD l≠l→Smp (lD l) x→Smp l x
theorem CX:∀(n:Nat) (l:List Fd),wP l≤n→∃x,Smp l x:=by
 intro n
 induction n with
 |zero=>
  intro l h
  rcases nt l with h1|h1
  ·exact⟨l,.stop h1⟩
  ·omega
 |succ n ih=>
  intro l h
  by_cases h0:lD l=l
  ·exact⟨l,.stop h0⟩
  ·rcases nt l with h1|h1
   ·exact(h0 h1).elim
   ·obtain⟨x,hx⟩:=ih (lD l) (by omega)
    exact⟨x,.go h0 hx⟩
theorem Kk{l x:List Fd}(h:Smp l x):wP x≤wP l∧lD x=x:=by
 induction h with
 |stop h=>exact⟨Nat.le_refl _,h⟩
 | @go l x h _ ih=>
   rcases nt l with h1|h1
   ·exact(h h1).elim
   ·exact⟨by omega,ih.2⟩
theorem tE{l x:List Fd}(h:Smp l x):x=l↔lD l=l:=by
 constructor
 ·rintro rfl;exact(Kk h).2
 ·intro e
  cases h with
  |stop _=>rfl
  |go h _=>exact(h e).elim
theorem qD{l:List Fd}(h:aX l=0):aX (lD l)=0:=zp (jd h)
end Go.Proofs.YtaopbokndkdieaaGreatDoor
namespace Go.Proofs.YtaopbokndkdieaaGreatDoor
open Go Go.Aw
set_option maxRecDepth 100000
set_option maxHeartbeats 4000000
abbrev BL:Nat:=9223372036854775807
mutual
def Ex.fit:Ex→Prop
 | .mk _ _ s k=>s.length≤BL∧k.length≤BL∧lJ k
def lJ:List Ex→Prop
 |[]=>True
 |e::r=>e.fit∧lJ r
end
mutual
def Sm.fit:Sm→Prop
 | .mk _ s a b e=>s.length≤BL∧(a.length≤BL∧lJ a)∧(b.length≤BL∧jR b)∧(e.length≤BL∧jR e)
def jR:List Sm→Prop
 |[]=>True
 |s::r=>s.fit∧jR r
end
def Fd.fit(f:Fd):Prop:=f.name.length≤BL∧(f.params.length≤BL∧∀x∈f.params,x.length≤BL)∧(f.body.length≤BL∧jR f.body)
theorem pO:∀{l:List Ex} {e:Ex},lJ l→e∈l→e.fit
 |x::r,e,h,hm=>by
  rcases List.mem_cons.1 hm with rfl|hm
  ·exact h.1
  ·exact pO h.2 hm
theorem qk:∀{l:List Sm} {e:Sm},jR l→e∈l→e.fit
 |x::r,e,h,hm=>by
  rcases List.mem_cons.1 hm with rfl|hm
  ·exact h.1
  ·exact qk h.2 hm
theorem Ex.fit_eq(e:Ex):e.fit=(e.name.length≤BL∧e.kids.length≤BL∧lJ e.kids):=by cases e;rfl
theorem Sm.fit_eq(s:Sm):s.fit=(s.name.length≤BL∧(s.args.length≤BL∧lJ s.args)∧(s.body.length≤BL∧jR s.body)∧(s.els.length≤BL∧jR s.els)):=by cases s;rfl
theorem Fd.cs_eq'(f:Fd):f.cs=[.str f.name,aN f.params,smL f.body]:=rfl
def dO(ss:List Nat)(i:Nat):Nat:=ss.length+((ss.take i).map (· -1)).sum
theorem sx(ss:List Nat):dO ss 0=ss.length:=by simp[dO]
theorem sw{ss:List Nat}{i v:Nat}(h:ss[i]?=some v):dO ss (i+1)=dO ss i+(v-1):=by
 rw[dO,dO,List.take_add_one,h,List.map_append,List.sum_append];simp;omega
theorem yu:∀{ss:List Nat},(∀v∈ss,1≤v)→ss.length+(ss.map (· -1)).sum=ss.sum
 |[],_=>rfl
 |v::r,h=>by
  have:=yu (ss:=r) fun x hx=>h x (by simp[hx])
  have h1:=h v (by simp)
  simp only[List.length_cons,List.map_cons,List.sum_cons];omega
theorem tW{ss:List Nat}(h:∀v∈ss,1≤v){i:Nat}(hi:ss.length≤i):dO ss i=ss.sum:=by
 rw[dO,List.take_of_length_le hi,yu h]
theorem yc{ss:List Nat}(h:∀v∈ss,1≤v)(i:Nat):dO ss i≤ss.sum:=by
 rw[←yu h,dO]
 have:(ss.map (· -1)).sum=((ss.take i).map (· -1)).sum+((ss.drop i).map (· -1)).sum:=by
  conv=>lhs;rw[←List.take_append_drop i ss,List.map_append,List.sum_append]
 omega
theorem AD:∀l:List Ex,cR l=(l.map Ex.sz).sum
 |[]=>rfl
 |e::r=>by simp only[cR,List.map_cons,List.sum_cons,AD r]
theorem As:∀l:List Sm,aD l=(l.map Sm.sz).sum
 |[]=>rfl
 |e::r=>by simp only[aD,List.map_cons,List.sum_cons,As r]
theorem FY(l:List Fd):bn l=(l.map Fd.sz).sum:=rfl
theorem Ex.sz_pos(e:Ex):1≤e.sz:=by rw[e.sz_eq];omega
theorem Sm.sz_pos(e:Sm):1≤e.sz:=by rw[e.sz_eq];omega
theorem Fd.sz_pos(f:Fd):1≤f.sz:=by unfold Fd.sz;omega
def bX(left z:Nat):Int:=if z≤left then((left-z:Nat):Int) else-1
variable (G:aI)
theorem xe(l:List Ex)(left:Nat)(hl:left≤1048576)(hb:l.length≤BL)(H:∀e∈l,∀left:Nat,left≤1048576→VF Tryz.prog G ib [.agg (e.cs.map .p),.p (.int .i64 left)] (.p (.int .i64 (bX left (e.sz-1))))):
 VF Tryz.prog G eG [.p (exL l),.p (.int .i64 left)] (.p (.int .i64 (bX left (cR l)))):=by
 refine AC.go uY ?_
 have hpos:∀v∈l.map Ex.sz,1≤v:=fun v hv=>by obtain⟨e,_,rfl⟩:=List.mem_map.1 hv;exact e.sz_pos
 have hz:=AD l
 have hal:=fun i (hi:l.length≤i)=>tW hpos (i:=i) (by rw[List.length_map];exact hi)
 have hle:=yc hpos
 have h00:dO (l.map Ex.sz) 0=l.length:=by rw[sx,List.length_map]
 rw[←hz] at hal hle
 have hsl:∀l,exL l= .lst 4 (l.map Ex.cs):=fun _=>rfl
 have hw:IntKind.i64.wrap ((left:Int)-l.length)=(left:Int)-l.length:=al (by simp only[BL] at hb;omega) (by omega)
 by_cases h:l.length≤left
 case neg=>
  have h1:(left:Int)-l.length<0:=by omega
  have:=hle 0
  have h2:bX left (cR l)= -1:=if_neg (by omega)
  simp-implicitDefEqProofs[jE,hsl,hw,h1,h2]
 have h1:¬(left:Int)-l.length<0:=by omega
 simp-implicitDefEqProofs[jE,hsl,hw,h1]
 refine aF (fun i:Nat=>aj 27 [(0,.p (exL l)),(1,.p (.int .i64 ((left-dO (l.map Ex.sz) i:Nat):Int))),(5,.p (.int .i64 i))]) (fun _=>[]) (fun i=>i≤l.length∧dO (l.map Ex.sz) i≤left) (fun i=>l.length-i) 0 ⟨by omega,by rw[h00];exact h⟩ ?_ ?_
 ·refine aK rfl ?_
  simp only[h00]
  simp[below,hsl]
  omega
 ·intro i ⟨hi,hx⟩
  simp-implicitDefEqProofs[hsl]
  refine bh (fun h1=>?_) (fun h1=>?_)
  ·simp at h1
   have hg:=List.getElem?_eq_getElem h1
   have hsu:=sw (ss:=l.map Ex.sz) (i:=i) (v:=l[i].sz) (by rw[List.getElem?_map,hg];rfl)
   have hH:=H l[i] (List.getElem_mem h1) (left-dO (l.map Ex.sz) i) (by omega)
   have hcs:l[i].cs.length=4:=by simp
   have hle1:=hle (i+1)
   generalize l[i]=e at hg hsu hH hcs
   simp-implicitDefEqProofs[hg,hcs]
   refine hH.use ?_
   by_cases h2:e.sz-1≤left-dO (l.map Ex.sz) i
   ·have e2:bX (left-dO (l.map Ex.sz) i) (e.sz-1)=((left-dO (l.map Ex.sz) (i+1):Nat):Int):=by rw[bX,if_pos h2];omega
    have h3:¬((left-dO (l.map Ex.sz) (i+1):Nat):Int)<0:=by omega
    rw[e2]
    simp-implicitDefEqProofs[h3]
    refine⟨i+1,⟨h1,by omega⟩,by omega,aK rfl (by simp[below,hsl,w1 (i:=i) (by simp only[BL] at hb;omega)])⟩
   ·have e2:bX (left-dO (l.map Ex.sz) i) (e.sz-1)= -1:=if_neg h2
    have e3:bX left (cR l)= -1:=if_neg (by omega)
    rw[e2,e3]
    simp-implicitDefEqProofs[]
  ·simp at h1
   have hta:=hal i h1
   have h5:bX left (cR l)=((left-dO (l.map Ex.sz) i:Nat):Int):=by rw[hta,bX,if_pos (by omega)]
   simp-implicitDefEqProofs[h5]
theorem xt(l:List Ex)(hb:l.length≤1048576)(H:∀e∈l,VF Tryz.prog G ic [.agg (e.cs.map .p)] (.agg (e.cs.map .p))):VF Tryz.prog G dL [.p (exL l)] (.p (exL l)):=by
 have hsl:∀l,exL l= .lst 4 (l.map Ex.cs):=fun _=>rfl
 have key:AC Tryz.prog G dL [.p (exL l)] [] fun x h=>x= .ret (.sl 0 4 0 l.length)∧h=[.row 4 (l.map fun e=>e.cs.map .p)]:=by
  refine AC.go vK ?_
  have hn:(l.map fun e=>e.cs.map AV.p).length=l.length:=by simp
  simp-implicitDefEqProofs[mY,hsl]
  refine⟨by omega,?_⟩
  refine aF (fun i:Nat=>aj 23 [(0,.p (exL l)),(3,.sl 0 4 0 l.length),(4,.p (.int .i64 i))]) (fun i=>[.row 4 ((l.map fun e=>e.cs.map AV.p).take i++List.replicate (l.length-i) [.p (.int .i64 0),.p (.int .i64 0),.p (.str []),.nils])]) (fun i=>i≤l.length) (fun i=>l.length-i) 0 (by simp) ?_ ?_
  ·refine dm [0] rfl (by simp) (aE (by simp) (by simp[below]) bj) ?_
   simp[below,ren,hsl]
  ·intro i hi
   simp-implicitDefEqProofs[hsl]
   refine bh (fun h1=>?_) (fun h1=>?_)
   ·simp at h1
    have hg:=List.getElem?_eq_getElem h1
    have hg2:=ut (z:=([.p (.int .i64 0),.p (.int .i64 0),.p (.str []),.nils]:List AV)) hn h1
    have hset:=qF (z:=([.p (.int .i64 0),.p (.int .i64 0),.p (.str []),.nils]:List AV)) (v:=l[i].cs.map AV.p) hn h1 (by rw[List.getElem?_map,hg];rfl)
    have hH:=H l[i] (List.getElem_mem h1)
    have hcs:=l[i].cs_eq
    have htl:(List.take i (l.map fun(e:Ex)=>e.cs.map AV.p)++List.replicate (l.length-i) ([.p (.int .i64 0),.p (.int .i64 0),.p (.str []),.nils]:List AV)).length=l.length:=by simp;omega
    generalize l[i]=e at hg hset hH hcs
    generalize hRow:(List.take i (l.map fun(e:Ex)=>e.cs.map AV.p)++List.replicate (l.length-i) ([.p (.int .i64 0),.p (.int .i64 0),.p (.str []),.nils]:List AV))=Rw at hg2 hset htl⊢
    rw[hcs] at hH hset
    simp-implicitDefEqProofs[hg,hcs]
    refine hH.use ?_
    simp-implicitDefEqProofs[hg2,h1,ga]
    simp only[List.map_cons,List.map_nil] at hset
    rw[hset]
    refine⟨i+1,h1,by omega,dm [0] rfl (by simp) (aE rfl ?_ bj) ?_⟩
    ·intro x hx
     rcases List.mem_append.1 hx with hx|hx
     ·obtain⟨y,_,rfl⟩:=List.mem_map.1 (List.mem_of_mem_take hx);simp
     ·rw[(List.mem_replicate.1 hx).2];simp[below]
    ·simp[below,ren,hsl,w1 (i:=i) (by omega)]
   ·simp at h1
    have hie:i=l.length:=by omega
    subst hie
    rw[Nat.sub_self,List.replicate_zero,List.append_nil,List.take_of_length_le (by rw[hn];exact Nat.le_refl _)]
    simp-implicitDefEqProofs[]
 refine AC.freeze key (.one ?_ .nil)
 have:=gb (h:=[.row 4 (l.map fun e=>e.cs.map .p)]) (id:=0) (sz:=4) (n:=l.length) (ls:=l.map Ex.cs) (by simp) (by simp) (fun x hx=>by obtain⟨b,_,rfl⟩:=List.mem_map.1 hx;simp)
 exact this
theorem xn(l:List Ex)(hb:l.length≤1048576)(H:∀e∈l,VF Tryz.prog G io [.agg (e.cs.map .p),.agg (e.cs.map .p)] (.p (.bool true))):VF Tryz.prog G eC [.p (exL l),.p (exL l)] (.p (.bool true)):=by
 refine AC.go uH ?_
 have hsl:∀l,exL l= .lst 4 (l.map Ex.cs):=fun _=>rfl
 simp-implicitDefEqProofs[nN,hsl]
 refine aF (fun i:Nat=>aj 27 [(0,.p (exL l)),(1,.p (exL l)),(5,.p (.int .i64 i))]) (fun _=>[]) (fun i=>i≤l.length) (fun i=>l.length-i) 0 (by simp) ?_ ?_
 ·exact aK rfl (by simp[below,hsl])
 intro i hi
 simp-implicitDefEqProofs[hsl]
 refine bh (fun h1=>?_) (fun h1=>?_)
 ·simp at h1
  have hg:=List.getElem?_eq_getElem h1
  have hH:=H l[i] (List.getElem_mem h1)
  have hcs:l[i].cs.length=4:=by simp
  generalize l[i]=e at hg hH hcs
  simp-implicitDefEqProofs[hg,hcs]
  refine hH.use ?_
  simp-implicitDefEqProofs[]
  exact⟨i+1,h1,by omega,aK rfl (by simp[below,hsl,w1 (i:=i) (by omega)])⟩
 ·simp at h1
  simp-implicitDefEqProofs[]
theorem xh(l:List Sm)(left:Nat)(hl:left≤1048576)(hb:l.length≤BL)(H:∀e∈l,∀left:Nat,left≤1048576→VF Tryz.prog G ie [.agg (e.cs.map .p),.p (.int .i64 left)] (.p (.int .i64 (bX left (e.sz-1))))):
 VF Tryz.prog G da [.p (smL l),.p (.int .i64 left)] (.p (.int .i64 (bX left (aD l)))):=by
 refine AC.go uE ?_
 have hpos:∀v∈l.map Sm.sz,1≤v:=fun v hv=>by obtain⟨e,_,rfl⟩:=List.mem_map.1 hv;exact e.sz_pos
 have hz:=As l
 have hal:=fun i (hi:l.length≤i)=>tW hpos (i:=i) (by rw[List.length_map];exact hi)
 have hle:=yc hpos
 have h00:dO (l.map Sm.sz) 0=l.length:=by rw[sx,List.length_map]
 rw[←hz] at hal hle
 have hsl:∀l,smL l= .lst 5 (l.map Sm.cs):=fun _=>rfl
 have hw:IntKind.i64.wrap ((left:Int)-l.length)=(left:Int)-l.length:=al (by simp only[BL] at hb;omega) (by omega)
 by_cases h:l.length≤left
 case neg=>
  have h1:(left:Int)-l.length<0:=by omega
  have:=hle 0
  have h2:bX left (aD l)= -1:=if_neg (by omega)
  simp-implicitDefEqProofs[jP,hsl,hw,h1,h2]
 have h1:¬(left:Int)-l.length<0:=by omega
 simp-implicitDefEqProofs[jP,hsl,hw,h1]
 refine aF (fun i:Nat=>aj 27 [(0,.p (smL l)),(1,.p (.int .i64 ((left-dO (l.map Sm.sz) i:Nat):Int))),(5,.p (.int .i64 i))]) (fun _=>[]) (fun i=>i≤l.length∧dO (l.map Sm.sz) i≤left) (fun i=>l.length-i) 0 ⟨by omega,by rw[h00];exact h⟩ ?_ ?_
 ·refine aK rfl ?_
  simp only[h00]
  simp[below,hsl]
  omega
 ·intro i ⟨hi,hx⟩
  simp-implicitDefEqProofs[hsl]
  refine bh (fun h1=>?_) (fun h1=>?_)
  ·simp at h1
   have hg:=List.getElem?_eq_getElem h1
   have hsu:=sw (ss:=l.map Sm.sz) (i:=i) (v:=l[i].sz) (by rw[List.getElem?_map,hg];rfl)
   have hH:=H l[i] (List.getElem_mem h1) (left-dO (l.map Sm.sz) i) (by omega)
   have hcs:l[i].cs.length=5:=by simp
   have hle1:=hle (i+1)
   generalize l[i]=e at hg hsu hH hcs
   simp-implicitDefEqProofs[hg,hcs]
   refine hH.use ?_
   by_cases h2:e.sz-1≤left-dO (l.map Sm.sz) i
   ·have e2:bX (left-dO (l.map Sm.sz) i) (e.sz-1)=((left-dO (l.map Sm.sz) (i+1):Nat):Int):=by rw[bX,if_pos h2];omega
    have h3:¬((left-dO (l.map Sm.sz) (i+1):Nat):Int)<0:=by omega
    rw[e2]
    simp-implicitDefEqProofs[h3]
    refine⟨i+1,⟨h1,by omega⟩,by omega,aK rfl (by simp[below,hsl,w1 (i:=i) (by simp only[BL] at hb;omega)])⟩
   ·have e2:bX (left-dO (l.map Sm.sz) i) (e.sz-1)= -1:=if_neg h2
    have e3:bX left (aD l)= -1:=if_neg (by omega)
    rw[e2,e3]
    simp-implicitDefEqProofs[]
  ·simp at h1
   have hta:=hal i h1
   have h5:bX left (aD l)=((left-dO (l.map Sm.sz) i:Nat):Int):=by rw[hta,bX,if_pos (by omega)]
   simp-implicitDefEqProofs[h5]
theorem rE(l:List Sm)(hb:l.length≤1048576)(H:∀e∈l,VF Tryz.prog G hZ [.agg (e.cs.map .p)] (.agg (e.cs.map .p))):VF Tryz.prog G cW [.p (smL l)] (.p (smL l)):=by
 have hsl:∀l,smL l= .lst 5 (l.map Sm.cs):=fun _=>rfl
 have key:AC Tryz.prog G cW [.p (smL l)] [] fun x h=>x= .ret (.sl 0 5 0 l.length)∧h=[.row 5 (l.map fun e=>e.cs.map .p)]:=by
  refine AC.go uc ?_
  have hn:(l.map fun e=>e.cs.map AV.p).length=l.length:=by simp
  simp-implicitDefEqProofs[ny,hsl]
  refine⟨by omega,?_⟩
  refine aF (fun i:Nat=>aj 23 [(0,.p (smL l)),(3,.sl 0 5 0 l.length),(4,.p (.int .i64 i))]) (fun i=>[.row 5 ((l.map fun e=>e.cs.map AV.p).take i++List.replicate (l.length-i) [.p (.int .i64 0),.p (.str []),.nils,.nils,.nils])]) (fun i=>i≤l.length) (fun i=>l.length-i) 0 (by simp) ?_ ?_
  ·refine dm [0] rfl (by simp) (aE (by simp) (by simp[below]) bj) ?_
   simp[below,ren,hsl]
  ·intro i hi
   simp-implicitDefEqProofs[hsl]
   refine bh (fun h1=>?_) (fun h1=>?_)
   ·simp at h1
    have hg:=List.getElem?_eq_getElem h1
    have hg2:=ut (z:=([.p (.int .i64 0),.p (.str []),.nils,.nils,.nils]:List AV)) hn h1
    have hset:=qF (z:=([.p (.int .i64 0),.p (.str []),.nils,.nils,.nils]:List AV)) (v:=l[i].cs.map AV.p) hn h1 (by rw[List.getElem?_map,hg];rfl)
    have hH:=H l[i] (List.getElem_mem h1)
    have hcs:=l[i].cs_eq
    have htl:(List.take i (l.map fun(e:Sm)=>e.cs.map AV.p)++List.replicate (l.length-i) ([.p (.int .i64 0),.p (.str []),.nils,.nils,.nils]:List AV)).length=l.length:=by simp;omega
    generalize l[i]=e at hg hset hH hcs
    generalize hRow:(List.take i (l.map fun(e:Sm)=>e.cs.map AV.p)++List.replicate (l.length-i) ([.p (.int .i64 0),.p (.str []),.nils,.nils,.nils]:List AV))=Rw at hg2 hset htl⊢
    rw[hcs] at hH hset
    simp-implicitDefEqProofs[hg,hcs]
    refine hH.use ?_
    simp-implicitDefEqProofs[hg2,h1,ga]
    simp only[List.map_cons,List.map_nil] at hset
    rw[hset]
    refine⟨i+1,h1,by omega,dm [0] rfl (by simp) (aE rfl ?_ bj) ?_⟩
    ·intro x hx
     rcases List.mem_append.1 hx with hx|hx
     ·obtain⟨y,_,rfl⟩:=List.mem_map.1 (List.mem_of_mem_take hx);simp
     ·rw[(List.mem_replicate.1 hx).2];simp[below]
    ·simp[below,ren,hsl,w1 (i:=i) (by omega)]
   ·simp at h1
    have hie:i=l.length:=by omega
    subst hie
    rw[Nat.sub_self,List.replicate_zero,List.append_nil,List.take_of_length_le (by rw[hn];exact Nat.le_refl _)]
    simp-implicitDefEqProofs[]
 refine AC.freeze key (.one ?_ .nil)
 have:=gb (h:=[.row 5 (l.map fun e=>e.cs.map .p)]) (id:=0) (sz:=5) (n:=l.length) (ls:=l.map Sm.cs) (by simp) (by simp) (fun x hx=>by obtain⟨b,_,rfl⟩:=List.mem_map.1 hx;simp)
 exact this
theorem sc(l:List Sm)(hb:l.length≤1048576)(H:∀e∈l,VF Tryz.prog G hY [.agg (e.cs.map .p),.agg (e.cs.map .p)] (.p (.bool true))):VF Tryz.prog G dN [.p (smL l),.p (smL l)] (.p (.bool true)):=by
 refine AC.go uk ?_
 have hsl:∀l,smL l= .lst 5 (l.map Sm.cs):=fun _=>rfl
 simp-implicitDefEqProofs[ni,hsl]
 refine aF (fun i:Nat=>aj 27 [(0,.p (smL l)),(1,.p (smL l)),(5,.p (.int .i64 i))]) (fun _=>[]) (fun i=>i≤l.length) (fun i=>l.length-i) 0 (by simp) ?_ ?_
 ·exact aK rfl (by simp[below,hsl])
 intro i hi
 simp-implicitDefEqProofs[hsl]
 refine bh (fun h1=>?_) (fun h1=>?_)
 ·simp at h1
  have hg:=List.getElem?_eq_getElem h1
  have hH:=H l[i] (List.getElem_mem h1)
  have hcs:l[i].cs.length=5:=by simp
  generalize l[i]=e at hg hH hcs
  simp-implicitDefEqProofs[hg,hcs]
  refine hH.use ?_
  simp-implicitDefEqProofs[]
  exact⟨i+1,h1,by omega,aK rfl (by simp[below,hsl,w1 (i:=i) (by omega)])⟩
 ·simp at h1
  simp-implicitDefEqProofs[]
theorem Ie(l:List Fd)(left:Nat)(hl:left≤1048576)(hb:l.length≤BL)(H:∀e∈l,∀left:Nat,left≤1048576→VF Tryz.prog G jX [.agg (e.cs.map .p),.p (.int .i64 left)] (.p (.int .i64 (bX left (e.sz-1))))):
 VF Tryz.prog G lW [.p (fdL l),.p (.int .i64 left)] (.p (.int .i64 (bX left (bn l)))):=by
 refine AC.go xT ?_
 have hpos:∀v∈l.map Fd.sz,1≤v:=fun v hv=>by obtain⟨e,_,rfl⟩:=List.mem_map.1 hv;exact e.sz_pos
 have hz:=FY l
 have hal:=fun i (hi:l.length≤i)=>tW hpos (i:=i) (by rw[List.length_map];exact hi)
 have hle:=yc hpos
 have h00:dO (l.map Fd.sz) 0=l.length:=by rw[sx,List.length_map]
 rw[←hz] at hal hle
 have hsl:∀l,fdL l= .lst 3 (l.map Fd.cs):=fun _=>rfl
 have hw:IntKind.i64.wrap ((left:Int)-l.length)=(left:Int)-l.length:=al (by simp only[BL] at hb;omega) (by omega)
 by_cases h:l.length≤left
 case neg=>
  have h1:(left:Int)-l.length<0:=by omega
  have:=hle 0
  have h2:bX left (bn l)= -1:=if_neg (by omega)
  simp-implicitDefEqProofs[lM,hsl,hw,h1,h2]
 have h1:¬(left:Int)-l.length<0:=by omega
 simp-implicitDefEqProofs[lM,hsl,hw,h1]
 refine aF (fun i:Nat=>aj 27 [(0,.p (fdL l)),(1,.p (.int .i64 ((left-dO (l.map Fd.sz) i:Nat):Int))),(5,.p (.int .i64 i))]) (fun _=>[]) (fun i=>i≤l.length∧dO (l.map Fd.sz) i≤left) (fun i=>l.length-i) 0 ⟨by omega,by rw[h00];exact h⟩ ?_ ?_
 ·refine aK rfl ?_
  simp only[h00]
  simp[below,hsl]
  omega
 ·intro i ⟨hi,hx⟩
  simp-implicitDefEqProofs[hsl]
  refine bh (fun h1=>?_) (fun h1=>?_)
  ·simp at h1
   have hg:=List.getElem?_eq_getElem h1
   have hsu:=sw (ss:=l.map Fd.sz) (i:=i) (v:=l[i].sz) (by rw[List.getElem?_map,hg];rfl)
   have hH:=H l[i] (List.getElem_mem h1) (left-dO (l.map Fd.sz) i) (by omega)
   have hcs:l[i].cs.length=3:=by simp
   have hle1:=hle (i+1)
   generalize l[i]=e at hg hsu hH hcs
   simp-implicitDefEqProofs[hg,hcs]
   refine hH.use ?_
   by_cases h2:e.sz-1≤left-dO (l.map Fd.sz) i
   ·have e2:bX (left-dO (l.map Fd.sz) i) (e.sz-1)=((left-dO (l.map Fd.sz) (i+1):Nat):Int):=by rw[bX,if_pos h2];omega
    have h3:¬((left-dO (l.map Fd.sz) (i+1):Nat):Int)<0:=by omega
    rw[e2]
    simp-implicitDefEqProofs[h3]
    refine⟨i+1,⟨h1,by omega⟩,by omega,aK rfl (by simp[below,hsl,w1 (i:=i) (by simp only[BL] at hb;omega)])⟩
   ·have e2:bX (left-dO (l.map Fd.sz) i) (e.sz-1)= -1:=if_neg h2
    have e3:bX left (bn l)= -1:=if_neg (by omega)
    rw[e2,e3]
    simp-implicitDefEqProofs[]
  ·simp at h1
   have hta:=hal i h1
   have h5:bX left (bn l)=((left-dO (l.map Fd.sz) i:Nat):Int):=by rw[hta,bX,if_pos (by omega)]
   simp-implicitDefEqProofs[h5]
theorem Ii(l:List Fd)(hb:l.length≤1048576)(H:∀e∈l,VF Tryz.prog G kf [.agg (e.cs.map .p)] (.agg (e.cs.map .p))):VF Tryz.prog G iZ [.p (fdL l)] (.p (fdL l)):=by
 have hsl:∀l,fdL l= .lst 3 (l.map Fd.cs):=fun _=>rfl
 have key:AC Tryz.prog G iZ [.p (fdL l)] [] fun x h=>x= .ret (.sl 0 3 0 l.length)∧h=[.row 3 (l.map fun e=>e.cs.map .p)]:=by
  refine AC.go xS ?_
  have hn:(l.map fun e=>e.cs.map AV.p).length=l.length:=by simp
  simp-implicitDefEqProofs[qw,hsl]
  refine⟨by omega,?_⟩
  refine aF (fun i:Nat=>aj 23 [(0,.p (fdL l)),(3,.sl 0 3 0 l.length),(4,.p (.int .i64 i))]) (fun i=>[.row 3 ((l.map fun e=>e.cs.map AV.p).take i++List.replicate (l.length-i) [.p (.str []),.nils,.nils])]) (fun i=>i≤l.length) (fun i=>l.length-i) 0 (by simp) ?_ ?_
  ·refine dm [0] rfl (by simp) (aE (by simp) (by simp[below]) bj) ?_
   simp[below,ren,hsl]
  ·intro i hi
   simp-implicitDefEqProofs[hsl]
   refine bh (fun h1=>?_) (fun h1=>?_)
   ·simp at h1
    have hg:=List.getElem?_eq_getElem h1
    have hg2:=ut (z:=([.p (.str []),.nils,.nils]:List AV)) hn h1
    have hset:=qF (z:=([.p (.str []),.nils,.nils]:List AV)) (v:=l[i].cs.map AV.p) hn h1 (by rw[List.getElem?_map,hg];rfl)
    have hH:=H l[i] (List.getElem_mem h1)
    have hcs:=l[i].cs_eq'
    have htl:(List.take i (l.map fun(e:Fd)=>e.cs.map AV.p)++List.replicate (l.length-i) ([.p (.str []),.nils,.nils]:List AV)).length=l.length:=by simp;omega
    generalize l[i]=e at hg hset hH hcs
    generalize hRow:(List.take i (l.map fun(e:Fd)=>e.cs.map AV.p)++List.replicate (l.length-i) ([.p (.str []),.nils,.nils]:List AV))=Rw at hg2 hset htl⊢
    rw[hcs] at hH hset
    simp-implicitDefEqProofs[hg,hcs]
    refine hH.use ?_
    simp-implicitDefEqProofs[hg2,h1,ga]
    simp only[List.map_cons,List.map_nil] at hset
    rw[hset]
    refine⟨i+1,h1,by omega,dm [0] rfl (by simp) (aE rfl ?_ bj) ?_⟩
    ·intro x hx
     rcases List.mem_append.1 hx with hx|hx
     ·obtain⟨y,_,rfl⟩:=List.mem_map.1 (List.mem_of_mem_take hx);simp
     ·rw[(List.mem_replicate.1 hx).2];simp[below]
    ·simp[below,ren,hsl,w1 (i:=i) (by omega)]
   ·simp at h1
    have hie:i=l.length:=by omega
    subst hie
    rw[Nat.sub_self,List.replicate_zero,List.append_nil,List.take_of_length_le (by rw[hn];exact Nat.le_refl _)]
    simp-implicitDefEqProofs[]
 refine AC.freeze key (.one ?_ .nil)
 have:=gb (h:=[.row 3 (l.map fun e=>e.cs.map .p)]) (id:=0) (sz:=3) (n:=l.length) (ls:=l.map Fd.cs) (by simp) (by simp) (fun x hx=>by obtain⟨b,_,rfl⟩:=List.mem_map.1 hx;simp)
 exact this
theorem Jl(l:List Fd)(hb:l.length≤1048576)(H:∀e∈l,VF Tryz.prog G kb [.agg (e.cs.map .p),.agg (e.cs.map .p)] (.p (.bool true))):VF Tryz.prog G lP [.p (fdL l),.p (fdL l)] (.p (.bool true)):=by
 refine AC.go yd ?_
 have hsl:∀l,fdL l= .lst 3 (l.map Fd.cs):=fun _=>rfl
 simp-implicitDefEqProofs[ro,hsl]
 refine aF (fun i:Nat=>aj 27 [(0,.p (fdL l)),(1,.p (fdL l)),(5,.p (.int .i64 i))]) (fun _=>[]) (fun i=>i≤l.length) (fun i=>l.length-i) 0 (by simp) ?_ ?_
 ·exact aK rfl (by simp[below,hsl])
 intro i hi
 simp-implicitDefEqProofs[hsl]
 refine bh (fun h1=>?_) (fun h1=>?_)
 ·simp at h1
  have hg:=List.getElem?_eq_getElem h1
  have hH:=H l[i] (List.getElem_mem h1)
  have hcs:l[i].cs.length=3:=by simp
  generalize l[i]=e at hg hH hcs
  simp-implicitDefEqProofs[hg,hcs]
  refine hH.use ?_
  simp-implicitDefEqProofs[]
  exact⟨i+1,h1,by omega,aK rfl (by simp[below,hsl,w1 (i:=i) (by omega)])⟩
 ·simp at h1
  simp-implicitDefEqProofs[]
end Go.Proofs.YtaopbokndkdieaaGreatDoor
namespace Go.Proofs.YtaopbokndkdieaaGreatDoor
open Go Go.Aw
set_option maxRecDepth 100000
set_option maxHeartbeats 4000000
variable (G:aI)
theorem bO{left z:Nat}(h:¬z≤left):bX left z= -1:=if_neg h
theorem dZ{left z:Nat}(h:z≤left):bX left z=((left-z:Nat):Int):=if_pos h
theorem GT:∀(N:Nat) (e:Ex),e.sz≤N→e.fit→∀left:Nat,left≤1048576→VF Tryz.prog G ib [.agg (e.cs.map .p),.p (.int .i64 left)] (.p (.int .i64 (bX left (e.sz-1)))):=by
 intro N
 induction N with
 |zero=>intro e he;have:=e.sz_pos;omega
 |succ N ih=>
  intro e he hf left hl
  have hec:=e.cs_eq
  have hsz:=e.sz_eq
  rw[e.fit_eq] at hf
  obtain⟨f1,f2,f3⟩:=hf
  refine AC.go wI ?_
  have hw:IntKind.i64.wrap ((left:Int)-e.name.length)=(left:Int)-e.name.length:=al (by simp only[BL] at f1;omega) (by omega)
  by_cases h1:e.name.length≤left
  case neg=>
   have h2:(left:Int)-e.name.length<0:=by omega
   rw[bO (by omega)]
   simp-implicitDefEqProofs[kK,hec,hw,h2]
  have h2:¬(left:Int)-e.name.length<0:=by omega
  have e2:(left:Int)-e.name.length=((left-e.name.length:Nat):Int):=by omega
  have hS:=xe G e.kids (left-e.name.length) (by omega) f2 (fun x hx l hl=>ih x (by have:=az hx;omega) (pO f3 hx) l hl)
  rw[e2] at h2
  replace hw:=hw.trans e2
  simp-implicitDefEqProofs[kK,hec,hw,h2]
  refine hS.use ?_
  by_cases h3:cR e.kids≤left-e.name.length
  ·have n3:¬((left-e.name.length-cR e.kids:Nat):Int)<0:=by omega
   rw[dZ h3,dZ (by omega)]
   simp-implicitDefEqProofs[n3]
   omega
  ·rw[bO h3,bO (by omega)]
   simp-implicitDefEqProofs[]
theorem Dv(l:List Ex)(hf:lJ l)(hb:l.length≤BL)(left:Nat)(hl:left≤1048576):VF Tryz.prog G eG [.p (exL l),.p (.int .i64 left)] (.p (.int .i64 (bX left (cR l)))):=
 xe G l left hl hb (fun e he l hl=>GT G e.sz e (Nat.le_refl _) (pO hf he) l hl)
theorem Fw:∀(N:Nat) (s:Sm),s.sz≤N→s.fit→∀left:Nat,left≤1048576→VF Tryz.prog G ie [.agg (s.cs.map .p),.p (.int .i64 left)] (.p (.int .i64 (bX left (s.sz-1)))):=by
 intro N
 induction N with
 |zero=>intro e he;have:=e.sz_pos;omega
 |succ N ih=>
  intro e he hf left hl
  have hec:=e.cs_eq
  have hsz:=e.sz_eq
  rw[e.fit_eq] at hf
  obtain⟨f1,⟨f2,f3⟩,⟨f4,f5⟩,f6,f7⟩:=hf
  have sub:∀l:List Sm,aD l≤N→jR l→l.length≤BL→∀left:Nat,left≤1048576→VF Tryz.prog G da [.p (smL l),.p (.int .i64 left)] (.p (.int .i64 (bX left (aD l)))):=fun l hz hf hb left hl=>
   xh G l left hl hb (fun x hx l hl=>ih x (by have:=aL hx;omega) (qk hf hx) l hl)
  refine AC.go wd ?_
  have hw:IntKind.i64.wrap ((left:Int)-e.name.length)=(left:Int)-e.name.length:=al (by simp only[BL] at f1;omega) (by omega)
  by_cases h1:e.name.length≤left
  case neg=>
   have h2:(left:Int)-e.name.length<0:=by omega
   rw[bO (by omega)]
   simp-implicitDefEqProofs[kw,hec,hw,h2]
  have h2:¬(left:Int)-e.name.length<0:=by omega
  have e2:(left:Int)-e.name.length=((left-e.name.length:Nat):Int):=by omega
  rw[e2] at h2
  replace hw:=hw.trans e2
  simp-implicitDefEqProofs[kw,hec,hw,h2]
  refine(Dv G e.args f3 f2 (left-e.name.length) (by omega)).use ?_
  by_cases h3:cR e.args≤left-e.name.length
  case neg=>
   rw[bO h3,bO (by omega)]
   simp-implicitDefEqProofs[]
  have n3:¬((left-e.name.length-cR e.args:Nat):Int)<0:=by omega
  rw[dZ h3]
  simp-implicitDefEqProofs[n3]
  refine(sub e.body (by omega) f5 f4 (left-e.name.length-cR e.args) (by omega)).use ?_
  by_cases h4:aD e.body≤left-e.name.length-cR e.args
  case neg=>
   rw[bO h4,bO (by omega)]
   simp-implicitDefEqProofs[]
  have n4:¬((left-e.name.length-cR e.args-aD e.body:Nat):Int)<0:=by omega
  rw[dZ h4]
  simp-implicitDefEqProofs[n4]
  refine(sub e.els (by omega) f7 f6 (left-e.name.length-cR e.args-aD e.body) (by omega)).use ?_
  by_cases h5:aD e.els≤left-e.name.length-cR e.args-aD e.body
  case neg=>
   rw[bO h5,bO (by omega)]
   simp-implicitDefEqProofs[]
  have n5:¬((left-e.name.length-cR e.args-aD e.body-aD e.els:Nat):Int)<0:=by omega
  rw[dZ h5,dZ (by omega)]
  simp-implicitDefEqProofs[n5]
  omega
theorem Dk(l:List Sm)(hf:jR l)(hb:l.length≤BL)(left:Nat)(hl:left≤1048576):VF Tryz.prog G da [.p (smL l),.p (.int .i64 left)] (.p (.int .i64 (bX left (aD l)))):=
 xh G l left hl hb (fun e he l hl=>Fw G e.sz e (Nat.le_refl _) (qk hf he) l hl)
def mz(xs:List (List UInt8))(i:Nat):Nat:=((xs.take i).map List.length).sum
theorem ED{xs:List (List UInt8)}{i:Nat}(h:i<xs.length):mz xs (i+1)=mz xs i+xs[i].length:=by
 show((xs.take (i+1)).map List.length).sum=((xs.take i).map List.length).sum+xs[i].length
 rw[ah h,List.map_append,List.sum_append]
 rfl
theorem GB{xs:List (List UInt8)}{i:Nat}(h:xs.length≤i):mz xs i=(xs.map List.length).sum:=by rw[mz,List.take_of_length_le h]
theorem Ix{xs:List (List UInt8)}{i:Nat}:mz xs i≤(xs.map List.length).sum:=by
 conv=>rhs;rw[←List.take_append_drop i xs,List.map_append,List.sum_append]
 simp[mz]
def szW(xs:List (List UInt8)):Nat:=xs.length+(xs.map List.length).sum
theorem Ao(xs:List (List UInt8))(left:Nat)(hl:left≤1048576)(hb:xs.length≤9223372036854775807)(hs:∀x∈xs,x.length≤9223372036854775807):VF Tryz.prog G gW [.p (aN xs),.p (.int .i64 left)] (.p (.int .i64 (if szW xs≤left then((left-szW xs:Nat):Int) else-1))):=by
 refine AC.go rF ?_
 have hw:IntKind.i64.wrap ((left:Int)-xs.length)=(left:Int)-xs.length:=al (by omega) (by omega)
 have hsz:szW xs=xs.length+(xs.map List.length).sum:=rfl
 by_cases h:xs.length≤left
 case neg=>
  have h1:(left:Int)-xs.length<0:=by omega
  have h2:¬szW xs≤left:=by omega
  simp-implicitDefEqProofs[gJ,aN,hw,h1,h2]
 have h1:¬(left:Int)-xs.length<0:=by omega
 simp-implicitDefEqProofs[gJ,aN,hw,h1]
 refine aF (fun i:Nat=>aj 28 [(0,.p (aN xs)),(1,.p (.int .i64 ((left-xs.length-mz xs i:Nat):Int))),(5,.p (.int .i64 i))]) (fun _=>[]) (fun i=>i≤xs.length∧xs.length+mz xs i≤left) (fun i=>xs.length-i) 0 (by simp[mz];omega) ?_ ?_
 ·refine aK rfl ?_
  simp[below,aN,mz]
  omega
 ·intro i ⟨hi,hx⟩
  simp-implicitDefEqProofs[aN]
  refine bh (fun h1=>?_) (fun h1=>?_)
  ·simp at h1
   have hg:=List.getElem?_eq_getElem h1
   have hle:=hs _ (List.getElem_mem h1)
   have hsu:=ED h1
   have hsl:=Ix (xs:=xs) (i:=i+1)
   have hw2:IntKind.i64.wrap (((left-xs.length-mz xs i:Nat):Int)-(xs[i].length:Int))=((left-xs.length-mz xs i:Nat):Int)-(xs[i].length:Int):=al (by omega) (by omega)
   by_cases h2:xs.length+mz xs (i+1)≤left
   ·have h3:¬((left-xs.length-mz xs i:Nat):Int)-(xs[i].length:Int)<0:=by omega
    have h4:((left-xs.length-mz xs i:Nat):Int)-(xs[i].length:Int)=((left-xs.length-mz xs (i+1):Nat):Int):=by omega
    rw[h4] at h3
    replace hw2:=hw2.trans h4
    clear hle hsu hsl
    simp-implicitDefEqProofs[hg,hw2,h3]
    refine⟨i+1,⟨h1,h2⟩,by omega,aK rfl (by simp[below,aN,w1 (i:=i) (by omega)])⟩
   ·have h3:((left-xs.length-mz xs i:Nat):Int)-(xs[i].length:Int)<0:=by omega
    have h5:¬szW xs≤left:=by omega
    clear hle hsu hsl
    simp-implicitDefEqProofs[hg,hw2,h3,h5]
  ·simp at h1
   have hta:=GB (xs:=xs) h1
   have h5:szW xs≤left:=by omega
   have h6:((left-xs.length-mz xs i:Nat):Int)=((left-szW xs:Nat):Int):=by omega
   simp-implicitDefEqProofs[h5,h6]
theorem Kq(f:Fd)(hf:f.fit)(left:Nat)(hl:left≤1048576):VF Tryz.prog G jX [.agg (f.cs.map .p),.p (.int .i64 left)] (.p (.int .i64 (bX left (f.sz-1)))):=by
 obtain⟨f1,⟨f2,f3⟩,f4,f5⟩:=hf
 have hec:=f.cs_eq'
 have hsz:f.sz=1+f.name.length+szW f.params+aD f.body:=rfl
 refine AC.go zL ?_
 have hw:IntKind.i64.wrap ((left:Int)-f.name.length)=(left:Int)-f.name.length:=al (by simp only[BL] at f1;omega) (by omega)
 by_cases h1:f.name.length≤left
 case neg=>
  have h2:(left:Int)-f.name.length<0:=by omega
  rw[bO (by omega)]
  simp-implicitDefEqProofs[mI,hec,hw,h2]
 have h2:¬(left:Int)-f.name.length<0:=by omega
 have e2:(left:Int)-f.name.length=((left-f.name.length:Nat):Int):=by omega
 rw[e2] at h2
 replace hw:=hw.trans e2
 simp-implicitDefEqProofs[mI,hec,hw,h2]
 refine(Ao G f.params (left-f.name.length) (by omega) f2 f3).use ?_
 by_cases h3:szW f.params≤left-f.name.length
 case neg=>
  rw[if_neg h3,bO (by omega)]
  simp-implicitDefEqProofs[]
 have n3:¬((left-f.name.length-szW f.params:Nat):Int)<0:=by omega
 rw[if_pos h3]
 simp-implicitDefEqProofs[n3]
 refine(Dk G f.body f5 f4 (left-f.name.length-szW f.params) (by omega)).use ?_
 by_cases h4:aD f.body≤left-f.name.length-szW f.params
 case neg=>
  rw[bO h4,bO (by omega)]
  simp-implicitDefEqProofs[]
 have n4:¬((left-f.name.length-szW f.params-aD f.body:Nat):Int)<0:=by omega
 rw[dZ h4,dZ (by omega)]
 simp-implicitDefEqProofs[n4]
 omega
def Kj(l:List Fd):Prop:=l.length≤BL∧∀f∈l,f.fit
theorem zC(l:List Fd)(hf:Kj l)(left:Nat)(hl:left≤1048576):VF Tryz.prog G eN [.agg [.p (fdL l)],.p (.int .i64 left)] (.p (.int .i64 (bX left (bn l)))):=by
 have hS:=Ie G l left hl hf.1 (fun f hm left hl=>Kq G f (hf.2 f hm) left hl)
 refine AC.go sr ?_
 simp-implicitDefEqProofs[lB]
 refine hS.use ?_
 by_cases h:bn l≤left
 ·have n:¬((left-bn l:Nat):Int)<0:=by omega
  rw[dZ h]
  simp-implicitDefEqProofs[n]
 ·rw[bO h]
  simp-implicitDefEqProofs[]
theorem ES:∀(N:Nat) (e:Ex),e.sz≤N→e.sz≤1048576→VF Tryz.prog G ic [.agg (e.cs.map .p)] (.agg (e.cs.map .p)):=by
 intro N
 induction N with
 |zero=>intro e he;have:=e.sz_pos;omega
 |succ N ih=>
  intro e he hb
  have hec:=e.cs_eq
  have hsz:=e.sz_eq
  have hkl:=aM e.kids
  have hS:=xt G e.kids (by omega) (fun x hx=>ih x (by have:=az hx;omega) (by have:=az hx;omega))
  refine AC.go wR ?_
  simp-implicitDefEqProofs[pD,hec]
  refine hS.use ?_
  simp-implicitDefEqProofs[]
theorem Et(l:List Ex)(hb:cR l≤1048576):VF Tryz.prog G dL [.p (exL l)] (.p (exL l)):=
 xt G l (by have:=aM l;omega) (fun e he=>ES G e.sz e (Nat.le_refl _) (by have:=az he;omega))
theorem Gh:∀(N:Nat) (e:Sm),e.sz≤N→e.sz≤1048576→VF Tryz.prog G hZ [.agg (e.cs.map .p)] (.agg (e.cs.map .p)):=by
 intro N
 induction N with
 |zero=>intro e he;have:=e.sz_pos;omega
 |succ N ih=>
  intro e he hb
  have hec:=e.cs_eq
  have hsz:=e.sz_eq
  have h1:=aR e.body
  have h2:=aR e.els
  have hB:=rE G e.body (by omega) (fun x hx=>ih x (by have:=aL hx;omega) (by have:=aL hx;omega))
  have hE:=rE G e.els (by omega) (fun x hx=>ih x (by have:=aL hx;omega) (by have:=aL hx;omega))
  refine AC.go wE ?_
  simp-implicitDefEqProofs[pi,hec]
  refine(Et G e.args (by omega)).use ?_
  simp-implicitDefEqProofs[]
  refine hB.use ?_
  simp-implicitDefEqProofs[]
  refine hE.use ?_
  simp-implicitDefEqProofs[]
theorem Df(l:List Sm)(hb:aD l≤1048576):VF Tryz.prog G cW [.p (smL l)] (.p (smL l)):=
 rE G l (by have:=aR l;omega) (fun e he=>Gh G e.sz e (Nat.le_refl _) (by have:=aL he;omega))
def kT(l:List (List UInt8))(i:Nat):List (List UInt8):=l.take i++List.replicate (l.length-i) []
theorem Dt{l:List (List UInt8)}{i:Nat}(h:i<l.length):(kT l i).set i l[i]=kT l (i+1):=by
 have hl:(l.take i).length=i:=by simp;omega
 have e:l.length-i=(l.length-(i+1))+1:=by omega
 show(l.take i++List.replicate (l.length-i) []).set i l[i]=l.take (i+1)++List.replicate (l.length-(i+1)) []
 rw[List.set_append_right _ _ (by omega),hl,Nat.sub_self,e,List.replicate_succ,List.set_cons_zero,ah h,List.append_assoc]
 rfl
theorem Di{l:List (List UInt8)}{i:Nat}(h:i<l.length):(kT l i)[i]?=some []:=by
 have hl:(l.take i).length=i:=by simp;omega
 rw[kT,List.getElem?_append_right (by omega),hl,Nat.sub_self,List.getElem?_replicate,if_pos (by omega)]
theorem DL{l:List (List UInt8)}{i:Nat}(h:i≤l.length):(kT l i).length=l.length:=by simp[kT];omega
theorem AB(l:List (List UInt8))(hb:l.length≤1048576):AC Tryz.prog G eO [.p (aN l)] [] fun x h=>x= .ret (.sl 0 1 0 l.length)∧h=[xI l]:=by
 refine AC.go rR ?_
 have hbl:aN l= .lst 1 (l.map fun n=>[.str n]):=rfl
 simp-implicitDefEqProofs[lq,hbl]
 refine⟨by omega,?_⟩
 refine aF (fun i:Nat=>aj 22 [(0,.p (aN l)),(3,.sl 0 1 0 l.length),(4,.p (.int .i64 i))]) (fun i=>[xI (kT l i)]) (fun i=>i≤l.length) (fun i=>l.length-i) 0 (by simp) ?_ ?_
 ·refine dm [0] rfl (by simp) (aE (by simp[kT]) (by simp) bj) ?_
  simp[below,ren,aN]
 ·intro i hi
  have hlen:=DL hi
  simp-implicitDefEqProofs[hbl]
  refine bh (fun h1=>?_) (fun h1=>?_)
  ·simp at h1
   have hg:=List.getElem?_eq_getElem h1
   have hg2:=Di h1
   have hset:((kT l i).map fun n=>[AV.p (.str n)]).set i [.p (.str l[i])]=(kT l (i+1)).map fun n=>[AV.p (.str n)]:=by rw[←Dt h1,List.map_set]
   have hbo:xI (kT l i)= .row 1 ((kT l i).map fun n=>[.p (.str n)]):=rfl
   clear hlen
   simp-implicitDefEqProofs[hg,hbo,hg2,h1,hset]
   refine⟨i+1,h1,by omega,dm [0] rfl (by simp) (aE rfl (by simp) bj) ?_⟩
   simp[below,ren,aN,w1 (i:=i) (by omega)]
  ·simp at h1
   have:i=l.length:=by omega
   subst this
   simp-implicitDefEqProofs[kT]
theorem zt(l:List (List UInt8))(hb:l.length≤1048576):VF Tryz.prog G eO [.p (aN l)] (.p (aN l)):=AC.freeze (AB G l hb) (.one (kX rfl) .nil)
theorem Kx(f:Fd)(hb:f.sz≤1048576):VF Tryz.prog G kf [.agg (f.cs.map .p)] (.agg (f.cs.map .p)):=by
 have hec:=f.cs_eq'
 have hsz:f.sz=1+f.name.length+szW f.params+aD f.body:=rfl
 have hw:szW f.params=f.params.length+(f.params.map List.length).sum:=rfl
 refine AC.go yT ?_
 simp-implicitDefEqProofs[sV,hec]
 refine(zt G f.params (by omega)).use ?_
 simp-implicitDefEqProofs[]
 refine(Df G f.body (by omega)).use ?_
 simp-implicitDefEqProofs[]
theorem zO(l:List Fd)(hb:bn l≤1048576):VF Tryz.prog G dK [.agg [.p (fdL l)]] (.agg [.p (fdL l)]):=by
 have hS:=Ii G l (by have:=bK l;omega) (fun f hm=>Kx G f (by have:=bV hm;omega))
 refine AC.go rM ?_
 simp-implicitDefEqProofs[kZ]
 refine hS.use ?_
 simp-implicitDefEqProofs[]
theorem FQ:∀(N:Nat) (e:Ex),e.sz≤N→e.sz≤1048576→VF Tryz.prog G io [.agg (e.cs.map .p),.agg (e.cs.map .p)] (.p (.bool true)):=by
 intro N
 induction N with
 |zero=>intro e he;have:=e.sz_pos;omega
 |succ N ih=>
  intro e he hb
  have hec:=e.cs_eq
  have hsz:=e.sz_eq
  have hkl:=aM e.kids
  have hS:=xn G e.kids (by omega) (fun x hx=>ih x (by have:=az hx;omega) (by have:=az hx;omega))
  refine AC.go wV ?_
  simp-implicitDefEqProofs[pF,hec]
  refine hS.use ?_
  simp-implicitDefEqProofs[]
theorem DA(l:List Ex)(hb:cR l≤1048576):VF Tryz.prog G eC [.p (exL l),.p (exL l)] (.p (.bool true)):=
 xn G l (by have:=aM l;omega) (fun e he=>FQ G e.sz e (Nat.le_refl _) (by have:=az he;omega))
theorem Ft:∀(N:Nat) (e:Sm),e.sz≤N→e.sz≤1048576→VF Tryz.prog G hY [.agg (e.cs.map .p),.agg (e.cs.map .p)] (.p (.bool true)):=by
 intro N
 induction N with
 |zero=>intro e he;have:=e.sz_pos;omega
 |succ N ih=>
  intro e he hb
  have hec:=e.cs_eq
  have hsz:=e.sz_eq
  have h1:=aR e.body
  have h2:=aR e.els
  have hB:=sc G e.body (by omega) (fun x hx=>ih x (by have:=aL hx;omega) (by have:=aL hx;omega))
  have hE:=sc G e.els (by omega) (fun x hx=>ih x (by have:=aL hx;omega) (by have:=aL hx;omega))
  refine AC.go wL ?_
  simp-implicitDefEqProofs[pa,hec]
  refine(DA G e.args (by omega)).use ?_
  simp-implicitDefEqProofs[]
  refine hB.use ?_
  simp-implicitDefEqProofs[]
  refine hE.use ?_
  simp-implicitDefEqProofs[]
theorem DW(l:List Sm)(hb:aD l≤1048576):VF Tryz.prog G dN [.p (smL l),.p (smL l)] (.p (.bool true)):=
 sc G l (by have:=aR l;omega) (fun e he=>Ft G e.sz e (Nat.le_refl _) (by have:=aL he;omega))
theorem ze(xs:List (List UInt8))(hb:xs.length≤1048576):VF Tryz.prog G gI [.p (aN xs),.p (aN xs)] (.p (.bool true)):=by
 refine AC.go rN ?_
 have hsl:aN xs= .lst 1 (xs.map fun w=>[.str w]):=rfl
 simp-implicitDefEqProofs[kU,hsl]
 refine aF (fun i:Nat=>aj 26 [(0,.p (aN xs)),(1,.p (aN xs)),(5,.p (.int .i64 i))]) (fun _=>[]) (fun i=>i≤xs.length) (fun i=>xs.length-i) 0 (by simp) (aK rfl (by simp[below,hsl])) ?_
 intro i hi
 simp-implicitDefEqProofs[hsl]
 refine bh (fun h1=>?_) (fun h1=>?_)
 ·simp at h1
  have hx:=List.getElem?_eq_getElem h1
  generalize xs[i]=v at hx
  simp-implicitDefEqProofs[hx]
  exact⟨i+1,h1,by omega,aK rfl (by simp[below,hsl,w1 (i:=i) (by omega)])⟩
 ·simp at h1
  simp-implicitDefEqProofs[]
theorem JR(f:Fd)(hb:f.sz≤1048576):VF Tryz.prog G kb [.agg (f.cs.map .p),.agg (f.cs.map .p)] (.p (.bool true)):=by
 have hec:=f.cs_eq'
 have hsz:f.sz=1+f.name.length+szW f.params+aD f.body:=rfl
 have hw:szW f.params=f.params.length+(f.params.map List.length).sum:=rfl
 refine AC.go zW ?_
 simp-implicitDefEqProofs[sO,hec]
 refine(ze G f.params (by omega)).use ?_
 simp-implicitDefEqProofs[]
 refine(DW G f.body (by omega)).use ?_
 simp-implicitDefEqProofs[]
theorem zi(l:List Fd)(hb:bn l≤1048576):VF Tryz.prog G gU [.agg [.p (fdL l)],.agg [.p (fdL l)]] (.p (.bool true)):=by
 have hS:=Jl G l (by have:=bK l;omega) (fun f hm=>JR G f (by have:=bV hm;omega))
 refine AC.go rJ ?_
 simp-implicitDefEqProofs[lz]
 refine hS.use ?_
 simp-implicitDefEqProofs[]
end Go.Proofs.YtaopbokndkdieaaGreatDoor
