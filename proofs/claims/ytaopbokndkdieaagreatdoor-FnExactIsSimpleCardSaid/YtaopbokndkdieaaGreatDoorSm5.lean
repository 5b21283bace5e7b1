/-
  Contracts and lemmas that the card needs, part 5.
-/
import Derived.Test.YtaopbokndkdieaaGreatDoorSm4
import Derived.Laws.RangeAny
import Derived.Laws.RangeString
namespace Go.Proofs.YtaopbokndkdieaaGreatDoor
open Go Go.Aw
set_option maxRecDepth 100000
set_option maxHeartbeats 4000000
theorem ah{α:Type}{xs:List α}{i:Nat}(h:i<xs.length):xs.take (i+1)=xs.take i++[xs[i]]:=by
 rw[List.take_add_one,List.getElem?_eq_getElem h];rfl
def aN(l:List (List UInt8)):PV:= .lst 1 (l.map fun w=>[.str w])
def ND(l:List (List UInt8)):List (List AV):=l.map fun w=>[.p (.str w)]
def xQ(l:List (List UInt8)):AO:= .row 1 (l.map fun n=>[.p (.str n)])
theorem xo(l:List (List UInt8)):∀x∈ND l,af 0 x:=by
 intro x hx;obtain⟨m,_,rfl⟩:=List.mem_map.1 hx;simp[af,below]
theorem kY{l:List (List UInt8)}{id:Nat}{h:List AO}(e:h[id]?=some (xQ l)):View h (.sl id 1 0 l.length) (aN l):=by
 have:=gk (h:=h) (id:=id) (sz:=1) (n:=l.length) (ls:=l.map fun n=>[.str n]) (by rw[e,xQ];simp) (by simp) (fun x hx=>by obtain⟨b,_,rfl⟩:=List.mem_map.1 hx;rfl)
 exact this
end Go.Proofs.YtaopbokndkdieaaGreatDoor
namespace Go.Proofs.YtaopbokndkdieaaGreatDoor
open Go Go.Aw
set_option maxRecDepth 100000
set_option maxHeartbeats 4000000
def dP(c:UInt8):Bool:=decide (97≤c.toNat)&&decide (c.toNat≤122)
def keyW:List (List UInt8):=[[102,110],[108,101,116],[115,97,121],[112,117,116],[105,102],[101,108,115,101],[108,111,111,112],[98,97,99,107],[100,111]]
def aH(s:List UInt8):Bool:=s.all dP&&decide (0<s.length)&&decide (s.length≤4)&& !keyW.contains s
def vf:List UInt8:=[40,41,123,125,59,44,43,45,42,47,37,60,61,38,33,64]
def qC(s:List UInt8)(c:Int):Int:=match s.findIdx? (fun x=>(x.toNat:Int)==c) with|some i=>i|none=> -1
def zH(c:Int):Int:=if 97≤c∧c≤122 then 1 else if 48≤c∧c≤57 then 2 else if 0≤qC vf c then 3 else if c=32∨c=10 then 4 else 0
theorem HO(x:UInt8):(zH (x.toNat:Int)=1)↔dP x=true:=by
 have h:(97≤(x.toNat:Int)∧(x.toNat:Int)≤122)↔dP x=true:=by simp[dP];omega
 unfold zH
 constructor
 ·intro e
  split at e
  ·rename_i h1;exact h.1 h1
  ·repeat' split at e
   all_goals omega
 ·intro e;rw[if_pos (h.2 e)]
def xL(s:List UInt8):Int:=match s.findIdx? (fun x=> !dP x) with|some i=>i|none=> -1
theorem FG(s:List UInt8):decide (xL s<0)=s.all dP:=by
 unfold xL
 cases h:s.findIdx? (fun x=> !dP x) with
 |none=>
  rw[List.findIdx?_eq_none_iff] at h
  have:s.all dP=true:=List.all_eq_true.2 fun x hx=>by have:=h x hx;simpa using this
  simp[this]
 |some i=>
  rw[List.findIdx?_eq_some_iff_getElem] at h
  obtain⟨h1,h2,_⟩:=h
  have:s.all dP=false:=List.all_eq_false.2 ⟨_,List.getElem_mem h1,by simpa using h2⟩
  rw[this];simp
def idxS(l:List (List UInt8))(s:List UInt8):Int:=match l.findIdx? (fun w=>w==s) with|some i=>i|none=> -1
theorem Fj(l:List (List UInt8))(s:List UInt8):decide (0≤idxS l s)=l.contains s:=by
 unfold idxS
 cases h:l.findIdx? (fun w=>w==s) with
 |none=>
  rw[List.findIdx?_eq_none_iff] at h
  have:l.contains s=false:=by
   cases hc:l.contains s with
   |false=>rfl
   |true=>
    have hm:s∈l:=by simpa using hc
    have:=h s hm
    simp at this
  rw[this];simp
 |some i=>
  rw[List.findIdx?_eq_some_iff_getElem] at h
  obtain⟨h1,h2,_⟩:=h
  have:l.contains s=true:=by
   simp only[beq_iff_eq] at h2
   rw[List.contains_iff_mem,←h2];exact List.getElem_mem h1
  rw[this];simp
variable (G:aI)
theorem rL(s:List UInt8)(c:Int)(hb:s.length≤1048576):VF Tryz.prog G jQ [.p (.str s),.p (.int .u8 c)] (.p (.int .i64 (qC s c))):=by
 refine AC.go uI ?_
 simp-implicitDefEqProofs[mO]
 refine aF (fun i:Nat=>aj 18 [(0,.p (.str s)),(1,.p (.int .u8 c)),(5,.p (.int .i64 i))]) (fun _=>[]) (fun i=>i≤s.length∧∀x∈s.take i,(x.toNat:Int)≠c) (fun i=>s.length-i) 0 (by simp) ?_ ?_
 ·exact aJ rfl (by simp[below])
 ·intro i ⟨hi,hn⟩
  simp-implicitDefEqProofs[]
  refine bh (fun h1=>?_) (fun h1=>?_)
  ·simp at h1
   have hg:=List.getElem?_eq_getElem h1
   by_cases he:(s[i].toNat:Int)=c
   ·have hf:qC s c=i:=by
     have:s.findIdx? (fun x=>(x.toNat:Int)==c)=some i:=by
      rw[List.findIdx?_eq_some_iff_getElem]
      exact⟨h1,by simpa using he,fun j hj=>by have:=hn s[j] (List.mem_take_iff_getElem.2 ⟨j,by omega,rfl⟩);simpa using this⟩
     rw[qC,this]
    simp-implicitDefEqProofs[hg,he,hf]
   ·simp-implicitDefEqProofs[hg,he]
    refine⟨i+1,⟨h1,fun p hp=>?_⟩,by omega,aJ rfl ?_⟩
    ·rw[ah h1] at hp
     rcases List.mem_append.1 hp with hp|hp
     ·exact hn p hp
     ·rw[List.mem_singleton.1 hp];exact he
    ·simp[below,w1 (i:=i) (by omega)]
  ·simp at h1
   rw[List.take_of_length_le h1] at hn
   have hf:qC s c= -1:=by
    have:s.findIdx? (fun x=>(x.toNat:Int)==c)=none:=by
     rw[List.findIdx?_eq_none_iff];intro x hx;simpa using hn x hx
    rw[qC,this]
   simp-implicitDefEqProofs[hf]
theorem DA(c:Int):VF Tryz.prog G jr [.p (.int .u8 c)] (.p (.int .i64 (zH c))):=by
 refine AC.go uV ?_
 simp-implicitDefEqProofs[nD]
 unfold zH
 by_cases h1:97≤c
 ·by_cases h2:c≤122
  ·simp-implicitDefEqProofs[h1,h2]
  ·have h3:¬c≤57:=by omega
   have h4:¬c=32:=by omega
   have h5:¬c=10:=by omega
   have h6:48≤c:=by omega
   simp-implicitDefEqProofs[h1,h2,h3,h6]
   refine(rL G vf c (by decide)).use ?_
   generalize qC vf c=w
   by_cases hf:0≤w
   ·simp-implicitDefEqProofs[hf]
   ·simp-implicitDefEqProofs[hf,h4,h5]
 ·simp-implicitDefEqProofs[h1]
  by_cases h2:48≤c
  ·by_cases h3:c≤57
   ·simp-implicitDefEqProofs[h2,h3]
   ·have h4:¬c=32:=by omega
    have h5:¬c=10:=by omega
    simp-implicitDefEqProofs[h2,h3]
    refine(rL G vf c (by decide)).use ?_
    generalize qC vf c=w
    by_cases hf:0≤w
    ·simp-implicitDefEqProofs[hf]
    ·simp-implicitDefEqProofs[hf,h4,h5]
  ·simp-implicitDefEqProofs[h2]
   refine(rL G vf c (by decide)).use ?_
   generalize qC vf c=w
   by_cases hf:0≤w
   ·simp-implicitDefEqProofs[hf]
   ·by_cases h4:c=32
    ·simp-implicitDefEqProofs[hf,h4]
    ·by_cases h5:c=10
     ·simp-implicitDefEqProofs[hf,h4,h5]
     ·simp-implicitDefEqProofs[hf,h4,h5]
theorem HS(s:List UInt8)(hb:s.length≤140737488355328):VF Tryz.prog G lR [.p (.str s),.p (.int .i64 1)] (.p (.bool (s.all dP&&decide (0<s.length)))):=by
 refine AC.go yA ?_
 simp-implicitDefEqProofs[qt]
 refine aF (fun i:Nat=>aj 21 [(0,.p (.str s)),(1,.p (.int .i64 1)),(5,.p (.int .i64 i))]) (fun _=>[]) (fun i=>i≤s.length∧∀x∈s.take i,dP x=true) (fun i=>s.length-i) 0 (by simp) ?_ ?_
 ·exact aJ rfl (by simp[below])
 ·intro i ⟨hi,hn⟩
  simp-implicitDefEqProofs[]
  refine bh (fun h1=>?_) (fun h1=>?_)
  ·simp at h1
   have hg:=List.getElem?_eq_getElem h1
   simp-implicitDefEqProofs[hg]
   refine(DA G _).use ?_
   have hcl:=HO s[i]
   by_cases he:dP s[i]=true
   ·have hc:=hcl.2 he
    simp-implicitDefEqProofs[hc]
    refine⟨i+1,⟨h1,fun p hp=>?_⟩,by omega,aJ rfl ?_⟩
    ·rw[ah h1] at hp
     rcases List.mem_append.1 hp with hp|hp
     ·exact hn p hp
     ·rw[List.mem_singleton.1 hp];exact he
    ·simp[below,w1 (i:=i) (by omega)]
   ·have hc:¬zH (s[i].toNat:Int)=1:=fun e=>he (hcl.1 e)
    have ha:s.all dP=false:=List.all_eq_false.2 ⟨_,List.getElem_mem h1,by simpa using he⟩
    simp-implicitDefEqProofs[hc,ha]
  ·simp at h1
   rw[List.take_of_length_le h1] at hn
   have ha:s.all dP=true:=List.all_eq_true.2 hn
   simp-implicitDefEqProofs[ha]
theorem Bt:VF Tryz.prog G fC [] (.p (aN keyW)):=by
 have key:AC Tryz.prog G fC [] [] fun x h=>x= .ret (.sl 0 1 0 9)∧h=[.row 1 (keyW.map fun w=>[.p (.str w)])]:=by
  refine AC.go tu ?_
  simp-implicitDefEqProofs[mo,keyW]
 exact AC.freeze key (.one (gk (ls:=keyW.map fun w=>[.str w]) (by simp) (by simp[keyW]) (by simp)) .nil)
theorem JD(s:List UInt8):VF Tryz.prog G mb [.p (.str s)] (.p (.bool (keyW.contains s))):=by
 refine AC.go xS ?_
 have hsl:aN keyW= .lst 1 (keyW.map fun w=>[.str w]):=rfl
 have hkl:keyW.length=9:=rfl
 simp-implicitDefEqProofs[qx]
 refine(Bt G).use ?_
 simp-implicitDefEqProofs[]
 refine aF (fun i:Nat=>aj 18 [(0,.p (.str s)),(3,.p (aN keyW)),(4,.p (.int .i64 i))]) (fun _=>[]) (fun i=>i≤keyW.length∧∀w∈keyW.take i,w≠s) (fun i=>keyW.length-i) 0 (by simp) ?_ ?_
 ·exact aJ rfl (by simp[below,aN])
 ·intro i ⟨hi,hn⟩
  generalize keyW=L at*
  simp-implicitDefEqProofs[hsl]
  refine bh (fun h1=>?_) (fun h1=>?_)
  ·simp at h1
   have hg:=List.getElem?_eq_getElem h1
   by_cases he:L[i]=s
   ·have hm:s∈L:=by rw[←he];exact List.getElem_mem h1
    simp-implicitDefEqProofs[hg,he,hm]
   ·simp-implicitDefEqProofs[hg,he]
    refine⟨i+1,⟨h1,fun p hp=>?_⟩,by omega,aJ rfl ?_⟩
    ·rw[ah h1] at hp
     rcases List.mem_append.1 hp with hp|hp
     ·exact hn p hp
     ·rw[List.mem_singleton.1 hp];exact he
    ·simp[below,w1 (i:=i) (by omega)]
  ·simp at h1
   rw[List.take_of_length_le h1] at hn
   have hm:¬s∈L:=fun hm=>hn s hm rfl
   simp-implicitDefEqProofs[hm]
theorem qn(s:List UInt8)(hb:s.length≤140737488355328):VF Tryz.prog G cL [.p (.str s)] (.p (.bool (aH s))):=by
 refine AC.go wy ?_
 simp-implicitDefEqProofs[pk]
 refine(HS G s hb).use ?_
 cases h1:(s.all dP&&decide (0<s.length)) with
 |false=>
  have hi:aH s=false:=by rw[aH,h1];rfl
  simp-implicitDefEqProofs[hi]
 |true=>
  by_cases h4:s.length≤4
  ·have h4i:(s.length:Int)≤4:=by omega
   have hi:aH s= !keyW.contains s:=by rw[aH,h1];simp[h4]
   simp-implicitDefEqProofs[h4i]
   refine(JD G s).use ?_
   rw[hi]
   simp-implicitDefEqProofs[]
  ·have h4i:¬(s.length:Int)≤4:=by omega
   have hi:aH s=false:=by rw[aH,h1];simp[h4]
   simp-implicitDefEqProofs[h4i,hi]
end Go.Proofs.YtaopbokndkdieaaGreatDoor
namespace Go.Proofs.YtaopbokndkdieaaGreatDoor
open Go Go.Aw
set_option maxRecDepth 100000
inductive Ex where
 |mk (op n:Int) (name:List UInt8) (kids:List Ex)
inductive Sm where
 |mk (op:Int) (name:List UInt8) (args:List Ex) (body els:List Sm)
structure Fd where (name:List UInt8) (params:List (List UInt8)) (body:List Sm)
def Ex.op:Ex→Int| .mk o _ _ _=>o
def Ex.n:Ex→Int| .mk _ n _ _=>n
def Ex.name:Ex→List UInt8| .mk _ _ s _=>s
def Ex.kids:Ex→List Ex| .mk _ _ _ k=>k
def Sm.op:Sm→Int| .mk o _ _ _ _=>o
def Sm.name:Sm→List UInt8| .mk _ s _ _ _=>s
def Sm.args:Sm→List Ex| .mk _ _ a _ _=>a
def Sm.body:Sm→List Sm| .mk _ _ _ b _=>b
def Sm.els:Sm→List Sm| .mk _ _ _ _ e=>e
mutual
def Ex.cs:Ex→List PV
 | .mk o n s k=>[.int .i64 o,.int .i64 n,.str s,.lst 4 (GY k)]
def GY:List Ex→List (List PV)
 |[]=>[]
 |e::r=>e.cs::GY r
end
mutual
def Sm.cs:Sm→List PV
 | .mk o s a b e=>[.int .i64 o,.str s,.lst 4 (GY a),.lst 5 (Ho b),.lst 5 (Ho e)]
def Ho:List Sm→List (List PV)
 |[]=>[]
 |s::r=>s.cs::Ho r
end
theorem ur:∀l:List Ex,GY l=l.map Ex.cs
 |[]=>rfl
 |e::r=>by rw[GY,ur r];rfl
theorem ui:∀l:List Sm,Ho l=l.map Sm.cs
 |[]=>rfl
 |e::r=>by rw[Ho,ui r];rfl
def exL(l:List Ex):PV:= .lst 4 (l.map Ex.cs)
def smL(l:List Sm):PV:= .lst 5 (l.map Sm.cs)
theorem Ex.cs_eq(e:Ex):e.cs=[.int .i64 e.op,.int .i64 e.n,.str e.name,exL e.kids]:=by
 cases e;rw[Ex.cs,ur];rfl
theorem Sm.cs_eq(s:Sm):s.cs=[.int .i64 s.op,.str s.name,exL s.args,smL s.body,smL s.els]:=by
 cases s;rw[Sm.cs,ur,ui,ui];rfl
@[simp] theorem Ex.cs_len(e:Ex):e.cs.length=4:=by cases e;rfl
@[simp] theorem Ex.cs_take(e:Ex):List.take 4 (e.cs.map AV.p)=e.cs.map AV.p:=by cases e;rfl
@[simp] theorem Sm.cs_len(s:Sm):s.cs.length=5:=by cases s;rfl
@[simp] theorem Sm.cs_take(s:Sm):List.take 5 (s.cs.map AV.p)=s.cs.map AV.p:=by cases s;rfl
def Fd.cs(f:Fd):List PV:=[.str f.name,aN f.params,smL f.body]
@[simp] theorem Fd.cs_len(f:Fd):f.cs.length=3:=rfl
@[simp] theorem Fd.cs_take(f:Fd):List.take 3 (f.cs.map AV.p)=f.cs.map AV.p:=rfl
def fdL(l:List Fd):PV:= .lst 3 (l.map Fd.cs)
mutual
def Ex.sz:Ex→Nat
 | .mk _ _ s k=>1+s.length+cS k
def cS:List Ex→Nat
 |[]=>0
 |e::r=>e.sz+cS r
end
mutual
def Sm.sz:Sm→Nat
 | .mk _ s a b e=>1+s.length+cS a+aD b+aD e
def aD:List Sm→Nat
 |[]=>0
 |s::r=>s.sz+aD r
end
def Fd.sz(f:Fd):Nat:=1+f.name.length+(f.params.length+(f.params.map List.length).sum)+aD f.body
def bn(l:List Fd):Nat:=(l.map Fd.sz).sum
theorem Ex.sz_eq(e:Ex):e.sz=1+e.name.length+cS e.kids:=by cases e;rfl
theorem Sm.sz_eq(s:Sm):s.sz=1+s.name.length+cS s.args+aD s.body+aD s.els:=by cases s;rfl
theorem sW:∀a b:List Ex,cS (a++b)=cS a+cS b
 |[],b=>by simp[cS]
 |e::r,b=>by simp only[List.cons_append,cS,sW r b];omega
theorem sG:∀a b:List Sm,aD (a++b)=aD a+aD b
 |[],b=>by simp[aD]
 |e::r,b=>by simp only[List.cons_append,aD,sG r b];omega
theorem az:∀{l:List Ex} {e:Ex},e∈l→e.sz≤cS l
 |x::r,e,h=>by
  simp only[cS]
  rcases List.mem_cons.1 h with rfl|h
  ·omega
  ·have:=az h;omega
theorem aL:∀{l:List Sm} {e:Sm},e∈l→e.sz≤aD l
 |x::r,e,h=>by
  simp only[aD]
  rcases List.mem_cons.1 h with rfl|h
  ·omega
  ·have:=aL h;omega
theorem aM:∀l:List Ex,l.length≤cS l
 |[]=>Nat.le_refl _
 |e::r=>by have:=aM r;have:=e.sz_eq;simp only[cS,List.length_cons];omega
theorem aR:∀l:List Sm,l.length≤aD l
 |[]=>Nat.le_refl _
 |e::r=>by have:=aR r;have:=e.sz_eq;simp only[aD,List.length_cons];omega
mutual
def Ex.parts:Ex→Nat
 | .mk _ _ _ k=>1+de k
def de:List Ex→Nat
 |[]=>0
 |e::r=>e.parts+de r
end
theorem Ex.parts_eq(e:Ex):e.parts=1+de e.kids:=by cases e;rfl
theorem ir:∀a b:List Ex,de (a++b)=de a+de b
 |[],b=>by simp[de]
 |e::r,b=>by simp only[List.cons_append,de,ir r b];omega
mutual
theorem Ex.parts_le:∀e:Ex,e.parts≤e.sz
 | .mk _ _ s k=>by have:=xO k;simp only[Ex.parts,Ex.sz];omega
theorem xO:∀l:List Ex,de l≤cS l
 |[]=>Nat.le_refl _
 |e::r=>by have:=e.parts_le;have:=xO r;simp only[de,cS];omega
end
mutual
def Sm.cnt:Sm→Nat
 | .mk _ _ _ b e=>1+cC b+cC e
def cC:List Sm→Nat
 |[]=>0
 |s::r=>s.cnt+cC r
end
theorem Sm.cnt_eq(s:Sm):s.cnt=1+cC s.body+cC s.els:=by cases s;rfl
theorem nq:∀a b:List Sm,cC (a++b)=cC a+cC b
 |[],b=>by simp[cC]
 |e::r,b=>by simp only[List.cons_append,cC,nq r b];omega
mutual
theorem Sm.cnt_le:∀s:Sm,s.cnt≤s.sz
 | .mk _ s a b e=>by have:=nW b;have:=nW e;simp only[Sm.cnt,Sm.sz];omega
theorem nW:∀l:List Sm,cC l≤aD l
 |[]=>Nat.le_refl _
 |e::r=>by have:=e.cnt_le;have:=nW r;simp only[cC,aD];omega
end
def inR(n lo hi:Int):Bool:=decide (lo≤n)&&decide (n≤hi)
def loK(op:Int):Nat:=if op=1∨op=2 then 0 else if op=11∨op=12 then 1 else if op=13 then 0 else 2
def hiK(op:Int):Nat:=if op=1∨op=2 then 0 else if op=11∨op=12 then 1 else if op=13 then 3 else 2
def zo(op:Int):Bool:=decide (op=2)||decide (op=13)
def iv(e:Ex):Bool:=inR e.op 1 13&&inR e.kids.length (loK e.op) (hiK e.op)&&(zo e.op==aH e.name)&&(zo e.op||decide (e.name=[]))&&inR e.n 0 255&&(decide (e.op=1)||decide (e.n=0))
def aW:Nat→Ex→Bool
 |0,_=>false
 |d+1,e=>iv e&&e.kids.all (aW d)
def fI(e:Ex):Bool:=aW 6 e&&decide (e.parts≤30)
def jL(op:Int):Nat:=if op=4 then 2 else 1
def dd(op:Int):Bool:=decide (op=1)||decide (op=2)
def er(s:Sm):Bool:=inR s.op 1 8&&decide (s.args.length=jL s.op)&&(dd s.op==aH s.name)&&(dd s.op||decide (s.name=[]))&&s.args.all fI&&
 (!decide (s.op=8)||(match s.args with|a::_=>decide (a.op=13)|[]=>false))&&(s.els.isEmpty||decide (s.op=5))&&(s.body.isEmpty||decide (s.op=5)||decide (s.op=6))
def aq:Nat→Sm→Bool
 |0,_=>false
 |d+1,s=>er s&&s.body.all (aq d)&&s.els.all (aq d)
def gx(f:Fd):Bool:=f.params.all aH&&aH f.name&&decide (f.params.length≤3)&&f.body.all (aq 4)
def iB(l:List Fd):Nat:=(l.map fun f=>cC f.body).sum
def bH(l:List Fd):Bool:=inR l.length 1 4&&l.all gx&&decide (iB l≤40)
end Go.Proofs.YtaopbokndkdieaaGreatDoor
namespace Go.Proofs.YtaopbokndkdieaaGreatDoor
open Go Go.Aw
set_option maxRecDepth 100000
structure LV where (name:List UInt8) (num block:Nat)
structure WS where (vs:List LV) (count:Nat) (code:Int)
def fl(c k:Int):Int:=if c=0 then k else c
theorem uy{c k:Int}(h:c≠0):fl c k=c:=if_neg h
def lkV(vs:List LV)(s:List UInt8):Option LV:=vs.find? fun v=>decide (v.name=s)
def dp(fns:List Fd)(s:List UInt8):Option Nat:=fns.findIdx? fun f=>decide (f.name=s)
def wm(fns:List Fd)(j:Nat):Nat:=match fns[j]? with|some f=>f.params.length|none=>0
def lX(vs:List LV)(s:List UInt8)(c:Int):Int:=match lkV vs s with|none=>fl c 3|some _=>c
def lq(fns:List Fd)(k:Nat)(s:List UInt8)(n:Nat)(c:Int):Int:=
 match dp fns s with|none=>fl c 4|some j=>if k≤j then fl c 4 else if wm fns j=n then c else fl c 5
def fS(fns:List Fd)(k:Nat)(vs:List LV)(o:Int)(s:List UInt8)(n:Nat)(c:Int):Int:=
 if o=2 then lX vs s c else if o=13 then lq fns k s n c else c
mutual
def iC(fns:List Fd)(k:Nat)(vs:List LV):Ex→Int→Int
 | .mk o _ s ks,c=>bg fns k vs ks (fS fns k vs o s ks.length c)
def bg(fns:List Fd)(k:Nat)(vs:List LV):List Ex→Int→Int
 |[],c=>c
 |e::r,c=>bg fns k vs r (iC fns k vs e c)
end
def vnm(n:Nat):List UInt8:=[118,UInt8.ofNat (97+n%26)]
def ue(vs:List LV)(s:List UInt8):List UInt8:=match lkV vs s with|none=>s|some v=>vnm v.num
mutual
def rnE(vs:List LV):Ex→Ex
 | .mk o n s ks=> .mk o n (if o=2 then ue vs s else s) (jC vs ks)
def jC(vs:List LV):List Ex→List Ex
 |[]=>[]
 |e::r=>rnE vs e::jC vs r
end
def mu(vs:List LV)(s:List UInt8)(b:Nat)(c:Int):Int:=match lkV vs s with|none=>c|some v=>if v.block=b then fl c 2 else c
def jH(w:WS)(s:List UInt8)(b:Nat):WS:=⟨⟨s,w.count,b⟩::w.vs,w.count+1,mu w.vs s b w.code⟩
def opW(o:Int)(s:List UInt8)(b:Nat)(w:WS):WS:=if o=1 then jH w s b else if o=2 then⟨w.vs,w.count,lX w.vs s w.code⟩ else w
def opN(o:Int)(s:List UInt8)(w:WS):List UInt8:=if o=1 then vnm w.count else if o=2 then ue w.vs s else s
def WS.back(w:WS)(vs:List LV):WS:=⟨vs,w.count,w.code⟩
mutual
def stW(fns:List Fd)(k b:Nat):Sm→WS→WS
 | .mk o s a bd el,w=>
   let w2:=opW o s b ⟨w.vs,w.count,bg fns k w.vs a w.code⟩
   let w3:=(bx fns k (b+1) bd w2).back w2.vs
   (bx fns k (b+1) el w3).back w2.vs
def bx(fns:List Fd)(k b:Nat):List Sm→WS→WS
 |[],w=>w
 |s::r,w=>bx fns k b r (stW fns k b s w)
end
def cN(ps:List (List UInt8))(w:WS):WS:=ps.foldl (fun w s=>jH w s 0) w
def fnW(fns:List Fd)(k:Nat)(f:Fd):WS:=bx fns k 0 f.body (cN f.params ⟨[],0,if dp fns f.name=some k then 0 else 2⟩)
def gI(fns:List Fd):Nat→List Fd→Int
 |_,[]=>0
 |k,f::r=>if(fnW fns k f).code=0 then gI fns (k+1) r else(fnW fns k f).code
def aX(fns:List Fd):Int:=if bH fns then gI fns 0 fns else 1
abbrev Scp:=List (List UInt8 × Nat)
def gQ(m:Scp)(s:List UInt8):Option Nat:=(m.find? fun x=>decide (x.1=s)).map (·.2)
def iY:Scp→List UInt8→Nat→Scp
 |[],s,n=>[(s,n)]
 |x::r,s,n=>if x.1=s then(s,n)::r else x::iY r s n
def fT:List Scp→List UInt8→Option Nat
 |[],_=>none
 |m::r,s=>match gQ m s with|some n=>some n|none=>fT r s
def fJ(fns:List Fd)(k:Nat)(ch:List Scp)(c:Int)(e:Ex):Int:=
 if e.op=2 then(if(fT ch e.name).isSome then c else fl c 3)
 else if e.op=13 then(match dp (fns.take k) e.name with|none=>fl c 4|some j=>if wm fns j=e.kids.length then c else fl c 5)
 else c
mutual
def Ex.pre:Ex→List Ex
 | .mk o n s ks=> .mk o n s ks::dX ks
def dX:List Ex→List Ex
 |[]=>[]
 |e::r=>e.pre++dX r
end
def AZ(fns:List Fd)(k:Nat)(ch:List Scp)(l:List Ex)(c:Int):Int:=(dX l).foldl (fJ fns k ch) c
def opS(o:Int)(s:List UInt8)(m:Scp)(n:Nat):Scp:=if o=1 then iY m s n else m
def opC(o:Int)(s:List UInt8)(m:Scp)(up:List Scp)(c:Int):Int:=
 if o=1 then(if(gQ m s).isSome then fl c 2 else c) else if o=2 then(if(fT (m::up) s).isSome then c else fl c 3) else c
mutual
def icS(fns:List Fd)(k:Nat):Sm→Scp→List Scp→Int→Scp × Int
 | .mk o s a bd el,m,up,c=>
   let m2:=opS o s m 0
   let c2:=opC o s m up (AZ fns k (m::up) a c)
   (m2,if o=5∨o=6 then(gw fns k el [] (m2::up) (gw fns k bd [] (m2::up) c2).2).2 else c2)
def gw(fns:List Fd)(k:Nat):List Sm→Scp→List Scp→Int→Scp × Int
 |[],m,_,c=>(m,c)
 |s::r,m,up,c=>gw fns k r (icS fns k s m up c).1 up (icS fns k s m up c).2
end
def kx(ps:List (List UInt8))(m:Scp)(c:Int):Scp × Int:=ps.foldl (fun x s=>(iY x.1 s 0,if(gQ x.1 s).isSome then fl x.2 2 else x.2)) (m,c)
def icF(fns:List Fd)(k:Nat)(f:Fd)(c:Int):Int:=
 let c1:=if(match dp fns f.name with|some j=>decide (j<k)|none=>true) then fl c 2 else c
 let x:=kx f.params [] c1
 (gw fns k f.body x.1 [] x.2).2
def jR(fns:List Fd):Nat→List Fd→Int→Int
 |_,[],c=>c
 |k,f::r,c=>jR fns (k+1) r (icF fns k f c)
def SR(g:LV→Nat):Nat→List LV→List Scp→Prop
 |_,_,[]=>False
 |b,vs,m::up=>∃v1 v2,vs=v1++v2∧(∀v∈v1,v.block=b)∧(∀s,(lkV v1 s).map g=gQ m s)∧match b with
  |0=>v2=[]∧up=[]
  |b+1=>SR g b v2 up
theorem Cu(a b:List LV)(s:List UInt8):lkV (a++b) s=match lkV a s with|some v=>some v|none=>lkV b s:=by
 simp only[lkV,List.find?_append]
 cases List.find? (fun v=>decide (v.name=s)) a<;>rfl
variable {g:LV→Nat}
theorem SR.blk:∀{b:Nat} {vs:List LV} {ch:List Scp},SR g b vs ch→∀v∈vs,v.block≤b
 |b,_,[],h,v,hv=>by cases b<;>exact False.elim h
 |0,vs,m::up,⟨v1,v2,e,h1,_,h3,_⟩,v,hv=>by
  subst e;subst h3
  rw[List.append_nil] at hv
  exact Nat.le_of_eq (h1 v hv)
 |b+1,vs,m::up,⟨v1,v2,e,h1,_,h3⟩,v,hv=>by
  subst e
  rcases List.mem_append.1 hv with h|h
  ·exact Nat.le_of_eq (h1 v h)
  ·exact Nat.le_succ_of_le (SR.blk h3 v h)
theorem SR.fnd:∀{b:Nat} {vs:List LV} {ch:List Scp},SR g b vs ch→∀s,(lkV vs s).map g=fT ch s
 |b,_,[],h,s=>by cases b<;>exact False.elim h
 |0,vs,m::up,⟨v1,v2,e,h1,h2,h3,h4⟩,s=>by
  subst e;subst h3;subst h4
  rw[List.append_nil,h2,fT]
  cases gQ m s<;>rfl
 |b+1,vs,m::up,⟨v1,v2,e,h1,h2,h3⟩,s=>by
  subst e
  have ih:=SR.fnd h3 s
  have h2:=h2 s
  rw[Cu,fT,←h2]
  cases e1:lkV v1 s with
  |some v=>rfl
  |none=>exact ih
theorem SR.is{b:Nat}{vs:List LV}{ch:List Scp}(h:SR g b vs ch)(s:List UInt8):(lkV vs s).isSome=(fT ch s).isSome:=by rw[←h.fnd s,Option.isSome_map]
theorem Cr{vs:List LV}{s:List UInt8}{v:LV}(h:lkV vs s=some v):v∈vs:=List.mem_of_find?_eq_some h
theorem SR.put:∀{b:Nat} {vs:List LV} {m:Scp} {up:List Scp},SR g b vs (m::up)→∀(s:List UInt8) (c:Int),mu vs s b c=if(gQ m s).isSome then fl c 2 else c:=by
 intro b vs m up h s c
 have key:∀v1 v2:List LV,(∀v∈v1,v.block=b)→(lkV v1 s).map g=gQ m s→(∀v∈v2,v.block≠b)→mu (v1++v2) s b c=if(gQ m s).isSome then fl c 2 else c:=by
  intro v1 v2 h1 h2 h3
  rw[←h2,mu,Cu]
  cases e1:lkV v1 s with
  |some v=>simp[h1 v (Cr e1)]
  |none=>
   cases e2:lkV v2 s with
   |none=>rfl
   |some v=>simp[h3 v (Cr e2)]
 match b,h with
 |0,⟨v1,v2,e,h1,h2,h3,_⟩=>subst e;subst h3;exact key v1 [] h1 (h2 s) (fun v hv=>by simp at hv)
 |b+1,⟨v1,v2,e,h1,h2,h3⟩=>subst e;exact key v1 v2 h1 (h2 s) (fun v hv e=>by have:=h3.blk v hv;omega)
theorem uT:∀(m:Scp) (s:List UInt8) (n:Nat) (t:List UInt8),gQ (iY m s n) t=if s=t then some n else gQ m t
 |[],s,n,t=>by
  by_cases h:s=t
  ·simp[iY,gQ,h]
  ·simp[iY,gQ,h]
 |x::r,s,n,t=>by
  have ih:=uT r s n t
  simp only[gQ] at ih
  by_cases hx:x.1=s
  ·by_cases h:s=t
   ·simp[iY,gQ,hx,h]
   ·have:¬x.1=t:=by rw[hx];exact h
    simp[iY,gQ,hx,h]
  ·by_cases ht:x.1=t
   ·have:¬s=t:=fun e=>hx (ht.trans e.symm)
    rw[iY,if_neg hx,if_neg this];simp[gQ,ht]
   ·simp only[iY,gQ,if_neg hx,List.find?_cons,ht,decide_false]
    exact ih
theorem SR.add{b:Nat}{vs:List LV}{m:Scp}{up:List Scp}(h:SR g b vs (m::up))(s:List UInt8)(n k:Nat)(hg:g ⟨s,n,b⟩=k):SR g b (⟨s,n,b⟩::vs) (iY m s k::up):=by
 have key:∀v1:List LV,(∀s,(lkV v1 s).map g=gQ m s)→∀t,(lkV (⟨s,n,b⟩::v1) t).map g=gQ (iY m s k) t:=by
  intro v1 h2 t
  rw[uT]
  by_cases e:s=t
  ·simp[lkV,e,←hg]
  ·rw[if_neg e,←h2 t];simp[lkV,e]
 match b,h with
 |0,⟨v1,v2,e,h1,h2,h3⟩=>
  subst e
  refine⟨⟨s,n,0⟩::v1,v2,rfl,fun v hv=>?_,key v1 h2,h3⟩
  rcases List.mem_cons.1 hv with rfl|hv
  ·rfl
  ·exact h1 v hv
 |b+1,⟨v1,v2,e,h1,h2,h3⟩=>
  subst e
  refine⟨⟨s,n,b+1⟩::v1,v2,rfl,fun v hv=>?_,key v1 h2,h3⟩
  rcases List.mem_cons.1 hv with rfl|hv
  ·rfl
  ·exact h1 v hv
theorem SR.open{b:Nat}{vs:List LV}{ch:List Scp}(h:SR g b vs ch):SR g (b+1) vs ([]::ch):=⟨[],vs,rfl,fun v hv=>by simp at hv,fun s=>rfl,h⟩
theorem SR.base:SR g 0 [] [[]]:=⟨[],[],rfl,fun v hv=>by simp at hv,fun s=>rfl,rfl,rfl⟩
theorem ym{α:Type}{p:α→Bool}{l:List α}{k:Nat}:(l.take k).findIdx? p=match l.findIdx? p with|some j=>if j<k then some j else none|none=>none:=by
 cases h:l.findIdx? p with
 |none=>
  rw[List.findIdx?_eq_none_iff] at h⊢
  exact fun x hx=>h x (List.mem_of_mem_take hx)
 |some j=>
  rw[List.findIdx?_eq_some_iff_getElem] at h
  obtain⟨h1,h2,h3⟩:=h
  simp only
  split
  ·rename_i hj
   rw[List.findIdx?_eq_some_iff_getElem]
   exact⟨by rw[List.length_take];omega,by rw[List.getElem_take];exact h2,fun i hi=>by rw[List.getElem_take];exact h3 i hi⟩
  ·rename_i hj
   rw[List.findIdx?_eq_none_iff]
   intro x hx
   obtain⟨i,hi,rfl⟩:=List.mem_take_iff_getElem.1 hx
   simpa using h3 i (by omega)
theorem Gz(fns:List Fd)(k:Nat){vs:List LV}{ch:List Scp}(h:∀s,(lkV vs s).isSome=(fT ch s).isSome)(e:Ex)(c:Int):fS fns k vs e.op e.name e.kids.length c=fJ fns k ch c e:=by
 unfold fS fJ
 split
 ·rw[←h,lX];cases lkV vs e.name<;>rfl
 ·split
  ·rw[lq,dp,dp,ym]
   cases List.findIdx? (fun f=>decide (f.name=e.name)) fns with
   |none=>rfl
   |some j=>
    simp only
    by_cases hj:j<k
    ·rw[if_neg (by omega),if_pos hj]
    ·rw[if_pos (by omega),if_neg hj]
  ·rfl
mutual
theorem Jk(fns:List Fd)(k:Nat){vs:List LV}{ch:List Scp}(h:∀s,(lkV vs s).isSome=(fT ch s).isSome):∀(e:Ex) (c:Int),iC fns k vs e c=e.pre.foldl (fJ fns k ch) c
 | .mk o n s ks,c=>by
   rw[iC,Ex.pre,List.foldl_cons,←vp fns k h ks,←Gz fns k h];rfl
theorem vp(fns:List Fd)(k:Nat){vs:List LV}{ch:List Scp}(h:∀s,(lkV vs s).isSome=(fT ch s).isSome):∀(l:List Ex) (c:Int),bg fns k vs l c=(dX l).foldl (fJ fns k ch) c
 |[],c=>rfl
 |e::r,c=>by rw[bg,dX,List.foldl_append,Jk fns k h e,vp fns k h r]
end
abbrev g0:LV→Nat:=fun _=>0
theorem KO{b:Nat}{w:WS}{m:Scp}{up:List Scp}(h:SR g0 b w.vs (m::up))(o:Int)(s:List UInt8):SR g0 b (opW o s b w).vs (opS o s m 0::up)∧(opW o s b w).code=opC o s m up w.code:=by
 unfold opW opS opC
 by_cases h1:o=1
 ·simp only[h1,if_true]
  exact⟨h.add s _ 0 rfl,h.put s _⟩
 ·simp only[if_neg h1]
  split
  ·refine⟨h,?_⟩
   have:=h.is s
   simp only[lX]
   rw[←this]
   cases lkV w.vs s<;>rfl
  ·exact⟨h,rfl⟩
theorem BK{d:Nat}{o:Int}{s:List UInt8}{a:List Ex}{bd el:List Sm}(h:aq (d+1) (.mk o s a bd el)=true):bd.all (aq d)=true∧el.all (aq d)=true∧(¬(o=5∨o=6)→bd=[]∧el=[]):=by
 simp only[aq,er,Sm.op,Sm.body,Sm.els,Bool.and_eq_true,Bool.or_eq_true,decide_eq_true_eq,List.isEmpty_iff] at h
 refine⟨h.1.2,h.2,fun hn=>⟨?_,?_⟩⟩
 ·rcases h.1.1.2 with(h|h)|h
  ·exact h
  ·exact absurd (.inl (of_decide_eq_true h)) hn
  ·exact absurd (.inr (of_decide_eq_true h)) hn
 ·rcases h.1.1.1.2 with h|h
  ·exact h
  ·exact absurd (.inl (of_decide_eq_true h)) hn
theorem eN(w:WS)(vs:List LV):(w.back vs).code=w.code:=rfl
theorem JX(fns:List Fd)(k:Nat):∀(d b:Nat) (l:List Sm),l.all (aq d)=true→∀(w:WS) (m:Scp) (up:List Scp),SR g0 b w.vs (m::up)→
 SR g0 b (bx fns k b l w).vs ((gw fns k l m up w.code).1::up)∧(bx fns k b l w).code=(gw fns k l m up w.code).2:=by
 intro d
 induction d with
 |zero=>
  intro b l hl w m up h
  cases l with
  |nil=>exact⟨h,rfl⟩
  |cons s r=>simp[aq] at hl
 |succ d ih=>
  have kz:∀(b:Nat) (s:Sm),aq (d+1) s=true→∀(w:WS) (m:Scp) (up:List Scp),SR g0 b w.vs (m::up)→
   SR g0 b (stW fns k b s w).vs ((icS fns k s m up w.code).1::up)∧(stW fns k b s w).code=(icS fns k s m up w.code).2:=by
   intro b s hs w m up h
   obtain⟨o,n,a,bd,el⟩:=s
   obtain⟨f1,f2,f3⟩:=BK hs
   have hc:=vp fns k h.is a w.code
   obtain⟨g1,g2⟩:=KO (w:=⟨w.vs,w.count,bg fns k w.vs a w.code⟩) h o n
   rw[stW,icS]
   simp only[hc] at g1 g2⊢
   generalize hw2:opW o n b ⟨w.vs,w.count,(dX a).foldl (fJ fns k (m::up)) w.code⟩=w2 at*
   refine⟨g1,?_⟩
   rw[eN]
   have g2':w2.code=opC o n m up (AZ fns k (m::up) a w.code):=g2
   rw[←g2']
   by_cases ho:o=5∨o=6
   ·rw[if_pos ho]
    have k1:=ih (b+1) bd f1 w2 [] _ g1.open
    have k2:=ih (b+1) el f2 ((bx fns k (b+1) bd w2).back w2.vs) [] _ g1.open
    rw[k2.2,eN,k1.2]
   ·obtain⟨rfl,rfl⟩:=f3 ho
    rw[if_neg ho]
    simp[bx,WS.back]
  intro b l
  induction l with
  |nil=>intro _ w m up h;exact⟨h,rfl⟩
  |cons s r ihl=>
   intro hl w m up h
   rw[List.all_cons,Bool.and_eq_true] at hl
   obtain⟨k1,k2⟩:=kz b s hl.1 w m up h
   have:=ihl hl.2 _ _ up k1
   rw[bx,gw,←k2]
   exact this
theorem CT:∀(ps:List (List UInt8)) (w:WS) (m:Scp),SR g0 0 w.vs [m]→SR g0 0 (cN ps w).vs [(kx ps m w.code).1]∧(cN ps w).code=(kx ps m w.code).2
 |[],w,m,h=>⟨h,rfl⟩
 |s::r,w,m,h=>by
  have hp:=h.put s w.code
  have:=CT r (jH w s 0) (iY m s 0) (h.add s w.count 0 rfl)
  simp only[cN,kx,List.foldl_cons] at this⊢
  rw[←hp]
  exact this
theorem EJ{fns:List Fd}{k:Nat}{ch:List Scp}{c:Int}(h:c≠0)(e:Ex):fJ fns k ch c e=c:=by
 unfold fJ
 simp only[uy h]
 split
 ·split<;>rfl
 ·split
  ·split
   ·rfl
   ·split<;>rfl
  ·rfl
theorem xc{fns:List Fd}{k:Nat}{ch:List Scp}{c:Int}(h:c≠0):∀l:List Ex,l.foldl (fJ fns k ch) c=c
 |[]=>rfl
 |e::r=>by rw[List.foldl_cons,EJ h,xc h r]
theorem Gl{o:Int}{s:List UInt8}{m:Scp}{up:List Scp}{c:Int}(h:c≠0):opC o s m up c=c:=by
 unfold opC
 simp only[uy h]
 split
 ·split<;>rfl
 ·split
  ·split<;>rfl
  ·rfl
mutual
theorem FM(fns:List Fd)(k:Nat){c:Int}(h:c≠0):∀(s:Sm) (m:Scp) (up:List Scp),(icS fns k s m up c).2=c
 | .mk o s a bd el,m,up=>by
   rw[icS]
   simp only[AZ,xc h,Gl h]
   rw[ov fns k h bd,ov fns k h el,ite_self]
theorem ov(fns:List Fd)(k:Nat){c:Int}(h:c≠0):∀(l:List Sm) (m:Scp) (up:List Scp),(gw fns k l m up c).2=c
 |[],m,up=>rfl
 |s::r,m,up=>by rw[gw,FM fns k h s m up,ov fns k h r]
end
theorem xn{c:Int}(h:c≠0):∀(ps:List (List UInt8)) (m:Scp),(kx ps m c).2=c
 |[],m=>rfl
 |s::r,m=>by
  have:=xn h r (iY m s 0)
  simp only[kx,List.foldl_cons,uy h,ite_self] at this⊢
  exact this
theorem GQ(fns:List Fd)(k:Nat)(f:Fd){c:Int}(h:c≠0):icF fns k f c=c:=by
 simp only[icF,uy h,ite_self]
 rw[xn h,ov fns k h]
theorem uE(fns:List Fd){c:Int}(h:c≠0):∀(l:List Fd) (k:Nat),jR fns k l c=c
 |[],k=>rfl
 |f::r,k=>by rw[jR,GQ fns k f h,uE fns h r]
theorem xg{fns:List Fd}{k:Nat}{f:Fd}(h:fns[k]?=some f):∃j,dp fns f.name=some j∧j≤k:=by
 cases e:dp fns f.name with
 |none=>
  rw[dp,List.findIdx?_eq_none_iff] at e
  have:=e f (List.mem_of_getElem? h)
  simp at this
 |some j=>
  refine⟨j,rfl,?_⟩
  rw[dp,List.findIdx?_eq_some_iff_getElem] at e
  obtain⟨h1,h2,h3⟩:=e
  rcases Nat.lt_or_ge k j with hk|hk
  ·have:=h3 k hk
   obtain⟨a1,a2⟩:=List.getElem?_eq_some_iff.1 h
   rw[a2] at this
   simp at this
  ·exact hk
theorem LX(fns:List Fd){k:Nat}{f:Fd}(hf:fns[k]?=some f)(hok:gx f=true):(fnW fns k f).code=icF fns k f 0:=by
 obtain⟨j,e1,e2⟩:=xg hf
 have hb:f.body.all (aq 4)=true:=by simp only[gx,Bool.and_eq_true] at hok;exact hok.2
 have hc:(if dp fns f.name=some k then(0:Int) else 2)=if(match dp fns f.name with|some j=>decide (j<k)|none=>true) then fl 0 2 else 0:=by
  rw[e1]
  by_cases h:j=k
  ·subst h;simp
  ·have:j<k:=by omega
   simp[h,this,fl]
 obtain⟨p1,p2⟩:=CT f.params ⟨[],0,if dp fns f.name=some k then(0:Int) else 2⟩ [] SR.base
 obtain⟨q1,q2⟩:=JX fns k 4 0 f.body hb _ _ [] p1
 rw[fnW,q2,p2]
 simp only[icF,←hc]
theorem GK(fns:List Fd):∀(l:List Fd) (k:Nat),(∀i,l[i]?=fns[k+i]?)→l.all gx=true→gI fns k l=jR fns k l 0
 |[],k,_,_=>rfl
 |f::r,k,hl,ha=>by
  rw[List.all_cons,Bool.and_eq_true] at ha
  have h0:fns[k]?=some f:=by have:=hl 0;simpa using this.symm
  have hr:∀i,r[i]?=fns[k+1+i]?:=fun i=>by have:=hl (i+1);rw[List.getElem?_cons_succ] at this;rw[this];congr 1;omega
  rw[gI,jR,LX fns h0 ha.1]
  split
  ·rename_i e;rw[e];exact GK fns r (k+1) hr ha.2
  ·rename_i e;rw[uE fns e]
theorem AF(fns:List Fd):aX fns=if bH fns then jR fns 0 fns 0 else 1:=by
 unfold aX
 split
 ·rename_i h
  simp only[bH,Bool.and_eq_true] at h
  exact GK fns fns 0 (fun i=>by rw[Nat.zero_add]) h.1.2
 ·rfl
end Go.Proofs.YtaopbokndkdieaaGreatDoor
namespace Go.Proofs.YtaopbokndkdieaaGreatDoor
open Go Go.Aw
set_option maxRecDepth 100000
mutual
def rnS(fns:List Fd)(k b:Nat):Sm→WS→Sm
 | .mk o s a bd el,w=>
   let w2:=opW o s b ⟨w.vs,w.count,bg fns k w.vs a w.code⟩
   .mk o (opN o s w) (jC w.vs a) (gy fns k (b+1) bd w2) (gy fns k (b+1) el ((bx fns k (b+1) bd w2).back w2.vs))
def gy(fns:List Fd)(k b:Nat):List Sm→WS→List Sm
 |[],_=>[]
 |s::r,w=>rnS fns k b s w::gy fns k b r (stW fns k b s w)
end
def oz:List (List UInt8)→WS→List (List UInt8)
 |[],_=>[]
 |s::r,w=>vnm w.count::oz r (jH w s 0)
def rnF(fns:List Fd)(k:Nat)(f:Fd):Fd:=
 ⟨f.name,oz f.params ⟨[],0,if dp fns f.name=some k then 0 else 2⟩,gy fns k 0 f.body (cN f.params ⟨[],0,if dp fns f.name=some k then 0 else 2⟩)⟩
mutual
def Eb:Sm→Nat
 | .mk o _ _ bd el=>(if o=1 then 1 else 0)+pp bd+pp el
def pp:List Sm→Nat
 |[]=>0
 |s::r=>Eb s+pp r
end
theorem rQ(o:Int)(s:List UInt8)(b:Nat)(w:WS):(opW o s b w).count=w.count+if o=1 then 1 else 0:=by
 unfold opW
 split
 ·rfl
 ·split<;>rfl
mutual
theorem xA(fns:List Fd)(k:Nat):∀(s:Sm) (b:Nat) (w:WS),(stW fns k b s w).count=w.count+Eb s
 | .mk o s a bd el,b,w=>by
   rw[stW,Eb]
   simp only[WS.back]
   rw[gP fns k el,gP fns k bd,rQ];show w.count+_+_+_=_
   omega
theorem gP(fns:List Fd)(k:Nat):∀(l:List Sm) (b:Nat) (w:WS),(bx fns k b l w).count=w.count+pp l
 |[],b,w=>rfl
 |s::r,b,w=>by rw[bx,pp,gP fns k r,xA fns k s];omega
end
mutual
theorem Ik:∀s:Sm,Eb s≤s.cnt
 | .mk o s a bd el=>by
   have:=qR bd
   have:=qR el
   simp only[Eb,Sm.cnt]
   split<;>omega
theorem qR:∀l:List Sm,pp l≤cC l
 |[]=>Nat.le_refl _
 |s::r=>by have:=Ik s;have:=qR r;simp only[pp,cC];omega
end
theorem sX:∀(ps:List (List UInt8)) (w:WS),(cN ps w).count=w.count+ps.length
 |[],w=>rfl
 |s::r,w=>by
  have:=sX r (jH w s 0)
  simp only[cN,List.foldl_cons,List.length_cons] at this⊢
  rw[this];simp only[jH];omega
theorem IM(o:Int)(s:List UInt8)(b:Nat)(w:WS):∃e,(opW o s b w).vs=e++w.vs:=by
 unfold opW
 split
 ·exact⟨[_],rfl⟩
 ·split<;>exact⟨[],rfl⟩
theorem Hh(fns:List Fd)(k b:Nat)(o:Int)(s:List UInt8)(a:List Ex)(bd el:List Sm)(w:WS):(stW fns k b (.mk o s a bd el) w).vs=(opW o s b ⟨w.vs,w.count,bg fns k w.vs a w.code⟩).vs:=rfl
theorem Ag(fns:List Fd)(k:Nat):∀(l:List Sm) (b:Nat) (w:WS),∃e,(bx fns k b l w).vs=e++w.vs
 |[],b,w=>⟨[],rfl⟩
 | .mk o s a bd el::r,b,w=>by
   obtain⟨e1,h1⟩:=Ag fns k r b (stW fns k b (.mk o s a bd el) w)
   obtain⟨e2,h2⟩:=IM o s b ⟨w.vs,w.count,bg fns k w.vs a w.code⟩
   exact⟨e1++e2,by rw[bx,h1,Hh,h2,List.append_assoc]⟩
theorem KP{o:Int}{s:List UInt8}{b:Nat}{w:WS}(h:w.vs.length≤w.count):(opW o s b w).vs.length≤(opW o s b w).count:=by
 unfold opW
 split
 ·simp[jH,h]
 ·split<;>exact h
theorem KI(fns:List Fd)(k:Nat){s:Sm}{b:Nat}{w:WS}(h:w.vs.length≤w.count):(stW fns k b s w).vs.length≤(stW fns k b s w).count:=by
 obtain⟨o,n,a,bd,el⟩:=s
 rw[xA,Hh]
 have:=KP (o:=o) (s:=n) (b:=b) (w:=⟨w.vs,w.count,bg fns k w.vs a w.code⟩) h
 rw[rQ] at this
 simp only[Eb]
 simp only at this
 omega
theorem Da(fns:List Fd)(k:Nat):∀{l:List Sm} {b:Nat} {w:WS},w.vs.length≤w.count→(bx fns k b l w).vs.length≤(bx fns k b l w).count
 |[],_,_,h=>h
 |s::r,b,w,h=>Da fns k (l:=r) (KI fns k h)
mutual
def Sm.pre(d:Nat):Sm→List (Sm × Nat)
 | .mk o s a bd el=>(.mk o s a bd el,d)::(cg (d+1) bd++cg (d+1) el)
def cg(d:Nat):List Sm→List (Sm × Nat)
 |[]=>[]
 |s::r=>Sm.pre d s++cg d r
end
theorem Sm.pre_eq(d:Nat)(s:Sm):s.pre d=(s,d)::(cg (d+1) s.body++cg (d+1) s.els):=by cases s;rfl
theorem pI(d:Nat):∀a b:List Sm,cg d (a++b)=cg d a++cg d b
 |[],b=>rfl
 |s::r,b=>by rw[List.cons_append,cg,cg,pI d r b,List.append_assoc]
theorem Ex.pre_eq(e:Ex):e.pre=e::dX e.kids:=by cases e;rfl
theorem kQ:∀a b:List Ex,dX (a++b)=dX a++dX b
 |[],b=>rfl
 |e::r,b=>by rw[List.cons_append,dX,dX,kQ r b,List.append_assoc]
mutual
theorem Sm.pre_len:∀(s:Sm) (d:Nat),(s.pre d).length=s.cnt
 | .mk o s a bd el,d=>by simp only[Sm.pre,Sm.cnt,List.length_cons,List.length_append,jj bd,jj el];omega
theorem jj:∀(l:List Sm) (d:Nat),(cg d l).length=cC l
 |[],d=>rfl
 |s::r,d=>by simp only[cg,cC,List.length_append,Sm.pre_len s,jj r]
end
end Go.Proofs.YtaopbokndkdieaaGreatDoor
namespace Go.Proofs.YtaopbokndkdieaaGreatDoor
open Go Go.Aw
set_option maxRecDepth 100000
theorem xd{vs:List LV}{s:List UInt8}{c:Int}(h:c≠0):lX vs s c=c:=by unfold lX;split<;>simp[uy h]
theorem BC{fns:List Fd}{k:Nat}{s:List UInt8}{n:Nat}{c:Int}(h:c≠0):lq fns k s n c=c:=by
 unfold lq
 simp only[uy h]
 split
 ·rfl
 ·split
  ·rfl
  ·split<;>rfl
theorem AR{fns:List Fd}{k:Nat}{vs:List LV}{o:Int}{s:List UInt8}{n:Nat}{c:Int}(h:c≠0):fS fns k vs o s n c=c:=by
 unfold fS
 rw[xd h,BC h]
 split
 ·rfl
 ·split<;>rfl
mutual
theorem Eu(fns:List Fd)(k:Nat)(vs:List LV){c:Int}(h:c≠0):∀e:Ex,iC fns k vs e c=c
 | .mk o n s ks=>by rw[iC,AR h,ma fns k vs h ks]
theorem ma(fns:List Fd)(k:Nat)(vs:List LV){c:Int}(h:c≠0):∀l:List Ex,bg fns k vs l c=c
 |[]=>rfl
 |e::r=>by rw[bg,Eu fns k vs h e,ma fns k vs h r]
end
theorem gR{fns:List Fd}{k:Nat}{vs:List LV}{l:List Ex}{c:Int}(h:bg fns k vs l c=0):c=0:=by
 by_cases hc:c=0
 ·exact hc
 ·rw[ma fns k vs hc] at h;exact h
theorem yR{o:Int}{s:List UInt8}{b:Nat}{w:WS}(h:w.code≠0):(opW o s b w).code=w.code:=by
 unfold opW
 split
 ·simp only[jH,mu,uy h]
  split
  ·rfl
  ·split<;>rfl
 ·split
  ·exact xd h
  ·rfl
mutual
theorem EN(fns:List Fd)(k:Nat):∀(s:Sm) (b:Nat) (w:WS),w.code≠0→(stW fns k b s w).code=w.code
 | .mk o s a bd el,b,w,h=>by
   have e1:(bg fns k w.vs a w.code)=w.code:=ma fns k w.vs h a
   have e2:(opW o s b ⟨w.vs,w.count,bg fns k w.vs a w.code⟩).code=w.code:=by rw[yR]<;>simp only[e1];exact h
   have e3:=nQ fns k bd (b+1) (opW o s b ⟨w.vs,w.count,bg fns k w.vs a w.code⟩) (by rw[e2];exact h)
   rw[stW,eN,nQ fns k el _ _ (by rw[eN,e3,e2];exact h),eN,e3,e2]
theorem nQ(fns:List Fd)(k:Nat):∀(l:List Sm) (b:Nat) (w:WS),w.code≠0→(bx fns k b l w).code=w.code
 |[],b,w,h=>rfl
 |s::r,b,w,h=>by
  have e1:=EN fns k s b w h
  rw[bx,nQ fns k r b _ (by rw[e1];exact h),e1]
end
theorem fM{fns:List Fd}{k b:Nat}{l:List Sm}{w:WS}(h:(bx fns k b l w).code=0):w.code=0:=by
 by_cases hc:w.code=0
 ·exact hc
 ·rw[nQ fns k l b w hc] at h;exact h
theorem yP{o:Int}{s:List UInt8}{b:Nat}{w:WS}(h:(opW o s b w).code=0):w.code=0:=by
 by_cases hc:w.code=0
 ·exact hc
 ·rw[yR hc] at h;exact h
end Go.Proofs.YtaopbokndkdieaaGreatDoor
namespace Go.Proofs.YtaopbokndkdieaaGreatDoor
open Go Go.Aw
set_option maxRecDepth 100000
theorem kr(fns:List Fd):∀(l:List Fd) (k:Nat),gI fns k l=0↔∀(i:Nat) (f:Fd),l[i]?=some f→(fnW fns (k+i) f).code=0
 |[],k=>by simp[gI]
 |f::r,k=>by
  rw[gI]
  have ih:=kr fns r (k+1)
  constructor
  ·intro h i g hg
   by_cases h0:(fnW fns k f).code=0
   ·rw[if_pos h0] at h
    cases i with
    |zero=>cases hg;exact h0
    |succ i=>have:=ih.1 h i g (by simpa using hg);rwa[show k+(i+1)=k+1+i by omega]
   ·rw[if_neg h0] at h;exact absurd h h0
  ·intro h
   rw[if_pos (by have:=h 0 f rfl;rwa[Nat.add_zero] at this)]
   exact ih.2 fun i g hg=>by have:=h (i+1) g (by simpa using hg);rwa[show k+(i+1)=k+1+i by omega] at this
theorem Il(l:List Fd):aX l=0↔bH l=true∧∀(k:Nat) (f:Fd),l[k]?=some f→(fnW l k f).code=0:=by
 unfold aX
 by_cases h:bH l=true
 ·rw[if_pos h,kr];simp[h]
 ·rw[if_neg h];simp[h]
theorem jI(l:List Fd):bH l=true↔(1≤l.length∧l.length≤4)∧(∀f∈l,gx f=true)∧iB l≤40:=by
 simp only[bH,inR,Bool.and_eq_true,decide_eq_true_eq,List.all_eq_true]
 constructor
 ·rintro⟨⟨⟨h1,h2⟩,h3⟩,h4⟩;exact⟨⟨by omega,by omega⟩,h3,h4⟩
 ·rintro⟨⟨h1,h2⟩,h3,h4⟩;exact⟨⟨⟨by omega,by omega⟩,h3⟩,h4⟩
def Fd.cut(f:Fd)(n:Nat):Fd:=⟨f.name,f.params,f.body.take n⟩
end Go.Proofs.YtaopbokndkdieaaGreatDoor
namespace Go.Proofs.YtaopbokndkdieaaGreatDoor
open Go Go.Aw
set_option maxRecDepth 100000
abbrev Sc5:=List (List UInt8 × Int)
structure S5 where (left:Nat) (said:List Int) (cells:List Int)
inductive O5 (α:Type) where
 |ok (a:α)
 |st (c:Int)
def tr5(b:Bool):Int:=if b then 1 else 0
def Cb(op a b:Int):Option Int:=
 if op=3 then some ((a+b)%256) else if op=4 then some ((a-b+256)%256) else if op=5 then some (a*b%256) else if op=8 then some (tr5 (decide (a<b))) else if op=9 then some (tr5 (decide (a=b)))
 else if b=0 then none else if op=6 then some (a/b) else some (a%b)
def S5.put(s:S5)(i:Nat)(n:Int):S5:=⟨s.left,s.said,s.cells.set i n⟩
def S5.at_(s:S5)(F:Nat):S5:=⟨F,s.said,s.cells⟩
def V5(n:Int):Prop:=0≤n∧n≤255
end Go.Proofs.YtaopbokndkdieaaGreatDoor
namespace Go.Proofs.YtaopbokndkdieaaGreatDoor
open Go Go.Aw
set_option maxRecDepth 100000
structure G5 (s:S5):Prop where
 len:s.cells.length=16
 cells:∀c∈s.cells,V5 c
 said:∀c∈s.said,V5 c
def GE5(v:List Sc5):Prop:=∀m∈v,∀x∈m,V5 x.2
theorem qJ(b:Bool):V5 (tr5 b):=by cases b<;>simp[tr5,V5]
theorem DV{op a b n:Int}(ha:V5 a)(hb:V5 b)(h:Cb op a b=some n):V5 n:=by
 obtain⟨a0,a1⟩:=ha
 obtain⟨b0,b1⟩:=hb
 unfold Cb at h
 split at h
 ·cases h;unfold V5;omega
 split at h
 ·cases h;unfold V5;omega
 split at h
 ·cases h
  have:0≤a*b:=Int.mul_nonneg a0 b0
  unfold V5
  generalize a*b=q at*
  omega
 split at h
 ·cases h;exact qJ _
 split at h
 ·cases h;exact qJ _
 split at h
 ·cases h
 split at h
 ·cases h
  have h1:0≤a/b:=Int.ediv_nonneg a0 b0
  have h2:a/b≤a:=Int.ediv_le_self b a0
  exact⟨h1,by omega⟩
 ·cases h
  rename_i hb0 _
  have h1:0≤a%b:=Int.emod_nonneg a hb0
  have h2:a%b<b:=Int.emod_lt_of_pos a (by omega)
  exact⟨h1,by omega⟩
theorem G5.put{s:S5}(g:G5 s)(i:Nat){n:Int}(hn:V5 n):G5 (s.put i n):=⟨by rw[←g.len];exact List.length_set,fun c hc=>by
 rcases List.mem_or_eq_of_mem_set hc with h|h
 ·exact g.cells c h
 ·rw[h];exact hn,g.said⟩
theorem G5.at_{s:S5}(g:G5 s)(F:Nat):G5 (s.at_ F):=⟨g.len,g.cells,g.said⟩
theorem GE5.tail{m:Sc5}{v:List Sc5}(g:GE5 (m::v)):GE5 v:=fun q hq=>g q (by simp[hq])
end Go.Proofs.YtaopbokndkdieaaGreatDoor
namespace Go.Proofs.YtaopbokndkdieaaGreatDoor
open Go Go.Aw
set_option maxRecDepth 100000
theorem xz{a:Ex}(h:fI a=true):aW 6 a=true:=by rw[fI,Bool.and_eq_true] at h;exact h.1
section
variable {l:List Fd}
end
def s0(fuel:Nat):S5:=⟨fuel,[],List.replicate 16 0⟩
end Go.Proofs.YtaopbokndkdieaaGreatDoor
namespace Go.Proofs.YtaopbokndkdieaaGreatDoor
open Go Go.Aw
set_option maxRecDepth 100000
def S5.dn(s:S5)(c:Nat):S5:=⟨s.left-c,s.said,s.cells⟩
end Go.Proofs.YtaopbokndkdieaaGreatDoor
namespace Go.Proofs.YtaopbokndkdieaaGreatDoor
open Go Go.Aw
set_option maxRecDepth 100000
def S5.pre(s:S5)(t:List Int):S5:=⟨s.left,t++s.said,s.cells⟩
end Go.Proofs.YtaopbokndkdieaaGreatDoor
namespace Go.Proofs.YtaopbokndkdieaaGreatDoor
open Go Go.Aw
set_option maxRecDepth 100000
set_option maxHeartbeats 4000000
def ar5(o a b:Int):Option Int:=if o=10 then some (tr5 (decide (a≠0∧b≠0))) else Cb o a b
def lp(n:Int):Ex:= .mk 1 n [] []
def isN(e:Ex)(n:Int):Bool:=decide (e.op=1)&&decide (e.n=n)
mutual
def dA:Ex→Bool
 | .mk o _ _ ks=> !decide (o=12)&& !decide (o=13)&&(!(decide (o=6)||decide (o=7))||(match ks with|[_,b]=>decide (b.op=1)&& !decide (b.n=0)|_=>false))&&yf ks
def yf:List Ex→Bool
 |[]=>true
 |e::r=>dA e&&yf r
end
def iS(o n:Int)(s:List UInt8)(a:Ex):Ex:=
 if a.op=1 then lp (tr5 (decide (a.n=0))) else match a.kids with|[c]=>if a.op=11∧c.op=11 then c else .mk o n s [a]|_=> .mk o n s [a]
def ll(o n:Int)(s:List UInt8)(a b:Ex):Ex:=
 match(if a.op=1∧b.op=1 then ar5 o a.n b.n else none) with
 |some q=>lp q
 |none=>
  if o=10∧isN a 0=true then lp 0 else if(o=3∨o=4)∧isN b 0=true∨(o=5∨o=6)∧isN b 1=true then a else if o=3∧isN a 0=true∨o=5∧isN a 1=true then b
  else if o=5∧(isN b 0=true∧dA a=true∨isN a 0=true∧dA b=true) then lp 0 else .mk o n s [a,b]
def dJ(o n:Int)(s:List UInt8)(ks:List Ex):Ex:=
 if o=12∨o=13 then .mk o n s ks else match ks with|[a]=>iS o n s a|[a,b]=>ll o n s a b|ks=> .mk o n s ks
mutual
def cm:Ex→Ex
 | .mk o n s ks=>dJ o n s (aK ks)
def aK:List Ex→List Ex
 |[]=>[]
 |e::r=>cm e::aK r
end
theorem isN_iff{e:Ex}{n:Int}:isN e n=true↔e.op=1∧e.n=n:=by simp[isN]
section
variable {l:List Fd}
end
end Go.Proofs.YtaopbokndkdieaaGreatDoor
namespace Go.Proofs.YtaopbokndkdieaaGreatDoor
open Go Go.Aw
set_option maxRecDepth 100000
structure Like (fns fns':List Fd):Prop where
 at_:∀s,dp fns' s=dp fns s
 par:∀j,wm fns' j=wm fns j
theorem AA(l:List Fd)(g:Fd→Fd)(hn:∀f,(g f).name=f.name)(hp:∀f,(g f).params.length=f.params.length):Like l (l.map g) where
 at_:=fun s=>by
  rw[dp,dp,List.findIdx?_map]
  congr 1
  funext f
  simp[hn]
 par:=fun j=>by
  rw[wm,wm,List.getElem?_map]
  cases l[j]? with
  |none=>rfl
  |some f=>exact hp f
theorem Bn{w:WS}{s:List UInt8}{b:Nat}(h:(jH w s b).code=0):w.code=0:=by
 have h:mu w.vs s b w.code=0:=h
 unfold mu at h
 split at h
 ·exact h
 ·split at h
  ·unfold fl at h
   split at h
   ·assumption
   ·exact h
  ·exact h
theorem sB:∀{ps:List (List UInt8)} {w:WS},(cN ps w).code=0→w.code=0
 |[],w,h=>h
 |s::r,w,h=>Bn (sB (ps:=r) (w:=jH w s 0) h)
theorem Hx{fns:List Fd}{k:Nat}{f:Fd}(hz:(fnW fns k f).code=0):dp fns f.name=some k:=by
 rw[fnW] at hz
 have h1:=sB (fM hz)
 by_cases h:dp fns f.name=some k
 ·exact h
 ·rw[if_neg h] at h1;cases h1
end Go.Proofs.YtaopbokndkdieaaGreatDoor
namespace Go.Proofs.YtaopbokndkdieaaGreatDoor
open Go Go.Aw
set_option maxRecDepth 100000
set_option maxHeartbeats 4000000
theorem dx{α:Type}{p:α→Bool}{xs:List α}{i:Nat}(h:i<xs.length):(xs.take (i+1)).all p=((xs.take i).all p&&p xs[i]):=by
 rw[ah h,List.all_append];simp
theorem kh{α:Type}{p:α→Bool}{xs:List α}{i:Nat}(h:i<xs.length)(hp:p xs[i]=false):xs.all p=false:=
 List.all_eq_false.2 ⟨_,List.getElem_mem h,by simp[hp]⟩
theorem fm{α:Type}{p:α→Bool}{xs:List α}{i:Nat}(h:xs.length≤i)(ht:(xs.take i).all p=true):xs.all p=true:=by
 rwa[List.take_of_length_le h] at ht
def K_spec_l2Form:AK:= .seq (.reg [oJ 2 (.box 4 (.t 0)),oJ 4 (.mov (.c (.p (.bool false))))]) (.seq (.reg [oF 10 0 2,oL 11 10,oJ 12 (.call hY [(.t 11)]),oM 9 12,oJ 13 (.ext 0 (.t 9)),oJ 14 (.ext 1 (.t 9)),oM 5 13,oM 6 14]) (.seq (.seq (.reg [oM 15 1,oJ 16 (.bin .lss (.t 15) (.c (.p (.int .i64 1)))),oM 17 16,⟨(some 18),some (17,false),.fldA 0 (.t 2)⟩,⟨(some 19),some (17,false),.ld none (.t 18)⟩,⟨(some 20),some (17,false),.call bD [(.t 19),(.c (.p (.int .i64 1))),(.c (.p (.int .i64 13)))]⟩,⟨(some 21),some (17,false),.not (.t 20)⟩,oJ 22 (.pick (.t 17) (.c (.p (.bool true))) (.t 21)),oM 23 22,⟨(some 24),some (23,false),.fldA 3 (.t 2)⟩,⟨(some 25),some (23,false),.ld none (.t 24)⟩,⟨(some 26),some (23,false),.len false (.t 25)⟩,⟨(some 27),some (23,false),.mov (.t 5)⟩,⟨(some 28),some (23,false),.mov (.t 6)⟩,⟨(some 29),some (23,false),.call bD [(.t 26),(.t 27),(.t 28)]⟩,⟨(some 30),some (23,false),.not (.t 29)⟩,oJ 31 (.pick (.t 23) (.c (.p (.bool true))) (.t 30))]) (.cond (.t 31) (.seq (.reg [oJ 4 (.mov (.c (.p (.bool false))))]) (.ret)) (.skip))) (.cut (.reg [oF 32 0 2,oL 33 32,oJ 34 (.bin .eql (.t 33) (.c (.p (.int .i64 2)))),oM 35 34,⟨(some 36),some (35,false),.fldA 0 (.t 2)⟩,⟨(some 37),some (35,false),.ld none (.t 36)⟩,⟨(some 38),some (35,false),.bin .eql (.t 37) (.c (.p (.int .i64 13)))⟩,oJ 39 (.pick (.t 35) (.c (.p (.bool true))) (.t 38)),oM 7 39]) (.cut (.seq (.reg [oM 40 7,oF 41 2 2,oL 42 41,oJ 43 (.call cL [(.t 42)]),oJ 44 (.beq true (.t 40) (.t 43)),oM 45 44,⟨(some 46),some (45,false),.mov (.t 7)⟩,⟨(some 47),some (45,false),.not (.t 46)⟩,⟨(some 48),some (45,false),.mov (.t 47)⟩,⟨(some 49),some (48,true),.fldA 2 (.t 2)⟩,⟨(some 50),some (48,true),.ld none (.t 49)⟩,⟨(some 51),some (48,true),.bins .neq (.t 50) (.c (.p (.str [])))⟩,⟨(some 52),some (45,false),.pick (.t 48) (.t 51) (.c (.p (.bool false)))⟩,oJ 53 (.pick (.t 45) (.c (.p (.bool true))) (.t 52)),oM 54 53,⟨(some 55),some (54,false),.fldA 1 (.t 2)⟩,⟨(some 56),some (54,false),.ld none (.t 55)⟩,⟨(some 57),some (54,false),.call bD [(.t 56),(.c (.p (.int .i64 0))),(.c (.p (.int .i64 255)))]⟩,⟨(some 58),some (54,false),.not (.t 57)⟩,oJ 59 (.pick (.t 54) (.c (.p (.bool true))) (.t 58)),oM 60 59,⟨(some 61),some (60,false),.fldA 0 (.t 2)⟩,⟨(some 62),some (60,false),.ld none (.t 61)⟩,⟨(some 63),some (60,false),.bin .neq (.t 62) (.c (.p (.int .i64 1)))⟩,⟨(some 64),some (60,false),.mov (.t 63)⟩,⟨(some 65),some (64,true),.fldA 1 (.t 2)⟩,⟨(some 66),some (64,true),.ld none (.t 65)⟩,⟨(some 67),some (64,true),.bin .neq (.t 66) (.c (.p (.int .i64 0)))⟩,⟨(some 68),some (60,false),.pick (.t 64) (.t 67) (.c (.p (.bool false)))⟩,oJ 69 (.pick (.t 60) (.c (.p (.bool true))) (.t 68))]) (.cond (.t 69) (.seq (.reg [oJ 4 (.mov (.c (.p (.bool false))))]) (.ret)) (.skip))) (.seq (.seq (.reg [oK 8 0]) (.blk 0 (.loop (.seq (.seq (.reg [oM 70 8,oF 71 3 2,oL 72 71,oJ 73 (.len false (.t 72)),oJ 74 (.bin .lss (.t 70) (.t 73))]) (.cond (.t 74) (.skip) (.exit 0))) (.seq (.blk 1 (.seq (.reg [oF 77 3 2,oL 78 77,oM 79 8,oJ 80 (.idxS 4 (.t 78) (.t 79)),oJ 81 (.ld (some 4) (.t 80)),oM 82 1,oJ 83 (.bin .sub (.t 82) (.c (.p (.int .i64 1)))),oJ 84 (.call fg [(.t 81),(.t 83)]),oJ 85 (.not (.t 84))]) (.cond (.t 85) (.seq (.reg [oJ 4 (.mov (.c (.p (.bool false))))]) (.ret)) (.skip)))) (.reg [oM 75 8,oJ 76 (.bin .add (.t 75) (.c (.p (.int .i64 1)))),oM 8 76])))))) (.seq (.reg [oJ 4 (.mov (.c (.p (.bool true))))]) (.ret)))))))
theorem wx:K_spec_l2Form.whole=F_spec_l2Form.ak:=rfl
def K_spec_l3Stmt:AK:= .seq (.reg [oJ 2 (.box 5 (.t 0)),oJ 4 (.mov (.c (.p (.bool false))))]) (.cut (.seq (.reg [oM 7 1,oJ 8 (.bin .lss (.t 7) (.c (.p (.int .i64 1)))),oM 9 8,⟨(some 10),some (9,false),.fldA 0 (.t 2)⟩,⟨(some 11),some (9,false),.ld none (.t 10)⟩,⟨(some 12),some (9,false),.call bD [(.t 11),(.c (.p (.int .i64 1))),(.c (.p (.int .i64 8)))]⟩,⟨(some 13),some (9,false),.not (.t 12)⟩,oJ 14 (.pick (.t 9) (.c (.p (.bool true))) (.t 13)),oM 15 14,⟨(some 16),some (15,false),.fldA 2 (.t 2)⟩,⟨(some 19),some (15,false),.fldA 0 (.t 2)⟩,⟨(some 17),some (15,false),.ld none (.t 16)⟩,⟨(some 18),some (15,false),.len false (.t 17)⟩,⟨(some 20),some (15,false),.ld none (.t 19)⟩,⟨(some 21),some (15,false),.qcall gZ [(.t 20)]⟩,⟨(some 22),some (15,false),.bin .neq (.t 18) (.t 21)⟩,oJ 23 (.pick (.t 15) (.c (.p (.bool true))) (.t 22))]) (.cond (.t 23) (.seq (.reg [oJ 4 (.mov (.c (.p (.bool false))))]) (.ret)) (.skip))) (.cut (.reg [oF 24 0 2,oL 25 24,oJ 26 (.bin .eql (.t 25) (.c (.p (.int .i64 1)))),oM 27 26,⟨(some 28),some (27,false),.fldA 0 (.t 2)⟩,⟨(some 29),some (27,false),.ld none (.t 28)⟩,⟨(some 30),some (27,false),.bin .eql (.t 29) (.c (.p (.int .i64 2)))⟩,oJ 31 (.pick (.t 27) (.c (.p (.bool true))) (.t 30)),oM 5 31]) (.cut (.seq (.reg [oM 32 5,oF 33 1 2,oL 34 33,oJ 35 (.call cL [(.t 34)]),oJ 36 (.beq true (.t 32) (.t 35)),oM 37 36,⟨(some 38),some (37,false),.mov (.t 5)⟩,⟨(some 39),some (37,false),.not (.t 38)⟩,⟨(some 40),some (37,false),.mov (.t 39)⟩,⟨(some 41),some (40,true),.fldA 1 (.t 2)⟩,⟨(some 42),some (40,true),.ld none (.t 41)⟩,⟨(some 43),some (40,true),.bins .neq (.t 42) (.c (.p (.str [])))⟩,⟨(some 44),some (37,false),.pick (.t 40) (.t 43) (.c (.p (.bool false)))⟩,oJ 45 (.pick (.t 37) (.c (.p (.bool true))) (.t 44))]) (.cond (.t 45) (.seq (.reg [oJ 4 (.mov (.c (.p (.bool false))))]) (.ret)) (.skip))) (.seq (.seq (.reg [oK 6 0]) (.blk 0 (.loop (.seq (.seq (.reg [oM 46 6,oF 47 2 2,oL 48 47,oJ 49 (.len false (.t 48)),oJ 50 (.bin .lss (.t 46) (.t 49))]) (.cond (.t 50) (.skip) (.exit 0))) (.seq (.blk 1 (.seq (.reg [oF 53 2 2,oL 54 53,oM 55 6,oJ 56 (.idxS 4 (.t 54) (.t 55)),oJ 57 (.ld (some 4) (.t 56)),oJ 58 (.call eO [(.t 57)]),oJ 59 (.not (.t 58))]) (.cond (.t 59) (.seq (.reg [oJ 4 (.mov (.c (.p (.bool false))))]) (.ret)) (.skip)))) (.reg [oM 51 6,oJ 52 (.bin .add (.t 51) (.c (.p (.int .i64 1)))),oM 6 52])))))) (.cut (.seq (.reg [oF 60 0 2,oL 61 60,oJ 62 (.bin .eql (.t 61) (.c (.p (.int .i64 8)))),oM 63 62,⟨(some 64),some (63,true),.fldA 2 (.t 2)⟩,⟨(some 65),some (63,true),.ld none (.t 64)⟩,⟨(some 66),some (63,true),.idxS 4 (.t 65) (.c (.p (.int .i64 0)))⟩,⟨(some 67),some (63,true),.fldA 0 (.t 66)⟩,⟨(some 68),some (63,true),.ld none (.t 67)⟩,⟨(some 69),some (63,true),.bin .neq (.t 68) (.c (.p (.int .i64 13)))⟩,oJ 70 (.pick (.t 63) (.t 69) (.c (.p (.bool false))))]) (.cond (.t 70) (.seq (.reg [oJ 4 (.mov (.c (.p (.bool false))))]) (.ret)) (.skip))) (.cut (.seq (.reg [oF 71 4 2,oL 72 71,oJ 73 (.len false (.t 72)),oJ 74 (.bin .gtr (.t 73) (.c (.p (.int .i64 0)))),oM 75 74,⟨(some 76),some (75,true),.fldA 0 (.t 2)⟩,⟨(some 77),some (75,true),.ld none (.t 76)⟩,⟨(some 78),some (75,true),.bin .neq (.t 77) (.c (.p (.int .i64 5)))⟩,oJ 79 (.pick (.t 75) (.t 78) (.c (.p (.bool false)))),oM 80 79,⟨(some 81),some (80,false),.fldA 3 (.t 2)⟩,⟨(some 82),some (80,false),.ld none (.t 81)⟩,⟨(some 83),some (80,false),.len false (.t 82)⟩,⟨(some 84),some (80,false),.bin .gtr (.t 83) (.c (.p (.int .i64 0)))⟩,⟨(some 85),some (80,false),.mov (.t 84)⟩,⟨(some 86),some (85,true),.fldA 0 (.t 2)⟩,⟨(some 87),some (85,true),.ld none (.t 86)⟩,⟨(some 88),some (85,true),.bin .neq (.t 87) (.c (.p (.int .i64 5)))⟩,⟨(some 89),some (80,false),.pick (.t 85) (.t 88) (.c (.p (.bool false)))⟩,⟨(some 90),some (80,false),.mov (.t 89)⟩,⟨(some 91),some (90,true),.fldA 0 (.t 2)⟩,⟨(some 92),some (90,true),.ld none (.t 91)⟩,⟨(some 93),some (90,true),.bin .neq (.t 92) (.c (.p (.int .i64 6)))⟩,⟨(some 94),some (80,false),.pick (.t 90) (.t 93) (.c (.p (.bool false)))⟩,oJ 95 (.pick (.t 80) (.c (.p (.bool true))) (.t 94))]) (.cond (.t 95) (.seq (.reg [oJ 4 (.mov (.c (.p (.bool false))))]) (.ret)) (.skip))) (.seq (.reg [oF 96 3 2,oL 97 96,oM 98 1,oJ 99 (.bin .sub (.t 98) (.c (.p (.int .i64 1)))),oJ 100 (.call ck [(.t 97),(.t 99)]),oM 101 100,⟨(some 102),some (101,true),.fldA 4 (.t 2)⟩,⟨(some 103),some (101,true),.ld none (.t 102)⟩,⟨(some 104),some (101,true),.mov (.t 1)⟩,⟨(some 105),some (101,true),.bin .sub (.t 104) (.c (.p (.int .i64 1)))⟩,⟨(some 106),some (101,true),.call ck [(.t 103),(.t 105)]⟩,oJ 107 (.pick (.t 101) (.t 106) (.c (.p (.bool false)))),oM 4 107]) (.ret))))))))
theorem wN:K_spec_l3Stmt.whole=F_spec_l3Stmt.ak:=rfl
variable (G:aI)
theorem mN(n lo hi:Int):VF Tryz.prog G bD [.p (.int .i64 n),.p (.int .i64 lo),.p (.int .i64 hi)] (.p (.bool (inR n lo hi))):=by
 refine AC.go Ac ?_
 by_cases h:lo≤n
 ·simp-implicitDefEqProofs[mP,h,inR]
 ·simp-implicitDefEqProofs[mP,h,inR]
theorem zz(op:Int):VF Tryz.prog G hY [.p (.int .i64 op)] (.tup [.p (.int .i64 (loK op)),.p (.int .i64 (hiK op))]):=by
 refine AC.go wn ?_
 by_cases h1:op=1
 ·subst h1;simp-implicitDefEqProofs[dt,loK,hiK]
 by_cases h2:op=2
 ·subst h2;simp-implicitDefEqProofs[dt,loK,hiK]
 by_cases h3:op=11
 ·subst h3;simp-implicitDefEqProofs[dt,loK,hiK]
 by_cases h4:op=12
 ·subst h4;simp-implicitDefEqProofs[dt,loK,hiK]
 by_cases h5:op=13
 ·subst h5;simp-implicitDefEqProofs[dt,loK,hiK]
 simp-implicitDefEqProofs[dt,loK,hiK,h1,h2,h3,h4,h5]
theorem Gv:∀(d:Nat) (e:Ex),e.sz≤1099511627776→d≤1000→VF Tryz.prog G fg [.agg (e.cs.map .p),.p (.int .i64 d)] (.p (.bool (aW d e))):=by
 intro d
 induction d with
 |zero=>
  intro e he _
  refine AC.go pq ?_
  simp-implicitDefEqProofs[F_spec_l2Form,Ex.cs_eq]
  refine(zz G _).use ?_
  simp-implicitDefEqProofs[aW]
 |succ d ih=>
  intro e he hd
  have hsz:=e.sz_eq
  have hkl:=aM e.kids
  refine AC.goK pq wx ?_
  have hd1:¬(d:Int)+1<1:=by omega
  have hw:IntKind.i64.wrap ((d:Int)+1-1)=(d:Int):=by rw[show(d:Int)+1-1=d by omega];exact al (by omega) (by omega)
  have hw':IntKind.i64.wrap (d:Int)=(d:Int):=al (by omega) (by omega)
  have hxl:∀l,exL l= .lst 4 (l.map Ex.cs):=fun _=>rfl
  simp-implicitDefEqProofs[K_spec_l2Form,F_spec_l2Form,Ex.cs_eq]
  refine(zz G _).use ?_
  simp-implicitDefEqProofs[hd1]
  refine(mN G _ _ _).use ?_
  by_cases h1:inR e.op 1 13=true
  case neg=>simp-implicitDefEqProofs[h1,aW,iv]
  simp-implicitDefEqProofs[h1,hxl]
  refine(mN G _ _ _).use ?_
  by_cases h2:inR e.kids.length (loK e.op) (hiK e.op)=true
  case neg=>simp-implicitDefEqProofs[h2,aW,iv]
  simp-implicitDefEqProofs[h2]
  refine kL (aj 86 [(1,.p (.int .i64 (d+1))),(2,.ptr 0 4 0 0),(7,.p (.bool (zo e.op)))]) [.row 4 [[.p (.int .i64 e.op),.p (.int .i64 e.n),.p (.str e.name),.p (.lst 4 (e.kids.map Ex.cs))]]] ?_ ?_
  ·by_cases o2:e.op=2
   ·simp-implicitDefEqProofs[o2]
    exact aa (by simp) (by simp[okO]) (by simp[below,zo])
   ·by_cases o13:e.op=13
    ·simp-implicitDefEqProofs[o13]
     exact aa (by simp) (by simp[okO]) (by simp[below,zo])
    ·simp-implicitDefEqProofs[o2,o13]
     exact aa (by simp) (by simp[okO]) (by simp[below,zo,o2,o13])
  have hn:e.name.length≤140737488355328:=by omega
  refine pQ (fun _:Unit=>aj 86 [(1,.p (.int .i64 ((d:Int)+1))),(2,.ptr 0 4 0 0)]) (fun _=>[.row 4 [[.p (.int .i64 e.op),.p (.int .i64 e.n),.p (.str e.name),.p (.lst 4 (e.kids.map Ex.cs))]]]) (fun _=>iv e=true) ?_ ?_
  ·simp-implicitDefEqProofs[]
   refine(qn G _ hn).use ?_
   simp-implicitDefEqProofs[]
   repeat' first
    |(refine(mN G _ _ _).use ?_;simp-implicitDefEqProofs[])
    |(refine bh (fun hc=>?_) (fun hc=>?_)<;>simp-implicitDefEqProofs[hc])
   all_goals first
    |exact⟨by simp_all [iv],aa (by simp) (by simp[okO]) (by simp[below])⟩
    |simp_all [aW,iv]
  intro _ hh
  simp-implicitDefEqProofs[]
  refine aF (fun i:Nat=>aj 86 [(1,.p (.int .i64 ((d:Int)+1))),(2,.ptr 0 4 0 0),(8,.p (.int .i64 i))]) (fun _=>[.row 4 [[.p (.int .i64 e.op),.p (.int .i64 e.n),.p (.str e.name),.p (.lst 4 (e.kids.map Ex.cs))]]])
   (fun i=>i≤e.kids.length∧(e.kids.take i).all (aW d)=true) (fun i=>e.kids.length-i) 0 (by simp) (aa (by simp) (by simp[okO]) (by simp[below])) ?_
  intro i ⟨hi,hall⟩
  simp-implicitDefEqProofs[]
  refine bh (fun h=>?_) (fun h=>?_)
  ·simp at h
   have hg:=List.getElem?_eq_getElem h
   have hks:=az (List.getElem_mem h)
   simp-implicitDefEqProofs[hg,hw']
   refine(ih e.kids[i] (by omega) (by omega)).use ?_
   by_cases hk:aW d e.kids[i]=true
   ·simp-implicitDefEqProofs[hk]
    refine⟨i+1,⟨h,by rw[←List.all_eq_true,dx h,hall,hk];rfl⟩,by omega,aa (by simp) (by simp[okO]) ?_⟩
    simp[below,w1 (i:=i) (by omega)]
   ·have hk':aW d e.kids[i]=false:=by simpa using hk
    have hf:aW (d+1) e=false:=by simp only[aW,kh h hk',Bool.and_false]
    simp-implicitDefEqProofs[hk',hf]
  ·simp at h
   have hf:aW (d+1) e=true:=by simp only[aW,fm h hall,hh,Bool.and_self]
   simp-implicitDefEqProofs[hf]
theorem DL{l:List Ex}{i:Nat}(h:i<l.length):de (l.take (i+1))=de (l.take i)+l[i].parts:=by
 rw[ah h,ir];simp[de]
theorem yy(l:List Ex)(i:Nat):de (l.take i)≤de l:=by
 have:=ir (l.take i) (l.drop i)
 rw[List.take_append_drop] at this
 omega
theorem DK:∀(k:Nat) (e:Ex),e.sz≤k→k≤1099511627776→VF Tryz.prog G gn [.agg (e.cs.map .p)] (.p (.int .i64 e.parts)):=by
 intro k
 induction k with
 |zero=>intro e he;have:=e.sz_eq;omega
 |succ k ih=>
  intro e he hk
  have hsz:=e.sz_eq
  have hkl:=aM e.kids
  have hpe:=e.parts_eq
  have hpz:=xO e.kids
  refine AC.go uC ?_
  have hxl:∀l,exL l= .lst 4 (l.map Ex.cs):=fun _=>rfl
  simp-implicitDefEqProofs[mE,Ex.cs_eq,hxl]
  refine aF (fun i:Nat=>aj 21 [(1,.ptr 0 4 0 0),(3,.p (.int .i64 ((1+de (e.kids.take i):Nat):Int))),(4,.p (.int .i64 i))]) (fun _=>[.row 4 [[.p (.int .i64 e.op),.p (.int .i64 e.n),.p (.str e.name),.p (.lst 4 (e.kids.map Ex.cs))]]])
   (fun i=>i≤e.kids.length) (fun i=>e.kids.length-i) 0 (by simp) (aa (by simp) (by simp[okO]) (by simp[below,de])) ?_
  intro i hi
  simp-implicitDefEqProofs[]
  refine bh (fun h=>?_) (fun h=>?_)
  ·simp at h
   have hg:=List.getElem?_eq_getElem h
   have hks:=az (List.getElem_mem h)
   have hps:=DL h
   have hple:=yy e.kids (i+1)
   simp-implicitDefEqProofs[hg]
   refine(ih e.kids[i] (by omega) (by omega)).use ?_
   have hw:IntKind.i64.wrap (1+(de (e.kids.take i):Int)+(e.kids[i].parts:Int))=((1+de (e.kids.take (i+1)):Nat):Int):=by rw[al (by omega) (by omega)];omega
   simp-implicitDefEqProofs[hw]
   exact⟨i+1,h,by omega,aa (by simp) (by simp[okO]) (by simp[below,w1 (i:=i) (by omega)])⟩
  ·simp at h
   rw[List.take_of_length_le h]
   simp-implicitDefEqProofs[]
   omega
theorem Aj(e:Ex)(he:e.sz≤1099511627776):VF Tryz.prog G eO [.agg (e.cs.map .p)] (.p (.bool (fI e))):=by
 refine AC.go sc ?_
 simp-implicitDefEqProofs[lm]
 have h6:=Gv G 6 e he (by omega)
 refine h6.use ?_
 by_cases h:aW 6 e=true
 ·simp-implicitDefEqProofs[h]
  refine(DK G _ e (Nat.le_refl _) he).use ?_
  simp-implicitDefEqProofs[fI,h]
  omega
 ·simp-implicitDefEqProofs[h,fI]
theorem GH(op:Int):VF Tryz.prog G gZ [.p (.int .i64 op)] (.p (.int .i64 (jL op))):=by
 refine AC.go wA ?_
 by_cases h:op=4
 ·simp-implicitDefEqProofs[kD,h,jL]
 ·simp-implicitDefEqProofs[kD,h,jL]
theorem td(d:Nat)(hd:d≤1000)(hs:∀s:Sm,s.sz≤1099511627776→VF Tryz.prog G ik [.agg (s.cs.map .p),.p (.int .i64 d)] (.p (.bool (aq d s))))(l:List Sm)(hl:aD l≤1099511627776):
 VF Tryz.prog G ck [.p (smL l),.p (.int .i64 d)] (.p (.bool (l.all (aq d)))):=by
 refine AC.go uL ?_
 have hll:=aR l
 have hsl:∀l,smL l= .lst 5 (l.map Sm.cs):=fun _=>rfl
 simp-implicitDefEqProofs[nM]
 refine aF (fun i:Nat=>aj 19 [(0,.p (smL l)),(1,.p (.int .i64 d)),(5,.p (.int .i64 i))]) (fun _=>[]) (fun i=>i≤l.length∧(l.take i).all (aq d)=true) (fun i=>l.length-i) 0 (by simp) (aJ rfl (by simp[below,hsl])) ?_
 intro i ⟨hi,hall⟩
 simp-implicitDefEqProofs[hsl]
 refine bh (fun h=>?_) (fun h=>?_)
 ·simp at h
  have hg:=List.getElem?_eq_getElem h
  have hks:=aL (List.getElem_mem h)
  simp-implicitDefEqProofs[hg]
  refine(hs l[i] (by omega)).use ?_
  by_cases hk:aq d l[i]=true
  ·simp-implicitDefEqProofs[hk]
   exact⟨i+1,⟨h,by rw[←List.all_eq_true,dx h,hall,hk];rfl⟩,by omega,aJ rfl (by simp[below,hsl,w1 (i:=i) (by omega)])⟩
  ·have hk':aq d l[i]=false:=by simpa using hk
   have hf:=kh h hk'
   simp-implicitDefEqProofs[hk',hf]
 ·simp at h
  have hf:=fm h hall
  simp-implicitDefEqProofs[hf]
theorem GL:∀(d:Nat),d≤1000→∀s:Sm,s.sz≤1099511627776→VF Tryz.prog G ik [.agg (s.cs.map .p),.p (.int .i64 d)] (.p (.bool (aq d s))):=by
 intro d
 induction d with
 |zero=>
  intro _ s _
  refine AC.go pF ?_
  simp-implicitDefEqProofs[F_spec_l3Stmt,Sm.cs_eq,aq]
 |succ d ih=>
  intro hd s he
  have hsz:=s.sz_eq
  have hal:=aM s.args
  have hbl:=aR s.body
  have hel:=aR s.els
  have ihs:=td G d (by omega) (ih (by omega))
  refine AC.goK pF wN ?_
  have hd1:¬(d:Int)+1<1:=by omega
  have hw':IntKind.i64.wrap (d:Int)=(d:Int):=al (by omega) (by omega)
  have hxl:∀l,exL l= .lst 4 (l.map Ex.cs):=fun _=>rfl
  have hsl:∀l,smL l= .lst 5 (l.map Sm.cs):=fun _=>rfl
  have hn:s.name.length≤140737488355328:=by omega
  simp-implicitDefEqProofs[K_spec_l3Stmt,F_spec_l3Stmt,Sm.cs_eq]
  generalize hH:[AO.row 5 [[AV.p (.int .i64 s.op),.p (.str s.name),.p (exL s.args),.p (smL s.body),.p (smL s.els)]]]=H
  have hho:∀o∈H,okO H.length o:=by rw[←hH];simp[okO]
  have hhl:0<H.length:=by rw[←hH];simp
  have hh0:H[0]?=some (AO.row 5 [[AV.p (.int .i64 s.op),.p (.str s.name),.p (exL s.args),.p (smL s.body),.p (smL s.els)]]):=by rw[←hH];rfl
  have hhL:H.length=1:=by rw[←hH];rfl
  refine pQ (fun _:Unit=>aj 108 [(1,.p (.int .i64 ((d:Int)+1))),(2,.ptr 0 5 0 0)]) (fun _=>H) (fun _=>inR s.op 1 8=true∧s.args.length=jL s.op) ?_ ?_
  ·simp-implicitDefEqProofs[hd1,hh0]
   refine(mN G _ _ _).use ?_
   by_cases h1:inR s.op 1 8=true
   case neg=>simp-implicitDefEqProofs[h1,aq,er]
   simp-implicitDefEqProofs[h1,hh0,hxl]
   refine(GH G _).useQ ?_
   by_cases h2:s.args.length=jL s.op
   ·simp-implicitDefEqProofs[h2]
    exact aa (by omega) hho (by simp[below,hhl])
   ·have h2':¬(s.args.length:Int)=(jL s.op:Int):=by omega
    simp-implicitDefEqProofs[h2,h2',aq,er]
  intro _ ⟨h1,h2⟩
  refine pQ (fun _:Unit=>aj 108 [(1,.p (.int .i64 ((d:Int)+1))),(2,.ptr 0 5 0 0),(5,.p (.bool (dd s.op)))]) (fun _=>H) (fun _=>True) ?_ ?_
  ·simp-implicitDefEqProofs[hh0]
   by_cases o1:s.op=1
   ·simp-implicitDefEqProofs[o1,hh0,dd]
    exact aa (by omega) hho (by simp[below,hhl])
   ·by_cases o2:s.op=2
    ·simp-implicitDefEqProofs[o2,hh0,dd]
     exact aa (by omega) hho (by simp[below,hhl])
    ·simp-implicitDefEqProofs[o1,o2,hh0,dd]
     exact aa (by omega) hho (by simp[below,hhl])
  intro _ _
  refine pQ (fun _:Unit=>aj 108 [(1,.p (.int .i64 ((d:Int)+1))),(2,.ptr 0 5 0 0)]) (fun _=>H) (fun _=>(dd s.op==aH s.name)=true∧(dd s.op||decide (s.name=[]))=true) ?_ ?_
  ·simp-implicitDefEqProofs[hh0]
   refine(qn G _ hn).use ?_
   simp-implicitDefEqProofs[hh0]
   repeat' first
    |(refine bh (fun hc=>?_) (fun hc=>?_)<;>simp-implicitDefEqProofs[hc,hh0])
   all_goals first
    |exact aa (by omega) hho (by simp[below,hhl])
    |exact⟨by simp_all,by simp_all,aa (by omega) hho (by simp[below,hhl])⟩
    |exact⟨by simp_all,aa (by omega) hho (by simp[below,hhl])⟩
    |(simp_all [aq,er];done)
  intro _ ⟨h3,h4⟩
  simp-implicitDefEqProofs[]
  refine aF (fun i:Nat=>aj 108 [(1,.p (.int .i64 ((d:Int)+1))),(2,.ptr 0 5 0 0),(6,.p (.int .i64 i))]) (fun _=>H) (fun i=>i≤s.args.length∧(s.args.take i).all fI=true) (fun i=>s.args.length-i) 0 (by simp) (aa (by omega) hho (by simp[below,hhl])) ?_
  intro i ⟨hi,hall⟩
  simp-implicitDefEqProofs[hh0,hxl]
  refine bh (fun h=>?_) (fun h=>?_)
  ·simp at h
   have hg:=List.getElem?_eq_getElem h
   have hks:=az (List.getElem_mem h)
   simp-implicitDefEqProofs[hg,hh0,hxl]
   refine(Aj G s.args[i] (by omega)).use ?_
   by_cases hk:fI s.args[i]=true
   ·simp-implicitDefEqProofs[hk]
    exact⟨i+1,⟨h,by rw[←List.all_eq_true,dx h,hall,hk];rfl⟩,by omega,aa (by omega) hho (by simp[below,hhl,w1 (i:=i) (by omega)])⟩
   ·have hk':fI s.args[i]=false:=by simpa using hk
    have hf:aq (d+1) s=false:=by simp only[aq,er,kh h hk',Bool.and_false,Bool.false_and]
    simp-implicitDefEqProofs[hk',hf]
  simp at h
  have h5:s.args.all fI=true:=fm h hall
  have hlen1:1≤s.args.length:=by rw[h2];unfold jL;split<;>omega
  obtain⟨a0,ar,ha⟩:∃a r,s.args=a::r:=by
   cases hh:s.args with
   |nil=>rw[hh] at hlen1;simp at hlen1
   |cons a r=>exact⟨a,r,rfl⟩
  have ha0:s.args[0]?=some a0:=by rw[ha];rfl
  refine pQ (fun _:Unit=>aj 108 [(1,.p (.int .i64 ((d:Int)+1))),(2,.ptr 0 5 0 0)]) (fun _=>H) (fun _=>(!decide (s.op=8)||decide (a0.op=13))=true) ?_ ?_
  ·simp-implicitDefEqProofs[hh0]
   by_cases o8:s.op=8
   ·have hae:=a0.cs_eq
    simp-implicitDefEqProofs[o8,hh0,hxl,ha0,hae]
    refine bh (fun hc=>?_) (fun hc=>?_)
    ·simp at hc
     have hf:aq (d+1) s=false:=by simp[aq,er,o8,ha,hc]
     simp-implicitDefEqProofs[hf]
    ·simp at hc
     simp-implicitDefEqProofs[hc]
     exact aa (by omega) hho (by simp[below,hhl])
   ·simp-implicitDefEqProofs[o8,hh0]
    exact aa (by omega) hho (by simp[below,hhl])
  intro _ h6
  refine pQ (fun _:Unit=>aj 108 [(1,.p (.int .i64 ((d:Int)+1))),(2,.ptr 0 5 0 0)]) (fun _=>H) (fun _=>(s.els.isEmpty||decide (s.op=5))=true∧(s.body.isEmpty||decide (s.op=5)||decide (s.op=6))=true) ?_ ?_
  ·have hf:¬((s.els.isEmpty||decide (s.op=5))=true∧(s.body.isEmpty||decide (s.op=5)||decide (s.op=6))=true)→aq (d+1) s=false:=fun h=>by
    have:er s=false:=by
     cases hx:er s with
     |false=>rfl
     |true=>refine absurd ?_ h;simp only[er,Bool.and_eq_true] at hx;exact⟨hx.1.2,hx.2⟩
    simp[aq,this]
   have pe:¬s.els=[]→0<s.els.length:=List.length_pos_iff.2
   have pb:¬s.body=[]→0<s.body.length:=List.length_pos_iff.2
   by_cases o5:s.op=5
   ·simp-implicitDefEqProofs[hh0,hsl,o5]
    repeat' first
     |(refine bh (fun hc=>?_) (fun hc=>?_)<;>simp-implicitDefEqProofs[hc,hh0,hsl,o5])
    all_goals exact aa (by omega) hho (by simp[below,hhl])
   by_cases e1:s.els=[]
   case neg=>
    have hf:=hf (by simp[e1,o5])
    have:=pe e1
    simp-implicitDefEqProofs[hh0,hsl,o5,e1,this,hf]
   by_cases e2:s.body=[]
   ·simp-implicitDefEqProofs[hh0,hsl,o5,e1,e2]
    exact aa (by omega) hho (by simp[below,hhl])
   have:=pb e2
   by_cases o6:s.op=6
   ·simp-implicitDefEqProofs[hh0,hsl,o6,e1,e2,this]
    exact aa (by omega) hho (by simp[below,hhl])
   ·have hf:=hf (by simp[e2,o5,o6])
    simp-implicitDefEqProofs[hh0,hsl,o5,o6,e1,e2,this,hf]
  intro _ ⟨h7,h8⟩
  have hm:(match s.args with|a::_=>decide (a.op=13)|[]=>false)=decide (a0.op=13):=by rw[ha]
  have hhd:er s=true:=by
   have h6':(!decide (s.op=8)||(match s.args with|a::_=>decide (a.op=13)|[]=>false))=true:=by rw[hm];exact h6
   have h2':decide (s.args.length=jL s.op)=true:=by simp[h2]
   simp only[er,h1,h2',h3,h4,h5,h7,h8,Bool.and_self,Bool.and_true,Bool.true_and]
   exact h6'
  simp-implicitDefEqProofs[hh0,hw']
  refine(ihs s.body (by omega)).use ?_
  by_cases hB:s.body.all (aq d)=true
  ·simp only[hB]
   simp-implicitDefEqProofs[hh0,hw']
   refine(ihs s.els (by omega)).use ?_
   have hf:aq (d+1) s=s.els.all (aq d):=by simp only[aq,hhd,hB,Bool.true_and]
   rw[hf]
   generalize s.els.all (aq d)=w
   simp-implicitDefEqProofs[]
  ·have hB':s.body.all (aq d)=false:=by simpa using hB
   have hf:aq (d+1) s=false:=by simp only[aq,hB',Bool.and_false,Bool.false_and]
   simp only[hB',hf]
   simp-implicitDefEqProofs[]
theorem EH(d:Nat)(hd:d≤1000)(l:List Sm)(hl:aD l≤1099511627776):VF Tryz.prog G ck [.p (smL l),.p (.int .i64 d)] (.p (.bool (l.all (aq d)))):=
 td G d hd (GL G d hd) l hl
theorem KE(f:Fd)(hf:f.sz≤1099511627776):VF Tryz.prog G mZ [.agg (f.cs.map .p)] (.p (.bool (gx f))):=by
 refine AC.go zK ?_
 have hsz:f.sz=1+f.name.length+(f.params.length+(f.params.map List.length).sum)+aD f.body:=rfl
 have hps:∀x∈f.params,x.length≤(f.params.map List.length).sum:=fun x hx=>by
  have key:∀l:List (List UInt8),x∈l→x.length≤(l.map List.length).sum:=by
   intro l
   induction l with
   |nil=>intro h;cases h
   |cons y r ih=>
    intro h
    simp only[List.map_cons,List.sum_cons]
    rcases List.mem_cons.1 h with rfl|h
    ·omega
    ·have:=ih h;omega
  exact key _ hx
 have hst:aN f.params= .lst 1 (f.params.map fun w=>[.str w]):=rfl
 have h4:=EH G 4 (by omega) f.body (by omega)
 simp-implicitDefEqProofs[te,Fd.cs,hst]
 refine aF (fun i:Nat=>aj 32 [(1,.ptr 0 3 0 0),(3,.p (.int .i64 i))]) (fun _=>[.row 3 [[.p (.str f.name),.p (aN f.params),.p (smL f.body)]]]) (fun i=>i≤f.params.length∧(f.params.take i).all aH=true) (fun i=>f.params.length-i) 0 (by simp) (aa (by simp) (by simp[okO]) (by simp[below])) ?_
 intro i ⟨hi,hall⟩
 simp-implicitDefEqProofs[hst]
 refine bh (fun h=>?_) (fun h=>?_)
 ·simp at h
  have hg:=List.getElem?_eq_getElem h
  have hl:=hps _ (List.getElem_mem h)
  simp-implicitDefEqProofs[hg]
  refine(qn G _ (by omega)).use ?_
  by_cases hk:aH f.params[i]=true
  ·simp-implicitDefEqProofs[hk]
   exact⟨i+1,⟨h,by rw[←List.all_eq_true,dx h,hall,hk];rfl⟩,by omega,aa (by simp) (by simp[okO]) (by simp[below,w1 (i:=i) (by omega)])⟩
  ·have hk':aH f.params[i]=false:=by simpa using hk
   have hff:gx f=false:=by simp only[gx,kh h hk',Bool.false_and]
   simp-implicitDefEqProofs[hk',hff]
 ·simp at h
  have h1:f.params.all aH=true:=fm h hall
  simp-implicitDefEqProofs[]
  refine(qn G _ (by omega)).use ?_
  by_cases h2:aH f.name=true
  case neg=>
   have h2':aH f.name=false:=by simpa using h2
   simp-implicitDefEqProofs[h2',gx]
  simp-implicitDefEqProofs[h2]
  by_cases h3:f.params.length≤3
  case neg=>
   have h3':¬(f.params.length:Int)≤3:=by omega
   simp-implicitDefEqProofs[h3,h3',gx]
  have h3':(f.params.length:Int)≤3:=by omega
  simp-implicitDefEqProofs[h3']
  refine h4.use ?_
  have hff:gx f=f.body.all (aq 4):=by simp only[gx,h1,h2,h3,decide_true,Bool.true_and]
  rw[hff]
  generalize f.body.all (aq 4)=w
  simp-implicitDefEqProofs[]
theorem Di{l:List Sm}{i:Nat}(h:i<l.length):cC (l.take (i+1))=cC (l.take i)+l[i].cnt:=by
 rw[ah h,nq];simp[cC]
theorem rg(l:List Sm)(i:Nat):cC (l.take i)≤cC l:=by
 have:=nq (l.take i) (l.drop i)
 rw[List.take_append_drop] at this
 omega
def jU(l:List Sm)(i:Nat):Nat:=l.length+((l.take i).map fun s=>cC s.body+cC s.els).sum
theorem Ci(l:List Sm):jU l 0=l.length:=by simp[jU]
theorem vg{l:List Sm}{i:Nat}(h:i<l.length):jU l (i+1)=jU l i+cC l[i].body+cC l[i].els:=by
 rw[jU,jU,ah h,List.map_append,List.sum_append]
 simp only[List.map_cons,List.map_nil,List.sum_cons,List.sum_nil]
 omega
theorem rV(l:List Sm):∀i,i≤l.length→cC (l.take i)+l.length=i+jU l i
 |0,_=>by simp[cC,jU]
 |i+1,h=>by
  have:=rV l i (by omega)
  rw[Di (by omega),vg (by omega),(l[i]'(by omega)).cnt_eq]
  omega
theorem Df:∀(k:Nat) (l:List Sm),aD l≤k→k≤1099511627776→VF Tryz.prog G eu [.p (smL l)] (.p (.int .i64 (cC l))):=by
 intro k
 induction k with
 |zero=>
  intro l hl _
  have:l=[]:=by
   cases l with
   |nil=>rfl
   |cons s r=>have:=s.sz_eq;simp only[aD] at hl;omega
  subst this
  refine AC.go mR ?_
  have hsl:smL []= .lst 5 []:=rfl
  simp-implicitDefEqProofs[js,hsl]
  refine aF (fun _:Unit=>aj 29 [(0,.p (.lst 5 [])),(3,.p (.int .i64 0)),(4,.p (.int .i64 0))]) (fun _=>[]) (fun _=>True) (fun _=>0) () trivial (aJ rfl (by simp[below])) ?_
  intro _ _
  simp-implicitDefEqProofs[cC]
 |succ k ih=>
  intro l hl hk
  have hll:=aR l
  have hnz:=nW l
  refine AC.go mR ?_
  have hsl:∀l,smL l= .lst 5 (l.map Sm.cs):=fun _=>rfl
  simp-implicitDefEqProofs[js,hsl]
  refine aF (fun i:Nat=>aj 29 [(0,.p (smL l)),(3,.p (.int .i64 (jU l i))),(4,.p (.int .i64 i))]) (fun _=>[]) (fun i=>i≤l.length) (fun i=>l.length-i) 0 (by simp) (aJ rfl (by simp[below,hsl,Ci])) ?_
  intro i hi
  have k0:=rV l i hi
  have k2:=rg l i
  simp-implicitDefEqProofs[hsl]
  refine bh (fun h=>?_) (fun h=>?_)
  ·simp at h
   have hg:=List.getElem?_eq_getElem h
   have hks:=aL (List.getElem_mem h)
   have hse:=l[i].sz_eq
   have hce:=l[i].cs_eq
   have k1:=vg h
   have k3:=rV l (i+1) h
   have k4:=rg l (i+1)
   simp-implicitDefEqProofs[hg,hce]
   refine(ih l[i].body (by omega) (by omega)).use ?_
   simp-implicitDefEqProofs[hg,hce]
   refine(ih l[i].els (by omega) (by omega)).use ?_
   have w1':IntKind.i64.wrap ((jU l i:Int)+(cC l[i].body:Int))=(jU l i:Int)+(cC l[i].body:Int):=al (by omega) (by omega)
   have w2':IntKind.i64.wrap ((jU l i:Int)+(cC l[i].body:Int)+(cC l[i].els:Int))=(jU l (i+1):Int):=by rw[al (by omega) (by omega)];omega
   simp-implicitDefEqProofs[w1',w2']
   exact⟨i+1,h,by omega,aJ rfl (by simp[below,hsl,w1 (i:=i) (by omega)])⟩
  ·simp at h
   rw[List.take_of_length_le h] at k0
   have:jU l i=cC l:=by omega
   simp-implicitDefEqProofs[this]
theorem bS:∀{l:List Fd} {f:Fd},f∈l→f.sz≤bn l
 |x::r,e,h=>by
  simp only[bn,List.map_cons,List.sum_cons]
  rcases List.mem_cons.1 h with rfl|h
  ·omega
  ·have:=bS h;simp only[bn] at this;omega
theorem bL:∀l:List Fd,l.length≤bn l
 |[]=>Nat.le_refl _
 |e::r=>by have:=bL r;simp only[bn,List.map_cons,List.sum_cons,List.length_cons] at this⊢;have:1≤e.sz:=by unfold Fd.sz;omega
           omega
def vG(l:List Fd)(i:Nat):Nat:=iB (l.take i)
theorem DZ{l:List Fd}{i:Nat}(h:i<l.length):vG l (i+1)=vG l i+cC l[i].body:=by
 rw[vG,vG,iB,iB,ah h,List.map_append,List.sum_append];simp
theorem xK:∀l:List Fd,iB l≤bn l
 |[]=>Nat.le_refl _
 |f::r=>by
  have:=xK r
  have h2:=nW f.body
  simp only[iB,bn,List.map_cons,List.sum_cons] at this⊢
  have:aD f.body≤f.sz:=by unfold Fd.sz;omega
  omega
theorem Je(l:List Fd)(i:Nat):vG l i≤bn l:=by
 have h1:=xK (l.take i)
 have h2:bn (l.take i)≤bn l:=by
  have:bn l=bn (l.take i)+bn (l.drop i):=by
   rw[←List.take_append_drop i l,bn,List.map_append,List.sum_append];simp[bn]
  omega
 exact Nat.le_trans h1 h2
theorem IT(l:List Fd)(hl:bn l≤1099511627776):VF Tryz.prog G lN [.agg [.p (fdL l)]] (.p (.int .i64 (iB l))):=by
 refine AC.go xH ?_
 have hll:=bL l
 have hfl:∀l,fdL l= .lst 3 (l.map Fd.cs):=fun _=>rfl
 simp-implicitDefEqProofs[rb]
 refine aF (fun i:Nat=>aj 22 [(1,.ptr 0 1 0 0),(3,.p (.int .i64 (vG l i))),(4,.p (.int .i64 i))]) (fun _=>[.row 1 [[.p (fdL l)]]]) (fun i=>i≤l.length) (fun i=>l.length-i) 0 (by simp) (aa (by simp) (by simp[okO]) (by simp[below,vG,iB])) ?_
 intro i hi
 simp-implicitDefEqProofs[hfl]
 refine bh (fun h=>?_) (fun h=>?_)
 ·simp at h
  have hg:=List.getElem?_eq_getElem h
  have hks:=bS (List.getElem_mem h)
  have hse:l[i].sz=1+l[i].name.length+(l[i].params.length+(l[i].params.map List.length).sum)+aD l[i].body:=rfl
  have hce:l[i].cs=[.str l[i].name,aN l[i].params,smL l[i].body]:=rfl
  have k1:=DZ h
  have k2:=Je l (i+1)
  simp-implicitDefEqProofs[hg,hce]
  refine(Df G _ l[i].body (Nat.le_refl _) (by omega)).use ?_
  have w1':IntKind.i64.wrap ((vG l i:Int)+(cC l[i].body:Int))=(vG l (i+1):Int):=by rw[al (by omega) (by omega)];omega
  simp-implicitDefEqProofs[w1']
  exact⟨i+1,h,by omega,aa (by simp) (by simp[okO]) (by simp[below,w1 (i:=i) (by omega),hfl])⟩
 ·simp at h
  have:vG l i=iB l:=by rw[vG,List.take_of_length_le h]
  simp-implicitDefEqProofs[this]
theorem ve(l:List Fd)(hl:bn l≤1099511627776):VF Tryz.prog G fc [.agg [.p (fdL l)]] (.p (.bool (bH l))):=by
 refine AC.go oQ ?_
 have hfl:∀l,fdL l= .lst 3 (l.map Fd.cs):=fun _=>rfl
 have hall:=IT G l hl
 have hll:=bL l
 rw[hfl] at hall
 simp-implicitDefEqProofs[iQ,hfl]
 refine(mN G _ _ _).use ?_
 by_cases h1:inR l.length 1 4=true
 case neg=>simp-implicitDefEqProofs[h1,bH]
 simp-implicitDefEqProofs[h1]
 refine aF (fun i:Nat=>aj 26 [(1,.ptr 0 1 0 0),(3,.p (.int .i64 i))]) (fun _=>[.row 1 [[.p (.lst 3 (l.map Fd.cs))]]]) (fun i=>i≤l.length∧(l.take i).all gx=true) (fun i=>l.length-i) 0 (by simp) (aa (by simp) (by simp[okO]) (by simp[below])) ?_
 intro i ⟨hi,ha⟩
 simp-implicitDefEqProofs[]
 refine bh (fun h=>?_) (fun h=>?_)
 ·simp at h
  have hg:=List.getElem?_eq_getElem h
  have hks:=bS (List.getElem_mem h)
  simp-implicitDefEqProofs[hg]
  refine(KE G l[i] (by omega)).use ?_
  by_cases hk:gx l[i]=true
  ·simp-implicitDefEqProofs[hk]
   exact⟨i+1,⟨h,by rw[←List.all_eq_true,dx h,ha,hk];rfl⟩,by omega,aa (by simp) (by simp[okO]) (by simp[below,w1 (i:=i) (by omega)])⟩
  ·have hk':gx l[i]=false:=by simpa using hk
   have hff:bH l=false:=by simp only[bH,kh h hk',Bool.and_false,Bool.false_and]
   simp-implicitDefEqProofs[hk',hff]
 ·simp at h
  have h2:l.all gx=true:=fm h ha
  simp-implicitDefEqProofs[]
  refine hall.use ?_
  have hff:bH l=decide (iB l≤40):=by simp only[bH,h1,h2,Bool.true_and]
  simp-implicitDefEqProofs[hff]
  omega
end Go.Proofs.YtaopbokndkdieaaGreatDoor
namespace Go.Proofs.YtaopbokndkdieaaGreatDoor
open Go Go.Aw
set_option maxRecDepth 100000
set_option maxHeartbeats 4000000
theorem fk{n:Nat}{h h1:List AO}(e:h.take n=h1)(hn:h1.length=n)(ho:∀o∈h1,okO n o):Fst n h h1:=by
 have hl:n≤h.length:=by
  have:=congrArg List.length e
  rw[List.length_take] at this;omega
 have hg:∀(i:Nat) (o:AO),h1[i]?=some o→h[i]?=some o:=fun i o hi=>by
  have h2:=(List.getElem?_eq_some_iff.1 hi).1
  rw[←e,List.getElem?_take_of_lt (by omega)] at hi
  exact hi
 exact⟨hn,hl,fun i sz es hi=>⟨hg _ _ hi,ho _ (List.mem_of_getElem? hi)⟩,fun i es hi=>⟨hg _ _ hi,ho _ (List.mem_of_getElem? hi)⟩,fun i s p hi=>hg _ _ hi⟩
theorem xu:∀(r:List AO) (s:Nat),((iR (List.range' s r.length++[0]) (r++[.dead])).Nodup∧∀i∈iR (List.range' s r.length++[0]) (r++[.dead]),s≤i)
 |[],s=>by simp[iR]
 |o::r,s=>by
  obtain⟨h1,h2⟩:=xu r (s+1)
  rw[List.length_cons,List.range'_succ]
  cases o with
  |dead=>exact⟨h1,fun i hi=>Nat.le_of_succ_le (h2 i hi)⟩
  |_=>exact⟨List.nodup_cons.2 ⟨fun hm=>absurd (h2 _ hm) (by omega),h1⟩,fun i hi=>by
   rcases List.mem_cons.1 hi with rfl|hi
   ·exact Nat.le_refl _
   ·exact Nat.le_of_succ_le (h2 i hi)⟩
theorem yN{h:List AO}(hp:0<h.length)(ho:∀o∈h,okO h.length o):∀(r:List AO) (s:Nat),(∀i:Nat,r[i]?=h[s+i]?)→s+r.length=h.length→HW (List.range' 0 h.length++[0]) h (List.range' s r.length++[0]) (r++[.dead])
 |[],s,_,_=>gY hp bj
 |o::r,s,hr,hs=>by
  have hσ:∀i,i<h.length→(List.range' 0 h.length++[0]).getD i 0=i:=fun i hi=>by
   rw[List.getD_eq_getElem?_getD,List.getElem?_append_left (by simp;exact hi)];simp[hi]
  rw[List.length_cons,List.range'_succ]
  have h0:=hr 0
  have ih:=yN hp ho r (s+1) (fun i=>by have:=hr (i+1);rw[List.getElem?_cons_succ] at this;rw[this];congr 1;omega) (by simp at hs;omega)
  have hm:h[s]?=some o:=by simpa using h0.symm
  have hok:=ho o (List.mem_of_getElem? hm)
  cases o with
  |dead=>exact gY (List.getElem?_eq_some_iff.1 hm).1 ih
  |row sz es=>
   refine lZ (fun x hx=>aT (by simp) _ (hok x hx)) ?_ ih
   rw[hm,List.map_congr_left (g:=id) fun x hx=>mX hσ x (hok x hx)];simp
  |mp es=>exact⟨(List.getElem?_eq_some_iff.1 hm).1,⟨fun x hx=>by exact(aT (by simp) [x.2] ⟨hok x hx,trivial⟩).1,by rw[hm,List.map_congr_left (g:=id) fun x hx=>by rw[jc hσ x.2 (hok x hx)];rfl];simp⟩,ih⟩
  |sit s p=>exact⟨(List.getElem?_eq_some_iff.1 hm).1,hm,ih⟩
theorem zx{m:Nat}{l:List (Nat × AV)}:∀r:List (Nat × AV),FgA m l r→TWA (List.range' 0 m++[0]) l r
 |[],_=>trivial
 |x::r,⟨⟨a,c⟩,d⟩=>by
  have hσ:∀i,i<m→(List.range' 0 m++[0]).getD i 0=i:=fun i hi=>by
   rw[List.getD_eq_getElem?_getD,List.getElem?_append_left (by simp;exact hi)];simp[hi]
  exact⟨⟨(aT (by simp) [x.2] ⟨a,trivial⟩).1,by rw[jc hσ _ a,c]⟩,zx r d⟩
theorem iw{k n:Nat}{l l1:List (Nat × AV)}{h:List AO}(hk:k≤h.length)(hp:0<h.length)(ho:∀o∈h,okO h.length o)(H:FgA h.length l l1):Wk k (aj n l) h (aj n l1) (h++[.dead]):=by
 have hσ:∀i,i<h.length→(List.range' 0 h.length++[0]).getD i 0=i:=fun i hi=>by
  rw[List.getD_eq_getElem?_getD,List.getElem?_append_left (by simp;exact hi)];simp[hi]
 refine Cx (List.range' 0 h.length++[0]) (by simp;omega) (fun i hi=>hσ i (by omega)) ?_ ?_ (zx _ H)
 ·exact(xu h 0).1
 ·exact yN hp ho h 0 (fun i=>by simp) (by simp)
def bR(fns:List Fd):List (List AV):=fns.map fun f=>f.cs.map .p
theorem gL(fns:List Fd):∀x∈bR fns,af 0 x:=by
 intro x hx;obtain⟨m,_,rfl⟩:=List.mem_map.1 hx;simp
theorem bK{n:Nat}{o:AO}(h:okO 0 o):okO n o:=by
 cases o with
 |dead=>trivial
 |sit=>trivial
 |row sz es=>exact fun e he=>aT (Nat.zero_le _) _ (h e he)
 |mp es=>exact fun e he=>(aT (Nat.zero_le n) [e.2] ⟨h e he,trivial⟩).1
def exR(l:List Ex):List (List AV):=l.map fun e=>e.cs.map .p
theorem jG(l:List Ex):∀x∈exR l,af 0 x:=by
 intro x hx;obtain⟨m,_,rfl⟩:=List.mem_map.1 hx;simp
def smR(l:List Sm):List (List AV):=l.map fun s=>s.cs.map .p
theorem aO(l:List Sm):∀x∈smR l,af 0 x:=by
 intro x hx;obtain⟨m,_,rfl⟩:=List.mem_map.1 hx;simp
theorem iX(l:List Sm):(smR l).length=l.length:=by simp[smR]
theorem qN(a b:List Sm):smR (a++b)=smR a++smR b:=by simp[smR]
theorem kP{h:List AO}{id:Nat}{l:List Sm}(e:h[id]?=some (.row 5 (smR l))):View h (.sl id 5 0 l.length) (smL l):=by
 have:=gk (h:=h) (id:=id) (sz:=5) (n:=l.length) (ls:=l.map Sm.cs) (by rw[e,smR];simp) (by simp) (fun x hx=>by obtain⟨b,_,rfl⟩:=List.mem_map.1 hx;exact b.cs_len)
 exact this
theorem dR{n:Nat}:∀o∈([]:List AO),okO n o:=fun o h=>by cases h
theorem ag{n:Nat}{a:AO}{l:List AO}(h:okO n a)(r:∀o∈l,okO n o):∀o∈a::l,okO n o:=fun o ho=>by
 rcases List.mem_cons.1 ho with rfl|ho
 ·exact h
 ·exact r o ho
end Go.Proofs.YtaopbokndkdieaaGreatDoor
namespace Go.Proofs.YtaopbokndkdieaaGreatDoor
open Go Go.Aw
set_option maxRecDepth 100000
set_option maxHeartbeats 4000000
variable (G:aI)
theorem ni(n lo hi:Int):VF Tryz.prog G dr [.p (.int .i64 n),.p (.int .i64 lo),.p (.int .i64 hi)] (.p (.bool (inR n lo hi))):=by
 refine AC.go wD ?_
 by_cases h:lo≤n
 ·simp-implicitDefEqProofs[ky,h,inR]
 ·simp-implicitDefEqProofs[ky,h,inR]
theorem Gh(n:Int):VF Tryz.prog G ic [.p (.int .i64 n)] (.p (.bool (inR n 0 255))):=by
 refine AC.go wE ?_
 simp-implicitDefEqProofs[pt]
 refine(ni G _ _ _).use ?_
 simp-implicitDefEqProofs[]
theorem Br(n:Int):VF Tryz.prog G dj [.p (.int .i32 n)] (.p (.bool (decide (n<97)||decide (122<n)))):=by
 refine AC.go tn ?_
 simp-implicitDefEqProofs[ml]
 by_cases h:n<97
 ·simp-implicitDefEqProofs[h]
 ·simp-implicitDefEqProofs[h]
theorem Jb{s:List UInt8}{i:Nat}(h:i<s.length)(hl:dP s[i]=true):Utf8.decode ⟨⟨s⟩⟩ i=(s[i].toNat,1):=by
 simp only[dP,Bool.and_eq_true,decide_eq_true_eq] at hl
 exact decode_ascii ⟨⟨s⟩⟩ i h (by show(s[i]).toNat<128;omega)
theorem Dz{s:List UInt8}{i:Nat}(h:i<s.length)(hl:¬dP s[i]=true):(((Utf8.decode ⟨⟨s⟩⟩ i).1:Int)<97∨122<((Utf8.decode ⟨⟨s⟩⟩ i).1:Int)):=by
 rcases Nat.lt_or_ge s[i].toNat 128 with h1|h1
 ·rw[show Utf8.decode ⟨⟨s⟩⟩ i=(s[i].toNat,1) from decode_ascii ⟨⟨s⟩⟩ i h h1]
  simp[dP] at hl
  simp only
  omega
 ·have:=(decode_high ⟨⟨s⟩⟩ i h h1).1
  omega
theorem zJ(s:List UInt8)(hb:s.length≤140737488355328):VF Tryz.prog G eU [.p (.str s),.fn (.func dj) [],.p (.bool true)] (.p (.int .i64 (xL s))):=by
 refine AC.go oU ?_
 simp-implicitDefEqProofs[iT]
 refine aF (fun i:Nat=>aj 21 [(0,.p (.str s)),(1,.fn (.func dj) []),(2,.p (.bool true)),(10,.it 0)]) (fun i=>[.sit s i]) (fun i=>i≤s.length∧∀x∈s.take i,dP x=true) (fun i=>s.length-i) 0 (by simp) ?_ ?_
 ·exact aa (by simp) (by simp[okO]) (by simp[below,af])
 ·intro i ⟨hi,hn⟩
  simp-implicitDefEqProofs[]
  by_cases h1:i<s.length
  ·have hg:=List.getElem?_eq_getElem h1
   simp-implicitDefEqProofs[h1]
   refine(Br G _).use ?_
   by_cases hl:dP s[i]=true
   ·have hd:=Jb h1 hl
    have hl':=hl
    simp only[dP,Bool.and_eq_true,decide_eq_true_eq] at hl'
    have e1:¬((s[i].toNat:Int)<97):=by omega
    have e2:¬(122<(s[i].toNat:Int)):=by omega
    rw[hd]
    simp-implicitDefEqProofs[e1,e2]
    refine⟨i+1,⟨h1,fun p hp=>?_⟩,by omega,aa (by simp) (by simp[okO]) (by simp[below,af])⟩
    rw[ah h1] at hp
    rcases List.mem_append.1 hp with hp|hp
    ·exact hn p hp
    ·rw[List.mem_singleton.1 hp];exact hl
   ·have hd:=Dz h1 hl
    have hf:xL s=i:=by
     have:s.findIdx? (fun x=> !dP x)=some i:=by
      rw[List.findIdx?_eq_some_iff_getElem]
      exact⟨h1,by simpa using hl,fun j hj=>by have:=hn s[j] (List.mem_take_iff_getElem.2 ⟨j,by omega,rfl⟩);simpa using this⟩
     rw[xL,this]
    have hdb:(decide (((Utf8.decode ⟨⟨s⟩⟩ i).1:Int)<97)||decide (122<((Utf8.decode ⟨⟨s⟩⟩ i).1:Int)))=true:=by
     rcases hd with h|h<;>simp[h]
    rw[hdb]
    simp-implicitDefEqProofs[hf]
  ·have hn':=hn
   rw[List.take_of_length_le (by omega)] at hn'
   have hf:xL s= -1:=by
    have:s.findIdx? (fun x=> !dP x)=none:=by
     rw[List.findIdx?_eq_none_iff];intro x hx;simpa using hn' x hx
    rw[xL,this]
   simp-implicitDefEqProofs[h1,hf]
theorem zu(s:List UInt8)(hb:s.length≤140737488355328):VF Tryz.prog G eZ [.p (.str s),.fn (.func dj) []] (.p (.int .i64 (xL s))):=by
 refine AC.go oI ?_
 simp-implicitDefEqProofs[iN]
 refine(zJ G s hb).use ?_
 simp-implicitDefEqProofs[]
theorem IW(L:List (List UInt8))(s:List UInt8)(hb:L.length≤1048576):VF Tryz.prog G ee [.p (aN L),.p (.str s)] (.p (.int .i64 (idxS L s))):=by
 refine AC.go mD ?_
 have hsl:aN L= .lst 1 (L.map fun w=>[.str w]):=rfl
 simp-implicitDefEqProofs[gG,hsl]
 refine aF (fun i:Nat=>aj 19 [(0,.p (aN L)),(1,.p (.str s)),(6,.p (aN L)),(7,.p (.int .i64 L.length)),(8,.p (.int .i64 i))]) (fun _=>[]) (fun i=>i≤L.length∧∀w∈L.take i,w≠s) (fun i=>L.length-i) 0 (by simp) ?_ ?_
 ·exact aJ rfl (by simp[below,aN])
 ·intro i ⟨hi,hn⟩
  simp-implicitDefEqProofs[hsl]
  refine bh (fun h1=>?_) (fun h1=>?_)
  ·simp at h1
   have hg:=List.getElem?_eq_getElem h1
   by_cases he:L[i]=s
   ·have hf:idxS L s=i:=by
     have:L.findIdx? (fun w=>w==s)=some i:=by
      rw[List.findIdx?_eq_some_iff_getElem]
      exact⟨h1,by simpa using he,fun j hj=>by have:=hn L[j] (List.mem_take_iff_getElem.2 ⟨j,by omega,rfl⟩);simpa using this⟩
     rw[idxS,this]
    have he':s=L[i]:=he.symm
    simp-implicitDefEqProofs[hg,hf,←he']
   ·have he':¬s=L[i]:=fun e=>he e.symm
    simp-implicitDefEqProofs[hg,he']
    refine⟨i+1,⟨h1,fun p hp=>?_⟩,by omega,aJ rfl ?_⟩
    ·rw[ah h1] at hp
     rcases List.mem_append.1 hp with hp|hp
     ·exact hn p hp
     ·rw[List.mem_singleton.1 hp];exact he
    ·simp[below,aN,w1 (i:=i) (by omega)]
  ·simp at h1
   rw[List.take_of_length_le h1] at hn
   have hf:idxS L s= -1:=by
    have:L.findIdx? (fun w=>w==s)=none:=by
     rw[List.findIdx?_eq_none_iff];intro x hx;simpa using hn x hx
    rw[idxS,this]
   simp-implicitDefEqProofs[hf]
theorem Bg(L:List (List UInt8))(s:List UInt8)(hb:L.length≤1048576):VF Tryz.prog G dw [.p (aN L),.p (.str s)] (.p (.bool (L.contains s))):=by
 rw[←Fj]
 refine AC.go kK ?_
 simp-implicitDefEqProofs[fh]
 refine(IW G L s hb).use ?_
 simp-implicitDefEqProofs[]
abbrev dH:Nat:=0
def dy:List PV:=keyW.map .str
variable (hK:G dH=some dy)
include hK
theorem mM(s:List UInt8)(hb:s.length≤140737488355328):VF Tryz.prog G bE [.p (.str s)] (.p (.bool (aH s))):=by
 refine AC.go wH ?_
 unfold dH at hK
 simp-implicitDefEqProofs[pj]
 refine(ni G _ _ _).use ?_
 have hr:inR (s.length:Int) 1 4=(decide (0<s.length)&&decide (s.length≤4)):=by
  unfold inR
  by_cases h1:0<s.length<;>by_cases h2:s.length≤4<;>simp[h1,h2]<;>omega
 rw[hr]
 have hi:aH s=((decide (0<s.length)&&decide (s.length≤4))&&(s.all dP&& !keyW.contains s)):=by
  rw[aH];cases s.all dP<;>cases decide (0<s.length)<;>cases decide (s.length≤4)<;>rfl
 cases h1:(decide (0<s.length)&&decide (s.length≤4)) with
 |false=>
  rw[hi,h1]
  simp-implicitDefEqProofs[]
 |true=>
  rw[hi,h1]
  simp-implicitDefEqProofs[]
  refine(zu G s hb).use ?_
  rw[←FG]
  by_cases hn:xL s<0
  ·simp-implicitDefEqProofs[hn,hK,dy,keyW]
   refine(Bg G keyW s (by decide)).use ?_
   simp-implicitDefEqProofs[keyW]
  ·simp-implicitDefEqProofs[hn]
end Go.Proofs.YtaopbokndkdieaaGreatDoor
namespace Go.Proofs.YtaopbokndkdieaaGreatDoor
open Go Go.Aw
set_option maxRecDepth 100000
set_option maxHeartbeats 4000000
def K_impl_exprSize:AK:= .seq (.reg [oJ 2 (.box 4 (.t 0)),oK 4 0,oK 5 0,oJ 6 (.mov (.c (.p (.bool false))))]) (.seq (.reg [oK 7 0,oK 8 0]) (.cut (.blk 0 (.seq (.reg [oF 17 0 2,oL 18 17,oJ 19 (.bin .eql (.t 18) (.c (.p (.int .i64 1)))),oM 16 19]) (.cond (.t 16) (.seq (.reg [oF 20 1 2,oL 21 20,oJ 22 (.call ic [(.t 21)]),oJ 23 (.not (.t 22)),oM 24 23,⟨(some 25),some (24,false),.fldA 2 (.t 2)⟩,⟨(some 26),some (24,false),.ld none (.t 25)⟩,⟨(some 27),some (24,false),.bins .neq (.t 26) (.c (.p (.str [])))⟩,oJ 28 (.pick (.t 24) (.c (.p (.bool true))) (.t 27))]) (.cond (.t 28) (.seq (.reg [oK 4 0,oK 5 0,oJ 6 (.mov (.c (.p (.bool false))))]) (.ret)) (.skip))) (.seq (.reg [oF 30 0 2,oL 31 30,oJ 32 (.bin .eql (.t 31) (.c (.p (.int .i64 2)))),oM 29 32]) (.cond (.t 29) (.seq (.reg [oF 33 2 2,oL 34 33,oJ 35 (.call bE [(.t 34)]),oJ 36 (.not (.t 35)),oM 37 36,⟨(some 38),some (37,false),.fldA 1 (.t 2)⟩,⟨(some 39),some (37,false),.ld none (.t 38)⟩,⟨(some 40),some (37,false),.bin .neq (.t 39) (.c (.p (.int .i64 0)))⟩,oJ 41 (.pick (.t 37) (.c (.p (.bool true))) (.t 40))]) (.cond (.t 41) (.seq (.reg [oK 4 0,oK 5 0,oJ 6 (.mov (.c (.p (.bool false))))]) (.ret)) (.skip))) (.seq (.reg [oF 43 0 2,oL 44 43,oJ 45 (.bin .eql (.t 44) (.c (.p (.int .i64 13)))),oM 42 45]) (.cond (.t 42) (.seq (.reg [oK 8 3]) (.seq (.reg [oF 46 2 2,oL 47 46,oJ 48 (.call bE [(.t 47)]),oJ 49 (.not (.t 48)),oM 50 49,⟨(some 51),some (50,false),.fldA 1 (.t 2)⟩,⟨(some 52),some (50,false),.ld none (.t 51)⟩,⟨(some 53),some (50,false),.bin .neq (.t 52) (.c (.p (.int .i64 0)))⟩,oJ 54 (.pick (.t 50) (.c (.p (.bool true))) (.t 53))]) (.cond (.t 54) (.seq (.reg [oK 4 0,oK 5 0,oJ 6 (.mov (.c (.p (.bool false))))]) (.ret)) (.skip)))) (.seq (.reg [oJ 56 (.ld none (.c (.gp 1 0))),oF 57 0 2,oL 58 57,oJ 59 (.lk 0 (.agg [(.p (.str [])),(.p (.int .i64 0))]) false (.t 56) (.t 58)),oJ 60 (.fldv 1 none (.t 59)),oJ 61 (.bin .gtr (.t 60) (.c (.p (.int .i64 0)))),oM 55 61]) (.cond (.t 55) (.reg [oK 7 2,oK 8 2]) (.seq (.reg [oF 63 0 2,oL 64 63,oJ 65 (.bin .eql (.t 64) (.c (.p (.int .i64 11)))),oM 66 65,⟨(some 67),some (66,false),.fldA 0 (.t 2)⟩,⟨(some 68),some (66,false),.ld none (.t 67)⟩,⟨(some 69),some (66,false),.bin .eql (.t 68) (.c (.p (.int .i64 12)))⟩,oJ 70 (.pick (.t 66) (.c (.p (.bool true))) (.t 69)),oM 62 70]) (.cond (.t 62) (.reg [oK 7 1,oK 8 1]) (.seq (.reg [oK 4 0,oK 5 0,oJ 6 (.mov (.c (.p (.bool false))))]) (.ret))))))))))))) (.cut (.seq (.reg [oF 71 0 2,oL 72 71,oJ 73 (.call gr [(.t 72)]),oJ 74 (.bin .lss (.t 73) (.c (.p (.int .i64 6)))),oM 75 74,⟨(some 76),some (75,true),.fldA 1 (.t 2)⟩,⟨(some 77),some (75,true),.ld none (.t 76)⟩,⟨(some 78),some (75,true),.bin .neq (.t 77) (.c (.p (.int .i64 0)))⟩,⟨(some 79),some (75,true),.mov (.t 78)⟩,⟨(some 80),some (79,false),.fldA 2 (.t 2)⟩,⟨(some 81),some (79,false),.ld none (.t 80)⟩,⟨(some 82),some (79,false),.bins .neq (.t 81) (.c (.p (.str [])))⟩,⟨(some 83),some (75,true),.pick (.t 79) (.c (.p (.bool true))) (.t 82)⟩,oJ 84 (.pick (.t 75) (.t 83) (.c (.p (.bool false)))),oM 85 84,⟨(some 86),some (85,false),.fldA 3 (.t 2)⟩,⟨(some 87),some (85,false),.ld none (.t 86)⟩,⟨(some 88),some (85,false),.len false (.t 87)⟩,⟨(some 89),some (85,false),.mov (.t 7)⟩,⟨(some 90),some (85,false),.mov (.t 8)⟩,⟨(some 91),some (85,false),.call dr [(.t 88),(.t 89),(.t 90)]⟩,⟨(some 92),some (85,false),.not (.t 91)⟩,oJ 93 (.pick (.t 85) (.c (.p (.bool true))) (.t 92)),oM 94 93,⟨(some 95),some (94,false),.mov (.t 1)⟩,⟨(some 96),some (94,false),.bin .lss (.t 95) (.c (.p (.int .i64 1)))⟩,oJ 97 (.pick (.t 94) (.c (.p (.bool true))) (.t 96))]) (.cond (.t 97) (.seq (.reg [oK 4 0,oK 5 0,oJ 6 (.mov (.c (.p (.bool false))))]) (.ret)) (.skip))) (.seq (.reg [oK 9 1,oK 10 1]) (.seq (.seq (.reg [oF 98 3 2,oL 99 98,oJ 100 (.len false (.t 99)),oK 101 0]) (.blk 1 (.loop (.seq (.reg [oJ 102 (.bin .lss (.t 101) (.t 100))]) (.seq (.cond (.t 102) (.skip) (.exit 1)) (.seq (.blk 2 (.seq (.reg [oJ 103 (.idxS 4 (.t 99) (.t 101)),oJ 104 (.ld (some 4) (.t 103)),oJ 12 (.alloc [(.p (.int .i64 0)),(.p (.int .i64 0)),(.p (.str [])),.nils]),⟨none,none,.st 4 (.t 12) (.t 104)⟩]) (.seq (.reg [oJ 106 (.ld (some 4) (.t 12)),oM 107 1,oJ 108 (.bin .sub (.t 107) (.c (.p (.int .i64 1)))),oJ 109 (.call dT [(.t 106),(.t 108)]),oM 105 109,oJ 110 (.ext 0 (.t 105)),oJ 111 (.ext 1 (.t 105)),oJ 112 (.ext 2 (.t 105)),oM 13 110,oM 14 111,oM 15 112]) (.seq (.seq (.reg [oM 113 15,oJ 114 (.not (.t 113))]) (.cond (.t 114) (.seq (.reg [oK 4 0,oK 5 0,oJ 6 (.mov (.c (.p (.bool false))))]) (.ret)) (.skip))) (.seq (.reg [oM 115 9,oM 116 13,oJ 117 (.bin .add (.t 115) (.t 116)),oM 9 117]) (.reg [oM 118 10,oM 119 14,oJ 120 (.bin .add (.t 119) (.c (.p (.int .i64 1)))),oJ 121 (.mx (.t 118) (.t 120)),oM 10 121])))))) (.reg [oJ 122 (.bin .add (.t 101) (.c (.p (.int .i64 1)))),oM 101 122]))))))) (.seq (.reg [oM 123 9,oM 124 10,oM 125 9,oJ 126 (.bin .leq (.t 125) (.c (.p (.int .i64 30)))),oM 4 123,oM 5 124,oM 6 126]) (.ret)))))))
theorem ti:K_impl_exprSize.whole=F_impl_exprSize.ak:=rfl
abbrev bM:Nat:=1
def opK:List PV:=[.int .i64 3,.int .i64 4,.int .i64 5,.int .i64 6,.int .i64 7,.int .i64 8,.int .i64 9,.int .i64 10]
def opV:List (List PV):=[[.str [43],.int .i64 3],[.str [45],.int .i64 3],[.str [42],.int .i64 4],[.str [47],.int .i64 4],[.str [37],.int .i64 4],[.str [60],.int .i64 2],[.str [61],.int .i64 2],[.str [38],.int .i64 1]]
def lvl(op:Int):Int:=if op=10 then 1 else if op=8 then 2 else if op=9 then 2 else if op=3 then 3 else if op=4 then 3 else 4
def sgB(op:Int):UInt8:=if op=3 then 43 else if op=4 then 45 else if op=5 then 42 else if op=6 then 47 else if op=7 then 37 else if op=8 then 60 else if op=9 then 61 else 38
def sgn(op:Int):Option AV:=if 3≤op∧op≤10 then some (.agg [.p (.str [sgB op]),.p (.int .i64 (lvl op))]) else none
theorem Co(op:Int):(opK.all fun k'=>(keq (.int .i64 op) k').isSome)=true:=by simp[opK,keq]
theorem CI(op:Int):fX (.int .i64 op) (Dd opK opV)=some (sgn op):=by
 by_cases h:3≤op∧op≤10
 ·have h8:op=3∨op=4∨op=5∨op=6∨op=7∨op=8∨op=9∨op=10:=by omega
  rcases h8 with rfl|rfl|rfl|rfl|rfl|rfl|rfl|rfl<;>rfl
 ·have e:sgn op=none:=if_neg h
  have h3:¬op=3:=by omega
  have h4:¬op=4:=by omega
  have h5:¬op=5:=by omega
  have h6:¬op=6:=by omega
  have h7:¬op=7:=by omega
  have h8:¬op=8:=by omega
  have h9:¬op=9:=by omega
  have h10:¬op=10:=by omega
  rw[e]
  simp[opK,opV,Dd,fX,keq,h3,h4,h5,h6,h7,h8,h9,h10]
theorem CU(op:Int):0<lvl op:=by
 unfold lvl
 repeat' split
 all_goals omega
theorem Kl(op:Int):lvl op<6:=by
 unfold lvl
 repeat' split
 all_goals omega
def lvI(op:Int):Int:=if 3≤op∧op≤10 then lvl op else if op=11∨op=12 then 5 else 6
mutual
def Ex.deep:Ex→Nat
 | .mk _ _ _ k=>1+lE k
def lE:List Ex→Nat
 |[]=>0
 |e::r=>max e.deep (lE r)
end
theorem Ex.deep_eq(e:Ex):e.deep=1+lE e.kids:=by cases e;rfl
theorem yO:∀a b:List Ex,lE (a++b)=max (lE a) (lE b)
 |[],b=>by simp[lE]
 |e::r,b=>by rw[List.cons_append,lE,lE,yO r b];omega
mutual
theorem Ex.deep_le:∀e:Ex,e.deep≤e.sz
 | .mk _ _ s k=>by have:=xN k;simp only[Ex.deep,Ex.sz];omega
theorem xN:∀l:List Ex,lE l≤cS l
 |[]=>Nat.le_refl _
 |e::r=>by have:=e.deep_le;have:=xN r;simp only[lE,cS];omega
end
theorem mQ{α:Type}{p:α→Bool}{xs:List α}{i:Nat}{c:α}(h:xs[i]?=some c):(xs.take (i+1)).all p=((xs.take i).all p&&p c):=by
 rw[List.take_add_one,h,List.all_append];simp
def okE(m:Nat)(e:Ex):Bool:=aW m e&&decide (e.parts≤30)
def tr:Nat→Ex→Bool
 |0,_=>false
 |m+1,e=>iv e&&e.kids.all (okE m)
theorem fj:∀{l:List Ex} {e:Ex},e∈l→e.parts≤de l
 |x::r,e,h=>by
  simp only[de]
  rcases List.mem_cons.1 h with rfl|h
  ·omega
  ·have:=fj h;omega
theorem Cl(m:Nat)(e:Ex):(tr m e&&decide (e.parts≤30))=okE m e:=by
 cases m with
 |zero=>simp[tr,okE,aW]
 |succ m=>
  by_cases hp:e.parts≤30
  ·have h2:e.kids.all (okE m)=e.kids.all (aW m):=by
    rw[Bool.eq_iff_iff,List.all_eq_true,List.all_eq_true]
    refine⟨fun h x hx=>?_,fun h x hx=>?_⟩
    ·have:=h x hx;simp only[okE,Bool.and_eq_true] at this;exact this.1
    ·have h1:=h x hx
     have:=fj hx
     have:=e.parts_eq
     simp only[okE,h1,Bool.true_and]
     simp;omega
   simp[tr,okE,aW,h2]
  ·simp[okE,hp]
theorem Ia(e:Ex):okE 6 e=fI e:=rfl
def szA(m:Nat)(e:Ex):AV:=if tr m e then .tup [.p (.int .i64 e.parts),.p (.int .i64 e.deep),.p (.bool (decide (e.parts≤30)))] else .tup [.p (.int .i64 0),.p (.int .i64 0),.p (.bool false)]
def cI(e:Ex):Bool:=inR e.op 1 13&&(if e.op=1 then inR e.n 0 255&&decide (e.name=[]) else if e.op=2∨e.op=13 then aH e.name&&decide (e.n=0) else true)
def gz(e:Ex):Bool:=(decide (e.op=1∨e.op=2∨e.op=13)||(decide (e.n=0)&&decide (e.name=[])))&&inR e.kids.length (loK e.op) (hiK e.op)
theorem qc:aH []=false:=rfl
theorem zB(e:Ex):iv e=(cI e&&gz e):=by
 unfold iv cI gz zo
 by_cases h1:e.op=1
 ·simp only[h1]
  cases inR (e.kids.length:Int) (loK 1:Nat) (hiK 1:Nat)<;>by_cases hn:e.name=[]<;>cases h2:inR e.n 0 255<;>simp[hn,qc,inR]
 by_cases h2:e.op=2
 ·simp only[h2]
  cases inR (e.kids.length:Int) (loK 2:Nat) (hiK 2:Nat)<;>cases hi:aH e.name<;>by_cases hn:e.n=0<;>simp[hn,inR]
 by_cases h3:e.op=13
 ·simp only[h3]
  cases inR (e.kids.length:Int) (loK 13:Nat) (hiK 13:Nat)<;>cases hi:aH e.name<;>by_cases hn:e.n=0<;>simp[hn,inR]
 ·cases inR e.op 1 13<;>cases inR (e.kids.length:Int) (loK e.op:Nat) (hiK e.op:Nat)<;>by_cases hn:e.n=0<;>by_cases hm:e.name=[]<;>simp[h1,h2,h3,hn,hm,qc,inR]
variable (G:aI) (hK:G dH=some dy) (hS:G bM=some [.tbl opK opV])
include hS
theorem Et(op:Int):VF Tryz.prog G gr [.p (.int .i64 op)] (.p (.int .i64 (lvI op))):=by
 refine AC.go vT ?_
 have hall:=Co op
 have hget:=CI op
 have hS':=hS
 unfold bM at hS'
 have hlp:=CU op
 by_cases h:3≤op∧op≤10
 ·have e:sgn op=some (.agg [.p (.str [sgB op]),.p (.int .i64 (lvl op))]):=if_pos h
  have e2:lvI op=lvl op:=if_pos h
  rw[e2]
  generalize lvl op=L at*
  simp-implicitDefEqProofs[eD,hS',hall,hget,e,hlp]
 ·have e:sgn op=none:=if_neg h
  by_cases h11:op=11
  ·subst h11;simp-implicitDefEqProofs[eD,hS',hall,hget,e,lvI]
  by_cases h12:op=12
  ·subst h12;simp-implicitDefEqProofs[eD,hS',hall,hget,e,lvI]
  have e2:lvI op=6:=by rw[lvI,if_neg h,if_neg (by simp[h11,h12])]
  simp-implicitDefEqProofs[eD,hS',hall,hget,e,e2,h11,h12]
include hK
theorem Bz:∀(m:Nat) (e:Ex),e.sz≤1073741824→m≤100→VF Tryz.prog G dT [.agg (e.cs.map .p),.p (.int .i64 m)] (szA m e):=by
 intro m
 induction m using Nat.strongRecOn with
 |_ m ih=>
 intro e he hm
 have hec:=e.cs_eq
 have hsz:=e.sz_eq
 have hkl:=aM e.kids
 have hS':=hS
 unfold bM at hS'
 have hall:=Co e.op
 have hget:=CI e.op
 have hxl:exL e.kids= .lst 4 (e.kids.map Ex.cs):=rfl
 have hbad:(cI e&&gz e&&decide (1≤m))=false→szA m e= .tup [.p (.int .i64 0),.p (.int .i64 0),.p (.bool false)]:=by
  intro h
  have:tr m e=false:=by
   cases m with
   |zero=>rfl
   |succ m=>rw[tr,zB];simp at h;cases h1:cI e<;>cases h2:gz e<;>simp[h1,h2] at h⊢
  rw[szA,this];rfl
 have hb1:cI e=false→szA m e= .tup [.p (.int .i64 0),.p (.int .i64 0),.p (.bool false)]:=fun h=>hbad (by rw[h];rfl)
 refine AC.goK tp ti ?_
 simp-implicitDefEqProofs[K_impl_exprSize,F_impl_exprSize,hec]
 refine pQ (fun _:Unit=>aj 127 [(1,.p (.int .i64 m)),(2,.ptr 0 4 0 0),(7,.p (.int .i64 (loK e.op))),(8,.p (.int .i64 (hiK e.op)))]) (fun _=>[.row 4 [[.p (.int .i64 e.op),.p (.int .i64 e.n),.p (.str e.name),.p (exL e.kids)]]]) (fun _=>cI e=true) ?_ ?_
 ·have fin:∀(r1:List (Nat × AV)),Aw.look r1 1= .p (.int .i64 m)→Aw.look r1 2= .ptr 0 4 0 0→Aw.look r1 7= .p (.int .i64 (loK e.op))→Aw.look r1 8= .p (.int .i64 (hiK e.op))→
   Wk 0 (aj 127 r1) [.row 4 [[.p (.int .i64 e.op),.p (.int .i64 e.n),.p (.str e.name),.p (exL e.kids)]]] (aj 127 [(1,.p (.int .i64 m)),(2,.ptr 0 4 0 0),(7,.p (.int .i64 (loK e.op))),(8,.p (.int .i64 (hiK e.op)))]) [.row 4 [[.p (.int .i64 e.op),.p (.int .i64 e.n),.p (.str e.name),.p (exL e.kids)]]]:=fun r1 a b c d=>
   aa (by simp) (by simp[okO,below]) (by simp[below,a,b,c,d])
  have hop1:inR (1:Int) 1 13=true:=rfl
  have hop2:inR (2:Int) 1 13=true:=rfl
  have hop13:inR (13:Int) 1 13=true:=rfl
  by_cases o1:e.op=1
  ·rw[o1] at fin⊢
   simp-implicitDefEqProofs[o1]
   refine(Gh G _).use ?_
   by_cases h1:inR e.n 0 255=true
   ·by_cases h2:e.name=[]
    ·have hp:cI e=true:=by simp[cI,o1,h1,h2,hop1]
     rw[h2] at fin
     simp-implicitDefEqProofs[h1,h2,hp]
     exact fin _ (by simp) (by simp) (by simp[loK]) (by simp[hiK])
    ·have hp:cI e=false:=by simp[cI,o1,h1,h2,hop1]
     rw[hb1 hp]
     simp-implicitDefEqProofs[h1,h2]
   ·have hp:cI e=false:=by simp[cI,o1,h1,hop1]
    rw[hb1 hp]
    simp-implicitDefEqProofs[h1]
  by_cases o2:e.op=2
  ·rw[o2] at fin⊢
   simp-implicitDefEqProofs[o2]
   refine(mM G hK _ (by omega)).use ?_
   by_cases h1:aH e.name=true
   ·by_cases h2:e.n=0
    ·have hp:cI e=true:=by simp[cI,o2,h1,h2,hop2]
     rw[h2] at fin
     simp-implicitDefEqProofs[h1,h2,hp]
     exact fin _ (by simp) (by simp) (by simp[loK]) (by simp[hiK])
    ·have hp:cI e=false:=by simp[cI,o2,h1,h2,hop2]
     rw[hb1 hp]
     simp-implicitDefEqProofs[h1,h2]
   ·have hp:cI e=false:=by simp[cI,o2,h1,hop2]
    rw[hb1 hp]
    simp-implicitDefEqProofs[h1]
  by_cases o13:e.op=13
  ·rw[o13] at fin⊢
   simp-implicitDefEqProofs[o13]
   refine(mM G hK _ (by omega)).use ?_
   by_cases h1:aH e.name=true
   ·by_cases h2:e.n=0
    ·have hp:cI e=true:=by simp[cI,o13,h1,h2,hop13]
     rw[h2] at fin
     simp-implicitDefEqProofs[h1,h2,hp]
     exact fin _ (by simp) (by simp) (by simp[loK]) (by simp[hiK])
    ·have hp:cI e=false:=by simp[cI,o13,h1,h2,hop13]
     rw[hb1 hp]
     simp-implicitDefEqProofs[h1,h2]
   ·have hp:cI e=false:=by simp[cI,o13,h1,hop13]
    rw[hb1 hp]
    simp-implicitDefEqProofs[h1]
  have hlp:=CU e.op
  by_cases h:3≤e.op∧e.op≤10
  ·have es:sgn e.op=some (.agg [.p (.str [sgB e.op]),.p (.int .i64 (lvl e.op))]):=if_pos h
   have hp:cI e=true:=by simp[cI,o1,o2,o13,inR];omega
   have o11:¬e.op=11:=by omega
   have o12:¬e.op=12:=by omega
   have elo:loK e.op=2:=by simp[loK,o1,o2,o11,o12,o13]
   have ehi:hiK e.op=2:=by simp[hiK,o1,o2,o11,o12,o13]
   generalize lvl e.op=L at*
   simp-implicitDefEqProofs[o1,o2,o13,hS',hall,hget,es,hlp,hp]
   exact fin _ (by simp) (by simp) (by simp[elo]) (by simp[ehi])
  have es:sgn e.op=none:=if_neg h
  by_cases o11:e.op=11
  ·have hp:cI e=true:=by simp[cI,o11,inR]
   have elo:loK e.op=1:=by simp[loK,o11]
   have ehi:hiK e.op=1:=by simp[hiK,o11]
   rw[o11] at hall hget es fin
   simp-implicitDefEqProofs[o11,hS',hall,hget,es,hp]
   exact fin _ (by simp) (by simp) (by simp[loK]) (by simp[hiK])
  by_cases o12:e.op=12
  ·have hp:cI e=true:=by simp[cI,o12,inR]
   rw[o12] at hall hget es fin
   simp-implicitDefEqProofs[o12,hS',hall,hget,es,hp]
   exact fin _ (by simp) (by simp) (by simp[loK]) (by simp[hiK])
  ·have hp:cI e=false:=by simp[cI,o1,o2,o13,inR];omega
   rw[hb1 hp]
   simp-implicitDefEqProofs[o1,o2,o13,hS',hall,hget,es,o11,o12]
 intro _ hp
 have hop:1≤e.op∧e.op≤13:=by
  simp only[cI,Bool.and_eq_true,inR,decide_eq_true_eq] at hp
  exact hp.1
 have hb2:gz e=false→szA m e= .tup [.p (.int .i64 0),.p (.int .i64 0),.p (.bool false)]:=fun h=>hbad (by rw[h];simp)
 have hb3:m<1→szA m e= .tup [.p (.int .i64 0),.p (.int .i64 0),.p (.bool false)]:=by
  intro h
  have hd:decide (1≤m)=false:=by simp;omega
  exact hbad (by rw[hd];simp)
 refine pQ (fun _:Unit=>aj 127 [(1,.p (.int .i64 m)),(2,.ptr 0 4 0 0)]) (fun _=>[.row 4 [[.p (.int .i64 e.op),.p (.int .i64 e.n),.p (.str e.name),.p (exL e.kids)]]]) (fun _=>gz e=true∧1≤m) ?_ ?_
 ·have fin:∀(r1:List (Nat × AV)),Aw.look r1 1= .p (.int .i64 m)→Aw.look r1 2= .ptr 0 4 0 0→
   Wk 0 (aj 127 r1) [.row 4 [[.p (.int .i64 e.op),.p (.int .i64 e.n),.p (.str e.name),.p (exL e.kids)]]] (aj 127 [(1,.p (.int .i64 m)),(2,.ptr 0 4 0 0)]) [.row 4 [[.p (.int .i64 e.op),.p (.int .i64 e.n),.p (.str e.name),.p (exL e.kids)]]]:=fun r1 a b=>
   aa (by simp) (by simp[okO,below]) (by simp[below,a,b])
  simp-implicitDefEqProofs[]
  refine(Et G hS e.op).use ?_
  by_cases ho:e.op=1∨e.op=2∨e.op=13
  ·have hlv:lvI e.op=6:=by
    rw[lvI,if_neg (by omega),if_neg (by omega)]
   have hd:decide (e.op=1∨e.op=2∨e.op=13)=true:=by simpa using ho
   simp-implicitDefEqProofs[hlv,hxl]
   refine(ni G _ _ _).use ?_
   by_cases hk:inR e.kids.length (loK e.op) (hiK e.op)=true
   ·have hr:gz e=true:=by rw[gz,hd,hk];rfl
    by_cases hm1:m<1
    ·have hm1':(m:Int)<1:=by omega
     rw[hb3 hm1]
     simp-implicitDefEqProofs[hk,hm1']
    ·have hm1':¬(m:Int)<1:=by omega
     have hm2:1≤m:=by omega
     simp-implicitDefEqProofs[hk,hm1',hr,hm2]
     exact fin _ (by simp) (by simp)
   ·have hk':inR e.kids.length (loK e.op) (hiK e.op)=false:=by simpa using hk
    have hr:gz e=false:=by rw[gz,hk',Bool.and_false]
    rw[hb2 hr]
    simp-implicitDefEqProofs[hk']
  ·have hlv:lvI e.op<6:=by
    have:=Kl e.op
    unfold lvI
    split
    ·exact this
    ·rw[if_pos (by omega)];omega
   have hd:decide (e.op=1∨e.op=2∨e.op=13)=false:=by simpa using ho
   generalize lvI e.op=L at hlv⊢
   by_cases h1:e.n=0
   ·by_cases h2:e.name=[]
    ·have hz:decide (e.n=0)=true∧decide (e.name=[])=true:=by simp[h1,h2]
     simp-implicitDefEqProofs[hlv,h1,h2,hxl]
     refine(ni G _ _ _).use ?_
     rw[h1,h2] at fin
     by_cases hk:inR e.kids.length (loK e.op) (hiK e.op)=true
     ·have hr:gz e=true:=by rw[gz,hd,hk,hz.1,hz.2];rfl
      by_cases hm1:m<1
      ·have hm1':(m:Int)<1:=by omega
       rw[hb3 hm1]
       simp-implicitDefEqProofs[hk,hm1']
      ·have hm1':¬(m:Int)<1:=by omega
       have hm2:1≤m:=by omega
       simp-implicitDefEqProofs[hk,hm1',hr,hm2]
       exact fin _ (by simp) (by simp)
     ·have hk':inR e.kids.length (loK e.op) (hiK e.op)=false:=by simpa using hk
      have hr:gz e=false:=by rw[gz,hk',Bool.and_false]
      rw[hb2 hr]
      simp-implicitDefEqProofs[hk']
    ·have hr:gz e=false:=by rw[gz,hd];simp[h2]
     rw[hb2 hr]
     simp-implicitDefEqProofs[hlv,h1,h2]
   ·have hr:gz e=false:=by rw[gz,hd];simp[h1]
    rw[hb2 hr]
    simp-implicitDefEqProofs[hlv,h1]
 rintro _ ⟨hr,hm1⟩
 have hhd:iv e=true:=by rw[zB,hp,hr];rfl
 obtain⟨m',rfl⟩:∃m',m=m'+1:=⟨m-1,by omega⟩
 have hszO:tr (m'+1) e=e.kids.all (okE m'):=by rw[tr,hhd];rfl
 have hpe:=e.parts_eq
 have hde:=e.deep_eq
 have hpl:=e.parts_le
 have hwm:IntKind.i64.wrap (((m'+1:Nat):Int)-1)=(m':Int):=by rw[al (by omega) (by omega)];omega
 simp-implicitDefEqProofs[hxl]
 refine aF (fun i:Nat=>aj 127 [(1,.p (.int .i64 ((m':Int)+1))),(2,.ptr 0 4 0 0),(9,.p (.int .i64 ((1+de (e.kids.take i):Nat):Int))),(10,.p (.int .i64 ((1+lE (e.kids.take i):Nat):Int))),(99,.p (exL e.kids)),(100,.p (.int .i64 e.kids.length)),(101,.p (.int .i64 i))])
  (fun _=>[.row 4 [[.p (.int .i64 e.op),.p (.int .i64 e.n),.p (.str e.name),.p (exL e.kids)]]]) (fun i=>i≤e.kids.length∧(e.kids.take i).all (okE m')=true) (fun i=>e.kids.length-i) 0 (by simp) ?_ ?_
 ·exact aa (by simp) (by simp[okO,below]) (by simp[below,hxl,de,lE])
 rintro i ⟨hi,ha⟩
 have hwm':IntKind.i64.wrap (m':Int)=(m':Int):=al (by omega) (by omega)
 simp-implicitDefEqProofs[hxl]
 refine bh (fun h=>?_) (fun h=>?_)
 ·simp at h
  have hg:=List.getElem?_eq_getElem h
  have hks:=az (List.getElem_mem h)
  have hkc:=e.kids[i].cs_eq
  have hpt:de (e.kids.take (i+1))=de (e.kids.take i)+e.kids[i].parts:=by rw[ah h,ir];simp[de]
  have hdt:lE (e.kids.take (i+1))=max (lE (e.kids.take i)) e.kids[i].deep:=by rw[ah h,yO];simp[lE]
  have hpl1:de (e.kids.take (i+1))≤e.parts:=by
   have:=ir (e.kids.take (i+1)) (e.kids.drop (i+1))
   rw[List.take_append_drop] at this
   omega
  have hok:=Cl m' e.kids[i]
  have hdl:e.kids[i].deep≤e.kids[i].sz:=Ex.deep_le _
  have hdl2:lE (e.kids.take i)≤e.sz:=by
   have h1:=xN (e.kids.take i)
   have h2:=sW (e.kids.take i) (e.kids.drop i)
   rw[List.take_append_drop] at h2
   omega
  generalize e.kids[i]=c at*
  simp-implicitDefEqProofs[hg,hkc,hwm']
  have hI:=ih m' (by omega) c (by omega) (by omega)
  rw[hkc] at hI
  by_cases ho:okE m' c=true
  ·have h1:tr m' c=true∧c.parts≤30:=by rw[ho] at hok;simpa using hok
   have hA:szA m' c= .tup [.p (.int .i64 c.parts),.p (.int .i64 c.deep),.p (.bool true)]:=by rw[szA,if_pos h1.1];simp[h1.2]
   rw[hA] at hI
   refine hI.use ?_
   have hw1:IntKind.i64.wrap (1+(de (e.kids.take i):Int)+(c.parts:Int))=((1+de (e.kids.take (i+1)):Nat):Int):=by rw[al (by omega) (by omega)];omega
   have hw2:IntKind.i64.wrap ((c.deep:Int)+1)=(c.deep:Int)+1:=al (by omega) (by omega)
   have hmx:(if 1+(lE (e.kids.take i):Int)<(c.deep:Int)+1 then(c.deep:Int)+1 else 1+(lE (e.kids.take i):Int))=1+(lE (e.kids.take (i+1)):Int):=by
    rw[hdt];split<;>omega
   simp-implicitDefEqProofs[hw1,hw2,hmx]
   refine⟨i+1,⟨h,by rw[←List.all_eq_true,mQ hg,ha,ho];rfl⟩,by omega,?_⟩
   refine ka (m:=1) (by omega) (fk rfl rfl (by simp[okO,below])) (by simp[below,hxl,w1 (i:=i) (by omega)])
  ·have hf:e.kids.all (okE m')=false:=List.all_eq_false.2 ⟨c,List.mem_of_getElem? hg,by simpa using ho⟩
   have hA2:szA (m'+1) e= .tup [.p (.int .i64 0),.p (.int .i64 0),.p (.bool false)]:=by rw[szA,hszO,hf];rfl
   rw[hA2]
   by_cases h1:tr m' c=true
   ·have h2:¬c.parts≤30:=fun h2=>ho (by rw[←hok,h1];simpa using h2)
    have hA:szA m' c= .tup [.p (.int .i64 c.parts),.p (.int .i64 c.deep),.p (.bool false)]:=by rw[szA,if_pos h1];simp[h2]
    rw[hA] at hI
    refine hI.use ?_
    simp-implicitDefEqProofs[]
   ·have hA:szA m' c= .tup [.p (.int .i64 0),.p (.int .i64 0),.p (.bool false)]:=by rw[szA,if_neg h1]
    rw[hA] at hI
    refine hI.use ?_
    simp-implicitDefEqProofs[]
 ·simp at h
  rw[List.take_of_length_le h] at ha⊢
  have hA:szA (m'+1) e= .tup [.p (.int .i64 e.parts),.p (.int .i64 e.deep),.p (.bool (decide (e.parts≤30)))]:=by rw[szA,hszO,ha];rfl
  rw[hA,hpe,hde]
  simp-implicitDefEqProofs[]
  omega
theorem sN(e:Ex)(he:e.sz≤1073741824):VF Tryz.prog G dM [.agg (e.cs.map .p)] (.p (.bool (fI e))):=by
 refine AC.go rC ?_
 have hec:=e.cs_eq
 have hx:=Bz G hK hS 6 e he (by omega)
 rw[hec] at hx
 simp-implicitDefEqProofs[kV,hec]
 rw[←Ia,←Cl]
 unfold szA at hx
 by_cases h:tr 6 e=true
 ·rw[if_pos h] at hx
  rw[h]
  refine hx.use ?_
  simp-implicitDefEqProofs[]
 ·have h':tr 6 e=false:=by simpa using h
  rw[if_neg h] at hx
  rw[h']
  refine hx.use ?_
  simp-implicitDefEqProofs[]
end Go.Proofs.YtaopbokndkdieaaGreatDoor
namespace Go.Proofs.YtaopbokndkdieaaGreatDoor
open Go Go.Aw
set_option maxRecDepth 100000
set_option maxHeartbeats 4000000
theorem cu:∀l:List Ex,aK l=l.map cm
 |[]=>rfl
 |e::r=>by rw[aK,cu r];rfl
mutual
def fU:Sm→Sm
 | .mk o s a bd el=> .mk o s (aK a) (ay bd) (ay el)
def ay:List Sm→List Sm
 |[]=>[]
 |s::r=>fU s::ay r
end
theorem fR:∀l:List Sm,ay l=l.map fU
 |[]=>rfl
 |e::r=>by rw[ay,fR r];rfl
def mj(f:Fd):Fd:=⟨f.name,f.params,ay f.body⟩
def co(l:List Fd):List Fd:=l.map mj
theorem Dg(l:List Fd):Like l (co l):=AA l mj (fun _=>rfl) (fun _=>rfl)
def P5(o n:Int)(s:List UInt8)(ks:List Ex)(x:Ex):Prop:=
 x= .mk o n s ks∨(∃q,x=lp q∧((∀a∈ks,a.op=1→V5 a.n)→V5 q))∨(∃a∈ks,x=a)∨∃a∈ks,∃c∈a.kids,x=c
theorem Hd{o a b q:Int}(ha:V5 a)(hb:V5 b)(h:ar5 o a b=some q):V5 q:=by
 unfold ar5 at h
 split at h
 ·cases h;exact qJ _
 ·exact DV ha hb h
theorem Jd(o n:Int)(s:List UInt8)(a:Ex):P5 o n s [a] (iS o n s a):=by
 unfold iS
 split
 ·exact .inr (.inl ⟨_,rfl,fun _=>qJ _⟩)
 ·split
  ·rename_i c hc
   split
   ·exact .inr (.inr (.inr ⟨a,by simp,c,by rw[hc];simp,rfl⟩))
   ·exact .inl rfl
  ·exact .inl rfl
theorem Iu(o n:Int)(s:List UInt8)(a b:Ex):P5 o n s [a,b] (ll o n s a b):=by
 unfold ll
 split
 ·rename_i q hq
  split at hq
  ·rename_i h
   exact .inr (.inl ⟨q,rfl,fun hv=>Hd (hv a (by simp) h.1) (hv b (by simp) h.2) hq⟩)
  ·cases hq
 ·split
  ·exact .inr (.inl ⟨0,rfl,fun _=>⟨by omega,by omega⟩⟩)
  ·split
   ·exact .inr (.inr (.inl ⟨a,by simp,rfl⟩))
   ·split
    ·exact .inr (.inr (.inl ⟨b,by simp,rfl⟩))
    ·split
     ·exact .inr (.inl ⟨0,rfl,fun _=>⟨by omega,by omega⟩⟩)
     ·exact .inl rfl
theorem nP(o n:Int)(s:List UInt8)(ks:List Ex):P5 o n s ks (dJ o n s ks):=by
 unfold dJ
 split
 ·exact .inl rfl
 ·split
  ·exact Jd o n s _
  ·exact Iu o n s _ _
  ·exact .inl rfl
theorem rc{e:Ex}(h:iv e=true):V5 e.n:=by
 simp only[iv,Bool.and_eq_true,inR,decide_eq_true_eq] at h
 exact⟨h.1.2.1,h.1.2.2⟩
theorem eM{d:Nat}{e a:Ex}(h:aW (d+1) e=true)(ha:a∈e.kids):aW d a=true:=by
 rw[aW,Bool.and_eq_true] at h
 exact List.all_eq_true.1 h.2 a ha
theorem gW{d:Nat}{e:Ex}(h:aW d e=true):iv e=true:=by
 cases d with
 |zero=>cases h
 |succ d=>rw[aW,Bool.and_eq_true] at h;exact h.1
theorem nI:∀{d:Nat} {e:Ex},aW d e=true→aW (d+1) e=true
 |0,e,h=>by cases h
 |d+1,e,h=>by
  have h0:=h
  rw[aW,Bool.and_eq_true] at h
  rw[aW,Bool.and_eq_true]
  exact⟨h.1,List.all_eq_true.2 fun a ha=>nI (eM h0 ha)⟩
theorem Dm{d:Nat}{q:Int}(h:V5 q):aW (d+1) (lp q)=true:=by
 obtain⟨h0,h1⟩:=h
 have:aH []=false:=by decide
 simp[aW,lp,iv,inR,Ex.op,Ex.kids,Ex.name,Ex.n,loK,hiK,zo,this,h0,h1]
theorem IR{d:Nat}{o n:Int}{s:List UInt8}{ks:List Ex}{x:Ex}(h:aW (d+1) (.mk o n s ks)=true)(hx:P5 o n s ks x):aW (d+1) x=true:=by
 have hk:∀a∈ks,aW d a=true:=fun a ha=>eM h ha
 rcases hx with rfl|⟨q,rfl,hq⟩|⟨a,ha,rfl⟩|⟨a,ha,c,hc,rfl⟩
 ·exact h
 ·exact Dm (hq fun a ha _=>rc (gW (hk a ha)))
 ·exact nI (hk _ ha)
 ·have h1:=hk a ha
  cases d with
  |zero=>cases h1
  |succ d=>exact nI (nI (eM h1 hc))
theorem pL:∀(d:Nat) (e:Ex),aW d e=true→aW d (cm e)=true
 |0,e,h=>by cases h
 |d+1,.mk o n s ks,h=>by
  rw[cm]
  refine IR ?_ (nP o n s (aK ks))
  rw[aW,Bool.and_eq_true] at h⊢
  refine⟨?_,?_⟩
  ·have h1:=h.1
   simp only[iv,Ex.op,Ex.n,Ex.name,Ex.kids,cu,List.length_map] at h1⊢
   exact h1
  ·have h2:=h.2
   simp only[Ex.kids,cu,List.all_eq_true] at h2⊢
   intro x hx
   obtain⟨e,he,rfl⟩:=List.mem_map.1 hx
   exact pL d e (h2 e he)
theorem CE{o n:Int}{s:List UInt8}{ks:List Ex}{x:Ex}(hx:P5 o n s ks x):x.parts≤1+de ks:=by
 rcases hx with rfl|⟨q,rfl,hq⟩|⟨a,ha,rfl⟩|⟨a,ha,c,hc,rfl⟩
 ·exact Nat.le_refl _
 ·simp only[lp,Ex.parts,de];omega
 ·have:=fj ha;omega
 ·have h1:=fj ha
  have h2:=fj hc
  have h3:=a.parts_eq
  omega
mutual
theorem pM:∀e:Ex,(cm e).parts≤e.parts
 | .mk o n s ks=>by
   rw[cm,Ex.parts]
   have h1:=CE (nP o n s (aK ks))
   have h2:=lu ks
   omega
theorem lu:∀l:List Ex,de (aK l)≤de l
 |[]=>Nat.le_refl _
 |e::r=>by
  have h1:=pM e
  have h2:=lu r
  rw[aK,de,de]
  omega
end
theorem DC{e:Ex}(h:fI e=true):fI (cm e)=true:=by
 rw[fI,Bool.and_eq_true,decide_eq_true_eq] at h⊢
 exact⟨pL 6 e h.1,Nat.le_trans (pM e) h.2⟩
theorem chkEs_all{fns:List Fd}{k:Nat}{vs:List LV}:∀{l:List Ex},bg fns k vs l 0=0↔∀e∈l,iC fns k vs e 0=0
 |[]=>by simp[bg]
 |e::r=>by
  rw[bg]
  constructor
  ·intro h
   have h0:=gR h
   rw[h0] at h
   intro x hx
   rcases List.mem_cons.1 hx with rfl|hx
   ·exact h0
   ·exact chkEs_all.1 h x hx
  ·intro h
   rw[h e (by simp)]
   exact chkEs_all.2 fun x hx=>h x (by simp[hx])
theorem chkE_iff{fns:List Fd}{k:Nat}{vs:List LV}{o n:Int}{s:List UInt8}{ks:List Ex}:iC fns k vs (.mk o n s ks) 0=0↔fS fns k vs o s ks.length 0=0∧∀a∈ks,iC fns k vs a 0=0:=by
 rw[iC]
 constructor
 ·intro h
  have h0:=gR h
  rw[h0] at h
  exact⟨h0,chkEs_all.1 h⟩
 ·rintro⟨h1,h2⟩
  rw[h1]
  exact chkEs_all.2 h2
theorem uu{fns:List Fd}{k:Nat}{vs:List LV}{e a:Ex}(h:iC fns k vs e 0=0)(ha:a∈e.kids):iC fns k vs a 0=0:=by
 obtain⟨o,n,s,ks⟩:=e
 exact(chkE_iff.1 h).2 a ha
theorem Ky{fns:List Fd}{k:Nat}{vs:List LV}{o n:Int}{s:List UInt8}{ks:List Ex}{x:Ex}(h:iC fns k vs (.mk o n s ks) 0=0)(hx:P5 o n s ks x):iC fns k vs x 0=0:=by
 rcases hx with rfl|⟨q,rfl,hq⟩|⟨a,ha,rfl⟩|⟨a,ha,c,hc,rfl⟩
 ·exact h
 ·simp[lp,iC,bg,fS]
 ·exact uu h ha
 ·exact uu (uu h ha) hc
section
variable {fns fns':List Fd} (hL:Like fns fns')
include hL
theorem Be(k:Nat)(vs:List LV)(o:Int)(s:List UInt8)(n:Nat)(c:Int):fS fns' k vs o s n c=fS fns k vs o s n c:=by
 simp only[fS,lq,hL.at_,hL.par]
mutual
theorem DI{k:Nat}{vs:List LV}:∀e:Ex,iC fns k vs e 0=0→iC fns' k vs (cm e) 0=0
 | .mk o n s ks,h=>by
   rw[cm]
   refine Ky ?_ (nP o n s (aK ks))
   rw[iC] at h⊢
   have h0:=gR h
   rw[h0] at h
   rw[Be hL,cu,List.length_map,h0,←cu]
   exact qd ks h
theorem qd{k:Nat}{vs:List LV}:∀l:List Ex,bg fns k vs l 0=0→bg fns' k vs (aK l) 0=0
 |[],_=>rfl
 |e::r,h=>by
  have _:=hL
  rw[bg] at h
  have h0:=gR h
  rw[h0] at h
  rw[aK,bg,DI e h0]
  exact qd r h
end
mutual
theorem EM{k:Nat}:∀(s:Sm) (b:Nat) (w:WS),(stW fns k b s w).code=0→stW fns' k b (fU s) w=stW fns k b s w
 | .mk o s a bd el,b,w,hz=>by
   rw[stW,eN] at hz
   have z1:=fM hz
   rw[eN] at z1
   have z2:=fM z1
   have z3:bg fns k w.vs a w.code=0:=yP z2
   have hc0:=gR z3
   have z3':=z3
   rw[hc0] at z3'
   have e1:bg fns' k w.vs (aK a) w.code=bg fns k w.vs a w.code:=by rw[z3,hc0];exact qd hL a z3'
   rw[fU,stW,stW]
   simp only[e1]
   rw[nY bd _ _ z1,nY el _ _ hz]
theorem nY{k:Nat}:∀(l:List Sm) (b:Nat) (w:WS),(bx fns k b l w).code=0→bx fns' k b (ay l) w=bx fns k b l w
 |[],b,w,_=>rfl
 |s::r,b,w,hz=>by
  have _:=hL
  rw[bx] at hz
  rw[ay,bx,bx,EM s b w (fM hz)]
  exact nY r b _ hz
end
theorem FO{k:Nat}{f:Fd}(hz:(fnW fns k f).code=0):(fnW fns' k (mj f)).code=0:=by
 have hat:=Hx hz
 have hat':dp fns' (mj f).name=some k:=by rw[hL.at_];exact hat
 rw[fnW,if_pos hat] at hz
 rw[fnW,if_pos hat']
 show(bx fns' k 0 (ay f.body) (cN f.params ⟨[],0,0⟩)).code=0
 rw[nY hL f.body 0 _ hz]
 exact hz
end
mutual
theorem Hg:∀s:Sm,(fU s).cnt=s.cnt
 | .mk o s a bd el=>by rw[fU,Sm.cnt,Sm.cnt,od bd,od el]
theorem od:∀l:List Sm,cC (ay l)=cC l
 |[]=>rfl
 |s::r=>by rw[ay,cC,cC,Hg s,od r]
end
theorem AQ(n:Int)(s:List UInt8)(ks:List Ex):dJ 13 n s ks= .mk 13 n s ks:=by simp[dJ]
theorem Bo{o:Int}{s:List UInt8}{a:List Ex}{bd el:List Sm}(h:er (.mk o s a bd el)=true):er (.mk o s (aK a) (ay bd) (ay el))=true:=by
 simp only[er,Sm.op,Sm.args,Sm.name,Sm.body,Sm.els,Bool.and_eq_true,Bool.or_eq_true,decide_eq_true_eq,List.isEmpty_iff,Bool.not_eq_true',decide_eq_false_iff_not] at h⊢
 obtain⟨⟨⟨⟨h1,h2⟩,h3⟩,h4⟩,h5⟩:=h
 refine⟨⟨⟨⟨?_,?_⟩,?_⟩,?_⟩,?_⟩
 ·have hl:(aK a).length=a.length:=by rw[cu,List.length_map]
  obtain⟨⟨⟨g1,g2⟩,g3⟩,g4⟩:=h1
  have g2:a.length=jL o:=of_decide_eq_true g2
  exact⟨⟨⟨g1,decide_eq_true (hl.trans g2)⟩,g3⟩,g4⟩
 ·rw[cu,List.all_eq_true]
  intro x hx
  obtain⟨e,he,rfl⟩:=List.mem_map.1 hx
  exact DC (List.all_eq_true.1 h2 e he)
 ·rcases h3 with h3|h3
  ·exact .inl h3
  ·right
   match a,h3 with
   |e::r,h3=>
    obtain⟨eo,en,es,ek⟩:=e
    have h3:eo=13:=of_decide_eq_true h3
    subst h3
    refine decide_eq_true (show(cm (.mk 13 en es ek)).op=13 from ?_)
    rw[cm,AQ];rfl
 ·rcases h4 with h4|h4
  ·exact .inl (by rw[h4];rfl)
  ·exact .inr h4
 ·rcases h5 with(h5|h5)|h5
  ·exact .inl (.inl (by rw[h5];rfl))
  ·exact .inl (.inr h5)
  ·exact .inr h5
theorem qk:∀(d:Nat) (x:Sm),aq d x=true→aq d (fU x)=true
 |0,x,h=>by cases h
 |d+1,.mk o s a bd el,h=>by
  rw[aq,Bool.and_eq_true,Bool.and_eq_true] at h
  rw[fU,aq,Bool.and_eq_true,Bool.and_eq_true]
  refine⟨⟨Bo h.1.1,?_⟩,?_⟩
  ·have h2:=h.1.2
   simp only[Sm.body,fR,List.all_eq_true] at h2⊢
   intro x hx
   obtain⟨e,he,rfl⟩:=List.mem_map.1 hx
   exact qk d e (h2 e he)
  ·have h2:=h.2
   simp only[Sm.els,fR,List.all_eq_true] at h2⊢
   intro x hx
   obtain⟨e,he,rfl⟩:=List.mem_map.1 hx
   exact qk d e (h2 e he)
theorem Ej{f:Fd}(h:gx f=true):gx (mj f)=true:=by
 simp only[gx,mj,Bool.and_eq_true] at h⊢
 refine⟨h.1,?_⟩
 have h2:=h.2
 simp only[fR,List.all_eq_true] at h2⊢
 intro x hx
 obtain⟨e,he,rfl⟩:=List.mem_map.1 hx
 exact qk 4 e (h2 e he)
theorem DM(l:List Fd):iB (co l)=iB l:=by
 simp only[iB,co,List.map_map]
 congr 1
 exact List.map_congr_left fun f _=>od f.body
theorem za{l:List Fd}(h:bH l=true):bH (co l)=true:=by
 obtain⟨h1,h2,h3⟩:=(jI l).1 h
 refine(jI _).2 ⟨by rw[co,List.length_map];exact h1,fun f hf=>?_,by rw[DM];exact h3⟩
 obtain⟨g,hg,rfl⟩:=List.mem_map.1 hf
 exact Ej (h2 g hg)
theorem jd{l:List Fd}(h:aX l=0):aX (co l)=0:=by
 rw[aX] at h⊢
 by_cases hp:bH l=true
 ·rw[if_pos hp] at h
  rw[if_pos (za hp)]
  rw[kr] at h⊢
  intro i f hf
  rw[co,List.getElem?_map,Option.map_eq_some_iff] at hf
  obtain⟨g,hg,rfl⟩:=hf
  exact FO (Dg l) (h i g hg)
 ·rw[if_neg hp] at h;cases h
end Go.Proofs.YtaopbokndkdieaaGreatDoor
namespace Go.Proofs.YtaopbokndkdieaaGreatDoor
open Go Go.Aw
set_option maxRecDepth 100000
set_option maxHeartbeats 4000000
theorem Ae(e:Ex):cm e=dJ e.op e.n e.name (aK e.kids):=by cases e;rw[cm];rfl
theorem uc(x:Sm):fU x= .mk x.op x.name (aK x.args) (ay x.body) (ay x.els):=by cases x;rw[fU];rfl
theorem oe{d:Nat}{e:Ex}(h:aW d e=true):∃c,d=c+1:=by
 cases d with
 |zero=>cases h
 |succ d=>exact⟨d,rfl⟩
theorem pY{d:Nat}{e:Sm}(h:aq d e=true):∃c,d=c+1:=by
 cases d with
 |zero=>cases h
 |succ d=>exact⟨d,rfl⟩
theorem AP{d:Nat}{x:Sm}(h:aq d x=true):∀a∈x.args,aW 6 a=true:=by
 obtain⟨d,rfl⟩:=pY h
 rw[aq,Bool.and_eq_true,Bool.and_eq_true] at h
 have h1:=h.1.1
 simp only[er,Bool.and_eq_true,List.all_eq_true] at h1
 intro a ha
 exact xz (h1.1.1.1.2 a ha)
theorem lO{d:Nat}{x:Sm}(h:aq (d+1) x=true):∀y∈x.body,aq d y=true:=by
 rw[aq,Bool.and_eq_true,Bool.and_eq_true] at h
 exact List.all_eq_true.1 h.1.2
theorem ou{d:Nat}{x:Sm}(h:aq (d+1) x=true):∀y∈x.els,aq d y=true:=by
 rw[aq,Bool.and_eq_true,Bool.and_eq_true] at h
 exact List.all_eq_true.1 h.2
theorem uN{d:Nat}{e:Ex}(h:aW d e=true):aW d (.mk e.op e.n e.name (aK e.kids))=true:=by
 obtain⟨d,rfl⟩:=oe h
 rw[aW,Bool.and_eq_true] at h⊢
 refine⟨?_,?_⟩
 ·have h1:=h.1
  obtain⟨o,n,s,ks⟩:=e
  simp only[iv,Ex.op,Ex.n,Ex.name,Ex.kids,cu,List.length_map] at h1⊢
  exact h1
 ·have h2:=h.2
  show(aK e.kids).all (aW d)=true
  simp only[cu,List.all_eq_true] at h2⊢
  intro x hx
  obtain⟨e,he,rfl⟩:=List.mem_map.1 hx
  exact pL d e (h2 e he)
theorem dF{d:Nat}{e:Ex}(h:aW d e=true):loK e.op≤e.kids.length∧e.kids.length≤hiK e.op∧1≤e.op∧e.op≤13:=by
 have h:=gW h
 simp only[iv,Bool.and_eq_true,inR,decide_eq_true_eq] at h
 obtain⟨⟨⟨⟨⟨h1,h2⟩,_⟩,_⟩,_⟩,_⟩:=h
 exact⟨by omega,by omega,h1.1,h1.2⟩
theorem IO{d:Nat}{e a:Ex}(h:aW d e=true)(hk:e.kids=[a])(h2:¬(e.op=12∨e.op=13)):e.op=11:=by
 obtain⟨h1,h3,h4,h5⟩:=dF h
 rw[hk] at h1 h3
 simp only[loK,hiK,List.length_cons,List.length_nil] at h1 h3
 split at h1
 ·rename_i hh;rw[if_pos hh] at h3;omega
 ·split at h1
  ·omega
  ·rw[if_neg (by omega)] at h1
   omega
theorem zp{d:Nat}{e a b:Ex}(h:aW d e=true)(hk:e.kids=[a,b])(h2:¬(e.op=12∨e.op=13)):3≤e.op∧e.op≤10:=by
 obtain⟨h1,h3,h4,h5⟩:=dF h
 rw[hk] at h1 h3
 simp only[loK,hiK,List.length_cons,List.length_nil] at h1 h3
 split at h3
 ·omega
 ·split at h3<;>omega
section
variable {l:List Fd} {k:Nat} {v:List Sc5} {s s':S5} {r:O5 Int}
end
end Go.Proofs.YtaopbokndkdieaaGreatDoor
namespace Go.Proofs.YtaopbokndkdieaaGreatDoor
open Go Go.Aw
set_option maxRecDepth 100000
set_option maxHeartbeats 4000000
def kI(x:Sm)(n:Int):Bool:=match x.args with|a::_=>isN a n|[]=>false
def uf(x:Sm):Bool:=match x.args with|a::_=>decide (a.op=1)|[]=>false
def iu(x:Sm):Bool:=decide (x.op=6)&&kI x 0
mutual
def cQ:Sm→Sm
 | .mk o s a bd el=> .mk o s a
   (if o=5∧kI (.mk o s a bd el) 0=true then[] else aA bd)
   (if o=5∧kI (.mk o s a bd el) 0=false∧uf (.mk o s a bd el)=true then[] else aA el)
def aA:List Sm→List Sm
 |[]=>[]
 |s::r=>if iu s=true then aA r else cQ s::(if s.op=7 then[] else aA r)
end
theorem dv(s:Sm)(r:List Sm):aA (s::r)=if iu s=true then aA r else cQ s::(if s.op=7 then[] else aA r):=by rw[aA]
def rN(f:Fd):Fd:=⟨f.name,f.params,aA f.body⟩
def gu(l:List Fd):List Fd:=l.map rN
theorem FX(l:List Fd):Like l (gu l):=AA l rN (fun _=>rfl) (fun _=>rfl)
theorem HU(x:Sm):(cQ x).op=x.op:=by cases x;rw[cQ];rfl
theorem DU(x:Sm):(cQ x).name=x.name:=by cases x;rw[cQ];rfl
theorem Dn(x:Sm):(cQ x).args=x.args:=by cases x;rw[cQ];rfl
theorem HL(x:Sm):(cQ x).body=if x.op=5∧kI x 0=true then[] else aA x.body:=by cases x;rw[cQ];rfl
theorem GZ(x:Sm):(cQ x).els=if x.op=5∧kI x 0=false∧uf x=true then[] else aA x.els:=by cases x;rw[cQ];rfl
section
variable {l:List Fd} {k:Nat} {v v':List Sc5} {s s':S5} {x:Sm} {r:O5 (Option Int)}
theorem zloop_iff:iu x=true↔x.op=6∧kI x 0=true:=by simp[iu]
end
end Go.Proofs.YtaopbokndkdieaaGreatDoor
namespace Go.Proofs.YtaopbokndkdieaaGreatDoor
open Go Go.Aw
set_option maxRecDepth 100000
set_option maxHeartbeats 4000000
def nb(x:LV):List UInt8 × Nat:=(x.name,x.block)
def VSq(a b:List LV):Prop:=b.map nb=a.map nb
theorem EX(vs:List LV)(s:List UInt8):(lkV vs s).map nb=(vs.map nb).find? fun p=>decide (p.1=s):=by
 rw[lkV,List.find?_map];rfl
theorem JQ{a b:List LV}(h:VSq a b)(s:List UInt8):(lkV b s).map nb=(lkV a s).map nb:=by rw[EX,EX,h]
theorem Gw{a b:List LV}(h:VSq a b)(s:List UInt8)(c:Int):lX b s c=lX a s c:=by
 have e:=JQ h s
 unfold lX
 cases ha:lkV a s<;>cases hb:lkV b s<;>rw[ha,hb] at e<;>first|rfl|cases e
theorem JS{a b:List LV}(h:VSq a b)(s:List UInt8)(n:Nat)(c:Int):mu b s n c=mu a s n c:=by
 have e:=JQ h s
 unfold mu
 cases ha:lkV a s<;>cases hb:lkV b s<;>rw[ha,hb] at e<;>first|rfl|(cases e;done)|skip
 ·have e2:=congrArg Prod.snd (Option.some.inj e)
  simp only[nb] at e2
  simp only[e2]
section
variable {fns fns':List Fd} (hL:Like fns fns')
include hL
theorem Io{a b:List LV}(h:VSq a b)(k:Nat)(o:Int)(s:List UInt8)(n:Nat)(c:Int):fS fns' k b o s n c=fS fns k a o s n c:=by
 simp only[fS,lq,hL.at_,hL.par,Gw h]
mutual
theorem KA{a b:List LV}(h:VSq a b){k:Nat}:∀(e:Ex) (c:Int),iC fns' k b e c=iC fns k a e c
 | .mk o n s ks,c=>by rw[iC,iC,Io hL h,yI h ks]
theorem yI{a b:List LV}(h:VSq a b){k:Nat}:∀(l:List Ex) (c:Int),bg fns' k b l c=bg fns k a l c
 |[],c=>rfl
 |e::r,c=>by have _:=hL;rw[bg,bg,KA h e,yI h r]
end
omit hL in
theorem MC{w w':WS}(h:VSq w.vs w'.vs)(hc:w'.code=w.code)(o:Int)(s:List UInt8)(b:Nat):VSq (opW o s b w).vs (opW o s b w').vs∧(opW o s b w').code=(opW o s b w).code:=by
 unfold opW
 split
 ·refine⟨?_,?_⟩
  ·show(LV.mk s w'.count b::w'.vs).map nb=(LV.mk s w.count b::w.vs).map nb
   rw[List.map_cons,List.map_cons,h];rfl
  ·show mu w'.vs s b w'.code=mu w.vs s b w.code
   rw[JS h,hc]
 ·split
  ·refine⟨h,?_⟩
   show lX w'.vs s w'.code=lX w.vs s w.code
   rw[Gw h,hc]
  ·exact⟨h,hc⟩
omit hL in
theorem Jm(fns:List Fd)(k b:Nat)(x:Sm)(w:WS):(stW fns k b x w).vs=(opW x.op x.name b ⟨w.vs,w.count,bg fns k w.vs x.args w.code⟩).vs:=by
 obtain⟨o,s,a,bd,el⟩:=x
 rw[stW];rfl
mutual
theorem Jq{k:Nat}:∀(x:Sm) (b:Nat) (w w':WS),VSq w.vs w'.vs→w'.code=0→(stW fns k b x w).code=0→VSq (stW fns k b x w).vs (stW fns' k b (cQ x) w').vs∧(stW fns' k b (cQ x) w').code=0
 | .mk o s a bd el,b,w,w',hv,hc,hz=>by
   rw[stW,eN] at hz
   have z1:=fM hz
   rw[eN] at z1
   have z2:=fM z1
   have z3:bg fns k w.vs a w.code=0:=yP z2
   have hc0:=gR z3
   have e1:bg fns' k w'.vs a w'.code=bg fns k w.vs a w.code:=by rw[yI hL hv,hc,hc0]
   obtain⟨p1,p2⟩:=MC (w:=⟨w.vs,w.count,bg fns k w.vs a w.code⟩) (w':=⟨w'.vs,w'.count,bg fns' k w'.vs a w'.code⟩) hv e1 o s b
   rw[z2] at p2
   rw[cQ,stW,stW]
   try simp only
   generalize opW o s b ⟨w.vs,w.count,bg fns k w.vs a w.code⟩=w2 at*
   generalize opW o s b ⟨w'.vs,w'.count,bg fns' k w'.vs a w'.code⟩=w2' at*
   have q1:(bx fns' k (b+1) (if o=5∧kI (.mk o s a bd el) 0=true then[] else aA bd) w2').code=0:=by
    split
    ·exact p2
    ·exact nL bd (b+1) w2 w2' p1 p2 z1
   generalize bx fns' k (b+1) (if o=5∧kI (.mk o s a bd el) 0=true then[] else aA bd) w2'=w3' at*
   have q2:(bx fns' k (b+1) (if o=5∧kI (.mk o s a bd el) 0=false∧uf (.mk o s a bd el)=true then[] else aA el) (w3'.back w2'.vs)).code=0:=by
    split
    ·exact q1
    ·exact nL el (b+1) ((bx fns k (b+1) bd w2).back w2.vs) (w3'.back w2'.vs) p1 q1 hz
   exact⟨p1,q2⟩
theorem nL{k:Nat}:∀(l:List Sm) (b:Nat) (w w':WS),VSq w.vs w'.vs→w'.code=0→(bx fns k b l w).code=0→(bx fns' k b (aA l) w').code=0
 |[],b,w,w',_,hc,_=>hc
 |x::r,b,w,w',hv,hc,hz=>by
  have _:=hL
  rw[bx] at hz
  have z1:=fM hz
  rw[dv]
  split
  ·rename_i h
   refine nL r b _ w' ?_ hc hz
   rw[Jm,opW,if_neg (by have:=(zloop_iff.1 h).1;omega),if_neg (by have:=(zloop_iff.1 h).1;omega)]
   exact hv
  ·obtain⟨p1,p2⟩:=Jq x b w w' hv hc z1
   rw[bx]
   split
   ·exact p2
   ·exact nL r b _ _ p1 p2 hz
end
theorem Jh{k:Nat}{f:Fd}(hz:(fnW fns k f).code=0):(fnW fns' k (rN f)).code=0:=by
 have hat:=Hx hz
 have hat':dp fns' (rN f).name=some k:=by rw[hL.at_];exact hat
 rw[fnW,if_pos hat] at hz
 rw[fnW,if_pos hat']
 exact nL hL f.body 0 _ _ rfl (fM hz) hz
end
mutual
theorem JE:∀s:Sm,(cQ s).cnt≤s.cnt
 | .mk o s a bd el=>by
   rw[cQ,Sm.cnt,Sm.cnt]
   have h1:=qF bd
   have h2:=qF el
   have e1:cC (if o=5∧kI (.mk o s a bd el) 0=true then[] else aA bd)≤cC bd:=by
    split
    ·exact Nat.zero_le _
    ·exact h1
   have e2:cC (if o=5∧kI (.mk o s a bd el) 0=false∧uf (.mk o s a bd el)=true then[] else aA el)≤cC el:=by
    split
    ·exact Nat.zero_le _
    ·exact h2
   omega
theorem qF:∀l:List Sm,cC (aA l)≤cC l
 |[]=>Nat.le_refl _
 |s::r=>by
  rw[dv,cC]
  have h1:=JE s
  have h2:=qF r
  split
  ·omega
  ·rw[cC]
   split
   ·simp only[cC];omega
   ·omega
end
theorem nS:∀{l:List Sm} {y:Sm},y∈aA l→∃x∈l,y=cQ x
 |s::r,y,h=>by
  rw[dv] at h
  split at h
  ·obtain⟨x,hx,e⟩:=nS h
   exact⟨x,by simp[hx],e⟩
  ·rcases List.mem_cons.1 h with rfl|h
   ·exact⟨s,by simp,rfl⟩
   ·split at h
    ·cases h
    ·obtain⟨x,hx,e⟩:=nS h
     exact⟨x,by simp[hx],e⟩
theorem xY{o:Int}{s:List UInt8}{a:List Ex}{bd el bd' el':List Sm}(h:er (.mk o s a bd el)=true)(h1:bd=[]→bd'=[])(h2:el=[]→el'=[]):er (.mk o s a bd' el')=true:=by
 simp only[er,Sm.op,Sm.args,Sm.name,Sm.body,Sm.els,Bool.and_eq_true,Bool.or_eq_true,List.isEmpty_iff] at h⊢
 obtain⟨⟨h3,h4⟩,h5⟩:=h
 refine⟨⟨h3,h4.imp h2 id⟩,?_⟩
 rcases h5 with(h5|h5)|h5
 ·exact .inl (.inl (h1 h5))
 ·exact .inl (.inr h5)
 ·exact .inr h5
theorem xq:∀(d:Nat) (x:Sm),aq d x=true→aq d (cQ x)=true
 |0,x,h=>by cases h
 |d+1,.mk o s a bd el,h=>by
  rw[aq,Bool.and_eq_true,Bool.and_eq_true] at h
  rw[cQ,aq,Bool.and_eq_true,Bool.and_eq_true]
  have hb:∀l:List Sm,l.all (aq d)=true→(aA l).all (aq d)=true:=by
   intro l hl
   rw[List.all_eq_true] at hl⊢
   intro y hy
   obtain⟨x,hx,rfl⟩:=nS hy
   exact xq d x (hl x hx)
  refine⟨⟨xY h.1.1 ?_ ?_,?_⟩,?_⟩
  ·rintro rfl;split<;>rfl
  ·rintro rfl;split<;>rfl
  ·show(if _ then _ else _:List Sm).all (aq d)=true
   split
   ·rfl
   ·exact hb _ h.1.2
  ·show(if _ then _ else _:List Sm).all (aq d)=true
   split
   ·rfl
   ·exact hb _ h.2
theorem Es{f:Fd}(h:gx f=true):gx (rN f)=true:=by
 simp only[gx,rN,Bool.and_eq_true] at h⊢
 refine⟨h.1,?_⟩
 have h2:=h.2
 rw[List.all_eq_true] at h2⊢
 intro y hy
 obtain⟨x,hx,rfl⟩:=nS hy
 exact xq 4 x (h2 x hx)
theorem GM(l:List Fd):iB (gu l)≤iB l:=by
 induction l with
 |nil=>exact Nat.le_refl _
 |cons f r ih=>
  have h1:=qF f.body
  simp only[iB,gu,List.map_cons,List.sum_cons,rN] at ih⊢
  omega
theorem BW{l:List Fd}(h:bH l=true):bH (gu l)=true:=by
 obtain⟨h1,h2,h3⟩:=(jI l).1 h
 refine(jI _).2 ⟨by rw[gu,List.length_map];exact h1,fun f hf=>?_,Nat.le_trans (GM l) h3⟩
 obtain⟨g,hg,rfl⟩:=List.mem_map.1 hf
 exact Es (h2 g hg)
theorem As{l:List Fd}(h:aX l=0):aX (gu l)=0:=by
 rw[aX] at h⊢
 by_cases hp:bH l=true
 ·rw[if_pos hp] at h
  rw[if_pos (BW hp)]
  rw[kr] at h⊢
  intro i f hf
  rw[gu,List.getElem?_map,Option.map_eq_some_iff] at hf
  obtain⟨g,hg,rfl⟩:=hf
  exact Jh (FX l) (h i g hg)
 ·rw[if_neg hp] at h;cases h
end Go.Proofs.YtaopbokndkdieaaGreatDoor
namespace Go.Proofs.YtaopbokndkdieaaGreatDoor
open Go Go.Aw
set_option maxRecDepth 100000
set_option maxHeartbeats 4000000
mutual
def wS:Sm→Nat
 | .mk _ _ a bd el=>1+de a+wSs bd+wSs el
def wSs:List Sm→Nat
 |[]=>0
 |x::r=>wS x+wSs r
end
def wP(l:List Fd):Nat:=(l.map fun f=>wSs f.body).sum
theorem Fy(x:Sm):0<wS x:=by cases x;rw[wS];omega
theorem EG(e:Ex):0<e.parts:=by have:=e.parts_eq;omega
theorem GF(o n:Int)(s:List UInt8)(ks:List Ex):dJ o n s ks= .mk o n s ks∨(dJ o n s ks).parts<1+de ks:=by
 match ks with
 |[]=>
  left
  unfold dJ
  split<;>rfl
 |a::r=>
  have ha:=EG a
  have he:de (a::r)=a.parts+de r:=rfl
  rcases nP o n s (a::r) with h|⟨q,h,_⟩|⟨c,hc,h⟩|⟨c,hc,d,hd,h⟩
  ·exact .inl h
  ·right
   rw[h]
   show 1+de []<_
   have e0:de []=0:=rfl
   omega
  ·right
   rw[h]
   have:=fj hc
   omega
  ·right
   rw[h]
   have h1:=fj hc
   have h2:=fj hd
   have h3:=c.parts_eq
   omega
mutual
theorem EU:∀e:Ex,cm e=e∨(cm e).parts<e.parts
 | .mk o n s ks=>by
   rw[cm,Ex.parts]
   rcases rB ks with h|h
   ·rw[h];exact GF o n s ks
   ·right
    have h2:=CE (nP o n s (aK ks))
    omega
theorem rB:∀l:List Ex,aK l=l∨de (aK l)<de l
 |[]=> .inl rfl
 |e::r=>by
  rw[aK,de,de]
  have h3:=pM e
  have h4:=lu r
  rcases EU e with h|h
  ·rcases rB r with h2|h2
   ·exact .inl (by rw[h,h2])
   ·right;omega
  ·right;omega
end
mutual
theorem FH:∀x:Sm,(fU x=x∨wS (fU x)<wS x)∧wS (fU x)≤wS x
 | .mk o s a bd el=>by
   rw[fU,wS,wS]
   have g1:=lu a
   obtain⟨k2,g2⟩:=nT bd
   obtain⟨k3,g3⟩:=nT el
   refine⟨?_,by omega⟩
   rcases rB a with h1|h1
   ·rcases k2 with k2|k2
    ·rcases k3 with k3|k3
     ·exact .inl (by rw[h1,k2,k3])
     ·right;omega
    ·right;omega
   ·right;omega
theorem nT:∀l:List Sm,(ay l=l∨wSs (ay l)<wSs l)∧wSs (ay l)≤wSs l
 |[]=>⟨.inl rfl,Nat.le_refl _⟩
 |x::r=>by
  rw[ay,wSs,wSs]
  obtain⟨k2,g2⟩:=FH x
  obtain⟨k3,g3⟩:=nT r
  refine⟨?_,by omega⟩
  rcases k2 with k2|k2
  ·rcases k3 with k3|k3
   ·exact .inl (by rw[k2,k3])
   ·right;omega
  ·right;omega
end
theorem xF(c:Prop)[Decidable c](l m:List Sm)(h:(m=l∨wSs m<wSs l)∧wSs m≤wSs l):((if c then[] else m)=l∨wSs (if c then[] else m)<wSs l)∧wSs (if c then[] else m)≤wSs l:=by
 split
 ·have e:wSs []=0:=rfl
  refine⟨?_,by omega⟩
  match l with
  |[]=>exact .inl rfl
  |x::r=>
   right
   have:=Fy x
   rw[e,wSs];omega
 ·exact h
mutual
theorem Ie:∀x:Sm,(cQ x=x∨wS (cQ x)<wS x)∧wS (cQ x)≤wS x
 | .mk o s a bd el=>by
   rw[cQ,wS,wS]
   obtain⟨k2,g2⟩:=xF (o=5∧kI (.mk o s a bd el) 0=true) bd (aA bd) (qU bd)
   obtain⟨k3,g3⟩:=xF (o=5∧kI (.mk o s a bd el) 0=false∧uf (.mk o s a bd el)=true) el (aA el) (qU el)
   refine⟨?_,by omega⟩
   rcases k2 with k2|k2
   ·rcases k3 with k3|k3
    ·exact .inl (by rw[k2,k3])
    ·right;omega
   ·right;omega
theorem qU:∀l:List Sm,(aA l=l∨wSs (aA l)<wSs l)∧wSs (aA l)≤wSs l
 |[]=>⟨.inl (by rw[aA]),by rw[aA];exact Nat.le_refl _⟩
 |x::r=>by
  have hx:=Fy x
  have hr:=qU r
  obtain⟨k2,g2⟩:=Ie x
  rw[dv,wSs]
  split
  ·have:=hr.2
   exact⟨.inr (by omega),by omega⟩
  ·obtain⟨k3,g3⟩:=xF (x.op=7) r (aA r) hr
   rw[wSs]
   refine⟨?_,by omega⟩
   rcases k2 with k2|k2
   ·rcases k3 with k3|k3
    ·exact .inl (by rw[k2,k3])
    ·right;omega
   ·right;omega
end
theorem Gq(g:Fd→Fd)(hg:∀f,(g f=f∨wSs (g f).body<wSs f.body)∧wSs (g f).body≤wSs f.body):∀l:List Fd,(l.map g=l∨wP (l.map g)<wP l)∧wP (l.map g)≤wP l
 |[]=>⟨.inl rfl,Nat.le_refl _⟩
 |f::r=>by
  obtain⟨k2,g2⟩:=hg f
  obtain⟨k3,g3⟩:=Gq g hg r
  have e1:wP (f::r)=wSs f.body+wP r:=by simp[wP]
  have e2:wP ((f::r).map g)=wSs (g f).body+wP (r.map g):=by simp[wP]
  rw[e1,e2]
  refine⟨?_,by omega⟩
  rcases k2 with k2|k2
  ·rcases k3 with k3|k3
   ·exact .inl (by rw[List.map_cons,k2,k3])
   ·right;omega
  ·right;omega
theorem Fr(l:List Fd):(co l=l∨wP (co l)<wP l)∧wP (co l)≤wP l:=Gq mj (fun f=>by
 obtain⟨k,g⟩:=nT f.body
 refine⟨?_,g⟩
 rcases k with k|k
 ·exact .inl (by rw[mj,k])
 ·exact .inr k) l
theorem IV(l:List Fd):(gu l=l∨wP (gu l)<wP l)∧wP (gu l)≤wP l:=Gq rN (fun f=>by
 obtain⟨k,g⟩:=qU f.body
 refine⟨?_,g⟩
 rcases k with k|k
 ·exact .inl (by rw[rN,k])
 ·exact .inr k) l
def kU(l:List Fd):List Fd:=gu (co l)
theorem mH(l:List Fd):kU l=l∨wP (kU l)<wP l:=by
 obtain⟨k1,g1⟩:=Fr l
 obtain⟨k2,g2⟩:=IV (co l)
 rcases k1 with k1|k1
 ·rw[kU,k1]
  rw[k1] at k2
  exact k2
 ·right
  rw[kU];omega
inductive Smp:List Fd→List Fd→Prop where
 |stop {l}:kU l=l→Smp l l
 |go {l x}:kU l≠l→Smp (kU l) x→Smp l x
theorem Cm:∀(n:Nat) (l:List Fd),wP l≤n→∃x,Smp l x:=by
 intro n
 induction n with
 |zero=>
  intro l h
  rcases mH l with h1|h1
  ·exact⟨l,.stop h1⟩
  ·omega
 |succ n ih=>
  intro l h
  by_cases h0:kU l=l
  ·exact⟨l,.stop h0⟩
  ·rcases mH l with h1|h1
   ·exact(h0 h1).elim
   ·obtain⟨x,hx⟩:=ih (kU l) (by omega)
    exact⟨x,.go h0 hx⟩
theorem Ku{l x:List Fd}(h:Smp l x):wP x≤wP l∧kU x=x:=by
 induction h with
 |stop h=>exact⟨Nat.le_refl _,h⟩
 | @go l x h _ ih=>
   rcases mH l with h1|h1
   ·exact(h h1).elim
   ·exact⟨by omega,ih.2⟩
theorem tM{l x:List Fd}(h:Smp l x):x=l↔kU l=l:=by
 constructor
 ·rintro rfl;exact(Ku h).2
 ·intro e
  cases h with
  |stop _=>rfl
  |go h _=>exact(h e).elim
theorem qO{l:List Fd}(h:aX l=0):aX (kU l)=0:=As (jd h)
end Go.Proofs.YtaopbokndkdieaaGreatDoor
namespace Go.Proofs.YtaopbokndkdieaaGreatDoor
open Go Go.Aw
set_option maxRecDepth 100000
set_option maxHeartbeats 4000000
abbrev BL:Nat:=9223372036854775807
mutual
def Ex.fit:Ex→Prop
 | .mk _ _ s k=>s.length≤BL∧k.length≤BL∧lS k
def lS:List Ex→Prop
 |[]=>True
 |e::r=>e.fit∧lS r
end
mutual
def Sm.fit:Sm→Prop
 | .mk _ s a b e=>s.length≤BL∧(a.length≤BL∧lS a)∧(b.length≤BL∧jn b)∧(e.length≤BL∧jn e)
def jn:List Sm→Prop
 |[]=>True
 |s::r=>s.fit∧jn r
end
def Fd.fit(f:Fd):Prop:=f.name.length≤BL∧(f.params.length≤BL∧∀x∈f.params,x.length≤BL)∧(f.body.length≤BL∧jn f.body)
theorem qj:∀{l:List Ex} {e:Ex},lS l→e∈l→e.fit
 |x::r,e,h,hm=>by
  rcases List.mem_cons.1 hm with rfl|hm
  ·exact h.1
  ·exact qj h.2 hm
theorem pZ:∀{l:List Sm} {e:Sm},jn l→e∈l→e.fit
 |x::r,e,h,hm=>by
  rcases List.mem_cons.1 hm with rfl|hm
  ·exact h.1
  ·exact pZ h.2 hm
theorem Ex.fit_eq(e:Ex):e.fit=(e.name.length≤BL∧e.kids.length≤BL∧lS e.kids):=by cases e;rfl
theorem Sm.fit_eq(s:Sm):s.fit=(s.name.length≤BL∧(s.args.length≤BL∧lS s.args)∧(s.body.length≤BL∧jn s.body)∧(s.els.length≤BL∧jn s.els)):=by cases s;rfl
theorem Fd.cs_eq'(f:Fd):f.cs=[.str f.name,aN f.params,smL f.body]:=rfl
def dO(ss:List Nat)(i:Nat):Nat:=ss.length+((ss.take i).map (· -1)).sum
theorem sA(ss:List Nat):dO ss 0=ss.length:=by simp[dO]
theorem sn{ss:List Nat}{i v:Nat}(h:ss[i]?=some v):dO ss (i+1)=dO ss i+(v-1):=by
 rw[dO,dO,List.take_add_one,h,List.map_append,List.sum_append];simp;omega
theorem yg:∀{ss:List Nat},(∀v∈ss,1≤v)→ss.length+(ss.map (· -1)).sum=ss.sum
 |[],_=>rfl
 |v::r,h=>by
  have:=yg (ss:=r) fun x hx=>h x (by simp[hx])
  have h1:=h v (by simp)
  simp only[List.length_cons,List.map_cons,List.sum_cons];omega
theorem tS{ss:List Nat}(h:∀v∈ss,1≤v){i:Nat}(hi:ss.length≤i):dO ss i=ss.sum:=by
 rw[dO,List.take_of_length_le hi,yg h]
theorem yh{ss:List Nat}(h:∀v∈ss,1≤v)(i:Nat):dO ss i≤ss.sum:=by
 rw[←yg h,dO]
 have:(ss.map (· -1)).sum=((ss.take i).map (· -1)).sum+((ss.drop i).map (· -1)).sum:=by
  conv=>lhs;rw[←List.take_append_drop i ss,List.map_append,List.sum_append]
 omega
theorem yU:∀l:List Ex,cS l=(l.map Ex.sz).sum
 |[]=>rfl
 |e::r=>by simp only[cS,List.map_cons,List.sum_cons,yU r]
theorem Am:∀l:List Sm,aD l=(l.map Sm.sz).sum
 |[]=>rfl
 |e::r=>by simp only[aD,List.map_cons,List.sum_cons,Am r]
theorem Fx(l:List Fd):bn l=(l.map Fd.sz).sum:=rfl
theorem Ex.sz_pos(e:Ex):1≤e.sz:=by rw[e.sz_eq];omega
theorem Sm.sz_pos(e:Sm):1≤e.sz:=by rw[e.sz_eq];omega
theorem Fd.sz_pos(f:Fd):1≤f.sz:=by unfold Fd.sz;omega
def bV(left z:Nat):Int:=if z≤left then((left-z:Nat):Int) else-1
variable (G:aI)
theorem xe(l:List Ex)(left:Nat)(hl:left≤1048576)(hb:l.length≤BL)(H:∀e∈l,∀left:Nat,left≤1048576→VF Tryz.prog G hZ [.agg (e.cs.map .p),.p (.int .i64 left)] (.p (.int .i64 (bV left (e.sz-1))))):
 VF Tryz.prog G eA [.p (exL l),.p (.int .i64 left)] (.p (.int .i64 (bV left (cS l)))):=by
 refine AC.go us ?_
 have hpos:∀v∈l.map Ex.sz,1≤v:=fun v hv=>by obtain⟨e,_,rfl⟩:=List.mem_map.1 hv;exact e.sz_pos
 have hz:=yU l
 have hal:=fun i (hi:l.length≤i)=>tS hpos (i:=i) (by rw[List.length_map];exact hi)
 have hle:=yh hpos
 have h00:dO (l.map Ex.sz) 0=l.length:=by rw[sA,List.length_map]
 rw[←hz] at hal hle
 have hsl:∀l,exL l= .lst 4 (l.map Ex.cs):=fun _=>rfl
 have hw:IntKind.i64.wrap ((left:Int)-l.length)=(left:Int)-l.length:=al (by simp only[BL] at hb;omega) (by omega)
 by_cases h:l.length≤left
 case neg=>
  have h1:(left:Int)-l.length<0:=by omega
  have:=hle 0
  have h2:bV left (cS l)= -1:=if_neg (by omega)
  simp-implicitDefEqProofs[jF,hsl,hw,h1,h2]
 have h1:¬(left:Int)-l.length<0:=by omega
 simp-implicitDefEqProofs[jF,hsl,hw,h1]
 refine aF (fun i:Nat=>aj 27 [(0,.p (exL l)),(1,.p (.int .i64 ((left-dO (l.map Ex.sz) i:Nat):Int))),(5,.p (.int .i64 i))]) (fun _=>[]) (fun i=>i≤l.length∧dO (l.map Ex.sz) i≤left) (fun i=>l.length-i) 0 ⟨by omega,by rw[h00];exact h⟩ ?_ ?_
 ·refine aJ rfl ?_
  simp only[h00]
  simp[below,hsl]
  omega
 ·intro i ⟨hi,hx⟩
  simp-implicitDefEqProofs[hsl]
  refine bh (fun h1=>?_) (fun h1=>?_)
  ·simp at h1
   have hg:=List.getElem?_eq_getElem h1
   have hsu:=sn (ss:=l.map Ex.sz) (i:=i) (v:=l[i].sz) (by rw[List.getElem?_map,hg];rfl)
   have hH:=H l[i] (List.getElem_mem h1) (left-dO (l.map Ex.sz) i) (by omega)
   have hcs:l[i].cs.length=4:=by simp
   have hle1:=hle (i+1)
   generalize l[i]=e at hg hsu hH hcs
   simp-implicitDefEqProofs[hg,hcs]
   refine hH.use ?_
   by_cases h2:e.sz-1≤left-dO (l.map Ex.sz) i
   ·have e2:bV (left-dO (l.map Ex.sz) i) (e.sz-1)=((left-dO (l.map Ex.sz) (i+1):Nat):Int):=by rw[bV,if_pos h2];omega
    have h3:¬((left-dO (l.map Ex.sz) (i+1):Nat):Int)<0:=by omega
    rw[e2]
    simp-implicitDefEqProofs[h3]
    refine⟨i+1,⟨h1,by omega⟩,by omega,aJ rfl (by simp[below,hsl,w1 (i:=i) (by simp only[BL] at hb;omega)])⟩
   ·have e2:bV (left-dO (l.map Ex.sz) i) (e.sz-1)= -1:=if_neg h2
    have e3:bV left (cS l)= -1:=if_neg (by omega)
    rw[e2,e3]
    simp-implicitDefEqProofs[]
  ·simp at h1
   have hta:=hal i h1
   have h5:bV left (cS l)=((left-dO (l.map Ex.sz) i:Nat):Int):=by rw[hta,bV,if_pos (by omega)]
   simp-implicitDefEqProofs[h5]
theorem xh(l:List Ex)(hb:l.length≤1048576)(H:∀e∈l,VF Tryz.prog G ie [.agg (e.cs.map .p)] (.agg (e.cs.map .p))):VF Tryz.prog G dG [.p (exL l)] (.p (exL l)):=by
 have hsl:∀l,exL l= .lst 4 (l.map Ex.cs):=fun _=>rfl
 have key:AC Tryz.prog G dG [.p (exL l)] [] fun x h=>x= .ret (.sl 0 4 0 l.length)∧h=[.row 4 (l.map fun e=>e.cs.map .p)]:=by
  refine AC.go ug ?_
  have hn:(l.map fun e=>e.cs.map AV.p).length=l.length:=by simp
  simp-implicitDefEqProofs[mK,hsl]
  refine⟨by omega,?_⟩
  refine aF (fun i:Nat=>aj 23 [(0,.p (exL l)),(3,.sl 0 4 0 l.length),(4,.p (.int .i64 i))]) (fun i=>[.row 4 ((l.map fun e=>e.cs.map AV.p).take i++List.replicate (l.length-i) [.p (.int .i64 0),.p (.int .i64 0),.p (.str []),.nils])]) (fun i=>i≤l.length) (fun i=>l.length-i) 0 (by simp) ?_ ?_
  ·refine dm [0] rfl (by simp) (aE (by simp) (by simp[below]) bj) ?_
   simp[below,ren,hsl]
  ·intro i hi
   simp-implicitDefEqProofs[hsl]
   refine bh (fun h1=>?_) (fun h1=>?_)
   ·simp at h1
    have hg:=List.getElem?_eq_getElem h1
    have hg2:=vD (z:=([.p (.int .i64 0),.p (.int .i64 0),.p (.str []),.nils]:List AV)) hn h1
    have hset:=qX (z:=([.p (.int .i64 0),.p (.int .i64 0),.p (.str []),.nils]:List AV)) (v:=l[i].cs.map AV.p) hn h1 (by rw[List.getElem?_map,hg];rfl)
    have hH:=H l[i] (List.getElem_mem h1)
    have hcs:=l[i].cs_eq
    have htl:(List.take i (l.map fun(e:Ex)=>e.cs.map AV.p)++List.replicate (l.length-i) ([.p (.int .i64 0),.p (.int .i64 0),.p (.str []),.nils]:List AV)).length=l.length:=by simp;omega
    generalize l[i]=e at hg hset hH hcs
    generalize hRow:(List.take i (l.map fun(e:Ex)=>e.cs.map AV.p)++List.replicate (l.length-i) ([.p (.int .i64 0),.p (.int .i64 0),.p (.str []),.nils]:List AV))=Rw at hg2 hset htl⊢
    rw[hcs] at hH hset
    simp-implicitDefEqProofs[hg,hcs]
    refine hH.use ?_
    simp-implicitDefEqProofs[hg2,h1,fW]
    simp only[List.map_cons,List.map_nil] at hset
    rw[hset]
    refine⟨i+1,h1,by omega,dm [0] rfl (by simp) (aE rfl ?_ bj) ?_⟩
    ·intro x hx
     rcases List.mem_append.1 hx with hx|hx
     ·obtain⟨y,_,rfl⟩:=List.mem_map.1 (List.mem_of_mem_take hx);simp
     ·rw[(List.mem_replicate.1 hx).2];simp[below]
    ·simp[below,ren,hsl,w1 (i:=i) (by omega)]
   ·simp at h1
    have hie:i=l.length:=by omega
    subst hie
    rw[Nat.sub_self,List.replicate_zero,List.append_nil,List.take_of_length_le (by rw[hn];exact Nat.le_refl _)]
    simp-implicitDefEqProofs[]
 refine AC.freeze key (.one ?_ .nil)
 have:=gk (h:=[.row 4 (l.map fun e=>e.cs.map .p)]) (id:=0) (sz:=4) (n:=l.length) (ls:=l.map Ex.cs) (by simp) (by simp) (fun x hx=>by obtain⟨b,_,rfl⟩:=List.mem_map.1 hx;simp)
 exact this
theorem wW(l:List Ex)(hb:l.length≤1048576)(H:∀e∈l,VF Tryz.prog G io [.agg (e.cs.map .p),.agg (e.cs.map .p)] (.p (.bool true))):VF Tryz.prog G eC [.p (exL l),.p (exL l)] (.p (.bool true)):=by
 refine AC.go uO ?_
 have hsl:∀l,exL l= .lst 4 (l.map Ex.cs):=fun _=>rfl
 simp-implicitDefEqProofs[nk,hsl]
 refine aF (fun i:Nat=>aj 27 [(0,.p (exL l)),(1,.p (exL l)),(5,.p (.int .i64 i))]) (fun _=>[]) (fun i=>i≤l.length) (fun i=>l.length-i) 0 (by simp) ?_ ?_
 ·exact aJ rfl (by simp[below,hsl])
 intro i hi
 simp-implicitDefEqProofs[hsl]
 refine bh (fun h1=>?_) (fun h1=>?_)
 ·simp at h1
  have hg:=List.getElem?_eq_getElem h1
  have hH:=H l[i] (List.getElem_mem h1)
  have hcs:l[i].cs.length=4:=by simp
  generalize l[i]=e at hg hH hcs
  simp-implicitDefEqProofs[hg,hcs]
  refine hH.use ?_
  simp-implicitDefEqProofs[]
  exact⟨i+1,h1,by omega,aJ rfl (by simp[below,hsl,w1 (i:=i) (by omega)])⟩
 ·simp at h1
  simp-implicitDefEqProofs[]
theorem xl(l:List Sm)(left:Nat)(hl:left≤1048576)(hb:l.length≤BL)(H:∀e∈l,∀left:Nat,left≤1048576→VF Tryz.prog G il [.agg (e.cs.map .p),.p (.int .i64 left)] (.p (.int .i64 (bV left (e.sz-1))))):
 VF Tryz.prog G cZ [.p (smL l),.p (.int .i64 left)] (.p (.int .i64 (bV left (aD l)))):=by
 refine AC.go ux ?_
 have hpos:∀v∈l.map Sm.sz,1≤v:=fun v hv=>by obtain⟨e,_,rfl⟩:=List.mem_map.1 hv;exact e.sz_pos
 have hz:=Am l
 have hal:=fun i (hi:l.length≤i)=>tS hpos (i:=i) (by rw[List.length_map];exact hi)
 have hle:=yh hpos
 have h00:dO (l.map Sm.sz) 0=l.length:=by rw[sA,List.length_map]
 rw[←hz] at hal hle
 have hsl:∀l,smL l= .lst 5 (l.map Sm.cs):=fun _=>rfl
 have hw:IntKind.i64.wrap ((left:Int)-l.length)=(left:Int)-l.length:=al (by simp only[BL] at hb;omega) (by omega)
 by_cases h:l.length≤left
 case neg=>
  have h1:(left:Int)-l.length<0:=by omega
  have:=hle 0
  have h2:bV left (aD l)= -1:=if_neg (by omega)
  simp-implicitDefEqProofs[jP,hsl,hw,h1,h2]
 have h1:¬(left:Int)-l.length<0:=by omega
 simp-implicitDefEqProofs[jP,hsl,hw,h1]
 refine aF (fun i:Nat=>aj 27 [(0,.p (smL l)),(1,.p (.int .i64 ((left-dO (l.map Sm.sz) i:Nat):Int))),(5,.p (.int .i64 i))]) (fun _=>[]) (fun i=>i≤l.length∧dO (l.map Sm.sz) i≤left) (fun i=>l.length-i) 0 ⟨by omega,by rw[h00];exact h⟩ ?_ ?_
 ·refine aJ rfl ?_
  simp only[h00]
  simp[below,hsl]
  omega
 ·intro i ⟨hi,hx⟩
  simp-implicitDefEqProofs[hsl]
  refine bh (fun h1=>?_) (fun h1=>?_)
  ·simp at h1
   have hg:=List.getElem?_eq_getElem h1
   have hsu:=sn (ss:=l.map Sm.sz) (i:=i) (v:=l[i].sz) (by rw[List.getElem?_map,hg];rfl)
   have hH:=H l[i] (List.getElem_mem h1) (left-dO (l.map Sm.sz) i) (by omega)
   have hcs:l[i].cs.length=5:=by simp
   have hle1:=hle (i+1)
   generalize l[i]=e at hg hsu hH hcs
   simp-implicitDefEqProofs[hg,hcs]
   refine hH.use ?_
   by_cases h2:e.sz-1≤left-dO (l.map Sm.sz) i
   ·have e2:bV (left-dO (l.map Sm.sz) i) (e.sz-1)=((left-dO (l.map Sm.sz) (i+1):Nat):Int):=by rw[bV,if_pos h2];omega
    have h3:¬((left-dO (l.map Sm.sz) (i+1):Nat):Int)<0:=by omega
    rw[e2]
    simp-implicitDefEqProofs[h3]
    refine⟨i+1,⟨h1,by omega⟩,by omega,aJ rfl (by simp[below,hsl,w1 (i:=i) (by simp only[BL] at hb;omega)])⟩
   ·have e2:bV (left-dO (l.map Sm.sz) i) (e.sz-1)= -1:=if_neg h2
    have e3:bV left (aD l)= -1:=if_neg (by omega)
    rw[e2,e3]
    simp-implicitDefEqProofs[]
  ·simp at h1
   have hta:=hal i h1
   have h5:bV left (aD l)=((left-dO (l.map Sm.sz) i:Nat):Int):=by rw[hta,bV,if_pos (by omega)]
   simp-implicitDefEqProofs[h5]
theorem sx(l:List Sm)(hb:l.length≤1048576)(H:∀e∈l,VF Tryz.prog G ia [.agg (e.cs.map .p)] (.agg (e.cs.map .p))):VF Tryz.prog G db [.p (smL l)] (.p (smL l)):=by
 have hsl:∀l,smL l= .lst 5 (l.map Sm.cs):=fun _=>rfl
 have key:AC Tryz.prog G db [.p (smL l)] [] fun x h=>x= .ret (.sl 0 5 0 l.length)∧h=[.row 5 (l.map fun e=>e.cs.map .p)]:=by
  refine AC.go uZ ?_
  have hn:(l.map fun e=>e.cs.map AV.p).length=l.length:=by simp
  simp-implicitDefEqProofs[nN,hsl]
  refine⟨by omega,?_⟩
  refine aF (fun i:Nat=>aj 23 [(0,.p (smL l)),(3,.sl 0 5 0 l.length),(4,.p (.int .i64 i))]) (fun i=>[.row 5 ((l.map fun e=>e.cs.map AV.p).take i++List.replicate (l.length-i) [.p (.int .i64 0),.p (.str []),.nils,.nils,.nils])]) (fun i=>i≤l.length) (fun i=>l.length-i) 0 (by simp) ?_ ?_
  ·refine dm [0] rfl (by simp) (aE (by simp) (by simp[below]) bj) ?_
   simp[below,ren,hsl]
  ·intro i hi
   simp-implicitDefEqProofs[hsl]
   refine bh (fun h1=>?_) (fun h1=>?_)
   ·simp at h1
    have hg:=List.getElem?_eq_getElem h1
    have hg2:=vD (z:=([.p (.int .i64 0),.p (.str []),.nils,.nils,.nils]:List AV)) hn h1
    have hset:=qX (z:=([.p (.int .i64 0),.p (.str []),.nils,.nils,.nils]:List AV)) (v:=l[i].cs.map AV.p) hn h1 (by rw[List.getElem?_map,hg];rfl)
    have hH:=H l[i] (List.getElem_mem h1)
    have hcs:=l[i].cs_eq
    have htl:(List.take i (l.map fun(e:Sm)=>e.cs.map AV.p)++List.replicate (l.length-i) ([.p (.int .i64 0),.p (.str []),.nils,.nils,.nils]:List AV)).length=l.length:=by simp;omega
    generalize l[i]=e at hg hset hH hcs
    generalize hRow:(List.take i (l.map fun(e:Sm)=>e.cs.map AV.p)++List.replicate (l.length-i) ([.p (.int .i64 0),.p (.str []),.nils,.nils,.nils]:List AV))=Rw at hg2 hset htl⊢
    rw[hcs] at hH hset
    simp-implicitDefEqProofs[hg,hcs]
    refine hH.use ?_
    simp-implicitDefEqProofs[hg2,h1,fW]
    simp only[List.map_cons,List.map_nil] at hset
    rw[hset]
    refine⟨i+1,h1,by omega,dm [0] rfl (by simp) (aE rfl ?_ bj) ?_⟩
    ·intro x hx
     rcases List.mem_append.1 hx with hx|hx
     ·obtain⟨y,_,rfl⟩:=List.mem_map.1 (List.mem_of_mem_take hx);simp
     ·rw[(List.mem_replicate.1 hx).2];simp[below]
    ·simp[below,ren,hsl,w1 (i:=i) (by omega)]
   ·simp at h1
    have hie:i=l.length:=by omega
    subst hie
    rw[Nat.sub_self,List.replicate_zero,List.append_nil,List.take_of_length_le (by rw[hn];exact Nat.le_refl _)]
    simp-implicitDefEqProofs[]
 refine AC.freeze key (.one ?_ .nil)
 have:=gk (h:=[.row 5 (l.map fun e=>e.cs.map .p)]) (id:=0) (sz:=5) (n:=l.length) (ls:=l.map Sm.cs) (by simp) (by simp) (fun x hx=>by obtain⟨b,_,rfl⟩:=List.mem_map.1 hx;simp)
 exact this
theorem sw(l:List Sm)(hb:l.length≤1048576)(H:∀e∈l,VF Tryz.prog G ig [.agg (e.cs.map .p),.agg (e.cs.map .p)] (.p (.bool true))):VF Tryz.prog G dK [.p (smL l),.p (smL l)] (.p (.bool true)):=by
 refine AC.go uF ?_
 have hsl:∀l,smL l= .lst 5 (l.map Sm.cs):=fun _=>rfl
 simp-implicitDefEqProofs[mI,hsl]
 refine aF (fun i:Nat=>aj 27 [(0,.p (smL l)),(1,.p (smL l)),(5,.p (.int .i64 i))]) (fun _=>[]) (fun i=>i≤l.length) (fun i=>l.length-i) 0 (by simp) ?_ ?_
 ·exact aJ rfl (by simp[below,hsl])
 intro i hi
 simp-implicitDefEqProofs[hsl]
 refine bh (fun h1=>?_) (fun h1=>?_)
 ·simp at h1
  have hg:=List.getElem?_eq_getElem h1
  have hH:=H l[i] (List.getElem_mem h1)
  have hcs:l[i].cs.length=5:=by simp
  generalize l[i]=e at hg hH hcs
  simp-implicitDefEqProofs[hg,hcs]
  refine hH.use ?_
  simp-implicitDefEqProofs[]
  exact⟨i+1,h1,by omega,aJ rfl (by simp[below,hsl,w1 (i:=i) (by omega)])⟩
 ·simp at h1
  simp-implicitDefEqProofs[]
theorem Ih(l:List Fd)(left:Nat)(hl:left≤1048576)(hb:l.length≤BL)(H:∀e∈l,∀left:Nat,left≤1048576→VF Tryz.prog G kb [.agg (e.cs.map .p),.p (.int .i64 left)] (.p (.int .i64 (bV left (e.sz-1))))):
 VF Tryz.prog G lP [.p (fdL l),.p (.int .i64 left)] (.p (.int .i64 (bV left (bn l)))):=by
 refine AC.go yq ?_
 have hpos:∀v∈l.map Fd.sz,1≤v:=fun v hv=>by obtain⟨e,_,rfl⟩:=List.mem_map.1 hv;exact e.sz_pos
 have hz:=Fx l
 have hal:=fun i (hi:l.length≤i)=>tS hpos (i:=i) (by rw[List.length_map];exact hi)
 have hle:=yh hpos
 have h00:dO (l.map Fd.sz) 0=l.length:=by rw[sA,List.length_map]
 rw[←hz] at hal hle
 have hsl:∀l,fdL l= .lst 3 (l.map Fd.cs):=fun _=>rfl
 have hw:IntKind.i64.wrap ((left:Int)-l.length)=(left:Int)-l.length:=al (by simp only[BL] at hb;omega) (by omega)
 by_cases h:l.length≤left
 case neg=>
  have h1:(left:Int)-l.length<0:=by omega
  have:=hle 0
  have h2:bV left (bn l)= -1:=if_neg (by omega)
  simp-implicitDefEqProofs[lT,hsl,hw,h1,h2]
 have h1:¬(left:Int)-l.length<0:=by omega
 simp-implicitDefEqProofs[lT,hsl,hw,h1]
 refine aF (fun i:Nat=>aj 27 [(0,.p (fdL l)),(1,.p (.int .i64 ((left-dO (l.map Fd.sz) i:Nat):Int))),(5,.p (.int .i64 i))]) (fun _=>[]) (fun i=>i≤l.length∧dO (l.map Fd.sz) i≤left) (fun i=>l.length-i) 0 ⟨by omega,by rw[h00];exact h⟩ ?_ ?_
 ·refine aJ rfl ?_
  simp only[h00]
  simp[below,hsl]
  omega
 ·intro i ⟨hi,hx⟩
  simp-implicitDefEqProofs[hsl]
  refine bh (fun h1=>?_) (fun h1=>?_)
  ·simp at h1
   have hg:=List.getElem?_eq_getElem h1
   have hsu:=sn (ss:=l.map Fd.sz) (i:=i) (v:=l[i].sz) (by rw[List.getElem?_map,hg];rfl)
   have hH:=H l[i] (List.getElem_mem h1) (left-dO (l.map Fd.sz) i) (by omega)
   have hcs:l[i].cs.length=3:=by simp
   have hle1:=hle (i+1)
   generalize l[i]=e at hg hsu hH hcs
   simp-implicitDefEqProofs[hg,hcs]
   refine hH.use ?_
   by_cases h2:e.sz-1≤left-dO (l.map Fd.sz) i
   ·have e2:bV (left-dO (l.map Fd.sz) i) (e.sz-1)=((left-dO (l.map Fd.sz) (i+1):Nat):Int):=by rw[bV,if_pos h2];omega
    have h3:¬((left-dO (l.map Fd.sz) (i+1):Nat):Int)<0:=by omega
    rw[e2]
    simp-implicitDefEqProofs[h3]
    refine⟨i+1,⟨h1,by omega⟩,by omega,aJ rfl (by simp[below,hsl,w1 (i:=i) (by simp only[BL] at hb;omega)])⟩
   ·have e2:bV (left-dO (l.map Fd.sz) i) (e.sz-1)= -1:=if_neg h2
    have e3:bV left (bn l)= -1:=if_neg (by omega)
    rw[e2,e3]
    simp-implicitDefEqProofs[]
  ·simp at h1
   have hta:=hal i h1
   have h5:bV left (bn l)=((left-dO (l.map Fd.sz) i:Nat):Int):=by rw[hta,bV,if_pos (by omega)]
   simp-implicitDefEqProofs[h5]
theorem If(l:List Fd)(hb:l.length≤1048576)(H:∀e∈l,VF Tryz.prog G kf [.agg (e.cs.map .p)] (.agg (e.cs.map .p))):VF Tryz.prog G iZ [.p (fdL l)] (.p (fdL l)):=by
 have hsl:∀l,fdL l= .lst 3 (l.map Fd.cs):=fun _=>rfl
 have key:AC Tryz.prog G iZ [.p (fdL l)] [] fun x h=>x= .ret (.sl 0 3 0 l.length)∧h=[.row 3 (l.map fun e=>e.cs.map .p)]:=by
  refine AC.go xM ?_
  have hn:(l.map fun e=>e.cs.map AV.p).length=l.length:=by simp
  simp-implicitDefEqProofs[rj,hsl]
  refine⟨by omega,?_⟩
  refine aF (fun i:Nat=>aj 23 [(0,.p (fdL l)),(3,.sl 0 3 0 l.length),(4,.p (.int .i64 i))]) (fun i=>[.row 3 ((l.map fun e=>e.cs.map AV.p).take i++List.replicate (l.length-i) [.p (.str []),.nils,.nils])]) (fun i=>i≤l.length) (fun i=>l.length-i) 0 (by simp) ?_ ?_
  ·refine dm [0] rfl (by simp) (aE (by simp) (by simp[below]) bj) ?_
   simp[below,ren,hsl]
  ·intro i hi
   simp-implicitDefEqProofs[hsl]
   refine bh (fun h1=>?_) (fun h1=>?_)
   ·simp at h1
    have hg:=List.getElem?_eq_getElem h1
    have hg2:=vD (z:=([.p (.str []),.nils,.nils]:List AV)) hn h1
    have hset:=qX (z:=([.p (.str []),.nils,.nils]:List AV)) (v:=l[i].cs.map AV.p) hn h1 (by rw[List.getElem?_map,hg];rfl)
    have hH:=H l[i] (List.getElem_mem h1)
    have hcs:=l[i].cs_eq'
    have htl:(List.take i (l.map fun(e:Fd)=>e.cs.map AV.p)++List.replicate (l.length-i) ([.p (.str []),.nils,.nils]:List AV)).length=l.length:=by simp;omega
    generalize l[i]=e at hg hset hH hcs
    generalize hRow:(List.take i (l.map fun(e:Fd)=>e.cs.map AV.p)++List.replicate (l.length-i) ([.p (.str []),.nils,.nils]:List AV))=Rw at hg2 hset htl⊢
    rw[hcs] at hH hset
    simp-implicitDefEqProofs[hg,hcs]
    refine hH.use ?_
    simp-implicitDefEqProofs[hg2,h1,fW]
    simp only[List.map_cons,List.map_nil] at hset
    rw[hset]
    refine⟨i+1,h1,by omega,dm [0] rfl (by simp) (aE rfl ?_ bj) ?_⟩
    ·intro x hx
     rcases List.mem_append.1 hx with hx|hx
     ·obtain⟨y,_,rfl⟩:=List.mem_map.1 (List.mem_of_mem_take hx);simp
     ·rw[(List.mem_replicate.1 hx).2];simp[below]
    ·simp[below,ren,hsl,w1 (i:=i) (by omega)]
   ·simp at h1
    have hie:i=l.length:=by omega
    subst hie
    rw[Nat.sub_self,List.replicate_zero,List.append_nil,List.take_of_length_le (by rw[hn];exact Nat.le_refl _)]
    simp-implicitDefEqProofs[]
 refine AC.freeze key (.one ?_ .nil)
 have:=gk (h:=[.row 3 (l.map fun e=>e.cs.map .p)]) (id:=0) (sz:=3) (n:=l.length) (ls:=l.map Fd.cs) (by simp) (by simp) (fun x hx=>by obtain⟨b,_,rfl⟩:=List.mem_map.1 hx;simp)
 exact this
theorem Id(l:List Fd)(hb:l.length≤1048576)(H:∀e∈l,VF Tryz.prog G jW [.agg (e.cs.map .p),.agg (e.cs.map .p)] (.p (.bool true))):VF Tryz.prog G lV [.p (fdL l),.p (fdL l)] (.p (.bool true)):=by
 refine AC.go yb ?_
 have hsl:∀l,fdL l= .lst 3 (l.map Fd.cs):=fun _=>rfl
 simp-implicitDefEqProofs[re,hsl]
 refine aF (fun i:Nat=>aj 27 [(0,.p (fdL l)),(1,.p (fdL l)),(5,.p (.int .i64 i))]) (fun _=>[]) (fun i=>i≤l.length) (fun i=>l.length-i) 0 (by simp) ?_ ?_
 ·exact aJ rfl (by simp[below,hsl])
 intro i hi
 simp-implicitDefEqProofs[hsl]
 refine bh (fun h1=>?_) (fun h1=>?_)
 ·simp at h1
  have hg:=List.getElem?_eq_getElem h1
  have hH:=H l[i] (List.getElem_mem h1)
  have hcs:l[i].cs.length=3:=by simp
  generalize l[i]=e at hg hH hcs
  simp-implicitDefEqProofs[hg,hcs]
  refine hH.use ?_
  simp-implicitDefEqProofs[]
  exact⟨i+1,h1,by omega,aJ rfl (by simp[below,hsl,w1 (i:=i) (by omega)])⟩
 ·simp at h1
  simp-implicitDefEqProofs[]
end Go.Proofs.YtaopbokndkdieaaGreatDoor
namespace Go.Proofs.YtaopbokndkdieaaGreatDoor
open Go Go.Aw
set_option maxRecDepth 100000
set_option maxHeartbeats 4000000
variable (G:aI)
theorem bO{left z:Nat}(h:¬z≤left):bV left z= -1:=if_neg h
theorem ec{left z:Nat}(h:z≤left):bV left z=((left-z:Nat):Int):=if_pos h
theorem Fv:∀(N:Nat) (e:Ex),e.sz≤N→e.fit→∀left:Nat,left≤1048576→VF Tryz.prog G hZ [.agg (e.cs.map .p),.p (.int .i64 left)] (.p (.int .i64 (bV left (e.sz-1)))):=by
 intro N
 induction N with
 |zero=>intro e he;have:=e.sz_pos;omega
 |succ N ih=>
  intro e he hf left hl
  have hec:=e.cs_eq
  have hsz:=e.sz_eq
  rw[e.fit_eq] at hf
  obtain⟨f1,f2,f3⟩:=hf
  refine AC.go wh ?_
  have hw:IntKind.i64.wrap ((left:Int)-e.name.length)=(left:Int)-e.name.length:=al (by simp only[BL] at f1;omega) (by omega)
  by_cases h1:e.name.length≤left
  case neg=>
   have h2:(left:Int)-e.name.length<0:=by omega
   rw[bO (by omega)]
   simp-implicitDefEqProofs[kB,hec,hw,h2]
  have h2:¬(left:Int)-e.name.length<0:=by omega
  have e2:(left:Int)-e.name.length=((left-e.name.length:Nat):Int):=by omega
  have hS:=xe G e.kids (left-e.name.length) (by omega) f2 (fun x hx l hl=>ih x (by have:=az hx;omega) (qj f3 hx) l hl)
  rw[e2] at h2
  replace hw:=hw.trans e2
  simp-implicitDefEqProofs[kB,hec,hw,h2]
  refine hS.use ?_
  by_cases h3:cS e.kids≤left-e.name.length
  ·have n3:¬((left-e.name.length-cS e.kids:Nat):Int)<0:=by omega
   rw[ec h3,ec (by omega)]
   simp-implicitDefEqProofs[n3]
   omega
  ·rw[bO h3,bO (by omega)]
   simp-implicitDefEqProofs[]
theorem Eh(l:List Ex)(hf:lS l)(hb:l.length≤BL)(left:Nat)(hl:left≤1048576):VF Tryz.prog G eA [.p (exL l),.p (.int .i64 left)] (.p (.int .i64 (bV left (cS l)))):=
 xe G l left hl hb (fun e he l hl=>Fv G e.sz e (Nat.le_refl _) (qj hf he) l hl)
theorem Fl:∀(N:Nat) (s:Sm),s.sz≤N→s.fit→∀left:Nat,left≤1048576→VF Tryz.prog G il [.agg (s.cs.map .p),.p (.int .i64 left)] (.p (.int .i64 (bV left (s.sz-1)))):=by
 intro N
 induction N with
 |zero=>intro e he;have:=e.sz_pos;omega
 |succ N ih=>
  intro e he hf left hl
  have hec:=e.cs_eq
  have hsz:=e.sz_eq
  rw[e.fit_eq] at hf
  obtain⟨f1,⟨f2,f3⟩,⟨f4,f5⟩,f6,f7⟩:=hf
  have sub:∀l:List Sm,aD l≤N→jn l→l.length≤BL→∀left:Nat,left≤1048576→VF Tryz.prog G cZ [.p (smL l),.p (.int .i64 left)] (.p (.int .i64 (bV left (aD l)))):=fun l hz hf hb left hl=>
   xl G l left hl hb (fun x hx l hl=>ih x (by have:=aL hx;omega) (pZ hf hx) l hl)
  refine AC.go wv ?_
  have hw:IntKind.i64.wrap ((left:Int)-e.name.length)=(left:Int)-e.name.length:=al (by simp only[BL] at f1;omega) (by omega)
  by_cases h1:e.name.length≤left
  case neg=>
   have h2:(left:Int)-e.name.length<0:=by omega
   rw[bO (by omega)]
   simp-implicitDefEqProofs[kG,hec,hw,h2]
  have h2:¬(left:Int)-e.name.length<0:=by omega
  have e2:(left:Int)-e.name.length=((left-e.name.length:Nat):Int):=by omega
  rw[e2] at h2
  replace hw:=hw.trans e2
  simp-implicitDefEqProofs[kG,hec,hw,h2]
  refine(Eh G e.args f3 f2 (left-e.name.length) (by omega)).use ?_
  by_cases h3:cS e.args≤left-e.name.length
  case neg=>
   rw[bO h3,bO (by omega)]
   simp-implicitDefEqProofs[]
  have n3:¬((left-e.name.length-cS e.args:Nat):Int)<0:=by omega
  rw[ec h3]
  simp-implicitDefEqProofs[n3]
  refine(sub e.body (by omega) f5 f4 (left-e.name.length-cS e.args) (by omega)).use ?_
  by_cases h4:aD e.body≤left-e.name.length-cS e.args
  case neg=>
   rw[bO h4,bO (by omega)]
   simp-implicitDefEqProofs[]
  have n4:¬((left-e.name.length-cS e.args-aD e.body:Nat):Int)<0:=by omega
  rw[ec h4]
  simp-implicitDefEqProofs[n4]
  refine(sub e.els (by omega) f7 f6 (left-e.name.length-cS e.args-aD e.body) (by omega)).use ?_
  by_cases h5:aD e.els≤left-e.name.length-cS e.args-aD e.body
  case neg=>
   rw[bO h5,bO (by omega)]
   simp-implicitDefEqProofs[]
  have n5:¬((left-e.name.length-cS e.args-aD e.body-aD e.els:Nat):Int)<0:=by omega
  rw[ec h5,ec (by omega)]
  simp-implicitDefEqProofs[n5]
  omega
theorem DQ(l:List Sm)(hf:jn l)(hb:l.length≤BL)(left:Nat)(hl:left≤1048576):VF Tryz.prog G cZ [.p (smL l),.p (.int .i64 left)] (.p (.int .i64 (bV left (aD l)))):=
 xl G l left hl hb (fun e he l hl=>Fl G e.sz e (Nat.le_refl _) (pZ hf he) l hl)
def mB(xs:List (List UInt8))(i:Nat):Nat:=((xs.take i).map List.length).sum
theorem EC{xs:List (List UInt8)}{i:Nat}(h:i<xs.length):mB xs (i+1)=mB xs i+xs[i].length:=by
 show((xs.take (i+1)).map List.length).sum=((xs.take i).map List.length).sum+xs[i].length
 rw[ah h,List.map_append,List.sum_append]
 rfl
theorem ER{xs:List (List UInt8)}{i:Nat}(h:xs.length≤i):mB xs i=(xs.map List.length).sum:=by rw[mB,List.take_of_length_le h]
theorem Im{xs:List (List UInt8)}{i:Nat}:mB xs i≤(xs.map List.length).sum:=by
 conv=>rhs;rw[←List.take_append_drop i xs,List.map_append,List.sum_append]
 simp[mB]
def szW(xs:List (List UInt8)):Nat:=xs.length+(xs.map List.length).sum
theorem zr(xs:List (List UInt8))(left:Nat)(hl:left≤1048576)(hb:xs.length≤9223372036854775807)(hs:∀x∈xs,x.length≤9223372036854775807):VF Tryz.prog G gS [.p (aN xs),.p (.int .i64 left)] (.p (.int .i64 (if szW xs≤left then((left-szW xs:Nat):Int) else-1))):=by
 refine AC.go sh ?_
 have hw:IntKind.i64.wrap ((left:Int)-xs.length)=(left:Int)-xs.length:=al (by omega) (by omega)
 have hsz:szW xs=xs.length+(xs.map List.length).sum:=rfl
 by_cases h:xs.length≤left
 case neg=>
  have h1:(left:Int)-xs.length<0:=by omega
  have h2:¬szW xs≤left:=by omega
  simp-implicitDefEqProofs[gM,aN,hw,h1,h2]
 have h1:¬(left:Int)-xs.length<0:=by omega
 simp-implicitDefEqProofs[gM,aN,hw,h1]
 refine aF (fun i:Nat=>aj 28 [(0,.p (aN xs)),(1,.p (.int .i64 ((left-xs.length-mB xs i:Nat):Int))),(5,.p (.int .i64 i))]) (fun _=>[]) (fun i=>i≤xs.length∧xs.length+mB xs i≤left) (fun i=>xs.length-i) 0 (by simp[mB];omega) ?_ ?_
 ·refine aJ rfl ?_
  simp[below,aN,mB]
  omega
 ·intro i ⟨hi,hx⟩
  simp-implicitDefEqProofs[aN]
  refine bh (fun h1=>?_) (fun h1=>?_)
  ·simp at h1
   have hg:=List.getElem?_eq_getElem h1
   have hle:=hs _ (List.getElem_mem h1)
   have hsu:=EC h1
   have hsl:=Im (xs:=xs) (i:=i+1)
   have hw2:IntKind.i64.wrap (((left-xs.length-mB xs i:Nat):Int)-(xs[i].length:Int))=((left-xs.length-mB xs i:Nat):Int)-(xs[i].length:Int):=al (by omega) (by omega)
   by_cases h2:xs.length+mB xs (i+1)≤left
   ·have h3:¬((left-xs.length-mB xs i:Nat):Int)-(xs[i].length:Int)<0:=by omega
    have h4:((left-xs.length-mB xs i:Nat):Int)-(xs[i].length:Int)=((left-xs.length-mB xs (i+1):Nat):Int):=by omega
    rw[h4] at h3
    replace hw2:=hw2.trans h4
    clear hle hsu hsl
    simp-implicitDefEqProofs[hg,hw2,h3]
    refine⟨i+1,⟨h1,h2⟩,by omega,aJ rfl (by simp[below,aN,w1 (i:=i) (by omega)])⟩
   ·have h3:((left-xs.length-mB xs i:Nat):Int)-(xs[i].length:Int)<0:=by omega
    have h5:¬szW xs≤left:=by omega
    clear hle hsu hsl
    simp-implicitDefEqProofs[hg,hw2,h3,h5]
  ·simp at h1
   have hta:=ER (xs:=xs) h1
   have h5:szW xs≤left:=by omega
   have h6:((left-xs.length-mB xs i:Nat):Int)=((left-szW xs:Nat):Int):=by omega
   simp-implicitDefEqProofs[h5,h6]
theorem Ke(f:Fd)(hf:f.fit)(left:Nat)(hl:left≤1048576):VF Tryz.prog G kb [.agg (f.cs.map .p),.p (.int .i64 left)] (.p (.int .i64 (bV left (f.sz-1)))):=by
 obtain⟨f1,⟨f2,f3⟩,f4,f5⟩:=hf
 have hec:=f.cs_eq'
 have hsz:f.sz=1+f.name.length+szW f.params+aD f.body:=rfl
 refine AC.go zl ?_
 have hw:IntKind.i64.wrap ((left:Int)-f.name.length)=(left:Int)-f.name.length:=al (by simp only[BL] at f1;omega) (by omega)
 by_cases h1:f.name.length≤left
 case neg=>
  have h2:(left:Int)-f.name.length<0:=by omega
  rw[bO (by omega)]
  simp-implicitDefEqProofs[mU,hec,hw,h2]
 have h2:¬(left:Int)-f.name.length<0:=by omega
 have e2:(left:Int)-f.name.length=((left-f.name.length:Nat):Int):=by omega
 rw[e2] at h2
 replace hw:=hw.trans e2
 simp-implicitDefEqProofs[mU,hec,hw,h2]
 refine(zr G f.params (left-f.name.length) (by omega) f2 f3).use ?_
 by_cases h3:szW f.params≤left-f.name.length
 case neg=>
  rw[if_neg h3,bO (by omega)]
  simp-implicitDefEqProofs[]
 have n3:¬((left-f.name.length-szW f.params:Nat):Int)<0:=by omega
 rw[if_pos h3]
 simp-implicitDefEqProofs[n3]
 refine(DQ G f.body f5 f4 (left-f.name.length-szW f.params) (by omega)).use ?_
 by_cases h4:aD f.body≤left-f.name.length-szW f.params
 case neg=>
  rw[bO h4,bO (by omega)]
  simp-implicitDefEqProofs[]
 have n4:¬((left-f.name.length-szW f.params-aD f.body:Nat):Int)<0:=by omega
 rw[ec h4,ec (by omega)]
 simp-implicitDefEqProofs[n4]
 omega
def JW(l:List Fd):Prop:=l.length≤BL∧∀f∈l,f.fit
theorem zD(l:List Fd)(hf:JW l)(left:Nat)(hl:left≤1048576):VF Tryz.prog G eJ [.agg [.p (fdL l)],.p (.int .i64 left)] (.p (.int .i64 (bV left (bn l)))):=by
 have hS:=Ih G l left hl hf.1 (fun f hm left hl=>Ke G f (hf.2 f hm) left hl)
 refine AC.go sb ?_
 simp-implicitDefEqProofs[kZ]
 refine hS.use ?_
 by_cases h:bn l≤left
 ·have n:¬((left-bn l:Nat):Int)<0:=by omega
  rw[ec h]
  simp-implicitDefEqProofs[n]
 ·rw[bO h]
  simp-implicitDefEqProofs[]
theorem Gx:∀(N:Nat) (e:Ex),e.sz≤N→e.sz≤1048576→VF Tryz.prog G ie [.agg (e.cs.map .p)] (.agg (e.cs.map .p)):=by
 intro N
 induction N with
 |zero=>intro e he;have:=e.sz_pos;omega
 |succ N ih=>
  intro e he hb
  have hec:=e.cs_eq
  have hsz:=e.sz_eq
  have hkl:=aM e.kids
  have hS:=xh G e.kids (by omega) (fun x hx=>ih x (by have:=az hx;omega) (by have:=az hx;omega))
  refine AC.go wo ?_
  simp-implicitDefEqProofs[pr,hec]
  refine hS.use ?_
  simp-implicitDefEqProofs[]
theorem DN(l:List Ex)(hb:cS l≤1048576):VF Tryz.prog G dG [.p (exL l)] (.p (exL l)):=
 xh G l (by have:=aM l;omega) (fun e he=>Gx G e.sz e (Nat.le_refl _) (by have:=az he;omega))
theorem EQ:∀(N:Nat) (e:Sm),e.sz≤N→e.sz≤1048576→VF Tryz.prog G ia [.agg (e.cs.map .p)] (.agg (e.cs.map .p)):=by
 intro N
 induction N with
 |zero=>intro e he;have:=e.sz_pos;omega
 |succ N ih=>
  intro e he hb
  have hec:=e.cs_eq
  have hsz:=e.sz_eq
  have h1:=aR e.body
  have h2:=aR e.els
  have hB:=sx G e.body (by omega) (fun x hx=>ih x (by have:=aL hx;omega) (by have:=aL hx;omega))
  have hE:=sx G e.els (by omega) (fun x hx=>ih x (by have:=aL hx;omega) (by have:=aL hx;omega))
  refine AC.go wd ?_
  simp-implicitDefEqProofs[pB,hec]
  refine(DN G e.args (by omega)).use ?_
  simp-implicitDefEqProofs[]
  refine hB.use ?_
  simp-implicitDefEqProofs[]
  refine hE.use ?_
  simp-implicitDefEqProofs[]
theorem Do(l:List Sm)(hb:aD l≤1048576):VF Tryz.prog G db [.p (smL l)] (.p (smL l)):=
 sx G l (by have:=aR l;omega) (fun e he=>EQ G e.sz e (Nat.le_refl _) (by have:=aL he;omega))
def lf(l:List (List UInt8))(i:Nat):List (List UInt8):=l.take i++List.replicate (l.length-i) []
theorem Dl{l:List (List UInt8)}{i:Nat}(h:i<l.length):(lf l i).set i l[i]=lf l (i+1):=by
 have hl:(l.take i).length=i:=by simp;omega
 have e:l.length-i=(l.length-(i+1))+1:=by omega
 show(l.take i++List.replicate (l.length-i) []).set i l[i]=l.take (i+1)++List.replicate (l.length-(i+1)) []
 rw[List.set_append_right _ _ (by omega),hl,Nat.sub_self,e,List.replicate_succ,List.set_cons_zero,ah h,List.append_assoc]
 rfl
theorem DW{l:List (List UInt8)}{i:Nat}(h:i<l.length):(lf l i)[i]?=some []:=by
 have hl:(l.take i).length=i:=by simp;omega
 rw[lf,List.getElem?_append_right (by omega),hl,Nat.sub_self,List.getElem?_replicate,if_pos (by omega)]
theorem Ei{l:List (List UInt8)}{i:Nat}(h:i≤l.length):(lf l i).length=l.length:=by simp[lf];omega
theorem zT(l:List (List UInt8))(hb:l.length≤1048576):AC Tryz.prog G eI [.p (aN l)] [] fun x h=>x= .ret (.sl 0 1 0 l.length)∧h=[xQ l]:=by
 refine AC.go rW ?_
 have hbl:aN l= .lst 1 (l.map fun n=>[.str n]):=rfl
 simp-implicitDefEqProofs[lF,hbl]
 refine⟨by omega,?_⟩
 refine aF (fun i:Nat=>aj 22 [(0,.p (aN l)),(3,.sl 0 1 0 l.length),(4,.p (.int .i64 i))]) (fun i=>[xQ (lf l i)]) (fun i=>i≤l.length) (fun i=>l.length-i) 0 (by simp) ?_ ?_
 ·refine dm [0] rfl (by simp) (aE (by simp[lf]) (by simp) bj) ?_
  simp[below,ren,aN]
 ·intro i hi
  have hlen:=Ei hi
  simp-implicitDefEqProofs[hbl]
  refine bh (fun h1=>?_) (fun h1=>?_)
  ·simp at h1
   have hg:=List.getElem?_eq_getElem h1
   have hg2:=DW h1
   have hset:((lf l i).map fun n=>[AV.p (.str n)]).set i [.p (.str l[i])]=(lf l (i+1)).map fun n=>[AV.p (.str n)]:=by rw[←Dl h1,List.map_set]
   have hbo:xQ (lf l i)= .row 1 ((lf l i).map fun n=>[.p (.str n)]):=rfl
   clear hlen
   simp-implicitDefEqProofs[hg,hbo,hg2,h1,hset]
   refine⟨i+1,h1,by omega,dm [0] rfl (by simp) (aE rfl (by simp) bj) ?_⟩
   simp[below,ren,aN,w1 (i:=i) (by omega)]
  ·simp at h1
   have:i=l.length:=by omega
   subst this
   simp-implicitDefEqProofs[lf]
theorem Ao(l:List (List UInt8))(hb:l.length≤1048576):VF Tryz.prog G eI [.p (aN l)] (.p (aN l)):=AC.freeze (zT G l hb) (.one (kY rfl) .nil)
theorem KC(f:Fd)(hb:f.sz≤1048576):VF Tryz.prog G kf [.agg (f.cs.map .p)] (.agg (f.cs.map .p)):=by
 have hec:=f.cs_eq'
 have hsz:f.sz=1+f.name.length+szW f.params+aD f.body:=rfl
 have hw:szW f.params=f.params.length+(f.params.map List.length).sum:=rfl
 refine AC.go zb ?_
 simp-implicitDefEqProofs[sT,hec]
 refine(Ao G f.params (by omega)).use ?_
 simp-implicitDefEqProofs[]
 refine(Do G f.body (by omega)).use ?_
 simp-implicitDefEqProofs[]
theorem Ad(l:List Fd)(hb:bn l≤1048576):VF Tryz.prog G dN [.agg [.p (fdL l)]] (.agg [.p (fdL l)]):=by
 have hS:=If G l (by have:=bL l;omega) (fun f hm=>KC G f (by have:=bS hm;omega))
 refine AC.go sa ?_
 simp-implicitDefEqProofs[kX]
 refine hS.use ?_
 simp-implicitDefEqProofs[]
theorem GJ:∀(N:Nat) (e:Ex),e.sz≤N→e.sz≤1048576→VF Tryz.prog G io [.agg (e.cs.map .p),.agg (e.cs.map .p)] (.p (.bool true)):=by
 intro N
 induction N with
 |zero=>intro e he;have:=e.sz_pos;omega
 |succ N ih=>
  intro e he hb
  have hec:=e.cs_eq
  have hsz:=e.sz_eq
  have hkl:=aM e.kids
  have hS:=wW G e.kids (by omega) (fun x hx=>ih x (by have:=az hx;omega) (by have:=az hx;omega))
  refine AC.go wL ?_
  simp-implicitDefEqProofs[px,hec]
  refine hS.use ?_
  simp-implicitDefEqProofs[]
theorem DR(l:List Ex)(hb:cS l≤1048576):VF Tryz.prog G eC [.p (exL l),.p (exL l)] (.p (.bool true)):=
 wW G l (by have:=aM l;omega) (fun e he=>GJ G e.sz e (Nat.le_refl _) (by have:=az he;omega))
theorem Hy:∀(N:Nat) (e:Sm),e.sz≤N→e.sz≤1048576→VF Tryz.prog G ig [.agg (e.cs.map .p),.agg (e.cs.map .p)] (.p (.bool true)):=by
 intro N
 induction N with
 |zero=>intro e he;have:=e.sz_pos;omega
 |succ N ih=>
  intro e he hb
  have hec:=e.cs_eq
  have hsz:=e.sz_eq
  have h1:=aR e.body
  have h2:=aR e.els
  have hB:=sw G e.body (by omega) (fun x hx=>ih x (by have:=aL hx;omega) (by have:=aL hx;omega))
  have hE:=sw G e.els (by omega) (fun x hx=>ih x (by have:=aL hx;omega) (by have:=aL hx;omega))
  refine AC.go wF ?_
  simp-implicitDefEqProofs[po,hec]
  refine(DR G e.args (by omega)).use ?_
  simp-implicitDefEqProofs[]
  refine hB.use ?_
  simp-implicitDefEqProofs[]
  refine hE.use ?_
  simp-implicitDefEqProofs[]
theorem DX(l:List Sm)(hb:aD l≤1048576):VF Tryz.prog G dK [.p (smL l),.p (smL l)] (.p (.bool true)):=
 sw G l (by have:=aR l;omega) (fun e he=>Hy G e.sz e (Nat.le_refl _) (by have:=aL he;omega))
theorem zg(xs:List (List UInt8))(hb:xs.length≤1048576):VF Tryz.prog G gH [.p (aN xs),.p (aN xs)] (.p (.bool true)):=by
 refine AC.go rY ?_
 have hsl:aN xs= .lst 1 (xs.map fun w=>[.str w]):=rfl
 simp-implicitDefEqProofs[lb,hsl]
 refine aF (fun i:Nat=>aj 26 [(0,.p (aN xs)),(1,.p (aN xs)),(5,.p (.int .i64 i))]) (fun _=>[]) (fun i=>i≤xs.length) (fun i=>xs.length-i) 0 (by simp) (aJ rfl (by simp[below,hsl])) ?_
 intro i hi
 simp-implicitDefEqProofs[hsl]
 refine bh (fun h1=>?_) (fun h1=>?_)
 ·simp at h1
  have hx:=List.getElem?_eq_getElem h1
  generalize xs[i]=v at hx
  simp-implicitDefEqProofs[hx]
  exact⟨i+1,h1,by omega,aJ rfl (by simp[below,hsl,w1 (i:=i) (by omega)])⟩
 ·simp at h1
  simp-implicitDefEqProofs[]
theorem Ki(f:Fd)(hb:f.sz≤1048576):VF Tryz.prog G jW [.agg (f.cs.map .p),.agg (f.cs.map .p)] (.p (.bool true)):=by
 have hec:=f.cs_eq'
 have hsz:f.sz=1+f.name.length+szW f.params+aD f.body:=rfl
 have hw:szW f.params=f.params.length+(f.params.map List.length).sum:=rfl
 refine AC.go Ah ?_
 simp-implicitDefEqProofs[sQ,hec]
 refine(zg G f.params (by omega)).use ?_
 simp-implicitDefEqProofs[]
 refine(DX G f.body (by omega)).use ?_
 simp-implicitDefEqProofs[]
theorem zh(l:List Fd)(hb:bn l≤1048576):VF Tryz.prog G gO [.agg [.p (fdL l)],.agg [.p (fdL l)]] (.p (.bool true)):=by
 have hS:=Id G l (by have:=bL l;omega) (fun f hm=>Ki G f (by have:=bS hm;omega))
 refine AC.go sf ?_
 simp-implicitDefEqProofs[lD]
 refine hS.use ?_
 simp-implicitDefEqProofs[]
end Go.Proofs.YtaopbokndkdieaaGreatDoor
