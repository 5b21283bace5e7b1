/-
  Contracts and lemmas that the card needs, part 5.
-/
import Derived.Test.YtdfplkcigiblcaaGreatFp4
import Derived.Laws.RangeAny
import Derived.Laws.RangeString
namespace Go.Proofs.YtdfplkcigiblcaaGreat
open Go Go.Aw
set_option maxRecDepth 100000
set_option maxHeartbeats 4000000
section
theorem ay{α:Type}{xs:List α}{i:Nat}(h:i<xs.length):xs.take (i+1)=xs.take i++[xs[i]]:=by
 rw[List.take_add_one,List.getElem?_eq_getElem h];rfl
def mt(l:List Int):PV:= .lst 1 (l.map λn=>[.int .u8 n])
def aC(l:List Int):PV:= .lst 1 (l.map λn=>[.int .i64 n])
def Be(l:List Int):AO:= .row 1 (l.map λn=>[.p (.int .i64 n)])
def bO(l:List (List UInt8)):PV:= .lst 1 (l.map λw=>[.str w])
def NR(l:List (List UInt8)):List (List AV):=l.map λw=>[.p (.str w)]
def mm(l:List (List UInt8)):AO:= .row 1 (l.map λn=>[.p (.str n)])
theorem vN(l:List (List UInt8)):∀x∈NR l,aA 0 x:=by
 intro x hx;obtain⟨m,_,rfl⟩:=List.mem_map.1 hx;simp[aA,below]
theorem lZ{l:List (List UInt8)}{id:Nat}{h:List AO}(e:h[id]?=some (mm l)):View h (.sl id 1 0 l.length) (bO l):=by
 have:=eb (h:=h) (id:=id) (sz:=1) (n:=l.length) (ls:=l.map λn=>[.str n]) (by rw[e,mm];simp) (by simp) (λx hx=>by obtain⟨b,_,rfl⟩:=List.mem_map.1 hx;rfl)
 exact this
end
section
def mI(c:UInt8):Bool:=decide (97<=c.toNat)&&decide (c.toNat<=122)
def keyW:List (List UInt8):=[[102,110],[108,101,116],[115,97,121],[112,117,116],[105,102],[101,108,115,101],[108,111,111,112],[98,97,99,107],[100,111]]
def cu(s:List UInt8):Bool:=s.all mI&&decide (0<s.length)&&decide (s.length<=4)&& !keyW.contains s
def tW:List UInt8:=[40,41,123,125,59,44,43,45,42,47,37,60,61,38,33,64]
def nU(s:List UInt8)(c:Int):Int:=match s.findIdx? (λx=>(x.toNat:Int)==c) with|some i=>i|none=> -1
def Aa(c:Int):Int:=if 97<=c/\c<=122 then 1 else if 48<=c/\c<=57 then 2 else if 0<=nU tW c then 3 else if c=32\/c=10 then 4 else 0
theorem Iz(x:UInt8):(Aa (x.toNat:Int)=1)↔mI x=true:=by
 have h:(97<=(x.toNat:Int)/\(x.toNat:Int)<=122)↔mI x=true:=by simp[mI];omega
 unfold Aa
 constructor
 ·intro e
  split at e
  ·rename_i h1;exact h.1 h1
  ·repeat' split at e
   all_goals omega
 ·intro e;rw[if_pos (h.2 e)]
def idxS(l:List (List UInt8))(s:List UInt8):Int:=match l.findIdx? (λw=>w==s) with|some i=>i|none=> -1
variable (G:az)
theorem pM(s:List UInt8)(c:Int)(hb:s.length<=1048576):VF Tryz.prog G gQ [.p (.str s),.p (.int .u8 c)] (.p (.int .i64 (nU s c))):=by
 refine AC.go uA ?_
 simp-implicitDefEqProofs[kT]
 refine aH (λi:Nat=>aw 18 [(0,.p (.str s)),(1,.p (.int .u8 c)),(5,.p (.int .i64 i))]) (λ_=>[]) (λi=>i<=s.length/\∀x∈s.take i,(x.toNat:Int)≠c) (λi=>s.length-i) 0 (by simp) ?_ ?_
 ·exact aU rfl (by simp[below])
 ·intro i ⟨hi,hn⟩
  simp-implicitDefEqProofs[]
  refine aF (λh1=>?_) (λh1=>?_)
  ·simp at h1
   have hg:=List.getElem?_eq_getElem h1
   by_cases he:(s[i].toNat:Int)=c
   ·have hf:nU s c=i:=by
     have:s.findIdx? (λx=>(x.toNat:Int)==c)=some i:=by
      rw[List.findIdx?_eq_some_iff_getElem]
      exact⟨h1,by simpa using he,λj hj=>by have:=hn s[j] (List.mem_take_iff_getElem.2 ⟨j,by omega,rfl⟩);simpa using this⟩
     rw[nU,this]
    simp-implicitDefEqProofs[hg,he,hf]
   ·simp-implicitDefEqProofs[hg,he]
    refine⟨i+1,⟨h1,λp hp=>?_⟩,by omega,aU rfl ?_⟩
    ·rw[ay h1] at hp
     rcases List.mem_append.1 hp with hp|hp
     ·exact hn p hp
     ·rw[List.mem_singleton.1 hp];exact he
    ·simp[below,w1 (i:=i) (by omega)]
  ·simp at h1
   rw[List.take_of_length_le h1] at hn
   have hf:nU s c= -1:=by
    have:s.findIdx? (λx=>(x.toNat:Int)==c)=none:=by
     rw[List.findIdx?_eq_none_iff];intro x hx;simpa using hn x hx
    rw[nU,this]
   simp-implicitDefEqProofs[hf]
theorem Et(c:Int):VF Tryz.prog G gD [.p (.int .u8 c)] (.p (.int .i64 (Aa c))):=by
 refine AC.go tG ?_
 simp-implicitDefEqProofs[lu]
 unfold Aa
 by_cases h1:97<=c
 ·by_cases h2:c<=122
  ·simp-implicitDefEqProofs[h1,h2]
  ·have h3:¬c<=57:=by omega
   have h4:¬c=32:=by omega
   have h5:¬c=10:=by omega
   have h6:48<=c:=by omega
   simp-implicitDefEqProofs[h1,h2,h3,h6]
   refine(pM G tW c (by decide)).use ?_
   generalize nU tW c=w
   by_cases hf:0<=w
   ·simp-implicitDefEqProofs[hf]
   ·simp-implicitDefEqProofs[hf,h4,h5]
 ·simp-implicitDefEqProofs[h1]
  by_cases h2:48<=c
  ·by_cases h3:c<=57
   ·simp-implicitDefEqProofs[h2,h3]
   ·have h4:¬c=32:=by omega
    have h5:¬c=10:=by omega
    simp-implicitDefEqProofs[h2,h3]
    refine(pM G tW c (by decide)).use ?_
    generalize nU tW c=w
    by_cases hf:0<=w
    ·simp-implicitDefEqProofs[hf]
    ·simp-implicitDefEqProofs[hf,h4,h5]
  ·simp-implicitDefEqProofs[h2]
   refine(pM G tW c (by decide)).use ?_
   generalize nU tW c=w
   by_cases hf:0<=w
   ·simp-implicitDefEqProofs[hf]
   ·by_cases h4:c=32
    ·simp-implicitDefEqProofs[hf,h4]
    ·by_cases h5:c=10
     ·simp-implicitDefEqProofs[hf,h4,h5]
     ·simp-implicitDefEqProofs[hf,h4,h5]
theorem Iv(s:List UInt8)(hb:s.length<=140737488355328):VF Tryz.prog G kq [.p (.str s),.p (.int .i64 1)] (.p (.bool (s.all mI&&decide (0<s.length)))):=by
 refine AC.go yC ?_
 simp-implicitDefEqProofs[oV]
 refine aH (λi:Nat=>aw 21 [(0,.p (.str s)),(1,.p (.int .i64 1)),(5,.p (.int .i64 i))]) (λ_=>[]) (λi=>i<=s.length/\∀x∈s.take i,mI x=true) (λi=>s.length-i) 0 (by simp) ?_ ?_
 ·exact aU rfl (by simp[below])
 ·intro i ⟨hi,hn⟩
  simp-implicitDefEqProofs[]
  refine aF (λh1=>?_) (λh1=>?_)
  ·simp at h1
   have hg:=List.getElem?_eq_getElem h1
   simp-implicitDefEqProofs[hg]
   refine(Et G _).use ?_
   have hcl:=Iz s[i]
   by_cases he:mI s[i]=true
   ·have hc:=hcl.2 he
    simp-implicitDefEqProofs[hc]
    refine⟨i+1,⟨h1,λp hp=>?_⟩,by omega,aU rfl ?_⟩
    ·rw[ay h1] at hp
     rcases List.mem_append.1 hp with hp|hp
     ·exact hn p hp
     ·rw[List.mem_singleton.1 hp];exact he
    ·simp[below,w1 (i:=i) (by omega)]
   ·have hc:¬Aa (s[i].toNat:Int)=1:=λe=>he (hcl.1 e)
    have ha:s.all mI=false:=List.all_eq_false.2 ⟨_,List.getElem_mem h1,by simpa using he⟩
    simp-implicitDefEqProofs[hc,ha]
  ·simp at h1
   rw[List.take_of_length_le h1] at hn
   have ha:s.all mI=true:=List.all_eq_true.2 hn
   simp-implicitDefEqProofs[ha]
theorem CH:VF Tryz.prog G dJ [] (.p (bO keyW)):=by
 have key:AC Tryz.prog G dJ [] [] λx h=>x= .ret (.sl 0 1 0 9)/\h=[.row 1 (keyW.map λw=>[.p (.str w)])]:=by
  refine AC.go rP ?_
  simp-implicitDefEqProofs[kF,keyW]
 exact AC.freeze key (.one (eb (ls:=keyW.map λw=>[.str w]) (by simp) (by simp[keyW]) (by simp)) .nil)
theorem If(s:List UInt8):VF Tryz.prog G kw [.p (.str s)] (.p (.bool (keyW.contains s))):=by
 refine AC.go zH ?_
 have hsl:bO keyW= .lst 1 (keyW.map λw=>[.str w]):=rfl
 have hkl:keyW.length=9:=rfl
 simp-implicitDefEqProofs[oQ]
 refine(CH G).use ?_
 simp-implicitDefEqProofs[]
 refine aH (λi:Nat=>aw 18 [(0,.p (.str s)),(3,.p (bO keyW)),(4,.p (.int .i64 i))]) (λ_=>[]) (λi=>i<=keyW.length/\∀w∈keyW.take i,w≠s) (λi=>keyW.length-i) 0 (by simp) ?_ ?_
 ·exact aU rfl (by simp[below,bO])
 ·intro i ⟨hi,hn⟩
  generalize keyW=L at*
  simp-implicitDefEqProofs[hsl]
  refine aF (λh1=>?_) (λh1=>?_)
  ·simp at h1
   have hg:=List.getElem?_eq_getElem h1
   by_cases he:L[i]=s
   ·have hm:s∈L:=by rw[←he];exact List.getElem_mem h1
    simp-implicitDefEqProofs[hg,he,hm]
   ·simp-implicitDefEqProofs[hg,he]
    refine⟨i+1,⟨h1,λp hp=>?_⟩,by omega,aU rfl ?_⟩
    ·rw[ay h1] at hp
     rcases List.mem_append.1 hp with hp|hp
     ·exact hn p hp
     ·rw[List.mem_singleton.1 hp];exact he
    ·simp[below,w1 (i:=i) (by omega)]
  ·simp at h1
   rw[List.take_of_length_le h1] at hn
   have hm:¬s∈L:=λhm=>hn s hm rfl
   simp-implicitDefEqProofs[hm]
theorem oy(s:List UInt8)(hb:s.length<=140737488355328):VF Tryz.prog G bQ [.p (.str s)] (.p (.bool (cu s))):=by
 refine AC.go uM ?_
 simp-implicitDefEqProofs[mH]
 refine(Iv G s hb).use ?_
 cases h1:(s.all mI&&decide (0<s.length)) with
 |false=>
  have hi:cu s=false:=by rw[cu,h1];rfl
  simp-implicitDefEqProofs[hi]
 |true=>
  by_cases h4:s.length<=4
  ·have h4i:(s.length:Int)<=4:=by omega
   have hi:cu s= !keyW.contains s:=by rw[cu,h1];simp[h4]
   simp-implicitDefEqProofs[h4i]
   refine(If G s).use ?_
   rw[hi]
   simp-implicitDefEqProofs[]
  ·have h4i:¬(s.length:Int)<=4:=by omega
   have hi:cu s=false:=by rw[cu,h1];simp[h4]
   simp-implicitDefEqProofs[h4i,hi]
end
section
inductive Ex where
 |mk (op n:Int) (name:List UInt8) (kids:List Ex)
inductive Sm where
 |mk (op:Int) (name:List UInt8) (args:List Ex) (body els:List Sm)
structure Fd where (name:List UInt8) (params:List (List UInt8)) (body:List Sm)
def Ex.op:Ex->Int| .mk o _ _ _=>o
def Ex.n:Ex->Int| .mk _ n _ _=>n
def Ex.name:Ex->List UInt8| .mk _ _ s _=>s
def Ex.kids:Ex->List Ex| .mk _ _ _ k=>k
def Sm.op:Sm->Int| .mk o _ _ _ _=>o
def Sm.name:Sm->List UInt8| .mk _ s _ _ _=>s
def Sm.args:Sm->List Ex| .mk _ _ a _ _=>a
def Sm.body:Sm->List Sm| .mk _ _ _ b _=>b
def Sm.els:Sm->List Sm| .mk _ _ _ _ e=>e
mutual
def Ex.cs:Ex->List PV
 | .mk o n s k=>[.int .i64 o,.int .i64 n,.str s,.lst 4 (GV k)]
def GV:List Ex->List (List PV)
 |[]=>[]
 |e::r=>e.cs::GV r
end
mutual
def Sm.cs:Sm->List PV
 | .mk o s a b e=>[.int .i64 o,.str s,.lst 4 (GV a),.lst 5 (Gh b),.lst 5 (Gh e)]
def Gh:List Sm->List (List PV)
 |[]=>[]
 |s::r=>s.cs::Gh r
end
theorem ui:∀l:List Ex,GV l=l.map Ex.cs
 |[]=>rfl
 |e::r=>by rw[GV,ui r];rfl
theorem sA:∀l:List Sm,Gh l=l.map Sm.cs
 |[]=>rfl
 |e::r=>by rw[Gh,sA r];rfl
def exL(l:List Ex):PV:= .lst 4 (l.map Ex.cs)
def smL(l:List Sm):PV:= .lst 5 (l.map Sm.cs)
theorem Ex.cs_eq(e:Ex):e.cs=[.int .i64 e.op,.int .i64 e.n,.str e.name,exL e.kids]:=by
 cases e;rw[Ex.cs,ui];rfl
theorem Sm.cs_eq(s:Sm):s.cs=[.int .i64 s.op,.str s.name,exL s.args,smL s.body,smL s.els]:=by
 cases s;rw[Sm.cs,ui,sA,sA];rfl
@[simp] theorem Ex.cs_len(e:Ex):e.cs.length=4:=by cases e;rfl
@[simp] theorem Ex.cs_take(e:Ex):List.take 4 (e.cs.map AV.p)=e.cs.map AV.p:=by cases e;rfl
@[simp] theorem Sm.cs_len(s:Sm):s.cs.length=5:=by cases s;rfl
@[simp] theorem Sm.cs_take(s:Sm):List.take 5 (s.cs.map AV.p)=s.cs.map AV.p:=by cases s;rfl
def Fd.cs(f:Fd):List PV:=[.str f.name,bO f.params,smL f.body]
@[simp] theorem Fd.cs_len(f:Fd):f.cs.length=3:=rfl
@[simp] theorem Fd.cs_take(f:Fd):List.take 3 (f.cs.map AV.p)=f.cs.map AV.p:=rfl
def fdL(l:List Fd):PV:= .lst 3 (l.map Fd.cs)
mutual
def Ex.sz:Ex->Nat
 | .mk _ _ s k=>1+s.length+aS k
def aS:List Ex->Nat
 |[]=>0
 |e::r=>e.sz+aS r
end
mutual
def Sm.sz:Sm->Nat
 | .mk _ s a b e=>1+s.length+aS a+aO b+aO e
def aO:List Sm->Nat
 |[]=>0
 |s::r=>s.sz+aO r
end
def Fd.sz(f:Fd):Nat:=1+f.name.length+(f.params.length+(f.params.map List.length).sum)+aO f.body
def cw(l:List Fd):Nat:=(l.map Fd.sz).sum
theorem Ex.sz_eq(e:Ex):e.sz=1+e.name.length+aS e.kids:=by cases e;rfl
theorem Sm.sz_eq(s:Sm):s.sz=1+s.name.length+aS s.args+aO s.body+aO s.els:=by cases s;rfl
theorem dX:∀a b:List Ex,aS (a++b)=aS a+aS b
 |[],b=>by simp[aS]
 |e::r,b=>by simp only[List.cons_append,aS,dX r b];omega
theorem cz:∀a b:List Sm,aO (a++b)=aO a+aO b
 |[],b=>by simp[aO]
 |e::r,b=>by simp only[List.cons_append,aO,cz r b];omega
theorem oE:∀{l:List Ex} {e:Ex},e∈l->e.sz<=aS l
 |x::r,e,h=>by
  simp only[aS]
  rcases List.mem_cons.1 h with rfl|h
  ·omega
  ·have:=oE h;omega
theorem oA:∀{l:List Sm} {e:Sm},e∈l->e.sz<=aO l
 |x::r,e,h=>by
  simp only[aO]
  rcases List.mem_cons.1 h with rfl|h
  ·omega
  ·have:=oA h;omega
theorem fI:∀l:List Ex,l.length<=aS l
 |[]=>Nat.le_refl _
 |e::r=>by have:=fI r;have:=e.sz_eq;simp only[aS,List.length_cons];omega
theorem dY:∀l:List Sm,l.length<=aO l
 |[]=>Nat.le_refl _
 |e::r=>by have:=dY r;have:=e.sz_eq;simp only[aO,List.length_cons];omega
mutual
def Ex.parts:Ex->Nat
 | .mk _ _ _ k=>1+iT k
def iT:List Ex->Nat
 |[]=>0
 |e::r=>e.parts+iT r
end
theorem Ex.parts_eq(e:Ex):e.parts=1+iT e.kids:=by cases e;rfl
theorem kS:∀a b:List Ex,iT (a++b)=iT a+iT b
 |[],b=>by simp[iT]
 |e::r,b=>by simp only[List.cons_append,iT,kS r b];omega
mutual
theorem Ex.parts_le:∀e:Ex,e.parts<=e.sz
 | .mk _ _ s k=>by have:=zp k;simp only[Ex.parts,Ex.sz];omega
theorem zp:∀l:List Ex,iT l<=aS l
 |[]=>Nat.le_refl _
 |e::r=>by have:=e.parts_le;have:=zp r;simp only[iT,aS];omega
end
mutual
def Sm.cnt:Sm->Nat
 | .mk _ _ _ b e=>1+cF b+cF e
def cF:List Sm->Nat
 |[]=>0
 |s::r=>s.cnt+cF r
end
theorem Sm.cnt_eq(s:Sm):s.cnt=1+cF s.body+cF s.els:=by cases s;rfl
theorem lN:∀a b:List Sm,cF (a++b)=cF a+cF b
 |[],b=>by simp[cF]
 |e::r,b=>by simp only[List.cons_append,cF,lN r b];omega
mutual
theorem Sm.cnt_le:∀s:Sm,s.cnt<=s.sz
 | .mk _ s a b e=>by have:=iI b;have:=iI e;simp only[Sm.cnt,Sm.sz];omega
theorem iI:∀l:List Sm,cF l<=aO l
 |[]=>Nat.le_refl _
 |e::r=>by have:=e.cnt_le;have:=iI r;simp only[cF,aO];omega
end
def inR(n lo hi:Int):Bool:=decide (lo<=n)&&decide (n<=hi)
def loK(op:Int):Nat:=if op=1\/op=2 then 0 else if op=11\/op=12 then 1 else if op=13 then 0 else 2
def hiK(op:Int):Nat:=if op=1\/op=2 then 0 else if op=11\/op=12 then 1 else if op=13 then 3 else 2
def BS(op:Int):Bool:=decide (op=2)||decide (op=13)
def ln(e:Ex):Bool:=inR e.op 1 13&&inR e.kids.length (loK e.op) (hiK e.op)&&(BS e.op==cu e.name)&&(BS e.op||decide (e.name=[]))&&inR e.n 0 255&&(decide (e.op=1)||decide (e.n=0))
def bU:Nat->Ex->Bool
 |0,_=>false
 |d+1,e=>ln e&&e.kids.all (bU d)
def rG(e:Ex):Bool:=bU 6 e&&decide (e.parts<=30)
def ky(op:Int):Nat:=if op=4 then 2 else 1
def zq(op:Int):Bool:=decide (op=1)||decide (op=2)
def gd(s:Sm):Bool:=inR s.op 1 8&&decide (s.args.length=ky s.op)&&(zq s.op==cu s.name)&&(zq s.op||decide (s.name=[]))&&s.args.all rG&&
 (!decide (s.op=8)||(match s.args with|a::_=>decide (a.op=13)|[]=>false))&&(s.els.isEmpty||decide (s.op=5))&&(s.body.isEmpty||decide (s.op=5)||decide (s.op=6))
def aR:Nat->Sm->Bool
 |0,_=>false
 |d+1,s=>gd s&&s.body.all (aR d)&&s.els.all (aR d)
def kO(f:Fd):Bool:=f.params.all cu&&cu f.name&&decide (f.params.length<=3)&&f.body.all (aR 4)
def py(l:List Fd):Nat:=(l.map λf=>cF f.body).sum
def cP(l:List Fd):Bool:=inR l.length 1 4&&l.all kO&&decide (py l<=40)
end
section
structure LV where (name:List UInt8) (num block:Nat)
structure WS where (vs:List LV) (count:Nat) (code:Int)
def fl(c k:Int):Int:=if c=0 then k else c
def lkV(vs:List LV)(s:List UInt8):Option LV:=vs.find? λv=>decide (v.name=s)
def uT(fns:List Fd)(s:List UInt8):Option Nat:=fns.findIdx? λf=>decide (f.name=s)
def KV(vs:List LV)(s:List UInt8)(b:Nat)(c:Int):Int:=match lkV vs s with|none=>c|some v=>if v.block=b then fl c 2 else c
def WS.back(w:WS)(vs:List LV):WS:=⟨vs,w.count,w.code⟩
abbrev Scp:=List (List UInt8 × Nat)
def lP(m:Scp)(s:List UInt8):Option Nat:=(m.find? λx=>decide (x.1=s)).map (·.2)
def nP:Scp->List UInt8->Nat->Scp
 |[],s,n=>[(s,n)]
 |x::r,s,n=>if x.1=s then(s,n)::r else x::nP r s n
def yO:List Scp->List UInt8->Option Nat
 |[],_=>none
 |m::r,s=>match lP m s with|some n=>some n|none=>yO r s
mutual
def Ex.pre:Ex->List Ex
 | .mk o n s ks=> .mk o n s ks::LZ ks
def LZ:List Ex->List Ex
 |[]=>[]
 |e::r=>e.pre++LZ r
end
def SR(g:LV->Nat):Nat->List LV->List Scp->Prop
 |_,_,[]=>False
 |b,vs,m::up=>∃v1 v2,vs=v1++v2/\(∀v∈v1,v.block=b)/\(∀s,(lkV v1 s).map g=lP m s)/\match b with
  |0=>v2=[]/\up=[]
  |b+1=>SR g b v2 up
theorem Dm(a b:List LV)(s:List UInt8):lkV (a++b) s=match lkV a s with|some v=>some v|none=>lkV b s:=by
 simp only[lkV,List.find?_append]
 cases List.find? (λv=>decide (v.name=s)) a<;>rfl
variable {g:LV->Nat}
theorem SR.blk:∀{b:Nat} {vs:List LV} {ch:List Scp},SR g b vs ch->∀v∈vs,v.block<=b
 |b,_,[],h,v,hv=>by cases b<;>exact False.elim h
 |0,vs,m::up,⟨v1,v2,e,h1,_,h3,_⟩,v,hv=>by
  subst e;subst h3
  rw[List.append_nil] at hv
  exact Nat.le_of_eq (h1 v hv)
 |b+1,vs,m::up,⟨v1,v2,e,h1,_,h3⟩,v,hv=>by
  subst e
  rcases List.mem_append.1 hv with h|h
  ·exact Nat.le_of_eq (h1 v h)
  ·exact Nat.le_succ_of_le (SR.blk h3 v h)
theorem SR.fnd:∀{b:Nat} {vs:List LV} {ch:List Scp},SR g b vs ch->∀s,(lkV vs s).map g=yO ch s
 |b,_,[],h,s=>by cases b<;>exact False.elim h
 |0,vs,m::up,⟨v1,v2,e,h1,h2,h3,h4⟩,s=>by
  subst e;subst h3;subst h4
  rw[List.append_nil,h2,yO]
  cases lP m s<;>rfl
 |b+1,vs,m::up,⟨v1,v2,e,h1,h2,h3⟩,s=>by
  subst e
  have ih:=SR.fnd h3 s
  have h2:=h2 s
  rw[Dm,yO,←h2]
  cases e1:lkV v1 s with
  |some v=>rfl
  |none=>exact ih
theorem SR.is{b:Nat}{vs:List LV}{ch:List Scp}(h:SR g b vs ch)(s:List UInt8):(lkV vs s).isSome=(yO ch s).isSome:=by rw[←h.fnd s,Option.isSome_map]
theorem DI{vs:List LV}{s:List UInt8}{v:LV}(h:lkV vs s=some v):v∈vs:=List.mem_of_find?_eq_some h
theorem SR.put:∀{b:Nat} {vs:List LV} {m:Scp} {up:List Scp},SR g b vs (m::up)->∀(s:List UInt8) (c:Int),KV vs s b c=if(lP m s).isSome then fl c 2 else c:=by
 intro b vs m up h s c
 have key:∀v1 v2:List LV,(∀v∈v1,v.block=b)->(lkV v1 s).map g=lP m s->(∀v∈v2,v.block≠b)->KV (v1++v2) s b c=if(lP m s).isSome then fl c 2 else c:=by
  intro v1 v2 h1 h2 h3
  rw[←h2,KV,Dm]
  cases e1:lkV v1 s with
  |some v=>simp[h1 v (DI e1)]
  |none=>
   cases e2:lkV v2 s with
   |none=>rfl
   |some v=>simp[h3 v (DI e2)]
 match b,h with
 |0,⟨v1,v2,e,h1,h2,h3,_⟩=>subst e;subst h3;exact key v1 [] h1 (h2 s) (λv hv=>by simp at hv)
 |b+1,⟨v1,v2,e,h1,h2,h3⟩=>subst e;exact key v1 v2 h1 (h2 s) (λv hv e=>by have:=h3.blk v hv;omega)
theorem om:∀(m:Scp) (s:List UInt8) (n:Nat) (t:List UInt8),lP (nP m s n) t=if s=t then some n else lP m t
 |[],s,n,t=>by
  by_cases h:s=t
  ·simp[nP,lP,h]
  ·simp[nP,lP,h]
 |x::r,s,n,t=>by
  have ih:=om r s n t
  simp only[lP] at ih
  by_cases hx:x.1=s
  ·by_cases h:s=t
   ·simp[nP,lP,hx,h]
   ·have:¬x.1=t:=by rw[hx];exact h
    simp[nP,lP,hx,h]
  ·by_cases ht:x.1=t
   ·have:¬s=t:=λe=>hx (ht.trans e.symm)
    rw[nP,if_neg hx,if_neg this];simp[lP,ht]
   ·simp only[nP,lP,if_neg hx,List.find?_cons,ht,decide_false]
    exact ih
theorem SR.add{b:Nat}{vs:List LV}{m:Scp}{up:List Scp}(h:SR g b vs (m::up))(s:List UInt8)(n k:Nat)(hg:g ⟨s,n,b⟩=k):SR g b (⟨s,n,b⟩::vs) (nP m s k::up):=by
 have key:∀v1:List LV,(∀s,(lkV v1 s).map g=lP m s)->∀t,(lkV (⟨s,n,b⟩::v1) t).map g=lP (nP m s k) t:=by
  intro v1 h2 t
  rw[om]
  by_cases e:s=t
  ·simp[lkV,e,←hg]
  ·rw[if_neg e,←h2 t];simp[lkV,e]
 match b,h with
 |0,⟨v1,v2,e,h1,h2,h3⟩=>
  subst e
  refine⟨⟨s,n,0⟩::v1,v2,rfl,λv hv=>?_,key v1 h2,h3⟩
  rcases List.mem_cons.1 hv with rfl|hv
  ·rfl
  ·exact h1 v hv
 |b+1,⟨v1,v2,e,h1,h2,h3⟩=>
  subst e
  refine⟨⟨s,n,b+1⟩::v1,v2,rfl,λv hv=>?_,key v1 h2,h3⟩
  rcases List.mem_cons.1 hv with rfl|hv
  ·rfl
  ·exact h1 v hv
theorem SR.open{b:Nat}{vs:List LV}{ch:List Scp}(h:SR g b vs ch):SR g (b+1) vs ([]::ch):=⟨[],vs,rfl,λv hv=>by simp at hv,λs=>rfl,h⟩
theorem SR.base:SR g 0 [] [[]]:=⟨[],[],rfl,λv hv=>by simp at hv,λs=>rfl,rfl,rfl⟩
abbrev g0:LV->Nat:=λ_=>0
end
section
mutual
def EQ:Sm->Nat
 | .mk o _ _ bd el=>(if o=1 then 1 else 0)+bj bd+bj el
def bj:List Sm->Nat
 |[]=>0
 |s::r=>EQ s+bj r
end
mutual
theorem Js:∀s:Sm,EQ s<=s.cnt
 | .mk o s a bd el=>by
   have:=jv bd
   have:=jv el
   simp only[EQ,Sm.cnt]
   split<;>omega
theorem jv:∀l:List Sm,bj l<=cF l
 |[]=>Nat.le_refl _
 |s::r=>by have:=Js s;have:=jv r;simp only[bj,cF];omega
end
mutual
def Sm.pre(d:Nat):Sm->List (Sm × Nat)
 | .mk o s a bd el=>(.mk o s a bd el,d)::(Ci (d+1) bd++Ci (d+1) el)
def Ci(d:Nat):List Sm->List (Sm × Nat)
 |[]=>[]
 |s::r=>Sm.pre d s++Ci d r
end
end
section
structure Ii where (op to:Int) (args:List Int) (n:Int)
structure Ph where (to:Int) (args:List Int)
def Ii.cs(x:Ii):List PV:=[.int .i64 x.op,.int .i64 x.to,aC x.args,.int .i64 x.n]
def Ph.cs(x:Ph):List PV:=[.int .i64 x.to,aC x.args]
def inL(l:List Ii):PV:= .lst 4 (l.map Ii.cs)
def phL(l:List Ph):PV:= .lst 2 (l.map Ph.cs)
structure Bk where (phis:List Ph) (ins:List Ii) (jump on:Int) (next:List Int)
def Bk.cs(b:Bk):List PV:=[phL b.phis,inL b.ins,.int .i64 b.jump,.int .i64 b.on,aC b.next]
def bkL(l:List Bk):PV:= .lst 5 (l.map Bk.cs)
structure Cd where (params regs:Int) (blocks:List Bk)
def Cd.cs(c:Cd):List PV:=[.int .i64 c.params,.int .i64 c.regs,bkL c.blocks]
def cdL(l:List Cd):PV:= .lst 3 (l.map Cd.cs)
def bk0:Bk:=⟨[],[],0,0,[]⟩
def Bk.put(b:Bk)(x:Ii):Bk:={b with ins:=b.ins++[x]}
def Bk.fin(b:Bk)(j o:Int)(nx:List Int):Bk:={b with jump:=j,on:=o,next:=nx}
def modB(f:Bk->Bk)(l:List Bk)(i:Nat):List Bk:=match l[i]? with|some b=>l.set i (f b)|none=>l
structure Lw where (regs:Nat) (bs:List Bk) (pos:Nat)
def Lw.put(w:Lw)(x:Ii):Lw:=⟨w.regs,modB (·.put x) w.bs w.pos,w.pos⟩
def Lw.name(w:Lw)(n:Nat):Lw:=⟨w.regs,w.bs++List.replicate n bk0,w.pos⟩
def Lw.fin(w:Lw)(j o:Int)(g:Nat)(nx:List Int):Lw:=⟨w.regs,modB (·.fin j o nx) w.bs w.pos,g⟩
def Lw.reg(w:Lw):Lw:=⟨w.regs+1,w.bs,w.pos⟩
def Lw.mk'(w:Lw)(op n:Int)(args:List Int):Lw:=w.reg.put ⟨op,w.regs,args,n⟩
def mz(o:Int):Int:=if o=11 then 10 else if o=12 then 11 else if o=13 then 14 else o
mutual
def lwE(fa sc:List UInt8->Int):Ex->Lw->Int × Lw
 | .mk o n s ks,w=>
   if o=1 then(w.regs,w.mk' 1 n [])
   else if o=2 then(sc s,w)
   else if o=10 then lwA fa sc ks w
   else let x:=bF fa sc ks w
    (x.2.regs,x.2.mk' (mz o) (if o=13 then fa s else 0) x.1)
def lwA(fa sc:List UInt8->Int):List Ex->Lw->Int × Lw
 |[a,b],w=>
  let x:=lwE fa sc a w
  let w2:=x.2.mk' 1 0 []
  let y:=lwE fa sc b ((w2.name 2).fin 2 x.1 w2.bs.length [w2.bs.length,w2.bs.length+1])
  (x.2.regs,((y.2.mk' 10 0 [y.1]).put ⟨10,x.2.regs,[y.2.regs],0⟩).fin 1 0 (w2.bs.length+1) [w2.bs.length+1])
 |_,w=>(0,w)
def bF(fa sc:List UInt8->Int):List Ex->Lw->List Int × Lw
 |[],w=>([],w)
 |e::r,w=>
  let x:=lwE fa sc e w
  let y:=bF fa sc r x.2
  (x.1::y.1,y.2)
end
def scF(d:Int)(ch:List Scp)(s:List UInt8):Int:=match yO ch s with|some n=>(n:Int)|none=>d
mutual
def lwS(fa:List UInt8->Int)(d:Int):Sm->Scp->List Scp->Nat->Lw->Scp × Nat × Lw
 | .mk o s a bd el,m,up,nx,w=>
   if o=6 then
    let w1:=(w.name 3).fin 1 0 w.bs.length [w.bs.length]
    let x:=lwE fa (scF d (m::up)) (a.headD (.mk 0 0 [] [])) w1
    let y:=aZ fa d bd [] (m::up) nx (x.2.fin 2 x.1 (w.bs.length+1) [w.bs.length+1,w.bs.length+2])
    (m,y.2.1,y.2.2.fin 1 0 (w.bs.length+2) [w.bs.length])
   else
    let x:=bF fa (scF d (m::up)) a w
    if o=1 then(nP m s nx,nx+1,x.2.put ⟨2,nx,x.1,0⟩)
    else if o=2 then(m,nx,x.2.put ⟨2,scF d (m::up) s,x.1,0⟩)
    else if o=3 then(m,nx,x.2.put ⟨13,-1,x.1,0⟩)
    else if o=4 then(m,nx,x.2.put ⟨12,-1,x.1,0⟩)
    else if o=5 then
     let t:=x.2.bs.length
     let y:=aZ fa d bd [] (m::up) nx ((x.2.name 3).fin 2 (x.1.headD 0) t [t,t+1])
     let z:=aZ fa d el [] (m::up) y.2.1 (y.2.2.fin 1 0 (t+1) [t+2])
     (m,z.2.1,z.2.2.fin 1 0 (t+2) [t+2])
    else if o=7 then(m,nx,(x.2.name 1).fin 3 (x.1.headD 0) x.2.bs.length [])
    else(m,nx,x.2)
def aZ(fa:List UInt8->Int)(d:Int):List Sm->Scp->List Scp->Nat->Lw->Scp × Nat × Lw
 |[],m,_,nx,w=>(m,nx,w)
 |s::r,m,up,nx,w=>
  let x:=lwS fa d s m up nx w
  aZ fa d r x.1 up x.2.1 x.2.2
end
def psS:List (List UInt8)->Scp->Nat->Scp
 |[],m,_=>m
 |p::r,m,i=>psS r (nP m p i) (i+1)
def faI(l:List Fd)(s:List UInt8):Int:=match uT l s with|some i=>(i:Int)|none=> -1
def lwF(l:List Fd)(d:Int)(f:Fd):Cd:=
 let w0:Lw:=⟨f.params.length+bj f.body,[bk0],0⟩
 let x:=aZ (faI l) d f.body (psS f.params [] 0) [] f.params.length w0
 let w:=x.2.2.mk' 1 0 []
 ⟨f.params.length,w.regs,(w.fin 3 x.2.2.regs 0 []).bs⟩
theorem tN(f:Bk->Bk)(l:List Bk)(i:Nat):(modB f l i).length=l.length:=by
 unfold modB;split<;>simp
theorem ml{f:Bk->Bk}{l:List Bk}{i:Nat}{b:Bk}(h:l[i]?=some b):modB f l i=l.set i (f b):=by
 unfold modB;rw[h]
structure Lw.Ok (w:Lw) (B:Nat):Prop where
 regs:w.regs<=B
 bs:w.bs.length<=B
 ins:∀b∈w.bs,b.ins.length<=B
 pos:w.pos<w.bs.length
theorem Lw.Ok.up{w:Lw}{A B:Nat}(H:w.Ok A)(h:A<=B):w.Ok B:=⟨Nat.le_trans H.1 h,Nat.le_trans H.2 h,λb hb=>Nat.le_trans (H.3 b hb) h,H.4⟩
theorem Lw.Ok.cur{w:Lw}{B:Nat}(H:w.Ok B):∃b,w.bs[w.pos]?=some b/\b.ins.length<=B:=
 ⟨_,List.getElem?_eq_getElem H.pos,H.ins _ (List.getElem_mem H.pos)⟩
theorem Lw.Ok.reg{w:Lw}{B:Nat}(H:w.Ok B):w.reg.Ok (B+1):=⟨by have:=H.1;show w.regs+1<=_;omega,by have:=H.2;show w.bs.length<=_;omega,λb hb=>by have:=H.3 b hb;omega,H.4⟩
theorem Lw.Ok.put{w:Lw}{B:Nat}(H:w.Ok B)(x:Ii):(w.put x).Ok (B+1):=by
 obtain⟨b,hb,hl⟩:=H.cur
 have hbs:(w.put x).bs=w.bs.set w.pos (b.put x):=ml hb
 refine⟨by have:=H.1;show w.regs<=_;omega,by rw[hbs,List.length_set];have:=H.2;omega,λc hc=>?_,by rw[hbs,List.length_set];exact H.4⟩
 rw[hbs] at hc
 rcases List.mem_or_eq_of_mem_set hc with h|rfl
 ·have:=H.3 c h;omega
 ·simp only[Bk.put,List.length_append,List.length_singleton];omega
theorem Lw.Ok.mk'{w:Lw}{B:Nat}(H:w.Ok B)(op n:Int)(args:List Int):(w.mk' op n args).Ok (B+2):=H.reg.put _
theorem Lw.Ok.name{w:Lw}{B:Nat}(H:w.Ok B)(n:Nat):(w.name n).Ok (B+n):=by
 refine⟨by have:=H.1;show w.regs<=_;omega,by have:=H.2;simp[Lw.name];omega,λb hb=>?_,by have:=H.4;simp[Lw.name];omega⟩
 rcases List.mem_append.1 hb with h|h
 ·have:=H.3 b h;omega
 ·rw[(List.mem_replicate.1 h).2];simp[bk0]
theorem Lw.Ok.fin{w:Lw}{B:Nat}(H:w.Ok B)(j o:Int){g:Nat}(hg:g<w.bs.length)(nx:List Int):(w.fin j o g nx).Ok B:=by
 obtain⟨b,hb,hl⟩:=H.cur
 have hbs:(w.fin j o g nx).bs=w.bs.set w.pos (b.fin j o nx):=ml hb
 refine⟨H.1,by rw[hbs,List.length_set];exact H.2,λc hc=>?_,by rw[hbs,List.length_set];exact hg⟩
 rw[hbs] at hc
 rcases List.mem_or_eq_of_mem_set hc with h|rfl
 ·exact H.3 c h
 ·exact hl
@[simp] theorem Lw.put_len(w:Lw)(x:Ii):(w.put x).bs.length=w.bs.length:=tN _ _ _
@[simp] theorem Lw.mk'_len(w:Lw)(op n:Int)(args:List Int):(w.mk' op n args).bs.length=w.bs.length:=tN _ _ _
@[simp] theorem Lw.fin_len(w:Lw)(j o:Int)(g:Nat)(nx:List Int):(w.fin j o g nx).bs.length=w.bs.length:=tN _ _ _
@[simp] theorem Lw.name_len(w:Lw)(n:Nat):(w.name n).bs.length=w.bs.length+n:=by simp[Lw.name]
@[simp] theorem Lw.fin_pos(w:Lw)(j o:Int)(g:Nat)(nx:List Int):(w.fin j o g nx).pos=g:=rfl
theorem KN(fa sc:List UInt8->Int)(e:Ex)(w:Lw):lwE fa sc e w=if e.op=1 then((w.regs:Int),w.mk' 1 e.n []) else if e.op=2 then(sc e.name,w) else if e.op=10 then lwA fa sc e.kids w else
 ((bF fa sc e.kids w).2.regs,(bF fa sc e.kids w).2.mk' (mz e.op) (if e.op=13 then fa e.name else 0) (bF fa sc e.kids w).1):=by
 obtain⟨o,n,s,ks⟩:=e;rw[lwE];rfl
theorem gU(fa sc:List UInt8->Int):∀(l:List Ex) (w:Lw),(bF fa sc l w).1.length=l.length
 |[],_=>by rw[bF];rfl
 |e::r,w=>by rw[bF];simp[gU fa sc r]
theorem zR(fa sc:List UInt8->Int):∀(a b:List Ex) (w:Lw),bF fa sc (a++b) w=((bF fa sc a w).1++(bF fa sc b (bF fa sc a w).2).1,(bF fa sc b (bF fa sc a w).2).2)
 |[],b,w=>by simp[bF]
 |e::r,b,w=>by rw[List.cons_append,bF,bF,zR fa sc r];simp
theorem vY{fa sc:List UInt8->Int}{l:List Ex}{i:Nat}(h:i<l.length)(w:Lw):bF fa sc (l.take (i+1)) w=((bF fa sc (l.take i) w).1++[(lwE fa sc l[i] (bF fa sc (l.take i) w).2).1],(lwE fa sc l[i] (bF fa sc (l.take i) w).2).2):=by
 rw[ay h,zR,bF,bF]
mutual
theorem nK(fa sc:List UInt8->Int):∀(e:Ex) (w:Lw) (B:Nat),w.Ok B->(lwE fa sc e w).2.Ok (B+8*e.sz)/\w.bs.length<=(lwE fa sc e w).2.bs.length
 | .mk o n s ks,w,B,H=>by
   have hz:(Ex.mk o n s ks).sz=1+s.length+aS ks:=Ex.sz_eq _
   rw[hz,lwE]
   split
   ·exact⟨(H.mk' _ _ _).up (by omega),by simp⟩
   split
   ·exact⟨H.up (by omega),Nat.le_refl _⟩
   split
   ·have:=Lg fa sc ks w B H
    exact⟨this.1.up (by omega),this.2⟩
   ·have:=kr fa sc ks w B H
    exact⟨(this.1.mk' _ _ _).up (by omega),by simpa using this.2⟩
theorem Lg(fa sc:List UInt8->Int):∀(l:List Ex) (w:Lw) (B:Nat),w.Ok B->(lwA fa sc l w).2.Ok (B+8*aS l+7)/\w.bs.length<=(lwA fa sc l w).2.bs.length
 |[],w,B,H=>by rw[lwA];exact⟨H.up (by omega),Nat.le_refl _⟩;intro a b h;cases h
 |[a],w,B,H=>by rw[lwA];exact⟨H.up (by omega),Nat.le_refl _⟩;intro a b h;cases h
 |a::b::c::r,w,B,H=>by rw[lwA];exact⟨H.up (by omega),Nat.le_refl _⟩;intro a b h;cases h
 |[a,b],w,B,H=>by
  obtain⟨h1,l1⟩:=nK fa sc a w B H
  have hz:aS [a,b]=a.sz+b.sz:=by simp[aS]
  have ha:=a.sz_eq
  have hb:=b.sz_eq
  rw[lwA,hz]
  simp only
  generalize lwE fa sc a w=x at*
  have h2:=((h1.mk' 1 0 []).name 2).fin 2 x.1 (g:=(x.2.mk' 1 0 []).bs.length) (by simp) [((x.2.mk' 1 0 []).bs.length:Int),((x.2.mk' 1 0 []).bs.length:Int)+1]
  obtain⟨h3,l3⟩:=nK fa sc b _ _ h2
  generalize lwE fa sc b _=y at*
  simp at l3
  have hg:(x.2.mk' 1 0 []).bs.length+1<((y.2.mk' 10 0 [y.1]).put ⟨10,x.2.regs,[(y.2.regs:Int)],0⟩).bs.length:=by simp;omega
  have h4:=((h3.mk' 10 0 [y.1]).put ⟨10,x.2.regs,[(y.2.regs:Int)],0⟩).fin 1 0 hg [((x.2.mk' 1 0 []).bs.length:Int)+1]
  exact⟨h4.up (by omega),by simp;omega⟩
theorem kr(fa sc:List UInt8->Int):∀(l:List Ex) (w:Lw) (B:Nat),w.Ok B->(bF fa sc l w).2.Ok (B+8*aS l)/\w.bs.length<=(bF fa sc l w).2.bs.length
 |[],w,B,H=>by rw[bF];exact⟨H.up (by omega),Nat.le_refl _⟩
 |e::r,w,B,H=>by
  obtain⟨h1,l1⟩:=nK fa sc e w B H
  have hz:aS (e::r)=e.sz+aS r:=by rw[aS]
  rw[bF,hz]
  simp only
  obtain⟨h2,l2⟩:=kr fa sc r _ _ h1
  exact⟨h2.up (by omega),Nat.le_trans l1 l2⟩
end
end
section
def Ec{α:Type}(p:Nat->α->Bool)(l:List α):Bool:=l.zipIdx.all λx=>p x.2 x.1
theorem allI_iff{α:Type}{p:Nat->α->Bool}{l:List α}:Ec p l=true↔∀(i:Nat) (x:α),l[i]?=some x->p i x=true:=by
 rw[Ec,List.all_eq_true]
 constructor
 ·intro h i x hx;exact h (x,i) (List.mem_zipIdx_iff_getElem?.2 hx)
 ·intro h ⟨x,i⟩ hm;exact h i x (List.mem_zipIdx_iff_getElem?.1 hm)
theorem ug{α:Type}{p:Nat->α->Bool}{l:List α}{i:Nat}{x:α}(h:l[i]?=some x)(hp:p i x=false):Ec p l=false:=by
 cases e:Ec p l with
 |false=>rfl
 |true=>rw[allI_iff.1 e i x h] at hp;cases hp
theorem gq{α:Type}{p:α->Bool}{l:List α}{x:α}(h:x∈l)(hp:p x=false):l.all p=false:=by
 rw[List.all_eq_false];exact⟨x,h,by simp[hp]⟩
def ir(o:Int):Bool:=inR o 1 14&& !decide (o=12)&& !decide (o=13)
def GD(o:Int):Int:=if o=1 then 0 else if o=2\/o=10\/o=11\/o=13 then 1 else 2
def iw(g r:Int):Bool:=inR r 0 (g-1)
def EU(u:List Cd)(n:Int):Int:=match u[n.toNat]? with|some c=>c.params|none=> -1
def oD(u:List Cd)(k:Nat)(g:Int)(x:Ii):Bool:=
 inR x.op 1 14&&x.args.all (iw g)&&(if ir x.op then iw g x.to else decide (x.to= -1))&&
 (if x.op=14 then inR x.n 0 ((k:Int)-1)&&decide ((x.args.length:Int)=EU u x.n)
  else if x.op=1 then decide (x.args.length=0)&&inR x.n 0 255
  else decide (x.n=0)&&decide ((x.args.length:Int)=GD x.op))
def nxN(j:Int):Int:=if j=1 then 1 else if j=2 then 2 else if j=3 then 0 else-1
def onU(j:Int):Bool:=decide (j=2)||decide (j=3)
def aI(bs:List Bk)(b:Int):List Int:=(bs.zipIdx.filter λx=>decide (b∈x.1.next)).map λx=>(x.2:Int)
def phB(g:Int)(b n:Nat)(x:Ph):Bool:= !decide (b=0)&&decide (x.args.length=n)&&x.args.all (iw g)&&iw g x.to
def bkB(u:List Cd)(k:Nat)(c:Cd)(b:Nat)(x:Bk):Bool:=
 decide ((x.next.length:Int)=nxN x.jump)&&(if onU x.jump then iw c.regs x.on else decide (x.on=0))&&x.next.all (λn=>inR n 1 ((c.blocks.length:Int)-1))&&x.ins.all (oD u k c.regs)&&x.phis.all (phB c.regs b (aI c.blocks b).length)
def bkN(x:Bk):Nat:=x.ins.length+x.phis.length
def cdN(c:Cd):Nat:=(c.blocks.map bkN).sum
def unN(u:List Cd):Nat:=(u.map cdN).sum
def cdB(u:List Cd)(k:Nat)(c:Cd):Bool:=inR c.params 0 3&&inR c.regs c.params 300&&inR c.blocks.length 1 160&&Ec (bkB u k c) c.blocks
def unB(u:List Cd):Bool:=inR u.length 1 4&&Ec (cdB u) u&&decide (unN u<=800)
structure BkFit (M:Nat) (b:Bk):Prop where
 phis:b.phis.length<=M
 ins:b.ins.length<=M
 next:b.next.length<=M
 pa:∀x∈b.phis,x.args.length<=M
 ia:∀x∈b.ins,x.args.length<=M
def JL(M:Nat)(c:Cd):Prop:=c.blocks.length<=M/\∀b∈c.blocks,BkFit M b
def Kk(M:Nat)(u:List Cd):Prop:=u.length<=M/\∀c∈u,JL M c
theorem Cd.cs_eq2(c:Cd):c.cs=[.int .i64 c.params,.int .i64 c.regs,bkL c.blocks]:=rfl
theorem Bk.cs_eq2(b:Bk):b.cs=[phL b.phis,inL b.ins,.int .i64 b.jump,.int .i64 b.on,aC b.next]:=rfl
theorem Ii.cs_eq2(x:Ii):x.cs=[.int .i64 x.op,.int .i64 x.to,aC x.args,.int .i64 x.n]:=rfl
theorem Ph.cs_eq2(x:Ph):x.cs=[.int .i64 x.to,aC x.args]:=rfl
theorem rz{α:Type}(f:α->Nat)(l:List α)(i:Nat):((l.take i).map f).sum<=(l.map f).sum:=by
 have:=congrArg (λl=>(List.map f l).sum) (List.take_append_drop i l)
 simp only[List.map_append,List.sum_append] at this
 omega
theorem uB{α:Type}(f:α->Nat){l:List α}{i:Nat}{x:α}(h:l[i]?=some x):((l.take (i+1)).map f).sum=((l.take i).map f).sum+f x:=by
 obtain⟨hi,rfl⟩:=List.getElem?_eq_some_iff.1 h
 rw[ay hi,List.map_append,List.sum_append];simp
theorem eU(bs:List Bk)(b:Int):(aI bs b).length<=bs.length:=by
 rw[aI,List.length_map]
 exact Nat.le_trans (List.length_filter_le _ _) (by simp)
theorem AT{α:Type}{l:List α}{i:Nat}{x:α}(h:l[i]?=some x):(l.take (i+1)).zipIdx=(l.take i).zipIdx++[(x,i)]:=by
 obtain⟨hi,rfl⟩:=List.getElem?_eq_some_iff.1 h
 rw[ay hi,List.zipIdx_append,List.length_take,Nat.min_eq_left (by omega)]
 simp
theorem rn{bs:List Bk}{b:Int}{i:Nat}{x:Bk}(h:bs[i]?=some x):aI (bs.take (i+1)) b=aI (bs.take i) b++(if b∈x.next then[(i:Int)] else[]):=by
 rw[aI,AT h,List.filter_append,List.map_append]
 congr 1
 by_cases hb:b∈x.next<;>simp[hb]
theorem Bg(u:List Cd){i:Nat}{c:Cd}(h:u[i]?=some c)(j:Nat):unN (u.take i)+((c.blocks.take j).map bkN).sum<=unN u:=by
 have h1:=uB cdN h
 have h2:=rz cdN u (i+1)
 have h3:=rz bkN c.blocks j
 have h4:cdN c=(c.blocks.map bkN).sum:=rfl
 simp only[unN]
 omega
end
section
def nxC(bs:List Bk)(b:Nat):List Nat:=match bs[b]? with|some x=>x.next.map Int.toNat|none=>[]
def aV(bs:List Bk):Bool:= !bs.isEmpty&&bs.all λx=>x.next.all λn=>inR n 0 ((bs.length:Int)-1)
def stC(bs:List Bk)(b m:Nat):Prop:=m∈nxC bs b
theorem cG{bs:List Bk}(h:aV bs=true):0<bs.length:=by
 simp only[aV,Bool.and_eq_true] at h
 cases bs with
 |nil=>simp at h
 |cons x r=>simp
theorem yW{bs:List Bk}(h:aV bs=true){b:Nat}{x:Bk}(hx:bs[b]?=some x){n:Int}(hn:n∈x.next):0<=n/\n<bs.length:=by
 simp only[aV,Bool.and_eq_true] at h
 have h1:=List.all_eq_true.1 (List.all_eq_true.1 h.2 x (List.mem_of_getElem? hx)) n hn
 simp only[inR,Bool.and_eq_true,decide_eq_true_eq] at h1
 omega
theorem lD{bs:List Bk}{b:Nat}{x:Bk}(hx:bs[b]?=some x):nxC bs b=x.next.map Int.toNat:=by rw[nxC,hx]
theorem zy{bs:List Bk}(h:aV bs=true){b m:Nat}(hm:m∈nxC bs b):b<bs.length/\m<bs.length:=by
 cases hx:bs[b]? with
 |none=>rw[nxC,hx] at hm;cases hm
 |some x=>
  rw[lD hx] at hm
  obtain⟨n,hn,rfl⟩:=List.mem_map.1 hm
  have:=yW h hx hn
  exact⟨(List.getElem?_eq_some_iff.1 hx).1,by omega⟩
theorem Ct{bs:List Bk}(h:aV bs=true){b:Nat}(hb:Rch (stC bs) b):b<bs.length:=by
 cases hb with
 |zero _=>exact cG h
 |step _ e _=>exact(zy h e).2
noncomputable def bP (bs:List Bk) (a:Nat):Bool:= @decide (Rch (stC bs) a) (Classical.propDecidable _)
noncomputable def co (bs:List Bk) (a b:Nat):Bool:= @decide (Dom (stC bs) a b) (Classical.propDecidable _)
noncomputable def rwB (bs:List Bk) (a b:Nat):Bool:= @decide (RW (stC bs) (λx=>x=a) b) (Classical.propDecidable _)
theorem rchB_iff{bs:List Bk}{a:Nat}:bP bs a=true↔Rch (stC bs) a:= @decide_eq_true_iff _ (Classical.propDecidable _)
theorem domB_iff{bs:List Bk}{a b:Nat}:co bs a b=true↔Dom (stC bs) a b:= @decide_eq_true_iff _ (Classical.propDecidable _)
theorem nR{bs:List Bk}{a b:Nat}:rwB bs a b=true↔RW (stC bs) (λx=>x=a) b:= @decide_eq_true_iff _ (Classical.propDecidable _)
theorem oU(bs:List Bk)(a b:Nat):co bs a b=(bP bs a&&bP bs b&& !rwB bs a b):=by
 rw[Bool.eq_iff_iff]
 simp only[Bool.and_eq_true,Bool.not_eq_true',domB_iff,rchB_iff,←Bool.not_eq_true,nR]
 exact⟨λh=>⟨⟨h.1,h.2.1⟩,h.2.2⟩,λh=>⟨h.1.1,h.1.2,h.2⟩⟩
theorem eM{n x:Nat}:sn (List.replicate n false) x=decide (n<=x):=by
 rw[sn,List.getD_eq_getElem?_getD]
 by_cases h:x<n
 ·rw[List.getElem?_replicate,if_pos h]
  have:¬n<=x:=by omega
  simp[this]
 ·rw[List.getElem?_replicate,if_neg h]
  have:n<=x:=by omega
  simp[this]
theorem GI{bs:List Bk}(h:aV bs=true){no:Nat->Prop}{b:Nat}:RW (stC bs) (λy=>no y\/bs.length<=y) b↔RW (stC bs) no b:=by
 constructor
 ·exact RW.mono λb h=> .inl h
 ·intro hb
  induction hb with
  |zero hn=>exact .zero λx=>x.elim hn λx=>by have:=cG h;omega
  |step _ e hn ih=>exact .step ih e λx=>x.elim hn λx=>by have:=(zy h e).2;omega
theorem HZ{bs:List Bk}(h:aV bs=true){f:Nat}(hf:bs.length<=f){x:Nat}(hx:x<bs.length):sn (dfs (nxC bs) f (List.replicate bs.length false,[]) 0).1 x=bP bs x:=by
 have h0:sn (List.replicate bs.length false) 0=false:=by
  rw[eM]
  have:=cG h
  have e1:¬bs.length<=0:=by omega
  simp only[e1,decide_false]
 obtain⟨l,o,hl⟩:=tz (nx:=nxC bs) [] h0 (f:=f) (by rw[jZ];exact hf)
 rw[Bool.eq_iff_iff,o.seenE x,rchB_iff,hl x,eM]
 have e:(λy=>sn (List.replicate bs.length false) y=true)=λy=>False\/bs.length<=y:=by
  funext y;rw[eM];simp
 rw[e]
 have:=GI h (no:=λ_=>False) (b:=x)
 constructor
 ·rintro(h1|h1)
  ·simp at h1;omega
  ·exact this.1 h1
 ·intro h1;exact .inr (this.2 h1)
theorem AD{bs:List Bk}(h:aV bs=true){a:Nat}(ha:a≠0)(hal:a<bs.length){f:Nat}(hf:bs.length<=f){x:Nat}(hx:x<bs.length)(hxa:x≠a):sn (dfs (nxC bs) f ((List.replicate bs.length false).set a true,[]) 0).1 x=rwB bs a x:=by
 have hs:∀y,sn ((List.replicate bs.length false).set a true) y=(decide (bs.length<=y)||decide (y=a)):=λy=>by rw[gM,eM]
 have h0:sn ((List.replicate bs.length false).set a true) 0=false:=by
  rw[hs]
  have:=cG h
  have e1:¬bs.length<=0:=by omega
  have e2:¬0=a:=λe=>ha e.symm
  simp only[e1,e2,decide_false,Bool.or_self]
 have hfl:fls ((List.replicate bs.length false).set a true)<=f:=by
  have:=sw ((List.replicate bs.length false).set a true)
  rw[List.length_set,List.length_replicate] at this
  omega
 obtain⟨l,o,hl⟩:=tz (nx:=nxC bs) [] h0 hfl
 rw[Bool.eq_iff_iff,o.seenE x,nR,hl x,hs]
 have e:(λy=>sn ((List.replicate bs.length false).set a true) y=true)=λy=>y=a\/bs.length<=y:=by
  funext y;rw[hs];simp only[Bool.or_eq_true,decide_eq_true_eq];exact propext or_comm
 rw[e]
 have:=GI h (no:=λy=>y=a) (b:=x)
 constructor
 ·rintro(h1|h1)
  ·simp only[Bool.or_eq_true,decide_eq_true_eq] at h1
   omega
  ·exact this.1 h1
 ·intro h1;exact .inr (this.2 h1)
theorem zh(nx:Nat->List Nat):∀(f:Nat),(∀(ns:List Nat) (st:List Bool × List Nat),fls st.1<=f->(cM nx f st ns).2.length+fls (cM nx f st ns).1=st.2.length+fls st.1/\(cM nx f st ns).1.length=st.1.length/\fls (cM nx f st ns).1<=fls st.1)/\
 (∀(b:Nat) (st:List Bool × List Nat),sn st.1 b=false->fls st.1<=f->(dfs nx f st b).2.length+fls (dfs nx f st b).1=st.2.length+fls st.1/\(dfs nx f st b).1.length=st.1.length/\fls (dfs nx f st b).1<=fls st.1):=by
 intro f
 induction f with
 |zero=>
  have hno:∀(seen:List Bool),fls seen<=0->∀x,sn seen x=true:=λseen h x=>by
   by_cases hx:sn seen x=true
   ·exact hx
   ·have:=jX (seen:=seen) (b:=x) (by simpa using hx)
    omega
  refine⟨λns=>?_,λb st hb h=>absurd (hno st.1 h b) (by simp[hb])⟩
  induction ns with
  |nil=>intro st _;exact⟨rfl,rfl,Nat.le_refl _⟩
  |cons n r ih=>
   intro st h
   have e:cM nx 0 st (n::r)=cM nx 0 st r:=by unfold cM;rw[List.foldl_cons];simp only[hno st.1 h n,if_true]
   rw[e];exact ih st h
 |succ f ih=>
  have hb:∀(b:Nat) (st:List Bool × List Nat),sn st.1 b=false->fls st.1<=f+1->(dfs nx (f+1) st b).2.length+fls (dfs nx (f+1) st b).1=st.2.length+fls st.1/\(dfs nx (f+1) st b).1.length=st.1.length/\fls (dfs nx (f+1) st b).1<=fls st.1:=by
   intro b st hs h
   have hset:=jX hs
   have:=ih.1 (nx b) (st.1.set b true,st.2) (by simp only;omega)
   rw[ua]
   simp only[List.length_append,List.length_singleton,List.length_set] at this⊢
   omega
  refine⟨λns=>?_,hb⟩
  induction ns with
  |nil=>intro st _;exact⟨rfl,rfl,Nat.le_refl _⟩
  |cons n r ihn=>
   intro st h
   by_cases hn:sn st.1 n=true
   ·have e:cM nx (f+1) st (n::r)=cM nx (f+1) st r:=by unfold cM;rw[List.foldl_cons];simp only[hn,if_true]
    rw[e];exact ihn st h
   ·have hn':sn st.1 n=false:=by simpa using hn
    have e:cM nx (f+1) st (n::r)=cM nx (f+1) (dfs nx (f+1) st n) r:=by unfold cM;rw[List.foldl_cons];simp only[hn',Bool.false_eq_true,if_false]
    rw[e]
    have h1:=hb n st hn' h
    have h2:=ihn (dfs nx (f+1) st n) (by omega)
    omega
theorem Ez{nx:Nat->List Nat}{f:Nat}{st:List Bool × List Nat}{ns:List Nat}{i:Nat}{m:Nat}(h:ns[i]?=some m):cM nx f st (ns.take (i+1))=if sn (cM nx f st (ns.take i)).1 m then cM nx f st (ns.take i) else dfs nx f (cM nx f st (ns.take i)) m:=by
 obtain⟨hi,rfl⟩:=List.getElem?_eq_some_iff.1 h
 rw[ay hi,cM,List.foldl_append]
 rfl
end
section
theorem Cv{s:Bool}{h:List AO}{vs:List AV}{q:PV}{I:List Nat}(H:OwnL s h vs [q] I):∃v,vs=[v]:=by
 have:=H.len
 match vs,this with
 |[v],_=>exact⟨v,rfl⟩
end
section
def Fr(K:List Nat)(h h':List AO):Prop:=h.length<=h'.length/\∀i,i<h.length->i∉K->h'[i]?=h[i]?
theorem Fr.refl(K:List Nat)(h:List AO):Fr K h h:=⟨Nat.le_refl _,λ_ _ _=>rfl⟩
theorem Fr.more(K:List Nat)(h os:List AO):Fr K h (h++os):=⟨by simp,λi hi _=>List.getElem?_append_left hi⟩
theorem Fr.trans{K K':List Nat}{h h1 h2:List AO}(a:Fr K h h1)(b:Fr K' h1 h2)(hk:∀i∈K',i∈K\/h.length<=i):Fr K h h2:=
 ⟨Nat.le_trans a.1 b.1,λi hi hn=>by
   rw[b.2 i (Nat.lt_of_lt_of_le hi a.1) (λhm=>by
    rcases hk i hm with q|q
    ·exact hn q
    ·omega),a.2 i hi hn]⟩
theorem Fr.sub{K K':List Nat}{h h1:List AO}(a:Fr K h h1)(hk:∀i∈K,i∈K'\/h.length<=i):Fr K' h h1:=
 ⟨a.1,λi hi hn=>a.2 i hi λhm=>by
   rcases hk i hm with q|q
   ·exact hn q
   ·omega⟩
theorem Fr.from{K:List Nat}{h os h2:List AO}(a:Fr K (h++os) h2):Fr K h h2:=
 ⟨by have:=a.1;simp at this;omega,λi hi hn=>by rw[a.2 i (by simp;omega) hn,List.getElem?_append_left hi]⟩
theorem aD(q:PV):(AV.p q).isCell=true:=rfl
theorem an(a b c d:Nat):(AV.sl a b c d).isCell=true:=rfl
theorem al(a b c d:Nat):(AV.ptr a b c d).isCell=true:=rfl
theorem af:AV.nils.isCell=true:=rfl
theorem aE(q:PV):(AV.p q).cells=[AV.p q]:=rfl
theorem am(a b c d:Nat):(AV.sl a b c d).cells=[AV.sl a b c d]:=rfl
theorem aj(a b c d:Nat):(AV.ptr a b c d).cells=[AV.ptr a b c d]:=rfl
theorem ag:AV.nils.cells=[AV.nils]:=rfl
theorem ah(cs:List AV):(AV.agg cs).cells=cs:=rfl
end
section
section
variable {s:Bool} {h:List AO} {id sz:Nat} {rows:List (List AV)} {D:List (List PV)} {J:List Nat}
theorem Ky(H:RowOwn s h id sz rows D J){i:Nat}{e:List PV}(hi:D[i]?=some e):
 ∃r Ji,rows[i]?=some r/\OwnL s h r e Ji/\Ji.Nodup/\(∀j∈Ji,j∈J)/\∀(h2:List AO) (r':List AV) (e':List PV) (I2:List Nat),h2[id]?=some (.row sz (rows.set i r'))->(∀j∈J,j∉Ji->h2[j]?=h[j]?)->OwnL s h2 r' e' I2->I2.Nodup->(∀j∈I2,j∈Ji\/(j≠id/\j∉J))->e'.length=sz->
  ∃J',RowOwn s h2 id sz (rows.set i r') (D.set i e') J'/\∀j∈J',j∈J\/j∈I2:=by
 obtain⟨r,J1,Ji,J2,g1,rfl,g3,g4⟩:=H.own.put H.len H.rl H.dl hi
 have hn:=H.nd
 have hlt:∀j∈J1++(Ji++J2),j<h.length:=λj hj=>H.own.lt hj
 simp only[List.nodup_cons,List.nodup_append,List.mem_append,not_or] at hn hlt
 obtain⟨⟨n1,n2,n3⟩,m1,⟨m2,m3,m4⟩,m5⟩:=hn
 refine⟨r,Ji,g1,g3,m2,λj hj=>by simp[hj],λh2 r' e' I2 k1 k2 ho nd2 hs he=>?_⟩
 simp only[List.mem_append,not_or] at hs
 refine⟨J1++(I2++J2),⟨k1,by simp[H.len],λe he'=>?_,λe he'=>?_,g4 _ r' e' I2 (λj hj=>?_) ho,?_⟩,λj hj=>?_⟩
 ·rcases List.mem_or_eq_of_mem_set he' with h1|rfl
  ·exact H.rl e h1
  ·rw[ho.len,he]
 ·rcases List.mem_or_eq_of_mem_set he' with h1|rfl
  ·exact H.dl e h1
  ·exact he
 ·rcases List.mem_append.1 hj with hj|hj
  ·exact k2 j (by simp[hj]) λhm=>m5 j hj j (.inl hm) rfl
  ·exact k2 j (by simp[hj]) λhm=>m4 j hm j hj rfl
 ·simp only[List.nodup_cons,List.nodup_append,List.mem_append,not_or]
  refine⟨⟨n1,λhm=>?_,n3⟩,m1,⟨nd2,m3,λa ha b hb e=>?_⟩,λa ha b hb e=>?_⟩
  ·rcases hs _ hm with h|h
   ·exact n2 h
   ·exact h.1 rfl
  ·subst e
   rcases hs _ ha with h|h
   ·exact m4 a h a hb rfl
   ·exact h.2.2.2 hb
  ·subst e
   rcases hb with hb|hb
   ·rcases hs _ hb with h|h
    ·exact m5 a ha a (.inl h) rfl
    ·exact h.2.1 ha
   ·exact m5 a ha a (.inr hb) rfl
 ·simp only[List.mem_append] at hj⊢
  rcases hj with hj|hj|hj
  ·exact .inl (.inl hj)
  ·exact .inr hj
  ·exact .inl (.inr (.inr hj))
theorem Cc(H:RowOwn s h id sz rows D J){h2 os:List AO}(e2:h2=h++os){rs:List (List AV)}{es:List (List PV)}{I2:List Nat}(ho:OwnL s h2 rs.flatten es.flatten I2)(hl:rs.length=es.length)(hr:∀e∈rs,e.length=sz)(he:∀e∈es,e.length=sz)(nd2:I2.Nodup)(hd:∀j∈I2,j≠id/\j∉J):
 RowOwn s (h2.set id .dead++[.row sz (rows++rs)]) h2.length sz (rows++rs) (D++es) (J++I2):=by
 subst e2
 have hid:=H.lt
 have hn:=H.nd
 rw[List.nodup_cons] at hn
 have hid2:id∉I2:=λhm=>(hd _ hm).1 rfl
 have hlt:∀j∈J,j<h.length:=λj hj=>H.own.lt hj
 have hlt2:∀j∈I2,j<(h++os).length:=λj hj=>ho.lt hj
 refine⟨by rw[List.getElem?_append_right (by simp)];simp,by simp[H.len,hl],λe he'=>?_,λe he'=>?_,?_,?_⟩
 ·rcases List.mem_append.1 he' with h1|h1
  ·exact H.rl e h1
  ·exact hr e h1
 ·rcases List.mem_append.1 he' with h1|h1
  ·exact H.dl e h1
  ·exact he e h1
 ·rw[List.flatten_append,List.flatten_append]
  exact(((H.own.more os).set_out hn.1 _).more _).app ((ho.set_out hid2 _).more _)
 ·rw[List.nodup_cons,List.nodup_append]
  refine⟨λhm=>?_,hn.2,nd2,λa ha b hb e=>?_⟩
  ·rcases List.mem_append.1 hm with hm|hm
   ·have:=hlt _ hm;simp at this;omega
   ·have:=hlt2 _ hm;omega
  ·subst e;exact(hd a hb).2 ha
end
def lwO(l:List Fd)(pr:Int)(w:Lw)(K:AV):AO:= .row 5 [[.p (fdL l),.p (.int .i64 pr),.p (.int .i64 w.regs),K,.p (.int .i64 w.pos)]]
def NoC(h:List AO)(K:AV):Prop:=(∀q,K≠ .p q)/\∀kid n rows,K= .sl kid 5 0 n->h[kid]?=some (.row 5 rows)->∀r∈rows,∀q,r[1]?≠some (.p q)
structure LS (mk:Lw->AV->AO) (L:Nat) (w:Lw) (h:List AO) (K:AV) (I:List Nat):Prop where
 here:h[L]?=some (mk w K)
 own:OwnL false h [K] [bkL w.bs] I
 nd:(L::I).Nodup
 noc:NoC h K
def Frm(S:List Nat)(h h':List AO):Prop:=h.length<=h'.length/\∀i,i<h.length->i∉S->h'[i]?=h[i]?
theorem Frm.refl(S:List Nat)(h:List AO):Frm S h h:=⟨Nat.le_refl _,λ_ _ _=>rfl⟩
theorem Frm.more(S:List Nat)(h os:List AO):Frm S h (h++os):=⟨by simp,λi hi _=>List.getElem?_append_left hi⟩
theorem Frm.trans{S T:List Nat}{h h1 h2:List AO}(a:Frm S h h1)(b:Frm T h1 h2)(hT:∀j∈T,j∈S\/h.length<=j):Frm S h h2:=
 ⟨Nat.le_trans a.1 b.1,λi hi hn=>by
   rw[b.2 i (by have:=a.1;omega) λhm=>by
    rcases hT i hm with h|h
    ·exact hn h
    ·omega,a.2 i hi hn]⟩
def LR(mk:Lw->AV->AO)(L:Nat)(w:Lw)(S:List Nat)(h h':List AO):Prop:=∃K I,LS mk L w h' K I/\Frm (L::S) h h'/\∀j∈I,j∈S\/h.length<=j
theorem LR.seq{mk:Lw->AV->AO}{L:Nat}{w2:Lw}{S T:List Nat}{h h1 h2:List AO}{I:List Nat}(hf:Frm (L::S) h h1)(hI:∀j∈I,j∈S\/h.length<=j)(b:LR mk L w2 T h1 h2)(hT:∀j∈T,j∈I\/j∈S\/h.length<=j):LR mk L w2 S h h2:=by
 obtain⟨K2,I2,a1,a2,a3⟩:=b
 have hT':∀j∈T,j∈S\/h.length<=j:=λj hj=>by
  rcases hT j hj with h|h
  ·exact hI j h
  ·exact h
 refine⟨K2,I2,a1,hf.trans a2 λj hj=>?_,λj hj=>?_⟩
 ·rcases List.mem_cons.1 hj with rfl|hj
  ·exact .inl (by simp)
  ·rcases hT' j hj with h|h
   ·exact .inl (by simp[h])
   ·exact .inr h
 ·rcases a3 j hj with h|h
  ·exact hT' j h
  ·exact .inr (Nat.le_trans hf.1 h)
theorem Ao(h:List AO):∀l:List Int,OwnL false h (l.map λn=>[AV.p (.int .i64 n)]).flatten (l.map λn=>[PV.int .i64 n]).flatten []
 |[]=> .nil
 |w::r=> .p _ (λ_=>rfl) (Ao h r)
theorem tq{h:List AO}{id:Nat}{l:List Int}{n:Nat}(hg:h[id]?=some (.row 1 (l.map λn=>[AV.p (.int .i64 n)])))(hn:n=l.length):OwnL false h [.sl id 1 0 n] [aC l] [id]:=by
 have:RowOwn false h id 1 (l.map λn=>[AV.p (.int .i64 n)]) (l.map λn=>[PV.int .i64 n]) []:=
  ⟨hg,by simp,λe he=>by obtain⟨w,_,rfl⟩:=List.mem_map.1 he;rfl,λe he=>by obtain⟨w,_,rfl⟩:=List.mem_map.1 he;rfl,Ao _ l,by simp⟩
 exact this.tree (by simpa using hn)
theorem Ks{h:List AO}{vs:List AV}{b:Bk}{I:List Nat}(H:OwnL false h vs b.cs I):∃P N X IP IN IX,vs=[P,N,.p (.int .i64 b.jump),.p (.int .i64 b.on),X]/\I=IP++(IN++IX)/\OwnL false h [P] [phL b.phis] IP/\OwnL false h [N] [inL b.ins] IN/\OwnL false h [X] [aC b.next] IX:=by
 obtain⟨P,N,x,y,X,rfl⟩:∃P N x y X,vs=[P,N,x,y,X]:=by
  have:=H.len
  match vs,this with
  |[P,N,x,y,X],_=>exact⟨P,N,x,y,X,rfl⟩
 rw[show b.cs=[phL b.phis,inL b.ins,.int .i64 b.jump,.int .i64 b.on,aC b.next] from rfl] at H
 obtain⟨I1,I',rfl,h1,H⟩:=H.one
 obtain⟨I2,I3,rfl,h2,H⟩:=H.one
 cases H with
 |p _ _ H=>
  cases H with
  |p _ _ H=>exact⟨P,N,X,I1,I2,I3,rfl,rfl,h1,h2,H⟩
theorem Bv{h:List AO}{b:Bk}{P N X:AV}{IP IN IX:List Nat}(h1:OwnL false h [P] [phL b.phis] IP)(h2:OwnL false h [N] [inL b.ins] IN)(h3:OwnL false h [X] [aC b.next] IX):OwnL false h [P,N,.p (.int .i64 b.jump),.p (.int .i64 b.on),X] b.cs (IP++(IN++IX)):=by
 rw[show b.cs=[phL b.phis,inL b.ins,.int .i64 b.jump,.int .i64 b.on,aC b.next] from rfl]
 exact h1.app (h2.app (.p _ (λ_=>rfl) (.p _ (λ_=>rfl) h3)))
theorem kx{s:Bool}{h:List AO}{v:AV}{q:PV}{I:List Nat}(H:OwnL s h [v] [q] I):v.cells=[v]/\v.isCell=true:=by
 cases H with
 |p _ _ _=>exact⟨rfl,rfl⟩
 |nils _ _=>exact⟨rfl,rfl⟩
 |sl id sz n rows es _ _ _ _ _ _ _=>exact⟨rfl,rfl⟩
section
variable {mk:Lw->AV->AO} {L:Nat} {w:Lw} {h:List AO} {K:AV} {I:List Nat}
theorem LS.rows(H:LS mk L w h K I)(hp:0<w.bs.length):∃kid rows J,K= .sl kid 5 0 w.bs.length/\I=kid::J/\RowOwn false h kid 5 rows (w.bs.map Bk.cs) J:=by
 have ho:=H.own
 have nd:=(List.nodup_cons.1 H.nd).2
 rw[show bkL w.bs= .lst 5 (w.bs.map Bk.cs) from rfl] at ho
 rcases ho.inv nd with⟨h0,_⟩|⟨_,hh⟩|⟨id,rows,J,rfl,rfl,hr⟩
 ·rw[List.map_eq_nil_iff.1 h0] at hp;simp at hp
 ·exact(H.noc.1 _ hh.1).elim
 ·exact⟨id,rows,J,by rw[List.length_map],rfl,hr⟩
theorem LS.lt(H:LS mk L w h K I):L<h.length:=(List.getElem?_eq_some_iff.1 H.here).1
theorem ss{h:List AO}{kid n:Nat}{l:List Bk}{I:List Nat}(H:OwnL false h [.sl kid 5 0 n] [bkL l] I):kid∈I:=by
 rw[show bkL l= .lst 5 (l.map Bk.cs) from rfl] at H
 cases H with
 |sl id sz n rows es a1 a2 a3 a4 a5 a6 H=>simp
theorem LS.frame(H:LS mk L w h K I){h':List AO}(e:∀i∈L::I,h'[i]?=h[i]?):LS mk L w h' K I:=
 ⟨by rw[e L (by simp)];exact H.here,H.own.frame λi hi=>e i (by simp[hi]),H.nd,H.noc.1,λkid n rows eK hg=>by
   have ho:=H.own
   rw[eK] at ho
   rw[e kid (by simp[ss ho])] at hg
   exact H.noc.2 kid n rows eK hg⟩
theorem LS.more(H:LS mk L w h K I)(os:List AO):LS mk L w (h++os) K I:=H.frame λi hi=>by
 rcases List.mem_cons.1 hi with rfl|hi
 ·exact List.getElem?_append_left H.lt
 ·exact List.getElem?_append_left (H.own.lt hi)
theorem LS.modB(H:LS mk L w h K I)(hp:w.pos<w.bs.length):∃kid rows b P N X IP IN IX,K= .sl kid 5 0 w.bs.length/\kid∈I/\h[kid]?=some (.row 5 rows)/\rows.length=w.bs.length/\w.bs[w.pos]?=some b/\rows[w.pos]?=some [P,N,.p (.int .i64 b.jump),.p (.int .i64 b.on),X]/\
 (∀q,N≠ .p q)/\OwnL false h [P] [phL b.phis] IP/\OwnL false h [N] [inL b.ins] IN/\OwnL false h [X] [aC b.next] IX/\(IP++(IN++IX)).Nodup/\(∀j∈IP++(IN++IX),j∈I/\j≠kid/\j≠L)/\kid≠L/\
 ∀(h2:List AO) (r':List AV) (b':Bk) (I2:List Nat) (w2:Lw),h2[kid]?=some (.row 5 (rows.set w.pos r'))->(∀j,j<h.length->j≠L->j≠kid->j∉IP++(IN++IX)->h2[j]?=h[j]?)->h.length<=h2.length->h2[L]?=some (mk w2 (.sl kid 5 0 w.bs.length))->OwnL false h2 r' b'.cs I2->I2.Nodup->(∀j∈I2,j∈IP++(IN++IX)\/(j≠L/\j∉I))->w2.bs=w.bs.set w.pos b'->(∀q,r'[1]?≠some (.p q))->
  ∃I',LS mk L w2 h2 (.sl kid 5 0 w.bs.length) I'/\Frm (L::I) h h2/\∀j∈I',j∈I\/j∈I2:=by
 obtain⟨kid,rows,J,rfl,rfl,hr⟩:=H.rows (by omega)
 have hg:=List.getElem?_eq_getElem hp
 generalize w.bs[w.pos]=b at hg
 obtain⟨r,Ji,g1,g2,g3,g4,g5⟩:=Ky hr (i:=w.pos) (e:=b.cs) (by rw[List.getElem?_map,hg];rfl)
 obtain⟨P,N,X,IP,IN,IX,rfl,rfl,hP,hN,hX⟩:=Ks g2
 have hnd:=H.nd
 have hn:=hr.nd
 have hlen:=hr.len
 rw[List.length_map] at hlen
 simp only[List.nodup_cons,List.mem_cons,not_or] at hnd hn
 have hnL:∀j∈J,j≠L:=λj hj e=>hnd.1.2 (e▸hj)
 have hnK:∀j∈J,j≠kid:=λj hj e=>hn.1 (e▸hj)
 refine⟨kid,rows,b,P,N,X,IP,IN,IX,rfl,by simp,hr.here,hlen,hg,g1,λq e=>H.noc.2 kid _ rows rfl hr.here _ (List.mem_of_getElem? g1) q (by rw[e];rfl),hP,hN,hX,g3,λj hj=>⟨List.mem_cons_of_mem _ (g4 j hj),hnK j (g4 j hj),hnL j (g4 j hj)⟩,λe=>hnd.1.1 e.symm,λh2 r' b' I2 w2 k1 k2 k3 k4 k5 k6 k7 k8 k9=>?_⟩
 have hLl:=H.lt
 obtain⟨J',r1,r2⟩:=g5 h2 r' b'.cs I2 k1 (λj hj hn=>k2 j (hr.own.lt hj) (hnL j hj) (hnK j hj) hn) k5 k6 (λj hj=>by
  rcases k7 j hj with h|h
  ·exact .inl h
  ·simp only[List.mem_cons,not_or] at h
   exact .inr h.2) rfl
 have hI2:∀j∈J',j≠L/\j≠kid:=λj hj=>by
  have hnd':=r1.nd
  rw[List.nodup_cons] at hnd'
  refine⟨λe=>?_,λe=>hnd'.1 (e▸hj)⟩
  rcases r2 j hj with h|h
  ·exact hnL j h e
  ·rcases k7 j h with h|h
   ·exact hnL j (g4 j h) e
   ·exact h.1 e
 refine⟨kid::J',⟨k4,?_,?_,?_⟩,⟨k3,λi hi hn=>?_⟩,λj hj=>?_⟩
 ·rw[show bkL w2.bs= .lst 5 (w2.bs.map Bk.cs) from rfl,k8,List.map_set]
  exact r1.tree (by simp)
 ·simp only[List.nodup_cons,List.mem_cons,not_or]
  exact⟨⟨λe=>hnd.1.1 e,λhm=>(hI2 L hm).1 rfl⟩,List.nodup_cons.1 r1.nd⟩
 ·refine⟨λq e=>(by cases e),?_⟩
  intro kid2 n rows2 eK hg2 r hr2
  cases eK
  rw[k1] at hg2
  cases hg2
  rcases List.mem_or_eq_of_mem_set hr2 with h1|rfl
  ·exact H.noc.2 kid _ rows rfl hr.here r h1
  ·exact k9
 ·simp only[List.mem_cons,not_or] at hn
  exact k2 i hi hn.1 hn.2.1 λhm=>hn.2.2 (g4 i hm)
 ·rcases List.mem_cons.1 hj with rfl|hj
  ·exact .inl (by simp)
  ·rcases r2 j hj with h|h
   ·exact .inl (by simp[h])
   ·exact .inr h
end
end
section
def MkF(mk:Lw->AV->AO):Prop:=∀w w2 K,w.regs=w2.regs->w.pos=w2.pos->mk w K=mk w2 K
section
variable {mk:Lw->AV->AO} {L:Nat} {w:Lw} {h:List AO} {K:AV} {I:List Nat}
theorem LS.putAt(hmk:MkF mk)(H:LS mk L w h K I)(hp:w.pos<w.bs.length)(x:Ii){A:AV}{J:List Nat}(hA:OwnL false h [A] [aC x.args] J)(ndJ:J.Nodup)(hJ:∀j∈J,j≠L/\j∉I):
 ∃kid rows b P N X,K= .sl kid 5 0 w.bs.length/\(∀t,(h++t)[kid]?=some (.row 5 rows))/\rows.length=w.bs.length/\w.bs[w.pos]?=some b/\rows[w.pos]?=some [P,N,.p (.int .i64 b.jump),.p (.int .i64 b.on),X]/\(P.cells=[P]/\P.isCell=true)/\(N.cells=[N]/\N.isCell=true)/\(X.cells=[X]/\X.isCell=true)/\kid<h.length/\
  ((N= .nils/\b.ins=[]/\∀os,LR mk L (w.put x) (I++J) h ((h++(os++[AO.row 4 [[.p (.int .i64 x.op),.p (.int .i64 x.to),A,.p (.int .i64 x.n)]]])).set kid (AO.row 5 (rows.set w.pos [P,.sl (h.length+os.length) 4 0 1,.p (.int .i64 b.jump),.p (.int .i64 b.on),X]))))\/
   ∃iid rowsN,N= .sl iid 4 0 b.ins.length/\(∀t,(h++t)[iid]?=some (.row 4 rowsN))/\rowsN.length=b.ins.length/\iid<h.length/\iid≠kid/\
    ∀os,LR mk L (w.put x) (I++J) h (((h++os).set iid .dead++[AO.row 4 (rowsN++[[.p (.int .i64 x.op),.p (.int .i64 x.to),A,.p (.int .i64 x.n)]])]).set kid (AO.row 5 (rows.set w.pos [P,.sl (h.length+os.length) 4 0 (b.ins.length+1),.p (.int .i64 b.jump),.p (.int .i64 b.on),X])))):=by
 obtain⟨kid,rows,b,P,N,X,IP,IN,IX,rfl,hkI,hrow,hlen,hb,hcur,hNc0,hP,hN,hX,hnd,hsub,hkL,close⟩:=H.modB hp
 have hkl:kid<h.length:=(List.getElem?_eq_some_iff.1 hrow).1
 have hLl:=H.lt
 have hbs:(w.put x).bs=w.bs.set w.pos (b.put x):=ml hb
 have hmkw:∀K,mk (w.put x) K=mk w K:=λK=>hmk _ _ K rfl rfl
 simp only[List.nodup_append,List.mem_append] at hnd hsub
 have hPlt:=λj hj=>hP.lt (i:=j) hj
 have hXlt:=λj hj=>hX.lt (i:=j) hj
 have hxcs:x.cs=[.int .i64 x.op,.int .i64 x.to,aC x.args,.int .i64 x.n]:=rfl
 refine⟨kid,rows,b,P,N,X,rfl,λt=>by rw[List.getElem?_append_left hkl];exact hrow,hlen,hb,hcur,kx hP,kx hN,kx hX,hkl,?_⟩
 rw[show inL b.ins= .lst 4 (b.ins.map Ii.cs) from rfl] at hN
 have hfin:∀(h2:List AO) (nid n:Nat) (IN':List Nat),h2[kid]?=some (.row 5 (rows.set w.pos [P,.sl nid 4 0 n,.p (.int .i64 b.jump),.p (.int .i64 b.on),X]))->(∀j,j<h.length->j≠kid->j∉IN->h2[j]?=h[j]?)->h.length<=h2.length->OwnL false h2 [.sl nid 4 0 n] [inL (b.ins++[x])] IN'->IN'.Nodup->(∀j∈IN',j∈IN\/j∈J\/h.length<=j)->
  LR mk L (w.put x) (I++J) h h2:=by
  intro h2 nid n IN' k1 k2 k3 k4 k5 k6
  have hgt:∀j,h.length<=j->j≠L/\j∉I:=λj hj=>⟨by omega,λhm=>by have:=H.own.lt hm;omega⟩
  obtain⟨I',a1,a2,a3⟩:=close h2 _ (b.put x) (IP++(IN'++IX)) (w.put x) k1 (λj hj h1 h2 h3=>k2 j hj h2 λhm=>h3 (by simp[hm])) k3 (by
   rw[hmkw,k2 L hLl (λe=>hkL e.symm) λhm=>(hsub L (.inr (.inl hm))).2.2 rfl];exact H.here)
   (Bv (b:=b.put x) (hP.frame λj hj=>k2 j (hPlt j hj) (hsub j (.inl hj)).2.1 λhm=>hnd.2.2 j hj j (.inl hm) rfl) k4 (hX.frame λj hj=>k2 j (hXlt j hj) (hsub j (.inr (.inr hj))).2.1 λhm=>hnd.2.1.2.2 j hm j hj rfl))
   (by
     simp only[List.nodup_append,List.mem_append]
     refine⟨hnd.1,⟨k5,hnd.2.1.2.1,λa ha c hc e=>?_⟩,λa ha c hc e=>?_⟩
     ·subst e
      rcases k6 a ha with h|h|h
      ·exact hnd.2.1.2.2 a h a hc rfl
      ·exact(hJ a h).2 (hsub a (.inr (.inr hc))).1
      ·have:=hXlt a hc;omega
     ·subst e
      rcases hc with hc|hc
      ·rcases k6 a hc with h|h|h
       ·exact hnd.2.2 a ha a (.inl h) rfl
       ·exact(hJ a h).2 (hsub a (.inl ha)).1
       ·have:=hPlt a ha;omega
      ·exact hnd.2.2 a ha a (.inr hc) rfl)
   (λj hj=>by
     simp only[List.mem_append] at hj⊢
     rcases hj with hj|hj|hj
     ·exact .inl (.inl hj)
     ·rcases k6 j hj with h|h|h
      ·exact .inl (.inr (.inl h))
      ·exact .inr (hJ j h)
      ·exact .inr (hgt j h)
     ·exact .inl (.inr (.inr hj))) hbs (by simp)
  refine⟨_,I',a1,⟨a2.1,λi hi hn=>a2.2 i hi λhm=>hn ?_⟩,λj hj=>?_⟩
  ·rcases List.mem_cons.1 hm with rfl|hm
   ·simp
   ·simp[hm]
  ·rcases a3 j hj with h|h
   ·exact .inl (by simp[h])
   ·simp only[List.mem_append] at h⊢
    rcases h with h|h|h
    ·exact .inl (.inl (hsub j (.inl h)).1)
    ·rcases k6 j h with h|h|h
     ·exact .inl (.inl (hsub j (.inr (.inl h))).1)
     ·exact .inl (.inr h)
     ·exact .inr h
    ·exact .inl (.inl (hsub j (.inr (.inr h))).1)
 have hxO:∀h2,OwnL false h2 [A] [aC x.args] J->OwnL false h2 [.p (.int .i64 x.op),.p (.int .i64 x.to),A,.p (.int .i64 x.n)] x.cs J:=λh2 hA2=>by
  rw[hxcs]
  have:=hA2.app (OwnL.p (.int .i64 x.n) (λ_=>rfl) (OwnL.nil (s:=false) (h:=h2)))
  rw[List.append_nil] at this
  exact .p _ (λ_=>rfl) (.p _ (λ_=>rfl) this)
 have hkJ:kid∉J:=λhm=>(hJ kid hm).2 hkI
 have hJlt:=λj hj=>hA.lt (i:=j) hj
 rcases hN.inv hnd.2.1.1 with⟨h0,rfl,hNc⟩|⟨_,hh,_⟩|⟨iid,rowsN,JN,rfl,rfl,hr⟩
 ·have hi0:b.ins=[]:=List.map_eq_nil_iff.1 h0
  refine .inl ⟨hNc.resolve_right (hNc0 _),hi0,λos=>?_⟩
  have hl2:(h++(os++[AO.row 4 [[.p (.int .i64 x.op),.p (.int .i64 x.to),A,.p (.int .i64 x.n)]]])).length=h.length+os.length+1:=by simp;omega
  have hrow4:RowOwn false ((h++(os++[AO.row 4 [[.p (.int .i64 x.op),.p (.int .i64 x.to),A,.p (.int .i64 x.n)]]])).set kid (AO.row 5 (rows.set w.pos [P,.sl (h.length+os.length) 4 0 1,.p (.int .i64 b.jump),.p (.int .i64 b.on),X]))) (h.length+os.length) 4 [[.p (.int .i64 x.op),.p (.int .i64 x.to),A,.p (.int .i64 x.n)]] [x.cs] J:=by
   refine⟨?_,rfl,by simp,by simp[hxcs],?_,?_⟩
   ·rw[List.getElem?_set_ne (by omega),←List.append_assoc,List.getElem?_append_right (by simp)];simp
   ·rw[List.flatten_singleton,List.flatten_singleton]
    exact hxO _ ((hA.more _).set_out hkJ _)
   ·rw[List.nodup_cons];exact⟨λhm=>by have:=hJlt _ hm;omega,ndJ⟩
  refine hfin _ (h.length+os.length) 1 ((h.length+os.length)::J) (List.getElem?_set_self (by omega)) (λj hj h1 _=>by rw[List.getElem?_set_ne (Ne.symm h1),List.getElem?_append_left hj]) (by rw[List.length_set];omega) (by
   rw[hi0];exact hrow4.tree rfl) hrow4.nd (λj hj=>?_)
  rcases List.mem_cons.1 hj with rfl|hj
  ·exact .inr (.inr (by omega))
  ·exact .inr (.inl hj)
 ·exact(hNc0 _ hh).elim
 ·have hiI:iid∈I:=(hsub iid (.inr (.inl (by simp)))).1
  have hik:iid≠kid:=(hsub iid (.inr (.inl (by simp)))).2.1
  have hil:=hr.lt
  have hlenN:=hr.len
  rw[List.length_map] at hlenN
  refine .inr ⟨iid,rowsN,by rw[List.length_map],λt=>by rw[List.getElem?_append_left hil];exact hr.here,hlenN,hil,hik,λos=>?_⟩
  have hJN:∀j∈J,j≠iid/\j∉JN:=λj hj=>⟨λe=>(hJ j hj).2 (e▸hiI),λhm=>(hJ j hj).2 (hsub j (.inr (.inl (by simp[hm])))).1⟩
  have hra:=Cc hr (h2:=h++os) rfl (rs:=[[.p (.int .i64 x.op),.p (.int .i64 x.to),A,.p (.int .i64 x.n)]]) (es:=[x.cs]) (I2:=J) (by
   rw[List.flatten_singleton,List.flatten_singleton];exact hxO _ (hA.more _)) rfl (by simp) (by simp[hxcs]) ndJ hJN
  have hl0:(h++os).length=h.length+os.length:=by simp
  rw[hl0] at hra
  have hkn:kid∉(h.length+os.length)::(JN++J):=by
   simp only[List.mem_cons,List.mem_append,not_or]
   exact⟨by omega,λhm=>(hsub kid (.inr (.inl (by simp[hm])))).2.1 rfl,hkJ⟩
  have hra2:=hra.frame (h':=((h++os).set iid .dead++[AO.row 4 (rowsN++[[.p (.int .i64 x.op),.p (.int .i64 x.to),A,.p (.int .i64 x.n)]])]).set kid (AO.row 5 (rows.set w.pos [P,.sl (h.length+os.length) 4 0 (b.ins.length+1),.p (.int .i64 b.jump),.p (.int .i64 b.on),X]))) (λi hi=>List.getElem?_set_ne λe=>hkn (by rw[e];exact hi))
  refine hfin _ (h.length+os.length) (b.ins.length+1) ((h.length+os.length)::(JN++J)) (List.getElem?_set_self (by simp;omega)) (λj hj h1 h2=>?_) (by simp;omega) (by
   rw[show inL (b.ins++[x])= .lst 4 (b.ins.map Ii.cs++[x.cs]) by simp[inL]]
   exact hra2.tree (by simp)) hra2.nd (λj hj=>?_)
  ·rw[List.getElem?_set_ne (Ne.symm h1),List.getElem?_append_left (by simp;omega),List.getElem?_set_ne (λe=>h2 (by simp[←e])),List.getElem?_append_left hj]
  ·simp only[List.mem_cons,List.mem_append] at hj⊢
   rcases hj with rfl|hj|hj
   ·exact .inr (.inr (by omega))
   ·exact .inl (.inr hj)
   ·exact .inr (.inl hj)
theorem LS.finAt(hmk:MkF mk)(H:LS mk L w h K I)(hp:w.pos<w.bs.length):
 ∃kid rows b P N X,K= .sl kid 5 0 w.bs.length/\(∀t,(h++t)[kid]?=some (.row 5 rows))/\rows.length=w.bs.length/\w.bs[w.pos]?=some b/\rows[w.pos]?=some [P,N,.p (.int .i64 b.jump),.p (.int .i64 b.on),X]/\(P.cells=[P]/\P.isCell=true)/\(N.cells=[N]/\N.isCell=true)/\(X.cells=[X]/\X.isCell=true)/\kid<h.length/\kid≠L/\
  ∀(j o:Int) (g:Nat) (nx:List Int) (V:AV) (J:List Nat),OwnL false h [V] [aC nx] J->J.Nodup->(∀j∈J,j≠L/\j∉I)->
   LR mk L (w.fin j o g nx) (I++J) h ((h.set kid (AO.row 5 (rows.set w.pos [P,N,.p (.int .i64 j),.p (.int .i64 o),V]))).set L (mk (w.fin j o g nx) K)):=by
 obtain⟨kid,rows,b,P,N,X,IP,IN,IX,rfl,hkI,hrow,hlen,hb,hcur,hNc0,hP,hN,hX,hnd,hsub,hkL,close⟩:=H.modB hp
 have hkl:kid<h.length:=(List.getElem?_eq_some_iff.1 hrow).1
 have hLl:=H.lt
 simp only[List.nodup_append,List.mem_append] at hnd hsub
 refine⟨kid,rows,b,P,N,X,rfl,λt=>by rw[List.getElem?_append_left hkl];exact hrow,hlen,hb,hcur,kx hP,kx hN,kx hX,hkl,hkL,λj o g nx V J hV ndJ hJ=>?_⟩
 have hbs:(w.fin j o g nx).bs=w.bs.set w.pos (b.fin j o nx):=ml hb
 have hkJ:kid∉J:=λhm=>(hJ kid hm).2 hkI
 have hLJ:L∉J:=λhm=>(hJ L hm).1 rfl
 have hfr:∀i,i≠kid->i≠L->((h.set kid (AO.row 5 (rows.set w.pos [P,N,.p (.int .i64 j),.p (.int .i64 o),V]))).set L (mk (w.fin j o g nx) (.sl kid 5 0 w.bs.length)))[i]?=h[i]?:=λi h1 h2=>by
  rw[List.getElem?_set_ne (Ne.symm h2),List.getElem?_set_ne (Ne.symm h1)]
 obtain⟨I',a1,a2,a3⟩:=close _ _ (b.fin j o nx) (IP++(IN++J)) (w.fin j o g nx) (by rw[List.getElem?_set_ne (Ne.symm hkL)];exact List.getElem?_set_self hkl) (λi hi h1 h2 h3=>hfr i h2 h1) (by simp) (List.getElem?_set_self (by simpa using hLl))
  (Bv (b:=b.fin j o nx) (hP.frame λi hi=>hfr i (hsub i (.inl hi)).2.1 (hsub i (.inl hi)).2.2) (hN.frame λi hi=>hfr i (hsub i (.inr (.inl hi))).2.1 (hsub i (.inr (.inl hi))).2.2) (hV.frame λi hi=>hfr i (λe=>hkJ (e▸hi)) (hJ i hi).1))
  (by
    simp only[List.nodup_append,List.mem_append]
    refine⟨hnd.1,⟨hnd.2.1.1,ndJ,λa ha c hc e=>?_⟩,λa ha c hc e=>?_⟩
    ·subst e;exact(hJ a hc).2 (hsub a (.inr (.inl ha))).1
    ·subst e
     rcases hc with hc|hc
     ·exact hnd.2.2 a ha a (.inl hc) rfl
     ·exact(hJ a hc).2 (hsub a (.inl ha)).1)
  (λi hi=>by
    simp only[List.mem_append] at hi⊢
    rcases hi with hi|hi|hi
    ·exact .inl (.inl hi)
    ·exact .inl (.inr (.inl hi))
    ·exact .inr (hJ i hi)) hbs (by simpa using hNc0)
 refine⟨_,I',a1,⟨a2.1,λi hi hn=>a2.2 i hi λhm=>hn ?_⟩,λi hi=>?_⟩
 ·rcases List.mem_cons.1 hm with rfl|hm
  ·simp
  ·simp[hm]
 ·rcases a3 i hi with h|h
  ·exact .inl (by simp[h])
  ·simp only[List.mem_append] at h⊢
   rcases h with h|h|h
   ·exact .inl (.inl (hsub i (.inl h)).1)
   ·exact .inl (.inl (hsub i (.inr (.inl h))).1)
   ·exact .inl (.inr h)
end
end
section
theorem dC{α:Type}{p:α->Bool}{xs:List α}{i:Nat}(h:i<xs.length):(xs.take (i+1)).all p=((xs.take i).all p&&p xs[i]):=by
 rw[ay h,List.all_append];simp
theorem oN{α:Type}{p:α->Bool}{xs:List α}{i:Nat}(h:i<xs.length)(hp:p xs[i]=false):xs.all p=false:=
 List.all_eq_false.2 ⟨_,List.getElem_mem h,by simp[hp]⟩
theorem gO{α:Type}{p:α->Bool}{xs:List α}{i:Nat}(h:xs.length<=i)(ht:(xs.take i).all p=true):xs.all p=true:=by
 rwa[List.take_of_length_le h] at ht
def mE:AK:=qY [wP 2 4 0,qc 4 wd] [xj 10 2,qu 11 10,xf 12 fz 11,qf 9 12,qb 13 (.ext 0 (.t 9)),qb 14 (.ext 1 (.t 9)),qf 5 13,qf 6 14] (qB [xv 15,qC 16 .lss 15 1,qf 17 16,xz 18 17 0 2,xh 19 17 18,qK 20 17 (xo [.t 19,wN,qh 13]),yr 21 17 20,xQ 22 17 21,qf 23 22,xz 24 23 3 2,xh 25 23 24,qK 26 23 (qV 25),wY 27 23 5,wY 28 23 6,qK 29 23 (xo [.t 26,.t 27,.t 28]),yr 30 23 29,xQ 31 23 30] (yq 31 4) (.cut (.reg [xj 32 2,qu 33 32,wO 34 33 2,qf 35 34,xz 36 35 0 2,xh 37 35 36,yb 38 35 .eql 37 (qh 13),xQ 39 35 38,qf 7 39]) (xO [x9 40,xr 41 2,qu 42 41,xf 43 bQ 42,qb 44 (.beq true (.t 40) (.t 43)),qf 45 44,wY 46 45 7,yr 47 45 46,wY 48 45 47,xt 49 48 2 2,xa 50 48 49,qL 51 48 (.bins .neq (.t 50) (.c wo)),qK 52 45 (qO 48 (.t 51) wd),xQ 53 45 52,qf 54 53,xz 55 54 1 2,xh 56 54 55,qK 57 54 (xo [.t 56,qQ,qh 255]),yr 58 54 57,xQ 59 54 58,qf 60 59,xz 61 60 0 2,xh 62 60 61,yb 63 60 .neq 62 wN,wY 64 60 63,xt 65 64 1 2,xa 66 64 65,xE 67 64 .neq 66 qQ,qK 68 60 (qO 64 (.t 67) wd),xQ 69 60 68] (yq 69 4) (wH (wZ 8) (xD 0 [qf 70 8,qp 71 3 2,qu 72 71,wg 73 72,wJ 74 70 73] 74 0 1 (qe [qp 77 3 2,qu 78 77,qf 79 8,wn 80 4 78 79,qR 81 4 80,xv 82,xk 83 82 1,wM 84 dH 81 83,xX 85 84] (yq 85 4)) (qf 75 8) 76 75 1 8 76) (wE 4 wI)))))
theorem uG:AK.whole mE=FK.ak fC:=rfl
def mJ:AK:=qe [wP 2 5 0,qc 4 wd] (xO [xv 7,qC 8 .lss 7 1,qf 9 8,xz 10 9 0 2,xh 11 9 10,qK 12 9 (xo [.t 11,wN,qh 8]),yr 13 9 12,xQ 14 9 13,qf 15 14,xz 16 15 2 2,xz 19 15 0 2,xh 17 15 16,qK 18 15 (qV 17),xh 20 15 19,qK 21 15 (.qcall fB (xe 20)),yb 22 15 .neq 18 (.t 21),xQ 23 15 22] (yq 23 4) (.cut (.reg [xj 24 2,qu 25 24,wO 26 25 1,qf 27 26,xz 28 27 0 2,xh 29 27 28,yb 30 27 .eql 29 (qh 2),xQ 31 27 30,qf 5 31]) (xO [wV 32,xL 33 2,qu 34 33,xf 35 bQ 34,qb 36 (.beq true (.t 32) (.t 35)),qf 37 36,wY 38 37 5,yr 39 37 38,wY 40 37 39,xt 41 40 1 2,xa 42 40 41,qL 43 40 (.bins .neq (.t 42) (.c wo)),qK 44 37 (qO 40 (.t 43) wd),xQ 45 37 44] (yq 45 4) (qB (wZ 6) (xD 0 [xi 46,xr 47 2,qu 48 47,wg 49 48,wJ 50 46 49] 50 0 1 (qe [xr 53 2,qu 54 53,xi 55,wn 56 4 54 55,qR 57 4 56,xf 58 de 57,xX 59 58] (yq 59 4)) (xi 51) 52 51 1 6 52) (xO [xj 60 2,qu 61 60,wO 62 61 8,qf 63 62,xt 64 63 2 2,xa 65 63 64,qL 66 63 (qG 4 65 qQ),xt 67 63 0 66,xa 68 63 67,xE 69 63 .neq 68 (qh 13),ye 70 63 69] (yq 70 4) (xO [qp 71 4 2,qu 72 71,wg 73 72,qC 74 .gtr 73 0,qf 75 74,xt 76 75 0 2,xa 77 75 76,xE 78 75 .neq 77 (qh 5),ye 79 75 78,qf 80 79,xz 81 80 3 2,xh 82 80 81,qK 83 80 (qV 82),yb 84 80 .gtr 83 qQ,wY 85 80 84,xt 86 85 0 2,xa 87 85 86,xE 88 85 .neq 87 (qh 5),qK 89 80 (qO 85 (.t 88) wd),wY 90 80 89,xt 91 90 0 2,xa 92 90 91,xE 93 90 .neq 92 (qh 6),qK 94 80 (qO 90 (.t 93) wd),xQ 95 80 94] (yq 95 4) (qH [qp 96 3 2,qu 97 96,xv 98,xk 99 98 1,wM 100 bC 97 99,qf 101 100,xt 102 101 4 2,xa 103 101 102,xd 104 101 1,xE 105 101 .sub 104 wN,qL 106 101 (.call bC (wL 103 105)),ye 107 101 106,qf 4 107])))))))
theorem vf:AK.whole mJ=FK.ak fD:=rfl
variable (G:az)
theorem bX(n lo hi:Int):VF Tryz.prog G iP [.p (.int .i64 n),.p (.int .i64 lo),.p (.int .i64 hi)] (.p (.bool (inR n lo hi))):=by
 refine AC.go AZ ?_
 by_cases h:lo<=n
 ·simp-implicitDefEqProofs[lR,h,inR]
 ·simp-implicitDefEqProofs[lR,h,inR]
theorem AU(op:Int):VF Tryz.prog G fz [.p (.int .i64 op)] (.tup [.p (.int .i64 (loK op)),.p (.int .i64 (hiK op))]):=by
 refine AC.go uJ ?_
 by_cases h1:op=1
 ·subst h1;simp-implicitDefEqProofs[cf,loK,hiK]
 by_cases h2:op=2
 ·subst h2;simp-implicitDefEqProofs[cf,loK,hiK]
 by_cases h3:op=11
 ·subst h3;simp-implicitDefEqProofs[cf,loK,hiK]
 by_cases h4:op=12
 ·subst h4;simp-implicitDefEqProofs[cf,loK,hiK]
 by_cases h5:op=13
 ·subst h5;simp-implicitDefEqProofs[cf,loK,hiK]
 simp-implicitDefEqProofs[cf,loK,hiK,h1,h2,h3,h4,h5]
theorem HA:∀(d:Nat) (e:Ex),e.sz<=1099511627776->d<=1000->VF Tryz.prog G dH [.agg (e.cs.map .p),.p (.int .i64 d)] (.p (.bool (bU d e))):=by
 intro d
 induction d with
 |zero=>
  intro e he _
  refine AC.go mv ?_
  simp-implicitDefEqProofs[fC,Ex.cs_eq]
  refine(AU G _).use ?_
  simp-implicitDefEqProofs[bU]
 |succ d ih=>
  intro e he hd
  have hsz:=e.sz_eq
  have hkl:=fI e.kids
  refine AC.goK mv uG ?_
  have hd1:¬(d:Int)+1<1:=by omega
  have hw:IntKind.i64.wrap ((d:Int)+1-1)=(d:Int):=by rw[show(d:Int)+1-1=d by omega];exact ae (by omega) (by omega)
  have hw':IntKind.i64.wrap (d:Int)=(d:Int):=ae (by omega) (by omega)
  have hxl:∀l,exL l= .lst 4 (l.map Ex.cs):=λ_=>rfl
  simp-implicitDefEqProofs[mE,fC,Ex.cs_eq]
  refine(AU G _).use ?_
  simp-implicitDefEqProofs[hd1]
  refine(bX G _ _ _).use ?_
  by_cases h1:inR e.op 1 13=true
  case neg=>simp-implicitDefEqProofs[h1,bU,ln]
  simp-implicitDefEqProofs[h1,hxl]
  refine(bX G _ _ _).use ?_
  by_cases h2:inR e.kids.length (loK e.op) (hiK e.op)=true
  case neg=>simp-implicitDefEqProofs[h2,bU,ln]
  simp-implicitDefEqProofs[h2]
  refine Jp (aw 86 [(1,.p (.int .i64 (d+1))),(2,.ptr 0 4 0 0),(7,.p (.bool (BS e.op)))]) [.row 4 [[.p (.int .i64 e.op),.p (.int .i64 e.n),.p (.str e.name),.p (.lst 4 (e.kids.map Ex.cs))]]] ?_ ?_
  ·by_cases o2:e.op=2
   ·simp-implicitDefEqProofs[o2]
    exact aK (by simp) (by simp[okO]) (by simp[below,BS])
   ·by_cases o13:e.op=13
    ·simp-implicitDefEqProofs[o13]
     exact aK (by simp) (by simp[okO]) (by simp[below,BS])
    ·simp-implicitDefEqProofs[o2,o13]
     exact aK (by simp) (by simp[okO]) (by simp[below,BS,o2,o13])
  have hn:e.name.length<=140737488355328:=by omega
  refine fR (λ_:Unit=>aw 86 [(1,.p (.int .i64 ((d:Int)+1))),(2,.ptr 0 4 0 0)]) (λ_=>[.row 4 [[.p (.int .i64 e.op),.p (.int .i64 e.n),.p (.str e.name),.p (.lst 4 (e.kids.map Ex.cs))]]]) (λ_=>ln e=true) ?_ ?_
  ·simp-implicitDefEqProofs[]
   refine(oy G _ hn).use ?_
   simp-implicitDefEqProofs[]
   repeat' first
    |(refine(bX G _ _ _).use ?_;simp-implicitDefEqProofs[])
    |(refine aF (λhc=>?_) (λhc=>?_)<;>simp-implicitDefEqProofs[hc])
   all_goals first
    |exact⟨by simp_all [ln],aK (by simp) (by simp[okO]) (by simp[below])⟩
    |simp_all [bU,ln]
  intro _ hh
  simp-implicitDefEqProofs[]
  refine aH (λi:Nat=>aw 86 [(1,.p (.int .i64 ((d:Int)+1))),(2,.ptr 0 4 0 0),(8,.p (.int .i64 i))]) (λ_=>[.row 4 [[.p (.int .i64 e.op),.p (.int .i64 e.n),.p (.str e.name),.p (.lst 4 (e.kids.map Ex.cs))]]])
   (λi=>i<=e.kids.length/\(e.kids.take i).all (bU d)=true) (λi=>e.kids.length-i) 0 (by simp) (aK (by simp) (by simp[okO]) (by simp[below])) ?_
  intro i ⟨hi,hall⟩
  simp-implicitDefEqProofs[]
  refine aF (λh=>?_) (λh=>?_)
  ·simp at h
   have hg:=List.getElem?_eq_getElem h
   have hks:=oE (List.getElem_mem h)
   simp-implicitDefEqProofs[hg,hw']
   refine(ih e.kids[i] (by omega) (by omega)).use ?_
   by_cases hk:bU d e.kids[i]=true
   ·simp-implicitDefEqProofs[hk]
    refine⟨i+1,⟨h,by rw[←List.all_eq_true,dC h,hall,hk];rfl⟩,by omega,aK (by simp) (by simp[okO]) ?_⟩
    simp[below,w1 (i:=i) (by omega)]
   ·have hk':bU d e.kids[i]=false:=by simpa using hk
    have hf:bU (d+1) e=false:=by simp only[bU,oN h hk',Bool.and_false]
    simp-implicitDefEqProofs[hk',hf]
  ·simp at h
   have hf:bU (d+1) e=true:=by simp only[bU,gO h hall,hh,Bool.and_self]
   simp-implicitDefEqProofs[hf]
theorem Eu{l:List Ex}{i:Nat}(h:i<l.length):iT (l.take (i+1))=iT (l.take i)+l[i].parts:=by
 rw[ay h,kS];simp[iT]
theorem zf(l:List Ex)(i:Nat):iT (l.take i)<=iT l:=by
 have:=kS (l.take i) (l.drop i)
 rw[List.take_append_drop] at this
 omega
theorem DY:∀(k:Nat) (e:Ex),e.sz<=k->k<=1099511627776->VF Tryz.prog G ec [.agg (e.cs.map .p)] (.p (.int .i64 e.parts)):=by
 intro k
 induction k with
 |zero=>intro e he;have:=e.sz_eq;omega
 |succ k ih=>
  intro e he hk
  have hsz:=e.sz_eq
  have hkl:=fI e.kids
  have hpe:=e.parts_eq
  have hpz:=zp e.kids
  refine AC.go ty ?_
  have hxl:∀l,exL l= .lst 4 (l.map Ex.cs):=λ_=>rfl
  simp-implicitDefEqProofs[lE,Ex.cs_eq,hxl]
  refine aH (λi:Nat=>aw 21 [(1,.ptr 0 4 0 0),(3,.p (.int .i64 ((1+iT (e.kids.take i):Nat):Int))),(4,.p (.int .i64 i))]) (λ_=>[.row 4 [[.p (.int .i64 e.op),.p (.int .i64 e.n),.p (.str e.name),.p (.lst 4 (e.kids.map Ex.cs))]]])
   (λi=>i<=e.kids.length) (λi=>e.kids.length-i) 0 (by simp) (aK (by simp) (by simp[okO]) (by simp[below,iT])) ?_
  intro i hi
  simp-implicitDefEqProofs[]
  refine aF (λh=>?_) (λh=>?_)
  ·simp at h
   have hg:=List.getElem?_eq_getElem h
   have hks:=oE (List.getElem_mem h)
   have hps:=Eu h
   have hple:=zf e.kids (i+1)
   simp-implicitDefEqProofs[hg]
   refine(ih e.kids[i] (by omega) (by omega)).use ?_
   have hw:IntKind.i64.wrap (1+(iT (e.kids.take i):Int)+(e.kids[i].parts:Int))=((1+iT (e.kids.take (i+1)):Nat):Int):=by rw[ae (by omega) (by omega)];omega
   simp-implicitDefEqProofs[hw]
   exact⟨i+1,h,by omega,aK (by simp) (by simp[okO]) (by simp[below,w1 (i:=i) (by omega)])⟩
  ·simp at h
   rw[List.take_of_length_le h]
   simp-implicitDefEqProofs[]
   omega
theorem AY(e:Ex)(he:e.sz<=1099511627776):VF Tryz.prog G de [.agg (e.cs.map .p)] (.p (.bool (rG e))):=by
 refine AC.go pN ?_
 simp-implicitDefEqProofs[jF]
 have h6:=HA G 6 e he (by omega)
 refine h6.use ?_
 by_cases h:bU 6 e=true
 ·simp-implicitDefEqProofs[h]
  refine(DY G _ e (Nat.le_refl _) he).use ?_
  simp-implicitDefEqProofs[rG,h]
  omega
 ·simp-implicitDefEqProofs[h,rG]
theorem GG(op:Int):VF Tryz.prog G fB [.p (.int .i64 op)] (.p (.int .i64 (ky op))):=by
 refine AC.go uW ?_
 by_cases h:op=4
 ·simp-implicitDefEqProofs[jr,h,ky]
 ·simp-implicitDefEqProofs[jr,h,ky]
theorem rm(d:Nat)(hd:d<=1000)(hs:∀s:Sm,s.sz<=1099511627776->VF Tryz.prog G fm [.agg (s.cs.map .p),.p (.int .i64 d)] (.p (.bool (aR d s))))(l:List Sm)(hl:aO l<=1099511627776):
 VF Tryz.prog G bC [.p (smL l),.p (.int .i64 d)] (.p (.bool (l.all (aR d)))):=by
 refine AC.go ut ?_
 have hll:=dY l
 have hsl:∀l,smL l= .lst 5 (l.map Sm.cs):=λ_=>rfl
 simp-implicitDefEqProofs[lv]
 refine aH (λi:Nat=>aw 19 [(0,.p (smL l)),(1,.p (.int .i64 d)),(5,.p (.int .i64 i))]) (λ_=>[]) (λi=>i<=l.length/\(l.take i).all (aR d)=true) (λi=>l.length-i) 0 (by simp) (aU rfl (by simp[below,hsl])) ?_
 intro i ⟨hi,hall⟩
 simp-implicitDefEqProofs[hsl]
 refine aF (λh=>?_) (λh=>?_)
 ·simp at h
  have hg:=List.getElem?_eq_getElem h
  have hks:=oA (List.getElem_mem h)
  simp-implicitDefEqProofs[hg]
  refine(hs l[i] (by omega)).use ?_
  by_cases hk:aR d l[i]=true
  ·simp-implicitDefEqProofs[hk]
   exact⟨i+1,⟨h,by rw[←List.all_eq_true,dC h,hall,hk];rfl⟩,by omega,aU rfl (by simp[below,hsl,w1 (i:=i) (by omega)])⟩
  ·have hk':aR d l[i]=false:=by simpa using hk
   have hf:=oN h hk'
   simp-implicitDefEqProofs[hk',hf]
 ·simp at h
  have hf:=gO h hall
  simp-implicitDefEqProofs[hf]
theorem FD:∀(d:Nat),d<=1000->∀s:Sm,s.sz<=1099511627776->VF Tryz.prog G fm [.agg (s.cs.map .p),.p (.int .i64 d)] (.p (.bool (aR d s))):=by
 intro d
 induction d with
 |zero=>
  intro _ s _
  refine AC.go mK ?_
  simp-implicitDefEqProofs[fD,Sm.cs_eq,aR]
 |succ d ih=>
  intro hd s he
  have hsz:=s.sz_eq
  have hal:=fI s.args
  have hbl:=dY s.body
  have hel:=dY s.els
  have ihs:=rm G d (by omega) (ih (by omega))
  refine AC.goK mK vf ?_
  have hd1:¬(d:Int)+1<1:=by omega
  have hw':IntKind.i64.wrap (d:Int)=(d:Int):=ae (by omega) (by omega)
  have hxl:∀l,exL l= .lst 4 (l.map Ex.cs):=λ_=>rfl
  have hsl:∀l,smL l= .lst 5 (l.map Sm.cs):=λ_=>rfl
  have hn:s.name.length<=140737488355328:=by omega
  simp-implicitDefEqProofs[mJ,fD,Sm.cs_eq]
  generalize hH:[AO.row 5 [[AV.p (.int .i64 s.op),.p (.str s.name),.p (exL s.args),.p (smL s.body),.p (smL s.els)]]]=H
  have hho:∀o∈H,okO H.length o:=by rw[←hH];simp[okO]
  have hhl:0<H.length:=by rw[←hH];simp
  have hh0:H[0]?=some (AO.row 5 [[AV.p (.int .i64 s.op),.p (.str s.name),.p (exL s.args),.p (smL s.body),.p (smL s.els)]]):=by rw[←hH];rfl
  have hhL:H.length=1:=by rw[←hH];rfl
  refine fR (λ_:Unit=>aw 108 [(1,.p (.int .i64 ((d:Int)+1))),(2,.ptr 0 5 0 0)]) (λ_=>H) (λ_=>inR s.op 1 8=true/\s.args.length=ky s.op) ?_ ?_
  ·simp-implicitDefEqProofs[hd1,hh0]
   refine(bX G _ _ _).use ?_
   by_cases h1:inR s.op 1 8=true
   case neg=>simp-implicitDefEqProofs[h1,aR,gd]
   simp-implicitDefEqProofs[h1,hh0,hxl]
   refine(GG G _).useQ ?_
   by_cases h2:s.args.length=ky s.op
   ·simp-implicitDefEqProofs[h2]
    exact aK (by omega) hho (by simp[below,hhl])
   ·have h2':¬(s.args.length:Int)=(ky s.op:Int):=by omega
    simp-implicitDefEqProofs[h2,h2',aR,gd]
  intro _ ⟨h1,h2⟩
  refine fR (λ_:Unit=>aw 108 [(1,.p (.int .i64 ((d:Int)+1))),(2,.ptr 0 5 0 0),(5,.p (.bool (zq s.op)))]) (λ_=>H) (λ_=>True) ?_ ?_
  ·simp-implicitDefEqProofs[hh0]
   by_cases o1:s.op=1
   ·simp-implicitDefEqProofs[o1,hh0,zq]
    exact aK (by omega) hho (by simp[below,hhl])
   ·by_cases o2:s.op=2
    ·simp-implicitDefEqProofs[o2,hh0,zq]
     exact aK (by omega) hho (by simp[below,hhl])
    ·simp-implicitDefEqProofs[o1,o2,hh0,zq]
     exact aK (by omega) hho (by simp[below,hhl])
  intro _ _
  refine fR (λ_:Unit=>aw 108 [(1,.p (.int .i64 ((d:Int)+1))),(2,.ptr 0 5 0 0)]) (λ_=>H) (λ_=>(zq s.op==cu s.name)=true/\(zq s.op||decide (s.name=[]))=true) ?_ ?_
  ·simp-implicitDefEqProofs[hh0]
   refine(oy G _ hn).use ?_
   simp-implicitDefEqProofs[hh0]
   repeat' first
    |(refine aF (λhc=>?_) (λhc=>?_)<;>simp-implicitDefEqProofs[hc,hh0])
   all_goals first
    |exact aK (by omega) hho (by simp[below,hhl])
    |exact⟨by simp_all,by simp_all,aK (by omega) hho (by simp[below,hhl])⟩
    |exact⟨by simp_all,aK (by omega) hho (by simp[below,hhl])⟩
    |(simp_all [aR,gd];done)
  intro _ ⟨h3,h4⟩
  simp-implicitDefEqProofs[]
  refine aH (λi:Nat=>aw 108 [(1,.p (.int .i64 ((d:Int)+1))),(2,.ptr 0 5 0 0),(6,.p (.int .i64 i))]) (λ_=>H) (λi=>i<=s.args.length/\(s.args.take i).all rG=true) (λi=>s.args.length-i) 0 (by simp) (aK (by omega) hho (by simp[below,hhl])) ?_
  intro i ⟨hi,hall⟩
  simp-implicitDefEqProofs[hh0,hxl]
  refine aF (λh=>?_) (λh=>?_)
  ·simp at h
   have hg:=List.getElem?_eq_getElem h
   have hks:=oE (List.getElem_mem h)
   simp-implicitDefEqProofs[hg,hh0,hxl]
   refine(AY G s.args[i] (by omega)).use ?_
   by_cases hk:rG s.args[i]=true
   ·simp-implicitDefEqProofs[hk]
    exact⟨i+1,⟨h,by rw[←List.all_eq_true,dC h,hall,hk];rfl⟩,by omega,aK (by omega) hho (by simp[below,hhl,w1 (i:=i) (by omega)])⟩
   ·have hk':rG s.args[i]=false:=by simpa using hk
    have hf:aR (d+1) s=false:=by simp only[aR,gd,oN h hk',Bool.and_false,Bool.false_and]
    simp-implicitDefEqProofs[hk',hf]
  simp at h
  have h5:s.args.all rG=true:=gO h hall
  have hlen1:1<=s.args.length:=by rw[h2];unfold ky;split<;>omega
  obtain⟨a0,ar,ha⟩:∃a r,s.args=a::r:=by
   cases hh:s.args with
   |nil=>rw[hh] at hlen1;simp at hlen1
   |cons a r=>exact⟨a,r,rfl⟩
  have ha0:s.args[0]?=some a0:=by rw[ha];rfl
  refine fR (λ_:Unit=>aw 108 [(1,.p (.int .i64 ((d:Int)+1))),(2,.ptr 0 5 0 0)]) (λ_=>H) (λ_=>(!decide (s.op=8)||decide (a0.op=13))=true) ?_ ?_
  ·simp-implicitDefEqProofs[hh0]
   by_cases o8:s.op=8
   ·have hae:=a0.cs_eq
    simp-implicitDefEqProofs[o8,hh0,hxl,ha0,hae]
    refine aF (λhc=>?_) (λhc=>?_)
    ·simp at hc
     have hf:aR (d+1) s=false:=by simp[aR,gd,o8,ha,hc]
     simp-implicitDefEqProofs[hf]
    ·simp at hc
     simp-implicitDefEqProofs[hc]
     exact aK (by omega) hho (by simp[below,hhl])
   ·simp-implicitDefEqProofs[o8,hh0]
    exact aK (by omega) hho (by simp[below,hhl])
  intro _ h6
  refine fR (λ_:Unit=>aw 108 [(1,.p (.int .i64 ((d:Int)+1))),(2,.ptr 0 5 0 0)]) (λ_=>H) (λ_=>(s.els.isEmpty||decide (s.op=5))=true/\(s.body.isEmpty||decide (s.op=5)||decide (s.op=6))=true) ?_ ?_
  ·have hf:¬((s.els.isEmpty||decide (s.op=5))=true/\(s.body.isEmpty||decide (s.op=5)||decide (s.op=6))=true)->aR (d+1) s=false:=λh=>by
    have:gd s=false:=by
     cases hx:gd s with
     |false=>rfl
     |true=>refine absurd ?_ h;simp only[gd,Bool.and_eq_true] at hx;exact⟨hx.1.2,hx.2⟩
    simp[aR,this]
   have pe:¬s.els=[]->0<s.els.length:=List.length_pos_iff.2
   have pb:¬s.body=[]->0<s.body.length:=List.length_pos_iff.2
   by_cases o5:s.op=5
   ·simp-implicitDefEqProofs[hh0,hsl,o5]
    repeat' first
     |(refine aF (λhc=>?_) (λhc=>?_)<;>simp-implicitDefEqProofs[hc,hh0,hsl,o5])
    all_goals exact aK (by omega) hho (by simp[below,hhl])
   by_cases e1:s.els=[]
   case neg=>
    have hf:=hf (by simp[e1,o5])
    have:=pe e1
    simp-implicitDefEqProofs[hh0,hsl,o5,e1,this,hf]
   by_cases e2:s.body=[]
   ·simp-implicitDefEqProofs[hh0,hsl,o5,e1,e2]
    exact aK (by omega) hho (by simp[below,hhl])
   have:=pb e2
   by_cases o6:s.op=6
   ·simp-implicitDefEqProofs[hh0,hsl,o6,e1,e2,this]
    exact aK (by omega) hho (by simp[below,hhl])
   ·have hf:=hf (by simp[e2,o5,o6])
    simp-implicitDefEqProofs[hh0,hsl,o5,o6,e1,e2,this,hf]
  intro _ ⟨h7,h8⟩
  have hm:(match s.args with|a::_=>decide (a.op=13)|[]=>false)=decide (a0.op=13):=by rw[ha]
  have hhd:gd s=true:=by
   have h6':(!decide (s.op=8)||(match s.args with|a::_=>decide (a.op=13)|[]=>false))=true:=by rw[hm];exact h6
   have h2':decide (s.args.length=ky s.op)=true:=by simp[h2]
   simp only[gd,h1,h2',h3,h4,h5,h7,h8,Bool.and_self,Bool.and_true,Bool.true_and]
   exact h6'
  simp-implicitDefEqProofs[hh0,hw']
  refine(ihs s.body (by omega)).use ?_
  by_cases hB:s.body.all (aR d)=true
  ·simp only[hB]
   simp-implicitDefEqProofs[hh0,hw']
   refine(ihs s.els (by omega)).use ?_
   have hf:aR (d+1) s=s.els.all (aR d):=by simp only[aR,hhd,hB,Bool.true_and]
   rw[hf]
   generalize s.els.all (aR d)=w
   simp-implicitDefEqProofs[]
  ·have hB':s.body.all (aR d)=false:=by simpa using hB
   have hf:aR (d+1) s=false:=by simp only[aR,hB',Bool.and_false,Bool.false_and]
   simp only[hB',hf]
   simp-implicitDefEqProofs[]
theorem Ey(d:Nat)(hd:d<=1000)(l:List Sm)(hl:aO l<=1099511627776):VF Tryz.prog G bC [.p (smL l),.p (.int .i64 d)] (.p (.bool (l.all (aR d)))):=
 rm G d hd (FD G d hd) l hl
theorem KU(f:Fd)(hf:f.sz<=1099511627776):VF Tryz.prog G lL [.agg (f.cs.map .p)] (.p (.bool (kO f))):=by
 refine AC.go AS ?_
 have hsz:f.sz=1+f.name.length+(f.params.length+(f.params.map List.length).sum)+aO f.body:=rfl
 have hps:∀x∈f.params,x.length<=(f.params.map List.length).sum:=λx hx=>by
  have key:∀l:List (List UInt8),x∈l->x.length<=(l.map List.length).sum:=by
   intro l
   induction l with
   |nil=>intro h;cases h
   |cons y r ih=>
    intro h
    simp only[List.map_cons,List.sum_cons]
    rcases List.mem_cons.1 h with rfl|h
    ·omega
    ·have:=ih h;omega
  exact key _ hx
 have hst:bO f.params= .lst 1 (f.params.map λw=>[.str w]):=rfl
 have h4:=Ey G 4 (by omega) f.body (by omega)
 simp-implicitDefEqProofs[rD,Fd.cs,hst]
 refine aH (λi:Nat=>aw 32 [(1,.ptr 0 3 0 0),(3,.p (.int .i64 i))]) (λ_=>[.row 3 [[.p (.str f.name),.p (bO f.params),.p (smL f.body)]]]) (λi=>i<=f.params.length/\(f.params.take i).all cu=true) (λi=>f.params.length-i) 0 (by simp) (aK (by simp) (by simp[okO]) (by simp[below])) ?_
 intro i ⟨hi,hall⟩
 simp-implicitDefEqProofs[hst]
 refine aF (λh=>?_) (λh=>?_)
 ·simp at h
  have hg:=List.getElem?_eq_getElem h
  have hl:=hps _ (List.getElem_mem h)
  simp-implicitDefEqProofs[hg]
  refine(oy G _ (by omega)).use ?_
  by_cases hk:cu f.params[i]=true
  ·simp-implicitDefEqProofs[hk]
   exact⟨i+1,⟨h,by rw[←List.all_eq_true,dC h,hall,hk];rfl⟩,by omega,aK (by simp) (by simp[okO]) (by simp[below,w1 (i:=i) (by omega)])⟩
  ·have hk':cu f.params[i]=false:=by simpa using hk
   have hff:kO f=false:=by simp only[kO,oN h hk',Bool.false_and]
   simp-implicitDefEqProofs[hk',hff]
 ·simp at h
  have h1:f.params.all cu=true:=gO h hall
  simp-implicitDefEqProofs[]
  refine(oy G _ (by omega)).use ?_
  by_cases h2:cu f.name=true
  case neg=>
   have h2':cu f.name=false:=by simpa using h2
   simp-implicitDefEqProofs[h2',kO]
  simp-implicitDefEqProofs[h2]
  by_cases h3:f.params.length<=3
  case neg=>
   have h3':¬(f.params.length:Int)<=3:=by omega
   simp-implicitDefEqProofs[h3,h3',kO]
  have h3':(f.params.length:Int)<=3:=by omega
  simp-implicitDefEqProofs[h3']
  refine h4.use ?_
  have hff:kO f=f.body.all (aR 4):=by simp only[kO,h1,h2,h3,decide_true,Bool.true_and]
  rw[hff]
  generalize f.body.all (aR 4)=w
  simp-implicitDefEqProofs[]
theorem EO{l:List Sm}{i:Nat}(h:i<l.length):cF (l.take (i+1))=cF (l.take i)+l[i].cnt:=by
 rw[ay h,lN];simp[cF]
theorem nS(l:List Sm)(i:Nat):cF (l.take i)<=cF l:=by
 have:=lN (l.take i) (l.drop i)
 rw[List.take_append_drop] at this
 omega
def iH(l:List Sm)(i:Nat):Nat:=l.length+((l.take i).map λs=>cF s.body+cF s.els).sum
theorem Ca(l:List Sm):iH l 0=l.length:=by simp[iH]
theorem tE{l:List Sm}{i:Nat}(h:i<l.length):iH l (i+1)=iH l i+cF l[i].body+cF l[i].els:=by
 rw[iH,iH,ay h,List.map_append,List.sum_append]
 simp only[List.map_cons,List.map_nil,List.sum_cons,List.sum_nil]
 omega
theorem pG(l:List Sm):∀i,i<=l.length->cF (l.take i)+l.length=i+iH l i
 |0,_=>by simp[cF,iH]
 |i+1,h=>by
  have:=pG l i (by omega)
  rw[EO (by omega),tE (by omega),(l[i]'(by omega)).cnt_eq]
  omega
theorem DS:∀(k:Nat) (l:List Sm),aO l<=k->k<=1099511627776->VF Tryz.prog G dc [.p (smL l)] (.p (.int .i64 (cF l))):=by
 intro k
 induction k with
 |zero=>
  intro l hl _
  have:l=[]:=by
   cases l with
   |nil=>rfl
   |cons s r=>have:=s.sz_eq;simp only[aO] at hl;omega
  subst this
  refine AC.go lc ?_
  have hsl:smL []= .lst 5 []:=rfl
  simp-implicitDefEqProofs[gB,hsl]
  refine aH (λ_:Unit=>aw 29 [(0,.p (.lst 5 [])),(3,.p (.int .i64 0)),(4,.p (.int .i64 0))]) (λ_=>[]) (λ_=>True) (λ_=>0) () trivial (aU rfl (by simp[below])) ?_
  intro _ _
  simp-implicitDefEqProofs[cF]
 |succ k ih=>
  intro l hl hk
  have hll:=dY l
  have hnz:=iI l
  refine AC.go lc ?_
  have hsl:∀l,smL l= .lst 5 (l.map Sm.cs):=λ_=>rfl
  simp-implicitDefEqProofs[gB,hsl]
  refine aH (λi:Nat=>aw 29 [(0,.p (smL l)),(3,.p (.int .i64 (iH l i))),(4,.p (.int .i64 i))]) (λ_=>[]) (λi=>i<=l.length) (λi=>l.length-i) 0 (by simp) (aU rfl (by simp[below,hsl,Ca])) ?_
  intro i hi
  have k0:=pG l i hi
  have k2:=nS l i
  simp-implicitDefEqProofs[hsl]
  refine aF (λh=>?_) (λh=>?_)
  ·simp at h
   have hg:=List.getElem?_eq_getElem h
   have hks:=oA (List.getElem_mem h)
   have hse:=l[i].sz_eq
   have hce:=l[i].cs_eq
   have k1:=tE h
   have k3:=pG l (i+1) h
   have k4:=nS l (i+1)
   simp-implicitDefEqProofs[hg,hce]
   refine(ih l[i].body (by omega) (by omega)).use ?_
   simp-implicitDefEqProofs[hg,hce]
   refine(ih l[i].els (by omega) (by omega)).use ?_
   have w1':IntKind.i64.wrap ((iH l i:Int)+(cF l[i].body:Int))=(iH l i:Int)+(cF l[i].body:Int):=ae (by omega) (by omega)
   have w2':IntKind.i64.wrap ((iH l i:Int)+(cF l[i].body:Int)+(cF l[i].els:Int))=(iH l (i+1):Int):=by rw[ae (by omega) (by omega)];omega
   simp-implicitDefEqProofs[w1',w2']
   exact⟨i+1,h,by omega,aU rfl (by simp[below,hsl,w1 (i:=i) (by omega)])⟩
  ·simp at h
   rw[List.take_of_length_le h] at k0
   have:iH l i=cF l:=by omega
   simp-implicitDefEqProofs[this]
theorem oS:∀{l:List Fd} {f:Fd},f∈l->f.sz<=cw l
 |x::r,e,h=>by
  simp only[cw,List.map_cons,List.sum_cons]
  rcases List.mem_cons.1 h with rfl|h
  ·omega
  ·have:=oS h;simp only[cw] at this;omega
theorem pf:∀l:List Fd,l.length<=cw l
 |[]=>Nat.le_refl _
 |e::r=>by have:=pf r;simp only[cw,List.map_cons,List.sum_cons,List.length_cons] at this⊢;have:1<=e.sz:=by unfold Fd.sz;omega
           omega
def tx(l:List Fd)(i:Nat):Nat:=py (l.take i)
theorem DV{l:List Fd}{i:Nat}(h:i<l.length):tx l (i+1)=tx l i+cF l[i].body:=by
 rw[tx,tx,py,py,ay h,List.map_append,List.sum_append];simp
theorem Db:∀l:List Fd,py l<=cw l
 |[]=>Nat.le_refl _
 |f::r=>by
  have:=Db r
  have h2:=iI f.body
  simp only[py,cw,List.map_cons,List.sum_cons] at this⊢
  have:aO f.body<=f.sz:=by unfold Fd.sz;omega
  omega
theorem HE(l:List Fd)(i:Nat):tx l i<=cw l:=by
 have h1:=Db (l.take i)
 have h2:cw (l.take i)<=cw l:=by
  have:cw l=cw (l.take i)+cw (l.drop i):=by
   rw[←List.take_append_drop i l,cw,List.map_append,List.sum_append];simp[cw]
  omega
 exact Nat.le_trans h1 h2
theorem Jn(l:List Fd)(hl:cw l<=1099511627776):VF Tryz.prog G kg [.agg [.p (fdL l)]] (.p (.int .i64 (py l))):=by
 refine AC.go zj ?_
 have hll:=pf l
 have hfl:∀l,fdL l= .lst 3 (l.map Fd.cs):=λ_=>rfl
 simp-implicitDefEqProofs[nY]
 refine aH (λi:Nat=>aw 22 [(1,.ptr 0 1 0 0),(3,.p (.int .i64 (tx l i))),(4,.p (.int .i64 i))]) (λ_=>[.row 1 [[.p (fdL l)]]]) (λi=>i<=l.length) (λi=>l.length-i) 0 (by simp) (aK (by simp) (by simp[okO]) (by simp[below,tx,py])) ?_
 intro i hi
 simp-implicitDefEqProofs[hfl]
 refine aF (λh=>?_) (λh=>?_)
 ·simp at h
  have hg:=List.getElem?_eq_getElem h
  have hks:=oS (List.getElem_mem h)
  have hse:l[i].sz=1+l[i].name.length+(l[i].params.length+(l[i].params.map List.length).sum)+aO l[i].body:=rfl
  have hce:l[i].cs=[.str l[i].name,bO l[i].params,smL l[i].body]:=rfl
  have k1:=DV h
  have k2:=HE l (i+1)
  simp-implicitDefEqProofs[hg,hce]
  refine(DS G _ l[i].body (Nat.le_refl _) (by omega)).use ?_
  have w1':IntKind.i64.wrap ((tx l i:Int)+(cF l[i].body:Int))=(tx l (i+1):Int):=by rw[ae (by omega) (by omega)];omega
  simp-implicitDefEqProofs[w1']
  exact⟨i+1,h,by omega,aK (by simp) (by simp[okO]) (by simp[below,w1 (i:=i) (by omega),hfl])⟩
 ·simp at h
  have:tx l i=py l:=by rw[tx,List.take_of_length_le h]
  simp-implicitDefEqProofs[this]
theorem kQ(l:List Fd)(hl:cw l<=1099511627776):VF Tryz.prog G dv [.agg [.p (fdL l)]] (.p (.bool (cP l))):=by
 refine AC.go mr ?_
 have hfl:∀l,fdL l= .lst 3 (l.map Fd.cs):=λ_=>rfl
 have hall:=Jn G l hl
 have hll:=pf l
 rw[hfl] at hall
 simp-implicitDefEqProofs[gb,hfl]
 refine(bX G _ _ _).use ?_
 by_cases h1:inR l.length 1 4=true
 case neg=>simp-implicitDefEqProofs[h1,cP]
 simp-implicitDefEqProofs[h1]
 refine aH (λi:Nat=>aw 26 [(1,.ptr 0 1 0 0),(3,.p (.int .i64 i))]) (λ_=>[.row 1 [[.p (.lst 3 (l.map Fd.cs))]]]) (λi=>i<=l.length/\(l.take i).all kO=true) (λi=>l.length-i) 0 (by simp) (aK (by simp) (by simp[okO]) (by simp[below])) ?_
 intro i ⟨hi,ha⟩
 simp-implicitDefEqProofs[]
 refine aF (λh=>?_) (λh=>?_)
 ·simp at h
  have hg:=List.getElem?_eq_getElem h
  have hks:=oS (List.getElem_mem h)
  simp-implicitDefEqProofs[hg]
  refine(KU G l[i] (by omega)).use ?_
  by_cases hk:kO l[i]=true
  ·simp-implicitDefEqProofs[hk]
   exact⟨i+1,⟨h,by rw[←List.all_eq_true,dC h,ha,hk];rfl⟩,by omega,aK (by simp) (by simp[okO]) (by simp[below,w1 (i:=i) (by omega)])⟩
  ·have hk':kO l[i]=false:=by simpa using hk
   have hff:cP l=false:=by simp only[cP,oN h hk',Bool.and_false,Bool.false_and]
   simp-implicitDefEqProofs[hk',hff]
 ·simp at h
  have h2:l.all kO=true:=gO h ha
  simp-implicitDefEqProofs[]
  refine hall.use ?_
  have hff:cP l=decide (py l<=40):=by simp only[cP,h1,h2,Bool.true_and]
  simp-implicitDefEqProofs[hff]
  omega
end
section
theorem ow{n:Nat}{h h1:List AO}(e:h.take n=h1)(hn:h1.length=n)(ho:∀o∈h1,okO n o):Fst n h h1:=by
 have hl:n<=h.length:=by
  have:=congrArg List.length e
  rw[List.length_take] at this;omega
 have hg:∀(i:Nat) (o:AO),h1[i]?=some o->h[i]?=some o:=λi o hi=>by
  have h2:=(List.getElem?_eq_some_iff.1 hi).1
  rw[←e,List.getElem?_take_of_lt (by omega)] at hi
  exact hi
 exact⟨hn,hl,λi sz es hi=>⟨hg _ _ hi,ho _ (List.mem_of_getElem? hi)⟩,λi es hi=>⟨hg _ _ hi,ho _ (List.mem_of_getElem? hi)⟩,λi s p hi=>hg _ _ hi⟩
theorem yz:∀(r:List AO) (s:Nat),((gT (List.range' s r.length++[0]) (r++[.dead])).Nodup/\∀i∈gT (List.range' s r.length++[0]) (r++[.dead]),s<=i)
 |[],s=>by simp[gT]
 |o::r,s=>by
  obtain⟨h1,h2⟩:=yz r (s+1)
  rw[List.length_cons,List.range'_succ]
  cases o with
  |dead=>exact⟨h1,λi hi=>Nat.le_of_succ_le (h2 i hi)⟩
  |_=>exact⟨List.nodup_cons.2 ⟨λhm=>absurd (h2 _ hm) (by omega),h1⟩,λi hi=>by
   rcases List.mem_cons.1 hi with rfl|hi
   ·exact Nat.le_refl _
   ·exact Nat.le_of_succ_le (h2 i hi)⟩
theorem Ad{h:List AO}(hp:0<h.length)(ho:∀o∈h,okO h.length o):∀(r:List AO) (s:Nat),(∀i:Nat,r[i]?=h[s+i]?)->s+r.length=h.length->HW (List.range' 0 h.length++[0]) h (List.range' s r.length++[0]) (r++[.dead])
 |[],s,_,_=>sb hp jb
 |o::r,s,hr,hs=>by
  have hσ:∀i,i<h.length->(List.range' 0 h.length++[0]).getD i 0=i:=λi hi=>by
   rw[List.getD_eq_getElem?_getD,List.getElem?_append_left (by simp;exact hi)];simp[hi]
  rw[List.length_cons,List.range'_succ]
  have h0:=hr 0
  have ih:=Ad hp ho r (s+1) (λi=>by have:=hr (i+1);rw[List.getElem?_cons_succ] at this;rw[this];congr 1;omega) (by simp at hs;omega)
  have hm:h[s]?=some o:=by simpa using h0.symm
  have hok:=ho o (List.mem_of_getElem? hm)
  cases o with
  |dead=>exact sb (List.getElem?_eq_some_iff.1 hm).1 ih
  |row sz es=>
   refine ed (λx hx=>bx (by simp) _ (hok x hx)) ?_ ih
   rw[hm,List.map_congr_left (g:=id) λx hx=>oT hσ x (hok x hx)];simp
  |mp es=>exact⟨(List.getElem?_eq_some_iff.1 hm).1,⟨λx hx=>by exact(bx (by simp) [x.2] ⟨hok x hx,trivial⟩).1,by rw[hm,List.map_congr_left (g:=id) λx hx=>by rw[ka hσ x.2 (hok x hx)];rfl];simp⟩,ih⟩
  |sit s p=>exact⟨(List.getElem?_eq_some_iff.1 hm).1,hm,ih⟩
theorem Ah{m:Nat}{l:List (Nat × AV)}:∀r:List (Nat × AV),FgA m l r->TWA (List.range' 0 m++[0]) l r
 |[],_=>trivial
 |x::r,⟨⟨a,c⟩,d⟩=>by
  have hσ:∀i,i<m->(List.range' 0 m++[0]).getD i 0=i:=λi hi=>by
   rw[List.getD_eq_getElem?_getD,List.getElem?_append_left (by simp;exact hi)];simp[hi]
  exact⟨⟨(bx (by simp) [x.2] ⟨a,trivial⟩).1,by rw[ka hσ _ a,c]⟩,Ah r d⟩
theorem Fk{k n:Nat}{l l1:List (Nat × AV)}{h:List AO}(hk:k<=h.length)(hp:0<h.length)(ho:∀o∈h,okO h.length o)(H:FgA h.length l l1):Wk k (aw n l) h (aw n l1) (h++[.dead]):=by
 have hσ:∀i,i<h.length->(List.range' 0 h.length++[0]).getD i 0=i:=λi hi=>by
  rw[List.getD_eq_getElem?_getD,List.getElem?_append_left (by simp;exact hi)];simp[hi]
 refine Ik (List.range' 0 h.length++[0]) (by simp;omega) (λi hi=>hσ i (by omega)) ?_ ?_ (Ah _ H)
 ·exact(yz h 0).1
 ·exact Ad hp ho h 0 (λi=>by simp) (by simp)
def aW(fns:List Fd):List (List AV):=fns.map λf=>f.cs.map .p
theorem pY(fns:List Fd):∀x∈aW fns,aA 0 x:=by
 intro x hx;obtain⟨m,_,rfl⟩:=List.mem_map.1 hx;simp
theorem yS{n:Nat}{o:AO}(h:okO 0 o):okO n o:=by
 cases o with
 |dead=>trivial
 |sit=>trivial
 |row sz es=>exact λe he=>bx (Nat.zero_le _) _ (h e he)
 |mp es=>exact λe he=>(bx (Nat.zero_le n) [e.2] ⟨h e he,trivial⟩).1
theorem iL(fns:List Fd)(n:Nat):okO n (dd 3 (aW fns)):=yS (LX (pY fns))
def exR(l:List Ex):List (List AV):=l.map λe=>e.cs.map .p
theorem GN(l:List Ex):∀x∈exR l,aA 0 x:=by
 intro x hx;obtain⟨m,_,rfl⟩:=List.mem_map.1 hx;simp
theorem Fu{h:List AO}{id:Nat}{l:List Ex}(e:h[id]?=some (dd 4 (exR l))):View h (slE id 4 (exR l)) (exL l):=by
 have hh:exR l=(l.map Ex.cs).map (·.map .p):=by simp[exR]
 rw[hh] at e⊢
 exact Km e (λx hx=>by obtain⟨b,_,rfl⟩:=List.mem_map.1 hx;exact b.cs_len)
theorem nZ{h:List AO}{id sz:Nat}{r0 r1:List AV}{p0 p1:List PV}(he:h[id]?=some (.row sz [r0,r1]))(l0:p0.length=sz)(l1:p1.length=sz)(h0:∀(j:Nat) (q:PV) (a:AV),p0[j]?=some q->r0[j]?=some a->View h a q)(h1:∀(j:Nat) (q:PV) (a:AV),p1[j]?=some q->r1[j]?=some a->View h a q):View h (.sl id sz 0 2) (.lst sz [p0,p1]):=by
 refine View.sl id sz 0 _ [p0,p1] he (by simp) (by simp[l0,l1]) λi j e q e' a a1 a2 a3 a4=>?_
 rw[Nat.zero_add] at a3
 match i,a1,a3 with
 |0,a1,a3=>cases a1;cases a3;exact h0 j q a a2 a4
 |1,a1,a3=>cases a1;cases a3;exact h1 j q a a2 a4
 |i+2,a1,a3=>simp at a1
def smR(l:List Sm):List (List AV):=l.map λs=>s.cs.map .p
theorem lJ(l:List Sm):∀x∈smR l,aA 0 x:=by
 intro x hx;obtain⟨m,_,rfl⟩:=List.mem_map.1 hx;simp
theorem fj(l:List Sm):(smR l).length=l.length:=by simp[smR]
theorem DJ(a b:List Sm):smR (a++b)=smR a++smR b:=by simp[smR]
theorem bt{h:List AO}{id sz:Nat}{r0:List AV}{p0:List PV}(he:h[id]?=some (.row sz [r0]))(l0:p0.length=sz)(h0:∀(j:Nat) (q:PV) (a:AV),p0[j]?=some q->r0[j]?=some a->View h a q):View h (.sl id sz 0 1) (.lst sz [p0]):=by
 refine View.sl id sz 0 _ [p0] he (by simp) (by simp[l0]) λi j e q e' a a1 a2 a3 a4=>?_
 rw[Nat.zero_add] at a3
 match i,a1,a3 with
 |0,a1,a3=>cases a1;cases a3;exact h0 j q a a2 a4
 |i+1,a1,a3=>simp at a1
theorem jA{h:List AO}{o n:Int}{w:List UInt8}{k:List Ex}{K:AV}(hk:View h K (exL k)):∀(j:Nat) (q:PV) (a:AV),(Ex.mk o n w k).cs[j]?=some q->[AV.p (.int .i64 o),.p (.int .i64 n),.p (.str w),K][j]?=some a->View h a q:=by
 intro j q a e1 e2
 have hc:(Ex.mk o n w k).cs=[.int .i64 o,.int .i64 n,.str w,exL k]:=Ex.cs_eq _
 rw[hc] at e1
 match j,e1,e2 with
 |0,e1,e2=>cases e1;cases e2;exact .p _
 |1,e1,e2=>cases e1;cases e2;exact .p _
 |2,e1,e2=>cases e1;cases e2;exact .p _
 |3,e1,e2=>cases e1;cases e2;exact hk
 |j+4,e1,e2=>simp at e1
theorem jJ{h:List AO}{id:Nat}{l:List Sm}(e:h[id]?=some (.row 5 (smR l))):View h (.sl id 5 0 l.length) (smL l):=by
 have:=eb (h:=h) (id:=id) (sz:=5) (n:=l.length) (ls:=l.map Sm.cs) (by rw[e,smR];simp) (by simp) (λx hx=>by obtain⟨b,_,rfl⟩:=List.mem_map.1 hx;exact b.cs_len)
 exact this
theorem cb{h:List AO}{o:Int}{w:List UInt8}{a:List Ex}{bd el:List Sm}{A B E:AV}(hA:View h A (exL a))(hB:View h B (smL bd))(hE:View h E (smL el)):∀(j:Nat) (q:PV) (x:AV),(Sm.mk o w a bd el).cs[j]?=some q->[AV.p (.int .i64 o),.p (.str w),A,B,E][j]?=some x->View h x q:=by
 intro j q x e1 e2
 have hc:(Sm.mk o w a bd el).cs=[.int .i64 o,.str w,exL a,smL bd,smL el]:=Sm.cs_eq _
 rw[hc] at e1
 match j,e1,e2 with
 |0,e1,e2=>cases e1;cases e2;exact .p _
 |1,e1,e2=>cases e1;cases e2;exact .p _
 |2,e1,e2=>cases e1;cases e2;exact hA
 |3,e1,e2=>cases e1;cases e2;exact hB
 |4,e1,e2=>cases e1;cases e2;exact hE
 |j+5,e1,e2=>simp at e1
theorem IM{n:Nat}:∀o∈([]:List AO),okO n o:=λo h=>by cases h
theorem nV{n:Nat}{a:AO}{l:List AO}(h:okO n a)(r:∀o∈l,okO n o):∀o∈a::l,okO n o:=λo ho=>by
 rcases List.mem_cons.1 ho with rfl|ho
 ·exact h
 ·exact r o ho
end
section
variable (G:az)
theorem tv(n lo hi:Int):VF Tryz.prog G dB [.p (.int .i64 n),.p (.int .i64 lo),.p (.int .i64 hi)] (.p (.bool (inR n lo hi))):=by
 refine AC.go uE ?_
 by_cases h:lo<=n
 ·simp-implicitDefEqProofs[ja,h,inR]
 ·simp-implicitDefEqProofs[ja,h,inR]
abbrev Cm:Nat:=0
def BW:List PV:=keyW.map .str
variable (hK:G Cm=some BW)
include hK
end
section
abbrev Bh:Nat:=1
def opK:List PV:=[.int .i64 3,.int .i64 4,.int .i64 5,.int .i64 6,.int .i64 7,.int .i64 8,.int .i64 9,.int .i64 10]
def opV:List (List PV):=[[.str [43],.int .i64 3],[.str [45],.int .i64 3],[.str [42],.int .i64 4],[.str [47],.int .i64 4],[.str [37],.int .i64 4],[.str [60],.int .i64 2],[.str [61],.int .i64 2],[.str [38],.int .i64 1]]
def okE(m:Nat)(e:Ex):Bool:=bU m e&&decide (e.parts<=30)
variable (G:az) (hK:G Cm=some BW) (hS:G Bh=some [.tbl opK opV])
include hS
include hK
end
section
variable (G:az)
structure Vis (σ:Type) where
 I:σ->List AO
 n:Nat
 F:FuncId
 caps:List AV
 len:∀st,(I st).length=n
 ok:∀st,∀o∈I st,okO n o
 capsOk:aA n caps
theorem Vis.pre{σ:Type}(V:Vis σ){f:FuncId}{args:List AV}{st st':σ}{v:AV}(H:AC Tryz.prog G f args (V.I st) λx h=>x= .ret v/\h=V.I st')(rest:List AO)(ha:aA V.n args):
 AC Tryz.prog G f args (V.I st++rest) λx h=>x= .ret v/\h=V.I st'++rest:=by
 refine(AC.pre H rest (by rw[V.len];exact ha) (by rw[V.len];exact V.ok st) ?_).mono ?_
 ·rintro x h ⟨_,rfl⟩;rw[V.len,V.len]
 ·rintro x h ⟨h1,⟨rfl,rfl⟩,rfl⟩
  exact⟨rfl,rfl⟩
theorem Vis.trim{σ:Type}(V:Vis σ){f:FuncId}{args:List AV}{st st':σ}{v:AV}(H:AC Tryz.prog G f args (V.I st) λx h=>x= .ret v/\∃l,h=V.I st'++l)(hv:below V.n v):
 AC Tryz.prog G f args (V.I st) λx h=>x= .ret v/\h=V.I st':=by
 refine H.wk (λt v h ⟨e,_⟩=>by cases e) ?_
 rintro u h ⟨e,l,rfl⟩
 cases e
 refine⟨v,V.I st',zD (n:=V.n) (by rw[V.len];exact Nat.le_refl _) (ow (by rw[←V.len st',List.take_left'];rfl) (V.len _) (V.ok _)) ?_,rfl,rfl⟩
 simp[Fgt,hv]
theorem Gk{n m:Nat}(h:n<=m){o:AO}(ho:okO n o):okO m o:=by
 cases o with
 |dead=>trivial
 |sit=>trivial
 |row sz es=>exact λe he=>bx h _ (ho e he)
 |mp es=>exact λe he=>(bx h [e.2] ⟨ho e he,trivial⟩).1
theorem Vis.oks{σ:Type}(V:Vis σ)(st:σ){m:Nat}(hm:V.n<=m){r:List AO}(hr:∀o∈r,okO m o):∀o∈V.I st++r,okO m o:=by
 intro o ho
 rcases List.mem_append.1 ho with h|h
 ·exact Gk hm (V.ok st o h)
 ·exact hr o h
theorem Vis.same{σ:Type}(V:Vis σ)(st:σ){k n:Nat}(hk:k<=V.n){r s:List AO}{l l1:List (Nat × AV)}(hr:∀o∈r,okO (V.n+r.length) o)(H:FgA (V.n+r.length) l l1):Wk k (aw n l) (V.I st++(r++s)) (aw n l1) (V.I st++r):=by
 have hl:(V.I st++r).length=V.n+r.length:=by rw[List.length_append,V.len]
 refine yZ (m:=V.n+r.length) (by omega) (ow ?_ hl (V.oks st (by omega) hr)) H
 rw[←List.append_assoc,←hl,List.take_left'];rfl
end
section
def ixI:Option Nat->Int|none=> -1|some i=>i
def vaC(nf:Bool)(id n:Nat):AV:=if nf then .nils else .sl id 3 0 n
variable (G:az)
theorem Kv(l:List Fd)(s:List UInt8)(hl:l.length<=1099511627776):VF Tryz.prog G lC [.agg [.p (fdL l)],.p (.str s)] (.p (.int .i64 (ixI (uT l s)))):=by
 refine AC.go Ba ?_
 have hfl:∀l,fdL l= .lst 3 (l.map Fd.cs):=λ_=>rfl
 simp-implicitDefEqProofs[rh,hfl]
 refine aH (λi:Nat=>aw 22 [(1,.p (.str s)),(2,.ptr 0 1 0 0),(5,.p (.int .i64 i))]) (λ_=>[.row 1 [[.p (.lst 3 (l.map Fd.cs))]]]) (λi=>i<=l.length/\∀f∈l.take i,f.name≠s) (λi=>l.length-i) 0 (by simp) (aK (by simp) (by simp[okO]) (by simp[below])) ?_
 intro i ⟨hi,hn⟩
 simp-implicitDefEqProofs[]
 refine aF (λh=>?_) (λh=>?_)
 ·simp at h
  have hg:=List.getElem?_eq_getElem h
  have hce:l[i].cs=[.str l[i].name,bO l[i].params,smL l[i].body]:=rfl
  by_cases he:l[i].name=s
  ·have hf:uT l s=some i:=by
    rw[uT,List.findIdx?_eq_some_iff_getElem]
    exact⟨h,by simpa using he,λj hj=>by have:=hn l[j] (List.mem_take_iff_getElem.2 ⟨j,by omega,rfl⟩);simpa using this⟩
   simp-implicitDefEqProofs[hg,hce,he,hf,ixI]
  ·simp-implicitDefEqProofs[hg,hce,he]
   refine⟨i+1,⟨h,λp hp=>?_⟩,by omega,aK (by simp) (by simp[okO]) (by simp[below,w1 (i:=i) (by omega)])⟩
   rw[ay h] at hp
   rcases List.mem_append.1 hp with hp|hp
   ·exact hn p hp
   ·rw[List.mem_singleton.1 hp];exact he
 ·simp at h
  rw[List.take_of_length_le h] at hn
  have hf:uT l s=none:=by
   rw[uT,List.findIdx?_eq_none_iff];intro x hx;simpa using hn x hx
  simp-implicitDefEqProofs[hf,ixI]
end
section
variable (G:az)
structure GS where (gap:List AO) (m:Scp)
def mpE(m:Scp):List (PV × AV):=m.map λx=>(.str x.1,.p (.int .i64 x.2))
def scL:List GS->Nat
 |[]=>0
 |g::up=>scL up+g.gap.length+2
def upV:List GS->AV
 |[]=> .nilp
 |g::up=> .ptr (2+scL up+g.gap.length+1) 2 0 0
def scH:List GS->List AO
 |[]=>[]
 |g::up=>scH up++(g.gap++[.mp (mpE g.m),.row 2 [[.mp (2+scL up+g.gap.length),upV up]]])
def cO(fns:List Fd)(k:Nat)(c:Int):AO:= .row 3 [[.p (fdL fns),.p (.int .i64 k),.p (.int .i64 c)]]
theorem Cy(ch:List GS):(upV ch).isCell=true:=by cases ch<;>rfl
theorem EL(ch:List GS):(upV ch).cells=[upV ch]:=by cases ch<;>rfl
attribute [simp ↓] Cy EL
end
section
variable (G:az)
theorem LS.reg{l:List Fd}{pr:Int}{L:Nat}{w:Lw}{h:List AO}{K:AV}{I:List Nat}(H:LS (lwO l pr) L w h K I):LS (lwO l pr) L w.reg (h.set L (lwO l pr w.reg K)) K I:=
 ⟨List.getElem?_set_self H.lt,H.own.frame λi hi=>List.getElem?_set_ne λe=>(List.nodup_cons.1 H.nd).1 (by rw[e];exact hi),H.nd,H.noc.1,λkid n rows eK hg=>by
   have ho:=H.own
   rw[eK] at ho
   rw[List.getElem?_set_ne λe=>(List.nodup_cons.1 H.nd).1 (by rw[e];exact ss ho)] at hg
   exact H.noc.2 kid n rows eK hg⟩
end
section
theorem AH(a:List Ex):(a.headD (.mk 0 0 [] [])).sz<=aS a+1:=by
 cases a with
 |nil=>rw[Ex.sz_eq];simp[Ex.name,Ex.kids,aS]
 |cons x r=>simp only[List.headD_cons,aS];omega
theorem HY(s:Sm):EQ s=(if s.op=1 then 1 else 0)+bj s.body+bj s.els:=by
 obtain⟨o,n,a,b,e⟩:=s;rw[EQ];rfl
mutual
theorem JY(fa:List UInt8->Int)(d:Int):∀(s:Sm) (m:Scp) (up:List Scp) (nx:Nat) (w:Lw) (B:Nat),w.Ok B->(lwS fa d s m up nx w).2.2.Ok (B+20*s.sz)/\w.bs.length<=(lwS fa d s m up nx w).2.2.bs.length/\nx<=(lwS fa d s m up nx w).2.1/\(lwS fa d s m up nx w).2.1<=nx+s.sz
 | .mk o n a bd el,m,up,nx,w,B,H=>by
   have hz:(Sm.mk o n a bd el).sz=1+n.length+aS a+aO bd+aO el:=Sm.sz_eq _
   rw[hz,lwS]
   simp only
   split
   ·have h1:=(H.name 3).fin 1 0 (g:=w.bs.length) (by simp) [(w.bs.length:Int)]
    have hh:=AH a
    obtain⟨h2,l2⟩:=nK fa (scF d (m::up)) (a.headD (.mk 0 0 [] [])) _ _ h1
    generalize lwE fa (scF d (m::up)) (a.headD (.mk 0 0 [] [])) _=x at*
    simp at l2
    have h3:=h2.fin 2 x.1 (g:=w.bs.length+1) (by omega) [(w.bs.length:Int)+1,(w.bs.length:Int)+2]
    obtain⟨h4,l4,l5,l6⟩:=eu fa d bd [] (m::up) nx _ _ h3
    generalize aZ fa d bd [] (m::up) nx _=y at*
    simp at l4
    have h5:=h4.fin 1 0 (g:=w.bs.length+2) (by omega) [(w.bs.length:Int)]
    exact⟨h5.up (by omega),by simp;omega,l5,by show y.2.1<=_;omega⟩
   ·obtain⟨h1,l1⟩:=kr fa (scF d (m::up)) a _ _ H
    generalize bF fa (scF d (m::up)) a w=x at*
    split
    ·exact⟨(h1.put _).up (by omega),by simpa using l1,by show nx<=nx+1;omega,by show nx+1<=_;omega⟩
    split
    ·exact⟨(h1.put _).up (by omega),by simpa using l1,Nat.le_refl _,by show nx<=_;omega⟩
    split
    ·exact⟨(h1.put _).up (by omega),by simpa using l1,Nat.le_refl _,by show nx<=_;omega⟩
    split
    ·exact⟨(h1.put _).up (by omega),by simpa using l1,Nat.le_refl _,by show nx<=_;omega⟩
    split
    ·have h3:=(h1.name 3).fin 2 (x.1.headD 0) (g:=x.2.bs.length) (by simp) [(x.2.bs.length:Int),(x.2.bs.length:Int)+1]
     obtain⟨h4,l4,l5,l6⟩:=eu fa d bd [] (m::up) nx _ _ h3
     generalize aZ fa d bd [] (m::up) nx _=y at*
     simp at l4
     have h5:=h4.fin 1 0 (g:=x.2.bs.length+1) (by omega) [(x.2.bs.length:Int)+2]
     obtain⟨h6,l7,l8,l9⟩:=eu fa d el [] (m::up) y.2.1 _ _ h5
     generalize aZ fa d el [] (m::up) y.2.1 _=z at*
     simp at l7
     have h7:=h6.fin 1 0 (g:=x.2.bs.length+2) (by omega) [(x.2.bs.length:Int)+2]
     exact⟨h7.up (by omega),by simp;omega,by show nx<=z.2.1;omega,by show z.2.1<=_;omega⟩
    split
    ·have h3:=(h1.name 1).fin 3 (x.1.headD 0) (g:=x.2.bs.length) (by simp) []
     exact⟨h3.up (by omega),by simp;omega,Nat.le_refl _,by show nx<=_;omega⟩
    ·exact⟨h1.up (by omega),l1,Nat.le_refl _,by show nx<=_;omega⟩
theorem eu(fa:List UInt8->Int)(d:Int):∀(l:List Sm) (m:Scp) (up:List Scp) (nx:Nat) (w:Lw) (B:Nat),w.Ok B->(aZ fa d l m up nx w).2.2.Ok (B+20*aO l)/\w.bs.length<=(aZ fa d l m up nx w).2.2.bs.length/\nx<=(aZ fa d l m up nx w).2.1/\(aZ fa d l m up nx w).2.1<=nx+aO l
 |[],m,up,nx,w,B,H=>by rw[aZ];exact⟨H.up (by omega),Nat.le_refl _,Nat.le_refl _,by show nx<=_;omega⟩
 |s::r,m,up,nx,w,B,H=>by
  obtain⟨h1,l1,l2,l3⟩:=JY fa d s m up nx w B H
  have hz:aO (s::r)=s.sz+aO r:=by rw[aO]
  rw[aZ,hz]
  obtain⟨h4,l4,l5,l6⟩:=eu fa d r (lwS fa d s m up nx w).1 up _ _ _ h1
  exact⟨h4.up (by omega),by omega,by omega,by omega⟩
end
theorem zV(fa:List UInt8->Int)(d:Int):∀(a b:List Sm) (m:Scp) (up:List Scp) (nx:Nat) (w:Lw),aZ fa d (a++b) m up nx w=aZ fa d b (aZ fa d a m up nx w).1 up (aZ fa d a m up nx w).2.1 (aZ fa d a m up nx w).2.2
 |[],b,m,up,nx,w=>by simp[aZ]
 |s::r,b,m,up,nx,w=>by rw[List.cons_append,aZ,aZ,zV fa d r]
theorem vD{fa:List UInt8->Int}{d:Int}{l:List Sm}{i:Nat}(h:i<l.length)(m:Scp)(up:List Scp)(nx:Nat)(w:Lw):
 aZ fa d (l.take (i+1)) m up nx w=lwS fa d l[i] (aZ fa d (l.take i) m up nx w).1 up (aZ fa d (l.take i) m up nx w).2.1 (aZ fa d (l.take i) m up nx w).2.2:=by
 rw[ay h,zV,aZ,aZ]
end
section
inductive ChN (h:List AO):AV->List Scp->List Nat->Prop where
 |nil:ChN h .nilp [] []
 |cons (e m:Nat) (c:Scp) (u:AV) (v:List Scp) (C:List Nat):h[e]?=some (.row 2 [[.mp m,u]])->h[m]?=some (.mp (mpE c))->ChN h u v C->ChN h (.ptr e 2 0 0) (c::v) (e::m::C)
section
variable {h h':List AO} {u:AV} {v:List Scp} {C:List Nat}
theorem ChN.frame(H:ChN h u v C)(e:∀i∈C,h'[i]?=h[i]?):ChN h' u v C:=by
 induction H with
 |nil=>exact .nil
 |cons a m c u v C h1 h2 _ ih=>exact .cons a m c u v C (by rw[e a (by simp)];exact h1) (by rw[e m (by simp)];exact h2) (ih λi hi=>e i (by simp[hi]))
theorem ChN.lt(H:ChN h u v C):∀i∈C,i<h.length:=by
 induction H with
 |nil=>intro i hi;cases hi
 |cons a m c u v C h1 h2 _ ih=>
  intro i hi
  simp only[List.mem_cons] at hi
  rcases hi with rfl|rfl|hi
  ·exact(List.getElem?_eq_some_iff.1 h1).1
  ·exact(List.getElem?_eq_some_iff.1 h2).1
  ·exact ih i hi
theorem ChN.more(H:ChN h u v C)(os:List AO):ChN (h++os) u v C:=H.frame λi hi=>List.getElem?_append_left (H.lt i hi)
theorem ChN.is(H:ChN h u v C):Aw.below h.length u/\u.isCell=true/\u.cells=[u]:=by
 cases H with
 |nil=>exact⟨trivial,rfl,rfl⟩
 |cons a m c u v C h1 h2 _=>exact⟨(List.getElem?_eq_some_iff.1 h1).1,rfl,rfl⟩
end
variable (G:az)
def rW(l:List Int):AO:= .row 1 (l.map λn=>[AV.p (.int .i64 n)])
end
section
variable (G:az)
theorem KZ(l:List Fd)(s:List UInt8):faI l s=ixI (uT l s):=by
 unfold faI;cases uT l s<;>rfl
theorem nM{d:Nat}{e a:Ex}(h:bU (d+1) e=true)(ha:a∈e.kids):bU d a=true:=by
 rw[bU,Bool.and_eq_true] at h
 exact List.all_eq_true.1 h.2 a ha
theorem EI{d:Nat}{e:Ex}(h:bU d e=true)(ho:e.op=10):∃a b,e.kids=[a,b]:=by
 cases d with
 |zero=>cases h
 |succ d=>
  rw[bU,Bool.and_eq_true] at h
  have h:=h.1
  simp only[ln,Bool.and_eq_true,inR,decide_eq_true_eq] at h
  obtain⟨⟨⟨⟨⟨_,h2⟩,_⟩,_⟩,_⟩,_⟩:=h
  rw[ho,show loK 10=2 from rfl,show hiK 10=2 from rfl] at h2
  match e.kids,h2 with
  |[a,b],_=>exact⟨a,b,rfl⟩
  |[],h=>simp at h
  |[_],h=>simp at h
  |_::_::_::r,h=>simp only[List.length_cons] at h;omega
structure Stg (mk:Lw->AV->AO) (L:Nat) (I0 E:List Nat) (h hB:List AO) (w:Lw) (X:List AO) (K:AV) (I:List Nat):Prop where
 ls:LS mk L w X K I
 fr:Frm (L::I0) h X
 sub:∀j∈I,j∈I0\/h.length<=j
 keep:∀i∈E,X[i]?=hB[i]?
 ap:∀i∈E,i<X.length/\i∉L::I
 ge:hB.length<=X.length
section
variable {mk:Lw->AV->AO} {L:Nat} {I0 E:List Nat} {h hB:List AO} {w w2:Lw} {X X2:List AO} {K:AV} {I:List Nat}
theorem Stg.more(S:Stg mk L I0 E h hB w X K I)(os:List AO):Stg mk L I0 E h hB w (X++os) K I:=
 ⟨S.ls.more os,S.fr.trans (Frm.more (L::I0) X os) λj hj=> .inl hj,S.sub,λi hi=>by rw[List.getElem?_append_left (S.ap i hi).1];exact S.keep i hi,λi hi=>⟨by have:=(S.ap i hi).1;simp;omega,(S.ap i hi).2⟩,by have:=S.ge;simp;omega⟩
theorem Stg.step(S:Stg mk L I0 E h hB w X K I){J:List Nat}(hJ:∀j∈J,h.length<=j/\j∉E)(H:LR mk L w2 (I++J) X X2):∃K2 I2,Stg mk L I0 E h hB w2 X2 K2 I2:=by
 obtain⟨K2,I2,a1,a2,a3⟩:=H
 have hE:∀i∈E,i∉L::(I++J):=λi hi hm=>by
  have h1:=(S.ap i hi).2
  simp only[List.mem_cons,List.mem_append,not_or] at hm h1
  rcases hm with hm|hm|hm
  ·exact h1.1 hm
  ·exact h1.2 hm
  ·exact(hJ i hm).2 hi
 have hX:=S.fr.1
 refine⟨K2,I2,a1,S.fr.trans a2 λj hj=>?_,λj hj=>?_,λi hi=>?_,λi hi=>⟨?_,λhm=>?_⟩,?_⟩
 ·simp only[List.mem_cons,List.mem_append] at hj⊢
  rcases hj with rfl|hj|hj
  ·exact .inl (.inl rfl)
  ·rcases S.sub j hj with h|h
   ·exact .inl (.inr h)
   ·exact .inr h
  ·exact .inr (hJ j hj).1
 ·rcases a3 j hj with h|h
  ·rcases List.mem_append.1 h with h|h
   ·exact S.sub j h
   ·exact .inr (hJ j h).1
  ·exact .inr (by omega)
 ·rw[a2.2 i (S.ap i hi).1 (hE i hi)];exact S.keep i hi
 ·have:=(S.ap i hi).1;have:=a2.1;omega
 ·have h1:=hE i hi
  simp only[List.mem_cons,not_or] at hm h1
  rcases hm with hm|hm
  ·exact h1.1 hm
  ·rcases a3 i hm with h|h
   ·exact h1.2 h
   ·have:=(S.ap i hi).1;omega
 ·have:=a2.1;have:=S.ge;omega
theorem Stg.lr(S:Stg mk L I0 E h hB w X K I):LR mk L w I0 h X:=⟨K,I,S.ls,S.fr,S.sub⟩
theorem Stg.of(H:LS mk L w h K I)(os:List AO)(hE:∀i∈E,i<(h++os).length/\i∉L::I):Stg mk L I E h (h++os) w (h++os) K I:=
 ⟨H.more os,Frm.more _ _ _,λj hj=> .inl hj,λ_ _=>rfl,hE,Nat.le_refl _⟩
end
theorem Stg.fresh{mk:Lw->AV->AO}{L:Nat}{I0 E:List Nat}{h hB:List AO}{w:Lw}{X:List AO}{K:AV}{I:List Nat}(S:Stg mk L I0 E h hB w X K I):(∀j∈[X.length],h.length<=j/\j∉E)/\(∀j∈[X.length],j≠L/\j∉I):=by
 refine⟨λj hj=>?_,λj hj=>?_⟩
 ·rw[List.mem_singleton.1 hj]
  exact⟨S.fr.1,λhm=>by have:=(S.ap _ hm).1;omega⟩
 ·rw[List.mem_singleton.1 hj]
  exact⟨λe=>by have:=S.ls.lt;omega,λhm=>by have:=S.ls.own.lt hm;omega⟩
theorem gk(X:List AO)(l:List Int){n:Nat}(hn:n=l.length):OwnL false (X++[.row 1 (l.map λn=>[AV.p (.int .i64 n)])]) [.sl X.length 1 0 n] [aC l] [X.length]:=
 tq (by rw[List.getElem?_append_right (Nat.le_refl _)];simp) hn
end
section
theorem zL{d:Nat}{e:Sm}(h:aR d e=true):∃c,d=c+1:=by
 cases d with
 |zero=>cases h
 |succ d=>exact⟨d,rfl⟩
theorem GJ{d:Nat}{x:Sm}(h:aR d x=true):∀a∈x.args,bU 6 a=true:=by
 obtain⟨d,rfl⟩:=zL h
 rw[aR,Bool.and_eq_true,Bool.and_eq_true] at h
 have h1:=h.1.1
 simp only[gd,Bool.and_eq_true,List.all_eq_true] at h1
 intro a ha
 have:=h1.1.1.1.2 a ha
 rw[rG,Bool.and_eq_true] at this
 exact this.1
theorem Lh{d:Nat}{x:Sm}(h:aR d x=true):x.args≠[]:=by
 obtain⟨d,rfl⟩:=zL h
 rw[aR,Bool.and_eq_true,Bool.and_eq_true] at h
 have h1:=h.1.1
 simp only[gd,Bool.and_eq_true,decide_eq_true_eq] at h1
 have h2:=h1.1.1.1.1.1.1.2
 intro e
 rw[e] at h2
 simp only[List.length_nil,ky] at h2
 split at h2<;>omega
theorem GQ{d:Nat}{x:Sm}(h:aR (d+1) x=true):∀y∈x.body,aR d y=true:=by
 rw[aR,Bool.and_eq_true,Bool.and_eq_true] at h
 exact List.all_eq_true.1 h.1.2
theorem IC{d:Nat}{x:Sm}(h:aR (d+1) x=true):∀y∈x.els,aR d y=true:=by
 rw[aR,Bool.and_eq_true,Bool.and_eq_true] at h
 exact List.all_eq_true.1 h.2
structure Stb (mk:Lw->AV->AO) (L:Nat) (S I0 E:List Nat) (h:List AO) (w:Lw) (X:List AO) (K:AV) (I:List Nat):Prop where
 ls:LS mk L w X K I
 fr:Frm S h X
 hL:L∈S
 hS:∀j∈I0,j∈S
 sub:∀j∈I,j∈I0\/h.length<=j
 ap:∀i∈E,i<X.length/\i∉L::I
section
variable {mk:Lw->AV->AO} {L:Nat} {S I0 E:List Nat} {h:List AO} {w w2:Lw} {X X2:List AO} {K:AV} {I:List Nat}
theorem Stb.more(T:Stb mk L S I0 E h w X K I)(os:List AO):Stb mk L S I0 E h w (X++os) K I:=
 ⟨T.ls.more os,T.fr.trans (Frm.more S X os) λj hj=> .inl hj,T.hL,T.hS,T.sub,λi hi=>⟨by have:=(T.ap i hi).1;simp;omega,(T.ap i hi).2⟩⟩
theorem Stb.fresh(T:Stb mk L S I0 E h w X K I):(∀j∈[X.length],h.length<=j/\j∉E)/\(∀j∈[X.length],j≠L/\j∉I):=by
 refine⟨λj hj=>?_,λj hj=>?_⟩
 ·rw[List.mem_singleton.1 hj]
  exact⟨T.fr.1,λhm=>by have:=(T.ap _ hm).1;omega⟩
 ·rw[List.mem_singleton.1 hj]
  exact⟨λe=>by have:=T.ls.lt;omega,λhm=>by have:=T.ls.own.lt hm;omega⟩
theorem Stb.stepG(T:Stb mk L S I0 E h w X K I){J V:List Nat}{K2:AV}{I2:List Nat}(hJ:∀j∈J,h.length<=j/\j∉E)(hV:∀j∈V,(j∈S\/h.length<=j))(a1:LS mk L w2 X2 K2 I2)(a2:Frm (L::(V++(I++J))) X X2)(a3:∀j∈I2,j∈I++J\/X.length<=j):
 Stb mk L S I0 E h w2 X2 K2 I2/\∀i∈E,i∉V->X2[i]?=X[i]?:=by
 have hX:=T.fr.1
 have hE:∀i∈E,i≠L/\i∉I/\i∉J:=λi hi=>by
  have h1:=(T.ap i hi).2
  simp only[List.mem_cons,not_or] at h1
  exact⟨h1.1,h1.2,λhm=>(hJ i hm).2 hi⟩
 refine⟨⟨a1,T.fr.trans a2 λj hj=>?_,T.hL,T.hS,λj hj=>?_,λi hi=>⟨by have:=(T.ap i hi).1;have:=a2.1;omega,λhm=>?_⟩⟩,λi hi hv=>?_⟩
 ·simp only[List.mem_cons,List.mem_append] at hj
  rcases hj with rfl|hj|hj|hj
  ·exact .inl T.hL
  ·exact hV j hj
  ·rcases T.sub j hj with h|h
   ·exact .inl (T.hS j h)
   ·exact .inr h
  ·exact .inr (hJ j hj).1
 ·rcases a3 j hj with h|h
  ·rcases List.mem_append.1 h with h|h
   ·exact T.sub j h
   ·exact .inr (hJ j h).1
  ·exact .inr (by omega)
 ·obtain⟨h1,h2,h3⟩:=hE i hi
  simp only[List.mem_cons] at hm
  rcases hm with hm|hm
  ·exact h1 hm
  ·rcases a3 i hm with h|h
   ·rcases List.mem_append.1 h with h|h
    ·exact h2 h
    ·exact h3 h
   ·have:=(T.ap i hi).1;omega
 ·obtain⟨h1,h2,h3⟩:=hE i hi
  refine a2.2 i (T.ap i hi).1 ?_
  simp only[List.mem_cons,List.mem_append,not_or]
  exact⟨h1,hv,h2,h3⟩
theorem Stb.step(T:Stb mk L S I0 E h w X K I){J:List Nat}(hJ:∀j∈J,h.length<=j/\j∉E)(H:LR mk L w2 (I++J) X X2):∃K2 I2,Stb mk L S I0 E h w2 X2 K2 I2/\∀i∈E,X2[i]?=X[i]?:=by
 obtain⟨K2,I2,a1,a2,a3⟩:=H
 obtain⟨b1,b2⟩:=T.stepG (V:=[]) hJ (λj hj=>by cases hj) a1 a2 a3
 exact⟨K2,I2,b1,λi hi=>b2 i hi (by simp)⟩
end
structure Bx (L Q b0 b1 se sm:Nat) (C:List Nat) (m:Scp) (up:List Scp) (nx:Nat) (X:List AO):Prop where
 box0:X[b0]?=some (.row 1 [[.ptr L 5 0 0]])
 box1:X[b1]?=some (.row 1 [[.ptr se 2 0 0]])
 ch:ChN X (.ptr se 2 0 0) (m::up) (se::sm::C)
 q:X[Q]?=some (.row 1 [[.p (.int .i64 nx)]])
theorem Bx.frame{L Q b0 b1 se sm:Nat}{C:List Nat}{m:Scp}{up:List Scp}{nx:Nat}{X X2:List AO}(H:Bx L Q b0 b1 se sm C m up nx X)(e:∀i∈b0::b1::Q::se::sm::C,X2[i]?=X[i]?):Bx L Q b0 b1 se sm C m up nx X2:=
 ⟨by rw[e b0 (by simp)];exact H.box0,by rw[e b1 (by simp)];exact H.box1,H.ch.frame λi hi=>e i (by simp only[List.mem_cons] at hi⊢;rcases hi with rfl|rfl|hi<;>simp[*]),by rw[e Q (by simp)];exact H.q⟩
theorem Bx.more{L Q b0 b1 se sm:Nat}{C:List Nat}{m:Scp}{up:List Scp}{nx:Nat}{X:List AO}(H:Bx L Q b0 b1 se sm C m up nx X)(os:List AO):Bx L Q b0 b1 se sm C m up nx (X++os):=
 H.frame λi hi=>List.getElem?_append_left (by
  have h0:=(List.getElem?_eq_some_iff.1 H.box0).1
  have h1:=(List.getElem?_eq_some_iff.1 H.box1).1
  have h3:=(List.getElem?_eq_some_iff.1 H.q).1
  simp only[List.mem_cons] at hi
  rcases hi with rfl|rfl|rfl|hi
  ·exact h0
  ·exact h1
  ·exact h3
  ·exact H.ch.lt i (by simpa using hi))
end
section
def lwR(l:List Fd)(pr:Int)(V:AV)(nx:Nat)(w:Lw)(K:AV):AO:= .row 8 [[.p (fdL l),.p (.int .i64 pr),.p (.int .i64 w.regs),K,.p (.int .i64 w.pos),V,.p (.int .i64 nx),.nils]]
theorem Gs(l:List Fd)(pr:Int)(V:AV)(nx:Nat):MkF (lwR l pr V nx):=λw w2 K h1 h2=>by simp[lwR,h1,h2]
theorem LS.swap{mk mk2:Lw->AV->AO}{L:Nat}{w w2:Lw}{h:List AO}{K:AV}{I:List Nat}(H:LS mk L w h K I)(hb:w2.bs=w.bs):LS mk2 L w2 (h.set L (mk2 w2 K)) K I:=
 ⟨List.getElem?_set_self H.lt,by rw[hb];exact H.own.frame λi hi=>List.getElem?_set_ne λe=>(List.nodup_cons.1 H.nd).1 (by rw[e];exact hi),H.nd,H.noc.1,λkid n rows eK hg=>by
   have ho:=H.own
   rw[eK] at ho
   rw[List.getElem?_set_ne λe=>(List.nodup_cons.1 H.nd).1 (by rw[e];exact ss ho)] at hg
   exact H.noc.2 kid n rows eK hg⟩
theorem DA{h:List AO}{p q r:Nat}(h1:h[p]?=some (AO.row 2 []))(h2:h[q]?=some (AO.row 4 []))(h3:h[r]?=some (AO.row 1 [])):OwnL false h [.sl p 2 0 0,.sl q 4 0 0,.p (.int .i64 0),.p (.int .i64 0),.sl r 1 0 0] bk0.cs [p,q,r]:=by
 have e1:OwnL false h [.sl p 2 0 0] [phL []] [p]:=(⟨h1,rfl,by simp,by simp,.nil,by simp⟩:RowOwn false h p 2 [] [] []).tree rfl
 have e2:OwnL false h [.sl q 4 0 0] [inL []] [q]:=(⟨h2,rfl,by simp,by simp,.nil,by simp⟩:RowOwn false h q 4 [] [] []).tree rfl
 have e3:OwnL false h [.sl r 1 0 0] [aC []] [r]:=(⟨h3,rfl,by simp,by simp,.nil,by simp⟩:RowOwn false h r 1 [] [] []).tree rfl
 exact Bv (b:=bk0) e1 e2 e3
theorem LS.blockAt{mk:Lw->AV->AO}{L:Nat}{w:Lw}{h:List AO}{K:AV}{I:List Nat}(H:LS mk L w h K I)(hp:0<w.bs.length)(os:List AO){p q r:Nat}(hpq:p<q/\q<r/\h.length<=p)(h1:(h++os)[p]?=some (.row 2 []))(h2:(h++os)[q]?=some (.row 4 []))(h3:(h++os)[r]?=some (.row 1 [])):
 ∃kid rows,K= .sl kid 5 0 w.bs.length/\(∀t,(h++t)[kid]?=some (.row 5 rows))/\rows.length=w.bs.length/\kid<h.length/\kid≠L/\
  LR mk L (w.name 1) I h (((h++os).set kid AO.dead++[AO.row 5 (rows++[[.sl p 2 0 0,.sl q 4 0 0,.p (.int .i64 0),.p (.int .i64 0),.sl r 1 0 0]])]).set L (mk (w.name 1) (.sl (h.length+os.length) 5 0 (w.bs.length+1)))):=by
 obtain⟨kid,rows,J,rfl,rfl,hr⟩:=H.rows hp
 have hkl:=hr.lt
 have hLl:=H.lt
 have hlen:=hr.len
 rw[List.length_map] at hlen
 have hnd:=H.nd
 simp only[List.nodup_cons,List.mem_cons,not_or] at hnd
 have hrl:r<(h++os).length:=(List.getElem?_eq_some_iff.1 h3).1
 rw[List.length_append] at hrl
 refine⟨kid,rows,rfl,λt=>by rw[List.getElem?_append_left hkl];exact hr.here,hlen,hkl,λe=>hnd.1.1 e.symm,?_⟩
 have hJl:=λj (hj:j∈J)=>hr.own.lt hj
 have hra:=Cc hr (h2:=h++os) rfl (rs:=[[.sl p 2 0 0,.sl q 4 0 0,.p (.int .i64 0),.p (.int .i64 0),.sl r 1 0 0]]) (es:=[bk0.cs]) (I2:=[p,q,r]) (by
  rw[List.flatten_singleton,List.flatten_singleton];exact DA h1 h2 h3) rfl (by simp) (by simp[bk0,Bk.cs]) (by simp;omega) (λj hj=>by
  simp only[List.mem_cons,List.not_mem_nil,or_false] at hj
  rcases hj with rfl|rfl|rfl
  ·exact⟨by omega,λhm=>by have:=hJl _ hm;omega⟩
  ·exact⟨by omega,λhm=>by have:=hJl _ hm;omega⟩
  ·exact⟨by omega,λhm=>by have:=hJl _ hm;omega⟩)
 have hl0:(h++os).length=h.length+os.length:=by simp
 rw[hl0] at hra
 have hra2:=hra.frame (h':=(((h++os).set kid AO.dead++[AO.row 5 (rows++[[.sl p 2 0 0,.sl q 4 0 0,.p (.int .i64 0),.p (.int .i64 0),.sl r 1 0 0]])]).set L (mk (w.name 1) (.sl (h.length+os.length) 5 0 (w.bs.length+1))))) (λi hi=>List.getElem?_set_ne λe=>by
  subst e
  simp only[List.mem_cons,List.mem_append,List.not_mem_nil,or_false] at hi
  rcases hi with h|h|h|h|h
  ·omega
  ·exact hnd.1.2 h
  ·omega
  ·omega
  ·omega)
 refine⟨_,(h.length+os.length)::(J++[p,q,r]),⟨List.getElem?_set_self (by simp;omega),?_,?_,?_⟩,⟨by simp;omega,λi hi hn=>?_⟩,λj hj=>?_⟩
 ·rw[show bkL (w.name 1).bs= .lst 5 (w.bs.map Bk.cs++[bk0.cs]) by simp[bkL,Lw.name]]
  exact hra2.tree (by simp)
 ·simp only[List.nodup_cons,List.mem_cons,List.mem_append,List.not_mem_nil,or_false,not_or]
  exact⟨⟨by omega,hnd.1.2,by omega,by omega,by omega⟩,by have:=hra.nd;simpa using this⟩
 ·refine⟨λq e=>(by cases e),?_⟩
  intro kid2 n2 rows2 eK hg2 r hr2
  cases eK
  rw[hra2.here] at hg2
  cases hg2
  rcases List.mem_append.1 hr2 with h1|h1
  ·exact H.noc.2 kid _ rows rfl hr.here r h1
  ·rw[List.mem_singleton.1 h1];simp
 ·simp only[List.mem_cons,not_or] at hn
  rw[List.getElem?_set_ne (Ne.symm hn.1),List.getElem?_append_left (by simp;omega),List.getElem?_set_ne (Ne.symm hn.2.1),List.getElem?_append_left hi]
 ·simp only[List.mem_cons,List.mem_append,List.not_mem_nil,or_false] at hj
  rcases hj with rfl|hj|rfl|rfl|rfl
  ·exact .inr (by omega)
  ·exact .inl (by simp[hj])
  ·exact .inr (by omega)
  ·exact .inr (by omega)
  ·exact .inr (by omega)
variable (G:az)
section
variable {l:List Fd} {pr:Int} {V:AV} {nx:Nat} {L:Nat} {w:Lw} {h:List AO} {K:AV} {I:List Nat}
theorem Hp(H:LS (lwR l pr V nx) L w h K I)(hw:w.regs<=1073741824):
 AC Tryz.prog G bv [.ptr L 8 0 0] h λx h'=>x= .ret (.p (.int .i64 w.regs))/\h'=h.set L (lwR l pr V nx w.reg K):=by
 have hg:=H.here
 have hw1:IntKind.i64.wrap ((w.regs:Int)+1)=((w.regs+1:Nat):Int):=by rw[ae (by omega) (by omega)];omega
 have hw2:IntKind.i64.wrap (((w.regs+1:Nat):Int)-1)=w.regs:=by rw[ae (by omega) (by omega)];omega
 simp only[lwR] at hg
 refine AC.go nB ?_
 have hgs:∀o,(h.set L o)[L]?=some o:=λo=>List.getElem?_set_self H.lt
 simp-implicitDefEqProofs[-AV.cells,-AV.isCell,aE,aD,gN,hg, ↓hgs]
 rw[hw1,hw2]
 exact⟨rfl,rfl⟩
theorem nJ(H:LS (lwR l pr V nx) L w h K I){B:Nat}(hok:w.Ok B)(hB:B<=1073741824)(x:Ii){A:AV}{J:List Nat}(hA:OwnL false h [A] [aC x.args] J)(ndJ:J.Nodup)(hJ:∀j∈J,j≠L/\j∉I):
 AC Tryz.prog G bR [.ptr L 8 0 0,.p (.int .i64 x.op),.p (.int .i64 x.to),.p (.int .i64 x.n),A] h λr h'=>r= .ret (.p (.int .i64 x.to))/\LR (lwR l pr V nx) L (w.put x) (I++J) h h':=by
 have hg:=H.here
 obtain⟨kid,rows,b,P,N,X,rfl,hrow,hlen,hb,hcur,⟨p1,p2⟩,⟨n1,n2⟩,⟨x1,x2⟩,hkl,hN⟩:=H.putAt (Gs l pr V nx) hok.pos x hA ndJ hJ
 obtain⟨a1,a2⟩:=kx hA
 have hins:b.ins.length<=B:=hok.ins _ (List.mem_of_getElem? hb)
 have hpos:=hok.pos
 have hrow0:h[kid]?=some (.row 5 rows):=by simpa using hrow []
 simp only[lwR] at hg
 refine AC.go pH ?_
 have hgm:∀t,(h++t)[L]?=some (.row 8 [[.p (fdL l),.p (.int .i64 pr),.p (.int .i64 w.regs),.sl kid 5 0 w.bs.length,.p (.int .i64 w.pos),V,.p (.int .i64 nx),.nils]]):=λt=>by rw[List.getElem?_append_left H.lt];exact hg
 rcases hN with⟨rfl,hi0,close⟩|⟨iid,rowsN,rfl,hir,hil,hiil,hik,close⟩
 ·simp-implicitDefEqProofs[-AV.cells,-AV.isCell,aE,ag,ah,am,aD,af,an,a1,a2,p1,p2,x1,x2,ff,hg,hgm,hrow,hrow0,hcur,hlen]
  exact⟨hok.pos,close [_]⟩
 ·have htk:List.take b.ins.length rowsN=rowsN:=List.take_of_length_le (by omega)
  have hk2:∀t u,((h++t).set iid .dead++u)[kid]?=some (.row 5 rows):=λt u=>by rw[List.getElem?_append_left (by simp;omega),List.getElem?_set_ne hik];exact hrow t
  simp-implicitDefEqProofs[-AV.cells,-AV.isCell,aE,ag,ah,am,aD,af,an,a1,a2,p1,p2,x1,x2,ff,hg,hgm,hrow,hrow0,hcur,hlen,hir,htk, ↓hk2]
  exact⟨hok.pos,⟨by omega,by omega,by omega⟩,close [_]⟩
theorem mi(H:LS (lwR l pr V nx) L w h K I){B:Nat}(hok:w.Ok B)(j o:Int)(g:Nat)(ne:List Int){Y:AV}{J:List Nat}(hY:OwnL false h [Y] [aC ne] J)(ndJ:J.Nodup)(hJ:∀j∈J,j≠L/\j∉I):
 AC Tryz.prog G bp [.ptr L 8 0 0,.p (.int .i64 j),.p (.int .i64 o),Y,.p (.int .i64 g)] h λr h'=>r= .ret (.tup [])/\LR (lwR l pr V nx) L (w.fin j o g ne) (I++J) h h':=by
 have hg:=H.here
 obtain⟨kid,rows,b,P,N,X,rfl,hrow,hlen,hb,hcur,⟨p1,p2⟩,⟨n1,n2⟩,⟨x1,x2⟩,hkl,hkL,close⟩:=H.finAt (Gs l pr V nx) hok.pos
 obtain⟨a1,a2⟩:=kx hY
 have hrow0:h[kid]?=some (.row 5 rows):=by simpa using hrow []
 have hcl:=close j o g ne Y J hY ndJ hJ
 have hLl:=H.lt
 simp only[lwR] at hg
 have hs1:∀o,(h.set kid o)[kid]?=some o:=λo=>List.getElem?_set_self hkl
 have hs2:∀o,(h.set kid o)[L]?=h[L]?:=λo=>List.getElem?_set_ne hkL
 have hrs:∀r,(rows.set w.pos r)[w.pos]?=some r:=λr=>List.getElem?_set_self (by rw[hlen];exact hok.pos)
 refine AC.go od ?_
 simp-implicitDefEqProofs[-AV.cells,-AV.isCell,aE,ag,ah,am,aD,af,an,a1,a2,n1,n2,p1,p2,x1,x2,iA,hg,hrow,hrow0,hcur,hlen, ↓hs1, ↓hs2, ↓hrs]
 exact⟨hok.pos,hcl⟩
theorem tT(H:LS (lwR l pr V nx) L w h K I){B:Nat}(hok:w.Ok B)(hB:B<=1073741824)(hV:V.cells=[V]/\V.isCell=true):
 AC Tryz.prog G bT [.ptr L 8 0 0] h λr h'=>r= .ret (.p (.int .i64 w.bs.length))/\LR (lwR l pr V nx) L (w.name 1) I h h':=by
 have hg:=H.here
 have hp0:=hok.pos
 have hbl:=hok.bs
 obtain⟨v1,v2⟩:=hV
 have hLl:=H.lt
 obtain⟨kid,rows,rfl,hrow,hlen,hkl,hkL,close⟩:=H.blockAt (by omega) [.row 2 [],.row 4 [],.row 1 [],.row 5 [[.sl h.length 2 0 0,.sl (h.length+1) 4 0 0,.p (.int .i64 0),.p (.int .i64 0),.sl (h.length+2) 1 0 0]]] (p:=h.length) (q:=h.length+1) (r:=h.length+2) ⟨by omega,by omega,by omega⟩ (by rw[List.getElem?_append_right (Nat.le_refl _)];simp) (by rw[List.getElem?_append_right (by omega)];simp) (by rw[List.getElem?_append_right (by omega)];simp)
 have hrow0:h[kid]?=some (.row 5 rows):=by simpa using hrow []
 simp only[lwR] at hg
 have htk:List.take w.bs.length rows=rows:=List.take_of_length_le (by omega)
 have hgm:∀t,(h++t)[L]?=some (.row 8 [[.p (fdL l),.p (.int .i64 pr),.p (.int .i64 w.regs),.sl kid 5 0 w.bs.length,.p (.int .i64 w.pos),V,.p (.int .i64 nx),.nils]]):=λt=>by rw[List.getElem?_append_left H.lt];exact hg
 have hs2:∀t u,((h++t).set kid .dead++u)[L]?=some (.row 8 [[.p (fdL l),.p (.int .i64 pr),.p (.int .i64 w.regs),.sl kid 5 0 w.bs.length,.p (.int .i64 w.pos),V,.p (.int .i64 nx),.nils]]):=λt u=>by rw[List.getElem?_append_left (by simp;omega),List.getElem?_set_ne hkL];exact hgm t
 have hs3:∀t u o,(((h++t).set kid .dead++u).set L o)[L]?=some o:=λt u o=>List.getElem?_set_self (by simp;omega)
 have hw1:IntKind.i64.wrap (((w.bs.length+1:Nat):Int)-1)=w.bs.length:=by rw[ae (by omega) (by omega)];omega
 refine AC.go gS ?_
 simp-implicitDefEqProofs[-AV.cells,-AV.isCell,aE,ag,ah,am,aD,af,an,v1,v2,dR,hg,hgm,hrow,hrow0,hlen,htk, ↓hs2, ↓hs3]
 exact⟨⟨by omega,by omega⟩,ae (by omega) (by omega),close⟩
end
end
section
theorem tF:AK.whole iq=FK.ak io:=rfl
variable (G:az)
theorem jW(o:Int):VF Tryz.prog G db [.p (.int .i64 o)] (.p (.bool (ir o))):=by
 refine AC.go tL ?_
 simp-implicitDefEqProofs[kP]
 refine(bX G o 1 14).use ?_
 cases hb:inR o 1 14 with
 |false=>simp-implicitDefEqProofs[ir,hb]
 |true=>
  by_cases h1:o=12
  ·simp-implicitDefEqProofs[ir,hb,h1]
  ·simp-implicitDefEqProofs[ir,hb,h1]
def l7N(o:Int):Int:=if o=1 then 0 else if o=2\/o=10\/o=11\/o=13 then 1 else if inR o 3 9=true\/o=12 then 2 else-1
theorem sD(o:Int):VF Tryz.prog G ft [.p (.int .i64 o)] (.p (.int .i64 (l7N o))):=by
 refine AC.go uF ?_
 by_cases h1:o=1
 ·simp-implicitDefEqProofs[ce,l7N,h1]
 by_cases h2:o=2
 ·simp-implicitDefEqProofs[ce,l7N,h2]
 by_cases h3:o=10
 ·simp-implicitDefEqProofs[ce,l7N,h3]
 by_cases h4:o=11
 ·simp-implicitDefEqProofs[ce,l7N,h4]
 by_cases h5:o=13
 ·simp-implicitDefEqProofs[ce,l7N,h5]
 simp-implicitDefEqProofs[ce,h1,h2,h3,h4,h5]
 refine(bX G o 3 9).use ?_
 cases hb:inR o 3 9 with
 |true=>simp-implicitDefEqProofs[l7N,hb,h1,h2,h3,h4,h5]
 |false=>
  by_cases h6:o=12
  ·simp-implicitDefEqProofs[l7N,h6,hb]
  ·simp-implicitDefEqProofs[l7N,hb,h1,h2,h3,h4,h5,h6]
theorem AE(c:Cd)(h0:0<=c.regs)(h1:c.regs<=300)(l:List Int)(hl:l.length<=1073741824):VF Tryz.prog G fq [.agg (c.cs.map .p),.p (aC l)] (.p (.bool (l.all (iw c.regs)))):=by
 have hcs:=c.cs_eq2
 have hnl:aC l= .lst 1 (l.map λn=>[.int .i64 n]):=rfl
 have hwr:IntKind.i64.wrap (c.regs-1)=c.regs-1:=ae (by omega) (by omega)
 refine AC.go uY ?_
 simp-implicitDefEqProofs[mA,hcs,hnl]
 refine aH (λi:Nat=>aw 21 [(1,.p (aC l)),(2,.ptr 0 3 0 0),(5,.p (.int .i64 i))]) (λ_=>[.row 3 [[.p (.int .i64 c.params),.p (.int .i64 c.regs),.p (bkL c.blocks)]]]) (λi=>i<=l.length/\∀r∈l.take i,iw c.regs r=true) (λi=>l.length-i) 0 (by simp) ?_ ?_
 ·exact ab (by simp) (by simp[below,hnl])
 rintro i ⟨hi,hp⟩
 simp-implicitDefEqProofs[hnl]
 refine aF (λhc=>?_) (λhc=>?_)
 ·simp at hc
  have hg:=List.getElem?_eq_getElem hc
  have htk:=ay hc
  have hm:=List.getElem_mem hc
  generalize l[i]=r at hg htk hm
  simp-implicitDefEqProofs[hg,hwr]
  refine(bX G r 0 (c.regs-1)).use ?_
  cases hb:inR r 0 (c.regs-1) with
  |false=>simp-implicitDefEqProofs[gq hm (p:=iw c.regs) hb]
  |true=>
   simp-implicitDefEqProofs[]
   refine⟨i+1,⟨by omega,λx hx=>?_⟩,by omega,ab (by simp) (by simp[below,hnl,w1 (i:=i) (by omega)])⟩
   rw[htk] at hx
   rcases List.mem_append.1 hx with hx|hx
   ·exact hp x hx
   ·rw[List.mem_singleton.1 hx];exact hb
 ·simp at hc
  rw[List.take_of_length_le hc] at hp
  simp-implicitDefEqProofs[List.all_eq_true.2 hp]
theorem HL(u:List Cd)(k:Nat)(c:Cd)(hk:u[k]?=some c)(h0:0<=c.regs)(h1:c.regs<=300)(hu:u.length<=1073741824)(x:Ii)(hl:x.args.length<=1073741824):VF Tryz.prog G ke [.agg [.p (cdL u)],.p (.int .i64 k),.agg (x.cs.map .p)] (.p (.bool (oD u k c.regs x))):=by
 have hcs:=c.cs_eq2
 have hxs:=x.cs_eq2
 have hul:cdL u= .lst 3 (u.map Cd.cs):=rfl
 have hnl:aC x.args= .lst 1 (x.args.map λn=>[.int .i64 n]):=rfl
 have hku:=(List.getElem?_eq_some_iff.1 hk).1
 have hwr:IntKind.i64.wrap (c.regs-1)=c.regs-1:=ae (by omega) (by omega)
 have hwk:IntKind.i64.wrap ((k:Int)-1)=(k:Int)-1:=ae (by omega) (by omega)
 have hR:=AE G c h0 h1 x.args hl
 rw[hcs,hnl] at hR
 clear hku
 refine AC.go zs ?_
 simp-implicitDefEqProofs[oP,hxs,hul,hk,hcs,hnl]
 refine(bX G x.op 1 14).use ?_
 cases hb1:inR x.op 1 14 with
 |false=>simp-implicitDefEqProofs[oD,hb1]
 |true=>
 simp-implicitDefEqProofs[]
 refine hR.use ?_
 cases hb2:x.args.all (iw c.regs) with
 |false=>simp-implicitDefEqProofs[oD,hb2]
 |true=>
 simp-implicitDefEqProofs[]
 refine(jW G x.op).use ?_
 simp-implicitDefEqProofs[hwr]
 refine(bX G x.to 0 (c.regs-1)).use ?_
 have hlast:∀b:Bool,(if ir x.op then iw c.regs x.to else decide (x.to= -1))=true->oD u k c.regs x=(if x.op=14 then inR x.n 0 ((k:Int)-1)&&decide ((x.args.length:Int)=EU u x.n)
  else if x.op=1 then decide (x.args.length=0)&&inR x.n 0 255
  else decide (x.n=0)&&decide ((x.args.length:Int)=GD x.op)):=λ_ h=>by rw[oD,hb1,hb2,h];simp
 have hbad:(if ir x.op then iw c.regs x.to else decide (x.to= -1))=false->oD u k c.regs x=false:=λh=>by rw[oD,h];simp
 have hrb:iw c.regs x.to=inR x.to 0 (c.regs-1):=rfl
 have rest:∀Q:AKW Tryz.prog G 0 .skip [] [] (λ_ _ _=>True),True:=λ_=>trivial
 have hins:oD u k c.regs x=(if x.op=14 then inR x.n 0 ((k:Int)-1)&&decide ((x.args.length:Int)=EU u x.n) else decide ((x.args.length:Int)=l7N x.op)&&inR x.n 0 255&&(decide (x.n=0)||decide (x.op=1)))\/(if ir x.op then iw c.regs x.to else decide (x.to= -1))=false:=by
  cases hs:(if ir x.op then iw c.regs x.to else decide (x.to= -1)) with
  |false=>exact .inr rfl
  |true=>
   refine .inl ?_
   rw[hlast true hs]
   by_cases o14:x.op=14
   ·rw[if_pos o14,if_pos o14]
   ·rw[if_neg o14,if_neg o14]
    by_cases o1:x.op=1
    ·rw[if_pos o1,l7N,if_pos o1]
     simp[o1]
    ·rw[if_neg o1,l7N,if_neg o1,GD,if_neg o1]
     have hr39:¬(x.op=2\/x.op=10\/x.op=11\/x.op=13)->(inR x.op 3 9=true\/x.op=12):=λh=>by
      simp only[inR,Bool.and_eq_true,decide_eq_true_eq] at hb1⊢
      omega
     have h255:x.n=0->inR x.n 0 255=true:=λh=>by rw[h];rfl
     by_cases o2:x.op=2\/x.op=10\/x.op=11\/x.op=13
     ·rw[if_pos o2,if_pos o2,Bool.eq_iff_iff]
      simp[o1]
      constructor
      ·rintro⟨a,b⟩;exact⟨⟨b,h255 a⟩,a⟩
      ·rintro⟨⟨a,_⟩,b⟩;exact⟨b,a⟩
     ·rw[if_neg o2,if_neg o2,if_pos (hr39 o2),Bool.eq_iff_iff]
      simp[o1]
      constructor
      ·rintro⟨a,b⟩;exact⟨⟨b,h255 a⟩,a⟩
      ·rintro⟨⟨a,_⟩,b⟩;exact⟨b,a⟩
 have jc:(if ir x.op then iw c.regs x.to else decide (x.to= -1))=true->oD u k c.regs x=(if x.op=14 then inR x.n 0 ((k:Int)-1)&&decide ((x.args.length:Int)=EU u x.n) else decide ((x.args.length:Int)=l7N x.op)&&inR x.n 0 255&&(decide (x.n=0)||decide (x.op=1))):=λh=>by
  rcases hins with h1|h1
  ·exact h1
  ·rw[h] at h1;cases h1
 clear hins hlast rest
 have hgo:ir x.op=true/\inR x.to 0 (c.regs-1)=true\/(ir x.op=false/\inR x.to 0 (c.regs-1)=false/\x.to= -1)\/(if ir x.op then iw c.regs x.to else decide (x.to= -1))=false:=by
  cases hs:ir x.op with
  |true=>
   rw[hrb]
   cases inR x.to 0 (c.regs-1)<;>simp
  |false=>
   by_cases h:x.to= -1
   ·rw[h];refine .inr (.inl ⟨rfl,?_,rfl⟩);simp[inR]
   ·simp[h]
 rcases hgo with⟨hs,ht⟩|⟨hs,ht,hto⟩|hf
 ·have tl:=jc (by rw[hs,if_pos rfl,hrb];exact ht)
  rw[tl]
  simp-implicitDefEqProofs[hs,ht]
  refine(jW G x.op).use ?_
  simp-implicitDefEqProofs[hs]
  by_cases o14:x.op=14
  ·simp-implicitDefEqProofs[o14,hwk]
   refine(bX G x.n 0 ((k:Int)-1)).use ?_
   cases hn:inR x.n 0 ((k:Int)-1) with
   |false=>simp-implicitDefEqProofs[]
   |true=>
    simp only[inR,Bool.and_eq_true,decide_eq_true_eq] at hn
    have hlt:x.n.toNat<u.length:=by
     have:=(List.getElem?_eq_some_iff.1 hk).1
     omega
    obtain⟨c2,hc2⟩:∃c2,u[x.n.toNat]?=some c2:=⟨_,List.getElem?_eq_getElem hlt⟩
    have hc2s:=c2.cs_eq2
    clear hlt
    obtain⟨m,hm⟩:∃m:Nat,x.n=m:=⟨x.n.toNat,by omega⟩
    rw[hm] at hc2⊢
    simp only[Int.toNat_natCast] at hc2
    simp-implicitDefEqProofs[hc2,hc2s,EU]
  ·simp-implicitDefEqProofs[o14]
   refine(sD G x.op).use ?_
   by_cases hla:(x.args.length:Int)=l7N x.op
   ·simp-implicitDefEqProofs[hla]
    refine(bX G x.n 0 255).use ?_
    cases hn:inR x.n 0 255 with
    |false=>simp-implicitDefEqProofs[]
    |true=>
     by_cases hx0:x.n=0
     ·simp-implicitDefEqProofs[hx0]
     ·simp-implicitDefEqProofs[hx0]
   ·simp-implicitDefEqProofs[hla]
 ·have tl:=jc (by rw[hs];simp[hto])
  rw[tl]
  simp-implicitDefEqProofs[hs,ht]
  refine(jW G x.op).use ?_
  simp-implicitDefEqProofs[hs,hto]
  by_cases o14:x.op=14
  ·simp-implicitDefEqProofs[o14,hwk]
   refine(bX G x.n 0 ((k:Int)-1)).use ?_
   cases hn:inR x.n 0 ((k:Int)-1) with
   |false=>simp-implicitDefEqProofs[]
   |true=>
    simp only[inR,Bool.and_eq_true,decide_eq_true_eq] at hn
    have hlt:x.n.toNat<u.length:=by
     have:=(List.getElem?_eq_some_iff.1 hk).1
     omega
    obtain⟨c2,hc2⟩:∃c2,u[x.n.toNat]?=some c2:=⟨_,List.getElem?_eq_getElem hlt⟩
    have hc2s:=c2.cs_eq2
    clear hlt
    obtain⟨m,hm⟩:∃m:Nat,x.n=m:=⟨x.n.toNat,by omega⟩
    rw[hm] at hc2⊢
    simp only[Int.toNat_natCast] at hc2
    simp-implicitDefEqProofs[hc2,hc2s,EU]
  ·simp-implicitDefEqProofs[o14]
   refine(sD G x.op).use ?_
   by_cases hla:(x.args.length:Int)=l7N x.op
   ·simp-implicitDefEqProofs[hla]
    refine(bX G x.n 0 255).use ?_
    cases hn:inR x.n 0 255 with
    |false=>simp-implicitDefEqProofs[]
    |true=>
     by_cases hx0:x.n=0
     ·simp-implicitDefEqProofs[hx0]
     ·simp-implicitDefEqProofs[hx0]
   ·simp-implicitDefEqProofs[hla]
 ·rw[hbad hf]
  cases hs:ir x.op with
  |true=>
   rw[hs,if_pos rfl,hrb] at hf
   simp-implicitDefEqProofs[hf]
  |false=>
   rw[hs] at hf
   have hto:¬x.to= -1:=by simpa using hf
   cases ht:inR x.to 0 (c.regs-1) with
   |true=>simp-implicitDefEqProofs[]
   |false=>
    simp-implicitDefEqProofs[]
    refine(jW G x.op).use ?_
    simp-implicitDefEqProofs[hs,hto]
def au(l:List Int):List (List AV):=l.map λn=>[AV.p (.int .i64 n)]
structure PrS where (i:Nat) (X:List AO) (o:Nat)
theorem tO(c:Cd)(b:Int)(hl:c.blocks.length<=1073741824)(hn:∀x∈c.blocks,x.next.length<=1073741824):AC Tryz.prog G bB [.agg (c.cs.map .p),.p (.int .i64 b)] [] λx h=>∃id,x= .ret (.sl id 1 0 (aI c.blocks b).length)/\h[id]?=some (.row 1 (au (aI c.blocks b))):=by
 have hcs:=c.cs_eq2
 have hbl:bkL c.blocks= .lst 5 (c.blocks.map Bk.cs):=rfl
 refine AC.go tc ?_
 simp-implicitDefEqProofs[ll,hcs,hbl]
 obtain⟨bo,hbo⟩:∃bo,bo=AO.row 3 [[.p (.int .i64 c.params),.p (.int .i64 c.regs),.p (.lst 5 (c.blocks.map Bk.cs))]]:=⟨_,rfl⟩
 refine aH (λa:PrS=>aw 43 [(1,.p (.int .i64 b)),(2,.ptr 0 3 0 0),(5,.sl a.o 1 0 (aI (c.blocks.take a.i) b).length),(6,.p (.int .i64 a.i))]) (λa=>a.X)
  (λa=>a.i<=c.blocks.length/\a.X[0]?=some (.row 3 [[.p (.int .i64 c.params),.p (.int .i64 c.regs),.p (.lst 5 (c.blocks.map Bk.cs))]])/\1<=a.o/\a.X[a.o]?=some (.row 1 (au (aI (c.blocks.take a.i) b)))) (λa=>c.blocks.length-a.i) ⟨0,[.row 3 [[.p (.int .i64 c.params),.p (.int .i64 c.regs),.p (.lst 5 (c.blocks.map Bk.cs))]],.row 1 []],1⟩ ⟨Nat.zero_le _,rfl,by simp,rfl⟩ ?_ ?_
 ·exact ab (by simp) (by simp[below,aI])
 rintro⟨i,X,o⟩ ⟨hi,hx0,ho,hxo⟩
 simp only at hi hx0 ho hxo
 have hX0:=(List.getElem?_eq_some_iff.1 hx0).1
 have hXo:=(List.getElem?_eq_some_iff.1 hxo).1
 simp-implicitDefEqProofs[hx0]
 refine aF (λhc=>?_) (λhc=>?_)
 ·simp at hc
  have hg:=List.getElem?_eq_getElem hc
  have hm:=List.getElem_mem hc
  have hpt:=rn (b:=b) hg
  have hpl:=eU (c.blocks.take i) b
  rw[List.length_take,Nat.min_eq_left (by omega)] at hpl
  have hnx:=hn _ hm
  generalize c.blocks[i]=x at hg hpt hnx
  generalize aI (c.blocks.take i) b=out at hxo hpt hpl
  have hxs:=x.cs_eq2
  have hnl:aC x.next= .lst 1 (x.next.map λn=>[.int .i64 n]):=rfl
  simp-implicitDefEqProofs[]
  have hw1:=w1 (i:=i) (by omega)
  refine aH (λj:Nat=>aw 43 [(7,.p (.int .i64 j)),(1,.p (.int .i64 b)),(2,.ptr 0 3 0 0),(5,.sl o 1 0 out.length),(6,.p (.int .i64 i))]) (λ_=>X) (λj=>j<=x.next.length/\b∉x.next.take j) (λj=>x.next.length-j) 0 (by simp) ?_ ?_
  ·exact ab (by simp) (by simp[below,hXo,hX0])
  rintro j ⟨hj,hnb⟩
  simp-implicitDefEqProofs[hx0,hg,hxs,hnl]
  refine aF (λhc2=>?_) (λhc2=>?_)
  ·simp at hc2
   have hg2:=List.getElem?_eq_getElem hc2
   have htk:=ay hc2
   have hm2:=List.getElem_mem hc2
   generalize x.next[j]=r at hg2 htk hm2
   simp-implicitDefEqProofs[hx0,hg,hxs,hnl,hg2]
   refine aF (λhe=>?_) (λhe=>?_)
   ·have he:r=b:=by simpa using he
    rw[if_pos (he▸hm2)] at hpt
    have hxm:∀t,(X++t)[o]?=some (.row 1 (au out)):=λt=>by rw[List.getElem?_append_left hXo];exact hxo
    have htl:List.take out.length (au out)=au out:=List.take_of_length_le (by simp[au])
    have hrl:(au out).length=out.length:=by simp[au]
    simp-implicitDefEqProofs[hxm,htl,hrl]
    refine⟨⟨by omega,by omega⟩,⟨i+1,_,X.length+1⟩,⟨by simp only;omega,?_,by simp only;omega,?_⟩,by simp only;omega,ab (Nat.zero_le _) ?_⟩
    ·rw[List.getElem?_append_left (by simp),List.getElem?_set_ne (by omega),List.getElem?_append_left hX0];exact hx0
    ·rw[hpt,List.getElem?_append_right (by simp)];simp[au]
    ·simp[below,hpt,hw1]
   ·have he:¬r=b:=by simpa using he
    simp-implicitDefEqProofs[]
    refine⟨j+1,⟨by omega,λhm=>?_⟩,by omega,ab (by simp) (by simp[below,hXo,hX0,w1 (i:=j) (by omega)])⟩
    rw[htk] at hm
    rcases List.mem_append.1 hm with hm|hm
    ·exact hnb hm
    ·exact he (List.mem_singleton.1 hm).symm
  ·simp at hc2
   rw[List.take_of_length_le hc2] at hnb
   rw[if_neg hnb,List.append_nil] at hpt
   simp-implicitDefEqProofs[]
   refine⟨⟨i+1,X,o⟩,⟨by simp only;omega,hx0,ho,by rw[hpt];exact hxo⟩,by simp only;omega,ab (Nat.zero_le _) ?_⟩
   simp[below,hpt,hw1,hXo,hX0]
 ·simp at hc
  have hie:i=c.blocks.length:=by omega
  subst hie
  rw[List.take_length] at hxo
  simp-implicitDefEqProofs[hxo]
theorem bw{h:List AO}{id:Nat}{l:List Int}(e:h[id]?=some (.row 1 (au l))):View h (.sl id 1 0 l.length) (aC l):=by
 have hh:au l=(l.map λn=>[PV.int .i64 n]).map (·.map .p):=by simp[au]
 rw[hh] at e
 exact eb e (by simp) (λx hx=>by obtain⟨b,_,rfl⟩:=List.mem_map.1 hx;rfl)
theorem pU(c:Cd)(b:Int)(hl:c.blocks.length<=1073741824)(hn:∀x∈c.blocks,x.next.length<=1073741824):VF Tryz.prog G bB [.agg (c.cs.map .p),.p (.int .i64 b)] (.p (aC (aI c.blocks b))):=
 (tO G c b hl hn).freezeR (λt v h ⟨_,e,_⟩=>by cases e) λv h ⟨id,e1,e2⟩=>by
   cases e1
   exact .one (bw e2) .nil
theorem EA(u:List Cd)(k b:Nat)(c:Cd)(x:Bk)(hk:u[k]?=some c)(hb:c.blocks[b]?=some x)(h0:0<=c.regs)(h1:c.regs<=300)(hu:Kk 1073741824 u):VF Tryz.prog G gv [.agg [.p (cdL u)],.p (.int .i64 k),.p (.int .i64 b)] (.p (.bool (bkB u k c b x))):=by
 have hcf:=hu.2 c (List.mem_of_getElem? hk)
 have hxf:=hcf.2 x (List.mem_of_getElem? hb)
 have hcs:=c.cs_eq2
 have hxs:=x.cs_eq2
 have hul:cdL u= .lst 3 (u.map Cd.cs):=rfl
 have hbl:bkL c.blocks= .lst 5 (c.blocks.map Bk.cs):=rfl
 have hnl:aC x.next= .lst 1 (x.next.map λn=>[.int .i64 n]):=rfl
 have hil:inL x.ins= .lst 4 (x.ins.map Ii.cs):=rfl
 have hpl:phL x.phis= .lst 2 (x.phis.map Ph.cs):=rfl
 have hwr:IntKind.i64.wrap (c.regs-1)=c.regs-1:=ae (by omega) (by omega)
 have hcl:=hcf.1
 have hwb:IntKind.i64.wrap ((c.blocks.length:Int)-1)=(c.blocks.length:Int)-1:=ae (by omega) (by omega)
 refine AC.goK sX tF ?_
 obtain⟨H0,hH0⟩:∃H0,H0=[AO.row 1 [[.p (.lst 3 (u.map Cd.cs))]],.row 3 [[.p (.int .i64 c.params),.p (.int .i64 c.regs),.p (.lst 5 (c.blocks.map Bk.cs))]],.row 5 [[.p (phL x.phis),.p (inL x.ins),.p (.int .i64 x.jump),.p (.int .i64 x.on),.p (aC x.next)]]]:=⟨_,rfl⟩
 have g0:H0[0]?=some (.row 1 [[.p (.lst 3 (u.map Cd.cs))]]):=by rw[hH0];rfl
 have g1:H0[1]?=some (.row 3 [[.p (.int .i64 c.params),.p (.int .i64 c.regs),.p (.lst 5 (c.blocks.map Bk.cs))]]):=by rw[hH0];rfl
 have g2:H0[2]?=some (.row 5 [[.p (phL x.phis),.p (inL x.ins),.p (.int .i64 x.jump),.p (.int .i64 x.on),.p (aC x.next)]]):=by rw[hH0];rfl
 have gl:H0.length=3:=by rw[hH0];rfl
 obtain⟨SL,hSL⟩:∃SL:List (Nat × AV),SL=[(8,.ptr 2 5 0 0),(7,.ptr 1 3 0 0),(3,.ptr 0 1 0 0),(1,.p (.int .i64 k)),(2,.p (.int .i64 b))]:=⟨_,rfl⟩
 simp-implicitDefEqProofs[iq,io,hul,hk,hcs,hbl,hb,hxs]
 rw[←hH0]
 refine fR (λ_:Unit=>aw 136 ((9,.p (.int .i64 (nxN x.jump)))::[(8,.ptr 2 5 0 0),(7,.ptr 1 3 0 0),(3,.ptr 0 1 0 0),(1,.p (.int .i64 k)),(2,.p (.int .i64 b))])) (λ_=>H0) (λ_=>(x.jump=1/\x.on=0)\/x.jump=2\/x.jump=3) ?_ ?_
 ·by_cases j1:x.jump=1
  ·by_cases jo:x.on=0
   ·simp-implicitDefEqProofs[g2,j1,jo]
    exact ab (by simp) (by simp[below,gl,nxN])
   ·have hf:bkB u k c b x=false:=by simp[bkB,onU,j1,jo]
    simp-implicitDefEqProofs[g2,j1,jo,hf]
  ·by_cases j2:x.jump=2
   ·simp-implicitDefEqProofs[g2,j2]
    exact ab (by simp) (by simp[below,gl,nxN])
   ·by_cases j3:x.jump=3
    ·simp-implicitDefEqProofs[g2,j3]
     exact ab (by simp) (by simp[below,gl,nxN])
    ·have hnn:nxN x.jump= -1:=by simp[nxN,j1,j2,j3]
     have hf:bkB u k c b x=false:=by
      have:¬((x.next.length:Int)= -1):=by omega
      simp[bkB,hnn,this]
     simp-implicitDefEqProofs[g2,j1,j2,j3,hf]
 rintro⟨⟩ hj
 refine fR (λ_:Unit=>aw 136 [(8,.ptr 2 5 0 0),(7,.ptr 1 3 0 0),(3,.ptr 0 1 0 0),(1,.p (.int .i64 k)),(2,.p (.int .i64 b))]) (λ_=>H0) (λ_=>(decide ((x.next.length:Int)=nxN x.jump)&&(if onU x.jump then iw c.regs x.on else decide (x.on=0)))=true) ?_ ?_
 ·by_cases hlen:(x.next.length:Int)=nxN x.jump
  ·by_cases j1:x.jump=1
   ·have jo:x.on=0:=by omega
    simp-implicitDefEqProofs[g2,hlen,hnl,j1,jo]
    refine⟨by simp[onU],ab (by simp) (by simp[below,gl])⟩
   ·have hon:onU x.jump=true:=by
     simp only[onU,Bool.or_eq_true,decide_eq_true_eq];omega
    simp-implicitDefEqProofs[g2,g1,hlen,hnl,j1,hwr]
    refine(bX G x.on 0 (c.regs-1)).use ?_
    cases hr:inR x.on 0 (c.regs-1) with
    |false=>
     have hf:bkB u k c b x=false:=by simp[bkB,hon,iw,hr]
     simp-implicitDefEqProofs[hf]
    |true=>
     simp-implicitDefEqProofs[hon,iw,hr]
     exact ab (by simp) (by simp[below,gl])
  ·have hf:bkB u k c b x=false:=by simp[bkB,hlen]
   simp-implicitDefEqProofs[g2,hlen,hnl,hf]
 rintro⟨⟩ hc1
 refine fR (λ_:Unit=>aw 136 [(8,.ptr 2 5 0 0),(7,.ptr 1 3 0 0),(3,.ptr 0 1 0 0),(1,.p (.int .i64 k)),(2,.p (.int .i64 b))]) (λ_=>H0) (λ_=>x.next.all (λn=>inR n 1 ((c.blocks.length:Int)-1))=true) ?_ ?_
 ·simp-implicitDefEqProofs[]
  refine aH (λi:Nat=>aw 136 [(10,.p (.int .i64 i)),(8,.ptr 2 5 0 0),(7,.ptr 1 3 0 0),(3,.ptr 0 1 0 0),(1,.p (.int .i64 k)),(2,.p (.int .i64 b))]) (λ_=>H0) (λi=>i<=x.next.length/\∀n∈x.next.take i,inR n 1 ((c.blocks.length:Int)-1)=true) (λi=>x.next.length-i) 0 (by simp) (ab (by simp) (by simp[below,gl])) ?_
  rintro i ⟨hi,hp⟩
  simp-implicitDefEqProofs[g2,hnl]
  refine aF (λhc=>?_) (λhc=>?_)
  ·simp at hc
   have hg:=List.getElem?_eq_getElem hc
   have htk:=ay hc
   have hm:=List.getElem_mem hc
   have hxn:=hxf.next
   generalize x.next[i]=n at hg htk hm
   simp-implicitDefEqProofs[g2,g1,hnl,hg,hwb]
   refine(bX G n 1 ((c.blocks.length:Int)-1)).use ?_
   cases hr:inR n 1 ((c.blocks.length:Int)-1) with
   |false=>
    have hf:bkB u k c b x=false:=by
     rw[bkB,gq hm (p:=λn=>inR n 1 ((c.blocks.length:Int)-1)) hr];simp
    simp-implicitDefEqProofs[hf]
   |true=>
    simp-implicitDefEqProofs[]
    refine⟨i+1,⟨by omega,λy hy=>?_⟩,by omega,ab (by simp) (by simp[below,gl,w1 (i:=i) (by omega)])⟩
    rw[htk] at hy
    rcases List.mem_append.1 hy with hy|hy
    ·exact hp y hy
    ·rw[List.mem_singleton.1 hy];exact hr
  ·simp at hc
   rw[List.take_of_length_le hc] at hp
   simp-implicitDefEqProofs[]
   exact⟨hp,ab (by simp) (by simp[below,gl])⟩
 rintro⟨⟩ hc2
 refine fR (λ_:Unit=>aw 136 [(8,.ptr 2 5 0 0),(7,.ptr 1 3 0 0),(3,.ptr 0 1 0 0),(1,.p (.int .i64 k)),(2,.p (.int .i64 b))]) (λ_=>H0) (λ_=>x.ins.all (oD u k c.regs)=true) ?_ ?_
 ·simp-implicitDefEqProofs[]
  refine aH (λi:Nat=>aw 136 [(11,.p (.int .i64 i)),(8,.ptr 2 5 0 0),(7,.ptr 1 3 0 0),(3,.ptr 0 1 0 0),(1,.p (.int .i64 k)),(2,.p (.int .i64 b))]) (λ_=>H0) (λi=>i<=x.ins.length/\∀n∈x.ins.take i,oD u k c.regs n=true) (λi=>x.ins.length-i) 0 (by simp) (ab (by simp) (by simp[below,gl])) ?_
  rintro i ⟨hi,hp⟩
  simp-implicitDefEqProofs[g2,hil]
  refine aF (λhc=>?_) (λhc=>?_)
  ·simp at hc
   have hg:=List.getElem?_eq_getElem hc
   have htk:=ay hc
   have hm:=List.getElem_mem hc
   have hxn:=hxf.ins
   have hargs:=hxf.ia _ hm
   generalize x.ins[i]=n at hg htk hm hargs
   have hns:=n.cs_eq2
   have hI:=HL G u k c hk h0 h1 hu.1 n hargs
   rw[hns,hul] at hI
   simp-implicitDefEqProofs[g2,g0,hil,hg,hns]
   refine hI.use ?_
   cases hr:oD u k c.regs n with
   |false=>
    have hf:bkB u k c b x=false:=by
     rw[bkB,gq hm (p:=oD u k c.regs) hr];simp
    simp-implicitDefEqProofs[hf]
   |true=>
    simp-implicitDefEqProofs[]
    refine⟨i+1,⟨by omega,λy hy=>?_⟩,by omega,ab (by simp) (by simp[below,gl,w1 (i:=i) (by omega)])⟩
    rw[htk] at hy
    rcases List.mem_append.1 hy with hy|hy
    ·exact hp y hy
    ·rw[List.mem_singleton.1 hy];exact hr
  ·simp at hc
   rw[List.take_of_length_le hc] at hp
   simp-implicitDefEqProofs[]
   exact⟨hp,ab (by simp) (by simp[below,gl])⟩
 rintro⟨⟩ hc3
 have hP:=pU G c b hcl (λy hy=>(hcf.2 y hy).next)
 rw[hcs,hbl] at hP
 obtain⟨P,hPe⟩:∃P,P=aI c.blocks b:=⟨_,rfl⟩
 have hPl:P.length<=1073741824:=by rw[hPe];exact Nat.le_trans (eU _ _) hcl
 rw[←hPe] at hP
 have hPL:aC P= .lst 1 (P.map λn=>[.int .i64 n]):=rfl
 rw[hPL] at hP
 simp-implicitDefEqProofs[g1]
 refine hP.use ?_
 simp-implicitDefEqProofs[]
 refine fR (λ_:Unit=>aw 136 [(8,.ptr 2 5 0 0)]) (λ_=>H0) (λ_=>x.phis.all (phB c.regs b P.length)=true) ?_ ?_
 ·simp-implicitDefEqProofs[]
  refine aH (λi:Nat=>aw 136 [(13,.p (.int .i64 i)),(12,.p (.lst 1 (P.map λn=>[.int .i64 n]))),(8,.ptr 2 5 0 0),(7,.ptr 1 3 0 0),(3,.ptr 0 1 0 0),(1,.p (.int .i64 k)),(2,.p (.int .i64 b))]) (λ_=>H0) (λi=>i<=x.phis.length/\∀n∈x.phis.take i,phB c.regs b P.length n=true) (λi=>x.phis.length-i) 0 (by simp) (ab (by simp) (by simp[below,gl])) ?_
  rintro i ⟨hi,hp⟩
  simp-implicitDefEqProofs[g2,hpl]
  refine aF (λhc=>?_) (λhc=>?_)
  ·simp at hc
   have hg:=List.getElem?_eq_getElem hc
   have htk:=ay hc
   have hm:=List.getElem_mem hc
   have hxn:=hxf.phis
   have hargs:=hxf.pa _ hm
   generalize x.phis[i]=n at hg htk hm hargs
   have hns:=n.cs_eq2
   have hna:aC n.args= .lst 1 (n.args.map λn=>[.int .i64 n]):=rfl
   have hbad:phB c.regs b P.length n=false->bkB u k c b x=false:=λh=>by
    rw[bkB,←hPe,gq hm (p:=phB c.regs b P.length) h];simp
   have hR:=AE G c h0 h1 n.args hargs
   rw[hcs,hbl,hna] at hR
   by_cases hb0:b=0
   ·subst hb0
    have hf:=hbad (by simp[phB])
    simp-implicitDefEqProofs[hf]
   ·have hb0':¬(b:Int)=0:=by omega
    by_cases hl:n.args.length=P.length
    ·have hl':(n.args.length:Int)=(P.length:Int):=by omega
     simp-implicitDefEqProofs[hb0,hb0',g2,g1,hpl,hg,hns,hna,hl']
     refine hR.use ?_
     cases hr:n.args.all (iw c.regs) with
     |false=>
      have hf:=hbad (by simp[phB,hr])
      simp-implicitDefEqProofs[hf]
     |true=>
      simp-implicitDefEqProofs[g2,g1,hpl,hg,hns,hna,hwr]
      refine(bX G n.to 0 (c.regs-1)).use ?_
      cases ht:inR n.to 0 (c.regs-1) with
      |false=>
       have hf:=hbad (by simp[phB,iw,ht])
       simp-implicitDefEqProofs[hf]
      |true=>
       simp-implicitDefEqProofs[]
       refine⟨i+1,⟨by omega,λy hy=>?_⟩,by omega,ab (by simp) (by simp[below,gl,w1 (i:=i) (by omega)])⟩
       rw[htk] at hy
       rcases List.mem_append.1 hy with hy|hy
       ·exact hp y hy
       ·rw[List.mem_singleton.1 hy]
        simp only[phB,hb0,hl,hr,iw,ht]
        rfl
    ·have hl':¬(n.args.length:Int)=(P.length:Int):=by omega
     have hf:=hbad (by simp[phB,hl])
     simp-implicitDefEqProofs[hb0,hb0',g2,g1,hpl,hg,hns,hna,hl',hf]
  ·simp at hc
   rw[List.take_of_length_le hc] at hp
   simp-implicitDefEqProofs[]
   exact⟨hp,ab (by simp) (by simp[below,gl])⟩
 rintro⟨⟩ hc4
 have ht:bkB u k c b x=true:=by
  rw[bkB,←hPe,hc1,hc2,hc3,hc4];rfl
 simp-implicitDefEqProofs[ht]
theorem Kg{u:List Cd}{k:Nat}{c:Cd}(h1:inR c.params 0 3=true)(h2:inR c.regs c.params 300=true)(h3:inR c.blocks.length 1 160=true)(h4:∀(j:Nat) (x:Bk),c.blocks[j]?=some x->bkB u k c j x=true):cdB u k c=true:=by
 rw[cdB,h1,h2,h3,allI_iff.2 h4];rfl
def bkS(N:Nat)(l:List Bk)(j:Nat):Nat:=N+((l.take j).map bkN).sum
theorem Bf(N:Nat)(l:List Bk):bkS N l 0=N:=by simp[bkS]
theorem IT(N:Nat)(l:List Bk):bkS N l l.length=N+(l.map bkN).sum:=by rw[bkS,List.take_length]
theorem Hi(N:Nat){l:List Bk}{j:Nat}{x:Bk}(h:l[j]?=some x):bkS N l (j+1)=bkS N l j+x.ins.length+x.phis.length:=by rw[bkS,bkS,uB bkN h,bkN];omega
theorem Aj(u:List Cd)(hu:Kk 1073741824 u):VF Tryz.prog G eS [.agg [.p (cdL u)]] (.p (.bool (unB u))):=by
 have hul:cdL u= .lst 3 (u.map Cd.cs):=rfl
 have hu1:=hu.1
 refine AC.go ra ?_
 simp-implicitDefEqProofs[jB,hul]
 refine(bX G u.length 1 4).use ?_
 cases hr:inR u.length 1 4 with
 |false=>
  have hf:unB u=false:=by simp[unB,hr]
  simp-implicitDefEqProofs[hf]
 |true=>
 simp-implicitDefEqProofs[]
 refine aH (λi:Nat=>aw 76 [(4,.p (.int .i64 i)),(3,.p (.int .i64 (unN (u.take i)))),(1,.ptr 0 1 0 0)]) (λ_=>[.row 1 [[.p (.lst 3 (u.map Cd.cs))]]]) (λi=>i<=u.length/\(∀(j:Nat) (c:Cd),j<i->u[j]?=some c->cdB u j c=true)/\unN (u.take i)<=800) (λi=>u.length-i) 0 ⟨Nat.zero_le _,λj c h=>(by omega),Nat.zero_le _⟩ (ab (by simp) (by simp[below,show unN ([]:List Cd)=0 from rfl])) ?_
 rintro i ⟨hi,hp,hn8⟩
 simp-implicitDefEqProofs[]
 refine aF (λhc=>?_) (λhc=>?_)
 ·simp at hc
  have hg:=List.getElem?_eq_getElem hc
  have htn:=uB cdN hg
  have hle:=λj=>Bg u hg j
  have hcf:=hu.2 _ (List.getElem_mem hc)
  generalize u[i]=c at hg htn hle hcf
  have hcs:=c.cs_eq2
  have hbl:bkL c.blocks= .lst 5 (c.blocks.map Bk.cs):=rfl
  obtain⟨N,hN⟩:∃N,N=unN (u.take i):=⟨_,rfl⟩
  rw[←hN] at hn8⊢
  have hbad:cdB u i c=false->unB u=false:=λh=>by rw[unB,ug hg h];simp
  simp-implicitDefEqProofs[hg,hcs,hbl]
  refine(bX G c.params 0 3).use ?_
  cases h1:inR c.params 0 3 with
  |false=>
   have hf:=hbad (by simp[cdB,h1])
   simp-implicitDefEqProofs[hf]
  |true=>
  simp-implicitDefEqProofs[]
  refine(bX G c.regs c.params 300).use ?_
  cases h2:inR c.regs c.params 300 with
  |false=>
   have hf:=hbad (by simp[cdB,h2])
   simp-implicitDefEqProofs[hf]
  |true=>
  simp-implicitDefEqProofs[]
  refine(bX G c.blocks.length 1 160).use ?_
  cases h3:inR c.blocks.length 1 160 with
  |false=>
   have hf:=hbad (by simp[cdB,h3])
   simp-implicitDefEqProofs[hf]
  |true=>
  have hrg:0<=c.regs/\c.regs<=300:=by
   simp only[inR,Bool.and_eq_true,decide_eq_true_eq] at h1 h2
   omega
  have hcl:=hcf.1
  simp-implicitDefEqProofs[]
  refine aH (λj:Nat=>aw 76 [(6,.p (.int .i64 j)),(3,.p (.int .i64 (bkS N c.blocks j))),(5,.ptr 1 3 0 0),(4,.p (.int .i64 i)),(1,.ptr 0 1 0 0)]) (λ_=>[.row 1 [[.p (.lst 3 (u.map Cd.cs))]],.row 3 [[.p (.int .i64 c.params),.p (.int .i64 c.regs),.p (.lst 5 (c.blocks.map Bk.cs))]]]) (λj=>j<=c.blocks.length/\(∀(q:Nat) (x:Bk),q<j->c.blocks[q]?=some x->bkB u i c q x=true)/\bkS N c.blocks j<=800) (λj=>c.blocks.length-j) 0 ⟨Nat.zero_le _,λj c h=>(by omega),by rw[Bf];exact hn8⟩ (ab (by simp) (by simp[below,Bf])) ?_
  rintro j ⟨hj,hq,hm8⟩
  simp-implicitDefEqProofs[]
  refine aF (λhc2=>?_) (λhc2=>?_)
  ·simp at hc2
   have hg2:=List.getElem?_eq_getElem hc2
   have hM2:=Hi N hg2
   have hxf:=hcf.2 _ (List.getElem_mem hc2)
   generalize c.blocks[j]=x at hg2 hM2 hxf
   have hxs:=x.cs_eq2
   have hxi:=hxf.ins
   have hxp:=hxf.phis
   have hil:inL x.ins= .lst 4 (x.ins.map Ii.cs):=rfl
   have hpl:phL x.phis= .lst 2 (x.phis.map Ph.cs):=rfl
   obtain⟨M,hM⟩:∃M,M=bkS N c.blocks j:=⟨_,rfl⟩
   rw[←hM] at hm8 hM2⊢
   have w1':IntKind.i64.wrap ((M:Int)+(x.ins.length:Int))=(M:Int)+(x.ins.length:Int):=ae (by omega) (by omega)
   have w2':IntKind.i64.wrap ((M:Int)+(x.ins.length:Int)+(x.phis.length:Int))=(M:Int)+(x.ins.length:Int)+(x.phis.length:Int):=ae (by omega) (by omega)
   have hwj:=w1 (i:=j) (by omega)
   by_cases h8:800<M+x.ins.length+x.phis.length
   ·have h8':(800:Int)<(M:Int)+(x.ins.length:Int)+(x.phis.length:Int):=by omega
    have hf:unB u=false:=by
     have:=hle (j+1)
     rw[←hN] at this
     have h3:N+((c.blocks.take (j+1)).map bkN).sum=bkS N c.blocks (j+1):=rfl
     rw[h3,hM2] at this
     have hd:decide (unN u<=800)=false:=by simp;omega
     rw[unB,hd];simp
    simp-implicitDefEqProofs[hg2,hxs,hil,hpl,w1',w2',h8',hf]
   ·have h8':¬(800:Int)<(M:Int)+(x.ins.length:Int)+(x.phis.length:Int):=by omega
    have hB:=EA G u i j c x hg hg2 hrg.1 hrg.2 hu
    rw[hul] at hB
    simp-implicitDefEqProofs[hg2,hxs,hil,hpl,w1',w2',h8']
    refine hB.use ?_
    cases hbb:bkB u i c j x with
    |false=>
     have hf:=hbad (by rw[cdB,ug hg2 hbb];simp)
     simp-implicitDefEqProofs[hf]
    |true=>
     simp-implicitDefEqProofs[]
     refine⟨j+1,⟨by omega,λq y hqj hy=>?_,by omega⟩,by omega,ab (by simp) ?_⟩
     ·rcases Nat.lt_or_ge q j with h|h
      ·exact hq q y h hy
      ·have:q=j:=by omega
       subst this
       rw[hg2] at hy
       cases hy
       exact hbb
     ·have hcast:(bkS N c.blocks (j+1):Int)=(M:Int)+(x.ins.length:Int)+(x.phis.length:Int):=by omega
      simp-implicitDefEqProofs only[hcast]
      simp[below,hwj]
  ·simp at hc2
   have hje:j=c.blocks.length:=by omega
   subst hje
   have hcd:=Kg h1 h2 h3 (λq x hx=>hq q x (List.getElem?_eq_some_iff.1 hx).1 hx)
   have hcN:bkS N c.blocks c.blocks.length=N+cdN c:=IT N c.blocks
   rw[hcN] at hm8⊢
   have htn2:unN (u.take (i+1))=N+cdN c:=by rw[hN];exact htn
   simp-implicitDefEqProofs[]
   refine⟨i+1,⟨by omega,λq y hqj hy=>?_,by omega⟩,by omega,yZ (m:=1) (by omega) (ow rfl rfl (by simp[okO,below])) ?_⟩
   ·rcases Nat.lt_or_ge q i with h|h
    ·exact hp q y h hy
    ·have:q=i:=by omega
     subst this
     rw[hg] at hy
     cases hy
     exact hcd
   ·have hcast:((unN (u.take (i+1)):Nat):Int)=(N:Int)+(cdN c:Int):=by omega
    simp-implicitDefEqProofs only[hcast]
    simp[below,w1 (i:=i) (by omega)]
 ·simp at hc
  have hie:i=u.length:=by omega
  subst hie
  rw[List.take_length] at hn8
  have ht:unB u=true:=by
   rw[unB,hr,allI_iff.2 (λq c hq=>hp q c (List.getElem?_eq_some_iff.1 hq).1 hq)]
   simp[hn8]
  simp-implicitDefEqProofs[ht]
end
section
def bM(l:List Bool):List (List AV):=l.map λn=>[AV.p (.bool n)]
theorem Ak(l:List Bool):(bM l).length=l.length:=by simp[bM]
theorem ef{l:List Bool}{i:Nat}{x:Bool}(h:l[i]?=some x):(bM l)[i]?=some [.p (.bool x)]:=by simp[bM,h]
theorem dG(l:List Bool)(i:Nat)(x:Bool):(bM l).set i [.p (.bool x)]=bM (l.set i x):=by simp[bM,List.map_set]
theorem vq(l:List Int):(au l).length=l.length:=by simp[au]
theorem mV{l:List Bool}{i:Nat}(h:i<l.length):l[i]?=some (sn l i):=by
 rw[sn,List.getD_eq_getElem?_getD,List.getElem?_eq_getElem h];rfl
def CBd(c:Cd):Prop:=c.blocks.length<=1073741824/\∀x∈c.blocks,x.next.length<=1073741824
def aT(l:List Nat):List Int:=l.map Int.ofNat
variable (G:az)
def tm(L:Nat)(l:List Int):Bool:=l.all λn=>inR n 0 ((L:Int)-1)
def zk(L:Nat)(l:List Bk):Bool:=l.all λx=>tm L x.next
theorem FV(L:Nat):tm L []=true:=rfl
theorem Fh(L:Nat):zk L []=true:=rfl
theorem Es(L:Nat)(l:List Int)(r:Int):tm L (l++[r])=(tm L l&&inR r 0 ((L:Int)-1)):=by simp[tm]
theorem EJ(L:Nat)(l:List Bk)(r:Bk):zk L (l++[r])=(zk L l&&tm L r.next):=by simp[zk]
theorem zw(bs:List Bk):aV bs=(decide (0<bs.length)&&zk bs.length bs):=by
 rw[aV,zk]
 congr 1
 cases bs<;>simp
theorem pP(c:Cd)(hc:CBd c):VF Tryz.prog G cZ [.agg (c.cs.map .p)] (.p (.bool (aV c.blocks))):=by
 have hcs:=c.cs_eq2
 have hbl:bkL c.blocks= .lst 5 (c.blocks.map Bk.cs):=rfl
 have hl1:=hc.1
 refine AC.go sI ?_
 simp-implicitDefEqProofs[kN,hcs,hbl]
 obtain⟨H0,hH0⟩:∃H0,H0=[AO.row 3 [[.p (.int .i64 c.params),.p (.int .i64 c.regs),.p (.lst 5 (c.blocks.map Bk.cs))]]]:=⟨_,rfl⟩
 have g0:H0[0]?=some (.row 3 [[.p (.int .i64 c.params),.p (.int .i64 c.regs),.p (.lst 5 (c.blocks.map Bk.cs))]]):=by rw[hH0];rfl
 have gl:H0.length=1:=by rw[hH0];rfl
 rw[←hH0]
 clear hH0
 refine aH (λi:Nat=>aw 42 [(1,.ptr 0 3 0 0),(3,.p (.int .i64 i))]) (λ_=>H0) (λi=>i<=c.blocks.length/\zk c.blocks.length (c.blocks.take i)=true) (λi=>c.blocks.length-i) 0 ⟨Nat.zero_le _,by rw[List.take_zero,Fh]⟩ (ab (Nat.zero_le _) (by simp[below,gl])) ?_
 rintro i ⟨hi,hp⟩
 simp-implicitDefEqProofs[g0]
 refine aF (λhc1=>?_) (λhc1=>?_)
 ·simp at hc1
  have hg:=List.getElem?_eq_getElem hc1
  have hm:=List.getElem_mem hc1
  have htk:=ay hc1
  have hnx:=hc.2 _ hm
  generalize c.blocks[i]=x at hg hm htk hnx
  have hxs:=x.cs_eq2
  have hnl:aC x.next= .lst 1 (x.next.map λn=>[.int .i64 n]):=rfl
  have hw1:=w1 (i:=i) (by omega)
  simp-implicitDefEqProofs[]
  refine aH (λj:Nat=>aw 42 [(4,.p (.int .i64 j)),(1,.ptr 0 3 0 0),(3,.p (.int .i64 i))]) (λ_=>H0) (λj=>j<=x.next.length/\tm c.blocks.length (x.next.take j)=true) (λj=>x.next.length-j) 0 ⟨Nat.zero_le _,by rw[List.take_zero,FV]⟩ (ab (Nat.zero_le _) (by simp[below,gl])) ?_
  rintro j ⟨hj,hq⟩
  simp-implicitDefEqProofs[g0,hg,hxs,hnl]
  refine aF (λhc2=>?_) (λhc2=>?_)
  ·simp at hc2
   have hg2:=List.getElem?_eq_getElem hc2
   have htk2:=ay hc2
   have hm2:=List.getElem_mem hc2
   generalize x.next[j]=r at hg2 htk2 hm2
   have hwn:IntKind.i64.wrap ((c.blocks.length:Int)-1)=(c.blocks.length:Int)-1:=ae (by omega) (by omega)
   simp-implicitDefEqProofs[g0,hg,hxs,hnl,hg2,hwn]
   refine(bX G r 0 ((c.blocks.length:Int)-1)).use ?_
   simp-implicitDefEqProofs[]
   refine aF (λhe=>?_) (λhe=>?_)
   ·have he:inR r 0 ((c.blocks.length:Int)-1)=false:=by simpa using he
    have hff:aV c.blocks=false:=by
     rw[zw,zk,gq (p:=λx:Bk=>tm c.blocks.length x.next) hm (gq (p:=λn=>inR n 0 ((c.blocks.length:Int)-1)) hm2 he),Bool.and_false]
    simp-implicitDefEqProofs[hff]
   ·have he:inR r 0 ((c.blocks.length:Int)-1)=true:=by simpa using he
    simp-implicitDefEqProofs[]
    refine⟨j+1,⟨by omega,?_⟩,by omega,ab (Nat.zero_le _) (by simp[below,gl,w1 (i:=j) (by omega)])⟩
    rw[htk2,Es,hq,he];rfl
  ·simp at hc2
   rw[List.take_of_length_le hc2] at hq
   simp-implicitDefEqProofs[]
   refine⟨i+1,⟨by omega,?_⟩,by omega,ab (Nat.zero_le _) (by simp[below,gl,hw1])⟩
   rw[htk,EJ,hp,hq];rfl
 ·simp at hc1
  rw[List.take_of_length_le hc1] at hp
  have hff:aV c.blocks=decide (0<c.blocks.length):=by rw[zw,hp,Bool.and_true]
  simp-implicitDefEqProofs[g0,hff]
structure ViS where (i:Nat) (X:List AO) (o:Nat)
theorem IL{bs:List Bk}{b:Nat}{x:Bk}(h:bs[b]?=some x){j:Nat}{n:Int}(hj:x.next[j]?=some n):(nxC bs b)[j]?=some n.toNat:=by
 rw[lD h];simp[hj]
theorem lU(a b:List Nat):aT (a++b)=aT a++aT b:=by simp[aT]
theorem pA(a:List Nat):(aT a).length=a.length:=by simp[aT]
theorem nD(c:Cd)(hc:CBd c)(hfit:aV c.blocks=true):∀(f:Nat) (h:List AO) (b sid oid:Nat) (seen:List Bool) (out:List Nat),b<c.blocks.length->seen.length=c.blocks.length->sn seen b=false->fls seen<=f->
 sid≠oid->h[sid]?=some (.row 1 (bM seen))->h[oid]?=some (.row 1 (au (aT out)))->out.length+fls seen<=1073741824->
 AC Tryz.prog G bq [.agg (c.cs.map .p),.p (.int .i64 b),.sl sid 1 0 seen.length,.sl oid 1 0 out.length] h λx h'=>∃id,x= .ret (.sl id 1 0 (dfs (nxC c.blocks) f (seen,out) b).2.length)/\
  h'[id]?=some (.row 1 (au (aT (dfs (nxC c.blocks) f (seen,out) b).2)))/\h'[sid]?=some (.row 1 (bM (dfs (nxC c.blocks) f (seen,out) b).1))/\id≠sid/\h.length<=id/\h.length<=h'.length/\∀j,j<h.length->j≠sid->j≠oid->h'[j]?=h[j]?:=by
 intro f
 induction f with
 |zero=>
  intro h b sid oid seen out hb hsl hsb hf
  have:=jX hsb
  omega
 |succ f ih=>
  intro h b sid oid seen out hb hsl hsb hf hne hs ho hsz
  have hsid:=(List.getElem?_eq_some_iff.1 hs).1
  have hoid:=(List.getElem?_eq_some_iff.1 ho).1
  have hcs:=c.cs_eq2
  have hbl:bkL c.blocks= .lst 5 (c.blocks.map Bk.cs):=rfl
  have hl1:=hc.1
  have hgb:=List.getElem?_eq_getElem hb
  have hmb:=List.getElem_mem hb
  generalize c.blocks[b]=x at hgb hmb
  have hnx:=hc.2 _ hmb
  have hxs:=x.cs_eq2
  have hnl:aC x.next= .lst 1 (x.next.map λn=>[.int .i64 n]):=rfl
  have hset:=jX hsb
  have hD0:∀i,(cM (nxC c.blocks) f (seen.set b true,out) ((nxC c.blocks b).take i)).2.length+fls (cM (nxC c.blocks) f (seen.set b true,out) ((nxC c.blocks b).take i)).1+1=out.length+fls seen/\(cM (nxC c.blocks) f (seen.set b true,out) ((nxC c.blocks b).take i)).1.length=seen.length/\fls (cM (nxC c.blocks) f (seen.set b true,out) ((nxC c.blocks b).take i)).1<=f:=λi=>by
   have:=(zh (nxC c.blocks) f).1 ((nxC c.blocks b).take i) (seen.set b true,out) (by simp only;omega)
   simp only[List.length_set] at this
   omega
  obtain⟨D,hD⟩:∃D:Nat->List Bool × List Nat,D=λi=>cM (nxC c.blocks) f (seen.set b true,out) ((nxC c.blocks b).take i):=⟨_,rfl⟩
  have hDz:D 0=(seen.set b true,out):=by rw[hD];rfl
  have hDs:∀(i:Nat) (m:Nat),(nxC c.blocks b)[i]?=some m->D (i+1)=if sn (D i).1 m then D i else dfs (nxC c.blocks) f (D i) m:=λi m h=>by
   rw[hD];exact Ez h
  have hDe:dfs (nxC c.blocks) (f+1) (seen,out) b=((D x.next.length).1,(D x.next.length).2++[b]):=by
   rw[ua,hD]
   have:(nxC c.blocks b).take x.next.length=nxC c.blocks b:=by rw[lD hgb,List.take_of_length_le (by simp)]
   simp only[this]
  have hD1:∀i,(D i).2.length+fls (D i).1+1=out.length+fls seen/\(D i).1.length=seen.length/\fls (D i).1<=f:=λi=>by rw[hD];exact hD0 i
  clear hD0 hD
  refine AC.go rI ?_
  have hbr:b<(bM seen).length:=by rw[Ak];omega
  have e1:∀t,(h++t)[sid]?=some (.row 1 (bM seen)):=λt=>by rw[List.getElem?_append_left hsid];exact hs
  have e2:∀hh,(bM seen)[b]'hh=[.p (.bool false)]:=λhh=>by
   have:=ef (mV (l:=seen) (i:=b) (by omega))
   rw[hsb,List.getElem?_eq_getElem hh] at this
   exact Option.some.inj this
  simp-implicitDefEqProofs[kB,hcs,hbl,e1,hbr,e2,dG]
  refine⟨by omega,?_⟩
  obtain⟨H1,hH1⟩:∃H1,H1=(h++[AO.row 3 [[.p (.int .i64 c.params),.p (.int .i64 c.regs),.p (.lst 5 (c.blocks.map Bk.cs))]]]).set sid (.row 1 (bM (seen.set b true))):=⟨_,rfl⟩
  have g0:H1[h.length]?=some (.row 3 [[.p (.int .i64 c.params),.p (.int .i64 c.regs),.p (.lst 5 (c.blocks.map Bk.cs))]]):=by
   rw[hH1,List.getElem?_set_ne (by omega),List.getElem?_append_right (by omega)];simp
  have g1:H1[sid]?=some (.row 1 (bM (D 0).1)):=by
   rw[hH1,List.getElem?_set_self (by simp;omega),hDz]
  have g2:H1[oid]?=some (.row 1 (au (aT (D 0).2))):=by
   rw[hH1,List.getElem?_set_ne hne,List.getElem?_append_left hoid,hDz];exact ho
  have g3:∀j,j<h.length->j≠sid->j≠oid->H1[j]?=h[j]?:=λj h1 h2 _=>by
   rw[hH1,List.getElem?_set_ne (by omega),List.getElem?_append_left h1]
  have g4:H1.length=h.length+1:=by rw[hH1];simp
  rw[←hH1]
  clear hH1 e1 e2 hs ho
  refine aH (λa:ViS=>aw 54 [(9,.p (.int .i64 a.i)),(1,.p (.int .i64 b)),(2,.sl sid 1 0 seen.length),(3,.sl a.o 1 0 (D a.i).2.length),(4,.ptr h.length 3 0 0)]) (λa=>a.X)
   (λa=>a.i<=x.next.length/\h.length<a.X.length/\a.X[h.length]?=some (.row 3 [[.p (.int .i64 c.params),.p (.int .i64 c.regs),.p (.lst 5 (c.blocks.map Bk.cs))]])/\a.X[sid]?=some (.row 1 (bM (D a.i).1))/\a.X[a.o]?=some (.row 1 (au (aT (D a.i).2)))/\a.o≠sid/\a.o≠h.length/\(a.o<h.length->a.o=oid)/\∀j,j<h.length->j≠sid->j≠oid->a.X[j]?=h[j]?) (λa=>x.next.length-a.i) ⟨0,H1,oid⟩ ⟨Nat.zero_le _,by simp only[g4];omega,g0,g1,g2,Ne.symm hne,by simp only;omega,λ_=>rfl,g3⟩ ?_ ?_
  ·refine ab (by omega) ?_
   simp only[hDz]
   simp[below,g4]
   try omega
  clear g0 g1 g2 g3 g4 H1
  rintro⟨i,X,o⟩ ⟨hi,hXl,g0,g1,g2,hos,hoh,hoo,g3⟩
  simp only at hi hXl g0 g1 g2 hos hoh hoo g3
  have hol:=(List.getElem?_eq_some_iff.1 g2).1
  have hgX:X[h.length]?=some (.row 3 [[.p (.int .i64 c.params),.p (.int .i64 c.regs),.p (.lst 5 (c.blocks.map Bk.cs))]]):=g0
  simp-implicitDefEqProofs[g0,hgb,hxs,hnl]
  refine aF (λhc1=>?_) (λhc1=>?_)
  ·simp at hc1
   have hg2:=List.getElem?_eq_getElem hc1
   generalize x.next[i]=r at hg2
   have hr:=yW hfit hgb (List.mem_of_getElem? hg2)
   have hrn:((r.toNat:Nat):Int)=r:=by omega
   have hDn:=hDs i r.toNat (IL hgb hg2)
   generalize hm:r.toNat=m at hrn hDn
   subst hrn
   have hml:m<c.blocks.length:=by omega
   have hrow:(bM (D i).1)[m]?=some [.p (.bool (sn (D i).1 m))]:=ef (mV (by have:=(hD1 i).2.1;omega))
   have hms:m<seen.length:=by omega
   have hw1:=w1 (i:=i) (by omega)
   simp-implicitDefEqProofs[g0,hgb,hxs,hnl,hg2,g1,hrow,hms]
   refine aF (λhe=>?_) (λhe=>?_)
   ·have he:sn (D i).1 m=false:=by simpa using he
    simp only[he,Bool.false_eq_true,if_false] at hDn
    have⟨q1,q2,q3⟩:=hD1 i
    have hcall:=ih X m sid o (D i).1 (D i).2 hml (by omega) he q3 (Ne.symm hos) g1 g2 (by omega)
    rw[q2,hcs,hbl] at hcall
    simp-implicitDefEqProofs[g0,hgb,hxs,hnl,hg2]
    refine hcall.mono ?_
    rintro rr h' ⟨id,rfl,e3,e4,e5,e6,e7,e8⟩
    have hidl:=(List.getElem?_eq_some_iff.1 e3).1
    simp-implicitDefEqProofs[aa]
    refine⟨⟨i+1,h',id⟩,⟨by simp only;omega,by simp only;omega,?_,?_,?_,e5,by simp only;omega,λh2=>by simp only at h2;omega,λj h1 h2 h3=>?_⟩,by simp only;omega,ab (by omega) ?_⟩
    ·simp only;rw[e8 _ hXl (by omega) (Ne.symm hoh)];exact g0
    ·simp only[hDn];exact e4
    ·simp only[hDn];exact e3
    ·simp only
     rw[e8 _ (by omega) h2 (by intro h4;subst h4;exact h3 (hoo h1))]
     exact g3 j h1 h2 h3
    ·simp only[hDn]
     simp[below,hw1]
     omega
   ·have he:sn (D i).1 m=true:=by simpa using he
    simp only[he,if_true] at hDn
    simp-implicitDefEqProofs[]
    refine⟨⟨i+1,X,o⟩,⟨by simp only;omega,hXl,g0,by simp only[hDn];exact g1,by simp only[hDn];exact g2,hos,hoh,hoo,g3⟩,by simp only;omega,ab (by omega) ?_⟩
    simp only[hDn]
    simp[below,hw1]
    omega
  ·simp at hc1
   have hie:i=x.next.length:=by omega
   subst hie
   rw[hDe]
   have⟨q1,q2,q3⟩:=hD1 x.next.length
   generalize D x.next.length=Z at*
   have htl:List.take Z.2.length (au (aT Z.2))=au (aT Z.2):=List.take_of_length_le (by simp[au,aT])
   have hrl:(au (aT Z.2)).length=Z.2.length:=by simp[au,aT]
   have hxm:∀t,(X++t)[o]?=some (.row 1 (au (aT Z.2))):=λt=>by rw[List.getElem?_append_left hol];exact g2
   simp-implicitDefEqProofs[hxm,htl,hrl]
   refine⟨by omega,by simp[au,aT],?_,by omega,by omega,by omega,λj h1 h2 h3=>?_⟩
   ·rw[List.getElem?_append_left (by simp;omega),List.getElem?_set_ne hos,List.getElem?_append_left (by omega)];exact g1
   ·rw[List.getElem?_append_left (by simp;omega),List.getElem?_set_ne (by intro h4;subst h4;exact h3 (hoo h1)),List.getElem?_append_left (by omega)];exact g3 j h1 h2 h3
end
end Go.Proofs.YtdfplkcigiblcaaGreat
