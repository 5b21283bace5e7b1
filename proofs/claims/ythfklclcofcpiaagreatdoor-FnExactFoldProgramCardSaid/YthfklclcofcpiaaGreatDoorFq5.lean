/-
  Contracts and lemmas that the card needs, part 5.
-/
import Derived.Test.YthfklclcofcpiaaGreatDoorFq4
import Derived.Laws.RangeAny
import Derived.Laws.RangeString
namespace Go.Proofs.YthfklclcofcpiaaGreatDoor
open Go Go.Aw
set_option maxRecDepth 100000
set_option maxHeartbeats 4000000
section
theorem aq{α:Type}{xs:List α}{i:Nat}(h:i<xs.length):xs.take (i+1)=xs.take i++[xs[i]]:=by
 rw[List.take_add_one,Rv h];rfl
def aE(l:List (List UInt8)):PV:= .lst 1 (l.map λw=>[.str w])
def QL(l:List (List UInt8)):List (List AV):=l.map λw=>[.p (.str w)]
def nC(l:List (List UInt8)):AO:= .row 1 (l.map λn=>[.p (.str n)])
theorem zY(l:List (List UInt8)):∀x∈QL l,an 0 x:=by
 intro x hx;obtain⟨m,_,rfl⟩:=RP.1 hx;simp[an,below]
theorem ta{l:List (List UInt8)}{id:Nat}{h:List AO}(e:h[id]?=some (nC l)):View h (.sl id 1 0 l.length) (aE l):=by
 have:=iA (h:=h) (id:=id) (sz:=1) (n:=l.length) (ls:=l.map λn=>[.str n]) (by rw[e,nC];simp) (by simp) (λx hx=>by obtain⟨b,_,rfl⟩:=RP.1 hx;rfl)
 exact this
end
section
def dy(c:UInt8):Bool:=decide (97<=c.toNat)&&decide (c.toNat<=122)
def keyW:List (List UInt8):=[[102,110],[108,101,116],[115,97,121],[112,117,116],[105,102],[101,108,115,101],[108,111,111,112],[98,97,99,107],[100,111]]
def aD(s:List UInt8):Bool:=s.all dy&&decide (0<s.length)&&decide (s.length<=4)&& !keyW.contains s
def vG:List UInt8:=[40,41,123,125,59,44,43,45,42,47,37,60,61,38,33,64]
def sr(s:List UInt8)(c:Int):Int:=match s.findIdx? (λx=>(x.toNat:Int)==c) with|some i=>i|none=> -1
def BI(c:Int):Int:=if 97<=c/\c<=122 then 1 else if 48<=c/\c<=57 then 2 else if 0<=sr vG c then 3 else if c=32\/c=10 then 4 else 0
theorem KM(x:UInt8):(BI (x.toNat:Int)=1)↔dy x=true:=by
 have h:(97<=(x.toNat:Int)/\(x.toNat:Int)<=122)↔dy x=true:=by simp[dy];omega
 unfold BI
 constructor
 ·intro e
  split at e
  ·rename_i h1;exact h.1 h1
  ·repeat' split at e
   all_goals omega
 ·intro e;rw[if_pos (h.2 e)]
def AM(s:List UInt8):Int:=match s.findIdx? (λx=> !dy x) with|some i=>i|none=> -1
theorem Hv(s:List UInt8):decide (AM s<0)=s.all dy:=by
 unfold AM
 cases h:s.findIdx? (λx=> !dy x) with
 |none=>
  rw[Sg] at h
  have:s.all dy=true:=RA.2 λx hx=>by have:=h x hx;simpa using this
  simp[this]
 |some i=>
  rw[RQ] at h
  obtain⟨h1,h2,_⟩:=h
  have:s.all dy=false:=List.all_eq_false.2 ⟨_,RB h1,by simpa using h2⟩
  rw[this];simp
def idxS(l:List (List UInt8))(s:List UInt8):Int:=match l.findIdx? (λw=>w==s) with|some i=>i|none=> -1
theorem HK(l:List (List UInt8))(s:List UInt8):decide (0<=idxS l s)=l.contains s:=by
 unfold idxS
 cases h:l.findIdx? (λw=>w==s) with
 |none=>
  rw[Sg] at h
  have:l.contains s=false:=by
   cases hc:l.contains s with
   |false=>rfl
   |true=>
    have hm:s∈l:=by simpa using hc
    have:=h s hm
    simp at this
  rw[this];simp
 |some i=>
  rw[RQ] at h
  obtain⟨h1,h2,_⟩:=h
  have:l.contains s=true:=by
   simp only[beq_iff_eq] at h2
   rw[List.contains_iff_mem,←h2];exact RB h1
  rw[this];simp
variable (G:ay)
theorem tv(s:List UInt8)(c:Int)(hb:s.length<=1048576):VF Tryz.prog G jn [.p (.str s),.p (.int .u8 c)] (.p (.int .i64 (sr s c))):=by
 refine AC.go uX ?_
 simp-implicitDefEqProofs[nv]
 refine az (λi:Nat=>am 18 [(0,.p (.str s)),(1,.p (.int .u8 c)),(5,.p (.int .i64 i))]) (λ_=>[]) (λi=>i<=s.length/\∀x∈s.take i,(x.toNat:Int)≠c) (λi=>s.length-i) 0 (by simp) ?_ ?_
 ·exact aK rfl (by simp[below])
 ·intro i ⟨hi,hn⟩
  simp-implicitDefEqProofs[]
  refine aY (λh1=>?_) (λh1=>?_)
  ·simp at h1
   have hg:=Rv h1
   by_cases he:(s[i].toNat:Int)=c
   ·have hf:sr s c=i:=by
     have:s.findIdx? (λx=>(x.toNat:Int)==c)=some i:=by
      rw[RQ]
      exact⟨h1,by simpa using he,λj hj=>by have:=hn s[j] (List.mem_take_iff_getElem.2 ⟨j,by omega,rfl⟩);simpa using this⟩
     rw[sr,this]
    simp-implicitDefEqProofs[hg,he,hf]
   ·simp-implicitDefEqProofs[hg,he]
    refine⟨i+1,⟨h1,λp hp=>?_⟩,by omega,aK rfl ?_⟩
    ·rw[aq h1] at hp
     rcases RG.1 hp with hp|hp
     ·exact hn p hp
     ·rw[RL.1 hp];exact he
    ·simp[below,w1 (i:=i) (by omega)]
  ·simp at h1
   rw[RF h1] at hn
   have hf:sr s c= -1:=by
    have:s.findIdx? (λx=>(x.toNat:Int)==c)=none:=by
     rw[Sg];intro x hx;simpa using hn x hx
    rw[sr,this]
   simp-implicitDefEqProofs[hf]
theorem Hg(c:Int):VF Tryz.prog G jT [.p (.int .u8 c)] (.p (.int .i64 (BI c))):=by
 refine AC.go yL ?_
 simp-implicitDefEqProofs[mT]
 unfold BI
 by_cases h1:97<=c
 ·by_cases h2:c<=122
  ·simp-implicitDefEqProofs[h1,h2]
  ·have h3:¬c<=57:=by omega
   have h4:¬c=32:=by omega
   have h5:¬c=10:=by omega
   have h6:48<=c:=by omega
   simp-implicitDefEqProofs[h1,h2,h3,h6]
   refine(tv G vG c (by decide)).use ?_
   generalize sr vG c=w
   by_cases hf:0<=w
   ·simp-implicitDefEqProofs[hf]
   ·simp-implicitDefEqProofs[hf,h4,h5]
 ·simp-implicitDefEqProofs[h1]
  by_cases h2:48<=c
  ·by_cases h3:c<=57
   ·simp-implicitDefEqProofs[h2,h3]
   ·have h4:¬c=32:=by omega
    have h5:¬c=10:=by omega
    simp-implicitDefEqProofs[h2,h3]
    refine(tv G vG c (by decide)).use ?_
    generalize sr vG c=w
    by_cases hf:0<=w
    ·simp-implicitDefEqProofs[hf]
    ·simp-implicitDefEqProofs[hf,h4,h5]
  ·simp-implicitDefEqProofs[h2]
   refine(tv G vG c (by decide)).use ?_
   generalize sr vG c=w
   by_cases hf:0<=w
   ·simp-implicitDefEqProofs[hf]
   ·by_cases h4:c=32
    ·simp-implicitDefEqProofs[hf,h4]
    ·by_cases h5:c=10
     ·simp-implicitDefEqProofs[hf,h4,h5]
     ·simp-implicitDefEqProofs[hf,h4,h5]
theorem Ln(s:List UInt8)(hb:s.length<=140737488355328):VF Tryz.prog G lV [.p (.str s),.p (.int .i64 1)] (.p (.bool (s.all dy&&decide (0<s.length)))):=by
 refine AC.go Bx ?_
 simp-implicitDefEqProofs[rP]
 refine az (λi:Nat=>am 21 [(0,.p (.str s)),(1,.p (.int .i64 1)),(5,.p (.int .i64 i))]) (λ_=>[]) (λi=>i<=s.length/\∀x∈s.take i,dy x=true) (λi=>s.length-i) 0 (by simp) ?_ ?_
 ·exact aK rfl (by simp[below])
 ·intro i ⟨hi,hn⟩
  simp-implicitDefEqProofs[]
  refine aY (λh1=>?_) (λh1=>?_)
  ·simp at h1
   have hg:=Rv h1
   simp-implicitDefEqProofs[hg]
   refine(Hg G _).use ?_
   have hcl:=KM s[i]
   by_cases he:dy s[i]=true
   ·have hc:=hcl.2 he
    simp-implicitDefEqProofs[hc]
    refine⟨i+1,⟨h1,λp hp=>?_⟩,by omega,aK rfl ?_⟩
    ·rw[aq h1] at hp
     rcases RG.1 hp with hp|hp
     ·exact hn p hp
     ·rw[RL.1 hp];exact he
    ·simp[below,w1 (i:=i) (by omega)]
   ·have hc:¬BI (s[i].toNat:Int)=1:=λe=>he (hcl.1 e)
    have ha:s.all dy=false:=List.all_eq_false.2 ⟨_,RB h1,by simpa using he⟩
    simp-implicitDefEqProofs[hc,ha]
  ·simp at h1
   rw[RF h1] at hn
   have ha:s.all dy=true:=RA.2 hn
   simp-implicitDefEqProofs[ha]
theorem En:VF Tryz.prog G fK [] (.p (aE keyW)):=by
 have key:AC Tryz.prog G fK [] [] λx h=>x= .ret (.sl 0 1 0 9)/\h=[.row 1 (keyW.map λw=>[.p (.str w)])]:=by
  refine AC.go uq ?_
  simp-implicitDefEqProofs[my,keyW]
 exact AC.freeze key (.one (iA (ls:=keyW.map λw=>[.str w]) (by simp) (by simp[keyW]) (by simp)) .nil)
theorem Ml(s:List UInt8):VF Tryz.prog G mb [.p (.str s)] (.p (.bool (keyW.contains s))):=by
 refine AC.go Bm ?_
 have hsl:aE keyW= .lst 1 (keyW.map λw=>[.str w]):=rfl
 have hkl:keyW.length=9:=rfl
 simp-implicitDefEqProofs[sv]
 refine(En G).use ?_
 simp-implicitDefEqProofs[]
 refine az (λi:Nat=>am 18 [(0,.p (.str s)),(3,.p (aE keyW)),(4,.p (.int .i64 i))]) (λ_=>[]) (λi=>i<=keyW.length/\∀w∈keyW.take i,w≠s) (λi=>keyW.length-i) 0 (by simp) ?_ ?_
 ·exact aK rfl (by simp[below,aE])
 ·intro i ⟨hi,hn⟩
  generalize keyW=L at*
  simp-implicitDefEqProofs[hsl]
  refine aY (λh1=>?_) (λh1=>?_)
  ·simp at h1
   have hg:=Rv h1
   by_cases he:L[i]=s
   ·have hm:s∈L:=by rw[←he];exact RB h1
    simp-implicitDefEqProofs[hg,he,hm]
   ·simp-implicitDefEqProofs[hg,he]
    refine⟨i+1,⟨h1,λp hp=>?_⟩,by omega,aK rfl ?_⟩
    ·rw[aq h1] at hp
     rcases RG.1 hp with hp|hp
     ·exact hn p hp
     ·rw[RL.1 hp];exact he
    ·simp[below,w1 (i:=i) (by omega)]
  ·simp at h1
   rw[RF h1] at hn
   have hm:¬s∈L:=λhm=>hn s hm rfl
   simp-implicitDefEqProofs[hm]
theorem rf(s:List UInt8)(hb:s.length<=140737488355328):VF Tryz.prog G cn [.p (.str s)] (.p (.bool (aD s))):=by
 refine AC.go zA ?_
 simp-implicitDefEqProofs[py]
 refine(Ln G s hb).use ?_
 cases h1:(s.all dy&&decide (0<s.length)) with
 |false=>
  have hi:aD s=false:=by rw[aD,h1];rfl
  simp-implicitDefEqProofs[hi]
 |true=>
  by_cases h4:s.length<=4
  ·have h4i:(s.length:Int)<=4:=by omega
   have hi:aD s= !keyW.contains s:=by rw[aD,h1];simp[h4]
   simp-implicitDefEqProofs[h4i]
   refine(Ml G s).use ?_
   rw[hi]
   simp-implicitDefEqProofs[]
  ·have h4i:¬(s.length:Int)<=4:=by omega
   have hi:aD s=false:=by rw[aD,h1];simp[h4]
   simp-implicitDefEqProofs[h4i,hi]
end
section
inductive Ex where
 |mk (op n:Int) (name:List UInt8) (kids:List Ex)
inductive Sm where
 |mk (op:Int) (name:List UInt8) (args:List Ex) (body els:List Sm)
structure Fd where (name:List UInt8) (params:List (List UInt8)) (body:List Sm)
def Ex.op:Ex->Int| .mk o _ _ _=>o
def Ex.n:Ex->Int| .mk _ n _ _=>n
def Ex.name:Ex->List UInt8| .mk _ _ s _=>s
def Ex.kids:Ex->List Ex| .mk _ _ _ k=>k
def Sm.op:Sm->Int| .mk o _ _ _ _=>o
def Sm.name:Sm->List UInt8| .mk _ s _ _ _=>s
def Sm.args:Sm->List Ex| .mk _ _ a _ _=>a
def Sm.body:Sm->List Sm| .mk _ _ _ b _=>b
def Sm.els:Sm->List Sm| .mk _ _ _ _ e=>e
mutual
def Ex.cs:Ex->List PV
 | .mk o n s k=>[.int .i64 o,.int .i64 n,.str s,.lst 4 (JN k)]
def JN:List Ex->List (List PV)
 |[]=>[]
 |e::r=>e.cs::JN r
end
mutual
def Sm.cs:Sm->List PV
 | .mk o s a b e=>[.int .i64 o,.str s,.lst 4 (JN a),.lst 5 (JU b),.lst 5 (JU e)]
def JU:List Sm->List (List PV)
 |[]=>[]
 |s::r=>s.cs::JU r
end
theorem vU:∀l:List Ex,JN l=l.map Ex.cs
 |[]=>rfl
 |e::r=>by rw[JN,vU r];rfl
theorem yF:∀l:List Sm,JU l=l.map Sm.cs
 |[]=>rfl
 |e::r=>by rw[JU,yF r];rfl
def exL(l:List Ex):PV:= .lst 4 (l.map Ex.cs)
def smL(l:List Sm):PV:= .lst 5 (l.map Sm.cs)
theorem Ex.cs_eq(e:Ex):e.cs=[.int .i64 e.op,.int .i64 e.n,.str e.name,exL e.kids]:=by
 cases e;rw[Ex.cs,vU];rfl
theorem Sm.cs_eq(s:Sm):s.cs=[.int .i64 s.op,.str s.name,exL s.args,smL s.body,smL s.els]:=by
 cases s;rw[Sm.cs,vU,yF,yF];rfl
@[simp] theorem Ex.cs_len(e:Ex):e.cs.length=4:=by cases e;rfl
@[simp] theorem Ex.cs_take(e:Ex):List.take 4 (e.cs.map AV.p)=e.cs.map AV.p:=by cases e;rfl
@[simp] theorem Sm.cs_len(s:Sm):s.cs.length=5:=by cases s;rfl
@[simp] theorem Sm.cs_take(s:Sm):List.take 5 (s.cs.map AV.p)=s.cs.map AV.p:=by cases s;rfl
def Fd.cs(f:Fd):List PV:=[.str f.name,aE f.params,smL f.body]
@[simp] theorem Fd.cs_len(f:Fd):f.cs.length=3:=rfl
@[simp] theorem Fd.cs_take(f:Fd):List.take 3 (f.cs.map AV.p)=f.cs.map AV.p:=rfl
def fdL(l:List Fd):PV:= .lst 3 (l.map Fd.cs)
mutual
def Ex.sz:Ex->Nat
 | .mk _ _ s k=>1+s.length+cb k
def cb:List Ex->Nat
 |[]=>0
 |e::r=>e.sz+cb r
end
mutual
def Sm.sz:Sm->Nat
 | .mk _ s a b e=>1+s.length+cb a+aF b+aF e
def aF:List Sm->Nat
 |[]=>0
 |s::r=>s.sz+aF r
end
def Fd.sz(f:Fd):Nat:=1+f.name.length+(f.params.length+(f.params.map List.length).sum)+aF f.body
def bt(l:List Fd):Nat:=(l.map Fd.sz).sum
theorem Ex.sz_eq(e:Ex):e.sz=1+e.name.length+cb e.kids:=by cases e;rfl
theorem Sm.sz_eq(s:Sm):s.sz=1+s.name.length+cb s.args+aF s.body+aF s.els:=by cases s;rfl
theorem tT:∀a b:List Ex,cb (a++b)=cb a+cb b
 |[],b=>by simp[cb]
 |e::r,b=>by simp only[Sh,cb,tT r b];omega
theorem uh:∀a b:List Sm,aF (a++b)=aF a+aF b
 |[],b=>by simp[aF]
 |e::r,b=>by simp only[Sh,aF,uh r b];omega
theorem aC:∀{l:List Ex} {e:Ex},e∈l->e.sz<=cb l
 |x::r,e,h=>by
  simp only[cb]
  rcases Sa.1 h with rfl|h
  ·omega
  ·have:=aC h;omega
theorem aQ:∀{l:List Sm} {e:Sm},e∈l->e.sz<=aF l
 |x::r,e,h=>by
  simp only[aF]
  rcases Sa.1 h with rfl|h
  ·omega
  ·have:=aQ h;omega
theorem aP:∀l:List Ex,l.length<=cb l
 |[]=>RC _
 |e::r=>by have:=aP r;have:=e.sz_eq;simp only[cb,RN];omega
theorem bi:∀l:List Sm,l.length<=aF l
 |[]=>RC _
 |e::r=>by have:=bi r;have:=e.sz_eq;simp only[aF,RN];omega
mutual
def Ex.parts:Ex->Nat
 | .mk _ _ _ k=>1+aI k
def aI:List Ex->Nat
 |[]=>0
 |e::r=>e.parts+aI r
end
theorem Ex.parts_eq(e:Ex):e.parts=1+aI e.kids:=by cases e;rfl
theorem eC:∀a b:List Ex,aI (a++b)=aI a+aI b
 |[],b=>by simp[aI]
 |e::r,b=>by simp only[Sh,aI,eC r b];omega
mutual
theorem Ex.parts_le:∀e:Ex,e.parts<=e.sz
 | .mk _ _ s k=>by have:=Bw k;simp only[Ex.parts,Ex.sz];omega
theorem Bw:∀l:List Ex,aI l<=cb l
 |[]=>RC _
 |e::r=>by have:=e.parts_le;have:=Bw r;simp only[aI,cb];omega
end
mutual
def Sm.cnt:Sm->Nat
 | .mk _ _ _ b e=>1+dK b+dK e
def dK:List Sm->Nat
 |[]=>0
 |s::r=>s.cnt+dK r
end
theorem Sm.cnt_eq(s:Sm):s.cnt=1+dK s.body+dK s.els:=by cases s;rfl
theorem nn:∀a b:List Sm,dK (a++b)=dK a+dK b
 |[],b=>by simp[dK]
 |e::r,b=>by simp only[Sh,dK,nn r b];omega
mutual
theorem Sm.cnt_le:∀s:Sm,s.cnt<=s.sz
 | .mk _ s a b e=>by have:=oe b;have:=oe e;simp only[Sm.cnt,Sm.sz];omega
theorem oe:∀l:List Sm,dK l<=aF l
 |[]=>RC _
 |e::r=>by have:=e.cnt_le;have:=oe r;simp only[dK,aF];omega
end
def inR(n lo hi:Int):Bool:=decide (lo<=n)&&decide (n<=hi)
def loK(op:Int):Nat:=if op=1\/op=2 then 0 else if op=11\/op=12 then 1 else if op=13 then 0 else 2
def hiK(op:Int):Nat:=if op=1\/op=2 then 0 else if op=11\/op=12 then 1 else if op=13 then 3 else 2
def Do(op:Int):Bool:=decide (op=2)||decide (op=13)
def iD(e:Ex):Bool:=inR e.op 1 13&&inR e.kids.length (loK e.op) (hiK e.op)&&(Do e.op==aD e.name)&&(Do e.op||decide (e.name=[]))&&inR e.n 0 255&&(decide (e.op=1)||decide (e.n=0))
def aT:Nat->Ex->Bool
 |0,_=>false
 |d+1,e=>iD e&&e.kids.all (aT d)
def gt(e:Ex):Bool:=aT 6 e&&decide (e.parts<=30)
def ku(op:Int):Nat:=if op=4 then 2 else 1
def cI(op:Int):Bool:=decide (op=1)||decide (op=2)
def gF(s:Sm):Bool:=inR s.op 1 8&&decide (s.args.length=ku s.op)&&(cI s.op==aD s.name)&&(cI s.op||decide (s.name=[]))&&s.args.all gt&&
 (!decide (s.op=8)||(match s.args with|a::_=>decide (a.op=13)|[]=>false))&&(s.els.isEmpty||decide (s.op=5))&&(s.body.isEmpty||decide (s.op=5)||decide (s.op=6))
def aB:Nat->Sm->Bool
 |0,_=>false
 |d+1,s=>gF s&&s.body.all (aB d)&&s.els.all (aB d)
def kb(f:Fd):Bool:=f.params.all aD&&aD f.name&&decide (f.params.length<=3)&&f.body.all (aB 4)
def lz(l:List Fd):Nat:=(l.map λf=>dK f.body).sum
def cw(l:List Fd):Bool:=inR l.length 1 4&&l.all kb&&decide (lz l<=40)
end
section
structure LV where (name:List UInt8) (num block:Nat)
structure WS where (vs:List LV) (count:Nat) (code:Int)
def fl(c k:Int):Int:=if c=0 then k else c
theorem EW{c k:Int}(h:c≠0):fl c k=c:=if_neg h
def lkV(vs:List LV)(s:List UInt8):Option LV:=vs.find? λv=>decide (v.name=s)
def dJ(fns:List Fd)(s:List UInt8):Option Nat:=fns.findIdx? λf=>decide (f.name=s)
def Cn(fns:List Fd)(j:Nat):Nat:=match fns[j]? with|some f=>f.params.length|none=>0
def ux(vs:List LV)(s:List UInt8)(c:Int):Int:=match lkV vs s with|none=>fl c 3|some _=>c
def sh(fns:List Fd)(k:Nat)(s:List UInt8)(n:Nat)(c:Int):Int:=
 match dJ fns s with|none=>fl c 4|some j=>if k<=j then fl c 4 else if Cn fns j=n then c else fl c 5
def pg(fns:List Fd)(k:Nat)(vs:List LV)(o:Int)(s:List UInt8)(n:Nat)(c:Int):Int:=
 if o=2 then ux vs s c else if o=13 then sh fns k s n c else c
mutual
def CU(fns:List Fd)(k:Nat)(vs:List LV):Ex->Int->Int
 | .mk o _ s ks,c=>dM fns k vs ks (pg fns k vs o s ks.length c)
def dM(fns:List Fd)(k:Nat)(vs:List LV):List Ex->Int->Int
 |[],c=>c
 |e::r,c=>dM fns k vs r (CU fns k vs e c)
end
def vnm(n:Nat):List UInt8:=[118,UInt8.ofNat (97+n%26)]
def vw(vs:List LV)(s:List UInt8):List UInt8:=match lkV vs s with|none=>s|some v=>vnm v.num
mutual
def rnE(vs:List LV):Ex->Ex
 | .mk o n s ks=> .mk o n (if o=2 then vw vs s else s) (jE vs ks)
def jE(vs:List LV):List Ex->List Ex
 |[]=>[]
 |e::r=>rnE vs e::jE vs r
end
def zl(vs:List LV)(s:List UInt8)(b:Nat)(c:Int):Int:=match lkV vs s with|none=>c|some v=>if v.block=b then fl c 2 else c
def lc(w:WS)(s:List UInt8)(b:Nat):WS:=⟨⟨s,w.count,b⟩::w.vs,w.count+1,zl w.vs s b w.code⟩
def opW(o:Int)(s:List UInt8)(b:Nat)(w:WS):WS:=if o=1 then lc w s b else if o=2 then⟨w.vs,w.count,ux w.vs s w.code⟩ else w
def opN(o:Int)(s:List UInt8)(w:WS):List UInt8:=if o=1 then vnm w.count else if o=2 then vw w.vs s else s
def WS.back(w:WS)(vs:List LV):WS:=⟨vs,w.count,w.code⟩
mutual
def stW(fns:List Fd)(k b:Nat):Sm->WS->WS
 | .mk o s a bd el,w=>
   let w2:=opW o s b ⟨w.vs,w.count,dM fns k w.vs a w.code⟩
   let w3:=(cL fns k (b+1) bd w2).back w2.vs
   (cL fns k (b+1) el w3).back w2.vs
def cL(fns:List Fd)(k b:Nat):List Sm->WS->WS
 |[],w=>w
 |s::r,w=>cL fns k b r (stW fns k b s w)
end
def cJ(ps:List (List UInt8))(w:WS):WS:=ps.foldl (λw s=>lc w s 0) w
def fnW(fns:List Fd)(k:Nat)(f:Fd):WS:=cL fns k 0 f.body (cJ f.params ⟨[],0,if dJ fns f.name=some k then 0 else 2⟩)
def gP(fns:List Fd):Nat->List Fd->Int
 |_,[]=>0
 |k,f::r=>if(fnW fns k f).code=0 then gP fns (k+1) r else(fnW fns k f).code
def aW(fns:List Fd):Int:=if cw fns then gP fns 0 fns else 1
abbrev Scp:=List (List UInt8 × Nat)
def gZ(m:Scp)(s:List UInt8):Option Nat:=(m.find? λx=>decide (x.1=s)).map (·.2)
def iY:Scp->List UInt8->Nat->Scp
 |[],s,n=>[(s,n)]
 |x::r,s,n=>if x.1=s then(s,n)::r else x::iY r s n
def ga:List Scp->List UInt8->Option Nat
 |[],_=>none
 |m::r,s=>match gZ m s with|some n=>some n|none=>ga r s
def fU(fns:List Fd)(k:Nat)(ch:List Scp)(c:Int)(e:Ex):Int:=
 if e.op=2 then(if(ga ch e.name).isSome then c else fl c 3)
 else if e.op=13 then(match dJ (fns.take k) e.name with|none=>fl c 4|some j=>if Cn fns j=e.kids.length then c else fl c 5)
 else c
mutual
def Ex.pre:Ex->List Ex
 | .mk o n s ks=> .mk o n s ks::dO ks
def dO:List Ex->List Ex
 |[]=>[]
 |e::r=>e.pre++dO r
end
def DJ(fns:List Fd)(k:Nat)(ch:List Scp)(l:List Ex)(c:Int):Int:=(dO l).foldl (fU fns k ch) c
def opS(o:Int)(s:List UInt8)(m:Scp)(n:Nat):Scp:=if o=1 then iY m s n else m
def opC(o:Int)(s:List UInt8)(m:Scp)(up:List Scp)(c:Int):Int:=
 if o=1 then(if(gZ m s).isSome then fl c 2 else c) else if o=2 then(if(ga (m::up) s).isSome then c else fl c 3) else c
mutual
def icS(fns:List Fd)(k:Nat):Sm->Scp->List Scp->Int->Scp × Int
 | .mk o s a bd el,m,up,c=>
   let m2:=opS o s m 0
   let c2:=opC o s m up (DJ fns k (m::up) a c)
   (m2,if o=5\/o=6 then(gA fns k el [] (m2::up) (gA fns k bd [] (m2::up) c2).2).2 else c2)
def gA(fns:List Fd)(k:Nat):List Sm->Scp->List Scp->Int->Scp × Int
 |[],m,_,c=>(m,c)
 |s::r,m,up,c=>gA fns k r (icS fns k s m up c).1 up (icS fns k s m up c).2
end
def kW(ps:List (List UInt8))(m:Scp)(c:Int):Scp × Int:=ps.foldl (λx s=>(iY x.1 s 0,if(gZ x.1 s).isSome then fl x.2 2 else x.2)) (m,c)
def icF(fns:List Fd)(k:Nat)(f:Fd)(c:Int):Int:=
 let c1:=if(match dJ fns f.name with|some j=>decide (j<k)|none=>true) then fl c 2 else c
 let x:=kW f.params [] c1
 (gA fns k f.body x.1 [] x.2).2
def jL(fns:List Fd):Nat->List Fd->Int->Int
 |_,[],c=>c
 |k,f::r,c=>jL fns (k+1) r (icF fns k f c)
def SR(g:LV->Nat):Nat->List LV->List Scp->Prop
 |_,_,[]=>False
 |b,vs,m::up=>∃v1 v2,vs=v1++v2/\(∀v∈v1,v.block=b)/\(∀s,(lkV v1 s).map g=gZ m s)/\match b with
  |0=>v2=[]/\up=[]
  |b+1=>SR g b v2 up
theorem Fg(a b:List LV)(s:List UInt8):lkV (a++b) s=match lkV a s with|some v=>some v|none=>lkV b s:=by
 simp only[lkV,List.find?_append]
 cases List.find? (λv=>decide (v.name=s)) a<;>rfl
variable {g:LV->Nat}
theorem SR.blk:∀{b:Nat} {vs:List LV} {ch:List Scp},SR g b vs ch->∀v∈vs,v.block<=b
 |b,_,[],h,v,hv=>by cases b<;>exact False.elim h
 |0,vs,m::up,⟨v1,v2,e,h1,_,h3,_⟩,v,hv=>by
  subst e;subst h3
  rw[Sd] at hv
  exact Nat.le_of_eq (h1 v hv)
 |b+1,vs,m::up,⟨v1,v2,e,h1,_,h3⟩,v,hv=>by
  subst e
  rcases RG.1 hv with h|h
  ·exact Nat.le_of_eq (h1 v h)
  ·exact Nat.le_succ_of_le (SR.blk h3 v h)
theorem SR.fnd:∀{b:Nat} {vs:List LV} {ch:List Scp},SR g b vs ch->∀s,(lkV vs s).map g=ga ch s
 |b,_,[],h,s=>by cases b<;>exact False.elim h
 |0,vs,m::up,⟨v1,v2,e,h1,h2,h3,h4⟩,s=>by
  subst e;subst h3;subst h4
  rw[Sd,h2,ga]
  cases gZ m s<;>rfl
 |b+1,vs,m::up,⟨v1,v2,e,h1,h2,h3⟩,s=>by
  subst e
  have ih:=SR.fnd h3 s
  have h2:=h2 s
  rw[Fg,ga,←h2]
  cases e1:lkV v1 s with
  |some v=>rfl
  |none=>exact ih
theorem SR.is{b:Nat}{vs:List LV}{ch:List Scp}(h:SR g b vs ch)(s:List UInt8):(lkV vs s).isSome=(ga ch s).isSome:=by rw[←h.fnd s,Option.isSome_map]
theorem Fb{vs:List LV}{s:List UInt8}{v:LV}(h:lkV vs s=some v):v∈vs:=List.mem_of_find?_eq_some h
theorem SR.put:∀{b:Nat} {vs:List LV} {m:Scp} {up:List Scp},SR g b vs (m::up)->∀(s:List UInt8) (c:Int),zl vs s b c=if(gZ m s).isSome then fl c 2 else c:=by
 intro b vs m up h s c
 have key:∀v1 v2:List LV,(∀v∈v1,v.block=b)->(lkV v1 s).map g=gZ m s->(∀v∈v2,v.block≠b)->zl (v1++v2) s b c=if(gZ m s).isSome then fl c 2 else c:=by
  intro v1 v2 h1 h2 h3
  rw[←h2,zl,Fg]
  cases e1:lkV v1 s with
  |some v=>simp[h1 v (Fb e1)]
  |none=>
   cases e2:lkV v2 s with
   |none=>rfl
   |some v=>simp[h3 v (Fb e2)]
 match b,h with
 |0,⟨v1,v2,e,h1,h2,h3,_⟩=>subst e;subst h3;exact key v1 [] h1 (h2 s) (λv hv=>by simp at hv)
 |b+1,⟨v1,v2,e,h1,h2,h3⟩=>subst e;exact key v1 v2 h1 (h2 s) (λv hv e=>by have:=h3.blk v hv;omega)
theorem vQ:∀(m:Scp) (s:List UInt8) (n:Nat) (t:List UInt8),gZ (iY m s n) t=if s=t then some n else gZ m t
 |[],s,n,t=>by
  by_cases h:s=t
  ·simp[iY,gZ,h]
  ·simp[iY,gZ,h]
 |x::r,s,n,t=>by
  have ih:=vQ r s n t
  simp only[gZ] at ih
  by_cases hx:x.1=s
  ·by_cases h:s=t
   ·simp[iY,gZ,hx,h]
   ·have:¬x.1=t:=by rw[hx];exact h
    simp[iY,gZ,hx,h]
  ·by_cases ht:x.1=t
   ·have:¬s=t:=λe=>hx (ht.trans e.symm)
    rw[iY,if_neg hx,if_neg this];simp[gZ,ht]
   ·simp only[iY,gZ,if_neg hx,List.find?_cons,ht,decide_false]
    exact ih
theorem SR.add{b:Nat}{vs:List LV}{m:Scp}{up:List Scp}(h:SR g b vs (m::up))(s:List UInt8)(n k:Nat)(hg:g ⟨s,n,b⟩=k):SR g b (⟨s,n,b⟩::vs) (iY m s k::up):=by
 have key:∀v1:List LV,(∀s,(lkV v1 s).map g=gZ m s)->∀t,(lkV (⟨s,n,b⟩::v1) t).map g=gZ (iY m s k) t:=by
  intro v1 h2 t
  rw[vQ]
  by_cases e:s=t
  ·simp[lkV,e,←hg]
  ·rw[if_neg e,←h2 t];simp[lkV,e]
 match b,h with
 |0,⟨v1,v2,e,h1,h2,h3⟩=>
  subst e
  refine⟨⟨s,n,0⟩::v1,v2,rfl,λv hv=>?_,key v1 h2,h3⟩
  rcases Sa.1 hv with rfl|hv
  ·rfl
  ·exact h1 v hv
 |b+1,⟨v1,v2,e,h1,h2,h3⟩=>
  subst e
  refine⟨⟨s,n,b+1⟩::v1,v2,rfl,λv hv=>?_,key v1 h2,h3⟩
  rcases Sa.1 hv with rfl|hv
  ·rfl
  ·exact h1 v hv
theorem SR.open{b:Nat}{vs:List LV}{ch:List Scp}(h:SR g b vs ch):SR g (b+1) vs ([]::ch):=⟨[],vs,rfl,λv hv=>by simp at hv,λs=>rfl,h⟩
theorem SR.base:SR g 0 [] [[]]:=⟨[],[],rfl,λv hv=>by simp at hv,λs=>rfl,rfl,rfl⟩
theorem AE{α:Type}{p:α->Bool}{l:List α}{k:Nat}:(l.take k).findIdx? p=match l.findIdx? p with|some j=>if j<k then some j else none|none=>none:=by
 cases h:l.findIdx? p with
 |none=>
  rw[Sg] at h⊢
  exact λx hx=>h x (Sn hx)
 |some j=>
  rw[RQ] at h
  obtain⟨h1,h2,h3⟩:=h
  simp only
  split
  ·rename_i hj
   rw[RQ]
   exact⟨by rw[RZ];omega,by rw[List.getElem_take];exact h2,λi hi=>by rw[List.getElem_take];exact h3 i hi⟩
  ·rename_i hj
   rw[Sg]
   intro x hx
   obtain⟨i,hi,rfl⟩:=List.mem_take_iff_getElem.1 hx
   simpa using h3 i (by omega)
theorem Ir(fns:List Fd)(k:Nat){vs:List LV}{ch:List Scp}(h:∀s,(lkV vs s).isSome=(ga ch s).isSome)(e:Ex)(c:Int):pg fns k vs e.op e.name e.kids.length c=fU fns k ch c e:=by
 unfold pg fU
 split
 ·rw[←h,ux];cases lkV vs e.name<;>rfl
 ·split
  ·rw[sh,dJ,dJ,AE]
   cases List.findIdx? (λf=>decide (f.name=e.name)) fns with
   |none=>rfl
   |some j=>
    simp only
    by_cases hj:j<k
    ·rw[if_neg (by omega),if_pos hj]
    ·rw[if_pos (by omega),if_neg hj]
  ·rfl
mutual
theorem Md(fns:List Fd)(k:Nat){vs:List LV}{ch:List Scp}(h:∀s,(lkV vs s).isSome=(ga ch s).isSome):∀(e:Ex) (c:Int),CU fns k vs e c=e.pre.foldl (fU fns k ch) c
 | .mk o n s ks,c=>by
   rw[CU,Ex.pre,SB,←vC fns k h ks,←Ir fns k h];rfl
theorem vC(fns:List Fd)(k:Nat){vs:List LV}{ch:List Scp}(h:∀s,(lkV vs s).isSome=(ga ch s).isSome):∀(l:List Ex) (c:Int),dM fns k vs l c=(dO l).foldl (fU fns k ch) c
 |[],c=>rfl
 |e::r,c=>by rw[dM,dO,List.foldl_append,Md fns k h e,vC fns k h r]
end
abbrev g0:LV->Nat:=λ_=>0
theorem NL{b:Nat}{w:WS}{m:Scp}{up:List Scp}(h:SR g0 b w.vs (m::up))(o:Int)(s:List UInt8):SR g0 b (opW o s b w).vs (opS o s m 0::up)/\(opW o s b w).code=opC o s m up w.code:=by
 unfold opW opS opC
 by_cases h1:o=1
 ·simp only[h1,if_true]
  exact⟨h.add s _ 0 rfl,h.put s _⟩
 ·simp only[if_neg h1]
  split
  ·refine⟨h,?_⟩
   have:=h.is s
   simp only[ux]
   rw[←this]
   cases lkV w.vs s<;>rfl
  ·exact⟨h,rfl⟩
theorem Es{d:Nat}{o:Int}{s:List UInt8}{a:List Ex}{bd el:List Sm}(h:aB (d+1) (.mk o s a bd el)=true):bd.all (aB d)=true/\el.all (aB d)=true/\(¬(o=5\/o=6)->bd=[]/\el=[]):=by
 simp only[aB,gF,Sm.op,Sm.body,Sm.els,RK,Bool.or_eq_true,decide_eq_true_eq,List.isEmpty_iff] at h
 refine⟨h.1.2,h.2,λhn=>⟨?_,?_⟩⟩
 ·rcases h.1.1.2 with(h|h)|h
  ·exact h
  ·exact absurd (.inl (of_decide_eq_true h)) hn
  ·exact absurd (.inr (of_decide_eq_true h)) hn
 ·rcases h.1.1.1.2 with h|h
  ·exact h
  ·exact absurd (.inl (of_decide_eq_true h)) hn
theorem Ad(w:WS)(vs:List LV):(w.back vs).code=w.code:=rfl
theorem Na(fns:List Fd)(k:Nat):∀(d b:Nat) (l:List Sm),l.all (aB d)=true->∀(w:WS) (m:Scp) (up:List Scp),SR g0 b w.vs (m::up)->
 SR g0 b (cL fns k b l w).vs ((gA fns k l m up w.code).1::up)/\(cL fns k b l w).code=(gA fns k l m up w.code).2:=by
 intro d
 induction d with
 |zero=>
  intro b l hl w m up h
  cases l with
  |nil=>exact⟨h,rfl⟩
  |cons s r=>simp[aB] at hl
 |succ d ih=>
  have bC:∀(b:Nat) (s:Sm),aB (d+1) s=true->∀(w:WS) (m:Scp) (up:List Scp),SR g0 b w.vs (m::up)->
   SR g0 b (stW fns k b s w).vs ((icS fns k s m up w.code).1::up)/\(stW fns k b s w).code=(icS fns k s m up w.code).2:=by
   intro b s hs w m up h
   obtain⟨o,n,a,bd,el⟩:=s
   obtain⟨f1,f2,f3⟩:=Es hs
   have hc:=vC fns k h.is a w.code
   obtain⟨g1,g2⟩:=NL (w:=⟨w.vs,w.count,dM fns k w.vs a w.code⟩) h o n
   rw[stW,icS]
   simp only[hc] at g1 g2⊢
   generalize hw2:opW o n b ⟨w.vs,w.count,(dO a).foldl (fU fns k (m::up)) w.code⟩=w2 at*
   refine⟨g1,?_⟩
   rw[Ad]
   have g2':w2.code=opC o n m up (DJ fns k (m::up) a w.code):=g2
   rw[←g2']
   by_cases ho:o=5\/o=6
   ·rw[if_pos ho]
    have k1:=ih (b+1) bd f1 w2 [] _ g1.open
    have k2:=ih (b+1) el f2 ((cL fns k (b+1) bd w2).back w2.vs) [] _ g1.open
    rw[k2.2,Ad,k1.2]
   ·obtain⟨rfl,rfl⟩:=f3 ho
    rw[if_neg ho]
    simp[cL,WS.back]
  intro b l
  induction l with
  |nil=>intro _ w m up h;exact⟨h,rfl⟩
  |cons s r ihl=>
   intro hl w m up h
   rw[List.all_cons,RK] at hl
   obtain⟨k1,k2⟩:=bC b s hl.1 w m up h
   have:=ihl hl.2 _ _ up k1
   rw[cL,gA,←k2]
   exact this
theorem FG:∀(ps:List (List UInt8)) (w:WS) (m:Scp),SR g0 0 w.vs [m]->SR g0 0 (cJ ps w).vs [(kW ps m w.code).1]/\(cJ ps w).code=(kW ps m w.code).2
 |[],w,m,h=>⟨h,rfl⟩
 |s::r,w,m,h=>by
  have hp:=h.put s w.code
  have:=FG r (lc w s 0) (iY m s 0) (h.add s w.count 0 rfl)
  simp only[cJ,kW,SB] at this⊢
  rw[←hp]
  exact this
theorem Hx{fns:List Fd}{k:Nat}{ch:List Scp}{c:Int}(h:c≠0)(e:Ex):fU fns k ch c e=c:=by
 unfold fU
 simp only[EW h]
 split
 ·split<;>rfl
 ·split
  ·split
   ·rfl
   ·split<;>rfl
  ·rfl
theorem Ab{fns:List Fd}{k:Nat}{ch:List Scp}{c:Int}(h:c≠0):∀l:List Ex,l.foldl (fU fns k ch) c=c
 |[]=>rfl
 |e::r=>by rw[SB,Hx h,Ab h r]
theorem Hs{o:Int}{s:List UInt8}{m:Scp}{up:List Scp}{c:Int}(h:c≠0):opC o s m up c=c:=by
 unfold opC
 simp only[EW h]
 split
 ·split<;>rfl
 ·split
  ·split<;>rfl
  ·rfl
mutual
theorem HU(fns:List Fd)(k:Nat){c:Int}(h:c≠0):∀(s:Sm) (m:Scp) (up:List Scp),(icS fns k s m up c).2=c
 | .mk o s a bd el,m,up=>by
   rw[icS]
   simp only[DJ,Ab h,Hs h]
   rw[nV fns k h bd,nV fns k h el,ite_self]
theorem nV(fns:List Fd)(k:Nat){c:Int}(h:c≠0):∀(l:List Sm) (m:Scp) (up:List Scp),(gA fns k l m up c).2=c
 |[],m,up=>rfl
 |s::r,m,up=>by rw[gA,HU fns k h s m up,nV fns k h r]
end
theorem Aq{c:Int}(h:c≠0):∀(ps:List (List UInt8)) (m:Scp),(kW ps m c).2=c
 |[],m=>rfl
 |s::r,m=>by
  have:=Aq h r (iY m s 0)
  simp only[kW,SB,EW h,ite_self] at this⊢
  exact this
theorem IU(fns:List Fd)(k:Nat)(f:Fd){c:Int}(h:c≠0):icF fns k f c=c:=by
 simp only[icF,EW h,ite_self]
 rw[Aq h,nV fns k h]
theorem vv(fns:List Fd){c:Int}(h:c≠0):∀(l:List Fd) (k:Nat),jL fns k l c=c
 |[],k=>rfl
 |f::r,k=>by rw[jL,IU fns k f h,vv fns h r]
theorem zT{fns:List Fd}{k:Nat}{f:Fd}(h:fns[k]?=some f):∃j,dJ fns f.name=some j/\j<=k:=by
 cases e:dJ fns f.name with
 |none=>
  rw[dJ,Sg] at e
  have:=e f (RE h)
  simp at this
 |some j=>
  refine⟨j,rfl,?_⟩
  rw[dJ,RQ] at e
  obtain⟨h1,h2,h3⟩:=e
  rcases Sj k j with hk|hk
  ·have:=h3 k hk
   obtain⟨a1,a2⟩:=Ry.1 h
   rw[a2] at this
   simp at this
  ·exact hk
theorem PB(fns:List Fd){k:Nat}{f:Fd}(hf:fns[k]?=some f)(hok:kb f=true):(fnW fns k f).code=icF fns k f 0:=by
 obtain⟨j,e1,e2⟩:=zT hf
 have hb:f.body.all (aB 4)=true:=by simp only[kb,RK] at hok;exact hok.2
 have hc:(if dJ fns f.name=some k then(0:Int) else 2)=if(match dJ fns f.name with|some j=>decide (j<k)|none=>true) then fl 0 2 else 0:=by
  rw[e1]
  by_cases h:j=k
  ·subst h;simp
  ·have:j<k:=by omega
   simp[h,this,fl]
 obtain⟨p1,p2⟩:=FG f.params ⟨[],0,if dJ fns f.name=some k then(0:Int) else 2⟩ [] SR.base
 obtain⟨q1,q2⟩:=Na fns k 4 0 f.body hb _ _ [] p1
 rw[fnW,q2,p2]
 simp only[icF,←hc]
theorem Is(fns:List Fd):∀(l:List Fd) (k:Nat),(∀i,l[i]?=fns[k+i]?)->l.all kb=true->gP fns k l=jL fns k l 0
 |[],k,_,_=>rfl
 |f::r,k,hl,ha=>by
  rw[List.all_cons,RK] at ha
  have h0:fns[k]?=some f:=by have:=hl 0;simpa using this.symm
  have hr:∀i,r[i]?=fns[k+1+i]?:=λi=>by have:=hl (i+1);rw[So] at this;rw[this];congr 1;omega
  rw[gP,jL,PB fns h0 ha.1]
  split
  ·rename_i e;rw[e];exact Is fns r (k+1) hr ha.2
  ·rename_i e;rw[vv fns e]
theorem Et(fns:List Fd):aW fns=if cw fns then jL fns 0 fns 0 else 1:=by
 unfold aW
 split
 ·rename_i h
  simp only[cw,RK] at h
  exact Is fns fns 0 (λi=>by rw[Sy]) h.1.2
 ·rfl
end
section
mutual
def rnS(fns:List Fd)(k b:Nat):Sm->WS->Sm
 | .mk o s a bd el,w=>
   let w2:=opW o s b ⟨w.vs,w.count,dM fns k w.vs a w.code⟩
   .mk o (opN o s w) (jE w.vs a) (gy fns k (b+1) bd w2) (gy fns k (b+1) el ((cL fns k (b+1) bd w2).back w2.vs))
def gy(fns:List Fd)(k b:Nat):List Sm->WS->List Sm
 |[],_=>[]
 |s::r,w=>rnS fns k b s w::gy fns k b r (stW fns k b s w)
end
def oJ:List (List UInt8)->WS->List (List UInt8)
 |[],_=>[]
 |s::r,w=>vnm w.count::oJ r (lc w s 0)
def rnF(fns:List Fd)(k:Nat)(f:Fd):Fd:=
 ⟨f.name,oJ f.params ⟨[],0,if dJ fns f.name=some k then 0 else 2⟩,gy fns k 0 f.body (cJ f.params ⟨[],0,if dJ fns f.name=some k then 0 else 2⟩)⟩
mutual
def Gh:Sm->Nat
 | .mk o _ _ bd el=>(if o=1 then 1 else 0)+po bd+po el
def po:List Sm->Nat
 |[]=>0
 |s::r=>Gh s+po r
end
theorem sU(o:Int)(s:List UInt8)(b:Nat)(w:WS):(opW o s b w).count=w.count+if o=1 then 1 else 0:=by
 unfold opW
 split
 ·rfl
 ·split<;>rfl
mutual
theorem zL(fns:List Fd)(k:Nat):∀(s:Sm) (b:Nat) (w:WS),(stW fns k b s w).count=w.count+Gh s
 | .mk o s a bd el,b,w=>by
   rw[stW,Gh]
   simp only[WS.back]
   rw[gM fns k el,gM fns k bd,sU];show w.count+_+_+_=_
   omega
theorem gM(fns:List Fd)(k:Nat):∀(l:List Sm) (b:Nat) (w:WS),(cL fns k b l w).count=w.count+po l
 |[],b,w=>rfl
 |s::r,b,w=>by rw[cL,po,gM fns k r,zL fns k s];omega
end
mutual
theorem Mh:∀s:Sm,Gh s<=s.cnt
 | .mk o s a bd el=>by
   have:=sC bd
   have:=sC el
   simp only[Gh,Sm.cnt]
   split<;>omega
theorem sC:∀l:List Sm,po l<=dK l
 |[]=>RC _
 |s::r=>by have:=Mh s;have:=sC r;simp only[po,dK];omega
end
theorem tO:∀(ps:List (List UInt8)) (w:WS),(cJ ps w).count=w.count+ps.length
 |[],w=>rfl
 |s::r,w=>by
  have:=tO r (lc w s 0)
  simp only[cJ,SB,RN] at this⊢
  rw[this];simp only[lc];omega
theorem LJ(o:Int)(s:List UInt8)(b:Nat)(w:WS):∃e,(opW o s b w).vs=e++w.vs:=by
 unfold opW
 split
 ·exact⟨[_],rfl⟩
 ·split<;>exact⟨[],rfl⟩
theorem IY(fns:List Fd)(k b:Nat)(o:Int)(s:List UInt8)(a:List Ex)(bd el:List Sm)(w:WS):(stW fns k b (.mk o s a bd el) w).vs=(opW o s b ⟨w.vs,w.count,dM fns k w.vs a w.code⟩).vs:=rfl
theorem CX(fns:List Fd)(k:Nat):∀(l:List Sm) (b:Nat) (w:WS),∃e,(cL fns k b l w).vs=e++w.vs
 |[],b,w=>⟨[],rfl⟩
 | .mk o s a bd el::r,b,w=>by
   obtain⟨e1,h1⟩:=CX fns k r b (stW fns k b (.mk o s a bd el) w)
   obtain⟨e2,h2⟩:=LJ o s b ⟨w.vs,w.count,dM fns k w.vs a w.code⟩
   exact⟨e1++e2,by rw[cL,h1,IY,h2,RT]⟩
theorem NF{o:Int}{s:List UInt8}{b:Nat}{w:WS}(h:w.vs.length<=w.count):(opW o s b w).vs.length<=(opW o s b w).count:=by
 unfold opW
 split
 ·simp[lc,h]
 ·split<;>exact h
theorem Nl(fns:List Fd)(k:Nat){s:Sm}{b:Nat}{w:WS}(h:w.vs.length<=w.count):(stW fns k b s w).vs.length<=(stW fns k b s w).count:=by
 obtain⟨o,n,a,bd,el⟩:=s
 rw[zL,IY]
 have:=NF (o:=o) (s:=n) (b:=b) (w:=⟨w.vs,w.count,dM fns k w.vs a w.code⟩) h
 rw[sU] at this
 simp only[Gh]
 simp only at this
 omega
theorem FJ(fns:List Fd)(k:Nat):∀{l:List Sm} {b:Nat} {w:WS},w.vs.length<=w.count->(cL fns k b l w).vs.length<=(cL fns k b l w).count
 |[],_,_,h=>h
 |s::r,b,w,h=>FJ fns k (l:=r) (Nl fns k h)
mutual
def Sm.pre(d:Nat):Sm->List (Sm × Nat)
 | .mk o s a bd el=>(.mk o s a bd el,d)::(bT (d+1) bd++bT (d+1) el)
def bT(d:Nat):List Sm->List (Sm × Nat)
 |[]=>[]
 |s::r=>Sm.pre d s++bT d r
end
theorem Sm.pre_eq(d:Nat)(s:Sm):s.pre d=(s,d)::(bT (d+1) s.body++bT (d+1) s.els):=by cases s;rfl
theorem pC(d:Nat):∀a b:List Sm,bT d (a++b)=bT d a++bT d b
 |[],b=>rfl
 |s::r,b=>by rw[Sh,bT,bT,pC d r b,RT]
theorem Ex.pre_eq(e:Ex):e.pre=e::dO e.kids:=by cases e;rfl
theorem lp:∀a b:List Ex,dO (a++b)=dO a++dO b
 |[],b=>rfl
 |e::r,b=>by rw[Sh,dO,dO,lp r b,RT]
mutual
theorem Sm.pre_len:∀(s:Sm) (d:Nat),(s.pre d).length=s.cnt
 | .mk o s a bd el,d=>by simp only[Sm.pre,Sm.cnt,RN,RJ,jY bd,jY el];omega
theorem jY:∀(l:List Sm) (d:Nat),(bT d l).length=dK l
 |[],d=>rfl
 |s::r,d=>by simp only[bT,dK,RJ,Sm.pre_len s,jY r]
end
end
section
theorem tG(fns:List Fd):∀(l:List Fd) (k:Nat),gP fns k l=0↔∀(i:Nat) (f:Fd),l[i]?=some f->(fnW fns (k+i) f).code=0
 |[],k=>by simp[gP]
 |f::r,k=>by
  rw[gP]
  have ih:=tG fns r (k+1)
  constructor
  ·intro h i g hg
   by_cases h0:(fnW fns k f).code=0
   ·rw[if_pos h0] at h
    cases i with
    |zero=>cases hg;exact h0
    |succ i=>have:=ih.1 h i g (by simpa using hg);rwa[show k+(i+1)=k+1+i by omega]
   ·rw[if_neg h0] at h;exact absurd h h0
  ·intro h
   rw[if_pos (by have:=h 0 f rfl;rwa[Nat.add_zero] at this)]
   exact ih.2 λi g hg=>by have:=h (i+1) g (by simpa using hg);rwa[show k+(i+1)=k+1+i by omega] at this
theorem Mq(l:List Fd):aW l=0↔cw l=true/\∀(k:Nat) (f:Fd),l[k]?=some f->(fnW l k f).code=0:=by
 unfold aW
 by_cases h:cw l=true
 ·rw[if_pos h,tG];simp[h]
 ·rw[if_neg h];simp[h]
theorem ES(l:List Fd):cw l=true↔(1<=l.length/\l.length<=4)/\(∀f∈l,kb f=true)/\lz l<=40:=by
 simp only[cw,inR,RK,decide_eq_true_eq,RA]
 constructor
 ·rintro⟨⟨⟨h1,h2⟩,h3⟩,h4⟩;exact⟨⟨by omega,by omega⟩,h3,h4⟩
 ·rintro⟨⟨h1,h2⟩,h3,h4⟩;exact⟨⟨⟨by omega,by omega⟩,h3⟩,h4⟩
def Fd.cut(f:Fd)(n:Nat):Fd:=⟨f.name,f.params,f.body.take n⟩
end
section
abbrev Sc5:=List (List UInt8 × Int)
structure S5 where (left:Nat) (said:List Int) (cells:List Int)
inductive O5 (α:Type) where
 |ok (a:α)
 |st (c:Int)
def tr5(b:Bool):Int:=if b then 1 else 0
def EL(op a b:Int):Option Int:=
 if op=3 then some ((a+b)%256) else if op=4 then some ((a-b+256)%256) else if op=5 then some (a*b%256) else if op=8 then some (tr5 (decide (a<b))) else if op=9 then some (tr5 (decide (a=b)))
 else if b=0 then none else if op=6 then some (a/b) else some (a%b)
def S5.put(s:S5)(i:Nat)(n:Int):S5:=⟨s.left,s.said,s.cells.set i n⟩
def S5.at_(s:S5)(F:Nat):S5:=⟨F,s.said,s.cells⟩
def V5(n:Int):Prop:=0<=n/\n<=255
end
section
structure G5 (s:S5):Prop where
 len:s.cells.length=16
 cells:∀c∈s.cells,V5 c
 said:∀c∈s.said,V5 c
def GE5(v:List Sc5):Prop:=∀m∈v,∀x∈m,V5 x.2
theorem rV(b:Bool):V5 (tr5 b):=by cases b<;>simp[tr5,V5]
theorem FN{op a b n:Int}(ha:V5 a)(hb:V5 b)(h:EL op a b=some n):V5 n:=by
 obtain⟨a0,a1⟩:=ha
 obtain⟨b0,b1⟩:=hb
 unfold EL at h
 split at h
 ·cases h;unfold V5;omega
 split at h
 ·cases h;unfold V5;omega
 split at h
 ·cases h
  have:0<=a*b:=Int.mul_nonneg a0 b0
  unfold V5
  generalize a*b=q at*
  omega
 split at h
 ·cases h;exact rV _
 split at h
 ·cases h;exact rV _
 split at h
 ·cases h
 split at h
 ·cases h
  have h1:0<=a/b:=Int.ediv_nonneg a0 b0
  have h2:a/b<=a:=Int.ediv_le_self b a0
  exact⟨h1,by omega⟩
 ·cases h
  rename_i hb0 _
  have h1:0<=a%b:=Int.emod_nonneg a hb0
  have h2:a%b<b:=Int.emod_lt_of_pos a (by omega)
  exact⟨h1,by omega⟩
theorem G5.put{s:S5}(g:G5 s)(i:Nat){n:Int}(hn:V5 n):G5 (s.put i n):=⟨by rw[←g.len];exact SC,λc hc=>by
 rcases List.mem_or_eq_of_mem_set hc with h|h
 ·exact g.cells c h
 ·rw[h];exact hn,g.said⟩
theorem G5.at_{s:S5}(g:G5 s)(F:Nat):G5 (s.at_ F):=⟨g.len,g.cells,g.said⟩
theorem GE5.tail{m:Sc5}{v:List Sc5}(g:GE5 (m::v)):GE5 v:=λq hq=>g q (by simp[hq])
end
section
theorem Ag{a:Ex}(h:gt a=true):aT 6 a=true:=by rw[gt,RK] at h;exact h.1
section
variable {l:List Fd}
end
def s0(fuel:Nat):S5:=⟨fuel,[],List.replicate 16 0⟩
end
section
def S5.dn(s:S5)(c:Nat):S5:=⟨s.left-c,s.said,s.cells⟩
end
section
def S5.pre(s:S5)(t:List Int):S5:=⟨s.left,t++s.said,s.cells⟩
end
section
def ar5(o a b:Int):Option Int:=if o=10 then some (tr5 (decide (a≠0/\b≠0))) else EL o a b
def me(n:Int):Ex:= .mk 1 n [] []
def isN(e:Ex)(n:Int):Bool:=decide (e.op=1)&&decide (e.n=n)
mutual
def cV:Ex->Bool
 | .mk o _ _ ks=> !decide (o=12)&& !decide (o=13)&&(!(decide (o=6)||decide (o=7))||(match ks with|[_,b]=>decide (b.op=1)&& !decide (b.n=0)|_=>false))&&Br ks
def Br:List Ex->Bool
 |[]=>true
 |e::r=>cV e&&Br r
end
def iU(o n:Int)(s:List UInt8)(a:Ex):Ex:=
 if a.op=1 then me (tr5 (decide (a.n=0))) else match a.kids with|[c]=>if a.op=11/\c.op=11 then c else .mk o n s [a]|_=> .mk o n s [a]
def lf(o n:Int)(s:List UInt8)(a b:Ex):Ex:=
 match(if a.op=1/\b.op=1 then ar5 o a.n b.n else none) with
 |some q=>me q
 |none=>
  if o=10/\isN a 0=true then me 0 else if(o=3\/o=4)/\isN b 0=true\/(o=5\/o=6)/\isN b 1=true then a else if o=3/\isN a 0=true\/o=5/\isN a 1=true then b
  else if o=5/\(isN b 0=true/\cV a=true\/isN a 0=true/\cV b=true) then me 0 else .mk o n s [a,b]
def fV(o n:Int)(s:List UInt8)(ks:List Ex):Ex:=
 if o=12\/o=13 then .mk o n s ks else match ks with|[a]=>iU o n s a|[a,b]=>lf o n s a b|ks=> .mk o n s ks
mutual
def dm:Ex->Ex
 | .mk o n s ks=>fV o n s (aX ks)
def aX:List Ex->List Ex
 |[]=>[]
 |e::r=>dm e::aX r
end
theorem isN_iff{e:Ex}{n:Int}:isN e n=true↔e.op=1/\e.n=n:=by simp[isN]
section
variable {l:List Fd}
end
end
section
structure Like (fns fns':List Fd):Prop where
 at_:∀s,dJ fns' s=dJ fns s
 par:∀j,Cn fns' j=Cn fns j
end
section
theorem da{α:Type}{p:α->Bool}{xs:List α}{i:Nat}(h:i<xs.length):(xs.take (i+1)).all p=((xs.take i).all p&&p xs[i]):=by
 rw[aq h,List.all_append];simp
theorem kD{α:Type}{p:α->Bool}{xs:List α}{i:Nat}(h:i<xs.length)(hp:p xs[i]=false):xs.all p=false:=
 List.all_eq_false.2 ⟨_,RB h,by simp[hp]⟩
theorem fw{α:Type}{p:α->Bool}{xs:List α}{i:Nat}(h:xs.length<=i)(ht:(xs.take i).all p=true):xs.all p=true:=by
 rwa[RF h] at ht
def ph:AK:=qT [xJ 2 4,wH] [wU 10 2,qx 11 10,wS 12 il 11,qh 9 12,wM 13 0 9,wM 14 1 9,qh 5 13,qh 6 14] (wq [wu 15,xk 16 15 1,qh 17 16,xe 18 17 0 2,xa 19 17 18,qL 20 17 (xR [.t 19,xO,qm 13]),qL 21 17 (wl 20),xE 22 17 21,qh 23 22,xe 24 23 3 2,xa 25 23 24,qL 26 23 (qY 25),xq 27 23 5,xq 28 23 6,qL 29 23 (xR [.t 26,.t 27,.t 28]),qL 30 23 (wl 29),xE 31 23 30] 31 xM (.cut (.reg [wU 32 2,qx 33 32,wh 34 33 2,qh 35 34,xe 36 35 0 2,xa 37 35 36,xZ 38 35 .eql 37 13,xE 39 35 38,qh 7 39]) (.cut (w7 [qh 40 7,xv 41 2,qx 42 41,wS 43 cn 42,qd 44 (.beq true (.t 40) (.t 43)),qh 45 44,xq 46 45 7,qL 47 45 (wl 46),xq 48 45 47,wG 49 48 2 2,wD 50 48 49,qK 51 48 (xn .neq 50 (.c q8)),qL 52 45 (qI 48 (.t 51) qG),xE 53 45 52,qh 54 53,xe 55 54 1 2,xa 56 54 55,qL 57 54 (xR [.t 56,xf,qm 255]),qL 58 54 (wl 57),xE 59 54 58,qh 60 59,xe 61 60 0 2,xa 62 60 61,xZ 63 60 .neq 62 1,xq 64 60 63,wG 65 64 1 2,wD 66 64 65,xb 67 64 .neq 66 0,qL 68 60 (qI 64 (.t 67) qG),xE 69 60 68] 69 xM) (xI [wA 8] 0 [qh 70 8,xr 71 2,qx 72 71,we 73 72,wy 74 70 73] 74 0 1 (w7 [xr 77 2,qx 78 77,qh 79 8,wc 80 4 78 79,xh 81 80,wu 82,qB 83 .sub 82 1,wL 84 fy 81 83,wY 85 84] 85 xM) (qh 75 8) 76 75 8 76 [x6 4]))))
theorem yW:AK.whole ph=FK.ak ir:=rfl
def pi:AK:=qg [xJ 2 5,wH] (.cut (w7 [wu 7,xk 8 7 1,qh 9 8,xe 10 9 0 2,xa 11 9 10,qL 12 9 (xR [.t 11,xO,qm 8]),qL 13 9 (wl 12),xE 14 9 13,qh 15 14,xe 16 15 2 2,xe 19 15 0 2,xa 17 15 16,qL 18 15 (qY 17),xa 20 15 19,qL 21 15 (.qcall ia (wR 20)),qL 22 15 (qo .neq 18 (.t 21)),xE 23 15 22] 23 xM) (.cut (.reg [wU 24 2,qx 25 24,wh 26 25 1,qh 27 26,xe 28 27 0 2,xa 29 27 28,xZ 30 27 .eql 29 2,xE 31 27 30,qh 5 31]) (.cut (w7 [wN 32,xX 33 2,qx 34 33,wS 35 cn 34,qd 36 (.beq true (.t 32) (.t 35)),qh 37 36,xq 38 37 5,qL 39 37 (wl 38),xq 40 37 39,wG 41 40 1 2,wD 42 40 41,qK 43 40 (xn .neq 42 (.c q8)),qL 44 37 (qI 40 (.t 43) qG),xE 45 37 44] 45 xM) (wB [wA 6] 0 (wW [qh 46 6,xv 47 2,qx 48 47,we 49 48,wy 50 46 49] 50 0 1 (w7 [xv 53 2,qx 54 53,qh 55 6,wc 56 4 54 55,xh 57 56,wS 58 eL 57,wY 59 58] 59 xM) (xy (qh 51 6) 52 51 6 52)) (.cut (w7 [wU 60 2,qx 61 60,wh 62 61 8,qh 63 62,wG 64 63 2 2,wD 65 63 64,qK 66 63 (qH 4 65 xf),wG 67 63 0 66,wD 68 63 67,xb 69 63 .neq 68 13,xp 70 63 69] 70 xM) (.cut (w7 [qv 71 4 2,qx 72 71,we 73 72,qB 74 .gtr 73 0,qh 75 74,wG 76 75 0 2,wD 77 75 76,xb 78 75 .neq 77 5,xp 79 75 78,qh 80 79,xe 81 80 3 2,xa 82 80 81,qL 83 80 (qY 82),xZ 84 80 .gtr 83 0,xq 85 80 84,wG 86 85 0 2,wD 87 85 86,xb 88 85 .neq 87 5,qL 89 80 (qI 85 (.t 88) qG),xq 90 80 89,wG 91 90 0 2,wD 92 90 91,xb 93 90 .neq 92 6,qL 94 80 (qI 90 (.t 93) qG),xE 95 80 94] 95 xM) (qz [xr 96 2,qx 97 96,wu 98,qB 99 .sub 98 1,wL 100 bU 97 99,qh 101 100,wG 102 101 4 2,wD 103 101 102,xD 104 101 1,xb 105 101 .sub 104 1,xC 106 101 bU (wJ 103 (.t 105)),xp 107 101 106,qh 4 107])))))))
theorem zw:AK.whole pi=FK.ak im:=rfl
variable (G:ay)
theorem nF(n lo hi:Int):VF Tryz.prog G iz [.p (.int .i64 n),.p (.int .i64 lo),.p (.int .i64 hi)] (.p (.bool (inR n lo hi))):=by
 refine AC.go BM ?_
 by_cases h:lo<=n
 ·simp-implicitDefEqProofs[nL,h,inR]
 ·simp-implicitDefEqProofs[nL,h,inR]
theorem CL(op:Int):VF Tryz.prog G il [.p (.int .i64 op)] (.tup [.p (.int .i64 (loK op)),.p (.int .i64 (hiK op))]):=by
 refine AC.go zy ?_
 by_cases h1:op=1
 ·subst h1;simp-implicitDefEqProofs[cZ,loK,hiK]
 by_cases h2:op=2
 ·subst h2;simp-implicitDefEqProofs[cZ,loK,hiK]
 by_cases h3:op=11
 ·subst h3;simp-implicitDefEqProofs[cZ,loK,hiK]
 by_cases h4:op=12
 ·subst h4;simp-implicitDefEqProofs[cZ,loK,hiK]
 by_cases h5:op=13
 ·subst h5;simp-implicitDefEqProofs[cZ,loK,hiK]
 simp-implicitDefEqProofs[cZ,loK,hiK,h1,h2,h3,h4,h5]
theorem II:∀(d:Nat) (e:Ex),e.sz<=1099511627776->d<=1000->VF Tryz.prog G fy [.agg (e.cs.map .p),.p (.int .i64 d)] (.p (.bool (aT d e))):=by
 intro d
 induction d with
 |zero=>
  intro e he _
  refine AC.go px ?_
  simp-implicitDefEqProofs[ir,Ex.cs_eq]
  refine(CL G _).use ?_
  simp-implicitDefEqProofs[aT]
 |succ d ih=>
  intro e he hd
  have hsz:=e.sz_eq
  have hkl:=aP e.kids
  refine AC.goK px yW ?_
  have hd1:¬(d:Int)+1<1:=by omega
  have hw:IntKind.i64.wrap ((d:Int)+1-1)=(d:Int):=by rw[show(d:Int)+1-1=d by omega];exact ah (by omega) (by omega)
  have hw':IntKind.i64.wrap (d:Int)=(d:Int):=ah (by omega) (by omega)
  have hxl:∀l,exL l= .lst 4 (l.map Ex.cs):=λ_=>rfl
  simp-implicitDefEqProofs[ph,ir,Ex.cs_eq]
  refine(CL G _).use ?_
  simp-implicitDefEqProofs[hd1]
  refine(nF G _ _ _).use ?_
  by_cases h1:inR e.op 1 13=true
  case neg=>simp-implicitDefEqProofs[h1,aT,iD]
  simp-implicitDefEqProofs[h1,hxl]
  refine(nF G _ _ _).use ?_
  by_cases h2:inR e.kids.length (loK e.op) (hiK e.op)=true
  case neg=>simp-implicitDefEqProofs[h2,aT,iD]
  simp-implicitDefEqProofs[h2]
  refine kN (am 86 [(1,.p (.int .i64 (d+1))),(2,.ptr 0 4 0 0),(7,.p (.bool (Do e.op)))]) [.row 4 [[.p (.int .i64 e.op),.p (.int .i64 e.n),.p (.str e.name),.p (.lst 4 (e.kids.map Ex.cs))]]] ?_ ?_
  ·by_cases o2:e.op=2
   ·simp-implicitDefEqProofs[o2]
    exact ab (by simp) (by simp[okO]) (by simp[below,Do])
   ·by_cases o13:e.op=13
    ·simp-implicitDefEqProofs[o13]
     exact ab (by simp) (by simp[okO]) (by simp[below,Do])
    ·simp-implicitDefEqProofs[o2,o13]
     exact ab (by simp) (by simp[okO]) (by simp[below,Do,o2,o13])
  have hn:e.name.length<=140737488355328:=by omega
  refine ry (λ_:Unit=>am 86 [(1,.p (.int .i64 ((d:Int)+1))),(2,.ptr 0 4 0 0)]) (λ_=>[.row 4 [[.p (.int .i64 e.op),.p (.int .i64 e.n),.p (.str e.name),.p (.lst 4 (e.kids.map Ex.cs))]]]) (λ_=>iD e=true) ?_ ?_
  ·simp-implicitDefEqProofs[]
   refine(rf G _ hn).use ?_
   simp-implicitDefEqProofs[]
   repeat' first
    |(refine(nF G _ _ _).use ?_;simp-implicitDefEqProofs[])
    |(refine aY (λhc=>?_) (λhc=>?_)<;>simp-implicitDefEqProofs[hc])
   all_goals first
    |exact⟨by simp_all [iD],ab (by simp) (by simp[okO]) (by simp[below])⟩
    |simp_all [aT,iD]
  intro _ hh
  simp-implicitDefEqProofs[]
  refine az (λi:Nat=>am 86 [(1,.p (.int .i64 ((d:Int)+1))),(2,.ptr 0 4 0 0),(8,.p (.int .i64 i))]) (λ_=>[.row 4 [[.p (.int .i64 e.op),.p (.int .i64 e.n),.p (.str e.name),.p (.lst 4 (e.kids.map Ex.cs))]]])
   (λi=>i<=e.kids.length/\(e.kids.take i).all (aT d)=true) (λi=>e.kids.length-i) 0 (by simp) (ab (by simp) (by simp[okO]) (by simp[below])) ?_
  intro i ⟨hi,hall⟩
  simp-implicitDefEqProofs[]
  refine aY (λh=>?_) (λh=>?_)
  ·simp at h
   have hg:=Rv h
   have hks:=aC (RB h)
   simp-implicitDefEqProofs[hg,hw']
   refine(ih e.kids[i] (by omega) (by omega)).use ?_
   by_cases hk:aT d e.kids[i]=true
   ·simp-implicitDefEqProofs[hk]
    refine⟨i+1,⟨h,by rw[←RA,da h,hall,hk];rfl⟩,by omega,ab (by simp) (by simp[okO]) ?_⟩
    simp[below,w1 (i:=i) (by omega)]
   ·have hk':aT d e.kids[i]=false:=by simpa using hk
    have hf:aT (d+1) e=false:=by simp only[aT,kD h hk',Bool.and_false]
    simp-implicitDefEqProofs[hk',hf]
  ·simp at h
   have hf:aT (d+1) e=true:=by simp only[aT,fw h hall,hh,Bool.and_self]
   simp-implicitDefEqProofs[hf]
theorem Gq{l:List Ex}{i:Nat}(h:i<l.length):aI (l.take (i+1))=aI (l.take i)+l[i].parts:=by
 rw[aq h,eC];simp[aI]
theorem By(l:List Ex)(i:Nat):aI (l.take i)<=aI l:=by
 have:=eC (l.take i) (l.drop i)
 rw[Si] at this
 omega
theorem GX:∀(k:Nat) (e:Ex),e.sz<=k->k<=1099511627776->VF Tryz.prog G gd [.agg (e.cs.map .p)] (.p (.int .i64 e.parts)):=by
 intro k
 induction k with
 |zero=>intro e he;have:=e.sz_eq;omega
 |succ k ih=>
  intro e he hk
  have hsz:=e.sz_eq
  have hkl:=aP e.kids
  have hpe:=e.parts_eq
  have hpz:=Bw e.kids
  refine AC.go vD ?_
  have hxl:∀l,exL l= .lst 4 (l.map Ex.cs):=λ_=>rfl
  simp-implicitDefEqProofs[nb,Ex.cs_eq,hxl]
  refine az (λi:Nat=>am 21 [(1,.ptr 0 4 0 0),(3,.p (.int .i64 ((1+aI (e.kids.take i):Nat):Int))),(4,.p (.int .i64 i))]) (λ_=>[.row 4 [[.p (.int .i64 e.op),.p (.int .i64 e.n),.p (.str e.name),.p (.lst 4 (e.kids.map Ex.cs))]]])
   (λi=>i<=e.kids.length) (λi=>e.kids.length-i) 0 (by simp) (ab (by simp) (by simp[okO]) (by simp[below,aI])) ?_
  intro i hi
  simp-implicitDefEqProofs[]
  refine aY (λh=>?_) (λh=>?_)
  ·simp at h
   have hg:=Rv h
   have hks:=aC (RB h)
   have hps:=Gq h
   have hple:=By e.kids (i+1)
   simp-implicitDefEqProofs[hg]
   refine(ih e.kids[i] (by omega) (by omega)).use ?_
   have hw:IntKind.i64.wrap (1+(aI (e.kids.take i):Int)+(e.kids[i].parts:Int))=((1+aI (e.kids.take (i+1)):Nat):Int):=by rw[ah (by omega) (by omega)];omega
   simp-implicitDefEqProofs[hw]
   exact⟨i+1,h,by omega,ab (by simp) (by simp[okO]) (by simp[below,w1 (i:=i) (by omega)])⟩
  ·simp at h
   rw[RF h]
   simp-implicitDefEqProofs[]
   omega
theorem Cf(e:Ex)(he:e.sz<=1099511627776):VF Tryz.prog G eL [.agg (e.cs.map .p)] (.p (.bool (gt e))):=by
 refine AC.go tk ?_
 simp-implicitDefEqProofs[lP]
 have h6:=II G 6 e he (by omega)
 refine h6.use ?_
 by_cases h:aT 6 e=true
 ·simp-implicitDefEqProofs[h]
  refine(GX G _ e (RC _) he).use ?_
  simp-implicitDefEqProofs[gt,h]
  omega
 ·simp-implicitDefEqProofs[h,gt]
theorem Iy(op:Int):VF Tryz.prog G ia [.p (.int .i64 op)] (.p (.int .i64 (ku op))):=by
 refine AC.go yX ?_
 by_cases h:op=4
 ·simp-implicitDefEqProofs[kM,h,ku]
 ·simp-implicitDefEqProofs[kM,h,ku]
theorem tP(d:Nat)(hd:d<=1000)(hs:∀s:Sm,s.sz<=1099511627776->VF Tryz.prog G ik [.agg (s.cs.map .p),.p (.int .i64 d)] (.p (.bool (aB d s))))(l:List Sm)(hl:aF l<=1099511627776):
 VF Tryz.prog G bU [.p (smL l),.p (.int .i64 d)] (.p (.bool (l.all (aB d)))):=by
 refine AC.go vH ?_
 have hll:=bi l
 have hsl:∀l,smL l= .lst 5 (l.map Sm.cs):=λ_=>rfl
 simp-implicitDefEqProofs[nj]
 refine az (λi:Nat=>am 19 [(0,.p (smL l)),(1,.p (.int .i64 d)),(5,.p (.int .i64 i))]) (λ_=>[]) (λi=>i<=l.length/\(l.take i).all (aB d)=true) (λi=>l.length-i) 0 (by simp) (aK rfl (by simp[below,hsl])) ?_
 intro i ⟨hi,hall⟩
 simp-implicitDefEqProofs[hsl]
 refine aY (λh=>?_) (λh=>?_)
 ·simp at h
  have hg:=Rv h
  have hks:=aQ (RB h)
  simp-implicitDefEqProofs[hg]
  refine(hs l[i] (by omega)).use ?_
  by_cases hk:aB d l[i]=true
  ·simp-implicitDefEqProofs[hk]
   exact⟨i+1,⟨h,by rw[←RA,da h,hall,hk];rfl⟩,by omega,aK rfl (by simp[below,hsl,w1 (i:=i) (by omega)])⟩
  ·have hk':aB d l[i]=false:=by simpa using hk
   have hf:=kD h hk'
   simp-implicitDefEqProofs[hk',hf]
 ·simp at h
  have hf:=fw h hall
  simp-implicitDefEqProofs[hf]
theorem Id:∀(d:Nat),d<=1000->∀s:Sm,s.sz<=1099511627776->VF Tryz.prog G ik [.agg (s.cs.map .p),.p (.int .i64 d)] (.p (.bool (aB d s))):=by
 intro d
 induction d with
 |zero=>
  intro _ s _
  refine AC.go oT ?_
  simp-implicitDefEqProofs[im,Sm.cs_eq,aB]
 |succ d ih=>
  intro hd s he
  have hsz:=s.sz_eq
  have hal:=aP s.args
  have hbl:=bi s.body
  have hel:=bi s.els
  have ihs:=tP G d (by omega) (ih (by omega))
  refine AC.goK oT zw ?_
  have hd1:¬(d:Int)+1<1:=by omega
  have hw':IntKind.i64.wrap (d:Int)=(d:Int):=ah (by omega) (by omega)
  have hxl:∀l,exL l= .lst 4 (l.map Ex.cs):=λ_=>rfl
  have hsl:∀l,smL l= .lst 5 (l.map Sm.cs):=λ_=>rfl
  have hn:s.name.length<=140737488355328:=by omega
  simp-implicitDefEqProofs[pi,im,Sm.cs_eq]
  generalize hH:[AO.row 5 [[AV.p (.int .i64 s.op),.p (.str s.name),.p (exL s.args),.p (smL s.body),.p (smL s.els)]]]=H
  have hho:∀o∈H,okO H.length o:=by rw[←hH];simp[okO]
  have hhl:0<H.length:=by rw[←hH];simp
  have hh0:H[0]?=some (AO.row 5 [[AV.p (.int .i64 s.op),.p (.str s.name),.p (exL s.args),.p (smL s.body),.p (smL s.els)]]):=by rw[←hH];rfl
  have hhL:H.length=1:=by rw[←hH];rfl
  refine ry (λ_:Unit=>am 108 [(1,.p (.int .i64 ((d:Int)+1))),(2,.ptr 0 5 0 0)]) (λ_=>H) (λ_=>inR s.op 1 8=true/\s.args.length=ku s.op) ?_ ?_
  ·simp-implicitDefEqProofs[hd1,hh0]
   refine(nF G _ _ _).use ?_
   by_cases h1:inR s.op 1 8=true
   case neg=>simp-implicitDefEqProofs[h1,aB,gF]
   simp-implicitDefEqProofs[h1,hh0,hxl]
   refine(Iy G _).useQ ?_
   by_cases h2:s.args.length=ku s.op
   ·simp-implicitDefEqProofs[h2]
    exact ab (by omega) hho (by simp[below,hhl])
   ·have h2':¬(s.args.length:Int)=(ku s.op:Int):=by omega
    simp-implicitDefEqProofs[h2,h2',aB,gF]
  intro _ ⟨h1,h2⟩
  refine ry (λ_:Unit=>am 108 [(1,.p (.int .i64 ((d:Int)+1))),(2,.ptr 0 5 0 0),(5,.p (.bool (cI s.op)))]) (λ_=>H) (λ_=>True) ?_ ?_
  ·simp-implicitDefEqProofs[hh0]
   by_cases o1:s.op=1
   ·simp-implicitDefEqProofs[o1,hh0,cI]
    exact ab (by omega) hho (by simp[below,hhl])
   ·by_cases o2:s.op=2
    ·simp-implicitDefEqProofs[o2,hh0,cI]
     exact ab (by omega) hho (by simp[below,hhl])
    ·simp-implicitDefEqProofs[o1,o2,hh0,cI]
     exact ab (by omega) hho (by simp[below,hhl])
  intro _ _
  refine ry (λ_:Unit=>am 108 [(1,.p (.int .i64 ((d:Int)+1))),(2,.ptr 0 5 0 0)]) (λ_=>H) (λ_=>(cI s.op==aD s.name)=true/\(cI s.op||decide (s.name=[]))=true) ?_ ?_
  ·simp-implicitDefEqProofs[hh0]
   refine(rf G _ hn).use ?_
   simp-implicitDefEqProofs[hh0]
   repeat' first
    |(refine aY (λhc=>?_) (λhc=>?_)<;>simp-implicitDefEqProofs[hc,hh0])
   all_goals first
    |exact ab (by omega) hho (by simp[below,hhl])
    |exact⟨by simp_all,by simp_all,ab (by omega) hho (by simp[below,hhl])⟩
    |exact⟨by simp_all,ab (by omega) hho (by simp[below,hhl])⟩
    |(simp_all [aB,gF];done)
  intro _ ⟨h3,h4⟩
  simp-implicitDefEqProofs[]
  refine az (λi:Nat=>am 108 [(1,.p (.int .i64 ((d:Int)+1))),(2,.ptr 0 5 0 0),(6,.p (.int .i64 i))]) (λ_=>H) (λi=>i<=s.args.length/\(s.args.take i).all gt=true) (λi=>s.args.length-i) 0 (by simp) (ab (by omega) hho (by simp[below,hhl])) ?_
  intro i ⟨hi,hall⟩
  simp-implicitDefEqProofs[hh0,hxl]
  refine aY (λh=>?_) (λh=>?_)
  ·simp at h
   have hg:=Rv h
   have hks:=aC (RB h)
   simp-implicitDefEqProofs[hg,hh0,hxl]
   refine(Cf G s.args[i] (by omega)).use ?_
   by_cases hk:gt s.args[i]=true
   ·simp-implicitDefEqProofs[hk]
    exact⟨i+1,⟨h,by rw[←RA,da h,hall,hk];rfl⟩,by omega,ab (by omega) hho (by simp[below,hhl,w1 (i:=i) (by omega)])⟩
   ·have hk':gt s.args[i]=false:=by simpa using hk
    have hf:aB (d+1) s=false:=by simp only[aB,gF,kD h hk',Bool.and_false,Bool.false_and]
    simp-implicitDefEqProofs[hk',hf]
  simp at h
  have h5:s.args.all gt=true:=fw h hall
  have hlen1:1<=s.args.length:=by rw[h2];unfold ku;split<;>omega
  obtain⟨a0,ar,ha⟩:∃a r,s.args=a::r:=by
   cases hh:s.args with
   |nil=>rw[hh] at hlen1;simp at hlen1
   |cons a r=>exact⟨a,r,rfl⟩
  have ha0:s.args[0]?=some a0:=by rw[ha];rfl
  refine ry (λ_:Unit=>am 108 [(1,.p (.int .i64 ((d:Int)+1))),(2,.ptr 0 5 0 0)]) (λ_=>H) (λ_=>(!decide (s.op=8)||decide (a0.op=13))=true) ?_ ?_
  ·simp-implicitDefEqProofs[hh0]
   by_cases o8:s.op=8
   ·have hae:=a0.cs_eq
    simp-implicitDefEqProofs[o8,hh0,hxl,ha0,hae]
    refine aY (λhc=>?_) (λhc=>?_)
    ·simp at hc
     have hf:aB (d+1) s=false:=by simp[aB,gF,o8,ha,hc]
     simp-implicitDefEqProofs[hf]
    ·simp at hc
     simp-implicitDefEqProofs[hc]
     exact ab (by omega) hho (by simp[below,hhl])
   ·simp-implicitDefEqProofs[o8,hh0]
    exact ab (by omega) hho (by simp[below,hhl])
  intro _ h6
  refine ry (λ_:Unit=>am 108 [(1,.p (.int .i64 ((d:Int)+1))),(2,.ptr 0 5 0 0)]) (λ_=>H) (λ_=>(s.els.isEmpty||decide (s.op=5))=true/\(s.body.isEmpty||decide (s.op=5)||decide (s.op=6))=true) ?_ ?_
  ·have hf:¬((s.els.isEmpty||decide (s.op=5))=true/\(s.body.isEmpty||decide (s.op=5)||decide (s.op=6))=true)->aB (d+1) s=false:=λh=>by
    have:gF s=false:=by
     cases hx:gF s with
     |false=>rfl
     |true=>refine absurd ?_ h;simp only[gF,RK] at hx;exact⟨hx.1.2,hx.2⟩
    simp[aB,this]
   have pe:¬s.els=[]->0<s.els.length:=List.length_pos_iff.2
   have pb:¬s.body=[]->0<s.body.length:=List.length_pos_iff.2
   by_cases o5:s.op=5
   ·simp-implicitDefEqProofs[hh0,hsl,o5]
    repeat' first
     |(refine aY (λhc=>?_) (λhc=>?_)<;>simp-implicitDefEqProofs[hc,hh0,hsl,o5])
    all_goals exact ab (by omega) hho (by simp[below,hhl])
   by_cases e1:s.els=[]
   case neg=>
    have hf:=hf (by simp[e1,o5])
    have:=pe e1
    simp-implicitDefEqProofs[hh0,hsl,o5,e1,this,hf]
   by_cases e2:s.body=[]
   ·simp-implicitDefEqProofs[hh0,hsl,o5,e1,e2]
    exact ab (by omega) hho (by simp[below,hhl])
   have:=pb e2
   by_cases o6:s.op=6
   ·simp-implicitDefEqProofs[hh0,hsl,o6,e1,e2,this]
    exact ab (by omega) hho (by simp[below,hhl])
   ·have hf:=hf (by simp[e2,o5,o6])
    simp-implicitDefEqProofs[hh0,hsl,o5,o6,e1,e2,this,hf]
  intro _ ⟨h7,h8⟩
  have hm:(match s.args with|a::_=>decide (a.op=13)|[]=>false)=decide (a0.op=13):=by rw[ha]
  have hhd:gF s=true:=by
   have h6':(!decide (s.op=8)||(match s.args with|a::_=>decide (a.op=13)|[]=>false))=true:=by rw[hm];exact h6
   have h2':decide (s.args.length=ku s.op)=true:=by simp[h2]
   simp only[gF,h1,h2',h3,h4,h5,h7,h8,Bool.and_self,Bool.and_true,Bool.true_and]
   exact h6'
  simp-implicitDefEqProofs[hh0,hw']
  refine(ihs s.body (by omega)).use ?_
  by_cases hB:s.body.all (aB d)=true
  ·simp only[hB]
   simp-implicitDefEqProofs[hh0,hw']
   refine(ihs s.els (by omega)).use ?_
   have hf:aB (d+1) s=s.els.all (aB d):=by simp only[aB,hhd,hB,Bool.true_and]
   rw[hf]
   generalize s.els.all (aB d)=w
   simp-implicitDefEqProofs[]
  ·have hB':s.body.all (aB d)=false:=by simpa using hB
   have hf:aB (d+1) s=false:=by simp only[aB,hB',Bool.and_false,Bool.false_and]
   simp only[hB',hf]
   simp-implicitDefEqProofs[]
theorem Ga(d:Nat)(hd:d<=1000)(l:List Sm)(hl:aF l<=1099511627776):VF Tryz.prog G bU [.p (smL l),.p (.int .i64 d)] (.p (.bool (l.all (aB d)))):=
 tP G d hd (Id G d hd) l hl
theorem Nm(f:Fd)(hf:f.sz<=1099511627776):VF Tryz.prog G mY [.agg (f.cs.map .p)] (.p (.bool (kb f))):=by
 refine AC.go DD ?_
 have hsz:f.sz=1+f.name.length+(f.params.length+(f.params.map List.length).sum)+aF f.body:=rfl
 have hps:∀x∈f.params,x.length<=(f.params.map List.length).sum:=λx hx=>by
  have key:∀l:List (List UInt8),x∈l->x.length<=(l.map List.length).sum:=by
   intro l
   induction l with
   |nil=>intro h;cases h
   |cons y r ih=>
    intro h
    simp only[Sb,List.sum_cons]
    rcases Sa.1 h with rfl|h
    ·omega
    ·have:=ih h;omega
  exact key _ hx
 have hst:aE f.params= .lst 1 (f.params.map λw=>[.str w]):=rfl
 have h4:=Ga G 4 (by omega) f.body (by omega)
 simp-implicitDefEqProofs[ug,Fd.cs,hst]
 refine az (λi:Nat=>am 32 [(1,.ptr 0 3 0 0),(3,.p (.int .i64 i))]) (λ_=>[.row 3 [[.p (.str f.name),.p (aE f.params),.p (smL f.body)]]]) (λi=>i<=f.params.length/\(f.params.take i).all aD=true) (λi=>f.params.length-i) 0 (by simp) (ab (by simp) (by simp[okO]) (by simp[below])) ?_
 intro i ⟨hi,hall⟩
 simp-implicitDefEqProofs[hst]
 refine aY (λh=>?_) (λh=>?_)
 ·simp at h
  have hg:=Rv h
  have hl:=hps _ (RB h)
  simp-implicitDefEqProofs[hg]
  refine(rf G _ (by omega)).use ?_
  by_cases hk:aD f.params[i]=true
  ·simp-implicitDefEqProofs[hk]
   exact⟨i+1,⟨h,by rw[←RA,da h,hall,hk];rfl⟩,by omega,ab (by simp) (by simp[okO]) (by simp[below,w1 (i:=i) (by omega)])⟩
  ·have hk':aD f.params[i]=false:=by simpa using hk
   have hff:kb f=false:=by simp only[kb,kD h hk',Bool.false_and]
   simp-implicitDefEqProofs[hk',hff]
 ·simp at h
  have h1:f.params.all aD=true:=fw h hall
  simp-implicitDefEqProofs[]
  refine(rf G _ (by omega)).use ?_
  by_cases h2:aD f.name=true
  case neg=>
   have h2':aD f.name=false:=by simpa using h2
   simp-implicitDefEqProofs[h2',kb]
  simp-implicitDefEqProofs[h2]
  by_cases h3:f.params.length<=3
  case neg=>
   have h3':¬(f.params.length:Int)<=3:=by omega
   simp-implicitDefEqProofs[h3,h3',kb]
  have h3':(f.params.length:Int)<=3:=by omega
  simp-implicitDefEqProofs[h3']
  refine h4.use ?_
  have hff:kb f=f.body.all (aB 4):=by simp only[kb,h1,h2,h3,decide_true,Bool.true_and]
  rw[hff]
  generalize f.body.all (aB 4)=w
  simp-implicitDefEqProofs[]
theorem Gr{l:List Sm}{i:Nat}(h:i<l.length):dK (l.take (i+1))=dK (l.take i)+l[i].cnt:=by
 rw[aq h,nn];simp[dK]
theorem sn(l:List Sm)(i:Nat):dK (l.take i)<=dK l:=by
 have:=nn (l.take i) (l.drop i)
 rw[Si] at this
 omega
def kE(l:List Sm)(i:Nat):Nat:=l.length+((l.take i).map λs=>dK s.body+dK s.els).sum
theorem Eu(l:List Sm):kE l 0=l.length:=by simp[kE]
theorem yU{l:List Sm}{i:Nat}(h:i<l.length):kE l (i+1)=kE l i+dK l[i].body+dK l[i].els:=by
 rw[kE,kE,aq h,Sw,List.sum_append]
 simp only[Sb,List.map_nil,List.sum_cons,List.sum_nil]
 omega
theorem tq(l:List Sm):∀i,i<=l.length->dK (l.take i)+l.length=i+kE l i
 |0,_=>by simp[dK,kE]
 |i+1,h=>by
  have:=tq l i (by omega)
  rw[Gr (by omega),yU (by omega),(l[i]'(by omega)).cnt_eq]
  omega
theorem GJ:∀(k:Nat) (l:List Sm),aF l<=k->k<=1099511627776->VF Tryz.prog G eE [.p (smL l)] (.p (.int .i64 (dK l))):=by
 intro k
 induction k with
 |zero=>
  intro l hl _
  have:l=[]:=by
   cases l with
   |nil=>rfl
   |cons s r=>have:=s.sz_eq;simp only[aF] at hl;omega
  subst this
  refine AC.go mZ ?_
  have hsl:smL []= .lst 5 []:=rfl
  simp-implicitDefEqProofs[jq,hsl]
  refine az (λ_:Unit=>am 29 [(0,.p (.lst 5 [])),(3,.p (.int .i64 0)),(4,.p (.int .i64 0))]) (λ_=>[]) (λ_=>True) (λ_=>0) () trivial (aK rfl (by simp[below])) ?_
  intro _ _
  simp-implicitDefEqProofs[dK]
 |succ k ih=>
  intro l hl hk
  have hll:=bi l
  have hnz:=oe l
  refine AC.go mZ ?_
  have hsl:∀l,smL l= .lst 5 (l.map Sm.cs):=λ_=>rfl
  simp-implicitDefEqProofs[jq,hsl]
  refine az (λi:Nat=>am 29 [(0,.p (smL l)),(3,.p (.int .i64 (kE l i))),(4,.p (.int .i64 i))]) (λ_=>[]) (λi=>i<=l.length) (λi=>l.length-i) 0 (by simp) (aK rfl (by simp[below,hsl,Eu])) ?_
  intro i hi
  have k0:=tq l i hi
  have k2:=sn l i
  simp-implicitDefEqProofs[hsl]
  refine aY (λh=>?_) (λh=>?_)
  ·simp at h
   have hg:=Rv h
   have hks:=aQ (RB h)
   have hse:=l[i].sz_eq
   have hce:=l[i].cs_eq
   have k1:=yU h
   have k3:=tq l (i+1) h
   have k4:=sn l (i+1)
   simp-implicitDefEqProofs[hg,hce]
   refine(ih l[i].body (by omega) (by omega)).use ?_
   simp-implicitDefEqProofs[hg,hce]
   refine(ih l[i].els (by omega) (by omega)).use ?_
   have w1':IntKind.i64.wrap ((kE l i:Int)+(dK l[i].body:Int))=(kE l i:Int)+(dK l[i].body:Int):=ah (by omega) (by omega)
   have w2':IntKind.i64.wrap ((kE l i:Int)+(dK l[i].body:Int)+(dK l[i].els:Int))=(kE l (i+1):Int):=by rw[ah (by omega) (by omega)];omega
   simp-implicitDefEqProofs[w1',w2']
   exact⟨i+1,h,by omega,aK rfl (by simp[below,hsl,w1 (i:=i) (by omega)])⟩
  ·simp at h
   rw[RF h] at k0
   have:kE l i=dK l:=by omega
   simp-implicitDefEqProofs[this]
theorem dr:∀{l:List Fd} {f:Fd},f∈l->f.sz<=bt l
 |x::r,e,h=>by
  simp only[bt,Sb,List.sum_cons]
  rcases Sa.1 h with rfl|h
  ·omega
  ·have:=dr h;simp only[bt] at this;omega
theorem cU:∀l:List Fd,l.length<=bt l
 |[]=>RC _
 |e::r=>by have:=cU r;simp only[bt,Sb,List.sum_cons,RN] at this⊢;have:1<=e.sz:=by unfold Fd.sz;omega
           omega
def yc(l:List Fd)(i:Nat):Nat:=lz (l.take i)
theorem Gx{l:List Fd}{i:Nat}(h:i<l.length):yc l (i+1)=yc l i+dK l[i].body:=by
 rw[yc,yc,lz,lz,aq h,Sw,List.sum_append];simp
theorem Bv:∀l:List Fd,lz l<=bt l
 |[]=>RC _
 |f::r=>by
  have:=Bv r
  have h2:=oe f.body
  simp only[lz,bt,Sb,List.sum_cons] at this⊢
  have:aF f.body<=f.sz:=by unfold Fd.sz;omega
  omega
theorem KL(l:List Fd)(i:Nat):yc l i<=bt l:=by
 have h1:=Bv (l.take i)
 have h2:bt (l.take i)<=bt l:=by
  have:bt l=bt (l.take i)+bt (l.drop i):=by
   rw[←Si i l,bt,Sw,List.sum_append];simp[bt]
  omega
 exact Nat.le_trans h1 h2
theorem Lz(l:List Fd)(hl:bt l<=1099511627776):VF Tryz.prog G lZ [.agg [.p (fdL l)]] (.p (.int .i64 (lz l))):=by
 refine AC.go AA ?_
 have hll:=cU l
 have hfl:∀l,fdL l= .lst 3 (l.map Fd.cs):=λ_=>rfl
 simp-implicitDefEqProofs[rW]
 refine az (λi:Nat=>am 22 [(1,.ptr 0 1 0 0),(3,.p (.int .i64 (yc l i))),(4,.p (.int .i64 i))]) (λ_=>[.row 1 [[.p (fdL l)]]]) (λi=>i<=l.length) (λi=>l.length-i) 0 (by simp) (ab (by simp) (by simp[okO]) (by simp[below,yc,lz])) ?_
 intro i hi
 simp-implicitDefEqProofs[hfl]
 refine aY (λh=>?_) (λh=>?_)
 ·simp at h
  have hg:=Rv h
  have hks:=dr (RB h)
  have hse:l[i].sz=1+l[i].name.length+(l[i].params.length+(l[i].params.map List.length).sum)+aF l[i].body:=rfl
  have hce:l[i].cs=[.str l[i].name,aE l[i].params,smL l[i].body]:=rfl
  have k1:=Gx h
  have k2:=KL l (i+1)
  simp-implicitDefEqProofs[hg,hce]
  refine(GJ G _ l[i].body (RC _) (by omega)).use ?_
  have w1':IntKind.i64.wrap ((yc l i:Int)+(dK l[i].body:Int))=(yc l (i+1):Int):=by rw[ah (by omega) (by omega)];omega
  simp-implicitDefEqProofs[w1']
  exact⟨i+1,h,by omega,ab (by simp) (by simp[okO]) (by simp[below,w1 (i:=i) (by omega),hfl])⟩
 ·simp at h
  have:yc l i=lz l:=by rw[yc,RF h]
  simp-implicitDefEqProofs[this]
theorem vK(l:List Fd)(hl:bt l<=1099511627776):VF Tryz.prog G fb [.agg [.p (fdL l)]] (.p (.bool (cw l))):=by
 refine AC.go oO ?_
 have hfl:∀l,fdL l= .lst 3 (l.map Fd.cs):=λ_=>rfl
 have hall:=Lz G l hl
 have hll:=cU l
 rw[hfl] at hall
 simp-implicitDefEqProofs[iO,hfl]
 refine(nF G _ _ _).use ?_
 by_cases h1:inR l.length 1 4=true
 case neg=>simp-implicitDefEqProofs[h1,cw]
 simp-implicitDefEqProofs[h1]
 refine az (λi:Nat=>am 26 [(1,.ptr 0 1 0 0),(3,.p (.int .i64 i))]) (λ_=>[.row 1 [[.p (.lst 3 (l.map Fd.cs))]]]) (λi=>i<=l.length/\(l.take i).all kb=true) (λi=>l.length-i) 0 (by simp) (ab (by simp) (by simp[okO]) (by simp[below])) ?_
 intro i ⟨hi,ha⟩
 simp-implicitDefEqProofs[]
 refine aY (λh=>?_) (λh=>?_)
 ·simp at h
  have hg:=Rv h
  have hks:=dr (RB h)
  simp-implicitDefEqProofs[hg]
  refine(Nm G l[i] (by omega)).use ?_
  by_cases hk:kb l[i]=true
  ·simp-implicitDefEqProofs[hk]
   exact⟨i+1,⟨h,by rw[←RA,da h,ha,hk];rfl⟩,by omega,ab (by simp) (by simp[okO]) (by simp[below,w1 (i:=i) (by omega)])⟩
  ·have hk':kb l[i]=false:=by simpa using hk
   have hff:cw l=false:=by simp only[cw,kD h hk',Bool.and_false,Bool.false_and]
   simp-implicitDefEqProofs[hk',hff]
 ·simp at h
  have h2:l.all kb=true:=fw h ha
  simp-implicitDefEqProofs[]
  refine hall.use ?_
  have hff:cw l=decide (lz l<=40):=by simp only[cw,h1,h2,Bool.true_and]
  simp-implicitDefEqProofs[hff]
  omega
end
section
theorem fH{n:Nat}{h h1:List AO}(e:h.take n=h1)(hn:h1.length=n)(ho:∀o∈h1,okO n o):Fst n h h1:=by
 have hl:n<=h.length:=by
  have:=congrArg List.length e
  rw[RZ] at this;omega
 have hg:∀(i:Nat) (o:AO),h1[i]?=some o->h[i]?=some o:=λi o hi=>by
  have h2:=(Ry.1 hi).1
  rw[←e,List.getElem?_take_of_lt (by omega)] at hi
  exact hi
 exact⟨hn,hl,λi sz es hi=>⟨hg _ _ hi,ho _ (RE hi)⟩,λi es hi=>⟨hg _ _ hi,ho _ (RE hi)⟩,λi s p hi=>hg _ _ hi⟩
theorem Ac:∀(r:List AO) (s:Nat),((iS (List.range' s r.length++[0]) (r++[.dead])).Nodup/\∀i∈iS (List.range' s r.length++[0]) (r++[.dead]),s<=i)
 |[],s=>by simp[iS]
 |o::r,s=>by
  obtain⟨h1,h2⟩:=Ac r (s+1)
  rw[RN,List.range'_succ]
  cases o with
  |dead=>exact⟨h1,λi hi=>Nat.le_of_succ_le (h2 i hi)⟩
  |_=>exact⟨Sr.2 ⟨λhm=>absurd (h2 _ hm) (by omega),h1⟩,λi hi=>by
   rcases Sa.1 hi with rfl|hi
   ·exact RC _
   ·exact Nat.le_of_succ_le (h2 i hi)⟩
theorem Cp{h:List AO}(hp:0<h.length)(ho:∀o∈h,okO h.length o):∀(r:List AO) (s:Nat),(∀i:Nat,r[i]?=h[s+i]?)->s+r.length=h.length->HW (List.range' 0 h.length++[0]) h (List.range' s r.length++[0]) (r++[.dead])
 |[],s,_,_=>ij hp bJ
 |o::r,s,hr,hs=>by
  have hσ:∀i,i<h.length->(List.range' 0 h.length++[0]).getD i 0=i:=λi hi=>by
   rw[RD,Rz (by simp;exact hi)];simp[hi]
  rw[RN,List.range'_succ]
  have h0:=hr 0
  have ih:=Cp hp ho r (s+1) (λi=>by have:=hr (i+1);rw[So] at this;rw[this];congr 1;omega) (by simp at hs;omega)
  have hm:h[s]?=some o:=by simpa using h0.symm
  have hok:=ho o (RE hm)
  cases o with
  |dead=>exact ij (Ry.1 hm).1 ih
  |row sz es=>
   refine iV (λx hx=>aw (by simp) _ (hok x hx)) ?_ ih
   rw[hm,RO (g:=id) λx hx=>gm hσ x (hok x hx)];simp
  |mp es=>exact⟨(Ry.1 hm).1,⟨λx hx=>by exact(aw (by simp) [x.2] ⟨hok x hx,trivial⟩).1,by rw[hm,RO (g:=id) λx hx=>by rw[kx hσ x.2 (hok x hx)];rfl];simp⟩,ih⟩
  |sit s p=>exact⟨(Ry.1 hm).1,hm,ih⟩
theorem CI{m:Nat}{l:List (Nat × AV)}:∀r:List (Nat × AV),FgA m l r->TWA (List.range' 0 m++[0]) l r
 |[],_=>trivial
 |x::r,⟨⟨a,c⟩,d⟩=>by
  have hσ:∀i,i<m->(List.range' 0 m++[0]).getD i 0=i:=λi hi=>by
   rw[RD,Rz (by simp;exact hi)];simp[hi]
  exact⟨⟨(aw (by simp) [x.2] ⟨a,trivial⟩).1,by rw[kx hσ _ a,c]⟩,CI r d⟩
theorem vR{k n:Nat}{l l1:List (Nat × AV)}{h:List AO}(hk:k<=h.length)(hp:0<h.length)(ho:∀o∈h,okO h.length o)(H:FgA h.length l l1):Wk k (am n l) h (am n l1) (h++[.dead]):=by
 have hσ:∀i,i<h.length->(List.range' 0 h.length++[0]).getD i 0=i:=λi hi=>by
  rw[RD,Rz (by simp;exact hi)];simp[hi]
 refine EZ (List.range' 0 h.length++[0]) (by simp;omega) (λi hi=>hσ i (by omega)) ?_ ?_ (CI _ H)
 ·exact(Ac h 0).1
 ·exact Cp hp ho h 0 (λi=>by simp) (by simp)
def dv(fns:List Fd):List (List AV):=fns.map λf=>f.cs.map .p
theorem je(fns:List Fd):∀x∈dv fns,an 0 x:=by
 intro x hx;obtain⟨m,_,rfl⟩:=RP.1 hx;simp
theorem cM{n:Nat}{o:AO}(h:okO 0 o):okO n o:=by
 cases o with
 |dead=>trivial
 |sit=>trivial
 |row sz es=>exact λe he=>aw (SD _) _ (h e he)
 |mp es=>exact λe he=>(aw (SD n) [e.2] ⟨h e he,trivial⟩).1
def exR(l:List Ex):List (List AV):=l.map λe=>e.cs.map .p
theorem lL(l:List Ex):∀x∈exR l,an 0 x:=by
 intro x hx;obtain⟨m,_,rfl⟩:=RP.1 hx;simp
def smR(l:List Sm):List (List AV):=l.map λs=>s.cs.map .p
theorem bv(l:List Sm):∀x∈smR l,an 0 x:=by
 intro x hx;obtain⟨m,_,rfl⟩:=RP.1 hx;simp
theorem BA(l:List Sm):(smR l).length=l.length:=by simp[smR]
theorem AT(a b:List Sm):smR (a++b)=smR a++smR b:=by simp[smR]
theorem lF{h:List AO}{id:Nat}{l:List Sm}(e:h[id]?=some (.row 5 (smR l))):View h (.sl id 5 0 l.length) (smL l):=by
 have:=iA (h:=h) (id:=id) (sz:=5) (n:=l.length) (ls:=l.map Sm.cs) (by rw[e,smR];simp) (by simp) (λx hx=>by obtain⟨b,_,rfl⟩:=RP.1 hx;exact b.cs_len)
 exact this
theorem ee{n:Nat}:∀o∈([]:List AO),okO n o:=λo h=>by cases h
theorem al{n:Nat}{a:AO}{l:List AO}(h:okO n a)(r:∀o∈l,okO n o):∀o∈a::l,okO n o:=λo ho=>by
 rcases Sa.1 ho with rfl|ho
 ·exact h
 ·exact r o ho
end
section
variable (G:ay)
theorem mQ(n lo hi:Int):VF Tryz.prog G dV [.p (.int .i64 n),.p (.int .i64 lo),.p (.int .i64 hi)] (.p (.bool (inR n lo hi))):=by
 refine AC.go zb ?_
 by_cases h:lo<=n
 ·simp-implicitDefEqProofs[kK,h,inR]
 ·simp-implicitDefEqProofs[kK,h,inR]
theorem JI(n:Int):VF Tryz.prog G kG [.p (.int .i64 n)] (.p (.bool (inR n 0 255))):=by
 refine AC.go zH ?_
 simp-implicitDefEqProofs[pm]
 refine(mQ G _ _ _).use ?_
 simp-implicitDefEqProofs[]
theorem Em(n:Int):VF Tryz.prog G cQ [.p (.int .i32 n)] (.p (.bool (decide (n<97)||decide (122<n)))):=by
 refine AC.go uv ?_
 simp-implicitDefEqProofs[mF]
 by_cases h:n<97
 ·simp-implicitDefEqProofs[h]
 ·simp-implicitDefEqProofs[h]
theorem Mb{s:List UInt8}{i:Nat}(h:i<s.length)(hl:dy s[i]=true):Utf8.decode ⟨⟨s⟩⟩ i=(s[i].toNat,1):=by
 simp only[dy,RK,decide_eq_true_eq] at hl
 exact decode_ascii ⟨⟨s⟩⟩ i h (by show(s[i]).toNat<128;omega)
theorem Ha{s:List UInt8}{i:Nat}(h:i<s.length)(hl:¬dy s[i]=true):(((Utf8.decode ⟨⟨s⟩⟩ i).1:Int)<97\/122<((Utf8.decode ⟨⟨s⟩⟩ i).1:Int)):=by
 rcases Sj s[i].toNat 128 with h1|h1
 ·rw[show Utf8.decode ⟨⟨s⟩⟩ i=(s[i].toNat,1) from decode_ascii ⟨⟨s⟩⟩ i h h1]
  simp[dy] at hl
  simp only
  omega
 ·have:=(decode_high ⟨⟨s⟩⟩ i h h1).1
  omega
theorem CE(s:List UInt8)(hb:s.length<=140737488355328):VF Tryz.prog G eZ [.p (.str s),.fn (.func cQ) [],.p (.bool true)] (.p (.int .i64 (AM s))):=by
 refine AC.go oy ?_
 simp-implicitDefEqProofs[iQ]
 refine az (λi:Nat=>am 21 [(0,.p (.str s)),(1,.fn (.func cQ) []),(2,.p (.bool true)),(10,.it 0)]) (λi=>[.sit s i]) (λi=>i<=s.length/\∀x∈s.take i,dy x=true) (λi=>s.length-i) 0 (by simp) ?_ ?_
 ·exact ab (by simp) (by simp[okO]) (by simp[below,an])
 ·intro i ⟨hi,hn⟩
  simp-implicitDefEqProofs[]
  by_cases h1:i<s.length
  ·have hg:=Rv h1
   simp-implicitDefEqProofs[h1]
   refine(Em G _).use ?_
   by_cases hl:dy s[i]=true
   ·have hd:=Mb h1 hl
    have hl':=hl
    simp only[dy,RK,decide_eq_true_eq] at hl'
    have e1:¬((s[i].toNat:Int)<97):=by omega
    have e2:¬(122<(s[i].toNat:Int)):=by omega
    rw[hd]
    simp-implicitDefEqProofs[e1,e2]
    refine⟨i+1,⟨h1,λp hp=>?_⟩,by omega,ab (by simp) (by simp[okO]) (by simp[below,an])⟩
    rw[aq h1] at hp
    rcases RG.1 hp with hp|hp
    ·exact hn p hp
    ·rw[RL.1 hp];exact hl
   ·have hd:=Ha h1 hl
    have hf:AM s=i:=by
     have:s.findIdx? (λx=> !dy x)=some i:=by
      rw[RQ]
      exact⟨h1,by simpa using hl,λj hj=>by have:=hn s[j] (List.mem_take_iff_getElem.2 ⟨j,by omega,rfl⟩);simpa using this⟩
     rw[AM,this]
    have hdb:(decide (((Utf8.decode ⟨⟨s⟩⟩ i).1:Int)<97)||decide (122<((Utf8.decode ⟨⟨s⟩⟩ i).1:Int)))=true:=by
     rcases hd with h|h<;>simp[h]
    rw[hdb]
    simp-implicitDefEqProofs[hf]
  ·have hn':=hn
   rw[RF (by omega)] at hn'
   have hf:AM s= -1:=by
    have:s.findIdx? (λx=> !dy x)=none:=by
     rw[Sg];intro x hx;simpa using hn' x hx
    rw[AM,this]
   simp-implicitDefEqProofs[h1,hf]
theorem BR(s:List UInt8)(hb:s.length<=140737488355328):VF Tryz.prog G fh [.p (.str s),.fn (.func cQ) []] (.p (.int .i64 (AM s))):=by
 refine AC.go oC ?_
 simp-implicitDefEqProofs[iR]
 refine(CE G s hb).use ?_
 simp-implicitDefEqProofs[]
theorem Mj(L:List (List UInt8))(s:List UInt8)(hb:L.length<=1048576):VF Tryz.prog G dY [.p (aE L),.p (.str s)] (.p (.int .i64 (idxS L s))):=by
 refine AC.go mN ?_
 have hsl:aE L= .lst 1 (L.map λw=>[.str w]):=rfl
 simp-implicitDefEqProofs[gH,hsl]
 refine az (λi:Nat=>am 19 [(0,.p (aE L)),(1,.p (.str s)),(6,.p (aE L)),(7,.p (.int .i64 L.length)),(8,.p (.int .i64 i))]) (λ_=>[]) (λi=>i<=L.length/\∀w∈L.take i,w≠s) (λi=>L.length-i) 0 (by simp) ?_ ?_
 ·exact aK rfl (by simp[below,aE])
 ·intro i ⟨hi,hn⟩
  simp-implicitDefEqProofs[hsl]
  refine aY (λh1=>?_) (λh1=>?_)
  ·simp at h1
   have hg:=Rv h1
   by_cases he:L[i]=s
   ·have hf:idxS L s=i:=by
     have:L.findIdx? (λw=>w==s)=some i:=by
      rw[RQ]
      exact⟨h1,by simpa using he,λj hj=>by have:=hn L[j] (List.mem_take_iff_getElem.2 ⟨j,by omega,rfl⟩);simpa using this⟩
     rw[idxS,this]
    have he':s=L[i]:=he.symm
    simp-implicitDefEqProofs[hg,hf,←he']
   ·have he':¬s=L[i]:=λe=>he e.symm
    simp-implicitDefEqProofs[hg,he']
    refine⟨i+1,⟨h1,λp hp=>?_⟩,by omega,aK rfl ?_⟩
    ·rw[aq h1] at hp
     rcases RG.1 hp with hp|hp
     ·exact hn p hp
     ·rw[RL.1 hp];exact he
    ·simp[below,aE,w1 (i:=i) (by omega)]
  ·simp at h1
   rw[RF h1] at hn
   have hf:idxS L s= -1:=by
    have:L.findIdx? (λw=>w==s)=none:=by
     rw[Sg];intro x hx;simpa using hn x hx
    rw[idxS,this]
   simp-implicitDefEqProofs[hf]
theorem DH(L:List (List UInt8))(s:List UInt8)(hb:L.length<=1048576):VF Tryz.prog G cY [.p (aE L),.p (.str s)] (.p (.bool (L.contains s))):=by
 rw[←HK]
 refine AC.go kU ?_
 simp-implicitDefEqProofs[fz]
 refine(Mj G L s hb).use ?_
 simp-implicitDefEqProofs[]
abbrev de:Nat:=0
def cX:List PV:=keyW.map .str
variable (hK:G de=some cX)
include hK
theorem nq(s:List UInt8)(hb:s.length<=140737488355328):VF Tryz.prog G co [.p (.str s)] (.p (.bool (aD s))):=by
 refine AC.go yV ?_
 unfold de at hK
 simp-implicitDefEqProofs[pc]
 refine(mQ G _ _ _).use ?_
 have hr:inR (s.length:Int) 1 4=(decide (0<s.length)&&decide (s.length<=4)):=by
  unfold inR
  by_cases h1:0<s.length<;>by_cases h2:s.length<=4<;>simp[h1,h2]<;>omega
 rw[hr]
 have hi:aD s=((decide (0<s.length)&&decide (s.length<=4))&&(s.all dy&& !keyW.contains s)):=by
  rw[aD];cases s.all dy<;>cases decide (0<s.length)<;>cases decide (s.length<=4)<;>rfl
 cases h1:(decide (0<s.length)&&decide (s.length<=4)) with
 |false=>
  rw[hi,h1]
  simp-implicitDefEqProofs[]
 |true=>
  rw[hi,h1]
  simp-implicitDefEqProofs[]
  refine(BR G s hb).use ?_
  rw[←Hv]
  by_cases hn:AM s<0
  ·simp-implicitDefEqProofs[hn,hK,cX,keyW]
   refine(DH G keyW s (by decide)).use ?_
   simp-implicitDefEqProofs[keyW]
  ·simp-implicitDefEqProofs[hn]
end
section
theorem uu:AK.whole iN=FK.ak iL:=rfl
abbrev bx:Nat:=1
def opK:List PV:=[.int .i64 3,.int .i64 4,.int .i64 5,.int .i64 6,.int .i64 7,.int .i64 8,.int .i64 9,.int .i64 10]
def opV:List (List PV):=[[.str [43],.int .i64 3],[.str [45],.int .i64 3],[.str [42],.int .i64 4],[.str [47],.int .i64 4],[.str [37],.int .i64 4],[.str [60],.int .i64 2],[.str [61],.int .i64 2],[.str [38],.int .i64 1]]
def lvl(op:Int):Int:=if op=10 then 1 else if op=8 then 2 else if op=9 then 2 else if op=3 then 3 else if op=4 then 3 else 4
def sgB(op:Int):UInt8:=if op=3 then 43 else if op=4 then 45 else if op=5 then 42 else if op=6 then 47 else if op=7 then 37 else if op=8 then 60 else if op=9 then 61 else 38
def sgn(op:Int):Option AV:=if 3<=op/\op<=10 then some (.agg [.p (.str [sgB op]),.p (.int .i64 (lvl op))]) else none
theorem Fl(op:Int):(opK.all λk'=>(keq (.int .i64 op) k').isSome)=true:=by simp[opK,keq]
theorem Fx(op:Int):gq (.int .i64 op) (Gy opK opV)=some (sgn op):=by
 by_cases h:3<=op/\op<=10
 ·have h8:op=3\/op=4\/op=5\/op=6\/op=7\/op=8\/op=9\/op=10:=by omega
  rcases h8 with rfl|rfl|rfl|rfl|rfl|rfl|rfl|rfl<;>rfl
 ·have e:sgn op=none:=if_neg h
  have h3:¬op=3:=by omega
  have h4:¬op=4:=by omega
  have h5:¬op=5:=by omega
  have h6:¬op=6:=by omega
  have h7:¬op=7:=by omega
  have h8:¬op=8:=by omega
  have h9:¬op=9:=by omega
  have h10:¬op=10:=by omega
  rw[e]
  simp[opK,opV,Gy,gq,keq,h3,h4,h5,h6,h7,h8,h9,h10]
theorem FH(op:Int):0<lvl op:=by
 unfold lvl
 repeat' split
 all_goals omega
theorem NH(op:Int):lvl op<6:=by
 unfold lvl
 repeat' split
 all_goals omega
def lvI(op:Int):Int:=if 3<=op/\op<=10 then lvl op else if op=11\/op=12 then 5 else 6
mutual
def Ex.deep:Ex->Nat
 | .mk _ _ _ k=>1+lC k
def lC:List Ex->Nat
 |[]=>0
 |e::r=>max e.deep (lC r)
end
theorem Ex.deep_eq(e:Ex):e.deep=1+lC e.kids:=by cases e;rfl
theorem Dt:∀a b:List Ex,lC (a++b)=max (lC a) (lC b)
 |[],b=>by simp[lC]
 |e::r,b=>by rw[Sh,lC,lC,Dt r b];omega
mutual
theorem Ex.deep_le:∀e:Ex,e.deep<=e.sz
 | .mk _ _ s k=>by have:=AY k;simp only[Ex.deep,Ex.sz];omega
theorem AY:∀l:List Ex,lC l<=cb l
 |[]=>RC _
 |e::r=>by have:=e.deep_le;have:=AY r;simp only[lC,cb];omega
end
theorem nz{α:Type}{p:α->Bool}{xs:List α}{i:Nat}{c:α}(h:xs[i]?=some c):(xs.take (i+1)).all p=((xs.take i).all p&&p c):=by
 rw[List.take_add_one,h,List.all_append];simp
def okE(m:Nat)(e:Ex):Bool:=aT m e&&decide (e.parts<=30)
def uz:Nat->Ex->Bool
 |0,_=>false
 |m+1,e=>iD e&&e.kids.all (okE m)
theorem jo:∀{l:List Ex} {e:Ex},e∈l->e.parts<=aI l
 |x::r,e,h=>by
  simp only[aI]
  rcases Sa.1 h with rfl|h
  ·omega
  ·have:=jo h;omega
theorem Fu(m:Nat)(e:Ex):(uz m e&&decide (e.parts<=30))=okE m e:=by
 cases m with
 |zero=>simp[uz,okE,aT]
 |succ m=>
  by_cases hp:e.parts<=30
  ·have h2:e.kids.all (okE m)=e.kids.all (aT m):=by
    rw[Bool.eq_iff_iff,RA,RA]
    refine⟨λh x hx=>?_,λh x hx=>?_⟩
    ·have:=h x hx;simp only[okE,RK] at this;exact this.1
    ·have h1:=h x hx
     have:=jo hx
     have:=e.parts_eq
     simp only[okE,h1,Bool.true_and]
     simp;omega
   simp[uz,okE,aT,h2]
  ·simp[okE,hp]
theorem Ly(e:Ex):okE 6 e=gt e:=rfl
def szA(m:Nat)(e:Ex):AV:=if uz m e then .tup [.p (.int .i64 e.parts),.p (.int .i64 e.deep),.p (.bool (decide (e.parts<=30)))] else .tup [.p (.int .i64 0),.p (.int .i64 0),.p (.bool false)]
def cf(e:Ex):Bool:=inR e.op 1 13&&(if e.op=1 then inR e.n 0 255&&decide (e.name=[]) else if e.op=2\/e.op=13 then aD e.name&&decide (e.n=0) else true)
def gC(e:Ex):Bool:=(decide (e.op=1\/e.op=2\/e.op=13)||(decide (e.n=0)&&decide (e.name=[])))&&inR e.kids.length (loK e.op) (hiK e.op)
theorem pW:aD []=false:=rfl
theorem BY(e:Ex):iD e=(cf e&&gC e):=by
 unfold iD cf gC Do
 by_cases h1:e.op=1
 ·simp only[h1]
  cases inR (e.kids.length:Int) (loK 1:Nat) (hiK 1:Nat)<;>by_cases hn:e.name=[]<;>cases h2:inR e.n 0 255<;>simp[hn,pW,inR]
 by_cases h2:e.op=2
 ·simp only[h2]
  cases inR (e.kids.length:Int) (loK 2:Nat) (hiK 2:Nat)<;>cases hi:aD e.name<;>by_cases hn:e.n=0<;>simp[hn,inR]
 by_cases h3:e.op=13
 ·simp only[h3]
  cases inR (e.kids.length:Int) (loK 13:Nat) (hiK 13:Nat)<;>cases hi:aD e.name<;>by_cases hn:e.n=0<;>simp[hn,inR]
 ·cases inR e.op 1 13<;>cases inR (e.kids.length:Int) (loK e.op:Nat) (hiK e.op:Nat)<;>by_cases hn:e.n=0<;>by_cases hm:e.name=[]<;>simp[h1,h2,h3,hn,hm,pW,inR]
variable (G:ay) (hK:G de=some cX) (hS:G bx=some [.tbl opK opV])
include hS
theorem FT(op:Int):VF Tryz.prog G jS [.p (.int .i64 op)] (.p (.int .i64 (lvI op))):=by
 refine AC.go yJ ?_
 have hall:=Fl op
 have hget:=Fx op
 have hS':=hS
 unfold bx at hS'
 have hlp:=FH op
 by_cases h:3<=op/\op<=10
 ·have e:sgn op=some (.agg [.p (.str [sgB op]),.p (.int .i64 (lvl op))]):=if_pos h
  have e2:lvI op=lvl op:=if_pos h
  rw[e2]
  generalize lvl op=L at*
  simp-implicitDefEqProofs[eq,hS',hall,hget,e,hlp]
 ·have e:sgn op=none:=if_neg h
  by_cases h11:op=11
  ·subst h11;simp-implicitDefEqProofs[eq,hS',hall,hget,e,lvI]
  by_cases h12:op=12
  ·subst h12;simp-implicitDefEqProofs[eq,hS',hall,hget,e,lvI]
  have e2:lvI op=6:=by rw[lvI,if_neg h,if_neg (by simp[h11,h12])]
  simp-implicitDefEqProofs[eq,hS',hall,hget,e,e2,h11,h12]
include hK
theorem DN:∀(m:Nat) (e:Ex),e.sz<=1073741824->m<=100->VF Tryz.prog G fJ [.agg (e.cs.map .p),.p (.int .i64 m)] (szA m e):=by
 intro m
 induction m using Nat.strongRecOn with
 |_ m ih=>
 intro e he hm
 have hec:=e.cs_eq
 have hsz:=e.sz_eq
 have hkl:=aP e.kids
 have hS':=hS
 unfold bx at hS'
 have hall:=Fl e.op
 have hget:=Fx e.op
 have hxl:exL e.kids= .lst 4 (e.kids.map Ex.cs):=rfl
 have hbad:(cf e&&gC e&&decide (1<=m))=false->szA m e= .tup [.p (.int .i64 0),.p (.int .i64 0),.p (.bool false)]:=by
  intro h
  have:uz m e=false:=by
   cases m with
   |zero=>rfl
   |succ m=>rw[uz,BY];simp at h;cases h1:cf e<;>cases h2:gC e<;>simp[h1,h2] at h⊢
  rw[szA,this];rfl
 have hb1:cf e=false->szA m e= .tup [.p (.int .i64 0),.p (.int .i64 0),.p (.bool false)]:=λh=>hbad (by rw[h];rfl)
 refine AC.goK uy uu ?_
 simp-implicitDefEqProofs[iN,iL,hec]
 refine ry (λ_:Unit=>am 127 [(1,.p (.int .i64 m)),(2,.ptr 0 4 0 0),(7,.p (.int .i64 (loK e.op))),(8,.p (.int .i64 (hiK e.op)))]) (λ_=>[.row 4 [[.p (.int .i64 e.op),.p (.int .i64 e.n),.p (.str e.name),.p (exL e.kids)]]]) (λ_=>cf e=true) ?_ ?_
 ·have fin:∀(r1:List (Nat × AV)),Aw.look r1 1= .p (.int .i64 m)->Aw.look r1 2= .ptr 0 4 0 0->Aw.look r1 7= .p (.int .i64 (loK e.op))->Aw.look r1 8= .p (.int .i64 (hiK e.op))->
   Wk 0 (am 127 r1) [.row 4 [[.p (.int .i64 e.op),.p (.int .i64 e.n),.p (.str e.name),.p (exL e.kids)]]] (am 127 [(1,.p (.int .i64 m)),(2,.ptr 0 4 0 0),(7,.p (.int .i64 (loK e.op))),(8,.p (.int .i64 (hiK e.op)))]) [.row 4 [[.p (.int .i64 e.op),.p (.int .i64 e.n),.p (.str e.name),.p (exL e.kids)]]]:=λr1 a b c d=>
   ab (by simp) (by simp[okO,below]) (by simp[below,a,b,c,d])
  have hop1:inR (1:Int) 1 13=true:=rfl
  have hop2:inR (2:Int) 1 13=true:=rfl
  have hop13:inR (13:Int) 1 13=true:=rfl
  by_cases o1:e.op=1
  ·rw[o1] at fin⊢
   simp-implicitDefEqProofs[o1]
   refine(JI G _).use ?_
   by_cases h1:inR e.n 0 255=true
   ·by_cases h2:e.name=[]
    ·have hp:cf e=true:=by simp[cf,o1,h1,h2,hop1]
     rw[h2] at fin
     simp-implicitDefEqProofs[h1,h2,hp]
     exact fin _ (by simp) (by simp) (by simp[loK]) (by simp[hiK])
    ·have hp:cf e=false:=by simp[cf,o1,h1,h2,hop1]
     rw[hb1 hp]
     simp-implicitDefEqProofs[h1,h2]
   ·have hp:cf e=false:=by simp[cf,o1,h1,hop1]
    rw[hb1 hp]
    simp-implicitDefEqProofs[h1]
  by_cases o2:e.op=2
  ·rw[o2] at fin⊢
   simp-implicitDefEqProofs[o2]
   refine(nq G hK _ (by omega)).use ?_
   by_cases h1:aD e.name=true
   ·by_cases h2:e.n=0
    ·have hp:cf e=true:=by simp[cf,o2,h1,h2,hop2]
     rw[h2] at fin
     simp-implicitDefEqProofs[h1,h2,hp]
     exact fin _ (by simp) (by simp) (by simp[loK]) (by simp[hiK])
    ·have hp:cf e=false:=by simp[cf,o2,h1,h2,hop2]
     rw[hb1 hp]
     simp-implicitDefEqProofs[h1,h2]
   ·have hp:cf e=false:=by simp[cf,o2,h1,hop2]
    rw[hb1 hp]
    simp-implicitDefEqProofs[h1]
  by_cases o13:e.op=13
  ·rw[o13] at fin⊢
   simp-implicitDefEqProofs[o13]
   refine(nq G hK _ (by omega)).use ?_
   by_cases h1:aD e.name=true
   ·by_cases h2:e.n=0
    ·have hp:cf e=true:=by simp[cf,o13,h1,h2,hop13]
     rw[h2] at fin
     simp-implicitDefEqProofs[h1,h2,hp]
     exact fin _ (by simp) (by simp) (by simp[loK]) (by simp[hiK])
    ·have hp:cf e=false:=by simp[cf,o13,h1,h2,hop13]
     rw[hb1 hp]
     simp-implicitDefEqProofs[h1,h2]
   ·have hp:cf e=false:=by simp[cf,o13,h1,hop13]
    rw[hb1 hp]
    simp-implicitDefEqProofs[h1]
  have hlp:=FH e.op
  by_cases h:3<=e.op/\e.op<=10
  ·have es:sgn e.op=some (.agg [.p (.str [sgB e.op]),.p (.int .i64 (lvl e.op))]):=if_pos h
   have hp:cf e=true:=by simp[cf,o1,o2,o13,inR];omega
   have o11:¬e.op=11:=by omega
   have o12:¬e.op=12:=by omega
   have elo:loK e.op=2:=by simp[loK,o1,o2,o11,o12,o13]
   have ehi:hiK e.op=2:=by simp[hiK,o1,o2,o11,o12,o13]
   generalize lvl e.op=L at*
   simp-implicitDefEqProofs[o1,o2,o13,hS',hall,hget,es,hlp,hp]
   exact fin _ (by simp) (by simp) (by simp[elo]) (by simp[ehi])
  have es:sgn e.op=none:=if_neg h
  by_cases o11:e.op=11
  ·have hp:cf e=true:=by simp[cf,o11,inR]
   have elo:loK e.op=1:=by simp[loK,o11]
   have ehi:hiK e.op=1:=by simp[hiK,o11]
   rw[o11] at hall hget es fin
   simp-implicitDefEqProofs[o11,hS',hall,hget,es,hp]
   exact fin _ (by simp) (by simp) (by simp[loK]) (by simp[hiK])
  by_cases o12:e.op=12
  ·have hp:cf e=true:=by simp[cf,o12,inR]
   rw[o12] at hall hget es fin
   simp-implicitDefEqProofs[o12,hS',hall,hget,es,hp]
   exact fin _ (by simp) (by simp) (by simp[loK]) (by simp[hiK])
  ·have hp:cf e=false:=by simp[cf,o1,o2,o13,inR];omega
   rw[hb1 hp]
   simp-implicitDefEqProofs[o1,o2,o13,hS',hall,hget,es,o11,o12]
 intro _ hp
 have hop:1<=e.op/\e.op<=13:=by
  simp only[cf,RK,inR,decide_eq_true_eq] at hp
  exact hp.1
 have hb2:gC e=false->szA m e= .tup [.p (.int .i64 0),.p (.int .i64 0),.p (.bool false)]:=λh=>hbad (by rw[h];simp)
 have hb3:m<1->szA m e= .tup [.p (.int .i64 0),.p (.int .i64 0),.p (.bool false)]:=by
  intro h
  have hd:decide (1<=m)=false:=by simp;omega
  exact hbad (by rw[hd];simp)
 refine ry (λ_:Unit=>am 127 [(1,.p (.int .i64 m)),(2,.ptr 0 4 0 0)]) (λ_=>[.row 4 [[.p (.int .i64 e.op),.p (.int .i64 e.n),.p (.str e.name),.p (exL e.kids)]]]) (λ_=>gC e=true/\1<=m) ?_ ?_
 ·have fin:∀(r1:List (Nat × AV)),Aw.look r1 1= .p (.int .i64 m)->Aw.look r1 2= .ptr 0 4 0 0->
   Wk 0 (am 127 r1) [.row 4 [[.p (.int .i64 e.op),.p (.int .i64 e.n),.p (.str e.name),.p (exL e.kids)]]] (am 127 [(1,.p (.int .i64 m)),(2,.ptr 0 4 0 0)]) [.row 4 [[.p (.int .i64 e.op),.p (.int .i64 e.n),.p (.str e.name),.p (exL e.kids)]]]:=λr1 a b=>
   ab (by simp) (by simp[okO,below]) (by simp[below,a,b])
  simp-implicitDefEqProofs[]
  refine(FT G hS e.op).use ?_
  by_cases ho:e.op=1\/e.op=2\/e.op=13
  ·have hlv:lvI e.op=6:=by
    rw[lvI,if_neg (by omega),if_neg (by omega)]
   have hd:decide (e.op=1\/e.op=2\/e.op=13)=true:=by simpa using ho
   simp-implicitDefEqProofs[hlv,hxl]
   refine(mQ G _ _ _).use ?_
   by_cases hk:inR e.kids.length (loK e.op) (hiK e.op)=true
   ·have hr:gC e=true:=by rw[gC,hd,hk];rfl
    by_cases hm1:m<1
    ·have hm1':(m:Int)<1:=by omega
     rw[hb3 hm1]
     simp-implicitDefEqProofs[hk,hm1']
    ·have hm1':¬(m:Int)<1:=by omega
     have hm2:1<=m:=by omega
     simp-implicitDefEqProofs[hk,hm1',hr,hm2]
     exact fin _ (by simp) (by simp)
   ·have hk':inR e.kids.length (loK e.op) (hiK e.op)=false:=by simpa using hk
    have hr:gC e=false:=by rw[gC,hk',Bool.and_false]
    rw[hb2 hr]
    simp-implicitDefEqProofs[hk']
  ·have hlv:lvI e.op<6:=by
    have:=NH e.op
    unfold lvI
    split
    ·exact this
    ·rw[if_pos (by omega)];omega
   have hd:decide (e.op=1\/e.op=2\/e.op=13)=false:=by simpa using ho
   generalize lvI e.op=L at hlv⊢
   by_cases h1:e.n=0
   ·by_cases h2:e.name=[]
    ·have hz:decide (e.n=0)=true/\decide (e.name=[])=true:=by simp[h1,h2]
     simp-implicitDefEqProofs[hlv,h1,h2,hxl]
     refine(mQ G _ _ _).use ?_
     rw[h1,h2] at fin
     by_cases hk:inR e.kids.length (loK e.op) (hiK e.op)=true
     ·have hr:gC e=true:=by rw[gC,hd,hk,hz.1,hz.2];rfl
      by_cases hm1:m<1
      ·have hm1':(m:Int)<1:=by omega
       rw[hb3 hm1]
       simp-implicitDefEqProofs[hk,hm1']
      ·have hm1':¬(m:Int)<1:=by omega
       have hm2:1<=m:=by omega
       simp-implicitDefEqProofs[hk,hm1',hr,hm2]
       exact fin _ (by simp) (by simp)
     ·have hk':inR e.kids.length (loK e.op) (hiK e.op)=false:=by simpa using hk
      have hr:gC e=false:=by rw[gC,hk',Bool.and_false]
      rw[hb2 hr]
      simp-implicitDefEqProofs[hk']
    ·have hr:gC e=false:=by rw[gC,hd];simp[h2]
     rw[hb2 hr]
     simp-implicitDefEqProofs[hlv,h1,h2]
   ·have hr:gC e=false:=by rw[gC,hd];simp[h1]
    rw[hb2 hr]
    simp-implicitDefEqProofs[hlv,h1]
 rintro _ ⟨hr,hm1⟩
 have hhd:iD e=true:=by rw[BY,hp,hr];rfl
 obtain⟨m',rfl⟩:∃m',m=m'+1:=⟨m-1,by omega⟩
 have hszO:uz (m'+1) e=e.kids.all (okE m'):=by rw[uz,hhd];rfl
 have hpe:=e.parts_eq
 have hde:=e.deep_eq
 have hpl:=e.parts_le
 have hwm:IntKind.i64.wrap (((m'+1:Nat):Int)-1)=(m':Int):=by rw[ah (by omega) (by omega)];omega
 simp-implicitDefEqProofs[hxl]
 refine az (λi:Nat=>am 127 [(1,.p (.int .i64 ((m':Int)+1))),(2,.ptr 0 4 0 0),(9,.p (.int .i64 ((1+aI (e.kids.take i):Nat):Int))),(10,.p (.int .i64 ((1+lC (e.kids.take i):Nat):Int))),(99,.p (exL e.kids)),(100,.p (.int .i64 e.kids.length)),(101,.p (.int .i64 i))])
  (λ_=>[.row 4 [[.p (.int .i64 e.op),.p (.int .i64 e.n),.p (.str e.name),.p (exL e.kids)]]]) (λi=>i<=e.kids.length/\(e.kids.take i).all (okE m')=true) (λi=>e.kids.length-i) 0 (by simp) ?_ ?_
 ·exact ab (by simp) (by simp[okO,below]) (by simp[below,hxl,aI,lC])
 rintro i ⟨hi,ha⟩
 have hwm':IntKind.i64.wrap (m':Int)=(m':Int):=ah (by omega) (by omega)
 simp-implicitDefEqProofs[hxl]
 refine aY (λh=>?_) (λh=>?_)
 ·simp at h
  have hg:=Rv h
  have hks:=aC (RB h)
  have hkc:=e.kids[i].cs_eq
  have hpt:aI (e.kids.take (i+1))=aI (e.kids.take i)+e.kids[i].parts:=by rw[aq h,eC];simp[aI]
  have hdt:lC (e.kids.take (i+1))=max (lC (e.kids.take i)) e.kids[i].deep:=by rw[aq h,Dt];simp[lC]
  have hpl1:aI (e.kids.take (i+1))<=e.parts:=by
   have:=eC (e.kids.take (i+1)) (e.kids.drop (i+1))
   rw[Si] at this
   omega
  have hok:=Fu m' e.kids[i]
  have hdl:e.kids[i].deep<=e.kids[i].sz:=Ex.deep_le _
  have hdl2:lC (e.kids.take i)<=e.sz:=by
   have h1:=AY (e.kids.take i)
   have h2:=tT (e.kids.take i) (e.kids.drop i)
   rw[Si] at h2
   omega
  generalize e.kids[i]=c at*
  simp-implicitDefEqProofs[hg,hkc,hwm']
  have hI:=ih m' (by omega) c (by omega) (by omega)
  rw[hkc] at hI
  by_cases ho:okE m' c=true
  ·have h1:uz m' c=true/\c.parts<=30:=by rw[ho] at hok;simpa using hok
   have hA:szA m' c= .tup [.p (.int .i64 c.parts),.p (.int .i64 c.deep),.p (.bool true)]:=by rw[szA,if_pos h1.1];simp[h1.2]
   rw[hA] at hI
   refine hI.use ?_
   have hw1:IntKind.i64.wrap (1+(aI (e.kids.take i):Int)+(c.parts:Int))=((1+aI (e.kids.take (i+1)):Nat):Int):=by rw[ah (by omega) (by omega)];omega
   have hw2:IntKind.i64.wrap ((c.deep:Int)+1)=(c.deep:Int)+1:=ah (by omega) (by omega)
   have hmx:(if 1+(lC (e.kids.take i):Int)<(c.deep:Int)+1 then(c.deep:Int)+1 else 1+(lC (e.kids.take i):Int))=1+(lC (e.kids.take (i+1)):Int):=by
    rw[hdt];split<;>omega
   simp-implicitDefEqProofs[hw1,hw2,hmx]
   refine⟨i+1,⟨h,by rw[←RA,nz hg,ha,ho];rfl⟩,by omega,?_⟩
   refine kz (m:=1) (by omega) (fH rfl rfl (by simp[okO,below])) (by simp[below,hxl,w1 (i:=i) (by omega)])
  ·have hf:e.kids.all (okE m')=false:=List.all_eq_false.2 ⟨c,RE hg,by simpa using ho⟩
   have hA2:szA (m'+1) e= .tup [.p (.int .i64 0),.p (.int .i64 0),.p (.bool false)]:=by rw[szA,hszO,hf];rfl
   rw[hA2]
   by_cases h1:uz m' c=true
   ·have h2:¬c.parts<=30:=λh2=>ho (by rw[←hok,h1];simpa using h2)
    have hA:szA m' c= .tup [.p (.int .i64 c.parts),.p (.int .i64 c.deep),.p (.bool false)]:=by rw[szA,if_pos h1];simp[h2]
    rw[hA] at hI
    refine hI.use ?_
    simp-implicitDefEqProofs[]
   ·have hA:szA m' c= .tup [.p (.int .i64 0),.p (.int .i64 0),.p (.bool false)]:=by rw[szA,if_neg h1]
    rw[hA] at hI
    refine hI.use ?_
    simp-implicitDefEqProofs[]
 ·simp at h
  rw[RF h] at ha⊢
  have hA:szA (m'+1) e= .tup [.p (.int .i64 e.parts),.p (.int .i64 e.deep),.p (.bool (decide (e.parts<=30)))]:=by rw[szA,hszO,ha];rfl
  rw[hA,hpe,hde]
  simp-implicitDefEqProofs[]
  omega
theorem ua(e:Ex)(he:e.sz<=1073741824):VF Tryz.prog G dj [.agg (e.cs.map .p)] (.p (.bool (gt e))):=by
 refine AC.go sJ ?_
 have hec:=e.cs_eq
 have hx:=DN G hK hS 6 e he (by omega)
 rw[hec] at hx
 simp-implicitDefEqProofs[lU,hec]
 rw[←Ly,←Fu]
 unfold szA at hx
 by_cases h:uz 6 e=true
 ·rw[if_pos h] at hx
  rw[h]
  refine hx.use ?_
  simp-implicitDefEqProofs[]
 ·have h':uz 6 e=false:=by simpa using h
  rw[if_neg h] at hx
  rw[h']
  refine hx.use ?_
  simp-implicitDefEqProofs[]
end
section
theorem dT:∀l:List Ex,aX l=l.map dm
 |[]=>rfl
 |e::r=>by rw[aX,dT r];rfl
mutual
def sk:Sm->Sm
 | .mk o s a bd el=> .mk o s (aX a) (aZ bd) (aZ el)
def aZ:List Sm->List Sm
 |[]=>[]
 |s::r=>sk s::aZ r
end
theorem lK:∀l:List Sm,aZ l=l.map sk
 |[]=>rfl
 |e::r=>by rw[aZ,lK r];rfl
def Dj(f:Fd):Fd:=⟨f.name,f.params,aZ f.body⟩
def eS(l:List Fd):List Fd:=l.map Dj
def P5(o n:Int)(s:List UInt8)(ks:List Ex)(x:Ex):Prop:=
 x= .mk o n s ks\/(∃q,x=me q/\((∀a∈ks,a.op=1->V5 a.n)->V5 q))\/(∃a∈ks,x=a)\/∃a∈ks,∃c∈a.kids,x=c
theorem Kd{o a b q:Int}(ha:V5 a)(hb:V5 b)(h:ar5 o a b=some q):V5 q:=by
 unfold ar5 at h
 split at h
 ·cases h;exact rV _
 ·exact FN ha hb h
theorem Lg(o n:Int)(s:List UInt8)(a:Ex):P5 o n s [a] (iU o n s a):=by
 unfold iU
 split
 ·exact .inr (.inl ⟨_,rfl,λ_=>rV _⟩)
 ·split
  ·rename_i c hc
   split
   ·exact .inr (.inr (.inr ⟨a,by simp,c,by rw[hc];simp,rfl⟩))
   ·exact .inl rfl
  ·exact .inl rfl
theorem KW(o n:Int)(s:List UInt8)(a b:Ex):P5 o n s [a,b] (lf o n s a b):=by
 unfold lf
 split
 ·rename_i q hq
  split at hq
  ·rename_i h
   exact .inr (.inl ⟨q,rfl,λhv=>Kd (hv a (by simp) h.1) (hv b (by simp) h.2) hq⟩)
  ·cases hq
 ·split
  ·exact .inr (.inl ⟨0,rfl,λ_=>⟨by omega,by omega⟩⟩)
  ·split
   ·exact .inr (.inr (.inl ⟨a,by simp,rfl⟩))
   ·split
    ·exact .inr (.inr (.inl ⟨b,by simp,rfl⟩))
    ·split
     ·exact .inr (.inl ⟨0,rfl,λ_=>⟨by omega,by omega⟩⟩)
     ·exact .inl rfl
theorem AU(o n:Int)(s:List UInt8)(ks:List Ex):P5 o n s ks (fV o n s ks):=by
 unfold fV
 split
 ·exact .inl rfl
 ·split
  ·exact Lg o n s _
  ·exact KW o n s _ _
  ·exact .inl rfl
theorem rS{e:Ex}(h:iD e=true):V5 e.n:=by
 simp only[iD,RK,inR,decide_eq_true_eq] at h
 exact⟨h.1.2.1,h.1.2.2⟩
theorem eN{d:Nat}{e a:Ex}(h:aT (d+1) e=true)(ha:a∈e.kids):aT d a=true:=by
 rw[aT,RK] at h
 exact RA.1 h.2 a ha
theorem gQ{d:Nat}{e:Ex}(h:aT d e=true):iD e=true:=by
 cases d with
 |zero=>cases h
 |succ d=>rw[aT,RK] at h;exact h.1
theorem mX:∀{d:Nat} {e:Ex},aT d e=true->aT (d+1) e=true
 |0,e,h=>by cases h
 |d+1,e,h=>by
  have h0:=h
  rw[aT,RK] at h
  rw[aT,RK]
  exact⟨h.1,RA.2 λa ha=>mX (eN h0 ha)⟩
theorem Gn{d:Nat}{q:Int}(h:V5 q):aT (d+1) (me q)=true:=by
 obtain⟨h0,h1⟩:=h
 have:aD []=false:=by decide
 simp[aT,me,iD,inR,Ex.op,Ex.kids,Ex.name,Ex.n,loK,hiK,Do,this,h0,h1]
theorem Lj{d:Nat}{o n:Int}{s:List UInt8}{ks:List Ex}{x:Ex}(h:aT (d+1) (.mk o n s ks)=true)(hx:P5 o n s ks x):aT (d+1) x=true:=by
 have hk:∀a∈ks,aT d a=true:=λa ha=>eN h ha
 rcases hx with rfl|⟨q,rfl,hq⟩|⟨a,ha,rfl⟩|⟨a,ha,c,hc,rfl⟩
 ·exact h
 ·exact Gn (hq λa ha _=>rS (gQ (hk a ha)))
 ·exact mX (hk _ ha)
 ·have h1:=hk a ha
  cases d with
  |zero=>cases h1
  |succ d=>exact mX (mX (eN h1 hc))
theorem vY:∀(d:Nat) (e:Ex),aT d e=true->aT d (dm e)=true
 |0,e,h=>by cases h
 |d+1,.mk o n s ks,h=>by
  rw[dm]
  refine Lj ?_ (AU o n s (aX ks))
  rw[aT,RK] at h⊢
  refine⟨?_,?_⟩
  ·have h1:=h.1
   simp only[iD,Ex.op,Ex.n,Ex.name,Ex.kids,dT,RM] at h1⊢
   exact h1
  ·have h2:=h.2
   simp only[Ex.kids,dT,RA] at h2⊢
   intro x hx
   obtain⟨e,he,rfl⟩:=RP.1 hx
   exact vY d e (h2 e he)
theorem Lo{o n:Int}{s:List UInt8}{ks:List Ex}{x:Ex}(hx:P5 o n s ks x):x.parts<=1+aI ks:=by
 rcases hx with rfl|⟨q,rfl,hq⟩|⟨a,ha,rfl⟩|⟨a,ha,c,hc,rfl⟩
 ·exact RC _
 ·simp only[me,Ex.parts,aI];omega
 ·have:=jo ha;omega
 ·have h1:=jo ha
  have h2:=jo hc
  have h3:=a.parts_eq
  omega
mutual
theorem Ec:∀e:Ex,(dm e).parts<=e.parts
 | .mk o n s ks=>by
   rw[dm,Ex.parts]
   have h1:=Lo (AU o n s (aX ks))
   have h2:=sH ks
   omega
theorem sH:∀l:List Ex,aI (aX l)<=aI l
 |[]=>RC _
 |e::r=>by
  have h1:=Ec e
  have h2:=sH r
  rw[aX,aI,aI]
  omega
end
section
variable {fns fns':List Fd} (hL:Like fns fns')
include hL
end
end
section
theorem Ci(e:Ex):dm e=fV e.op e.n e.name (aX e.kids):=by cases e;rw[dm];rfl
theorem yH(x:Sm):sk x= .mk x.op x.name (aX x.args) (aZ x.body) (aZ x.els):=by cases x;rw[sk];rfl
theorem nU{d:Nat}{e:Ex}(h:aT d e=true):∃c,d=c+1:=by
 cases d with
 |zero=>cases h
 |succ d=>exact⟨d,rfl⟩
theorem pP{d:Nat}{e:Sm}(h:aB d e=true):∃c,d=c+1:=by
 cases d with
 |zero=>cases h
 |succ d=>exact⟨d,rfl⟩
theorem Er{d:Nat}{x:Sm}(h:aB d x=true):∀a∈x.args,aT 6 a=true:=by
 obtain⟨d,rfl⟩:=pP h
 rw[aB,RK,RK] at h
 have h1:=h.1.1
 simp only[gF,RK,RA] at h1
 intro a ha
 exact Ag (h1.1.1.1.2 a ha)
theorem pY{d:Nat}{x:Sm}(h:aB (d+1) x=true):∀y∈x.body,aB d y=true:=by
 rw[aB,RK,RK] at h
 exact RA.1 h.1.2
theorem tl{d:Nat}{x:Sm}(h:aB (d+1) x=true):∀y∈x.els,aB d y=true:=by
 rw[aB,RK,RK] at h
 exact RA.1 h.2
theorem vM{d:Nat}{e:Ex}(h:aT d e=true):aT d (.mk e.op e.n e.name (aX e.kids))=true:=by
 obtain⟨d,rfl⟩:=nU h
 rw[aT,RK] at h⊢
 refine⟨?_,?_⟩
 ·have h1:=h.1
  obtain⟨o,n,s,ks⟩:=e
  simp only[iD,Ex.op,Ex.n,Ex.name,Ex.kids,dT,RM] at h1⊢
  exact h1
 ·have h2:=h.2
  show(aX e.kids).all (aT d)=true
  simp only[dT,RA] at h2⊢
  intro x hx
  obtain⟨e,he,rfl⟩:=RP.1 hx
  exact vY d e (h2 e he)
theorem dd{d:Nat}{e:Ex}(h:aT d e=true):loK e.op<=e.kids.length/\e.kids.length<=hiK e.op/\1<=e.op/\e.op<=13:=by
 have h:=gQ h
 simp only[iD,RK,inR,decide_eq_true_eq] at h
 obtain⟨⟨⟨⟨⟨h1,h2⟩,_⟩,_⟩,_⟩,_⟩:=h
 exact⟨by omega,by omega,h1.1,h1.2⟩
theorem LY{d:Nat}{e a:Ex}(h:aT d e=true)(hk:e.kids=[a])(h2:¬(e.op=12\/e.op=13)):e.op=11:=by
 obtain⟨h1,h3,h4,h5⟩:=dd h
 rw[hk] at h1 h3
 simp only[loK,hiK,RN,List.length_nil] at h1 h3
 split at h1
 ·rename_i hh;rw[if_pos hh] at h3;omega
 ·split at h1
  ·omega
  ·rw[if_neg (by omega)] at h1
   omega
theorem Dw{d:Nat}{e a b:Ex}(h:aT d e=true)(hk:e.kids=[a,b])(h2:¬(e.op=12\/e.op=13)):3<=e.op/\e.op<=10:=by
 obtain⟨h1,h3,h4,h5⟩:=dd h
 rw[hk] at h1 h3
 simp only[loK,hiK,RN,List.length_nil] at h1 h3
 split at h3
 ·omega
 ·split at h3<;>omega
section
variable {l:List Fd} {k:Nat} {v:List Sc5} {s s':S5} {r:O5 Int}
end
end
section
def Bz(x:Sm)(n:Int):Bool:=match x.args with|a::_=>isN a n|[]=>false
def JH(x:Sm):Bool:=match x.args with|a::_=>decide (a.op=1)|[]=>false
def tY(x:Sm):Bool:=decide (x.op=6)&&Bz x 0
mutual
def fv:Sm->Sm
 | .mk o s a bd el=> .mk o s a
   (if o=5/\Bz (.mk o s a bd el) 0=true then[] else bg bd)
   (if o=5/\Bz (.mk o s a bd el) 0=false/\JH (.mk o s a bd el)=true then[] else bg el)
def bg:List Sm->List Sm
 |[]=>[]
 |s::r=>if tY s=true then bg r else fv s::(if s.op=7 then[] else bg r)
end
theorem mh(s:Sm)(r:List Sm):bg (s::r)=if tY s=true then bg r else fv s::(if s.op=7 then[] else bg r):=by rw[bg]
def Pl(f:Fd):Fd:=⟨f.name,f.params,bg f.body⟩
def Pe(l:List Fd):List Fd:=l.map Pl
theorem Lu(x:Sm):(fv x).op=x.op:=by cases x;rw[fv];rfl
theorem Hb(x:Sm):(fv x).name=x.name:=by cases x;rw[fv];rfl
theorem FZ(x:Sm):(fv x).args=x.args:=by cases x;rw[fv];rfl
theorem Ld(x:Sm):(fv x).body=if x.op=5/\Bz x 0=true then[] else bg x.body:=by cases x;rw[fv];rfl
theorem Jk(x:Sm):(fv x).els=if x.op=5/\Bz x 0=false/\JH x=true then[] else bg x.els:=by cases x;rw[fv];rfl
section
variable {l:List Fd} {k:Nat} {v v':List Sc5} {s s':S5} {x:Sm} {r:O5 (Option Int)}
end
end
section
abbrev BL:Nat:=9223372036854775807
mutual
def Ex.fit:Ex->Prop
 | .mk _ _ s k=>s.length<=BL/\k.length<=BL/\ma k
def ma:List Ex->Prop
 |[]=>True
 |e::r=>e.fit/\ma r
end
mutual
def Sm.fit:Sm->Prop
 | .mk _ s a b e=>s.length<=BL/\(a.length<=BL/\ma a)/\(b.length<=BL/\jx b)/\(e.length<=BL/\jx e)
def jx:List Sm->Prop
 |[]=>True
 |s::r=>s.fit/\jx r
end
def Fd.fit(f:Fd):Prop:=f.name.length<=BL/\(f.params.length<=BL/\∀x∈f.params,x.length<=BL)/\(f.body.length<=BL/\jx f.body)
theorem pF:∀{l:List Ex} {e:Ex},ma l->e∈l->e.fit
 |x::r,e,h,hm=>by
  rcases Sa.1 hm with rfl|hm
  ·exact h.1
  ·exact pF h.2 hm
theorem pJ:∀{l:List Sm} {e:Sm},jx l->e∈l->e.fit
 |x::r,e,h,hm=>by
  rcases Sa.1 hm with rfl|hm
  ·exact h.1
  ·exact pJ h.2 hm
theorem Ex.fit_eq(e:Ex):e.fit=(e.name.length<=BL/\e.kids.length<=BL/\ma e.kids):=by cases e;rfl
theorem Sm.fit_eq(s:Sm):s.fit=(s.name.length<=BL/\(s.args.length<=BL/\ma s.args)/\(s.body.length<=BL/\jx s.body)/\(s.els.length<=BL/\jx s.els)):=by cases s;rfl
theorem Fd.cs_eq'(f:Fd):f.cs=[.str f.name,aE f.params,smL f.body]:=rfl
def dw(ss:List Nat)(i:Nat):Nat:=ss.length+((ss.take i).map (· -1)).sum
theorem sQ(ss:List Nat):dw ss 0=ss.length:=by simp[dw]
theorem ty{ss:List Nat}{i v:Nat}(h:ss[i]?=some v):dw ss (i+1)=dw ss i+(v-1):=by
 rw[dw,dw,List.take_add_one,h,Sw,List.sum_append];simp;omega
theorem Bq:∀{ss:List Nat},(∀v∈ss,1<=v)->ss.length+(ss.map (· -1)).sum=ss.sum
 |[],_=>rfl
 |v::r,h=>by
  have:=Bq (ss:=r) λx hx=>h x (by simp[hx])
  have h1:=h v (by simp)
  simp only[RN,Sb,List.sum_cons];omega
theorem yO{ss:List Nat}(h:∀v∈ss,1<=v){i:Nat}(hi:ss.length<=i):dw ss i=ss.sum:=by
 rw[dw,RF hi,Bq h]
theorem Bp{ss:List Nat}(h:∀v∈ss,1<=v)(i:Nat):dw ss i<=ss.sum:=by
 rw[←Bq h,dw]
 have:(ss.map (· -1)).sum=((ss.take i).map (· -1)).sum+((ss.drop i).map (· -1)).sum:=by
  conv=>lhs;rw[←Si i ss,Sw,List.sum_append]
 omega
theorem BG:∀l:List Ex,cb l=(l.map Ex.sz).sum
 |[]=>rfl
 |e::r=>by simp only[cb,Sb,List.sum_cons,BG r]
theorem Cq:∀l:List Sm,aF l=(l.map Sm.sz).sum
 |[]=>rfl
 |e::r=>by simp only[aF,Sb,List.sum_cons,Cq r]
theorem HQ(l:List Fd):bt l=(l.map Fd.sz).sum:=rfl
theorem Ex.sz_pos(e:Ex):1<=e.sz:=by rw[e.sz_eq];omega
theorem Sm.sz_pos(e:Sm):1<=e.sz:=by rw[e.sz_eq];omega
theorem Fd.sz_pos(f:Fd):1<=f.sz:=by unfold Fd.sz;omega
def bG(left z:Nat):Int:=if z<=left then((left-z:Nat):Int) else-1
variable (G:ay)
theorem Ai(l:List Ex)(left:Nat)(hl:left<=1048576)(hb:l.length<=BL)(H:∀e∈l,∀left:Nat,left<=1048576->VF Tryz.prog G ig [.agg (e.cs.map .p),.p (.int .i64 left)] (.p (.int .i64 (bG left (e.sz-1))))):
 VF Tryz.prog G eh [.p (exL l),.p (.int .i64 left)] (.p (.int .i64 (bG left (cb l)))):=by
 refine AC.go uR ?_
 have hpos:∀v∈l.map Ex.sz,1<=v:=λv hv=>by obtain⟨e,_,rfl⟩:=RP.1 hv;exact e.sz_pos
 have hz:=BG l
 have hal:=λi (hi:l.length<=i)=>yO hpos (i:=i) (by rw[RM];exact hi)
 have hle:=Bp hpos
 have h00:dw (l.map Ex.sz) 0=l.length:=by rw[sQ,RM]
 rw[←hz] at hal hle
 have hsl:∀l,exL l= .lst 4 (l.map Ex.cs):=λ_=>rfl
 have hw:IntKind.i64.wrap ((left:Int)-l.length)=(left:Int)-l.length:=ah (by simp only[BL] at hb;omega) (by omega)
 by_cases h:l.length<=left
 case neg=>
  have h1:(left:Int)-l.length<0:=by omega
  have:=hle 0
  have h2:bG left (cb l)= -1:=if_neg (by omega)
  simp-implicitDefEqProofs[jX,hsl,hw,h1,h2]
 have h1:¬(left:Int)-l.length<0:=by omega
 simp-implicitDefEqProofs[jX,hsl,hw,h1]
 refine az (λi:Nat=>am 27 [(0,.p (exL l)),(1,.p (.int .i64 ((left-dw (l.map Ex.sz) i:Nat):Int))),(5,.p (.int .i64 i))]) (λ_=>[]) (λi=>i<=l.length/\dw (l.map Ex.sz) i<=left) (λi=>l.length-i) 0 ⟨by omega,by rw[h00];exact h⟩ ?_ ?_
 ·refine aK rfl ?_
  simp only[h00]
  simp[below,hsl]
  omega
 ·intro i ⟨hi,hx⟩
  simp-implicitDefEqProofs[hsl]
  refine aY (λh1=>?_) (λh1=>?_)
  ·simp at h1
   have hg:=Rv h1
   have hsu:=ty (ss:=l.map Ex.sz) (i:=i) (v:=l[i].sz) (by rw[RH,hg];rfl)
   have hH:=H l[i] (RB h1) (left-dw (l.map Ex.sz) i) (by omega)
   have hcs:l[i].cs.length=4:=by simp
   have hle1:=hle (i+1)
   generalize l[i]=e at hg hsu hH hcs
   simp-implicitDefEqProofs[hg,hcs]
   refine hH.use ?_
   by_cases h2:e.sz-1<=left-dw (l.map Ex.sz) i
   ·have e2:bG (left-dw (l.map Ex.sz) i) (e.sz-1)=((left-dw (l.map Ex.sz) (i+1):Nat):Int):=by rw[bG,if_pos h2];omega
    have h3:¬((left-dw (l.map Ex.sz) (i+1):Nat):Int)<0:=by omega
    rw[e2]
    simp-implicitDefEqProofs[h3]
    refine⟨i+1,⟨h1,by omega⟩,by omega,aK rfl (by simp[below,hsl,w1 (i:=i) (by simp only[BL] at hb;omega)])⟩
   ·have e2:bG (left-dw (l.map Ex.sz) i) (e.sz-1)= -1:=if_neg h2
    have e3:bG left (cb l)= -1:=if_neg (by omega)
    rw[e2,e3]
    simp-implicitDefEqProofs[]
  ·simp at h1
   have hta:=hal i h1
   have h5:bG left (cb l)=((left-dw (l.map Ex.sz) i:Nat):Int):=by rw[hta,bG,if_pos (by omega)]
   simp-implicitDefEqProofs[h5]
theorem zV(l:List Ex)(hb:l.length<=1048576)(H:∀e∈l,VF Tryz.prog G dQ [.agg (e.cs.map .p)] (.agg (e.cs.map .p))):VF Tryz.prog G bQ [.p (exL l)] (.p (exL l)):=by
 have hsl:∀l,exL l= .lst 4 (l.map Ex.cs):=λ_=>rfl
 have key:AC Tryz.prog G bQ [.p (exL l)] [] λx h=>x= .ret (.sl 0 4 0 l.length)/\h=[.row 4 (l.map λe=>e.cs.map .p)]:=by
  refine AC.go ny ?_
  have hn:(l.map λe=>e.cs.map AV.p).length=l.length:=by simp
  simp-implicitDefEqProofs[jv,hsl]
  refine⟨by omega,?_⟩
  refine az (λi:Nat=>am 23 [(0,.p (exL l)),(3,.sl 0 4 0 l.length),(4,.p (.int .i64 i))]) (λi=>[.row 4 ((l.map λe=>e.cs.map AV.p).take i++List.replicate (l.length-i) [.p (.int .i64 0),.p (.int .i64 0),.p (.str []),.nils])]) (λi=>i<=l.length) (λi=>l.length-i) 0 (by simp) ?_ ?_
  ·refine dt [0] rfl (by simp) (aU (by simp) (by simp[below]) bJ) ?_
   simp[below,ren,hsl]
  ·intro i hi
   simp-implicitDefEqProofs[hsl]
   refine aY (λh1=>?_) (λh1=>?_)
   ·simp at h1
    have hg:=Rv h1
    have hg2:=uU (z:=([.p (.int .i64 0),.p (.int .i64 0),.p (.str []),.nils]:List AV)) hn h1
    have hset:=sy (z:=([.p (.int .i64 0),.p (.int .i64 0),.p (.str []),.nils]:List AV)) (v:=l[i].cs.map AV.p) hn h1 (by rw[RH,hg];rfl)
    have hH:=H l[i] (RB h1)
    have hcs:=l[i].cs_eq
    have htl:(List.take i (l.map λ(e:Ex)=>e.cs.map AV.p)++List.replicate (l.length-i) ([.p (.int .i64 0),.p (.int .i64 0),.p (.str []),.nils]:List AV)).length=l.length:=by simp;omega
    generalize l[i]=e at hg hset hH hcs
    generalize hRow:(List.take i (l.map λ(e:Ex)=>e.cs.map AV.p)++List.replicate (l.length-i) ([.p (.int .i64 0),.p (.int .i64 0),.p (.str []),.nils]:List AV))=Rw at hg2 hset htl⊢
    rw[hcs] at hH hset
    simp-implicitDefEqProofs[hg,hcs]
    refine hH.use ?_
    simp-implicitDefEqProofs[hg2,h1,eA]
    simp only[Sb,List.map_nil] at hset
    rw[hset]
    refine⟨i+1,h1,by omega,dt [0] rfl (by simp) (aU rfl ?_ bJ) ?_⟩
    ·intro x hx
     rcases RG.1 hx with hx|hx
     ·obtain⟨y,_,rfl⟩:=RP.1 (Sn hx);simp
     ·rw[(SF.1 hx).2];simp[below]
    ·simp[below,ren,hsl,w1 (i:=i) (by omega)]
   ·simp at h1
    have hie:i=l.length:=by omega
    subst hie
    rw[SG,List.replicate_zero,Sd,RF (by rw[hn];exact RC _)]
    simp-implicitDefEqProofs[]
 refine AC.freeze key (.one ?_ .nil)
 have:=iA (h:=[.row 4 (l.map λe=>e.cs.map .p)]) (id:=0) (sz:=4) (n:=l.length) (ls:=l.map Ex.cs) (by simp) (by simp) (λx hx=>by obtain⟨b,_,rfl⟩:=RP.1 hx;simp)
 exact this
theorem At(l:List Ex)(hb:l.length<=1048576)(H:∀e∈l,VF Tryz.prog G io [.agg (e.cs.map .p),.agg (e.cs.map .p)] (.p (.bool true))):VF Tryz.prog G eB [.p (exL l),.p (exL l)] (.p (.bool true)):=by
 refine AC.go yi ?_
 have hsl:∀l,exL l= .lst 4 (l.map Ex.cs):=λ_=>rfl
 simp-implicitDefEqProofs[nM,hsl]
 refine az (λi:Nat=>am 27 [(0,.p (exL l)),(1,.p (exL l)),(5,.p (.int .i64 i))]) (λ_=>[]) (λi=>i<=l.length) (λi=>l.length-i) 0 (by simp) ?_ ?_
 ·exact aK rfl (by simp[below,hsl])
 intro i hi
 simp-implicitDefEqProofs[hsl]
 refine aY (λh1=>?_) (λh1=>?_)
 ·simp at h1
  have hg:=Rv h1
  have hH:=H l[i] (RB h1)
  have hcs:l[i].cs.length=4:=by simp
  generalize l[i]=e at hg hH hcs
  simp-implicitDefEqProofs[hg,hcs]
  refine hH.use ?_
  simp-implicitDefEqProofs[]
  exact⟨i+1,h1,by omega,aK rfl (by simp[below,hsl,w1 (i:=i) (by omega)])⟩
 ·simp at h1
  simp-implicitDefEqProofs[]
theorem Af(l:List Sm)(left:Nat)(hl:left<=1048576)(hb:l.length<=BL)(H:∀e∈l,∀left:Nat,left<=1048576->VF Tryz.prog G iw [.agg (e.cs.map .p),.p (.int .i64 left)] (.p (.int .i64 (bG left (e.sz-1))))):
 VF Tryz.prog G cA [.p (smL l),.p (.int .i64 left)] (.p (.int .i64 (bG left (aF l)))):=by
 refine AC.go vj ?_
 have hpos:∀v∈l.map Sm.sz,1<=v:=λv hv=>by obtain⟨e,_,rfl⟩:=RP.1 hv;exact e.sz_pos
 have hz:=Cq l
 have hal:=λi (hi:l.length<=i)=>yO hpos (i:=i) (by rw[RM];exact hi)
 have hle:=Bp hpos
 have h00:dw (l.map Sm.sz) 0=l.length:=by rw[sQ,RM]
 rw[←hz] at hal hle
 have hsl:∀l,smL l= .lst 5 (l.map Sm.cs):=λ_=>rfl
 have hw:IntKind.i64.wrap ((left:Int)-l.length)=(left:Int)-l.length:=ah (by simp only[BL] at hb;omega) (by omega)
 by_cases h:l.length<=left
 case neg=>
  have h1:(left:Int)-l.length<0:=by omega
  have:=hle 0
  have h2:bG left (aF l)= -1:=if_neg (by omega)
  simp-implicitDefEqProofs[jD,hsl,hw,h1,h2]
 have h1:¬(left:Int)-l.length<0:=by omega
 simp-implicitDefEqProofs[jD,hsl,hw,h1]
 refine az (λi:Nat=>am 27 [(0,.p (smL l)),(1,.p (.int .i64 ((left-dw (l.map Sm.sz) i:Nat):Int))),(5,.p (.int .i64 i))]) (λ_=>[]) (λi=>i<=l.length/\dw (l.map Sm.sz) i<=left) (λi=>l.length-i) 0 ⟨by omega,by rw[h00];exact h⟩ ?_ ?_
 ·refine aK rfl ?_
  simp only[h00]
  simp[below,hsl]
  omega
 ·intro i ⟨hi,hx⟩
  simp-implicitDefEqProofs[hsl]
  refine aY (λh1=>?_) (λh1=>?_)
  ·simp at h1
   have hg:=Rv h1
   have hsu:=ty (ss:=l.map Sm.sz) (i:=i) (v:=l[i].sz) (by rw[RH,hg];rfl)
   have hH:=H l[i] (RB h1) (left-dw (l.map Sm.sz) i) (by omega)
   have hcs:l[i].cs.length=5:=by simp
   have hle1:=hle (i+1)
   generalize l[i]=e at hg hsu hH hcs
   simp-implicitDefEqProofs[hg,hcs]
   refine hH.use ?_
   by_cases h2:e.sz-1<=left-dw (l.map Sm.sz) i
   ·have e2:bG (left-dw (l.map Sm.sz) i) (e.sz-1)=((left-dw (l.map Sm.sz) (i+1):Nat):Int):=by rw[bG,if_pos h2];omega
    have h3:¬((left-dw (l.map Sm.sz) (i+1):Nat):Int)<0:=by omega
    rw[e2]
    simp-implicitDefEqProofs[h3]
    refine⟨i+1,⟨h1,by omega⟩,by omega,aK rfl (by simp[below,hsl,w1 (i:=i) (by simp only[BL] at hb;omega)])⟩
   ·have e2:bG (left-dw (l.map Sm.sz) i) (e.sz-1)= -1:=if_neg h2
    have e3:bG left (aF l)= -1:=if_neg (by omega)
    rw[e2,e3]
    simp-implicitDefEqProofs[]
  ·simp at h1
   have hta:=hal i h1
   have h5:bG left (aF l)=((left-dw (l.map Sm.sz) i:Nat):Int):=by rw[hta,bG,if_pos (by omega)]
   simp-implicitDefEqProofs[h5]
theorem te(l:List Sm)(hb:l.length<=1048576)(H:∀e∈l,VF Tryz.prog G dP [.agg (e.cs.map .p)] (.agg (e.cs.map .p))):VF Tryz.prog G bu [.p (smL l)] (.p (smL l)):=by
 have hsl:∀l,smL l= .lst 5 (l.map Sm.cs):=λ_=>rfl
 have key:AC Tryz.prog G bu [.p (smL l)] [] λx h=>x= .ret (.sl 0 5 0 l.length)/\h=[.row 5 (l.map λe=>e.cs.map .p)]:=by
  refine AC.go mP ?_
  have hn:(l.map λe=>e.cs.map AV.p).length=l.length:=by simp
  simp-implicitDefEqProofs[jK,hsl]
  refine⟨by omega,?_⟩
  refine az (λi:Nat=>am 23 [(0,.p (smL l)),(3,.sl 0 5 0 l.length),(4,.p (.int .i64 i))]) (λi=>[.row 5 ((l.map λe=>e.cs.map AV.p).take i++List.replicate (l.length-i) [.p (.int .i64 0),.p (.str []),.nils,.nils,.nils])]) (λi=>i<=l.length) (λi=>l.length-i) 0 (by simp) ?_ ?_
  ·refine dt [0] rfl (by simp) (aU (by simp) (by simp[below]) bJ) ?_
   simp[below,ren,hsl]
  ·intro i hi
   simp-implicitDefEqProofs[hsl]
   refine aY (λh1=>?_) (λh1=>?_)
   ·simp at h1
    have hg:=Rv h1
    have hg2:=uU (z:=([.p (.int .i64 0),.p (.str []),.nils,.nils,.nils]:List AV)) hn h1
    have hset:=sy (z:=([.p (.int .i64 0),.p (.str []),.nils,.nils,.nils]:List AV)) (v:=l[i].cs.map AV.p) hn h1 (by rw[RH,hg];rfl)
    have hH:=H l[i] (RB h1)
    have hcs:=l[i].cs_eq
    have htl:(List.take i (l.map λ(e:Sm)=>e.cs.map AV.p)++List.replicate (l.length-i) ([.p (.int .i64 0),.p (.str []),.nils,.nils,.nils]:List AV)).length=l.length:=by simp;omega
    generalize l[i]=e at hg hset hH hcs
    generalize hRow:(List.take i (l.map λ(e:Sm)=>e.cs.map AV.p)++List.replicate (l.length-i) ([.p (.int .i64 0),.p (.str []),.nils,.nils,.nils]:List AV))=Rw at hg2 hset htl⊢
    rw[hcs] at hH hset
    simp-implicitDefEqProofs[hg,hcs]
    refine hH.use ?_
    simp-implicitDefEqProofs[hg2,h1,eA]
    simp only[Sb,List.map_nil] at hset
    rw[hset]
    refine⟨i+1,h1,by omega,dt [0] rfl (by simp) (aU rfl ?_ bJ) ?_⟩
    ·intro x hx
     rcases RG.1 hx with hx|hx
     ·obtain⟨y,_,rfl⟩:=RP.1 (Sn hx);simp
     ·rw[(SF.1 hx).2];simp[below]
    ·simp[below,ren,hsl,w1 (i:=i) (by omega)]
   ·simp at h1
    have hie:i=l.length:=by omega
    subst hie
    rw[SG,List.replicate_zero,Sd,RF (by rw[hn];exact RC _)]
    simp-implicitDefEqProofs[]
 refine AC.freeze key (.one ?_ .nil)
 have:=iA (h:=[.row 5 (l.map λe=>e.cs.map .p)]) (id:=0) (sz:=5) (n:=l.length) (ls:=l.map Sm.cs) (by simp) (by simp) (λx hx=>by obtain⟨b,_,rfl⟩:=RP.1 hx;simp)
 exact this
theorem tg(l:List Sm)(hb:l.length<=1048576)(H:∀e∈l,VF Tryz.prog G iq [.agg (e.cs.map .p),.agg (e.cs.map .p)] (.p (.bool true))):VF Tryz.prog G du [.p (smL l),.p (smL l)] (.p (.bool true)):=by
 refine AC.go yB ?_
 have hsl:∀l,smL l= .lst 5 (l.map Sm.cs):=λ_=>rfl
 simp-implicitDefEqProofs[nw,hsl]
 refine az (λi:Nat=>am 27 [(0,.p (smL l)),(1,.p (smL l)),(5,.p (.int .i64 i))]) (λ_=>[]) (λi=>i<=l.length) (λi=>l.length-i) 0 (by simp) ?_ ?_
 ·exact aK rfl (by simp[below,hsl])
 intro i hi
 simp-implicitDefEqProofs[hsl]
 refine aY (λh1=>?_) (λh1=>?_)
 ·simp at h1
  have hg:=Rv h1
  have hH:=H l[i] (RB h1)
  have hcs:l[i].cs.length=5:=by simp
  generalize l[i]=e at hg hH hcs
  simp-implicitDefEqProofs[hg,hcs]
  refine hH.use ?_
  simp-implicitDefEqProofs[]
  exact⟨i+1,h1,by omega,aK rfl (by simp[below,hsl,w1 (i:=i) (by omega)])⟩
 ·simp at h1
  simp-implicitDefEqProofs[]
theorem LB(l:List Fd)(left:Nat)(hl:left<=1048576)(hb:l.length<=BL)(H:∀e∈l,∀left:Nat,left<=1048576->VF Tryz.prog G kw [.agg (e.cs.map .p),.p (.int .i64 left)] (.p (.int .i64 (bG left (e.sz-1))))):
 VF Tryz.prog G mj [.p (fdL l),.p (.int .i64 left)] (.p (.int .i64 (bG left (bt l)))):=by
 refine AC.go AS ?_
 have hpos:∀v∈l.map Fd.sz,1<=v:=λv hv=>by obtain⟨e,_,rfl⟩:=RP.1 hv;exact e.sz_pos
 have hz:=HQ l
 have hal:=λi (hi:l.length<=i)=>yO hpos (i:=i) (by rw[RM];exact hi)
 have hle:=Bp hpos
 have h00:dw (l.map Fd.sz) 0=l.length:=by rw[sQ,RM]
 rw[←hz] at hal hle
 have hsl:∀l,fdL l= .lst 3 (l.map Fd.cs):=λ_=>rfl
 have hw:IntKind.i64.wrap ((left:Int)-l.length)=(left:Int)-l.length:=ah (by simp only[BL] at hb;omega) (by omega)
 by_cases h:l.length<=left
 case neg=>
  have h1:(left:Int)-l.length<0:=by omega
  have:=hle 0
  have h2:bG left (bt l)= -1:=if_neg (by omega)
  simp-implicitDefEqProofs[lY,hsl,hw,h1,h2]
 have h1:¬(left:Int)-l.length<0:=by omega
 simp-implicitDefEqProofs[lY,hsl,hw,h1]
 refine az (λi:Nat=>am 27 [(0,.p (fdL l)),(1,.p (.int .i64 ((left-dw (l.map Fd.sz) i:Nat):Int))),(5,.p (.int .i64 i))]) (λ_=>[]) (λi=>i<=l.length/\dw (l.map Fd.sz) i<=left) (λi=>l.length-i) 0 ⟨by omega,by rw[h00];exact h⟩ ?_ ?_
 ·refine aK rfl ?_
  simp only[h00]
  simp[below,hsl]
  omega
 ·intro i ⟨hi,hx⟩
  simp-implicitDefEqProofs[hsl]
  refine aY (λh1=>?_) (λh1=>?_)
  ·simp at h1
   have hg:=Rv h1
   have hsu:=ty (ss:=l.map Fd.sz) (i:=i) (v:=l[i].sz) (by rw[RH,hg];rfl)
   have hH:=H l[i] (RB h1) (left-dw (l.map Fd.sz) i) (by omega)
   have hcs:l[i].cs.length=3:=by simp
   have hle1:=hle (i+1)
   generalize l[i]=e at hg hsu hH hcs
   simp-implicitDefEqProofs[hg,hcs]
   refine hH.use ?_
   by_cases h2:e.sz-1<=left-dw (l.map Fd.sz) i
   ·have e2:bG (left-dw (l.map Fd.sz) i) (e.sz-1)=((left-dw (l.map Fd.sz) (i+1):Nat):Int):=by rw[bG,if_pos h2];omega
    have h3:¬((left-dw (l.map Fd.sz) (i+1):Nat):Int)<0:=by omega
    rw[e2]
    simp-implicitDefEqProofs[h3]
    refine⟨i+1,⟨h1,by omega⟩,by omega,aK rfl (by simp[below,hsl,w1 (i:=i) (by simp only[BL] at hb;omega)])⟩
   ·have e2:bG (left-dw (l.map Fd.sz) i) (e.sz-1)= -1:=if_neg h2
    have e3:bG left (bt l)= -1:=if_neg (by omega)
    rw[e2,e3]
    simp-implicitDefEqProofs[]
  ·simp at h1
   have hta:=hal i h1
   have h5:bG left (bt l)=((left-dw (l.map Fd.sz) i:Nat):Int):=by rw[hta,bG,if_pos (by omega)]
   simp-implicitDefEqProofs[h5]
theorem Mw(l:List Fd)(hb:l.length<=1048576)(H:∀e∈l,VF Tryz.prog G fZ [.agg (e.cs.map .p)] (.agg (e.cs.map .p))):VF Tryz.prog G gu [.p (fdL l)] (.p (fdL l)):=by
 have hsl:∀l,fdL l= .lst 3 (l.map Fd.cs):=λ_=>rfl
 have key:AC Tryz.prog G gu [.p (fdL l)] [] λx h=>x= .ret (.sl 0 3 0 l.length)/\h=[.row 3 (l.map λe=>e.cs.map .p)]:=by
  refine AC.go sD ?_
  have hn:(l.map λe=>e.cs.map AV.p).length=l.length:=by simp
  simp-implicitDefEqProofs[mv,hsl]
  refine⟨by omega,?_⟩
  refine az (λi:Nat=>am 23 [(0,.p (fdL l)),(3,.sl 0 3 0 l.length),(4,.p (.int .i64 i))]) (λi=>[.row 3 ((l.map λe=>e.cs.map AV.p).take i++List.replicate (l.length-i) [.p (.str []),.nils,.nils])]) (λi=>i<=l.length) (λi=>l.length-i) 0 (by simp) ?_ ?_
  ·refine dt [0] rfl (by simp) (aU (by simp) (by simp[below]) bJ) ?_
   simp[below,ren,hsl]
  ·intro i hi
   simp-implicitDefEqProofs[hsl]
   refine aY (λh1=>?_) (λh1=>?_)
   ·simp at h1
    have hg:=Rv h1
    have hg2:=uU (z:=([.p (.str []),.nils,.nils]:List AV)) hn h1
    have hset:=sy (z:=([.p (.str []),.nils,.nils]:List AV)) (v:=l[i].cs.map AV.p) hn h1 (by rw[RH,hg];rfl)
    have hH:=H l[i] (RB h1)
    have hcs:=l[i].cs_eq'
    have htl:(List.take i (l.map λ(e:Fd)=>e.cs.map AV.p)++List.replicate (l.length-i) ([.p (.str []),.nils,.nils]:List AV)).length=l.length:=by simp;omega
    generalize l[i]=e at hg hset hH hcs
    generalize hRow:(List.take i (l.map λ(e:Fd)=>e.cs.map AV.p)++List.replicate (l.length-i) ([.p (.str []),.nils,.nils]:List AV))=Rw at hg2 hset htl⊢
    rw[hcs] at hH hset
    simp-implicitDefEqProofs[hg,hcs]
    refine hH.use ?_
    simp-implicitDefEqProofs[hg2,h1,eA]
    simp only[Sb,List.map_nil] at hset
    rw[hset]
    refine⟨i+1,h1,by omega,dt [0] rfl (by simp) (aU rfl ?_ bJ) ?_⟩
    ·intro x hx
     rcases RG.1 hx with hx|hx
     ·obtain⟨y,_,rfl⟩:=RP.1 (Sn hx);simp
     ·rw[(SF.1 hx).2];simp[below]
    ·simp[below,ren,hsl,w1 (i:=i) (by omega)]
   ·simp at h1
    have hie:i=l.length:=by omega
    subst hie
    rw[SG,List.replicate_zero,Sd,RF (by rw[hn];exact RC _)]
    simp-implicitDefEqProofs[]
 refine AC.freeze key (.one ?_ .nil)
 have:=iA (h:=[.row 3 (l.map λe=>e.cs.map .p)]) (id:=0) (sz:=3) (n:=l.length) (ls:=l.map Fd.cs) (by simp) (by simp) (λx hx=>by obtain⟨b,_,rfl⟩:=RP.1 hx;simp)
 exact this
theorem Lm(l:List Fd)(hb:l.length<=1048576)(H:∀e∈l,VF Tryz.prog G kf [.agg (e.cs.map .p),.agg (e.cs.map .p)] (.p (.bool true))):VF Tryz.prog G lX [.p (fdL l),.p (fdL l)] (.p (.bool true)):=by
 refine AC.go Bu ?_
 have hsl:∀l,fdL l= .lst 3 (l.map Fd.cs):=λ_=>rfl
 simp-implicitDefEqProofs[ro,hsl]
 refine az (λi:Nat=>am 27 [(0,.p (fdL l)),(1,.p (fdL l)),(5,.p (.int .i64 i))]) (λ_=>[]) (λi=>i<=l.length) (λi=>l.length-i) 0 (by simp) ?_ ?_
 ·exact aK rfl (by simp[below,hsl])
 intro i hi
 simp-implicitDefEqProofs[hsl]
 refine aY (λh1=>?_) (λh1=>?_)
 ·simp at h1
  have hg:=Rv h1
  have hH:=H l[i] (RB h1)
  have hcs:l[i].cs.length=3:=by simp
  generalize l[i]=e at hg hH hcs
  simp-implicitDefEqProofs[hg,hcs]
  refine hH.use ?_
  simp-implicitDefEqProofs[]
  exact⟨i+1,h1,by omega,aK rfl (by simp[below,hsl,w1 (i:=i) (by omega)])⟩
 ·simp at h1
  simp-implicitDefEqProofs[]
end
section
variable (G:ay)
theorem bB{left z:Nat}(h:¬z<=left):bG left z= -1:=if_neg h
theorem dU{left z:Nat}(h:z<=left):bG left z=((left-z:Nat):Int):=if_pos h
theorem Jp:∀(N:Nat) (e:Ex),e.sz<=N->e.fit->∀left:Nat,left<=1048576->VF Tryz.prog G ig [.agg (e.cs.map .p),.p (.int .i64 left)] (.p (.int .i64 (bG left (e.sz-1)))):=by
 intro N
 induction N with
 |zero=>intro e he;have:=e.sz_pos;omega
 |succ N ih=>
  intro e he hf left hl
  have hec:=e.cs_eq
  have hsz:=e.sz_eq
  rw[e.fit_eq] at hf
  obtain⟨f1,f2,f3⟩:=hf
  refine AC.go yZ ?_
  have hw:IntKind.i64.wrap ((left:Int)-e.name.length)=(left:Int)-e.name.length:=ah (by simp only[BL] at f1;omega) (by omega)
  by_cases h1:e.name.length<=left
  case neg=>
   have h2:(left:Int)-e.name.length<0:=by omega
   rw[bB (by omega)]
   simp-implicitDefEqProofs[kX,hec,hw,h2]
  have h2:¬(left:Int)-e.name.length<0:=by omega
  have e2:(left:Int)-e.name.length=((left-e.name.length:Nat):Int):=by omega
  have hS:=Ai G e.kids (left-e.name.length) (by omega) f2 (λx hx l hl=>ih x (by have:=aC hx;omega) (pF f3 hx) l hl)
  rw[e2] at h2
  replace hw:=hw.trans e2
  simp-implicitDefEqProofs[kX,hec,hw,h2]
  refine hS.use ?_
  by_cases h3:cb e.kids<=left-e.name.length
  ·have n3:¬((left-e.name.length-cb e.kids:Nat):Int)<0:=by omega
   rw[dU h3,dU (by omega)]
   simp-implicitDefEqProofs[n3]
   omega
  ·rw[bB h3,bB (by omega)]
   simp-implicitDefEqProofs[]
theorem GU(l:List Ex)(hf:ma l)(hb:l.length<=BL)(left:Nat)(hl:left<=1048576):VF Tryz.prog G eh [.p (exL l),.p (.int .i64 left)] (.p (.int .i64 (bG left (cb l)))):=
 Ai G l left hl hb (λe he l hl=>Jp G e.sz e (RC _) (pF hf he) l hl)
theorem JP:∀(N:Nat) (s:Sm),s.sz<=N->s.fit->∀left:Nat,left<=1048576->VF Tryz.prog G iw [.agg (s.cs.map .p),.p (.int .i64 left)] (.p (.int .i64 (bG left (s.sz-1)))):=by
 intro N
 induction N with
 |zero=>intro e he;have:=e.sz_pos;omega
 |succ N ih=>
  intro e he hf left hl
  have hec:=e.cs_eq
  have hsz:=e.sz_eq
  rw[e.fit_eq] at hf
  obtain⟨f1,⟨f2,f3⟩,⟨f4,f5⟩,f6,f7⟩:=hf
  have sub:∀l:List Sm,aF l<=N->jx l->l.length<=BL->∀left:Nat,left<=1048576->VF Tryz.prog G cA [.p (smL l),.p (.int .i64 left)] (.p (.int .i64 (bG left (aF l)))):=λl hz hf hb left hl=>
   Af G l left hl hb (λx hx l hl=>ih x (by have:=aQ hx;omega) (pJ hf hx) l hl)
  refine AC.go zn ?_
  have hw:IntKind.i64.wrap ((left:Int)-e.name.length)=(left:Int)-e.name.length:=ah (by simp only[BL] at f1;omega) (by omega)
  by_cases h1:e.name.length<=left
  case neg=>
   have h2:(left:Int)-e.name.length<0:=by omega
   rw[bB (by omega)]
   simp-implicitDefEqProofs[kF,hec,hw,h2]
  have h2:¬(left:Int)-e.name.length<0:=by omega
  have e2:(left:Int)-e.name.length=((left-e.name.length:Nat):Int):=by omega
  rw[e2] at h2
  replace hw:=hw.trans e2
  simp-implicitDefEqProofs[kF,hec,hw,h2]
  refine(GU G e.args f3 f2 (left-e.name.length) (by omega)).use ?_
  by_cases h3:cb e.args<=left-e.name.length
  case neg=>
   rw[bB h3,bB (by omega)]
   simp-implicitDefEqProofs[]
  have n3:¬((left-e.name.length-cb e.args:Nat):Int)<0:=by omega
  rw[dU h3]
  simp-implicitDefEqProofs[n3]
  refine(sub e.body (by omega) f5 f4 (left-e.name.length-cb e.args) (by omega)).use ?_
  by_cases h4:aF e.body<=left-e.name.length-cb e.args
  case neg=>
   rw[bB h4,bB (by omega)]
   simp-implicitDefEqProofs[]
  have n4:¬((left-e.name.length-cb e.args-aF e.body:Nat):Int)<0:=by omega
  rw[dU h4]
  simp-implicitDefEqProofs[n4]
  refine(sub e.els (by omega) f7 f6 (left-e.name.length-cb e.args-aF e.body) (by omega)).use ?_
  by_cases h5:aF e.els<=left-e.name.length-cb e.args-aF e.body
  case neg=>
   rw[bB h5,bB (by omega)]
   simp-implicitDefEqProofs[]
  have n5:¬((left-e.name.length-cb e.args-aF e.body-aF e.els:Nat):Int)<0:=by omega
  rw[dU h5,dU (by omega)]
  simp-implicitDefEqProofs[n5]
  omega
theorem GZ(l:List Sm)(hf:jx l)(hb:l.length<=BL)(left:Nat)(hl:left<=1048576):VF Tryz.prog G cA [.p (smL l),.p (.int .i64 left)] (.p (.int .i64 (bG left (aF l)))):=
 Af G l left hl hb (λe he l hl=>JP G e.sz e (RC _) (pJ hf he) l hl)
def mK(xs:List (List UInt8))(i:Nat):Nat:=((xs.take i).map List.length).sum
theorem Gj{xs:List (List UInt8)}{i:Nat}(h:i<xs.length):mK xs (i+1)=mK xs i+xs[i].length:=by
 show((xs.take (i+1)).map List.length).sum=((xs.take i).map List.length).sum+xs[i].length
 rw[aq h,Sw,List.sum_append]
 rfl
theorem JT{xs:List (List UInt8)}{i:Nat}(h:xs.length<=i):mK xs i=(xs.map List.length).sum:=by rw[mK,RF h]
theorem LG{xs:List (List UInt8)}{i:Nat}:mK xs i<=(xs.map List.length).sum:=by
 conv=>rhs;rw[←Si i xs,Sw,List.sum_append]
 simp[mK]
def szW(xs:List (List UInt8)):Nat:=xs.length+(xs.map List.length).sum
theorem CQ(xs:List (List UInt8))(left:Nat)(hl:left<=1048576)(hb:xs.length<=9223372036854775807)(hs:∀x∈xs,x.length<=9223372036854775807):VF Tryz.prog G gX [.p (aE xs),.p (.int .i64 left)] (.p (.int .i64 (if szW xs<=left then((left-szW xs:Nat):Int) else-1))):=by
 refine AC.go tr ?_
 have hw:IntKind.i64.wrap ((left:Int)-xs.length)=(left:Int)-xs.length:=ah (by omega) (by omega)
 have hsz:szW xs=xs.length+(xs.map List.length).sum:=rfl
 by_cases h:xs.length<=left
 case neg=>
  have h1:(left:Int)-xs.length<0:=by omega
  have h2:¬szW xs<=left:=by omega
  simp-implicitDefEqProofs[gU,aE,hw,h1,h2]
 have h1:¬(left:Int)-xs.length<0:=by omega
 simp-implicitDefEqProofs[gU,aE,hw,h1]
 refine az (λi:Nat=>am 28 [(0,.p (aE xs)),(1,.p (.int .i64 ((left-xs.length-mK xs i:Nat):Int))),(5,.p (.int .i64 i))]) (λ_=>[]) (λi=>i<=xs.length/\xs.length+mK xs i<=left) (λi=>xs.length-i) 0 (by simp[mK];omega) ?_ ?_
 ·refine aK rfl ?_
  simp[below,aE,mK]
  omega
 ·intro i ⟨hi,hx⟩
  simp-implicitDefEqProofs[aE]
  refine aY (λh1=>?_) (λh1=>?_)
  ·simp at h1
   have hg:=Rv h1
   have hle:=hs _ (RB h1)
   have hsu:=Gj h1
   have hsl:=LG (xs:=xs) (i:=i+1)
   have hw2:IntKind.i64.wrap (((left-xs.length-mK xs i:Nat):Int)-(xs[i].length:Int))=((left-xs.length-mK xs i:Nat):Int)-(xs[i].length:Int):=ah (by omega) (by omega)
   by_cases h2:xs.length+mK xs (i+1)<=left
   ·have h3:¬((left-xs.length-mK xs i:Nat):Int)-(xs[i].length:Int)<0:=by omega
    have h4:((left-xs.length-mK xs i:Nat):Int)-(xs[i].length:Int)=((left-xs.length-mK xs (i+1):Nat):Int):=by omega
    rw[h4] at h3
    replace hw2:=hw2.trans h4
    clear hle hsu hsl
    simp-implicitDefEqProofs[hg,hw2,h3]
    refine⟨i+1,⟨h1,h2⟩,by omega,aK rfl (by simp[below,aE,w1 (i:=i) (by omega)])⟩
   ·have h3:((left-xs.length-mK xs i:Nat):Int)-(xs[i].length:Int)<0:=by omega
    have h5:¬szW xs<=left:=by omega
    clear hle hsu hsl
    simp-implicitDefEqProofs[hg,hw2,h3,h5]
  ·simp at h1
   have hta:=JT (xs:=xs) h1
   have h5:szW xs<=left:=by omega
   have h6:((left-xs.length-mK xs i:Nat):Int)=((left-szW xs:Nat):Int):=by omega
   simp-implicitDefEqProofs[h5,h6]
theorem Nz(f:Fd)(hf:f.fit)(left:Nat)(hl:left<=1048576):VF Tryz.prog G kw [.agg (f.cs.map .p),.p (.int .i64 left)] (.p (.int .i64 (bG left (f.sz-1)))):=by
 obtain⟨f1,⟨f2,f3⟩,f4,f5⟩:=hf
 have hec:=f.cs_eq'
 have hsz:f.sz=1+f.name.length+szW f.params+aF f.body:=rfl
 refine AC.go De ?_
 have hw:IntKind.i64.wrap ((left:Int)-f.name.length)=(left:Int)-f.name.length:=ah (by simp only[BL] at f1;omega) (by omega)
 by_cases h1:f.name.length<=left
 case neg=>
  have h2:(left:Int)-f.name.length<0:=by omega
  rw[bB (by omega)]
  simp-implicitDefEqProofs[nc,hec,hw,h2]
 have h2:¬(left:Int)-f.name.length<0:=by omega
 have e2:(left:Int)-f.name.length=((left-f.name.length:Nat):Int):=by omega
 rw[e2] at h2
 replace hw:=hw.trans e2
 simp-implicitDefEqProofs[nc,hec,hw,h2]
 refine(CQ G f.params (left-f.name.length) (by omega) f2 f3).use ?_
 by_cases h3:szW f.params<=left-f.name.length
 case neg=>
  rw[if_neg h3,bB (by omega)]
  simp-implicitDefEqProofs[]
 have n3:¬((left-f.name.length-szW f.params:Nat):Int)<0:=by omega
 rw[if_pos h3]
 simp-implicitDefEqProofs[n3]
 refine(GZ G f.body f5 f4 (left-f.name.length-szW f.params) (by omega)).use ?_
 by_cases h4:aF f.body<=left-f.name.length-szW f.params
 case neg=>
  rw[bB h4,bB (by omega)]
  simp-implicitDefEqProofs[]
 have n4:¬((left-f.name.length-szW f.params-aF f.body:Nat):Int)<0:=by omega
 rw[dU h4,dU (by omega)]
 simp-implicitDefEqProofs[n4]
 omega
def NC(l:List Fd):Prop:=l.length<=BL/\∀f∈l,f.fit
theorem CY(l:List Fd)(hf:NC l)(left:Nat)(hl:left<=1048576):VF Tryz.prog G eM [.agg [.p (fdL l)],.p (.int .i64 left)] (.p (.int .i64 (bG left (bt l)))):=by
 have hS:=LB G l left hl hf.1 (λf hm left hl=>Nz G f (hf.2 f hm) left hl)
 refine AC.go sY ?_
 simp-implicitDefEqProofs[lO]
 refine hS.use ?_
 by_cases h:bt l<=left
 ·have n:¬((left-bt l:Nat):Int)<0:=by omega
  rw[dU h]
  simp-implicitDefEqProofs[n]
 ·rw[bB h]
  simp-implicitDefEqProofs[]
theorem IZ:∀(N:Nat) (e:Ex),e.sz<=N->e.sz<=1048576->VF Tryz.prog G dQ [.agg (e.cs.map .p)] (.agg (e.cs.map .p)):=by
 intro N
 induction N with
 |zero=>intro e he;have:=e.sz_pos;omega
 |succ N ih=>
  intro e he hb
  have hec:=e.cs_eq
  have hsz:=e.sz_eq
  have hkl:=aP e.kids
  have hS:=zV G e.kids (by omega) (λx hx=>ih x (by have:=aC hx;omega) (by have:=aC hx;omega))
  refine AC.go oV ?_
  simp-implicitDefEqProofs[kY,hec]
  refine hS.use ?_
  simp-implicitDefEqProofs[]
theorem GL(l:List Ex)(hb:cb l<=1048576):VF Tryz.prog G bQ [.p (exL l)] (.p (exL l)):=
 zV G l (by have:=aP l;omega) (λe he=>IZ G e.sz e (RC _) (by have:=aC he;omega))
theorem IX:∀(N:Nat) (e:Sm),e.sz<=N->e.sz<=1048576->VF Tryz.prog G dP [.agg (e.cs.map .p)] (.agg (e.cs.map .p)):=by
 intro N
 induction N with
 |zero=>intro e he;have:=e.sz_pos;omega
 |succ N ih=>
  intro e he hb
  have hec:=e.cs_eq
  have hsz:=e.sz_eq
  have h1:=bi e.body
  have h2:=bi e.els
  have hB:=te G e.body (by omega) (λx hx=>ih x (by have:=aQ hx;omega) (by have:=aQ hx;omega))
  have hE:=te G e.els (by omega) (λx hx=>ih x (by have:=aQ hx;omega) (by have:=aQ hx;omega))
  refine AC.go pk ?_
  simp-implicitDefEqProofs[kP,hec]
  refine(GL G e.args (by omega)).use ?_
  simp-implicitDefEqProofs[]
  refine hB.use ?_
  simp-implicitDefEqProofs[]
  refine hE.use ?_
  simp-implicitDefEqProofs[]
theorem Gl(l:List Sm)(hb:aF l<=1048576):VF Tryz.prog G bu [.p (smL l)] (.p (smL l)):=
 te G l (by have:=bi l;omega) (λe he=>IX G e.sz e (RC _) (by have:=aQ he;omega))
def lJ(l:List (List UInt8))(i:Nat):List (List UInt8):=l.take i++List.replicate (l.length-i) []
theorem He{l:List (List UInt8)}{i:Nat}(h:i<l.length):(lJ l i).set i l[i]=lJ l (i+1):=by
 have hl:(l.take i).length=i:=by simp;omega
 have e:l.length-i=(l.length-(i+1))+1:=by omega
 show(l.take i++List.replicate (l.length-i) []).set i l[i]=l.take (i+1)++List.replicate (l.length-(i+1)) []
 rw[List.set_append_right _ _ (by omega),hl,SG,e,List.replicate_succ,List.set_cons_zero,aq h,RT]
 rfl
theorem Gz{l:List (List UInt8)}{i:Nat}(h:i<l.length):(lJ l i)[i]?=some []:=by
 have hl:(l.take i).length=i:=by simp;omega
 rw[lJ,RI (by omega),hl,SG,List.getElem?_replicate,if_pos (by omega)]
theorem GN{l:List (List UInt8)}{i:Nat}(h:i<=l.length):(lJ l i).length=l.length:=by simp[lJ];omega
theorem tL(l:List (List UInt8))(hb:l.length<=1048576):AC Tryz.prog G dq [.p (aE l)] [] λx h=>x= .ret (.sl 0 1 0 l.length)/\h=[nC l]:=by
 refine AC.go sR ?_
 have hbl:aE l= .lst 1 (l.map λn=>[.str n]):=rfl
 simp-implicitDefEqProofs[lG,hbl]
 refine⟨by omega,?_⟩
 refine az (λi:Nat=>am 22 [(0,.p (aE l)),(3,.sl 0 1 0 l.length),(4,.p (.int .i64 i))]) (λi=>[nC (lJ l i)]) (λi=>i<=l.length) (λi=>l.length-i) 0 (by simp) ?_ ?_
 ·refine dt [0] rfl (by simp) (aU (by simp[lJ]) (by simp) bJ) ?_
  simp[below,ren,aE]
 ·intro i hi
  have hlen:=GN hi
  simp-implicitDefEqProofs[hbl]
  refine aY (λh1=>?_) (λh1=>?_)
  ·simp at h1
   have hg:=Rv h1
   have hg2:=Gz h1
   have hset:((lJ l i).map λn=>[AV.p (.str n)]).set i [.p (.str l[i])]=(lJ l (i+1)).map λn=>[AV.p (.str n)]:=by rw[←He h1,List.map_set]
   have hbo:nC (lJ l i)= .row 1 ((lJ l i).map λn=>[.p (.str n)]):=rfl
   clear hlen
   simp-implicitDefEqProofs[hg,hbo,hg2,h1,hset]
   refine⟨i+1,h1,by omega,dt [0] rfl (by simp) (aU rfl (by simp) bJ) ?_⟩
   simp[below,ren,aE,w1 (i:=i) (by omega)]
  ·simp at h1
   have:i=l.length:=by omega
   subst this
   simp-implicitDefEqProofs[lJ]
theorem Cr(l:List (List UInt8))(hb:l.length<=1048576):VF Tryz.prog G dq [.p (aE l)] (.p (aE l)):=AC.freeze (tL G l hb) (.one (ta rfl) .nil)
theorem MX(f:Fd)(hb:f.sz<=1048576):VF Tryz.prog G fZ [.agg (f.cs.map .p)] (.agg (f.cs.map .p)):=by
 have hec:=f.cs_eq'
 have hsz:f.sz=1+f.name.length+szW f.params+aF f.body:=rfl
 have hw:szW f.params=f.params.length+(f.params.map List.length).sum:=rfl
 refine AC.go ue ?_
 simp-implicitDefEqProofs[mV,hec]
 refine(Cr G f.params (by omega)).use ?_
 simp-implicitDefEqProofs[]
 refine(Gl G f.body (by omega)).use ?_
 simp-implicitDefEqProofs[]
theorem Dq(l:List Fd)(hb:bt l<=1048576):VF Tryz.prog G bL [.agg [.p (fdL l)]] (.agg [.p (fdL l)]):=by
 have hS:=Mw G l (by have:=cU l;omega) (λf hm=>MX G f (by have:=dr hm;omega))
 refine AC.go ln ?_
 simp-implicitDefEqProofs[gN]
 refine hS.use ?_
 simp-implicitDefEqProofs[]
theorem Iw:∀(N:Nat) (e:Ex),e.sz<=N->e.sz<=1048576->VF Tryz.prog G io [.agg (e.cs.map .p),.agg (e.cs.map .p)] (.p (.bool true)):=by
 intro N
 induction N with
 |zero=>intro e he;have:=e.sz_pos;omega
 |succ N ih=>
  intro e he hb
  have hec:=e.cs_eq
  have hsz:=e.sz_eq
  have hkl:=aP e.kids
  have hS:=At G e.kids (by omega) (λx hx=>ih x (by have:=aC hx;omega) (by have:=aC hx;omega))
  refine AC.go zE ?_
  simp-implicitDefEqProofs[oZ,hec]
  refine hS.use ?_
  simp-implicitDefEqProofs[]
theorem Gs(l:List Ex)(hb:cb l<=1048576):VF Tryz.prog G eB [.p (exL l),.p (exL l)] (.p (.bool true)):=
 At G l (by have:=aP l;omega) (λe he=>Iw G e.sz e (RC _) (by have:=aC he;omega))
theorem Iq:∀(N:Nat) (e:Sm),e.sz<=N->e.sz<=1048576->VF Tryz.prog G iq [.agg (e.cs.map .p),.agg (e.cs.map .p)] (.p (.bool true)):=by
 intro N
 induction N with
 |zero=>intro e he;have:=e.sz_pos;omega
 |succ N ih=>
  intro e he hb
  have hec:=e.cs_eq
  have hsz:=e.sz_eq
  have h1:=bi e.body
  have h2:=bi e.els
  have hB:=tg G e.body (by omega) (λx hx=>ih x (by have:=aQ hx;omega) (by have:=aQ hx;omega))
  have hE:=tg G e.els (by omega) (λx hx=>ih x (by have:=aQ hx;omega) (by have:=aQ hx;omega))
  refine AC.go zg ?_
  simp-implicitDefEqProofs[oS,hec]
  refine(Gs G e.args (by omega)).use ?_
  simp-implicitDefEqProofs[]
  refine hB.use ?_
  simp-implicitDefEqProofs[]
  refine hE.use ?_
  simp-implicitDefEqProofs[]
theorem FP(l:List Sm)(hb:aF l<=1048576):VF Tryz.prog G du [.p (smL l),.p (smL l)] (.p (.bool true)):=
 tg G l (by have:=bi l;omega) (λe he=>Iq G e.sz e (RC _) (by have:=aQ he;omega))
theorem BT(xs:List (List UInt8))(hb:xs.length<=1048576):VF Tryz.prog G gY [.p (aE xs),.p (aE xs)] (.p (.bool true)):=by
 refine AC.go tc ?_
 have hsl:aE xs= .lst 1 (xs.map λw=>[.str w]):=rfl
 simp-implicitDefEqProofs[lN,hsl]
 refine az (λi:Nat=>am 26 [(0,.p (aE xs)),(1,.p (aE xs)),(5,.p (.int .i64 i))]) (λ_=>[]) (λi=>i<=xs.length) (λi=>xs.length-i) 0 (by simp) (aK rfl (by simp[below,hsl])) ?_
 intro i hi
 simp-implicitDefEqProofs[hsl]
 refine aY (λh1=>?_) (λh1=>?_)
 ·simp at h1
  have hx:=Rv h1
  generalize xs[i]=v at hx
  simp-implicitDefEqProofs[hx]
  exact⟨i+1,h1,by omega,aK rfl (by simp[below,hsl,w1 (i:=i) (by omega)])⟩
 ·simp at h1
  simp-implicitDefEqProofs[]
theorem NM(f:Fd)(hb:f.sz<=1048576):VF Tryz.prog G kf [.agg (f.cs.map .p),.agg (f.cs.map .p)] (.p (.bool true)):=by
 have hec:=f.cs_eq'
 have hsz:f.sz=1+f.name.length+szW f.params+aF f.body:=rfl
 have hw:szW f.params=f.params.length+(f.params.map List.length).sum:=rfl
 refine AC.go Cu ?_
 simp-implicitDefEqProofs[tU,hec]
 refine(BT G f.params (by omega)).use ?_
 simp-implicitDefEqProofs[]
 refine(FP G f.body (by omega)).use ?_
 simp-implicitDefEqProofs[]
theorem tW(l:List Fd)(hb:bt l<=1048576):VF Tryz.prog G cr [.agg [.p (fdL l)],.agg [.p (fdL l)]] (.p (.bool true)):=by
 have hS:=Lm G l (by have:=cU l;omega) (λf hm=>NM G f (by have:=dr hm;omega))
 refine AC.go sI ?_
 simp-implicitDefEqProofs[lE]
 refine hS.use ?_
 simp-implicitDefEqProofs[]
end
section
theorem Ex.ext'{a b:Ex}(h1:a.op=b.op)(h2:a.n=b.n)(h3:a.name=b.name)(h4:a.kids=b.kids):a=b:=by
 cases a;cases b;simp only[Ex.op,Ex.n,Ex.name,Ex.kids] at*;subst h1 h2 h3 h4;rfl
theorem Sm.ext'{a b:Sm}(h1:a.op=b.op)(h2:a.name=b.name)(h3:a.args=b.args)(h4:a.body=b.body)(h5:a.els=b.els):a=b:=by
 cases a;cases b;simp only[Sm.op,Sm.name,Sm.args,Sm.body,Sm.els] at*;subst h1 h2 h3 h4 h5;rfl
variable (G:ay)
end
section
theorem Rh{o n:Int}{s:List UInt8}{ks:List Ex}{x:Ex}(hx:P5 o n s ks x):x.sz<=1+s.length+cb ks:=by
 rcases hx with rfl|⟨q,rfl,hq⟩|⟨a,ha,rfl⟩|⟨a,ha,c,hc,rfl⟩
 ·exact RC _
 ·simp only[me,Ex.sz,cb,List.length_nil];omega
 ·have:=aC ha;omega
 ·have h1:=aC ha
  have h2:=aC hc
  have h3:=a.sz_eq
  omega
mutual
theorem LE:∀e:Ex,(dm e).sz<=e.sz
 | .mk o n s ks=>by
   rw[dm,Ex.sz]
   have h1:=Rh (AU o n s (aX ks))
   have h2:=lM ks
   omega
theorem lM:∀l:List Ex,cb (aX l)<=cb l
 |[]=>RC _
 |e::r=>by
  have h1:=LE e
  have h2:=lM r
  rw[aX,cb,cb]
  omega
end
mutual
theorem Jl:∀x:Sm,(sk x).sz<=x.sz
 | .mk o s a bd el=>by
   rw[sk,Sm.sz,Sm.sz]
   have h1:=lM a
   have h2:=jg bd
   have h3:=jg el
   omega
theorem jg:∀l:List Sm,aF (aZ l)<=aF l
 |[]=>RC _
 |x::r=>by
  have h1:=Jl x
  have h2:=jg r
  rw[aZ,aF,aF]
  omega
end
theorem CW(g:Fd->Fd)(hg:∀f,(g f).sz<=f.sz):∀l:List Fd,bt (l.map g)<=bt l
 |[]=>RC _
 |f::r=>by
  have h1:=hg f
  have h2:=CW g hg r
  have e1:bt (f::r)=f.sz+bt r:=by simp[bt]
  have e2:bt ((f::r).map g)=(g f).sz+bt (r.map g):=by simp[bt]
  omega
theorem Jb(f:Fd):(Dj f).sz<=f.sz:=by
 have:=jg f.body
 simp only[Dj,Fd.sz];omega
theorem EA(l:List Fd):bt (eS l)<=bt l:=CW Dj Jb l
end
section
theorem zo:AK.whole fC=FK.ak fu:=rfl
variable (G:ay)
theorem mu(n:Int):VF Tryz.prog G dE [.p (.int .i64 n)] (.agg ((me n).cs.map .p)):=by
 have key:AC Tryz.prog G dE [.p (.int .i64 n)] [] λx h=>x= .ret (.agg [.p (.int .i64 1),.p (.int .i64 n),.p (.str []),.nils]):=by
  refine AC.go Bj ?_
  simp-implicitDefEqProofs[se]
 refine key.freezeR (λt v h e=>by cases e) λv h e=>?_
 cases e
 exact .agg (.one (.p _) (.one (.p _) (.one (.p _) (.one (.nils 4) .nil)))) .nil
theorem vh(e:Ex)(n:Int):VF Tryz.prog G cm [.agg (e.cs.map .p),.p (.int .i64 n)] (.p (.bool (isN e n))):=by
 refine AC.go Ce ?_
 by_cases h1:e.op=1
 ·simp-implicitDefEqProofs[mR,Ex.cs_eq,isN,h1]
 ·simp-implicitDefEqProofs[mR,Ex.cs_eq,isN,h1]
theorem nW(b:Bool):VF Tryz.prog G cy [.p (.bool b)] (.p (.int .i64 (tr5 b))):=by
 refine AC.go yG ?_
 cases b<;>simp-implicitDefEqProofs[nH,tr5]
def oN:Option Int->AV
 |some q=> .tup [.p (.int .i64 q),.p (.int .i64 0)]
 |none=> .tup [.p (.int .i64 0),.p (.int .i64 1)]
theorem LS(o a b:Int)(ho:3<=o)(h9:o<=9)(ha:V5 a)(hb:V5 b):VF Tryz.prog G mc [.p (.int .i64 o),.p (.int .i64 a),.p (.int .i64 b)] (oN (EL o a b)):=by
 obtain⟨a0,a1⟩:=ha
 obtain⟨b0,b1⟩:=hb
 refine AC.go Bs ?_
 have hm:a*b<=65025:=by
  have h1:=Int.mul_le_mul_of_nonneg_right a1 b0
  omega
 have hm0:0<=a*b:=Int.mul_nonneg a0 b0
 have ho':o=3\/o=4\/o=5\/o=6\/o=7\/o=8\/o=9:=by omega
 rcases ho' with rfl|rfl|rfl|rfl|rfl|rfl|rfl
 all_goals simp-implicitDefEqProofs[rQ,EL]
 ·rw[ah (by omega) (by omega),SA (by omega)];rfl
 ·have hw:IntKind.i64.wrap (a-b)=a-b:=ah (by omega) (by omega)
  rw[hw,ah (by omega) (by omega),SA (by omega)]
  have:(a-b+256)%256=(a-b)%256:=by omega
  rw[this];rfl
 ·rw[ah (by omega) (by omega),SA (by omega)];rfl
 ·refine aY (λh=>?_) (λh=>?_)
  ·simp at h
   simp-implicitDefEqProofs[h,oN]
  ·simp at h
   simp-implicitDefEqProofs[h,oN]
   rw[Int.tdiv_eq_ediv_of_nonneg (by omega)]
   have h1:a/b<=a:=Int.ediv_le_self b a0
   have h2:0<=a/b:=Int.ediv_nonneg a0 b0
   exact ah (by omega) (by omega)
 ·refine aY (λh=>?_) (λh=>?_)
  ·simp at h
   simp-implicitDefEqProofs[h,oN]
  ·simp at h
   simp-implicitDefEqProofs[h,oN]
   rw[SA (by omega)]
 ·refine(nW G _).use ?_
  simp-implicitDefEqProofs[oN]
 ·refine(nW G _).use ?_
  simp-implicitDefEqProofs[oN]
theorem jZ:∀l:List Ex,Br l=l.all cV
 |[]=>rfl
 |e::r=>by rw[Br,jZ r];rfl
def dvE(e:Ex):Bool:=(decide (e.op=6)||decide (e.op=7))&& !(match e.kids with|[_,b]=>decide (b.op=1)&& !decide (b.n=0)|_=>false)
theorem Dz(e:Ex):cV e=(!decide (e.op=12)&& !decide (e.op=13)&& !dvE e&&e.kids.all cV):=by
 have h:∀(a c:Bool),(!(a&& !c))=(!a||c):=by decide
 rw[dvE,h]
 match e with
 | .mk o n s []=>rw[cV,jZ]<;>first|rfl|(intro _ _ e;cases e)
 | .mk o n s [a]=>rw[cV,jZ]<;>first|rfl|(intro _ _ e;cases e)
 | .mk o n s [a,b]=>rw[cV,jZ];rfl
 | .mk o n s (a::b::c::r)=>rw[cV,jZ]<;>first|rfl|(intro _ _ e;cases e)
theorem Co:∀(d:Nat) (e:Ex),aT d e=true->e.sz<=1099511627776->VF Tryz.prog G fG [.agg (e.cs.map .p)] (.p (.bool (cV e))):=by
 intro d
 induction d with
 |zero=>intro e h;cases h
 |succ d ih=>
  intro e hf hz
  have hzz:=e.sz_eq
  have hlen:=aP e.kids
  refine AC.goK zf zo ?_
  rw[Dz]
  by_cases o12:e.op=12
  ·simp-implicitDefEqProofs[fC,fu,Ex.cs_eq,o12]
  by_cases o13:e.op=13
  ·simp-implicitDefEqProofs[fC,fu,Ex.cs_eq,o13]
  have hxl:∀l,exL l= .lst 4 (l.map Ex.cs):=λ_=>rfl
  simp-implicitDefEqProofs[fC,fu,Ex.cs_eq,o12,o13,hxl]
  refine ry (λ_:Unit=>am 50 [(1,.ptr 0 4 0 0)]) (λ_=>[.row 4 [[.p (.int .i64 e.op),.p (.int .i64 e.n),.p (.str e.name),.p (.lst 4 (e.kids.map Ex.cs))]]]) (λ_=>dvE e=false) ?_ ?_
  ·by_cases o67:e.op=6\/e.op=7
   ·have hk:∃a b,e.kids=[a,b]:=by
     obtain⟨l1,l2,_⟩:=dd hf
     have e1:loK e.op=2/\hiK e.op=2:=by rcases o67 with h|h<;>rw[h]<;>exact⟨rfl,rfl⟩
     rw[e1.1] at l1
     rw[e1.2] at l2
     match hx:e.kids,l1,l2 with
     |[a,b],_,_=>exact⟨a,b,rfl⟩
    obtain⟨a,b,hk⟩:=hk
    have hd:dvE e= !(decide (b.op=1)&& !decide (b.n=0)):=by
     rw[dvE,hk]
     rcases o67 with h|h<;>simp[h]
    rw[hd]
    have hbc:=b.cs_eq
    rcases o67 with o6|o7
    ·by_cases b1:b.op=1
     ·by_cases b0:b.n=0
      ·simp-implicitDefEqProofs[o6,hk,hbc,b1,b0]
      ·simp-implicitDefEqProofs[o6,hk,hbc,b1,b0]
       exact ab (by simp) (by simp[okO]) (by simp[below])
     ·simp-implicitDefEqProofs[o6,hk,hbc,b1]
    ·by_cases b1:b.op=1
     ·by_cases b0:b.n=0
      ·simp-implicitDefEqProofs[o7,hk,hbc,b1,b0]
      ·simp-implicitDefEqProofs[o7,hk,hbc,b1,b0]
       exact ab (by simp) (by simp[okO]) (by simp[below])
     ·simp-implicitDefEqProofs[o7,hk,hbc,b1]
   ·have o6:¬e.op=6:=λh=>o67 (.inl h)
    have o7:¬e.op=7:=λh=>o67 (.inr h)
    simp-implicitDefEqProofs[o6,o7]
    exact⟨by simp[dvE,o6,o7],ab (by simp) (by simp[okO]) (by simp[below])⟩
  ·intro _ hd
   simp-implicitDefEqProofs[]
   refine az (λi:Nat=>am 50 [(1,.ptr 0 4 0 0),(3,.p (.int .i64 i))]) (λ_=>[.row 4 [[.p (.int .i64 e.op),.p (.int .i64 e.n),.p (.str e.name),.p (.lst 4 (e.kids.map Ex.cs))]]])
    (λi=>i<=e.kids.length/\(e.kids.take i).all cV=true) (λi=>e.kids.length-i) 0 (by simp) (ab (by simp) (by simp[okO]) (by simp[below])) ?_
   intro i ⟨hi,hall⟩
   simp-implicitDefEqProofs[]
   refine aY (λh=>?_) (λh=>?_)
   ·simp at h
    have hg:=Rv h
    have hks:=aC (RB h)
    simp-implicitDefEqProofs[hg]
    refine(ih e.kids[i] (eN hf (RB h)) (by omega)).use ?_
    by_cases hk:cV e.kids[i]=true
    ·simp-implicitDefEqProofs[hk]
     refine⟨i+1,⟨h,by rw[←RA,da h,hall,hk];rfl⟩,by omega,ab (by simp) (by simp[okO]) ?_⟩
     simp[below,w1 (i:=i) (by omega)]
    ·have hk':cV e.kids[i]=false:=by simpa using hk
     simp-implicitDefEqProofs[hk',kD h hk']
   ·simp at h
    have:=fw h hall
    simp-implicitDefEqProofs[hd,this]
end
end Go.Proofs.YthfklclcofcpiaaGreatDoor
