/-
  Contracts and lemmas that the card needs, part 5.
-/
import Derived.Test.YtghpabfdmbdpfaaGreatDoorKd4
import Derived.Laws.RangeAny
import Derived.Laws.RangeString
namespace Go.Proofs.YtghpabfdmbdpfaaGreatDoor
open Go Go.Aw
set_option maxRecDepth 100000
set_option maxHeartbeats 4000000
section
theorem aw{α:Type}{xs:List α}{i:Nat}(h:i<xs.length):xs.take (i+1)=xs.take i++[xs[i]]:=by
 rw[List.take_add_one,Wa h];rfl
def vA(l:List Int):PV:= .lst 1 (l.map λn=>[.int .u8 n])
def bC(l:List Int):PV:= .lst 1 (l.map λn=>[.int .i64 n])
def Fa(l:List Int):AO:= .row 1 (l.map λn=>[.p (.int .i64 n)])
def aL(l:List (List UInt8)):PV:= .lst 1 (l.map λw=>[.str w])
def UW(l:List (List UInt8)):List (List AV):=l.map λw=>[.p (.str w)]
def fX(l:List (List UInt8)):AO:= .row 1 (l.map λn=>[.p (.str n)])
theorem rh(l:List (List UInt8)):∀x∈UW l,ay 0 x:=by
 intro x hx;obtain⟨m,_,rfl⟩:=WC.1 hx;simp[ay,below]
theorem jk{l:List (List UInt8)}{id:Nat}{h:List AO}(e:h[id]?=some (fX l)):View h (.sl id 1 0 l.length) (aL l):=by
 have:=iA (h:=h) (id:=id) (sz:=1) (n:=l.length) (ls:=l.map λn=>[.str n]) (by rw[e,fX];simp) (by simp) (λx hx=>by obtain⟨b,_,rfl⟩:=WC.1 hx;rfl)
 exact this
end
section
def dK(c:UInt8):Bool:=decide (97<=c.toNat)&&decide (c.toNat<=122)
def keyW:List (List UInt8):=[[102,110],[108,101,116],[115,97,121],[112,117,116],[105,102],[101,108,115,101],[108,111,111,112],[98,97,99,107],[100,111]]
def aP(s:List UInt8):Bool:=s.all dK&&decide (0<s.length)&&decide (s.length<=4)&& !keyW.contains s
def Bq:List UInt8:=[40,41,123,125,59,44,43,45,42,47,37,60,61,38,33,64]
def uc(s:List UInt8)(c:Int):Int:=match s.findIdx? (λx=>(x.toNat:Int)==c) with|some i=>i|none=> -1
def Gp(c:Int):Int:=if 97<=c/\c<=122 then 1 else if 48<=c/\c<=57 then 2 else if 0<=uc Bq c then 3 else if c=32\/c=10 then 4 else 0
theorem Oz(x:UInt8):(Gp (x.toNat:Int)=1)↔dK x=true:=by
 have h:(97<=(x.toNat:Int)/\(x.toNat:Int)<=122)↔dK x=true:=by simp[dK];omega
 unfold Gp
 constructor
 ·intro e
  split at e
  ·rename_i h1;exact h.1 h1
  ·repeat' split at e
   all_goals omega
 ·intro e;rw[if_pos (h.2 e)]
def Ed(s:List UInt8):Int:=match s.findIdx? (λx=> !dK x) with|some i=>i|none=> -1
theorem NX(s:List UInt8):decide (Ed s<0)=s.all dK:=by
 unfold Ed
 cases h:s.findIdx? (λx=> !dK x) with
 |none=>
  rw[WJ] at h
  have:s.all dK=true:=Wj.2 λx hx=>by have:=h x hx;simpa using this
  simp[this]
 |some i=>
  rw[Ww] at h
  obtain⟨h1,h2,_⟩:=h
  have:s.all dK=false:=List.all_eq_false.2 ⟨_,Wo h1,by simpa using h2⟩
  rw[this];simp
def idxS(l:List (List UInt8))(s:List UInt8):Int:=match l.findIdx? (λw=>w==s) with|some i=>i|none=> -1
theorem LD(l:List (List UInt8))(s:List UInt8):decide (0<=idxS l s)=l.contains s:=by
 unfold idxS
 cases h:l.findIdx? (λw=>w==s) with
 |none=>
  rw[WJ] at h
  have:l.contains s=false:=by
   cases hc:l.contains s with
   |false=>rfl
   |true=>
    have hm:s∈l:=by simpa using hc
    have:=h s hm
    simp at this
  rw[this];simp
 |some i=>
  rw[Ww] at h
  obtain⟨h1,h2,_⟩:=h
  have:l.contains s=true:=by
   simp only[beq_iff_eq] at h2
   rw[List.contains_iff_mem,←h2];exact Wo h1
  rw[this];simp
variable (G:aK)
theorem uy(s:List UInt8)(c:Int)(hb:s.length<=1048576):VF Tryz.prog G lP [.p (.str s),.p (.int .u8 c)] (.p (.int .i64 (uc s c))):=by
 refine AC.go Cc ?_
 simp-implicitDefEqProofs[pm]
 refine aN (λi:Nat=>az 18 [(0,.p (.str s)),(1,.p (.int .u8 c)),(5,.p (.int .i64 i))]) (λ_=>[]) (λi=>i<=s.length/\∀x∈s.take i,(x.toNat:Int)≠c) (λi=>s.length-i) 0 (by simp) ?_ ?_
 ·exact cy rfl (by simp[below])
 ·intro i ⟨hi,hn⟩
  simp-implicitDefEqProofs[]
  refine aO (λh1=>?_) (λh1=>?_)
  ·simp at h1
   have hg:=Wa h1
   by_cases he:(s[i].toNat:Int)=c
   ·have hf:uc s c=i:=by
     have:s.findIdx? (λx=>(x.toNat:Int)==c)=some i:=by
      rw[Ww]
      exact⟨h1,by simpa using he,λj hj=>by have:=hn s[j] (List.mem_take_iff_getElem.2 ⟨j,by omega,rfl⟩);simpa using this⟩
     rw[uc,this]
    simp-implicitDefEqProofs[hg,he,hf]
   ·simp-implicitDefEqProofs[hg,he]
    refine⟨i+1,⟨h1,λp hp=>?_⟩,by omega,cy rfl ?_⟩
    ·rw[aw h1] at hp
     rcases Wf.1 hp with hp|hp
     ·exact hn p hp
     ·rw[Wh.1 hp];exact he
    ·simp[below,w1 (i:=i) (by omega)]
  ·simp at h1
   rw[Wg h1] at hn
   have hf:uc s c= -1:=by
    have:s.findIdx? (λx=>(x.toNat:Int)==c)=none:=by
     rw[WJ];intro x hx;simpa using hn x hx
    rw[uc,this]
   simp-implicitDefEqProofs[hf]
theorem KW(c:Int):VF Tryz.prog G ln [.p (.int .u8 c)] (.p (.int .i64 (Gp c))):=by
 refine AC.go BR ?_
 simp-implicitDefEqProofs[rb]
 unfold Gp
 by_cases h1:97<=c
 ·by_cases h2:c<=122
  ·simp-implicitDefEqProofs[h1,h2]
  ·have h3:¬c<=57:=by omega
   have h4:¬c=32:=by omega
   have h5:¬c=10:=by omega
   have h6:48<=c:=by omega
   simp-implicitDefEqProofs[h1,h2,h3,h6]
   refine(uy G Bq c (by decide)).use ?_
   generalize uc Bq c=w
   by_cases hf:0<=w
   ·simp-implicitDefEqProofs[hf]
   ·simp-implicitDefEqProofs[hf,h4,h5]
 ·simp-implicitDefEqProofs[h1]
  by_cases h2:48<=c
  ·by_cases h3:c<=57
   ·simp-implicitDefEqProofs[h2,h3]
   ·have h4:¬c=32:=by omega
    have h5:¬c=10:=by omega
    simp-implicitDefEqProofs[h2,h3]
    refine(uy G Bq c (by decide)).use ?_
    generalize uc Bq c=w
    by_cases hf:0<=w
    ·simp-implicitDefEqProofs[hf]
    ·simp-implicitDefEqProofs[hf,h4,h5]
  ·simp-implicitDefEqProofs[h2]
   refine(uy G Bq c (by decide)).use ?_
   generalize uc Bq c=w
   by_cases hf:0<=w
   ·simp-implicitDefEqProofs[hf]
   ·by_cases h4:c=32
    ·simp-implicitDefEqProofs[hf,h4]
    ·by_cases h5:c=10
     ·simp-implicitDefEqProofs[hf,h4,h5]
     ·simp-implicitDefEqProofs[hf,h4,h5]
theorem OI(s:List UInt8)(hb:s.length<=140737488355328):VF Tryz.prog G nO [.p (.str s),.p (.int .i64 1)] (.p (.bool (s.all dK&&decide (0<s.length)))):=by
 refine AC.go DZ ?_
 simp-implicitDefEqProofs[tw]
 refine aN (λi:Nat=>az 21 [(0,.p (.str s)),(1,.p (.int .i64 1)),(5,.p (.int .i64 i))]) (λ_=>[]) (λi=>i<=s.length/\∀x∈s.take i,dK x=true) (λi=>s.length-i) 0 (by simp) ?_ ?_
 ·exact cy rfl (by simp[below])
 ·intro i ⟨hi,hn⟩
  simp-implicitDefEqProofs[]
  refine aO (λh1=>?_) (λh1=>?_)
  ·simp at h1
   have hg:=Wa h1
   simp-implicitDefEqProofs[hg]
   refine(KW G _).use ?_
   have hcl:=Oz s[i]
   by_cases he:dK s[i]=true
   ·have hc:=hcl.2 he
    simp-implicitDefEqProofs[hc]
    refine⟨i+1,⟨h1,λp hp=>?_⟩,by omega,cy rfl ?_⟩
    ·rw[aw h1] at hp
     rcases Wf.1 hp with hp|hp
     ·exact hn p hp
     ·rw[Wh.1 hp];exact he
    ·simp[below,w1 (i:=i) (by omega)]
   ·have hc:¬Gp (s[i].toNat:Int)=1:=λe=>he (hcl.1 e)
    have ha:s.all dK=false:=List.all_eq_false.2 ⟨_,Wo h1,by simpa using he⟩
    simp-implicitDefEqProofs[hc,ha]
  ·simp at h1
   rw[Wg h1] at hn
   have ha:s.all dK=true:=Wj.2 hn
   simp-implicitDefEqProofs[ha]
theorem Hm:VF Tryz.prog G gw [] (.p (aL keyW)):=by
 have key:AC Tryz.prog G gw [] [] λx h=>x= .ret (.sl 0 1 0 9)/\h=[.row 1 (keyW.map λw=>[.p (.str w)])]:=by
  refine AC.go zq ?_
  simp-implicitDefEqProofs[ox,keyW]
 exact AC.freeze key (.one (iA (ls:=keyW.map λw=>[.str w]) (by simp) (by simp[keyW]) (by simp)) .nil)
theorem Pu(s:List UInt8):VF Tryz.prog G od [.p (.str s)] (.p (.bool (keyW.contains s))):=by
 refine AC.go DJ ?_
 have hsl:aL keyW= .lst 1 (keyW.map λw=>[.str w]):=rfl
 have hkl:keyW.length=9:=rfl
 simp-implicitDefEqProofs[tM]
 refine(Hm G).use ?_
 simp-implicitDefEqProofs[]
 refine aN (λi:Nat=>az 18 [(0,.p (.str s)),(3,.p (aL keyW)),(4,.p (.int .i64 i))]) (λ_=>[]) (λi=>i<=keyW.length/\∀w∈keyW.take i,w≠s) (λi=>keyW.length-i) 0 (by simp) ?_ ?_
 ·exact cy rfl (by simp[below,aL])
 ·intro i ⟨hi,hn⟩
  generalize keyW=L at*
  simp-implicitDefEqProofs[hsl]
  refine aO (λh1=>?_) (λh1=>?_)
  ·simp at h1
   have hg:=Wa h1
   by_cases he:L[i]=s
   ·have hm:s∈L:=by rw[←he];exact Wo h1
    simp-implicitDefEqProofs[hg,he,hm]
   ·simp-implicitDefEqProofs[hg,he]
    refine⟨i+1,⟨h1,λp hp=>?_⟩,by omega,cy rfl ?_⟩
    ·rw[aw h1] at hp
     rcases Wf.1 hp with hp|hp
     ·exact hn p hp
     ·rw[Wh.1 hp];exact he
    ·simp[below,w1 (i:=i) (by omega)]
  ·simp at h1
   rw[Wg h1] at hn
   have hm:¬s∈L:=λhm=>hn s hm rfl
   simp-implicitDefEqProofs[hm]
theorem ua(s:List UInt8)(hb:s.length<=140737488355328):VF Tryz.prog G cC [.p (.str s)] (.p (.bool (aP s))):=by
 refine AC.go CJ ?_
 simp-implicitDefEqProofs[sh]
 refine(OI G s hb).use ?_
 cases h1:(s.all dK&&decide (0<s.length)) with
 |false=>
  have hi:aP s=false:=by rw[aP,h1];rfl
  simp-implicitDefEqProofs[hi]
 |true=>
  by_cases h4:s.length<=4
  ·have h4i:(s.length:Int)<=4:=by omega
   have hi:aP s= !keyW.contains s:=by rw[aP,h1];simp[h4]
   simp-implicitDefEqProofs[h4i]
   refine(Pu G s).use ?_
   rw[hi]
   simp-implicitDefEqProofs[]
  ·have h4i:¬(s.length:Int)<=4:=by omega
   have hi:aP s=false:=by rw[aP,h1];simp[h4]
   simp-implicitDefEqProofs[h4i,hi]
end
section
inductive Ex where
 |mk (op n:Int) (name:List UInt8) (kids:List Ex)
inductive Sm where
 |mk (op:Int) (name:List UInt8) (args:List Ex) (body els:List Sm)
structure Fd where (name:List UInt8) (params:List (List UInt8)) (body:List Sm)
def Ex.op:Ex->Int| .mk o _ _ _=>o
def Ex.n:Ex->Int| .mk _ n _ _=>n
def Ex.name:Ex->List UInt8| .mk _ _ s _=>s
def Ex.kids:Ex->List Ex| .mk _ _ _ k=>k
def Sm.op:Sm->Int| .mk o _ _ _ _=>o
def Sm.name:Sm->List UInt8| .mk _ s _ _ _=>s
def Sm.args:Sm->List Ex| .mk _ _ a _ _=>a
def Sm.body:Sm->List Sm| .mk _ _ _ b _=>b
def Sm.els:Sm->List Sm| .mk _ _ _ _ e=>e
mutual
def Ex.cs:Ex->List PV
 | .mk o n s k=>[.int .i64 o,.int .i64 n,.str s,.lst 4 (Lq k)]
def Lq:List Ex->List (List PV)
 |[]=>[]
 |e::r=>e.cs::Lq r
end
mutual
def Sm.cs:Sm->List PV
 | .mk o s a b e=>[.int .i64 o,.str s,.lst 4 (Lq a),.lst 5 (Nc b),.lst 5 (Nc e)]
def Nc:List Sm->List (List PV)
 |[]=>[]
 |s::r=>s.cs::Nc r
end
theorem Ax:∀l:List Ex,Lq l=l.map Ex.cs
 |[]=>rfl
 |e::r=>by rw[Lq,Ax r];rfl
theorem Bc:∀l:List Sm,Nc l=l.map Sm.cs
 |[]=>rfl
 |e::r=>by rw[Nc,Bc r];rfl
def exL(l:List Ex):PV:= .lst 4 (l.map Ex.cs)
def smL(l:List Sm):PV:= .lst 5 (l.map Sm.cs)
theorem Ex.cs_eq(e:Ex):e.cs=[.int .i64 e.op,.int .i64 e.n,.str e.name,exL e.kids]:=by
 cases e;rw[Ex.cs,Ax];rfl
theorem Sm.cs_eq(s:Sm):s.cs=[.int .i64 s.op,.str s.name,exL s.args,smL s.body,smL s.els]:=by
 cases s;rw[Sm.cs,Ax,Bc,Bc];rfl
@[simp] theorem Ex.cs_len(e:Ex):e.cs.length=4:=by cases e;rfl
@[simp] theorem Ex.cs_take(e:Ex):List.take 4 (e.cs.map AV.p)=e.cs.map AV.p:=by cases e;rfl
@[simp] theorem Sm.cs_len(s:Sm):s.cs.length=5:=by cases s;rfl
@[simp] theorem Sm.cs_take(s:Sm):List.take 5 (s.cs.map AV.p)=s.cs.map AV.p:=by cases s;rfl
def Fd.cs(f:Fd):List PV:=[.str f.name,aL f.params,smL f.body]
@[simp] theorem Fd.cs_len(f:Fd):f.cs.length=3:=rfl
@[simp] theorem Fd.cs_take(f:Fd):List.take 3 (f.cs.map AV.p)=f.cs.map AV.p:=rfl
def fdL(l:List Fd):PV:= .lst 3 (l.map Fd.cs)
mutual
def Ex.sz:Ex->Nat
 | .mk _ _ s k=>1+s.length+aM k
def aM:List Ex->Nat
 |[]=>0
 |e::r=>e.sz+aM r
end
mutual
def Sm.sz:Sm->Nat
 | .mk _ s a b e=>1+s.length+aM a+aD b+aD e
def aD:List Sm->Nat
 |[]=>0
 |s::r=>s.sz+aD r
end
def Fd.sz(f:Fd):Nat:=1+f.name.length+(f.params.length+(f.params.map List.length).sum)+aD f.body
def aW(l:List Fd):Nat:=(l.map Fd.sz).sum
theorem Ex.sz_eq(e:Ex):e.sz=1+e.name.length+aM e.kids:=by cases e;rfl
theorem Sm.sz_eq(s:Sm):s.sz=1+s.name.length+aM s.args+aD s.body+aD s.els:=by cases s;rfl
theorem bH:∀a b:List Ex,aM (a++b)=aM a+aM b
 |[],b=>by simp[aM]
 |e::r,b=>by simp only[WR,aM,bH r b];omega
theorem aV:∀a b:List Sm,aD (a++b)=aD a+aD b
 |[],b=>by simp[aD]
 |e::r,b=>by simp only[WR,aD,aV r b];omega
theorem cJ:∀{l:List Ex} {e:Ex},e∈l->e.sz<=aM l
 |x::r,e,h=>by
  simp only[aM]
  rcases Wd.1 h with rfl|h
  ·omega
  ·have:=cJ h;omega
theorem fV:∀{l:List Sm} {e:Sm},e∈l->e.sz<=aD l
 |x::r,e,h=>by
  simp only[aD]
  rcases Wd.1 h with rfl|h
  ·omega
  ·have:=fV h;omega
theorem bK:∀l:List Ex,l.length<=aM l
 |[]=>Wn _
 |e::r=>by have:=bK r;have:=e.sz_eq;simp only[aM,Wr];omega
theorem bM:∀l:List Sm,l.length<=aD l
 |[]=>Wn _
 |e::r=>by have:=bM r;have:=e.sz_eq;simp only[aD,Wr];omega
mutual
def Ex.parts:Ex->Nat
 | .mk _ _ _ k=>1+gC k
def gC:List Ex->Nat
 |[]=>0
 |e::r=>e.parts+gC r
end
theorem Ex.parts_eq(e:Ex):e.parts=1+gC e.kids:=by cases e;rfl
theorem jL:∀a b:List Ex,gC (a++b)=gC a+gC b
 |[],b=>by simp[gC]
 |e::r,b=>by simp only[WR,gC,jL r b];omega
mutual
theorem Ex.parts_le:∀e:Ex,e.parts<=e.sz
 | .mk _ _ s k=>by have:=DV k;simp only[Ex.parts,Ex.sz];omega
theorem DV:∀l:List Ex,gC l<=aM l
 |[]=>Wn _
 |e::r=>by have:=e.parts_le;have:=DV r;simp only[gC,aM];omega
end
mutual
def Sm.cnt:Sm->Nat
 | .mk _ _ _ b e=>1+dI b+dI e
def dI:List Sm->Nat
 |[]=>0
 |s::r=>s.cnt+dI r
end
theorem Sm.cnt_eq(s:Sm):s.cnt=1+dI s.body+dI s.els:=by cases s;rfl
theorem py:∀a b:List Sm,dI (a++b)=dI a+dI b
 |[],b=>by simp[dI]
 |e::r,b=>by simp only[WR,dI,py r b];omega
mutual
theorem Sm.cnt_le:∀s:Sm,s.cnt<=s.sz
 | .mk _ s a b e=>by have:=gq b;have:=gq e;simp only[Sm.cnt,Sm.sz];omega
theorem gq:∀l:List Sm,dI l<=aD l
 |[]=>Wn _
 |e::r=>by have:=e.cnt_le;have:=gq r;simp only[dI,aD];omega
end
def inR(n lo hi:Int):Bool:=decide (lo<=n)&&decide (n<=hi)
def loK(op:Int):Nat:=if op=1\/op=2 then 0 else if op=11\/op=12 then 1 else if op=13 then 0 else 2
def hiK(op:Int):Nat:=if op=1\/op=2 then 0 else if op=11\/op=12 then 1 else if op=13 then 3 else 2
def FY(op:Int):Bool:=decide (op=2)||decide (op=13)
def lC(e:Ex):Bool:=inR e.op 1 13&&inR e.kids.length (loK e.op) (hiK e.op)&&(FY e.op==aP e.name)&&(FY e.op||decide (e.name=[]))&&inR e.n 0 255&&(decide (e.op=1)||decide (e.n=0))
def bY:Nat->Ex->Bool
 |0,_=>false
 |d+1,e=>lC e&&e.kids.all (bY d)
def lV(e:Ex):Bool:=bY 6 e&&decide (e.parts<=30)
def jF(op:Int):Nat:=if op=4 then 2 else 1
def cR(op:Int):Bool:=decide (op=1)||decide (op=2)
def fU(s:Sm):Bool:=inR s.op 1 8&&decide (s.args.length=jF s.op)&&(cR s.op==aP s.name)&&(cR s.op||decide (s.name=[]))&&s.args.all lV&&
 (!decide (s.op=8)||(match s.args with|a::_=>decide (a.op=13)|[]=>false))&&(s.els.isEmpty||decide (s.op=5))&&(s.body.isEmpty||decide (s.op=5)||decide (s.op=6))
def aJ:Nat->Sm->Bool
 |0,_=>false
 |d+1,s=>fU s&&s.body.all (aJ d)&&s.els.all (aJ d)
def jP(f:Fd):Bool:=f.params.all aP&&aP f.name&&decide (f.params.length<=3)&&f.body.all (aJ 4)
def iD(l:List Fd):Nat:=(l.map λf=>dI f.body).sum
def bn(l:List Fd):Bool:=inR l.length 1 4&&l.all jP&&decide (iD l<=40)
end
section
structure LV where (name:List UInt8) (num block:Nat)
structure WS where (vs:List LV) (count:Nat) (code:Int)
def fl(c k:Int):Int:=if c=0 then k else c
theorem Jm{c k:Int}(h:c≠0):fl c k=c:=if_neg h
def lkV(vs:List LV)(s:List UInt8):Option LV:=vs.find? λv=>decide (v.name=s)
def bU(fns:List Fd)(s:List UInt8):Option Nat:=fns.findIdx? λf=>decide (f.name=s)
def DH(fns:List Fd)(j:Nat):Nat:=match fns[j]? with|some f=>f.params.length|none=>0
def zu(vs:List LV)(s:List UInt8)(c:Int):Int:=match lkV vs s with|none=>fl c 3|some _=>c
def oy(fns:List Fd)(k:Nat)(s:List UInt8)(n:Nat)(c:Int):Int:=
 match bU fns s with|none=>fl c 4|some j=>if k<=j then fl c 4 else if DH fns j=n then c else fl c 5
def nC(fns:List Fd)(k:Nat)(vs:List LV)(o:Int)(s:List UInt8)(n:Nat)(c:Int):Int:=
 if o=2 then zu vs s c else if o=13 then oy fns k s n c else c
mutual
def zA(fns:List Fd)(k:Nat)(vs:List LV):Ex->Int->Int
 | .mk o _ s ks,c=>dg fns k vs ks (nC fns k vs o s ks.length c)
def dg(fns:List Fd)(k:Nat)(vs:List LV):List Ex->Int->Int
 |[],c=>c
 |e::r,c=>dg fns k vs r (zA fns k vs e c)
end
def vnm(n:Nat):List UInt8:=[118,UInt8.ofNat (97+n%26)]
def Bb(vs:List LV)(s:List UInt8):List UInt8:=match lkV vs s with|none=>s|some v=>vnm v.num
mutual
def rnE(vs:List LV):Ex->Ex
 | .mk o n s ks=> .mk o n (if o=2 then Bb vs s else s) (lu vs ks)
def lu(vs:List LV):List Ex->List Ex
 |[]=>[]
 |e::r=>rnE vs e::lu vs r
end
def Cp(vs:List LV)(s:List UInt8)(b:Nat)(c:Int):Int:=match lkV vs s with|none=>c|some v=>if v.block=b then fl c 2 else c
def nF(w:WS)(s:List UInt8)(b:Nat):WS:=⟨⟨s,w.count,b⟩::w.vs,w.count+1,Cp w.vs s b w.code⟩
def opW(o:Int)(s:List UInt8)(b:Nat)(w:WS):WS:=if o=1 then nF w s b else if o=2 then⟨w.vs,w.count,zu w.vs s w.code⟩ else w
def opN(o:Int)(s:List UInt8)(w:WS):List UInt8:=if o=1 then vnm w.count else if o=2 then Bb w.vs s else s
def WS.back(w:WS)(vs:List LV):WS:=⟨vs,w.count,w.code⟩
mutual
def stW(fns:List Fd)(k b:Nat):Sm->WS->WS
 | .mk o s a bd el,w=>
   let w2:=opW o s b ⟨w.vs,w.count,dg fns k w.vs a w.code⟩
   let w3:=(cw fns k (b+1) bd w2).back w2.vs
   (cw fns k (b+1) el w3).back w2.vs
def cw(fns:List Fd)(k b:Nat):List Sm->WS->WS
 |[],w=>w
 |s::r,w=>cw fns k b r (stW fns k b s w)
end
def cV(ps:List (List UInt8))(w:WS):WS:=ps.foldl (λw s=>nF w s 0) w
def fnW(fns:List Fd)(k:Nat)(f:Fd):WS:=cw fns k 0 f.body (cV f.params ⟨[],0,if bU fns f.name=some k then 0 else 2⟩)
def iW(fns:List Fd):Nat->List Fd->Int
 |_,[]=>0
 |k,f::r=>if(fnW fns k f).code=0 then iW fns (k+1) r else(fnW fns k f).code
def bT(fns:List Fd):Int:=if bn fns then iW fns 0 fns else 1
abbrev Scp:=List (List UInt8 × Nat)
def fO(m:Scp)(s:List UInt8):Option Nat:=(m.find? λx=>decide (x.1=s)).map (·.2)
def eV:Scp->List UInt8->Nat->Scp
 |[],s,n=>[(s,n)]
 |x::r,s,n=>if x.1=s then(s,n)::r else x::eV r s n
def cY:List Scp->List UInt8->Option Nat
 |[],_=>none
 |m::r,s=>match fO m s with|some n=>some n|none=>cY r s
def eu(fns:List Fd)(k:Nat)(ch:List Scp)(c:Int)(e:Ex):Int:=
 if e.op=2 then(if(cY ch e.name).isSome then c else fl c 3)
 else if e.op=13 then(match bU (fns.take k) e.name with|none=>fl c 4|some j=>if DH fns j=e.kids.length then c else fl c 5)
 else c
mutual
def Ex.pre:Ex->List Ex
 | .mk o n s ks=> .mk o n s ks::cI ks
def cI:List Ex->List Ex
 |[]=>[]
 |e::r=>e.pre++cI r
end
def te(fns:List Fd)(k:Nat)(ch:List Scp)(l:List Ex)(c:Int):Int:=(cI l).foldl (eu fns k ch) c
def opS(o:Int)(s:List UInt8)(m:Scp)(n:Nat):Scp:=if o=1 then eV m s n else m
def opC(o:Int)(s:List UInt8)(m:Scp)(up:List Scp)(c:Int):Int:=
 if o=1 then(if(fO m s).isSome then fl c 2 else c) else if o=2 then(if(cY (m::up) s).isSome then c else fl c 3) else c
mutual
def icS(fns:List Fd)(k:Nat):Sm->Scp->List Scp->Int->Scp × Int
 | .mk o s a bd el,m,up,c=>
   let m2:=opS o s m 0
   let c2:=opC o s m up (te fns k (m::up) a c)
   (m2,if o=5\/o=6 then(dO fns k el [] (m2::up) (dO fns k bd [] (m2::up) c2).2).2 else c2)
def dO(fns:List Fd)(k:Nat):List Sm->Scp->List Scp->Int->Scp × Int
 |[],m,_,c=>(m,c)
 |s::r,m,up,c=>dO fns k r (icS fns k s m up c).1 up (icS fns k s m up c).2
end
def kU(ps:List (List UInt8))(m:Scp)(c:Int):Scp × Int:=ps.foldl (λx s=>(eV x.1 s 0,if(fO x.1 s).isSome then fl x.2 2 else x.2)) (m,c)
def icF(fns:List Fd)(k:Nat)(f:Fd)(c:Int):Int:=
 let c1:=if(match bU fns f.name with|some j=>decide (j<k)|none=>true) then fl c 2 else c
 let x:=kU f.params [] c1
 (dO fns k f.body x.1 [] x.2).2
def gU(fns:List Fd):Nat->List Fd->Int->Int
 |_,[],c=>c
 |k,f::r,c=>gU fns (k+1) r (icF fns k f c)
def SR(g:LV->Nat):Nat->List LV->List Scp->Prop
 |_,_,[]=>False
 |b,vs,m::up=>∃v1 v2,vs=v1++v2/\(∀v∈v1,v.block=b)/\(∀s,(lkV v1 s).map g=fO m s)/\match b with
  |0=>v2=[]/\up=[]
  |b+1=>SR g b v2 up
theorem Is(a b:List LV)(s:List UInt8):lkV (a++b) s=match lkV a s with|some v=>some v|none=>lkV b s:=by
 simp only[lkV,List.find?_append]
 cases List.find? (λv=>decide (v.name=s)) a<;>rfl
variable {g:LV->Nat}
theorem SR.blk:∀{b:Nat} {vs:List LV} {ch:List Scp},SR g b vs ch->∀v∈vs,v.block<=b
 |b,_,[],h,v,hv=>by cases b<;>exact False.elim h
 |0,vs,m::up,⟨v1,v2,e,h1,_,h3,_⟩,v,hv=>by
  subst e;subst h3
  rw[Wu] at hv
  exact Nat.le_of_eq (h1 v hv)
 |b+1,vs,m::up,⟨v1,v2,e,h1,_,h3⟩,v,hv=>by
  subst e
  rcases Wf.1 hv with h|h
  ·exact Nat.le_of_eq (h1 v h)
  ·exact Nat.le_succ_of_le (SR.blk h3 v h)
theorem SR.fnd:∀{b:Nat} {vs:List LV} {ch:List Scp},SR g b vs ch->∀s,(lkV vs s).map g=cY ch s
 |b,_,[],h,s=>by cases b<;>exact False.elim h
 |0,vs,m::up,⟨v1,v2,e,h1,h2,h3,h4⟩,s=>by
  subst e;subst h3;subst h4
  rw[Wu,h2,cY]
  cases fO m s<;>rfl
 |b+1,vs,m::up,⟨v1,v2,e,h1,h2,h3⟩,s=>by
  subst e
  have ih:=SR.fnd h3 s
  have h2:=h2 s
  rw[Is,cY,←h2]
  cases e1:lkV v1 s with
  |some v=>rfl
  |none=>exact ih
theorem SR.is{b:Nat}{vs:List LV}{ch:List Scp}(h:SR g b vs ch)(s:List UInt8):(lkV vs s).isSome=(cY ch s).isSome:=by rw[←h.fnd s,Option.isSome_map]
theorem IT{vs:List LV}{s:List UInt8}{v:LV}(h:lkV vs s=some v):v∈vs:=List.mem_of_find?_eq_some h
theorem SR.put:∀{b:Nat} {vs:List LV} {m:Scp} {up:List Scp},SR g b vs (m::up)->∀(s:List UInt8) (c:Int),Cp vs s b c=if(fO m s).isSome then fl c 2 else c:=by
 intro b vs m up h s c
 have key:∀v1 v2:List LV,(∀v∈v1,v.block=b)->(lkV v1 s).map g=fO m s->(∀v∈v2,v.block≠b)->Cp (v1++v2) s b c=if(fO m s).isSome then fl c 2 else c:=by
  intro v1 v2 h1 h2 h3
  rw[←h2,Cp,Is]
  cases e1:lkV v1 s with
  |some v=>simp[h1 v (IT e1)]
  |none=>
   cases e2:lkV v2 s with
   |none=>rfl
   |some v=>simp[h3 v (IT e2)]
 match b,h with
 |0,⟨v1,v2,e,h1,h2,h3,_⟩=>subst e;subst h3;exact key v1 [] h1 (h2 s) (λv hv=>by simp at hv)
 |b+1,⟨v1,v2,e,h1,h2,h3⟩=>subst e;exact key v1 v2 h1 (h2 s) (λv hv e=>by have:=h3.blk v hv;omega)
theorem lF:∀(m:Scp) (s:List UInt8) (n:Nat) (t:List UInt8),fO (eV m s n) t=if s=t then some n else fO m t
 |[],s,n,t=>by
  by_cases h:s=t
  ·simp[eV,fO,h]
  ·simp[eV,fO,h]
 |x::r,s,n,t=>by
  have ih:=lF r s n t
  simp only[fO] at ih
  by_cases hx:x.1=s
  ·by_cases h:s=t
   ·simp[eV,fO,hx,h]
   ·have:¬x.1=t:=by rw[hx];exact h
    simp[eV,fO,hx,h]
  ·by_cases ht:x.1=t
   ·have:¬s=t:=λe=>hx (ht.trans e.symm)
    rw[eV,if_neg hx,if_neg this];simp[fO,ht]
   ·simp only[eV,fO,if_neg hx,List.find?_cons,ht,decide_false]
    exact ih
theorem SR.add{b:Nat}{vs:List LV}{m:Scp}{up:List Scp}(h:SR g b vs (m::up))(s:List UInt8)(n k:Nat)(hg:g ⟨s,n,b⟩=k):SR g b (⟨s,n,b⟩::vs) (eV m s k::up):=by
 have key:∀v1:List LV,(∀s,(lkV v1 s).map g=fO m s)->∀t,(lkV (⟨s,n,b⟩::v1) t).map g=fO (eV m s k) t:=by
  intro v1 h2 t
  rw[lF]
  by_cases e:s=t
  ·simp[lkV,e,←hg]
  ·rw[if_neg e,←h2 t];simp[lkV,e]
 match b,h with
 |0,⟨v1,v2,e,h1,h2,h3⟩=>
  subst e
  refine⟨⟨s,n,0⟩::v1,v2,rfl,λv hv=>?_,key v1 h2,h3⟩
  rcases Wd.1 hv with rfl|hv
  ·rfl
  ·exact h1 v hv
 |b+1,⟨v1,v2,e,h1,h2,h3⟩=>
  subst e
  refine⟨⟨s,n,b+1⟩::v1,v2,rfl,λv hv=>?_,key v1 h2,h3⟩
  rcases Wd.1 hv with rfl|hv
  ·rfl
  ·exact h1 v hv
theorem SR.open{b:Nat}{vs:List LV}{ch:List Scp}(h:SR g b vs ch):SR g (b+1) vs ([]::ch):=⟨[],vs,rfl,λv hv=>by simp at hv,λs=>rfl,h⟩
theorem SR.base:SR g 0 [] [[]]:=⟨[],[],rfl,λv hv=>by simp at hv,λs=>rfl,rfl,rfl⟩
theorem uf{α:Type}{p:α->Bool}{l:List α}{k:Nat}:(l.take k).findIdx? p=match l.findIdx? p with|some j=>if j<k then some j else none|none=>none:=by
 cases h:l.findIdx? p with
 |none=>
  rw[WJ] at h⊢
  exact λx hx=>h x (Xf hx)
 |some j=>
  rw[Ww] at h
  obtain⟨h1,h2,h3⟩:=h
  simp only
  split
  ·rename_i hj
   rw[Ww]
   exact⟨by rw[Wv];omega,by rw[List.getElem_take];exact h2,λi hi=>by rw[List.getElem_take];exact h3 i hi⟩
  ·rename_i hj
   rw[WJ]
   intro x hx
   obtain⟨i,hi,rfl⟩:=List.mem_take_iff_getElem.1 hx
   simpa using h3 i (by omega)
theorem NH(fns:List Fd)(k:Nat){vs:List LV}{ch:List Scp}(h:∀s,(lkV vs s).isSome=(cY ch s).isSome)(e:Ex)(c:Int):nC fns k vs e.op e.name e.kids.length c=eu fns k ch c e:=by
 unfold nC eu
 split
 ·rw[←h,zu];cases lkV vs e.name<;>rfl
 ·split
  ·rw[oy,bU,bU,uf]
   cases List.findIdx? (λf=>decide (f.name=e.name)) fns with
   |none=>rfl
   |some j=>
    simp only
    by_cases hj:j<k
    ·rw[if_neg (by omega),if_pos hj]
    ·rw[if_pos (by omega),if_neg hj]
  ·rfl
mutual
theorem OQ(fns:List Fd)(k:Nat){vs:List LV}{ch:List Scp}(h:∀s,(lkV vs s).isSome=(cY ch s).isSome):∀(e:Ex) (c:Int),zA fns k vs e c=e.pre.foldl (eu fns k ch) c
 | .mk o n s ks,c=>by
   rw[zA,Ex.pre,List.foldl_cons,←Al fns k h ks,←NH fns k h];rfl
theorem Al(fns:List Fd)(k:Nat){vs:List LV}{ch:List Scp}(h:∀s,(lkV vs s).isSome=(cY ch s).isSome):∀(l:List Ex) (c:Int),dg fns k vs l c=(cI l).foldl (eu fns k ch) c
 |[],c=>rfl
 |e::r,c=>by rw[dg,cI,List.foldl_append,OQ fns k h e,Al fns k h r]
end
abbrev g0:LV->Nat:=λ_=>0
theorem QL{b:Nat}{w:WS}{m:Scp}{up:List Scp}(h:SR g0 b w.vs (m::up))(o:Int)(s:List UInt8):SR g0 b (opW o s b w).vs (opS o s m 0::up)/\(opW o s b w).code=opC o s m up w.code:=by
 unfold opW opS opC
 by_cases h1:o=1
 ·simp only[h1,if_true]
  exact⟨h.add s _ 0 rfl,h.put s _⟩
 ·simp only[if_neg h1]
  split
  ·refine⟨h,?_⟩
   have:=h.is s
   simp only[zu]
   rw[←this]
   cases lkV w.vs s<;>rfl
  ·exact⟨h,rfl⟩
theorem GK{d:Nat}{o:Int}{s:List UInt8}{a:List Ex}{bd el:List Sm}(h:aJ (d+1) (.mk o s a bd el)=true):bd.all (aJ d)=true/\el.all (aJ d)=true/\(¬(o=5\/o=6)->bd=[]/\el=[]):=by
 simp only[aJ,fU,Sm.op,Sm.body,Sm.els,Wl,Bool.or_eq_true,decide_eq_true_eq,List.isEmpty_iff] at h
 refine⟨h.1.2,h.2,λhn=>⟨?_,?_⟩⟩
 ·rcases h.1.1.2 with(h|h)|h
  ·exact h
  ·exact absurd (.inl (of_decide_eq_true h)) hn
  ·exact absurd (.inr (of_decide_eq_true h)) hn
 ·rcases h.1.1.1.2 with h|h
  ·exact h
  ·exact absurd (.inl (of_decide_eq_true h)) hn
theorem De(w:WS)(vs:List LV):(w.back vs).code=w.code:=rfl
theorem RM(fns:List Fd)(k:Nat):∀(d b:Nat) (l:List Sm),l.all (aJ d)=true->∀(w:WS) (m:Scp) (up:List Scp),SR g0 b w.vs (m::up)->
 SR g0 b (cw fns k b l w).vs ((dO fns k l m up w.code).1::up)/\(cw fns k b l w).code=(dO fns k l m up w.code).2:=by
 intro d
 induction d with
 |zero=>
  intro b l hl w m up h
  cases l with
  |nil=>exact⟨h,rfl⟩
  |cons s r=>simp[aJ] at hl
 |succ d ih=>
  have dP:∀(b:Nat) (s:Sm),aJ (d+1) s=true->∀(w:WS) (m:Scp) (up:List Scp),SR g0 b w.vs (m::up)->
   SR g0 b (stW fns k b s w).vs ((icS fns k s m up w.code).1::up)/\(stW fns k b s w).code=(icS fns k s m up w.code).2:=by
   intro b s hs w m up h
   obtain⟨o,n,a,bd,el⟩:=s
   obtain⟨f1,f2,f3⟩:=GK hs
   have hc:=Al fns k h.is a w.code
   obtain⟨g1,g2⟩:=QL (w:=⟨w.vs,w.count,dg fns k w.vs a w.code⟩) h o n
   rw[stW,icS]
   simp only[hc] at g1 g2⊢
   generalize hw2:opW o n b ⟨w.vs,w.count,(cI a).foldl (eu fns k (m::up)) w.code⟩=w2 at*
   refine⟨g1,?_⟩
   rw[De]
   have g2':w2.code=opC o n m up (te fns k (m::up) a w.code):=g2
   rw[←g2']
   by_cases ho:o=5\/o=6
   ·rw[if_pos ho]
    have k1:=ih (b+1) bd f1 w2 [] _ g1.open
    have k2:=ih (b+1) el f2 ((cw fns k (b+1) bd w2).back w2.vs) [] _ g1.open
    rw[k2.2,De,k1.2]
   ·obtain⟨rfl,rfl⟩:=f3 ho
    rw[if_neg ho]
    simp[cw,WS.back]
  intro b l
  induction l with
  |nil=>intro _ w m up h;exact⟨h,rfl⟩
  |cons s r ihl=>
   intro hl w m up h
   rw[List.all_cons,Wl] at hl
   obtain⟨k1,k2⟩:=dP b s hl.1 w m up h
   have:=ihl hl.2 _ _ up k1
   rw[cw,dO,←k2]
   exact this
theorem Jt:∀(ps:List (List UInt8)) (w:WS) (m:Scp),SR g0 0 w.vs [m]->SR g0 0 (cV ps w).vs [(kU ps m w.code).1]/\(cV ps w).code=(kU ps m w.code).2
 |[],w,m,h=>⟨h,rfl⟩
 |s::r,w,m,h=>by
  have hp:=h.put s w.code
  have:=Jt r (nF w s 0) (eV m s 0) (h.add s w.count 0 rfl)
  simp only[cV,kU,List.foldl_cons] at this⊢
  rw[←hp]
  exact this
theorem Lm{fns:List Fd}{k:Nat}{ch:List Scp}{c:Int}(h:c≠0)(e:Ex):eu fns k ch c e=c:=by
 unfold eu
 simp only[Jm h]
 split
 ·split<;>rfl
 ·split
  ·split
   ·rfl
   ·split<;>rfl
  ·rfl
theorem uI{fns:List Fd}{k:Nat}{ch:List Scp}{c:Int}(h:c≠0):∀l:List Ex,l.foldl (eu fns k ch) c=c
 |[]=>rfl
 |e::r=>by rw[List.foldl_cons,Lm h,uI h r]
theorem BQ{o:Int}{s:List UInt8}{m:Scp}{up:List Scp}{c:Int}(h:c≠0):opC o s m up c=c:=by
 unfold opC
 simp only[Jm h]
 split
 ·split<;>rfl
 ·split
  ·split<;>rfl
  ·rfl
mutual
theorem Oe(fns:List Fd)(k:Nat){c:Int}(h:c≠0):∀(s:Sm) (m:Scp) (up:List Scp),(icS fns k s m up c).2=c
 | .mk o s a bd el,m,up=>by
   rw[icS]
   simp only[te,uI h,BQ h]
   rw[nb fns k h bd,nb fns k h el,ite_self]
theorem nb(fns:List Fd)(k:Nat){c:Int}(h:c≠0):∀(l:List Sm) (m:Scp) (up:List Scp),(dO fns k l m up c).2=c
 |[],m,up=>rfl
 |s::r,m,up=>by rw[dO,Oe fns k h s m up,nb fns k h r]
end
theorem Di{c:Int}(h:c≠0):∀(ps:List (List UInt8)) (m:Scp),(kU ps m c).2=c
 |[],m=>rfl
 |s::r,m=>by
  have:=Di h r (eV m s 0)
  simp only[kU,List.foldl_cons,Jm h,ite_self] at this⊢
  exact this
theorem LQ(fns:List Fd)(k:Nat)(f:Fd){c:Int}(h:c≠0):icF fns k f c=c:=by
 simp only[icF,Jm h,ite_self]
 rw[Di h,nb fns k h]
theorem oq(fns:List Fd){c:Int}(h:c≠0):∀(l:List Fd) (k:Nat),gU fns k l c=c
 |[],k=>rfl
 |f::r,k=>by rw[gU,LQ fns k f h,oq fns h r]
theorem vu{fns:List Fd}{k:Nat}{f:Fd}(h:fns[k]?=some f):∃j,bU fns f.name=some j/\j<=k:=by
 cases e:bU fns f.name with
 |none=>
  rw[bU,WJ] at e
  have:=e f (Wm h)
  simp at this
 |some j=>
  refine⟨j,rfl,?_⟩
  rw[bU,Ww] at e
  obtain⟨h1,h2,h3⟩:=e
  rcases WM k j with hk|hk
  ·have:=h3 k hk
   obtain⟨a1,a2⟩:=VZ.1 h
   rw[a2] at this
   simp at this
  ·exact hk
theorem TN(fns:List Fd){k:Nat}{f:Fd}(hf:fns[k]?=some f)(hok:jP f=true):(fnW fns k f).code=icF fns k f 0:=by
 obtain⟨j,e1,e2⟩:=vu hf
 have hb:f.body.all (aJ 4)=true:=by simp only[jP,Wl] at hok;exact hok.2
 have hc:(if bU fns f.name=some k then(0:Int) else 2)=if(match bU fns f.name with|some j=>decide (j<k)|none=>true) then fl 0 2 else 0:=by
  rw[e1]
  by_cases h:j=k
  ·subst h;simp
  ·have:j<k:=by omega
   simp[h,this,fl]
 obtain⟨p1,p2⟩:=Jt f.params ⟨[],0,if bU fns f.name=some k then(0:Int) else 2⟩ [] SR.base
 obtain⟨q1,q2⟩:=RM fns k 4 0 f.body hb _ _ [] p1
 rw[fnW,q2,p2]
 simp only[icF,←hc]
theorem Nq(fns:List Fd):∀(l:List Fd) (k:Nat),(∀i,l[i]?=fns[k+i]?)->l.all jP=true->iW fns k l=gU fns k l 0
 |[],k,_,_=>rfl
 |f::r,k,hl,ha=>by
  rw[List.all_cons,Wl] at ha
  have h0:fns[k]?=some f:=by have:=hl 0;simpa using this.symm
  have hr:∀i,r[i]?=fns[k+1+i]?:=λi=>by have:=hl (i+1);rw[Ws] at this;rw[this];congr 1;omega
  rw[iW,gU,TN fns h0 ha.1]
  split
  ·rename_i e;rw[e];exact Nq fns r (k+1) hr ha.2
  ·rename_i e;rw[oq fns e]
theorem sY(fns:List Fd):bT fns=if bn fns then gU fns 0 fns 0 else 1:=by
 unfold bT
 split
 ·rename_i h
  simp only[bn,Wl] at h
  exact Nq fns fns 0 (λi=>by rw[WT]) h.1.2
 ·rfl
end
section
mutual
def rnS(fns:List Fd)(k b:Nat):Sm->WS->Sm
 | .mk o s a bd el,w=>
   let w2:=opW o s b ⟨w.vs,w.count,dg fns k w.vs a w.code⟩
   .mk o (opN o s w) (lu w.vs a) (iM fns k (b+1) bd w2) (iM fns k (b+1) el ((cw fns k (b+1) bd w2).back w2.vs))
def iM(fns:List Fd)(k b:Nat):List Sm->WS->List Sm
 |[],_=>[]
 |s::r,w=>rnS fns k b s w::iM fns k b r (stW fns k b s w)
end
def rt:List (List UInt8)->WS->List (List UInt8)
 |[],_=>[]
 |s::r,w=>vnm w.count::rt r (nF w s 0)
def rnF(fns:List Fd)(k:Nat)(f:Fd):Fd:=
 ⟨f.name,rt f.params ⟨[],0,if bU fns f.name=some k then 0 else 2⟩,iM fns k 0 f.body (cV f.params ⟨[],0,if bU fns f.name=some k then 0 else 2⟩)⟩
mutual
def vl:Sm->Nat
 | .mk o _ _ bd el=>(if o=1 then 1 else 0)+aU bd+aU el
def aU:List Sm->Nat
 |[]=>0
 |s::r=>vl s+aU r
end
theorem vj(o:Int)(s:List UInt8)(b:Nat)(w:WS):(opW o s b w).count=w.count+if o=1 then 1 else 0:=by
 unfold opW
 split
 ·rfl
 ·split<;>rfl
mutual
theorem CY(fns:List Fd)(k:Nat):∀(s:Sm) (b:Nat) (w:WS),(stW fns k b s w).count=w.count+vl s
 | .mk o s a bd el,b,w=>by
   rw[stW,vl]
   simp only[WS.back]
   rw[jj fns k el,jj fns k bd,vj];show w.count+_+_+_=_
   omega
theorem jj(fns:List Fd)(k:Nat):∀(l:List Sm) (b:Nat) (w:WS),(cw fns k b l w).count=w.count+aU l
 |[],b,w=>rfl
 |s::r,b,w=>by rw[cw,aU,jj fns k r,CY fns k s];omega
end
mutual
theorem Pl:∀s:Sm,vl s<=s.cnt
 | .mk o s a bd el=>by
   have:=fW bd
   have:=fW el
   simp only[vl,Sm.cnt]
   split<;>omega
theorem fW:∀l:List Sm,aU l<=dI l
 |[]=>Wn _
 |s::r=>by have:=Pl s;have:=fW r;simp only[aU,dI];omega
end
theorem vF:∀(ps:List (List UInt8)) (w:WS),(cV ps w).count=w.count+ps.length
 |[],w=>rfl
 |s::r,w=>by
  have:=vF r (nF w s 0)
  simp only[cV,List.foldl_cons,Wr] at this⊢
  rw[this];simp only[nF];omega
theorem OM(o:Int)(s:List UInt8)(b:Nat)(w:WS):∃e,(opW o s b w).vs=e++w.vs:=by
 unfold opW
 split
 ·exact⟨[_],rfl⟩
 ·split<;>exact⟨[],rfl⟩
theorem Ll(fns:List Fd)(k b:Nat)(o:Int)(s:List UInt8)(a:List Ex)(bd el:List Sm)(w:WS):(stW fns k b (.mk o s a bd el) w).vs=(opW o s b ⟨w.vs,w.count,dg fns k w.vs a w.code⟩).vs:=rfl
theorem FQ(fns:List Fd)(k:Nat):∀(l:List Sm) (b:Nat) (w:WS),∃e,(cw fns k b l w).vs=e++w.vs
 |[],b,w=>⟨[],rfl⟩
 | .mk o s a bd el::r,b,w=>by
   obtain⟨e1,h1⟩:=FQ fns k r b (stW fns k b (.mk o s a bd el) w)
   obtain⟨e2,h2⟩:=OM o s b ⟨w.vs,w.count,dg fns k w.vs a w.code⟩
   exact⟨e1++e2,by rw[cw,h1,Ll,h2,WL]⟩
theorem Rz{o:Int}{s:List UInt8}{b:Nat}{w:WS}(h:w.vs.length<=w.count):(opW o s b w).vs.length<=(opW o s b w).count:=by
 unfold opW
 split
 ·simp[nF,h]
 ·split<;>exact h
theorem RY(fns:List Fd)(k:Nat){s:Sm}{b:Nat}{w:WS}(h:w.vs.length<=w.count):(stW fns k b s w).vs.length<=(stW fns k b s w).count:=by
 obtain⟨o,n,a,bd,el⟩:=s
 rw[CY,Ll]
 have:=Rz (o:=o) (s:=n) (b:=b) (w:=⟨w.vs,w.count,dg fns k w.vs a w.code⟩) h
 rw[vj] at this
 simp only[vl]
 simp only at this
 omega
theorem Jo(fns:List Fd)(k:Nat):∀{l:List Sm} {b:Nat} {w:WS},w.vs.length<=w.count->(cw fns k b l w).vs.length<=(cw fns k b l w).count
 |[],_,_,h=>h
 |s::r,b,w,h=>Jo fns k (l:=r) (RY fns k h)
mutual
def Sm.pre(d:Nat):Sm->List (Sm × Nat)
 | .mk o s a bd el=>(.mk o s a bd el,d)::(bN (d+1) bd++bN (d+1) el)
def bN(d:Nat):List Sm->List (Sm × Nat)
 |[]=>[]
 |s::r=>Sm.pre d s++bN d r
end
theorem Sm.pre_eq(d:Nat)(s:Sm):s.pre d=(s,d)::(bN (d+1) s.body++bN (d+1) s.els):=by cases s;rfl
theorem sR(d:Nat):∀a b:List Sm,bN d (a++b)=bN d a++bN d b
 |[],b=>rfl
 |s::r,b=>by rw[WR,bN,bN,sR d r b,WL]
theorem Ex.pre_eq(e:Ex):e.pre=e::cI e.kids:=by cases e;rfl
theorem tY:∀a b:List Ex,cI (a++b)=cI a++cI b
 |[],b=>rfl
 |e::r,b=>by rw[WR,cI,cI,tY r b,WL]
mutual
theorem Sm.pre_len:∀(s:Sm) (d:Nat),(s.pre d).length=s.cnt
 | .mk o s a bd el,d=>by simp only[Sm.pre,Sm.cnt,Wr,Wq,lw bd,lw el];omega
theorem lw:∀(l:List Sm) (d:Nat),(bN d l).length=dI l
 |[],d=>rfl
 |s::r,d=>by simp only[bN,dI,Wq,Sm.pre_len s,lw r]
end
end
section
structure Ii where (op to:Int) (args:List Int) (n:Int)
structure Ph where (to:Int) (args:List Int)
def Ii.cs(x:Ii):List PV:=[.int .i64 x.op,.int .i64 x.to,bC x.args,.int .i64 x.n]
def Ph.cs(x:Ph):List PV:=[.int .i64 x.to,bC x.args]
def inL(l:List Ii):PV:= .lst 4 (l.map Ii.cs)
def phL(l:List Ph):PV:= .lst 2 (l.map Ph.cs)
structure Bk where (phis:List Ph) (ins:List Ii) (jump on:Int) (next:List Int)
def Bk.cs(b:Bk):List PV:=[phL b.phis,inL b.ins,.int .i64 b.jump,.int .i64 b.on,bC b.next]
def bkL(l:List Bk):PV:= .lst 5 (l.map Bk.cs)
structure Cd where (params regs:Int) (blocks:List Bk)
def Cd.cs(c:Cd):List PV:=[.int .i64 c.params,.int .i64 c.regs,bkL c.blocks]
def cdL(l:List Cd):PV:= .lst 3 (l.map Cd.cs)
def bk0:Bk:=⟨[],[],0,0,[]⟩
def Bk.put(b:Bk)(x:Ii):Bk:={b with ins:=b.ins++[x]}
def Bk.fin(b:Bk)(j o:Int)(nx:List Int):Bk:={b with jump:=j,on:=o,next:=nx}
def modB(f:Bk->Bk)(l:List Bk)(i:Nat):List Bk:=match l[i]? with|some b=>l.set i (f b)|none=>l
structure Lw where (regs:Nat) (bs:List Bk) (pos:Nat)
def Lw.put(w:Lw)(x:Ii):Lw:=⟨w.regs,modB (·.put x) w.bs w.pos,w.pos⟩
def Lw.name(w:Lw)(n:Nat):Lw:=⟨w.regs,w.bs++List.replicate n bk0,w.pos⟩
def Lw.fin(w:Lw)(j o:Int)(g:Nat)(nx:List Int):Lw:=⟨w.regs,modB (·.fin j o nx) w.bs w.pos,g⟩
def Lw.reg(w:Lw):Lw:=⟨w.regs+1,w.bs,w.pos⟩
def Lw.mk'(w:Lw)(op n:Int)(args:List Int):Lw:=w.reg.put ⟨op,w.regs,args,n⟩
def iR(o:Int):Int:=if o=11 then 10 else if o=12 then 11 else if o=13 then 14 else o
mutual
def lwE(fa sc:List UInt8->Int):Ex->Lw->Int × Lw
 | .mk o n s ks,w=>
   if o=1 then(w.regs,w.mk' 1 n [])
   else if o=2 then(sc s,w)
   else if o=10 then lwA fa sc ks w
   else let x:=bg fa sc ks w
    (x.2.regs,x.2.mk' (iR o) (if o=13 then fa s else 0) x.1)
def lwA(fa sc:List UInt8->Int):List Ex->Lw->Int × Lw
 |[a,b],w=>
  let x:=lwE fa sc a w
  let w2:=x.2.mk' 1 0 []
  let y:=lwE fa sc b ((w2.name 2).fin 2 x.1 w2.bs.length [w2.bs.length,w2.bs.length+1])
  (x.2.regs,((y.2.mk' 10 0 [y.1]).put ⟨10,x.2.regs,[y.2.regs],0⟩).fin 1 0 (w2.bs.length+1) [w2.bs.length+1])
 |_,w=>(0,w)
def bg(fa sc:List UInt8->Int):List Ex->Lw->List Int × Lw
 |[],w=>([],w)
 |e::r,w=>
  let x:=lwE fa sc e w
  let y:=bg fa sc r x.2
  (x.1::y.1,y.2)
end
def scF(d:Int)(ch:List Scp)(s:List UInt8):Int:=match cY ch s with|some n=>(n:Int)|none=>d
mutual
def lwS(fa:List UInt8->Int)(d:Int):Sm->Scp->List Scp->Nat->Lw->Scp × Nat × Lw
 | .mk o s a bd el,m,up,nx,w=>
   if o=6 then
    let w1:=(w.name 3).fin 1 0 w.bs.length [w.bs.length]
    let x:=lwE fa (scF d (m::up)) (a.headD (.mk 0 0 [] [])) w1
    let y:=aS fa d bd [] (m::up) nx (x.2.fin 2 x.1 (w.bs.length+1) [w.bs.length+1,w.bs.length+2])
    (m,y.2.1,y.2.2.fin 1 0 (w.bs.length+2) [w.bs.length])
   else
    let x:=bg fa (scF d (m::up)) a w
    if o=1 then(eV m s nx,nx+1,x.2.put ⟨2,nx,x.1,0⟩)
    else if o=2 then(m,nx,x.2.put ⟨2,scF d (m::up) s,x.1,0⟩)
    else if o=3 then(m,nx,x.2.put ⟨13,-1,x.1,0⟩)
    else if o=4 then(m,nx,x.2.put ⟨12,-1,x.1,0⟩)
    else if o=5 then
     let t:=x.2.bs.length
     let y:=aS fa d bd [] (m::up) nx ((x.2.name 3).fin 2 (x.1.headD 0) t [t,t+1])
     let z:=aS fa d el [] (m::up) y.2.1 (y.2.2.fin 1 0 (t+1) [t+2])
     (m,z.2.1,z.2.2.fin 1 0 (t+2) [t+2])
    else if o=7 then(m,nx,(x.2.name 1).fin 3 (x.1.headD 0) x.2.bs.length [])
    else(m,nx,x.2)
def aS(fa:List UInt8->Int)(d:Int):List Sm->Scp->List Scp->Nat->Lw->Scp × Nat × Lw
 |[],m,_,nx,w=>(m,nx,w)
 |s::r,m,up,nx,w=>
  let x:=lwS fa d s m up nx w
  aS fa d r x.1 up x.2.1 x.2.2
end
def psS:List (List UInt8)->Scp->Nat->Scp
 |[],m,_=>m
 |p::r,m,i=>psS r (eV m p i) (i+1)
def faI(l:List Fd)(s:List UInt8):Int:=match bU l s with|some i=>(i:Int)|none=> -1
def lwF(l:List Fd)(d:Int)(f:Fd):Cd:=
 let w0:Lw:=⟨f.params.length+aU f.body,[bk0],0⟩
 let x:=aS (faI l) d f.body (psS f.params [] 0) [] f.params.length w0
 let w:=x.2.2.mk' 1 0 []
 ⟨f.params.length,w.regs,(w.fin 3 x.2.2.regs 0 []).bs⟩
theorem zY(f:Bk->Bk)(l:List Bk)(i:Nat):(modB f l i).length=l.length:=by
 unfold modB;split<;>simp
theorem kK{f:Bk->Bk}{l:List Bk}{i:Nat}{b:Bk}(h:l[i]?=some b):modB f l i=l.set i (f b):=by
 unfold modB;rw[h]
structure Lw.Ok (w:Lw) (B:Nat):Prop where
 regs:w.regs<=B
 bs:w.bs.length<=B
 ins:∀b∈w.bs,b.ins.length<=B
 pos:w.pos<w.bs.length
theorem Lw.Ok.up{w:Lw}{A B:Nat}(H:w.Ok A)(h:A<=B):w.Ok B:=⟨WQ H.1 h,WQ H.2 h,λb hb=>WQ (H.3 b hb) h,H.4⟩
theorem Lw.Ok.cur{w:Lw}{B:Nat}(H:w.Ok B):∃b,w.bs[w.pos]?=some b/\b.ins.length<=B:=
 ⟨_,Wa H.pos,H.ins _ (Wo H.pos)⟩
theorem Lw.Ok.reg{w:Lw}{B:Nat}(H:w.Ok B):w.reg.Ok (B+1):=⟨by have:=H.1;show w.regs+1<=_;omega,by have:=H.2;show w.bs.length<=_;omega,λb hb=>by have:=H.3 b hb;omega,H.4⟩
theorem Lw.Ok.put{w:Lw}{B:Nat}(H:w.Ok B)(x:Ii):(w.put x).Ok (B+1):=by
 obtain⟨b,hb,hl⟩:=H.cur
 have hbs:(w.put x).bs=w.bs.set w.pos (b.put x):=kK hb
 refine⟨by have:=H.1;show w.regs<=_;omega,by rw[hbs,WU];have:=H.2;omega,λc hc=>?_,by rw[hbs,WU];exact H.4⟩
 rw[hbs] at hc
 rcases WK hc with h|rfl
 ·have:=H.3 c h;omega
 ·simp only[Bk.put,Wq,List.length_singleton];omega
theorem Lw.Ok.mk'{w:Lw}{B:Nat}(H:w.Ok B)(op n:Int)(args:List Int):(w.mk' op n args).Ok (B+2):=H.reg.put _
theorem Lw.Ok.name{w:Lw}{B:Nat}(H:w.Ok B)(n:Nat):(w.name n).Ok (B+n):=by
 refine⟨by have:=H.1;show w.regs<=_;omega,by have:=H.2;simp[Lw.name];omega,λb hb=>?_,by have:=H.4;simp[Lw.name];omega⟩
 rcases Wf.1 hb with h|h
 ·have:=H.3 b h;omega
 ·rw[(List.mem_replicate.1 h).2];simp[bk0]
theorem Lw.Ok.fin{w:Lw}{B:Nat}(H:w.Ok B)(j o:Int){g:Nat}(hg:g<w.bs.length)(nx:List Int):(w.fin j o g nx).Ok B:=by
 obtain⟨b,hb,hl⟩:=H.cur
 have hbs:(w.fin j o g nx).bs=w.bs.set w.pos (b.fin j o nx):=kK hb
 refine⟨H.1,by rw[hbs,WU];exact H.2,λc hc=>?_,by rw[hbs,WU];exact hg⟩
 rw[hbs] at hc
 rcases WK hc with h|rfl
 ·exact H.3 c h
 ·exact hl
@[simp] theorem Lw.put_len(w:Lw)(x:Ii):(w.put x).bs.length=w.bs.length:=zY _ _ _
@[simp] theorem Lw.mk'_len(w:Lw)(op n:Int)(args:List Int):(w.mk' op n args).bs.length=w.bs.length:=zY _ _ _
@[simp] theorem Lw.fin_len(w:Lw)(j o:Int)(g:Nat)(nx:List Int):(w.fin j o g nx).bs.length=w.bs.length:=zY _ _ _
@[simp] theorem Lw.name_len(w:Lw)(n:Nat):(w.name n).bs.length=w.bs.length+n:=by simp[Lw.name]
@[simp] theorem Lw.fin_pos(w:Lw)(j o:Int)(g:Nat)(nx:List Int):(w.fin j o g nx).pos=g:=rfl
theorem Lc(fa sc:List UInt8->Int)(e:Ex)(w:Lw):lwE fa sc e w=if e.op=1 then((w.regs:Int),w.mk' 1 e.n []) else if e.op=2 then(sc e.name,w) else if e.op=10 then lwA fa sc e.kids w else
 ((bg fa sc e.kids w).2.regs,(bg fa sc e.kids w).2.mk' (iR e.op) (if e.op=13 then fa e.name else 0) (bg fa sc e.kids w).1):=by
 obtain⟨o,n,s,ks⟩:=e;rw[lwE];rfl
theorem fZ(fa sc:List UInt8->Int):∀(l:List Ex) (w:Lw),(bg fa sc l w).1.length=l.length
 |[],_=>by rw[bg];rfl
 |e::r,w=>by rw[bg];simp[fZ fa sc r]
theorem FW(fa sc:List UInt8->Int):∀(a b:List Ex) (w:Lw),bg fa sc (a++b) w=((bg fa sc a w).1++(bg fa sc b (bg fa sc a w).2).1,(bg fa sc b (bg fa sc a w).2).2)
 |[],b,w=>by simp[bg]
 |e::r,b,w=>by rw[WR,bg,bg,FW fa sc r];simp
theorem uE{fa sc:List UInt8->Int}{l:List Ex}{i:Nat}(h:i<l.length)(w:Lw):bg fa sc (l.take (i+1)) w=((bg fa sc (l.take i) w).1++[(lwE fa sc l[i] (bg fa sc (l.take i) w).2).1],(lwE fa sc l[i] (bg fa sc (l.take i) w).2).2):=by
 rw[aw h,FW,bg,bg]
mutual
theorem mW(fa sc:List UInt8->Int):∀(e:Ex) (w:Lw) (B:Nat),w.Ok B->(lwE fa sc e w).2.Ok (B+8*e.sz)/\w.bs.length<=(lwE fa sc e w).2.bs.length
 | .mk o n s ks,w,B,H=>by
   have hz:(Ex.mk o n s ks).sz=1+s.length+aM ks:=Ex.sz_eq _
   rw[hz,lwE]
   split
   ·exact⟨(H.mk' _ _ _).up (by omega),by simp⟩
   split
   ·exact⟨H.up (by omega),Wn _⟩
   split
   ·have:=RH fa sc ks w B H
    exact⟨this.1.up (by omega),this.2⟩
   ·have:=jp fa sc ks w B H
    exact⟨(this.1.mk' _ _ _).up (by omega),by simpa using this.2⟩
theorem RH(fa sc:List UInt8->Int):∀(l:List Ex) (w:Lw) (B:Nat),w.Ok B->(lwA fa sc l w).2.Ok (B+8*aM l+7)/\w.bs.length<=(lwA fa sc l w).2.bs.length
 |[],w,B,H=>by rw[lwA];exact⟨H.up (by omega),Wn _⟩;intro a b h;cases h
 |[a],w,B,H=>by rw[lwA];exact⟨H.up (by omega),Wn _⟩;intro a b h;cases h
 |a::b::c::r,w,B,H=>by rw[lwA];exact⟨H.up (by omega),Wn _⟩;intro a b h;cases h
 |[a,b],w,B,H=>by
  obtain⟨h1,l1⟩:=mW fa sc a w B H
  have hz:aM [a,b]=a.sz+b.sz:=by simp[aM]
  have ha:=a.sz_eq
  have hb:=b.sz_eq
  rw[lwA,hz]
  simp only
  generalize lwE fa sc a w=x at*
  have h2:=((h1.mk' 1 0 []).name 2).fin 2 x.1 (g:=(x.2.mk' 1 0 []).bs.length) (by simp) [((x.2.mk' 1 0 []).bs.length:Int),((x.2.mk' 1 0 []).bs.length:Int)+1]
  obtain⟨h3,l3⟩:=mW fa sc b _ _ h2
  generalize lwE fa sc b _=y at*
  simp at l3
  have hg:(x.2.mk' 1 0 []).bs.length+1<((y.2.mk' 10 0 [y.1]).put ⟨10,x.2.regs,[(y.2.regs:Int)],0⟩).bs.length:=by simp;omega
  have h4:=((h3.mk' 10 0 [y.1]).put ⟨10,x.2.regs,[(y.2.regs:Int)],0⟩).fin 1 0 hg [((x.2.mk' 1 0 []).bs.length:Int)+1]
  exact⟨h4.up (by omega),by simp;omega⟩
theorem jp(fa sc:List UInt8->Int):∀(l:List Ex) (w:Lw) (B:Nat),w.Ok B->(bg fa sc l w).2.Ok (B+8*aM l)/\w.bs.length<=(bg fa sc l w).2.bs.length
 |[],w,B,H=>by rw[bg];exact⟨H.up (by omega),Wn _⟩
 |e::r,w,B,H=>by
  obtain⟨h1,l1⟩:=mW fa sc e w B H
  have hz:aM (e::r)=e.sz+aM r:=by rw[aM]
  rw[bg,hz]
  simp only
  obtain⟨h2,l2⟩:=jp fa sc r _ _ h1
  exact⟨h2.up (by omega),WQ l1 l2⟩
end
end
section
theorem FZ(a:List Ex):(a.headD (.mk 0 0 [] [])).sz<=aM a+1:=by
 cases a with
 |nil=>rw[Ex.sz_eq];simp[Ex.name,Ex.kids,aM]
 |cons x r=>simp only[List.headD_cons,aM];omega
theorem Pm(s:Sm):vl s=(if s.op=1 then 1 else 0)+aU s.body+aU s.els:=by
 obtain⟨o,n,a,b,e⟩:=s;rw[vl];rfl
mutual
theorem RK(fa:List UInt8->Int)(d:Int):∀(s:Sm) (m:Scp) (up:List Scp) (nx:Nat) (w:Lw) (B:Nat),w.Ok B->(lwS fa d s m up nx w).2.2.Ok (B+20*s.sz)/\w.bs.length<=(lwS fa d s m up nx w).2.2.bs.length/\nx<=(lwS fa d s m up nx w).2.1/\(lwS fa d s m up nx w).2.1<=nx+s.sz
 | .mk o n a bd el,m,up,nx,w,B,H=>by
   have hz:(Sm.mk o n a bd el).sz=1+n.length+aM a+aD bd+aD el:=Sm.sz_eq _
   rw[hz,lwS]
   simp only
   split
   ·have h1:=(H.name 3).fin 1 0 (g:=w.bs.length) (by simp) [(w.bs.length:Int)]
    have hh:=FZ a
    obtain⟨h2,l2⟩:=mW fa (scF d (m::up)) (a.headD (.mk 0 0 [] [])) _ _ h1
    generalize lwE fa (scF d (m::up)) (a.headD (.mk 0 0 [] [])) _=x at*
    simp at l2
    have h3:=h2.fin 2 x.1 (g:=w.bs.length+1) (by omega) [(w.bs.length:Int)+1,(w.bs.length:Int)+2]
    obtain⟨h4,l4,l5,l6⟩:=dh fa d bd [] (m::up) nx _ _ h3
    generalize aS fa d bd [] (m::up) nx _=y at*
    simp at l4
    have h5:=h4.fin 1 0 (g:=w.bs.length+2) (by omega) [(w.bs.length:Int)]
    exact⟨h5.up (by omega),by simp;omega,l5,by show y.2.1<=_;omega⟩
   ·obtain⟨h1,l1⟩:=jp fa (scF d (m::up)) a _ _ H
    generalize bg fa (scF d (m::up)) a w=x at*
    split
    ·exact⟨(h1.put _).up (by omega),by simpa using l1,by show nx<=nx+1;omega,by show nx+1<=_;omega⟩
    split
    ·exact⟨(h1.put _).up (by omega),by simpa using l1,Wn _,by show nx<=_;omega⟩
    split
    ·exact⟨(h1.put _).up (by omega),by simpa using l1,Wn _,by show nx<=_;omega⟩
    split
    ·exact⟨(h1.put _).up (by omega),by simpa using l1,Wn _,by show nx<=_;omega⟩
    split
    ·have h3:=(h1.name 3).fin 2 (x.1.headD 0) (g:=x.2.bs.length) (by simp) [(x.2.bs.length:Int),(x.2.bs.length:Int)+1]
     obtain⟨h4,l4,l5,l6⟩:=dh fa d bd [] (m::up) nx _ _ h3
     generalize aS fa d bd [] (m::up) nx _=y at*
     simp at l4
     have h5:=h4.fin 1 0 (g:=x.2.bs.length+1) (by omega) [(x.2.bs.length:Int)+2]
     obtain⟨h6,l7,l8,l9⟩:=dh fa d el [] (m::up) y.2.1 _ _ h5
     generalize aS fa d el [] (m::up) y.2.1 _=z at*
     simp at l7
     have h7:=h6.fin 1 0 (g:=x.2.bs.length+2) (by omega) [(x.2.bs.length:Int)+2]
     exact⟨h7.up (by omega),by simp;omega,by show nx<=z.2.1;omega,by show z.2.1<=_;omega⟩
    split
    ·have h3:=(h1.name 1).fin 3 (x.1.headD 0) (g:=x.2.bs.length) (by simp) []
     exact⟨h3.up (by omega),by simp;omega,Wn _,by show nx<=_;omega⟩
    ·exact⟨h1.up (by omega),l1,Wn _,by show nx<=_;omega⟩
theorem dh(fa:List UInt8->Int)(d:Int):∀(l:List Sm) (m:Scp) (up:List Scp) (nx:Nat) (w:Lw) (B:Nat),w.Ok B->(aS fa d l m up nx w).2.2.Ok (B+20*aD l)/\w.bs.length<=(aS fa d l m up nx w).2.2.bs.length/\nx<=(aS fa d l m up nx w).2.1/\(aS fa d l m up nx w).2.1<=nx+aD l
 |[],m,up,nx,w,B,H=>by rw[aS];exact⟨H.up (by omega),Wn _,Wn _,by show nx<=_;omega⟩
 |s::r,m,up,nx,w,B,H=>by
  obtain⟨h1,l1,l2,l3⟩:=RK fa d s m up nx w B H
  have hz:aD (s::r)=s.sz+aD r:=by rw[aD]
  rw[aS,hz]
  obtain⟨h4,l4,l5,l6⟩:=dh fa d r (lwS fa d s m up nx w).1 up _ _ _ h1
  exact⟨h4.up (by omega),by omega,by omega,by omega⟩
end
theorem Fj(fa:List UInt8->Int)(d:Int):∀(a b:List Sm) (m:Scp) (up:List Scp) (nx:Nat) (w:Lw),aS fa d (a++b) m up nx w=aS fa d b (aS fa d a m up nx w).1 up (aS fa d a m up nx w).2.1 (aS fa d a m up nx w).2.2
 |[],b,m,up,nx,w=>by simp[aS]
 |s::r,b,m,up,nx,w=>by rw[WR,aS,aS,Fj fa d r]
theorem vq{fa:List UInt8->Int}{d:Int}{l:List Sm}{i:Nat}(h:i<l.length)(m:Scp)(up:List Scp)(nx:Nat)(w:Lw):
 aS fa d (l.take (i+1)) m up nx w=lwS fa d l[i] (aS fa d (l.take i) m up nx w).1 up (aS fa d (l.take i) m up nx w).2.1 (aS fa d (l.take i) m up nx w).2.2:=by
 rw[aw h,Fj,aS,aS]
end
section
mutual
theorem IY(fa:List UInt8->Int){sc sc':List UInt8->Int}:∀(e:Ex) (w:Lw),(∀p∈e.pre,p.op=2->sc p.name=sc' p.name)->lwE fa sc e w=lwE fa sc' e w
 | .mk o n s ks,w,h=>by
   rw[Ex.pre] at h
   have h0:=h (.mk o n s ks) (by simp)
   have hk:∀p∈cI ks,p.op=2->sc p.name=sc' p.name:=λp hp=>h p (by simp[hp])
   rw[lwE,lwE]
   split
   ·rfl
   split
   ·rename_i h2
    have:=h0 h2
    simp only[Ex.name] at this
    rw[this]
   split
   ·exact TC fa ks w hk
   ·rw[GM fa ks w hk]
theorem TC(fa:List UInt8->Int){sc sc':List UInt8->Int}:∀(l:List Ex) (w:Lw),(∀p∈cI l,p.op=2->sc p.name=sc' p.name)->lwA fa sc l w=lwA fa sc' l w
 |[],w,_=>by rw[lwA,lwA]<;>intro a b h<;>cases h
 |[a],w,_=>by rw[lwA,lwA]<;>intro a b h<;>cases h
 |a::b::c::r,w,_=>by rw[lwA,lwA]<;>intro a b h<;>cases h
 |[a,b],w,h=>by
  have ha:=IY fa a w (λp hp=>h p (by simp[cI,hp]))
  rw[lwA,lwA,ha]
  rw[IY fa b _ (λp hp=>h p (by simp[cI,hp]))]
theorem GM(fa:List UInt8->Int){sc sc':List UInt8->Int}:∀(l:List Ex) (w:Lw),(∀p∈cI l,p.op=2->sc p.name=sc' p.name)->bg fa sc l w=bg fa sc' l w
 |[],w,_=>by rw[bg,bg]
 |e::r,w,h=>by
  rw[bg,bg,IY fa e w (λp hp=>h p (by simp[cI,hp])),GM fa r _ (λp hp=>h p (by simp[cI,hp]))]
end
def KS:List Scp->List Scp->Prop
 |[],[]=>True
 |m::a,m0::b=>(∀t,(fO m t).isSome=(fO m0 t).isSome)/\KS a b
 |_,_=>False
theorem KS.fnd:∀{a b:List Scp},KS a b->∀t,(cY a t).isSome=(cY b t).isSome
 |[],[],_,t=>rfl
 |m::a,m0::b,h,t=>by
  have h1:=h.1 t
  have h2:=KS.fnd h.2 t
  rw[cY,cY]
  cases e1:fO m t with
  |some x=>
   rw[e1] at h1
   cases e2:fO m0 t with
   |some y=>rfl
   |none=>rw[e2] at h1;cases h1
  |none=>
   rw[e1] at h1
   cases e2:fO m0 t with
   |some y=>rw[e2] at h1;cases h1
   |none=>exact h2
 |[],_::_,h,_=>h.elim
 |_::_,[],h,_=>h.elim
theorem KS.set{a b:List Scp}{m m0:Scp}(h:KS (m::a) (m0::b))(s:List UInt8)(i j:Nat):KS (eV m s i::a) (eV m0 s j::b):=
 ⟨λt=>by
   rw[lF,lF]
   split
   ·rfl
   ·exact h.1 t,h.2⟩
theorem BL{fns:List Fd}{k:Nat}{ch:List Scp}:∀{l:List Ex} {c:Int},l.foldl (eu fns k ch) c=0->c=0/\∀e∈l,eu fns k ch 0 e=0
 |[],c,h=>⟨h,λe he=>by cases he⟩
 |e::r,c,h=>by
  have hc:c=0:=by
   by_cases hc:c=0
   ·exact hc
   ·rw[uI hc] at h;exact(hc h).elim
  subst hc
  rw[List.foldl_cons] at h
  obtain⟨h1,h2⟩:=BL h
  refine⟨rfl,λx hx=>?_⟩
  rcases Wd.1 hx with rfl|hx
  ·exact h1
  ·exact h2 x hx
theorem PJ{fns:List Fd}{k:Nat}{ch:List Scp}{e:Ex}(h:eu fns k ch 0 e=0)(h2:e.op=2):(cY ch e.name).isSome=true:=by
 rw[eu,if_pos h2] at h
 by_cases hs:(cY ch e.name).isSome=true
 ·exact hs
 ·rw[if_neg hs] at h;simp[fl] at h
theorem SW{ch ch0:List Scp}(hk:KS ch ch0){fns:List Fd}{k:Nat}{l:List Ex}{c:Int}(h:te fns k ch0 l c=0):∀p∈cI l,p.op=2->scF (-1) ch p.name=scF 0 ch p.name:=λp hp h2=>by
 have h1:=PJ ((BL h).2 p hp) h2
 rw[←hk.fnd] at h1
 obtain⟨n,hn⟩:=Option.isSome_iff_exists.1 h1
 rw[scF,scF,hn]
theorem gO{fns:List Fd}{k:Nat}{l:List Sm}{m:Scp}{up:List Scp}{c:Int}(h:(dO fns k l m up c).2=0):c=0:=by
 by_cases hc:c=0
 ·exact hc
 ·rw[nb fns k hc] at h;exact h
mutual
theorem SZ(fa:List UInt8->Int)(fns:List Fd)(k:Nat):∀(s:Sm) (m m0:Scp) (up up0:List Scp) (nx:Nat) (w:Lw),KS (m::up) (m0::up0)->(icS fns k s m0 up0 0).2=0->
 lwS fa (-1) s m up nx w=lwS fa 0 s m up nx w/\KS ((lwS fa 0 s m up nx w).1::up) ((icS fns k s m0 up0 0).1::up0)
 | .mk o n a bd el,m,m0,up,up0,nx,w,hk,h=>by
   rw[icS] at h⊢
   simp only at h⊢
   obtain⟨c2,hc2⟩:∃c2,c2=opC o n m0 up0 (te fns k (m0::up0) a 0):=⟨_,rfl⟩
   rw[←hc2] at h
   have hbe:c2=0/\(o=5\/o=6->(dO fns k bd [] (opS o n m0 0::up0) 0).2=0/\(dO fns k el [] (opS o n m0 0::up0) 0).2=0):=by
    by_cases h56:o=5\/o=6
    ·rw[if_pos h56] at h
     have h1:=gO h
     rw[h1] at h
     have h2:=gO h1
     rw[h2] at h1
     exact⟨h2,λ_=>⟨h1,h⟩⟩
    ·rw[if_neg h56] at h
     exact⟨h,λh'=>(h56 h').elim⟩
   obtain⟨e2,hblk⟩:=hbe
   rw[e2] at hc2
   have hce:te fns k (m0::up0) a 0=0:=by
    by_cases hc:te fns k (m0::up0) a 0=0
    ·exact hc
    ·rw[BQ hc] at hc2;exact hc2.symm
   have hsc:=SW hk hce
   have hkm:∀x:Lw,True:=λ_=>trivial
   rw[lwS,lwS]
   by_cases o6:o=6
   ·have hop:opS o n m0 0=m0:=by rw[opS,if_neg (by omega)]
    obtain⟨hb,_⟩:=hblk (.inr o6)
    rw[hop] at hb
    simp only[if_pos o6]
    have hh:∀p∈(a.headD (.mk 0 0 [] [])).pre,p.op=2->scF (-1) (m::up) p.name=scF 0 (m::up) p.name:=by
     cases a with
     |nil=>
      intro p hp h2
      simp[Ex.pre,cI] at hp
      rw[hp] at h2
      simp[Ex.op] at h2
     |cons x r=>exact λp hp=>hsc p (by simp[cI];exact .inl hp)
    rw[IY fa _ _ hh,(Bn fa fns k bd [] [] (m::up) (m0::up0) nx _ ⟨λ_=>rfl,hk⟩ hb).1]
    refine⟨rfl,?_⟩
    rw[hop]
    exact hk
   ·simp only[if_neg o6]
    rw[GM fa a w hsc]
    by_cases o1:o=1
    ·simp only[if_pos o1]
     refine⟨trivial,?_⟩
     rw[opS,if_pos o1]
     exact hk.set n nx 0
    have hop:opS o n m0 0=m0:=by rw[opS,if_neg o1]
    rw[hop]
    simp only[if_neg o1]
    by_cases o2:o=2
    ·simp only[if_pos o2]
     have hf:(cY (m0::up0) n).isSome=true:=by
      rw[hce,opC,if_neg o1,if_pos o2] at hc2
      by_cases hs:(cY (m0::up0) n).isSome=true
      ·exact hs
      ·rw[if_neg hs] at hc2;simp[fl] at hc2
     rw[←hk.fnd] at hf
     obtain⟨q,hq⟩:=Option.isSome_iff_exists.1 hf
     rw[scF,scF,hq]
     exact⟨rfl,hk⟩
    simp only[if_neg o2]
    by_cases o3:o=3
    ·simp only[if_pos o3];exact⟨trivial,hk⟩
    simp only[if_neg o3]
    by_cases o4:o=4
    ·simp only[if_pos o4];exact⟨trivial,hk⟩
    simp only[if_neg o4]
    by_cases o5:o=5
    ·simp only[if_pos o5]
     obtain⟨hb,he⟩:=hblk (.inl o5)
     rw[hop] at hb he
     rw[(Bn fa fns k bd [] [] (m::up) (m0::up0) nx _ ⟨λ_=>rfl,hk⟩ hb).1,(Bn fa fns k el [] [] (m::up) (m0::up0) _ _ ⟨λ_=>rfl,hk⟩ he).1]
     exact⟨rfl,hk⟩
    simp only[if_neg o5]
    split
    ·exact⟨trivial,hk⟩
    ·exact⟨trivial,hk⟩
theorem Bn(fa:List UInt8->Int)(fns:List Fd)(k:Nat):∀(l:List Sm) (m m0:Scp) (up up0:List Scp) (nx:Nat) (w:Lw),KS (m::up) (m0::up0)->(dO fns k l m0 up0 0).2=0->
 aS fa (-1) l m up nx w=aS fa 0 l m up nx w/\KS ((aS fa 0 l m up nx w).1::up) ((dO fns k l m0 up0 0).1::up0)
 |[],m,m0,up,up0,nx,w,hk,_=>by rw[aS,aS,dO];exact⟨rfl,hk⟩
 |s::r,m,m0,up,up0,nx,w,hk,h=>by
  rw[dO] at h⊢
  have h1:=gO h
  obtain⟨e1,k1⟩:=SZ fa fns k s m m0 up up0 nx w hk h1
  rw[h1] at h⊢
  rw[aS,aS,e1]
  exact Bn fa fns k r _ _ up up0 _ _ k1 h
end
theorem LI:∀(ps:List (List UInt8)) (m m0:Scp) (i:Nat) (c:Int),KS [m] [m0]->KS [psS ps m i] [(kU ps m0 c).1]
 |[],m,m0,i,c,h=>h
 |p::r,m,m0,i,c,h=>by
  rw[psS]
  have:=LI r (eV m p i) (eV m0 p 0) (i+1) (if(fO m0 p).isSome then fl c 2 else c) (h.set p i 0)
  simpa[kU] using this
theorem Tg(l:List Fd){fns:List Fd}{k:Nat}{f:Fd}{c:Int}(h:icF fns k f c=0):lwF l (-1) f=lwF l 0 f:=by
 rw[icF] at h
 have h0:=gO h
 rw[h0] at h
 have hk:=LI f.params [] [] 0 (if(match bU fns f.name with|some j=>decide (j<k)|none=>true) then fl c 2 else c) ⟨λ_=>rfl,trivial⟩
 rw[lwF,lwF,(Bn (faI l) fns k f.body _ _ [] [] f.params.length _ hk h).1]
theorem CU{fns:List Fd}:∀{l:List Fd} {k:Nat} {c:Int},gU fns k l c=0->∀f∈l,∃k' c',icF fns k' f c'=0
 |[],k,c,h,f,hf=>by cases hf
 |g::r,k,c,h,f,hf=>by
  rw[gU] at h
  rcases Wd.1 hf with rfl|hf
  ·refine⟨k,c,?_⟩
   by_cases hc:icF fns k f c=0
   ·exact hc
   ·rw[oq fns hc] at h;exact h
  ·exact CU h f hf
theorem NI{l:List Fd}(h:bT l=0):∀f∈l,lwF l (-1) f=lwF l 0 f:=λf hf=>by
 rw[sY] at h
 split at h
 ·obtain⟨k,c,hi⟩:=CU h f hf
  exact Tg l hi
 ·cases h
end
section
def KP{α:Type}(p:Nat->α->Bool)(l:List α):Bool:=l.zipIdx.all λx=>p x.2 x.1
theorem allI_iff{α:Type}{p:Nat->α->Bool}{l:List α}:KP p l=true↔∀(i:Nat) (x:α),l[i]?=some x->p i x=true:=by
 rw[KP,Wj]
 constructor
 ·intro h i x hx;exact h (x,i) (List.mem_zipIdx_iff_getElem?.2 hx)
 ·intro h ⟨x,i⟩ hm;exact h i x (List.mem_zipIdx_iff_getElem?.1 hm)
theorem nW{α:Type}{p:Nat->α->Bool}{l:List α}{i:Nat}{x:α}(h:l[i]?=some x)(hp:p i x=false):KP p l=false:=by
 cases e:KP p l with
 |false=>rfl
 |true=>rw[allI_iff.1 e i x h] at hp;cases hp
theorem no{α:Type}{p:α->Bool}{l:List α}{x:α}(h:x∈l)(hp:p x=false):l.all p=false:=by
 rw[List.all_eq_false];exact⟨x,h,by simp[hp]⟩
def gg(o:Int):Bool:=inR o 1 14&& !decide (o=12)&& !decide (o=13)
def pg(o:Int):Int:=if o=1 then 0 else if o=2\/o=10\/o=11\/o=13 then 1 else 2
def dV(g r:Int):Bool:=inR r 0 (g-1)
def zs(u:List Cd)(n:Int):Int:=match u[n.toNat]? with|some c=>c.params|none=> -1
def fS(u:List Cd)(k:Nat)(g:Int)(x:Ii):Bool:=
 inR x.op 1 14&&x.args.all (dV g)&&(if gg x.op then dV g x.to else decide (x.to= -1))&&
 (if x.op=14 then inR x.n 0 ((k:Int)-1)&&decide ((x.args.length:Int)=zs u x.n)
  else if x.op=1 then decide (x.args.length=0)&&inR x.n 0 255
  else decide (x.n=0)&&decide ((x.args.length:Int)=pg x.op))
def nxN(j:Int):Int:=if j=1 then 1 else if j=2 then 2 else if j=3 then 0 else-1
def onU(j:Int):Bool:=decide (j=2)||decide (j=3)
def cZ(bs:List Bk)(b:Int):List Int:=(bs.zipIdx.filter λx=>decide (b∈x.1.next)).map λx=>(x.2:Int)
def phB(g:Int)(b n:Nat)(x:Ph):Bool:= !decide (b=0)&&decide (x.args.length=n)&&x.args.all (dV g)&&dV g x.to
def bkB(u:List Cd)(k:Nat)(c:Cd)(b:Nat)(x:Bk):Bool:=
 decide ((x.next.length:Int)=nxN x.jump)&&(if onU x.jump then dV c.regs x.on else decide (x.on=0))&&x.next.all (λn=>inR n 1 ((c.blocks.length:Int)-1))&&x.ins.all (fS u k c.regs)&&x.phis.all (phB c.regs b (cZ c.blocks b).length)
def bkN(x:Bk):Nat:=x.ins.length+x.phis.length
def cdN(c:Cd):Nat:=(c.blocks.map bkN).sum
def unN(u:List Cd):Nat:=(u.map cdN).sum
def cdB(u:List Cd)(k:Nat)(c:Cd):Bool:=inR c.params 0 3&&inR c.regs c.params 300&&inR c.blocks.length 1 160&&KP (bkB u k c) c.blocks
def unB(u:List Cd):Bool:=inR u.length 1 4&&KP (cdB u) u&&decide (unN u<=800)
structure BkFit (M:Nat) (b:Bk):Prop where
 phis:b.phis.length<=M
 ins:b.ins.length<=M
 next:b.next.length<=M
 pa:∀x∈b.phis,x.args.length<=M
 ia:∀x∈b.ins,x.args.length<=M
def IQ(M:Nat)(c:Cd):Prop:=c.blocks.length<=M/\∀b∈c.blocks,BkFit M b
def Fh(M:Nat)(u:List Cd):Prop:=u.length<=M/\∀c∈u,IQ M c
theorem Cd.cs_eq2(c:Cd):c.cs=[.int .i64 c.params,.int .i64 c.regs,bkL c.blocks]:=rfl
theorem Bk.cs_eq2(b:Bk):b.cs=[phL b.phis,inL b.ins,.int .i64 b.jump,.int .i64 b.on,bC b.next]:=rfl
theorem Ii.cs_eq2(x:Ii):x.cs=[.int .i64 x.op,.int .i64 x.to,bC x.args,.int .i64 x.n]:=rfl
theorem Ph.cs_eq2(x:Ph):x.cs=[.int .i64 x.to,bC x.args]:=rfl
theorem gP{α:Type}(f:α->Nat)(l:List α)(i:Nat):((l.take i).map f).sum<=(l.map f).sum:=by
 have:=congrArg (λl=>(List.map f l).sum) (WI i l)
 simp only[List.map_append,List.sum_append] at this
 omega
theorem lK{α:Type}(f:α->Nat){l:List α}{i:Nat}{x:α}(h:l[i]?=some x):((l.take (i+1)).map f).sum=((l.take i).map f).sum+f x:=by
 obtain⟨hi,rfl⟩:=VZ.1 h
 rw[aw hi,List.map_append,List.sum_append];simp
theorem oo(bs:List Bk)(b:Int):(cZ bs b).length<=bs.length:=by
 rw[cZ,WD]
 exact WQ (List.length_filter_le _ _) (by simp)
theorem FA{α:Type}{l:List α}{i:Nat}{x:α}(h:l[i]?=some x):(l.take (i+1)).zipIdx=(l.take i).zipIdx++[(x,i)]:=by
 obtain⟨hi,rfl⟩:=VZ.1 h
 rw[aw hi,List.zipIdx_append,Wv,Nat.min_eq_left (by omega)]
 simp
theorem vC{bs:List Bk}{b:Int}{i:Nat}{x:Bk}(h:bs[i]?=some x):cZ (bs.take (i+1)) b=cZ (bs.take i) b++(if b∈x.next then[(i:Int)] else[]):=by
 rw[cZ,FA h,List.filter_append,List.map_append]
 congr 1
 by_cases hb:b∈x.next<;>simp[hb]
theorem vH(u:List Cd){i:Nat}{c:Cd}(h:u[i]?=some c)(j:Nat):unN (u.take i)+((c.blocks.take j).map bkN).sum<=unN u:=by
 have h1:=lK cdN h
 have h2:=gP cdN u (i+1)
 have h3:=gP bkN c.blocks j
 have h4:cdN c=(c.blocks.map bkN).sum:=rfl
 simp only[unN]
 omega
end
section
theorem HI{d:Nat}{e:Ex}(h:bY (d+1) e=true):(∀a∈e.kids,bY d a=true)/\(e.op=1\/e.op=2->e.kids=[])/\(e.op=10->∃a b,e.kids=[a,b]):=by
 rw[bY,Wl] at h
 refine⟨λa ha=>Wj.1 h.2 a ha,λho=>?_,λho=>?_⟩
 ·have h:=h.1
  simp only[lC,Wl,inR,decide_eq_true_eq] at h
  obtain⟨⟨⟨⟨⟨_,h2⟩,_⟩,_⟩,_⟩,_⟩:=h
  rw[loK,if_pos ho,hiK,if_pos ho] at h2
  exact List.length_eq_zero_iff.1 (by omega)
 ·have h:=h.1
  simp only[lC,Wl,inR,decide_eq_true_eq] at h
  obtain⟨⟨⟨⟨⟨_,h2⟩,_⟩,_⟩,_⟩,_⟩:=h
  rw[ho,show loK 10=2 from rfl,show hiK 10=2 from rfl] at h2
  match e.kids,h2 with
  |[a,b],_=>exact⟨a,b,rfl⟩
  |[],h=>simp at h
  |[_],h=>simp at h
  |_::_::_::r,h=>simp only[Wr] at h;omega
theorem NK{d:Nat}{s:Sm}(h:aJ (d+1) s=true):(∀a∈s.args,bY 6 a=true)/\(∀x∈s.body,aJ d x=true)/\(∀x∈s.els,aJ d x=true)/\(s.op=6->∃a,s.args=[a])/\(¬s.op=5->s.els=[])/\(¬s.op=5->¬s.op=6->s.body=[]):=by
 rw[aJ,Wl,Wl] at h
 obtain⟨⟨hh,hb⟩,he⟩:=h
 simp only[fU,Wl,Wj,Bool.or_eq_true,decide_eq_true_eq,List.isEmpty_iff] at hh
 refine⟨λa ha=>?_,λx hx=>Wj.1 hb x hx,λx hx=>Wj.1 he x hx,λh6=>?_,λh5=>?_,λh5 h6=>?_⟩
 ·have:=hh.1.1.1.2 a ha
  rw[lV,Wl] at this
  exact this.1
 ·have h1:=hh.1.1.1.1.1.1.2
  rw[jF,if_neg (by omega)] at h1
  exact List.length_eq_one_iff.1 h1
 ·rcases hh.1.2 with h|h
  ·exact h
  ·exact(h5 h).elim
 ·rcases hh.2 with(h|h)|h
  ·exact h
  ·exact(h5 h).elim
  ·exact(h6 h).elim
end
section
theorem zW(l:List Fd)(k:Nat)(s:List UInt8):bU (l.take k) s=match bU l s with|some j=>if j<k then some j else none|none=>none:=uf
theorem Po(l:List Fd){k j:Nat}(h:j<k):DH (l.take k) j=DH l j:=by
 unfold DH;rw[Xh h]
theorem EO(l:List Fd)(k:Nat)(s:List UInt8)(n:Nat)(c:Int):oy l k s n c=oy (l.take k) k s n c:=by
 unfold oy
 rw[zW]
 cases bU l s with
 |none=>rfl
 |some j=>
  by_cases h:j<k
  ·simp only[if_pos h,if_neg (show¬k<=j by omega),Po l h]
  ·simp only[if_neg h,if_pos (show k<=j by omega)]
theorem Mb{a b:List Fd}{k:Nat}(h:a.take k=b.take k)(vs:List LV)(o:Int)(s:List UInt8)(n:Nat)(c:Int):nC a k vs o s n c=nC b k vs o s n c:=by
 unfold nC
 rw[EO a,EO b,h]
mutual
theorem PW{a b:List Fd}{k:Nat}(h:a.take k=b.take k)(vs:List LV):∀(e:Ex) (c:Int),zA a k vs e c=zA b k vs e c
 | .mk o n s ks,c=>by rw[zA,zA,Mb h,Bp h vs ks]
theorem Bp{a b:List Fd}{k:Nat}(h:a.take k=b.take k)(vs:List LV):∀(l:List Ex) (c:Int),dg a k vs l c=dg b k vs l c
 |[],c=>rfl
 |e::r,c=>by rw[dg,dg,PW h vs e,Bp h vs r]
end
mutual
theorem QS{a b:List Fd}{k:Nat}(h:a.take k=b.take k):∀(s:Sm) (d:Nat) (w:WS),stW a k d s w=stW b k d s w
 | .mk o s x bd el,d,w=>by rw[stW,stW,Bp h,zT h bd,zT h el]
theorem zT{a b:List Fd}{k:Nat}(h:a.take k=b.take k):∀(l:List Sm) (d:Nat) (w:WS),cw a k d l w=cw b k d l w
 |[],d,w=>rfl
 |s::r,d,w=>by rw[cw,cw,QS h s,zT h r]
end
theorem Dc{l:List Fd}{k:Nat}{s:List UInt8}(h:(l[k]?).map Fd.name=some s):bU l s=some k↔bU (l.take k) s=none:=by
 obtain⟨f,e1,e2⟩:=Wb.1 h
 subst e2
 obtain⟨j,e3,e4⟩:=vu e1
 rw[zW,e3]
 by_cases hj:j<k
 ·simp only[if_pos hj]
  constructor
  ·intro e;cases e;omega
  ·intro e;cases e
 ·have:j=k:=by omega
  subst this
  simp
theorem RA{a b:List Fd}{k:Nat}{f:Fd}(h:a.take k=b.take k)(ha:(a[k]?).map Fd.name=some f.name)(hb:(b[k]?).map Fd.name=some f.name):fnW a k f=fnW b k f:=by
 have e:(bU a f.name=some k)=(bU b f.name=some k):=by
  apply propext
  rw[Dc ha,Dc hb,h]
 unfold fnW
 simp only[e]
 exact zT h _ _ _
theorem vQ(fns:List Fd):∀(l:List Fd) (k:Nat),iW fns k l=0↔∀(i:Nat) (f:Fd),l[i]?=some f->(fnW fns (k+i) f).code=0
 |[],k=>by simp[iW]
 |f::r,k=>by
  rw[iW]
  have ih:=vQ fns r (k+1)
  constructor
  ·intro h i g hg
   by_cases h0:(fnW fns k f).code=0
   ·rw[if_pos h0] at h
    cases i with
    |zero=>cases hg;exact h0
    |succ i=>have:=ih.1 h i g (by simpa using hg);rwa[show k+(i+1)=k+1+i by omega]
   ·rw[if_neg h0] at h;exact absurd h h0
  ·intro h
   rw[if_pos (by have:=h 0 f rfl;rwa[Nat.add_zero] at this)]
   exact ih.2 λi g hg=>by have:=h (i+1) g (by simpa using hg);rwa[show k+(i+1)=k+1+i by omega] at this
theorem IW(l:List Fd):bT l=0↔bn l=true/\∀(k:Nat) (f:Fd),l[k]?=some f->(fnW l k f).code=0:=by
 unfold bT
 by_cases h:bn l=true
 ·rw[if_pos h,vQ];simp[h]
 ·rw[if_neg h];simp[h]
theorem NF(a b:List Fd):iD (a++b)=iD a+iD b:=by simp[iD]
theorem dM(l:List Fd):bn l=true↔(1<=l.length/\l.length<=4)/\(∀f∈l,jP f=true)/\iD l<=40:=by
 simp only[bn,inR,Wl,decide_eq_true_eq,Wj]
 constructor
 ·rintro⟨⟨⟨h1,h2⟩,h3⟩,h4⟩;exact⟨⟨by omega,by omega⟩,h3,h4⟩
 ·rintro⟨⟨h1,h2⟩,h3,h4⟩;exact⟨⟨⟨by omega,by omega⟩,h3⟩,h4⟩
theorem LC{l:List Fd}{n:Nat}(h:bT l=0)(hn:1<=n):bT (l.take n)=0:=by
 rw[IW] at h⊢
 obtain⟨h1,h2⟩:=h
 rw[dM] at h1⊢
 obtain⟨⟨a1,a2⟩,a3,a4⟩:=h1
 have hs:iD l=iD (l.take n)+iD (l.drop n):=by rw[←NF,WI]
 refine⟨⟨by rw[Wv];omega,λf hf=>a3 f (Xf hf),by omega⟩,λk f hf=>?_⟩
 have hk:k<n:=by have:=(VZ.1 hf).1;rw[Wv] at this;omega
 have hf':l[k]?=some f:=by rwa[Xh hk] at hf
 rw[RA (a:=l.take n) (b:=l) (by rw[List.take_take,Nat.min_eq_left (by omega)]) (by rw[hf];rfl) (by rw[hf'];rfl)]
 exact h2 k f hf'
def Fd.cut(f:Fd)(n:Nat):Fd:=⟨f.name,f.params,f.body.take n⟩
end
section
theorem nS{s:List UInt8}(h:aP s=true):s.length<=4:=by
 simp only[aP,Wl,decide_eq_true_eq] at h
 exact h.1.2
theorem Hy{e:Ex}(h:lC e=true):e.name.length<=4:=by
 simp only[lC,Wl] at h
 have h1:=h.1.1.1.2
 have h2:=h.1.1.2
 cases hn:FY e.op with
 |true=>
  rw[hn] at h1
  exact nS (by simpa using h1)
 |false=>
  rw[hn] at h2
  have:e.name=[]:=by simpa using h2
  rw[this];simp
theorem HQ{l:List Ex}(h:∀e∈l,e.sz<=5*e.parts):aM l<=5*gC l:=by
 induction l with
 |nil=>simp[aM]
 |cons e r ih=>
  have h1:=h e (by simp)
  have h2:=ih λx hx=>h x (by simp[hx])
  simp only[aM,gC]
  omega
theorem Ob:∀(d:Nat) (e:Ex),bY d e=true->e.sz<=5*e.parts:=by
 intro d
 induction d with
 |zero=>intro e h;cases h
 |succ d ih=>
  intro e h
  have hk:=(HI h).1
  rw[bY,Wl] at h
  have hn:=Hy h.1
  have hz:=HQ (l:=e.kids) λa ha=>ih a (hk a ha)
  rw[e.sz_eq,e.parts_eq]
  omega
theorem Pv{e:Ex}(h:lV e=true):e.sz<=150:=by
 simp only[lV,Wl,decide_eq_true_eq] at h
 have:=Ob 6 e h.1
 omega
theorem Aj:∀{l:List Ex},(∀e∈l,e.sz<=150)->aM l<=150*l.length
 |[],_=>by simp[aM]
 |e::r,h=>by
  have h1:=h e (by simp)
  have h2:=Aj (l:=r) λx hx=>h x (by simp[hx])
  simp only[aM,Wr]
  omega
theorem Lv{s:Sm}(h:fU s=true):s.name.length<=4/\aM s.args<=300:=by
 simp only[fU,Wl] at h
 have ha:=h.1.1.1.2
 have hl:=h.1.1.1.1.1.1.2
 have h1:=h.1.1.1.1.1.2
 have h2:=h.1.1.1.1.2
 refine⟨?_,?_⟩
 ·cases hn:cR s.op with
  |true=>
   rw[hn] at h1
   exact nS (by simpa using h1)
  |false=>
   rw[hn] at h2
   have:s.name=[]:=by simpa using h2
   rw[this];simp
 ·have:=Aj (l:=s.args) λe he=>Pv (Wj.1 ha e he)
  have hl2:s.args.length<=2:=by
   simp only[decide_eq_true_eq] at hl
   rw[hl,jF];split<;>omega
  omega
theorem Ay{l:List Sm}(h:∀s∈l,s.sz<=305*s.cnt):aD l<=305*dI l:=by
 induction l with
 |nil=>simp[aD]
 |cons e r ih=>
  have h1:=h e (by simp)
  have h2:=ih λx hx=>h x (by simp[hx])
  simp only[aD,dI]
  omega
theorem MX:∀(d:Nat) (s:Sm),aJ d s=true->s.sz<=305*s.cnt:=by
 intro d
 induction d with
 |zero=>intro e h;cases h
 |succ d ih=>
  intro s h
  obtain⟨_,hb,he,_⟩:=NK h
  rw[aJ,Wl,Wl] at h
  obtain⟨hn,ha⟩:=Lv h.1.1
  have h1:=Ay (l:=s.body) λx hx=>ih x (hb x hx)
  have h2:=Ay (l:=s.els) λx hx=>ih x (he x hx)
  rw[s.sz_eq,s.cnt_eq]
  omega
theorem IM:∀{l:List (List UInt8)},(∀w∈l,w.length<=4)->(l.map List.length).sum<=4*l.length
 |[],_=>by simp
 |w::r,h=>by
  have h1:=h w (by simp)
  have h2:=IM (l:=r) λx hx=>h x (by simp[hx])
  simp only[Wz,List.sum_cons,Wr]
  omega
theorem PT{f:Fd}(h:jP f=true):f.sz<=20+305*dI f.body:=by
 simp only[jP,Wl,decide_eq_true_eq,Wj] at h
 obtain⟨⟨⟨hp,hn⟩,h3⟩,hb⟩:=h
 have h1:=nS hn
 have h2:=IM (l:=f.params) λw hw=>nS (hp w hw)
 have h4:=Ay (l:=f.body) λx hx=>MX 4 x (hb x hx)
 rw[Fd.sz]
 omega
theorem Bh:∀{l:List Fd},(∀f∈l,jP f=true)->aW l<=20*l.length+305*iD l
 |[],_=>by simp[aW]
 |f::r,h=>by
  have h1:=PT (h f (by simp))
  have h2:=Bh (l:=r) λx hx=>h x (by simp[hx])
  simp only[aW,iD,Wz,List.sum_cons,Wr] at h2⊢
  omega
theorem kH{l:List Fd}(h:bn l=true):aW l<=12280:=by
 rw[dM] at h
 obtain⟨⟨_,h4⟩,hf,hn⟩:=h
 have:=Bh hf
 omega
theorem vP{l:List Fd}(h:bn l=true):∀f∈l,∀x∈f.body,aJ 4 x=true:=λf hf x hx=>by
 rw[dM] at h
 have h1:=h.2.1 f hf
 simp only[jP,Wl,Wj] at h1
 exact h1.2 x hx
theorem DC{l:List Fd}(h:bT l=0):bn l=true:=((IW l).1 h).1
def Lw.Ar(A:Nat)(w:Lw):Prop:=∀b∈w.bs,b.phis=[]/\b.next.length<=2/\∀x∈b.ins,x.args.length<=A
theorem Gq{f:Bk->Bk}{l:List Bk}{i:Nat}{b:Bk}(h:b∈modB f l i):b∈l\/∃c∈l,b=f c:=by
 unfold modB at h
 split at h
 ·rename_i c hc
  rcases WK h with h|h
  ·exact .inl h
  ·exact .inr ⟨c,Wm hc,h⟩
 ·exact .inl h
theorem Lw.Ar.put{A:Nat}{w:Lw}(H:w.Ar A){x:Ii}(hx:x.args.length<=A):(w.put x).Ar A:=λb hb=>by
 rcases Gq hb with h|⟨c,hc,rfl⟩
 ·exact H b h
 ·obtain⟨h1,h2,h3⟩:=H c hc
  refine⟨h1,h2,λy hy=>?_⟩
  rcases Wf.1 hy with h|h
  ·exact h3 y h
  ·rw[Wh.1 h];exact hx
theorem Lw.Ar.mk'{A:Nat}{w:Lw}(H:w.Ar A){op n:Int}{args:List Int}(hx:args.length<=A):(w.mk' op n args).Ar A:=Lw.Ar.put (w:=w.reg) H hx
theorem Lw.Ar.name{A:Nat}{w:Lw}(H:w.Ar A)(n:Nat):(w.name n).Ar A:=λb hb=>by
 rcases Wf.1 hb with h|h
 ·exact H b h
 ·rw[(List.mem_replicate.1 h).2];simp[bk0]
theorem Lw.Ar.fin{A:Nat}{w:Lw}(H:w.Ar A){j o:Int}{g:Nat}{nx:List Int}(hx:nx.length<=2):(w.fin j o g nx).Ar A:=λb hb=>by
 rcases Gq hb with h|⟨c,hc,rfl⟩
 ·exact H b h
 ·obtain⟨h1,h2,h3⟩:=H c hc
  exact⟨h1,hx,h3⟩
mutual
theorem DM(fa sc:List UInt8->Int){A:Nat}(hA:1<=A):∀(e:Ex) (w:Lw),w.Ar A->e.sz<=A->(lwE fa sc e w).2.Ar A
 | .mk o n s ks,w,H,hz=>by
   simp only[Ex.sz] at hz
   have hkl:=bK ks
   rw[lwE]
   split
   ·exact H.mk' (by simp)
   split
   ·exact H
   split
   ·exact RZ fa sc hA ks w H (by omega)
   ·refine(DS fa sc hA ks w H (by omega)).mk' ?_
    rw[fZ];omega
theorem RZ(fa sc:List UInt8->Int){A:Nat}(hA:1<=A):∀(l:List Ex) (w:Lw),w.Ar A->aM l<=A->(lwA fa sc l w).2.Ar A
 |[],w,H,_=>by rw[lwA];exact H;intro a b h;cases h
 |[a],w,H,_=>by rw[lwA];exact H;intro a b h;cases h
 |a::b::c::r,w,H,_=>by rw[lwA];exact H;intro a b h;cases h
 |[a,b],w,H,hz=>by
  simp only[aM] at hz
  have h1:=DM fa sc hA a w H (by omega)
  rw[lwA]
  simp only
  have h2:=((h1.mk' (op:=1) (n:=0) (args:=[]) (by simp)).name 2).fin (j:=2) (o:=(lwE fa sc a w).1) (g:=((lwE fa sc a w).2.mk' 1 0 []).bs.length) (nx:=[(((lwE fa sc a w).2.mk' 1 0 []).bs.length:Int),(((lwE fa sc a w).2.mk' 1 0 []).bs.length:Int)+1]) (by simp)
  exact(((DM fa sc hA b _ h2 (by omega)).mk' (by simpa using hA)).put (by simpa using hA)).fin (by simp)
theorem DS(fa sc:List UInt8->Int){A:Nat}(hA:1<=A):∀(l:List Ex) (w:Lw),w.Ar A->aM l<=A->(bg fa sc l w).2.Ar A
 |[],w,H,_=>by rw[bg];exact H
 |e::r,w,H,hz=>by
  simp only[aM] at hz
  rw[bg]
  exact DS fa sc hA r _ (DM fa sc hA e w H (by omega)) (by omega)
end
mutual
theorem QW(fa:List UInt8->Int)(q:Int){A:Nat}(hA:1<=A):∀(s:Sm) (m:Scp) (up:List Scp) (nx:Nat) (w:Lw),w.Ar A->s.sz<=A->(lwS fa q s m up nx w).2.2.Ar A
 | .mk o n a bd el,m,up,nx,w,H,hz=>by
   simp only[Sm.sz] at hz
   have hhd:=FZ a
   have hal:=bK a
   rw[lwS]
   simp only
   split
   ·have h1:=DM fa (scF q (m::up)) hA (a.headD (.mk 0 0 [] [])) _ ((H.name 3).fin (j:=1) (o:=0) (g:=w.bs.length) (nx:=[(w.bs.length:Int)]) (by simp)) (by omega)
    exact(tx fa q hA bd [] (m::up) nx _ (h1.fin (by simp)) (by omega)).fin (by simp)
   ·have h1:=DS fa (scF q (m::up)) hA a w H (by omega)
    have hl:(bg fa (scF q (m::up)) a w).1.length<=A:=by rw[fZ];omega
    split
    ·exact h1.put hl
    split
    ·exact h1.put hl
    split
    ·exact h1.put hl
    split
    ·exact h1.put hl
    split
    ·exact(tx fa q hA el [] (m::up) _ _ ((tx fa q hA bd [] (m::up) nx _ ((h1.name 3).fin (by simp)) (by omega)).fin (by simp)) (by omega)).fin (by simp)
    split
    ·exact(h1.name 1).fin (by simp)
    ·exact h1
theorem tx(fa:List UInt8->Int)(q:Int){A:Nat}(hA:1<=A):∀(l:List Sm) (m:Scp) (up:List Scp) (nx:Nat) (w:Lw),w.Ar A->aD l<=A->(aS fa q l m up nx w).2.2.Ar A
 |[],m,up,nx,w,H,_=>by rw[aS];exact H
 |s::r,m,up,nx,w,H,hz=>by
  simp only[aD] at hz
  rw[aS]
  exact tx fa q hA r _ up _ _ (QW fa q hA s m up nx w H (by omega)) (by omega)
end
theorem Pa(l:List Fd)(q:Int)(f:Fd)(hz:f.sz<=16777216):IQ 1073741824 (lwF l q f)/\0<=(lwF l q f).regs/\(lwF l q f).regs<=1073741824/\0<(lwF l q f).blocks.length:=by
 have hfz:f.sz=1+f.name.length+(f.params.length+(f.params.map List.length).sum)+aD f.body:=rfl
 have hlet:=WQ (fW f.body) (gq f.body)
 have hok:(⟨f.params.length+aU f.body,[bk0],0⟩:Lw).Ok (f.sz+1):=⟨by show f.params.length+aU f.body<=_;omega,by show 1<=_;omega,λb hb=>by rw[Wh.1 hb];show 0<=_;omega,by show 0<1;omega⟩
 have har:(⟨f.params.length+aU f.body,[bk0],0⟩:Lw).Ar 16777217:=λb hb=>by rw[Wh.1 hb];simp[bk0]
 obtain⟨h1,h2,_,_⟩:=dh (faI l) q f.body (psS f.params [] 0) [] f.params.length _ _ hok
 have h3:=tx (faI l) q (A:=16777217) (by omega) f.body (psS f.params [] 0) [] f.params.length _ har (by omega)
 rw[lwF]
 simp only
 generalize aS (faI l) q f.body (psS f.params [] 0) [] f.params.length _=y at*
 have k1:=(h1.mk' 1 0 []).fin 3 y.2.2.regs (g:=0) (by
  have:=h1.pos
  rw[Lw.mk'_len];omega) []
 have k3:=(h3.mk' (op:=1) (n:=0) (args:=[]) (by simp)).fin (j:=3) (o:=y.2.2.regs) (g:=0) (nx:=[]) (by simp)
 refine⟨⟨by have:=k1.bs;show((y.2.2.mk' 1 0 []).fin 3 y.2.2.regs 0 []).bs.length<=_;omega,λb hb=>?_⟩,by show(0:Int)<=((y.2.2.mk' 1 0 []).regs:Int);omega,by have:=k1.regs;show((y.2.2.mk' 1 0 []).regs:Int)<=_;have h:((y.2.2.mk' 1 0 []).fin 3 y.2.2.regs 0 []).regs=(y.2.2.mk' 1 0 []).regs:=rfl;omega,by have:=k1.pos;show 0<((y.2.2.mk' 1 0 []).fin 3 y.2.2.regs 0 []).bs.length;omega⟩
 obtain⟨a1,a2,a3⟩:=k3 b hb
 have a4:=k1.ins b hb
 exact⟨by rw[a1];simp,by omega,by omega,by rw[a1];simp,λx hx=>by have:=a3 x hx;omega⟩
theorem rg:∀{l:List Fd} {f:Fd},f∈l->f.sz<=aW l
 |x::r,f,h=>by
  simp only[aW,Wz,List.sum_cons]
  rcases Wd.1 h with rfl|h
  ·omega
  ·have:=rg h
   simp only[aW] at this
   omega
theorem OS(l:List Fd)(q:Int)(hz:aW l<=16777216)(hl:l.length<=1073741824):Fh 1073741824 (l.map (lwF l q)):=
 ⟨by rw[WD];exact hl,λc hc=>by
   obtain⟨f,hf,rfl⟩:=WC.1 hc
   have:=rg hf
   exact(Pa l q f (by omega)).1⟩
end
section
theorem gA{s:Bool}{h:List AO}{vs:List AV}{q:PV}{I:List Nat}(H:OwnL s h vs [q] I):∃v,vs=[v]:=by
 have:=H.len
 match vs,this with
 |[v],_=>exact⟨v,rfl⟩
theorem Ql{s:Bool}{h:List AO}{vs:List AV}{q r:PV}{I:List Nat}(H:OwnL s h vs [q,r] I):∃a b,vs=[a,b]:=by
 have:=H.len
 match vs,this with
 |[a,b],_=>exact⟨a,b,rfl⟩
theorem KH{s:Bool}{h:List AO}{vs:List AV}{q r t:PV}{I:List Nat}(H:OwnL s h vs [q,r,t] I):∃a b c,vs=[a,b,c]:=by
 have:=H.len
 match vs,this with
 |[a,b,c],_=>exact⟨a,b,c,rfl⟩
theorem Hp{s:Bool}{h:List AO}{vs:List AV}{e:Ex}{I:List Nat}(H:OwnL s h vs e.cs I):∃K,vs=[.p (.int .i64 e.op),.p (.int .i64 e.n),.p (.str e.name),K]/\OwnL s h [K] [exL e.kids] I:=by
 rw[e.cs_eq] at H
 cases H with
 |p _ _ H=>
  cases H with
  |p _ _ H=>
   cases H with
   |p _ _ H=>
    obtain⟨v,rfl⟩:=gA H
    exact⟨v,rfl,H⟩
theorem Li{s:Bool}{h:List AO}{o n:Int}{w:List UInt8}{k:List Ex}{K:AV}{I:List Nat}(H:OwnL s h [K] [exL k] I):OwnL s h [.p (.int .i64 o),.p (.int .i64 n),.p (.str w),K] (Ex.mk o n w k).cs I:=by
 rw[Ex.cs_eq]
 exact .p _ (λ_=>rfl) (.p _ (λ_=>rfl) (.p _ (λ_=>rfl) H))
theorem RU{s:Bool}{h:List AO}{vs:List AV}{e:Sm}{I:List Nat}(H:OwnL s h vs e.cs I):∃A B E I1 I2 I3,vs=[.p (.int .i64 e.op),.p (.str e.name),A,B,E]/\I=I1++(I2++I3)/\OwnL s h [A] [exL e.args] I1/\OwnL s h [B] [smL e.body] I2/\OwnL s h [E] [smL e.els] I3:=by
 rw[e.cs_eq] at H
 cases H with
 |p _ _ H=>
  cases H with
  |p _ _ H=>
   obtain⟨A,B,E,rfl⟩:=KH H
   obtain⟨I1,I',rfl,h1,H⟩:=H.one
   obtain⟨I2,I3,rfl,h2,h3⟩:=H.one
   exact⟨A,B,E,I1,I2,I3,rfl,rfl,h1,h2,h3⟩
theorem RN{s:Bool}{h:List AO}{o:Int}{w:List UInt8}{a:List Ex}{b e:List Sm}{A B E:AV}{I1 I2 I3:List Nat}(h1:OwnL s h [A] [exL a] I1)(h2:OwnL s h [B] [smL b] I2)(h3:OwnL s h [E] [smL e] I3):
 OwnL s h [.p (.int .i64 o),.p (.str w),A,B,E] (Sm.mk o w a b e).cs (I1++(I2++I3)):=by
 rw[Sm.cs_eq]
 exact .p _ (λ_=>rfl) (.p _ (λ_=>rfl) (h1.app (h2.app h3)))
theorem QT{s:Bool}{h:List AO}{vs:List AV}{f:Fd}{I:List Nat}(H:OwnL s h vs f.cs I):∃A B I1 I2,vs=[.p (.str f.name),A,B]/\I=I1++I2/\OwnL s h [A] [aL f.params] I1/\OwnL s h [B] [smL f.body] I2:=by
 rw[show f.cs=[.str f.name,aL f.params,smL f.body] from rfl] at H
 cases H with
 |p _ _ H=>
  obtain⟨A,B,rfl⟩:=Ql H
  obtain⟨I1,I2,rfl,h1,H⟩:=H.one
  exact⟨A,B,I1,I2,rfl,rfl,h1,H⟩
theorem sA{s:Bool}{h:List AO}{w:List UInt8}{ps:List (List UInt8)}{b:List Sm}{A B:AV}{I1 I2:List Nat}(h1:OwnL s h [A] [aL ps] I1)(h2:OwnL s h [B] [smL b] I2):OwnL s h [.p (.str w),A,B] (Fd.mk w ps b).cs (I1++I2):=
 .p _ (λ_=>rfl) (h1.app h2)
end
section
def Fr(K:List Nat)(h h':List AO):Prop:=h.length<=h'.length/\∀i,i<h.length->i∉K->h'[i]?=h[i]?
theorem Fr.refl(K:List Nat)(h:List AO):Fr K h h:=⟨Wn _,λ_ _ _=>rfl⟩
theorem Fr.more(K:List Nat)(h os:List AO):Fr K h (h++os):=⟨by simp,λi hi _=>VY hi⟩
theorem Fr.trans{K K':List Nat}{h h1 h2:List AO}(a:Fr K h h1)(b:Fr K' h1 h2)(hk:∀i∈K',i∈K\/h.length<=i):Fr K h h2:=
 ⟨WQ a.1 b.1,λi hi hn=>by
   rw[b.2 i (WG hi a.1) (λhm=>by
    rcases hk i hm with q|q
    ·exact hn q
    ·omega),a.2 i hi hn]⟩
theorem Fr.sub{K K':List Nat}{h h1:List AO}(a:Fr K h h1)(hk:∀i∈K,i∈K'\/h.length<=i):Fr K' h h1:=
 ⟨a.1,λi hi hn=>a.2 i hi λhm=>by
   rcases hk i hm with q|q
   ·exact hn q
   ·omega⟩
theorem Fr.from{K:List Nat}{h os h2:List AO}(a:Fr K (h++os) h2):Fr K h h2:=
 ⟨by have:=a.1;simp at this;omega,λi hi hn=>by rw[a.2 i (by simp;omega) hn,VY hi]⟩
theorem aI(q:PV):(AV.p q).isCell=true:=rfl
theorem au(a b c d:Nat):(AV.sl a b c d).isCell=true:=rfl
theorem ah(a b c d:Nat):(AV.ptr a b c d).isCell=true:=rfl
theorem ae:AV.nils.isCell=true:=rfl
theorem aH(q:PV):(AV.p q).cells=[AV.p q]:=rfl
theorem aq(a b c d:Nat):(AV.sl a b c d).cells=[AV.sl a b c d]:=rfl
theorem aj(a b c d:Nat):(AV.ptr a b c d).cells=[AV.ptr a b c d]:=rfl
theorem af:AV.nils.cells=[AV.nils]:=rfl
theorem ag(cs:List AV):(AV.agg cs).cells=cs:=rfl
end
section
section
variable {s:Bool} {h:List AO} {id sz:Nat} {rows:List (List AV)} {D:List (List PV)} {J:List Nat}
theorem Rk(H:RowOwn s h id sz rows D J){i:Nat}{e:List PV}(hi:D[i]?=some e):
 ∃r Ji,rows[i]?=some r/\OwnL s h r e Ji/\Ji.Nodup/\(∀j∈Ji,j∈J)/\∀(h2:List AO) (r':List AV) (e':List PV) (I2:List Nat),h2[id]?=some (.row sz (rows.set i r'))->(∀j∈J,j∉Ji->h2[j]?=h[j]?)->OwnL s h2 r' e' I2->I2.Nodup->(∀j∈I2,j∈Ji\/(j≠id/\j∉J))->e'.length=sz->
  ∃J',RowOwn s h2 id sz (rows.set i r') (D.set i e') J'/\∀j∈J',j∈J\/j∈I2:=by
 obtain⟨r,J1,Ji,J2,g1,rfl,g3,g4⟩:=H.own.put H.len H.rl H.dl hi
 have hn:=H.nd
 have hlt:∀j∈J1++(Ji++J2),j<h.length:=λj hj=>H.own.lt hj
 simp only[Wy,WX,Wf,not_or] at hn hlt
 obtain⟨⟨n1,n2,n3⟩,m1,⟨m2,m3,m4⟩,m5⟩:=hn
 refine⟨r,Ji,g1,g3,m2,λj hj=>by simp[hj],λh2 r' e' I2 k1 k2 ho nd2 hs he=>?_⟩
 simp only[Wf,not_or] at hs
 refine⟨J1++(I2++J2),⟨k1,by simp[H.len],λe he'=>?_,λe he'=>?_,g4 _ r' e' I2 (λj hj=>?_) ho,?_⟩,λj hj=>?_⟩
 ·rcases WK he' with h1|rfl
  ·exact H.rl e h1
  ·rw[ho.len,he]
 ·rcases WK he' with h1|rfl
  ·exact H.dl e h1
  ·exact he
 ·rcases Wf.1 hj with hj|hj
  ·exact k2 j (by simp[hj]) λhm=>m5 j hj j (.inl hm) rfl
  ·exact k2 j (by simp[hj]) λhm=>m4 j hm j hj rfl
 ·simp only[Wy,WX,Wf,not_or]
  refine⟨⟨n1,λhm=>?_,n3⟩,m1,⟨nd2,m3,λa ha b hb e=>?_⟩,λa ha b hb e=>?_⟩
  ·rcases hs _ hm with h|h
   ·exact n2 h
   ·exact h.1 rfl
  ·subst e
   rcases hs _ ha with h|h
   ·exact m4 a h a hb rfl
   ·exact h.2.2.2 hb
  ·subst e
   rcases hb with hb|hb
   ·rcases hs _ hb with h|h
    ·exact m5 a ha a (.inl h) rfl
    ·exact h.2.1 ha
   ·exact m5 a ha a (.inr hb) rfl
 ·simp only[Wf] at hj⊢
  rcases hj with hj|hj|hj
  ·exact .inl (.inl hj)
  ·exact .inr hj
  ·exact .inl (.inr (.inr hj))
theorem GH(H:RowOwn s h id sz rows D J){h2 os:List AO}(e2:h2=h++os){rs:List (List AV)}{es:List (List PV)}{I2:List Nat}(ho:OwnL s h2 rs.flatten es.flatten I2)(hl:rs.length=es.length)(hr:∀e∈rs,e.length=sz)(he:∀e∈es,e.length=sz)(nd2:I2.Nodup)(hd:∀j∈I2,j≠id/\j∉J):
 RowOwn s (h2.set id .dead++[.row sz (rows++rs)]) h2.length sz (rows++rs) (D++es) (J++I2):=by
 subst e2
 have hid:=H.lt
 have hn:=H.nd
 rw[Wy] at hn
 have hid2:id∉I2:=λhm=>(hd _ hm).1 rfl
 have hlt:∀j∈J,j<h.length:=λj hj=>H.own.lt hj
 have hlt2:∀j∈I2,j<(h++os).length:=λj hj=>ho.lt hj
 refine⟨by rw[We (by simp)];simp,by simp[H.len,hl],λe he'=>?_,λe he'=>?_,?_,?_⟩
 ·rcases Wf.1 he' with h1|h1
  ·exact H.rl e h1
  ·exact hr e h1
 ·rcases Wf.1 he' with h1|h1
  ·exact H.dl e h1
  ·exact he e h1
 ·rw[Xa,Xa]
  exact(((H.own.more os).set_out hn.1 _).more _).app ((ho.set_out hid2 _).more _)
 ·rw[Wy,WX]
  refine⟨λhm=>?_,hn.2,nd2,λa ha b hb e=>?_⟩
  ·rcases Wf.1 hm with hm|hm
   ·have:=hlt _ hm;simp at this;omega
   ·have:=hlt2 _ hm;omega
  ·subst e;exact(hd a hb).2 ha
end
def lwO(l:List Fd)(pr:Int)(w:Lw)(K:AV):AO:= .row 5 [[.p (fdL l),.p (.int .i64 pr),.p (.int .i64 w.regs),K,.p (.int .i64 w.pos)]]
def NoC(h:List AO)(K:AV):Prop:=(∀q,K≠ .p q)/\∀kid n rows,K= .sl kid 5 0 n->h[kid]?=some (.row 5 rows)->∀r∈rows,∀q,r[1]?≠some (.p q)
structure LS (mk:Lw->AV->AO) (L:Nat) (w:Lw) (h:List AO) (K:AV) (I:List Nat):Prop where
 here:h[L]?=some (mk w K)
 own:OwnL false h [K] [bkL w.bs] I
 nd:(L::I).Nodup
 noc:NoC h K
def Frm(S:List Nat)(h h':List AO):Prop:=h.length<=h'.length/\∀i,i<h.length->i∉S->h'[i]?=h[i]?
theorem Frm.refl(S:List Nat)(h:List AO):Frm S h h:=⟨Wn _,λ_ _ _=>rfl⟩
theorem Frm.more(S:List Nat)(h os:List AO):Frm S h (h++os):=⟨by simp,λi hi _=>VY hi⟩
theorem Frm.trans{S T:List Nat}{h h1 h2:List AO}(a:Frm S h h1)(b:Frm T h1 h2)(hT:∀j∈T,j∈S\/h.length<=j):Frm S h h2:=
 ⟨WQ a.1 b.1,λi hi hn=>by
   rw[b.2 i (by have:=a.1;omega) λhm=>by
    rcases hT i hm with h|h
    ·exact hn h
    ·omega,a.2 i hi hn]⟩
def LR(mk:Lw->AV->AO)(L:Nat)(w:Lw)(S:List Nat)(h h':List AO):Prop:=∃K I,LS mk L w h' K I/\Frm (L::S) h h'/\∀j∈I,j∈S\/h.length<=j
theorem LR.seq{mk:Lw->AV->AO}{L:Nat}{w2:Lw}{S T:List Nat}{h h1 h2:List AO}{I:List Nat}(hf:Frm (L::S) h h1)(hI:∀j∈I,j∈S\/h.length<=j)(b:LR mk L w2 T h1 h2)(hT:∀j∈T,j∈I\/j∈S\/h.length<=j):LR mk L w2 S h h2:=by
 obtain⟨K2,I2,a1,a2,a3⟩:=b
 have hT':∀j∈T,j∈S\/h.length<=j:=λj hj=>by
  rcases hT j hj with h|h
  ·exact hI j h
  ·exact h
 refine⟨K2,I2,a1,hf.trans a2 λj hj=>?_,λj hj=>?_⟩
 ·rcases Wd.1 hj with rfl|hj
  ·exact .inl (by simp)
  ·rcases hT' j hj with h|h
   ·exact .inl (by simp[h])
   ·exact .inr h
 ·rcases a3 j hj with h|h
  ·exact hT' j h
  ·exact .inr (WQ hf.1 h)
theorem Dv(h:List AO):∀n,OwnL false h (List.replicate n [AV.nils,.nils,.p (.int .i64 0),.p (.int .i64 0),.nils]).flatten (List.replicate n bk0.cs).flatten []
 |0=> .nil
 |n+1=> .nils 2 (.nils 4 (.p _ (λ_=>rfl) (.p _ (λ_=>rfl) (.nils 1 (Dv h n)))))
theorem Ft(h:List AO):∀l:List Int,OwnL false h (l.map λn=>[AV.p (.int .i64 n)]).flatten (l.map λn=>[PV.int .i64 n]).flatten []
 |[]=> .nil
 |w::r=> .p _ (λ_=>rfl) (Ft h r)
theorem tI{h:List AO}{id:Nat}{l:List Int}{n:Nat}(hg:h[id]?=some (.row 1 (l.map λn=>[AV.p (.int .i64 n)])))(hn:n=l.length):OwnL false h [.sl id 1 0 n] [bC l] [id]:=by
 have:RowOwn false h id 1 (l.map λn=>[AV.p (.int .i64 n)]) (l.map λn=>[PV.int .i64 n]) []:=
  ⟨hg,by simp,λe he=>by obtain⟨w,_,rfl⟩:=WC.1 he;rfl,λe he=>by obtain⟨w,_,rfl⟩:=WC.1 he;rfl,Ft _ l,by simp⟩
 exact this.tree (by simpa using hn)
theorem QE{h:List AO}{vs:List AV}{b:Bk}{I:List Nat}(H:OwnL false h vs b.cs I):∃P N X IP IN IX,vs=[P,N,.p (.int .i64 b.jump),.p (.int .i64 b.on),X]/\I=IP++(IN++IX)/\OwnL false h [P] [phL b.phis] IP/\OwnL false h [N] [inL b.ins] IN/\OwnL false h [X] [bC b.next] IX:=by
 obtain⟨P,N,x,y,X,rfl⟩:∃P N x y X,vs=[P,N,x,y,X]:=by
  have:=H.len
  match vs,this with
  |[P,N,x,y,X],_=>exact⟨P,N,x,y,X,rfl⟩
 rw[show b.cs=[phL b.phis,inL b.ins,.int .i64 b.jump,.int .i64 b.on,bC b.next] from rfl] at H
 obtain⟨I1,I',rfl,h1,H⟩:=H.one
 obtain⟨I2,I3,rfl,h2,H⟩:=H.one
 cases H with
 |p _ _ H=>
  cases H with
  |p _ _ H=>exact⟨P,N,X,I1,I2,I3,rfl,rfl,h1,h2,H⟩
theorem Hs{h:List AO}{b:Bk}{P N X:AV}{IP IN IX:List Nat}(h1:OwnL false h [P] [phL b.phis] IP)(h2:OwnL false h [N] [inL b.ins] IN)(h3:OwnL false h [X] [bC b.next] IX):OwnL false h [P,N,.p (.int .i64 b.jump),.p (.int .i64 b.on),X] b.cs (IP++(IN++IX)):=by
 rw[show b.cs=[phL b.phis,inL b.ins,.int .i64 b.jump,.int .i64 b.on,bC b.next] from rfl]
 exact h1.app (h2.app (.p _ (λ_=>rfl) (.p _ (λ_=>rfl) h3)))
theorem gy{s:Bool}{h:List AO}{v:AV}{q:PV}{I:List Nat}(H:OwnL s h [v] [q] I):v.cells=[v]/\v.isCell=true:=by
 cases H with
 |p _ _ _=>exact⟨rfl,rfl⟩
 |nils _ _=>exact⟨rfl,rfl⟩
 |sl id sz n rows es _ _ _ _ _ _ _=>exact⟨rfl,rfl⟩
section
variable {mk:Lw->AV->AO} {L:Nat} {w:Lw} {h:List AO} {K:AV} {I:List Nat}
theorem LS.rows(H:LS mk L w h K I)(hp:0<w.bs.length):∃kid rows J,K= .sl kid 5 0 w.bs.length/\I=kid::J/\RowOwn false h kid 5 rows (w.bs.map Bk.cs) J:=by
 have ho:=H.own
 have nd:=(Wy.1 H.nd).2
 rw[show bkL w.bs= .lst 5 (w.bs.map Bk.cs) from rfl] at ho
 rcases ho.inv nd with⟨h0,_⟩|⟨_,hh⟩|⟨id,rows,J,rfl,rfl,hr⟩
 ·rw[List.map_eq_nil_iff.1 h0] at hp;simp at hp
 ·exact(H.noc.1 _ hh.1).elim
 ·exact⟨id,rows,J,by rw[WD],rfl,hr⟩
theorem LS.lt(H:LS mk L w h K I):L<h.length:=(VZ.1 H.here).1
theorem zJ{h:List AO}{kid n:Nat}{l:List Bk}{I:List Nat}(H:OwnL false h [.sl kid 5 0 n] [bkL l] I):kid∈I:=by
 rw[show bkL l= .lst 5 (l.map Bk.cs) from rfl] at H
 cases H with
 |sl id sz n rows es a1 a2 a3 a4 a5 a6 H=>simp
theorem LS.frame(H:LS mk L w h K I){h':List AO}(e:∀i∈L::I,h'[i]?=h[i]?):LS mk L w h' K I:=
 ⟨by rw[e L (by simp)];exact H.here,H.own.frame λi hi=>e i (by simp[hi]),H.nd,H.noc.1,λkid n rows eK hg=>by
   have ho:=H.own
   rw[eK] at ho
   rw[e kid (by simp[zJ ho])] at hg
   exact H.noc.2 kid n rows eK hg⟩
theorem LS.more(H:LS mk L w h K I)(os:List AO):LS mk L w (h++os) K I:=H.frame λi hi=>by
 rcases Wd.1 hi with rfl|hi
 ·exact VY H.lt
 ·exact VY (H.own.lt hi)
theorem LS.modB(H:LS mk L w h K I)(hp:w.pos<w.bs.length):∃kid rows b P N X IP IN IX,K= .sl kid 5 0 w.bs.length/\kid∈I/\h[kid]?=some (.row 5 rows)/\rows.length=w.bs.length/\w.bs[w.pos]?=some b/\rows[w.pos]?=some [P,N,.p (.int .i64 b.jump),.p (.int .i64 b.on),X]/\
 (∀q,N≠ .p q)/\OwnL false h [P] [phL b.phis] IP/\OwnL false h [N] [inL b.ins] IN/\OwnL false h [X] [bC b.next] IX/\(IP++(IN++IX)).Nodup/\(∀j∈IP++(IN++IX),j∈I/\j≠kid/\j≠L)/\kid≠L/\
 ∀(h2:List AO) (r':List AV) (b':Bk) (I2:List Nat) (w2:Lw),h2[kid]?=some (.row 5 (rows.set w.pos r'))->(∀j,j<h.length->j≠L->j≠kid->j∉IP++(IN++IX)->h2[j]?=h[j]?)->h.length<=h2.length->h2[L]?=some (mk w2 (.sl kid 5 0 w.bs.length))->OwnL false h2 r' b'.cs I2->I2.Nodup->(∀j∈I2,j∈IP++(IN++IX)\/(j≠L/\j∉I))->w2.bs=w.bs.set w.pos b'->(∀q,r'[1]?≠some (.p q))->
  ∃I',LS mk L w2 h2 (.sl kid 5 0 w.bs.length) I'/\Frm (L::I) h h2/\∀j∈I',j∈I\/j∈I2:=by
 obtain⟨kid,rows,J,rfl,rfl,hr⟩:=H.rows (by omega)
 have hg:=Wa hp
 generalize w.bs[w.pos]=b at hg
 obtain⟨r,Ji,g1,g2,g3,g4,g5⟩:=Rk hr (i:=w.pos) (e:=b.cs) (by rw[Wt,hg];rfl)
 obtain⟨P,N,X,IP,IN,IX,rfl,rfl,hP,hN,hX⟩:=QE g2
 have hnd:=H.nd
 have hn:=hr.nd
 have hlen:=hr.len
 rw[WD] at hlen
 simp only[Wy,Wd,not_or] at hnd hn
 have hnL:∀j∈J,j≠L:=λj hj e=>hnd.1.2 (e▸hj)
 have hnK:∀j∈J,j≠kid:=λj hj e=>hn.1 (e▸hj)
 refine⟨kid,rows,b,P,N,X,IP,IN,IX,rfl,by simp,hr.here,hlen,hg,g1,λq e=>H.noc.2 kid _ rows rfl hr.here _ (Wm g1) q (by rw[e];rfl),hP,hN,hX,g3,λj hj=>⟨Wx _ (g4 j hj),hnK j (g4 j hj),hnL j (g4 j hj)⟩,λe=>hnd.1.1 e.symm,λh2 r' b' I2 w2 k1 k2 k3 k4 k5 k6 k7 k8 k9=>?_⟩
 have hLl:=H.lt
 obtain⟨J',r1,r2⟩:=g5 h2 r' b'.cs I2 k1 (λj hj hn=>k2 j (hr.own.lt hj) (hnL j hj) (hnK j hj) hn) k5 k6 (λj hj=>by
  rcases k7 j hj with h|h
  ·exact .inl h
  ·simp only[Wd,not_or] at h
   exact .inr h.2) rfl
 have hI2:∀j∈J',j≠L/\j≠kid:=λj hj=>by
  have hnd':=r1.nd
  rw[Wy] at hnd'
  refine⟨λe=>?_,λe=>hnd'.1 (e▸hj)⟩
  rcases r2 j hj with h|h
  ·exact hnL j h e
  ·rcases k7 j h with h|h
   ·exact hnL j (g4 j h) e
   ·exact h.1 e
 refine⟨kid::J',⟨k4,?_,?_,?_⟩,⟨k3,λi hi hn=>?_⟩,λj hj=>?_⟩
 ·rw[show bkL w2.bs= .lst 5 (w2.bs.map Bk.cs) from rfl,k8,List.map_set]
  exact r1.tree (by simp)
 ·simp only[Wy,Wd,not_or]
  exact⟨⟨λe=>hnd.1.1 e,λhm=>(hI2 L hm).1 rfl⟩,Wy.1 r1.nd⟩
 ·refine⟨λq e=>(by cases e),?_⟩
  intro kid2 n rows2 eK hg2 r hr2
  cases eK
  rw[k1] at hg2
  cases hg2
  rcases WK hr2 with h1|rfl
  ·exact H.noc.2 kid _ rows rfl hr.here r h1
  ·exact k9
 ·simp only[Wd,not_or] at hn
  exact k2 i hi hn.1 hn.2.1 λhm=>hn.2.2 (g4 i hm)
 ·rcases Wd.1 hj with rfl|hj
  ·exact .inl (by simp)
  ·rcases r2 j hj with h|h
   ·exact .inl (by simp[h])
   ·exact .inr h
end
end
section
def MkF(mk:Lw->AV->AO):Prop:=∀w w2 K,w.regs=w2.regs->w.pos=w2.pos->mk w K=mk w2 K
theorem Ny(l:List Fd)(pr:Int):MkF (lwO l pr):=λw w2 K h1 h2=>by simp[lwO,h1,h2]
section
variable {mk:Lw->AV->AO} {L:Nat} {w:Lw} {h:List AO} {K:AV} {I:List Nat}
theorem LS.putAt(hmk:MkF mk)(H:LS mk L w h K I)(hp:w.pos<w.bs.length)(x:Ii){A:AV}{J:List Nat}(hA:OwnL false h [A] [bC x.args] J)(ndJ:J.Nodup)(hJ:∀j∈J,j≠L/\j∉I):
 ∃kid rows b P N X,K= .sl kid 5 0 w.bs.length/\(∀t,(h++t)[kid]?=some (.row 5 rows))/\rows.length=w.bs.length/\w.bs[w.pos]?=some b/\rows[w.pos]?=some [P,N,.p (.int .i64 b.jump),.p (.int .i64 b.on),X]/\(P.cells=[P]/\P.isCell=true)/\(N.cells=[N]/\N.isCell=true)/\(X.cells=[X]/\X.isCell=true)/\kid<h.length/\
  ((N= .nils/\b.ins=[]/\∀os,LR mk L (w.put x) (I++J) h ((h++(os++[AO.row 4 [[.p (.int .i64 x.op),.p (.int .i64 x.to),A,.p (.int .i64 x.n)]]])).set kid (AO.row 5 (rows.set w.pos [P,.sl (h.length+os.length) 4 0 1,.p (.int .i64 b.jump),.p (.int .i64 b.on),X]))))\/
   ∃iid rowsN,N= .sl iid 4 0 b.ins.length/\(∀t,(h++t)[iid]?=some (.row 4 rowsN))/\rowsN.length=b.ins.length/\iid<h.length/\iid≠kid/\
    ∀os,LR mk L (w.put x) (I++J) h (((h++os).set iid .dead++[AO.row 4 (rowsN++[[.p (.int .i64 x.op),.p (.int .i64 x.to),A,.p (.int .i64 x.n)]])]).set kid (AO.row 5 (rows.set w.pos [P,.sl (h.length+os.length) 4 0 (b.ins.length+1),.p (.int .i64 b.jump),.p (.int .i64 b.on),X])))):=by
 obtain⟨kid,rows,b,P,N,X,IP,IN,IX,rfl,hkI,hrow,hlen,hb,hcur,hNc0,hP,hN,hX,hnd,hsub,hkL,close⟩:=H.modB hp
 have hkl:kid<h.length:=(VZ.1 hrow).1
 have hLl:=H.lt
 have hbs:(w.put x).bs=w.bs.set w.pos (b.put x):=kK hb
 have hmkw:∀K,mk (w.put x) K=mk w K:=λK=>hmk _ _ K rfl rfl
 simp only[WX,Wf] at hnd hsub
 have hPlt:=λj hj=>hP.lt (i:=j) hj
 have hXlt:=λj hj=>hX.lt (i:=j) hj
 have hxcs:x.cs=[.int .i64 x.op,.int .i64 x.to,bC x.args,.int .i64 x.n]:=rfl
 refine⟨kid,rows,b,P,N,X,rfl,λt=>by rw[VY hkl];exact hrow,hlen,hb,hcur,gy hP,gy hN,gy hX,hkl,?_⟩
 rw[show inL b.ins= .lst 4 (b.ins.map Ii.cs) from rfl] at hN
 have hfin:∀(h2:List AO) (nid n:Nat) (IN':List Nat),h2[kid]?=some (.row 5 (rows.set w.pos [P,.sl nid 4 0 n,.p (.int .i64 b.jump),.p (.int .i64 b.on),X]))->(∀j,j<h.length->j≠kid->j∉IN->h2[j]?=h[j]?)->h.length<=h2.length->OwnL false h2 [.sl nid 4 0 n] [inL (b.ins++[x])] IN'->IN'.Nodup->(∀j∈IN',j∈IN\/j∈J\/h.length<=j)->
  LR mk L (w.put x) (I++J) h h2:=by
  intro h2 nid n IN' k1 k2 k3 k4 k5 k6
  have hgt:∀j,h.length<=j->j≠L/\j∉I:=λj hj=>⟨by omega,λhm=>by have:=H.own.lt hm;omega⟩
  obtain⟨I',a1,a2,a3⟩:=close h2 _ (b.put x) (IP++(IN'++IX)) (w.put x) k1 (λj hj h1 h2 h3=>k2 j hj h2 λhm=>h3 (by simp[hm])) k3 (by
   rw[hmkw,k2 L hLl (λe=>hkL e.symm) λhm=>(hsub L (.inr (.inl hm))).2.2 rfl];exact H.here)
   (Hs (b:=b.put x) (hP.frame λj hj=>k2 j (hPlt j hj) (hsub j (.inl hj)).2.1 λhm=>hnd.2.2 j hj j (.inl hm) rfl) k4 (hX.frame λj hj=>k2 j (hXlt j hj) (hsub j (.inr (.inr hj))).2.1 λhm=>hnd.2.1.2.2 j hm j hj rfl))
   (by
     simp only[WX,Wf]
     refine⟨hnd.1,⟨k5,hnd.2.1.2.1,λa ha c hc e=>?_⟩,λa ha c hc e=>?_⟩
     ·subst e
      rcases k6 a ha with h|h|h
      ·exact hnd.2.1.2.2 a h a hc rfl
      ·exact(hJ a h).2 (hsub a (.inr (.inr hc))).1
      ·have:=hXlt a hc;omega
     ·subst e
      rcases hc with hc|hc
      ·rcases k6 a hc with h|h|h
       ·exact hnd.2.2 a ha a (.inl h) rfl
       ·exact(hJ a h).2 (hsub a (.inl ha)).1
       ·have:=hPlt a ha;omega
      ·exact hnd.2.2 a ha a (.inr hc) rfl)
   (λj hj=>by
     simp only[Wf] at hj⊢
     rcases hj with hj|hj|hj
     ·exact .inl (.inl hj)
     ·rcases k6 j hj with h|h|h
      ·exact .inl (.inr (.inl h))
      ·exact .inr (hJ j h)
      ·exact .inr (hgt j h)
     ·exact .inl (.inr (.inr hj))) hbs (by simp)
  refine⟨_,I',a1,⟨a2.1,λi hi hn=>a2.2 i hi λhm=>hn ?_⟩,λj hj=>?_⟩
  ·rcases Wd.1 hm with rfl|hm
   ·simp
   ·simp[hm]
  ·rcases a3 j hj with h|h
   ·exact .inl (by simp[h])
   ·simp only[Wf] at h⊢
    rcases h with h|h|h
    ·exact .inl (.inl (hsub j (.inl h)).1)
    ·rcases k6 j h with h|h|h
     ·exact .inl (.inl (hsub j (.inr (.inl h))).1)
     ·exact .inl (.inr h)
     ·exact .inr h
    ·exact .inl (.inl (hsub j (.inr (.inr h))).1)
 have hxO:∀h2,OwnL false h2 [A] [bC x.args] J->OwnL false h2 [.p (.int .i64 x.op),.p (.int .i64 x.to),A,.p (.int .i64 x.n)] x.cs J:=λh2 hA2=>by
  rw[hxcs]
  have:=hA2.app (OwnL.p (.int .i64 x.n) (λ_=>rfl) (OwnL.nil (s:=false) (h:=h2)))
  rw[Wu] at this
  exact .p _ (λ_=>rfl) (.p _ (λ_=>rfl) this)
 have hkJ:kid∉J:=λhm=>(hJ kid hm).2 hkI
 have hJlt:=λj hj=>hA.lt (i:=j) hj
 rcases hN.inv hnd.2.1.1 with⟨h0,rfl,hNc⟩|⟨_,hh,_⟩|⟨iid,rowsN,JN,rfl,rfl,hr⟩
 ·have hi0:b.ins=[]:=List.map_eq_nil_iff.1 h0
  refine .inl ⟨hNc.resolve_right (hNc0 _),hi0,λos=>?_⟩
  have hl2:(h++(os++[AO.row 4 [[.p (.int .i64 x.op),.p (.int .i64 x.to),A,.p (.int .i64 x.n)]]])).length=h.length+os.length+1:=by simp;omega
  have hrow4:RowOwn false ((h++(os++[AO.row 4 [[.p (.int .i64 x.op),.p (.int .i64 x.to),A,.p (.int .i64 x.n)]]])).set kid (AO.row 5 (rows.set w.pos [P,.sl (h.length+os.length) 4 0 1,.p (.int .i64 b.jump),.p (.int .i64 b.on),X]))) (h.length+os.length) 4 [[.p (.int .i64 x.op),.p (.int .i64 x.to),A,.p (.int .i64 x.n)]] [x.cs] J:=by
   refine⟨?_,rfl,by simp,by simp[hxcs],?_,?_⟩
   ·rw[Wc (by omega),←WL,We (by simp)];simp
   ·rw[List.flatten_singleton,List.flatten_singleton]
    exact hxO _ ((hA.more _).set_out hkJ _)
   ·rw[Wy];exact⟨λhm=>by have:=hJlt _ hm;omega,ndJ⟩
  refine hfin _ (h.length+os.length) 1 ((h.length+os.length)::J) (Wi (by omega)) (λj hj h1 _=>by rw[Wc (Ne.symm h1),VY hj]) (by rw[WU];omega) (by
   rw[hi0];exact hrow4.tree rfl) hrow4.nd (λj hj=>?_)
  rcases Wd.1 hj with rfl|hj
  ·exact .inr (.inr (by omega))
  ·exact .inr (.inl hj)
 ·exact(hNc0 _ hh).elim
 ·have hiI:iid∈I:=(hsub iid (.inr (.inl (by simp)))).1
  have hik:iid≠kid:=(hsub iid (.inr (.inl (by simp)))).2.1
  have hil:=hr.lt
  have hlenN:=hr.len
  rw[WD] at hlenN
  refine .inr ⟨iid,rowsN,by rw[WD],λt=>by rw[VY hil];exact hr.here,hlenN,hil,hik,λos=>?_⟩
  have hJN:∀j∈J,j≠iid/\j∉JN:=λj hj=>⟨λe=>(hJ j hj).2 (e▸hiI),λhm=>(hJ j hj).2 (hsub j (.inr (.inl (by simp[hm])))).1⟩
  have hra:=GH hr (h2:=h++os) rfl (rs:=[[.p (.int .i64 x.op),.p (.int .i64 x.to),A,.p (.int .i64 x.n)]]) (es:=[x.cs]) (I2:=J) (by
   rw[List.flatten_singleton,List.flatten_singleton];exact hxO _ (hA.more _)) rfl (by simp) (by simp[hxcs]) ndJ hJN
  have hl0:(h++os).length=h.length+os.length:=by simp
  rw[hl0] at hra
  have hkn:kid∉(h.length+os.length)::(JN++J):=by
   simp only[Wd,Wf,not_or]
   exact⟨by omega,λhm=>(hsub kid (.inr (.inl (by simp[hm])))).2.1 rfl,hkJ⟩
  have hra2:=hra.frame (h':=((h++os).set iid .dead++[AO.row 4 (rowsN++[[.p (.int .i64 x.op),.p (.int .i64 x.to),A,.p (.int .i64 x.n)]])]).set kid (AO.row 5 (rows.set w.pos [P,.sl (h.length+os.length) 4 0 (b.ins.length+1),.p (.int .i64 b.jump),.p (.int .i64 b.on),X]))) (λi hi=>Wc λe=>hkn (by rw[e];exact hi))
  refine hfin _ (h.length+os.length) (b.ins.length+1) ((h.length+os.length)::(JN++J)) (Wi (by simp;omega)) (λj hj h1 h2=>?_) (by simp;omega) (by
   rw[show inL (b.ins++[x])= .lst 4 (b.ins.map Ii.cs++[x.cs]) by simp[inL]]
   exact hra2.tree (by simp)) hra2.nd (λj hj=>?_)
  ·rw[Wc (Ne.symm h1),VY (by simp;omega),Wc (λe=>h2 (by simp[←e])),VY hj]
  ·simp only[Wd,Wf] at hj⊢
   rcases hj with rfl|hj|hj
   ·exact .inr (.inr (by omega))
   ·exact .inl (.inr hj)
   ·exact .inr (.inl hj)
theorem LS.finAt(hmk:MkF mk)(H:LS mk L w h K I)(hp:w.pos<w.bs.length):
 ∃kid rows b P N X,K= .sl kid 5 0 w.bs.length/\(∀t,(h++t)[kid]?=some (.row 5 rows))/\rows.length=w.bs.length/\w.bs[w.pos]?=some b/\rows[w.pos]?=some [P,N,.p (.int .i64 b.jump),.p (.int .i64 b.on),X]/\(P.cells=[P]/\P.isCell=true)/\(N.cells=[N]/\N.isCell=true)/\(X.cells=[X]/\X.isCell=true)/\kid<h.length/\kid≠L/\
  ∀(j o:Int) (g:Nat) (nx:List Int) (V:AV) (J:List Nat),OwnL false h [V] [bC nx] J->J.Nodup->(∀j∈J,j≠L/\j∉I)->
   LR mk L (w.fin j o g nx) (I++J) h ((h.set kid (AO.row 5 (rows.set w.pos [P,N,.p (.int .i64 j),.p (.int .i64 o),V]))).set L (mk (w.fin j o g nx) K)):=by
 obtain⟨kid,rows,b,P,N,X,IP,IN,IX,rfl,hkI,hrow,hlen,hb,hcur,hNc0,hP,hN,hX,hnd,hsub,hkL,close⟩:=H.modB hp
 have hkl:kid<h.length:=(VZ.1 hrow).1
 have hLl:=H.lt
 simp only[WX,Wf] at hnd hsub
 refine⟨kid,rows,b,P,N,X,rfl,λt=>by rw[VY hkl];exact hrow,hlen,hb,hcur,gy hP,gy hN,gy hX,hkl,hkL,λj o g nx V J hV ndJ hJ=>?_⟩
 have hbs:(w.fin j o g nx).bs=w.bs.set w.pos (b.fin j o nx):=kK hb
 have hkJ:kid∉J:=λhm=>(hJ kid hm).2 hkI
 have hLJ:L∉J:=λhm=>(hJ L hm).1 rfl
 have hfr:∀i,i≠kid->i≠L->((h.set kid (AO.row 5 (rows.set w.pos [P,N,.p (.int .i64 j),.p (.int .i64 o),V]))).set L (mk (w.fin j o g nx) (.sl kid 5 0 w.bs.length)))[i]?=h[i]?:=λi h1 h2=>by
  rw[Wc (Ne.symm h2),Wc (Ne.symm h1)]
 obtain⟨I',a1,a2,a3⟩:=close _ _ (b.fin j o nx) (IP++(IN++J)) (w.fin j o g nx) (by rw[Wc (Ne.symm hkL)];exact Wi hkl) (λi hi h1 h2 h3=>hfr i h2 h1) (by simp) (Wi (by simpa using hLl))
  (Hs (b:=b.fin j o nx) (hP.frame λi hi=>hfr i (hsub i (.inl hi)).2.1 (hsub i (.inl hi)).2.2) (hN.frame λi hi=>hfr i (hsub i (.inr (.inl hi))).2.1 (hsub i (.inr (.inl hi))).2.2) (hV.frame λi hi=>hfr i (λe=>hkJ (e▸hi)) (hJ i hi).1))
  (by
    simp only[WX,Wf]
    refine⟨hnd.1,⟨hnd.2.1.1,ndJ,λa ha c hc e=>?_⟩,λa ha c hc e=>?_⟩
    ·subst e;exact(hJ a hc).2 (hsub a (.inr (.inl ha))).1
    ·subst e
     rcases hc with hc|hc
     ·exact hnd.2.2 a ha a (.inl hc) rfl
     ·exact(hJ a hc).2 (hsub a (.inl ha)).1)
  (λi hi=>by
    simp only[Wf] at hi⊢
    rcases hi with hi|hi|hi
    ·exact .inl (.inl hi)
    ·exact .inl (.inr (.inl hi))
    ·exact .inr (hJ i hi)) hbs (by simpa using hNc0)
 refine⟨_,I',a1,⟨a2.1,λi hi hn=>a2.2 i hi λhm=>hn ?_⟩,λi hi=>?_⟩
 ·rcases Wd.1 hm with rfl|hm
  ·simp
  ·simp[hm]
 ·rcases a3 i hi with h|h
  ·exact .inl (by simp[h])
  ·simp only[Wf] at h⊢
   rcases h with h|h|h
   ·exact .inl (.inl (hsub i (.inl h)).1)
   ·exact .inl (.inl (hsub i (.inr (.inl h))).1)
   ·exact .inl (.inr h)
theorem LS.nameAt(H:LS mk L w h K I)(hp:0<w.bs.length)(n:Nat)(os:List AO):
 ∃kid rows,K= .sl kid 5 0 w.bs.length/\(∀t,(h++t)[kid]?=some (.row 5 rows))/\rows.length=w.bs.length/\kid<h.length/\kid≠L/\
  LR mk L (w.name n) I h (((h++os).set kid .dead++[AO.row 5 (rows++List.replicate n [.nils,.nils,.p (.int .i64 0),.p (.int .i64 0),.nils])]).set L (mk (w.name n) (.sl (h.length+os.length) 5 0 (w.bs.length+n)))):=by
 obtain⟨kid,rows,J,rfl,rfl,hr⟩:=H.rows hp
 have hkl:=hr.lt
 have hLl:=H.lt
 have hlen:=hr.len
 rw[WD] at hlen
 have hnd:=H.nd
 simp only[Wy,Wd,not_or] at hnd
 refine⟨kid,rows,rfl,λt=>by rw[VY hkl];exact hr.here,hlen,hkl,λe=>hnd.1.1 e.symm,?_⟩
 have hra:=GH hr (h2:=h++os) rfl (rs:=List.replicate n [.nils,.nils,.p (.int .i64 0),.p (.int .i64 0),.nils]) (es:=List.replicate n bk0.cs) (I2:=[]) (Dv _ n) (by simp) (λe he=>by rw[(List.mem_replicate.1 he).2];rfl) (λe he=>by rw[(List.mem_replicate.1 he).2];rfl) List.nodup_nil (λj hj=>by cases hj)
 have hl0:(h++os).length=h.length+os.length:=by simp
 rw[hl0,Wu] at hra
 have hra2:=hra.frame (h':=(((h++os).set kid .dead++[AO.row 5 (rows++List.replicate n [.nils,.nils,.p (.int .i64 0),.p (.int .i64 0),.nils])]).set L (mk (w.name n) (.sl (h.length+os.length) 5 0 (w.bs.length+n))))) (λi hi=>Wc λe=>by
  subst e
  rcases Wd.1 hi with h|h
  ·omega
  ·exact hnd.1.2 h)
 refine⟨_,(h.length+os.length)::J,⟨Wi (by simp;omega),?_,?_,?_⟩,⟨by simp;omega,λi hi hn=>?_⟩,λj hj=>?_⟩
 ·rw[show bkL (w.name n).bs= .lst 5 (w.bs.map Bk.cs++List.replicate n bk0.cs) by simp[bkL,Lw.name]]
  exact hra2.tree (by simp)
 ·simp only[Wy,Wd,not_or]
  exact⟨⟨by omega,hnd.1.2⟩,Wy.1 hra.nd⟩
 ·refine⟨λq e=>(by cases e),?_⟩
  intro kid2 n2 rows2 eK hg2 r hr2
  cases eK
  rw[hra2.here] at hg2
  cases hg2
  rcases Wf.1 hr2 with h1|h1
  ·exact H.noc.2 kid _ rows rfl hr.here r h1
  ·rw[(List.mem_replicate.1 h1).2];simp
 ·simp only[Wd,not_or] at hn
  rw[Wc (Ne.symm hn.1),VY (by simp;omega),Wc (Ne.symm hn.2.1),VY hi]
 ·rcases Wd.1 hj with rfl|hj
  ·exact .inr (by omega)
  ·exact .inl (by simp[hj])
end
end
section
theorem eb{α:Type}{p:α->Bool}{xs:List α}{i:Nat}(h:i<xs.length):(xs.take (i+1)).all p=((xs.take i).all p&&p xs[i]):=by
 rw[aw h,List.all_append];simp
theorem nU{α:Type}{p:α->Bool}{xs:List α}{i:Nat}(h:i<xs.length)(hp:p xs[i]=false):xs.all p=false:=
 List.all_eq_false.2 ⟨_,Wo h,by simp[hp]⟩
theorem iI{α:Type}{p:α->Bool}{xs:List α}{i:Nat}(h:xs.length<=i)(ht:(xs.take i).all p=true):xs.all p=true:=by
 rwa[Wg h] at ht
def sv:AK:=qd [yA 2 4,xq] (yf [wP 10 2,qq 11 10,wY 12 jq 11,qf 9 12,xr 13 0 9,xr 14 1 9,qf 5 13,qf 6 14] [xw 15,qx 16 .lss 15 1,qf 17 16,xa 18 17 0 2,wW 19 17 18,yx 20 17 (ya 19 wV (qi 13)),yn 21 17 20,xz 22 17 21,qf 23 22,xa 24 23 3 2,wW 25 23 24,qH 26 23 (qY 25),xe 27 23 5,xe 28 23 6,yx 29 23 (yb 26 (.t 27) 28),yn 30 23 29,xz 31 23 30] 31 [xq] (yl (.reg [wP 32 2,qq 33 32,wd 34 33 2,qf 35 34,xa 36 35 0 2,wW 37 35 36,xP 38 35 .eql 37 (qi 13),xz 39 35 38,qf 7 39]) (wl [yH 40,xi 41 2,qq 42 41,wY 43 cC 42,qb 44 (.beq true (.t 40) (.t 43)),qf 45 44,xe 46 45 7,yn 47 45 46,xe 48 45 47,wT 49 48 2 2,wM 50 48 49,qI 51 48 (yP .neq 50 (.c qN)),qH 52 45 (qM 48 (.t 51) qP),xz 53 45 52,qf 54 53,xa 55 54 1 2,wW 56 54 55,yx 57 54 (ya 56 ww (qi 255)),yn 58 54 57,xz 59 54 58,qf 60 59,xa 61 60 0 2,wW 62 60 61,xP 63 60 .neq 62 wV,xe 64 60 63,wT 65 64 1 2,wM 66 64 65,xh 67 64 .neq 66 ww,qH 68 60 (qM 64 (.t 67) qP),xz 69 60 68] 69 [xq]) (yT (x7 8 0 [yz 70,yr 71 2,qq 72 71,q8 73 72,wI 74 70 73] 74 wv 1 (wl [yr 77 2,qq 78 77,yz 79,wt 80 4 78 79,yO 81 80,xw 82,xA 83 82 1,wH 84 ga 81 83,xd 85 84] 85 [xq]) (yz 75) 76 75 8 76) [qc 4 wu])))
theorem Cx:AK.whole sv=FK.ak jz:=rfl
def sq:AK:=qd [yA 2 5,xq] (yl (wl [xw 7,qx 8 .lss 7 1,yz 9,xa 10 9 0 2,wW 11 9 10,yx 12 9 (ya 11 wV (qi 8)),yn 13 9 12,xz 14 9 13,qf 15 14,xa 16 15 2 2,xa 19 15 0 2,wW 17 15 16,qH 18 15 (qY 17),wW 20 15 19,qH 21 15 (.qcall jB (wX 20)),xP 22 15 .neq 18 (.t 21),xz 23 15 22] 23 [xq]) (.reg [wP 24 2,qq 25 24,wd 26 25 1,qf 27 26,xa 28 27 0 2,wW 29 27 28,xP 30 27 .eql 29 xG,xz 31 27 30,qf 5 31]) (.cut (wl [xf 32,xu 33 2,qq 34 33,wY 35 cC 34,qb 36 (.beq true (.t 32) (.t 35)),qf 37 36,xe 38 37 5,yn 39 37 38,xe 40 37 39,wT 41 40 1 2,wM 42 40 41,qI 43 40 (yP .neq 42 (.c qN)),qH 44 37 (qM 40 (.t 43) qP),xz 45 37 44] 45 [xq]) (.seq (x7 6 0 [yh 46,xi 47 2,qq 48 47,q8 49 48,wI 50 46 49] 50 wv 1 (wl [xi 53 2,qq 54 53,yh 55,wt 56 4 54 55,yO 57 56,wY 58 eZ 57,xd 59 58] 59 [xq]) (yh 51) 52 51 6 52) (yl (wl [wP 60 2,qq 61 60,wd 62 61 8,qf 63 62,wT 64 63 2 2,wM 65 63 64,qI 66 63 (qQ 4 65 ww),wT 67 63 0 66,wM 68 63 67,xh 69 63 .neq 68 (qi 13),xX 70 63 69] 70 [xq]) (wl [qp 71 4 2,qq 72 71,q8 73 72,qx 74 .gtr 73 0,qf 75 74,wT 76 75 0 2,wM 77 75 76,xh 78 75 .neq 77 (qi 5),xX 79 75 78,qf 80 79,xa 81 80 3 2,wW 82 80 81,qH 83 80 (qY 82),xP 84 80 .gtr 83 ww,xe 85 80 84,wT 86 85 0 2,wM 87 85 86,xh 88 85 .neq 87 (qi 5),qH 89 80 (qM 85 (.t 88) qP),xe 90 80 89,wT 91 90 0 2,wM 92 90 91,xh 93 90 .neq 92 (qi 6),qH 94 80 (qM 90 (.t 93) qP),xz 95 80 94] 95 [xq]) (qB [yr 96 2,qq 97 96,xw 98,xA 99 98 1,wH 100 bZ 97 99,qf 101 100,wT 102 101 4 2,wM 103 101 102,xU 104 101 1,xh 105 101 .sub 104 wV,yK 106 101 bZ (yQ 103 105),xX 107 101 106,qf 4 107])))))
theorem CP:AK.whole sq=FK.ak jx:=rfl
variable (G:aK)
theorem dm(n lo hi:Int):VF Tryz.prog G bl [.p (.int .i64 n),.p (.int .i64 lo),.p (.int .i64 hi)] (.p (.bool (inR n lo hi))):=by
 refine AC.go FR ?_
 by_cases h:lo<=n
 ·simp-implicitDefEqProofs[pH,h,inR]
 ·simp-implicitDefEqProofs[pH,h,inR]
theorem Gh(op:Int):VF Tryz.prog G jq [.p (.int .i64 op)] (.tup [.p (.int .i64 (loK op)),.p (.int .i64 (hiK op))]):=by
 refine AC.go Ci ?_
 by_cases h1:op=1
 ·subst h1;simp-implicitDefEqProofs[dk,loK,hiK]
 by_cases h2:op=2
 ·subst h2;simp-implicitDefEqProofs[dk,loK,hiK]
 by_cases h3:op=11
 ·subst h3;simp-implicitDefEqProofs[dk,loK,hiK]
 by_cases h4:op=12
 ·subst h4;simp-implicitDefEqProofs[dk,loK,hiK]
 by_cases h5:op=13
 ·subst h5;simp-implicitDefEqProofs[dk,loK,hiK]
 simp-implicitDefEqProofs[dk,loK,hiK,h1,h2,h3,h4,h5]
theorem Ma:∀(d:Nat) (e:Ex),e.sz<=1099511627776->d<=1000->VF Tryz.prog G ga [.agg (e.cs.map .p),.p (.int .i64 d)] (.p (.bool (bY d e))):=by
 intro d
 induction d with
 |zero=>
  intro e he _
  refine AC.go rZ ?_
  simp-implicitDefEqProofs[jz,Ex.cs_eq]
  refine(Gh G _).use ?_
  simp-implicitDefEqProofs[bY]
 |succ d ih=>
  intro e he hd
  have hsz:=e.sz_eq
  have hkl:=bK e.kids
  refine AC.goK rZ Cx ?_
  have hd1:¬(d:Int)+1<1:=by omega
  have hw:IntKind.i64.wrap ((d:Int)+1-1)=(d:Int):=by rw[show(d:Int)+1-1=d by omega];exact ab (by omega) (by omega)
  have hw':IntKind.i64.wrap (d:Int)=(d:Int):=ab (by omega) (by omega)
  have hxl:∀l,exL l= .lst 4 (l.map Ex.cs):=λ_=>rfl
  simp-implicitDefEqProofs[sv,jz,Ex.cs_eq]
  refine(Gh G _).use ?_
  simp-implicitDefEqProofs[hd1]
  refine(dm G _ _ _).use ?_
  by_cases h1:inR e.op 1 13=true
  case neg=>simp-implicitDefEqProofs[h1,bY,lC]
  simp-implicitDefEqProofs[h1,hxl]
  refine(dm G _ _ _).use ?_
  by_cases h2:inR e.kids.length (loK e.op) (hiK e.op)=true
  case neg=>simp-implicitDefEqProofs[h2,bY,lC]
  simp-implicitDefEqProofs[h2]
  refine oX (az 86 [(1,.p (.int .i64 (d+1))),(2,.ptr 0 4 0 0),(7,.p (.bool (FY e.op)))]) [.row 4 [[.p (.int .i64 e.op),.p (.int .i64 e.n),.p (.str e.name),.p (.lst 4 (e.kids.map Ex.cs))]]] ?_ ?_
  ·by_cases o2:e.op=2
   ·simp-implicitDefEqProofs[o2]
    exact am (by simp) (by simp[okO]) (by simp[below,FY])
   ·by_cases o13:e.op=13
    ·simp-implicitDefEqProofs[o13]
     exact am (by simp) (by simp[okO]) (by simp[below,FY])
    ·simp-implicitDefEqProofs[o2,o13]
     exact am (by simp) (by simp[okO]) (by simp[below,FY,o2,o13])
  have hn:e.name.length<=140737488355328:=by omega
  refine lT (λ_:Unit=>az 86 [(1,.p (.int .i64 ((d:Int)+1))),(2,.ptr 0 4 0 0)]) (λ_=>[.row 4 [[.p (.int .i64 e.op),.p (.int .i64 e.n),.p (.str e.name),.p (.lst 4 (e.kids.map Ex.cs))]]]) (λ_=>lC e=true) ?_ ?_
  ·simp-implicitDefEqProofs[]
   refine(ua G _ hn).use ?_
   simp-implicitDefEqProofs[]
   repeat' first
    |(refine(dm G _ _ _).use ?_;simp-implicitDefEqProofs[])
    |(refine aO (λhc=>?_) (λhc=>?_)<;>simp-implicitDefEqProofs[hc])
   all_goals first
    |exact⟨by simp_all [lC],am (by simp) (by simp[okO]) (by simp[below])⟩
    |simp_all [bY,lC]
  intro _ hh
  simp-implicitDefEqProofs[]
  refine aN (λi:Nat=>az 86 [(1,.p (.int .i64 ((d:Int)+1))),(2,.ptr 0 4 0 0),(8,.p (.int .i64 i))]) (λ_=>[.row 4 [[.p (.int .i64 e.op),.p (.int .i64 e.n),.p (.str e.name),.p (.lst 4 (e.kids.map Ex.cs))]]])
   (λi=>i<=e.kids.length/\(e.kids.take i).all (bY d)=true) (λi=>e.kids.length-i) 0 (by simp) (am (by simp) (by simp[okO]) (by simp[below])) ?_
  intro i ⟨hi,hall⟩
  simp-implicitDefEqProofs[]
  refine aO (λh=>?_) (λh=>?_)
  ·simp at h
   have hg:=Wa h
   have hks:=cJ (Wo h)
   simp-implicitDefEqProofs[hg,hw']
   refine(ih e.kids[i] (by omega) (by omega)).use ?_
   by_cases hk:bY d e.kids[i]=true
   ·simp-implicitDefEqProofs[hk]
    refine⟨i+1,⟨h,by rw[←Wj,eb h,hall,hk];rfl⟩,by omega,am (by simp) (by simp[okO]) ?_⟩
    simp[below,w1 (i:=i) (by omega)]
   ·have hk':bY d e.kids[i]=false:=by simpa using hk
    have hf:bY (d+1) e=false:=by simp only[bY,nU h hk',Bool.and_false]
    simp-implicitDefEqProofs[hk',hf]
  ·simp at h
   have hf:bY (d+1) e=true:=by simp only[bY,iI h hall,hh,Bool.and_self]
   simp-implicitDefEqProofs[hf]
theorem Ko{l:List Ex}{i:Nat}(h:i<l.length):gC (l.take (i+1))=gC (l.take i)+l[i].parts:=by
 rw[aw h,jL];simp[gC]
theorem Ew(l:List Ex)(i:Nat):gC (l.take i)<=gC l:=by
 have:=jL (l.take i) (l.drop i)
 rw[WI] at this
 omega
theorem KA:∀(k:Nat) (e:Ex),e.sz<=k->k<=1099511627776->VF Tryz.prog G gX [.agg (e.cs.map .p)] (.p (.int .i64 e.parts)):=by
 intro k
 induction k with
 |zero=>intro e he;have:=e.sz_eq;omega
 |succ k ih=>
  intro e he hk
  have hsz:=e.sz_eq
  have hkl:=bK e.kids
  have hpe:=e.parts_eq
  have hpz:=DV e.kids
  refine AC.go BK ?_
  have hxl:∀l,exL l= .lst 4 (l.map Ex.cs):=λ_=>rfl
  simp-implicitDefEqProofs[pS,Ex.cs_eq,hxl]
  refine aN (λi:Nat=>az 21 [(1,.ptr 0 4 0 0),(3,.p (.int .i64 ((1+gC (e.kids.take i):Nat):Int))),(4,.p (.int .i64 i))]) (λ_=>[.row 4 [[.p (.int .i64 e.op),.p (.int .i64 e.n),.p (.str e.name),.p (.lst 4 (e.kids.map Ex.cs))]]])
   (λi=>i<=e.kids.length) (λi=>e.kids.length-i) 0 (by simp) (am (by simp) (by simp[okO]) (by simp[below,gC])) ?_
  intro i hi
  simp-implicitDefEqProofs[]
  refine aO (λh=>?_) (λh=>?_)
  ·simp at h
   have hg:=Wa h
   have hks:=cJ (Wo h)
   have hps:=Ko h
   have hple:=Ew e.kids (i+1)
   simp-implicitDefEqProofs[hg]
   refine(ih e.kids[i] (by omega) (by omega)).use ?_
   have hw:IntKind.i64.wrap (1+(gC (e.kids.take i):Int)+(e.kids[i].parts:Int))=((1+gC (e.kids.take (i+1)):Nat):Int):=by rw[ab (by omega) (by omega)];omega
   simp-implicitDefEqProofs[hw]
   exact⟨i+1,h,by omega,am (by simp) (by simp[okO]) (by simp[below,w1 (i:=i) (by omega)])⟩
  ·simp at h
   rw[Wg h]
   simp-implicitDefEqProofs[]
   omega
theorem FU(e:Ex)(he:e.sz<=1099511627776):VF Tryz.prog G eZ [.agg (e.cs.map .p)] (.p (.bool (lV e))):=by
 refine AC.go vb ?_
 simp-implicitDefEqProofs[nr]
 have h6:=Ma G 6 e he (by omega)
 refine h6.use ?_
 by_cases h:bY 6 e=true
 ·simp-implicitDefEqProofs[h]
  refine(KA G _ e (Wn _) he).use ?_
  simp-implicitDefEqProofs[lV,h]
  omega
 ·simp-implicitDefEqProofs[h,lV]
theorem MF(op:Int):VF Tryz.prog G jB [.p (.int .i64 op)] (.p (.int .i64 (jF op))):=by
 refine AC.go Cr ?_
 by_cases h:op=4
 ·simp-implicitDefEqProofs[mY,h,jF]
 ·simp-implicitDefEqProofs[mY,h,jF]
theorem vR(d:Nat)(hd:d<=1000)(hs:∀s:Sm,s.sz<=1099511627776->VF Tryz.prog G jr [.agg (s.cs.map .p),.p (.int .i64 d)] (.p (.bool (aJ d s))))(l:List Sm)(hl:aD l<=1099511627776):
 VF Tryz.prog G bZ [.p (smL l),.p (.int .i64 d)] (.p (.bool (l.all (aJ d)))):=by
 refine AC.go Cb ?_
 have hll:=bM l
 have hsl:∀l,smL l= .lst 5 (l.map Sm.cs):=λ_=>rfl
 simp-implicitDefEqProofs[pY]
 refine aN (λi:Nat=>az 19 [(0,.p (smL l)),(1,.p (.int .i64 d)),(5,.p (.int .i64 i))]) (λ_=>[]) (λi=>i<=l.length/\(l.take i).all (aJ d)=true) (λi=>l.length-i) 0 (by simp) (cy rfl (by simp[below,hsl])) ?_
 intro i ⟨hi,hall⟩
 simp-implicitDefEqProofs[hsl]
 refine aO (λh=>?_) (λh=>?_)
 ·simp at h
  have hg:=Wa h
  have hks:=fV (Wo h)
  simp-implicitDefEqProofs[hg]
  refine(hs l[i] (by omega)).use ?_
  by_cases hk:aJ d l[i]=true
  ·simp-implicitDefEqProofs[hk]
   exact⟨i+1,⟨h,by rw[←Wj,eb h,hall,hk];rfl⟩,by omega,cy rfl (by simp[below,hsl,w1 (i:=i) (by omega)])⟩
  ·have hk':aJ d l[i]=false:=by simpa using hk
   have hf:=nU h hk'
   simp-implicitDefEqProofs[hk',hf]
 ·simp at h
  have hf:=iI h hall
  simp-implicitDefEqProofs[hf]
theorem LY:∀(d:Nat),d<=1000->∀s:Sm,s.sz<=1099511627776->VF Tryz.prog G jr [.agg (s.cs.map .p),.p (.int .i64 d)] (.p (.bool (aJ d s))):=by
 intro d
 induction d with
 |zero=>
  intro _ s _
  refine AC.go rP ?_
  simp-implicitDefEqProofs[jx,Sm.cs_eq,aJ]
 |succ d ih=>
  intro hd s he
  have hsz:=s.sz_eq
  have hal:=bK s.args
  have hbl:=bM s.body
  have hel:=bM s.els
  have ihs:=vR G d (by omega) (ih (by omega))
  refine AC.goK rP CP ?_
  have hd1:¬(d:Int)+1<1:=by omega
  have hw':IntKind.i64.wrap (d:Int)=(d:Int):=ab (by omega) (by omega)
  have hxl:∀l,exL l= .lst 4 (l.map Ex.cs):=λ_=>rfl
  have hsl:∀l,smL l= .lst 5 (l.map Sm.cs):=λ_=>rfl
  have hn:s.name.length<=140737488355328:=by omega
  simp-implicitDefEqProofs[sq,jx,Sm.cs_eq]
  generalize hH:[AO.row 5 [[AV.p (.int .i64 s.op),.p (.str s.name),.p (exL s.args),.p (smL s.body),.p (smL s.els)]]]=H
  have hho:∀o∈H,okO H.length o:=by rw[←hH];simp[okO]
  have hhl:0<H.length:=by rw[←hH];simp
  have hh0:H[0]?=some (AO.row 5 [[AV.p (.int .i64 s.op),.p (.str s.name),.p (exL s.args),.p (smL s.body),.p (smL s.els)]]):=by rw[←hH];rfl
  have hhL:H.length=1:=by rw[←hH];rfl
  refine lT (λ_:Unit=>az 108 [(1,.p (.int .i64 ((d:Int)+1))),(2,.ptr 0 5 0 0)]) (λ_=>H) (λ_=>inR s.op 1 8=true/\s.args.length=jF s.op) ?_ ?_
  ·simp-implicitDefEqProofs[hd1,hh0]
   refine(dm G _ _ _).use ?_
   by_cases h1:inR s.op 1 8=true
   case neg=>simp-implicitDefEqProofs[h1,aJ,fU]
   simp-implicitDefEqProofs[h1,hh0,hxl]
   refine(MF G _).useQ ?_
   by_cases h2:s.args.length=jF s.op
   ·simp-implicitDefEqProofs[h2]
    exact am (by omega) hho (by simp[below,hhl])
   ·have h2':¬(s.args.length:Int)=(jF s.op:Int):=by omega
    simp-implicitDefEqProofs[h2,h2',aJ,fU]
  intro _ ⟨h1,h2⟩
  refine lT (λ_:Unit=>az 108 [(1,.p (.int .i64 ((d:Int)+1))),(2,.ptr 0 5 0 0),(5,.p (.bool (cR s.op)))]) (λ_=>H) (λ_=>True) ?_ ?_
  ·simp-implicitDefEqProofs[hh0]
   by_cases o1:s.op=1
   ·simp-implicitDefEqProofs[o1,hh0,cR]
    exact am (by omega) hho (by simp[below,hhl])
   ·by_cases o2:s.op=2
    ·simp-implicitDefEqProofs[o2,hh0,cR]
     exact am (by omega) hho (by simp[below,hhl])
    ·simp-implicitDefEqProofs[o1,o2,hh0,cR]
     exact am (by omega) hho (by simp[below,hhl])
  intro _ _
  refine lT (λ_:Unit=>az 108 [(1,.p (.int .i64 ((d:Int)+1))),(2,.ptr 0 5 0 0)]) (λ_=>H) (λ_=>(cR s.op==aP s.name)=true/\(cR s.op||decide (s.name=[]))=true) ?_ ?_
  ·simp-implicitDefEqProofs[hh0]
   refine(ua G _ hn).use ?_
   simp-implicitDefEqProofs[hh0]
   repeat' first
    |(refine aO (λhc=>?_) (λhc=>?_)<;>simp-implicitDefEqProofs[hc,hh0])
   all_goals first
    |exact am (by omega) hho (by simp[below,hhl])
    |exact⟨by simp_all,by simp_all,am (by omega) hho (by simp[below,hhl])⟩
    |exact⟨by simp_all,am (by omega) hho (by simp[below,hhl])⟩
    |(simp_all [aJ,fU];done)
  intro _ ⟨h3,h4⟩
  simp-implicitDefEqProofs[]
  refine aN (λi:Nat=>az 108 [(1,.p (.int .i64 ((d:Int)+1))),(2,.ptr 0 5 0 0),(6,.p (.int .i64 i))]) (λ_=>H) (λi=>i<=s.args.length/\(s.args.take i).all lV=true) (λi=>s.args.length-i) 0 (by simp) (am (by omega) hho (by simp[below,hhl])) ?_
  intro i ⟨hi,hall⟩
  simp-implicitDefEqProofs[hh0,hxl]
  refine aO (λh=>?_) (λh=>?_)
  ·simp at h
   have hg:=Wa h
   have hks:=cJ (Wo h)
   simp-implicitDefEqProofs[hg,hh0,hxl]
   refine(FU G s.args[i] (by omega)).use ?_
   by_cases hk:lV s.args[i]=true
   ·simp-implicitDefEqProofs[hk]
    exact⟨i+1,⟨h,by rw[←Wj,eb h,hall,hk];rfl⟩,by omega,am (by omega) hho (by simp[below,hhl,w1 (i:=i) (by omega)])⟩
   ·have hk':lV s.args[i]=false:=by simpa using hk
    have hf:aJ (d+1) s=false:=by simp only[aJ,fU,nU h hk',Bool.and_false,Bool.false_and]
    simp-implicitDefEqProofs[hk',hf]
  simp at h
  have h5:s.args.all lV=true:=iI h hall
  have hlen1:1<=s.args.length:=by rw[h2];unfold jF;split<;>omega
  obtain⟨a0,ar,ha⟩:∃a r,s.args=a::r:=by
   cases hh:s.args with
   |nil=>rw[hh] at hlen1;simp at hlen1
   |cons a r=>exact⟨a,r,rfl⟩
  have ha0:s.args[0]?=some a0:=by rw[ha];rfl
  refine lT (λ_:Unit=>az 108 [(1,.p (.int .i64 ((d:Int)+1))),(2,.ptr 0 5 0 0)]) (λ_=>H) (λ_=>(!decide (s.op=8)||decide (a0.op=13))=true) ?_ ?_
  ·simp-implicitDefEqProofs[hh0]
   by_cases o8:s.op=8
   ·have hae:=a0.cs_eq
    simp-implicitDefEqProofs[o8,hh0,hxl,ha0,hae]
    refine aO (λhc=>?_) (λhc=>?_)
    ·simp at hc
     have hf:aJ (d+1) s=false:=by simp[aJ,fU,o8,ha,hc]
     simp-implicitDefEqProofs[hf]
    ·simp at hc
     simp-implicitDefEqProofs[hc]
     exact am (by omega) hho (by simp[below,hhl])
   ·simp-implicitDefEqProofs[o8,hh0]
    exact am (by omega) hho (by simp[below,hhl])
  intro _ h6
  refine lT (λ_:Unit=>az 108 [(1,.p (.int .i64 ((d:Int)+1))),(2,.ptr 0 5 0 0)]) (λ_=>H) (λ_=>(s.els.isEmpty||decide (s.op=5))=true/\(s.body.isEmpty||decide (s.op=5)||decide (s.op=6))=true) ?_ ?_
  ·have hf:¬((s.els.isEmpty||decide (s.op=5))=true/\(s.body.isEmpty||decide (s.op=5)||decide (s.op=6))=true)->aJ (d+1) s=false:=λh=>by
    have:fU s=false:=by
     cases hx:fU s with
     |false=>rfl
     |true=>refine absurd ?_ h;simp only[fU,Wl] at hx;exact⟨hx.1.2,hx.2⟩
    simp[aJ,this]
   have pe:¬s.els=[]->0<s.els.length:=Xd.2
   have pb:¬s.body=[]->0<s.body.length:=Xd.2
   by_cases o5:s.op=5
   ·simp-implicitDefEqProofs[hh0,hsl,o5]
    repeat' first
     |(refine aO (λhc=>?_) (λhc=>?_)<;>simp-implicitDefEqProofs[hc,hh0,hsl,o5])
    all_goals exact am (by omega) hho (by simp[below,hhl])
   by_cases e1:s.els=[]
   case neg=>
    have hf:=hf (by simp[e1,o5])
    have:=pe e1
    simp-implicitDefEqProofs[hh0,hsl,o5,e1,this,hf]
   by_cases e2:s.body=[]
   ·simp-implicitDefEqProofs[hh0,hsl,o5,e1,e2]
    exact am (by omega) hho (by simp[below,hhl])
   have:=pb e2
   by_cases o6:s.op=6
   ·simp-implicitDefEqProofs[hh0,hsl,o6,e1,e2,this]
    exact am (by omega) hho (by simp[below,hhl])
   ·have hf:=hf (by simp[e2,o5,o6])
    simp-implicitDefEqProofs[hh0,hsl,o5,o6,e1,e2,this,hf]
  intro _ ⟨h7,h8⟩
  have hm:(match s.args with|a::_=>decide (a.op=13)|[]=>false)=decide (a0.op=13):=by rw[ha]
  have hhd:fU s=true:=by
   have h6':(!decide (s.op=8)||(match s.args with|a::_=>decide (a.op=13)|[]=>false))=true:=by rw[hm];exact h6
   have h2':decide (s.args.length=jF s.op)=true:=by simp[h2]
   simp only[fU,h1,h2',h3,h4,h5,h7,h8,Bool.and_self,Bool.and_true,Bool.true_and]
   exact h6'
  simp-implicitDefEqProofs[hh0,hw']
  refine(ihs s.body (by omega)).use ?_
  by_cases hB:s.body.all (aJ d)=true
  ·simp only[hB]
   simp-implicitDefEqProofs[hh0,hw']
   refine(ihs s.els (by omega)).use ?_
   have hf:aJ (d+1) s=s.els.all (aJ d):=by simp only[aJ,hhd,hB,Bool.true_and]
   rw[hf]
   generalize s.els.all (aJ d)=w
   simp-implicitDefEqProofs[]
  ·have hB':s.body.all (aJ d)=false:=by simpa using hB
   have hf:aJ (d+1) s=false:=by simp only[aJ,hB',Bool.and_false,Bool.false_and]
   simp only[hB',hf]
   simp-implicitDefEqProofs[]
theorem JL(d:Nat)(hd:d<=1000)(l:List Sm)(hl:aD l<=1099511627776):VF Tryz.prog G bZ [.p (smL l),.p (.int .i64 d)] (.p (.bool (l.all (aJ d)))):=
 vR G d hd (LY G d hd) l hl
theorem QX(f:Fd)(hf:f.sz<=1099511627776):VF Tryz.prog G pD [.agg (f.cs.map .p)] (.p (.bool (jP f))):=by
 refine AC.go Fe ?_
 have hsz:f.sz=1+f.name.length+(f.params.length+(f.params.map List.length).sum)+aD f.body:=rfl
 have hps:∀x∈f.params,x.length<=(f.params.map List.length).sum:=λx hx=>by
  have key:∀l:List (List UInt8),x∈l->x.length<=(l.map List.length).sum:=by
   intro l
   induction l with
   |nil=>intro h;cases h
   |cons y r ih=>
    intro h
    simp only[Wz,List.sum_cons]
    rcases Wd.1 h with rfl|h
    ·omega
    ·have:=ih h;omega
  exact key _ hx
 have hst:aL f.params= .lst 1 (f.params.map λw=>[.str w]):=rfl
 have h4:=JL G 4 (by omega) f.body (by omega)
 simp-implicitDefEqProofs[zd,Fd.cs,hst]
 refine aN (λi:Nat=>az 32 [(1,.ptr 0 3 0 0),(3,.p (.int .i64 i))]) (λ_=>[.row 3 [[.p (.str f.name),.p (aL f.params),.p (smL f.body)]]]) (λi=>i<=f.params.length/\(f.params.take i).all aP=true) (λi=>f.params.length-i) 0 (by simp) (am (by simp) (by simp[okO]) (by simp[below])) ?_
 intro i ⟨hi,hall⟩
 simp-implicitDefEqProofs[hst]
 refine aO (λh=>?_) (λh=>?_)
 ·simp at h
  have hg:=Wa h
  have hl:=hps _ (Wo h)
  simp-implicitDefEqProofs[hg]
  refine(ua G _ (by omega)).use ?_
  by_cases hk:aP f.params[i]=true
  ·simp-implicitDefEqProofs[hk]
   exact⟨i+1,⟨h,by rw[←Wj,eb h,hall,hk];rfl⟩,by omega,am (by simp) (by simp[okO]) (by simp[below,w1 (i:=i) (by omega)])⟩
  ·have hk':aP f.params[i]=false:=by simpa using hk
   have hff:jP f=false:=by simp only[jP,nU h hk',Bool.false_and]
   simp-implicitDefEqProofs[hk',hff]
 ·simp at h
  have h1:f.params.all aP=true:=iI h hall
  simp-implicitDefEqProofs[]
  refine(ua G _ (by omega)).use ?_
  by_cases h2:aP f.name=true
  case neg=>
   have h2':aP f.name=false:=by simpa using h2
   simp-implicitDefEqProofs[h2',jP]
  simp-implicitDefEqProofs[h2]
  by_cases h3:f.params.length<=3
  case neg=>
   have h3':¬(f.params.length:Int)<=3:=by omega
   simp-implicitDefEqProofs[h3,h3',jP]
  have h3':(f.params.length:Int)<=3:=by omega
  simp-implicitDefEqProofs[h3']
  refine h4.use ?_
  have hff:jP f=f.body.all (aJ 4):=by simp only[jP,h1,h2,h3,decide_true,Bool.true_and]
  rw[hff]
  generalize f.body.all (aJ 4)=w
  simp-implicitDefEqProofs[]
theorem Kq{l:List Sm}{i:Nat}(h:i<l.length):dI (l.take (i+1))=dI (l.take i)+l[i].cnt:=by
 rw[aw h,py];simp[dI]
theorem tL(l:List Sm)(i:Nat):dI (l.take i)<=dI l:=by
 have:=py (l.take i) (l.drop i)
 rw[WI] at this
 omega
def lW(l:List Sm)(i:Nat):Nat:=l.length+((l.take i).map λs=>dI s.body+dI s.els).sum
theorem Hv(l:List Sm):lW l 0=l.length:=by simp[lW]
theorem Ab{l:List Sm}{i:Nat}(h:i<l.length):lW l (i+1)=lW l i+dI l[i].body+dI l[i].els:=by
 rw[lW,lW,aw h,List.map_append,List.sum_append]
 simp only[Wz,WY,List.sum_cons,List.sum_nil]
 omega
theorem vo(l:List Sm):∀i,i<=l.length->dI (l.take i)+l.length=i+lW l i
 |0,_=>by simp[dI,lW]
 |i+1,h=>by
  have:=vo l i (by omega)
  rw[Kq (by omega),Ab (by omega),(l[i]'(by omega)).cnt_eq]
  omega
theorem JW:∀(k:Nat) (l:List Sm),aD l<=k->k<=1099511627776->VF Tryz.prog G eQ [.p (smL l)] (.p (.int .i64 (dI l))):=by
 intro k
 induction k with
 |zero=>
  intro l hl _
  have:l=[]:=by
   cases l with
   |nil=>rfl
   |cons s r=>have:=s.sz_eq;simp only[aD] at hl;omega
  subst this
  refine AC.go pi ?_
  have hsl:smL []= .lst 5 []:=rfl
  simp-implicitDefEqProofs[kT,hsl]
  refine aN (λ_:Unit=>az 29 [(0,.p (.lst 5 [])),(3,.p (.int .i64 0)),(4,.p (.int .i64 0))]) (λ_=>[]) (λ_=>True) (λ_=>0) () trivial (cy rfl (by simp[below])) ?_
  intro _ _
  simp-implicitDefEqProofs[dI]
 |succ k ih=>
  intro l hl hk
  have hll:=bM l
  have hnz:=gq l
  refine AC.go pi ?_
  have hsl:∀l,smL l= .lst 5 (l.map Sm.cs):=λ_=>rfl
  simp-implicitDefEqProofs[kT,hsl]
  refine aN (λi:Nat=>az 29 [(0,.p (smL l)),(3,.p (.int .i64 (lW l i))),(4,.p (.int .i64 i))]) (λ_=>[]) (λi=>i<=l.length) (λi=>l.length-i) 0 (by simp) (cy rfl (by simp[below,hsl,Hv])) ?_
  intro i hi
  have k0:=vo l i hi
  have k2:=tL l i
  simp-implicitDefEqProofs[hsl]
  refine aO (λh=>?_) (λh=>?_)
  ·simp at h
   have hg:=Wa h
   have hks:=fV (Wo h)
   have hse:=l[i].sz_eq
   have hce:=l[i].cs_eq
   have k1:=Ab h
   have k3:=vo l (i+1) h
   have k4:=tL l (i+1)
   simp-implicitDefEqProofs[hg,hce]
   refine(ih l[i].body (by omega) (by omega)).use ?_
   simp-implicitDefEqProofs[hg,hce]
   refine(ih l[i].els (by omega) (by omega)).use ?_
   have w1':IntKind.i64.wrap ((lW l i:Int)+(dI l[i].body:Int))=(lW l i:Int)+(dI l[i].body:Int):=ab (by omega) (by omega)
   have w2':IntKind.i64.wrap ((lW l i:Int)+(dI l[i].body:Int)+(dI l[i].els:Int))=(lW l (i+1):Int):=by rw[ab (by omega) (by omega)];omega
   simp-implicitDefEqProofs[w1',w2']
   exact⟨i+1,h,by omega,cy rfl (by simp[below,hsl,w1 (i:=i) (by omega)])⟩
  ·simp at h
   rw[Wg h] at k0
   have:lW l i=dI l:=by omega
   simp-implicitDefEqProofs[this]
theorem gf:∀{l:List Fd} {f:Fd},f∈l->f.sz<=aW l
 |x::r,e,h=>by
  simp only[aW,Wz,List.sum_cons]
  rcases Wd.1 h with rfl|h
  ·omega
  ·have:=gf h;simp only[aW] at this;omega
theorem iz:∀l:List Fd,l.length<=aW l
 |[]=>Wn _
 |e::r=>by have:=iz r;simp only[aW,Wz,List.sum_cons,Wr] at this⊢;have:1<=e.sz:=by unfold Fd.sz;omega
           omega
def Ce(l:List Fd)(i:Nat):Nat:=iD (l.take i)
theorem KN{l:List Fd}{i:Nat}(h:i<l.length):Ce l (i+1)=Ce l i+dI l[i].body:=by
 rw[Ce,Ce,iD,iD,aw h,List.map_append,List.sum_append];simp
theorem Eb:∀l:List Fd,iD l<=aW l
 |[]=>Wn _
 |f::r=>by
  have:=Eb r
  have h2:=gq f.body
  simp only[iD,aW,Wz,List.sum_cons] at this⊢
  have:aD f.body<=f.sz:=by unfold Fd.sz;omega
  omega
theorem Qj(l:List Fd)(i:Nat):Ce l i<=aW l:=by
 have h1:=Eb (l.take i)
 have h2:aW (l.take i)<=aW l:=by
  have:aW l=aW (l.take i)+aW (l.drop i):=by
   rw[←WI i l,aW,List.map_append,List.sum_append];simp[aW]
  omega
 exact WQ h1 h2
theorem Qn(l:List Fd)(hl:aW l<=1099511627776):VF Tryz.prog G og [.agg [.p (fdL l)]] (.p (.int .i64 (iD l))):=by
 refine AC.go Ev ?_
 have hll:=iz l
 have hfl:∀l,fdL l= .lst 3 (l.map Fd.cs):=λ_=>rfl
 simp-implicitDefEqProofs[uj]
 refine aN (λi:Nat=>az 22 [(1,.ptr 0 1 0 0),(3,.p (.int .i64 (Ce l i))),(4,.p (.int .i64 i))]) (λ_=>[.row 1 [[.p (fdL l)]]]) (λi=>i<=l.length) (λi=>l.length-i) 0 (by simp) (am (by simp) (by simp[okO]) (by simp[below,Ce,iD])) ?_
 intro i hi
 simp-implicitDefEqProofs[hfl]
 refine aO (λh=>?_) (λh=>?_)
 ·simp at h
  have hg:=Wa h
  have hks:=gf (Wo h)
  have hse:l[i].sz=1+l[i].name.length+(l[i].params.length+(l[i].params.map List.length).sum)+aD l[i].body:=rfl
  have hce:l[i].cs=[.str l[i].name,aL l[i].params,smL l[i].body]:=rfl
  have k1:=KN h
  have k2:=Qj l (i+1)
  simp-implicitDefEqProofs[hg,hce]
  refine(JW G _ l[i].body (Wn _) (by omega)).use ?_
  have w1':IntKind.i64.wrap ((Ce l i:Int)+(dI l[i].body:Int))=(Ce l (i+1):Int):=by rw[ab (by omega) (by omega)];omega
  simp-implicitDefEqProofs[w1']
  exact⟨i+1,h,by omega,am (by simp) (by simp[okO]) (by simp[below,w1 (i:=i) (by omega),hfl])⟩
 ·simp at h
  have:Ce l i=iD l:=by rw[Ce,Wg h]
  simp-implicitDefEqProofs[this]
theorem kY(l:List Fd)(hl:aW l<=1099511627776):VF Tryz.prog G dw [.agg [.p (fdL l)]] (.p (.bool (bn l))):=by
 refine AC.go rJ ?_
 have hfl:∀l,fdL l= .lst 3 (l.map Fd.cs):=λ_=>rfl
 have hall:=Qn G l hl
 have hll:=iz l
 rw[hfl] at hall
 simp-implicitDefEqProofs[kj,hfl]
 refine(dm G _ _ _).use ?_
 by_cases h1:inR l.length 1 4=true
 case neg=>simp-implicitDefEqProofs[h1,bn]
 simp-implicitDefEqProofs[h1]
 refine aN (λi:Nat=>az 26 [(1,.ptr 0 1 0 0),(3,.p (.int .i64 i))]) (λ_=>[.row 1 [[.p (.lst 3 (l.map Fd.cs))]]]) (λi=>i<=l.length/\(l.take i).all jP=true) (λi=>l.length-i) 0 (by simp) (am (by simp) (by simp[okO]) (by simp[below])) ?_
 intro i ⟨hi,ha⟩
 simp-implicitDefEqProofs[]
 refine aO (λh=>?_) (λh=>?_)
 ·simp at h
  have hg:=Wa h
  have hks:=gf (Wo h)
  simp-implicitDefEqProofs[hg]
  refine(QX G l[i] (by omega)).use ?_
  by_cases hk:jP l[i]=true
  ·simp-implicitDefEqProofs[hk]
   exact⟨i+1,⟨h,by rw[←Wj,eb h,ha,hk];rfl⟩,by omega,am (by simp) (by simp[okO]) (by simp[below,w1 (i:=i) (by omega)])⟩
  ·have hk':jP l[i]=false:=by simpa using hk
   have hff:bn l=false:=by simp only[bn,nU h hk',Bool.and_false,Bool.false_and]
   simp-implicitDefEqProofs[hk',hff]
 ·simp at h
  have h2:l.all jP=true:=iI h ha
  simp-implicitDefEqProofs[]
  refine hall.use ?_
  have hff:bn l=decide (iD l<=40):=by simp only[bn,h1,h2,Bool.true_and]
  simp-implicitDefEqProofs[hff]
  omega
end
section
theorem bP{n:Nat}{h h1:List AO}(e:h.take n=h1)(hn:h1.length=n)(ho:∀o∈h1,okO n o):Fst n h h1:=by
 have hl:n<=h.length:=by
  have:=congrArg List.length e
  rw[Wv] at this;omega
 have hg:∀(i:Nat) (o:AO),h1[i]?=some o->h[i]?=some o:=λi o hi=>by
  have h2:=(VZ.1 hi).1
  rw[←e,Xh (by omega)] at hi
  exact hi
 exact⟨hn,hl,λi sz es hi=>⟨hg _ _ hi,ho _ (Wm hi)⟩,λi es hi=>⟨hg _ _ hi,ho _ (Wm hi)⟩,λi s p hi=>hg _ _ hi⟩
theorem Dr:∀(r:List AO) (s:Nat),((jO (List.range' s r.length++[0]) (r++[.dead])).Nodup/\∀i∈jO (List.range' s r.length++[0]) (r++[.dead]),s<=i)
 |[],s=>by simp[jO]
 |o::r,s=>by
  obtain⟨h1,h2⟩:=Dr r (s+1)
  rw[Wr,List.range'_succ]
  cases o with
  |dead=>exact⟨h1,λi hi=>Nat.le_of_succ_le (h2 i hi)⟩
  |_=>exact⟨Wy.2 ⟨λhm=>absurd (h2 _ hm) (by omega),h1⟩,λi hi=>by
   rcases Wd.1 hi with rfl|hi
   ·exact Wn _
   ·exact Nat.le_of_succ_le (h2 i hi)⟩
theorem Gt{h:List AO}(hp:0<h.length)(ho:∀o∈h,okO h.length o):∀(r:List AO) (s:Nat),(∀i:Nat,r[i]?=h[s+i]?)->s+r.length=h.length->HW (List.range' 0 h.length++[0]) h (List.range' s r.length++[0]) (r++[.dead])
 |[],s,_,_=>eB hp da
 |o::r,s,hr,hs=>by
  have hσ:∀i,i<h.length->(List.range' 0 h.length++[0]).getD i 0=i:=λi hi=>by
   rw[Wp,VY (by simp;exact hi)];simp[hi]
  rw[Wr,List.range'_succ]
  have h0:=hr 0
  have ih:=Gt hp ho r (s+1) (λi=>by have:=hr (i+1);rw[Ws] at this;rw[this];congr 1;omega) (by simp at hs;omega)
  have hm:h[s]?=some o:=by simpa using h0.symm
  have hok:=ho o (Wm hm)
  cases o with
  |dead=>exact eB (VZ.1 hm).1 ih
  |row sz es=>
   refine cS (λx hx=>aT (by simp) _ (hok x hx)) ?_ ih
   rw[hm,WB (g:=id) λx hx=>lG hσ x (hok x hx)];simp
  |mp es=>exact⟨(VZ.1 hm).1,⟨λx hx=>by exact(aT (by simp) [x.2] ⟨hok x hx,trivial⟩).1,by rw[hm,WB (g:=id) λx hx=>by rw[kD hσ x.2 (hok x hx)];rfl];simp⟩,ih⟩
  |sit s p=>exact⟨(VZ.1 hm).1,hm,ih⟩
theorem EM{m:Nat}{l:List (Nat × AV)}:∀r:List (Nat × AV),FgA m l r->TWA (List.range' 0 m++[0]) l r
 |[],_=>trivial
 |x::r,⟨⟨a,c⟩,d⟩=>by
  have hσ:∀i,i<m->(List.range' 0 m++[0]).getD i 0=i:=λi hi=>by
   rw[Wp,VY (by simp;exact hi)];simp[hi]
  exact⟨⟨(aT (by simp) [x.2] ⟨a,trivial⟩).1,by rw[kD hσ _ a,c]⟩,EM r d⟩
theorem pt{k n:Nat}{l l1:List (Nat × AV)}{h:List AO}(hk:k<=h.length)(hp:0<h.length)(ho:∀o∈h,okO h.length o)(H:FgA h.length l l1):Wk k (az n l) h (az n l1) (h++[.dead]):=by
 have hσ:∀i,i<h.length->(List.range' 0 h.length++[0]).getD i 0=i:=λi hi=>by
  rw[Wp,VY (by simp;exact hi)];simp[hi]
 refine Iu (List.range' 0 h.length++[0]) (by simp;omega) (λi hi=>hσ i (by omega)) ?_ ?_ (EM _ H)
 ·exact(Dr h 0).1
 ·exact Gt hp ho h 0 (λi=>by simp) (by simp)
def be(fns:List Fd):List (List AV):=fns.map λf=>f.cs.map .p
theorem vt(fns:List Fd):∀x∈be fns,ay 0 x:=by
 intro x hx;obtain⟨m,_,rfl⟩:=WC.1 hx;simp
theorem ew{n:Nat}{o:AO}(h:okO 0 o):okO n o:=by
 cases o with
 |dead=>trivial
 |sit=>trivial
 |row sz es=>exact λe he=>aT (WH _) _ (h e he)
 |mp es=>exact λe he=>(aT (WH n) [e.2] ⟨h e he,trivial⟩).1
theorem mz(fns:List Fd)(n:Nat):okO n (bQ 3 (be fns)):=ew (MC (vt fns))
def exR(l:List Ex):List (List AV):=l.map λe=>e.cs.map .p
theorem dY(l:List Ex):∀x∈exR l,ay 0 x:=by
 intro x hx;obtain⟨m,_,rfl⟩:=WC.1 hx;simp
theorem iK{h:List AO}{id:Nat}{l:List Ex}(e:h[id]?=some (bQ 4 (exR l))):View h (slE id 4 (exR l)) (exL l):=by
 have hh:exR l=(l.map Ex.cs).map (·.map .p):=by simp[exR]
 rw[hh] at e⊢
 exact Nt e (λx hx=>by obtain⟨b,_,rfl⟩:=WC.1 hx;exact b.cs_len)
theorem ur{h:List AO}{id sz:Nat}{r0 r1:List AV}{p0 p1:List PV}(he:h[id]?=some (.row sz [r0,r1]))(l0:p0.length=sz)(l1:p1.length=sz)(h0:∀(j:Nat) (q:PV) (a:AV),p0[j]?=some q->r0[j]?=some a->View h a q)(h1:∀(j:Nat) (q:PV) (a:AV),p1[j]?=some q->r1[j]?=some a->View h a q):View h (.sl id sz 0 2) (.lst sz [p0,p1]):=by
 refine View.sl id sz 0 _ [p0,p1] he (by simp) (by simp[l0,l1]) λi j e q e' a a1 a2 a3 a4=>?_
 rw[WT] at a3
 match i,a1,a3 with
 |0,a1,a3=>cases a1;cases a3;exact h0 j q a a2 a4
 |1,a1,a3=>cases a1;cases a3;exact h1 j q a a2 a4
 |i+2,a1,a3=>simp at a1
def smR(l:List Sm):List (List AV):=l.map λs=>s.cs.map .p
theorem dT(l:List Sm):∀x∈smR l,ay 0 x:=by
 intro x hx;obtain⟨m,_,rfl⟩:=WC.1 hx;simp
theorem gt(l:List Sm):(smR l).length=l.length:=by simp[smR]
theorem EB(a b:List Sm):smR (a++b)=smR a++smR b:=by simp[smR]
theorem bB{h:List AO}{id sz:Nat}{r0:List AV}{p0:List PV}(he:h[id]?=some (.row sz [r0]))(l0:p0.length=sz)(h0:∀(j:Nat) (q:PV) (a:AV),p0[j]?=some q->r0[j]?=some a->View h a q):View h (.sl id sz 0 1) (.lst sz [p0]):=by
 refine View.sl id sz 0 _ [p0] he (by simp) (by simp[l0]) λi j e q e' a a1 a2 a3 a4=>?_
 rw[WT] at a3
 match i,a1,a3 with
 |0,a1,a3=>cases a1;cases a3;exact h0 j q a a2 a4
 |i+1,a1,a3=>simp at a1
theorem ig{h:List AO}{o n:Int}{w:List UInt8}{k:List Ex}{K:AV}(hk:View h K (exL k)):∀(j:Nat) (q:PV) (a:AV),(Ex.mk o n w k).cs[j]?=some q->[AV.p (.int .i64 o),.p (.int .i64 n),.p (.str w),K][j]?=some a->View h a q:=by
 intro j q a e1 e2
 have hc:(Ex.mk o n w k).cs=[.int .i64 o,.int .i64 n,.str w,exL k]:=Ex.cs_eq _
 rw[hc] at e1
 match j,e1,e2 with
 |0,e1,e2=>cases e1;cases e2;exact .p _
 |1,e1,e2=>cases e1;cases e2;exact .p _
 |2,e1,e2=>cases e1;cases e2;exact .p _
 |3,e1,e2=>cases e1;cases e2;exact hk
 |j+4,e1,e2=>simp at e1
theorem lE{h:List AO}{id:Nat}{l:List Sm}(e:h[id]?=some (.row 5 (smR l))):View h (.sl id 5 0 l.length) (smL l):=by
 have:=iA (h:=h) (id:=id) (sz:=5) (n:=l.length) (ls:=l.map Sm.cs) (by rw[e,smR];simp) (by simp) (λx hx=>by obtain⟨b,_,rfl⟩:=WC.1 hx;exact b.cs_len)
 exact this
theorem ce{h:List AO}{o:Int}{w:List UInt8}{a:List Ex}{bd el:List Sm}{A B E:AV}(hA:View h A (exL a))(hB:View h B (smL bd))(hE:View h E (smL el)):∀(j:Nat) (q:PV) (x:AV),(Sm.mk o w a bd el).cs[j]?=some q->[AV.p (.int .i64 o),.p (.str w),A,B,E][j]?=some x->View h x q:=by
 intro j q x e1 e2
 have hc:(Sm.mk o w a bd el).cs=[.int .i64 o,.str w,exL a,smL bd,smL el]:=Sm.cs_eq _
 rw[hc] at e1
 match j,e1,e2 with
 |0,e1,e2=>cases e1;cases e2;exact .p _
 |1,e1,e2=>cases e1;cases e2;exact .p _
 |2,e1,e2=>cases e1;cases e2;exact hA
 |3,e1,e2=>cases e1;cases e2;exact hB
 |4,e1,e2=>cases e1;cases e2;exact hE
 |j+5,e1,e2=>simp at e1
theorem gv{n:Nat}:∀o∈([]:List AO),okO n o:=λo h=>by cases h
theorem aC{n:Nat}{a:AO}{l:List AO}(h:okO n a)(r:∀o∈l,okO n o):∀o∈a::l,okO n o:=λo ho=>by
 rcases Wd.1 ho with rfl|ho
 ·exact h
 ·exact r o ho
end
section
variable (G:aK)
theorem cM(n lo hi:Int):VF Tryz.prog G ef [.p (.int .i64 n),.p (.int .i64 lo),.p (.int .i64 hi)] (.p (.bool (inR n lo hi))):=by
 refine AC.go Cm ?_
 by_cases h:lo<=n
 ·simp-implicitDefEqProofs[mP,h,inR]
 ·simp-implicitDefEqProofs[mP,h,inR]
theorem Gr(n:Int):VF Tryz.prog G jt [.p (.int .i64 n)] (.p (.bool (inR n 0 255))):=by
 refine AC.go Cu ?_
 simp-implicitDefEqProofs[sy]
 refine(cM G _ _ _).use ?_
 simp-implicitDefEqProofs[]
theorem GX(n:Int):VF Tryz.prog G dc [.p (.int .i32 n)] (.p (.bool (decide (n<97)||decide (122<n)))):=by
 refine AC.go zj ?_
 simp-implicitDefEqProofs[oL]
 by_cases h:n<97
 ·simp-implicitDefEqProofs[h]
 ·simp-implicitDefEqProofs[h]
theorem Pb{s:List UInt8}{i:Nat}(h:i<s.length)(hl:dK s[i]=true):Utf8.decode ⟨⟨s⟩⟩ i=(s[i].toNat,1):=by
 simp only[dK,Wl,decide_eq_true_eq] at hl
 exact decode_ascii ⟨⟨s⟩⟩ i h (by show(s[i]).toNat<128;omega)
theorem Kz{s:List UInt8}{i:Nat}(h:i<s.length)(hl:¬dK s[i]=true):(((Utf8.decode ⟨⟨s⟩⟩ i).1:Int)<97\/122<((Utf8.decode ⟨⟨s⟩⟩ i).1:Int)):=by
 rcases WM s[i].toNat 128 with h1|h1
 ·rw[show Utf8.decode ⟨⟨s⟩⟩ i=(s[i].toNat,1) from decode_ascii ⟨⟨s⟩⟩ i h h1]
  simp[dK] at hl
  simp only
  omega
 ·have:=(decode_high ⟨⟨s⟩⟩ i h h1).1
  omega
theorem ES(s:List UInt8)(hb:s.length<=140737488355328):VF Tryz.prog G fH [.p (.str s),.fn (.func dc) [],.p (.bool true)] (.p (.int .i64 (Ed s))):=by
 refine AC.go rG ?_
 simp-implicitDefEqProofs[kq]
 refine aN (λi:Nat=>az 21 [(0,.p (.str s)),(1,.fn (.func dc) []),(2,.p (.bool true)),(10,.it 0)]) (λi=>[.sit s i]) (λi=>i<=s.length/\∀x∈s.take i,dK x=true) (λi=>s.length-i) 0 (by simp) ?_ ?_
 ·exact am (by simp) (by simp[okO]) (by simp[below,ay])
 ·intro i ⟨hi,hn⟩
  simp-implicitDefEqProofs[]
  by_cases h1:i<s.length
  ·have hg:=Wa h1
   simp-implicitDefEqProofs[h1]
   refine(GX G _).use ?_
   by_cases hl:dK s[i]=true
   ·have hd:=Pb h1 hl
    have hl':=hl
    simp only[dK,Wl,decide_eq_true_eq] at hl'
    have e1:¬((s[i].toNat:Int)<97):=by omega
    have e2:¬(122<(s[i].toNat:Int)):=by omega
    rw[hd]
    simp-implicitDefEqProofs[e1,e2]
    refine⟨i+1,⟨h1,λp hp=>?_⟩,by omega,am (by simp) (by simp[okO]) (by simp[below,ay])⟩
    rw[aw h1] at hp
    rcases Wf.1 hp with hp|hp
    ·exact hn p hp
    ·rw[Wh.1 hp];exact hl
   ·have hd:=Kz h1 hl
    have hf:Ed s=i:=by
     have:s.findIdx? (λx=> !dK x)=some i:=by
      rw[Ww]
      exact⟨h1,by simpa using hl,λj hj=>by have:=hn s[j] (List.mem_take_iff_getElem.2 ⟨j,by omega,rfl⟩);simpa using this⟩
     rw[Ed,this]
    have hdb:(decide (((Utf8.decode ⟨⟨s⟩⟩ i).1:Int)<97)||decide (122<((Utf8.decode ⟨⟨s⟩⟩ i).1:Int)))=true:=by
     rcases hd with h|h<;>simp[h]
    rw[hdb]
    simp-implicitDefEqProofs[hf]
  ·have hn':=hn
   rw[Wg (by omega)] at hn'
   have hf:Ed s= -1:=by
    have:s.findIdx? (λx=> !dK x)=none:=by
     rw[WJ];intro x hx;simpa using hn' x hx
    rw[Ed,this]
   simp-implicitDefEqProofs[h1,hf]
theorem EH(s:List UInt8)(hb:s.length<=140737488355328):VF Tryz.prog G fP [.p (.str s),.fn (.func dc) []] (.p (.int .i64 (Ed s))):=by
 refine AC.go rx ?_
 simp-implicitDefEqProofs[kz]
 refine(ES G s hb).use ?_
 simp-implicitDefEqProofs[]
theorem OX(L:List (List UInt8))(s:List UInt8)(hb:L.length<=1048576):VF Tryz.prog G eq [.p (aL L),.p (.str s)] (.p (.int .i64 (idxS L s))):=by
 refine AC.go oQ ?_
 have hsl:aL L= .lst 1 (L.map λw=>[.str w]):=rfl
 simp-implicitDefEqProofs[iU,hsl]
 refine aN (λi:Nat=>az 19 [(0,.p (aL L)),(1,.p (.str s)),(6,.p (aL L)),(7,.p (.int .i64 L.length)),(8,.p (.int .i64 i))]) (λ_=>[]) (λi=>i<=L.length/\∀w∈L.take i,w≠s) (λi=>L.length-i) 0 (by simp) ?_ ?_
 ·exact cy rfl (by simp[below,aL])
 ·intro i ⟨hi,hn⟩
  simp-implicitDefEqProofs[hsl]
  refine aO (λh1=>?_) (λh1=>?_)
  ·simp at h1
   have hg:=Wa h1
   by_cases he:L[i]=s
   ·have hf:idxS L s=i:=by
     have:L.findIdx? (λw=>w==s)=some i:=by
      rw[Ww]
      exact⟨h1,by simpa using he,λj hj=>by have:=hn L[j] (List.mem_take_iff_getElem.2 ⟨j,by omega,rfl⟩);simpa using this⟩
     rw[idxS,this]
    have he':s=L[i]:=he.symm
    simp-implicitDefEqProofs[hg,hf,←he']
   ·have he':¬s=L[i]:=λe=>he e.symm
    simp-implicitDefEqProofs[hg,he']
    refine⟨i+1,⟨h1,λp hp=>?_⟩,by omega,cy rfl ?_⟩
    ·rw[aw h1] at hp
     rcases Wf.1 hp with hp|hp
     ·exact hn p hp
     ·rw[Wh.1 hp];exact he
    ·simp[below,aL,w1 (i:=i) (by omega)]
  ·simp at h1
   rw[Wg h1] at hn
   have hf:idxS L s= -1:=by
    have:L.findIdx? (λw=>w==s)=none:=by
     rw[WJ];intro x hx;simpa using hn x hx
    rw[idxS,this]
   simp-implicitDefEqProofs[hf]
theorem HA(L:List (List UInt8))(s:List UInt8)(hb:L.length<=1048576):VF Tryz.prog G dp [.p (aL L),.p (.str s)] (.p (.bool (L.contains s))):=by
 rw[←LD]
 refine AC.go mA ?_
 simp-implicitDefEqProofs[gh]
 refine(OX G L s hb).use ?_
 simp-implicitDefEqProofs[]
abbrev jl:Nat:=0
def gY:List PV:=keyW.map .str
variable (hK:G jl=some gY)
include hK
theorem pq(s:List UInt8)(hb:s.length<=140737488355328):VF Tryz.prog G cA [.p (.str s)] (.p (.bool (aP s))):=by
 refine AC.go CA ?_
 unfold jl at hK
 simp-implicitDefEqProofs[sn]
 refine(cM G _ _ _).use ?_
 have hr:inR (s.length:Int) 1 4=(decide (0<s.length)&&decide (s.length<=4)):=by
  unfold inR
  by_cases h1:0<s.length<;>by_cases h2:s.length<=4<;>simp[h1,h2]<;>omega
 rw[hr]
 have hi:aP s=((decide (0<s.length)&&decide (s.length<=4))&&(s.all dK&& !keyW.contains s)):=by
  rw[aP];cases s.all dK<;>cases decide (0<s.length)<;>cases decide (s.length<=4)<;>rfl
 cases h1:(decide (0<s.length)&&decide (s.length<=4)) with
 |false=>
  rw[hi,h1]
  simp-implicitDefEqProofs[]
 |true=>
  rw[hi,h1]
  simp-implicitDefEqProofs[]
  refine(EH G s hb).use ?_
  rw[←NX]
  by_cases hn:Ed s<0
  ·simp-implicitDefEqProofs[hn,hK,gY,keyW]
   refine(HA G keyW s (by decide)).use ?_
   simp-implicitDefEqProofs[keyW]
  ·simp-implicitDefEqProofs[hn]
end
section
theorem zh:AK.whole jS=FK.ak jV:=rfl
abbrev dU:Nat:=1
def opK:List PV:=[.int .i64 3,.int .i64 4,.int .i64 5,.int .i64 6,.int .i64 7,.int .i64 8,.int .i64 9,.int .i64 10]
def opV:List (List PV):=[[.str [43],.int .i64 3],[.str [45],.int .i64 3],[.str [42],.int .i64 4],[.str [47],.int .i64 4],[.str [37],.int .i64 4],[.str [60],.int .i64 2],[.str [61],.int .i64 2],[.str [38],.int .i64 1]]
def lvl(op:Int):Int:=if op=10 then 1 else if op=8 then 2 else if op=9 then 2 else if op=3 then 3 else if op=4 then 3 else 4
def sgB(op:Int):UInt8:=if op=3 then 43 else if op=4 then 45 else if op=5 then 42 else if op=6 then 47 else if op=7 then 37 else if op=8 then 60 else if op=9 then 61 else 38
def sgn(op:Int):Option AV:=if 3<=op/\op<=10 then some (.agg [.p (.str [sgB op]),.p (.int .i64 (lvl op))]) else none
theorem Ip(op:Int):(opK.all λk'=>(keq (.int .i64 op) k').isSome)=true:=by simp[opK,keq]
theorem It(op:Int):iu (.int .i64 op) (JS opK opV)=some (sgn op):=by
 by_cases h:3<=op/\op<=10
 ·have h8:op=3\/op=4\/op=5\/op=6\/op=7\/op=8\/op=9\/op=10:=by omega
  rcases h8 with rfl|rfl|rfl|rfl|rfl|rfl|rfl|rfl<;>rfl
 ·have e:sgn op=none:=if_neg h
  have h3:¬op=3:=by omega
  have h4:¬op=4:=by omega
  have h5:¬op=5:=by omega
  have h6:¬op=6:=by omega
  have h7:¬op=7:=by omega
  have h8:¬op=8:=by omega
  have h9:¬op=9:=by omega
  have h10:¬op=10:=by omega
  rw[e]
  simp[opK,opV,JS,iu,keq,h3,h4,h5,h6,h7,h8,h9,h10]
theorem Jc(op:Int):0<lvl op:=by
 unfold lvl
 repeat' split
 all_goals omega
theorem QM(op:Int):lvl op<6:=by
 unfold lvl
 repeat' split
 all_goals omega
def lvI(op:Int):Int:=if 3<=op/\op<=10 then lvl op else if op=11\/op=12 then 5 else 6
mutual
def Ex.deep:Ex->Nat
 | .mk _ _ _ k=>1+nh k
def nh:List Ex->Nat
 |[]=>0
 |e::r=>max e.deep (nh r)
end
theorem Ex.deep_eq(e:Ex):e.deep=1+nh e.kids:=by cases e;rfl
theorem Fg:∀a b:List Ex,nh (a++b)=max (nh a) (nh b)
 |[],b=>by simp[nh]
 |e::r,b=>by rw[WR,nh,nh,Fg r b];omega
mutual
theorem Ex.deep_le:∀e:Ex,e.deep<=e.sz
 | .mk _ _ s k=>by have:=Dy k;simp only[Ex.deep,Ex.sz];omega
theorem Dy:∀l:List Ex,nh l<=aM l
 |[]=>Wn _
 |e::r=>by have:=e.deep_le;have:=Dy r;simp only[nh,aM];omega
end
theorem rc{α:Type}{p:α->Bool}{xs:List α}{i:Nat}{c:α}(h:xs[i]?=some c):(xs.take (i+1)).all p=((xs.take i).all p&&p c):=by
 rw[List.take_add_one,h,List.all_append];simp
def okE(m:Nat)(e:Ex):Bool:=bY m e&&decide (e.parts<=30)
def zn:Nat->Ex->Bool
 |0,_=>false
 |m+1,e=>lC e&&e.kids.all (okE m)
theorem Fz:∀{l:List Ex} {e:Ex},e∈l->e.parts<=gC l
 |x::r,e,h=>by
  simp only[gC]
  rcases Wd.1 h with rfl|h
  ·omega
  ·have:=Fz h;omega
theorem Jy(m:Nat)(e:Ex):(zn m e&&decide (e.parts<=30))=okE m e:=by
 cases m with
 |zero=>simp[zn,okE,bY]
 |succ m=>
  by_cases hp:e.parts<=30
  ·have h2:e.kids.all (okE m)=e.kids.all (bY m):=by
    rw[Bool.eq_iff_iff,Wj,Wj]
    refine⟨λh x hx=>?_,λh x hx=>?_⟩
    ·have:=h x hx;simp only[okE,Wl] at this;exact this.1
    ·have h1:=h x hx
     have:=Fz hx
     have:=e.parts_eq
     simp only[okE,h1,Bool.true_and]
     simp;omega
   simp[zn,okE,bY,h2]
  ·simp[okE,hp]
theorem Qm(e:Ex):okE 6 e=lV e:=rfl
def szA(m:Nat)(e:Ex):AV:=if zn m e then .tup [.p (.int .i64 e.parts),.p (.int .i64 e.deep),.p (.bool (decide (e.parts<=30)))] else .tup [.p (.int .i64 0),.p (.int .i64 0),.p (.bool false)]
def cr(e:Ex):Bool:=inR e.op 1 13&&(if e.op=1 then inR e.n 0 255&&decide (e.name=[]) else if e.op=2\/e.op=13 then aP e.name&&decide (e.n=0) else true)
def iO(e:Ex):Bool:=(decide (e.op=1\/e.op=2\/e.op=13)||(decide (e.n=0)&&decide (e.name=[])))&&inR e.kids.length (loK e.op) (hiK e.op)
theorem sC:aP []=false:=rfl
theorem FP(e:Ex):lC e=(cr e&&iO e):=by
 unfold lC cr iO FY
 by_cases h1:e.op=1
 ·simp only[h1]
  cases inR (e.kids.length:Int) (loK 1:Nat) (hiK 1:Nat)<;>by_cases hn:e.name=[]<;>cases h2:inR e.n 0 255<;>simp[hn,sC,inR]
 by_cases h2:e.op=2
 ·simp only[h2]
  cases inR (e.kids.length:Int) (loK 2:Nat) (hiK 2:Nat)<;>cases hi:aP e.name<;>by_cases hn:e.n=0<;>simp[hn,inR]
 by_cases h3:e.op=13
 ·simp only[h3]
  cases inR (e.kids.length:Int) (loK 13:Nat) (hiK 13:Nat)<;>cases hi:aP e.name<;>by_cases hn:e.n=0<;>simp[hn,inR]
 ·cases inR e.op 1 13<;>cases inR (e.kids.length:Int) (loK e.op:Nat) (hiK e.op:Nat)<;>by_cases hn:e.n=0<;>by_cases hm:e.name=[]<;>simp[h1,h2,h3,hn,hm,sC,inR]
variable (G:aK) (hK:G jl=some gY) (hS:G dU=some [.tbl opK opV])
include hS
theorem KQ(op:Int):VF Tryz.prog G lL [.p (.int .i64 op)] (.p (.int .i64 (lvI op))):=by
 refine AC.go Ao ?_
 have hall:=Ip op
 have hget:=It op
 have hS':=hS
 unfold dU at hS'
 have hlp:=Jc op
 by_cases h:3<=op/\op<=10
 ·have e:sgn op=some (.agg [.p (.str [sgB op]),.p (.int .i64 (lvl op))]):=if_pos h
  have e2:lvI op=lvl op:=if_pos h
  rw[e2]
  generalize lvl op=L at*
  simp-implicitDefEqProofs[eL,hS',hall,hget,e,hlp]
 ·have e:sgn op=none:=if_neg h
  by_cases h11:op=11
  ·subst h11;simp-implicitDefEqProofs[eL,hS',hall,hget,e,lvI]
  by_cases h12:op=12
  ·subst h12;simp-implicitDefEqProofs[eL,hS',hall,hget,e,lvI]
  have e2:lvI op=6:=by rw[lvI,if_neg h,if_neg (by simp[h11,h12])]
  simp-implicitDefEqProofs[eL,hS',hall,hget,e,e2,h11,h12]
include hK
theorem GL:∀(m:Nat) (e:Ex),e.sz<=1073741824->m<=100->VF Tryz.prog G gu [.agg (e.cs.map .p),.p (.int .i64 m)] (szA m e):=by
 intro m
 induction m using Nat.strongRecOn with
 |_ m ih=>
 intro e he hm
 have hec:=e.cs_eq
 have hsz:=e.sz_eq
 have hkl:=bK e.kids
 have hS':=hS
 unfold dU at hS'
 have hall:=Ip e.op
 have hget:=It e.op
 have hxl:exL e.kids= .lst 4 (e.kids.map Ex.cs):=rfl
 have hbad:(cr e&&iO e&&decide (1<=m))=false->szA m e= .tup [.p (.int .i64 0),.p (.int .i64 0),.p (.bool false)]:=by
  intro h
  have:zn m e=false:=by
   cases m with
   |zero=>rfl
   |succ m=>rw[zn,FP];simp at h;cases h1:cr e<;>cases h2:iO e<;>simp[h1,h2] at h⊢
  rw[szA,this];rfl
 have hb1:cr e=false->szA m e= .tup [.p (.int .i64 0),.p (.int .i64 0),.p (.bool false)]:=λh=>hbad (by rw[h];rfl)
 refine AC.goK zz zh ?_
 simp-implicitDefEqProofs[jS,jV,hec]
 refine lT (λ_:Unit=>az 127 [(1,.p (.int .i64 m)),(2,.ptr 0 4 0 0),(7,.p (.int .i64 (loK e.op))),(8,.p (.int .i64 (hiK e.op)))]) (λ_=>[.row 4 [[.p (.int .i64 e.op),.p (.int .i64 e.n),.p (.str e.name),.p (exL e.kids)]]]) (λ_=>cr e=true) ?_ ?_
 ·have fin:∀(r1:List (Nat × AV)),Aw.look r1 1= .p (.int .i64 m)->Aw.look r1 2= .ptr 0 4 0 0->Aw.look r1 7= .p (.int .i64 (loK e.op))->Aw.look r1 8= .p (.int .i64 (hiK e.op))->
   Wk 0 (az 127 r1) [.row 4 [[.p (.int .i64 e.op),.p (.int .i64 e.n),.p (.str e.name),.p (exL e.kids)]]] (az 127 [(1,.p (.int .i64 m)),(2,.ptr 0 4 0 0),(7,.p (.int .i64 (loK e.op))),(8,.p (.int .i64 (hiK e.op)))]) [.row 4 [[.p (.int .i64 e.op),.p (.int .i64 e.n),.p (.str e.name),.p (exL e.kids)]]]:=λr1 a b c d=>
   am (by simp) (by simp[okO,below]) (by simp[below,a,b,c,d])
  have hop1:inR (1:Int) 1 13=true:=rfl
  have hop2:inR (2:Int) 1 13=true:=rfl
  have hop13:inR (13:Int) 1 13=true:=rfl
  by_cases o1:e.op=1
  ·rw[o1] at fin⊢
   simp-implicitDefEqProofs[o1]
   refine(Gr G _).use ?_
   by_cases h1:inR e.n 0 255=true
   ·by_cases h2:e.name=[]
    ·have hp:cr e=true:=by simp[cr,o1,h1,h2,hop1]
     rw[h2] at fin
     simp-implicitDefEqProofs[h1,h2,hp]
     exact fin _ (by simp) (by simp) (by simp[loK]) (by simp[hiK])
    ·have hp:cr e=false:=by simp[cr,o1,h1,h2,hop1]
     rw[hb1 hp]
     simp-implicitDefEqProofs[h1,h2]
   ·have hp:cr e=false:=by simp[cr,o1,h1,hop1]
    rw[hb1 hp]
    simp-implicitDefEqProofs[h1]
  by_cases o2:e.op=2
  ·rw[o2] at fin⊢
   simp-implicitDefEqProofs[o2]
   refine(pq G hK _ (by omega)).use ?_
   by_cases h1:aP e.name=true
   ·by_cases h2:e.n=0
    ·have hp:cr e=true:=by simp[cr,o2,h1,h2,hop2]
     rw[h2] at fin
     simp-implicitDefEqProofs[h1,h2,hp]
     exact fin _ (by simp) (by simp) (by simp[loK]) (by simp[hiK])
    ·have hp:cr e=false:=by simp[cr,o2,h1,h2,hop2]
     rw[hb1 hp]
     simp-implicitDefEqProofs[h1,h2]
   ·have hp:cr e=false:=by simp[cr,o2,h1,hop2]
    rw[hb1 hp]
    simp-implicitDefEqProofs[h1]
  by_cases o13:e.op=13
  ·rw[o13] at fin⊢
   simp-implicitDefEqProofs[o13]
   refine(pq G hK _ (by omega)).use ?_
   by_cases h1:aP e.name=true
   ·by_cases h2:e.n=0
    ·have hp:cr e=true:=by simp[cr,o13,h1,h2,hop13]
     rw[h2] at fin
     simp-implicitDefEqProofs[h1,h2,hp]
     exact fin _ (by simp) (by simp) (by simp[loK]) (by simp[hiK])
    ·have hp:cr e=false:=by simp[cr,o13,h1,h2,hop13]
     rw[hb1 hp]
     simp-implicitDefEqProofs[h1,h2]
   ·have hp:cr e=false:=by simp[cr,o13,h1,hop13]
    rw[hb1 hp]
    simp-implicitDefEqProofs[h1]
  have hlp:=Jc e.op
  by_cases h:3<=e.op/\e.op<=10
  ·have es:sgn e.op=some (.agg [.p (.str [sgB e.op]),.p (.int .i64 (lvl e.op))]):=if_pos h
   have hp:cr e=true:=by simp[cr,o1,o2,o13,inR];omega
   have o11:¬e.op=11:=by omega
   have o12:¬e.op=12:=by omega
   have elo:loK e.op=2:=by simp[loK,o1,o2,o11,o12,o13]
   have ehi:hiK e.op=2:=by simp[hiK,o1,o2,o11,o12,o13]
   generalize lvl e.op=L at*
   simp-implicitDefEqProofs[o1,o2,o13,hS',hall,hget,es,hlp,hp]
   exact fin _ (by simp) (by simp) (by simp[elo]) (by simp[ehi])
  have es:sgn e.op=none:=if_neg h
  by_cases o11:e.op=11
  ·have hp:cr e=true:=by simp[cr,o11,inR]
   have elo:loK e.op=1:=by simp[loK,o11]
   have ehi:hiK e.op=1:=by simp[hiK,o11]
   rw[o11] at hall hget es fin
   simp-implicitDefEqProofs[o11,hS',hall,hget,es,hp]
   exact fin _ (by simp) (by simp) (by simp[loK]) (by simp[hiK])
  by_cases o12:e.op=12
  ·have hp:cr e=true:=by simp[cr,o12,inR]
   rw[o12] at hall hget es fin
   simp-implicitDefEqProofs[o12,hS',hall,hget,es,hp]
   exact fin _ (by simp) (by simp) (by simp[loK]) (by simp[hiK])
  ·have hp:cr e=false:=by simp[cr,o1,o2,o13,inR];omega
   rw[hb1 hp]
   simp-implicitDefEqProofs[o1,o2,o13,hS',hall,hget,es,o11,o12]
 intro _ hp
 have hop:1<=e.op/\e.op<=13:=by
  simp only[cr,Wl,inR,decide_eq_true_eq] at hp
  exact hp.1
 have hb2:iO e=false->szA m e= .tup [.p (.int .i64 0),.p (.int .i64 0),.p (.bool false)]:=λh=>hbad (by rw[h];simp)
 have hb3:m<1->szA m e= .tup [.p (.int .i64 0),.p (.int .i64 0),.p (.bool false)]:=by
  intro h
  have hd:decide (1<=m)=false:=by simp;omega
  exact hbad (by rw[hd];simp)
 refine lT (λ_:Unit=>az 127 [(1,.p (.int .i64 m)),(2,.ptr 0 4 0 0)]) (λ_=>[.row 4 [[.p (.int .i64 e.op),.p (.int .i64 e.n),.p (.str e.name),.p (exL e.kids)]]]) (λ_=>iO e=true/\1<=m) ?_ ?_
 ·have fin:∀(r1:List (Nat × AV)),Aw.look r1 1= .p (.int .i64 m)->Aw.look r1 2= .ptr 0 4 0 0->
   Wk 0 (az 127 r1) [.row 4 [[.p (.int .i64 e.op),.p (.int .i64 e.n),.p (.str e.name),.p (exL e.kids)]]] (az 127 [(1,.p (.int .i64 m)),(2,.ptr 0 4 0 0)]) [.row 4 [[.p (.int .i64 e.op),.p (.int .i64 e.n),.p (.str e.name),.p (exL e.kids)]]]:=λr1 a b=>
   am (by simp) (by simp[okO,below]) (by simp[below,a,b])
  simp-implicitDefEqProofs[]
  refine(KQ G hS e.op).use ?_
  by_cases ho:e.op=1\/e.op=2\/e.op=13
  ·have hlv:lvI e.op=6:=by
    rw[lvI,if_neg (by omega),if_neg (by omega)]
   have hd:decide (e.op=1\/e.op=2\/e.op=13)=true:=by simpa using ho
   simp-implicitDefEqProofs[hlv,hxl]
   refine(cM G _ _ _).use ?_
   by_cases hk:inR e.kids.length (loK e.op) (hiK e.op)=true
   ·have hr:iO e=true:=by rw[iO,hd,hk];rfl
    by_cases hm1:m<1
    ·have hm1':(m:Int)<1:=by omega
     rw[hb3 hm1]
     simp-implicitDefEqProofs[hk,hm1']
    ·have hm1':¬(m:Int)<1:=by omega
     have hm2:1<=m:=by omega
     simp-implicitDefEqProofs[hk,hm1',hr,hm2]
     exact fin _ (by simp) (by simp)
   ·have hk':inR e.kids.length (loK e.op) (hiK e.op)=false:=by simpa using hk
    have hr:iO e=false:=by rw[iO,hk',Bool.and_false]
    rw[hb2 hr]
    simp-implicitDefEqProofs[hk']
  ·have hlv:lvI e.op<6:=by
    have:=QM e.op
    unfold lvI
    split
    ·exact this
    ·rw[if_pos (by omega)];omega
   have hd:decide (e.op=1\/e.op=2\/e.op=13)=false:=by simpa using ho
   generalize lvI e.op=L at hlv⊢
   by_cases h1:e.n=0
   ·by_cases h2:e.name=[]
    ·have hz:decide (e.n=0)=true/\decide (e.name=[])=true:=by simp[h1,h2]
     simp-implicitDefEqProofs[hlv,h1,h2,hxl]
     refine(cM G _ _ _).use ?_
     rw[h1,h2] at fin
     by_cases hk:inR e.kids.length (loK e.op) (hiK e.op)=true
     ·have hr:iO e=true:=by rw[iO,hd,hk,hz.1,hz.2];rfl
      by_cases hm1:m<1
      ·have hm1':(m:Int)<1:=by omega
       rw[hb3 hm1]
       simp-implicitDefEqProofs[hk,hm1']
      ·have hm1':¬(m:Int)<1:=by omega
       have hm2:1<=m:=by omega
       simp-implicitDefEqProofs[hk,hm1',hr,hm2]
       exact fin _ (by simp) (by simp)
     ·have hk':inR e.kids.length (loK e.op) (hiK e.op)=false:=by simpa using hk
      have hr:iO e=false:=by rw[iO,hk',Bool.and_false]
      rw[hb2 hr]
      simp-implicitDefEqProofs[hk']
    ·have hr:iO e=false:=by rw[iO,hd];simp[h2]
     rw[hb2 hr]
     simp-implicitDefEqProofs[hlv,h1,h2]
   ·have hr:iO e=false:=by rw[iO,hd];simp[h1]
    rw[hb2 hr]
    simp-implicitDefEqProofs[hlv,h1]
 rintro _ ⟨hr,hm1⟩
 have hhd:lC e=true:=by rw[FP,hp,hr];rfl
 obtain⟨m',rfl⟩:∃m',m=m'+1:=⟨m-1,by omega⟩
 have hszO:zn (m'+1) e=e.kids.all (okE m'):=by rw[zn,hhd];rfl
 have hpe:=e.parts_eq
 have hde:=e.deep_eq
 have hpl:=e.parts_le
 have hwm:IntKind.i64.wrap (((m'+1:Nat):Int)-1)=(m':Int):=by rw[ab (by omega) (by omega)];omega
 simp-implicitDefEqProofs[hxl]
 refine aN (λi:Nat=>az 127 [(1,.p (.int .i64 ((m':Int)+1))),(2,.ptr 0 4 0 0),(9,.p (.int .i64 ((1+gC (e.kids.take i):Nat):Int))),(10,.p (.int .i64 ((1+nh (e.kids.take i):Nat):Int))),(99,.p (exL e.kids)),(100,.p (.int .i64 e.kids.length)),(101,.p (.int .i64 i))])
  (λ_=>[.row 4 [[.p (.int .i64 e.op),.p (.int .i64 e.n),.p (.str e.name),.p (exL e.kids)]]]) (λi=>i<=e.kids.length/\(e.kids.take i).all (okE m')=true) (λi=>e.kids.length-i) 0 (by simp) ?_ ?_
 ·exact am (by simp) (by simp[okO,below]) (by simp[below,hxl,gC,nh])
 rintro i ⟨hi,ha⟩
 have hwm':IntKind.i64.wrap (m':Int)=(m':Int):=ab (by omega) (by omega)
 simp-implicitDefEqProofs[hxl]
 refine aO (λh=>?_) (λh=>?_)
 ·simp at h
  have hg:=Wa h
  have hks:=cJ (Wo h)
  have hkc:=e.kids[i].cs_eq
  have hpt:gC (e.kids.take (i+1))=gC (e.kids.take i)+e.kids[i].parts:=by rw[aw h,jL];simp[gC]
  have hdt:nh (e.kids.take (i+1))=max (nh (e.kids.take i)) e.kids[i].deep:=by rw[aw h,Fg];simp[nh]
  have hpl1:gC (e.kids.take (i+1))<=e.parts:=by
   have:=jL (e.kids.take (i+1)) (e.kids.drop (i+1))
   rw[WI] at this
   omega
  have hok:=Jy m' e.kids[i]
  have hdl:e.kids[i].deep<=e.kids[i].sz:=Ex.deep_le _
  have hdl2:nh (e.kids.take i)<=e.sz:=by
   have h1:=Dy (e.kids.take i)
   have h2:=bH (e.kids.take i) (e.kids.drop i)
   rw[WI] at h2
   omega
  generalize e.kids[i]=c at*
  simp-implicitDefEqProofs[hg,hkc,hwm']
  have hI:=ih m' (by omega) c (by omega) (by omega)
  rw[hkc] at hI
  by_cases ho:okE m' c=true
  ·have h1:zn m' c=true/\c.parts<=30:=by rw[ho] at hok;simpa using hok
   have hA:szA m' c= .tup [.p (.int .i64 c.parts),.p (.int .i64 c.deep),.p (.bool true)]:=by rw[szA,if_pos h1.1];simp[h1.2]
   rw[hA] at hI
   refine hI.use ?_
   have hw1:IntKind.i64.wrap (1+(gC (e.kids.take i):Int)+(c.parts:Int))=((1+gC (e.kids.take (i+1)):Nat):Int):=by rw[ab (by omega) (by omega)];omega
   have hw2:IntKind.i64.wrap ((c.deep:Int)+1)=(c.deep:Int)+1:=ab (by omega) (by omega)
   have hmx:(if 1+(nh (e.kids.take i):Int)<(c.deep:Int)+1 then(c.deep:Int)+1 else 1+(nh (e.kids.take i):Int))=1+(nh (e.kids.take (i+1)):Int):=by
    rw[hdt];split<;>omega
   simp-implicitDefEqProofs[hw1,hw2,hmx]
   refine⟨i+1,⟨h,by rw[←Wj,rc hg,ha,ho];rfl⟩,by omega,?_⟩
   refine di (m:=1) (by omega) (bP rfl rfl (by simp[okO,below])) (by simp[below,hxl,w1 (i:=i) (by omega)])
  ·have hf:e.kids.all (okE m')=false:=List.all_eq_false.2 ⟨c,Wm hg,by simpa using ho⟩
   have hA2:szA (m'+1) e= .tup [.p (.int .i64 0),.p (.int .i64 0),.p (.bool false)]:=by rw[szA,hszO,hf];rfl
   rw[hA2]
   by_cases h1:zn m' c=true
   ·have h2:¬c.parts<=30:=λh2=>ho (by rw[←hok,h1];simpa using h2)
    have hA:szA m' c= .tup [.p (.int .i64 c.parts),.p (.int .i64 c.deep),.p (.bool false)]:=by rw[szA,if_pos h1];simp[h2]
    rw[hA] at hI
    refine hI.use ?_
    simp-implicitDefEqProofs[]
   ·have hA:szA m' c= .tup [.p (.int .i64 0),.p (.int .i64 0),.p (.bool false)]:=by rw[szA,if_neg h1]
    rw[hA] at hI
    refine hI.use ?_
    simp-implicitDefEqProofs[]
 ·simp at h
  rw[Wg h] at ha⊢
  have hA:szA (m'+1) e= .tup [.p (.int .i64 e.parts),.p (.int .i64 e.deep),.p (.bool (decide (e.parts<=30)))]:=by rw[szA,hszO,ha];rfl
  rw[hA,hpe,hde]
  simp-implicitDefEqProofs[]
  omega
theorem FH(e:Ex)(he:e.sz<=1073741824):VF Tryz.prog G fm [.agg (e.cs.map .p)] (.p (.bool (lV e))):=by
 refine AC.go uW ?_
 have hec:=e.cs_eq
 have hx:=GL G hK hS 6 e he (by omega)
 rw[hec] at hx
 simp-implicitDefEqProofs[ng,hec]
 rw[←Qm,←Jy]
 unfold szA at hx
 by_cases h:zn 6 e=true
 ·rw[if_pos h] at hx
  rw[h]
  refine hx.use ?_
  simp-implicitDefEqProofs[]
 ·have h':zn 6 e=false:=by simpa using h
  rw[if_neg h] at hx
  rw[h']
  refine hx.use ?_
  simp-implicitDefEqProofs[]
end
end Go.Proofs.YtghpabfdmbdpfaaGreatDoor
