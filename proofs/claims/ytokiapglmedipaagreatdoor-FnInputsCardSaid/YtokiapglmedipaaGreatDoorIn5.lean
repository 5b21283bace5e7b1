/-
  Contracts and lemmas that the card needs, part 5.
-/
import Derived.Test.YtokiapglmedipaaGreatDoorIn4
import Derived.Laws.RangeAny
import Derived.Laws.RangeString
namespace Go.Proofs.YtokiapglmedipaaGreatDoor
open Go Go.Aw
set_option maxRecDepth 100000
set_option maxHeartbeats 4000000
section
theorem aq{α:Type}{xs:List α}{i:Nat}(h:i<xs.length):xs.take (i+1)=xs.take i++[xs[i]]:=by
 rw[List.take_add_one,UO h];rfl
def uD(l:List Int):PV:= .lst 1 (l.map λn=>[.int .u8 n])
def aO(l:List Int):PV:= .lst 1 (l.map λn=>[.int .i64 n])
def Ur(l:List Int):List (List AV):=l.map λn=>[.p (.int .i64 n)]
def lm(l:List Int):AO:= .row 1 (l.map λn=>[.p (.int .i64 n)])
def aw(l:List (List UInt8)):PV:= .lst 1 (l.map λw=>[.str w])
def TG(l:List (List UInt8)):List (List AV):=l.map λw=>[.p (.str w)]
def cD(l:List (List UInt8)):AO:= .row 1 (l.map λn=>[.p (.str n)])
theorem Jd(l:List Int):∀x∈Ur l,af 0 x:=by
 intro x hx;obtain⟨m,_,rfl⟩:=Vi.1 hx;simp[af,below]
theorem pQ(l:List (List UInt8)):∀x∈TG l,af 0 x:=by
 intro x hx;obtain⟨m,_,rfl⟩:=Vi.1 hx;simp[af,below]
theorem gv{l:List Int}{id:Nat}{h:List AO}(e:h[id]?=some (lm l)):View h (.sl id 1 0 l.length) (aO l):=by
 have:=hZ (h:=h) (id:=id) (sz:=1) (n:=l.length) (ls:=l.map λn=>[.int .i64 n]) (by rw[e,lm];simp) (by simp) (λx hx=>by obtain⟨b,_,rfl⟩:=Vi.1 hx;rfl)
 exact this
theorem gx{l:List (List UInt8)}{id:Nat}{h:List AO}(e:h[id]?=some (cD l)):View h (.sl id 1 0 l.length) (aw l):=by
 have:=hZ (h:=h) (id:=id) (sz:=1) (n:=l.length) (ls:=l.map λn=>[.str n]) (by rw[e,cD];simp) (by simp) (λx hx=>by obtain⟨b,_,rfl⟩:=Vi.1 hx;rfl)
 exact this
end
section
def dF(c:UInt8):Bool:=decide (97<=c.toNat)&&decide (c.toNat<=122)
def keyW:List (List UInt8):=[[102,110],[108,101,116],[115,97,121],[112,117,116],[105,102],[101,108,115,101],[108,111,111,112],[98,97,99,107],[100,111]]
def aH(s:List UInt8):Bool:=s.all dF&&decide (0<s.length)&&decide (s.length<=4)&& !keyW.contains s
def Ar:List UInt8:=[40,41,123,125,59,44,43,45,42,47,37,60,61,38,33,64]
def sY(s:List UInt8)(c:Int):Int:=match s.findIdx? (λx=>(x.toNat:Int)==c) with|some i=>i|none=> -1
def Ek(c:Int):Int:=if 97<=c/\c<=122 then 1 else if 48<=c/\c<=57 then 2 else if 0<=sY Ar c then 3 else if c=32\/c=10 then 4 else 0
theorem MK(x:UInt8):(Ek (x.toNat:Int)=1)↔dF x=true:=by
 have h:(97<=(x.toNat:Int)/\(x.toNat:Int)<=122)↔dF x=true:=by simp[dF];omega
 unfold Ek
 constructor
 ·intro e
  split at e
  ·rename_i h1;exact h.1 h1
  ·repeat' split at e
   all_goals omega
 ·intro e;rw[if_pos (h.2 e)]
def Dz(s:List UInt8):Int:=match s.findIdx? (λx=> !dF x) with|some i=>i|none=> -1
theorem Kq(s:List UInt8):decide (Dz s<0)=s.all dF:=by
 unfold Dz
 cases h:s.findIdx? (λx=> !dF x) with
 |none=>
  rw[Vu] at h
  have:s.all dF=true:=UU.2 λx hx=>by have:=h x hx;simpa using this
  simp[this]
 |some i=>
  rw[Vg] at h
  obtain⟨h1,h2,_⟩:=h
  have:s.all dF=false:=List.all_eq_false.2 ⟨_,Ve h1,by simpa using h2⟩
  rw[this];simp
def idxS(l:List (List UInt8))(s:List UInt8):Int:=match l.findIdx? (λw=>w==s) with|some i=>i|none=> -1
theorem KO(l:List (List UInt8))(s:List UInt8):decide (0<=idxS l s)=l.contains s:=by
 unfold idxS
 cases h:l.findIdx? (λw=>w==s) with
 |none=>
  rw[Vu] at h
  have:l.contains s=false:=by
   cases hc:l.contains s with
   |false=>rfl
   |true=>
    have hm:s∈l:=by simpa using hc
    have:=h s hm
    simp at this
  rw[this];simp
 |some i=>
  rw[Vg] at h
  obtain⟨h1,h2,_⟩:=h
  have:l.contains s=true:=by
   simp only[beq_iff_eq] at h2
   rw[List.contains_iff_mem,←h2];exact Ve h1
  rw[this];simp
variable (G:al)
theorem uQ(s:List UInt8)(c:Int)(hb:s.length<=1048576):VF Tryz.prog G lA [.p (.str s),.p (.int .u8 c)] (.p (.int .i64 (sY s c))):=by
 refine AC.go AT ?_
 simp-implicitDefEqProofs[pn]
 refine aJ (λi:Nat=>ah 18 [(0,.p (.str s)),(1,.p (.int .u8 c)),(5,.p (.int .i64 i))]) (λ_=>[]) (λi=>i<=s.length/\∀x∈s.take i,(x.toNat:Int)≠c) (λi=>s.length-i) 0 (by simp) ?_ ?_
 ·exact bp rfl (by simp[below])
 ·intro i ⟨hi,hn⟩
  simp-implicitDefEqProofs[]
  refine aY (λh1=>?_) (λh1=>?_)
  ·simp at h1
   have hg:=UO h1
   by_cases he:(s[i].toNat:Int)=c
   ·have hf:sY s c=i:=by
     have:s.findIdx? (λx=>(x.toNat:Int)==c)=some i:=by
      rw[Vg]
      exact⟨h1,by simpa using he,λj hj=>by have:=hn s[j] (VV.2 ⟨j,by omega,rfl⟩);simpa using this⟩
     rw[sY,this]
    simp-implicitDefEqProofs[hg,he,hf]
   ·simp-implicitDefEqProofs[hg,he]
    refine⟨i+1,⟨h1,λp hp=>?_⟩,by omega,bp rfl ?_⟩
    ·rw[aq h1] at hp
     rcases UW.1 hp with hp|hp
     ·exact hn p hp
     ·rw[UY.1 hp];exact he
    ·simp[below,w1 (i:=i) (by omega)]
  ·simp at h1
   rw[US h1] at hn
   have hf:sY s c= -1:=by
    have:s.findIdx? (λx=>(x.toNat:Int)==c)=none:=by
     rw[Vu];intro x hx;simpa using hn x hx
    rw[sY,this]
   simp-implicitDefEqProofs[hf]
theorem Jn(c:Int):VF Tryz.prog G kZ [.p (.int .u8 c)] (.p (.int .i64 (Ek c))):=by
 refine AC.go zK ?_
 simp-implicitDefEqProofs[oO]
 unfold Ek
 by_cases h1:97<=c
 ·by_cases h2:c<=122
  ·simp-implicitDefEqProofs[h1,h2]
  ·have h3:¬c<=57:=by omega
   have h4:¬c=32:=by omega
   have h5:¬c=10:=by omega
   have h6:48<=c:=by omega
   simp-implicitDefEqProofs[h1,h2,h3,h6]
   refine(uQ G Ar c (by decide)).use ?_
   generalize sY Ar c=w
   by_cases hf:0<=w
   ·simp-implicitDefEqProofs[hf]
   ·simp-implicitDefEqProofs[hf,h4,h5]
 ·simp-implicitDefEqProofs[h1]
  by_cases h2:48<=c
  ·by_cases h3:c<=57
   ·simp-implicitDefEqProofs[h2,h3]
   ·have h4:¬c=32:=by omega
    have h5:¬c=10:=by omega
    simp-implicitDefEqProofs[h2,h3]
    refine(uQ G Ar c (by decide)).use ?_
    generalize sY Ar c=w
    by_cases hf:0<=w
    ·simp-implicitDefEqProofs[hf]
    ·simp-implicitDefEqProofs[hf,h4,h5]
  ·simp-implicitDefEqProofs[h2]
   refine(uQ G Ar c (by decide)).use ?_
   generalize sY Ar c=w
   by_cases hf:0<=w
   ·simp-implicitDefEqProofs[hf]
   ·by_cases h4:c=32
    ·simp-implicitDefEqProofs[hf,h4]
    ·by_cases h5:c=10
     ·simp-implicitDefEqProofs[hf,h4,h5]
     ·simp-implicitDefEqProofs[hf,h4,h5]
theorem Nx(s:List UInt8)(hb:s.length<=140737488355328):VF Tryz.prog G nq [.p (.str s),.p (.int .i64 1)] (.p (.bool (s.all dF&&decide (0<s.length)))):=by
 refine AC.go Di ?_
 simp-implicitDefEqProofs[tt]
 refine aJ (λi:Nat=>ah 21 [(0,.p (.str s)),(1,.p (.int .i64 1)),(5,.p (.int .i64 i))]) (λ_=>[]) (λi=>i<=s.length/\∀x∈s.take i,dF x=true) (λi=>s.length-i) 0 (by simp) ?_ ?_
 ·exact bp rfl (by simp[below])
 ·intro i ⟨hi,hn⟩
  simp-implicitDefEqProofs[]
  refine aY (λh1=>?_) (λh1=>?_)
  ·simp at h1
   have hg:=UO h1
   simp-implicitDefEqProofs[hg]
   refine(Jn G _).use ?_
   have hcl:=MK s[i]
   by_cases he:dF s[i]=true
   ·have hc:=hcl.2 he
    simp-implicitDefEqProofs[hc]
    refine⟨i+1,⟨h1,λp hp=>?_⟩,by omega,bp rfl ?_⟩
    ·rw[aq h1] at hp
     rcases UW.1 hp with hp|hp
     ·exact hn p hp
     ·rw[UY.1 hp];exact he
    ·simp[below,w1 (i:=i) (by omega)]
   ·have hc:¬Ek (s[i].toNat:Int)=1:=λe=>he (hcl.1 e)
    have ha:s.all dF=false:=List.all_eq_false.2 ⟨_,Ve h1,by simpa using he⟩
    simp-implicitDefEqProofs[hc,ha]
  ·simp at h1
   rw[US h1] at hn
   have ha:s.all dF=true:=UU.2 hn
   simp-implicitDefEqProofs[ha]
theorem Gp:VF Tryz.prog G fW [] (.p (aw keyW)):=by
 have key:AC Tryz.prog G fW [] [] λx h=>x= .ret (.sl 0 1 0 9)/\h=[.row 1 (keyW.map λw=>[.p (.str w)])]:=by
  refine AC.go vY ?_
  simp-implicitDefEqProofs[nV,keyW]
 exact AC.freeze key (.one (hZ (ls:=keyW.map λw=>[.str w]) (by simp) (by simp[keyW]) (by simp)) .nil)
theorem NA(s:List UInt8):VF Tryz.prog G nu [.p (.str s)] (.p (.bool (keyW.contains s))):=by
 refine AC.go Dx ?_
 have hsl:aw keyW= .lst 1 (keyW.map λw=>[.str w]):=rfl
 have hkl:keyW.length=9:=rfl
 simp-implicitDefEqProofs[tC]
 refine(Gp G).use ?_
 simp-implicitDefEqProofs[]
 refine aJ (λi:Nat=>ah 18 [(0,.p (.str s)),(3,.p (aw keyW)),(4,.p (.int .i64 i))]) (λ_=>[]) (λi=>i<=keyW.length/\∀w∈keyW.take i,w≠s) (λi=>keyW.length-i) 0 (by simp) ?_ ?_
 ·exact bp rfl (by simp[below,aw])
 ·intro i ⟨hi,hn⟩
  generalize keyW=L at*
  simp-implicitDefEqProofs[hsl]
  refine aY (λh1=>?_) (λh1=>?_)
  ·simp at h1
   have hg:=UO h1
   by_cases he:L[i]=s
   ·have hm:s∈L:=by rw[←he];exact Ve h1
    simp-implicitDefEqProofs[hg,he,hm]
   ·simp-implicitDefEqProofs[hg,he]
    refine⟨i+1,⟨h1,λp hp=>?_⟩,by omega,bp rfl ?_⟩
    ·rw[aq h1] at hp
     rcases UW.1 hp with hp|hp
     ·exact hn p hp
     ·rw[UY.1 hp];exact he
    ·simp[below,w1 (i:=i) (by omega)]
  ·simp at h1
   rw[US h1] at hn
   have hm:¬s∈L:=λhm=>hn s hm rfl
   simp-implicitDefEqProofs[hm]
theorem sV(s:List UInt8)(hb:s.length<=140737488355328):VF Tryz.prog G cx [.p (.str s)] (.p (.bool (aH s))):=by
 refine AC.go Bg ?_
 simp-implicitDefEqProofs[rJ]
 refine(Nx G s hb).use ?_
 cases h1:(s.all dF&&decide (0<s.length)) with
 |false=>
  have hi:aH s=false:=by rw[aH,h1];rfl
  simp-implicitDefEqProofs[hi]
 |true=>
  by_cases h4:s.length<=4
  ·have h4i:(s.length:Int)<=4:=by omega
   have hi:aH s= !keyW.contains s:=by rw[aH,h1];simp[h4]
   simp-implicitDefEqProofs[h4i]
   refine(NA G s).use ?_
   rw[hi]
   simp-implicitDefEqProofs[]
  ·have h4i:¬(s.length:Int)<=4:=by omega
   have hi:aH s=false:=by rw[aH,h1];simp[h4]
   simp-implicitDefEqProofs[h4i,hi]
end
section
inductive Ex where
 |mk (op n:Int) (name:List UInt8) (kids:List Ex)
inductive Sm where
 |mk (op:Int) (name:List UInt8) (args:List Ex) (body els:List Sm)
structure Fd where (name:List UInt8) (params:List (List UInt8)) (body:List Sm)
def Ex.op:Ex->Int| .mk o _ _ _=>o
def Ex.n:Ex->Int| .mk _ n _ _=>n
def Ex.name:Ex->List UInt8| .mk _ _ s _=>s
def Ex.kids:Ex->List Ex| .mk _ _ _ k=>k
def Sm.op:Sm->Int| .mk o _ _ _ _=>o
def Sm.name:Sm->List UInt8| .mk _ s _ _ _=>s
def Sm.args:Sm->List Ex| .mk _ _ a _ _=>a
def Sm.body:Sm->List Sm| .mk _ _ _ b _=>b
def Sm.els:Sm->List Sm| .mk _ _ _ _ e=>e
mutual
def Ex.cs:Ex->List PV
 | .mk o n s k=>[.int .i64 o,.int .i64 n,.str s,.lst 4 (LB k)]
def LB:List Ex->List (List PV)
 |[]=>[]
 |e::r=>e.cs::LB r
end
mutual
def Sm.cs:Sm->List PV
 | .mk o s a b e=>[.int .i64 o,.str s,.lst 4 (LB a),.lst 5 (KB b),.lst 5 (KB e)]
def KB:List Sm->List (List PV)
 |[]=>[]
 |s::r=>s.cs::KB r
end
theorem zy:∀l:List Ex,LB l=l.map Ex.cs
 |[]=>rfl
 |e::r=>by rw[LB,zy r];rfl
theorem AQ:∀l:List Sm,KB l=l.map Sm.cs
 |[]=>rfl
 |e::r=>by rw[KB,AQ r];rfl
def exL(l:List Ex):PV:= .lst 4 (l.map Ex.cs)
def smL(l:List Sm):PV:= .lst 5 (l.map Sm.cs)
theorem Ex.cs_eq(e:Ex):e.cs=[.int .i64 e.op,.int .i64 e.n,.str e.name,exL e.kids]:=by
 cases e;rw[Ex.cs,zy];rfl
theorem Sm.cs_eq(s:Sm):s.cs=[.int .i64 s.op,.str s.name,exL s.args,smL s.body,smL s.els]:=by
 cases s;rw[Sm.cs,zy,AQ,AQ];rfl
@[simp] theorem Ex.cs_len(e:Ex):e.cs.length=4:=by cases e;rfl
@[simp] theorem Ex.cs_take(e:Ex):List.take 4 (e.cs.map AV.p)=e.cs.map AV.p:=by cases e;rfl
@[simp] theorem Sm.cs_len(s:Sm):s.cs.length=5:=by cases s;rfl
@[simp] theorem Sm.cs_take(s:Sm):List.take 5 (s.cs.map AV.p)=s.cs.map AV.p:=by cases s;rfl
def Fd.cs(f:Fd):List PV:=[.str f.name,aw f.params,smL f.body]
@[simp] theorem Fd.cs_len(f:Fd):f.cs.length=3:=rfl
@[simp] theorem Fd.cs_take(f:Fd):List.take 3 (f.cs.map AV.p)=f.cs.map AV.p:=rfl
def fdL(l:List Fd):PV:= .lst 3 (l.map Fd.cs)
mutual
def Ex.sz:Ex->Nat
 | .mk _ _ s k=>1+s.length+bq k
def bq:List Ex->Nat
 |[]=>0
 |e::r=>e.sz+bq r
end
mutual
def Sm.sz:Sm->Nat
 | .mk _ s a b e=>1+s.length+bq a+aD b+aD e
def aD:List Sm->Nat
 |[]=>0
 |s::r=>s.sz+aD r
end
def Fd.sz(f:Fd):Nat:=1+f.name.length+(f.params.length+(f.params.map List.length).sum)+aD f.body
def aN(l:List Fd):Nat:=(l.map Fd.sz).sum
theorem Ex.sz_eq(e:Ex):e.sz=1+e.name.length+bq e.kids:=by cases e;rfl
theorem Sm.sz_eq(s:Sm):s.sz=1+s.name.length+bq s.args+aD s.body+aD s.els:=by cases s;rfl
theorem eK:∀a b:List Ex,bq (a++b)=bq a+bq b
 |[],b=>by simp[bq]
 |e::r,b=>by simp only[VA,bq,eK r b];omega
theorem bC:∀a b:List Sm,aD (a++b)=aD a+aD b
 |[],b=>by simp[aD]
 |e::r,b=>by simp only[VA,aD,bC r b];omega
theorem bQ:∀{l:List Ex} {e:Ex},e∈l->e.sz<=bq l
 |x::r,e,h=>by
  simp only[bq]
  rcases UX.1 h with rfl|h
  ·omega
  ·have:=bQ h;omega
theorem dP:∀{l:List Sm} {e:Sm},e∈l->e.sz<=aD l
 |x::r,e,h=>by
  simp only[aD]
  rcases UX.1 h with rfl|h
  ·omega
  ·have:=dP h;omega
theorem bB:∀l:List Ex,l.length<=bq l
 |[]=>Vb _
 |e::r=>by have:=bB r;have:=e.sz_eq;simp only[bq,Vh];omega
theorem cr:∀l:List Sm,l.length<=aD l
 |[]=>Vb _
 |e::r=>by have:=cr r;have:=e.sz_eq;simp only[aD,Vh];omega
mutual
def Ex.parts:Ex->Nat
 | .mk _ _ _ k=>1+gz k
def gz:List Ex->Nat
 |[]=>0
 |e::r=>e.parts+gz r
end
theorem Ex.parts_eq(e:Ex):e.parts=1+gz e.kids:=by cases e;rfl
theorem jt:∀a b:List Ex,gz (a++b)=gz a+gz b
 |[],b=>by simp[gz]
 |e::r,b=>by simp only[VA,gz,jt r b];omega
mutual
theorem Ex.parts_le:∀e:Ex,e.parts<=e.sz
 | .mk _ _ s k=>by have:=Dk k;simp only[Ex.parts,Ex.sz];omega
theorem Dk:∀l:List Ex,gz l<=bq l
 |[]=>Vb _
 |e::r=>by have:=e.parts_le;have:=Dk r;simp only[gz,bq];omega
end
mutual
def Sm.cnt:Sm->Nat
 | .mk _ _ _ b e=>1+dQ b+dQ e
def dQ:List Sm->Nat
 |[]=>0
 |s::r=>s.cnt+dQ r
end
theorem Sm.cnt_eq(s:Sm):s.cnt=1+dQ s.body+dQ s.els:=by cases s;rfl
theorem ph:∀a b:List Sm,dQ (a++b)=dQ a+dQ b
 |[],b=>by simp[dQ]
 |e::r,b=>by simp only[VA,dQ,ph r b];omega
mutual
theorem Sm.cnt_le:∀s:Sm,s.cnt<=s.sz
 | .mk _ s a b e=>by have:=pK b;have:=pK e;simp only[Sm.cnt,Sm.sz];omega
theorem pK:∀l:List Sm,dQ l<=aD l
 |[]=>Vb _
 |e::r=>by have:=e.cnt_le;have:=pK r;simp only[dQ,aD];omega
end
def inR(n lo hi:Int):Bool:=decide (lo<=n)&&decide (n<=hi)
def loK(op:Int):Nat:=if op=1\/op=2 then 0 else if op=11\/op=12 then 1 else if op=13 then 0 else 2
def hiK(op:Int):Nat:=if op=1\/op=2 then 0 else if op=11\/op=12 then 1 else if op=13 then 3 else 2
def FU(op:Int):Bool:=decide (op=2)||decide (op=13)
def mZ(e:Ex):Bool:=inR e.op 1 13&&inR e.kids.length (loK e.op) (hiK e.op)&&(FU e.op==aH e.name)&&(FU e.op||decide (e.name=[]))&&inR e.n 0 255&&(decide (e.op=1)||decide (e.n=0))
def cm:Nat->Ex->Bool
 |0,_=>false
 |d+1,e=>mZ e&&e.kids.all (cm d)
def mw(e:Ex):Bool:=cm 6 e&&decide (e.parts<=30)
def gX(op:Int):Nat:=if op=4 then 2 else 1
def cL(op:Int):Bool:=decide (op=1)||decide (op=2)
def jo(s:Sm):Bool:=inR s.op 1 8&&decide (s.args.length=gX s.op)&&(cL s.op==aH s.name)&&(cL s.op||decide (s.name=[]))&&s.args.all mw&&
 (!decide (s.op=8)||(match s.args with|a::_=>decide (a.op=13)|[]=>false))&&(s.els.isEmpty||decide (s.op=5))&&(s.body.isEmpty||decide (s.op=5)||decide (s.op=6))
def az:Nat->Sm->Bool
 |0,_=>false
 |d+1,s=>jo s&&s.body.all (az d)&&s.els.all (az d)
def jA(f:Fd):Bool:=f.params.all aH&&aH f.name&&decide (f.params.length<=3)&&f.body.all (az 4)
def mT(l:List Fd):Nat:=(l.map λf=>dQ f.body).sum
def bt(l:List Fd):Bool:=inR l.length 1 4&&l.all jA&&decide (mT l<=40)
end
section
theorem eE{s:Bool}{h:List AO}{vs:List AV}{q:PV}{I:List Nat}(H:OwnL s h vs [q] I):∃v,vs=[v]:=by
 have:=H.len
 match vs,this with
 |[v],_=>exact⟨v,rfl⟩
theorem NP{s:Bool}{h:List AO}{vs:List AV}{q r:PV}{I:List Nat}(H:OwnL s h vs [q,r] I):∃a b,vs=[a,b]:=by
 have:=H.len
 match vs,this with
 |[a,b],_=>exact⟨a,b,rfl⟩
theorem Jo{s:Bool}{h:List AO}{vs:List AV}{q r t:PV}{I:List Nat}(H:OwnL s h vs [q,r,t] I):∃a b c,vs=[a,b,c]:=by
 have:=H.len
 match vs,this with
 |[a,b,c],_=>exact⟨a,b,c,rfl⟩
theorem GR{s:Bool}{h:List AO}{vs:List AV}{e:Ex}{I:List Nat}(H:OwnL s h vs e.cs I):∃K,vs=[.p (.int .i64 e.op),.p (.int .i64 e.n),.p (.str e.name),K]/\OwnL s h [K] [exL e.kids] I:=by
 rw[e.cs_eq] at H
 cases H with
 |p _ _ H=>
  cases H with
  |p _ _ H=>
   cases H with
   |p _ _ H=>
    obtain⟨v,rfl⟩:=eE H
    exact⟨v,rfl,H⟩
theorem JO{s:Bool}{h:List AO}{o n:Int}{w:List UInt8}{k:List Ex}{K:AV}{I:List Nat}(H:OwnL s h [K] [exL k] I):OwnL s h [.p (.int .i64 o),.p (.int .i64 n),.p (.str w),K] (Ex.mk o n w k).cs I:=by
 rw[Ex.cs_eq]
 exact .p _ (λ_=>rfl) (.p _ (λ_=>rfl) (.p _ (λ_=>rfl) H))
theorem OZ{s:Bool}{h:List AO}{vs:List AV}{e:Sm}{I:List Nat}(H:OwnL s h vs e.cs I):∃A B E I1 I2 I3,vs=[.p (.int .i64 e.op),.p (.str e.name),A,B,E]/\I=I1++(I2++I3)/\OwnL s h [A] [exL e.args] I1/\OwnL s h [B] [smL e.body] I2/\OwnL s h [E] [smL e.els] I3:=by
 rw[e.cs_eq] at H
 cases H with
 |p _ _ H=>
  cases H with
  |p _ _ H=>
   obtain⟨A,B,E,rfl⟩:=Jo H
   obtain⟨I1,I',rfl,h1,H⟩:=H.one
   obtain⟨I2,I3,rfl,h2,h3⟩:=H.one
   exact⟨A,B,E,I1,I2,I3,rfl,rfl,h1,h2,h3⟩
theorem Qo{s:Bool}{h:List AO}{o:Int}{w:List UInt8}{a:List Ex}{b e:List Sm}{A B E:AV}{I1 I2 I3:List Nat}(h1:OwnL s h [A] [exL a] I1)(h2:OwnL s h [B] [smL b] I2)(h3:OwnL s h [E] [smL e] I3):
 OwnL s h [.p (.int .i64 o),.p (.str w),A,B,E] (Sm.mk o w a b e).cs (I1++(I2++I3)):=by
 rw[Sm.cs_eq]
 exact .p _ (λ_=>rfl) (.p _ (λ_=>rfl) (h1.app (h2.app h3)))
theorem Qs{s:Bool}{h:List AO}{vs:List AV}{f:Fd}{I:List Nat}(H:OwnL s h vs f.cs I):∃A B I1 I2,vs=[.p (.str f.name),A,B]/\I=I1++I2/\OwnL s h [A] [aw f.params] I1/\OwnL s h [B] [smL f.body] I2:=by
 rw[show f.cs=[.str f.name,aw f.params,smL f.body] from rfl] at H
 cases H with
 |p _ _ H=>
  obtain⟨A,B,rfl⟩:=NP H
  obtain⟨I1,I2,rfl,h1,H⟩:=H.one
  exact⟨A,B,I1,I2,rfl,rfl,h1,H⟩
theorem sG{s:Bool}{h:List AO}{w:List UInt8}{ps:List (List UInt8)}{b:List Sm}{A B:AV}{I1 I2:List Nat}(h1:OwnL s h [A] [aw ps] I1)(h2:OwnL s h [B] [smL b] I2):OwnL s h [.p (.str w),A,B] (Fd.mk w ps b).cs (I1++I2):=
 .p _ (λ_=>rfl) (h1.app h2)
end
section
def Fr(K:List Nat)(h h':List AO):Prop:=h.length<=h'.length/\∀i,i<h.length->i∉K->h'[i]?=h[i]?
theorem Fr.refl(K:List Nat)(h:List AO):Fr K h h:=⟨Vb _,λ_ _ _=>rfl⟩
theorem Fr.more(K:List Nat)(h os:List AO):Fr K h (h++os):=⟨by simp,λi hi _=>UN hi⟩
theorem Fr.trans{K K':List Nat}{h h1 h2:List AO}(a:Fr K h h1)(b:Fr K' h1 h2)(hk:∀i∈K',i∈K\/h.length<=i):Fr K h h2:=
 ⟨Vj a.1 b.1,λi hi hn=>by
   rw[b.2 i (Vm hi a.1) (λhm=>by
    rcases hk i hm with q|q
    ·exact hn q
    ·omega),a.2 i hi hn]⟩
theorem Fr.sub{K K':List Nat}{h h1:List AO}(a:Fr K h h1)(hk:∀i∈K,i∈K'\/h.length<=i):Fr K' h h1:=
 ⟨a.1,λi hi hn=>a.2 i hi λhm=>by
   rcases hk i hm with q|q
   ·exact hn q
   ·omega⟩
theorem Fr.from{K:List Nat}{h os h2:List AO}(a:Fr K (h++os) h2):Fr K h h2:=
 ⟨by have:=a.1;simp at this;omega,λi hi hn=>by rw[a.2 i (by simp;omega) hn,UN hi]⟩
theorem RE(q:PV):(AV.p q).isCell=true:=rfl
theorem SE(a b c d:Nat):(AV.sl a b c d).isCell=true:=rfl
theorem Pv(a b c d:Nat):(AV.ptr a b c d).isCell=true:=rfl
theorem RA(q:PV):(AV.p q).cells=[AV.p q]:=rfl
theorem RD(a b c d:Nat):(AV.sl a b c d).cells=[AV.sl a b c d]:=rfl
theorem Pi(a b c d:Nat):(AV.ptr a b c d).cells=[AV.ptr a b c d]:=rfl
end
section
def TZ(hF:List AO)(n:Nat)(o x y:AO):Prop:=
 (x= .dead/\y=o/\okO n o)\/(x= .dead/\y= .dead)\/(x=o/\y= .dead)\/(x= .dead/\∃sz e e1,o= .row sz [e]/\y= .row sz [e1]/\Fzs hF n e e1)
theorem Dv{hF:List AO}{n:Nat}:∀(h:List AO) (X Y:Nat->AO->AO),(∀i o,h[i]?=some o->TZ hF n o (X i o) (Y i o))->Thn hF n h (h.mapIdx X) (h.mapIdx Y)
 |[],_,_,_=>by rw[List.mapIdx_nil,List.mapIdx_nil];exact .nil
 |o::r,X,Y,H=>by
  rw[List.mapIdx_cons,List.mapIdx_cons]
  have ih:=Dv (hF:=hF) (n:=n) r (λi=>X (i+1)) (λi=>Y (i+1)) λi o h=>H (i+1) o h
  rcases H 0 o rfl with⟨h1,h2,h3⟩|⟨h1,h2⟩|⟨h1,h2⟩|⟨h1,sz,e,e1,rfl,h2,h3⟩
  ·rw[h1,h2];exact .same h3 ih
  ·rw[h1,h2];exact .drop ih
  ·rw[h1,h2];exact .give ih
  ·rw[h1,h2];exact .one h3 ih
end
section
structure LV where (name:List UInt8) (num block:Nat)
structure WS where (vs:List LV) (count:Nat) (code:Int)
def fl(c k:Int):Int:=if c=0 then k else c
theorem zN{c k:Int}(h:c≠0):fl c k=c:=if_neg h
def lkV(vs:List LV)(s:List UInt8):Option LV:=vs.find? λv=>decide (v.name=s)
def bU(fns:List Fd)(s:List UInt8):Option Nat:=fns.findIdx? λf=>decide (f.name=s)
def Ba(fns:List Fd)(j:Nat):Nat:=match fns[j]? with|some f=>f.params.length|none=>0
def ov(vs:List LV)(s:List UInt8)(c:Int):Int:=match lkV vs s with|none=>fl c 3|some _=>c
def me(fns:List Fd)(k:Nat)(s:List UInt8)(n:Nat)(c:Int):Int:=
 match bU fns s with|none=>fl c 4|some j=>if k<=j then fl c 4 else if Ba fns j=n then c else fl c 5
def ke(fns:List Fd)(k:Nat)(vs:List LV)(o:Int)(s:List UInt8)(n:Nat)(c:Int):Int:=
 if o=2 then ov vs s c else if o=13 then me fns k s n c else c
mutual
def ox(fns:List Fd)(k:Nat)(vs:List LV):Ex->Int->Int
 | .mk o _ s ks,c=>bJ fns k vs ks (ke fns k vs o s ks.length c)
def bJ(fns:List Fd)(k:Nat)(vs:List LV):List Ex->Int->Int
 |[],c=>c
 |e::r,c=>bJ fns k vs r (ox fns k vs e c)
end
def vnm(n:Nat):List UInt8:=[118,UInt8.ofNat (97+n%26)]
def AG(vs:List LV)(s:List UInt8):List UInt8:=match lkV vs s with|none=>s|some v=>vnm v.num
mutual
def rnE(vs:List LV):Ex->Ex
 | .mk o n s ks=> .mk o n (if o=2 then AG vs s else s) (kJ vs ks)
def kJ(vs:List LV):List Ex->List Ex
 |[]=>[]
 |e::r=>rnE vs e::kJ vs r
end
def pZ(vs:List LV)(s:List UInt8)(b:Nat)(c:Int):Int:=match lkV vs s with|none=>c|some v=>if v.block=b then fl c 2 else c
def ic(w:WS)(s:List UInt8)(b:Nat):WS:=⟨⟨s,w.count,b⟩::w.vs,w.count+1,pZ w.vs s b w.code⟩
def opW(o:Int)(s:List UInt8)(b:Nat)(w:WS):WS:=if o=1 then ic w s b else if o=2 then⟨w.vs,w.count,ov w.vs s w.code⟩ else w
def opN(o:Int)(s:List UInt8)(w:WS):List UInt8:=if o=1 then vnm w.count else if o=2 then AG w.vs s else s
def WS.back(w:WS)(vs:List LV):WS:=⟨vs,w.count,w.code⟩
mutual
def stW(fns:List Fd)(k b:Nat):Sm->WS->WS
 | .mk o s a bd el,w=>
   let w2:=opW o s b ⟨w.vs,w.count,bJ fns k w.vs a w.code⟩
   let w3:=(bO fns k (b+1) bd w2).back w2.vs
   (bO fns k (b+1) el w3).back w2.vs
def bO(fns:List Fd)(k b:Nat):List Sm->WS->WS
 |[],w=>w
 |s::r,w=>bO fns k b r (stW fns k b s w)
end
def bG(ps:List (List UInt8))(w:WS):WS:=ps.foldl (λw s=>ic w s 0) w
def fnW(fns:List Fd)(k:Nat)(f:Fd):WS:=bO fns k 0 f.body (bG f.params ⟨[],0,if bU fns f.name=some k then 0 else 2⟩)
def iO(fns:List Fd):Nat->List Fd->Int
 |_,[]=>0
 |k,f::r=>if(fnW fns k f).code=0 then iO fns (k+1) r else(fnW fns k f).code
def aG(fns:List Fd):Int:=if bt fns then iO fns 0 fns else 1
abbrev Scp:=List (List UInt8 × Nat)
def dL(m:Scp)(s:List UInt8):Option Nat:=(m.find? λx=>decide (x.1=s)).map (·.2)
def gy:Scp->List UInt8->Nat->Scp
 |[],s,n=>[(s,n)]
 |x::r,s,n=>if x.1=s then(s,n)::r else x::gy r s n
def jP:List Scp->List UInt8->Option Nat
 |[],_=>none
 |m::r,s=>match dL m s with|some n=>some n|none=>jP r s
def gk(fns:List Fd)(k:Nat)(ch:List Scp)(c:Int)(e:Ex):Int:=
 if e.op=2 then(if(jP ch e.name).isSome then c else fl c 3)
 else if e.op=13 then(match bU (fns.take k) e.name with|none=>fl c 4|some j=>if Ba fns j=e.kids.length then c else fl c 5)
 else c
mutual
def Ex.pre:Ex->List Ex
 | .mk o n s ks=> .mk o n s ks::dh ks
def dh:List Ex->List Ex
 |[]=>[]
 |e::r=>e.pre++dh r
end
def Gh(fns:List Fd)(k:Nat)(ch:List Scp)(l:List Ex)(c:Int):Int:=(dh l).foldl (gk fns k ch) c
def opS(o:Int)(s:List UInt8)(m:Scp)(n:Nat):Scp:=if o=1 then gy m s n else m
def opC(o:Int)(s:List UInt8)(m:Scp)(up:List Scp)(c:Int):Int:=
 if o=1 then(if(dL m s).isSome then fl c 2 else c) else if o=2 then(if(jP (m::up) s).isSome then c else fl c 3) else c
mutual
def icS(fns:List Fd)(k:Nat):Sm->Scp->List Scp->Int->Scp × Int
 | .mk o s a bd el,m,up,c=>
   let m2:=opS o s m 0
   let c2:=opC o s m up (Gh fns k (m::up) a c)
   (m2,if o=5\/o=6 then(iC fns k el [] (m2::up) (iC fns k bd [] (m2::up) c2).2).2 else c2)
def iC(fns:List Fd)(k:Nat):List Sm->Scp->List Scp->Int->Scp × Int
 |[],m,_,c=>(m,c)
 |s::r,m,up,c=>iC fns k r (icS fns k s m up c).1 up (icS fns k s m up c).2
end
def jq(ps:List (List UInt8))(m:Scp)(c:Int):Scp × Int:=ps.foldl (λx s=>(gy x.1 s 0,if(dL x.1 s).isSome then fl x.2 2 else x.2)) (m,c)
def icF(fns:List Fd)(k:Nat)(f:Fd)(c:Int):Int:=
 let c1:=if(match bU fns f.name with|some j=>decide (j<k)|none=>true) then fl c 2 else c
 let x:=jq f.params [] c1
 (iC fns k f.body x.1 [] x.2).2
def lz(fns:List Fd):Nat->List Fd->Int->Int
 |_,[],c=>c
 |k,f::r,c=>lz fns (k+1) r (icF fns k f c)
def SR(g:LV->Nat):Nat->List LV->List Scp->Prop
 |_,_,[]=>False
 |b,vs,m::up=>∃v1 v2,vs=v1++v2/\(∀v∈v1,v.block=b)/\(∀s,(lkV v1 s).map g=dL m s)/\match b with
  |0=>v2=[]/\up=[]
  |b+1=>SR g b v2 up
theorem yN(a b:List LV)(s:List UInt8):lkV (a++b) s=match lkV a s with|some v=>some v|none=>lkV b s:=by
 simp only[lkV,List.find?_append]
 cases List.find? (λv=>decide (v.name=s)) a<;>rfl
variable {g:LV->Nat}
theorem SR.blk:∀{b:Nat} {vs:List LV} {ch:List Scp},SR g b vs ch->∀v∈vs,v.block<=b
 |b,_,[],h,v,hv=>by cases b<;>exact False.elim h
 |0,vs,m::up,⟨v1,v2,e,h1,_,h3,_⟩,v,hv=>by
  subst e;subst h3
  rw[VE] at hv
  exact Nat.le_of_eq (h1 v hv)
 |b+1,vs,m::up,⟨v1,v2,e,h1,_,h3⟩,v,hv=>by
  subst e
  rcases UW.1 hv with h|h
  ·exact Nat.le_of_eq (h1 v h)
  ·exact Nat.le_succ_of_le (SR.blk h3 v h)
theorem SR.fnd:∀{b:Nat} {vs:List LV} {ch:List Scp},SR g b vs ch->∀s,(lkV vs s).map g=jP ch s
 |b,_,[],h,s=>by cases b<;>exact False.elim h
 |0,vs,m::up,⟨v1,v2,e,h1,h2,h3,h4⟩,s=>by
  subst e;subst h3;subst h4
  rw[VE,h2,jP]
  cases dL m s<;>rfl
 |b+1,vs,m::up,⟨v1,v2,e,h1,h2,h3⟩,s=>by
  subst e
  have ih:=SR.fnd h3 s
  have h2:=h2 s
  rw[yN,jP,←h2]
  cases e1:lkV v1 s with
  |some v=>rfl
  |none=>exact ih
theorem SR.is{b:Nat}{vs:List LV}{ch:List Scp}(h:SR g b vs ch)(s:List UInt8):(lkV vs s).isSome=(jP ch s).isSome:=by rw[←h.fnd s,Option.isSome_map]
theorem yO{vs:List LV}{s:List UInt8}{v:LV}(h:lkV vs s=some v):v∈vs:=List.mem_of_find?_eq_some h
theorem SR.put:∀{b:Nat} {vs:List LV} {m:Scp} {up:List Scp},SR g b vs (m::up)->∀(s:List UInt8) (c:Int),pZ vs s b c=if(dL m s).isSome then fl c 2 else c:=by
 intro b vs m up h s c
 have key:∀v1 v2:List LV,(∀v∈v1,v.block=b)->(lkV v1 s).map g=dL m s->(∀v∈v2,v.block≠b)->pZ (v1++v2) s b c=if(dL m s).isSome then fl c 2 else c:=by
  intro v1 v2 h1 h2 h3
  rw[←h2,pZ,yN]
  cases e1:lkV v1 s with
  |some v=>simp[h1 v (yO e1)]
  |none=>
   cases e2:lkV v2 s with
   |none=>rfl
   |some v=>simp[h3 v (yO e2)]
 match b,h with
 |0,⟨v1,v2,e,h1,h2,h3,_⟩=>subst e;subst h3;exact key v1 [] h1 (h2 s) (λv hv=>by simp at hv)
 |b+1,⟨v1,v2,e,h1,h2,h3⟩=>subst e;exact key v1 v2 h1 (h2 s) (λv hv e=>by have:=h3.blk v hv;omega)
theorem Fs:∀(m:Scp) (s:List UInt8) (n:Nat) (t:List UInt8),dL (gy m s n) t=if s=t then some n else dL m t
 |[],s,n,t=>by
  by_cases h:s=t
  ·simp[gy,dL,h]
  ·simp[gy,dL,h]
 |x::r,s,n,t=>by
  have ih:=Fs r s n t
  simp only[dL] at ih
  by_cases hx:x.1=s
  ·by_cases h:s=t
   ·simp[gy,dL,hx,h]
   ·have:¬x.1=t:=by rw[hx];exact h
    simp[gy,dL,hx,h]
  ·by_cases ht:x.1=t
   ·have:¬s=t:=λe=>hx (ht.trans e.symm)
    rw[gy,if_neg hx,if_neg this];simp[dL,ht]
   ·simp only[gy,dL,if_neg hx,List.find?_cons,ht,decide_false]
    exact ih
theorem SR.add{b:Nat}{vs:List LV}{m:Scp}{up:List Scp}(h:SR g b vs (m::up))(s:List UInt8)(n k:Nat)(hg:g ⟨s,n,b⟩=k):SR g b (⟨s,n,b⟩::vs) (gy m s k::up):=by
 have key:∀v1:List LV,(∀s,(lkV v1 s).map g=dL m s)->∀t,(lkV (⟨s,n,b⟩::v1) t).map g=dL (gy m s k) t:=by
  intro v1 h2 t
  rw[Fs]
  by_cases e:s=t
  ·simp[lkV,e,←hg]
  ·rw[if_neg e,←h2 t];simp[lkV,e]
 match b,h with
 |0,⟨v1,v2,e,h1,h2,h3⟩=>
  subst e
  refine⟨⟨s,n,0⟩::v1,v2,rfl,λv hv=>?_,key v1 h2,h3⟩
  rcases UX.1 hv with rfl|hv
  ·rfl
  ·exact h1 v hv
 |b+1,⟨v1,v2,e,h1,h2,h3⟩=>
  subst e
  refine⟨⟨s,n,b+1⟩::v1,v2,rfl,λv hv=>?_,key v1 h2,h3⟩
  rcases UX.1 hv with rfl|hv
  ·rfl
  ·exact h1 v hv
theorem SR.open{b:Nat}{vs:List LV}{ch:List Scp}(h:SR g b vs ch):SR g (b+1) vs ([]::ch):=⟨[],vs,rfl,λv hv=>by simp at hv,λs=>rfl,h⟩
theorem SR.base:SR g 0 [] [[]]:=⟨[],[],rfl,λv hv=>by simp at hv,λs=>rfl,rfl,rfl⟩
theorem CN{α:Type}{p:α->Bool}{l:List α}{k:Nat}:(l.take k).findIdx? p=match l.findIdx? p with|some j=>if j<k then some j else none|none=>none:=by
 cases h:l.findIdx? p with
 |none=>
  rw[Vu] at h⊢
  exact λx hx=>h x (VB hx)
 |some j=>
  rw[Vg] at h
  obtain⟨h1,h2,h3⟩:=h
  simp only
  split
  ·rename_i hj
   rw[Vg]
   exact⟨by rw[Vl];omega,by rw[List.getElem_take];exact h2,λi hi=>by rw[List.getElem_take];exact h3 i hi⟩
  ·rename_i hj
   rw[Vu]
   intro x hx
   obtain⟨i,hi,rfl⟩:=VV.1 hx
   simpa using h3 i (by omega)
theorem LR(fns:List Fd)(k:Nat){vs:List LV}{ch:List Scp}(h:∀s,(lkV vs s).isSome=(jP ch s).isSome)(e:Ex)(c:Int):ke fns k vs e.op e.name e.kids.length c=gk fns k ch c e:=by
 unfold ke gk
 split
 ·rw[←h,ov];cases lkV vs e.name<;>rfl
 ·split
  ·rw[me,bU,bU,CN]
   cases List.findIdx? (λf=>decide (f.name=e.name)) fns with
   |none=>rfl
   |some j=>
    simp only
    by_cases hj:j<k
    ·rw[if_neg (by omega),if_pos hj]
    ·rw[if_pos (by omega),if_neg hj]
  ·rfl
mutual
theorem NK(fns:List Fd)(k:Nat){vs:List LV}{ch:List Scp}(h:∀s,(lkV vs s).isSome=(jP ch s).isSome):∀(e:Ex) (c:Int),ox fns k vs e c=e.pre.foldl (gk fns k ch) c
 | .mk o n s ks,c=>by
   rw[ox,Ex.pre,List.foldl_cons,←zP fns k h ks,←LR fns k h];rfl
theorem zP(fns:List Fd)(k:Nat){vs:List LV}{ch:List Scp}(h:∀s,(lkV vs s).isSome=(jP ch s).isSome):∀(l:List Ex) (c:Int),bJ fns k vs l c=(dh l).foldl (gk fns k ch) c
 |[],c=>rfl
 |e::r,c=>by rw[bJ,dh,List.foldl_append,NK fns k h e,zP fns k h r]
end
abbrev g0:LV->Nat:=λ_=>0
theorem QC{b:Nat}{w:WS}{m:Scp}{up:List Scp}(h:SR g0 b w.vs (m::up))(o:Int)(s:List UInt8):SR g0 b (opW o s b w).vs (opS o s m 0::up)/\(opW o s b w).code=opC o s m up w.code:=by
 unfold opW opS opC
 by_cases h1:o=1
 ·simp only[h1,if_true]
  exact⟨h.add s _ 0 rfl,h.put s _⟩
 ·simp only[if_neg h1]
  split
  ·refine⟨h,?_⟩
   have:=h.is s
   simp only[ov]
   rw[←this]
   cases lkV w.vs s<;>rfl
  ·exact⟨h,rfl⟩
theorem Gs{d:Nat}{o:Int}{s:List UInt8}{a:List Ex}{bd el:List Sm}(h:az (d+1) (.mk o s a bd el)=true):bd.all (az d)=true/\el.all (az d)=true/\(¬(o=5\/o=6)->bd=[]/\el=[]):=by
 simp only[az,jo,Sm.op,Sm.body,Sm.els,Vf,Bool.or_eq_true,decide_eq_true_eq,List.isEmpty_iff] at h
 refine⟨h.1.2,h.2,λhn=>⟨?_,?_⟩⟩
 ·rcases h.1.1.2 with(h|h)|h
  ·exact h
  ·exact absurd (.inl (of_decide_eq_true h)) hn
  ·exact absurd (.inr (of_decide_eq_true h)) hn
 ·rcases h.1.1.1.2 with h|h
  ·exact h
  ·exact absurd (.inl (of_decide_eq_true h)) hn
theorem dw(w:WS)(vs:List LV):(w.back vs).code=w.code:=rfl
theorem Qy(fns:List Fd)(k:Nat):∀(d b:Nat) (l:List Sm),l.all (az d)=true->∀(w:WS) (m:Scp) (up:List Scp),SR g0 b w.vs (m::up)->
 SR g0 b (bO fns k b l w).vs ((iC fns k l m up w.code).1::up)/\(bO fns k b l w).code=(iC fns k l m up w.code).2:=by
 intro d
 induction d with
 |zero=>
  intro b l hl w m up h
  cases l with
  |nil=>exact⟨h,rfl⟩
  |cons s r=>simp[az] at hl
 |succ d ih=>
  have dg:∀(b:Nat) (s:Sm),az (d+1) s=true->∀(w:WS) (m:Scp) (up:List Scp),SR g0 b w.vs (m::up)->
   SR g0 b (stW fns k b s w).vs ((icS fns k s m up w.code).1::up)/\(stW fns k b s w).code=(icS fns k s m up w.code).2:=by
   intro b s hs w m up h
   obtain⟨o,n,a,bd,el⟩:=s
   obtain⟨f1,f2,f3⟩:=Gs hs
   have hc:=zP fns k h.is a w.code
   obtain⟨g1,g2⟩:=QC (w:=⟨w.vs,w.count,bJ fns k w.vs a w.code⟩) h o n
   rw[stW,icS]
   simp only[hc] at g1 g2⊢
   generalize hw2:opW o n b ⟨w.vs,w.count,(dh a).foldl (gk fns k (m::up)) w.code⟩=w2 at*
   refine⟨g1,?_⟩
   rw[dw]
   have g2':w2.code=opC o n m up (Gh fns k (m::up) a w.code):=g2
   rw[←g2']
   by_cases ho:o=5\/o=6
   ·rw[if_pos ho]
    have k1:=ih (b+1) bd f1 w2 [] _ g1.open
    have k2:=ih (b+1) el f2 ((bO fns k (b+1) bd w2).back w2.vs) [] _ g1.open
    rw[k2.2,dw,k1.2]
   ·obtain⟨rfl,rfl⟩:=f3 ho
    rw[if_neg ho]
    simp[bO,WS.back]
  intro b l
  induction l with
  |nil=>intro _ w m up h;exact⟨h,rfl⟩
  |cons s r ihl=>
   intro hl w m up h
   rw[List.all_cons,Vf] at hl
   obtain⟨k1,k2⟩:=dg b s hl.1 w m up h
   have:=ihl hl.2 _ _ up k1
   rw[bO,iC,←k2]
   exact this
theorem CU:∀(ps:List (List UInt8)) (w:WS) (m:Scp),SR g0 0 w.vs [m]->SR g0 0 (bG ps w).vs [(jq ps m w.code).1]/\(bG ps w).code=(jq ps m w.code).2
 |[],w,m,h=>⟨h,rfl⟩
 |s::r,w,m,h=>by
  have hp:=h.put s w.code
  have:=CU r (ic w s 0) (gy m s 0) (h.add s w.count 0 rfl)
  simp only[bG,jq,List.foldl_cons] at this⊢
  rw[←hp]
  exact this
theorem LF{fns:List Fd}{k:Nat}{ch:List Scp}{c:Int}(h:c≠0)(e:Ex):gk fns k ch c e=c:=by
 unfold gk
 simp only[zN h]
 split
 ·split<;>rfl
 ·split
  ·split
   ·rfl
   ·split<;>rfl
  ·rfl
theorem BS{fns:List Fd}{k:Nat}{ch:List Scp}{c:Int}(h:c≠0):∀l:List Ex,l.foldl (gk fns k ch) c=c
 |[]=>rfl
 |e::r=>by rw[List.foldl_cons,LF h,BS h r]
theorem Li{o:Int}{s:List UInt8}{m:Scp}{up:List Scp}{c:Int}(h:c≠0):opC o s m up c=c:=by
 unfold opC
 simp only[zN h]
 split
 ·split<;>rfl
 ·split
  ·split<;>rfl
  ·rfl
mutual
theorem Lx(fns:List Fd)(k:Nat){c:Int}(h:c≠0):∀(s:Sm) (m:Scp) (up:List Scp),(icS fns k s m up c).2=c
 | .mk o s a bd el,m,up=>by
   rw[icS]
   simp only[Gh,BS h,Li h]
   rw[pX fns k h bd,pX fns k h el,ite_self]
theorem pX(fns:List Fd)(k:Nat){c:Int}(h:c≠0):∀(l:List Sm) (m:Scp) (up:List Scp),(iC fns k l m up c).2=c
 |[],m,up=>rfl
 |s::r,m,up=>by rw[iC,Lx fns k h s m up,pX fns k h r]
end
theorem vf{c:Int}(h:c≠0):∀(ps:List (List UInt8)) (m:Scp),(jq ps m c).2=c
 |[],m=>rfl
 |s::r,m=>by
  have:=vf h r (gy m s 0)
  simp only[jq,List.foldl_cons,zN h,ite_self] at this⊢
  exact this
theorem Ms(fns:List Fd)(k:Nat)(f:Fd){c:Int}(h:c≠0):icF fns k f c=c:=by
 simp only[icF,zN h,ite_self]
 rw[vf h,pX fns k h]
theorem Ae(fns:List Fd){c:Int}(h:c≠0):∀(l:List Fd) (k:Nat),lz fns k l c=c
 |[],k=>rfl
 |f::r,k=>by rw[lz,Ms fns k f h,Ae fns h r]
theorem Cp{fns:List Fd}{k:Nat}{f:Fd}(h:fns[k]?=some f):∃j,bU fns f.name=some j/\j<=k:=by
 cases e:bU fns f.name with
 |none=>
  rw[bU,Vu] at e
  have:=e f (UR h)
  simp at this
 |some j=>
  refine⟨j,rfl,?_⟩
  rw[bU,Vg] at e
  obtain⟨h1,h2,h3⟩:=e
  rcases Vx k j with hk|hk
  ·have:=h3 k hk
   obtain⟨a1,a2⟩:=UL.1 h
   rw[a2] at this
   simp at this
  ·exact hk
theorem Sl(fns:List Fd){k:Nat}{f:Fd}(hf:fns[k]?=some f)(hok:jA f=true):(fnW fns k f).code=icF fns k f 0:=by
 obtain⟨j,e1,e2⟩:=Cp hf
 have hb:f.body.all (az 4)=true:=by simp only[jA,Vf] at hok;exact hok.2
 have hc:(if bU fns f.name=some k then(0:Int) else 2)=if(match bU fns f.name with|some j=>decide (j<k)|none=>true) then fl 0 2 else 0:=by
  rw[e1]
  by_cases h:j=k
  ·subst h;simp
  ·have:j<k:=by omega
   simp[h,this,fl]
 obtain⟨p1,p2⟩:=CU f.params ⟨[],0,if bU fns f.name=some k then(0:Int) else 2⟩ [] SR.base
 obtain⟨q1,q2⟩:=Qy fns k 4 0 f.body hb _ _ [] p1
 rw[fnW,q2,p2]
 simp only[icF,←hc]
theorem My(fns:List Fd):∀(l:List Fd) (k:Nat),(∀i,l[i]?=fns[k+i]?)->l.all jA=true->iO fns k l=lz fns k l 0
 |[],k,_,_=>rfl
 |f::r,k,hl,ha=>by
  rw[List.all_cons,Vf] at ha
  have h0:fns[k]?=some f:=by have:=hl 0;simpa using this.symm
  have hr:∀i,r[i]?=fns[k+1+i]?:=λi=>by have:=hl (i+1);rw[Vd] at this;rw[this];congr 1;omega
  rw[iO,lz,Sl fns h0 ha.1]
  split
  ·rename_i e;rw[e];exact My fns r (k+1) hr ha.2
  ·rename_i e;rw[Ae fns e]
theorem Gf(fns:List Fd):aG fns=if bt fns then lz fns 0 fns 0 else 1:=by
 unfold aG
 split
 ·rename_i h
  simp only[bt,Vf] at h
  exact My fns fns 0 (λi=>by rw[VP]) h.1.2
 ·rfl
end
section
mutual
def rnS(fns:List Fd)(k b:Nat):Sm->WS->Sm
 | .mk o s a bd el,w=>
   let w2:=opW o s b ⟨w.vs,w.count,bJ fns k w.vs a w.code⟩
   .mk o (opN o s w) (kJ w.vs a) (iA fns k (b+1) bd w2) (iA fns k (b+1) el ((bO fns k (b+1) bd w2).back w2.vs))
def iA(fns:List Fd)(k b:Nat):List Sm->WS->List Sm
 |[],_=>[]
 |s::r,w=>rnS fns k b s w::iA fns k b r (stW fns k b s w)
end
def nQ:List (List UInt8)->WS->List (List UInt8)
 |[],_=>[]
 |s::r,w=>vnm w.count::nQ r (ic w s 0)
def rnF(fns:List Fd)(k:Nat)(f:Fd):Fd:=
 ⟨f.name,nQ f.params ⟨[],0,if bU fns f.name=some k then 0 else 2⟩,iA fns k 0 f.body (bG f.params ⟨[],0,if bU fns f.name=some k then 0 else 2⟩)⟩
mutual
def IV:Sm->Nat
 | .mk o _ _ bd el=>(if o=1 then 1 else 0)+rY bd+rY el
def rY:List Sm->Nat
 |[]=>0
 |s::r=>IV s+rY r
end
theorem vn(o:Int)(s:List UInt8)(b:Nat)(w:WS):(opW o s b w).count=w.count+if o=1 then 1 else 0:=by
 unfold opW
 split
 ·rfl
 ·split<;>rfl
mutual
theorem Ch(fns:List Fd)(k:Nat):∀(s:Sm) (b:Nat) (w:WS),(stW fns k b s w).count=w.count+IV s
 | .mk o s a bd el,b,w=>by
   rw[stW,IV]
   simp only[WS.back]
   rw[iK fns k el,iK fns k bd,vn];show w.count+_+_+_=_
   omega
theorem iK(fns:List Fd)(k:Nat):∀(l:List Sm) (b:Nat) (w:WS),(bO fns k b l w).count=w.count+rY l
 |[],b,w=>rfl
 |s::r,b,w=>by rw[bO,rY,iK fns k r,Ch fns k s];omega
end
mutual
theorem MW:∀s:Sm,IV s<=s.cnt
 | .mk o s a bd el=>by
   have:=tO bd
   have:=tO el
   simp only[IV,Sm.cnt]
   split<;>omega
theorem tO:∀l:List Sm,rY l<=dQ l
 |[]=>Vb _
 |s::r=>by have:=MW s;have:=tO r;simp only[rY,dQ];omega
end
theorem vt:∀(ps:List (List UInt8)) (w:WS),(bG ps w).count=w.count+ps.length
 |[],w=>rfl
 |s::r,w=>by
  have:=vt r (ic w s 0)
  simp only[bG,List.foldl_cons,Vh] at this⊢
  rw[this];simp only[ic];omega
theorem MT(o:Int)(s:List UInt8)(b:Nat)(w:WS):∃e,(opW o s b w).vs=e++w.vs:=by
 unfold opW
 split
 ·exact⟨[_],rfl⟩
 ·split<;>exact⟨[],rfl⟩
theorem FJ(fns:List Fd)(k b:Nat)(o:Int)(s:List UInt8)(a:List Ex)(bd el:List Sm)(w:WS):(stW fns k b (.mk o s a bd el) w).vs=(opW o s b ⟨w.vs,w.count,bJ fns k w.vs a w.code⟩).vs:=rfl
theorem DV(fns:List Fd)(k:Nat):∀(l:List Sm) (b:Nat) (w:WS),∃e,(bO fns k b l w).vs=e++w.vs
 |[],b,w=>⟨[],rfl⟩
 | .mk o s a bd el::r,b,w=>by
   obtain⟨e1,h1⟩:=DV fns k r b (stW fns k b (.mk o s a bd el) w)
   obtain⟨e2,h2⟩:=MT o s b ⟨w.vs,w.count,bJ fns k w.vs a w.code⟩
   exact⟨e1++e2,by rw[bO,h1,FJ,h2,Vt]⟩
theorem QE{o:Int}{s:List UInt8}{b:Nat}{w:WS}(h:w.vs.length<=w.count):(opW o s b w).vs.length<=(opW o s b w).count:=by
 unfold opW
 split
 ·simp[ic,h]
 ·split<;>exact h
theorem PA(fns:List Fd)(k:Nat){s:Sm}{b:Nat}{w:WS}(h:w.vs.length<=w.count):(stW fns k b s w).vs.length<=(stW fns k b s w).count:=by
 obtain⟨o,n,a,bd,el⟩:=s
 rw[Ch,FJ]
 have:=QE (o:=o) (s:=n) (b:=b) (w:=⟨w.vs,w.count,bJ fns k w.vs a w.code⟩) h
 rw[vn] at this
 simp only[IV]
 simp only at this
 omega
theorem HK(fns:List Fd)(k:Nat):∀{l:List Sm} {b:Nat} {w:WS},w.vs.length<=w.count->(bO fns k b l w).vs.length<=(bO fns k b l w).count
 |[],_,_,h=>h
 |s::r,b,w,h=>HK fns k (l:=r) (PA fns k h)
mutual
def Sm.pre(d:Nat):Sm->List (Sm × Nat)
 | .mk o s a bd el=>(.mk o s a bd el,d)::(bF (d+1) bd++bF (d+1) el)
def bF(d:Nat):List Sm->List (Sm × Nat)
 |[]=>[]
 |s::r=>Sm.pre d s++bF d r
end
theorem Sm.pre_eq(d:Nat)(s:Sm):s.pre d=(s,d)::(bF (d+1) s.body++bF (d+1) s.els):=by cases s;rfl
theorem sL(d:Nat):∀a b:List Sm,bF d (a++b)=bF d a++bF d b
 |[],b=>rfl
 |s::r,b=>by rw[VA,bF,bF,sL d r b,Vt]
theorem Ex.pre_eq(e:Ex):e.pre=e::dh e.kids:=by cases e;rfl
theorem tE:∀a b:List Ex,dh (a++b)=dh a++dh b
 |[],b=>rfl
 |e::r,b=>by rw[VA,dh,dh,tE r b,Vt]
mutual
theorem Sm.pre_len:∀(s:Sm) (d:Nat),(s.pre d).length=s.cnt
 | .mk o s a bd el,d=>by simp only[Sm.pre,Sm.cnt,Vh,Va,lr bd,lr el];omega
theorem lr:∀(l:List Sm) (d:Nat),(bF d l).length=dQ l
 |[],d=>rfl
 |s::r,d=>by simp only[bF,dQ,Va,Sm.pre_len s,lr r]
end
end
section
theorem uY{vs:List LV}{s:List UInt8}{c:Int}(h:c≠0):ov vs s c=c:=by unfold ov;split<;>simp[zN h]
theorem FE{fns:List Fd}{k:Nat}{s:List UInt8}{n:Nat}{c:Int}(h:c≠0):me fns k s n c=c:=by
 unfold me
 simp only[zN h]
 split
 ·rfl
 ·split
  ·rfl
  ·split<;>rfl
theorem GT{fns:List Fd}{k:Nat}{vs:List LV}{o:Int}{s:List UInt8}{n:Nat}{c:Int}(h:c≠0):ke fns k vs o s n c=c:=by
 unfold ke
 rw[uY h,FE h]
 split
 ·rfl
 ·split<;>rfl
mutual
theorem IF(fns:List Fd)(k:Nat)(vs:List LV){c:Int}(h:c≠0):∀e:Ex,ox fns k vs e c=c
 | .mk o n s ks=>by rw[ox,GT h,nw fns k vs h ks]
theorem nw(fns:List Fd)(k:Nat)(vs:List LV){c:Int}(h:c≠0):∀l:List Ex,bJ fns k vs l c=c
 |[]=>rfl
 |e::r=>by rw[bJ,IF fns k vs h e,nw fns k vs h r]
end
theorem gd{fns:List Fd}{k:Nat}{vs:List LV}{l:List Ex}{c:Int}(h:bJ fns k vs l c=0):c=0:=by
 by_cases hc:c=0
 ·exact hc
 ·rw[nw fns k vs hc] at h;exact h
theorem Cl{vs:List LV}{s:List UInt8}{c:Int}(h:ov vs s c=0):c=0/\∃v,lkV vs s=some v:=by
 by_cases hc:c=0
 ·refine⟨hc,?_⟩
  unfold ov at h
  cases e:lkV vs s with
  |some v=>exact⟨v,rfl⟩
  |none=>rw[e] at h;simp[fl,hc] at h
 ·rw[uY hc] at h;exact absurd h hc
theorem Fo{o:Int}{s:List UInt8}{b:Nat}{w:WS}(h:w.code≠0):(opW o s b w).code=w.code:=by
 unfold opW
 split
 ·simp only[ic,pZ,zN h]
  split
  ·rfl
  ·split<;>rfl
 ·split
  ·exact uY h
  ·rfl
mutual
theorem Mp(fns:List Fd)(k:Nat):∀(s:Sm) (b:Nat) (w:WS),w.code≠0->(stW fns k b s w).code=w.code
 | .mk o s a bd el,b,w,h=>by
   have e1:(bJ fns k w.vs a w.code)=w.code:=nw fns k w.vs h a
   have e2:(opW o s b ⟨w.vs,w.count,bJ fns k w.vs a w.code⟩).code=w.code:=by rw[Fo]<;>simp only[e1];exact h
   have e3:=pE fns k bd (b+1) (opW o s b ⟨w.vs,w.count,bJ fns k w.vs a w.code⟩) (by rw[e2];exact h)
   rw[stW,dw,pE fns k el _ _ (by rw[dw,e3,e2];exact h),dw,e3,e2]
theorem pE(fns:List Fd)(k:Nat):∀(l:List Sm) (b:Nat) (w:WS),w.code≠0->(bO fns k b l w).code=w.code
 |[],b,w,h=>rfl
 |s::r,b,w,h=>by
  have e1:=Mp fns k s b w h
  rw[bO,pE fns k r b _ (by rw[e1];exact h),e1]
end
theorem cU{fns:List Fd}{k b:Nat}{l:List Sm}{w:WS}(h:(bO fns k b l w).code=0):w.code=0:=by
 by_cases hc:w.code=0
 ·exact hc
 ·rw[pE fns k l b w hc] at h;exact h
theorem za{o:Int}{s:List UInt8}{b:Nat}{w:WS}(h:(opW o s b w).code=0):w.code=0:=by
 by_cases hc:w.code=0
 ·exact hc
 ·rw[Fo hc] at h;exact h
end
section
theorem oG(fns:List Fd):∀(l:List Fd) (k:Nat),iO fns k l=0↔∀(i:Nat) (f:Fd),l[i]?=some f->(fnW fns (k+i) f).code=0
 |[],k=>by simp[iO]
 |f::r,k=>by
  rw[iO]
  have ih:=oG fns r (k+1)
  constructor
  ·intro h i g hg
   by_cases h0:(fnW fns k f).code=0
   ·rw[if_pos h0] at h
    cases i with
    |zero=>cases hg;exact h0
    |succ i=>have:=ih.1 h i g (by simpa using hg);rwa[show k+(i+1)=k+1+i by omega]
   ·rw[if_neg h0] at h;exact absurd h h0
  ·intro h
   rw[if_pos (by have:=h 0 f rfl;rwa[Nat.add_zero] at this)]
   exact ih.2 λi g hg=>by have:=h (i+1) g (by simpa using hg);rwa[show k+(i+1)=k+1+i by omega] at this
theorem yX(l:List Fd):aG l=0↔bt l=true/\∀(k:Nat) (f:Fd),l[k]?=some f->(fnW l k f).code=0:=by
 unfold aG
 by_cases h:bt l=true
 ·rw[if_pos h,oG];simp[h]
 ·rw[if_neg h];simp[h]
theorem iT(l:List Fd):bt l=true↔(1<=l.length/\l.length<=4)/\(∀f∈l,jA f=true)/\mT l<=40:=by
 simp only[bt,inR,Vf,decide_eq_true_eq,UU]
 constructor
 ·rintro⟨⟨⟨h1,h2⟩,h3⟩,h4⟩;exact⟨⟨by omega,by omega⟩,h3,h4⟩
 ·rintro⟨⟨h1,h2⟩,h3,h4⟩;exact⟨⟨⟨by omega,by omega⟩,h3⟩,h4⟩
def Fd.cut(f:Fd)(n:Nat):Fd:=⟨f.name,f.params,f.body.take n⟩
end
section
abbrev Sc5:=List (List UInt8 × Int)
structure S5 where (left:Nat) (said:List Int) (cells:List Int)
inductive O5 (α:Type) where
 |ok (a:α)
 |st (c:Int)
def bM:Sc5->List UInt8->Option Int
 |[],_=>none
 |x::r,s=>if x.1=s then some x.2 else bM r s
def sset:Sc5->List UInt8->Int->Sc5
 |[],_,_=>[]
 |x::r,s,n=>if x.1=s then(s,n)::r else x::sset r s n
def gE:List Sc5->List UInt8->Option Int
 |[],_=>none
 |m::r,s=>match bM m s with|some n=>some n|none=>gE r s
def gI:List Sc5->List UInt8->Int->List Sc5
 |[],_,_=>[]
 |m::r,s,n=>if(bM m s).isSome then sset m s n::r else m::gI r s n
def tr5(b:Bool):Int:=if b then 1 else 0
def CR(op a b:Int):Option Int:=
 if op=3 then some ((a+b)%256) else if op=4 then some ((a-b+256)%256) else if op=5 then some (a*b%256) else if op=8 then some (tr5 (decide (a<b))) else if op=9 then some (tr5 (decide (a=b)))
 else if b=0 then none else if op=6 then some (a/b) else some (a%b)
def S5.say(s:S5)(n:Int):S5:=⟨s.left,s.said++[n],s.cells⟩
def S5.put(s:S5)(i:Nat)(n:Int):S5:=⟨s.left,s.said,s.cells.set i n⟩
def S5.at_(s:S5)(F:Nat):S5:=⟨F,s.said,s.cells⟩
def V5(n:Int):Prop:=0<=n/\n<=255
inductive J5 where
 |ex (k:Nat) (v:List Sc5) (s:S5) (e:Ex) (s':S5) (r:O5 Int)
 |exs (k:Nat) (v:List Sc5) (s:S5) (es:List Ex) (s':S5) (r:O5 (List Int))
 |cal (k:Nat) (us:List Int) (s:S5) (s':S5) (r:O5 Int)
 |stm (k:Nat) (v:List Sc5) (s:S5) (x:Sm) (v':List Sc5) (s':S5) (r:O5 (Option Int))
 |blk (k:Nat) (v:List Sc5) (s:S5) (xs:List Sm) (v':List Sc5) (s':S5) (r:O5 (Option Int))
 |lp (k:Nat) (v:List Sc5) (s:S5) (x:Sm) (v':List Sc5) (s':S5) (r:O5 (Option Int))
def Gq:O5 (Option Int)->O5 Int
 | .ok (some n)=> .ok n
 | .ok none=> .ok 0
 | .st c=> .st c
inductive Ev (l:List Fd):J5->Prop where
 |num {k v s e}:e.op=1->V5 e.n->Ev l (.ex k v s e s (.ok e.n))
 |var {k v s e n}:e.op=2->gE v e.name=some n->Ev l (.ex k v s e s (.ok n))
 |call {k v s e s1 us j s2 r}:e.op=13->Ev l (.exs k v s e.kids s1 (.ok us))->bU l e.name=some j->j<k->Ev l (.cal j us s1 s2 r)->Ev l (.ex k v s e s2 r)
 |callS {k v s e s1 c}:e.op=13->Ev l (.exs k v s e.kids s1 (.st c))->Ev l (.ex k v s e s1 (.st c))
 |firstS {k v s e a r s1 c}:3<=e.op->e.op<=12->e.kids=a::r->Ev l (.ex k v s a s1 (.st c))->Ev l (.ex k v s e s1 (.st c))
 |and0 {k v s e a b s1}:e.op=10->e.kids=[a,b]->Ev l (.ex k v s a s1 (.ok 0))->Ev l (.ex k v s e s1 (.ok 0))
 |and1 {k v s e a b s1 n s2 m}:e.op=10->e.kids=[a,b]->Ev l (.ex k v s a s1 (.ok n))->n≠0->Ev l (.ex k v s1 b s2 (.ok m))->Ev l (.ex k v s e s2 (.ok (tr5 (decide (m≠0)))))
 |andS {k v s e a b s1 n s2 c}:e.op=10->e.kids=[a,b]->Ev l (.ex k v s a s1 (.ok n))->n≠0->Ev l (.ex k v s1 b s2 (.st c))->Ev l (.ex k v s e s2 (.st c))
 |not {k v s e a s1 n}:e.op=11->e.kids=[a]->Ev l (.ex k v s a s1 (.ok n))->Ev l (.ex k v s e s1 (.ok (tr5 (decide (n=0)))))
 |at_ {k v s e a s1 n m}:e.op=12->e.kids=[a]->Ev l (.ex k v s a s1 (.ok (n:Nat)))->n<16->s1.cells[n]?=some m->Ev l (.ex k v s e s1 (.ok m))
 |atS {k v s e a s1 n}:e.op=12->e.kids=[a]->Ev l (.ex k v s a s1 (.ok n))->16<=n->Ev l (.ex k v s e s1 (.st 2))
 |bin {k v s e a b s1 n s2 m q}:3<=e.op->e.op<=9->e.kids=[a,b]->Ev l (.ex k v s a s1 (.ok n))->Ev l (.ex k v s1 b s2 (.ok m))->CR e.op n m=some q->Ev l (.ex k v s e s2 (.ok q))
 |binS {k v s e a b s1 n s2 c}:3<=e.op->e.op<=9->e.kids=[a,b]->Ev l (.ex k v s a s1 (.ok n))->Ev l (.ex k v s1 b s2 (.st c))->Ev l (.ex k v s e s2 (.st c))
 |binD {k v s e a b s1 n s2 m}:3<=e.op->e.op<=9->e.kids=[a,b]->Ev l (.ex k v s a s1 (.ok n))->Ev l (.ex k v s1 b s2 (.ok m))->CR e.op n m=none->Ev l (.ex k v s e s2 (.st 1))
 |nil {k v s}:Ev l (.exs k v s [] s (.ok []))
 |cons {k v s a r s1 n s2 ns}:Ev l (.ex k v s a s1 (.ok n))->Ev l (.exs k v s1 r s2 (.ok ns))->Ev l (.exs k v s (a::r) s2 (.ok (n::ns)))
 |consS {k v s a r s1 c}:Ev l (.ex k v s a s1 (.st c))->Ev l (.exs k v s (a::r) s1 (.st c))
 |consT {k v s a r s1 n s2 c}:Ev l (.ex k v s a s1 (.ok n))->Ev l (.exs k v s1 r s2 (.st c))->Ev l (.exs k v s (a::r) s2 (.st c))
 |cal {k f us s v' s' r}:l[k]?=some f->f.params.length=us.length->Ev l (.blk k [f.params.zip us] s f.body v' s' r)->Ev l (.cal k us s s' (Gq r))
 |bnil {k v s}:Ev l (.blk k v s [] v s (.ok none))
 |bfuel {k v s x r}:s.left=0->Ev l (.blk k v s (x::r) v s (.st 3))
 |bgo {k v s x r F v1 s1 v2 s2 q}:s.left=F+1->Ev l (.stm k v (s.at_ F) x v1 s1 (.ok none))->Ev l (.blk k v1 s1 r v2 s2 q)->Ev l (.blk k v s (x::r) v2 s2 q)
 |bend {k v s x r F v1 s1 q}:s.left=F+1->Ev l (.stm k v (s.at_ F) x v1 s1 q)->q≠ .ok none->Ev l (.blk k v s (x::r) v1 s1 q)
 |argS {k v s x a r s1 c}:x.op≠6->x.args=a::r->Ev l (.ex k v s a s1 (.st c))->Ev l (.stm k v s x v s1 (.st c))
 |slet {k v s x a s1 n m up}:x.op=1->x.args=[a]->Ev l (.ex k v s a s1 (.ok n))->v=m::up->bM m x.name=none->Ev l (.stm k v s x ((m++[(x.name,n)])::up) s1 (.ok none))
 |sset {k v s x a s1 n}:x.op=2->x.args=[a]->Ev l (.ex k v s a s1 (.ok n))->(gE v x.name).isSome=true->Ev l (.stm k v s x (gI v x.name n) s1 (.ok none))
 |ssay {k v s x a s1 n}:x.op=3->x.args=[a]->Ev l (.ex k v s a s1 (.ok n))->Ev l (.stm k v s x v (s1.say n) (.ok none))
 |sput {k v s x a b s1 n s2 m}:x.op=4->x.args=[a,b]->Ev l (.ex k v s a s1 (.ok (n:Nat)))->Ev l (.ex k v s1 b s2 (.ok m))->n<16->Ev l (.stm k v s x v (s2.put n m) (.ok none))
 |sputC {k v s x a b s1 n s2 m}:x.op=4->x.args=[a,b]->Ev l (.ex k v s a s1 (.ok n))->Ev l (.ex k v s1 b s2 (.ok m))->16<=n->Ev l (.stm k v s x v s2 (.st 2))
 |sputS {k v s x a b s1 n s2 c}:x.op=4->x.args=[a,b]->Ev l (.ex k v s a s1 (.ok n))->Ev l (.ex k v s1 b s2 (.st c))->Ev l (.stm k v s x v s2 (.st c))
 |sif {k v s x a s1 n m v' s2 q}:x.op=5->x.args=[a]->Ev l (.ex k v s a s1 (.ok n))->Ev l (.blk k ([]::v) s1 (if n≠0 then x.body else x.els) (m::v') s2 q)->Ev l (.stm k v s x v' s2 q)
 |sloop {k v s x v' s' q}:x.op=6->Ev l (.lp k v s x v' s' q)->Ev l (.stm k v s x v' s' q)
 |sback {k v s x a s1 n}:x.op=7->x.args=[a]->Ev l (.ex k v s a s1 (.ok n))->Ev l (.stm k v s x v s1 (.ok (some n)))
 |sdo {k v s x a s1 n}:x.op=8->x.args=[a]->Ev l (.ex k v s a s1 (.ok n))->Ev l (.stm k v s x v s1 (.ok none))
 |lpS {k v s x a s1 c}:x.args=[a]->Ev l (.ex k v s a s1 (.st c))->Ev l (.lp k v s x v s1 (.st c))
 |lp0 {k v s x a s1}:x.args=[a]->Ev l (.ex k v s a s1 (.ok 0))->Ev l (.lp k v s x v s1 (.ok none))
 |lpEnd {k v s x a s1 n m v' s2 q}:x.args=[a]->Ev l (.ex k v s a s1 (.ok n))->n≠0->Ev l (.blk k ([]::v) s1 x.body (m::v') s2 q)->q≠ .ok none->Ev l (.lp k v s x v' s2 q)
 |lpFuel {k v s x a s1 n m v' s2}:x.args=[a]->Ev l (.ex k v s a s1 (.ok n))->n≠0->Ev l (.blk k ([]::v) s1 x.body (m::v') s2 (.ok none))->s2.left=0->Ev l (.lp k v s x v' s2 (.st 3))
 |lpGo {k v s x a s1 n m v' s2 F v'' s3 q}:x.args=[a]->Ev l (.ex k v s a s1 (.ok n))->n≠0->Ev l (.blk k ([]::v) s1 x.body (m::v') s2 (.ok none))->s2.left=F+1->Ev l (.lp k v' (s2.at_ F) x v'' s3 q)->Ev l (.lp k v s x v'' s3 q)
end
section
structure G5 (s:S5):Prop where
 len:s.cells.length=16
 cells:∀c∈s.cells,V5 c
 said:∀c∈s.said,V5 c
def GE5(v:List Sc5):Prop:=∀m∈v,∀x∈m,V5 x.2
theorem EK:∀{m:Sc5} {s:List UInt8} {n:Int},bM m s=some n->(s,n)∈m
 |[],_,_,h=>by cases h
 |x::r,s,n,h=>by
  rw[bM] at h
  by_cases e:x.1=s
  ·rw[if_pos e] at h;cases h;subst e;simp
  ·rw[if_neg e] at h;exact VD _ (EK h)
theorem ve:∀{v:List Sc5} {s:List UInt8} {n:Int},GE5 v->gE v s=some n->V5 n
 |[],_,_,_,h=>by cases h
 |m::r,s,n,g,h=>by
  rw[gE] at h
  cases e:bM m s with
  |some q=>
   rw[e] at h;cases h
   exact g m (by simp) _ (EK e)
  |none=>
   rw[e] at h
   exact ve (λm hm=>g m (by simp[hm])) h
theorem Cd:∀{m:Sc5} {s:List UInt8} {n:Int},(∀x∈m,V5 x.2)->V5 n->∀x∈sset m s n,V5 x.2
 |[],_,_,_,_,x,hx=>by cases hx
 |y::r,s,n,g,hn,x,hx=>by
  rw[sset] at hx
  split at hx
  ·rcases UX.1 hx with rfl|hx
   ·exact hn
   ·exact g x (by simp[hx])
  ·rcases UX.1 hx with rfl|hx
   ·exact g x (by simp)
   ·exact Cd (λx hx=>g x (by simp[hx])) hn x hx
theorem BP:∀{v:List Sc5} {s:List UInt8} {n:Int},GE5 v->V5 n->GE5 (gI v s n)
 |[],_,_,g,_=>g
 |m::r,s,n,g,hn=>by
  rw[gI]
  split
  ·intro q hq
   rcases UX.1 hq with rfl|hq
   ·exact Cd (g m (by simp)) hn
   ·exact g q (by simp[hq])
  ·intro q hq
   rcases UX.1 hq with rfl|hq
   ·exact g q (by simp)
   ·exact BP (λm hm=>g m (by simp[hm])) hn q hq
theorem gP(b:Bool):V5 (tr5 b):=by cases b<;>simp[tr5,V5]
theorem BH{op a b n:Int}(ha:V5 a)(hb:V5 b)(h:CR op a b=some n):V5 n:=by
 obtain⟨a0,a1⟩:=ha
 obtain⟨b0,b1⟩:=hb
 unfold CR at h
 split at h
 ·cases h;unfold V5;omega
 split at h
 ·cases h;unfold V5;omega
 split at h
 ·cases h
  have:0<=a*b:=Int.mul_nonneg a0 b0
  unfold V5
  generalize a*b=q at*
  omega
 split at h
 ·cases h;exact gP _
 split at h
 ·cases h;exact gP _
 split at h
 ·cases h
 split at h
 ·cases h
  have h1:0<=a/b:=Int.ediv_nonneg a0 b0
  have h2:a/b<=a:=Int.ediv_le_self b a0
  exact⟨h1,by omega⟩
 ·cases h
  rename_i hb0 _
  have h1:0<=a%b:=Int.emod_nonneg a hb0
  have h2:a%b<b:=Int.emod_lt_of_pos a (by omega)
  exact⟨h1,by omega⟩
theorem G5.say{s:S5}(g:G5 s){n:Int}(hn:V5 n):G5 (s.say n):=⟨g.len,g.cells,λc hc=>by
 rcases UW.1 hc with h|h
 ·exact g.said c h
 ·rw[UY.1 h];exact hn⟩
theorem G5.put{s:S5}(g:G5 s)(i:Nat){n:Int}(hn:V5 n):G5 (s.put i n):=⟨by rw[←g.len];exact Vr,λc hc=>by
 rcases VJ hc with h|h
 ·exact g.cells c h
 ·rw[h];exact hn,g.said⟩
theorem G5.at_{s:S5}(g:G5 s)(F:Nat):G5 (s.at_ F):=⟨g.len,g.cells,g.said⟩
def Uf:J5->Prop
 | .ex _ v s _ _ _=>G5 s/\GE5 v
 | .exs _ v s _ _ _=>G5 s/\GE5 v
 | .cal _ us s _ _=>G5 s/\∀n∈us,V5 n
 | .stm _ v s _ _ _ _=>G5 s/\GE5 v
 | .blk _ v s _ _ _ _=>G5 s/\GE5 v
 | .lp _ v s _ _ _ _=>G5 s/\GE5 v
def Su:J5->Prop
 | .ex _ _ s _ s' r=>G5 s'/\s'.left<=s.left/\∀n,r= .ok n->V5 n
 | .exs _ _ s es s' r=>G5 s'/\s'.left<=s.left/\∀ns,r= .ok ns->ns.length=es.length/\∀n∈ns,V5 n
 | .cal _ _ s s' r=>G5 s'/\s'.left<=s.left/\∀n,r= .ok n->V5 n
 | .stm _ _ s _ v' s' r=>G5 s'/\s'.left<=s.left/\GE5 v'/\∀n,r= .ok (some n)->V5 n
 | .blk _ _ s _ v' s' r=>G5 s'/\s'.left<=s.left/\GE5 v'/\∀n,r= .ok (some n)->V5 n
 | .lp _ _ s _ v' s' r=>G5 s'/\s'.left<=s.left/\GE5 v'/\∀n,r= .ok (some n)->V5 n
theorem GE5.tail{m:Sc5}{v:List Sc5}(g:GE5 (m::v)):GE5 v:=λq hq=>g q (by simp[hq])
theorem GE5.opn{v:List Sc5}(g:GE5 v):GE5 ([]::v):=λq hq=>by
 rcases UX.1 hq with rfl|hq
 ·intro x hx;cases hx
 ·exact g q hq
theorem cW{l:List Fd}{j:J5}(h:Ev l j):Uf j->Su j:=by
 induction h with
 |num _ h=>exact λp=>⟨p.1,Vb _,λn e=>by cases e;exact h⟩
 |var _ h=>exact λp=>⟨p.1,Vb _,λn e=>by cases e;exact ve p.2 h⟩
 |call _ _ _ _ _ i1 i2=>
   intro p
   have a:=i1 p
   have b:=i2 ⟨a.1,(a.2.2 _ rfl).2⟩
   exact⟨b.1,Vj b.2.1 a.2.1,b.2.2⟩
 |callS _ _ i1=>
   intro p
   have a:=i1 p
   exact⟨a.1,a.2.1,λn e=>by cases e⟩
 |firstS _ _ _ _ i1=>
   intro p
   have a:=i1 p
   exact⟨a.1,a.2.1,λn e=>by cases e⟩
 |and0 _ _ _ i1=>
   intro p
   have a:=i1 p
   exact⟨a.1,a.2.1,λn e=>by cases e;exact⟨by omega,by omega⟩⟩
 |and1 _ _ _ _ _ i1 i2=>
   intro p
   have a:=i1 p
   have b:=i2 ⟨a.1,p.2⟩
   exact⟨b.1,Vj b.2.1 a.2.1,λn e=>by cases e;exact gP _⟩
 |andS _ _ _ _ _ i1 i2=>
   intro p
   have a:=i1 p
   have b:=i2 ⟨a.1,p.2⟩
   exact⟨b.1,Vj b.2.1 a.2.1,λn e=>by cases e⟩
 |not _ _ _ i1=>
   intro p
   have a:=i1 p
   exact⟨a.1,a.2.1,λn e=>by cases e;exact gP _⟩
 |at_ _ _ _ _ hm i1=>
   intro p
   have a:=i1 p
   exact⟨a.1,a.2.1,λn e=>by cases e;exact a.1.cells _ (UR hm)⟩
 |atS _ _ _ _ i1=>
   intro p
   have a:=i1 p
   exact⟨a.1,a.2.1,λn e=>by cases e⟩
 |bin _ _ _ _ _ ht i1 i2=>
   intro p
   have a:=i1 p
   have b:=i2 ⟨a.1,p.2⟩
   exact⟨b.1,Vj b.2.1 a.2.1,λn e=>by cases e;exact BH (a.2.2 _ rfl) (b.2.2 _ rfl) ht⟩
 |binS _ _ _ _ _ i1 i2=>
   intro p
   have a:=i1 p
   have b:=i2 ⟨a.1,p.2⟩
   exact⟨b.1,Vj b.2.1 a.2.1,λn e=>by cases e⟩
 |binD _ _ _ _ _ _ i1 i2=>
   intro p
   have a:=i1 p
   have b:=i2 ⟨a.1,p.2⟩
   exact⟨b.1,Vj b.2.1 a.2.1,λn e=>by cases e⟩
 |nil=>exact λp=>⟨p.1,Vb _,λns e=>by cases e;exact⟨rfl,λn h=>by cases h⟩⟩
 |cons _ _ i1 i2=>
   intro p
   have a:=i1 p
   have b:=i2 ⟨a.1,p.2⟩
   refine⟨b.1,Vj b.2.1 a.2.1,λns e=>?_⟩
   cases e
   obtain⟨k1,k2⟩:=b.2.2 _ rfl
   refine⟨by simp[k1],λn hn=>?_⟩
   rcases UX.1 hn with rfl|hn
   ·exact a.2.2 _ rfl
   ·exact k2 n hn
 |consS _ i1=>
   intro p
   have a:=i1 p
   exact⟨a.1,a.2.1,λn e=>by cases e⟩
 |consT _ _ i1 i2=>
   intro p
   have a:=i1 p
   have b:=i2 ⟨a.1,p.2⟩
   exact⟨b.1,Vj b.2.1 a.2.1,λn e=>by cases e⟩
 | @cal k f us s v' s' r _ _ _ i1=>
    intro p
    have a:=i1 ⟨p.1,λm hm x hx=>by
     rw[UY.1 hm] at hx
     exact p.2 _ (List.of_mem_zip hx).2⟩
    refine⟨a.1,a.2.1,λn e=>?_⟩
    match r,e with
    | .ok (some q),e=>cases e;exact a.2.2.2 _ rfl
    | .ok none,e=>cases e;exact⟨by omega,by omega⟩
 |bnil=>exact λp=>⟨p.1,Vb _,p.2,λn e=>by cases e⟩
 |bfuel _=>exact λp=>⟨p.1,Vb _,p.2,λn e=>by cases e⟩
 | @bgo k v s x r F v1 s1 v2 s2 q hF _ _ i1 i2=>
    intro p
    have a:=i1 ⟨p.1.at_ F,p.2⟩
    have b:=i2 ⟨a.1,a.2.2.1⟩
    have h1:s1.left<=F:=a.2.1
    exact⟨b.1,by have:=b.2.1;omega,b.2.2⟩
 | @bend k v s x r F v1 s1 q hF _ _ i1=>
    intro p
    have a:=i1 ⟨p.1.at_ F,p.2⟩
    have h1:s1.left<=F:=a.2.1
    exact⟨a.1,by omega,a.2.2⟩
 |argS _ _ _ i1=>
   intro p
   have a:=i1 p
   exact⟨a.1,a.2.1,p.2,λn e=>by cases e⟩
 | @slet k v s x a s1 n m up _ _ _ hv _ i1=>
    intro p
    have a:=i1 p
    subst hv
    refine⟨a.1,a.2.1,λq hq=>?_,λn e=>by cases e⟩
    rcases UX.1 hq with rfl|hq
    ·intro y hy
     rcases UW.1 hy with h|h
     ·exact p.2 m (by simp) y h
     ·rw[UY.1 h];exact a.2.2 _ rfl
    ·exact p.2 q (by simp[hq])
 |sset _ _ _ _ i1=>
   intro p
   have a:=i1 p
   exact⟨a.1,a.2.1,BP p.2 (a.2.2 _ rfl),λn e=>by cases e⟩
 |ssay _ _ _ i1=>
   intro p
   have a:=i1 p
   exact⟨a.1.say (a.2.2 _ rfl),a.2.1,p.2,λn e=>by cases e⟩
 |sput _ _ _ _ _ i1 i2=>
   intro p
   have a:=i1 p
   have b:=i2 ⟨a.1,p.2⟩
   exact⟨b.1.put _ (b.2.2 _ rfl),Vj b.2.1 a.2.1,p.2,λn e=>by cases e⟩
 |sputC _ _ _ _ _ i1 i2=>
   intro p
   have a:=i1 p
   have b:=i2 ⟨a.1,p.2⟩
   exact⟨b.1,Vj b.2.1 a.2.1,p.2,λn e=>by cases e⟩
 |sputS _ _ _ _ i1 i2=>
   intro p
   have a:=i1 p
   have b:=i2 ⟨a.1,p.2⟩
   exact⟨b.1,Vj b.2.1 a.2.1,p.2,λn e=>by cases e⟩
 |sif _ _ _ _ i1 i2=>
   intro p
   have a:=i1 p
   have b:=i2 ⟨a.1,p.2.opn⟩
   exact⟨b.1,Vj b.2.1 a.2.1,b.2.2.1.tail,b.2.2.2⟩
 |sloop _ _ i1=>exact i1
 |sback _ _ _ i1=>
   intro p
   have a:=i1 p
   exact⟨a.1,a.2.1,p.2,λn e=>by cases e;exact a.2.2 _ rfl⟩
 |sdo _ _ _ i1=>
   intro p
   have a:=i1 p
   exact⟨a.1,a.2.1,p.2,λn e=>by cases e⟩
 |lpS _ _ i1=>
   intro p
   have a:=i1 p
   exact⟨a.1,a.2.1,p.2,λn e=>by cases e⟩
 |lp0 _ _ i1=>
   intro p
   have a:=i1 p
   exact⟨a.1,a.2.1,p.2,λn e=>by cases e⟩
 |lpEnd _ _ _ _ _ i1 i2=>
   intro p
   have a:=i1 p
   have b:=i2 ⟨a.1,p.2.opn⟩
   exact⟨b.1,Vj b.2.1 a.2.1,b.2.2.1.tail,b.2.2.2⟩
 |lpFuel _ _ _ _ _ i1 i2=>
   intro p
   have a:=i1 p
   have b:=i2 ⟨a.1,p.2.opn⟩
   exact⟨b.1,Vj b.2.1 a.2.1,b.2.2.1.tail,λn e=>by cases e⟩
 | @lpGo k v s x a s1 n m v' s2 F v'' s3 q _ _ _ _ hF _ i1 i2 i3=>
    intro p
    have a:=i1 p
    have b:=i2 ⟨a.1,p.2.opn⟩
    have c:=i3 ⟨b.1.at_ F,b.2.2.1.tail⟩
    have h1:s3.left<=F:=c.2.1
    have h2:s2.left<=s1.left:=b.2.1
    have h3:s1.left<=s.left:=a.2.1
    exact⟨c.1,by omega,c.2.2⟩
end
section
def er(m:Sc5):Scp:=m.map λx=>(x.1,0)
def ers(v:List Sc5):List Scp:=v.map er
theorem Du(s:List UInt8):∀m:Sc5,dL (er m) s=(bM m s).map λ_=>0
 |[]=>rfl
 |x::r=>by
  have ih:=Du s r
  simp only[dL,er] at ih
  by_cases h:x.1=s
  ·simp[dL,er,bM,h]
  ·simp only[dL,er,Vn,List.find?_cons,h,decide_false,bM,if_neg h]
   exact ih
theorem Fl(s:List UInt8):∀v:List Sc5,jP (ers v) s=(gE v s).map λ_=>0
 |[]=>rfl
 |m::r=>by
  have ih:=Fl s r
  simp only[ers] at ih
  rw[ers,Vn,jP,gE,Du]
  cases bM m s with
  |some n=>rfl
  |none=>exact ih
theorem Qd{m:Sc5}{s:List UInt8}{n:Int}(h:bM m s=none):er (m++[(s,n)])=gy (er m) s 0:=by
 induction m with
 |nil=>rfl
 |cons x r ih=>
  rw[bM] at h
  by_cases e:x.1=s
  ·rw[if_pos e] at h;cases h
  ·rw[if_neg e] at h
   have ih:=ih h
   simp only[er] at ih
   simp only[er,VA,Vn,gy,if_neg e]
   rw[ih]
theorem LO{s:List UInt8}{n:Int}:∀m:Sc5,er (sset m s n)=er m
 |[]=>rfl
 |x::r=>by
  have ih:=LO (s:=s) (n:=n) r
  simp only[er] at ih
  rw[sset]
  split
  ·rename_i e;simp[er,←e]
  ·simp[er,ih]
theorem Do{s:List UInt8}{n:Int}:∀v:List Sc5,ers (gI v s n)=ers v
 |[]=>rfl
 |m::r=>by
  have ih:=Do (s:=s) (n:=n) r
  rw[gI]
  split
  ·simp only[ers,Vn,LO]
  ·simp only[ers,Vn] at ih⊢
   rw[ih]
theorem zY{v:List Sc5}{m:Sc5}{up:List Sc5}(h:ers v=ers (m::up)):∃m' up',v=m'::up'/\er m'=er m/\ers up'=ers up:=by
 cases v with
 |nil=>simp[ers] at h
 |cons m' up'=>
  simp only[ers,Vn,List.cons.injEq] at h
  exact⟨m',up',rfl,h.1,h.2⟩
def Kn(vs:List LV)(v:List Sc5):Prop:=∀t,(lkV vs t).isSome=(gE v t).isSome
theorem Ma{b:Nat}{vs:List LV}{v:List Sc5}(h:SR g0 b vs (ers v)):Kn vs v:=λt=>by
 rw[h.is t,Fl,Option.isSome_map]
def MQ(l:List Fd)(F:Nat):Prop:=∀(k:Nat) (vs:List LV) (d:Nat) (e:Ex) (v:List Sc5) (s:S5),ox l k vs e 0=0->cm d e=true->Kn vs v->G5 s->GE5 v->s.left<=F->∃s' r,Ev l (.ex k v s e s' r)
def Pz(l:List Fd)(F:Nat):Prop:=∀(j:Nat) (f:Fd) (us:List Int) (s:S5),l[j]?=some f->f.params.length=us.length->G5 s->(∀n∈us,V5 n)->s.left<=F->∃s' r,Ev l (.cal j us s s' r)
def Jy(l:List Fd)(F:Nat):Prop:=∀(k:Nat) (xs:List Sm) (b:Nat) (w:WS) (m:Sc5) (up:List Sc5) (s:S5),(∀x∈xs,∃d,az d x=true)->(bO l k b xs w).code=0->SR g0 b w.vs (ers (m::up))->G5 s->GE5 (m::up)->s.left<=F->
 ∃m' up' s' r,Ev l (.blk k (m::up) s xs (m'::up') s' r)/\ers up'=ers up
def PR(l:List Fd)(F:Nat):Prop:=∀(k:Nat) (x:Sm) (b:Nat) (w:WS) (m:Sc5) (up:List Sc5) (s:S5),(∃d,az d x=true)->(stW l k b x w).code=0->SR g0 b w.vs (ers (m::up))->G5 s->GE5 (m::up)->s.left<=F->
 ∃m' up' s' r,Ev l (.stm k (m::up) s x (m'::up') s' r)/\ers up'=ers up/\(r= .ok none->SR g0 b (stW l k b x w).vs (ers (m'::up')))
def NB(l:List Fd)(F:Nat):Prop:=∀(k:Nat) (x:Sm) (b:Nat) (w:WS) (v:List Sc5) (s:S5),(∃d,az d x=true)->x.op=6->(stW l k b x w).code=0->SR g0 b w.vs (ers v)->G5 s->GE5 v->s.left<=F->
 ∃v' s' r,Ev l (.lp k v s x v' s' r)/\ers v'=ers v
section
variable {l:List Fd}
theorem Uv{F:Nat}(hS:∀F',F'<F->PR l F')(hB:∀F',F'<F->Jy l F'):Jy l F:=by
 intro k xs b w m up s hf hz hR hg hv hl
 cases xs with
 |nil=>exact⟨m,up,s,_,.bnil,rfl⟩
 |cons x r=>
  rw[bO] at hz
  have hz1:=cU hz
  rcases Nat.eq_zero_or_pos s.left with h0|h0
  ·exact⟨m,up,s,_,.bfuel h0,rfl⟩
  obtain⟨F',hF⟩:∃F',s.left=F'+1:=⟨s.left-1,by omega⟩
  obtain⟨m1,up1,s1,r1,e1,u1,R1⟩:=hS F' (by omega) k x b w m up (s.at_ F') (hf x (by simp)) hz1 hR (hg.at_ F') hv (Vb _)
  have p1:=cW e1 ⟨hg.at_ F',hv⟩
  have q1:s1.left<=F':=p1.2.1
  by_cases hq:r1= .ok none
  ·subst hq
   obtain⟨m2,up2,s2,r2,e2,u2⟩:=hB F' (by omega) k r b (stW l k b x w) m1 up1 s1 (λy hy=>hf y (by simp[hy])) hz (R1 rfl) p1.1 p1.2.2.1 q1
   exact⟨m2,up2,s2,r2,.bgo hF e1 e2,u2.trans u1⟩
  ·exact⟨m1,up1,s1,r1,.bend hF e1 hq,u1⟩
theorem Mi:∀(ps:List (List UInt8)) (us:List Int),ps.length=us.length->er (ps.zip us)=ps.map λs=>(s,0)
 |[],[],_=>rfl
 |p::r,u::t,h=>by
  have:=Mi r t (by simpa using h)
  simp only[er] at this
  simp[er,this]
 |[],_::_,h=>by simp at h
 |_::_,[],h=>by simp at h
theorem EJ:∀(ps:List (List UInt8)) (m:Scp) (c:Int),(jq ps m c).2=0->(jq ps m c).1=m++ps.map λs=>(s,0)
 |[],m,c,_=>by simp[jq]
 |s::r,m,c,h=>by
  have hh:(jq r (gy m s 0) (if(dL m s).isSome then fl c 2 else c)).2=0:=h
  have ih:=EJ r _ _ hh
  have hc:(if(dL m s).isSome then fl c 2 else c)=0:=by
   apply Classical.byContradiction
   intro hne
   have:=vf hne r (gy m s 0)
   rw[this] at hh
   exact hne hh
  have hn:dL m s=none:=by
   cases e:dL m s with
   |none=>rfl
   |some n=>
    rw[e] at hc
    simp only[Option.isSome_some,if_true,fl] at hc
    split at hc<;>omega
  have hset:∀m:Scp,dL m s=none->gy m s 0=m++[(s,0)]:=by
   intro m
   induction m with
   |nil=>intro _;rfl
   |cons x t iht=>
    intro hm
    by_cases hx:x.1=s
    ·simp[dL,hx] at hm
    ·rw[gy,if_neg hx,iht (by simpa[dL,hx] using hm)];rfl
  show(jq r (gy m s 0) (if(dL m s).isSome then fl c 2 else c)).1=_
  rw[ih,hset m hn]
  simp
theorem Uu{F:Nat}(hc:aG l=0)(hB:Jy l F):Pz l F:=by
 intro j f us s hj hlen hg hu hl
 obtain⟨hp,hall⟩:=(yX l).1 hc
 have hz:=hall j f hj
 rw[fnW] at hz
 have hpz:=cU hz
 obtain⟨p1,p2⟩:=CU f.params ⟨[],0,if bU l f.name=some j then 0 else 2⟩ [] SR.base
 rw[hpz] at p2
 have hm:=EJ f.params [] _ p2.symm
 rw[hm,List.nil_append,←Mi f.params us hlen] at p1
 have hfo:=((iT l).1 hp).2.1 f (UR hj)
 have hbody:∀x∈f.body,∃d,az d x=true:=λx hx=>by
  simp only[jA,Vf,UU] at hfo
  exact⟨4,hfo.2 x hx⟩
 obtain⟨m',up',s',r,e,hu2⟩:=hB j f.body 0 _ (f.params.zip us) [] s hbody hz p1 hg (λm hm x hx=>by
  rw[UY.1 hm] at hx
  exact hu _ (List.of_mem_zip hx).2) hl
 exact⟨s',_,.cal hj hlen e⟩
end
end
section
theorem inR5{n lo hi:Int}:inR n lo hi=true↔lo<=n/\n<=hi:=by simp[inR]
theorem FA{α:Type}{l:List α}(h:l.length=1):∃a,l=[a]:=by
 match l,h with
 |[a],_=>exact⟨a,rfl⟩
theorem Mr{α:Type}{l:List α}(h:l.length=2):∃a b,l=[a,b]:=by
 match l,h with
 |[a,b],_=>exact⟨a,b,rfl⟩
section
variable {l:List Fd}
theorem nC{k:Nat}{vs:List LV}:∀(es:List Ex),bJ l k vs es 0=0->∀e∈es,ox l k vs e 0=0
 |[],_,e,he=>by cases he
 |x::r,h,e,he=>by
  rw[bJ] at h
  have h0:=gd h
  rw[h0] at h
  rcases UX.1 he with rfl|he
  ·exact h0
  ·exact nC r h e he
theorem Uw{F:Nat}(hc:aG l=0)(hC:Pz l F):MQ l F:=by
 intro k vs d
 induction d with
 |zero=>intro e v s _ h;cases h
 |succ d ih=>
  intro e v s hz hf hk hg hv hl
  obtain⟨o,n,nm,ks⟩:=e
  rw[cm,Vf,UU] at hf
  obtain⟨hh,hks⟩:=hf
  simp only[mZ,Vf] at hh
  obtain⟨⟨⟨⟨⟨ho,hkl⟩,_⟩,_⟩,hn⟩,_⟩:=hh
  have ho:1<=o/\o<=13:=inR5.1 ho
  have hkl:(loK o:Int)<=(ks.length:Int)/\(ks.length:Int)<=(hiK o:Int):=inR5.1 hkl
  have hn:V5 n:=inR5.1 hn
  have hks:∀x∈ks,cm d x=true:=hks
  rw[ox] at hz
  have h0:=gd hz
  rw[h0] at hz
  have hkz:=nC ks hz
  rcases Int.lt_or_le 13 o with h13|h13
  ·omega
  by_cases h1:o=1
  ·exact⟨s,_,.num h1 hn⟩
  by_cases h2:o=2
  ·rw[ke,if_pos h2] at h0
   obtain⟨_,x,hx⟩:=Cl h0
   have hs:=hk nm
   rw[hx] at hs
   obtain⟨q,hq⟩:=Option.isSome_iff_exists.1 hs.symm
   exact⟨s,_,.var h2 hq⟩
  by_cases h13':o=13
  ·subst h13'
   rw[ke,if_neg (by omega),if_pos rfl,me] at h0
   have hfa:∃j f,bU l nm=some j/\l[j]?=some f/\f.params.length=ks.length/\j<k:=by
    cases hj:bU l nm with
    |none=>rw[hj] at h0;simp only[fl] at h0;simp at h0
    |some j=>
     rw[hj] at h0
     simp only[fl] at h0
     by_cases hkj:k<=j
     ·rw[if_pos hkj] at h0;simp at h0
     ·rw[if_neg hkj] at h0
      obtain⟨hjl,_,_⟩:=Vg.1 hj
      have hg:=UO hjl
      refine⟨j,l[j],rfl,hg,?_,by omega⟩
      rw[Ba,hg] at h0
      simp only at h0
      by_cases hp:l[j].params.length=ks.length
      ·exact hp
      ·rw[if_neg hp] at h0;simp at h0
   obtain⟨j,f,hj,hjf,hpl,hjk⟩:=hfa
   have hargs:∀(es:List Ex) (s:S5),(∀e∈es,e∈ks)->G5 s->s.left<=F->∃s' r,Ev l (.exs k v s es s' r):=by
    intro es
    induction es with
    |nil=>intro s _ _ _;exact⟨s,_,.nil⟩
    |cons a r ihr=>
     intro s hm g hs
     obtain⟨s1,r1,e1⟩:=ih a v s (hkz a (hm a (by simp))) (hks a (hm a (by simp))) hk g hv hs
     have p1:=cW e1 ⟨g,hv⟩
     cases r1 with
     |st c=>exact⟨s1,_,.consS e1⟩
     |ok q=>
      obtain⟨s2,r2,e2⟩:=ihr s1 (λx hx=>hm x (by simp[hx])) p1.1 (Vj p1.2.1 hs)
      cases r2 with
      |st c=>exact⟨s2,_,.consT e1 e2⟩
      |ok ns=>exact⟨s2,_,.cons e1 e2⟩
   obtain⟨s1,r1,e1⟩:=hargs ks s (λ_ h=>h) hg hl
   have p1:=cW e1 ⟨hg,hv⟩
   cases r1 with
   |st c=>exact⟨s1,_,.callS rfl e1⟩
   |ok us=>
    obtain⟨q1,q2⟩:=p1.2.2 _ rfl
    obtain⟨s2,r2,e2⟩:=hC j f us s1 hjf (by rw[hpl,q1]) p1.1 q2 (Vj p1.2.1 hl)
    exact⟨s2,_,.call rfl e1 hj hjk e2⟩
  have hlo:3<=o:=by omega
  have hhi:o<=12:=by omega
  by_cases h11:o=11\/o=12
  ·have hl1:ks.length=1:=by
    have e1:loK o=1:=by unfold loK;rw[if_neg (by omega),if_pos h11]
    have e2:hiK o=1:=by unfold hiK;rw[if_neg (by omega),if_pos h11]
    rw[e1,e2] at hkl;omega
   obtain⟨a,rfl⟩:=FA hl1
   obtain⟨s1,r1,e1⟩:=ih a v s (hkz a (by simp)) (hks a (by simp)) hk hg hv hl
   have p1:=cW e1 ⟨hg,hv⟩
   cases r1 with
   |st c=>exact⟨s1,_,.firstS hlo hhi rfl e1⟩
   |ok q=>
    obtain⟨q0,q1⟩:=p1.2.2 _ rfl
    rcases h11 with h11|h12
    ·exact⟨s1,_,.not h11 rfl e1⟩
    ·obtain⟨i,rfl⟩:∃i:Nat,q=i:=⟨q.toNat,by omega⟩
     by_cases hi:i<16
     ·have hg2:s1.cells[i]?=some (s1.cells[i]'(by rw[p1.1.len];exact hi)):=UO _
      exact⟨s1,_,.at_ h12 rfl e1 hi hg2⟩
     ·exact⟨s1,_,.atS h12 rfl e1 (by omega)⟩
  ·have hl2:ks.length=2:=by
    have e1:loK o=2:=by unfold loK;rw[if_neg (by omega),if_neg h11,if_neg h13']
    have e2:hiK o=2:=by unfold hiK;rw[if_neg (by omega),if_neg h11,if_neg h13']
    rw[e1,e2] at hkl;omega
   obtain⟨a,b,rfl⟩:=Mr hl2
   obtain⟨s1,r1,e1⟩:=ih a v s (hkz a (by simp)) (hks a (by simp)) hk hg hv hl
   have p1:=cW e1 ⟨hg,hv⟩
   cases r1 with
   |st c=>exact⟨s1,_,.firstS hlo hhi rfl e1⟩
   |ok q=>
    by_cases h10:o=10/\q=0
    ·obtain⟨h10,rfl⟩:=h10
     exact⟨s1,_,.and0 h10 rfl e1⟩
    obtain⟨s2,r2,e2⟩:=ih b v s1 (hkz b (by simp)) (hks b (by simp)) hk p1.1 hv (Vj p1.2.1 hl)
    by_cases ho10:o=10
    ·have hq:q≠0:=λe=>h10 ⟨ho10,e⟩
     cases r2 with
     |st c=>exact⟨s2,_,.andS ho10 rfl e1 hq e2⟩
     |ok m=>exact⟨s2,_,.and1 ho10 rfl e1 hq e2⟩
    ·have hle9:o<=9:=by omega
     cases r2 with
     |st c=>exact⟨s2,_,.binS hlo hle9 rfl e1 e2⟩
     |ok m=>
      cases ht:CR o q m with
      |none=>exact⟨s2,_,.binD hlo hle9 rfl e1 e2 ht⟩
      |some t=>exact⟨s2,_,.bin hlo hle9 rfl e1 e2 ht⟩
end
end
section
structure Fine5 (l:List Fd) (k b:Nat) (x:Sm) (w:WS):Prop where
 code:w.code=0
 args:bJ l k w.vs x.args 0=0
 op:(opW x.op x.name b ⟨w.vs,w.count,0⟩).code=0
 body:(bO l k (b+1) x.body (opW x.op x.name b ⟨w.vs,w.count,0⟩)).code=0
 els:∃w3:WS,w3.vs=(opW x.op x.name b ⟨w.vs,w.count,0⟩).vs/\(bO l k (b+1) x.els w3).code=0
 vs:(stW l k b x w).vs=(opW x.op x.name b ⟨w.vs,w.count,0⟩).vs
theorem OS{l:List Fd}{k b:Nat}{x:Sm}{w:WS}(hz:(stW l k b x w).code=0):Fine5 l k b x w:=by
 obtain⟨o,nm,a,bd,el⟩:=x
 have hz0:=hz
 rw[stW,dw] at hz
 have z1:=cU hz
 rw[dw] at z1
 have z2:=cU z1
 have z3:bJ l k w.vs a w.code=0:=za z2
 have hc:=gd z3
 rw[z3] at z2 z1 hz
 have z3':=z3
 rw[hc] at z3'
 refine⟨hc,z3',z2,z1,⟨(bO l k (b+1) bd (opW o nm b ⟨w.vs,w.count,0⟩)).back (opW o nm b ⟨w.vs,w.count,0⟩).vs,rfl,hz⟩,?_⟩
 rw[FJ,z3];rfl
theorem ou{o:Int}{nm:List UInt8}{b:Nat}{w:WS}(h:o≠1):(opW o nm b w).vs=w.vs:=by
 unfold opW
 rw[if_neg h]
 split<;>rfl
theorem LX{d:Nat}{x:Sm}(h:az d x=true):(1<=x.op/\x.op<=8)/\x.args.length=gX x.op/\(∀a∈x.args,mw a=true)/\(∀y∈x.body,∃d,az d y=true)/\(∀y∈x.els,∃d,az d y=true):=by
 cases d with
 |zero=>cases h
 |succ d=>
  rw[az,Vf,Vf,UU,UU] at h
  obtain⟨⟨h1,h2⟩,h3⟩:=h
  simp only[jo,Vf,UU] at h1
  obtain⟨⟨⟨⟨⟨⟨⟨p1,p2⟩,_⟩,_⟩,p5⟩,_⟩,_⟩,_⟩:=h1
  exact⟨inR5.1 p1,of_decide_eq_true p2,p5,λy hy=>⟨d,h2 y hy⟩,λy hy=>⟨d,h3 y hy⟩⟩
theorem uM{a:Ex}(h:mw a=true):cm 6 a=true:=by rw[mw,Vf] at h;exact h.1
section
variable {l:List Fd}
theorem TX{F:Nat}(hE:MQ l F)(hB:Jy l F)(hL:∀F',F'<F->NB l F'):NB l F:=by
 intro k x b w v s hf ho hz hR hg hv hl
 obtain⟨d,hd⟩:=hf
 obtain⟨_,hal,hae,hbo,_⟩:=LX hd
 have Fn:=OS hz
 have hal1:x.args.length=1:=by rw[hal,gX,if_neg (by omega)]
 obtain⟨a,ha⟩:=FA hal1
 have haz:=nC x.args Fn.args a (by rw[ha];simp)
 obtain⟨s1,r1,e1⟩:=hE k w.vs 6 a v s haz (uM (hae a (by rw[ha];simp))) (Ma hR) hg hv hl
 have p1:=cW e1 ⟨hg,hv⟩
 cases r1 with
 |st c=>exact⟨v,s1,_,.lpS ha e1,rfl⟩
 |ok n=>
  by_cases hn:n=0
  ·subst hn;exact⟨v,s1,_,.lp0 ha e1,rfl⟩
  have hsame:(opW x.op x.name b ⟨w.vs,w.count,0⟩).vs=w.vs:=ou (by omega)
  have hR2:SR g0 (b+1) (opW x.op x.name b ⟨w.vs,w.count,0⟩).vs (ers ([]::v)):=by
   rw[hsame];exact hR.open
  obtain⟨m2,v2,s2,r2,e2,u2⟩:=hB k x.body (b+1) _ [] v s1 hbo Fn.body hR2 p1.1 hv.opn (Vj p1.2.1 hl)
  have p2:=cW e2 ⟨p1.1,hv.opn⟩
  by_cases hq:r2= .ok none
  ·subst hq
   rcases Nat.eq_zero_or_pos s2.left with h0|h0
   ·exact⟨v2,s2,_,.lpFuel ha e1 hn e2 h0,u2⟩
   obtain⟨F',hF⟩:∃F',s2.left=F'+1:=⟨s2.left-1,by omega⟩
   have hlt:F'<F:=by have:=p2.2.1;have:=p1.2.1;omega
   obtain⟨v3,s3,r3,e3,u3⟩:=hL F' hlt k x b w v2 (s2.at_ F') ⟨d,hd⟩ ho hz (by rw[u2];exact hR) (p2.1.at_ F') p2.2.2.1.tail (Vb _)
   exact⟨v3,s3,_,.lpGo ha e1 hn e2 hF e3,u3.trans u2⟩
  ·exact⟨v2,s2,_,.lpEnd ha e1 hn e2 hq,u2⟩
theorem Uk{F:Nat}(hE:MQ l F)(hB:Jy l F)(hL:NB l F):PR l F:=by
 intro k x b w m up s hf hz hR hg hv hl
 obtain⟨d,hd⟩:=hf
 obtain⟨⟨ho1,ho8⟩,hal,hae,hbo,heo⟩:=LX hd
 have Fn:=OS hz
 by_cases h6:x.op=6
 ·obtain⟨v',s',r,e,u⟩:=hL k x b w (m::up) s ⟨d,hd⟩ h6 hz hR hg hv hl
  obtain⟨m',up',rfl,u1,u2⟩:=zY u
  refine⟨m',up',s',r,.sloop h6 e,u2,λ_=>?_⟩
  rw[Fn.vs,ou (by omega),u]
  exact hR
 have hex:∀a∈x.args,∀s:S5,G5 s->s.left<=F->∃s' r,Ev l (.ex k (m::up) s a s' r):=λa ha s g hs=>
  hE k w.vs 6 a (m::up) s (nC x.args Fn.args a ha) (uM (hae a ha)) (Ma hR) g hv hs
 by_cases h4:x.op=4
 ·have hal2:x.args.length=2:=by rw[hal,gX,if_pos h4]
  obtain⟨a,c,ha⟩:=Mr hal2
  have hR':SR g0 b (stW l k b x w).vs (ers (m::up)):=by rw[Fn.vs,ou (by omega)];exact hR
  obtain⟨s1,r1,e1⟩:=hex a (by rw[ha];simp) s hg hl
  have p1:=cW e1 ⟨hg,hv⟩
  cases r1 with
  |st q=>exact⟨m,up,s1,_,.argS h6 ha e1,rfl,λ_=>hR'⟩
  |ok n=>
   obtain⟨n0,n1⟩:=p1.2.2 _ rfl
   obtain⟨s2,r2,e2⟩:=hex c (by rw[ha];simp) s1 p1.1 (Vj p1.2.1 hl)
   cases r2 with
   |st q=>exact⟨m,up,s2,_,.sputS h4 ha e1 e2,rfl,λ_=>hR'⟩
   |ok q=>
    obtain⟨i,rfl⟩:∃i:Nat,n=i:=⟨n.toNat,by omega⟩
    by_cases hi:i<16
    ·exact⟨m,up,_,_,.sput h4 ha e1 e2 hi,rfl,λ_=>hR'⟩
    ·exact⟨m,up,s2,_,.sputC h4 ha e1 e2 (by omega),rfl,λ_=>hR'⟩
 have hal1:x.args.length=1:=by rw[hal,gX,if_neg h4]
 obtain⟨a,ha⟩:=FA hal1
 obtain⟨s1,r1,e1⟩:=hex a (by rw[ha];simp) s hg hl
 have p1:=cW e1 ⟨hg,hv⟩
 have hsame:x.op≠1->SR g0 b (stW l k b x w).vs (ers (m::up)):=λh=>by rw[Fn.vs,ou h];exact hR
 cases r1 with
 |st q=>exact⟨m,up,s1,_,.argS h6 ha e1,rfl,λh=>by cases h⟩
 |ok n=>
  by_cases h1:x.op=1
  ·have hput:(ic ⟨w.vs,w.count,0⟩ x.name b).code=0:=by
    have:=Fn.op
    rw[opW,if_pos h1] at this
    exact this
   have hput2:pZ w.vs x.name b 0=0:=hput
   have hR1:SR g0 b w.vs (er m::ers up):=hR
   rw[hR1.put] at hput2
   have hno:bM m x.name=none:=by
    cases e:bM m x.name with
    |none=>rfl
    |some q=>
     rw[Du,e] at hput2
     simp[fl] at hput2
   refine⟨_,up,s1,_,.slet h1 ha e1 rfl hno,rfl,λ_=>?_⟩
   rw[Fn.vs,opW,if_pos h1]
   have:=hR1.add x.name w.count 0 rfl
   rw[←Qd (n:=n) hno] at this
   exact this
  by_cases h2:x.op=2
  ·have huse:ov w.vs x.name 0=0:=by
    have:=Fn.op
    rw[opW,if_neg h1,if_pos h2] at this
    exact this
   obtain⟨_,q,hq⟩:=Cl huse
   have hs:(gE (m::up) x.name).isSome=true:=by rw[←Ma hR x.name,hq];rfl
   have hev:=Ev.sset (l:=l) h2 ha e1 hs
   obtain⟨m',up',e,_,u2⟩:=zY (Do (s:=x.name) (n:=n) (m::up))
   have hu:ers (m'::up')=ers (m::up):=by rw[←e];exact Do _
   rw[e] at hev
   exact⟨m',up',s1,_,hev,u2,λ_=>by rw[hu];exact hsame h1⟩
  by_cases h3:x.op=3
  ·exact⟨m,up,_,_,.ssay h3 ha e1,rfl,λ_=>hsame h1⟩
  by_cases h5:x.op=5
  ·have hsv:(opW x.op x.name b ⟨w.vs,w.count,0⟩).vs=w.vs:=ou h1
   obtain⟨w3,hw3,hez⟩:=Fn.els
   have hB':∃m2 v2 s2 r2,Ev l (.blk k ([]::m::up) s1 (if n≠0 then x.body else x.els) (m2::v2) s2 r2)/\ers v2=ers (m::up):=by
    by_cases hn:n≠0
    ·rw[if_pos hn]
     exact hB k x.body (b+1) _ [] (m::up) s1 hbo Fn.body (by rw[hsv];exact hR.open) p1.1 hv.opn (Vj p1.2.1 hl)
    ·rw[if_neg hn]
     exact hB k x.els (b+1) w3 [] (m::up) s1 heo hez (by rw[hw3,hsv];exact hR.open) p1.1 hv.opn (Vj p1.2.1 hl)
   obtain⟨m2,v2,s2,r2,e2,u2⟩:=hB'
   obtain⟨m',up',rfl,u3,u4⟩:=zY u2
   exact⟨m',up',s2,r2,.sif h5 ha e1 e2,u4,λ_=>by rw[u2];exact hsame h1⟩
  by_cases h7:x.op=7
  ·exact⟨m,up,s1,_,.sback h7 ha e1,rfl,λh=>by cases h⟩
  ·exact⟨m,up,s1,_,.sdo (by omega) ha e1,rfl,λ_=>hsame h1⟩
theorem Nb(hc:aG l=0):∀F,Pz l F/\MQ l F/\Jy l F/\PR l F/\NB l F:=by
 intro F
 induction F using Nat.strongRecOn with
 |_ F ih=>
  have hB:=Uv (l:=l) (F:=F) (λF' h=>(ih F' h).2.2.2.1) (λF' h=>(ih F' h).2.2.1)
  have hC:=Uu hc hB
  have hE:=Uw hc hC
  have hL:=TX hE hB (λF' h=>(ih F' h).2.2.2.2)
  exact⟨hC,hE,hB,Uk hE hB hL,hL⟩
end
def s0(fuel:Nat):S5:=⟨fuel,[],List.replicate 16 0⟩
theorem nG(fuel:Nat):G5 (s0 fuel):=⟨by simp[s0],λc hc=>by rw[(List.mem_replicate.1 hc).2];exact⟨by omega,by omega⟩,λc hc=>by cases hc⟩
theorem TY{l:List Fd}(hc:aG l=0){f:Fd}(hf:l[l.length-1]?=some f){us:List Int}(hl:us.length=f.params.length)(hu:∀n∈us,V5 n)(fuel:Nat):
 ∃s' r,Ev l (.cal (l.length-1) us (s0 fuel) s' r)/\G5 s'/\s'.left<=fuel/\∀n,r= .ok n->V5 n:=by
 obtain⟨s',r,e⟩:=(Nb hc fuel).1 (l.length-1) f us (s0 fuel) hf hl.symm (nG fuel) hu (Vb _)
 have p:=cW e ⟨nG fuel,hu⟩
 exact⟨s',r,e,p.1,p.2.1,p.2.2⟩
end
section
def S5.dn(s:S5)(c:Nat):S5:=⟨s.left-c,s.said,s.cells⟩
end
section
def S5.pre(s:S5)(t:List Int):S5:=⟨s.left,t++s.said,s.cells⟩
end
section
def nmS(m:Sc5):List (List UInt8):=m.map (·.1)
def nmV(v:List Sc5):List (List (List UInt8)):=v.map nmS
theorem Hq(s:List UInt8)(n:Int):∀m:Sc5,nmS (sset m s n)=nmS m
 |[]=>rfl
 |x::r=>by
  rw[sset]
  split
  ·rename_i h
   show s::nmS r=x.1::nmS r
   rw[h]
  ·show x.1::nmS (sset r s n)=x.1::nmS r
   rw[Hq s n r]
theorem yV(s:List UInt8)(n:Int):∀v:List Sc5,nmV (gI v s n)=nmV v
 |[]=>rfl
 |m::r=>by
  rw[gI]
  split
  ·show nmS (sset m s n)::nmV r=_
   rw[Hq];rfl
  ·show nmS m::nmV (gI r s n)=_
   rw[yV s n r];rfl
def Grw(v v':List Sc5):Prop:=nmV v'=nmV v\/∃m up m' up' t,v=m::up/\v'=m'::up'/\nmV up'=nmV up/\nmS m'=nmS m++t
theorem Grw.refl(v:List Sc5):Grw v v:= .inl rfl
theorem DH{m:Sc5}{up v:List Sc5}(h:nmV v=nmV (m::up)):∃m' up',v=m'::up'/\nmS m'=nmS m/\nmV up'=nmV up:=by
 match v with
 |[]=>cases h
 |m'::up'=>
  have h:nmS m'::nmV up'=nmS m::nmV up:=h
  exact⟨m',up',rfl,(List.cons.inj h).1,(List.cons.inj h).2⟩
theorem Grw.trans{a b c:List Sc5}(h:Grw a b)(g:Grw b c):Grw a c:=by
 rcases h with h|⟨m,up,m',up',t,rfl,rfl,h1,h2⟩
 ·rcases g with g|⟨m,up,m',up',t,rfl,rfl,h1,h2⟩
  ·exact .inl (g.trans h)
  ·obtain⟨m0,up0,rfl,e1,e2⟩:=DH h.symm
   exact .inr ⟨m0,up0,m',up',t,rfl,rfl,h1.trans e2.symm,by rw[h2,e1]⟩
 ·rcases g with g|⟨q,uq,q',uq',t',e,rfl,g1,g2⟩
  ·obtain⟨m0,up0,rfl,e1,e2⟩:=DH g
   exact .inr ⟨m,up,m0,up0,t,rfl,rfl,e2.trans h1,e1.trans h2⟩
  ·obtain⟨e1,e2⟩:=List.cons.inj e
   subst e1;subst e2
   exact .inr ⟨m,up,q',uq',t++t',rfl,rfl,g1.trans h1,by rw[g2,h2,Vt]⟩
theorem Grw.tail{m m':Sc5}{v v':List Sc5}(h:Grw (m::v) (m'::v')):nmV v'=nmV v:=by
 rcases h with h|⟨q,up,q',up',t,e1,e2,h1,h2⟩
 ·have h:nmS m'::nmV v'=nmS m::nmV v:=h
  exact(List.cons.inj h).2
 ·rw[(List.cons.inj e1).2,(List.cons.inj e2).2];exact h1
def Sh5:J5->Prop
 | .stm _ v _ _ v' _ _=>Grw v v'
 | .blk _ v _ _ v' _ _=>Grw v v'
 | .lp _ v _ _ v' _ _=>nmV v'=nmV v
 |_=>True
theorem zA{l:List Fd}{j:J5}(h:Ev l j):Sh5 j:=by
 induction h with
 |bnil=>exact .inl rfl
 |bfuel _=>exact .inl rfl
 |bgo _ _ _ i1 i2=>exact i1.trans i2
 |bend _ _ _ i1=>exact i1
 |argS _ _ _ _=>exact .inl rfl
 | @slet k v s x a s1 n m up _ _ _ hv _ _=>
   subst hv
   exact .inr ⟨m,up,m++[(x.name,n)],up,[x.name],rfl,rfl,rfl,by simp[nmS]⟩
 |sset _ _ _ _ _=>exact .inl (yV _ _ _)
 |ssay _ _ _ _=>exact .inl rfl
 |sput _ _ _ _ _ _ _=>exact .inl rfl
 |sputC _ _ _ _ _ _ _=>exact .inl rfl
 |sputS _ _ _ _ _ _=>exact .inl rfl
 |sif _ _ _ _ _ i2=>exact .inl i2.tail
 |sloop _ _ i1=>exact .inl i1
 |sback _ _ _ _=>exact .inl rfl
 |sdo _ _ _ _=>exact .inl rfl
 |lpS _ _ _=>exact(rfl:nmV _=nmV _)
 |lp0 _ _ _=>exact(rfl:nmV _=nmV _)
 |lpEnd _ _ _ _ _ _ i2=>exact i2.tail
 |lpFuel _ _ _ _ _ _ i2=>exact i2.tail
 |lpGo _ _ _ _ _ _ _ i2 i3=>exact(show nmV _=nmV _ from i3).trans i2.tail
 |_=>trivial
def ay:List Sc5->Sc5
 |[]=>[]
 |m::r=>ay r++m
theorem gJ:∀{v w:List Sc5},nmV v=nmV w->(ay v).length=(ay w).length
 |[],[],_=>rfl
 |[],_::_,h=>by cases h
 |_::_,[],h=>by cases h
 |m::r,m'::r',h=>by
  have h:nmS m::nmV r=nmS m'::nmV r':=h
  obtain⟨h1,h2⟩:=List.cons.inj h
  have:=gJ h2
  have h1:=congrArg List.length h1
  simp only[nmS,Vv] at h1
  simp[ay,this,h1]
theorem BV{m:Sc5}{v w:List Sc5}(h:nmV v=nmV w):(ay (m::v)).take (ay w).length=ay v:=by
 rw[ay,←gJ h,List.take_left']
 rfl
def cQ:Sc5->List UInt8->Option Nat
 |[],_=>none
 |x::r,s=>match cQ r s with|some i=>some (i+1)|none=>if x.1=s then some 0 else none
theorem nJ(s:List UInt8):∀a b:Sc5,cQ (a++b) s=match cQ b s with|some i=>some (a.length+i)|none=>cQ a s
 |[],b=>by cases h:cQ b s<;>simp[cQ,h]
 |x::r,b=>by
  rw[VA,cQ,nJ s r b]
  cases h:cQ b s with
  |some i=>simp;omega
  |none=>rfl
def Un5(v:List Sc5):Prop:=∀m∈v,(nmS m).Pairwise (· ≠ ·)
theorem sget_none_iff:∀{m:Sc5} {s:List UInt8},bM m s=none↔s∉nmS m
 |[],s=>by simp[bM,nmS]
 |x::r,s=>by
  rw[bM]
  by_cases h:x.1=s
  ·simp[h,nmS]
  ·rw[if_neg h,sget_none_iff]
   simp[nmS,Ne.symm h]
theorem om:∀{m:Sc5} {s:List UInt8},s∉nmS m->cQ m s=none
 |[],s,_=>rfl
 |x::r,s,h=>by
  simp only[nmS,Vn,UX,not_or] at h
  rw[cQ,om (m:=r) h.2]
  simp only
  rw[if_neg (λe=>h.1 e.symm)]
theorem zm:∀{m:Sc5} {s:List UInt8} {n:Int},(nmS m).Pairwise (· ≠ ·)->bM m s=some n->∃i,cQ m s=some i/\m[i]?=some (s,n)/\∀q,sset m s q=m.set i (s,q)
 |x::r,s,n,hp,h=>by
  obtain⟨h1,h2⟩:=List.pairwise_cons.1 (show(x.1::nmS r).Pairwise (· ≠ ·) from hp)
  rw[bM] at h
  by_cases hx:x.1=s
  ·rw[if_pos hx] at h
   have hn:s∉nmS r:=λhm=>h1 s hm hx
   refine⟨0,?_,?_,λq=>?_⟩
   ·rw[cQ,om hn];simp only;rw[if_pos hx]
   ·obtain⟨a,b⟩:=x
    have hx:a=s:=hx
    have h:some b=some n:=h
    cases h;subst hx;rfl
   ·rw[sset,if_pos hx];rfl
  ·rw[if_neg hx] at h
   obtain⟨i,g1,g2,g3⟩:=zm h2 h
   refine⟨i+1,?_,by simpa using g2,λq=>?_⟩
   ·rw[cQ,g1]
   ·rw[sset,if_neg hx,g3 q];rfl
theorem AH:∀{v:List Sc5} {s:List UInt8} {n:Int},Un5 v->gE v s=some n->∃i,cQ (ay v) s=some i/\(ay v)[i]?=some (s,n)/\∀q,ay (gI v s q)=(ay v).set i (s,q)
 |m::r,s,n,hu,h=>by
  rw[gE] at h
  cases hm:bM m s with
  |some k=>
   rw[hm] at h
   cases h
   obtain⟨i,g1,g2,g3⟩:=zm (hu m (by simp)) hm
   refine⟨(ay r).length+i,?_,?_,λq=>?_⟩
   ·rw[ay,nJ,g1]
   ·rw[ay,UT (by omega)]
    rw[Vw];exact g2
   ·rw[gI,hm]
    simp only[Option.isSome_some,if_true]
    rw[ay,ay,g3 q,List.set_append_right _ _ (by omega),Vw]
  |none=>
   rw[hm] at h
   obtain⟨i,g1,g2,g3⟩:=AH (λq hq=>hu q (by simp[hq])) h
   have hi:i<(ay r).length:=by
    have:=UL.1 g2
    exact this.1
   refine⟨i,?_,?_,λq=>?_⟩
   ·rw[ay,nJ,om (sget_none_iff.1 hm)];exact g1
   ·rw[ay,UN hi];exact g2
   ·rw[gI,hm]
    simp only[Option.isSome_none,Bool.false_eq_true,if_false]
    rw[ay,ay,g3 q,List.set_append_left _ _ hi]
theorem KM{m:Sc5}{up:List Sc5}(x:List UInt8 × Int):ay ((m++[x])::up)=ay (m::up)++[x]:=by simp[ay]
theorem BU(v:List Sc5):ay ([]::v)=ay v:=by simp[ay]
theorem Un5.of{v w:List Sc5}(h:Un5 v)(e:nmV w=nmV v):Un5 w:=by
 intro m hm
 have h1:nmS m∈nmV v:=by rw[←e];exact List.mem_map_of_mem hm
 obtain⟨q,hq,e2⟩:=Vi.1 h1
 rw[←e2];exact h q hq
theorem Un5.let{m:Sc5}{up:List Sc5}{s:List UInt8}{n:Int}(h:Un5 (m::up))(hs:bM m s=none):Un5 ((m++[(s,n)])::up):=by
 intro q hq
 rcases UX.1 hq with rfl|hq
 ·have h1:=h m (by simp)
  have h2:=sget_none_iff.1 hs
  simp only[nmS,List.map_append,Vn,List.map_nil]
  refine List.pairwise_append.2 ⟨h1,List.pairwise_singleton _ _,λa ha b hb=>?_⟩
  rw[UY.1 hb]
  exact λe=>h2 (e▸ha)
 ·exact h q (by simp[hq])
theorem Un5.opn{v:List Sc5}(h:Un5 v):Un5 ([]::v):=by
 intro q hq
 rcases UX.1 hq with rfl|hq
 ·exact .nil
 ·exact h q hq
end
section
theorem dB{n:Nat}{h h1:List AO}(e:h.take n=h1)(hn:h1.length=n)(ho:∀o∈h1,okO n o):Fst n h h1:=by
 have hl:n<=h.length:=by
  have:=congrArg List.length e
  rw[Vl] at this;omega
 have hg:∀(i:Nat) (o:AO),h1[i]?=some o->h[i]?=some o:=λi o hi=>by
  have h2:=(UL.1 hi).1
  rw[←e,List.getElem?_take_of_lt (by omega)] at hi
  exact hi
 exact⟨hn,hl,λi sz es hi=>⟨hg _ _ hi,ho _ (UR hi)⟩,λi es hi=>⟨hg _ _ hi,ho _ (UR hi)⟩,λi s p hi=>hg _ _ hi⟩
theorem Cf:∀(r:List AO) (s:Nat),((jj (List.range' s r.length++[0]) (r++[.dead])).Nodup/\∀i∈jj (List.range' s r.length++[0]) (r++[.dead]),s<=i)
 |[],s=>by simp[jj]
 |o::r,s=>by
  obtain⟨h1,h2⟩:=Cf r (s+1)
  rw[Vh,List.range'_succ]
  cases o with
  |dead=>exact⟨h1,λi hi=>Nat.le_of_succ_le (h2 i hi)⟩
  |_=>exact⟨VM.2 ⟨λhm=>absurd (h2 _ hm) (by omega),h1⟩,λi hi=>by
   rcases UX.1 hi with rfl|hi
   ·exact Vb _
   ·exact Nat.le_of_succ_le (h2 i hi)⟩
theorem Ey{h:List AO}(hp:0<h.length)(ho:∀o∈h,okO h.length o):∀(r:List AO) (s:Nat),(∀i:Nat,r[i]?=h[s+i]?)->s+r.length=h.length->HW (List.range' 0 h.length++[0]) h (List.range' s r.length++[0]) (r++[.dead])
 |[],s,_,_=>fa hp bv
 |o::r,s,hr,hs=>by
  have hσ:∀i,i<h.length->(List.range' 0 h.length++[0]).getD i 0=i:=λi hi=>by
   rw[Vc,UN (by simp;exact hi)];simp[hi]
  rw[Vh,List.range'_succ]
  have h0:=hr 0
  have ih:=Ey hp ho r (s+1) (λi=>by have:=hr (i+1);rw[Vd] at this;rw[this];congr 1;omega) (by simp at hs;omega)
  have hm:h[s]?=some o:=by simpa using h0.symm
  have hok:=ho o (UR hm)
  cases o with
  |dead=>exact fa (UL.1 hm).1 ih
  |row sz es=>
   refine bT (λx hx=>aZ (by simp) _ (hok x hx)) ?_ ih
   rw[hm,Vp (g:=id) λx hx=>nk hσ x (hok x hx)];simp
  |mp es=>exact⟨(UL.1 hm).1,⟨λx hx=>by exact(aZ (by simp) [x.2] ⟨hok x hx,trivial⟩).1,by rw[hm,Vp (g:=id) λx hx=>by rw[nL hσ x.2 (hok x hx)];rfl];simp⟩,ih⟩
  |sit s p=>exact⟨(UL.1 hm).1,hm,ih⟩
theorem DB{m:Nat}{l:List (Nat × AV)}:∀r:List (Nat × AV),FgA m l r->TWA (List.range' 0 m++[0]) l r
 |[],_=>trivial
 |x::r,⟨⟨a,c⟩,d⟩=>by
  have hσ:∀i,i<m->(List.range' 0 m++[0]).getD i 0=i:=λi hi=>by
   rw[Vc,UN (by simp;exact hi)];simp[hi]
  exact⟨⟨(aZ (by simp) [x.2] ⟨a,trivial⟩).1,by rw[nL hσ _ a,c]⟩,DB r d⟩
theorem tQ{k n:Nat}{l l1:List (Nat × AV)}{h:List AO}(hk:k<=h.length)(hp:0<h.length)(ho:∀o∈h,okO h.length o)(H:FgA h.length l l1):Wk k (ah n l) h (ah n l1) (h++[.dead]):=by
 have hσ:∀i,i<h.length->(List.range' 0 h.length++[0]).getD i 0=i:=λi hi=>by
  rw[Vc,UN (by simp;exact hi)];simp[hi]
 refine Hs (List.range' 0 h.length++[0]) (by simp;omega) (λi hi=>hσ i (by omega)) ?_ ?_ (DB _ H)
 ·exact(Cf h 0).1
 ·exact Ey hp ho h 0 (λi=>by simp) (by simp)
def aX(fns:List Fd):List (List AV):=fns.map λf=>f.cs.map .p
theorem uJ(fns:List Fd):∀x∈aX fns,af 0 x:=by
 intro x hx;obtain⟨m,_,rfl⟩:=Vi.1 hx;simp
theorem dH{n:Nat}{o:AO}(h:okO 0 o):okO n o:=by
 cases o with
 |dead=>trivial
 |sit=>trivial
 |row sz es=>exact λe he=>aZ (VQ _) _ (h e he)
 |mp es=>exact λe he=>(aZ (VQ n) [e.2] ⟨h e he,trivial⟩).1
theorem mb(fns:List Fd)(n:Nat):okO n (bS 3 (aX fns)):=dH (Lq (uJ fns))
def exR(l:List Ex):List (List AV):=l.map λe=>e.cs.map .p
theorem dS(l:List Ex):∀x∈exR l,af 0 x:=by
 intro x hx;obtain⟨m,_,rfl⟩:=Vi.1 hx;simp
theorem iz{h:List AO}{id:Nat}{l:List Ex}(e:h[id]?=some (bS 4 (exR l))):View h (slE id 4 (exR l)) (exL l):=by
 have hh:exR l=(l.map Ex.cs).map (·.map .p):=by simp[exR]
 rw[hh] at e⊢
 exact PO e (λx hx=>by obtain⟨b,_,rfl⟩:=Vi.1 hx;exact b.cs_len)
theorem tP{h:List AO}{id sz:Nat}{r0 r1:List AV}{p0 p1:List PV}(he:h[id]?=some (.row sz [r0,r1]))(l0:p0.length=sz)(l1:p1.length=sz)(h0:∀(j:Nat) (q:PV) (a:AV),p0[j]?=some q->r0[j]?=some a->View h a q)(h1:∀(j:Nat) (q:PV) (a:AV),p1[j]?=some q->r1[j]?=some a->View h a q):View h (.sl id sz 0 2) (.lst sz [p0,p1]):=by
 refine View.sl id sz 0 _ [p0,p1] he (by simp) (by simp[l0,l1]) λi j e q e' a a1 a2 a3 a4=>?_
 rw[VP] at a3
 match i,a1,a3 with
 |0,a1,a3=>cases a1;cases a3;exact h0 j q a a2 a4
 |1,a1,a3=>cases a1;cases a3;exact h1 j q a a2 a4
 |i+2,a1,a3=>simp at a1
def smR(l:List Sm):List (List AV):=l.map λs=>s.cs.map .p
theorem dM(l:List Sm):∀x∈smR l,af 0 x:=by
 intro x hx;obtain⟨m,_,rfl⟩:=Vi.1 hx;simp
theorem fZ(l:List Sm):(smR l).length=l.length:=by simp[smR]
theorem Cw(a b:List Sm):smR (a++b)=smR a++smR b:=by simp[smR]
theorem bs{h:List AO}{id sz:Nat}{r0:List AV}{p0:List PV}(he:h[id]?=some (.row sz [r0]))(l0:p0.length=sz)(h0:∀(j:Nat) (q:PV) (a:AV),p0[j]?=some q->r0[j]?=some a->View h a q):View h (.sl id sz 0 1) (.lst sz [p0]):=by
 refine View.sl id sz 0 _ [p0] he (by simp) (by simp[l0]) λi j e q e' a a1 a2 a3 a4=>?_
 rw[VP] at a3
 match i,a1,a3 with
 |0,a1,a3=>cases a1;cases a3;exact h0 j q a a2 a4
 |i+1,a1,a3=>simp at a1
theorem iu{h:List AO}{o n:Int}{w:List UInt8}{k:List Ex}{K:AV}(hk:View h K (exL k)):∀(j:Nat) (q:PV) (a:AV),(Ex.mk o n w k).cs[j]?=some q->[AV.p (.int .i64 o),.p (.int .i64 n),.p (.str w),K][j]?=some a->View h a q:=by
 intro j q a e1 e2
 have hc:(Ex.mk o n w k).cs=[.int .i64 o,.int .i64 n,.str w,exL k]:=Ex.cs_eq _
 rw[hc] at e1
 match j,e1,e2 with
 |0,e1,e2=>cases e1;cases e2;exact .p _
 |1,e1,e2=>cases e1;cases e2;exact .p _
 |2,e1,e2=>cases e1;cases e2;exact .p _
 |3,e1,e2=>cases e1;cases e2;exact hk
 |j+4,e1,e2=>simp at e1
theorem kL{h:List AO}{id:Nat}{l:List Sm}(e:h[id]?=some (.row 5 (smR l))):View h (.sl id 5 0 l.length) (smL l):=by
 have:=hZ (h:=h) (id:=id) (sz:=5) (n:=l.length) (ls:=l.map Sm.cs) (by rw[e,smR];simp) (by simp) (λx hx=>by obtain⟨b,_,rfl⟩:=Vi.1 hx;exact b.cs_len)
 exact this
theorem bV{h:List AO}{o:Int}{w:List UInt8}{a:List Ex}{bd el:List Sm}{A B E:AV}(hA:View h A (exL a))(hB:View h B (smL bd))(hE:View h E (smL el)):∀(j:Nat) (q:PV) (x:AV),(Sm.mk o w a bd el).cs[j]?=some q->[AV.p (.int .i64 o),.p (.str w),A,B,E][j]?=some x->View h x q:=by
 intro j q x e1 e2
 have hc:(Sm.mk o w a bd el).cs=[.int .i64 o,.str w,exL a,smL bd,smL el]:=Sm.cs_eq _
 rw[hc] at e1
 match j,e1,e2 with
 |0,e1,e2=>cases e1;cases e2;exact .p _
 |1,e1,e2=>cases e1;cases e2;exact .p _
 |2,e1,e2=>cases e1;cases e2;exact hA
 |3,e1,e2=>cases e1;cases e2;exact hB
 |4,e1,e2=>cases e1;cases e2;exact hE
 |j+5,e1,e2=>simp at e1
theorem fX{n:Nat}:∀o∈([]:List AO),okO n o:=λo h=>by cases h
theorem aj{n:Nat}{a:AO}{l:List AO}(h:okO n a)(r:∀o∈l,okO n o):∀o∈a::l,okO n o:=λo ho=>by
 rcases UX.1 ho with rfl|ho
 ·exact h
 ·exact r o ho
end
section
theorem Fd.cs_eq'(f:Fd):f.cs=[.str f.name,aw f.params,smL f.body]:=rfl
variable (G:al)
end
section
theorem dX{α:Type}{p:α->Bool}{xs:List α}{i:Nat}(h:i<xs.length):(xs.take (i+1)).all p=((xs.take i).all p&&p xs[i]):=by
 rw[aq h,List.all_append];simp
theorem nI{α:Type}{p:α->Bool}{xs:List α}{i:Nat}(h:i<xs.length)(hp:p xs[i]=false):xs.all p=false:=
 List.all_eq_false.2 ⟨_,Ve h,by simp[hp]⟩
theorem gF{α:Type}{p:α->Bool}{xs:List α}{i:Nat}(h:xs.length<=i)(ht:(xs.take i).all p=true):xs.all p=true:=by
 rwa[US h] at ht
def ru:AK:=qe [wG 2 4 0,xi] (yi [wU 10 2,qu 11 10,xq 12 iY 11,qg 9 12,xc 13 0 9,xc 14 1 9,qg 5 13,x9 14] [xe 15,qx 16 .lss 15 1,qg 17 16,xG 18 17 0 2,xA 19 17 18,qM 20 17 (ya (xN 19 (qj 1) (qj 13))),qM 21 17 (wm 20),xT 22 17 21,qg 23 22,xG 24 23 3 2,xA 25 23 24,qM 26 23 (wb 25),xx 27 23 5,xx 28 23 6,qM 29 23 (ya (xP 26 27 28)),qM 30 23 (wm 29),xT 31 23 30] 31 [xi] (yk [wU 32 2,qu 33 32,wd 34 33 2,qg 35 34,xG 36 35 0 2,xA 37 35 36,qM 38 35 (xa .eql 37 13),xT 39 35 38,qg 7 39] (.cut (wg [yj 40,xu 41 2,qu 42 41,xq 43 cx 42,qb 44 (.beq true (.t 40) (.t 43)),qg 45 44,xx 46 45 7,qM 47 45 (wm 46),xx 48 45 47,wV 49 48 2 2,wQ 50 48 49,qL 51 48 (yl .neq 50 (.c qF)),qM 52 45 (qS 48 (.t 51) wJ),xT 53 45 52,qg 54 53,xG 55 54 1 2,xA 56 54 55,qM 57 54 (ya (xN 56 ym (qj 255))),qM 58 54 (wm 57),xT 59 54 58,qg 60 59,xG 61 60 0 2,xA 62 60 61,qM 63 60 (xa .neq 62 1),xx 64 60 63,wV 65 64 1 2,wQ 66 64 65,xK 67 64 .neq 66 0,qM 68 60 (qS 64 (.t 67) wJ),xT 69 60 68] 69 [xi]) (xR (xS [wR 8] 0 [ye 70,xU 71 2,qu 72 71,wh 73 72,wZ 74 70 73] 74 wy 1 (wg [xU 77 2,qu 78 77,ye 79,wx 80 4 78 79,yf 81 80,xe 82,xH 83 82 1,wM 84 fQ 81 83,xo 85 84] 85 [xi]) [ye 75,x7 76 75,qg 8 76]) [qQ 4 we]))))
theorem BD:AK.whole ru=FK.ak iW:=rfl
def rU:AK:=qe [wG 2 5 0,xi] (.cut (wg [xe 7,qx 8 .lss 7 1,ye 9,xG 10 9 0 2,xA 11 9 10,qM 12 9 (ya (xN 11 (qj 1) (qj 8))),qM 13 9 (wm 12),xT 14 9 13,qg 15 14,xG 16 15 2 2,xG 19 15 0 2,xA 17 15 16,qM 18 15 (wb 17),xA 20 15 19,qM 21 15 (.qcall iV (xp 20)),qM 22 15 (ql .neq 18 (.t 21)),xT 23 15 22] 23 [xi]) (yk [wU 24 2,qu 25 24,wd 26 25 1,qg 27 26,xG 28 27 0 2,xA 29 27 28,qM 30 27 (xa .eql 29 2),xT 31 27 30,qg 5 31] (.cut (wg [xw 32,xL 33 2,qu 34 33,xq 35 cx 34,qb 36 (.beq true (.t 32) (.t 35)),qg 37 36,xx 38 37 5,qM 39 37 (wm 38),xx 40 37 39,wV 41 40 1 2,wQ 42 40 41,qL 43 40 (yl .neq 42 (.c qF)),qM 44 37 (qS 40 (.t 43) wJ),xT 45 37 44] 45 [xi]) (.seq (xS [wR 6] 0 [qg 46 6,xu 47 2,qu 48 47,wh 49 48,wZ 50 46 49] 50 wy 1 (wg [xu 53 2,qu 54 53,qg 55 6,wx 56 4 54 55,yf 57 56,xq 58 eO 57,xo 59 58] 59 [xi]) [qg 51 6,x7 52 51,x9 52]) (.cut (wg [wU 60 2,qu 61 60,wd 62 61 8,qg 63 62,wV 64 63 2 2,wQ 65 63 64,qL 66 63 (qT 4 65 ym),wV 67 63 0 66,wQ 68 63 67,xK 69 63 .neq 68 13,xY 70 63 69] 70 [xi]) (.cut (wg [qq 71 4 2,qu 72 71,wh 73 72,qx 74 .gtr 73 0,qg 75 74,wV 76 75 0 2,wQ 77 75 76,xK 78 75 .neq 77 5,xY 79 75 78,qg 80 79,xG 81 80 3 2,xA 82 80 81,qM 83 80 (wb 82),qM 84 80 (xa .gtr 83 0),xx 85 80 84,wV 86 85 0 2,wQ 87 85 86,xK 88 85 .neq 87 5,qM 89 80 (qS 85 (.t 88) wJ),xx 90 80 89,wV 91 90 0 2,wQ 92 90 91,xK 93 90 .neq 92 6,qM 94 80 (qS 90 (.t 93) wJ),xT 95 80 94] 95 [xi]) (qA [xU 96 2,qu 97 96,xe 98,xH 99 98 1,wM 100 bY 97 99,qg 101 100,wV 102 101 4 2,wQ 103 101 102,xM 104 101 1,xK 105 101 .sub 104 1,qL 106 101 (x8 bY 103 (.t 105)),xY 107 101 106,qg 4 107])))))))
theorem BF:AK.whole rU=FK.ak jg:=rfl
variable (G:al)
theorem sw(n lo hi:Int):VF Tryz.prog G jx [.p (.int .i64 n),.p (.int .i64 lo),.p (.int .i64 hi)] (.p (.bool (inR n lo hi))):=by
 refine AC.go Ej ?_
 by_cases h:lo<=n
 ·simp-implicitDefEqProofs[oo,h,inR]
 ·simp-implicitDefEqProofs[oo,h,inR]
theorem Fe(op:Int):VF Tryz.prog G iY [.p (.int .i64 op)] (.tup [.p (.int .i64 (loK op)),.p (.int .i64 (hiK op))]):=by
 refine AC.go Bq ?_
 by_cases h1:op=1
 ·subst h1;simp-implicitDefEqProofs[dc,loK,hiK]
 by_cases h2:op=2
 ·subst h2;simp-implicitDefEqProofs[dc,loK,hiK]
 by_cases h3:op=11
 ·subst h3;simp-implicitDefEqProofs[dc,loK,hiK]
 by_cases h4:op=12
 ·subst h4;simp-implicitDefEqProofs[dc,loK,hiK]
 by_cases h5:op=13
 ·subst h5;simp-implicitDefEqProofs[dc,loK,hiK]
 simp-implicitDefEqProofs[dc,loK,hiK,h1,h2,h3,h4,h5]
theorem Kk:∀(d:Nat) (e:Ex),e.sz<=1099511627776->d<=1000->VF Tryz.prog G fQ [.agg (e.cs.map .p),.p (.int .i64 d)] (.p (.bool (cm d e))):=by
 intro d
 induction d with
 |zero=>
  intro e he _
  refine AC.go rZ ?_
  simp-implicitDefEqProofs[iW,Ex.cs_eq]
  refine(Fe G _).use ?_
  simp-implicitDefEqProofs[cm]
 |succ d ih=>
  intro e he hd
  have hsz:=e.sz_eq
  have hkl:=bB e.kids
  refine AC.goK rZ BD ?_
  have hd1:¬(d:Int)+1<1:=by omega
  have hw:IntKind.i64.wrap ((d:Int)+1-1)=(d:Int):=by rw[show(d:Int)+1-1=d by omega];exact ab (by omega) (by omega)
  have hw':IntKind.i64.wrap (d:Int)=(d:Int):=ab (by omega) (by omega)
  have hxl:∀l,exL l= .lst 4 (l.map Ex.cs):=λ_=>rfl
  simp-implicitDefEqProofs[ru,iW,Ex.cs_eq]
  refine(Fe G _).use ?_
  simp-implicitDefEqProofs[hd1]
  refine(sw G _ _ _).use ?_
  by_cases h1:inR e.op 1 13=true
  case neg=>simp-implicitDefEqProofs[h1,cm,mZ]
  simp-implicitDefEqProofs[h1,hxl]
  refine(sw G _ _ _).use ?_
  by_cases h2:inR e.kids.length (loK e.op) (hiK e.op)=true
  case neg=>simp-implicitDefEqProofs[h2,cm,mZ]
  simp-implicitDefEqProofs[h2]
  refine jK (ah 86 [(1,.p (.int .i64 (d+1))),(2,.ptr 0 4 0 0),(7,.p (.bool (FU e.op)))]) [.row 4 [[.p (.int .i64 e.op),.p (.int .i64 e.n),.p (.str e.name),.p (.lst 4 (e.kids.map Ex.cs))]]] ?_ ?_
  ·by_cases o2:e.op=2
   ·simp-implicitDefEqProofs[o2]
    exact ae (by simp) (by simp[okO]) (by simp[below,FU])
   ·by_cases o13:e.op=13
    ·simp-implicitDefEqProofs[o13]
     exact ae (by simp) (by simp[okO]) (by simp[below,FU])
    ·simp-implicitDefEqProofs[o2,o13]
     exact ae (by simp) (by simp[okO]) (by simp[below,FU,o2,o13])
  have hn:e.name.length<=140737488355328:=by omega
  refine yy (λ_:Unit=>ah 86 [(1,.p (.int .i64 ((d:Int)+1))),(2,.ptr 0 4 0 0)]) (λ_=>[.row 4 [[.p (.int .i64 e.op),.p (.int .i64 e.n),.p (.str e.name),.p (.lst 4 (e.kids.map Ex.cs))]]]) (λ_=>mZ e=true) ?_ ?_
  ·simp-implicitDefEqProofs[]
   refine(sV G _ hn).use ?_
   simp-implicitDefEqProofs[]
   repeat' first
    |(refine(sw G _ _ _).use ?_;simp-implicitDefEqProofs[])
    |(refine aY (λhc=>?_) (λhc=>?_)<;>simp-implicitDefEqProofs[hc])
   all_goals first
    |exact⟨by simp_all [mZ],ae (by simp) (by simp[okO]) (by simp[below])⟩
    |simp_all [cm,mZ]
  intro _ hh
  simp-implicitDefEqProofs[]
  refine aJ (λi:Nat=>ah 86 [(1,.p (.int .i64 ((d:Int)+1))),(2,.ptr 0 4 0 0),(8,.p (.int .i64 i))]) (λ_=>[.row 4 [[.p (.int .i64 e.op),.p (.int .i64 e.n),.p (.str e.name),.p (.lst 4 (e.kids.map Ex.cs))]]])
   (λi=>i<=e.kids.length/\(e.kids.take i).all (cm d)=true) (λi=>e.kids.length-i) 0 (by simp) (ae (by simp) (by simp[okO]) (by simp[below])) ?_
  intro i ⟨hi,hall⟩
  simp-implicitDefEqProofs[]
  refine aY (λh=>?_) (λh=>?_)
  ·simp at h
   have hg:=UO h
   have hks:=bQ (Ve h)
   simp-implicitDefEqProofs[hg,hw']
   refine(ih e.kids[i] (by omega) (by omega)).use ?_
   by_cases hk:cm d e.kids[i]=true
   ·simp-implicitDefEqProofs[hk]
    refine⟨i+1,⟨h,by rw[←UU,dX h,hall,hk];rfl⟩,by omega,ae (by simp) (by simp[okO]) ?_⟩
    simp[below,w1 (i:=i) (by omega)]
   ·have hk':cm d e.kids[i]=false:=by simpa using hk
    have hf:cm (d+1) e=false:=by simp only[cm,nI h hk',Bool.and_false]
    simp-implicitDefEqProofs[hk',hf]
  ·simp at h
   have hf:cm (d+1) e=true:=by simp only[cm,gF h hall,hh,Bool.and_self]
   simp-implicitDefEqProofs[hf]
theorem Jw{l:List Ex}{i:Nat}(h:i<l.length):gz (l.take (i+1))=gz (l.take i)+l[i].parts:=by
 rw[aq h,jt];simp[gz]
theorem Cx(l:List Ex)(i:Nat):gz (l.take i)<=gz l:=by
 have:=jt (l.take i) (l.drop i)
 rw[VH] at this
 omega
theorem Jl:∀(k:Nat) (e:Ex),e.sz<=k->k<=1099511627776->VF Tryz.prog G gL [.agg (e.cs.map .p)] (.p (.int .i64 e.parts)):=by
 intro k
 induction k with
 |zero=>intro e he;have:=e.sz_eq;omega
 |succ k ih=>
  intro e he hk
  have hsz:=e.sz_eq
  have hkl:=bB e.kids
  have hpe:=e.parts_eq
  have hpz:=Dk e.kids
  refine AC.go Aj ?_
  have hxl:∀l,exL l= .lst 4 (l.map Ex.cs):=λ_=>rfl
  simp-implicitDefEqProofs[pr,Ex.cs_eq,hxl]
  refine aJ (λi:Nat=>ah 21 [(1,.ptr 0 4 0 0),(3,.p (.int .i64 ((1+gz (e.kids.take i):Nat):Int))),(4,.p (.int .i64 i))]) (λ_=>[.row 4 [[.p (.int .i64 e.op),.p (.int .i64 e.n),.p (.str e.name),.p (.lst 4 (e.kids.map Ex.cs))]]])
   (λi=>i<=e.kids.length) (λi=>e.kids.length-i) 0 (by simp) (ae (by simp) (by simp[okO]) (by simp[below,gz])) ?_
  intro i hi
  simp-implicitDefEqProofs[]
  refine aY (λh=>?_) (λh=>?_)
  ·simp at h
   have hg:=UO h
   have hks:=bQ (Ve h)
   have hps:=Jw h
   have hple:=Cx e.kids (i+1)
   simp-implicitDefEqProofs[hg]
   refine(ih e.kids[i] (by omega) (by omega)).use ?_
   have hw:IntKind.i64.wrap (1+(gz (e.kids.take i):Int)+(e.kids[i].parts:Int))=((1+gz (e.kids.take (i+1)):Nat):Int):=by rw[ab (by omega) (by omega)];omega
   simp-implicitDefEqProofs[hw]
   exact⟨i+1,h,by omega,ae (by simp) (by simp[okO]) (by simp[below,w1 (i:=i) (by omega)])⟩
  ·simp at h
   rw[US h]
   simp-implicitDefEqProofs[]
   omega
theorem Em(e:Ex)(he:e.sz<=1099511627776):VF Tryz.prog G eO [.agg (e.cs.map .p)] (.p (.bool (mw e))):=by
 refine AC.go uK ?_
 simp-implicitDefEqProofs[mR]
 have h6:=Kk G 6 e he (by omega)
 refine h6.use ?_
 by_cases h:cm 6 e=true
 ·simp-implicitDefEqProofs[h]
  refine(Jl G _ e (Vb _) he).use ?_
  simp-implicitDefEqProofs[mw,h]
  omega
 ·simp-implicitDefEqProofs[h,mw]
theorem JQ(op:Int):VF Tryz.prog G iV [.p (.int .i64 op)] (.p (.int .i64 (gX op))):=by
 refine AC.go Bv ?_
 by_cases h:op=4
 ·simp-implicitDefEqProofs[mJ,h,gX]
 ·simp-implicitDefEqProofs[mJ,h,gX]
theorem vA(d:Nat)(hd:d<=1000)(hs:∀s:Sm,s.sz<=1099511627776->VF Tryz.prog G jf [.agg (s.cs.map .p),.p (.int .i64 d)] (.p (.bool (az d s))))(l:List Sm)(hl:aD l<=1099511627776):
 VF Tryz.prog G bY [.p (smL l),.p (.int .i64 d)] (.p (.bool (l.all (az d)))):=by
 refine AC.go Ag ?_
 have hll:=cr l
 have hsl:∀l,smL l= .lst 5 (l.map Sm.cs):=λ_=>rfl
 simp-implicitDefEqProofs[oF]
 refine aJ (λi:Nat=>ah 19 [(0,.p (smL l)),(1,.p (.int .i64 d)),(5,.p (.int .i64 i))]) (λ_=>[]) (λi=>i<=l.length/\(l.take i).all (az d)=true) (λi=>l.length-i) 0 (by simp) (bp rfl (by simp[below,hsl])) ?_
 intro i ⟨hi,hall⟩
 simp-implicitDefEqProofs[hsl]
 refine aY (λh=>?_) (λh=>?_)
 ·simp at h
  have hg:=UO h
  have hks:=dP (Ve h)
  simp-implicitDefEqProofs[hg]
  refine(hs l[i] (by omega)).use ?_
  by_cases hk:az d l[i]=true
  ·simp-implicitDefEqProofs[hk]
   exact⟨i+1,⟨h,by rw[←UU,dX h,hall,hk];rfl⟩,by omega,bp rfl (by simp[below,hsl,w1 (i:=i) (by omega)])⟩
  ·have hk':az d l[i]=false:=by simpa using hk
   have hf:=nI h hk'
   simp-implicitDefEqProofs[hk',hf]
 ·simp at h
  have hf:=gF h hall
  simp-implicitDefEqProofs[hf]
theorem KH:∀(d:Nat),d<=1000->∀s:Sm,s.sz<=1099511627776->VF Tryz.prog G jf [.agg (s.cs.map .p),.p (.int .i64 d)] (.p (.bool (az d s))):=by
 intro d
 induction d with
 |zero=>
  intro _ s _
  refine AC.go sa ?_
  simp-implicitDefEqProofs[jg,Sm.cs_eq,az]
 |succ d ih=>
  intro hd s he
  have hsz:=s.sz_eq
  have hal:=bB s.args
  have hbl:=cr s.body
  have hel:=cr s.els
  have ihs:=vA G d (by omega) (ih (by omega))
  refine AC.goK sa BF ?_
  have hd1:¬(d:Int)+1<1:=by omega
  have hw':IntKind.i64.wrap (d:Int)=(d:Int):=ab (by omega) (by omega)
  have hxl:∀l,exL l= .lst 4 (l.map Ex.cs):=λ_=>rfl
  have hsl:∀l,smL l= .lst 5 (l.map Sm.cs):=λ_=>rfl
  have hn:s.name.length<=140737488355328:=by omega
  simp-implicitDefEqProofs[rU,jg,Sm.cs_eq]
  generalize hH:[AO.row 5 [[AV.p (.int .i64 s.op),.p (.str s.name),.p (exL s.args),.p (smL s.body),.p (smL s.els)]]]=H
  have hho:∀o∈H,okO H.length o:=by rw[←hH];simp[okO]
  have hhl:0<H.length:=by rw[←hH];simp
  have hh0:H[0]?=some (AO.row 5 [[AV.p (.int .i64 s.op),.p (.str s.name),.p (exL s.args),.p (smL s.body),.p (smL s.els)]]):=by rw[←hH];rfl
  have hhL:H.length=1:=by rw[←hH];rfl
  refine yy (λ_:Unit=>ah 108 [(1,.p (.int .i64 ((d:Int)+1))),(2,.ptr 0 5 0 0)]) (λ_=>H) (λ_=>inR s.op 1 8=true/\s.args.length=gX s.op) ?_ ?_
  ·simp-implicitDefEqProofs[hd1,hh0]
   refine(sw G _ _ _).use ?_
   by_cases h1:inR s.op 1 8=true
   case neg=>simp-implicitDefEqProofs[h1,az,jo]
   simp-implicitDefEqProofs[h1,hh0,hxl]
   refine(JQ G _).useQ ?_
   by_cases h2:s.args.length=gX s.op
   ·simp-implicitDefEqProofs[h2]
    exact ae (by omega) hho (by simp[below,hhl])
   ·have h2':¬(s.args.length:Int)=(gX s.op:Int):=by omega
    simp-implicitDefEqProofs[h2,h2',az,jo]
  intro _ ⟨h1,h2⟩
  refine yy (λ_:Unit=>ah 108 [(1,.p (.int .i64 ((d:Int)+1))),(2,.ptr 0 5 0 0),(5,.p (.bool (cL s.op)))]) (λ_=>H) (λ_=>True) ?_ ?_
  ·simp-implicitDefEqProofs[hh0]
   by_cases o1:s.op=1
   ·simp-implicitDefEqProofs[o1,hh0,cL]
    exact ae (by omega) hho (by simp[below,hhl])
   ·by_cases o2:s.op=2
    ·simp-implicitDefEqProofs[o2,hh0,cL]
     exact ae (by omega) hho (by simp[below,hhl])
    ·simp-implicitDefEqProofs[o1,o2,hh0,cL]
     exact ae (by omega) hho (by simp[below,hhl])
  intro _ _
  refine yy (λ_:Unit=>ah 108 [(1,.p (.int .i64 ((d:Int)+1))),(2,.ptr 0 5 0 0)]) (λ_=>H) (λ_=>(cL s.op==aH s.name)=true/\(cL s.op||decide (s.name=[]))=true) ?_ ?_
  ·simp-implicitDefEqProofs[hh0]
   refine(sV G _ hn).use ?_
   simp-implicitDefEqProofs[hh0]
   repeat' first
    |(refine aY (λhc=>?_) (λhc=>?_)<;>simp-implicitDefEqProofs[hc,hh0])
   all_goals first
    |exact ae (by omega) hho (by simp[below,hhl])
    |exact⟨by simp_all,by simp_all,ae (by omega) hho (by simp[below,hhl])⟩
    |exact⟨by simp_all,ae (by omega) hho (by simp[below,hhl])⟩
    |(simp_all [az,jo];done)
  intro _ ⟨h3,h4⟩
  simp-implicitDefEqProofs[]
  refine aJ (λi:Nat=>ah 108 [(1,.p (.int .i64 ((d:Int)+1))),(2,.ptr 0 5 0 0),(6,.p (.int .i64 i))]) (λ_=>H) (λi=>i<=s.args.length/\(s.args.take i).all mw=true) (λi=>s.args.length-i) 0 (by simp) (ae (by omega) hho (by simp[below,hhl])) ?_
  intro i ⟨hi,hall⟩
  simp-implicitDefEqProofs[hh0,hxl]
  refine aY (λh=>?_) (λh=>?_)
  ·simp at h
   have hg:=UO h
   have hks:=bQ (Ve h)
   simp-implicitDefEqProofs[hg,hh0,hxl]
   refine(Em G s.args[i] (by omega)).use ?_
   by_cases hk:mw s.args[i]=true
   ·simp-implicitDefEqProofs[hk]
    exact⟨i+1,⟨h,by rw[←UU,dX h,hall,hk];rfl⟩,by omega,ae (by omega) hho (by simp[below,hhl,w1 (i:=i) (by omega)])⟩
   ·have hk':mw s.args[i]=false:=by simpa using hk
    have hf:az (d+1) s=false:=by simp only[az,jo,nI h hk',Bool.and_false,Bool.false_and]
    simp-implicitDefEqProofs[hk',hf]
  simp at h
  have h5:s.args.all mw=true:=gF h hall
  have hlen1:1<=s.args.length:=by rw[h2];unfold gX;split<;>omega
  obtain⟨a0,ar,ha⟩:∃a r,s.args=a::r:=by
   cases hh:s.args with
   |nil=>rw[hh] at hlen1;simp at hlen1
   |cons a r=>exact⟨a,r,rfl⟩
  have ha0:s.args[0]?=some a0:=by rw[ha];rfl
  refine yy (λ_:Unit=>ah 108 [(1,.p (.int .i64 ((d:Int)+1))),(2,.ptr 0 5 0 0)]) (λ_=>H) (λ_=>(!decide (s.op=8)||decide (a0.op=13))=true) ?_ ?_
  ·simp-implicitDefEqProofs[hh0]
   by_cases o8:s.op=8
   ·have hae:=a0.cs_eq
    simp-implicitDefEqProofs[o8,hh0,hxl,ha0,hae]
    refine aY (λhc=>?_) (λhc=>?_)
    ·simp at hc
     have hf:az (d+1) s=false:=by simp[az,jo,o8,ha,hc]
     simp-implicitDefEqProofs[hf]
    ·simp at hc
     simp-implicitDefEqProofs[hc]
     exact ae (by omega) hho (by simp[below,hhl])
   ·simp-implicitDefEqProofs[o8,hh0]
    exact ae (by omega) hho (by simp[below,hhl])
  intro _ h6
  refine yy (λ_:Unit=>ah 108 [(1,.p (.int .i64 ((d:Int)+1))),(2,.ptr 0 5 0 0)]) (λ_=>H) (λ_=>(s.els.isEmpty||decide (s.op=5))=true/\(s.body.isEmpty||decide (s.op=5)||decide (s.op=6))=true) ?_ ?_
  ·have hf:¬((s.els.isEmpty||decide (s.op=5))=true/\(s.body.isEmpty||decide (s.op=5)||decide (s.op=6))=true)->az (d+1) s=false:=λh=>by
    have:jo s=false:=by
     cases hx:jo s with
     |false=>rfl
     |true=>refine absurd ?_ h;simp only[jo,Vf] at hx;exact⟨hx.1.2,hx.2⟩
    simp[az,this]
   have pe:¬s.els=[]->0<s.els.length:=List.length_pos_iff.2
   have pb:¬s.body=[]->0<s.body.length:=List.length_pos_iff.2
   by_cases o5:s.op=5
   ·simp-implicitDefEqProofs[hh0,hsl,o5]
    repeat' first
     |(refine aY (λhc=>?_) (λhc=>?_)<;>simp-implicitDefEqProofs[hc,hh0,hsl,o5])
    all_goals exact ae (by omega) hho (by simp[below,hhl])
   by_cases e1:s.els=[]
   case neg=>
    have hf:=hf (by simp[e1,o5])
    have:=pe e1
    simp-implicitDefEqProofs[hh0,hsl,o5,e1,this,hf]
   by_cases e2:s.body=[]
   ·simp-implicitDefEqProofs[hh0,hsl,o5,e1,e2]
    exact ae (by omega) hho (by simp[below,hhl])
   have:=pb e2
   by_cases o6:s.op=6
   ·simp-implicitDefEqProofs[hh0,hsl,o6,e1,e2,this]
    exact ae (by omega) hho (by simp[below,hhl])
   ·have hf:=hf (by simp[e2,o5,o6])
    simp-implicitDefEqProofs[hh0,hsl,o5,o6,e1,e2,this,hf]
  intro _ ⟨h7,h8⟩
  have hm:(match s.args with|a::_=>decide (a.op=13)|[]=>false)=decide (a0.op=13):=by rw[ha]
  have hhd:jo s=true:=by
   have h6':(!decide (s.op=8)||(match s.args with|a::_=>decide (a.op=13)|[]=>false))=true:=by rw[hm];exact h6
   have h2':decide (s.args.length=gX s.op)=true:=by simp[h2]
   simp only[jo,h1,h2',h3,h4,h5,h7,h8,Bool.and_self,Bool.and_true,Bool.true_and]
   exact h6'
  simp-implicitDefEqProofs[hh0,hw']
  refine(ihs s.body (by omega)).use ?_
  by_cases hB:s.body.all (az d)=true
  ·simp only[hB]
   simp-implicitDefEqProofs[hh0,hw']
   refine(ihs s.els (by omega)).use ?_
   have hf:az (d+1) s=s.els.all (az d):=by simp only[az,hhd,hB,Bool.true_and]
   rw[hf]
   generalize s.els.all (az d)=w
   simp-implicitDefEqProofs[]
  ·have hB':s.body.all (az d)=false:=by simpa using hB
   have hf:az (d+1) s=false:=by simp only[az,hB',Bool.and_false,Bool.false_and]
   simp only[hB',hf]
   simp-implicitDefEqProofs[]
theorem Jh(d:Nat)(hd:d<=1000)(l:List Sm)(hl:aD l<=1099511627776):VF Tryz.prog G bY [.p (smL l),.p (.int .i64 d)] (.p (.bool (l.all (az d)))):=
 vA G d hd (KH G d hd) l hl
theorem OX(f:Fd)(hf:f.sz<=1099511627776):VF Tryz.prog G oU [.agg (f.cs.map .p)] (.p (.bool (jA f))):=by
 refine AC.go Fq ?_
 have hsz:f.sz=1+f.name.length+(f.params.length+(f.params.map List.length).sum)+aD f.body:=rfl
 have hps:∀x∈f.params,x.length<=(f.params.map List.length).sum:=λx hx=>by
  have key:∀l:List (List UInt8),x∈l->x.length<=(l.map List.length).sum:=by
   intro l
   induction l with
   |nil=>intro h;cases h
   |cons y r ih=>
    intro h
    simp only[Vn,List.sum_cons]
    rcases UX.1 h with rfl|h
    ·omega
    ·have:=ih h;omega
  exact key _ hx
 have hst:aw f.params= .lst 1 (f.params.map λw=>[.str w]):=rfl
 have h4:=Jh G 4 (by omega) f.body (by omega)
 simp-implicitDefEqProofs[vF,Fd.cs,hst]
 refine aJ (λi:Nat=>ah 32 [(1,.ptr 0 3 0 0),(3,.p (.int .i64 i))]) (λ_=>[.row 3 [[.p (.str f.name),.p (aw f.params),.p (smL f.body)]]]) (λi=>i<=f.params.length/\(f.params.take i).all aH=true) (λi=>f.params.length-i) 0 (by simp) (ae (by simp) (by simp[okO]) (by simp[below])) ?_
 intro i ⟨hi,hall⟩
 simp-implicitDefEqProofs[hst]
 refine aY (λh=>?_) (λh=>?_)
 ·simp at h
  have hg:=UO h
  have hl:=hps _ (Ve h)
  simp-implicitDefEqProofs[hg]
  refine(sV G _ (by omega)).use ?_
  by_cases hk:aH f.params[i]=true
  ·simp-implicitDefEqProofs[hk]
   exact⟨i+1,⟨h,by rw[←UU,dX h,hall,hk];rfl⟩,by omega,ae (by simp) (by simp[okO]) (by simp[below,w1 (i:=i) (by omega)])⟩
  ·have hk':aH f.params[i]=false:=by simpa using hk
   have hff:jA f=false:=by simp only[jA,nI h hk',Bool.false_and]
   simp-implicitDefEqProofs[hk',hff]
 ·simp at h
  have h1:f.params.all aH=true:=gF h hall
  simp-implicitDefEqProofs[]
  refine(sV G _ (by omega)).use ?_
  by_cases h2:aH f.name=true
  case neg=>
   have h2':aH f.name=false:=by simpa using h2
   simp-implicitDefEqProofs[h2',jA]
  simp-implicitDefEqProofs[h2]
  by_cases h3:f.params.length<=3
  case neg=>
   have h3':¬(f.params.length:Int)<=3:=by omega
   simp-implicitDefEqProofs[h3,h3',jA]
  have h3':(f.params.length:Int)<=3:=by omega
  simp-implicitDefEqProofs[h3']
  refine h4.use ?_
  have hff:jA f=f.body.all (az 4):=by simp only[jA,h1,h2,h3,decide_true,Bool.true_and]
  rw[hff]
  generalize f.body.all (az 4)=w
  simp-implicitDefEqProofs[]
theorem IX{l:List Sm}{i:Nat}(h:i<l.length):dQ (l.take (i+1))=dQ (l.take i)+l[i].cnt:=by
 rw[aq h,ph];simp[dQ]
theorem sZ(l:List Sm)(i:Nat):dQ (l.take i)<=dQ l:=by
 have:=ph (l.take i) (l.drop i)
 rw[VH] at this
 omega
def lJ(l:List Sm)(i:Nat):Nat:=l.length+((l.take i).map λs=>dQ s.body+dQ s.els).sum
theorem Fu(l:List Sm):lJ l 0=l.length:=by simp[lJ]
theorem yZ{l:List Sm}{i:Nat}(h:i<l.length):lJ l (i+1)=lJ l i+dQ l[i].body+dQ l[i].els:=by
 rw[lJ,lJ,aq h,List.map_append,List.sum_append]
 simp only[Vn,List.map_nil,List.sum_cons,List.sum_nil]
 omega
theorem uS(l:List Sm):∀i,i<=l.length->dQ (l.take i)+l.length=i+lJ l i
 |0,_=>by simp[dQ,lJ]
 |i+1,h=>by
  have:=uS l i (by omega)
  rw[IX (by omega),yZ (by omega),(l[i]'(by omega)).cnt_eq]
  omega
theorem Iu:∀(k:Nat) (l:List Sm),aD l<=k->k<=1099511627776->VF Tryz.prog G eI [.p (smL l)] (.p (.int .i64 (dQ l))):=by
 intro k
 induction k with
 |zero=>
  intro l hl _
  have:l=[]:=by
   cases l with
   |nil=>rfl
   |cons s r=>have:=s.sz_eq;simp only[aD] at hl;omega
  subst this
  refine AC.go oL ?_
  have hsl:smL []= .lst 5 []:=rfl
  simp-implicitDefEqProofs[lq,hsl]
  refine aJ (λ_:Unit=>ah 29 [(0,.p (.lst 5 [])),(3,.p (.int .i64 0)),(4,.p (.int .i64 0))]) (λ_=>[]) (λ_=>True) (λ_=>0) () trivial (bp rfl (by simp[below])) ?_
  intro _ _
  simp-implicitDefEqProofs[dQ]
 |succ k ih=>
  intro l hl hk
  have hll:=cr l
  have hnz:=pK l
  refine AC.go oL ?_
  have hsl:∀l,smL l= .lst 5 (l.map Sm.cs):=λ_=>rfl
  simp-implicitDefEqProofs[lq,hsl]
  refine aJ (λi:Nat=>ah 29 [(0,.p (smL l)),(3,.p (.int .i64 (lJ l i))),(4,.p (.int .i64 i))]) (λ_=>[]) (λi=>i<=l.length) (λi=>l.length-i) 0 (by simp) (bp rfl (by simp[below,hsl,Fu])) ?_
  intro i hi
  have k0:=uS l i hi
  have k2:=sZ l i
  simp-implicitDefEqProofs[hsl]
  refine aY (λh=>?_) (λh=>?_)
  ·simp at h
   have hg:=UO h
   have hks:=dP (Ve h)
   have hse:=l[i].sz_eq
   have hce:=l[i].cs_eq
   have k1:=yZ h
   have k3:=uS l (i+1) h
   have k4:=sZ l (i+1)
   simp-implicitDefEqProofs[hg,hce]
   refine(ih l[i].body (by omega) (by omega)).use ?_
   simp-implicitDefEqProofs[hg,hce]
   refine(ih l[i].els (by omega) (by omega)).use ?_
   have w1':IntKind.i64.wrap ((lJ l i:Int)+(dQ l[i].body:Int))=(lJ l i:Int)+(dQ l[i].body:Int):=ab (by omega) (by omega)
   have w2':IntKind.i64.wrap ((lJ l i:Int)+(dQ l[i].body:Int)+(dQ l[i].els:Int))=(lJ l (i+1):Int):=by rw[ab (by omega) (by omega)];omega
   simp-implicitDefEqProofs[w1',w2']
   exact⟨i+1,h,by omega,bp rfl (by simp[below,hsl,w1 (i:=i) (by omega)])⟩
  ·simp at h
   rw[US h] at k0
   have:lJ l i=dQ l:=by omega
   simp-implicitDefEqProofs[this]
theorem dD:∀{l:List Fd} {f:Fd},f∈l->f.sz<=aN l
 |x::r,e,h=>by
  simp only[aN,Vn,List.sum_cons]
  rcases UX.1 h with rfl|h
  ·omega
  ·have:=dD h;simp only[aN] at this;omega
theorem fS:∀l:List Fd,l.length<=aN l
 |[]=>Vb _
 |e::r=>by have:=fS r;simp only[aN,Vn,List.sum_cons,Vh] at this⊢;have:1<=e.sz:=by unfold Fd.sz;omega
           omega
def zC(l:List Fd)(i:Nat):Nat:=mT (l.take i)
theorem Jm{l:List Fd}{i:Nat}(h:i<l.length):zC l (i+1)=zC l i+dQ l[i].body:=by
 rw[zC,zC,mT,mT,aq h,List.map_append,List.sum_append];simp
theorem Dg:∀l:List Fd,mT l<=aN l
 |[]=>Vb _
 |f::r=>by
  have:=Dg r
  have h2:=pK f.body
  simp only[mT,aN,Vn,List.sum_cons] at this⊢
  have:aD f.body<=f.sz:=by unfold Fd.sz;omega
  omega
theorem Nj(l:List Fd)(i:Nat):zC l i<=aN l:=by
 have h1:=Dg (l.take i)
 have h2:aN (l.take i)<=aN l:=by
  have:aN l=aN (l.take i)+aN (l.drop i):=by
   rw[←VH i l,aN,List.map_append,List.sum_append];simp[aN]
  omega
 exact Vj h1 h2
theorem NX(l:List Fd)(hl:aN l<=1099511627776):VF Tryz.prog G nK [.agg [.p (fdL l)]] (.p (.int .i64 (mT l))):=by
 refine AC.go Dn ?_
 have hll:=fS l
 have hfl:∀l,fdL l= .lst 3 (l.map Fd.cs):=λ_=>rfl
 simp-implicitDefEqProofs[uj]
 refine aJ (λi:Nat=>ah 22 [(1,.ptr 0 1 0 0),(3,.p (.int .i64 (zC l i))),(4,.p (.int .i64 i))]) (λ_=>[.row 1 [[.p (fdL l)]]]) (λi=>i<=l.length) (λi=>l.length-i) 0 (by simp) (ae (by simp) (by simp[okO]) (by simp[below,zC,mT])) ?_
 intro i hi
 simp-implicitDefEqProofs[hfl]
 refine aY (λh=>?_) (λh=>?_)
 ·simp at h
  have hg:=UO h
  have hks:=dD (Ve h)
  have hse:l[i].sz=1+l[i].name.length+(l[i].params.length+(l[i].params.map List.length).sum)+aD l[i].body:=rfl
  have hce:l[i].cs=[.str l[i].name,aw l[i].params,smL l[i].body]:=rfl
  have k1:=Jm h
  have k2:=Nj l (i+1)
  simp-implicitDefEqProofs[hg,hce]
  refine(Iu G _ l[i].body (Vb _) (by omega)).use ?_
  have w1':IntKind.i64.wrap ((zC l i:Int)+(dQ l[i].body:Int))=(zC l (i+1):Int):=by rw[ab (by omega) (by omega)];omega
  simp-implicitDefEqProofs[w1']
  exact⟨i+1,h,by omega,ae (by simp) (by simp[okO]) (by simp[below,w1 (i:=i) (by omega),hfl])⟩
 ·simp at h
  have:zC l i=mT l:=by rw[zC,US h]
  simp-implicitDefEqProofs[this]
theorem la(l:List Fd)(hl:aN l<=1099511627776):VF Tryz.prog G dp [.agg [.p (fdL l)]] (.p (.bool (bt l))):=by
 refine AC.go rk ?_
 have hfl:∀l,fdL l= .lst 3 (l.map Fd.cs):=λ_=>rfl
 have hall:=NX G l hl
 have hll:=fS l
 rw[hfl] at hall
 simp-implicitDefEqProofs[ki,hfl]
 refine(sw G _ _ _).use ?_
 by_cases h1:inR l.length 1 4=true
 case neg=>simp-implicitDefEqProofs[h1,bt]
 simp-implicitDefEqProofs[h1]
 refine aJ (λi:Nat=>ah 26 [(1,.ptr 0 1 0 0),(3,.p (.int .i64 i))]) (λ_=>[.row 1 [[.p (.lst 3 (l.map Fd.cs))]]]) (λi=>i<=l.length/\(l.take i).all jA=true) (λi=>l.length-i) 0 (by simp) (ae (by simp) (by simp[okO]) (by simp[below])) ?_
 intro i ⟨hi,ha⟩
 simp-implicitDefEqProofs[]
 refine aY (λh=>?_) (λh=>?_)
 ·simp at h
  have hg:=UO h
  have hks:=dD (Ve h)
  simp-implicitDefEqProofs[hg]
  refine(OX G l[i] (by omega)).use ?_
  by_cases hk:jA l[i]=true
  ·simp-implicitDefEqProofs[hk]
   exact⟨i+1,⟨h,by rw[←UU,dX h,ha,hk];rfl⟩,by omega,ae (by simp) (by simp[okO]) (by simp[below,w1 (i:=i) (by omega)])⟩
  ·have hk':jA l[i]=false:=by simpa using hk
   have hff:bt l=false:=by simp only[bt,nI h hk',Bool.and_false,Bool.false_and]
   simp-implicitDefEqProofs[hk',hff]
 ·simp at h
  have h2:l.all jA=true:=gF h ha
  simp-implicitDefEqProofs[]
  refine hall.use ?_
  have hff:bt l=decide (mT l<=40):=by simp only[bt,h1,h2,Bool.true_and]
  simp-implicitDefEqProofs[hff]
  omega
end
section
theorem Ex.ext'{a b:Ex}(h1:a.op=b.op)(h2:a.n=b.n)(h3:a.name=b.name)(h4:a.kids=b.kids):a=b:=by
 cases a;cases b;simp only[Ex.op,Ex.n,Ex.name,Ex.kids] at*;subst h1 h2 h3 h4;rfl
theorem Sm.ext'{a b:Sm}(h1:a.op=b.op)(h2:a.name=b.name)(h3:a.args=b.args)(h4:a.body=b.body)(h5:a.els=b.els):a=b:=by
 cases a;cases b;simp only[Sm.op,Sm.name,Sm.args,Sm.body,Sm.els] at*;subst h1 h2 h3 h4 h5;rfl
variable (G:al)
end
section
def ixI:Option Nat->Int|none=> -1|some i=>i
def vaC(nf:Bool)(id n:Nat):AV:=if nf then .nils else .sl id 3 0 n
def lvC(v:LV):List AV:=[.p (.str v.name),.p (.int .i64 v.num),.p (.int .i64 v.block)]
def lvR(vs:List LV):List (List AV):=vs.reverse.map lvC
def roC(nf:Bool)(vs:List LV):AO:=if nf then .dead else .row 3 (lvR vs)
def wC(id:Nat)(nf:Bool)(fns:List Fd)(k:Nat)(w:WS):List AV:=[.p (fdL fns),.p (.int .i64 k),vaC nf id w.vs.length,.p (.int .i64 w.count),.p (.int .i64 w.code)]
def wO(id:Nat)(nf:Bool)(fns:List Fd)(k:Nat)(w:WS):AO:= .row 5 [wC id nf fns k w]
def HWk(nf:Bool)(fns:List Fd)(k:Nat)(w:WS):List AO:=[wO 1 nf fns k w,roC nf w.vs]
theorem yJ(vs:List LV):(lvR vs).length=vs.length:=by simp[lvR]
theorem EV(vs:List LV):∀x∈lvR vs,af 0 x:=by
 intro x hx;obtain⟨m,_,rfl⟩:=Vi.1 hx;simp[lvC,af,below]
theorem gi(nf:Bool)(vs:List LV)(n:Nat):okO n (roC nf vs):=by
 cases nf
 ·exact dH (λe he=>EV vs e he)
 ·exact trivial
theorem Is{nf:Bool}{id n m:Nat}(h:id<m):below m (vaC nf id n):=by cases nf<;>simp[vaC,below,h]
theorem AP{id:Nat}{nf:Bool}{fns:List Fd}{k:Nat}{w:WS}{m:Nat}(h:id<m):af m (wC id nf fns k w):=⟨by simp,by simp,Is h,by simp,by simp,trivial⟩
theorem vG{id:Nat}{nf:Bool}{fns:List Fd}{k:Nat}{w:WS}{m:Nat}(h:id<m):okO m (wO id nf fns k w):=by
 intro e he;rw[UY.1 he];exact AP h
theorem NM(σ:List Nat)(nf:Bool)(id n:Nat):ren σ (vaC nf id n)=vaC nf (σ.getD id 0) n:=by cases nf<;>rfl
theorem Dm(σ:List Nat)(id:Nat)(nf:Bool)(fns:List Fd)(k:Nat)(w:WS):be σ (wC id nf fns k w)=wC (σ.getD id 0) nf fns k w:=by
 simp only[wC,be,NM];rfl
theorem Ho(σ:List Nat)(id:Nat)(nf:Bool)(fns:List Fd)(k:Nat)(w:WS):gT σ (wO id nf fns k w)=wO (σ.getD id 0) nf fns k w:=by
 simp only[wO,gT,Vn,List.map_nil,Dm]
theorem EZ(σ:List Nat)(nf:Bool)(vs:List LV):gT σ (roC nf vs)=roC nf vs:=by
 cases nf
 ·show AO.row 3 ((lvR vs).map (be σ))= .row 3 (lvR vs)
  rw[Vp (g:=id) λx hx=>dv σ x (EV vs x hx)];simp
 ·rfl
theorem Fx(pre:List LV)(v:LV)(r:List LV):(lvR (pre++v::r))[r.length]?=some (lvC v):=by
 simp[lvR]
theorem Ls(v:LV)(r:List LV):lvR (v::r)=lvR r++[lvC v]:=by simp[lvR]
def vp:List LV->List UInt8->Int
 |[],_=> -1
 |v::r,s=>if v.name=s then r.length else vp r s
theorem uW:∀(vs:List LV) (s:List UInt8),(lkV vs s=none/\vp vs s= -1)\/∃pre v r,vs=pre++v::r/\lkV vs s=some v/\vp vs s=r.length
 |[],s=> .inl ⟨rfl,rfl⟩
 |v::r,s=>by
  by_cases h:v.name=s
  ·exact .inr ⟨[],v,r,rfl,by simp[lkV,h],by simp[vp,h]⟩
  ·have h1:lkV (v::r) s=lkV r s:=by simp[lkV,h]
   have h2:vp (v::r) s=vp r s:=by simp[vp,h]
   rw[h1,h2]
   rcases uW r s with h|⟨pre,u,q,e,h⟩
   ·exact .inl h
   ·exact .inr ⟨v::pre,u,q,by rw[e];rfl,h⟩
theorem tD:AK.whole gD=FK.ak gR:=rfl
variable (G:al)
theorem GG(l:List Fd)(s:List UInt8)(hl:l.length<=1099511627776):VF Tryz.prog G js [.agg [.p (fdL l)],.p (.str s)] (.p (.int .i64 (ixI (bU l s)))):=by
 refine AC.go Eu ?_
 have hfl:∀l,fdL l= .lst 3 (l.map Fd.cs):=λ_=>rfl
 simp-implicitDefEqProofs[vJ,hfl]
 refine aJ (λi:Nat=>ah 22 [(1,.p (.str s)),(2,.ptr 0 1 0 0),(5,.p (.int .i64 i))]) (λ_=>[.row 1 [[.p (.lst 3 (l.map Fd.cs))]]]) (λi=>i<=l.length/\∀f∈l.take i,f.name≠s) (λi=>l.length-i) 0 (by simp) (ae (by simp) (by simp[okO]) (by simp[below])) ?_
 intro i ⟨hi,hn⟩
 simp-implicitDefEqProofs[]
 refine aY (λh=>?_) (λh=>?_)
 ·simp at h
  have hg:=UO h
  have hce:l[i].cs=[.str l[i].name,aw l[i].params,smL l[i].body]:=rfl
  by_cases he:l[i].name=s
  ·have hf:bU l s=some i:=by
    rw[bU,Vg]
    exact⟨h,by simpa using he,λj hj=>by have:=hn l[j] (VV.2 ⟨j,by omega,rfl⟩);simpa using this⟩
   simp-implicitDefEqProofs[hg,hce,he,hf,ixI]
  ·simp-implicitDefEqProofs[hg,hce,he]
   refine⟨i+1,⟨h,λp hp=>?_⟩,by omega,ae (by simp) (by simp[okO]) (by simp[below,w1 (i:=i) (by omega)])⟩
   rw[aq h] at hp
   rcases UW.1 hp with hp|hp
   ·exact hn p hp
   ·rw[UY.1 hp];exact he
 ·simp at h
  rw[US h] at hn
  have hf:bU l s=none:=by
   rw[bU,Vu];intro x hx;simpa using hn x hx
  simp-implicitDefEqProofs[hf,ixI]
theorem Qv:∀m:Nat,m<26->((([97,98,99,100,101,102,103,104,105,106,107,108,109,110,111,112,113,114,115,116,117,118,119,120,121,122]:List UInt8).take (m+1)).drop m)=[UInt8.ofNat (97+m)]:=by decide
theorem NN:∀m:Nat,m<26->List.drop m ((97:UInt8)::List.take m [98,99,100,101,102,103,104,105,106,107,108,109,110,111,112,113,114,115,116,117,118,119,120,121,122])=[97+UInt8.ofNat m]:=by decide
theorem zk(n:Nat):VF Tryz.prog G iZ [.p (.int .i64 n)] (.p (.str (vnm n))):=by
 refine AC.go Br ?_
 have hm:n%26<26:=Nat.mod_lt _ (by omega)
 have ht:(n:Int).tmod 26=((n%26:Nat):Int):=rfl
 have hw:IntKind.i64.wrap (((n%26:Nat):Int)+1)=((n%26+1:Nat):Int):=w1 (by omega)
 have habc:=Qv _ hm
 rw[vnm]
 generalize n%26=m at hm ht hw habc
 have h0:(0:Int)<=(m:Int)+1:=by omega
 have h1:m+1<=26:=by omega
 simp-implicitDefEqProofs[rv,ht,hw,h0,h1]
 exact⟨by omega,NN m hm⟩
theorem pN(nf:Bool)(fns:List Fd)(k:Nat)(w:WS)(c:Int):AC Tryz.prog G bu [.ptr 0 5 0 0,.p (.int .i64 c)] (HWk nf fns k w) λx h=>x= .ret (.tup [])/\h=HWk nf fns k ⟨w.vs,w.count,fl w.code c⟩:=by
 refine AC.go sH ?_
 by_cases h0:w.code=0
 ·simp-implicitDefEqProofs[gf,HWk,wO,wC,h0,fl]
 ·simp-implicitDefEqProofs[gf,HWk,wO,wC,h0,fl]
theorem Af(nf:Bool)(fns:List Fd)(k:Nat)(w:WS):∀o∈HWk nf fns k w,okO 2 o:=by
 intro o ho
 simp only[HWk,UX,Vk,or_false] at ho
 rcases ho with rfl|rfl
 ·exact vG (by omega)
 ·exact gi _ _ _
theorem GU(nf:Bool)(fns:List Fd)(k:Nat)(w:WS)(hn:nf=true->w.vs=[])(hl:w.vs.length<=1099511627776)(s:List UInt8):AC Tryz.prog G dG [.ptr 0 5 0 0,.p (.str s)] (HWk nf fns k w) λx h=>x= .ret (.p (.int .i64 (vp w.vs s)))/\h=HWk nf fns k w:=by
 refine AC.go sD ?_
 have hok:=Af nf fns k w
 cases nf with
 |true=>
  have hv:=hn rfl
  rw[HWk] at hok⊢
  simp-implicitDefEqProofs[gr,wO,wC,vaC,hv]
  refine aJ (λ_:Unit=>ah 27 [(0,.ptr 0 5 0 0),(1,.p (.str s)),(5,.p (.int .i64 (-1)))]) (λ_=>[wO 1 true fns k w,roC true w.vs]) (λ_=>True) (λ_=>0) () trivial ?_ ?_
  ·have e:wO 1 true fns k w= .row 5 [[.p (fdL fns),.p (.int .i64 k),.nils,.p (.int .i64 w.count),.p (.int .i64 w.code)]]:=by simp[wO,wC,vaC]
   rw[←e,←hv]
   exact ae (by simp) hok (by simp[below,ab (x:= -1) (by omega) (by omega)])
  ·intro _ _
   simp-implicitDefEqProofs[vp]
   simp[wO,wC,vaC,hv]
 |false=>
  rw[HWk] at hok⊢
  have e:∀r,roC false r= .row 3 (lvR r):=λ_=>rfl
  have hw0:IntKind.i64.wrap ((w.vs.length:Int)-1)=(w.vs.length:Int)-1:=ab (by omega) (by omega)
  simp-implicitDefEqProofs[gr,wO,wC,vaC,hw0]
  refine aJ (λr:List LV=>ah 27 [(0,.ptr 0 5 0 0),(1,.p (.str s)),(5,.p (.int .i64 ((r.length:Int)-1)))]) (λ_=>[wO 1 false fns k w,roC false w.vs]) (λr=>∃pre,w.vs=pre++r/\vp w.vs s=vp r s) (λr=>r.length) w.vs ⟨[],rfl,rfl⟩ ?_ ?_
  ·exact ae (h:=[wO 1 false fns k w,roC false w.vs]) (by simp) hok (by simp[below])
  ·rintro r ⟨pre,e1,e2⟩
   cases r with
   |nil=>
    simp-implicitDefEqProofs[wO,wC,vaC]
    rw[e2];rfl
   |cons v r=>
    have hat:=Fx pre v r
    rw[←e1] at hat
    have hlen:r.length<w.vs.length:=by rw[e1];simp;omega
    have hll:=yJ w.vs
    have c1:((r.length+1:Nat):Int)-1=(r.length:Int):=by omega
    have hw1:IntKind.i64.wrap ((r.length:Int)-1)=(r.length:Int)-1:=ab (by omega) (by omega)
    by_cases hs:v.name=s
    ·simp-implicitDefEqProofs[wO,wC,vaC,e,c1,hat,hlen,lvC,hs]
     rw[e2];simp[vp,hs]
    ·simp-implicitDefEqProofs[wO,wC,vaC,e,c1,hat,hlen,lvC,hs]
     refine⟨r,⟨⟨pre++[v],by rw[e1];simp⟩,by rw[e2];simp[vp,hs]⟩,by simp,?_⟩
     refine ae (h:=[wO 1 false fns k w,roC false w.vs]) (by simp) hok ?_
     simp[below,hw1]
theorem Ld(nf:Bool)(fns:List Fd)(k:Nat)(w:WS)(hn:nf=true->w.vs=[])(hl:w.vs.length<=1099511627776)(s:List UInt8):AC Tryz.prog G ec [.ptr 0 5 0 0,.p (.str s)] (HWk nf fns k w) λx h=>x= .ret (.p (.str (AG w.vs s)))/\h=HWk nf fns k ⟨w.vs,w.count,ov w.vs s w.code⟩:=by
 refine AC.go tT ?_
 simp-implicitDefEqProofs[lK]
 refine(GU G nf fns k w hn hl s).mono ?_
 rintro r h ⟨rfl,rfl⟩
 rcases uW w.vs s with⟨e1,e2⟩|⟨pre,v,q,e0,e1,e2⟩
 ·simp-implicitDefEqProofs[aa,e2]
  refine(pN G nf fns k w 3).mono ?_
  rintro r h ⟨rfl,rfl⟩
  simp-implicitDefEqProofs[aa,AG,ov,e1]
 ·have hat:=Fx pre v q
  rw[←e0] at hat
  have hlen:q.length<w.vs.length:=by rw[e0];simp;omega
  have hnf:nf=false:=by
   cases nf with
   |false=>rfl
   |true=>rw[hn rfl] at e0;simp at e0
  subst hnf
  have e:∀r,roC false r= .row 3 (lvR r):=λ_=>rfl
  have hq:¬(q.length:Int)<0:=by omega
  simp-implicitDefEqProofs[aa,e2,hq,HWk,wO,wC,vaC,e,hat,hlen,lvC]
  refine(zk G v.num).use ?_
  simp-implicitDefEqProofs[AG,ov,e1]
theorem Lm(nf:Bool)(fns:List Fd)(k:Nat)(w:WS)(hn:nf=true->w.vs=[])(hl:w.vs.length<=1099511627776)(hc:w.count<=1099511627776)(s:List UInt8)(b:Nat):AC Tryz.prog G ep [.ptr 0 5 0 0,.p (.str s),.p (.int .i64 b)] (HWk nf fns k w) λx h=>x= .ret (.p (.str (vnm w.count)))/\h=[wO 2 false fns k (ic w s b),.dead,roC false (ic w s b).vs]:=by
 refine AC.goK sX tD ?_
 have hw1:IntKind.i64.wrap ((w.count:Int)+1)=(w.count:Int)+1:=ab (by omega) (by omega)
 have hw2:IntKind.i64.wrap ((w.count:Int)+1-1)=(w.count:Int):=by rw[ab (by omega) (by omega)];omega
 have hw3:IntKind.i64.wrap (w.count:Int)=(w.count:Int):=ab (by omega) (by omega)
 have hll:=yJ w.vs
 simp-implicitDefEqProofs[gD,gR]
 refine(GU G nf fns k w hn hl s).mono ?_
 rintro r h ⟨rfl,rfl⟩
 simp-implicitDefEqProofs[aa]
 refine jK (ah 57 [(0,.ptr 0 5 0 0),(1,.p (.str s)),(2,.p (.int .i64 b))]) (HWk nf fns k ⟨w.vs,w.count,pZ w.vs s b w.code⟩) ?_ ?_
 ·rcases uW w.vs s with⟨e1,e2⟩|⟨pre,v,q,e0,e1,e2⟩
  ·simp-implicitDefEqProofs[e2,pZ,e1]
   exact ae (by simp[HWk]) (Af nf fns k w) (by simp[below,HWk])
  ·have hat:=Fx pre v q
   rw[←e0] at hat
   have hlen:q.length<w.vs.length:=by rw[e0];simp;omega
   have hnf:nf=false:=by
    cases nf with
    |false=>rfl
    |true=>rw[hn rfl] at e0;simp at e0
   subst hnf
   have e:∀r,roC false r= .row 3 (lvR r):=λ_=>rfl
   have hq:(0:Int)<=(q.length:Int):=by omega
   by_cases hb:v.block=b
   ·have:=pN G false fns k w 2
    simp only[HWk,wO,wC,vaC,e] at this
    simp-implicitDefEqProofs[e2,HWk,wO,wC,vaC,e,hat,hlen,lvC,hb]
    refine this.mono ?_
    rintro r h ⟨rfl,rfl⟩
    have hp:pZ w.vs s b w.code=fl w.code 2:=by simp[pZ,e1,hb]
    rw[hp]
    simp-implicitDefEqProofs[aa]
    refine ae (h:=HWk false fns k ⟨w.vs,w.count,fl w.code 2⟩) ?_ (Af _ _ _ _) ?_
    ·simp[HWk]
    ·simp[below,HWk]
   ·have hp:pZ w.vs s b w.code=w.code:=by simp[pZ,e1,hb]
    have hbi:¬(v.block:Int)=(b:Int):=by omega
    rw[hp]
    simp-implicitDefEqProofs[e2,HWk,wO,wC,vaC,e,hat,hlen,lvC,hbi]
    refine ae (h:=HWk false fns k w) ?_ (Af _ _ _ _) ?_
    ·simp[HWk]
    ·simp[below,HWk]
 ·cases nf with
  |true=>
   have hv:=hn rfl
   simp-implicitDefEqProofs[HWk,wO,wC,vaC,roC,hv,hw1,hw2,hw3]
   refine(zk G w.count).use ?_
   simp-implicitDefEqProofs[ic,lvR,lvC,hv]
  |false=>
   have e:∀r,roC false r= .row 3 (lvR r):=λ_=>rfl
   simp-implicitDefEqProofs[HWk,wO,wC,vaC,e,hw1,hw2,hw3,hll]
   refine⟨by omega,?_⟩
   refine(zk G w.count).use ?_
   simp-implicitDefEqProofs[ic,Ls,lvC]
   rw[US (by omega)]
end
section
theorem sM:AK.whole gl=FK.ak gn:=rfl
variable (G:al)
theorem DF{f:FuncId}{args:List AV}{nf:Bool}{fns:List Fd}{k:Nat}{w w':WS}{v:AV}(H:AC Tryz.prog G f args (HWk nf fns k w) λx h=>x= .ret v/\h=HWk nf fns k w')(rest:List AO)(ha:af 2 args):
 AC Tryz.prog G f args (wO 1 nf fns k w::roC nf w.vs::rest) λx h=>x= .ret v/\h=wO 1 nf fns k w'::roC nf w'.vs::rest:=by
 refine(AC.pre H rest ha (Af _ _ _ _) ?_).mono ?_
 ·rintro x h ⟨_,rfl⟩;rfl
 ·rintro x h ⟨h1,⟨rfl,rfl⟩,rfl⟩
  exact⟨rfl,rfl⟩
theorem tp{n id:Nat}(hn:id<n){nf nf':Bool}{fns:List Fd}{k:Nat}{w:WS}{vs:List LV}{l:List AO}(r:∀o∈l,okO n o):∀o∈wO id nf fns k w::roC nf' vs::l,okO n o:=aj (vG hn) (aj (gi _ _ _) r)
theorem Ay{ρ π:List Nat}{h r1:List AO}{i id:Nat}{nf:Bool}{fns:List Fd}{k:Nat}{w:WS}(hid:id<ρ.length)(e:h[i]?=some (wO (ρ.getD id 0) nf fns k w))(hr:HW ρ h π r1):HW ρ h (i::π) (wO id nf fns k w::r1):=by
 refine bT (es:=[wC id nf fns k w]) (λx hx=>?_) ?_ hr
 ·rw[UY.1 hx];exact AP hid
 ·rw[e,Vn,List.map_nil,Dm];rfl
theorem Jb{α:Type}{l:List α}{i j:Nat}{a b:α}(hij:i≠j)(h:l[j]?=some b):(l.set i a).set j b=l.set i a:=by
 apply List.ext_getElem?
 intro n
 rw[List.getElem?_set]
 split
 ·rename_i e
  subst e
  rw[UM hij,h]
  rw[if_pos (by rw[Vr];exact(UL.1 h).1)]
 ·rfl
theorem Dt(ρ:List Nat):∀l:List AV,af 0 l->TW ρ l l
 |[],_=>by simp
 |v::r,h=>by
  rw[yP]
  refine⟨.inr ⟨(aZ (VQ _) [v] ⟨h.1,trivial⟩).1,?_⟩,Dt ρ r h.2⟩
  have:=dv ρ [v] ⟨h.1,trivial⟩
  simpa[be] using this
theorem SK{h:List AO}{wid id:Nat}{nf:Bool}{fns:List Fd}{k:Nat}{w:WS}(e0:h[wid]?=some (wO id nf fns k w))(e1:h[id]?=some (roC nf w.vs)):HW [wid,id] h [wid,id] (HWk nf fns k w):=by
 refine bT (es:=[wC 1 nf fns k w]) (λx hx=>?_) ?_ ?_
 ·rw[UY.1 hx];exact AP (by simp)
 ·rw[e0,Vn,List.map_nil,Dm];rfl
 ·exact bR e1 (gi _ _ _) bv
theorem PJ{f:FuncId}{args:List AV}{nf:Bool}{fns:List Fd}{k:Nat}{w:WS}{v:AV}{c:Int}(H:AC Tryz.prog G f (.ptr 0 5 0 0::args) (HWk nf fns k w) λx h=>x= .ret v/\h=HWk nf fns k ⟨w.vs,w.count,c⟩)(ha:af 0 args)(hv:below 0 v)
 {h:List AO}{wid id:Nat}(hid:wid≠id)(e0:h[wid]?=some (wO id nf fns k w))(e1:h[id]?=some (roC nf w.vs)):
 AC Tryz.prog G f (.ptr wid 5 0 0::args) h λx h'=>x= .ret v/\h'=h.set wid (wO id nf fns k ⟨w.vs,w.count,c⟩):=by
 refine(H.frame [wid,id] (by simp[hid]) ?_ (SK e0 e1)).mono ?_
 ·rw[yP];exact⟨.inr ⟨by simp[below],rfl⟩,Dt _ _ ha⟩
 ·rintro x h' ⟨x0,h0,⟨rfl,rfl⟩,_,rfl,rfl⟩
  refine⟨?_,?_⟩
  ·have:=dv ([wid,id]++List.range' h.length ((HWk nf fns k ⟨w.vs,w.count,c⟩).length-(HWk nf fns k w).length)) [v] ⟨hv,trivial⟩
   simp only[be] at this
   simp only[Bo]
   exact congrArg ARes.ret (List.cons.inj this).1
  ·simp only[HWk,Vh,List.length_nil,Nat.sub_self,List.range'_zero,VE,List.take_succ_cons,List.take_zero,Vn,List.map_nil,List.drop_succ_cons,List.drop_zero,Ho,EZ,mrg]
   exact Jb hid e1
theorem Ku{f:FuncId}{args:List AV}{nf:Bool}{fns:List Fd}{k:Nat}{w:WS}{v:AV}{Q:Bool->WS->Prop}(H:AC Tryz.prog G f (.ptr 0 5 0 0::args) (HWk nf fns k w) λx h=>∃nf' w',x= .ret v/\h=[wO 2 nf' fns k w',.dead,roC nf' w'.vs]/\Q nf' w')(ha:af 0 args)(hv:below 0 v)
 {h:List AO}{wid id:Nat}(hid:wid≠id)(e0:h[wid]?=some (wO id nf fns k w))(e1:h[id]?=some (roC nf w.vs)):
 AC Tryz.prog G f (.ptr wid 5 0 0::args) h λx h'=>∃nf' w',x= .ret v/\h'=(h.set wid (wO h.length nf' fns k w')).set id .dead++[roC nf' w'.vs]/\Q nf' w':=by
 refine(H.frame [wid,id] (by simp[hid]) ?_ (SK e0 e1)).mono ?_
 ·rw[yP];exact⟨.inr ⟨by simp[below],rfl⟩,Dt _ _ ha⟩
 ·rintro x h' ⟨x0,h0,⟨nf',w',rfl,rfl,q⟩,_,rfl,rfl⟩
  refine⟨nf',w',?_,?_,q⟩
  ·have:=dv ([wid,id]++List.range' h.length ([wO 2 nf' fns k w',.dead,roC nf' w'.vs].length-(HWk nf fns k w).length)) [v] ⟨hv,trivial⟩
   simp only[be] at this
   simp only[Bo]
   exact congrArg ARes.ret (List.cons.inj this).1
  ·simp only[HWk,Vh,List.length_nil,List.take_succ_cons,List.take_zero,Vn,List.map_nil,List.drop_succ_cons,List.drop_zero,Ho,EZ,mrg]
   rfl
theorem BT(fns:List Fd)(k:Nat)(vs:List LV):∀(a b:List Ex) (c:Int),bJ fns k vs (a++b) c=bJ fns k vs b (bJ fns k vs a c)
 |[],b,c=>rfl
 |e::r,b,c=>by rw[VA,bJ,bJ,BT fns k vs r]
theorem ua(vs:List LV):∀l:List Ex,kJ vs l=l.map (rnE vs)
 |[]=>rfl
 |e::r=>by rw[kJ,ua vs r];rfl
theorem zr{fns:List Fd}{k:Nat}{vs:List LV}{l:List Ex}{c:Int}{i:Nat}(h:i<l.length):bJ fns k vs (l.take (i+1)) c=ox fns k vs l[i] (bJ fns k vs (l.take i) c):=by
 rw[aq h,BT];rfl
theorem BI{vs:List LV}{l:List Ex}{i:Nat}(h:i<l.length):kJ vs (l.take (i+1))=kJ vs (l.take i)++[rnE vs l[i]]:=by
 rw[ua,ua,aq h,List.map_append];rfl
theorem tJ(vs:List LV)(l:List Ex):(kJ vs l).length=l.length:=by rw[ua,Vv]
theorem GX(l:List Ex):(exR l).length=l.length:=by simp[exR]
theorem HU(a b:List Ex):exR (a++b)=exR a++exR b:=by simp[exR]
theorem EG{h:List AO}{id:Nat}{l:List Ex}(e:h[id]?=some (.row 4 (exR l))):View h (.sl id 4 0 l.length) (exL l):=by
 have:=hZ (h:=h) (id:=id) (sz:=4) (n:=l.length) (ls:=l.map Ex.cs) (by rw[e,exR];simp) (by simp) (λx hx=>by obtain⟨b,_,rfl⟩:=Vi.1 hx;exact b.cs_len)
 exact this
theorem MR{fns:List Fd}{s:List UInt8}{j:Nat}(h:bU fns s=some j):j<fns.length:=by
 rw[bU,Vg] at h;exact h.1
theorem MP{fns:List Fd}{k:Nat}(hf:fns.length<=1099511627776):∀(N:Nat) (e:Ex),e.sz<=N->N<=1099511627776->∀(nf:Bool) (w:WS),(nf=true->w.vs=[])->w.vs.length<=1099511627776->
 AC Tryz.prog G cF [.ptr 0 5 0 0,.agg (e.cs.map .p)] (HWk nf fns k w) λx h=>x= .ret (.agg ((rnE w.vs e).cs.map .p))/\h=HWk nf fns k ⟨w.vs,w.count,ox fns k w.vs e w.code⟩:=by
 intro N
 induction N with
 |zero=>intro e he;have:=e.sz_eq;omega
 |succ N ih=>
  intro e he hN nf w hn hl
  have hec:=e.cs_eq
  have hsz:=e.sz_eq
  have hkl:=bB e.kids
  have hre:(rnE w.vs e).cs=[.int .i64 e.op,.int .i64 e.n,.str (if e.op=2 then AG w.vs e.name else e.name),exL (kJ w.vs e.kids)]:=by
   obtain⟨o,n,s,ks⟩:=e;rw[rnE,Ex.cs_eq];rfl
  have hce:ox fns k w.vs e w.code=bJ fns k w.vs e.kids (ke fns k w.vs e.op e.name e.kids.length w.code):=by
   obtain⟨o,n,s,ks⟩:=e;rfl
  have main:AC Tryz.prog G cF [.ptr 0 5 0 0,.agg (e.cs.map .p)] (HWk nf fns k w) λx h=>∃E1 E2,x= .ret (.agg [.p (.int .i64 e.op),.p (.int .i64 e.n),.p (.str (if e.op=2 then AG w.vs e.name else e.name)),.sl 4 4 0 e.kids.length])/\
   h=[wO 1 nf fns k ⟨w.vs,w.count,ox fns k w.vs e w.code⟩,roC nf w.vs,E1,E2,.row 4 (exR (kJ w.vs e.kids))]:=by
   refine AC.goK sj sM ?_
   simp-implicitDefEqProofs[gl,gn,HWk,hec]
   refine jK (ah 75 [(0,.ptr 0 5 0 0),(3,.ptr 2 4 0 0),(4,.ptr 3 4 0 0)]) [wO 1 nf fns k ⟨w.vs,w.count,if e.op=2 then ov w.vs e.name w.code else w.code⟩,roC nf w.vs,.row 4 [[.p (.int .i64 e.op),.p (.int .i64 e.n),.p (.str (if e.op=2 then AG w.vs e.name else e.name)),.p (exL e.kids)]],.row 4 [[.p (.int .i64 0),.p (.int .i64 0),.p (.str []),.nils]]] ?_ ?_
   ·by_cases o2:e.op=2
    ·simp-implicitDefEqProofs[o2]
     refine(DF G (Ld G nf fns k w hn hl e.name) _ (by simp[below])).mono ?_
     rintro r h ⟨rfl,rfl⟩
     simp-implicitDefEqProofs[aa]
     exact ae (by simp) (tp (by simp) (by simp[okO,below])) (by simp[below])
    ·simp-implicitDefEqProofs[o2]
     exact ae (by simp) (tp (by simp) (by simp[okO,below])) (by simp[below])
   refine jK (ah 75 [(0,.ptr 0 5 0 0),(3,.ptr 2 4 0 0),(4,.ptr 3 4 0 0)]) [wO 1 nf fns k ⟨w.vs,w.count,ke fns k w.vs e.op e.name e.kids.length w.code⟩,roC nf w.vs,.row 4 [[.p (.int .i64 e.op),.p (.int .i64 e.n),.p (.str (if e.op=2 then AG w.vs e.name else e.name)),.p (exL e.kids)]],.row 4 [[.p (.int .i64 0),.p (.int .i64 0),.p (.str []),.nils]]] ?_ ?_
   ·by_cases o13:e.op=13
    ·have hhd:ke fns k w.vs e.op e.name e.kids.length w.code=me fns k e.name e.kids.length w.code:=by simp[ke,o13]
     rw[hhd]
     simp-implicitDefEqProofs[o13,wO,wC]
     refine(GG G fns e.name hf).use ?_
     have fin:∀c:Int,Wk 2 (ah 75 [(0,.ptr 0 5 0 0),(3,.ptr 2 4 0 0),(4,.ptr 3 4 0 0)]) [wO 1 nf fns k ⟨w.vs,w.count,c⟩,roC nf w.vs,.row 4 [[.p (.int .i64 13),.p (.int .i64 e.n),.p (.str e.name),.p (exL e.kids)]],.row 4 [[.p (.int .i64 0),.p (.int .i64 0),.p (.str []),.nils]]] (ah 75 [(0,.ptr 0 5 0 0),(3,.ptr 2 4 0 0),(4,.ptr 3 4 0 0)]) [wO 1 nf fns k ⟨w.vs,w.count,c⟩,roC nf w.vs,.row 4 [[.p (.int .i64 13),.p (.int .i64 e.n),.p (.str e.name),.p (exL e.kids)]],.row 4 [[.p (.int .i64 0),.p (.int .i64 0),.p (.str []),.nils]]]:=λc=>
      ae (by simp) (tp (by simp) (by simp[okO,below])) (by simp[below])
     cases hfa:bU fns e.name with
     |none=>
      simp-implicitDefEqProofs[ixI,me,hfa]
      refine(DF G (pN G nf fns k w 4) _ (by simp[below])).mono ?_
      rintro r h ⟨rfl,rfl⟩
      simp-implicitDefEqProofs[aa]
      exact ae (h:=[wO 1 nf fns k ⟨w.vs,w.count,fl w.code 4⟩,roC nf w.vs,.row 4 [[.p (.int .i64 13),.p (.int .i64 e.n),.p (.str e.name),.p (exL e.kids)]],.row 4 [[.p (.int .i64 0),.p (.int .i64 0),.p (.str []),.nils]]]) (by simp) (tp (by simp) (by simp[okO,below])) (by simp[below])
     |some j=>
      have hj:=MR hfa
      have hg:=UO hj
      have hjn:¬(j:Int)<0:=by omega
      by_cases hkj:k<=j
      ·have hkj':(k:Int)<=(j:Int):=by omega
       simp-implicitDefEqProofs[ixI,me,hfa,hkj,hkj',hjn]
       refine(DF G (pN G nf fns k w 4) _ (by simp[below])).mono ?_
       rintro r h ⟨rfl,rfl⟩
       simp-implicitDefEqProofs[aa]
       exact ae (h:=[wO 1 nf fns k ⟨w.vs,w.count,fl w.code 4⟩,roC nf w.vs,.row 4 [[.p (.int .i64 13),.p (.int .i64 e.n),.p (.str e.name),.p (exL e.kids)]],.row 4 [[.p (.int .i64 0),.p (.int .i64 0),.p (.str []),.nils]]]) (by simp) (tp (by simp) (by simp[okO,below])) (by simp[below])
      ·have hkj':¬(k:Int)<=(j:Int):=by omega
       have hfl:fdL fns= .lst 3 (fns.map Fd.cs):=rfl
       have hcs:fns[j].cs=[.str fns[j].name,aw fns[j].params,smL fns[j].body]:=rfl
       have hst:aw fns[j].params= .lst 1 (fns[j].params.map λw=>[.str w]):=rfl
       have hxl:∀l,exL l= .lst 4 (l.map Ex.cs):=λ_=>rfl
       have hpn:Ba fns j=fns[j].params.length:=by simp[Ba,hg]
       by_cases hp:fns[j].params.length=e.kids.length
       ·have hcc:me fns k e.name e.kids.length w.code=w.code:=by simp[me,hfa,hkj,hpn,hp]
        rw[hcc]
        simp-implicitDefEqProofs[ixI,hkj',hjn,hfl,hg,hcs,hst,hxl,hp]
        exact ae (h:=[wO 1 nf fns k w,roC nf w.vs,.row 4 [[.p (.int .i64 13),.p (.int .i64 e.n),.p (.str e.name),.p (exL e.kids)]],.row 4 [[.p (.int .i64 0),.p (.int .i64 0),.p (.str []),.nils]]]) (by simp) (tp (by simp) (by simp[okO,below])) (by simp[below])
       ·have hcc:me fns k e.name e.kids.length w.code=fl w.code 5:=by simp[me,hfa,hkj,hpn,hp]
        have hp':¬(fns[j].params.length:Int)=(e.kids.length:Int):=by omega
        rw[hcc]
        simp-implicitDefEqProofs[ixI,hkj',hjn,hfl,hg,hcs,hst,hxl,hp']
        refine(DF G (pN G nf fns k w 5) _ (by simp[below])).mono ?_
        rintro r h ⟨rfl,rfl⟩
        simp-implicitDefEqProofs[aa]
        exact ae (h:=[wO 1 nf fns k ⟨w.vs,w.count,fl w.code 5⟩,roC nf w.vs,.row 4 [[.p (.int .i64 13),.p (.int .i64 e.n),.p (.str e.name),.p (exL e.kids)]],.row 4 [[.p (.int .i64 0),.p (.int .i64 0),.p (.str []),.nils]]]) (by simp) (tp (by simp) (by simp[okO,below])) (by simp[below])
    ·have hhd:ke fns k w.vs e.op e.name e.kids.length w.code=if e.op=2 then ov w.vs e.name w.code else w.code:=by simp[ke,o13]
     rw[hhd]
     simp-implicitDefEqProofs[o13]
     exact ae (by simp) (tp (by simp) (by simp[okO,below])) (by simp[below])
   rw[hce]
   generalize ke fns k w.vs e.op e.name e.kids.length w.code=c2
   generalize (if e.op=2 then AG w.vs e.name else e.name)=s1
   have hxl:exL e.kids= .lst 4 (e.kids.map Ex.cs):=rfl
   simp-implicitDefEqProofs[]
   refine aJ (λi:Nat=>ah 75 [(0,.ptr 0 5 0 0),(3,.ptr 2 4 0 0),(4,.ptr 3 4 0 0),(6,.sl 4 4 0 i),(7,.p (.int .i64 i))])
    (λi=>[wO 1 nf fns k ⟨w.vs,w.count,bJ fns k w.vs (e.kids.take i) c2⟩,roC nf w.vs,.row 4 [[.p (.int .i64 e.op),.p (.int .i64 e.n),.p (.str s1),.p (exL e.kids)]],.row 4 [[.p (.int .i64 0),.p (.int .i64 0),.p (.str []),.nils]],.row 4 (exR (kJ w.vs (e.kids.take i)))])
    (λi=>i<=e.kids.length) (λi=>e.kids.length-i) 0 (by simp) ?_ ?_
   ·exact ae (by simp) (tp (by simp) (by simp[okO,below])) (by simp[below])
   ·intro i hi
    have hrl:(exR (kJ w.vs (e.kids.take i))).length=i:=by rw[GX,tJ];simp;omega
    simp-implicitDefEqProofs[hxl]
    refine aY (λh=>?_) (λh=>?_)
    ·simp at h
     have hg:=UO h
     have hks:=bQ (Ve h)
     have hkc:=(rnE w.vs e.kids[i]).cs_eq
     simp-implicitDefEqProofs[hg]
     refine(DF G (ih e.kids[i] (by omega) (by omega) nf ⟨w.vs,w.count,bJ fns k w.vs (e.kids.take i) c2⟩ hn hl) _ (by simp[below])).mono ?_
     rintro r h ⟨rfl,rfl⟩
     rw[show(rnE (WS.mk w.vs w.count (bJ fns k w.vs (e.kids.take i) c2)).vs e.kids[i])=rnE w.vs e.kids[i] from rfl]
     simp-implicitDefEqProofs[aa,hkc,hrl]
     refine⟨by omega,?_⟩
     refine⟨i+1,by omega,by omega,?_⟩
     have htk:List.take i (exR (kJ w.vs (e.kids.take i)))=exR (kJ w.vs (e.kids.take i)):=US (by omega)
     rw[zr h,BI h,HU,htk]
     refine eQ [0,1,2,3,6] (by simp) (by decide) (by decide) (Ay (by simp) rfl (bR rfl (gi _ _ _) (bc rfl (by simp[below]) (bc rfl (by simp[below]) (bc ?_ ?_ bv))))) (by simp[below,ren,w1 (i:=i) (by omega)])
     ·have:exR [rnE w.vs e.kids[i]]=[[.p (.int .i64 (rnE w.vs e.kids[i]).op),.p (.int .i64 (rnE w.vs e.kids[i]).n),.p (.str (rnE w.vs e.kids[i]).name),.p (exL (rnE w.vs e.kids[i]).kids)]]:=by rw[exR,VS,hkc];rfl
      rw[this];rfl
     ·intro x hx
      rcases UW.1 hx with h|h
      ·exact dS _ x h
      ·exact dS _ x h
    ·simp at h
     have hie:i=e.kids.length:=by omega
     subst hie
     simp-implicitDefEqProofs[]
  refine main.frz 2 (by simp[HWk]) (λt v h ⟨_,_,e,_⟩=>by cases e) ?_
  rintro v h ⟨E1,E2,e,rfl⟩
  cases e
  refine⟨_,HWk nf fns k ⟨w.vs,w.count,ox fns k w.vs e w.code⟩,by simp,rfl,.agg ?_ .nil,.same (vG (by omega)) (.same (gi _ _ _) (.nil _)),rfl,rfl⟩
  rw[hre]
  have hrl:=tJ w.vs e.kids
  rw[←hrl]
  exact .keep (by simp) (.keep (by simp) (.keep (by simp) (.one (EG rfl) .nil)))
end
section
theorem ri:AK.whole fz=FK.ak fj:=rfl
theorem Ea(fns:List Fd)(k b:Nat):∀(x y:List Sm) (w:WS),bO fns k b (x++y) w=bO fns k b y (bO fns k b x w)
 |[],y,w=>rfl
 |s::r,y,w=>by rw[VA,bO,bO,Ea fns k b r]
theorem Fp(fns:List Fd)(k b:Nat):∀(x y:List Sm) (w:WS),iA fns k b (x++y) w=iA fns k b x w++iA fns k b y (bO fns k b x w)
 |[],y,w=>rfl
 |s::r,y,w=>by rw[VA,iA,iA,Fp fns k b r];rfl
theorem Iv{fns:List Fd}{k b:Nat}{l:List Sm}{w:WS}{i:Nat}(h:i<l.length):bO fns k b (l.take (i+1)) w=stW fns k b l[i] (bO fns k b (l.take i) w):=by
 rw[aq h,Ea];rfl
theorem In{fns:List Fd}{k b:Nat}{l:List Sm}{w:WS}{i:Nat}(h:i<l.length):iA fns k b (l.take (i+1)) w=iA fns k b (l.take i) w++[rnS fns k b l[i] (bO fns k b (l.take i) w)]:=by
 rw[aq h,Fp];rfl
theorem zu(fns:List Fd)(k b:Nat):∀(l:List Sm) (w:WS),(iA fns k b l w).length=l.length
 |[],w=>rfl
 |s::r,w=>by rw[iA,Vh,zu fns k b r,Vh]
theorem NY{l:List Sm}{i:Nat}(h:i<l.length):aD (l.take i)+l[i].sz<=aD l:=by
 have e:l=l.take i++l[i]::l.drop (i+1):=by rw[←VN h,VH]
 have h2:aD l=aD (l.take i)+(l[i].sz+aD (l.drop (i+1))):=by
  conv=>lhs;rw[e]
  rw[bC];rfl
 omega
def sN(fns:List Fd)(k b:Nat)(l:List Sm)(w:WS):WS:=if 0<b then(bO fns k b l w).back w.vs else bO fns k b l w
theorem Gi(fns:List Fd)(k b:Nat)(l:List Sm)(w:WS):(sN fns k b l w).count=w.count+rY l:=by
 unfold sN
 split
 ·exact iK fns k l b w
 ·exact iK fns k l b w
theorem LS{e vs:List LV}:(lvR (e++vs)).take vs.length=lvR vs:=by
 have h:lvR (e++vs)=lvR vs++lvR e:=by simp[lvR]
 rw[h,List.take_append_of_le_length (by rw[yJ];exact Vb _),US (by rw[yJ];exact Vb _)]
theorem BR(l:List Sm):rY l<=aD l:=Vj (tO l) (pK l)
theorem Gd(nf:Bool)(id n:Nat):(vaC nf id n).isCell=true:=by cases nf<;>rfl
theorem IC(nf:Bool)(id n:Nat):(vaC nf id n).cells=[vaC nf id n]:=by cases nf<;>rfl
attribute [simp ↓] Gd IC
variable (G:al)
def StP(fns:List Fd)(k b:Nat)(l:List Sm)(w:WS)(x:ARes)(h:List AO):Prop:=∃nf' w',x= .ret (.p (smL (iA fns k b l w)))/\h=[wO 2 nf' fns k w',.dead,roC nf' w'.vs]/\(nf'=true->w'.vs=[])/\w'=sN fns k b l w
structure StS where (i:Nat) (nf:Bool)
theorem KD{fns:List Fd}{k:Nat}(hf:fns.length<=1099511627776):∀(N:Nat) (l:List Sm),aD l<N->∀(b:Nat) (nf:Bool) (w:WS),(nf=true->w.vs=[])->w.vs.length<=w.count->w.count+aD l<=1099511627776->b+aD l<=1099511627776->
 AC Tryz.prog G cu [.ptr 0 5 0 0,.p (smL l),.p (.int .i64 b)] (HWk nf fns k w) (StP fns k b l w):=by
 intro N
 induction N with
 |zero=>
  intro l hl b nf w hn hv hc hb
  omega
 |succ N ih=>
  intro l hl b nf w hn hv hc hb
  have hll:=cr l
  refine AC.goK ro ri ?_
  have hsl:∀l,smL l= .lst 5 (l.map Sm.cs):=λ_=>rfl
  have hlen0:Gj (vaC nf 1 w.vs.length)=some (.p (.int .i64 w.vs.length)):=by
   cases nf
   ·rfl
   ·simp[vaC,hn rfl]
  simp-implicitDefEqProofs[fz,fj,HWk,wO,wC,hlen0]
  refine aJ (λs:StS=>ah 96 [(0,.ptr 0 5 0 0),(1,.p (smL l)),(2,.p (.int .i64 b)),(7,.sl 2 5 0 s.i),(8,.p (.int .i64 w.vs.length)),(9,.p (.int .i64 s.i))])
   (λs=>[wO 3 s.nf fns k (bO fns k b (l.take s.i) w),.dead,.row 5 (smR (iA fns k b (l.take s.i) w)),roC s.nf (bO fns k b (l.take s.i) w).vs])
   (λs=>s.i<=l.length/\(s.nf=true->(bO fns k b (l.take s.i) w).vs=[])) (λs=>l.length-s.i) ⟨0,nf⟩ ⟨by simp,hn⟩ ?_ ?_
  ·refine Hs [0,1,2,1] (by simp) (by decide) ?_ (Ay (by simp) rfl (fa (by simp) (bc rfl (by simp[smR,iA]) (bR rfl (gi _ _ _) bv)))) (by simp[below,ren])
   cases nf<;>simp[jj,roC,wO,bO]
  ·rintro⟨i,nf⟩ ⟨hi,hn⟩
   simp only at hi hn
   simp-implicitDefEqProofs[hsl]
   refine aY (λh=>?_) (λh=>?_)
   ·simp at h
    have hg:=UO h
    have hat:=NY h
    have hse:=l[i].cs_eq
    have hsz:=l[i].sz_eq
    have hle:=HK fns k (l:=l.take i) (b:=b) hv
    have hcn:=iK fns k (l.take i) b w
    have hlz:=BR (l.take i)
    have eW:=Iv (fns:=fns) (k:=k) (b:=b) (w:=w) h
    have eR:=In (fns:=fns) (k:=k) (b:=b) (w:=w) h
    have hol:=zu fns k b (l.take i) w
    rw[Vl,Nat.min_eq_left hi] at hol
    generalize l[i]=s at hg hat hse hsz eW eR
    generalize bO fns k b (l.take i) w=wi at hn hle hcn eW eR⊢
    generalize iA fns k b (l.take i) w=out at hol eR⊢
    obtain⟨o,nme,a,bd,el⟩:=s
    simp only[Sm.op,Sm.name,Sm.args,Sm.body,Sm.els] at hse hsz
    simp-implicitDefEqProofs[hg,hse]
    have hxl:∀l,exL l= .lst 4 (l.map Ex.cs):=λ_=>rfl
    have hal:=bB a
    have hlE:=BR bd
    have hwl:wi.vs.length<=1099511627776:=by omega
    have hopR:∀(x y z u v:AV),af 0 [x,y,z,u,v]->okO 5 (AO.row 5 [[x,y,z,u,v]]):=λx y z u v hh=>dH (λe he=>by rw[UY.1 he];exact hh)
    refine aJ (λj:Nat=>ah 96 [(0,.ptr 0 5 0 0),(1,.p (smL l)),(2,.p (.int .i64 b)),(7,.sl 2 5 0 i),(8,.p (.int .i64 w.vs.length)),(9,.p (.int .i64 i)),(10,.ptr 4 5 0 0),(11,.sl 5 4 0 j),(12,.p (.int .i64 j))])
     (λj=>[wO 3 nf fns k ⟨wi.vs,wi.count,bJ fns k wi.vs (a.take j) wi.code⟩,.dead,.row 5 (smR out),roC nf wi.vs,.row 5 [[.p (.int .i64 o),.p (.str nme),.p (exL a),.p (smL bd),.p (smL el)]],.row 4 (exR (kJ wi.vs (a.take j)))])
     (λj=>j<=a.length) (λj=>a.length-j) 0 (by simp) ?_ ?_
    ·refine ae (h:=[wO 3 nf fns k wi,.dead,.row 5 (smR out),roC nf wi.vs,.row 5 [[.p (.int .i64 o),.p (.str nme),.p (exL a),.p (smL bd),.p (smL el)]],.row 4 []]) (by simp) (aj (vG (by simp)) (aj trivial (aj (dH (dM out)) (aj (gi _ _ _) (by simp[okO,below]))))) (by simp[below,hsl])
    intro j hj
    have hrl:(exR (kJ wi.vs (a.take j))).length=j:=by rw[GX,tJ];simp;omega
    simp-implicitDefEqProofs[hxl]
    refine aY (λhc=>?_) (λhc=>?_)
    ·simp at hc
     have hga:=UO hc
     have hks:=bQ (Ve hc)
     have hkc:=(rnE wi.vs a[j]).cs_eq
     simp-implicitDefEqProofs[hga]
     refine(PJ G (id:=3) (MP G hf (a[j].sz) a[j] (Vb _) (by omega) nf ⟨wi.vs,wi.count,bJ fns k wi.vs (a.take j) wi.code⟩ hn hwl) (by simp) (by simp[below]) (by decide) rfl rfl).mono ?_
     rintro r h' ⟨rfl,rfl⟩
     rw[show(rnE (WS.mk wi.vs wi.count (bJ fns k wi.vs (a.take j) wi.code)).vs a[j])=rnE wi.vs a[j] from rfl]
     simp-implicitDefEqProofs[aa,hkc,hrl]
     refine⟨by omega,j+1,by omega,by omega,?_⟩
     have htk:List.take j (exR (kJ wi.vs (a.take j)))=exR (kJ wi.vs (a.take j)):=US (by omega)
     rw[zr hc,BI hc,HU,htk]
     refine eQ [0,1,2,3,4,7] (by simp) (by decide) (by decide) (Ay (by simp) rfl (fa (by simp) (bc rfl (dM out) (bR rfl (gi _ _ _) (bc rfl (by simp[below]) (bc ?_ ?_ bv)))))) (by simp[below,ren,hsl,w1 (i:=j) (by omega)])
     ·have:exR [rnE wi.vs a[j]]=[[.p (.int .i64 (rnE wi.vs a[j]).op),.p (.int .i64 (rnE wi.vs a[j]).n),.p (.str (rnE wi.vs a[j]).name),.p (exL (rnE wi.vs a[j]).kids)]]:=by rw[exR,VS,hkc];rfl
      rw[this];rfl
     ·intro x hx
      rcases UW.1 hx with h|h
      ·exact dS _ x h
      ·exact dS _ x h
    simp at hc
    have hje:j=a.length:=by omega
    subst hje
    rw[List.take_length] at hrl⊢
    have hal2:=tJ wi.vs a
    simp-implicitDefEqProofs[]
    generalize hw1:WS.mk wi.vs wi.count (bJ fns k wi.vs a wi.code)=w1
    have e1v:w1.vs=wi.vs:=by rw[←hw1]
    have e1c:w1.count=wi.count:=by rw[←hw1]
    have e1l:w1.vs.length=wi.vs.length:=by rw[e1v]
    rw[←e1v]
    refine jK (ah 96 [(0,.ptr 0 5 0 0),(1,.p (smL l)),(2,.p (.int .i64 b)),(7,.sl 2 5 0 i),(8,.p (.int .i64 w.vs.length)),(9,.p (.int .i64 i)),(10,.ptr 4 5 0 0)])
     [wO 3 nf fns k w1,.dead,.row 5 (smR out),roC nf w1.vs,.row 5 [[.p (.int .i64 o),.p (.str nme),.p (exL (kJ w1.vs a)),.p (smL bd),.p (smL el)]]] ?_ ?_
    ·simp-implicitDefEqProofs[]
     refine dK 5 (by omega) (by simp) rfl (.same (vG (by omega)) (.dead (.same (dH (dM out)) (.same (gi _ _ _) (.one (.keep (by simp[below]) (.keep (by simp[below]) (.one ?_ (.keep (by simp[below]) (.keep (by simp[below]) .nil))))) (.nil _)))))) ?_
     ·rw[←e1v] at hal2
      rw[←hal2]
      exact EG rfl
     ·refine⟨.keep (by simp[below]) .nil,.keep (by simp[below]) .nil,.keep (by simp[below]) .nil,.keep (by simp[below]) .nil,.keep (by simp[below]) .nil,.keep (by simp[below]) .nil,.keep (by simp[below]) .nil,trivial⟩
    have TT:∀(r1:List (Nat × AV)),Aw.look r1 0= .ptr 0 5 0 0->Aw.look r1 1= .p (smL l)->Aw.look r1 2= .p (.int .i64 b)->Aw.look r1 7= .sl 2 5 0 i->Aw.look r1 8= .p (.int .i64 w.vs.length)->Aw.look r1 9= .p (.int .i64 i)->Aw.look r1 10= .ptr 4 5 0 0->∀ρ:List Nat,ρ.length=5->ρ.getD 0 0=0->ρ.getD 2 0=2->ρ.getD 4 0=4->
     TWA ρ r1 [(0,.ptr 0 5 0 0),(1,.p (smL l)),(2,.p (.int .i64 b)),(7,.sl 2 5 0 i),(8,.p (.int .i64 w.vs.length)),(9,.p (.int .i64 i)),(10,.ptr 4 5 0 0)]:=by
     intro r1 a0 a1 a2 a7 a8 a9 a10 ρ hr r0 r2 r4
     simp[below,ren,hr,a0,a1,a2,a7,a8,a9,a10]
     rw[Vc,UO (by omega)] at r0 r2 r4
     exact⟨r0,r2,r4⟩
    have hn1:nf=true->w1.vs=[]:=λh=>by rw[e1v];exact hn h
    have okB:∀(nf:Bool) (w:WS) (r:AO),okO 0 r->∀x∈[wO 3 nf fns k w,.dead,.row 5 (smR out),roC nf w.vs,r],okO 5 x:=λnf w r hr=>
     aj (vG (by omega)) (aj trivial (aj (dH (dM out)) (aj (gi _ _ _) (aj (dH hr) fX))))
    refine jK (ah 96 [(0,.ptr 0 5 0 0),(1,.p (smL l)),(2,.p (.int .i64 b)),(7,.sl 2 5 0 i),(8,.p (.int .i64 w.vs.length)),(9,.p (.int .i64 i)),(10,.ptr 4 5 0 0)])
     [wO 3 (if o=1 then false else nf) fns k (if o=1 then ic w1 nme b else w1),.dead,.row 5 (smR out),roC (if o=1 then false else nf) (if o=1 then ic w1 nme b else w1).vs,.row 5 [[.p (.int .i64 o),.p (.str (if o=1 then vnm w1.count else nme)),.p (exL (kJ w1.vs a)),.p (smL bd),.p (smL el)]]] ?_ ?_
    ·by_cases o1:o=1
     ·simp-implicitDefEqProofs[o1]
      refine(Ku G (id:=3) (Q:=λnf' w'=>nf'=false/\w'=ic w1 nme b) ((Lm G nf fns k w1 hn1 (by omega) (by omega) nme b).mono (by rintro x h ⟨rfl,rfl⟩;exact⟨false,_,rfl,rfl,rfl,rfl⟩)) (by simp) (by simp[below]) (by decide) rfl rfl).mono ?_
      rintro r h' ⟨nf',w',rfl,rfl,rfl,rfl⟩
      simp-implicitDefEqProofs[aa]
      refine eQ [0,1,2,5,4] (by simp) (by decide) (by decide) (Ay (by simp) rfl (fa (by simp) (bc rfl (dM out) (bR rfl (gi _ _ _) (bc rfl (by simp[below]) bv))))) (TT _ (by simp) (by simp) (by simp) (by simp) (by simp) (by simp) (by simp) _ rfl rfl rfl rfl)
     ·simp-implicitDefEqProofs[o1]
      refine ae (by simp) (okB nf w1 _ (by simp[okO,below])) (by simp[below])
    generalize hw2:(if o=1 then ic w1 nme b else w1)=w2
    generalize hnf2:(if o=1 then false else nf)=nf2
    generalize hnm2:(if o=1 then vnm w1.count else nme)=nm2
    have hn2:nf2=true->w2.vs=[]:=by
     intro h
     by_cases o1:o=1
     ·rw[if_pos o1] at hnf2;rw[←hnf2] at h;cases h
     ·rw[if_neg o1] at hnf2 hw2;rw[←hw2];exact hn1 (by rw[hnf2];exact h)
    have h2c:w2.count=w1.count+if o=1 then 1 else 0:=by rw[←hw2];split<;>rfl
    have h2v:w2.vs.length<=w2.count:=by
     rw[←hw2];split
     ·simp[ic];omega
     ·omega
    have h2b:w2.count<=wi.count+1:=by rw[h2c,e1c];split<;>omega
    refine jK (ah 96 [(0,.ptr 0 5 0 0),(1,.p (smL l)),(2,.p (.int .i64 b)),(7,.sl 2 5 0 i),(8,.p (.int .i64 w.vs.length)),(9,.p (.int .i64 i)),(10,.ptr 4 5 0 0)])
     [wO 3 nf2 fns k (opW o nme b w1),.dead,.row 5 (smR out),roC nf2 (opW o nme b w1).vs,.row 5 [[.p (.int .i64 o),.p (.str (opN o nme w1)),.p (exL (kJ w1.vs a)),.p (smL bd),.p (smL el)]]] ?_ ?_
    ·by_cases o2:o=2
     ·have o1:¬o=1:=by omega
      rw[if_neg o1] at hw2 hnm2
      subst hw2;subst hnm2
      have eo:opW o nme b w1=⟨w1.vs,w1.count,ov w1.vs nme w1.code⟩:=by rw[opW,if_neg o1,if_pos o2]
      have en:opN o nme w1=AG w1.vs nme:=by rw[opN,if_neg o1,if_pos o2]
      rw[eo,en]
      simp-implicitDefEqProofs[o2]
      refine(PJ G (id:=3) (Ld G nf2 fns k w1 hn2 (by omega) nme) (by simp) (by simp[below]) (by decide) rfl rfl).mono ?_
      rintro r h' ⟨rfl,rfl⟩
      simp-implicitDefEqProofs[aa]
      refine ae (h:=[wO 3 nf2 fns k ⟨w1.vs,w1.count,ov w1.vs nme w1.code⟩,.dead,.row 5 (smR out),roC nf2 w1.vs,_]) (by simp) (okB nf2 ⟨w1.vs,w1.count,ov w1.vs nme w1.code⟩ _ (by simp[okO,below])) (by simp[below])
     ·have eo:opW o nme b w1=w2:=by rw[opW,if_neg o2,←hw2]
      have en:opN o nme w1=nm2:=by rw[opN,if_neg o2,←hnm2]
      rw[eo,en]
      simp-implicitDefEqProofs[o2]
      refine ae (by simp) (okB nf2 w2 _ (by simp[okO,below])) (by simp[below])
    have eov:(opW o nme b w1).vs=w2.vs:=by
     rw[opW,←hw2];split
     ·rfl
     ·split<;>rfl
    have eoc:(opW o nme b w1).count=w2.count:=by rw[vn,h2c]
    have hwb:IntKind.i64.wrap ((b:Int)+1)=((b+1:Nat):Int):=by rw[ab (by omega) (by omega)];omega
    have hstw:stW fns k b (.mk o nme a bd el) wi=sN fns k (b+1) el (sN fns k (b+1) bd (opW o nme b w1)):=by
     rw[stW]
     simp only[hw1,sN,Nat.succ_pos,if_true]
     rfl
    have hrns:(rnS fns k b (.mk o nme a bd el) wi).cs=[.int .i64 o,.str (opN o nme w1),exL (kJ w1.vs a),smL (iA fns k (b+1) bd (opW o nme b w1)),smL (iA fns k (b+1) el (sN fns k (b+1) bd (opW o nme b w1)))]:=by
     rw[rnS,Sm.cs_eq]
     simp only[hw1,sN,Nat.succ_pos,if_true,Sm.op,Sm.name,Sm.args,Sm.body,Sm.els,e1v]
     have:opN o nme wi=opN o nme w1:=by simp only[opN,e1v,e1c]
     rw[this]
    rw[hstw] at eW
    clear hstw
    generalize opW o nme b w1=w3 at eov eoc hrns eW⊢
    have hn3:nf2=true->w3.vs=[]:=λh=>by rw[eov];exact hn2 h
    have h3v:w3.vs.length<=w3.count:=by rw[eov,eoc];exact h2v
    simp-implicitDefEqProofs[hwb]
    refine(Ku G (id:=3) (ih bd (by omega) (b+1) nf2 w3 hn3 h3v (by omega) (by omega)) (by simp) (by simp[below]) (by decide) rfl rfl).mono ?_
    rintro r h' ⟨nf4,w4,rfl,rfl,hn4,hw4⟩
    rw[←hw4] at hrns eW
    have h4c:w4.count=w3.count+rY bd:=by rw[hw4];exact Gi _ _ _ _ _
    have h4v:w4.vs.length<=w4.count:=by
     have:w4.vs=w3.vs:=by rw[hw4];simp[sN,WS.back]
     rw[this,h4c];omega
    simp-implicitDefEqProofs[aa,hwb]
    refine(Ku G (id:=5) (ih el (by omega) (b+1) nf4 w4 hn4 h4v (by omega) (by omega)) (by simp) (by simp[below]) (by decide) rfl rfl).mono ?_
    rintro r h' ⟨nf5,w5,rfl,rfl,hn5,hw5⟩
    rw[←hw5] at eW
    have hsl2:(smR out).length=i:=by rw[fZ];exact hol
    simp-implicitDefEqProofs[aa,hsl2]
    refine⟨⟨by omega,by omega⟩,⟨i+1,nf5⟩,⟨by simp only;omega,λh=>by simp only at h⊢;rw[eW];exact hn5 h⟩,by simp only;omega,?_⟩
    simp only
    rw[eW,eR,Cw]
    have htk:List.take i (smR out)=smR out:=US (by omega)
    rw[htk]
    have hsm1:smR [rnS fns k b (.mk o nme a bd el) wi]=[[.p (.int .i64 o),.p (.str (opN o nme w1)),.p (exL (kJ w1.vs a)),.p (smL (iA fns k (b+1) bd w3)),.p (smL (iA fns k (b+1) el w4))]]:=by rw[smR,VS,hrns];rfl
    rw[hsm1]
    refine eQ [0,1,8,6] (by simp) (by decide) (by decide) (Ay (by simp) rfl (fa (by simp) (bc rfl (λx hx=>?_) (bR rfl (gi _ _ _) bv)))) (by simp[below,ren,hsl,show IntKind.i64.wrap ((i:Int)+1)=((i:Int)+1) from ab (by omega) (by omega)])
    rcases UW.1 hx with h|h
    ·exact dM out x h
    ·rw[UY.1 h];simp
   ·simp at h
    have hie:i=l.length:=by omega
    subst hie
    rw[List.take_length] at hn⊢
    obtain⟨ext,hext⟩:=DV fns k l b w
    have hlen:=zu fns k b l w
    refine jK (ah 96 [(7,.p (smL (iA fns k b l w)))]) [wO 2 nf fns k (sN fns k b l w),.dead,roC nf (sN fns k b l w).vs] ?_ ?_
    ·have fin:∀(r1:List (Nat × AV)) (w':WS),w'.vs=w.vs\/w'.vs=(bO fns k b l w).vs->(Aw.look r1 7= .sl 2 5 0 l.length)->
      Wk 2 (ah 96 r1) [wO 3 nf fns k w',.dead,.row 5 (smR (iA fns k b l w)),roC nf (bO fns k b l w).vs] (ah 96 [(7,.p (smL (iA fns k b l w)))]) [wO 2 nf fns k w',.dead,roC nf w'.vs]:=by
      intro r1 w' hv' hr
      refine Wk.trans (Hv (h1:=[wO 3 nf fns k w',.dead,.row 5 (smR (iA fns k b l w)),roC nf w'.vs]) ?_) (Wk.trans (eQ (l1:=[(7,.sl 3 5 0 l.length)]) (h1:=[wO 2 nf fns k w',.dead,roC nf w'.vs,.row 5 (smR (iA fns k b l w))]) [0,1,3,2] (by simp) (by decide) (by decide) (Ay (by simp) rfl (fa (by simp) (bR rfl (gi _ _ _) (bc rfl (dM _) bv)))) (by simp[below,ren,hr]))
       (dK 3 (by omega) (by simp) rfl (.same (vG (by omega)) (.dead (.same (gi _ _ _) (.nil _)))) ?_))
      ·refine⟨.inl rfl,.inl rfl,.inl rfl,?_,trivial⟩
       rcases hv' with e|e
       ·cases nf with
        |true=>exact .inl rfl
        |false=>
         refine .inr ⟨3,lvR (bO fns k b l w).vs,w.vs.length,rfl,?_⟩
         rw[hext,LS,e];rfl
       ·rw[e];exact .inl rfl
      ·rw[←hlen]
       exact⟨.one (kL rfl) .nil,trivial⟩
     by_cases hb0:0<b
     ·have hwe:sN fns k b l w=(bO fns k b l w).back w.vs:=if_pos hb0
      rw[hwe]
      have hll2:(bO fns k b l w).vs.length=ext.length+w.vs.length:=by rw[hext,Va]
      cases nf with
      |true=>
       have h0:=hn rfl
       rw[h0] at hext
       have h00:w.vs=[]:=(List.append_eq_nil_iff.1 hext.symm).2
       simp-implicitDefEqProofs[hb0,wO,wC,vaC,h00]
       rw[h00] at fin
       exact fin _ ⟨[],(bO fns k b l w).count,(bO fns k b l w).code⟩ (.inl rfl) (by simp)
      |false=>
       have hle:w.vs.length<=(bO fns k b l w).vs.length:=by omega
       simp-implicitDefEqProofs[hb0,wO,wC,vaC,hle]
       exact fin _ ⟨w.vs,(bO fns k b l w).count,(bO fns k b l w).code⟩ (.inl rfl) (by simp)
     ·have hwe:sN fns k b l w=bO fns k b l w:=if_neg hb0
      have hb0':b=0:=by omega
      subst hb0'
      rw[hwe]
      simp-implicitDefEqProofs[]
      exact fin _ _ (.inr rfl) (by simp)
    ·simp-implicitDefEqProofs[]
     refine⟨nf,_,rfl,rfl,?_,rfl⟩
     intro hnf
     have h0:=hn hnf
     unfold sN
     split
     ·rw[h0] at hext;exact(List.append_eq_nil_iff.1 hext.symm).2
     ·exact h0
end
end Go.Proofs.YtokiapglmedipaaGreatDoor
