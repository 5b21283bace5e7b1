/-
  Contracts and lemmas that the card needs, part 5.
-/
import Derived.Test.YtokiapglmedipaaGreatDoorWr4
import Derived.Laws.RangeAny
import Derived.Laws.RangeString
namespace Go.Proofs.YtokiapglmedipaaGreatDoor
open Go Go.Aw
set_option maxRecDepth 100000
set_option maxHeartbeats 4000000
section
theorem an{α:Type}{xs:List α}{i:Nat}(h:i<xs.length):xs.take (i+1)=xs.take i++[xs[i]]:=by
 rw[List.take_add_one,VA h];rfl
def sZ(l:List Int):PV:= .lst 1 (l.map λn=>[.int .u8 n])
def bu(l:List Int):PV:= .lst 1 (l.map λn=>[.int .i64 n])
def US(l:List Int):List (List AV):=l.map λn=>[.p (.int .i64 n)]
def gE(l:List Int):AO:= .row 1 (l.map λn=>[.p (.int .i64 n)])
def am(l:List (List UInt8)):PV:= .lst 1 (l.map λw=>[.str w])
def Vh(l:List (List UInt8)):List (List AV):=l.map λw=>[.p (.str w)]
def cJ(l:List (List UInt8)):AO:= .row 1 (l.map λn=>[.p (.str n)])
theorem Cc(l:List Int):∀x∈US l,af 0 x:=by
 intro x hx;obtain⟨m,_,rfl⟩:=VW.1 hx;simp[af,below]
theorem pY(l:List (List UInt8)):∀x∈Vh l,af 0 x:=by
 intro x hx;obtain⟨m,_,rfl⟩:=VW.1 hx;simp[af,below]
theorem iW{l:List Int}{id:Nat}{h:List AO}(e:h[id]?=some (gE l)):View h (.sl id 1 0 l.length) (bu l):=by
 have:=jw (h:=h) (id:=id) (sz:=1) (n:=l.length) (ls:=l.map λn=>[.int .i64 n]) (by rw[e,gE];simp) (by simp) (λx hx=>by obtain⟨b,_,rfl⟩:=VW.1 hx;rfl)
 exact this
theorem gB{l:List (List UInt8)}{id:Nat}{h:List AO}(e:h[id]?=some (cJ l)):View h (.sl id 1 0 l.length) (am l):=by
 have:=jw (h:=h) (id:=id) (sz:=1) (n:=l.length) (ls:=l.map λn=>[.str n]) (by rw[e,cJ];simp) (by simp) (λx hx=>by obtain⟨b,_,rfl⟩:=VW.1 hx;rfl)
 exact this
end
section
def dJ(c:UInt8):Bool:=decide (97<=c.toNat)&&decide (c.toNat<=122)
def keyW:List (List UInt8):=[[102,110],[108,101,116],[115,97,121],[112,117,116],[105,102],[101,108,115,101],[108,111,111,112],[98,97,99,107],[100,111]]
def aG(s:List UInt8):Bool:=s.all dJ&&decide (0<s.length)&&decide (s.length<=4)&& !keyW.contains s
def Ai:List UInt8:=[40,41,123,125,59,44,43,45,42,47,37,60,61,38,33,64]
def tO(s:List UInt8)(c:Int):Int:=match s.findIdx? (λx=>(x.toNat:Int)==c) with|some i=>i|none=> -1
def El(c:Int):Int:=if 97<=c/\c<=122 then 1 else if 48<=c/\c<=57 then 2 else if 0<=tO Ai c then 3 else if c=32\/c=10 then 4 else 0
theorem NW(x:UInt8):(El (x.toNat:Int)=1)↔dJ x=true:=by
 have h:(97<=(x.toNat:Int)/\(x.toNat:Int)<=122)↔dJ x=true:=by simp[dJ];omega
 unfold El
 constructor
 ·intro e
  split at e
  ·rename_i h1;exact h.1 h1
  ·repeat' split at e
   all_goals omega
 ·intro e;rw[if_pos (h.2 e)]
def CY(s:List UInt8):Int:=match s.findIdx? (λx=> !dJ x) with|some i=>i|none=> -1
theorem JV(s:List UInt8):decide (CY s<0)=s.all dJ:=by
 unfold CY
 cases h:s.findIdx? (λx=> !dJ x) with
 |none=>
  rw[Wh] at h
  have:s.all dJ=true:=VH.2 λx hx=>by have:=h x hx;simpa using this
  simp[this]
 |some i=>
  rw[VU] at h
  obtain⟨h1,h2,_⟩:=h
  have:s.all dJ=false:=List.all_eq_false.2 ⟨_,VT h1,by simpa using h2⟩
  rw[this];simp
def idxS(l:List (List UInt8))(s:List UInt8):Int:=match l.findIdx? (λw=>w==s) with|some i=>i|none=> -1
theorem JW(l:List (List UInt8))(s:List UInt8):decide (0<=idxS l s)=l.contains s:=by
 unfold idxS
 cases h:l.findIdx? (λw=>w==s) with
 |none=>
  rw[Wh] at h
  have:l.contains s=false:=by
   cases hc:l.contains s with
   |false=>rfl
   |true=>
    have hm:s∈l:=by simpa using hc
    have:=h s hm
    simp at this
  rw[this];simp
 |some i=>
  rw[VU] at h
  obtain⟨h1,h2,_⟩:=h
  have:l.contains s=true:=by
   simp only[beq_iff_eq] at h2
   rw[List.contains_iff_mem,←h2];exact VT h1
  rw[this];simp
variable (G:al)
theorem vF(s:List UInt8)(c:Int)(hb:s.length<=1048576):VF Tryz.prog G ll [.p (.str s),.p (.int .u8 c)] (.p (.int .i64 (tO s c))):=by
 refine AC.go zQ ?_
 simp-implicitDefEqProofs[pq]
 refine aN (λi:Nat=>ah 18 [(0,.p (.str s)),(1,.p (.int .u8 c)),(5,.p (.int .i64 i))]) (λ_=>[]) (λi=>i<=s.length/\∀x∈s.take i,(x.toNat:Int)≠c) (λi=>s.length-i) 0 (by simp) ?_ ?_
 ·exact bX rfl (by simp[below])
 ·intro i ⟨hi,hn⟩
  simp-implicitDefEqProofs[]
  refine bh (λh1=>?_) (λh1=>?_)
  ·simp at h1
   have hg:=VA h1
   by_cases he:(s[i].toNat:Int)=c
   ·have hf:tO s c=i:=by
     have:s.findIdx? (λx=>(x.toNat:Int)==c)=some i:=by
      rw[VU]
      exact⟨h1,by simpa using he,λj hj=>by have:=hn s[j] (WH.2 ⟨j,by omega,rfl⟩);simpa using this⟩
     rw[tO,this]
    simp-implicitDefEqProofs[hg,he,hf]
   ·simp-implicitDefEqProofs[hg,he]
    refine⟨i+1,⟨h1,λp hp=>?_⟩,by omega,bX rfl ?_⟩
    ·rw[an h1] at hp
     rcases VJ.1 hp with hp|hp
     ·exact hn p hp
     ·rw[VK.1 hp];exact he
    ·simp[below,w1 (i:=i) (by omega)]
  ·simp at h1
   rw[VE h1] at hn
   have hf:tO s c= -1:=by
    have:s.findIdx? (λx=>(x.toNat:Int)==c)=none:=by
     rw[Wh];intro x hx;simpa using hn x hx
    rw[tO,this]
   simp-implicitDefEqProofs[hf]
theorem IY(c:Int):VF Tryz.prog G la [.p (.int .u8 c)] (.p (.int .i64 (El c))):=by
 refine AC.go Au ?_
 simp-implicitDefEqProofs[pg]
 unfold El
 by_cases h1:97<=c
 ·by_cases h2:c<=122
  ·simp-implicitDefEqProofs[h1,h2]
  ·have h3:¬c<=57:=by omega
   have h4:¬c=32:=by omega
   have h5:¬c=10:=by omega
   have h6:48<=c:=by omega
   simp-implicitDefEqProofs[h1,h2,h3,h6]
   refine(vF G Ai c (by decide)).use ?_
   generalize tO Ai c=w
   by_cases hf:0<=w
   ·simp-implicitDefEqProofs[hf]
   ·simp-implicitDefEqProofs[hf,h4,h5]
 ·simp-implicitDefEqProofs[h1]
  by_cases h2:48<=c
  ·by_cases h3:c<=57
   ·simp-implicitDefEqProofs[h2,h3]
   ·have h4:¬c=32:=by omega
    have h5:¬c=10:=by omega
    simp-implicitDefEqProofs[h2,h3]
    refine(vF G Ai c (by decide)).use ?_
    generalize tO Ai c=w
    by_cases hf:0<=w
    ·simp-implicitDefEqProofs[hf]
    ·simp-implicitDefEqProofs[hf,h4,h5]
  ·simp-implicitDefEqProofs[h2]
   refine(vF G Ai c (by decide)).use ?_
   generalize tO Ai c=w
   by_cases hf:0<=w
   ·simp-implicitDefEqProofs[hf]
   ·by_cases h4:c=32
    ·simp-implicitDefEqProofs[hf,h4]
    ·by_cases h5:c=10
     ·simp-implicitDefEqProofs[hf,h4,h5]
     ·simp-implicitDefEqProofs[hf,h4,h5]
theorem Om(s:List UInt8)(hb:s.length<=140737488355328):VF Tryz.prog G no [.p (.str s),.p (.int .i64 1)] (.p (.bool (s.all dJ&&decide (0<s.length)))):=by
 refine AC.go CE ?_
 simp-implicitDefEqProofs[uk]
 refine aN (λi:Nat=>ah 21 [(0,.p (.str s)),(1,.p (.int .i64 1)),(5,.p (.int .i64 i))]) (λ_=>[]) (λi=>i<=s.length/\∀x∈s.take i,dJ x=true) (λi=>s.length-i) 0 (by simp) ?_ ?_
 ·exact bX rfl (by simp[below])
 ·intro i ⟨hi,hn⟩
  simp-implicitDefEqProofs[]
  refine bh (λh1=>?_) (λh1=>?_)
  ·simp at h1
   have hg:=VA h1
   simp-implicitDefEqProofs[hg]
   refine(IY G _).use ?_
   have hcl:=NW s[i]
   by_cases he:dJ s[i]=true
   ·have hc:=hcl.2 he
    simp-implicitDefEqProofs[hc]
    refine⟨i+1,⟨h1,λp hp=>?_⟩,by omega,bX rfl ?_⟩
    ·rw[an h1] at hp
     rcases VJ.1 hp with hp|hp
     ·exact hn p hp
     ·rw[VK.1 hp];exact he
    ·simp[below,w1 (i:=i) (by omega)]
   ·have hc:¬El (s[i].toNat:Int)=1:=λe=>he (hcl.1 e)
    have ha:s.all dJ=false:=List.all_eq_false.2 ⟨_,VT h1,by simpa using he⟩
    simp-implicitDefEqProofs[hc,ha]
  ·simp at h1
   rw[VE h1] at hn
   have ha:s.all dJ=true:=VH.2 hn
   simp-implicitDefEqProofs[ha]
theorem Ga:VF Tryz.prog G fZ [] (.p (am keyW)):=by
 have key:AC Tryz.prog G fZ [] [] λx h=>x= .ret (.sl 0 1 0 9)/\h=[.row 1 (keyW.map λw=>[.p (.str w)])]:=by
  refine AC.go yM ?_
  simp-implicitDefEqProofs[nQ,keyW]
 exact AC.freeze key (.one (jw (ls:=keyW.map λw=>[.str w]) (by simp) (by simp[keyW]) (by simp)) .nil)
theorem OR(s:List UInt8):VF Tryz.prog G nO [.p (.str s)] (.p (.bool (keyW.contains s))):=by
 refine AC.go Ds ?_
 have hsl:am keyW= .lst 1 (keyW.map λw=>[.str w]):=rfl
 have hkl:keyW.length=9:=rfl
 simp-implicitDefEqProofs[tc]
 refine(Ga G).use ?_
 simp-implicitDefEqProofs[]
 refine aN (λi:Nat=>ah 18 [(0,.p (.str s)),(3,.p (am keyW)),(4,.p (.int .i64 i))]) (λ_=>[]) (λi=>i<=keyW.length/\∀w∈keyW.take i,w≠s) (λi=>keyW.length-i) 0 (by simp) ?_ ?_
 ·exact bX rfl (by simp[below,am])
 ·intro i ⟨hi,hn⟩
  generalize keyW=L at*
  simp-implicitDefEqProofs[hsl]
  refine bh (λh1=>?_) (λh1=>?_)
  ·simp at h1
   have hg:=VA h1
   by_cases he:L[i]=s
   ·have hm:s∈L:=by rw[←he];exact VT h1
    simp-implicitDefEqProofs[hg,he,hm]
   ·simp-implicitDefEqProofs[hg,he]
    refine⟨i+1,⟨h1,λp hp=>?_⟩,by omega,bX rfl ?_⟩
    ·rw[an h1] at hp
     rcases VJ.1 hp with hp|hp
     ·exact hn p hp
     ·rw[VK.1 hp];exact he
    ·simp[below,w1 (i:=i) (by omega)]
  ·simp at h1
   rw[VE h1] at hn
   have hm:¬s∈L:=λhm=>hn s hm rfl
   simp-implicitDefEqProofs[hm]
theorem td(s:List UInt8)(hb:s.length<=140737488355328):VF Tryz.prog G cC [.p (.str s)] (.p (.bool (aG s))):=by
 refine AC.go BJ ?_
 simp-implicitDefEqProofs[si]
 refine(Om G s hb).use ?_
 cases h1:(s.all dJ&&decide (0<s.length)) with
 |false=>
  have hi:aG s=false:=by rw[aG,h1];rfl
  simp-implicitDefEqProofs[hi]
 |true=>
  by_cases h4:s.length<=4
  ·have h4i:(s.length:Int)<=4:=by omega
   have hi:aG s= !keyW.contains s:=by rw[aG,h1];simp[h4]
   simp-implicitDefEqProofs[h4i]
   refine(OR G s).use ?_
   rw[hi]
   simp-implicitDefEqProofs[]
  ·have h4i:¬(s.length:Int)<=4:=by omega
   have hi:aG s=false:=by rw[aG,h1];simp[h4]
   simp-implicitDefEqProofs[h4i,hi]
end
section
inductive Ex where
 |mk (op n:Int) (name:List UInt8) (kids:List Ex)
inductive Sm where
 |mk (op:Int) (name:List UInt8) (args:List Ex) (body els:List Sm)
structure Fd where (name:List UInt8) (params:List (List UInt8)) (body:List Sm)
def Ex.op:Ex->Int| .mk o _ _ _=>o
def Ex.n:Ex->Int| .mk _ n _ _=>n
def Ex.name:Ex->List UInt8| .mk _ _ s _=>s
def Ex.kids:Ex->List Ex| .mk _ _ _ k=>k
def Sm.op:Sm->Int| .mk o _ _ _ _=>o
def Sm.name:Sm->List UInt8| .mk _ s _ _ _=>s
def Sm.args:Sm->List Ex| .mk _ _ a _ _=>a
def Sm.body:Sm->List Sm| .mk _ _ _ b _=>b
def Sm.els:Sm->List Sm| .mk _ _ _ _ e=>e
mutual
def Ex.cs:Ex->List PV
 | .mk o n s k=>[.int .i64 o,.int .i64 n,.str s,.lst 4 (MK k)]
def MK:List Ex->List (List PV)
 |[]=>[]
 |e::r=>e.cs::MK r
end
mutual
def Sm.cs:Sm->List PV
 | .mk o s a b e=>[.int .i64 o,.str s,.lst 4 (MK a),.lst 5 (LT b),.lst 5 (LT e)]
def LT:List Sm->List (List PV)
 |[]=>[]
 |s::r=>s.cs::LT r
end
theorem zk:∀l:List Ex,MK l=l.map Ex.cs
 |[]=>rfl
 |e::r=>by rw[MK,zk r];rfl
theorem zt:∀l:List Sm,LT l=l.map Sm.cs
 |[]=>rfl
 |e::r=>by rw[LT,zt r];rfl
def exL(l:List Ex):PV:= .lst 4 (l.map Ex.cs)
def smL(l:List Sm):PV:= .lst 5 (l.map Sm.cs)
theorem Ex.cs_eq(e:Ex):e.cs=[.int .i64 e.op,.int .i64 e.n,.str e.name,exL e.kids]:=by
 cases e;rw[Ex.cs,zk];rfl
theorem Sm.cs_eq(s:Sm):s.cs=[.int .i64 s.op,.str s.name,exL s.args,smL s.body,smL s.els]:=by
 cases s;rw[Sm.cs,zk,zt,zt];rfl
@[simp] theorem Ex.cs_len(e:Ex):e.cs.length=4:=by cases e;rfl
@[simp] theorem Ex.cs_take(e:Ex):List.take 4 (e.cs.map AV.p)=e.cs.map AV.p:=by cases e;rfl
@[simp] theorem Sm.cs_len(s:Sm):s.cs.length=5:=by cases s;rfl
@[simp] theorem Sm.cs_take(s:Sm):List.take 5 (s.cs.map AV.p)=s.cs.map AV.p:=by cases s;rfl
def Fd.cs(f:Fd):List PV:=[.str f.name,am f.params,smL f.body]
@[simp] theorem Fd.cs_len(f:Fd):f.cs.length=3:=rfl
@[simp] theorem Fd.cs_take(f:Fd):List.take 3 (f.cs.map AV.p)=f.cs.map AV.p:=rfl
def fdL(l:List Fd):PV:= .lst 3 (l.map Fd.cs)
mutual
def Ex.sz:Ex->Nat
 | .mk _ _ s k=>1+s.length+aX k
def aX:List Ex->Nat
 |[]=>0
 |e::r=>e.sz+aX r
end
mutual
def Sm.sz:Sm->Nat
 | .mk _ s a b e=>1+s.length+aX a+aC b+aC e
def aC:List Sm->Nat
 |[]=>0
 |s::r=>s.sz+aC r
end
def Fd.sz(f:Fd):Nat:=1+f.name.length+(f.params.length+(f.params.map List.length).sum)+aC f.body
def aH(l:List Fd):Nat:=(l.map Fd.sz).sum
theorem Ex.sz_eq(e:Ex):e.sz=1+e.name.length+aX e.kids:=by cases e;rfl
theorem Sm.sz_eq(s:Sm):s.sz=1+s.name.length+aX s.args+aC s.body+aC s.els:=by cases s;rfl
theorem eM:∀a b:List Ex,aX (a++b)=aX a+aX b
 |[],b=>by simp[aX]
 |e::r,b=>by simp only[Wn,aX,eM r b];omega
theorem bC:∀a b:List Sm,aC (a++b)=aC a+aC b
 |[],b=>by simp[aC]
 |e::r,b=>by simp only[Wn,aC,bC r b];omega
theorem bQ:∀{l:List Ex} {e:Ex},e∈l->e.sz<=aX l
 |x::r,e,h=>by
  simp only[aX]
  rcases VL.1 h with rfl|h
  ·omega
  ·have:=bQ h;omega
theorem dT:∀{l:List Sm} {e:Sm},e∈l->e.sz<=aC l
 |x::r,e,h=>by
  simp only[aC]
  rcases VL.1 h with rfl|h
  ·omega
  ·have:=dT h;omega
theorem bG:∀l:List Ex,l.length<=aX l
 |[]=>VM _
 |e::r=>by have:=bG r;have:=e.sz_eq;simp only[aX,VV];omega
theorem cr:∀l:List Sm,l.length<=aC l
 |[]=>VM _
 |e::r=>by have:=cr r;have:=e.sz_eq;simp only[aC,VV];omega
mutual
def Ex.parts:Ex->Nat
 | .mk _ _ _ k=>1+fz k
def fz:List Ex->Nat
 |[]=>0
 |e::r=>e.parts+fz r
end
theorem Ex.parts_eq(e:Ex):e.parts=1+fz e.kids:=by cases e;rfl
theorem jz:∀a b:List Ex,fz (a++b)=fz a+fz b
 |[],b=>by simp[fz]
 |e::r,b=>by simp only[Wn,fz,jz r b];omega
mutual
theorem Ex.parts_le:∀e:Ex,e.parts<=e.sz
 | .mk _ _ s k=>by have:=Da k;simp only[Ex.parts,Ex.sz];omega
theorem Da:∀l:List Ex,fz l<=aX l
 |[]=>VM _
 |e::r=>by have:=e.parts_le;have:=Da r;simp only[fz,aX];omega
end
mutual
def Sm.cnt:Sm->Nat
 | .mk _ _ _ b e=>1+dr b+dr e
def dr:List Sm->Nat
 |[]=>0
 |s::r=>s.cnt+dr r
end
theorem Sm.cnt_eq(s:Sm):s.cnt=1+dr s.body+dr s.els:=by cases s;rfl
theorem ow:∀a b:List Sm,dr (a++b)=dr a+dr b
 |[],b=>by simp[dr]
 |e::r,b=>by simp only[Wn,dr,ow r b];omega
mutual
theorem Sm.cnt_le:∀s:Sm,s.cnt<=s.sz
 | .mk _ s a b e=>by have:=pF b;have:=pF e;simp only[Sm.cnt,Sm.sz];omega
theorem pF:∀l:List Sm,dr l<=aC l
 |[]=>VM _
 |e::r=>by have:=e.cnt_le;have:=pF r;simp only[dr,aC];omega
end
def inR(n lo hi:Int):Bool:=decide (lo<=n)&&decide (n<=hi)
def loK(op:Int):Nat:=if op=1\/op=2 then 0 else if op=11\/op=12 then 1 else if op=13 then 0 else 2
def hiK(op:Int):Nat:=if op=1\/op=2 then 0 else if op=11\/op=12 then 1 else if op=13 then 3 else 2
def Gh(op:Int):Bool:=decide (op=2)||decide (op=13)
def lA(e:Ex):Bool:=inR e.op 1 13&&inR e.kids.length (loK e.op) (hiK e.op)&&(Gh e.op==aG e.name)&&(Gh e.op||decide (e.name=[]))&&inR e.n 0 255&&(decide (e.op=1)||decide (e.n=0))
def bU:Nat->Ex->Bool
 |0,_=>false
 |d+1,e=>lA e&&e.kids.all (bU d)
def kw(e:Ex):Bool:=bU 6 e&&decide (e.parts<=30)
def gz(op:Int):Nat:=if op=4 then 2 else 1
def cQ(op:Int):Bool:=decide (op=1)||decide (op=2)
def gP(s:Sm):Bool:=inR s.op 1 8&&decide (s.args.length=gz s.op)&&(cQ s.op==aG s.name)&&(cQ s.op||decide (s.name=[]))&&s.args.all kw&&
 (!decide (s.op=8)||(match s.args with|a::_=>decide (a.op=13)|[]=>false))&&(s.els.isEmpty||decide (s.op=5))&&(s.body.isEmpty||decide (s.op=5)||decide (s.op=6))
def az:Nat->Sm->Bool
 |0,_=>false
 |d+1,s=>gP s&&s.body.all (az d)&&s.els.all (az d)
def iL(f:Fd):Bool:=f.params.all aG&&aG f.name&&decide (f.params.length<=3)&&f.body.all (az 4)
def kx(l:List Fd):Nat:=(l.map λf=>dr f.body).sum
def bl(l:List Fd):Bool:=inR l.length 1 4&&l.all iL&&decide (kx l<=40)
end
section
theorem gu{s:Bool}{h:List AO}{vs:List AV}{q:PV}{I:List Nat}(H:OwnL s h vs [q] I):∃v,vs=[v]:=by
 have:=H.len
 match vs,this with
 |[v],_=>exact⟨v,rfl⟩
theorem On{s:Bool}{h:List AO}{vs:List AV}{q r:PV}{I:List Nat}(H:OwnL s h vs [q,r] I):∃a b,vs=[a,b]:=by
 have:=H.len
 match vs,this with
 |[a,b],_=>exact⟨a,b,rfl⟩
theorem Jy{s:Bool}{h:List AO}{vs:List AV}{q r t:PV}{I:List Nat}(H:OwnL s h vs [q,r,t] I):∃a b c,vs=[a,b,c]:=by
 have:=H.len
 match vs,this with
 |[a,b,c],_=>exact⟨a,b,c,rfl⟩
theorem GI{s:Bool}{h:List AO}{vs:List AV}{e:Ex}{I:List Nat}(H:OwnL s h vs e.cs I):∃K,vs=[.p (.int .i64 e.op),.p (.int .i64 e.n),.p (.str e.name),K]/\OwnL s h [K] [exL e.kids] I:=by
 rw[e.cs_eq] at H
 cases H with
 |p _ _ H=>
  cases H with
  |p _ _ H=>
   cases H with
   |p _ _ H=>
    obtain⟨v,rfl⟩:=gu H
    exact⟨v,rfl,H⟩
theorem LU{s:Bool}{h:List AO}{o n:Int}{w:List UInt8}{k:List Ex}{K:AV}{I:List Nat}(H:OwnL s h [K] [exL k] I):OwnL s h [.p (.int .i64 o),.p (.int .i64 n),.p (.str w),K] (Ex.mk o n w k).cs I:=by
 rw[Ex.cs_eq]
 exact .p _ (λ_=>rfl) (.p _ (λ_=>rfl) (.p _ (λ_=>rfl) H))
theorem QR{s:Bool}{h:List AO}{vs:List AV}{e:Sm}{I:List Nat}(H:OwnL s h vs e.cs I):∃A B E I1 I2 I3,vs=[.p (.int .i64 e.op),.p (.str e.name),A,B,E]/\I=I1++(I2++I3)/\OwnL s h [A] [exL e.args] I1/\OwnL s h [B] [smL e.body] I2/\OwnL s h [E] [smL e.els] I3:=by
 rw[e.cs_eq] at H
 cases H with
 |p _ _ H=>
  cases H with
  |p _ _ H=>
   obtain⟨A,B,E,rfl⟩:=Jy H
   obtain⟨I1,I',rfl,h1,H⟩:=H.one
   obtain⟨I2,I3,rfl,h2,h3⟩:=H.one
   exact⟨A,B,E,I1,I2,I3,rfl,rfl,h1,h2,h3⟩
theorem QJ{s:Bool}{h:List AO}{o:Int}{w:List UInt8}{a:List Ex}{b e:List Sm}{A B E:AV}{I1 I2 I3:List Nat}(h1:OwnL s h [A] [exL a] I1)(h2:OwnL s h [B] [smL b] I2)(h3:OwnL s h [E] [smL e] I3):
 OwnL s h [.p (.int .i64 o),.p (.str w),A,B,E] (Sm.mk o w a b e).cs (I1++(I2++I3)):=by
 rw[Sm.cs_eq]
 exact .p _ (λ_=>rfl) (.p _ (λ_=>rfl) (h1.app (h2.app h3)))
theorem Ra{s:Bool}{h:List AO}{vs:List AV}{f:Fd}{I:List Nat}(H:OwnL s h vs f.cs I):∃A B I1 I2,vs=[.p (.str f.name),A,B]/\I=I1++I2/\OwnL s h [A] [am f.params] I1/\OwnL s h [B] [smL f.body] I2:=by
 rw[show f.cs=[.str f.name,am f.params,smL f.body] from rfl] at H
 cases H with
 |p _ _ H=>
  obtain⟨A,B,rfl⟩:=On H
  obtain⟨I1,I2,rfl,h1,H⟩:=H.one
  exact⟨A,B,I1,I2,rfl,rfl,h1,H⟩
theorem sO{s:Bool}{h:List AO}{w:List UInt8}{ps:List (List UInt8)}{b:List Sm}{A B:AV}{I1 I2:List Nat}(h1:OwnL s h [A] [am ps] I1)(h2:OwnL s h [B] [smL b] I2):OwnL s h [.p (.str w),A,B] (Fd.mk w ps b).cs (I1++I2):=
 .p _ (λ_=>rfl) (h1.app h2)
end
section
def Fr(K:List Nat)(h h':List AO):Prop:=h.length<=h'.length/\∀i,i<h.length->i∉K->h'[i]?=h[i]?
theorem Fr.refl(K:List Nat)(h:List AO):Fr K h h:=⟨VM _,λ_ _ _=>rfl⟩
theorem Fr.more(K:List Nat)(h os:List AO):Fr K h (h++os):=⟨by simp,λi hi _=>Vz hi⟩
theorem Fr.trans{K K':List Nat}{h h1 h2:List AO}(a:Fr K h h1)(b:Fr K' h1 h2)(hk:∀i∈K',i∈K\/h.length<=i):Fr K h h2:=
 ⟨VR a.1 b.1,λi hi hn=>by
   rw[b.2 i (VX hi a.1) (λhm=>by
    rcases hk i hm with q|q
    ·exact hn q
    ·omega),a.2 i hi hn]⟩
theorem Fr.sub{K K':List Nat}{h h1:List AO}(a:Fr K h h1)(hk:∀i∈K,i∈K'\/h.length<=i):Fr K' h h1:=
 ⟨a.1,λi hi hn=>a.2 i hi λhm=>by
   rcases hk i hm with q|q
   ·exact hn q
   ·omega⟩
theorem Fr.from{K:List Nat}{h os h2:List AO}(a:Fr K (h++os) h2):Fr K h h2:=
 ⟨by have:=a.1;simp at this;omega,λi hi hn=>by rw[a.2 i (by simp;omega) hn,Vz hi]⟩
theorem Tl(q:PV):(AV.p q).isCell=true:=rfl
theorem SA(a b c d:Nat):(AV.sl a b c d).isCell=true:=rfl
theorem Qk(a b c d:Nat):(AV.ptr a b c d).isCell=true:=rfl
theorem SW(q:PV):(AV.p q).cells=[AV.p q]:=rfl
theorem Tw(a b c d:Nat):(AV.sl a b c d).cells=[AV.sl a b c d]:=rfl
theorem QU(a b c d:Nat):(AV.ptr a b c d).cells=[AV.ptr a b c d]:=rfl
end
section
def Vc(hF:List AO)(n:Nat)(o x y:AO):Prop:=
 (x= .dead/\y=o/\okO n o)\/(x= .dead/\y= .dead)\/(x=o/\y= .dead)\/(x= .dead/\∃sz e e1,o= .row sz [e]/\y= .row sz [e1]/\Fzs hF n e e1)
theorem CG{hF:List AO}{n:Nat}:∀(h:List AO) (X Y:Nat->AO->AO),(∀i o,h[i]?=some o->Vc hF n o (X i o) (Y i o))->Thn hF n h (h.mapIdx X) (h.mapIdx Y)
 |[],_,_,_=>by rw[List.mapIdx_nil,List.mapIdx_nil];exact .nil
 |o::r,X,Y,H=>by
  rw[List.mapIdx_cons,List.mapIdx_cons]
  have ih:=CG (hF:=hF) (n:=n) r (λi=>X (i+1)) (λi=>Y (i+1)) λi o h=>H (i+1) o h
  rcases H 0 o rfl with⟨h1,h2,h3⟩|⟨h1,h2⟩|⟨h1,h2⟩|⟨h1,sz,e,e1,rfl,h2,h3⟩
  ·rw[h1,h2];exact .same h3 ih
  ·rw[h1,h2];exact .drop ih
  ·rw[h1,h2];exact .give ih
  ·rw[h1,h2];exact .one h3 ih
end
section
structure LV where (name:List UInt8) (num block:Nat)
structure WS where (vs:List LV) (count:Nat) (code:Int)
def fl(c k:Int):Int:=if c=0 then k else c
theorem zU{c k:Int}(h:c≠0):fl c k=c:=if_neg h
def lkV(vs:List LV)(s:List UInt8):Option LV:=vs.find? λv=>decide (v.name=s)
def be(fns:List Fd)(s:List UInt8):Option Nat:=fns.findIdx? λf=>decide (f.name=s)
def rt(fns:List Fd)(j:Nat):Nat:=match fns[j]? with|some f=>f.params.length|none=>0
def nX(vs:List LV)(s:List UInt8)(c:Int):Int:=match lkV vs s with|none=>fl c 3|some _=>c
def ki(fns:List Fd)(k:Nat)(s:List UInt8)(n:Nat)(c:Int):Int:=
 match be fns s with|none=>fl c 4|some j=>if k<=j then fl c 4 else if rt fns j=n then c else fl c 5
def fg(fns:List Fd)(k:Nat)(vs:List LV)(o:Int)(s:List UInt8)(n:Nat)(c:Int):Int:=
 if o=2 then nX vs s c else if o=13 then ki fns k s n c else c
mutual
def jy(fns:List Fd)(k:Nat)(vs:List LV):Ex->Int->Int
 | .mk o _ s ks,c=>bc fns k vs ks (fg fns k vs o s ks.length c)
def bc(fns:List Fd)(k:Nat)(vs:List LV):List Ex->Int->Int
 |[],c=>c
 |e::r,c=>bc fns k vs r (jy fns k vs e c)
end
def vnm(n:Nat):List UInt8:=[118,UInt8.ofNat (97+n%26)]
def zy(vs:List LV)(s:List UInt8):List UInt8:=match lkV vs s with|none=>s|some v=>vnm v.num
mutual
def rnE(vs:List LV):Ex->Ex
 | .mk o n s ks=> .mk o n (if o=2 then zy vs s else s) (kK vs ks)
def kK(vs:List LV):List Ex->List Ex
 |[]=>[]
 |e::r=>rnE vs e::kK vs r
end
def nY(vs:List LV)(s:List UInt8)(b:Nat)(c:Int):Int:=match lkV vs s with|none=>c|some v=>if v.block=b then fl c 2 else c
def gt(w:WS)(s:List UInt8)(b:Nat):WS:=⟨⟨s,w.count,b⟩::w.vs,w.count+1,nY w.vs s b w.code⟩
def opW(o:Int)(s:List UInt8)(b:Nat)(w:WS):WS:=if o=1 then gt w s b else if o=2 then⟨w.vs,w.count,nX w.vs s w.code⟩ else w
def opN(o:Int)(s:List UInt8)(w:WS):List UInt8:=if o=1 then vnm w.count else if o=2 then zy w.vs s else s
def WS.back(w:WS)(vs:List LV):WS:=⟨vs,w.count,w.code⟩
mutual
def stW(fns:List Fd)(k b:Nat):Sm->WS->WS
 | .mk o s a bd el,w=>
   let w2:=opW o s b ⟨w.vs,w.count,bc fns k w.vs a w.code⟩
   let w3:=(bv fns k (b+1) bd w2).back w2.vs
   (bv fns k (b+1) el w3).back w2.vs
def bv(fns:List Fd)(k b:Nat):List Sm->WS->WS
 |[],w=>w
 |s::r,w=>bv fns k b r (stW fns k b s w)
end
def bw(ps:List (List UInt8))(w:WS):WS:=ps.foldl (λw s=>gt w s 0) w
def fnW(fns:List Fd)(k:Nat)(f:Fd):WS:=bv fns k 0 f.body (bw f.params ⟨[],0,if be fns f.name=some k then 0 else 2⟩)
def iQ(fns:List Fd):Nat->List Fd->Int
 |_,[]=>0
 |k,f::r=>if(fnW fns k f).code=0 then iQ fns (k+1) r else(fnW fns k f).code
def aI(fns:List Fd):Int:=if bl fns then iQ fns 0 fns else 1
abbrev Scp:=List (List UInt8 × Nat)
def dN(m:Scp)(s:List UInt8):Option Nat:=(m.find? λx=>decide (x.1=s)).map (·.2)
def gx:Scp->List UInt8->Nat->Scp
 |[],s,n=>[(s,n)]
 |x::r,s,n=>if x.1=s then(s,n)::r else x::gx r s n
def fP:List Scp->List UInt8->Option Nat
 |[],_=>none
 |m::r,s=>match dN m s with|some n=>some n|none=>fP r s
def gw(fns:List Fd)(k:Nat)(ch:List Scp)(c:Int)(e:Ex):Int:=
 if e.op=2 then(if(fP ch e.name).isSome then c else fl c 3)
 else if e.op=13 then(match be (fns.take k) e.name with|none=>fl c 4|some j=>if rt fns j=e.kids.length then c else fl c 5)
 else c
mutual
def Ex.pre:Ex->List Ex
 | .mk o n s ks=> .mk o n s ks::dt ks
def dt:List Ex->List Ex
 |[]=>[]
 |e::r=>e.pre++dt r
end
def FE(fns:List Fd)(k:Nat)(ch:List Scp)(l:List Ex)(c:Int):Int:=(dt l).foldl (gw fns k ch) c
def opS(o:Int)(s:List UInt8)(m:Scp)(n:Nat):Scp:=if o=1 then gx m s n else m
def opC(o:Int)(s:List UInt8)(m:Scp)(up:List Scp)(c:Int):Int:=
 if o=1 then(if(dN m s).isSome then fl c 2 else c) else if o=2 then(if(fP (m::up) s).isSome then c else fl c 3) else c
mutual
def icS(fns:List Fd)(k:Nat):Sm->Scp->List Scp->Int->Scp × Int
 | .mk o s a bd el,m,up,c=>
   let m2:=opS o s m 0
   let c2:=opC o s m up (FE fns k (m::up) a c)
   (m2,if o=5\/o=6 then(iC fns k el [] (m2::up) (iC fns k bd [] (m2::up) c2).2).2 else c2)
def iC(fns:List Fd)(k:Nat):List Sm->Scp->List Scp->Int->Scp × Int
 |[],m,_,c=>(m,c)
 |s::r,m,up,c=>iC fns k r (icS fns k s m up c).1 up (icS fns k s m up c).2
end
def jr(ps:List (List UInt8))(m:Scp)(c:Int):Scp × Int:=ps.foldl (λx s=>(gx x.1 s 0,if(dN x.1 s).isSome then fl x.2 2 else x.2)) (m,c)
def icF(fns:List Fd)(k:Nat)(f:Fd)(c:Int):Int:=
 let c1:=if(match be fns f.name with|some j=>decide (j<k)|none=>true) then fl c 2 else c
 let x:=jr f.params [] c1
 (iC fns k f.body x.1 [] x.2).2
def kV(fns:List Fd):Nat->List Fd->Int->Int
 |_,[],c=>c
 |k,f::r,c=>kV fns (k+1) r (icF fns k f c)
def SR(g:LV->Nat):Nat->List LV->List Scp->Prop
 |_,_,[]=>False
 |b,vs,m::up=>∃v1 v2,vs=v1++v2/\(∀v∈v1,v.block=b)/\(∀s,(lkV v1 s).map g=dN m s)/\match b with
  |0=>v2=[]/\up=[]
  |b+1=>SR g b v2 up
theorem zb(a b:List LV)(s:List UInt8):lkV (a++b) s=match lkV a s with|some v=>some v|none=>lkV b s:=by
 simp only[lkV,List.find?_append]
 cases List.find? (λv=>decide (v.name=s)) a<;>rfl
variable {g:LV->Nat}
theorem SR.blk:∀{b:Nat} {vs:List LV} {ch:List Scp},SR g b vs ch->∀v∈vs,v.block<=b
 |b,_,[],h,v,hv=>by cases b<;>exact False.elim h
 |0,vs,m::up,⟨v1,v2,e,h1,_,h3,_⟩,v,hv=>by
  subst e;subst h3
  rw[Ws] at hv
  exact Nat.le_of_eq (h1 v hv)
 |b+1,vs,m::up,⟨v1,v2,e,h1,_,h3⟩,v,hv=>by
  subst e
  rcases VJ.1 hv with h|h
  ·exact Nat.le_of_eq (h1 v h)
  ·exact Nat.le_succ_of_le (SR.blk h3 v h)
theorem SR.fnd:∀{b:Nat} {vs:List LV} {ch:List Scp},SR g b vs ch->∀s,(lkV vs s).map g=fP ch s
 |b,_,[],h,s=>by cases b<;>exact False.elim h
 |0,vs,m::up,⟨v1,v2,e,h1,h2,h3,h4⟩,s=>by
  subst e;subst h3;subst h4
  rw[Ws,h2,fP]
  cases dN m s<;>rfl
 |b+1,vs,m::up,⟨v1,v2,e,h1,h2,h3⟩,s=>by
  subst e
  have ih:=SR.fnd h3 s
  have h2:=h2 s
  rw[zb,fP,←h2]
  cases e1:lkV v1 s with
  |some v=>rfl
  |none=>exact ih
theorem SR.is{b:Nat}{vs:List LV}{ch:List Scp}(h:SR g b vs ch)(s:List UInt8):(lkV vs s).isSome=(fP ch s).isSome:=by rw[←h.fnd s,Option.isSome_map]
theorem yU{vs:List LV}{s:List UInt8}{v:LV}(h:lkV vs s=some v):v∈vs:=List.mem_of_find?_eq_some h
theorem SR.put:∀{b:Nat} {vs:List LV} {m:Scp} {up:List Scp},SR g b vs (m::up)->∀(s:List UInt8) (c:Int),nY vs s b c=if(dN m s).isSome then fl c 2 else c:=by
 intro b vs m up h s c
 have key:∀v1 v2:List LV,(∀v∈v1,v.block=b)->(lkV v1 s).map g=dN m s->(∀v∈v2,v.block≠b)->nY (v1++v2) s b c=if(dN m s).isSome then fl c 2 else c:=by
  intro v1 v2 h1 h2 h3
  rw[←h2,nY,zb]
  cases e1:lkV v1 s with
  |some v=>simp[h1 v (yU e1)]
  |none=>
   cases e2:lkV v2 s with
   |none=>rfl
   |some v=>simp[h3 v (yU e2)]
 match b,h with
 |0,⟨v1,v2,e,h1,h2,h3,_⟩=>subst e;subst h3;exact key v1 [] h1 (h2 s) (λv hv=>by simp at hv)
 |b+1,⟨v1,v2,e,h1,h2,h3⟩=>subst e;exact key v1 v2 h1 (h2 s) (λv hv e=>by have:=h3.blk v hv;omega)
theorem AZ:∀(m:Scp) (s:List UInt8) (n:Nat) (t:List UInt8),dN (gx m s n) t=if s=t then some n else dN m t
 |[],s,n,t=>by
  by_cases h:s=t
  ·simp[gx,dN,h]
  ·simp[gx,dN,h]
 |x::r,s,n,t=>by
  have ih:=AZ r s n t
  simp only[dN] at ih
  by_cases hx:x.1=s
  ·by_cases h:s=t
   ·simp[gx,dN,hx,h]
   ·have:¬x.1=t:=by rw[hx];exact h
    simp[gx,dN,hx,h]
  ·by_cases ht:x.1=t
   ·have:¬s=t:=λe=>hx (ht.trans e.symm)
    rw[gx,if_neg hx,if_neg this];simp[dN,ht]
   ·simp only[gx,dN,if_neg hx,List.find?_cons,ht,decide_false]
    exact ih
theorem SR.add{b:Nat}{vs:List LV}{m:Scp}{up:List Scp}(h:SR g b vs (m::up))(s:List UInt8)(n k:Nat)(hg:g ⟨s,n,b⟩=k):SR g b (⟨s,n,b⟩::vs) (gx m s k::up):=by
 have key:∀v1:List LV,(∀s,(lkV v1 s).map g=dN m s)->∀t,(lkV (⟨s,n,b⟩::v1) t).map g=dN (gx m s k) t:=by
  intro v1 h2 t
  rw[AZ]
  by_cases e:s=t
  ·simp[lkV,e,←hg]
  ·rw[if_neg e,←h2 t];simp[lkV,e]
 match b,h with
 |0,⟨v1,v2,e,h1,h2,h3⟩=>
  subst e
  refine⟨⟨s,n,0⟩::v1,v2,rfl,λv hv=>?_,key v1 h2,h3⟩
  rcases VL.1 hv with rfl|hv
  ·rfl
  ·exact h1 v hv
 |b+1,⟨v1,v2,e,h1,h2,h3⟩=>
  subst e
  refine⟨⟨s,n,b+1⟩::v1,v2,rfl,λv hv=>?_,key v1 h2,h3⟩
  rcases VL.1 hv with rfl|hv
  ·rfl
  ·exact h1 v hv
theorem SR.open{b:Nat}{vs:List LV}{ch:List Scp}(h:SR g b vs ch):SR g (b+1) vs ([]::ch):=⟨[],vs,rfl,λv hv=>by simp at hv,λs=>rfl,h⟩
theorem SR.base:SR g 0 [] [[]]:=⟨[],[],rfl,λv hv=>by simp at hv,λs=>rfl,rfl,rfl⟩
theorem CC{α:Type}{p:α->Bool}{l:List α}{k:Nat}:(l.take k).findIdx? p=match l.findIdx? p with|some j=>if j<k then some j else none|none=>none:=by
 cases h:l.findIdx? p with
 |none=>
  rw[Wh] at h⊢
  exact λx hx=>h x (Wr hx)
 |some j=>
  rw[VU] at h
  obtain⟨h1,h2,h3⟩:=h
  simp only
  split
  ·rename_i hj
   rw[VU]
   exact⟨by rw[Wb];omega,by rw[List.getElem_take];exact h2,λi hi=>by rw[List.getElem_take];exact h3 i hi⟩
  ·rename_i hj
   rw[Wh]
   intro x hx
   obtain⟨i,hi,rfl⟩:=WH.1 hx
   simpa using h3 i (by omega)
theorem MV(fns:List Fd)(k:Nat){vs:List LV}{ch:List Scp}(h:∀s,(lkV vs s).isSome=(fP ch s).isSome)(e:Ex)(c:Int):fg fns k vs e.op e.name e.kids.length c=gw fns k ch c e:=by
 unfold fg gw
 split
 ·rw[←h,nX];cases lkV vs e.name<;>rfl
 ·split
  ·rw[ki,be,be,CC]
   cases List.findIdx? (λf=>decide (f.name=e.name)) fns with
   |none=>rfl
   |some j=>
    simp only
    by_cases hj:j<k
    ·rw[if_neg (by omega),if_pos hj]
    ·rw[if_pos (by omega),if_neg hj]
  ·rfl
mutual
theorem Nu(fns:List Fd)(k:Nat){vs:List LV}{ch:List Scp}(h:∀s,(lkV vs s).isSome=(fP ch s).isSome):∀(e:Ex) (c:Int),jy fns k vs e c=e.pre.foldl (gw fns k ch) c
 | .mk o n s ks,c=>by
   rw[jy,Ex.pre,List.foldl_cons,←zD fns k h ks,←MV fns k h];rfl
theorem zD(fns:List Fd)(k:Nat){vs:List LV}{ch:List Scp}(h:∀s,(lkV vs s).isSome=(fP ch s).isSome):∀(l:List Ex) (c:Int),bc fns k vs l c=(dt l).foldl (gw fns k ch) c
 |[],c=>rfl
 |e::r,c=>by rw[bc,dt,List.foldl_append,Nu fns k h e,zD fns k h r]
end
abbrev g0:LV->Nat:=λ_=>0
theorem PT{b:Nat}{w:WS}{m:Scp}{up:List Scp}(h:SR g0 b w.vs (m::up))(o:Int)(s:List UInt8):SR g0 b (opW o s b w).vs (opS o s m 0::up)/\(opW o s b w).code=opC o s m up w.code:=by
 unfold opW opS opC
 by_cases h1:o=1
 ·simp only[h1,if_true]
  exact⟨h.add s _ 0 rfl,h.put s _⟩
 ·simp only[if_neg h1]
  split
  ·refine⟨h,?_⟩
   have:=h.is s
   simp only[nX]
   rw[←this]
   cases lkV w.vs s<;>rfl
  ·exact⟨h,rfl⟩
theorem Gk{d:Nat}{o:Int}{s:List UInt8}{a:List Ex}{bd el:List Sm}(h:az (d+1) (.mk o s a bd el)=true):bd.all (az d)=true/\el.all (az d)=true/\(¬(o=5\/o=6)->bd=[]/\el=[]):=by
 simp only[az,gP,Sm.op,Sm.body,Sm.els,VS,Bool.or_eq_true,decide_eq_true_eq,List.isEmpty_iff] at h
 refine⟨h.1.2,h.2,λhn=>⟨?_,?_⟩⟩
 ·rcases h.1.1.2 with(h|h)|h
  ·exact h
  ·exact absurd (.inl (of_decide_eq_true h)) hn
  ·exact absurd (.inr (of_decide_eq_true h)) hn
 ·rcases h.1.1.1.2 with h|h
  ·exact h
  ·exact absurd (.inl (of_decide_eq_true h)) hn
theorem cH(w:WS)(vs:List LV):(w.back vs).code=w.code:=rfl
theorem Qe(fns:List Fd)(k:Nat):∀(d b:Nat) (l:List Sm),l.all (az d)=true->∀(w:WS) (m:Scp) (up:List Scp),SR g0 b w.vs (m::up)->
 SR g0 b (bv fns k b l w).vs ((iC fns k l m up w.code).1::up)/\(bv fns k b l w).code=(iC fns k l m up w.code).2:=by
 intro d
 induction d with
 |zero=>
  intro b l hl w m up h
  cases l with
  |nil=>exact⟨h,rfl⟩
  |cons s r=>simp[az] at hl
 |succ d ih=>
  have dL:∀(b:Nat) (s:Sm),az (d+1) s=true->∀(w:WS) (m:Scp) (up:List Scp),SR g0 b w.vs (m::up)->
   SR g0 b (stW fns k b s w).vs ((icS fns k s m up w.code).1::up)/\(stW fns k b s w).code=(icS fns k s m up w.code).2:=by
   intro b s hs w m up h
   obtain⟨o,n,a,bd,el⟩:=s
   obtain⟨f1,f2,f3⟩:=Gk hs
   have hc:=zD fns k h.is a w.code
   obtain⟨g1,g2⟩:=PT (w:=⟨w.vs,w.count,bc fns k w.vs a w.code⟩) h o n
   rw[stW,icS]
   simp only[hc] at g1 g2⊢
   generalize hw2:opW o n b ⟨w.vs,w.count,(dt a).foldl (gw fns k (m::up)) w.code⟩=w2 at*
   refine⟨g1,?_⟩
   rw[cH]
   have g2':w2.code=opC o n m up (FE fns k (m::up) a w.code):=g2
   rw[←g2']
   by_cases ho:o=5\/o=6
   ·rw[if_pos ho]
    have k1:=ih (b+1) bd f1 w2 [] _ g1.open
    have k2:=ih (b+1) el f2 ((bv fns k (b+1) bd w2).back w2.vs) [] _ g1.open
    rw[k2.2,cH,k1.2]
   ·obtain⟨rfl,rfl⟩:=f3 ho
    rw[if_neg ho]
    simp[bv,WS.back]
  intro b l
  induction l with
  |nil=>intro _ w m up h;exact⟨h,rfl⟩
  |cons s r ihl=>
   intro hl w m up h
   rw[List.all_cons,VS] at hl
   obtain⟨k1,k2⟩:=dL b s hl.1 w m up h
   have:=ihl hl.2 _ _ up k1
   rw[bv,iC,←k2]
   exact this
theorem Dx:∀(ps:List (List UInt8)) (w:WS) (m:Scp),SR g0 0 w.vs [m]->SR g0 0 (bw ps w).vs [(jr ps m w.code).1]/\(bw ps w).code=(jr ps m w.code).2
 |[],w,m,h=>⟨h,rfl⟩
 |s::r,w,m,h=>by
  have hp:=h.put s w.code
  have:=Dx r (gt w s 0) (gx m s 0) (h.add s w.count 0 rfl)
  simp only[bw,jr,List.foldl_cons] at this⊢
  rw[←hp]
  exact this
theorem KA{fns:List Fd}{k:Nat}{ch:List Scp}{c:Int}(h:c≠0)(e:Ex):gw fns k ch c e=c:=by
 unfold gw
 simp only[zU h]
 split
 ·split<;>rfl
 ·split
  ·split
   ·rfl
   ·split<;>rfl
  ·rfl
theorem Co{fns:List Fd}{k:Nat}{ch:List Scp}{c:Int}(h:c≠0):∀l:List Ex,l.foldl (gw fns k ch) c=c
 |[]=>rfl
 |e::r=>by rw[List.foldl_cons,KA h,Co h r]
theorem JS{o:Int}{s:List UInt8}{m:Scp}{up:List Scp}{c:Int}(h:c≠0):opC o s m up c=c:=by
 unfold opC
 simp only[zU h]
 split
 ·split<;>rfl
 ·split
  ·split<;>rfl
  ·rfl
mutual
theorem LH(fns:List Fd)(k:Nat){c:Int}(h:c≠0):∀(s:Sm) (m:Scp) (up:List Scp),(icS fns k s m up c).2=c
 | .mk o s a bd el,m,up=>by
   rw[icS]
   simp only[FE,Co h,JS h]
   rw[pQ fns k h bd,pQ fns k h el,ite_self]
theorem pQ(fns:List Fd)(k:Nat){c:Int}(h:c≠0):∀(l:List Sm) (m:Scp) (up:List Scp),(iC fns k l m up c).2=c
 |[],m,up=>rfl
 |s::r,m,up=>by rw[iC,LH fns k h s m up,pQ fns k h r]
end
theorem vq{c:Int}(h:c≠0):∀(ps:List (List UInt8)) (m:Scp),(jr ps m c).2=c
 |[],m=>rfl
 |s::r,m=>by
  have:=vq h r (gx m s 0)
  simp only[jr,List.foldl_cons,zU h,ite_self] at this⊢
  exact this
theorem KC(fns:List Fd)(k:Nat)(f:Fd){c:Int}(h:c≠0):icF fns k f c=c:=by
 simp only[icF,zU h,ite_self]
 rw[vq h,pQ fns k h]
theorem Bf(fns:List Fd){c:Int}(h:c≠0):∀(l:List Fd) (k:Nat),kV fns k l c=c
 |[],k=>rfl
 |f::r,k=>by rw[kV,KC fns k f h,Bf fns h r]
theorem Cq{fns:List Fd}{k:Nat}{f:Fd}(h:fns[k]?=some f):∃j,be fns f.name=some j/\j<=k:=by
 cases e:be fns f.name with
 |none=>
  rw[be,Wh] at e
  have:=e f (VD h)
  simp at this
 |some j=>
  refine⟨j,rfl,?_⟩
  rw[be,VU] at e
  obtain⟨h1,h2,h3⟩:=e
  rcases Wo k j with hk|hk
  ·have:=h3 k hk
   obtain⟨a1,a2⟩:=Vx.1 h
   rw[a2] at this
   simp at this
  ·exact hk
theorem SM(fns:List Fd){k:Nat}{f:Fd}(hf:fns[k]?=some f)(hok:iL f=true):(fnW fns k f).code=icF fns k f 0:=by
 obtain⟨j,e1,e2⟩:=Cq hf
 have hb:f.body.all (az 4)=true:=by simp only[iL,VS] at hok;exact hok.2
 have hc:(if be fns f.name=some k then(0:Int) else 2)=if(match be fns f.name with|some j=>decide (j<k)|none=>true) then fl 0 2 else 0:=by
  rw[e1]
  by_cases h:j=k
  ·subst h;simp
  ·have:j<k:=by omega
   simp[h,this,fl]
 obtain⟨p1,p2⟩:=Dx f.params ⟨[],0,if be fns f.name=some k then(0:Int) else 2⟩ [] SR.base
 obtain⟨q1,q2⟩:=Qe fns k 4 0 f.body hb _ _ [] p1
 rw[fnW,q2,p2]
 simp only[icF,←hc]
theorem JZ(fns:List Fd):∀(l:List Fd) (k:Nat),(∀i,l[i]?=fns[k+i]?)->l.all iL=true->iQ fns k l=kV fns k l 0
 |[],k,_,_=>rfl
 |f::r,k,hl,ha=>by
  rw[List.all_cons,VS] at ha
  have h0:fns[k]?=some f:=by have:=hl 0;simpa using this.symm
  have hr:∀i,r[i]?=fns[k+1+i]?:=λi=>by have:=hl (i+1);rw[VQ] at this;rw[this];congr 1;omega
  rw[iQ,kV,SM fns h0 ha.1]
  split
  ·rename_i e;rw[e];exact JZ fns r (k+1) hr ha.2
  ·rename_i e;rw[Bf fns e]
theorem Gx(fns:List Fd):aI fns=if bl fns then kV fns 0 fns 0 else 1:=by
 unfold aI
 split
 ·rename_i h
  simp only[bl,VS] at h
  exact JZ fns fns 0 (λi=>by rw[WC]) h.1.2
 ·rfl
end
section
mutual
def rnS(fns:List Fd)(k b:Nat):Sm->WS->Sm
 | .mk o s a bd el,w=>
   let w2:=opW o s b ⟨w.vs,w.count,bc fns k w.vs a w.code⟩
   .mk o (opN o s w) (kK w.vs a) (iB fns k (b+1) bd w2) (iB fns k (b+1) el ((bv fns k (b+1) bd w2).back w2.vs))
def iB(fns:List Fd)(k b:Nat):List Sm->WS->List Sm
 |[],_=>[]
 |s::r,w=>rnS fns k b s w::iB fns k b r (stW fns k b s w)
end
def nw:List (List UInt8)->WS->List (List UInt8)
 |[],_=>[]
 |s::r,w=>vnm w.count::nw r (gt w s 0)
def rnF(fns:List Fd)(k:Nat)(f:Fd):Fd:=
 ⟨f.name,nw f.params ⟨[],0,if be fns f.name=some k then 0 else 2⟩,iB fns k 0 f.body (bw f.params ⟨[],0,if be fns f.name=some k then 0 else 2⟩)⟩
mutual
def IP:Sm->Nat
 | .mk o _ _ bd el=>(if o=1 then 1 else 0)+rC bd+rC el
def rC:List Sm->Nat
 |[]=>0
 |s::r=>IP s+rC r
end
theorem uO(o:Int)(s:List UInt8)(b:Nat)(w:WS):(opW o s b w).count=w.count+if o=1 then 1 else 0:=by
 unfold opW
 split
 ·rfl
 ·split<;>rfl
mutual
theorem Cj(fns:List Fd)(k:Nat):∀(s:Sm) (b:Nat) (w:WS),(stW fns k b s w).count=w.count+IP s
 | .mk o s a bd el,b,w=>by
   rw[stW,IP]
   simp only[WS.back]
   rw[iR fns k el,iR fns k bd,uO];show w.count+_+_+_=_
   omega
theorem iR(fns:List Fd)(k:Nat):∀(l:List Sm) (b:Nat) (w:WS),(bv fns k b l w).count=w.count+rC l
 |[],b,w=>rfl
 |s::r,b,w=>by rw[bv,rC,iR fns k r,Cj fns k s];omega
end
mutual
theorem Nt:∀s:Sm,IP s<=s.cnt
 | .mk o s a bd el=>by
   have:=uF bd
   have:=uF el
   simp only[IP,Sm.cnt]
   split<;>omega
theorem uF:∀l:List Sm,rC l<=dr l
 |[]=>VM _
 |s::r=>by have:=Nt s;have:=uF r;simp only[rC,dr];omega
end
theorem vK:∀(ps:List (List UInt8)) (w:WS),(bw ps w).count=w.count+ps.length
 |[],w=>rfl
 |s::r,w=>by
  have:=vK r (gt w s 0)
  simp only[bw,List.foldl_cons,VV] at this⊢
  rw[this];simp only[gt];omega
theorem Pe(o:Int)(s:List UInt8)(b:Nat)(w:WS):∃e,(opW o s b w).vs=e++w.vs:=by
 unfold opW
 split
 ·exact⟨[_],rfl⟩
 ·split<;>exact⟨[],rfl⟩
theorem Gc(fns:List Fd)(k b:Nat)(o:Int)(s:List UInt8)(a:List Ex)(bd el:List Sm)(w:WS):(stW fns k b (.mk o s a bd el) w).vs=(opW o s b ⟨w.vs,w.count,bc fns k w.vs a w.code⟩).vs:=rfl
theorem Fj(fns:List Fd)(k:Nat):∀(l:List Sm) (b:Nat) (w:WS),∃e,(bv fns k b l w).vs=e++w.vs
 |[],b,w=>⟨[],rfl⟩
 | .mk o s a bd el::r,b,w=>by
   obtain⟨e1,h1⟩:=Fj fns k r b (stW fns k b (.mk o s a bd el) w)
   obtain⟨e2,h2⟩:=Pe o s b ⟨w.vs,w.count,bc fns k w.vs a w.code⟩
   exact⟨e1++e2,by rw[bv,h1,Gc,h2,Wg]⟩
theorem QE{o:Int}{s:List UInt8}{b:Nat}{w:WS}(h:w.vs.length<=w.count):(opW o s b w).vs.length<=(opW o s b w).count:=by
 unfold opW
 split
 ·simp[gt,h]
 ·split<;>exact h
theorem QA(fns:List Fd)(k:Nat){s:Sm}{b:Nat}{w:WS}(h:w.vs.length<=w.count):(stW fns k b s w).vs.length<=(stW fns k b s w).count:=by
 obtain⟨o,n,a,bd,el⟩:=s
 rw[Cj,Gc]
 have:=QE (o:=o) (s:=n) (b:=b) (w:=⟨w.vs,w.count,bc fns k w.vs a w.code⟩) h
 rw[uO] at this
 simp only[IP]
 simp only at this
 omega
theorem Hi(fns:List Fd)(k:Nat):∀{l:List Sm} {b:Nat} {w:WS},w.vs.length<=w.count->(bv fns k b l w).vs.length<=(bv fns k b l w).count
 |[],_,_,h=>h
 |s::r,b,w,h=>Hi fns k (l:=r) (QA fns k h)
mutual
def Sm.pre(d:Nat):Sm->List (Sm × Nat)
 | .mk o s a bd el=>(.mk o s a bd el,d)::(bI (d+1) bd++bI (d+1) el)
def bI(d:Nat):List Sm->List (Sm × Nat)
 |[]=>[]
 |s::r=>Sm.pre d s++bI d r
end
theorem Sm.pre_eq(d:Nat)(s:Sm):s.pre d=(s,d)::(bI (d+1) s.body++bI (d+1) s.els):=by cases s;rfl
theorem sF(d:Nat):∀a b:List Sm,bI d (a++b)=bI d a++bI d b
 |[],b=>rfl
 |s::r,b=>by rw[Wn,bI,bI,sF d r b,Wg]
theorem Ex.pre_eq(e:Ex):e.pre=e::dt e.kids:=by cases e;rfl
theorem ta:∀a b:List Ex,dt (a++b)=dt a++dt b
 |[],b=>rfl
 |e::r,b=>by rw[Wn,dt,dt,ta r b,Wg]
mutual
theorem Sm.pre_len:∀(s:Sm) (d:Nat),(s.pre d).length=s.cnt
 | .mk o s a bd el,d=>by simp only[Sm.pre,Sm.cnt,VV,VO,lq bd,lq el];omega
theorem lq:∀(l:List Sm) (d:Nat),(bI d l).length=dr l
 |[],d=>rfl
 |s::r,d=>by simp only[bI,dr,VO,Sm.pre_len s,lq r]
end
end
section
theorem vb{vs:List LV}{s:List UInt8}{c:Int}(h:c≠0):nX vs s c=c:=by unfold nX;split<;>simp[zU h]
theorem FG{fns:List Fd}{k:Nat}{s:List UInt8}{n:Nat}{c:Int}(h:c≠0):ki fns k s n c=c:=by
 unfold ki
 simp only[zU h]
 split
 ·rfl
 ·split
  ·rfl
  ·split<;>rfl
theorem FP{fns:List Fd}{k:Nat}{vs:List LV}{o:Int}{s:List UInt8}{n:Nat}{c:Int}(h:c≠0):fg fns k vs o s n c=c:=by
 unfold fg
 rw[vb h,FG h]
 split
 ·rfl
 ·split<;>rfl
mutual
theorem Jm(fns:List Fd)(k:Nat)(vs:List LV){c:Int}(h:c≠0):∀e:Ex,jy fns k vs e c=c
 | .mk o n s ks=>by rw[jy,FP h,nJ fns k vs h ks]
theorem nJ(fns:List Fd)(k:Nat)(vs:List LV){c:Int}(h:c≠0):∀l:List Ex,bc fns k vs l c=c
 |[]=>rfl
 |e::r=>by rw[bc,Jm fns k vs h e,nJ fns k vs h r]
end
theorem ck{fns:List Fd}{k:Nat}{vs:List LV}{l:List Ex}{c:Int}(h:bc fns k vs l c=0):c=0:=by
 by_cases hc:c=0
 ·exact hc
 ·rw[nJ fns k vs hc] at h;exact h
theorem BS{vs:List LV}{s:List UInt8}{c:Int}(h:nX vs s c=0):c=0/\∃v,lkV vs s=some v:=by
 by_cases hc:c=0
 ·refine⟨hc,?_⟩
  unfold nX at h
  cases e:lkV vs s with
  |some v=>exact⟨v,rfl⟩
  |none=>rw[e] at h;simp[fl,hc] at h
 ·rw[vb hc] at h;exact absurd h hc
theorem FB{o:Int}{s:List UInt8}{b:Nat}{w:WS}(h:w.code≠0):(opW o s b w).code=w.code:=by
 unfold opW
 split
 ·simp only[gt,nY,zU h]
  split
  ·rfl
  ·split<;>rfl
 ·split
  ·exact vb h
  ·rfl
mutual
theorem Nf(fns:List Fd)(k:Nat):∀(s:Sm) (b:Nat) (w:WS),w.code≠0->(stW fns k b s w).code=w.code
 | .mk o s a bd el,b,w,h=>by
   have e1:(bc fns k w.vs a w.code)=w.code:=nJ fns k w.vs h a
   have e2:(opW o s b ⟨w.vs,w.count,bc fns k w.vs a w.code⟩).code=w.code:=by rw[FB]<;>simp only[e1];exact h
   have e3:=pZ fns k bd (b+1) (opW o s b ⟨w.vs,w.count,bc fns k w.vs a w.code⟩) (by rw[e2];exact h)
   rw[stW,cH,pZ fns k el _ _ (by rw[cH,e3,e2];exact h),cH,e3,e2]
theorem pZ(fns:List Fd)(k:Nat):∀(l:List Sm) (b:Nat) (w:WS),w.code≠0->(bv fns k b l w).code=w.code
 |[],b,w,h=>rfl
 |s::r,b,w,h=>by
  have e1:=Nf fns k s b w h
  rw[bv,pZ fns k r b _ (by rw[e1];exact h),e1]
end
theorem bE{fns:List Fd}{k b:Nat}{l:List Sm}{w:WS}(h:(bv fns k b l w).code=0):w.code=0:=by
 by_cases hc:w.code=0
 ·exact hc
 ·rw[pZ fns k l b w hc] at h;exact h
theorem tq{o:Int}{s:List UInt8}{b:Nat}{w:WS}(h:(opW o s b w).code=0):w.code=0:=by
 by_cases hc:w.code=0
 ·exact hc
 ·rw[FB hc] at h;exact h
end
section
theorem mr(fns:List Fd):∀(l:List Fd) (k:Nat),iQ fns k l=0↔∀(i:Nat) (f:Fd),l[i]?=some f->(fnW fns (k+i) f).code=0
 |[],k=>by simp[iQ]
 |f::r,k=>by
  rw[iQ]
  have ih:=mr fns r (k+1)
  constructor
  ·intro h i g hg
   by_cases h0:(fnW fns k f).code=0
   ·rw[if_pos h0] at h
    cases i with
    |zero=>cases hg;exact h0
    |succ i=>have:=ih.1 h i g (by simpa using hg);rwa[show k+(i+1)=k+1+i by omega]
   ·rw[if_neg h0] at h;exact absurd h h0
  ·intro h
   rw[if_pos (by have:=h 0 f rfl;rwa[Nat.add_zero] at this)]
   exact ih.2 λi g hg=>by have:=h (i+1) g (by simpa using hg);rwa[show k+(i+1)=k+1+i by omega] at this
theorem pK(l:List Fd):aI l=0↔bl l=true/\∀(k:Nat) (f:Fd),l[k]?=some f->(fnW l k f).code=0:=by
 unfold aI
 by_cases h:bl l=true
 ·rw[if_pos h,mr];simp[h]
 ·rw[if_neg h];simp[h]
theorem iY(l:List Fd):bl l=true↔(1<=l.length/\l.length<=4)/\(∀f∈l,iL f=true)/\kx l<=40:=by
 simp only[bl,inR,VS,decide_eq_true_eq,VH]
 constructor
 ·rintro⟨⟨⟨h1,h2⟩,h3⟩,h4⟩;exact⟨⟨by omega,by omega⟩,h3,h4⟩
 ·rintro⟨⟨h1,h2⟩,h3,h4⟩;exact⟨⟨⟨by omega,by omega⟩,h3⟩,h4⟩
def Fd.cut(f:Fd)(n:Nat):Fd:=⟨f.name,f.params,f.body.take n⟩
end
section
abbrev Sc5:=List (List UInt8 × Int)
structure S5 where (left:Nat) (said:List Int) (cells:List Int)
inductive O5 (α:Type) where
 |ok (a:α)
 |st (c:Int)
def bO:Sc5->List UInt8->Option Int
 |[],_=>none
 |x::r,s=>if x.1=s then some x.2 else bO r s
def sset:Sc5->List UInt8->Int->Sc5
 |[],_,_=>[]
 |x::r,s,n=>if x.1=s then(s,n)::r else x::sset r s n
def fQ:List Sc5->List UInt8->Option Int
 |[],_=>none
 |m::r,s=>match bO m s with|some n=>some n|none=>fQ r s
def gq:List Sc5->List UInt8->Int->List Sc5
 |[],_,_=>[]
 |m::r,s,n=>if(bO m s).isSome then sset m s n::r else m::gq r s n
def tr5(b:Bool):Int:=if b then 1 else 0
def Dr(op a b:Int):Option Int:=
 if op=3 then some ((a+b)%256) else if op=4 then some ((a-b+256)%256) else if op=5 then some (a*b%256) else if op=8 then some (tr5 (decide (a<b))) else if op=9 then some (tr5 (decide (a=b)))
 else if b=0 then none else if op=6 then some (a/b) else some (a%b)
def S5.say(s:S5)(n:Int):S5:=⟨s.left,s.said++[n],s.cells⟩
def S5.put(s:S5)(i:Nat)(n:Int):S5:=⟨s.left,s.said,s.cells.set i n⟩
def S5.at_(s:S5)(F:Nat):S5:=⟨F,s.said,s.cells⟩
def V5(n:Int):Prop:=0<=n/\n<=255
inductive J5 where
 |ex (k:Nat) (v:List Sc5) (s:S5) (e:Ex) (s':S5) (r:O5 Int)
 |exs (k:Nat) (v:List Sc5) (s:S5) (es:List Ex) (s':S5) (r:O5 (List Int))
 |cal (k:Nat) (us:List Int) (s:S5) (s':S5) (r:O5 Int)
 |stm (k:Nat) (v:List Sc5) (s:S5) (x:Sm) (v':List Sc5) (s':S5) (r:O5 (Option Int))
 |blk (k:Nat) (v:List Sc5) (s:S5) (xs:List Sm) (v':List Sc5) (s':S5) (r:O5 (Option Int))
 |lp (k:Nat) (v:List Sc5) (s:S5) (x:Sm) (v':List Sc5) (s':S5) (r:O5 (Option Int))
def GT:O5 (Option Int)->O5 Int
 | .ok (some n)=> .ok n
 | .ok none=> .ok 0
 | .st c=> .st c
inductive Ev (l:List Fd):J5->Prop where
 |num {k v s e}:e.op=1->V5 e.n->Ev l (.ex k v s e s (.ok e.n))
 |var {k v s e n}:e.op=2->fQ v e.name=some n->Ev l (.ex k v s e s (.ok n))
 |call {k v s e s1 us j s2 r}:e.op=13->Ev l (.exs k v s e.kids s1 (.ok us))->be l e.name=some j->j<k->Ev l (.cal j us s1 s2 r)->Ev l (.ex k v s e s2 r)
 |callS {k v s e s1 c}:e.op=13->Ev l (.exs k v s e.kids s1 (.st c))->Ev l (.ex k v s e s1 (.st c))
 |firstS {k v s e a r s1 c}:3<=e.op->e.op<=12->e.kids=a::r->Ev l (.ex k v s a s1 (.st c))->Ev l (.ex k v s e s1 (.st c))
 |and0 {k v s e a b s1}:e.op=10->e.kids=[a,b]->Ev l (.ex k v s a s1 (.ok 0))->Ev l (.ex k v s e s1 (.ok 0))
 |and1 {k v s e a b s1 n s2 m}:e.op=10->e.kids=[a,b]->Ev l (.ex k v s a s1 (.ok n))->n≠0->Ev l (.ex k v s1 b s2 (.ok m))->Ev l (.ex k v s e s2 (.ok (tr5 (decide (m≠0)))))
 |andS {k v s e a b s1 n s2 c}:e.op=10->e.kids=[a,b]->Ev l (.ex k v s a s1 (.ok n))->n≠0->Ev l (.ex k v s1 b s2 (.st c))->Ev l (.ex k v s e s2 (.st c))
 |not {k v s e a s1 n}:e.op=11->e.kids=[a]->Ev l (.ex k v s a s1 (.ok n))->Ev l (.ex k v s e s1 (.ok (tr5 (decide (n=0)))))
 |at_ {k v s e a s1 n m}:e.op=12->e.kids=[a]->Ev l (.ex k v s a s1 (.ok (n:Nat)))->n<16->s1.cells[n]?=some m->Ev l (.ex k v s e s1 (.ok m))
 |atS {k v s e a s1 n}:e.op=12->e.kids=[a]->Ev l (.ex k v s a s1 (.ok n))->16<=n->Ev l (.ex k v s e s1 (.st 2))
 |bin {k v s e a b s1 n s2 m q}:3<=e.op->e.op<=9->e.kids=[a,b]->Ev l (.ex k v s a s1 (.ok n))->Ev l (.ex k v s1 b s2 (.ok m))->Dr e.op n m=some q->Ev l (.ex k v s e s2 (.ok q))
 |binS {k v s e a b s1 n s2 c}:3<=e.op->e.op<=9->e.kids=[a,b]->Ev l (.ex k v s a s1 (.ok n))->Ev l (.ex k v s1 b s2 (.st c))->Ev l (.ex k v s e s2 (.st c))
 |binD {k v s e a b s1 n s2 m}:3<=e.op->e.op<=9->e.kids=[a,b]->Ev l (.ex k v s a s1 (.ok n))->Ev l (.ex k v s1 b s2 (.ok m))->Dr e.op n m=none->Ev l (.ex k v s e s2 (.st 1))
 |nil {k v s}:Ev l (.exs k v s [] s (.ok []))
 |cons {k v s a r s1 n s2 ns}:Ev l (.ex k v s a s1 (.ok n))->Ev l (.exs k v s1 r s2 (.ok ns))->Ev l (.exs k v s (a::r) s2 (.ok (n::ns)))
 |consS {k v s a r s1 c}:Ev l (.ex k v s a s1 (.st c))->Ev l (.exs k v s (a::r) s1 (.st c))
 |consT {k v s a r s1 n s2 c}:Ev l (.ex k v s a s1 (.ok n))->Ev l (.exs k v s1 r s2 (.st c))->Ev l (.exs k v s (a::r) s2 (.st c))
 |cal {k f us s v' s' r}:l[k]?=some f->f.params.length=us.length->Ev l (.blk k [f.params.zip us] s f.body v' s' r)->Ev l (.cal k us s s' (GT r))
 |bnil {k v s}:Ev l (.blk k v s [] v s (.ok none))
 |bfuel {k v s x r}:s.left=0->Ev l (.blk k v s (x::r) v s (.st 3))
 |bgo {k v s x r F v1 s1 v2 s2 q}:s.left=F+1->Ev l (.stm k v (s.at_ F) x v1 s1 (.ok none))->Ev l (.blk k v1 s1 r v2 s2 q)->Ev l (.blk k v s (x::r) v2 s2 q)
 |bend {k v s x r F v1 s1 q}:s.left=F+1->Ev l (.stm k v (s.at_ F) x v1 s1 q)->q≠ .ok none->Ev l (.blk k v s (x::r) v1 s1 q)
 |argS {k v s x a r s1 c}:x.op≠6->x.args=a::r->Ev l (.ex k v s a s1 (.st c))->Ev l (.stm k v s x v s1 (.st c))
 |slet {k v s x a s1 n m up}:x.op=1->x.args=[a]->Ev l (.ex k v s a s1 (.ok n))->v=m::up->bO m x.name=none->Ev l (.stm k v s x ((m++[(x.name,n)])::up) s1 (.ok none))
 |sset {k v s x a s1 n}:x.op=2->x.args=[a]->Ev l (.ex k v s a s1 (.ok n))->(fQ v x.name).isSome=true->Ev l (.stm k v s x (gq v x.name n) s1 (.ok none))
 |ssay {k v s x a s1 n}:x.op=3->x.args=[a]->Ev l (.ex k v s a s1 (.ok n))->Ev l (.stm k v s x v (s1.say n) (.ok none))
 |sput {k v s x a b s1 n s2 m}:x.op=4->x.args=[a,b]->Ev l (.ex k v s a s1 (.ok (n:Nat)))->Ev l (.ex k v s1 b s2 (.ok m))->n<16->Ev l (.stm k v s x v (s2.put n m) (.ok none))
 |sputC {k v s x a b s1 n s2 m}:x.op=4->x.args=[a,b]->Ev l (.ex k v s a s1 (.ok n))->Ev l (.ex k v s1 b s2 (.ok m))->16<=n->Ev l (.stm k v s x v s2 (.st 2))
 |sputS {k v s x a b s1 n s2 c}:x.op=4->x.args=[a,b]->Ev l (.ex k v s a s1 (.ok n))->Ev l (.ex k v s1 b s2 (.st c))->Ev l (.stm k v s x v s2 (.st c))
 |sif {k v s x a s1 n m v' s2 q}:x.op=5->x.args=[a]->Ev l (.ex k v s a s1 (.ok n))->Ev l (.blk k ([]::v) s1 (if n≠0 then x.body else x.els) (m::v') s2 q)->Ev l (.stm k v s x v' s2 q)
 |sloop {k v s x v' s' q}:x.op=6->Ev l (.lp k v s x v' s' q)->Ev l (.stm k v s x v' s' q)
 |sback {k v s x a s1 n}:x.op=7->x.args=[a]->Ev l (.ex k v s a s1 (.ok n))->Ev l (.stm k v s x v s1 (.ok (some n)))
 |sdo {k v s x a s1 n}:x.op=8->x.args=[a]->Ev l (.ex k v s a s1 (.ok n))->Ev l (.stm k v s x v s1 (.ok none))
 |lpS {k v s x a s1 c}:x.args=[a]->Ev l (.ex k v s a s1 (.st c))->Ev l (.lp k v s x v s1 (.st c))
 |lp0 {k v s x a s1}:x.args=[a]->Ev l (.ex k v s a s1 (.ok 0))->Ev l (.lp k v s x v s1 (.ok none))
 |lpEnd {k v s x a s1 n m v' s2 q}:x.args=[a]->Ev l (.ex k v s a s1 (.ok n))->n≠0->Ev l (.blk k ([]::v) s1 x.body (m::v') s2 q)->q≠ .ok none->Ev l (.lp k v s x v' s2 q)
 |lpFuel {k v s x a s1 n m v' s2}:x.args=[a]->Ev l (.ex k v s a s1 (.ok n))->n≠0->Ev l (.blk k ([]::v) s1 x.body (m::v') s2 (.ok none))->s2.left=0->Ev l (.lp k v s x v' s2 (.st 3))
 |lpGo {k v s x a s1 n m v' s2 F v'' s3 q}:x.args=[a]->Ev l (.ex k v s a s1 (.ok n))->n≠0->Ev l (.blk k ([]::v) s1 x.body (m::v') s2 (.ok none))->s2.left=F+1->Ev l (.lp k v' (s2.at_ F) x v'' s3 q)->Ev l (.lp k v s x v'' s3 q)
end
section
structure G5 (s:S5):Prop where
 len:s.cells.length=16
 cells:∀c∈s.cells,V5 c
 said:∀c∈s.said,V5 c
def GE5(v:List Sc5):Prop:=∀m∈v,∀x∈m,V5 x.2
theorem Em:∀{m:Sc5} {s:List UInt8} {n:Int},bO m s=some n->(s,n)∈m
 |[],_,_,h=>by cases h
 |x::r,s,n,h=>by
  rw[bO] at h
  by_cases e:x.1=s
  ·rw[if_pos e] at h;cases h;subst e;simp
  ·rw[if_neg e] at h;exact Wq _ (Em h)
theorem uY:∀{v:List Sc5} {s:List UInt8} {n:Int},GE5 v->fQ v s=some n->V5 n
 |[],_,_,_,h=>by cases h
 |m::r,s,n,g,h=>by
  rw[fQ] at h
  cases e:bO m s with
  |some q=>
   rw[e] at h;cases h
   exact g m (by simp) _ (Em e)
  |none=>
   rw[e] at h
   exact uY (λm hm=>g m (by simp[hm])) h
theorem BN:∀{m:Sc5} {s:List UInt8} {n:Int},(∀x∈m,V5 x.2)->V5 n->∀x∈sset m s n,V5 x.2
 |[],_,_,_,_,x,hx=>by cases hx
 |y::r,s,n,g,hn,x,hx=>by
  rw[sset] at hx
  split at hx
  ·rcases VL.1 hx with rfl|hx
   ·exact hn
   ·exact g x (by simp[hx])
  ·rcases VL.1 hx with rfl|hx
   ·exact g x (by simp)
   ·exact BN (λx hx=>g x (by simp[hx])) hn x hx
theorem Cd:∀{v:List Sc5} {s:List UInt8} {n:Int},GE5 v->V5 n->GE5 (gq v s n)
 |[],_,_,g,_=>g
 |m::r,s,n,g,hn=>by
  rw[gq]
  split
  ·intro q hq
   rcases VL.1 hq with rfl|hq
   ·exact BN (g m (by simp)) hn
   ·exact g q (by simp[hq])
  ·intro q hq
   rcases VL.1 hq with rfl|hq
   ·exact g q (by simp)
   ·exact Cd (λm hm=>g m (by simp[hm])) hn q hq
theorem ip(b:Bool):V5 (tr5 b):=by cases b<;>simp[tr5,V5]
theorem Ch{op a b n:Int}(ha:V5 a)(hb:V5 b)(h:Dr op a b=some n):V5 n:=by
 obtain⟨a0,a1⟩:=ha
 obtain⟨b0,b1⟩:=hb
 unfold Dr at h
 split at h
 ·cases h;unfold V5;omega
 split at h
 ·cases h;unfold V5;omega
 split at h
 ·cases h
  have:0<=a*b:=Int.mul_nonneg a0 b0
  unfold V5
  generalize a*b=q at*
  omega
 split at h
 ·cases h;exact ip _
 split at h
 ·cases h;exact ip _
 split at h
 ·cases h
 split at h
 ·cases h
  have h1:0<=a/b:=Int.ediv_nonneg a0 b0
  have h2:a/b<=a:=Int.ediv_le_self b a0
  exact⟨h1,by omega⟩
 ·cases h
  rename_i hb0 _
  have h1:0<=a%b:=Int.emod_nonneg a hb0
  have h2:a%b<b:=Int.emod_lt_of_pos a (by omega)
  exact⟨h1,by omega⟩
theorem G5.say{s:S5}(g:G5 s){n:Int}(hn:V5 n):G5 (s.say n):=⟨g.len,g.cells,λc hc=>by
 rcases VJ.1 hc with h|h
 ·exact g.said c h
 ·rw[VK.1 h];exact hn⟩
theorem G5.put{s:S5}(g:G5 s)(i:Nat){n:Int}(hn:V5 n):G5 (s.put i n):=⟨by rw[←g.len];exact We,λc hc=>by
 rcases Wv hc with h|h
 ·exact g.cells c h
 ·rw[h];exact hn,g.said⟩
theorem G5.at_{s:S5}(g:G5 s)(F:Nat):G5 (s.at_ F):=⟨g.len,g.cells,g.said⟩
def UN:J5->Prop
 | .ex _ v s _ _ _=>G5 s/\GE5 v
 | .exs _ v s _ _ _=>G5 s/\GE5 v
 | .cal _ us s _ _=>G5 s/\∀n∈us,V5 n
 | .stm _ v s _ _ _ _=>G5 s/\GE5 v
 | .blk _ v s _ _ _ _=>G5 s/\GE5 v
 | .lp _ v s _ _ _ _=>G5 s/\GE5 v
def Sc:J5->Prop
 | .ex _ _ s _ s' r=>G5 s'/\s'.left<=s.left/\∀n,r= .ok n->V5 n
 | .exs _ _ s es s' r=>G5 s'/\s'.left<=s.left/\∀ns,r= .ok ns->ns.length=es.length/\∀n∈ns,V5 n
 | .cal _ _ s s' r=>G5 s'/\s'.left<=s.left/\∀n,r= .ok n->V5 n
 | .stm _ _ s _ v' s' r=>G5 s'/\s'.left<=s.left/\GE5 v'/\∀n,r= .ok (some n)->V5 n
 | .blk _ _ s _ v' s' r=>G5 s'/\s'.left<=s.left/\GE5 v'/\∀n,r= .ok (some n)->V5 n
 | .lp _ _ s _ v' s' r=>G5 s'/\s'.left<=s.left/\GE5 v'/\∀n,r= .ok (some n)->V5 n
theorem GE5.tail{m:Sc5}{v:List Sc5}(g:GE5 (m::v)):GE5 v:=λq hq=>g q (by simp[hq])
theorem GE5.opn{v:List Sc5}(g:GE5 v):GE5 ([]::v):=λq hq=>by
 rcases VL.1 hq with rfl|hq
 ·intro x hx;cases hx
 ·exact g q hq
theorem da{l:List Fd}{j:J5}(h:Ev l j):UN j->Sc j:=by
 induction h with
 |num _ h=>exact λp=>⟨p.1,VM _,λn e=>by cases e;exact h⟩
 |var _ h=>exact λp=>⟨p.1,VM _,λn e=>by cases e;exact uY p.2 h⟩
 |call _ _ _ _ _ i1 i2=>
   intro p
   have a:=i1 p
   have b:=i2 ⟨a.1,(a.2.2 _ rfl).2⟩
   exact⟨b.1,VR b.2.1 a.2.1,b.2.2⟩
 |callS _ _ i1=>
   intro p
   have a:=i1 p
   exact⟨a.1,a.2.1,λn e=>by cases e⟩
 |firstS _ _ _ _ i1=>
   intro p
   have a:=i1 p
   exact⟨a.1,a.2.1,λn e=>by cases e⟩
 |and0 _ _ _ i1=>
   intro p
   have a:=i1 p
   exact⟨a.1,a.2.1,λn e=>by cases e;exact⟨by omega,by omega⟩⟩
 |and1 _ _ _ _ _ i1 i2=>
   intro p
   have a:=i1 p
   have b:=i2 ⟨a.1,p.2⟩
   exact⟨b.1,VR b.2.1 a.2.1,λn e=>by cases e;exact ip _⟩
 |andS _ _ _ _ _ i1 i2=>
   intro p
   have a:=i1 p
   have b:=i2 ⟨a.1,p.2⟩
   exact⟨b.1,VR b.2.1 a.2.1,λn e=>by cases e⟩
 |not _ _ _ i1=>
   intro p
   have a:=i1 p
   exact⟨a.1,a.2.1,λn e=>by cases e;exact ip _⟩
 |at_ _ _ _ _ hm i1=>
   intro p
   have a:=i1 p
   exact⟨a.1,a.2.1,λn e=>by cases e;exact a.1.cells _ (VD hm)⟩
 |atS _ _ _ _ i1=>
   intro p
   have a:=i1 p
   exact⟨a.1,a.2.1,λn e=>by cases e⟩
 |bin _ _ _ _ _ ht i1 i2=>
   intro p
   have a:=i1 p
   have b:=i2 ⟨a.1,p.2⟩
   exact⟨b.1,VR b.2.1 a.2.1,λn e=>by cases e;exact Ch (a.2.2 _ rfl) (b.2.2 _ rfl) ht⟩
 |binS _ _ _ _ _ i1 i2=>
   intro p
   have a:=i1 p
   have b:=i2 ⟨a.1,p.2⟩
   exact⟨b.1,VR b.2.1 a.2.1,λn e=>by cases e⟩
 |binD _ _ _ _ _ _ i1 i2=>
   intro p
   have a:=i1 p
   have b:=i2 ⟨a.1,p.2⟩
   exact⟨b.1,VR b.2.1 a.2.1,λn e=>by cases e⟩
 |nil=>exact λp=>⟨p.1,VM _,λns e=>by cases e;exact⟨rfl,λn h=>by cases h⟩⟩
 |cons _ _ i1 i2=>
   intro p
   have a:=i1 p
   have b:=i2 ⟨a.1,p.2⟩
   refine⟨b.1,VR b.2.1 a.2.1,λns e=>?_⟩
   cases e
   obtain⟨k1,k2⟩:=b.2.2 _ rfl
   refine⟨by simp[k1],λn hn=>?_⟩
   rcases VL.1 hn with rfl|hn
   ·exact a.2.2 _ rfl
   ·exact k2 n hn
 |consS _ i1=>
   intro p
   have a:=i1 p
   exact⟨a.1,a.2.1,λn e=>by cases e⟩
 |consT _ _ i1 i2=>
   intro p
   have a:=i1 p
   have b:=i2 ⟨a.1,p.2⟩
   exact⟨b.1,VR b.2.1 a.2.1,λn e=>by cases e⟩
 | @cal k f us s v' s' r _ _ _ i1=>
    intro p
    have a:=i1 ⟨p.1,λm hm x hx=>by
     rw[VK.1 hm] at hx
     exact p.2 _ (List.of_mem_zip hx).2⟩
    refine⟨a.1,a.2.1,λn e=>?_⟩
    match r,e with
    | .ok (some q),e=>cases e;exact a.2.2.2 _ rfl
    | .ok none,e=>cases e;exact⟨by omega,by omega⟩
 |bnil=>exact λp=>⟨p.1,VM _,p.2,λn e=>by cases e⟩
 |bfuel _=>exact λp=>⟨p.1,VM _,p.2,λn e=>by cases e⟩
 | @bgo k v s x r F v1 s1 v2 s2 q hF _ _ i1 i2=>
    intro p
    have a:=i1 ⟨p.1.at_ F,p.2⟩
    have b:=i2 ⟨a.1,a.2.2.1⟩
    have h1:s1.left<=F:=a.2.1
    exact⟨b.1,by have:=b.2.1;omega,b.2.2⟩
 | @bend k v s x r F v1 s1 q hF _ _ i1=>
    intro p
    have a:=i1 ⟨p.1.at_ F,p.2⟩
    have h1:s1.left<=F:=a.2.1
    exact⟨a.1,by omega,a.2.2⟩
 |argS _ _ _ i1=>
   intro p
   have a:=i1 p
   exact⟨a.1,a.2.1,p.2,λn e=>by cases e⟩
 | @slet k v s x a s1 n m up _ _ _ hv _ i1=>
    intro p
    have a:=i1 p
    subst hv
    refine⟨a.1,a.2.1,λq hq=>?_,λn e=>by cases e⟩
    rcases VL.1 hq with rfl|hq
    ·intro y hy
     rcases VJ.1 hy with h|h
     ·exact p.2 m (by simp) y h
     ·rw[VK.1 h];exact a.2.2 _ rfl
    ·exact p.2 q (by simp[hq])
 |sset _ _ _ _ i1=>
   intro p
   have a:=i1 p
   exact⟨a.1,a.2.1,Cd p.2 (a.2.2 _ rfl),λn e=>by cases e⟩
 |ssay _ _ _ i1=>
   intro p
   have a:=i1 p
   exact⟨a.1.say (a.2.2 _ rfl),a.2.1,p.2,λn e=>by cases e⟩
 |sput _ _ _ _ _ i1 i2=>
   intro p
   have a:=i1 p
   have b:=i2 ⟨a.1,p.2⟩
   exact⟨b.1.put _ (b.2.2 _ rfl),VR b.2.1 a.2.1,p.2,λn e=>by cases e⟩
 |sputC _ _ _ _ _ i1 i2=>
   intro p
   have a:=i1 p
   have b:=i2 ⟨a.1,p.2⟩
   exact⟨b.1,VR b.2.1 a.2.1,p.2,λn e=>by cases e⟩
 |sputS _ _ _ _ i1 i2=>
   intro p
   have a:=i1 p
   have b:=i2 ⟨a.1,p.2⟩
   exact⟨b.1,VR b.2.1 a.2.1,p.2,λn e=>by cases e⟩
 |sif _ _ _ _ i1 i2=>
   intro p
   have a:=i1 p
   have b:=i2 ⟨a.1,p.2.opn⟩
   exact⟨b.1,VR b.2.1 a.2.1,b.2.2.1.tail,b.2.2.2⟩
 |sloop _ _ i1=>exact i1
 |sback _ _ _ i1=>
   intro p
   have a:=i1 p
   exact⟨a.1,a.2.1,p.2,λn e=>by cases e;exact a.2.2 _ rfl⟩
 |sdo _ _ _ i1=>
   intro p
   have a:=i1 p
   exact⟨a.1,a.2.1,p.2,λn e=>by cases e⟩
 |lpS _ _ i1=>
   intro p
   have a:=i1 p
   exact⟨a.1,a.2.1,p.2,λn e=>by cases e⟩
 |lp0 _ _ i1=>
   intro p
   have a:=i1 p
   exact⟨a.1,a.2.1,p.2,λn e=>by cases e⟩
 |lpEnd _ _ _ _ _ i1 i2=>
   intro p
   have a:=i1 p
   have b:=i2 ⟨a.1,p.2.opn⟩
   exact⟨b.1,VR b.2.1 a.2.1,b.2.2.1.tail,b.2.2.2⟩
 |lpFuel _ _ _ _ _ i1 i2=>
   intro p
   have a:=i1 p
   have b:=i2 ⟨a.1,p.2.opn⟩
   exact⟨b.1,VR b.2.1 a.2.1,b.2.2.1.tail,λn e=>by cases e⟩
 | @lpGo k v s x a s1 n m v' s2 F v'' s3 q _ _ _ _ hF _ i1 i2 i3=>
    intro p
    have a:=i1 p
    have b:=i2 ⟨a.1,p.2.opn⟩
    have c:=i3 ⟨b.1.at_ F,b.2.2.1.tail⟩
    have h1:s3.left<=F:=c.2.1
    have h2:s2.left<=s1.left:=b.2.1
    have h3:s1.left<=s.left:=a.2.1
    exact⟨c.1,by omega,c.2.2⟩
end
section
def er(m:Sc5):Scp:=m.map λx=>(x.1,0)
def ers(v:List Sc5):List Scp:=v.map er
theorem Dt(s:List UInt8):∀m:Sc5,dN (er m) s=(bO m s).map λ_=>0
 |[]=>rfl
 |x::r=>by
  have ih:=Dt s r
  simp only[dN,er] at ih
  by_cases h:x.1=s
  ·simp[dN,er,bO,h]
  ·simp only[dN,er,VY,List.find?_cons,h,decide_false,bO,if_neg h]
   exact ih
theorem Eo(s:List UInt8):∀v:List Sc5,fP (ers v) s=(fQ v s).map λ_=>0
 |[]=>rfl
 |m::r=>by
  have ih:=Eo s r
  simp only[ers] at ih
  rw[ers,VY,fP,fQ,Dt]
  cases bO m s with
  |some n=>rfl
  |none=>exact ih
theorem QQ{m:Sc5}{s:List UInt8}{n:Int}(h:bO m s=none):er (m++[(s,n)])=gx (er m) s 0:=by
 induction m with
 |nil=>rfl
 |cons x r ih=>
  rw[bO] at h
  by_cases e:x.1=s
  ·rw[if_pos e] at h;cases h
  ·rw[if_neg e] at h
   have ih:=ih h
   simp only[er] at ih
   simp only[er,Wn,VY,gx,if_neg e]
   rw[ih]
theorem Kq{s:List UInt8}{n:Int}:∀m:Sc5,er (sset m s n)=er m
 |[]=>rfl
 |x::r=>by
  have ih:=Kq (s:=s) (n:=n) r
  simp only[er] at ih
  rw[sset]
  split
  ·rename_i e;simp[er,←e]
  ·simp[er,ih]
theorem CA{s:List UInt8}{n:Int}:∀v:List Sc5,ers (gq v s n)=ers v
 |[]=>rfl
 |m::r=>by
  have ih:=CA (s:=s) (n:=n) r
  rw[gq]
  split
  ·simp only[ers,VY,Kq]
  ·simp only[ers,VY] at ih⊢
   rw[ih]
theorem AM{v:List Sc5}{m:Sc5}{up:List Sc5}(h:ers v=ers (m::up)):∃m' up',v=m'::up'/\er m'=er m/\ers up'=ers up:=by
 cases v with
 |nil=>simp[ers] at h
 |cons m' up'=>
  simp only[ers,VY,List.cons.injEq] at h
  exact⟨m',up',rfl,h.1,h.2⟩
def Kn(vs:List LV)(v:List Sc5):Prop:=∀t,(lkV vs t).isSome=(fQ v t).isSome
theorem Lf{b:Nat}{vs:List LV}{v:List Sc5}(h:SR g0 b vs (ers v)):Kn vs v:=λt=>by
 rw[h.is t,Eo,Option.isSome_map]
def Od(l:List Fd)(F:Nat):Prop:=∀(k:Nat) (vs:List LV) (d:Nat) (e:Ex) (v:List Sc5) (s:S5),jy l k vs e 0=0->bU d e=true->Kn vs v->G5 s->GE5 v->s.left<=F->∃s' r,Ev l (.ex k v s e s' r)
def QS(l:List Fd)(F:Nat):Prop:=∀(j:Nat) (f:Fd) (us:List Int) (s:S5),l[j]?=some f->f.params.length=us.length->G5 s->(∀n∈us,V5 n)->s.left<=F->∃s' r,Ev l (.cal j us s s' r)
def Jb(l:List Fd)(F:Nat):Prop:=∀(k:Nat) (xs:List Sm) (b:Nat) (w:WS) (m:Sc5) (up:List Sc5) (s:S5),(∀x∈xs,∃d,az d x=true)->(bv l k b xs w).code=0->SR g0 b w.vs (ers (m::up))->G5 s->GE5 (m::up)->s.left<=F->
 ∃m' up' s' r,Ev l (.blk k (m::up) s xs (m'::up') s' r)/\ers up'=ers up
def QI(l:List Fd)(F:Nat):Prop:=∀(k:Nat) (x:Sm) (b:Nat) (w:WS) (m:Sc5) (up:List Sc5) (s:S5),(∃d,az d x=true)->(stW l k b x w).code=0->SR g0 b w.vs (ers (m::up))->G5 s->GE5 (m::up)->s.left<=F->
 ∃m' up' s' r,Ev l (.stm k (m::up) s x (m'::up') s' r)/\ers up'=ers up/\(r= .ok none->SR g0 b (stW l k b x w).vs (ers (m'::up')))
def Nn(l:List Fd)(F:Nat):Prop:=∀(k:Nat) (x:Sm) (b:Nat) (w:WS) (v:List Sc5) (s:S5),(∃d,az d x=true)->x.op=6->(stW l k b x w).code=0->SR g0 b w.vs (ers v)->G5 s->GE5 v->s.left<=F->
 ∃v' s' r,Ev l (.lp k v s x v' s' r)/\ers v'=ers v
section
variable {l:List Fd}
theorem UP{F:Nat}(hS:∀F',F'<F->QI l F')(hB:∀F',F'<F->Jb l F'):Jb l F:=by
 intro k xs b w m up s hf hz hR hg hv hl
 cases xs with
 |nil=>exact⟨m,up,s,_,.bnil,rfl⟩
 |cons x r=>
  rw[bv] at hz
  have hz1:=bE hz
  rcases Nat.eq_zero_or_pos s.left with h0|h0
  ·exact⟨m,up,s,_,.bfuel h0,rfl⟩
  obtain⟨F',hF⟩:∃F',s.left=F'+1:=⟨s.left-1,by omega⟩
  obtain⟨m1,up1,s1,r1,e1,u1,R1⟩:=hS F' (by omega) k x b w m up (s.at_ F') (hf x (by simp)) hz1 hR (hg.at_ F') hv (VM _)
  have p1:=da e1 ⟨hg.at_ F',hv⟩
  have q1:s1.left<=F':=p1.2.1
  by_cases hq:r1= .ok none
  ·subst hq
   obtain⟨m2,up2,s2,r2,e2,u2⟩:=hB F' (by omega) k r b (stW l k b x w) m1 up1 s1 (λy hy=>hf y (by simp[hy])) hz (R1 rfl) p1.1 p1.2.2.1 q1
   exact⟨m2,up2,s2,r2,.bgo hF e1 e2,u2.trans u1⟩
  ·exact⟨m1,up1,s1,r1,.bend hF e1 hq,u1⟩
theorem Lq:∀(ps:List (List UInt8)) (us:List Int),ps.length=us.length->er (ps.zip us)=ps.map λs=>(s,0)
 |[],[],_=>rfl
 |p::r,u::t,h=>by
  have:=Lq r t (by simpa using h)
  simp only[er] at this
  simp[er,this]
 |[],_::_,h=>by simp at h
 |_::_,[],h=>by simp at h
theorem Fl:∀(ps:List (List UInt8)) (m:Scp) (c:Int),(jr ps m c).2=0->(jr ps m c).1=m++ps.map λs=>(s,0)
 |[],m,c,_=>by simp[jr]
 |s::r,m,c,h=>by
  have hh:(jr r (gx m s 0) (if(dN m s).isSome then fl c 2 else c)).2=0:=h
  have ih:=Fl r _ _ hh
  have hc:(if(dN m s).isSome then fl c 2 else c)=0:=by
   apply Classical.byContradiction
   intro hne
   have:=vq hne r (gx m s 0)
   rw[this] at hh
   exact hne hh
  have hn:dN m s=none:=by
   cases e:dN m s with
   |none=>rfl
   |some n=>
    rw[e] at hc
    simp only[Option.isSome_some,if_true,fl] at hc
    split at hc<;>omega
  have hset:∀m:Scp,dN m s=none->gx m s 0=m++[(s,0)]:=by
   intro m
   induction m with
   |nil=>intro _;rfl
   |cons x t iht=>
    intro hm
    by_cases hx:x.1=s
    ·simp[dN,hx] at hm
    ·rw[gx,if_neg hx,iht (by simpa[dN,hx] using hm)];rfl
  show(jr r (gx m s 0) (if(dN m s).isSome then fl c 2 else c)).1=_
  rw[ih,hset m hn]
  simp
theorem Ve{F:Nat}(hc:aI l=0)(hB:Jb l F):QS l F:=by
 intro j f us s hj hlen hg hu hl
 obtain⟨hp,hall⟩:=(pK l).1 hc
 have hz:=hall j f hj
 rw[fnW] at hz
 have hpz:=bE hz
 obtain⟨p1,p2⟩:=Dx f.params ⟨[],0,if be l f.name=some j then 0 else 2⟩ [] SR.base
 rw[hpz] at p2
 have hm:=Fl f.params [] _ p2.symm
 rw[hm,List.nil_append,←Lq f.params us hlen] at p1
 have hfo:=((iY l).1 hp).2.1 f (VD hj)
 have hbody:∀x∈f.body,∃d,az d x=true:=λx hx=>by
  simp only[iL,VS,VH] at hfo
  exact⟨4,hfo.2 x hx⟩
 obtain⟨m',up',s',r,e,hu2⟩:=hB j f.body 0 _ (f.params.zip us) [] s hbody hz p1 hg (λm hm x hx=>by
  rw[VK.1 hm] at hx
  exact hu _ (List.of_mem_zip hx).2) hl
 exact⟨s',_,.cal hj hlen e⟩
end
end
section
theorem inR5{n lo hi:Int}:inR n lo hi=true↔lo<=n/\n<=hi:=by simp[inR]
theorem FC{α:Type}{l:List α}(h:l.length=1):∃a,l=[a]:=by
 match l,h with
 |[a],_=>exact⟨a,rfl⟩
theorem KL{α:Type}{l:List α}(h:l.length=2):∃a b,l=[a,b]:=by
 match l,h with
 |[a,b],_=>exact⟨a,b,rfl⟩
section
variable {l:List Fd}
theorem nK{k:Nat}{vs:List LV}:∀(es:List Ex),bc l k vs es 0=0->∀e∈es,jy l k vs e 0=0
 |[],_,e,he=>by cases he
 |x::r,h,e,he=>by
  rw[bc] at h
  have h0:=ck h
  rw[h0] at h
  rcases VL.1 he with rfl|he
  ·exact h0
  ·exact nK r h e he
theorem UA{F:Nat}(hc:aI l=0)(hC:QS l F):Od l F:=by
 intro k vs d
 induction d with
 |zero=>intro e v s _ h;cases h
 |succ d ih=>
  intro e v s hz hf hk hg hv hl
  obtain⟨o,n,nm,ks⟩:=e
  rw[bU,VS,VH] at hf
  obtain⟨hh,hks⟩:=hf
  simp only[lA,VS] at hh
  obtain⟨⟨⟨⟨⟨ho,hkl⟩,_⟩,_⟩,hn⟩,_⟩:=hh
  have ho:1<=o/\o<=13:=inR5.1 ho
  have hkl:(loK o:Int)<=(ks.length:Int)/\(ks.length:Int)<=(hiK o:Int):=inR5.1 hkl
  have hn:V5 n:=inR5.1 hn
  have hks:∀x∈ks,bU d x=true:=hks
  rw[jy] at hz
  have h0:=ck hz
  rw[h0] at hz
  have hkz:=nK ks hz
  rcases Int.lt_or_le 13 o with h13|h13
  ·omega
  by_cases h1:o=1
  ·exact⟨s,_,.num h1 hn⟩
  by_cases h2:o=2
  ·rw[fg,if_pos h2] at h0
   obtain⟨_,x,hx⟩:=BS h0
   have hs:=hk nm
   rw[hx] at hs
   obtain⟨q,hq⟩:=Option.isSome_iff_exists.1 hs.symm
   exact⟨s,_,.var h2 hq⟩
  by_cases h13':o=13
  ·subst h13'
   rw[fg,if_neg (by omega),if_pos rfl,ki] at h0
   have hfa:∃j f,be l nm=some j/\l[j]?=some f/\f.params.length=ks.length/\j<k:=by
    cases hj:be l nm with
    |none=>rw[hj] at h0;simp only[fl] at h0;simp at h0
    |some j=>
     rw[hj] at h0
     simp only[fl] at h0
     by_cases hkj:k<=j
     ·rw[if_pos hkj] at h0;simp at h0
     ·rw[if_neg hkj] at h0
      obtain⟨hjl,_,_⟩:=VU.1 hj
      have hg:=VA hjl
      refine⟨j,l[j],rfl,hg,?_,by omega⟩
      rw[rt,hg] at h0
      simp only at h0
      by_cases hp:l[j].params.length=ks.length
      ·exact hp
      ·rw[if_neg hp] at h0;simp at h0
   obtain⟨j,f,hj,hjf,hpl,hjk⟩:=hfa
   have hargs:∀(es:List Ex) (s:S5),(∀e∈es,e∈ks)->G5 s->s.left<=F->∃s' r,Ev l (.exs k v s es s' r):=by
    intro es
    induction es with
    |nil=>intro s _ _ _;exact⟨s,_,.nil⟩
    |cons a r ihr=>
     intro s hm g hs
     obtain⟨s1,r1,e1⟩:=ih a v s (hkz a (hm a (by simp))) (hks a (hm a (by simp))) hk g hv hs
     have p1:=da e1 ⟨g,hv⟩
     cases r1 with
     |st c=>exact⟨s1,_,.consS e1⟩
     |ok q=>
      obtain⟨s2,r2,e2⟩:=ihr s1 (λx hx=>hm x (by simp[hx])) p1.1 (VR p1.2.1 hs)
      cases r2 with
      |st c=>exact⟨s2,_,.consT e1 e2⟩
      |ok ns=>exact⟨s2,_,.cons e1 e2⟩
   obtain⟨s1,r1,e1⟩:=hargs ks s (λ_ h=>h) hg hl
   have p1:=da e1 ⟨hg,hv⟩
   cases r1 with
   |st c=>exact⟨s1,_,.callS rfl e1⟩
   |ok us=>
    obtain⟨q1,q2⟩:=p1.2.2 _ rfl
    obtain⟨s2,r2,e2⟩:=hC j f us s1 hjf (by rw[hpl,q1]) p1.1 q2 (VR p1.2.1 hl)
    exact⟨s2,_,.call rfl e1 hj hjk e2⟩
  have hlo:3<=o:=by omega
  have hhi:o<=12:=by omega
  by_cases h11:o=11\/o=12
  ·have hl1:ks.length=1:=by
    have e1:loK o=1:=by unfold loK;rw[if_neg (by omega),if_pos h11]
    have e2:hiK o=1:=by unfold hiK;rw[if_neg (by omega),if_pos h11]
    rw[e1,e2] at hkl;omega
   obtain⟨a,rfl⟩:=FC hl1
   obtain⟨s1,r1,e1⟩:=ih a v s (hkz a (by simp)) (hks a (by simp)) hk hg hv hl
   have p1:=da e1 ⟨hg,hv⟩
   cases r1 with
   |st c=>exact⟨s1,_,.firstS hlo hhi rfl e1⟩
   |ok q=>
    obtain⟨q0,q1⟩:=p1.2.2 _ rfl
    rcases h11 with h11|h12
    ·exact⟨s1,_,.not h11 rfl e1⟩
    ·obtain⟨i,rfl⟩:∃i:Nat,q=i:=⟨q.toNat,by omega⟩
     by_cases hi:i<16
     ·have hg2:s1.cells[i]?=some (s1.cells[i]'(by rw[p1.1.len];exact hi)):=VA _
      exact⟨s1,_,.at_ h12 rfl e1 hi hg2⟩
     ·exact⟨s1,_,.atS h12 rfl e1 (by omega)⟩
  ·have hl2:ks.length=2:=by
    have e1:loK o=2:=by unfold loK;rw[if_neg (by omega),if_neg h11,if_neg h13']
    have e2:hiK o=2:=by unfold hiK;rw[if_neg (by omega),if_neg h11,if_neg h13']
    rw[e1,e2] at hkl;omega
   obtain⟨a,b,rfl⟩:=KL hl2
   obtain⟨s1,r1,e1⟩:=ih a v s (hkz a (by simp)) (hks a (by simp)) hk hg hv hl
   have p1:=da e1 ⟨hg,hv⟩
   cases r1 with
   |st c=>exact⟨s1,_,.firstS hlo hhi rfl e1⟩
   |ok q=>
    by_cases h10:o=10/\q=0
    ·obtain⟨h10,rfl⟩:=h10
     exact⟨s1,_,.and0 h10 rfl e1⟩
    obtain⟨s2,r2,e2⟩:=ih b v s1 (hkz b (by simp)) (hks b (by simp)) hk p1.1 hv (VR p1.2.1 hl)
    by_cases ho10:o=10
    ·have hq:q≠0:=λe=>h10 ⟨ho10,e⟩
     cases r2 with
     |st c=>exact⟨s2,_,.andS ho10 rfl e1 hq e2⟩
     |ok m=>exact⟨s2,_,.and1 ho10 rfl e1 hq e2⟩
    ·have hle9:o<=9:=by omega
     cases r2 with
     |st c=>exact⟨s2,_,.binS hlo hle9 rfl e1 e2⟩
     |ok m=>
      cases ht:Dr o q m with
      |none=>exact⟨s2,_,.binD hlo hle9 rfl e1 e2 ht⟩
      |some t=>exact⟨s2,_,.bin hlo hle9 rfl e1 e2 ht⟩
end
end
section
structure Fine5 (l:List Fd) (k b:Nat) (x:Sm) (w:WS):Prop where
 code:w.code=0
 args:bc l k w.vs x.args 0=0
 op:(opW x.op x.name b ⟨w.vs,w.count,0⟩).code=0
 body:(bv l k (b+1) x.body (opW x.op x.name b ⟨w.vs,w.count,0⟩)).code=0
 els:∃w3:WS,w3.vs=(opW x.op x.name b ⟨w.vs,w.count,0⟩).vs/\(bv l k (b+1) x.els w3).code=0
 vs:(stW l k b x w).vs=(opW x.op x.name b ⟨w.vs,w.count,0⟩).vs
theorem Pz{l:List Fd}{k b:Nat}{x:Sm}{w:WS}(hz:(stW l k b x w).code=0):Fine5 l k b x w:=by
 obtain⟨o,nm,a,bd,el⟩:=x
 have hz0:=hz
 rw[stW,cH] at hz
 have z1:=bE hz
 rw[cH] at z1
 have z2:=bE z1
 have z3:bc l k w.vs a w.code=0:=tq z2
 have hc:=ck z3
 rw[z3] at z2 z1 hz
 have z3':=z3
 rw[hc] at z3'
 refine⟨hc,z3',z2,z1,⟨(bv l k (b+1) bd (opW o nm b ⟨w.vs,w.count,0⟩)).back (opW o nm b ⟨w.vs,w.count,0⟩).vs,rfl,hz⟩,?_⟩
 rw[Gc,z3];rfl
theorem oZ{o:Int}{nm:List UInt8}{b:Nat}{w:WS}(h:o≠1):(opW o nm b w).vs=w.vs:=by
 unfold opW
 rw[if_neg h]
 split<;>rfl
theorem Ng{d:Nat}{x:Sm}(h:az d x=true):(1<=x.op/\x.op<=8)/\x.args.length=gz x.op/\(∀a∈x.args,kw a=true)/\(∀y∈x.body,∃d,az d y=true)/\(∀y∈x.els,∃d,az d y=true):=by
 cases d with
 |zero=>cases h
 |succ d=>
  rw[az,VS,VS,VH,VH] at h
  obtain⟨⟨h1,h2⟩,h3⟩:=h
  simp only[gP,VS,VH] at h1
  obtain⟨⟨⟨⟨⟨⟨⟨p1,p2⟩,_⟩,_⟩,p5⟩,_⟩,_⟩,_⟩:=h1
  exact⟨inR5.1 p1,of_decide_eq_true p2,p5,λy hy=>⟨d,h2 y hy⟩,λy hy=>⟨d,h3 y hy⟩⟩
theorem vD{a:Ex}(h:kw a=true):bU 6 a=true:=by rw[kw,VS] at h;exact h.1
section
variable {l:List Fd}
theorem Va{F:Nat}(hE:Od l F)(hB:Jb l F)(hL:∀F',F'<F->Nn l F'):Nn l F:=by
 intro k x b w v s hf ho hz hR hg hv hl
 obtain⟨d,hd⟩:=hf
 obtain⟨_,hal,hae,hbo,_⟩:=Ng hd
 have Fn:=Pz hz
 have hal1:x.args.length=1:=by rw[hal,gz,if_neg (by omega)]
 obtain⟨a,ha⟩:=FC hal1
 have haz:=nK x.args Fn.args a (by rw[ha];simp)
 obtain⟨s1,r1,e1⟩:=hE k w.vs 6 a v s haz (vD (hae a (by rw[ha];simp))) (Lf hR) hg hv hl
 have p1:=da e1 ⟨hg,hv⟩
 cases r1 with
 |st c=>exact⟨v,s1,_,.lpS ha e1,rfl⟩
 |ok n=>
  by_cases hn:n=0
  ·subst hn;exact⟨v,s1,_,.lp0 ha e1,rfl⟩
  have hsame:(opW x.op x.name b ⟨w.vs,w.count,0⟩).vs=w.vs:=oZ (by omega)
  have hR2:SR g0 (b+1) (opW x.op x.name b ⟨w.vs,w.count,0⟩).vs (ers ([]::v)):=by
   rw[hsame];exact hR.open
  obtain⟨m2,v2,s2,r2,e2,u2⟩:=hB k x.body (b+1) _ [] v s1 hbo Fn.body hR2 p1.1 hv.opn (VR p1.2.1 hl)
  have p2:=da e2 ⟨p1.1,hv.opn⟩
  by_cases hq:r2= .ok none
  ·subst hq
   rcases Nat.eq_zero_or_pos s2.left with h0|h0
   ·exact⟨v2,s2,_,.lpFuel ha e1 hn e2 h0,u2⟩
   obtain⟨F',hF⟩:∃F',s2.left=F'+1:=⟨s2.left-1,by omega⟩
   have hlt:F'<F:=by have:=p2.2.1;have:=p1.2.1;omega
   obtain⟨v3,s3,r3,e3,u3⟩:=hL F' hlt k x b w v2 (s2.at_ F') ⟨d,hd⟩ ho hz (by rw[u2];exact hR) (p2.1.at_ F') p2.2.2.1.tail (VM _)
   exact⟨v3,s3,_,.lpGo ha e1 hn e2 hF e3,u3.trans u2⟩
  ·exact⟨v2,s2,_,.lpEnd ha e1 hn e2 hq,u2⟩
theorem Ur{F:Nat}(hE:Od l F)(hB:Jb l F)(hL:Nn l F):QI l F:=by
 intro k x b w m up s hf hz hR hg hv hl
 obtain⟨d,hd⟩:=hf
 obtain⟨⟨ho1,ho8⟩,hal,hae,hbo,heo⟩:=Ng hd
 have Fn:=Pz hz
 by_cases h6:x.op=6
 ·obtain⟨v',s',r,e,u⟩:=hL k x b w (m::up) s ⟨d,hd⟩ h6 hz hR hg hv hl
  obtain⟨m',up',rfl,u1,u2⟩:=AM u
  refine⟨m',up',s',r,.sloop h6 e,u2,λ_=>?_⟩
  rw[Fn.vs,oZ (by omega),u]
  exact hR
 have hex:∀a∈x.args,∀s:S5,G5 s->s.left<=F->∃s' r,Ev l (.ex k (m::up) s a s' r):=λa ha s g hs=>
  hE k w.vs 6 a (m::up) s (nK x.args Fn.args a ha) (vD (hae a ha)) (Lf hR) g hv hs
 by_cases h4:x.op=4
 ·have hal2:x.args.length=2:=by rw[hal,gz,if_pos h4]
  obtain⟨a,c,ha⟩:=KL hal2
  have hR':SR g0 b (stW l k b x w).vs (ers (m::up)):=by rw[Fn.vs,oZ (by omega)];exact hR
  obtain⟨s1,r1,e1⟩:=hex a (by rw[ha];simp) s hg hl
  have p1:=da e1 ⟨hg,hv⟩
  cases r1 with
  |st q=>exact⟨m,up,s1,_,.argS h6 ha e1,rfl,λ_=>hR'⟩
  |ok n=>
   obtain⟨n0,n1⟩:=p1.2.2 _ rfl
   obtain⟨s2,r2,e2⟩:=hex c (by rw[ha];simp) s1 p1.1 (VR p1.2.1 hl)
   cases r2 with
   |st q=>exact⟨m,up,s2,_,.sputS h4 ha e1 e2,rfl,λ_=>hR'⟩
   |ok q=>
    obtain⟨i,rfl⟩:∃i:Nat,n=i:=⟨n.toNat,by omega⟩
    by_cases hi:i<16
    ·exact⟨m,up,_,_,.sput h4 ha e1 e2 hi,rfl,λ_=>hR'⟩
    ·exact⟨m,up,s2,_,.sputC h4 ha e1 e2 (by omega),rfl,λ_=>hR'⟩
 have hal1:x.args.length=1:=by rw[hal,gz,if_neg h4]
 obtain⟨a,ha⟩:=FC hal1
 obtain⟨s1,r1,e1⟩:=hex a (by rw[ha];simp) s hg hl
 have p1:=da e1 ⟨hg,hv⟩
 have hsame:x.op≠1->SR g0 b (stW l k b x w).vs (ers (m::up)):=λh=>by rw[Fn.vs,oZ h];exact hR
 cases r1 with
 |st q=>exact⟨m,up,s1,_,.argS h6 ha e1,rfl,λh=>by cases h⟩
 |ok n=>
  by_cases h1:x.op=1
  ·have hput:(gt ⟨w.vs,w.count,0⟩ x.name b).code=0:=by
    have:=Fn.op
    rw[opW,if_pos h1] at this
    exact this
   have hput2:nY w.vs x.name b 0=0:=hput
   have hR1:SR g0 b w.vs (er m::ers up):=hR
   rw[hR1.put] at hput2
   have hno:bO m x.name=none:=by
    cases e:bO m x.name with
    |none=>rfl
    |some q=>
     rw[Dt,e] at hput2
     simp[fl] at hput2
   refine⟨_,up,s1,_,.slet h1 ha e1 rfl hno,rfl,λ_=>?_⟩
   rw[Fn.vs,opW,if_pos h1]
   have:=hR1.add x.name w.count 0 rfl
   rw[←QQ (n:=n) hno] at this
   exact this
  by_cases h2:x.op=2
  ·have huse:nX w.vs x.name 0=0:=by
    have:=Fn.op
    rw[opW,if_neg h1,if_pos h2] at this
    exact this
   obtain⟨_,q,hq⟩:=BS huse
   have hs:(fQ (m::up) x.name).isSome=true:=by rw[←Lf hR x.name,hq];rfl
   have hev:=Ev.sset (l:=l) h2 ha e1 hs
   obtain⟨m',up',e,_,u2⟩:=AM (CA (s:=x.name) (n:=n) (m::up))
   have hu:ers (m'::up')=ers (m::up):=by rw[←e];exact CA _
   rw[e] at hev
   exact⟨m',up',s1,_,hev,u2,λ_=>by rw[hu];exact hsame h1⟩
  by_cases h3:x.op=3
  ·exact⟨m,up,_,_,.ssay h3 ha e1,rfl,λ_=>hsame h1⟩
  by_cases h5:x.op=5
  ·have hsv:(opW x.op x.name b ⟨w.vs,w.count,0⟩).vs=w.vs:=oZ h1
   obtain⟨w3,hw3,hez⟩:=Fn.els
   have hB':∃m2 v2 s2 r2,Ev l (.blk k ([]::m::up) s1 (if n≠0 then x.body else x.els) (m2::v2) s2 r2)/\ers v2=ers (m::up):=by
    by_cases hn:n≠0
    ·rw[if_pos hn]
     exact hB k x.body (b+1) _ [] (m::up) s1 hbo Fn.body (by rw[hsv];exact hR.open) p1.1 hv.opn (VR p1.2.1 hl)
    ·rw[if_neg hn]
     exact hB k x.els (b+1) w3 [] (m::up) s1 heo hez (by rw[hw3,hsv];exact hR.open) p1.1 hv.opn (VR p1.2.1 hl)
   obtain⟨m2,v2,s2,r2,e2,u2⟩:=hB'
   obtain⟨m',up',rfl,u3,u4⟩:=AM u2
   exact⟨m',up',s2,r2,.sif h5 ha e1 e2,u4,λ_=>by rw[u2];exact hsame h1⟩
  by_cases h7:x.op=7
  ·exact⟨m,up,s1,_,.sback h7 ha e1,rfl,λh=>by cases h⟩
  ·exact⟨m,up,s1,_,.sdo (by omega) ha e1,rfl,λ_=>hsame h1⟩
theorem OB(hc:aI l=0):∀F,QS l F/\Od l F/\Jb l F/\QI l F/\Nn l F:=by
 intro F
 induction F using Nat.strongRecOn with
 |_ F ih=>
  have hB:=UP (l:=l) (F:=F) (λF' h=>(ih F' h).2.2.2.1) (λF' h=>(ih F' h).2.2.1)
  have hC:=Ve hc hB
  have hE:=UA hc hC
  have hL:=Va hE hB (λF' h=>(ih F' h).2.2.2.2)
  exact⟨hC,hE,hB,Ur hE hB hL,hL⟩
end
def s0(fuel:Nat):S5:=⟨fuel,[],List.replicate 16 0⟩
theorem nD(fuel:Nat):G5 (s0 fuel):=⟨by simp[s0],λc hc=>by rw[(List.mem_replicate.1 hc).2];exact⟨by omega,by omega⟩,λc hc=>by cases hc⟩
theorem UH{l:List Fd}(hc:aI l=0){f:Fd}(hf:l[l.length-1]?=some f){us:List Int}(hl:us.length=f.params.length)(hu:∀n∈us,V5 n)(fuel:Nat):
 ∃s' r,Ev l (.cal (l.length-1) us (s0 fuel) s' r)/\G5 s'/\s'.left<=fuel/\∀n,r= .ok n->V5 n:=by
 obtain⟨s',r,e⟩:=(OB hc fuel).1 (l.length-1) f us (s0 fuel) hf hl.symm (nD fuel) hu (VM _)
 have p:=da e ⟨nD fuel,hu⟩
 exact⟨s',r,e,p.1,p.2.1,p.2.2⟩
end
section
def S5.dn(s:S5)(c:Nat):S5:=⟨s.left-c,s.said,s.cells⟩
def EJ:J5->Prop
 | .stm _ v _ _ v' _ _=>v'.length=v.length
 | .blk _ v _ _ v' _ _=>v'.length=v.length
 | .lp _ v _ _ v' _ _=>v'.length=v.length
 |_=>True
theorem EU(s:List UInt8)(n:Int):∀v:List Sc5,(gq v s n).length=v.length
 |[]=>rfl
 |m::r=>by
  rw[gq]
  split
  ·rfl
  ·simp[EU s n r]
theorem SX{l:List Fd}{j:J5}(h:Ev l j):EJ j:=by
 induction h with
 |bgo _ _ _ i1 i2=>exact i2.trans i1
 |bend _ _ _ i1=>exact i1
 |slet _ _ _ hv _ _=>subst hv;rfl
 |sset _ _ _ _ _=>exact EU _ _ _
 |sif _ _ _ _ _ i2=>simpa[EJ] using i2
 |sloop _ _ i1=>exact i1
 |lpEnd _ _ _ _ _ _ i2=>simpa[EJ] using i2
 |lpFuel _ _ _ _ _ _ i2=>simpa[EJ] using i2
 |lpGo _ _ _ _ _ _ _ i2 i3=>exact i3.trans (by simpa[EJ] using i2)
 |_=>first|trivial|rfl
theorem ux{l:List Fd}{k:Nat}{v:List Sc5}{s:S5}{xs:List Sm}{w:List Sc5}{s':S5}{r:O5 (Option Int)}(h:Ev l (.blk k ([]::v) s xs w s' r)):∃m up,w=m::up:=by
 have e:w.length=([]::v:List Sc5).length:=SX h
 match w,e with
 |m::up,_=>exact⟨m,up,rfl⟩
def Cut(l:List Fd):J5->Prop
 | .ex k v s e s' r=>s.said<+:s'.said/\s'.left<=s.left/\∀c,c<=s.left->(r≠ .st 3->c<=s'.left->Ev l (.ex k v (s.dn c) e (s'.dn c) r))/\((r= .st 3\/s'.left<c)->∃s1,Ev l (.ex k v (s.dn c) e s1 (.st 3))/\s1.said<+:s'.said)
 | .exs k v s e s' r=>s.said<+:s'.said/\s'.left<=s.left/\∀c,c<=s.left->(r≠ .st 3->c<=s'.left->Ev l (.exs k v (s.dn c) e (s'.dn c) r))/\((r= .st 3\/s'.left<c)->∃s1,Ev l (.exs k v (s.dn c) e s1 (.st 3))/\s1.said<+:s'.said)
 | .cal k us s s' r=>s.said<+:s'.said/\s'.left<=s.left/\∀c,c<=s.left->(r≠ .st 3->c<=s'.left->Ev l (.cal k us (s.dn c) (s'.dn c) r))/\((r= .st 3\/s'.left<c)->∃s1,Ev l (.cal k us (s.dn c) s1 (.st 3))/\s1.said<+:s'.said)
 | .stm k v s x v' s' r=>s.said<+:s'.said/\s'.left<=s.left/\∀c,c<=s.left->(r≠ .st 3->c<=s'.left->Ev l (.stm k v (s.dn c) x v' (s'.dn c) r))/\((r= .st 3\/s'.left<c)->∃v1 s1,Ev l (.stm k v (s.dn c) x v1 s1 (.st 3))/\s1.said<+:s'.said)
 | .blk k v s x v' s' r=>s.said<+:s'.said/\s'.left<=s.left/\∀c,c<=s.left->(r≠ .st 3->c<=s'.left->Ev l (.blk k v (s.dn c) x v' (s'.dn c) r))/\((r= .st 3\/s'.left<c)->∃v1 s1,Ev l (.blk k v (s.dn c) x v1 s1 (.st 3))/\s1.said<+:s'.said)
 | .lp k v s x v' s' r=>s.said<+:s'.said/\s'.left<=s.left/\∀c,c<=s.left->(r≠ .st 3->c<=s'.left->Ev l (.lp k v (s.dn c) x v' (s'.dn c) r))/\((r= .st 3\/s'.left<c)->∃v1 s1,Ev l (.lp k v (s.dn c) x v1 s1 (.st 3))/\s1.said<+:s'.said)
theorem QG{l:List Fd}{j:J5}(h:Ev l j):Cut l j:=by
 induction h with
 |num h1 h2=>
  refine⟨List.prefix_refl _,VM _,λc hc=>⟨λ_ _=> .num h1 h2,λh=>?_⟩⟩
  rcases h with h|h
  ·cases h
  ·omega
 |var h1 h2=>
  refine⟨List.prefix_refl _,VM _,λc hc=>⟨λ_ _=> .var h1 h2,λh=>?_⟩⟩
  rcases h with h|h
  ·cases h
  ·omega
 | @call k v s e s1 us j s2 r h1 _ h3 h4 _ i1 i2=>
   refine⟨i1.1.trans i2.1,VR i2.2.1 i1.2.1,λc hc=>⟨λhr hl=>?_,λh=>?_⟩⟩
   ·have hl1:=VR hl i2.2.1
    have d1:=(i1.2.2 c hc).1 (λh=>by cases h) hl1
    have d2:=(i2.2.2 c hl1).1 hr hl
    exact .call h1 d1 h3 h4 d2
   ·by_cases hl1:c<=s1.left
    ·have d1:=(i1.2.2 c hc).1 (λh=>by cases h) hl1
     obtain⟨t2,d2,q2⟩:=(i2.2.2 c hl1).2 h
     exact⟨_,.call h1 d1 h3 h4 d2,q2⟩
    ·obtain⟨t1,d1,q1⟩:=(i1.2.2 c hc).2 (.inr (by omega))
     exact⟨_,.callS h1 d1,(q1.trans i2.1)⟩
 |callS h1 _ i1=>
  refine⟨i1.1,i1.2.1,λc hc=>⟨λhr hl=>?_,λh=>?_⟩⟩
  ·have d1:=(i1.2.2 c hc).1 (λh=>hr (by cases h;rfl)) hl
   exact .callS h1 d1
  ·obtain⟨t1,d1,q1⟩:=(i1.2.2 c hc).2 (h.imp (λe=>by cases e;rfl) id)
   exact⟨_,.callS h1 d1,q1⟩
 |firstS h1 h2 h3 _ i1=>
  refine⟨i1.1,i1.2.1,λc hc=>⟨λhr hl=>?_,λh=>?_⟩⟩
  ·have d1:=(i1.2.2 c hc).1 (λh=>hr (by cases h;rfl)) hl
   exact .firstS h1 h2 h3 d1
  ·obtain⟨t1,d1,q1⟩:=(i1.2.2 c hc).2 (h.imp (λe=>by cases e;rfl) id)
   exact⟨_,.firstS h1 h2 h3 d1,q1⟩
 |and0 h1 h2 _ i1=>
  refine⟨i1.1,i1.2.1,λc hc=>⟨λhr hl=>?_,λh=>?_⟩⟩
  ·have d1:=(i1.2.2 c hc).1 (λh=>by cases h) hl
   exact .and0 h1 h2 d1
  ·obtain⟨t1,d1,q1⟩:=(i1.2.2 c hc).2 (.inr (h.resolve_left (λh=>by cases h)))
   exact⟨_,.firstS (by omega) (by omega) h2 d1,q1⟩
 | @and1 k v s e a b s1 n s2 m h1 h2 _ h4 _ i1 i2=>
   refine⟨i1.1.trans i2.1,VR i2.2.1 i1.2.1,λc hc=>⟨λhr hl=>?_,λh=>?_⟩⟩
   ·have hl1:=VR hl i2.2.1
    have d1:=(i1.2.2 c hc).1 (λh=>by cases h) hl1
    have d2:=(i2.2.2 c hl1).1 (λh=>by cases h) hl
    exact .and1 h1 h2 d1 h4 d2
   ·by_cases hl1:c<=s1.left
    ·have d1:=(i1.2.2 c hc).1 (λh=>by cases h) hl1
     obtain⟨t2,d2,q2⟩:=(i2.2.2 c hl1).2 (.inr (h.resolve_left (λh=>by cases h)))
     exact⟨_,.andS h1 h2 d1 h4 d2,q2⟩
    ·obtain⟨t1,d1,q1⟩:=(i1.2.2 c hc).2 (.inr (by omega))
     exact⟨_,.firstS (by omega) (by omega) h2 d1,(q1.trans i2.1)⟩
 | @andS k v s e a b s1 n s2 c0 h1 h2 _ h4 _ i1 i2=>
   refine⟨i1.1.trans i2.1,VR i2.2.1 i1.2.1,λc hc=>⟨λhr hl=>?_,λh=>?_⟩⟩
   ·have hl1:=VR hl i2.2.1
    have d1:=(i1.2.2 c hc).1 (λh=>by cases h) hl1
    have d2:=(i2.2.2 c hl1).1 (λh=>hr (by cases h;rfl)) hl
    exact .andS h1 h2 d1 h4 d2
   ·by_cases hl1:c<=s1.left
    ·have d1:=(i1.2.2 c hc).1 (λh=>by cases h) hl1
     obtain⟨t2,d2,q2⟩:=(i2.2.2 c hl1).2 (h.imp (λe=>by cases e;rfl) id)
     exact⟨_,.andS h1 h2 d1 h4 d2,q2⟩
    ·obtain⟨t1,d1,q1⟩:=(i1.2.2 c hc).2 (.inr (by omega))
     exact⟨_,.firstS (by omega) (by omega) h2 d1,(q1.trans i2.1)⟩
 |not h1 h2 _ i1=>
  refine⟨i1.1,i1.2.1,λc hc=>⟨λhr hl=>?_,λh=>?_⟩⟩
  ·have d1:=(i1.2.2 c hc).1 (λh=>by cases h) hl
   exact .not h1 h2 d1
  ·obtain⟨t1,d1,q1⟩:=(i1.2.2 c hc).2 (.inr (h.resolve_left (λh=>by cases h)))
   exact⟨_,.firstS (by omega) (by omega) h2 d1,q1⟩
 |at_ h1 h2 _ h4 h5 i1=>
  refine⟨i1.1,i1.2.1,λc hc=>⟨λhr hl=>?_,λh=>?_⟩⟩
  ·have d1:=(i1.2.2 c hc).1 (λh=>by cases h) hl
   exact .at_ h1 h2 d1 h4 h5
  ·obtain⟨t1,d1,q1⟩:=(i1.2.2 c hc).2 (.inr (h.resolve_left (λh=>by cases h)))
   exact⟨_,.firstS (by omega) (by omega) h2 d1,q1⟩
 |atS h1 h2 _ h4 i1=>
  refine⟨i1.1,i1.2.1,λc hc=>⟨λhr hl=>?_,λh=>?_⟩⟩
  ·have d1:=(i1.2.2 c hc).1 (λh=>by cases h) hl
   exact .atS h1 h2 d1 h4
  ·obtain⟨t1,d1,q1⟩:=(i1.2.2 c hc).2 (.inr (h.resolve_left (λh=>by cases h)))
   exact⟨_,.firstS (by omega) (by omega) h2 d1,q1⟩
 | @bin k v s e a b s1 n s2 m q h1 h2 h3 _ _ h6 i1 i2=>
   refine⟨i1.1.trans i2.1,VR i2.2.1 i1.2.1,λc hc=>⟨λhr hl=>?_,λh=>?_⟩⟩
   ·have hl1:=VR hl i2.2.1
    have d1:=(i1.2.2 c hc).1 (λh=>by cases h) hl1
    have d2:=(i2.2.2 c hl1).1 (λh=>by cases h) hl
    exact .bin h1 h2 h3 d1 d2 h6
   ·by_cases hl1:c<=s1.left
    ·have d1:=(i1.2.2 c hc).1 (λh=>by cases h) hl1
     obtain⟨t2,d2,q2⟩:=(i2.2.2 c hl1).2 (.inr (h.resolve_left (λh=>by cases h)))
     exact⟨_,.binS h1 h2 h3 d1 d2,q2⟩
    ·obtain⟨t1,d1,q1⟩:=(i1.2.2 c hc).2 (.inr (by omega))
     exact⟨_,.firstS h1 (by omega) h3 d1,(q1.trans i2.1)⟩
 | @binS k v s e a b s1 n s2 c0 h1 h2 h3 _ _ i1 i2=>
   refine⟨i1.1.trans i2.1,VR i2.2.1 i1.2.1,λc hc=>⟨λhr hl=>?_,λh=>?_⟩⟩
   ·have hl1:=VR hl i2.2.1
    have d1:=(i1.2.2 c hc).1 (λh=>by cases h) hl1
    have d2:=(i2.2.2 c hl1).1 (λh=>hr (by cases h;rfl)) hl
    exact .binS h1 h2 h3 d1 d2
   ·by_cases hl1:c<=s1.left
    ·have d1:=(i1.2.2 c hc).1 (λh=>by cases h) hl1
     obtain⟨t2,d2,q2⟩:=(i2.2.2 c hl1).2 (h.imp (λe=>by cases e;rfl) id)
     exact⟨_,.binS h1 h2 h3 d1 d2,q2⟩
    ·obtain⟨t1,d1,q1⟩:=(i1.2.2 c hc).2 (.inr (by omega))
     exact⟨_,.firstS h1 (by omega) h3 d1,(q1.trans i2.1)⟩
 | @binD k v s e a b s1 n s2 m h1 h2 h3 _ _ h6 i1 i2=>
   refine⟨i1.1.trans i2.1,VR i2.2.1 i1.2.1,λc hc=>⟨λhr hl=>?_,λh=>?_⟩⟩
   ·have hl1:=VR hl i2.2.1
    have d1:=(i1.2.2 c hc).1 (λh=>by cases h) hl1
    have d2:=(i2.2.2 c hl1).1 (λh=>by cases h) hl
    exact .binD h1 h2 h3 d1 d2 h6
   ·by_cases hl1:c<=s1.left
    ·have d1:=(i1.2.2 c hc).1 (λh=>by cases h) hl1
     obtain⟨t2,d2,q2⟩:=(i2.2.2 c hl1).2 (.inr (h.resolve_left (λh=>by cases h)))
     exact⟨_,.binS h1 h2 h3 d1 d2,q2⟩
    ·obtain⟨t1,d1,q1⟩:=(i1.2.2 c hc).2 (.inr (by omega))
     exact⟨_,.firstS h1 (by omega) h3 d1,(q1.trans i2.1)⟩
 |nil=>
  refine⟨List.prefix_refl _,VM _,λc hc=>⟨λ_ _=> .nil,λh=>?_⟩⟩
  rcases h with h|h
  ·cases h
  ·omega
 | @cons k v s a r s1 n s2 ns _ _ i1 i2=>
   refine⟨i1.1.trans i2.1,VR i2.2.1 i1.2.1,λc hc=>⟨λhr hl=>?_,λh=>?_⟩⟩
   ·have hl1:=VR hl i2.2.1
    have d1:=(i1.2.2 c hc).1 (λh=>by cases h) hl1
    have d2:=(i2.2.2 c hl1).1 (λh=>by cases h) hl
    exact .cons d1 d2
   ·by_cases hl1:c<=s1.left
    ·have d1:=(i1.2.2 c hc).1 (λh=>by cases h) hl1
     obtain⟨t2,d2,q2⟩:=(i2.2.2 c hl1).2 (.inr (h.resolve_left (λh=>by cases h)))
     exact⟨_,.consT d1 d2,q2⟩
    ·obtain⟨t1,d1,q1⟩:=(i1.2.2 c hc).2 (.inr (by omega))
     exact⟨_,.consS d1,(q1.trans i2.1)⟩
 |consS _ i1=>
  refine⟨i1.1,i1.2.1,λc hc=>⟨λhr hl=>?_,λh=>?_⟩⟩
  ·have d1:=(i1.2.2 c hc).1 (λh=>hr (by cases h;rfl)) hl
   exact .consS d1
  ·obtain⟨t1,d1,q1⟩:=(i1.2.2 c hc).2 (h.imp (λe=>by cases e;rfl) id)
   exact⟨_,.consS d1,q1⟩
 | @consT k v s a r s1 n s2 c0 _ _ i1 i2=>
   refine⟨i1.1.trans i2.1,VR i2.2.1 i1.2.1,λc hc=>⟨λhr hl=>?_,λh=>?_⟩⟩
   ·have hl1:=VR hl i2.2.1
    have d1:=(i1.2.2 c hc).1 (λh=>by cases h) hl1
    have d2:=(i2.2.2 c hl1).1 (λh=>hr (by cases h;rfl)) hl
    exact .consT d1 d2
   ·by_cases hl1:c<=s1.left
    ·have d1:=(i1.2.2 c hc).1 (λh=>by cases h) hl1
     obtain⟨t2,d2,q2⟩:=(i2.2.2 c hl1).2 (h.imp (λe=>by cases e;rfl) id)
     exact⟨_,.consT d1 d2,q2⟩
    ·obtain⟨t1,d1,q1⟩:=(i1.2.2 c hc).2 (.inr (by omega))
     exact⟨_,.consS d1,(q1.trans i2.1)⟩
 |argS h1 h2 _ i1=>
  refine⟨i1.1,i1.2.1,λc hc=>⟨λhr hl=>?_,λh=>?_⟩⟩
  ·have d1:=(i1.2.2 c hc).1 (λh=>hr (by cases h;rfl)) hl
   exact .argS h1 h2 d1
  ·obtain⟨t1,d1,q1⟩:=(i1.2.2 c hc).2 (h.imp (λe=>by cases e;rfl) id)
   exact⟨_,_,.argS h1 h2 d1,q1⟩
 |slet h1 h2 _ h4 h5 i1=>
  refine⟨i1.1,i1.2.1,λc hc=>⟨λhr hl=>?_,λh=>?_⟩⟩
  ·have d1:=(i1.2.2 c hc).1 (λh=>by cases h) hl
   exact .slet h1 h2 d1 h4 h5
  ·obtain⟨t1,d1,q1⟩:=(i1.2.2 c hc).2 (.inr (h.resolve_left (λh=>by cases h)))
   exact⟨_,_,.argS (by omega) h2 d1,q1⟩
 |sset h1 h2 _ h4 i1=>
  refine⟨i1.1,i1.2.1,λc hc=>⟨λhr hl=>?_,λh=>?_⟩⟩
  ·have d1:=(i1.2.2 c hc).1 (λh=>by cases h) hl
   exact .sset h1 h2 d1 h4
  ·obtain⟨t1,d1,q1⟩:=(i1.2.2 c hc).2 (.inr (h.resolve_left (λh=>by cases h)))
   exact⟨_,_,.argS (by omega) h2 d1,q1⟩
 |ssay h1 h2 _ i1=>
  refine⟨i1.1.trans (List.prefix_append _ _),i1.2.1,λc hc=>⟨λhr hl=>?_,λh=>?_⟩⟩
  ·have d1:=(i1.2.2 c hc).1 (λh=>by cases h) hl
   exact .ssay h1 h2 d1
  ·obtain⟨t1,d1,q1⟩:=(i1.2.2 c hc).2 (.inr (h.resolve_left (λh=>by cases h)))
   exact⟨_,_,.argS (by omega) h2 d1,(q1.trans (List.prefix_append _ _))⟩
 | @sput k v s x a b s1 n s2 m h1 h2 _ _ h5 i1 i2=>
   refine⟨i1.1.trans i2.1,VR i2.2.1 i1.2.1,λc hc=>⟨λhr hl=>?_,λh=>?_⟩⟩
   ·have hl1:=VR hl i2.2.1
    have d1:=(i1.2.2 c hc).1 (λh=>by cases h) hl1
    have d2:=(i2.2.2 c hl1).1 (λh=>by cases h) hl
    exact .sput h1 h2 d1 d2 h5
   ·by_cases hl1:c<=s1.left
    ·have d1:=(i1.2.2 c hc).1 (λh=>by cases h) hl1
     obtain⟨t2,d2,q2⟩:=(i2.2.2 c hl1).2 (.inr (h.resolve_left (λh=>by cases h)))
     exact⟨_,_,.sputS h1 h2 d1 d2,q2⟩
    ·obtain⟨t1,d1,q1⟩:=(i1.2.2 c hc).2 (.inr (by omega))
     exact⟨_,_,.argS (by omega) h2 d1,(q1.trans i2.1)⟩
 | @sputC k v s x a b s1 n s2 m h1 h2 _ _ h5 i1 i2=>
   refine⟨i1.1.trans i2.1,VR i2.2.1 i1.2.1,λc hc=>⟨λhr hl=>?_,λh=>?_⟩⟩
   ·have hl1:=VR hl i2.2.1
    have d1:=(i1.2.2 c hc).1 (λh=>by cases h) hl1
    have d2:=(i2.2.2 c hl1).1 (λh=>by cases h) hl
    exact .sputC h1 h2 d1 d2 h5
   ·by_cases hl1:c<=s1.left
    ·have d1:=(i1.2.2 c hc).1 (λh=>by cases h) hl1
     obtain⟨t2,d2,q2⟩:=(i2.2.2 c hl1).2 (.inr (h.resolve_left (λh=>by cases h)))
     exact⟨_,_,.sputS h1 h2 d1 d2,q2⟩
    ·obtain⟨t1,d1,q1⟩:=(i1.2.2 c hc).2 (.inr (by omega))
     exact⟨_,_,.argS (by omega) h2 d1,(q1.trans i2.1)⟩
 | @sputS k v s x a b s1 n s2 c0 h1 h2 _ _ i1 i2=>
   refine⟨i1.1.trans i2.1,VR i2.2.1 i1.2.1,λc hc=>⟨λhr hl=>?_,λh=>?_⟩⟩
   ·have hl1:=VR hl i2.2.1
    have d1:=(i1.2.2 c hc).1 (λh=>by cases h) hl1
    have d2:=(i2.2.2 c hl1).1 (λh=>hr (by cases h;rfl)) hl
    exact .sputS h1 h2 d1 d2
   ·by_cases hl1:c<=s1.left
    ·have d1:=(i1.2.2 c hc).1 (λh=>by cases h) hl1
     obtain⟨t2,d2,q2⟩:=(i2.2.2 c hl1).2 (h.imp (λe=>by cases e;rfl) id)
     exact⟨_,_,.sputS h1 h2 d1 d2,q2⟩
    ·obtain⟨t1,d1,q1⟩:=(i1.2.2 c hc).2 (.inr (by omega))
     exact⟨_,_,.argS (by omega) h2 d1,(q1.trans i2.1)⟩
 | @sif k v s x a s1 n m v' s2 q h1 h2 _ _ i1 i2=>
   refine⟨i1.1.trans i2.1,VR i2.2.1 i1.2.1,λc hc=>⟨λhr hl=>?_,λh=>?_⟩⟩
   ·have hl1:=VR hl i2.2.1
    have d1:=(i1.2.2 c hc).1 (λh=>by cases h) hl1
    have d2:=(i2.2.2 c hl1).1 hr hl
    exact .sif h1 h2 d1 d2
   ·by_cases hl1:c<=s1.left
    ·have d1:=(i1.2.2 c hc).1 (λh=>by cases h) hl1
     obtain⟨w2,t2,d2,q2⟩:=(i2.2.2 c hl1).2 h
     obtain⟨m5,up5,rfl⟩:=ux d2
     exact⟨_,_,.sif h1 h2 d1 d2,q2⟩
    ·obtain⟨t1,d1,q1⟩:=(i1.2.2 c hc).2 (.inr (by omega))
     exact⟨_,_,.argS (by omega) h2 d1,(q1.trans i2.1)⟩
 |sloop h1 _ i1=>
  refine⟨i1.1,i1.2.1,λc hc=>⟨λhr hl=>?_,λh=>?_⟩⟩
  ·have d1:=(i1.2.2 c hc).1 hr hl
   exact .sloop h1 d1
  ·obtain⟨w1,t1,d1,q1⟩:=(i1.2.2 c hc).2 h
   exact⟨_,_,.sloop h1 d1,q1⟩
 |sback h1 h2 _ i1=>
  refine⟨i1.1,i1.2.1,λc hc=>⟨λhr hl=>?_,λh=>?_⟩⟩
  ·have d1:=(i1.2.2 c hc).1 (λh=>by cases h) hl
   exact .sback h1 h2 d1
  ·obtain⟨t1,d1,q1⟩:=(i1.2.2 c hc).2 (.inr (h.resolve_left (λh=>by cases h)))
   exact⟨_,_,.argS (by omega) h2 d1,q1⟩
 |sdo h1 h2 _ i1=>
  refine⟨i1.1,i1.2.1,λc hc=>⟨λhr hl=>?_,λh=>?_⟩⟩
  ·have d1:=(i1.2.2 c hc).1 (λh=>by cases h) hl
   exact .sdo h1 h2 d1
  ·obtain⟨t1,d1,q1⟩:=(i1.2.2 c hc).2 (.inr (h.resolve_left (λh=>by cases h)))
   exact⟨_,_,.argS (by omega) h2 d1,q1⟩
 |lpS h1 _ i1=>
  refine⟨i1.1,i1.2.1,λc hc=>⟨λhr hl=>?_,λh=>?_⟩⟩
  ·have d1:=(i1.2.2 c hc).1 (λh=>hr (by cases h;rfl)) hl
   exact .lpS h1 d1
  ·obtain⟨t1,d1,q1⟩:=(i1.2.2 c hc).2 (h.imp (λe=>by cases e;rfl) id)
   exact⟨_,_,.lpS h1 d1,q1⟩
 |lp0 h1 _ i1=>
  refine⟨i1.1,i1.2.1,λc hc=>⟨λhr hl=>?_,λh=>?_⟩⟩
  ·have d1:=(i1.2.2 c hc).1 (λh=>by cases h) hl
   exact .lp0 h1 d1
  ·obtain⟨t1,d1,q1⟩:=(i1.2.2 c hc).2 (.inr (h.resolve_left (λh=>by cases h)))
   exact⟨_,_,.lpS h1 d1,q1⟩
 | @lpEnd k v s x a s1 n m v' s2 q h1 _ h3 _ h5 i1 i2=>
   refine⟨i1.1.trans i2.1,VR i2.2.1 i1.2.1,λc hc=>⟨λhr hl=>?_,λh=>?_⟩⟩
   ·have hl1:=VR hl i2.2.1
    have d1:=(i1.2.2 c hc).1 (λh=>by cases h) hl1
    have d2:=(i2.2.2 c hl1).1 hr hl
    exact .lpEnd h1 d1 h3 d2 h5
   ·by_cases hl1:c<=s1.left
    ·have d1:=(i1.2.2 c hc).1 (λh=>by cases h) hl1
     obtain⟨w2,t2,d2,q2⟩:=(i2.2.2 c hl1).2 h
     obtain⟨m5,up5,rfl⟩:=ux d2
     exact⟨_,_,.lpEnd h1 d1 h3 d2 (λh=>by cases h),q2⟩
    ·obtain⟨t1,d1,q1⟩:=(i1.2.2 c hc).2 (.inr (by omega))
     exact⟨_,_,.lpS h1 d1,(q1.trans i2.1)⟩
 | @cal k f us s v' s' r h1 h2 _ i1=>
   refine⟨i1.1,i1.2.1,λc hc=>⟨λhr hl=>?_,λh=>?_⟩⟩
   ·exact .cal h1 h2 ((i1.2.2 c hc).1 (λe=>hr (by rw[e];rfl)) hl)
   ·have h':r= .st 3\/s'.left<c:=h.imp (λe=>by
     match r,e with
     | .st q,e=>cases e;rfl
     | .ok none,e=>cases e
     | .ok (some _),e=>cases e) id
    obtain⟨w1,t1,d1,q1⟩:=(i1.2.2 c hc).2 h'
    exact⟨_,.cal h1 h2 d1,q1⟩
 |bnil=>
  refine⟨List.prefix_refl _,VM _,λc hc=>⟨λ_ _=> .bnil,λh=>?_⟩⟩
  rcases h with h|h
  ·cases h
  ·omega
 | @bfuel k v s x r h0=>
   refine⟨List.prefix_refl _,VM _,λc hc=>⟨λh _=>(h rfl).elim,λh=>?_⟩⟩
   exact⟨_,_,.bfuel (by show s.left-c=0;omega),List.prefix_refl _⟩
 | @bgo k v s x r F v1 s1 v2 s2 q hF _ _ i1 i2=>
   have i1l:s1.left<=F:=i1.2.1
   have i2l:=i2.2.1
   have i1s:s.said<+:s1.said:=i1.1
   refine⟨i1s.trans i2.1,by omega,λc hc=>⟨λhr hl=>?_,λh=>?_⟩⟩
   ·have hcF:c<=F:=by omega
    have hd:(s.dn c).left=(F-c)+1:=by show s.left-c=_;omega
    have d1:=(i1.2.2 c hcF).1 (λh=>by cases h) (by omega)
    have d2:=(i2.2.2 c (by omega)).1 hr hl
    exact .bgo hd d1 d2
   ·by_cases hcF:c<=F
    ·have hd:(s.dn c).left=(F-c)+1:=by show s.left-c=_;omega
     by_cases hl1:c<=s1.left
     ·have d1:=(i1.2.2 c hcF).1 (λh=>by cases h) hl1
      obtain⟨w2,t2,d2,q2⟩:=(i2.2.2 c hl1).2 h
      exact⟨_,_,.bgo hd d1 d2,q2⟩
     ·obtain⟨w1,t1,d1,q1⟩:=(i1.2.2 c hcF).2 (.inr (by omega))
      exact⟨_,_,.bend hd d1 (λh=>by cases h),q1.trans i2.1⟩
    ·exact⟨_,_,.bfuel (by show s.left-c=0;omega),i1s.trans i2.1⟩
 | @bend k v s x r F v1 s1 q hF _ h3 i1=>
   have i1l:s1.left<=F:=i1.2.1
   have i1s:s.said<+:s1.said:=i1.1
   refine⟨i1s,by omega,λc hc=>⟨λhr hl=>?_,λh=>?_⟩⟩
   ·have hcF:c<=F:=by omega
    have hd:(s.dn c).left=(F-c)+1:=by show s.left-c=_;omega
    exact .bend hd ((i1.2.2 c hcF).1 hr hl) h3
   ·by_cases hcF:c<=F
    ·have hd:(s.dn c).left=(F-c)+1:=by show s.left-c=_;omega
     obtain⟨w1,t1,d1,q1⟩:=(i1.2.2 c hcF).2 h
     exact⟨_,_,.bend hd d1 (λh=>by cases h),q1⟩
    ·exact⟨_,_,.bfuel (by show s.left-c=0;omega),i1s⟩
 | @lpFuel k v s x a s1 n m v' s2 h1 _ h3 _ h5 i1 i2=>
   have i1l:=i1.2.1
   have i2l:=i2.2.1
   refine⟨i1.1.trans i2.1,by omega,λc hc=>⟨λh _=>(h rfl).elim,λ_=>?_⟩⟩
   by_cases hl1:c<=s1.left
   ·have d1:=(i1.2.2 c hc).1 (λh=>by cases h) hl1
    by_cases hl2:c<=s2.left
    ·have d2:=(i2.2.2 c hl1).1 (λh=>by cases h) hl2
     exact⟨_,_,.lpFuel h1 d1 h3 d2 (by show s2.left-c=0;omega),List.prefix_refl _⟩
    ·obtain⟨w2,t2,d2,q2⟩:=(i2.2.2 c hl1).2 (.inr (by omega))
     obtain⟨m5,up5,rfl⟩:=ux d2
     exact⟨_,_,.lpEnd h1 d1 h3 d2 (λh=>by cases h),q2⟩
   ·obtain⟨t1,d1,q1⟩:=(i1.2.2 c hc).2 (.inr (by omega))
    exact⟨_,_,.lpS h1 d1,q1.trans i2.1⟩
 | @lpGo k v s x a s1 n m v' s2 F v'' s3 q h1 _ h3 _ h5 _ i1 i2 i3=>
   have i1l:=i1.2.1
   have i2l:=i2.2.1
   have i3l:s3.left<=F:=i3.2.1
   have i3s:s2.said<+:s3.said:=i3.1
   refine⟨(i1.1.trans i2.1).trans i3s,by omega,λc hc=>⟨λhr hl=>?_,λh=>?_⟩⟩
   ·have hcF:c<=F:=by omega
    have hd:(s2.dn c).left=(F-c)+1:=by show s2.left-c=_;omega
    exact .lpGo h1 ((i1.2.2 c hc).1 (λh=>by cases h) (by omega)) h3 ((i2.2.2 c (by omega)).1 (λh=>by cases h) (by omega)) hd ((i3.2.2 c hcF).1 hr hl)
   ·by_cases hl1:c<=s1.left
    ·have d1:=(i1.2.2 c hc).1 (λh=>by cases h) hl1
     by_cases hl2:c<=s2.left
     ·have d2:=(i2.2.2 c hl1).1 (λh=>by cases h) hl2
      by_cases hcF:c<=F
      ·have hd:(s2.dn c).left=(F-c)+1:=by show s2.left-c=_;omega
       obtain⟨w3,t3,d3,q3⟩:=(i3.2.2 c hcF).2 h
       exact⟨_,_,.lpGo h1 d1 h3 d2 hd d3,q3⟩
      ·exact⟨_,_,.lpFuel h1 d1 h3 d2 (by show s2.left-c=0;omega),i3s⟩
     ·obtain⟨w2,t2,d2,q2⟩:=(i2.2.2 c hl1).2 (.inr (by omega))
      obtain⟨m5,up5,rfl⟩:=ux d2
      exact⟨_,_,.lpEnd h1 d1 h3 d2 (λh=>by cases h),q2.trans i3s⟩
    ·obtain⟨t1,d1,q1⟩:=(i1.2.2 c hc).2 (.inr (by omega))
     exact⟨_,_,.lpS h1 d1,(q1.trans i2.1).trans i3s⟩
end
section
def S5.pre(s:S5)(t:List Int):S5:=⟨s.left,t++s.said,s.cells⟩
def Up(l:List Fd)(K:Nat)(t:List Int):J5->Prop
 | .ex k v s e s' r=>k<=K->Ev l (.ex k v (s.pre t) e (s'.pre t) r)
 | .exs k v s e s' r=>k<=K->Ev l (.exs k v (s.pre t) e (s'.pre t) r)
 | .cal k us s s' r=>k<K->Ev l (.cal k us (s.pre t) (s'.pre t) r)
 | .stm k v s x v' s' r=>k<=K->Ev l (.stm k v (s.pre t) x v' (s'.pre t) r)
 | .blk k v s x v' s' r=>k<=K->Ev l (.blk k v (s.pre t) x v' (s'.pre t) r)
 | .lp k v s x v' s' r=>k<=K->Ev l (.lp k v (s.pre t) x v' (s'.pre t) r)
theorem Tf{l l':List Fd}{K:Nat}(hA:∀j,j<K->l'[j]?=l[j]?)(hN:∀s j,be l s=some j->be l' s=some j)(t:List Int){j:J5}(h:Ev l j):Up l' K t j:=by
 induction h with
 |num h1 h2=>
  intro _
  exact .num h1 h2
 |var h1 h2=>
  intro _
  exact .var h1 h2
 |call h1 _ h3 h4 _ i1 i2=>
  intro hk
  exact .call h1 (i1 hk) (hN _ _ h3) h4 (i2 (VX h4 hk))
 |callS h1 _ i1=>
  intro hk
  exact .callS h1 (i1 hk)
 |firstS h1 h2 h3 _ i1=>
  intro hk
  exact .firstS h1 h2 h3 (i1 hk)
 |and0 h1 h2 _ i1=>
  intro hk
  exact .and0 h1 h2 (i1 hk)
 |and1 h1 h2 _ h4 _ i1 i2=>
  intro hk
  exact .and1 h1 h2 (i1 hk) h4 (i2 hk)
 |andS h1 h2 _ h4 _ i1 i2=>
  intro hk
  exact .andS h1 h2 (i1 hk) h4 (i2 hk)
 |not h1 h2 _ i1=>
  intro hk
  exact .not h1 h2 (i1 hk)
 |at_ h1 h2 _ h4 h5 i1=>
  intro hk
  exact .at_ h1 h2 (i1 hk) h4 h5
 |atS h1 h2 _ h4 i1=>
  intro hk
  exact .atS h1 h2 (i1 hk) h4
 |bin h1 h2 h3 _ _ h6 i1 i2=>
  intro hk
  exact .bin h1 h2 h3 (i1 hk) (i2 hk) h6
 |binS h1 h2 h3 _ _ i1 i2=>
  intro hk
  exact .binS h1 h2 h3 (i1 hk) (i2 hk)
 |binD h1 h2 h3 _ _ h6 i1 i2=>
  intro hk
  exact .binD h1 h2 h3 (i1 hk) (i2 hk) h6
 |nil=>
  intro _
  exact .nil
 |cons _ _ i1 i2=>
  intro hk
  exact .cons (i1 hk) (i2 hk)
 |consS _ i1=>
  intro hk
  exact .consS (i1 hk)
 |consT _ _ i1 i2=>
  intro hk
  exact .consT (i1 hk) (i2 hk)
 |argS h1 h2 _ i1=>
  intro hk
  exact .argS h1 h2 (i1 hk)
 |slet h1 h2 _ h4 h5 i1=>
  intro hk
  exact .slet h1 h2 (i1 hk) h4 h5
 |sset h1 h2 _ h4 i1=>
  intro hk
  exact .sset h1 h2 (i1 hk) h4
 | @ssay k v s x a s1 n h1 h2 _ i1=>
   intro hk
   have e:(s1.say n).pre t=(s1.pre t).say n:=by simp[S5.pre,S5.say]
   show Ev l' (.stm k v (s.pre t) x v ((s1.say n).pre t) (.ok none))
   rw[e]
   exact .ssay h1 h2 (i1 hk)
 |sput h1 h2 _ _ h5 i1 i2=>
  intro hk
  exact .sput h1 h2 (i1 hk) (i2 hk) h5
 |sputC h1 h2 _ _ h5 i1 i2=>
  intro hk
  exact .sputC h1 h2 (i1 hk) (i2 hk) h5
 |sputS h1 h2 _ _ i1 i2=>
  intro hk
  exact .sputS h1 h2 (i1 hk) (i2 hk)
 |sif h1 h2 _ _ i1 i2=>
  intro hk
  exact .sif h1 h2 (i1 hk) (i2 hk)
 |sloop h1 _ i1=>
  intro hk
  exact .sloop h1 (i1 hk)
 |sback h1 h2 _ i1=>
  intro hk
  exact .sback h1 h2 (i1 hk)
 |sdo h1 h2 _ i1=>
  intro hk
  exact .sdo h1 h2 (i1 hk)
 |lpS h1 _ i1=>
  intro hk
  exact .lpS h1 (i1 hk)
 |lp0 h1 _ i1=>
  intro hk
  exact .lp0 h1 (i1 hk)
 |lpEnd h1 _ h3 _ h5 i1 i2=>
  intro hk
  exact .lpEnd h1 (i1 hk) h3 (i2 hk) h5
 | @cal k f us s v' s' r h1 h2 _ i1=>
   intro hk
   exact .cal (by rw[hA k hk];exact h1) h2 (i1 (Nat.le_of_lt hk))
 |bnil=>
  intro _
  exact .bnil
 |bfuel h0=>
  intro _
  exact .bfuel h0
 |bgo hF _ _ i1 i2=>
  intro hk
  exact .bgo hF (i1 hk) (i2 hk)
 |bend hF _ h3 i1=>
  intro hk
  exact .bend hF (i1 hk) h3
 |lpFuel h1 _ h3 _ h5 i1 i2=>
  intro hk
  exact .lpFuel h1 (i1 hk) h3 (i2 hk) h5
 |lpGo h1 _ h3 _ h5 _ i1 i2 i3=>
  intro hk
  exact .lpGo h1 (i1 hk) h3 (i2 hk) h5 (i3 hk)
end
section
def nmS(m:Sc5):List (List UInt8):=m.map (·.1)
def nmV(v:List Sc5):List (List (List UInt8)):=v.map nmS
theorem HN(s:List UInt8)(n:Int):∀m:Sc5,nmS (sset m s n)=nmS m
 |[]=>rfl
 |x::r=>by
  rw[sset]
  split
  ·rename_i h
   show s::nmS r=x.1::nmS r
   rw[h]
  ·show x.1::nmS (sset r s n)=x.1::nmS r
   rw[HN s n r]
theorem yX(s:List UInt8)(n:Int):∀v:List Sc5,nmV (gq v s n)=nmV v
 |[]=>rfl
 |m::r=>by
  rw[gq]
  split
  ·show nmS (sset m s n)::nmV r=_
   rw[HN];rfl
  ·show nmS m::nmV (gq r s n)=_
   rw[yX s n r];rfl
def Grw(v v':List Sc5):Prop:=nmV v'=nmV v\/∃m up m' up' t,v=m::up/\v'=m'::up'/\nmV up'=nmV up/\nmS m'=nmS m++t
theorem Grw.refl(v:List Sc5):Grw v v:= .inl rfl
theorem EO{m:Sc5}{up v:List Sc5}(h:nmV v=nmV (m::up)):∃m' up',v=m'::up'/\nmS m'=nmS m/\nmV up'=nmV up:=by
 match v with
 |[]=>cases h
 |m'::up'=>
  have h:nmS m'::nmV up'=nmS m::nmV up:=h
  exact⟨m',up',rfl,(List.cons.inj h).1,(List.cons.inj h).2⟩
theorem Grw.trans{a b c:List Sc5}(h:Grw a b)(g:Grw b c):Grw a c:=by
 rcases h with h|⟨m,up,m',up',t,rfl,rfl,h1,h2⟩
 ·rcases g with g|⟨m,up,m',up',t,rfl,rfl,h1,h2⟩
  ·exact .inl (g.trans h)
  ·obtain⟨m0,up0,rfl,e1,e2⟩:=EO h.symm
   exact .inr ⟨m0,up0,m',up',t,rfl,rfl,h1.trans e2.symm,by rw[h2,e1]⟩
 ·rcases g with g|⟨q,uq,q',uq',t',e,rfl,g1,g2⟩
  ·obtain⟨m0,up0,rfl,e1,e2⟩:=EO g
   exact .inr ⟨m,up,m0,up0,t,rfl,rfl,e2.trans h1,e1.trans h2⟩
  ·obtain⟨e1,e2⟩:=List.cons.inj e
   subst e1;subst e2
   exact .inr ⟨m,up,q',uq',t++t',rfl,rfl,g1.trans h1,by rw[g2,h2,Wg]⟩
theorem Grw.tail{m m':Sc5}{v v':List Sc5}(h:Grw (m::v) (m'::v')):nmV v'=nmV v:=by
 rcases h with h|⟨q,up,q',up',t,e1,e2,h1,h2⟩
 ·have h:nmS m'::nmV v'=nmS m::nmV v:=h
  exact(List.cons.inj h).2
 ·rw[(List.cons.inj e1).2,(List.cons.inj e2).2];exact h1
def Sh5:J5->Prop
 | .stm _ v _ _ v' _ _=>Grw v v'
 | .blk _ v _ _ v' _ _=>Grw v v'
 | .lp _ v _ _ v' _ _=>nmV v'=nmV v
 |_=>True
theorem zY{l:List Fd}{j:J5}(h:Ev l j):Sh5 j:=by
 induction h with
 |bnil=>exact .inl rfl
 |bfuel _=>exact .inl rfl
 |bgo _ _ _ i1 i2=>exact i1.trans i2
 |bend _ _ _ i1=>exact i1
 |argS _ _ _ _=>exact .inl rfl
 | @slet k v s x a s1 n m up _ _ _ hv _ _=>
   subst hv
   exact .inr ⟨m,up,m++[(x.name,n)],up,[x.name],rfl,rfl,rfl,by simp[nmS]⟩
 |sset _ _ _ _ _=>exact .inl (yX _ _ _)
 |ssay _ _ _ _=>exact .inl rfl
 |sput _ _ _ _ _ _ _=>exact .inl rfl
 |sputC _ _ _ _ _ _ _=>exact .inl rfl
 |sputS _ _ _ _ _ _=>exact .inl rfl
 |sif _ _ _ _ _ i2=>exact .inl i2.tail
 |sloop _ _ i1=>exact .inl i1
 |sback _ _ _ _=>exact .inl rfl
 |sdo _ _ _ _=>exact .inl rfl
 |lpS _ _ _=>exact(rfl:nmV _=nmV _)
 |lp0 _ _ _=>exact(rfl:nmV _=nmV _)
 |lpEnd _ _ _ _ _ _ i2=>exact i2.tail
 |lpFuel _ _ _ _ _ _ i2=>exact i2.tail
 |lpGo _ _ _ _ _ _ _ i2 i3=>exact(show nmV _=nmV _ from i3).trans i2.tail
 |_=>trivial
def ay:List Sc5->Sc5
 |[]=>[]
 |m::r=>ay r++m
theorem hZ:∀{v w:List Sc5},nmV v=nmV w->(ay v).length=(ay w).length
 |[],[],_=>rfl
 |[],_::_,h=>by cases h
 |_::_,[],h=>by cases h
 |m::r,m'::r',h=>by
  have h:nmS m::nmV r=nmS m'::nmV r':=h
  obtain⟨h1,h2⟩:=List.cons.inj h
  have:=hZ h2
  have h1:=congrArg List.length h1
  simp only[nmS,Wl] at h1
  simp[ay,this,h1]
theorem BX{m:Sc5}{v w:List Sc5}(h:nmV v=nmV w):(ay (m::v)).take (ay w).length=ay v:=by
 rw[ay,←hZ h,List.take_left']
 rfl
def cS:Sc5->List UInt8->Option Nat
 |[],_=>none
 |x::r,s=>match cS r s with|some i=>some (i+1)|none=>if x.1=s then some 0 else none
theorem nu(s:List UInt8):∀a b:Sc5,cS (a++b) s=match cS b s with|some i=>some (a.length+i)|none=>cS a s
 |[],b=>by cases h:cS b s<;>simp[cS,h]
 |x::r,b=>by
  rw[Wn,cS,nu s r b]
  cases h:cS b s with
  |some i=>simp;omega
  |none=>rfl
def Un5(v:List Sc5):Prop:=∀m∈v,(nmS m).Pairwise (· ≠ ·)
theorem sget_none_iff:∀{m:Sc5} {s:List UInt8},bO m s=none↔s∉nmS m
 |[],s=>by simp[bO,nmS]
 |x::r,s=>by
  rw[bO]
  by_cases h:x.1=s
  ·simp[h,nmS]
  ·rw[if_neg h,sget_none_iff]
   simp[nmS,Ne.symm h]
theorem ov:∀{m:Sc5} {s:List UInt8},s∉nmS m->cS m s=none
 |[],s,_=>rfl
 |x::r,s,h=>by
  simp only[nmS,VY,VL,not_or] at h
  rw[cS,ov (m:=r) h.2]
  simp only
  rw[if_neg (λe=>h.1 e.symm)]
theorem AP:∀{m:Sc5} {s:List UInt8} {n:Int},(nmS m).Pairwise (· ≠ ·)->bO m s=some n->∃i,cS m s=some i/\m[i]?=some (s,n)/\∀q,sset m s q=m.set i (s,q)
 |x::r,s,n,hp,h=>by
  obtain⟨h1,h2⟩:=List.pairwise_cons.1 (show(x.1::nmS r).Pairwise (· ≠ ·) from hp)
  rw[bO] at h
  by_cases hx:x.1=s
  ·rw[if_pos hx] at h
   have hn:s∉nmS r:=λhm=>h1 s hm hx
   refine⟨0,?_,?_,λq=>?_⟩
   ·rw[cS,ov hn];simp only;rw[if_pos hx]
   ·obtain⟨a,b⟩:=x
    have hx:a=s:=hx
    have h:some b=some n:=h
    cases h;subst hx;rfl
   ·rw[sset,if_pos hx];rfl
  ·rw[if_neg hx] at h
   obtain⟨i,g1,g2,g3⟩:=AP h2 h
   refine⟨i+1,?_,by simpa using g2,λq=>?_⟩
   ·rw[cS,g1]
   ·rw[sset,if_neg hx,g3 q];rfl
theorem AD:∀{v:List Sc5} {s:List UInt8} {n:Int},Un5 v->fQ v s=some n->∃i,cS (ay v) s=some i/\(ay v)[i]?=some (s,n)/\∀q,ay (gq v s q)=(ay v).set i (s,q)
 |m::r,s,n,hu,h=>by
  rw[fQ] at h
  cases hm:bO m s with
  |some k=>
   rw[hm] at h
   cases h
   obtain⟨i,g1,g2,g3⟩:=AP (hu m (by simp)) hm
   refine⟨(ay r).length+i,?_,?_,λq=>?_⟩
   ·rw[ay,nu,g1]
   ·rw[ay,VG (by omega)]
    rw[Wi];exact g2
   ·rw[gq,hm]
    simp only[Option.isSome_some,if_true]
    rw[ay,ay,g3 q,List.set_append_right _ _ (by omega),Wi]
  |none=>
   rw[hm] at h
   obtain⟨i,g1,g2,g3⟩:=AD (λq hq=>hu q (by simp[hq])) h
   have hi:i<(ay r).length:=by
    have:=Vx.1 g2
    exact this.1
   refine⟨i,?_,?_,λq=>?_⟩
   ·rw[ay,nu,ov (sget_none_iff.1 hm)];exact g1
   ·rw[ay,Vz hi];exact g2
   ·rw[gq,hm]
    simp only[Option.isSome_none,Bool.false_eq_true,if_false]
    rw[ay,ay,g3 q,List.set_append_left _ _ hi]
theorem Kw{m:Sc5}{up:List Sc5}(x:List UInt8 × Int):ay ((m++[x])::up)=ay (m::up)++[x]:=by simp[ay]
theorem Ce(v:List Sc5):ay ([]::v)=ay v:=by simp[ay]
theorem Un5.of{v w:List Sc5}(h:Un5 v)(e:nmV w=nmV v):Un5 w:=by
 intro m hm
 have h1:nmS m∈nmV v:=by rw[←e];exact List.mem_map_of_mem hm
 obtain⟨q,hq,e2⟩:=VW.1 h1
 rw[←e2];exact h q hq
theorem Un5.let{m:Sc5}{up:List Sc5}{s:List UInt8}{n:Int}(h:Un5 (m::up))(hs:bO m s=none):Un5 ((m++[(s,n)])::up):=by
 intro q hq
 rcases VL.1 hq with rfl|hq
 ·have h1:=h m (by simp)
  have h2:=sget_none_iff.1 hs
  simp only[nmS,List.map_append,VY,List.map_nil]
  refine List.pairwise_append.2 ⟨h1,List.pairwise_singleton _ _,λa ha b hb=>?_⟩
  rw[VK.1 hb]
  exact λe=>h2 (e▸ha)
 ·exact h q (by simp[hq])
theorem Un5.opn{v:List Sc5}(h:Un5 v):Un5 ([]::v):=by
 intro q hq
 rcases VL.1 hq with rfl|hq
 ·exact .nil
 ·exact h q hq
end
section
theorem dE{n:Nat}{h h1:List AO}(e:h.take n=h1)(hn:h1.length=n)(ho:∀o∈h1,okO n o):Fst n h h1:=by
 have hl:n<=h.length:=by
  have:=congrArg List.length e
  rw[Wb] at this;omega
 have hg:∀(i:Nat) (o:AO),h1[i]?=some o->h[i]?=some o:=λi o hi=>by
  have h2:=(Vx.1 hi).1
  rw[←e,List.getElem?_take_of_lt (by omega)] at hi
  exact hi
 exact⟨hn,hl,λi sz es hi=>⟨hg _ _ hi,ho _ (VD hi)⟩,λi es hi=>⟨hg _ _ hi,ho _ (VD hi)⟩,λi s p hi=>hg _ _ hi⟩
theorem BV:∀(r:List AO) (s:Nat),((ju (List.range' s r.length++[0]) (r++[.dead])).Nodup/\∀i∈ju (List.range' s r.length++[0]) (r++[.dead]),s<=i)
 |[],s=>by simp[ju]
 |o::r,s=>by
  obtain⟨h1,h2⟩:=BV r (s+1)
  rw[VV,List.range'_succ]
  cases o with
  |dead=>exact⟨h1,λi hi=>Nat.le_of_succ_le (h2 i hi)⟩
  |_=>exact⟨Wy.2 ⟨λhm=>absurd (h2 _ hm) (by omega),h1⟩,λi hi=>by
   rcases VL.1 hi with rfl|hi
   ·exact VM _
   ·exact Nat.le_of_succ_le (h2 i hi)⟩
theorem Fb{h:List AO}(hp:0<h.length)(ho:∀o∈h,okO h.length o):∀(r:List AO) (s:Nat),(∀i:Nat,r[i]?=h[s+i]?)->s+r.length=h.length->HW (List.range' 0 h.length++[0]) h (List.range' s r.length++[0]) (r++[.dead])
 |[],s,_,_=>fb hp bL
 |o::r,s,hr,hs=>by
  have hσ:∀i,i<h.length->(List.range' 0 h.length++[0]).getD i 0=i:=λi hi=>by
   rw[VP,Vz (by simp;exact hi)];simp[hi]
  rw[VV,List.range'_succ]
  have h0:=hr 0
  have ih:=Fb hp ho r (s+1) (λi=>by have:=hr (i+1);rw[VQ] at this;rw[this];congr 1;omega) (by simp at hs;omega)
  have hm:h[s]?=some o:=by simpa using h0.symm
  have hok:=ho o (VD hm)
  cases o with
  |dead=>exact fb (Vx.1 hm).1 ih
  |row sz es=>
   refine bW (λx hx=>bj (by simp) _ (hok x hx)) ?_ ih
   rw[hm,Wd (g:=id) λx hx=>mT hσ x (hok x hx)];simp
  |mp es=>exact⟨(Vx.1 hm).1,⟨λx hx=>by exact(bj (by simp) [x.2] ⟨hok x hx,trivial⟩).1,by rw[hm,Wd (g:=id) λx hx=>by rw[nI hσ x.2 (hok x hx)];rfl];simp⟩,ih⟩
  |sit s p=>exact⟨(Vx.1 hm).1,hm,ih⟩
theorem Fp{m:Nat}{l:List (Nat × AV)}:∀r:List (Nat × AV),FgA m l r->TWA (List.range' 0 m++[0]) l r
 |[],_=>trivial
 |x::r,⟨⟨a,c⟩,d⟩=>by
  have hσ:∀i,i<m->(List.range' 0 m++[0]).getD i 0=i:=λi hi=>by
   rw[VP,Vz (by simp;exact hi)];simp[hi]
  exact⟨⟨(bj (by simp) [x.2] ⟨a,trivial⟩).1,by rw[nI hσ _ a,c]⟩,Fp r d⟩
theorem oo{k n:Nat}{l l1:List (Nat × AV)}{h:List AO}(hk:k<=h.length)(hp:0<h.length)(ho:∀o∈h,okO h.length o)(H:FgA h.length l l1):Wk k (ah n l) h (ah n l1) (h++[.dead]):=by
 have hσ:∀i,i<h.length->(List.range' 0 h.length++[0]).getD i 0=i:=λi hi=>by
  rw[VP,Vz (by simp;exact hi)];simp[hi]
 refine Hv (List.range' 0 h.length++[0]) (by simp;omega) (λi hi=>hσ i (by omega)) ?_ ?_ (Fp _ H)
 ·exact(BV h 0).1
 ·exact Fb hp ho h 0 (λi=>by simp) (by simp)
def aQ(fns:List Fd):List (List AV):=fns.map λf=>f.cs.map .p
theorem pG(fns:List Fd):∀x∈aQ fns,af 0 x:=by
 intro x hx;obtain⟨m,_,rfl⟩:=VW.1 hx;simp
theorem eq{n:Nat}{o:AO}(h:okO 0 o):okO n o:=by
 cases o with
 |dead=>trivial
 |sit=>trivial
 |row sz es=>exact λe he=>bj (WA _) _ (h e he)
 |mp es=>exact λe he=>(bj (WA n) [e.2] ⟨h e he,trivial⟩).1
theorem lY(fns:List Fd)(n:Nat):okO n (bR 3 (aQ fns)):=eq (Nc (pG fns))
def exR(l:List Ex):List (List AV):=l.map λe=>e.cs.map .p
theorem dU(l:List Ex):∀x∈exR l,af 0 x:=by
 intro x hx;obtain⟨m,_,rfl⟩:=VW.1 hx;simp
theorem gH{h:List AO}{id:Nat}{l:List Ex}(e:h[id]?=some (bR 4 (exR l))):View h (slE id 4 (exR l)) (exL l):=by
 have hh:exR l=(l.map Ex.cs).map (·.map .p):=by simp[exR]
 rw[hh] at e⊢
 exact PH e (λx hx=>by obtain⟨b,_,rfl⟩:=VW.1 hx;exact b.cs_len)
theorem tg{h:List AO}{id sz:Nat}{r0 r1:List AV}{p0 p1:List PV}(he:h[id]?=some (.row sz [r0,r1]))(l0:p0.length=sz)(l1:p1.length=sz)(h0:∀(j:Nat) (q:PV) (a:AV),p0[j]?=some q->r0[j]?=some a->View h a q)(h1:∀(j:Nat) (q:PV) (a:AV),p1[j]?=some q->r1[j]?=some a->View h a q):View h (.sl id sz 0 2) (.lst sz [p0,p1]):=by
 refine View.sl id sz 0 _ [p0,p1] he (by simp) (by simp[l0,l1]) λi j e q e' a a1 a2 a3 a4=>?_
 rw[WC] at a3
 match i,a1,a3 with
 |0,a1,a3=>cases a1;cases a3;exact h0 j q a a2 a4
 |1,a1,a3=>cases a1;cases a3;exact h1 j q a a2 a4
 |i+2,a1,a3=>simp at a1
def smR(l:List Sm):List (List AV):=l.map λs=>s.cs.map .p
theorem dX(l:List Sm):∀x∈smR l,af 0 x:=by
 intro x hx;obtain⟨m,_,rfl⟩:=VW.1 hx;simp
theorem fY(l:List Sm):(smR l).length=l.length:=by simp[smR]
theorem Db(a b:List Sm):smR (a++b)=smR a++smR b:=by simp[smR]
theorem bm{h:List AO}{id sz:Nat}{r0:List AV}{p0:List PV}(he:h[id]?=some (.row sz [r0]))(l0:p0.length=sz)(h0:∀(j:Nat) (q:PV) (a:AV),p0[j]?=some q->r0[j]?=some a->View h a q):View h (.sl id sz 0 1) (.lst sz [p0]):=by
 refine View.sl id sz 0 _ [p0] he (by simp) (by simp[l0]) λi j e q e' a a1 a2 a3 a4=>?_
 rw[WC] at a3
 match i,a1,a3 with
 |0,a1,a3=>cases a1;cases a3;exact h0 j q a a2 a4
 |i+1,a1,a3=>simp at a1
theorem fW{h:List AO}{o n:Int}{w:List UInt8}{k:List Ex}{K:AV}(hk:View h K (exL k)):∀(j:Nat) (q:PV) (a:AV),(Ex.mk o n w k).cs[j]?=some q->[AV.p (.int .i64 o),.p (.int .i64 n),.p (.str w),K][j]?=some a->View h a q:=by
 intro j q a e1 e2
 have hc:(Ex.mk o n w k).cs=[.int .i64 o,.int .i64 n,.str w,exL k]:=Ex.cs_eq _
 rw[hc] at e1
 match j,e1,e2 with
 |0,e1,e2=>cases e1;cases e2;exact .p _
 |1,e1,e2=>cases e1;cases e2;exact .p _
 |2,e1,e2=>cases e1;cases e2;exact .p _
 |3,e1,e2=>cases e1;cases e2;exact hk
 |j+4,e1,e2=>simp at e1
theorem lb{h:List AO}{id:Nat}{l:List Sm}(e:h[id]?=some (.row 5 (smR l))):View h (.sl id 5 0 l.length) (smL l):=by
 have:=jw (h:=h) (id:=id) (sz:=5) (n:=l.length) (ls:=l.map Sm.cs) (by rw[e,smR];simp) (by simp) (λx hx=>by obtain⟨b,_,rfl⟩:=VW.1 hx;exact b.cs_len)
 exact this
theorem bT{h:List AO}{o:Int}{w:List UInt8}{a:List Ex}{bd el:List Sm}{A B E:AV}(hA:View h A (exL a))(hB:View h B (smL bd))(hE:View h E (smL el)):∀(j:Nat) (q:PV) (x:AV),(Sm.mk o w a bd el).cs[j]?=some q->[AV.p (.int .i64 o),.p (.str w),A,B,E][j]?=some x->View h x q:=by
 intro j q x e1 e2
 have hc:(Sm.mk o w a bd el).cs=[.int .i64 o,.str w,exL a,smL bd,smL el]:=Sm.cs_eq _
 rw[hc] at e1
 match j,e1,e2 with
 |0,e1,e2=>cases e1;cases e2;exact .p _
 |1,e1,e2=>cases e1;cases e2;exact .p _
 |2,e1,e2=>cases e1;cases e2;exact hA
 |3,e1,e2=>cases e1;cases e2;exact hB
 |4,e1,e2=>cases e1;cases e2;exact hE
 |j+5,e1,e2=>simp at e1
theorem gf{n:Nat}:∀o∈([]:List AO),okO n o:=λo h=>by cases h
theorem aj{n:Nat}{a:AO}{l:List AO}(h:okO n a)(r:∀o∈l,okO n o):∀o∈a::l,okO n o:=λo ho=>by
 rcases VL.1 ho with rfl|ho
 ·exact h
 ·exact r o ho
end
section
theorem ec{α:Type}{p:α->Bool}{xs:List α}{i:Nat}(h:i<xs.length):(xs.take (i+1)).all p=((xs.take i).all p&&p xs[i]):=by
 rw[an h,List.all_append];simp
theorem nF{α:Type}{p:α->Bool}{xs:List α}{i:Nat}(h:i<xs.length)(hp:p xs[i]=false):xs.all p=false:=
 List.all_eq_false.2 ⟨_,VT h,by simp[hp]⟩
theorem gS{α:Type}{p:α->Bool}{xs:List α}{i:Nat}(h:xs.length<=i)(ht:(xs.take i).all p=true):xs.all p=true:=by
 rwa[VE h] at ht
def rP:AK:=qe [wG 2 4 0,xo] (yn [wQ 10 2,qv 11 10,xr 12 jp 11,qg 9 12,wN 13 0 9,wN 14 1 9,qg 5 13,x7 14] [xj 15,qy 16 .lss 15 1,qg 17 16,xE 18 17 0 2,xA 19 17 18,qL 20 17 (x9 (xN 19 (qj 1) (qj 13))),qL 21 17 (wq 20),xW 22 17 21,qg 23 22,xE 24 23 3 2,xA 25 23 24,qL 26 23 (wd 25),xy 27 23 5,xy 28 23 6,qL 29 23 (x9 (xP 26 27 28)),qL 30 23 (wq 29),xW 31 23 30] 31 [xo] (ym [wQ 32 2,qv 33 32,wb 34 33 2,qg 35 34,xE 36 35 0 2,xA 37 35 36,yu 38 35 .eql 37 13,xW 39 35 38,qg 7 39] (.cut (wh [yl 40,xv 41 2,qv 42 41,xr 43 cC 42,qb 44 (.beq true (.t 40) (.t 43)),qg 45 44,xy 46 45 7,qL 47 45 (wq 46),xy 48 45 47,wY 49 48 2 2,wU 50 48 49,qK 51 48 (yp .neq 50 (.c qF)),qL 52 45 (qQ 48 (.t 51) qU),xW 53 45 52,qg 54 53,xE 55 54 1 2,xA 56 54 55,qL 57 54 (x9 (xN 56 yi (qj 255))),qL 58 54 (wq 57),xW 59 54 58,qg 60 59,xE 61 60 0 2,xA 62 60 61,yu 63 60 .neq 62 1,xy 64 60 63,wY 65 64 1 2,wU 66 64 65,xM 67 64 .neq 66 0,qL 68 60 (qQ 64 (.t 67) qU),xW 69 60 68] 69 [xo]) (xZ (xX [wT 8] 0 [ye 70,xV 71 2,qv 72 71,wt 73 72,xb 74 70 73] 74 wA 1 (wh [xV 77 2,qv 78 77,ye 79,wB 80 4 78 79,yf 81 80,xj 82,xG 83 82 1,wJ 84 fT 81 83,xn 85 84] 85 [xo]) [ye 75,x8 76 75,qg 8 76]) [qd 4 wz]))))
theorem Bl:AK.whole rP=FK.ak jk:=rfl
def sb:AK:=qe [wG 2 5 0,xo] (.cut (wh [xj 7,qy 8 .lss 7 1,ye 9,xE 10 9 0 2,xA 11 9 10,qL 12 9 (x9 (xN 11 (qj 1) (qj 8))),qL 13 9 (wq 12),xW 14 9 13,qg 15 14,xE 16 15 2 2,xE 19 15 0 2,xA 17 15 16,qL 18 15 (wd 17),xA 20 15 19,qL 21 15 (.qcall jd (xq 20)),qL 22 15 (ql .neq 18 (.t 21)),xW 23 15 22] 23 [xo]) (ym [wQ 24 2,qv 25 24,wb 26 25 1,qg 27 26,xE 28 27 0 2,xA 29 27 28,yu 30 27 .eql 29 2,xW 31 27 30,qg 5 31] (.cut (wh [xu 32,xI 33 2,qv 34 33,xr 35 cC 34,qb 36 (.beq true (.t 32) (.t 35)),qg 37 36,xy 38 37 5,qL 39 37 (wq 38),xy 40 37 39,wY 41 40 1 2,wU 42 40 41,qK 43 40 (yp .neq 42 (.c qF)),qL 44 37 (qQ 40 (.t 43) qU),xW 45 37 44] 45 [xo]) (.seq (xX [wT 6] 0 [yx 46,xv 47 2,qv 48 47,wt 49 48,xb 50 46 49] 50 wA 1 (wh [xv 53 2,qv 54 53,yx 55,wB 56 4 54 55,yf 57 56,xr 58 fc 57,xn 59 58] 59 [xo]) [yx 51,x8 52 51,x7 52]) (.cut (wh [wQ 60 2,qv 61 60,wb 62 61 8,qg 63 62,wY 64 63 2 2,wU 65 63 64,qK 66 63 (qW 4 65 yi),wY 67 63 0 66,wU 68 63 67,xM 69 63 .neq 68 13,xT 70 63 69] 70 [xo]) (.cut (wh [qq 71 4 2,qv 72 71,wt 73 72,qy 74 .gtr 73 0,qg 75 74,wY 76 75 0 2,wU 77 75 76,xM 78 75 .neq 77 5,xT 79 75 78,qg 80 79,xE 81 80 3 2,xA 82 80 81,qL 83 80 (wd 82),yu 84 80 .gtr 83 0,xy 85 80 84,wY 86 85 0 2,wU 87 85 86,xM 88 85 .neq 87 5,qL 89 80 (qQ 85 (.t 88) qU),xy 90 80 89,wY 91 90 0 2,wU 92 90 91,xM 93 90 .neq 92 6,qL 94 80 (qQ 90 (.t 93) qU),xW 95 80 94] 95 [xo]) (qA [xV 96 2,qv 97 96,xj 98,xG 99 98 1,wJ 100 bY 97 99,qg 101 100,wY 102 101 4 2,wU 103 101 102,xC 104 101 1,xM 105 101 .sub 104 1,qK 106 101 (xR bY 103 (.t 105)),xT 107 101 106,qg 4 107])))))))
theorem Bt:AK.whole sb=FK.ak jm:=rfl
variable (G:al)
theorem sw(n lo hi:Int):VF Tryz.prog G js [.p (.int .i64 n),.p (.int .i64 lo),.p (.int .i64 hi)] (.p (.bool (inR n lo hi))):=by
 refine AC.go FA ?_
 by_cases h:lo<=n
 ·simp-implicitDefEqProofs[oY,h,inR]
 ·simp-implicitDefEqProofs[oY,h,inR]
theorem DQ(op:Int):VF Tryz.prog G jp [.p (.int .i64 op)] (.tup [.p (.int .i64 (loK op)),.p (.int .i64 (hiK op))]):=by
 refine AC.go By ?_
 by_cases h1:op=1
 ·subst h1;simp-implicitDefEqProofs[dg,loK,hiK]
 by_cases h2:op=2
 ·subst h2;simp-implicitDefEqProofs[dg,loK,hiK]
 by_cases h3:op=11
 ·subst h3;simp-implicitDefEqProofs[dg,loK,hiK]
 by_cases h4:op=12
 ·subst h4;simp-implicitDefEqProofs[dg,loK,hiK]
 by_cases h5:op=13
 ·subst h5;simp-implicitDefEqProofs[dg,loK,hiK]
 simp-implicitDefEqProofs[dg,loK,hiK,h1,h2,h3,h4,h5]
theorem LX:∀(d:Nat) (e:Ex),e.sz<=1099511627776->d<=1000->VF Tryz.prog G fT [.agg (e.cs.map .p),.p (.int .i64 d)] (.p (.bool (bU d e))):=by
 intro d
 induction d with
 |zero=>
  intro e he _
  refine AC.go sh ?_
  simp-implicitDefEqProofs[jk,Ex.cs_eq]
  refine(DQ G _).use ?_
  simp-implicitDefEqProofs[bU]
 |succ d ih=>
  intro e he hd
  have hsz:=e.sz_eq
  have hkl:=bG e.kids
  refine AC.goK sh Bl ?_
  have hd1:¬(d:Int)+1<1:=by omega
  have hw:IntKind.i64.wrap ((d:Int)+1-1)=(d:Int):=by rw[show(d:Int)+1-1=d by omega];exact ab (by omega) (by omega)
  have hw':IntKind.i64.wrap (d:Int)=(d:Int):=ab (by omega) (by omega)
  have hxl:∀l,exL l= .lst 4 (l.map Ex.cs):=λ_=>rfl
  simp-implicitDefEqProofs[rP,jk,Ex.cs_eq]
  refine(DQ G _).use ?_
  simp-implicitDefEqProofs[hd1]
  refine(sw G _ _ _).use ?_
  by_cases h1:inR e.op 1 13=true
  case neg=>simp-implicitDefEqProofs[h1,bU,lA]
  simp-implicitDefEqProofs[h1,hxl]
  refine(sw G _ _ _).use ?_
  by_cases h2:inR e.kids.length (loK e.op) (hiK e.op)=true
  case neg=>simp-implicitDefEqProofs[h2,bU,lA]
  simp-implicitDefEqProofs[h2]
  refine lI (ah 86 [(1,.p (.int .i64 (d+1))),(2,.ptr 0 4 0 0),(7,.p (.bool (Gh e.op)))]) [.row 4 [[.p (.int .i64 e.op),.p (.int .i64 e.n),.p (.str e.name),.p (.lst 4 (e.kids.map Ex.cs))]]] ?_ ?_
  ·by_cases o2:e.op=2
   ·simp-implicitDefEqProofs[o2]
    exact ae (by simp) (by simp[okO]) (by simp[below,Gh])
   ·by_cases o13:e.op=13
    ·simp-implicitDefEqProofs[o13]
     exact ae (by simp) (by simp[okO]) (by simp[below,Gh])
    ·simp-implicitDefEqProofs[o2,o13]
     exact ae (by simp) (by simp[okO]) (by simp[below,Gh,o2,o13])
  have hn:e.name.length<=140737488355328:=by omega
  refine vp (λ_:Unit=>ah 86 [(1,.p (.int .i64 ((d:Int)+1))),(2,.ptr 0 4 0 0)]) (λ_=>[.row 4 [[.p (.int .i64 e.op),.p (.int .i64 e.n),.p (.str e.name),.p (.lst 4 (e.kids.map Ex.cs))]]]) (λ_=>lA e=true) ?_ ?_
  ·simp-implicitDefEqProofs[]
   refine(td G _ hn).use ?_
   simp-implicitDefEqProofs[]
   repeat' first
    |(refine(sw G _ _ _).use ?_;simp-implicitDefEqProofs[])
    |(refine bh (λhc=>?_) (λhc=>?_)<;>simp-implicitDefEqProofs[hc])
   all_goals first
    |exact⟨by simp_all [lA],ae (by simp) (by simp[okO]) (by simp[below])⟩
    |simp_all [bU,lA]
  intro _ hh
  simp-implicitDefEqProofs[]
  refine aN (λi:Nat=>ah 86 [(1,.p (.int .i64 ((d:Int)+1))),(2,.ptr 0 4 0 0),(8,.p (.int .i64 i))]) (λ_=>[.row 4 [[.p (.int .i64 e.op),.p (.int .i64 e.n),.p (.str e.name),.p (.lst 4 (e.kids.map Ex.cs))]]])
   (λi=>i<=e.kids.length/\(e.kids.take i).all (bU d)=true) (λi=>e.kids.length-i) 0 (by simp) (ae (by simp) (by simp[okO]) (by simp[below])) ?_
  intro i ⟨hi,hall⟩
  simp-implicitDefEqProofs[]
  refine bh (λh=>?_) (λh=>?_)
  ·simp at h
   have hg:=VA h
   have hks:=bQ (VT h)
   simp-implicitDefEqProofs[hg,hw']
   refine(ih e.kids[i] (by omega) (by omega)).use ?_
   by_cases hk:bU d e.kids[i]=true
   ·simp-implicitDefEqProofs[hk]
    refine⟨i+1,⟨h,by rw[←VH,ec h,hall,hk];rfl⟩,by omega,ae (by simp) (by simp[okO]) ?_⟩
    simp[below,w1 (i:=i) (by omega)]
   ·have hk':bU d e.kids[i]=false:=by simpa using hk
    have hf:bU (d+1) e=false:=by simp only[bU,nF h hk',Bool.and_false]
    simp-implicitDefEqProofs[hk',hf]
  ·simp at h
   have hf:bU (d+1) e=true:=by simp only[bU,gS h hall,hh,Bool.and_self]
   simp-implicitDefEqProofs[hf]
theorem Ju{l:List Ex}{i:Nat}(h:i<l.length):fz (l.take (i+1))=fz (l.take i)+l[i].parts:=by
 rw[an h,jz];simp[fz]
theorem Cx(l:List Ex)(i:Nat):fz (l.take i)<=fz l:=by
 have:=jz (l.take i) (l.drop i)
 rw[Wu] at this
 omega
theorem Jn:∀(k:Nat) (e:Ex),e.sz<=k->k<=1099511627776->VF Tryz.prog G gV [.agg (e.cs.map .p)] (.p (.int .i64 e.parts)):=by
 intro k
 induction k with
 |zero=>intro e he;have:=e.sz_eq;omega
 |succ k ih=>
  intro e he hk
  have hsz:=e.sz_eq
  have hkl:=bG e.kids
  have hpe:=e.parts_eq
  have hpz:=Da e.kids
  refine AC.go zF ?_
  have hxl:∀l,exL l= .lst 4 (l.map Ex.cs):=λ_=>rfl
  simp-implicitDefEqProofs[ph,Ex.cs_eq,hxl]
  refine aN (λi:Nat=>ah 21 [(1,.ptr 0 4 0 0),(3,.p (.int .i64 ((1+fz (e.kids.take i):Nat):Int))),(4,.p (.int .i64 i))]) (λ_=>[.row 4 [[.p (.int .i64 e.op),.p (.int .i64 e.n),.p (.str e.name),.p (.lst 4 (e.kids.map Ex.cs))]]])
   (λi=>i<=e.kids.length) (λi=>e.kids.length-i) 0 (by simp) (ae (by simp) (by simp[okO]) (by simp[below,fz])) ?_
  intro i hi
  simp-implicitDefEqProofs[]
  refine bh (λh=>?_) (λh=>?_)
  ·simp at h
   have hg:=VA h
   have hks:=bQ (VT h)
   have hps:=Ju h
   have hple:=Cx e.kids (i+1)
   simp-implicitDefEqProofs[hg]
   refine(ih e.kids[i] (by omega) (by omega)).use ?_
   have hw:IntKind.i64.wrap (1+(fz (e.kids.take i):Int)+(e.kids[i].parts:Int))=((1+fz (e.kids.take (i+1)):Nat):Int):=by rw[ab (by omega) (by omega)];omega
   simp-implicitDefEqProofs[hw]
   exact⟨i+1,h,by omega,ae (by simp) (by simp[okO]) (by simp[below,w1 (i:=i) (by omega)])⟩
  ·simp at h
   rw[VE h]
   simp-implicitDefEqProofs[]
   omega
theorem ED(e:Ex)(he:e.sz<=1099511627776):VF Tryz.prog G fc [.agg (e.cs.map .p)] (.p (.bool (kw e))):=by
 refine AC.go vj ?_
 simp-implicitDefEqProofs[mR]
 have h6:=LX G 6 e he (by omega)
 refine h6.use ?_
 by_cases h:bU 6 e=true
 ·simp-implicitDefEqProofs[h]
  refine(Jn G _ e (VM _) he).use ?_
  simp-implicitDefEqProofs[kw,h]
  omega
 ·simp-implicitDefEqProofs[h,kw]
theorem KJ(op:Int):VF Tryz.prog G jd [.p (.int .i64 op)] (.p (.int .i64 (gz op))):=by
 refine AC.go Br ?_
 by_cases h:op=4
 ·simp-implicitDefEqProofs[mN,h,gz]
 ·simp-implicitDefEqProofs[mN,h,gz]
theorem vG(d:Nat)(hd:d<=1000)(hs:∀s:Sm,s.sz<=1099511627776->VF Tryz.prog G jn [.agg (s.cs.map .p),.p (.int .i64 d)] (.p (.bool (az d s))))(l:List Sm)(hl:aC l<=1099511627776):
 VF Tryz.prog G bY [.p (smL l),.p (.int .i64 d)] (.p (.bool (l.all (az d)))):=by
 refine AC.go zO ?_
 have hll:=cr l
 have hsl:∀l,smL l= .lst 5 (l.map Sm.cs):=λ_=>rfl
 simp-implicitDefEqProofs[oG]
 refine aN (λi:Nat=>ah 19 [(0,.p (smL l)),(1,.p (.int .i64 d)),(5,.p (.int .i64 i))]) (λ_=>[]) (λi=>i<=l.length/\(l.take i).all (az d)=true) (λi=>l.length-i) 0 (by simp) (bX rfl (by simp[below,hsl])) ?_
 intro i ⟨hi,hall⟩
 simp-implicitDefEqProofs[hsl]
 refine bh (λh=>?_) (λh=>?_)
 ·simp at h
  have hg:=VA h
  have hks:=dT (VT h)
  simp-implicitDefEqProofs[hg]
  refine(hs l[i] (by omega)).use ?_
  by_cases hk:az d l[i]=true
  ·simp-implicitDefEqProofs[hk]
   exact⟨i+1,⟨h,by rw[←VH,ec h,hall,hk];rfl⟩,by omega,bX rfl (by simp[below,hsl,w1 (i:=i) (by omega)])⟩
  ·have hk':az d l[i]=false:=by simpa using hk
   have hf:=nF h hk'
   simp-implicitDefEqProofs[hk',hf]
 ·simp at h
  have hf:=gS h hall
  simp-implicitDefEqProofs[hf]
theorem KQ:∀(d:Nat),d<=1000->∀s:Sm,s.sz<=1099511627776->VF Tryz.prog G jn [.agg (s.cs.map .p),.p (.int .i64 d)] (.p (.bool (az d s))):=by
 intro d
 induction d with
 |zero=>
  intro _ s _
  refine AC.go se ?_
  simp-implicitDefEqProofs[jm,Sm.cs_eq,az]
 |succ d ih=>
  intro hd s he
  have hsz:=s.sz_eq
  have hal:=bG s.args
  have hbl:=cr s.body
  have hel:=cr s.els
  have ihs:=vG G d (by omega) (ih (by omega))
  refine AC.goK se Bt ?_
  have hd1:¬(d:Int)+1<1:=by omega
  have hw':IntKind.i64.wrap (d:Int)=(d:Int):=ab (by omega) (by omega)
  have hxl:∀l,exL l= .lst 4 (l.map Ex.cs):=λ_=>rfl
  have hsl:∀l,smL l= .lst 5 (l.map Sm.cs):=λ_=>rfl
  have hn:s.name.length<=140737488355328:=by omega
  simp-implicitDefEqProofs[sb,jm,Sm.cs_eq]
  generalize hH:[AO.row 5 [[AV.p (.int .i64 s.op),.p (.str s.name),.p (exL s.args),.p (smL s.body),.p (smL s.els)]]]=H
  have hho:∀o∈H,okO H.length o:=by rw[←hH];simp[okO]
  have hhl:0<H.length:=by rw[←hH];simp
  have hh0:H[0]?=some (AO.row 5 [[AV.p (.int .i64 s.op),.p (.str s.name),.p (exL s.args),.p (smL s.body),.p (smL s.els)]]):=by rw[←hH];rfl
  have hhL:H.length=1:=by rw[←hH];rfl
  refine vp (λ_:Unit=>ah 108 [(1,.p (.int .i64 ((d:Int)+1))),(2,.ptr 0 5 0 0)]) (λ_=>H) (λ_=>inR s.op 1 8=true/\s.args.length=gz s.op) ?_ ?_
  ·simp-implicitDefEqProofs[hd1,hh0]
   refine(sw G _ _ _).use ?_
   by_cases h1:inR s.op 1 8=true
   case neg=>simp-implicitDefEqProofs[h1,az,gP]
   simp-implicitDefEqProofs[h1,hh0,hxl]
   refine(KJ G _).useQ ?_
   by_cases h2:s.args.length=gz s.op
   ·simp-implicitDefEqProofs[h2]
    exact ae (by omega) hho (by simp[below,hhl])
   ·have h2':¬(s.args.length:Int)=(gz s.op:Int):=by omega
    simp-implicitDefEqProofs[h2,h2',az,gP]
  intro _ ⟨h1,h2⟩
  refine vp (λ_:Unit=>ah 108 [(1,.p (.int .i64 ((d:Int)+1))),(2,.ptr 0 5 0 0),(5,.p (.bool (cQ s.op)))]) (λ_=>H) (λ_=>True) ?_ ?_
  ·simp-implicitDefEqProofs[hh0]
   by_cases o1:s.op=1
   ·simp-implicitDefEqProofs[o1,hh0,cQ]
    exact ae (by omega) hho (by simp[below,hhl])
   ·by_cases o2:s.op=2
    ·simp-implicitDefEqProofs[o2,hh0,cQ]
     exact ae (by omega) hho (by simp[below,hhl])
    ·simp-implicitDefEqProofs[o1,o2,hh0,cQ]
     exact ae (by omega) hho (by simp[below,hhl])
  intro _ _
  refine vp (λ_:Unit=>ah 108 [(1,.p (.int .i64 ((d:Int)+1))),(2,.ptr 0 5 0 0)]) (λ_=>H) (λ_=>(cQ s.op==aG s.name)=true/\(cQ s.op||decide (s.name=[]))=true) ?_ ?_
  ·simp-implicitDefEqProofs[hh0]
   refine(td G _ hn).use ?_
   simp-implicitDefEqProofs[hh0]
   repeat' first
    |(refine bh (λhc=>?_) (λhc=>?_)<;>simp-implicitDefEqProofs[hc,hh0])
   all_goals first
    |exact ae (by omega) hho (by simp[below,hhl])
    |exact⟨by simp_all,by simp_all,ae (by omega) hho (by simp[below,hhl])⟩
    |exact⟨by simp_all,ae (by omega) hho (by simp[below,hhl])⟩
    |(simp_all [az,gP];done)
  intro _ ⟨h3,h4⟩
  simp-implicitDefEqProofs[]
  refine aN (λi:Nat=>ah 108 [(1,.p (.int .i64 ((d:Int)+1))),(2,.ptr 0 5 0 0),(6,.p (.int .i64 i))]) (λ_=>H) (λi=>i<=s.args.length/\(s.args.take i).all kw=true) (λi=>s.args.length-i) 0 (by simp) (ae (by omega) hho (by simp[below,hhl])) ?_
  intro i ⟨hi,hall⟩
  simp-implicitDefEqProofs[hh0,hxl]
  refine bh (λh=>?_) (λh=>?_)
  ·simp at h
   have hg:=VA h
   have hks:=bQ (VT h)
   simp-implicitDefEqProofs[hg,hh0,hxl]
   refine(ED G s.args[i] (by omega)).use ?_
   by_cases hk:kw s.args[i]=true
   ·simp-implicitDefEqProofs[hk]
    exact⟨i+1,⟨h,by rw[←VH,ec h,hall,hk];rfl⟩,by omega,ae (by omega) hho (by simp[below,hhl,w1 (i:=i) (by omega)])⟩
   ·have hk':kw s.args[i]=false:=by simpa using hk
    have hf:az (d+1) s=false:=by simp only[az,gP,nF h hk',Bool.and_false,Bool.false_and]
    simp-implicitDefEqProofs[hk',hf]
  simp at h
  have h5:s.args.all kw=true:=gS h hall
  have hlen1:1<=s.args.length:=by rw[h2];unfold gz;split<;>omega
  obtain⟨a0,ar,ha⟩:∃a r,s.args=a::r:=by
   cases hh:s.args with
   |nil=>rw[hh] at hlen1;simp at hlen1
   |cons a r=>exact⟨a,r,rfl⟩
  have ha0:s.args[0]?=some a0:=by rw[ha];rfl
  refine vp (λ_:Unit=>ah 108 [(1,.p (.int .i64 ((d:Int)+1))),(2,.ptr 0 5 0 0)]) (λ_=>H) (λ_=>(!decide (s.op=8)||decide (a0.op=13))=true) ?_ ?_
  ·simp-implicitDefEqProofs[hh0]
   by_cases o8:s.op=8
   ·have hae:=a0.cs_eq
    simp-implicitDefEqProofs[o8,hh0,hxl,ha0,hae]
    refine bh (λhc=>?_) (λhc=>?_)
    ·simp at hc
     have hf:az (d+1) s=false:=by simp[az,gP,o8,ha,hc]
     simp-implicitDefEqProofs[hf]
    ·simp at hc
     simp-implicitDefEqProofs[hc]
     exact ae (by omega) hho (by simp[below,hhl])
   ·simp-implicitDefEqProofs[o8,hh0]
    exact ae (by omega) hho (by simp[below,hhl])
  intro _ h6
  refine vp (λ_:Unit=>ah 108 [(1,.p (.int .i64 ((d:Int)+1))),(2,.ptr 0 5 0 0)]) (λ_=>H) (λ_=>(s.els.isEmpty||decide (s.op=5))=true/\(s.body.isEmpty||decide (s.op=5)||decide (s.op=6))=true) ?_ ?_
  ·have hf:¬((s.els.isEmpty||decide (s.op=5))=true/\(s.body.isEmpty||decide (s.op=5)||decide (s.op=6))=true)->az (d+1) s=false:=λh=>by
    have:gP s=false:=by
     cases hx:gP s with
     |false=>rfl
     |true=>refine absurd ?_ h;simp only[gP,VS] at hx;exact⟨hx.1.2,hx.2⟩
    simp[az,this]
   have pe:¬s.els=[]->0<s.els.length:=List.length_pos_iff.2
   have pb:¬s.body=[]->0<s.body.length:=List.length_pos_iff.2
   by_cases o5:s.op=5
   ·simp-implicitDefEqProofs[hh0,hsl,o5]
    repeat' first
     |(refine bh (λhc=>?_) (λhc=>?_)<;>simp-implicitDefEqProofs[hc,hh0,hsl,o5])
    all_goals exact ae (by omega) hho (by simp[below,hhl])
   by_cases e1:s.els=[]
   case neg=>
    have hf:=hf (by simp[e1,o5])
    have:=pe e1
    simp-implicitDefEqProofs[hh0,hsl,o5,e1,this,hf]
   by_cases e2:s.body=[]
   ·simp-implicitDefEqProofs[hh0,hsl,o5,e1,e2]
    exact ae (by omega) hho (by simp[below,hhl])
   have:=pb e2
   by_cases o6:s.op=6
   ·simp-implicitDefEqProofs[hh0,hsl,o6,e1,e2,this]
    exact ae (by omega) hho (by simp[below,hhl])
   ·have hf:=hf (by simp[e2,o5,o6])
    simp-implicitDefEqProofs[hh0,hsl,o5,o6,e1,e2,this,hf]
  intro _ ⟨h7,h8⟩
  have hm:(match s.args with|a::_=>decide (a.op=13)|[]=>false)=decide (a0.op=13):=by rw[ha]
  have hhd:gP s=true:=by
   have h6':(!decide (s.op=8)||(match s.args with|a::_=>decide (a.op=13)|[]=>false))=true:=by rw[hm];exact h6
   have h2':decide (s.args.length=gz s.op)=true:=by simp[h2]
   simp only[gP,h1,h2',h3,h4,h5,h7,h8,Bool.and_self,Bool.and_true,Bool.true_and]
   exact h6'
  simp-implicitDefEqProofs[hh0,hw']
  refine(ihs s.body (by omega)).use ?_
  by_cases hB:s.body.all (az d)=true
  ·simp only[hB]
   simp-implicitDefEqProofs[hh0,hw']
   refine(ihs s.els (by omega)).use ?_
   have hf:az (d+1) s=s.els.all (az d):=by simp only[az,hhd,hB,Bool.true_and]
   rw[hf]
   generalize s.els.all (az d)=w
   simp-implicitDefEqProofs[]
  ·have hB':s.body.all (az d)=false:=by simpa using hB
   have hf:az (d+1) s=false:=by simp only[az,hB',Bool.and_false,Bool.false_and]
   simp only[hB',hf]
   simp-implicitDefEqProofs[]
theorem Jg(d:Nat)(hd:d<=1000)(l:List Sm)(hl:aC l<=1099511627776):VF Tryz.prog G bY [.p (smL l),.p (.int .i64 d)] (.p (.bool (l.all (az d)))):=
 vG G d hd (KQ G d hd) l hl
theorem QF(f:Fd)(hf:f.sz<=1099511627776):VF Tryz.prog G oy [.agg (f.cs.map .p)] (.p (.bool (iL f))):=by
 refine AC.go Fi ?_
 have hsz:f.sz=1+f.name.length+(f.params.length+(f.params.map List.length).sum)+aC f.body:=rfl
 have hps:∀x∈f.params,x.length<=(f.params.map List.length).sum:=λx hx=>by
  have key:∀l:List (List UInt8),x∈l->x.length<=(l.map List.length).sum:=by
   intro l
   induction l with
   |nil=>intro h;cases h
   |cons y r ih=>
    intro h
    simp only[VY,List.sum_cons]
    rcases VL.1 h with rfl|h
    ·omega
    ·have:=ih h;omega
  exact key _ hx
 have hst:am f.params= .lst 1 (f.params.map λw=>[.str w]):=rfl
 have h4:=Jg G 4 (by omega) f.body (by omega)
 simp-implicitDefEqProofs[vI,Fd.cs,hst]
 refine aN (λi:Nat=>ah 32 [(1,.ptr 0 3 0 0),(3,.p (.int .i64 i))]) (λ_=>[.row 3 [[.p (.str f.name),.p (am f.params),.p (smL f.body)]]]) (λi=>i<=f.params.length/\(f.params.take i).all aG=true) (λi=>f.params.length-i) 0 (by simp) (ae (by simp) (by simp[okO]) (by simp[below])) ?_
 intro i ⟨hi,hall⟩
 simp-implicitDefEqProofs[hst]
 refine bh (λh=>?_) (λh=>?_)
 ·simp at h
  have hg:=VA h
  have hl:=hps _ (VT h)
  simp-implicitDefEqProofs[hg]
  refine(td G _ (by omega)).use ?_
  by_cases hk:aG f.params[i]=true
  ·simp-implicitDefEqProofs[hk]
   exact⟨i+1,⟨h,by rw[←VH,ec h,hall,hk];rfl⟩,by omega,ae (by simp) (by simp[okO]) (by simp[below,w1 (i:=i) (by omega)])⟩
  ·have hk':aG f.params[i]=false:=by simpa using hk
   have hff:iL f=false:=by simp only[iL,nF h hk',Bool.false_and]
   simp-implicitDefEqProofs[hk',hff]
 ·simp at h
  have h1:f.params.all aG=true:=gS h hall
  simp-implicitDefEqProofs[]
  refine(td G _ (by omega)).use ?_
  by_cases h2:aG f.name=true
  case neg=>
   have h2':aG f.name=false:=by simpa using h2
   simp-implicitDefEqProofs[h2',iL]
  simp-implicitDefEqProofs[h2]
  by_cases h3:f.params.length<=3
  case neg=>
   have h3':¬(f.params.length:Int)<=3:=by omega
   simp-implicitDefEqProofs[h3,h3',iL]
  have h3':(f.params.length:Int)<=3:=by omega
  simp-implicitDefEqProofs[h3']
  refine h4.use ?_
  have hff:iL f=f.body.all (az 4):=by simp only[iL,h1,h2,h3,decide_true,Bool.true_and]
  rw[hff]
  generalize f.body.all (az 4)=w
  simp-implicitDefEqProofs[]
theorem JP{l:List Sm}{i:Nat}(h:i<l.length):dr (l.take (i+1))=dr (l.take i)+l[i].cnt:=by
 rw[an h,ow];simp[dr]
theorem uD(l:List Sm)(i:Nat):dr (l.take i)<=dr l:=by
 have:=ow (l.take i) (l.drop i)
 rw[Wu] at this
 omega
def lU(l:List Sm)(i:Nat):Nat:=l.length+((l.take i).map λs=>dr s.body+dr s.els).sum
theorem Gt(l:List Sm):lU l 0=l.length:=by simp[lU]
theorem AJ{l:List Sm}{i:Nat}(h:i<l.length):lU l (i+1)=lU l i+dr l[i].body+dr l[i].els:=by
 rw[lU,lU,an h,List.map_append,List.sum_append]
 simp only[VY,List.map_nil,List.sum_cons,List.sum_nil]
 omega
theorem uW(l:List Sm):∀i,i<=l.length->dr (l.take i)+l.length=i+lU l i
 |0,_=>by simp[dr,lU]
 |i+1,h=>by
  have:=uW l i (by omega)
  rw[JP (by omega),AJ (by omega),(l[i]'(by omega)).cnt_eq]
  omega
theorem II:∀(k:Nat) (l:List Sm),aC l<=k->k<=1099511627776->VF Tryz.prog G eK [.p (smL l)] (.p (.int .i64 (dr l))):=by
 intro k
 induction k with
 |zero=>
  intro l hl _
  have:l=[]:=by
   cases l with
   |nil=>rfl
   |cons s r=>have:=s.sz_eq;simp only[aC] at hl;omega
  subst this
  refine AC.go oH ?_
  have hsl:smL []= .lst 5 []:=rfl
  simp-implicitDefEqProofs[lE,hsl]
  refine aN (λ_:Unit=>ah 29 [(0,.p (.lst 5 [])),(3,.p (.int .i64 0)),(4,.p (.int .i64 0))]) (λ_=>[]) (λ_=>True) (λ_=>0) () trivial (bX rfl (by simp[below])) ?_
  intro _ _
  simp-implicitDefEqProofs[dr]
 |succ k ih=>
  intro l hl hk
  have hll:=cr l
  have hnz:=pF l
  refine AC.go oH ?_
  have hsl:∀l,smL l= .lst 5 (l.map Sm.cs):=λ_=>rfl
  simp-implicitDefEqProofs[lE,hsl]
  refine aN (λi:Nat=>ah 29 [(0,.p (smL l)),(3,.p (.int .i64 (lU l i))),(4,.p (.int .i64 i))]) (λ_=>[]) (λi=>i<=l.length) (λi=>l.length-i) 0 (by simp) (bX rfl (by simp[below,hsl,Gt])) ?_
  intro i hi
  have k0:=uW l i hi
  have k2:=uD l i
  simp-implicitDefEqProofs[hsl]
  refine bh (λh=>?_) (λh=>?_)
  ·simp at h
   have hg:=VA h
   have hks:=dT (VT h)
   have hse:=l[i].sz_eq
   have hce:=l[i].cs_eq
   have k1:=AJ h
   have k3:=uW l (i+1) h
   have k4:=uD l (i+1)
   simp-implicitDefEqProofs[hg,hce]
   refine(ih l[i].body (by omega) (by omega)).use ?_
   simp-implicitDefEqProofs[hg,hce]
   refine(ih l[i].els (by omega) (by omega)).use ?_
   have w1':IntKind.i64.wrap ((lU l i:Int)+(dr l[i].body:Int))=(lU l i:Int)+(dr l[i].body:Int):=ab (by omega) (by omega)
   have w2':IntKind.i64.wrap ((lU l i:Int)+(dr l[i].body:Int)+(dr l[i].els:Int))=(lU l (i+1):Int):=by rw[ab (by omega) (by omega)];omega
   simp-implicitDefEqProofs[w1',w2']
   exact⟨i+1,h,by omega,bX rfl (by simp[below,hsl,w1 (i:=i) (by omega)])⟩
  ·simp at h
   rw[VE h] at k0
   have:lU l i=dr l:=by omega
   simp-implicitDefEqProofs[this]
theorem cN:∀{l:List Fd} {f:Fd},f∈l->f.sz<=aH l
 |x::r,e,h=>by
  simp only[aH,VY,List.sum_cons]
  rcases VL.1 h with rfl|h
  ·omega
  ·have:=cN h;simp only[aH] at this;omega
theorem fO:∀l:List Fd,l.length<=aH l
 |[]=>VM _
 |e::r=>by have:=fO r;simp only[aH,VY,List.sum_cons,VV] at this⊢;have:1<=e.sz:=by unfold Fd.sz;omega
           omega
def Bg(l:List Fd)(i:Nat):Nat:=kx (l.take i)
theorem JJ{l:List Fd}{i:Nat}(h:i<l.length):Bg l (i+1)=Bg l i+dr l[i].body:=by
 rw[Bg,Bg,kx,kx,an h,List.map_append,List.sum_append];simp
theorem De:∀l:List Fd,kx l<=aH l
 |[]=>VM _
 |f::r=>by
  have:=De r
  have h2:=pF f.body
  simp only[kx,aH,VY,List.sum_cons] at this⊢
  have:aC f.body<=f.sz:=by unfold Fd.sz;omega
  omega
theorem Pi(l:List Fd)(i:Nat):Bg l i<=aH l:=by
 have h1:=De (l.take i)
 have h2:aH (l.take i)<=aH l:=by
  have:aH l=aH (l.take i)+aH (l.drop i):=by
   rw[←Wu i l,aH,List.map_append,List.sum_append];simp[aH]
  omega
 exact VR h1 h2
theorem Nw(l:List Fd)(hl:aH l<=1099511627776):VF Tryz.prog G nH [.agg [.p (fdL l)]] (.p (.int .i64 (kx l))):=by
 refine AC.go DA ?_
 have hll:=fO l
 have hfl:∀l,fdL l= .lst 3 (l.map Fd.cs):=λ_=>rfl
 simp-implicitDefEqProofs[tD]
 refine aN (λi:Nat=>ah 22 [(1,.ptr 0 1 0 0),(3,.p (.int .i64 (Bg l i))),(4,.p (.int .i64 i))]) (λ_=>[.row 1 [[.p (fdL l)]]]) (λi=>i<=l.length) (λi=>l.length-i) 0 (by simp) (ae (by simp) (by simp[okO]) (by simp[below,Bg,kx])) ?_
 intro i hi
 simp-implicitDefEqProofs[hfl]
 refine bh (λh=>?_) (λh=>?_)
 ·simp at h
  have hg:=VA h
  have hks:=cN (VT h)
  have hse:l[i].sz=1+l[i].name.length+(l[i].params.length+(l[i].params.map List.length).sum)+aC l[i].body:=rfl
  have hce:l[i].cs=[.str l[i].name,am l[i].params,smL l[i].body]:=rfl
  have k1:=JJ h
  have k2:=Pi l (i+1)
  simp-implicitDefEqProofs[hg,hce]
  refine(II G _ l[i].body (VM _) (by omega)).use ?_
  have w1':IntKind.i64.wrap ((Bg l i:Int)+(dr l[i].body:Int))=(Bg l (i+1):Int):=by rw[ab (by omega) (by omega)];omega
  simp-implicitDefEqProofs[w1']
  exact⟨i+1,h,by omega,ae (by simp) (by simp[okO]) (by simp[below,w1 (i:=i) (by omega),hfl])⟩
 ·simp at h
  have:Bg l i=kx l:=by rw[Bg,VE h]
  simp-implicitDefEqProofs[this]
theorem kX(l:List Fd)(hl:aH l<=1099511627776):VF Tryz.prog G dw [.agg [.p (fdL l)]] (.p (.bool (bl l))):=by
 refine AC.go rv ?_
 have hfl:∀l,fdL l= .lst 3 (l.map Fd.cs):=λ_=>rfl
 have hall:=Nw G l hl
 have hll:=fO l
 rw[hfl] at hall
 simp-implicitDefEqProofs[kb,hfl]
 refine(sw G _ _ _).use ?_
 by_cases h1:inR l.length 1 4=true
 case neg=>simp-implicitDefEqProofs[h1,bl]
 simp-implicitDefEqProofs[h1]
 refine aN (λi:Nat=>ah 26 [(1,.ptr 0 1 0 0),(3,.p (.int .i64 i))]) (λ_=>[.row 1 [[.p (.lst 3 (l.map Fd.cs))]]]) (λi=>i<=l.length/\(l.take i).all iL=true) (λi=>l.length-i) 0 (by simp) (ae (by simp) (by simp[okO]) (by simp[below])) ?_
 intro i ⟨hi,ha⟩
 simp-implicitDefEqProofs[]
 refine bh (λh=>?_) (λh=>?_)
 ·simp at h
  have hg:=VA h
  have hks:=cN (VT h)
  simp-implicitDefEqProofs[hg]
  refine(QF G l[i] (by omega)).use ?_
  by_cases hk:iL l[i]=true
  ·simp-implicitDefEqProofs[hk]
   exact⟨i+1,⟨h,by rw[←VH,ec h,ha,hk];rfl⟩,by omega,ae (by simp) (by simp[okO]) (by simp[below,w1 (i:=i) (by omega)])⟩
  ·have hk':iL l[i]=false:=by simpa using hk
   have hff:bl l=false:=by simp only[bl,nF h hk',Bool.and_false,Bool.false_and]
   simp-implicitDefEqProofs[hk',hff]
 ·simp at h
  have h2:l.all iL=true:=gS h ha
  simp-implicitDefEqProofs[]
  refine hall.use ?_
  have hff:bl l=decide (kx l<=40):=by simp only[bl,h1,h2,Bool.true_and]
  simp-implicitDefEqProofs[hff]
  omega
end
section
theorem Ex.ext'{a b:Ex}(h1:a.op=b.op)(h2:a.n=b.n)(h3:a.name=b.name)(h4:a.kids=b.kids):a=b:=by
 cases a;cases b;simp only[Ex.op,Ex.n,Ex.name,Ex.kids] at*;subst h1 h2 h3 h4;rfl
theorem Sm.ext'{a b:Sm}(h1:a.op=b.op)(h2:a.name=b.name)(h3:a.args=b.args)(h4:a.body=b.body)(h5:a.els=b.els):a=b:=by
 cases a;cases b;simp only[Sm.op,Sm.name,Sm.args,Sm.body,Sm.els] at*;subst h1 h2 h3 h4 h5;rfl
variable (G:al)
end
section
def ixI:Option Nat->Int|none=> -1|some i=>i
def vaC(nf:Bool)(id n:Nat):AV:=if nf then .nils else .sl id 3 0 n
def lvC(v:LV):List AV:=[.p (.str v.name),.p (.int .i64 v.num),.p (.int .i64 v.block)]
def lvR(vs:List LV):List (List AV):=vs.reverse.map lvC
def roC(nf:Bool)(vs:List LV):AO:=if nf then .dead else .row 3 (lvR vs)
def wC(id:Nat)(nf:Bool)(fns:List Fd)(k:Nat)(w:WS):List AV:=[.p (fdL fns),.p (.int .i64 k),vaC nf id w.vs.length,.p (.int .i64 w.count),.p (.int .i64 w.code)]
def wO(id:Nat)(nf:Bool)(fns:List Fd)(k:Nat)(w:WS):AO:= .row 5 [wC id nf fns k w]
def HWk(nf:Bool)(fns:List Fd)(k:Nat)(w:WS):List AO:=[wO 1 nf fns k w,roC nf w.vs]
theorem zd(vs:List LV):(lvR vs).length=vs.length:=by simp[lvR]
theorem DU(vs:List LV):∀x∈lvR vs,af 0 x:=by
 intro x hx;obtain⟨m,_,rfl⟩:=VW.1 hx;simp[lvC,af,below]
theorem gv(nf:Bool)(vs:List LV)(n:Nat):okO n (roC nf vs):=by
 cases nf
 ·exact eq (λe he=>DU vs e he)
 ·exact trivial
theorem IJ{nf:Bool}{id n m:Nat}(h:id<m):below m (vaC nf id n):=by cases nf<;>simp[vaC,below,h]
theorem At{id:Nat}{nf:Bool}{fns:List Fd}{k:Nat}{w:WS}{m:Nat}(h:id<m):af m (wC id nf fns k w):=⟨by simp,by simp,IJ h,by simp,by simp,trivial⟩
theorem vZ{id:Nat}{nf:Bool}{fns:List Fd}{k:Nat}{w:WS}{m:Nat}(h:id<m):okO m (wO id nf fns k w):=by
 intro e he;rw[VK.1 he];exact At h
theorem Pk(σ:List Nat)(nf:Bool)(id n:Nat):ren σ (vaC nf id n)=vaC nf (σ.getD id 0) n:=by cases nf<;>rfl
theorem DJ(σ:List Nat)(id:Nat)(nf:Bool)(fns:List Fd)(k:Nat)(w:WS):bg σ (wC id nf fns k w)=wC (σ.getD id 0) nf fns k w:=by
 simp only[wC,bg,Pk];rfl
theorem HQ(σ:List Nat)(id:Nat)(nf:Bool)(fns:List Fd)(k:Nat)(w:WS):ib σ (wO id nf fns k w)=wO (σ.getD id 0) nf fns k w:=by
 simp only[wO,ib,VY,List.map_nil,DJ]
theorem Fx(σ:List Nat)(nf:Bool)(vs:List LV):ib σ (roC nf vs)=roC nf vs:=by
 cases nf
 ·show AO.row 3 ((lvR vs).map (bg σ))= .row 3 (lvR vs)
  rw[Wd (g:=id) λx hx=>dY σ x (DU vs x hx)];simp
 ·rfl
theorem GF(pre:List LV)(v:LV)(r:List LV):(lvR (pre++v::r))[r.length]?=some (lvC v):=by
 simp[lvR]
theorem Ll(v:LV)(r:List LV):lvR (v::r)=lvR r++[lvC v]:=by simp[lvR]
def vr:List LV->List UInt8->Int
 |[],_=> -1
 |v::r,s=>if v.name=s then r.length else vr r s
theorem uQ:∀(vs:List LV) (s:List UInt8),(lkV vs s=none/\vr vs s= -1)\/∃pre v r,vs=pre++v::r/\lkV vs s=some v/\vr vs s=r.length
 |[],s=> .inl ⟨rfl,rfl⟩
 |v::r,s=>by
  by_cases h:v.name=s
  ·exact .inr ⟨[],v,r,rfl,by simp[lkV,h],by simp[vr,h]⟩
  ·have h1:lkV (v::r) s=lkV r s:=by simp[lkV,h]
   have h2:vr (v::r) s=vr r s:=by simp[vr,h]
   rw[h1,h2]
   rcases uQ r s with h|⟨pre,u,q,e,h⟩
   ·exact .inl h
   ·exact .inr ⟨v::pre,u,q,by rw[e];rfl,h⟩
theorem tm:AK.whole iu=FK.ak iv:=rfl
variable (G:al)
theorem GU(l:List Fd)(s:List UInt8)(hl:l.length<=1099511627776):VF Tryz.prog G jt [.agg [.p (fdL l)],.p (.str s)] (.p (.int .i64 (ixI (be l s)))):=by
 refine AC.go EX ?_
 have hfl:∀l,fdL l= .lst 3 (l.map Fd.cs):=λ_=>rfl
 simp-implicitDefEqProofs[vJ,hfl]
 refine aN (λi:Nat=>ah 22 [(1,.p (.str s)),(2,.ptr 0 1 0 0),(5,.p (.int .i64 i))]) (λ_=>[.row 1 [[.p (.lst 3 (l.map Fd.cs))]]]) (λi=>i<=l.length/\∀f∈l.take i,f.name≠s) (λi=>l.length-i) 0 (by simp) (ae (by simp) (by simp[okO]) (by simp[below])) ?_
 intro i ⟨hi,hn⟩
 simp-implicitDefEqProofs[]
 refine bh (λh=>?_) (λh=>?_)
 ·simp at h
  have hg:=VA h
  have hce:l[i].cs=[.str l[i].name,am l[i].params,smL l[i].body]:=rfl
  by_cases he:l[i].name=s
  ·have hf:be l s=some i:=by
    rw[be,VU]
    exact⟨h,by simpa using he,λj hj=>by have:=hn l[j] (WH.2 ⟨j,by omega,rfl⟩);simpa using this⟩
   simp-implicitDefEqProofs[hg,hce,he,hf,ixI]
  ·simp-implicitDefEqProofs[hg,hce,he]
   refine⟨i+1,⟨h,λp hp=>?_⟩,by omega,ae (by simp) (by simp[okO]) (by simp[below,w1 (i:=i) (by omega)])⟩
   rw[an h] at hp
   rcases VJ.1 hp with hp|hp
   ·exact hn p hp
   ·rw[VK.1 hp];exact he
 ·simp at h
  rw[VE h] at hn
  have hf:be l s=none:=by
   rw[be,Wh];intro x hx;simpa using hn x hx
  simp-implicitDefEqProofs[hf,ixI]
theorem QK:∀m:Nat,m<26->((([97,98,99,100,101,102,103,104,105,106,107,108,109,110,111,112,113,114,115,116,117,118,119,120,121,122]:List UInt8).take (m+1)).drop m)=[UInt8.ofNat (97+m)]:=by decide
theorem ND:∀m:Nat,m<26->List.drop m ((97:UInt8)::List.take m [98,99,100,101,102,103,104,105,106,107,108,109,110,111,112,113,114,115,116,117,118,119,120,121,122])=[97+UInt8.ofNat m]:=by decide
theorem Ax(n:Nat):VF Tryz.prog G ja [.p (.int .i64 n)] (.p (.str (vnm n))):=by
 refine AC.go Bu ?_
 have hm:n%26<26:=Nat.mod_lt _ (by omega)
 have ht:(n:Int).tmod 26=((n%26:Nat):Int):=rfl
 have hw:IntKind.i64.wrap (((n%26:Nat):Int)+1)=((n%26+1:Nat):Int):=w1 (by omega)
 have habc:=QK _ hm
 rw[vnm]
 generalize n%26=m at hm ht hw habc
 have h0:(0:Int)<=(m:Int)+1:=by omega
 have h1:m+1<=26:=by omega
 simp-implicitDefEqProofs[ry,ht,hw,h0,h1]
 exact⟨by omega,ND m hm⟩
theorem pD(nf:Bool)(fns:List Fd)(k:Nat)(w:WS)(c:Int):AC Tryz.prog G bz [.ptr 0 5 0 0,.p (.int .i64 c)] (HWk nf fns k w) λx h=>x= .ret (.tup [])/\h=HWk nf fns k ⟨w.vs,w.count,fl w.code c⟩:=by
 refine AC.go sr ?_
 by_cases h0:w.code=0
 ·simp-implicitDefEqProofs[gy,HWk,wO,wC,h0,fl]
 ·simp-implicitDefEqProofs[gy,HWk,wO,wC,h0,fl]
theorem zW(nf:Bool)(fns:List Fd)(k:Nat)(w:WS):∀o∈HWk nf fns k w,okO 2 o:=by
 intro o ho
 simp only[HWk,VL,Wa,or_false] at ho
 rcases ho with rfl|rfl
 ·exact vZ (by omega)
 ·exact gv _ _ _
theorem Ha(nf:Bool)(fns:List Fd)(k:Nat)(w:WS)(hn:nf=true->w.vs=[])(hl:w.vs.length<=1099511627776)(s:List UInt8):AC Tryz.prog G dQ [.ptr 0 5 0 0,.p (.str s)] (HWk nf fns k w) λx h=>x= .ret (.p (.int .i64 (vr w.vs s)))/\h=HWk nf fns k w:=by
 refine AC.go sA ?_
 have hok:=zW nf fns k w
 cases nf with
 |true=>
  have hv:=hn rfl
  rw[HWk] at hok⊢
  simp-implicitDefEqProofs[gh,wO,wC,vaC,hv]
  refine aN (λ_:Unit=>ah 27 [(0,.ptr 0 5 0 0),(1,.p (.str s)),(5,.p (.int .i64 (-1)))]) (λ_=>[wO 1 true fns k w,roC true w.vs]) (λ_=>True) (λ_=>0) () trivial ?_ ?_
  ·have e:wO 1 true fns k w= .row 5 [[.p (fdL fns),.p (.int .i64 k),.nils,.p (.int .i64 w.count),.p (.int .i64 w.code)]]:=by simp[wO,wC,vaC]
   rw[←e,←hv]
   exact ae (by simp) hok (by simp[below,ab (x:= -1) (by omega) (by omega)])
  ·intro _ _
   simp-implicitDefEqProofs[vr]
   simp[wO,wC,vaC,hv]
 |false=>
  rw[HWk] at hok⊢
  have e:∀r,roC false r= .row 3 (lvR r):=λ_=>rfl
  have hw0:IntKind.i64.wrap ((w.vs.length:Int)-1)=(w.vs.length:Int)-1:=ab (by omega) (by omega)
  simp-implicitDefEqProofs[gh,wO,wC,vaC,hw0]
  refine aN (λr:List LV=>ah 27 [(0,.ptr 0 5 0 0),(1,.p (.str s)),(5,.p (.int .i64 ((r.length:Int)-1)))]) (λ_=>[wO 1 false fns k w,roC false w.vs]) (λr=>∃pre,w.vs=pre++r/\vr w.vs s=vr r s) (λr=>r.length) w.vs ⟨[],rfl,rfl⟩ ?_ ?_
  ·exact ae (h:=[wO 1 false fns k w,roC false w.vs]) (by simp) hok (by simp[below])
  ·rintro r ⟨pre,e1,e2⟩
   cases r with
   |nil=>
    simp-implicitDefEqProofs[wO,wC,vaC]
    rw[e2];rfl
   |cons v r=>
    have hat:=GF pre v r
    rw[←e1] at hat
    have hlen:r.length<w.vs.length:=by rw[e1];simp;omega
    have hll:=zd w.vs
    have c1:((r.length+1:Nat):Int)-1=(r.length:Int):=by omega
    have hw1:IntKind.i64.wrap ((r.length:Int)-1)=(r.length:Int)-1:=ab (by omega) (by omega)
    by_cases hs:v.name=s
    ·simp-implicitDefEqProofs[wO,wC,vaC,e,c1,hat,hlen,lvC,hs]
     rw[e2];simp[vr,hs]
    ·simp-implicitDefEqProofs[wO,wC,vaC,e,c1,hat,hlen,lvC,hs]
     refine⟨r,⟨⟨pre++[v],by rw[e1];simp⟩,by rw[e2];simp[vr,hs]⟩,by simp,?_⟩
     refine ae (h:=[wO 1 false fns k w,roC false w.vs]) (by simp) hok ?_
     simp[below,hw1]
theorem MY(nf:Bool)(fns:List Fd)(k:Nat)(w:WS)(hn:nf=true->w.vs=[])(hl:w.vs.length<=1099511627776)(s:List UInt8):AC Tryz.prog G eB [.ptr 0 5 0 0,.p (.str s)] (HWk nf fns k w) λx h=>x= .ret (.p (.str (zy w.vs s)))/\h=HWk nf fns k ⟨w.vs,w.count,nX w.vs s w.code⟩:=by
 refine AC.go ua ?_
 simp-implicitDefEqProofs[ma]
 refine(Ha G nf fns k w hn hl s).mono ?_
 rintro r h ⟨rfl,rfl⟩
 rcases uQ w.vs s with⟨e1,e2⟩|⟨pre,v,q,e0,e1,e2⟩
 ·simp-implicitDefEqProofs[aa,e2]
  refine(pD G nf fns k w 3).mono ?_
  rintro r h ⟨rfl,rfl⟩
  simp-implicitDefEqProofs[aa,zy,nX,e1]
 ·have hat:=GF pre v q
  rw[←e0] at hat
  have hlen:q.length<w.vs.length:=by rw[e0];simp;omega
  have hnf:nf=false:=by
   cases nf with
   |false=>rfl
   |true=>rw[hn rfl] at e0;simp at e0
  subst hnf
  have e:∀r,roC false r= .row 3 (lvR r):=λ_=>rfl
  have hq:¬(q.length:Int)<0:=by omega
  simp-implicitDefEqProofs[aa,e2,hq,HWk,wO,wC,vaC,e,hat,hlen,lvC]
  refine(Ax G v.num).use ?_
  simp-implicitDefEqProofs[zy,nX,e1]
theorem My(nf:Bool)(fns:List Fd)(k:Nat)(w:WS)(hn:nf=true->w.vs=[])(hl:w.vs.length<=1099511627776)(hc:w.count<=1099511627776)(s:List UInt8)(b:Nat):AC Tryz.prog G eD [.ptr 0 5 0 0,.p (.str s),.p (.int .i64 b)] (HWk nf fns k w) λx h=>x= .ret (.p (.str (vnm w.count)))/\h=[wO 2 false fns k (gt w s b),.dead,roC false (gt w s b).vs]:=by
 refine AC.goK ty tm ?_
 have hw1:IntKind.i64.wrap ((w.count:Int)+1)=(w.count:Int)+1:=ab (by omega) (by omega)
 have hw2:IntKind.i64.wrap ((w.count:Int)+1-1)=(w.count:Int):=by rw[ab (by omega) (by omega)];omega
 have hw3:IntKind.i64.wrap (w.count:Int)=(w.count:Int):=ab (by omega) (by omega)
 have hll:=zd w.vs
 simp-implicitDefEqProofs[iu,iv]
 refine(Ha G nf fns k w hn hl s).mono ?_
 rintro r h ⟨rfl,rfl⟩
 simp-implicitDefEqProofs[aa]
 refine lI (ah 57 [(0,.ptr 0 5 0 0),(1,.p (.str s)),(2,.p (.int .i64 b))]) (HWk nf fns k ⟨w.vs,w.count,nY w.vs s b w.code⟩) ?_ ?_
 ·rcases uQ w.vs s with⟨e1,e2⟩|⟨pre,v,q,e0,e1,e2⟩
  ·simp-implicitDefEqProofs[e2,nY,e1]
   exact ae (by simp[HWk]) (zW nf fns k w) (by simp[below,HWk])
  ·have hat:=GF pre v q
   rw[←e0] at hat
   have hlen:q.length<w.vs.length:=by rw[e0];simp;omega
   have hnf:nf=false:=by
    cases nf with
    |false=>rfl
    |true=>rw[hn rfl] at e0;simp at e0
   subst hnf
   have e:∀r,roC false r= .row 3 (lvR r):=λ_=>rfl
   have hq:(0:Int)<=(q.length:Int):=by omega
   by_cases hb:v.block=b
   ·have:=pD G false fns k w 2
    simp only[HWk,wO,wC,vaC,e] at this
    simp-implicitDefEqProofs[e2,HWk,wO,wC,vaC,e,hat,hlen,lvC,hb]
    refine this.mono ?_
    rintro r h ⟨rfl,rfl⟩
    have hp:nY w.vs s b w.code=fl w.code 2:=by simp[nY,e1,hb]
    rw[hp]
    simp-implicitDefEqProofs[aa]
    refine ae (h:=HWk false fns k ⟨w.vs,w.count,fl w.code 2⟩) ?_ (zW _ _ _ _) ?_
    ·simp[HWk]
    ·simp[below,HWk]
   ·have hp:nY w.vs s b w.code=w.code:=by simp[nY,e1,hb]
    have hbi:¬(v.block:Int)=(b:Int):=by omega
    rw[hp]
    simp-implicitDefEqProofs[e2,HWk,wO,wC,vaC,e,hat,hlen,lvC,hbi]
    refine ae (h:=HWk false fns k w) ?_ (zW _ _ _ _) ?_
    ·simp[HWk]
    ·simp[below,HWk]
 ·cases nf with
  |true=>
   have hv:=hn rfl
   simp-implicitDefEqProofs[HWk,wO,wC,vaC,roC,hv,hw1,hw2,hw3]
   refine(Ax G w.count).use ?_
   simp-implicitDefEqProofs[gt,lvR,lvC,hv]
  |false=>
   have e:∀r,roC false r= .row 3 (lvR r):=λ_=>rfl
   simp-implicitDefEqProofs[HWk,wO,wC,vaC,e,hw1,hw2,hw3,hll]
   refine⟨by omega,?_⟩
   refine(Ax G w.count).use ?_
   simp-implicitDefEqProofs[gt,Ll,lvC]
   rw[VE (by omega)]
end
section
theorem sS:AK.whole gn=FK.ak gi:=rfl
variable (G:al)
theorem Eg{f:FuncId}{args:List AV}{nf:Bool}{fns:List Fd}{k:Nat}{w w':WS}{v:AV}(H:AC Tryz.prog G f args (HWk nf fns k w) λx h=>x= .ret v/\h=HWk nf fns k w')(rest:List AO)(ha:af 2 args):
 AC Tryz.prog G f args (wO 1 nf fns k w::roC nf w.vs::rest) λx h=>x= .ret v/\h=wO 1 nf fns k w'::roC nf w'.vs::rest:=by
 refine(AC.pre H rest ha (zW _ _ _ _) ?_).mono ?_
 ·rintro x h ⟨_,rfl⟩;rfl
 ·rintro x h ⟨h1,⟨rfl,rfl⟩,rfl⟩
  exact⟨rfl,rfl⟩
theorem uf{n id:Nat}(hn:id<n){nf nf':Bool}{fns:List Fd}{k:Nat}{w:WS}{vs:List LV}{l:List AO}(r:∀o∈l,okO n o):∀o∈wO id nf fns k w::roC nf' vs::l,okO n o:=aj (vZ hn) (aj (gv _ _ _) r)
theorem zC{ρ π:List Nat}{h r1:List AO}{i id:Nat}{nf:Bool}{fns:List Fd}{k:Nat}{w:WS}(hid:id<ρ.length)(e:h[i]?=some (wO (ρ.getD id 0) nf fns k w))(hr:HW ρ h π r1):HW ρ h (i::π) (wO id nf fns k w::r1):=by
 refine bW (es:=[wC id nf fns k w]) (λx hx=>?_) ?_ hr
 ·rw[VK.1 hx];exact At hid
 ·rw[e,VY,List.map_nil,DJ];rfl
theorem IQ{α:Type}{l:List α}{i j:Nat}{a b:α}(hij:i≠j)(h:l[j]?=some b):(l.set i a).set j b=l.set i a:=by
 apply List.ext_getElem?
 intro n
 rw[List.getElem?_set]
 split
 ·rename_i e
  subst e
  rw[Vy hij,h]
  rw[if_pos (by rw[We];exact(Vx.1 h).1)]
 ·rfl
theorem CK(ρ:List Nat):∀l:List AV,af 0 l->TW ρ l l
 |[],_=>by simp
 |v::r,h=>by
  rw[zg]
  refine⟨.inr ⟨(bj (WA _) [v] ⟨h.1,trivial⟩).1,?_⟩,CK ρ r h.2⟩
  have:=dY ρ [v] ⟨h.1,trivial⟩
  simpa[bg] using this
theorem Sh{h:List AO}{wid id:Nat}{nf:Bool}{fns:List Fd}{k:Nat}{w:WS}(e0:h[wid]?=some (wO id nf fns k w))(e1:h[id]?=some (roC nf w.vs)):HW [wid,id] h [wid,id] (HWk nf fns k w):=by
 refine bW (es:=[wC 1 nf fns k w]) (λx hx=>?_) ?_ ?_
 ·rw[VK.1 hx];exact At (by simp)
 ·rw[e0,VY,List.map_nil,DJ];rfl
 ·exact bJ e1 (gv _ _ _) bL
theorem Rc{f:FuncId}{args:List AV}{nf:Bool}{fns:List Fd}{k:Nat}{w:WS}{v:AV}{c:Int}(H:AC Tryz.prog G f (.ptr 0 5 0 0::args) (HWk nf fns k w) λx h=>x= .ret v/\h=HWk nf fns k ⟨w.vs,w.count,c⟩)(ha:af 0 args)(hv:below 0 v)
 {h:List AO}{wid id:Nat}(hid:wid≠id)(e0:h[wid]?=some (wO id nf fns k w))(e1:h[id]?=some (roC nf w.vs)):
 AC Tryz.prog G f (.ptr wid 5 0 0::args) h λx h'=>x= .ret v/\h'=h.set wid (wO id nf fns k ⟨w.vs,w.count,c⟩):=by
 refine(H.frame [wid,id] (by simp[hid]) ?_ (Sh e0 e1)).mono ?_
 ·rw[zg];exact⟨.inr ⟨by simp[below],rfl⟩,CK _ _ ha⟩
 ·rintro x h' ⟨x0,h0,⟨rfl,rfl⟩,_,rfl,rfl⟩
  refine⟨?_,?_⟩
  ·have:=dY ([wid,id]++List.range' h.length ((HWk nf fns k ⟨w.vs,w.count,c⟩).length-(HWk nf fns k w).length)) [v] ⟨hv,trivial⟩
   simp only[bg] at this
   simp only[BA]
   exact congrArg ARes.ret (List.cons.inj this).1
  ·simp only[HWk,VV,List.length_nil,Nat.sub_self,List.range'_zero,Ws,List.take_succ_cons,List.take_zero,VY,List.map_nil,List.drop_succ_cons,List.drop_zero,HQ,Fx,mrg]
   exact IQ hid e1
theorem MM{f:FuncId}{args:List AV}{nf:Bool}{fns:List Fd}{k:Nat}{w:WS}{v:AV}{Q:Bool->WS->Prop}(H:AC Tryz.prog G f (.ptr 0 5 0 0::args) (HWk nf fns k w) λx h=>∃nf' w',x= .ret v/\h=[wO 2 nf' fns k w',.dead,roC nf' w'.vs]/\Q nf' w')(ha:af 0 args)(hv:below 0 v)
 {h:List AO}{wid id:Nat}(hid:wid≠id)(e0:h[wid]?=some (wO id nf fns k w))(e1:h[id]?=some (roC nf w.vs)):
 AC Tryz.prog G f (.ptr wid 5 0 0::args) h λx h'=>∃nf' w',x= .ret v/\h'=(h.set wid (wO h.length nf' fns k w')).set id .dead++[roC nf' w'.vs]/\Q nf' w':=by
 refine(H.frame [wid,id] (by simp[hid]) ?_ (Sh e0 e1)).mono ?_
 ·rw[zg];exact⟨.inr ⟨by simp[below],rfl⟩,CK _ _ ha⟩
 ·rintro x h' ⟨x0,h0,⟨nf',w',rfl,rfl,q⟩,_,rfl,rfl⟩
  refine⟨nf',w',?_,?_,q⟩
  ·have:=dY ([wid,id]++List.range' h.length ([wO 2 nf' fns k w',.dead,roC nf' w'.vs].length-(HWk nf fns k w).length)) [v] ⟨hv,trivial⟩
   simp only[bg] at this
   simp only[BA]
   exact congrArg ARes.ret (List.cons.inj this).1
  ·simp only[HWk,VV,List.length_nil,List.take_succ_cons,List.take_zero,VY,List.map_nil,List.drop_succ_cons,List.drop_zero,HQ,Fx,mrg]
   rfl
theorem Cb(fns:List Fd)(k:Nat)(vs:List LV):∀(a b:List Ex) (c:Int),bc fns k vs (a++b) c=bc fns k vs b (bc fns k vs a c)
 |[],b,c=>rfl
 |e::r,b,c=>by rw[Wn,bc,bc,Cb fns k vs r]
theorem uh(vs:List LV):∀l:List Ex,kK vs l=l.map (rnE vs)
 |[]=>rfl
 |e::r=>by rw[kK,uh vs r];rfl
theorem AU{fns:List Fd}{k:Nat}{vs:List LV}{l:List Ex}{c:Int}{i:Nat}(h:i<l.length):bc fns k vs (l.take (i+1)) c=jy fns k vs l[i] (bc fns k vs (l.take i) c):=by
 rw[an h,Cb];rfl
theorem BQ{vs:List LV}{l:List Ex}{i:Nat}(h:i<l.length):kK vs (l.take (i+1))=kK vs (l.take i)++[rnE vs l[i]]:=by
 rw[uh,uh,an h,List.map_append];rfl
theorem um(vs:List LV)(l:List Ex):(kK vs l).length=l.length:=by rw[uh,Wl]
theorem Ii(l:List Ex):(exR l).length=l.length:=by simp[exR]
theorem Ho(a b:List Ex):exR (a++b)=exR a++exR b:=by simp[exR]
theorem Ep{h:List AO}{id:Nat}{l:List Ex}(e:h[id]?=some (.row 4 (exR l))):View h (.sl id 4 0 l.length) (exL l):=by
 have:=jw (h:=h) (id:=id) (sz:=4) (n:=l.length) (ls:=l.map Ex.cs) (by rw[e,exR];simp) (by simp) (λx hx=>by obtain⟨b,_,rfl⟩:=VW.1 hx;exact b.cs_len)
 exact this
theorem NF{fns:List Fd}{s:List UInt8}{j:Nat}(h:be fns s=some j):j<fns.length:=by
 rw[be,VU] at h;exact h.1
theorem NB{fns:List Fd}{k:Nat}(hf:fns.length<=1099511627776):∀(N:Nat) (e:Ex),e.sz<=N->N<=1099511627776->∀(nf:Bool) (w:WS),(nf=true->w.vs=[])->w.vs.length<=1099511627776->
 AC Tryz.prog G cI [.ptr 0 5 0 0,.agg (e.cs.map .p)] (HWk nf fns k w) λx h=>x= .ret (.agg ((rnE w.vs e).cs.map .p))/\h=HWk nf fns k ⟨w.vs,w.count,jy fns k w.vs e w.code⟩:=by
 intro N
 induction N with
 |zero=>intro e he;have:=e.sz_eq;omega
 |succ N ih=>
  intro e he hN nf w hn hl
  have hec:=e.cs_eq
  have hsz:=e.sz_eq
  have hkl:=bG e.kids
  have hre:(rnE w.vs e).cs=[.int .i64 e.op,.int .i64 e.n,.str (if e.op=2 then zy w.vs e.name else e.name),exL (kK w.vs e.kids)]:=by
   obtain⟨o,n,s,ks⟩:=e;rw[rnE,Ex.cs_eq];rfl
  have hce:jy fns k w.vs e w.code=bc fns k w.vs e.kids (fg fns k w.vs e.op e.name e.kids.length w.code):=by
   obtain⟨o,n,s,ks⟩:=e;rfl
  have main:AC Tryz.prog G cI [.ptr 0 5 0 0,.agg (e.cs.map .p)] (HWk nf fns k w) λx h=>∃E1 E2,x= .ret (.agg [.p (.int .i64 e.op),.p (.int .i64 e.n),.p (.str (if e.op=2 then zy w.vs e.name else e.name)),.sl 4 4 0 e.kids.length])/\
   h=[wO 1 nf fns k ⟨w.vs,w.count,jy fns k w.vs e w.code⟩,roC nf w.vs,E1,E2,.row 4 (exR (kK w.vs e.kids))]:=by
   refine AC.goK sP sS ?_
   simp-implicitDefEqProofs[gn,gi,HWk,hec]
   refine lI (ah 75 [(0,.ptr 0 5 0 0),(3,.ptr 2 4 0 0),(4,.ptr 3 4 0 0)]) [wO 1 nf fns k ⟨w.vs,w.count,if e.op=2 then nX w.vs e.name w.code else w.code⟩,roC nf w.vs,.row 4 [[.p (.int .i64 e.op),.p (.int .i64 e.n),.p (.str (if e.op=2 then zy w.vs e.name else e.name)),.p (exL e.kids)]],.row 4 [[.p (.int .i64 0),.p (.int .i64 0),.p (.str []),.nils]]] ?_ ?_
   ·by_cases o2:e.op=2
    ·simp-implicitDefEqProofs[o2]
     refine(Eg G (MY G nf fns k w hn hl e.name) _ (by simp[below])).mono ?_
     rintro r h ⟨rfl,rfl⟩
     simp-implicitDefEqProofs[aa]
     exact ae (by simp) (uf (by simp) (by simp[okO,below])) (by simp[below])
    ·simp-implicitDefEqProofs[o2]
     exact ae (by simp) (uf (by simp) (by simp[okO,below])) (by simp[below])
   refine lI (ah 75 [(0,.ptr 0 5 0 0),(3,.ptr 2 4 0 0),(4,.ptr 3 4 0 0)]) [wO 1 nf fns k ⟨w.vs,w.count,fg fns k w.vs e.op e.name e.kids.length w.code⟩,roC nf w.vs,.row 4 [[.p (.int .i64 e.op),.p (.int .i64 e.n),.p (.str (if e.op=2 then zy w.vs e.name else e.name)),.p (exL e.kids)]],.row 4 [[.p (.int .i64 0),.p (.int .i64 0),.p (.str []),.nils]]] ?_ ?_
   ·by_cases o13:e.op=13
    ·have hhd:fg fns k w.vs e.op e.name e.kids.length w.code=ki fns k e.name e.kids.length w.code:=by simp[fg,o13]
     rw[hhd]
     simp-implicitDefEqProofs[o13,wO,wC]
     refine(GU G fns e.name hf).use ?_
     have fin:∀c:Int,Wk 2 (ah 75 [(0,.ptr 0 5 0 0),(3,.ptr 2 4 0 0),(4,.ptr 3 4 0 0)]) [wO 1 nf fns k ⟨w.vs,w.count,c⟩,roC nf w.vs,.row 4 [[.p (.int .i64 13),.p (.int .i64 e.n),.p (.str e.name),.p (exL e.kids)]],.row 4 [[.p (.int .i64 0),.p (.int .i64 0),.p (.str []),.nils]]] (ah 75 [(0,.ptr 0 5 0 0),(3,.ptr 2 4 0 0),(4,.ptr 3 4 0 0)]) [wO 1 nf fns k ⟨w.vs,w.count,c⟩,roC nf w.vs,.row 4 [[.p (.int .i64 13),.p (.int .i64 e.n),.p (.str e.name),.p (exL e.kids)]],.row 4 [[.p (.int .i64 0),.p (.int .i64 0),.p (.str []),.nils]]]:=λc=>
      ae (by simp) (uf (by simp) (by simp[okO,below])) (by simp[below])
     cases hfa:be fns e.name with
     |none=>
      simp-implicitDefEqProofs[ixI,ki,hfa]
      refine(Eg G (pD G nf fns k w 4) _ (by simp[below])).mono ?_
      rintro r h ⟨rfl,rfl⟩
      simp-implicitDefEqProofs[aa]
      exact ae (h:=[wO 1 nf fns k ⟨w.vs,w.count,fl w.code 4⟩,roC nf w.vs,.row 4 [[.p (.int .i64 13),.p (.int .i64 e.n),.p (.str e.name),.p (exL e.kids)]],.row 4 [[.p (.int .i64 0),.p (.int .i64 0),.p (.str []),.nils]]]) (by simp) (uf (by simp) (by simp[okO,below])) (by simp[below])
     |some j=>
      have hj:=NF hfa
      have hg:=VA hj
      have hjn:¬(j:Int)<0:=by omega
      by_cases hkj:k<=j
      ·have hkj':(k:Int)<=(j:Int):=by omega
       simp-implicitDefEqProofs[ixI,ki,hfa,hkj,hkj',hjn]
       refine(Eg G (pD G nf fns k w 4) _ (by simp[below])).mono ?_
       rintro r h ⟨rfl,rfl⟩
       simp-implicitDefEqProofs[aa]
       exact ae (h:=[wO 1 nf fns k ⟨w.vs,w.count,fl w.code 4⟩,roC nf w.vs,.row 4 [[.p (.int .i64 13),.p (.int .i64 e.n),.p (.str e.name),.p (exL e.kids)]],.row 4 [[.p (.int .i64 0),.p (.int .i64 0),.p (.str []),.nils]]]) (by simp) (uf (by simp) (by simp[okO,below])) (by simp[below])
      ·have hkj':¬(k:Int)<=(j:Int):=by omega
       have hfl:fdL fns= .lst 3 (fns.map Fd.cs):=rfl
       have hcs:fns[j].cs=[.str fns[j].name,am fns[j].params,smL fns[j].body]:=rfl
       have hst:am fns[j].params= .lst 1 (fns[j].params.map λw=>[.str w]):=rfl
       have hxl:∀l,exL l= .lst 4 (l.map Ex.cs):=λ_=>rfl
       have hpn:rt fns j=fns[j].params.length:=by simp[rt,hg]
       by_cases hp:fns[j].params.length=e.kids.length
       ·have hcc:ki fns k e.name e.kids.length w.code=w.code:=by simp[ki,hfa,hkj,hpn,hp]
        rw[hcc]
        simp-implicitDefEqProofs[ixI,hkj',hjn,hfl,hg,hcs,hst,hxl,hp]
        exact ae (h:=[wO 1 nf fns k w,roC nf w.vs,.row 4 [[.p (.int .i64 13),.p (.int .i64 e.n),.p (.str e.name),.p (exL e.kids)]],.row 4 [[.p (.int .i64 0),.p (.int .i64 0),.p (.str []),.nils]]]) (by simp) (uf (by simp) (by simp[okO,below])) (by simp[below])
       ·have hcc:ki fns k e.name e.kids.length w.code=fl w.code 5:=by simp[ki,hfa,hkj,hpn,hp]
        have hp':¬(fns[j].params.length:Int)=(e.kids.length:Int):=by omega
        rw[hcc]
        simp-implicitDefEqProofs[ixI,hkj',hjn,hfl,hg,hcs,hst,hxl,hp']
        refine(Eg G (pD G nf fns k w 5) _ (by simp[below])).mono ?_
        rintro r h ⟨rfl,rfl⟩
        simp-implicitDefEqProofs[aa]
        exact ae (h:=[wO 1 nf fns k ⟨w.vs,w.count,fl w.code 5⟩,roC nf w.vs,.row 4 [[.p (.int .i64 13),.p (.int .i64 e.n),.p (.str e.name),.p (exL e.kids)]],.row 4 [[.p (.int .i64 0),.p (.int .i64 0),.p (.str []),.nils]]]) (by simp) (uf (by simp) (by simp[okO,below])) (by simp[below])
    ·have hhd:fg fns k w.vs e.op e.name e.kids.length w.code=if e.op=2 then nX w.vs e.name w.code else w.code:=by simp[fg,o13]
     rw[hhd]
     simp-implicitDefEqProofs[o13]
     exact ae (by simp) (uf (by simp) (by simp[okO,below])) (by simp[below])
   rw[hce]
   generalize fg fns k w.vs e.op e.name e.kids.length w.code=c2
   generalize (if e.op=2 then zy w.vs e.name else e.name)=s1
   have hxl:exL e.kids= .lst 4 (e.kids.map Ex.cs):=rfl
   simp-implicitDefEqProofs[]
   refine aN (λi:Nat=>ah 75 [(0,.ptr 0 5 0 0),(3,.ptr 2 4 0 0),(4,.ptr 3 4 0 0),(6,.sl 4 4 0 i),(7,.p (.int .i64 i))])
    (λi=>[wO 1 nf fns k ⟨w.vs,w.count,bc fns k w.vs (e.kids.take i) c2⟩,roC nf w.vs,.row 4 [[.p (.int .i64 e.op),.p (.int .i64 e.n),.p (.str s1),.p (exL e.kids)]],.row 4 [[.p (.int .i64 0),.p (.int .i64 0),.p (.str []),.nils]],.row 4 (exR (kK w.vs (e.kids.take i)))])
    (λi=>i<=e.kids.length) (λi=>e.kids.length-i) 0 (by simp) ?_ ?_
   ·exact ae (by simp) (uf (by simp) (by simp[okO,below])) (by simp[below])
   ·intro i hi
    have hrl:(exR (kK w.vs (e.kids.take i))).length=i:=by rw[Ii,um];simp;omega
    simp-implicitDefEqProofs[hxl]
    refine bh (λh=>?_) (λh=>?_)
    ·simp at h
     have hg:=VA h
     have hks:=bQ (VT h)
     have hkc:=(rnE w.vs e.kids[i]).cs_eq
     simp-implicitDefEqProofs[hg]
     refine(Eg G (ih e.kids[i] (by omega) (by omega) nf ⟨w.vs,w.count,bc fns k w.vs (e.kids.take i) c2⟩ hn hl) _ (by simp[below])).mono ?_
     rintro r h ⟨rfl,rfl⟩
     rw[show(rnE (WS.mk w.vs w.count (bc fns k w.vs (e.kids.take i) c2)).vs e.kids[i])=rnE w.vs e.kids[i] from rfl]
     simp-implicitDefEqProofs[aa,hkc,hrl]
     refine⟨by omega,?_⟩
     refine⟨i+1,by omega,by omega,?_⟩
     have htk:List.take i (exR (kK w.vs (e.kids.take i)))=exR (kK w.vs (e.kids.take i)):=VE (by omega)
     rw[AU h,BQ h,Ho,htk]
     refine cZ [0,1,2,3,6] (by simp) (by decide) (by decide) (zC (by simp) rfl (bJ rfl (gv _ _ _) (bf rfl (by simp[below]) (bf rfl (by simp[below]) (bf ?_ ?_ bL))))) (by simp[below,ren,w1 (i:=i) (by omega)])
     ·have:exR [rnE w.vs e.kids[i]]=[[.p (.int .i64 (rnE w.vs e.kids[i]).op),.p (.int .i64 (rnE w.vs e.kids[i]).n),.p (.str (rnE w.vs e.kids[i]).name),.p (exL (rnE w.vs e.kids[i]).kids)]]:=by rw[exR,WE,hkc];rfl
      rw[this];rfl
     ·intro x hx
      rcases VJ.1 hx with h|h
      ·exact dU _ x h
      ·exact dU _ x h
    ·simp at h
     have hie:i=e.kids.length:=by omega
     subst hie
     simp-implicitDefEqProofs[]
  refine main.frz 2 (by simp[HWk]) (λt v h ⟨_,_,e,_⟩=>by cases e) ?_
  rintro v h ⟨E1,E2,e,rfl⟩
  cases e
  refine⟨_,HWk nf fns k ⟨w.vs,w.count,jy fns k w.vs e w.code⟩,by simp,rfl,.agg ?_ .nil,.same (vZ (by omega)) (.same (gv _ _ _) (.nil _)),rfl,rfl⟩
  rw[hre]
  have hrl:=um w.vs e.kids
  rw[←hrl]
  exact .keep (by simp) (.keep (by simp) (.keep (by simp) (.one (Ep rfl) .nil)))
end
end Go.Proofs.YtokiapglmedipaaGreatDoor
