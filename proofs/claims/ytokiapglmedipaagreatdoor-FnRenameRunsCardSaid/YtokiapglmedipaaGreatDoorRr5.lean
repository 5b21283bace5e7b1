/-
  Contracts and lemmas that the card needs, part 5.
-/
import Derived.Test.YtokiapglmedipaaGreatDoorRr4
import Derived.Laws.RangeAny
import Derived.Laws.RangeString
namespace Go.Proofs.YtokiapglmedipaaGreatDoor
open Go Go.Aw
set_option maxRecDepth 100000
set_option maxHeartbeats 4000000
section
theorem an{α:Type}{xs:List α}{i:Nat}(h:i<xs.length):xs.take (i+1)=xs.take i++[xs[i]]:=by
 rw[List.take_add_one,YO h];rfl
def zT(l:List Int):PV:= .lst 1 (l.map λn=>[.int .u8 n])
def bl(l:List Int):PV:= .lst 1 (l.map λn=>[.int .i64 n])
def Yv(l:List Int):List (List AV):=l.map λn=>[.p (.int .i64 n)]
def iN(l:List Int):AO:= .row 1 (l.map λn=>[.p (.int .i64 n)])
def al(l:List (List UInt8)):PV:= .lst 1 (l.map λw=>[.str w])
def tw(l:List (List UInt8)):List (List AV):=l.map λw=>[.p (.str w)]
def dt(l:List (List UInt8)):AO:= .row 1 (l.map λn=>[.p (.str n)])
theorem Ep(l:List Int):∀x∈Yv l,ah 0 x:=by
 intro x hx;obtain⟨m,_,rfl⟩:=Zh.1 hx;simp[ah,below]
theorem pj(l:List (List UInt8)):∀x∈tw l,ah 0 x:=by
 intro x hx;obtain⟨m,_,rfl⟩:=Zh.1 hx;simp[ah,below]
theorem kb{l:List Int}{id:Nat}{h:List AO}(e:h[id]?=some (iN l)):View h (.sl id 1 0 l.length) (bl l):=by
 have:=la (h:=h) (id:=id) (sz:=1) (n:=l.length) (ls:=l.map λn=>[.int .i64 n]) (by rw[e,iN];simp) (by simp) (λx hx=>by obtain⟨b,_,rfl⟩:=Zh.1 hx;rfl)
 exact this
theorem iH{l:List (List UInt8)}{id:Nat}{h:List AO}(e:h[id]?=some (dt l)):View h (.sl id 1 0 l.length) (al l):=by
 have:=la (h:=h) (id:=id) (sz:=1) (n:=l.length) (ls:=l.map λn=>[.str n]) (by rw[e,dt];simp) (by simp) (λx hx=>by obtain⟨b,_,rfl⟩:=Zh.1 hx;rfl)
 exact this
end
section
def eN(c:UInt8):Bool:=decide (97<=c.toNat)&&decide (c.toNat<=122)
def keyW:List (List UInt8):=[[102,110],[108,101,116],[115,97,121],[112,117,116],[105,102],[101,108,115,101],[108,111,111,112],[98,97,99,107],[100,111]]
def aD(s:List UInt8):Bool:=s.all eN&&decide (0<s.length)&&decide (s.length<=4)&& !keyW.contains s
def BO:List UInt8:=[40,41,123,125,59,44,43,45,42,47,37,60,61,38,33,64]
def zb(s:List UInt8)(c:Int):Int:=match s.findIdx? (λx=>(x.toNat:Int)==c) with|some i=>i|none=> -1
def Ij(c:Int):Int:=if 97<=c/\c<=122 then 1 else if 48<=c/\c<=57 then 2 else if 0<=zb BO c then 3 else if c=32\/c=10 then 4 else 0
theorem Qz(x:UInt8):(Ij (x.toNat:Int)=1)↔eN x=true:=by
 have h:(97<=(x.toNat:Int)/\(x.toNat:Int)<=122)↔eN x=true:=by simp[eN];omega
 unfold Ij
 constructor
 ·intro e
  split at e
  ·rename_i h1;exact h.1 h1
  ·repeat' split at e
   all_goals omega
 ·intro e;rw[if_pos (h.2 e)]
def Fu(s:List UInt8):Int:=match s.findIdx? (λx=> !eN x) with|some i=>i|none=> -1
theorem OU(s:List UInt8):decide (Fu s<0)=s.all eN:=by
 unfold Fu
 cases h:s.findIdx? (λx=> !eN x) with
 |none=>
  rw[Zs] at h
  have:s.all eN=true:=YW.2 λx hx=>by have:=h x hx;simpa using this
  simp[this]
 |some i=>
  rw[Zg] at h
  obtain⟨h1,h2,_⟩:=h
  have:s.all eN=false:=List.all_eq_false.2 ⟨_,Zf h1,by simpa using h2⟩
  rw[this];simp
def idxS(l:List (List UInt8))(s:List UInt8):Int:=match l.findIdx? (λw=>w==s) with|some i=>i|none=> -1
theorem OM(l:List (List UInt8))(s:List UInt8):decide (0<=idxS l s)=l.contains s:=by
 unfold idxS
 cases h:l.findIdx? (λw=>w==s) with
 |none=>
  rw[Zs] at h
  have:l.contains s=false:=by
   cases hc:l.contains s with
   |false=>rfl
   |true=>
    have hm:s∈l:=by simpa using hc
    have:=h s hm
    simp at this
  rw[this];simp
 |some i=>
  rw[Zg] at h
  obtain⟨h1,h2,_⟩:=h
  have:l.contains s=true:=by
   simp only[beq_iff_eq] at h2
   rw[List.contains_iff_mem,←h2];exact Zf h1
  rw[this];simp
variable (G:am)
theorem zB(s:List UInt8)(c:Int)(hb:s.length<=1048576):VF Tryz.prog G mM [.p (.str s),.p (.int .u8 c)] (.p (.int .i64 (zb s c))):=by
 refine AC.go BD ?_
 simp-implicitDefEqProofs[sJ]
 refine aN (λi:Nat=>aj 18 [(0,.p (.str s)),(1,.p (.int .u8 c)),(5,.p (.int .i64 i))]) (λ_=>[]) (λi=>i<=s.length/\∀x∈s.take i,(x.toNat:Int)≠c) (λi=>s.length-i) 0 (by simp) ?_ ?_
 ·exact bJ rfl (by simp[below])
 ·intro i ⟨hi,hn⟩
  simp-implicitDefEqProofs[]
  refine bi (λh1=>?_) (λh1=>?_)
  ·simp at h1
   have hg:=YO h1
   by_cases he:(s[i].toNat:Int)=c
   ·have hf:zb s c=i:=by
     have:s.findIdx? (λx=>(x.toNat:Int)==c)=some i:=by
      rw[Zg]
      exact⟨h1,by simpa using he,λj hj=>by have:=hn s[j] (ZO.2 ⟨j,by omega,rfl⟩);simpa using this⟩
     rw[zb,this]
    simp-implicitDefEqProofs[hg,he,hf]
   ·simp-implicitDefEqProofs[hg,he]
    refine⟨i+1,⟨h1,λp hp=>?_⟩,by omega,bJ rfl ?_⟩
    ·rw[an h1] at hp
     rcases YV.1 hp with hp|hp
     ·exact hn p hp
     ·rw[YQ.1 hp];exact he
    ·simp[below,w1 (i:=i) (by omega)]
  ·simp at h1
   rw[YU h1] at hn
   have hf:zb s c= -1:=by
    have:s.findIdx? (λx=>(x.toNat:Int)==c)=none:=by
     rw[Zs];intro x hx;simpa using hn x hx
    rw[zb,this]
   simp-implicitDefEqProofs[hf]
theorem Mg(c:Int):VF Tryz.prog G mC [.p (.int .u8 c)] (.p (.int .i64 (Ij c))):=by
 refine AC.go Dn ?_
 simp-implicitDefEqProofs[sh]
 unfold Ij
 by_cases h1:97<=c
 ·by_cases h2:c<=122
  ·simp-implicitDefEqProofs[h1,h2]
  ·have h3:¬c<=57:=by omega
   have h4:¬c=32:=by omega
   have h5:¬c=10:=by omega
   have h6:48<=c:=by omega
   simp-implicitDefEqProofs[h1,h2,h3,h6]
   refine(zB G BO c (by decide)).use ?_
   generalize zb BO c=w
   by_cases hf:0<=w
   ·simp-implicitDefEqProofs[hf]
   ·simp-implicitDefEqProofs[hf,h4,h5]
 ·simp-implicitDefEqProofs[h1]
  by_cases h2:48<=c
  ·by_cases h3:c<=57
   ·simp-implicitDefEqProofs[h2,h3]
   ·have h4:¬c=32:=by omega
    have h5:¬c=10:=by omega
    simp-implicitDefEqProofs[h2,h3]
    refine(zB G BO c (by decide)).use ?_
    generalize zb BO c=w
    by_cases hf:0<=w
    ·simp-implicitDefEqProofs[hf]
    ·simp-implicitDefEqProofs[hf,h4,h5]
  ·simp-implicitDefEqProofs[h2]
   refine(zB G BO c (by decide)).use ?_
   generalize zb BO c=w
   by_cases hf:0<=w
   ·simp-implicitDefEqProofs[hf]
   ·by_cases h4:c=32
    ·simp-implicitDefEqProofs[hf,h4]
    ·by_cases h5:c=10
     ·simp-implicitDefEqProofs[hf,h4,h5]
     ·simp-implicitDefEqProofs[hf,h4,h5]
theorem Sc(s:List UInt8)(hb:s.length<=140737488355328):VF Tryz.prog G pJ [.p (.str s),.p (.int .i64 1)] (.p (.bool (s.all eN&&decide (0<s.length)))):=by
 refine AC.go FV ?_
 simp-implicitDefEqProofs[vt]
 refine aN (λi:Nat=>aj 21 [(0,.p (.str s)),(1,.p (.int .i64 1)),(5,.p (.int .i64 i))]) (λ_=>[]) (λi=>i<=s.length/\∀x∈s.take i,eN x=true) (λi=>s.length-i) 0 (by simp) ?_ ?_
 ·exact bJ rfl (by simp[below])
 ·intro i ⟨hi,hn⟩
  simp-implicitDefEqProofs[]
  refine bi (λh1=>?_) (λh1=>?_)
  ·simp at h1
   have hg:=YO h1
   simp-implicitDefEqProofs[hg]
   refine(Mg G _).use ?_
   have hcl:=Qz s[i]
   by_cases he:eN s[i]=true
   ·have hc:=hcl.2 he
    simp-implicitDefEqProofs[hc]
    refine⟨i+1,⟨h1,λp hp=>?_⟩,by omega,bJ rfl ?_⟩
    ·rw[an h1] at hp
     rcases YV.1 hp with hp|hp
     ·exact hn p hp
     ·rw[YQ.1 hp];exact he
    ·simp[below,w1 (i:=i) (by omega)]
   ·have hc:¬Ij (s[i].toNat:Int)=1:=λe=>he (hcl.1 e)
    have ha:s.all eN=false:=List.all_eq_false.2 ⟨_,Zf h1,by simpa using he⟩
    simp-implicitDefEqProofs[hc,ha]
  ·simp at h1
   rw[YU h1] at hn
   have ha:s.all eN=true:=YW.2 hn
   simp-implicitDefEqProofs[ha]
theorem IJ:VF Tryz.prog G ic [] (.p (al keyW)):=by
 have key:AC Tryz.prog G ic [] [] λx h=>x= .ret (.sl 0 1 0 9)/\h=[.row 1 (keyW.map λw=>[.p (.str w)])]:=by
  refine AC.go AB ?_
  simp-implicitDefEqProofs[ra,keyW]
 exact AC.freeze key (.one (la (ls:=keyW.map λw=>[.str w]) (by simp) (by simp[keyW]) (by simp)) .nil)
theorem Rs(s:List UInt8):VF Tryz.prog G pN [.p (.str s)] (.p (.bool (keyW.contains s))):=by
 refine AC.go Fb ?_
 have hsl:al keyW= .lst 1 (keyW.map λw=>[.str w]):=rfl
 have hkl:keyW.length=9:=rfl
 simp-implicitDefEqProofs[vZ]
 refine(IJ G).use ?_
 simp-implicitDefEqProofs[]
 refine aN (λi:Nat=>aj 18 [(0,.p (.str s)),(3,.p (al keyW)),(4,.p (.int .i64 i))]) (λ_=>[]) (λi=>i<=keyW.length/\∀w∈keyW.take i,w≠s) (λi=>keyW.length-i) 0 (by simp) ?_ ?_
 ·exact bJ rfl (by simp[below,al])
 ·intro i ⟨hi,hn⟩
  generalize keyW=L at*
  simp-implicitDefEqProofs[hsl]
  refine bi (λh1=>?_) (λh1=>?_)
  ·simp at h1
   have hg:=YO h1
   by_cases he:L[i]=s
   ·have hm:s∈L:=by rw[←he];exact Zf h1
    simp-implicitDefEqProofs[hg,he,hm]
   ·simp-implicitDefEqProofs[hg,he]
    refine⟨i+1,⟨h1,λp hp=>?_⟩,by omega,bJ rfl ?_⟩
    ·rw[an h1] at hp
     rcases YV.1 hp with hp|hp
     ·exact hn p hp
     ·rw[YQ.1 hp];exact he
    ·simp[below,w1 (i:=i) (by omega)]
  ·simp at h1
   rw[YU h1] at hn
   have hm:¬s∈L:=λhm=>hn s hm rfl
   simp-implicitDefEqProofs[hm]
theorem zi(s:List UInt8)(hb:s.length<=140737488355328):VF Tryz.prog G dd [.p (.str s)] (.p (.bool (aD s))):=by
 refine AC.go Dz ?_
 simp-implicitDefEqProofs[tV]
 refine(Sc G s hb).use ?_
 cases h1:(s.all eN&&decide (0<s.length)) with
 |false=>
  have hi:aD s=false:=by rw[aD,h1];rfl
  simp-implicitDefEqProofs[hi]
 |true=>
  by_cases h4:s.length<=4
  ·have h4i:(s.length:Int)<=4:=by omega
   have hi:aD s= !keyW.contains s:=by rw[aD,h1];simp[h4]
   simp-implicitDefEqProofs[h4i]
   refine(Rs G s).use ?_
   rw[hi]
   simp-implicitDefEqProofs[]
  ·have h4i:¬(s.length:Int)<=4:=by omega
   have hi:aD s=false:=by rw[aD,h1];simp[h4]
   simp-implicitDefEqProofs[h4i,hi]
end
section
inductive Ex where
 |mk (op n:Int) (name:List UInt8) (kids:List Ex)
inductive Sm where
 |mk (op:Int) (name:List UInt8) (args:List Ex) (body els:List Sm)
structure Fd where (name:List UInt8) (params:List (List UInt8)) (body:List Sm)
def Ex.op:Ex->Int| .mk o _ _ _=>o
def Ex.n:Ex->Int| .mk _ n _ _=>n
def Ex.name:Ex->List UInt8| .mk _ _ s _=>s
def Ex.kids:Ex->List Ex| .mk _ _ _ k=>k
def Sm.op:Sm->Int| .mk o _ _ _ _=>o
def Sm.name:Sm->List UInt8| .mk _ s _ _ _=>s
def Sm.args:Sm->List Ex| .mk _ _ a _ _=>a
def Sm.body:Sm->List Sm| .mk _ _ _ b _=>b
def Sm.els:Sm->List Sm| .mk _ _ _ _ e=>e
mutual
def Ex.cs:Ex->List PV
 | .mk o n s k=>[.int .i64 o,.int .i64 n,.str s,.lst 4 (Pu k)]
def Pu:List Ex->List (List PV)
 |[]=>[]
 |e::r=>e.cs::Pu r
end
mutual
def Sm.cs:Sm->List PV
 | .mk o s a b e=>[.int .i64 o,.str s,.lst 4 (Pu a),.lst 5 (Pa b),.lst 5 (Pa e)]
def Pa:List Sm->List (List PV)
 |[]=>[]
 |s::r=>s.cs::Pa r
end
theorem CE:∀l:List Ex,Pu l=l.map Ex.cs
 |[]=>rfl
 |e::r=>by rw[Pu,CE r];rfl
theorem Dd:∀l:List Sm,Pa l=l.map Sm.cs
 |[]=>rfl
 |e::r=>by rw[Pa,Dd r];rfl
def exL(l:List Ex):PV:= .lst 4 (l.map Ex.cs)
def smL(l:List Sm):PV:= .lst 5 (l.map Sm.cs)
theorem Ex.cs_eq(e:Ex):e.cs=[.int .i64 e.op,.int .i64 e.n,.str e.name,exL e.kids]:=by
 cases e;rw[Ex.cs,CE];rfl
theorem Sm.cs_eq(s:Sm):s.cs=[.int .i64 s.op,.str s.name,exL s.args,smL s.body,smL s.els]:=by
 cases s;rw[Sm.cs,CE,Dd,Dd];rfl
@[simp] theorem Ex.cs_len(e:Ex):e.cs.length=4:=by cases e;rfl
@[simp] theorem Ex.cs_take(e:Ex):List.take 4 (e.cs.map AV.p)=e.cs.map AV.p:=by cases e;rfl
@[simp] theorem Sm.cs_len(s:Sm):s.cs.length=5:=by cases s;rfl
@[simp] theorem Sm.cs_take(s:Sm):List.take 5 (s.cs.map AV.p)=s.cs.map AV.p:=by cases s;rfl
def Fd.cs(f:Fd):List PV:=[.str f.name,al f.params,smL f.body]
@[simp] theorem Fd.cs_len(f:Fd):f.cs.length=3:=rfl
@[simp] theorem Fd.cs_take(f:Fd):List.take 3 (f.cs.map AV.p)=f.cs.map AV.p:=rfl
def fdL(l:List Fd):PV:= .lst 3 (l.map Fd.cs)
mutual
def Ex.sz:Ex->Nat
 | .mk _ _ s k=>1+s.length+aY k
def aY:List Ex->Nat
 |[]=>0
 |e::r=>e.sz+aY r
end
mutual
def Sm.sz:Sm->Nat
 | .mk _ s a b e=>1+s.length+aY a+ay b+ay e
def ay:List Sm->Nat
 |[]=>0
 |s::r=>s.sz+ay r
end
def Fd.sz(f:Fd):Nat:=1+f.name.length+(f.params.length+(f.params.map List.length).sum)+ay f.body
def aH(l:List Fd):Nat:=(l.map Fd.sz).sum
theorem Ex.sz_eq(e:Ex):e.sz=1+e.name.length+aY e.kids:=by cases e;rfl
theorem Sm.sz_eq(s:Sm):s.sz=1+s.name.length+aY s.args+ay s.body+ay s.els:=by cases s;rfl
theorem gd:∀a b:List Ex,aY (a++b)=aY a+aY b
 |[],b=>by simp[aY]
 |e::r,b=>by simp only[Zx,aY,gd r b];omega
theorem bM:∀a b:List Sm,ay (a++b)=ay a+ay b
 |[],b=>by simp[ay]
 |e::r,b=>by simp only[Zx,ay,bM r b];omega
theorem bS:∀{l:List Ex} {e:Ex},e∈l->e.sz<=aY l
 |x::r,e,h=>by
  simp only[aY]
  rcases Za.1 h with rfl|h
  ·omega
  ·have:=bS h;omega
theorem ew:∀{l:List Sm} {e:Sm},e∈l->e.sz<=ay l
 |x::r,e,h=>by
  simp only[ay]
  rcases Za.1 h with rfl|h
  ·omega
  ·have:=ew h;omega
theorem bB:∀l:List Ex,l.length<=aY l
 |[]=>YY _
 |e::r=>by have:=bB r;have:=e.sz_eq;simp only[aY,Ze];omega
theorem cC:∀l:List Sm,l.length<=ay l
 |[]=>YY _
 |e::r=>by have:=cC r;have:=e.sz_eq;simp only[ay,Ze];omega
mutual
def Ex.parts:Ex->Nat
 | .mk _ _ _ k=>1+fx k
def fx:List Ex->Nat
 |[]=>0
 |e::r=>e.parts+fx r
end
theorem Ex.parts_eq(e:Ex):e.parts=1+fx e.kids:=by cases e;rfl
theorem lq:∀a b:List Ex,fx (a++b)=fx a+fx b
 |[],b=>by simp[fx]
 |e::r,b=>by simp only[Zx,fx,lq r b];omega
mutual
theorem Ex.parts_le:∀e:Ex,e.parts<=e.sz
 | .mk _ _ s k=>by have:=FR k;simp only[Ex.parts,Ex.sz];omega
theorem FR:∀l:List Ex,fx l<=aY l
 |[]=>YY _
 |e::r=>by have:=e.parts_le;have:=FR r;simp only[fx,aY];omega
end
mutual
def Sm.cnt:Sm->Nat
 | .mk _ _ _ b e=>1+di b+di e
def di:List Sm->Nat
 |[]=>0
 |s::r=>s.cnt+di r
end
theorem Sm.cnt_eq(s:Sm):s.cnt=1+di s.body+di s.els:=by cases s;rfl
theorem sB:∀a b:List Sm,di (a++b)=di a+di b
 |[],b=>by simp[di]
 |e::r,b=>by simp only[Zx,di,sB r b];omega
mutual
theorem Sm.cnt_le:∀s:Sm,s.cnt<=s.sz
 | .mk _ s a b e=>by have:=pu b;have:=pu e;simp only[Sm.cnt,Sm.sz];omega
theorem pu:∀l:List Sm,di l<=ay l
 |[]=>YY _
 |e::r=>by have:=e.cnt_le;have:=pu r;simp only[di,ay];omega
end
def inR(n lo hi:Int):Bool:=decide (lo<=n)&&decide (n<=hi)
def loK(op:Int):Nat:=if op=1\/op=2 then 0 else if op=11\/op=12 then 1 else if op=13 then 0 else 2
def hiK(op:Int):Nat:=if op=1\/op=2 then 0 else if op=11\/op=12 then 1 else if op=13 then 3 else 2
def Hr(op:Int):Bool:=decide (op=2)||decide (op=13)
def lZ(e:Ex):Bool:=inR e.op 1 13&&inR e.kids.length (loK e.op) (hiK e.op)&&(Hr e.op==aD e.name)&&(Hr e.op||decide (e.name=[]))&&inR e.n 0 255&&(decide (e.op=1)||decide (e.n=0))
def bV:Nat->Ex->Bool
 |0,_=>false
 |d+1,e=>lZ e&&e.kids.all (bV d)
def iR(e:Ex):Bool:=bV 6 e&&decide (e.parts<=30)
def iI(op:Int):Nat:=if op=4 then 2 else 1
def dj(op:Int):Bool:=decide (op=1)||decide (op=2)
def gu(s:Sm):Bool:=inR s.op 1 8&&decide (s.args.length=iI s.op)&&(dj s.op==aD s.name)&&(dj s.op||decide (s.name=[]))&&s.args.all iR&&
 (!decide (s.op=8)||(match s.args with|a::_=>decide (a.op=13)|[]=>false))&&(s.els.isEmpty||decide (s.op=5))&&(s.body.isEmpty||decide (s.op=5)||decide (s.op=6))
def az:Nat->Sm->Bool
 |0,_=>false
 |d+1,s=>gu s&&s.body.all (az d)&&s.els.all (az d)
def iO(f:Fd):Bool:=f.params.all aD&&aD f.name&&decide (f.params.length<=3)&&f.body.all (az 4)
def iP(l:List Fd):Nat:=(l.map λf=>di f.body).sum
def bA(l:List Fd):Bool:=inR l.length 1 4&&l.all iO&&decide (iP l<=40)
end
section
theorem iA{s:Bool}{h:List AO}{vs:List AV}{q:PV}{I:List Nat}(H:OwnL s h vs [q] I):∃v,vs=[v]:=by
 have:=H.len
 match vs,this with
 |[v],_=>exact⟨v,rfl⟩
theorem Qq{s:Bool}{h:List AO}{vs:List AV}{q r:PV}{I:List Nat}(H:OwnL s h vs [q,r] I):∃a b,vs=[a,b]:=by
 have:=H.len
 match vs,this with
 |[a,b],_=>exact⟨a,b,rfl⟩
theorem Mr{s:Bool}{h:List AO}{vs:List AV}{q r t:PV}{I:List Nat}(H:OwnL s h vs [q,r,t] I):∃a b c,vs=[a,b,c]:=by
 have:=H.len
 match vs,this with
 |[a,b,c],_=>exact⟨a,b,c,rfl⟩
theorem JO{s:Bool}{h:List AO}{vs:List AV}{e:Ex}{I:List Nat}(H:OwnL s h vs e.cs I):∃K,vs=[.p (.int .i64 e.op),.p (.int .i64 e.n),.p (.str e.name),K]/\OwnL s h [K] [exL e.kids] I:=by
 rw[e.cs_eq] at H
 cases H with
 |p _ _ H=>
  cases H with
  |p _ _ H=>
   cases H with
   |p _ _ H=>
    obtain⟨v,rfl⟩:=iA H
    exact⟨v,rfl,H⟩
theorem Nv{s:Bool}{h:List AO}{o n:Int}{w:List UInt8}{k:List Ex}{K:AV}{I:List Nat}(H:OwnL s h [K] [exL k] I):OwnL s h [.p (.int .i64 o),.p (.int .i64 n),.p (.str w),K] (Ex.mk o n w k).cs I:=by
 rw[Ex.cs_eq]
 exact .p _ (λ_=>rfl) (.p _ (λ_=>rfl) (.p _ (λ_=>rfl) H))
theorem Uu{s:Bool}{h:List AO}{vs:List AV}{e:Sm}{I:List Nat}(H:OwnL s h vs e.cs I):∃A B E I1 I2 I3,vs=[.p (.int .i64 e.op),.p (.str e.name),A,B,E]/\I=I1++(I2++I3)/\OwnL s h [A] [exL e.args] I1/\OwnL s h [B] [smL e.body] I2/\OwnL s h [E] [smL e.els] I3:=by
 rw[e.cs_eq] at H
 cases H with
 |p _ _ H=>
  cases H with
  |p _ _ H=>
   obtain⟨A,B,E,rfl⟩:=Mr H
   obtain⟨I1,I',rfl,h1,H⟩:=H.one
   obtain⟨I2,I3,rfl,h2,h3⟩:=H.one
   exact⟨A,B,E,I1,I2,I3,rfl,rfl,h1,h2,h3⟩
theorem UG{s:Bool}{h:List AO}{o:Int}{w:List UInt8}{a:List Ex}{b e:List Sm}{A B E:AV}{I1 I2 I3:List Nat}(h1:OwnL s h [A] [exL a] I1)(h2:OwnL s h [B] [smL b] I2)(h3:OwnL s h [E] [smL e] I3):
 OwnL s h [.p (.int .i64 o),.p (.str w),A,B,E] (Sm.mk o w a b e).cs (I1++(I2++I3)):=by
 rw[Sm.cs_eq]
 exact .p _ (λ_=>rfl) (.p _ (λ_=>rfl) (h1.app (h2.app h3)))
theorem Ur{s:Bool}{h:List AO}{vs:List AV}{f:Fd}{I:List Nat}(H:OwnL s h vs f.cs I):∃A B I1 I2,vs=[.p (.str f.name),A,B]/\I=I1++I2/\OwnL s h [A] [al f.params] I1/\OwnL s h [B] [smL f.body] I2:=by
 rw[show f.cs=[.str f.name,al f.params,smL f.body] from rfl] at H
 cases H with
 |p _ _ H=>
  obtain⟨A,B,rfl⟩:=Qq H
  obtain⟨I1,I2,rfl,h1,H⟩:=H.one
  exact⟨A,B,I1,I2,rfl,rfl,h1,H⟩
theorem vf{s:Bool}{h:List AO}{w:List UInt8}{ps:List (List UInt8)}{b:List Sm}{A B:AV}{I1 I2:List Nat}(h1:OwnL s h [A] [al ps] I1)(h2:OwnL s h [B] [smL b] I2):OwnL s h [.p (.str w),A,B] (Fd.mk w ps b).cs (I1++I2):=
 .p _ (λ_=>rfl) (h1.app h2)
end
section
def Fr(K:List Nat)(h h':List AO):Prop:=h.length<=h'.length/\∀i,i<h.length->i∉K->h'[i]?=h[i]?
theorem Fr.refl(K:List Nat)(h:List AO):Fr K h h:=⟨YY _,λ_ _ _=>rfl⟩
theorem Fr.more(K:List Nat)(h os:List AO):Fr K h (h++os):=⟨by simp,λi hi _=>YN hi⟩
theorem Fr.trans{K K':List Nat}{h h1 h2:List AO}(a:Fr K h h1)(b:Fr K' h1 h2)(hk:∀i∈K',i∈K\/h.length<=i):Fr K h h2:=
 ⟨Zi a.1 b.1,λi hi hn=>by
   rw[b.2 i (Zm hi a.1) (λhm=>by
    rcases hk i hm with q|q
    ·exact hn q
    ·omega),a.2 i hi hn]⟩
theorem Fr.sub{K K':List Nat}{h h1:List AO}(a:Fr K h h1)(hk:∀i∈K,i∈K'\/h.length<=i):Fr K' h h1:=
 ⟨a.1,λi hi hn=>a.2 i hi λhm=>by
   rcases hk i hm with q|q
   ·exact hn q
   ·omega⟩
theorem Fr.from{K:List Nat}{h os h2:List AO}(a:Fr K (h++os) h2):Fr K h h2:=
 ⟨by have:=a.1;simp at this;omega,λi hi hn=>by rw[a.2 i (by simp;omega) hn,YN hi]⟩
theorem Wx(q:PV):(AV.p q).isCell=true:=rfl
theorem Wj(a b c d:Nat):(AV.sl a b c d).isCell=true:=rfl
theorem Uh(a b c d:Nat):(AV.ptr a b c d).isCell=true:=rfl
theorem Wa(q:PV):(AV.p q).cells=[AV.p q]:=rfl
theorem VY(a b c d:Nat):(AV.sl a b c d).cells=[AV.sl a b c d]:=rfl
theorem UB(a b c d:Nat):(AV.ptr a b c d).cells=[AV.ptr a b c d]:=rfl
end
section
def Yk(hF:List AO)(n:Nat)(o x y:AO):Prop:=
 (x= .dead/\y=o/\okO n o)\/(x= .dead/\y= .dead)\/(x=o/\y= .dead)\/(x= .dead/\∃sz e e1,o= .row sz [e]/\y= .row sz [e1]/\Fzs hF n e e1)
theorem FU{hF:List AO}{n:Nat}:∀(h:List AO) (X Y:Nat->AO->AO),(∀i o,h[i]?=some o->Yk hF n o (X i o) (Y i o))->Thn hF n h (h.mapIdx X) (h.mapIdx Y)
 |[],_,_,_=>by rw[List.mapIdx_nil,List.mapIdx_nil];exact .nil
 |o::r,X,Y,H=>by
  rw[List.mapIdx_cons,List.mapIdx_cons]
  have ih:=FU (hF:=hF) (n:=n) r (λi=>X (i+1)) (λi=>Y (i+1)) λi o h=>H (i+1) o h
  rcases H 0 o rfl with⟨h1,h2,h3⟩|⟨h1,h2⟩|⟨h1,h2⟩|⟨h1,sz,e,e1,rfl,h2,h3⟩
  ·rw[h1,h2];exact .same h3 ih
  ·rw[h1,h2];exact .drop ih
  ·rw[h1,h2];exact .give ih
  ·rw[h1,h2];exact .one h3 ih
end
section
structure LV where (name:List UInt8) (num block:Nat)
structure WS where (vs:List LV) (count:Nat) (code:Int)
def fl(c k:Int):Int:=if c=0 then k else c
theorem Cf{c k:Int}(h:c≠0):fl c k=c:=if_neg h
def lkV(vs:List LV)(s:List UInt8):Option LV:=vs.find? λv=>decide (v.name=s)
def cg(fns:List Fd)(s:List UInt8):Option Nat:=fns.findIdx? λf=>decide (f.name=s)
def AD(fns:List Fd)(j:Nat):Nat:=match fns[j]? with|some f=>f.params.length|none=>0
def mN(vs:List LV)(s:List UInt8)(c:Int):Int:=match lkV vs s with|none=>fl c 3|some _=>c
def mS(fns:List Fd)(k:Nat)(s:List UInt8)(n:Nat)(c:Int):Int:=
 match cg fns s with|none=>fl c 4|some j=>if k<=j then fl c 4 else if AD fns j=n then c else fl c 5
def fZ(fns:List Fd)(k:Nat)(vs:List LV)(o:Int)(s:List UInt8)(n:Nat)(c:Int):Int:=
 if o=2 then mN vs s c else if o=13 then mS fns k s n c else c
mutual
def iM(fns:List Fd)(k:Nat)(vs:List LV):Ex->Int->Int
 | .mk o _ s ks,c=>aK fns k vs ks (fZ fns k vs o s ks.length c)
def aK(fns:List Fd)(k:Nat)(vs:List LV):List Ex->Int->Int
 |[],c=>c
 |e::r,c=>aK fns k vs r (iM fns k vs e c)
end
def vnm(n:Nat):List UInt8:=[118,UInt8.ofNat (97+n%26)]
def kf(vs:List LV)(s:List UInt8):List UInt8:=match lkV vs s with|none=>s|some v=>vnm v.num
mutual
def rnE(vs:List LV):Ex->Ex
 | .mk o n s ks=> .mk o n (if o=2 then kf vs s else s) (cT vs ks)
def cT(vs:List LV):List Ex->List Ex
 |[]=>[]
 |e::r=>rnE vs e::cT vs r
end
def pP(vs:List LV)(s:List UInt8)(b:Nat)(c:Int):Int:=match lkV vs s with|none=>c|some v=>if v.block=b then fl c 2 else c
def eF(w:WS)(s:List UInt8)(b:Nat):WS:=⟨⟨s,w.count,b⟩::w.vs,w.count+1,pP w.vs s b w.code⟩
def opW(o:Int)(s:List UInt8)(b:Nat)(w:WS):WS:=if o=1 then eF w s b else if o=2 then⟨w.vs,w.count,mN w.vs s w.code⟩ else w
def opN(o:Int)(s:List UInt8)(w:WS):List UInt8:=if o=1 then vnm w.count else if o=2 then kf w.vs s else s
def WS.back(w:WS)(vs:List LV):WS:=⟨vs,w.count,w.code⟩
mutual
def stW(fns:List Fd)(k b:Nat):Sm->WS->WS
 | .mk o s a bd el,w=>
   let w2:=opW o s b ⟨w.vs,w.count,aK fns k w.vs a w.code⟩
   let w3:=(aO fns k (b+1) bd w2).back w2.vs
   (aO fns k (b+1) el w3).back w2.vs
def aO(fns:List Fd)(k b:Nat):List Sm->WS->WS
 |[],w=>w
 |s::r,w=>aO fns k b r (stW fns k b s w)
end
def bc(ps:List (List UInt8))(w:WS):WS:=ps.foldl (λw s=>eF w s 0) w
def fnW(fns:List Fd)(k:Nat)(f:Fd):WS:=aO fns k 0 f.body (bc f.params ⟨[],0,if cg fns f.name=some k then 0 else 2⟩)
def kg(fns:List Fd):Nat->List Fd->Int
 |_,[]=>0
 |k,f::r=>if(fnW fns k f).code=0 then kg fns (k+1) r else(fnW fns k f).code
def aI(fns:List Fd):Int:=if bA fns then kg fns 0 fns else 1
abbrev Scp:=List (List UInt8 × Nat)
def eZ(m:Scp)(s:List UInt8):Option Nat:=(m.find? λx=>decide (x.1=s)).map (·.2)
def eK:Scp->List UInt8->Nat->Scp
 |[],s,n=>[(s,n)]
 |x::r,s,n=>if x.1=s then(s,n)::r else x::eK r s n
def fC:List Scp->List UInt8->Option Nat
 |[],_=>none
 |m::r,s=>match eZ m s with|some n=>some n|none=>fC r s
def iq(fns:List Fd)(k:Nat)(ch:List Scp)(c:Int)(e:Ex):Int:=
 if e.op=2 then(if(fC ch e.name).isSome then c else fl c 3)
 else if e.op=13 then(match cg (fns.take k) e.name with|none=>fl c 4|some j=>if AD fns j=e.kids.length then c else fl c 5)
 else c
mutual
def Ex.pre:Ex->List Ex
 | .mk o n s ks=> .mk o n s ks::dQ ks
def dQ:List Ex->List Ex
 |[]=>[]
 |e::r=>e.pre++dQ r
end
def JE(fns:List Fd)(k:Nat)(ch:List Scp)(l:List Ex)(c:Int):Int:=(dQ l).foldl (iq fns k ch) c
def opS(o:Int)(s:List UInt8)(m:Scp)(n:Nat):Scp:=if o=1 then eK m s n else m
def opC(o:Int)(s:List UInt8)(m:Scp)(up:List Scp)(c:Int):Int:=
 if o=1 then(if(eZ m s).isSome then fl c 2 else c) else if o=2 then(if(fC (m::up) s).isSome then c else fl c 3) else c
mutual
def icS(fns:List Fd)(k:Nat):Sm->Scp->List Scp->Int->Scp × Int
 | .mk o s a bd el,m,up,c=>
   let m2:=opS o s m 0
   let c2:=opC o s m up (JE fns k (m::up) a c)
   (m2,if o=5\/o=6 then(jL fns k el [] (m2::up) (jL fns k bd [] (m2::up) c2).2).2 else c2)
def jL(fns:List Fd)(k:Nat):List Sm->Scp->List Scp->Int->Scp × Int
 |[],m,_,c=>(m,c)
 |s::r,m,up,c=>jL fns k r (icS fns k s m up c).1 up (icS fns k s m up c).2
end
def kS(ps:List (List UInt8))(m:Scp)(c:Int):Scp × Int:=ps.foldl (λx s=>(eK x.1 s 0,if(eZ x.1 s).isSome then fl x.2 2 else x.2)) (m,c)
def icF(fns:List Fd)(k:Nat)(f:Fd)(c:Int):Int:=
 let c1:=if(match cg fns f.name with|some j=>decide (j<k)|none=>true) then fl c 2 else c
 let x:=kS f.params [] c1
 (jL fns k f.body x.1 [] x.2).2
def mK(fns:List Fd):Nat->List Fd->Int->Int
 |_,[],c=>c
 |k,f::r,c=>mK fns (k+1) r (icF fns k f c)
def SR(g:LV->Nat):Nat->List LV->List Scp->Prop
 |_,_,[]=>False
 |b,vs,m::up=>∃v1 v2,vs=v1++v2/\(∀v∈v1,v.block=b)/\(∀s,(lkV v1 s).map g=eZ m s)/\match b with
  |0=>v2=[]/\up=[]
  |b+1=>SR g b v2 up
theorem Be(a b:List LV)(s:List UInt8):lkV (a++b) s=match lkV a s with|some v=>some v|none=>lkV b s:=by
 simp only[lkV,List.find?_append]
 cases List.find? (λv=>decide (v.name=s)) a<;>rfl
variable {g:LV->Nat}
theorem SR.blk:∀{b:Nat} {vs:List LV} {ch:List Scp},SR g b vs ch->∀v∈vs,v.block<=b
 |b,_,[],h,v,hv=>by cases b<;>exact False.elim h
 |0,vs,m::up,⟨v1,v2,e,h1,_,h3,_⟩,v,hv=>by
  subst e;subst h3
  rw[ZB] at hv
  exact Nat.le_of_eq (h1 v hv)
 |b+1,vs,m::up,⟨v1,v2,e,h1,_,h3⟩,v,hv=>by
  subst e
  rcases YV.1 hv with h|h
  ·exact Nat.le_of_eq (h1 v h)
  ·exact Nat.le_succ_of_le (SR.blk h3 v h)
theorem SR.fnd:∀{b:Nat} {vs:List LV} {ch:List Scp},SR g b vs ch->∀s,(lkV vs s).map g=fC ch s
 |b,_,[],h,s=>by cases b<;>exact False.elim h
 |0,vs,m::up,⟨v1,v2,e,h1,h2,h3,h4⟩,s=>by
  subst e;subst h3;subst h4
  rw[ZB,h2,fC]
  cases eZ m s<;>rfl
 |b+1,vs,m::up,⟨v1,v2,e,h1,h2,h3⟩,s=>by
  subst e
  have ih:=SR.fnd h3 s
  have h2:=h2 s
  rw[Be,fC,←h2]
  cases e1:lkV v1 s with
  |some v=>rfl
  |none=>exact ih
theorem SR.is{b:Nat}{vs:List LV}{ch:List Scp}(h:SR g b vs ch)(s:List UInt8):(lkV vs s).isSome=(fC ch s).isSome:=by rw[←h.fnd s,Option.isSome_map]
theorem vP{vs:List LV}{s:List UInt8}{v:LV}(h:lkV vs s=some v):v∈vs:=List.mem_of_find?_eq_some h
theorem SR.put:∀{b:Nat} {vs:List LV} {m:Scp} {up:List Scp},SR g b vs (m::up)->∀(s:List UInt8) (c:Int),pP vs s b c=if(eZ m s).isSome then fl c 2 else c:=by
 intro b vs m up h s c
 have key:∀v1 v2:List LV,(∀v∈v1,v.block=b)->(lkV v1 s).map g=eZ m s->(∀v∈v2,v.block≠b)->pP (v1++v2) s b c=if(eZ m s).isSome then fl c 2 else c:=by
  intro v1 v2 h1 h2 h3
  rw[←h2,pP,Be]
  cases e1:lkV v1 s with
  |some v=>simp[h1 v (vP e1)]
  |none=>
   cases e2:lkV v2 s with
   |none=>rfl
   |some v=>simp[h3 v (vP e2)]
 match b,h with
 |0,⟨v1,v2,e,h1,h2,h3,_⟩=>subst e;subst h3;exact key v1 [] h1 (h2 s) (λv hv=>by simp at hv)
 |b+1,⟨v1,v2,e,h1,h2,h3⟩=>subst e;exact key v1 v2 h1 (h2 s) (λv hv e=>by have:=h3.blk v hv;omega)
theorem CR:∀(m:Scp) (s:List UInt8) (n:Nat) (t:List UInt8),eZ (eK m s n) t=if s=t then some n else eZ m t
 |[],s,n,t=>by
  by_cases h:s=t
  ·simp[eK,eZ,h]
  ·simp[eK,eZ,h]
 |x::r,s,n,t=>by
  have ih:=CR r s n t
  simp only[eZ] at ih
  by_cases hx:x.1=s
  ·by_cases h:s=t
   ·simp[eK,eZ,hx,h]
   ·have:¬x.1=t:=by rw[hx];exact h
    simp[eK,eZ,hx,h]
  ·by_cases ht:x.1=t
   ·have:¬s=t:=λe=>hx (ht.trans e.symm)
    rw[eK,if_neg hx,if_neg this];simp[eZ,ht]
   ·simp only[eK,eZ,if_neg hx,List.find?_cons,ht,decide_false]
    exact ih
theorem SR.add{b:Nat}{vs:List LV}{m:Scp}{up:List Scp}(h:SR g b vs (m::up))(s:List UInt8)(n k:Nat)(hg:g ⟨s,n,b⟩=k):SR g b (⟨s,n,b⟩::vs) (eK m s k::up):=by
 have key:∀v1:List LV,(∀s,(lkV v1 s).map g=eZ m s)->∀t,(lkV (⟨s,n,b⟩::v1) t).map g=eZ (eK m s k) t:=by
  intro v1 h2 t
  rw[CR]
  by_cases e:s=t
  ·simp[lkV,e,←hg]
  ·rw[if_neg e,←h2 t];simp[lkV,e]
 match b,h with
 |0,⟨v1,v2,e,h1,h2,h3⟩=>
  subst e
  refine⟨⟨s,n,0⟩::v1,v2,rfl,λv hv=>?_,key v1 h2,h3⟩
  rcases Za.1 hv with rfl|hv
  ·rfl
  ·exact h1 v hv
 |b+1,⟨v1,v2,e,h1,h2,h3⟩=>
  subst e
  refine⟨⟨s,n,b+1⟩::v1,v2,rfl,λv hv=>?_,key v1 h2,h3⟩
  rcases Za.1 hv with rfl|hv
  ·rfl
  ·exact h1 v hv
theorem SR.open{b:Nat}{vs:List LV}{ch:List Scp}(h:SR g b vs ch):SR g (b+1) vs ([]::ch):=⟨[],vs,rfl,λv hv=>by simp at hv,λs=>rfl,h⟩
theorem SR.base:SR g 0 [] [[]]:=⟨[],[],rfl,λv hv=>by simp at hv,λs=>rfl,rfl,rfl⟩
theorem Fk{α:Type}{p:α->Bool}{l:List α}{k:Nat}:(l.take k).findIdx? p=match l.findIdx? p with|some j=>if j<k then some j else none|none=>none:=by
 cases h:l.findIdx? p with
 |none=>
  rw[Zs] at h⊢
  exact λx hx=>h x (ZG hx)
 |some j=>
  rw[Zg] at h
  obtain⟨h1,h2,h3⟩:=h
  simp only
  split
  ·rename_i hj
   rw[Zg]
   exact⟨by rw[Zl];omega,by rw[List.getElem_take];exact h2,λi hi=>by rw[List.getElem_take];exact h3 i hi⟩
  ·rename_i hj
   rw[Zs]
   intro x hx
   obtain⟨i,hi,rfl⟩:=ZO.1 hx
   simpa using h3 i (by omega)
theorem Ps(fns:List Fd)(k:Nat){vs:List LV}{ch:List Scp}(h:∀s,(lkV vs s).isSome=(fC ch s).isSome)(e:Ex)(c:Int):fZ fns k vs e.op e.name e.kids.length c=iq fns k ch c e:=by
 unfold fZ iq
 split
 ·rw[←h,mN];cases lkV vs e.name<;>rfl
 ·split
  ·rw[mS,cg,cg,Fk]
   cases List.findIdx? (λf=>decide (f.name=e.name)) fns with
   |none=>rfl
   |some j=>
    simp only
    by_cases hj:j<k
    ·rw[if_neg (by omega),if_pos hj]
    ·rw[if_pos (by omega),if_neg hj]
  ·rfl
mutual
theorem RK(fns:List Fd)(k:Nat){vs:List LV}{ch:List Scp}(h:∀s,(lkV vs s).isSome=(fC ch s).isSome):∀(e:Ex) (c:Int),iM fns k vs e c=e.pre.foldl (iq fns k ch) c
 | .mk o n s ks,c=>by
   rw[iM,Ex.pre,List.foldl_cons,←BF fns k h ks,←Ps fns k h];rfl
theorem BF(fns:List Fd)(k:Nat){vs:List LV}{ch:List Scp}(h:∀s,(lkV vs s).isSome=(fC ch s).isSome):∀(l:List Ex) (c:Int),aK fns k vs l c=(dQ l).foldl (iq fns k ch) c
 |[],c=>rfl
 |e::r,c=>by rw[aK,dQ,List.foldl_append,RK fns k h e,BF fns k h r]
end
abbrev g0:LV->Nat:=λ_=>0
theorem Th{b:Nat}{w:WS}{m:Scp}{up:List Scp}(h:SR g0 b w.vs (m::up))(o:Int)(s:List UInt8):SR g0 b (opW o s b w).vs (opS o s m 0::up)/\(opW o s b w).code=opC o s m up w.code:=by
 unfold opW opS opC
 by_cases h1:o=1
 ·simp only[h1,if_true]
  exact⟨h.add s _ 0 rfl,h.put s _⟩
 ·simp only[if_neg h1]
  split
  ·refine⟨h,?_⟩
   have:=h.is s
   simp only[mN]
   rw[←this]
   cases lkV w.vs s<;>rfl
  ·exact⟨h,rfl⟩
theorem IT{d:Nat}{o:Int}{s:List UInt8}{a:List Ex}{bd el:List Sm}(h:az (d+1) (.mk o s a bd el)=true):bd.all (az d)=true/\el.all (az d)=true/\(¬(o=5\/o=6)->bd=[]/\el=[]):=by
 simp only[az,gu,Sm.op,Sm.body,Sm.els,YX,Bool.or_eq_true,decide_eq_true_eq,List.isEmpty_iff] at h
 refine⟨h.1.2,h.2,λhn=>⟨?_,?_⟩⟩
 ·rcases h.1.1.2 with(h|h)|h
  ·exact h
  ·exact absurd (.inl (of_decide_eq_true h)) hn
  ·exact absurd (.inr (of_decide_eq_true h)) hn
 ·rcases h.1.1.1.2 with h|h
  ·exact h
  ·exact absurd (.inl (of_decide_eq_true h)) hn
theorem cb(w:WS)(vs:List LV):(w.back vs).code=w.code:=rfl
theorem Tl(fns:List Fd)(k:Nat):∀(d b:Nat) (l:List Sm),l.all (az d)=true->∀(w:WS) (m:Scp) (up:List Scp),SR g0 b w.vs (m::up)->
 SR g0 b (aO fns k b l w).vs ((jL fns k l m up w.code).1::up)/\(aO fns k b l w).code=(jL fns k l m up w.code).2:=by
 intro d
 induction d with
 |zero=>
  intro b l hl w m up h
  cases l with
  |nil=>exact⟨h,rfl⟩
  |cons s r=>simp[az] at hl
 |succ d ih=>
  have dT:∀(b:Nat) (s:Sm),az (d+1) s=true->∀(w:WS) (m:Scp) (up:List Scp),SR g0 b w.vs (m::up)->
   SR g0 b (stW fns k b s w).vs ((icS fns k s m up w.code).1::up)/\(stW fns k b s w).code=(icS fns k s m up w.code).2:=by
   intro b s hs w m up h
   obtain⟨o,n,a,bd,el⟩:=s
   obtain⟨f1,f2,f3⟩:=IT hs
   have hc:=BF fns k h.is a w.code
   obtain⟨g1,g2⟩:=Th (w:=⟨w.vs,w.count,aK fns k w.vs a w.code⟩) h o n
   rw[stW,icS]
   simp only[hc] at g1 g2⊢
   generalize hw2:opW o n b ⟨w.vs,w.count,(dQ a).foldl (iq fns k (m::up)) w.code⟩=w2 at*
   refine⟨g1,?_⟩
   rw[cb]
   have g2':w2.code=opC o n m up (JE fns k (m::up) a w.code):=g2
   rw[←g2']
   by_cases ho:o=5\/o=6
   ·rw[if_pos ho]
    have k1:=ih (b+1) bd f1 w2 [] _ g1.open
    have k2:=ih (b+1) el f2 ((aO fns k (b+1) bd w2).back w2.vs) [] _ g1.open
    rw[k2.2,cb,k1.2]
   ·obtain⟨rfl,rfl⟩:=f3 ho
    rw[if_neg ho]
    simp[aO,WS.back]
  intro b l
  induction l with
  |nil=>intro _ w m up h;exact⟨h,rfl⟩
  |cons s r ihl=>
   intro hl w m up h
   rw[List.all_cons,YX] at hl
   obtain⟨k1,k2⟩:=dT b s hl.1 w m up h
   have:=ihl hl.2 _ _ up k1
   rw[aO,jL,←k2]
   exact this
theorem EX:∀(ps:List (List UInt8)) (w:WS) (m:Scp),SR g0 0 w.vs [m]->SR g0 0 (bc ps w).vs [(kS ps m w.code).1]/\(bc ps w).code=(kS ps m w.code).2
 |[],w,m,h=>⟨h,rfl⟩
 |s::r,w,m,h=>by
  have hp:=h.put s w.code
  have:=EX r (eF w s 0) (eK m s 0) (h.add s w.count 0 rfl)
  simp only[bc,kS,List.foldl_cons] at this⊢
  rw[←hp]
  exact this
theorem Pr{fns:List Fd}{k:Nat}{ch:List Scp}{c:Int}(h:c≠0)(e:Ex):iq fns k ch c e=c:=by
 unfold iq
 simp only[Cf h]
 split
 ·split<;>rfl
 ·split
  ·split
   ·rfl
   ·split<;>rfl
  ·rfl
theorem Es{fns:List Fd}{k:Nat}{ch:List Scp}{c:Int}(h:c≠0):∀l:List Ex,l.foldl (iq fns k ch) c=c
 |[]=>rfl
 |e::r=>by rw[List.foldl_cons,Pr h,Es h r]
theorem Pe{o:Int}{s:List UInt8}{m:Scp}{up:List Scp}{c:Int}(h:c≠0):opC o s m up c=c:=by
 unfold opC
 simp only[Cf h]
 split
 ·split<;>rfl
 ·split
  ·split<;>rfl
  ·rfl
mutual
theorem Pp(fns:List Fd)(k:Nat){c:Int}(h:c≠0):∀(s:Sm) (m:Scp) (up:List Scp),(icS fns k s m up c).2=c
 | .mk o s a bd el,m,up=>by
   rw[icS]
   simp only[JE,Es h,Pe h]
   rw[sR fns k h bd,sR fns k h el,ite_self]
theorem sR(fns:List Fd)(k:Nat){c:Int}(h:c≠0):∀(l:List Sm) (m:Scp) (up:List Scp),(jL fns k l m up c).2=c
 |[],m,up=>rfl
 |s::r,m,up=>by rw[jL,Pp fns k h s m up,sR fns k h r]
end
theorem zI{c:Int}(h:c≠0):∀(ps:List (List UInt8)) (m:Scp),(kS ps m c).2=c
 |[],m=>rfl
 |s::r,m=>by
  have:=zI h r (eK m s 0)
  simp only[kS,List.foldl_cons,Cf h,ite_self] at this⊢
  exact this
theorem Po(fns:List Fd)(k:Nat)(f:Fd){c:Int}(h:c≠0):icF fns k f c=c:=by
 simp only[icF,Cf h,ite_self]
 rw[zI h,sR fns k h]
theorem BV(fns:List Fd){c:Int}(h:c≠0):∀(l:List Fd) (k:Nat),mK fns k l c=c
 |[],k=>rfl
 |f::r,k=>by rw[mK,Po fns k f h,BV fns h r]
theorem Ei{fns:List Fd}{k:Nat}{f:Fd}(h:fns[k]?=some f):∃j,cg fns f.name=some j/\j<=k:=by
 cases e:cg fns f.name with
 |none=>
  rw[cg,Zs] at e
  have:=e f (YS h)
  simp at this
 |some j=>
  refine⟨j,rfl,?_⟩
  rw[cg,Zg] at e
  obtain⟨h1,h2,h3⟩:=e
  rcases Zy k j with hk|hk
  ·have:=h3 k hk
   obtain⟨a1,a2⟩:=YL.1 h
   rw[a2] at this
   simp at this
  ·exact hk
theorem We(fns:List Fd){k:Nat}{f:Fd}(hf:fns[k]?=some f)(hok:iO f=true):(fnW fns k f).code=icF fns k f 0:=by
 obtain⟨j,e1,e2⟩:=Ei hf
 have hb:f.body.all (az 4)=true:=by simp only[iO,YX] at hok;exact hok.2
 have hc:(if cg fns f.name=some k then(0:Int) else 2)=if(match cg fns f.name with|some j=>decide (j<k)|none=>true) then fl 0 2 else 0:=by
  rw[e1]
  by_cases h:j=k
  ·subst h;simp
  ·have:j<k:=by omega
   simp[h,this,fl]
 obtain⟨p1,p2⟩:=EX f.params ⟨[],0,if cg fns f.name=some k then(0:Int) else 2⟩ [] SR.base
 obtain⟨q1,q2⟩:=Tl fns k 4 0 f.body hb _ _ [] p1
 rw[fnW,q2,p2]
 simp only[icF,←hc]
theorem Nf(fns:List Fd):∀(l:List Fd) (k:Nat),(∀i,l[i]?=fns[k+i]?)->l.all iO=true->kg fns k l=mK fns k l 0
 |[],k,_,_=>rfl
 |f::r,k,hl,ha=>by
  rw[List.all_cons,YX] at ha
  have h0:fns[k]?=some f:=by have:=hl 0;simpa using this.symm
  have hr:∀i,r[i]?=fns[k+1+i]?:=λi=>by have:=hl (i+1);rw[Zd] at this;rw[this];congr 1;omega
  rw[kg,mK,We fns h0 ha.1]
  split
  ·rename_i e;rw[e];exact Nf fns r (k+1) hr ha.2
  ·rename_i e;rw[BV fns e]
theorem JC(fns:List Fd):aI fns=if bA fns then mK fns 0 fns 0 else 1:=by
 unfold aI
 split
 ·rename_i h
  simp only[bA,YX] at h
  exact Nf fns fns 0 (λi=>by rw[Zz]) h.1.2
 ·rfl
end
section
mutual
def rnS(fns:List Fd)(k b:Nat):Sm->WS->Sm
 | .mk o s a bd el,w=>
   let w2:=opW o s b ⟨w.vs,w.count,aK fns k w.vs a w.code⟩
   .mk o (opN o s w) (cT w.vs a) (cu fns k (b+1) bd w2) (cu fns k (b+1) el ((aO fns k (b+1) bd w2).back w2.vs))
def cu(fns:List Fd)(k b:Nat):List Sm->WS->List Sm
 |[],_=>[]
 |s::r,w=>rnS fns k b s w::cu fns k b r (stW fns k b s w)
end
def fh:List (List UInt8)->WS->List (List UInt8)
 |[],_=>[]
 |s::r,w=>vnm w.count::fh r (eF w s 0)
def rnF(fns:List Fd)(k:Nat)(f:Fd):Fd:=
 ⟨f.name,fh f.params ⟨[],0,if cg fns f.name=some k then 0 else 2⟩,cu fns k 0 f.body (bc f.params ⟨[],0,if cg fns f.name=some k then 0 else 2⟩)⟩
mutual
def ju:Sm->Nat
 | .mk o _ _ bd el=>(if o=1 then 1 else 0)+bI bd+bI el
def bI:List Sm->Nat
 |[]=>0
 |s::r=>ju s+bI r
end
theorem pi(o:Int)(s:List UInt8)(b:Nat)(w:WS):(opW o s b w).count=w.count+if o=1 then 1 else 0:=by
 unfold opW
 split
 ·rfl
 ·split<;>rfl
mutual
theorem tf(fns:List Fd)(k:Nat):∀(s:Sm) (b:Nat) (w:WS),(stW fns k b s w).count=w.count+ju s
 | .mk o s a bd el,b,w=>by
   rw[stW,ju]
   simp only[WS.back]
   rw[fa fns k el,fa fns k bd,pi];show w.count+_+_+_=_
   omega
theorem fa(fns:List Fd)(k:Nat):∀(l:List Sm) (b:Nat) (w:WS),(aO fns k b l w).count=w.count+bI l
 |[],b,w=>rfl
 |s::r,b,w=>by rw[aO,bI,fa fns k r,tf fns k s];omega
end
mutual
theorem QH:∀s:Sm,ju s<=s.cnt
 | .mk o s a bd el=>by
   have:=rM bd
   have:=rM el
   simp only[ju,Sm.cnt]
   split<;>omega
theorem rM:∀l:List Sm,bI l<=di l
 |[]=>YY _
 |s::r=>by have:=QH s;have:=rM r;simp only[bI,di];omega
end
theorem nu:∀(ps:List (List UInt8)) (w:WS),(bc ps w).count=w.count+ps.length
 |[],w=>rfl
 |s::r,w=>by
  have:=nu r (eF w s 0)
  simp only[bc,List.foldl_cons,Ze] at this⊢
  rw[this];simp only[eF];omega
theorem Rb(o:Int)(s:List UInt8)(b:Nat)(w:WS):∃e,(opW o s b w).vs=e++w.vs:=by
 unfold opW
 split
 ·exact⟨[_],rfl⟩
 ·split<;>exact⟨[],rfl⟩
theorem IY(fns:List Fd)(k b:Nat)(o:Int)(s:List UInt8)(a:List Ex)(bd el:List Sm)(w:WS):(stW fns k b (.mk o s a bd el) w).vs=(opW o s b ⟨w.vs,w.count,aK fns k w.vs a w.code⟩).vs:=rfl
theorem Gx(fns:List Fd)(k:Nat):∀(l:List Sm) (b:Nat) (w:WS),∃e,(aO fns k b l w).vs=e++w.vs
 |[],b,w=>⟨[],rfl⟩
 | .mk o s a bd el::r,b,w=>by
   obtain⟨e1,h1⟩:=Gx fns k r b (stW fns k b (.mk o s a bd el) w)
   obtain⟨e2,h2⟩:=Rb o s b ⟨w.vs,w.count,aK fns k w.vs a w.code⟩
   exact⟨e1++e2,by rw[aO,h1,IY,h2,Zt]⟩
theorem Up{o:Int}{s:List UInt8}{b:Nat}{w:WS}(h:w.vs.length<=w.count):(opW o s b w).vs.length<=(opW o s b w).count:=by
 unfold opW
 split
 ·simp[eF,h]
 ·split<;>exact h
theorem SX(fns:List Fd)(k:Nat){s:Sm}{b:Nat}{w:WS}(h:w.vs.length<=w.count):(stW fns k b s w).vs.length<=(stW fns k b s w).count:=by
 obtain⟨o,n,a,bd,el⟩:=s
 rw[tf,IY]
 have:=Up (o:=o) (s:=n) (b:=b) (w:=⟨w.vs,w.count,aK fns k w.vs a w.code⟩) h
 rw[pi] at this
 simp only[ju]
 simp only at this
 omega
theorem KI(fns:List Fd)(k:Nat):∀{l:List Sm} {b:Nat} {w:WS},w.vs.length<=w.count->(aO fns k b l w).vs.length<=(aO fns k b l w).count
 |[],_,_,h=>h
 |s::r,b,w,h=>KI fns k (l:=r) (SX fns k h)
mutual
def Sm.pre(d:Nat):Sm->List (Sm × Nat)
 | .mk o s a bd el=>(.mk o s a bd el,d)::(bC (d+1) bd++bC (d+1) el)
def bC(d:Nat):List Sm->List (Sm × Nat)
 |[]=>[]
 |s::r=>Sm.pre d s++bC d r
end
theorem Sm.pre_eq(d:Nat)(s:Sm):s.pre d=(s,d)::(bC (d+1) s.body++bC (d+1) s.els):=by cases s;rfl
theorem uP(d:Nat):∀a b:List Sm,bC d (a++b)=bC d a++bC d b
 |[],b=>rfl
 |s::r,b=>by rw[Zx,bC,bC,uP d r b,Zt]
theorem Ex.pre_eq(e:Ex):e.pre=e::dQ e.kids:=by cases e;rfl
theorem vl:∀a b:List Ex,dQ (a++b)=dQ a++dQ b
 |[],b=>rfl
 |e::r,b=>by rw[Zx,dQ,dQ,vl r b,Zt]
mutual
theorem Sm.pre_len:∀(s:Sm) (d:Nat),(s.pre d).length=s.cnt
 | .mk o s a bd el,d=>by simp only[Sm.pre,Sm.cnt,Ze,YZ,mG bd,mG el];omega
theorem mG:∀(l:List Sm) (d:Nat),(bC d l).length=di l
 |[],d=>rfl
 |s::r,d=>by simp only[bC,di,YZ,Sm.pre_len s,mG r]
end
end
section
def irN(ch:List Scp)(s:List UInt8):List UInt8:=vnm ((fC ch s).getD 0)
mutual
def irE(ch:List Scp):Ex->Ex
 | .mk o n s ks=> .mk o n (if o=2 then irN ch s else s) (oG ch ks)
def oG(ch:List Scp):List Ex->List Ex
 |[]=>[]
 |e::r=>irE ch e::oG ch r
end
mutual
def irS:Sm->Scp->List Scp->Nat->Sm × Scp × Nat
 | .mk o s a bd el,m,up,n=>
   let m2:=opS o s m n
   let n2:=if o=1 then n+1 else n
   let x:=eL bd [] (m2::up) n2
   let y:=eL el [] (m2::up) x.2.2
   (.mk o (if o=1 then vnm n else if o=2 then irN (m::up) s else s) (oG (m::up) a) x.1 y.1,m2,y.2.2)
def eL:List Sm->Scp->List Scp->Nat->List Sm × Scp × Nat
 |[],m,_,n=>([],m,n)
 |s::r,m,up,n=>
  let x:=irS s m up n
  let y:=eL r x.2.1 up x.2.2
  (x.1::y.1,y.2.1,y.2.2)
end
def gn:List (List UInt8)->Scp->Nat->List (List UInt8) × Scp × Nat
 |[],m,n=>([],m,n)
 |s::r,m,n=>let y:=gn r (eK m s n) (n+1);(vnm n::y.1,y.2.1,y.2.2)
def irF(f:Fd):Fd:=
 let x:=gn f.params [] 0
 ⟨f.name,x.1,(eL f.body x.2.1 [] x.2.2).1⟩
theorem zX{vs:List LV}{s:List UInt8}{c:Int}(h:c≠0):mN vs s c=c:=by unfold mN;split<;>simp[Cf h]
theorem JH{fns:List Fd}{k:Nat}{s:List UInt8}{n:Nat}{c:Int}(h:c≠0):mS fns k s n c=c:=by
 unfold mS
 simp only[Cf h]
 split
 ·rfl
 ·split
  ·rfl
  ·split<;>rfl
theorem Ja{fns:List Fd}{k:Nat}{vs:List LV}{o:Int}{s:List UInt8}{n:Nat}{c:Int}(h:c≠0):fZ fns k vs o s n c=c:=by
 unfold fZ
 rw[zX h,JH h]
 split
 ·rfl
 ·split<;>rfl
mutual
theorem LU(fns:List Fd)(k:Nat)(vs:List LV){c:Int}(h:c≠0):∀e:Ex,iM fns k vs e c=c
 | .mk o n s ks=>by rw[iM,Ja h,pr fns k vs h ks]
theorem pr(fns:List Fd)(k:Nat)(vs:List LV){c:Int}(h:c≠0):∀l:List Ex,aK fns k vs l c=c
 |[]=>rfl
 |e::r=>by rw[aK,LU fns k vs h e,pr fns k vs h r]
end
theorem bL{fns:List Fd}{k:Nat}{vs:List LV}{l:List Ex}{c:Int}(h:aK fns k vs l c=0):c=0:=by
 by_cases hc:c=0
 ·exact hc
 ·rw[pr fns k vs hc] at h;exact h
theorem iK{vs:List LV}{s:List UInt8}{c:Int}(h:mN vs s c=0):c=0/\∃v,lkV vs s=some v:=by
 by_cases hc:c=0
 ·refine⟨hc,?_⟩
  unfold mN at h
  cases e:lkV vs s with
  |some v=>exact⟨v,rfl⟩
  |none=>rw[e] at h;simp[fl,hc] at h
 ·rw[zX hc] at h;exact absurd h hc
abbrev gN:LV->Nat:=λv=>v.num
theorem KS{b:Nat}{vs:List LV}{ch:List Scp}(h:SR gN b vs ch){s:List UInt8}(hv:∃v,lkV vs s=some v):kf vs s=irN ch s:=by
 obtain⟨v,e⟩:=hv
 rw[kf,irN,←h.fnd s,e];rfl
mutual
theorem Uv{fns:List Fd}{k b:Nat}{vs:List LV}{ch:List Scp}(h:SR gN b vs ch):∀(e:Ex) (c:Int),iM fns k vs e c=0->rnE vs e=irE ch e
 | .mk o n s ks,c,hz=>by
   rw[iM] at hz
   rw[rnE,irE,FW h ks _ hz]
   by_cases ho:o=2
   ·have h1:=bL hz
    rw[fZ,if_pos ho] at h1
    rw[if_pos ho,if_pos ho,KS h (iK h1).2]
   ·rw[if_neg ho,if_neg ho]
theorem FW{fns:List Fd}{k b:Nat}{vs:List LV}{ch:List Scp}(h:SR gN b vs ch):∀(l:List Ex) (c:Int),aK fns k vs l c=0->cT vs l=oG ch l
 |[],c,_=>rfl
 |e::r,c,hz=>by
  rw[aK] at hz
  rw[cT,oG,Uv h e c (bL hz),FW h r _ hz]
end
theorem Hf{o:Int}{s:List UInt8}{b:Nat}{w:WS}(h:w.code≠0):(opW o s b w).code=w.code:=by
 unfold opW
 split
 ·simp only[eF,pP,Cf h]
  split
  ·rfl
  ·split<;>rfl
 ·split
  ·exact zX h
  ·rfl
mutual
theorem Nu(fns:List Fd)(k:Nat):∀(s:Sm) (b:Nat) (w:WS),w.code≠0->(stW fns k b s w).code=w.code
 | .mk o s a bd el,b,w,h=>by
   have e1:(aK fns k w.vs a w.code)=w.code:=pr fns k w.vs h a
   have e2:(opW o s b ⟨w.vs,w.count,aK fns k w.vs a w.code⟩).code=w.code:=by rw[Hf]<;>simp only[e1];exact h
   have e3:=te fns k bd (b+1) (opW o s b ⟨w.vs,w.count,aK fns k w.vs a w.code⟩) (by rw[e2];exact h)
   rw[stW,cb,te fns k el _ _ (by rw[cb,e3,e2];exact h),cb,e3,e2]
theorem te(fns:List Fd)(k:Nat):∀(l:List Sm) (b:Nat) (w:WS),w.code≠0->(aO fns k b l w).code=w.code
 |[],b,w,h=>rfl
 |s::r,b,w,h=>by
  have e1:=Nu fns k s b w h
  rw[aO,te fns k r b _ (by rw[e1];exact h),e1]
end
theorem bg{fns:List Fd}{k b:Nat}{l:List Sm}{w:WS}(h:(aO fns k b l w).code=0):w.code=0:=by
 by_cases hc:w.code=0
 ·exact hc
 ·rw[te fns k l b w hc] at h;exact h
theorem ry{o:Int}{s:List UInt8}{b:Nat}{w:WS}(h:(opW o s b w).code=0):w.code=0:=by
 by_cases hc:w.code=0
 ·exact hc
 ·rw[Hf hc] at h;exact h
theorem Tt{b:Nat}{w:WS}{m:Scp}{up:List Scp}(h:SR gN b w.vs (m::up))(o:Int)(s:List UInt8)(c:Int)(hz:(opW o s b ⟨w.vs,w.count,c⟩).code=0):
 SR gN b (opW o s b ⟨w.vs,w.count,c⟩).vs (opS o s m w.count::up)/\opN o s w=(if o=1 then vnm w.count else if o=2 then irN (m::up) s else s):=by
 unfold opW at hz⊢
 unfold opS opN
 by_cases h1:o=1
 ·simp only[h1,if_true]
  exact⟨h.add s _ _ rfl,trivial⟩
 ·simp only[if_neg h1] at hz⊢
  by_cases h2:o=2
  ·simp only[h2,if_true] at hz⊢
   exact⟨h,KS h (iK hz).2⟩
  ·simp only[if_neg h2]
   exact⟨h,trivial⟩
mutual
theorem Uz(fns:List Fd)(k:Nat):∀(s:Sm) (b:Nat) (w:WS) (m:Scp) (up:List Scp),SR gN b w.vs (m::up)->(stW fns k b s w).code=0->
 rnS fns k b s w=(irS s m up w.count).1/\SR gN b (stW fns k b s w).vs ((irS s m up w.count).2.1::up)/\(stW fns k b s w).count=(irS s m up w.count).2.2
 | .mk o s a bd el,b,w,m,up,h,hz=>by
   rw[stW,cb] at hz
   have z1:=bg hz
   rw[cb] at z1
   have z2:=bg z1
   have z3:=ry z2
   obtain⟨p1,p2⟩:=Tt h o s _ z2
   obtain⟨q1,q2,q3⟩:=Bm fns k bd (b+1) _ [] _ p1.open z1
   obtain⟨r1,r2,r3⟩:=Bm fns k el (b+1) ((aO fns k (b+1) bd (opW o s b ⟨w.vs,w.count,aK fns k w.vs a w.code⟩)).back (opW o s b ⟨w.vs,w.count,aK fns k w.vs a w.code⟩).vs) [] _ p1.open hz
   have hcn:(opW o s b ⟨w.vs,w.count,aK fns k w.vs a w.code⟩).count=if o=1 then w.count+1 else w.count:=by
    rw[pi];split<;>rfl
   have hbc:((aO fns k (b+1) bd (opW o s b ⟨w.vs,w.count,aK fns k w.vs a w.code⟩)).back (opW o s b ⟨w.vs,w.count,aK fns k w.vs a w.code⟩).vs).count=(aO fns k (b+1) bd (opW o s b ⟨w.vs,w.count,aK fns k w.vs a w.code⟩)).count:=rfl
   rw[hcn] at q1 q3
   rw[hbc,q3] at r1 r3
   refine⟨?_,p1,?_⟩
   ·rw[rnS,irS]
    simp only
    rw[q1,r1,p2,FW h a _ z3]
   ·rw[stW,irS]
    exact r3
theorem Bm(fns:List Fd)(k:Nat):∀(l:List Sm) (b:Nat) (w:WS) (m:Scp) (up:List Scp),SR gN b w.vs (m::up)->(aO fns k b l w).code=0->
 cu fns k b l w=(eL l m up w.count).1/\SR gN b (aO fns k b l w).vs ((eL l m up w.count).2.1::up)/\(aO fns k b l w).count=(eL l m up w.count).2.2
 |[],b,w,m,up,h,hz=>⟨rfl,h,rfl⟩
 |s::r,b,w,m,up,h,hz=>by
  rw[aO] at hz
  obtain⟨p1,p2,p3⟩:=Uz fns k s b w m up h (bg hz)
  obtain⟨q1,q2,q3⟩:=Bm fns k r b _ _ up p2 hz
  rw[p3] at q1 q2 q3
  refine⟨?_,?_,?_⟩
  ·rw[cu,eL];simp only;rw[p1,q1]
  ·rw[aO,eL];exact q2
  ·rw[aO,eL];exact q3
end
theorem KZ:∀(ps:List (List UInt8)) (w:WS) (m:Scp),SR gN 0 w.vs [m]->fh ps w=(gn ps m w.count).1/\SR gN 0 (bc ps w).vs [(gn ps m w.count).2.1]/\(bc ps w).count=(gn ps m w.count).2.2
 |[],w,m,h=>⟨rfl,h,rfl⟩
 |s::r,w,m,h=>by
  obtain⟨a1,a2,a3⟩:=KZ r (eF w s 0) (eK m s w.count) (h.add s w.count w.count rfl)
  have hc:(eF w s 0).count=w.count+1:=rfl
  rw[hc] at a1 a2 a3
  refine⟨?_,?_,?_⟩
  ·rw[fh,gn];simp only;rw[a1]
  ·rw[gn];exact a2
  ·rw[gn];exact a3
theorem Gf(fns:List Fd)(k:Nat)(f:Fd)(h:(fnW fns k f).code=0):rnF fns k f=irF f:=by
 rw[fnW] at h
 obtain⟨p1,p2,p3⟩:=KZ f.params ⟨[],0,if cg fns f.name=some k then 0 else 2⟩ [] SR.base
 obtain⟨q1,q2,q3⟩:=Bm fns k f.body 0 _ _ [] p2 h
 rw[p3] at q1
 rw[rnF,irF,p1,q1]
end
section
theorem rE(fns:List Fd):∀(l:List Fd) (k:Nat),kg fns k l=0↔∀(i:Nat) (f:Fd),l[i]?=some f->(fnW fns (k+i) f).code=0
 |[],k=>by simp[kg]
 |f::r,k=>by
  rw[kg]
  have ih:=rE fns r (k+1)
  constructor
  ·intro h i g hg
   by_cases h0:(fnW fns k f).code=0
   ·rw[if_pos h0] at h
    cases i with
    |zero=>cases hg;exact h0
    |succ i=>have:=ih.1 h i g (by simpa using hg);rwa[show k+(i+1)=k+1+i by omega]
   ·rw[if_neg h0] at h;exact absurd h h0
  ·intro h
   rw[if_pos (by have:=h 0 f rfl;rwa[Nat.add_zero] at this)]
   exact ih.2 λi g hg=>by have:=h (i+1) g (by simpa using hg);rwa[show k+(i+1)=k+1+i by omega] at this
theorem pU(l:List Fd):aI l=0↔bA l=true/\∀(k:Nat) (f:Fd),l[k]?=some f->(fnW l k f).code=0:=by
 unfold aI
 by_cases h:bA l=true
 ·rw[if_pos h,rE];simp[h]
 ·rw[if_neg h];simp[h]
theorem fT(l:List Fd):bA l=true↔(1<=l.length/\l.length<=4)/\(∀f∈l,iO f=true)/\iP l<=40:=by
 simp only[bA,inR,YX,decide_eq_true_eq,YW]
 constructor
 ·rintro⟨⟨⟨h1,h2⟩,h3⟩,h4⟩;exact⟨⟨by omega,by omega⟩,h3,h4⟩
 ·rintro⟨⟨h1,h2⟩,h3,h4⟩;exact⟨⟨⟨by omega,by omega⟩,h3⟩,h4⟩
def Fd.cut(f:Fd)(n:Nat):Fd:=⟨f.name,f.params,f.body.take n⟩
end
section
abbrev Sc5:=List (List UInt8 × Int)
structure S5 where (left:Nat) (said:List Int) (cells:List Int)
inductive O5 (α:Type) where
 |ok (a:α)
 |st (c:Int)
def ce:Sc5->List UInt8->Option Int
 |[],_=>none
 |x::r,s=>if x.1=s then some x.2 else ce r s
def sset:Sc5->List UInt8->Int->Sc5
 |[],_,_=>[]
 |x::r,s,n=>if x.1=s then(s,n)::r else x::sset r s n
def iL:List Sc5->List UInt8->Option Int
 |[],_=>none
 |m::r,s=>match ce m s with|some n=>some n|none=>iL r s
def iu:List Sc5->List UInt8->Int->List Sc5
 |[],_,_=>[]
 |m::r,s,n=>if(ce m s).isSome then sset m s n::r else m::iu r s n
def tr5(b:Bool):Int:=if b then 1 else 0
def Gn(op a b:Int):Option Int:=
 if op=3 then some ((a+b)%256) else if op=4 then some ((a-b+256)%256) else if op=5 then some (a*b%256) else if op=8 then some (tr5 (decide (a<b))) else if op=9 then some (tr5 (decide (a=b)))
 else if b=0 then none else if op=6 then some (a/b) else some (a%b)
def S5.say(s:S5)(n:Int):S5:=⟨s.left,s.said++[n],s.cells⟩
def S5.put(s:S5)(i:Nat)(n:Int):S5:=⟨s.left,s.said,s.cells.set i n⟩
def S5.at_(s:S5)(F:Nat):S5:=⟨F,s.said,s.cells⟩
def V5(n:Int):Prop:=0<=n/\n<=255
inductive J5 where
 |ex (k:Nat) (v:List Sc5) (s:S5) (e:Ex) (s':S5) (r:O5 Int)
 |exs (k:Nat) (v:List Sc5) (s:S5) (es:List Ex) (s':S5) (r:O5 (List Int))
 |cal (k:Nat) (us:List Int) (s:S5) (s':S5) (r:O5 Int)
 |stm (k:Nat) (v:List Sc5) (s:S5) (x:Sm) (v':List Sc5) (s':S5) (r:O5 (Option Int))
 |blk (k:Nat) (v:List Sc5) (s:S5) (xs:List Sm) (v':List Sc5) (s':S5) (r:O5 (Option Int))
 |lp (k:Nat) (v:List Sc5) (s:S5) (x:Sm) (v':List Sc5) (s':S5) (r:O5 (Option Int))
def IF:O5 (Option Int)->O5 Int
 | .ok (some n)=> .ok n
 | .ok none=> .ok 0
 | .st c=> .st c
inductive Ev (l:List Fd):J5->Prop where
 |num {k v s e}:e.op=1->V5 e.n->Ev l (.ex k v s e s (.ok e.n))
 |var {k v s e n}:e.op=2->iL v e.name=some n->Ev l (.ex k v s e s (.ok n))
 |call {k v s e s1 us j s2 r}:e.op=13->Ev l (.exs k v s e.kids s1 (.ok us))->cg l e.name=some j->j<k->Ev l (.cal j us s1 s2 r)->Ev l (.ex k v s e s2 r)
 |callS {k v s e s1 c}:e.op=13->Ev l (.exs k v s e.kids s1 (.st c))->Ev l (.ex k v s e s1 (.st c))
 |firstS {k v s e a r s1 c}:3<=e.op->e.op<=12->e.kids=a::r->Ev l (.ex k v s a s1 (.st c))->Ev l (.ex k v s e s1 (.st c))
 |and0 {k v s e a b s1}:e.op=10->e.kids=[a,b]->Ev l (.ex k v s a s1 (.ok 0))->Ev l (.ex k v s e s1 (.ok 0))
 |and1 {k v s e a b s1 n s2 m}:e.op=10->e.kids=[a,b]->Ev l (.ex k v s a s1 (.ok n))->n≠0->Ev l (.ex k v s1 b s2 (.ok m))->Ev l (.ex k v s e s2 (.ok (tr5 (decide (m≠0)))))
 |andS {k v s e a b s1 n s2 c}:e.op=10->e.kids=[a,b]->Ev l (.ex k v s a s1 (.ok n))->n≠0->Ev l (.ex k v s1 b s2 (.st c))->Ev l (.ex k v s e s2 (.st c))
 |not {k v s e a s1 n}:e.op=11->e.kids=[a]->Ev l (.ex k v s a s1 (.ok n))->Ev l (.ex k v s e s1 (.ok (tr5 (decide (n=0)))))
 |at_ {k v s e a s1 n m}:e.op=12->e.kids=[a]->Ev l (.ex k v s a s1 (.ok (n:Nat)))->n<16->s1.cells[n]?=some m->Ev l (.ex k v s e s1 (.ok m))
 |atS {k v s e a s1 n}:e.op=12->e.kids=[a]->Ev l (.ex k v s a s1 (.ok n))->16<=n->Ev l (.ex k v s e s1 (.st 2))
 |bin {k v s e a b s1 n s2 m q}:3<=e.op->e.op<=9->e.kids=[a,b]->Ev l (.ex k v s a s1 (.ok n))->Ev l (.ex k v s1 b s2 (.ok m))->Gn e.op n m=some q->Ev l (.ex k v s e s2 (.ok q))
 |binS {k v s e a b s1 n s2 c}:3<=e.op->e.op<=9->e.kids=[a,b]->Ev l (.ex k v s a s1 (.ok n))->Ev l (.ex k v s1 b s2 (.st c))->Ev l (.ex k v s e s2 (.st c))
 |binD {k v s e a b s1 n s2 m}:3<=e.op->e.op<=9->e.kids=[a,b]->Ev l (.ex k v s a s1 (.ok n))->Ev l (.ex k v s1 b s2 (.ok m))->Gn e.op n m=none->Ev l (.ex k v s e s2 (.st 1))
 |nil {k v s}:Ev l (.exs k v s [] s (.ok []))
 |cons {k v s a r s1 n s2 ns}:Ev l (.ex k v s a s1 (.ok n))->Ev l (.exs k v s1 r s2 (.ok ns))->Ev l (.exs k v s (a::r) s2 (.ok (n::ns)))
 |consS {k v s a r s1 c}:Ev l (.ex k v s a s1 (.st c))->Ev l (.exs k v s (a::r) s1 (.st c))
 |consT {k v s a r s1 n s2 c}:Ev l (.ex k v s a s1 (.ok n))->Ev l (.exs k v s1 r s2 (.st c))->Ev l (.exs k v s (a::r) s2 (.st c))
 |cal {k f us s v' s' r}:l[k]?=some f->f.params.length=us.length->Ev l (.blk k [f.params.zip us] s f.body v' s' r)->Ev l (.cal k us s s' (IF r))
 |bnil {k v s}:Ev l (.blk k v s [] v s (.ok none))
 |bfuel {k v s x r}:s.left=0->Ev l (.blk k v s (x::r) v s (.st 3))
 |bgo {k v s x r F v1 s1 v2 s2 q}:s.left=F+1->Ev l (.stm k v (s.at_ F) x v1 s1 (.ok none))->Ev l (.blk k v1 s1 r v2 s2 q)->Ev l (.blk k v s (x::r) v2 s2 q)
 |bend {k v s x r F v1 s1 q}:s.left=F+1->Ev l (.stm k v (s.at_ F) x v1 s1 q)->q≠ .ok none->Ev l (.blk k v s (x::r) v1 s1 q)
 |argS {k v s x a r s1 c}:x.op≠6->x.args=a::r->Ev l (.ex k v s a s1 (.st c))->Ev l (.stm k v s x v s1 (.st c))
 |slet {k v s x a s1 n m up}:x.op=1->x.args=[a]->Ev l (.ex k v s a s1 (.ok n))->v=m::up->ce m x.name=none->Ev l (.stm k v s x ((m++[(x.name,n)])::up) s1 (.ok none))
 |sset {k v s x a s1 n}:x.op=2->x.args=[a]->Ev l (.ex k v s a s1 (.ok n))->(iL v x.name).isSome=true->Ev l (.stm k v s x (iu v x.name n) s1 (.ok none))
 |ssay {k v s x a s1 n}:x.op=3->x.args=[a]->Ev l (.ex k v s a s1 (.ok n))->Ev l (.stm k v s x v (s1.say n) (.ok none))
 |sput {k v s x a b s1 n s2 m}:x.op=4->x.args=[a,b]->Ev l (.ex k v s a s1 (.ok (n:Nat)))->Ev l (.ex k v s1 b s2 (.ok m))->n<16->Ev l (.stm k v s x v (s2.put n m) (.ok none))
 |sputC {k v s x a b s1 n s2 m}:x.op=4->x.args=[a,b]->Ev l (.ex k v s a s1 (.ok n))->Ev l (.ex k v s1 b s2 (.ok m))->16<=n->Ev l (.stm k v s x v s2 (.st 2))
 |sputS {k v s x a b s1 n s2 c}:x.op=4->x.args=[a,b]->Ev l (.ex k v s a s1 (.ok n))->Ev l (.ex k v s1 b s2 (.st c))->Ev l (.stm k v s x v s2 (.st c))
 |sif {k v s x a s1 n m v' s2 q}:x.op=5->x.args=[a]->Ev l (.ex k v s a s1 (.ok n))->Ev l (.blk k ([]::v) s1 (if n≠0 then x.body else x.els) (m::v') s2 q)->Ev l (.stm k v s x v' s2 q)
 |sloop {k v s x v' s' q}:x.op=6->Ev l (.lp k v s x v' s' q)->Ev l (.stm k v s x v' s' q)
 |sback {k v s x a s1 n}:x.op=7->x.args=[a]->Ev l (.ex k v s a s1 (.ok n))->Ev l (.stm k v s x v s1 (.ok (some n)))
 |sdo {k v s x a s1 n}:x.op=8->x.args=[a]->Ev l (.ex k v s a s1 (.ok n))->Ev l (.stm k v s x v s1 (.ok none))
 |lpS {k v s x a s1 c}:x.args=[a]->Ev l (.ex k v s a s1 (.st c))->Ev l (.lp k v s x v s1 (.st c))
 |lp0 {k v s x a s1}:x.args=[a]->Ev l (.ex k v s a s1 (.ok 0))->Ev l (.lp k v s x v s1 (.ok none))
 |lpEnd {k v s x a s1 n m v' s2 q}:x.args=[a]->Ev l (.ex k v s a s1 (.ok n))->n≠0->Ev l (.blk k ([]::v) s1 x.body (m::v') s2 q)->q≠ .ok none->Ev l (.lp k v s x v' s2 q)
 |lpFuel {k v s x a s1 n m v' s2}:x.args=[a]->Ev l (.ex k v s a s1 (.ok n))->n≠0->Ev l (.blk k ([]::v) s1 x.body (m::v') s2 (.ok none))->s2.left=0->Ev l (.lp k v s x v' s2 (.st 3))
 |lpGo {k v s x a s1 n m v' s2 F v'' s3 q}:x.args=[a]->Ev l (.ex k v s a s1 (.ok n))->n≠0->Ev l (.blk k ([]::v) s1 x.body (m::v') s2 (.ok none))->s2.left=F+1->Ev l (.lp k v' (s2.at_ F) x v'' s3 q)->Ev l (.lp k v s x v'' s3 q)
end
section
structure G5 (s:S5):Prop where
 len:s.cells.length=16
 cells:∀c∈s.cells,V5 c
 said:∀c∈s.said,V5 c
def GE5(v:List Sc5):Prop:=∀m∈v,∀x∈m,V5 x.2
theorem Hz:∀{m:Sc5} {s:List UInt8} {n:Int},ce m s=some n->(s,n)∈m
 |[],_,_,h=>by cases h
 |x::r,s,n,h=>by
  rw[ce] at h
  by_cases e:x.1=s
  ·rw[if_pos e] at h;cases h;subst e;simp
  ·rw[if_neg e] at h;exact ZF _ (Hz h)
theorem zY:∀{v:List Sc5} {s:List UInt8} {n:Int},GE5 v->iL v s=some n->V5 n
 |[],_,_,_,h=>by cases h
 |m::r,s,n,g,h=>by
  rw[iL] at h
  cases e:ce m s with
  |some q=>
   rw[e] at h;cases h
   exact g m (by simp) _ (Hz e)
  |none=>
   rw[e] at h
   exact zY (λm hm=>g m (by simp[hm])) h
theorem EF:∀{m:Sc5} {s:List UInt8} {n:Int},(∀x∈m,V5 x.2)->V5 n->∀x∈sset m s n,V5 x.2
 |[],_,_,_,_,x,hx=>by cases hx
 |y::r,s,n,g,hn,x,hx=>by
  rw[sset] at hx
  split at hx
  ·rcases Za.1 hx with rfl|hx
   ·exact hn
   ·exact g x (by simp[hx])
  ·rcases Za.1 hx with rfl|hx
   ·exact g x (by simp)
   ·exact EF (λx hx=>g x (by simp[hx])) hn x hx
theorem EG:∀{v:List Sc5} {s:List UInt8} {n:Int},GE5 v->V5 n->GE5 (iu v s n)
 |[],_,_,g,_=>g
 |m::r,s,n,g,hn=>by
  rw[iu]
  split
  ·intro q hq
   rcases Za.1 hq with rfl|hq
   ·exact EF (g m (by simp)) hn
   ·exact g q (by simp[hq])
  ·intro q hq
   rcases Za.1 hq with rfl|hq
   ·exact g q (by simp)
   ·exact EG (λm hm=>g m (by simp[hm])) hn q hq
theorem iS(b:Bool):V5 (tr5 b):=by cases b<;>simp[tr5,V5]
theorem Eu{op a b n:Int}(ha:V5 a)(hb:V5 b)(h:Gn op a b=some n):V5 n:=by
 obtain⟨a0,a1⟩:=ha
 obtain⟨b0,b1⟩:=hb
 unfold Gn at h
 split at h
 ·cases h;unfold V5;omega
 split at h
 ·cases h;unfold V5;omega
 split at h
 ·cases h
  have:0<=a*b:=Int.mul_nonneg a0 b0
  unfold V5
  generalize a*b=q at*
  omega
 split at h
 ·cases h;exact iS _
 split at h
 ·cases h;exact iS _
 split at h
 ·cases h
 split at h
 ·cases h
  have h1:0<=a/b:=Int.ediv_nonneg a0 b0
  have h2:a/b<=a:=Int.ediv_le_self b a0
  exact⟨h1,by omega⟩
 ·cases h
  rename_i hb0 _
  have h1:0<=a%b:=Int.emod_nonneg a hb0
  have h2:a%b<b:=Int.emod_lt_of_pos a (by omega)
  exact⟨h1,by omega⟩
theorem G5.say{s:S5}(g:G5 s){n:Int}(hn:V5 n):G5 (s.say n):=⟨g.len,g.cells,λc hc=>by
 rcases YV.1 hc with h|h
 ·exact g.said c h
 ·rw[YQ.1 h];exact hn⟩
theorem G5.put{s:S5}(g:G5 s)(i:Nat){n:Int}(hn:V5 n):G5 (s.put i n):=⟨by rw[←g.len];exact Zq,λc hc=>by
 rcases ZI hc with h|h
 ·exact g.cells c h
 ·rw[h];exact hn,g.said⟩
theorem G5.at_{s:S5}(g:G5 s)(F:Nat):G5 (s.at_ F):=⟨g.len,g.cells,g.said⟩
def Yo:J5->Prop
 | .ex _ v s _ _ _=>G5 s/\GE5 v
 | .exs _ v s _ _ _=>G5 s/\GE5 v
 | .cal _ us s _ _=>G5 s/\∀n∈us,V5 n
 | .stm _ v s _ _ _ _=>G5 s/\GE5 v
 | .blk _ v s _ _ _ _=>G5 s/\GE5 v
 | .lp _ v s _ _ _ _=>G5 s/\GE5 v
def Wy:J5->Prop
 | .ex _ _ s _ s' r=>G5 s'/\s'.left<=s.left/\∀n,r= .ok n->V5 n
 | .exs _ _ s es s' r=>G5 s'/\s'.left<=s.left/\∀ns,r= .ok ns->ns.length=es.length/\∀n∈ns,V5 n
 | .cal _ _ s s' r=>G5 s'/\s'.left<=s.left/\∀n,r= .ok n->V5 n
 | .stm _ _ s _ v' s' r=>G5 s'/\s'.left<=s.left/\GE5 v'/\∀n,r= .ok (some n)->V5 n
 | .blk _ _ s _ v' s' r=>G5 s'/\s'.left<=s.left/\GE5 v'/\∀n,r= .ok (some n)->V5 n
 | .lp _ _ s _ v' s' r=>G5 s'/\s'.left<=s.left/\GE5 v'/\∀n,r= .ok (some n)->V5 n
theorem GE5.tail{m:Sc5}{v:List Sc5}(g:GE5 (m::v)):GE5 v:=λq hq=>g q (by simp[hq])
theorem GE5.opn{v:List Sc5}(g:GE5 v):GE5 ([]::v):=λq hq=>by
 rcases Za.1 hq with rfl|hq
 ·intro x hx;cases hx
 ·exact g q hq
theorem dG{l:List Fd}{j:J5}(h:Ev l j):Yo j->Wy j:=by
 induction h with
 |num _ h=>exact λp=>⟨p.1,YY _,λn e=>by cases e;exact h⟩
 |var _ h=>exact λp=>⟨p.1,YY _,λn e=>by cases e;exact zY p.2 h⟩
 |call _ _ _ _ _ i1 i2=>
   intro p
   have a:=i1 p
   have b:=i2 ⟨a.1,(a.2.2 _ rfl).2⟩
   exact⟨b.1,Zi b.2.1 a.2.1,b.2.2⟩
 |callS _ _ i1=>
   intro p
   have a:=i1 p
   exact⟨a.1,a.2.1,λn e=>by cases e⟩
 |firstS _ _ _ _ i1=>
   intro p
   have a:=i1 p
   exact⟨a.1,a.2.1,λn e=>by cases e⟩
 |and0 _ _ _ i1=>
   intro p
   have a:=i1 p
   exact⟨a.1,a.2.1,λn e=>by cases e;exact⟨by omega,by omega⟩⟩
 |and1 _ _ _ _ _ i1 i2=>
   intro p
   have a:=i1 p
   have b:=i2 ⟨a.1,p.2⟩
   exact⟨b.1,Zi b.2.1 a.2.1,λn e=>by cases e;exact iS _⟩
 |andS _ _ _ _ _ i1 i2=>
   intro p
   have a:=i1 p
   have b:=i2 ⟨a.1,p.2⟩
   exact⟨b.1,Zi b.2.1 a.2.1,λn e=>by cases e⟩
 |not _ _ _ i1=>
   intro p
   have a:=i1 p
   exact⟨a.1,a.2.1,λn e=>by cases e;exact iS _⟩
 |at_ _ _ _ _ hm i1=>
   intro p
   have a:=i1 p
   exact⟨a.1,a.2.1,λn e=>by cases e;exact a.1.cells _ (YS hm)⟩
 |atS _ _ _ _ i1=>
   intro p
   have a:=i1 p
   exact⟨a.1,a.2.1,λn e=>by cases e⟩
 |bin _ _ _ _ _ ht i1 i2=>
   intro p
   have a:=i1 p
   have b:=i2 ⟨a.1,p.2⟩
   exact⟨b.1,Zi b.2.1 a.2.1,λn e=>by cases e;exact Eu (a.2.2 _ rfl) (b.2.2 _ rfl) ht⟩
 |binS _ _ _ _ _ i1 i2=>
   intro p
   have a:=i1 p
   have b:=i2 ⟨a.1,p.2⟩
   exact⟨b.1,Zi b.2.1 a.2.1,λn e=>by cases e⟩
 |binD _ _ _ _ _ _ i1 i2=>
   intro p
   have a:=i1 p
   have b:=i2 ⟨a.1,p.2⟩
   exact⟨b.1,Zi b.2.1 a.2.1,λn e=>by cases e⟩
 |nil=>exact λp=>⟨p.1,YY _,λns e=>by cases e;exact⟨rfl,λn h=>by cases h⟩⟩
 |cons _ _ i1 i2=>
   intro p
   have a:=i1 p
   have b:=i2 ⟨a.1,p.2⟩
   refine⟨b.1,Zi b.2.1 a.2.1,λns e=>?_⟩
   cases e
   obtain⟨k1,k2⟩:=b.2.2 _ rfl
   refine⟨by simp[k1],λn hn=>?_⟩
   rcases Za.1 hn with rfl|hn
   ·exact a.2.2 _ rfl
   ·exact k2 n hn
 |consS _ i1=>
   intro p
   have a:=i1 p
   exact⟨a.1,a.2.1,λn e=>by cases e⟩
 |consT _ _ i1 i2=>
   intro p
   have a:=i1 p
   have b:=i2 ⟨a.1,p.2⟩
   exact⟨b.1,Zi b.2.1 a.2.1,λn e=>by cases e⟩
 | @cal k f us s v' s' r _ _ _ i1=>
    intro p
    have a:=i1 ⟨p.1,λm hm x hx=>by
     rw[YQ.1 hm] at hx
     exact p.2 _ (List.of_mem_zip hx).2⟩
    refine⟨a.1,a.2.1,λn e=>?_⟩
    match r,e with
    | .ok (some q),e=>cases e;exact a.2.2.2 _ rfl
    | .ok none,e=>cases e;exact⟨by omega,by omega⟩
 |bnil=>exact λp=>⟨p.1,YY _,p.2,λn e=>by cases e⟩
 |bfuel _=>exact λp=>⟨p.1,YY _,p.2,λn e=>by cases e⟩
 | @bgo k v s x r F v1 s1 v2 s2 q hF _ _ i1 i2=>
    intro p
    have a:=i1 ⟨p.1.at_ F,p.2⟩
    have b:=i2 ⟨a.1,a.2.2.1⟩
    have h1:s1.left<=F:=a.2.1
    exact⟨b.1,by have:=b.2.1;omega,b.2.2⟩
 | @bend k v s x r F v1 s1 q hF _ _ i1=>
    intro p
    have a:=i1 ⟨p.1.at_ F,p.2⟩
    have h1:s1.left<=F:=a.2.1
    exact⟨a.1,by omega,a.2.2⟩
 |argS _ _ _ i1=>
   intro p
   have a:=i1 p
   exact⟨a.1,a.2.1,p.2,λn e=>by cases e⟩
 | @slet k v s x a s1 n m up _ _ _ hv _ i1=>
    intro p
    have a:=i1 p
    subst hv
    refine⟨a.1,a.2.1,λq hq=>?_,λn e=>by cases e⟩
    rcases Za.1 hq with rfl|hq
    ·intro y hy
     rcases YV.1 hy with h|h
     ·exact p.2 m (by simp) y h
     ·rw[YQ.1 h];exact a.2.2 _ rfl
    ·exact p.2 q (by simp[hq])
 |sset _ _ _ _ i1=>
   intro p
   have a:=i1 p
   exact⟨a.1,a.2.1,EG p.2 (a.2.2 _ rfl),λn e=>by cases e⟩
 |ssay _ _ _ i1=>
   intro p
   have a:=i1 p
   exact⟨a.1.say (a.2.2 _ rfl),a.2.1,p.2,λn e=>by cases e⟩
 |sput _ _ _ _ _ i1 i2=>
   intro p
   have a:=i1 p
   have b:=i2 ⟨a.1,p.2⟩
   exact⟨b.1.put _ (b.2.2 _ rfl),Zi b.2.1 a.2.1,p.2,λn e=>by cases e⟩
 |sputC _ _ _ _ _ i1 i2=>
   intro p
   have a:=i1 p
   have b:=i2 ⟨a.1,p.2⟩
   exact⟨b.1,Zi b.2.1 a.2.1,p.2,λn e=>by cases e⟩
 |sputS _ _ _ _ i1 i2=>
   intro p
   have a:=i1 p
   have b:=i2 ⟨a.1,p.2⟩
   exact⟨b.1,Zi b.2.1 a.2.1,p.2,λn e=>by cases e⟩
 |sif _ _ _ _ i1 i2=>
   intro p
   have a:=i1 p
   have b:=i2 ⟨a.1,p.2.opn⟩
   exact⟨b.1,Zi b.2.1 a.2.1,b.2.2.1.tail,b.2.2.2⟩
 |sloop _ _ i1=>exact i1
 |sback _ _ _ i1=>
   intro p
   have a:=i1 p
   exact⟨a.1,a.2.1,p.2,λn e=>by cases e;exact a.2.2 _ rfl⟩
 |sdo _ _ _ i1=>
   intro p
   have a:=i1 p
   exact⟨a.1,a.2.1,p.2,λn e=>by cases e⟩
 |lpS _ _ i1=>
   intro p
   have a:=i1 p
   exact⟨a.1,a.2.1,p.2,λn e=>by cases e⟩
 |lp0 _ _ i1=>
   intro p
   have a:=i1 p
   exact⟨a.1,a.2.1,p.2,λn e=>by cases e⟩
 |lpEnd _ _ _ _ _ i1 i2=>
   intro p
   have a:=i1 p
   have b:=i2 ⟨a.1,p.2.opn⟩
   exact⟨b.1,Zi b.2.1 a.2.1,b.2.2.1.tail,b.2.2.2⟩
 |lpFuel _ _ _ _ _ i1 i2=>
   intro p
   have a:=i1 p
   have b:=i2 ⟨a.1,p.2.opn⟩
   exact⟨b.1,Zi b.2.1 a.2.1,b.2.2.1.tail,λn e=>by cases e⟩
 | @lpGo k v s x a s1 n m v' s2 F v'' s3 q _ _ _ _ hF _ i1 i2 i3=>
    intro p
    have a:=i1 p
    have b:=i2 ⟨a.1,p.2.opn⟩
    have c:=i3 ⟨b.1.at_ F,b.2.2.1.tail⟩
    have h1:s3.left<=F:=c.2.1
    have h2:s2.left<=s1.left:=b.2.1
    have h3:s1.left<=s.left:=a.2.1
    exact⟨c.1,by omega,c.2.2⟩
end
section
def er(m:Sc5):Scp:=m.map λx=>(x.1,0)
def ers(v:List Sc5):List Scp:=v.map er
theorem FB(s:List UInt8):∀m:Sc5,eZ (er m) s=(ce m s).map λ_=>0
 |[]=>rfl
 |x::r=>by
  have ih:=FB s r
  simp only[eZ,er] at ih
  by_cases h:x.1=s
  ·simp[eZ,er,ce,h]
  ·simp only[eZ,er,Zn,List.find?_cons,h,decide_false,ce,if_neg h]
   exact ih
theorem GC(s:List UInt8):∀v:List Sc5,fC (ers v) s=(iL v s).map λ_=>0
 |[]=>rfl
 |m::r=>by
  have ih:=GC s r
  simp only[ers] at ih
  rw[ers,Zn,fC,iL,FB]
  cases ce m s with
  |some n=>rfl
  |none=>exact ih
theorem Tc{m:Sc5}{s:List UInt8}{n:Int}(h:ce m s=none):er (m++[(s,n)])=eK (er m) s 0:=by
 induction m with
 |nil=>rfl
 |cons x r ih=>
  rw[ce] at h
  by_cases e:x.1=s
  ·rw[if_pos e] at h;cases h
  ·rw[if_neg e] at h
   have ih:=ih h
   simp only[er] at ih
   simp only[er,Zx,Zn,eK,if_neg e]
   rw[ih]
theorem Pt{s:List UInt8}{n:Int}:∀m:Sc5,er (sset m s n)=er m
 |[]=>rfl
 |x::r=>by
  have ih:=Pt (s:=s) (n:=n) r
  simp only[er] at ih
  rw[sset]
  split
  ·rename_i e;simp[er,←e]
  ·simp[er,ih]
theorem Fx{s:List UInt8}{n:Int}:∀v:List Sc5,ers (iu v s n)=ers v
 |[]=>rfl
 |m::r=>by
  have ih:=Fx (s:=s) (n:=n) r
  rw[iu]
  split
  ·simp only[ers,Zn,Pt]
  ·simp only[ers,Zn] at ih⊢
   rw[ih]
theorem Cc{v:List Sc5}{m:Sc5}{up:List Sc5}(h:ers v=ers (m::up)):∃m' up',v=m'::up'/\er m'=er m/\ers up'=ers up:=by
 cases v with
 |nil=>simp[ers] at h
 |cons m' up'=>
  simp only[ers,Zn,List.cons.injEq] at h
  exact⟨m',up',rfl,h.1,h.2⟩
def Kn(vs:List LV)(v:List Sc5):Prop:=∀t,(lkV vs t).isSome=(iL v t).isSome
theorem OI{b:Nat}{vs:List LV}{v:List Sc5}(h:SR g0 b vs (ers v)):Kn vs v:=λt=>by
 rw[h.is t,GC,Option.isSome_map]
def RC(l:List Fd)(F:Nat):Prop:=∀(k:Nat) (vs:List LV) (d:Nat) (e:Ex) (v:List Sc5) (s:S5),iM l k vs e 0=0->bV d e=true->Kn vs v->G5 s->GE5 v->s.left<=F->∃s' r,Ev l (.ex k v s e s' r)
def TI(l:List Fd)(F:Nat):Prop:=∀(j:Nat) (f:Fd) (us:List Int) (s:S5),l[j]?=some f->f.params.length=us.length->G5 s->(∀n∈us,V5 n)->s.left<=F->∃s' r,Ev l (.cal j us s s' r)
def Lv(l:List Fd)(F:Nat):Prop:=∀(k:Nat) (xs:List Sm) (b:Nat) (w:WS) (m:Sc5) (up:List Sc5) (s:S5),(∀x∈xs,∃d,az d x=true)->(aO l k b xs w).code=0->SR g0 b w.vs (ers (m::up))->G5 s->GE5 (m::up)->s.left<=F->
 ∃m' up' s' r,Ev l (.blk k (m::up) s xs (m'::up') s' r)/\ers up'=ers up
def Tw(l:List Fd)(F:Nat):Prop:=∀(k:Nat) (x:Sm) (b:Nat) (w:WS) (m:Sc5) (up:List Sc5) (s:S5),(∃d,az d x=true)->(stW l k b x w).code=0->SR g0 b w.vs (ers (m::up))->G5 s->GE5 (m::up)->s.left<=F->
 ∃m' up' s' r,Ev l (.stm k (m::up) s x (m'::up') s' r)/\ers up'=ers up/\(r= .ok none->SR g0 b (stW l k b x w).vs (ers (m'::up')))
def QI(l:List Fd)(F:Nat):Prop:=∀(k:Nat) (x:Sm) (b:Nat) (w:WS) (v:List Sc5) (s:S5),(∃d,az d x=true)->x.op=6->(stW l k b x w).code=0->SR g0 b w.vs (ers v)->G5 s->GE5 v->s.left<=F->
 ∃v' s' r,Ev l (.lp k v s x v' s' r)/\ers v'=ers v
section
variable {l:List Fd}
theorem Yb{F:Nat}(hS:∀F',F'<F->Tw l F')(hB:∀F',F'<F->Lv l F'):Lv l F:=by
 intro k xs b w m up s hf hz hR hg hv hl
 cases xs with
 |nil=>exact⟨m,up,s,_,.bnil,rfl⟩
 |cons x r=>
  rw[aO] at hz
  have hz1:=bg hz
  rcases Nat.eq_zero_or_pos s.left with h0|h0
  ·exact⟨m,up,s,_,.bfuel h0,rfl⟩
  obtain⟨F',hF⟩:∃F',s.left=F'+1:=⟨s.left-1,by omega⟩
  obtain⟨m1,up1,s1,r1,e1,u1,R1⟩:=hS F' (by omega) k x b w m up (s.at_ F') (hf x (by simp)) hz1 hR (hg.at_ F') hv (YY _)
  have p1:=dG e1 ⟨hg.at_ F',hv⟩
  have q1:s1.left<=F':=p1.2.1
  by_cases hq:r1= .ok none
  ·subst hq
   obtain⟨m2,up2,s2,r2,e2,u2⟩:=hB F' (by omega) k r b (stW l k b x w) m1 up1 s1 (λy hy=>hf y (by simp[hy])) hz (R1 rfl) p1.1 p1.2.2.1 q1
   exact⟨m2,up2,s2,r2,.bgo hF e1 e2,u2.trans u1⟩
  ·exact⟨m1,up1,s1,r1,.bend hF e1 hq,u1⟩
theorem Oz:∀(ps:List (List UInt8)) (us:List Int),ps.length=us.length->er (ps.zip us)=ps.map λs=>(s,0)
 |[],[],_=>rfl
 |p::r,u::t,h=>by
  have:=Oz r t (by simpa using h)
  simp only[er] at this
  simp[er,this]
 |[],_::_,h=>by simp at h
 |_::_,[],h=>by simp at h
theorem GK:∀(ps:List (List UInt8)) (m:Scp) (c:Int),(kS ps m c).2=0->(kS ps m c).1=m++ps.map λs=>(s,0)
 |[],m,c,_=>by simp[kS]
 |s::r,m,c,h=>by
  have hh:(kS r (eK m s 0) (if(eZ m s).isSome then fl c 2 else c)).2=0:=h
  have ih:=GK r _ _ hh
  have hc:(if(eZ m s).isSome then fl c 2 else c)=0:=by
   apply Classical.byContradiction
   intro hne
   have:=zI hne r (eK m s 0)
   rw[this] at hh
   exact hne hh
  have hn:eZ m s=none:=by
   cases e:eZ m s with
   |none=>rfl
   |some n=>
    rw[e] at hc
    simp only[Option.isSome_some,if_true,fl] at hc
    split at hc<;>omega
  have hset:∀m:Scp,eZ m s=none->eK m s 0=m++[(s,0)]:=by
   intro m
   induction m with
   |nil=>intro _;rfl
   |cons x t iht=>
    intro hm
    by_cases hx:x.1=s
    ·simp[eZ,hx] at hm
    ·rw[eK,if_neg hx,iht (by simpa[eZ,hx] using hm)];rfl
  show(kS r (eK m s 0) (if(eZ m s).isSome then fl c 2 else c)).1=_
  rw[ih,hset m hn]
  simp
theorem Ym{F:Nat}(hc:aI l=0)(hB:Lv l F):TI l F:=by
 intro j f us s hj hlen hg hu hl
 obtain⟨hp,hall⟩:=(pU l).1 hc
 have hz:=hall j f hj
 rw[fnW] at hz
 have hpz:=bg hz
 obtain⟨p1,p2⟩:=EX f.params ⟨[],0,if cg l f.name=some j then 0 else 2⟩ [] SR.base
 rw[hpz] at p2
 have hm:=GK f.params [] _ p2.symm
 rw[hm,List.nil_append,←Oz f.params us hlen] at p1
 have hfo:=((fT l).1 hp).2.1 f (YS hj)
 have hbody:∀x∈f.body,∃d,az d x=true:=λx hx=>by
  simp only[iO,YX,YW] at hfo
  exact⟨4,hfo.2 x hx⟩
 obtain⟨m',up',s',r,e,hu2⟩:=hB j f.body 0 _ (f.params.zip us) [] s hbody hz p1 hg (λm hm x hx=>by
  rw[YQ.1 hm] at hx
  exact hu _ (List.of_mem_zip hx).2) hl
 exact⟨s',_,.cal hj hlen e⟩
end
end
section
theorem inR5{n lo hi:Int}:inR n lo hi=true↔lo<=n/\n<=hi:=by simp[inR]
theorem JV{α:Type}{l:List α}(h:l.length=1):∃a,l=[a]:=by
 match l,h with
 |[a],_=>exact⟨a,rfl⟩
theorem PT{α:Type}{l:List α}(h:l.length=2):∃a b,l=[a,b]:=by
 match l,h with
 |[a,b],_=>exact⟨a,b,rfl⟩
section
variable {l:List Fd}
theorem mu{k:Nat}{vs:List LV}:∀(es:List Ex),aK l k vs es 0=0->∀e∈es,iM l k vs e 0=0
 |[],_,e,he=>by cases he
 |x::r,h,e,he=>by
  rw[aK] at h
  have h0:=bL h
  rw[h0] at h
  rcases Za.1 he with rfl|he
  ·exact h0
  ·exact mu r h e he
theorem XH{F:Nat}(hc:aI l=0)(hC:TI l F):RC l F:=by
 intro k vs d
 induction d with
 |zero=>intro e v s _ h;cases h
 |succ d ih=>
  intro e v s hz hf hk hg hv hl
  obtain⟨o,n,nm,ks⟩:=e
  rw[bV,YX,YW] at hf
  obtain⟨hh,hks⟩:=hf
  simp only[lZ,YX] at hh
  obtain⟨⟨⟨⟨⟨ho,hkl⟩,_⟩,_⟩,hn⟩,_⟩:=hh
  have ho:1<=o/\o<=13:=inR5.1 ho
  have hkl:(loK o:Int)<=(ks.length:Int)/\(ks.length:Int)<=(hiK o:Int):=inR5.1 hkl
  have hn:V5 n:=inR5.1 hn
  have hks:∀x∈ks,bV d x=true:=hks
  rw[iM] at hz
  have h0:=bL hz
  rw[h0] at hz
  have hkz:=mu ks hz
  rcases Int.lt_or_le 13 o with h13|h13
  ·omega
  by_cases h1:o=1
  ·exact⟨s,_,.num h1 hn⟩
  by_cases h2:o=2
  ·rw[fZ,if_pos h2] at h0
   obtain⟨_,x,hx⟩:=iK h0
   have hs:=hk nm
   rw[hx] at hs
   obtain⟨q,hq⟩:=Option.isSome_iff_exists.1 hs.symm
   exact⟨s,_,.var h2 hq⟩
  by_cases h13':o=13
  ·subst h13'
   rw[fZ,if_neg (by omega),if_pos rfl,mS] at h0
   have hfa:∃j f,cg l nm=some j/\l[j]?=some f/\f.params.length=ks.length/\j<k:=by
    cases hj:cg l nm with
    |none=>rw[hj] at h0;simp only[fl] at h0;simp at h0
    |some j=>
     rw[hj] at h0
     simp only[fl] at h0
     by_cases hkj:k<=j
     ·rw[if_pos hkj] at h0;simp at h0
     ·rw[if_neg hkj] at h0
      obtain⟨hjl,_,_⟩:=Zg.1 hj
      have hg:=YO hjl
      refine⟨j,l[j],rfl,hg,?_,by omega⟩
      rw[AD,hg] at h0
      simp only at h0
      by_cases hp:l[j].params.length=ks.length
      ·exact hp
      ·rw[if_neg hp] at h0;simp at h0
   obtain⟨j,f,hj,hjf,hpl,hjk⟩:=hfa
   have hargs:∀(es:List Ex) (s:S5),(∀e∈es,e∈ks)->G5 s->s.left<=F->∃s' r,Ev l (.exs k v s es s' r):=by
    intro es
    induction es with
    |nil=>intro s _ _ _;exact⟨s,_,.nil⟩
    |cons a r ihr=>
     intro s hm g hs
     obtain⟨s1,r1,e1⟩:=ih a v s (hkz a (hm a (by simp))) (hks a (hm a (by simp))) hk g hv hs
     have p1:=dG e1 ⟨g,hv⟩
     cases r1 with
     |st c=>exact⟨s1,_,.consS e1⟩
     |ok q=>
      obtain⟨s2,r2,e2⟩:=ihr s1 (λx hx=>hm x (by simp[hx])) p1.1 (Zi p1.2.1 hs)
      cases r2 with
      |st c=>exact⟨s2,_,.consT e1 e2⟩
      |ok ns=>exact⟨s2,_,.cons e1 e2⟩
   obtain⟨s1,r1,e1⟩:=hargs ks s (λ_ h=>h) hg hl
   have p1:=dG e1 ⟨hg,hv⟩
   cases r1 with
   |st c=>exact⟨s1,_,.callS rfl e1⟩
   |ok us=>
    obtain⟨q1,q2⟩:=p1.2.2 _ rfl
    obtain⟨s2,r2,e2⟩:=hC j f us s1 hjf (by rw[hpl,q1]) p1.1 q2 (Zi p1.2.1 hl)
    exact⟨s2,_,.call rfl e1 hj hjk e2⟩
  have hlo:3<=o:=by omega
  have hhi:o<=12:=by omega
  by_cases h11:o=11\/o=12
  ·have hl1:ks.length=1:=by
    have e1:loK o=1:=by unfold loK;rw[if_neg (by omega),if_pos h11]
    have e2:hiK o=1:=by unfold hiK;rw[if_neg (by omega),if_pos h11]
    rw[e1,e2] at hkl;omega
   obtain⟨a,rfl⟩:=JV hl1
   obtain⟨s1,r1,e1⟩:=ih a v s (hkz a (by simp)) (hks a (by simp)) hk hg hv hl
   have p1:=dG e1 ⟨hg,hv⟩
   cases r1 with
   |st c=>exact⟨s1,_,.firstS hlo hhi rfl e1⟩
   |ok q=>
    obtain⟨q0,q1⟩:=p1.2.2 _ rfl
    rcases h11 with h11|h12
    ·exact⟨s1,_,.not h11 rfl e1⟩
    ·obtain⟨i,rfl⟩:∃i:Nat,q=i:=⟨q.toNat,by omega⟩
     by_cases hi:i<16
     ·have hg2:s1.cells[i]?=some (s1.cells[i]'(by rw[p1.1.len];exact hi)):=YO _
      exact⟨s1,_,.at_ h12 rfl e1 hi hg2⟩
     ·exact⟨s1,_,.atS h12 rfl e1 (by omega)⟩
  ·have hl2:ks.length=2:=by
    have e1:loK o=2:=by unfold loK;rw[if_neg (by omega),if_neg h11,if_neg h13']
    have e2:hiK o=2:=by unfold hiK;rw[if_neg (by omega),if_neg h11,if_neg h13']
    rw[e1,e2] at hkl;omega
   obtain⟨a,b,rfl⟩:=PT hl2
   obtain⟨s1,r1,e1⟩:=ih a v s (hkz a (by simp)) (hks a (by simp)) hk hg hv hl
   have p1:=dG e1 ⟨hg,hv⟩
   cases r1 with
   |st c=>exact⟨s1,_,.firstS hlo hhi rfl e1⟩
   |ok q=>
    by_cases h10:o=10/\q=0
    ·obtain⟨h10,rfl⟩:=h10
     exact⟨s1,_,.and0 h10 rfl e1⟩
    obtain⟨s2,r2,e2⟩:=ih b v s1 (hkz b (by simp)) (hks b (by simp)) hk p1.1 hv (Zi p1.2.1 hl)
    by_cases ho10:o=10
    ·have hq:q≠0:=λe=>h10 ⟨ho10,e⟩
     cases r2 with
     |st c=>exact⟨s2,_,.andS ho10 rfl e1 hq e2⟩
     |ok m=>exact⟨s2,_,.and1 ho10 rfl e1 hq e2⟩
    ·have hle9:o<=9:=by omega
     cases r2 with
     |st c=>exact⟨s2,_,.binS hlo hle9 rfl e1 e2⟩
     |ok m=>
      cases ht:Gn o q m with
      |none=>exact⟨s2,_,.binD hlo hle9 rfl e1 e2 ht⟩
      |some t=>exact⟨s2,_,.bin hlo hle9 rfl e1 e2 ht⟩
end
end
section
structure Fine5 (l:List Fd) (k b:Nat) (x:Sm) (w:WS):Prop where
 code:w.code=0
 args:aK l k w.vs x.args 0=0
 op:(opW x.op x.name b ⟨w.vs,w.count,0⟩).code=0
 body:(aO l k (b+1) x.body (opW x.op x.name b ⟨w.vs,w.count,0⟩)).code=0
 els:∃w3:WS,w3.vs=(opW x.op x.name b ⟨w.vs,w.count,0⟩).vs/\(aO l k (b+1) x.els w3).code=0
 vs:(stW l k b x w).vs=(opW x.op x.name b ⟨w.vs,w.count,0⟩).vs
theorem jb{l:List Fd}{k b:Nat}{x:Sm}{w:WS}(hz:(stW l k b x w).code=0):Fine5 l k b x w:=by
 obtain⟨o,nm,a,bd,el⟩:=x
 have hz0:=hz
 rw[stW,cb] at hz
 have z1:=bg hz
 rw[cb] at z1
 have z2:=bg z1
 have z3:aK l k w.vs a w.code=0:=ry z2
 have hc:=bL z3
 rw[z3] at z2 z1 hz
 have z3':=z3
 rw[hc] at z3'
 refine⟨hc,z3',z2,z1,⟨(aO l k (b+1) bd (opW o nm b ⟨w.vs,w.count,0⟩)).back (opW o nm b ⟨w.vs,w.count,0⟩).vs,rfl,hz⟩,?_⟩
 rw[IY,z3];rfl
theorem dJ{o:Int}{nm:List UInt8}{b:Nat}{w:WS}(h:o≠1):(opW o nm b w).vs=w.vs:=by
 unfold opW
 rw[if_neg h]
 split<;>rfl
theorem OB{d:Nat}{x:Sm}(h:az d x=true):(1<=x.op/\x.op<=8)/\x.args.length=iI x.op/\(∀a∈x.args,iR a=true)/\(∀y∈x.body,∃d,az d y=true)/\(∀y∈x.els,∃d,az d y=true):=by
 cases d with
 |zero=>cases h
 |succ d=>
  rw[az,YX,YX,YW,YW] at h
  obtain⟨⟨h1,h2⟩,h3⟩:=h
  simp only[gu,YX,YW] at h1
  obtain⟨⟨⟨⟨⟨⟨⟨p1,p2⟩,_⟩,_⟩,p5⟩,_⟩,_⟩,_⟩:=h1
  exact⟨inR5.1 p1,of_decide_eq_true p2,p5,λy hy=>⟨d,h2 y hy⟩,λy hy=>⟨d,h3 y hy⟩⟩
theorem zL{a:Ex}(h:iR a=true):bV 6 a=true:=by rw[iR,YX] at h;exact h.1
section
variable {l:List Fd}
theorem XU{F:Nat}(hE:RC l F)(hB:Lv l F)(hL:∀F',F'<F->QI l F'):QI l F:=by
 intro k x b w v s hf ho hz hR hg hv hl
 obtain⟨d,hd⟩:=hf
 obtain⟨_,hal,hae,hbo,_⟩:=OB hd
 have Fn:=jb hz
 have hal1:x.args.length=1:=by rw[hal,iI,if_neg (by omega)]
 obtain⟨a,ha⟩:=JV hal1
 have haz:=mu x.args Fn.args a (by rw[ha];simp)
 obtain⟨s1,r1,e1⟩:=hE k w.vs 6 a v s haz (zL (hae a (by rw[ha];simp))) (OI hR) hg hv hl
 have p1:=dG e1 ⟨hg,hv⟩
 cases r1 with
 |st c=>exact⟨v,s1,_,.lpS ha e1,rfl⟩
 |ok n=>
  by_cases hn:n=0
  ·subst hn;exact⟨v,s1,_,.lp0 ha e1,rfl⟩
  have hsame:(opW x.op x.name b ⟨w.vs,w.count,0⟩).vs=w.vs:=dJ (by omega)
  have hR2:SR g0 (b+1) (opW x.op x.name b ⟨w.vs,w.count,0⟩).vs (ers ([]::v)):=by
   rw[hsame];exact hR.open
  obtain⟨m2,v2,s2,r2,e2,u2⟩:=hB k x.body (b+1) _ [] v s1 hbo Fn.body hR2 p1.1 hv.opn (Zi p1.2.1 hl)
  have p2:=dG e2 ⟨p1.1,hv.opn⟩
  by_cases hq:r2= .ok none
  ·subst hq
   rcases Nat.eq_zero_or_pos s2.left with h0|h0
   ·exact⟨v2,s2,_,.lpFuel ha e1 hn e2 h0,u2⟩
   obtain⟨F',hF⟩:∃F',s2.left=F'+1:=⟨s2.left-1,by omega⟩
   have hlt:F'<F:=by have:=p2.2.1;have:=p1.2.1;omega
   obtain⟨v3,s3,r3,e3,u3⟩:=hL F' hlt k x b w v2 (s2.at_ F') ⟨d,hd⟩ ho hz (by rw[u2];exact hR) (p2.1.at_ F') p2.2.2.1.tail (YY _)
   exact⟨v3,s3,_,.lpGo ha e1 hn e2 hF e3,u3.trans u2⟩
  ·exact⟨v2,s2,_,.lpEnd ha e1 hn e2 hq,u2⟩
theorem Yt{F:Nat}(hE:RC l F)(hB:Lv l F)(hL:QI l F):Tw l F:=by
 intro k x b w m up s hf hz hR hg hv hl
 obtain⟨d,hd⟩:=hf
 obtain⟨⟨ho1,ho8⟩,hal,hae,hbo,heo⟩:=OB hd
 have Fn:=jb hz
 by_cases h6:x.op=6
 ·obtain⟨v',s',r,e,u⟩:=hL k x b w (m::up) s ⟨d,hd⟩ h6 hz hR hg hv hl
  obtain⟨m',up',rfl,u1,u2⟩:=Cc u
  refine⟨m',up',s',r,.sloop h6 e,u2,λ_=>?_⟩
  rw[Fn.vs,dJ (by omega),u]
  exact hR
 have hex:∀a∈x.args,∀s:S5,G5 s->s.left<=F->∃s' r,Ev l (.ex k (m::up) s a s' r):=λa ha s g hs=>
  hE k w.vs 6 a (m::up) s (mu x.args Fn.args a ha) (zL (hae a ha)) (OI hR) g hv hs
 by_cases h4:x.op=4
 ·have hal2:x.args.length=2:=by rw[hal,iI,if_pos h4]
  obtain⟨a,c,ha⟩:=PT hal2
  have hR':SR g0 b (stW l k b x w).vs (ers (m::up)):=by rw[Fn.vs,dJ (by omega)];exact hR
  obtain⟨s1,r1,e1⟩:=hex a (by rw[ha];simp) s hg hl
  have p1:=dG e1 ⟨hg,hv⟩
  cases r1 with
  |st q=>exact⟨m,up,s1,_,.argS h6 ha e1,rfl,λ_=>hR'⟩
  |ok n=>
   obtain⟨n0,n1⟩:=p1.2.2 _ rfl
   obtain⟨s2,r2,e2⟩:=hex c (by rw[ha];simp) s1 p1.1 (Zi p1.2.1 hl)
   cases r2 with
   |st q=>exact⟨m,up,s2,_,.sputS h4 ha e1 e2,rfl,λ_=>hR'⟩
   |ok q=>
    obtain⟨i,rfl⟩:∃i:Nat,n=i:=⟨n.toNat,by omega⟩
    by_cases hi:i<16
    ·exact⟨m,up,_,_,.sput h4 ha e1 e2 hi,rfl,λ_=>hR'⟩
    ·exact⟨m,up,s2,_,.sputC h4 ha e1 e2 (by omega),rfl,λ_=>hR'⟩
 have hal1:x.args.length=1:=by rw[hal,iI,if_neg h4]
 obtain⟨a,ha⟩:=JV hal1
 obtain⟨s1,r1,e1⟩:=hex a (by rw[ha];simp) s hg hl
 have p1:=dG e1 ⟨hg,hv⟩
 have hsame:x.op≠1->SR g0 b (stW l k b x w).vs (ers (m::up)):=λh=>by rw[Fn.vs,dJ h];exact hR
 cases r1 with
 |st q=>exact⟨m,up,s1,_,.argS h6 ha e1,rfl,λh=>by cases h⟩
 |ok n=>
  by_cases h1:x.op=1
  ·have hput:(eF ⟨w.vs,w.count,0⟩ x.name b).code=0:=by
    have:=Fn.op
    rw[opW,if_pos h1] at this
    exact this
   have hput2:pP w.vs x.name b 0=0:=hput
   have hR1:SR g0 b w.vs (er m::ers up):=hR
   rw[hR1.put] at hput2
   have hno:ce m x.name=none:=by
    cases e:ce m x.name with
    |none=>rfl
    |some q=>
     rw[FB,e] at hput2
     simp[fl] at hput2
   refine⟨_,up,s1,_,.slet h1 ha e1 rfl hno,rfl,λ_=>?_⟩
   rw[Fn.vs,opW,if_pos h1]
   have:=hR1.add x.name w.count 0 rfl
   rw[←Tc (n:=n) hno] at this
   exact this
  by_cases h2:x.op=2
  ·have huse:mN w.vs x.name 0=0:=by
    have:=Fn.op
    rw[opW,if_neg h1,if_pos h2] at this
    exact this
   obtain⟨_,q,hq⟩:=iK huse
   have hs:(iL (m::up) x.name).isSome=true:=by rw[←OI hR x.name,hq];rfl
   have hev:=Ev.sset (l:=l) h2 ha e1 hs
   obtain⟨m',up',e,_,u2⟩:=Cc (Fx (s:=x.name) (n:=n) (m::up))
   have hu:ers (m'::up')=ers (m::up):=by rw[←e];exact Fx _
   rw[e] at hev
   exact⟨m',up',s1,_,hev,u2,λ_=>by rw[hu];exact hsame h1⟩
  by_cases h3:x.op=3
  ·exact⟨m,up,_,_,.ssay h3 ha e1,rfl,λ_=>hsame h1⟩
  by_cases h5:x.op=5
  ·have hsv:(opW x.op x.name b ⟨w.vs,w.count,0⟩).vs=w.vs:=dJ h1
   obtain⟨w3,hw3,hez⟩:=Fn.els
   have hB':∃m2 v2 s2 r2,Ev l (.blk k ([]::m::up) s1 (if n≠0 then x.body else x.els) (m2::v2) s2 r2)/\ers v2=ers (m::up):=by
    by_cases hn:n≠0
    ·rw[if_pos hn]
     exact hB k x.body (b+1) _ [] (m::up) s1 hbo Fn.body (by rw[hsv];exact hR.open) p1.1 hv.opn (Zi p1.2.1 hl)
    ·rw[if_neg hn]
     exact hB k x.els (b+1) w3 [] (m::up) s1 heo hez (by rw[hw3,hsv];exact hR.open) p1.1 hv.opn (Zi p1.2.1 hl)
   obtain⟨m2,v2,s2,r2,e2,u2⟩:=hB'
   obtain⟨m',up',rfl,u3,u4⟩:=Cc u2
   exact⟨m',up',s2,r2,.sif h5 ha e1 e2,u4,λ_=>by rw[u2];exact hsame h1⟩
  by_cases h7:x.op=7
  ·exact⟨m,up,s1,_,.sback h7 ha e1,rfl,λh=>by cases h⟩
  ·exact⟨m,up,s1,_,.sdo (by omega) ha e1,rfl,λ_=>hsame h1⟩
theorem RJ(hc:aI l=0):∀F,TI l F/\RC l F/\Lv l F/\Tw l F/\QI l F:=by
 intro F
 induction F using Nat.strongRecOn with
 |_ F ih=>
  have hB:=Yb (l:=l) (F:=F) (λF' h=>(ih F' h).2.2.2.1) (λF' h=>(ih F' h).2.2.1)
  have hC:=Ym hc hB
  have hE:=XH hc hC
  have hL:=XU hE hB (λF' h=>(ih F' h).2.2.2.2)
  exact⟨hC,hE,hB,Yt hE hB hL,hL⟩
end
def s0(fuel:Nat):S5:=⟨fuel,[],List.replicate 16 0⟩
theorem pX(fuel:Nat):G5 (s0 fuel):=⟨by simp[s0],λc hc=>by rw[(List.mem_replicate.1 hc).2];exact⟨by omega,by omega⟩,λc hc=>by cases hc⟩
theorem XB{l:List Fd}(hc:aI l=0){f:Fd}(hf:l[l.length-1]?=some f){us:List Int}(hl:us.length=f.params.length)(hu:∀n∈us,V5 n)(fuel:Nat):
 ∃s' r,Ev l (.cal (l.length-1) us (s0 fuel) s' r)/\G5 s'/\s'.left<=fuel/\∀n,r= .ok n->V5 n:=by
 obtain⟨s',r,e⟩:=(RJ hc fuel).1 (l.length-1) f us (s0 fuel) hf hl.symm (pX fuel) hu (YY _)
 have p:=dG e ⟨pX fuel,hu⟩
 exact⟨s',r,e,p.1,p.2.1,p.2.2⟩
end
section
def S5.dn(s:S5)(c:Nat):S5:=⟨s.left-c,s.said,s.cells⟩
def Hc:J5->Prop
 | .stm _ v _ _ v' _ _=>v'.length=v.length
 | .blk _ v _ _ v' _ _=>v'.length=v.length
 | .lp _ v _ _ v' _ _=>v'.length=v.length
 |_=>True
theorem Ir(s:List UInt8)(n:Int):∀v:List Sc5,(iu v s n).length=v.length
 |[]=>rfl
 |m::r=>by
  rw[iu]
  split
  ·rfl
  ·simp[Ir s n r]
theorem VE{l:List Fd}{j:J5}(h:Ev l j):Hc j:=by
 induction h with
 |bgo _ _ _ i1 i2=>exact i2.trans i1
 |bend _ _ _ i1=>exact i1
 |slet _ _ _ hv _ _=>subst hv;rfl
 |sset _ _ _ _ _=>exact Ir _ _ _
 |sif _ _ _ _ _ i2=>simpa[Hc] using i2
 |sloop _ _ i1=>exact i1
 |lpEnd _ _ _ _ _ _ i2=>simpa[Hc] using i2
 |lpFuel _ _ _ _ _ _ i2=>simpa[Hc] using i2
 |lpGo _ _ _ _ _ _ _ i2 i3=>exact i3.trans (by simpa[Hc] using i2)
 |_=>first|trivial|rfl
theorem yW{l:List Fd}{k:Nat}{v:List Sc5}{s:S5}{xs:List Sm}{w:List Sc5}{s':S5}{r:O5 (Option Int)}(h:Ev l (.blk k ([]::v) s xs w s' r)):∃m up,w=m::up:=by
 have e:w.length=([]::v:List Sc5).length:=VE h
 match w,e with
 |m::up,_=>exact⟨m,up,rfl⟩
end
section
def S5.pre(s:S5)(t:List Int):S5:=⟨s.left,t++s.said,s.cells⟩
end
section
def nmS(m:Sc5):List (List UInt8):=m.map (·.1)
def nmV(v:List Sc5):List (List (List UInt8)):=v.map nmS
theorem Lf(s:List UInt8)(n:Int):∀m:Sc5,nmS (sset m s n)=nmS m
 |[]=>rfl
 |x::r=>by
  rw[sset]
  split
  ·rename_i h
   show s::nmS r=x.1::nmS r
   rw[h]
  ·show x.1::nmS (sset r s n)=x.1::nmS r
   rw[Lf s n r]
theorem Bu(s:List UInt8)(n:Int):∀v:List Sc5,nmV (iu v s n)=nmV v
 |[]=>rfl
 |m::r=>by
  rw[iu]
  split
  ·show nmS (sset m s n)::nmV r=_
   rw[Lf];rfl
  ·show nmS m::nmV (iu r s n)=_
   rw[Bu s n r];rfl
def Grw(v v':List Sc5):Prop:=nmV v'=nmV v\/∃m up m' up' t,v=m::up/\v'=m'::up'/\nmV up'=nmV up/\nmS m'=nmS m++t
theorem Grw.refl(v:List Sc5):Grw v v:= .inl rfl
theorem GM{m:Sc5}{up v:List Sc5}(h:nmV v=nmV (m::up)):∃m' up',v=m'::up'/\nmS m'=nmS m/\nmV up'=nmV up:=by
 match v with
 |[]=>cases h
 |m'::up'=>
  have h:nmS m'::nmV up'=nmS m::nmV up:=h
  exact⟨m',up',rfl,(List.cons.inj h).1,(List.cons.inj h).2⟩
theorem Grw.trans{a b c:List Sc5}(h:Grw a b)(g:Grw b c):Grw a c:=by
 rcases h with h|⟨m,up,m',up',t,rfl,rfl,h1,h2⟩
 ·rcases g with g|⟨m,up,m',up',t,rfl,rfl,h1,h2⟩
  ·exact .inl (g.trans h)
  ·obtain⟨m0,up0,rfl,e1,e2⟩:=GM h.symm
   exact .inr ⟨m0,up0,m',up',t,rfl,rfl,h1.trans e2.symm,by rw[h2,e1]⟩
 ·rcases g with g|⟨q,uq,q',uq',t',e,rfl,g1,g2⟩
  ·obtain⟨m0,up0,rfl,e1,e2⟩:=GM g
   exact .inr ⟨m,up,m0,up0,t,rfl,rfl,e2.trans h1,e1.trans h2⟩
  ·obtain⟨e1,e2⟩:=List.cons.inj e
   subst e1;subst e2
   exact .inr ⟨m,up,q',uq',t++t',rfl,rfl,g1.trans h1,by rw[g2,h2,Zt]⟩
theorem Grw.tail{m m':Sc5}{v v':List Sc5}(h:Grw (m::v) (m'::v')):nmV v'=nmV v:=by
 rcases h with h|⟨q,up,q',up',t,e1,e2,h1,h2⟩
 ·have h:nmS m'::nmV v'=nmS m::nmV v:=h
  exact(List.cons.inj h).2
 ·rw[(List.cons.inj e1).2,(List.cons.inj e2).2];exact h1
def Sh5:J5->Prop
 | .stm _ v _ _ v' _ _=>Grw v v'
 | .blk _ v _ _ v' _ _=>Grw v v'
 | .lp _ v _ _ v' _ _=>nmV v'=nmV v
 |_=>True
theorem Cr{l:List Fd}{j:J5}(h:Ev l j):Sh5 j:=by
 induction h with
 |bnil=>exact .inl rfl
 |bfuel _=>exact .inl rfl
 |bgo _ _ _ i1 i2=>exact i1.trans i2
 |bend _ _ _ i1=>exact i1
 |argS _ _ _ _=>exact .inl rfl
 | @slet k v s x a s1 n m up _ _ _ hv _ _=>
   subst hv
   exact .inr ⟨m,up,m++[(x.name,n)],up,[x.name],rfl,rfl,rfl,by simp[nmS]⟩
 |sset _ _ _ _ _=>exact .inl (Bu _ _ _)
 |ssay _ _ _ _=>exact .inl rfl
 |sput _ _ _ _ _ _ _=>exact .inl rfl
 |sputC _ _ _ _ _ _ _=>exact .inl rfl
 |sputS _ _ _ _ _ _=>exact .inl rfl
 |sif _ _ _ _ _ i2=>exact .inl i2.tail
 |sloop _ _ i1=>exact .inl i1
 |sback _ _ _ _=>exact .inl rfl
 |sdo _ _ _ _=>exact .inl rfl
 |lpS _ _ _=>exact(rfl:nmV _=nmV _)
 |lp0 _ _ _=>exact(rfl:nmV _=nmV _)
 |lpEnd _ _ _ _ _ _ i2=>exact i2.tail
 |lpFuel _ _ _ _ _ _ i2=>exact i2.tail
 |lpGo _ _ _ _ _ _ _ i2 i3=>exact(show nmV _=nmV _ from i3).trans i2.tail
 |_=>trivial
def aC:List Sc5->Sc5
 |[]=>[]
 |m::r=>aC r++m
theorem iW:∀{v w:List Sc5},nmV v=nmV w->(aC v).length=(aC w).length
 |[],[],_=>rfl
 |[],_::_,h=>by cases h
 |_::_,[],h=>by cases h
 |m::r,m'::r',h=>by
  have h:nmS m::nmV r=nmS m'::nmV r':=h
  obtain⟨h1,h2⟩:=List.cons.inj h
  have:=iW h2
  have h1:=congrArg List.length h1
  simp only[nmS,Zu] at h1
  simp[aC,this,h1]
theorem El{m:Sc5}{v w:List Sc5}(h:nmV v=nmV w):(aC (m::v)).take (aC w).length=aC v:=by
 rw[aC,←iW h,List.take_left']
 rfl
def dB:Sc5->List UInt8->Option Nat
 |[],_=>none
 |x::r,s=>match dB r s with|some i=>some (i+1)|none=>if x.1=s then some 0 else none
theorem pI(s:List UInt8):∀a b:Sc5,dB (a++b) s=match dB b s with|some i=>some (a.length+i)|none=>dB a s
 |[],b=>by cases h:dB b s<;>simp[dB,h]
 |x::r,b=>by
  rw[Zx,dB,pI s r b]
  cases h:dB b s with
  |some i=>simp;omega
  |none=>rfl
def Un5(v:List Sc5):Prop:=∀m∈v,(nmS m).Pairwise (· ≠ ·)
theorem sget_none_iff:∀{m:Sc5} {s:List UInt8},ce m s=none↔s∉nmS m
 |[],s=>by simp[ce,nmS]
 |x::r,s=>by
  rw[ce]
  by_cases h:x.1=s
  ·simp[h,nmS]
  ·rw[if_neg h,sget_none_iff]
   simp[nmS,Ne.symm h]
theorem sq:∀{m:Sc5} {s:List UInt8},s∉nmS m->dB m s=none
 |[],s,_=>rfl
 |x::r,s,h=>by
  simp only[nmS,Zn,Za,not_or] at h
  rw[dB,sq (m:=r) h.2]
  simp only
  rw[if_neg (λe=>h.1 e.symm)]
theorem BJ:∀{m:Sc5} {s:List UInt8} {n:Int},(nmS m).Pairwise (· ≠ ·)->ce m s=some n->∃i,dB m s=some i/\m[i]?=some (s,n)/\∀q,sset m s q=m.set i (s,q)
 |x::r,s,n,hp,h=>by
  obtain⟨h1,h2⟩:=List.pairwise_cons.1 (show(x.1::nmS r).Pairwise (· ≠ ·) from hp)
  rw[ce] at h
  by_cases hx:x.1=s
  ·rw[if_pos hx] at h
   have hn:s∉nmS r:=λhm=>h1 s hm hx
   refine⟨0,?_,?_,λq=>?_⟩
   ·rw[dB,sq hn];simp only;rw[if_pos hx]
   ·obtain⟨a,b⟩:=x
    have hx:a=s:=hx
    have h:some b=some n:=h
    cases h;subst hx;rfl
   ·rw[sset,if_pos hx];rfl
  ·rw[if_neg hx] at h
   obtain⟨i,g1,g2,g3⟩:=BJ h2 h
   refine⟨i+1,?_,by simpa using g2,λq=>?_⟩
   ·rw[dB,g1]
   ·rw[sset,if_neg hx,g3 q];rfl
theorem BR:∀{v:List Sc5} {s:List UInt8} {n:Int},Un5 v->iL v s=some n->∃i,dB (aC v) s=some i/\(aC v)[i]?=some (s,n)/\∀q,aC (iu v s q)=(aC v).set i (s,q)
 |m::r,s,n,hu,h=>by
  rw[iL] at h
  cases hm:ce m s with
  |some k=>
   rw[hm] at h
   cases h
   obtain⟨i,g1,g2,g3⟩:=BJ (hu m (by simp)) hm
   refine⟨(aC r).length+i,?_,?_,λq=>?_⟩
   ·rw[aC,pI,g1]
   ·rw[aC,YT (by omega)]
    rw[Zw];exact g2
   ·rw[iu,hm]
    simp only[Option.isSome_some,if_true]
    rw[aC,aC,g3 q,List.set_append_right _ _ (by omega),Zw]
  |none=>
   rw[hm] at h
   obtain⟨i,g1,g2,g3⟩:=BR (λq hq=>hu q (by simp[hq])) h
   have hi:i<(aC r).length:=by
    have:=YL.1 g2
    exact this.1
   refine⟨i,?_,?_,λq=>?_⟩
   ·rw[aC,pI,sq (sget_none_iff.1 hm)];exact g1
   ·rw[aC,YN hi];exact g2
   ·rw[iu,hm]
    simp only[Option.isSome_none,Bool.false_eq_true,if_false]
    rw[aC,aC,g3 q,List.set_append_left _ _ hi]
theorem NM{m:Sc5}{up:List Sc5}(x:List UInt8 × Int):aC ((m++[x])::up)=aC (m::up)++[x]:=by simp[aC]
theorem EM(v:List Sc5):aC ([]::v)=aC v:=by simp[aC]
theorem Un5.of{v w:List Sc5}(h:Un5 v)(e:nmV w=nmV v):Un5 w:=by
 intro m hm
 have h1:nmS m∈nmV v:=by rw[←e];exact List.mem_map_of_mem hm
 obtain⟨q,hq,e2⟩:=Zh.1 h1
 rw[←e2];exact h q hq
theorem Un5.let{m:Sc5}{up:List Sc5}{s:List UInt8}{n:Int}(h:Un5 (m::up))(hs:ce m s=none):Un5 ((m++[(s,n)])::up):=by
 intro q hq
 rcases Za.1 hq with rfl|hq
 ·have h1:=h m (by simp)
  have h2:=sget_none_iff.1 hs
  simp only[nmS,List.map_append,Zn,List.map_nil]
  refine List.pairwise_append.2 ⟨h1,List.pairwise_singleton _ _,λa ha b hb=>?_⟩
  rw[YQ.1 hb]
  exact λe=>h2 (e▸ha)
 ·exact h q (by simp[hq])
theorem Un5.opn{v:List Sc5}(h:Un5 v):Un5 ([]::v):=by
 intro q hq
 rcases Za.1 hq with rfl|hq
 ·exact .nil
 ·exact h q hq
end
section
theorem eE{n:Nat}{h h1:List AO}(e:h.take n=h1)(hn:h1.length=n)(ho:∀o∈h1,okO n o):Fst n h h1:=by
 have hl:n<=h.length:=by
  have:=congrArg List.length e
  rw[Zl] at this;omega
 have hg:∀(i:Nat) (o:AO),h1[i]?=some o->h[i]?=some o:=λi o hi=>by
  have h2:=(YL.1 hi).1
  rw[←e,List.getElem?_take_of_lt (by omega)] at hi
  exact hi
 exact⟨hn,hl,λi sz es hi=>⟨hg _ _ hi,ho _ (YS hi)⟩,λi es hi=>⟨hg _ _ hi,ho _ (YS hi)⟩,λi s p hi=>hg _ _ hi⟩
theorem Ey:∀(r:List AO) (s:Nat),((lb (List.range' s r.length++[0]) (r++[.dead])).Nodup/\∀i∈lb (List.range' s r.length++[0]) (r++[.dead]),s<=i)
 |[],s=>by simp[lb]
 |o::r,s=>by
  obtain⟨h1,h2⟩:=Ey r (s+1)
  rw[Ze,List.range'_succ]
  cases o with
  |dead=>exact⟨h1,λi hi=>Nat.le_of_succ_le (h2 i hi)⟩
  |_=>exact⟨ZN.2 ⟨λhm=>absurd (h2 _ hm) (by omega),h1⟩,λi hi=>by
   rcases Za.1 hi with rfl|hi
   ·exact YY _
   ·exact Nat.le_of_succ_le (h2 i hi)⟩
theorem HI{h:List AO}(hp:0<h.length)(ho:∀o∈h,okO h.length o):∀(r:List AO) (s:Nat),(∀i:Nat,r[i]?=h[s+i]?)->s+r.length=h.length->HW (List.range' 0 h.length++[0]) h (List.range' s r.length++[0]) (r++[.dead])
 |[],s,_,_=>fO hp cm
 |o::r,s,hr,hs=>by
  have hσ:∀i,i<h.length->(List.range' 0 h.length++[0]).getD i 0=i:=λi hi=>by
   rw[Zc,YN (by simp;exact hi)];simp[hi]
  rw[Ze,List.range'_succ]
  have h0:=hr 0
  have ih:=HI hp ho r (s+1) (λi=>by have:=hr (i+1);rw[Zd] at this;rw[this];congr 1;omega) (by simp at hs;omega)
  have hm:h[s]?=some o:=by simpa using h0.symm
  have hok:=ho o (YS hm)
  cases o with
  |dead=>exact fO (YL.1 hm).1 ih
  |row sz es=>
   refine da (λx hx=>aJ (by simp) _ (hok x hx)) ?_ ih
   rw[hm,Zk (g:=id) λx hx=>mv hσ x (hok x hx)];simp
  |mp es=>exact⟨(YL.1 hm).1,⟨λx hx=>by exact(aJ (by simp) [x.2] ⟨hok x hx,trivial⟩).1,by rw[hm,Zk (g:=id) λx hx=>by rw[mg hσ x.2 (hok x hx)];rfl];simp⟩,ih⟩
  |sit s p=>exact⟨(YL.1 hm).1,hm,ih⟩
theorem Im{m:Nat}{l:List (Nat × AV)}:∀r:List (Nat × AV),FgA m l r->TWA (List.range' 0 m++[0]) l r
 |[],_=>trivial
 |x::r,⟨⟨a,c⟩,d⟩=>by
  have hσ:∀i,i<m->(List.range' 0 m++[0]).getD i 0=i:=λi hi=>by
   rw[Zc,YN (by simp;exact hi)];simp[hi]
  exact⟨⟨(aJ (by simp) [x.2] ⟨a,trivial⟩).1,by rw[mg hσ _ a,c]⟩,Im r d⟩
theorem kQ{k n:Nat}{l l1:List (Nat × AV)}{h:List AO}(hk:k<=h.length)(hp:0<h.length)(ho:∀o∈h,okO h.length o)(H:FgA h.length l l1):Wk k (aj n l) h (aj n l1) (h++[.dead]):=by
 have hσ:∀i,i<h.length->(List.range' 0 h.length++[0]).getD i 0=i:=λi hi=>by
  rw[Zc,YN (by simp;exact hi)];simp[hi]
 refine Lm (List.range' 0 h.length++[0]) (by simp;omega) (λi hi=>hσ i (by omega)) ?_ ?_ (Im _ H)
 ·exact(Ey h 0).1
 ·exact HI hp ho h 0 (λi=>by simp) (by simp)
def aS(fns:List Fd):List (List AV):=fns.map λf=>f.cs.map .p
theorem sN(fns:List Fd):∀x∈aS fns,ah 0 x:=by
 intro x hx;obtain⟨m,_,rfl⟩:=Zh.1 hx;simp
theorem cw{n:Nat}{o:AO}(h:okO 0 o):okO n o:=by
 cases o with
 |dead=>trivial
 |sit=>trivial
 |row sz es=>exact λe he=>aJ (ZD _) _ (h e he)
 |mp es=>exact λe he=>(aJ (ZD n) [e.2] ⟨h e he,trivial⟩).1
theorem nT(fns:List Fd)(n:Nat):okO n (bx 3 (aS fns)):=cw (Oc (sN fns))
def exR(l:List Ex):List (List AV):=l.map λe=>e.cs.map .p
theorem ey(l:List Ex):∀x∈exR l,ah 0 x:=by
 intro x hx;obtain⟨m,_,rfl⟩:=Zh.1 hx;simp
theorem jz{h:List AO}{id:Nat}{l:List Ex}(e:h[id]?=some (bx 4 (exR l))):View h (slE id 4 (exR l)) (exL l):=by
 have hh:exR l=(l.map Ex.cs).map (·.map .p):=by simp[exR]
 rw[hh] at e⊢
 exact BE e (λx hx=>by obtain⟨b,_,rfl⟩:=Zh.1 hx;exact b.cs_len)
theorem vv{h:List AO}{id sz:Nat}{r0 r1:List AV}{p0 p1:List PV}(he:h[id]?=some (.row sz [r0,r1]))(l0:p0.length=sz)(l1:p1.length=sz)(h0:∀(j:Nat) (q:PV) (a:AV),p0[j]?=some q->r0[j]?=some a->View h a q)(h1:∀(j:Nat) (q:PV) (a:AV),p1[j]?=some q->r1[j]?=some a->View h a q):View h (.sl id sz 0 2) (.lst sz [p0,p1]):=by
 refine View.sl id sz 0 _ [p0,p1] he (by simp) (by simp[l0,l1]) λi j e q e' a a1 a2 a3 a4=>?_
 rw[Zz] at a3
 match i,a1,a3 with
 |0,a1,a3=>cases a1;cases a3;exact h0 j q a a2 a4
 |1,a1,a3=>cases a1;cases a3;exact h1 j q a a2 a4
 |i+2,a1,a3=>simp at a1
def smR(l:List Sm):List (List AV):=l.map λs=>s.cs.map .p
theorem ep(l:List Sm):∀x∈smR l,ah 0 x:=by
 intro x hx;obtain⟨m,_,rfl⟩:=Zh.1 hx;simp
theorem gZ(l:List Sm):(smR l).length=l.length:=by simp[smR]
theorem Gp(a b:List Sm):smR (a++b)=smR a++smR b:=by simp[smR]
theorem bH{h:List AO}{id sz:Nat}{r0:List AV}{p0:List PV}(he:h[id]?=some (.row sz [r0]))(l0:p0.length=sz)(h0:∀(j:Nat) (q:PV) (a:AV),p0[j]?=some q->r0[j]?=some a->View h a q):View h (.sl id sz 0 1) (.lst sz [p0]):=by
 refine View.sl id sz 0 _ [p0] he (by simp) (by simp[l0]) λi j e q e' a a1 a2 a3 a4=>?_
 rw[Zz] at a3
 match i,a1,a3 with
 |0,a1,a3=>cases a1;cases a3;exact h0 j q a a2 a4
 |i+1,a1,a3=>simp at a1
theorem jJ{h:List AO}{o n:Int}{w:List UInt8}{k:List Ex}{K:AV}(hk:View h K (exL k)):∀(j:Nat) (q:PV) (a:AV),(Ex.mk o n w k).cs[j]?=some q->[AV.p (.int .i64 o),.p (.int .i64 n),.p (.str w),K][j]?=some a->View h a q:=by
 intro j q a e1 e2
 have hc:(Ex.mk o n w k).cs=[.int .i64 o,.int .i64 n,.str w,exL k]:=Ex.cs_eq _
 rw[hc] at e1
 match j,e1,e2 with
 |0,e1,e2=>cases e1;cases e2;exact .p _
 |1,e1,e2=>cases e1;cases e2;exact .p _
 |2,e1,e2=>cases e1;cases e2;exact .p _
 |3,e1,e2=>cases e1;cases e2;exact hk
 |j+4,e1,e2=>simp at e1
theorem mE{h:List AO}{id:Nat}{l:List Sm}(e:h[id]?=some (.row 5 (smR l))):View h (.sl id 5 0 l.length) (smL l):=by
 have:=la (h:=h) (id:=id) (sz:=5) (n:=l.length) (ls:=l.map Sm.cs) (by rw[e,smR];simp) (by simp) (λx hx=>by obtain⟨b,_,rfl⟩:=Zh.1 hx;exact b.cs_len)
 exact this
theorem cA{h:List AO}{o:Int}{w:List UInt8}{a:List Ex}{bd el:List Sm}{A B E:AV}(hA:View h A (exL a))(hB:View h B (smL bd))(hE:View h E (smL el)):∀(j:Nat) (q:PV) (x:AV),(Sm.mk o w a bd el).cs[j]?=some q->[AV.p (.int .i64 o),.p (.str w),A,B,E][j]?=some x->View h x q:=by
 intro j q x e1 e2
 have hc:(Sm.mk o w a bd el).cs=[.int .i64 o,.str w,exL a,smL bd,smL el]:=Sm.cs_eq _
 rw[hc] at e1
 match j,e1,e2 with
 |0,e1,e2=>cases e1;cases e2;exact .p _
 |1,e1,e2=>cases e1;cases e2;exact .p _
 |2,e1,e2=>cases e1;cases e2;exact hA
 |3,e1,e2=>cases e1;cases e2;exact hB
 |4,e1,e2=>cases e1;cases e2;exact hE
 |j+5,e1,e2=>simp at e1
theorem dX{n:Nat}:∀o∈([]:List AO),okO n o:=λo h=>by cases h
theorem ae{n:Nat}{a:AO}{l:List AO}(h:okO n a)(r:∀o∈l,okO n o):∀o∈a::l,okO n o:=λo ho=>by
 rcases Za.1 ho with rfl|ho
 ·exact h
 ·exact r o ho
end
section
theorem Fd.cs_eq'(f:Fd):f.cs=[.str f.name,al f.params,smL f.body]:=rfl
variable (G:am)
end
section
theorem fw{α:Type}{p:α->Bool}{xs:List α}{i:Nat}(h:i<xs.length):(xs.take (i+1)).all p=((xs.take i).all p&&p xs[i]):=by
 rw[an h,List.all_append];simp
theorem pQ{α:Type}{p:α->Bool}{xs:List α}{i:Nat}(h:i<xs.length)(hp:p xs[i]=false):xs.all p=false:=
 List.all_eq_false.2 ⟨_,Zf h,by simp[hp]⟩
theorem jA{α:Type}{p:α->Bool}{xs:List α}{i:Nat}(h:xs.length<=i)(ht:(xs.take i).all p=true):xs.all p=true:=by
 rwa[YU h] at ht
def ut:AK:=qe [yA 2 4,xm] (yn [wT 10 2,qr 11 10,xr 12 kJ 11,qg 9 12,wP 13 0 9,wP 14 1 9,qg 5 13,x9 14] [xh 15,qy 16 .lss 15 1,qg 17 16,xD 18 17 0 2,xB 19 17 18,qL 20 17 (ya (xF 19 (qk 1) (qk 13))),qL 21 17 (wn 20),xZ 22 17 21,qg 23 22,xD 24 23 3 2,xB 25 23 24,qL 26 23 (wd 25),xC 27 23 5,xC 28 23 6,qL 29 23 (ya (xF 26 (.t 27) (.t 28))),qL 30 23 (wn 29),xZ 31 23 30] 31 [xm] (.cut (.reg [wT 32 2,qr 33 32,wb 34 33 2,qg 35 34,xD 36 35 0 2,xB 37 35 36,qL 38 35 (xd .eql 37 13),xZ 39 35 38,qg 7 39]) (.cut (wl [yh 40,xw 41 2,qr 42 41,xr 43 dd 42,qb 44 (.beq true (.t 40) (.t 43)),qg 45 44,xC 46 45 7,qL 47 45 (wn 46),xC 48 45 47,wS 49 48 2 2,wQ 50 48 49,qK 51 48 (yq .neq 50 (.c qG)),qL 52 45 (qU 48 (.t 51) wK),xZ 53 45 52,qg 54 53,xD 55 54 1 2,xB 56 54 55,qL 57 54 (ya (xF 56 yi (qk 255))),qL 58 54 (wn 57),xZ 59 54 58,qg 60 59,xD 61 60 0 2,xB 62 60 61,qL 63 60 (xd .neq 62 1),xC 64 60 63,wS 65 64 1 2,wQ 66 64 65,xT 67 64 .neq 66 0,qL 68 60 (qU 64 (.t 67) wK),xZ 69 60 68] 69 [xm]) (xV (xX [wY 8] 0 [yd 70,xW 71 2,qr 72 71,wq 73 72,xa 74 70 73] 74 wA 1 (wl [xW 77 2,qr 78 77,yd 79,wB 80 4 78 79,yb 81 80,xh 82,xO 83 82 1,wF 84 gW 81 83,xv 85 84] 85 [xm]) [yd 75,x8 76 75,qg 8 76]) [qT 4 wg]))))
theorem DD:AK.whole ut=FK.ak kz:=rfl
def tR:AK:=qe [yA 2 5,xm] (.cut (wl [xh 7,qy 8 .lss 7 1,yd 9,xD 10 9 0 2,xB 11 9 10,qL 12 9 (ya (xF 11 (qk 1) (qk 8))),qL 13 9 (wn 12),xZ 14 9 13,qg 15 14,xD 16 15 2 2,xD 19 15 0 2,xB 17 15 16,qL 18 15 (wd 17),xB 20 15 19,qL 21 15 (.qcall kI (xq 20)),qL 22 15 (ql .neq 18 (.t 21)),xZ 23 15 22] 23 [xm]) (.cut (.reg [wT 24 2,qr 25 24,wb 26 25 1,qg 27 26,xD 28 27 0 2,xB 29 27 28,qL 30 27 (xd .eql 29 2),xZ 31 27 30,qg 5 31]) (.cut (wl [xt 32,xN 33 2,qr 34 33,xr 35 dd 34,qb 36 (.beq true (.t 32) (.t 35)),qg 37 36,xC 38 37 5,qL 39 37 (wn 38),xC 40 37 39,wS 41 40 1 2,wQ 42 40 41,qK 43 40 (yq .neq 42 (.c qG)),qL 44 37 (qU 40 (.t 43) wK),xZ 45 37 44] 45 [xm]) (.seq (xX [wY 6] 0 [qg 46 6,xw 47 2,qr 48 47,wq 49 48,xa 50 46 49] 50 wA 1 (wl [xw 53 2,qr 54 53,qg 55 6,wB 56 4 54 55,yb 57 56,xr 58 gk 57,xv 59 58] 59 [xm]) [qg 51 6,x8 52 51,x9 52]) (.cut (wl [wT 60 2,qr 61 60,wb 62 61 8,qg 63 62,wS 64 63 2 2,wQ 65 63 64,qK 66 63 (qW 4 65 yi),wS 67 63 0 66,wQ 68 63 67,xT 69 63 .neq 68 13,xR 70 63 69] 70 [xm]) (.cut (wl [qq 71 4 2,qr 72 71,wq 73 72,yu 74 73 0,qg 75 74,wS 76 75 0 2,wQ 77 75 76,xT 78 75 .neq 77 5,xR 79 75 78,qg 80 79,xD 81 80 3 2,xB 82 80 81,qL 83 80 (wd 82),qL 84 80 (xd .gtr 83 0),xC 85 80 84,wS 86 85 0 2,wQ 87 85 86,xT 88 85 .neq 87 5,qL 89 80 (qU 85 (.t 88) wK),xC 90 80 89,wS 91 90 0 2,wQ 92 90 91,xT 93 90 .neq 92 6,qL 94 80 (qU 90 (.t 93) wK),xZ 95 80 94] 95 [xm]) (qA [xW 96 2,qr 97 96,xh 98,xO 99 98 1,wF 100 cD 97 99,qg 101 100,wS 102 101 4 2,wQ 103 101 102,xS 104 101 1,xT 105 101 .sub 104 1,qK 106 101 (xJ cD 103 (.t 105)),xR 107 101 106,yz 107])))))))
theorem DK:AK.whole tR=FK.ak kH:=rfl
variable (G:am)
theorem su(n lo hi:Int):VF Tryz.prog G lh [.p (.int .i64 n),.p (.int .i64 lo),.p (.int .i64 hi)] (.p (.bool (inR n lo hi))):=by
 refine AC.go Hk ?_
 by_cases h:lo<=n
 ·simp-implicitDefEqProofs[sg,h,inR]
 ·simp-implicitDefEqProofs[sg,h,inR]
theorem GG(op:Int):VF Tryz.prog G kJ [.p (.int .i64 op)] (.tup [.p (.int .i64 (loK op)),.p (.int .i64 (hiK op))]):=by
 refine AC.go DX ?_
 by_cases h1:op=1
 ·subst h1;simp-implicitDefEqProofs[dO,loK,hiK]
 by_cases h2:op=2
 ·subst h2;simp-implicitDefEqProofs[dO,loK,hiK]
 by_cases h3:op=11
 ·subst h3;simp-implicitDefEqProofs[dO,loK,hiK]
 by_cases h4:op=12
 ·subst h4;simp-implicitDefEqProofs[dO,loK,hiK]
 by_cases h5:op=13
 ·subst h5;simp-implicitDefEqProofs[dO,loK,hiK]
 simp-implicitDefEqProofs[dO,loK,hiK,h1,h2,h3,h4,h5]
theorem Ox:∀(d:Nat) (e:Ex),e.sz<=1099511627776->d<=1000->VF Tryz.prog G gW [.agg (e.cs.map .p),.p (.int .i64 d)] (.p (.bool (bV d e))):=by
 intro d
 induction d with
 |zero=>
  intro e he _
  refine AC.go tO ?_
  simp-implicitDefEqProofs[kz,Ex.cs_eq]
  refine(GG G _).use ?_
  simp-implicitDefEqProofs[bV]
 |succ d ih=>
  intro e he hd
  have hsz:=e.sz_eq
  have hkl:=bB e.kids
  refine AC.goK tO DD ?_
  have hd1:¬(d:Int)+1<1:=by omega
  have hw:IntKind.i64.wrap ((d:Int)+1-1)=(d:Int):=by rw[show(d:Int)+1-1=d by omega];exact ab (by omega) (by omega)
  have hw':IntKind.i64.wrap (d:Int)=(d:Int):=ab (by omega) (by omega)
  have hxl:∀l,exL l= .lst 4 (l.map Ex.cs):=λ_=>rfl
  simp-implicitDefEqProofs[ut,kz,Ex.cs_eq]
  refine(GG G _).use ?_
  simp-implicitDefEqProofs[hd1]
  refine(su G _ _ _).use ?_
  by_cases h1:inR e.op 1 13=true
  case neg=>simp-implicitDefEqProofs[h1,bV,lZ]
  simp-implicitDefEqProofs[h1,hxl]
  refine(su G _ _ _).use ?_
  by_cases h2:inR e.kids.length (loK e.op) (hiK e.op)=true
  case neg=>simp-implicitDefEqProofs[h2,bV,lZ]
  simp-implicitDefEqProofs[h2]
  refine nk (aj 86 [(1,.p (.int .i64 (d+1))),(2,.ptr 0 4 0 0),(7,.p (.bool (Hr e.op)))]) [.row 4 [[.p (.int .i64 e.op),.p (.int .i64 e.n),.p (.str e.name),.p (.lst 4 (e.kids.map Ex.cs))]]] ?_ ?_
  ·by_cases o2:e.op=2
   ·simp-implicitDefEqProofs[o2]
    exact af (by simp) (by simp[okO]) (by simp[below,Hr])
   ·by_cases o13:e.op=13
    ·simp-implicitDefEqProofs[o13]
     exact af (by simp) (by simp[okO]) (by simp[below,Hr])
    ·simp-implicitDefEqProofs[o2,o13]
     exact af (by simp) (by simp[okO]) (by simp[below,Hr,o2,o13])
  have hn:e.name.length<=140737488355328:=by omega
  refine zD (λ_:Unit=>aj 86 [(1,.p (.int .i64 ((d:Int)+1))),(2,.ptr 0 4 0 0)]) (λ_=>[.row 4 [[.p (.int .i64 e.op),.p (.int .i64 e.n),.p (.str e.name),.p (.lst 4 (e.kids.map Ex.cs))]]]) (λ_=>lZ e=true) ?_ ?_
  ·simp-implicitDefEqProofs[]
   refine(zi G _ hn).use ?_
   simp-implicitDefEqProofs[]
   repeat' first
    |(refine(su G _ _ _).use ?_;simp-implicitDefEqProofs[])
    |(refine bi (λhc=>?_) (λhc=>?_)<;>simp-implicitDefEqProofs[hc])
   all_goals first
    |exact⟨by simp_all [lZ],af (by simp) (by simp[okO]) (by simp[below])⟩
    |simp_all [bV,lZ]
  intro _ hh
  simp-implicitDefEqProofs[]
  refine aN (λi:Nat=>aj 86 [(1,.p (.int .i64 ((d:Int)+1))),(2,.ptr 0 4 0 0),(8,.p (.int .i64 i))]) (λ_=>[.row 4 [[.p (.int .i64 e.op),.p (.int .i64 e.n),.p (.str e.name),.p (.lst 4 (e.kids.map Ex.cs))]]])
   (λi=>i<=e.kids.length/\(e.kids.take i).all (bV d)=true) (λi=>e.kids.length-i) 0 (by simp) (af (by simp) (by simp[okO]) (by simp[below])) ?_
  intro i ⟨hi,hall⟩
  simp-implicitDefEqProofs[]
  refine bi (λh=>?_) (λh=>?_)
  ·simp at h
   have hg:=YO h
   have hks:=bS (Zf h)
   simp-implicitDefEqProofs[hg,hw']
   refine(ih e.kids[i] (by omega) (by omega)).use ?_
   by_cases hk:bV d e.kids[i]=true
   ·simp-implicitDefEqProofs[hk]
    refine⟨i+1,⟨h,by rw[←YW,fw h,hall,hk];rfl⟩,by omega,af (by simp) (by simp[okO]) ?_⟩
    simp[below,w1 (i:=i) (by omega)]
   ·have hk':bV d e.kids[i]=false:=by simpa using hk
    have hf:bV (d+1) e=false:=by simp only[bV,pQ h hk',Bool.and_false]
    simp-implicitDefEqProofs[hk',hf]
  ·simp at h
   have hf:bV (d+1) e=true:=by simp only[bV,jA h hall,hh,Bool.and_self]
   simp-implicitDefEqProofs[hf]
theorem MH{l:List Ex}{i:Nat}(h:i<l.length):fx (l.take (i+1))=fx (l.take i)+l[i].parts:=by
 rw[an h,lq];simp[fx]
theorem Gi(l:List Ex)(i:Nat):fx (l.take i)<=fx l:=by
 have:=lq (l.take i) (l.drop i)
 rw[ZH] at this
 omega
theorem LA:∀(k:Nat) (e:Ex),e.sz<=k->k<=1099511627776->VF Tryz.prog G iQ [.agg (e.cs.map .p)] (.p (.int .i64 e.parts)):=by
 intro k
 induction k with
 |zero=>intro e he;have:=e.sz_eq;omega
 |succ k ih=>
  intro e he hk
  have hsz:=e.sz_eq
  have hkl:=bB e.kids
  have hpe:=e.parts_eq
  have hpz:=FR e.kids
  refine AC.go CZ ?_
  have hxl:∀l,exL l= .lst 4 (l.map Ex.cs):=λ_=>rfl
  simp-implicitDefEqProofs[rQ,Ex.cs_eq,hxl]
  refine aN (λi:Nat=>aj 21 [(1,.ptr 0 4 0 0),(3,.p (.int .i64 ((1+fx (e.kids.take i):Nat):Int))),(4,.p (.int .i64 i))]) (λ_=>[.row 4 [[.p (.int .i64 e.op),.p (.int .i64 e.n),.p (.str e.name),.p (.lst 4 (e.kids.map Ex.cs))]]])
   (λi=>i<=e.kids.length) (λi=>e.kids.length-i) 0 (by simp) (af (by simp) (by simp[okO]) (by simp[below,fx])) ?_
  intro i hi
  simp-implicitDefEqProofs[]
  refine bi (λh=>?_) (λh=>?_)
  ·simp at h
   have hg:=YO h
   have hks:=bS (Zf h)
   have hps:=MH h
   have hple:=Gi e.kids (i+1)
   simp-implicitDefEqProofs[hg]
   refine(ih e.kids[i] (by omega) (by omega)).use ?_
   have hw:IntKind.i64.wrap (1+(fx (e.kids.take i):Int)+(e.kids[i].parts:Int))=((1+fx (e.kids.take (i+1)):Nat):Int):=by rw[ab (by omega) (by omega)];omega
   simp-implicitDefEqProofs[hw]
   exact⟨i+1,h,by omega,af (by simp) (by simp[okO]) (by simp[below,w1 (i:=i) (by omega)])⟩
  ·simp at h
   rw[YU h]
   simp-implicitDefEqProofs[]
   omega
theorem GV(e:Ex)(he:e.sz<=1099511627776):VF Tryz.prog G gk [.agg (e.cs.map .p)] (.p (.bool (iR e))):=by
 refine AC.go zO ?_
 simp-implicitDefEqProofs[pc]
 have h6:=Ox G 6 e he (by omega)
 refine h6.use ?_
 by_cases h:bV 6 e=true
 ·simp-implicitDefEqProofs[h]
  refine(LA G _ e (YY _) he).use ?_
  simp-implicitDefEqProofs[iR,h]
  omega
 ·simp-implicitDefEqProofs[h,iR]
theorem On(op:Int):VF Tryz.prog G kI [.p (.int .i64 op)] (.p (.int .i64 (iI op))):=by
 refine AC.go DI ?_
 by_cases h:op=4
 ·simp-implicitDefEqProofs[ou,h,iI]
 ·simp-implicitDefEqProofs[ou,h,iI]
theorem Ad(d:Nat)(hd:d<=1000)(hs:∀s:Sm,s.sz<=1099511627776->VF Tryz.prog G kw [.agg (s.cs.map .p),.p (.int .i64 d)] (.p (.bool (az d s))))(l:List Sm)(hl:ay l<=1099511627776):
 VF Tryz.prog G cD [.p (smL l),.p (.int .i64 d)] (.p (.bool (l.all (az d)))):=by
 refine AC.go BS ?_
 have hll:=cC l
 have hsl:∀l,smL l= .lst 5 (l.map Sm.cs):=λ_=>rfl
 simp-implicitDefEqProofs[rq]
 refine aN (λi:Nat=>aj 19 [(0,.p (smL l)),(1,.p (.int .i64 d)),(5,.p (.int .i64 i))]) (λ_=>[]) (λi=>i<=l.length/\(l.take i).all (az d)=true) (λi=>l.length-i) 0 (by simp) (bJ rfl (by simp[below,hsl])) ?_
 intro i ⟨hi,hall⟩
 simp-implicitDefEqProofs[hsl]
 refine bi (λh=>?_) (λh=>?_)
 ·simp at h
  have hg:=YO h
  have hks:=ew (Zf h)
  simp-implicitDefEqProofs[hg]
  refine(hs l[i] (by omega)).use ?_
  by_cases hk:az d l[i]=true
  ·simp-implicitDefEqProofs[hk]
   exact⟨i+1,⟨h,by rw[←YW,fw h,hall,hk];rfl⟩,by omega,bJ rfl (by simp[below,hsl,w1 (i:=i) (by omega)])⟩
  ·have hk':az d l[i]=false:=by simpa using hk
   have hf:=pQ h hk'
   simp-implicitDefEqProofs[hk',hf]
 ·simp at h
  have hf:=jA h hall
  simp-implicitDefEqProofs[hf]
theorem PU:∀(d:Nat),d<=1000->∀s:Sm,s.sz<=1099511627776->VF Tryz.prog G kw [.agg (s.cs.map .p),.p (.int .i64 d)] (.p (.bool (az d s))):=by
 intro d
 induction d with
 |zero=>
  intro _ s _
  refine AC.go tQ ?_
  simp-implicitDefEqProofs[kH,Sm.cs_eq,az]
 |succ d ih=>
  intro hd s he
  have hsz:=s.sz_eq
  have hal:=bB s.args
  have hbl:=cC s.body
  have hel:=cC s.els
  have ihs:=Ad G d (by omega) (ih (by omega))
  refine AC.goK tQ DK ?_
  have hd1:¬(d:Int)+1<1:=by omega
  have hw':IntKind.i64.wrap (d:Int)=(d:Int):=ab (by omega) (by omega)
  have hxl:∀l,exL l= .lst 4 (l.map Ex.cs):=λ_=>rfl
  have hsl:∀l,smL l= .lst 5 (l.map Sm.cs):=λ_=>rfl
  have hn:s.name.length<=140737488355328:=by omega
  simp-implicitDefEqProofs[tR,kH,Sm.cs_eq]
  generalize hH:[AO.row 5 [[AV.p (.int .i64 s.op),.p (.str s.name),.p (exL s.args),.p (smL s.body),.p (smL s.els)]]]=H
  have hho:∀o∈H,okO H.length o:=by rw[←hH];simp[okO]
  have hhl:0<H.length:=by rw[←hH];simp
  have hh0:H[0]?=some (AO.row 5 [[AV.p (.int .i64 s.op),.p (.str s.name),.p (exL s.args),.p (smL s.body),.p (smL s.els)]]):=by rw[←hH];rfl
  have hhL:H.length=1:=by rw[←hH];rfl
  refine zD (λ_:Unit=>aj 108 [(1,.p (.int .i64 ((d:Int)+1))),(2,.ptr 0 5 0 0)]) (λ_=>H) (λ_=>inR s.op 1 8=true/\s.args.length=iI s.op) ?_ ?_
  ·simp-implicitDefEqProofs[hd1,hh0]
   refine(su G _ _ _).use ?_
   by_cases h1:inR s.op 1 8=true
   case neg=>simp-implicitDefEqProofs[h1,az,gu]
   simp-implicitDefEqProofs[h1,hh0,hxl]
   refine(On G _).useQ ?_
   by_cases h2:s.args.length=iI s.op
   ·simp-implicitDefEqProofs[h2]
    exact af (by omega) hho (by simp[below,hhl])
   ·have h2':¬(s.args.length:Int)=(iI s.op:Int):=by omega
    simp-implicitDefEqProofs[h2,h2',az,gu]
  intro _ ⟨h1,h2⟩
  refine zD (λ_:Unit=>aj 108 [(1,.p (.int .i64 ((d:Int)+1))),(2,.ptr 0 5 0 0),(5,.p (.bool (dj s.op)))]) (λ_=>H) (λ_=>True) ?_ ?_
  ·simp-implicitDefEqProofs[hh0]
   by_cases o1:s.op=1
   ·simp-implicitDefEqProofs[o1,hh0,dj]
    exact af (by omega) hho (by simp[below,hhl])
   ·by_cases o2:s.op=2
    ·simp-implicitDefEqProofs[o2,hh0,dj]
     exact af (by omega) hho (by simp[below,hhl])
    ·simp-implicitDefEqProofs[o1,o2,hh0,dj]
     exact af (by omega) hho (by simp[below,hhl])
  intro _ _
  refine zD (λ_:Unit=>aj 108 [(1,.p (.int .i64 ((d:Int)+1))),(2,.ptr 0 5 0 0)]) (λ_=>H) (λ_=>(dj s.op==aD s.name)=true/\(dj s.op||decide (s.name=[]))=true) ?_ ?_
  ·simp-implicitDefEqProofs[hh0]
   refine(zi G _ hn).use ?_
   simp-implicitDefEqProofs[hh0]
   repeat' first
    |(refine bi (λhc=>?_) (λhc=>?_)<;>simp-implicitDefEqProofs[hc,hh0])
   all_goals first
    |exact af (by omega) hho (by simp[below,hhl])
    |exact⟨by simp_all,by simp_all,af (by omega) hho (by simp[below,hhl])⟩
    |exact⟨by simp_all,af (by omega) hho (by simp[below,hhl])⟩
    |(simp_all [az,gu];done)
  intro _ ⟨h3,h4⟩
  simp-implicitDefEqProofs[]
  refine aN (λi:Nat=>aj 108 [(1,.p (.int .i64 ((d:Int)+1))),(2,.ptr 0 5 0 0),(6,.p (.int .i64 i))]) (λ_=>H) (λi=>i<=s.args.length/\(s.args.take i).all iR=true) (λi=>s.args.length-i) 0 (by simp) (af (by omega) hho (by simp[below,hhl])) ?_
  intro i ⟨hi,hall⟩
  simp-implicitDefEqProofs[hh0,hxl]
  refine bi (λh=>?_) (λh=>?_)
  ·simp at h
   have hg:=YO h
   have hks:=bS (Zf h)
   simp-implicitDefEqProofs[hg,hh0,hxl]
   refine(GV G s.args[i] (by omega)).use ?_
   by_cases hk:iR s.args[i]=true
   ·simp-implicitDefEqProofs[hk]
    exact⟨i+1,⟨h,by rw[←YW,fw h,hall,hk];rfl⟩,by omega,af (by omega) hho (by simp[below,hhl,w1 (i:=i) (by omega)])⟩
   ·have hk':iR s.args[i]=false:=by simpa using hk
    have hf:az (d+1) s=false:=by simp only[az,gu,pQ h hk',Bool.and_false,Bool.false_and]
    simp-implicitDefEqProofs[hk',hf]
  simp at h
  have h5:s.args.all iR=true:=jA h hall
  have hlen1:1<=s.args.length:=by rw[h2];unfold iI;split<;>omega
  obtain⟨a0,ar,ha⟩:∃a r,s.args=a::r:=by
   cases hh:s.args with
   |nil=>rw[hh] at hlen1;simp at hlen1
   |cons a r=>exact⟨a,r,rfl⟩
  have ha0:s.args[0]?=some a0:=by rw[ha];rfl
  refine zD (λ_:Unit=>aj 108 [(1,.p (.int .i64 ((d:Int)+1))),(2,.ptr 0 5 0 0)]) (λ_=>H) (λ_=>(!decide (s.op=8)||decide (a0.op=13))=true) ?_ ?_
  ·simp-implicitDefEqProofs[hh0]
   by_cases o8:s.op=8
   ·have hae:=a0.cs_eq
    simp-implicitDefEqProofs[o8,hh0,hxl,ha0,hae]
    refine bi (λhc=>?_) (λhc=>?_)
    ·simp at hc
     have hf:az (d+1) s=false:=by simp[az,gu,o8,ha,hc]
     simp-implicitDefEqProofs[hf]
    ·simp at hc
     simp-implicitDefEqProofs[hc]
     exact af (by omega) hho (by simp[below,hhl])
   ·simp-implicitDefEqProofs[o8,hh0]
    exact af (by omega) hho (by simp[below,hhl])
  intro _ h6
  refine zD (λ_:Unit=>aj 108 [(1,.p (.int .i64 ((d:Int)+1))),(2,.ptr 0 5 0 0)]) (λ_=>H) (λ_=>(s.els.isEmpty||decide (s.op=5))=true/\(s.body.isEmpty||decide (s.op=5)||decide (s.op=6))=true) ?_ ?_
  ·have hf:¬((s.els.isEmpty||decide (s.op=5))=true/\(s.body.isEmpty||decide (s.op=5)||decide (s.op=6))=true)->az (d+1) s=false:=λh=>by
    have:gu s=false:=by
     cases hx:gu s with
     |false=>rfl
     |true=>refine absurd ?_ h;simp only[gu,YX] at hx;exact⟨hx.1.2,hx.2⟩
    simp[az,this]
   have pe:¬s.els=[]->0<s.els.length:=List.length_pos_iff.2
   have pb:¬s.body=[]->0<s.body.length:=List.length_pos_iff.2
   by_cases o5:s.op=5
   ·simp-implicitDefEqProofs[hh0,hsl,o5]
    repeat' first
     |(refine bi (λhc=>?_) (λhc=>?_)<;>simp-implicitDefEqProofs[hc,hh0,hsl,o5])
    all_goals exact af (by omega) hho (by simp[below,hhl])
   by_cases e1:s.els=[]
   case neg=>
    have hf:=hf (by simp[e1,o5])
    have:=pe e1
    simp-implicitDefEqProofs[hh0,hsl,o5,e1,this,hf]
   by_cases e2:s.body=[]
   ·simp-implicitDefEqProofs[hh0,hsl,o5,e1,e2]
    exact af (by omega) hho (by simp[below,hhl])
   have:=pb e2
   by_cases o6:s.op=6
   ·simp-implicitDefEqProofs[hh0,hsl,o6,e1,e2,this]
    exact af (by omega) hho (by simp[below,hhl])
   ·have hf:=hf (by simp[e2,o5,o6])
    simp-implicitDefEqProofs[hh0,hsl,o5,o6,e1,e2,this,hf]
  intro _ ⟨h7,h8⟩
  have hm:(match s.args with|a::_=>decide (a.op=13)|[]=>false)=decide (a0.op=13):=by rw[ha]
  have hhd:gu s=true:=by
   have h6':(!decide (s.op=8)||(match s.args with|a::_=>decide (a.op=13)|[]=>false))=true:=by rw[hm];exact h6
   have h2':decide (s.args.length=iI s.op)=true:=by simp[h2]
   simp only[gu,h1,h2',h3,h4,h5,h7,h8,Bool.and_self,Bool.and_true,Bool.true_and]
   exact h6'
  simp-implicitDefEqProofs[hh0,hw']
  refine(ihs s.body (by omega)).use ?_
  by_cases hB:s.body.all (az d)=true
  ·simp only[hB]
   simp-implicitDefEqProofs[hh0,hw']
   refine(ihs s.els (by omega)).use ?_
   have hf:az (d+1) s=s.els.all (az d):=by simp only[az,hhd,hB,Bool.true_and]
   rw[hf]
   generalize s.els.all (az d)=w
   simp-implicitDefEqProofs[]
  ·have hB':s.body.all (az d)=false:=by simpa using hB
   have hf:az (d+1) s=false:=by simp only[az,hB',Bool.and_false,Bool.false_and]
   simp only[hB',hf]
   simp-implicitDefEqProofs[]
theorem LO(d:Nat)(hd:d<=1000)(l:List Sm)(hl:ay l<=1099511627776):VF Tryz.prog G cD [.p (smL l),.p (.int .i64 d)] (.p (.bool (l.all (az d)))):=
 Ad G d hd (PU G d hd) l hl
theorem Ua(f:Fd)(hf:f.sz<=1099511627776):VF Tryz.prog G sD [.agg (f.cs.map .p)] (.p (.bool (iO f))):=by
 refine AC.go Hv ?_
 have hsz:f.sz=1+f.name.length+(f.params.length+(f.params.map List.length).sum)+ay f.body:=rfl
 have hps:∀x∈f.params,x.length<=(f.params.map List.length).sum:=λx hx=>by
  have key:∀l:List (List UInt8),x∈l->x.length<=(l.map List.length).sum:=by
   intro l
   induction l with
   |nil=>intro h;cases h
   |cons y r ih=>
    intro h
    simp only[Zn,List.sum_cons]
    rcases Za.1 h with rfl|h
    ·omega
    ·have:=ih h;omega
  exact key _ hx
 have hst:al f.params= .lst 1 (f.params.map λw=>[.str w]):=rfl
 have h4:=LO G 4 (by omega) f.body (by omega)
 simp-implicitDefEqProofs[Ae,Fd.cs,hst]
 refine aN (λi:Nat=>aj 32 [(1,.ptr 0 3 0 0),(3,.p (.int .i64 i))]) (λ_=>[.row 3 [[.p (.str f.name),.p (al f.params),.p (smL f.body)]]]) (λi=>i<=f.params.length/\(f.params.take i).all aD=true) (λi=>f.params.length-i) 0 (by simp) (af (by simp) (by simp[okO]) (by simp[below])) ?_
 intro i ⟨hi,hall⟩
 simp-implicitDefEqProofs[hst]
 refine bi (λh=>?_) (λh=>?_)
 ·simp at h
  have hg:=YO h
  have hl:=hps _ (Zf h)
  simp-implicitDefEqProofs[hg]
  refine(zi G _ (by omega)).use ?_
  by_cases hk:aD f.params[i]=true
  ·simp-implicitDefEqProofs[hk]
   exact⟨i+1,⟨h,by rw[←YW,fw h,hall,hk];rfl⟩,by omega,af (by simp) (by simp[okO]) (by simp[below,w1 (i:=i) (by omega)])⟩
  ·have hk':aD f.params[i]=false:=by simpa using hk
   have hff:iO f=false:=by simp only[iO,pQ h hk',Bool.false_and]
   simp-implicitDefEqProofs[hk',hff]
 ·simp at h
  have h1:f.params.all aD=true:=jA h hall
  simp-implicitDefEqProofs[]
  refine(zi G _ (by omega)).use ?_
  by_cases h2:aD f.name=true
  case neg=>
   have h2':aD f.name=false:=by simpa using h2
   simp-implicitDefEqProofs[h2',iO]
  simp-implicitDefEqProofs[h2]
  by_cases h3:f.params.length<=3
  case neg=>
   have h3':¬(f.params.length:Int)<=3:=by omega
   simp-implicitDefEqProofs[h3,h3',iO]
  have h3':(f.params.length:Int)<=3:=by omega
  simp-implicitDefEqProofs[h3']
  refine h4.use ?_
  have hff:iO f=f.body.all (az 4):=by simp only[iO,h1,h2,h3,decide_true,Bool.true_and]
  rw[hff]
  generalize f.body.all (az 4)=w
  simp-implicitDefEqProofs[]
theorem Mp{l:List Sm}{i:Nat}(h:i<l.length):di (l.take (i+1))=di (l.take i)+l[i].cnt:=by
 rw[an h,sB];simp[di]
theorem vG(l:List Sm)(i:Nat):di (l.take i)<=di l:=by
 have:=sB (l.take i) (l.drop i)
 rw[ZH] at this
 omega
def nV(l:List Sm)(i:Nat):Nat:=l.length+((l.take i).map λs=>di s.body+di s.els).sum
theorem JT(l:List Sm):nV l 0=l.length:=by simp[nV]
theorem CF{l:List Sm}{i:Nat}(h:i<l.length):nV l (i+1)=nV l i+di l[i].body+di l[i].els:=by
 rw[nV,nV,an h,List.map_append,List.sum_append]
 simp only[Zn,List.map_nil,List.sum_cons,List.sum_nil]
 omega
theorem zJ(l:List Sm):∀i,i<=l.length->di (l.take i)+l.length=i+nV l i
 |0,_=>by simp[di,nV]
 |i+1,h=>by
  have:=zJ l i (by omega)
  rw[Mp (by omega),CF (by omega),(l[i]'(by omega)).cnt_eq]
  omega
theorem Mt:∀(k:Nat) (l:List Sm),ay l<=k->k<=1099511627776->VF Tryz.prog G fY [.p (smL l)] (.p (.int .i64 (di l))):=by
 intro k
 induction k with
 |zero=>
  intro l hl _
  have:l=[]:=by
   cases l with
   |nil=>rfl
   |cons s r=>have:=s.sz_eq;simp only[ay] at hl;omega
  subst this
  refine AC.go sC ?_
  have hsl:smL []= .lst 5 []:=rfl
  simp-implicitDefEqProofs[mF,hsl]
  refine aN (λ_:Unit=>aj 29 [(0,.p (.lst 5 [])),(3,.p (.int .i64 0)),(4,.p (.int .i64 0))]) (λ_=>[]) (λ_=>True) (λ_=>0) () trivial (bJ rfl (by simp[below])) ?_
  intro _ _
  simp-implicitDefEqProofs[di]
 |succ k ih=>
  intro l hl hk
  have hll:=cC l
  have hnz:=pu l
  refine AC.go sC ?_
  have hsl:∀l,smL l= .lst 5 (l.map Sm.cs):=λ_=>rfl
  simp-implicitDefEqProofs[mF,hsl]
  refine aN (λi:Nat=>aj 29 [(0,.p (smL l)),(3,.p (.int .i64 (nV l i))),(4,.p (.int .i64 i))]) (λ_=>[]) (λi=>i<=l.length) (λi=>l.length-i) 0 (by simp) (bJ rfl (by simp[below,hsl,JT])) ?_
  intro i hi
  have k0:=zJ l i hi
  have k2:=vG l i
  simp-implicitDefEqProofs[hsl]
  refine bi (λh=>?_) (λh=>?_)
  ·simp at h
   have hg:=YO h
   have hks:=ew (Zf h)
   have hse:=l[i].sz_eq
   have hce:=l[i].cs_eq
   have k1:=CF h
   have k3:=zJ l (i+1) h
   have k4:=vG l (i+1)
   simp-implicitDefEqProofs[hg,hce]
   refine(ih l[i].body (by omega) (by omega)).use ?_
   simp-implicitDefEqProofs[hg,hce]
   refine(ih l[i].els (by omega) (by omega)).use ?_
   have w1':IntKind.i64.wrap ((nV l i:Int)+(di l[i].body:Int))=(nV l i:Int)+(di l[i].body:Int):=ab (by omega) (by omega)
   have w2':IntKind.i64.wrap ((nV l i:Int)+(di l[i].body:Int)+(di l[i].els:Int))=(nV l (i+1):Int):=by rw[ab (by omega) (by omega)];omega
   simp-implicitDefEqProofs[w1',w2']
   exact⟨i+1,h,by omega,bJ rfl (by simp[below,hsl,w1 (i:=i) (by omega)])⟩
  ·simp at h
   rw[YU h] at k0
   have:nV l i=di l:=by omega
   simp-implicitDefEqProofs[this]
theorem cG:∀{l:List Fd} {f:Fd},f∈l->f.sz<=aH l
 |x::r,e,h=>by
  simp only[aH,Zn,List.sum_cons]
  rcases Za.1 h with rfl|h
  ·omega
  ·have:=cG h;simp only[aH] at this;omega
theorem fS:∀l:List Fd,l.length<=aH l
 |[]=>YY _
 |e::r=>by have:=fS r;simp only[aH,Zn,List.sum_cons,Ze] at this⊢;have:1<=e.sz:=by unfold Fd.sz;omega
           omega
def Dh(l:List Fd)(i:Nat):Nat:=iP (l.take i)
theorem LQ{l:List Fd}{i:Nat}(h:i<l.length):Dh l (i+1)=Dh l i+di l[i].body:=by
 rw[Dh,Dh,iP,iP,an h,List.map_append,List.sum_append];simp
theorem Fh:∀l:List Fd,iP l<=aH l
 |[]=>YY _
 |f::r=>by
  have:=Fh r
  have h2:=pu f.body
  simp only[iP,aH,Zn,List.sum_cons] at this⊢
  have:ay f.body<=f.sz:=by unfold Fd.sz;omega
  omega
theorem QC(l:List Fd)(i:Nat):Dh l i<=aH l:=by
 have h1:=Fh (l.take i)
 have h2:aH (l.take i)<=aH l:=by
  have:aH l=aH (l.take i)+aH (l.drop i):=by
   rw[←ZH i l,aH,List.map_append,List.sum_append];simp[aH]
  omega
 exact Zi h1 h2
theorem Sp(l:List Fd)(hl:aH l<=1099511627776):VF Tryz.prog G pt [.agg [.p (fdL l)]] (.p (.int .i64 (iP l))):=by
 refine AC.go FG ?_
 have hll:=fS l
 have hfl:∀l,fdL l= .lst 3 (l.map Fd.cs):=λ_=>rfl
 simp-implicitDefEqProofs[ze]
 refine aN (λi:Nat=>aj 22 [(1,.ptr 0 1 0 0),(3,.p (.int .i64 (Dh l i))),(4,.p (.int .i64 i))]) (λ_=>[.row 1 [[.p (fdL l)]]]) (λi=>i<=l.length) (λi=>l.length-i) 0 (by simp) (af (by simp) (by simp[okO]) (by simp[below,Dh,iP])) ?_
 intro i hi
 simp-implicitDefEqProofs[hfl]
 refine bi (λh=>?_) (λh=>?_)
 ·simp at h
  have hg:=YO h
  have hks:=cG (Zf h)
  have hse:l[i].sz=1+l[i].name.length+(l[i].params.length+(l[i].params.map List.length).sum)+ay l[i].body:=rfl
  have hce:l[i].cs=[.str l[i].name,al l[i].params,smL l[i].body]:=rfl
  have k1:=LQ h
  have k2:=QC l (i+1)
  simp-implicitDefEqProofs[hg,hce]
  refine(Mt G _ l[i].body (YY _) (by omega)).use ?_
  have w1':IntKind.i64.wrap ((Dh l i:Int)+(di l[i].body:Int))=(Dh l (i+1):Int):=by rw[ab (by omega) (by omega)];omega
  simp-implicitDefEqProofs[w1']
  exact⟨i+1,h,by omega,af (by simp) (by simp[okO]) (by simp[below,w1 (i:=i) (by omega),hfl])⟩
 ·simp at h
  have:Dh l i=iP l:=by rw[Dh,YU h]
  simp-implicitDefEqProofs[this]
theorem mA(l:List Fd)(hl:aH l<=1099511627776):VF Tryz.prog G eb [.agg [.p (fdL l)]] (.p (.bool (bA l))):=by
 refine AC.go tq ?_
 have hfl:∀l,fdL l= .lst 3 (l.map Fd.cs):=λ_=>rfl
 have hall:=Sp G l hl
 have hll:=fS l
 rw[hfl] at hall
 simp-implicitDefEqProofs[lU,hfl]
 refine(su G _ _ _).use ?_
 by_cases h1:inR l.length 1 4=true
 case neg=>simp-implicitDefEqProofs[h1,bA]
 simp-implicitDefEqProofs[h1]
 refine aN (λi:Nat=>aj 26 [(1,.ptr 0 1 0 0),(3,.p (.int .i64 i))]) (λ_=>[.row 1 [[.p (.lst 3 (l.map Fd.cs))]]]) (λi=>i<=l.length/\(l.take i).all iO=true) (λi=>l.length-i) 0 (by simp) (af (by simp) (by simp[okO]) (by simp[below])) ?_
 intro i ⟨hi,ha⟩
 simp-implicitDefEqProofs[]
 refine bi (λh=>?_) (λh=>?_)
 ·simp at h
  have hg:=YO h
  have hks:=cG (Zf h)
  simp-implicitDefEqProofs[hg]
  refine(Ua G l[i] (by omega)).use ?_
  by_cases hk:iO l[i]=true
  ·simp-implicitDefEqProofs[hk]
   exact⟨i+1,⟨h,by rw[←YW,fw h,ha,hk];rfl⟩,by omega,af (by simp) (by simp[okO]) (by simp[below,w1 (i:=i) (by omega)])⟩
  ·have hk':iO l[i]=false:=by simpa using hk
   have hff:bA l=false:=by simp only[bA,pQ h hk',Bool.and_false,Bool.false_and]
   simp-implicitDefEqProofs[hk',hff]
 ·simp at h
  have h2:l.all iO=true:=jA h ha
  simp-implicitDefEqProofs[]
  refine hall.use ?_
  have hff:bA l=decide (iP l<=40):=by simp only[bA,h1,h2,Bool.true_and]
  simp-implicitDefEqProofs[hff]
  omega
end
section
theorem Ex.ext'{a b:Ex}(h1:a.op=b.op)(h2:a.n=b.n)(h3:a.name=b.name)(h4:a.kids=b.kids):a=b:=by
 cases a;cases b;simp only[Ex.op,Ex.n,Ex.name,Ex.kids] at*;subst h1 h2 h3 h4;rfl
theorem Sm.ext'{a b:Sm}(h1:a.op=b.op)(h2:a.name=b.name)(h3:a.args=b.args)(h4:a.body=b.body)(h5:a.els=b.els):a=b:=by
 cases a;cases b;simp only[Sm.op,Sm.name,Sm.args,Sm.body,Sm.els] at*;subst h1 h2 h3 h4 h5;rfl
variable (G:am)
end
section
def ixI:Option Nat->Int|none=> -1|some i=>i
def vaC(nf:Bool)(id n:Nat):AV:=if nf then .nils else .sl id 3 0 n
def lvC(v:LV):List AV:=[.p (.str v.name),.p (.int .i64 v.num),.p (.int .i64 v.block)]
def lvR(vs:List LV):List (List AV):=vs.reverse.map lvC
def roC(nf:Bool)(vs:List LV):AO:=if nf then .dead else .row 3 (lvR vs)
def wC(id:Nat)(nf:Bool)(fns:List Fd)(k:Nat)(w:WS):List AV:=[.p (fdL fns),.p (.int .i64 k),vaC nf id w.vs.length,.p (.int .i64 w.count),.p (.int .i64 w.code)]
def wO(id:Nat)(nf:Bool)(fns:List Fd)(k:Nat)(w:WS):AO:= .row 5 [wC id nf fns k w]
def HWk(nf:Bool)(fns:List Fd)(k:Nat)(w:WS):List AO:=[wO 1 nf fns k w,roC nf w.vs]
theorem Bg(vs:List LV):(lvR vs).length=vs.length:=by simp[lvR]
theorem Ig(vs:List LV):∀x∈lvR vs,ah 0 x:=by
 intro x hx;obtain⟨m,_,rfl⟩:=Zh.1 hx;simp[lvC,ah,below]
theorem iv(nf:Bool)(vs:List LV)(n:Nat):okO n (roC nf vs):=by
 cases nf
 ·exact cw (λe he=>Ig vs e he)
 ·exact trivial
theorem Lz{nf:Bool}{id n m:Nat}(h:id<m):below m (vaC nf id n):=by cases nf<;>simp[vaC,below,h]
theorem Ct{id:Nat}{nf:Bool}{fns:List Fd}{k:Nat}{w:WS}{m:Nat}(h:id<m):ah m (wC id nf fns k w):=⟨by simp,by simp,Lz h,by simp,by simp,trivial⟩
theorem Ag{id:Nat}{nf:Bool}{fns:List Fd}{k:Nat}{w:WS}{m:Nat}(h:id<m):okO m (wO id nf fns k w):=by
 intro e he;rw[YQ.1 he];exact Ct h
theorem QD(σ:List Nat)(nf:Bool)(id n:Nat):ren σ (vaC nf id n)=vaC nf (σ.getD id 0) n:=by cases nf<;>rfl
theorem FN(σ:List Nat)(id:Nat)(nf:Bool)(fns:List Fd)(k:Nat)(w:WS):bn σ (wC id nf fns k w)=wC (σ.getD id 0) nf fns k w:=by
 simp only[wC,bn,QD];rfl
theorem KM(σ:List Nat)(id:Nat)(nf:Bool)(fns:List Fd)(k:Nat)(w:WS):gf σ (wO id nf fns k w)=wO (σ.getD id 0) nf fns k w:=by
 simp only[wO,gf,Zn,List.map_nil,FN]
theorem Hj(σ:List Nat)(nf:Bool)(vs:List LV):gf σ (roC nf vs)=roC nf vs:=by
 cases nf
 ·show AO.row 3 ((lvR vs).map (bn σ))= .row 3 (lvR vs)
  rw[Zk (g:=id) λx hx=>eC σ x (Ig vs x hx)];simp
 ·rfl
theorem JU(pre:List LV)(v:LV)(r:List LV):(lvR (pre++v::r))[r.length]?=some (lvC v):=by
 simp[lvR]
theorem PM(v:LV)(r:List LV):lvR (v::r)=lvR r++[lvC v]:=by simp[lvR]
def Ab:List LV->List UInt8->Int
 |[],_=> -1
 |v::r,s=>if v.name=s then r.length else Ab r s
theorem zM:∀(vs:List LV) (s:List UInt8),(lkV vs s=none/\Ab vs s= -1)\/∃pre v r,vs=pre++v::r/\lkV vs s=some v/\Ab vs s=r.length
 |[],s=> .inl ⟨rfl,rfl⟩
 |v::r,s=>by
  by_cases h:v.name=s
  ·exact .inr ⟨[],v,r,rfl,by simp[lkV,h],by simp[Ab,h]⟩
  ·have h1:lkV (v::r) s=lkV r s:=by simp[lkV,h]
   have h2:Ab (v::r) s=Ab r s:=by simp[Ab,h]
   rw[h1,h2]
   rcases zM r s with h|⟨pre,u,q,e,h⟩
   ·exact .inl h
   ·exact .inr ⟨v::pre,u,q,by rw[e];rfl,h⟩
theorem yF:AK.whole iV=FK.ak jC:=rfl
variable (G:am)
theorem Jx(l:List Fd)(s:List UInt8)(hl:l.length<=1099511627776):VF Tryz.prog G kO [.agg [.p (fdL l)],.p (.str s)] (.p (.int .i64 (ixI (cg l s)))):=by
 refine AC.go GP ?_
 have hfl:∀l,fdL l= .lst 3 (l.map Fd.cs):=λ_=>rfl
 simp-implicitDefEqProofs[Ah,hfl]
 refine aN (λi:Nat=>aj 22 [(1,.p (.str s)),(2,.ptr 0 1 0 0),(5,.p (.int .i64 i))]) (λ_=>[.row 1 [[.p (.lst 3 (l.map Fd.cs))]]]) (λi=>i<=l.length/\∀f∈l.take i,f.name≠s) (λi=>l.length-i) 0 (by simp) (af (by simp) (by simp[okO]) (by simp[below])) ?_
 intro i ⟨hi,hn⟩
 simp-implicitDefEqProofs[]
 refine bi (λh=>?_) (λh=>?_)
 ·simp at h
  have hg:=YO h
  have hce:l[i].cs=[.str l[i].name,al l[i].params,smL l[i].body]:=rfl
  by_cases he:l[i].name=s
  ·have hf:cg l s=some i:=by
    rw[cg,Zg]
    exact⟨h,by simpa using he,λj hj=>by have:=hn l[j] (ZO.2 ⟨j,by omega,rfl⟩);simpa using this⟩
   simp-implicitDefEqProofs[hg,hce,he,hf,ixI]
  ·simp-implicitDefEqProofs[hg,hce,he]
   refine⟨i+1,⟨h,λp hp=>?_⟩,by omega,af (by simp) (by simp[okO]) (by simp[below,w1 (i:=i) (by omega)])⟩
   rw[an h] at hp
   rcases YV.1 hp with hp|hp
   ·exact hn p hp
   ·rw[YQ.1 hp];exact he
 ·simp at h
  rw[YU h] at hn
  have hf:cg l s=none:=by
   rw[cg,Zs];intro x hx;simpa using hn x hx
  simp-implicitDefEqProofs[hf,ixI]
theorem Ud:∀m:Nat,m<26->((([97,98,99,100,101,102,103,104,105,106,107,108,109,110,111,112,113,114,115,116,117,118,119,120,121,122]:List UInt8).take (m+1)).drop m)=[UInt8.ofNat (97+m)]:=by decide
theorem Qj:∀m:Nat,m<26->List.drop m ((97:UInt8)::List.take m [98,99,100,101,102,103,104,105,106,107,108,109,110,111,112,113,114,115,116,117,118,119,120,121,122])=[97+UInt8.ofNat m]:=by decide
theorem CB(n:Nat):VF Tryz.prog G kK [.p (.int .i64 n)] (.p (.str (vnm n))):=by
 refine AC.go DB ?_
 have hm:n%26<26:=Nat.mod_lt _ (by omega)
 have ht:(n:Int).tmod 26=((n%26:Nat):Int):=rfl
 have hw:IntKind.i64.wrap (((n%26:Nat):Int)+1)=((n%26+1:Nat):Int):=w1 (by omega)
 have habc:=Ud _ hm
 rw[vnm]
 generalize n%26=m at hm ht hw habc
 have h0:(0:Int)<=(m:Int)+1:=by omega
 have h1:m+1<=26:=by omega
 simp-implicitDefEqProofs[ue,ht,hw,h0,h1]
 exact⟨by omega,Qj m hm⟩
theorem th(nf:Bool)(fns:List Fd)(k:Nat)(w:WS)(c:Int):AC Tryz.prog G bK [.ptr 0 5 0 0,.p (.int .i64 c)] (HWk nf fns k w) λx h=>x= .ret (.tup [])/\h=HWk nf fns k ⟨w.vs,w.count,fl w.code c⟩:=by
 refine AC.go uM ?_
 by_cases h0:w.code=0
 ·simp-implicitDefEqProofs[iy,HWk,wO,wC,h0,fl]
 ·simp-implicitDefEqProofs[iy,HWk,wO,wC,h0,fl]
theorem CK(nf:Bool)(fns:List Fd)(k:Nat)(w:WS):∀o∈HWk nf fns k w,okO 2 o:=by
 intro o ho
 simp only[HWk,Za,Zj,or_false] at ho
 rcases ho with rfl|rfl
 ·exact Ag (by omega)
 ·exact iv _ _ _
theorem KG(nf:Bool)(fns:List Fd)(k:Nat)(w:WS)(hn:nf=true->w.vs=[])(hl:w.vs.length<=1099511627776)(s:List UInt8):AC Tryz.prog G fb [.ptr 0 5 0 0,.p (.str s)] (HWk nf fns k w) λx h=>x= .ret (.p (.int .i64 (Ab w.vs s)))/\h=HWk nf fns k w:=by
 refine AC.go uE ?_
 have hok:=CK nf fns k w
 cases nf with
 |true=>
  have hv:=hn rfl
  rw[HWk] at hok⊢
  simp-implicitDefEqProofs[ip,wO,wC,vaC,hv]
  refine aN (λ_:Unit=>aj 27 [(0,.ptr 0 5 0 0),(1,.p (.str s)),(5,.p (.int .i64 (-1)))]) (λ_=>[wO 1 true fns k w,roC true w.vs]) (λ_=>True) (λ_=>0) () trivial ?_ ?_
  ·have e:wO 1 true fns k w= .row 5 [[.p (fdL fns),.p (.int .i64 k),.nils,.p (.int .i64 w.count),.p (.int .i64 w.code)]]:=by simp[wO,wC,vaC]
   rw[←e,←hv]
   exact af (by simp) hok (by simp[below,ab (x:= -1) (by omega) (by omega)])
  ·intro _ _
   simp-implicitDefEqProofs[Ab]
   simp[wO,wC,vaC,hv]
 |false=>
  rw[HWk] at hok⊢
  have e:∀r,roC false r= .row 3 (lvR r):=λ_=>rfl
  have hw0:IntKind.i64.wrap ((w.vs.length:Int)-1)=(w.vs.length:Int)-1:=ab (by omega) (by omega)
  simp-implicitDefEqProofs[ip,wO,wC,vaC,hw0]
  refine aN (λr:List LV=>aj 27 [(0,.ptr 0 5 0 0),(1,.p (.str s)),(5,.p (.int .i64 ((r.length:Int)-1)))]) (λ_=>[wO 1 false fns k w,roC false w.vs]) (λr=>∃pre,w.vs=pre++r/\Ab w.vs s=Ab r s) (λr=>r.length) w.vs ⟨[],rfl,rfl⟩ ?_ ?_
  ·exact af (h:=[wO 1 false fns k w,roC false w.vs]) (by simp) hok (by simp[below])
  ·rintro r ⟨pre,e1,e2⟩
   cases r with
   |nil=>
    simp-implicitDefEqProofs[wO,wC,vaC]
    rw[e2];rfl
   |cons v r=>
    have hat:=JU pre v r
    rw[←e1] at hat
    have hlen:r.length<w.vs.length:=by rw[e1];simp;omega
    have hll:=Bg w.vs
    have c1:((r.length+1:Nat):Int)-1=(r.length:Int):=by omega
    have hw1:IntKind.i64.wrap ((r.length:Int)-1)=(r.length:Int)-1:=ab (by omega) (by omega)
    by_cases hs:v.name=s
    ·simp-implicitDefEqProofs[wO,wC,vaC,e,c1,hat,hlen,lvC,hs]
     rw[e2];simp[Ab,hs]
    ·simp-implicitDefEqProofs[wO,wC,vaC,e,c1,hat,hlen,lvC,hs]
     refine⟨r,⟨⟨pre++[v],by rw[e1];simp⟩,by rw[e2];simp[Ab,hs]⟩,by simp,?_⟩
     refine af (h:=[wO 1 false fns k w,roC false w.vs]) (by simp) hok ?_
     simp[below,hw1]
theorem Qe(nf:Bool)(fns:List Fd)(k:Nat)(w:WS)(hn:nf=true->w.vs=[])(hl:w.vs.length<=1099511627776)(s:List UInt8):AC Tryz.prog G fH [.ptr 0 5 0 0,.p (.str s)] (HWk nf fns k w) λx h=>x= .ret (.p (.str (kf w.vs s)))/\h=HWk nf fns k ⟨w.vs,w.count,mN w.vs s w.code⟩:=by
 refine AC.go vW ?_
 simp-implicitDefEqProofs[nW]
 refine(KG G nf fns k w hn hl s).mono ?_
 rintro r h ⟨rfl,rfl⟩
 rcases zM w.vs s with⟨e1,e2⟩|⟨pre,v,q,e0,e1,e2⟩
 ·simp-implicitDefEqProofs[aa,e2]
  refine(th G nf fns k w 3).mono ?_
  rintro r h ⟨rfl,rfl⟩
  simp-implicitDefEqProofs[aa,kf,mN,e1]
 ·have hat:=JU pre v q
  rw[←e0] at hat
  have hlen:q.length<w.vs.length:=by rw[e0];simp;omega
  have hnf:nf=false:=by
   cases nf with
   |false=>rfl
   |true=>rw[hn rfl] at e0;simp at e0
  subst hnf
  have e:∀r,roC false r= .row 3 (lvR r):=λ_=>rfl
  have hq:¬(q.length:Int)<0:=by omega
  simp-implicitDefEqProofs[aa,e2,hq,HWk,wO,wC,vaC,e,hat,hlen,lvC]
  refine(CB G v.num).use ?_
  simp-implicitDefEqProofs[kf,mN,e1]
theorem Ng(nf:Bool)(fns:List Fd)(k:Nat)(w:WS)(hn:nf=true->w.vs=[])(hl:w.vs.length<=1099511627776)(hc:w.count<=1099511627776)(s:List UInt8)(b:Nat):AC Tryz.prog G fM [.ptr 0 5 0 0,.p (.str s),.p (.int .i64 b)] (HWk nf fns k w) λx h=>x= .ret (.p (.str (vnm w.count)))/\h=[wO 2 false fns k (eF w s b),.dead,roC false (eF w s b).vs]:=by
 refine AC.goK vO yF ?_
 have hw1:IntKind.i64.wrap ((w.count:Int)+1)=(w.count:Int)+1:=ab (by omega) (by omega)
 have hw2:IntKind.i64.wrap ((w.count:Int)+1-1)=(w.count:Int):=by rw[ab (by omega) (by omega)];omega
 have hw3:IntKind.i64.wrap (w.count:Int)=(w.count:Int):=ab (by omega) (by omega)
 have hll:=Bg w.vs
 simp-implicitDefEqProofs[iV,jC]
 refine(KG G nf fns k w hn hl s).mono ?_
 rintro r h ⟨rfl,rfl⟩
 simp-implicitDefEqProofs[aa]
 refine nk (aj 57 [(0,.ptr 0 5 0 0),(1,.p (.str s)),(2,.p (.int .i64 b))]) (HWk nf fns k ⟨w.vs,w.count,pP w.vs s b w.code⟩) ?_ ?_
 ·rcases zM w.vs s with⟨e1,e2⟩|⟨pre,v,q,e0,e1,e2⟩
  ·simp-implicitDefEqProofs[e2,pP,e1]
   exact af (by simp[HWk]) (CK nf fns k w) (by simp[below,HWk])
  ·have hat:=JU pre v q
   rw[←e0] at hat
   have hlen:q.length<w.vs.length:=by rw[e0];simp;omega
   have hnf:nf=false:=by
    cases nf with
    |false=>rfl
    |true=>rw[hn rfl] at e0;simp at e0
   subst hnf
   have e:∀r,roC false r= .row 3 (lvR r):=λ_=>rfl
   have hq:(0:Int)<=(q.length:Int):=by omega
   by_cases hb:v.block=b
   ·have:=th G false fns k w 2
    simp only[HWk,wO,wC,vaC,e] at this
    simp-implicitDefEqProofs[e2,HWk,wO,wC,vaC,e,hat,hlen,lvC,hb]
    refine this.mono ?_
    rintro r h ⟨rfl,rfl⟩
    have hp:pP w.vs s b w.code=fl w.code 2:=by simp[pP,e1,hb]
    rw[hp]
    simp-implicitDefEqProofs[aa]
    refine af (h:=HWk false fns k ⟨w.vs,w.count,fl w.code 2⟩) ?_ (CK _ _ _ _) ?_
    ·simp[HWk]
    ·simp[below,HWk]
   ·have hp:pP w.vs s b w.code=w.code:=by simp[pP,e1,hb]
    have hbi:¬(v.block:Int)=(b:Int):=by omega
    rw[hp]
    simp-implicitDefEqProofs[e2,HWk,wO,wC,vaC,e,hat,hlen,lvC,hbi]
    refine af (h:=HWk false fns k w) ?_ (CK _ _ _ _) ?_
    ·simp[HWk]
    ·simp[below,HWk]
 ·cases nf with
  |true=>
   have hv:=hn rfl
   simp-implicitDefEqProofs[HWk,wO,wC,vaC,roC,hv,hw1,hw2,hw3]
   refine(CB G w.count).use ?_
   simp-implicitDefEqProofs[eF,lvR,lvC,hv]
  |false=>
   have e:∀r,roC false r= .row 3 (lvR r):=λ_=>rfl
   simp-implicitDefEqProofs[HWk,wO,wC,vaC,e,hw1,hw2,hw3,hll]
   refine⟨by omega,?_⟩
   refine(CB G w.count).use ?_
   simp-implicitDefEqProofs[eF,PM,lvC]
   rw[YU (by omega)]
end
section
theorem uO:AK.whole iw=FK.ak ir:=rfl
variable (G:am)
theorem HL{f:FuncId}{args:List AV}{nf:Bool}{fns:List Fd}{k:Nat}{w w':WS}{v:AV}(H:AC Tryz.prog G f args (HWk nf fns k w) λx h=>x= .ret v/\h=HWk nf fns k w')(rest:List AO)(ha:ah 2 args):
 AC Tryz.prog G f args (wO 1 nf fns k w::roC nf w.vs::rest) λx h=>x= .ret v/\h=wO 1 nf fns k w'::roC nf w'.vs::rest:=by
 refine(AC.pre H rest ha (CK _ _ _ _) ?_).mono ?_
 ·rintro x h ⟨_,rfl⟩;rfl
 ·rintro x h ⟨h1,⟨rfl,rfl⟩,rfl⟩
  exact⟨rfl,rfl⟩
theorem yN{n id:Nat}(hn:id<n){nf nf':Bool}{fns:List Fd}{k:Nat}{w:WS}{vs:List LV}{l:List AO}(r:∀o∈l,okO n o):∀o∈wO id nf fns k w::roC nf' vs::l,okO n o:=ae (Ag hn) (ae (iv _ _ _) r)
theorem CN{ρ π:List Nat}{h r1:List AO}{i id:Nat}{nf:Bool}{fns:List Fd}{k:Nat}{w:WS}(hid:id<ρ.length)(e:h[i]?=some (wO (ρ.getD id 0) nf fns k w))(hr:HW ρ h π r1):HW ρ h (i::π) (wO id nf fns k w::r1):=by
 refine da (es:=[wC id nf fns k w]) (λx hx=>?_) ?_ hr
 ·rw[YQ.1 hx];exact Ct hid
 ·rw[e,Zn,List.map_nil,FN];rfl
theorem Mh{α:Type}{l:List α}{i j:Nat}{a b:α}(hij:i≠j)(h:l[j]?=some b):(l.set i a).set j b=l.set i a:=by
 apply List.ext_getElem?
 intro n
 rw[List.getElem?_set]
 split
 ·rename_i e
  subst e
  rw[YM hij,h]
  rw[if_pos (by rw[Zq];exact(YL.1 h).1)]
 ·rfl
theorem Gm(ρ:List Nat):∀l:List AV,ah 0 l->TW ρ l l
 |[],_=>by simp
 |v::r,h=>by
  rw[Bw]
  refine⟨.inr ⟨(aJ (ZD _) [v] ⟨h.1,trivial⟩).1,?_⟩,Gm ρ r h.2⟩
  have:=eC ρ [v] ⟨h.1,trivial⟩
  simpa[bn] using this
theorem Wc{h:List AO}{wid id:Nat}{nf:Bool}{fns:List Fd}{k:Nat}{w:WS}(e0:h[wid]?=some (wO id nf fns k w))(e1:h[id]?=some (roC nf w.vs)):HW [wid,id] h [wid,id] (HWk nf fns k w):=by
 refine da (es:=[wC 1 nf fns k w]) (λx hx=>?_) ?_ ?_
 ·rw[YQ.1 hx];exact Ct (by simp)
 ·rw[e0,Zn,List.map_nil,FN];rfl
 ·exact cr e1 (iv _ _ _) cm
theorem TQ{f:FuncId}{args:List AV}{nf:Bool}{fns:List Fd}{k:Nat}{w:WS}{v:AV}{c:Int}(H:AC Tryz.prog G f (.ptr 0 5 0 0::args) (HWk nf fns k w) λx h=>x= .ret v/\h=HWk nf fns k ⟨w.vs,w.count,c⟩)(ha:ah 0 args)(hv:below 0 v)
 {h:List AO}{wid id:Nat}(hid:wid≠id)(e0:h[wid]?=some (wO id nf fns k w))(e1:h[id]?=some (roC nf w.vs)):
 AC Tryz.prog G f (.ptr wid 5 0 0::args) h λx h'=>x= .ret v/\h'=h.set wid (wO id nf fns k ⟨w.vs,w.count,c⟩):=by
 refine(H.frame [wid,id] (by simp[hid]) ?_ (Wc e0 e1)).mono ?_
 ·rw[Bw];exact⟨.inr ⟨by simp[below],rfl⟩,Gm _ _ ha⟩
 ·rintro x h' ⟨x0,h0,⟨rfl,rfl⟩,_,rfl,rfl⟩
  refine⟨?_,?_⟩
  ·have:=eC ([wid,id]++List.range' h.length ((HWk nf fns k ⟨w.vs,w.count,c⟩).length-(HWk nf fns k w).length)) [v] ⟨hv,trivial⟩
   simp only[bn] at this
   simp only[BG]
   exact congrArg ARes.ret (List.cons.inj this).1
  ·simp only[HWk,Ze,List.length_nil,Nat.sub_self,List.range'_zero,ZB,List.take_succ_cons,List.take_zero,Zn,List.map_nil,List.drop_succ_cons,List.drop_zero,KM,Hj,mrg]
   exact Mh hid e1
theorem Nc{f:FuncId}{args:List AV}{nf:Bool}{fns:List Fd}{k:Nat}{w:WS}{v:AV}{Q:Bool->WS->Prop}(H:AC Tryz.prog G f (.ptr 0 5 0 0::args) (HWk nf fns k w) λx h=>∃nf' w',x= .ret v/\h=[wO 2 nf' fns k w',.dead,roC nf' w'.vs]/\Q nf' w')(ha:ah 0 args)(hv:below 0 v)
 {h:List AO}{wid id:Nat}(hid:wid≠id)(e0:h[wid]?=some (wO id nf fns k w))(e1:h[id]?=some (roC nf w.vs)):
 AC Tryz.prog G f (.ptr wid 5 0 0::args) h λx h'=>∃nf' w',x= .ret v/\h'=(h.set wid (wO h.length nf' fns k w')).set id .dead++[roC nf' w'.vs]/\Q nf' w':=by
 refine(H.frame [wid,id] (by simp[hid]) ?_ (Wc e0 e1)).mono ?_
 ·rw[Bw];exact⟨.inr ⟨by simp[below],rfl⟩,Gm _ _ ha⟩
 ·rintro x h' ⟨x0,h0,⟨nf',w',rfl,rfl,q⟩,_,rfl,rfl⟩
  refine⟨nf',w',?_,?_,q⟩
  ·have:=eC ([wid,id]++List.range' h.length ([wO 2 nf' fns k w',.dead,roC nf' w'.vs].length-(HWk nf fns k w).length)) [v] ⟨hv,trivial⟩
   simp only[bn] at this
   simp only[BG]
   exact congrArg ARes.ret (List.cons.inj this).1
  ·simp only[HWk,Ze,List.length_nil,List.take_succ_cons,List.take_zero,Zn,List.map_nil,List.drop_succ_cons,List.drop_zero,KM,Hj,mrg]
   rfl
theorem EC(fns:List Fd)(k:Nat)(vs:List LV):∀(a b:List Ex) (c:Int),aK fns k vs (a++b) c=aK fns k vs b (aK fns k vs a c)
 |[],b,c=>rfl
 |e::r,b,c=>by rw[Zx,aK,aK,EC fns k vs r]
theorem yI(vs:List LV):∀l:List Ex,cT vs l=l.map (rnE vs)
 |[]=>rfl
 |e::r=>by rw[cT,yI vs r];rfl
theorem Ce{fns:List Fd}{k:Nat}{vs:List LV}{l:List Ex}{c:Int}{i:Nat}(h:i<l.length):aK fns k vs (l.take (i+1)) c=iM fns k vs l[i] (aK fns k vs (l.take i) c):=by
 rw[an h,EC];rfl
theorem EH{vs:List LV}{l:List Ex}{i:Nat}(h:i<l.length):cT vs (l.take (i+1))=cT vs (l.take i)++[rnE vs l[i]]:=by
 rw[yI,yI,an h,List.map_append];rfl
theorem yH(vs:List LV)(l:List Ex):(cT vs l).length=l.length:=by rw[yI,Zu]
theorem Lb(l:List Ex):(exR l).length=l.length:=by simp[exR]
theorem KL(a b:List Ex):exR (a++b)=exR a++exR b:=by simp[exR]
theorem GY{h:List AO}{id:Nat}{l:List Ex}(e:h[id]?=some (.row 4 (exR l))):View h (.sl id 4 0 l.length) (exL l):=by
 have:=la (h:=h) (id:=id) (sz:=4) (n:=l.length) (ls:=l.map Ex.cs) (by rw[e,exR];simp) (by simp) (λx hx=>by obtain⟨b,_,rfl⟩:=Zh.1 hx;exact b.cs_len)
 exact this
theorem Su{fns:List Fd}{s:List UInt8}{j:Nat}(h:cg fns s=some j):j<fns.length:=by
 rw[cg,Zg] at h;exact h.1
theorem Rx{fns:List Fd}{k:Nat}(hf:fns.length<=1099511627776):∀(N:Nat) (e:Ex),e.sz<=N->N<=1099511627776->∀(nf:Bool) (w:WS),(nf=true->w.vs=[])->w.vs.length<=1099511627776->
 AC Tryz.prog G dq [.ptr 0 5 0 0,.agg (e.cs.map .p)] (HWk nf fns k w) λx h=>x= .ret (.agg ((rnE w.vs e).cs.map .p))/\h=HWk nf fns k ⟨w.vs,w.count,iM fns k w.vs e w.code⟩:=by
 intro N
 induction N with
 |zero=>intro e he;have:=e.sz_eq;omega
 |succ N ih=>
  intro e he hN nf w hn hl
  have hec:=e.cs_eq
  have hsz:=e.sz_eq
  have hkl:=bB e.kids
  have hre:(rnE w.vs e).cs=[.int .i64 e.op,.int .i64 e.n,.str (if e.op=2 then kf w.vs e.name else e.name),exL (cT w.vs e.kids)]:=by
   obtain⟨o,n,s,ks⟩:=e;rw[rnE,Ex.cs_eq];rfl
  have hce:iM fns k w.vs e w.code=aK fns k w.vs e.kids (fZ fns k w.vs e.op e.name e.kids.length w.code):=by
   obtain⟨o,n,s,ks⟩:=e;rfl
  have main:AC Tryz.prog G dq [.ptr 0 5 0 0,.agg (e.cs.map .p)] (HWk nf fns k w) λx h=>∃E1 E2,x= .ret (.agg [.p (.int .i64 e.op),.p (.int .i64 e.n),.p (.str (if e.op=2 then kf w.vs e.name else e.name)),.sl 4 4 0 e.kids.length])/\
   h=[wO 1 nf fns k ⟨w.vs,w.count,iM fns k w.vs e w.code⟩,roC nf w.vs,E1,E2,.row 4 (exR (cT w.vs e.kids))]:=by
   refine AC.goK uI uO ?_
   simp-implicitDefEqProofs[iw,ir,HWk,hec]
   refine nk (aj 75 [(0,.ptr 0 5 0 0),(3,.ptr 2 4 0 0),(4,.ptr 3 4 0 0)]) [wO 1 nf fns k ⟨w.vs,w.count,if e.op=2 then mN w.vs e.name w.code else w.code⟩,roC nf w.vs,.row 4 [[.p (.int .i64 e.op),.p (.int .i64 e.n),.p (.str (if e.op=2 then kf w.vs e.name else e.name)),.p (exL e.kids)]],.row 4 [[.p (.int .i64 0),.p (.int .i64 0),.p (.str []),.nils]]] ?_ ?_
   ·by_cases o2:e.op=2
    ·simp-implicitDefEqProofs[o2]
     refine(HL G (Qe G nf fns k w hn hl e.name) _ (by simp[below])).mono ?_
     rintro r h ⟨rfl,rfl⟩
     simp-implicitDefEqProofs[aa]
     exact af (by simp) (yN (by simp) (by simp[okO,below])) (by simp[below])
    ·simp-implicitDefEqProofs[o2]
     exact af (by simp) (yN (by simp) (by simp[okO,below])) (by simp[below])
   refine nk (aj 75 [(0,.ptr 0 5 0 0),(3,.ptr 2 4 0 0),(4,.ptr 3 4 0 0)]) [wO 1 nf fns k ⟨w.vs,w.count,fZ fns k w.vs e.op e.name e.kids.length w.code⟩,roC nf w.vs,.row 4 [[.p (.int .i64 e.op),.p (.int .i64 e.n),.p (.str (if e.op=2 then kf w.vs e.name else e.name)),.p (exL e.kids)]],.row 4 [[.p (.int .i64 0),.p (.int .i64 0),.p (.str []),.nils]]] ?_ ?_
   ·by_cases o13:e.op=13
    ·have hhd:fZ fns k w.vs e.op e.name e.kids.length w.code=mS fns k e.name e.kids.length w.code:=by simp[fZ,o13]
     rw[hhd]
     simp-implicitDefEqProofs[o13,wO,wC]
     refine(Jx G fns e.name hf).use ?_
     have fin:∀c:Int,Wk 2 (aj 75 [(0,.ptr 0 5 0 0),(3,.ptr 2 4 0 0),(4,.ptr 3 4 0 0)]) [wO 1 nf fns k ⟨w.vs,w.count,c⟩,roC nf w.vs,.row 4 [[.p (.int .i64 13),.p (.int .i64 e.n),.p (.str e.name),.p (exL e.kids)]],.row 4 [[.p (.int .i64 0),.p (.int .i64 0),.p (.str []),.nils]]] (aj 75 [(0,.ptr 0 5 0 0),(3,.ptr 2 4 0 0),(4,.ptr 3 4 0 0)]) [wO 1 nf fns k ⟨w.vs,w.count,c⟩,roC nf w.vs,.row 4 [[.p (.int .i64 13),.p (.int .i64 e.n),.p (.str e.name),.p (exL e.kids)]],.row 4 [[.p (.int .i64 0),.p (.int .i64 0),.p (.str []),.nils]]]:=λc=>
      af (by simp) (yN (by simp) (by simp[okO,below])) (by simp[below])
     cases hfa:cg fns e.name with
     |none=>
      simp-implicitDefEqProofs[ixI,mS,hfa]
      refine(HL G (th G nf fns k w 4) _ (by simp[below])).mono ?_
      rintro r h ⟨rfl,rfl⟩
      simp-implicitDefEqProofs[aa]
      exact af (h:=[wO 1 nf fns k ⟨w.vs,w.count,fl w.code 4⟩,roC nf w.vs,.row 4 [[.p (.int .i64 13),.p (.int .i64 e.n),.p (.str e.name),.p (exL e.kids)]],.row 4 [[.p (.int .i64 0),.p (.int .i64 0),.p (.str []),.nils]]]) (by simp) (yN (by simp) (by simp[okO,below])) (by simp[below])
     |some j=>
      have hj:=Su hfa
      have hg:=YO hj
      have hjn:¬(j:Int)<0:=by omega
      by_cases hkj:k<=j
      ·have hkj':(k:Int)<=(j:Int):=by omega
       simp-implicitDefEqProofs[ixI,mS,hfa,hkj,hkj',hjn]
       refine(HL G (th G nf fns k w 4) _ (by simp[below])).mono ?_
       rintro r h ⟨rfl,rfl⟩
       simp-implicitDefEqProofs[aa]
       exact af (h:=[wO 1 nf fns k ⟨w.vs,w.count,fl w.code 4⟩,roC nf w.vs,.row 4 [[.p (.int .i64 13),.p (.int .i64 e.n),.p (.str e.name),.p (exL e.kids)]],.row 4 [[.p (.int .i64 0),.p (.int .i64 0),.p (.str []),.nils]]]) (by simp) (yN (by simp) (by simp[okO,below])) (by simp[below])
      ·have hkj':¬(k:Int)<=(j:Int):=by omega
       have hfl:fdL fns= .lst 3 (fns.map Fd.cs):=rfl
       have hcs:fns[j].cs=[.str fns[j].name,al fns[j].params,smL fns[j].body]:=rfl
       have hst:al fns[j].params= .lst 1 (fns[j].params.map λw=>[.str w]):=rfl
       have hxl:∀l,exL l= .lst 4 (l.map Ex.cs):=λ_=>rfl
       have hpn:AD fns j=fns[j].params.length:=by simp[AD,hg]
       by_cases hp:fns[j].params.length=e.kids.length
       ·have hcc:mS fns k e.name e.kids.length w.code=w.code:=by simp[mS,hfa,hkj,hpn,hp]
        rw[hcc]
        simp-implicitDefEqProofs[ixI,hkj',hjn,hfl,hg,hcs,hst,hxl,hp]
        exact af (h:=[wO 1 nf fns k w,roC nf w.vs,.row 4 [[.p (.int .i64 13),.p (.int .i64 e.n),.p (.str e.name),.p (exL e.kids)]],.row 4 [[.p (.int .i64 0),.p (.int .i64 0),.p (.str []),.nils]]]) (by simp) (yN (by simp) (by simp[okO,below])) (by simp[below])
       ·have hcc:mS fns k e.name e.kids.length w.code=fl w.code 5:=by simp[mS,hfa,hkj,hpn,hp]
        have hp':¬(fns[j].params.length:Int)=(e.kids.length:Int):=by omega
        rw[hcc]
        simp-implicitDefEqProofs[ixI,hkj',hjn,hfl,hg,hcs,hst,hxl,hp']
        refine(HL G (th G nf fns k w 5) _ (by simp[below])).mono ?_
        rintro r h ⟨rfl,rfl⟩
        simp-implicitDefEqProofs[aa]
        exact af (h:=[wO 1 nf fns k ⟨w.vs,w.count,fl w.code 5⟩,roC nf w.vs,.row 4 [[.p (.int .i64 13),.p (.int .i64 e.n),.p (.str e.name),.p (exL e.kids)]],.row 4 [[.p (.int .i64 0),.p (.int .i64 0),.p (.str []),.nils]]]) (by simp) (yN (by simp) (by simp[okO,below])) (by simp[below])
    ·have hhd:fZ fns k w.vs e.op e.name e.kids.length w.code=if e.op=2 then mN w.vs e.name w.code else w.code:=by simp[fZ,o13]
     rw[hhd]
     simp-implicitDefEqProofs[o13]
     exact af (by simp) (yN (by simp) (by simp[okO,below])) (by simp[below])
   rw[hce]
   generalize fZ fns k w.vs e.op e.name e.kids.length w.code=c2
   generalize (if e.op=2 then kf w.vs e.name else e.name)=s1
   have hxl:exL e.kids= .lst 4 (e.kids.map Ex.cs):=rfl
   simp-implicitDefEqProofs[]
   refine aN (λi:Nat=>aj 75 [(0,.ptr 0 5 0 0),(3,.ptr 2 4 0 0),(4,.ptr 3 4 0 0),(6,.sl 4 4 0 i),(7,.p (.int .i64 i))])
    (λi=>[wO 1 nf fns k ⟨w.vs,w.count,aK fns k w.vs (e.kids.take i) c2⟩,roC nf w.vs,.row 4 [[.p (.int .i64 e.op),.p (.int .i64 e.n),.p (.str s1),.p (exL e.kids)]],.row 4 [[.p (.int .i64 0),.p (.int .i64 0),.p (.str []),.nils]],.row 4 (exR (cT w.vs (e.kids.take i)))])
    (λi=>i<=e.kids.length) (λi=>e.kids.length-i) 0 (by simp) ?_ ?_
   ·exact af (by simp) (yN (by simp) (by simp[okO,below])) (by simp[below])
   ·intro i hi
    have hrl:(exR (cT w.vs (e.kids.take i))).length=i:=by rw[Lb,yH];simp;omega
    simp-implicitDefEqProofs[hxl]
    refine bi (λh=>?_) (λh=>?_)
    ·simp at h
     have hg:=YO h
     have hks:=bS (Zf h)
     have hkc:=(rnE w.vs e.kids[i]).cs_eq
     simp-implicitDefEqProofs[hg]
     refine(HL G (ih e.kids[i] (by omega) (by omega) nf ⟨w.vs,w.count,aK fns k w.vs (e.kids.take i) c2⟩ hn hl) _ (by simp[below])).mono ?_
     rintro r h ⟨rfl,rfl⟩
     rw[show(rnE (WS.mk w.vs w.count (aK fns k w.vs (e.kids.take i) c2)).vs e.kids[i])=rnE w.vs e.kids[i] from rfl]
     simp-implicitDefEqProofs[aa,hkc,hrl]
     refine⟨by omega,?_⟩
     refine⟨i+1,by omega,by omega,?_⟩
     have htk:List.take i (exR (cT w.vs (e.kids.take i)))=exR (cT w.vs (e.kids.take i)):=YU (by omega)
     rw[Ce h,EH h,KL,htk]
     refine dx [0,1,2,3,6] (by simp) (by decide) (by decide) (CN (by simp) rfl (cr rfl (iv _ _ _) (br rfl (by simp[below]) (br rfl (by simp[below]) (br ?_ ?_ cm))))) (by simp[below,ren,w1 (i:=i) (by omega)])
     ·have:exR [rnE w.vs e.kids[i]]=[[.p (.int .i64 (rnE w.vs e.kids[i]).op),.p (.int .i64 (rnE w.vs e.kids[i]).n),.p (.str (rnE w.vs e.kids[i]).name),.p (exL (rnE w.vs e.kids[i]).kids)]]:=by rw[exR,ZR,hkc];rfl
      rw[this];rfl
     ·intro x hx
      rcases YV.1 hx with h|h
      ·exact ey _ x h
      ·exact ey _ x h
    ·simp at h
     have hie:i=e.kids.length:=by omega
     subst hie
     simp-implicitDefEqProofs[]
  refine main.frz 2 (by simp[HWk]) (λt v h ⟨_,_,e,_⟩=>by cases e) ?_
  rintro v h ⟨E1,E2,e,rfl⟩
  cases e
  refine⟨_,HWk nf fns k ⟨w.vs,w.count,iM fns k w.vs e w.code⟩,by simp,rfl,.agg ?_ .nil,.same (Ag (by omega)) (.same (iv _ _ _) (.nil _)),rfl,rfl⟩
  rw[hre]
  have hrl:=yH w.vs e.kids
  rw[←hrl]
  exact .keep (by simp) (.keep (by simp) (.keep (by simp) (.one (GY rfl) .nil)))
end
section
theorem tE:AK.whole gM=FK.ak gA:=rfl
theorem GR(fns:List Fd)(k b:Nat):∀(x y:List Sm) (w:WS),aO fns k b (x++y) w=aO fns k b y (aO fns k b x w)
 |[],y,w=>rfl
 |s::r,y,w=>by rw[Zx,aO,aO,GR fns k b r]
theorem Io(fns:List Fd)(k b:Nat):∀(x y:List Sm) (w:WS),cu fns k b (x++y) w=cu fns k b x w++cu fns k b y (aO fns k b x w)
 |[],y,w=>rfl
 |s::r,y,w=>by rw[Zx,cu,cu,Io fns k b r];rfl
theorem LB{fns:List Fd}{k b:Nat}{l:List Sm}{w:WS}{i:Nat}(h:i<l.length):aO fns k b (l.take (i+1)) w=stW fns k b l[i] (aO fns k b (l.take i) w):=by
 rw[an h,GR];rfl
theorem LP{fns:List Fd}{k b:Nat}{l:List Sm}{w:WS}{i:Nat}(h:i<l.length):cu fns k b (l.take (i+1)) w=cu fns k b (l.take i) w++[rnS fns k b l[i] (aO fns k b (l.take i) w)]:=by
 rw[an h,Io];rfl
theorem Cb(fns:List Fd)(k b:Nat):∀(l:List Sm) (w:WS),(cu fns k b l w).length=l.length
 |[],w=>rfl
 |s::r,w=>by rw[cu,Ze,Cb fns k b r,Ze]
theorem QL{l:List Sm}{i:Nat}(h:i<l.length):ay (l.take i)+l[i].sz<=ay l:=by
 have e:l=l.take i++l[i]::l.drop (i+1):=by rw[←ZJ h,ZH]
 have h2:ay l=ay (l.take i)+(l[i].sz+ay (l.drop (i+1))):=by
  conv=>lhs;rw[e]
  rw[bM];rfl
 omega
def ve(fns:List Fd)(k b:Nat)(l:List Sm)(w:WS):WS:=if 0<b then(aO fns k b l w).back w.vs else aO fns k b l w
theorem II(fns:List Fd)(k b:Nat)(l:List Sm)(w:WS):(ve fns k b l w).count=w.count+bI l:=by
 unfold ve
 split
 ·exact fa fns k l b w
 ·exact fa fns k l b w
theorem NS{e vs:List LV}:(lvR (e++vs)).take vs.length=lvR vs:=by
 have h:lvR (e++vs)=lvR vs++lvR e:=by simp[lvR]
 rw[h,List.take_append_of_le_length (by rw[Bg];exact YY _),YU (by rw[Bg];exact YY _)]
theorem Er(l:List Sm):bI l<=ay l:=Zi (rM l) (pu l)
theorem IC(nf:Bool)(id n:Nat):(vaC nf id n).isCell=true:=by cases nf<;>rfl
theorem Mx(nf:Bool)(id n:Nat):(vaC nf id n).cells=[vaC nf id n]:=by cases nf<;>rfl
attribute [simp ↓] IC Mx
variable (G:am)
def StP(fns:List Fd)(k b:Nat)(l:List Sm)(w:WS)(x:ARes)(h:List AO):Prop:=∃nf' w',x= .ret (.p (smL (cu fns k b l w)))/\h=[wO 2 nf' fns k w',.dead,roC nf' w'.vs]/\(nf'=true->w'.vs=[])/\w'=ve fns k b l w
structure StS where (i:Nat) (nf:Bool)
theorem Nt{fns:List Fd}{k:Nat}(hf:fns.length<=1099511627776):∀(N:Nat) (l:List Sm),ay l<N->∀(b:Nat) (nf:Bool) (w:WS),(nf=true->w.vs=[])->w.vs.length<=w.count->w.count+ay l<=1099511627776->b+ay l<=1099511627776->
 AC Tryz.prog G cQ [.ptr 0 5 0 0,.p (smL l),.p (.int .i64 b)] (HWk nf fns k w) (StP fns k b l w):=by
 intro N
 induction N with
 |zero=>
  intro l hl b nf w hn hv hc hb
  omega
 |succ N ih=>
  intro l hl b nf w hn hv hc hb
  have hll:=cC l
  refine AC.goK tz tE ?_
  have hsl:∀l,smL l= .lst 5 (l.map Sm.cs):=λ_=>rfl
  have hlen0:IP (vaC nf 1 w.vs.length)=some (.p (.int .i64 w.vs.length)):=by
   cases nf
   ·rfl
   ·simp[vaC,hn rfl]
  simp-implicitDefEqProofs[gM,gA,HWk,wO,wC,hlen0]
  refine aN (λs:StS=>aj 96 [(0,.ptr 0 5 0 0),(1,.p (smL l)),(2,.p (.int .i64 b)),(7,.sl 2 5 0 s.i),(8,.p (.int .i64 w.vs.length)),(9,.p (.int .i64 s.i))])
   (λs=>[wO 3 s.nf fns k (aO fns k b (l.take s.i) w),.dead,.row 5 (smR (cu fns k b (l.take s.i) w)),roC s.nf (aO fns k b (l.take s.i) w).vs])
   (λs=>s.i<=l.length/\(s.nf=true->(aO fns k b (l.take s.i) w).vs=[])) (λs=>l.length-s.i) ⟨0,nf⟩ ⟨by simp,hn⟩ ?_ ?_
  ·refine Lm [0,1,2,1] (by simp) (by decide) ?_ (CN (by simp) rfl (fO (by simp) (br rfl (by simp[smR,cu]) (cr rfl (iv _ _ _) cm)))) (by simp[below,ren])
   cases nf<;>simp[lb,roC,wO,aO]
  ·rintro⟨i,nf⟩ ⟨hi,hn⟩
   simp only at hi hn
   simp-implicitDefEqProofs[hsl]
   refine bi (λh=>?_) (λh=>?_)
   ·simp at h
    have hg:=YO h
    have hat:=QL h
    have hse:=l[i].cs_eq
    have hsz:=l[i].sz_eq
    have hle:=KI fns k (l:=l.take i) (b:=b) hv
    have hcn:=fa fns k (l.take i) b w
    have hlz:=Er (l.take i)
    have eW:=LB (fns:=fns) (k:=k) (b:=b) (w:=w) h
    have eR:=LP (fns:=fns) (k:=k) (b:=b) (w:=w) h
    have hol:=Cb fns k b (l.take i) w
    rw[Zl,Nat.min_eq_left hi] at hol
    generalize l[i]=s at hg hat hse hsz eW eR
    generalize aO fns k b (l.take i) w=wi at hn hle hcn eW eR⊢
    generalize cu fns k b (l.take i) w=out at hol eR⊢
    obtain⟨o,nme,a,bd,el⟩:=s
    simp only[Sm.op,Sm.name,Sm.args,Sm.body,Sm.els] at hse hsz
    simp-implicitDefEqProofs[hg,hse]
    have hxl:∀l,exL l= .lst 4 (l.map Ex.cs):=λ_=>rfl
    have hal:=bB a
    have hlE:=Er bd
    have hwl:wi.vs.length<=1099511627776:=by omega
    have hopR:∀(x y z u v:AV),ah 0 [x,y,z,u,v]->okO 5 (AO.row 5 [[x,y,z,u,v]]):=λx y z u v hh=>cw (λe he=>by rw[YQ.1 he];exact hh)
    refine aN (λj:Nat=>aj 96 [(0,.ptr 0 5 0 0),(1,.p (smL l)),(2,.p (.int .i64 b)),(7,.sl 2 5 0 i),(8,.p (.int .i64 w.vs.length)),(9,.p (.int .i64 i)),(10,.ptr 4 5 0 0),(11,.sl 5 4 0 j),(12,.p (.int .i64 j))])
     (λj=>[wO 3 nf fns k ⟨wi.vs,wi.count,aK fns k wi.vs (a.take j) wi.code⟩,.dead,.row 5 (smR out),roC nf wi.vs,.row 5 [[.p (.int .i64 o),.p (.str nme),.p (exL a),.p (smL bd),.p (smL el)]],.row 4 (exR (cT wi.vs (a.take j)))])
     (λj=>j<=a.length) (λj=>a.length-j) 0 (by simp) ?_ ?_
    ·refine af (h:=[wO 3 nf fns k wi,.dead,.row 5 (smR out),roC nf wi.vs,.row 5 [[.p (.int .i64 o),.p (.str nme),.p (exL a),.p (smL bd),.p (smL el)]],.row 4 []]) (by simp) (ae (Ag (by simp)) (ae trivial (ae (cw (ep out)) (ae (iv _ _ _) (by simp[okO,below]))))) (by simp[below,hsl])
    intro j hj
    have hrl:(exR (cT wi.vs (a.take j))).length=j:=by rw[Lb,yH];simp;omega
    simp-implicitDefEqProofs[hxl]
    refine bi (λhc=>?_) (λhc=>?_)
    ·simp at hc
     have hga:=YO hc
     have hks:=bS (Zf hc)
     have hkc:=(rnE wi.vs a[j]).cs_eq
     simp-implicitDefEqProofs[hga]
     refine(TQ G (id:=3) (Rx G hf (a[j].sz) a[j] (YY _) (by omega) nf ⟨wi.vs,wi.count,aK fns k wi.vs (a.take j) wi.code⟩ hn hwl) (by simp) (by simp[below]) (by decide) rfl rfl).mono ?_
     rintro r h' ⟨rfl,rfl⟩
     rw[show(rnE (WS.mk wi.vs wi.count (aK fns k wi.vs (a.take j) wi.code)).vs a[j])=rnE wi.vs a[j] from rfl]
     simp-implicitDefEqProofs[aa,hkc,hrl]
     refine⟨by omega,j+1,by omega,by omega,?_⟩
     have htk:List.take j (exR (cT wi.vs (a.take j)))=exR (cT wi.vs (a.take j)):=YU (by omega)
     rw[Ce hc,EH hc,KL,htk]
     refine dx [0,1,2,3,4,7] (by simp) (by decide) (by decide) (CN (by simp) rfl (fO (by simp) (br rfl (ep out) (cr rfl (iv _ _ _) (br rfl (by simp[below]) (br ?_ ?_ cm)))))) (by simp[below,ren,hsl,w1 (i:=j) (by omega)])
     ·have:exR [rnE wi.vs a[j]]=[[.p (.int .i64 (rnE wi.vs a[j]).op),.p (.int .i64 (rnE wi.vs a[j]).n),.p (.str (rnE wi.vs a[j]).name),.p (exL (rnE wi.vs a[j]).kids)]]:=by rw[exR,ZR,hkc];rfl
      rw[this];rfl
     ·intro x hx
      rcases YV.1 hx with h|h
      ·exact ey _ x h
      ·exact ey _ x h
    simp at hc
    have hje:j=a.length:=by omega
    subst hje
    rw[ZM] at hrl⊢
    have hal2:=yH wi.vs a
    simp-implicitDefEqProofs[]
    generalize hw1:WS.mk wi.vs wi.count (aK fns k wi.vs a wi.code)=w1
    have e1v:w1.vs=wi.vs:=by rw[←hw1]
    have e1c:w1.count=wi.count:=by rw[←hw1]
    have e1l:w1.vs.length=wi.vs.length:=by rw[e1v]
    rw[←e1v]
    refine nk (aj 96 [(0,.ptr 0 5 0 0),(1,.p (smL l)),(2,.p (.int .i64 b)),(7,.sl 2 5 0 i),(8,.p (.int .i64 w.vs.length)),(9,.p (.int .i64 i)),(10,.ptr 4 5 0 0)])
     [wO 3 nf fns k w1,.dead,.row 5 (smR out),roC nf w1.vs,.row 5 [[.p (.int .i64 o),.p (.str nme),.p (exL (cT w1.vs a)),.p (smL bd),.p (smL el)]]] ?_ ?_
    ·simp-implicitDefEqProofs[]
     refine pE 5 (by omega) (by simp) rfl (.same (Ag (by omega)) (.dead (.same (cw (ep out)) (.same (iv _ _ _) (.one (.keep (by simp[below]) (.keep (by simp[below]) (.one ?_ (.keep (by simp[below]) (.keep (by simp[below]) .nil))))) (.nil _)))))) ?_
     ·rw[←e1v] at hal2
      rw[←hal2]
      exact GY rfl
     ·refine⟨.keep (by simp[below]) .nil,.keep (by simp[below]) .nil,.keep (by simp[below]) .nil,.keep (by simp[below]) .nil,.keep (by simp[below]) .nil,.keep (by simp[below]) .nil,.keep (by simp[below]) .nil,trivial⟩
    have TT:∀(r1:List (Nat × AV)),Aw.look r1 0= .ptr 0 5 0 0->Aw.look r1 1= .p (smL l)->Aw.look r1 2= .p (.int .i64 b)->Aw.look r1 7= .sl 2 5 0 i->Aw.look r1 8= .p (.int .i64 w.vs.length)->Aw.look r1 9= .p (.int .i64 i)->Aw.look r1 10= .ptr 4 5 0 0->∀ρ:List Nat,ρ.length=5->ρ.getD 0 0=0->ρ.getD 2 0=2->ρ.getD 4 0=4->
     TWA ρ r1 [(0,.ptr 0 5 0 0),(1,.p (smL l)),(2,.p (.int .i64 b)),(7,.sl 2 5 0 i),(8,.p (.int .i64 w.vs.length)),(9,.p (.int .i64 i)),(10,.ptr 4 5 0 0)]:=by
     intro r1 a0 a1 a2 a7 a8 a9 a10 ρ hr r0 r2 r4
     simp[below,ren,hr,a0,a1,a2,a7,a8,a9,a10]
     rw[Zc,YO (by omega)] at r0 r2 r4
     exact⟨r0,r2,r4⟩
    have hn1:nf=true->w1.vs=[]:=λh=>by rw[e1v];exact hn h
    have okB:∀(nf:Bool) (w:WS) (r:AO),okO 0 r->∀x∈[wO 3 nf fns k w,.dead,.row 5 (smR out),roC nf w.vs,r],okO 5 x:=λnf w r hr=>
     ae (Ag (by omega)) (ae trivial (ae (cw (ep out)) (ae (iv _ _ _) (ae (cw hr) dX))))
    refine nk (aj 96 [(0,.ptr 0 5 0 0),(1,.p (smL l)),(2,.p (.int .i64 b)),(7,.sl 2 5 0 i),(8,.p (.int .i64 w.vs.length)),(9,.p (.int .i64 i)),(10,.ptr 4 5 0 0)])
     [wO 3 (if o=1 then false else nf) fns k (if o=1 then eF w1 nme b else w1),.dead,.row 5 (smR out),roC (if o=1 then false else nf) (if o=1 then eF w1 nme b else w1).vs,.row 5 [[.p (.int .i64 o),.p (.str (if o=1 then vnm w1.count else nme)),.p (exL (cT w1.vs a)),.p (smL bd),.p (smL el)]]] ?_ ?_
    ·by_cases o1:o=1
     ·simp-implicitDefEqProofs[o1]
      refine(Nc G (id:=3) (Q:=λnf' w'=>nf'=false/\w'=eF w1 nme b) ((Ng G nf fns k w1 hn1 (by omega) (by omega) nme b).mono (by rintro x h ⟨rfl,rfl⟩;exact⟨false,_,rfl,rfl,rfl,rfl⟩)) (by simp) (by simp[below]) (by decide) rfl rfl).mono ?_
      rintro r h' ⟨nf',w',rfl,rfl,rfl,rfl⟩
      simp-implicitDefEqProofs[aa]
      refine dx [0,1,2,5,4] (by simp) (by decide) (by decide) (CN (by simp) rfl (fO (by simp) (br rfl (ep out) (cr rfl (iv _ _ _) (br rfl (by simp[below]) cm))))) (TT _ (by simp) (by simp) (by simp) (by simp) (by simp) (by simp) (by simp) _ rfl rfl rfl rfl)
     ·simp-implicitDefEqProofs[o1]
      refine af (by simp) (okB nf w1 _ (by simp[okO,below])) (by simp[below])
    generalize hw2:(if o=1 then eF w1 nme b else w1)=w2
    generalize hnf2:(if o=1 then false else nf)=nf2
    generalize hnm2:(if o=1 then vnm w1.count else nme)=nm2
    have hn2:nf2=true->w2.vs=[]:=by
     intro h
     by_cases o1:o=1
     ·rw[if_pos o1] at hnf2;rw[←hnf2] at h;cases h
     ·rw[if_neg o1] at hnf2 hw2;rw[←hw2];exact hn1 (by rw[hnf2];exact h)
    have h2c:w2.count=w1.count+if o=1 then 1 else 0:=by rw[←hw2];split<;>rfl
    have h2v:w2.vs.length<=w2.count:=by
     rw[←hw2];split
     ·simp[eF];omega
     ·omega
    have h2b:w2.count<=wi.count+1:=by rw[h2c,e1c];split<;>omega
    refine nk (aj 96 [(0,.ptr 0 5 0 0),(1,.p (smL l)),(2,.p (.int .i64 b)),(7,.sl 2 5 0 i),(8,.p (.int .i64 w.vs.length)),(9,.p (.int .i64 i)),(10,.ptr 4 5 0 0)])
     [wO 3 nf2 fns k (opW o nme b w1),.dead,.row 5 (smR out),roC nf2 (opW o nme b w1).vs,.row 5 [[.p (.int .i64 o),.p (.str (opN o nme w1)),.p (exL (cT w1.vs a)),.p (smL bd),.p (smL el)]]] ?_ ?_
    ·by_cases o2:o=2
     ·have o1:¬o=1:=by omega
      rw[if_neg o1] at hw2 hnm2
      subst hw2;subst hnm2
      have eo:opW o nme b w1=⟨w1.vs,w1.count,mN w1.vs nme w1.code⟩:=by rw[opW,if_neg o1,if_pos o2]
      have en:opN o nme w1=kf w1.vs nme:=by rw[opN,if_neg o1,if_pos o2]
      rw[eo,en]
      simp-implicitDefEqProofs[o2]
      refine(TQ G (id:=3) (Qe G nf2 fns k w1 hn2 (by omega) nme) (by simp) (by simp[below]) (by decide) rfl rfl).mono ?_
      rintro r h' ⟨rfl,rfl⟩
      simp-implicitDefEqProofs[aa]
      refine af (h:=[wO 3 nf2 fns k ⟨w1.vs,w1.count,mN w1.vs nme w1.code⟩,.dead,.row 5 (smR out),roC nf2 w1.vs,_]) (by simp) (okB nf2 ⟨w1.vs,w1.count,mN w1.vs nme w1.code⟩ _ (by simp[okO,below])) (by simp[below])
     ·have eo:opW o nme b w1=w2:=by rw[opW,if_neg o2,←hw2]
      have en:opN o nme w1=nm2:=by rw[opN,if_neg o2,←hnm2]
      rw[eo,en]
      simp-implicitDefEqProofs[o2]
      refine af (by simp) (okB nf2 w2 _ (by simp[okO,below])) (by simp[below])
    have eov:(opW o nme b w1).vs=w2.vs:=by
     rw[opW,←hw2];split
     ·rfl
     ·split<;>rfl
    have eoc:(opW o nme b w1).count=w2.count:=by rw[pi,h2c]
    have hwb:IntKind.i64.wrap ((b:Int)+1)=((b+1:Nat):Int):=by rw[ab (by omega) (by omega)];omega
    have hstw:stW fns k b (.mk o nme a bd el) wi=ve fns k (b+1) el (ve fns k (b+1) bd (opW o nme b w1)):=by
     rw[stW]
     simp only[hw1,ve,Nat.succ_pos,if_true]
     rfl
    have hrns:(rnS fns k b (.mk o nme a bd el) wi).cs=[.int .i64 o,.str (opN o nme w1),exL (cT w1.vs a),smL (cu fns k (b+1) bd (opW o nme b w1)),smL (cu fns k (b+1) el (ve fns k (b+1) bd (opW o nme b w1)))]:=by
     rw[rnS,Sm.cs_eq]
     simp only[hw1,ve,Nat.succ_pos,if_true,Sm.op,Sm.name,Sm.args,Sm.body,Sm.els,e1v]
     have:opN o nme wi=opN o nme w1:=by simp only[opN,e1v,e1c]
     rw[this]
    rw[hstw] at eW
    clear hstw
    generalize opW o nme b w1=w3 at eov eoc hrns eW⊢
    have hn3:nf2=true->w3.vs=[]:=λh=>by rw[eov];exact hn2 h
    have h3v:w3.vs.length<=w3.count:=by rw[eov,eoc];exact h2v
    simp-implicitDefEqProofs[hwb]
    refine(Nc G (id:=3) (ih bd (by omega) (b+1) nf2 w3 hn3 h3v (by omega) (by omega)) (by simp) (by simp[below]) (by decide) rfl rfl).mono ?_
    rintro r h' ⟨nf4,w4,rfl,rfl,hn4,hw4⟩
    rw[←hw4] at hrns eW
    have h4c:w4.count=w3.count+bI bd:=by rw[hw4];exact II _ _ _ _ _
    have h4v:w4.vs.length<=w4.count:=by
     have:w4.vs=w3.vs:=by rw[hw4];simp[ve,WS.back]
     rw[this,h4c];omega
    simp-implicitDefEqProofs[aa,hwb]
    refine(Nc G (id:=5) (ih el (by omega) (b+1) nf4 w4 hn4 h4v (by omega) (by omega)) (by simp) (by simp[below]) (by decide) rfl rfl).mono ?_
    rintro r h' ⟨nf5,w5,rfl,rfl,hn5,hw5⟩
    rw[←hw5] at eW
    have hsl2:(smR out).length=i:=by rw[gZ];exact hol
    simp-implicitDefEqProofs[aa,hsl2]
    refine⟨⟨by omega,by omega⟩,⟨i+1,nf5⟩,⟨by simp only;omega,λh=>by simp only at h⊢;rw[eW];exact hn5 h⟩,by simp only;omega,?_⟩
    simp only
    rw[eW,eR,Gp]
    have htk:List.take i (smR out)=smR out:=YU (by omega)
    rw[htk]
    have hsm1:smR [rnS fns k b (.mk o nme a bd el) wi]=[[.p (.int .i64 o),.p (.str (opN o nme w1)),.p (exL (cT w1.vs a)),.p (smL (cu fns k (b+1) bd w3)),.p (smL (cu fns k (b+1) el w4))]]:=by rw[smR,ZR,hrns];rfl
    rw[hsm1]
    refine dx [0,1,8,6] (by simp) (by decide) (by decide) (CN (by simp) rfl (fO (by simp) (br rfl (λx hx=>?_) (cr rfl (iv _ _ _) cm)))) (by simp[below,ren,hsl,show IntKind.i64.wrap ((i:Int)+1)=((i:Int)+1) from ab (by omega) (by omega)])
    rcases YV.1 hx with h|h
    ·exact ep out x h
    ·rw[YQ.1 h];simp
   ·simp at h
    have hie:i=l.length:=by omega
    subst hie
    rw[ZM] at hn⊢
    obtain⟨ext,hext⟩:=Gx fns k l b w
    have hlen:=Cb fns k b l w
    refine nk (aj 96 [(7,.p (smL (cu fns k b l w)))]) [wO 2 nf fns k (ve fns k b l w),.dead,roC nf (ve fns k b l w).vs] ?_ ?_
    ·have fin:∀(r1:List (Nat × AV)) (w':WS),w'.vs=w.vs\/w'.vs=(aO fns k b l w).vs->(Aw.look r1 7= .sl 2 5 0 l.length)->
      Wk 2 (aj 96 r1) [wO 3 nf fns k w',.dead,.row 5 (smR (cu fns k b l w)),roC nf (aO fns k b l w).vs] (aj 96 [(7,.p (smL (cu fns k b l w)))]) [wO 2 nf fns k w',.dead,roC nf w'.vs]:=by
      intro r1 w' hv' hr
      refine Wk.trans (Kh (h1:=[wO 3 nf fns k w',.dead,.row 5 (smR (cu fns k b l w)),roC nf w'.vs]) ?_) (Wk.trans (dx (l1:=[(7,.sl 3 5 0 l.length)]) (h1:=[wO 2 nf fns k w',.dead,roC nf w'.vs,.row 5 (smR (cu fns k b l w))]) [0,1,3,2] (by simp) (by decide) (by decide) (CN (by simp) rfl (fO (by simp) (cr rfl (iv _ _ _) (br rfl (ep _) cm)))) (by simp[below,ren,hr]))
       (pE 3 (by omega) (by simp) rfl (.same (Ag (by omega)) (.dead (.same (iv _ _ _) (.nil _)))) ?_))
      ·refine⟨.inl rfl,.inl rfl,.inl rfl,?_,trivial⟩
       rcases hv' with e|e
       ·cases nf with
        |true=>exact .inl rfl
        |false=>
         refine .inr ⟨3,lvR (aO fns k b l w).vs,w.vs.length,rfl,?_⟩
         rw[hext,NS,e];rfl
       ·rw[e];exact .inl rfl
      ·rw[←hlen]
       exact⟨.one (mE rfl) .nil,trivial⟩
     by_cases hb0:0<b
     ·have hwe:ve fns k b l w=(aO fns k b l w).back w.vs:=if_pos hb0
      rw[hwe]
      have hll2:(aO fns k b l w).vs.length=ext.length+w.vs.length:=by rw[hext,YZ]
      cases nf with
      |true=>
       have h0:=hn rfl
       rw[h0] at hext
       have h00:w.vs=[]:=(List.append_eq_nil_iff.1 hext.symm).2
       simp-implicitDefEqProofs[hb0,wO,wC,vaC,h00]
       rw[h00] at fin
       exact fin _ ⟨[],(aO fns k b l w).count,(aO fns k b l w).code⟩ (.inl rfl) (by simp)
      |false=>
       have hle:w.vs.length<=(aO fns k b l w).vs.length:=by omega
       simp-implicitDefEqProofs[hb0,wO,wC,vaC,hle]
       exact fin _ ⟨w.vs,(aO fns k b l w).count,(aO fns k b l w).code⟩ (.inl rfl) (by simp)
     ·have hwe:ve fns k b l w=aO fns k b l w:=if_neg hb0
      have hb0':b=0:=by omega
      subst hb0'
      rw[hwe]
      simp-implicitDefEqProofs[]
      exact fin _ _ (.inr rfl) (by simp)
    ·simp-implicitDefEqProofs[]
     refine⟨nf,_,rfl,rfl,?_,rfl⟩
     intro hnf
     have h0:=hn hnf
     unfold ve
     split
     ·rw[h0] at hext;exact(List.append_eq_nil_iff.1 hext.symm).2
     ·exact h0
end
end Go.Proofs.YtokiapglmedipaaGreatDoor
