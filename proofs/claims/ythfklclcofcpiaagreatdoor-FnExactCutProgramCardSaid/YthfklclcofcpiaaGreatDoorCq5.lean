/-
  Contracts and lemmas that the card needs, part 5.
-/
import Derived.Test.YthfklclcofcpiaaGreatDoorCq4
import Derived.Laws.RangeAny
import Derived.Laws.RangeString
namespace Go.Proofs.YthfklclcofcpiaaGreatDoor
open Go Go.Aw
set_option maxRecDepth 100000
set_option maxHeartbeats 4000000
section
theorem al{α:Type}{xs:List α}{i:Nat}(h:i<xs.length):xs.take (i+1)=xs.take i++[xs[i]]:=by
 rw[List.take_add_one,Qd h];rfl
def aB(l:List (List UInt8)):PV:= .lst 1 (l.map λw=>[.str w])
def Pv(l:List (List UInt8)):List (List AV):=l.map λw=>[.p (.str w)]
def mI(l:List (List UInt8)):AO:= .row 1 (l.map λn=>[.p (.str n)])
theorem yS(l:List (List UInt8)):∀x∈Pv l,aj 0 x:=by
 intro x hx;obtain⟨m,_,rfl⟩:=Qx.1 hx;simp[aj,below]
theorem rY{l:List (List UInt8)}{id:Nat}{h:List AO}(e:h[id]?=some (mI l)):View h (.sl id 1 0 l.length) (aB l):=by
 have:=ib (h:=h) (id:=id) (sz:=1) (n:=l.length) (ls:=l.map λn=>[.str n]) (by rw[e,mI];simp) (by simp) (λx hx=>by obtain⟨b,_,rfl⟩:=Qx.1 hx;rfl)
 exact this
end
section
def dc(c:UInt8):Bool:=decide (97<=c.toNat)&&decide (c.toNat<=122)
def keyW:List (List UInt8):=[[102,110],[108,101,116],[115,97,121],[112,117,116],[105,102],[101,108,115,101],[108,111,111,112],[98,97,99,107],[100,111]]
def aA(s:List UInt8):Bool:=s.all dc&&decide (0<s.length)&&decide (s.length<=4)&& !keyW.contains s
def uW:List UInt8:=[40,41,123,125,59,44,43,45,42,47,37,60,61,38,33,64]
def pR(s:List UInt8)(c:Int):Int:=match s.findIdx? (λx=>(x.toNat:Int)==c) with|some i=>i|none=> -1
def Cp(c:Int):Int:=if 97<=c/\c<=122 then 1 else if 48<=c/\c<=57 then 2 else if 0<=pR uW c then 3 else if c=32\/c=10 then 4 else 0
theorem KX(x:UInt8):(Cp (x.toNat:Int)=1)↔dc x=true:=by
 have h:(97<=(x.toNat:Int)/\(x.toNat:Int)<=122)↔dc x=true:=by simp[dc];omega
 unfold Cp
 constructor
 ·intro e
  split at e
  ·rename_i h1;exact h.1 h1
  ·repeat' split at e
   all_goals omega
 ·intro e;rw[if_pos (h.2 e)]
def Ao(s:List UInt8):Int:=match s.findIdx? (λx=> !dc x) with|some i=>i|none=> -1
theorem GL(s:List UInt8):decide (Ao s<0)=s.all dc:=by
 unfold Ao
 cases h:s.findIdx? (λx=> !dc x) with
 |none=>
  rw[QQ] at h
  have:s.all dc=true:=Qh.2 λx hx=>by have:=h x hx;simpa using this
  simp[this]
 |some i=>
  rw[Qy] at h
  obtain⟨h1,h2,_⟩:=h
  have:s.all dc=false:=List.all_eq_false.2 ⟨_,Qj h1,by simpa using h2⟩
  rw[this];simp
def idxS(l:List (List UInt8))(s:List UInt8):Int:=match l.findIdx? (λw=>w==s) with|some i=>i|none=> -1
theorem Ic(l:List (List UInt8))(s:List UInt8):decide (0<=idxS l s)=l.contains s:=by
 unfold idxS
 cases h:l.findIdx? (λw=>w==s) with
 |none=>
  rw[QQ] at h
  have:l.contains s=false:=by
   cases hc:l.contains s with
   |false=>rfl
   |true=>
    have hm:s∈l:=by simpa using hc
    have:=h s hm
    simp at this
  rw[this];simp
 |some i=>
  rw[Qy] at h
  obtain⟨h1,h2,_⟩:=h
  have:l.contains s=true:=by
   simp only[beq_iff_eq] at h2
   rw[List.contains_iff_mem,←h2];exact Qj h1
  rw[this];simp
variable (G:aq)
theorem sE(s:List UInt8)(c:Int)(hb:s.length<=1048576):VF Tryz.prog G jA [.p (.str s),.p (.int .u8 c)] (.p (.int .i64 (pR s c))):=by
 refine AC.go uu ?_
 simp-implicitDefEqProofs[no]
 refine an (λi:Nat=>ag 18 [(0,.p (.str s)),(1,.p (.int .u8 c)),(5,.p (.int .i64 i))]) (λ_=>[]) (λi=>i<=s.length/\∀x∈s.take i,(x.toNat:Int)≠c) (λi=>s.length-i) 0 (by simp) ?_ ?_
 ·exact aE rfl (by simp[below])
 ·intro i ⟨hi,hn⟩
  simp-implicitDefEqProofs[]
  refine aQ (λh1=>?_) (λh1=>?_)
  ·simp at h1
   have hg:=Qd h1
   by_cases he:(s[i].toNat:Int)=c
   ·have hf:pR s c=i:=by
     have:s.findIdx? (λx=>(x.toNat:Int)==c)=some i:=by
      rw[Qy]
      exact⟨h1,by simpa using he,λj hj=>by have:=hn s[j] (List.mem_take_iff_getElem.2 ⟨j,by omega,rfl⟩);simpa using this⟩
     rw[pR,this]
    simp-implicitDefEqProofs[hg,he,hf]
   ·simp-implicitDefEqProofs[hg,he]
    refine⟨i+1,⟨h1,λp hp=>?_⟩,by omega,aE rfl ?_⟩
    ·rw[al h1] at hp
     rcases Qn.1 hp with hp|hp
     ·exact hn p hp
     ·rw[Qt.1 hp];exact he
    ·simp[below,w1 (i:=i) (by omega)]
  ·simp at h1
   rw[Qk h1] at hn
   have hf:pR s c= -1:=by
    have:s.findIdx? (λx=>(x.toNat:Int)==c)=none:=by
     rw[QQ];intro x hx;simpa using hn x hx
    rw[pR,this]
   simp-implicitDefEqProofs[hf]
theorem Gm(c:Int):VF Tryz.prog G iV [.p (.int .u8 c)] (.p (.int .i64 (Cp c))):=by
 refine AC.go vT ?_
 simp-implicitDefEqProofs[mK]
 unfold Cp
 by_cases h1:97<=c
 ·by_cases h2:c<=122
  ·simp-implicitDefEqProofs[h1,h2]
  ·have h3:¬c<=57:=by omega
   have h4:¬c=32:=by omega
   have h5:¬c=10:=by omega
   have h6:48<=c:=by omega
   simp-implicitDefEqProofs[h1,h2,h3,h6]
   refine(sE G uW c (by decide)).use ?_
   generalize pR uW c=w
   by_cases hf:0<=w
   ·simp-implicitDefEqProofs[hf]
   ·simp-implicitDefEqProofs[hf,h4,h5]
 ·simp-implicitDefEqProofs[h1]
  by_cases h2:48<=c
  ·by_cases h3:c<=57
   ·simp-implicitDefEqProofs[h2,h3]
   ·have h4:¬c=32:=by omega
    have h5:¬c=10:=by omega
    simp-implicitDefEqProofs[h2,h3]
    refine(sE G uW c (by decide)).use ?_
    generalize pR uW c=w
    by_cases hf:0<=w
    ·simp-implicitDefEqProofs[hf]
    ·simp-implicitDefEqProofs[hf,h4,h5]
  ·simp-implicitDefEqProofs[h2]
   refine(sE G uW c (by decide)).use ?_
   generalize pR uW c=w
   by_cases hf:0<=w
   ·simp-implicitDefEqProofs[hf]
   ·by_cases h4:c=32
    ·simp-implicitDefEqProofs[hf,h4]
    ·by_cases h5:c=10
     ·simp-implicitDefEqProofs[hf,h4,h5]
     ·simp-implicitDefEqProofs[hf,h4,h5]
theorem Ld(s:List UInt8)(hb:s.length<=140737488355328):VF Tryz.prog G lw [.p (.str s),.p (.int .i64 1)] (.p (.bool (s.all dc&&decide (0<s.length)))):=by
 refine AC.go zY ?_
 simp-implicitDefEqProofs[rj]
 refine an (λi:Nat=>ag 21 [(0,.p (.str s)),(1,.p (.int .i64 1)),(5,.p (.int .i64 i))]) (λ_=>[]) (λi=>i<=s.length/\∀x∈s.take i,dc x=true) (λi=>s.length-i) 0 (by simp) ?_ ?_
 ·exact aE rfl (by simp[below])
 ·intro i ⟨hi,hn⟩
  simp-implicitDefEqProofs[]
  refine aQ (λh1=>?_) (λh1=>?_)
  ·simp at h1
   have hg:=Qd h1
   simp-implicitDefEqProofs[hg]
   refine(Gm G _).use ?_
   have hcl:=KX s[i]
   by_cases he:dc s[i]=true
   ·have hc:=hcl.2 he
    simp-implicitDefEqProofs[hc]
    refine⟨i+1,⟨h1,λp hp=>?_⟩,by omega,aE rfl ?_⟩
    ·rw[al h1] at hp
     rcases Qn.1 hp with hp|hp
     ·exact hn p hp
     ·rw[Qt.1 hp];exact he
    ·simp[below,w1 (i:=i) (by omega)]
   ·have hc:¬Cp (s[i].toNat:Int)=1:=λe=>he (hcl.1 e)
    have ha:s.all dc=false:=List.all_eq_false.2 ⟨_,Qj h1,by simpa using he⟩
    simp-implicitDefEqProofs[hc,ha]
  ·simp at h1
   rw[Qk h1] at hn
   have ha:s.all dc=true:=Qh.2 hn
   simp-implicitDefEqProofs[ha]
theorem Dl:VF Tryz.prog G fp [] (.p (aB keyW)):=by
 have key:AC Tryz.prog G fp [] [] λx h=>x= .ret (.sl 0 1 0 9)/\h=[.row 1 (keyW.map λw=>[.p (.str w)])]:=by
  refine AC.go tH ?_
  simp-implicitDefEqProofs[lW,keyW]
 exact AC.freeze key (.one (ib (ls:=keyW.map λw=>[.str w]) (by simp) (by simp[keyW]) (by simp)) .nil)
theorem JP(s:List UInt8):VF Tryz.prog G lG [.p (.str s)] (.p (.bool (keyW.contains s))):=by
 refine AC.go As ?_
 have hsl:aB keyW= .lst 1 (keyW.map λw=>[.str w]):=rfl
 have hkl:keyW.length=9:=rfl
 simp-implicitDefEqProofs[pJ]
 refine(Dl G).use ?_
 simp-implicitDefEqProofs[]
 refine an (λi:Nat=>ag 18 [(0,.p (.str s)),(3,.p (aB keyW)),(4,.p (.int .i64 i))]) (λ_=>[]) (λi=>i<=keyW.length/\∀w∈keyW.take i,w≠s) (λi=>keyW.length-i) 0 (by simp) ?_ ?_
 ·exact aE rfl (by simp[below,aB])
 ·intro i ⟨hi,hn⟩
  generalize keyW=L at*
  simp-implicitDefEqProofs[hsl]
  refine aQ (λh1=>?_) (λh1=>?_)
  ·simp at h1
   have hg:=Qd h1
   by_cases he:L[i]=s
   ·have hm:s∈L:=by rw[←he];exact Qj h1
    simp-implicitDefEqProofs[hg,he,hm]
   ·simp-implicitDefEqProofs[hg,he]
    refine⟨i+1,⟨h1,λp hp=>?_⟩,by omega,aE rfl ?_⟩
    ·rw[al h1] at hp
     rcases Qn.1 hp with hp|hp
     ·exact hn p hp
     ·rw[Qt.1 hp];exact he
    ·simp[below,w1 (i:=i) (by omega)]
  ·simp at h1
   rw[Qk h1] at hn
   have hm:¬s∈L:=λhm=>hn s hm rfl
   simp-implicitDefEqProofs[hm]
theorem rM(s:List UInt8)(hb:s.length<=140737488355328):VF Tryz.prog G bY [.p (.str s)] (.p (.bool (aA s))):=by
 refine AC.go yD ?_
 simp-implicitDefEqProofs[oF]
 refine(Ld G s hb).use ?_
 cases h1:(s.all dc&&decide (0<s.length)) with
 |false=>
  have hi:aA s=false:=by rw[aA,h1];rfl
  simp-implicitDefEqProofs[hi]
 |true=>
  by_cases h4:s.length<=4
  ·have h4i:(s.length:Int)<=4:=by omega
   have hi:aA s= !keyW.contains s:=by rw[aA,h1];simp[h4]
   simp-implicitDefEqProofs[h4i]
   refine(JP G s).use ?_
   rw[hi]
   simp-implicitDefEqProofs[]
  ·have h4i:¬(s.length:Int)<=4:=by omega
   have hi:aA s=false:=by rw[aA,h1];simp[h4]
   simp-implicitDefEqProofs[h4i,hi]
end
section
inductive Ex where
 |mk (op n:Int) (name:List UInt8) (kids:List Ex)
inductive Sm where
 |mk (op:Int) (name:List UInt8) (args:List Ex) (body els:List Sm)
structure Fd where (name:List UInt8) (params:List (List UInt8)) (body:List Sm)
def Ex.op:Ex->Int| .mk o _ _ _=>o
def Ex.n:Ex->Int| .mk _ n _ _=>n
def Ex.name:Ex->List UInt8| .mk _ _ s _=>s
def Ex.kids:Ex->List Ex| .mk _ _ _ k=>k
def Sm.op:Sm->Int| .mk o _ _ _ _=>o
def Sm.name:Sm->List UInt8| .mk _ s _ _ _=>s
def Sm.args:Sm->List Ex| .mk _ _ a _ _=>a
def Sm.body:Sm->List Sm| .mk _ _ _ b _=>b
def Sm.els:Sm->List Sm| .mk _ _ _ _ e=>e
mutual
def Ex.cs:Ex->List PV
 | .mk o n s k=>[.int .i64 o,.int .i64 n,.str s,.lst 4 (GM k)]
def GM:List Ex->List (List PV)
 |[]=>[]
 |e::r=>e.cs::GM r
end
mutual
def Sm.cs:Sm->List PV
 | .mk o s a b e=>[.int .i64 o,.str s,.lst 4 (GM a),.lst 5 (Ib b),.lst 5 (Ib e)]
def Ib:List Sm->List (List PV)
 |[]=>[]
 |s::r=>s.cs::Ib r
end
theorem uw:∀l:List Ex,GM l=l.map Ex.cs
 |[]=>rfl
 |e::r=>by rw[GM,uw r];rfl
theorem uG:∀l:List Sm,Ib l=l.map Sm.cs
 |[]=>rfl
 |e::r=>by rw[Ib,uG r];rfl
def exL(l:List Ex):PV:= .lst 4 (l.map Ex.cs)
def smL(l:List Sm):PV:= .lst 5 (l.map Sm.cs)
theorem Ex.cs_eq(e:Ex):e.cs=[.int .i64 e.op,.int .i64 e.n,.str e.name,exL e.kids]:=by
 cases e;rw[Ex.cs,uw];rfl
theorem Sm.cs_eq(s:Sm):s.cs=[.int .i64 s.op,.str s.name,exL s.args,smL s.body,smL s.els]:=by
 cases s;rw[Sm.cs,uw,uG,uG];rfl
@[simp] theorem Ex.cs_len(e:Ex):e.cs.length=4:=by cases e;rfl
@[simp] theorem Ex.cs_take(e:Ex):List.take 4 (e.cs.map AV.p)=e.cs.map AV.p:=by cases e;rfl
@[simp] theorem Sm.cs_len(s:Sm):s.cs.length=5:=by cases s;rfl
@[simp] theorem Sm.cs_take(s:Sm):List.take 5 (s.cs.map AV.p)=s.cs.map AV.p:=by cases s;rfl
def Fd.cs(f:Fd):List PV:=[.str f.name,aB f.params,smL f.body]
@[simp] theorem Fd.cs_len(f:Fd):f.cs.length=3:=rfl
@[simp] theorem Fd.cs_take(f:Fd):List.take 3 (f.cs.map AV.p)=f.cs.map AV.p:=rfl
def fdL(l:List Fd):PV:= .lst 3 (l.map Fd.cs)
mutual
def Ex.sz:Ex->Nat
 | .mk _ _ s k=>1+s.length+bZ k
def bZ:List Ex->Nat
 |[]=>0
 |e::r=>e.sz+bZ r
end
mutual
def Sm.sz:Sm->Nat
 | .mk _ s a b e=>1+s.length+bZ a+aG b+aG e
def aG:List Sm->Nat
 |[]=>0
 |s::r=>s.sz+aG r
end
def Fd.sz(f:Fd):Nat:=1+f.name.length+(f.params.length+(f.params.map List.length).sum)+aG f.body
def bl(l:List Fd):Nat:=(l.map Fd.sz).sum
theorem Ex.sz_eq(e:Ex):e.sz=1+e.name.length+bZ e.kids:=by cases e;rfl
theorem Sm.sz_eq(s:Sm):s.sz=1+s.name.length+bZ s.args+aG s.body+aG s.els:=by cases s;rfl
theorem tn:∀a b:List Ex,bZ (a++b)=bZ a+bZ b
 |[],b=>by simp[bZ]
 |e::r,b=>by simp only[QO,bZ,tn r b];omega
theorem tt:∀a b:List Sm,aG (a++b)=aG a+aG b
 |[],b=>by simp[aG]
 |e::r,b=>by simp only[QO,aG,tt r b];omega
theorem aF:∀{l:List Ex} {e:Ex},e∈l->e.sz<=bZ l
 |x::r,e,h=>by
  simp only[bZ]
  rcases QH.1 h with rfl|h
  ·omega
  ·have:=aF h;omega
theorem aM:∀{l:List Sm} {e:Sm},e∈l->e.sz<=aG l
 |x::r,e,h=>by
  simp only[aG]
  rcases QH.1 h with rfl|h
  ·omega
  ·have:=aM h;omega
theorem aS:∀l:List Ex,l.length<=bZ l
 |[]=>Qi _
 |e::r=>by have:=aS r;have:=e.sz_eq;simp only[bZ,Qw];omega
theorem aZ:∀l:List Sm,l.length<=aG l
 |[]=>Qi _
 |e::r=>by have:=aZ r;have:=e.sz_eq;simp only[aG,Qw];omega
mutual
def Ex.parts:Ex->Nat
 | .mk _ _ _ k=>1+aK k
def aK:List Ex->Nat
 |[]=>0
 |e::r=>e.parts+aK r
end
theorem Ex.parts_eq(e:Ex):e.parts=1+aK e.kids:=by cases e;rfl
theorem dT:∀a b:List Ex,aK (a++b)=aK a+aK b
 |[],b=>by simp[aK]
 |e::r,b=>by simp only[QO,aK,dT r b];omega
mutual
theorem Ex.parts_le:∀e:Ex,e.parts<=e.sz
 | .mk _ _ s k=>by have:=Aa k;simp only[Ex.parts,Ex.sz];omega
theorem Aa:∀l:List Ex,aK l<=bZ l
 |[]=>Qi _
 |e::r=>by have:=e.parts_le;have:=Aa r;simp only[aK,bZ];omega
end
mutual
def Sm.cnt:Sm->Nat
 | .mk _ _ _ b e=>1+dy b+dy e
def dy:List Sm->Nat
 |[]=>0
 |s::r=>s.cnt+dy r
end
theorem Sm.cnt_eq(s:Sm):s.cnt=1+dy s.body+dy s.els:=by cases s;rfl
theorem mf:∀a b:List Sm,dy (a++b)=dy a+dy b
 |[],b=>by simp[dy]
 |e::r,b=>by simp only[QO,dy,mf r b];omega
mutual
theorem Sm.cnt_le:∀s:Sm,s.cnt<=s.sz
 | .mk _ s a b e=>by have:=nv b;have:=nv e;simp only[Sm.cnt,Sm.sz];omega
theorem nv:∀l:List Sm,dy l<=aG l
 |[]=>Qi _
 |e::r=>by have:=e.cnt_le;have:=nv r;simp only[dy,aG];omega
end
def inR(n lo hi:Int):Bool:=decide (lo<=n)&&decide (n<=hi)
def loK(op:Int):Nat:=if op=1\/op=2 then 0 else if op=11\/op=12 then 1 else if op=13 then 0 else 2
def hiK(op:Int):Nat:=if op=1\/op=2 then 0 else if op=11\/op=12 then 1 else if op=13 then 3 else 2
def BN(op:Int):Bool:=decide (op=2)||decide (op=13)
def il(e:Ex):Bool:=inR e.op 1 13&&inR e.kids.length (loK e.op) (hiK e.op)&&(BN e.op==aA e.name)&&(BN e.op||decide (e.name=[]))&&inR e.n 0 255&&(decide (e.op=1)||decide (e.n=0))
def aR:Nat->Ex->Bool
 |0,_=>false
 |d+1,e=>il e&&e.kids.all (aR d)
def lg(e:Ex):Bool:=aR 6 e&&decide (e.parts<=30)
def jY(op:Int):Nat:=if op=4 then 2 else 1
def cx(op:Int):Bool:=decide (op=1)||decide (op=2)
def ig(s:Sm):Bool:=inR s.op 1 8&&decide (s.args.length=jY s.op)&&(cx s.op==aA s.name)&&(cx s.op||decide (s.name=[]))&&s.args.all lg&&
 (!decide (s.op=8)||(match s.args with|a::_=>decide (a.op=13)|[]=>false))&&(s.els.isEmpty||decide (s.op=5))&&(s.body.isEmpty||decide (s.op=5)||decide (s.op=6))
def ay:Nat->Sm->Bool
 |0,_=>false
 |d+1,s=>ig s&&s.body.all (ay d)&&s.els.all (ay d)
def jH(f:Fd):Bool:=f.params.all aA&&aA f.name&&decide (f.params.length<=3)&&f.body.all (ay 4)
def lv(l:List Fd):Nat:=(l.map λf=>dy f.body).sum
def cf(l:List Fd):Bool:=inR l.length 1 4&&l.all jH&&decide (lv l<=40)
end
section
structure LV where (name:List UInt8) (num block:Nat)
structure WS where (vs:List LV) (count:Nat) (code:Int)
def fl(c k:Int):Int:=if c=0 then k else c
theorem Et{c k:Int}(h:c≠0):fl c k=c:=if_neg h
def lkV(vs:List LV)(s:List UInt8):Option LV:=vs.find? λv=>decide (v.name=s)
def dq(fns:List Fd)(s:List UInt8):Option Nat:=fns.findIdx? λf=>decide (f.name=s)
def AZ(fns:List Fd)(j:Nat):Nat:=match fns[j]? with|some f=>f.params.length|none=>0
def tF(vs:List LV)(s:List UInt8)(c:Int):Int:=match lkV vs s with|none=>fl c 3|some _=>c
def pL(fns:List Fd)(k:Nat)(s:List UInt8)(n:Nat)(c:Int):Int:=
 match dq fns s with|none=>fl c 4|some j=>if k<=j then fl c 4 else if AZ fns j=n then c else fl c 5
def oQ(fns:List Fd)(k:Nat)(vs:List LV)(o:Int)(s:List UInt8)(n:Nat)(c:Int):Int:=
 if o=2 then tF vs s c else if o=13 then pL fns k s n c else c
mutual
def Cs(fns:List Fd)(k:Nat)(vs:List LV):Ex->Int->Int
 | .mk o _ s ks,c=>dw fns k vs ks (oQ fns k vs o s ks.length c)
def dw(fns:List Fd)(k:Nat)(vs:List LV):List Ex->Int->Int
 |[],c=>c
 |e::r,c=>dw fns k vs r (Cs fns k vs e c)
end
def vnm(n:Nat):List UInt8:=[118,UInt8.ofNat (97+n%26)]
def vC(vs:List LV)(s:List UInt8):List UInt8:=match lkV vs s with|none=>s|some v=>vnm v.num
mutual
def rnE(vs:List LV):Ex->Ex
 | .mk o n s ks=> .mk o n (if o=2 then vC vs s else s) (jz vs ks)
def jz(vs:List LV):List Ex->List Ex
 |[]=>[]
 |e::r=>rnE vs e::jz vs r
end
def yk(vs:List LV)(s:List UInt8)(b:Nat)(c:Int):Int:=match lkV vs s with|none=>c|some v=>if v.block=b then fl c 2 else c
def kH(w:WS)(s:List UInt8)(b:Nat):WS:=⟨⟨s,w.count,b⟩::w.vs,w.count+1,yk w.vs s b w.code⟩
def opW(o:Int)(s:List UInt8)(b:Nat)(w:WS):WS:=if o=1 then kH w s b else if o=2 then⟨w.vs,w.count,tF w.vs s w.code⟩ else w
def opN(o:Int)(s:List UInt8)(w:WS):List UInt8:=if o=1 then vnm w.count else if o=2 then vC w.vs s else s
def WS.back(w:WS)(vs:List LV):WS:=⟨vs,w.count,w.code⟩
mutual
def stW(fns:List Fd)(k b:Nat):Sm->WS->WS
 | .mk o s a bd el,w=>
   let w2:=opW o s b ⟨w.vs,w.count,dw fns k w.vs a w.code⟩
   let w3:=(cC fns k (b+1) bd w2).back w2.vs
   (cC fns k (b+1) el w3).back w2.vs
def cC(fns:List Fd)(k b:Nat):List Sm->WS->WS
 |[],w=>w
 |s::r,w=>cC fns k b r (stW fns k b s w)
end
def cy(ps:List (List UInt8))(w:WS):WS:=ps.foldl (λw s=>kH w s 0) w
def fnW(fns:List Fd)(k:Nat)(f:Fd):WS:=cC fns k 0 f.body (cy f.params ⟨[],0,if dq fns f.name=some k then 0 else 2⟩)
def gx(fns:List Fd):Nat->List Fd->Int
 |_,[]=>0
 |k,f::r=>if(fnW fns k f).code=0 then gx fns (k+1) r else(fnW fns k f).code
def aP(fns:List Fd):Int:=if cf fns then gx fns 0 fns else 1
abbrev Scp:=List (List UInt8 × Nat)
def gt(m:Scp)(s:List UInt8):Option Nat:=(m.find? λx=>decide (x.1=s)).map (·.2)
def iM:Scp->List UInt8->Nat->Scp
 |[],s,n=>[(s,n)]
 |x::r,s,n=>if x.1=s then(s,n)::r else x::iM r s n
def fL:List Scp->List UInt8->Option Nat
 |[],_=>none
 |m::r,s=>match gt m s with|some n=>some n|none=>fL r s
def fu(fns:List Fd)(k:Nat)(ch:List Scp)(c:Int)(e:Ex):Int:=
 if e.op=2 then(if(fL ch e.name).isSome then c else fl c 3)
 else if e.op=13 then(match dq (fns.take k) e.name with|none=>fl c 4|some j=>if AZ fns j=e.kids.length then c else fl c 5)
 else c
mutual
def Ex.pre:Ex->List Ex
 | .mk o n s ks=> .mk o n s ks::gu ks
def gu:List Ex->List Ex
 |[]=>[]
 |e::r=>e.pre++gu r
end
def DK(fns:List Fd)(k:Nat)(ch:List Scp)(l:List Ex)(c:Int):Int:=(gu l).foldl (fu fns k ch) c
def opS(o:Int)(s:List UInt8)(m:Scp)(n:Nat):Scp:=if o=1 then iM m s n else m
def opC(o:Int)(s:List UInt8)(m:Scp)(up:List Scp)(c:Int):Int:=
 if o=1 then(if(gt m s).isSome then fl c 2 else c) else if o=2 then(if(fL (m::up) s).isSome then c else fl c 3) else c
mutual
def icS(fns:List Fd)(k:Nat):Sm->Scp->List Scp->Int->Scp × Int
 | .mk o s a bd el,m,up,c=>
   let m2:=opS o s m 0
   let c2:=opC o s m up (DK fns k (m::up) a c)
   (m2,if o=5\/o=6 then(ga fns k el [] (m2::up) (ga fns k bd [] (m2::up) c2).2).2 else c2)
def ga(fns:List Fd)(k:Nat):List Sm->Scp->List Scp->Int->Scp × Int
 |[],m,_,c=>(m,c)
 |s::r,m,up,c=>ga fns k r (icS fns k s m up c).1 up (icS fns k s m up c).2
end
def kr(ps:List (List UInt8))(m:Scp)(c:Int):Scp × Int:=ps.foldl (λx s=>(iM x.1 s 0,if(gt x.1 s).isSome then fl x.2 2 else x.2)) (m,c)
def icF(fns:List Fd)(k:Nat)(f:Fd)(c:Int):Int:=
 let c1:=if(match dq fns f.name with|some j=>decide (j<k)|none=>true) then fl c 2 else c
 let x:=kr f.params [] c1
 (ga fns k f.body x.1 [] x.2).2
def iU(fns:List Fd):Nat->List Fd->Int->Int
 |_,[],c=>c
 |k,f::r,c=>iU fns (k+1) r (icF fns k f c)
def SR(g:LV->Nat):Nat->List LV->List Scp->Prop
 |_,_,[]=>False
 |b,vs,m::up=>∃v1 v2,vs=v1++v2/\(∀v∈v1,v.block=b)/\(∀s,(lkV v1 s).map g=gt m s)/\match b with
  |0=>v2=[]/\up=[]
  |b+1=>SR g b v2 up
theorem EB(a b:List LV)(s:List UInt8):lkV (a++b) s=match lkV a s with|some v=>some v|none=>lkV b s:=by
 simp only[lkV,List.find?_append]
 cases List.find? (λv=>decide (v.name=s)) a<;>rfl
variable {g:LV->Nat}
theorem SR.blk:∀{b:Nat} {vs:List LV} {ch:List Scp},SR g b vs ch->∀v∈vs,v.block<=b
 |b,_,[],h,v,hv=>by cases b<;>exact False.elim h
 |0,vs,m::up,⟨v1,v2,e,h1,_,h3,_⟩,v,hv=>by
  subst e;subst h3
  rw[QK] at hv
  exact Nat.le_of_eq (h1 v hv)
 |b+1,vs,m::up,⟨v1,v2,e,h1,_,h3⟩,v,hv=>by
  subst e
  rcases Qn.1 hv with h|h
  ·exact Nat.le_of_eq (h1 v h)
  ·exact Nat.le_succ_of_le (SR.blk h3 v h)
theorem SR.fnd:∀{b:Nat} {vs:List LV} {ch:List Scp},SR g b vs ch->∀s,(lkV vs s).map g=fL ch s
 |b,_,[],h,s=>by cases b<;>exact False.elim h
 |0,vs,m::up,⟨v1,v2,e,h1,h2,h3,h4⟩,s=>by
  subst e;subst h3;subst h4
  rw[QK,h2,fL]
  cases gt m s<;>rfl
 |b+1,vs,m::up,⟨v1,v2,e,h1,h2,h3⟩,s=>by
  subst e
  have ih:=SR.fnd h3 s
  have h2:=h2 s
  rw[EB,fL,←h2]
  cases e1:lkV v1 s with
  |some v=>rfl
  |none=>exact ih
theorem SR.is{b:Nat}{vs:List LV}{ch:List Scp}(h:SR g b vs ch)(s:List UInt8):(lkV vs s).isSome=(fL ch s).isSome:=by rw[←h.fnd s,Option.isSome_map]
theorem EK{vs:List LV}{s:List UInt8}{v:LV}(h:lkV vs s=some v):v∈vs:=List.mem_of_find?_eq_some h
theorem SR.put:∀{b:Nat} {vs:List LV} {m:Scp} {up:List Scp},SR g b vs (m::up)->∀(s:List UInt8) (c:Int),yk vs s b c=if(gt m s).isSome then fl c 2 else c:=by
 intro b vs m up h s c
 have key:∀v1 v2:List LV,(∀v∈v1,v.block=b)->(lkV v1 s).map g=gt m s->(∀v∈v2,v.block≠b)->yk (v1++v2) s b c=if(gt m s).isSome then fl c 2 else c:=by
  intro v1 v2 h1 h2 h3
  rw[←h2,yk,EB]
  cases e1:lkV v1 s with
  |some v=>simp[h1 v (EK e1)]
  |none=>
   cases e2:lkV v2 s with
   |none=>rfl
   |some v=>simp[h3 v (EK e2)]
 match b,h with
 |0,⟨v1,v2,e,h1,h2,h3,_⟩=>subst e;subst h3;exact key v1 [] h1 (h2 s) (λv hv=>by simp at hv)
 |b+1,⟨v1,v2,e,h1,h2,h3⟩=>subst e;exact key v1 v2 h1 (h2 s) (λv hv e=>by have:=h3.blk v hv;omega)
theorem vU:∀(m:Scp) (s:List UInt8) (n:Nat) (t:List UInt8),gt (iM m s n) t=if s=t then some n else gt m t
 |[],s,n,t=>by
  by_cases h:s=t
  ·simp[iM,gt,h]
  ·simp[iM,gt,h]
 |x::r,s,n,t=>by
  have ih:=vU r s n t
  simp only[gt] at ih
  by_cases hx:x.1=s
  ·by_cases h:s=t
   ·simp[iM,gt,hx,h]
   ·have:¬x.1=t:=by rw[hx];exact h
    simp[iM,gt,hx,h]
  ·by_cases ht:x.1=t
   ·have:¬s=t:=λe=>hx (ht.trans e.symm)
    rw[iM,if_neg hx,if_neg this];simp[gt,ht]
   ·simp only[iM,gt,if_neg hx,List.find?_cons,ht,decide_false]
    exact ih
theorem SR.add{b:Nat}{vs:List LV}{m:Scp}{up:List Scp}(h:SR g b vs (m::up))(s:List UInt8)(n k:Nat)(hg:g ⟨s,n,b⟩=k):SR g b (⟨s,n,b⟩::vs) (iM m s k::up):=by
 have key:∀v1:List LV,(∀s,(lkV v1 s).map g=gt m s)->∀t,(lkV (⟨s,n,b⟩::v1) t).map g=gt (iM m s k) t:=by
  intro v1 h2 t
  rw[vU]
  by_cases e:s=t
  ·simp[lkV,e,←hg]
  ·rw[if_neg e,←h2 t];simp[lkV,e]
 match b,h with
 |0,⟨v1,v2,e,h1,h2,h3⟩=>
  subst e
  refine⟨⟨s,n,0⟩::v1,v2,rfl,λv hv=>?_,key v1 h2,h3⟩
  rcases QH.1 hv with rfl|hv
  ·rfl
  ·exact h1 v hv
 |b+1,⟨v1,v2,e,h1,h2,h3⟩=>
  subst e
  refine⟨⟨s,n,b+1⟩::v1,v2,rfl,λv hv=>?_,key v1 h2,h3⟩
  rcases QH.1 hv with rfl|hv
  ·rfl
  ·exact h1 v hv
theorem SR.open{b:Nat}{vs:List LV}{ch:List Scp}(h:SR g b vs ch):SR g (b+1) vs ([]::ch):=⟨[],vs,rfl,λv hv=>by simp at hv,λs=>rfl,h⟩
theorem SR.base:SR g 0 [] [[]]:=⟨[],[],rfl,λv hv=>by simp at hv,λs=>rfl,rfl,rfl⟩
theorem At{α:Type}{p:α->Bool}{l:List α}{k:Nat}:(l.take k).findIdx? p=match l.findIdx? p with|some j=>if j<k then some j else none|none=>none:=by
 cases h:l.findIdx? p with
 |none=>
  rw[QQ] at h⊢
  exact λx hx=>h x (QU hx)
 |some j=>
  rw[Qy] at h
  obtain⟨h1,h2,h3⟩:=h
  simp only
  split
  ·rename_i hj
   rw[Qy]
   exact⟨by rw[QG];omega,by rw[List.getElem_take];exact h2,λi hi=>by rw[List.getElem_take];exact h3 i hi⟩
  ·rename_i hj
   rw[QQ]
   intro x hx
   obtain⟨i,hi,rfl⟩:=List.mem_take_iff_getElem.1 hx
   simpa using h3 i (by omega)
theorem IM(fns:List Fd)(k:Nat){vs:List LV}{ch:List Scp}(h:∀s,(lkV vs s).isSome=(fL ch s).isSome)(e:Ex)(c:Int):oQ fns k vs e.op e.name e.kids.length c=fu fns k ch c e:=by
 unfold oQ fu
 split
 ·rw[←h,tF];cases lkV vs e.name<;>rfl
 ·split
  ·rw[pL,dq,dq,At]
   cases List.findIdx? (λf=>decide (f.name=e.name)) fns with
   |none=>rfl
   |some j=>
    simp only
    by_cases hj:j<k
    ·rw[if_neg (by omega),if_pos hj]
    ·rw[if_pos (by omega),if_neg hj]
  ·rfl
mutual
theorem Kz(fns:List Fd)(k:Nat){vs:List LV}{ch:List Scp}(h:∀s,(lkV vs s).isSome=(fL ch s).isSome):∀(e:Ex) (c:Int),Cs fns k vs e c=e.pre.foldl (fu fns k ch) c
 | .mk o n s ks,c=>by
   rw[Cs,Ex.pre,List.foldl_cons,←vR fns k h ks,←IM fns k h];rfl
theorem vR(fns:List Fd)(k:Nat){vs:List LV}{ch:List Scp}(h:∀s,(lkV vs s).isSome=(fL ch s).isSome):∀(l:List Ex) (c:Int),dw fns k vs l c=(gu l).foldl (fu fns k ch) c
 |[],c=>rfl
 |e::r,c=>by rw[dw,gu,List.foldl_append,Kz fns k h e,vR fns k h r]
end
abbrev g0:LV->Nat:=λ_=>0
theorem My{b:Nat}{w:WS}{m:Scp}{up:List Scp}(h:SR g0 b w.vs (m::up))(o:Int)(s:List UInt8):SR g0 b (opW o s b w).vs (opS o s m 0::up)/\(opW o s b w).code=opC o s m up w.code:=by
 unfold opW opS opC
 by_cases h1:o=1
 ·simp only[h1,if_true]
  exact⟨h.add s _ 0 rfl,h.put s _⟩
 ·simp only[if_neg h1]
  split
  ·refine⟨h,?_⟩
   have:=h.is s
   simp only[tF]
   rw[←this]
   cases lkV w.vs s<;>rfl
  ·exact⟨h,rfl⟩
theorem DS{d:Nat}{o:Int}{s:List UInt8}{a:List Ex}{bd el:List Sm}(h:ay (d+1) (.mk o s a bd el)=true):bd.all (ay d)=true/\el.all (ay d)=true/\(¬(o=5\/o=6)->bd=[]/\el=[]):=by
 simp only[ay,ig,Sm.op,Sm.body,Sm.els,Qs,Bool.or_eq_true,decide_eq_true_eq,List.isEmpty_iff] at h
 refine⟨h.1.2,h.2,λhn=>⟨?_,?_⟩⟩
 ·rcases h.1.1.2 with(h|h)|h
  ·exact h
  ·exact absurd (.inl (of_decide_eq_true h)) hn
  ·exact absurd (.inr (of_decide_eq_true h)) hn
 ·rcases h.1.1.1.2 with h|h
  ·exact h
  ·exact absurd (.inl (of_decide_eq_true h)) hn
theorem yZ(w:WS)(vs:List LV):(w.back vs).code=w.code:=rfl
theorem LE(fns:List Fd)(k:Nat):∀(d b:Nat) (l:List Sm),l.all (ay d)=true->∀(w:WS) (m:Scp) (up:List Scp),SR g0 b w.vs (m::up)->
 SR g0 b (cC fns k b l w).vs ((ga fns k l m up w.code).1::up)/\(cC fns k b l w).code=(ga fns k l m up w.code).2:=by
 intro d
 induction d with
 |zero=>
  intro b l hl w m up h
  cases l with
  |nil=>exact⟨h,rfl⟩
  |cons s r=>simp[ay] at hl
 |succ d ih=>
  have bz:∀(b:Nat) (s:Sm),ay (d+1) s=true->∀(w:WS) (m:Scp) (up:List Scp),SR g0 b w.vs (m::up)->
   SR g0 b (stW fns k b s w).vs ((icS fns k s m up w.code).1::up)/\(stW fns k b s w).code=(icS fns k s m up w.code).2:=by
   intro b s hs w m up h
   obtain⟨o,n,a,bd,el⟩:=s
   obtain⟨f1,f2,f3⟩:=DS hs
   have hc:=vR fns k h.is a w.code
   obtain⟨g1,g2⟩:=My (w:=⟨w.vs,w.count,dw fns k w.vs a w.code⟩) h o n
   rw[stW,icS]
   simp only[hc] at g1 g2⊢
   generalize hw2:opW o n b ⟨w.vs,w.count,(gu a).foldl (fu fns k (m::up)) w.code⟩=w2 at*
   refine⟨g1,?_⟩
   rw[yZ]
   have g2':w2.code=opC o n m up (DK fns k (m::up) a w.code):=g2
   rw[←g2']
   by_cases ho:o=5\/o=6
   ·rw[if_pos ho]
    have k1:=ih (b+1) bd f1 w2 [] _ g1.open
    have k2:=ih (b+1) el f2 ((cC fns k (b+1) bd w2).back w2.vs) [] _ g1.open
    rw[k2.2,yZ,k1.2]
   ·obtain⟨rfl,rfl⟩:=f3 ho
    rw[if_neg ho]
    simp[cC,WS.back]
  intro b l
  induction l with
  |nil=>intro _ w m up h;exact⟨h,rfl⟩
  |cons s r ihl=>
   intro hl w m up h
   rw[List.all_cons,Qs] at hl
   obtain⟨k1,k2⟩:=bz b s hl.1 w m up h
   have:=ihl hl.2 _ _ up k1
   rw[cC,ga,←k2]
   exact this
theorem Ed:∀(ps:List (List UInt8)) (w:WS) (m:Scp),SR g0 0 w.vs [m]->SR g0 0 (cy ps w).vs [(kr ps m w.code).1]/\(cy ps w).code=(kr ps m w.code).2
 |[],w,m,h=>⟨h,rfl⟩
 |s::r,w,m,h=>by
  have hp:=h.put s w.code
  have:=Ed r (kH w s 0) (iM m s 0) (h.add s w.count 0 rfl)
  simp only[cy,kr,List.foldl_cons] at this⊢
  rw[←hp]
  exact this
theorem IQ{fns:List Fd}{k:Nat}{ch:List Scp}{c:Int}(h:c≠0)(e:Ex):fu fns k ch c e=c:=by
 unfold fu
 simp only[Et h]
 split
 ·split<;>rfl
 ·split
  ·split
   ·rfl
   ·split<;>rfl
  ·rfl
theorem zj{fns:List Fd}{k:Nat}{ch:List Scp}{c:Int}(h:c≠0):∀l:List Ex,l.foldl (fu fns k ch) c=c
 |[]=>rfl
 |e::r=>by rw[List.foldl_cons,IQ h,zj h r]
theorem Hs{o:Int}{s:List UInt8}{m:Scp}{up:List Scp}{c:Int}(h:c≠0):opC o s m up c=c:=by
 unfold opC
 simp only[Et h]
 split
 ·split<;>rfl
 ·split
  ·split<;>rfl
  ·rfl
mutual
theorem Iq(fns:List Fd)(k:Nat){c:Int}(h:c≠0):∀(s:Sm) (m:Scp) (up:List Scp),(icS fns k s m up c).2=c
 | .mk o s a bd el,m,up=>by
   rw[icS]
   simp only[DK,zj h,Hs h]
   rw[nJ fns k h bd,nJ fns k h el,ite_self]
theorem nJ(fns:List Fd)(k:Nat){c:Int}(h:c≠0):∀(l:List Sm) (m:Scp) (up:List Scp),(ga fns k l m up c).2=c
 |[],m,up=>rfl
 |s::r,m,up=>by rw[ga,Iq fns k h s m up,nJ fns k h r]
end
theorem zk{c:Int}(h:c≠0):∀(ps:List (List UInt8)) (m:Scp),(kr ps m c).2=c
 |[],m=>rfl
 |s::r,m=>by
  have:=zk h r (iM m s 0)
  simp only[kr,List.foldl_cons,Et h,ite_self] at this⊢
  exact this
theorem HE(fns:List Fd)(k:Nat)(f:Fd){c:Int}(h:c≠0):icF fns k f c=c:=by
 simp only[icF,Et h,ite_self]
 rw[zk h,nJ fns k h]
theorem uf(fns:List Fd){c:Int}(h:c≠0):∀(l:List Fd) (k:Nat),iU fns k l c=c
 |[],k=>rfl
 |f::r,k=>by rw[iU,HE fns k f h,uf fns h r]
theorem zm{fns:List Fd}{k:Nat}{f:Fd}(h:fns[k]?=some f):∃j,dq fns f.name=some j/\j<=k:=by
 cases e:dq fns f.name with
 |none=>
  rw[dq,QQ] at e
  have:=e f (Ql h)
  simp at this
 |some j=>
  refine⟨j,rfl,?_⟩
  rw[dq,Qy] at e
  obtain⟨h1,h2,h3⟩:=e
  rcases QR k j with hk|hk
  ·have:=h3 k hk
   obtain⟨a1,a2⟩:=Qf.1 h
   rw[a2] at this
   simp at this
  ·exact hk
theorem NN(fns:List Fd){k:Nat}{f:Fd}(hf:fns[k]?=some f)(hok:jH f=true):(fnW fns k f).code=icF fns k f 0:=by
 obtain⟨j,e1,e2⟩:=zm hf
 have hb:f.body.all (ay 4)=true:=by simp only[jH,Qs] at hok;exact hok.2
 have hc:(if dq fns f.name=some k then(0:Int) else 2)=if(match dq fns f.name with|some j=>decide (j<k)|none=>true) then fl 0 2 else 0:=by
  rw[e1]
  by_cases h:j=k
  ·subst h;simp
  ·have:j<k:=by omega
   simp[h,this,fl]
 obtain⟨p1,p2⟩:=Ed f.params ⟨[],0,if dq fns f.name=some k then(0:Int) else 2⟩ [] SR.base
 obtain⟨q1,q2⟩:=LE fns k 4 0 f.body hb _ _ [] p1
 rw[fnW,q2,p2]
 simp only[icF,←hc]
theorem GC(fns:List Fd):∀(l:List Fd) (k:Nat),(∀i,l[i]?=fns[k+i]?)->l.all jH=true->gx fns k l=iU fns k l 0
 |[],k,_,_=>rfl
 |f::r,k,hl,ha=>by
  rw[List.all_cons,Qs] at ha
  have h0:fns[k]?=some f:=by have:=hl 0;simpa using this.symm
  have hr:∀i,r[i]?=fns[k+1+i]?:=λi=>by have:=hl (i+1);rw[QW] at this;rw[this];congr 1;omega
  rw[gx,iU,NN fns h0 ha.1]
  split
  ·rename_i e;rw[e];exact GC fns r (k+1) hr ha.2
  ·rename_i e;rw[uf fns e]
theorem CR(fns:List Fd):aP fns=if cf fns then iU fns 0 fns 0 else 1:=by
 unfold aP
 split
 ·rename_i h
  simp only[cf,Qs] at h
  exact GC fns fns 0 (λi=>by rw[Rh]) h.1.2
 ·rfl
end
section
mutual
def rnS(fns:List Fd)(k b:Nat):Sm->WS->Sm
 | .mk o s a bd el,w=>
   let w2:=opW o s b ⟨w.vs,w.count,dw fns k w.vs a w.code⟩
   .mk o (opN o s w) (jz w.vs a) (gb fns k (b+1) bd w2) (gb fns k (b+1) el ((cC fns k (b+1) bd w2).back w2.vs))
def gb(fns:List Fd)(k b:Nat):List Sm->WS->List Sm
 |[],_=>[]
 |s::r,w=>rnS fns k b s w::gb fns k b r (stW fns k b s w)
end
def nO:List (List UInt8)->WS->List (List UInt8)
 |[],_=>[]
 |s::r,w=>vnm w.count::nO r (kH w s 0)
def rnF(fns:List Fd)(k:Nat)(f:Fd):Fd:=
 ⟨f.name,nO f.params ⟨[],0,if dq fns f.name=some k then 0 else 2⟩,gb fns k 0 f.body (cy f.params ⟨[],0,if dq fns f.name=some k then 0 else 2⟩)⟩
mutual
def EZ:Sm->Nat
 | .mk o _ _ bd el=>(if o=1 then 1 else 0)+oO bd+oO el
def oO:List Sm->Nat
 |[]=>0
 |s::r=>EZ s+oO r
end
theorem sw(o:Int)(s:List UInt8)(b:Nat)(w:WS):(opW o s b w).count=w.count+if o=1 then 1 else 0:=by
 unfold opW
 split
 ·rfl
 ·split<;>rfl
mutual
theorem zr(fns:List Fd)(k:Nat):∀(s:Sm) (b:Nat) (w:WS),(stW fns k b s w).count=w.count+EZ s
 | .mk o s a bd el,b,w=>by
   rw[stW,EZ]
   simp only[WS.back]
   rw[gy fns k el,gy fns k bd,sw];show w.count+_+_+_=_
   omega
theorem gy(fns:List Fd)(k:Nat):∀(l:List Sm) (b:Nat) (w:WS),(cC fns k b l w).count=w.count+oO l
 |[],b,w=>rfl
 |s::r,b,w=>by rw[cC,oO,gy fns k r,zr fns k s];omega
end
mutual
theorem Kh:∀s:Sm,EZ s<=s.cnt
 | .mk o s a bd el=>by
   have:=pI bd
   have:=pI el
   simp only[EZ,Sm.cnt]
   split<;>omega
theorem pI:∀l:List Sm,oO l<=dy l
 |[]=>Qi _
 |s::r=>by have:=Kh s;have:=pI r;simp only[oO,dy];omega
end
theorem tz:∀(ps:List (List UInt8)) (w:WS),(cy ps w).count=w.count+ps.length
 |[],w=>rfl
 |s::r,w=>by
  have:=tz r (kH w s 0)
  simp only[cy,List.foldl_cons,Qw] at this⊢
  rw[this];simp only[kH];omega
theorem KS(o:Int)(s:List UInt8)(b:Nat)(w:WS):∃e,(opW o s b w).vs=e++w.vs:=by
 unfold opW
 split
 ·exact⟨[_],rfl⟩
 ·split<;>exact⟨[],rfl⟩
theorem HY(fns:List Fd)(k b:Nat)(o:Int)(s:List UInt8)(a:List Ex)(bd el:List Sm)(w:WS):(stW fns k b (.mk o s a bd el) w).vs=(opW o s b ⟨w.vs,w.count,dw fns k w.vs a w.code⟩).vs:=rfl
theorem BJ(fns:List Fd)(k:Nat):∀(l:List Sm) (b:Nat) (w:WS),∃e,(cC fns k b l w).vs=e++w.vs
 |[],b,w=>⟨[],rfl⟩
 | .mk o s a bd el::r,b,w=>by
   obtain⟨e1,h1⟩:=BJ fns k r b (stW fns k b (.mk o s a bd el) w)
   obtain⟨e2,h2⟩:=KS o s b ⟨w.vs,w.count,dw fns k w.vs a w.code⟩
   exact⟨e1++e2,by rw[cC,h1,HY,h2,Qv]⟩
theorem LS{o:Int}{s:List UInt8}{b:Nat}{w:WS}(h:w.vs.length<=w.count):(opW o s b w).vs.length<=(opW o s b w).count:=by
 unfold opW
 split
 ·simp[kH,h]
 ·split<;>exact h
theorem Mh(fns:List Fd)(k:Nat){s:Sm}{b:Nat}{w:WS}(h:w.vs.length<=w.count):(stW fns k b s w).vs.length<=(stW fns k b s w).count:=by
 obtain⟨o,n,a,bd,el⟩:=s
 rw[zr,HY]
 have:=LS (o:=o) (s:=n) (b:=b) (w:=⟨w.vs,w.count,dw fns k w.vs a w.code⟩) h
 rw[sw] at this
 simp only[EZ]
 simp only at this
 omega
theorem Ee(fns:List Fd)(k:Nat):∀{l:List Sm} {b:Nat} {w:WS},w.vs.length<=w.count->(cC fns k b l w).vs.length<=(cC fns k b l w).count
 |[],_,_,h=>h
 |s::r,b,w,h=>Ee fns k (l:=r) (Mh fns k h)
mutual
def Sm.pre(d:Nat):Sm->List (Sm × Nat)
 | .mk o s a bd el=>(.mk o s a bd el,d)::(bH (d+1) bd++bH (d+1) el)
def bH(d:Nat):List Sm->List (Sm × Nat)
 |[]=>[]
 |s::r=>Sm.pre d s++bH d r
end
theorem Sm.pre_eq(d:Nat)(s:Sm):s.pre d=(s,d)::(bH (d+1) s.body++bH (d+1) s.els):=by cases s;rfl
theorem pf(d:Nat):∀a b:List Sm,bH d (a++b)=bH d a++bH d b
 |[],b=>rfl
 |s::r,b=>by rw[QO,bH,bH,pf d r b,Qv]
theorem Ex.pre_eq(e:Ex):e.pre=e::gu e.kids:=by cases e;rfl
theorem rf:∀a b:List Ex,gu (a++b)=gu a++gu b
 |[],b=>rfl
 |e::r,b=>by rw[QO,gu,gu,rf r b,Qv]
mutual
theorem Sm.pre_len:∀(s:Sm) (d:Nat),(s.pre d).length=s.cnt
 | .mk o s a bd el,d=>by simp only[Sm.pre,Sm.cnt,Qw,Qq,jB bd,jB el];omega
theorem jB:∀(l:List Sm) (d:Nat),(bH d l).length=dy l
 |[],d=>rfl
 |s::r,d=>by simp only[bH,dy,Qq,Sm.pre_len s,jB r]
end
end
section
theorem tc(fns:List Fd):∀(l:List Fd) (k:Nat),gx fns k l=0↔∀(i:Nat) (f:Fd),l[i]?=some f->(fnW fns (k+i) f).code=0
 |[],k=>by simp[gx]
 |f::r,k=>by
  rw[gx]
  have ih:=tc fns r (k+1)
  constructor
  ·intro h i g hg
   by_cases h0:(fnW fns k f).code=0
   ·rw[if_pos h0] at h
    cases i with
    |zero=>cases hg;exact h0
    |succ i=>have:=ih.1 h i g (by simpa using hg);rwa[show k+(i+1)=k+1+i by omega]
   ·rw[if_neg h0] at h;exact absurd h h0
  ·intro h
   rw[if_pos (by have:=h 0 f rfl;rwa[Nat.add_zero] at this)]
   exact ih.2 λi g hg=>by have:=h (i+1) g (by simpa using hg);rwa[show k+(i+1)=k+1+i by omega] at this
theorem KZ(l:List Fd):aP l=0↔cf l=true/\∀(k:Nat) (f:Fd),l[k]?=some f->(fnW l k f).code=0:=by
 unfold aP
 by_cases h:cf l=true
 ·rw[if_pos h,tc];simp[h]
 ·rw[if_neg h];simp[h]
theorem Dz(l:List Fd):cf l=true↔(1<=l.length/\l.length<=4)/\(∀f∈l,jH f=true)/\lv l<=40:=by
 simp only[cf,inR,Qs,decide_eq_true_eq,Qh]
 constructor
 ·rintro⟨⟨⟨h1,h2⟩,h3⟩,h4⟩;exact⟨⟨by omega,by omega⟩,h3,h4⟩
 ·rintro⟨⟨h1,h2⟩,h3,h4⟩;exact⟨⟨⟨by omega,by omega⟩,h3⟩,h4⟩
def Fd.cut(f:Fd)(n:Nat):Fd:=⟨f.name,f.params,f.body.take n⟩
end
section
abbrev Sc5:=List (List UInt8 × Int)
structure S5 where (left:Nat) (said:List Int) (cells:List Int)
inductive O5 (α:Type) where
 |ok (a:α)
 |st (c:Int)
def tr5(b:Bool):Int:=if b then 1 else 0
def FD(op a b:Int):Option Int:=
 if op=3 then some ((a+b)%256) else if op=4 then some ((a-b+256)%256) else if op=5 then some (a*b%256) else if op=8 then some (tr5 (decide (a<b))) else if op=9 then some (tr5 (decide (a=b)))
 else if b=0 then none else if op=6 then some (a/b) else some (a%b)
def S5.put(s:S5)(i:Nat)(n:Int):S5:=⟨s.left,s.said,s.cells.set i n⟩
def S5.at_(s:S5)(F:Nat):S5:=⟨F,s.said,s.cells⟩
def V5(n:Int):Prop:=0<=n/\n<=255
end
section
structure G5 (s:S5):Prop where
 len:s.cells.length=16
 cells:∀c∈s.cells,V5 c
 said:∀c∈s.said,V5 c
def GE5(v:List Sc5):Prop:=∀m∈v,∀x∈m,V5 x.2
theorem pF(b:Bool):V5 (tr5 b):=by cases b<;>simp[tr5,V5]
theorem ET{op a b n:Int}(ha:V5 a)(hb:V5 b)(h:FD op a b=some n):V5 n:=by
 obtain⟨a0,a1⟩:=ha
 obtain⟨b0,b1⟩:=hb
 unfold FD at h
 split at h
 ·cases h;unfold V5;omega
 split at h
 ·cases h;unfold V5;omega
 split at h
 ·cases h
  have:0<=a*b:=Int.mul_nonneg a0 b0
  unfold V5
  generalize a*b=q at*
  omega
 split at h
 ·cases h;exact pF _
 split at h
 ·cases h;exact pF _
 split at h
 ·cases h
 split at h
 ·cases h
  have h1:0<=a/b:=Int.ediv_nonneg a0 b0
  have h2:a/b<=a:=Int.ediv_le_self b a0
  exact⟨h1,by omega⟩
 ·cases h
  rename_i hb0 _
  have h1:0<=a%b:=Int.emod_nonneg a hb0
  have h2:a%b<b:=Int.emod_lt_of_pos a (by omega)
  exact⟨h1,by omega⟩
theorem G5.put{s:S5}(g:G5 s)(i:Nat){n:Int}(hn:V5 n):G5 (s.put i n):=⟨by rw[←g.len];exact Rl,λc hc=>by
 rcases List.mem_or_eq_of_mem_set hc with h|h
 ·exact g.cells c h
 ·rw[h];exact hn,g.said⟩
theorem G5.at_{s:S5}(g:G5 s)(F:Nat):G5 (s.at_ F):=⟨g.len,g.cells,g.said⟩
theorem GE5.tail{m:Sc5}{v:List Sc5}(g:GE5 (m::v)):GE5 v:=λq hq=>g q (by simp[hq])
end
section
theorem Fl{a:Ex}(h:lg a=true):aR 6 a=true:=by rw[lg,Qs] at h;exact h.1
section
variable {l:List Fd}
end
def s0(fuel:Nat):S5:=⟨fuel,[],List.replicate 16 0⟩
end
section
def S5.dn(s:S5)(c:Nat):S5:=⟨s.left-c,s.said,s.cells⟩
end
section
def S5.pre(s:S5)(t:List Int):S5:=⟨s.left,t++s.said,s.cells⟩
end
section
def ar5(o a b:Int):Option Int:=if o=10 then some (tr5 (decide (a≠0/\b≠0))) else FD o a b
def rZ(n:Int):Ex:= .mk 1 n [] []
def isN(e:Ex)(n:Int):Bool:=decide (e.op=1)&&decide (e.n=n)
mutual
def fF:Ex->Bool
 | .mk o _ _ ks=> !decide (o=12)&& !decide (o=13)&&(!(decide (o=6)||decide (o=7))||(match ks with|[_,b]=>decide (b.op=1)&& !decide (b.n=0)|_=>false))&&Ax ks
def Ax:List Ex->Bool
 |[]=>true
 |e::r=>fF e&&Ax r
end
def pC(o n:Int)(s:List UInt8)(a:Ex):Ex:=
 if a.op=1 then rZ (tr5 (decide (a.n=0))) else match a.kids with|[c]=>if a.op=11/\c.op=11 then c else .mk o n s [a]|_=> .mk o n s [a]
def tC(o n:Int)(s:List UInt8)(a b:Ex):Ex:=
 match(if a.op=1/\b.op=1 then ar5 o a.n b.n else none) with
 |some q=>rZ q
 |none=>
  if o=10/\isN a 0=true then rZ 0 else if(o=3\/o=4)/\isN b 0=true\/(o=5\/o=6)/\isN b 1=true then a else if o=3/\isN a 0=true\/o=5/\isN a 1=true then b
  else if o=5/\(isN b 0=true/\fF a=true\/isN a 0=true/\fF b=true) then rZ 0 else .mk o n s [a,b]
def kJ(o n:Int)(s:List UInt8)(ks:List Ex):Ex:=
 if o=12\/o=13 then .mk o n s ks else match ks with|[a]=>pC o n s a|[a,b]=>tC o n s a b|ks=> .mk o n s ks
mutual
def ey:Ex->Ex
 | .mk o n s ks=>kJ o n s (be ks)
def be:List Ex->List Ex
 |[]=>[]
 |e::r=>ey e::be r
end
theorem isN_iff{e:Ex}{n:Int}:isN e n=true↔e.op=1/\e.n=n:=by simp[isN]
section
variable {l:List Fd}
end
end
section
structure Like (fns fns':List Fd):Prop where
 at_:∀s,dq fns' s=dq fns s
 par:∀j,AZ fns' j=AZ fns j
end
section
theorem cL{α:Type}{p:α->Bool}{xs:List α}{i:Nat}(h:i<xs.length):(xs.take (i+1)).all p=((xs.take i).all p&&p xs[i]):=by
 rw[al h,List.all_append];simp
theorem jO{α:Type}{p:α->Bool}{xs:List α}{i:Nat}(h:i<xs.length)(hp:p xs[i]=false):xs.all p=false:=
 List.all_eq_false.2 ⟨_,Qj h,by simp[hp]⟩
theorem fb{α:Type}{p:α->Bool}{xs:List α}{i:Nat}(h:xs.length<=i)(ht:(xs.take i).all p=true):xs.all p=true:=by
 rwa[Qk h] at ht
def ow:AK:=qT [xG 2 4,wB] [wK 10 2,qw 11 10,wT 12 gM 11,qh 9 12,wJ 13 0 9,wJ 14 1 9,qh 5 13,qh 6 14] (wn [wt 15,w8 16 15 1,qh 17 16,xb 18 17 0 2,w9 19 17 18,qL 20 17 (xK [.t 19,qm 1,qm 13]),qL 21 17 (wd 20),xD 22 17 21,qh 23 22,xb 24 23 3 2,w9 25 23 24,qL 26 23 (qX 25),xh 27 23 5,xh 28 23 6,qL 29 23 (xK [.t 26,.t 27,.t 28]),qL 30 23 (wd 29),xD 31 23 30] 31 xE (.cut (.reg [wK 32 2,qw 33 32,wu 34 33 2,qh 35 34,xb 36 35 0 2,w9 37 35 36,qL 38 35 (wD .eql 37 13),xD 39 35 38,qh 7 39]) (.cut (xf [qh 40 7,xk 41 2,qw 42 41,wT 43 bY 42,qd 44 (.beq true (.t 40) (.t 43)),qh 45 44,xh 46 45 7,qL 47 45 (wd 46),xh 48 45 47,wG 49 48 2 2,wE 50 48 49,qK 51 48 (xa .neq 50 (qy qQ)),qL 52 45 (qI 48 (.t 51) qC),xD 53 45 52,qh 54 53,xb 55 54 1 2,w9 56 54 55,qL 57 54 (xK [.t 56,xv,qm 255]),qL 58 54 (wd 57),xD 59 54 58,qh 60 59,xb 61 60 0 2,w9 62 60 61,qL 63 60 (wD .neq 62 1),xh 64 60 63,wG 65 64 1 2,wE 66 64 65,xg 67 64 .neq 66 0,qL 68 60 (qI 64 (.t 67) qC),xD 69 60 68] 69 xE) (xy [wz 8] 0 [qh 70 8,xu 71 2,qw 72 71,wa 73 72,wv 74 70 73] 74 0 1 (xf [xu 77 2,qw 78 77,qh 79 8,q7 80 4 78 79,xN 81 80,wt 82,qA 83 .sub 82 1,wP 84 ff 81 83,wU 85 84] 85 xE) (qh 75 8) 76 75 8 76 [qf 4 wo]))))
theorem yx:AK.whole ow=FK.ak gL:=rfl
def oT:AK:=qg [xG 2 5,wB] (.cut (xf [wt 7,w8 8 7 1,qh 9 8,xb 10 9 0 2,w9 11 9 10,qL 12 9 (xK [.t 11,qm 1,qm 8]),qL 13 9 (wd 12),xD 14 9 13,qh 15 14,xb 16 15 2 2,xb 19 15 0 2,w9 17 15 16,qL 18 15 (qX 17),w9 20 15 19,qL 21 15 (.qcall gP (wS 20)),qL 22 15 (qo .neq 18 (.t 21)),xD 23 15 22] 23 xE) (.cut (.reg [wK 24 2,qw 25 24,wu 26 25 1,qh 27 26,xb 28 27 0 2,w9 29 27 28,qL 30 27 (wD .eql 29 2),xD 31 27 30,qh 5 31]) (.cut (xf [wH 32,xU 33 2,qw 34 33,wT 35 bY 34,qd 36 (.beq true (.t 32) (.t 35)),qh 37 36,xh 38 37 5,qL 39 37 (wd 38),xh 40 37 39,wG 41 40 1 2,wE 42 40 41,qK 43 40 (xa .neq 42 (qy qQ)),qL 44 37 (qI 40 (.t 43) qC),xD 45 37 44] 45 xE) (wy [wz 6] 0 (wL [qh 46 6,xk 47 2,qw 48 47,wa 49 48,wv 50 46 49] 50 0 1 (xf [xk 53 2,qw 54 53,qh 55 6,q7 56 4 54 55,xN 57 56,wT 58 ef 57,wU 59 58] 59 xE) (xo (qh 51 6) 52 51 6 52)) (.cut (xf [wK 60 2,qw 61 60,wu 62 61 8,qh 63 62,wG 64 63 2 2,wE 65 63 64,qK 66 63 (qE 4 65 xv),wG 67 63 0 66,wE 68 63 67,xg 69 63 .neq 68 13,xp 70 63 69] 70 xE) (.cut (xf [qv 71 4 2,qw 72 71,wa 73 72,qA 74 .gtr 73 0,qh 75 74,wG 76 75 0 2,wE 77 75 76,xg 78 75 .neq 77 5,xp 79 75 78,qh 80 79,xb 81 80 3 2,w9 82 80 81,qL 83 80 (qX 82),qL 84 80 (wD .gtr 83 0),xh 85 80 84,wG 86 85 0 2,wE 87 85 86,xg 88 85 .neq 87 5,qL 89 80 (qI 85 (.t 88) qC),xh 90 80 89,wG 91 90 0 2,wE 92 90 91,xg 93 90 .neq 92 6,qL 94 80 (qI 90 (.t 93) qC),xD 95 80 94] 95 xE) (qz [xu 96 2,qw 97 96,wt 98,qA 99 .sub 98 1,wP 100 bF 97 99,qh 101 100,wG 102 101 4 2,wE 103 101 102,xC 104 101 1,xg 105 101 .sub 104 1,xz 106 101 bF (wM 103 (.t 105)),xp 107 101 106,qh 4 107])))))))
theorem yp:AK.whole oT=FK.ak gU:=rfl
variable (G:aq)
theorem ng(n lo hi:Int):VF Tryz.prog G ic [.p (.int .i64 n),.p (.int .i64 lo),.p (.int .i64 hi)] (.p (.bool (inR n lo hi))):=by
 refine AC.go BY ?_
 by_cases h:lo<=n
 ·simp-implicitDefEqProofs[mC,h,inR]
 ·simp-implicitDefEqProofs[mC,h,inR]
theorem CF(op:Int):VF Tryz.prog G gM [.p (.int .i64 op)] (.tup [.p (.int .i64 (loK op)),.p (.int .i64 (hiK op))]):=by
 refine AC.go yh ?_
 by_cases h1:op=1
 ·subst h1;simp-implicitDefEqProofs[cN,loK,hiK]
 by_cases h2:op=2
 ·subst h2;simp-implicitDefEqProofs[cN,loK,hiK]
 by_cases h3:op=11
 ·subst h3;simp-implicitDefEqProofs[cN,loK,hiK]
 by_cases h4:op=12
 ·subst h4;simp-implicitDefEqProofs[cN,loK,hiK]
 by_cases h5:op=13
 ·subst h5;simp-implicitDefEqProofs[cN,loK,hiK]
 simp-implicitDefEqProofs[cN,loK,hiK,h1,h2,h3,h4,h5]
theorem Hk:∀(d:Nat) (e:Ex),e.sz<=1099511627776->d<=1000->VF Tryz.prog G ff [.agg (e.cs.map .p),.p (.int .i64 d)] (.p (.bool (aR d e))):=by
 intro d
 induction d with
 |zero=>
  intro e he _
  refine AC.go oD ?_
  simp-implicitDefEqProofs[gL,Ex.cs_eq]
  refine(CF G _).use ?_
  simp-implicitDefEqProofs[aR]
 |succ d ih=>
  intro e he hd
  have hsz:=e.sz_eq
  have hkl:=aS e.kids
  refine AC.goK oD yx ?_
  have hd1:¬(d:Int)+1<1:=by omega
  have hw:IntKind.i64.wrap ((d:Int)+1-1)=(d:Int):=by rw[show(d:Int)+1-1=d by omega];exact ah (by omega) (by omega)
  have hw':IntKind.i64.wrap (d:Int)=(d:Int):=ah (by omega) (by omega)
  have hxl:∀l,exL l= .lst 4 (l.map Ex.cs):=λ_=>rfl
  simp-implicitDefEqProofs[ow,gL,Ex.cs_eq]
  refine(CF G _).use ?_
  simp-implicitDefEqProofs[hd1]
  refine(ng G _ _ _).use ?_
  by_cases h1:inR e.op 1 13=true
  case neg=>simp-implicitDefEqProofs[h1,aR,il]
  simp-implicitDefEqProofs[h1,hxl]
  refine(ng G _ _ _).use ?_
  by_cases h2:inR e.kids.length (loK e.op) (hiK e.op)=true
  case neg=>simp-implicitDefEqProofs[h2,aR,il]
  simp-implicitDefEqProofs[h2]
  refine lF (ag 86 [(1,.p (.int .i64 (d+1))),(2,.ptr 0 4 0 0),(7,.p (.bool (BN e.op)))]) [.row 4 [[.p (.int .i64 e.op),.p (.int .i64 e.n),.p (.str e.name),.p (.lst 4 (e.kids.map Ex.cs))]]] ?_ ?_
  ·by_cases o2:e.op=2
   ·simp-implicitDefEqProofs[o2]
    exact ab (by simp) (by simp[okO]) (by simp[below,BN])
   ·by_cases o13:e.op=13
    ·simp-implicitDefEqProofs[o13]
     exact ab (by simp) (by simp[okO]) (by simp[below,BN])
    ·simp-implicitDefEqProofs[o2,o13]
     exact ab (by simp) (by simp[okO]) (by simp[below,BN,o2,o13])
  have hn:e.name.length<=140737488355328:=by omega
  refine sO (λ_:Unit=>ag 86 [(1,.p (.int .i64 ((d:Int)+1))),(2,.ptr 0 4 0 0)]) (λ_=>[.row 4 [[.p (.int .i64 e.op),.p (.int .i64 e.n),.p (.str e.name),.p (.lst 4 (e.kids.map Ex.cs))]]]) (λ_=>il e=true) ?_ ?_
  ·simp-implicitDefEqProofs[]
   refine(rM G _ hn).use ?_
   simp-implicitDefEqProofs[]
   repeat' first
    |(refine(ng G _ _ _).use ?_;simp-implicitDefEqProofs[])
    |(refine aQ (λhc=>?_) (λhc=>?_)<;>simp-implicitDefEqProofs[hc])
   all_goals first
    |exact⟨by simp_all [il],ab (by simp) (by simp[okO]) (by simp[below])⟩
    |simp_all [aR,il]
  intro _ hh
  simp-implicitDefEqProofs[]
  refine an (λi:Nat=>ag 86 [(1,.p (.int .i64 ((d:Int)+1))),(2,.ptr 0 4 0 0),(8,.p (.int .i64 i))]) (λ_=>[.row 4 [[.p (.int .i64 e.op),.p (.int .i64 e.n),.p (.str e.name),.p (.lst 4 (e.kids.map Ex.cs))]]])
   (λi=>i<=e.kids.length/\(e.kids.take i).all (aR d)=true) (λi=>e.kids.length-i) 0 (by simp) (ab (by simp) (by simp[okO]) (by simp[below])) ?_
  intro i ⟨hi,hall⟩
  simp-implicitDefEqProofs[]
  refine aQ (λh=>?_) (λh=>?_)
  ·simp at h
   have hg:=Qd h
   have hks:=aF (Qj h)
   simp-implicitDefEqProofs[hg,hw']
   refine(ih e.kids[i] (by omega) (by omega)).use ?_
   by_cases hk:aR d e.kids[i]=true
   ·simp-implicitDefEqProofs[hk]
    refine⟨i+1,⟨h,by rw[←Qh,cL h,hall,hk];rfl⟩,by omega,ab (by simp) (by simp[okO]) ?_⟩
    simp[below,w1 (i:=i) (by omega)]
   ·have hk':aR d e.kids[i]=false:=by simpa using hk
    have hf:aR (d+1) e=false:=by simp only[aR,jO h hk',Bool.and_false]
    simp-implicitDefEqProofs[hk',hf]
  ·simp at h
   have hf:aR (d+1) e=true:=by simp only[aR,fb h hall,hh,Bool.and_self]
   simp-implicitDefEqProofs[hf]
theorem Ff{l:List Ex}{i:Nat}(h:i<l.length):aK (l.take (i+1))=aK (l.take i)+l[i].parts:=by
 rw[al h,dT];simp[aK]
theorem Ay(l:List Ex)(i:Nat):aK (l.take i)<=aK l:=by
 have:=dT (l.take i) (l.drop i)
 rw[QN] at this
 omega
theorem Fx:∀(k:Nat) (e:Ex),e.sz<=k->k<=1099511627776->VF Tryz.prog G fV [.agg (e.cs.map .p)] (.p (.int .i64 e.parts)):=by
 intro k
 induction k with
 |zero=>intro e he;have:=e.sz_eq;omega
 |succ k ih=>
  intro e he hk
  have hsz:=e.sz_eq
  have hkl:=aS e.kids
  have hpe:=e.parts_eq
  have hpz:=Aa e.kids
  refine AC.go vV ?_
  have hxl:∀l,exL l= .lst 4 (l.map Ex.cs):=λ_=>rfl
  simp-implicitDefEqProofs[nb,Ex.cs_eq,hxl]
  refine an (λi:Nat=>ag 21 [(1,.ptr 0 4 0 0),(3,.p (.int .i64 ((1+aK (e.kids.take i):Nat):Int))),(4,.p (.int .i64 i))]) (λ_=>[.row 4 [[.p (.int .i64 e.op),.p (.int .i64 e.n),.p (.str e.name),.p (.lst 4 (e.kids.map Ex.cs))]]])
   (λi=>i<=e.kids.length) (λi=>e.kids.length-i) 0 (by simp) (ab (by simp) (by simp[okO]) (by simp[below,aK])) ?_
  intro i hi
  simp-implicitDefEqProofs[]
  refine aQ (λh=>?_) (λh=>?_)
  ·simp at h
   have hg:=Qd h
   have hks:=aF (Qj h)
   have hps:=Ff h
   have hple:=Ay e.kids (i+1)
   simp-implicitDefEqProofs[hg]
   refine(ih e.kids[i] (by omega) (by omega)).use ?_
   have hw:IntKind.i64.wrap (1+(aK (e.kids.take i):Int)+(e.kids[i].parts:Int))=((1+aK (e.kids.take (i+1)):Nat):Int):=by rw[ah (by omega) (by omega)];omega
   simp-implicitDefEqProofs[hw]
   exact⟨i+1,h,by omega,ab (by simp) (by simp[okO]) (by simp[below,w1 (i:=i) (by omega)])⟩
  ·simp at h
   rw[Qk h]
   simp-implicitDefEqProofs[]
   omega
theorem Ch(e:Ex)(he:e.sz<=1099511627776):VF Tryz.prog G ef [.agg (e.cs.map .p)] (.p (.bool (lg e))):=by
 refine AC.go sQ ?_
 simp-implicitDefEqProofs[kU]
 have h6:=Hk G 6 e he (by omega)
 refine h6.use ?_
 by_cases h:aR 6 e=true
 ·simp-implicitDefEqProofs[h]
  refine(Fx G _ e (Qi _) he).use ?_
  simp-implicitDefEqProofs[lg,h]
  omega
 ·simp-implicitDefEqProofs[h,lg]
theorem Ig(op:Int):VF Tryz.prog G gP [.p (.int .i64 op)] (.p (.int .i64 (jY op))):=by
 refine AC.go yl ?_
 by_cases h:op=4
 ·simp-implicitDefEqProofs[ke,h,jY]
 ·simp-implicitDefEqProofs[ke,h,jY]
theorem tw(d:Nat)(hd:d<=1000)(hs:∀s:Sm,s.sz<=1099511627776->VF Tryz.prog G hZ [.agg (s.cs.map .p),.p (.int .i64 d)] (.p (.bool (ay d s))))(l:List Sm)(hl:aG l<=1099511627776):
 VF Tryz.prog G bF [.p (smL l),.p (.int .i64 d)] (.p (.bool (l.all (ay d)))):=by
 refine AC.go uM ?_
 have hll:=aZ l
 have hsl:∀l,smL l= .lst 5 (l.map Sm.cs):=λ_=>rfl
 simp-implicitDefEqProofs[mL]
 refine an (λi:Nat=>ag 19 [(0,.p (smL l)),(1,.p (.int .i64 d)),(5,.p (.int .i64 i))]) (λ_=>[]) (λi=>i<=l.length/\(l.take i).all (ay d)=true) (λi=>l.length-i) 0 (by simp) (aE rfl (by simp[below,hsl])) ?_
 intro i ⟨hi,hall⟩
 simp-implicitDefEqProofs[hsl]
 refine aQ (λh=>?_) (λh=>?_)
 ·simp at h
  have hg:=Qd h
  have hks:=aM (Qj h)
  simp-implicitDefEqProofs[hg]
  refine(hs l[i] (by omega)).use ?_
  by_cases hk:ay d l[i]=true
  ·simp-implicitDefEqProofs[hk]
   exact⟨i+1,⟨h,by rw[←Qh,cL h,hall,hk];rfl⟩,by omega,aE rfl (by simp[below,hsl,w1 (i:=i) (by omega)])⟩
  ·have hk':ay d l[i]=false:=by simpa using hk
   have hf:=jO h hk'
   simp-implicitDefEqProofs[hk',hf]
 ·simp at h
  have hf:=fb h hall
  simp-implicitDefEqProofs[hf]
theorem Jn:∀(d:Nat),d<=1000->∀s:Sm,s.sz<=1099511627776->VF Tryz.prog G hZ [.agg (s.cs.map .p),.p (.int .i64 d)] (.p (.bool (ay d s))):=by
 intro d
 induction d with
 |zero=>
  intro _ s _
  refine AC.go oM ?_
  simp-implicitDefEqProofs[gU,Sm.cs_eq,ay]
 |succ d ih=>
  intro hd s he
  have hsz:=s.sz_eq
  have hal:=aS s.args
  have hbl:=aZ s.body
  have hel:=aZ s.els
  have ihs:=tw G d (by omega) (ih (by omega))
  refine AC.goK oM yp ?_
  have hd1:¬(d:Int)+1<1:=by omega
  have hw':IntKind.i64.wrap (d:Int)=(d:Int):=ah (by omega) (by omega)
  have hxl:∀l,exL l= .lst 4 (l.map Ex.cs):=λ_=>rfl
  have hsl:∀l,smL l= .lst 5 (l.map Sm.cs):=λ_=>rfl
  have hn:s.name.length<=140737488355328:=by omega
  simp-implicitDefEqProofs[oT,gU,Sm.cs_eq]
  generalize hH:[AO.row 5 [[AV.p (.int .i64 s.op),.p (.str s.name),.p (exL s.args),.p (smL s.body),.p (smL s.els)]]]=H
  have hho:∀o∈H,okO H.length o:=by rw[←hH];simp[okO]
  have hhl:0<H.length:=by rw[←hH];simp
  have hh0:H[0]?=some (AO.row 5 [[AV.p (.int .i64 s.op),.p (.str s.name),.p (exL s.args),.p (smL s.body),.p (smL s.els)]]):=by rw[←hH];rfl
  have hhL:H.length=1:=by rw[←hH];rfl
  refine sO (λ_:Unit=>ag 108 [(1,.p (.int .i64 ((d:Int)+1))),(2,.ptr 0 5 0 0)]) (λ_=>H) (λ_=>inR s.op 1 8=true/\s.args.length=jY s.op) ?_ ?_
  ·simp-implicitDefEqProofs[hd1,hh0]
   refine(ng G _ _ _).use ?_
   by_cases h1:inR s.op 1 8=true
   case neg=>simp-implicitDefEqProofs[h1,ay,ig]
   simp-implicitDefEqProofs[h1,hh0,hxl]
   refine(Ig G _).useQ ?_
   by_cases h2:s.args.length=jY s.op
   ·simp-implicitDefEqProofs[h2]
    exact ab (by omega) hho (by simp[below,hhl])
   ·have h2':¬(s.args.length:Int)=(jY s.op:Int):=by omega
    simp-implicitDefEqProofs[h2,h2',ay,ig]
  intro _ ⟨h1,h2⟩
  refine sO (λ_:Unit=>ag 108 [(1,.p (.int .i64 ((d:Int)+1))),(2,.ptr 0 5 0 0),(5,.p (.bool (cx s.op)))]) (λ_=>H) (λ_=>True) ?_ ?_
  ·simp-implicitDefEqProofs[hh0]
   by_cases o1:s.op=1
   ·simp-implicitDefEqProofs[o1,hh0,cx]
    exact ab (by omega) hho (by simp[below,hhl])
   ·by_cases o2:s.op=2
    ·simp-implicitDefEqProofs[o2,hh0,cx]
     exact ab (by omega) hho (by simp[below,hhl])
    ·simp-implicitDefEqProofs[o1,o2,hh0,cx]
     exact ab (by omega) hho (by simp[below,hhl])
  intro _ _
  refine sO (λ_:Unit=>ag 108 [(1,.p (.int .i64 ((d:Int)+1))),(2,.ptr 0 5 0 0)]) (λ_=>H) (λ_=>(cx s.op==aA s.name)=true/\(cx s.op||decide (s.name=[]))=true) ?_ ?_
  ·simp-implicitDefEqProofs[hh0]
   refine(rM G _ hn).use ?_
   simp-implicitDefEqProofs[hh0]
   repeat' first
    |(refine aQ (λhc=>?_) (λhc=>?_)<;>simp-implicitDefEqProofs[hc,hh0])
   all_goals first
    |exact ab (by omega) hho (by simp[below,hhl])
    |exact⟨by simp_all,by simp_all,ab (by omega) hho (by simp[below,hhl])⟩
    |exact⟨by simp_all,ab (by omega) hho (by simp[below,hhl])⟩
    |(simp_all [ay,ig];done)
  intro _ ⟨h3,h4⟩
  simp-implicitDefEqProofs[]
  refine an (λi:Nat=>ag 108 [(1,.p (.int .i64 ((d:Int)+1))),(2,.ptr 0 5 0 0),(6,.p (.int .i64 i))]) (λ_=>H) (λi=>i<=s.args.length/\(s.args.take i).all lg=true) (λi=>s.args.length-i) 0 (by simp) (ab (by omega) hho (by simp[below,hhl])) ?_
  intro i ⟨hi,hall⟩
  simp-implicitDefEqProofs[hh0,hxl]
  refine aQ (λh=>?_) (λh=>?_)
  ·simp at h
   have hg:=Qd h
   have hks:=aF (Qj h)
   simp-implicitDefEqProofs[hg,hh0,hxl]
   refine(Ch G s.args[i] (by omega)).use ?_
   by_cases hk:lg s.args[i]=true
   ·simp-implicitDefEqProofs[hk]
    exact⟨i+1,⟨h,by rw[←Qh,cL h,hall,hk];rfl⟩,by omega,ab (by omega) hho (by simp[below,hhl,w1 (i:=i) (by omega)])⟩
   ·have hk':lg s.args[i]=false:=by simpa using hk
    have hf:ay (d+1) s=false:=by simp only[ay,ig,jO h hk',Bool.and_false,Bool.false_and]
    simp-implicitDefEqProofs[hk',hf]
  simp at h
  have h5:s.args.all lg=true:=fb h hall
  have hlen1:1<=s.args.length:=by rw[h2];unfold jY;split<;>omega
  obtain⟨a0,ar,ha⟩:∃a r,s.args=a::r:=by
   cases hh:s.args with
   |nil=>rw[hh] at hlen1;simp at hlen1
   |cons a r=>exact⟨a,r,rfl⟩
  have ha0:s.args[0]?=some a0:=by rw[ha];rfl
  refine sO (λ_:Unit=>ag 108 [(1,.p (.int .i64 ((d:Int)+1))),(2,.ptr 0 5 0 0)]) (λ_=>H) (λ_=>(!decide (s.op=8)||decide (a0.op=13))=true) ?_ ?_
  ·simp-implicitDefEqProofs[hh0]
   by_cases o8:s.op=8
   ·have hae:=a0.cs_eq
    simp-implicitDefEqProofs[o8,hh0,hxl,ha0,hae]
    refine aQ (λhc=>?_) (λhc=>?_)
    ·simp at hc
     have hf:ay (d+1) s=false:=by simp[ay,ig,o8,ha,hc]
     simp-implicitDefEqProofs[hf]
    ·simp at hc
     simp-implicitDefEqProofs[hc]
     exact ab (by omega) hho (by simp[below,hhl])
   ·simp-implicitDefEqProofs[o8,hh0]
    exact ab (by omega) hho (by simp[below,hhl])
  intro _ h6
  refine sO (λ_:Unit=>ag 108 [(1,.p (.int .i64 ((d:Int)+1))),(2,.ptr 0 5 0 0)]) (λ_=>H) (λ_=>(s.els.isEmpty||decide (s.op=5))=true/\(s.body.isEmpty||decide (s.op=5)||decide (s.op=6))=true) ?_ ?_
  ·have hf:¬((s.els.isEmpty||decide (s.op=5))=true/\(s.body.isEmpty||decide (s.op=5)||decide (s.op=6))=true)->ay (d+1) s=false:=λh=>by
    have:ig s=false:=by
     cases hx:ig s with
     |false=>rfl
     |true=>refine absurd ?_ h;simp only[ig,Qs] at hx;exact⟨hx.1.2,hx.2⟩
    simp[ay,this]
   have pe:¬s.els=[]->0<s.els.length:=List.length_pos_iff.2
   have pb:¬s.body=[]->0<s.body.length:=List.length_pos_iff.2
   by_cases o5:s.op=5
   ·simp-implicitDefEqProofs[hh0,hsl,o5]
    repeat' first
     |(refine aQ (λhc=>?_) (λhc=>?_)<;>simp-implicitDefEqProofs[hc,hh0,hsl,o5])
    all_goals exact ab (by omega) hho (by simp[below,hhl])
   by_cases e1:s.els=[]
   case neg=>
    have hf:=hf (by simp[e1,o5])
    have:=pe e1
    simp-implicitDefEqProofs[hh0,hsl,o5,e1,this,hf]
   by_cases e2:s.body=[]
   ·simp-implicitDefEqProofs[hh0,hsl,o5,e1,e2]
    exact ab (by omega) hho (by simp[below,hhl])
   have:=pb e2
   by_cases o6:s.op=6
   ·simp-implicitDefEqProofs[hh0,hsl,o6,e1,e2,this]
    exact ab (by omega) hho (by simp[below,hhl])
   ·have hf:=hf (by simp[e2,o5,o6])
    simp-implicitDefEqProofs[hh0,hsl,o5,o6,e1,e2,this,hf]
  intro _ ⟨h7,h8⟩
  have hm:(match s.args with|a::_=>decide (a.op=13)|[]=>false)=decide (a0.op=13):=by rw[ha]
  have hhd:ig s=true:=by
   have h6':(!decide (s.op=8)||(match s.args with|a::_=>decide (a.op=13)|[]=>false))=true:=by rw[hm];exact h6
   have h2':decide (s.args.length=jY s.op)=true:=by simp[h2]
   simp only[ig,h1,h2',h3,h4,h5,h7,h8,Bool.and_self,Bool.and_true,Bool.true_and]
   exact h6'
  simp-implicitDefEqProofs[hh0,hw']
  refine(ihs s.body (by omega)).use ?_
  by_cases hB:s.body.all (ay d)=true
  ·simp only[hB]
   simp-implicitDefEqProofs[hh0,hw']
   refine(ihs s.els (by omega)).use ?_
   have hf:ay (d+1) s=s.els.all (ay d):=by simp only[ay,hhd,hB,Bool.true_and]
   rw[hf]
   generalize s.els.all (ay d)=w
   simp-implicitDefEqProofs[]
  ·have hB':s.body.all (ay d)=false:=by simpa using hB
   have hf:ay (d+1) s=false:=by simp only[ay,hB',Bool.and_false,Bool.false_and]
   simp only[hB',hf]
   simp-implicitDefEqProofs[]
theorem Gr(d:Nat)(hd:d<=1000)(l:List Sm)(hl:aG l<=1099511627776):VF Tryz.prog G bF [.p (smL l),.p (.int .i64 d)] (.p (.bool (l.all (ay d)))):=
 tw G d hd (Jn G d hd) l hl
theorem Mq(f:Fd)(hf:f.sz<=1099511627776):VF Tryz.prog G mM [.agg (f.cs.map .p)] (.p (.bool (jH f))):=by
 refine AC.go Bc ?_
 have hsz:f.sz=1+f.name.length+(f.params.length+(f.params.map List.length).sum)+aG f.body:=rfl
 have hps:∀x∈f.params,x.length<=(f.params.map List.length).sum:=λx hx=>by
  have key:∀l:List (List UInt8),x∈l->x.length<=(l.map List.length).sum:=by
   intro l
   induction l with
   |nil=>intro h;cases h
   |cons y r ih=>
    intro h
    simp only[QI,List.sum_cons]
    rcases QH.1 h with rfl|h
    ·omega
    ·have:=ih h;omega
  exact key _ hx
 have hst:aB f.params= .lst 1 (f.params.map λw=>[.str w]):=rfl
 have h4:=Gr G 4 (by omega) f.body (by omega)
 simp-implicitDefEqProofs[tg,Fd.cs,hst]
 refine an (λi:Nat=>ag 32 [(1,.ptr 0 3 0 0),(3,.p (.int .i64 i))]) (λ_=>[.row 3 [[.p (.str f.name),.p (aB f.params),.p (smL f.body)]]]) (λi=>i<=f.params.length/\(f.params.take i).all aA=true) (λi=>f.params.length-i) 0 (by simp) (ab (by simp) (by simp[okO]) (by simp[below])) ?_
 intro i ⟨hi,hall⟩
 simp-implicitDefEqProofs[hst]
 refine aQ (λh=>?_) (λh=>?_)
 ·simp at h
  have hg:=Qd h
  have hl:=hps _ (Qj h)
  simp-implicitDefEqProofs[hg]
  refine(rM G _ (by omega)).use ?_
  by_cases hk:aA f.params[i]=true
  ·simp-implicitDefEqProofs[hk]
   exact⟨i+1,⟨h,by rw[←Qh,cL h,hall,hk];rfl⟩,by omega,ab (by simp) (by simp[okO]) (by simp[below,w1 (i:=i) (by omega)])⟩
  ·have hk':aA f.params[i]=false:=by simpa using hk
   have hff:jH f=false:=by simp only[jH,jO h hk',Bool.false_and]
   simp-implicitDefEqProofs[hk',hff]
 ·simp at h
  have h1:f.params.all aA=true:=fb h hall
  simp-implicitDefEqProofs[]
  refine(rM G _ (by omega)).use ?_
  by_cases h2:aA f.name=true
  case neg=>
   have h2':aA f.name=false:=by simpa using h2
   simp-implicitDefEqProofs[h2',jH]
  simp-implicitDefEqProofs[h2]
  by_cases h3:f.params.length<=3
  case neg=>
   have h3':¬(f.params.length:Int)<=3:=by omega
   simp-implicitDefEqProofs[h3,h3',jH]
  have h3':(f.params.length:Int)<=3:=by omega
  simp-implicitDefEqProofs[h3']
  refine h4.use ?_
  have hff:jH f=f.body.all (ay 4):=by simp only[jH,h1,h2,h3,decide_true,Bool.true_and]
  rw[hff]
  generalize f.body.all (ay 4)=w
  simp-implicitDefEqProofs[]
theorem Gn{l:List Sm}{i:Nat}(h:i<l.length):dy (l.take (i+1))=dy (l.take i)+l[i].cnt:=by
 rw[al h,mf];simp[dy]
theorem pM(l:List Sm)(i:Nat):dy (l.take i)<=dy l:=by
 have:=mf (l.take i) (l.drop i)
 rw[QN] at this
 omega
def jZ(l:List Sm)(i:Nat):Nat:=l.length+((l.take i).map λs=>dy s.body+dy s.els).sum
theorem Dn(l:List Sm):jZ l 0=l.length:=by simp[jZ]
theorem uE{l:List Sm}{i:Nat}(h:i<l.length):jZ l (i+1)=jZ l i+dy l[i].body+dy l[i].els:=by
 rw[jZ,jZ,al h,Rd,List.sum_append]
 simp only[QI,List.map_nil,List.sum_cons,List.sum_nil]
 omega
theorem si(l:List Sm):∀i,i<=l.length->dy (l.take i)+l.length=i+jZ l i
 |0,_=>by simp[dy,jZ]
 |i+1,h=>by
  have:=si l i (by omega)
  rw[Gn (by omega),uE (by omega),(l[i]'(by omega)).cnt_eq]
  omega
theorem EW:∀(k:Nat) (l:List Sm),aG l<=k->k<=1099511627776->VF Tryz.prog G dS [.p (smL l)] (.p (.int .i64 (dy l))):=by
 intro k
 induction k with
 |zero=>
  intro l hl _
  have:l=[]:=by
   cases l with
   |nil=>rfl
   |cons s r=>have:=s.sz_eq;simp only[aG] at hl;omega
  subst this
  refine AC.go mF ?_
  have hsl:smL []= .lst 5 []:=rfl
  simp-implicitDefEqProofs[jh,hsl]
  refine an (λ_:Unit=>ag 29 [(0,.p (.lst 5 [])),(3,.p (.int .i64 0)),(4,.p (.int .i64 0))]) (λ_=>[]) (λ_=>True) (λ_=>0) () trivial (aE rfl (by simp[below])) ?_
  intro _ _
  simp-implicitDefEqProofs[dy]
 |succ k ih=>
  intro l hl hk
  have hll:=aZ l
  have hnz:=nv l
  refine AC.go mF ?_
  have hsl:∀l,smL l= .lst 5 (l.map Sm.cs):=λ_=>rfl
  simp-implicitDefEqProofs[jh,hsl]
  refine an (λi:Nat=>ag 29 [(0,.p (smL l)),(3,.p (.int .i64 (jZ l i))),(4,.p (.int .i64 i))]) (λ_=>[]) (λi=>i<=l.length) (λi=>l.length-i) 0 (by simp) (aE rfl (by simp[below,hsl,Dn])) ?_
  intro i hi
  have k0:=si l i hi
  have k2:=pM l i
  simp-implicitDefEqProofs[hsl]
  refine aQ (λh=>?_) (λh=>?_)
  ·simp at h
   have hg:=Qd h
   have hks:=aM (Qj h)
   have hse:=l[i].sz_eq
   have hce:=l[i].cs_eq
   have k1:=uE h
   have k3:=si l (i+1) h
   have k4:=pM l (i+1)
   simp-implicitDefEqProofs[hg,hce]
   refine(ih l[i].body (by omega) (by omega)).use ?_
   simp-implicitDefEqProofs[hg,hce]
   refine(ih l[i].els (by omega) (by omega)).use ?_
   have w1':IntKind.i64.wrap ((jZ l i:Int)+(dy l[i].body:Int))=(jZ l i:Int)+(dy l[i].body:Int):=ah (by omega) (by omega)
   have w2':IntKind.i64.wrap ((jZ l i:Int)+(dy l[i].body:Int)+(dy l[i].els:Int))=(jZ l (i+1):Int):=by rw[ah (by omega) (by omega)];omega
   simp-implicitDefEqProofs[w1',w2']
   exact⟨i+1,h,by omega,aE rfl (by simp[below,hsl,w1 (i:=i) (by omega)])⟩
  ·simp at h
   rw[Qk h] at k0
   have:jZ l i=dy l:=by omega
   simp-implicitDefEqProofs[this]
theorem cU:∀{l:List Fd} {f:Fd},f∈l->f.sz<=bl l
 |x::r,e,h=>by
  simp only[bl,QI,List.sum_cons]
  rcases QH.1 h with rfl|h
  ·omega
  ·have:=cU h;simp only[bl] at this;omega
theorem cJ:∀l:List Fd,l.length<=bl l
 |[]=>Qi _
 |e::r=>by have:=cJ r;simp only[bl,QI,List.sum_cons,Qw] at this⊢;have:1<=e.sz:=by unfold Fd.sz;omega
           omega
def uO(l:List Fd)(i:Nat):Nat:=lv (l.take i)
theorem Fb{l:List Fd}{i:Nat}(h:i<l.length):uO l (i+1)=uO l i+dy l[i].body:=by
 rw[uO,uO,lv,lv,al h,Rd,List.sum_append];simp
theorem zZ:∀l:List Fd,lv l<=bl l
 |[]=>Qi _
 |f::r=>by
  have:=zZ r
  have h2:=nv f.body
  simp only[lv,bl,QI,List.sum_cons] at this⊢
  have:aG f.body<=f.sz:=by unfold Fd.sz;omega
  omega
theorem KP(l:List Fd)(i:Nat):uO l i<=bl l:=by
 have h1:=zZ (l.take i)
 have h2:bl (l.take i)<=bl l:=by
  have:bl l=bl (l.take i)+bl (l.drop i):=by
   rw[←QN i l,bl,Rd,List.sum_append];simp[bl]
  omega
 exact Nat.le_trans h1 h2
theorem JI(l:List Fd)(hl:bl l<=1099511627776):VF Tryz.prog G lR [.agg [.p (fdL l)]] (.p (.int .i64 (lv l))):=by
 refine AC.go zK ?_
 have hll:=cJ l
 have hfl:∀l,fdL l= .lst 3 (l.map Fd.cs):=λ_=>rfl
 simp-implicitDefEqProofs[pE]
 refine an (λi:Nat=>ag 22 [(1,.ptr 0 1 0 0),(3,.p (.int .i64 (uO l i))),(4,.p (.int .i64 i))]) (λ_=>[.row 1 [[.p (fdL l)]]]) (λi=>i<=l.length) (λi=>l.length-i) 0 (by simp) (ab (by simp) (by simp[okO]) (by simp[below,uO,lv])) ?_
 intro i hi
 simp-implicitDefEqProofs[hfl]
 refine aQ (λh=>?_) (λh=>?_)
 ·simp at h
  have hg:=Qd h
  have hks:=cU (Qj h)
  have hse:l[i].sz=1+l[i].name.length+(l[i].params.length+(l[i].params.map List.length).sum)+aG l[i].body:=rfl
  have hce:l[i].cs=[.str l[i].name,aB l[i].params,smL l[i].body]:=rfl
  have k1:=Fb h
  have k2:=KP l (i+1)
  simp-implicitDefEqProofs[hg,hce]
  refine(EW G _ l[i].body (Qi _) (by omega)).use ?_
  have w1':IntKind.i64.wrap ((uO l i:Int)+(dy l[i].body:Int))=(uO l (i+1):Int):=by rw[ah (by omega) (by omega)];omega
  simp-implicitDefEqProofs[w1']
  exact⟨i+1,h,by omega,ab (by simp) (by simp[okO]) (by simp[below,w1 (i:=i) (by omega),hfl])⟩
 ·simp at h
  have:uO l i=lv l:=by rw[uO,Qk h]
  simp-implicitDefEqProofs[this]
theorem um(l:List Fd)(hl:bl l<=1099511627776):VF Tryz.prog G eN [.agg [.p (fdL l)]] (.p (.bool (cf l))):=by
 refine AC.go nQ ?_
 have hfl:∀l,fdL l= .lst 3 (l.map Fd.cs):=λ_=>rfl
 have hall:=JI G l hl
 have hll:=cJ l
 rw[hfl] at hall
 simp-implicitDefEqProofs[iC,hfl]
 refine(ng G _ _ _).use ?_
 by_cases h1:inR l.length 1 4=true
 case neg=>simp-implicitDefEqProofs[h1,cf]
 simp-implicitDefEqProofs[h1]
 refine an (λi:Nat=>ag 26 [(1,.ptr 0 1 0 0),(3,.p (.int .i64 i))]) (λ_=>[.row 1 [[.p (.lst 3 (l.map Fd.cs))]]]) (λi=>i<=l.length/\(l.take i).all jH=true) (λi=>l.length-i) 0 (by simp) (ab (by simp) (by simp[okO]) (by simp[below])) ?_
 intro i ⟨hi,ha⟩
 simp-implicitDefEqProofs[]
 refine aQ (λh=>?_) (λh=>?_)
 ·simp at h
  have hg:=Qd h
  have hks:=cU (Qj h)
  simp-implicitDefEqProofs[hg]
  refine(Mq G l[i] (by omega)).use ?_
  by_cases hk:jH l[i]=true
  ·simp-implicitDefEqProofs[hk]
   exact⟨i+1,⟨h,by rw[←Qh,cL h,ha,hk];rfl⟩,by omega,ab (by simp) (by simp[okO]) (by simp[below,w1 (i:=i) (by omega)])⟩
  ·have hk':jH l[i]=false:=by simpa using hk
   have hff:cf l=false:=by simp only[cf,jO h hk',Bool.and_false,Bool.false_and]
   simp-implicitDefEqProofs[hk',hff]
 ·simp at h
  have h2:l.all jH=true:=fb h ha
  simp-implicitDefEqProofs[]
  refine hall.use ?_
  have hff:cf l=decide (lv l<=40):=by simp only[cf,h1,h2,Bool.true_and]
  simp-implicitDefEqProofs[hff]
  omega
end
section
theorem fg{n:Nat}{h h1:List AO}(e:h.take n=h1)(hn:h1.length=n)(ho:∀o∈h1,okO n o):Fst n h h1:=by
 have hl:n<=h.length:=by
  have:=congrArg List.length e
  rw[QG] at this;omega
 have hg:∀(i:Nat) (o:AO),h1[i]?=some o->h[i]?=some o:=λi o hi=>by
  have h2:=(Qf.1 hi).1
  rw[←e,List.getElem?_take_of_lt (by omega)] at hi
  exact hi
 exact⟨hn,hl,λi sz es hi=>⟨hg _ _ hi,ho _ (Ql hi)⟩,λi es hi=>⟨hg _ _ hi,ho _ (Ql hi)⟩,λi s p hi=>hg _ _ hi⟩
theorem yT:∀(r:List AO) (s:Nat),((iH (List.range' s r.length++[0]) (r++[.dead])).Nodup/\∀i∈iH (List.range' s r.length++[0]) (r++[.dead]),s<=i)
 |[],s=>by simp[iH]
 |o::r,s=>by
  obtain⟨h1,h2⟩:=yT r (s+1)
  rw[Qw,List.range'_succ]
  cases o with
  |dead=>exact⟨h1,λi hi=>Nat.le_of_succ_le (h2 i hi)⟩
  |_=>exact⟨Ra.2 ⟨λhm=>absurd (h2 _ hm) (by omega),h1⟩,λi hi=>by
   rcases QH.1 hi with rfl|hi
   ·exact Qi _
   ·exact Nat.le_of_succ_le (h2 i hi)⟩
theorem AU{h:List AO}(hp:0<h.length)(ho:∀o∈h,okO h.length o):∀(r:List AO) (s:Nat),(∀i:Nat,r[i]?=h[s+i]?)->s+r.length=h.length->HW (List.range' 0 h.length++[0]) h (List.range' s r.length++[0]) (r++[.dead])
 |[],s,_,_=>gY hp bJ
 |o::r,s,hr,hs=>by
  have hσ:∀i,i<h.length->(List.range' 0 h.length++[0]).getD i 0=i:=λi hi=>by
   rw[Qm,Qg (by simp;exact hi)];simp[hi]
  rw[Qw,List.range'_succ]
  have h0:=hr 0
  have ih:=AU hp ho r (s+1) (λi=>by have:=hr (i+1);rw[QW] at this;rw[this];congr 1;omega) (by simp at hs;omega)
  have hm:h[s]?=some o:=by simpa using h0.symm
  have hok:=ho o (Ql hm)
  cases o with
  |dead=>exact gY (Qf.1 hm).1 ih
  |row sz es=>
   refine lC (λx hx=>aH (by simp) _ (hok x hx)) ?_ ih
   rw[hm,Qz (g:=id) λx hx=>kQ hσ x (hok x hx)];simp
  |mp es=>exact⟨(Qf.1 hm).1,⟨λx hx=>by exact(aH (by simp) [x.2] ⟨hok x hx,trivial⟩).1,by rw[hm,Qz (g:=id) λx hx=>by rw[lK hσ x.2 (hok x hx)];rfl];simp⟩,ih⟩
  |sit s p=>exact⟨(Qf.1 hm).1,hm,ih⟩
theorem Bh{m:Nat}{l:List (Nat × AV)}:∀r:List (Nat × AV),FgA m l r->TWA (List.range' 0 m++[0]) l r
 |[],_=>trivial
 |x::r,⟨⟨a,c⟩,d⟩=>by
  have hσ:∀i,i<m->(List.range' 0 m++[0]).getD i 0=i:=λi hi=>by
   rw[Qm,Qg (by simp;exact hi)];simp[hi]
  exact⟨⟨(aH (by simp) [x.2] ⟨a,trivial⟩).1,by rw[lK hσ _ a,c]⟩,Bh r d⟩
theorem ur{k n:Nat}{l l1:List (Nat × AV)}{h:List AO}(hk:k<=h.length)(hp:0<h.length)(ho:∀o∈h,okO h.length o)(H:FgA h.length l l1):Wk k (ag n l) h (ag n l1) (h++[.dead]):=by
 have hσ:∀i,i<h.length->(List.range' 0 h.length++[0]).getD i 0=i:=λi hi=>by
  rw[Qm,Qg (by simp;exact hi)];simp[hi]
 refine Ey (List.range' 0 h.length++[0]) (by simp;omega) (λi hi=>hσ i (by omega)) ?_ ?_ (Bh _ H)
 ·exact(yT h 0).1
 ·exact AU hp ho h 0 (λi=>by simp) (by simp)
def cS(fns:List Fd):List (List AV):=fns.map λf=>f.cs.map .p
theorem iR(fns:List Fd):∀x∈cS fns,aj 0 x:=by
 intro x hx;obtain⟨m,_,rfl⟩:=Qx.1 hx;simp
theorem cA{n:Nat}{o:AO}(h:okO 0 o):okO n o:=by
 cases o with
 |dead=>trivial
 |sit=>trivial
 |row sz es=>exact λe he=>aH (Ri _) _ (h e he)
 |mp es=>exact λe he=>(aH (Ri n) [e.2] ⟨h e he,trivial⟩).1
def exR(l:List Ex):List (List AV):=l.map λe=>e.cs.map .p
theorem kV(l:List Ex):∀x∈exR l,aj 0 x:=by
 intro x hx;obtain⟨m,_,rfl⟩:=Qx.1 hx;simp
def smR(l:List Sm):List (List AV):=l.map λs=>s.cs.map .p
theorem br(l:List Sm):∀x∈smR l,aj 0 x:=by
 intro x hx;obtain⟨m,_,rfl⟩:=Qx.1 hx;simp
theorem Ag(l:List Sm):(smR l).length=l.length:=by simp[smR]
theorem AB(a b:List Sm):smR (a++b)=smR a++smR b:=by simp[smR]
theorem kK{h:List AO}{id:Nat}{l:List Sm}(e:h[id]?=some (.row 5 (smR l))):View h (.sl id 5 0 l.length) (smL l):=by
 have:=ib (h:=h) (id:=id) (sz:=5) (n:=l.length) (ls:=l.map Sm.cs) (by rw[e,smR];simp) (by simp) (λx hx=>by obtain⟨b,_,rfl⟩:=Qx.1 hx;exact b.cs_len)
 exact this
theorem dI{n:Nat}:∀o∈([]:List AO),okO n o:=λo h=>by cases h
theorem af{n:Nat}{a:AO}{l:List AO}(h:okO n a)(r:∀o∈l,okO n o):∀o∈a::l,okO n o:=λo ho=>by
 rcases QH.1 ho with rfl|ho
 ·exact h
 ·exact r o ho
end
section
variable (G:aq)
theorem mW(n lo hi:Int):VF Tryz.prog G dE [.p (.int .i64 n),.p (.int .i64 lo),.p (.int .i64 hi)] (.p (.bool (inR n lo hi))):=by
 refine AC.go yf ?_
 by_cases h:lo<=n
 ·simp-implicitDefEqProofs[kB,h,inR]
 ·simp-implicitDefEqProofs[kB,h,inR]
theorem Gt(n:Int):VF Tryz.prog G kE [.p (.int .i64 n)] (.p (.bool (inR n 0 255))):=by
 refine AC.go yG ?_
 simp-implicitDefEqProofs[oc]
 refine(mW G _ _ _).use ?_
 simp-implicitDefEqProofs[]
theorem Dk(n:Int):VF Tryz.prog G cF [.p (.int .i32 n)] (.p (.bool (decide (n<97)||decide (122<n)))):=by
 refine AC.go tI ?_
 simp-implicitDefEqProofs[lT]
 by_cases h:n<97
 ·simp-implicitDefEqProofs[h]
 ·simp-implicitDefEqProofs[h]
theorem KH{s:List UInt8}{i:Nat}(h:i<s.length)(hl:dc s[i]=true):Utf8.decode ⟨⟨s⟩⟩ i=(s[i].toNat,1):=by
 simp only[dc,Qs,decide_eq_true_eq] at hl
 exact decode_ascii ⟨⟨s⟩⟩ i h (by show(s[i]).toNat<128;omega)
theorem Fz{s:List UInt8}{i:Nat}(h:i<s.length)(hl:¬dc s[i]=true):(((Utf8.decode ⟨⟨s⟩⟩ i).1:Int)<97\/122<((Utf8.decode ⟨⟨s⟩⟩ i).1:Int)):=by
 rcases QR s[i].toNat 128 with h1|h1
 ·rw[show Utf8.decode ⟨⟨s⟩⟩ i=(s[i].toNat,1) from decode_ascii ⟨⟨s⟩⟩ i h h1]
  simp[dc] at hl
  simp only
  omega
 ·have:=(decode_high ⟨⟨s⟩⟩ i h h1).1
  omega
theorem CA(s:List UInt8)(hb:s.length<=140737488355328):VF Tryz.prog G eC [.p (.str s),.fn (.func cF) [],.p (.bool true)] (.p (.int .i64 (Ao s))):=by
 refine AC.go nN ?_
 simp-implicitDefEqProofs[iG]
 refine an (λi:Nat=>ag 21 [(0,.p (.str s)),(1,.fn (.func cF) []),(2,.p (.bool true)),(10,.it 0)]) (λi=>[.sit s i]) (λi=>i<=s.length/\∀x∈s.take i,dc x=true) (λi=>s.length-i) 0 (by simp) ?_ ?_
 ·exact ab (by simp) (by simp[okO]) (by simp[below,aj])
 ·intro i ⟨hi,hn⟩
  simp-implicitDefEqProofs[]
  by_cases h1:i<s.length
  ·have hg:=Qd h1
   simp-implicitDefEqProofs[h1]
   refine(Dk G _).use ?_
   by_cases hl:dc s[i]=true
   ·have hd:=KH h1 hl
    have hl':=hl
    simp only[dc,Qs,decide_eq_true_eq] at hl'
    have e1:¬((s[i].toNat:Int)<97):=by omega
    have e2:¬(122<(s[i].toNat:Int)):=by omega
    rw[hd]
    simp-implicitDefEqProofs[e1,e2]
    refine⟨i+1,⟨h1,λp hp=>?_⟩,by omega,ab (by simp) (by simp[okO]) (by simp[below,aj])⟩
    rw[al h1] at hp
    rcases Qn.1 hp with hp|hp
    ·exact hn p hp
    ·rw[Qt.1 hp];exact hl
   ·have hd:=Fz h1 hl
    have hf:Ao s=i:=by
     have:s.findIdx? (λx=> !dc x)=some i:=by
      rw[Qy]
      exact⟨h1,by simpa using hl,λj hj=>by have:=hn s[j] (List.mem_take_iff_getElem.2 ⟨j,by omega,rfl⟩);simpa using this⟩
     rw[Ao,this]
    have hdb:(decide (((Utf8.decode ⟨⟨s⟩⟩ i).1:Int)<97)||decide (122<((Utf8.decode ⟨⟨s⟩⟩ i).1:Int)))=true:=by
     rcases hd with h|h<;>simp[h]
    rw[hdb]
    simp-implicitDefEqProofs[hf]
  ·have hn':=hn
   rw[Qk (by omega)] at hn'
   have hf:Ao s= -1:=by
    have:s.findIdx? (λx=> !dc x)=none:=by
     rw[QQ];intro x hx;simpa using hn' x hx
    rw[Ao,this]
   simp-implicitDefEqProofs[h1,hf]
theorem BT(s:List UInt8)(hb:s.length<=140737488355328):VF Tryz.prog G eE [.p (.str s),.fn (.func cF) []] (.p (.int .i64 (Ao s))):=by
 refine AC.go nR ?_
 simp-implicitDefEqProofs[iF]
 refine(CA G s hb).use ?_
 simp-implicitDefEqProofs[]
theorem KF(L:List (List UInt8))(s:List UInt8)(hb:L.length<=1048576):VF Tryz.prog G dH [.p (aB L),.p (.str s)] (.p (.int .i64 (idxS L s))):=by
 refine AC.go mb ?_
 have hsl:aB L= .lst 1 (L.map λw=>[.str w]):=rfl
 simp-implicitDefEqProofs[gh,hsl]
 refine an (λi:Nat=>ag 19 [(0,.p (aB L)),(1,.p (.str s)),(6,.p (aB L)),(7,.p (.int .i64 L.length)),(8,.p (.int .i64 i))]) (λ_=>[]) (λi=>i<=L.length/\∀w∈L.take i,w≠s) (λi=>L.length-i) 0 (by simp) ?_ ?_
 ·exact aE rfl (by simp[below,aB])
 ·intro i ⟨hi,hn⟩
  simp-implicitDefEqProofs[hsl]
  refine aQ (λh1=>?_) (λh1=>?_)
  ·simp at h1
   have hg:=Qd h1
   by_cases he:L[i]=s
   ·have hf:idxS L s=i:=by
     have:L.findIdx? (λw=>w==s)=some i:=by
      rw[Qy]
      exact⟨h1,by simpa using he,λj hj=>by have:=hn L[j] (List.mem_take_iff_getElem.2 ⟨j,by omega,rfl⟩);simpa using this⟩
     rw[idxS,this]
    have he':s=L[i]:=he.symm
    simp-implicitDefEqProofs[hg,hf,←he']
   ·have he':¬s=L[i]:=λe=>he e.symm
    simp-implicitDefEqProofs[hg,he']
    refine⟨i+1,⟨h1,λp hp=>?_⟩,by omega,aE rfl ?_⟩
    ·rw[al h1] at hp
     rcases Qn.1 hp with hp|hp
     ·exact hn p hp
     ·rw[Qt.1 hp];exact he
    ·simp[below,aB,w1 (i:=i) (by omega)]
  ·simp at h1
   rw[Qk h1] at hn
   have hf:idxS L s= -1:=by
    have:L.findIdx? (λw=>w==s)=none:=by
     rw[QQ];intro x hx;simpa using hn x hx
    rw[idxS,this]
   simp-implicitDefEqProofs[hf]
theorem DG(L:List (List UInt8))(s:List UInt8)(hb:L.length<=1048576):VF Tryz.prog G cM [.p (aB L),.p (.str s)] (.p (.bool (L.contains s))):=by
 rw[←Ic]
 refine AC.go kF ?_
 simp-implicitDefEqProofs[eX]
 refine(KF G L s hb).use ?_
 simp-implicitDefEqProofs[]
abbrev iq:Nat:=0
def gr:List PV:=keyW.map .str
variable (hK:G iq=some gr)
include hK
theorem my(s:List UInt8)(hb:s.length<=140737488355328):VF Tryz.prog G bW [.p (.str s)] (.p (.bool (aA s))):=by
 refine AC.go yw ?_
 unfold iq at hK
 simp-implicitDefEqProofs[oP]
 refine(mW G _ _ _).use ?_
 have hr:inR (s.length:Int) 1 4=(decide (0<s.length)&&decide (s.length<=4)):=by
  unfold inR
  by_cases h1:0<s.length<;>by_cases h2:s.length<=4<;>simp[h1,h2]<;>omega
 rw[hr]
 have hi:aA s=((decide (0<s.length)&&decide (s.length<=4))&&(s.all dc&& !keyW.contains s)):=by
  rw[aA];cases s.all dc<;>cases decide (0<s.length)<;>cases decide (s.length<=4)<;>rfl
 cases h1:(decide (0<s.length)&&decide (s.length<=4)) with
 |false=>
  rw[hi,h1]
  simp-implicitDefEqProofs[]
 |true=>
  rw[hi,h1]
  simp-implicitDefEqProofs[]
  refine(BT G s hb).use ?_
  rw[←GL]
  by_cases hn:Ao s<0
  ·simp-implicitDefEqProofs[hn,hK,gr,keyW]
   refine(DG G keyW s (by decide)).use ?_
   simp-implicitDefEqProofs[keyW]
  ·simp-implicitDefEqProofs[hn]
end
section
theorem tO:AK.whole iy=FK.ak iz:=rfl
abbrev dN:Nat:=1
def opK:List PV:=[.int .i64 3,.int .i64 4,.int .i64 5,.int .i64 6,.int .i64 7,.int .i64 8,.int .i64 9,.int .i64 10]
def opV:List (List PV):=[[.str [43],.int .i64 3],[.str [45],.int .i64 3],[.str [42],.int .i64 4],[.str [47],.int .i64 4],[.str [37],.int .i64 4],[.str [60],.int .i64 2],[.str [61],.int .i64 2],[.str [38],.int .i64 1]]
def lvl(op:Int):Int:=if op=10 then 1 else if op=8 then 2 else if op=9 then 2 else if op=3 then 3 else if op=4 then 3 else 4
def sgB(op:Int):UInt8:=if op=3 then 43 else if op=4 then 45 else if op=5 then 42 else if op=6 then 47 else if op=7 then 37 else if op=8 then 60 else if op=9 then 61 else 38
def sgn(op:Int):Option AV:=if 3<=op/\op<=10 then some (.agg [.p (.str [sgB op]),.p (.int .i64 (lvl op))]) else none
theorem Ec(op:Int):(opK.all λk'=>(keq (.int .i64 op) k').isSome)=true:=by simp[opK,keq]
theorem Ew(op:Int):fX (.int .i64 op) (Gf opK opV)=some (sgn op):=by
 by_cases h:3<=op/\op<=10
 ·have h8:op=3\/op=4\/op=5\/op=6\/op=7\/op=8\/op=9\/op=10:=by omega
  rcases h8 with rfl|rfl|rfl|rfl|rfl|rfl|rfl|rfl<;>rfl
 ·have e:sgn op=none:=if_neg h
  have h3:¬op=3:=by omega
  have h4:¬op=4:=by omega
  have h5:¬op=5:=by omega
  have h6:¬op=6:=by omega
  have h7:¬op=7:=by omega
  have h8:¬op=8:=by omega
  have h9:¬op=9:=by omega
  have h10:¬op=10:=by omega
  rw[e]
  simp[opK,opV,Gf,fX,keq,h3,h4,h5,h6,h7,h8,h9,h10]
theorem DX(op:Int):0<lvl op:=by
 unfold lvl
 repeat' split
 all_goals omega
theorem LY(op:Int):lvl op<6:=by
 unfold lvl
 repeat' split
 all_goals omega
def lvI(op:Int):Int:=if 3<=op/\op<=10 then lvl op else if op=11\/op=12 then 5 else 6
mutual
def Ex.deep:Ex->Nat
 | .mk _ _ _ k=>1+kI k
def kI:List Ex->Nat
 |[]=>0
 |e::r=>max e.deep (kI r)
end
theorem Ex.deep_eq(e:Ex):e.deep=1+kI e.kids:=by cases e;rfl
theorem AM:∀a b:List Ex,kI (a++b)=max (kI a) (kI b)
 |[],b=>by simp[kI]
 |e::r,b=>by rw[QO,kI,kI,AM r b];omega
mutual
theorem Ex.deep_le:∀e:Ex,e.deep<=e.sz
 | .mk _ _ s k=>by have:=Al k;simp only[Ex.deep,Ex.sz];omega
theorem Al:∀l:List Ex,kI l<=bZ l
 |[]=>Qi _
 |e::r=>by have:=e.deep_le;have:=Al r;simp only[kI,bZ];omega
end
theorem mY{α:Type}{p:α->Bool}{xs:List α}{i:Nat}{c:α}(h:xs[i]?=some c):(xs.take (i+1)).all p=((xs.take i).all p&&p c):=by
 rw[List.take_add_one,h,List.all_append];simp
def okE(m:Nat)(e:Ex):Bool:=aR m e&&decide (e.parts<=30)
def tG:Nat->Ex->Bool
 |0,_=>false
 |m+1,e=>il e&&e.kids.all (okE m)
theorem Ct:∀{l:List Ex} {e:Ex},e∈l->e.parts<=aK l
 |x::r,e,h=>by
  simp only[aK]
  rcases QH.1 h with rfl|h
  ·omega
  ·have:=Ct h;omega
theorem Eo(m:Nat)(e:Ex):(tG m e&&decide (e.parts<=30))=okE m e:=by
 cases m with
 |zero=>simp[tG,okE,aR]
 |succ m=>
  by_cases hp:e.parts<=30
  ·have h2:e.kids.all (okE m)=e.kids.all (aR m):=by
    rw[Bool.eq_iff_iff,Qh,Qh]
    refine⟨λh x hx=>?_,λh x hx=>?_⟩
    ·have:=h x hx;simp only[okE,Qs] at this;exact this.1
    ·have h1:=h x hx
     have:=Ct hx
     have:=e.parts_eq
     simp only[okE,h1,Bool.true_and]
     simp;omega
   simp[tG,okE,aR,h2]
  ·simp[okE,hp]
theorem KN(e:Ex):okE 6 e=lg e:=rfl
def szA(m:Nat)(e:Ex):AV:=if tG m e then .tup [.p (.int .i64 e.parts),.p (.int .i64 e.deep),.p (.bool (decide (e.parts<=30)))] else .tup [.p (.int .i64 0),.p (.int .i64 0),.p (.bool false)]
def bQ(e:Ex):Bool:=inR e.op 1 13&&(if e.op=1 then inR e.n 0 255&&decide (e.name=[]) else if e.op=2\/e.op=13 then aA e.name&&decide (e.n=0) else true)
def gg(e:Ex):Bool:=(decide (e.op=1\/e.op=2\/e.op=13)||(decide (e.n=0)&&decide (e.name=[])))&&inR e.kids.length (loK e.op) (hiK e.op)
theorem pj:aA []=false:=rfl
theorem AN(e:Ex):il e=(bQ e&&gg e):=by
 unfold il bQ gg BN
 by_cases h1:e.op=1
 ·simp only[h1]
  cases inR (e.kids.length:Int) (loK 1:Nat) (hiK 1:Nat)<;>by_cases hn:e.name=[]<;>cases h2:inR e.n 0 255<;>simp[hn,pj,inR]
 by_cases h2:e.op=2
 ·simp only[h2]
  cases inR (e.kids.length:Int) (loK 2:Nat) (hiK 2:Nat)<;>cases hi:aA e.name<;>by_cases hn:e.n=0<;>simp[hn,inR]
 by_cases h3:e.op=13
 ·simp only[h3]
  cases inR (e.kids.length:Int) (loK 13:Nat) (hiK 13:Nat)<;>cases hi:aA e.name<;>by_cases hn:e.n=0<;>simp[hn,inR]
 ·cases inR e.op 1 13<;>cases inR (e.kids.length:Int) (loK e.op:Nat) (hiK e.op:Nat)<;>by_cases hn:e.n=0<;>by_cases hm:e.name=[]<;>simp[h1,h2,h3,hn,hm,pj,inR]
variable (G:aq) (hK:G iq=some gr) (hS:G dN=some [.tbl opK opV])
include hS
theorem FQ(op:Int):VF Tryz.prog G jx [.p (.int .i64 op)] (.p (.int .i64 (lvI op))):=by
 refine AC.go uX ?_
 have hall:=Ec op
 have hget:=Ew op
 have hS':=hS
 unfold dN at hS'
 have hlp:=DX op
 by_cases h:3<=op/\op<=10
 ·have e:sgn op=some (.agg [.p (.str [sgB op]),.p (.int .i64 (lvl op))]):=if_pos h
  have e2:lvI op=lvl op:=if_pos h
  rw[e2]
  generalize lvl op=L at*
  simp-implicitDefEqProofs[dZ,hS',hall,hget,e,hlp]
 ·have e:sgn op=none:=if_neg h
  by_cases h11:op=11
  ·subst h11;simp-implicitDefEqProofs[dZ,hS',hall,hget,e,lvI]
  by_cases h12:op=12
  ·subst h12;simp-implicitDefEqProofs[dZ,hS',hall,hget,e,lvI]
  have e2:lvI op=6:=by rw[lvI,if_neg h,if_neg (by simp[h11,h12])]
  simp-implicitDefEqProofs[dZ,hS',hall,hget,e,e2,h11,h12]
include hK
theorem Dt:∀(m:Nat) (e:Ex),e.sz<=1073741824->m<=100->VF Tryz.prog G fm [.agg (e.cs.map .p),.p (.int .i64 m)] (szA m e):=by
 intro m
 induction m using Nat.strongRecOn with
 |_ m ih=>
 intro e he hm
 have hec:=e.cs_eq
 have hsz:=e.sz_eq
 have hkl:=aS e.kids
 have hS':=hS
 unfold dN at hS'
 have hall:=Ec e.op
 have hget:=Ew e.op
 have hxl:exL e.kids= .lst 4 (e.kids.map Ex.cs):=rfl
 have hbad:(bQ e&&gg e&&decide (1<=m))=false->szA m e= .tup [.p (.int .i64 0),.p (.int .i64 0),.p (.bool false)]:=by
  intro h
  have:tG m e=false:=by
   cases m with
   |zero=>rfl
   |succ m=>rw[tG,AN];simp at h;cases h1:bQ e<;>cases h2:gg e<;>simp[h1,h2] at h⊢
  rw[szA,this];rfl
 have hb1:bQ e=false->szA m e= .tup [.p (.int .i64 0),.p (.int .i64 0),.p (.bool false)]:=λh=>hbad (by rw[h];rfl)
 refine AC.goK tP tO ?_
 simp-implicitDefEqProofs[iy,iz,hec]
 refine sO (λ_:Unit=>ag 127 [(1,.p (.int .i64 m)),(2,.ptr 0 4 0 0),(7,.p (.int .i64 (loK e.op))),(8,.p (.int .i64 (hiK e.op)))]) (λ_=>[.row 4 [[.p (.int .i64 e.op),.p (.int .i64 e.n),.p (.str e.name),.p (exL e.kids)]]]) (λ_=>bQ e=true) ?_ ?_
 ·have fin:∀(r1:List (Nat × AV)),Aw.look r1 1= .p (.int .i64 m)->Aw.look r1 2= .ptr 0 4 0 0->Aw.look r1 7= .p (.int .i64 (loK e.op))->Aw.look r1 8= .p (.int .i64 (hiK e.op))->
   Wk 0 (ag 127 r1) [.row 4 [[.p (.int .i64 e.op),.p (.int .i64 e.n),.p (.str e.name),.p (exL e.kids)]]] (ag 127 [(1,.p (.int .i64 m)),(2,.ptr 0 4 0 0),(7,.p (.int .i64 (loK e.op))),(8,.p (.int .i64 (hiK e.op)))]) [.row 4 [[.p (.int .i64 e.op),.p (.int .i64 e.n),.p (.str e.name),.p (exL e.kids)]]]:=λr1 a b c d=>
   ab (by simp) (by simp[okO,below]) (by simp[below,a,b,c,d])
  have hop1:inR (1:Int) 1 13=true:=rfl
  have hop2:inR (2:Int) 1 13=true:=rfl
  have hop13:inR (13:Int) 1 13=true:=rfl
  by_cases o1:e.op=1
  ·rw[o1] at fin⊢
   simp-implicitDefEqProofs[o1]
   refine(Gt G _).use ?_
   by_cases h1:inR e.n 0 255=true
   ·by_cases h2:e.name=[]
    ·have hp:bQ e=true:=by simp[bQ,o1,h1,h2,hop1]
     rw[h2] at fin
     simp-implicitDefEqProofs[h1,h2,hp]
     exact fin _ (by simp) (by simp) (by simp[loK]) (by simp[hiK])
    ·have hp:bQ e=false:=by simp[bQ,o1,h1,h2,hop1]
     rw[hb1 hp]
     simp-implicitDefEqProofs[h1,h2]
   ·have hp:bQ e=false:=by simp[bQ,o1,h1,hop1]
    rw[hb1 hp]
    simp-implicitDefEqProofs[h1]
  by_cases o2:e.op=2
  ·rw[o2] at fin⊢
   simp-implicitDefEqProofs[o2]
   refine(my G hK _ (by omega)).use ?_
   by_cases h1:aA e.name=true
   ·by_cases h2:e.n=0
    ·have hp:bQ e=true:=by simp[bQ,o2,h1,h2,hop2]
     rw[h2] at fin
     simp-implicitDefEqProofs[h1,h2,hp]
     exact fin _ (by simp) (by simp) (by simp[loK]) (by simp[hiK])
    ·have hp:bQ e=false:=by simp[bQ,o2,h1,h2,hop2]
     rw[hb1 hp]
     simp-implicitDefEqProofs[h1,h2]
   ·have hp:bQ e=false:=by simp[bQ,o2,h1,hop2]
    rw[hb1 hp]
    simp-implicitDefEqProofs[h1]
  by_cases o13:e.op=13
  ·rw[o13] at fin⊢
   simp-implicitDefEqProofs[o13]
   refine(my G hK _ (by omega)).use ?_
   by_cases h1:aA e.name=true
   ·by_cases h2:e.n=0
    ·have hp:bQ e=true:=by simp[bQ,o13,h1,h2,hop13]
     rw[h2] at fin
     simp-implicitDefEqProofs[h1,h2,hp]
     exact fin _ (by simp) (by simp) (by simp[loK]) (by simp[hiK])
    ·have hp:bQ e=false:=by simp[bQ,o13,h1,h2,hop13]
     rw[hb1 hp]
     simp-implicitDefEqProofs[h1,h2]
   ·have hp:bQ e=false:=by simp[bQ,o13,h1,hop13]
    rw[hb1 hp]
    simp-implicitDefEqProofs[h1]
  have hlp:=DX e.op
  by_cases h:3<=e.op/\e.op<=10
  ·have es:sgn e.op=some (.agg [.p (.str [sgB e.op]),.p (.int .i64 (lvl e.op))]):=if_pos h
   have hp:bQ e=true:=by simp[bQ,o1,o2,o13,inR];omega
   have o11:¬e.op=11:=by omega
   have o12:¬e.op=12:=by omega
   have elo:loK e.op=2:=by simp[loK,o1,o2,o11,o12,o13]
   have ehi:hiK e.op=2:=by simp[hiK,o1,o2,o11,o12,o13]
   generalize lvl e.op=L at*
   simp-implicitDefEqProofs[o1,o2,o13,hS',hall,hget,es,hlp,hp]
   exact fin _ (by simp) (by simp) (by simp[elo]) (by simp[ehi])
  have es:sgn e.op=none:=if_neg h
  by_cases o11:e.op=11
  ·have hp:bQ e=true:=by simp[bQ,o11,inR]
   have elo:loK e.op=1:=by simp[loK,o11]
   have ehi:hiK e.op=1:=by simp[hiK,o11]
   rw[o11] at hall hget es fin
   simp-implicitDefEqProofs[o11,hS',hall,hget,es,hp]
   exact fin _ (by simp) (by simp) (by simp[loK]) (by simp[hiK])
  by_cases o12:e.op=12
  ·have hp:bQ e=true:=by simp[bQ,o12,inR]
   rw[o12] at hall hget es fin
   simp-implicitDefEqProofs[o12,hS',hall,hget,es,hp]
   exact fin _ (by simp) (by simp) (by simp[loK]) (by simp[hiK])
  ·have hp:bQ e=false:=by simp[bQ,o1,o2,o13,inR];omega
   rw[hb1 hp]
   simp-implicitDefEqProofs[o1,o2,o13,hS',hall,hget,es,o11,o12]
 intro _ hp
 have hop:1<=e.op/\e.op<=13:=by
  simp only[bQ,Qs,inR,decide_eq_true_eq] at hp
  exact hp.1
 have hb2:gg e=false->szA m e= .tup [.p (.int .i64 0),.p (.int .i64 0),.p (.bool false)]:=λh=>hbad (by rw[h];simp)
 have hb3:m<1->szA m e= .tup [.p (.int .i64 0),.p (.int .i64 0),.p (.bool false)]:=by
  intro h
  have hd:decide (1<=m)=false:=by simp;omega
  exact hbad (by rw[hd];simp)
 refine sO (λ_:Unit=>ag 127 [(1,.p (.int .i64 m)),(2,.ptr 0 4 0 0)]) (λ_=>[.row 4 [[.p (.int .i64 e.op),.p (.int .i64 e.n),.p (.str e.name),.p (exL e.kids)]]]) (λ_=>gg e=true/\1<=m) ?_ ?_
 ·have fin:∀(r1:List (Nat × AV)),Aw.look r1 1= .p (.int .i64 m)->Aw.look r1 2= .ptr 0 4 0 0->
   Wk 0 (ag 127 r1) [.row 4 [[.p (.int .i64 e.op),.p (.int .i64 e.n),.p (.str e.name),.p (exL e.kids)]]] (ag 127 [(1,.p (.int .i64 m)),(2,.ptr 0 4 0 0)]) [.row 4 [[.p (.int .i64 e.op),.p (.int .i64 e.n),.p (.str e.name),.p (exL e.kids)]]]:=λr1 a b=>
   ab (by simp) (by simp[okO,below]) (by simp[below,a,b])
  simp-implicitDefEqProofs[]
  refine(FQ G hS e.op).use ?_
  by_cases ho:e.op=1\/e.op=2\/e.op=13
  ·have hlv:lvI e.op=6:=by
    rw[lvI,if_neg (by omega),if_neg (by omega)]
   have hd:decide (e.op=1\/e.op=2\/e.op=13)=true:=by simpa using ho
   simp-implicitDefEqProofs[hlv,hxl]
   refine(mW G _ _ _).use ?_
   by_cases hk:inR e.kids.length (loK e.op) (hiK e.op)=true
   ·have hr:gg e=true:=by rw[gg,hd,hk];rfl
    by_cases hm1:m<1
    ·have hm1':(m:Int)<1:=by omega
     rw[hb3 hm1]
     simp-implicitDefEqProofs[hk,hm1']
    ·have hm1':¬(m:Int)<1:=by omega
     have hm2:1<=m:=by omega
     simp-implicitDefEqProofs[hk,hm1',hr,hm2]
     exact fin _ (by simp) (by simp)
   ·have hk':inR e.kids.length (loK e.op) (hiK e.op)=false:=by simpa using hk
    have hr:gg e=false:=by rw[gg,hk',Bool.and_false]
    rw[hb2 hr]
    simp-implicitDefEqProofs[hk']
  ·have hlv:lvI e.op<6:=by
    have:=LY e.op
    unfold lvI
    split
    ·exact this
    ·rw[if_pos (by omega)];omega
   have hd:decide (e.op=1\/e.op=2\/e.op=13)=false:=by simpa using ho
   generalize lvI e.op=L at hlv⊢
   by_cases h1:e.n=0
   ·by_cases h2:e.name=[]
    ·have hz:decide (e.n=0)=true/\decide (e.name=[])=true:=by simp[h1,h2]
     simp-implicitDefEqProofs[hlv,h1,h2,hxl]
     refine(mW G _ _ _).use ?_
     rw[h1,h2] at fin
     by_cases hk:inR e.kids.length (loK e.op) (hiK e.op)=true
     ·have hr:gg e=true:=by rw[gg,hd,hk,hz.1,hz.2];rfl
      by_cases hm1:m<1
      ·have hm1':(m:Int)<1:=by omega
       rw[hb3 hm1]
       simp-implicitDefEqProofs[hk,hm1']
      ·have hm1':¬(m:Int)<1:=by omega
       have hm2:1<=m:=by omega
       simp-implicitDefEqProofs[hk,hm1',hr,hm2]
       exact fin _ (by simp) (by simp)
     ·have hk':inR e.kids.length (loK e.op) (hiK e.op)=false:=by simpa using hk
      have hr:gg e=false:=by rw[gg,hk',Bool.and_false]
      rw[hb2 hr]
      simp-implicitDefEqProofs[hk']
    ·have hr:gg e=false:=by rw[gg,hd];simp[h2]
     rw[hb2 hr]
     simp-implicitDefEqProofs[hlv,h1,h2]
   ·have hr:gg e=false:=by rw[gg,hd];simp[h1]
    rw[hb2 hr]
    simp-implicitDefEqProofs[hlv,h1]
 rintro _ ⟨hr,hm1⟩
 have hhd:il e=true:=by rw[AN,hp,hr];rfl
 obtain⟨m',rfl⟩:∃m',m=m'+1:=⟨m-1,by omega⟩
 have hszO:tG (m'+1) e=e.kids.all (okE m'):=by rw[tG,hhd];rfl
 have hpe:=e.parts_eq
 have hde:=e.deep_eq
 have hpl:=e.parts_le
 have hwm:IntKind.i64.wrap (((m'+1:Nat):Int)-1)=(m':Int):=by rw[ah (by omega) (by omega)];omega
 simp-implicitDefEqProofs[hxl]
 refine an (λi:Nat=>ag 127 [(1,.p (.int .i64 ((m':Int)+1))),(2,.ptr 0 4 0 0),(9,.p (.int .i64 ((1+aK (e.kids.take i):Nat):Int))),(10,.p (.int .i64 ((1+kI (e.kids.take i):Nat):Int))),(99,.p (exL e.kids)),(100,.p (.int .i64 e.kids.length)),(101,.p (.int .i64 i))])
  (λ_=>[.row 4 [[.p (.int .i64 e.op),.p (.int .i64 e.n),.p (.str e.name),.p (exL e.kids)]]]) (λi=>i<=e.kids.length/\(e.kids.take i).all (okE m')=true) (λi=>e.kids.length-i) 0 (by simp) ?_ ?_
 ·exact ab (by simp) (by simp[okO,below]) (by simp[below,hxl,aK,kI])
 rintro i ⟨hi,ha⟩
 have hwm':IntKind.i64.wrap (m':Int)=(m':Int):=ah (by omega) (by omega)
 simp-implicitDefEqProofs[hxl]
 refine aQ (λh=>?_) (λh=>?_)
 ·simp at h
  have hg:=Qd h
  have hks:=aF (Qj h)
  have hkc:=e.kids[i].cs_eq
  have hpt:aK (e.kids.take (i+1))=aK (e.kids.take i)+e.kids[i].parts:=by rw[al h,dT];simp[aK]
  have hdt:kI (e.kids.take (i+1))=max (kI (e.kids.take i)) e.kids[i].deep:=by rw[al h,AM];simp[kI]
  have hpl1:aK (e.kids.take (i+1))<=e.parts:=by
   have:=dT (e.kids.take (i+1)) (e.kids.drop (i+1))
   rw[QN] at this
   omega
  have hok:=Eo m' e.kids[i]
  have hdl:e.kids[i].deep<=e.kids[i].sz:=Ex.deep_le _
  have hdl2:kI (e.kids.take i)<=e.sz:=by
   have h1:=Al (e.kids.take i)
   have h2:=tn (e.kids.take i) (e.kids.drop i)
   rw[QN] at h2
   omega
  generalize e.kids[i]=c at*
  simp-implicitDefEqProofs[hg,hkc,hwm']
  have hI:=ih m' (by omega) c (by omega) (by omega)
  rw[hkc] at hI
  by_cases ho:okE m' c=true
  ·have h1:tG m' c=true/\c.parts<=30:=by rw[ho] at hok;simpa using hok
   have hA:szA m' c= .tup [.p (.int .i64 c.parts),.p (.int .i64 c.deep),.p (.bool true)]:=by rw[szA,if_pos h1.1];simp[h1.2]
   rw[hA] at hI
   refine hI.use ?_
   have hw1:IntKind.i64.wrap (1+(aK (e.kids.take i):Int)+(c.parts:Int))=((1+aK (e.kids.take (i+1)):Nat):Int):=by rw[ah (by omega) (by omega)];omega
   have hw2:IntKind.i64.wrap ((c.deep:Int)+1)=(c.deep:Int)+1:=ah (by omega) (by omega)
   have hmx:(if 1+(kI (e.kids.take i):Int)<(c.deep:Int)+1 then(c.deep:Int)+1 else 1+(kI (e.kids.take i):Int))=1+(kI (e.kids.take (i+1)):Int):=by
    rw[hdt];split<;>omega
   simp-implicitDefEqProofs[hw1,hw2,hmx]
   refine⟨i+1,⟨h,by rw[←Qh,mY hg,ha,ho];rfl⟩,by omega,?_⟩
   refine ka (m:=1) (by omega) (fg rfl rfl (by simp[okO,below])) (by simp[below,hxl,w1 (i:=i) (by omega)])
  ·have hf:e.kids.all (okE m')=false:=List.all_eq_false.2 ⟨c,Ql hg,by simpa using ho⟩
   have hA2:szA (m'+1) e= .tup [.p (.int .i64 0),.p (.int .i64 0),.p (.bool false)]:=by rw[szA,hszO,hf];rfl
   rw[hA2]
   by_cases h1:tG m' c=true
   ·have h2:¬c.parts<=30:=λh2=>ho (by rw[←hok,h1];simpa using h2)
    have hA:szA m' c= .tup [.p (.int .i64 c.parts),.p (.int .i64 c.deep),.p (.bool false)]:=by rw[szA,if_pos h1];simp[h2]
    rw[hA] at hI
    refine hI.use ?_
    simp-implicitDefEqProofs[]
   ·have hA:szA m' c= .tup [.p (.int .i64 0),.p (.int .i64 0),.p (.bool false)]:=by rw[szA,if_neg h1]
    rw[hA] at hI
    refine hI.use ?_
    simp-implicitDefEqProofs[]
 ·simp at h
  rw[Qk h] at ha⊢
  have hA:szA (m'+1) e= .tup [.p (.int .i64 e.parts),.p (.int .i64 e.deep),.p (.bool (decide (e.parts<=30)))]:=by rw[szA,hszO,ha];rfl
  rw[hA,hpe,hde]
  simp-implicitDefEqProofs[]
  omega
theorem Bq(e:Ex)(he:e.sz<=1073741824):VF Tryz.prog G eb [.agg (e.cs.map .p)] (.p (.bool (lg e))):=by
 refine AC.go sA ?_
 have hec:=e.cs_eq
 have hx:=Dt G hK hS 6 e he (by omega)
 rw[hec] at hx
 simp-implicitDefEqProofs[ln,hec]
 rw[←KN,←Eo]
 unfold szA at hx
 by_cases h:tG 6 e=true
 ·rw[if_pos h] at hx
  rw[h]
  refine hx.use ?_
  simp-implicitDefEqProofs[]
 ·have h':tG 6 e=false:=by simpa using h
  rw[if_neg h] at hx
  rw[h']
  refine hx.use ?_
  simp-implicitDefEqProofs[]
end
section
theorem fJ:∀l:List Ex,be l=l.map ey
 |[]=>rfl
 |e::r=>by rw[be,fJ r];rfl
mutual
def rF:Sm->Sm
 | .mk o s a bd el=> .mk o s (be a) (bV bd) (bV el)
def bV:List Sm->List Sm
 |[]=>[]
 |s::r=>rF s::bV r
end
theorem nr:∀l:List Sm,bV l=l.map rF
 |[]=>rfl
 |e::r=>by rw[bV,nr r];rfl
def Ls(f:Fd):Fd:=⟨f.name,f.params,bV f.body⟩
def Ll(l:List Fd):List Fd:=l.map Ls
def P5(o n:Int)(s:List UInt8)(ks:List Ex)(x:Ex):Prop:=
 x= .mk o n s ks\/(∃q,x=rZ q/\((∀a∈ks,a.op=1->V5 a.n)->V5 q))\/(∃a∈ks,x=a)\/∃a∈ks,∃c∈a.kids,x=c
theorem GK{o a b q:Int}(ha:V5 a)(hb:V5 b)(h:ar5 o a b=some q):V5 q:=by
 unfold ar5 at h
 split at h
 ·cases h;exact pF _
 ·exact ET ha hb h
theorem JX(o n:Int)(s:List UInt8)(a:Ex):P5 o n s [a] (pC o n s a):=by
 unfold pC
 split
 ·exact .inr (.inl ⟨_,rfl,λ_=>pF _⟩)
 ·split
  ·rename_i c hc
   split
   ·exact .inr (.inr (.inr ⟨a,by simp,c,by rw[hc];simp,rfl⟩))
   ·exact .inl rfl
  ·exact .inl rfl
theorem Kt(o n:Int)(s:List UInt8)(a b:Ex):P5 o n s [a,b] (tC o n s a b):=by
 unfold tC
 split
 ·rename_i q hq
  split at hq
  ·rename_i h
   exact .inr (.inl ⟨q,rfl,λhv=>GK (hv a (by simp) h.1) (hv b (by simp) h.2) hq⟩)
  ·cases hq
 ·split
  ·exact .inr (.inl ⟨0,rfl,λ_=>⟨by omega,by omega⟩⟩)
  ·split
   ·exact .inr (.inr (.inl ⟨a,by simp,rfl⟩))
   ·split
    ·exact .inr (.inr (.inl ⟨b,by simp,rfl⟩))
    ·split
     ·exact .inr (.inl ⟨0,rfl,λ_=>⟨by omega,by omega⟩⟩)
     ·exact .inl rfl
theorem Eg(o n:Int)(s:List UInt8)(ks:List Ex):P5 o n s ks (kJ o n s ks):=by
 unfold kJ
 split
 ·exact .inl rfl
 ·split
  ·exact JX o n s _
  ·exact Kt o n s _ _
  ·exact .inl rfl
theorem zT{e:Ex}(h:il e=true):V5 e.n:=by
 simp only[il,Qs,inR,decide_eq_true_eq] at h
 exact⟨h.1.2.1,h.1.2.2⟩
theorem iQ{d:Nat}{e a:Ex}(h:aR (d+1) e=true)(ha:a∈e.kids):aR d a=true:=by
 rw[aR,Qs] at h
 exact Qh.1 h.2 a ha
theorem lM{d:Nat}{e:Ex}(h:aR d e=true):il e=true:=by
 cases d with
 |zero=>cases h
 |succ d=>rw[aR,Qs] at h;exact h.1
theorem rh:∀{d:Nat} {e:Ex},aR d e=true->aR (d+1) e=true
 |0,e,h=>by cases h
 |d+1,e,h=>by
  have h0:=h
  rw[aR,Qs] at h
  rw[aR,Qs]
  exact⟨h.1,Qh.2 λa ha=>rh (iQ h0 ha)⟩
theorem FP{d:Nat}{q:Int}(h:V5 q):aR (d+1) (rZ q)=true:=by
 obtain⟨h0,h1⟩:=h
 have:aA []=false:=by decide
 simp[aR,rZ,il,inR,Ex.op,Ex.kids,Ex.name,Ex.n,loK,hiK,BN,this,h0,h1]
theorem Jx{d:Nat}{o n:Int}{s:List UInt8}{ks:List Ex}{x:Ex}(h:aR (d+1) (.mk o n s ks)=true)(hx:P5 o n s ks x):aR (d+1) x=true:=by
 have hk:∀a∈ks,aR d a=true:=λa ha=>iQ h ha
 rcases hx with rfl|⟨q,rfl,hq⟩|⟨a,ha,rfl⟩|⟨a,ha,c,hc,rfl⟩
 ·exact h
 ·exact FP (hq λa ha _=>zT (lM (hk a ha)))
 ·exact rh (hk _ ha)
 ·have h1:=hk a ha
  cases d with
  |zero=>cases h1
  |succ d=>exact rh (rh (iQ h1 hc))
theorem xX:∀(d:Nat) (e:Ex),aR d e=true->aR d (ey e)=true
 |0,e,h=>by cases h
 |d+1,.mk o n s ks,h=>by
  rw[ey]
  refine Jx ?_ (Eg o n s (be ks))
  rw[aR,Qs] at h⊢
  refine⟨?_,?_⟩
  ·have h1:=h.1
   simp only[il,Ex.op,Ex.n,Ex.name,Ex.kids,fJ,Qu] at h1⊢
   exact h1
  ·have h2:=h.2
   simp only[Ex.kids,fJ,Qh] at h2⊢
   intro x hx
   obtain⟨e,he,rfl⟩:=Qx.1 hx
   exact xX d e (h2 e he)
section
variable {fns fns':List Fd} (hL:Like fns fns')
include hL
end
end
section
theorem IS(e:Ex):ey e=kJ e.op e.n e.name (be e.kids):=by cases e;rw[ey];rfl
theorem Cn(x:Sm):rF x= .mk x.op x.name (be x.args) (bV x.body) (bV x.els):=by cases x;rw[rF];rfl
theorem zs{d:Nat}{e:Ex}(h:aR d e=true):∃c,d=c+1:=by
 cases d with
 |zero=>cases h
 |succ d=>exact⟨d,rfl⟩
theorem vZ{d:Nat}{e:Sm}(h:ay d e=true):∃c,d=c+1:=by
 cases d with
 |zero=>cases h
 |succ d=>exact⟨d,rfl⟩
theorem DL{d:Nat}{x:Sm}(h:ay d x=true):∀a∈x.args,aR 6 a=true:=by
 obtain⟨d,rfl⟩:=vZ h
 rw[ay,Qs,Qs] at h
 have h1:=h.1.1
 simp only[ig,Qs,Qh] at h1
 intro a ha
 exact Fl (h1.1.1.1.2 a ha)
theorem px{d:Nat}{x:Sm}(h:ay (d+1) x=true):∀y∈x.body,ay d y=true:=by
 rw[ay,Qs,Qs] at h
 exact Qh.1 h.1.2
theorem sv{d:Nat}{x:Sm}(h:ay (d+1) x=true):∀y∈x.els,ay d y=true:=by
 rw[ay,Qs,Qs] at h
 exact Qh.1 h.2
theorem DQ{d:Nat}{e:Ex}(h:aR d e=true):aR d (.mk e.op e.n e.name (be e.kids))=true:=by
 obtain⟨d,rfl⟩:=zs h
 rw[aR,Qs] at h⊢
 refine⟨?_,?_⟩
 ·have h1:=h.1
  obtain⟨o,n,s,ks⟩:=e
  simp only[il,Ex.op,Ex.n,Ex.name,Ex.kids,fJ,Qu] at h1⊢
  exact h1
 ·have h2:=h.2
  show(be e.kids).all (aR d)=true
  simp only[fJ,Qh] at h2⊢
  intro x hx
  obtain⟨e,he,rfl⟩:=Qx.1 hx
  exact xX d e (h2 e he)
theorem gn{d:Nat}{e:Ex}(h:aR d e=true):loK e.op<=e.kids.length/\e.kids.length<=hiK e.op/\1<=e.op/\e.op<=13:=by
 have h:=lM h
 simp only[il,Qs,inR,decide_eq_true_eq] at h
 obtain⟨⟨⟨⟨⟨h1,h2⟩,_⟩,_⟩,_⟩,_⟩:=h
 exact⟨by omega,by omega,h1.1,h1.2⟩
theorem Ju{d:Nat}{e a:Ex}(h:aR d e=true)(hk:e.kids=[a])(h2:¬(e.op=12\/e.op=13)):e.op=11:=by
 obtain⟨h1,h3,h4,h5⟩:=gn h
 rw[hk] at h1 h3
 simp only[loK,hiK,Qw,List.length_nil] at h1 h3
 split at h1
 ·rename_i hh;rw[if_pos hh] at h3;omega
 ·split at h1
  ·omega
  ·rw[if_neg (by omega)] at h1
   omega
theorem Hi{d:Nat}{e a b:Ex}(h:aR d e=true)(hk:e.kids=[a,b])(h2:¬(e.op=12\/e.op=13)):3<=e.op/\e.op<=10:=by
 obtain⟨h1,h3,h4,h5⟩:=gn h
 rw[hk] at h1 h3
 simp only[loK,hiK,Qw,List.length_nil] at h1 h3
 split at h3
 ·omega
 ·split at h3<;>omega
section
variable {l:List Fd} {k:Nat} {v:List Sc5} {s s':S5} {r:O5 Int}
end
end
section
def se(x:Sm)(n:Int):Bool:=match x.args with|a::_=>isN a n|[]=>false
def AL(x:Sm):Bool:=match x.args with|a::_=>decide (a.op=1)|[]=>false
def iB(x:Sm):Bool:=decide (x.op=6)&&se x 0
mutual
def dM:Sm->Sm
 | .mk o s a bd el=> .mk o s a
   (if o=5/\se (.mk o s a bd el) 0=true then[] else aI bd)
   (if o=5/\se (.mk o s a bd el) 0=false/\AL (.mk o s a bd el)=true then[] else aI el)
def aI:List Sm->List Sm
 |[]=>[]
 |s::r=>if iB s=true then aI r else dM s::(if s.op=7 then[] else aI r)
end
theorem gD(s:Sm)(r:List Sm):aI (s::r)=if iB s=true then aI r else dM s::(if s.op=7 then[] else aI r):=by rw[aI]
def Ja(f:Fd):Fd:=⟨f.name,f.params,aI f.body⟩
def jG(l:List Fd):List Fd:=l.map Ja
theorem Kq(x:Sm):(dM x).op=x.op:=by cases x;rw[dM];rfl
theorem Fu(x:Sm):(dM x).name=x.name:=by cases x;rw[dM];rfl
theorem Fe(x:Sm):(dM x).args=x.args:=by cases x;rw[dM];rfl
theorem KJ(x:Sm):(dM x).body=if x.op=5/\se x 0=true then[] else aI x.body:=by cases x;rw[dM];rfl
theorem Jm(x:Sm):(dM x).els=if x.op=5/\se x 0=false/\AL x=true then[] else aI x.els:=by cases x;rw[dM];rfl
section
variable {l:List Fd} {k:Nat} {v v':List Sc5} {s s':S5} {x:Sm} {r:O5 (Option Int)}
end
end
section
abbrev BL:Nat:=9223372036854775807
mutual
def Ex.fit:Ex->Prop
 | .mk _ _ s k=>s.length<=BL/\k.length<=BL/\lB k
def lB:List Ex->Prop
 |[]=>True
 |e::r=>e.fit/\lB r
end
mutual
def Sm.fit:Sm->Prop
 | .mk _ s a b e=>s.length<=BL/\(a.length<=BL/\lB a)/\(b.length<=BL/\jC b)/\(e.length<=BL/\jC e)
def jC:List Sm->Prop
 |[]=>True
 |s::r=>s.fit/\jC r
end
def Fd.fit(f:Fd):Prop:=f.name.length<=BL/\(f.params.length<=BL/\∀x∈f.params,x.length<=BL)/\(f.body.length<=BL/\jC f.body)
theorem pk:∀{l:List Ex} {e:Ex},lB l->e∈l->e.fit
 |x::r,e,h,hm=>by
  rcases QH.1 hm with rfl|hm
  ·exact h.1
  ·exact pk h.2 hm
theorem oX:∀{l:List Sm} {e:Sm},jC l->e∈l->e.fit
 |x::r,e,h,hm=>by
  rcases QH.1 hm with rfl|hm
  ·exact h.1
  ·exact oX h.2 hm
theorem Ex.fit_eq(e:Ex):e.fit=(e.name.length<=BL/\e.kids.length<=BL/\lB e.kids):=by cases e;rfl
theorem Sm.fit_eq(s:Sm):s.fit=(s.name.length<=BL/\(s.args.length<=BL/\lB s.args)/\(s.body.length<=BL/\jC s.body)/\(s.els.length<=BL/\jC s.els)):=by cases s;rfl
theorem Fd.cs_eq'(f:Fd):f.cs=[.str f.name,aB f.params,smL f.body]:=rfl
def db(ss:List Nat)(i:Nat):Nat:=ss.length+((ss.take i).map (· -1)).sum
theorem sk(ss:List Nat):db ss 0=ss.length:=by simp[db]
theorem sq{ss:List Nat}{i v:Nat}(h:ss[i]?=some v):db ss (i+1)=db ss i+(v-1):=by
 rw[db,db,List.take_add_one,h,Rd,List.sum_append];simp;omega
theorem Ar:∀{ss:List Nat},(∀v∈ss,1<=v)->ss.length+(ss.map (· -1)).sum=ss.sum
 |[],_=>rfl
 |v::r,h=>by
  have:=Ar (ss:=r) λx hx=>h x (by simp[hx])
  have h1:=h v (by simp)
  simp only[Qw,QI,List.sum_cons];omega
theorem ug{ss:List Nat}(h:∀v∈ss,1<=v){i:Nat}(hi:ss.length<=i):db ss i=ss.sum:=by
 rw[db,Qk hi,Ar h]
theorem zO{ss:List Nat}(h:∀v∈ss,1<=v)(i:Nat):db ss i<=ss.sum:=by
 rw[←Ar h,db]
 have:(ss.map (· -1)).sum=((ss.take i).map (· -1)).sum+((ss.drop i).map (· -1)).sum:=by
  conv=>lhs;rw[←QN i ss,Rd,List.sum_append]
 omega
theorem Ck:∀l:List Ex,bZ l=(l.map Ex.sz).sum
 |[]=>rfl
 |e::r=>by simp only[bZ,QI,List.sum_cons,Ck r]
theorem AS:∀l:List Sm,aG l=(l.map Sm.sz).sum
 |[]=>rfl
 |e::r=>by simp only[aG,QI,List.sum_cons,AS r]
theorem HU(l:List Fd):bl l=(l.map Fd.sz).sum:=rfl
theorem Ex.sz_pos(e:Ex):1<=e.sz:=by rw[e.sz_eq];omega
theorem Sm.sz_pos(e:Sm):1<=e.sz:=by rw[e.sz_eq];omega
theorem Fd.sz_pos(f:Fd):1<=f.sz:=by unfold Fd.sz;omega
def bv(left z:Nat):Int:=if z<=left then((left-z:Nat):Int) else-1
variable (G:aq)
theorem zw(l:List Ex)(left:Nat)(hl:left<=1048576)(hb:l.length<=BL)(H:∀e∈l,∀left:Nat,left<=1048576->VF Tryz.prog G gZ [.agg (e.cs.map .p),.p (.int .i64 left)] (.p (.int .i64 (bv left (e.sz-1))))):
 VF Tryz.prog G dV [.p (exL l),.p (.int .i64 left)] (.p (.int .i64 (bv left (bZ l)))):=by
 refine AC.go ve ?_
 have hpos:∀v∈l.map Ex.sz,1<=v:=λv hv=>by obtain⟨e,_,rfl⟩:=Qx.1 hv;exact e.sz_pos
 have hz:=Ck l
 have hal:=λi (hi:l.length<=i)=>ug hpos (i:=i) (by rw[Qu];exact hi)
 have hle:=zO hpos
 have h00:db (l.map Ex.sz) 0=l.length:=by rw[sk,Qu]
 rw[←hz] at hal hle
 have hsl:∀l,exL l= .lst 4 (l.map Ex.cs):=λ_=>rfl
 have hw:IntKind.i64.wrap ((left:Int)-l.length)=(left:Int)-l.length:=ah (by simp only[BL] at hb;omega) (by omega)
 by_cases h:l.length<=left
 case neg=>
  have h1:(left:Int)-l.length<0:=by omega
  have:=hle 0
  have h2:bv left (bZ l)= -1:=if_neg (by omega)
  simp-implicitDefEqProofs[jg,hsl,hw,h1,h2]
 have h1:¬(left:Int)-l.length<0:=by omega
 simp-implicitDefEqProofs[jg,hsl,hw,h1]
 refine an (λi:Nat=>ag 27 [(0,.p (exL l)),(1,.p (.int .i64 ((left-db (l.map Ex.sz) i:Nat):Int))),(5,.p (.int .i64 i))]) (λ_=>[]) (λi=>i<=l.length/\db (l.map Ex.sz) i<=left) (λi=>l.length-i) 0 ⟨by omega,by rw[h00];exact h⟩ ?_ ?_
 ·refine aE rfl ?_
  simp only[h00]
  simp[below,hsl]
  omega
 ·intro i ⟨hi,hx⟩
  simp-implicitDefEqProofs[hsl]
  refine aQ (λh1=>?_) (λh1=>?_)
  ·simp at h1
   have hg:=Qd h1
   have hsu:=sq (ss:=l.map Ex.sz) (i:=i) (v:=l[i].sz) (by rw[Qo,hg];rfl)
   have hH:=H l[i] (Qj h1) (left-db (l.map Ex.sz) i) (by omega)
   have hcs:l[i].cs.length=4:=by simp
   have hle1:=hle (i+1)
   generalize l[i]=e at hg hsu hH hcs
   simp-implicitDefEqProofs[hg,hcs]
   refine hH.use ?_
   by_cases h2:e.sz-1<=left-db (l.map Ex.sz) i
   ·have e2:bv (left-db (l.map Ex.sz) i) (e.sz-1)=((left-db (l.map Ex.sz) (i+1):Nat):Int):=by rw[bv,if_pos h2];omega
    have h3:¬((left-db (l.map Ex.sz) (i+1):Nat):Int)<0:=by omega
    rw[e2]
    simp-implicitDefEqProofs[h3]
    refine⟨i+1,⟨h1,by omega⟩,by omega,aE rfl (by simp[below,hsl,w1 (i:=i) (by simp only[BL] at hb;omega)])⟩
   ·have e2:bv (left-db (l.map Ex.sz) i) (e.sz-1)= -1:=if_neg h2
    have e3:bv left (bZ l)= -1:=if_neg (by omega)
    rw[e2,e3]
    simp-implicitDefEqProofs[]
  ·simp at h1
   have hta:=hal i h1
   have h5:bv left (bZ l)=((left-db (l.map Ex.sz) i:Nat):Int):=by rw[hta,bv,if_pos (by omega)]
   simp-implicitDefEqProofs[h5]
theorem zo(l:List Ex)(hb:l.length<=1048576)(H:∀e∈l,VF Tryz.prog G dA [.agg (e.cs.map .p)] (.agg (e.cs.map .p))):VF Tryz.prog G bG [.p (exL l)] (.p (exL l)):=by
 have hsl:∀l,exL l= .lst 4 (l.map Ex.cs):=λ_=>rfl
 have key:AC Tryz.prog G bG [.p (exL l)] [] λx h=>x= .ret (.sl 0 4 0 l.length)/\h=[.row 4 (l.map λe=>e.cs.map .p)]:=by
  refine AC.go mT ?_
  have hn:(l.map λe=>e.cs.map AV.p).length=l.length:=by simp
  simp-implicitDefEqProofs[iW,hsl]
  refine⟨by omega,?_⟩
  refine an (λi:Nat=>ag 23 [(0,.p (exL l)),(3,.sl 0 4 0 l.length),(4,.p (.int .i64 i))]) (λi=>[.row 4 ((l.map λe=>e.cs.map AV.p).take i++List.replicate (l.length-i) [.p (.int .i64 0),.p (.int .i64 0),.p (.str []),.nils])]) (λi=>i<=l.length) (λi=>l.length-i) 0 (by simp) ?_ ?_
  ·refine cV [0] rfl (by simp) (aN (by simp) (by simp[below]) bJ) ?_
   simp[below,ren,hsl]
  ·intro i hi
   simp-implicitDefEqProofs[hsl]
   refine aQ (λh1=>?_) (λh1=>?_)
   ·simp at h1
    have hg:=Qd h1
    have hg2:=vA (z:=([.p (.int .i64 0),.p (.int .i64 0),.p (.str []),.nils]:List AV)) hn h1
    have hset:=pY (z:=([.p (.int .i64 0),.p (.int .i64 0),.p (.str []),.nils]:List AV)) (v:=l[i].cs.map AV.p) hn h1 (by rw[Qo,hg];rfl)
    have hH:=H l[i] (Qj h1)
    have hcs:=l[i].cs_eq
    have htl:(List.take i (l.map λ(e:Ex)=>e.cs.map AV.p)++List.replicate (l.length-i) ([.p (.int .i64 0),.p (.int .i64 0),.p (.str []),.nils]:List AV)).length=l.length:=by simp;omega
    generalize l[i]=e at hg hset hH hcs
    generalize hRow:(List.take i (l.map λ(e:Ex)=>e.cs.map AV.p)++List.replicate (l.length-i) ([.p (.int .i64 0),.p (.int .i64 0),.p (.str []),.nils]:List AV))=Rw at hg2 hset htl⊢
    rw[hcs] at hH hset
    simp-implicitDefEqProofs[hg,hcs]
    refine hH.use ?_
    simp-implicitDefEqProofs[hg2,h1,dO]
    simp only[QI,List.map_nil] at hset
    rw[hset]
    refine⟨i+1,h1,by omega,cV [0] rfl (by simp) (aN rfl ?_ bJ) ?_⟩
    ·intro x hx
     rcases Qn.1 hx with hx|hx
     ·obtain⟨y,_,rfl⟩:=Qx.1 (QU hx);simp
     ·rw[(List.mem_replicate.1 hx).2];simp[below]
    ·simp[below,ren,hsl,w1 (i:=i) (by omega)]
   ·simp at h1
    have hie:i=l.length:=by omega
    subst hie
    rw[Nat.sub_self,List.replicate_zero,QK,Qk (by rw[hn];exact Qi _)]
    simp-implicitDefEqProofs[]
 refine AC.freeze key (.one ?_ .nil)
 have:=ib (h:=[.row 4 (l.map λe=>e.cs.map .p)]) (id:=0) (sz:=4) (n:=l.length) (ls:=l.map Ex.cs) (by simp) (by simp) (λx hx=>by obtain⟨b,_,rfl⟩:=Qx.1 hx;simp)
 exact this
theorem za(l:List Ex)(hb:l.length<=1048576)(H:∀e∈l,VF Tryz.prog G gR [.agg (e.cs.map .p),.agg (e.cs.map .p)] (.p (.bool true))):VF Tryz.prog G dY [.p (exL l),.p (exL l)] (.p (.bool true)):=by
 refine AC.go yb ?_
 have hsl:∀l,exL l= .lst 4 (l.map Ex.cs):=λ_=>rfl
 simp-implicitDefEqProofs[mH,hsl]
 refine an (λi:Nat=>ag 27 [(0,.p (exL l)),(1,.p (exL l)),(5,.p (.int .i64 i))]) (λ_=>[]) (λi=>i<=l.length) (λi=>l.length-i) 0 (by simp) ?_ ?_
 ·exact aE rfl (by simp[below,hsl])
 intro i hi
 simp-implicitDefEqProofs[hsl]
 refine aQ (λh1=>?_) (λh1=>?_)
 ·simp at h1
  have hg:=Qd h1
  have hH:=H l[i] (Qj h1)
  have hcs:l[i].cs.length=4:=by simp
  generalize l[i]=e at hg hH hcs
  simp-implicitDefEqProofs[hg,hcs]
  refine hH.use ?_
  simp-implicitDefEqProofs[]
  exact⟨i+1,h1,by omega,aE rfl (by simp[below,hsl,w1 (i:=i) (by omega)])⟩
 ·simp at h1
  simp-implicitDefEqProofs[]
theorem zd(l:List Sm)(left:Nat)(hl:left<=1048576)(hb:l.length<=BL)(H:∀e∈l,∀left:Nat,left<=1048576->VF Tryz.prog G ia [.agg (e.cs.map .p),.p (.int .i64 left)] (.p (.int .i64 (bv left (e.sz-1))))):
 VF Tryz.prog G cu [.p (smL l),.p (.int .i64 left)] (.p (.int .i64 (bv left (aG l)))):=by
 refine AC.go ya ?_
 have hpos:∀v∈l.map Sm.sz,1<=v:=λv hv=>by obtain⟨e,_,rfl⟩:=Qx.1 hv;exact e.sz_pos
 have hz:=AS l
 have hal:=λi (hi:l.length<=i)=>ug hpos (i:=i) (by rw[Qu];exact hi)
 have hle:=zO hpos
 have h00:db (l.map Sm.sz) 0=l.length:=by rw[sk,Qu]
 rw[←hz] at hal hle
 have hsl:∀l,smL l= .lst 5 (l.map Sm.cs):=λ_=>rfl
 have hw:IntKind.i64.wrap ((left:Int)-l.length)=(left:Int)-l.length:=ah (by simp only[BL] at hb;omega) (by omega)
 by_cases h:l.length<=left
 case neg=>
  have h1:(left:Int)-l.length<0:=by omega
  have:=hle 0
  have h2:bv left (aG l)= -1:=if_neg (by omega)
  simp-implicitDefEqProofs[jk,hsl,hw,h1,h2]
 have h1:¬(left:Int)-l.length<0:=by omega
 simp-implicitDefEqProofs[jk,hsl,hw,h1]
 refine an (λi:Nat=>ag 27 [(0,.p (smL l)),(1,.p (.int .i64 ((left-db (l.map Sm.sz) i:Nat):Int))),(5,.p (.int .i64 i))]) (λ_=>[]) (λi=>i<=l.length/\db (l.map Sm.sz) i<=left) (λi=>l.length-i) 0 ⟨by omega,by rw[h00];exact h⟩ ?_ ?_
 ·refine aE rfl ?_
  simp only[h00]
  simp[below,hsl]
  omega
 ·intro i ⟨hi,hx⟩
  simp-implicitDefEqProofs[hsl]
  refine aQ (λh1=>?_) (λh1=>?_)
  ·simp at h1
   have hg:=Qd h1
   have hsu:=sq (ss:=l.map Sm.sz) (i:=i) (v:=l[i].sz) (by rw[Qo,hg];rfl)
   have hH:=H l[i] (Qj h1) (left-db (l.map Sm.sz) i) (by omega)
   have hcs:l[i].cs.length=5:=by simp
   have hle1:=hle (i+1)
   generalize l[i]=e at hg hsu hH hcs
   simp-implicitDefEqProofs[hg,hcs]
   refine hH.use ?_
   by_cases h2:e.sz-1<=left-db (l.map Sm.sz) i
   ·have e2:bv (left-db (l.map Sm.sz) i) (e.sz-1)=((left-db (l.map Sm.sz) (i+1):Nat):Int):=by rw[bv,if_pos h2];omega
    have h3:¬((left-db (l.map Sm.sz) (i+1):Nat):Int)<0:=by omega
    rw[e2]
    simp-implicitDefEqProofs[h3]
    refine⟨i+1,⟨h1,by omega⟩,by omega,aE rfl (by simp[below,hsl,w1 (i:=i) (by simp only[BL] at hb;omega)])⟩
   ·have e2:bv (left-db (l.map Sm.sz) i) (e.sz-1)= -1:=if_neg h2
    have e3:bv left (aG l)= -1:=if_neg (by omega)
    rw[e2,e3]
    simp-implicitDefEqProofs[]
  ·simp at h1
   have hta:=hal i h1
   have h5:bv left (aG l)=((left-db (l.map Sm.sz) i:Nat):Int):=by rw[hta,bv,if_pos (by omega)]
   simp-implicitDefEqProofs[h5]
theorem sC(l:List Sm)(hb:l.length<=1048576)(H:∀e∈l,VF Tryz.prog G dz [.agg (e.cs.map .p)] (.agg (e.cs.map .p))):VF Tryz.prog G bn [.p (smL l)] (.p (smL l)):=by
 have hsl:∀l,smL l= .lst 5 (l.map Sm.cs):=λ_=>rfl
 have key:AC Tryz.prog G bn [.p (smL l)] [] λx h=>x= .ret (.sl 0 5 0 l.length)/\h=[.row 5 (l.map λe=>e.cs.map .p)]:=by
  refine AC.go mu ?_
  have hn:(l.map λe=>e.cs.map AV.p).length=l.length:=by simp
  simp-implicitDefEqProofs[ji,hsl]
  refine⟨by omega,?_⟩
  refine an (λi:Nat=>ag 23 [(0,.p (smL l)),(3,.sl 0 5 0 l.length),(4,.p (.int .i64 i))]) (λi=>[.row 5 ((l.map λe=>e.cs.map AV.p).take i++List.replicate (l.length-i) [.p (.int .i64 0),.p (.str []),.nils,.nils,.nils])]) (λi=>i<=l.length) (λi=>l.length-i) 0 (by simp) ?_ ?_
  ·refine cV [0] rfl (by simp) (aN (by simp) (by simp[below]) bJ) ?_
   simp[below,ren,hsl]
  ·intro i hi
   simp-implicitDefEqProofs[hsl]
   refine aQ (λh1=>?_) (λh1=>?_)
   ·simp at h1
    have hg:=Qd h1
    have hg2:=vA (z:=([.p (.int .i64 0),.p (.str []),.nils,.nils,.nils]:List AV)) hn h1
    have hset:=pY (z:=([.p (.int .i64 0),.p (.str []),.nils,.nils,.nils]:List AV)) (v:=l[i].cs.map AV.p) hn h1 (by rw[Qo,hg];rfl)
    have hH:=H l[i] (Qj h1)
    have hcs:=l[i].cs_eq
    have htl:(List.take i (l.map λ(e:Sm)=>e.cs.map AV.p)++List.replicate (l.length-i) ([.p (.int .i64 0),.p (.str []),.nils,.nils,.nils]:List AV)).length=l.length:=by simp;omega
    generalize l[i]=e at hg hset hH hcs
    generalize hRow:(List.take i (l.map λ(e:Sm)=>e.cs.map AV.p)++List.replicate (l.length-i) ([.p (.int .i64 0),.p (.str []),.nils,.nils,.nils]:List AV))=Rw at hg2 hset htl⊢
    rw[hcs] at hH hset
    simp-implicitDefEqProofs[hg,hcs]
    refine hH.use ?_
    simp-implicitDefEqProofs[hg2,h1,dO]
    simp only[QI,List.map_nil] at hset
    rw[hset]
    refine⟨i+1,h1,by omega,cV [0] rfl (by simp) (aN rfl ?_ bJ) ?_⟩
    ·intro x hx
     rcases Qn.1 hx with hx|hx
     ·obtain⟨y,_,rfl⟩:=Qx.1 (QU hx);simp
     ·rw[(List.mem_replicate.1 hx).2];simp[below]
    ·simp[below,ren,hsl,w1 (i:=i) (by omega)]
   ·simp at h1
    have hie:i=l.length:=by omega
    subst hie
    rw[Nat.sub_self,List.replicate_zero,QK,Qk (by rw[hn];exact Qi _)]
    simp-implicitDefEqProofs[]
 refine AC.freeze key (.one ?_ .nil)
 have:=ib (h:=[.row 5 (l.map λe=>e.cs.map .p)]) (id:=0) (sz:=5) (n:=l.length) (ls:=l.map Sm.cs) (by simp) (by simp) (λx hx=>by obtain⟨b,_,rfl⟩:=Qx.1 hx;simp)
 exact this
theorem sc(l:List Sm)(hb:l.length<=1048576)(H:∀e∈l,VF Tryz.prog G gS [.agg (e.cs.map .p),.agg (e.cs.map .p)] (.p (.bool true))):VF Tryz.prog G cX [.p (smL l),.p (smL l)] (.p (.bool true)):=by
 refine AC.go vf ?_
 have hsl:∀l,smL l= .lst 5 (l.map Sm.cs):=λ_=>rfl
 simp-implicitDefEqProofs[mD,hsl]
 refine an (λi:Nat=>ag 27 [(0,.p (smL l)),(1,.p (smL l)),(5,.p (.int .i64 i))]) (λ_=>[]) (λi=>i<=l.length) (λi=>l.length-i) 0 (by simp) ?_ ?_
 ·exact aE rfl (by simp[below,hsl])
 intro i hi
 simp-implicitDefEqProofs[hsl]
 refine aQ (λh1=>?_) (λh1=>?_)
 ·simp at h1
  have hg:=Qd h1
  have hH:=H l[i] (Qj h1)
  have hcs:l[i].cs.length=5:=by simp
  generalize l[i]=e at hg hH hcs
  simp-implicitDefEqProofs[hg,hcs]
  refine hH.use ?_
  simp-implicitDefEqProofs[]
  exact⟨i+1,h1,by omega,aE rfl (by simp[below,hsl,w1 (i:=i) (by omega)])⟩
 ·simp at h1
  simp-implicitDefEqProofs[]
theorem JQ(l:List Fd)(left:Nat)(hl:left<=1048576)(hb:l.length<=BL)(H:∀e∈l,∀left:Nat,left<=1048576->VF Tryz.prog G jW [.agg (e.cs.map .p),.p (.int .i64 left)] (.p (.int .i64 (bv left (e.sz-1))))):
 VF Tryz.prog G lE [.p (fdL l),.p (.int .i64 left)] (.p (.int .i64 (bv left (bl l)))):=by
 refine AC.go Ae ?_
 have hpos:∀v∈l.map Fd.sz,1<=v:=λv hv=>by obtain⟨e,_,rfl⟩:=Qx.1 hv;exact e.sz_pos
 have hz:=HU l
 have hal:=λi (hi:l.length<=i)=>ug hpos (i:=i) (by rw[Qu];exact hi)
 have hle:=zO hpos
 have h00:db (l.map Fd.sz) 0=l.length:=by rw[sk,Qu]
 rw[←hz] at hal hle
 have hsl:∀l,fdL l= .lst 3 (l.map Fd.cs):=λ_=>rfl
 have hw:IntKind.i64.wrap ((left:Int)-l.length)=(left:Int)-l.length:=ah (by simp only[BL] at hb;omega) (by omega)
 by_cases h:l.length<=left
 case neg=>
  have h1:(left:Int)-l.length<0:=by omega
  have:=hle 0
  have h2:bv left (bl l)= -1:=if_neg (by omega)
  simp-implicitDefEqProofs[lJ,hsl,hw,h1,h2]
 have h1:¬(left:Int)-l.length<0:=by omega
 simp-implicitDefEqProofs[lJ,hsl,hw,h1]
 refine an (λi:Nat=>ag 27 [(0,.p (fdL l)),(1,.p (.int .i64 ((left-db (l.map Fd.sz) i:Nat):Int))),(5,.p (.int .i64 i))]) (λ_=>[]) (λi=>i<=l.length/\db (l.map Fd.sz) i<=left) (λi=>l.length-i) 0 ⟨by omega,by rw[h00];exact h⟩ ?_ ?_
 ·refine aE rfl ?_
  simp only[h00]
  simp[below,hsl]
  omega
 ·intro i ⟨hi,hx⟩
  simp-implicitDefEqProofs[hsl]
  refine aQ (λh1=>?_) (λh1=>?_)
  ·simp at h1
   have hg:=Qd h1
   have hsu:=sq (ss:=l.map Fd.sz) (i:=i) (v:=l[i].sz) (by rw[Qo,hg];rfl)
   have hH:=H l[i] (Qj h1) (left-db (l.map Fd.sz) i) (by omega)
   have hcs:l[i].cs.length=3:=by simp
   have hle1:=hle (i+1)
   generalize l[i]=e at hg hsu hH hcs
   simp-implicitDefEqProofs[hg,hcs]
   refine hH.use ?_
   by_cases h2:e.sz-1<=left-db (l.map Fd.sz) i
   ·have e2:bv (left-db (l.map Fd.sz) i) (e.sz-1)=((left-db (l.map Fd.sz) (i+1):Nat):Int):=by rw[bv,if_pos h2];omega
    have h3:¬((left-db (l.map Fd.sz) (i+1):Nat):Int)<0:=by omega
    rw[e2]
    simp-implicitDefEqProofs[h3]
    refine⟨i+1,⟨h1,by omega⟩,by omega,aE rfl (by simp[below,hsl,w1 (i:=i) (by simp only[BL] at hb;omega)])⟩
   ·have e2:bv (left-db (l.map Fd.sz) i) (e.sz-1)= -1:=if_neg h2
    have e3:bv left (bl l)= -1:=if_neg (by omega)
    rw[e2,e3]
    simp-implicitDefEqProofs[]
  ·simp at h1
   have hta:=hal i h1
   have h5:bv left (bl l)=((left-db (l.map Fd.sz) i:Nat):Int):=by rw[hta,bv,if_pos (by omega)]
   simp-implicitDefEqProofs[h5]
theorem Jr(l:List Fd)(hb:l.length<=1048576)(H:∀e∈l,VF Tryz.prog G fG [.agg (e.cs.map .p)] (.agg (e.cs.map .p))):VF Tryz.prog G fZ [.p (fdL l)] (.p (fdL l)):=by
 have hsl:∀l,fdL l= .lst 3 (l.map Fd.cs):=λ_=>rfl
 have key:AC Tryz.prog G fZ [.p (fdL l)] [] λx h=>x= .ret (.sl 0 3 0 l.length)/\h=[.row 3 (l.map λe=>e.cs.map .p)]:=by
  refine AC.go pQ ?_
  have hn:(l.map λe=>e.cs.map AV.p).length=l.length:=by simp
  simp-implicitDefEqProofs[lz,hsl]
  refine⟨by omega,?_⟩
  refine an (λi:Nat=>ag 23 [(0,.p (fdL l)),(3,.sl 0 3 0 l.length),(4,.p (.int .i64 i))]) (λi=>[.row 3 ((l.map λe=>e.cs.map AV.p).take i++List.replicate (l.length-i) [.p (.str []),.nils,.nils])]) (λi=>i<=l.length) (λi=>l.length-i) 0 (by simp) ?_ ?_
  ·refine cV [0] rfl (by simp) (aN (by simp) (by simp[below]) bJ) ?_
   simp[below,ren,hsl]
  ·intro i hi
   simp-implicitDefEqProofs[hsl]
   refine aQ (λh1=>?_) (λh1=>?_)
   ·simp at h1
    have hg:=Qd h1
    have hg2:=vA (z:=([.p (.str []),.nils,.nils]:List AV)) hn h1
    have hset:=pY (z:=([.p (.str []),.nils,.nils]:List AV)) (v:=l[i].cs.map AV.p) hn h1 (by rw[Qo,hg];rfl)
    have hH:=H l[i] (Qj h1)
    have hcs:=l[i].cs_eq'
    have htl:(List.take i (l.map λ(e:Fd)=>e.cs.map AV.p)++List.replicate (l.length-i) ([.p (.str []),.nils,.nils]:List AV)).length=l.length:=by simp;omega
    generalize l[i]=e at hg hset hH hcs
    generalize hRow:(List.take i (l.map λ(e:Fd)=>e.cs.map AV.p)++List.replicate (l.length-i) ([.p (.str []),.nils,.nils]:List AV))=Rw at hg2 hset htl⊢
    rw[hcs] at hH hset
    simp-implicitDefEqProofs[hg,hcs]
    refine hH.use ?_
    simp-implicitDefEqProofs[hg2,h1,dO]
    simp only[QI,List.map_nil] at hset
    rw[hset]
    refine⟨i+1,h1,by omega,cV [0] rfl (by simp) (aN rfl ?_ bJ) ?_⟩
    ·intro x hx
     rcases Qn.1 hx with hx|hx
     ·obtain⟨y,_,rfl⟩:=Qx.1 (QU hx);simp
     ·rw[(List.mem_replicate.1 hx).2];simp[below]
    ·simp[below,ren,hsl,w1 (i:=i) (by omega)]
   ·simp at h1
    have hie:i=l.length:=by omega
    subst hie
    rw[Nat.sub_self,List.replicate_zero,QK,Qk (by rw[hn];exact Qi _)]
    simp-implicitDefEqProofs[]
 refine AC.freeze key (.one ?_ .nil)
 have:=ib (h:=[.row 3 (l.map λe=>e.cs.map .p)]) (id:=0) (sz:=3) (n:=l.length) (ls:=l.map Fd.cs) (by simp) (by simp) (λx hx=>by obtain⟨b,_,rfl⟩:=Qx.1 hx;simp)
 exact this
theorem Kp(l:List Fd)(hb:l.length<=1048576)(H:∀e∈l,VF Tryz.prog G jJ [.agg (e.cs.map .p),.agg (e.cs.map .p)] (.p (.bool true))):VF Tryz.prog G lO [.p (fdL l),.p (fdL l)] (.p (.bool true)):=by
 refine AC.go zE ?_
 have hsl:∀l,fdL l= .lst 3 (l.map Fd.cs):=λ_=>rfl
 simp-implicitDefEqProofs[pz,hsl]
 refine an (λi:Nat=>ag 27 [(0,.p (fdL l)),(1,.p (fdL l)),(5,.p (.int .i64 i))]) (λ_=>[]) (λi=>i<=l.length) (λi=>l.length-i) 0 (by simp) ?_ ?_
 ·exact aE rfl (by simp[below,hsl])
 intro i hi
 simp-implicitDefEqProofs[hsl]
 refine aQ (λh1=>?_) (λh1=>?_)
 ·simp at h1
  have hg:=Qd h1
  have hH:=H l[i] (Qj h1)
  have hcs:l[i].cs.length=3:=by simp
  generalize l[i]=e at hg hH hcs
  simp-implicitDefEqProofs[hg,hcs]
  refine hH.use ?_
  simp-implicitDefEqProofs[]
  exact⟨i+1,h1,by omega,aE rfl (by simp[below,hsl,w1 (i:=i) (by omega)])⟩
 ·simp at h1
  simp-implicitDefEqProofs[]
end
section
variable (G:aq)
theorem bs{left z:Nat}(h:¬z<=left):bv left z= -1:=if_neg h
theorem dC{left z:Nat}(h:z<=left):bv left z=((left-z:Nat):Int):=if_pos h
theorem GG:∀(N:Nat) (e:Ex),e.sz<=N->e.fit->∀left:Nat,left<=1048576->VF Tryz.prog G gZ [.agg (e.cs.map .p),.p (.int .i64 left)] (.p (.int .i64 (bv left (e.sz-1)))):=by
 intro N
 induction N with
 |zero=>intro e he;have:=e.sz_pos;omega
 |succ N ih=>
  intro e he hf left hl
  have hec:=e.cs_eq
  have hsz:=e.sz_eq
  rw[e.fit_eq] at hf
  obtain⟨f1,f2,f3⟩:=hf
  refine AC.go yt ?_
  have hw:IntKind.i64.wrap ((left:Int)-e.name.length)=(left:Int)-e.name.length:=ah (by simp only[BL] at f1;omega) (by omega)
  by_cases h1:e.name.length<=left
  case neg=>
   have h2:(left:Int)-e.name.length<0:=by omega
   rw[bs (by omega)]
   simp-implicitDefEqProofs[kq,hec,hw,h2]
  have h2:¬(left:Int)-e.name.length<0:=by omega
  have e2:(left:Int)-e.name.length=((left-e.name.length:Nat):Int):=by omega
  have hS:=zw G e.kids (left-e.name.length) (by omega) f2 (λx hx l hl=>ih x (by have:=aF hx;omega) (pk f3 hx) l hl)
  rw[e2] at h2
  replace hw:=hw.trans e2
  simp-implicitDefEqProofs[kq,hec,hw,h2]
  refine hS.use ?_
  by_cases h3:bZ e.kids<=left-e.name.length
  ·have n3:¬((left-e.name.length-bZ e.kids:Nat):Int)<0:=by omega
   rw[dC h3,dC (by omega)]
   simp-implicitDefEqProofs[n3]
   omega
  ·rw[bs h3,bs (by omega)]
   simp-implicitDefEqProofs[]
theorem FN(l:List Ex)(hf:lB l)(hb:l.length<=BL)(left:Nat)(hl:left<=1048576):VF Tryz.prog G dV [.p (exL l),.p (.int .i64 left)] (.p (.int .i64 (bv left (bZ l)))):=
 zw G l left hl hb (λe he l hl=>GG G e.sz e (Qi _) (pk hf he) l hl)
theorem GR:∀(N:Nat) (s:Sm),s.sz<=N->s.fit->∀left:Nat,left<=1048576->VF Tryz.prog G ia [.agg (s.cs.map .p),.p (.int .i64 left)] (.p (.int .i64 (bv left (s.sz-1)))):=by
 intro N
 induction N with
 |zero=>intro e he;have:=e.sz_pos;omega
 |succ N ih=>
  intro e he hf left hl
  have hec:=e.cs_eq
  have hsz:=e.sz_eq
  rw[e.fit_eq] at hf
  obtain⟨f1,⟨f2,f3⟩,⟨f4,f5⟩,f6,f7⟩:=hf
  have sub:∀l:List Sm,aG l<=N->jC l->l.length<=BL->∀left:Nat,left<=1048576->VF Tryz.prog G cu [.p (smL l),.p (.int .i64 left)] (.p (.int .i64 (bv left (aG l)))):=λl hz hf hb left hl=>
   zd G l left hl hb (λx hx l hl=>ih x (by have:=aM hx;omega) (oX hf hx) l hl)
  refine AC.go yA ?_
  have hw:IntKind.i64.wrap ((left:Int)-e.name.length)=(left:Int)-e.name.length:=ah (by simp only[BL] at f1;omega) (by omega)
  by_cases h1:e.name.length<=left
  case neg=>
   have h2:(left:Int)-e.name.length<0:=by omega
   rw[bs (by omega)]
   simp-implicitDefEqProofs[kb,hec,hw,h2]
  have h2:¬(left:Int)-e.name.length<0:=by omega
  have e2:(left:Int)-e.name.length=((left-e.name.length:Nat):Int):=by omega
  rw[e2] at h2
  replace hw:=hw.trans e2
  simp-implicitDefEqProofs[kb,hec,hw,h2]
  refine(FN G e.args f3 f2 (left-e.name.length) (by omega)).use ?_
  by_cases h3:bZ e.args<=left-e.name.length
  case neg=>
   rw[bs h3,bs (by omega)]
   simp-implicitDefEqProofs[]
  have n3:¬((left-e.name.length-bZ e.args:Nat):Int)<0:=by omega
  rw[dC h3]
  simp-implicitDefEqProofs[n3]
  refine(sub e.body (by omega) f5 f4 (left-e.name.length-bZ e.args) (by omega)).use ?_
  by_cases h4:aG e.body<=left-e.name.length-bZ e.args
  case neg=>
   rw[bs h4,bs (by omega)]
   simp-implicitDefEqProofs[]
  have n4:¬((left-e.name.length-bZ e.args-aG e.body:Nat):Int)<0:=by omega
  rw[dC h4]
  simp-implicitDefEqProofs[n4]
  refine(sub e.els (by omega) f7 f6 (left-e.name.length-bZ e.args-aG e.body) (by omega)).use ?_
  by_cases h5:aG e.els<=left-e.name.length-bZ e.args-aG e.body
  case neg=>
   rw[bs h5,bs (by omega)]
   simp-implicitDefEqProofs[]
  have n5:¬((left-e.name.length-bZ e.args-aG e.body-aG e.els:Nat):Int)<0:=by omega
  rw[dC h5,dC (by omega)]
  simp-implicitDefEqProofs[n5]
  omega
theorem Fg(l:List Sm)(hf:jC l)(hb:l.length<=BL)(left:Nat)(hl:left<=1048576):VF Tryz.prog G cu [.p (smL l),.p (.int .i64 left)] (.p (.int .i64 (bv left (aG l)))):=
 zd G l left hl hb (λe he l hl=>GR G e.sz e (Qi _) (oX hf he) l hl)
def lX(xs:List (List UInt8))(i:Nat):Nat:=((xs.take i).map List.length).sum
theorem EQ{xs:List (List UInt8)}{i:Nat}(h:i<xs.length):lX xs (i+1)=lX xs i+xs[i].length:=by
 show((xs.take (i+1)).map List.length).sum=((xs.take i).map List.length).sum+xs[i].length
 rw[al h,Rd,List.sum_append]
 rfl
theorem Iv{xs:List (List UInt8)}{i:Nat}(h:xs.length<=i):lX xs i=(xs.map List.length).sum:=by rw[lX,Qk h]
theorem JJ{xs:List (List UInt8)}{i:Nat}:lX xs i<=(xs.map List.length).sum:=by
 conv=>rhs;rw[←QN i xs,Rd,List.sum_append]
 simp[lX]
def szW(xs:List (List UInt8)):Nat:=xs.length+(xs.map List.length).sum
theorem Bs(xs:List (List UInt8))(left:Nat)(hl:left<=1048576)(hb:xs.length<=9223372036854775807)(hs:∀x∈xs,x.length<=9223372036854775807):VF Tryz.prog G gG [.p (aB xs),.p (.int .i64 left)] (.p (.int .i64 (if szW xs<=left then((left-szW xs:Nat):Int) else-1))):=by
 refine AC.go sD ?_
 have hw:IntKind.i64.wrap ((left:Int)-xs.length)=(left:Int)-xs.length:=ah (by omega) (by omega)
 have hsz:szW xs=xs.length+(xs.map List.length).sum:=rfl
 by_cases h:xs.length<=left
 case neg=>
  have h1:(left:Int)-xs.length<0:=by omega
  have h2:¬szW xs<=left:=by omega
  simp-implicitDefEqProofs[gA,aB,hw,h1,h2]
 have h1:¬(left:Int)-xs.length<0:=by omega
 simp-implicitDefEqProofs[gA,aB,hw,h1]
 refine an (λi:Nat=>ag 28 [(0,.p (aB xs)),(1,.p (.int .i64 ((left-xs.length-lX xs i:Nat):Int))),(5,.p (.int .i64 i))]) (λ_=>[]) (λi=>i<=xs.length/\xs.length+lX xs i<=left) (λi=>xs.length-i) 0 (by simp[lX];omega) ?_ ?_
 ·refine aE rfl ?_
  simp[below,aB,lX]
  omega
 ·intro i ⟨hi,hx⟩
  simp-implicitDefEqProofs[aB]
  refine aQ (λh1=>?_) (λh1=>?_)
  ·simp at h1
   have hg:=Qd h1
   have hle:=hs _ (Qj h1)
   have hsu:=EQ h1
   have hsl:=JJ (xs:=xs) (i:=i+1)
   have hw2:IntKind.i64.wrap (((left-xs.length-lX xs i:Nat):Int)-(xs[i].length:Int))=((left-xs.length-lX xs i:Nat):Int)-(xs[i].length:Int):=ah (by omega) (by omega)
   by_cases h2:xs.length+lX xs (i+1)<=left
   ·have h3:¬((left-xs.length-lX xs i:Nat):Int)-(xs[i].length:Int)<0:=by omega
    have h4:((left-xs.length-lX xs i:Nat):Int)-(xs[i].length:Int)=((left-xs.length-lX xs (i+1):Nat):Int):=by omega
    rw[h4] at h3
    replace hw2:=hw2.trans h4
    clear hle hsu hsl
    simp-implicitDefEqProofs[hg,hw2,h3]
    refine⟨i+1,⟨h1,h2⟩,by omega,aE rfl (by simp[below,aB,w1 (i:=i) (by omega)])⟩
   ·have h3:((left-xs.length-lX xs i:Nat):Int)-(xs[i].length:Int)<0:=by omega
    have h5:¬szW xs<=left:=by omega
    clear hle hsu hsl
    simp-implicitDefEqProofs[hg,hw2,h3,h5]
  ·simp at h1
   have hta:=Iv (xs:=xs) h1
   have h5:szW xs<=left:=by omega
   have h6:((left-xs.length-lX xs i:Nat):Int)=((left-szW xs:Nat):Int):=by omega
   simp-implicitDefEqProofs[h5,h6]
theorem LH(f:Fd)(hf:f.fit)(left:Nat)(hl:left<=1048576):VF Tryz.prog G jW [.agg (f.cs.map .p),.p (.int .i64 left)] (.p (.int .i64 (bv left (f.sz-1)))):=by
 obtain⟨f1,⟨f2,f3⟩,f4,f5⟩:=hf
 have hec:=f.cs_eq'
 have hsz:f.sz=1+f.name.length+szW f.params+aG f.body:=rfl
 refine AC.go BZ ?_
 have hw:IntKind.i64.wrap ((left:Int)-f.name.length)=(left:Int)-f.name.length:=ah (by simp only[BL] at f1;omega) (by omega)
 by_cases h1:f.name.length<=left
 case neg=>
  have h2:(left:Int)-f.name.length<0:=by omega
  rw[bs (by omega)]
  simp-implicitDefEqProofs[mX,hec,hw,h2]
 have h2:¬(left:Int)-f.name.length<0:=by omega
 have e2:(left:Int)-f.name.length=((left-f.name.length:Nat):Int):=by omega
 rw[e2] at h2
 replace hw:=hw.trans e2
 simp-implicitDefEqProofs[mX,hec,hw,h2]
 refine(Bs G f.params (left-f.name.length) (by omega) f2 f3).use ?_
 by_cases h3:szW f.params<=left-f.name.length
 case neg=>
  rw[if_neg h3,bs (by omega)]
  simp-implicitDefEqProofs[]
 have n3:¬((left-f.name.length-szW f.params:Nat):Int)<0:=by omega
 rw[if_pos h3]
 simp-implicitDefEqProofs[n3]
 refine(Fg G f.body f5 f4 (left-f.name.length-szW f.params) (by omega)).use ?_
 by_cases h4:aG f.body<=left-f.name.length-szW f.params
 case neg=>
  rw[bs h4,bs (by omega)]
  simp-implicitDefEqProofs[]
 have n4:¬((left-f.name.length-szW f.params-aG f.body:Nat):Int)<0:=by omega
 rw[dC h4,dC (by omega)]
 simp-implicitDefEqProofs[n4]
 omega
def Ly(l:List Fd):Prop:=l.length<=BL/\∀f∈l,f.fit
theorem BM(l:List Fd)(hf:Ly l)(left:Nat)(hl:left<=1048576):VF Tryz.prog G ep [.agg [.p (fdL l)],.p (.int .i64 left)] (.p (.int .i64 (bv left (bl l)))):=by
 have hS:=JQ G l left hl hf.1 (λf hm left hl=>LH G f (hf.2 f hm) left hl)
 refine AC.go sj ?_
 simp-implicitDefEqProofs[kN]
 refine hS.use ?_
 by_cases h:bl l<=left
 ·have n:¬((left-bl l:Nat):Int)<0:=by omega
  rw[dC h]
  simp-implicitDefEqProofs[n]
 ·rw[bs h]
  simp-implicitDefEqProofs[]
theorem If:∀(N:Nat) (e:Ex),e.sz<=N->e.sz<=1048576->VF Tryz.prog G dA [.agg (e.cs.map .p)] (.agg (e.cs.map .p)):=by
 intro N
 induction N with
 |zero=>intro e he;have:=e.sz_pos;omega
 |succ N ih=>
  intro e he hb
  have hec:=e.cs_eq
  have hsz:=e.sz_eq
  have hkl:=aS e.kids
  have hS:=zo G e.kids (by omega) (λx hx=>ih x (by have:=aF hx;omega) (by have:=aF hx;omega))
  refine AC.go oC ?_
  simp-implicitDefEqProofs[kD,hec]
  refine hS.use ?_
  simp-implicitDefEqProofs[]
theorem Gj(l:List Ex)(hb:bZ l<=1048576):VF Tryz.prog G bG [.p (exL l)] (.p (exL l)):=
 zo G l (by have:=aS l;omega) (λe he=>If G e.sz e (Qi _) (by have:=aF he;omega))
theorem Jf:∀(N:Nat) (e:Sm),e.sz<=N->e.sz<=1048576->VF Tryz.prog G dz [.agg (e.cs.map .p)] (.agg (e.cs.map .p)):=by
 intro N
 induction N with
 |zero=>intro e he;have:=e.sz_pos;omega
 |succ N ih=>
  intro e he hb
  have hec:=e.cs_eq
  have hsz:=e.sz_eq
  have h1:=aZ e.body
  have h2:=aZ e.els
  have hB:=sC G e.body (by omega) (λx hx=>ih x (by have:=aM hx;omega) (by have:=aM hx;omega))
  have hE:=sC G e.els (by omega) (λx hx=>ih x (by have:=aM hx;omega) (by have:=aM hx;omega))
  refine AC.go og ?_
  simp-implicitDefEqProofs[kh,hec]
  refine(Gj G e.args (by omega)).use ?_
  simp-implicitDefEqProofs[]
  refine hB.use ?_
  simp-implicitDefEqProofs[]
  refine hE.use ?_
  simp-implicitDefEqProofs[]
theorem EY(l:List Sm)(hb:aG l<=1048576):VF Tryz.prog G bn [.p (smL l)] (.p (smL l)):=
 sC G l (by have:=aZ l;omega) (λe he=>Jf G e.sz e (Qi _) (by have:=aM he;omega))
def kP(l:List (List UInt8))(i:Nat):List (List UInt8):=l.take i++List.replicate (l.length-i) []
theorem Ga{l:List (List UInt8)}{i:Nat}(h:i<l.length):(kP l i).set i l[i]=kP l (i+1):=by
 have hl:(l.take i).length=i:=by simp;omega
 have e:l.length-i=(l.length-(i+1))+1:=by omega
 show(l.take i++List.replicate (l.length-i) []).set i l[i]=l.take (i+1)++List.replicate (l.length-(i+1)) []
 rw[List.set_append_right _ _ (by omega),hl,Nat.sub_self,e,List.replicate_succ,List.set_cons_zero,al h,Qv]
 rfl
theorem Fq{l:List (List UInt8)}{i:Nat}(h:i<l.length):(kP l i)[i]?=some []:=by
 have hl:(l.take i).length=i:=by simp;omega
 rw[kP,Qr (by omega),hl,Nat.sub_self,List.getElem?_replicate,if_pos (by omega)]
theorem FG{l:List (List UInt8)}{i:Nat}(h:i<=l.length):(kP l i).length=l.length:=by simp[kP];omega
theorem th(l:List (List UInt8))(hb:l.length<=1048576):AC Tryz.prog G cT [.p (aB l)] [] λx h=>x= .ret (.sl 0 1 0 l.length)/\h=[mI l]:=by
 refine AC.go rR ?_
 have hbl:aB l= .lst 1 (l.map λn=>[.str n]):=rfl
 simp-implicitDefEqProofs[lf,hbl]
 refine⟨by omega,?_⟩
 refine an (λi:Nat=>ag 22 [(0,.p (aB l)),(3,.sl 0 1 0 l.length),(4,.p (.int .i64 i))]) (λi=>[mI (kP l i)]) (λi=>i<=l.length) (λi=>l.length-i) 0 (by simp) ?_ ?_
 ·refine cV [0] rfl (by simp) (aN (by simp[kP]) (by simp) bJ) ?_
  simp[below,ren,aB]
 ·intro i hi
  have hlen:=FG hi
  simp-implicitDefEqProofs[hbl]
  refine aQ (λh1=>?_) (λh1=>?_)
  ·simp at h1
   have hg:=Qd h1
   have hg2:=Fq h1
   have hset:((kP l i).map λn=>[AV.p (.str n)]).set i [.p (.str l[i])]=(kP l (i+1)).map λn=>[AV.p (.str n)]:=by rw[←Ga h1,List.map_set]
   have hbo:mI (kP l i)= .row 1 ((kP l i).map λn=>[.p (.str n)]):=rfl
   clear hlen
   simp-implicitDefEqProofs[hg,hbo,hg2,h1,hset]
   refine⟨i+1,h1,by omega,cV [0] rfl (by simp) (aN rfl (by simp) bJ) ?_⟩
   simp[below,ren,aB,w1 (i:=i) (by omega)]
  ·simp at h1
   have:i=l.length:=by omega
   subst this
   simp-implicitDefEqProofs[kP]
theorem AQ(l:List (List UInt8))(hb:l.length<=1048576):VF Tryz.prog G cT [.p (aB l)] (.p (aB l)):=AC.freeze (th G l hb) (.one (rY rfl) .nil)
theorem Mg(f:Fd)(hb:f.sz<=1048576):VF Tryz.prog G fG [.agg (f.cs.map .p)] (.agg (f.cs.map .p)):=by
 have hec:=f.cs_eq'
 have hsz:f.sz=1+f.name.length+szW f.params+aG f.body:=rfl
 have hw:szW f.params=f.params.length+(f.params.map List.length).sum:=rfl
 refine AC.go sX ?_
 simp-implicitDefEqProofs[mt,hec]
 refine(AQ G f.params (by omega)).use ?_
 simp-implicitDefEqProofs[]
 refine(EY G f.body (by omega)).use ?_
 simp-implicitDefEqProofs[]
theorem BH(l:List Fd)(hb:bl l<=1048576):VF Tryz.prog G bA [.agg [.p (fdL l)]] (.agg [.p (fdL l)]):=by
 have hS:=Jr G l (by have:=cJ l;omega) (λf hm=>Mg G f (by have:=cU hm;omega))
 refine AC.go kZ ?_
 simp-implicitDefEqProofs[gC]
 refine hS.use ?_
 simp-implicitDefEqProofs[]
theorem Hl:∀(N:Nat) (e:Ex),e.sz<=N->e.sz<=1048576->VF Tryz.prog G gR [.agg (e.cs.map .p),.agg (e.cs.map .p)] (.p (.bool true)):=by
 intro N
 induction N with
 |zero=>intro e he;have:=e.sz_pos;omega
 |succ N ih=>
  intro e he hb
  have hec:=e.cs_eq
  have hsz:=e.sz_eq
  have hkl:=aS e.kids
  have hS:=za G e.kids (by omega) (λx hx=>ih x (by have:=aF hx;omega) (by have:=aF hx;omega))
  refine AC.go yq ?_
  simp-implicitDefEqProofs[oI,hec]
  refine hS.use ?_
  simp-implicitDefEqProofs[]
theorem FZ(l:List Ex)(hb:bZ l<=1048576):VF Tryz.prog G dY [.p (exL l),.p (exL l)] (.p (.bool true)):=
 za G l (by have:=aS l;omega) (λe he=>Hl G e.sz e (Qi _) (by have:=aF he;omega))
theorem Hx:∀(N:Nat) (e:Sm),e.sz<=N->e.sz<=1048576->VF Tryz.prog G gS [.agg (e.cs.map .p),.agg (e.cs.map .p)] (.p (.bool true)):=by
 intro N
 induction N with
 |zero=>intro e he;have:=e.sz_pos;omega
 |succ N ih=>
  intro e he hb
  have hec:=e.cs_eq
  have hsz:=e.sz_eq
  have h1:=aZ e.body
  have h2:=aZ e.els
  have hB:=sc G e.body (by omega) (λx hx=>ih x (by have:=aM hx;omega) (by have:=aM hx;omega))
  have hE:=sc G e.els (by omega) (λx hx=>ih x (by have:=aM hx;omega) (by have:=aM hx;omega))
  refine AC.go yB ?_
  simp-implicitDefEqProofs[oH,hec]
  refine(FZ G e.args (by omega)).use ?_
  simp-implicitDefEqProofs[]
  refine hB.use ?_
  simp-implicitDefEqProofs[]
  refine hE.use ?_
  simp-implicitDefEqProofs[]
theorem EO(l:List Sm)(hb:aG l<=1048576):VF Tryz.prog G cX [.p (smL l),.p (smL l)] (.p (.bool true)):=
 sc G l (by have:=aZ l;omega) (λe he=>Hx G e.sz e (Qi _) (by have:=aM he;omega))
theorem Bj(xs:List (List UInt8))(hb:xs.length<=1048576):VF Tryz.prog G gw [.p (aB xs),.p (aB xs)] (.p (.bool true)):=by
 refine AC.go rS ?_
 have hsl:aB xs= .lst 1 (xs.map λw=>[.str w]):=rfl
 simp-implicitDefEqProofs[kW,hsl]
 refine an (λi:Nat=>ag 26 [(0,.p (aB xs)),(1,.p (aB xs)),(5,.p (.int .i64 i))]) (λ_=>[]) (λi=>i<=xs.length) (λi=>xs.length-i) 0 (by simp) (aE rfl (by simp[below,hsl])) ?_
 intro i hi
 simp-implicitDefEqProofs[hsl]
 refine aQ (λh1=>?_) (λh1=>?_)
 ·simp at h1
  have hx:=Qd h1
  generalize xs[i]=v at hx
  simp-implicitDefEqProofs[hx]
  exact⟨i+1,h1,by omega,aE rfl (by simp[below,hsl,w1 (i:=i) (by omega)])⟩
 ·simp at h1
  simp-implicitDefEqProofs[]
theorem Me(f:Fd)(hb:f.sz<=1048576):VF Tryz.prog G jJ [.agg (f.cs.map .p),.agg (f.cs.map .p)] (.p (.bool true)):=by
 have hec:=f.cs_eq'
 have hsz:f.sz=1+f.name.length+szW f.params+aG f.body:=rfl
 have hw:szW f.params=f.params.length+(f.params.map List.length).sum:=rfl
 refine AC.go Cb ?_
 simp-implicitDefEqProofs[ty,hec]
 refine(Bj G f.params (by omega)).use ?_
 simp-implicitDefEqProofs[]
 refine(EO G f.body (by omega)).use ?_
 simp-implicitDefEqProofs[]
theorem to(l:List Fd)(hb:bl l<=1048576):VF Tryz.prog G cb [.agg [.p (fdL l)],.agg [.p (fdL l)]] (.p (.bool true)):=by
 have hS:=Kp G l (by have:=cJ l;omega) (λf hm=>Me G f (by have:=cU hm;omega))
 refine AC.go sh ?_
 simp-implicitDefEqProofs[ll]
 refine hS.use ?_
 simp-implicitDefEqProofs[]
end
section
theorem Ex.ext'{a b:Ex}(h1:a.op=b.op)(h2:a.n=b.n)(h3:a.name=b.name)(h4:a.kids=b.kids):a=b:=by
 cases a;cases b;simp only[Ex.op,Ex.n,Ex.name,Ex.kids] at*;subst h1 h2 h3 h4;rfl
theorem Sm.ext'{a b:Sm}(h1:a.op=b.op)(h2:a.name=b.name)(h3:a.args=b.args)(h4:a.body=b.body)(h5:a.els=b.els):a=b:=by
 cases a;cases b;simp only[Sm.op,Sm.name,Sm.args,Sm.body,Sm.els] at*;subst h1 h2 h3 h4 h5;rfl
variable (G:aq)
end
section
theorem PJ{o n:Int}{s:List UInt8}{ks:List Ex}{x:Ex}(hx:P5 o n s ks x):x.sz<=1+s.length+bZ ks:=by
 rcases hx with rfl|⟨q,rfl,hq⟩|⟨a,ha,rfl⟩|⟨a,ha,c,hc,rfl⟩
 ·exact Qi _
 ·simp only[rZ,Ex.sz,bZ,List.length_nil];omega
 ·have:=aF ha;omega
 ·have h1:=aF ha
  have h2:=aF hc
  have h3:=a.sz_eq
  omega
mutual
theorem JG:∀e:Ex,(ey e).sz<=e.sz
 | .mk o n s ks=>by
   rw[ey,Ex.sz]
   have h1:=PJ (Eg o n s (be ks))
   have h2:=nx ks
   omega
theorem nx:∀l:List Ex,bZ (be l)<=bZ l
 |[]=>Qi _
 |e::r=>by
  have h1:=JG e
  have h2:=nx r
  rw[be,bZ,bZ]
  omega
end
mutual
theorem Jc:∀x:Sm,(rF x).sz<=x.sz
 | .mk o s a bd el=>by
   rw[rF,Sm.sz,Sm.sz]
   have h1:=nx a
   have h2:=sI bd
   have h3:=sI el
   omega
theorem sI:∀l:List Sm,aG (bV l)<=aG l
 |[]=>Qi _
 |x::r=>by
  have h1:=Jc x
  have h2:=sI r
  rw[bV,aG,aG]
  omega
end
theorem Ai(c:Prop)[Decidable c](l:List Sm)(n:Nat)(h:aG l<=n):aG (if c then[] else l)<=n:=by
 split
 ·exact Ri _
 ·exact h
mutual
theorem JY:∀x:Sm,(dM x).sz<=x.sz
 | .mk o s a bd el=>by
   rw[dM,Sm.sz,Sm.sz]
   have h2:=Ai (o=5/\se (.mk o s a bd el) 0=true) _ _ (rv bd)
   have h3:=Ai (o=5/\se (.mk o s a bd el) 0=false/\AL (.mk o s a bd el)=true) _ _ (rv el)
   omega
theorem rv:∀l:List Sm,aG (aI l)<=aG l
 |[]=>by rw[aI];exact Qi _
 |x::r=>by
  have h1:=JY x
  have h2:=rv r
  rw[gD,aG]
  split
  ·omega
  ·rw[aG]
   have h3:=Ai (x.op=7) _ _ h2
   omega
end
theorem CC(g:Fd->Fd)(hg:∀f,(g f).sz<=f.sz):∀l:List Fd,bl (l.map g)<=bl l
 |[]=>Qi _
 |f::r=>by
  have h1:=hg f
  have h2:=CC g hg r
  have e1:bl (f::r)=f.sz+bl r:=by simp[bl]
  have e2:bl ((f::r).map g)=(g f).sz+bl (r.map g):=by simp[bl]
  omega
theorem KG(f:Fd):(Ja f).sz<=f.sz:=by
 have:=rv f.body
 simp only[Ja,Fd.sz];omega
theorem FC(l:List Fd):bl (jG l)<=bl l:=CC Ja KG l
end
section
theorem yL:AK.whole eU=FK.ak eZ:=rfl
variable (G:aq)
theorem lP(n:Int):VF Tryz.prog G dm [.p (.int .i64 n)] (.agg ((rZ n).cs.map .p)):=by
 have key:AC Tryz.prog G dm [.p (.int .i64 n)] [] λx h=>x= .ret (.agg [.p (.int .i64 1),.p (.int .i64 n),.p (.str []),.nils]):=by
  refine AC.go Af ?_
  simp-implicitDefEqProofs[rr]
 refine key.freezeR (λt v h e=>by cases e) λv h e=>?_
 cases e
 exact .agg (.one (.p _) (.one (.p _) (.one (.p _) (.one (.nils 4) .nil)))) .nil
theorem uK(e:Ex)(n:Int):VF Tryz.prog G bX [.agg (e.cs.map .p),.p (.int .i64 n)] (.p (.bool (isN e n))):=by
 refine AC.go BA ?_
 by_cases h1:e.op=1
 ·simp-implicitDefEqProofs[mh,Ex.cs_eq,isN,h1]
 ·simp-implicitDefEqProofs[mh,Ex.cs_eq,isN,h1]
theorem ny(b:Bool):VF Tryz.prog G cm [.p (.bool b)] (.p (.int .i64 (tr5 b))):=by
 refine AC.go vn ?_
 cases b<;>simp-implicitDefEqProofs[mN,tr5]
def nS:Option Int->AV
 |some q=> .tup [.p (.int .i64 q),.p (.int .i64 0)]
 |none=> .tup [.p (.int .i64 0),.p (.int .i64 1)]
theorem JL(o a b:Int)(ho:3<=o)(h9:o<=9)(ha:V5 a)(hb:V5 b):VF Tryz.prog G lD [.p (.int .i64 o),.p (.int .i64 a),.p (.int .i64 b)] (nS (FD o a b)):=by
 obtain⟨a0,a1⟩:=ha
 obtain⟨b0,b1⟩:=hb
 refine AC.go zG ?_
 have hm:a*b<=65025:=by
  have h1:=Int.mul_le_mul_of_nonneg_right a1 b0
  omega
 have hm0:0<=a*b:=Int.mul_nonneg a0 b0
 have ho':o=3\/o=4\/o=5\/o=6\/o=7\/o=8\/o=9:=by omega
 rcases ho' with rfl|rfl|rfl|rfl|rfl|rfl|rfl
 all_goals simp-implicitDefEqProofs[rk,FD]
 ·rw[ah (by omega) (by omega),Int.tmod_eq_emod_of_nonneg (by omega)];rfl
 ·have hw:IntKind.i64.wrap (a-b)=a-b:=ah (by omega) (by omega)
  rw[hw,ah (by omega) (by omega),Int.tmod_eq_emod_of_nonneg (by omega)]
  have:(a-b+256)%256=(a-b)%256:=by omega
  rw[this];rfl
 ·rw[ah (by omega) (by omega),Int.tmod_eq_emod_of_nonneg (by omega)];rfl
 ·refine aQ (λh=>?_) (λh=>?_)
  ·simp at h
   simp-implicitDefEqProofs[h,nS]
  ·simp at h
   simp-implicitDefEqProofs[h,nS]
   rw[Int.tdiv_eq_ediv_of_nonneg (by omega)]
   have h1:a/b<=a:=Int.ediv_le_self b a0
   have h2:0<=a/b:=Int.ediv_nonneg a0 b0
   exact ah (by omega) (by omega)
 ·refine aQ (λh=>?_) (λh=>?_)
  ·simp at h
   simp-implicitDefEqProofs[h,nS]
  ·simp at h
   simp-implicitDefEqProofs[h,nS]
   rw[Int.tmod_eq_emod_of_nonneg (by omega)]
 ·refine(ny G _).use ?_
  simp-implicitDefEqProofs[nS]
 ·refine(ny G _).use ?_
  simp-implicitDefEqProofs[nS]
theorem jt:∀l:List Ex,Ax l=l.all fF
 |[]=>rfl
 |e::r=>by rw[Ax,jt r];rfl
def dvE(e:Ex):Bool:=(decide (e.op=6)||decide (e.op=7))&& !(match e.kids with|[_,b]=>decide (b.op=1)&& !decide (b.n=0)|_=>false)
theorem IX(e:Ex):fF e=(!decide (e.op=12)&& !decide (e.op=13)&& !dvE e&&e.kids.all fF):=by
 have h:∀(a c:Bool),(!(a&& !c))=(!a||c):=by decide
 rw[dvE,h]
 match e with
 | .mk o n s []=>rw[fF,jt]<;>first|rfl|(intro _ _ e;cases e)
 | .mk o n s [a]=>rw[fF,jt]<;>first|rfl|(intro _ _ e;cases e)
 | .mk o n s [a,b]=>rw[fF,jt];rfl
 | .mk o n s (a::b::c::r)=>rw[fF,jt]<;>first|rfl|(intro _ _ e;cases e)
theorem CG:∀(d:Nat) (e:Ex),aR d e=true->e.sz<=1099511627776->VF Tryz.prog G eY [.agg (e.cs.map .p)] (.p (.bool (fF e))):=by
 intro d
 induction d with
 |zero=>intro e h;cases h
 |succ d ih=>
  intro e hf hz
  have hzz:=e.sz_eq
  have hlen:=aS e.kids
  refine AC.goK ym yL ?_
  rw[IX]
  by_cases o12:e.op=12
  ·simp-implicitDefEqProofs[eU,eZ,Ex.cs_eq,o12]
  by_cases o13:e.op=13
  ·simp-implicitDefEqProofs[eU,eZ,Ex.cs_eq,o13]
  have hxl:∀l,exL l= .lst 4 (l.map Ex.cs):=λ_=>rfl
  simp-implicitDefEqProofs[eU,eZ,Ex.cs_eq,o12,o13,hxl]
  refine sO (λ_:Unit=>ag 50 [(1,.ptr 0 4 0 0)]) (λ_=>[.row 4 [[.p (.int .i64 e.op),.p (.int .i64 e.n),.p (.str e.name),.p (.lst 4 (e.kids.map Ex.cs))]]]) (λ_=>dvE e=false) ?_ ?_
  ·by_cases o67:e.op=6\/e.op=7
   ·have hk:∃a b,e.kids=[a,b]:=by
     obtain⟨l1,l2,_⟩:=gn hf
     have e1:loK e.op=2/\hiK e.op=2:=by rcases o67 with h|h<;>rw[h]<;>exact⟨rfl,rfl⟩
     rw[e1.1] at l1
     rw[e1.2] at l2
     match hx:e.kids,l1,l2 with
     |[a,b],_,_=>exact⟨a,b,rfl⟩
    obtain⟨a,b,hk⟩:=hk
    have hd:dvE e= !(decide (b.op=1)&& !decide (b.n=0)):=by
     rw[dvE,hk]
     rcases o67 with h|h<;>simp[h]
    rw[hd]
    have hbc:=b.cs_eq
    rcases o67 with o6|o7
    ·by_cases b1:b.op=1
     ·by_cases b0:b.n=0
      ·simp-implicitDefEqProofs[o6,hk,hbc,b1,b0]
      ·simp-implicitDefEqProofs[o6,hk,hbc,b1,b0]
       exact ab (by simp) (by simp[okO]) (by simp[below])
     ·simp-implicitDefEqProofs[o6,hk,hbc,b1]
    ·by_cases b1:b.op=1
     ·by_cases b0:b.n=0
      ·simp-implicitDefEqProofs[o7,hk,hbc,b1,b0]
      ·simp-implicitDefEqProofs[o7,hk,hbc,b1,b0]
       exact ab (by simp) (by simp[okO]) (by simp[below])
     ·simp-implicitDefEqProofs[o7,hk,hbc,b1]
   ·have o6:¬e.op=6:=λh=>o67 (.inl h)
    have o7:¬e.op=7:=λh=>o67 (.inr h)
    simp-implicitDefEqProofs[o6,o7]
    exact⟨by simp[dvE,o6,o7],ab (by simp) (by simp[okO]) (by simp[below])⟩
  ·intro _ hd
   simp-implicitDefEqProofs[]
   refine an (λi:Nat=>ag 50 [(1,.ptr 0 4 0 0),(3,.p (.int .i64 i))]) (λ_=>[.row 4 [[.p (.int .i64 e.op),.p (.int .i64 e.n),.p (.str e.name),.p (.lst 4 (e.kids.map Ex.cs))]]])
    (λi=>i<=e.kids.length/\(e.kids.take i).all fF=true) (λi=>e.kids.length-i) 0 (by simp) (ab (by simp) (by simp[okO]) (by simp[below])) ?_
   intro i ⟨hi,hall⟩
   simp-implicitDefEqProofs[]
   refine aQ (λh=>?_) (λh=>?_)
   ·simp at h
    have hg:=Qd h
    have hks:=aF (Qj h)
    simp-implicitDefEqProofs[hg]
    refine(ih e.kids[i] (iQ hf (Qj h)) (by omega)).use ?_
    by_cases hk:fF e.kids[i]=true
    ·simp-implicitDefEqProofs[hk]
     refine⟨i+1,⟨h,by rw[←Qh,cL h,hall,hk];rfl⟩,by omega,ab (by simp) (by simp[okO]) ?_⟩
     simp[below,w1 (i:=i) (by omega)]
    ·have hk':fF e.kids[i]=false:=by simpa using hk
     simp-implicitDefEqProofs[hk',jO h hk']
   ·simp at h
    have:=fb h hall
    simp-implicitDefEqProofs[hd,this]
end
end Go.Proofs.YthfklclcofcpiaaGreatDoor
