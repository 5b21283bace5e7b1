/-
  Contracts and lemmas that the card needs, part 5.
-/
import Derived.Test.YtokiapglmedipaaGreatDoorRn4
import Derived.Laws.RangeAny
import Derived.Laws.RangeString
namespace Go.Proofs.YtokiapglmedipaaGreatDoor
open Go Go.Aw
set_option maxRecDepth 100000
set_option maxHeartbeats 4000000
section
theorem ah{α:Type}{xs:List α}{i:Nat}(h:i<xs.length):xs.take (i+1)=xs.take i++[xs[i]]:=by
 rw[List.take_add_one,Ub h];rfl
def ay(l:List Int):PV:= .lst 1 (l.map λn=>[.int .i64 n])
def jD(l:List Int):AO:= .row 1 (l.map λn=>[.p (.int .i64 n)])
def aD(l:List (List UInt8)):PV:= .lst 1 (l.map λw=>[.str w])
def SU(l:List (List UInt8)):List (List AV):=l.map λw=>[.p (.str w)]
def fU(l:List (List UInt8)):AO:= .row 1 (l.map λn=>[.p (.str n)])
theorem BK(l:List (List UInt8)):∀x∈SU l,aj 0 x:=by
 intro x hx;obtain⟨m,_,rfl⟩:=Uw.1 hx;simp[aj,below]
theorem uD{l:List Int}{id:Nat}{h:List AO}(e:h[id]?=some (jD l)):View h (.sl id 1 0 l.length) (ay l):=by
 have:=iV (h:=h) (id:=id) (sz:=1) (n:=l.length) (ls:=l.map λn=>[.int .i64 n]) (by rw[e,jD];simp) (by simp) (λx hx=>by obtain⟨b,_,rfl⟩:=Uw.1 hx;rfl)
 exact this
theorem uO{l:List (List UInt8)}{id:Nat}{h:List AO}(e:h[id]?=some (fU l)):View h (.sl id 1 0 l.length) (aD l):=by
 have:=iV (h:=h) (id:=id) (sz:=1) (n:=l.length) (ls:=l.map λn=>[.str n]) (by rw[e,fU];simp) (by simp) (λx hx=>by obtain⟨b,_,rfl⟩:=Uw.1 hx;rfl)
 exact this
end
section
def dx(c:UInt8):Bool:=decide (97<=c.toNat)&&decide (c.toNat<=122)
def keyW:List (List UInt8):=[[102,110],[108,101,116],[115,97,121],[112,117,116],[105,102],[101,108,115,101],[108,111,111,112],[98,97,99,107],[100,111]]
def aC(s:List UInt8):Bool:=s.all dx&&decide (0<s.length)&&decide (s.length<=4)&& !keyW.contains s
def zp:List UInt8:=[40,41,123,125,59,44,43,45,42,47,37,60,61,38,33,64]
def ty(s:List UInt8)(c:Int):Int:=match s.findIdx? (λx=>(x.toNat:Int)==c) with|some i=>i|none=> -1
def DB(c:Int):Int:=if 97<=c/\c<=122 then 1 else if 48<=c/\c<=57 then 2 else if 0<=ty zp c then 3 else if c=32\/c=10 then 4 else 0
theorem MY(x:UInt8):(DB (x.toNat:Int)=1)↔dx x=true:=by
 have h:(97<=(x.toNat:Int)/\(x.toNat:Int)<=122)↔dx x=true:=by simp[dx];omega
 unfold DB
 constructor
 ·intro e
  split at e
  ·rename_i h1;exact h.1 h1
  ·repeat' split at e
   all_goals omega
 ·intro e;rw[if_pos (h.2 e)]
def Ck(s:List UInt8):Int:=match s.findIdx? (λx=> !dx x) with|some i=>i|none=> -1
theorem Mu(s:List UInt8):decide (Ck s<0)=s.all dx:=by
 unfold Ck
 cases h:s.findIdx? (λx=> !dx x) with
 |none=>
  rw[UH] at h
  have:s.all dx=true:=Ui.2 λx hx=>by have:=h x hx;simpa using this
  simp[this]
 |some i=>
  rw[Us] at h
  obtain⟨h1,h2,_⟩:=h
  have:s.all dx=false:=List.all_eq_false.2 ⟨_,Uo h1,by simpa using h2⟩
  rw[this];simp
def idxS(l:List (List UInt8))(s:List UInt8):Int:=match l.findIdx? (λw=>w==s) with|some i=>i|none=> -1
theorem Kg(l:List (List UInt8))(s:List UInt8):decide (0<=idxS l s)=l.contains s:=by
 unfold idxS
 cases h:l.findIdx? (λw=>w==s) with
 |none=>
  rw[UH] at h
  have:l.contains s=false:=by
   cases hc:l.contains s with
   |false=>rfl
   |true=>
    have hm:s∈l:=by simpa using hc
    have:=h s hm
    simp at this
  rw[this];simp
 |some i=>
  rw[Us] at h
  obtain⟨h1,h2,_⟩:=h
  have:l.contains s=true:=by
   simp only[beq_iff_eq] at h2
   rw[List.contains_iff_mem,←h2];exact Uo h1
  rw[this];simp
variable (G:aq)
theorem uH(s:List UInt8)(c:Int)(hb:s.length<=1048576):VF Tryz.prog G kf [.p (.str s),.p (.int .u8 c)] (.p (.int .i64 (ty s c))):=by
 refine AC.go zz ?_
 simp-implicitDefEqProofs[nZ]
 refine az (λi:Nat=>ag 18 [(0,.p (.str s)),(1,.p (.int .u8 c)),(5,.p (.int .i64 i))]) (λ_=>[]) (λi=>i<=s.length/\∀x∈s.take i,(x.toNat:Int)≠c) (λi=>s.length-i) 0 (by simp) ?_ ?_
 ·exact aG rfl (by simp[below])
 ·intro i ⟨hi,hn⟩
  simp-implicitDefEqProofs[]
  refine bj (λh1=>?_) (λh1=>?_)
  ·simp at h1
   have hg:=Ub h1
   by_cases he:(s[i].toNat:Int)=c
   ·have hf:ty s c=i:=by
     have:s.findIdx? (λx=>(x.toNat:Int)==c)=some i:=by
      rw[Us]
      exact⟨h1,by simpa using he,λj hj=>by have:=hn s[j] (UZ.2 ⟨j,by omega,rfl⟩);simpa using this⟩
     rw[ty,this]
    simp-implicitDefEqProofs[hg,he,hf]
   ·simp-implicitDefEqProofs[hg,he]
    refine⟨i+1,⟨h1,λp hp=>?_⟩,by omega,aG rfl ?_⟩
    ·rw[ah h1] at hp
     rcases Un.1 hp with hp|hp
     ·exact hn p hp
     ·rw[Up.1 hp];exact he
    ·simp[below,w1 (i:=i) (by omega)]
  ·simp at h1
   rw[Uq h1] at hn
   have hf:ty s c= -1:=by
    have:s.findIdx? (λx=>(x.toNat:Int)==c)=none:=by
     rw[UH];intro x hx;simpa using hn x hx
    rw[ty,this]
   simp-implicitDefEqProofs[hf]
theorem Jc(c:Int):VF Tryz.prog G jU [.p (.int .u8 c)] (.p (.int .i64 (DB c))):=by
 refine AC.go yw ?_
 simp-implicitDefEqProofs[oF]
 unfold DB
 by_cases h1:97<=c
 ·by_cases h2:c<=122
  ·simp-implicitDefEqProofs[h1,h2]
  ·have h3:¬c<=57:=by omega
   have h4:¬c=32:=by omega
   have h5:¬c=10:=by omega
   have h6:48<=c:=by omega
   simp-implicitDefEqProofs[h1,h2,h3,h6]
   refine(uH G zp c (by decide)).use ?_
   generalize ty zp c=w
   by_cases hf:0<=w
   ·simp-implicitDefEqProofs[hf]
   ·simp-implicitDefEqProofs[hf,h4,h5]
 ·simp-implicitDefEqProofs[h1]
  by_cases h2:48<=c
  ·by_cases h3:c<=57
   ·simp-implicitDefEqProofs[h2,h3]
   ·have h4:¬c=32:=by omega
    have h5:¬c=10:=by omega
    simp-implicitDefEqProofs[h2,h3]
    refine(uH G zp c (by decide)).use ?_
    generalize ty zp c=w
    by_cases hf:0<=w
    ·simp-implicitDefEqProofs[hf]
    ·simp-implicitDefEqProofs[hf,h4,h5]
  ·simp-implicitDefEqProofs[h2]
   refine(uH G zp c (by decide)).use ?_
   generalize ty zp c=w
   by_cases hf:0<=w
   ·simp-implicitDefEqProofs[hf]
   ·by_cases h4:c=32
    ·simp-implicitDefEqProofs[hf,h4]
    ·by_cases h5:c=10
     ·simp-implicitDefEqProofs[hf,h4,h5]
     ·simp-implicitDefEqProofs[hf,h4,h5]
theorem Nj(s:List UInt8)(hb:s.length<=140737488355328):VF Tryz.prog G nh [.p (.str s),.p (.int .i64 1)] (.p (.bool (s.all dx&&decide (0<s.length)))):=by
 refine AC.go Co ?_
 simp-implicitDefEqProofs[sS]
 refine az (λi:Nat=>ag 21 [(0,.p (.str s)),(1,.p (.int .i64 1)),(5,.p (.int .i64 i))]) (λ_=>[]) (λi=>i<=s.length/\∀x∈s.take i,dx x=true) (λi=>s.length-i) 0 (by simp) ?_ ?_
 ·exact aG rfl (by simp[below])
 ·intro i ⟨hi,hn⟩
  simp-implicitDefEqProofs[]
  refine bj (λh1=>?_) (λh1=>?_)
  ·simp at h1
   have hg:=Ub h1
   simp-implicitDefEqProofs[hg]
   refine(Jc G _).use ?_
   have hcl:=MY s[i]
   by_cases he:dx s[i]=true
   ·have hc:=hcl.2 he
    simp-implicitDefEqProofs[hc]
    refine⟨i+1,⟨h1,λp hp=>?_⟩,by omega,aG rfl ?_⟩
    ·rw[ah h1] at hp
     rcases Un.1 hp with hp|hp
     ·exact hn p hp
     ·rw[Up.1 hp];exact he
    ·simp[below,w1 (i:=i) (by omega)]
   ·have hc:¬DB (s[i].toNat:Int)=1:=λe=>he (hcl.1 e)
    have ha:s.all dx=false:=List.all_eq_false.2 ⟨_,Uo h1,by simpa using he⟩
    simp-implicitDefEqProofs[hc,ha]
  ·simp at h1
   rw[Uq h1] at hn
   have ha:s.all dx=true:=Ui.2 hn
   simp-implicitDefEqProofs[ha]
theorem Fy:VF Tryz.prog G fO [] (.p (aD keyW)):=by
 have key:AC Tryz.prog G fO [] [] λx h=>x= .ret (.sl 0 1 0 9)/\h=[.row 1 (keyW.map λw=>[.p (.str w)])]:=by
  refine AC.go vU ?_
  simp-implicitDefEqProofs[nB,keyW]
 exact AC.freeze key (.one (iV (ls:=keyW.map λw=>[.str w]) (by simp) (by simp[keyW]) (by simp)) .nil)
theorem NF(s:List UInt8):VF Tryz.prog G mQ [.p (.str s)] (.p (.bool (keyW.contains s))):=by
 refine AC.go CN ?_
 have hsl:aD keyW= .lst 1 (keyW.map λw=>[.str w]):=rfl
 have hkl:keyW.length=9:=rfl
 simp-implicitDefEqProofs[tk]
 refine(Fy G).use ?_
 simp-implicitDefEqProofs[]
 refine az (λi:Nat=>ag 18 [(0,.p (.str s)),(3,.p (aD keyW)),(4,.p (.int .i64 i))]) (λ_=>[]) (λi=>i<=keyW.length/\∀w∈keyW.take i,w≠s) (λi=>keyW.length-i) 0 (by simp) ?_ ?_
 ·exact aG rfl (by simp[below,aD])
 ·intro i ⟨hi,hn⟩
  generalize keyW=L at*
  simp-implicitDefEqProofs[hsl]
  refine bj (λh1=>?_) (λh1=>?_)
  ·simp at h1
   have hg:=Ub h1
   by_cases he:L[i]=s
   ·have hm:s∈L:=by rw[←he];exact Uo h1
    simp-implicitDefEqProofs[hg,he,hm]
   ·simp-implicitDefEqProofs[hg,he]
    refine⟨i+1,⟨h1,λp hp=>?_⟩,by omega,aG rfl ?_⟩
    ·rw[ah h1] at hp
     rcases Un.1 hp with hp|hp
     ·exact hn p hp
     ·rw[Up.1 hp];exact he
    ·simp[below,w1 (i:=i) (by omega)]
  ·simp at h1
   rw[Uq h1] at hn
   have hm:¬s∈L:=λhm=>hn s hm rfl
   simp-implicitDefEqProofs[hm]
theorem tN(s:List UInt8)(hb:s.length<=140737488355328):VF Tryz.prog G ck [.p (.str s)] (.p (.bool (aC s))):=by
 refine AC.go Ak ?_
 simp-implicitDefEqProofs[rJ]
 refine(Nj G s hb).use ?_
 cases h1:(s.all dx&&decide (0<s.length)) with
 |false=>
  have hi:aC s=false:=by rw[aC,h1];rfl
  simp-implicitDefEqProofs[hi]
 |true=>
  by_cases h4:s.length<=4
  ·have h4i:(s.length:Int)<=4:=by omega
   have hi:aC s= !keyW.contains s:=by rw[aC,h1];simp[h4]
   simp-implicitDefEqProofs[h4i]
   refine(NF G s).use ?_
   rw[hi]
   simp-implicitDefEqProofs[]
  ·have h4i:¬(s.length:Int)<=4:=by omega
   have hi:aC s=false:=by rw[aC,h1];simp[h4]
   simp-implicitDefEqProofs[h4i,hi]
end
section
inductive Ex where
 |mk (op n:Int) (name:List UInt8) (kids:List Ex)
inductive Sm where
 |mk (op:Int) (name:List UInt8) (args:List Ex) (body els:List Sm)
structure Fd where (name:List UInt8) (params:List (List UInt8)) (body:List Sm)
def Ex.op:Ex->Int| .mk o _ _ _=>o
def Ex.n:Ex->Int| .mk _ n _ _=>n
def Ex.name:Ex->List UInt8| .mk _ _ s _=>s
def Ex.kids:Ex->List Ex| .mk _ _ _ k=>k
def Sm.op:Sm->Int| .mk o _ _ _ _=>o
def Sm.name:Sm->List UInt8| .mk _ s _ _ _=>s
def Sm.args:Sm->List Ex| .mk _ _ a _ _=>a
def Sm.body:Sm->List Sm| .mk _ _ _ b _=>b
def Sm.els:Sm->List Sm| .mk _ _ _ _ e=>e
mutual
def Ex.cs:Ex->List PV
 | .mk o n s k=>[.int .i64 o,.int .i64 n,.str s,.lst 4 (JQ k)]
def JQ:List Ex->List (List PV)
 |[]=>[]
 |e::r=>e.cs::JQ r
end
mutual
def Sm.cs:Sm->List PV
 | .mk o s a b e=>[.int .i64 o,.str s,.lst 4 (JQ a),.lst 5 (JX b),.lst 5 (JX e)]
def JX:List Sm->List (List PV)
 |[]=>[]
 |s::r=>s.cs::JX r
end
theorem zu:∀l:List Ex,JQ l=l.map Ex.cs
 |[]=>rfl
 |e::r=>by rw[JQ,zu r];rfl
theorem yX:∀l:List Sm,JX l=l.map Sm.cs
 |[]=>rfl
 |e::r=>by rw[JX,yX r];rfl
def exL(l:List Ex):PV:= .lst 4 (l.map Ex.cs)
def smL(l:List Sm):PV:= .lst 5 (l.map Sm.cs)
theorem Ex.cs_eq(e:Ex):e.cs=[.int .i64 e.op,.int .i64 e.n,.str e.name,exL e.kids]:=by
 cases e;rw[Ex.cs,zu];rfl
theorem Sm.cs_eq(s:Sm):s.cs=[.int .i64 s.op,.str s.name,exL s.args,smL s.body,smL s.els]:=by
 cases s;rw[Sm.cs,zu,yX,yX];rfl
@[simp] theorem Ex.cs_len(e:Ex):e.cs.length=4:=by cases e;rfl
@[simp] theorem Ex.cs_take(e:Ex):List.take 4 (e.cs.map AV.p)=e.cs.map AV.p:=by cases e;rfl
@[simp] theorem Sm.cs_len(s:Sm):s.cs.length=5:=by cases s;rfl
@[simp] theorem Sm.cs_take(s:Sm):List.take 5 (s.cs.map AV.p)=s.cs.map AV.p:=by cases s;rfl
def Fd.cs(f:Fd):List PV:=[.str f.name,aD f.params,smL f.body]
@[simp] theorem Fd.cs_len(f:Fd):f.cs.length=3:=rfl
@[simp] theorem Fd.cs_take(f:Fd):List.take 3 (f.cs.map AV.p)=f.cs.map AV.p:=rfl
def fdL(l:List Fd):PV:= .lst 3 (l.map Fd.cs)
mutual
def Ex.sz:Ex->Nat
 | .mk _ _ s k=>1+s.length+dm k
def dm:List Ex->Nat
 |[]=>0
 |e::r=>e.sz+dm r
end
mutual
def Sm.sz:Sm->Nat
 | .mk _ s a b e=>1+s.length+dm a+aK b+aK e
def aK:List Sm->Nat
 |[]=>0
 |s::r=>s.sz+aK r
end
def Fd.sz(f:Fd):Nat:=1+f.name.length+(f.params.length+(f.params.map List.length).sum)+aK f.body
def be(l:List Fd):Nat:=(l.map Fd.sz).sum
theorem Ex.sz_eq(e:Ex):e.sz=1+e.name.length+dm e.kids:=by cases e;rfl
theorem Sm.sz_eq(s:Sm):s.sz=1+s.name.length+dm s.args+aK s.body+aK s.els:=by cases s;rfl
theorem vg:∀a b:List Ex,dm (a++b)=dm a+dm b
 |[],b=>by simp[dm]
 |e::r,b=>by simp only[UN,dm,vg r b];omega
theorem uT:∀a b:List Sm,aK (a++b)=aK a+aK b
 |[],b=>by simp[aK]
 |e::r,b=>by simp only[UN,aK,uT r b];omega
theorem aS:∀{l:List Ex} {e:Ex},e∈l->e.sz<=dm l
 |x::r,e,h=>by
  simp only[dm]
  rcases Uj.1 h with rfl|h
  ·omega
  ·have:=aS h;omega
theorem aQ:∀{l:List Sm} {e:Sm},e∈l->e.sz<=aK l
 |x::r,e,h=>by
  simp only[aK]
  rcases Uj.1 h with rfl|h
  ·omega
  ·have:=aQ h;omega
theorem aX:∀l:List Ex,l.length<=dm l
 |[]=>Uf _
 |e::r=>by have:=aX r;have:=e.sz_eq;simp only[dm,Ur];omega
theorem bp:∀l:List Sm,l.length<=aK l
 |[]=>Uf _
 |e::r=>by have:=bp r;have:=e.sz_eq;simp only[aK,Ur];omega
mutual
def Ex.parts:Ex->Nat
 | .mk _ _ _ k=>1+bc k
def bc:List Ex->Nat
 |[]=>0
 |e::r=>e.parts+bc r
end
theorem Ex.parts_eq(e:Ex):e.parts=1+bc e.kids:=by cases e;rfl
theorem eF:∀a b:List Ex,bc (a++b)=bc a+bc b
 |[],b=>by simp[bc]
 |e::r,b=>by simp only[UN,bc,eF r b];omega
mutual
theorem Ex.parts_le:∀e:Ex,e.parts<=e.sz
 | .mk _ _ s k=>by have:=CS k;simp only[Ex.parts,Ex.sz];omega
theorem CS:∀l:List Ex,bc l<=dm l
 |[]=>Uf _
 |e::r=>by have:=e.parts_le;have:=CS r;simp only[bc,dm];omega
end
mutual
def Sm.cnt:Sm->Nat
 | .mk _ _ _ b e=>1+dJ b+dJ e
def dJ:List Sm->Nat
 |[]=>0
 |s::r=>s.cnt+dJ r
end
theorem Sm.cnt_eq(s:Sm):s.cnt=1+dJ s.body+dJ s.els:=by cases s;rfl
theorem nL:∀a b:List Sm,dJ (a++b)=dJ a+dJ b
 |[],b=>by simp[dJ]
 |e::r,b=>by simp only[UN,dJ,nL r b];omega
mutual
theorem Sm.cnt_le:∀s:Sm,s.cnt<=s.sz
 | .mk _ s a b e=>by have:=oZ b;have:=oZ e;simp only[Sm.cnt,Sm.sz];omega
theorem oZ:∀l:List Sm,dJ l<=aK l
 |[]=>Uf _
 |e::r=>by have:=e.cnt_le;have:=oZ r;simp only[dJ,aK];omega
end
def inR(n lo hi:Int):Bool:=decide (lo<=n)&&decide (n<=hi)
def loK(op:Int):Nat:=if op=1\/op=2 then 0 else if op=11\/op=12 then 1 else if op=13 then 0 else 2
def hiK(op:Int):Nat:=if op=1\/op=2 then 0 else if op=11\/op=12 then 1 else if op=13 then 3 else 2
def FF(op:Int):Bool:=decide (op=2)||decide (op=13)
def mg(e:Ex):Bool:=inR e.op 1 13&&inR e.kids.length (loK e.op) (hiK e.op)&&(FF e.op==aC e.name)&&(FF e.op||decide (e.name=[]))&&inR e.n 0 255&&(decide (e.op=1)||decide (e.n=0))
def cb:Nat->Ex->Bool
 |0,_=>false
 |d+1,e=>mg e&&e.kids.all (cb d)
def lQ(e:Ex):Bool:=cb 6 e&&decide (e.parts<=30)
def gZ(op:Int):Nat:=if op=4 then 2 else 1
def cC(op:Int):Bool:=decide (op=1)||decide (op=2)
def jo(s:Sm):Bool:=inR s.op 1 8&&decide (s.args.length=gZ s.op)&&(cC s.op==aC s.name)&&(cC s.op||decide (s.name=[]))&&s.args.all lQ&&
 (!decide (s.op=8)||(match s.args with|a::_=>decide (a.op=13)|[]=>false))&&(s.els.isEmpty||decide (s.op=5))&&(s.body.isEmpty||decide (s.op=5)||decide (s.op=6))
def aB:Nat->Sm->Bool
 |0,_=>false
 |d+1,s=>jo s&&s.body.all (aB d)&&s.els.all (aB d)
def ka(f:Fd):Bool:=f.params.all aC&&aC f.name&&decide (f.params.length<=3)&&f.body.all (aB 4)
def mG(l:List Fd):Nat:=(l.map λf=>dJ f.body).sum
def cy(l:List Fd):Bool:=inR l.length 1 4&&l.all ka&&decide (mG l<=40)
end
section
theorem cU{s:Bool}{h:List AO}{vs:List AV}{q:PV}{I:List Nat}(H:OwnL s h vs [q] I):∃v,vs=[v]:=by
 have:=H.len
 match vs,this with
 |[v],_=>exact⟨v,rfl⟩
theorem NJ{s:Bool}{h:List AO}{vs:List AV}{q r:PV}{I:List Nat}(H:OwnL s h vs [q,r] I):∃a b,vs=[a,b]:=by
 have:=H.len
 match vs,this with
 |[a,b],_=>exact⟨a,b,rfl⟩
theorem IM{s:Bool}{h:List AO}{vs:List AV}{q r t:PV}{I:List Nat}(H:OwnL s h vs [q,r,t] I):∃a b c,vs=[a,b,c]:=by
 have:=H.len
 match vs,this with
 |[a,b,c],_=>exact⟨a,b,c,rfl⟩
theorem Md{s:Bool}{h:List AO}{vs:List AV}{e:Ex}{I:List Nat}(H:OwnL s h vs e.cs I):∃K,vs=[.p (.int .i64 e.op),.p (.int .i64 e.n),.p (.str e.name),K]/\OwnL s h [K] [exL e.kids] I:=by
 rw[e.cs_eq] at H
 cases H with
 |p _ _ H=>
  cases H with
  |p _ _ H=>
   cases H with
   |p _ _ H=>
    obtain⟨v,rfl⟩:=cU H
    exact⟨v,rfl,H⟩
theorem Pf{s:Bool}{h:List AO}{o n:Int}{w:List UInt8}{k:List Ex}{K:AV}{I:List Nat}(H:OwnL s h [K] [exL k] I):OwnL s h [.p (.int .i64 o),.p (.int .i64 n),.p (.str w),K] (Ex.mk o n w k).cs I:=by
 rw[Ex.cs_eq]
 exact .p _ (λ_=>rfl) (.p _ (λ_=>rfl) (.p _ (λ_=>rfl) H))
theorem Ki{s:Bool}{h:List AO}{vs:List AV}{e:Sm}{I:List Nat}(H:OwnL s h vs e.cs I):∃A B E I1 I2 I3,vs=[.p (.int .i64 e.op),.p (.str e.name),A,B,E]/\I=I1++(I2++I3)/\OwnL s h [A] [exL e.args] I1/\OwnL s h [B] [smL e.body] I2/\OwnL s h [E] [smL e.els] I3:=by
 rw[e.cs_eq] at H
 cases H with
 |p _ _ H=>
  cases H with
  |p _ _ H=>
   obtain⟨A,B,E,rfl⟩:=IM H
   obtain⟨I1,I',rfl,h1,H⟩:=H.one
   obtain⟨I2,I3,rfl,h2,h3⟩:=H.one
   exact⟨A,B,E,I1,I2,I3,rfl,rfl,h1,h2,h3⟩
theorem Pl{s:Bool}{h:List AO}{o:Int}{w:List UInt8}{a:List Ex}{b e:List Sm}{A B E:AV}{I1 I2 I3:List Nat}(h1:OwnL s h [A] [exL a] I1)(h2:OwnL s h [B] [smL b] I2)(h3:OwnL s h [E] [smL e] I3):
 OwnL s h [.p (.int .i64 o),.p (.str w),A,B,E] (Sm.mk o w a b e).cs (I1++(I2++I3)):=by
 rw[Sm.cs_eq]
 exact .p _ (λ_=>rfl) (.p _ (λ_=>rfl) (h1.app (h2.app h3)))
theorem LT{s:Bool}{h:List AO}{vs:List AV}{f:Fd}{I:List Nat}(H:OwnL s h vs f.cs I):∃A B I1 I2,vs=[.p (.str f.name),A,B]/\I=I1++I2/\OwnL s h [A] [aD f.params] I1/\OwnL s h [B] [smL f.body] I2:=by
 rw[show f.cs=[.str f.name,aD f.params,smL f.body] from rfl] at H
 cases H with
 |p _ _ H=>
  obtain⟨A,B,rfl⟩:=NJ H
  obtain⟨I1,I2,rfl,h1,H⟩:=H.one
  exact⟨A,B,I1,I2,rfl,rfl,h1,H⟩
theorem PZ{s:Bool}{h:List AO}{w:List UInt8}{ps:List (List UInt8)}{b:List Sm}{A B:AV}{I1 I2:List Nat}(h1:OwnL s h [A] [aD ps] I1)(h2:OwnL s h [B] [smL b] I2):OwnL s h [.p (.str w),A,B] (Fd.mk w ps b).cs (I1++I2):=
 .p _ (λ_=>rfl) (h1.app h2)
end
section
def Fr(K:List Nat)(h h':List AO):Prop:=h.length<=h'.length/\∀i,i<h.length->i∉K->h'[i]?=h[i]?
theorem Fr.refl(K:List Nat)(h:List AO):Fr K h h:=⟨Uf _,λ_ _ _=>rfl⟩
theorem Fr.more(K:List Nat)(h os:List AO):Fr K h (h++os):=⟨by simp,λi hi _=>Ue hi⟩
theorem Fr.trans{K K':List Nat}{h h1 h2:List AO}(a:Fr K h h1)(b:Fr K' h1 h2)(hk:∀i∈K',i∈K\/h.length<=i):Fr K h h2:=
 ⟨Uv a.1 b.1,λi hi hn=>by
   rw[b.2 i (Uy hi a.1) (λhm=>by
    rcases hk i hm with q|q
    ·exact hn q
    ·omega),a.2 i hi hn]⟩
theorem Fr.sub{K K':List Nat}{h h1:List AO}(a:Fr K h h1)(hk:∀i∈K,i∈K'\/h.length<=i):Fr K' h h1:=
 ⟨a.1,λi hi hn=>a.2 i hi λhm=>by
   rcases hk i hm with q|q
   ·exact hn q
   ·omega⟩
theorem Fr.from{K:List Nat}{h os h2:List AO}(a:Fr K (h++os) h2):Fr K h h2:=
 ⟨by have:=a.1;simp at this;omega,λi hi hn=>by rw[a.2 i (by simp;omega) hn,Ue hi]⟩
theorem cN(q:PV):(AV.p q).isCell=true:=rfl
theorem Mv(a b c d:Nat):(AV.sl a b c d).isCell=true:=rfl
theorem FM(a b c d:Nat):(AV.ptr a b c d).isCell=true:=rfl
theorem aF:AV.nils.isCell=true:=rfl
theorem cP(q:PV):(AV.p q).cells=[AV.p q]:=rfl
theorem Ko(a b c d:Nat):(AV.sl a b c d).cells=[AV.sl a b c d]:=rfl
theorem FL(a b c d:Nat):(AV.ptr a b c d).cells=[AV.ptr a b c d]:=rfl
theorem aE:AV.nils.cells=[AV.nils]:=rfl
theorem aL(cs:List AV):(AV.agg cs).cells=cs:=rfl
end
section
structure LV where (name:List UInt8) (num block:Nat)
structure WS where (vs:List LV) (count:Nat) (code:Int)
def fl(c k:Int):Int:=if c=0 then k else c
theorem zL{c k:Int}(h:c≠0):fl c k=c:=if_neg h
def lkV(vs:List LV)(s:List UInt8):Option LV:=vs.find? λv=>decide (v.name=s)
def bL(fns:List Fd)(s:List UInt8):Option Nat:=fns.findIdx? λf=>decide (f.name=s)
def Az(fns:List Fd)(j:Nat):Nat:=match fns[j]? with|some f=>f.params.length|none=>0
def nN(vs:List LV)(s:List UInt8)(c:Int):Int:=match lkV vs s with|none=>fl c 3|some _=>c
def lA(fns:List Fd)(k:Nat)(s:List UInt8)(n:Nat)(c:Int):Int:=
 match bL fns s with|none=>fl c 4|some j=>if k<=j then fl c 4 else if Az fns j=n then c else fl c 5
def js(fns:List Fd)(k:Nat)(vs:List LV)(o:Int)(s:List UInt8)(n:Nat)(c:Int):Int:=
 if o=2 then nN vs s c else if o=13 then lA fns k s n c else c
mutual
def oC(fns:List Fd)(k:Nat)(vs:List LV):Ex->Int->Int
 | .mk o _ s ks,c=>bz fns k vs ks (js fns k vs o s ks.length c)
def bz(fns:List Fd)(k:Nat)(vs:List LV):List Ex->Int->Int
 |[],c=>c
 |e::r,c=>bz fns k vs r (oC fns k vs e c)
end
def vnm(n:Nat):List UInt8:=[118,UInt8.ofNat (97+n%26)]
def zS(vs:List LV)(s:List UInt8):List UInt8:=match lkV vs s with|none=>s|some v=>vnm v.num
mutual
def rnE(vs:List LV):Ex->Ex
 | .mk o n s ks=> .mk o n (if o=2 then zS vs s else s) (kP vs ks)
def kP(vs:List LV):List Ex->List Ex
 |[]=>[]
 |e::r=>rnE vs e::kP vs r
end
def pF(vs:List LV)(s:List UInt8)(b:Nat)(c:Int):Int:=match lkV vs s with|none=>c|some v=>if v.block=b then fl c 2 else c
def gt(w:WS)(s:List UInt8)(b:Nat):WS:=⟨⟨s,w.count,b⟩::w.vs,w.count+1,pF w.vs s b w.code⟩
def opW(o:Int)(s:List UInt8)(b:Nat)(w:WS):WS:=if o=1 then gt w s b else if o=2 then⟨w.vs,w.count,nN w.vs s w.code⟩ else w
def opN(o:Int)(s:List UInt8)(w:WS):List UInt8:=if o=1 then vnm w.count else if o=2 then zS w.vs s else s
def WS.back(w:WS)(vs:List LV):WS:=⟨vs,w.count,w.code⟩
mutual
def stW(fns:List Fd)(k b:Nat):Sm->WS->WS
 | .mk o s a bd el,w=>
   let w2:=opW o s b ⟨w.vs,w.count,bz fns k w.vs a w.code⟩
   let w3:=(bG fns k (b+1) bd w2).back w2.vs
   (bG fns k (b+1) el w3).back w2.vs
def bG(fns:List Fd)(k b:Nat):List Sm->WS->WS
 |[],w=>w
 |s::r,w=>bG fns k b r (stW fns k b s w)
end
def bv(ps:List (List UInt8))(w:WS):WS:=ps.foldl (λw s=>gt w s 0) w
def fnW(fns:List Fd)(k:Nat)(f:Fd):WS:=bG fns k 0 f.body (bv f.params ⟨[],0,if bL fns f.name=some k then 0 else 2⟩)
def hY(fns:List Fd):Nat->List Fd->Int
 |_,[]=>0
 |k,f::r=>if(fnW fns k f).code=0 then hY fns (k+1) r else(fnW fns k f).code
def aP(fns:List Fd):Int:=if cy fns then hY fns 0 fns else 1
abbrev Scp:=List (List UInt8 × Nat)
def dM(m:Scp)(s:List UInt8):Option Nat:=(m.find? λx=>decide (x.1=s)).map (·.2)
def gf:Scp->List UInt8->Nat->Scp
 |[],s,n=>[(s,n)]
 |x::r,s,n=>if x.1=s then(s,n)::r else x::gf r s n
def jf:List Scp->List UInt8->Option Nat
 |[],_=>none
 |m::r,s=>match dM m s with|some n=>some n|none=>jf r s
def fZ(fns:List Fd)(k:Nat)(ch:List Scp)(c:Int)(e:Ex):Int:=
 if e.op=2 then(if(jf ch e.name).isSome then c else fl c 3)
 else if e.op=13 then(match bL (fns.take k) e.name with|none=>fl c 4|some j=>if Az fns j=e.kids.length then c else fl c 5)
 else c
mutual
def Ex.pre:Ex->List Ex
 | .mk o n s ks=> .mk o n s ks::dc ks
def dc:List Ex->List Ex
 |[]=>[]
 |e::r=>e.pre++dc r
end
def Gu(fns:List Fd)(k:Nat)(ch:List Scp)(l:List Ex)(c:Int):Int:=(dc l).foldl (fZ fns k ch) c
def opS(o:Int)(s:List UInt8)(m:Scp)(n:Nat):Scp:=if o=1 then gf m s n else m
def opC(o:Int)(s:List UInt8)(m:Scp)(up:List Scp)(c:Int):Int:=
 if o=1 then(if(dM m s).isSome then fl c 2 else c) else if o=2 then(if(jf (m::up) s).isSome then c else fl c 3) else c
mutual
def icS(fns:List Fd)(k:Nat):Sm->Scp->List Scp->Int->Scp × Int
 | .mk o s a bd el,m,up,c=>
   let m2:=opS o s m 0
   let c2:=opC o s m up (Gu fns k (m::up) a c)
   (m2,if o=5\/o=6 then(gV fns k el [] (m2::up) (gV fns k bd [] (m2::up) c2).2).2 else c2)
def gV(fns:List Fd)(k:Nat):List Sm->Scp->List Scp->Int->Scp × Int
 |[],m,_,c=>(m,c)
 |s::r,m,up,c=>gV fns k r (icS fns k s m up c).1 up (icS fns k s m up c).2
end
def iZ(ps:List (List UInt8))(m:Scp)(c:Int):Scp × Int:=ps.foldl (λx s=>(gf x.1 s 0,if(dM x.1 s).isSome then fl x.2 2 else x.2)) (m,c)
def icF(fns:List Fd)(k:Nat)(f:Fd)(c:Int):Int:=
 let c1:=if(match bL fns f.name with|some j=>decide (j<k)|none=>true) then fl c 2 else c
 let x:=iZ f.params [] c1
 (gV fns k f.body x.1 [] x.2).2
def kw(fns:List Fd):Nat->List Fd->Int->Int
 |_,[],c=>c
 |k,f::r,c=>kw fns (k+1) r (icF fns k f c)
def SR(g:LV->Nat):Nat->List LV->List Scp->Prop
 |_,_,[]=>False
 |b,vs,m::up=>∃v1 v2,vs=v1++v2/\(∀v∈v1,v.block=b)/\(∀s,(lkV v1 s).map g=dM m s)/\match b with
  |0=>v2=[]/\up=[]
  |b+1=>SR g b v2 up
theorem vX(a b:List LV)(s:List UInt8):lkV (a++b) s=match lkV a s with|some v=>some v|none=>lkV b s:=by
 simp only[lkV,List.find?_append]
 cases List.find? (λv=>decide (v.name=s)) a<;>rfl
variable {g:LV->Nat}
theorem SR.blk:∀{b:Nat} {vs:List LV} {ch:List Scp},SR g b vs ch->∀v∈vs,v.block<=b
 |b,_,[],h,v,hv=>by cases b<;>exact False.elim h
 |0,vs,m::up,⟨v1,v2,e,h1,_,h3,_⟩,v,hv=>by
  subst e;subst h3
  rw[UG] at hv
  exact Nat.le_of_eq (h1 v hv)
 |b+1,vs,m::up,⟨v1,v2,e,h1,_,h3⟩,v,hv=>by
  subst e
  rcases Un.1 hv with h|h
  ·exact Nat.le_of_eq (h1 v h)
  ·exact Nat.le_succ_of_le (SR.blk h3 v h)
theorem SR.fnd:∀{b:Nat} {vs:List LV} {ch:List Scp},SR g b vs ch->∀s,(lkV vs s).map g=jf ch s
 |b,_,[],h,s=>by cases b<;>exact False.elim h
 |0,vs,m::up,⟨v1,v2,e,h1,h2,h3,h4⟩,s=>by
  subst e;subst h3;subst h4
  rw[UG,h2,jf]
  cases dM m s<;>rfl
 |b+1,vs,m::up,⟨v1,v2,e,h1,h2,h3⟩,s=>by
  subst e
  have ih:=SR.fnd h3 s
  have h2:=h2 s
  rw[vX,jf,←h2]
  cases e1:lkV v1 s with
  |some v=>rfl
  |none=>exact ih
theorem SR.is{b:Nat}{vs:List LV}{ch:List Scp}(h:SR g b vs ch)(s:List UInt8):(lkV vs s).isSome=(jf ch s).isSome:=by rw[←h.fnd s,Option.isSome_map]
theorem yg{vs:List LV}{s:List UInt8}{v:LV}(h:lkV vs s=some v):v∈vs:=List.mem_of_find?_eq_some h
theorem SR.put:∀{b:Nat} {vs:List LV} {m:Scp} {up:List Scp},SR g b vs (m::up)->∀(s:List UInt8) (c:Int),pF vs s b c=if(dM m s).isSome then fl c 2 else c:=by
 intro b vs m up h s c
 have key:∀v1 v2:List LV,(∀v∈v1,v.block=b)->(lkV v1 s).map g=dM m s->(∀v∈v2,v.block≠b)->pF (v1++v2) s b c=if(dM m s).isSome then fl c 2 else c:=by
  intro v1 v2 h1 h2 h3
  rw[←h2,pF,vX]
  cases e1:lkV v1 s with
  |some v=>simp[h1 v (yg e1)]
  |none=>
   cases e2:lkV v2 s with
   |none=>rfl
   |some v=>simp[h3 v (yg e2)]
 match b,h with
 |0,⟨v1,v2,e,h1,h2,h3,_⟩=>subst e;subst h3;exact key v1 [] h1 (h2 s) (λv hv=>by simp at hv)
 |b+1,⟨v1,v2,e,h1,h2,h3⟩=>subst e;exact key v1 v2 h1 (h2 s) (λv hv e=>by have:=h3.blk v hv;omega)
theorem Em:∀(m:Scp) (s:List UInt8) (n:Nat) (t:List UInt8),dM (gf m s n) t=if s=t then some n else dM m t
 |[],s,n,t=>by
  by_cases h:s=t
  ·simp[gf,dM,h]
  ·simp[gf,dM,h]
 |x::r,s,n,t=>by
  have ih:=Em r s n t
  simp only[dM] at ih
  by_cases hx:x.1=s
  ·by_cases h:s=t
   ·simp[gf,dM,hx,h]
   ·have:¬x.1=t:=by rw[hx];exact h
    simp[gf,dM,hx,h]
  ·by_cases ht:x.1=t
   ·have:¬s=t:=λe=>hx (ht.trans e.symm)
    rw[gf,if_neg hx,if_neg this];simp[dM,ht]
   ·simp only[gf,dM,if_neg hx,List.find?_cons,ht,decide_false]
    exact ih
theorem SR.add{b:Nat}{vs:List LV}{m:Scp}{up:List Scp}(h:SR g b vs (m::up))(s:List UInt8)(n k:Nat)(hg:g ⟨s,n,b⟩=k):SR g b (⟨s,n,b⟩::vs) (gf m s k::up):=by
 have key:∀v1:List LV,(∀s,(lkV v1 s).map g=dM m s)->∀t,(lkV (⟨s,n,b⟩::v1) t).map g=dM (gf m s k) t:=by
  intro v1 h2 t
  rw[Em]
  by_cases e:s=t
  ·simp[lkV,e,←hg]
  ·rw[if_neg e,←h2 t];simp[lkV,e]
 match b,h with
 |0,⟨v1,v2,e,h1,h2,h3⟩=>
  subst e
  refine⟨⟨s,n,0⟩::v1,v2,rfl,λv hv=>?_,key v1 h2,h3⟩
  rcases Uj.1 hv with rfl|hv
  ·rfl
  ·exact h1 v hv
 |b+1,⟨v1,v2,e,h1,h2,h3⟩=>
  subst e
  refine⟨⟨s,n,b+1⟩::v1,v2,rfl,λv hv=>?_,key v1 h2,h3⟩
  rcases Uj.1 hv with rfl|hv
  ·rfl
  ·exact h1 v hv
theorem SR.open{b:Nat}{vs:List LV}{ch:List Scp}(h:SR g b vs ch):SR g (b+1) vs ([]::ch):=⟨[],vs,rfl,λv hv=>by simp at hv,λs=>rfl,h⟩
theorem SR.base:SR g 0 [] [[]]:=⟨[],[],rfl,λv hv=>by simp at hv,λs=>rfl,rfl,rfl⟩
theorem Ce{α:Type}{p:α->Bool}{l:List α}{k:Nat}:(l.take k).findIdx? p=match l.findIdx? p with|some j=>if j<k then some j else none|none=>none:=by
 cases h:l.findIdx? p with
 |none=>
  rw[UH] at h⊢
  exact λx hx=>h x (US hx)
 |some j=>
  rw[Us] at h
  obtain⟨h1,h2,h3⟩:=h
  simp only
  split
  ·rename_i hj
   rw[Us]
   exact⟨by rw[UD];omega,by rw[List.getElem_take];exact h2,λi hi=>by rw[List.getElem_take];exact h3 i hi⟩
  ·rename_i hj
   rw[UH]
   intro x hx
   obtain⟨i,hi,rfl⟩:=UZ.1 hx
   simpa using h3 i (by omega)
theorem Lp(fns:List Fd)(k:Nat){vs:List LV}{ch:List Scp}(h:∀s,(lkV vs s).isSome=(jf ch s).isSome)(e:Ex)(c:Int):js fns k vs e.op e.name e.kids.length c=fZ fns k ch c e:=by
 unfold js fZ
 split
 ·rw[←h,nN];cases lkV vs e.name<;>rfl
 ·split
  ·rw[lA,bL,bL,Ce]
   cases List.findIdx? (λf=>decide (f.name=e.name)) fns with
   |none=>rfl
   |some j=>
    simp only
    by_cases hj:j<k
    ·rw[if_neg (by omega),if_pos hj]
    ·rw[if_pos (by omega),if_neg hj]
  ·rfl
mutual
theorem Nc(fns:List Fd)(k:Nat){vs:List LV}{ch:List Scp}(h:∀s,(lkV vs s).isSome=(jf ch s).isSome):∀(e:Ex) (c:Int),oC fns k vs e c=e.pre.foldl (fZ fns k ch) c
 | .mk o n s ks,c=>by
   rw[oC,Ex.pre,List.foldl_cons,←za fns k h ks,←Lp fns k h];rfl
theorem za(fns:List Fd)(k:Nat){vs:List LV}{ch:List Scp}(h:∀s,(lkV vs s).isSome=(jf ch s).isSome):∀(l:List Ex) (c:Int),bz fns k vs l c=(dc l).foldl (fZ fns k ch) c
 |[],c=>rfl
 |e::r,c=>by rw[bz,dc,List.foldl_append,Nc fns k h e,za fns k h r]
end
abbrev g0:LV->Nat:=λ_=>0
theorem Qh{b:Nat}{w:WS}{m:Scp}{up:List Scp}(h:SR g0 b w.vs (m::up))(o:Int)(s:List UInt8):SR g0 b (opW o s b w).vs (opS o s m 0::up)/\(opW o s b w).code=opC o s m up w.code:=by
 unfold opW opS opC
 by_cases h1:o=1
 ·simp only[h1,if_true]
  exact⟨h.add s _ 0 rfl,h.put s _⟩
 ·simp only[if_neg h1]
  split
  ·refine⟨h,?_⟩
   have:=h.is s
   simp only[nN]
   rw[←this]
   cases lkV w.vs s<;>rfl
  ·exact⟨h,rfl⟩
theorem Fb{d:Nat}{o:Int}{s:List UInt8}{a:List Ex}{bd el:List Sm}(h:aB (d+1) (.mk o s a bd el)=true):bd.all (aB d)=true/\el.all (aB d)=true/\(¬(o=5\/o=6)->bd=[]/\el=[]):=by
 simp only[aB,jo,Sm.op,Sm.body,Sm.els,Ut,Bool.or_eq_true,decide_eq_true_eq,List.isEmpty_iff] at h
 refine⟨h.1.2,h.2,λhn=>⟨?_,?_⟩⟩
 ·rcases h.1.1.2 with(h|h)|h
  ·exact h
  ·exact absurd (.inl (of_decide_eq_true h)) hn
  ·exact absurd (.inr (of_decide_eq_true h)) hn
 ·rcases h.1.1.1.2 with h|h
  ·exact h
  ·exact absurd (.inl (of_decide_eq_true h)) hn
theorem dt(w:WS)(vs:List LV):(w.back vs).code=w.code:=rfl
theorem OI(fns:List Fd)(k:Nat):∀(d b:Nat) (l:List Sm),l.all (aB d)=true->∀(w:WS) (m:Scp) (up:List Scp),SR g0 b w.vs (m::up)->
 SR g0 b (bG fns k b l w).vs ((gV fns k l m up w.code).1::up)/\(bG fns k b l w).code=(gV fns k l m up w.code).2:=by
 intro d
 induction d with
 |zero=>
  intro b l hl w m up h
  cases l with
  |nil=>exact⟨h,rfl⟩
  |cons s r=>simp[aB] at hl
 |succ d ih=>
  have fz:∀(b:Nat) (s:Sm),aB (d+1) s=true->∀(w:WS) (m:Scp) (up:List Scp),SR g0 b w.vs (m::up)->
   SR g0 b (stW fns k b s w).vs ((icS fns k s m up w.code).1::up)/\(stW fns k b s w).code=(icS fns k s m up w.code).2:=by
   intro b s hs w m up h
   obtain⟨o,n,a,bd,el⟩:=s
   obtain⟨f1,f2,f3⟩:=Fb hs
   have hc:=za fns k h.is a w.code
   obtain⟨g1,g2⟩:=Qh (w:=⟨w.vs,w.count,bz fns k w.vs a w.code⟩) h o n
   rw[stW,icS]
   simp only[hc] at g1 g2⊢
   generalize hw2:opW o n b ⟨w.vs,w.count,(dc a).foldl (fZ fns k (m::up)) w.code⟩=w2 at*
   refine⟨g1,?_⟩
   rw[dt]
   have g2':w2.code=opC o n m up (Gu fns k (m::up) a w.code):=g2
   rw[←g2']
   by_cases ho:o=5\/o=6
   ·rw[if_pos ho]
    have k1:=ih (b+1) bd f1 w2 [] _ g1.open
    have k2:=ih (b+1) el f2 ((bG fns k (b+1) bd w2).back w2.vs) [] _ g1.open
    rw[k2.2,dt,k1.2]
   ·obtain⟨rfl,rfl⟩:=f3 ho
    rw[if_neg ho]
    simp[bG,WS.back]
  intro b l
  induction l with
  |nil=>intro _ w m up h;exact⟨h,rfl⟩
  |cons s r ihl=>
   intro hl w m up h
   rw[List.all_cons,Ut] at hl
   obtain⟨k1,k2⟩:=fz b s hl.1 w m up h
   have:=ihl hl.2 _ _ up k1
   rw[bG,gV,←k2]
   exact this
theorem Cr:∀(ps:List (List UInt8)) (w:WS) (m:Scp),SR g0 0 w.vs [m]->SR g0 0 (bv ps w).vs [(iZ ps m w.code).1]/\(bv ps w).code=(iZ ps m w.code).2
 |[],w,m,h=>⟨h,rfl⟩
 |s::r,w,m,h=>by
  have hp:=h.put s w.code
  have:=Cr r (gt w s 0) (gf m s 0) (h.add s w.count 0 rfl)
  simp only[bv,iZ,List.foldl_cons] at this⊢
  rw[←hp]
  exact this
theorem Ky{fns:List Fd}{k:Nat}{ch:List Scp}{c:Int}(h:c≠0)(e:Ex):fZ fns k ch c e=c:=by
 unfold fZ
 simp only[zL h]
 split
 ·split<;>rfl
 ·split
  ·split
   ·rfl
   ·split<;>rfl
  ·rfl
theorem BJ{fns:List Fd}{k:Nat}{ch:List Scp}{c:Int}(h:c≠0):∀l:List Ex,l.foldl (fZ fns k ch) c=c
 |[]=>rfl
 |e::r=>by rw[List.foldl_cons,Ky h,BJ h r]
theorem Lu{o:Int}{s:List UInt8}{m:Scp}{up:List Scp}{c:Int}(h:c≠0):opC o s m up c=c:=by
 unfold opC
 simp only[zL h]
 split
 ·split<;>rfl
 ·split
  ·split<;>rfl
  ·rfl
mutual
theorem Ka(fns:List Fd)(k:Nat){c:Int}(h:c≠0):∀(s:Sm) (m:Scp) (up:List Scp),(icS fns k s m up c).2=c
 | .mk o s a bd el,m,up=>by
   rw[icS]
   simp only[Gu,BJ h,Lu h]
   rw[pm fns k h bd,pm fns k h el,ite_self]
theorem pm(fns:List Fd)(k:Nat){c:Int}(h:c≠0):∀(l:List Sm) (m:Scp) (up:List Scp),(gV fns k l m up c).2=c
 |[],m,up=>rfl
 |s::r,m,up=>by rw[gV,Ka fns k h s m up,pm fns k h r]
end
theorem tV{c:Int}(h:c≠0):∀(ps:List (List UInt8)) (m:Scp),(iZ ps m c).2=c
 |[],m=>rfl
 |s::r,m=>by
  have:=tV h r (gf m s 0)
  simp only[iZ,List.foldl_cons,zL h,ite_self] at this⊢
  exact this
theorem Kp(fns:List Fd)(k:Nat)(f:Fd){c:Int}(h:c≠0):icF fns k f c=c:=by
 simp only[icF,zL h,ite_self]
 rw[tV h,pm fns k h]
theorem zy(fns:List Fd){c:Int}(h:c≠0):∀(l:List Fd) (k:Nat),kw fns k l c=c
 |[],k=>rfl
 |f::r,k=>by rw[kw,Kp fns k f h,zy fns h r]
theorem Bo{fns:List Fd}{k:Nat}{f:Fd}(h:fns[k]?=some f):∃j,bL fns f.name=some j/\j<=k:=by
 cases e:bL fns f.name with
 |none=>
  rw[bL,UH] at e
  have:=e f (Uh h)
  simp at this
 |some j=>
  refine⟨j,rfl,?_⟩
  rw[bL,Us] at e
  obtain⟨h1,h2,h3⟩:=e
  rcases UQ k j with hk|hk
  ·have:=h3 k hk
   obtain⟨a1,a2⟩:=Ua.1 h
   rw[a2] at this
   simp at this
  ·exact hk
theorem Rm(fns:List Fd){k:Nat}{f:Fd}(hf:fns[k]?=some f)(hok:ka f=true):(fnW fns k f).code=icF fns k f 0:=by
 obtain⟨j,e1,e2⟩:=Bo hf
 have hb:f.body.all (aB 4)=true:=by simp only[ka,Ut] at hok;exact hok.2
 have hc:(if bL fns f.name=some k then(0:Int) else 2)=if(match bL fns f.name with|some j=>decide (j<k)|none=>true) then fl 0 2 else 0:=by
  rw[e1]
  by_cases h:j=k
  ·subst h;simp
  ·have:j<k:=by omega
   simp[h,this,fl]
 obtain⟨p1,p2⟩:=Cr f.params ⟨[],0,if bL fns f.name=some k then(0:Int) else 2⟩ [] SR.base
 obtain⟨q1,q2⟩:=OI fns k 4 0 f.body hb _ _ [] p1
 rw[fnW,q2,p2]
 simp only[icF,←hc]
theorem JJ(fns:List Fd):∀(l:List Fd) (k:Nat),(∀i,l[i]?=fns[k+i]?)->l.all ka=true->hY fns k l=kw fns k l 0
 |[],k,_,_=>rfl
 |f::r,k,hl,ha=>by
  rw[List.all_cons,Ut] at ha
  have h0:fns[k]?=some f:=by have:=hl 0;simpa using this.symm
  have hr:∀i,r[i]?=fns[k+1+i]?:=λi=>by have:=hl (i+1);rw[UP] at this;rw[this];congr 1;omega
  rw[hY,kw,Rm fns h0 ha.1]
  split
  ·rename_i e;rw[e];exact JJ fns r (k+1) hr ha.2
  ·rename_i e;rw[zy fns e]
theorem EZ(fns:List Fd):aP fns=if cy fns then kw fns 0 fns 0 else 1:=by
 unfold aP
 split
 ·rename_i h
  simp only[cy,Ut] at h
  exact JJ fns fns 0 (λi=>by rw[Nat.zero_add]) h.1.2
 ·rfl
end
section
mutual
def rnS(fns:List Fd)(k b:Nat):Sm->WS->Sm
 | .mk o s a bd el,w=>
   let w2:=opW o s b ⟨w.vs,w.count,bz fns k w.vs a w.code⟩
   .mk o (opN o s w) (kP w.vs a) (gU fns k (b+1) bd w2) (gU fns k (b+1) el ((bG fns k (b+1) bd w2).back w2.vs))
def gU(fns:List Fd)(k b:Nat):List Sm->WS->List Sm
 |[],_=>[]
 |s::r,w=>rnS fns k b s w::gU fns k b r (stW fns k b s w)
end
def mV:List (List UInt8)->WS->List (List UInt8)
 |[],_=>[]
 |s::r,w=>vnm w.count::mV r (gt w s 0)
def rnF(fns:List Fd)(k:Nat)(f:Fd):Fd:=
 ⟨f.name,mV f.params ⟨[],0,if bL fns f.name=some k then 0 else 2⟩,gU fns k 0 f.body (bv f.params ⟨[],0,if bL fns f.name=some k then 0 else 2⟩)⟩
mutual
def HZ:Sm->Nat
 | .mk o _ _ bd el=>(if o=1 then 1 else 0)+rv bd+rv el
def rv:List Sm->Nat
 |[]=>0
 |s::r=>HZ s+rv r
end
theorem ua(o:Int)(s:List UInt8)(b:Nat)(w:WS):(opW o s b w).count=w.count+if o=1 then 1 else 0:=by
 unfold opW
 split
 ·rfl
 ·split<;>rfl
mutual
theorem Bm(fns:List Fd)(k:Nat):∀(s:Sm) (b:Nat) (w:WS),(stW fns k b s w).count=w.count+HZ s
 | .mk o s a bd el,b,w=>by
   rw[stW,HZ]
   simp only[WS.back]
   rw[iw fns k el,iw fns k bd,ua];show w.count+_+_+_=_
   omega
theorem iw(fns:List Fd)(k:Nat):∀(l:List Sm) (b:Nat) (w:WS),(bG fns k b l w).count=w.count+rv l
 |[],b,w=>rfl
 |s::r,b,w=>by rw[bG,rv,iw fns k r,Bm fns k s];omega
end
mutual
theorem NE:∀s:Sm,HZ s<=s.cnt
 | .mk o s a bd el=>by
   have:=tI bd
   have:=tI el
   simp only[HZ,Sm.cnt]
   split<;>omega
theorem tI:∀l:List Sm,rv l<=dJ l
 |[]=>Uf _
 |s::r=>by have:=NE s;have:=tI r;simp only[rv,dJ];omega
end
theorem vf:∀(ps:List (List UInt8)) (w:WS),(bv ps w).count=w.count+ps.length
 |[],w=>rfl
 |s::r,w=>by
  have:=vf r (gt w s 0)
  simp only[bv,List.foldl_cons,Ur] at this⊢
  rw[this];simp only[gt];omega
theorem NQ(o:Int)(s:List UInt8)(b:Nat)(w:WS):∃e,(opW o s b w).vs=e++w.vs:=by
 unfold opW
 split
 ·exact⟨[_],rfl⟩
 ·split<;>exact⟨[],rfl⟩
theorem Fl(fns:List Fd)(k b:Nat)(o:Int)(s:List UInt8)(a:List Ex)(bd el:List Sm)(w:WS):(stW fns k b (.mk o s a bd el) w).vs=(opW o s b ⟨w.vs,w.count,bz fns k w.vs a w.code⟩).vs:=rfl
theorem Ea(fns:List Fd)(k:Nat):∀(l:List Sm) (b:Nat) (w:WS),∃e,(bG fns k b l w).vs=e++w.vs
 |[],b,w=>⟨[],rfl⟩
 | .mk o s a bd el::r,b,w=>by
   obtain⟨e1,h1⟩:=Ea fns k r b (stW fns k b (.mk o s a bd el) w)
   obtain⟨e2,h2⟩:=NQ o s b ⟨w.vs,w.count,bz fns k w.vs a w.code⟩
   exact⟨e1++e2,by rw[bG,h1,Fl,h2,UK]⟩
theorem Qg{o:Int}{s:List UInt8}{b:Nat}{w:WS}(h:w.vs.length<=w.count):(opW o s b w).vs.length<=(opW o s b w).count:=by
 unfold opW
 split
 ·simp[gt,h]
 ·split<;>exact h
theorem Pp(fns:List Fd)(k:Nat){s:Sm}{b:Nat}{w:WS}(h:w.vs.length<=w.count):(stW fns k b s w).vs.length<=(stW fns k b s w).count:=by
 obtain⟨o,n,a,bd,el⟩:=s
 rw[Bm,Fl]
 have:=Qg (o:=o) (s:=n) (b:=b) (w:=⟨w.vs,w.count,bz fns k w.vs a w.code⟩) h
 rw[ua] at this
 simp only[HZ]
 simp only at this
 omega
theorem GI(fns:List Fd)(k:Nat):∀{l:List Sm} {b:Nat} {w:WS},w.vs.length<=w.count->(bG fns k b l w).vs.length<=(bG fns k b l w).count
 |[],_,_,h=>h
 |s::r,b,w,h=>GI fns k (l:=r) (Pp fns k h)
mutual
def Sm.pre(d:Nat):Sm->List (Sm × Nat)
 | .mk o s a bd el=>(.mk o s a bd el,d)::(bu (d+1) bd++bu (d+1) el)
def bu(d:Nat):List Sm->List (Sm × Nat)
 |[]=>[]
 |s::r=>Sm.pre d s++bu d r
end
theorem Sm.pre_eq(d:Nat)(s:Sm):s.pre d=(s,d)::(bu (d+1) s.body++bu (d+1) s.els):=by cases s;rfl
theorem se(d:Nat):∀a b:List Sm,bu d (a++b)=bu d a++bu d b
 |[],b=>rfl
 |s::r,b=>by rw[UN,bu,bu,se d r b,UK]
theorem Ex.pre_eq(e:Ex):e.pre=e::dc e.kids:=by cases e;rfl
theorem sI:∀a b:List Ex,dc (a++b)=dc a++dc b
 |[],b=>rfl
 |e::r,b=>by rw[UN,dc,dc,sI r b,UK]
mutual
theorem Sm.pre_len:∀(s:Sm) (d:Nat),(s.pre d).length=s.cnt
 | .mk o s a bd el,d=>by simp only[Sm.pre,Sm.cnt,Ur,Uu,kD bd,kD el];omega
theorem kD:∀(l:List Sm) (d:Nat),(bu d l).length=dJ l
 |[],d=>rfl
 |s::r,d=>by simp only[bu,dJ,Uu,Sm.pre_len s,kD r]
end
end
section
theorem uK{vs:List LV}{s:List UInt8}{c:Int}(h:c≠0):nN vs s c=c:=by unfold nN;split<;>simp[zL h]
theorem Gc{fns:List Fd}{k:Nat}{s:List UInt8}{n:Nat}{c:Int}(h:c≠0):lA fns k s n c=c:=by
 unfold lA
 simp only[zL h]
 split
 ·rfl
 ·split
  ·rfl
  ·split<;>rfl
theorem Gj{fns:List Fd}{k:Nat}{vs:List LV}{o:Int}{s:List UInt8}{n:Nat}{c:Int}(h:c≠0):js fns k vs o s n c=c:=by
 unfold js
 rw[uK h,Gc h]
 split
 ·rfl
 ·split<;>rfl
mutual
theorem Iu(fns:List Fd)(k:Nat)(vs:List LV){c:Int}(h:c≠0):∀e:Ex,oC fns k vs e c=c
 | .mk o n s ks=>by rw[oC,Gj h,nb fns k vs h ks]
theorem nb(fns:List Fd)(k:Nat)(vs:List LV){c:Int}(h:c≠0):∀l:List Ex,bz fns k vs l c=c
 |[]=>rfl
 |e::r=>by rw[bz,Iu fns k vs h e,nb fns k vs h r]
end
theorem fR{fns:List Fd}{k:Nat}{vs:List LV}{l:List Ex}{c:Int}(h:bz fns k vs l c=0):c=0:=by
 by_cases hc:c=0
 ·exact hc
 ·rw[nb fns k vs hc] at h;exact h
theorem Bg{vs:List LV}{s:List UInt8}{c:Int}(h:nN vs s c=0):c=0/\∃v,lkV vs s=some v:=by
 by_cases hc:c=0
 ·refine⟨hc,?_⟩
  unfold nN at h
  cases e:lkV vs s with
  |some v=>exact⟨v,rfl⟩
  |none=>rw[e] at h;simp[fl,hc] at h
 ·rw[uK hc] at h;exact absurd h hc
theorem DY{o:Int}{s:List UInt8}{b:Nat}{w:WS}(h:w.code≠0):(opW o s b w).code=w.code:=by
 unfold opW
 split
 ·simp only[gt,pF,zL h]
  split
  ·rfl
  ·split<;>rfl
 ·split
  ·exact uK h
  ·rfl
mutual
theorem KV(fns:List Fd)(k:Nat):∀(s:Sm) (b:Nat) (w:WS),w.code≠0->(stW fns k b s w).code=w.code
 | .mk o s a bd el,b,w,h=>by
   have e1:(bz fns k w.vs a w.code)=w.code:=nb fns k w.vs h a
   have e2:(opW o s b ⟨w.vs,w.count,bz fns k w.vs a w.code⟩).code=w.code:=by rw[DY]<;>simp only[e1];exact h
   have e3:=pi fns k bd (b+1) (opW o s b ⟨w.vs,w.count,bz fns k w.vs a w.code⟩) (by rw[e2];exact h)
   rw[stW,dt,pi fns k el _ _ (by rw[dt,e3,e2];exact h),dt,e3,e2]
theorem pi(fns:List Fd)(k:Nat):∀(l:List Sm) (b:Nat) (w:WS),w.code≠0->(bG fns k b l w).code=w.code
 |[],b,w,h=>rfl
 |s::r,b,w,h=>by
  have e1:=KV fns k s b w h
  rw[bG,pi fns k r b _ (by rw[e1];exact h),e1]
end
theorem cI{fns:List Fd}{k b:Nat}{l:List Sm}{w:WS}(h:(bG fns k b l w).code=0):w.code=0:=by
 by_cases hc:w.code=0
 ·exact hc
 ·rw[pi fns k l b w hc] at h;exact h
theorem yH{o:Int}{s:List UInt8}{b:Nat}{w:WS}(h:(opW o s b w).code=0):w.code=0:=by
 by_cases hc:w.code=0
 ·exact hc
 ·rw[DY hc] at h;exact h
end
section
theorem oP(fns:List Fd):∀(l:List Fd) (k:Nat),hY fns k l=0↔∀(i:Nat) (f:Fd),l[i]?=some f->(fnW fns (k+i) f).code=0
 |[],k=>by simp[hY]
 |f::r,k=>by
  rw[hY]
  have ih:=oP fns r (k+1)
  constructor
  ·intro h i g hg
   by_cases h0:(fnW fns k f).code=0
   ·rw[if_pos h0] at h
    cases i with
    |zero=>cases hg;exact h0
    |succ i=>have:=ih.1 h i g (by simpa using hg);rwa[show k+(i+1)=k+1+i by omega]
   ·rw[if_neg h0] at h;exact absurd h h0
  ·intro h
   rw[if_pos (by have:=h 0 f rfl;rwa[Nat.add_zero] at this)]
   exact ih.2 λi g hg=>by have:=h (i+1) g (by simpa using hg);rwa[show k+(i+1)=k+1+i by omega] at this
theorem CD(l:List Fd):aP l=0↔cy l=true/\∀(k:Nat) (f:Fd),l[k]?=some f->(fnW l k f).code=0:=by
 unfold aP
 by_cases h:cy l=true
 ·rw[if_pos h,oP];simp[h]
 ·rw[if_neg h];simp[h]
theorem yA(l:List Fd):cy l=true↔(1<=l.length/\l.length<=4)/\(∀f∈l,ka f=true)/\mG l<=40:=by
 simp only[cy,inR,Ut,decide_eq_true_eq,Ui]
 constructor
 ·rintro⟨⟨⟨h1,h2⟩,h3⟩,h4⟩;exact⟨⟨by omega,by omega⟩,h3,h4⟩
 ·rintro⟨⟨h1,h2⟩,h3,h4⟩;exact⟨⟨⟨by omega,by omega⟩,h3⟩,h4⟩
def Fd.cut(f:Fd)(n:Nat):Fd:=⟨f.name,f.params,f.body.take n⟩
end
section
abbrev Sc5:=List (List UInt8 × Int)
structure S5 where (left:Nat) (said:List Int) (cells:List Int)
inductive O5 (α:Type) where
 |ok (a:α)
 |st (c:Int)
def bF:Sc5->List UInt8->Option Int
 |[],_=>none
 |x::r,s=>if x.1=s then some x.2 else bF r s
def sset:Sc5->List UInt8->Int->Sc5
 |[],_,_=>[]
 |x::r,s,n=>if x.1=s then(s,n)::r else x::sset r s n
def gu:List Sc5->List UInt8->Option Int
 |[],_=>none
 |m::r,s=>match bF m s with|some n=>some n|none=>gu r s
def gN:List Sc5->List UInt8->Int->List Sc5
 |[],_,_=>[]
 |m::r,s,n=>if(bF m s).isSome then sset m s n::r else m::gN r s n
def tr5(b:Bool):Int:=if b then 1 else 0
def Cd(op a b:Int):Option Int:=
 if op=3 then some ((a+b)%256) else if op=4 then some ((a-b+256)%256) else if op=5 then some (a*b%256) else if op=8 then some (tr5 (decide (a<b))) else if op=9 then some (tr5 (decide (a=b)))
 else if b=0 then none else if op=6 then some (a/b) else some (a%b)
def S5.say(s:S5)(n:Int):S5:=⟨s.left,s.said++[n],s.cells⟩
def S5.put(s:S5)(i:Nat)(n:Int):S5:=⟨s.left,s.said,s.cells.set i n⟩
def S5.at_(s:S5)(F:Nat):S5:=⟨F,s.said,s.cells⟩
def V5(n:Int):Prop:=0<=n/\n<=255
inductive J5 where
 |ex (k:Nat) (v:List Sc5) (s:S5) (e:Ex) (s':S5) (r:O5 Int)
 |exs (k:Nat) (v:List Sc5) (s:S5) (es:List Ex) (s':S5) (r:O5 (List Int))
 |cal (k:Nat) (us:List Int) (s:S5) (s':S5) (r:O5 Int)
 |stm (k:Nat) (v:List Sc5) (s:S5) (x:Sm) (v':List Sc5) (s':S5) (r:O5 (Option Int))
 |blk (k:Nat) (v:List Sc5) (s:S5) (xs:List Sm) (v':List Sc5) (s':S5) (r:O5 (Option Int))
 |lp (k:Nat) (v:List Sc5) (s:S5) (x:Sm) (v':List Sc5) (s':S5) (r:O5 (Option Int))
def Gn:O5 (Option Int)->O5 Int
 | .ok (some n)=> .ok n
 | .ok none=> .ok 0
 | .st c=> .st c
inductive Ev (l:List Fd):J5->Prop where
 |num {k v s e}:e.op=1->V5 e.n->Ev l (.ex k v s e s (.ok e.n))
 |var {k v s e n}:e.op=2->gu v e.name=some n->Ev l (.ex k v s e s (.ok n))
 |call {k v s e s1 us j s2 r}:e.op=13->Ev l (.exs k v s e.kids s1 (.ok us))->bL l e.name=some j->j<k->Ev l (.cal j us s1 s2 r)->Ev l (.ex k v s e s2 r)
 |callS {k v s e s1 c}:e.op=13->Ev l (.exs k v s e.kids s1 (.st c))->Ev l (.ex k v s e s1 (.st c))
 |firstS {k v s e a r s1 c}:3<=e.op->e.op<=12->e.kids=a::r->Ev l (.ex k v s a s1 (.st c))->Ev l (.ex k v s e s1 (.st c))
 |and0 {k v s e a b s1}:e.op=10->e.kids=[a,b]->Ev l (.ex k v s a s1 (.ok 0))->Ev l (.ex k v s e s1 (.ok 0))
 |and1 {k v s e a b s1 n s2 m}:e.op=10->e.kids=[a,b]->Ev l (.ex k v s a s1 (.ok n))->n≠0->Ev l (.ex k v s1 b s2 (.ok m))->Ev l (.ex k v s e s2 (.ok (tr5 (decide (m≠0)))))
 |andS {k v s e a b s1 n s2 c}:e.op=10->e.kids=[a,b]->Ev l (.ex k v s a s1 (.ok n))->n≠0->Ev l (.ex k v s1 b s2 (.st c))->Ev l (.ex k v s e s2 (.st c))
 |not {k v s e a s1 n}:e.op=11->e.kids=[a]->Ev l (.ex k v s a s1 (.ok n))->Ev l (.ex k v s e s1 (.ok (tr5 (decide (n=0)))))
 |at_ {k v s e a s1 n m}:e.op=12->e.kids=[a]->Ev l (.ex k v s a s1 (.ok (n:Nat)))->n<16->s1.cells[n]?=some m->Ev l (.ex k v s e s1 (.ok m))
 |atS {k v s e a s1 n}:e.op=12->e.kids=[a]->Ev l (.ex k v s a s1 (.ok n))->16<=n->Ev l (.ex k v s e s1 (.st 2))
 |bin {k v s e a b s1 n s2 m q}:3<=e.op->e.op<=9->e.kids=[a,b]->Ev l (.ex k v s a s1 (.ok n))->Ev l (.ex k v s1 b s2 (.ok m))->Cd e.op n m=some q->Ev l (.ex k v s e s2 (.ok q))
 |binS {k v s e a b s1 n s2 c}:3<=e.op->e.op<=9->e.kids=[a,b]->Ev l (.ex k v s a s1 (.ok n))->Ev l (.ex k v s1 b s2 (.st c))->Ev l (.ex k v s e s2 (.st c))
 |binD {k v s e a b s1 n s2 m}:3<=e.op->e.op<=9->e.kids=[a,b]->Ev l (.ex k v s a s1 (.ok n))->Ev l (.ex k v s1 b s2 (.ok m))->Cd e.op n m=none->Ev l (.ex k v s e s2 (.st 1))
 |nil {k v s}:Ev l (.exs k v s [] s (.ok []))
 |cons {k v s a r s1 n s2 ns}:Ev l (.ex k v s a s1 (.ok n))->Ev l (.exs k v s1 r s2 (.ok ns))->Ev l (.exs k v s (a::r) s2 (.ok (n::ns)))
 |consS {k v s a r s1 c}:Ev l (.ex k v s a s1 (.st c))->Ev l (.exs k v s (a::r) s1 (.st c))
 |consT {k v s a r s1 n s2 c}:Ev l (.ex k v s a s1 (.ok n))->Ev l (.exs k v s1 r s2 (.st c))->Ev l (.exs k v s (a::r) s2 (.st c))
 |cal {k f us s v' s' r}:l[k]?=some f->f.params.length=us.length->Ev l (.blk k [f.params.zip us] s f.body v' s' r)->Ev l (.cal k us s s' (Gn r))
 |bnil {k v s}:Ev l (.blk k v s [] v s (.ok none))
 |bfuel {k v s x r}:s.left=0->Ev l (.blk k v s (x::r) v s (.st 3))
 |bgo {k v s x r F v1 s1 v2 s2 q}:s.left=F+1->Ev l (.stm k v (s.at_ F) x v1 s1 (.ok none))->Ev l (.blk k v1 s1 r v2 s2 q)->Ev l (.blk k v s (x::r) v2 s2 q)
 |bend {k v s x r F v1 s1 q}:s.left=F+1->Ev l (.stm k v (s.at_ F) x v1 s1 q)->q≠ .ok none->Ev l (.blk k v s (x::r) v1 s1 q)
 |argS {k v s x a r s1 c}:x.op≠6->x.args=a::r->Ev l (.ex k v s a s1 (.st c))->Ev l (.stm k v s x v s1 (.st c))
 |slet {k v s x a s1 n m up}:x.op=1->x.args=[a]->Ev l (.ex k v s a s1 (.ok n))->v=m::up->bF m x.name=none->Ev l (.stm k v s x ((m++[(x.name,n)])::up) s1 (.ok none))
 |sset {k v s x a s1 n}:x.op=2->x.args=[a]->Ev l (.ex k v s a s1 (.ok n))->(gu v x.name).isSome=true->Ev l (.stm k v s x (gN v x.name n) s1 (.ok none))
 |ssay {k v s x a s1 n}:x.op=3->x.args=[a]->Ev l (.ex k v s a s1 (.ok n))->Ev l (.stm k v s x v (s1.say n) (.ok none))
 |sput {k v s x a b s1 n s2 m}:x.op=4->x.args=[a,b]->Ev l (.ex k v s a s1 (.ok (n:Nat)))->Ev l (.ex k v s1 b s2 (.ok m))->n<16->Ev l (.stm k v s x v (s2.put n m) (.ok none))
 |sputC {k v s x a b s1 n s2 m}:x.op=4->x.args=[a,b]->Ev l (.ex k v s a s1 (.ok n))->Ev l (.ex k v s1 b s2 (.ok m))->16<=n->Ev l (.stm k v s x v s2 (.st 2))
 |sputS {k v s x a b s1 n s2 c}:x.op=4->x.args=[a,b]->Ev l (.ex k v s a s1 (.ok n))->Ev l (.ex k v s1 b s2 (.st c))->Ev l (.stm k v s x v s2 (.st c))
 |sif {k v s x a s1 n m v' s2 q}:x.op=5->x.args=[a]->Ev l (.ex k v s a s1 (.ok n))->Ev l (.blk k ([]::v) s1 (if n≠0 then x.body else x.els) (m::v') s2 q)->Ev l (.stm k v s x v' s2 q)
 |sloop {k v s x v' s' q}:x.op=6->Ev l (.lp k v s x v' s' q)->Ev l (.stm k v s x v' s' q)
 |sback {k v s x a s1 n}:x.op=7->x.args=[a]->Ev l (.ex k v s a s1 (.ok n))->Ev l (.stm k v s x v s1 (.ok (some n)))
 |sdo {k v s x a s1 n}:x.op=8->x.args=[a]->Ev l (.ex k v s a s1 (.ok n))->Ev l (.stm k v s x v s1 (.ok none))
 |lpS {k v s x a s1 c}:x.args=[a]->Ev l (.ex k v s a s1 (.st c))->Ev l (.lp k v s x v s1 (.st c))
 |lp0 {k v s x a s1}:x.args=[a]->Ev l (.ex k v s a s1 (.ok 0))->Ev l (.lp k v s x v s1 (.ok none))
 |lpEnd {k v s x a s1 n m v' s2 q}:x.args=[a]->Ev l (.ex k v s a s1 (.ok n))->n≠0->Ev l (.blk k ([]::v) s1 x.body (m::v') s2 q)->q≠ .ok none->Ev l (.lp k v s x v' s2 q)
 |lpFuel {k v s x a s1 n m v' s2}:x.args=[a]->Ev l (.ex k v s a s1 (.ok n))->n≠0->Ev l (.blk k ([]::v) s1 x.body (m::v') s2 (.ok none))->s2.left=0->Ev l (.lp k v s x v' s2 (.st 3))
 |lpGo {k v s x a s1 n m v' s2 F v'' s3 q}:x.args=[a]->Ev l (.ex k v s a s1 (.ok n))->n≠0->Ev l (.blk k ([]::v) s1 x.body (m::v') s2 (.ok none))->s2.left=F+1->Ev l (.lp k v' (s2.at_ F) x v'' s3 q)->Ev l (.lp k v s x v'' s3 q)
end
section
structure G5 (s:S5):Prop where
 len:s.cells.length=16
 cells:∀c∈s.cells,V5 c
 said:∀c∈s.said,V5 c
def GE5(v:List Sc5):Prop:=∀m∈v,∀x∈m,V5 x.2
theorem Ej:∀{m:Sc5} {s:List UInt8} {n:Int},bF m s=some n->(s,n)∈m
 |[],_,_,h=>by cases h
 |x::r,s,n,h=>by
  rw[bF] at h
  by_cases e:x.1=s
  ·rw[if_pos e] at h;cases h;subst e;simp
  ·rw[if_neg e] at h;exact Ve _ (Ej h)
theorem uI:∀{v:List Sc5} {s:List UInt8} {n:Int},GE5 v->gu v s=some n->V5 n
 |[],_,_,_,h=>by cases h
 |m::r,s,n,g,h=>by
  rw[gu] at h
  cases e:bF m s with
  |some q=>
   rw[e] at h;cases h
   exact g m (by simp) _ (Ej e)
  |none=>
   rw[e] at h
   exact uI (λm hm=>g m (by simp[hm])) h
theorem BQ:∀{m:Sc5} {s:List UInt8} {n:Int},(∀x∈m,V5 x.2)->V5 n->∀x∈sset m s n,V5 x.2
 |[],_,_,_,_,x,hx=>by cases hx
 |y::r,s,n,g,hn,x,hx=>by
  rw[sset] at hx
  split at hx
  ·rcases Uj.1 hx with rfl|hx
   ·exact hn
   ·exact g x (by simp[hx])
  ·rcases Uj.1 hx with rfl|hx
   ·exact g x (by simp)
   ·exact BQ (λx hx=>g x (by simp[hx])) hn x hx
theorem Bf:∀{v:List Sc5} {s:List UInt8} {n:Int},GE5 v->V5 n->GE5 (gN v s n)
 |[],_,_,g,_=>g
 |m::r,s,n,g,hn=>by
  rw[gN]
  split
  ·intro q hq
   rcases Uj.1 hq with rfl|hq
   ·exact BQ (g m (by simp)) hn
   ·exact g q (by simp[hq])
  ·intro q hq
   rcases Uj.1 hq with rfl|hq
   ·exact g q (by simp)
   ·exact Bf (λm hm=>g m (by simp[hm])) hn q hq
theorem gg(b:Bool):V5 (tr5 b):=by cases b<;>simp[tr5,V5]
theorem Bp{op a b n:Int}(ha:V5 a)(hb:V5 b)(h:Cd op a b=some n):V5 n:=by
 obtain⟨a0,a1⟩:=ha
 obtain⟨b0,b1⟩:=hb
 unfold Cd at h
 split at h
 ·cases h;unfold V5;omega
 split at h
 ·cases h;unfold V5;omega
 split at h
 ·cases h
  have:0<=a*b:=Int.mul_nonneg a0 b0
  unfold V5
  generalize a*b=q at*
  omega
 split at h
 ·cases h;exact gg _
 split at h
 ·cases h;exact gg _
 split at h
 ·cases h
 split at h
 ·cases h
  have h1:0<=a/b:=Int.ediv_nonneg a0 b0
  have h2:a/b<=a:=Int.ediv_le_self b a0
  exact⟨h1,by omega⟩
 ·cases h
  rename_i hb0 _
  have h1:0<=a%b:=Int.emod_nonneg a hb0
  have h2:a%b<b:=Int.emod_lt_of_pos a (by omega)
  exact⟨h1,by omega⟩
theorem G5.say{s:S5}(g:G5 s){n:Int}(hn:V5 n):G5 (s.say n):=⟨g.len,g.cells,λc hc=>by
 rcases Un.1 hc with h|h
 ·exact g.said c h
 ·rw[Up.1 h];exact hn⟩
theorem G5.put{s:S5}(g:G5 s)(i:Nat){n:Int}(hn:V5 n):G5 (s.put i n):=⟨by rw[←g.len];exact UI,λc hc=>by
 rcases List.mem_or_eq_of_mem_set hc with h|h
 ·exact g.cells c h
 ·rw[h];exact hn,g.said⟩
theorem G5.at_{s:S5}(g:G5 s)(F:Nat):G5 (s.at_ F):=⟨g.len,g.cells,g.said⟩
def Tz:J5->Prop
 | .ex _ v s _ _ _=>G5 s/\GE5 v
 | .exs _ v s _ _ _=>G5 s/\GE5 v
 | .cal _ us s _ _=>G5 s/\∀n∈us,V5 n
 | .stm _ v s _ _ _ _=>G5 s/\GE5 v
 | .blk _ v s _ _ _ _=>G5 s/\GE5 v
 | .lp _ v s _ _ _ _=>G5 s/\GE5 v
def Rx:J5->Prop
 | .ex _ _ s _ s' r=>G5 s'/\s'.left<=s.left/\∀n,r= .ok n->V5 n
 | .exs _ _ s es s' r=>G5 s'/\s'.left<=s.left/\∀ns,r= .ok ns->ns.length=es.length/\∀n∈ns,V5 n
 | .cal _ _ s s' r=>G5 s'/\s'.left<=s.left/\∀n,r= .ok n->V5 n
 | .stm _ _ s _ v' s' r=>G5 s'/\s'.left<=s.left/\GE5 v'/\∀n,r= .ok (some n)->V5 n
 | .blk _ _ s _ v' s' r=>G5 s'/\s'.left<=s.left/\GE5 v'/\∀n,r= .ok (some n)->V5 n
 | .lp _ _ s _ v' s' r=>G5 s'/\s'.left<=s.left/\GE5 v'/\∀n,r= .ok (some n)->V5 n
theorem GE5.tail{m:Sc5}{v:List Sc5}(g:GE5 (m::v)):GE5 v:=λq hq=>g q (by simp[hq])
theorem GE5.opn{v:List Sc5}(g:GE5 v):GE5 ([]::v):=λq hq=>by
 rcases Uj.1 hq with rfl|hq
 ·intro x hx;cases hx
 ·exact g q hq
theorem dE{l:List Fd}{j:J5}(h:Ev l j):Tz j->Rx j:=by
 induction h with
 |num _ h=>exact λp=>⟨p.1,Uf _,λn e=>by cases e;exact h⟩
 |var _ h=>exact λp=>⟨p.1,Uf _,λn e=>by cases e;exact uI p.2 h⟩
 |call _ _ _ _ _ i1 i2=>
   intro p
   have a:=i1 p
   have b:=i2 ⟨a.1,(a.2.2 _ rfl).2⟩
   exact⟨b.1,Uv b.2.1 a.2.1,b.2.2⟩
 |callS _ _ i1=>
   intro p
   have a:=i1 p
   exact⟨a.1,a.2.1,λn e=>by cases e⟩
 |firstS _ _ _ _ i1=>
   intro p
   have a:=i1 p
   exact⟨a.1,a.2.1,λn e=>by cases e⟩
 |and0 _ _ _ i1=>
   intro p
   have a:=i1 p
   exact⟨a.1,a.2.1,λn e=>by cases e;exact⟨by omega,by omega⟩⟩
 |and1 _ _ _ _ _ i1 i2=>
   intro p
   have a:=i1 p
   have b:=i2 ⟨a.1,p.2⟩
   exact⟨b.1,Uv b.2.1 a.2.1,λn e=>by cases e;exact gg _⟩
 |andS _ _ _ _ _ i1 i2=>
   intro p
   have a:=i1 p
   have b:=i2 ⟨a.1,p.2⟩
   exact⟨b.1,Uv b.2.1 a.2.1,λn e=>by cases e⟩
 |not _ _ _ i1=>
   intro p
   have a:=i1 p
   exact⟨a.1,a.2.1,λn e=>by cases e;exact gg _⟩
 |at_ _ _ _ _ hm i1=>
   intro p
   have a:=i1 p
   exact⟨a.1,a.2.1,λn e=>by cases e;exact a.1.cells _ (Uh hm)⟩
 |atS _ _ _ _ i1=>
   intro p
   have a:=i1 p
   exact⟨a.1,a.2.1,λn e=>by cases e⟩
 |bin _ _ _ _ _ ht i1 i2=>
   intro p
   have a:=i1 p
   have b:=i2 ⟨a.1,p.2⟩
   exact⟨b.1,Uv b.2.1 a.2.1,λn e=>by cases e;exact Bp (a.2.2 _ rfl) (b.2.2 _ rfl) ht⟩
 |binS _ _ _ _ _ i1 i2=>
   intro p
   have a:=i1 p
   have b:=i2 ⟨a.1,p.2⟩
   exact⟨b.1,Uv b.2.1 a.2.1,λn e=>by cases e⟩
 |binD _ _ _ _ _ _ i1 i2=>
   intro p
   have a:=i1 p
   have b:=i2 ⟨a.1,p.2⟩
   exact⟨b.1,Uv b.2.1 a.2.1,λn e=>by cases e⟩
 |nil=>exact λp=>⟨p.1,Uf _,λns e=>by cases e;exact⟨rfl,λn h=>by cases h⟩⟩
 |cons _ _ i1 i2=>
   intro p
   have a:=i1 p
   have b:=i2 ⟨a.1,p.2⟩
   refine⟨b.1,Uv b.2.1 a.2.1,λns e=>?_⟩
   cases e
   obtain⟨k1,k2⟩:=b.2.2 _ rfl
   refine⟨by simp[k1],λn hn=>?_⟩
   rcases Uj.1 hn with rfl|hn
   ·exact a.2.2 _ rfl
   ·exact k2 n hn
 |consS _ i1=>
   intro p
   have a:=i1 p
   exact⟨a.1,a.2.1,λn e=>by cases e⟩
 |consT _ _ i1 i2=>
   intro p
   have a:=i1 p
   have b:=i2 ⟨a.1,p.2⟩
   exact⟨b.1,Uv b.2.1 a.2.1,λn e=>by cases e⟩
 | @cal k f us s v' s' r _ _ _ i1=>
    intro p
    have a:=i1 ⟨p.1,λm hm x hx=>by
     rw[Up.1 hm] at hx
     exact p.2 _ (List.of_mem_zip hx).2⟩
    refine⟨a.1,a.2.1,λn e=>?_⟩
    match r,e with
    | .ok (some q),e=>cases e;exact a.2.2.2 _ rfl
    | .ok none,e=>cases e;exact⟨by omega,by omega⟩
 |bnil=>exact λp=>⟨p.1,Uf _,p.2,λn e=>by cases e⟩
 |bfuel _=>exact λp=>⟨p.1,Uf _,p.2,λn e=>by cases e⟩
 | @bgo k v s x r F v1 s1 v2 s2 q hF _ _ i1 i2=>
    intro p
    have a:=i1 ⟨p.1.at_ F,p.2⟩
    have b:=i2 ⟨a.1,a.2.2.1⟩
    have h1:s1.left<=F:=a.2.1
    exact⟨b.1,by have:=b.2.1;omega,b.2.2⟩
 | @bend k v s x r F v1 s1 q hF _ _ i1=>
    intro p
    have a:=i1 ⟨p.1.at_ F,p.2⟩
    have h1:s1.left<=F:=a.2.1
    exact⟨a.1,by omega,a.2.2⟩
 |argS _ _ _ i1=>
   intro p
   have a:=i1 p
   exact⟨a.1,a.2.1,p.2,λn e=>by cases e⟩
 | @slet k v s x a s1 n m up _ _ _ hv _ i1=>
    intro p
    have a:=i1 p
    subst hv
    refine⟨a.1,a.2.1,λq hq=>?_,λn e=>by cases e⟩
    rcases Uj.1 hq with rfl|hq
    ·intro y hy
     rcases Un.1 hy with h|h
     ·exact p.2 m (by simp) y h
     ·rw[Up.1 h];exact a.2.2 _ rfl
    ·exact p.2 q (by simp[hq])
 |sset _ _ _ _ i1=>
   intro p
   have a:=i1 p
   exact⟨a.1,a.2.1,Bf p.2 (a.2.2 _ rfl),λn e=>by cases e⟩
 |ssay _ _ _ i1=>
   intro p
   have a:=i1 p
   exact⟨a.1.say (a.2.2 _ rfl),a.2.1,p.2,λn e=>by cases e⟩
 |sput _ _ _ _ _ i1 i2=>
   intro p
   have a:=i1 p
   have b:=i2 ⟨a.1,p.2⟩
   exact⟨b.1.put _ (b.2.2 _ rfl),Uv b.2.1 a.2.1,p.2,λn e=>by cases e⟩
 |sputC _ _ _ _ _ i1 i2=>
   intro p
   have a:=i1 p
   have b:=i2 ⟨a.1,p.2⟩
   exact⟨b.1,Uv b.2.1 a.2.1,p.2,λn e=>by cases e⟩
 |sputS _ _ _ _ i1 i2=>
   intro p
   have a:=i1 p
   have b:=i2 ⟨a.1,p.2⟩
   exact⟨b.1,Uv b.2.1 a.2.1,p.2,λn e=>by cases e⟩
 |sif _ _ _ _ i1 i2=>
   intro p
   have a:=i1 p
   have b:=i2 ⟨a.1,p.2.opn⟩
   exact⟨b.1,Uv b.2.1 a.2.1,b.2.2.1.tail,b.2.2.2⟩
 |sloop _ _ i1=>exact i1
 |sback _ _ _ i1=>
   intro p
   have a:=i1 p
   exact⟨a.1,a.2.1,p.2,λn e=>by cases e;exact a.2.2 _ rfl⟩
 |sdo _ _ _ i1=>
   intro p
   have a:=i1 p
   exact⟨a.1,a.2.1,p.2,λn e=>by cases e⟩
 |lpS _ _ i1=>
   intro p
   have a:=i1 p
   exact⟨a.1,a.2.1,p.2,λn e=>by cases e⟩
 |lp0 _ _ i1=>
   intro p
   have a:=i1 p
   exact⟨a.1,a.2.1,p.2,λn e=>by cases e⟩
 |lpEnd _ _ _ _ _ i1 i2=>
   intro p
   have a:=i1 p
   have b:=i2 ⟨a.1,p.2.opn⟩
   exact⟨b.1,Uv b.2.1 a.2.1,b.2.2.1.tail,b.2.2.2⟩
 |lpFuel _ _ _ _ _ i1 i2=>
   intro p
   have a:=i1 p
   have b:=i2 ⟨a.1,p.2.opn⟩
   exact⟨b.1,Uv b.2.1 a.2.1,b.2.2.1.tail,λn e=>by cases e⟩
 | @lpGo k v s x a s1 n m v' s2 F v'' s3 q _ _ _ _ hF _ i1 i2 i3=>
    intro p
    have a:=i1 p
    have b:=i2 ⟨a.1,p.2.opn⟩
    have c:=i3 ⟨b.1.at_ F,b.2.2.1.tail⟩
    have h1:s3.left<=F:=c.2.1
    have h2:s2.left<=s1.left:=b.2.1
    have h3:s1.left<=s.left:=a.2.1
    exact⟨c.1,by omega,c.2.2⟩
end
section
def er(m:Sc5):Scp:=m.map λx=>(x.1,0)
def ers(v:List Sc5):List Scp:=v.map er
theorem CB(s:List UInt8):∀m:Sc5,dM (er m) s=(bF m s).map λ_=>0
 |[]=>rfl
 |x::r=>by
  have ih:=CB s r
  simp only[dM,er] at ih
  by_cases h:x.1=s
  ·simp[dM,er,bF,h]
  ·simp only[dM,er,UA,List.find?_cons,h,decide_false,bF,if_neg h]
   exact ih
theorem DQ(s:List UInt8):∀v:List Sc5,jf (ers v) s=(gu v s).map λ_=>0
 |[]=>rfl
 |m::r=>by
  have ih:=DQ s r
  simp only[ers] at ih
  rw[ers,UA,jf,gu,CB]
  cases bF m s with
  |some n=>rfl
  |none=>exact ih
theorem PH{m:Sc5}{s:List UInt8}{n:Int}(h:bF m s=none):er (m++[(s,n)])=gf (er m) s 0:=by
 induction m with
 |nil=>rfl
 |cons x r ih=>
  rw[bF] at h
  by_cases e:x.1=s
  ·rw[if_pos e] at h;cases h
  ·rw[if_neg e] at h
   have ih:=ih h
   simp only[er] at ih
   simp only[er,UN,UA,gf,if_neg e]
   rw[ih]
theorem Kd{s:List UInt8}{n:Int}:∀m:Sc5,er (sset m s n)=er m
 |[]=>rfl
 |x::r=>by
  have ih:=Kd (s:=s) (n:=n) r
  simp only[er] at ih
  rw[sset]
  split
  ·rename_i e;simp[er,←e]
  ·simp[er,ih]
theorem Cz{s:List UInt8}{n:Int}:∀v:List Sc5,ers (gN v s n)=ers v
 |[]=>rfl
 |m::r=>by
  have ih:=Cz (s:=s) (n:=n) r
  rw[gN]
  split
  ·simp only[ers,UA,Kd]
  ·simp only[ers,UA] at ih⊢
   rw[ih]
theorem yJ{v:List Sc5}{m:Sc5}{up:List Sc5}(h:ers v=ers (m::up)):∃m' up',v=m'::up'/\er m'=er m/\ers up'=ers up:=by
 cases v with
 |nil=>simp[ers] at h
 |cons m' up'=>
  simp only[ers,UA,List.cons.injEq] at h
  exact⟨m',up',rfl,h.1,h.2⟩
def Kn(vs:List LV)(v:List Sc5):Prop:=∀t,(lkV vs t).isSome=(gu v t).isSome
theorem LA{b:Nat}{vs:List LV}{v:List Sc5}(h:SR g0 b vs (ers v)):Kn vs v:=λt=>by
 rw[h.is t,DQ,Option.isSome_map]
def NR(l:List Fd)(F:Nat):Prop:=∀(k:Nat) (vs:List LV) (d:Nat) (e:Ex) (v:List Sc5) (s:S5),oC l k vs e 0=0->cb d e=true->Kn vs v->G5 s->GE5 v->s.left<=F->∃s' r,Ev l (.ex k v s e s' r)
def Pg(l:List Fd)(F:Nat):Prop:=∀(j:Nat) (f:Fd) (us:List Int) (s:S5),l[j]?=some f->f.params.length=us.length->G5 s->(∀n∈us,V5 n)->s.left<=F->∃s' r,Ev l (.cal j us s s' r)
def HY(l:List Fd)(F:Nat):Prop:=∀(k:Nat) (xs:List Sm) (b:Nat) (w:WS) (m:Sc5) (up:List Sc5) (s:S5),(∀x∈xs,∃d,aB d x=true)->(bG l k b xs w).code=0->SR g0 b w.vs (ers (m::up))->G5 s->GE5 (m::up)->s.left<=F->
 ∃m' up' s' r,Ev l (.blk k (m::up) s xs (m'::up') s' r)/\ers up'=ers up
def Qd(l:List Fd)(F:Nat):Prop:=∀(k:Nat) (x:Sm) (b:Nat) (w:WS) (m:Sc5) (up:List Sc5) (s:S5),(∃d,aB d x=true)->(stW l k b x w).code=0->SR g0 b w.vs (ers (m::up))->G5 s->GE5 (m::up)->s.left<=F->
 ∃m' up' s' r,Ev l (.stm k (m::up) s x (m'::up') s' r)/\ers up'=ers up/\(r= .ok none->SR g0 b (stW l k b x w).vs (ers (m'::up')))
def NH(l:List Fd)(F:Nat):Prop:=∀(k:Nat) (x:Sm) (b:Nat) (w:WS) (v:List Sc5) (s:S5),(∃d,aB d x=true)->x.op=6->(stW l k b x w).code=0->SR g0 b w.vs (ers v)->G5 s->GE5 v->s.left<=F->
 ∃v' s' r,Ev l (.lp k v s x v' s' r)/\ers v'=ers v
section
variable {l:List Fd}
theorem Tg{F:Nat}(hS:∀F',F'<F->Qd l F')(hB:∀F',F'<F->HY l F'):HY l F:=by
 intro k xs b w m up s hf hz hR hg hv hl
 cases xs with
 |nil=>exact⟨m,up,s,_,.bnil,rfl⟩
 |cons x r=>
  rw[bG] at hz
  have hz1:=cI hz
  rcases Nat.eq_zero_or_pos s.left with h0|h0
  ·exact⟨m,up,s,_,.bfuel h0,rfl⟩
  obtain⟨F',hF⟩:∃F',s.left=F'+1:=⟨s.left-1,by omega⟩
  obtain⟨m1,up1,s1,r1,e1,u1,R1⟩:=hS F' (by omega) k x b w m up (s.at_ F') (hf x (by simp)) hz1 hR (hg.at_ F') hv (Uf _)
  have p1:=dE e1 ⟨hg.at_ F',hv⟩
  have q1:s1.left<=F':=p1.2.1
  by_cases hq:r1= .ok none
  ·subst hq
   obtain⟨m2,up2,s2,r2,e2,u2⟩:=hB F' (by omega) k r b (stW l k b x w) m1 up1 s1 (λy hy=>hf y (by simp[hy])) hz (R1 rfl) p1.1 p1.2.2.1 q1
   exact⟨m2,up2,s2,r2,.bgo hF e1 e2,u2.trans u1⟩
  ·exact⟨m1,up1,s1,r1,.bend hF e1 hq,u1⟩
theorem Mi:∀(ps:List (List UInt8)) (us:List Int),ps.length=us.length->er (ps.zip us)=ps.map λs=>(s,0)
 |[],[],_=>rfl
 |p::r,u::t,h=>by
  have:=Mi r t (by simpa using h)
  simp only[er] at this
  simp[er,this]
 |[],_::_,h=>by simp at h
 |_::_,[],h=>by simp at h
theorem Eg:∀(ps:List (List UInt8)) (m:Scp) (c:Int),(iZ ps m c).2=0->(iZ ps m c).1=m++ps.map λs=>(s,0)
 |[],m,c,_=>by simp[iZ]
 |s::r,m,c,h=>by
  have hh:(iZ r (gf m s 0) (if(dM m s).isSome then fl c 2 else c)).2=0:=h
  have ih:=Eg r _ _ hh
  have hc:(if(dM m s).isSome then fl c 2 else c)=0:=by
   apply Classical.byContradiction
   intro hne
   have:=tV hne r (gf m s 0)
   rw[this] at hh
   exact hne hh
  have hn:dM m s=none:=by
   cases e:dM m s with
   |none=>rfl
   |some n=>
    rw[e] at hc
    simp only[Option.isSome_some,if_true,fl] at hc
    split at hc<;>omega
  have hset:∀m:Scp,dM m s=none->gf m s 0=m++[(s,0)]:=by
   intro m
   induction m with
   |nil=>intro _;rfl
   |cons x t iht=>
    intro hm
    by_cases hx:x.1=s
    ·simp[dM,hx] at hm
    ·rw[gf,if_neg hx,iht (by simpa[dM,hx] using hm)];rfl
  show(iZ r (gf m s 0) (if(dM m s).isSome then fl c 2 else c)).1=_
  rw[ih,hset m hn]
  simp
theorem SV{F:Nat}(hc:aP l=0)(hB:HY l F):Pg l F:=by
 intro j f us s hj hlen hg hu hl
 obtain⟨hp,hall⟩:=(CD l).1 hc
 have hz:=hall j f hj
 rw[fnW] at hz
 have hpz:=cI hz
 obtain⟨p1,p2⟩:=Cr f.params ⟨[],0,if bL l f.name=some j then 0 else 2⟩ [] SR.base
 rw[hpz] at p2
 have hm:=Eg f.params [] _ p2.symm
 rw[hm,List.nil_append,←Mi f.params us hlen] at p1
 have hfo:=((yA l).1 hp).2.1 f (Uh hj)
 have hbody:∀x∈f.body,∃d,aB d x=true:=λx hx=>by
  simp only[ka,Ut,Ui] at hfo
  exact⟨4,hfo.2 x hx⟩
 obtain⟨m',up',s',r,e,hu2⟩:=hB j f.body 0 _ (f.params.zip us) [] s hbody hz p1 hg (λm hm x hx=>by
  rw[Up.1 hm] at hx
  exact hu _ (List.of_mem_zip hx).2) hl
 exact⟨s',_,.cal hj hlen e⟩
end
end
section
theorem inR5{n lo hi:Int}:inR n lo hi=true↔lo<=n/\n<=hi:=by simp[inR]
theorem Gy{α:Type}{l:List α}(h:l.length=1):∃a,l=[a]:=by
 match l,h with
 |[a],_=>exact⟨a,rfl⟩
theorem Me{α:Type}{l:List α}(h:l.length=2):∃a b,l=[a,b]:=by
 match l,h with
 |[a,b],_=>exact⟨a,b,rfl⟩
section
variable {l:List Fd}
theorem nv{k:Nat}{vs:List LV}:∀(es:List Ex),bz l k vs es 0=0->∀e∈es,oC l k vs e 0=0
 |[],_,e,he=>by cases he
 |x::r,h,e,he=>by
  rw[bz] at h
  have h0:=fR h
  rw[h0] at h
  rcases Uj.1 he with rfl|he
  ·exact h0
  ·exact nv r h e he
theorem ST{F:Nat}(hc:aP l=0)(hC:Pg l F):NR l F:=by
 intro k vs d
 induction d with
 |zero=>intro e v s _ h;cases h
 |succ d ih=>
  intro e v s hz hf hk hg hv hl
  obtain⟨o,n,nm,ks⟩:=e
  rw[cb,Ut,Ui] at hf
  obtain⟨hh,hks⟩:=hf
  simp only[mg,Ut] at hh
  obtain⟨⟨⟨⟨⟨ho,hkl⟩,_⟩,_⟩,hn⟩,_⟩:=hh
  have ho:1<=o/\o<=13:=inR5.1 ho
  have hkl:(loK o:Int)<=(ks.length:Int)/\(ks.length:Int)<=(hiK o:Int):=inR5.1 hkl
  have hn:V5 n:=inR5.1 hn
  have hks:∀x∈ks,cb d x=true:=hks
  rw[oC] at hz
  have h0:=fR hz
  rw[h0] at hz
  have hkz:=nv ks hz
  rcases Int.lt_or_le 13 o with h13|h13
  ·omega
  by_cases h1:o=1
  ·exact⟨s,_,.num h1 hn⟩
  by_cases h2:o=2
  ·rw[js,if_pos h2] at h0
   obtain⟨_,x,hx⟩:=Bg h0
   have hs:=hk nm
   rw[hx] at hs
   obtain⟨q,hq⟩:=Option.isSome_iff_exists.1 hs.symm
   exact⟨s,_,.var h2 hq⟩
  by_cases h13':o=13
  ·subst h13'
   rw[js,if_neg (by omega),if_pos rfl,lA] at h0
   have hfa:∃j f,bL l nm=some j/\l[j]?=some f/\f.params.length=ks.length/\j<k:=by
    cases hj:bL l nm with
    |none=>rw[hj] at h0;simp only[fl] at h0;simp at h0
    |some j=>
     rw[hj] at h0
     simp only[fl] at h0
     by_cases hkj:k<=j
     ·rw[if_pos hkj] at h0;simp at h0
     ·rw[if_neg hkj] at h0
      obtain⟨hjl,_,_⟩:=Us.1 hj
      have hg:=Ub hjl
      refine⟨j,l[j],rfl,hg,?_,by omega⟩
      rw[Az,hg] at h0
      simp only at h0
      by_cases hp:l[j].params.length=ks.length
      ·exact hp
      ·rw[if_neg hp] at h0;simp at h0
   obtain⟨j,f,hj,hjf,hpl,hjk⟩:=hfa
   have hargs:∀(es:List Ex) (s:S5),(∀e∈es,e∈ks)->G5 s->s.left<=F->∃s' r,Ev l (.exs k v s es s' r):=by
    intro es
    induction es with
    |nil=>intro s _ _ _;exact⟨s,_,.nil⟩
    |cons a r ihr=>
     intro s hm g hs
     obtain⟨s1,r1,e1⟩:=ih a v s (hkz a (hm a (by simp))) (hks a (hm a (by simp))) hk g hv hs
     have p1:=dE e1 ⟨g,hv⟩
     cases r1 with
     |st c=>exact⟨s1,_,.consS e1⟩
     |ok q=>
      obtain⟨s2,r2,e2⟩:=ihr s1 (λx hx=>hm x (by simp[hx])) p1.1 (Uv p1.2.1 hs)
      cases r2 with
      |st c=>exact⟨s2,_,.consT e1 e2⟩
      |ok ns=>exact⟨s2,_,.cons e1 e2⟩
   obtain⟨s1,r1,e1⟩:=hargs ks s (λ_ h=>h) hg hl
   have p1:=dE e1 ⟨hg,hv⟩
   cases r1 with
   |st c=>exact⟨s1,_,.callS rfl e1⟩
   |ok us=>
    obtain⟨q1,q2⟩:=p1.2.2 _ rfl
    obtain⟨s2,r2,e2⟩:=hC j f us s1 hjf (by rw[hpl,q1]) p1.1 q2 (Uv p1.2.1 hl)
    exact⟨s2,_,.call rfl e1 hj hjk e2⟩
  have hlo:3<=o:=by omega
  have hhi:o<=12:=by omega
  by_cases h11:o=11\/o=12
  ·have hl1:ks.length=1:=by
    have e1:loK o=1:=by unfold loK;rw[if_neg (by omega),if_pos h11]
    have e2:hiK o=1:=by unfold hiK;rw[if_neg (by omega),if_pos h11]
    rw[e1,e2] at hkl;omega
   obtain⟨a,rfl⟩:=Gy hl1
   obtain⟨s1,r1,e1⟩:=ih a v s (hkz a (by simp)) (hks a (by simp)) hk hg hv hl
   have p1:=dE e1 ⟨hg,hv⟩
   cases r1 with
   |st c=>exact⟨s1,_,.firstS hlo hhi rfl e1⟩
   |ok q=>
    obtain⟨q0,q1⟩:=p1.2.2 _ rfl
    rcases h11 with h11|h12
    ·exact⟨s1,_,.not h11 rfl e1⟩
    ·obtain⟨i,rfl⟩:∃i:Nat,q=i:=⟨q.toNat,by omega⟩
     by_cases hi:i<16
     ·have hg2:s1.cells[i]?=some (s1.cells[i]'(by rw[p1.1.len];exact hi)):=Ub _
      exact⟨s1,_,.at_ h12 rfl e1 hi hg2⟩
     ·exact⟨s1,_,.atS h12 rfl e1 (by omega)⟩
  ·have hl2:ks.length=2:=by
    have e1:loK o=2:=by unfold loK;rw[if_neg (by omega),if_neg h11,if_neg h13']
    have e2:hiK o=2:=by unfold hiK;rw[if_neg (by omega),if_neg h11,if_neg h13']
    rw[e1,e2] at hkl;omega
   obtain⟨a,b,rfl⟩:=Me hl2
   obtain⟨s1,r1,e1⟩:=ih a v s (hkz a (by simp)) (hks a (by simp)) hk hg hv hl
   have p1:=dE e1 ⟨hg,hv⟩
   cases r1 with
   |st c=>exact⟨s1,_,.firstS hlo hhi rfl e1⟩
   |ok q=>
    by_cases h10:o=10/\q=0
    ·obtain⟨h10,rfl⟩:=h10
     exact⟨s1,_,.and0 h10 rfl e1⟩
    obtain⟨s2,r2,e2⟩:=ih b v s1 (hkz b (by simp)) (hks b (by simp)) hk p1.1 hv (Uv p1.2.1 hl)
    by_cases ho10:o=10
    ·have hq:q≠0:=λe=>h10 ⟨ho10,e⟩
     cases r2 with
     |st c=>exact⟨s2,_,.andS ho10 rfl e1 hq e2⟩
     |ok m=>exact⟨s2,_,.and1 ho10 rfl e1 hq e2⟩
    ·have hle9:o<=9:=by omega
     cases r2 with
     |st c=>exact⟨s2,_,.binS hlo hle9 rfl e1 e2⟩
     |ok m=>
      cases ht:Cd o q m with
      |none=>exact⟨s2,_,.binD hlo hle9 rfl e1 e2 ht⟩
      |some t=>exact⟨s2,_,.bin hlo hle9 rfl e1 e2 ht⟩
end
end
section
structure Fine5 (l:List Fd) (k b:Nat) (x:Sm) (w:WS):Prop where
 code:w.code=0
 args:bz l k w.vs x.args 0=0
 op:(opW x.op x.name b ⟨w.vs,w.count,0⟩).code=0
 body:(bG l k (b+1) x.body (opW x.op x.name b ⟨w.vs,w.count,0⟩)).code=0
 els:∃w3:WS,w3.vs=(opW x.op x.name b ⟨w.vs,w.count,0⟩).vs/\(bG l k (b+1) x.els w3).code=0
 vs:(stW l k b x w).vs=(opW x.op x.name b ⟨w.vs,w.count,0⟩).vs
theorem Ow{l:List Fd}{k b:Nat}{x:Sm}{w:WS}(hz:(stW l k b x w).code=0):Fine5 l k b x w:=by
 obtain⟨o,nm,a,bd,el⟩:=x
 have hz0:=hz
 rw[stW,dt] at hz
 have z1:=cI hz
 rw[dt] at z1
 have z2:=cI z1
 have z3:bz l k w.vs a w.code=0:=yH z2
 have hc:=fR z3
 rw[z3] at z2 z1 hz
 have z3':=z3
 rw[hc] at z3'
 refine⟨hc,z3',z2,z1,⟨(bG l k (b+1) bd (opW o nm b ⟨w.vs,w.count,0⟩)).back (opW o nm b ⟨w.vs,w.count,0⟩).vs,rfl,hz⟩,?_⟩
 rw[Fl,z3];rfl
theorem oX{o:Int}{nm:List UInt8}{b:Nat}{w:WS}(h:o≠1):(opW o nm b w).vs=w.vs:=by
 unfold opW
 rw[if_neg h]
 split<;>rfl
theorem LB{d:Nat}{x:Sm}(h:aB d x=true):(1<=x.op/\x.op<=8)/\x.args.length=gZ x.op/\(∀a∈x.args,lQ a=true)/\(∀y∈x.body,∃d,aB d y=true)/\(∀y∈x.els,∃d,aB d y=true):=by
 cases d with
 |zero=>cases h
 |succ d=>
  rw[aB,Ut,Ut,Ui,Ui] at h
  obtain⟨⟨h1,h2⟩,h3⟩:=h
  simp only[jo,Ut,Ui] at h1
  obtain⟨⟨⟨⟨⟨⟨⟨p1,p2⟩,_⟩,_⟩,p5⟩,_⟩,_⟩,_⟩:=h1
  exact⟨inR5.1 p1,of_decide_eq_true p2,p5,λy hy=>⟨d,h2 y hy⟩,λy hy=>⟨d,h3 y hy⟩⟩
theorem uP{a:Ex}(h:lQ a=true):cb 6 a=true:=by rw[lQ,Ut] at h;exact h.1
section
variable {l:List Fd}
theorem TA{F:Nat}(hE:NR l F)(hB:HY l F)(hL:∀F',F'<F->NH l F'):NH l F:=by
 intro k x b w v s hf ho hz hR hg hv hl
 obtain⟨d,hd⟩:=hf
 obtain⟨_,hal,hae,hbo,_⟩:=LB hd
 have Fn:=Ow hz
 have hal1:x.args.length=1:=by rw[hal,gZ,if_neg (by omega)]
 obtain⟨a,ha⟩:=Gy hal1
 have haz:=nv x.args Fn.args a (by rw[ha];simp)
 obtain⟨s1,r1,e1⟩:=hE k w.vs 6 a v s haz (uP (hae a (by rw[ha];simp))) (LA hR) hg hv hl
 have p1:=dE e1 ⟨hg,hv⟩
 cases r1 with
 |st c=>exact⟨v,s1,_,.lpS ha e1,rfl⟩
 |ok n=>
  by_cases hn:n=0
  ·subst hn;exact⟨v,s1,_,.lp0 ha e1,rfl⟩
  have hsame:(opW x.op x.name b ⟨w.vs,w.count,0⟩).vs=w.vs:=oX (by omega)
  have hR2:SR g0 (b+1) (opW x.op x.name b ⟨w.vs,w.count,0⟩).vs (ers ([]::v)):=by
   rw[hsame];exact hR.open
  obtain⟨m2,v2,s2,r2,e2,u2⟩:=hB k x.body (b+1) _ [] v s1 hbo Fn.body hR2 p1.1 hv.opn (Uv p1.2.1 hl)
  have p2:=dE e2 ⟨p1.1,hv.opn⟩
  by_cases hq:r2= .ok none
  ·subst hq
   rcases Nat.eq_zero_or_pos s2.left with h0|h0
   ·exact⟨v2,s2,_,.lpFuel ha e1 hn e2 h0,u2⟩
   obtain⟨F',hF⟩:∃F',s2.left=F'+1:=⟨s2.left-1,by omega⟩
   have hlt:F'<F:=by have:=p2.2.1;have:=p1.2.1;omega
   obtain⟨v3,s3,r3,e3,u3⟩:=hL F' hlt k x b w v2 (s2.at_ F') ⟨d,hd⟩ ho hz (by rw[u2];exact hR) (p2.1.at_ F') p2.2.2.1.tail (Uf _)
   exact⟨v3,s3,_,.lpGo ha e1 hn e2 hF e3,u3.trans u2⟩
  ·exact⟨v2,s2,_,.lpEnd ha e1 hn e2 hq,u2⟩
theorem Ti{F:Nat}(hE:NR l F)(hB:HY l F)(hL:NH l F):Qd l F:=by
 intro k x b w m up s hf hz hR hg hv hl
 obtain⟨d,hd⟩:=hf
 obtain⟨⟨ho1,ho8⟩,hal,hae,hbo,heo⟩:=LB hd
 have Fn:=Ow hz
 by_cases h6:x.op=6
 ·obtain⟨v',s',r,e,u⟩:=hL k x b w (m::up) s ⟨d,hd⟩ h6 hz hR hg hv hl
  obtain⟨m',up',rfl,u1,u2⟩:=yJ u
  refine⟨m',up',s',r,.sloop h6 e,u2,λ_=>?_⟩
  rw[Fn.vs,oX (by omega),u]
  exact hR
 have hex:∀a∈x.args,∀s:S5,G5 s->s.left<=F->∃s' r,Ev l (.ex k (m::up) s a s' r):=λa ha s g hs=>
  hE k w.vs 6 a (m::up) s (nv x.args Fn.args a ha) (uP (hae a ha)) (LA hR) g hv hs
 by_cases h4:x.op=4
 ·have hal2:x.args.length=2:=by rw[hal,gZ,if_pos h4]
  obtain⟨a,c,ha⟩:=Me hal2
  have hR':SR g0 b (stW l k b x w).vs (ers (m::up)):=by rw[Fn.vs,oX (by omega)];exact hR
  obtain⟨s1,r1,e1⟩:=hex a (by rw[ha];simp) s hg hl
  have p1:=dE e1 ⟨hg,hv⟩
  cases r1 with
  |st q=>exact⟨m,up,s1,_,.argS h6 ha e1,rfl,λ_=>hR'⟩
  |ok n=>
   obtain⟨n0,n1⟩:=p1.2.2 _ rfl
   obtain⟨s2,r2,e2⟩:=hex c (by rw[ha];simp) s1 p1.1 (Uv p1.2.1 hl)
   cases r2 with
   |st q=>exact⟨m,up,s2,_,.sputS h4 ha e1 e2,rfl,λ_=>hR'⟩
   |ok q=>
    obtain⟨i,rfl⟩:∃i:Nat,n=i:=⟨n.toNat,by omega⟩
    by_cases hi:i<16
    ·exact⟨m,up,_,_,.sput h4 ha e1 e2 hi,rfl,λ_=>hR'⟩
    ·exact⟨m,up,s2,_,.sputC h4 ha e1 e2 (by omega),rfl,λ_=>hR'⟩
 have hal1:x.args.length=1:=by rw[hal,gZ,if_neg h4]
 obtain⟨a,ha⟩:=Gy hal1
 obtain⟨s1,r1,e1⟩:=hex a (by rw[ha];simp) s hg hl
 have p1:=dE e1 ⟨hg,hv⟩
 have hsame:x.op≠1->SR g0 b (stW l k b x w).vs (ers (m::up)):=λh=>by rw[Fn.vs,oX h];exact hR
 cases r1 with
 |st q=>exact⟨m,up,s1,_,.argS h6 ha e1,rfl,λh=>by cases h⟩
 |ok n=>
  by_cases h1:x.op=1
  ·have hput:(gt ⟨w.vs,w.count,0⟩ x.name b).code=0:=by
    have:=Fn.op
    rw[opW,if_pos h1] at this
    exact this
   have hput2:pF w.vs x.name b 0=0:=hput
   have hR1:SR g0 b w.vs (er m::ers up):=hR
   rw[hR1.put] at hput2
   have hno:bF m x.name=none:=by
    cases e:bF m x.name with
    |none=>rfl
    |some q=>
     rw[CB,e] at hput2
     simp[fl] at hput2
   refine⟨_,up,s1,_,.slet h1 ha e1 rfl hno,rfl,λ_=>?_⟩
   rw[Fn.vs,opW,if_pos h1]
   have:=hR1.add x.name w.count 0 rfl
   rw[←PH (n:=n) hno] at this
   exact this
  by_cases h2:x.op=2
  ·have huse:nN w.vs x.name 0=0:=by
    have:=Fn.op
    rw[opW,if_neg h1,if_pos h2] at this
    exact this
   obtain⟨_,q,hq⟩:=Bg huse
   have hs:(gu (m::up) x.name).isSome=true:=by rw[←LA hR x.name,hq];rfl
   have hev:=Ev.sset (l:=l) h2 ha e1 hs
   obtain⟨m',up',e,_,u2⟩:=yJ (Cz (s:=x.name) (n:=n) (m::up))
   have hu:ers (m'::up')=ers (m::up):=by rw[←e];exact Cz _
   rw[e] at hev
   exact⟨m',up',s1,_,hev,u2,λ_=>by rw[hu];exact hsame h1⟩
  by_cases h3:x.op=3
  ·exact⟨m,up,_,_,.ssay h3 ha e1,rfl,λ_=>hsame h1⟩
  by_cases h5:x.op=5
  ·have hsv:(opW x.op x.name b ⟨w.vs,w.count,0⟩).vs=w.vs:=oX h1
   obtain⟨w3,hw3,hez⟩:=Fn.els
   have hB':∃m2 v2 s2 r2,Ev l (.blk k ([]::m::up) s1 (if n≠0 then x.body else x.els) (m2::v2) s2 r2)/\ers v2=ers (m::up):=by
    by_cases hn:n≠0
    ·rw[if_pos hn]
     exact hB k x.body (b+1) _ [] (m::up) s1 hbo Fn.body (by rw[hsv];exact hR.open) p1.1 hv.opn (Uv p1.2.1 hl)
    ·rw[if_neg hn]
     exact hB k x.els (b+1) w3 [] (m::up) s1 heo hez (by rw[hw3,hsv];exact hR.open) p1.1 hv.opn (Uv p1.2.1 hl)
   obtain⟨m2,v2,s2,r2,e2,u2⟩:=hB'
   obtain⟨m',up',rfl,u3,u4⟩:=yJ u2
   exact⟨m',up',s2,r2,.sif h5 ha e1 e2,u4,λ_=>by rw[u2];exact hsame h1⟩
  by_cases h7:x.op=7
  ·exact⟨m,up,s1,_,.sback h7 ha e1,rfl,λh=>by cases h⟩
  ·exact⟨m,up,s1,_,.sdo (by omega) ha e1,rfl,λ_=>hsame h1⟩
theorem Nh(hc:aP l=0):∀F,Pg l F/\NR l F/\HY l F/\Qd l F/\NH l F:=by
 intro F
 induction F using Nat.strongRecOn with
 |_ F ih=>
  have hB:=Tg (l:=l) (F:=F) (λF' h=>(ih F' h).2.2.2.1) (λF' h=>(ih F' h).2.2.1)
  have hC:=SV hc hB
  have hE:=ST hc hC
  have hL:=TA hE hB (λF' h=>(ih F' h).2.2.2.2)
  exact⟨hC,hE,hB,Ti hE hB hL,hL⟩
end
def s0(fuel:Nat):S5:=⟨fuel,[],List.replicate 16 0⟩
theorem ta(fuel:Nat):G5 (s0 fuel):=⟨by simp[s0],λc hc=>by rw[(Vb.1 hc).2];exact⟨by omega,by omega⟩,λc hc=>by cases hc⟩
theorem Td{l:List Fd}(hc:aP l=0){f:Fd}(hf:l[l.length-1]?=some f){us:List Int}(hl:us.length=f.params.length)(hu:∀n∈us,V5 n)(fuel:Nat):
 ∃s' r,Ev l (.cal (l.length-1) us (s0 fuel) s' r)/\G5 s'/\s'.left<=fuel/\∀n,r= .ok n->V5 n:=by
 obtain⟨s',r,e⟩:=(Nh hc fuel).1 (l.length-1) f us (s0 fuel) hf hl.symm (ta fuel) hu (Uf _)
 have p:=dE e ⟨ta fuel,hu⟩
 exact⟨s',r,e,p.1,p.2.1,p.2.2⟩
end
section
def S5.dn(s:S5)(c:Nat):S5:=⟨s.left-c,s.said,s.cells⟩
end
section
def S5.pre(s:S5)(t:List Int):S5:=⟨s.left,t++s.said,s.cells⟩
end
section
def nmS(m:Sc5):List (List UInt8):=m.map (·.1)
def nmV(v:List Sc5):List (List (List UInt8)):=v.map nmS
theorem Hm(s:List UInt8)(n:Int):∀m:Sc5,nmS (sset m s n)=nmS m
 |[]=>rfl
 |x::r=>by
  rw[sset]
  split
  ·rename_i h
   show s::nmS r=x.1::nmS r
   rw[h]
  ·show x.1::nmS (sset r s n)=x.1::nmS r
   rw[Hm s n r]
theorem vW(s:List UInt8)(n:Int):∀v:List Sc5,nmV (gN v s n)=nmV v
 |[]=>rfl
 |m::r=>by
  rw[gN]
  split
  ·show nmS (sset m s n)::nmV r=_
   rw[Hm];rfl
  ·show nmS m::nmV (gN r s n)=_
   rw[vW s n r];rfl
def Grw(v v':List Sc5):Prop:=nmV v'=nmV v\/∃m up m' up' t,v=m::up/\v'=m'::up'/\nmV up'=nmV up/\nmS m'=nmS m++t
theorem Grw.refl(v:List Sc5):Grw v v:= .inl rfl
theorem EQ{m:Sc5}{up v:List Sc5}(h:nmV v=nmV (m::up)):∃m' up',v=m'::up'/\nmS m'=nmS m/\nmV up'=nmV up:=by
 match v with
 |[]=>cases h
 |m'::up'=>
  have h:nmS m'::nmV up'=nmS m::nmV up:=h
  exact⟨m',up',rfl,(List.cons.inj h).1,(List.cons.inj h).2⟩
theorem Grw.trans{a b c:List Sc5}(h:Grw a b)(g:Grw b c):Grw a c:=by
 rcases h with h|⟨m,up,m',up',t,rfl,rfl,h1,h2⟩
 ·rcases g with g|⟨m,up,m',up',t,rfl,rfl,h1,h2⟩
  ·exact .inl (g.trans h)
  ·obtain⟨m0,up0,rfl,e1,e2⟩:=EQ h.symm
   exact .inr ⟨m0,up0,m',up',t,rfl,rfl,h1.trans e2.symm,by rw[h2,e1]⟩
 ·rcases g with g|⟨q,uq,q',uq',t',e,rfl,g1,g2⟩
  ·obtain⟨m0,up0,rfl,e1,e2⟩:=EQ g
   exact .inr ⟨m,up,m0,up0,t,rfl,rfl,e2.trans h1,e1.trans h2⟩
  ·obtain⟨e1,e2⟩:=List.cons.inj e
   subst e1;subst e2
   exact .inr ⟨m,up,q',uq',t++t',rfl,rfl,g1.trans h1,by rw[g2,h2,UK]⟩
theorem Grw.tail{m m':Sc5}{v v':List Sc5}(h:Grw (m::v) (m'::v')):nmV v'=nmV v:=by
 rcases h with h|⟨q,up,q',up',t,e1,e2,h1,h2⟩
 ·have h:nmS m'::nmV v'=nmS m::nmV v:=h
  exact(List.cons.inj h).2
 ·rw[(List.cons.inj e1).2,(List.cons.inj e2).2];exact h1
def Sh5:J5->Prop
 | .stm _ v _ _ v' _ _=>Grw v v'
 | .blk _ v _ _ v' _ _=>Grw v v'
 | .lp _ v _ _ v' _ _=>nmV v'=nmV v
 |_=>True
theorem yC{l:List Fd}{j:J5}(h:Ev l j):Sh5 j:=by
 induction h with
 |bnil=>exact .inl rfl
 |bfuel _=>exact .inl rfl
 |bgo _ _ _ i1 i2=>exact i1.trans i2
 |bend _ _ _ i1=>exact i1
 |argS _ _ _ _=>exact .inl rfl
 | @slet k v s x a s1 n m up _ _ _ hv _ _=>
   subst hv
   exact .inr ⟨m,up,m++[(x.name,n)],up,[x.name],rfl,rfl,rfl,by simp[nmS]⟩
 |sset _ _ _ _ _=>exact .inl (vW _ _ _)
 |ssay _ _ _ _=>exact .inl rfl
 |sput _ _ _ _ _ _ _=>exact .inl rfl
 |sputC _ _ _ _ _ _ _=>exact .inl rfl
 |sputS _ _ _ _ _ _=>exact .inl rfl
 |sif _ _ _ _ _ i2=>exact .inl i2.tail
 |sloop _ _ i1=>exact .inl i1
 |sback _ _ _ _=>exact .inl rfl
 |sdo _ _ _ _=>exact .inl rfl
 |lpS _ _ _=>exact(rfl:nmV _=nmV _)
 |lp0 _ _ _=>exact(rfl:nmV _=nmV _)
 |lpEnd _ _ _ _ _ _ i2=>exact i2.tail
 |lpFuel _ _ _ _ _ _ i2=>exact i2.tail
 |lpGo _ _ _ _ _ _ _ i2 i3=>exact(show nmV _=nmV _ from i3).trans i2.tail
 |_=>trivial
def aw:List Sc5->Sc5
 |[]=>[]
 |m::r=>aw r++m
theorem gB:∀{v w:List Sc5},nmV v=nmV w->(aw v).length=(aw w).length
 |[],[],_=>rfl
 |[],_::_,h=>by cases h
 |_::_,[],h=>by cases h
 |m::r,m'::r',h=>by
  have h:nmS m::nmV r=nmS m'::nmV r':=h
  obtain⟨h1,h2⟩:=List.cons.inj h
  have:=gB h2
  have h1:=congrArg List.length h1
  simp only[nmS,Ux] at h1
  simp[aw,this,h1]
theorem BM{m:Sc5}{v w:List Sc5}(h:nmV v=nmV w):(aw (m::v)).take (aw w).length=aw v:=by
 rw[aw,←gB h,List.take_left']
 rfl
def cE:Sc5->List UInt8->Option Nat
 |[],_=>none
 |x::r,s=>match cE r s with|some i=>some (i+1)|none=>if x.1=s then some 0 else none
theorem nt(s:List UInt8):∀a b:Sc5,cE (a++b) s=match cE b s with|some i=>some (a.length+i)|none=>cE a s
 |[],b=>by cases h:cE b s<;>simp[cE,h]
 |x::r,b=>by
  rw[UN,cE,nt s r b]
  cases h:cE b s with
  |some i=>simp;omega
  |none=>rfl
def Un5(v:List Sc5):Prop:=∀m∈v,(nmS m).Pairwise (· ≠ ·)
theorem sget_none_iff:∀{m:Sc5} {s:List UInt8},bF m s=none↔s∉nmS m
 |[],s=>by simp[bF,nmS]
 |x::r,s=>by
  rw[bF]
  by_cases h:x.1=s
  ·simp[h,nmS]
  ·rw[if_neg h,sget_none_iff]
   simp[nmS,Ne.symm h]
theorem oh:∀{m:Sc5} {s:List UInt8},s∉nmS m->cE m s=none
 |[],s,_=>rfl
 |x::r,s,h=>by
  simp only[nmS,UA,Uj,not_or] at h
  rw[cE,oh (m:=r) h.2]
  simp only
  rw[if_neg (λe=>h.1 e.symm)]
theorem zg:∀{m:Sc5} {s:List UInt8} {n:Int},(nmS m).Pairwise (· ≠ ·)->bF m s=some n->∃i,cE m s=some i/\m[i]?=some (s,n)/\∀q,sset m s q=m.set i (s,q)
 |x::r,s,n,hp,h=>by
  obtain⟨h1,h2⟩:=List.pairwise_cons.1 (show(x.1::nmS r).Pairwise (· ≠ ·) from hp)
  rw[bF] at h
  by_cases hx:x.1=s
  ·rw[if_pos hx] at h
   have hn:s∉nmS r:=λhm=>h1 s hm hx
   refine⟨0,?_,?_,λq=>?_⟩
   ·rw[cE,oh hn];simp only;rw[if_pos hx]
   ·obtain⟨a,b⟩:=x
    have hx:a=s:=hx
    have h:some b=some n:=h
    cases h;subst hx;rfl
   ·rw[sset,if_pos hx];rfl
  ·rw[if_neg hx] at h
   obtain⟨i,g1,g2,g3⟩:=zg h2 h
   refine⟨i+1,?_,by simpa using g2,λq=>?_⟩
   ·rw[cE,g1]
   ·rw[sset,if_neg hx,g3 q];rfl
theorem zV:∀{v:List Sc5} {s:List UInt8} {n:Int},Un5 v->gu v s=some n->∃i,cE (aw v) s=some i/\(aw v)[i]?=some (s,n)/\∀q,aw (gN v s q)=(aw v).set i (s,q)
 |m::r,s,n,hu,h=>by
  rw[gu] at h
  cases hm:bF m s with
  |some k=>
   rw[hm] at h
   cases h
   obtain⟨i,g1,g2,g3⟩:=zg (hu m (by simp)) hm
   refine⟨(aw r).length+i,?_,?_,λq=>?_⟩
   ·rw[aw,nt,g1]
   ·rw[aw,Um (by omega)]
    rw[Nat.add_sub_cancel_left];exact g2
   ·rw[gN,hm]
    simp only[Option.isSome_some,if_true]
    rw[aw,aw,g3 q,List.set_append_right _ _ (by omega),Nat.add_sub_cancel_left]
  |none=>
   rw[hm] at h
   obtain⟨i,g1,g2,g3⟩:=zV (λq hq=>hu q (by simp[hq])) h
   have hi:i<(aw r).length:=by
    have:=Ua.1 g2
    exact this.1
   refine⟨i,?_,?_,λq=>?_⟩
   ·rw[aw,nt,oh (sget_none_iff.1 hm)];exact g1
   ·rw[aw,Ue hi];exact g2
   ·rw[gN,hm]
    simp only[Option.isSome_none,Bool.false_eq_true,if_false]
    rw[aw,aw,g3 q,List.set_append_left _ _ hi]
theorem KJ{m:Sc5}{up:List Sc5}(x:List UInt8 × Int):aw ((m++[x])::up)=aw (m::up)++[x]:=by simp[aw]
theorem BG(v:List Sc5):aw ([]::v)=aw v:=by simp[aw]
theorem Un5.of{v w:List Sc5}(h:Un5 v)(e:nmV w=nmV v):Un5 w:=by
 intro m hm
 have h1:nmS m∈nmV v:=by rw[←e];exact List.mem_map_of_mem hm
 obtain⟨q,hq,e2⟩:=Uw.1 h1
 rw[←e2];exact h q hq
theorem Un5.let{m:Sc5}{up:List Sc5}{s:List UInt8}{n:Int}(h:Un5 (m::up))(hs:bF m s=none):Un5 ((m++[(s,n)])::up):=by
 intro q hq
 rcases Uj.1 hq with rfl|hq
 ·have h1:=h m (by simp)
  have h2:=sget_none_iff.1 hs
  simp only[nmS,List.map_append,UA,List.map_nil]
  refine List.pairwise_append.2 ⟨h1,List.pairwise_singleton _ _,λa ha b hb=>?_⟩
  rw[Up.1 hb]
  exact λe=>h2 (e▸ha)
 ·exact h q (by simp[hq])
theorem Un5.opn{v:List Sc5}(h:Un5 v):Un5 ([]::v):=by
 intro q hq
 rcases Uj.1 hq with rfl|hq
 ·exact .nil
 ·exact h q hq
end
section
theorem fB{n:Nat}{h h1:List AO}(e:h.take n=h1)(hn:h1.length=n)(ho:∀o∈h1,okO n o):Fst n h h1:=by
 have hl:n<=h.length:=by
  have:=congrArg List.length e
  rw[UD] at this;omega
 have hg:∀(i:Nat) (o:AO),h1[i]?=some o->h[i]?=some o:=λi o hi=>by
  have h2:=(Ua.1 hi).1
  rw[←e,List.getElem?_take_of_lt (by omega)] at hi
  exact hi
 exact⟨hn,hl,λi sz es hi=>⟨hg _ _ hi,ho _ (Uh hi)⟩,λi es hi=>⟨hg _ _ hi,ho _ (Uh hi)⟩,λi s p hi=>hg _ _ hi⟩
theorem BF:∀(r:List AO) (s:Nat),((jx (List.range' s r.length++[0]) (r++[.dead])).Nodup/\∀i∈jx (List.range' s r.length++[0]) (r++[.dead]),s<=i)
 |[],s=>by simp[jx]
 |o::r,s=>by
  obtain⟨h1,h2⟩:=BF r (s+1)
  rw[Ur,List.range'_succ]
  cases o with
  |dead=>exact⟨h1,λi hi=>Nat.le_of_succ_le (h2 i hi)⟩
  |_=>exact⟨UX.2 ⟨λhm=>absurd (h2 _ hm) (by omega),h1⟩,λi hi=>by
   rcases Uj.1 hi with rfl|hi
   ·exact Uf _
   ·exact Nat.le_of_succ_le (h2 i hi)⟩
theorem Di{h:List AO}(hp:0<h.length)(ho:∀o∈h,okO h.length o):∀(r:List AO) (s:Nat),(∀i:Nat,r[i]?=h[s+i]?)->s+r.length=h.length->HW (List.range' 0 h.length++[0]) h (List.range' s r.length++[0]) (r++[.dead])
 |[],s,_,_=>iP hp dA
 |o::r,s,hr,hs=>by
  have hσ:∀i,i<h.length->(List.range' 0 h.length++[0]).getD i 0=i:=λi hi=>by
   rw[Ul,Ue (by simp;exact hi)];simp[hi]
  rw[Ur,List.range'_succ]
  have h0:=hr 0
  have ih:=Di hp ho r (s+1) (λi=>by have:=hr (i+1);rw[UP] at this;rw[this];congr 1;omega) (by simp at hs;omega)
  have hm:h[s]?=some o:=by simpa using h0.symm
  have hok:=ho o (Uh hm)
  cases o with
  |dead=>exact iP (Ua.1 hm).1 ih
  |row sz es=>
   refine vY (λx hx=>bD (by simp) _ (hok x hx)) ?_ ih
   rw[hm,UE (g:=id) λx hx=>mI hσ x (hok x hx)];simp
  |mp es=>exact⟨(Ua.1 hm).1,⟨λx hx=>by exact(bD (by simp) [x.2] ⟨hok x hx,trivial⟩).1,by rw[hm,UE (g:=id) λx hx=>by rw[mZ hσ x.2 (hok x hx)];rfl];simp⟩,ih⟩
  |sit s p=>exact⟨(Ua.1 hm).1,hm,ih⟩
theorem Dn{m:Nat}{l:List (Nat × AV)}:∀r:List (Nat × AV),FgA m l r->TWA (List.range' 0 m++[0]) l r
 |[],_=>trivial
 |x::r,⟨⟨a,c⟩,d⟩=>by
  have hσ:∀i,i<m->(List.range' 0 m++[0]).getD i 0=i:=λi hi=>by
   rw[Ul,Ue (by simp;exact hi)];simp[hi]
  exact⟨⟨(bD (by simp) [x.2] ⟨a,trivial⟩).1,by rw[mZ hσ _ a,c]⟩,Dn r d⟩
theorem EP{k n:Nat}{l l1:List (Nat × AV)}{h:List AO}(hk:k<=h.length)(hp:0<h.length)(ho:∀o∈h,okO h.length o)(H:FgA h.length l l1):Wk k (ag n l) h (ag n l1) (h++[.dead]):=by
 have hσ:∀i,i<h.length->(List.range' 0 h.length++[0]).getD i 0=i:=λi hi=>by
  rw[Ul,Ue (by simp;exact hi)];simp[hi]
 refine Hb (List.range' 0 h.length++[0]) (by simp;omega) (λi hi=>hσ i (by omega)) ?_ ?_ (Dn _ H)
 ·exact(BF h 0).1
 ·exact Di hp ho h 0 (λi=>by simp) (by simp)
theorem iz{n:Nat}{o:AO}(h:okO 0 o):okO n o:=by
 cases o with
 |dead=>trivial
 |sit=>trivial
 |row sz es=>exact λe he=>bD (Vf _) _ (h e he)
 |mp es=>exact λe he=>(bD (Vf n) [e.2] ⟨h e he,trivial⟩).1
def exR(l:List Ex):List (List AV):=l.map λe=>e.cs.map .p
theorem tj(l:List Ex):∀x∈exR l,aj 0 x:=by
 intro x hx;obtain⟨m,_,rfl⟩:=Uw.1 hx;simp
def smR(l:List Sm):List (List AV):=l.map λs=>s.cs.map .p
theorem kz(l:List Sm):∀x∈smR l,aj 0 x:=by
 intro x hx;obtain⟨m,_,rfl⟩:=Uw.1 hx;simp
theorem MC(l:List Sm):(smR l).length=l.length:=by simp[smR]
theorem MV(a b:List Sm):smR (a++b)=smR a++smR b:=by simp[smR]
theorem KH{h:List AO}{id:Nat}{l:List Sm}(e:h[id]?=some (.row 5 (smR l))):View h (.sl id 5 0 l.length) (smL l):=by
 have:=iV (h:=h) (id:=id) (sz:=5) (n:=l.length) (ls:=l.map Sm.cs) (by rw[e,smR];simp) (by simp) (λx hx=>by obtain⟨b,_,rfl⟩:=Uw.1 hx;exact b.cs_len)
 exact this
theorem jC{n:Nat}:∀o∈([]:List AO),okO n o:=λo h=>by cases h
theorem an{n:Nat}{a:AO}{l:List AO}(h:okO n a)(r:∀o∈l,okO n o):∀o∈a::l,okO n o:=λo ho=>by
 rcases Uj.1 ho with rfl|ho
 ·exact h
 ·exact r o ho
end
section
abbrev BL:Nat:=9223372036854775807
mutual
def Ex.fit:Ex->Prop
 | .mk _ _ s k=>s.length<=BL/\k.length<=BL/\mO k
def mO:List Ex->Prop
 |[]=>True
 |e::r=>e.fit/\mO r
end
mutual
def Sm.fit:Sm->Prop
 | .mk _ s a b e=>s.length<=BL/\(a.length<=BL/\mO a)/\(b.length<=BL/\kg b)/\(e.length<=BL/\kg e)
def kg:List Sm->Prop
 |[]=>True
 |s::r=>s.fit/\kg r
end
def Fd.fit(f:Fd):Prop:=f.name.length<=BL/\(f.params.length<=BL/\∀x∈f.params,x.length<=BL)/\(f.body.length<=BL/\kg f.body)
theorem si:∀{l:List Ex} {e:Ex},mO l->e∈l->e.fit
 |x::r,e,h,hm=>by
  rcases Uj.1 hm with rfl|hm
  ·exact h.1
  ·exact si h.2 hm
theorem rO:∀{l:List Sm} {e:Sm},kg l->e∈l->e.fit
 |x::r,e,h,hm=>by
  rcases Uj.1 hm with rfl|hm
  ·exact h.1
  ·exact rO h.2 hm
theorem Ex.fit_eq(e:Ex):e.fit=(e.name.length<=BL/\e.kids.length<=BL/\mO e.kids):=by cases e;rfl
theorem Sm.fit_eq(s:Sm):s.fit=(s.name.length<=BL/\(s.args.length<=BL/\mO s.args)/\(s.body.length<=BL/\kg s.body)/\(s.els.length<=BL/\kg s.els)):=by cases s;rfl
theorem Fd.cs_eq'(f:Fd):f.cs=[.str f.name,aD f.params,smL f.body]:=rfl
def dw(ss:List Nat)(i:Nat):Nat:=ss.length+((ss.take i).map (· -1)).sum
theorem tW(ss:List Nat):dw ss 0=ss.length:=by simp[dw]
theorem uj{ss:List Nat}{i v:Nat}(h:ss[i]?=some v):dw ss (i+1)=dw ss i+(v-1):=by
 rw[dw,dw,List.take_add_one,h,List.map_append,List.sum_append];simp;omega
theorem CV:∀{ss:List Nat},(∀v∈ss,1<=v)->ss.length+(ss.map (· -1)).sum=ss.sum
 |[],_=>rfl
 |v::r,h=>by
  have:=CV (ss:=r) λx hx=>h x (by simp[hx])
  have h1:=h v (by simp)
  simp only[Ur,UA,List.sum_cons];omega
theorem yS{ss:List Nat}(h:∀v∈ss,1<=v){i:Nat}(hi:ss.length<=i):dw ss i=ss.sum:=by
 rw[dw,Uq hi,CV h]
theorem CR{ss:List Nat}(h:∀v∈ss,1<=v)(i:Nat):dw ss i<=ss.sum:=by
 rw[←CV h,dw]
 have:(ss.map (· -1)).sum=((ss.take i).map (· -1)).sum+((ss.drop i).map (· -1)).sum:=by
  conv=>lhs;rw[←UO i ss,List.map_append,List.sum_append]
 omega
theorem Ew:∀l:List Ex,dm l=(l.map Ex.sz).sum
 |[]=>rfl
 |e::r=>by simp only[dm,UA,List.sum_cons,Ew r]
theorem DZ:∀l:List Sm,aK l=(l.map Sm.sz).sum
 |[]=>rfl
 |e::r=>by simp only[aK,UA,List.sum_cons,DZ r]
theorem Lw(l:List Fd):be l=(l.map Fd.sz).sum:=rfl
theorem Ex.sz_pos(e:Ex):1<=e.sz:=by rw[e.sz_eq];omega
theorem Sm.sz_pos(e:Sm):1<=e.sz:=by rw[e.sz_eq];omega
theorem Fd.sz_pos(f:Fd):1<=f.sz:=by unfold Fd.sz;omega
def bH(left z:Nat):Int:=if z<=left then((left-z:Nat):Int) else-1
variable (G:aq)
theorem Bt(l:List Ex)(left:Nat)(hl:left<=1048576)(hb:l.length<=BL)(H:∀e∈l,∀left:Nat,left<=1048576->VF Tryz.prog G iK [.agg (e.cs.map .p),.p (.int .i64 left)] (.p (.int .i64 (bH left (e.sz-1))))):
 VF Tryz.prog G ee [.p (exL l),.p (.int .i64 left)] (.p (.int .i64 (bH left (dm l)))):=by
 refine AC.go zf ?_
 have hpos:∀v∈l.map Ex.sz,1<=v:=λv hv=>by obtain⟨e,_,rfl⟩:=Uw.1 hv;exact e.sz_pos
 have hz:=Ew l
 have hal:=λi (hi:l.length<=i)=>yS hpos (i:=i) (by rw[Ux];exact hi)
 have hle:=CR hpos
 have h00:dw (l.map Ex.sz) 0=l.length:=by rw[tW,Ux]
 rw[←hz] at hal hle
 have hsl:∀l,exL l= .lst 4 (l.map Ex.cs):=λ_=>rfl
 have hw:IntKind.i64.wrap ((left:Int)-l.length)=(left:Int)-l.length:=af (by simp only[BL] at hb;omega) (by omega)
 by_cases h:l.length<=left
 case neg=>
  have h1:(left:Int)-l.length<0:=by omega
  have:=hle 0
  have h2:bH left (dm l)= -1:=if_neg (by omega)
  simp-implicitDefEqProofs[kI,hsl,hw,h1,h2]
 have h1:¬(left:Int)-l.length<0:=by omega
 simp-implicitDefEqProofs[kI,hsl,hw,h1]
 refine az (λi:Nat=>ag 27 [(0,.p (exL l)),(1,.p (.int .i64 ((left-dw (l.map Ex.sz) i:Nat):Int))),(5,.p (.int .i64 i))]) (λ_=>[]) (λi=>i<=l.length/\dw (l.map Ex.sz) i<=left) (λi=>l.length-i) 0 ⟨by omega,by rw[h00];exact h⟩ ?_ ?_
 ·refine aG rfl ?_
  simp only[h00]
  simp[below,hsl]
  omega
 ·intro i ⟨hi,hx⟩
  simp-implicitDefEqProofs[hsl]
  refine bj (λh1=>?_) (λh1=>?_)
  ·simp at h1
   have hg:=Ub h1
   have hsu:=uj (ss:=l.map Ex.sz) (i:=i) (v:=l[i].sz) (by rw[Uk,hg];rfl)
   have hH:=H l[i] (Uo h1) (left-dw (l.map Ex.sz) i) (by omega)
   have hcs:l[i].cs.length=4:=by simp
   have hle1:=hle (i+1)
   generalize l[i]=e at hg hsu hH hcs
   simp-implicitDefEqProofs[hg,hcs]
   refine hH.use ?_
   by_cases h2:e.sz-1<=left-dw (l.map Ex.sz) i
   ·have e2:bH (left-dw (l.map Ex.sz) i) (e.sz-1)=((left-dw (l.map Ex.sz) (i+1):Nat):Int):=by rw[bH,if_pos h2];omega
    have h3:¬((left-dw (l.map Ex.sz) (i+1):Nat):Int)<0:=by omega
    rw[e2]
    simp-implicitDefEqProofs[h3]
    refine⟨i+1,⟨h1,by omega⟩,by omega,aG rfl (by simp[below,hsl,w1 (i:=i) (by simp only[BL] at hb;omega)])⟩
   ·have e2:bH (left-dw (l.map Ex.sz) i) (e.sz-1)= -1:=if_neg h2
    have e3:bH left (dm l)= -1:=if_neg (by omega)
    rw[e2,e3]
    simp-implicitDefEqProofs[]
  ·simp at h1
   have hta:=hal i h1
   have h5:bH left (dm l)=((left-dw (l.map Ex.sz) i:Nat):Int):=by rw[hta,bH,if_pos (by omega)]
   simp-implicitDefEqProofs[h5]
theorem BI(l:List Ex)(hb:l.length<=1048576)(H:∀e∈l,VF Tryz.prog G dQ [.agg (e.cs.map .p)] (.agg (e.cs.map .p))):VF Tryz.prog G bP [.p (exL l)] (.p (exL l)):=by
 have hsl:∀l,exL l= .lst 4 (l.map Ex.cs):=λ_=>rfl
 have key:AC Tryz.prog G bP [.p (exL l)] [] λx h=>x= .ret (.sl 0 4 0 l.length)/\h=[.row 4 (l.map λe=>e.cs.map .p)]:=by
  refine AC.go ou ?_
  have hn:(l.map λe=>e.cs.map AV.p).length=l.length:=by simp
  simp-implicitDefEqProofs[jP,hsl]
  refine⟨by omega,?_⟩
  refine az (λi:Nat=>ag 23 [(0,.p (exL l)),(3,.sl 0 4 0 l.length),(4,.p (.int .i64 i))]) (λi=>[.row 4 ((l.map λe=>e.cs.map AV.p).take i++List.replicate (l.length-i) [.p (.int .i64 0),.p (.int .i64 0),.p (.str []),.nils])]) (λi=>i<=l.length) (λi=>l.length-i) 0 (by simp) ?_ ?_
  ·refine eB [0] rfl (by simp) (bN (by simp) (by simp[below]) dA) ?_
   simp[below,ren,hsl]
  ·intro i hi
   simp-implicitDefEqProofs[hsl]
   refine bj (λh1=>?_) (λh1=>?_)
   ·simp at h1
    have hg:=Ub h1
    have hg2:=zI (z:=([.p (.int .i64 0),.p (.int .i64 0),.p (.str []),.nils]:List AV)) hn h1
    have hset:=tE (z:=([.p (.int .i64 0),.p (.int .i64 0),.p (.str []),.nils]:List AV)) (v:=l[i].cs.map AV.p) hn h1 (by rw[Uk,hg];rfl)
    have hH:=H l[i] (Uo h1)
    have hcs:=l[i].cs_eq
    have htl:(List.take i (l.map λ(e:Ex)=>e.cs.map AV.p)++List.replicate (l.length-i) ([.p (.int .i64 0),.p (.int .i64 0),.p (.str []),.nils]:List AV)).length=l.length:=by simp;omega
    generalize l[i]=e at hg hset hH hcs
    generalize hRow:(List.take i (l.map λ(e:Ex)=>e.cs.map AV.p)++List.replicate (l.length-i) ([.p (.int .i64 0),.p (.int .i64 0),.p (.str []),.nils]:List AV))=Rw at hg2 hset htl⊢
    rw[hcs] at hH hset
    simp-implicitDefEqProofs[hg,hcs]
    refine hH.use ?_
    simp-implicitDefEqProofs[hg2,h1,eq]
    simp only[UA,List.map_nil] at hset
    rw[hset]
    refine⟨i+1,h1,by omega,eB [0] rfl (by simp) (bN rfl ?_ dA) ?_⟩
    ·intro x hx
     rcases Un.1 hx with hx|hx
     ·obtain⟨y,_,rfl⟩:=Uw.1 (US hx);simp
     ·rw[(Vb.1 hx).2];simp[below]
    ·simp[below,ren,hsl,w1 (i:=i) (by omega)]
   ·simp at h1
    have hie:i=l.length:=by omega
    subst hie
    rw[Nat.sub_self,List.replicate_zero,UG,Uq (by rw[hn];exact Uf _)]
    simp-implicitDefEqProofs[]
 refine AC.freeze key (.one ?_ .nil)
 have:=iV (h:=[.row 4 (l.map λe=>e.cs.map .p)]) (id:=0) (sz:=4) (n:=l.length) (ls:=l.map Ex.cs) (by simp) (by simp) (λx hx=>by obtain⟨b,_,rfl⟩:=Uw.1 hx;simp)
 exact this
theorem BR(l:List Ex)(hb:l.length<=1048576)(H:∀e∈l,VF Tryz.prog G iL [.agg (e.cs.map .p),.agg (e.cs.map .p)] (.p (.bool true))):VF Tryz.prog G ey [.p (exL l),.p (exL l)] (.p (.bool true)):=by
 refine AC.go zY ?_
 have hsl:∀l,exL l= .lst 4 (l.map Ex.cs):=λ_=>rfl
 simp-implicitDefEqProofs[oy,hsl]
 refine az (λi:Nat=>ag 27 [(0,.p (exL l)),(1,.p (exL l)),(5,.p (.int .i64 i))]) (λ_=>[]) (λi=>i<=l.length) (λi=>l.length-i) 0 (by simp) ?_ ?_
 ·exact aG rfl (by simp[below,hsl])
 intro i hi
 simp-implicitDefEqProofs[hsl]
 refine bj (λh1=>?_) (λh1=>?_)
 ·simp at h1
  have hg:=Ub h1
  have hH:=H l[i] (Uo h1)
  have hcs:l[i].cs.length=4:=by simp
  generalize l[i]=e at hg hH hcs
  simp-implicitDefEqProofs[hg,hcs]
  refine hH.use ?_
  simp-implicitDefEqProofs[]
  exact⟨i+1,h1,by omega,aG rfl (by simp[below,hsl,w1 (i:=i) (by omega)])⟩
 ·simp at h1
  simp-implicitDefEqProofs[]
theorem BN(l:List Sm)(left:Nat)(hl:left<=1048576)(hb:l.length<=BL)(H:∀e∈l,∀left:Nat,left<=1048576->VF Tryz.prog G iB [.agg (e.cs.map .p),.p (.int .i64 left)] (.p (.int .i64 (bH left (e.sz-1))))):
 VF Tryz.prog G cu [.p (smL l),.p (.int .i64 left)] (.p (.int .i64 (bH left (aK l)))):=by
 refine AC.go yP ?_
 have hpos:∀v∈l.map Sm.sz,1<=v:=λv hv=>by obtain⟨e,_,rfl⟩:=Uw.1 hv;exact e.sz_pos
 have hz:=DZ l
 have hal:=λi (hi:l.length<=i)=>yS hpos (i:=i) (by rw[Ux];exact hi)
 have hle:=CR hpos
 have h00:dw (l.map Sm.sz) 0=l.length:=by rw[tW,Ux]
 rw[←hz] at hal hle
 have hsl:∀l,smL l= .lst 5 (l.map Sm.cs):=λ_=>rfl
 have hw:IntKind.i64.wrap ((left:Int)-l.length)=(left:Int)-l.length:=af (by simp only[BL] at hb;omega) (by omega)
 by_cases h:l.length<=left
 case neg=>
  have h1:(left:Int)-l.length<0:=by omega
  have:=hle 0
  have h2:bH left (aK l)= -1:=if_neg (by omega)
  simp-implicitDefEqProofs[kG,hsl,hw,h1,h2]
 have h1:¬(left:Int)-l.length<0:=by omega
 simp-implicitDefEqProofs[kG,hsl,hw,h1]
 refine az (λi:Nat=>ag 27 [(0,.p (smL l)),(1,.p (.int .i64 ((left-dw (l.map Sm.sz) i:Nat):Int))),(5,.p (.int .i64 i))]) (λ_=>[]) (λi=>i<=l.length/\dw (l.map Sm.sz) i<=left) (λi=>l.length-i) 0 ⟨by omega,by rw[h00];exact h⟩ ?_ ?_
 ·refine aG rfl ?_
  simp only[h00]
  simp[below,hsl]
  omega
 ·intro i ⟨hi,hx⟩
  simp-implicitDefEqProofs[hsl]
  refine bj (λh1=>?_) (λh1=>?_)
  ·simp at h1
   have hg:=Ub h1
   have hsu:=uj (ss:=l.map Sm.sz) (i:=i) (v:=l[i].sz) (by rw[Uk,hg];rfl)
   have hH:=H l[i] (Uo h1) (left-dw (l.map Sm.sz) i) (by omega)
   have hcs:l[i].cs.length=5:=by simp
   have hle1:=hle (i+1)
   generalize l[i]=e at hg hsu hH hcs
   simp-implicitDefEqProofs[hg,hcs]
   refine hH.use ?_
   by_cases h2:e.sz-1<=left-dw (l.map Sm.sz) i
   ·have e2:bH (left-dw (l.map Sm.sz) i) (e.sz-1)=((left-dw (l.map Sm.sz) (i+1):Nat):Int):=by rw[bH,if_pos h2];omega
    have h3:¬((left-dw (l.map Sm.sz) (i+1):Nat):Int)<0:=by omega
    rw[e2]
    simp-implicitDefEqProofs[h3]
    refine⟨i+1,⟨h1,by omega⟩,by omega,aG rfl (by simp[below,hsl,w1 (i:=i) (by simp only[BL] at hb;omega)])⟩
   ·have e2:bH (left-dw (l.map Sm.sz) i) (e.sz-1)= -1:=if_neg h2
    have e3:bH left (aK l)= -1:=if_neg (by omega)
    rw[e2,e3]
    simp-implicitDefEqProofs[]
  ·simp at h1
   have hta:=hal i h1
   have h5:bH left (aK l)=((left-dw (l.map Sm.sz) i:Nat):Int):=by rw[hta,bH,if_pos (by omega)]
   simp-implicitDefEqProofs[h5]
theorem ut(l:List Sm)(hb:l.length<=1048576)(H:∀e∈l,VF Tryz.prog G dS [.agg (e.cs.map .p)] (.agg (e.cs.map .p))):VF Tryz.prog G bw [.p (smL l)] (.p (smL l)):=by
 have hsl:∀l,smL l= .lst 5 (l.map Sm.cs):=λ_=>rfl
 have key:AC Tryz.prog G bw [.p (smL l)] [] λx h=>x= .ret (.sl 0 5 0 l.length)/\h=[.row 5 (l.map λe=>e.cs.map .p)]:=by
  refine AC.go oS ?_
  have hn:(l.map λe=>e.cs.map AV.p).length=l.length:=by simp
  simp-implicitDefEqProofs[kJ,hsl]
  refine⟨by omega,?_⟩
  refine az (λi:Nat=>ag 23 [(0,.p (smL l)),(3,.sl 0 5 0 l.length),(4,.p (.int .i64 i))]) (λi=>[.row 5 ((l.map λe=>e.cs.map AV.p).take i++List.replicate (l.length-i) [.p (.int .i64 0),.p (.str []),.nils,.nils,.nils])]) (λi=>i<=l.length) (λi=>l.length-i) 0 (by simp) ?_ ?_
  ·refine eB [0] rfl (by simp) (bN (by simp) (by simp[below]) dA) ?_
   simp[below,ren,hsl]
  ·intro i hi
   simp-implicitDefEqProofs[hsl]
   refine bj (λh1=>?_) (λh1=>?_)
   ·simp at h1
    have hg:=Ub h1
    have hg2:=zI (z:=([.p (.int .i64 0),.p (.str []),.nils,.nils,.nils]:List AV)) hn h1
    have hset:=tE (z:=([.p (.int .i64 0),.p (.str []),.nils,.nils,.nils]:List AV)) (v:=l[i].cs.map AV.p) hn h1 (by rw[Uk,hg];rfl)
    have hH:=H l[i] (Uo h1)
    have hcs:=l[i].cs_eq
    have htl:(List.take i (l.map λ(e:Sm)=>e.cs.map AV.p)++List.replicate (l.length-i) ([.p (.int .i64 0),.p (.str []),.nils,.nils,.nils]:List AV)).length=l.length:=by simp;omega
    generalize l[i]=e at hg hset hH hcs
    generalize hRow:(List.take i (l.map λ(e:Sm)=>e.cs.map AV.p)++List.replicate (l.length-i) ([.p (.int .i64 0),.p (.str []),.nils,.nils,.nils]:List AV))=Rw at hg2 hset htl⊢
    rw[hcs] at hH hset
    simp-implicitDefEqProofs[hg,hcs]
    refine hH.use ?_
    simp-implicitDefEqProofs[hg2,h1,eq]
    simp only[UA,List.map_nil] at hset
    rw[hset]
    refine⟨i+1,h1,by omega,eB [0] rfl (by simp) (bN rfl ?_ dA) ?_⟩
    ·intro x hx
     rcases Un.1 hx with hx|hx
     ·obtain⟨y,_,rfl⟩:=Uw.1 (US hx);simp
     ·rw[(Vb.1 hx).2];simp[below]
    ·simp[below,ren,hsl,w1 (i:=i) (by omega)]
   ·simp at h1
    have hie:i=l.length:=by omega
    subst hie
    rw[Nat.sub_self,List.replicate_zero,UG,Uq (by rw[hn];exact Uf _)]
    simp-implicitDefEqProofs[]
 refine AC.freeze key (.one ?_ .nil)
 have:=iV (h:=[.row 5 (l.map λe=>e.cs.map .p)]) (id:=0) (sz:=5) (n:=l.length) (ls:=l.map Sm.cs) (by simp) (by simp) (λx hx=>by obtain⟨b,_,rfl⟩:=Uw.1 hx;simp)
 exact this
theorem uF(l:List Sm)(hb:l.length<=1048576)(H:∀e∈l,VF Tryz.prog G iG [.agg (e.cs.map .p),.agg (e.cs.map .p)] (.p (.bool true))):VF Tryz.prog G dv [.p (smL l),.p (smL l)] (.p (.bool true)):=by
 refine AC.go yx ?_
 have hsl:∀l,smL l= .lst 5 (l.map Sm.cs):=λ_=>rfl
 simp-implicitDefEqProofs[nU,hsl]
 refine az (λi:Nat=>ag 27 [(0,.p (smL l)),(1,.p (smL l)),(5,.p (.int .i64 i))]) (λ_=>[]) (λi=>i<=l.length) (λi=>l.length-i) 0 (by simp) ?_ ?_
 ·exact aG rfl (by simp[below,hsl])
 intro i hi
 simp-implicitDefEqProofs[hsl]
 refine bj (λh1=>?_) (λh1=>?_)
 ·simp at h1
  have hg:=Ub h1
  have hH:=H l[i] (Uo h1)
  have hcs:l[i].cs.length=5:=by simp
  generalize l[i]=e at hg hH hcs
  simp-implicitDefEqProofs[hg,hcs]
  refine hH.use ?_
  simp-implicitDefEqProofs[]
  exact⟨i+1,h1,by omega,aG rfl (by simp[below,hsl,w1 (i:=i) (by omega)])⟩
 ·simp at h1
  simp-implicitDefEqProofs[]
theorem NT(l:List Fd)(left:Nat)(hl:left<=1048576)(hb:l.length<=BL)(H:∀e∈l,∀left:Nat,left<=1048576->VF Tryz.prog G lg [.agg (e.cs.map .p),.p (.int .i64 left)] (.p (.int .i64 (bH left (e.sz-1))))):
 VF Tryz.prog G nr [.p (fdL l),.p (.int .i64 left)] (.p (.int .i64 (bH left (be l)))):=by
 refine AC.go Cq ?_
 have hpos:∀v∈l.map Fd.sz,1<=v:=λv hv=>by obtain⟨e,_,rfl⟩:=Uw.1 hv;exact e.sz_pos
 have hz:=Lw l
 have hal:=λi (hi:l.length<=i)=>yS hpos (i:=i) (by rw[Ux];exact hi)
 have hle:=CR hpos
 have h00:dw (l.map Fd.sz) 0=l.length:=by rw[tW,Ux]
 rw[←hz] at hal hle
 have hsl:∀l,fdL l= .lst 3 (l.map Fd.cs):=λ_=>rfl
 have hw:IntKind.i64.wrap ((left:Int)-l.length)=(left:Int)-l.length:=af (by simp only[BL] at hb;omega) (by omega)
 by_cases h:l.length<=left
 case neg=>
  have h1:(left:Int)-l.length<0:=by omega
  have:=hle 0
  have h2:bH left (be l)= -1:=if_neg (by omega)
  simp-implicitDefEqProofs[mY,hsl,hw,h1,h2]
 have h1:¬(left:Int)-l.length<0:=by omega
 simp-implicitDefEqProofs[mY,hsl,hw,h1]
 refine az (λi:Nat=>ag 27 [(0,.p (fdL l)),(1,.p (.int .i64 ((left-dw (l.map Fd.sz) i:Nat):Int))),(5,.p (.int .i64 i))]) (λ_=>[]) (λi=>i<=l.length/\dw (l.map Fd.sz) i<=left) (λi=>l.length-i) 0 ⟨by omega,by rw[h00];exact h⟩ ?_ ?_
 ·refine aG rfl ?_
  simp only[h00]
  simp[below,hsl]
  omega
 ·intro i ⟨hi,hx⟩
  simp-implicitDefEqProofs[hsl]
  refine bj (λh1=>?_) (λh1=>?_)
  ·simp at h1
   have hg:=Ub h1
   have hsu:=uj (ss:=l.map Fd.sz) (i:=i) (v:=l[i].sz) (by rw[Uk,hg];rfl)
   have hH:=H l[i] (Uo h1) (left-dw (l.map Fd.sz) i) (by omega)
   have hcs:l[i].cs.length=3:=by simp
   have hle1:=hle (i+1)
   generalize l[i]=e at hg hsu hH hcs
   simp-implicitDefEqProofs[hg,hcs]
   refine hH.use ?_
   by_cases h2:e.sz-1<=left-dw (l.map Fd.sz) i
   ·have e2:bH (left-dw (l.map Fd.sz) i) (e.sz-1)=((left-dw (l.map Fd.sz) (i+1):Nat):Int):=by rw[bH,if_pos h2];omega
    have h3:¬((left-dw (l.map Fd.sz) (i+1):Nat):Int)<0:=by omega
    rw[e2]
    simp-implicitDefEqProofs[h3]
    refine⟨i+1,⟨h1,by omega⟩,by omega,aG rfl (by simp[below,hsl,w1 (i:=i) (by simp only[BL] at hb;omega)])⟩
   ·have e2:bH (left-dw (l.map Fd.sz) i) (e.sz-1)= -1:=if_neg h2
    have e3:bH left (be l)= -1:=if_neg (by omega)
    rw[e2,e3]
    simp-implicitDefEqProofs[]
  ·simp at h1
   have hta:=hal i h1
   have h5:bH left (be l)=((left-dw (l.map Fd.sz) i:Nat):Int):=by rw[hta,bH,if_pos (by omega)]
   simp-implicitDefEqProofs[h5]
theorem Oj(l:List Fd)(hb:l.length<=1048576)(H:∀e∈l,VF Tryz.prog G gd [.agg (e.cs.map .p)] (.agg (e.cs.map .p))):VF Tryz.prog G gC [.p (fdL l)] (.p (fdL l)):=by
 have hsl:∀l,fdL l= .lst 3 (l.map Fd.cs):=λ_=>rfl
 have key:AC Tryz.prog G gC [.p (fdL l)] [] λx h=>x= .ret (.sl 0 3 0 l.length)/\h=[.row 3 (l.map λe=>e.cs.map .p)]:=by
  refine AC.go sV ?_
  have hn:(l.map λe=>e.cs.map AV.p).length=l.length:=by simp
  simp-implicitDefEqProofs[mS,hsl]
  refine⟨by omega,?_⟩
  refine az (λi:Nat=>ag 23 [(0,.p (fdL l)),(3,.sl 0 3 0 l.length),(4,.p (.int .i64 i))]) (λi=>[.row 3 ((l.map λe=>e.cs.map AV.p).take i++List.replicate (l.length-i) [.p (.str []),.nils,.nils])]) (λi=>i<=l.length) (λi=>l.length-i) 0 (by simp) ?_ ?_
  ·refine eB [0] rfl (by simp) (bN (by simp) (by simp[below]) dA) ?_
   simp[below,ren,hsl]
  ·intro i hi
   simp-implicitDefEqProofs[hsl]
   refine bj (λh1=>?_) (λh1=>?_)
   ·simp at h1
    have hg:=Ub h1
    have hg2:=zI (z:=([.p (.str []),.nils,.nils]:List AV)) hn h1
    have hset:=tE (z:=([.p (.str []),.nils,.nils]:List AV)) (v:=l[i].cs.map AV.p) hn h1 (by rw[Uk,hg];rfl)
    have hH:=H l[i] (Uo h1)
    have hcs:=l[i].cs_eq'
    have htl:(List.take i (l.map λ(e:Fd)=>e.cs.map AV.p)++List.replicate (l.length-i) ([.p (.str []),.nils,.nils]:List AV)).length=l.length:=by simp;omega
    generalize l[i]=e at hg hset hH hcs
    generalize hRow:(List.take i (l.map λ(e:Fd)=>e.cs.map AV.p)++List.replicate (l.length-i) ([.p (.str []),.nils,.nils]:List AV))=Rw at hg2 hset htl⊢
    rw[hcs] at hH hset
    simp-implicitDefEqProofs[hg,hcs]
    refine hH.use ?_
    simp-implicitDefEqProofs[hg2,h1,eq]
    simp only[UA,List.map_nil] at hset
    rw[hset]
    refine⟨i+1,h1,by omega,eB [0] rfl (by simp) (bN rfl ?_ dA) ?_⟩
    ·intro x hx
     rcases Un.1 hx with hx|hx
     ·obtain⟨y,_,rfl⟩:=Uw.1 (US hx);simp
     ·rw[(Vb.1 hx).2];simp[below]
    ·simp[below,ren,hsl,w1 (i:=i) (by omega)]
   ·simp at h1
    have hie:i=l.length:=by omega
    subst hie
    rw[Nat.sub_self,List.replicate_zero,UG,Uq (by rw[hn];exact Uf _)]
    simp-implicitDefEqProofs[]
 refine AC.freeze key (.one ?_ .nil)
 have:=iV (h:=[.row 3 (l.map λe=>e.cs.map .p)]) (id:=0) (sz:=3) (n:=l.length) (ls:=l.map Fd.cs) (by simp) (by simp) (λx hx=>by obtain⟨b,_,rfl⟩:=Uw.1 hx;simp)
 exact this
theorem Ob(l:List Fd)(hb:l.length<=1048576)(H:∀e∈l,VF Tryz.prog G lr [.agg (e.cs.map .p),.agg (e.cs.map .p)] (.p (.bool true))):VF Tryz.prog G mP [.p (fdL l),.p (fdL l)] (.p (.bool true)):=by
 refine AC.go CY ?_
 have hsl:∀l,fdL l= .lst 3 (l.map Fd.cs):=λ_=>rfl
 simp-implicitDefEqProofs[sN,hsl]
 refine az (λi:Nat=>ag 27 [(0,.p (fdL l)),(1,.p (fdL l)),(5,.p (.int .i64 i))]) (λ_=>[]) (λi=>i<=l.length) (λi=>l.length-i) 0 (by simp) ?_ ?_
 ·exact aG rfl (by simp[below,hsl])
 intro i hi
 simp-implicitDefEqProofs[hsl]
 refine bj (λh1=>?_) (λh1=>?_)
 ·simp at h1
  have hg:=Ub h1
  have hH:=H l[i] (Uo h1)
  have hcs:l[i].cs.length=3:=by simp
  generalize l[i]=e at hg hH hcs
  simp-implicitDefEqProofs[hg,hcs]
  refine hH.use ?_
  simp-implicitDefEqProofs[]
  exact⟨i+1,h1,by omega,aG rfl (by simp[below,hsl,w1 (i:=i) (by omega)])⟩
 ·simp at h1
  simp-implicitDefEqProofs[]
end
section
theorem dP{α:Type}{p:α->Bool}{xs:List α}{i:Nat}(h:i<xs.length):(xs.take (i+1)).all p=((xs.take i).all p&&p xs[i]):=by
 rw[ah h,List.all_append];simp
theorem nj{α:Type}{p:α->Bool}{xs:List α}{i:Nat}(h:i<xs.length)(hp:p xs[i]=false):xs.all p=false:=
 List.all_eq_false.2 ⟨_,Uo h,by simp[hp]⟩
theorem gm{α:Type}{p:α->Bool}{xs:List α}{i:Nat}(h:xs.length<=i)(ht:(xs.take i).all p=true):xs.all p=true:=by
 rwa[Uq h] at ht
def rj:AK:=qV [x5 2 4,wG] [wS 10 2,qu 11 10,xf 12 iJ 11,qf 9 12,wL 13 0 9,wL 14 1 9,qf 5 13,x6 14] (w9 [wE 15,xt 16 15 1,qf 17 16,xv 18 17 0 2,xu 19 17 18,qL 20 17 (xE (xG 19 (qk 1) (qk 13))),qL 21 17 (wa 20),xL 22 17 21,qf 23 22,xv 24 23 3 2,xu 25 23 24,qL 26 23 (qW 25),xj 27 23 5,xj 28 23 6,qL 29 23 (xE (xI 26 27 28)),qL 30 23 (wa 29),xL 31 23 30] 31 xA (.cut (.reg [wS 32 2,qu 33 32,wt 34 33 2,qf 35 34,xv 36 35 0 2,xu 37 35 36,qL 38 35 (w8 .eql 37 13),xL 39 35 38,qf 7 39]) (.cut (xz [qf 40 7,xq 41 2,qu 42 41,xf 43 ck 42,qb 44 (.beq true (.t 40) (.t 43)),qf 45 44,xj 46 45 7,qL 47 45 (wa 46),xj 48 45 47,w7 49 48 2 2,w6 50 48 49,qM 51 48 (xx .neq 50 (.c wJ)),qL 52 45 (qN 48 (.t 51) wM),xL 53 45 52,qf 54 53,xv 55 54 1 2,xu 56 54 55,qL 57 54 (xE (xG 56 ya (qk 255))),qL 58 54 (wa 57),xL 59 54 58,qf 60 59,xv 61 60 0 2,xu 62 60 61,qL 63 60 (w8 .neq 62 1),xj 64 60 63,w7 65 64 1 2,w6 66 64 65,xO 67 64 .neq 66 0,qL 68 60 (qN 64 (.t 67) wM),xL 69 60 68] 69 xA) (xC [wH 8] (xT 0 [xP 70,xy 71 2,qu 72 71,wl 73 72,wI 74 70 73] 74 0 1 (xz [xy 77 2,qu 78 77,xP 79,wn 80 4 78 79,xX 81 80,wE 82,qy 83 .sub 82 1,wW 84 fF 81 83,wK 85 84] 85 xA) (xP 75) 76 75 8 76) [x4 4]))))
theorem Ax:AK.whole rj=FK.ak iO:=rfl
def rE:AK:=qe [x5 2 5,wG] (.cut (xz [wE 7,xt 8 7 1,xP 9,xv 10 9 0 2,xu 11 9 10,qL 12 9 (xE (xG 11 (qk 1) (qk 8))),qL 13 9 (wa 12),xL 14 9 13,qf 15 14,xv 16 15 2 2,xv 19 15 0 2,xu 17 15 16,qL 18 15 (qW 17),xu 20 15 19,qL 21 15 (.qcall iM (xe 20)),qL 22 15 (ql .neq 18 (.t 21)),xL 23 15 22] 23 xA) (.cut (.reg [wS 24 2,qu 25 24,wt 26 25 1,qf 27 26,xv 28 27 0 2,xu 29 27 28,qL 30 27 (w8 .eql 29 2),xL 31 27 30,qf 5 31]) (.cut (xz [wY 32,xw 33 2,qu 34 33,xf 35 ck 34,qb 36 (.beq true (.t 32) (.t 35)),qf 37 36,xj 38 37 5,qL 39 37 (wa 38),xj 40 37 39,w7 41 40 1 2,w6 42 40 41,qM 43 40 (xx .neq 42 (.c wJ)),qL 44 37 (qN 40 (.t 43) wM),xL 45 37 44] 45 xA) (qw [wH 6] (xT 0 [qf 46 6,xq 47 2,qu 48 47,wl 49 48,wI 50 46 49] 50 0 1 (xz [xq 53 2,qu 54 53,qf 55 6,wn 56 4 54 55,xX 57 56,xf 58 eO 57,wK 59 58] 59 xA) (qf 51 6) 52 51 6 52) (.cut (xz [wS 60 2,qu 61 60,wt 62 61 8,qf 63 62,w7 64 63 2 2,w6 65 63 64,qM 66 63 (qH 4 65 ya),w7 67 63 0 66,w6 68 63 67,xO 69 63 .neq 68 13,xY 70 63 69] 70 xA) (.cut (xz [qt 71 4 2,qu 72 71,wl 73 72,qy 74 .gtr 73 0,qf 75 74,w7 76 75 0 2,w6 77 75 76,xO 78 75 .neq 77 5,xY 79 75 78,qf 80 79,xv 81 80 3 2,xu 82 80 81,qL 83 80 (qW 82),qL 84 80 (w8 .gtr 83 0),xj 85 80 84,w7 86 85 0 2,w6 87 85 86,xO 88 85 .neq 87 5,qL 89 80 (qN 85 (.t 88) wM),xj 90 80 89,w7 91 90 0 2,w6 92 90 91,xO 93 90 .neq 92 6,qL 94 80 (qN 90 (.t 93) wM),xL 95 80 94] 95 xA) (qx [xy 96 2,qu 97 96,wE 98,qy 99 .sub 98 1,wW 100 bQ 97 99,qf 101 100,w7 102 101 4 2,w6 103 101 102,xM 104 101 1,xO 105 101 .sub 104 1,qM 106 101 (.call bQ (wU 103 (.t 105))),xY 107 101 106,qf 4 107])))))))
theorem Am:AK.whole rE=FK.ak iH:=rfl
variable (G:aq)
theorem og(n lo hi:Int):VF Tryz.prog G iX [.p (.int .i64 n),.p (.int .i64 lo),.p (.int .i64 hi)] (.p (.bool (inR n lo hi))):=by
 refine AC.go DD ?_
 by_cases h:lo<=n
 ·simp-implicitDefEqProofs[oR,h,inR]
 ·simp-implicitDefEqProofs[oR,h,inR]
theorem EB(op:Int):VF Tryz.prog G iJ [.p (.int .i64 op)] (.tup [.p (.int .i64 (loK op)),.p (.int .i64 (hiK op))]):=by
 refine AC.go Bc ?_
 by_cases h1:op=1
 ·subst h1;simp-implicitDefEqProofs[cT,loK,hiK]
 by_cases h2:op=2
 ·subst h2;simp-implicitDefEqProofs[cT,loK,hiK]
 by_cases h3:op=11
 ·subst h3;simp-implicitDefEqProofs[cT,loK,hiK]
 by_cases h4:op=12
 ·subst h4;simp-implicitDefEqProofs[cT,loK,hiK]
 by_cases h5:op=13
 ·subst h5;simp-implicitDefEqProofs[cT,loK,hiK]
 simp-implicitDefEqProofs[cT,loK,hiK,h1,h2,h3,h4,h5]
theorem JH:∀(d:Nat) (e:Ex),e.sz<=1099511627776->d<=1000->VF Tryz.prog G fF [.agg (e.cs.map .p),.p (.int .i64 d)] (.p (.bool (cb d e))):=by
 intro d
 induction d with
 |zero=>
  intro e he _
  refine AC.go rG ?_
  simp-implicitDefEqProofs[iO,Ex.cs_eq]
  refine(EB G _).use ?_
  simp-implicitDefEqProofs[cb]
 |succ d ih=>
  intro e he hd
  have hsz:=e.sz_eq
  have hkl:=aX e.kids
  refine AC.goK rG Ax ?_
  have hd1:¬(d:Int)+1<1:=by omega
  have hw:IntKind.i64.wrap ((d:Int)+1-1)=(d:Int):=by rw[show(d:Int)+1-1=d by omega];exact af (by omega) (by omega)
  have hw':IntKind.i64.wrap (d:Int)=(d:Int):=af (by omega) (by omega)
  have hxl:∀l,exL l= .lst 4 (l.map Ex.cs):=λ_=>rfl
  simp-implicitDefEqProofs[rj,iO,Ex.cs_eq]
  refine(EB G _).use ?_
  simp-implicitDefEqProofs[hd1]
  refine(og G _ _ _).use ?_
  by_cases h1:inR e.op 1 13=true
  case neg=>simp-implicitDefEqProofs[h1,cb,mg]
  simp-implicitDefEqProofs[h1,hxl]
  refine(og G _ _ _).use ?_
  by_cases h2:inR e.kids.length (loK e.op) (hiK e.op)=true
  case neg=>simp-implicitDefEqProofs[h2,cb,mg]
  simp-implicitDefEqProofs[h2]
  refine pT (ag 86 [(1,.p (.int .i64 (d+1))),(2,.ptr 0 4 0 0),(7,.p (.bool (FF e.op)))]) [.row 4 [[.p (.int .i64 e.op),.p (.int .i64 e.n),.p (.str e.name),.p (.lst 4 (e.kids.map Ex.cs))]]] ?_ ?_
  ·by_cases o2:e.op=2
   ·simp-implicitDefEqProofs[o2]
    exact ab (by simp) (by simp[okO]) (by simp[below,FF])
   ·by_cases o13:e.op=13
    ·simp-implicitDefEqProofs[o13]
     exact ab (by simp) (by simp[okO]) (by simp[below,FF])
    ·simp-implicitDefEqProofs[o2,o13]
     exact ab (by simp) (by simp[okO]) (by simp[below,FF,o2,o13])
  have hn:e.name.length<=140737488355328:=by omega
  refine AA (λ_:Unit=>ag 86 [(1,.p (.int .i64 ((d:Int)+1))),(2,.ptr 0 4 0 0)]) (λ_=>[.row 4 [[.p (.int .i64 e.op),.p (.int .i64 e.n),.p (.str e.name),.p (.lst 4 (e.kids.map Ex.cs))]]]) (λ_=>mg e=true) ?_ ?_
  ·simp-implicitDefEqProofs[]
   refine(tN G _ hn).use ?_
   simp-implicitDefEqProofs[]
   repeat' first
    |(refine(og G _ _ _).use ?_;simp-implicitDefEqProofs[])
    |(refine bj (λhc=>?_) (λhc=>?_)<;>simp-implicitDefEqProofs[hc])
   all_goals first
    |exact⟨by simp_all [mg],ab (by simp) (by simp[okO]) (by simp[below])⟩
    |simp_all [cb,mg]
  intro _ hh
  simp-implicitDefEqProofs[]
  refine az (λi:Nat=>ag 86 [(1,.p (.int .i64 ((d:Int)+1))),(2,.ptr 0 4 0 0),(8,.p (.int .i64 i))]) (λ_=>[.row 4 [[.p (.int .i64 e.op),.p (.int .i64 e.n),.p (.str e.name),.p (.lst 4 (e.kids.map Ex.cs))]]])
   (λi=>i<=e.kids.length/\(e.kids.take i).all (cb d)=true) (λi=>e.kids.length-i) 0 (by simp) (ab (by simp) (by simp[okO]) (by simp[below])) ?_
  intro i ⟨hi,hall⟩
  simp-implicitDefEqProofs[]
  refine bj (λh=>?_) (λh=>?_)
  ·simp at h
   have hg:=Ub h
   have hks:=aS (Uo h)
   simp-implicitDefEqProofs[hg,hw']
   refine(ih e.kids[i] (by omega) (by omega)).use ?_
   by_cases hk:cb d e.kids[i]=true
   ·simp-implicitDefEqProofs[hk]
    refine⟨i+1,⟨h,by rw[←Ui,dP h,hall,hk];rfl⟩,by omega,ab (by simp) (by simp[okO]) ?_⟩
    simp[below,w1 (i:=i) (by omega)]
   ·have hk':cb d e.kids[i]=false:=by simpa using hk
    have hf:cb (d+1) e=false:=by simp only[cb,nj h hk',Bool.and_false]
    simp-implicitDefEqProofs[hk',hf]
  ·simp at h
   have hf:cb (d+1) e=true:=by simp only[cb,gm h hall,hh,Bool.and_self]
   simp-implicitDefEqProofs[hf]
theorem IZ{l:List Ex}{i:Nat}(h:i<l.length):bc (l.take (i+1))=bc (l.take i)+l[i].parts:=by
 rw[ah h,eF];simp[bc]
theorem Cb(l:List Ex)(i:Nat):bc (l.take i)<=bc l:=by
 have:=eF (l.take i) (l.drop i)
 rw[UO] at this
 omega
theorem Hy:∀(k:Nat) (e:Ex),e.sz<=k->k<=1099511627776->VF Tryz.prog G gl [.agg (e.cs.map .p)] (.p (.int .i64 e.parts)):=by
 intro k
 induction k with
 |zero=>intro e he;have:=e.sz_eq;omega
 |succ k ih=>
  intro e he hk
  have hsz:=e.sz_eq
  have hkl:=aX e.kids
  have hpe:=e.parts_eq
  have hpz:=CS e.kids
  refine AC.go zU ?_
  have hxl:∀l,exL l= .lst 4 (l.map Ex.cs):=λ_=>rfl
  simp-implicitDefEqProofs[oY,Ex.cs_eq,hxl]
  refine az (λi:Nat=>ag 21 [(1,.ptr 0 4 0 0),(3,.p (.int .i64 ((1+bc (e.kids.take i):Nat):Int))),(4,.p (.int .i64 i))]) (λ_=>[.row 4 [[.p (.int .i64 e.op),.p (.int .i64 e.n),.p (.str e.name),.p (.lst 4 (e.kids.map Ex.cs))]]])
   (λi=>i<=e.kids.length) (λi=>e.kids.length-i) 0 (by simp) (ab (by simp) (by simp[okO]) (by simp[below,bc])) ?_
  intro i hi
  simp-implicitDefEqProofs[]
  refine bj (λh=>?_) (λh=>?_)
  ·simp at h
   have hg:=Ub h
   have hks:=aS (Uo h)
   have hps:=IZ h
   have hple:=Cb e.kids (i+1)
   simp-implicitDefEqProofs[hg]
   refine(ih e.kids[i] (by omega) (by omega)).use ?_
   have hw:IntKind.i64.wrap (1+(bc (e.kids.take i):Int)+(e.kids[i].parts:Int))=((1+bc (e.kids.take (i+1)):Nat):Int):=by rw[af (by omega) (by omega)];omega
   simp-implicitDefEqProofs[hw]
   exact⟨i+1,h,by omega,ab (by simp) (by simp[okO]) (by simp[below,w1 (i:=i) (by omega)])⟩
  ·simp at h
   rw[Uq h]
   simp-implicitDefEqProofs[]
   omega
theorem DG(e:Ex)(he:e.sz<=1099511627776):VF Tryz.prog G eO [.agg (e.cs.map .p)] (.p (.bool (lQ e))):=by
 refine AC.go tU ?_
 simp-implicitDefEqProofs[mu]
 have h6:=JH G 6 e he (by omega)
 refine h6.use ?_
 by_cases h:cb 6 e=true
 ·simp-implicitDefEqProofs[h]
  refine(Hy G _ e (Uf _) he).use ?_
  simp-implicitDefEqProofs[lQ,h]
  omega
 ·simp-implicitDefEqProofs[h,lQ]
theorem Jx(op:Int):VF Tryz.prog G iM [.p (.int .i64 op)] (.p (.int .i64 (gZ op))):=by
 refine AC.go AL ?_
 by_cases h:op=4
 ·simp-implicitDefEqProofs[lU,h,gZ]
 ·simp-implicitDefEqProofs[lU,h,gZ]
theorem vb(d:Nat)(hd:d<=1000)(hs:∀s:Sm,s.sz<=1099511627776->VF Tryz.prog G iF [.agg (s.cs.map .p),.p (.int .i64 d)] (.p (.bool (aB d s))))(l:List Sm)(hl:aK l<=1099511627776):
 VF Tryz.prog G bQ [.p (smL l),.p (.int .i64 d)] (.p (.bool (l.all (aB d)))):=by
 refine AC.go yq ?_
 have hll:=bp l
 have hsl:∀l,smL l= .lst 5 (l.map Sm.cs):=λ_=>rfl
 simp-implicitDefEqProofs[oL]
 refine az (λi:Nat=>ag 19 [(0,.p (smL l)),(1,.p (.int .i64 d)),(5,.p (.int .i64 i))]) (λ_=>[]) (λi=>i<=l.length/\(l.take i).all (aB d)=true) (λi=>l.length-i) 0 (by simp) (aG rfl (by simp[below,hsl])) ?_
 intro i ⟨hi,hall⟩
 simp-implicitDefEqProofs[hsl]
 refine bj (λh=>?_) (λh=>?_)
 ·simp at h
  have hg:=Ub h
  have hks:=aQ (Uo h)
  simp-implicitDefEqProofs[hg]
  refine(hs l[i] (by omega)).use ?_
  by_cases hk:aB d l[i]=true
  ·simp-implicitDefEqProofs[hk]
   exact⟨i+1,⟨h,by rw[←Ui,dP h,hall,hk];rfl⟩,by omega,aG rfl (by simp[below,hsl,w1 (i:=i) (by omega)])⟩
  ·have hk':aB d l[i]=false:=by simpa using hk
   have hf:=nj h hk'
   simp-implicitDefEqProofs[hk',hf]
 ·simp at h
  have hf:=gm h hall
  simp-implicitDefEqProofs[hf]
theorem JK:∀(d:Nat),d<=1000->∀s:Sm,s.sz<=1099511627776->VF Tryz.prog G iF [.agg (s.cs.map .p),.p (.int .i64 d)] (.p (.bool (aB d s))):=by
 intro d
 induction d with
 |zero=>
  intro _ s _
  refine AC.go rp ?_
  simp-implicitDefEqProofs[iH,Sm.cs_eq,aB]
 |succ d ih=>
  intro hd s he
  have hsz:=s.sz_eq
  have hal:=aX s.args
  have hbl:=bp s.body
  have hel:=bp s.els
  have ihs:=vb G d (by omega) (ih (by omega))
  refine AC.goK rp Am ?_
  have hd1:¬(d:Int)+1<1:=by omega
  have hw':IntKind.i64.wrap (d:Int)=(d:Int):=af (by omega) (by omega)
  have hxl:∀l,exL l= .lst 4 (l.map Ex.cs):=λ_=>rfl
  have hsl:∀l,smL l= .lst 5 (l.map Sm.cs):=λ_=>rfl
  have hn:s.name.length<=140737488355328:=by omega
  simp-implicitDefEqProofs[rE,iH,Sm.cs_eq]
  generalize hH:[AO.row 5 [[AV.p (.int .i64 s.op),.p (.str s.name),.p (exL s.args),.p (smL s.body),.p (smL s.els)]]]=H
  have hho:∀o∈H,okO H.length o:=by rw[←hH];simp[okO]
  have hhl:0<H.length:=by rw[←hH];simp
  have hh0:H[0]?=some (AO.row 5 [[AV.p (.int .i64 s.op),.p (.str s.name),.p (exL s.args),.p (smL s.body),.p (smL s.els)]]):=by rw[←hH];rfl
  have hhL:H.length=1:=by rw[←hH];rfl
  refine AA (λ_:Unit=>ag 108 [(1,.p (.int .i64 ((d:Int)+1))),(2,.ptr 0 5 0 0)]) (λ_=>H) (λ_=>inR s.op 1 8=true/\s.args.length=gZ s.op) ?_ ?_
  ·simp-implicitDefEqProofs[hd1,hh0]
   refine(og G _ _ _).use ?_
   by_cases h1:inR s.op 1 8=true
   case neg=>simp-implicitDefEqProofs[h1,aB,jo]
   simp-implicitDefEqProofs[h1,hh0,hxl]
   refine(Jx G _).useQ ?_
   by_cases h2:s.args.length=gZ s.op
   ·simp-implicitDefEqProofs[h2]
    exact ab (by omega) hho (by simp[below,hhl])
   ·have h2':¬(s.args.length:Int)=(gZ s.op:Int):=by omega
    simp-implicitDefEqProofs[h2,h2',aB,jo]
  intro _ ⟨h1,h2⟩
  refine AA (λ_:Unit=>ag 108 [(1,.p (.int .i64 ((d:Int)+1))),(2,.ptr 0 5 0 0),(5,.p (.bool (cC s.op)))]) (λ_=>H) (λ_=>True) ?_ ?_
  ·simp-implicitDefEqProofs[hh0]
   by_cases o1:s.op=1
   ·simp-implicitDefEqProofs[o1,hh0,cC]
    exact ab (by omega) hho (by simp[below,hhl])
   ·by_cases o2:s.op=2
    ·simp-implicitDefEqProofs[o2,hh0,cC]
     exact ab (by omega) hho (by simp[below,hhl])
    ·simp-implicitDefEqProofs[o1,o2,hh0,cC]
     exact ab (by omega) hho (by simp[below,hhl])
  intro _ _
  refine AA (λ_:Unit=>ag 108 [(1,.p (.int .i64 ((d:Int)+1))),(2,.ptr 0 5 0 0)]) (λ_=>H) (λ_=>(cC s.op==aC s.name)=true/\(cC s.op||decide (s.name=[]))=true) ?_ ?_
  ·simp-implicitDefEqProofs[hh0]
   refine(tN G _ hn).use ?_
   simp-implicitDefEqProofs[hh0]
   repeat' first
    |(refine bj (λhc=>?_) (λhc=>?_)<;>simp-implicitDefEqProofs[hc,hh0])
   all_goals first
    |exact ab (by omega) hho (by simp[below,hhl])
    |exact⟨by simp_all,by simp_all,ab (by omega) hho (by simp[below,hhl])⟩
    |exact⟨by simp_all,ab (by omega) hho (by simp[below,hhl])⟩
    |(simp_all [aB,jo];done)
  intro _ ⟨h3,h4⟩
  simp-implicitDefEqProofs[]
  refine az (λi:Nat=>ag 108 [(1,.p (.int .i64 ((d:Int)+1))),(2,.ptr 0 5 0 0),(6,.p (.int .i64 i))]) (λ_=>H) (λi=>i<=s.args.length/\(s.args.take i).all lQ=true) (λi=>s.args.length-i) 0 (by simp) (ab (by omega) hho (by simp[below,hhl])) ?_
  intro i ⟨hi,hall⟩
  simp-implicitDefEqProofs[hh0,hxl]
  refine bj (λh=>?_) (λh=>?_)
  ·simp at h
   have hg:=Ub h
   have hks:=aS (Uo h)
   simp-implicitDefEqProofs[hg,hh0,hxl]
   refine(DG G s.args[i] (by omega)).use ?_
   by_cases hk:lQ s.args[i]=true
   ·simp-implicitDefEqProofs[hk]
    exact⟨i+1,⟨h,by rw[←Ui,dP h,hall,hk];rfl⟩,by omega,ab (by omega) hho (by simp[below,hhl,w1 (i:=i) (by omega)])⟩
   ·have hk':lQ s.args[i]=false:=by simpa using hk
    have hf:aB (d+1) s=false:=by simp only[aB,jo,nj h hk',Bool.and_false,Bool.false_and]
    simp-implicitDefEqProofs[hk',hf]
  simp at h
  have h5:s.args.all lQ=true:=gm h hall
  have hlen1:1<=s.args.length:=by rw[h2];unfold gZ;split<;>omega
  obtain⟨a0,ar,ha⟩:∃a r,s.args=a::r:=by
   cases hh:s.args with
   |nil=>rw[hh] at hlen1;simp at hlen1
   |cons a r=>exact⟨a,r,rfl⟩
  have ha0:s.args[0]?=some a0:=by rw[ha];rfl
  refine AA (λ_:Unit=>ag 108 [(1,.p (.int .i64 ((d:Int)+1))),(2,.ptr 0 5 0 0)]) (λ_=>H) (λ_=>(!decide (s.op=8)||decide (a0.op=13))=true) ?_ ?_
  ·simp-implicitDefEqProofs[hh0]
   by_cases o8:s.op=8
   ·have hae:=a0.cs_eq
    simp-implicitDefEqProofs[o8,hh0,hxl,ha0,hae]
    refine bj (λhc=>?_) (λhc=>?_)
    ·simp at hc
     have hf:aB (d+1) s=false:=by simp[aB,jo,o8,ha,hc]
     simp-implicitDefEqProofs[hf]
    ·simp at hc
     simp-implicitDefEqProofs[hc]
     exact ab (by omega) hho (by simp[below,hhl])
   ·simp-implicitDefEqProofs[o8,hh0]
    exact ab (by omega) hho (by simp[below,hhl])
  intro _ h6
  refine AA (λ_:Unit=>ag 108 [(1,.p (.int .i64 ((d:Int)+1))),(2,.ptr 0 5 0 0)]) (λ_=>H) (λ_=>(s.els.isEmpty||decide (s.op=5))=true/\(s.body.isEmpty||decide (s.op=5)||decide (s.op=6))=true) ?_ ?_
  ·have hf:¬((s.els.isEmpty||decide (s.op=5))=true/\(s.body.isEmpty||decide (s.op=5)||decide (s.op=6))=true)->aB (d+1) s=false:=λh=>by
    have:jo s=false:=by
     cases hx:jo s with
     |false=>rfl
     |true=>refine absurd ?_ h;simp only[jo,Ut] at hx;exact⟨hx.1.2,hx.2⟩
    simp[aB,this]
   have pe:¬s.els=[]->0<s.els.length:=List.length_pos_iff.2
   have pb:¬s.body=[]->0<s.body.length:=List.length_pos_iff.2
   by_cases o5:s.op=5
   ·simp-implicitDefEqProofs[hh0,hsl,o5]
    repeat' first
     |(refine bj (λhc=>?_) (λhc=>?_)<;>simp-implicitDefEqProofs[hc,hh0,hsl,o5])
    all_goals exact ab (by omega) hho (by simp[below,hhl])
   by_cases e1:s.els=[]
   case neg=>
    have hf:=hf (by simp[e1,o5])
    have:=pe e1
    simp-implicitDefEqProofs[hh0,hsl,o5,e1,this,hf]
   by_cases e2:s.body=[]
   ·simp-implicitDefEqProofs[hh0,hsl,o5,e1,e2]
    exact ab (by omega) hho (by simp[below,hhl])
   have:=pb e2
   by_cases o6:s.op=6
   ·simp-implicitDefEqProofs[hh0,hsl,o6,e1,e2,this]
    exact ab (by omega) hho (by simp[below,hhl])
   ·have hf:=hf (by simp[e2,o5,o6])
    simp-implicitDefEqProofs[hh0,hsl,o5,o6,e1,e2,this,hf]
  intro _ ⟨h7,h8⟩
  have hm:(match s.args with|a::_=>decide (a.op=13)|[]=>false)=decide (a0.op=13):=by rw[ha]
  have hhd:jo s=true:=by
   have h6':(!decide (s.op=8)||(match s.args with|a::_=>decide (a.op=13)|[]=>false))=true:=by rw[hm];exact h6
   have h2':decide (s.args.length=gZ s.op)=true:=by simp[h2]
   simp only[jo,h1,h2',h3,h4,h5,h7,h8,Bool.and_self,Bool.and_true,Bool.true_and]
   exact h6'
  simp-implicitDefEqProofs[hh0,hw']
  refine(ihs s.body (by omega)).use ?_
  by_cases hB:s.body.all (aB d)=true
  ·simp only[hB]
   simp-implicitDefEqProofs[hh0,hw']
   refine(ihs s.els (by omega)).use ?_
   have hf:aB (d+1) s=s.els.all (aB d):=by simp only[aB,hhd,hB,Bool.true_and]
   rw[hf]
   generalize s.els.all (aB d)=w
   simp-implicitDefEqProofs[]
  ·have hB':s.body.all (aB d)=false:=by simpa using hB
   have hf:aB (d+1) s=false:=by simp only[aB,hB',Bool.and_false,Bool.false_and]
   simp only[hB',hf]
   simp-implicitDefEqProofs[]
theorem Iy(d:Nat)(hd:d<=1000)(l:List Sm)(hl:aK l<=1099511627776):VF Tryz.prog G bQ [.p (smL l),.p (.int .i64 d)] (.p (.bool (l.all (aB d)))):=
 vb G d hd (JK G d hd) l hl
theorem PS(f:Fd)(hf:f.sz<=1099511627776):VF Tryz.prog G nV [.agg (f.cs.map .p)] (.p (.bool (ka f))):=by
 refine AC.go EG ?_
 have hsz:f.sz=1+f.name.length+(f.params.length+(f.params.map List.length).sum)+aK f.body:=rfl
 have hps:∀x∈f.params,x.length<=(f.params.map List.length).sum:=λx hx=>by
  have key:∀l:List (List UInt8),x∈l->x.length<=(l.map List.length).sum:=by
   intro l
   induction l with
   |nil=>intro h;cases h
   |cons y r ih=>
    intro h
    simp only[UA,List.sum_cons]
    rcases Uj.1 h with rfl|h
    ·omega
    ·have:=ih h;omega
  exact key _ hx
 have hst:aD f.params= .lst 1 (f.params.map λw=>[.str w]):=rfl
 have h4:=Iy G 4 (by omega) f.body (by omega)
 simp-implicitDefEqProofs[vo,Fd.cs,hst]
 refine az (λi:Nat=>ag 32 [(1,.ptr 0 3 0 0),(3,.p (.int .i64 i))]) (λ_=>[.row 3 [[.p (.str f.name),.p (aD f.params),.p (smL f.body)]]]) (λi=>i<=f.params.length/\(f.params.take i).all aC=true) (λi=>f.params.length-i) 0 (by simp) (ab (by simp) (by simp[okO]) (by simp[below])) ?_
 intro i ⟨hi,hall⟩
 simp-implicitDefEqProofs[hst]
 refine bj (λh=>?_) (λh=>?_)
 ·simp at h
  have hg:=Ub h
  have hl:=hps _ (Uo h)
  simp-implicitDefEqProofs[hg]
  refine(tN G _ (by omega)).use ?_
  by_cases hk:aC f.params[i]=true
  ·simp-implicitDefEqProofs[hk]
   exact⟨i+1,⟨h,by rw[←Ui,dP h,hall,hk];rfl⟩,by omega,ab (by simp) (by simp[okO]) (by simp[below,w1 (i:=i) (by omega)])⟩
  ·have hk':aC f.params[i]=false:=by simpa using hk
   have hff:ka f=false:=by simp only[ka,nj h hk',Bool.false_and]
   simp-implicitDefEqProofs[hk',hff]
 ·simp at h
  have h1:f.params.all aC=true:=gm h hall
  simp-implicitDefEqProofs[]
  refine(tN G _ (by omega)).use ?_
  by_cases h2:aC f.name=true
  case neg=>
   have h2':aC f.name=false:=by simpa using h2
   simp-implicitDefEqProofs[h2',ka]
  simp-implicitDefEqProofs[h2]
  by_cases h3:f.params.length<=3
  case neg=>
   have h3':¬(f.params.length:Int)<=3:=by omega
   simp-implicitDefEqProofs[h3,h3',ka]
  have h3':(f.params.length:Int)<=3:=by omega
  simp-implicitDefEqProofs[h3']
  refine h4.use ?_
  have hff:ka f=f.body.all (aB 4):=by simp only[ka,h1,h2,h3,decide_true,Bool.true_and]
  rw[hff]
  generalize f.body.all (aB 4)=w
  simp-implicitDefEqProofs[]
theorem IJ{l:List Sm}{i:Nat}(h:i<l.length):dJ (l.take (i+1))=dJ (l.take i)+l[i].cnt:=by
 rw[ah h,nL];simp[dJ]
theorem sQ(l:List Sm)(i:Nat):dJ (l.take i)<=dJ l:=by
 have:=nL (l.take i) (l.drop i)
 rw[UO] at this
 omega
def lM(l:List Sm)(i:Nat):Nat:=l.length+((l.take i).map λs=>dJ s.body+dJ s.els).sum
theorem Gw(l:List Sm):lM l 0=l.length:=by simp[lM]
theorem zN{l:List Sm}{i:Nat}(h:i<l.length):lM l (i+1)=lM l i+dJ l[i].body+dJ l[i].els:=by
 rw[lM,lM,ah h,List.map_append,List.sum_append]
 simp only[UA,List.map_nil,List.sum_cons,List.sum_nil]
 omega
theorem tR(l:List Sm):∀i,i<=l.length->dJ (l.take i)+l.length=i+lM l i
 |0,_=>by simp[dJ,lM]
 |i+1,h=>by
  have:=tR l i (by omega)
  rw[IJ (by omega),zN (by omega),(l[i]'(by omega)).cnt_eq]
  omega
theorem Ir:∀(k:Nat) (l:List Sm),aK l<=k->k<=1099511627776->VF Tryz.prog G eE [.p (smL l)] (.p (.int .i64 (dJ l))):=by
 intro k
 induction k with
 |zero=>
  intro l hl _
  have:l=[]:=by
   cases l with
   |nil=>rfl
   |cons s r=>have:=s.sz_eq;simp only[aK] at hl;omega
  subst this
  refine AC.go ox ?_
  have hsl:smL []= .lst 5 []:=rfl
  simp-implicitDefEqProofs[kV,hsl]
  refine az (λ_:Unit=>ag 29 [(0,.p (.lst 5 [])),(3,.p (.int .i64 0)),(4,.p (.int .i64 0))]) (λ_=>[]) (λ_=>True) (λ_=>0) () trivial (aG rfl (by simp[below])) ?_
  intro _ _
  simp-implicitDefEqProofs[dJ]
 |succ k ih=>
  intro l hl hk
  have hll:=bp l
  have hnz:=oZ l
  refine AC.go ox ?_
  have hsl:∀l,smL l= .lst 5 (l.map Sm.cs):=λ_=>rfl
  simp-implicitDefEqProofs[kV,hsl]
  refine az (λi:Nat=>ag 29 [(0,.p (smL l)),(3,.p (.int .i64 (lM l i))),(4,.p (.int .i64 i))]) (λ_=>[]) (λi=>i<=l.length) (λi=>l.length-i) 0 (by simp) (aG rfl (by simp[below,hsl,Gw])) ?_
  intro i hi
  have k0:=tR l i hi
  have k2:=sQ l i
  simp-implicitDefEqProofs[hsl]
  refine bj (λh=>?_) (λh=>?_)
  ·simp at h
   have hg:=Ub h
   have hks:=aQ (Uo h)
   have hse:=l[i].sz_eq
   have hce:=l[i].cs_eq
   have k1:=zN h
   have k3:=tR l (i+1) h
   have k4:=sQ l (i+1)
   simp-implicitDefEqProofs[hg,hce]
   refine(ih l[i].body (by omega) (by omega)).use ?_
   simp-implicitDefEqProofs[hg,hce]
   refine(ih l[i].els (by omega) (by omega)).use ?_
   have w1':IntKind.i64.wrap ((lM l i:Int)+(dJ l[i].body:Int))=(lM l i:Int)+(dJ l[i].body:Int):=af (by omega) (by omega)
   have w2':IntKind.i64.wrap ((lM l i:Int)+(dJ l[i].body:Int)+(dJ l[i].els:Int))=(lM l (i+1):Int):=by rw[af (by omega) (by omega)];omega
   simp-implicitDefEqProofs[w1',w2']
   exact⟨i+1,h,by omega,aG rfl (by simp[below,hsl,w1 (i:=i) (by omega)])⟩
  ·simp at h
   rw[Uq h] at k0
   have:lM l i=dJ l:=by omega
   simp-implicitDefEqProofs[this]
theorem cK:∀{l:List Fd} {f:Fd},f∈l->f.sz<=be l
 |x::r,e,h=>by
  simp only[be,UA,List.sum_cons]
  rcases Uj.1 h with rfl|h
  ·omega
  ·have:=cK h;simp only[be] at this;omega
theorem eh:∀l:List Fd,l.length<=be l
 |[]=>Uf _
 |e::r=>by have:=eh r;simp only[be,UA,List.sum_cons,Ur] at this⊢;have:1<=e.sz:=by unfold Fd.sz;omega
           omega
def yN(l:List Fd)(i:Nat):Nat:=mG (l.take i)
theorem HU{l:List Fd}{i:Nat}(h:i<l.length):yN l (i+1)=yN l i+dJ l[i].body:=by
 rw[yN,yN,mG,mG,ah h,List.map_append,List.sum_append];simp
theorem Cc:∀l:List Fd,mG l<=be l
 |[]=>Uf _
 |f::r=>by
  have:=Cc r
  have h2:=oZ f.body
  simp only[mG,be,UA,List.sum_cons] at this⊢
  have:aK f.body<=f.sz:=by unfold Fd.sz;omega
  omega
theorem Nd(l:List Fd)(i:Nat):yN l i<=be l:=by
 have h1:=Cc (l.take i)
 have h2:be (l.take i)<=be l:=by
  have:be l=be (l.take i)+be (l.drop i):=by
   rw[←UO i l,be,List.map_append,List.sum_append];simp[be]
  omega
 exact Uv h1 h2
theorem MZ(l:List Fd)(hl:be l<=1099511627776):VF Tryz.prog G na [.agg [.p (fdL l)]] (.p (.int .i64 (mG l))):=by
 refine AC.go CA ?_
 have hll:=eh l
 have hfl:∀l,fdL l= .lst 3 (l.map Fd.cs):=λ_=>rfl
 simp-implicitDefEqProofs[tq]
 refine az (λi:Nat=>ag 22 [(1,.ptr 0 1 0 0),(3,.p (.int .i64 (yN l i))),(4,.p (.int .i64 i))]) (λ_=>[.row 1 [[.p (fdL l)]]]) (λi=>i<=l.length) (λi=>l.length-i) 0 (by simp) (ab (by simp) (by simp[okO]) (by simp[below,yN,mG])) ?_
 intro i hi
 simp-implicitDefEqProofs[hfl]
 refine bj (λh=>?_) (λh=>?_)
 ·simp at h
  have hg:=Ub h
  have hks:=cK (Uo h)
  have hse:l[i].sz=1+l[i].name.length+(l[i].params.length+(l[i].params.map List.length).sum)+aK l[i].body:=rfl
  have hce:l[i].cs=[.str l[i].name,aD l[i].params,smL l[i].body]:=rfl
  have k1:=HU h
  have k2:=Nd l (i+1)
  simp-implicitDefEqProofs[hg,hce]
  refine(Ir G _ l[i].body (Uf _) (by omega)).use ?_
  have w1':IntKind.i64.wrap ((yN l i:Int)+(dJ l[i].body:Int))=(yN l (i+1):Int):=by rw[af (by omega) (by omega)];omega
  simp-implicitDefEqProofs[w1']
  exact⟨i+1,h,by omega,ab (by simp) (by simp[okO]) (by simp[below,w1 (i:=i) (by omega),hfl])⟩
 ·simp at h
  have:yN l i=mG l:=by rw[yN,Uq h]
  simp-implicitDefEqProofs[this]
theorem yM(l:List Fd)(hl:be l<=1099511627776):VF Tryz.prog G eY [.agg [.p (fdL l)]] (.p (.bool (cy l))):=by
 refine AC.go pP ?_
 have hfl:∀l,fdL l= .lst 3 (l.map Fd.cs):=λ_=>rfl
 have hall:=MZ G l hl
 have hll:=eh l
 rw[hfl] at hall
 simp-implicitDefEqProofs[jz,hfl]
 refine(og G _ _ _).use ?_
 by_cases h1:inR l.length 1 4=true
 case neg=>simp-implicitDefEqProofs[h1,cy]
 simp-implicitDefEqProofs[h1]
 refine az (λi:Nat=>ag 26 [(1,.ptr 0 1 0 0),(3,.p (.int .i64 i))]) (λ_=>[.row 1 [[.p (.lst 3 (l.map Fd.cs))]]]) (λi=>i<=l.length/\(l.take i).all ka=true) (λi=>l.length-i) 0 (by simp) (ab (by simp) (by simp[okO]) (by simp[below])) ?_
 intro i ⟨hi,ha⟩
 simp-implicitDefEqProofs[]
 refine bj (λh=>?_) (λh=>?_)
 ·simp at h
  have hg:=Ub h
  have hks:=cK (Uo h)
  simp-implicitDefEqProofs[hg]
  refine(PS G l[i] (by omega)).use ?_
  by_cases hk:ka l[i]=true
  ·simp-implicitDefEqProofs[hk]
   exact⟨i+1,⟨h,by rw[←Ui,dP h,ha,hk];rfl⟩,by omega,ab (by simp) (by simp[okO]) (by simp[below,w1 (i:=i) (by omega)])⟩
  ·have hk':ka l[i]=false:=by simpa using hk
   have hff:cy l=false:=by simp only[cy,nj h hk',Bool.and_false,Bool.false_and]
   simp-implicitDefEqProofs[hk',hff]
 ·simp at h
  have h2:l.all ka=true:=gm h ha
  simp-implicitDefEqProofs[]
  refine hall.use ?_
  have hff:cy l=decide (mG l<=40):=by simp only[cy,h1,h2,Bool.true_and]
  simp-implicitDefEqProofs[hff]
  omega
end
section
variable (G:aq)
theorem bA{left z:Nat}(h:¬z<=left):bH left z= -1:=if_neg h
theorem dT{left z:Nat}(h:z<=left):bH left z=((left-z:Nat):Int):=if_pos h
theorem Ml:∀(N:Nat) (e:Ex),e.sz<=N->e.fit->∀left:Nat,left<=1048576->VF Tryz.prog G iK [.agg (e.cs.map .p),.p (.int .i64 left)] (.p (.int .i64 (bH left (e.sz-1)))):=by
 intro N
 induction N with
 |zero=>intro e he;have:=e.sz_pos;omega
 |succ N ih=>
  intro e he hf left hl
  have hec:=e.cs_eq
  have hsz:=e.sz_eq
  rw[e.fit_eq] at hf
  obtain⟨f1,f2,f3⟩:=hf
  refine AC.go An ?_
  have hw:IntKind.i64.wrap ((left:Int)-e.name.length)=(left:Int)-e.name.length:=af (by simp only[BL] at f1;omega) (by omega)
  by_cases h1:e.name.length<=left
  case neg=>
   have h2:(left:Int)-e.name.length<0:=by omega
   rw[bA (by omega)]
   simp-implicitDefEqProofs[lX,hec,hw,h2]
  have h2:¬(left:Int)-e.name.length<0:=by omega
  have e2:(left:Int)-e.name.length=((left-e.name.length:Nat):Int):=by omega
  have hS:=Bt G e.kids (left-e.name.length) (by omega) f2 (λx hx l hl=>ih x (by have:=aS hx;omega) (si f3 hx) l hl)
  rw[e2] at h2
  replace hw:=hw.trans e2
  simp-implicitDefEqProofs[lX,hec,hw,h2]
  refine hS.use ?_
  by_cases h3:dm e.kids<=left-e.name.length
  ·have n3:¬((left-e.name.length-dm e.kids:Nat):Int)<0:=by omega
   rw[dT h3,dT (by omega)]
   simp-implicitDefEqProofs[n3]
   omega
  ·rw[bA h3,bA (by omega)]
   simp-implicitDefEqProofs[]
theorem Jn(l:List Ex)(hf:mO l)(hb:l.length<=BL)(left:Nat)(hl:left<=1048576):VF Tryz.prog G ee [.p (exL l),.p (.int .i64 left)] (.p (.int .i64 (bH left (dm l)))):=
 Bt G l left hl hb (λe he l hl=>Ml G e.sz e (Uf _) (si hf he) l hl)
theorem Ke:∀(N:Nat) (s:Sm),s.sz<=N->s.fit->∀left:Nat,left<=1048576->VF Tryz.prog G iB [.agg (s.cs.map .p),.p (.int .i64 left)] (.p (.int .i64 (bH left (s.sz-1)))):=by
 intro N
 induction N with
 |zero=>intro e he;have:=e.sz_pos;omega
 |succ N ih=>
  intro e he hf left hl
  have hec:=e.cs_eq
  have hsz:=e.sz_eq
  rw[e.fit_eq] at hf
  obtain⟨f1,⟨f2,f3⟩,⟨f4,f5⟩,f6,f7⟩:=hf
  have sub:∀l:List Sm,aK l<=N->kg l->l.length<=BL->∀left:Nat,left<=1048576->VF Tryz.prog G cu [.p (smL l),.p (.int .i64 left)] (.p (.int .i64 (bH left (aK l)))):=λl hz hf hb left hl=>
   BN G l left hl hb (λx hx l hl=>ih x (by have:=aQ hx;omega) (rO hf hx) l hl)
  refine AC.go Ao ?_
  have hw:IntKind.i64.wrap ((left:Int)-e.name.length)=(left:Int)-e.name.length:=af (by simp only[BL] at f1;omega) (by omega)
  by_cases h1:e.name.length<=left
  case neg=>
   have h2:(left:Int)-e.name.length<0:=by omega
   rw[bA (by omega)]
   simp-implicitDefEqProofs[ma,hec,hw,h2]
  have h2:¬(left:Int)-e.name.length<0:=by omega
  have e2:(left:Int)-e.name.length=((left-e.name.length:Nat):Int):=by omega
  rw[e2] at h2
  replace hw:=hw.trans e2
  simp-implicitDefEqProofs[ma,hec,hw,h2]
  refine(Jn G e.args f3 f2 (left-e.name.length) (by omega)).use ?_
  by_cases h3:dm e.args<=left-e.name.length
  case neg=>
   rw[bA h3,bA (by omega)]
   simp-implicitDefEqProofs[]
  have n3:¬((left-e.name.length-dm e.args:Nat):Int)<0:=by omega
  rw[dT h3]
  simp-implicitDefEqProofs[n3]
  refine(sub e.body (by omega) f5 f4 (left-e.name.length-dm e.args) (by omega)).use ?_
  by_cases h4:aK e.body<=left-e.name.length-dm e.args
  case neg=>
   rw[bA h4,bA (by omega)]
   simp-implicitDefEqProofs[]
  have n4:¬((left-e.name.length-dm e.args-aK e.body:Nat):Int)<0:=by omega
  rw[dT h4]
  simp-implicitDefEqProofs[n4]
  refine(sub e.els (by omega) f7 f6 (left-e.name.length-dm e.args-aK e.body) (by omega)).use ?_
  by_cases h5:aK e.els<=left-e.name.length-dm e.args-aK e.body
  case neg=>
   rw[bA h5,bA (by omega)]
   simp-implicitDefEqProofs[]
  have n5:¬((left-e.name.length-dm e.args-aK e.body-aK e.els:Nat):Int)<0:=by omega
  rw[dT h5,dT (by omega)]
  simp-implicitDefEqProofs[n5]
  omega
theorem IQ(l:List Sm)(hf:kg l)(hb:l.length<=BL)(left:Nat)(hl:left<=1048576):VF Tryz.prog G cu [.p (smL l),.p (.int .i64 left)] (.p (.int .i64 (bH left (aK l)))):=
 BN G l left hl hb (λe he l hl=>Ke G e.sz e (Uf _) (rO hf he) l hl)
def nD(xs:List (List UInt8))(i:Nat):Nat:=((xs.take i).map List.length).sum
theorem Ix{xs:List (List UInt8)}{i:Nat}(h:i<xs.length):nD xs (i+1)=nD xs i+xs[i].length:=by
 show((xs.take (i+1)).map List.length).sum=((xs.take i).map List.length).sum+xs[i].length
 rw[ah h,List.map_append,List.sum_append]
 rfl
theorem KP{xs:List (List UInt8)}{i:Nat}(h:xs.length<=i):nD xs i=(xs.map List.length).sum:=by rw[nD,Uq h]
theorem NZ{xs:List (List UInt8)}{i:Nat}:nD xs i<=(xs.map List.length).sum:=by
 conv=>rhs;rw[←UO i xs,List.map_append,List.sum_append]
 simp[nD]
def szW(xs:List (List UInt8)):Nat:=xs.length+(xs.map List.length).sum
theorem Dy(xs:List (List UInt8))(left:Nat)(hl:left<=1048576)(hb:xs.length<=9223372036854775807)(hs:∀x∈xs,x.length<=9223372036854775807):VF Tryz.prog G ib [.p (aD xs),.p (.int .i64 left)] (.p (.int .i64 (if szW xs<=left then((left-szW xs:Nat):Int) else-1))):=by
 refine AC.go ux ?_
 have hw:IntKind.i64.wrap ((left:Int)-xs.length)=(left:Int)-xs.length:=af (by omega) (by omega)
 have hsz:szW xs=xs.length+(xs.map List.length).sum:=rfl
 by_cases h:xs.length<=left
 case neg=>
  have h1:(left:Int)-xs.length<0:=by omega
  have h2:¬szW xs<=left:=by omega
  simp-implicitDefEqProofs[im,aD,hw,h1,h2]
 have h1:¬(left:Int)-xs.length<0:=by omega
 simp-implicitDefEqProofs[im,aD,hw,h1]
 refine az (λi:Nat=>ag 28 [(0,.p (aD xs)),(1,.p (.int .i64 ((left-xs.length-nD xs i:Nat):Int))),(5,.p (.int .i64 i))]) (λ_=>[]) (λi=>i<=xs.length/\xs.length+nD xs i<=left) (λi=>xs.length-i) 0 (by simp[nD];omega) ?_ ?_
 ·refine aG rfl ?_
  simp[below,aD,nD]
  omega
 ·intro i ⟨hi,hx⟩
  simp-implicitDefEqProofs[aD]
  refine bj (λh1=>?_) (λh1=>?_)
  ·simp at h1
   have hg:=Ub h1
   have hle:=hs _ (Uo h1)
   have hsu:=Ix h1
   have hsl:=NZ (xs:=xs) (i:=i+1)
   have hw2:IntKind.i64.wrap (((left-xs.length-nD xs i:Nat):Int)-(xs[i].length:Int))=((left-xs.length-nD xs i:Nat):Int)-(xs[i].length:Int):=af (by omega) (by omega)
   by_cases h2:xs.length+nD xs (i+1)<=left
   ·have h3:¬((left-xs.length-nD xs i:Nat):Int)-(xs[i].length:Int)<0:=by omega
    have h4:((left-xs.length-nD xs i:Nat):Int)-(xs[i].length:Int)=((left-xs.length-nD xs (i+1):Nat):Int):=by omega
    rw[h4] at h3
    replace hw2:=hw2.trans h4
    clear hle hsu hsl
    simp-implicitDefEqProofs[hg,hw2,h3]
    refine⟨i+1,⟨h1,h2⟩,by omega,aG rfl (by simp[below,aD,w1 (i:=i) (by omega)])⟩
   ·have h3:((left-xs.length-nD xs i:Nat):Int)-(xs[i].length:Int)<0:=by omega
    have h5:¬szW xs<=left:=by omega
    clear hle hsu hsl
    simp-implicitDefEqProofs[hg,hw2,h3,h5]
  ·simp at h1
   have hta:=KP (xs:=xs) h1
   have h5:szW xs<=left:=by omega
   have h6:((left-xs.length-nD xs i:Nat):Int)=((left-szW xs:Nat):Int):=by omega
   simp-implicitDefEqProofs[h5,h6]
theorem Qk(f:Fd)(hf:f.fit)(left:Nat)(hl:left<=1048576):VF Tryz.prog G lg [.agg (f.cs.map .p),.p (.int .i64 left)] (.p (.int .i64 (bH left (f.sz-1)))):=by
 obtain⟨f1,⟨f2,f3⟩,f4,f5⟩:=hf
 have hec:=f.cs_eq'
 have hsz:f.sz=1+f.name.length+szW f.params+aK f.body:=rfl
 refine AC.go DH ?_
 have hw:IntKind.i64.wrap ((left:Int)-f.name.length)=(left:Int)-f.name.length:=af (by simp only[BL] at f1;omega) (by omega)
 by_cases h1:f.name.length<=left
 case neg=>
  have h2:(left:Int)-f.name.length<0:=by omega
  rw[bA (by omega)]
  simp-implicitDefEqProofs[oc,hec,hw,h2]
 have h2:¬(left:Int)-f.name.length<0:=by omega
 have e2:(left:Int)-f.name.length=((left-f.name.length:Nat):Int):=by omega
 rw[e2] at h2
 replace hw:=hw.trans e2
 simp-implicitDefEqProofs[oc,hec,hw,h2]
 refine(Dy G f.params (left-f.name.length) (by omega) f2 f3).use ?_
 by_cases h3:szW f.params<=left-f.name.length
 case neg=>
  rw[if_neg h3,bA (by omega)]
  simp-implicitDefEqProofs[]
 have n3:¬((left-f.name.length-szW f.params:Nat):Int)<0:=by omega
 rw[if_pos h3]
 simp-implicitDefEqProofs[n3]
 refine(IQ G f.body f5 f4 (left-f.name.length-szW f.params) (by omega)).use ?_
 by_cases h4:aK f.body<=left-f.name.length-szW f.params
 case neg=>
  rw[bA h4,bA (by omega)]
  simp-implicitDefEqProofs[]
 have n4:¬((left-f.name.length-szW f.params-aK f.body:Nat):Int)<0:=by omega
 rw[dT h4,dT (by omega)]
 simp-implicitDefEqProofs[n4]
 omega
def Pm(l:List Fd):Prop:=l.length<=BL/\∀f∈l,f.fit
theorem Da(l:List Fd)(hf:Pm l)(left:Nat)(hl:left<=1048576):VF Tryz.prog G dk [.agg [.p (fdL l)],.p (.int .i64 left)] (.p (.int .i64 (bH left (be l)))):=by
 have hS:=NT G l left hl hf.1 (λf hm left hl=>Qk G f (hf.2 f hm) left hl)
 refine AC.go ui ?_
 simp-implicitDefEqProofs[mo]
 refine hS.use ?_
 by_cases h:be l<=left
 ·have n:¬((left-be l:Nat):Int)<0:=by omega
  rw[dT h]
  simp-implicitDefEqProofs[n]
 ·rw[bA h]
  simp-implicitDefEqProofs[]
theorem Mh:∀(N:Nat) (e:Ex),e.sz<=N->e.sz<=1048576->VF Tryz.prog G dQ [.agg (e.cs.map .p)] (.agg (e.cs.map .p)):=by
 intro N
 induction N with
 |zero=>intro e he;have:=e.sz_pos;omega
 |succ N ih=>
  intro e he hb
  have hec:=e.cs_eq
  have hsz:=e.sz_eq
  have hkl:=aX e.kids
  have hS:=BI G e.kids (by omega) (λx hx=>ih x (by have:=aS hx;omega) (by have:=aS hx;omega))
  refine AC.go rd ?_
  simp-implicitDefEqProofs[lZ,hec]
  refine hS.use ?_
  simp-implicitDefEqProofs[]
theorem If(l:List Ex)(hb:dm l<=1048576):VF Tryz.prog G bP [.p (exL l)] (.p (exL l)):=
 BI G l (by have:=aX l;omega) (λe he=>Mh G e.sz e (Uf _) (by have:=aS he;omega))
theorem Ks:∀(N:Nat) (e:Sm),e.sz<=N->e.sz<=1048576->VF Tryz.prog G dS [.agg (e.cs.map .p)] (.agg (e.cs.map .p)):=by
 intro N
 induction N with
 |zero=>intro e he;have:=e.sz_pos;omega
 |succ N ih=>
  intro e he hb
  have hec:=e.cs_eq
  have hsz:=e.sz_eq
  have h1:=bp e.body
  have h2:=bp e.els
  have hB:=ut G e.body (by omega) (λx hx=>ih x (by have:=aQ hx;omega) (by have:=aQ hx;omega))
  have hE:=ut G e.els (by omega) (λx hx=>ih x (by have:=aQ hx;omega) (by have:=aQ hx;omega))
  refine AC.go rm ?_
  simp-implicitDefEqProofs[lT,hec]
  refine(If G e.args (by omega)).use ?_
  simp-implicitDefEqProofs[]
  refine hB.use ?_
  simp-implicitDefEqProofs[]
  refine hE.use ?_
  simp-implicitDefEqProofs[]
theorem HI(l:List Sm)(hb:aK l<=1048576):VF Tryz.prog G bw [.p (smL l)] (.p (smL l)):=
 ut G l (by have:=bp l;omega) (λe he=>Ks G e.sz e (Uf _) (by have:=aQ he;omega))
def mD(l:List (List UInt8))(i:Nat):List (List UInt8):=l.take i++List.replicate (l.length-i) []
theorem Ig{l:List (List UInt8)}{i:Nat}(h:i<l.length):(mD l i).set i l[i]=mD l (i+1):=by
 have hl:(l.take i).length=i:=by simp;omega
 have e:l.length-i=(l.length-(i+1))+1:=by omega
 show(l.take i++List.replicate (l.length-i) []).set i l[i]=l.take (i+1)++List.replicate (l.length-(i+1)) []
 rw[List.set_append_right _ _ (by omega),hl,Nat.sub_self,e,List.replicate_succ,List.set_cons_zero,ah h,UK]
 rfl
theorem Ih{l:List (List UInt8)}{i:Nat}(h:i<l.length):(mD l i)[i]?=some []:=by
 have hl:(l.take i).length=i:=by simp;omega
 rw[mD,Um (by omega),hl,Nat.sub_self,List.getElem?_replicate,if_pos (by omega)]
theorem Jk{l:List (List UInt8)}{i:Nat}(h:i<=l.length):(mD l i).length=l.length:=by simp[mD];omega
theorem vl(l:List (List UInt8))(hb:l.length<=1048576):AC Tryz.prog G dp [.p (aD l)] [] λx h=>x= .ret (.sl 0 1 0 l.length)/\h=[fU l]:=by
 refine AC.go uN ?_
 have hbl:aD l= .lst 1 (l.map λn=>[.str n]):=rfl
 simp-implicitDefEqProofs[ml,hbl]
 refine⟨by omega,?_⟩
 refine az (λi:Nat=>ag 22 [(0,.p (aD l)),(3,.sl 0 1 0 l.length),(4,.p (.int .i64 i))]) (λi=>[fU (mD l i)]) (λi=>i<=l.length) (λi=>l.length-i) 0 (by simp) ?_ ?_
 ·refine eB [0] rfl (by simp) (bN (by simp[mD]) (by simp) dA) ?_
  simp[below,ren,aD]
 ·intro i hi
  have hlen:=Jk hi
  simp-implicitDefEqProofs[hbl]
  refine bj (λh1=>?_) (λh1=>?_)
  ·simp at h1
   have hg:=Ub h1
   have hg2:=Ih h1
   have hset:((mD l i).map λn=>[AV.p (.str n)]).set i [.p (.str l[i])]=(mD l (i+1)).map λn=>[AV.p (.str n)]:=by rw[←Ig h1,List.map_set]
   have hbo:fU (mD l i)= .row 1 ((mD l i).map λn=>[.p (.str n)]):=rfl
   clear hlen
   simp-implicitDefEqProofs[hg,hbo,hg2,h1,hset]
   refine⟨i+1,h1,by omega,eB [0] rfl (by simp) (bN rfl (by simp) dA) ?_⟩
   simp[below,ren,aD,w1 (i:=i) (by omega)]
  ·simp at h1
   have:i=l.length:=by omega
   subst this
   simp-implicitDefEqProofs[mD]
theorem DC(l:List (List UInt8))(hb:l.length<=1048576):VF Tryz.prog G dp [.p (aD l)] (.p (aD l)):=AC.freeze (vl G l hb) (.one (uO rfl) .nil)
theorem Ps(f:Fd)(hb:f.sz<=1048576):VF Tryz.prog G gd [.agg (f.cs.map .p)] (.agg (f.cs.map .p)):=by
 have hec:=f.cs_eq'
 have hsz:f.sz=1+f.name.length+szW f.params+aK f.body:=rfl
 have hw:szW f.params=f.params.length+(f.params.map List.length).sum:=rfl
 refine AC.go vp ?_
 simp-implicitDefEqProofs[oN,hec]
 refine(DC G f.params (by omega)).use ?_
 simp-implicitDefEqProofs[]
 refine(HI G f.body (by omega)).use ?_
 simp-implicitDefEqProofs[]
theorem EK(l:List Fd)(hb:be l<=1048576):VF Tryz.prog G bK [.agg [.p (fdL l)]] (.agg [.p (fdL l)]):=by
 have hS:=Oj G l (by have:=eh l;omega) (λf hm=>Ps G f (by have:=cK hm;omega))
 refine AC.go mr ?_
 simp-implicitDefEqProofs[io]
 refine hS.use ?_
 simp-implicitDefEqProofs[]
theorem Lh:∀(N:Nat) (e:Ex),e.sz<=N->e.sz<=1048576->VF Tryz.prog G iL [.agg (e.cs.map .p),.agg (e.cs.map .p)] (.p (.bool true)):=by
 intro N
 induction N with
 |zero=>intro e he;have:=e.sz_pos;omega
 |succ N ih=>
  intro e he hb
  have hec:=e.cs_eq
  have hsz:=e.sz_eq
  have hkl:=aX e.kids
  have hS:=BR G e.kids (by omega) (λx hx=>ih x (by have:=aS hx;omega) (by have:=aS hx;omega))
  refine AC.go AH ?_
  simp-implicitDefEqProofs[rq,hec]
  refine hS.use ?_
  simp-implicitDefEqProofs[]
theorem IY(l:List Ex)(hb:dm l<=1048576):VF Tryz.prog G ey [.p (exL l),.p (exL l)] (.p (.bool true)):=
 BR G l (by have:=aX l;omega) (λe he=>Lh G e.sz e (Uf _) (by have:=aS he;omega))
theorem JW:∀(N:Nat) (e:Sm),e.sz<=N->e.sz<=1048576->VF Tryz.prog G iG [.agg (e.cs.map .p),.agg (e.cs.map .p)] (.p (.bool true)):=by
 intro N
 induction N with
 |zero=>intro e he;have:=e.sz_pos;omega
 |succ N ih=>
  intro e he hb
  have hec:=e.cs_eq
  have hsz:=e.sz_eq
  have h1:=bp e.body
  have h2:=bp e.els
  have hB:=uF G e.body (by omega) (λx hx=>ih x (by have:=aQ hx;omega) (by have:=aQ hx;omega))
  have hE:=uF G e.els (by omega) (λx hx=>ih x (by have:=aQ hx;omega) (by have:=aQ hx;omega))
  refine AC.go AG ?_
  simp-implicitDefEqProofs[ra,hec]
  refine(IY G e.args (by omega)).use ?_
  simp-implicitDefEqProofs[]
  refine hB.use ?_
  simp-implicitDefEqProofs[]
  refine hE.use ?_
  simp-implicitDefEqProofs[]
theorem HN(l:List Sm)(hb:aK l<=1048576):VF Tryz.prog G dv [.p (smL l),.p (smL l)] (.p (.bool true)):=
 uF G l (by have:=bp l;omega) (λe he=>JW G e.sz e (Uf _) (by have:=aQ he;omega))
theorem EM(xs:List (List UInt8))(hb:xs.length<=1048576):VF Tryz.prog G ik [.p (aD xs),.p (aD xs)] (.p (.bool true)):=by
 refine AC.go uz ?_
 have hsl:aD xs= .lst 1 (xs.map λw=>[.str w]):=rfl
 simp-implicitDefEqProofs[mF,hsl]
 refine az (λi:Nat=>ag 26 [(0,.p (aD xs)),(1,.p (aD xs)),(5,.p (.int .i64 i))]) (λ_=>[]) (λi=>i<=xs.length) (λi=>xs.length-i) 0 (by simp) (aG rfl (by simp[below,hsl])) ?_
 intro i hi
 simp-implicitDefEqProofs[hsl]
 refine bj (λh1=>?_) (λh1=>?_)
 ·simp at h1
  have hx:=Ub h1
  generalize xs[i]=v at hx
  simp-implicitDefEqProofs[hx]
  exact⟨i+1,h1,by omega,aG rfl (by simp[below,hsl,w1 (i:=i) (by omega)])⟩
 ·simp at h1
  simp-implicitDefEqProofs[]
theorem PB(f:Fd)(hb:f.sz<=1048576):VF Tryz.prog G lr [.agg (f.cs.map .p),.agg (f.cs.map .p)] (.p (.bool true)):=by
 have hec:=f.cs_eq'
 have hsz:f.sz=1+f.name.length+szW f.params+aK f.body:=rfl
 have hw:szW f.params=f.params.length+(f.params.map List.length).sum:=rfl
 refine AC.go Do ?_
 simp-implicitDefEqProofs[vu,hec]
 refine(EM G f.params (by omega)).use ?_
 simp-implicitDefEqProofs[]
 refine(HN G f.body (by omega)).use ?_
 simp-implicitDefEqProofs[]
theorem EH(l:List Fd)(hb:be l<=1048576):VF Tryz.prog G iv [.agg [.p (fdL l)],.agg [.p (fdL l)]] (.p (.bool true)):=by
 have hS:=Ob G l (by have:=eh l;omega) (λf hm=>PB G f (by have:=cK hm;omega))
 refine AC.go tT ?_
 simp-implicitDefEqProofs[mj]
 refine hS.use ?_
 simp-implicitDefEqProofs[]
end
section
theorem Ex.ext'{a b:Ex}(h1:a.op=b.op)(h2:a.n=b.n)(h3:a.name=b.name)(h4:a.kids=b.kids):a=b:=by
 cases a;cases b;simp only[Ex.op,Ex.n,Ex.name,Ex.kids] at*;subst h1 h2 h3 h4;rfl
theorem Sm.ext'{a b:Sm}(h1:a.op=b.op)(h2:a.name=b.name)(h3:a.args=b.args)(h4:a.body=b.body)(h5:a.els=b.els):a=b:=by
 cases a;cases b;simp only[Sm.op,Sm.name,Sm.args,Sm.body,Sm.els] at*;subst h1 h2 h3 h4 h5;rfl
variable (G:aq)
end
section
def ixI:Option Nat->Int|none=> -1|some i=>i
def vaC(nf:Bool)(id n:Nat):AV:=if nf then .nils else .sl id 3 0 n
def lvC(v:LV):List AV:=[.p (.str v.name),.p (.int .i64 v.num),.p (.int .i64 v.block)]
def lvR(vs:List LV):List (List AV):=vs.reverse.map lvC
def roC(nf:Bool)(vs:List LV):AO:=if nf then .dead else .row 3 (lvR vs)
def wC(id:Nat)(nf:Bool)(fns:List Fd)(k:Nat)(w:WS):List AV:=[.p (fdL fns),.p (.int .i64 k),vaC nf id w.vs.length,.p (.int .i64 w.count),.p (.int .i64 w.code)]
def wO(id:Nat)(nf:Bool)(fns:List Fd)(k:Nat)(w:WS):AO:= .row 5 [wC id nf fns k w]
def HWk(nf:Bool)(fns:List Fd)(k:Nat)(w:WS):List AO:=[wO 1 nf fns k w,roC nf w.vs]
theorem yl(vs:List LV):(lvR vs).length=vs.length:=by simp[lvR]
theorem EA(vs:List LV):∀x∈lvR vs,aj 0 x:=by
 intro x hx;obtain⟨m,_,rfl⟩:=Uw.1 hx;simp[lvC,aj,below]
theorem ga(nf:Bool)(vs:List LV)(n:Nat):okO n (roC nf vs):=by
 cases nf
 ·exact iz (λe he=>EA vs e he)
 ·exact trivial
theorem Ik{nf:Bool}{id n m:Nat}(h:id<m):below m (vaC nf id n):=by cases nf<;>simp[vaC,below,h]
theorem Ad{id:Nat}{nf:Bool}{fns:List Fd}{k:Nat}{w:WS}{m:Nat}(h:id<m):aj m (wC id nf fns k w):=⟨by simp,by simp,Ik h,by simp,by simp,trivial⟩
theorem vh{id:Nat}{nf:Bool}{fns:List Fd}{k:Nat}{w:WS}{m:Nat}(h:id<m):okO m (wO id nf fns k w):=by
 intro e he;rw[Up.1 he];exact Ad h
theorem Nw(σ:List Nat)(nf:Bool)(id n:Nat):ren σ (vaC nf id n)=vaC nf (σ.getD id 0) n:=by cases nf<;>rfl
theorem CL(σ:List Nat)(id:Nat)(nf:Bool)(fns:List Fd)(k:Nat)(w:WS):bY σ (wC id nf fns k w)=wC (σ.getD id 0) nf fns k w:=by
 simp only[wC,bY,Nw];rfl
theorem GE(σ:List Nat)(id:Nat)(nf:Bool)(fns:List Fd)(k:Nat)(w:WS):ng σ (wO id nf fns k w)=wO (σ.getD id 0) nf fns k w:=by
 simp only[wO,ng,UA,List.map_nil,CL]
theorem Du(σ:List Nat)(nf:Bool)(vs:List LV):ng σ (roC nf vs)=roC nf vs:=by
 cases nf
 ·show AO.row 3 ((lvR vs).map (bY σ))= .row 3 (lvR vs)
  rw[UE (g:=id) λx hx=>jJ σ x (EA vs x hx)];simp
 ·rfl
theorem Fs(pre:List LV)(v:LV)(r:List LV):(lvR (pre++v::r))[r.length]?=some (lvC v):=by
 simp[lvR]
theorem Ku(v:LV)(r:List LV):lvR (v::r)=lvR r++[lvC v]:=by simp[lvR]
def uh:List LV->List UInt8->Int
 |[],_=> -1
 |v::r,s=>if v.name=s then r.length else uh r s
theorem uG:∀(vs:List LV) (s:List UInt8),(lkV vs s=none/\uh vs s= -1)\/∃pre v r,vs=pre++v::r/\lkV vs s=some v/\uh vs s=r.length
 |[],s=> .inl ⟨rfl,rfl⟩
 |v::r,s=>by
  by_cases h:v.name=s
  ·exact .inr ⟨[],v,r,rfl,by simp[lkV,h],by simp[uh,h]⟩
  ·have h1:lkV (v::r) s=lkV r s:=by simp[lkV,h]
   have h2:uh (v::r) s=uh r s:=by simp[uh,h]
   rw[h1,h2]
   rcases uG r s with h|⟨pre,u,q,e,h⟩
   ·exact .inl h
   ·exact .inr ⟨v::pre,u,q,by rw[e];rfl,h⟩
theorem tg:AK.whole gO=FK.ak gv:=rfl
variable (G:aq)
theorem EY(l:List Fd)(s:List UInt8)(hl:l.length<=1099511627776):VF Tryz.prog G iQ [.agg [.p (fdL l)],.p (.str s)] (.p (.int .i64 (ixI (bL l s)))):=by
 refine AC.go Ds ?_
 have hfl:∀l,fdL l= .lst 3 (l.map Fd.cs):=λ_=>rfl
 simp-implicitDefEqProofs[ve,hfl]
 refine az (λi:Nat=>ag 22 [(1,.p (.str s)),(2,.ptr 0 1 0 0),(5,.p (.int .i64 i))]) (λ_=>[.row 1 [[.p (.lst 3 (l.map Fd.cs))]]]) (λi=>i<=l.length/\∀f∈l.take i,f.name≠s) (λi=>l.length-i) 0 (by simp) (ab (by simp) (by simp[okO]) (by simp[below])) ?_
 intro i ⟨hi,hn⟩
 simp-implicitDefEqProofs[]
 refine bj (λh=>?_) (λh=>?_)
 ·simp at h
  have hg:=Ub h
  have hce:l[i].cs=[.str l[i].name,aD l[i].params,smL l[i].body]:=rfl
  by_cases he:l[i].name=s
  ·have hf:bL l s=some i:=by
    rw[bL,Us]
    exact⟨h,by simpa using he,λj hj=>by have:=hn l[j] (UZ.2 ⟨j,by omega,rfl⟩);simpa using this⟩
   simp-implicitDefEqProofs[hg,hce,he,hf,ixI]
  ·simp-implicitDefEqProofs[hg,hce,he]
   refine⟨i+1,⟨h,λp hp=>?_⟩,by omega,ab (by simp) (by simp[okO]) (by simp[below,w1 (i:=i) (by omega)])⟩
   rw[ah h] at hp
   rcases Un.1 hp with hp|hp
   ·exact hn p hp
   ·rw[Up.1 hp];exact he
 ·simp at h
  rw[Uq h] at hn
  have hf:bL l s=none:=by
   rw[bL,UH];intro x hx;simpa using hn x hx
  simp-implicitDefEqProofs[hf,ixI]
theorem PO:∀m:Nat,m<26->((([97,98,99,100,101,102,103,104,105,106,107,108,109,110,111,112,113,114,115,116,117,118,119,120,121,122]:List UInt8).take (m+1)).drop m)=[UInt8.ofNat (97+m)]:=by decide
theorem NY:∀m:Nat,m<26->List.drop m ((97:UInt8)::List.take m [98,99,100,101,102,103,104,105,106,107,108,109,110,111,112,113,114,115,116,117,118,119,120,121,122])=[97+UInt8.ofNat m]:=by decide
theorem zZ(n:Nat):VF Tryz.prog G iD [.p (.int .i64 n)] (.p (.str (vnm n))):=by
 refine AC.go Bb ?_
 have hm:n%26<26:=Nat.mod_lt _ (by omega)
 have ht:(n:Int).tmod 26=((n%26:Nat):Int):=rfl
 have hw:IntKind.i64.wrap (((n%26:Nat):Int)+1)=((n%26+1:Nat):Int):=w1 (by omega)
 have habc:=PO _ hm
 rw[vnm]
 generalize n%26=m at hm ht hw habc
 have h0:(0:Int)<=(m:Int)+1:=by omega
 have h1:m+1<=26:=by omega
 simp-implicitDefEqProofs[rn,ht,hw,h0,h1]
 exact⟨by omega,NY m hm⟩
theorem pr(nf:Bool)(fns:List Fd)(k:Nat)(w:WS)(c:Int):AC Tryz.prog G bm [.ptr 0 5 0 0,.p (.int .i64 c)] (HWk nf fns k w) λx h=>x= .ret (.tup [])/\h=HWk nf fns k ⟨w.vs,w.count,fl w.code c⟩:=by
 refine AC.go rV ?_
 by_cases h0:w.code=0
 ·simp-implicitDefEqProofs[fV,HWk,wO,wC,h0,fl]
 ·simp-implicitDefEqProofs[fV,HWk,wO,wC,h0,fl]
theorem yy(nf:Bool)(fns:List Fd)(k:Nat)(w:WS):∀o∈HWk nf fns k w,okO 2 o:=by
 intro o ho
 simp only[HWk,Uj,UF,or_false] at ho
 rcases ho with rfl|rfl
 ·exact vh (by omega)
 ·exact ga _ _ _
theorem GO(nf:Bool)(fns:List Fd)(k:Nat)(w:WS)(hn:nf=true->w.vs=[])(hl:w.vs.length<=1099511627776)(s:List UInt8):AC Tryz.prog G dI [.ptr 0 5 0 0,.p (.str s)] (HWk nf fns k w) λx h=>x= .ret (.p (.int .i64 (uh w.vs s)))/\h=HWk nf fns k w:=by
 refine AC.go sj ?_
 have hok:=yy nf fns k w
 cases nf with
 |true=>
  have hv:=hn rfl
  rw[HWk] at hok⊢
  simp-implicitDefEqProofs[fY,wO,wC,vaC,hv]
  refine az (λ_:Unit=>ag 27 [(0,.ptr 0 5 0 0),(1,.p (.str s)),(5,.p (.int .i64 (-1)))]) (λ_=>[wO 1 true fns k w,roC true w.vs]) (λ_=>True) (λ_=>0) () trivial ?_ ?_
  ·have e:wO 1 true fns k w= .row 5 [[.p (fdL fns),.p (.int .i64 k),.nils,.p (.int .i64 w.count),.p (.int .i64 w.code)]]:=by simp[wO,wC,vaC]
   rw[←e,←hv]
   exact ab (by simp) hok (by simp[below,af (x:= -1) (by omega) (by omega)])
  ·intro _ _
   simp-implicitDefEqProofs[uh]
   simp[wO,wC,vaC,hv]
 |false=>
  rw[HWk] at hok⊢
  have e:∀r,roC false r= .row 3 (lvR r):=λ_=>rfl
  have hw0:IntKind.i64.wrap ((w.vs.length:Int)-1)=(w.vs.length:Int)-1:=af (by omega) (by omega)
  simp-implicitDefEqProofs[fY,wO,wC,vaC,hw0]
  refine az (λr:List LV=>ag 27 [(0,.ptr 0 5 0 0),(1,.p (.str s)),(5,.p (.int .i64 ((r.length:Int)-1)))]) (λ_=>[wO 1 false fns k w,roC false w.vs]) (λr=>∃pre,w.vs=pre++r/\uh w.vs s=uh r s) (λr=>r.length) w.vs ⟨[],rfl,rfl⟩ ?_ ?_
  ·exact ab (h:=[wO 1 false fns k w,roC false w.vs]) (by simp) hok (by simp[below])
  ·rintro r ⟨pre,e1,e2⟩
   cases r with
   |nil=>
    simp-implicitDefEqProofs[wO,wC,vaC]
    rw[e2];rfl
   |cons v r=>
    have hat:=Fs pre v r
    rw[←e1] at hat
    have hlen:r.length<w.vs.length:=by rw[e1];simp;omega
    have hll:=yl w.vs
    have c1:((r.length+1:Nat):Int)-1=(r.length:Int):=by omega
    have hw1:IntKind.i64.wrap ((r.length:Int)-1)=(r.length:Int)-1:=af (by omega) (by omega)
    by_cases hs:v.name=s
    ·simp-implicitDefEqProofs[wO,wC,vaC,e,c1,hat,hlen,lvC,hs]
     rw[e2];simp[uh,hs]
    ·simp-implicitDefEqProofs[wO,wC,vaC,e,c1,hat,hlen,lvC,hs]
     refine⟨r,⟨⟨pre++[v],by rw[e1];simp⟩,by rw[e2];simp[uh,hs]⟩,by simp,?_⟩
     refine ab (h:=[wO 1 false fns k w,roC false w.vs]) (by simp) hok ?_
     simp[below,hw1]
theorem Lv(nf:Bool)(fns:List Fd)(k:Nat)(w:WS)(hn:nf=true->w.vs=[])(hl:w.vs.length<=1099511627776)(s:List UInt8):AC Tryz.prog G dZ [.ptr 0 5 0 0,.p (.str s)] (HWk nf fns k w) λx h=>x= .ret (.p (.str (zS w.vs s)))/\h=HWk nf fns k ⟨w.vs,w.count,nN w.vs s w.code⟩:=by
 refine AC.go tx ?_
 simp-implicitDefEqProofs[lN]
 refine(GO G nf fns k w hn hl s).mono ?_
 rintro r h ⟨rfl,rfl⟩
 rcases uG w.vs s with⟨e1,e2⟩|⟨pre,v,q,e0,e1,e2⟩
 ·simp-implicitDefEqProofs[aa,e2]
  refine(pr G nf fns k w 3).mono ?_
  rintro r h ⟨rfl,rfl⟩
  simp-implicitDefEqProofs[aa,zS,nN,e1]
 ·have hat:=Fs pre v q
  rw[←e0] at hat
  have hlen:q.length<w.vs.length:=by rw[e0];simp;omega
  have hnf:nf=false:=by
   cases nf with
   |false=>rfl
   |true=>rw[hn rfl] at e0;simp at e0
  subst hnf
  have e:∀r,roC false r= .row 3 (lvR r):=λ_=>rfl
  have hq:¬(q.length:Int)<0:=by omega
  simp-implicitDefEqProofs[aa,e2,hq,HWk,wO,wC,vaC,e,hat,hlen,lvC]
  refine(zZ G v.num).use ?_
  simp-implicitDefEqProofs[zS,nN,e1]
theorem LQ(nf:Bool)(fns:List Fd)(k:Nat)(w:WS)(hn:nf=true->w.vs=[])(hl:w.vs.length<=1099511627776)(hc:w.count<=1099511627776)(s:List UInt8)(b:Nat):AC Tryz.prog G dY [.ptr 0 5 0 0,.p (.str s),.p (.int .i64 b)] (HWk nf fns k w) λx h=>x= .ret (.p (.str (vnm w.count)))/\h=[wO 2 false fns k (gt w s b),.dead,roC false (gt w s b).vs]:=by
 refine AC.goK sL tg ?_
 have hw1:IntKind.i64.wrap ((w.count:Int)+1)=(w.count:Int)+1:=af (by omega) (by omega)
 have hw2:IntKind.i64.wrap ((w.count:Int)+1-1)=(w.count:Int):=by rw[af (by omega) (by omega)];omega
 have hw3:IntKind.i64.wrap (w.count:Int)=(w.count:Int):=af (by omega) (by omega)
 have hll:=yl w.vs
 simp-implicitDefEqProofs[gO,gv]
 refine(GO G nf fns k w hn hl s).mono ?_
 rintro r h ⟨rfl,rfl⟩
 simp-implicitDefEqProofs[aa]
 refine pT (ag 57 [(0,.ptr 0 5 0 0),(1,.p (.str s)),(2,.p (.int .i64 b))]) (HWk nf fns k ⟨w.vs,w.count,pF w.vs s b w.code⟩) ?_ ?_
 ·rcases uG w.vs s with⟨e1,e2⟩|⟨pre,v,q,e0,e1,e2⟩
  ·simp-implicitDefEqProofs[e2,pF,e1]
   exact ab (by simp[HWk]) (yy nf fns k w) (by simp[below,HWk])
  ·have hat:=Fs pre v q
   rw[←e0] at hat
   have hlen:q.length<w.vs.length:=by rw[e0];simp;omega
   have hnf:nf=false:=by
    cases nf with
    |false=>rfl
    |true=>rw[hn rfl] at e0;simp at e0
   subst hnf
   have e:∀r,roC false r= .row 3 (lvR r):=λ_=>rfl
   have hq:(0:Int)<=(q.length:Int):=by omega
   by_cases hb:v.block=b
   ·have:=pr G false fns k w 2
    simp only[HWk,wO,wC,vaC,e] at this
    simp-implicitDefEqProofs[e2,HWk,wO,wC,vaC,e,hat,hlen,lvC,hb]
    refine this.mono ?_
    rintro r h ⟨rfl,rfl⟩
    have hp:pF w.vs s b w.code=fl w.code 2:=by simp[pF,e1,hb]
    rw[hp]
    simp-implicitDefEqProofs[aa]
    refine ab (h:=HWk false fns k ⟨w.vs,w.count,fl w.code 2⟩) ?_ (yy _ _ _ _) ?_
    ·simp[HWk]
    ·simp[below,HWk]
   ·have hp:pF w.vs s b w.code=w.code:=by simp[pF,e1,hb]
    have hbi:¬(v.block:Int)=(b:Int):=by omega
    rw[hp]
    simp-implicitDefEqProofs[e2,HWk,wO,wC,vaC,e,hat,hlen,lvC,hbi]
    refine ab (h:=HWk false fns k w) ?_ (yy _ _ _ _) ?_
    ·simp[HWk]
    ·simp[below,HWk]
 ·cases nf with
  |true=>
   have hv:=hn rfl
   simp-implicitDefEqProofs[HWk,wO,wC,vaC,roC,hv,hw1,hw2,hw3]
   refine(zZ G w.count).use ?_
   simp-implicitDefEqProofs[gt,lvR,lvC,hv]
  |false=>
   have e:∀r,roC false r= .row 3 (lvR r):=λ_=>rfl
   simp-implicitDefEqProofs[HWk,wO,wC,vaC,e,hw1,hw2,hw3,hll]
   refine⟨by omega,?_⟩
   refine(zZ G w.count).use ?_
   simp-implicitDefEqProofs[gt,Ku,lvC]
   rw[Uq (by omega)]
end
end Go.Proofs.YtokiapglmedipaaGreatDoor
