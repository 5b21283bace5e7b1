/-
  Contracts and lemmas that the card needs, part 5.
-/
import Derived.Test.YtokiapglmedipaaGreatDoorFl4
import Derived.Laws.RangeAny
import Derived.Laws.RangeString
namespace Go.Proofs.YtokiapglmedipaaGreatDoor
open Go Go.Aw
set_option maxRecDepth 100000
set_option maxHeartbeats 4000000
section
theorem aq{α:Type}{xs:List α}{i:Nat}(h:i<xs.length):xs.take (i+1)=xs.take i++[xs[i]]:=by
 rw[List.take_add_one,UC h];rfl
def tz(l:List Int):PV:= .lst 1 (l.map λn=>[.int .u8 n])
def bp(l:List Int):PV:= .lst 1 (l.map λn=>[.int .i64 n])
def Tq(l:List Int):List (List AV):=l.map λn=>[.p (.int .i64 n)]
def gq(l:List Int):AO:= .row 1 (l.map λn=>[.p (.int .i64 n)])
def aw(l:List (List UInt8)):PV:= .lst 1 (l.map λw=>[.str w])
def TL(l:List (List UInt8)):List (List AV):=l.map λw=>[.p (.str w)]
def cG(l:List (List UInt8)):AO:= .row 1 (l.map λn=>[.p (.str n)])
theorem Bw(l:List Int):∀x∈Tq l,af 0 x:=by
 intro x hx;obtain⟨m,_,rfl⟩:=UX.1 hx;simp[af,below]
theorem pB(l:List (List UInt8)):∀x∈TL l,af 0 x:=by
 intro x hx;obtain⟨m,_,rfl⟩:=UX.1 hx;simp[af,below]
theorem iF{l:List Int}{id:Nat}{h:List AO}(e:h[id]?=some (gq l)):View h (.sl id 1 0 l.length) (bp l):=by
 have:=jj (h:=h) (id:=id) (sz:=1) (n:=l.length) (ls:=l.map λn=>[.int .i64 n]) (by rw[e,gq];simp) (by simp) (λx hx=>by obtain⟨b,_,rfl⟩:=UX.1 hx;rfl)
 exact this
theorem gn{l:List (List UInt8)}{id:Nat}{h:List AO}(e:h[id]?=some (cG l)):View h (.sl id 1 0 l.length) (aw l):=by
 have:=jj (h:=h) (id:=id) (sz:=1) (n:=l.length) (ls:=l.map λn=>[.str n]) (by rw[e,cG];simp) (by simp) (λx hx=>by obtain⟨b,_,rfl⟩:=UX.1 hx;rfl)
 exact this
end
section
def dF(c:UInt8):Bool:=decide (97<=c.toNat)&&decide (c.toNat<=122)
def keyW:List (List UInt8):=[[102,110],[108,101,116],[115,97,121],[112,117,116],[105,102],[101,108,115,101],[108,111,111,112],[98,97,99,107],[100,111]]
def aG(s:List UInt8):Bool:=s.all dF&&decide (0<s.length)&&decide (s.length<=4)&& !keyW.contains s
def zO:List UInt8:=[40,41,123,125,59,44,43,45,42,47,37,60,61,38,33,64]
def uh(s:List UInt8)(c:Int):Int:=match s.findIdx? (λx=>(x.toNat:Int)==c) with|some i=>i|none=> -1
def EC(c:Int):Int:=if 97<=c/\c<=122 then 1 else if 48<=c/\c<=57 then 2 else if 0<=uh zO c then 3 else if c=32\/c=10 then 4 else 0
theorem NT(x:UInt8):(EC (x.toNat:Int)=1)↔dF x=true:=by
 have h:(97<=(x.toNat:Int)/\(x.toNat:Int)<=122)↔dF x=true:=by simp[dF];omega
 unfold EC
 constructor
 ·intro e
  split at e
  ·rename_i h1;exact h.1 h1
  ·repeat' split at e
   all_goals omega
 ·intro e;rw[if_pos (h.2 e)]
def Cf(s:List UInt8):Int:=match s.findIdx? (λx=> !dF x) with|some i=>i|none=> -1
theorem Mb(s:List UInt8):decide (Cf s<0)=s.all dF:=by
 unfold Cf
 cases h:s.findIdx? (λx=> !dF x) with
 |none=>
  rw[Vi] at h
  have:s.all dF=true:=UI.2 λx hx=>by have:=h x hx;simpa using this
  simp[this]
 |some i=>
  rw[UU] at h
  obtain⟨h1,h2,_⟩:=h
  have:s.all dF=false:=List.all_eq_false.2 ⟨_,US h1,by simpa using h2⟩
  rw[this];simp
def idxS(l:List (List UInt8))(s:List UInt8):Int:=match l.findIdx? (λw=>w==s) with|some i=>i|none=> -1
theorem KP(l:List (List UInt8))(s:List UInt8):decide (0<=idxS l s)=l.contains s:=by
 unfold idxS
 cases h:l.findIdx? (λw=>w==s) with
 |none=>
  rw[Vi] at h
  have:l.contains s=false:=by
   cases hc:l.contains s with
   |false=>rfl
   |true=>
    have hm:s∈l:=by simpa using hc
    have:=h s hm
    simp at this
  rw[this];simp
 |some i=>
  rw[UU] at h
  obtain⟨h1,h2,_⟩:=h
  have:l.contains s=true:=by
   simp only[beq_iff_eq] at h2
   rw[List.contains_iff_mem,←h2];exact US h1
  rw[this];simp
variable (G:al)
theorem uE(s:List UInt8)(c:Int)(hb:s.length<=1048576):VF Tryz.prog G kC [.p (.str s),.p (.int .u8 c)] (.p (.int .i64 (uh s c))):=by
 refine AC.go yY ?_
 simp-implicitDefEqProofs[oV]
 refine aL (λi:Nat=>ah 18 [(0,.p (.str s)),(1,.p (.int .u8 c)),(5,.p (.int .i64 i))]) (λ_=>[]) (λi=>i<=s.length/\∀x∈s.take i,(x.toNat:Int)≠c) (λi=>s.length-i) 0 (by simp) ?_ ?_
 ·exact bF rfl (by simp[below])
 ·intro i ⟨hi,hn⟩
  simp-implicitDefEqProofs[]
  refine bc (λh1=>?_) (λh1=>?_)
  ·simp at h1
   have hg:=UC h1
   by_cases he:(s[i].toNat:Int)=c
   ·have hf:uh s c=i:=by
     have:s.findIdx? (λx=>(x.toNat:Int)==c)=some i:=by
      rw[UU]
      exact⟨h1,by simpa using he,λj hj=>by have:=hn s[j] (VJ.2 ⟨j,by omega,rfl⟩);simpa using this⟩
     rw[uh,this]
    simp-implicitDefEqProofs[hg,he,hf]
   ·simp-implicitDefEqProofs[hg,he]
    refine⟨i+1,⟨h1,λp hp=>?_⟩,by omega,bF rfl ?_⟩
    ·rw[aq h1] at hp
     rcases UJ.1 hp with hp|hp
     ·exact hn p hp
     ·rw[UL.1 hp];exact he
    ·simp[below,w1 (i:=i) (by omega)]
  ·simp at h1
   rw[UG h1] at hn
   have hf:uh s c= -1:=by
    have:s.findIdx? (λx=>(x.toNat:Int)==c)=none:=by
     rw[Vi];intro x hx;simpa using hn x hx
    rw[uh,this]
   simp-implicitDefEqProofs[hf]
theorem HL(c:Int):VF Tryz.prog G kX [.p (.int .u8 c)] (.p (.int .i64 (EC c))):=by
 refine AC.go zY ?_
 simp-implicitDefEqProofs[oy]
 unfold EC
 by_cases h1:97<=c
 ·by_cases h2:c<=122
  ·simp-implicitDefEqProofs[h1,h2]
  ·have h3:¬c<=57:=by omega
   have h4:¬c=32:=by omega
   have h5:¬c=10:=by omega
   have h6:48<=c:=by omega
   simp-implicitDefEqProofs[h1,h2,h3,h6]
   refine(uE G zO c (by decide)).use ?_
   generalize uh zO c=w
   by_cases hf:0<=w
   ·simp-implicitDefEqProofs[hf]
   ·simp-implicitDefEqProofs[hf,h4,h5]
 ·simp-implicitDefEqProofs[h1]
  by_cases h2:48<=c
  ·by_cases h3:c<=57
   ·simp-implicitDefEqProofs[h2,h3]
   ·have h4:¬c=32:=by omega
    have h5:¬c=10:=by omega
    simp-implicitDefEqProofs[h2,h3]
    refine(uE G zO c (by decide)).use ?_
    generalize uh zO c=w
    by_cases hf:0<=w
    ·simp-implicitDefEqProofs[hf]
    ·simp-implicitDefEqProofs[hf,h4,h5]
  ·simp-implicitDefEqProofs[h2]
   refine(uE G zO c (by decide)).use ?_
   generalize uh zO c=w
   by_cases hf:0<=w
   ·simp-implicitDefEqProofs[hf]
   ·by_cases h4:c=32
    ·simp-implicitDefEqProofs[hf,h4]
    ·by_cases h5:c=10
     ·simp-implicitDefEqProofs[hf,h4,h5]
     ·simp-implicitDefEqProofs[hf,h4,h5]
theorem Nn(s:List UInt8)(hb:s.length<=140737488355328):VF Tryz.prog G nD [.p (.str s),.p (.int .i64 1)] (.p (.bool (s.all dF&&decide (0<s.length)))):=by
 refine AC.go Cy ?_
 simp-implicitDefEqProofs[um]
 refine aL (λi:Nat=>ah 21 [(0,.p (.str s)),(1,.p (.int .i64 1)),(5,.p (.int .i64 i))]) (λ_=>[]) (λi=>i<=s.length/\∀x∈s.take i,dF x=true) (λi=>s.length-i) 0 (by simp) ?_ ?_
 ·exact bF rfl (by simp[below])
 ·intro i ⟨hi,hn⟩
  simp-implicitDefEqProofs[]
  refine bc (λh1=>?_) (λh1=>?_)
  ·simp at h1
   have hg:=UC h1
   simp-implicitDefEqProofs[hg]
   refine(HL G _).use ?_
   have hcl:=NT s[i]
   by_cases he:dF s[i]=true
   ·have hc:=hcl.2 he
    simp-implicitDefEqProofs[hc]
    refine⟨i+1,⟨h1,λp hp=>?_⟩,by omega,bF rfl ?_⟩
    ·rw[aq h1] at hp
     rcases UJ.1 hp with hp|hp
     ·exact hn p hp
     ·rw[UL.1 hp];exact he
    ·simp[below,w1 (i:=i) (by omega)]
   ·have hc:¬EC (s[i].toNat:Int)=1:=λe=>he (hcl.1 e)
    have ha:s.all dF=false:=List.all_eq_false.2 ⟨_,US h1,by simpa using he⟩
    simp-implicitDefEqProofs[hc,ha]
  ·simp at h1
   rw[UG h1] at hn
   have ha:s.all dF=true:=UI.2 hn
   simp-implicitDefEqProofs[ha]
theorem Fc:VF Tryz.prog G fL [] (.p (aw keyW)):=by
 have key:AC Tryz.prog G fL [] [] λx h=>x= .ret (.sl 0 1 0 9)/\h=[.row 1 (keyW.map λw=>[.p (.str w)])]:=by
  refine AC.go vR ?_
  simp-implicitDefEqProofs[nI,keyW]
 exact AC.freeze key (.one (jj (ls:=keyW.map λw=>[.str w]) (by simp) (by simp[keyW]) (by simp)) .nil)
theorem Oj(s:List UInt8):VF Tryz.prog G nj [.p (.str s)] (.p (.bool (keyW.contains s))):=by
 refine AC.go CC ?_
 have hsl:aw keyW= .lst 1 (keyW.map λw=>[.str w]):=rfl
 have hkl:keyW.length=9:=rfl
 simp-implicitDefEqProofs[tG]
 refine(Fc G).use ?_
 simp-implicitDefEqProofs[]
 refine aL (λi:Nat=>ah 18 [(0,.p (.str s)),(3,.p (aw keyW)),(4,.p (.int .i64 i))]) (λ_=>[]) (λi=>i<=keyW.length/\∀w∈keyW.take i,w≠s) (λi=>keyW.length-i) 0 (by simp) ?_ ?_
 ·exact bF rfl (by simp[below,aw])
 ·intro i ⟨hi,hn⟩
  generalize keyW=L at*
  simp-implicitDefEqProofs[hsl]
  refine bc (λh1=>?_) (λh1=>?_)
  ·simp at h1
   have hg:=UC h1
   by_cases he:L[i]=s
   ·have hm:s∈L:=by rw[←he];exact US h1
    simp-implicitDefEqProofs[hg,he,hm]
   ·simp-implicitDefEqProofs[hg,he]
    refine⟨i+1,⟨h1,λp hp=>?_⟩,by omega,bF rfl ?_⟩
    ·rw[aq h1] at hp
     rcases UJ.1 hp with hp|hp
     ·exact hn p hp
     ·rw[UL.1 hp];exact he
    ·simp[below,w1 (i:=i) (by omega)]
  ·simp at h1
   rw[UG h1] at hn
   have hm:¬s∈L:=λhm=>hn s hm rfl
   simp-implicitDefEqProofs[hm]
theorem tn(s:List UInt8)(hb:s.length<=140737488355328):VF Tryz.prog G cw [.p (.str s)] (.p (.bool (aG s))):=by
 refine AC.go AH ?_
 simp-implicitDefEqProofs[rp]
 refine(Nn G s hb).use ?_
 cases h1:(s.all dF&&decide (0<s.length)) with
 |false=>
  have hi:aG s=false:=by rw[aG,h1];rfl
  simp-implicitDefEqProofs[hi]
 |true=>
  by_cases h4:s.length<=4
  ·have h4i:(s.length:Int)<=4:=by omega
   have hi:aG s= !keyW.contains s:=by rw[aG,h1];simp[h4]
   simp-implicitDefEqProofs[h4i]
   refine(Oj G s).use ?_
   rw[hi]
   simp-implicitDefEqProofs[]
  ·have h4i:¬(s.length:Int)<=4:=by omega
   have hi:aG s=false:=by rw[aG,h1];simp[h4]
   simp-implicitDefEqProofs[h4i,hi]
end
section
inductive Ex where
 |mk (op n:Int) (name:List UInt8) (kids:List Ex)
inductive Sm where
 |mk (op:Int) (name:List UInt8) (args:List Ex) (body els:List Sm)
structure Fd where (name:List UInt8) (params:List (List UInt8)) (body:List Sm)
def Ex.op:Ex->Int| .mk o _ _ _=>o
def Ex.n:Ex->Int| .mk _ n _ _=>n
def Ex.name:Ex->List UInt8| .mk _ _ s _=>s
def Ex.kids:Ex->List Ex| .mk _ _ _ k=>k
def Sm.op:Sm->Int| .mk o _ _ _ _=>o
def Sm.name:Sm->List UInt8| .mk _ s _ _ _=>s
def Sm.args:Sm->List Ex| .mk _ _ a _ _=>a
def Sm.body:Sm->List Sm| .mk _ _ _ b _=>b
def Sm.els:Sm->List Sm| .mk _ _ _ _ e=>e
mutual
def Ex.cs:Ex->List PV
 | .mk o n s k=>[.int .i64 o,.int .i64 n,.str s,.lst 4 (Ks k)]
def Ks:List Ex->List (List PV)
 |[]=>[]
 |e::r=>e.cs::Ks r
end
mutual
def Sm.cs:Sm->List PV
 | .mk o s a b e=>[.int .i64 o,.str s,.lst 4 (Ks a),.lst 5 (JI b),.lst 5 (JI e)]
def JI:List Sm->List (List PV)
 |[]=>[]
 |s::r=>s.cs::JI r
end
theorem zx:∀l:List Ex,Ks l=l.map Ex.cs
 |[]=>rfl
 |e::r=>by rw[Ks,zx r];rfl
theorem zB:∀l:List Sm,JI l=l.map Sm.cs
 |[]=>rfl
 |e::r=>by rw[JI,zB r];rfl
def exL(l:List Ex):PV:= .lst 4 (l.map Ex.cs)
def smL(l:List Sm):PV:= .lst 5 (l.map Sm.cs)
theorem Ex.cs_eq(e:Ex):e.cs=[.int .i64 e.op,.int .i64 e.n,.str e.name,exL e.kids]:=by
 cases e;rw[Ex.cs,zx];rfl
theorem Sm.cs_eq(s:Sm):s.cs=[.int .i64 s.op,.str s.name,exL s.args,smL s.body,smL s.els]:=by
 cases s;rw[Sm.cs,zx,zB,zB];rfl
@[simp] theorem Ex.cs_len(e:Ex):e.cs.length=4:=by cases e;rfl
@[simp] theorem Ex.cs_take(e:Ex):List.take 4 (e.cs.map AV.p)=e.cs.map AV.p:=by cases e;rfl
@[simp] theorem Sm.cs_len(s:Sm):s.cs.length=5:=by cases s;rfl
@[simp] theorem Sm.cs_take(s:Sm):List.take 5 (s.cs.map AV.p)=s.cs.map AV.p:=by cases s;rfl
def Fd.cs(f:Fd):List PV:=[.str f.name,aw f.params,smL f.body]
@[simp] theorem Fd.cs_len(f:Fd):f.cs.length=3:=rfl
@[simp] theorem Fd.cs_take(f:Fd):List.take 3 (f.cs.map AV.p)=f.cs.map AV.p:=rfl
def fdL(l:List Fd):PV:= .lst 3 (l.map Fd.cs)
mutual
def Ex.sz:Ex->Nat
 | .mk _ _ s k=>1+s.length+bn k
def bn:List Ex->Nat
 |[]=>0
 |e::r=>e.sz+bn r
end
mutual
def Sm.sz:Sm->Nat
 | .mk _ s a b e=>1+s.length+bn a+aD b+aD e
def aD:List Sm->Nat
 |[]=>0
 |s::r=>s.sz+aD r
end
def Fd.sz(f:Fd):Nat:=1+f.name.length+(f.params.length+(f.params.map List.length).sum)+aD f.body
def aI(l:List Fd):Nat:=(l.map Fd.sz).sum
theorem Ex.sz_eq(e:Ex):e.sz=1+e.name.length+bn e.kids:=by cases e;rfl
theorem Sm.sz_eq(s:Sm):s.sz=1+s.name.length+bn s.args+aD s.body+aD s.els:=by cases s;rfl
theorem eE:∀a b:List Ex,bn (a++b)=bn a+bn b
 |[],b=>by simp[bn]
 |e::r,b=>by simp only[Vn,bn,eE r b];omega
theorem bv:∀a b:List Sm,aD (a++b)=aD a+aD b
 |[],b=>by simp[aD]
 |e::r,b=>by simp only[Vn,aD,bv r b];omega
theorem bN:∀{l:List Ex} {e:Ex},e∈l->e.sz<=bn l
 |x::r,e,h=>by
  simp only[bn]
  rcases UK.1 h with rfl|h
  ·omega
  ·have:=bN h;omega
theorem dP:∀{l:List Sm} {e:Sm},e∈l->e.sz<=aD l
 |x::r,e,h=>by
  simp only[aD]
  rcases UK.1 h with rfl|h
  ·omega
  ·have:=dP h;omega
theorem bB:∀l:List Ex,l.length<=bn l
 |[]=>UM _
 |e::r=>by have:=bB r;have:=e.sz_eq;simp only[bn,UW];omega
theorem cn:∀l:List Sm,l.length<=aD l
 |[]=>UM _
 |e::r=>by have:=cn r;have:=e.sz_eq;simp only[aD,UW];omega
mutual
def Ex.parts:Ex->Nat
 | .mk _ _ _ k=>1+gr k
def gr:List Ex->Nat
 |[]=>0
 |e::r=>e.parts+gr r
end
theorem Ex.parts_eq(e:Ex):e.parts=1+gr e.kids:=by cases e;rfl
theorem jq:∀a b:List Ex,gr (a++b)=gr a+gr b
 |[],b=>by simp[gr]
 |e::r,b=>by simp only[Vn,gr,jq r b];omega
mutual
theorem Ex.parts_le:∀e:Ex,e.parts<=e.sz
 | .mk _ _ s k=>by have:=Cr k;simp only[Ex.parts,Ex.sz];omega
theorem Cr:∀l:List Ex,gr l<=bn l
 |[]=>UM _
 |e::r=>by have:=e.parts_le;have:=Cr r;simp only[gr,bn];omega
end
mutual
def Sm.cnt:Sm->Nat
 | .mk _ _ _ b e=>1+dO b+dO e
def dO:List Sm->Nat
 |[]=>0
 |s::r=>s.cnt+dO r
end
theorem Sm.cnt_eq(s:Sm):s.cnt=1+dO s.body+dO s.els:=by cases s;rfl
theorem oq:∀a b:List Sm,dO (a++b)=dO a+dO b
 |[],b=>by simp[dO]
 |e::r,b=>by simp only[Vn,dO,oq r b];omega
mutual
theorem Sm.cnt_le:∀s:Sm,s.cnt<=s.sz
 | .mk _ s a b e=>by have:=pr b;have:=pr e;simp only[Sm.cnt,Sm.sz];omega
theorem pr:∀l:List Sm,dO l<=aD l
 |[]=>UM _
 |e::r=>by have:=e.cnt_le;have:=pr r;simp only[dO,aD];omega
end
def inR(n lo hi:Int):Bool:=decide (lo<=n)&&decide (n<=hi)
def loK(op:Int):Nat:=if op=1\/op=2 then 0 else if op=11\/op=12 then 1 else if op=13 then 0 else 2
def hiK(op:Int):Nat:=if op=1\/op=2 then 0 else if op=11\/op=12 then 1 else if op=13 then 3 else 2
def FA(op:Int):Bool:=decide (op=2)||decide (op=13)
def mK(e:Ex):Bool:=inR e.op 1 13&&inR e.kids.length (loK e.op) (hiK e.op)&&(FA e.op==aG e.name)&&(FA e.op||decide (e.name=[]))&&inR e.n 0 255&&(decide (e.op=1)||decide (e.n=0))
def cm:Nat->Ex->Bool
 |0,_=>false
 |d+1,e=>mK e&&e.kids.all (cm d)
def lZ(e:Ex):Bool:=cm 6 e&&decide (e.parts<=30)
def gz(op:Int):Nat:=if op=4 then 2 else 1
def cI(op:Int):Bool:=decide (op=1)||decide (op=2)
def jn(s:Sm):Bool:=inR s.op 1 8&&decide (s.args.length=gz s.op)&&(cI s.op==aG s.name)&&(cI s.op||decide (s.name=[]))&&s.args.all lZ&&
 (!decide (s.op=8)||(match s.args with|a::_=>decide (a.op=13)|[]=>false))&&(s.els.isEmpty||decide (s.op=5))&&(s.body.isEmpty||decide (s.op=5)||decide (s.op=6))
def az:Nat->Sm->Bool
 |0,_=>false
 |d+1,s=>jn s&&s.body.all (az d)&&s.els.all (az d)
def kb(f:Fd):Bool:=f.params.all aG&&aG f.name&&decide (f.params.length<=3)&&f.body.all (az 4)
def mV(l:List Fd):Nat:=(l.map λf=>dO f.body).sum
def bs(l:List Fd):Bool:=inR l.length 1 4&&l.all kb&&decide (mV l<=40)
end
section
theorem gd{s:Bool}{h:List AO}{vs:List AV}{q:PV}{I:List Nat}(H:OwnL s h vs [q] I):∃v,vs=[v]:=by
 have:=H.len
 match vs,this with
 |[v],_=>exact⟨v,rfl⟩
theorem Ob{s:Bool}{h:List AO}{vs:List AV}{q r:PV}{I:List Nat}(H:OwnL s h vs [q,r] I):∃a b,vs=[a,b]:=by
 have:=H.len
 match vs,this with
 |[a,b],_=>exact⟨a,b,rfl⟩
theorem HP{s:Bool}{h:List AO}{vs:List AV}{q r t:PV}{I:List Nat}(H:OwnL s h vs [q,r,t] I):∃a b c,vs=[a,b,c]:=by
 have:=H.len
 match vs,this with
 |[a,b,c],_=>exact⟨a,b,c,rfl⟩
theorem Gn{s:Bool}{h:List AO}{vs:List AV}{e:Ex}{I:List Nat}(H:OwnL s h vs e.cs I):∃K,vs=[.p (.int .i64 e.op),.p (.int .i64 e.n),.p (.str e.name),K]/\OwnL s h [K] [exL e.kids] I:=by
 rw[e.cs_eq] at H
 cases H with
 |p _ _ H=>
  cases H with
  |p _ _ H=>
   cases H with
   |p _ _ H=>
    obtain⟨v,rfl⟩:=gd H
    exact⟨v,rfl,H⟩
theorem Lp{s:Bool}{h:List AO}{o n:Int}{w:List UInt8}{k:List Ex}{K:AV}{I:List Nat}(H:OwnL s h [K] [exL k] I):OwnL s h [.p (.int .i64 o),.p (.int .i64 n),.p (.str w),K] (Ex.mk o n w k).cs I:=by
 rw[Ex.cs_eq]
 exact .p _ (λ_=>rfl) (.p _ (λ_=>rfl) (.p _ (λ_=>rfl) H))
theorem Qr{s:Bool}{h:List AO}{vs:List AV}{e:Sm}{I:List Nat}(H:OwnL s h vs e.cs I):∃A B E I1 I2 I3,vs=[.p (.int .i64 e.op),.p (.str e.name),A,B,E]/\I=I1++(I2++I3)/\OwnL s h [A] [exL e.args] I1/\OwnL s h [B] [smL e.body] I2/\OwnL s h [E] [smL e.els] I3:=by
 rw[e.cs_eq] at H
 cases H with
 |p _ _ H=>
  cases H with
  |p _ _ H=>
   obtain⟨A,B,E,rfl⟩:=HP H
   obtain⟨I1,I',rfl,h1,H⟩:=H.one
   obtain⟨I2,I3,rfl,h2,h3⟩:=H.one
   exact⟨A,B,E,I1,I2,I3,rfl,rfl,h1,h2,h3⟩
theorem PB{s:Bool}{h:List AO}{o:Int}{w:List UInt8}{a:List Ex}{b e:List Sm}{A B E:AV}{I1 I2 I3:List Nat}(h1:OwnL s h [A] [exL a] I1)(h2:OwnL s h [B] [smL b] I2)(h3:OwnL s h [E] [smL e] I3):
 OwnL s h [.p (.int .i64 o),.p (.str w),A,B,E] (Sm.mk o w a b e).cs (I1++(I2++I3)):=by
 rw[Sm.cs_eq]
 exact .p _ (λ_=>rfl) (.p _ (λ_=>rfl) (h1.app (h2.app h3)))
theorem Pe{s:Bool}{h:List AO}{vs:List AV}{f:Fd}{I:List Nat}(H:OwnL s h vs f.cs I):∃A B I1 I2,vs=[.p (.str f.name),A,B]/\I=I1++I2/\OwnL s h [A] [aw f.params] I1/\OwnL s h [B] [smL f.body] I2:=by
 rw[show f.cs=[.str f.name,aw f.params,smL f.body] from rfl] at H
 cases H with
 |p _ _ H=>
  obtain⟨A,B,rfl⟩:=Ob H
  obtain⟨I1,I2,rfl,h1,H⟩:=H.one
  exact⟨A,B,I1,I2,rfl,rfl,h1,H⟩
theorem sH{s:Bool}{h:List AO}{w:List UInt8}{ps:List (List UInt8)}{b:List Sm}{A B:AV}{I1 I2:List Nat}(h1:OwnL s h [A] [aw ps] I1)(h2:OwnL s h [B] [smL b] I2):OwnL s h [.p (.str w),A,B] (Fd.mk w ps b).cs (I1++I2):=
 .p _ (λ_=>rfl) (h1.app h2)
end
section
def Fr(K:List Nat)(h h':List AO):Prop:=h.length<=h'.length/\∀i,i<h.length->i∉K->h'[i]?=h[i]?
theorem Fr.refl(K:List Nat)(h:List AO):Fr K h h:=⟨UM _,λ_ _ _=>rfl⟩
theorem Fr.more(K:List Nat)(h os:List AO):Fr K h (h++os):=⟨by simp,λi hi _=>UB hi⟩
theorem Fr.trans{K K':List Nat}{h h1 h2:List AO}(a:Fr K h h1)(b:Fr K' h1 h2)(hk:∀i∈K',i∈K\/h.length<=i):Fr K h h2:=
 ⟨UR a.1 b.1,λi hi hn=>by
   rw[b.2 i (UY hi a.1) (λhm=>by
    rcases hk i hm with q|q
    ·exact hn q
    ·omega),a.2 i hi hn]⟩
theorem Fr.sub{K K':List Nat}{h h1:List AO}(a:Fr K h h1)(hk:∀i∈K,i∈K'\/h.length<=i):Fr K' h h1:=
 ⟨a.1,λi hi hn=>a.2 i hi λhm=>by
   rcases hk i hm with q|q
   ·exact hn q
   ·omega⟩
theorem Fr.from{K:List Nat}{h os h2:List AO}(a:Fr K (h++os) h2):Fr K h h2:=
 ⟨by have:=a.1;simp at this;omega,λi hi hn=>by rw[a.2 i (by simp;omega) hn,UB hi]⟩
theorem Rq(q:PV):(AV.p q).isCell=true:=rfl
theorem Rh(a b c d:Nat):(AV.sl a b c d).isCell=true:=rfl
theorem OU(a b c d:Nat):(AV.ptr a b c d).isCell=true:=rfl
theorem Sh(q:PV):(AV.p q).cells=[AV.p q]:=rfl
theorem Sn(a b c d:Nat):(AV.sl a b c d).cells=[AV.sl a b c d]:=rfl
theorem ON(a b c d:Nat):(AV.ptr a b c d).cells=[AV.ptr a b c d]:=rfl
end
section
def Un(hF:List AO)(n:Nat)(o x y:AO):Prop:=
 (x= .dead/\y=o/\okO n o)\/(x= .dead/\y= .dead)\/(x=o/\y= .dead)\/(x= .dead/\∃sz e e1,o= .row sz [e]/\y= .row sz [e1]/\Fzs hF n e e1)
theorem CV{hF:List AO}{n:Nat}:∀(h:List AO) (X Y:Nat->AO->AO),(∀i o,h[i]?=some o->Un hF n o (X i o) (Y i o))->Thn hF n h (h.mapIdx X) (h.mapIdx Y)
 |[],_,_,_=>by rw[List.mapIdx_nil,List.mapIdx_nil];exact .nil
 |o::r,X,Y,H=>by
  rw[List.mapIdx_cons,List.mapIdx_cons]
  have ih:=CV (hF:=hF) (n:=n) r (λi=>X (i+1)) (λi=>Y (i+1)) λi o h=>H (i+1) o h
  rcases H 0 o rfl with⟨h1,h2,h3⟩|⟨h1,h2⟩|⟨h1,h2⟩|⟨h1,sz,e,e1,rfl,h2,h3⟩
  ·rw[h1,h2];exact .same h3 ih
  ·rw[h1,h2];exact .drop ih
  ·rw[h1,h2];exact .give ih
  ·rw[h1,h2];exact .one h3 ih
end
section
structure LV where (name:List UInt8) (num block:Nat)
structure WS where (vs:List LV) (count:Nat) (code:Int)
def fl(c k:Int):Int:=if c=0 then k else c
theorem An{c k:Int}(h:c≠0):fl c k=c:=if_neg h
def lkV(vs:List LV)(s:List UInt8):Option LV:=vs.find? λv=>decide (v.name=s)
def bQ(fns:List Fd)(s:List UInt8):Option Nat:=fns.findIdx? λf=>decide (f.name=s)
def AZ(fns:List Fd)(j:Nat):Nat:=match fns[j]? with|some f=>f.params.length|none=>0
def oT(vs:List LV)(s:List UInt8)(c:Int):Int:=match lkV vs s with|none=>fl c 3|some _=>c
def lv(fns:List Fd)(k:Nat)(s:List UInt8)(n:Nat)(c:Int):Int:=
 match bQ fns s with|none=>fl c 4|some j=>if k<=j then fl c 4 else if AZ fns j=n then c else fl c 5
def jU(fns:List Fd)(k:Nat)(vs:List LV)(o:Int)(s:List UInt8)(n:Nat)(c:Int):Int:=
 if o=2 then oT vs s c else if o=13 then lv fns k s n c else c
mutual
def oJ(fns:List Fd)(k:Nat)(vs:List LV):Ex->Int->Int
 | .mk o _ s ks,c=>bI fns k vs ks (jU fns k vs o s ks.length c)
def bI(fns:List Fd)(k:Nat)(vs:List LV):List Ex->Int->Int
 |[],c=>c
 |e::r,c=>bI fns k vs r (oJ fns k vs e c)
end
def vnm(n:Nat):List UInt8:=[118,UInt8.ofNat (97+n%26)]
def yQ(vs:List LV)(s:List UInt8):List UInt8:=match lkV vs s with|none=>s|some v=>vnm v.num
mutual
def rnE(vs:List LV):Ex->Ex
 | .mk o n s ks=> .mk o n (if o=2 then yQ vs s else s) (kY vs ks)
def kY(vs:List LV):List Ex->List Ex
 |[]=>[]
 |e::r=>rnE vs e::kY vs r
end
def pU(vs:List LV)(s:List UInt8)(b:Nat)(c:Int):Int:=match lkV vs s with|none=>c|some v=>if v.block=b then fl c 2 else c
def gV(w:WS)(s:List UInt8)(b:Nat):WS:=⟨⟨s,w.count,b⟩::w.vs,w.count+1,pU w.vs s b w.code⟩
def opW(o:Int)(s:List UInt8)(b:Nat)(w:WS):WS:=if o=1 then gV w s b else if o=2 then⟨w.vs,w.count,oT w.vs s w.code⟩ else w
def opN(o:Int)(s:List UInt8)(w:WS):List UInt8:=if o=1 then vnm w.count else if o=2 then yQ w.vs s else s
def WS.back(w:WS)(vs:List LV):WS:=⟨vs,w.count,w.code⟩
mutual
def stW(fns:List Fd)(k b:Nat):Sm->WS->WS
 | .mk o s a bd el,w=>
   let w2:=opW o s b ⟨w.vs,w.count,bI fns k w.vs a w.code⟩
   let w3:=(bM fns k (b+1) bd w2).back w2.vs
   (bM fns k (b+1) el w3).back w2.vs
def bM(fns:List Fd)(k b:Nat):List Sm->WS->WS
 |[],w=>w
 |s::r,w=>bM fns k b r (stW fns k b s w)
end
def bE(ps:List (List UInt8))(w:WS):WS:=ps.foldl (λw s=>gV w s 0) w
def fnW(fns:List Fd)(k:Nat)(f:Fd):WS:=bM fns k 0 f.body (bE f.params ⟨[],0,if bQ fns f.name=some k then 0 else 2⟩)
def iK(fns:List Fd):Nat->List Fd->Int
 |_,[]=>0
 |k,f::r=>if(fnW fns k f).code=0 then iK fns (k+1) r else(fnW fns k f).code
def aN(fns:List Fd):Int:=if bs fns then iK fns 0 fns else 1
abbrev Scp:=List (List UInt8 × Nat)
def dL(m:Scp)(s:List UInt8):Option Nat:=(m.find? λx=>decide (x.1=s)).map (·.2)
def gt:Scp->List UInt8->Nat->Scp
 |[],s,n=>[(s,n)]
 |x::r,s,n=>if x.1=s then(s,n)::r else x::gt r s n
def jz:List Scp->List UInt8->Option Nat
 |[],_=>none
 |m::r,s=>match dL m s with|some n=>some n|none=>jz r s
def fW(fns:List Fd)(k:Nat)(ch:List Scp)(c:Int)(e:Ex):Int:=
 if e.op=2 then(if(jz ch e.name).isSome then c else fl c 3)
 else if e.op=13 then(match bQ (fns.take k) e.name with|none=>fl c 4|some j=>if AZ fns j=e.kids.length then c else fl c 5)
 else c
mutual
def Ex.pre:Ex->List Ex
 | .mk o n s ks=> .mk o n s ks::dm ks
def dm:List Ex->List Ex
 |[]=>[]
 |e::r=>e.pre++dm r
end
def Ge(fns:List Fd)(k:Nat)(ch:List Scp)(l:List Ex)(c:Int):Int:=(dm l).foldl (fW fns k ch) c
def opS(o:Int)(s:List UInt8)(m:Scp)(n:Nat):Scp:=if o=1 then gt m s n else m
def opC(o:Int)(s:List UInt8)(m:Scp)(up:List Scp)(c:Int):Int:=
 if o=1 then(if(dL m s).isSome then fl c 2 else c) else if o=2 then(if(jz (m::up) s).isSome then c else fl c 3) else c
mutual
def icS(fns:List Fd)(k:Nat):Sm->Scp->List Scp->Int->Scp × Int
 | .mk o s a bd el,m,up,c=>
   let m2:=opS o s m 0
   let c2:=opC o s m up (Ge fns k (m::up) a c)
   (m2,if o=5\/o=6 then(iu fns k el [] (m2::up) (iu fns k bd [] (m2::up) c2).2).2 else c2)
def iu(fns:List Fd)(k:Nat):List Sm->Scp->List Scp->Int->Scp × Int
 |[],m,_,c=>(m,c)
 |s::r,m,up,c=>iu fns k r (icS fns k s m up c).1 up (icS fns k s m up c).2
end
def jp(ps:List (List UInt8))(m:Scp)(c:Int):Scp × Int:=ps.foldl (λx s=>(gt x.1 s 0,if(dL x.1 s).isSome then fl x.2 2 else x.2)) (m,c)
def icF(fns:List Fd)(k:Nat)(f:Fd)(c:Int):Int:=
 let c1:=if(match bQ fns f.name with|some j=>decide (j<k)|none=>true) then fl c 2 else c
 let x:=jp f.params [] c1
 (iu fns k f.body x.1 [] x.2).2
def kI(fns:List Fd):Nat->List Fd->Int->Int
 |_,[],c=>c
 |k,f::r,c=>kI fns (k+1) r (icF fns k f c)
def SR(g:LV->Nat):Nat->List LV->List Scp->Prop
 |_,_,[]=>False
 |b,vs,m::up=>∃v1 v2,vs=v1++v2/\(∀v∈v1,v.block=b)/\(∀s,(lkV v1 s).map g=dL m s)/\match b with
  |0=>v2=[]/\up=[]
  |b+1=>SR g b v2 up
theorem yy(a b:List LV)(s:List UInt8):lkV (a++b) s=match lkV a s with|some v=>some v|none=>lkV b s:=by
 simp only[lkV,List.find?_append]
 cases List.find? (λv=>decide (v.name=s)) a<;>rfl
variable {g:LV->Nat}
theorem SR.blk:∀{b:Nat} {vs:List LV} {ch:List Scp},SR g b vs ch->∀v∈vs,v.block<=b
 |b,_,[],h,v,hv=>by cases b<;>exact False.elim h
 |0,vs,m::up,⟨v1,v2,e,h1,_,h3,_⟩,v,hv=>by
  subst e;subst h3
  rw[Vs] at hv
  exact Nat.le_of_eq (h1 v hv)
 |b+1,vs,m::up,⟨v1,v2,e,h1,_,h3⟩,v,hv=>by
  subst e
  rcases UJ.1 hv with h|h
  ·exact Nat.le_of_eq (h1 v h)
  ·exact Nat.le_succ_of_le (SR.blk h3 v h)
theorem SR.fnd:∀{b:Nat} {vs:List LV} {ch:List Scp},SR g b vs ch->∀s,(lkV vs s).map g=jz ch s
 |b,_,[],h,s=>by cases b<;>exact False.elim h
 |0,vs,m::up,⟨v1,v2,e,h1,h2,h3,h4⟩,s=>by
  subst e;subst h3;subst h4
  rw[Vs,h2,jz]
  cases dL m s<;>rfl
 |b+1,vs,m::up,⟨v1,v2,e,h1,h2,h3⟩,s=>by
  subst e
  have ih:=SR.fnd h3 s
  have h2:=h2 s
  rw[yy,jz,←h2]
  cases e1:lkV v1 s with
  |some v=>rfl
  |none=>exact ih
theorem SR.is{b:Nat}{vs:List LV}{ch:List Scp}(h:SR g b vs ch)(s:List UInt8):(lkV vs s).isSome=(jz ch s).isSome:=by rw[←h.fnd s,Option.isSome_map]
theorem yA{vs:List LV}{s:List UInt8}{v:LV}(h:lkV vs s=some v):v∈vs:=List.mem_of_find?_eq_some h
theorem SR.put:∀{b:Nat} {vs:List LV} {m:Scp} {up:List Scp},SR g b vs (m::up)->∀(s:List UInt8) (c:Int),pU vs s b c=if(dL m s).isSome then fl c 2 else c:=by
 intro b vs m up h s c
 have key:∀v1 v2:List LV,(∀v∈v1,v.block=b)->(lkV v1 s).map g=dL m s->(∀v∈v2,v.block≠b)->pU (v1++v2) s b c=if(dL m s).isSome then fl c 2 else c:=by
  intro v1 v2 h1 h2 h3
  rw[←h2,pU,yy]
  cases e1:lkV v1 s with
  |some v=>simp[h1 v (yA e1)]
  |none=>
   cases e2:lkV v2 s with
   |none=>rfl
   |some v=>simp[h3 v (yA e2)]
 match b,h with
 |0,⟨v1,v2,e,h1,h2,h3,_⟩=>subst e;subst h3;exact key v1 [] h1 (h2 s) (λv hv=>by simp at hv)
 |b+1,⟨v1,v2,e,h1,h2,h3⟩=>subst e;exact key v1 v2 h1 (h2 s) (λv hv e=>by have:=h3.blk v hv;omega)
theorem Dn:∀(m:Scp) (s:List UInt8) (n:Nat) (t:List UInt8),dL (gt m s n) t=if s=t then some n else dL m t
 |[],s,n,t=>by
  by_cases h:s=t
  ·simp[gt,dL,h]
  ·simp[gt,dL,h]
 |x::r,s,n,t=>by
  have ih:=Dn r s n t
  simp only[dL] at ih
  by_cases hx:x.1=s
  ·by_cases h:s=t
   ·simp[gt,dL,hx,h]
   ·have:¬x.1=t:=by rw[hx];exact h
    simp[gt,dL,hx,h]
  ·by_cases ht:x.1=t
   ·have:¬s=t:=λe=>hx (ht.trans e.symm)
    rw[gt,if_neg hx,if_neg this];simp[dL,ht]
   ·simp only[gt,dL,if_neg hx,List.find?_cons,ht,decide_false]
    exact ih
theorem SR.add{b:Nat}{vs:List LV}{m:Scp}{up:List Scp}(h:SR g b vs (m::up))(s:List UInt8)(n k:Nat)(hg:g ⟨s,n,b⟩=k):SR g b (⟨s,n,b⟩::vs) (gt m s k::up):=by
 have key:∀v1:List LV,(∀s,(lkV v1 s).map g=dL m s)->∀t,(lkV (⟨s,n,b⟩::v1) t).map g=dL (gt m s k) t:=by
  intro v1 h2 t
  rw[Dn]
  by_cases e:s=t
  ·simp[lkV,e,←hg]
  ·rw[if_neg e,←h2 t];simp[lkV,e]
 match b,h with
 |0,⟨v1,v2,e,h1,h2,h3⟩=>
  subst e
  refine⟨⟨s,n,0⟩::v1,v2,rfl,λv hv=>?_,key v1 h2,h3⟩
  rcases UK.1 hv with rfl|hv
  ·rfl
  ·exact h1 v hv
 |b+1,⟨v1,v2,e,h1,h2,h3⟩=>
  subst e
  refine⟨⟨s,n,b+1⟩::v1,v2,rfl,λv hv=>?_,key v1 h2,h3⟩
  rcases UK.1 hv with rfl|hv
  ·rfl
  ·exact h1 v hv
theorem SR.open{b:Nat}{vs:List LV}{ch:List Scp}(h:SR g b vs ch):SR g (b+1) vs ([]::ch):=⟨[],vs,rfl,λv hv=>by simp at hv,λs=>rfl,h⟩
theorem SR.base:SR g 0 [] [[]]:=⟨[],[],rfl,λv hv=>by simp at hv,λs=>rfl,rfl,rfl⟩
theorem CP{α:Type}{p:α->Bool}{l:List α}{k:Nat}:(l.take k).findIdx? p=match l.findIdx? p with|some j=>if j<k then some j else none|none=>none:=by
 cases h:l.findIdx? p with
 |none=>
  rw[Vi] at h⊢
  exact λx hx=>h x (Vr hx)
 |some j=>
  rw[UU] at h
  obtain⟨h1,h2,h3⟩:=h
  simp only
  split
  ·rename_i hj
   rw[UU]
   exact⟨by rw[Vf];omega,by rw[List.getElem_take];exact h2,λi hi=>by rw[List.getElem_take];exact h3 i hi⟩
  ·rename_i hj
   rw[Vi]
   intro x hx
   obtain⟨i,hi,rfl⟩:=VJ.1 hx
   simpa using h3 i (by omega)
theorem Ml(fns:List Fd)(k:Nat){vs:List LV}{ch:List Scp}(h:∀s,(lkV vs s).isSome=(jz ch s).isSome)(e:Ex)(c:Int):jU fns k vs e.op e.name e.kids.length c=fW fns k ch c e:=by
 unfold jU fW
 split
 ·rw[←h,oT];cases lkV vs e.name<;>rfl
 ·split
  ·rw[lv,bQ,bQ,CP]
   cases List.findIdx? (λf=>decide (f.name=e.name)) fns with
   |none=>rfl
   |some j=>
    simp only
    by_cases hj:j<k
    ·rw[if_neg (by omega),if_pos hj]
    ·rw[if_pos (by omega),if_neg hj]
  ·rfl
mutual
theorem Mz(fns:List Fd)(k:Nat){vs:List LV}{ch:List Scp}(h:∀s,(lkV vs s).isSome=(jz ch s).isSome):∀(e:Ex) (c:Int),oJ fns k vs e c=e.pre.foldl (fW fns k ch) c
 | .mk o n s ks,c=>by
   rw[oJ,Ex.pre,List.foldl_cons,←AA fns k h ks,←Ml fns k h];rfl
theorem AA(fns:List Fd)(k:Nat){vs:List LV}{ch:List Scp}(h:∀s,(lkV vs s).isSome=(jz ch s).isSome):∀(l:List Ex) (c:Int),bI fns k vs l c=(dm l).foldl (fW fns k ch) c
 |[],c=>rfl
 |e::r,c=>by rw[bI,dm,List.foldl_append,Mz fns k h e,AA fns k h r]
end
abbrev g0:LV->Nat:=λ_=>0
theorem OZ{b:Nat}{w:WS}{m:Scp}{up:List Scp}(h:SR g0 b w.vs (m::up))(o:Int)(s:List UInt8):SR g0 b (opW o s b w).vs (opS o s m 0::up)/\(opW o s b w).code=opC o s m up w.code:=by
 unfold opW opS opC
 by_cases h1:o=1
 ·simp only[h1,if_true]
  exact⟨h.add s _ 0 rfl,h.put s _⟩
 ·simp only[if_neg h1]
  split
  ·refine⟨h,?_⟩
   have:=h.is s
   simp only[oT]
   rw[←this]
   cases lkV w.vs s<;>rfl
  ·exact⟨h,rfl⟩
theorem Fq{d:Nat}{o:Int}{s:List UInt8}{a:List Ex}{bd el:List Sm}(h:az (d+1) (.mk o s a bd el)=true):bd.all (az d)=true/\el.all (az d)=true/\(¬(o=5\/o=6)->bd=[]/\el=[]):=by
 simp only[az,jn,Sm.op,Sm.body,Sm.els,UT,Bool.or_eq_true,decide_eq_true_eq,List.isEmpty_iff] at h
 refine⟨h.1.2,h.2,λhn=>⟨?_,?_⟩⟩
 ·rcases h.1.1.2 with(h|h)|h
  ·exact h
  ·exact absurd (.inl (of_decide_eq_true h)) hn
  ·exact absurd (.inr (of_decide_eq_true h)) hn
 ·rcases h.1.1.1.2 with h|h
  ·exact h
  ·exact absurd (.inl (of_decide_eq_true h)) hn
theorem dA(w:WS)(vs:List LV):(w.back vs).code=w.code:=rfl
theorem OJ(fns:List Fd)(k:Nat):∀(d b:Nat) (l:List Sm),l.all (az d)=true->∀(w:WS) (m:Scp) (up:List Scp),SR g0 b w.vs (m::up)->
 SR g0 b (bM fns k b l w).vs ((iu fns k l m up w.code).1::up)/\(bM fns k b l w).code=(iu fns k l m up w.code).2:=by
 intro d
 induction d with
 |zero=>
  intro b l hl w m up h
  cases l with
  |nil=>exact⟨h,rfl⟩
  |cons s r=>simp[az] at hl
 |succ d ih=>
  have dK:∀(b:Nat) (s:Sm),az (d+1) s=true->∀(w:WS) (m:Scp) (up:List Scp),SR g0 b w.vs (m::up)->
   SR g0 b (stW fns k b s w).vs ((icS fns k s m up w.code).1::up)/\(stW fns k b s w).code=(icS fns k s m up w.code).2:=by
   intro b s hs w m up h
   obtain⟨o,n,a,bd,el⟩:=s
   obtain⟨f1,f2,f3⟩:=Fq hs
   have hc:=AA fns k h.is a w.code
   obtain⟨g1,g2⟩:=OZ (w:=⟨w.vs,w.count,bI fns k w.vs a w.code⟩) h o n
   rw[stW,icS]
   simp only[hc] at g1 g2⊢
   generalize hw2:opW o n b ⟨w.vs,w.count,(dm a).foldl (fW fns k (m::up)) w.code⟩=w2 at*
   refine⟨g1,?_⟩
   rw[dA]
   have g2':w2.code=opC o n m up (Ge fns k (m::up) a w.code):=g2
   rw[←g2']
   by_cases ho:o=5\/o=6
   ·rw[if_pos ho]
    have k1:=ih (b+1) bd f1 w2 [] _ g1.open
    have k2:=ih (b+1) el f2 ((bM fns k (b+1) bd w2).back w2.vs) [] _ g1.open
    rw[k2.2,dA,k1.2]
   ·obtain⟨rfl,rfl⟩:=f3 ho
    rw[if_neg ho]
    simp[bM,WS.back]
  intro b l
  induction l with
  |nil=>intro _ w m up h;exact⟨h,rfl⟩
  |cons s r ihl=>
   intro hl w m up h
   rw[List.all_cons,UT] at hl
   obtain⟨k1,k2⟩:=dK b s hl.1 w m up h
   have:=ihl hl.2 _ _ up k1
   rw[bM,iu,←k2]
   exact this
theorem Dd:∀(ps:List (List UInt8)) (w:WS) (m:Scp),SR g0 0 w.vs [m]->SR g0 0 (bE ps w).vs [(jp ps m w.code).1]/\(bE ps w).code=(jp ps m w.code).2
 |[],w,m,h=>⟨h,rfl⟩
 |s::r,w,m,h=>by
  have hp:=h.put s w.code
  have:=Dd r (gV w s 0) (gt m s 0) (h.add s w.count 0 rfl)
  simp only[bE,jp,List.foldl_cons] at this⊢
  rw[←hp]
  exact this
theorem Kf{fns:List Fd}{k:Nat}{ch:List Scp}{c:Int}(h:c≠0)(e:Ex):fW fns k ch c e=c:=by
 unfold fW
 simp only[An h]
 split
 ·split<;>rfl
 ·split
  ·split
   ·rfl
   ·split<;>rfl
  ·rfl
theorem BK{fns:List Fd}{k:Nat}{ch:List Scp}{c:Int}(h:c≠0):∀l:List Ex,l.foldl (fW fns k ch) c=c
 |[]=>rfl
 |e::r=>by rw[List.foldl_cons,Kf h,BK h r]
theorem Jx{o:Int}{s:List UInt8}{m:Scp}{up:List Scp}{c:Int}(h:c≠0):opC o s m up c=c:=by
 unfold opC
 simp only[An h]
 split
 ·split<;>rfl
 ·split
  ·split<;>rfl
  ·rfl
mutual
theorem KU(fns:List Fd)(k:Nat){c:Int}(h:c≠0):∀(s:Sm) (m:Scp) (up:List Scp),(icS fns k s m up c).2=c
 | .mk o s a bd el,m,up=>by
   rw[icS]
   simp only[Ge,BK h,Jx h]
   rw[pG fns k h bd,pG fns k h el,ite_self]
theorem pG(fns:List Fd)(k:Nat){c:Int}(h:c≠0):∀(l:List Sm) (m:Scp) (up:List Scp),(iu fns k l m up c).2=c
 |[],m,up=>rfl
 |s::r,m,up=>by rw[iu,KU fns k h s m up,pG fns k h r]
end
theorem ur{c:Int}(h:c≠0):∀(ps:List (List UInt8)) (m:Scp),(jp ps m c).2=c
 |[],m=>rfl
 |s::r,m=>by
  have:=ur h r (gt m s 0)
  simp only[jp,List.foldl_cons,An h,ite_self] at this⊢
  exact this
theorem KC(fns:List Fd)(k:Nat)(f:Fd){c:Int}(h:c≠0):icF fns k f c=c:=by
 simp only[icF,An h,ite_self]
 rw[ur h,pG fns k h]
theorem zI(fns:List Fd){c:Int}(h:c≠0):∀(l:List Fd) (k:Nat),kI fns k l c=c
 |[],k=>rfl
 |f::r,k=>by rw[kI,KC fns k f h,zI fns h r]
theorem BN{fns:List Fd}{k:Nat}{f:Fd}(h:fns[k]?=some f):∃j,bQ fns f.name=some j/\j<=k:=by
 cases e:bQ fns f.name with
 |none=>
  rw[bQ,Vi] at e
  have:=e f (UF h)
  simp at this
 |some j=>
  refine⟨j,rfl,?_⟩
  rw[bQ,UU] at e
  obtain⟨h1,h2,h3⟩:=e
  rcases Vo k j with hk|hk
  ·have:=h3 k hk
   obtain⟨a1,a2⟩:=Uz.1 h
   rw[a2] at this
   simp at this
  ·exact hk
theorem RT(fns:List Fd){k:Nat}{f:Fd}(hf:fns[k]?=some f)(hok:kb f=true):(fnW fns k f).code=icF fns k f 0:=by
 obtain⟨j,e1,e2⟩:=BN hf
 have hb:f.body.all (az 4)=true:=by simp only[kb,UT] at hok;exact hok.2
 have hc:(if bQ fns f.name=some k then(0:Int) else 2)=if(match bQ fns f.name with|some j=>decide (j<k)|none=>true) then fl 0 2 else 0:=by
  rw[e1]
  by_cases h:j=k
  ·subst h;simp
  ·have:j<k:=by omega
   simp[h,this,fl]
 obtain⟨p1,p2⟩:=Dd f.params ⟨[],0,if bQ fns f.name=some k then(0:Int) else 2⟩ [] SR.base
 obtain⟨q1,q2⟩:=OJ fns k 4 0 f.body hb _ _ [] p1
 rw[fnW,q2,p2]
 simp only[icF,←hc]
theorem LL(fns:List Fd):∀(l:List Fd) (k:Nat),(∀i,l[i]?=fns[k+i]?)->l.all kb=true->iK fns k l=kI fns k l 0
 |[],k,_,_=>rfl
 |f::r,k,hl,ha=>by
  rw[List.all_cons,UT] at ha
  have h0:fns[k]?=some f:=by have:=hl 0;simpa using this.symm
  have hr:∀i,r[i]?=fns[k+1+i]?:=λi=>by have:=hl (i+1);rw[UQ] at this;rw[this];congr 1;omega
  rw[iK,kI,RT fns h0 ha.1]
  split
  ·rename_i e;rw[e];exact LL fns r (k+1) hr ha.2
  ·rename_i e;rw[zI fns e]
theorem Gj(fns:List Fd):aN fns=if bs fns then kI fns 0 fns 0 else 1:=by
 unfold aN
 split
 ·rename_i h
  simp only[bs,UT] at h
  exact LL fns fns 0 (λi=>by rw[VD]) h.1.2
 ·rfl
end
section
mutual
def rnS(fns:List Fd)(k b:Nat):Sm->WS->Sm
 | .mk o s a bd el,w=>
   let w2:=opW o s b ⟨w.vs,w.count,bI fns k w.vs a w.code⟩
   .mk o (opN o s w) (kY w.vs a) (ir fns k (b+1) bd w2) (ir fns k (b+1) el ((bM fns k (b+1) bd w2).back w2.vs))
def ir(fns:List Fd)(k b:Nat):List Sm->WS->List Sm
 |[],_=>[]
 |s::r,w=>rnS fns k b s w::ir fns k b r (stW fns k b s w)
end
def ny:List (List UInt8)->WS->List (List UInt8)
 |[],_=>[]
 |s::r,w=>vnm w.count::ny r (gV w s 0)
def rnF(fns:List Fd)(k:Nat)(f:Fd):Fd:=
 ⟨f.name,ny f.params ⟨[],0,if bQ fns f.name=some k then 0 else 2⟩,ir fns k 0 f.body (bE f.params ⟨[],0,if bQ fns f.name=some k then 0 else 2⟩)⟩
mutual
def IG:Sm->Nat
 | .mk o _ _ bd el=>(if o=1 then 1 else 0)+re bd+re el
def re:List Sm->Nat
 |[]=>0
 |s::r=>IG s+re r
end
theorem uB(o:Int)(s:List UInt8)(b:Nat)(w:WS):(opW o s b w).count=w.count+if o=1 then 1 else 0:=by
 unfold opW
 split
 ·rfl
 ·split<;>rfl
mutual
theorem BP(fns:List Fd)(k:Nat):∀(s:Sm) (b:Nat) (w:WS),(stW fns k b s w).count=w.count+IG s
 | .mk o s a bd el,b,w=>by
   rw[stW,IG]
   simp only[WS.back]
   rw[iI fns k el,iI fns k bd,uB];show w.count+_+_+_=_
   omega
theorem iI(fns:List Fd)(k:Nat):∀(l:List Sm) (b:Nat) (w:WS),(bM fns k b l w).count=w.count+re l
 |[],b,w=>rfl
 |s::r,b,w=>by rw[bM,re,iI fns k r,BP fns k s];omega
end
mutual
theorem Nb:∀s:Sm,IG s<=s.cnt
 | .mk o s a bd el=>by
   have:=tg bd
   have:=tg el
   simp only[IG,Sm.cnt]
   split<;>omega
theorem tg:∀l:List Sm,re l<=dO l
 |[]=>UM _
 |s::r=>by have:=Nb s;have:=tg r;simp only[re,dO];omega
end
theorem vH:∀(ps:List (List UInt8)) (w:WS),(bE ps w).count=w.count+ps.length
 |[],w=>rfl
 |s::r,w=>by
  have:=vH r (gV w s 0)
  simp only[bE,List.foldl_cons,UW] at this⊢
  rw[this];simp only[gV];omega
theorem Ng(o:Int)(s:List UInt8)(b:Nat)(w:WS):∃e,(opW o s b w).vs=e++w.vs:=by
 unfold opW
 split
 ·exact⟨[_],rfl⟩
 ·split<;>exact⟨[],rfl⟩
theorem Gd(fns:List Fd)(k b:Nat)(o:Int)(s:List UInt8)(a:List Ex)(bd el:List Sm)(w:WS):(stW fns k b (.mk o s a bd el) w).vs=(opW o s b ⟨w.vs,w.count,bI fns k w.vs a w.code⟩).vs:=rfl
theorem Eh(fns:List Fd)(k:Nat):∀(l:List Sm) (b:Nat) (w:WS),∃e,(bM fns k b l w).vs=e++w.vs
 |[],b,w=>⟨[],rfl⟩
 | .mk o s a bd el::r,b,w=>by
   obtain⟨e1,h1⟩:=Eh fns k r b (stW fns k b (.mk o s a bd el) w)
   obtain⟨e2,h2⟩:=Ng o s b ⟨w.vs,w.count,bI fns k w.vs a w.code⟩
   exact⟨e1++e2,by rw[bM,h1,Gd,h2,Vh]⟩
theorem OP{o:Int}{s:List UInt8}{b:Nat}{w:WS}(h:w.vs.length<=w.count):(opW o s b w).vs.length<=(opW o s b w).count:=by
 unfold opW
 split
 ·simp[gV,h]
 ·split<;>exact h
theorem Pf(fns:List Fd)(k:Nat){s:Sm}{b:Nat}{w:WS}(h:w.vs.length<=w.count):(stW fns k b s w).vs.length<=(stW fns k b s w).count:=by
 obtain⟨o,n,a,bd,el⟩:=s
 rw[BP,Gd]
 have:=OP (o:=o) (s:=n) (b:=b) (w:=⟨w.vs,w.count,bI fns k w.vs a w.code⟩) h
 rw[uB] at this
 simp only[IG]
 simp only at this
 omega
theorem Hp(fns:List Fd)(k:Nat):∀{l:List Sm} {b:Nat} {w:WS},w.vs.length<=w.count->(bM fns k b l w).vs.length<=(bM fns k b l w).count
 |[],_,_,h=>h
 |s::r,b,w,h=>Hp fns k (l:=r) (Pf fns k h)
mutual
def Sm.pre(d:Nat):Sm->List (Sm × Nat)
 | .mk o s a bd el=>(.mk o s a bd el,d)::(bD (d+1) bd++bD (d+1) el)
def bD(d:Nat):List Sm->List (Sm × Nat)
 |[]=>[]
 |s::r=>Sm.pre d s++bD d r
end
theorem Sm.pre_eq(d:Nat)(s:Sm):s.pre d=(s,d)::(bD (d+1) s.body++bD (d+1) s.els):=by cases s;rfl
theorem sq(d:Nat):∀a b:List Sm,bD d (a++b)=bD d a++bD d b
 |[],b=>rfl
 |s::r,b=>by rw[Vn,bD,bD,sq d r b,Vh]
theorem Ex.pre_eq(e:Ex):e.pre=e::dm e.kids:=by cases e;rfl
theorem sU:∀a b:List Ex,dm (a++b)=dm a++dm b
 |[],b=>rfl
 |e::r,b=>by rw[Vn,dm,dm,sU r b,Vh]
mutual
theorem Sm.pre_len:∀(s:Sm) (d:Nat),(s.pre d).length=s.cnt
 | .mk o s a bd el,d=>by simp only[Sm.pre,Sm.cnt,UW,UN,ll bd,ll el];omega
theorem ll:∀(l:List Sm) (d:Nat),(bD d l).length=dO l
 |[],d=>rfl
 |s::r,d=>by simp only[bD,dO,UN,Sm.pre_len s,ll r]
end
end
section
theorem uK{vs:List LV}{s:List UInt8}{c:Int}(h:c≠0):oT vs s c=c:=by unfold oT;split<;>simp[An h]
theorem Gv{fns:List Fd}{k:Nat}{s:List UInt8}{n:Nat}{c:Int}(h:c≠0):lv fns k s n c=c:=by
 unfold lv
 simp only[An h]
 split
 ·rfl
 ·split
  ·rfl
  ·split<;>rfl
theorem Gy{fns:List Fd}{k:Nat}{vs:List LV}{o:Int}{s:List UInt8}{n:Nat}{c:Int}(h:c≠0):jU fns k vs o s n c=c:=by
 unfold jU
 rw[uK h,Gv h]
 split
 ·rfl
 ·split<;>rfl
mutual
theorem Ig(fns:List Fd)(k:Nat)(vs:List LV){c:Int}(h:c≠0):∀e:Ex,oJ fns k vs e c=c
 | .mk o n s ks=>by rw[oJ,Gy h,nt fns k vs h ks]
theorem nt(fns:List Fd)(k:Nat)(vs:List LV){c:Int}(h:c≠0):∀l:List Ex,bI fns k vs l c=c
 |[]=>rfl
 |e::r=>by rw[bI,Ig fns k vs h e,nt fns k vs h r]
end
theorem fU{fns:List Fd}{k:Nat}{vs:List LV}{l:List Ex}{c:Int}(h:bI fns k vs l c=0):c=0:=by
 by_cases hc:c=0
 ·exact hc
 ·rw[nt fns k vs hc] at h;exact h
theorem BX{vs:List LV}{s:List UInt8}{c:Int}(h:oT vs s c=0):c=0/\∃v,lkV vs s=some v:=by
 by_cases hc:c=0
 ·refine⟨hc,?_⟩
  unfold oT at h
  cases e:lkV vs s with
  |some v=>exact⟨v,rfl⟩
  |none=>rw[e] at h;simp[fl,hc] at h
 ·rw[uK hc] at h;exact absurd h hc
theorem ET{o:Int}{s:List UInt8}{b:Nat}{w:WS}(h:w.code≠0):(opW o s b w).code=w.code:=by
 unfold opW
 split
 ·simp only[gV,pU,An h]
  split
  ·rfl
  ·split<;>rfl
 ·split
  ·exact uK h
  ·rfl
mutual
theorem JE(fns:List Fd)(k:Nat):∀(s:Sm) (b:Nat) (w:WS),w.code≠0->(stW fns k b s w).code=w.code
 | .mk o s a bd el,b,w,h=>by
   have e1:(bI fns k w.vs a w.code)=w.code:=nt fns k w.vs h a
   have e2:(opW o s b ⟨w.vs,w.count,bI fns k w.vs a w.code⟩).code=w.code:=by rw[ET]<;>simp only[e1];exact h
   have e3:=py fns k bd (b+1) (opW o s b ⟨w.vs,w.count,bI fns k w.vs a w.code⟩) (by rw[e2];exact h)
   rw[stW,dA,py fns k el _ _ (by rw[dA,e3,e2];exact h),dA,e3,e2]
theorem py(fns:List Fd)(k:Nat):∀(l:List Sm) (b:Nat) (w:WS),w.code≠0->(bM fns k b l w).code=w.code
 |[],b,w,h=>rfl
 |s::r,b,w,h=>by
  have e1:=JE fns k s b w h
  rw[bM,py fns k r b _ (by rw[e1];exact h),e1]
end
theorem cQ{fns:List Fd}{k b:Nat}{l:List Sm}{w:WS}(h:(bM fns k b l w).code=0):w.code=0:=by
 by_cases hc:w.code=0
 ·exact hc
 ·rw[py fns k l b w hc] at h;exact h
theorem Al{o:Int}{s:List UInt8}{b:Nat}{w:WS}(h:(opW o s b w).code=0):w.code=0:=by
 by_cases hc:w.code=0
 ·exact hc
 ·rw[ET hc] at h;exact h
end
section
theorem ox(fns:List Fd):∀(l:List Fd) (k:Nat),iK fns k l=0↔∀(i:Nat) (f:Fd),l[i]?=some f->(fnW fns (k+i) f).code=0
 |[],k=>by simp[iK]
 |f::r,k=>by
  rw[iK]
  have ih:=ox fns r (k+1)
  constructor
  ·intro h i g hg
   by_cases h0:(fnW fns k f).code=0
   ·rw[if_pos h0] at h
    cases i with
    |zero=>cases hg;exact h0
    |succ i=>have:=ih.1 h i g (by simpa using hg);rwa[show k+(i+1)=k+1+i by omega]
   ·rw[if_neg h0] at h;exact absurd h h0
  ·intro h
   rw[if_pos (by have:=h 0 f rfl;rwa[Nat.add_zero] at this)]
   exact ih.2 λi g hg=>by have:=h (i+1) g (by simpa using hg);rwa[show k+(i+1)=k+1+i by omega] at this
theorem Ck(l:List Fd):aN l=0↔bs l=true/\∀(k:Nat) (f:Fd),l[k]?=some f->(fnW l k f).code=0:=by
 unfold aN
 by_cases h:bs l=true
 ·rw[if_pos h,ox];simp[h]
 ·rw[if_neg h];simp[h]
theorem lg(l:List Fd):bs l=true↔(1<=l.length/\l.length<=4)/\(∀f∈l,kb f=true)/\mV l<=40:=by
 simp only[bs,inR,UT,decide_eq_true_eq,UI]
 constructor
 ·rintro⟨⟨⟨h1,h2⟩,h3⟩,h4⟩;exact⟨⟨by omega,by omega⟩,h3,h4⟩
 ·rintro⟨⟨h1,h2⟩,h3,h4⟩;exact⟨⟨⟨by omega,by omega⟩,h3⟩,h4⟩
def Fd.cut(f:Fd)(n:Nat):Fd:=⟨f.name,f.params,f.body.take n⟩
end
section
abbrev Sc5:=List (List UInt8 × Int)
structure S5 where (left:Nat) (said:List Int) (cells:List Int)
inductive O5 (α:Type) where
 |ok (a:α)
 |st (c:Int)
def bL:Sc5->List UInt8->Option Int
 |[],_=>none
 |x::r,s=>if x.1=s then some x.2 else bL r s
def sset:Sc5->List UInt8->Int->Sc5
 |[],_,_=>[]
 |x::r,s,n=>if x.1=s then(s,n)::r else x::sset r s n
def gW:List Sc5->List UInt8->Option Int
 |[],_=>none
 |m::r,s=>match bL m s with|some n=>some n|none=>gW r s
def gf:List Sc5->List UInt8->Int->List Sc5
 |[],_,_=>[]
 |m::r,s,n=>if(bL m s).isSome then sset m s n::r else m::gf r s n
def tr5(b:Bool):Int:=if b then 1 else 0
def Dk(op a b:Int):Option Int:=
 if op=3 then some ((a+b)%256) else if op=4 then some ((a-b+256)%256) else if op=5 then some (a*b%256) else if op=8 then some (tr5 (decide (a<b))) else if op=9 then some (tr5 (decide (a=b)))
 else if b=0 then none else if op=6 then some (a/b) else some (a%b)
def S5.say(s:S5)(n:Int):S5:=⟨s.left,s.said++[n],s.cells⟩
def S5.put(s:S5)(i:Nat)(n:Int):S5:=⟨s.left,s.said,s.cells.set i n⟩
def S5.at_(s:S5)(F:Nat):S5:=⟨F,s.said,s.cells⟩
def V5(n:Int):Prop:=0<=n/\n<=255
inductive J5 where
 |ex (k:Nat) (v:List Sc5) (s:S5) (e:Ex) (s':S5) (r:O5 Int)
 |exs (k:Nat) (v:List Sc5) (s:S5) (es:List Ex) (s':S5) (r:O5 (List Int))
 |cal (k:Nat) (us:List Int) (s:S5) (s':S5) (r:O5 Int)
 |stm (k:Nat) (v:List Sc5) (s:S5) (x:Sm) (v':List Sc5) (s':S5) (r:O5 (Option Int))
 |blk (k:Nat) (v:List Sc5) (s:S5) (xs:List Sm) (v':List Sc5) (s':S5) (r:O5 (Option Int))
 |lp (k:Nat) (v:List Sc5) (s:S5) (x:Sm) (v':List Sc5) (s':S5) (r:O5 (Option Int))
def Fz:O5 (Option Int)->O5 Int
 | .ok (some n)=> .ok n
 | .ok none=> .ok 0
 | .st c=> .st c
inductive Ev (l:List Fd):J5->Prop where
 |num {k v s e}:e.op=1->V5 e.n->Ev l (.ex k v s e s (.ok e.n))
 |var {k v s e n}:e.op=2->gW v e.name=some n->Ev l (.ex k v s e s (.ok n))
 |call {k v s e s1 us j s2 r}:e.op=13->Ev l (.exs k v s e.kids s1 (.ok us))->bQ l e.name=some j->j<k->Ev l (.cal j us s1 s2 r)->Ev l (.ex k v s e s2 r)
 |callS {k v s e s1 c}:e.op=13->Ev l (.exs k v s e.kids s1 (.st c))->Ev l (.ex k v s e s1 (.st c))
 |firstS {k v s e a r s1 c}:3<=e.op->e.op<=12->e.kids=a::r->Ev l (.ex k v s a s1 (.st c))->Ev l (.ex k v s e s1 (.st c))
 |and0 {k v s e a b s1}:e.op=10->e.kids=[a,b]->Ev l (.ex k v s a s1 (.ok 0))->Ev l (.ex k v s e s1 (.ok 0))
 |and1 {k v s e a b s1 n s2 m}:e.op=10->e.kids=[a,b]->Ev l (.ex k v s a s1 (.ok n))->n≠0->Ev l (.ex k v s1 b s2 (.ok m))->Ev l (.ex k v s e s2 (.ok (tr5 (decide (m≠0)))))
 |andS {k v s e a b s1 n s2 c}:e.op=10->e.kids=[a,b]->Ev l (.ex k v s a s1 (.ok n))->n≠0->Ev l (.ex k v s1 b s2 (.st c))->Ev l (.ex k v s e s2 (.st c))
 |not {k v s e a s1 n}:e.op=11->e.kids=[a]->Ev l (.ex k v s a s1 (.ok n))->Ev l (.ex k v s e s1 (.ok (tr5 (decide (n=0)))))
 |at_ {k v s e a s1 n m}:e.op=12->e.kids=[a]->Ev l (.ex k v s a s1 (.ok (n:Nat)))->n<16->s1.cells[n]?=some m->Ev l (.ex k v s e s1 (.ok m))
 |atS {k v s e a s1 n}:e.op=12->e.kids=[a]->Ev l (.ex k v s a s1 (.ok n))->16<=n->Ev l (.ex k v s e s1 (.st 2))
 |bin {k v s e a b s1 n s2 m q}:3<=e.op->e.op<=9->e.kids=[a,b]->Ev l (.ex k v s a s1 (.ok n))->Ev l (.ex k v s1 b s2 (.ok m))->Dk e.op n m=some q->Ev l (.ex k v s e s2 (.ok q))
 |binS {k v s e a b s1 n s2 c}:3<=e.op->e.op<=9->e.kids=[a,b]->Ev l (.ex k v s a s1 (.ok n))->Ev l (.ex k v s1 b s2 (.st c))->Ev l (.ex k v s e s2 (.st c))
 |binD {k v s e a b s1 n s2 m}:3<=e.op->e.op<=9->e.kids=[a,b]->Ev l (.ex k v s a s1 (.ok n))->Ev l (.ex k v s1 b s2 (.ok m))->Dk e.op n m=none->Ev l (.ex k v s e s2 (.st 1))
 |nil {k v s}:Ev l (.exs k v s [] s (.ok []))
 |cons {k v s a r s1 n s2 ns}:Ev l (.ex k v s a s1 (.ok n))->Ev l (.exs k v s1 r s2 (.ok ns))->Ev l (.exs k v s (a::r) s2 (.ok (n::ns)))
 |consS {k v s a r s1 c}:Ev l (.ex k v s a s1 (.st c))->Ev l (.exs k v s (a::r) s1 (.st c))
 |consT {k v s a r s1 n s2 c}:Ev l (.ex k v s a s1 (.ok n))->Ev l (.exs k v s1 r s2 (.st c))->Ev l (.exs k v s (a::r) s2 (.st c))
 |cal {k f us s v' s' r}:l[k]?=some f->f.params.length=us.length->Ev l (.blk k [f.params.zip us] s f.body v' s' r)->Ev l (.cal k us s s' (Fz r))
 |bnil {k v s}:Ev l (.blk k v s [] v s (.ok none))
 |bfuel {k v s x r}:s.left=0->Ev l (.blk k v s (x::r) v s (.st 3))
 |bgo {k v s x r F v1 s1 v2 s2 q}:s.left=F+1->Ev l (.stm k v (s.at_ F) x v1 s1 (.ok none))->Ev l (.blk k v1 s1 r v2 s2 q)->Ev l (.blk k v s (x::r) v2 s2 q)
 |bend {k v s x r F v1 s1 q}:s.left=F+1->Ev l (.stm k v (s.at_ F) x v1 s1 q)->q≠ .ok none->Ev l (.blk k v s (x::r) v1 s1 q)
 |argS {k v s x a r s1 c}:x.op≠6->x.args=a::r->Ev l (.ex k v s a s1 (.st c))->Ev l (.stm k v s x v s1 (.st c))
 |slet {k v s x a s1 n m up}:x.op=1->x.args=[a]->Ev l (.ex k v s a s1 (.ok n))->v=m::up->bL m x.name=none->Ev l (.stm k v s x ((m++[(x.name,n)])::up) s1 (.ok none))
 |sset {k v s x a s1 n}:x.op=2->x.args=[a]->Ev l (.ex k v s a s1 (.ok n))->(gW v x.name).isSome=true->Ev l (.stm k v s x (gf v x.name n) s1 (.ok none))
 |ssay {k v s x a s1 n}:x.op=3->x.args=[a]->Ev l (.ex k v s a s1 (.ok n))->Ev l (.stm k v s x v (s1.say n) (.ok none))
 |sput {k v s x a b s1 n s2 m}:x.op=4->x.args=[a,b]->Ev l (.ex k v s a s1 (.ok (n:Nat)))->Ev l (.ex k v s1 b s2 (.ok m))->n<16->Ev l (.stm k v s x v (s2.put n m) (.ok none))
 |sputC {k v s x a b s1 n s2 m}:x.op=4->x.args=[a,b]->Ev l (.ex k v s a s1 (.ok n))->Ev l (.ex k v s1 b s2 (.ok m))->16<=n->Ev l (.stm k v s x v s2 (.st 2))
 |sputS {k v s x a b s1 n s2 c}:x.op=4->x.args=[a,b]->Ev l (.ex k v s a s1 (.ok n))->Ev l (.ex k v s1 b s2 (.st c))->Ev l (.stm k v s x v s2 (.st c))
 |sif {k v s x a s1 n m v' s2 q}:x.op=5->x.args=[a]->Ev l (.ex k v s a s1 (.ok n))->Ev l (.blk k ([]::v) s1 (if n≠0 then x.body else x.els) (m::v') s2 q)->Ev l (.stm k v s x v' s2 q)
 |sloop {k v s x v' s' q}:x.op=6->Ev l (.lp k v s x v' s' q)->Ev l (.stm k v s x v' s' q)
 |sback {k v s x a s1 n}:x.op=7->x.args=[a]->Ev l (.ex k v s a s1 (.ok n))->Ev l (.stm k v s x v s1 (.ok (some n)))
 |sdo {k v s x a s1 n}:x.op=8->x.args=[a]->Ev l (.ex k v s a s1 (.ok n))->Ev l (.stm k v s x v s1 (.ok none))
 |lpS {k v s x a s1 c}:x.args=[a]->Ev l (.ex k v s a s1 (.st c))->Ev l (.lp k v s x v s1 (.st c))
 |lp0 {k v s x a s1}:x.args=[a]->Ev l (.ex k v s a s1 (.ok 0))->Ev l (.lp k v s x v s1 (.ok none))
 |lpEnd {k v s x a s1 n m v' s2 q}:x.args=[a]->Ev l (.ex k v s a s1 (.ok n))->n≠0->Ev l (.blk k ([]::v) s1 x.body (m::v') s2 q)->q≠ .ok none->Ev l (.lp k v s x v' s2 q)
 |lpFuel {k v s x a s1 n m v' s2}:x.args=[a]->Ev l (.ex k v s a s1 (.ok n))->n≠0->Ev l (.blk k ([]::v) s1 x.body (m::v') s2 (.ok none))->s2.left=0->Ev l (.lp k v s x v' s2 (.st 3))
 |lpGo {k v s x a s1 n m v' s2 F v'' s3 q}:x.args=[a]->Ev l (.ex k v s a s1 (.ok n))->n≠0->Ev l (.blk k ([]::v) s1 x.body (m::v') s2 (.ok none))->s2.left=F+1->Ev l (.lp k v' (s2.at_ F) x v'' s3 q)->Ev l (.lp k v s x v'' s3 q)
end
section
structure G5 (s:S5):Prop where
 len:s.cells.length=16
 cells:∀c∈s.cells,V5 c
 said:∀c∈s.said,V5 c
def GE5(v:List Sc5):Prop:=∀m∈v,∀x∈m,V5 x.2
theorem El:∀{m:Sc5} {s:List UInt8} {n:Int},bL m s=some n->(s,n)∈m
 |[],_,_,h=>by cases h
 |x::r,s,n,h=>by
  rw[bL] at h
  by_cases e:x.1=s
  ·rw[if_pos e] at h;cases h;subst e;simp
  ·rw[if_neg e] at h;exact Vq _ (El h)
theorem uD:∀{v:List Sc5} {s:List UInt8} {n:Int},GE5 v->gW v s=some n->V5 n
 |[],_,_,_,h=>by cases h
 |m::r,s,n,g,h=>by
  rw[gW] at h
  cases e:bL m s with
  |some q=>
   rw[e] at h;cases h
   exact g m (by simp) _ (El e)
  |none=>
   rw[e] at h
   exact uD (λm hm=>g m (by simp[hm])) h
theorem BG:∀{m:Sc5} {s:List UInt8} {n:Int},(∀x∈m,V5 x.2)->V5 n->∀x∈sset m s n,V5 x.2
 |[],_,_,_,_,x,hx=>by cases hx
 |y::r,s,n,g,hn,x,hx=>by
  rw[sset] at hx
  split at hx
  ·rcases UK.1 hx with rfl|hx
   ·exact hn
   ·exact g x (by simp[hx])
  ·rcases UK.1 hx with rfl|hx
   ·exact g x (by simp)
   ·exact BG (λx hx=>g x (by simp[hx])) hn x hx
theorem BE:∀{v:List Sc5} {s:List UInt8} {n:Int},GE5 v->V5 n->GE5 (gf v s n)
 |[],_,_,g,_=>g
 |m::r,s,n,g,hn=>by
  rw[gf]
  split
  ·intro q hq
   rcases UK.1 hq with rfl|hq
   ·exact BG (g m (by simp)) hn
   ·exact g q (by simp[hq])
  ·intro q hq
   rcases UK.1 hq with rfl|hq
   ·exact g q (by simp)
   ·exact BE (λm hm=>g m (by simp[hm])) hn q hq
theorem gJ(b:Bool):V5 (tr5 b):=by cases b<;>simp[tr5,V5]
theorem BC{op a b n:Int}(ha:V5 a)(hb:V5 b)(h:Dk op a b=some n):V5 n:=by
 obtain⟨a0,a1⟩:=ha
 obtain⟨b0,b1⟩:=hb
 unfold Dk at h
 split at h
 ·cases h;unfold V5;omega
 split at h
 ·cases h;unfold V5;omega
 split at h
 ·cases h
  have:0<=a*b:=Int.mul_nonneg a0 b0
  unfold V5
  generalize a*b=q at*
  omega
 split at h
 ·cases h;exact gJ _
 split at h
 ·cases h;exact gJ _
 split at h
 ·cases h
 split at h
 ·cases h
  have h1:0<=a/b:=Int.ediv_nonneg a0 b0
  have h2:a/b<=a:=Int.ediv_le_self b a0
  exact⟨h1,by omega⟩
 ·cases h
  rename_i hb0 _
  have h1:0<=a%b:=Int.emod_nonneg a hb0
  have h2:a%b<b:=Int.emod_lt_of_pos a (by omega)
  exact⟨h1,by omega⟩
theorem G5.say{s:S5}(g:G5 s){n:Int}(hn:V5 n):G5 (s.say n):=⟨g.len,g.cells,λc hc=>by
 rcases UJ.1 hc with h|h
 ·exact g.said c h
 ·rw[UL.1 h];exact hn⟩
theorem G5.put{s:S5}(g:G5 s)(i:Nat){n:Int}(hn:V5 n):G5 (s.put i n):=⟨by rw[←g.len];exact Vd,λc hc=>by
 rcases Vv hc with h|h
 ·exact g.cells c h
 ·rw[h];exact hn,g.said⟩
theorem G5.at_{s:S5}(g:G5 s)(F:Nat):G5 (s.at_ F):=⟨g.len,g.cells,g.said⟩
def Tz:J5->Prop
 | .ex _ v s _ _ _=>G5 s/\GE5 v
 | .exs _ v s _ _ _=>G5 s/\GE5 v
 | .cal _ us s _ _=>G5 s/\∀n∈us,V5 n
 | .stm _ v s _ _ _ _=>G5 s/\GE5 v
 | .blk _ v s _ _ _ _=>G5 s/\GE5 v
 | .lp _ v s _ _ _ _=>G5 s/\GE5 v
def RJ:J5->Prop
 | .ex _ _ s _ s' r=>G5 s'/\s'.left<=s.left/\∀n,r= .ok n->V5 n
 | .exs _ _ s es s' r=>G5 s'/\s'.left<=s.left/\∀ns,r= .ok ns->ns.length=es.length/\∀n∈ns,V5 n
 | .cal _ _ s s' r=>G5 s'/\s'.left<=s.left/\∀n,r= .ok n->V5 n
 | .stm _ _ s _ v' s' r=>G5 s'/\s'.left<=s.left/\GE5 v'/\∀n,r= .ok (some n)->V5 n
 | .blk _ _ s _ v' s' r=>G5 s'/\s'.left<=s.left/\GE5 v'/\∀n,r= .ok (some n)->V5 n
 | .lp _ _ s _ v' s' r=>G5 s'/\s'.left<=s.left/\GE5 v'/\∀n,r= .ok (some n)->V5 n
theorem GE5.tail{m:Sc5}{v:List Sc5}(g:GE5 (m::v)):GE5 v:=λq hq=>g q (by simp[hq])
theorem GE5.opn{v:List Sc5}(g:GE5 v):GE5 ([]::v):=λq hq=>by
 rcases UK.1 hq with rfl|hq
 ·intro x hx;cases hx
 ·exact g q hq
theorem da{l:List Fd}{j:J5}(h:Ev l j):Tz j->RJ j:=by
 induction h with
 |num _ h=>exact λp=>⟨p.1,UM _,λn e=>by cases e;exact h⟩
 |var _ h=>exact λp=>⟨p.1,UM _,λn e=>by cases e;exact uD p.2 h⟩
 |call _ _ _ _ _ i1 i2=>
   intro p
   have a:=i1 p
   have b:=i2 ⟨a.1,(a.2.2 _ rfl).2⟩
   exact⟨b.1,UR b.2.1 a.2.1,b.2.2⟩
 |callS _ _ i1=>
   intro p
   have a:=i1 p
   exact⟨a.1,a.2.1,λn e=>by cases e⟩
 |firstS _ _ _ _ i1=>
   intro p
   have a:=i1 p
   exact⟨a.1,a.2.1,λn e=>by cases e⟩
 |and0 _ _ _ i1=>
   intro p
   have a:=i1 p
   exact⟨a.1,a.2.1,λn e=>by cases e;exact⟨by omega,by omega⟩⟩
 |and1 _ _ _ _ _ i1 i2=>
   intro p
   have a:=i1 p
   have b:=i2 ⟨a.1,p.2⟩
   exact⟨b.1,UR b.2.1 a.2.1,λn e=>by cases e;exact gJ _⟩
 |andS _ _ _ _ _ i1 i2=>
   intro p
   have a:=i1 p
   have b:=i2 ⟨a.1,p.2⟩
   exact⟨b.1,UR b.2.1 a.2.1,λn e=>by cases e⟩
 |not _ _ _ i1=>
   intro p
   have a:=i1 p
   exact⟨a.1,a.2.1,λn e=>by cases e;exact gJ _⟩
 |at_ _ _ _ _ hm i1=>
   intro p
   have a:=i1 p
   exact⟨a.1,a.2.1,λn e=>by cases e;exact a.1.cells _ (UF hm)⟩
 |atS _ _ _ _ i1=>
   intro p
   have a:=i1 p
   exact⟨a.1,a.2.1,λn e=>by cases e⟩
 |bin _ _ _ _ _ ht i1 i2=>
   intro p
   have a:=i1 p
   have b:=i2 ⟨a.1,p.2⟩
   exact⟨b.1,UR b.2.1 a.2.1,λn e=>by cases e;exact BC (a.2.2 _ rfl) (b.2.2 _ rfl) ht⟩
 |binS _ _ _ _ _ i1 i2=>
   intro p
   have a:=i1 p
   have b:=i2 ⟨a.1,p.2⟩
   exact⟨b.1,UR b.2.1 a.2.1,λn e=>by cases e⟩
 |binD _ _ _ _ _ _ i1 i2=>
   intro p
   have a:=i1 p
   have b:=i2 ⟨a.1,p.2⟩
   exact⟨b.1,UR b.2.1 a.2.1,λn e=>by cases e⟩
 |nil=>exact λp=>⟨p.1,UM _,λns e=>by cases e;exact⟨rfl,λn h=>by cases h⟩⟩
 |cons _ _ i1 i2=>
   intro p
   have a:=i1 p
   have b:=i2 ⟨a.1,p.2⟩
   refine⟨b.1,UR b.2.1 a.2.1,λns e=>?_⟩
   cases e
   obtain⟨k1,k2⟩:=b.2.2 _ rfl
   refine⟨by simp[k1],λn hn=>?_⟩
   rcases UK.1 hn with rfl|hn
   ·exact a.2.2 _ rfl
   ·exact k2 n hn
 |consS _ i1=>
   intro p
   have a:=i1 p
   exact⟨a.1,a.2.1,λn e=>by cases e⟩
 |consT _ _ i1 i2=>
   intro p
   have a:=i1 p
   have b:=i2 ⟨a.1,p.2⟩
   exact⟨b.1,UR b.2.1 a.2.1,λn e=>by cases e⟩
 | @cal k f us s v' s' r _ _ _ i1=>
    intro p
    have a:=i1 ⟨p.1,λm hm x hx=>by
     rw[UL.1 hm] at hx
     exact p.2 _ (List.of_mem_zip hx).2⟩
    refine⟨a.1,a.2.1,λn e=>?_⟩
    match r,e with
    | .ok (some q),e=>cases e;exact a.2.2.2 _ rfl
    | .ok none,e=>cases e;exact⟨by omega,by omega⟩
 |bnil=>exact λp=>⟨p.1,UM _,p.2,λn e=>by cases e⟩
 |bfuel _=>exact λp=>⟨p.1,UM _,p.2,λn e=>by cases e⟩
 | @bgo k v s x r F v1 s1 v2 s2 q hF _ _ i1 i2=>
    intro p
    have a:=i1 ⟨p.1.at_ F,p.2⟩
    have b:=i2 ⟨a.1,a.2.2.1⟩
    have h1:s1.left<=F:=a.2.1
    exact⟨b.1,by have:=b.2.1;omega,b.2.2⟩
 | @bend k v s x r F v1 s1 q hF _ _ i1=>
    intro p
    have a:=i1 ⟨p.1.at_ F,p.2⟩
    have h1:s1.left<=F:=a.2.1
    exact⟨a.1,by omega,a.2.2⟩
 |argS _ _ _ i1=>
   intro p
   have a:=i1 p
   exact⟨a.1,a.2.1,p.2,λn e=>by cases e⟩
 | @slet k v s x a s1 n m up _ _ _ hv _ i1=>
    intro p
    have a:=i1 p
    subst hv
    refine⟨a.1,a.2.1,λq hq=>?_,λn e=>by cases e⟩
    rcases UK.1 hq with rfl|hq
    ·intro y hy
     rcases UJ.1 hy with h|h
     ·exact p.2 m (by simp) y h
     ·rw[UL.1 h];exact a.2.2 _ rfl
    ·exact p.2 q (by simp[hq])
 |sset _ _ _ _ i1=>
   intro p
   have a:=i1 p
   exact⟨a.1,a.2.1,BE p.2 (a.2.2 _ rfl),λn e=>by cases e⟩
 |ssay _ _ _ i1=>
   intro p
   have a:=i1 p
   exact⟨a.1.say (a.2.2 _ rfl),a.2.1,p.2,λn e=>by cases e⟩
 |sput _ _ _ _ _ i1 i2=>
   intro p
   have a:=i1 p
   have b:=i2 ⟨a.1,p.2⟩
   exact⟨b.1.put _ (b.2.2 _ rfl),UR b.2.1 a.2.1,p.2,λn e=>by cases e⟩
 |sputC _ _ _ _ _ i1 i2=>
   intro p
   have a:=i1 p
   have b:=i2 ⟨a.1,p.2⟩
   exact⟨b.1,UR b.2.1 a.2.1,p.2,λn e=>by cases e⟩
 |sputS _ _ _ _ i1 i2=>
   intro p
   have a:=i1 p
   have b:=i2 ⟨a.1,p.2⟩
   exact⟨b.1,UR b.2.1 a.2.1,p.2,λn e=>by cases e⟩
 |sif _ _ _ _ i1 i2=>
   intro p
   have a:=i1 p
   have b:=i2 ⟨a.1,p.2.opn⟩
   exact⟨b.1,UR b.2.1 a.2.1,b.2.2.1.tail,b.2.2.2⟩
 |sloop _ _ i1=>exact i1
 |sback _ _ _ i1=>
   intro p
   have a:=i1 p
   exact⟨a.1,a.2.1,p.2,λn e=>by cases e;exact a.2.2 _ rfl⟩
 |sdo _ _ _ i1=>
   intro p
   have a:=i1 p
   exact⟨a.1,a.2.1,p.2,λn e=>by cases e⟩
 |lpS _ _ i1=>
   intro p
   have a:=i1 p
   exact⟨a.1,a.2.1,p.2,λn e=>by cases e⟩
 |lp0 _ _ i1=>
   intro p
   have a:=i1 p
   exact⟨a.1,a.2.1,p.2,λn e=>by cases e⟩
 |lpEnd _ _ _ _ _ i1 i2=>
   intro p
   have a:=i1 p
   have b:=i2 ⟨a.1,p.2.opn⟩
   exact⟨b.1,UR b.2.1 a.2.1,b.2.2.1.tail,b.2.2.2⟩
 |lpFuel _ _ _ _ _ i1 i2=>
   intro p
   have a:=i1 p
   have b:=i2 ⟨a.1,p.2.opn⟩
   exact⟨b.1,UR b.2.1 a.2.1,b.2.2.1.tail,λn e=>by cases e⟩
 | @lpGo k v s x a s1 n m v' s2 F v'' s3 q _ _ _ _ hF _ i1 i2 i3=>
    intro p
    have a:=i1 p
    have b:=i2 ⟨a.1,p.2.opn⟩
    have c:=i3 ⟨b.1.at_ F,b.2.2.1.tail⟩
    have h1:s3.left<=F:=c.2.1
    have h2:s2.left<=s1.left:=b.2.1
    have h3:s1.left<=s.left:=a.2.1
    exact⟨c.1,by omega,c.2.2⟩
end
section
def er(m:Sc5):Scp:=m.map λx=>(x.1,0)
def ers(v:List Sc5):List Scp:=v.map er
theorem Co(s:List UInt8):∀m:Sc5,dL (er m) s=(bL m s).map λ_=>0
 |[]=>rfl
 |x::r=>by
  have ih:=Co s r
  simp only[dL,er] at ih
  by_cases h:x.1=s
  ·simp[dL,er,bL,h]
  ·simp only[dL,er,Ve,List.find?_cons,h,decide_false,bL,if_neg h]
   exact ih
theorem DR(s:List UInt8):∀v:List Sc5,jz (ers v) s=(gW v s).map λ_=>0
 |[]=>rfl
 |m::r=>by
  have ih:=DR s r
  simp only[ers] at ih
  rw[ers,Ve,jz,gW,Co]
  cases bL m s with
  |some n=>rfl
  |none=>exact ih
theorem Pw{m:Sc5}{s:List UInt8}{n:Int}(h:bL m s=none):er (m++[(s,n)])=gt (er m) s 0:=by
 induction m with
 |nil=>rfl
 |cons x r ih=>
  rw[bL] at h
  by_cases e:x.1=s
  ·rw[if_pos e] at h;cases h
  ·rw[if_neg e] at h
   have ih:=ih h
   simp only[er] at ih
   simp only[er,Vn,Ve,gt,if_neg e]
   rw[ih]
theorem LH{s:List UInt8}{n:Int}:∀m:Sc5,er (sset m s n)=er m
 |[]=>rfl
 |x::r=>by
  have ih:=LH (s:=s) (n:=n) r
  simp only[er] at ih
  rw[sset]
  split
  ·rename_i e;simp[er,←e]
  ·simp[er,ih]
theorem Cm{s:List UInt8}{n:Int}:∀v:List Sc5,ers (gf v s n)=ers v
 |[]=>rfl
 |m::r=>by
  have ih:=Cm (s:=s) (n:=n) r
  rw[gf]
  split
  ·simp only[ers,Ve,LH]
  ·simp only[ers,Ve] at ih⊢
   rw[ih]
theorem zR{v:List Sc5}{m:Sc5}{up:List Sc5}(h:ers v=ers (m::up)):∃m' up',v=m'::up'/\er m'=er m/\ers up'=ers up:=by
 cases v with
 |nil=>simp[ers] at h
 |cons m' up'=>
  simp only[ers,Ve,List.cons.injEq] at h
  exact⟨m',up',rfl,h.1,h.2⟩
def Kn(vs:List LV)(v:List Sc5):Prop:=∀t,(lkV vs t).isSome=(gW v t).isSome
theorem Lu{b:Nat}{vs:List LV}{v:List Sc5}(h:SR g0 b vs (ers v)):Kn vs v:=λt=>by
 rw[h.is t,DR,Option.isSome_map]
def MD(l:List Fd)(F:Nat):Prop:=∀(k:Nat) (vs:List LV) (d:Nat) (e:Ex) (v:List Sc5) (s:S5),oJ l k vs e 0=0->cm d e=true->Kn vs v->G5 s->GE5 v->s.left<=F->∃s' r,Ev l (.ex k v s e s' r)
def Qa(l:List Fd)(F:Nat):Prop:=∀(j:Nat) (f:Fd) (us:List Int) (s:S5),l[j]?=some f->f.params.length=us.length->G5 s->(∀n∈us,V5 n)->s.left<=F->∃s' r,Ev l (.cal j us s s' r)
def Ix(l:List Fd)(F:Nat):Prop:=∀(k:Nat) (xs:List Sm) (b:Nat) (w:WS) (m:Sc5) (up:List Sc5) (s:S5),(∀x∈xs,∃d,az d x=true)->(bM l k b xs w).code=0->SR g0 b w.vs (ers (m::up))->G5 s->GE5 (m::up)->s.left<=F->
 ∃m' up' s' r,Ev l (.blk k (m::up) s xs (m'::up') s' r)/\ers up'=ers up
def OW(l:List Fd)(F:Nat):Prop:=∀(k:Nat) (x:Sm) (b:Nat) (w:WS) (m:Sc5) (up:List Sc5) (s:S5),(∃d,az d x=true)->(stW l k b x w).code=0->SR g0 b w.vs (ers (m::up))->G5 s->GE5 (m::up)->s.left<=F->
 ∃m' up' s' r,Ev l (.stm k (m::up) s x (m'::up') s' r)/\ers up'=ers up/\(r= .ok none->SR g0 b (stW l k b x w).vs (ers (m'::up')))
def MT(l:List Fd)(F:Nat):Prop:=∀(k:Nat) (x:Sm) (b:Nat) (w:WS) (v:List Sc5) (s:S5),(∃d,az d x=true)->x.op=6->(stW l k b x w).code=0->SR g0 b w.vs (ers v)->G5 s->GE5 v->s.left<=F->
 ∃v' s' r,Ev l (.lp k v s x v' s' r)/\ers v'=ers v
section
variable {l:List Fd}
theorem Ud{F:Nat}(hS:∀F',F'<F->OW l F')(hB:∀F',F'<F->Ix l F'):Ix l F:=by
 intro k xs b w m up s hf hz hR hg hv hl
 cases xs with
 |nil=>exact⟨m,up,s,_,.bnil,rfl⟩
 |cons x r=>
  rw[bM] at hz
  have hz1:=cQ hz
  rcases Nat.eq_zero_or_pos s.left with h0|h0
  ·exact⟨m,up,s,_,.bfuel h0,rfl⟩
  obtain⟨F',hF⟩:∃F',s.left=F'+1:=⟨s.left-1,by omega⟩
  obtain⟨m1,up1,s1,r1,e1,u1,R1⟩:=hS F' (by omega) k x b w m up (s.at_ F') (hf x (by simp)) hz1 hR (hg.at_ F') hv (UM _)
  have p1:=da e1 ⟨hg.at_ F',hv⟩
  have q1:s1.left<=F':=p1.2.1
  by_cases hq:r1= .ok none
  ·subst hq
   obtain⟨m2,up2,s2,r2,e2,u2⟩:=hB F' (by omega) k r b (stW l k b x w) m1 up1 s1 (λy hy=>hf y (by simp[hy])) hz (R1 rfl) p1.1 p1.2.2.1 q1
   exact⟨m2,up2,s2,r2,.bgo hF e1 e2,u2.trans u1⟩
  ·exact⟨m1,up1,s1,r1,.bend hF e1 hq,u1⟩
theorem Ky:∀(ps:List (List UInt8)) (us:List Int),ps.length=us.length->er (ps.zip us)=ps.map λs=>(s,0)
 |[],[],_=>rfl
 |p::r,u::t,h=>by
  have:=Ky r t (by simpa using h)
  simp only[er] at this
  simp[er,this]
 |[],_::_,h=>by simp at h
 |_::_,[],h=>by simp at h
theorem Ei:∀(ps:List (List UInt8)) (m:Scp) (c:Int),(jp ps m c).2=0->(jp ps m c).1=m++ps.map λs=>(s,0)
 |[],m,c,_=>by simp[jp]
 |s::r,m,c,h=>by
  have hh:(jp r (gt m s 0) (if(dL m s).isSome then fl c 2 else c)).2=0:=h
  have ih:=Ei r _ _ hh
  have hc:(if(dL m s).isSome then fl c 2 else c)=0:=by
   apply Classical.byContradiction
   intro hne
   have:=ur hne r (gt m s 0)
   rw[this] at hh
   exact hne hh
  have hn:dL m s=none:=by
   cases e:dL m s with
   |none=>rfl
   |some n=>
    rw[e] at hc
    simp only[Option.isSome_some,if_true,fl] at hc
    split at hc<;>omega
  have hset:∀m:Scp,dL m s=none->gt m s 0=m++[(s,0)]:=by
   intro m
   induction m with
   |nil=>intro _;rfl
   |cons x t iht=>
    intro hm
    by_cases hx:x.1=s
    ·simp[dL,hx] at hm
    ·rw[gt,if_neg hx,iht (by simpa[dL,hx] using hm)];rfl
  show(jp r (gt m s 0) (if(dL m s).isSome then fl c 2 else c)).1=_
  rw[ih,hset m hn]
  simp
theorem TE{F:Nat}(hc:aN l=0)(hB:Ix l F):Qa l F:=by
 intro j f us s hj hlen hg hu hl
 obtain⟨hp,hall⟩:=(Ck l).1 hc
 have hz:=hall j f hj
 rw[fnW] at hz
 have hpz:=cQ hz
 obtain⟨p1,p2⟩:=Dd f.params ⟨[],0,if bQ l f.name=some j then 0 else 2⟩ [] SR.base
 rw[hpz] at p2
 have hm:=Ei f.params [] _ p2.symm
 rw[hm,List.nil_append,←Ky f.params us hlen] at p1
 have hfo:=((lg l).1 hp).2.1 f (UF hj)
 have hbody:∀x∈f.body,∃d,az d x=true:=λx hx=>by
  simp only[kb,UT,UI] at hfo
  exact⟨4,hfo.2 x hx⟩
 obtain⟨m',up',s',r,e,hu2⟩:=hB j f.body 0 _ (f.params.zip us) [] s hbody hz p1 hg (λm hm x hx=>by
  rw[UL.1 hm] at hx
  exact hu _ (List.of_mem_zip hx).2) hl
 exact⟨s',_,.cal hj hlen e⟩
end
end
section
theorem inR5{n lo hi:Int}:inR n lo hi=true↔lo<=n/\n<=hi:=by simp[inR]
theorem Fj{α:Type}{l:List α}(h:l.length=1):∃a,l=[a]:=by
 match l,h with
 |[a],_=>exact⟨a,rfl⟩
theorem Mr{α:Type}{l:List α}(h:l.length=2):∃a b,l=[a,b]:=by
 match l,h with
 |[a,b],_=>exact⟨a,b,rfl⟩
section
variable {l:List Fd}
theorem nw{k:Nat}{vs:List LV}:∀(es:List Ex),bI l k vs es 0=0->∀e∈es,oJ l k vs e 0=0
 |[],_,e,he=>by cases he
 |x::r,h,e,he=>by
  rw[bI] at h
  have h0:=fU h
  rw[h0] at h
  rcases UK.1 he with rfl|he
  ·exact h0
  ·exact nw r h e he
theorem TO{F:Nat}(hc:aN l=0)(hC:Qa l F):MD l F:=by
 intro k vs d
 induction d with
 |zero=>intro e v s _ h;cases h
 |succ d ih=>
  intro e v s hz hf hk hg hv hl
  obtain⟨o,n,nm,ks⟩:=e
  rw[cm,UT,UI] at hf
  obtain⟨hh,hks⟩:=hf
  simp only[mK,UT] at hh
  obtain⟨⟨⟨⟨⟨ho,hkl⟩,_⟩,_⟩,hn⟩,_⟩:=hh
  have ho:1<=o/\o<=13:=inR5.1 ho
  have hkl:(loK o:Int)<=(ks.length:Int)/\(ks.length:Int)<=(hiK o:Int):=inR5.1 hkl
  have hn:V5 n:=inR5.1 hn
  have hks:∀x∈ks,cm d x=true:=hks
  rw[oJ] at hz
  have h0:=fU hz
  rw[h0] at hz
  have hkz:=nw ks hz
  rcases Int.lt_or_le 13 o with h13|h13
  ·omega
  by_cases h1:o=1
  ·exact⟨s,_,.num h1 hn⟩
  by_cases h2:o=2
  ·rw[jU,if_pos h2] at h0
   obtain⟨_,x,hx⟩:=BX h0
   have hs:=hk nm
   rw[hx] at hs
   obtain⟨q,hq⟩:=Option.isSome_iff_exists.1 hs.symm
   exact⟨s,_,.var h2 hq⟩
  by_cases h13':o=13
  ·subst h13'
   rw[jU,if_neg (by omega),if_pos rfl,lv] at h0
   have hfa:∃j f,bQ l nm=some j/\l[j]?=some f/\f.params.length=ks.length/\j<k:=by
    cases hj:bQ l nm with
    |none=>rw[hj] at h0;simp only[fl] at h0;simp at h0
    |some j=>
     rw[hj] at h0
     simp only[fl] at h0
     by_cases hkj:k<=j
     ·rw[if_pos hkj] at h0;simp at h0
     ·rw[if_neg hkj] at h0
      obtain⟨hjl,_,_⟩:=UU.1 hj
      have hg:=UC hjl
      refine⟨j,l[j],rfl,hg,?_,by omega⟩
      rw[AZ,hg] at h0
      simp only at h0
      by_cases hp:l[j].params.length=ks.length
      ·exact hp
      ·rw[if_neg hp] at h0;simp at h0
   obtain⟨j,f,hj,hjf,hpl,hjk⟩:=hfa
   have hargs:∀(es:List Ex) (s:S5),(∀e∈es,e∈ks)->G5 s->s.left<=F->∃s' r,Ev l (.exs k v s es s' r):=by
    intro es
    induction es with
    |nil=>intro s _ _ _;exact⟨s,_,.nil⟩
    |cons a r ihr=>
     intro s hm g hs
     obtain⟨s1,r1,e1⟩:=ih a v s (hkz a (hm a (by simp))) (hks a (hm a (by simp))) hk g hv hs
     have p1:=da e1 ⟨g,hv⟩
     cases r1 with
     |st c=>exact⟨s1,_,.consS e1⟩
     |ok q=>
      obtain⟨s2,r2,e2⟩:=ihr s1 (λx hx=>hm x (by simp[hx])) p1.1 (UR p1.2.1 hs)
      cases r2 with
      |st c=>exact⟨s2,_,.consT e1 e2⟩
      |ok ns=>exact⟨s2,_,.cons e1 e2⟩
   obtain⟨s1,r1,e1⟩:=hargs ks s (λ_ h=>h) hg hl
   have p1:=da e1 ⟨hg,hv⟩
   cases r1 with
   |st c=>exact⟨s1,_,.callS rfl e1⟩
   |ok us=>
    obtain⟨q1,q2⟩:=p1.2.2 _ rfl
    obtain⟨s2,r2,e2⟩:=hC j f us s1 hjf (by rw[hpl,q1]) p1.1 q2 (UR p1.2.1 hl)
    exact⟨s2,_,.call rfl e1 hj hjk e2⟩
  have hlo:3<=o:=by omega
  have hhi:o<=12:=by omega
  by_cases h11:o=11\/o=12
  ·have hl1:ks.length=1:=by
    have e1:loK o=1:=by unfold loK;rw[if_neg (by omega),if_pos h11]
    have e2:hiK o=1:=by unfold hiK;rw[if_neg (by omega),if_pos h11]
    rw[e1,e2] at hkl;omega
   obtain⟨a,rfl⟩:=Fj hl1
   obtain⟨s1,r1,e1⟩:=ih a v s (hkz a (by simp)) (hks a (by simp)) hk hg hv hl
   have p1:=da e1 ⟨hg,hv⟩
   cases r1 with
   |st c=>exact⟨s1,_,.firstS hlo hhi rfl e1⟩
   |ok q=>
    obtain⟨q0,q1⟩:=p1.2.2 _ rfl
    rcases h11 with h11|h12
    ·exact⟨s1,_,.not h11 rfl e1⟩
    ·obtain⟨i,rfl⟩:∃i:Nat,q=i:=⟨q.toNat,by omega⟩
     by_cases hi:i<16
     ·have hg2:s1.cells[i]?=some (s1.cells[i]'(by rw[p1.1.len];exact hi)):=UC _
      exact⟨s1,_,.at_ h12 rfl e1 hi hg2⟩
     ·exact⟨s1,_,.atS h12 rfl e1 (by omega)⟩
  ·have hl2:ks.length=2:=by
    have e1:loK o=2:=by unfold loK;rw[if_neg (by omega),if_neg h11,if_neg h13']
    have e2:hiK o=2:=by unfold hiK;rw[if_neg (by omega),if_neg h11,if_neg h13']
    rw[e1,e2] at hkl;omega
   obtain⟨a,b,rfl⟩:=Mr hl2
   obtain⟨s1,r1,e1⟩:=ih a v s (hkz a (by simp)) (hks a (by simp)) hk hg hv hl
   have p1:=da e1 ⟨hg,hv⟩
   cases r1 with
   |st c=>exact⟨s1,_,.firstS hlo hhi rfl e1⟩
   |ok q=>
    by_cases h10:o=10/\q=0
    ·obtain⟨h10,rfl⟩:=h10
     exact⟨s1,_,.and0 h10 rfl e1⟩
    obtain⟨s2,r2,e2⟩:=ih b v s1 (hkz b (by simp)) (hks b (by simp)) hk p1.1 hv (UR p1.2.1 hl)
    by_cases ho10:o=10
    ·have hq:q≠0:=λe=>h10 ⟨ho10,e⟩
     cases r2 with
     |st c=>exact⟨s2,_,.andS ho10 rfl e1 hq e2⟩
     |ok m=>exact⟨s2,_,.and1 ho10 rfl e1 hq e2⟩
    ·have hle9:o<=9:=by omega
     cases r2 with
     |st c=>exact⟨s2,_,.binS hlo hle9 rfl e1 e2⟩
     |ok m=>
      cases ht:Dk o q m with
      |none=>exact⟨s2,_,.binD hlo hle9 rfl e1 e2 ht⟩
      |some t=>exact⟨s2,_,.bin hlo hle9 rfl e1 e2 ht⟩
end
end
section
structure Fine5 (l:List Fd) (k b:Nat) (x:Sm) (w:WS):Prop where
 code:w.code=0
 args:bI l k w.vs x.args 0=0
 op:(opW x.op x.name b ⟨w.vs,w.count,0⟩).code=0
 body:(bM l k (b+1) x.body (opW x.op x.name b ⟨w.vs,w.count,0⟩)).code=0
 els:∃w3:WS,w3.vs=(opW x.op x.name b ⟨w.vs,w.count,0⟩).vs/\(bM l k (b+1) x.els w3).code=0
 vs:(stW l k b x w).vs=(opW x.op x.name b ⟨w.vs,w.count,0⟩).vs
theorem Ox{l:List Fd}{k b:Nat}{x:Sm}{w:WS}(hz:(stW l k b x w).code=0):Fine5 l k b x w:=by
 obtain⟨o,nm,a,bd,el⟩:=x
 have hz0:=hz
 rw[stW,dA] at hz
 have z1:=cQ hz
 rw[dA] at z1
 have z2:=cQ z1
 have z3:bI l k w.vs a w.code=0:=Al z2
 have hc:=fU z3
 rw[z3] at z2 z1 hz
 have z3':=z3
 rw[hc] at z3'
 refine⟨hc,z3',z2,z1,⟨(bM l k (b+1) bd (opW o nm b ⟨w.vs,w.count,0⟩)).back (opW o nm b ⟨w.vs,w.count,0⟩).vs,rfl,hz⟩,?_⟩
 rw[Gd,z3];rfl
theorem pa{o:Int}{nm:List UInt8}{b:Nat}{w:WS}(h:o≠1):(opW o nm b w).vs=w.vs:=by
 unfold opW
 rw[if_neg h]
 split<;>rfl
theorem LA{d:Nat}{x:Sm}(h:az d x=true):(1<=x.op/\x.op<=8)/\x.args.length=gz x.op/\(∀a∈x.args,lZ a=true)/\(∀y∈x.body,∃d,az d y=true)/\(∀y∈x.els,∃d,az d y=true):=by
 cases d with
 |zero=>cases h
 |succ d=>
  rw[az,UT,UT,UI,UI] at h
  obtain⟨⟨h1,h2⟩,h3⟩:=h
  simp only[jn,UT,UI] at h1
  obtain⟨⟨⟨⟨⟨⟨⟨p1,p2⟩,_⟩,_⟩,p5⟩,_⟩,_⟩,_⟩:=h1
  exact⟨inR5.1 p1,of_decide_eq_true p2,p5,λy hy=>⟨d,h2 y hy⟩,λy hy=>⟨d,h3 y hy⟩⟩
theorem uU{a:Ex}(h:lZ a=true):cm 6 a=true:=by rw[lZ,UT] at h;exact h.1
section
variable {l:List Fd}
theorem Tl{F:Nat}(hE:MD l F)(hB:Ix l F)(hL:∀F',F'<F->MT l F'):MT l F:=by
 intro k x b w v s hf ho hz hR hg hv hl
 obtain⟨d,hd⟩:=hf
 obtain⟨_,hal,hae,hbo,_⟩:=LA hd
 have Fn:=Ox hz
 have hal1:x.args.length=1:=by rw[hal,gz,if_neg (by omega)]
 obtain⟨a,ha⟩:=Fj hal1
 have haz:=nw x.args Fn.args a (by rw[ha];simp)
 obtain⟨s1,r1,e1⟩:=hE k w.vs 6 a v s haz (uU (hae a (by rw[ha];simp))) (Lu hR) hg hv hl
 have p1:=da e1 ⟨hg,hv⟩
 cases r1 with
 |st c=>exact⟨v,s1,_,.lpS ha e1,rfl⟩
 |ok n=>
  by_cases hn:n=0
  ·subst hn;exact⟨v,s1,_,.lp0 ha e1,rfl⟩
  have hsame:(opW x.op x.name b ⟨w.vs,w.count,0⟩).vs=w.vs:=pa (by omega)
  have hR2:SR g0 (b+1) (opW x.op x.name b ⟨w.vs,w.count,0⟩).vs (ers ([]::v)):=by
   rw[hsame];exact hR.open
  obtain⟨m2,v2,s2,r2,e2,u2⟩:=hB k x.body (b+1) _ [] v s1 hbo Fn.body hR2 p1.1 hv.opn (UR p1.2.1 hl)
  have p2:=da e2 ⟨p1.1,hv.opn⟩
  by_cases hq:r2= .ok none
  ·subst hq
   rcases Nat.eq_zero_or_pos s2.left with h0|h0
   ·exact⟨v2,s2,_,.lpFuel ha e1 hn e2 h0,u2⟩
   obtain⟨F',hF⟩:∃F',s2.left=F'+1:=⟨s2.left-1,by omega⟩
   have hlt:F'<F:=by have:=p2.2.1;have:=p1.2.1;omega
   obtain⟨v3,s3,r3,e3,u3⟩:=hL F' hlt k x b w v2 (s2.at_ F') ⟨d,hd⟩ ho hz (by rw[u2];exact hR) (p2.1.at_ F') p2.2.2.1.tail (UM _)
   exact⟨v3,s3,_,.lpGo ha e1 hn e2 hF e3,u3.trans u2⟩
  ·exact⟨v2,s2,_,.lpEnd ha e1 hn e2 hq,u2⟩
theorem Ug{F:Nat}(hE:MD l F)(hB:Ix l F)(hL:MT l F):OW l F:=by
 intro k x b w m up s hf hz hR hg hv hl
 obtain⟨d,hd⟩:=hf
 obtain⟨⟨ho1,ho8⟩,hal,hae,hbo,heo⟩:=LA hd
 have Fn:=Ox hz
 by_cases h6:x.op=6
 ·obtain⟨v',s',r,e,u⟩:=hL k x b w (m::up) s ⟨d,hd⟩ h6 hz hR hg hv hl
  obtain⟨m',up',rfl,u1,u2⟩:=zR u
  refine⟨m',up',s',r,.sloop h6 e,u2,λ_=>?_⟩
  rw[Fn.vs,pa (by omega),u]
  exact hR
 have hex:∀a∈x.args,∀s:S5,G5 s->s.left<=F->∃s' r,Ev l (.ex k (m::up) s a s' r):=λa ha s g hs=>
  hE k w.vs 6 a (m::up) s (nw x.args Fn.args a ha) (uU (hae a ha)) (Lu hR) g hv hs
 by_cases h4:x.op=4
 ·have hal2:x.args.length=2:=by rw[hal,gz,if_pos h4]
  obtain⟨a,c,ha⟩:=Mr hal2
  have hR':SR g0 b (stW l k b x w).vs (ers (m::up)):=by rw[Fn.vs,pa (by omega)];exact hR
  obtain⟨s1,r1,e1⟩:=hex a (by rw[ha];simp) s hg hl
  have p1:=da e1 ⟨hg,hv⟩
  cases r1 with
  |st q=>exact⟨m,up,s1,_,.argS h6 ha e1,rfl,λ_=>hR'⟩
  |ok n=>
   obtain⟨n0,n1⟩:=p1.2.2 _ rfl
   obtain⟨s2,r2,e2⟩:=hex c (by rw[ha];simp) s1 p1.1 (UR p1.2.1 hl)
   cases r2 with
   |st q=>exact⟨m,up,s2,_,.sputS h4 ha e1 e2,rfl,λ_=>hR'⟩
   |ok q=>
    obtain⟨i,rfl⟩:∃i:Nat,n=i:=⟨n.toNat,by omega⟩
    by_cases hi:i<16
    ·exact⟨m,up,_,_,.sput h4 ha e1 e2 hi,rfl,λ_=>hR'⟩
    ·exact⟨m,up,s2,_,.sputC h4 ha e1 e2 (by omega),rfl,λ_=>hR'⟩
 have hal1:x.args.length=1:=by rw[hal,gz,if_neg h4]
 obtain⟨a,ha⟩:=Fj hal1
 obtain⟨s1,r1,e1⟩:=hex a (by rw[ha];simp) s hg hl
 have p1:=da e1 ⟨hg,hv⟩
 have hsame:x.op≠1->SR g0 b (stW l k b x w).vs (ers (m::up)):=λh=>by rw[Fn.vs,pa h];exact hR
 cases r1 with
 |st q=>exact⟨m,up,s1,_,.argS h6 ha e1,rfl,λh=>by cases h⟩
 |ok n=>
  by_cases h1:x.op=1
  ·have hput:(gV ⟨w.vs,w.count,0⟩ x.name b).code=0:=by
    have:=Fn.op
    rw[opW,if_pos h1] at this
    exact this
   have hput2:pU w.vs x.name b 0=0:=hput
   have hR1:SR g0 b w.vs (er m::ers up):=hR
   rw[hR1.put] at hput2
   have hno:bL m x.name=none:=by
    cases e:bL m x.name with
    |none=>rfl
    |some q=>
     rw[Co,e] at hput2
     simp[fl] at hput2
   refine⟨_,up,s1,_,.slet h1 ha e1 rfl hno,rfl,λ_=>?_⟩
   rw[Fn.vs,opW,if_pos h1]
   have:=hR1.add x.name w.count 0 rfl
   rw[←Pw (n:=n) hno] at this
   exact this
  by_cases h2:x.op=2
  ·have huse:oT w.vs x.name 0=0:=by
    have:=Fn.op
    rw[opW,if_neg h1,if_pos h2] at this
    exact this
   obtain⟨_,q,hq⟩:=BX huse
   have hs:(gW (m::up) x.name).isSome=true:=by rw[←Lu hR x.name,hq];rfl
   have hev:=Ev.sset (l:=l) h2 ha e1 hs
   obtain⟨m',up',e,_,u2⟩:=zR (Cm (s:=x.name) (n:=n) (m::up))
   have hu:ers (m'::up')=ers (m::up):=by rw[←e];exact Cm _
   rw[e] at hev
   exact⟨m',up',s1,_,hev,u2,λ_=>by rw[hu];exact hsame h1⟩
  by_cases h3:x.op=3
  ·exact⟨m,up,_,_,.ssay h3 ha e1,rfl,λ_=>hsame h1⟩
  by_cases h5:x.op=5
  ·have hsv:(opW x.op x.name b ⟨w.vs,w.count,0⟩).vs=w.vs:=pa h1
   obtain⟨w3,hw3,hez⟩:=Fn.els
   have hB':∃m2 v2 s2 r2,Ev l (.blk k ([]::m::up) s1 (if n≠0 then x.body else x.els) (m2::v2) s2 r2)/\ers v2=ers (m::up):=by
    by_cases hn:n≠0
    ·rw[if_pos hn]
     exact hB k x.body (b+1) _ [] (m::up) s1 hbo Fn.body (by rw[hsv];exact hR.open) p1.1 hv.opn (UR p1.2.1 hl)
    ·rw[if_neg hn]
     exact hB k x.els (b+1) w3 [] (m::up) s1 heo hez (by rw[hw3,hsv];exact hR.open) p1.1 hv.opn (UR p1.2.1 hl)
   obtain⟨m2,v2,s2,r2,e2,u2⟩:=hB'
   obtain⟨m',up',rfl,u3,u4⟩:=zR u2
   exact⟨m',up',s2,r2,.sif h5 ha e1 e2,u4,λ_=>by rw[u2];exact hsame h1⟩
  by_cases h7:x.op=7
  ·exact⟨m,up,s1,_,.sback h7 ha e1,rfl,λh=>by cases h⟩
  ·exact⟨m,up,s1,_,.sdo (by omega) ha e1,rfl,λ_=>hsame h1⟩
theorem Nr(hc:aN l=0):∀F,Qa l F/\MD l F/\Ix l F/\OW l F/\MT l F:=by
 intro F
 induction F using Nat.strongRecOn with
 |_ F ih=>
  have hB:=Ud (l:=l) (F:=F) (λF' h=>(ih F' h).2.2.2.1) (λF' h=>(ih F' h).2.2.1)
  have hC:=TE hc hB
  have hE:=TO hc hC
  have hL:=Tl hE hB (λF' h=>(ih F' h).2.2.2.2)
  exact⟨hC,hE,hB,Ug hE hB hL,hL⟩
end
def s0(fuel:Nat):S5:=⟨fuel,[],List.replicate 16 0⟩
theorem ng(fuel:Nat):G5 (s0 fuel):=⟨by simp[s0],λc hc=>by rw[(List.mem_replicate.1 hc).2];exact⟨by omega,by omega⟩,λc hc=>by cases hc⟩
theorem Tw{l:List Fd}(hc:aN l=0){f:Fd}(hf:l[l.length-1]?=some f){us:List Int}(hl:us.length=f.params.length)(hu:∀n∈us,V5 n)(fuel:Nat):
 ∃s' r,Ev l (.cal (l.length-1) us (s0 fuel) s' r)/\G5 s'/\s'.left<=fuel/\∀n,r= .ok n->V5 n:=by
 obtain⟨s',r,e⟩:=(Nr hc fuel).1 (l.length-1) f us (s0 fuel) hf hl.symm (ng fuel) hu (UM _)
 have p:=da e ⟨ng fuel,hu⟩
 exact⟨s',r,e,p.1,p.2.1,p.2.2⟩
end
section
def S5.dn(s:S5)(c:Nat):S5:=⟨s.left-c,s.said,s.cells⟩
def Ec:J5->Prop
 | .stm _ v _ _ v' _ _=>v'.length=v.length
 | .blk _ v _ _ v' _ _=>v'.length=v.length
 | .lp _ v _ _ v' _ _=>v'.length=v.length
 |_=>True
theorem Dz(s:List UInt8)(n:Int):∀v:List Sc5,(gf v s n).length=v.length
 |[]=>rfl
 |m::r=>by
  rw[gf]
  split
  ·rfl
  ·simp[Dz s n r]
theorem Rx{l:List Fd}{j:J5}(h:Ev l j):Ec j:=by
 induction h with
 |bgo _ _ _ i1 i2=>exact i2.trans i1
 |bend _ _ _ i1=>exact i1
 |slet _ _ _ hv _ _=>subst hv;rfl
 |sset _ _ _ _ _=>exact Dz _ _ _
 |sif _ _ _ _ _ i2=>simpa[Ec] using i2
 |sloop _ _ i1=>exact i1
 |lpEnd _ _ _ _ _ _ i2=>simpa[Ec] using i2
 |lpFuel _ _ _ _ _ _ i2=>simpa[Ec] using i2
 |lpGo _ _ _ _ _ _ _ i2 i3=>exact i3.trans (by simpa[Ec] using i2)
 |_=>first|trivial|rfl
theorem uk{l:List Fd}{k:Nat}{v:List Sc5}{s:S5}{xs:List Sm}{w:List Sc5}{s':S5}{r:O5 (Option Int)}(h:Ev l (.blk k ([]::v) s xs w s' r)):∃m up,w=m::up:=by
 have e:w.length=([]::v:List Sc5).length:=Rx h
 match w,e with
 |m::up,_=>exact⟨m,up,rfl⟩
def Cut(l:List Fd):J5->Prop
 | .ex k v s e s' r=>s.said<+:s'.said/\s'.left<=s.left/\∀c,c<=s.left->(r≠ .st 3->c<=s'.left->Ev l (.ex k v (s.dn c) e (s'.dn c) r))/\((r= .st 3\/s'.left<c)->∃s1,Ev l (.ex k v (s.dn c) e s1 (.st 3))/\s1.said<+:s'.said)
 | .exs k v s e s' r=>s.said<+:s'.said/\s'.left<=s.left/\∀c,c<=s.left->(r≠ .st 3->c<=s'.left->Ev l (.exs k v (s.dn c) e (s'.dn c) r))/\((r= .st 3\/s'.left<c)->∃s1,Ev l (.exs k v (s.dn c) e s1 (.st 3))/\s1.said<+:s'.said)
 | .cal k us s s' r=>s.said<+:s'.said/\s'.left<=s.left/\∀c,c<=s.left->(r≠ .st 3->c<=s'.left->Ev l (.cal k us (s.dn c) (s'.dn c) r))/\((r= .st 3\/s'.left<c)->∃s1,Ev l (.cal k us (s.dn c) s1 (.st 3))/\s1.said<+:s'.said)
 | .stm k v s x v' s' r=>s.said<+:s'.said/\s'.left<=s.left/\∀c,c<=s.left->(r≠ .st 3->c<=s'.left->Ev l (.stm k v (s.dn c) x v' (s'.dn c) r))/\((r= .st 3\/s'.left<c)->∃v1 s1,Ev l (.stm k v (s.dn c) x v1 s1 (.st 3))/\s1.said<+:s'.said)
 | .blk k v s x v' s' r=>s.said<+:s'.said/\s'.left<=s.left/\∀c,c<=s.left->(r≠ .st 3->c<=s'.left->Ev l (.blk k v (s.dn c) x v' (s'.dn c) r))/\((r= .st 3\/s'.left<c)->∃v1 s1,Ev l (.blk k v (s.dn c) x v1 s1 (.st 3))/\s1.said<+:s'.said)
 | .lp k v s x v' s' r=>s.said<+:s'.said/\s'.left<=s.left/\∀c,c<=s.left->(r≠ .st 3->c<=s'.left->Ev l (.lp k v (s.dn c) x v' (s'.dn c) r))/\((r= .st 3\/s'.left<c)->∃v1 s1,Ev l (.lp k v (s.dn c) x v1 s1 (.st 3))/\s1.said<+:s'.said)
theorem Mx{l:List Fd}{j:J5}(h:Ev l j):Cut l j:=by
 induction h with
 |num h1 h2=>
  refine⟨List.prefix_refl _,UM _,λc hc=>⟨λ_ _=> .num h1 h2,λh=>?_⟩⟩
  rcases h with h|h
  ·cases h
  ·omega
 |var h1 h2=>
  refine⟨List.prefix_refl _,UM _,λc hc=>⟨λ_ _=> .var h1 h2,λh=>?_⟩⟩
  rcases h with h|h
  ·cases h
  ·omega
 | @call k v s e s1 us j s2 r h1 _ h3 h4 _ i1 i2=>
   refine⟨i1.1.trans i2.1,UR i2.2.1 i1.2.1,λc hc=>⟨λhr hl=>?_,λh=>?_⟩⟩
   ·have hl1:=UR hl i2.2.1
    have d1:=(i1.2.2 c hc).1 (λh=>by cases h) hl1
    have d2:=(i2.2.2 c hl1).1 hr hl
    exact .call h1 d1 h3 h4 d2
   ·by_cases hl1:c<=s1.left
    ·have d1:=(i1.2.2 c hc).1 (λh=>by cases h) hl1
     obtain⟨t2,d2,q2⟩:=(i2.2.2 c hl1).2 h
     exact⟨_,.call h1 d1 h3 h4 d2,q2⟩
    ·obtain⟨t1,d1,q1⟩:=(i1.2.2 c hc).2 (.inr (by omega))
     exact⟨_,.callS h1 d1,(q1.trans i2.1)⟩
 |callS h1 _ i1=>
  refine⟨i1.1,i1.2.1,λc hc=>⟨λhr hl=>?_,λh=>?_⟩⟩
  ·have d1:=(i1.2.2 c hc).1 (λh=>hr (by cases h;rfl)) hl
   exact .callS h1 d1
  ·obtain⟨t1,d1,q1⟩:=(i1.2.2 c hc).2 (h.imp (λe=>by cases e;rfl) id)
   exact⟨_,.callS h1 d1,q1⟩
 |firstS h1 h2 h3 _ i1=>
  refine⟨i1.1,i1.2.1,λc hc=>⟨λhr hl=>?_,λh=>?_⟩⟩
  ·have d1:=(i1.2.2 c hc).1 (λh=>hr (by cases h;rfl)) hl
   exact .firstS h1 h2 h3 d1
  ·obtain⟨t1,d1,q1⟩:=(i1.2.2 c hc).2 (h.imp (λe=>by cases e;rfl) id)
   exact⟨_,.firstS h1 h2 h3 d1,q1⟩
 |and0 h1 h2 _ i1=>
  refine⟨i1.1,i1.2.1,λc hc=>⟨λhr hl=>?_,λh=>?_⟩⟩
  ·have d1:=(i1.2.2 c hc).1 (λh=>by cases h) hl
   exact .and0 h1 h2 d1
  ·obtain⟨t1,d1,q1⟩:=(i1.2.2 c hc).2 (.inr (h.resolve_left (λh=>by cases h)))
   exact⟨_,.firstS (by omega) (by omega) h2 d1,q1⟩
 | @and1 k v s e a b s1 n s2 m h1 h2 _ h4 _ i1 i2=>
   refine⟨i1.1.trans i2.1,UR i2.2.1 i1.2.1,λc hc=>⟨λhr hl=>?_,λh=>?_⟩⟩
   ·have hl1:=UR hl i2.2.1
    have d1:=(i1.2.2 c hc).1 (λh=>by cases h) hl1
    have d2:=(i2.2.2 c hl1).1 (λh=>by cases h) hl
    exact .and1 h1 h2 d1 h4 d2
   ·by_cases hl1:c<=s1.left
    ·have d1:=(i1.2.2 c hc).1 (λh=>by cases h) hl1
     obtain⟨t2,d2,q2⟩:=(i2.2.2 c hl1).2 (.inr (h.resolve_left (λh=>by cases h)))
     exact⟨_,.andS h1 h2 d1 h4 d2,q2⟩
    ·obtain⟨t1,d1,q1⟩:=(i1.2.2 c hc).2 (.inr (by omega))
     exact⟨_,.firstS (by omega) (by omega) h2 d1,(q1.trans i2.1)⟩
 | @andS k v s e a b s1 n s2 c0 h1 h2 _ h4 _ i1 i2=>
   refine⟨i1.1.trans i2.1,UR i2.2.1 i1.2.1,λc hc=>⟨λhr hl=>?_,λh=>?_⟩⟩
   ·have hl1:=UR hl i2.2.1
    have d1:=(i1.2.2 c hc).1 (λh=>by cases h) hl1
    have d2:=(i2.2.2 c hl1).1 (λh=>hr (by cases h;rfl)) hl
    exact .andS h1 h2 d1 h4 d2
   ·by_cases hl1:c<=s1.left
    ·have d1:=(i1.2.2 c hc).1 (λh=>by cases h) hl1
     obtain⟨t2,d2,q2⟩:=(i2.2.2 c hl1).2 (h.imp (λe=>by cases e;rfl) id)
     exact⟨_,.andS h1 h2 d1 h4 d2,q2⟩
    ·obtain⟨t1,d1,q1⟩:=(i1.2.2 c hc).2 (.inr (by omega))
     exact⟨_,.firstS (by omega) (by omega) h2 d1,(q1.trans i2.1)⟩
 |not h1 h2 _ i1=>
  refine⟨i1.1,i1.2.1,λc hc=>⟨λhr hl=>?_,λh=>?_⟩⟩
  ·have d1:=(i1.2.2 c hc).1 (λh=>by cases h) hl
   exact .not h1 h2 d1
  ·obtain⟨t1,d1,q1⟩:=(i1.2.2 c hc).2 (.inr (h.resolve_left (λh=>by cases h)))
   exact⟨_,.firstS (by omega) (by omega) h2 d1,q1⟩
 |at_ h1 h2 _ h4 h5 i1=>
  refine⟨i1.1,i1.2.1,λc hc=>⟨λhr hl=>?_,λh=>?_⟩⟩
  ·have d1:=(i1.2.2 c hc).1 (λh=>by cases h) hl
   exact .at_ h1 h2 d1 h4 h5
  ·obtain⟨t1,d1,q1⟩:=(i1.2.2 c hc).2 (.inr (h.resolve_left (λh=>by cases h)))
   exact⟨_,.firstS (by omega) (by omega) h2 d1,q1⟩
 |atS h1 h2 _ h4 i1=>
  refine⟨i1.1,i1.2.1,λc hc=>⟨λhr hl=>?_,λh=>?_⟩⟩
  ·have d1:=(i1.2.2 c hc).1 (λh=>by cases h) hl
   exact .atS h1 h2 d1 h4
  ·obtain⟨t1,d1,q1⟩:=(i1.2.2 c hc).2 (.inr (h.resolve_left (λh=>by cases h)))
   exact⟨_,.firstS (by omega) (by omega) h2 d1,q1⟩
 | @bin k v s e a b s1 n s2 m q h1 h2 h3 _ _ h6 i1 i2=>
   refine⟨i1.1.trans i2.1,UR i2.2.1 i1.2.1,λc hc=>⟨λhr hl=>?_,λh=>?_⟩⟩
   ·have hl1:=UR hl i2.2.1
    have d1:=(i1.2.2 c hc).1 (λh=>by cases h) hl1
    have d2:=(i2.2.2 c hl1).1 (λh=>by cases h) hl
    exact .bin h1 h2 h3 d1 d2 h6
   ·by_cases hl1:c<=s1.left
    ·have d1:=(i1.2.2 c hc).1 (λh=>by cases h) hl1
     obtain⟨t2,d2,q2⟩:=(i2.2.2 c hl1).2 (.inr (h.resolve_left (λh=>by cases h)))
     exact⟨_,.binS h1 h2 h3 d1 d2,q2⟩
    ·obtain⟨t1,d1,q1⟩:=(i1.2.2 c hc).2 (.inr (by omega))
     exact⟨_,.firstS h1 (by omega) h3 d1,(q1.trans i2.1)⟩
 | @binS k v s e a b s1 n s2 c0 h1 h2 h3 _ _ i1 i2=>
   refine⟨i1.1.trans i2.1,UR i2.2.1 i1.2.1,λc hc=>⟨λhr hl=>?_,λh=>?_⟩⟩
   ·have hl1:=UR hl i2.2.1
    have d1:=(i1.2.2 c hc).1 (λh=>by cases h) hl1
    have d2:=(i2.2.2 c hl1).1 (λh=>hr (by cases h;rfl)) hl
    exact .binS h1 h2 h3 d1 d2
   ·by_cases hl1:c<=s1.left
    ·have d1:=(i1.2.2 c hc).1 (λh=>by cases h) hl1
     obtain⟨t2,d2,q2⟩:=(i2.2.2 c hl1).2 (h.imp (λe=>by cases e;rfl) id)
     exact⟨_,.binS h1 h2 h3 d1 d2,q2⟩
    ·obtain⟨t1,d1,q1⟩:=(i1.2.2 c hc).2 (.inr (by omega))
     exact⟨_,.firstS h1 (by omega) h3 d1,(q1.trans i2.1)⟩
 | @binD k v s e a b s1 n s2 m h1 h2 h3 _ _ h6 i1 i2=>
   refine⟨i1.1.trans i2.1,UR i2.2.1 i1.2.1,λc hc=>⟨λhr hl=>?_,λh=>?_⟩⟩
   ·have hl1:=UR hl i2.2.1
    have d1:=(i1.2.2 c hc).1 (λh=>by cases h) hl1
    have d2:=(i2.2.2 c hl1).1 (λh=>by cases h) hl
    exact .binD h1 h2 h3 d1 d2 h6
   ·by_cases hl1:c<=s1.left
    ·have d1:=(i1.2.2 c hc).1 (λh=>by cases h) hl1
     obtain⟨t2,d2,q2⟩:=(i2.2.2 c hl1).2 (.inr (h.resolve_left (λh=>by cases h)))
     exact⟨_,.binS h1 h2 h3 d1 d2,q2⟩
    ·obtain⟨t1,d1,q1⟩:=(i1.2.2 c hc).2 (.inr (by omega))
     exact⟨_,.firstS h1 (by omega) h3 d1,(q1.trans i2.1)⟩
 |nil=>
  refine⟨List.prefix_refl _,UM _,λc hc=>⟨λ_ _=> .nil,λh=>?_⟩⟩
  rcases h with h|h
  ·cases h
  ·omega
 | @cons k v s a r s1 n s2 ns _ _ i1 i2=>
   refine⟨i1.1.trans i2.1,UR i2.2.1 i1.2.1,λc hc=>⟨λhr hl=>?_,λh=>?_⟩⟩
   ·have hl1:=UR hl i2.2.1
    have d1:=(i1.2.2 c hc).1 (λh=>by cases h) hl1
    have d2:=(i2.2.2 c hl1).1 (λh=>by cases h) hl
    exact .cons d1 d2
   ·by_cases hl1:c<=s1.left
    ·have d1:=(i1.2.2 c hc).1 (λh=>by cases h) hl1
     obtain⟨t2,d2,q2⟩:=(i2.2.2 c hl1).2 (.inr (h.resolve_left (λh=>by cases h)))
     exact⟨_,.consT d1 d2,q2⟩
    ·obtain⟨t1,d1,q1⟩:=(i1.2.2 c hc).2 (.inr (by omega))
     exact⟨_,.consS d1,(q1.trans i2.1)⟩
 |consS _ i1=>
  refine⟨i1.1,i1.2.1,λc hc=>⟨λhr hl=>?_,λh=>?_⟩⟩
  ·have d1:=(i1.2.2 c hc).1 (λh=>hr (by cases h;rfl)) hl
   exact .consS d1
  ·obtain⟨t1,d1,q1⟩:=(i1.2.2 c hc).2 (h.imp (λe=>by cases e;rfl) id)
   exact⟨_,.consS d1,q1⟩
 | @consT k v s a r s1 n s2 c0 _ _ i1 i2=>
   refine⟨i1.1.trans i2.1,UR i2.2.1 i1.2.1,λc hc=>⟨λhr hl=>?_,λh=>?_⟩⟩
   ·have hl1:=UR hl i2.2.1
    have d1:=(i1.2.2 c hc).1 (λh=>by cases h) hl1
    have d2:=(i2.2.2 c hl1).1 (λh=>hr (by cases h;rfl)) hl
    exact .consT d1 d2
   ·by_cases hl1:c<=s1.left
    ·have d1:=(i1.2.2 c hc).1 (λh=>by cases h) hl1
     obtain⟨t2,d2,q2⟩:=(i2.2.2 c hl1).2 (h.imp (λe=>by cases e;rfl) id)
     exact⟨_,.consT d1 d2,q2⟩
    ·obtain⟨t1,d1,q1⟩:=(i1.2.2 c hc).2 (.inr (by omega))
     exact⟨_,.consS d1,(q1.trans i2.1)⟩
 |argS h1 h2 _ i1=>
  refine⟨i1.1,i1.2.1,λc hc=>⟨λhr hl=>?_,λh=>?_⟩⟩
  ·have d1:=(i1.2.2 c hc).1 (λh=>hr (by cases h;rfl)) hl
   exact .argS h1 h2 d1
  ·obtain⟨t1,d1,q1⟩:=(i1.2.2 c hc).2 (h.imp (λe=>by cases e;rfl) id)
   exact⟨_,_,.argS h1 h2 d1,q1⟩
 |slet h1 h2 _ h4 h5 i1=>
  refine⟨i1.1,i1.2.1,λc hc=>⟨λhr hl=>?_,λh=>?_⟩⟩
  ·have d1:=(i1.2.2 c hc).1 (λh=>by cases h) hl
   exact .slet h1 h2 d1 h4 h5
  ·obtain⟨t1,d1,q1⟩:=(i1.2.2 c hc).2 (.inr (h.resolve_left (λh=>by cases h)))
   exact⟨_,_,.argS (by omega) h2 d1,q1⟩
 |sset h1 h2 _ h4 i1=>
  refine⟨i1.1,i1.2.1,λc hc=>⟨λhr hl=>?_,λh=>?_⟩⟩
  ·have d1:=(i1.2.2 c hc).1 (λh=>by cases h) hl
   exact .sset h1 h2 d1 h4
  ·obtain⟨t1,d1,q1⟩:=(i1.2.2 c hc).2 (.inr (h.resolve_left (λh=>by cases h)))
   exact⟨_,_,.argS (by omega) h2 d1,q1⟩
 |ssay h1 h2 _ i1=>
  refine⟨i1.1.trans (List.prefix_append _ _),i1.2.1,λc hc=>⟨λhr hl=>?_,λh=>?_⟩⟩
  ·have d1:=(i1.2.2 c hc).1 (λh=>by cases h) hl
   exact .ssay h1 h2 d1
  ·obtain⟨t1,d1,q1⟩:=(i1.2.2 c hc).2 (.inr (h.resolve_left (λh=>by cases h)))
   exact⟨_,_,.argS (by omega) h2 d1,(q1.trans (List.prefix_append _ _))⟩
 | @sput k v s x a b s1 n s2 m h1 h2 _ _ h5 i1 i2=>
   refine⟨i1.1.trans i2.1,UR i2.2.1 i1.2.1,λc hc=>⟨λhr hl=>?_,λh=>?_⟩⟩
   ·have hl1:=UR hl i2.2.1
    have d1:=(i1.2.2 c hc).1 (λh=>by cases h) hl1
    have d2:=(i2.2.2 c hl1).1 (λh=>by cases h) hl
    exact .sput h1 h2 d1 d2 h5
   ·by_cases hl1:c<=s1.left
    ·have d1:=(i1.2.2 c hc).1 (λh=>by cases h) hl1
     obtain⟨t2,d2,q2⟩:=(i2.2.2 c hl1).2 (.inr (h.resolve_left (λh=>by cases h)))
     exact⟨_,_,.sputS h1 h2 d1 d2,q2⟩
    ·obtain⟨t1,d1,q1⟩:=(i1.2.2 c hc).2 (.inr (by omega))
     exact⟨_,_,.argS (by omega) h2 d1,(q1.trans i2.1)⟩
 | @sputC k v s x a b s1 n s2 m h1 h2 _ _ h5 i1 i2=>
   refine⟨i1.1.trans i2.1,UR i2.2.1 i1.2.1,λc hc=>⟨λhr hl=>?_,λh=>?_⟩⟩
   ·have hl1:=UR hl i2.2.1
    have d1:=(i1.2.2 c hc).1 (λh=>by cases h) hl1
    have d2:=(i2.2.2 c hl1).1 (λh=>by cases h) hl
    exact .sputC h1 h2 d1 d2 h5
   ·by_cases hl1:c<=s1.left
    ·have d1:=(i1.2.2 c hc).1 (λh=>by cases h) hl1
     obtain⟨t2,d2,q2⟩:=(i2.2.2 c hl1).2 (.inr (h.resolve_left (λh=>by cases h)))
     exact⟨_,_,.sputS h1 h2 d1 d2,q2⟩
    ·obtain⟨t1,d1,q1⟩:=(i1.2.2 c hc).2 (.inr (by omega))
     exact⟨_,_,.argS (by omega) h2 d1,(q1.trans i2.1)⟩
 | @sputS k v s x a b s1 n s2 c0 h1 h2 _ _ i1 i2=>
   refine⟨i1.1.trans i2.1,UR i2.2.1 i1.2.1,λc hc=>⟨λhr hl=>?_,λh=>?_⟩⟩
   ·have hl1:=UR hl i2.2.1
    have d1:=(i1.2.2 c hc).1 (λh=>by cases h) hl1
    have d2:=(i2.2.2 c hl1).1 (λh=>hr (by cases h;rfl)) hl
    exact .sputS h1 h2 d1 d2
   ·by_cases hl1:c<=s1.left
    ·have d1:=(i1.2.2 c hc).1 (λh=>by cases h) hl1
     obtain⟨t2,d2,q2⟩:=(i2.2.2 c hl1).2 (h.imp (λe=>by cases e;rfl) id)
     exact⟨_,_,.sputS h1 h2 d1 d2,q2⟩
    ·obtain⟨t1,d1,q1⟩:=(i1.2.2 c hc).2 (.inr (by omega))
     exact⟨_,_,.argS (by omega) h2 d1,(q1.trans i2.1)⟩
 | @sif k v s x a s1 n m v' s2 q h1 h2 _ _ i1 i2=>
   refine⟨i1.1.trans i2.1,UR i2.2.1 i1.2.1,λc hc=>⟨λhr hl=>?_,λh=>?_⟩⟩
   ·have hl1:=UR hl i2.2.1
    have d1:=(i1.2.2 c hc).1 (λh=>by cases h) hl1
    have d2:=(i2.2.2 c hl1).1 hr hl
    exact .sif h1 h2 d1 d2
   ·by_cases hl1:c<=s1.left
    ·have d1:=(i1.2.2 c hc).1 (λh=>by cases h) hl1
     obtain⟨w2,t2,d2,q2⟩:=(i2.2.2 c hl1).2 h
     obtain⟨m5,up5,rfl⟩:=uk d2
     exact⟨_,_,.sif h1 h2 d1 d2,q2⟩
    ·obtain⟨t1,d1,q1⟩:=(i1.2.2 c hc).2 (.inr (by omega))
     exact⟨_,_,.argS (by omega) h2 d1,(q1.trans i2.1)⟩
 |sloop h1 _ i1=>
  refine⟨i1.1,i1.2.1,λc hc=>⟨λhr hl=>?_,λh=>?_⟩⟩
  ·have d1:=(i1.2.2 c hc).1 hr hl
   exact .sloop h1 d1
  ·obtain⟨w1,t1,d1,q1⟩:=(i1.2.2 c hc).2 h
   exact⟨_,_,.sloop h1 d1,q1⟩
 |sback h1 h2 _ i1=>
  refine⟨i1.1,i1.2.1,λc hc=>⟨λhr hl=>?_,λh=>?_⟩⟩
  ·have d1:=(i1.2.2 c hc).1 (λh=>by cases h) hl
   exact .sback h1 h2 d1
  ·obtain⟨t1,d1,q1⟩:=(i1.2.2 c hc).2 (.inr (h.resolve_left (λh=>by cases h)))
   exact⟨_,_,.argS (by omega) h2 d1,q1⟩
 |sdo h1 h2 _ i1=>
  refine⟨i1.1,i1.2.1,λc hc=>⟨λhr hl=>?_,λh=>?_⟩⟩
  ·have d1:=(i1.2.2 c hc).1 (λh=>by cases h) hl
   exact .sdo h1 h2 d1
  ·obtain⟨t1,d1,q1⟩:=(i1.2.2 c hc).2 (.inr (h.resolve_left (λh=>by cases h)))
   exact⟨_,_,.argS (by omega) h2 d1,q1⟩
 |lpS h1 _ i1=>
  refine⟨i1.1,i1.2.1,λc hc=>⟨λhr hl=>?_,λh=>?_⟩⟩
  ·have d1:=(i1.2.2 c hc).1 (λh=>hr (by cases h;rfl)) hl
   exact .lpS h1 d1
  ·obtain⟨t1,d1,q1⟩:=(i1.2.2 c hc).2 (h.imp (λe=>by cases e;rfl) id)
   exact⟨_,_,.lpS h1 d1,q1⟩
 |lp0 h1 _ i1=>
  refine⟨i1.1,i1.2.1,λc hc=>⟨λhr hl=>?_,λh=>?_⟩⟩
  ·have d1:=(i1.2.2 c hc).1 (λh=>by cases h) hl
   exact .lp0 h1 d1
  ·obtain⟨t1,d1,q1⟩:=(i1.2.2 c hc).2 (.inr (h.resolve_left (λh=>by cases h)))
   exact⟨_,_,.lpS h1 d1,q1⟩
 | @lpEnd k v s x a s1 n m v' s2 q h1 _ h3 _ h5 i1 i2=>
   refine⟨i1.1.trans i2.1,UR i2.2.1 i1.2.1,λc hc=>⟨λhr hl=>?_,λh=>?_⟩⟩
   ·have hl1:=UR hl i2.2.1
    have d1:=(i1.2.2 c hc).1 (λh=>by cases h) hl1
    have d2:=(i2.2.2 c hl1).1 hr hl
    exact .lpEnd h1 d1 h3 d2 h5
   ·by_cases hl1:c<=s1.left
    ·have d1:=(i1.2.2 c hc).1 (λh=>by cases h) hl1
     obtain⟨w2,t2,d2,q2⟩:=(i2.2.2 c hl1).2 h
     obtain⟨m5,up5,rfl⟩:=uk d2
     exact⟨_,_,.lpEnd h1 d1 h3 d2 (λh=>by cases h),q2⟩
    ·obtain⟨t1,d1,q1⟩:=(i1.2.2 c hc).2 (.inr (by omega))
     exact⟨_,_,.lpS h1 d1,(q1.trans i2.1)⟩
 | @cal k f us s v' s' r h1 h2 _ i1=>
   refine⟨i1.1,i1.2.1,λc hc=>⟨λhr hl=>?_,λh=>?_⟩⟩
   ·exact .cal h1 h2 ((i1.2.2 c hc).1 (λe=>hr (by rw[e];rfl)) hl)
   ·have h':r= .st 3\/s'.left<c:=h.imp (λe=>by
     match r,e with
     | .st q,e=>cases e;rfl
     | .ok none,e=>cases e
     | .ok (some _),e=>cases e) id
    obtain⟨w1,t1,d1,q1⟩:=(i1.2.2 c hc).2 h'
    exact⟨_,.cal h1 h2 d1,q1⟩
 |bnil=>
  refine⟨List.prefix_refl _,UM _,λc hc=>⟨λ_ _=> .bnil,λh=>?_⟩⟩
  rcases h with h|h
  ·cases h
  ·omega
 | @bfuel k v s x r h0=>
   refine⟨List.prefix_refl _,UM _,λc hc=>⟨λh _=>(h rfl).elim,λh=>?_⟩⟩
   exact⟨_,_,.bfuel (by show s.left-c=0;omega),List.prefix_refl _⟩
 | @bgo k v s x r F v1 s1 v2 s2 q hF _ _ i1 i2=>
   have i1l:s1.left<=F:=i1.2.1
   have i2l:=i2.2.1
   have i1s:s.said<+:s1.said:=i1.1
   refine⟨i1s.trans i2.1,by omega,λc hc=>⟨λhr hl=>?_,λh=>?_⟩⟩
   ·have hcF:c<=F:=by omega
    have hd:(s.dn c).left=(F-c)+1:=by show s.left-c=_;omega
    have d1:=(i1.2.2 c hcF).1 (λh=>by cases h) (by omega)
    have d2:=(i2.2.2 c (by omega)).1 hr hl
    exact .bgo hd d1 d2
   ·by_cases hcF:c<=F
    ·have hd:(s.dn c).left=(F-c)+1:=by show s.left-c=_;omega
     by_cases hl1:c<=s1.left
     ·have d1:=(i1.2.2 c hcF).1 (λh=>by cases h) hl1
      obtain⟨w2,t2,d2,q2⟩:=(i2.2.2 c hl1).2 h
      exact⟨_,_,.bgo hd d1 d2,q2⟩
     ·obtain⟨w1,t1,d1,q1⟩:=(i1.2.2 c hcF).2 (.inr (by omega))
      exact⟨_,_,.bend hd d1 (λh=>by cases h),q1.trans i2.1⟩
    ·exact⟨_,_,.bfuel (by show s.left-c=0;omega),i1s.trans i2.1⟩
 | @bend k v s x r F v1 s1 q hF _ h3 i1=>
   have i1l:s1.left<=F:=i1.2.1
   have i1s:s.said<+:s1.said:=i1.1
   refine⟨i1s,by omega,λc hc=>⟨λhr hl=>?_,λh=>?_⟩⟩
   ·have hcF:c<=F:=by omega
    have hd:(s.dn c).left=(F-c)+1:=by show s.left-c=_;omega
    exact .bend hd ((i1.2.2 c hcF).1 hr hl) h3
   ·by_cases hcF:c<=F
    ·have hd:(s.dn c).left=(F-c)+1:=by show s.left-c=_;omega
     obtain⟨w1,t1,d1,q1⟩:=(i1.2.2 c hcF).2 h
     exact⟨_,_,.bend hd d1 (λh=>by cases h),q1⟩
    ·exact⟨_,_,.bfuel (by show s.left-c=0;omega),i1s⟩
 | @lpFuel k v s x a s1 n m v' s2 h1 _ h3 _ h5 i1 i2=>
   have i1l:=i1.2.1
   have i2l:=i2.2.1
   refine⟨i1.1.trans i2.1,by omega,λc hc=>⟨λh _=>(h rfl).elim,λ_=>?_⟩⟩
   by_cases hl1:c<=s1.left
   ·have d1:=(i1.2.2 c hc).1 (λh=>by cases h) hl1
    by_cases hl2:c<=s2.left
    ·have d2:=(i2.2.2 c hl1).1 (λh=>by cases h) hl2
     exact⟨_,_,.lpFuel h1 d1 h3 d2 (by show s2.left-c=0;omega),List.prefix_refl _⟩
    ·obtain⟨w2,t2,d2,q2⟩:=(i2.2.2 c hl1).2 (.inr (by omega))
     obtain⟨m5,up5,rfl⟩:=uk d2
     exact⟨_,_,.lpEnd h1 d1 h3 d2 (λh=>by cases h),q2⟩
   ·obtain⟨t1,d1,q1⟩:=(i1.2.2 c hc).2 (.inr (by omega))
    exact⟨_,_,.lpS h1 d1,q1.trans i2.1⟩
 | @lpGo k v s x a s1 n m v' s2 F v'' s3 q h1 _ h3 _ h5 _ i1 i2 i3=>
   have i1l:=i1.2.1
   have i2l:=i2.2.1
   have i3l:s3.left<=F:=i3.2.1
   have i3s:s2.said<+:s3.said:=i3.1
   refine⟨(i1.1.trans i2.1).trans i3s,by omega,λc hc=>⟨λhr hl=>?_,λh=>?_⟩⟩
   ·have hcF:c<=F:=by omega
    have hd:(s2.dn c).left=(F-c)+1:=by show s2.left-c=_;omega
    exact .lpGo h1 ((i1.2.2 c hc).1 (λh=>by cases h) (by omega)) h3 ((i2.2.2 c (by omega)).1 (λh=>by cases h) (by omega)) hd ((i3.2.2 c hcF).1 hr hl)
   ·by_cases hl1:c<=s1.left
    ·have d1:=(i1.2.2 c hc).1 (λh=>by cases h) hl1
     by_cases hl2:c<=s2.left
     ·have d2:=(i2.2.2 c hl1).1 (λh=>by cases h) hl2
      by_cases hcF:c<=F
      ·have hd:(s2.dn c).left=(F-c)+1:=by show s2.left-c=_;omega
       obtain⟨w3,t3,d3,q3⟩:=(i3.2.2 c hcF).2 h
       exact⟨_,_,.lpGo h1 d1 h3 d2 hd d3,q3⟩
      ·exact⟨_,_,.lpFuel h1 d1 h3 d2 (by show s2.left-c=0;omega),i3s⟩
     ·obtain⟨w2,t2,d2,q2⟩:=(i2.2.2 c hl1).2 (.inr (by omega))
      obtain⟨m5,up5,rfl⟩:=uk d2
      exact⟨_,_,.lpEnd h1 d1 h3 d2 (λh=>by cases h),q2.trans i3s⟩
    ·obtain⟨t1,d1,q1⟩:=(i1.2.2 c hc).2 (.inr (by omega))
     exact⟨_,_,.lpS h1 d1,(q1.trans i2.1).trans i3s⟩
end
section
def S5.pre(s:S5)(t:List Int):S5:=⟨s.left,t++s.said,s.cells⟩
end
section
def nmS(m:Sc5):List (List UInt8):=m.map (·.1)
def nmV(v:List Sc5):List (List (List UInt8)):=v.map nmS
theorem GW(s:List UInt8)(n:Int):∀m:Sc5,nmS (sset m s n)=nmS m
 |[]=>rfl
 |x::r=>by
  rw[sset]
  split
  ·rename_i h
   show s::nmS r=x.1::nmS r
   rw[h]
  ·show x.1::nmS (sset r s n)=x.1::nmS r
   rw[GW s n r]
theorem yI(s:List UInt8)(n:Int):∀v:List Sc5,nmV (gf v s n)=nmV v
 |[]=>rfl
 |m::r=>by
  rw[gf]
  split
  ·show nmS (sset m s n)::nmV r=_
   rw[GW];rfl
  ·show nmS m::nmV (gf r s n)=_
   rw[yI s n r];rfl
def Grw(v v':List Sc5):Prop:=nmV v'=nmV v\/∃m up m' up' t,v=m::up/\v'=m'::up'/\nmV up'=nmV up/\nmS m'=nmS m++t
theorem Grw.refl(v:List Sc5):Grw v v:= .inl rfl
theorem Ed{m:Sc5}{up v:List Sc5}(h:nmV v=nmV (m::up)):∃m' up',v=m'::up'/\nmS m'=nmS m/\nmV up'=nmV up:=by
 match v with
 |[]=>cases h
 |m'::up'=>
  have h:nmS m'::nmV up'=nmS m::nmV up:=h
  exact⟨m',up',rfl,(List.cons.inj h).1,(List.cons.inj h).2⟩
theorem Grw.trans{a b c:List Sc5}(h:Grw a b)(g:Grw b c):Grw a c:=by
 rcases h with h|⟨m,up,m',up',t,rfl,rfl,h1,h2⟩
 ·rcases g with g|⟨m,up,m',up',t,rfl,rfl,h1,h2⟩
  ·exact .inl (g.trans h)
  ·obtain⟨m0,up0,rfl,e1,e2⟩:=Ed h.symm
   exact .inr ⟨m0,up0,m',up',t,rfl,rfl,h1.trans e2.symm,by rw[h2,e1]⟩
 ·rcases g with g|⟨q,uq,q',uq',t',e,rfl,g1,g2⟩
  ·obtain⟨m0,up0,rfl,e1,e2⟩:=Ed g
   exact .inr ⟨m,up,m0,up0,t,rfl,rfl,e2.trans h1,e1.trans h2⟩
  ·obtain⟨e1,e2⟩:=List.cons.inj e
   subst e1;subst e2
   exact .inr ⟨m,up,q',uq',t++t',rfl,rfl,g1.trans h1,by rw[g2,h2,Vh]⟩
theorem Grw.tail{m m':Sc5}{v v':List Sc5}(h:Grw (m::v) (m'::v')):nmV v'=nmV v:=by
 rcases h with h|⟨q,up,q',up',t,e1,e2,h1,h2⟩
 ·have h:nmS m'::nmV v'=nmS m::nmV v:=h
  exact(List.cons.inj h).2
 ·rw[(List.cons.inj e1).2,(List.cons.inj e2).2];exact h1
def Sh5:J5->Prop
 | .stm _ v _ _ v' _ _=>Grw v v'
 | .blk _ v _ _ v' _ _=>Grw v v'
 | .lp _ v _ _ v' _ _=>nmV v'=nmV v
 |_=>True
theorem yK{l:List Fd}{j:J5}(h:Ev l j):Sh5 j:=by
 induction h with
 |bnil=>exact .inl rfl
 |bfuel _=>exact .inl rfl
 |bgo _ _ _ i1 i2=>exact i1.trans i2
 |bend _ _ _ i1=>exact i1
 |argS _ _ _ _=>exact .inl rfl
 | @slet k v s x a s1 n m up _ _ _ hv _ _=>
   subst hv
   exact .inr ⟨m,up,m++[(x.name,n)],up,[x.name],rfl,rfl,rfl,by simp[nmS]⟩
 |sset _ _ _ _ _=>exact .inl (yI _ _ _)
 |ssay _ _ _ _=>exact .inl rfl
 |sput _ _ _ _ _ _ _=>exact .inl rfl
 |sputC _ _ _ _ _ _ _=>exact .inl rfl
 |sputS _ _ _ _ _ _=>exact .inl rfl
 |sif _ _ _ _ _ i2=>exact .inl i2.tail
 |sloop _ _ i1=>exact .inl i1
 |sback _ _ _ _=>exact .inl rfl
 |sdo _ _ _ _=>exact .inl rfl
 |lpS _ _ _=>exact(rfl:nmV _=nmV _)
 |lp0 _ _ _=>exact(rfl:nmV _=nmV _)
 |lpEnd _ _ _ _ _ _ i2=>exact i2.tail
 |lpFuel _ _ _ _ _ _ i2=>exact i2.tail
 |lpGo _ _ _ _ _ _ _ i2 i3=>exact(show nmV _=nmV _ from i3).trans i2.tail
 |_=>trivial
def ay:List Sc5->Sc5
 |[]=>[]
 |m::r=>ay r++m
theorem io:∀{v w:List Sc5},nmV v=nmV w->(ay v).length=(ay w).length
 |[],[],_=>rfl
 |[],_::_,h=>by cases h
 |_::_,[],h=>by cases h
 |m::r,m'::r',h=>by
  have h:nmS m::nmV r=nmS m'::nmV r':=h
  obtain⟨h1,h2⟩:=List.cons.inj h
  have:=io h2
  have h1:=congrArg List.length h1
  simp only[nmS,Vl] at h1
  simp[ay,this,h1]
theorem Bv{m:Sc5}{v w:List Sc5}(h:nmV v=nmV w):(ay (m::v)).take (ay w).length=ay v:=by
 rw[ay,←io h,List.take_left']
 rfl
def cL:Sc5->List UInt8->Option Nat
 |[],_=>none
 |x::r,s=>match cL r s with|some i=>some (i+1)|none=>if x.1=s then some 0 else none
theorem ni(s:List UInt8):∀a b:Sc5,cL (a++b) s=match cL b s with|some i=>some (a.length+i)|none=>cL a s
 |[],b=>by cases h:cL b s<;>simp[cL,h]
 |x::r,b=>by
  rw[Vn,cL,ni s r b]
  cases h:cL b s with
  |some i=>simp;omega
  |none=>rfl
def Un5(v:List Sc5):Prop:=∀m∈v,(nmS m).Pairwise (· ≠ ·)
theorem sget_none_iff:∀{m:Sc5} {s:List UInt8},bL m s=none↔s∉nmS m
 |[],s=>by simp[bL,nmS]
 |x::r,s=>by
  rw[bL]
  by_cases h:x.1=s
  ·simp[h,nmS]
  ·rw[if_neg h,sget_none_iff]
   simp[nmS,Ne.symm h]
theorem om:∀{m:Sc5} {s:List UInt8},s∉nmS m->cL m s=none
 |[],s,_=>rfl
 |x::r,s,h=>by
  simp only[nmS,Ve,UK,not_or] at h
  rw[cL,om (m:=r) h.2]
  simp only
  rw[if_neg (λe=>h.1 e.symm)]
theorem Az:∀{m:Sc5} {s:List UInt8} {n:Int},(nmS m).Pairwise (· ≠ ·)->bL m s=some n->∃i,cL m s=some i/\m[i]?=some (s,n)/\∀q,sset m s q=m.set i (s,q)
 |x::r,s,n,hp,h=>by
  obtain⟨h1,h2⟩:=List.pairwise_cons.1 (show(x.1::nmS r).Pairwise (· ≠ ·) from hp)
  rw[bL] at h
  by_cases hx:x.1=s
  ·rw[if_pos hx] at h
   have hn:s∉nmS r:=λhm=>h1 s hm hx
   refine⟨0,?_,?_,λq=>?_⟩
   ·rw[cL,om hn];simp only;rw[if_pos hx]
   ·obtain⟨a,b⟩:=x
    have hx:a=s:=hx
    have h:some b=some n:=h
    cases h;subst hx;rfl
   ·rw[sset,if_pos hx];rfl
  ·rw[if_neg hx] at h
   obtain⟨i,g1,g2,g3⟩:=Az h2 h
   refine⟨i+1,?_,by simpa using g2,λq=>?_⟩
   ·rw[cL,g1]
   ·rw[sset,if_neg hx,g3 q];rfl
theorem Au:∀{v:List Sc5} {s:List UInt8} {n:Int},Un5 v->gW v s=some n->∃i,cL (ay v) s=some i/\(ay v)[i]?=some (s,n)/\∀q,ay (gf v s q)=(ay v).set i (s,q)
 |m::r,s,n,hu,h=>by
  rw[gW] at h
  cases hm:bL m s with
  |some k=>
   rw[hm] at h
   cases h
   obtain⟨i,g1,g2,g3⟩:=Az (hu m (by simp)) hm
   refine⟨(ay r).length+i,?_,?_,λq=>?_⟩
   ·rw[ay,ni,g1]
   ·rw[ay,UH (by omega)]
    rw[Vj];exact g2
   ·rw[gf,hm]
    simp only[Option.isSome_some,if_true]
    rw[ay,ay,g3 q,List.set_append_right _ _ (by omega),Vj]
  |none=>
   rw[hm] at h
   obtain⟨i,g1,g2,g3⟩:=Au (λq hq=>hu q (by simp[hq])) h
   have hi:i<(ay r).length:=by
    have:=Uz.1 g2
    exact this.1
   refine⟨i,?_,?_,λq=>?_⟩
   ·rw[ay,ni,om (sget_none_iff.1 hm)];exact g1
   ·rw[ay,UB hi];exact g2
   ·rw[gf,hm]
    simp only[Option.isSome_none,Bool.false_eq_true,if_false]
    rw[ay,ay,g3 q,List.set_append_left _ _ hi]
theorem JU{m:Sc5}{up:List Sc5}(x:List UInt8 × Int):ay ((m++[x])::up)=ay (m::up)++[x]:=by simp[ay]
theorem BH(v:List Sc5):ay ([]::v)=ay v:=by simp[ay]
theorem Un5.of{v w:List Sc5}(h:Un5 v)(e:nmV w=nmV v):Un5 w:=by
 intro m hm
 have h1:nmS m∈nmV v:=by rw[←e];exact List.mem_map_of_mem hm
 obtain⟨q,hq,e2⟩:=UX.1 h1
 rw[←e2];exact h q hq
theorem Un5.let{m:Sc5}{up:List Sc5}{s:List UInt8}{n:Int}(h:Un5 (m::up))(hs:bL m s=none):Un5 ((m++[(s,n)])::up):=by
 intro q hq
 rcases UK.1 hq with rfl|hq
 ·have h1:=h m (by simp)
  have h2:=sget_none_iff.1 hs
  simp only[nmS,List.map_append,Ve,List.map_nil]
  refine List.pairwise_append.2 ⟨h1,List.pairwise_singleton _ _,λa ha b hb=>?_⟩
  rw[UL.1 hb]
  exact λe=>h2 (e▸ha)
 ·exact h q (by simp[hq])
theorem Un5.opn{v:List Sc5}(h:Un5 v):Un5 ([]::v):=by
 intro q hq
 rcases UK.1 hq with rfl|hq
 ·exact .nil
 ·exact h q hq
end
section
theorem dx{n:Nat}{h h1:List AO}(e:h.take n=h1)(hn:h1.length=n)(ho:∀o∈h1,okO n o):Fst n h h1:=by
 have hl:n<=h.length:=by
  have:=congrArg List.length e
  rw[Vf] at this;omega
 have hg:∀(i:Nat) (o:AO),h1[i]?=some o->h[i]?=some o:=λi o hi=>by
  have h2:=(Uz.1 hi).1
  rw[←e,List.getElem?_take_of_lt (by omega)] at hi
  exact hi
 exact⟨hn,hl,λi sz es hi=>⟨hg _ _ hi,ho _ (UF hi)⟩,λi es hi=>⟨hg _ _ hi,ho _ (UF hi)⟩,λi s p hi=>hg _ _ hi⟩
theorem BL:∀(r:List AO) (s:Nat),((ji (List.range' s r.length++[0]) (r++[.dead])).Nodup/\∀i∈ji (List.range' s r.length++[0]) (r++[.dead]),s<=i)
 |[],s=>by simp[ji]
 |o::r,s=>by
  obtain⟨h1,h2⟩:=BL r (s+1)
  rw[UW,List.range'_succ]
  cases o with
  |dead=>exact⟨h1,λi hi=>Nat.le_of_succ_le (h2 i hi)⟩
  |_=>exact⟨Vy.2 ⟨λhm=>absurd (h2 _ hm) (by omega),h1⟩,λi hi=>by
   rcases UK.1 hi with rfl|hi
   ·exact UM _
   ·exact Nat.le_of_succ_le (h2 i hi)⟩
theorem DJ{h:List AO}(hp:0<h.length)(ho:∀o∈h,okO h.length o):∀(r:List AO) (s:Nat),(∀i:Nat,r[i]?=h[s+i]?)->s+r.length=h.length->HW (List.range' 0 h.length++[0]) h (List.range' s r.length++[0]) (r++[.dead])
 |[],s,_,_=>eK hp bR
 |o::r,s,hr,hs=>by
  have hσ:∀i,i<h.length->(List.range' 0 h.length++[0]).getD i 0=i:=λi hi=>by
   rw[UP,UB (by simp;exact hi)];simp[hi]
  rw[UW,List.range'_succ]
  have h0:=hr 0
  have ih:=DJ hp ho r (s+1) (λi=>by have:=hr (i+1);rw[UQ] at this;rw[this];congr 1;omega) (by simp at hs;omega)
  have hm:h[s]?=some o:=by simpa using h0.symm
  have hok:=ho o (UF hm)
  cases o with
  |dead=>exact eK (Uz.1 hm).1 ih
  |row sz es=>
   refine db (λx hx=>bi (by simp) _ (hok x hx)) ?_ ih
   rw[hm,Vc (g:=id) λx hx=>mN hσ x (hok x hx)];simp
  |mp es=>exact⟨(Uz.1 hm).1,⟨λx hx=>by exact(bi (by simp) [x.2] ⟨hok x hx,trivial⟩).1,by rw[hm,Vc (g:=id) λx hx=>by rw[nb hσ x.2 (hok x hx)];rfl];simp⟩,ih⟩
  |sit s p=>exact⟨(Uz.1 hm).1,hm,ih⟩
theorem Ee{m:Nat}{l:List (Nat × AV)}:∀r:List (Nat × AV),FgA m l r->TWA (List.range' 0 m++[0]) l r
 |[],_=>trivial
 |x::r,⟨⟨a,c⟩,d⟩=>by
  have hσ:∀i,i<m->(List.range' 0 m++[0]).getD i 0=i:=λi hi=>by
   rw[UP,UB (by simp;exact hi)];simp[hi]
  exact⟨⟨(bi (by simp) [x.2] ⟨a,trivial⟩).1,by rw[nb hσ _ a,c]⟩,Ee r d⟩
theorem tP{k n:Nat}{l l1:List (Nat × AV)}{h:List AO}(hk:k<=h.length)(hp:0<h.length)(ho:∀o∈h,okO h.length o)(H:FgA h.length l l1):Wk k (ah n l) h (ah n l1) (h++[.dead]):=by
 have hσ:∀i,i<h.length->(List.range' 0 h.length++[0]).getD i 0=i:=λi hi=>by
  rw[UP,UB (by simp;exact hi)];simp[hi]
 refine Hz (List.range' 0 h.length++[0]) (by simp;omega) (λi hi=>hσ i (by omega)) ?_ ?_ (Ee _ H)
 ·exact(BL h 0).1
 ·exact DJ hp ho h 0 (λi=>by simp) (by simp)
def aY(fns:List Fd):List (List AV):=fns.map λf=>f.cs.map .p
theorem vb(fns:List Fd):∀x∈aY fns,af 0 x:=by
 intro x hx;obtain⟨m,_,rfl⟩:=UX.1 hx;simp
theorem eb{n:Nat}{o:AO}(h:okO 0 o):okO n o:=by
 cases o with
 |dead=>trivial
 |sit=>trivial
 |row sz es=>exact λe he=>bi (VA _) _ (h e he)
 |mp es=>exact λe he=>(bi (VA n) [e.2] ⟨h e he,trivial⟩).1
theorem lL(fns:List Fd)(n:Nat):okO n (bP 3 (aY fns)):=eb (KB (vb fns))
def exR(l:List Ex):List (List AV):=l.map λe=>e.cs.map .p
theorem dM(l:List Ex):∀x∈exR l,af 0 x:=by
 intro x hx;obtain⟨m,_,rfl⟩:=UX.1 hx;simp
theorem im{h:List AO}{id:Nat}{l:List Ex}(e:h[id]?=some (bP 4 (exR l))):View h (slE id 4 (exR l)) (exL l):=by
 have hh:exR l=(l.map Ex.cs).map (·.map .p):=by simp[exR]
 rw[hh] at e⊢
 exact Pi e (λx hx=>by obtain⟨b,_,rfl⟩:=UX.1 hx;exact b.cs_len)
theorem te{h:List AO}{id sz:Nat}{r0 r1:List AV}{p0 p1:List PV}(he:h[id]?=some (.row sz [r0,r1]))(l0:p0.length=sz)(l1:p1.length=sz)(h0:∀(j:Nat) (q:PV) (a:AV),p0[j]?=some q->r0[j]?=some a->View h a q)(h1:∀(j:Nat) (q:PV) (a:AV),p1[j]?=some q->r1[j]?=some a->View h a q):View h (.sl id sz 0 2) (.lst sz [p0,p1]):=by
 refine View.sl id sz 0 _ [p0,p1] he (by simp) (by simp[l0,l1]) λi j e q e' a a1 a2 a3 a4=>?_
 rw[VD] at a3
 match i,a1,a3 with
 |0,a1,a3=>cases a1;cases a3;exact h0 j q a a2 a4
 |1,a1,a3=>cases a1;cases a3;exact h1 j q a a2 a4
 |i+2,a1,a3=>simp at a1
def smR(l:List Sm):List (List AV):=l.map λs=>s.cs.map .p
theorem dN(l:List Sm):∀x∈smR l,af 0 x:=by
 intro x hx;obtain⟨m,_,rfl⟩:=UX.1 hx;simp
theorem fQ(l:List Sm):(smR l).length=l.length:=by simp[smR]
theorem Cb(a b:List Sm):smR (a++b)=smR a++smR b:=by simp[smR]
theorem bt{h:List AO}{id sz:Nat}{r0:List AV}{p0:List PV}(he:h[id]?=some (.row sz [r0]))(l0:p0.length=sz)(h0:∀(j:Nat) (q:PV) (a:AV),p0[j]?=some q->r0[j]?=some a->View h a q):View h (.sl id sz 0 1) (.lst sz [p0]):=by
 refine View.sl id sz 0 _ [p0] he (by simp) (by simp[l0]) λi j e q e' a a1 a2 a3 a4=>?_
 rw[VD] at a3
 match i,a1,a3 with
 |0,a1,a3=>cases a1;cases a3;exact h0 j q a a2 a4
 |i+1,a1,a3=>simp at a1
theorem ik{h:List AO}{o n:Int}{w:List UInt8}{k:List Ex}{K:AV}(hk:View h K (exL k)):∀(j:Nat) (q:PV) (a:AV),(Ex.mk o n w k).cs[j]?=some q->[AV.p (.int .i64 o),.p (.int .i64 n),.p (.str w),K][j]?=some a->View h a q:=by
 intro j q a e1 e2
 have hc:(Ex.mk o n w k).cs=[.int .i64 o,.int .i64 n,.str w,exL k]:=Ex.cs_eq _
 rw[hc] at e1
 match j,e1,e2 with
 |0,e1,e2=>cases e1;cases e2;exact .p _
 |1,e1,e2=>cases e1;cases e2;exact .p _
 |2,e1,e2=>cases e1;cases e2;exact .p _
 |3,e1,e2=>cases e1;cases e2;exact hk
 |j+4,e1,e2=>simp at e1
theorem kz{h:List AO}{id:Nat}{l:List Sm}(e:h[id]?=some (.row 5 (smR l))):View h (.sl id 5 0 l.length) (smL l):=by
 have:=jj (h:=h) (id:=id) (sz:=5) (n:=l.length) (ls:=l.map Sm.cs) (by rw[e,smR];simp) (by simp) (λx hx=>by obtain⟨b,_,rfl⟩:=UX.1 hx;exact b.cs_len)
 exact this
theorem bW{h:List AO}{o:Int}{w:List UInt8}{a:List Ex}{bd el:List Sm}{A B E:AV}(hA:View h A (exL a))(hB:View h B (smL bd))(hE:View h E (smL el)):∀(j:Nat) (q:PV) (x:AV),(Sm.mk o w a bd el).cs[j]?=some q->[AV.p (.int .i64 o),.p (.str w),A,B,E][j]?=some x->View h x q:=by
 intro j q x e1 e2
 have hc:(Sm.mk o w a bd el).cs=[.int .i64 o,.str w,exL a,smL bd,smL el]:=Sm.cs_eq _
 rw[hc] at e1
 match j,e1,e2 with
 |0,e1,e2=>cases e1;cases e2;exact .p _
 |1,e1,e2=>cases e1;cases e2;exact .p _
 |2,e1,e2=>cases e1;cases e2;exact hA
 |3,e1,e2=>cases e1;cases e2;exact hB
 |4,e1,e2=>cases e1;cases e2;exact hE
 |j+5,e1,e2=>simp at e1
theorem fS{n:Nat}:∀o∈([]:List AO),okO n o:=λo h=>by cases h
theorem aj{n:Nat}{a:AO}{l:List AO}(h:okO n a)(r:∀o∈l,okO n o):∀o∈a::l,okO n o:=λo ho=>by
 rcases UK.1 ho with rfl|ho
 ·exact h
 ·exact r o ho
end
section
theorem dX{α:Type}{p:α->Bool}{xs:List α}{i:Nat}(h:i<xs.length):(xs.take (i+1)).all p=((xs.take i).all p&&p xs[i]):=by
 rw[aq h,List.all_append];simp
theorem nv{α:Type}{p:α->Bool}{xs:List α}{i:Nat}(h:i<xs.length)(hp:p xs[i]=false):xs.all p=false:=
 List.all_eq_false.2 ⟨_,US h,by simp[hp]⟩
theorem ig{α:Type}{p:α->Bool}{xs:List α}{i:Nat}(h:xs.length<=i)(ht:(xs.take i).all p=true):xs.all p=true:=by
 rwa[UG h] at ht
def rG:AK:=qe [wJ 2 4 0,xk] (yf [wV 10 2,qu 11 10,xt 12 iS 11,qg 9 12,wN 13 0 9,wN 14 1 9,qg 5 13,xX 14] [xf 15,qx 16 .lss 15 1,qg 17 16,xD 18 17 0 2,xA 19 17 18,qO 20 17 (x8 (xM 19 (qj 1) (qj 13))),qO 21 17 (wo 20),xY 22 17 21,qg 23 22,xD 24 23 3 2,xA 25 23 24,qO 26 23 (wc 25),xy 27 23 5,xy 28 23 6,qO 29 23 (x8 (xO 26 27 28)),qO 30 23 (wo 29),xY 31 23 30] 31 [xk] (.cut (.reg [wV 32 2,qu 33 32,wb 34 33 2,qg 35 34,xD 36 35 0 2,xA 37 35 36,qO 38 35 (wP .eql 37 13),xY 39 35 38,qg 7 39]) (.cut (wg [yg 40,xv 41 2,qu 42 41,xt 43 cw 42,qb 44 (.beq true (.t 40) (.t 43)),qg 45 44,xy 46 45 7,qO 47 45 (wo 46),xy 48 45 47,xa 49 48 2 2,wZ 50 48 49,qN 51 48 (yk .neq 50 (.c qF)),qO 52 45 (qQ 48 (.t 51) qS),xY 53 45 52,qg 54 53,xD 55 54 1 2,xA 56 54 55,qO 57 54 (x8 (xM 56 yh (qj 255))),qO 58 54 (wo 57),xY 59 54 58,qg 60 59,xD 61 60 0 2,xA 62 60 61,qO 63 60 (wP .neq 62 1),xy 64 60 63,xa 65 64 1 2,wZ 66 64 65,xE 67 64 .neq 66 0,qO 68 60 (qQ 64 (.t 67) qS),xY 69 60 68] 69 [xk]) (xW (xU [wS 8] 0 [yc 70,xZ 71 2,qu 72 71,wn 73 72,xb 74 70 73] 74 wA 1 (wg [xZ 77 2,qu 78 77,yc 79,wB 80 4 78 79,yd 81 80,xf 82,xG 83 82 1,wI 84 fz 81 83,xn 85 84] 85 [xk]) [yc 75,x9 76 75,qg 8 76]) [qd 4 wz]))))
theorem AJ:AK.whole rG=FK.ak iU:=rfl
def rJ:AK:=qe [wJ 2 5 0,xk] (.cut (wg [xf 7,qx 8 .lss 7 1,yc 9,xD 10 9 0 2,xA 11 9 10,qO 12 9 (x8 (xM 11 (qj 1) (qj 8))),qO 13 9 (wo 12),xY 14 9 13,qg 15 14,xD 16 15 2 2,xD 19 15 0 2,xA 17 15 16,qO 18 15 (wc 17),xA 20 15 19,qO 21 15 (.qcall iZ (xr 20)),qO 22 15 (ql .neq 18 (.t 21)),xY 23 15 22] 23 [xk]) (.cut (.reg [wV 24 2,qu 25 24,wb 26 25 1,qg 27 26,xD 28 27 0 2,xA 29 27 28,qO 30 27 (wP .eql 29 2),xY 31 27 30,qg 5 31]) (.cut (wg [xq 32,xL 33 2,qu 34 33,xt 35 cw 34,qb 36 (.beq true (.t 32) (.t 35)),qg 37 36,xy 38 37 5,qO 39 37 (wo 38),xy 40 37 39,xa 41 40 1 2,wZ 42 40 41,qN 43 40 (yk .neq 42 (.c qF)),qO 44 37 (qQ 40 (.t 43) qS),xY 45 37 44] 45 [xk]) (.seq (xU [wS 6] 0 [yq 46,xv 47 2,qu 48 47,wn 49 48,xb 50 46 49] 50 wA 1 (wg [xv 53 2,qu 54 53,yq 55,wB 56 4 54 55,yd 57 56,xt 58 eJ 57,xn 59 58] 59 [xk]) [yq 51,x9 52 51,xX 52]) (.cut (wg [wV 60 2,qu 61 60,wb 62 61 8,qg 63 62,xa 64 63 2 2,wZ 65 63 64,qN 66 63 (qW 4 65 yh),xa 67 63 0 66,wZ 68 63 67,xE 69 63 .neq 68 13,xT 70 63 69] 70 [xk]) (.cut (wg [qq 71 4 2,qu 72 71,wn 73 72,qx 74 .gtr 73 0,qg 75 74,xa 76 75 0 2,wZ 77 75 76,xE 78 75 .neq 77 5,xT 79 75 78,qg 80 79,xD 81 80 3 2,xA 82 80 81,qO 83 80 (wc 82),qO 84 80 (wP .gtr 83 0),xy 85 80 84,xa 86 85 0 2,wZ 87 85 86,xE 88 85 .neq 87 5,qO 89 80 (qQ 85 (.t 88) qS),xy 90 80 89,xa 91 90 0 2,wZ 92 90 91,xE 93 90 .neq 92 6,qO 94 80 (qQ 90 (.t 93) qS),xY 95 80 94] 95 [xk]) (qA [xZ 96 2,qu 97 96,xf 98,xG 99 98 1,wI 100 bT 97 99,qg 101 100,xa 102 101 4 2,wZ 103 101 102,xz 104 101 1,xE 105 101 .sub 104 1,qN 106 101 (x7 bT 103 (.t 105)),xT 107 101 106,qg 4 107])))))))
theorem Bf:AK.whole rJ=FK.ak iP:=rfl
variable (G:al)
theorem sA(n lo hi:Int):VF Tryz.prog G jr [.p (.int .i64 n),.p (.int .i64 lo),.p (.int .i64 hi)] (.p (.bool (inR n lo hi))):=by
 refine AC.go EX ?_
 by_cases h:lo<=n
 ·simp-implicitDefEqProofs[pc,h,inR]
 ·simp-implicitDefEqProofs[pc,h,inR]
theorem EH(op:Int):VF Tryz.prog G iS [.p (.int .i64 op)] (.tup [.p (.int .i64 (loK op)),.p (.int .i64 (hiK op))]):=by
 refine AC.go AE ?_
 by_cases h1:op=1
 ·subst h1;simp-implicitDefEqProofs[dh,loK,hiK]
 by_cases h2:op=2
 ·subst h2;simp-implicitDefEqProofs[dh,loK,hiK]
 by_cases h3:op=11
 ·subst h3;simp-implicitDefEqProofs[dh,loK,hiK]
 by_cases h4:op=12
 ·subst h4;simp-implicitDefEqProofs[dh,loK,hiK]
 by_cases h5:op=13
 ·subst h5;simp-implicitDefEqProofs[dh,loK,hiK]
 simp-implicitDefEqProofs[dh,loK,hiK,h1,h2,h3,h4,h5]
theorem Lb:∀(d:Nat) (e:Ex),e.sz<=1099511627776->d<=1000->VF Tryz.prog G fz [.agg (e.cs.map .p),.p (.int .i64 d)] (.p (.bool (cm d e))):=by
 intro d
 induction d with
 |zero=>
  intro e he _
  refine AC.go rA ?_
  simp-implicitDefEqProofs[iU,Ex.cs_eq]
  refine(EH G _).use ?_
  simp-implicitDefEqProofs[cm]
 |succ d ih=>
  intro e he hd
  have hsz:=e.sz_eq
  have hkl:=bB e.kids
  refine AC.goK rA AJ ?_
  have hd1:¬(d:Int)+1<1:=by omega
  have hw:IntKind.i64.wrap ((d:Int)+1-1)=(d:Int):=by rw[show(d:Int)+1-1=d by omega];exact ab (by omega) (by omega)
  have hw':IntKind.i64.wrap (d:Int)=(d:Int):=ab (by omega) (by omega)
  have hxl:∀l,exL l= .lst 4 (l.map Ex.cs):=λ_=>rfl
  simp-implicitDefEqProofs[rG,iU,Ex.cs_eq]
  refine(EH G _).use ?_
  simp-implicitDefEqProofs[hd1]
  refine(sA G _ _ _).use ?_
  by_cases h1:inR e.op 1 13=true
  case neg=>simp-implicitDefEqProofs[h1,cm,mK]
  simp-implicitDefEqProofs[h1,hxl]
  refine(sA G _ _ _).use ?_
  by_cases h2:inR e.kids.length (loK e.op) (hiK e.op)=true
  case neg=>simp-implicitDefEqProofs[h2,cm,mK]
  simp-implicitDefEqProofs[h2]
  refine nq (ah 86 [(1,.p (.int .i64 (d+1))),(2,.ptr 0 4 0 0),(7,.p (.bool (FA e.op)))]) [.row 4 [[.p (.int .i64 e.op),.p (.int .i64 e.n),.p (.str e.name),.p (.lst 4 (e.kids.map Ex.cs))]]] ?_ ?_
  ·by_cases o2:e.op=2
   ·simp-implicitDefEqProofs[o2]
    exact ae (by simp) (by simp[okO]) (by simp[below,FA])
   ·by_cases o13:e.op=13
    ·simp-implicitDefEqProofs[o13]
     exact ae (by simp) (by simp[okO]) (by simp[below,FA])
    ·simp-implicitDefEqProofs[o2,o13]
     exact ae (by simp) (by simp[okO]) (by simp[below,FA,o2,o13])
  have hn:e.name.length<=140737488355328:=by omega
  refine uS (λ_:Unit=>ah 86 [(1,.p (.int .i64 ((d:Int)+1))),(2,.ptr 0 4 0 0)]) (λ_=>[.row 4 [[.p (.int .i64 e.op),.p (.int .i64 e.n),.p (.str e.name),.p (.lst 4 (e.kids.map Ex.cs))]]]) (λ_=>mK e=true) ?_ ?_
  ·simp-implicitDefEqProofs[]
   refine(tn G _ hn).use ?_
   simp-implicitDefEqProofs[]
   repeat' first
    |(refine(sA G _ _ _).use ?_;simp-implicitDefEqProofs[])
    |(refine bc (λhc=>?_) (λhc=>?_)<;>simp-implicitDefEqProofs[hc])
   all_goals first
    |exact⟨by simp_all [mK],ae (by simp) (by simp[okO]) (by simp[below])⟩
    |simp_all [cm,mK]
  intro _ hh
  simp-implicitDefEqProofs[]
  refine aL (λi:Nat=>ah 86 [(1,.p (.int .i64 ((d:Int)+1))),(2,.ptr 0 4 0 0),(8,.p (.int .i64 i))]) (λ_=>[.row 4 [[.p (.int .i64 e.op),.p (.int .i64 e.n),.p (.str e.name),.p (.lst 4 (e.kids.map Ex.cs))]]])
   (λi=>i<=e.kids.length/\(e.kids.take i).all (cm d)=true) (λi=>e.kids.length-i) 0 (by simp) (ae (by simp) (by simp[okO]) (by simp[below])) ?_
  intro i ⟨hi,hall⟩
  simp-implicitDefEqProofs[]
  refine bc (λh=>?_) (λh=>?_)
  ·simp at h
   have hg:=UC h
   have hks:=bN (US h)
   simp-implicitDefEqProofs[hg,hw']
   refine(ih e.kids[i] (by omega) (by omega)).use ?_
   by_cases hk:cm d e.kids[i]=true
   ·simp-implicitDefEqProofs[hk]
    refine⟨i+1,⟨h,by rw[←UI,dX h,hall,hk];rfl⟩,by omega,ae (by simp) (by simp[okO]) ?_⟩
    simp[below,w1 (i:=i) (by omega)]
   ·have hk':cm d e.kids[i]=false:=by simpa using hk
    have hf:cm (d+1) e=false:=by simp only[cm,nv h hk',Bool.and_false]
    simp-implicitDefEqProofs[hk',hf]
  ·simp at h
   have hf:cm (d+1) e=true:=by simp only[cm,ig h hall,hh,Bool.and_self]
   simp-implicitDefEqProofs[hf]
theorem IJ{l:List Ex}{i:Nat}(h:i<l.length):gr (l.take (i+1))=gr (l.take i)+l[i].parts:=by
 rw[aq h,jq];simp[gr]
theorem CF(l:List Ex)(i:Nat):gr (l.take i)<=gr l:=by
 have:=jq (l.take i) (l.drop i)
 rw[Vu] at this
 omega
theorem HO:∀(k:Nat) (e:Ex),e.sz<=k->k<=1099511627776->VF Tryz.prog G gN [.agg (e.cs.map .p)] (.p (.int .i64 e.parts)):=by
 intro k
 induction k with
 |zero=>intro e he;have:=e.sz_eq;omega
 |succ k ih=>
  intro e he hk
  have hsz:=e.sz_eq
  have hkl:=bB e.kids
  have hpe:=e.parts_eq
  have hpz:=Cr e.kids
  refine AC.go zV ?_
  have hxl:∀l,exL l= .lst 4 (l.map Ex.cs):=λ_=>rfl
  simp-implicitDefEqProofs[nT,Ex.cs_eq,hxl]
  refine aL (λi:Nat=>ah 21 [(1,.ptr 0 4 0 0),(3,.p (.int .i64 ((1+gr (e.kids.take i):Nat):Int))),(4,.p (.int .i64 i))]) (λ_=>[.row 4 [[.p (.int .i64 e.op),.p (.int .i64 e.n),.p (.str e.name),.p (.lst 4 (e.kids.map Ex.cs))]]])
   (λi=>i<=e.kids.length) (λi=>e.kids.length-i) 0 (by simp) (ae (by simp) (by simp[okO]) (by simp[below,gr])) ?_
  intro i hi
  simp-implicitDefEqProofs[]
  refine bc (λh=>?_) (λh=>?_)
  ·simp at h
   have hg:=UC h
   have hks:=bN (US h)
   have hps:=IJ h
   have hple:=CF e.kids (i+1)
   simp-implicitDefEqProofs[hg]
   refine(ih e.kids[i] (by omega) (by omega)).use ?_
   have hw:IntKind.i64.wrap (1+(gr (e.kids.take i):Int)+(e.kids[i].parts:Int))=((1+gr (e.kids.take (i+1)):Nat):Int):=by rw[ab (by omega) (by omega)];omega
   simp-implicitDefEqProofs[hw]
   exact⟨i+1,h,by omega,ae (by simp) (by simp[okO]) (by simp[below,w1 (i:=i) (by omega)])⟩
  ·simp at h
   rw[UG h]
   simp-implicitDefEqProofs[]
   omega
theorem Ek(e:Ex)(he:e.sz<=1099511627776):VF Tryz.prog G eJ [.agg (e.cs.map .p)] (.p (.bool (lZ e))):=by
 refine AC.go uW ?_
 simp-implicitDefEqProofs[mG]
 have h6:=Lb G 6 e he (by omega)
 refine h6.use ?_
 by_cases h:cm 6 e=true
 ·simp-implicitDefEqProofs[h]
  refine(HO G _ e (UM _) he).use ?_
  simp-implicitDefEqProofs[lZ,h]
  omega
 ·simp-implicitDefEqProofs[h,lZ]
theorem KF(op:Int):VF Tryz.prog G iZ [.p (.int .i64 op)] (.p (.int .i64 (gz op))):=by
 refine AC.go AL ?_
 by_cases h:op=4
 ·simp-implicitDefEqProofs[mb,h,gz]
 ·simp-implicitDefEqProofs[mb,h,gz]
theorem vn(d:Nat)(hd:d<=1000)(hs:∀s:Sm,s.sz<=1099511627776->VF Tryz.prog G iR [.agg (s.cs.map .p),.p (.int .i64 d)] (.p (.bool (az d s))))(l:List Sm)(hl:aD l<=1099511627776):
 VF Tryz.prog G bT [.p (smL l),.p (.int .i64 d)] (.p (.bool (l.all (az d)))):=by
 refine AC.go zn ?_
 have hll:=cn l
 have hsl:∀l,smL l= .lst 5 (l.map Sm.cs):=λ_=>rfl
 simp-implicitDefEqProofs[oF]
 refine aL (λi:Nat=>ah 19 [(0,.p (smL l)),(1,.p (.int .i64 d)),(5,.p (.int .i64 i))]) (λ_=>[]) (λi=>i<=l.length/\(l.take i).all (az d)=true) (λi=>l.length-i) 0 (by simp) (bF rfl (by simp[below,hsl])) ?_
 intro i ⟨hi,hall⟩
 simp-implicitDefEqProofs[hsl]
 refine bc (λh=>?_) (λh=>?_)
 ·simp at h
  have hg:=UC h
  have hks:=dP (US h)
  simp-implicitDefEqProofs[hg]
  refine(hs l[i] (by omega)).use ?_
  by_cases hk:az d l[i]=true
  ·simp-implicitDefEqProofs[hk]
   exact⟨i+1,⟨h,by rw[←UI,dX h,hall,hk];rfl⟩,by omega,bF rfl (by simp[below,hsl,w1 (i:=i) (by omega)])⟩
  ·have hk':az d l[i]=false:=by simpa using hk
   have hf:=nv h hk'
   simp-implicitDefEqProofs[hk',hf]
 ·simp at h
  have hf:=ig h hall
  simp-implicitDefEqProofs[hf]
theorem Ko:∀(d:Nat),d<=1000->∀s:Sm,s.sz<=1099511627776->VF Tryz.prog G iR [.agg (s.cs.map .p),.p (.int .i64 d)] (.p (.bool (az d s))):=by
 intro d
 induction d with
 |zero=>
  intro _ s _
  refine AC.go ri ?_
  simp-implicitDefEqProofs[iP,Sm.cs_eq,az]
 |succ d ih=>
  intro hd s he
  have hsz:=s.sz_eq
  have hal:=bB s.args
  have hbl:=cn s.body
  have hel:=cn s.els
  have ihs:=vn G d (by omega) (ih (by omega))
  refine AC.goK ri Bf ?_
  have hd1:¬(d:Int)+1<1:=by omega
  have hw':IntKind.i64.wrap (d:Int)=(d:Int):=ab (by omega) (by omega)
  have hxl:∀l,exL l= .lst 4 (l.map Ex.cs):=λ_=>rfl
  have hsl:∀l,smL l= .lst 5 (l.map Sm.cs):=λ_=>rfl
  have hn:s.name.length<=140737488355328:=by omega
  simp-implicitDefEqProofs[rJ,iP,Sm.cs_eq]
  generalize hH:[AO.row 5 [[AV.p (.int .i64 s.op),.p (.str s.name),.p (exL s.args),.p (smL s.body),.p (smL s.els)]]]=H
  have hho:∀o∈H,okO H.length o:=by rw[←hH];simp[okO]
  have hhl:0<H.length:=by rw[←hH];simp
  have hh0:H[0]?=some (AO.row 5 [[AV.p (.int .i64 s.op),.p (.str s.name),.p (exL s.args),.p (smL s.body),.p (smL s.els)]]):=by rw[←hH];rfl
  have hhL:H.length=1:=by rw[←hH];rfl
  refine uS (λ_:Unit=>ah 108 [(1,.p (.int .i64 ((d:Int)+1))),(2,.ptr 0 5 0 0)]) (λ_=>H) (λ_=>inR s.op 1 8=true/\s.args.length=gz s.op) ?_ ?_
  ·simp-implicitDefEqProofs[hd1,hh0]
   refine(sA G _ _ _).use ?_
   by_cases h1:inR s.op 1 8=true
   case neg=>simp-implicitDefEqProofs[h1,az,jn]
   simp-implicitDefEqProofs[h1,hh0,hxl]
   refine(KF G _).useQ ?_
   by_cases h2:s.args.length=gz s.op
   ·simp-implicitDefEqProofs[h2]
    exact ae (by omega) hho (by simp[below,hhl])
   ·have h2':¬(s.args.length:Int)=(gz s.op:Int):=by omega
    simp-implicitDefEqProofs[h2,h2',az,jn]
  intro _ ⟨h1,h2⟩
  refine uS (λ_:Unit=>ah 108 [(1,.p (.int .i64 ((d:Int)+1))),(2,.ptr 0 5 0 0),(5,.p (.bool (cI s.op)))]) (λ_=>H) (λ_=>True) ?_ ?_
  ·simp-implicitDefEqProofs[hh0]
   by_cases o1:s.op=1
   ·simp-implicitDefEqProofs[o1,hh0,cI]
    exact ae (by omega) hho (by simp[below,hhl])
   ·by_cases o2:s.op=2
    ·simp-implicitDefEqProofs[o2,hh0,cI]
     exact ae (by omega) hho (by simp[below,hhl])
    ·simp-implicitDefEqProofs[o1,o2,hh0,cI]
     exact ae (by omega) hho (by simp[below,hhl])
  intro _ _
  refine uS (λ_:Unit=>ah 108 [(1,.p (.int .i64 ((d:Int)+1))),(2,.ptr 0 5 0 0)]) (λ_=>H) (λ_=>(cI s.op==aG s.name)=true/\(cI s.op||decide (s.name=[]))=true) ?_ ?_
  ·simp-implicitDefEqProofs[hh0]
   refine(tn G _ hn).use ?_
   simp-implicitDefEqProofs[hh0]
   repeat' first
    |(refine bc (λhc=>?_) (λhc=>?_)<;>simp-implicitDefEqProofs[hc,hh0])
   all_goals first
    |exact ae (by omega) hho (by simp[below,hhl])
    |exact⟨by simp_all,by simp_all,ae (by omega) hho (by simp[below,hhl])⟩
    |exact⟨by simp_all,ae (by omega) hho (by simp[below,hhl])⟩
    |(simp_all [az,jn];done)
  intro _ ⟨h3,h4⟩
  simp-implicitDefEqProofs[]
  refine aL (λi:Nat=>ah 108 [(1,.p (.int .i64 ((d:Int)+1))),(2,.ptr 0 5 0 0),(6,.p (.int .i64 i))]) (λ_=>H) (λi=>i<=s.args.length/\(s.args.take i).all lZ=true) (λi=>s.args.length-i) 0 (by simp) (ae (by omega) hho (by simp[below,hhl])) ?_
  intro i ⟨hi,hall⟩
  simp-implicitDefEqProofs[hh0,hxl]
  refine bc (λh=>?_) (λh=>?_)
  ·simp at h
   have hg:=UC h
   have hks:=bN (US h)
   simp-implicitDefEqProofs[hg,hh0,hxl]
   refine(Ek G s.args[i] (by omega)).use ?_
   by_cases hk:lZ s.args[i]=true
   ·simp-implicitDefEqProofs[hk]
    exact⟨i+1,⟨h,by rw[←UI,dX h,hall,hk];rfl⟩,by omega,ae (by omega) hho (by simp[below,hhl,w1 (i:=i) (by omega)])⟩
   ·have hk':lZ s.args[i]=false:=by simpa using hk
    have hf:az (d+1) s=false:=by simp only[az,jn,nv h hk',Bool.and_false,Bool.false_and]
    simp-implicitDefEqProofs[hk',hf]
  simp at h
  have h5:s.args.all lZ=true:=ig h hall
  have hlen1:1<=s.args.length:=by rw[h2];unfold gz;split<;>omega
  obtain⟨a0,ar,ha⟩:∃a r,s.args=a::r:=by
   cases hh:s.args with
   |nil=>rw[hh] at hlen1;simp at hlen1
   |cons a r=>exact⟨a,r,rfl⟩
  have ha0:s.args[0]?=some a0:=by rw[ha];rfl
  refine uS (λ_:Unit=>ah 108 [(1,.p (.int .i64 ((d:Int)+1))),(2,.ptr 0 5 0 0)]) (λ_=>H) (λ_=>(!decide (s.op=8)||decide (a0.op=13))=true) ?_ ?_
  ·simp-implicitDefEqProofs[hh0]
   by_cases o8:s.op=8
   ·have hae:=a0.cs_eq
    simp-implicitDefEqProofs[o8,hh0,hxl,ha0,hae]
    refine bc (λhc=>?_) (λhc=>?_)
    ·simp at hc
     have hf:az (d+1) s=false:=by simp[az,jn,o8,ha,hc]
     simp-implicitDefEqProofs[hf]
    ·simp at hc
     simp-implicitDefEqProofs[hc]
     exact ae (by omega) hho (by simp[below,hhl])
   ·simp-implicitDefEqProofs[o8,hh0]
    exact ae (by omega) hho (by simp[below,hhl])
  intro _ h6
  refine uS (λ_:Unit=>ah 108 [(1,.p (.int .i64 ((d:Int)+1))),(2,.ptr 0 5 0 0)]) (λ_=>H) (λ_=>(s.els.isEmpty||decide (s.op=5))=true/\(s.body.isEmpty||decide (s.op=5)||decide (s.op=6))=true) ?_ ?_
  ·have hf:¬((s.els.isEmpty||decide (s.op=5))=true/\(s.body.isEmpty||decide (s.op=5)||decide (s.op=6))=true)->az (d+1) s=false:=λh=>by
    have:jn s=false:=by
     cases hx:jn s with
     |false=>rfl
     |true=>refine absurd ?_ h;simp only[jn,UT] at hx;exact⟨hx.1.2,hx.2⟩
    simp[az,this]
   have pe:¬s.els=[]->0<s.els.length:=List.length_pos_iff.2
   have pb:¬s.body=[]->0<s.body.length:=List.length_pos_iff.2
   by_cases o5:s.op=5
   ·simp-implicitDefEqProofs[hh0,hsl,o5]
    repeat' first
     |(refine bc (λhc=>?_) (λhc=>?_)<;>simp-implicitDefEqProofs[hc,hh0,hsl,o5])
    all_goals exact ae (by omega) hho (by simp[below,hhl])
   by_cases e1:s.els=[]
   case neg=>
    have hf:=hf (by simp[e1,o5])
    have:=pe e1
    simp-implicitDefEqProofs[hh0,hsl,o5,e1,this,hf]
   by_cases e2:s.body=[]
   ·simp-implicitDefEqProofs[hh0,hsl,o5,e1,e2]
    exact ae (by omega) hho (by simp[below,hhl])
   have:=pb e2
   by_cases o6:s.op=6
   ·simp-implicitDefEqProofs[hh0,hsl,o6,e1,e2,this]
    exact ae (by omega) hho (by simp[below,hhl])
   ·have hf:=hf (by simp[e2,o5,o6])
    simp-implicitDefEqProofs[hh0,hsl,o5,o6,e1,e2,this,hf]
  intro _ ⟨h7,h8⟩
  have hm:(match s.args with|a::_=>decide (a.op=13)|[]=>false)=decide (a0.op=13):=by rw[ha]
  have hhd:jn s=true:=by
   have h6':(!decide (s.op=8)||(match s.args with|a::_=>decide (a.op=13)|[]=>false))=true:=by rw[hm];exact h6
   have h2':decide (s.args.length=gz s.op)=true:=by simp[h2]
   simp only[jn,h1,h2',h3,h4,h5,h7,h8,Bool.and_self,Bool.and_true,Bool.true_and]
   exact h6'
  simp-implicitDefEqProofs[hh0,hw']
  refine(ihs s.body (by omega)).use ?_
  by_cases hB:s.body.all (az d)=true
  ·simp only[hB]
   simp-implicitDefEqProofs[hh0,hw']
   refine(ihs s.els (by omega)).use ?_
   have hf:az (d+1) s=s.els.all (az d):=by simp only[az,hhd,hB,Bool.true_and]
   rw[hf]
   generalize s.els.all (az d)=w
   simp-implicitDefEqProofs[]
  ·have hB':s.body.all (az d)=false:=by simpa using hB
   have hf:az (d+1) s=false:=by simp only[az,hB',Bool.and_false,Bool.false_and]
   simp only[hB',hf]
   simp-implicitDefEqProofs[]
theorem Ik(d:Nat)(hd:d<=1000)(l:List Sm)(hl:aD l<=1099511627776):VF Tryz.prog G bT [.p (smL l),.p (.int .i64 d)] (.p (.bool (l.all (az d)))):=
 vn G d hd (Ko G d hd) l hl
theorem OL(f:Fd)(hf:f.sz<=1099511627776):VF Tryz.prog G oc [.agg (f.cs.map .p)] (.p (.bool (kb f))):=by
 refine AC.go Ey ?_
 have hsz:f.sz=1+f.name.length+(f.params.length+(f.params.map List.length).sum)+aD f.body:=rfl
 have hps:∀x∈f.params,x.length<=(f.params.map List.length).sum:=λx hx=>by
  have key:∀l:List (List UInt8),x∈l->x.length<=(l.map List.length).sum:=by
   intro l
   induction l with
   |nil=>intro h;cases h
   |cons y r ih=>
    intro h
    simp only[Ve,List.sum_cons]
    rcases UK.1 h with rfl|h
    ·omega
    ·have:=ih h;omega
  exact key _ hx
 have hst:aw f.params= .lst 1 (f.params.map λw=>[.str w]):=rfl
 have h4:=Ik G 4 (by omega) f.body (by omega)
 simp-implicitDefEqProofs[vr,Fd.cs,hst]
 refine aL (λi:Nat=>ah 32 [(1,.ptr 0 3 0 0),(3,.p (.int .i64 i))]) (λ_=>[.row 3 [[.p (.str f.name),.p (aw f.params),.p (smL f.body)]]]) (λi=>i<=f.params.length/\(f.params.take i).all aG=true) (λi=>f.params.length-i) 0 (by simp) (ae (by simp) (by simp[okO]) (by simp[below])) ?_
 intro i ⟨hi,hall⟩
 simp-implicitDefEqProofs[hst]
 refine bc (λh=>?_) (λh=>?_)
 ·simp at h
  have hg:=UC h
  have hl:=hps _ (US h)
  simp-implicitDefEqProofs[hg]
  refine(tn G _ (by omega)).use ?_
  by_cases hk:aG f.params[i]=true
  ·simp-implicitDefEqProofs[hk]
   exact⟨i+1,⟨h,by rw[←UI,dX h,hall,hk];rfl⟩,by omega,ae (by simp) (by simp[okO]) (by simp[below,w1 (i:=i) (by omega)])⟩
  ·have hk':aG f.params[i]=false:=by simpa using hk
   have hff:kb f=false:=by simp only[kb,nv h hk',Bool.false_and]
   simp-implicitDefEqProofs[hk',hff]
 ·simp at h
  have h1:f.params.all aG=true:=ig h hall
  simp-implicitDefEqProofs[]
  refine(tn G _ (by omega)).use ?_
  by_cases h2:aG f.name=true
  case neg=>
   have h2':aG f.name=false:=by simpa using h2
   simp-implicitDefEqProofs[h2',kb]
  simp-implicitDefEqProofs[h2]
  by_cases h3:f.params.length<=3
  case neg=>
   have h3':¬(f.params.length:Int)<=3:=by omega
   simp-implicitDefEqProofs[h3,h3',kb]
  have h3':(f.params.length:Int)<=3:=by omega
  simp-implicitDefEqProofs[h3']
  refine h4.use ?_
  have hff:kb f=f.body.all (az 4):=by simp only[kb,h1,h2,h3,decide_true,Bool.true_and]
  rw[hff]
  generalize f.body.all (az 4)=w
  simp-implicitDefEqProofs[]
theorem IL{l:List Sm}{i:Nat}(h:i<l.length):dO (l.take (i+1))=dO (l.take i)+l[i].cnt:=by
 rw[aq h,oq];simp[dO]
theorem tR(l:List Sm)(i:Nat):dO (l.take i)<=dO l:=by
 have:=oq (l.take i) (l.drop i)
 rw[Vu] at this
 omega
def lO(l:List Sm)(i:Nat):Nat:=l.length+((l.take i).map λs=>dO s.body+dO s.els).sum
theorem FO(l:List Sm):lO l 0=l.length:=by simp[lO]
theorem zL{l:List Sm}{i:Nat}(h:i<l.length):lO l (i+1)=lO l i+dO l[i].body+dO l[i].els:=by
 rw[lO,lO,aq h,List.map_append,List.sum_append]
 simp only[Ve,List.map_nil,List.sum_cons,List.sum_nil]
 omega
theorem vf(l:List Sm):∀i,i<=l.length->dO (l.take i)+l.length=i+lO l i
 |0,_=>by simp[dO,lO]
 |i+1,h=>by
  have:=vf l i (by omega)
  rw[IL (by omega),zL (by omega),(l[i]'(by omega)).cnt_eq]
  omega
theorem Iv:∀(k:Nat) (l:List Sm),aD l<=k->k<=1099511627776->VF Tryz.prog G eI [.p (smL l)] (.p (.int .i64 (dO l))):=by
 intro k
 induction k with
 |zero=>
  intro l hl _
  have:l=[]:=by
   cases l with
   |nil=>rfl
   |cons s r=>have:=s.sz_eq;simp only[aD] at hl;omega
  subst this
  refine AC.go oM ?_
  have hsl:smL []= .lst 5 []:=rfl
  simp-implicitDefEqProofs[ky,hsl]
  refine aL (λ_:Unit=>ah 29 [(0,.p (.lst 5 [])),(3,.p (.int .i64 0)),(4,.p (.int .i64 0))]) (λ_=>[]) (λ_=>True) (λ_=>0) () trivial (bF rfl (by simp[below])) ?_
  intro _ _
  simp-implicitDefEqProofs[dO]
 |succ k ih=>
  intro l hl hk
  have hll:=cn l
  have hnz:=pr l
  refine AC.go oM ?_
  have hsl:∀l,smL l= .lst 5 (l.map Sm.cs):=λ_=>rfl
  simp-implicitDefEqProofs[ky,hsl]
  refine aL (λi:Nat=>ah 29 [(0,.p (smL l)),(3,.p (.int .i64 (lO l i))),(4,.p (.int .i64 i))]) (λ_=>[]) (λi=>i<=l.length) (λi=>l.length-i) 0 (by simp) (bF rfl (by simp[below,hsl,FO])) ?_
  intro i hi
  have k0:=vf l i hi
  have k2:=tR l i
  simp-implicitDefEqProofs[hsl]
  refine bc (λh=>?_) (λh=>?_)
  ·simp at h
   have hg:=UC h
   have hks:=dP (US h)
   have hse:=l[i].sz_eq
   have hce:=l[i].cs_eq
   have k1:=zL h
   have k3:=vf l (i+1) h
   have k4:=tR l (i+1)
   simp-implicitDefEqProofs[hg,hce]
   refine(ih l[i].body (by omega) (by omega)).use ?_
   simp-implicitDefEqProofs[hg,hce]
   refine(ih l[i].els (by omega) (by omega)).use ?_
   have w1':IntKind.i64.wrap ((lO l i:Int)+(dO l[i].body:Int))=(lO l i:Int)+(dO l[i].body:Int):=ab (by omega) (by omega)
   have w2':IntKind.i64.wrap ((lO l i:Int)+(dO l[i].body:Int)+(dO l[i].els:Int))=(lO l (i+1):Int):=by rw[ab (by omega) (by omega)];omega
   simp-implicitDefEqProofs[w1',w2']
   exact⟨i+1,h,by omega,bF rfl (by simp[below,hsl,w1 (i:=i) (by omega)])⟩
  ·simp at h
   rw[UG h] at k0
   have:lO l i=dO l:=by omega
   simp-implicitDefEqProofs[this]
theorem cS:∀{l:List Fd} {f:Fd},f∈l->f.sz<=aI l
 |x::r,e,h=>by
  simp only[aI,Ve,List.sum_cons]
  rcases UK.1 h with rfl|h
  ·omega
  ·have:=cS h;simp only[aI] at this;omega
theorem gQ:∀l:List Fd,l.length<=aI l
 |[]=>UM _
 |e::r=>by have:=gQ r;simp only[aI,Ve,List.sum_cons,UW] at this⊢;have:1<=e.sz:=by unfold Fd.sz;omega
           omega
def Av(l:List Fd)(i:Nat):Nat:=mV (l.take i)
theorem Io{l:List Fd}{i:Nat}(h:i<l.length):Av l (i+1)=Av l i+dO l[i].body:=by
 rw[Av,Av,mV,mV,aq h,List.map_append,List.sum_append];simp
theorem CT:∀l:List Fd,mV l<=aI l
 |[]=>UM _
 |f::r=>by
  have:=CT r
  have h2:=pr f.body
  simp only[mV,aI,Ve,List.sum_cons] at this⊢
  have:aD f.body<=f.sz:=by unfold Fd.sz;omega
  omega
theorem NK(l:List Fd)(i:Nat):Av l i<=aI l:=by
 have h1:=CT (l.take i)
 have h2:aI (l.take i)<=aI l:=by
  have:aI l=aI (l.take i)+aI (l.drop i):=by
   rw[←Vu i l,aI,List.map_append,List.sum_append];simp[aI]
  omega
 exact UR h1 h2
theorem NU(l:List Fd)(hl:aI l<=1099511627776):VF Tryz.prog G nz [.agg [.p (fdL l)]] (.p (.int .i64 (mV l))):=by
 refine AC.go Cg ?_
 have hll:=gQ l
 have hfl:∀l,fdL l= .lst 3 (l.map Fd.cs):=λ_=>rfl
 simp-implicitDefEqProofs[tC]
 refine aL (λi:Nat=>ah 22 [(1,.ptr 0 1 0 0),(3,.p (.int .i64 (Av l i))),(4,.p (.int .i64 i))]) (λ_=>[.row 1 [[.p (fdL l)]]]) (λi=>i<=l.length) (λi=>l.length-i) 0 (by simp) (ae (by simp) (by simp[okO]) (by simp[below,Av,mV])) ?_
 intro i hi
 simp-implicitDefEqProofs[hfl]
 refine bc (λh=>?_) (λh=>?_)
 ·simp at h
  have hg:=UC h
  have hks:=cS (US h)
  have hse:l[i].sz=1+l[i].name.length+(l[i].params.length+(l[i].params.map List.length).sum)+aD l[i].body:=rfl
  have hce:l[i].cs=[.str l[i].name,aw l[i].params,smL l[i].body]:=rfl
  have k1:=Io h
  have k2:=NK l (i+1)
  simp-implicitDefEqProofs[hg,hce]
  refine(Iv G _ l[i].body (UM _) (by omega)).use ?_
  have w1':IntKind.i64.wrap ((Av l i:Int)+(dO l[i].body:Int))=(Av l (i+1):Int):=by rw[ab (by omega) (by omega)];omega
  simp-implicitDefEqProofs[w1']
  exact⟨i+1,h,by omega,ae (by simp) (by simp[okO]) (by simp[below,w1 (i:=i) (by omega),hfl])⟩
 ·simp at h
  have:Av l i=mV l:=by rw[Av,UG h]
  simp-implicitDefEqProofs[this]
theorem kM(l:List Fd)(hl:aI l<=1099511627776):VF Tryz.prog G dw [.agg [.p (fdL l)]] (.p (.bool (bs l))):=by
 refine AC.go pN ?_
 have hfl:∀l,fdL l= .lst 3 (l.map Fd.cs):=λ_=>rfl
 have hall:=NU G l hl
 have hll:=gQ l
 rw[hfl] at hall
 simp-implicitDefEqProofs[jJ,hfl]
 refine(sA G _ _ _).use ?_
 by_cases h1:inR l.length 1 4=true
 case neg=>simp-implicitDefEqProofs[h1,bs]
 simp-implicitDefEqProofs[h1]
 refine aL (λi:Nat=>ah 26 [(1,.ptr 0 1 0 0),(3,.p (.int .i64 i))]) (λ_=>[.row 1 [[.p (.lst 3 (l.map Fd.cs))]]]) (λi=>i<=l.length/\(l.take i).all kb=true) (λi=>l.length-i) 0 (by simp) (ae (by simp) (by simp[okO]) (by simp[below])) ?_
 intro i ⟨hi,ha⟩
 simp-implicitDefEqProofs[]
 refine bc (λh=>?_) (λh=>?_)
 ·simp at h
  have hg:=UC h
  have hks:=cS (US h)
  simp-implicitDefEqProofs[hg]
  refine(OL G l[i] (by omega)).use ?_
  by_cases hk:kb l[i]=true
  ·simp-implicitDefEqProofs[hk]
   exact⟨i+1,⟨h,by rw[←UI,dX h,ha,hk];rfl⟩,by omega,ae (by simp) (by simp[okO]) (by simp[below,w1 (i:=i) (by omega)])⟩
  ·have hk':kb l[i]=false:=by simpa using hk
   have hff:bs l=false:=by simp only[bs,nv h hk',Bool.and_false,Bool.false_and]
   simp-implicitDefEqProofs[hk',hff]
 ·simp at h
  have h2:l.all kb=true:=ig h ha
  simp-implicitDefEqProofs[]
  refine hall.use ?_
  have hff:bs l=decide (mV l<=40):=by simp only[bs,h1,h2,Bool.true_and]
  simp-implicitDefEqProofs[hff]
  omega
end
section
theorem Ex.ext'{a b:Ex}(h1:a.op=b.op)(h2:a.n=b.n)(h3:a.name=b.name)(h4:a.kids=b.kids):a=b:=by
 cases a;cases b;simp only[Ex.op,Ex.n,Ex.name,Ex.kids] at*;subst h1 h2 h3 h4;rfl
theorem Sm.ext'{a b:Sm}(h1:a.op=b.op)(h2:a.name=b.name)(h3:a.args=b.args)(h4:a.body=b.body)(h5:a.els=b.els):a=b:=by
 cases a;cases b;simp only[Sm.op,Sm.name,Sm.args,Sm.body,Sm.els] at*;subst h1 h2 h3 h4 h5;rfl
variable (G:al)
end
section
def ixI:Option Nat->Int|none=> -1|some i=>i
def vaC(nf:Bool)(id n:Nat):AV:=if nf then .nils else .sl id 3 0 n
def lvC(v:LV):List AV:=[.p (.str v.name),.p (.int .i64 v.num),.p (.int .i64 v.block)]
def lvR(vs:List LV):List (List AV):=vs.reverse.map lvC
def roC(nf:Bool)(vs:List LV):AO:=if nf then .dead else .row 3 (lvR vs)
def wC(id:Nat)(nf:Bool)(fns:List Fd)(k:Nat)(w:WS):List AV:=[.p (fdL fns),.p (.int .i64 k),vaC nf id w.vs.length,.p (.int .i64 w.count),.p (.int .i64 w.code)]
def wO(id:Nat)(nf:Bool)(fns:List Fd)(k:Nat)(w:WS):AO:= .row 5 [wC id nf fns k w]
def HWk(nf:Bool)(fns:List Fd)(k:Nat)(w:WS):List AO:=[wO 1 nf fns k w,roC nf w.vs]
theorem yJ(vs:List LV):(lvR vs).length=vs.length:=by simp[lvR]
theorem En(vs:List LV):∀x∈lvR vs,af 0 x:=by
 intro x hx;obtain⟨m,_,rfl⟩:=UX.1 hx;simp[lvC,af,below]
theorem fY(nf:Bool)(vs:List LV)(n:Nat):okO n (roC nf vs):=by
 cases nf
 ·exact eb (λe he=>En vs e he)
 ·exact trivial
theorem IC{nf:Bool}{id n m:Nat}(h:id<m):below m (vaC nf id n):=by cases nf<;>simp[vaC,below,h]
theorem yU{id:Nat}{nf:Bool}{fns:List Fd}{k:Nat}{w:WS}{m:Nat}(h:id<m):af m (wC id nf fns k w):=⟨by simp,by simp,IC h,by simp,by simp,trivial⟩
theorem vD{id:Nat}{nf:Bool}{fns:List Fd}{k:Nat}{w:WS}{m:Nat}(h:id<m):okO m (wO id nf fns k w):=by
 intro e he;rw[UL.1 he];exact yU h
theorem MJ(σ:List Nat)(nf:Bool)(id n:Nat):ren σ (vaC nf id n)=vaC nf (σ.getD id 0) n:=by cases nf<;>rfl
theorem Ci(σ:List Nat)(id:Nat)(nf:Bool)(fns:List Fd)(k:Nat)(w:WS):bg σ (wC id nf fns k w)=wC (σ.getD id 0) nf fns k w:=by
 simp only[wC,bg,MJ];rfl
theorem GC(σ:List Nat)(id:Nat)(nf:Bool)(fns:List Fd)(k:Nat)(w:WS):ie σ (wO id nf fns k w)=wO (σ.getD id 0) nf fns k w:=by
 simp only[wO,ie,Ve,List.map_nil,Ci]
theorem DF(σ:List Nat)(nf:Bool)(vs:List LV):ie σ (roC nf vs)=roC nf vs:=by
 cases nf
 ·show AO.row 3 ((lvR vs).map (bg σ))= .row 3 (lvR vs)
  rw[Vc (g:=id) λx hx=>dY σ x (En vs x hx)];simp
 ·rfl
theorem Gg(pre:List LV)(v:LV)(r:List LV):(lvR (pre++v::r))[r.length]?=some (lvC v):=by
 simp[lvR]
theorem Kd(v:LV)(r:List LV):lvR (v::r)=lvR r++[lvC v]:=by simp[lvR]
def uy:List LV->List UInt8->Int
 |[],_=> -1
 |v::r,s=>if v.name=s then r.length else uy r s
theorem uJ:∀(vs:List LV) (s:List UInt8),(lkV vs s=none/\uy vs s= -1)\/∃pre v r,vs=pre++v::r/\lkV vs s=some v/\uy vs s=r.length
 |[],s=> .inl ⟨rfl,rfl⟩
 |v::r,s=>by
  by_cases h:v.name=s
  ·exact .inr ⟨[],v,r,rfl,by simp[lkV,h],by simp[uy,h]⟩
  ·have h1:lkV (v::r) s=lkV r s:=by simp[lkV,h]
   have h2:uy (v::r) s=uy r s:=by simp[uy,h]
   rw[h1,h2]
   rcases uJ r s with h|⟨pre,u,q,e,h⟩
   ·exact .inl h
   ·exact .inr ⟨v::pre,u,q,by rw[e];rfl,h⟩
theorem to:AK.whole hZ=FK.ak gu:=rfl
variable (G:al)
theorem Ft(l:List Fd)(s:List UInt8)(hl:l.length<=1099511627776):VF Tryz.prog G jh [.agg [.p (fdL l)],.p (.str s)] (.p (.int .i64 (ixI (bQ l s)))):=by
 refine AC.go Ds ?_
 have hfl:∀l,fdL l= .lst 3 (l.map Fd.cs):=λ_=>rfl
 simp-implicitDefEqProofs[vF,hfl]
 refine aL (λi:Nat=>ah 22 [(1,.p (.str s)),(2,.ptr 0 1 0 0),(5,.p (.int .i64 i))]) (λ_=>[.row 1 [[.p (.lst 3 (l.map Fd.cs))]]]) (λi=>i<=l.length/\∀f∈l.take i,f.name≠s) (λi=>l.length-i) 0 (by simp) (ae (by simp) (by simp[okO]) (by simp[below])) ?_
 intro i ⟨hi,hn⟩
 simp-implicitDefEqProofs[]
 refine bc (λh=>?_) (λh=>?_)
 ·simp at h
  have hg:=UC h
  have hce:l[i].cs=[.str l[i].name,aw l[i].params,smL l[i].body]:=rfl
  by_cases he:l[i].name=s
  ·have hf:bQ l s=some i:=by
    rw[bQ,UU]
    exact⟨h,by simpa using he,λj hj=>by have:=hn l[j] (VJ.2 ⟨j,by omega,rfl⟩);simpa using this⟩
   simp-implicitDefEqProofs[hg,hce,he,hf,ixI]
  ·simp-implicitDefEqProofs[hg,hce,he]
   refine⟨i+1,⟨h,λp hp=>?_⟩,by omega,ae (by simp) (by simp[okO]) (by simp[below,w1 (i:=i) (by omega)])⟩
   rw[aq h] at hp
   rcases UJ.1 hp with hp|hp
   ·exact hn p hp
   ·rw[UL.1 hp];exact he
 ·simp at h
  rw[UG h] at hn
  have hf:bQ l s=none:=by
   rw[bQ,Vi];intro x hx;simpa using hn x hx
  simp-implicitDefEqProofs[hf,ixI]
theorem Po:∀m:Nat,m<26->((([97,98,99,100,101,102,103,104,105,106,107,108,109,110,111,112,113,114,115,116,117,118,119,120,121,122]:List UInt8).take (m+1)).drop m)=[UInt8.ofNat (97+m)]:=by decide
theorem NR:∀m:Nat,m<26->List.drop m ((97:UInt8)::List.take m [98,99,100,101,102,103,104,105,106,107,108,109,110,111,112,113,114,115,116,117,118,119,120,121,122])=[97+UInt8.ofNat m]:=by decide
theorem zW(n:Nat):VF Tryz.prog G ja [.p (.int .i64 n)] (.p (.str (vnm n))):=by
 refine AC.go AR ?_
 have hm:n%26<26:=Nat.mod_lt _ (by omega)
 have ht:(n:Int).tmod 26=((n%26:Nat):Int):=rfl
 have hw:IntKind.i64.wrap (((n%26:Nat):Int)+1)=((n%26+1:Nat):Int):=w1 (by omega)
 have habc:=Po _ hm
 rw[vnm]
 generalize n%26=m at hm ht hw habc
 have h0:(0:Int)<=(m:Int)+1:=by omega
 have h1:m+1<=26:=by omega
 simp-implicitDefEqProofs[rR,ht,hw,h0,h1]
 exact⟨by omega,NR m hm⟩
theorem pF(nf:Bool)(fns:List Fd)(k:Nat)(w:WS)(c:Int):AC Tryz.prog G bu [.ptr 0 5 0 0,.p (.int .i64 c)] (HWk nf fns k w) λx h=>x= .ret (.tup [])/\h=HWk nf fns k ⟨w.vs,w.count,fl w.code c⟩:=by
 refine AC.go sL ?_
 by_cases h0:w.code=0
 ·simp-implicitDefEqProofs[fV,HWk,wO,wC,h0,fl]
 ·simp-implicitDefEqProofs[fV,HWk,wO,wC,h0,fl]
theorem zT(nf:Bool)(fns:List Fd)(k:Nat)(w:WS):∀o∈HWk nf fns k w,okO 2 o:=by
 intro o ho
 simp only[HWk,UK,Va,or_false] at ho
 rcases ho with rfl|rfl
 ·exact vD (by omega)
 ·exact fY _ _ _
theorem Hs(nf:Bool)(fns:List Fd)(k:Nat)(w:WS)(hn:nf=true->w.vs=[])(hl:w.vs.length<=1099511627776)(s:List UInt8):AC Tryz.prog G dJ [.ptr 0 5 0 0,.p (.str s)] (HWk nf fns k w) λx h=>x= .ret (.p (.int .i64 (uy w.vs s)))/\h=HWk nf fns k w:=by
 refine AC.go sE ?_
 have hok:=zT nf fns k w
 cases nf with
 |true=>
  have hv:=hn rfl
  rw[HWk] at hok⊢
  simp-implicitDefEqProofs[ga,wO,wC,vaC,hv]
  refine aL (λ_:Unit=>ah 27 [(0,.ptr 0 5 0 0),(1,.p (.str s)),(5,.p (.int .i64 (-1)))]) (λ_=>[wO 1 true fns k w,roC true w.vs]) (λ_=>True) (λ_=>0) () trivial ?_ ?_
  ·have e:wO 1 true fns k w= .row 5 [[.p (fdL fns),.p (.int .i64 k),.nils,.p (.int .i64 w.count),.p (.int .i64 w.code)]]:=by simp[wO,wC,vaC]
   rw[←e,←hv]
   exact ae (by simp) hok (by simp[below,ab (x:= -1) (by omega) (by omega)])
  ·intro _ _
   simp-implicitDefEqProofs[uy]
   simp[wO,wC,vaC,hv]
 |false=>
  rw[HWk] at hok⊢
  have e:∀r,roC false r= .row 3 (lvR r):=λ_=>rfl
  have hw0:IntKind.i64.wrap ((w.vs.length:Int)-1)=(w.vs.length:Int)-1:=ab (by omega) (by omega)
  simp-implicitDefEqProofs[ga,wO,wC,vaC,hw0]
  refine aL (λr:List LV=>ah 27 [(0,.ptr 0 5 0 0),(1,.p (.str s)),(5,.p (.int .i64 ((r.length:Int)-1)))]) (λ_=>[wO 1 false fns k w,roC false w.vs]) (λr=>∃pre,w.vs=pre++r/\uy w.vs s=uy r s) (λr=>r.length) w.vs ⟨[],rfl,rfl⟩ ?_ ?_
  ·exact ae (h:=[wO 1 false fns k w,roC false w.vs]) (by simp) hok (by simp[below])
  ·rintro r ⟨pre,e1,e2⟩
   cases r with
   |nil=>
    simp-implicitDefEqProofs[wO,wC,vaC]
    rw[e2];rfl
   |cons v r=>
    have hat:=Gg pre v r
    rw[←e1] at hat
    have hlen:r.length<w.vs.length:=by rw[e1];simp;omega
    have hll:=yJ w.vs
    have c1:((r.length+1:Nat):Int)-1=(r.length:Int):=by omega
    have hw1:IntKind.i64.wrap ((r.length:Int)-1)=(r.length:Int)-1:=ab (by omega) (by omega)
    by_cases hs:v.name=s
    ·simp-implicitDefEqProofs[wO,wC,vaC,e,c1,hat,hlen,lvC,hs]
     rw[e2];simp[uy,hs]
    ·simp-implicitDefEqProofs[wO,wC,vaC,e,c1,hat,hlen,lvC,hs]
     refine⟨r,⟨⟨pre++[v],by rw[e1];simp⟩,by rw[e2];simp[uy,hs]⟩,by simp,?_⟩
     refine ae (h:=[wO 1 false fns k w,roC false w.vs]) (by simp) hok ?_
     simp[below,hw1]
theorem La(nf:Bool)(fns:List Fd)(k:Nat)(w:WS)(hn:nf=true->w.vs=[])(hl:w.vs.length<=1099511627776)(s:List UInt8):AC Tryz.prog G ef [.ptr 0 5 0 0,.p (.str s)] (HWk nf fns k w) λx h=>x= .ret (.p (.str (yQ w.vs s)))/\h=HWk nf fns k ⟨w.vs,w.count,oT w.vs s w.code⟩:=by
 refine AC.go sW ?_
 simp-implicitDefEqProofs[lK]
 refine(Hs G nf fns k w hn hl s).mono ?_
 rintro r h ⟨rfl,rfl⟩
 rcases uJ w.vs s with⟨e1,e2⟩|⟨pre,v,q,e0,e1,e2⟩
 ·simp-implicitDefEqProofs[aa,e2]
  refine(pF G nf fns k w 3).mono ?_
  rintro r h ⟨rfl,rfl⟩
  simp-implicitDefEqProofs[aa,yQ,oT,e1]
 ·have hat:=Gg pre v q
  rw[←e0] at hat
  have hlen:q.length<w.vs.length:=by rw[e0];simp;omega
  have hnf:nf=false:=by
   cases nf with
   |false=>rfl
   |true=>rw[hn rfl] at e0;simp at e0
  subst hnf
  have e:∀r,roC false r= .row 3 (lvR r):=λ_=>rfl
  have hq:¬(q.length:Int)<0:=by omega
  simp-implicitDefEqProofs[aa,e2,hq,HWk,wO,wC,vaC,e,hat,hlen,lvC]
  refine(zW G v.num).use ?_
  simp-implicitDefEqProofs[yQ,oT,e1]
theorem Lw(nf:Bool)(fns:List Fd)(k:Nat)(w:WS)(hn:nf=true->w.vs=[])(hl:w.vs.length<=1099511627776)(hc:w.count<=1099511627776)(s:List UInt8)(b:Nat):AC Tryz.prog G ee [.ptr 0 5 0 0,.p (.str s),.p (.int .i64 b)] (HWk nf fns k w) λx h=>x= .ret (.p (.str (vnm w.count)))/\h=[wO 2 false fns k (gV w s b),.dead,roC false (gV w s b).vs]:=by
 refine AC.goK ue to ?_
 have hw1:IntKind.i64.wrap ((w.count:Int)+1)=(w.count:Int)+1:=ab (by omega) (by omega)
 have hw2:IntKind.i64.wrap ((w.count:Int)+1-1)=(w.count:Int):=by rw[ab (by omega) (by omega)];omega
 have hw3:IntKind.i64.wrap (w.count:Int)=(w.count:Int):=ab (by omega) (by omega)
 have hll:=yJ w.vs
 simp-implicitDefEqProofs[hZ,gu]
 refine(Hs G nf fns k w hn hl s).mono ?_
 rintro r h ⟨rfl,rfl⟩
 simp-implicitDefEqProofs[aa]
 refine nq (ah 57 [(0,.ptr 0 5 0 0),(1,.p (.str s)),(2,.p (.int .i64 b))]) (HWk nf fns k ⟨w.vs,w.count,pU w.vs s b w.code⟩) ?_ ?_
 ·rcases uJ w.vs s with⟨e1,e2⟩|⟨pre,v,q,e0,e1,e2⟩
  ·simp-implicitDefEqProofs[e2,pU,e1]
   exact ae (by simp[HWk]) (zT nf fns k w) (by simp[below,HWk])
  ·have hat:=Gg pre v q
   rw[←e0] at hat
   have hlen:q.length<w.vs.length:=by rw[e0];simp;omega
   have hnf:nf=false:=by
    cases nf with
    |false=>rfl
    |true=>rw[hn rfl] at e0;simp at e0
   subst hnf
   have e:∀r,roC false r= .row 3 (lvR r):=λ_=>rfl
   have hq:(0:Int)<=(q.length:Int):=by omega
   by_cases hb:v.block=b
   ·have:=pF G false fns k w 2
    simp only[HWk,wO,wC,vaC,e] at this
    simp-implicitDefEqProofs[e2,HWk,wO,wC,vaC,e,hat,hlen,lvC,hb]
    refine this.mono ?_
    rintro r h ⟨rfl,rfl⟩
    have hp:pU w.vs s b w.code=fl w.code 2:=by simp[pU,e1,hb]
    rw[hp]
    simp-implicitDefEqProofs[aa]
    refine ae (h:=HWk false fns k ⟨w.vs,w.count,fl w.code 2⟩) ?_ (zT _ _ _ _) ?_
    ·simp[HWk]
    ·simp[below,HWk]
   ·have hp:pU w.vs s b w.code=w.code:=by simp[pU,e1,hb]
    have hbi:¬(v.block:Int)=(b:Int):=by omega
    rw[hp]
    simp-implicitDefEqProofs[e2,HWk,wO,wC,vaC,e,hat,hlen,lvC,hbi]
    refine ae (h:=HWk false fns k w) ?_ (zT _ _ _ _) ?_
    ·simp[HWk]
    ·simp[below,HWk]
 ·cases nf with
  |true=>
   have hv:=hn rfl
   simp-implicitDefEqProofs[HWk,wO,wC,vaC,roC,hv,hw1,hw2,hw3]
   refine(zW G w.count).use ?_
   simp-implicitDefEqProofs[gV,lvR,lvC,hv]
  |false=>
   have e:∀r,roC false r= .row 3 (lvR r):=λ_=>rfl
   simp-implicitDefEqProofs[HWk,wO,wC,vaC,e,hw1,hw2,hw3,hll]
   refine⟨by omega,?_⟩
   refine(zW G w.count).use ?_
   simp-implicitDefEqProofs[gV,Kd,lvC]
   rw[UG (by omega)]
end
section
theorem sg:AK.whole gi=FK.ak gg:=rfl
variable (G:al)
theorem ED{f:FuncId}{args:List AV}{nf:Bool}{fns:List Fd}{k:Nat}{w w':WS}{v:AV}(H:AC Tryz.prog G f args (HWk nf fns k w) λx h=>x= .ret v/\h=HWk nf fns k w')(rest:List AO)(ha:af 2 args):
 AC Tryz.prog G f args (wO 1 nf fns k w::roC nf w.vs::rest) λx h=>x= .ret v/\h=wO 1 nf fns k w'::roC nf w'.vs::rest:=by
 refine(AC.pre H rest ha (zT _ _ _ _) ?_).mono ?_
 ·rintro x h ⟨_,rfl⟩;rfl
 ·rintro x h ⟨h1,⟨rfl,rfl⟩,rfl⟩
  exact⟨rfl,rfl⟩
theorem uj{n id:Nat}(hn:id<n){nf nf':Bool}{fns:List Fd}{k:Nat}{w:WS}{vs:List LV}{l:List AO}(r:∀o∈l,okO n o):∀o∈wO id nf fns k w::roC nf' vs::l,okO n o:=aj (vD hn) (aj (fY _ _ _) r)
theorem zS{ρ π:List Nat}{h r1:List AO}{i id:Nat}{nf:Bool}{fns:List Fd}{k:Nat}{w:WS}(hid:id<ρ.length)(e:h[i]?=some (wO (ρ.getD id 0) nf fns k w))(hr:HW ρ h π r1):HW ρ h (i::π) (wO id nf fns k w::r1):=by
 refine db (es:=[wC id nf fns k w]) (λx hx=>?_) ?_ hr
 ·rw[UL.1 hx];exact yU hid
 ·rw[e,Ve,List.map_nil,Ci];rfl
theorem Je{α:Type}{l:List α}{i j:Nat}{a b:α}(hij:i≠j)(h:l[j]?=some b):(l.set i a).set j b=l.set i a:=by
 apply List.ext_getElem?
 intro n
 rw[List.getElem?_set]
 split
 ·rename_i e
  subst e
  rw[UA hij,h]
  rw[if_pos (by rw[Vd];exact(Uz.1 h).1)]
 ·rfl
theorem CN(ρ:List Nat):∀l:List AV,af 0 l->TW ρ l l
 |[],_=>by simp
 |v::r,h=>by
  rw[yE]
  refine⟨.inr ⟨(bi (VA _) [v] ⟨h.1,trivial⟩).1,?_⟩,CN ρ r h.2⟩
  have:=dY ρ [v] ⟨h.1,trivial⟩
  simpa[bg] using this
theorem Rm{h:List AO}{wid id:Nat}{nf:Bool}{fns:List Fd}{k:Nat}{w:WS}(e0:h[wid]?=some (wO id nf fns k w))(e1:h[id]?=some (roC nf w.vs)):HW [wid,id] h [wid,id] (HWk nf fns k w):=by
 refine db (es:=[wC 1 nf fns k w]) (λx hx=>?_) ?_ ?_
 ·rw[UL.1 hx];exact yU (by simp)
 ·rw[e0,Ve,List.map_nil,Ci];rfl
 ·exact bS e1 (fY _ _ _) bR
theorem PJ{f:FuncId}{args:List AV}{nf:Bool}{fns:List Fd}{k:Nat}{w:WS}{v:AV}{c:Int}(H:AC Tryz.prog G f (.ptr 0 5 0 0::args) (HWk nf fns k w) λx h=>x= .ret v/\h=HWk nf fns k ⟨w.vs,w.count,c⟩)(ha:af 0 args)(hv:below 0 v)
 {h:List AO}{wid id:Nat}(hid:wid≠id)(e0:h[wid]?=some (wO id nf fns k w))(e1:h[id]?=some (roC nf w.vs)):
 AC Tryz.prog G f (.ptr wid 5 0 0::args) h λx h'=>x= .ret v/\h'=h.set wid (wO id nf fns k ⟨w.vs,w.count,c⟩):=by
 refine(H.frame [wid,id] (by simp[hid]) ?_ (Rm e0 e1)).mono ?_
 ·rw[yE];exact⟨.inr ⟨by simp[below],rfl⟩,CN _ _ ha⟩
 ·rintro x h' ⟨x0,h0,⟨rfl,rfl⟩,_,rfl,rfl⟩
  refine⟨?_,?_⟩
  ·have:=dY ([wid,id]++List.range' h.length ((HWk nf fns k ⟨w.vs,w.count,c⟩).length-(HWk nf fns k w).length)) [v] ⟨hv,trivial⟩
   simp only[bg] at this
   simp only[Be]
   exact congrArg ARes.ret (List.cons.inj this).1
  ·simp only[HWk,UW,List.length_nil,Nat.sub_self,List.range'_zero,Vs,List.take_succ_cons,List.take_zero,Ve,List.map_nil,List.drop_succ_cons,List.drop_zero,GC,DF,mrg]
   exact Je hid e1
theorem LU{f:FuncId}{args:List AV}{nf:Bool}{fns:List Fd}{k:Nat}{w:WS}{v:AV}{Q:Bool->WS->Prop}(H:AC Tryz.prog G f (.ptr 0 5 0 0::args) (HWk nf fns k w) λx h=>∃nf' w',x= .ret v/\h=[wO 2 nf' fns k w',.dead,roC nf' w'.vs]/\Q nf' w')(ha:af 0 args)(hv:below 0 v)
 {h:List AO}{wid id:Nat}(hid:wid≠id)(e0:h[wid]?=some (wO id nf fns k w))(e1:h[id]?=some (roC nf w.vs)):
 AC Tryz.prog G f (.ptr wid 5 0 0::args) h λx h'=>∃nf' w',x= .ret v/\h'=(h.set wid (wO h.length nf' fns k w')).set id .dead++[roC nf' w'.vs]/\Q nf' w':=by
 refine(H.frame [wid,id] (by simp[hid]) ?_ (Rm e0 e1)).mono ?_
 ·rw[yE];exact⟨.inr ⟨by simp[below],rfl⟩,CN _ _ ha⟩
 ·rintro x h' ⟨x0,h0,⟨nf',w',rfl,rfl,q⟩,_,rfl,rfl⟩
  refine⟨nf',w',?_,?_,q⟩
  ·have:=dY ([wid,id]++List.range' h.length ([wO 2 nf' fns k w',.dead,roC nf' w'.vs].length-(HWk nf fns k w).length)) [v] ⟨hv,trivial⟩
   simp only[bg] at this
   simp only[Be]
   exact congrArg ARes.ret (List.cons.inj this).1
  ·simp only[HWk,UW,List.length_nil,List.take_succ_cons,List.take_zero,Ve,List.map_nil,List.drop_succ_cons,List.drop_zero,GC,DF,mrg]
   rfl
theorem BD(fns:List Fd)(k:Nat)(vs:List LV):∀(a b:List Ex) (c:Int),bI fns k vs (a++b) c=bI fns k vs b (bI fns k vs a c)
 |[],b,c=>rfl
 |e::r,b,c=>by rw[Vn,bI,bI,BD fns k vs r]
theorem th(vs:List LV):∀l:List Ex,kY vs l=l.map (rnE vs)
 |[]=>rfl
 |e::r=>by rw[kY,th vs r];rfl
theorem zf{fns:List Fd}{k:Nat}{vs:List LV}{l:List Ex}{c:Int}{i:Nat}(h:i<l.length):bI fns k vs (l.take (i+1)) c=oJ fns k vs l[i] (bI fns k vs (l.take i) c):=by
 rw[aq h,BD];rfl
theorem Bu{vs:List LV}{l:List Ex}{i:Nat}(h:i<l.length):kY vs (l.take (i+1))=kY vs (l.take i)++[rnE vs l[i]]:=by
 rw[th,th,aq h,List.map_append];rfl
theorem sV(vs:List LV)(l:List Ex):(kY vs l).length=l.length:=by rw[th,Vl]
theorem GI(l:List Ex):(exR l).length=l.length:=by simp[exR]
theorem GN(a b:List Ex):exR (a++b)=exR a++exR b:=by simp[exR]
theorem DY{h:List AO}{id:Nat}{l:List Ex}(e:h[id]?=some (.row 4 (exR l))):View h (.sl id 4 0 l.length) (exL l):=by
 have:=jj (h:=h) (id:=id) (sz:=4) (n:=l.length) (ls:=l.map Ex.cs) (by rw[e,exR];simp) (by simp) (λx hx=>by obtain⟨b,_,rfl⟩:=UX.1 hx;exact b.cs_len)
 exact this
theorem Nc{fns:List Fd}{s:List UInt8}{j:Nat}(h:bQ fns s=some j):j<fns.length:=by
 rw[bQ,UU] at h;exact h.1
theorem Oo{fns:List Fd}{k:Nat}(hf:fns.length<=1099511627776):∀(N:Nat) (e:Ex),e.sz<=N->N<=1099511627776->∀(nf:Bool) (w:WS),(nf=true->w.vs=[])->w.vs.length<=1099511627776->
 AC Tryz.prog G cF [.ptr 0 5 0 0,.agg (e.cs.map .p)] (HWk nf fns k w) λx h=>x= .ret (.agg ((rnE w.vs e).cs.map .p))/\h=HWk nf fns k ⟨w.vs,w.count,oJ fns k w.vs e w.code⟩:=by
 intro N
 induction N with
 |zero=>intro e he;have:=e.sz_eq;omega
 |succ N ih=>
  intro e he hN nf w hn hl
  have hec:=e.cs_eq
  have hsz:=e.sz_eq
  have hkl:=bB e.kids
  have hre:(rnE w.vs e).cs=[.int .i64 e.op,.int .i64 e.n,.str (if e.op=2 then yQ w.vs e.name else e.name),exL (kY w.vs e.kids)]:=by
   obtain⟨o,n,s,ks⟩:=e;rw[rnE,Ex.cs_eq];rfl
  have hce:oJ fns k w.vs e w.code=bI fns k w.vs e.kids (jU fns k w.vs e.op e.name e.kids.length w.code):=by
   obtain⟨o,n,s,ks⟩:=e;rfl
  have main:AC Tryz.prog G cF [.ptr 0 5 0 0,.agg (e.cs.map .p)] (HWk nf fns k w) λx h=>∃E1 E2,x= .ret (.agg [.p (.int .i64 e.op),.p (.int .i64 e.n),.p (.str (if e.op=2 then yQ w.vs e.name else e.name)),.sl 4 4 0 e.kids.length])/\
   h=[wO 1 nf fns k ⟨w.vs,w.count,oJ fns k w.vs e w.code⟩,roC nf w.vs,E1,E2,.row 4 (exR (kY w.vs e.kids))]:=by
   refine AC.goK sf sg ?_
   simp-implicitDefEqProofs[gi,gg,HWk,hec]
   refine nq (ah 75 [(0,.ptr 0 5 0 0),(3,.ptr 2 4 0 0),(4,.ptr 3 4 0 0)]) [wO 1 nf fns k ⟨w.vs,w.count,if e.op=2 then oT w.vs e.name w.code else w.code⟩,roC nf w.vs,.row 4 [[.p (.int .i64 e.op),.p (.int .i64 e.n),.p (.str (if e.op=2 then yQ w.vs e.name else e.name)),.p (exL e.kids)]],.row 4 [[.p (.int .i64 0),.p (.int .i64 0),.p (.str []),.nils]]] ?_ ?_
   ·by_cases o2:e.op=2
    ·simp-implicitDefEqProofs[o2]
     refine(ED G (La G nf fns k w hn hl e.name) _ (by simp[below])).mono ?_
     rintro r h ⟨rfl,rfl⟩
     simp-implicitDefEqProofs[aa]
     exact ae (by simp) (uj (by simp) (by simp[okO,below])) (by simp[below])
    ·simp-implicitDefEqProofs[o2]
     exact ae (by simp) (uj (by simp) (by simp[okO,below])) (by simp[below])
   refine nq (ah 75 [(0,.ptr 0 5 0 0),(3,.ptr 2 4 0 0),(4,.ptr 3 4 0 0)]) [wO 1 nf fns k ⟨w.vs,w.count,jU fns k w.vs e.op e.name e.kids.length w.code⟩,roC nf w.vs,.row 4 [[.p (.int .i64 e.op),.p (.int .i64 e.n),.p (.str (if e.op=2 then yQ w.vs e.name else e.name)),.p (exL e.kids)]],.row 4 [[.p (.int .i64 0),.p (.int .i64 0),.p (.str []),.nils]]] ?_ ?_
   ·by_cases o13:e.op=13
    ·have hhd:jU fns k w.vs e.op e.name e.kids.length w.code=lv fns k e.name e.kids.length w.code:=by simp[jU,o13]
     rw[hhd]
     simp-implicitDefEqProofs[o13,wO,wC]
     refine(Ft G fns e.name hf).use ?_
     have fin:∀c:Int,Wk 2 (ah 75 [(0,.ptr 0 5 0 0),(3,.ptr 2 4 0 0),(4,.ptr 3 4 0 0)]) [wO 1 nf fns k ⟨w.vs,w.count,c⟩,roC nf w.vs,.row 4 [[.p (.int .i64 13),.p (.int .i64 e.n),.p (.str e.name),.p (exL e.kids)]],.row 4 [[.p (.int .i64 0),.p (.int .i64 0),.p (.str []),.nils]]] (ah 75 [(0,.ptr 0 5 0 0),(3,.ptr 2 4 0 0),(4,.ptr 3 4 0 0)]) [wO 1 nf fns k ⟨w.vs,w.count,c⟩,roC nf w.vs,.row 4 [[.p (.int .i64 13),.p (.int .i64 e.n),.p (.str e.name),.p (exL e.kids)]],.row 4 [[.p (.int .i64 0),.p (.int .i64 0),.p (.str []),.nils]]]:=λc=>
      ae (by simp) (uj (by simp) (by simp[okO,below])) (by simp[below])
     cases hfa:bQ fns e.name with
     |none=>
      simp-implicitDefEqProofs[ixI,lv,hfa]
      refine(ED G (pF G nf fns k w 4) _ (by simp[below])).mono ?_
      rintro r h ⟨rfl,rfl⟩
      simp-implicitDefEqProofs[aa]
      exact ae (h:=[wO 1 nf fns k ⟨w.vs,w.count,fl w.code 4⟩,roC nf w.vs,.row 4 [[.p (.int .i64 13),.p (.int .i64 e.n),.p (.str e.name),.p (exL e.kids)]],.row 4 [[.p (.int .i64 0),.p (.int .i64 0),.p (.str []),.nils]]]) (by simp) (uj (by simp) (by simp[okO,below])) (by simp[below])
     |some j=>
      have hj:=Nc hfa
      have hg:=UC hj
      have hjn:¬(j:Int)<0:=by omega
      by_cases hkj:k<=j
      ·have hkj':(k:Int)<=(j:Int):=by omega
       simp-implicitDefEqProofs[ixI,lv,hfa,hkj,hkj',hjn]
       refine(ED G (pF G nf fns k w 4) _ (by simp[below])).mono ?_
       rintro r h ⟨rfl,rfl⟩
       simp-implicitDefEqProofs[aa]
       exact ae (h:=[wO 1 nf fns k ⟨w.vs,w.count,fl w.code 4⟩,roC nf w.vs,.row 4 [[.p (.int .i64 13),.p (.int .i64 e.n),.p (.str e.name),.p (exL e.kids)]],.row 4 [[.p (.int .i64 0),.p (.int .i64 0),.p (.str []),.nils]]]) (by simp) (uj (by simp) (by simp[okO,below])) (by simp[below])
      ·have hkj':¬(k:Int)<=(j:Int):=by omega
       have hfl:fdL fns= .lst 3 (fns.map Fd.cs):=rfl
       have hcs:fns[j].cs=[.str fns[j].name,aw fns[j].params,smL fns[j].body]:=rfl
       have hst:aw fns[j].params= .lst 1 (fns[j].params.map λw=>[.str w]):=rfl
       have hxl:∀l,exL l= .lst 4 (l.map Ex.cs):=λ_=>rfl
       have hpn:AZ fns j=fns[j].params.length:=by simp[AZ,hg]
       by_cases hp:fns[j].params.length=e.kids.length
       ·have hcc:lv fns k e.name e.kids.length w.code=w.code:=by simp[lv,hfa,hkj,hpn,hp]
        rw[hcc]
        simp-implicitDefEqProofs[ixI,hkj',hjn,hfl,hg,hcs,hst,hxl,hp]
        exact ae (h:=[wO 1 nf fns k w,roC nf w.vs,.row 4 [[.p (.int .i64 13),.p (.int .i64 e.n),.p (.str e.name),.p (exL e.kids)]],.row 4 [[.p (.int .i64 0),.p (.int .i64 0),.p (.str []),.nils]]]) (by simp) (uj (by simp) (by simp[okO,below])) (by simp[below])
       ·have hcc:lv fns k e.name e.kids.length w.code=fl w.code 5:=by simp[lv,hfa,hkj,hpn,hp]
        have hp':¬(fns[j].params.length:Int)=(e.kids.length:Int):=by omega
        rw[hcc]
        simp-implicitDefEqProofs[ixI,hkj',hjn,hfl,hg,hcs,hst,hxl,hp']
        refine(ED G (pF G nf fns k w 5) _ (by simp[below])).mono ?_
        rintro r h ⟨rfl,rfl⟩
        simp-implicitDefEqProofs[aa]
        exact ae (h:=[wO 1 nf fns k ⟨w.vs,w.count,fl w.code 5⟩,roC nf w.vs,.row 4 [[.p (.int .i64 13),.p (.int .i64 e.n),.p (.str e.name),.p (exL e.kids)]],.row 4 [[.p (.int .i64 0),.p (.int .i64 0),.p (.str []),.nils]]]) (by simp) (uj (by simp) (by simp[okO,below])) (by simp[below])
    ·have hhd:jU fns k w.vs e.op e.name e.kids.length w.code=if e.op=2 then oT w.vs e.name w.code else w.code:=by simp[jU,o13]
     rw[hhd]
     simp-implicitDefEqProofs[o13]
     exact ae (by simp) (uj (by simp) (by simp[okO,below])) (by simp[below])
   rw[hce]
   generalize jU fns k w.vs e.op e.name e.kids.length w.code=c2
   generalize (if e.op=2 then yQ w.vs e.name else e.name)=s1
   have hxl:exL e.kids= .lst 4 (e.kids.map Ex.cs):=rfl
   simp-implicitDefEqProofs[]
   refine aL (λi:Nat=>ah 75 [(0,.ptr 0 5 0 0),(3,.ptr 2 4 0 0),(4,.ptr 3 4 0 0),(6,.sl 4 4 0 i),(7,.p (.int .i64 i))])
    (λi=>[wO 1 nf fns k ⟨w.vs,w.count,bI fns k w.vs (e.kids.take i) c2⟩,roC nf w.vs,.row 4 [[.p (.int .i64 e.op),.p (.int .i64 e.n),.p (.str s1),.p (exL e.kids)]],.row 4 [[.p (.int .i64 0),.p (.int .i64 0),.p (.str []),.nils]],.row 4 (exR (kY w.vs (e.kids.take i)))])
    (λi=>i<=e.kids.length) (λi=>e.kids.length-i) 0 (by simp) ?_ ?_
   ·exact ae (by simp) (uj (by simp) (by simp[okO,below])) (by simp[below])
   ·intro i hi
    have hrl:(exR (kY w.vs (e.kids.take i))).length=i:=by rw[GI,sV];simp;omega
    simp-implicitDefEqProofs[hxl]
    refine bc (λh=>?_) (λh=>?_)
    ·simp at h
     have hg:=UC h
     have hks:=bN (US h)
     have hkc:=(rnE w.vs e.kids[i]).cs_eq
     simp-implicitDefEqProofs[hg]
     refine(ED G (ih e.kids[i] (by omega) (by omega) nf ⟨w.vs,w.count,bI fns k w.vs (e.kids.take i) c2⟩ hn hl) _ (by simp[below])).mono ?_
     rintro r h ⟨rfl,rfl⟩
     rw[show(rnE (WS.mk w.vs w.count (bI fns k w.vs (e.kids.take i) c2)).vs e.kids[i])=rnE w.vs e.kids[i] from rfl]
     simp-implicitDefEqProofs[aa,hkc,hrl]
     refine⟨by omega,?_⟩
     refine⟨i+1,by omega,by omega,?_⟩
     have htk:List.take i (exR (kY w.vs (e.kids.take i)))=exR (kY w.vs (e.kids.take i)):=UG (by omega)
     rw[zf h,Bu h,GN,htk]
     refine cY [0,1,2,3,6] (by simp) (by decide) (by decide) (zS (by simp) rfl (bS rfl (fY _ _ _) (bf rfl (by simp[below]) (bf rfl (by simp[below]) (bf ?_ ?_ bR))))) (by simp[below,ren,w1 (i:=i) (by omega)])
     ·have:exR [rnE w.vs e.kids[i]]=[[.p (.int .i64 (rnE w.vs e.kids[i]).op),.p (.int .i64 (rnE w.vs e.kids[i]).n),.p (.str (rnE w.vs e.kids[i]).name),.p (exL (rnE w.vs e.kids[i]).kids)]]:=by rw[exR,VE,hkc];rfl
      rw[this];rfl
     ·intro x hx
      rcases UJ.1 hx with h|h
      ·exact dM _ x h
      ·exact dM _ x h
    ·simp at h
     have hie:i=e.kids.length:=by omega
     subst hie
     simp-implicitDefEqProofs[]
  refine main.frz 2 (by simp[HWk]) (λt v h ⟨_,_,e,_⟩=>by cases e) ?_
  rintro v h ⟨E1,E2,e,rfl⟩
  cases e
  refine⟨_,HWk nf fns k ⟨w.vs,w.count,oJ fns k w.vs e w.code⟩,by simp,rfl,.agg ?_ .nil,.same (vD (by omega)) (.same (fY _ _ _) (.nil _)),rfl,rfl⟩
  rw[hre]
  have hrl:=sV w.vs e.kids
  rw[←hrl]
  exact .keep (by simp) (.keep (by simp) (.keep (by simp) (.one (DY rfl) .nil)))
end
end Go.Proofs.YtokiapglmedipaaGreatDoor
