/-
  Contracts and lemmas that the card needs, part 5.
-/
import Derived.Test.YtghpabfdmbdpfaaGreatDoorKf4
import Derived.Laws.RangeAny
import Derived.Laws.RangeString
namespace Go.Proofs.YtghpabfdmbdpfaaGreatDoor
open Go Go.Aw
set_option maxRecDepth 100000
set_option maxHeartbeats 4000000
section
theorem aq{α:Type}{xs:List α}{i:Nat}(h:i<xs.length):xs.take (i+1)=xs.take i++[xs[i]]:=by
 rw[List.take_add_one,Wz h];rfl
def vH(l:List Int):PV:= .lst 1 (l.map λn=>[.int .u8 n])
def bF(l:List Int):PV:= .lst 1 (l.map λn=>[.int .i64 n])
def Fg(l:List Int):AO:= .row 1 (l.map λn=>[.p (.int .i64 n)])
def aL(l:List (List UInt8)):PV:= .lst 1 (l.map λw=>[.str w])
def VO(l:List (List UInt8)):List (List AV):=l.map λw=>[.p (.str w)]
def bV(l:List (List UInt8)):AO:= .row 1 (l.map λn=>[.p (.str n)])
theorem gN(l:List (List UInt8)):∀x∈VO l,ay 0 x:=by
 intro x hx;obtain⟨m,_,rfl⟩:=Xb.1 hx;simp[ay,below]
theorem gO{l:List (List UInt8)}{id:Nat}{h:List AO}(e:h[id]?=some (bV l)):View h (.sl id 1 0 l.length) (aL l):=by
 have:=iD (h:=h) (id:=id) (sz:=1) (n:=l.length) (ls:=l.map λn=>[.str n]) (by rw[e,bV];simp) (by simp) (λx hx=>by obtain⟨b,_,rfl⟩:=Xb.1 hx;rfl)
 exact this
end
section
def dP(c:UInt8):Bool:=decide (97<=c.toNat)&&decide (c.toNat<=122)
def keyW:List (List UInt8):=[[102,110],[108,101,116],[115,97,121],[112,117,116],[105,102],[101,108,115,101],[108,111,111,112],[98,97,99,107],[100,111]]
def aP(s:List UInt8):Bool:=s.all dP&&decide (0<s.length)&&decide (s.length<=4)&& !keyW.contains s
def zX:List UInt8:=[40,41,123,125,59,44,43,45,42,47,37,60,61,38,33,64]
def tK(s:List UInt8)(c:Int):Int:=match s.findIdx? (λx=>(x.toNat:Int)==c) with|some i=>i|none=> -1
def Gy(c:Int):Int:=if 97<=c/\c<=122 then 1 else if 48<=c/\c<=57 then 2 else if 0<=tK zX c then 3 else if c=32\/c=10 then 4 else 0
theorem Qr(x:UInt8):(Gy (x.toNat:Int)=1)↔dP x=true:=by
 have h:(97<=(x.toNat:Int)/\(x.toNat:Int)<=122)↔dP x=true:=by simp[dP];omega
 unfold Gy
 constructor
 ·intro e
  split at e
  ·rename_i h1;exact h.1 h1
  ·repeat' split at e
   all_goals omega
 ·intro e;rw[if_pos (h.2 e)]
def Ec(s:List UInt8):Int:=match s.findIdx? (λx=> !dP x) with|some i=>i|none=> -1
theorem MH(s:List UInt8):decide (Ec s<0)=s.all dP:=by
 unfold Ec
 cases h:s.findIdx? (λx=> !dP x) with
 |none=>
  rw[Xd] at h
  have:s.all dP=true:=WI.2 λx hx=>by have:=h x hx;simpa using this
  simp[this]
 |some i=>
  rw[WU] at h
  obtain⟨h1,h2,_⟩:=h
  have:s.all dP=false:=List.all_eq_false.2 ⟨_,WN h1,by simpa using h2⟩
  rw[this];simp
def idxS(l:List (List UInt8))(s:List UInt8):Int:=match l.findIdx? (λw=>w==s) with|some i=>i|none=> -1
theorem Mt(l:List (List UInt8))(s:List UInt8):decide (0<=idxS l s)=l.contains s:=by
 unfold idxS
 cases h:l.findIdx? (λw=>w==s) with
 |none=>
  rw[Xd] at h
  have:l.contains s=false:=by
   cases hc:l.contains s with
   |false=>rfl
   |true=>
    have hm:s∈l:=by simpa using hc
    have:=h s hm
    simp at this
  rw[this];simp
 |some i=>
  rw[WU] at h
  obtain⟨h1,h2,_⟩:=h
  have:l.contains s=true:=by
   simp only[beq_iff_eq] at h2
   rw[List.contains_iff_mem,←h2];exact WN h1
  rw[this];simp
variable (G:aK)
theorem vh(s:List UInt8)(c:Int)(hb:s.length<=1048576):VF Tryz.prog G kW [.p (.str s),.p (.int .u8 c)] (.p (.int .i64 (tK s c))):=by
 refine AC.go AD ?_
 simp-implicitDefEqProofs[pM]
 refine aN (λi:Nat=>az 18 [(0,.p (.str s)),(1,.p (.int .u8 c)),(5,.p (.int .i64 i))]) (λ_=>[]) (λi=>i<=s.length/\∀x∈s.take i,(x.toNat:Int)≠c) (λi=>s.length-i) 0 (by simp) ?_ ?_
 ·exact cC rfl (by simp[below])
 ·intro i ⟨hi,hn⟩
  simp-implicitDefEqProofs[]
  refine aO (λh1=>?_) (λh1=>?_)
  ·simp at h1
   have hg:=Wz h1
   by_cases he:(s[i].toNat:Int)=c
   ·have hf:tK s c=i:=by
     have:s.findIdx? (λx=>(x.toNat:Int)==c)=some i:=by
      rw[WU]
      exact⟨h1,by simpa using he,λj hj=>by have:=hn s[j] (XA.2 ⟨j,by omega,rfl⟩);simpa using this⟩
     rw[tK,this]
    simp-implicitDefEqProofs[hg,he,hf]
   ·simp-implicitDefEqProofs[hg,he]
    refine⟨i+1,⟨h1,λp hp=>?_⟩,by omega,cC rfl ?_⟩
    ·rw[aq h1] at hp
     rcases WE.1 hp with hp|hp
     ·exact hn p hp
     ·rw[WG.1 hp];exact he
    ·simp[below,w1 (i:=i) (by omega)]
  ·simp at h1
   rw[WF h1] at hn
   have hf:tK s c= -1:=by
    have:s.findIdx? (λx=>(x.toNat:Int)==c)=none:=by
     rw[Xd];intro x hx;simpa using hn x hx
    rw[tK,this]
   simp-implicitDefEqProofs[hf]
theorem KB(c:Int):VF Tryz.prog G lA [.p (.int .u8 c)] (.p (.int .i64 (Gy c))):=by
 refine AC.go Ch ?_
 simp-implicitDefEqProofs[pt]
 unfold Gy
 by_cases h1:97<=c
 ·by_cases h2:c<=122
  ·simp-implicitDefEqProofs[h1,h2]
  ·have h3:¬c<=57:=by omega
   have h4:¬c=32:=by omega
   have h5:¬c=10:=by omega
   have h6:48<=c:=by omega
   simp-implicitDefEqProofs[h1,h2,h3,h6]
   refine(vh G zX c (by decide)).use ?_
   generalize tK zX c=w
   by_cases hf:0<=w
   ·simp-implicitDefEqProofs[hf]
   ·simp-implicitDefEqProofs[hf,h4,h5]
 ·simp-implicitDefEqProofs[h1]
  by_cases h2:48<=c
  ·by_cases h3:c<=57
   ·simp-implicitDefEqProofs[h2,h3]
   ·have h4:¬c=32:=by omega
    have h5:¬c=10:=by omega
    simp-implicitDefEqProofs[h2,h3]
    refine(vh G zX c (by decide)).use ?_
    generalize tK zX c=w
    by_cases hf:0<=w
    ·simp-implicitDefEqProofs[hf]
    ·simp-implicitDefEqProofs[hf,h4,h5]
  ·simp-implicitDefEqProofs[h2]
   refine(vh G zX c (by decide)).use ?_
   generalize tK zX c=w
   by_cases hf:0<=w
   ·simp-implicitDefEqProofs[hf]
   ·by_cases h4:c=32
    ·simp-implicitDefEqProofs[hf,h4]
    ·by_cases h5:c=10
     ·simp-implicitDefEqProofs[hf,h4,h5]
     ·simp-implicitDefEqProofs[hf,h4,h5]
theorem Pg(s:List UInt8)(hb:s.length<=140737488355328):VF Tryz.prog G oq [.p (.str s),.p (.int .i64 1)] (.p (.bool (s.all dP&&decide (0<s.length)))):=by
 refine AC.go DE ?_
 simp-implicitDefEqProofs[us]
 refine aN (λi:Nat=>az 21 [(0,.p (.str s)),(1,.p (.int .i64 1)),(5,.p (.int .i64 i))]) (λ_=>[]) (λi=>i<=s.length/\∀x∈s.take i,dP x=true) (λi=>s.length-i) 0 (by simp) ?_ ?_
 ·exact cC rfl (by simp[below])
 ·intro i ⟨hi,hn⟩
  simp-implicitDefEqProofs[]
  refine aO (λh1=>?_) (λh1=>?_)
  ·simp at h1
   have hg:=Wz h1
   simp-implicitDefEqProofs[hg]
   refine(KB G _).use ?_
   have hcl:=Qr s[i]
   by_cases he:dP s[i]=true
   ·have hc:=hcl.2 he
    simp-implicitDefEqProofs[hc]
    refine⟨i+1,⟨h1,λp hp=>?_⟩,by omega,cC rfl ?_⟩
    ·rw[aq h1] at hp
     rcases WE.1 hp with hp|hp
     ·exact hn p hp
     ·rw[WG.1 hp];exact he
    ·simp[below,w1 (i:=i) (by omega)]
   ·have hc:¬Gy (s[i].toNat:Int)=1:=λe=>he (hcl.1 e)
    have ha:s.all dP=false:=List.all_eq_false.2 ⟨_,WN h1,by simpa using he⟩
    simp-implicitDefEqProofs[hc,ha]
  ·simp at h1
   rw[WF h1] at hn
   have ha:s.all dP=true:=WI.2 hn
   simp-implicitDefEqProofs[ha]
theorem Ib:VF Tryz.prog G gq [] (.p (aL keyW)):=by
 have key:AC Tryz.prog G gq [] [] λx h=>x= .ret (.sl 0 1 0 9)/\h=[.row 1 (keyW.map λw=>[.p (.str w)])]:=by
  refine AC.go zn ?_
  simp-implicitDefEqProofs[oT,keyW]
 exact AC.freeze key (.one (iD (ls:=keyW.map λw=>[.str w]) (by simp) (by simp[keyW]) (by simp)) .nil)
theorem Qm(s:List UInt8):VF Tryz.prog G nT [.p (.str s)] (.p (.bool (keyW.contains s))):=by
 refine AC.go Ei ?_
 have hsl:aL keyW= .lst 1 (keyW.map λw=>[.str w]):=rfl
 have hkl:keyW.length=9:=rfl
 simp-implicitDefEqProofs[ue]
 refine(Ib G).use ?_
 simp-implicitDefEqProofs[]
 refine aN (λi:Nat=>az 18 [(0,.p (.str s)),(3,.p (aL keyW)),(4,.p (.int .i64 i))]) (λ_=>[]) (λi=>i<=keyW.length/\∀w∈keyW.take i,w≠s) (λi=>keyW.length-i) 0 (by simp) ?_ ?_
 ·exact cC rfl (by simp[below,aL])
 ·intro i ⟨hi,hn⟩
  generalize keyW=L at*
  simp-implicitDefEqProofs[hsl]
  refine aO (λh1=>?_) (λh1=>?_)
  ·simp at h1
   have hg:=Wz h1
   by_cases he:L[i]=s
   ·have hm:s∈L:=by rw[←he];exact WN h1
    simp-implicitDefEqProofs[hg,he,hm]
   ·simp-implicitDefEqProofs[hg,he]
    refine⟨i+1,⟨h1,λp hp=>?_⟩,by omega,cC rfl ?_⟩
    ·rw[aq h1] at hp
     rcases WE.1 hp with hp|hp
     ·exact hn p hp
     ·rw[WG.1 hp];exact he
    ·simp[below,w1 (i:=i) (by omega)]
  ·simp at h1
   rw[WF h1] at hn
   have hm:¬s∈L:=λhm=>hn s hm rfl
   simp-implicitDefEqProofs[hm]
theorem uw(s:List UInt8)(hb:s.length<=140737488355328):VF Tryz.prog G cG [.p (.str s)] (.p (.bool (aP s))):=by
 refine AC.go CS ?_
 simp-implicitDefEqProofs[rV]
 refine(Pg G s hb).use ?_
 cases h1:(s.all dP&&decide (0<s.length)) with
 |false=>
  have hi:aP s=false:=by rw[aP,h1];rfl
  simp-implicitDefEqProofs[hi]
 |true=>
  by_cases h4:s.length<=4
  ·have h4i:(s.length:Int)<=4:=by omega
   have hi:aP s= !keyW.contains s:=by rw[aP,h1];simp[h4]
   simp-implicitDefEqProofs[h4i]
   refine(Qm G s).use ?_
   rw[hi]
   simp-implicitDefEqProofs[]
  ·have h4i:¬(s.length:Int)<=4:=by omega
   have hi:aP s=false:=by rw[aP,h1];simp[h4]
   simp-implicitDefEqProofs[h4i,hi]
end
section
inductive Ex where
 |mk (op n:Int) (name:List UInt8) (kids:List Ex)
inductive Sm where
 |mk (op:Int) (name:List UInt8) (args:List Ex) (body els:List Sm)
structure Fd where (name:List UInt8) (params:List (List UInt8)) (body:List Sm)
def Ex.op:Ex->Int| .mk o _ _ _=>o
def Ex.n:Ex->Int| .mk _ n _ _=>n
def Ex.name:Ex->List UInt8| .mk _ _ s _=>s
def Ex.kids:Ex->List Ex| .mk _ _ _ k=>k
def Sm.op:Sm->Int| .mk o _ _ _ _=>o
def Sm.name:Sm->List UInt8| .mk _ s _ _ _=>s
def Sm.args:Sm->List Ex| .mk _ _ a _ _=>a
def Sm.body:Sm->List Sm| .mk _ _ _ b _=>b
def Sm.els:Sm->List Sm| .mk _ _ _ _ e=>e
mutual
def Ex.cs:Ex->List PV
 | .mk o n s k=>[.int .i64 o,.int .i64 n,.str s,.lst 4 (Nz k)]
def Nz:List Ex->List (List PV)
 |[]=>[]
 |e::r=>e.cs::Nz r
end
mutual
def Sm.cs:Sm->List PV
 | .mk o s a b e=>[.int .i64 o,.str s,.lst 4 (Nz a),.lst 5 (Nd b),.lst 5 (Nd e)]
def Nd:List Sm->List (List PV)
 |[]=>[]
 |s::r=>s.cs::Nd r
end
theorem Bv:∀l:List Ex,Nz l=l.map Ex.cs
 |[]=>rfl
 |e::r=>by rw[Nz,Bv r];rfl
theorem BH:∀l:List Sm,Nd l=l.map Sm.cs
 |[]=>rfl
 |e::r=>by rw[Nd,BH r];rfl
def exL(l:List Ex):PV:= .lst 4 (l.map Ex.cs)
def smL(l:List Sm):PV:= .lst 5 (l.map Sm.cs)
theorem Ex.cs_eq(e:Ex):e.cs=[.int .i64 e.op,.int .i64 e.n,.str e.name,exL e.kids]:=by
 cases e;rw[Ex.cs,Bv];rfl
theorem Sm.cs_eq(s:Sm):s.cs=[.int .i64 s.op,.str s.name,exL s.args,smL s.body,smL s.els]:=by
 cases s;rw[Sm.cs,Bv,BH,BH];rfl
@[simp] theorem Ex.cs_len(e:Ex):e.cs.length=4:=by cases e;rfl
@[simp] theorem Ex.cs_take(e:Ex):List.take 4 (e.cs.map AV.p)=e.cs.map AV.p:=by cases e;rfl
@[simp] theorem Sm.cs_len(s:Sm):s.cs.length=5:=by cases s;rfl
@[simp] theorem Sm.cs_take(s:Sm):List.take 5 (s.cs.map AV.p)=s.cs.map AV.p:=by cases s;rfl
def Fd.cs(f:Fd):List PV:=[.str f.name,aL f.params,smL f.body]
@[simp] theorem Fd.cs_len(f:Fd):f.cs.length=3:=rfl
@[simp] theorem Fd.cs_take(f:Fd):List.take 3 (f.cs.map AV.p)=f.cs.map AV.p:=rfl
def fdL(l:List Fd):PV:= .lst 3 (l.map Fd.cs)
mutual
def Ex.sz:Ex->Nat
 | .mk _ _ s k=>1+s.length+aM k
def aM:List Ex->Nat
 |[]=>0
 |e::r=>e.sz+aM r
end
mutual
def Sm.sz:Sm->Nat
 | .mk _ s a b e=>1+s.length+aM a+aC b+aC e
def aC:List Sm->Nat
 |[]=>0
 |s::r=>s.sz+aC r
end
def Fd.sz(f:Fd):Nat:=1+f.name.length+(f.params.length+(f.params.map List.length).sum)+aC f.body
def aZ(l:List Fd):Nat:=(l.map Fd.sz).sum
theorem Ex.sz_eq(e:Ex):e.sz=1+e.name.length+aM e.kids:=by cases e;rfl
theorem Sm.sz_eq(s:Sm):s.sz=1+s.name.length+aM s.args+aC s.body+aC s.els:=by cases s;rfl
theorem bM:∀a b:List Ex,aM (a++b)=aM a+aM b
 |[],b=>by simp[aM]
 |e::r,b=>by simp only[Xk,aM,bM r b];omega
theorem aX:∀a b:List Sm,aC (a++b)=aC a+aC b
 |[],b=>by simp[aC]
 |e::r,b=>by simp only[Xk,aC,aX r b];omega
theorem cQ:∀{l:List Ex} {e:Ex},e∈l->e.sz<=aM l
 |x::r,e,h=>by
  simp only[aM]
  rcases WC.1 h with rfl|h
  ·omega
  ·have:=cQ h;omega
theorem fe:∀{l:List Sm} {e:Sm},e∈l->e.sz<=aC l
 |x::r,e,h=>by
  simp only[aC]
  rcases WC.1 h with rfl|h
  ·omega
  ·have:=fe h;omega
theorem bL:∀l:List Ex,l.length<=aM l
 |[]=>WK _
 |e::r=>by have:=bL r;have:=e.sz_eq;simp only[aM,WP];omega
theorem bE:∀l:List Sm,l.length<=aC l
 |[]=>WK _
 |e::r=>by have:=bE r;have:=e.sz_eq;simp only[aC,WP];omega
mutual
def Ex.parts:Ex->Nat
 | .mk _ _ _ k=>1+gL k
def gL:List Ex->Nat
 |[]=>0
 |e::r=>e.parts+gL r
end
theorem Ex.parts_eq(e:Ex):e.parts=1+gL e.kids:=by cases e;rfl
theorem jR:∀a b:List Ex,gL (a++b)=gL a+gL b
 |[],b=>by simp[gL]
 |e::r,b=>by simp only[Xk,gL,jR r b];omega
mutual
theorem Ex.parts_le:∀e:Ex,e.parts<=e.sz
 | .mk _ _ s k=>by have:=Ep k;simp only[Ex.parts,Ex.sz];omega
theorem Ep:∀l:List Ex,gL l<=aM l
 |[]=>WK _
 |e::r=>by have:=e.parts_le;have:=Ep r;simp only[gL,aM];omega
end
mutual
def Sm.cnt:Sm->Nat
 | .mk _ _ _ b e=>1+dG b+dG e
def dG:List Sm->Nat
 |[]=>0
 |s::r=>s.cnt+dG r
end
theorem Sm.cnt_eq(s:Sm):s.cnt=1+dG s.body+dG s.els:=by cases s;rfl
theorem pI:∀a b:List Sm,dG (a++b)=dG a+dG b
 |[],b=>by simp[dG]
 |e::r,b=>by simp only[Xk,dG,pI r b];omega
mutual
theorem Sm.cnt_le:∀s:Sm,s.cnt<=s.sz
 | .mk _ s a b e=>by have:=gg b;have:=gg e;simp only[Sm.cnt,Sm.sz];omega
theorem gg:∀l:List Sm,dG l<=aC l
 |[]=>WK _
 |e::r=>by have:=e.cnt_le;have:=gg r;simp only[dG,aC];omega
end
def inR(n lo hi:Int):Bool:=decide (lo<=n)&&decide (n<=hi)
def loK(op:Int):Nat:=if op=1\/op=2 then 0 else if op=11\/op=12 then 1 else if op=13 then 0 else 2
def hiK(op:Int):Nat:=if op=1\/op=2 then 0 else if op=11\/op=12 then 1 else if op=13 then 3 else 2
def GB(op:Int):Bool:=decide (op=2)||decide (op=13)
def lO(e:Ex):Bool:=inR e.op 1 13&&inR e.kids.length (loK e.op) (hiK e.op)&&(GB e.op==aP e.name)&&(GB e.op||decide (e.name=[]))&&inR e.n 0 255&&(decide (e.op=1)||decide (e.n=0))
def bP:Nat->Ex->Bool
 |0,_=>false
 |d+1,e=>lO e&&e.kids.all (bP d)
def lT(e:Ex):Bool:=bP 6 e&&decide (e.parts<=30)
def jS(op:Int):Nat:=if op=4 then 2 else 1
def cL(op:Int):Bool:=decide (op=1)||decide (op=2)
def fV(s:Sm):Bool:=inR s.op 1 8&&decide (s.args.length=jS s.op)&&(cL s.op==aP s.name)&&(cL s.op||decide (s.name=[]))&&s.args.all lT&&
 (!decide (s.op=8)||(match s.args with|a::_=>decide (a.op=13)|[]=>false))&&(s.els.isEmpty||decide (s.op=5))&&(s.body.isEmpty||decide (s.op=5)||decide (s.op=6))
def aJ:Nat->Sm->Bool
 |0,_=>false
 |d+1,s=>fV s&&s.body.all (aJ d)&&s.els.all (aJ d)
def jX(f:Fd):Bool:=f.params.all aP&&aP f.name&&decide (f.params.length<=3)&&f.body.all (aJ 4)
def lU(l:List Fd):Nat:=(l.map λf=>dG f.body).sum
def bp(l:List Fd):Bool:=inR l.length 1 4&&l.all jX&&decide (lU l<=40)
end
section
structure LV where (name:List UInt8) (num block:Nat)
structure WS where (vs:List LV) (count:Nat) (code:Int)
def fl(c k:Int):Int:=if c=0 then k else c
theorem Kf{c k:Int}(h:c≠0):fl c k=c:=if_neg h
def lkV(vs:List LV)(s:List UInt8):Option LV:=vs.find? λv=>decide (v.name=s)
def da(fns:List Fd)(s:List UInt8):Option Nat:=fns.findIdx? λf=>decide (f.name=s)
def KX(fns:List Fd)(j:Nat):Nat:=match fns[j]? with|some f=>f.params.length|none=>0
def zi(vs:List LV)(s:List UInt8)(c:Int):Int:=match lkV vs s with|none=>fl c 3|some _=>c
def uf(fns:List Fd)(k:Nat)(s:List UInt8)(n:Nat)(c:Int):Int:=
 match da fns s with|none=>fl c 4|some j=>if k<=j then fl c 4 else if KX fns j=n then c else fl c 5
def ss(fns:List Fd)(k:Nat)(vs:List LV)(o:Int)(s:List UInt8)(n:Nat)(c:Int):Int:=
 if o=2 then zi vs s c else if o=13 then uf fns k s n c else c
mutual
def Gn(fns:List Fd)(k:Nat)(vs:List LV):Ex->Int->Int
 | .mk o _ s ks,c=>ed fns k vs ks (ss fns k vs o s ks.length c)
def ed(fns:List Fd)(k:Nat)(vs:List LV):List Ex->Int->Int
 |[],c=>c
 |e::r,c=>ed fns k vs r (Gn fns k vs e c)
end
def vnm(n:Nat):List UInt8:=[118,UInt8.ofNat (97+n%26)]
def Bl(vs:List LV)(s:List UInt8):List UInt8:=match lkV vs s with|none=>s|some v=>vnm v.num
mutual
def rnE(vs:List LV):Ex->Ex
 | .mk o n s ks=> .mk o n (if o=2 then Bl vs s else s) (lC vs ks)
def lC(vs:List LV):List Ex->List Ex
 |[]=>[]
 |e::r=>rnE vs e::lC vs r
end
def Cy(vs:List LV)(s:List UInt8)(b:Nat)(c:Int):Int:=match lkV vs s with|none=>c|some v=>if v.block=b then fl c 2 else c
def ni(w:WS)(s:List UInt8)(b:Nat):WS:=⟨⟨s,w.count,b⟩::w.vs,w.count+1,Cy w.vs s b w.code⟩
def opW(o:Int)(s:List UInt8)(b:Nat)(w:WS):WS:=if o=1 then ni w s b else if o=2 then⟨w.vs,w.count,zi w.vs s w.code⟩ else w
def opN(o:Int)(s:List UInt8)(w:WS):List UInt8:=if o=1 then vnm w.count else if o=2 then Bl w.vs s else s
def WS.back(w:WS)(vs:List LV):WS:=⟨vs,w.count,w.code⟩
mutual
def stW(fns:List Fd)(k b:Nat):Sm->WS->WS
 | .mk o s a bd el,w=>
   let w2:=opW o s b ⟨w.vs,w.count,ed fns k w.vs a w.code⟩
   let w3:=(db fns k (b+1) bd w2).back w2.vs
   (db fns k (b+1) el w3).back w2.vs
def db(fns:List Fd)(k b:Nat):List Sm->WS->WS
 |[],w=>w
 |s::r,w=>db fns k b r (stW fns k b s w)
end
def cY(ps:List (List UInt8))(w:WS):WS:=ps.foldl (λw s=>ni w s 0) w
def fnW(fns:List Fd)(k:Nat)(f:Fd):WS:=db fns k 0 f.body (cY f.params ⟨[],0,if da fns f.name=some k then 0 else 2⟩)
def jd(fns:List Fd):Nat->List Fd->Int
 |_,[]=>0
 |k,f::r=>if(fnW fns k f).code=0 then jd fns (k+1) r else(fnW fns k f).code
def bZ(fns:List Fd):Int:=if bp fns then jd fns 0 fns else 1
abbrev Scp:=List (List UInt8 × Nat)
def eD(m:Scp)(s:List UInt8):Option Nat:=(m.find? λx=>decide (x.1=s)).map (·.2)
def eQ:Scp->List UInt8->Nat->Scp
 |[],s,n=>[(s,n)]
 |x::r,s,n=>if x.1=s then(s,n)::r else x::eQ r s n
def cZ:List Scp->List UInt8->Option Nat
 |[],_=>none
 |m::r,s=>match eD m s with|some n=>some n|none=>cZ r s
def ff(fns:List Fd)(k:Nat)(ch:List Scp)(c:Int)(e:Ex):Int:=
 if e.op=2 then(if(cZ ch e.name).isSome then c else fl c 3)
 else if e.op=13 then(match da (fns.take k) e.name with|none=>fl c 4|some j=>if KX fns j=e.kids.length then c else fl c 5)
 else c
mutual
def Ex.pre:Ex->List Ex
 | .mk o n s ks=> .mk o n s ks::eB ks
def eB:List Ex->List Ex
 |[]=>[]
 |e::r=>e.pre++eB r
end
def zZ(fns:List Fd)(k:Nat)(ch:List Scp)(l:List Ex)(c:Int):Int:=(eB l).foldl (ff fns k ch) c
def opS(o:Int)(s:List UInt8)(m:Scp)(n:Nat):Scp:=if o=1 then eQ m s n else m
def opC(o:Int)(s:List UInt8)(m:Scp)(up:List Scp)(c:Int):Int:=
 if o=1 then(if(eD m s).isSome then fl c 2 else c) else if o=2 then(if(cZ (m::up) s).isSome then c else fl c 3) else c
mutual
def icS(fns:List Fd)(k:Nat):Sm->Scp->List Scp->Int->Scp × Int
 | .mk o s a bd el,m,up,c=>
   let m2:=opS o s m 0
   let c2:=opC o s m up (zZ fns k (m::up) a c)
   (m2,if o=5\/o=6 then(eX fns k el [] (m2::up) (eX fns k bd [] (m2::up) c2).2).2 else c2)
def eX(fns:List Fd)(k:Nat):List Sm->Scp->List Scp->Int->Scp × Int
 |[],m,_,c=>(m,c)
 |s::r,m,up,c=>eX fns k r (icS fns k s m up c).1 up (icS fns k s m up c).2
end
def jQ(ps:List (List UInt8))(m:Scp)(c:Int):Scp × Int:=ps.foldl (λx s=>(eQ x.1 s 0,if(eD x.1 s).isSome then fl x.2 2 else x.2)) (m,c)
def icF(fns:List Fd)(k:Nat)(f:Fd)(c:Int):Int:=
 let c1:=if(match da fns f.name with|some j=>decide (j<k)|none=>true) then fl c 2 else c
 let x:=jQ f.params [] c1
 (eX fns k f.body x.1 [] x.2).2
def gX(fns:List Fd):Nat->List Fd->Int->Int
 |_,[],c=>c
 |k,f::r,c=>gX fns (k+1) r (icF fns k f c)
def SR(g:LV->Nat):Nat->List LV->List Scp->Prop
 |_,_,[]=>False
 |b,vs,m::up=>∃v1 v2,vs=v1++v2/\(∀v∈v1,v.block=b)/\(∀s,(lkV v1 s).map g=eD m s)/\match b with
  |0=>v2=[]/\up=[]
  |b+1=>SR g b v2 up
theorem IT(a b:List LV)(s:List UInt8):lkV (a++b) s=match lkV a s with|some v=>some v|none=>lkV b s:=by
 simp only[lkV,List.find?_append]
 cases List.find? (λv=>decide (v.name=s)) a<;>rfl
variable {g:LV->Nat}
theorem SR.blk:∀{b:Nat} {vs:List LV} {ch:List Scp},SR g b vs ch->∀v∈vs,v.block<=b
 |b,_,[],h,v,hv=>by cases b<;>exact False.elim h
 |0,vs,m::up,⟨v1,v2,e,h1,_,h3,_⟩,v,hv=>by
  subst e;subst h3
  rw[WT] at hv
  exact Nat.le_of_eq (h1 v hv)
 |b+1,vs,m::up,⟨v1,v2,e,h1,_,h3⟩,v,hv=>by
  subst e
  rcases WE.1 hv with h|h
  ·exact Nat.le_of_eq (h1 v h)
  ·exact Nat.le_succ_of_le (SR.blk h3 v h)
theorem SR.fnd:∀{b:Nat} {vs:List LV} {ch:List Scp},SR g b vs ch->∀s,(lkV vs s).map g=cZ ch s
 |b,_,[],h,s=>by cases b<;>exact False.elim h
 |0,vs,m::up,⟨v1,v2,e,h1,h2,h3,h4⟩,s=>by
  subst e;subst h3;subst h4
  rw[WT,h2,cZ]
  cases eD m s<;>rfl
 |b+1,vs,m::up,⟨v1,v2,e,h1,h2,h3⟩,s=>by
  subst e
  have ih:=SR.fnd h3 s
  have h2:=h2 s
  rw[IT,cZ,←h2]
  cases e1:lkV v1 s with
  |some v=>rfl
  |none=>exact ih
theorem SR.is{b:Nat}{vs:List LV}{ch:List Scp}(h:SR g b vs ch)(s:List UInt8):(lkV vs s).isSome=(cZ ch s).isSome:=by rw[←h.fnd s,Option.isSome_map]
theorem Kd{vs:List LV}{s:List UInt8}{v:LV}(h:lkV vs s=some v):v∈vs:=List.mem_of_find?_eq_some h
theorem SR.put:∀{b:Nat} {vs:List LV} {m:Scp} {up:List Scp},SR g b vs (m::up)->∀(s:List UInt8) (c:Int),Cy vs s b c=if(eD m s).isSome then fl c 2 else c:=by
 intro b vs m up h s c
 have key:∀v1 v2:List LV,(∀v∈v1,v.block=b)->(lkV v1 s).map g=eD m s->(∀v∈v2,v.block≠b)->Cy (v1++v2) s b c=if(eD m s).isSome then fl c 2 else c:=by
  intro v1 v2 h1 h2 h3
  rw[←h2,Cy,IT]
  cases e1:lkV v1 s with
  |some v=>simp[h1 v (Kd e1)]
  |none=>
   cases e2:lkV v2 s with
   |none=>rfl
   |some v=>simp[h3 v (Kd e2)]
 match b,h with
 |0,⟨v1,v2,e,h1,h2,h3,_⟩=>subst e;subst h3;exact key v1 [] h1 (h2 s) (λv hv=>by simp at hv)
 |b+1,⟨v1,v2,e,h1,h2,h3⟩=>subst e;exact key v1 v2 h1 (h2 s) (λv hv e=>by have:=h3.blk v hv;omega)
theorem ip:∀(m:Scp) (s:List UInt8) (n:Nat) (t:List UInt8),eD (eQ m s n) t=if s=t then some n else eD m t
 |[],s,n,t=>by
  by_cases h:s=t
  ·simp[eQ,eD,h]
  ·simp[eQ,eD,h]
 |x::r,s,n,t=>by
  have ih:=ip r s n t
  simp only[eD] at ih
  by_cases hx:x.1=s
  ·by_cases h:s=t
   ·simp[eQ,eD,hx,h]
   ·have:¬x.1=t:=by rw[hx];exact h
    simp[eQ,eD,hx,h]
  ·by_cases ht:x.1=t
   ·have:¬s=t:=λe=>hx (ht.trans e.symm)
    rw[eQ,if_neg hx,if_neg this];simp[eD,ht]
   ·simp only[eQ,eD,if_neg hx,List.find?_cons,ht,decide_false]
    exact ih
theorem SR.add{b:Nat}{vs:List LV}{m:Scp}{up:List Scp}(h:SR g b vs (m::up))(s:List UInt8)(n k:Nat)(hg:g ⟨s,n,b⟩=k):SR g b (⟨s,n,b⟩::vs) (eQ m s k::up):=by
 have key:∀v1:List LV,(∀s,(lkV v1 s).map g=eD m s)->∀t,(lkV (⟨s,n,b⟩::v1) t).map g=eD (eQ m s k) t:=by
  intro v1 h2 t
  rw[ip]
  by_cases e:s=t
  ·simp[lkV,e,←hg]
  ·rw[if_neg e,←h2 t];simp[lkV,e]
 match b,h with
 |0,⟨v1,v2,e,h1,h2,h3⟩=>
  subst e
  refine⟨⟨s,n,0⟩::v1,v2,rfl,λv hv=>?_,key v1 h2,h3⟩
  rcases WC.1 hv with rfl|hv
  ·rfl
  ·exact h1 v hv
 |b+1,⟨v1,v2,e,h1,h2,h3⟩=>
  subst e
  refine⟨⟨s,n,b+1⟩::v1,v2,rfl,λv hv=>?_,key v1 h2,h3⟩
  rcases WC.1 hv with rfl|hv
  ·rfl
  ·exact h1 v hv
theorem SR.open{b:Nat}{vs:List LV}{ch:List Scp}(h:SR g b vs ch):SR g (b+1) vs ([]::ch):=⟨[],vs,rfl,λv hv=>by simp at hv,λs=>rfl,h⟩
theorem SR.base:SR g 0 [] [[]]:=⟨[],[],rfl,λv hv=>by simp at hv,λs=>rfl,rfl,rfl⟩
theorem DM{α:Type}{p:α->Bool}{l:List α}{k:Nat}:(l.take k).findIdx? p=match l.findIdx? p with|some j=>if j<k then some j else none|none=>none:=by
 cases h:l.findIdx? p with
 |none=>
  rw[Xd] at h⊢
  exact λx hx=>h x (List.mem_of_mem_take hx)
 |some j=>
  rw[WU] at h
  obtain⟨h1,h2,h3⟩:=h
  simp only
  split
  ·rename_i hj
   rw[WU]
   exact⟨by rw[WX];omega,by rw[List.getElem_take];exact h2,λi hi=>by rw[List.getElem_take];exact h3 i hi⟩
  ·rename_i hj
   rw[Xd]
   intro x hx
   obtain⟨i,hi,rfl⟩:=XA.1 hx
   simpa using h3 i (by omega)
theorem Mo(fns:List Fd)(k:Nat){vs:List LV}{ch:List Scp}(h:∀s,(lkV vs s).isSome=(cZ ch s).isSome)(e:Ex)(c:Int):ss fns k vs e.op e.name e.kids.length c=ff fns k ch c e:=by
 unfold ss ff
 split
 ·rw[←h,zi];cases lkV vs e.name<;>rfl
 ·split
  ·rw[uf,da,da,DM]
   cases List.findIdx? (λf=>decide (f.name=e.name)) fns with
   |none=>rfl
   |some j=>
    simp only
    by_cases hj:j<k
    ·rw[if_neg (by omega),if_pos hj]
    ·rw[if_pos (by omega),if_neg hj]
  ·rfl
mutual
theorem OU(fns:List Fd)(k:Nat){vs:List LV}{ch:List Scp}(h:∀s,(lkV vs s).isSome=(cZ ch s).isSome):∀(e:Ex) (c:Int),Gn fns k vs e c=e.pre.foldl (ff fns k ch) c
 | .mk o n s ks,c=>by
   rw[Gn,Ex.pre,List.foldl_cons,←BQ fns k h ks,←Mo fns k h];rfl
theorem BQ(fns:List Fd)(k:Nat){vs:List LV}{ch:List Scp}(h:∀s,(lkV vs s).isSome=(cZ ch s).isSome):∀(l:List Ex) (c:Int),ed fns k vs l c=(eB l).foldl (ff fns k ch) c
 |[],c=>rfl
 |e::r,c=>by rw[ed,eB,XG,OU fns k h e,BQ fns k h r]
end
abbrev g0:LV->Nat:=λ_=>0
theorem Rs{b:Nat}{w:WS}{m:Scp}{up:List Scp}(h:SR g0 b w.vs (m::up))(o:Int)(s:List UInt8):SR g0 b (opW o s b w).vs (opS o s m 0::up)/\(opW o s b w).code=opC o s m up w.code:=by
 unfold opW opS opC
 by_cases h1:o=1
 ·simp only[h1,if_true]
  exact⟨h.add s _ 0 rfl,h.put s _⟩
 ·simp only[if_neg h1]
  split
  ·refine⟨h,?_⟩
   have:=h.is s
   simp only[zi]
   rw[←this]
   cases lkV w.vs s<;>rfl
  ·exact⟨h,rfl⟩
theorem He{d:Nat}{o:Int}{s:List UInt8}{a:List Ex}{bd el:List Sm}(h:aJ (d+1) (.mk o s a bd el)=true):bd.all (aJ d)=true/\el.all (aJ d)=true/\(¬(o=5\/o=6)->bd=[]/\el=[]):=by
 simp only[aJ,fV,Sm.op,Sm.body,Sm.els,WM,Bool.or_eq_true,decide_eq_true_eq,List.isEmpty_iff] at h
 refine⟨h.1.2,h.2,λhn=>⟨?_,?_⟩⟩
 ·rcases h.1.1.2 with(h|h)|h
  ·exact h
  ·exact absurd (.inl (of_decide_eq_true h)) hn
  ·exact absurd (.inr (of_decide_eq_true h)) hn
 ·rcases h.1.1.1.2 with h|h
  ·exact h
  ·exact absurd (.inl (of_decide_eq_true h)) hn
theorem CW(w:WS)(vs:List LV):(w.back vs).code=w.code:=rfl
theorem RC(fns:List Fd)(k:Nat):∀(d b:Nat) (l:List Sm),l.all (aJ d)=true->∀(w:WS) (m:Scp) (up:List Scp),SR g0 b w.vs (m::up)->
 SR g0 b (db fns k b l w).vs ((eX fns k l m up w.code).1::up)/\(db fns k b l w).code=(eX fns k l m up w.code).2:=by
 intro d
 induction d with
 |zero=>
  intro b l hl w m up h
  cases l with
  |nil=>exact⟨h,rfl⟩
  |cons s r=>simp[aJ] at hl
 |succ d ih=>
  have dR:∀(b:Nat) (s:Sm),aJ (d+1) s=true->∀(w:WS) (m:Scp) (up:List Scp),SR g0 b w.vs (m::up)->
   SR g0 b (stW fns k b s w).vs ((icS fns k s m up w.code).1::up)/\(stW fns k b s w).code=(icS fns k s m up w.code).2:=by
   intro b s hs w m up h
   obtain⟨o,n,a,bd,el⟩:=s
   obtain⟨f1,f2,f3⟩:=He hs
   have hc:=BQ fns k h.is a w.code
   obtain⟨g1,g2⟩:=Rs (w:=⟨w.vs,w.count,ed fns k w.vs a w.code⟩) h o n
   rw[stW,icS]
   simp only[hc] at g1 g2⊢
   generalize hw2:opW o n b ⟨w.vs,w.count,(eB a).foldl (ff fns k (m::up)) w.code⟩=w2 at*
   refine⟨g1,?_⟩
   rw[CW]
   have g2':w2.code=opC o n m up (zZ fns k (m::up) a w.code):=g2
   rw[←g2']
   by_cases ho:o=5\/o=6
   ·rw[if_pos ho]
    have k1:=ih (b+1) bd f1 w2 [] _ g1.open
    have k2:=ih (b+1) el f2 ((db fns k (b+1) bd w2).back w2.vs) [] _ g1.open
    rw[k2.2,CW,k1.2]
   ·obtain⟨rfl,rfl⟩:=f3 ho
    rw[if_neg ho]
    simp[db,WS.back]
  intro b l
  induction l with
  |nil=>intro _ w m up h;exact⟨h,rfl⟩
  |cons s r ihl=>
   intro hl w m up h
   rw[List.all_cons,WM] at hl
   obtain⟨k1,k2⟩:=dR b s hl.1 w m up h
   have:=ihl hl.2 _ _ up k1
   rw[db,eX,←k2]
   exact this
theorem JS:∀(ps:List (List UInt8)) (w:WS) (m:Scp),SR g0 0 w.vs [m]->SR g0 0 (cY ps w).vs [(jQ ps m w.code).1]/\(cY ps w).code=(jQ ps m w.code).2
 |[],w,m,h=>⟨h,rfl⟩
 |s::r,w,m,h=>by
  have hp:=h.put s w.code
  have:=JS r (ni w s 0) (eQ m s 0) (h.add s w.count 0 rfl)
  simp only[cY,jQ,List.foldl_cons] at this⊢
  rw[←hp]
  exact this
theorem ML{fns:List Fd}{k:Nat}{ch:List Scp}{c:Int}(h:c≠0)(e:Ex):ff fns k ch c e=c:=by
 unfold ff
 simp only[Kf h]
 split
 ·split<;>rfl
 ·split
  ·split
   ·rfl
   ·split<;>rfl
  ·rfl
theorem uU{fns:List Fd}{k:Nat}{ch:List Scp}{c:Int}(h:c≠0):∀l:List Ex,l.foldl (ff fns k ch) c=c
 |[]=>rfl
 |e::r=>by rw[List.foldl_cons,ML h,uU h r]
theorem Fm{o:Int}{s:List UInt8}{m:Scp}{up:List Scp}{c:Int}(h:c≠0):opC o s m up c=c:=by
 unfold opC
 simp only[Kf h]
 split
 ·split<;>rfl
 ·split
  ·split<;>rfl
  ·rfl
mutual
theorem Om(fns:List Fd)(k:Nat){c:Int}(h:c≠0):∀(s:Sm) (m:Scp) (up:List Scp),(icS fns k s m up c).2=c
 | .mk o s a bd el,m,up=>by
   rw[icS]
   simp only[zZ,uU h,Fm h]
   rw[ny fns k h bd,ny fns k h el,ite_self]
theorem ny(fns:List Fd)(k:Nat){c:Int}(h:c≠0):∀(l:List Sm) (m:Scp) (up:List Scp),(eX fns k l m up c).2=c
 |[],m,up=>rfl
 |s::r,m,up=>by rw[eX,Om fns k h s m up,ny fns k h r]
end
theorem DA{c:Int}(h:c≠0):∀(ps:List (List UInt8)) (m:Scp),(jQ ps m c).2=c
 |[],m=>rfl
 |s::r,m=>by
  have:=DA h r (eQ m s 0)
  simp only[jQ,List.foldl_cons,Kf h,ite_self] at this⊢
  exact this
theorem OD(fns:List Fd)(k:Nat)(f:Fd){c:Int}(h:c≠0):icF fns k f c=c:=by
 simp only[icF,Kf h,ite_self]
 rw[DA h,ny fns k h]
theorem od(fns:List Fd){c:Int}(h:c≠0):∀(l:List Fd) (k:Nat),gX fns k l c=c
 |[],k=>rfl
 |f::r,k=>by rw[gX,OD fns k f h,od fns h r]
theorem Dh{fns:List Fd}{k:Nat}{f:Fd}(h:fns[k]?=some f):∃j,da fns f.name=some j/\j<=k:=by
 cases e:da fns f.name with
 |none=>
  rw[da,Xd] at e
  have:=e f (WJ h)
  simp at this
 |some j=>
  refine⟨j,rfl,?_⟩
  rw[da,WU] at e
  obtain⟨h1,h2,h3⟩:=e
  rcases Xn k j with hk|hk
  ·have:=h3 k hk
   obtain⟨a1,a2⟩:=Wy.1 h
   rw[a2] at this
   simp at this
  ·exact hk
theorem Tx(fns:List Fd){k:Nat}{f:Fd}(hf:fns[k]?=some f)(hok:jX f=true):(fnW fns k f).code=icF fns k f 0:=by
 obtain⟨j,e1,e2⟩:=Dh hf
 have hb:f.body.all (aJ 4)=true:=by simp only[jX,WM] at hok;exact hok.2
 have hc:(if da fns f.name=some k then(0:Int) else 2)=if(match da fns f.name with|some j=>decide (j<k)|none=>true) then fl 0 2 else 0:=by
  rw[e1]
  by_cases h:j=k
  ·subst h;simp
  ·have:j<k:=by omega
   simp[h,this,fl]
 obtain⟨p1,p2⟩:=JS f.params ⟨[],0,if da fns f.name=some k then(0:Int) else 2⟩ [] SR.base
 obtain⟨q1,q2⟩:=RC fns k 4 0 f.body hb _ _ [] p1
 rw[fnW,q2,p2]
 simp only[icF,←hc]
theorem MV(fns:List Fd):∀(l:List Fd) (k:Nat),(∀i,l[i]?=fns[k+i]?)->l.all jX=true->jd fns k l=gX fns k l 0
 |[],k,_,_=>rfl
 |f::r,k,hl,ha=>by
  rw[List.all_cons,WM] at ha
  have h0:fns[k]?=some f:=by have:=hl 0;simpa using this.symm
  have hr:∀i,r[i]?=fns[k+1+i]?:=λi=>by have:=hl (i+1);rw[WQ] at this;rw[this];congr 1;omega
  rw[jd,gX,Tx fns h0 ha.1]
  split
  ·rename_i e;rw[e];exact MV fns r (k+1) hr ha.2
  ·rename_i e;rw[od fns e]
theorem sR(fns:List Fd):bZ fns=if bp fns then gX fns 0 fns 0 else 1:=by
 unfold bZ
 split
 ·rename_i h
  simp only[bp,WM] at h
  exact MV fns fns 0 (λi=>by rw[Xt]) h.1.2
 ·rfl
end
section
mutual
def rnS(fns:List Fd)(k b:Nat):Sm->WS->Sm
 | .mk o s a bd el,w=>
   let w2:=opW o s b ⟨w.vs,w.count,ed fns k w.vs a w.code⟩
   .mk o (opN o s w) (lC w.vs a) (iL fns k (b+1) bd w2) (iL fns k (b+1) el ((db fns k (b+1) bd w2).back w2.vs))
def iL(fns:List Fd)(k b:Nat):List Sm->WS->List Sm
 |[],_=>[]
 |s::r,w=>rnS fns k b s w::iL fns k b r (stW fns k b s w)
end
def rH:List (List UInt8)->WS->List (List UInt8)
 |[],_=>[]
 |s::r,w=>vnm w.count::rH r (ni w s 0)
def rnF(fns:List Fd)(k:Nat)(f:Fd):Fd:=
 ⟨f.name,rH f.params ⟨[],0,if da fns f.name=some k then 0 else 2⟩,iL fns k 0 f.body (cY f.params ⟨[],0,if da fns f.name=some k then 0 else 2⟩)⟩
mutual
def tr:Sm->Nat
 | .mk o _ _ bd el=>(if o=1 then 1 else 0)+aS bd+aS el
def aS:List Sm->Nat
 |[]=>0
 |s::r=>tr s+aS r
end
theorem vJ(o:Int)(s:List UInt8)(b:Nat)(w:WS):(opW o s b w).count=w.count+if o=1 then 1 else 0:=by
 unfold opW
 split
 ·rfl
 ·split<;>rfl
mutual
theorem Di(fns:List Fd)(k:Nat):∀(s:Sm) (b:Nat) (w:WS),(stW fns k b s w).count=w.count+tr s
 | .mk o s a bd el,b,w=>by
   rw[stW,tr]
   simp only[WS.back]
   rw[jn fns k el,jn fns k bd,vJ];show w.count+_+_+_=_
   omega
theorem jn(fns:List Fd)(k:Nat):∀(l:List Sm) (b:Nat) (w:WS),(db fns k b l w).count=w.count+aS l
 |[],b,w=>rfl
 |s::r,b,w=>by rw[db,aS,jn fns k r,Di fns k s];omega
end
mutual
theorem Qh:∀s:Sm,tr s<=s.cnt
 | .mk o s a bd el=>by
   have:=fZ bd
   have:=fZ el
   simp only[tr,Sm.cnt]
   split<;>omega
theorem fZ:∀l:List Sm,aS l<=dG l
 |[]=>WK _
 |s::r=>by have:=Qh s;have:=fZ r;simp only[aS,dG];omega
end
theorem vO:∀(ps:List (List UInt8)) (w:WS),(cY ps w).count=w.count+ps.length
 |[],w=>rfl
 |s::r,w=>by
  have:=vO r (ni w s 0)
  simp only[cY,List.foldl_cons,WP] at this⊢
  rw[this];simp only[ni];omega
theorem Qi(o:Int)(s:List UInt8)(b:Nat)(w:WS):∃e,(opW o s b w).vs=e++w.vs:=by
 unfold opW
 split
 ·exact⟨[_],rfl⟩
 ·split<;>exact⟨[],rfl⟩
theorem MJ(fns:List Fd)(k b:Nat)(o:Int)(s:List UInt8)(a:List Ex)(bd el:List Sm)(w:WS):(stW fns k b (.mk o s a bd el) w).vs=(opW o s b ⟨w.vs,w.count,ed fns k w.vs a w.code⟩).vs:=rfl
theorem Fj(fns:List Fd)(k:Nat):∀(l:List Sm) (b:Nat) (w:WS),∃e,(db fns k b l w).vs=e++w.vs
 |[],b,w=>⟨[],rfl⟩
 | .mk o s a bd el::r,b,w=>by
   obtain⟨e1,h1⟩:=Fj fns k r b (stW fns k b (.mk o s a bd el) w)
   obtain⟨e2,h2⟩:=Qi o s b ⟨w.vs,w.count,ed fns k w.vs a w.code⟩
   exact⟨e1++e2,by rw[db,h1,MJ,h2,Xi]⟩
theorem RL{o:Int}{s:List UInt8}{b:Nat}{w:WS}(h:w.vs.length<=w.count):(opW o s b w).vs.length<=(opW o s b w).count:=by
 unfold opW
 split
 ·simp[ni,h]
 ·split<;>exact h
theorem Ri(fns:List Fd)(k:Nat){s:Sm}{b:Nat}{w:WS}(h:w.vs.length<=w.count):(stW fns k b s w).vs.length<=(stW fns k b s w).count:=by
 obtain⟨o,n,a,bd,el⟩:=s
 rw[Di,MJ]
 have:=RL (o:=o) (s:=n) (b:=b) (w:=⟨w.vs,w.count,ed fns k w.vs a w.code⟩) h
 rw[vJ] at this
 simp only[tr]
 simp only at this
 omega
theorem Jg(fns:List Fd)(k:Nat):∀{l:List Sm} {b:Nat} {w:WS},w.vs.length<=w.count->(db fns k b l w).vs.length<=(db fns k b l w).count
 |[],_,_,h=>h
 |s::r,b,w,h=>Jg fns k (l:=r) (Ri fns k h)
mutual
def Sm.pre(d:Nat):Sm->List (Sm × Nat)
 | .mk o s a bd el=>(.mk o s a bd el,d)::(aY (d+1) bd++aY (d+1) el)
def aY(d:Nat):List Sm->List (Sm × Nat)
 |[]=>[]
 |s::r=>Sm.pre d s++aY d r
end
theorem Sm.pre_eq(d:Nat)(s:Sm):s.pre d=(s,d)::(aY (d+1) s.body++aY (d+1) s.els):=by cases s;rfl
theorem nW(d:Nat):∀a b:List Sm,aY d (a++b)=aY d a++aY d b
 |[],b=>rfl
 |s::r,b=>by rw[Xk,aY,aY,nW d r b,Xi]
theorem Ex.pre_eq(e:Ex):e.pre=e::eB e.kids:=by cases e;rfl
theorem tu:∀a b:List Ex,eB (a++b)=eB a++eB b
 |[],b=>rfl
 |e::r,b=>by rw[Xk,eB,eB,tu r b,Xi]
mutual
theorem Sm.pre_len:∀(s:Sm) (d:Nat),(s.pre d).length=s.cnt
 | .mk o s a bd el,d=>by simp only[Sm.pre,Sm.cnt,WP,WL,lm bd,lm el];omega
theorem lm:∀(l:List Sm) (d:Nat),(aY d l).length=dG l
 |[],d=>rfl
 |s::r,d=>by simp only[aY,dG,WL,Sm.pre_len s,lm r]
end
end
section
structure Ii where (op to:Int) (args:List Int) (n:Int)
structure Ph where (to:Int) (args:List Int)
def Ii.cs(x:Ii):List PV:=[.int .i64 x.op,.int .i64 x.to,bF x.args,.int .i64 x.n]
def Ph.cs(x:Ph):List PV:=[.int .i64 x.to,bF x.args]
def inL(l:List Ii):PV:= .lst 4 (l.map Ii.cs)
def phL(l:List Ph):PV:= .lst 2 (l.map Ph.cs)
structure Bk where (phis:List Ph) (ins:List Ii) (jump on:Int) (next:List Int)
def Bk.cs(b:Bk):List PV:=[phL b.phis,inL b.ins,.int .i64 b.jump,.int .i64 b.on,bF b.next]
def bkL(l:List Bk):PV:= .lst 5 (l.map Bk.cs)
structure Cd where (params regs:Int) (blocks:List Bk)
def Cd.cs(c:Cd):List PV:=[.int .i64 c.params,.int .i64 c.regs,bkL c.blocks]
def cdL(l:List Cd):PV:= .lst 3 (l.map Cd.cs)
def bk0:Bk:=⟨[],[],0,0,[]⟩
def Bk.put(b:Bk)(x:Ii):Bk:={b with ins:=b.ins++[x]}
def Bk.fin(b:Bk)(j o:Int)(nx:List Int):Bk:={b with jump:=j,on:=o,next:=nx}
def modB(f:Bk->Bk)(l:List Bk)(i:Nat):List Bk:=match l[i]? with|some b=>l.set i (f b)|none=>l
structure Lw where (regs:Nat) (bs:List Bk) (pos:Nat)
def Lw.put(w:Lw)(x:Ii):Lw:=⟨w.regs,modB (·.put x) w.bs w.pos,w.pos⟩
def Lw.name(w:Lw)(n:Nat):Lw:=⟨w.regs,w.bs++List.replicate n bk0,w.pos⟩
def Lw.fin(w:Lw)(j o:Int)(g:Nat)(nx:List Int):Lw:=⟨w.regs,modB (·.fin j o nx) w.bs w.pos,g⟩
def Lw.reg(w:Lw):Lw:=⟨w.regs+1,w.bs,w.pos⟩
def Lw.mk'(w:Lw)(op n:Int)(args:List Int):Lw:=w.reg.put ⟨op,w.regs,args,n⟩
def iS(o:Int):Int:=if o=11 then 10 else if o=12 then 11 else if o=13 then 14 else o
mutual
def lwE(fa sc:List UInt8->Int):Ex->Lw->Int × Lw
 | .mk o n s ks,w=>
   if o=1 then(w.regs,w.mk' 1 n [])
   else if o=2 then(sc s,w)
   else if o=10 then lwA fa sc ks w
   else let x:=bj fa sc ks w
    (x.2.regs,x.2.mk' (iS o) (if o=13 then fa s else 0) x.1)
def lwA(fa sc:List UInt8->Int):List Ex->Lw->Int × Lw
 |[a,b],w=>
  let x:=lwE fa sc a w
  let w2:=x.2.mk' 1 0 []
  let y:=lwE fa sc b ((w2.name 2).fin 2 x.1 w2.bs.length [w2.bs.length,w2.bs.length+1])
  (x.2.regs,((y.2.mk' 10 0 [y.1]).put ⟨10,x.2.regs,[y.2.regs],0⟩).fin 1 0 (w2.bs.length+1) [w2.bs.length+1])
 |_,w=>(0,w)
def bj(fa sc:List UInt8->Int):List Ex->Lw->List Int × Lw
 |[],w=>([],w)
 |e::r,w=>
  let x:=lwE fa sc e w
  let y:=bj fa sc r x.2
  (x.1::y.1,y.2)
end
def scF(d:Int)(ch:List Scp)(s:List UInt8):Int:=match cZ ch s with|some n=>(n:Int)|none=>d
mutual
def lwS(fa:List UInt8->Int)(d:Int):Sm->Scp->List Scp->Nat->Lw->Scp × Nat × Lw
 | .mk o s a bd el,m,up,nx,w=>
   if o=6 then
    let w1:=(w.name 3).fin 1 0 w.bs.length [w.bs.length]
    let x:=lwE fa (scF d (m::up)) (a.headD (.mk 0 0 [] [])) w1
    let y:=aW fa d bd [] (m::up) nx (x.2.fin 2 x.1 (w.bs.length+1) [w.bs.length+1,w.bs.length+2])
    (m,y.2.1,y.2.2.fin 1 0 (w.bs.length+2) [w.bs.length])
   else
    let x:=bj fa (scF d (m::up)) a w
    if o=1 then(eQ m s nx,nx+1,x.2.put ⟨2,nx,x.1,0⟩)
    else if o=2 then(m,nx,x.2.put ⟨2,scF d (m::up) s,x.1,0⟩)
    else if o=3 then(m,nx,x.2.put ⟨13,-1,x.1,0⟩)
    else if o=4 then(m,nx,x.2.put ⟨12,-1,x.1,0⟩)
    else if o=5 then
     let t:=x.2.bs.length
     let y:=aW fa d bd [] (m::up) nx ((x.2.name 3).fin 2 (x.1.headD 0) t [t,t+1])
     let z:=aW fa d el [] (m::up) y.2.1 (y.2.2.fin 1 0 (t+1) [t+2])
     (m,z.2.1,z.2.2.fin 1 0 (t+2) [t+2])
    else if o=7 then(m,nx,(x.2.name 1).fin 3 (x.1.headD 0) x.2.bs.length [])
    else(m,nx,x.2)
def aW(fa:List UInt8->Int)(d:Int):List Sm->Scp->List Scp->Nat->Lw->Scp × Nat × Lw
 |[],m,_,nx,w=>(m,nx,w)
 |s::r,m,up,nx,w=>
  let x:=lwS fa d s m up nx w
  aW fa d r x.1 up x.2.1 x.2.2
end
def psS:List (List UInt8)->Scp->Nat->Scp
 |[],m,_=>m
 |p::r,m,i=>psS r (eQ m p i) (i+1)
def faI(l:List Fd)(s:List UInt8):Int:=match da l s with|some i=>(i:Int)|none=> -1
def lwF(l:List Fd)(d:Int)(f:Fd):Cd:=
 let w0:Lw:=⟨f.params.length+aS f.body,[bk0],0⟩
 let x:=aW (faI l) d f.body (psS f.params [] 0) [] f.params.length w0
 let w:=x.2.2.mk' 1 0 []
 ⟨f.params.length,w.regs,(w.fin 3 x.2.2.regs 0 []).bs⟩
theorem BM(f:Bk->Bk)(l:List Bk)(i:Nat):(modB f l i).length=l.length:=by
 unfold modB;split<;>simp
theorem ry{f:Bk->Bk}{l:List Bk}{i:Nat}{b:Bk}(h:l[i]?=some b):modB f l i=l.set i (f b):=by
 unfold modB;rw[h]
structure Lw.Ok (w:Lw) (B:Nat):Prop where
 regs:w.regs<=B
 bs:w.bs.length<=B
 ins:∀b∈w.bs,b.ins.length<=B
 pos:w.pos<w.bs.length
theorem Lw.Ok.up{w:Lw}{A B:Nat}(H:w.Ok A)(h:A<=B):w.Ok B:=⟨Xs H.1 h,Xs H.2 h,λb hb=>Xs (H.3 b hb) h,H.4⟩
theorem Lw.Ok.cur{w:Lw}{B:Nat}(H:w.Ok B):∃b,w.bs[w.pos]?=some b/\b.ins.length<=B:=
 ⟨_,Wz H.pos,H.ins _ (WN H.pos)⟩
theorem Lw.Ok.reg{w:Lw}{B:Nat}(H:w.Ok B):w.reg.Ok (B+1):=⟨by have:=H.1;show w.regs+1<=_;omega,by have:=H.2;show w.bs.length<=_;omega,λb hb=>by have:=H.3 b hb;omega,H.4⟩
theorem Lw.Ok.put{w:Lw}{B:Nat}(H:w.Ok B)(x:Ii):(w.put x).Ok (B+1):=by
 obtain⟨b,hb,hl⟩:=H.cur
 have hbs:(w.put x).bs=w.bs.set w.pos (b.put x):=ry hb
 refine⟨by have:=H.1;show w.regs<=_;omega,by rw[hbs,Xq];have:=H.2;omega,λc hc=>?_,by rw[hbs,Xq];exact H.4⟩
 rw[hbs] at hc
 rcases Xl hc with h|rfl
 ·have:=H.3 c h;omega
 ·simp only[Bk.put,WL,List.length_singleton];omega
theorem Lw.Ok.mk'{w:Lw}{B:Nat}(H:w.Ok B)(op n:Int)(args:List Int):(w.mk' op n args).Ok (B+2):=H.reg.put _
theorem Lw.Ok.name{w:Lw}{B:Nat}(H:w.Ok B)(n:Nat):(w.name n).Ok (B+n):=by
 refine⟨by have:=H.1;show w.regs<=_;omega,by have:=H.2;simp[Lw.name];omega,λb hb=>?_,by have:=H.4;simp[Lw.name];omega⟩
 rcases WE.1 hb with h|h
 ·have:=H.3 b h;omega
 ·rw[(List.mem_replicate.1 h).2];simp[bk0]
theorem Lw.Ok.fin{w:Lw}{B:Nat}(H:w.Ok B)(j o:Int){g:Nat}(hg:g<w.bs.length)(nx:List Int):(w.fin j o g nx).Ok B:=by
 obtain⟨b,hb,hl⟩:=H.cur
 have hbs:(w.fin j o g nx).bs=w.bs.set w.pos (b.fin j o nx):=ry hb
 refine⟨H.1,by rw[hbs,Xq];exact H.2,λc hc=>?_,by rw[hbs,Xq];exact hg⟩
 rw[hbs] at hc
 rcases Xl hc with h|rfl
 ·exact H.3 c h
 ·exact hl
@[simp] theorem Lw.put_len(w:Lw)(x:Ii):(w.put x).bs.length=w.bs.length:=BM _ _ _
@[simp] theorem Lw.mk'_len(w:Lw)(op n:Int)(args:List Int):(w.mk' op n args).bs.length=w.bs.length:=BM _ _ _
@[simp] theorem Lw.fin_len(w:Lw)(j o:Int)(g:Nat)(nx:List Int):(w.fin j o g nx).bs.length=w.bs.length:=BM _ _ _
@[simp] theorem Lw.name_len(w:Lw)(n:Nat):(w.name n).bs.length=w.bs.length+n:=by simp[Lw.name]
@[simp] theorem Lw.fin_pos(w:Lw)(j o:Int)(g:Nat)(nx:List Int):(w.fin j o g nx).pos=g:=rfl
theorem Ou(fa sc:List UInt8->Int)(e:Ex)(w:Lw):lwE fa sc e w=if e.op=1 then((w.regs:Int),w.mk' 1 e.n []) else if e.op=2 then(sc e.name,w) else if e.op=10 then lwA fa sc e.kids w else
 ((bj fa sc e.kids w).2.regs,(bj fa sc e.kids w).2.mk' (iS e.op) (if e.op=13 then fa e.name else 0) (bj fa sc e.kids w).1):=by
 obtain⟨o,n,s,ks⟩:=e;rw[lwE];rfl
theorem gd(fa sc:List UInt8->Int):∀(l:List Ex) (w:Lw),(bj fa sc l w).1.length=l.length
 |[],_=>by rw[bj];rfl
 |e::r,w=>by rw[bj];simp[gd fa sc r]
theorem FF(fa sc:List UInt8->Int):∀(a b:List Ex) (w:Lw),bj fa sc (a++b) w=((bj fa sc a w).1++(bj fa sc b (bj fa sc a w).2).1,(bj fa sc b (bj fa sc a w).2).2)
 |[],b,w=>by simp[bj]
 |e::r,b,w=>by rw[Xk,bj,bj,FF fa sc r];simp
theorem vf{fa sc:List UInt8->Int}{l:List Ex}{i:Nat}(h:i<l.length)(w:Lw):bj fa sc (l.take (i+1)) w=((bj fa sc (l.take i) w).1++[(lwE fa sc l[i] (bj fa sc (l.take i) w).2).1],(lwE fa sc l[i] (bj fa sc (l.take i) w).2).2):=by
 rw[aq h,FF,bj,bj]
mutual
theorem mX(fa sc:List UInt8->Int):∀(e:Ex) (w:Lw) (B:Nat),w.Ok B->(lwE fa sc e w).2.Ok (B+8*e.sz)/\w.bs.length<=(lwE fa sc e w).2.bs.length
 | .mk o n s ks,w,B,H=>by
   have hz:(Ex.mk o n s ks).sz=1+s.length+aM ks:=Ex.sz_eq _
   rw[hz,lwE]
   split
   ·exact⟨(H.mk' _ _ _).up (by omega),by simp⟩
   split
   ·exact⟨H.up (by omega),WK _⟩
   split
   ·have:=Sl fa sc ks w B H
    exact⟨this.1.up (by omega),this.2⟩
   ·have:=jL fa sc ks w B H
    exact⟨(this.1.mk' _ _ _).up (by omega),by simpa using this.2⟩
theorem Sl(fa sc:List UInt8->Int):∀(l:List Ex) (w:Lw) (B:Nat),w.Ok B->(lwA fa sc l w).2.Ok (B+8*aM l+7)/\w.bs.length<=(lwA fa sc l w).2.bs.length
 |[],w,B,H=>by rw[lwA];exact⟨H.up (by omega),WK _⟩;intro a b h;cases h
 |[a],w,B,H=>by rw[lwA];exact⟨H.up (by omega),WK _⟩;intro a b h;cases h
 |a::b::c::r,w,B,H=>by rw[lwA];exact⟨H.up (by omega),WK _⟩;intro a b h;cases h
 |[a,b],w,B,H=>by
  obtain⟨h1,l1⟩:=mX fa sc a w B H
  have hz:aM [a,b]=a.sz+b.sz:=by simp[aM]
  have ha:=a.sz_eq
  have hb:=b.sz_eq
  rw[lwA,hz]
  simp only
  generalize lwE fa sc a w=x at*
  have h2:=((h1.mk' 1 0 []).name 2).fin 2 x.1 (g:=(x.2.mk' 1 0 []).bs.length) (by simp) [((x.2.mk' 1 0 []).bs.length:Int),((x.2.mk' 1 0 []).bs.length:Int)+1]
  obtain⟨h3,l3⟩:=mX fa sc b _ _ h2
  generalize lwE fa sc b _=y at*
  simp at l3
  have hg:(x.2.mk' 1 0 []).bs.length+1<((y.2.mk' 10 0 [y.1]).put ⟨10,x.2.regs,[(y.2.regs:Int)],0⟩).bs.length:=by simp;omega
  have h4:=((h3.mk' 10 0 [y.1]).put ⟨10,x.2.regs,[(y.2.regs:Int)],0⟩).fin 1 0 hg [((x.2.mk' 1 0 []).bs.length:Int)+1]
  exact⟨h4.up (by omega),by simp;omega⟩
theorem jL(fa sc:List UInt8->Int):∀(l:List Ex) (w:Lw) (B:Nat),w.Ok B->(bj fa sc l w).2.Ok (B+8*aM l)/\w.bs.length<=(bj fa sc l w).2.bs.length
 |[],w,B,H=>by rw[bj];exact⟨H.up (by omega),WK _⟩
 |e::r,w,B,H=>by
  obtain⟨h1,l1⟩:=mX fa sc e w B H
  have hz:aM (e::r)=e.sz+aM r:=by rw[aM]
  rw[bj,hz]
  simp only
  obtain⟨h2,l2⟩:=jL fa sc r _ _ h1
  exact⟨h2.up (by omega),Xs l1 l2⟩
end
end
section
def Lx{α:Type}(p:Nat->α->Bool)(l:List α):Bool:=l.zipIdx.all λx=>p x.2 x.1
theorem allI_iff{α:Type}{p:Nat->α->Bool}{l:List α}:Lx p l=true↔∀(i:Nat) (x:α),l[i]?=some x->p i x=true:=by
 rw[Lx,WI]
 constructor
 ·intro h i x hx;exact h (x,i) (List.mem_zipIdx_iff_getElem?.2 hx)
 ·intro h ⟨x,i⟩ hm;exact h i x (List.mem_zipIdx_iff_getElem?.1 hm)
theorem ou{α:Type}{p:Nat->α->Bool}{l:List α}{i:Nat}{x:α}(h:l[i]?=some x)(hp:p i x=false):Lx p l=false:=by
 cases e:Lx p l with
 |false=>rfl
 |true=>rw[allI_iff.1 e i x h] at hp;cases hp
theorem nz{α:Type}{p:α->Bool}{l:List α}{x:α}(h:x∈l)(hp:p x=false):l.all p=false:=by
 rw[List.all_eq_false];exact⟨x,h,by simp[hp]⟩
def fX(o:Int):Bool:=inR o 1 14&& !decide (o=12)&& !decide (o=13)
def rf(o:Int):Int:=if o=1 then 0 else if o=2\/o=10\/o=11\/o=13 then 1 else 2
def ef(g r:Int):Bool:=inR r 0 (g-1)
def EY(u:List Cd)(n:Int):Int:=match u[n.toNat]? with|some c=>c.params|none=> -1
def jW(u:List Cd)(k:Nat)(g:Int)(x:Ii):Bool:=
 inR x.op 1 14&&x.args.all (ef g)&&(if fX x.op then ef g x.to else decide (x.to= -1))&&
 (if x.op=14 then inR x.n 0 ((k:Int)-1)&&decide ((x.args.length:Int)=EY u x.n)
  else if x.op=1 then decide (x.args.length=0)&&inR x.n 0 255
  else decide (x.n=0)&&decide ((x.args.length:Int)=rf x.op))
def nxN(j:Int):Int:=if j=1 then 1 else if j=2 then 2 else if j=3 then 0 else-1
def onU(j:Int):Bool:=decide (j=2)||decide (j=3)
def dc(bs:List Bk)(b:Int):List Int:=(bs.zipIdx.filter λx=>decide (b∈x.1.next)).map λx=>(x.2:Int)
def phB(g:Int)(b n:Nat)(x:Ph):Bool:= !decide (b=0)&&decide (x.args.length=n)&&x.args.all (ef g)&&ef g x.to
def bkB(u:List Cd)(k:Nat)(c:Cd)(b:Nat)(x:Bk):Bool:=
 decide ((x.next.length:Int)=nxN x.jump)&&(if onU x.jump then ef c.regs x.on else decide (x.on=0))&&x.next.all (λn=>inR n 1 ((c.blocks.length:Int)-1))&&x.ins.all (jW u k c.regs)&&x.phis.all (phB c.regs b (dc c.blocks b).length)
def bkN(x:Bk):Nat:=x.ins.length+x.phis.length
def cdN(c:Cd):Nat:=(c.blocks.map bkN).sum
def unN(u:List Cd):Nat:=(u.map cdN).sum
def cdB(u:List Cd)(k:Nat)(c:Cd):Bool:=inR c.params 0 3&&inR c.regs c.params 300&&inR c.blocks.length 1 160&&Lx (bkB u k c) c.blocks
def unB(u:List Cd):Bool:=inR u.length 1 4&&Lx (cdB u) u&&decide (unN u<=800)
structure BkFit (M:Nat) (b:Bk):Prop where
 phis:b.phis.length<=M
 ins:b.ins.length<=M
 next:b.next.length<=M
 pa:∀x∈b.phis,x.args.length<=M
 ia:∀x∈b.ins,x.args.length<=M
def JZ(M:Nat)(c:Cd):Prop:=c.blocks.length<=M/\∀b∈c.blocks,BkFit M b
def KD(M:Nat)(u:List Cd):Prop:=u.length<=M/\∀c∈u,JZ M c
theorem Cd.cs_eq2(c:Cd):c.cs=[.int .i64 c.params,.int .i64 c.regs,bkL c.blocks]:=rfl
theorem Bk.cs_eq2(b:Bk):b.cs=[phL b.phis,inL b.ins,.int .i64 b.jump,.int .i64 b.on,bF b.next]:=rfl
theorem Ii.cs_eq2(x:Ii):x.cs=[.int .i64 x.op,.int .i64 x.to,bF x.args,.int .i64 x.n]:=rfl
theorem Ph.cs_eq2(x:Ph):x.cs=[.int .i64 x.to,bF x.args]:=rfl
theorem pz{α:Type}(f:α->Nat)(l:List α)(i:Nat):((l.take i).map f).sum<=(l.map f).sum:=by
 have:=congrArg (λl=>(List.map f l).sum) (Xj i l)
 simp only[List.map_append,List.sum_append] at this
 omega
theorem tZ{α:Type}(f:α->Nat){l:List α}{i:Nat}{x:α}(h:l[i]?=some x):((l.take (i+1)).map f).sum=((l.take i).map f).sum+f x:=by
 obtain⟨hi,rfl⟩:=Wy.1 h
 rw[aq hi,List.map_append,List.sum_append];simp
theorem ow(bs:List Bk)(b:Int):(dc bs b).length<=bs.length:=by
 rw[dc,Xc]
 exact Xs (List.length_filter_le _ _) (by simp)
theorem Gx{α:Type}{l:List α}{i:Nat}{x:α}(h:l[i]?=some x):(l.take (i+1)).zipIdx=(l.take i).zipIdx++[(x,i)]:=by
 obtain⟨hi,rfl⟩:=Wy.1 h
 rw[aq hi,List.zipIdx_append,WX,Nat.min_eq_left (by omega)]
 simp
theorem vX{bs:List Bk}{b:Int}{i:Nat}{x:Bk}(h:bs[i]?=some x):dc (bs.take (i+1)) b=dc (bs.take i) b++(if b∈x.next then[(i:Int)] else[]):=by
 rw[dc,Gx h,List.filter_append,List.map_append]
 congr 1
 by_cases hb:b∈x.next<;>simp[hb]
theorem Fs(u:List Cd){i:Nat}{c:Cd}(h:u[i]?=some c)(j:Nat):unN (u.take i)+((c.blocks.take j).map bkN).sum<=unN u:=by
 have h1:=tZ cdN h
 have h2:=pz cdN u (i+1)
 have h3:=pz bkN c.blocks j
 have h4:cdN c=(c.blocks.map bkN).sum:=rfl
 simp only[unN]
 omega
end
section
theorem gw{s:Bool}{h:List AO}{vs:List AV}{q:PV}{I:List Nat}(H:OwnL s h vs [q] I):∃v,vs=[v]:=by
 have:=H.len
 match vs,this with
 |[v],_=>exact⟨v,rfl⟩
theorem Qd{s:Bool}{h:List AO}{vs:List AV}{q r:PV}{I:List Nat}(H:OwnL s h vs [q,r] I):∃a b,vs=[a,b]:=by
 have:=H.len
 match vs,this with
 |[a,b],_=>exact⟨a,b,rfl⟩
theorem Kv{s:Bool}{h:List AO}{vs:List AV}{q r t:PV}{I:List Nat}(H:OwnL s h vs [q,r,t] I):∃a b c,vs=[a,b,c]:=by
 have:=H.len
 match vs,this with
 |[a,b,c],_=>exact⟨a,b,c,rfl⟩
theorem Hd{s:Bool}{h:List AO}{vs:List AV}{e:Ex}{I:List Nat}(H:OwnL s h vs e.cs I):∃K,vs=[.p (.int .i64 e.op),.p (.int .i64 e.n),.p (.str e.name),K]/\OwnL s h [K] [exL e.kids] I:=by
 rw[e.cs_eq] at H
 cases H with
 |p _ _ H=>
  cases H with
  |p _ _ H=>
   cases H with
   |p _ _ H=>
    obtain⟨v,rfl⟩:=gw H
    exact⟨v,rfl,H⟩
theorem MR{s:Bool}{h:List AO}{o n:Int}{w:List UInt8}{k:List Ex}{K:AV}{I:List Nat}(H:OwnL s h [K] [exL k] I):OwnL s h [.p (.int .i64 o),.p (.int .i64 n),.p (.str w),K] (Ex.mk o n w k).cs I:=by
 rw[Ex.cs_eq]
 exact .p _ (λ_=>rfl) (.p _ (λ_=>rfl) (.p _ (λ_=>rfl) H))
theorem Su{s:Bool}{h:List AO}{vs:List AV}{e:Sm}{I:List Nat}(H:OwnL s h vs e.cs I):∃A B E I1 I2 I3,vs=[.p (.int .i64 e.op),.p (.str e.name),A,B,E]/\I=I1++(I2++I3)/\OwnL s h [A] [exL e.args] I1/\OwnL s h [B] [smL e.body] I2/\OwnL s h [E] [smL e.els] I3:=by
 rw[e.cs_eq] at H
 cases H with
 |p _ _ H=>
  cases H with
  |p _ _ H=>
   obtain⟨A,B,E,rfl⟩:=Kv H
   obtain⟨I1,I',rfl,h1,H⟩:=H.one
   obtain⟨I2,I3,rfl,h2,h3⟩:=H.one
   exact⟨A,B,E,I1,I2,I3,rfl,rfl,h1,h2,h3⟩
theorem Ss{s:Bool}{h:List AO}{o:Int}{w:List UInt8}{a:List Ex}{b e:List Sm}{A B E:AV}{I1 I2 I3:List Nat}(h1:OwnL s h [A] [exL a] I1)(h2:OwnL s h [B] [smL b] I2)(h3:OwnL s h [E] [smL e] I3):
 OwnL s h [.p (.int .i64 o),.p (.str w),A,B,E] (Sm.mk o w a b e).cs (I1++(I2++I3)):=by
 rw[Sm.cs_eq]
 exact .p _ (λ_=>rfl) (.p _ (λ_=>rfl) (h1.app (h2.app h3)))
theorem RF{s:Bool}{h:List AO}{vs:List AV}{f:Fd}{I:List Nat}(H:OwnL s h vs f.cs I):∃A B I1 I2,vs=[.p (.str f.name),A,B]/\I=I1++I2/\OwnL s h [A] [aL f.params] I1/\OwnL s h [B] [smL f.body] I2:=by
 rw[show f.cs=[.str f.name,aL f.params,smL f.body] from rfl] at H
 cases H with
 |p _ _ H=>
  obtain⟨A,B,rfl⟩:=Qd H
  obtain⟨I1,I2,rfl,h1,H⟩:=H.one
  exact⟨A,B,I1,I2,rfl,rfl,h1,H⟩
theorem sN{s:Bool}{h:List AO}{w:List UInt8}{ps:List (List UInt8)}{b:List Sm}{A B:AV}{I1 I2:List Nat}(h1:OwnL s h [A] [aL ps] I1)(h2:OwnL s h [B] [smL b] I2):OwnL s h [.p (.str w),A,B] (Fd.mk w ps b).cs (I1++I2):=
 .p _ (λ_=>rfl) (h1.app h2)
end
section
def Fr(K:List Nat)(h h':List AO):Prop:=h.length<=h'.length/\∀i,i<h.length->i∉K->h'[i]?=h[i]?
theorem Fr.refl(K:List Nat)(h:List AO):Fr K h h:=⟨WK _,λ_ _ _=>rfl⟩
theorem Fr.more(K:List Nat)(h os:List AO):Fr K h (h++os):=⟨by simp,λi hi _=>Wx hi⟩
theorem Fr.trans{K K':List Nat}{h h1 h2:List AO}(a:Fr K h h1)(b:Fr K' h1 h2)(hk:∀i∈K',i∈K\/h.length<=i):Fr K h h2:=
 ⟨Xs a.1 b.1,λi hi hn=>by
   rw[b.2 i (Xf hi a.1) (λhm=>by
    rcases hk i hm with q|q
    ·exact hn q
    ·omega),a.2 i hi hn]⟩
theorem Fr.sub{K K':List Nat}{h h1:List AO}(a:Fr K h h1)(hk:∀i∈K,i∈K'\/h.length<=i):Fr K' h h1:=
 ⟨a.1,λi hi hn=>a.2 i hi λhm=>by
   rcases hk i hm with q|q
   ·exact hn q
   ·omega⟩
theorem Fr.from{K:List Nat}{h os h2:List AO}(a:Fr K (h++os) h2):Fr K h h2:=
 ⟨by have:=a.1;simp at this;omega,λi hi hn=>by rw[a.2 i (by simp;omega) hn,Wx hi]⟩
theorem aH(q:PV):(AV.p q).isCell=true:=rfl
theorem aw(a b c d:Nat):(AV.sl a b c d).isCell=true:=rfl
theorem aj(a b c d:Nat):(AV.ptr a b c d).isCell=true:=rfl
theorem ae:AV.nils.isCell=true:=rfl
theorem aI(q:PV):(AV.p q).cells=[AV.p q]:=rfl
theorem au(a b c d:Nat):(AV.sl a b c d).cells=[AV.sl a b c d]:=rfl
theorem ah(a b c d:Nat):(AV.ptr a b c d).cells=[AV.ptr a b c d]:=rfl
theorem af:AV.nils.cells=[AV.nils]:=rfl
theorem ag(cs:List AV):(AV.agg cs).cells=cs:=rfl
end
section
section
variable {s:Bool} {h:List AO} {id sz:Nat} {rows:List (List AV)} {D:List (List PV)} {J:List Nat}
theorem Si(H:RowOwn s h id sz rows D J){i:Nat}{e:List PV}(hi:D[i]?=some e):
 ∃r Ji,rows[i]?=some r/\OwnL s h r e Ji/\Ji.Nodup/\(∀j∈Ji,j∈J)/\∀(h2:List AO) (r':List AV) (e':List PV) (I2:List Nat),h2[id]?=some (.row sz (rows.set i r'))->(∀j∈J,j∉Ji->h2[j]?=h[j]?)->OwnL s h2 r' e' I2->I2.Nodup->(∀j∈I2,j∈Ji\/(j≠id/\j∉J))->e'.length=sz->
  ∃J',RowOwn s h2 id sz (rows.set i r') (D.set i e') J'/\∀j∈J',j∈J\/j∈I2:=by
 obtain⟨r,J1,Ji,J2,g1,rfl,g3,g4⟩:=H.own.put H.len H.rl H.dl hi
 have hn:=H.nd
 have hlt:∀j∈J1++(Ji++J2),j<h.length:=λj hj=>H.own.lt hj
 simp only[WW,Xx,WE,not_or] at hn hlt
 obtain⟨⟨n1,n2,n3⟩,m1,⟨m2,m3,m4⟩,m5⟩:=hn
 refine⟨r,Ji,g1,g3,m2,λj hj=>by simp[hj],λh2 r' e' I2 k1 k2 ho nd2 hs he=>?_⟩
 simp only[WE,not_or] at hs
 refine⟨J1++(I2++J2),⟨k1,by simp[H.len],λe he'=>?_,λe he'=>?_,g4 _ r' e' I2 (λj hj=>?_) ho,?_⟩,λj hj=>?_⟩
 ·rcases Xl he' with h1|rfl
  ·exact H.rl e h1
  ·rw[ho.len,he]
 ·rcases Xl he' with h1|rfl
  ·exact H.dl e h1
  ·exact he
 ·rcases WE.1 hj with hj|hj
  ·exact k2 j (by simp[hj]) λhm=>m5 j hj j (.inl hm) rfl
  ·exact k2 j (by simp[hj]) λhm=>m4 j hm j hj rfl
 ·simp only[WW,Xx,WE,not_or]
  refine⟨⟨n1,λhm=>?_,n3⟩,m1,⟨nd2,m3,λa ha b hb e=>?_⟩,λa ha b hb e=>?_⟩
  ·rcases hs _ hm with h|h
   ·exact n2 h
   ·exact h.1 rfl
  ·subst e
   rcases hs _ ha with h|h
   ·exact m4 a h a hb rfl
   ·exact h.2.2.2 hb
  ·subst e
   rcases hb with hb|hb
   ·rcases hs _ hb with h|h
    ·exact m5 a ha a (.inl h) rfl
    ·exact h.2.1 ha
   ·exact m5 a ha a (.inr hb) rfl
 ·simp only[WE] at hj⊢
  rcases hj with hj|hj|hj
  ·exact .inl (.inl hj)
  ·exact .inr hj
  ·exact .inl (.inr (.inr hj))
theorem Hn(H:RowOwn s h id sz rows D J){h2 os:List AO}(e2:h2=h++os){rs:List (List AV)}{es:List (List PV)}{I2:List Nat}(ho:OwnL s h2 rs.flatten es.flatten I2)(hl:rs.length=es.length)(hr:∀e∈rs,e.length=sz)(he:∀e∈es,e.length=sz)(nd2:I2.Nodup)(hd:∀j∈I2,j≠id/\j∉J):
 RowOwn s (h2.set id .dead++[.row sz (rows++rs)]) h2.length sz (rows++rs) (D++es) (J++I2):=by
 subst e2
 have hid:=H.lt
 have hn:=H.nd
 rw[WW] at hn
 have hid2:id∉I2:=λhm=>(hd _ hm).1 rfl
 have hlt:∀j∈J,j<h.length:=λj hj=>H.own.lt hj
 have hlt2:∀j∈I2,j<(h++os).length:=λj hj=>ho.lt hj
 refine⟨by rw[WD (by simp)];simp,by simp[H.len,hl],λe he'=>?_,λe he'=>?_,?_,?_⟩
 ·rcases WE.1 he' with h1|h1
  ·exact H.rl e h1
  ·exact hr e h1
 ·rcases WE.1 he' with h1|h1
  ·exact H.dl e h1
  ·exact he e h1
 ·rw[Xz,Xz]
  exact(((H.own.more os).set_out hn.1 _).more _).app ((ho.set_out hid2 _).more _)
 ·rw[WW,Xx]
  refine⟨λhm=>?_,hn.2,nd2,λa ha b hb e=>?_⟩
  ·rcases WE.1 hm with hm|hm
   ·have:=hlt _ hm;simp at this;omega
   ·have:=hlt2 _ hm;omega
  ·subst e;exact(hd a hb).2 ha
end
def lwO(l:List Fd)(pr:Int)(w:Lw)(K:AV):AO:= .row 5 [[.p (fdL l),.p (.int .i64 pr),.p (.int .i64 w.regs),K,.p (.int .i64 w.pos)]]
def NoC(h:List AO)(K:AV):Prop:=(∀q,K≠ .p q)/\∀kid n rows,K= .sl kid 5 0 n->h[kid]?=some (.row 5 rows)->∀r∈rows,∀q,r[1]?≠some (.p q)
structure LS (mk:Lw->AV->AO) (L:Nat) (w:Lw) (h:List AO) (K:AV) (I:List Nat):Prop where
 here:h[L]?=some (mk w K)
 own:OwnL false h [K] [bkL w.bs] I
 nd:(L::I).Nodup
 noc:NoC h K
def Frm(S:List Nat)(h h':List AO):Prop:=h.length<=h'.length/\∀i,i<h.length->i∉S->h'[i]?=h[i]?
theorem Frm.refl(S:List Nat)(h:List AO):Frm S h h:=⟨WK _,λ_ _ _=>rfl⟩
theorem Frm.more(S:List Nat)(h os:List AO):Frm S h (h++os):=⟨by simp,λi hi _=>Wx hi⟩
theorem Frm.trans{S T:List Nat}{h h1 h2:List AO}(a:Frm S h h1)(b:Frm T h1 h2)(hT:∀j∈T,j∈S\/h.length<=j):Frm S h h2:=
 ⟨Xs a.1 b.1,λi hi hn=>by
   rw[b.2 i (by have:=a.1;omega) λhm=>by
    rcases hT i hm with h|h
    ·exact hn h
    ·omega,a.2 i hi hn]⟩
def LR(mk:Lw->AV->AO)(L:Nat)(w:Lw)(S:List Nat)(h h':List AO):Prop:=∃K I,LS mk L w h' K I/\Frm (L::S) h h'/\∀j∈I,j∈S\/h.length<=j
theorem LR.seq{mk:Lw->AV->AO}{L:Nat}{w2:Lw}{S T:List Nat}{h h1 h2:List AO}{I:List Nat}(hf:Frm (L::S) h h1)(hI:∀j∈I,j∈S\/h.length<=j)(b:LR mk L w2 T h1 h2)(hT:∀j∈T,j∈I\/j∈S\/h.length<=j):LR mk L w2 S h h2:=by
 obtain⟨K2,I2,a1,a2,a3⟩:=b
 have hT':∀j∈T,j∈S\/h.length<=j:=λj hj=>by
  rcases hT j hj with h|h
  ·exact hI j h
  ·exact h
 refine⟨K2,I2,a1,hf.trans a2 λj hj=>?_,λj hj=>?_⟩
 ·rcases WC.1 hj with rfl|hj
  ·exact .inl (by simp)
  ·rcases hT' j hj with h|h
   ·exact .inl (by simp[h])
   ·exact .inr h
 ·rcases a3 j hj with h|h
  ·exact hT' j h
  ·exact .inr (Xs hf.1 h)
theorem Dw(h:List AO):∀n,OwnL false h (List.replicate n [AV.nils,.nils,.p (.int .i64 0),.p (.int .i64 0),.nils]).flatten (List.replicate n bk0.cs).flatten []
 |0=> .nil
 |n+1=> .nils 2 (.nils 4 (.p _ (λ_=>rfl) (.p _ (λ_=>rfl) (.nils 1 (Dw h n)))))
theorem GH(h:List AO):∀l:List Int,OwnL false h (l.map λn=>[AV.p (.int .i64 n)]).flatten (l.map λn=>[PV.int .i64 n]).flatten []
 |[]=> .nil
 |w::r=> .p _ (λ_=>rfl) (GH h r)
theorem uo{h:List AO}{id:Nat}{l:List Int}{n:Nat}(hg:h[id]?=some (.row 1 (l.map λn=>[AV.p (.int .i64 n)])))(hn:n=l.length):OwnL false h [.sl id 1 0 n] [bF l] [id]:=by
 have:RowOwn false h id 1 (l.map λn=>[AV.p (.int .i64 n)]) (l.map λn=>[PV.int .i64 n]) []:=
  ⟨hg,by simp,λe he=>by obtain⟨w,_,rfl⟩:=Xb.1 he;rfl,λe he=>by obtain⟨w,_,rfl⟩:=Xb.1 he;rfl,GH _ l,by simp⟩
 exact this.tree (by simpa using hn)
theorem Sc{h:List AO}{vs:List AV}{b:Bk}{I:List Nat}(H:OwnL false h vs b.cs I):∃P N X IP IN IX,vs=[P,N,.p (.int .i64 b.jump),.p (.int .i64 b.on),X]/\I=IP++(IN++IX)/\OwnL false h [P] [phL b.phis] IP/\OwnL false h [N] [inL b.ins] IN/\OwnL false h [X] [bF b.next] IX:=by
 obtain⟨P,N,x,y,X,rfl⟩:∃P N x y X,vs=[P,N,x,y,X]:=by
  have:=H.len
  match vs,this with
  |[P,N,x,y,X],_=>exact⟨P,N,x,y,X,rfl⟩
 rw[show b.cs=[phL b.phis,inL b.ins,.int .i64 b.jump,.int .i64 b.on,bF b.next] from rfl] at H
 obtain⟨I1,I',rfl,h1,H⟩:=H.one
 obtain⟨I2,I3,rfl,h2,H⟩:=H.one
 cases H with
 |p _ _ H=>
  cases H with
  |p _ _ H=>exact⟨P,N,X,I1,I2,I3,rfl,rfl,h1,h2,H⟩
theorem Hb{h:List AO}{b:Bk}{P N X:AV}{IP IN IX:List Nat}(h1:OwnL false h [P] [phL b.phis] IP)(h2:OwnL false h [N] [inL b.ins] IN)(h3:OwnL false h [X] [bF b.next] IX):OwnL false h [P,N,.p (.int .i64 b.jump),.p (.int .i64 b.on),X] b.cs (IP++(IN++IX)):=by
 rw[show b.cs=[phL b.phis,inL b.ins,.int .i64 b.jump,.int .i64 b.on,bF b.next] from rfl]
 exact h1.app (h2.app (.p _ (λ_=>rfl) (.p _ (λ_=>rfl) h3)))
theorem gC{s:Bool}{h:List AO}{v:AV}{q:PV}{I:List Nat}(H:OwnL s h [v] [q] I):v.cells=[v]/\v.isCell=true:=by
 cases H with
 |p _ _ _=>exact⟨rfl,rfl⟩
 |nils _ _=>exact⟨rfl,rfl⟩
 |sl id sz n rows es _ _ _ _ _ _ _=>exact⟨rfl,rfl⟩
section
variable {mk:Lw->AV->AO} {L:Nat} {w:Lw} {h:List AO} {K:AV} {I:List Nat}
theorem LS.rows(H:LS mk L w h K I)(hp:0<w.bs.length):∃kid rows J,K= .sl kid 5 0 w.bs.length/\I=kid::J/\RowOwn false h kid 5 rows (w.bs.map Bk.cs) J:=by
 have ho:=H.own
 have nd:=(WW.1 H.nd).2
 rw[show bkL w.bs= .lst 5 (w.bs.map Bk.cs) from rfl] at ho
 rcases ho.inv nd with⟨h0,_⟩|⟨_,hh⟩|⟨id,rows,J,rfl,rfl,hr⟩
 ·rw[List.map_eq_nil_iff.1 h0] at hp;simp at hp
 ·exact(H.noc.1 _ hh.1).elim
 ·exact⟨id,rows,J,by rw[Xc],rfl,hr⟩
theorem LS.lt(H:LS mk L w h K I):L<h.length:=(Wy.1 H.here).1
theorem zR{h:List AO}{kid n:Nat}{l:List Bk}{I:List Nat}(H:OwnL false h [.sl kid 5 0 n] [bkL l] I):kid∈I:=by
 rw[show bkL l= .lst 5 (l.map Bk.cs) from rfl] at H
 cases H with
 |sl id sz n rows es a1 a2 a3 a4 a5 a6 H=>simp
theorem LS.frame(H:LS mk L w h K I){h':List AO}(e:∀i∈L::I,h'[i]?=h[i]?):LS mk L w h' K I:=
 ⟨by rw[e L (by simp)];exact H.here,H.own.frame λi hi=>e i (by simp[hi]),H.nd,H.noc.1,λkid n rows eK hg=>by
   have ho:=H.own
   rw[eK] at ho
   rw[e kid (by simp[zR ho])] at hg
   exact H.noc.2 kid n rows eK hg⟩
theorem LS.more(H:LS mk L w h K I)(os:List AO):LS mk L w (h++os) K I:=H.frame λi hi=>by
 rcases WC.1 hi with rfl|hi
 ·exact Wx H.lt
 ·exact Wx (H.own.lt hi)
theorem LS.modB(H:LS mk L w h K I)(hp:w.pos<w.bs.length):∃kid rows b P N X IP IN IX,K= .sl kid 5 0 w.bs.length/\kid∈I/\h[kid]?=some (.row 5 rows)/\rows.length=w.bs.length/\w.bs[w.pos]?=some b/\rows[w.pos]?=some [P,N,.p (.int .i64 b.jump),.p (.int .i64 b.on),X]/\
 (∀q,N≠ .p q)/\OwnL false h [P] [phL b.phis] IP/\OwnL false h [N] [inL b.ins] IN/\OwnL false h [X] [bF b.next] IX/\(IP++(IN++IX)).Nodup/\(∀j∈IP++(IN++IX),j∈I/\j≠kid/\j≠L)/\kid≠L/\
 ∀(h2:List AO) (r':List AV) (b':Bk) (I2:List Nat) (w2:Lw),h2[kid]?=some (.row 5 (rows.set w.pos r'))->(∀j,j<h.length->j≠L->j≠kid->j∉IP++(IN++IX)->h2[j]?=h[j]?)->h.length<=h2.length->h2[L]?=some (mk w2 (.sl kid 5 0 w.bs.length))->OwnL false h2 r' b'.cs I2->I2.Nodup->(∀j∈I2,j∈IP++(IN++IX)\/(j≠L/\j∉I))->w2.bs=w.bs.set w.pos b'->(∀q,r'[1]?≠some (.p q))->
  ∃I',LS mk L w2 h2 (.sl kid 5 0 w.bs.length) I'/\Frm (L::I) h h2/\∀j∈I',j∈I\/j∈I2:=by
 obtain⟨kid,rows,J,rfl,rfl,hr⟩:=H.rows (by omega)
 have hg:=Wz hp
 generalize w.bs[w.pos]=b at hg
 obtain⟨r,Ji,g1,g2,g3,g4,g5⟩:=Si hr (i:=w.pos) (e:=b.cs) (by rw[WR,hg];rfl)
 obtain⟨P,N,X,IP,IN,IX,rfl,rfl,hP,hN,hX⟩:=Sc g2
 have hnd:=H.nd
 have hn:=hr.nd
 have hlen:=hr.len
 rw[Xc] at hlen
 simp only[WW,WC,not_or] at hnd hn
 have hnL:∀j∈J,j≠L:=λj hj e=>hnd.1.2 (e▸hj)
 have hnK:∀j∈J,j≠kid:=λj hj e=>hn.1 (e▸hj)
 refine⟨kid,rows,b,P,N,X,IP,IN,IX,rfl,by simp,hr.here,hlen,hg,g1,λq e=>H.noc.2 kid _ rows rfl hr.here _ (WJ g1) q (by rw[e];rfl),hP,hN,hX,g3,λj hj=>⟨WV _ (g4 j hj),hnK j (g4 j hj),hnL j (g4 j hj)⟩,λe=>hnd.1.1 e.symm,λh2 r' b' I2 w2 k1 k2 k3 k4 k5 k6 k7 k8 k9=>?_⟩
 have hLl:=H.lt
 obtain⟨J',r1,r2⟩:=g5 h2 r' b'.cs I2 k1 (λj hj hn=>k2 j (hr.own.lt hj) (hnL j hj) (hnK j hj) hn) k5 k6 (λj hj=>by
  rcases k7 j hj with h|h
  ·exact .inl h
  ·simp only[WC,not_or] at h
   exact .inr h.2) rfl
 have hI2:∀j∈J',j≠L/\j≠kid:=λj hj=>by
  have hnd':=r1.nd
  rw[WW] at hnd'
  refine⟨λe=>?_,λe=>hnd'.1 (e▸hj)⟩
  rcases r2 j hj with h|h
  ·exact hnL j h e
  ·rcases k7 j h with h|h
   ·exact hnL j (g4 j h) e
   ·exact h.1 e
 refine⟨kid::J',⟨k4,?_,?_,?_⟩,⟨k3,λi hi hn=>?_⟩,λj hj=>?_⟩
 ·rw[show bkL w2.bs= .lst 5 (w2.bs.map Bk.cs) from rfl,k8,List.map_set]
  exact r1.tree (by simp)
 ·simp only[WW,WC,not_or]
  exact⟨⟨λe=>hnd.1.1 e,λhm=>(hI2 L hm).1 rfl⟩,WW.1 r1.nd⟩
 ·refine⟨λq e=>(by cases e),?_⟩
  intro kid2 n rows2 eK hg2 r hr2
  cases eK
  rw[k1] at hg2
  cases hg2
  rcases Xl hr2 with h1|rfl
  ·exact H.noc.2 kid _ rows rfl hr.here r h1
  ·exact k9
 ·simp only[WC,not_or] at hn
  exact k2 i hi hn.1 hn.2.1 λhm=>hn.2.2 (g4 i hm)
 ·rcases WC.1 hj with rfl|hj
  ·exact .inl (by simp)
  ·rcases r2 j hj with h|h
   ·exact .inl (by simp[h])
   ·exact .inr h
end
end
section
def MkF(mk:Lw->AV->AO):Prop:=∀w w2 K,w.regs=w2.regs->w.pos=w2.pos->mk w K=mk w2 K
theorem Mf(l:List Fd)(pr:Int):MkF (lwO l pr):=λw w2 K h1 h2=>by simp[lwO,h1,h2]
section
variable {mk:Lw->AV->AO} {L:Nat} {w:Lw} {h:List AO} {K:AV} {I:List Nat}
theorem LS.putAt(hmk:MkF mk)(H:LS mk L w h K I)(hp:w.pos<w.bs.length)(x:Ii){A:AV}{J:List Nat}(hA:OwnL false h [A] [bF x.args] J)(ndJ:J.Nodup)(hJ:∀j∈J,j≠L/\j∉I):
 ∃kid rows b P N X,K= .sl kid 5 0 w.bs.length/\(∀t,(h++t)[kid]?=some (.row 5 rows))/\rows.length=w.bs.length/\w.bs[w.pos]?=some b/\rows[w.pos]?=some [P,N,.p (.int .i64 b.jump),.p (.int .i64 b.on),X]/\(P.cells=[P]/\P.isCell=true)/\(N.cells=[N]/\N.isCell=true)/\(X.cells=[X]/\X.isCell=true)/\kid<h.length/\
  ((N= .nils/\b.ins=[]/\∀os,LR mk L (w.put x) (I++J) h ((h++(os++[AO.row 4 [[.p (.int .i64 x.op),.p (.int .i64 x.to),A,.p (.int .i64 x.n)]]])).set kid (AO.row 5 (rows.set w.pos [P,.sl (h.length+os.length) 4 0 1,.p (.int .i64 b.jump),.p (.int .i64 b.on),X]))))\/
   ∃iid rowsN,N= .sl iid 4 0 b.ins.length/\(∀t,(h++t)[iid]?=some (.row 4 rowsN))/\rowsN.length=b.ins.length/\iid<h.length/\iid≠kid/\
    ∀os,LR mk L (w.put x) (I++J) h (((h++os).set iid .dead++[AO.row 4 (rowsN++[[.p (.int .i64 x.op),.p (.int .i64 x.to),A,.p (.int .i64 x.n)]])]).set kid (AO.row 5 (rows.set w.pos [P,.sl (h.length+os.length) 4 0 (b.ins.length+1),.p (.int .i64 b.jump),.p (.int .i64 b.on),X])))):=by
 obtain⟨kid,rows,b,P,N,X,IP,IN,IX,rfl,hkI,hrow,hlen,hb,hcur,hNc0,hP,hN,hX,hnd,hsub,hkL,close⟩:=H.modB hp
 have hkl:kid<h.length:=(Wy.1 hrow).1
 have hLl:=H.lt
 have hbs:(w.put x).bs=w.bs.set w.pos (b.put x):=ry hb
 have hmkw:∀K,mk (w.put x) K=mk w K:=λK=>hmk _ _ K rfl rfl
 simp only[Xx,WE] at hnd hsub
 have hPlt:=λj hj=>hP.lt (i:=j) hj
 have hXlt:=λj hj=>hX.lt (i:=j) hj
 have hxcs:x.cs=[.int .i64 x.op,.int .i64 x.to,bF x.args,.int .i64 x.n]:=rfl
 refine⟨kid,rows,b,P,N,X,rfl,λt=>by rw[Wx hkl];exact hrow,hlen,hb,hcur,gC hP,gC hN,gC hX,hkl,?_⟩
 rw[show inL b.ins= .lst 4 (b.ins.map Ii.cs) from rfl] at hN
 have hfin:∀(h2:List AO) (nid n:Nat) (IN':List Nat),h2[kid]?=some (.row 5 (rows.set w.pos [P,.sl nid 4 0 n,.p (.int .i64 b.jump),.p (.int .i64 b.on),X]))->(∀j,j<h.length->j≠kid->j∉IN->h2[j]?=h[j]?)->h.length<=h2.length->OwnL false h2 [.sl nid 4 0 n] [inL (b.ins++[x])] IN'->IN'.Nodup->(∀j∈IN',j∈IN\/j∈J\/h.length<=j)->
  LR mk L (w.put x) (I++J) h h2:=by
  intro h2 nid n IN' k1 k2 k3 k4 k5 k6
  have hgt:∀j,h.length<=j->j≠L/\j∉I:=λj hj=>⟨by omega,λhm=>by have:=H.own.lt hm;omega⟩
  obtain⟨I',a1,a2,a3⟩:=close h2 _ (b.put x) (IP++(IN'++IX)) (w.put x) k1 (λj hj h1 h2 h3=>k2 j hj h2 λhm=>h3 (by simp[hm])) k3 (by
   rw[hmkw,k2 L hLl (λe=>hkL e.symm) λhm=>(hsub L (.inr (.inl hm))).2.2 rfl];exact H.here)
   (Hb (b:=b.put x) (hP.frame λj hj=>k2 j (hPlt j hj) (hsub j (.inl hj)).2.1 λhm=>hnd.2.2 j hj j (.inl hm) rfl) k4 (hX.frame λj hj=>k2 j (hXlt j hj) (hsub j (.inr (.inr hj))).2.1 λhm=>hnd.2.1.2.2 j hm j hj rfl))
   (by
     simp only[Xx,WE]
     refine⟨hnd.1,⟨k5,hnd.2.1.2.1,λa ha c hc e=>?_⟩,λa ha c hc e=>?_⟩
     ·subst e
      rcases k6 a ha with h|h|h
      ·exact hnd.2.1.2.2 a h a hc rfl
      ·exact(hJ a h).2 (hsub a (.inr (.inr hc))).1
      ·have:=hXlt a hc;omega
     ·subst e
      rcases hc with hc|hc
      ·rcases k6 a hc with h|h|h
       ·exact hnd.2.2 a ha a (.inl h) rfl
       ·exact(hJ a h).2 (hsub a (.inl ha)).1
       ·have:=hPlt a ha;omega
      ·exact hnd.2.2 a ha a (.inr hc) rfl)
   (λj hj=>by
     simp only[WE] at hj⊢
     rcases hj with hj|hj|hj
     ·exact .inl (.inl hj)
     ·rcases k6 j hj with h|h|h
      ·exact .inl (.inr (.inl h))
      ·exact .inr (hJ j h)
      ·exact .inr (hgt j h)
     ·exact .inl (.inr (.inr hj))) hbs (by simp)
  refine⟨_,I',a1,⟨a2.1,λi hi hn=>a2.2 i hi λhm=>hn ?_⟩,λj hj=>?_⟩
  ·rcases WC.1 hm with rfl|hm
   ·simp
   ·simp[hm]
  ·rcases a3 j hj with h|h
   ·exact .inl (by simp[h])
   ·simp only[WE] at h⊢
    rcases h with h|h|h
    ·exact .inl (.inl (hsub j (.inl h)).1)
    ·rcases k6 j h with h|h|h
     ·exact .inl (.inl (hsub j (.inr (.inl h))).1)
     ·exact .inl (.inr h)
     ·exact .inr h
    ·exact .inl (.inl (hsub j (.inr (.inr h))).1)
 have hxO:∀h2,OwnL false h2 [A] [bF x.args] J->OwnL false h2 [.p (.int .i64 x.op),.p (.int .i64 x.to),A,.p (.int .i64 x.n)] x.cs J:=λh2 hA2=>by
  rw[hxcs]
  have:=hA2.app (OwnL.p (.int .i64 x.n) (λ_=>rfl) (OwnL.nil (s:=false) (h:=h2)))
  rw[WT] at this
  exact .p _ (λ_=>rfl) (.p _ (λ_=>rfl) this)
 have hkJ:kid∉J:=λhm=>(hJ kid hm).2 hkI
 have hJlt:=λj hj=>hA.lt (i:=j) hj
 rcases hN.inv hnd.2.1.1 with⟨h0,rfl,hNc⟩|⟨_,hh,_⟩|⟨iid,rowsN,JN,rfl,rfl,hr⟩
 ·have hi0:b.ins=[]:=List.map_eq_nil_iff.1 h0
  refine .inl ⟨hNc.resolve_right (hNc0 _),hi0,λos=>?_⟩
  have hl2:(h++(os++[AO.row 4 [[.p (.int .i64 x.op),.p (.int .i64 x.to),A,.p (.int .i64 x.n)]]])).length=h.length+os.length+1:=by simp;omega
  have hrow4:RowOwn false ((h++(os++[AO.row 4 [[.p (.int .i64 x.op),.p (.int .i64 x.to),A,.p (.int .i64 x.n)]]])).set kid (AO.row 5 (rows.set w.pos [P,.sl (h.length+os.length) 4 0 1,.p (.int .i64 b.jump),.p (.int .i64 b.on),X]))) (h.length+os.length) 4 [[.p (.int .i64 x.op),.p (.int .i64 x.to),A,.p (.int .i64 x.n)]] [x.cs] J:=by
   refine⟨?_,rfl,by simp,by simp[hxcs],?_,?_⟩
   ·rw[WB (by omega),←Xi,WD (by simp)];simp
   ·rw[List.flatten_singleton,List.flatten_singleton]
    exact hxO _ ((hA.more _).set_out hkJ _)
   ·rw[WW];exact⟨λhm=>by have:=hJlt _ hm;omega,ndJ⟩
  refine hfin _ (h.length+os.length) 1 ((h.length+os.length)::J) (WH (by omega)) (λj hj h1 _=>by rw[WB (Ne.symm h1),Wx hj]) (by rw[Xq];omega) (by
   rw[hi0];exact hrow4.tree rfl) hrow4.nd (λj hj=>?_)
  rcases WC.1 hj with rfl|hj
  ·exact .inr (.inr (by omega))
  ·exact .inr (.inl hj)
 ·exact(hNc0 _ hh).elim
 ·have hiI:iid∈I:=(hsub iid (.inr (.inl (by simp)))).1
  have hik:iid≠kid:=(hsub iid (.inr (.inl (by simp)))).2.1
  have hil:=hr.lt
  have hlenN:=hr.len
  rw[Xc] at hlenN
  refine .inr ⟨iid,rowsN,by rw[Xc],λt=>by rw[Wx hil];exact hr.here,hlenN,hil,hik,λos=>?_⟩
  have hJN:∀j∈J,j≠iid/\j∉JN:=λj hj=>⟨λe=>(hJ j hj).2 (e▸hiI),λhm=>(hJ j hj).2 (hsub j (.inr (.inl (by simp[hm])))).1⟩
  have hra:=Hn hr (h2:=h++os) rfl (rs:=[[.p (.int .i64 x.op),.p (.int .i64 x.to),A,.p (.int .i64 x.n)]]) (es:=[x.cs]) (I2:=J) (by
   rw[List.flatten_singleton,List.flatten_singleton];exact hxO _ (hA.more _)) rfl (by simp) (by simp[hxcs]) ndJ hJN
  have hl0:(h++os).length=h.length+os.length:=by simp
  rw[hl0] at hra
  have hkn:kid∉(h.length+os.length)::(JN++J):=by
   simp only[WC,WE,not_or]
   exact⟨by omega,λhm=>(hsub kid (.inr (.inl (by simp[hm])))).2.1 rfl,hkJ⟩
  have hra2:=hra.frame (h':=((h++os).set iid .dead++[AO.row 4 (rowsN++[[.p (.int .i64 x.op),.p (.int .i64 x.to),A,.p (.int .i64 x.n)]])]).set kid (AO.row 5 (rows.set w.pos [P,.sl (h.length+os.length) 4 0 (b.ins.length+1),.p (.int .i64 b.jump),.p (.int .i64 b.on),X]))) (λi hi=>WB λe=>hkn (by rw[e];exact hi))
  refine hfin _ (h.length+os.length) (b.ins.length+1) ((h.length+os.length)::(JN++J)) (WH (by simp;omega)) (λj hj h1 h2=>?_) (by simp;omega) (by
   rw[show inL (b.ins++[x])= .lst 4 (b.ins.map Ii.cs++[x.cs]) by simp[inL]]
   exact hra2.tree (by simp)) hra2.nd (λj hj=>?_)
  ·rw[WB (Ne.symm h1),Wx (by simp;omega),WB (λe=>h2 (by simp[←e])),Wx hj]
  ·simp only[WC,WE] at hj⊢
   rcases hj with rfl|hj|hj
   ·exact .inr (.inr (by omega))
   ·exact .inl (.inr hj)
   ·exact .inr (.inl hj)
theorem LS.finAt(hmk:MkF mk)(H:LS mk L w h K I)(hp:w.pos<w.bs.length):
 ∃kid rows b P N X,K= .sl kid 5 0 w.bs.length/\(∀t,(h++t)[kid]?=some (.row 5 rows))/\rows.length=w.bs.length/\w.bs[w.pos]?=some b/\rows[w.pos]?=some [P,N,.p (.int .i64 b.jump),.p (.int .i64 b.on),X]/\(P.cells=[P]/\P.isCell=true)/\(N.cells=[N]/\N.isCell=true)/\(X.cells=[X]/\X.isCell=true)/\kid<h.length/\kid≠L/\
  ∀(j o:Int) (g:Nat) (nx:List Int) (V:AV) (J:List Nat),OwnL false h [V] [bF nx] J->J.Nodup->(∀j∈J,j≠L/\j∉I)->
   LR mk L (w.fin j o g nx) (I++J) h ((h.set kid (AO.row 5 (rows.set w.pos [P,N,.p (.int .i64 j),.p (.int .i64 o),V]))).set L (mk (w.fin j o g nx) K)):=by
 obtain⟨kid,rows,b,P,N,X,IP,IN,IX,rfl,hkI,hrow,hlen,hb,hcur,hNc0,hP,hN,hX,hnd,hsub,hkL,close⟩:=H.modB hp
 have hkl:kid<h.length:=(Wy.1 hrow).1
 have hLl:=H.lt
 simp only[Xx,WE] at hnd hsub
 refine⟨kid,rows,b,P,N,X,rfl,λt=>by rw[Wx hkl];exact hrow,hlen,hb,hcur,gC hP,gC hN,gC hX,hkl,hkL,λj o g nx V J hV ndJ hJ=>?_⟩
 have hbs:(w.fin j o g nx).bs=w.bs.set w.pos (b.fin j o nx):=ry hb
 have hkJ:kid∉J:=λhm=>(hJ kid hm).2 hkI
 have hLJ:L∉J:=λhm=>(hJ L hm).1 rfl
 have hfr:∀i,i≠kid->i≠L->((h.set kid (AO.row 5 (rows.set w.pos [P,N,.p (.int .i64 j),.p (.int .i64 o),V]))).set L (mk (w.fin j o g nx) (.sl kid 5 0 w.bs.length)))[i]?=h[i]?:=λi h1 h2=>by
  rw[WB (Ne.symm h2),WB (Ne.symm h1)]
 obtain⟨I',a1,a2,a3⟩:=close _ _ (b.fin j o nx) (IP++(IN++J)) (w.fin j o g nx) (by rw[WB (Ne.symm hkL)];exact WH hkl) (λi hi h1 h2 h3=>hfr i h2 h1) (by simp) (WH (by simpa using hLl))
  (Hb (b:=b.fin j o nx) (hP.frame λi hi=>hfr i (hsub i (.inl hi)).2.1 (hsub i (.inl hi)).2.2) (hN.frame λi hi=>hfr i (hsub i (.inr (.inl hi))).2.1 (hsub i (.inr (.inl hi))).2.2) (hV.frame λi hi=>hfr i (λe=>hkJ (e▸hi)) (hJ i hi).1))
  (by
    simp only[Xx,WE]
    refine⟨hnd.1,⟨hnd.2.1.1,ndJ,λa ha c hc e=>?_⟩,λa ha c hc e=>?_⟩
    ·subst e;exact(hJ a hc).2 (hsub a (.inr (.inl ha))).1
    ·subst e
     rcases hc with hc|hc
     ·exact hnd.2.2 a ha a (.inl hc) rfl
     ·exact(hJ a hc).2 (hsub a (.inl ha)).1)
  (λi hi=>by
    simp only[WE] at hi⊢
    rcases hi with hi|hi|hi
    ·exact .inl (.inl hi)
    ·exact .inl (.inr (.inl hi))
    ·exact .inr (hJ i hi)) hbs (by simpa using hNc0)
 refine⟨_,I',a1,⟨a2.1,λi hi hn=>a2.2 i hi λhm=>hn ?_⟩,λi hi=>?_⟩
 ·rcases WC.1 hm with rfl|hm
  ·simp
  ·simp[hm]
 ·rcases a3 i hi with h|h
  ·exact .inl (by simp[h])
  ·simp only[WE] at h⊢
   rcases h with h|h|h
   ·exact .inl (.inl (hsub i (.inl h)).1)
   ·exact .inl (.inl (hsub i (.inr (.inl h))).1)
   ·exact .inl (.inr h)
theorem LS.nameAt(H:LS mk L w h K I)(hp:0<w.bs.length)(n:Nat)(os:List AO):
 ∃kid rows,K= .sl kid 5 0 w.bs.length/\(∀t,(h++t)[kid]?=some (.row 5 rows))/\rows.length=w.bs.length/\kid<h.length/\kid≠L/\
  LR mk L (w.name n) I h (((h++os).set kid .dead++[AO.row 5 (rows++List.replicate n [.nils,.nils,.p (.int .i64 0),.p (.int .i64 0),.nils])]).set L (mk (w.name n) (.sl (h.length+os.length) 5 0 (w.bs.length+n)))):=by
 obtain⟨kid,rows,J,rfl,rfl,hr⟩:=H.rows hp
 have hkl:=hr.lt
 have hLl:=H.lt
 have hlen:=hr.len
 rw[Xc] at hlen
 have hnd:=H.nd
 simp only[WW,WC,not_or] at hnd
 refine⟨kid,rows,rfl,λt=>by rw[Wx hkl];exact hr.here,hlen,hkl,λe=>hnd.1.1 e.symm,?_⟩
 have hra:=Hn hr (h2:=h++os) rfl (rs:=List.replicate n [.nils,.nils,.p (.int .i64 0),.p (.int .i64 0),.nils]) (es:=List.replicate n bk0.cs) (I2:=[]) (Dw _ n) (by simp) (λe he=>by rw[(List.mem_replicate.1 he).2];rfl) (λe he=>by rw[(List.mem_replicate.1 he).2];rfl) List.nodup_nil (λj hj=>by cases hj)
 have hl0:(h++os).length=h.length+os.length:=by simp
 rw[hl0,WT] at hra
 have hra2:=hra.frame (h':=(((h++os).set kid .dead++[AO.row 5 (rows++List.replicate n [.nils,.nils,.p (.int .i64 0),.p (.int .i64 0),.nils])]).set L (mk (w.name n) (.sl (h.length+os.length) 5 0 (w.bs.length+n))))) (λi hi=>WB λe=>by
  subst e
  rcases WC.1 hi with h|h
  ·omega
  ·exact hnd.1.2 h)
 refine⟨_,(h.length+os.length)::J,⟨WH (by simp;omega),?_,?_,?_⟩,⟨by simp;omega,λi hi hn=>?_⟩,λj hj=>?_⟩
 ·rw[show bkL (w.name n).bs= .lst 5 (w.bs.map Bk.cs++List.replicate n bk0.cs) by simp[bkL,Lw.name]]
  exact hra2.tree (by simp)
 ·simp only[WW,WC,not_or]
  exact⟨⟨by omega,hnd.1.2⟩,WW.1 hra.nd⟩
 ·refine⟨λq e=>(by cases e),?_⟩
  intro kid2 n2 rows2 eK hg2 r hr2
  cases eK
  rw[hra2.here] at hg2
  cases hg2
  rcases WE.1 hr2 with h1|h1
  ·exact H.noc.2 kid _ rows rfl hr.here r h1
  ·rw[(List.mem_replicate.1 h1).2];simp
 ·simp only[WC,not_or] at hn
  rw[WB (Ne.symm hn.1),Wx (by simp;omega),WB (Ne.symm hn.2.1),Wx hi]
 ·rcases WC.1 hj with rfl|hj
  ·exact .inr (by omega)
  ·exact .inl (by simp[hj])
end
end
section
theorem ew{α:Type}{p:α->Bool}{xs:List α}{i:Nat}(h:i<xs.length):(xs.take (i+1)).all p=((xs.take i).all p&&p xs[i]):=by
 rw[aq h,List.all_append];simp
theorem oh{α:Type}{p:α->Bool}{xs:List α}{i:Nat}(h:i<xs.length)(hp:p xs[i]=false):xs.all p=false:=
 List.all_eq_false.2 ⟨_,WN h,by simp[hp]⟩
theorem ij{α:Type}{p:α->Bool}{xs:List α}{i:Nat}(h:xs.length<=i)(ht:(xs.take i).all p=true):xs.all p=true:=by
 rwa[WF h] at ht
def sh:AK:=qd [yx 2 4,xt] (ye [wR 10 2,qp 11 10,xa 12 jF 11,qf 9 12,xj 13 0 9,xj 14 1 9,qf 5 13,qf 6 14] [xq 15,qy 16 .lss 15 1,qf 17 16,wX 18 17 0 2,wV 19 17 18,yg 20 17 (xU 19 wP (qj 13)),ya 21 17 20,xw 22 17 21,qf 23 22,wX 24 23 3 2,wV 25 23 24,qG 26 23 (qY 25),xe 27 23 5,xe 28 23 6,yg 29 23 (xU 26 (.t 27) (.t 28)),ya 30 23 29,xw 31 23 30] 31 [xt] (yp (.reg [wR 32 2,qp 33 32,we 34 33 2,qf 35 34,wX 36 35 0 2,wV 37 35 36,xH 38 35 .eql 37 (qj 13),xw 39 35 38,qf 7 39]) (wl [yE 40,xo 41 2,qp 42 41,xa 43 cG 42,qb 44 (.beq true (.t 40) (.t 43)),qf 45 44,xe 46 45 7,ya 47 45 46,xe 48 45 47,wS 49 48 2 2,wM 50 48 49,qH 51 48 (yv .neq 50 yU),qG 52 45 (qL 48 (.t 51) qP),xw 53 45 52,qf 54 53,wX 55 54 1 2,wV 56 54 55,yg 57 54 (xU 56 ww (qj 255)),ya 58 54 57,xw 59 54 58,qf 60 59,wX 61 60 0 2,wV 62 60 61,xH 63 60 .neq 62 wP,xe 64 60 63,wS 65 64 1 2,wM 66 64 65,xm 67 64 .neq 66 ww,qG 68 60 (qL 64 (.t 67) qP),xw 69 60 68] 69 [xt]) (yW (x9 [wQ 8] 0 [yr 70,ym 71 2,qp 72 71,wa 73 72,wJ 74 70 73] 74 wv 1 (wl [ym 77 2,qp 78 77,yr 79,wq 80 4 78 79,yS 81 80,xq 82,xx 83 82 1,wE 84 gb 81 83,xd 85 84] 85 [xt]) (yr 75) 76 75 8 76) [qc 4 wu])))
theorem Cu:AK.whole sh=FK.ak jK:=rfl
def sn:AK:=qd [yx 2 5,xt] (yp (wl [xq 7,qy 8 .lss 7 1,yr 9,wX 10 9 0 2,wV 11 9 10,yg 12 9 (xU 11 wP (qj 8)),ya 13 9 12,xw 14 9 13,qf 15 14,wX 16 15 2 2,wX 19 15 0 2,wV 17 15 16,qG 18 15 (qY 17),wV 20 15 19,qG 21 15 (.qcall jw (wZ 20)),xH 22 15 .neq 18 (.t 21),xw 23 15 22] 23 [xt]) (.reg [wR 24 2,qp 25 24,we 26 25 1,qf 27 26,wX 28 27 0 2,wV 29 27 28,xH 30 27 .eql 29 xK,xw 31 27 30,qf 5 31]) (.cut (wl [xf 32,xu 33 2,qp 34 33,xa 35 cG 34,qb 36 (.beq true (.t 32) (.t 35)),qf 37 36,xe 38 37 5,ya 39 37 38,xe 40 37 39,wS 41 40 1 2,wM 42 40 41,qH 43 40 (yv .neq 42 yU),qG 44 37 (qL 40 (.t 43) qP),xw 45 37 44] 45 [xt]) (.seq (x9 [wQ 6] 0 [yf 46,xo 47 2,qp 48 47,wa 49 48,wJ 50 46 49] 50 wv 1 (wl [xo 53 2,qp 54 53,yf 55,wq 56 4 54 55,yS 57 56,xa 58 fp 57,xd 59 58] 59 [xt]) (yf 51) 52 51 6 52) (yp (wl [wR 60 2,qp 61 60,we 62 61 8,qf 63 62,wS 64 63 2 2,wM 65 63 64,qH 66 63 (qO 4 65 ww),wS 67 63 0 66,wM 68 63 67,xm 69 63 .neq 68 (qj 13),xX 70 63 69] 70 [xt]) (wl [qq 71 4 2,qp 72 71,wa 73 72,qy 74 .gtr 73 0,qf 75 74,wS 76 75 0 2,wM 77 75 76,xm 78 75 .neq 77 (qj 5),xX 79 75 78,qf 80 79,wX 81 80 3 2,wV 82 80 81,qG 83 80 (qY 82),xH 84 80 .gtr 83 ww,xe 85 80 84,wS 86 85 0 2,wM 87 85 86,xm 88 85 .neq 87 (qj 5),qG 89 80 (qL 85 (.t 88) qP),xe 90 80 89,wS 91 90 0 2,wM 92 90 91,xm 93 90 .neq 92 (qj 6),qG 94 80 (qL 90 (.t 93) qP),xw 95 80 94] 95 [xt]) (qA [ym 96 2,qp 97 96,xq 98,xx 99 98 1,wE 100 ca 97 99,qf 101 100,wS 102 101 4 2,wM 103 101 102,xQ 104 101 1,xm 105 101 .sub 104 wP,yM 106 101 ca (wB 103 (.t 105)),xX 107 101 106,qf 4 107])))))
theorem CK:AK.whole sn=FK.ak jA:=rfl
variable (G:aK)
theorem dh(n lo hi:Int):VF Tryz.prog G bt [.p (.int .i64 n),.p (.int .i64 lo),.p (.int .i64 hi)] (.p (.bool (inR n lo hi))):=by
 refine AC.go Fq ?_
 by_cases h:lo<=n
 ·simp-implicitDefEqProofs[pO,h,inR]
 ·simp-implicitDefEqProofs[pO,h,inR]
theorem FT(op:Int):VF Tryz.prog G jF [.p (.int .i64 op)] (.tup [.p (.int .i64 (loK op)),.p (.int .i64 (hiK op))]):=by
 refine AC.go CB ?_
 by_cases h1:op=1
 ·subst h1;simp-implicitDefEqProofs[dv,loK,hiK]
 by_cases h2:op=2
 ·subst h2;simp-implicitDefEqProofs[dv,loK,hiK]
 by_cases h3:op=11
 ·subst h3;simp-implicitDefEqProofs[dv,loK,hiK]
 by_cases h4:op=12
 ·subst h4;simp-implicitDefEqProofs[dv,loK,hiK]
 by_cases h5:op=13
 ·subst h5;simp-implicitDefEqProofs[dv,loK,hiK]
 simp-implicitDefEqProofs[dv,loK,hiK,h1,h2,h3,h4,h5]
theorem ND:∀(d:Nat) (e:Ex),e.sz<=1099511627776->d<=1000->VF Tryz.prog G gb [.agg (e.cs.map .p),.p (.int .i64 d)] (.p (.bool (bP d e))):=by
 intro d
 induction d with
 |zero=>
  intro e he _
  refine AC.go sr ?_
  simp-implicitDefEqProofs[jK,Ex.cs_eq]
  refine(FT G _).use ?_
  simp-implicitDefEqProofs[bP]
 |succ d ih=>
  intro e he hd
  have hsz:=e.sz_eq
  have hkl:=bL e.kids
  refine AC.goK sr Cu ?_
  have hd1:¬(d:Int)+1<1:=by omega
  have hw:IntKind.i64.wrap ((d:Int)+1-1)=(d:Int):=by rw[show(d:Int)+1-1=d by omega];exact ab (by omega) (by omega)
  have hw':IntKind.i64.wrap (d:Int)=(d:Int):=ab (by omega) (by omega)
  have hxl:∀l,exL l= .lst 4 (l.map Ex.cs):=λ_=>rfl
  simp-implicitDefEqProofs[sh,jK,Ex.cs_eq]
  refine(FT G _).use ?_
  simp-implicitDefEqProofs[hd1]
  refine(dh G _ _ _).use ?_
  by_cases h1:inR e.op 1 13=true
  case neg=>simp-implicitDefEqProofs[h1,bP,lO]
  simp-implicitDefEqProofs[h1,hxl]
  refine(dh G _ _ _).use ?_
  by_cases h2:inR e.kids.length (loK e.op) (hiK e.op)=true
  case neg=>simp-implicitDefEqProofs[h2,bP,lO]
  simp-implicitDefEqProofs[h2]
  refine pg (az 86 [(1,.p (.int .i64 (d+1))),(2,.ptr 0 4 0 0),(7,.p (.bool (GB e.op)))]) [.row 4 [[.p (.int .i64 e.op),.p (.int .i64 e.n),.p (.str e.name),.p (.lst 4 (e.kids.map Ex.cs))]]] ?_ ?_
  ·by_cases o2:e.op=2
   ·simp-implicitDefEqProofs[o2]
    exact an (by simp) (by simp[okO]) (by simp[below,GB])
   ·by_cases o13:e.op=13
    ·simp-implicitDefEqProofs[o13]
     exact an (by simp) (by simp[okO]) (by simp[below,GB])
    ·simp-implicitDefEqProofs[o2,o13]
     exact an (by simp) (by simp[okO]) (by simp[below,GB,o2,o13])
  have hn:e.name.length<=140737488355328:=by omega
  refine lV (λ_:Unit=>az 86 [(1,.p (.int .i64 ((d:Int)+1))),(2,.ptr 0 4 0 0)]) (λ_=>[.row 4 [[.p (.int .i64 e.op),.p (.int .i64 e.n),.p (.str e.name),.p (.lst 4 (e.kids.map Ex.cs))]]]) (λ_=>lO e=true) ?_ ?_
  ·simp-implicitDefEqProofs[]
   refine(uw G _ hn).use ?_
   simp-implicitDefEqProofs[]
   repeat' first
    |(refine(dh G _ _ _).use ?_;simp-implicitDefEqProofs[])
    |(refine aO (λhc=>?_) (λhc=>?_)<;>simp-implicitDefEqProofs[hc])
   all_goals first
    |exact⟨by simp_all [lO],an (by simp) (by simp[okO]) (by simp[below])⟩
    |simp_all [bP,lO]
  intro _ hh
  simp-implicitDefEqProofs[]
  refine aN (λi:Nat=>az 86 [(1,.p (.int .i64 ((d:Int)+1))),(2,.ptr 0 4 0 0),(8,.p (.int .i64 i))]) (λ_=>[.row 4 [[.p (.int .i64 e.op),.p (.int .i64 e.n),.p (.str e.name),.p (.lst 4 (e.kids.map Ex.cs))]]])
   (λi=>i<=e.kids.length/\(e.kids.take i).all (bP d)=true) (λi=>e.kids.length-i) 0 (by simp) (an (by simp) (by simp[okO]) (by simp[below])) ?_
  intro i ⟨hi,hall⟩
  simp-implicitDefEqProofs[]
  refine aO (λh=>?_) (λh=>?_)
  ·simp at h
   have hg:=Wz h
   have hks:=cQ (WN h)
   simp-implicitDefEqProofs[hg,hw']
   refine(ih e.kids[i] (by omega) (by omega)).use ?_
   by_cases hk:bP d e.kids[i]=true
   ·simp-implicitDefEqProofs[hk]
    refine⟨i+1,⟨h,by rw[←WI,ew h,hall,hk];rfl⟩,by omega,an (by simp) (by simp[okO]) ?_⟩
    simp[below,w1 (i:=i) (by omega)]
   ·have hk':bP d e.kids[i]=false:=by simpa using hk
    have hf:bP (d+1) e=false:=by simp only[bP,oh h hk',Bool.and_false]
    simp-implicitDefEqProofs[hk',hf]
  ·simp at h
   have hf:bP (d+1) e=true:=by simp only[bP,ij h hall,hh,Bool.and_self]
   simp-implicitDefEqProofs[hf]
theorem Ly{l:List Ex}{i:Nat}(h:i<l.length):gL (l.take (i+1))=gL (l.take i)+l[i].parts:=by
 rw[aq h,jR];simp[gL]
theorem DJ(l:List Ex)(i:Nat):gL (l.take i)<=gL l:=by
 have:=jR (l.take i) (l.drop i)
 rw[Xj] at this
 omega
theorem Kh:∀(k:Nat) (e:Ex),e.sz<=k->k<=1099511627776->VF Tryz.prog G iq [.agg (e.cs.map .p)] (.p (.int .i64 e.parts)):=by
 intro k
 induction k with
 |zero=>intro e he;have:=e.sz_eq;omega
 |succ k ih=>
  intro e he hk
  have hsz:=e.sz_eq
  have hkl:=bL e.kids
  have hpe:=e.parts_eq
  have hpz:=Ep e.kids
  refine AC.go AG ?_
  have hxl:∀l,exL l= .lst 4 (l.map Ex.cs):=λ_=>rfl
  simp-implicitDefEqProofs[pS,Ex.cs_eq,hxl]
  refine aN (λi:Nat=>az 21 [(1,.ptr 0 4 0 0),(3,.p (.int .i64 ((1+gL (e.kids.take i):Nat):Int))),(4,.p (.int .i64 i))]) (λ_=>[.row 4 [[.p (.int .i64 e.op),.p (.int .i64 e.n),.p (.str e.name),.p (.lst 4 (e.kids.map Ex.cs))]]])
   (λi=>i<=e.kids.length) (λi=>e.kids.length-i) 0 (by simp) (an (by simp) (by simp[okO]) (by simp[below,gL])) ?_
  intro i hi
  simp-implicitDefEqProofs[]
  refine aO (λh=>?_) (λh=>?_)
  ·simp at h
   have hg:=Wz h
   have hks:=cQ (WN h)
   have hps:=Ly h
   have hple:=DJ e.kids (i+1)
   simp-implicitDefEqProofs[hg]
   refine(ih e.kids[i] (by omega) (by omega)).use ?_
   have hw:IntKind.i64.wrap (1+(gL (e.kids.take i):Int)+(e.kids[i].parts:Int))=((1+gL (e.kids.take (i+1)):Nat):Int):=by rw[ab (by omega) (by omega)];omega
   simp-implicitDefEqProofs[hw]
   exact⟨i+1,h,by omega,an (by simp) (by simp[okO]) (by simp[below,w1 (i:=i) (by omega)])⟩
  ·simp at h
   rw[WF h]
   simp-implicitDefEqProofs[]
   omega
theorem FM(e:Ex)(he:e.sz<=1099511627776):VF Tryz.prog G fp [.agg (e.cs.map .p)] (.p (.bool (lT e))):=by
 refine AC.go vj ?_
 simp-implicitDefEqProofs[nu]
 have h6:=ND G 6 e he (by omega)
 refine h6.use ?_
 by_cases h:bP 6 e=true
 ·simp-implicitDefEqProofs[h]
  refine(Kh G _ e (WK _) he).use ?_
  simp-implicitDefEqProofs[lT,h]
  omega
 ·simp-implicitDefEqProofs[h,lT]
theorem Mr(op:Int):VF Tryz.prog G jw [.p (.int .i64 op)] (.p (.int .i64 (jS op))):=by
 refine AC.go CJ ?_
 by_cases h:op=4
 ·simp-implicitDefEqProofs[mQ,h,jS]
 ·simp-implicitDefEqProofs[mQ,h,jS]
theorem vQ(d:Nat)(hd:d<=1000)(hs:∀s:Sm,s.sz<=1099511627776->VF Tryz.prog G jJ [.agg (s.cs.map .p),.p (.int .i64 d)] (.p (.bool (aJ d s))))(l:List Sm)(hl:aC l<=1099511627776):
 VF Tryz.prog G ca [.p (smL l),.p (.int .i64 d)] (.p (.bool (l.all (aJ d)))):=by
 refine AC.go Cc ?_
 have hll:=bE l
 have hsl:∀l,smL l= .lst 5 (l.map Sm.cs):=λ_=>rfl
 simp-implicitDefEqProofs[pZ]
 refine aN (λi:Nat=>az 19 [(0,.p (smL l)),(1,.p (.int .i64 d)),(5,.p (.int .i64 i))]) (λ_=>[]) (λi=>i<=l.length/\(l.take i).all (aJ d)=true) (λi=>l.length-i) 0 (by simp) (cC rfl (by simp[below,hsl])) ?_
 intro i ⟨hi,hall⟩
 simp-implicitDefEqProofs[hsl]
 refine aO (λh=>?_) (λh=>?_)
 ·simp at h
  have hg:=Wz h
  have hks:=fe (WN h)
  simp-implicitDefEqProofs[hg]
  refine(hs l[i] (by omega)).use ?_
  by_cases hk:aJ d l[i]=true
  ·simp-implicitDefEqProofs[hk]
   exact⟨i+1,⟨h,by rw[←WI,ew h,hall,hk];rfl⟩,by omega,cC rfl (by simp[below,hsl,w1 (i:=i) (by omega)])⟩
  ·have hk':aJ d l[i]=false:=by simpa using hk
   have hf:=oh h hk'
   simp-implicitDefEqProofs[hk',hf]
 ·simp at h
  have hf:=ij h hall
  simp-implicitDefEqProofs[hf]
theorem NS:∀(d:Nat),d<=1000->∀s:Sm,s.sz<=1099511627776->VF Tryz.prog G jJ [.agg (s.cs.map .p),.p (.int .i64 d)] (.p (.bool (aJ d s))):=by
 intro d
 induction d with
 |zero=>
  intro _ s _
  refine AC.go su ?_
  simp-implicitDefEqProofs[jA,Sm.cs_eq,aJ]
 |succ d ih=>
  intro hd s he
  have hsz:=s.sz_eq
  have hal:=bL s.args
  have hbl:=bE s.body
  have hel:=bE s.els
  have ihs:=vQ G d (by omega) (ih (by omega))
  refine AC.goK su CK ?_
  have hd1:¬(d:Int)+1<1:=by omega
  have hw':IntKind.i64.wrap (d:Int)=(d:Int):=ab (by omega) (by omega)
  have hxl:∀l,exL l= .lst 4 (l.map Ex.cs):=λ_=>rfl
  have hsl:∀l,smL l= .lst 5 (l.map Sm.cs):=λ_=>rfl
  have hn:s.name.length<=140737488355328:=by omega
  simp-implicitDefEqProofs[sn,jA,Sm.cs_eq]
  generalize hH:[AO.row 5 [[AV.p (.int .i64 s.op),.p (.str s.name),.p (exL s.args),.p (smL s.body),.p (smL s.els)]]]=H
  have hho:∀o∈H,okO H.length o:=by rw[←hH];simp[okO]
  have hhl:0<H.length:=by rw[←hH];simp
  have hh0:H[0]?=some (AO.row 5 [[AV.p (.int .i64 s.op),.p (.str s.name),.p (exL s.args),.p (smL s.body),.p (smL s.els)]]):=by rw[←hH];rfl
  have hhL:H.length=1:=by rw[←hH];rfl
  refine lV (λ_:Unit=>az 108 [(1,.p (.int .i64 ((d:Int)+1))),(2,.ptr 0 5 0 0)]) (λ_=>H) (λ_=>inR s.op 1 8=true/\s.args.length=jS s.op) ?_ ?_
  ·simp-implicitDefEqProofs[hd1,hh0]
   refine(dh G _ _ _).use ?_
   by_cases h1:inR s.op 1 8=true
   case neg=>simp-implicitDefEqProofs[h1,aJ,fV]
   simp-implicitDefEqProofs[h1,hh0,hxl]
   refine(Mr G _).useQ ?_
   by_cases h2:s.args.length=jS s.op
   ·simp-implicitDefEqProofs[h2]
    exact an (by omega) hho (by simp[below,hhl])
   ·have h2':¬(s.args.length:Int)=(jS s.op:Int):=by omega
    simp-implicitDefEqProofs[h2,h2',aJ,fV]
  intro _ ⟨h1,h2⟩
  refine lV (λ_:Unit=>az 108 [(1,.p (.int .i64 ((d:Int)+1))),(2,.ptr 0 5 0 0),(5,.p (.bool (cL s.op)))]) (λ_=>H) (λ_=>True) ?_ ?_
  ·simp-implicitDefEqProofs[hh0]
   by_cases o1:s.op=1
   ·simp-implicitDefEqProofs[o1,hh0,cL]
    exact an (by omega) hho (by simp[below,hhl])
   ·by_cases o2:s.op=2
    ·simp-implicitDefEqProofs[o2,hh0,cL]
     exact an (by omega) hho (by simp[below,hhl])
    ·simp-implicitDefEqProofs[o1,o2,hh0,cL]
     exact an (by omega) hho (by simp[below,hhl])
  intro _ _
  refine lV (λ_:Unit=>az 108 [(1,.p (.int .i64 ((d:Int)+1))),(2,.ptr 0 5 0 0)]) (λ_=>H) (λ_=>(cL s.op==aP s.name)=true/\(cL s.op||decide (s.name=[]))=true) ?_ ?_
  ·simp-implicitDefEqProofs[hh0]
   refine(uw G _ hn).use ?_
   simp-implicitDefEqProofs[hh0]
   repeat' first
    |(refine aO (λhc=>?_) (λhc=>?_)<;>simp-implicitDefEqProofs[hc,hh0])
   all_goals first
    |exact an (by omega) hho (by simp[below,hhl])
    |exact⟨by simp_all,by simp_all,an (by omega) hho (by simp[below,hhl])⟩
    |exact⟨by simp_all,an (by omega) hho (by simp[below,hhl])⟩
    |(simp_all [aJ,fV];done)
  intro _ ⟨h3,h4⟩
  simp-implicitDefEqProofs[]
  refine aN (λi:Nat=>az 108 [(1,.p (.int .i64 ((d:Int)+1))),(2,.ptr 0 5 0 0),(6,.p (.int .i64 i))]) (λ_=>H) (λi=>i<=s.args.length/\(s.args.take i).all lT=true) (λi=>s.args.length-i) 0 (by simp) (an (by omega) hho (by simp[below,hhl])) ?_
  intro i ⟨hi,hall⟩
  simp-implicitDefEqProofs[hh0,hxl]
  refine aO (λh=>?_) (λh=>?_)
  ·simp at h
   have hg:=Wz h
   have hks:=cQ (WN h)
   simp-implicitDefEqProofs[hg,hh0,hxl]
   refine(FM G s.args[i] (by omega)).use ?_
   by_cases hk:lT s.args[i]=true
   ·simp-implicitDefEqProofs[hk]
    exact⟨i+1,⟨h,by rw[←WI,ew h,hall,hk];rfl⟩,by omega,an (by omega) hho (by simp[below,hhl,w1 (i:=i) (by omega)])⟩
   ·have hk':lT s.args[i]=false:=by simpa using hk
    have hf:aJ (d+1) s=false:=by simp only[aJ,fV,oh h hk',Bool.and_false,Bool.false_and]
    simp-implicitDefEqProofs[hk',hf]
  simp at h
  have h5:s.args.all lT=true:=ij h hall
  have hlen1:1<=s.args.length:=by rw[h2];unfold jS;split<;>omega
  obtain⟨a0,ar,ha⟩:∃a r,s.args=a::r:=by
   cases hh:s.args with
   |nil=>rw[hh] at hlen1;simp at hlen1
   |cons a r=>exact⟨a,r,rfl⟩
  have ha0:s.args[0]?=some a0:=by rw[ha];rfl
  refine lV (λ_:Unit=>az 108 [(1,.p (.int .i64 ((d:Int)+1))),(2,.ptr 0 5 0 0)]) (λ_=>H) (λ_=>(!decide (s.op=8)||decide (a0.op=13))=true) ?_ ?_
  ·simp-implicitDefEqProofs[hh0]
   by_cases o8:s.op=8
   ·have hae:=a0.cs_eq
    simp-implicitDefEqProofs[o8,hh0,hxl,ha0,hae]
    refine aO (λhc=>?_) (λhc=>?_)
    ·simp at hc
     have hf:aJ (d+1) s=false:=by simp[aJ,fV,o8,ha,hc]
     simp-implicitDefEqProofs[hf]
    ·simp at hc
     simp-implicitDefEqProofs[hc]
     exact an (by omega) hho (by simp[below,hhl])
   ·simp-implicitDefEqProofs[o8,hh0]
    exact an (by omega) hho (by simp[below,hhl])
  intro _ h6
  refine lV (λ_:Unit=>az 108 [(1,.p (.int .i64 ((d:Int)+1))),(2,.ptr 0 5 0 0)]) (λ_=>H) (λ_=>(s.els.isEmpty||decide (s.op=5))=true/\(s.body.isEmpty||decide (s.op=5)||decide (s.op=6))=true) ?_ ?_
  ·have hf:¬((s.els.isEmpty||decide (s.op=5))=true/\(s.body.isEmpty||decide (s.op=5)||decide (s.op=6))=true)->aJ (d+1) s=false:=λh=>by
    have:fV s=false:=by
     cases hx:fV s with
     |false=>rfl
     |true=>refine absurd ?_ h;simp only[fV,WM] at hx;exact⟨hx.1.2,hx.2⟩
    simp[aJ,this]
   have pe:¬s.els=[]->0<s.els.length:=XD.2
   have pb:¬s.body=[]->0<s.body.length:=XD.2
   by_cases o5:s.op=5
   ·simp-implicitDefEqProofs[hh0,hsl,o5]
    repeat' first
     |(refine aO (λhc=>?_) (λhc=>?_)<;>simp-implicitDefEqProofs[hc,hh0,hsl,o5])
    all_goals exact an (by omega) hho (by simp[below,hhl])
   by_cases e1:s.els=[]
   case neg=>
    have hf:=hf (by simp[e1,o5])
    have:=pe e1
    simp-implicitDefEqProofs[hh0,hsl,o5,e1,this,hf]
   by_cases e2:s.body=[]
   ·simp-implicitDefEqProofs[hh0,hsl,o5,e1,e2]
    exact an (by omega) hho (by simp[below,hhl])
   have:=pb e2
   by_cases o6:s.op=6
   ·simp-implicitDefEqProofs[hh0,hsl,o6,e1,e2,this]
    exact an (by omega) hho (by simp[below,hhl])
   ·have hf:=hf (by simp[e2,o5,o6])
    simp-implicitDefEqProofs[hh0,hsl,o5,o6,e1,e2,this,hf]
  intro _ ⟨h7,h8⟩
  have hm:(match s.args with|a::_=>decide (a.op=13)|[]=>false)=decide (a0.op=13):=by rw[ha]
  have hhd:fV s=true:=by
   have h6':(!decide (s.op=8)||(match s.args with|a::_=>decide (a.op=13)|[]=>false))=true:=by rw[hm];exact h6
   have h2':decide (s.args.length=jS s.op)=true:=by simp[h2]
   simp only[fV,h1,h2',h3,h4,h5,h7,h8,Bool.and_self,Bool.and_true,Bool.true_and]
   exact h6'
  simp-implicitDefEqProofs[hh0,hw']
  refine(ihs s.body (by omega)).use ?_
  by_cases hB:s.body.all (aJ d)=true
  ·simp only[hB]
   simp-implicitDefEqProofs[hh0,hw']
   refine(ihs s.els (by omega)).use ?_
   have hf:aJ (d+1) s=s.els.all (aJ d):=by simp only[aJ,hhd,hB,Bool.true_and]
   rw[hf]
   generalize s.els.all (aJ d)=w
   simp-implicitDefEqProofs[]
  ·have hB':s.body.all (aJ d)=false:=by simpa using hB
   have hf:aJ (d+1) s=false:=by simp only[aJ,hB',Bool.and_false,Bool.false_and]
   simp only[hB',hf]
   simp-implicitDefEqProofs[]
theorem KO(d:Nat)(hd:d<=1000)(l:List Sm)(hl:aC l<=1099511627776):VF Tryz.prog G ca [.p (smL l),.p (.int .i64 d)] (.p (.bool (l.all (aJ d)))):=
 vQ G d hd (NS G d hd) l hl
theorem Sf(f:Fd)(hf:f.sz<=1099511627776):VF Tryz.prog G rb [.agg (f.cs.map .p)] (.p (.bool (jX f))):=by
 refine AC.go Ft ?_
 have hsz:f.sz=1+f.name.length+(f.params.length+(f.params.map List.length).sum)+aC f.body:=rfl
 have hps:∀x∈f.params,x.length<=(f.params.map List.length).sum:=λx hx=>by
  have key:∀l:List (List UInt8),x∈l->x.length<=(l.map List.length).sum:=by
   intro l
   induction l with
   |nil=>intro h;cases h
   |cons y r ih=>
    intro h
    simp only[WY,List.sum_cons]
    rcases WC.1 h with rfl|h
    ·omega
    ·have:=ih h;omega
  exact key _ hx
 have hst:aL f.params= .lst 1 (f.params.map λw=>[.str w]):=rfl
 have h4:=KO G 4 (by omega) f.body (by omega)
 simp-implicitDefEqProofs[vV,Fd.cs,hst]
 refine aN (λi:Nat=>az 32 [(1,.ptr 0 3 0 0),(3,.p (.int .i64 i))]) (λ_=>[.row 3 [[.p (.str f.name),.p (aL f.params),.p (smL f.body)]]]) (λi=>i<=f.params.length/\(f.params.take i).all aP=true) (λi=>f.params.length-i) 0 (by simp) (an (by simp) (by simp[okO]) (by simp[below])) ?_
 intro i ⟨hi,hall⟩
 simp-implicitDefEqProofs[hst]
 refine aO (λh=>?_) (λh=>?_)
 ·simp at h
  have hg:=Wz h
  have hl:=hps _ (WN h)
  simp-implicitDefEqProofs[hg]
  refine(uw G _ (by omega)).use ?_
  by_cases hk:aP f.params[i]=true
  ·simp-implicitDefEqProofs[hk]
   exact⟨i+1,⟨h,by rw[←WI,ew h,hall,hk];rfl⟩,by omega,an (by simp) (by simp[okO]) (by simp[below,w1 (i:=i) (by omega)])⟩
  ·have hk':aP f.params[i]=false:=by simpa using hk
   have hff:jX f=false:=by simp only[jX,oh h hk',Bool.false_and]
   simp-implicitDefEqProofs[hk',hff]
 ·simp at h
  have h1:f.params.all aP=true:=ij h hall
  simp-implicitDefEqProofs[]
  refine(uw G _ (by omega)).use ?_
  by_cases h2:aP f.name=true
  case neg=>
   have h2':aP f.name=false:=by simpa using h2
   simp-implicitDefEqProofs[h2',jX]
  simp-implicitDefEqProofs[h2]
  by_cases h3:f.params.length<=3
  case neg=>
   have h3':¬(f.params.length:Int)<=3:=by omega
   simp-implicitDefEqProofs[h3,h3',jX]
  have h3':(f.params.length:Int)<=3:=by omega
  simp-implicitDefEqProofs[h3']
  refine h4.use ?_
  have hff:jX f=f.body.all (aJ 4):=by simp only[jX,h1,h2,h3,decide_true,Bool.true_and]
  rw[hff]
  generalize f.body.all (aJ 4)=w
  simp-implicitDefEqProofs[]
theorem Ko{l:List Sm}{i:Nat}(h:i<l.length):dG (l.take (i+1))=dG (l.take i)+l[i].cnt:=by
 rw[aq h,pI];simp[dG]
theorem tx(l:List Sm)(i:Nat):dG (l.take i)<=dG l:=by
 have:=pI (l.take i) (l.drop i)
 rw[Xj] at this
 omega
def mh(l:List Sm)(i:Nat):Nat:=l.length+((l.take i).map λs=>dG s.body+dG s.els).sum
theorem Hl(l:List Sm):mh l 0=l.length:=by simp[mh]
theorem Ap{l:List Sm}{i:Nat}(h:i<l.length):mh l (i+1)=mh l i+dG l[i].body+dG l[i].els:=by
 rw[mh,mh,aq h,List.map_append,List.sum_append]
 simp only[WY,Xv,List.sum_cons,List.sum_nil]
 omega
theorem uN(l:List Sm):∀i,i<=l.length->dG (l.take i)+l.length=i+mh l i
 |0,_=>by simp[dG,mh]
 |i+1,h=>by
  have:=uN l i (by omega)
  rw[Ko (by omega),Ap (by omega),(l[i]'(by omega)).cnt_eq]
  omega
theorem Kx:∀(k:Nat) (l:List Sm),aC l<=k->k<=1099511627776->VF Tryz.prog G fb [.p (smL l)] (.p (.int .i64 (dG l))):=by
 intro k
 induction k with
 |zero=>
  intro l hl _
  have:l=[]:=by
   cases l with
   |nil=>rfl
   |cons s r=>have:=s.sz_eq;simp only[aC] at hl;omega
  subst this
  refine AC.go pY ?_
  have hsl:smL []= .lst 5 []:=rfl
  simp-implicitDefEqProofs[lz,hsl]
  refine aN (λ_:Unit=>az 29 [(0,.p (.lst 5 [])),(3,.p (.int .i64 0)),(4,.p (.int .i64 0))]) (λ_=>[]) (λ_=>True) (λ_=>0) () trivial (cC rfl (by simp[below])) ?_
  intro _ _
  simp-implicitDefEqProofs[dG]
 |succ k ih=>
  intro l hl hk
  have hll:=bE l
  have hnz:=gg l
  refine AC.go pY ?_
  have hsl:∀l,smL l= .lst 5 (l.map Sm.cs):=λ_=>rfl
  simp-implicitDefEqProofs[lz,hsl]
  refine aN (λi:Nat=>az 29 [(0,.p (smL l)),(3,.p (.int .i64 (mh l i))),(4,.p (.int .i64 i))]) (λ_=>[]) (λi=>i<=l.length) (λi=>l.length-i) 0 (by simp) (cC rfl (by simp[below,hsl,Hl])) ?_
  intro i hi
  have k0:=uN l i hi
  have k2:=tx l i
  simp-implicitDefEqProofs[hsl]
  refine aO (λh=>?_) (λh=>?_)
  ·simp at h
   have hg:=Wz h
   have hks:=fe (WN h)
   have hse:=l[i].sz_eq
   have hce:=l[i].cs_eq
   have k1:=Ap h
   have k3:=uN l (i+1) h
   have k4:=tx l (i+1)
   simp-implicitDefEqProofs[hg,hce]
   refine(ih l[i].body (by omega) (by omega)).use ?_
   simp-implicitDefEqProofs[hg,hce]
   refine(ih l[i].els (by omega) (by omega)).use ?_
   have w1':IntKind.i64.wrap ((mh l i:Int)+(dG l[i].body:Int))=(mh l i:Int)+(dG l[i].body:Int):=ab (by omega) (by omega)
   have w2':IntKind.i64.wrap ((mh l i:Int)+(dG l[i].body:Int)+(dG l[i].els:Int))=(mh l (i+1):Int):=by rw[ab (by omega) (by omega)];omega
   simp-implicitDefEqProofs[w1',w2']
   exact⟨i+1,h,by omega,cC rfl (by simp[below,hsl,w1 (i:=i) (by omega)])⟩
  ·simp at h
   rw[WF h] at k0
   have:mh l i=dG l:=by omega
   simp-implicitDefEqProofs[this]
theorem dp:∀{l:List Fd} {f:Fd},f∈l->f.sz<=aZ l
 |x::r,e,h=>by
  simp only[aZ,WY,List.sum_cons]
  rcases WC.1 h with rfl|h
  ·omega
  ·have:=dp h;simp only[aZ] at this;omega
theorem dK:∀l:List Fd,l.length<=aZ l
 |[]=>WK _
 |e::r=>by have:=dK r;simp only[aZ,WY,List.sum_cons,WP] at this⊢;have:1<=e.sz:=by unfold Fd.sz;omega
           omega
def Ag(l:List Fd)(i:Nat):Nat:=lU (l.take i)
theorem Kp{l:List Fd}{i:Nat}(h:i<l.length):Ag l (i+1)=Ag l i+dG l[i].body:=by
 rw[Ag,Ag,lU,lU,aq h,List.map_append,List.sum_append];simp
theorem Ea:∀l:List Fd,lU l<=aZ l
 |[]=>WK _
 |f::r=>by
  have:=Ea r
  have h2:=gg f.body
  simp only[lU,aZ,WY,List.sum_cons] at this⊢
  have:aC f.body<=f.sz:=by unfold Fd.sz;omega
  omega
theorem Pl(l:List Fd)(i:Nat):Ag l i<=aZ l:=by
 have h1:=Ea (l.take i)
 have h2:aZ (l.take i)<=aZ l:=by
  have:aZ l=aZ (l.take i)+aZ (l.drop i):=by
   rw[←Xj i l,aZ,List.map_append,List.sum_append];simp[aZ]
  omega
 exact Xs h1 h2
theorem PS(l:List Fd)(hl:aZ l<=1099511627776):VF Tryz.prog G oz [.agg [.p (fdL l)]] (.p (.int .i64 (lU l))):=by
 refine AC.go EF ?_
 have hll:=dK l
 have hfl:∀l,fdL l= .lst 3 (l.map Fd.cs):=λ_=>rfl
 simp-implicitDefEqProofs[uj]
 refine aN (λi:Nat=>az 22 [(1,.ptr 0 1 0 0),(3,.p (.int .i64 (Ag l i))),(4,.p (.int .i64 i))]) (λ_=>[.row 1 [[.p (fdL l)]]]) (λi=>i<=l.length) (λi=>l.length-i) 0 (by simp) (an (by simp) (by simp[okO]) (by simp[below,Ag,lU])) ?_
 intro i hi
 simp-implicitDefEqProofs[hfl]
 refine aO (λh=>?_) (λh=>?_)
 ·simp at h
  have hg:=Wz h
  have hks:=dp (WN h)
  have hse:l[i].sz=1+l[i].name.length+(l[i].params.length+(l[i].params.map List.length).sum)+aC l[i].body:=rfl
  have hce:l[i].cs=[.str l[i].name,aL l[i].params,smL l[i].body]:=rfl
  have k1:=Kp h
  have k2:=Pl l (i+1)
  simp-implicitDefEqProofs[hg,hce]
  refine(Kx G _ l[i].body (WK _) (by omega)).use ?_
  have w1':IntKind.i64.wrap ((Ag l i:Int)+(dG l[i].body:Int))=(Ag l (i+1):Int):=by rw[ab (by omega) (by omega)];omega
  simp-implicitDefEqProofs[w1']
  exact⟨i+1,h,by omega,an (by simp) (by simp[okO]) (by simp[below,w1 (i:=i) (by omega),hfl])⟩
 ·simp at h
  have:Ag l i=lU l:=by rw[Ag,WF h]
  simp-implicitDefEqProofs[this]
theorem lH(l:List Fd)(hl:aZ l<=1099511627776):VF Tryz.prog G dB [.agg [.p (fdL l)]] (.p (.bool (bp l))):=by
 refine AC.go rJ ?_
 have hfl:∀l,fdL l= .lst 3 (l.map Fd.cs):=λ_=>rfl
 have hall:=PS G l hl
 have hll:=dK l
 rw[hfl] at hall
 simp-implicitDefEqProofs[kG,hfl]
 refine(dh G _ _ _).use ?_
 by_cases h1:inR l.length 1 4=true
 case neg=>simp-implicitDefEqProofs[h1,bp]
 simp-implicitDefEqProofs[h1]
 refine aN (λi:Nat=>az 26 [(1,.ptr 0 1 0 0),(3,.p (.int .i64 i))]) (λ_=>[.row 1 [[.p (.lst 3 (l.map Fd.cs))]]]) (λi=>i<=l.length/\(l.take i).all jX=true) (λi=>l.length-i) 0 (by simp) (an (by simp) (by simp[okO]) (by simp[below])) ?_
 intro i ⟨hi,ha⟩
 simp-implicitDefEqProofs[]
 refine aO (λh=>?_) (λh=>?_)
 ·simp at h
  have hg:=Wz h
  have hks:=dp (WN h)
  simp-implicitDefEqProofs[hg]
  refine(Sf G l[i] (by omega)).use ?_
  by_cases hk:jX l[i]=true
  ·simp-implicitDefEqProofs[hk]
   exact⟨i+1,⟨h,by rw[←WI,ew h,ha,hk];rfl⟩,by omega,an (by simp) (by simp[okO]) (by simp[below,w1 (i:=i) (by omega)])⟩
  ·have hk':jX l[i]=false:=by simpa using hk
   have hff:bp l=false:=by simp only[bp,oh h hk',Bool.and_false,Bool.false_and]
   simp-implicitDefEqProofs[hk',hff]
 ·simp at h
  have h2:l.all jX=true:=ij h ha
  simp-implicitDefEqProofs[]
  refine hall.use ?_
  have hff:bp l=decide (lU l<=40):=by simp only[bp,h1,h2,Bool.true_and]
  simp-implicitDefEqProofs[hff]
  omega
end
section
theorem bW{n:Nat}{h h1:List AO}(e:h.take n=h1)(hn:h1.length=n)(ho:∀o∈h1,okO n o):Fst n h h1:=by
 have hl:n<=h.length:=by
  have:=congrArg List.length e
  rw[WX] at this;omega
 have hg:∀(i:Nat) (o:AO),h1[i]?=some o->h[i]?=some o:=λi o hi=>by
  have h2:=(Wy.1 hi).1
  rw[←e,List.getElem?_take_of_lt (by omega)] at hi
  exact hi
 exact⟨hn,hl,λi sz es hi=>⟨hg _ _ hi,ho _ (WJ hi)⟩,λi es hi=>⟨hg _ _ hi,ho _ (WJ hi)⟩,λi s p hi=>hg _ _ hi⟩
theorem DC:∀(r:List AO) (s:Nat),((iW (List.range' s r.length++[0]) (r++[.dead])).Nodup/\∀i∈iW (List.range' s r.length++[0]) (r++[.dead]),s<=i)
 |[],s=>by simp[iW]
 |o::r,s=>by
  obtain⟨h1,h2⟩:=DC r (s+1)
  rw[WP,List.range'_succ]
  cases o with
  |dead=>exact⟨h1,λi hi=>Nat.le_of_succ_le (h2 i hi)⟩
  |_=>exact⟨WW.2 ⟨λhm=>absurd (h2 _ hm) (by omega),h1⟩,λi hi=>by
   rcases WC.1 hi with rfl|hi
   ·exact WK _
   ·exact Nat.le_of_succ_le (h2 i hi)⟩
theorem Fy{h:List AO}(hp:0<h.length)(ho:∀o∈h,okO h.length o):∀(r:List AO) (s:Nat),(∀i:Nat,r[i]?=h[s+i]?)->s+r.length=h.length->HW (List.range' 0 h.length++[0]) h (List.range' s r.length++[0]) (r++[.dead])
 |[],s,_,_=>dq hp cg
 |o::r,s,hr,hs=>by
  have hσ:∀i,i<h.length->(List.range' 0 h.length++[0]).getD i 0=i:=λi hi=>by
   rw[WO,Wx (by simp;exact hi)];simp[hi]
  rw[WP,List.range'_succ]
  have h0:=hr 0
  have ih:=Fy hp ho r (s+1) (λi=>by have:=hr (i+1);rw[WQ] at this;rw[this];congr 1;omega) (by simp at hs;omega)
  have hm:h[s]?=some o:=by simpa using h0.symm
  have hok:=ho o (WJ hm)
  cases o with
  |dead=>exact dq (Wy.1 hm).1 ih
  |row sz es=>
   refine cW (λx hx=>aR (by simp) _ (hok x hx)) ?_ ih
   rw[hm,Xa (g:=id) λx hx=>lD hσ x (hok x hx)];simp
  |mp es=>exact⟨(Wy.1 hm).1,⟨λx hx=>by exact(aR (by simp) [x.2] ⟨hok x hx,trivial⟩).1,by rw[hm,Xa (g:=id) λx hx=>by rw[kP hσ x.2 (hok x hx)];rfl];simp⟩,ih⟩
  |sit s p=>exact⟨(Wy.1 hm).1,hm,ih⟩
theorem GJ{m:Nat}{l:List (Nat × AV)}:∀r:List (Nat × AV),FgA m l r->TWA (List.range' 0 m++[0]) l r
 |[],_=>trivial
 |x::r,⟨⟨a,c⟩,d⟩=>by
  have hσ:∀i,i<m->(List.range' 0 m++[0]).getD i 0=i:=λi hi=>by
   rw[WO,Wx (by simp;exact hi)];simp[hi]
  exact⟨⟨(aR (by simp) [x.2] ⟨a,trivial⟩).1,by rw[kP hσ _ a,c]⟩,GJ r d⟩
theorem pK{k n:Nat}{l l1:List (Nat × AV)}{h:List AO}(hk:k<=h.length)(hp:0<h.length)(ho:∀o∈h,okO h.length o)(H:FgA h.length l l1):Wk k (az n l) h (az n l1) (h++[.dead]):=by
 have hσ:∀i,i<h.length->(List.range' 0 h.length++[0]).getD i 0=i:=λi hi=>by
  rw[WO,Wx (by simp;exact hi)];simp[hi]
 refine ED (List.range' 0 h.length++[0]) (by simp;omega) (λi hi=>hσ i (by omega)) ?_ ?_ (GJ _ H)
 ·exact(DC h 0).1
 ·exact Fy hp ho h 0 (λi=>by simp) (by simp)
def bh(fns:List Fd):List (List AV):=fns.map λf=>f.cs.map .p
theorem vg(fns:List Fd):∀x∈bh fns,ay 0 x:=by
 intro x hx;obtain⟨m,_,rfl⟩:=Xb.1 hx;simp
theorem eA{n:Nat}{o:AO}(h:okO 0 o):okO n o:=by
 cases o with
 |dead=>trivial
 |sit=>trivial
 |row sz es=>exact λe he=>aR (Xg _) _ (h e he)
 |mp es=>exact λe he=>(aR (Xg n) [e.2] ⟨h e he,trivial⟩).1
theorem mo(fns:List Fd)(n:Nat):okO n (bR 3 (bh fns)):=eA (Ow (vg fns))
def exR(l:List Ex):List (List AV):=l.map λe=>e.cs.map .p
theorem ec(l:List Ex):∀x∈exR l,ay 0 x:=by
 intro x hx;obtain⟨m,_,rfl⟩:=Xb.1 hx;simp
theorem ib{h:List AO}{id:Nat}{l:List Ex}(e:h[id]?=some (bR 4 (exR l))):View h (slE id 4 (exR l)) (exL l):=by
 have hh:exR l=(l.map Ex.cs).map (·.map .p):=by simp[exR]
 rw[hh] at e⊢
 exact Oj e (λx hx=>by obtain⟨b,_,rfl⟩:=Xb.1 hx;exact b.cs_len)
theorem ul{h:List AO}{id sz:Nat}{r0 r1:List AV}{p0 p1:List PV}(he:h[id]?=some (.row sz [r0,r1]))(l0:p0.length=sz)(l1:p1.length=sz)(h0:∀(j:Nat) (q:PV) (a:AV),p0[j]?=some q->r0[j]?=some a->View h a q)(h1:∀(j:Nat) (q:PV) (a:AV),p1[j]?=some q->r1[j]?=some a->View h a q):View h (.sl id sz 0 2) (.lst sz [p0,p1]):=by
 refine View.sl id sz 0 _ [p0,p1] he (by simp) (by simp[l0,l1]) λi j e q e' a a1 a2 a3 a4=>?_
 rw[Xt] at a3
 match i,a1,a3 with
 |0,a1,a3=>cases a1;cases a3;exact h0 j q a a2 a4
 |1,a1,a3=>cases a1;cases a3;exact h1 j q a a2 a4
 |i+2,a1,a3=>simp at a1
def smR(l:List Sm):List (List AV):=l.map λs=>s.cs.map .p
theorem ee(l:List Sm):∀x∈smR l,ay 0 x:=by
 intro x hx;obtain⟨m,_,rfl⟩:=Xb.1 hx;simp
theorem gr(l:List Sm):(smR l).length=l.length:=by simp[smR]
theorem El(a b:List Sm):smR (a++b)=smR a++smR b:=by simp[smR]
theorem bD{h:List AO}{id sz:Nat}{r0:List AV}{p0:List PV}(he:h[id]?=some (.row sz [r0]))(l0:p0.length=sz)(h0:∀(j:Nat) (q:PV) (a:AV),p0[j]?=some q->r0[j]?=some a->View h a q):View h (.sl id sz 0 1) (.lst sz [p0]):=by
 refine View.sl id sz 0 _ [p0] he (by simp) (by simp[l0]) λi j e q e' a a1 a2 a3 a4=>?_
 rw[Xt] at a3
 match i,a1,a3 with
 |0,a1,a3=>cases a1;cases a3;exact h0 j q a a2 a4
 |i+1,a1,a3=>simp at a1
theorem gV{h:List AO}{o n:Int}{w:List UInt8}{k:List Ex}{K:AV}(hk:View h K (exL k)):∀(j:Nat) (q:PV) (a:AV),(Ex.mk o n w k).cs[j]?=some q->[AV.p (.int .i64 o),.p (.int .i64 n),.p (.str w),K][j]?=some a->View h a q:=by
 intro j q a e1 e2
 have hc:(Ex.mk o n w k).cs=[.int .i64 o,.int .i64 n,.str w,exL k]:=Ex.cs_eq _
 rw[hc] at e1
 match j,e1,e2 with
 |0,e1,e2=>cases e1;cases e2;exact .p _
 |1,e1,e2=>cases e1;cases e2;exact .p _
 |2,e1,e2=>cases e1;cases e2;exact .p _
 |3,e1,e2=>cases e1;cases e2;exact hk
 |j+4,e1,e2=>simp at e1
theorem lE{h:List AO}{id:Nat}{l:List Sm}(e:h[id]?=some (.row 5 (smR l))):View h (.sl id 5 0 l.length) (smL l):=by
 have:=iD (h:=h) (id:=id) (sz:=5) (n:=l.length) (ls:=l.map Sm.cs) (by rw[e,smR];simp) (by simp) (λx hx=>by obtain⟨b,_,rfl⟩:=Xb.1 hx;exact b.cs_len)
 exact this
theorem cd{h:List AO}{o:Int}{w:List UInt8}{a:List Ex}{bd el:List Sm}{A B E:AV}(hA:View h A (exL a))(hB:View h B (smL bd))(hE:View h E (smL el)):∀(j:Nat) (q:PV) (x:AV),(Sm.mk o w a bd el).cs[j]?=some q->[AV.p (.int .i64 o),.p (.str w),A,B,E][j]?=some x->View h x q:=by
 intro j q x e1 e2
 have hc:(Sm.mk o w a bd el).cs=[.int .i64 o,.str w,exL a,smL bd,smL el]:=Sm.cs_eq _
 rw[hc] at e1
 match j,e1,e2 with
 |0,e1,e2=>cases e1;cases e2;exact .p _
 |1,e1,e2=>cases e1;cases e2;exact .p _
 |2,e1,e2=>cases e1;cases e2;exact hA
 |3,e1,e2=>cases e1;cases e2;exact hB
 |4,e1,e2=>cases e1;cases e2;exact hE
 |j+5,e1,e2=>simp at e1
theorem gu{n:Nat}:∀o∈([]:List AO),okO n o:=λo h=>by cases h
theorem aD{n:Nat}{a:AO}{l:List AO}(h:okO n a)(r:∀o∈l,okO n o):∀o∈a::l,okO n o:=λo ho=>by
 rcases WC.1 ho with rfl|ho
 ·exact h
 ·exact r o ho
end
section
variable (G:aK)
theorem cb(n lo hi:Int):VF Tryz.prog G aT [.p (.int .i64 n),.p (.int .i64 lo),.p (.int .i64 hi)] (.p (.bool (inR n lo hi))):=by
 refine AC.go CN ?_
 by_cases h:lo<=n
 ·simp-implicitDefEqProofs[mV,h,inR]
 ·simp-implicitDefEqProofs[mV,h,inR]
theorem FG(n:Int):VF Tryz.prog G jI [.p (.int .i64 n)] (.p (.bool (inR n 0 255))):=by
 refine AC.go Co ?_
 simp-implicitDefEqProofs[sD]
 refine(cb G _ _ _).use ?_
 simp-implicitDefEqProofs[]
theorem IH(n:Int):VF Tryz.prog G dj [.p (.int .i32 n)] (.p (.bool (decide (n<97)||decide (122<n)))):=by
 refine AC.go zw ?_
 simp-implicitDefEqProofs[oL]
 by_cases h:n<97
 ·simp-implicitDefEqProofs[h]
 ·simp-implicitDefEqProofs[h]
theorem Pm{s:List UInt8}{i:Nat}(h:i<s.length)(hl:dP s[i]=true):Utf8.decode ⟨⟨s⟩⟩ i=(s[i].toNat,1):=by
 simp only[dP,WM,decide_eq_true_eq] at hl
 exact decode_ascii ⟨⟨s⟩⟩ i h (by show(s[i]).toNat<128;omega)
theorem Ll{s:List UInt8}{i:Nat}(h:i<s.length)(hl:¬dP s[i]=true):(((Utf8.decode ⟨⟨s⟩⟩ i).1:Int)<97\/122<((Utf8.decode ⟨⟨s⟩⟩ i).1:Int)):=by
 rcases Xn s[i].toNat 128 with h1|h1
 ·rw[show Utf8.decode ⟨⟨s⟩⟩ i=(s[i].toNat,1) from decode_ascii ⟨⟨s⟩⟩ i h h1]
  simp[dP] at hl
  simp only
  omega
 ·have:=(decode_high ⟨⟨s⟩⟩ i h h1).1
  omega
theorem EQ(s:List UInt8)(hb:s.length<=140737488355328):VF Tryz.prog G fy [.p (.str s),.fn (.func dj) [],.p (.bool true)] (.p (.int .i64 (Ec s))):=by
 refine AC.go rE ?_
 simp-implicitDefEqProofs[kF]
 refine aN (λi:Nat=>az 21 [(0,.p (.str s)),(1,.fn (.func dj) []),(2,.p (.bool true)),(10,.it 0)]) (λi=>[.sit s i]) (λi=>i<=s.length/\∀x∈s.take i,dP x=true) (λi=>s.length-i) 0 (by simp) ?_ ?_
 ·exact an (by simp) (by simp[okO]) (by simp[below,ay])
 ·intro i ⟨hi,hn⟩
  simp-implicitDefEqProofs[]
  by_cases h1:i<s.length
  ·have hg:=Wz h1
   simp-implicitDefEqProofs[h1]
   refine(IH G _).use ?_
   by_cases hl:dP s[i]=true
   ·have hd:=Pm h1 hl
    have hl':=hl
    simp only[dP,WM,decide_eq_true_eq] at hl'
    have e1:¬((s[i].toNat:Int)<97):=by omega
    have e2:¬(122<(s[i].toNat:Int)):=by omega
    rw[hd]
    simp-implicitDefEqProofs[e1,e2]
    refine⟨i+1,⟨h1,λp hp=>?_⟩,by omega,an (by simp) (by simp[okO]) (by simp[below,ay])⟩
    rw[aq h1] at hp
    rcases WE.1 hp with hp|hp
    ·exact hn p hp
    ·rw[WG.1 hp];exact hl
   ·have hd:=Ll h1 hl
    have hf:Ec s=i:=by
     have:s.findIdx? (λx=> !dP x)=some i:=by
      rw[WU]
      exact⟨h1,by simpa using hl,λj hj=>by have:=hn s[j] (XA.2 ⟨j,by omega,rfl⟩);simpa using this⟩
     rw[Ec,this]
    have hdb:(decide (((Utf8.decode ⟨⟨s⟩⟩ i).1:Int)<97)||decide (122<((Utf8.decode ⟨⟨s⟩⟩ i).1:Int)))=true:=by
     rcases hd with h|h<;>simp[h]
    rw[hdb]
    simp-implicitDefEqProofs[hf]
  ·have hn':=hn
   rw[WF (by omega)] at hn'
   have hf:Ec s= -1:=by
    have:s.findIdx? (λx=> !dP x)=none:=by
     rw[Xd];intro x hx;simpa using hn' x hx
    rw[Ec,this]
   simp-implicitDefEqProofs[h1,hf]
theorem EI(s:List UInt8)(hb:s.length<=140737488355328):VF Tryz.prog G fI [.p (.str s),.fn (.func dj) []] (.p (.int .i64 (Ec s))):=by
 refine AC.go rU ?_
 simp-implicitDefEqProofs[kA]
 refine(EQ G s hb).use ?_
 simp-implicitDefEqProofs[]
theorem JT(L:List (List UInt8))(s:List UInt8)(hb:L.length<=1048576):VF Tryz.prog G cV [.p (aL L),.p (.str s)] (.p (.int .i64 (idxS L s))):=by
 refine AC.go oX ?_
 have hsl:aL L= .lst 1 (L.map λw=>[.str w]):=rfl
 simp-implicitDefEqProofs[iT,hsl]
 refine aN (λi:Nat=>az 19 [(0,.p (aL L)),(1,.p (.str s)),(6,.p (aL L)),(7,.p (.int .i64 L.length)),(8,.p (.int .i64 i))]) (λ_=>[]) (λi=>i<=L.length/\∀w∈L.take i,w≠s) (λi=>L.length-i) 0 (by simp) ?_ ?_
 ·exact cC rfl (by simp[below,aL])
 ·intro i ⟨hi,hn⟩
  simp-implicitDefEqProofs[hsl]
  refine aO (λh1=>?_) (λh1=>?_)
  ·simp at h1
   have hg:=Wz h1
   by_cases he:L[i]=s
   ·have hf:idxS L s=i:=by
     have:L.findIdx? (λw=>w==s)=some i:=by
      rw[WU]
      exact⟨h1,by simpa using he,λj hj=>by have:=hn L[j] (XA.2 ⟨j,by omega,rfl⟩);simpa using this⟩
     rw[idxS,this]
    have he':s=L[i]:=he.symm
    simp-implicitDefEqProofs[hg,hf,←he']
   ·have he':¬s=L[i]:=λe=>he e.symm
    simp-implicitDefEqProofs[hg,he']
    refine⟨i+1,⟨h1,λp hp=>?_⟩,by omega,cC rfl ?_⟩
    ·rw[aq h1] at hp
     rcases WE.1 hp with hp|hp
     ·exact hn p hp
     ·rw[WG.1 hp];exact he
    ·simp[below,aL,w1 (i:=i) (by omega)]
  ·simp at h1
   rw[WF h1] at hn
   have hf:idxS L s= -1:=by
    have:L.findIdx? (λw=>w==s)=none:=by
     rw[Xd];intro x hx;simpa using hn x hx
    rw[idxS,this]
   simp-implicitDefEqProofs[hf]
theorem HO(L:List (List UInt8))(s:List UInt8)(hb:L.length<=1048576):VF Tryz.prog G dt [.p (aL L),.p (.str s)] (.p (.bool (L.contains s))):=by
 rw[←Mt]
 refine AC.go mP ?_
 simp-implicitDefEqProofs[ga]
 refine(JT G L s hb).use ?_
 simp-implicitDefEqProofs[]
abbrev jg:Nat:=0
def iA:List PV:=keyW.map .str
variable (hK:G jg=some iA)
include hK
theorem pG(s:List UInt8)(hb:s.length<=140737488355328):VF Tryz.prog G cF [.p (.str s)] (.p (.bool (aP s))):=by
 refine AC.go CI ?_
 unfold jg at hK
 simp-implicitDefEqProofs[sf]
 refine(cb G _ _ _).use ?_
 have hr:inR (s.length:Int) 1 4=(decide (0<s.length)&&decide (s.length<=4)):=by
  unfold inR
  by_cases h1:0<s.length<;>by_cases h2:s.length<=4<;>simp[h1,h2]<;>omega
 rw[hr]
 have hi:aP s=((decide (0<s.length)&&decide (s.length<=4))&&(s.all dP&& !keyW.contains s)):=by
  rw[aP];cases s.all dP<;>cases decide (0<s.length)<;>cases decide (s.length<=4)<;>rfl
 cases h1:(decide (0<s.length)&&decide (s.length<=4)) with
 |false=>
  rw[hi,h1]
  simp-implicitDefEqProofs[]
 |true=>
  rw[hi,h1]
  simp-implicitDefEqProofs[]
  refine(EI G s hb).use ?_
  rw[←MH]
  by_cases hn:Ec s<0
  ·simp-implicitDefEqProofs[hn,hK,iA,keyW]
   refine(HO G keyW s (by decide)).use ?_
   simp-implicitDefEqProofs[keyW]
  ·simp-implicitDefEqProofs[hn]
end
section
theorem zu:AK.whole jY=FK.ak kq:=rfl
abbrev dX:Nat:=1
def opK:List PV:=[.int .i64 3,.int .i64 4,.int .i64 5,.int .i64 6,.int .i64 7,.int .i64 8,.int .i64 9,.int .i64 10]
def opV:List (List PV):=[[.str [43],.int .i64 3],[.str [45],.int .i64 3],[.str [42],.int .i64 4],[.str [47],.int .i64 4],[.str [37],.int .i64 4],[.str [60],.int .i64 2],[.str [61],.int .i64 2],[.str [38],.int .i64 1]]
def lvl(op:Int):Int:=if op=10 then 1 else if op=8 then 2 else if op=9 then 2 else if op=3 then 3 else if op=4 then 3 else 4
def sgB(op:Int):UInt8:=if op=3 then 43 else if op=4 then 45 else if op=5 then 42 else if op=6 then 47 else if op=7 then 37 else if op=8 then 60 else if op=9 then 61 else 38
def sgn(op:Int):Option AV:=if 3<=op/\op<=10 then some (.agg [.p (.str [sgB op]),.p (.int .i64 (lvl op))]) else none
theorem JV(op:Int):(opK.all λk'=>(keq (.int .i64 op) k').isSome)=true:=by simp[opK,keq]
theorem JE(op:Int):ie (.int .i64 op) (Kl opK opV)=some (sgn op):=by
 by_cases h:3<=op/\op<=10
 ·have h8:op=3\/op=4\/op=5\/op=6\/op=7\/op=8\/op=9\/op=10:=by omega
  rcases h8 with rfl|rfl|rfl|rfl|rfl|rfl|rfl|rfl<;>rfl
 ·have e:sgn op=none:=if_neg h
  have h3:¬op=3:=by omega
  have h4:¬op=4:=by omega
  have h5:¬op=5:=by omega
  have h6:¬op=6:=by omega
  have h7:¬op=7:=by omega
  have h8:¬op=8:=by omega
  have h9:¬op=9:=by omega
  have h10:¬op=10:=by omega
  rw[e]
  simp[opK,opV,Kl,ie,keq,h3,h4,h5,h6,h7,h8,h9,h10]
theorem JQ(op:Int):0<lvl op:=by
 unfold lvl
 repeat' split
 all_goals omega
theorem So(op:Int):lvl op<6:=by
 unfold lvl
 repeat' split
 all_goals omega
def lvI(op:Int):Int:=if 3<=op/\op<=10 then lvl op else if op=11\/op=12 then 5 else 6
mutual
def Ex.deep:Ex->Nat
 | .mk _ _ _ k=>1+nO k
def nO:List Ex->Nat
 |[]=>0
 |e::r=>max e.deep (nO r)
end
theorem Ex.deep_eq(e:Ex):e.deep=1+nO e.kids:=by cases e;rfl
theorem Fk:∀a b:List Ex,nO (a++b)=max (nO a) (nO b)
 |[],b=>by simp[nO]
 |e::r,b=>by rw[Xk,nO,nO,Fk r b];omega
mutual
theorem Ex.deep_le:∀e:Ex,e.deep<=e.sz
 | .mk _ _ s k=>by have:=DW k;simp only[Ex.deep,Ex.sz];omega
theorem DW:∀l:List Ex,nO l<=aM l
 |[]=>WK _
 |e::r=>by have:=e.deep_le;have:=DW r;simp only[nO,aM];omega
end
theorem rk{α:Type}{p:α->Bool}{xs:List α}{i:Nat}{c:α}(h:xs[i]?=some c):(xs.take (i+1)).all p=((xs.take i).all p&&p c):=by
 rw[List.take_add_one,h,List.all_append];simp
def okE(m:Nat)(e:Ex):Bool:=bP m e&&decide (e.parts<=30)
def zy:Nat->Ex->Bool
 |0,_=>false
 |m+1,e=>lO e&&e.kids.all (okE m)
theorem FV:∀{l:List Ex} {e:Ex},e∈l->e.parts<=gL l
 |x::r,e,h=>by
  simp only[gL]
  rcases WC.1 h with rfl|h
  ·omega
  ·have:=FV h;omega
theorem Jl(m:Nat)(e:Ex):(zy m e&&decide (e.parts<=30))=okE m e:=by
 cases m with
 |zero=>simp[zy,okE,bP]
 |succ m=>
  by_cases hp:e.parts<=30
  ·have h2:e.kids.all (okE m)=e.kids.all (bP m):=by
    rw[Bool.eq_iff_iff,WI,WI]
    refine⟨λh x hx=>?_,λh x hx=>?_⟩
    ·have:=h x hx;simp only[okE,WM] at this;exact this.1
    ·have h1:=h x hx
     have:=FV hx
     have:=e.parts_eq
     simp only[okE,h1,Bool.true_and]
     simp;omega
   simp[zy,okE,bP,h2]
  ·simp[okE,hp]
theorem PL(e:Ex):okE 6 e=lT e:=rfl
def szA(m:Nat)(e:Ex):AV:=if zy m e then .tup [.p (.int .i64 e.parts),.p (.int .i64 e.deep),.p (.bool (decide (e.parts<=30)))] else .tup [.p (.int .i64 0),.p (.int .i64 0),.p (.bool false)]
def cz(e:Ex):Bool:=inR e.op 1 13&&(if e.op=1 then inR e.n 0 255&&decide (e.name=[]) else if e.op=2\/e.op=13 then aP e.name&&decide (e.n=0) else true)
def iV(e:Ex):Bool:=(decide (e.op=1\/e.op=2\/e.op=13)||(decide (e.n=0)&&decide (e.name=[])))&&inR e.kids.length (loK e.op) (hiK e.op)
theorem th:aP []=false:=rfl
theorem Gs(e:Ex):lO e=(cz e&&iV e):=by
 unfold lO cz iV GB
 by_cases h1:e.op=1
 ·simp only[h1]
  cases inR (e.kids.length:Int) (loK 1:Nat) (hiK 1:Nat)<;>by_cases hn:e.name=[]<;>cases h2:inR e.n 0 255<;>simp[hn,th,inR]
 by_cases h2:e.op=2
 ·simp only[h2]
  cases inR (e.kids.length:Int) (loK 2:Nat) (hiK 2:Nat)<;>cases hi:aP e.name<;>by_cases hn:e.n=0<;>simp[hn,inR]
 by_cases h3:e.op=13
 ·simp only[h3]
  cases inR (e.kids.length:Int) (loK 13:Nat) (hiK 13:Nat)<;>cases hi:aP e.name<;>by_cases hn:e.n=0<;>simp[hn,inR]
 ·cases inR e.op 1 13<;>cases inR (e.kids.length:Int) (loK e.op:Nat) (hiK e.op:Nat)<;>by_cases hn:e.n=0<;>by_cases hm:e.name=[]<;>simp[h1,h2,h3,hn,hm,th,inR]
variable (G:aK) (hK:G jg=some iA) (hS:G dX=some [.tbl opK opV])
include hS
theorem KQ(op:Int):VF Tryz.prog G ll [.p (.int .i64 op)] (.p (.int .i64 (lvI op))):=by
 refine AC.go By ?_
 have hall:=JV op
 have hget:=JE op
 have hS':=hS
 unfold dX at hS'
 have hlp:=JQ op
 by_cases h:3<=op/\op<=10
 ·have e:sgn op=some (.agg [.p (.str [sgB op]),.p (.int .i64 (lvl op))]):=if_pos h
  have e2:lvI op=lvl op:=if_pos h
  rw[e2]
  generalize lvl op=L at*
  simp-implicitDefEqProofs[eV,hS',hall,hget,e,hlp]
 ·have e:sgn op=none:=if_neg h
  by_cases h11:op=11
  ·subst h11;simp-implicitDefEqProofs[eV,hS',hall,hget,e,lvI]
  by_cases h12:op=12
  ·subst h12;simp-implicitDefEqProofs[eV,hS',hall,hget,e,lvI]
  have e2:lvI op=6:=by rw[lvI,if_neg h,if_neg (by simp[h11,h12])]
  simp-implicitDefEqProofs[eV,hS',hall,hget,e,e2,h11,h12]
include hK
theorem II:∀(m:Nat) (e:Ex),e.sz<=1073741824->m<=100->VF Tryz.prog G gn [.agg (e.cs.map .p),.p (.int .i64 m)] (szA m e):=by
 intro m
 induction m using Nat.strongRecOn with
 |_ m ih=>
 intro e he hm
 have hec:=e.cs_eq
 have hsz:=e.sz_eq
 have hkl:=bL e.kids
 have hS':=hS
 unfold dX at hS'
 have hall:=JV e.op
 have hget:=JE e.op
 have hxl:exL e.kids= .lst 4 (e.kids.map Ex.cs):=rfl
 have hbad:(cz e&&iV e&&decide (1<=m))=false->szA m e= .tup [.p (.int .i64 0),.p (.int .i64 0),.p (.bool false)]:=by
  intro h
  have:zy m e=false:=by
   cases m with
   |zero=>rfl
   |succ m=>rw[zy,Gs];simp at h;cases h1:cz e<;>cases h2:iV e<;>simp[h1,h2] at h⊢
  rw[szA,this];rfl
 have hb1:cz e=false->szA m e= .tup [.p (.int .i64 0),.p (.int .i64 0),.p (.bool false)]:=λh=>hbad (by rw[h];rfl)
 refine AC.goK zo zu ?_
 simp-implicitDefEqProofs[jY,kq,hec]
 refine lV (λ_:Unit=>az 127 [(1,.p (.int .i64 m)),(2,.ptr 0 4 0 0),(7,.p (.int .i64 (loK e.op))),(8,.p (.int .i64 (hiK e.op)))]) (λ_=>[.row 4 [[.p (.int .i64 e.op),.p (.int .i64 e.n),.p (.str e.name),.p (exL e.kids)]]]) (λ_=>cz e=true) ?_ ?_
 ·have fin:∀(r1:List (Nat × AV)),Aw.look r1 1= .p (.int .i64 m)->Aw.look r1 2= .ptr 0 4 0 0->Aw.look r1 7= .p (.int .i64 (loK e.op))->Aw.look r1 8= .p (.int .i64 (hiK e.op))->
   Wk 0 (az 127 r1) [.row 4 [[.p (.int .i64 e.op),.p (.int .i64 e.n),.p (.str e.name),.p (exL e.kids)]]] (az 127 [(1,.p (.int .i64 m)),(2,.ptr 0 4 0 0),(7,.p (.int .i64 (loK e.op))),(8,.p (.int .i64 (hiK e.op)))]) [.row 4 [[.p (.int .i64 e.op),.p (.int .i64 e.n),.p (.str e.name),.p (exL e.kids)]]]:=λr1 a b c d=>
   an (by simp) (by simp[okO,below]) (by simp[below,a,b,c,d])
  have hop1:inR (1:Int) 1 13=true:=rfl
  have hop2:inR (2:Int) 1 13=true:=rfl
  have hop13:inR (13:Int) 1 13=true:=rfl
  by_cases o1:e.op=1
  ·rw[o1] at fin⊢
   simp-implicitDefEqProofs[o1]
   refine(FG G _).use ?_
   by_cases h1:inR e.n 0 255=true
   ·by_cases h2:e.name=[]
    ·have hp:cz e=true:=by simp[cz,o1,h1,h2,hop1]
     rw[h2] at fin
     simp-implicitDefEqProofs[h1,h2,hp]
     exact fin _ (by simp) (by simp) (by simp[loK]) (by simp[hiK])
    ·have hp:cz e=false:=by simp[cz,o1,h1,h2,hop1]
     rw[hb1 hp]
     simp-implicitDefEqProofs[h1,h2]
   ·have hp:cz e=false:=by simp[cz,o1,h1,hop1]
    rw[hb1 hp]
    simp-implicitDefEqProofs[h1]
  by_cases o2:e.op=2
  ·rw[o2] at fin⊢
   simp-implicitDefEqProofs[o2]
   refine(pG G hK _ (by omega)).use ?_
   by_cases h1:aP e.name=true
   ·by_cases h2:e.n=0
    ·have hp:cz e=true:=by simp[cz,o2,h1,h2,hop2]
     rw[h2] at fin
     simp-implicitDefEqProofs[h1,h2,hp]
     exact fin _ (by simp) (by simp) (by simp[loK]) (by simp[hiK])
    ·have hp:cz e=false:=by simp[cz,o2,h1,h2,hop2]
     rw[hb1 hp]
     simp-implicitDefEqProofs[h1,h2]
   ·have hp:cz e=false:=by simp[cz,o2,h1,hop2]
    rw[hb1 hp]
    simp-implicitDefEqProofs[h1]
  by_cases o13:e.op=13
  ·rw[o13] at fin⊢
   simp-implicitDefEqProofs[o13]
   refine(pG G hK _ (by omega)).use ?_
   by_cases h1:aP e.name=true
   ·by_cases h2:e.n=0
    ·have hp:cz e=true:=by simp[cz,o13,h1,h2,hop13]
     rw[h2] at fin
     simp-implicitDefEqProofs[h1,h2,hp]
     exact fin _ (by simp) (by simp) (by simp[loK]) (by simp[hiK])
    ·have hp:cz e=false:=by simp[cz,o13,h1,h2,hop13]
     rw[hb1 hp]
     simp-implicitDefEqProofs[h1,h2]
   ·have hp:cz e=false:=by simp[cz,o13,h1,hop13]
    rw[hb1 hp]
    simp-implicitDefEqProofs[h1]
  have hlp:=JQ e.op
  by_cases h:3<=e.op/\e.op<=10
  ·have es:sgn e.op=some (.agg [.p (.str [sgB e.op]),.p (.int .i64 (lvl e.op))]):=if_pos h
   have hp:cz e=true:=by simp[cz,o1,o2,o13,inR];omega
   have o11:¬e.op=11:=by omega
   have o12:¬e.op=12:=by omega
   have elo:loK e.op=2:=by simp[loK,o1,o2,o11,o12,o13]
   have ehi:hiK e.op=2:=by simp[hiK,o1,o2,o11,o12,o13]
   generalize lvl e.op=L at*
   simp-implicitDefEqProofs[o1,o2,o13,hS',hall,hget,es,hlp,hp]
   exact fin _ (by simp) (by simp) (by simp[elo]) (by simp[ehi])
  have es:sgn e.op=none:=if_neg h
  by_cases o11:e.op=11
  ·have hp:cz e=true:=by simp[cz,o11,inR]
   have elo:loK e.op=1:=by simp[loK,o11]
   have ehi:hiK e.op=1:=by simp[hiK,o11]
   rw[o11] at hall hget es fin
   simp-implicitDefEqProofs[o11,hS',hall,hget,es,hp]
   exact fin _ (by simp) (by simp) (by simp[loK]) (by simp[hiK])
  by_cases o12:e.op=12
  ·have hp:cz e=true:=by simp[cz,o12,inR]
   rw[o12] at hall hget es fin
   simp-implicitDefEqProofs[o12,hS',hall,hget,es,hp]
   exact fin _ (by simp) (by simp) (by simp[loK]) (by simp[hiK])
  ·have hp:cz e=false:=by simp[cz,o1,o2,o13,inR];omega
   rw[hb1 hp]
   simp-implicitDefEqProofs[o1,o2,o13,hS',hall,hget,es,o11,o12]
 intro _ hp
 have hop:1<=e.op/\e.op<=13:=by
  simp only[cz,WM,inR,decide_eq_true_eq] at hp
  exact hp.1
 have hb2:iV e=false->szA m e= .tup [.p (.int .i64 0),.p (.int .i64 0),.p (.bool false)]:=λh=>hbad (by rw[h];simp)
 have hb3:m<1->szA m e= .tup [.p (.int .i64 0),.p (.int .i64 0),.p (.bool false)]:=by
  intro h
  have hd:decide (1<=m)=false:=by simp;omega
  exact hbad (by rw[hd];simp)
 refine lV (λ_:Unit=>az 127 [(1,.p (.int .i64 m)),(2,.ptr 0 4 0 0)]) (λ_=>[.row 4 [[.p (.int .i64 e.op),.p (.int .i64 e.n),.p (.str e.name),.p (exL e.kids)]]]) (λ_=>iV e=true/\1<=m) ?_ ?_
 ·have fin:∀(r1:List (Nat × AV)),Aw.look r1 1= .p (.int .i64 m)->Aw.look r1 2= .ptr 0 4 0 0->
   Wk 0 (az 127 r1) [.row 4 [[.p (.int .i64 e.op),.p (.int .i64 e.n),.p (.str e.name),.p (exL e.kids)]]] (az 127 [(1,.p (.int .i64 m)),(2,.ptr 0 4 0 0)]) [.row 4 [[.p (.int .i64 e.op),.p (.int .i64 e.n),.p (.str e.name),.p (exL e.kids)]]]:=λr1 a b=>
   an (by simp) (by simp[okO,below]) (by simp[below,a,b])
  simp-implicitDefEqProofs[]
  refine(KQ G hS e.op).use ?_
  by_cases ho:e.op=1\/e.op=2\/e.op=13
  ·have hlv:lvI e.op=6:=by
    rw[lvI,if_neg (by omega),if_neg (by omega)]
   have hd:decide (e.op=1\/e.op=2\/e.op=13)=true:=by simpa using ho
   simp-implicitDefEqProofs[hlv,hxl]
   refine(cb G _ _ _).use ?_
   by_cases hk:inR e.kids.length (loK e.op) (hiK e.op)=true
   ·have hr:iV e=true:=by rw[iV,hd,hk];rfl
    by_cases hm1:m<1
    ·have hm1':(m:Int)<1:=by omega
     rw[hb3 hm1]
     simp-implicitDefEqProofs[hk,hm1']
    ·have hm1':¬(m:Int)<1:=by omega
     have hm2:1<=m:=by omega
     simp-implicitDefEqProofs[hk,hm1',hr,hm2]
     exact fin _ (by simp) (by simp)
   ·have hk':inR e.kids.length (loK e.op) (hiK e.op)=false:=by simpa using hk
    have hr:iV e=false:=by rw[iV,hk',Bool.and_false]
    rw[hb2 hr]
    simp-implicitDefEqProofs[hk']
  ·have hlv:lvI e.op<6:=by
    have:=So e.op
    unfold lvI
    split
    ·exact this
    ·rw[if_pos (by omega)];omega
   have hd:decide (e.op=1\/e.op=2\/e.op=13)=false:=by simpa using ho
   generalize lvI e.op=L at hlv⊢
   by_cases h1:e.n=0
   ·by_cases h2:e.name=[]
    ·have hz:decide (e.n=0)=true/\decide (e.name=[])=true:=by simp[h1,h2]
     simp-implicitDefEqProofs[hlv,h1,h2,hxl]
     refine(cb G _ _ _).use ?_
     rw[h1,h2] at fin
     by_cases hk:inR e.kids.length (loK e.op) (hiK e.op)=true
     ·have hr:iV e=true:=by rw[iV,hd,hk,hz.1,hz.2];rfl
      by_cases hm1:m<1
      ·have hm1':(m:Int)<1:=by omega
       rw[hb3 hm1]
       simp-implicitDefEqProofs[hk,hm1']
      ·have hm1':¬(m:Int)<1:=by omega
       have hm2:1<=m:=by omega
       simp-implicitDefEqProofs[hk,hm1',hr,hm2]
       exact fin _ (by simp) (by simp)
     ·have hk':inR e.kids.length (loK e.op) (hiK e.op)=false:=by simpa using hk
      have hr:iV e=false:=by rw[iV,hk',Bool.and_false]
      rw[hb2 hr]
      simp-implicitDefEqProofs[hk']
    ·have hr:iV e=false:=by rw[iV,hd];simp[h2]
     rw[hb2 hr]
     simp-implicitDefEqProofs[hlv,h1,h2]
   ·have hr:iV e=false:=by rw[iV,hd];simp[h1]
    rw[hb2 hr]
    simp-implicitDefEqProofs[hlv,h1]
 rintro _ ⟨hr,hm1⟩
 have hhd:lO e=true:=by rw[Gs,hp,hr];rfl
 obtain⟨m',rfl⟩:∃m',m=m'+1:=⟨m-1,by omega⟩
 have hszO:zy (m'+1) e=e.kids.all (okE m'):=by rw[zy,hhd];rfl
 have hpe:=e.parts_eq
 have hde:=e.deep_eq
 have hpl:=e.parts_le
 have hwm:IntKind.i64.wrap (((m'+1:Nat):Int)-1)=(m':Int):=by rw[ab (by omega) (by omega)];omega
 simp-implicitDefEqProofs[hxl]
 refine aN (λi:Nat=>az 127 [(1,.p (.int .i64 ((m':Int)+1))),(2,.ptr 0 4 0 0),(9,.p (.int .i64 ((1+gL (e.kids.take i):Nat):Int))),(10,.p (.int .i64 ((1+nO (e.kids.take i):Nat):Int))),(99,.p (exL e.kids)),(100,.p (.int .i64 e.kids.length)),(101,.p (.int .i64 i))])
  (λ_=>[.row 4 [[.p (.int .i64 e.op),.p (.int .i64 e.n),.p (.str e.name),.p (exL e.kids)]]]) (λi=>i<=e.kids.length/\(e.kids.take i).all (okE m')=true) (λi=>e.kids.length-i) 0 (by simp) ?_ ?_
 ·exact an (by simp) (by simp[okO,below]) (by simp[below,hxl,gL,nO])
 rintro i ⟨hi,ha⟩
 have hwm':IntKind.i64.wrap (m':Int)=(m':Int):=ab (by omega) (by omega)
 simp-implicitDefEqProofs[hxl]
 refine aO (λh=>?_) (λh=>?_)
 ·simp at h
  have hg:=Wz h
  have hks:=cQ (WN h)
  have hkc:=e.kids[i].cs_eq
  have hpt:gL (e.kids.take (i+1))=gL (e.kids.take i)+e.kids[i].parts:=by rw[aq h,jR];simp[gL]
  have hdt:nO (e.kids.take (i+1))=max (nO (e.kids.take i)) e.kids[i].deep:=by rw[aq h,Fk];simp[nO]
  have hpl1:gL (e.kids.take (i+1))<=e.parts:=by
   have:=jR (e.kids.take (i+1)) (e.kids.drop (i+1))
   rw[Xj] at this
   omega
  have hok:=Jl m' e.kids[i]
  have hdl:e.kids[i].deep<=e.kids[i].sz:=Ex.deep_le _
  have hdl2:nO (e.kids.take i)<=e.sz:=by
   have h1:=DW (e.kids.take i)
   have h2:=bM (e.kids.take i) (e.kids.drop i)
   rw[Xj] at h2
   omega
  generalize e.kids[i]=c at*
  simp-implicitDefEqProofs[hg,hkc,hwm']
  have hI:=ih m' (by omega) c (by omega) (by omega)
  rw[hkc] at hI
  by_cases ho:okE m' c=true
  ·have h1:zy m' c=true/\c.parts<=30:=by rw[ho] at hok;simpa using hok
   have hA:szA m' c= .tup [.p (.int .i64 c.parts),.p (.int .i64 c.deep),.p (.bool true)]:=by rw[szA,if_pos h1.1];simp[h1.2]
   rw[hA] at hI
   refine hI.use ?_
   have hw1:IntKind.i64.wrap (1+(gL (e.kids.take i):Int)+(c.parts:Int))=((1+gL (e.kids.take (i+1)):Nat):Int):=by rw[ab (by omega) (by omega)];omega
   have hw2:IntKind.i64.wrap ((c.deep:Int)+1)=(c.deep:Int)+1:=ab (by omega) (by omega)
   have hmx:(if 1+(nO (e.kids.take i):Int)<(c.deep:Int)+1 then(c.deep:Int)+1 else 1+(nO (e.kids.take i):Int))=1+(nO (e.kids.take (i+1)):Int):=by
    rw[hdt];split<;>omega
   simp-implicitDefEqProofs[hw1,hw2,hmx]
   refine⟨i+1,⟨h,by rw[←WI,rk hg,ha,ho];rfl⟩,by omega,?_⟩
   refine dC (m:=1) (by omega) (bW rfl rfl (by simp[okO,below])) (by simp[below,hxl,w1 (i:=i) (by omega)])
  ·have hf:e.kids.all (okE m')=false:=List.all_eq_false.2 ⟨c,WJ hg,by simpa using ho⟩
   have hA2:szA (m'+1) e= .tup [.p (.int .i64 0),.p (.int .i64 0),.p (.bool false)]:=by rw[szA,hszO,hf];rfl
   rw[hA2]
   by_cases h1:zy m' c=true
   ·have h2:¬c.parts<=30:=λh2=>ho (by rw[←hok,h1];simpa using h2)
    have hA:szA m' c= .tup [.p (.int .i64 c.parts),.p (.int .i64 c.deep),.p (.bool false)]:=by rw[szA,if_pos h1];simp[h2]
    rw[hA] at hI
    refine hI.use ?_
    simp-implicitDefEqProofs[]
   ·have hA:szA m' c= .tup [.p (.int .i64 0),.p (.int .i64 0),.p (.bool false)]:=by rw[szA,if_neg h1]
    rw[hA] at hI
    refine hI.use ?_
    simp-implicitDefEqProofs[]
 ·simp at h
  rw[WF h] at ha⊢
  have hA:szA (m'+1) e= .tup [.p (.int .i64 e.parts),.p (.int .i64 e.deep),.p (.bool (decide (e.parts<=30)))]:=by rw[szA,hszO,ha];rfl
  rw[hA,hpe,hde]
  simp-implicitDefEqProofs[]
  omega
theorem GM(e:Ex)(he:e.sz<=1073741824):VF Tryz.prog G fj [.agg (e.cs.map .p)] (.p (.bool (lT e))):=by
 refine AC.go vt ?_
 have hec:=e.cs_eq
 have hx:=II G hK hS 6 e he (by omega)
 rw[hec] at hx
 simp-implicitDefEqProofs[nt,hec]
 rw[←PL,←Jl]
 unfold szA at hx
 by_cases h:zy 6 e=true
 ·rw[if_pos h] at hx
  rw[h]
  refine hx.use ?_
  simp-implicitDefEqProofs[]
 ·have h':zy 6 e=false:=by simpa using h
  rw[if_neg h] at hx
  rw[h']
  refine hx.use ?_
  simp-implicitDefEqProofs[]
end
section
def sa:AK:=wn [yx 2 5,xt] [wR 12 2,qp 13 12,xa 14 gm 13,qf 11 14,xj 15 0 11,xj 16 1 11,xj 17 2 11,xj 18 3 11,qf 5 15,qf 6 16,qf 7 17,qf 8 18] (.cut (.blk 0 (wF (xZ (xq 20) (qy 21 .gtr 20 4) 19 21) 19 (wA [xo 22 2,qp 23 22,wa 24 23,xf 25,wm 26 .neq 24 25,qf 19 26] 19 (.cut (.reg [yf 27,qf 28 27,wS 29 28 1 2,wM 30 28 29,yM 31 28 cF (wZ 30),qH 32 28 (q9 31),xX 33 28 32,qf 19 33]) (xz 19 (.cut (.reg [yf 34,xd 35 34,qf 36 35,wS 37 36 1 2,wM 38 36 37,qH 39 36 (yv .neq 38 yU),xX 40 36 39,qf 19 40]) (xz 19 (.cut (.reg [yE 41,xd 42 41,qf 43 42,wS 44 43 3 2,wM 45 43 44,qH 46 43 (qY 45),xm 47 43 .gtr 46 ww,xX 48 43 47,qf 19 48]) (xz 19 (.cut (.reg [yr 49,xd 50 49,qf 51 50,wS 52 51 4 2,wM 53 51 52,qH 54 51 (qY 53),xm 55 51 .gtr 54 ww,xX 56 51 55,qf 19 56]) (xz 19 (.reg [wR 57 2,qp 58 57,we 59 58 8,qf 60 59,wS 61 60 2 2,wM 62 60 61,qH 63 60 (qO 4 62 ww),wS 64 60 0 63,wM 65 60 64,xm 66 60 .neq 65 (qj 13),xX 67 60 66,qf 19 67])))))))))) (qo 19 (qA [xt]) .skip))) (yW (yA [xo 68 2,qp 69 68,wa 70 69,wQ 71] 1 [wJ 72 71 70] 72 (.exit 1) (yB 2 (qd [wq 73 4 69 71,yS 74 73,qV 10 [qB,qB,qM,.nils],qS 4 10 74] (wl [yS 75 10,xa 76 fj 75,xd 77 76] 77 [xt])) 78 71 71 78)) [ym 79 2,qp 80 79,xq 81,xD 82 81,wE 83 cS 80 82,qf 84 83,wS 85 84 4 2,wM 86 84 85,xQ 87 84 1,xm 88 84 .add 87 wP,yM 89 84 cS (wB 86 (.t 88)),xX 90 84 89,qf 4 90]))
theorem CA:AK.whole sa=FK.ak jy:=rfl
variable (G:aK)
def rM(op:Int):Int:=if op=4 then 2 else if inR op 1 8 then 1 else-1
def kg(op:Int):Bool:=decide (op=5)||decide (op=6)
theorem Cj(op:Int):VF Tryz.prog G gm [.p (.int .i64 op)] (.tup [.p (.int .i64 (rM op)),.p (.bool (cL op)),.p (.bool (kg op)),.p (.bool (decide (op=5)))]):=by
 refine AC.go zl ?_
 by_cases h1:op=1
 ·subst h1;simp-implicitDefEqProofs[bu,rM,inR,cL,kg]
 by_cases h2:op=2
 ·subst h2;simp-implicitDefEqProofs[bu,rM,inR,cL,kg]
 by_cases h3:op=3
 ·subst h3;simp-implicitDefEqProofs[bu,rM,inR,cL,kg]
 by_cases h4:op=4
 ·subst h4;simp-implicitDefEqProofs[bu,rM,inR,cL,kg]
 by_cases h5:op=5
 ·subst h5;simp-implicitDefEqProofs[bu,rM,inR,cL,kg]
 by_cases h6:op=6
 ·subst h6;simp-implicitDefEqProofs[bu,rM,inR,cL,kg]
 by_cases h7:op=7
 ·subst h7;simp-implicitDefEqProofs[bu,rM,inR,cL,kg]
 by_cases h8:op=8
 ·subst h8;simp-implicitDefEqProofs[bu,rM,inR,cL,kg]
 have ha:rM op= -1:=by
  have:inR op 1 8=false:=by simp[inR];omega
  rw[rM,if_neg h4,this];rfl
 have hn:cL op=false:=by simp[cL,h1,h2]
 have hb:kg op=false:=by simp[kg,h5,h6]
 rw[ha,hn,hb]
 simp-implicitDefEqProofs[bu,h1,h2,h3,h4,h5,h6,h7,h8]
def HM:List Ex->Bool
 |a::_=>decide (a.op=13)
 |[]=>false
def ke(s:Sm):Bool:=decide ((s.args.length:Int)=rM s.op)&&(!cL s.op||aP s.name)&&(cL s.op||decide (s.name=[]))&&(kg s.op||decide (s.body=[]))&&(decide (s.op=5)||decide (s.els=[]))&&
 (!decide (s.op=8)||HM s.args)
theorem Lr(s:Sm):fV s=(inR s.op 1 8&&decide (s.args.length=jS s.op)&&(cL s.op==aP s.name)&&(cL s.op||decide (s.name=[]))&&s.args.all lT&&
 (!decide (s.op=8)||HM s.args)&&(s.els.isEmpty||decide (s.op=5))&&(s.body.isEmpty||decide (s.op=5)||decide (s.op=6))):=by
 unfold fV
 cases s.args<;>rfl
theorem FL(s:Sm):fV s=(ke s&&s.args.all lT):=by
 have ha:decide ((s.args.length:Int)=rM s.op)=(inR s.op 1 8&&decide (s.args.length=jS s.op)):=by
  unfold rM jS
  by_cases h4:s.op=4
  ·have:inR s.op 1 8=true:=by simp[inR,h4]
   rw[this,if_pos h4,if_pos h4];simp;omega
  ·rw[if_neg h4,if_neg h4]
   cases h:inR s.op 1 8 with
   |true=>simp;omega
   |false=>simp
 have hn:(cL s.op==aP s.name&&(cL s.op||decide (s.name=[])))=((!cL s.op||aP s.name)&&(cL s.op||decide (s.name=[]))):=by
  cases cL s.op with
  |true=>cases aP s.name<;>rfl
  |false=>
   by_cases h:s.name=[]
   ·rw[h,th];rfl
   ·simp[h]
 have hb:(s.body.isEmpty||decide (s.op=5)||decide (s.op=6))=(kg s.op||decide (s.body=[])):=by
  rw[kg]
  cases s.body<;>cases decide (s.op=5)<;>cases decide (s.op=6)<;>simp
 have he:(s.els.isEmpty||decide (s.op=5))=(decide (s.op=5)||decide (s.els=[])):=by
  cases s.els<;>cases decide (s.op=5)<;>simp
 rw[Lr]
 unfold ke
 rw[ha,hb,he]
 generalize HM s.args=z
 generalize (cL s.op==aP s.name)=c at hn⊢
 generalize (!cL s.op||aP s.name)=c' at hn⊢
 generalize (cL s.op||decide (s.name=[]))=d at hn⊢
 generalize s.args.all lT=x
 generalize (kg s.op||decide (s.body=[]))=y
 generalize (decide (s.op=5)||decide (s.els=[]))=y'
 generalize (!decide (s.op=8))=u
 cases inR s.op 1 8<;>cases decide (s.args.length=jS s.op)<;>cases c<;>cases c'<;>cases d<;>cases x<;>cases y<;>cases y'<;>cases u<;>cases z<;>simp_all
variable (hK:G jg=some iA) (hS:G dX=some [.tbl opK opV])
def Hf(d:Nat)(L:List Sm):Int:=match L.findIdx? (λs=> !aJ d s) with|some i=>i|none=> -1
theorem NG(d:Nat)(L:List Sm):decide (0<=Hf d L)= !(L.all (aJ d)):=by
 unfold Hf
 cases h:L.findIdx? (λx=> !aJ d x) with
 |none=>
  rw[Xd] at h
  have:L.all (aJ d)=true:=WI.2 λx hx=>by have:=h x hx;simpa using this
  simp[this]
 |some i=>
  rw[WU] at h
  obtain⟨h1,h2,_⟩:=h
  have:L.all (aJ d)=false:=List.all_eq_false.2 ⟨_,WN h1,by simpa using h2⟩
  rw[this];simp
theorem vT(d:Nat)(nest:Int)(hs:∀s:Sm,s.sz<=1073741824->VF Tryz.prog G jC [.agg (s.cs.map .p),.p (.int .i64 nest)] (.p (.bool (aJ d s))))(L:List Sm)(hL:aC L<=1073741824):
 VF Tryz.prog G cS [.p (smL L),.p (.int .i64 nest)] (.p (.bool (L.all (aJ d)))):=by
 have hsl:smL L= .lst 5 (L.map Sm.cs):=rfl
 have hll:=bE L
 have dR:∀s:Sm,s.sz<=1073741824->AC Tryz.prog G cH [.agg (s.cs.map .p),.ptr 0 1 0 0] [.row 1 [[.p (.int .i64 nest)]]] λx h=>x= .ret (.p (.bool (!aJ d s)))/\h=[.row 1 [[.p (.int .i64 nest)]]]:=by
  intro s hz
  refine AC.trim (AC.go vn ?_) (by simp[below])
  have hse:=s.cs_eq
  have h1:=hs s hz
  rw[hse] at h1
  simp-implicitDefEqProofs[nv,hse]
  refine h1.use ?_
  simp-implicitDefEqProofs[]
 have idx:AC Tryz.prog G cr [.p (smL L),.fn (.func cH) [.ptr 0 1 0 0]] [.row 1 [[.p (.int .i64 nest)]]] λx h=>x= .ret (.p (.int .i64 (Hf d L)))/\h=[.row 1 [[.p (.int .i64 nest)]]]:=by
  refine AC.go ki ?_
  simp-implicitDefEqProofs[dY,hsl]
  refine aN (λi:Nat=>az 19 [(0,.p (smL L)),(1,.fn (.func cH) [.ptr 0 1 0 0]),(7,.p (.int .i64 L.length)),(8,.p (.int .i64 i))]) (λ_=>[.row 1 [[.p (.int .i64 nest)]]]) (λi=>i<=L.length/\∀w∈L.take i,aJ d w=true) (λi=>L.length-i) 0 (by simp) ?_ ?_
  ·exact an (by simp) (by simp[okO,below]) (by simp[below,ay,hsl])
  ·intro i ⟨hi,hn⟩
   simp-implicitDefEqProofs[hsl]
   refine aO (λh1=>?_) (λh1=>?_)
   ·simp at h1
    have hg:=Wz h1
    have hz:=fe (WN h1)
    simp-implicitDefEqProofs[hg]
    refine(dR L[i] (by omega)).mono ?_
    rintro r h ⟨rfl,rfl⟩
    by_cases he:aJ d L[i]=true
    ·simp-implicitDefEqProofs[aa,he]
     refine⟨i+1,⟨h1,λp hp=>?_⟩,by omega,an (by simp) (by simp[okO,below]) (by simp[below,ay,hsl,w1 (i:=i) (by omega)])⟩
     rw[aq h1] at hp
     rcases WE.1 hp with hp|hp
     ·exact hn p hp
     ·rw[WG.1 hp];exact he
    ·have hf:Hf d L=i:=by
      have:L.findIdx? (λw=> !aJ d w)=some i:=by
       rw[WU]
       exact⟨h1,by simpa using he,λj hj=>by have:=hn L[j] (XA.2 ⟨j,by omega,rfl⟩);simpa using this⟩
      rw[Hf,this]
     simp-implicitDefEqProofs[aa,he,hf]
   ·simp at h1
    rw[WF h1] at hn
    have hf:Hf d L= -1:=by
     have:L.findIdx? (λw=> !aJ d w)=none:=by
      rw[Xd];intro x hx;simpa using hn x hx
     rw[Hf,this]
    simp-implicitDefEqProofs[hf]
 have con:AC Tryz.prog G bT [.p (smL L),.fn (.func cH) [.ptr 0 1 0 0]] [.row 1 [[.p (.int .i64 nest)]]] λx h=>x= .ret (.p (.bool (!L.all (aJ d))))/\h=[.row 1 [[.p (.int .i64 nest)]]]:=by
  refine AC.go iM ?_
  simp-implicitDefEqProofs[dw]
  refine idx.mono ?_
  rintro r h ⟨rfl,rfl⟩
  have:=NG d L
  simp-implicitDefEqProofs[aa]
  simpa using this
 refine AC.go Ao ?_
 simp-implicitDefEqProofs[rc]
 refine con.mono ?_
 rintro r h ⟨rfl,rfl⟩
 simp-implicitDefEqProofs[aa]
include hS hK
theorem LZ:∀d:Nat,d<=4->∀s:Sm,s.sz<=1073741824->VF Tryz.prog G jC [.agg (s.cs.map .p),.p (.int .i64 (5-d))] (.p (.bool (aJ d s))):=by
 intro d
 induction d with
 |zero=>
  intro _ s hz
  have hse:=s.cs_eq
  refine AC.go rY ?_
  simp-implicitDefEqProofs[jy,hse]
  refine(Cj G _).use ?_
  simp-implicitDefEqProofs[aJ]
 |succ d ih=>
  intro hd s hz
  have hse:=s.cs_eq
  have hsz:=s.sz_eq
  have hal:=bL s.args
  have hblk:=vT G d (5-d) (ih (by omega))
  have hnn:(5:Int)-((d+1:Nat):Int)=4-d:=by omega
  have hnw:IntKind.i64.wrap (4-(d:Int)+1)=5-d:=by rw[ab (by omega) (by omega)];omega
  have hn4:¬(4:Int)<4-d:=by omega
  have hxl:exL s.args= .lst 4 (s.args.map Ex.cs):=rfl
  have hsl:∀l,smL l= .lst 5 (l.map Sm.cs):=λ_=>rfl
  rw[hnn]
  have hbad:ke s=false->aJ (d+1) s=false:=λh=>by rw[aJ,FL,h];rfl
  refine AC.goK rY CA ?_
  simp-implicitDefEqProofs[sa,jy,hse]
  refine(Cj G _).use ?_
  simp-implicitDefEqProofs[]
  refine lV (λ_:Unit=>az 91 [(1,.p (.int .i64 (4-d))),(2,.ptr 0 5 0 0)]) (λ_=>[.row 5 [[.p (.int .i64 s.op),.p (.str s.name),.p (exL s.args),.p (smL s.body),.p (smL s.els)]]]) (λ_=>ke s=true) ?_ ?_
  ·have fin:∀(r1:List (Nat × AV)),Aw.look r1 1= .p (.int .i64 (4-d))->Aw.look r1 2= .ptr 0 5 0 0->
    Wk 0 (az 91 r1) [.row 5 [[.p (.int .i64 s.op),.p (.str s.name),.p (exL s.args),.p (smL s.body),.p (smL s.els)]]] (az 91 [(1,.p (.int .i64 (4-d))),(2,.ptr 0 5 0 0)]) [.row 5 [[.p (.int .i64 s.op),.p (.str s.name),.p (exL s.args),.p (smL s.body),.p (smL s.els)]]]:=λr1 a b=>
    an (by simp) (by simp[okO,below]) (by simp[below,a,b])
   have hb0:s.body=[]\/0<s.body.length:=by cases s.body<;>simp
   have he0:s.els=[]\/0<s.els.length:=by cases s.els<;>simp
   by_cases hl:(s.args.length:Int)=rM s.op
   case neg=>
    rw[hbad (by simp[ke,hl])]
    simp-implicitDefEqProofs[hn4,hxl,hl]
   have hel:(decide (s.els=[]))= !decide (0<s.els.length):=by cases s.els<;>simp
   have hbo:(decide (s.body=[]))= !decide (0<s.body.length):=by cases s.body<;>simp
   simp-implicitDefEqProofs[hn4,hxl,hl]
   refine pg (az 91 [(1,.p (.int .i64 (4-d))),(2,.ptr 0 5 0 0),(6,.p (.bool (cL s.op))),(7,.p (.bool (kg s.op))),(8,.p (.bool (decide (s.op=5)))),(19,.p (.bool (cL s.op&& !aP s.name)))]) ([.row 5 [[.p (.int .i64 s.op),.p (.str s.name),.p (exL s.args),.p (smL s.body),.p (smL s.els)]]]) ?_ ?_
   ·cases hn:cL s.op with
    |true=>
     simp-implicitDefEqProofs[]
     refine(pG G hK _ (by omega)).use ?_
     simp-implicitDefEqProofs[]
     exact an (by simp) (by simp[okO,below]) (by simp[below])
    |false=>
     simp-implicitDefEqProofs[]
     exact an (by simp) (by simp[okO,below]) (by simp[below])
   by_cases h2:(cL s.op&& !aP s.name)=true
   ·rw[hbad (by simp only[ke];cases h:cL s.op<;>cases h':aP s.name<;>simp[h,h'] at h2⊢)]
    simp-implicitDefEqProofs[h2]
   have h2':(cL s.op&& !aP s.name)=false:=by simpa using h2
   rw[h2']
   simp-implicitDefEqProofs[]
   refine pg (az 91 [(1,.p (.int .i64 (4-d))),(2,.ptr 0 5 0 0),(6,.p (.bool (cL s.op))),(7,.p (.bool (kg s.op))),(8,.p (.bool (decide (s.op=5)))),(19,.p (.bool (!cL s.op&& !decide (s.name=[]))))]) ([.row 5 [[.p (.int .i64 s.op),.p (.str s.name),.p (exL s.args),.p (smL s.body),.p (smL s.els)]]]) ?_ ?_
   ·cases hn:cL s.op with
    |true=>
     simp-implicitDefEqProofs[]
     exact an (by simp) (by simp[okO,below]) (by simp[below])
    |false=>
     simp-implicitDefEqProofs[]
     exact an (by simp) (by simp[okO,below]) (by simp[below])
   by_cases h3:(!cL s.op&& !decide (s.name=[]))=true
   ·rw[hbad (by simp only[ke];cases h:cL s.op<;>cases h':decide (s.name=[])<;>simp[h,h'] at h3⊢)]
    simp-implicitDefEqProofs[h3]
   have h3':(!cL s.op&& !decide (s.name=[]))=false:=by simpa using h3
   rw[h3']
   simp-implicitDefEqProofs[]
   refine pg (az 91 [(1,.p (.int .i64 (4-d))),(2,.ptr 0 5 0 0),(6,.p (.bool (cL s.op))),(7,.p (.bool (kg s.op))),(8,.p (.bool (decide (s.op=5)))),(19,.p (.bool (!kg s.op&&decide (0<s.body.length))))]) ([.row 5 [[.p (.int .i64 s.op),.p (.str s.name),.p (exL s.args),.p (smL s.body),.p (smL s.els)]]]) ?_ ?_
   ·cases hn:kg s.op with
    |true=>
     simp-implicitDefEqProofs[hsl]
     exact an (by simp) (by simp[okO,below]) (by simp[below])
    |false=>
     simp-implicitDefEqProofs[hsl]
     exact an (by simp) (by simp[okO,below]) (by simp[below])
   by_cases h4:(!kg s.op&&decide (0<s.body.length))=true
   ·rw[hbad (by simp only[ke,hbo];cases h:kg s.op<;>cases h':decide (0<s.body.length)<;>simp[h,h'] at h4⊢)]
    simp-implicitDefEqProofs[h4]
   have h4':(!kg s.op&&decide (0<s.body.length))=false:=by simpa using h4
   rw[h4']
   simp-implicitDefEqProofs[]
   refine pg (az 91 [(1,.p (.int .i64 (4-d))),(2,.ptr 0 5 0 0),(6,.p (.bool (cL s.op))),(7,.p (.bool (kg s.op))),(8,.p (.bool (decide (s.op=5)))),(19,.p (.bool (!decide (s.op=5)&&decide (0<s.els.length))))]) ([.row 5 [[.p (.int .i64 s.op),.p (.str s.name),.p (exL s.args),.p (smL s.body),.p (smL s.els)]]]) ?_ ?_
   ·cases hn:decide (s.op=5) with
    |true=>
     simp-implicitDefEqProofs[hsl]
     exact an (by simp) (by simp[okO,below]) (by simp[below])
    |false=>
     simp-implicitDefEqProofs[hsl]
     exact an (by simp) (by simp[okO,below]) (by simp[below])
   by_cases h5:(!decide (s.op=5)&&decide (0<s.els.length))=true
   ·rw[hbad (by simp only[ke,hel];cases h:decide (s.op=5)<;>cases h':decide (0<s.els.length)<;>simp[h,h'] at h5⊢)]
    simp-implicitDefEqProofs[h5]
   have h5':(!decide (s.op=5)&&decide (0<s.els.length))=false:=by simpa using h5
   rw[h5']
   have hh1:ke s=(!decide (s.op=8)||HM s.args):=by
    simp only[ke,hl,decide_true,Bool.true_and,hel,hbo]
    cases h:cL s.op<;>cases hi:aP s.name<;>cases hm:decide (s.name=[])<;>cases hb:kg s.op<;>cases hc:decide (0<s.body.length)<;>cases ho:decide (s.op=5)<;>cases he:decide (0<s.els.length)<;>simp[h,hi,hm,hb,hc,ho,he] at h2' h3' h4' h5'⊢
   by_cases o8:s.op=8
   ·have ha1:s.args.length=1:=by
     have:rM s.op=1:=by rw[o8];rfl
     omega
    obtain⟨a0,ha0⟩:∃a0,s.args=[a0]:=by
     match hh:s.args,ha1 with
     |[x],_=>exact⟨x,rfl⟩
    have hae:=a0.cs_eq
    rw[hh1,o8,ha0]
    rw[o8,ha0] at fin
    have hxa:exL [a0]= .lst 4 [a0.cs]:=rfl
    by_cases hc:a0.op=13
    ·have h13:HM [a0]=true:=by simp[HM,hc]
     simp-implicitDefEqProofs[o8,hae,hc,h13,hxa]
     rw[hxa,hae,hc] at fin
     exact fin _ (by simp) (by simp)
    ·rw[hbad (by rw[hh1,o8,ha0];simp[HM,hc])]
     simp-implicitDefEqProofs[o8,hae,hc,hxa]
   ·have hh2:ke s=true:=by rw[hh1];simp[o8]
    simp-implicitDefEqProofs[o8,hh2]
    exact fin _ (by simp) (by simp)
  intro _ h1
  have hh:aJ (d+1) s=(s.args.all lT&&(s.body.all (aJ d)&&s.els.all (aJ d))):=by rw[aJ,FL,h1,Bool.true_and,Bool.and_assoc]
  simp-implicitDefEqProofs[hxl]
  refine aN (λi:Nat=>az 91 [(1,.p (.int .i64 (4-d))),(2,.ptr 0 5 0 0),(69,.p (exL s.args)),(70,.p (.int .i64 s.args.length)),(71,.p (.int .i64 i))]) (λ_=>[.row 5 [[.p (.int .i64 s.op),.p (.str s.name),.p (exL s.args),.p (smL s.body),.p (smL s.els)]]]) (λi=>i<=s.args.length/\(s.args.take i).all lT=true) (λi=>s.args.length-i) 0 (by simp) ?_ ?_
  ·exact an (by simp) (by simp[okO,below]) (by simp[below,hxl])
  rintro i ⟨hi,ha⟩
  simp-implicitDefEqProofs[hxl]
  refine aO (λh=>?_) (λh=>?_)
  ·simp at h
   have hg:=Wz h
   have hks:=cQ (WN h)
   have hkc:=s.args[i].cs_eq
   have hx:=GM G hK hS s.args[i] (by omega)
   rw[hkc] at hx
   simp-implicitDefEqProofs[hg,hkc]
   refine hx.use ?_
   by_cases ho:lT s.args[i]=true
   ·simp-implicitDefEqProofs[ho]
    refine⟨i+1,⟨h,by rw[←WI,ew h,ha,ho];rfl⟩,by omega,?_⟩
    refine dC (m:=1) (by omega) (bW rfl rfl (by simp[okO,below])) (by simp[below,hxl,w1 (i:=i) (by omega)])
   ·have ho':lT s.args[i]=false:=by simpa using ho
    rw[hh,oh h ho']
    simp-implicitDefEqProofs[ho']
  ·simp at h
   have ha2:s.args.all lT=true:=ij h ha
   rw[hh,ha2,Bool.true_and]
   simp-implicitDefEqProofs[hnw]
   refine(hblk s.body (by omega)).use ?_
   cases hb:s.body.all (aJ d) with
   |true=>
    simp-implicitDefEqProofs[hnw]
    refine(hblk s.els (by omega)).use ?_
    simp-implicitDefEqProofs[]
   |false=>
    simp-implicitDefEqProofs[]
end
section
variable (G:aK)
structure Vis (σ:Type) where
 I:σ->List AO
 n:Nat
 F:FuncId
 caps:List AV
 len:∀st,(I st).length=n
 ok:∀st,∀o∈I st,okO n o
 capsOk:ay n caps
theorem Vis.pre{σ:Type}(V:Vis σ){f:FuncId}{args:List AV}{st st':σ}{v:AV}(H:AC Tryz.prog G f args (V.I st) λx h=>x= .ret v/\h=V.I st')(rest:List AO)(ha:ay V.n args):
 AC Tryz.prog G f args (V.I st++rest) λx h=>x= .ret v/\h=V.I st'++rest:=by
 refine(AC.pre H rest (by rw[V.len];exact ha) (by rw[V.len];exact V.ok st) ?_).mono ?_
 ·rintro x h ⟨_,rfl⟩;rw[V.len,V.len]
 ·rintro x h ⟨h1,⟨rfl,rfl⟩,rfl⟩
  exact⟨rfl,rfl⟩
theorem Vis.trim{σ:Type}(V:Vis σ){f:FuncId}{args:List AV}{st st':σ}{v:AV}(H:AC Tryz.prog G f args (V.I st) λx h=>x= .ret v/\∃l,h=V.I st'++l)(hv:below V.n v):
 AC Tryz.prog G f args (V.I st) λx h=>x= .ret v/\h=V.I st':=by
 refine H.wk (λt v h ⟨e,_⟩=>by cases e) ?_
 rintro u h ⟨e,l,rfl⟩
 cases e
 refine⟨v,V.I st',Ak (n:=V.n) (by rw[V.len];exact WK _) (bW (by rw[←V.len st',List.take_left'];rfl) (V.len _) (V.ok _)) ?_,rfl,rfl⟩
 simp[Fgt,hv]
theorem ty{n m:Nat}(h:n<=m){o:AO}(ho:okO n o):okO m o:=by
 cases o with
 |dead=>trivial
 |sit=>trivial
 |row sz es=>exact λe he=>aR h _ (ho e he)
 |mp es=>exact λe he=>(aR h [e.2] ⟨ho e he,trivial⟩).1
theorem Vis.oks{σ:Type}(V:Vis σ)(st:σ){m:Nat}(hm:V.n<=m){r:List AO}(hr:∀o∈r,okO m o):∀o∈V.I st++r,okO m o:=by
 intro o ho
 rcases WE.1 ho with h|h
 ·exact ty hm (V.ok st o h)
 ·exact hr o h
theorem Vis.same{σ:Type}(V:Vis σ)(st:σ){k n:Nat}(hk:k<=V.n){r s:List AO}{l l1:List (Nat × AV)}(hr:∀o∈r,okO (V.n+r.length) o)(H:FgA (V.n+r.length) l l1):Wk k (az n l) (V.I st++(r++s)) (az n l1) (V.I st++r):=by
 have hl:(V.I st++r).length=V.n+r.length:=by rw[WL,V.len]
 refine dC (m:=V.n+r.length) (by omega) (bW ?_ hl (V.oks st (by omega) hr)) H
 rw[←Xi,←hl,List.take_left'];rfl
theorem Vis.same0{σ:Type}(V:Vis σ)(st:σ){k n:Nat}(hk:k<=V.n){s:List AO}{l l1:List (Nat × AV)}(H:FgA V.n l l1):Wk k (az n l) (V.I st++s) (az n l1) (V.I st):=by
 refine dC (m:=V.n) (by omega) (bW ?_ (V.len _) (V.ok st)) H
 rw[←V.len st,List.take_left'];rfl
theorem Qe{α:Type}{a b:List α}{n:Nat}(h:a.length=n)(i:Nat):(a++b)[n+i]?=b[i]?:=by
 rw[←h,WD (by omega)];congr 1;omega
theorem Pe{σ:Type}(V:Vis σ)(step:σ->Ex->σ)(inv:σ->Prop)(B:Nat)(hB:B<=1073741824)
 (hv:∀st e,inv st->e.sz<=B->inv (step st e)/\AC Tryz.prog G V.F (.agg (e.cs.map .p)::V.caps) (V.I st) λx h=>x= .ret (.tup [])/\h=V.I (step st e)):
 ∀(N:Nat) (e:Ex),e.sz<N->e.sz<=B->∀st,inv st->inv (e.pre.foldl step st)/\AC Tryz.prog G kO [.agg (e.cs.map .p),.fn (.func V.F) V.caps] (V.I st) λx h=>x= .ret (.tup [])/\h=V.I (e.pre.foldl step st):=by
 intro N
 induction N with
 |zero=>intro e h;omega
 |succ N ih=>
  intro e he hz st hi
  have hec:=e.cs_eq
  have hsz:=e.sz_eq
  have hkl:=bL e.kids
  have hxl:exL e.kids= .lst 4 (e.kids.map Ex.cs):=rfl
  have hlen:=V.len
  obtain⟨i1,h1⟩:=hv st e hi hz
  have hinv:∀i,i<=e.kids.length->inv ((eB (e.kids.take i)).foldl step (step st e)):=by
   intro i
   induction i with
   |zero=>intro _;exact i1
   |succ i ihi=>
    intro hl
    have hg:i<e.kids.length:=by omega
    have hks:=cQ (WN hg)
    rw[aq hg,tu,XG,eB,eB,WT]
    exact(ih e.kids[i] (by omega) (by omega) _ (ihi (by omega))).1
  refine⟨?_,?_⟩
  ·rw[Ex.pre_eq,List.foldl_cons]
   have:=hinv e.kids.length (WK _)
   rwa[WZ] at this
  refine V.trim G (AC.go Ee ?_) (by simp[below])
  have hcb:=V.capsOk
  have hcb1:ay (V.n+1) V.caps:=aR (by omega) _ hcb
  rw[hec] at h1
  simp-implicitDefEqProofs[tO,hec,hlen]
  refine(V.pre G h1 _ ⟨by simp[below],hcb⟩).mono ?_
  rintro r h ⟨rfl,rfl⟩
  simp-implicitDefEqProofs[aa,hlen,hxl]
  refine aN (λi:Nat=>az 20 [(1,.fn (.func V.F) V.caps),(2,.ptr V.n 4 0 0),(10,.p (exL e.kids)),(11,.p (.int .i64 e.kids.length)),(12,.p (.int .i64 i))])
   (λi=>V.I ((eB (e.kids.take i)).foldl step (step st e))++[.row 4 [[.p (.int .i64 e.op),.p (.int .i64 e.n),.p (.str e.name),.p (exL e.kids)]]]) (λi=>i<=e.kids.length) (λi=>e.kids.length-i) 0 (by simp) ?_ ?_
  ·refine V.same (r:=[_]) (s:=[]) _ (WK _) (by simp[okO,below]) ?_
   simp[below,hxl,hcb1]
  intro i hil
  simp-implicitDefEqProofs[hxl]
  refine aO (λhc=>?_) (λhc=>?_)
  ·simp at hc
   have hg:=Wz hc
   have hks:=cQ (WN hc)
   have hkc:=e.kids[i].cs_eq
   have hI:=(ih e.kids[i] (by omega) (by omega) _ (hinv i hil)).2
   rw[hkc] at hI
   simp-implicitDefEqProofs[hg,hkc,hlen]
   refine(V.pre G hI _ ⟨by simp[below],by simp[below,hcb],trivial⟩).mono ?_
   rintro r h ⟨rfl,rfl⟩
   simp-implicitDefEqProofs[aa]
   refine⟨i+1,hc,by omega,?_⟩
   have hf:(eB (e.kids.take (i+1))).foldl step (step st e)=e.kids[i].pre.foldl step ((eB (e.kids.take i)).foldl step (step st e)):=by
    rw[aq hc,tu,XG,eB,eB,WT]
   rw[hf]
   refine V.same (r:=[_]) (s:=[_]) _ (WK _) (by simp[okO,below]) ?_
   simp[below,hxl,hcb1,w1 (i:=i) (by omega)]
  ·simp at hc
   have hie:i=e.kids.length:=by omega
   subst hie
   rw[WZ,Ex.pre_eq,List.foldl_cons]
   simp-implicitDefEqProofs[]
theorem IZ{σ:Type}(V:Vis σ)(step:σ->Sm × Nat->σ)(inv:σ->Prop)(B:Nat)(hB:B<=1073741824)
 (hv:∀st s d,inv st->s.sz<=B->inv (step st (s,d))/\AC Tryz.prog G V.F (.agg (s.cs.map .p):: .p (.int .i64 (d:Nat))::V.caps) (V.I st) λx h=>x= .ret (.tup [])/\h=V.I (step st (s,d))):
 ∀(N:Nat) (l:List Sm),aC l<N->aC l<=B->∀(d:Nat),d+aC l<=1099511627776->∀st,inv st->inv ((aY d l).foldl step st)/\AC Tryz.prog G dm [.p (smL l),.p (.int .i64 d),.fn (.func V.F) V.caps] (V.I st) λx h=>x= .ret (.tup [])/\h=V.I ((aY d l).foldl step st):=by
 intro N
 induction N with
 |zero=>intro l h;omega
 |succ N ih=>
  intro l hl hz d hd st hi
  have hll:=bE l
  have hlen:=V.len
  have hsl:∀l,smL l= .lst 5 (l.map Sm.cs):=λ_=>rfl
  have hone:∀s:Sm,s∈l->∀st,inv st->inv ((s.pre d).foldl step st):=by
   intro s hs st hi
   have hm:=fe hs
   have hsz:=s.sz_eq
   have i1:=(hv st s d hi (by omega)).1
   have i2:=(ih s.body (by omega) (by omega) (d+1) (by omega) _ i1).1
   have i3:=(ih s.els (by omega) (by omega) (d+1) (by omega) _ i2).1
   rw[Sm.pre_eq,List.foldl_cons,XG]
   exact i3
  have hinv:∀i,i<=l.length->inv ((aY d (l.take i)).foldl step st):=by
   intro i
   induction i with
   |zero=>intro _;exact hi
   |succ i ihi=>
    intro hl
    have hg:i<l.length:=by omega
    rw[aq hg,nW,XG,aY,aY,WT]
    exact hone _ (WN hg) _ (ihi (by omega))
  refine⟨?_,?_⟩
  ·have:=hinv l.length (WK _)
   rwa[WZ] at this
  refine V.trim G (AC.go uc ?_) (by simp[below])
  have hcb:=V.capsOk
  simp-implicitDefEqProofs[nU,hsl]
  refine aN (λi:Nat=>az 31 [(1,.p (.int .i64 d)),(2,.fn (.func V.F) V.caps),(8,.p (smL l)),(9,.p (.int .i64 l.length)),(10,.p (.int .i64 i))])
   (λi=>V.I ((aY d (l.take i)).foldl step st)) (λi=>i<=l.length) (λi=>l.length-i) 0 (by simp) ?_ ?_
  ·rw[hlen]
   have:=V.same0 (s:=[]) st (k:=V.n) (n:=31) (WK _) (l:=[(10,.p (.int .i64 0)),(9,.p (.int .i64 l.length)),(8,.p (smL l)),(0,.p (smL l)),(1,.p (.int .i64 d)),(2,.fn (.func V.F) V.caps)]) (l1:=[(1,.p (.int .i64 d)),(2,.fn (.func V.F) V.caps),(8,.p (smL l)),(9,.p (.int .i64 l.length)),(10,.p (.int .i64 0))]) (by simp[below,hcb])
   rw[WT] at this
   exact this
  intro i hil
  simp-implicitDefEqProofs[hsl]
  refine aO (λhc=>?_) (λhc=>?_)
  ·simp at hc
   have hg:=Wz hc
   have hks:=fe (WN hc)
   have hkc:=l[i].cs_eq
   have hsz:=l[i].sz_eq
   have hf:(aY d (l.take (i+1))).foldl step st=(l[i].pre d).foldl step ((aY d (l.take i)).foldl step st):=by
    rw[aq hc,nW,XG,aY,aY,WT]
   have ii:=hinv i hil
   obtain⟨i1,h1⟩:=hv _ l[i] d ii (by omega)
   obtain⟨i2,h2⟩:=ih l[i].body (by omega) (by omega) (d+1) (by omega) _ i1
   obtain⟨i3,h3⟩:=ih l[i].els (by omega) (by omega) (d+1) (by omega) _ i2
   rw[Sm.pre_eq,List.foldl_cons,XG] at hf
   have hwd:IntKind.i64.wrap ((d:Int)+1)=((d+1:Nat):Int):=by rw[ab (by omega) (by omega)];omega
   rw[hkc] at h1
   simp-implicitDefEqProofs[hg,hkc,hlen]
   refine(V.pre G h1 _ ⟨by simp,by simp,hcb⟩).mono ?_
   rintro r h ⟨rfl,rfl⟩
   simp-implicitDefEqProofs[aa,hlen,hwd]
   refine(V.pre G h2 _ ⟨by simp,by simp,by simp[below,hcb],trivial⟩).mono ?_
   rintro r h ⟨rfl,rfl⟩
   simp-implicitDefEqProofs[aa,hlen,hwd]
   refine(V.pre G h3 _ ⟨by simp,by simp,by simp[below,hcb],trivial⟩).mono ?_
   rintro r h ⟨rfl,rfl⟩
   simp-implicitDefEqProofs[aa]
   refine⟨i+1,hc,by omega,?_⟩
   rw[hf]
   refine V.same0 (s:=[_]) _ (WK _) ?_
   simp[below,hsl,hcb,w1 (i:=i) (by omega)]
  ·simp at hc
   have hie:i=l.length:=by omega
   subst hie
   rw[WZ]
   simp-implicitDefEqProofs[]
end
section
variable (G:aK)
abbrev MS:=Int × Int
def sG(st:MS)(x:Sm × Nat):MS:=(IntKind.i64.wrap (st.1+1),if st.2<(x.2:Int) then(x.2:Int) else st.2)
def sJ(l:List Fd)(st:MS):MS:=l.foldl (λst f=>(aY 1 f.body).foldl sG st) st
theorem AT:∀(l:List (Sm × Nat)) (st:MS),0<=st.1->st.1+l.length<=1099511627776->(l.foldl sG st).1=st.1+l.length
 |[],st,_,_=>by simp
 |x::r,st,h0,h=>by
  have hw:IntKind.i64.wrap (st.1+1)=st.1+1:=ab (by omega) (by simp at h;omega)
  rw[List.foldl_cons,AT r _ (by simp only[sG,hw];omega) (by simp only[sG,hw];simp at h;omega)]
  simp only[sG,hw,WP]
  omega
theorem Bg:∀(l:List Fd) (st:MS),0<=st.1->st.1+lU l<=1099511627776->(sJ l st).1=st.1+lU l
 |[],st,_,_=>by simp[sJ,lU]
 |f::r,st,h0,h=>by
  have ha:lU (f::r)=dG f.body+lU r:=by simp[lU]
  have hs:=AT (aY 1 f.body) st h0 (by rw[lm];omega)
  rw[lm] at hs
  have:=Bg r ((aY 1 f.body).foldl sG st) (by omega) (by omega)
  simp only[sJ,List.foldl_cons] at this⊢
  omega
theorem HL{l:List Fd}{st:MS}{i:Nat}(h:i<l.length):sJ (l.take (i+1)) st=(aY 1 l[i].body).foldl sG (sJ (l.take i) st):=by
 rw[sJ,aq h,XG];rfl
def oY(p:PV):Vis MS where
 I:=λst=>[.row 1 [[.p p]],.row 1 [[.p (.int .i64 st.1)]],.row 1 [[.p (.int .i64 st.2)]]]
 n:=3
 F:=fm
 caps:=[.ptr 1 1 0 0,.ptr 2 1 0 0]
 len:=λ_=>rfl
 ok:=λst=>by simp[okO,below]
 capsOk:=by simp[below]
theorem Gg(p:PV)(st:MS)(s:Sm)(d:Nat):AC Tryz.prog G fm [.agg (s.cs.map .p),.p (.int .i64 d),.ptr 1 1 0 0,.ptr 2 1 0 0] ((oY p).I st) λx h=>x= .ret (.tup [])/\h=(oY p).I (sG st (s,d)):=by
 refine(oY p).trim G (AC.go vr ?_) (by simp[below])
 have hse:=s.cs_eq
 simp-implicitDefEqProofs[nh,hse,oY,sG]
theorem Ki(l:List Fd)(hl:aZ l<=1073741824):VF Tryz.prog G lQ [.agg [.p (fdL l)]] (.tup [.p (.int .i64 (lU l)),.p (.int .i64 (sJ l (0,0)).2)]):=by
 refine AC.go BU ?_
 have hll:=dK l
 have hfl:∀l,fdL l= .lst 3 (l.map Fd.cs):=λ_=>rfl
 have hn:(sJ l (0,0)).1=lU l:=by rw[Bg l (0,0) (by simp) (by simp only;have:=Ea l;omega)];simp
 simp-implicitDefEqProofs[px,hfl]
 refine aN (λi:Nat=>az 20 [(2,.ptr 1 1 0 0),(3,.ptr 2 1 0 0),(7,.p (fdL l)),(8,.p (.int .i64 l.length)),(9,.p (.int .i64 i))])
  (λi=>(oY (fdL l)).I (sJ (l.take i) (0,0))) (λi=>i<=l.length) (λi=>l.length-i) 0 (by simp) ?_ ?_
 ·exact an (h:=(oY (fdL l)).I (0,0)) (by simp) ((oY (fdL l)).ok _) (by simp[below,hfl,oY])
 intro i hil
 simp-implicitDefEqProofs[hfl]
 refine aO (λhc=>?_) (λhc=>?_)
 ·simp at hc
  have hg:=Wz hc
  have hks:=dp (WN hc)
  have hcs:l[i].cs=[.str l[i].name,aL l[i].params,smL l[i].body]:=rfl
  have hfz:l[i].sz=1+l[i].name.length+(l[i].params.length+(l[i].params.map List.length).sum)+aC l[i].body:=rfl
  have hI:=(IZ G (oY (fdL l)) sG (λ_=>True) 1073741824 (by omega) (λst s d _ _=>⟨trivial,Gg G _ st s d⟩) (aC l[i].body+1) l[i].body (by omega) (by omega) 1 (by omega) (sJ (l.take i) (0,0)) trivial).2
  have hlen:=(oY (fdL l)).len
  have h3:(oY (.lst 3 (l.map Fd.cs))).n=3:=rfl
  have hlen':∀st,((oY (.lst 3 (l.map Fd.cs))).I st).length=3:=λ_=>rfl
  simp-implicitDefEqProofs[hg,hcs,hlen']
  refine((oY (fdL l)).pre G hI [_] ⟨by simp,by simp,by simp[below,oY],trivial⟩).mono ?_
  rintro r h ⟨rfl,rfl⟩
  simp-implicitDefEqProofs[aa]
  refine⟨i+1,hc,by omega,?_⟩
  rw[HL hc]
  refine(oY (fdL l)).same0 (s:=[_]) _ (by simp[oY]) ?_
  simp[below,hfl,oY,w1 (i:=i) (by omega)]
 ·simp at hc
  have hie:i=l.length:=by omega
  subst hie
  rw[WZ]
  simp-implicitDefEqProofs[oY,hn]
theorem vK(hK:G jg=some iA)(s:List UInt8)(hb:s.length<=140737488355328):VF Tryz.prog G bB [.p (.str s)] (.p (.bool (!aP s))):=by
 refine AC.go oU ?_
 simp-implicitDefEqProofs[iU]
 refine(pG G hK s hb).use ?_
 simp-implicitDefEqProofs[]
def Hx(L:List (List UInt8)):Int:=match L.findIdx? (λw=> !aP w) with|some i=>i|none=> -1
theorem NY(L:List (List UInt8)):decide (0<=Hx L)= !(L.all aP):=by
 unfold Hx
 cases h:L.findIdx? (λx=> !aP x) with
 |none=>
  rw[Xd] at h
  have:L.all aP=true:=WI.2 λx hx=>by have:=h x hx;simpa using this
  simp[this]
 |some i=>
  rw[WU] at h
  obtain⟨h1,h2,_⟩:=h
  have:L.all aP=false:=List.all_eq_false.2 ⟨_,WN h1,by simpa using h2⟩
  rw[this];simp
theorem MK{L:List (List UInt8)}{n:Nat}(h:(L.map List.length).sum<=n):∀x∈L,x.length<=n:=by
 induction L with
 |nil=>intro x hx;cases hx
 |cons y r ih=>
  intro x hx
  simp only[WY,List.sum_cons] at h
  rcases WC.1 hx with rfl|hx
  ·omega
  ·exact ih (by omega) x hx
variable (hK:G jg=some iA)
include hK
theorem Hp(L:List (List UInt8))(hb:L.length<=1073741824)(hw:∀x∈L,x.length<=140737488355328):VF Tryz.prog G dg [.p (aL L),.fn (.func bB) []] (.p (.int .i64 (Hx L))):=by
 refine AC.go lS ?_
 have hsl:aL L= .lst 1 (L.map λw=>[.str w]):=rfl
 simp-implicitDefEqProofs[ft,hsl]
 refine aN (λi:Nat=>az 19 [(0,.p (aL L)),(1,.fn (.func bB) []),(6,.p (aL L)),(7,.p (.int .i64 L.length)),(8,.p (.int .i64 i))]) (λ_=>[]) (λi=>i<=L.length/\∀w∈L.take i,aP w=true) (λi=>L.length-i) 0 (by simp) ?_ ?_
 ·exact an (by simp) (by simp[okO]) (by simp[below,ay,aL])
 ·intro i ⟨hi,hn⟩
  simp-implicitDefEqProofs[hsl]
  refine aO (λh1=>?_) (λh1=>?_)
  ·simp at h1
   have hg:=Wz h1
   simp-implicitDefEqProofs[hg]
   refine(vK G hK _ (hw _ (WN h1))).use ?_
   by_cases he:aP L[i]=true
   ·simp-implicitDefEqProofs[he]
    refine⟨i+1,⟨h1,λp hp=>?_⟩,by omega,an (by simp) (by simp[okO]) ?_⟩
    ·rw[aq h1] at hp
     rcases WE.1 hp with hp|hp
     ·exact hn p hp
     ·rw[WG.1 hp];exact he
    ·simp[below,ay,aL,w1 (i:=i) (by omega)]
   ·have hf:Hx L=i:=by
     have:L.findIdx? (λw=> !aP w)=some i:=by
      rw[WU]
      exact⟨h1,by simpa using he,λj hj=>by have:=hn L[j] (XA.2 ⟨j,by omega,rfl⟩);simpa using this⟩
     rw[Hx,this]
    simp-implicitDefEqProofs[he,hf]
  ·simp at h1
   rw[WF h1] at hn
   have hf:Hx L= -1:=by
    have:L.findIdx? (λw=> !aP w)=none:=by
     rw[Xd];intro x hx;simpa using hn x hx
    rw[Hx,this]
   simp-implicitDefEqProofs[hf]
theorem CQ(L:List (List UInt8))(hb:L.length<=1073741824)(hw:∀x∈L,x.length<=140737488355328):VF Tryz.prog G co [.p (aL L),.fn (.func bB) []] (.p (.bool (!L.all aP))):=by
 rw[←NY]
 refine AC.go ko ?_
 simp-implicitDefEqProofs[dZ]
 refine(Hp G hK L hb hw).use ?_
 simp-implicitDefEqProofs[]
variable (hS:G dX=some [.tbl opK opV])
include hS
theorem BT(l:List Fd)(hl:aZ l<=1073741824):VF Tryz.prog G fG [.agg [.p (fdL l)]] (.p (.bool (bp l))):=by
 refine AC.go rI ?_
 have hll:=dK l
 have hfl:∀l,fdL l= .lst 3 (l.map Fd.cs):=λ_=>rfl
 have hm:=Ki G l hl
 rw[hfl] at hm
 simp-implicitDefEqProofs[kI,hfl]
 refine(cb G _ _ _).use ?_
 by_cases h1:inR l.length 1 4=true
 case neg=>simp-implicitDefEqProofs[h1,bp]
 simp-implicitDefEqProofs[h1]
 refine aN (λi:Nat=>az 48 [(1,.ptr 0 1 0 0),(13,.p (fdL l)),(14,.p (.int .i64 l.length)),(15,.p (.int .i64 i))]) (λ_=>[.row 1 [[.p (.lst 3 (l.map Fd.cs))]]]) (λi=>i<=l.length/\(l.take i).all jX=true) (λi=>l.length-i) 0 (by simp) (an (by simp) (by simp[okO]) (by simp[below,hfl])) ?_
 intro i ⟨hi,ha⟩
 simp-implicitDefEqProofs[hfl]
 refine aO (λh=>?_) (λh=>?_)
 ·simp at h
  have hg:=Wz h
  have hks:=dp (WN h)
  have hbadF:jX l[i]=false->bp l=false:=λhk'=>by simp only[bp,oh h hk',Bool.and_false,Bool.false_and]
  have hcs:l[i].cs=[.str l[i].name,aL l[i].params,smL l[i].body]:=rfl
  have hfz:l[i].sz=1+l[i].name.length+(l[i].params.length+(l[i].params.map List.length).sum)+aC l[i].body:=rfl
  have hokF:jX l[i]=(l[i].params.all aP&&aP l[i].name&&decide (l[i].params.length<=3)&&l[i].body.all (aJ 4)):=rfl
  have hblk:=vT G 4 1 (λs hs=>by simpa using LZ G hK hS 4 (by omega) s hs) l[i].body (by omega)
  have hcon:=CQ G hK l[i].params (by omega) (MK (by omega))
  have hst:aL l[i].params= .lst 1 (l[i].params.map λw=>[.str w]):=rfl
  generalize l[i]=f at*
  rw[hst] at hcon
  simp-implicitDefEqProofs[hg,hcs,hst]
  refine(pG G hK _ (by omega)).use ?_
  by_cases k1:aP f.name=true
  case neg=>
   rw[hbadF (by rw[hokF];simp[k1])]
   simp-implicitDefEqProofs[k1]
  by_cases k2:f.params.length<=3
  case neg=>
   have k2':(3:Int)<f.params.length:=by omega
   rw[hbadF (by rw[hokF];simp[k2])]
   simp-implicitDefEqProofs[k1,k2']
  have k2':¬(3:Int)<f.params.length:=by omega
  simp-implicitDefEqProofs[k1,k2']
  refine hcon.use ?_
  by_cases k3:f.params.all aP=true
  case neg=>
   have k3':f.params.all aP=false:=by simpa using k3
   rw[hbadF (by rw[hokF,k3'];simp)]
   simp-implicitDefEqProofs[k3']
  simp only[k3]
  simp-implicitDefEqProofs[]
  refine hblk.use ?_
  by_cases k4:f.body.all (aJ 4)=true
  case neg=>
   have k4':f.body.all (aJ 4)=false:=by simpa using k4
   rw[hbadF (by rw[hokF,k4'];simp)]
   simp only[k4']
   simp-implicitDefEqProofs[]
  simp only[k4]
  simp-implicitDefEqProofs[]
  have hk:jX f=true:=by rw[hokF,k1,k3,k4];simp[k2]
  refine⟨i+1,⟨h,by rw[←WI,rk hg,ha,hk];rfl⟩,by omega,dC (m:=1) (by omega) (bW rfl rfl (by simp[okO,below])) (by simp[below,hfl,w1 (i:=i) (by omega)])⟩
 ·simp at h
  have h2:l.all jX=true:=ij h ha
  simp-implicitDefEqProofs[]
  refine hm.use ?_
  have hff:bp l=decide (lU l<=40):=by simp only[bp,h1,h2,Bool.true_and]
  simp-implicitDefEqProofs[hff]
  omega
end
end Go.Proofs.YtghpabfdmbdpfaaGreatDoor
