/-
  Contracts and lemmas that the card needs, part 5.
-/
import Derived.Test.YtokiapglmedipaaGreatDoorFo4
import Derived.Laws.RangeAny
import Derived.Laws.RangeString
namespace Go.Proofs.YtokiapglmedipaaGreatDoor
open Go Go.Aw
set_option maxRecDepth 100000
set_option maxHeartbeats 4000000
section
theorem al{α:Type}{xs:List α}{i:Nat}(h:i<xs.length):xs.take (i+1)=xs.take i++[xs[i]]:=by
 rw[List.take_add_one,Zu h];rfl
def yS(l:List Int):PV:= .lst 1 (l.map λn=>[.int .u8 n])
def bz(l:List Int):PV:= .lst 1 (l.map λn=>[.int .i64 n])
def Yr(l:List Int):List (List AV):=l.map λn=>[.p (.int .i64 n)]
def jb(l:List Int):AO:= .row 1 (l.map λn=>[.p (.int .i64 n)])
def au(l:List (List UInt8)):PV:= .lst 1 (l.map λw=>[.str w])
def Zh(l:List (List UInt8)):List (List AV):=l.map λw=>[.p (.str w)]
def fV(l:List (List UInt8)):AO:= .row 1 (l.map λn=>[.p (.str n)])
theorem AA(l:List Int):∀x∈Yr l,aj 0 x:=by
 intro x hx;obtain⟨m,_,rfl⟩:=ZN.1 hx;simp[aj,below]
theorem sJ(l:List (List UInt8)):∀x∈Zh l,aj 0 x:=by
 intro x hx;obtain⟨m,_,rfl⟩:=ZN.1 hx;simp[aj,below]
theorem mh{l:List Int}{id:Nat}{h:List AO}(e:h[id]?=some (jb l)):View h (.sl id 1 0 l.length) (bz l):=by
 have:=gm (h:=h) (id:=id) (sz:=1) (n:=l.length) (ls:=l.map λn=>[.int .i64 n]) (by rw[e,jb];simp) (by simp) (λx hx=>by obtain⟨b,_,rfl⟩:=ZN.1 hx;rfl)
 exact this
theorem fJ{l:List (List UInt8)}{id:Nat}{h:List AO}(e:h[id]?=some (fV l)):View h (.sl id 1 0 l.length) (au l):=by
 have:=gm (h:=h) (id:=id) (sz:=1) (n:=l.length) (ls:=l.map λn=>[.str n]) (by rw[e,fV];simp) (by simp) (λx hx=>by obtain⟨b,_,rfl⟩:=ZN.1 hx;rfl)
 exact this
end
section
def ff(c:UInt8):Bool:=decide (97<=c.toNat)&&decide (c.toNat<=122)
def keyW:List (List UInt8):=[[102,110],[108,101,116],[115,97,121],[112,117,116],[105,102],[101,108,115,101],[108,111,111,112],[98,97,99,107],[100,111]]
def aK(s:List UInt8):Bool:=s.all ff&&decide (0<s.length)&&decide (s.length<=4)&& !keyW.contains s
def Dn:List UInt8:=[40,41,123,125,59,44,43,45,42,47,37,60,61,38,33,64]
def zw(s:List UInt8)(c:Int):Int:=match s.findIdx? (λx=>(x.toNat:Int)==c) with|some i=>i|none=> -1
def In(c:Int):Int:=if 97<=c/\c<=122 then 1 else if 48<=c/\c<=57 then 2 else if 0<=zw Dn c then 3 else if c=32\/c=10 then 4 else 0
theorem Sk(x:UInt8):(In (x.toNat:Int)=1)↔ff x=true:=by
 have h:(97<=(x.toNat:Int)/\(x.toNat:Int)<=122)↔ff x=true:=by simp[ff];omega
 unfold In
 constructor
 ·intro e
  split at e
  ·rename_i h1;exact h.1 h1
  ·repeat' split at e
   all_goals omega
 ·intro e;rw[if_pos (h.2 e)]
def GM(s:List UInt8):Int:=match s.findIdx? (λx=> !ff x) with|some i=>i|none=> -1
theorem Qi(s:List UInt8):decide (GM s<0)=s.all ff:=by
 unfold GM
 cases h:s.findIdx? (λx=> !ff x) with
 |none=>
  rw[aaf] at h
  have:s.all ff=true:=ZA.2 λx hx=>by have:=h x hx;simpa using this
  simp[this]
 |some i=>
  rw[ZP] at h
  obtain⟨h1,h2,_⟩:=h
  have:s.all ff=false:=List.all_eq_false.2 ⟨_,ZD h1,by simpa using h2⟩
  rw[this];simp
def idxS(l:List (List UInt8))(s:List UInt8):Int:=match l.findIdx? (λw=>w==s) with|some i=>i|none=> -1
theorem Qf(l:List (List UInt8))(s:List UInt8):decide (0<=idxS l s)=l.contains s:=by
 unfold idxS
 cases h:l.findIdx? (λw=>w==s) with
 |none=>
  rw[aaf] at h
  have:l.contains s=false:=by
   cases hc:l.contains s with
   |false=>rfl
   |true=>
    have hm:s∈l:=by simpa using hc
    have:=h s hm
    simp at this
  rw[this];simp
 |some i=>
  rw[ZP] at h
  obtain⟨h1,h2,_⟩:=h
  have:l.contains s=true:=by
   simp only[beq_iff_eq] at h2
   rw[List.contains_iff_mem,←h2];exact ZD h1
  rw[this];simp
variable (G:am)
theorem zT(s:List UInt8)(c:Int)(hb:s.length<=1048576):VF Tryz.prog G nj [.p (.str s),.p (.int .u8 c)] (.p (.int .i64 (zw s c))):=by
 refine AC.go CF ?_
 simp-implicitDefEqProofs[rV]
 refine aI (λi:Nat=>ah 18 [(0,.p (.str s)),(1,.p (.int .u8 c)),(5,.p (.int .i64 i))]) (λ_=>[]) (λi=>i<=s.length/\∀x∈s.take i,(x.toNat:Int)≠c) (λi=>s.length-i) 0 (by simp) ?_ ?_
 ·exact bM rfl (by simp[below])
 ·intro i ⟨hi,hn⟩
  simp-implicitDefEqProofs[]
  refine aT (λh1=>?_) (λh1=>?_)
  ·simp at h1
   have hg:=Zu h1
   by_cases he:(s[i].toNat:Int)=c
   ·have hf:zw s c=i:=by
     have:s.findIdx? (λx=>(x.toNat:Int)==c)=some i:=by
      rw[ZP]
      exact⟨h1,by simpa using he,λj hj=>by have:=hn s[j] (List.mem_take_iff_getElem.2 ⟨j,by omega,rfl⟩);simpa using this⟩
     rw[zw,this]
    simp-implicitDefEqProofs[hg,he,hf]
   ·simp-implicitDefEqProofs[hg,he]
    refine⟨i+1,⟨h1,λp hp=>?_⟩,by omega,bM rfl ?_⟩
    ·rw[al h1] at hp
     rcases ZB.1 hp with hp|hp
     ·exact hn p hp
     ·rw[ZC.1 hp];exact he
    ·simp[below,w1 (i:=i) (by omega)]
  ·simp at h1
   rw[Zz h1] at hn
   have hf:zw s c= -1:=by
    have:s.findIdx? (λx=>(x.toNat:Int)==c)=none:=by
     rw[aaf];intro x hx;simpa using hn x hx
    rw[zw,this]
   simp-implicitDefEqProofs[hf]
theorem Mr(c:Int):VF Tryz.prog G mu [.p (.int .u8 c)] (.p (.int .i64 (In c))):=by
 refine AC.go CS ?_
 simp-implicitDefEqProofs[rt]
 unfold In
 by_cases h1:97<=c
 ·by_cases h2:c<=122
  ·simp-implicitDefEqProofs[h1,h2]
  ·have h3:¬c<=57:=by omega
   have h4:¬c=32:=by omega
   have h5:¬c=10:=by omega
   have h6:48<=c:=by omega
   simp-implicitDefEqProofs[h1,h2,h3,h6]
   refine(zT G Dn c (by decide)).use ?_
   generalize zw Dn c=w
   by_cases hf:0<=w
   ·simp-implicitDefEqProofs[hf]
   ·simp-implicitDefEqProofs[hf,h4,h5]
 ·simp-implicitDefEqProofs[h1]
  by_cases h2:48<=c
  ·by_cases h3:c<=57
   ·simp-implicitDefEqProofs[h2,h3]
   ·have h4:¬c=32:=by omega
    have h5:¬c=10:=by omega
    simp-implicitDefEqProofs[h2,h3]
    refine(zT G Dn c (by decide)).use ?_
    generalize zw Dn c=w
    by_cases hf:0<=w
    ·simp-implicitDefEqProofs[hf]
    ·simp-implicitDefEqProofs[hf,h4,h5]
  ·simp-implicitDefEqProofs[h2]
   refine(zT G Dn c (by decide)).use ?_
   generalize zw Dn c=w
   by_cases hf:0<=w
   ·simp-implicitDefEqProofs[hf]
   ·by_cases h4:c=32
    ·simp-implicitDefEqProofs[hf,h4]
    ·by_cases h5:c=10
     ·simp-implicitDefEqProofs[hf,h4,h5]
     ·simp-implicitDefEqProofs[hf,h4,h5]
theorem SL(s:List UInt8)(hb:s.length<=140737488355328):VF Tryz.prog G pD [.p (.str s),.p (.int .i64 1)] (.p (.bool (s.all ff&&decide (0<s.length)))):=by
 refine AC.go Gm ?_
 simp-implicitDefEqProofs[yL]
 refine aI (λi:Nat=>ah 21 [(0,.p (.str s)),(1,.p (.int .i64 1)),(5,.p (.int .i64 i))]) (λ_=>[]) (λi=>i<=s.length/\∀x∈s.take i,ff x=true) (λi=>s.length-i) 0 (by simp) ?_ ?_
 ·exact bM rfl (by simp[below])
 ·intro i ⟨hi,hn⟩
  simp-implicitDefEqProofs[]
  refine aT (λh1=>?_) (λh1=>?_)
  ·simp at h1
   have hg:=Zu h1
   simp-implicitDefEqProofs[hg]
   refine(Mr G _).use ?_
   have hcl:=Sk s[i]
   by_cases he:ff s[i]=true
   ·have hc:=hcl.2 he
    simp-implicitDefEqProofs[hc]
    refine⟨i+1,⟨h1,λp hp=>?_⟩,by omega,bM rfl ?_⟩
    ·rw[al h1] at hp
     rcases ZB.1 hp with hp|hp
     ·exact hn p hp
     ·rw[ZC.1 hp];exact he
    ·simp[below,w1 (i:=i) (by omega)]
   ·have hc:¬In (s[i].toNat:Int)=1:=λe=>he (hcl.1 e)
    have ha:s.all ff=false:=List.all_eq_false.2 ⟨_,ZD h1,by simpa using he⟩
    simp-implicitDefEqProofs[hc,ha]
  ·simp at h1
   rw[Zz h1] at hn
   have ha:s.all ff=true:=ZA.2 hn
   simp-implicitDefEqProofs[ha]
theorem Jv:VF Tryz.prog G iB [] (.p (au keyW)):=by
 have key:AC Tryz.prog G iB [] [] λx h=>x= .ret (.sl 0 1 0 9)/\h=[.row 1 (keyW.map λw=>[.p (.str w)])]:=by
  refine AC.go Bx ?_
  simp-implicitDefEqProofs[rd,keyW]
 exact AC.freeze key (.one (gm (ls:=keyW.map λw=>[.str w]) (by simp) (by simp[keyW]) (by simp)) .nil)
theorem Ti(s:List UInt8):VF Tryz.prog G pT [.p (.str s)] (.p (.bool (keyW.contains s))):=by
 refine AC.go GP ?_
 have hsl:au keyW= .lst 1 (keyW.map λw=>[.str w]):=rfl
 have hkl:keyW.length=9:=rfl
 simp-implicitDefEqProofs[zC]
 refine(Jv G).use ?_
 simp-implicitDefEqProofs[]
 refine aI (λi:Nat=>ah 18 [(0,.p (.str s)),(3,.p (au keyW)),(4,.p (.int .i64 i))]) (λ_=>[]) (λi=>i<=keyW.length/\∀w∈keyW.take i,w≠s) (λi=>keyW.length-i) 0 (by simp) ?_ ?_
 ·exact bM rfl (by simp[below,au])
 ·intro i ⟨hi,hn⟩
  generalize keyW=L at*
  simp-implicitDefEqProofs[hsl]
  refine aT (λh1=>?_) (λh1=>?_)
  ·simp at h1
   have hg:=Zu h1
   by_cases he:L[i]=s
   ·have hm:s∈L:=by rw[←he];exact ZD h1
    simp-implicitDefEqProofs[hg,he,hm]
   ·simp-implicitDefEqProofs[hg,he]
    refine⟨i+1,⟨h1,λp hp=>?_⟩,by omega,bM rfl ?_⟩
    ·rw[al h1] at hp
     rcases ZB.1 hp with hp|hp
     ·exact hn p hp
     ·rw[ZC.1 hp];exact he
    ·simp[below,w1 (i:=i) (by omega)]
  ·simp at h1
   rw[Zz h1] at hn
   have hm:¬s∈L:=λhm=>hn s hm rfl
   simp-implicitDefEqProofs[hm]
theorem vW(s:List UInt8)(hb:s.length<=140737488355328):VF Tryz.prog G dq [.p (.str s)] (.p (.bool (aK s))):=by
 refine AC.go EM ?_
 simp-implicitDefEqProofs[ur]
 refine(SL G s hb).use ?_
 cases h1:(s.all ff&&decide (0<s.length)) with
 |false=>
  have hi:aK s=false:=by rw[aK,h1];rfl
  simp-implicitDefEqProofs[hi]
 |true=>
  by_cases h4:s.length<=4
  ·have h4i:(s.length:Int)<=4:=by omega
   have hi:aK s= !keyW.contains s:=by rw[aK,h1];simp[h4]
   simp-implicitDefEqProofs[h4i]
   refine(Ti G s).use ?_
   rw[hi]
   simp-implicitDefEqProofs[]
  ·have h4i:¬(s.length:Int)<=4:=by omega
   have hi:aK s=false:=by rw[aK,h1];simp[h4]
   simp-implicitDefEqProofs[h4i,hi]
end
section
inductive Ex where
 |mk (op n:Int) (name:List UInt8) (kids:List Ex)
inductive Sm where
 |mk (op:Int) (name:List UInt8) (args:List Ex) (body els:List Sm)
structure Fd where (name:List UInt8) (params:List (List UInt8)) (body:List Sm)
def Ex.op:Ex->Int| .mk o _ _ _=>o
def Ex.n:Ex->Int| .mk _ n _ _=>n
def Ex.name:Ex->List UInt8| .mk _ _ s _=>s
def Ex.kids:Ex->List Ex| .mk _ _ _ k=>k
def Sm.op:Sm->Int| .mk o _ _ _ _=>o
def Sm.name:Sm->List UInt8| .mk _ s _ _ _=>s
def Sm.args:Sm->List Ex| .mk _ _ a _ _=>a
def Sm.body:Sm->List Sm| .mk _ _ _ b _=>b
def Sm.els:Sm->List Sm| .mk _ _ _ _ e=>e
mutual
def Ex.cs:Ex->List PV
 | .mk o n s k=>[.int .i64 o,.int .i64 n,.str s,.lst 4 (Re k)]
def Re:List Ex->List (List PV)
 |[]=>[]
 |e::r=>e.cs::Re r
end
mutual
def Sm.cs:Sm->List PV
 | .mk o s a b e=>[.int .i64 o,.str s,.lst 4 (Re a),.lst 5 (PM b),.lst 5 (PM e)]
def PM:List Sm->List (List PV)
 |[]=>[]
 |s::r=>s.cs::PM r
end
theorem DW:∀l:List Ex,Re l=l.map Ex.cs
 |[]=>rfl
 |e::r=>by rw[Re,DW r];rfl
theorem Cn:∀l:List Sm,PM l=l.map Sm.cs
 |[]=>rfl
 |e::r=>by rw[PM,Cn r];rfl
def exL(l:List Ex):PV:= .lst 4 (l.map Ex.cs)
def smL(l:List Sm):PV:= .lst 5 (l.map Sm.cs)
theorem Ex.cs_eq(e:Ex):e.cs=[.int .i64 e.op,.int .i64 e.n,.str e.name,exL e.kids]:=by
 cases e;rw[Ex.cs,DW];rfl
theorem Sm.cs_eq(s:Sm):s.cs=[.int .i64 s.op,.str s.name,exL s.args,smL s.body,smL s.els]:=by
 cases s;rw[Sm.cs,DW,Cn,Cn];rfl
@[simp] theorem Ex.cs_len(e:Ex):e.cs.length=4:=by cases e;rfl
@[simp] theorem Ex.cs_take(e:Ex):List.take 4 (e.cs.map AV.p)=e.cs.map AV.p:=by cases e;rfl
@[simp] theorem Sm.cs_len(s:Sm):s.cs.length=5:=by cases s;rfl
@[simp] theorem Sm.cs_take(s:Sm):List.take 5 (s.cs.map AV.p)=s.cs.map AV.p:=by cases s;rfl
def Fd.cs(f:Fd):List PV:=[.str f.name,au f.params,smL f.body]
@[simp] theorem Fd.cs_len(f:Fd):f.cs.length=3:=rfl
@[simp] theorem Fd.cs_take(f:Fd):List.take 3 (f.cs.map AV.p)=f.cs.map AV.p:=rfl
def fdL(l:List Fd):PV:= .lst 3 (l.map Fd.cs)
mutual
def Ex.sz:Ex->Nat
 | .mk _ _ s k=>1+s.length+bj k
def bj:List Ex->Nat
 |[]=>0
 |e::r=>e.sz+bj r
end
mutual
def Sm.sz:Sm->Nat
 | .mk _ s a b e=>1+s.length+bj a+an b+an e
def an:List Sm->Nat
 |[]=>0
 |s::r=>s.sz+an r
end
def Fd.sz(f:Fd):Nat:=1+f.name.length+(f.params.length+(f.params.map List.length).sum)+an f.body
def aH(l:List Fd):Nat:=(l.map Fd.sz).sum
theorem Ex.sz_eq(e:Ex):e.sz=1+e.name.length+bj e.kids:=by cases e;rfl
theorem Sm.sz_eq(s:Sm):s.sz=1+s.name.length+bj s.args+an s.body+an s.els:=by cases s;rfl
theorem fW:∀a b:List Ex,bj (a++b)=bj a+bj b
 |[],b=>by simp[bj]
 |e::r,b=>by simp only[aac,bj,fW r b];omega
theorem bu:∀a b:List Sm,an (a++b)=an a+an b
 |[],b=>by simp[an]
 |e::r,b=>by simp only[aac,an,bu r b];omega
theorem aN:∀{l:List Ex} {e:Ex},e∈l->e.sz<=bj l
 |x::r,e,h=>by
  simp only[bj]
  rcases ZI.1 h with rfl|h
  ·omega
  ·have:=aN h;omega
theorem cA:∀{l:List Sm} {e:Sm},e∈l->e.sz<=an l
 |x::r,e,h=>by
  simp only[an]
  rcases ZI.1 h with rfl|h
  ·omega
  ·have:=cA h;omega
theorem aZ:∀l:List Ex,l.length<=bj l
 |[]=>ZH _
 |e::r=>by have:=aZ r;have:=e.sz_eq;simp only[bj,ZO];omega
theorem bC:∀l:List Sm,l.length<=an l
 |[]=>ZH _
 |e::r=>by have:=bC r;have:=e.sz_eq;simp only[an,ZO];omega
mutual
def Ex.parts:Ex->Nat
 | .mk _ _ _ k=>1+fL k
def fL:List Ex->Nat
 |[]=>0
 |e::r=>e.parts+fL r
end
theorem Ex.parts_eq(e:Ex):e.parts=1+fL e.kids:=by cases e;rfl
theorem lc:∀a b:List Ex,fL (a++b)=fL a+fL b
 |[],b=>by simp[fL]
 |e::r,b=>by simp only[aac,fL,lc r b];omega
mutual
theorem Ex.parts_le:∀e:Ex,e.parts<=e.sz
 | .mk _ _ s k=>by have:=GA k;simp only[Ex.parts,Ex.sz];omega
theorem GA:∀l:List Ex,fL l<=bj l
 |[]=>ZH _
 |e::r=>by have:=e.parts_le;have:=GA r;simp only[fL,bj];omega
end
mutual
def Sm.cnt:Sm->Nat
 | .mk _ _ _ b e=>1+eB b+eB e
def eB:List Sm->Nat
 |[]=>0
 |s::r=>s.cnt+eB r
end
theorem Sm.cnt_eq(s:Sm):s.cnt=1+eB s.body+eB s.els:=by cases s;rfl
theorem sD:∀a b:List Sm,eB (a++b)=eB a+eB b
 |[],b=>by simp[eB]
 |e::r,b=>by simp only[aac,eB,sD r b];omega
mutual
theorem Sm.cnt_le:∀s:Sm,s.cnt<=s.sz
 | .mk _ s a b e=>by have:=tj b;have:=tj e;simp only[Sm.cnt,Sm.sz];omega
theorem tj:∀l:List Sm,eB l<=an l
 |[]=>ZH _
 |e::r=>by have:=e.cnt_le;have:=tj r;simp only[eB,an];omega
end
def inR(n lo hi:Int):Bool:=decide (lo<=n)&&decide (n<=hi)
def loK(op:Int):Nat:=if op=1\/op=2 then 0 else if op=11\/op=12 then 1 else if op=13 then 0 else 2
def hiK(op:Int):Nat:=if op=1\/op=2 then 0 else if op=11\/op=12 then 1 else if op=13 then 3 else 2
def HN(op:Int):Bool:=decide (op=2)||decide (op=13)
def jR(e:Ex):Bool:=inR e.op 1 13&&inR e.kids.length (loK e.op) (hiK e.op)&&(HN e.op==aK e.name)&&(HN e.op||decide (e.name=[]))&&inR e.n 0 255&&(decide (e.op=1)||decide (e.n=0))
def aQ:Nat->Ex->Bool
 |0,_=>false
 |d+1,e=>jR e&&e.kids.all (aQ d)
def io(e:Ex):Bool:=aQ 6 e&&decide (e.parts<=30)
def gF(op:Int):Nat:=if op=4 then 2 else 1
def dP(op:Int):Bool:=decide (op=1)||decide (op=2)
def fX(s:Sm):Bool:=inR s.op 1 8&&decide (s.args.length=gF s.op)&&(dP s.op==aK s.name)&&(dP s.op||decide (s.name=[]))&&s.args.all io&&
 (!decide (s.op=8)||(match s.args with|a::_=>decide (a.op=13)|[]=>false))&&(s.els.isEmpty||decide (s.op=5))&&(s.body.isEmpty||decide (s.op=5)||decide (s.op=6))
def aq:Nat->Sm->Bool
 |0,_=>false
 |d+1,s=>fX s&&s.body.all (aq d)&&s.els.all (aq d)
def iZ(f:Fd):Bool:=f.params.all aK&&aK f.name&&decide (f.params.length<=3)&&f.body.all (aq 4)
def lZ(l:List Fd):Nat:=(l.map λf=>eB f.body).sum
def bc(l:List Fd):Bool:=inR l.length 1 4&&l.all iZ&&decide (lZ l<=40)
end
section
theorem fh{s:Bool}{h:List AO}{vs:List AV}{q:PV}{I:List Nat}(H:OwnL s h vs [q] I):∃v,vs=[v]:=by
 have:=H.len
 match vs,this with
 |[v],_=>exact⟨v,rfl⟩
theorem RX{s:Bool}{h:List AO}{vs:List AV}{q r:PV}{I:List Nat}(H:OwnL s h vs [q,r] I):∃a b,vs=[a,b]:=by
 have:=H.len
 match vs,this with
 |[a,b],_=>exact⟨a,b,rfl⟩
theorem NR{s:Bool}{h:List AO}{vs:List AV}{q r t:PV}{I:List Nat}(H:OwnL s h vs [q,r,t] I):∃a b c,vs=[a,b,c]:=by
 have:=H.len
 match vs,this with
 |[a,b,c],_=>exact⟨a,b,c,rfl⟩
theorem Kh{s:Bool}{h:List AO}{vs:List AV}{e:Ex}{I:List Nat}(H:OwnL s h vs e.cs I):∃K,vs=[.p (.int .i64 e.op),.p (.int .i64 e.n),.p (.str e.name),K]/\OwnL s h [K] [exL e.kids] I:=by
 rw[e.cs_eq] at H
 cases H with
 |p _ _ H=>
  cases H with
  |p _ _ H=>
   cases H with
   |p _ _ H=>
    obtain⟨v,rfl⟩:=fh H
    exact⟨v,rfl,H⟩
theorem QZ{s:Bool}{h:List AO}{o n:Int}{w:List UInt8}{k:List Ex}{K:AV}{I:List Nat}(H:OwnL s h [K] [exL k] I):OwnL s h [.p (.int .i64 o),.p (.int .i64 n),.p (.str w),K] (Ex.mk o n w k).cs I:=by
 rw[Ex.cs_eq]
 exact .p _ (λ_=>rfl) (.p _ (λ_=>rfl) (.p _ (λ_=>rfl) H))
theorem PA{s:Bool}{h:List AO}{vs:List AV}{e:Sm}{I:List Nat}(H:OwnL s h vs e.cs I):∃A B E I1 I2 I3,vs=[.p (.int .i64 e.op),.p (.str e.name),A,B,E]/\I=I1++(I2++I3)/\OwnL s h [A] [exL e.args] I1/\OwnL s h [B] [smL e.body] I2/\OwnL s h [E] [smL e.els] I3:=by
 rw[e.cs_eq] at H
 cases H with
 |p _ _ H=>
  cases H with
  |p _ _ H=>
   obtain⟨A,B,E,rfl⟩:=NR H
   obtain⟨I1,I',rfl,h1,H⟩:=H.one
   obtain⟨I2,I3,rfl,h2,h3⟩:=H.one
   exact⟨A,B,E,I1,I2,I3,rfl,rfl,h1,h2,h3⟩
theorem Lc{s:Bool}{h:List AO}{o:Int}{w:List UInt8}{a:List Ex}{b e:List Sm}{A B E:AV}{I1 I2 I3:List Nat}(h1:OwnL s h [A] [exL a] I1)(h2:OwnL s h [B] [smL b] I2)(h3:OwnL s h [E] [smL e] I3):
 OwnL s h [.p (.int .i64 o),.p (.str w),A,B,E] (Sm.mk o w a b e).cs (I1++(I2++I3)):=by
 rw[Sm.cs_eq]
 exact .p _ (λ_=>rfl) (.p _ (λ_=>rfl) (h1.app (h2.app h3)))
theorem Qz{s:Bool}{h:List AO}{vs:List AV}{f:Fd}{I:List Nat}(H:OwnL s h vs f.cs I):∃A B I1 I2,vs=[.p (.str f.name),A,B]/\I=I1++I2/\OwnL s h [A] [au f.params] I1/\OwnL s h [B] [smL f.body] I2:=by
 rw[show f.cs=[.str f.name,au f.params,smL f.body] from rfl] at H
 cases H with
 |p _ _ H=>
  obtain⟨A,B,rfl⟩:=RX H
  obtain⟨I1,I2,rfl,h1,H⟩:=H.one
  exact⟨A,B,I1,I2,rfl,rfl,h1,H⟩
theorem sr{s:Bool}{h:List AO}{w:List UInt8}{ps:List (List UInt8)}{b:List Sm}{A B:AV}{I1 I2:List Nat}(h1:OwnL s h [A] [au ps] I1)(h2:OwnL s h [B] [smL b] I2):OwnL s h [.p (.str w),A,B] (Fd.mk w ps b).cs (I1++I2):=
 .p _ (λ_=>rfl) (h1.app h2)
end
section
def Fr(K:List Nat)(h h':List AO):Prop:=h.length<=h'.length/\∀i,i<h.length->i∉K->h'[i]?=h[i]?
theorem Fr.refl(K:List Nat)(h:List AO):Fr K h h:=⟨ZH _,λ_ _ _=>rfl⟩
theorem Fr.more(K:List Nat)(h os:List AO):Fr K h (h++os):=⟨by simp,λi hi _=>Zv hi⟩
theorem Fr.trans{K K':List Nat}{h h1 h2:List AO}(a:Fr K h h1)(b:Fr K' h1 h2)(hk:∀i∈K',i∈K\/h.length<=i):Fr K h h2:=
 ⟨ZQ a.1 b.1,λi hi hn=>by
   rw[b.2 i (ZV hi a.1) (λhm=>by
    rcases hk i hm with q|q
    ·exact hn q
    ·omega),a.2 i hi hn]⟩
theorem Fr.sub{K K':List Nat}{h h1:List AO}(a:Fr K h h1)(hk:∀i∈K,i∈K'\/h.length<=i):Fr K' h h1:=
 ⟨a.1,λi hi hn=>a.2 i hi λhm=>by
   rcases hk i hm with q|q
   ·exact hn q
   ·omega⟩
theorem Fr.from{K:List Nat}{h os h2:List AO}(a:Fr K (h++os) h2):Fr K h h2:=
 ⟨by have:=a.1;simp at this;omega,λi hi hn=>by rw[a.2 i (by simp;omega) hn,Zv hi]⟩
theorem Vr{h:List AO}(hb:HB h){o:AO}(ho:o∈h):okO h.length o:=by
 obtain⟨i,hi⟩:=ZY ho
 cases o with
 |row sz es=>exact λe he=>(hb.1 i sz es hi e he).2.1
 |mp es=>exact λe he=>hb.2 i es hi e he
 |sit s p=>trivial
 |dead=>trivial
theorem Mh{hF:List AO}{n:Nat}{suf sX s1:List AO}(H:Thn hF n suf sX s1):∀pre:List AO,(∀o∈pre,okO n o)->Thn hF n (pre++suf) (List.replicate pre.length .dead++sX) (pre++s1)
 |[],_=>H
 |o::r,h=>by
  rw[aac,aac,ZO,List.replicate_succ,aac]
  exact .same (h o (by simp)) (Mh H r λx hx=>h x (by simp[hx]))
theorem Fe{k n:Nat}{l l1:List (Nat × AV)}{pre suf sX s1:List AO}(hk:k<=(pre++suf).length)(ht:Thn (List.replicate pre.length .dead++sX) (pre++suf).length suf sX s1)(H:FzA (List.replicate pre.length .dead++sX) (pre++suf).length l l1):Wk k (ah n l) (pre++suf) (ah n l1) (pre++s1):=by
 intro G W0 S0 φ0 h0 W S φ a ek s
 have hb:=s.hrel.hb
 exact rH hk (Mh ht pre λo ho=>Vr hb (by simp[ho])) H G W0 S0 φ0 h0 W S φ a ek s
end
section
def Za(hF:List AO)(n:Nat)(o x y:AO):Prop:=
 (x= .dead/\y=o/\okO n o)\/(x= .dead/\y= .dead)\/(x=o/\y= .dead)\/(x= .dead/\∃sz e e1,o= .row sz [e]/\y= .row sz [e1]/\Fzs hF n e e1)
theorem GE{hF:List AO}{n:Nat}:∀(h:List AO) (X Y:Nat->AO->AO),(∀i o,h[i]?=some o->Za hF n o (X i o) (Y i o))->Thn hF n h (h.mapIdx X) (h.mapIdx Y)
 |[],_,_,_=>by rw[List.mapIdx_nil,List.mapIdx_nil];exact .nil
 |o::r,X,Y,H=>by
  rw[List.mapIdx_cons,List.mapIdx_cons]
  have ih:=GE (hF:=hF) (n:=n) r (λi=>X (i+1)) (λi=>Y (i+1)) λi o h=>H (i+1) o h
  rcases H 0 o rfl with⟨h1,h2,h3⟩|⟨h1,h2⟩|⟨h1,h2⟩|⟨h1,sz,e,e1,rfl,h2,h3⟩
  ·rw[h1,h2];exact .same h3 ih
  ·rw[h1,h2];exact .drop ih
  ·rw[h1,h2];exact .give ih
  ·rw[h1,h2];exact .one h3 ih
end
section
structure LV where (name:List UInt8) (num block:Nat)
structure WS where (vs:List LV) (count:Nat) (code:Int)
def fl(c k:Int):Int:=if c=0 then k else c
theorem Dq{c k:Int}(h:c≠0):fl c k=c:=if_neg h
def lkV(vs:List LV)(s:List UInt8):Option LV:=vs.find? λv=>decide (v.name=s)
def cg(fns:List Fd)(s:List UInt8):Option Nat:=fns.findIdx? λf=>decide (f.name=s)
def Bs(fns:List Fd)(j:Nat):Nat:=match fns[j]? with|some f=>f.params.length|none=>0
def rO(vs:List LV)(s:List UInt8)(c:Int):Int:=match lkV vs s with|none=>fl c 3|some _=>c
def mY(fns:List Fd)(k:Nat)(s:List UInt8)(n:Nat)(c:Int):Int:=
 match cg fns s with|none=>fl c 4|some j=>if k<=j then fl c 4 else if Bs fns j=n then c else fl c 5
def im(fns:List Fd)(k:Nat)(vs:List LV)(o:Int)(s:List UInt8)(n:Nat)(c:Int):Int:=
 if o=2 then rO vs s c else if o=13 then mY fns k s n c else c
mutual
def jJ(fns:List Fd)(k:Nat)(vs:List LV):Ex->Int->Int
 | .mk o _ s ks,c=>bp fns k vs ks (im fns k vs o s ks.length c)
def bp(fns:List Fd)(k:Nat)(vs:List LV):List Ex->Int->Int
 |[],c=>c
 |e::r,c=>bp fns k vs r (jJ fns k vs e c)
end
def vnm(n:Nat):List UInt8:=[118,UInt8.ofNat (97+n%26)]
def Ck(vs:List LV)(s:List UInt8):List UInt8:=match lkV vs s with|none=>s|some v=>vnm v.num
mutual
def rnE(vs:List LV):Ex->Ex
 | .mk o n s ks=> .mk o n (if o=2 then Ck vs s else s) (mV vs ks)
def mV(vs:List LV):List Ex->List Ex
 |[]=>[]
 |e::r=>rnE vs e::mV vs r
end
def rf(vs:List LV)(s:List UInt8)(b:Nat)(c:Int):Int:=match lkV vs s with|none=>c|some v=>if v.block=b then fl c 2 else c
def iN(w:WS)(s:List UInt8)(b:Nat):WS:=⟨⟨s,w.count,b⟩::w.vs,w.count+1,rf w.vs s b w.code⟩
def opW(o:Int)(s:List UInt8)(b:Nat)(w:WS):WS:=if o=1 then iN w s b else if o=2 then⟨w.vs,w.count,rO w.vs s w.code⟩ else w
def opN(o:Int)(s:List UInt8)(w:WS):List UInt8:=if o=1 then vnm w.count else if o=2 then Ck w.vs s else s
def WS.back(w:WS)(vs:List LV):WS:=⟨vs,w.count,w.code⟩
mutual
def stW(fns:List Fd)(k b:Nat):Sm->WS->WS
 | .mk o s a bd el,w=>
   let w2:=opW o s b ⟨w.vs,w.count,bp fns k w.vs a w.code⟩
   let w3:=(bJ fns k (b+1) bd w2).back w2.vs
   (bJ fns k (b+1) el w3).back w2.vs
def bJ(fns:List Fd)(k b:Nat):List Sm->WS->WS
 |[],w=>w
 |s::r,w=>bJ fns k b r (stW fns k b s w)
end
def bO(ps:List (List UInt8))(w:WS):WS:=ps.foldl (λw s=>iN w s 0) w
def fnW(fns:List Fd)(k:Nat)(f:Fd):WS:=bJ fns k 0 f.body (bO f.params ⟨[],0,if cg fns f.name=some k then 0 else 2⟩)
def kn(fns:List Fd):Nat->List Fd->Int
 |_,[]=>0
 |k,f::r=>if(fnW fns k f).code=0 then kn fns (k+1) r else(fnW fns k f).code
def aD(fns:List Fd):Int:=if bc fns then kn fns 0 fns else 1
abbrev Scp:=List (List UInt8 × Nat)
def fy(m:Scp)(s:List UInt8):Option Nat:=(m.find? λx=>decide (x.1=s)).map (·.2)
def iY:Scp->List UInt8->Nat->Scp
 |[],s,n=>[(s,n)]
 |x::r,s,n=>if x.1=s then(s,n)::r else x::iY r s n
def lm:List Scp->List UInt8->Option Nat
 |[],_=>none
 |m::r,s=>match fy m s with|some n=>some n|none=>lm r s
def iM(fns:List Fd)(k:Nat)(ch:List Scp)(c:Int)(e:Ex):Int:=
 if e.op=2 then(if(lm ch e.name).isSome then c else fl c 3)
 else if e.op=13 then(match cg (fns.take k) e.name with|none=>fl c 4|some j=>if Bs fns j=e.kids.length then c else fl c 5)
 else c
mutual
def Ex.pre:Ex->List Ex
 | .mk o n s ks=> .mk o n s ks::cQ ks
def cQ:List Ex->List Ex
 |[]=>[]
 |e::r=>e.pre++cQ r
end
def Kr(fns:List Fd)(k:Nat)(ch:List Scp)(l:List Ex)(c:Int):Int:=(cQ l).foldl (iM fns k ch) c
def opS(o:Int)(s:List UInt8)(m:Scp)(n:Nat):Scp:=if o=1 then iY m s n else m
def opC(o:Int)(s:List UInt8)(m:Scp)(up:List Scp)(c:Int):Int:=
 if o=1 then(if(fy m s).isSome then fl c 2 else c) else if o=2 then(if(lm (m::up) s).isSome then c else fl c 3) else c
mutual
def icS(fns:List Fd)(k:Nat):Sm->Scp->List Scp->Int->Scp × Int
 | .mk o s a bd el,m,up,c=>
   let m2:=opS o s m 0
   let c2:=opC o s m up (Kr fns k (m::up) a c)
   (m2,if o=5\/o=6 then(jO fns k el [] (m2::up) (jO fns k bd [] (m2::up) c2).2).2 else c2)
def jO(fns:List Fd)(k:Nat):List Sm->Scp->List Scp->Int->Scp × Int
 |[],m,_,c=>(m,c)
 |s::r,m,up,c=>jO fns k r (icS fns k s m up c).1 up (icS fns k s m up c).2
end
def kS(ps:List (List UInt8))(m:Scp)(c:Int):Scp × Int:=ps.foldl (λx s=>(iY x.1 s 0,if(fy x.1 s).isSome then fl x.2 2 else x.2)) (m,c)
def icF(fns:List Fd)(k:Nat)(f:Fd)(c:Int):Int:=
 let c1:=if(match cg fns f.name with|some j=>decide (j<k)|none=>true) then fl c 2 else c
 let x:=kS f.params [] c1
 (jO fns k f.body x.1 [] x.2).2
def mX(fns:List Fd):Nat->List Fd->Int->Int
 |_,[],c=>c
 |k,f::r,c=>mX fns (k+1) r (icF fns k f c)
def SR(g:LV->Nat):Nat->List LV->List Scp->Prop
 |_,_,[]=>False
 |b,vs,m::up=>∃v1 v2,vs=v1++v2/\(∀v∈v1,v.block=b)/\(∀s,(lkV v1 s).map g=fy m s)/\match b with
  |0=>v2=[]/\up=[]
  |b+1=>SR g b v2 up
theorem BM(a b:List LV)(s:List UInt8):lkV (a++b) s=match lkV a s with|some v=>some v|none=>lkV b s:=by
 simp only[lkV,List.find?_append]
 cases List.find? (λv=>decide (v.name=s)) a<;>rfl
variable {g:LV->Nat}
theorem SR.blk:∀{b:Nat} {vs:List LV} {ch:List Scp},SR g b vs ch->∀v∈vs,v.block<=b
 |b,_,[],h,v,hv=>by cases b<;>exact False.elim h
 |0,vs,m::up,⟨v1,v2,e,h1,_,h3,_⟩,v,hv=>by
  subst e;subst h3
  rw[aar] at hv
  exact Nat.le_of_eq (h1 v hv)
 |b+1,vs,m::up,⟨v1,v2,e,h1,_,h3⟩,v,hv=>by
  subst e
  rcases ZB.1 hv with h|h
  ·exact Nat.le_of_eq (h1 v h)
  ·exact Nat.le_succ_of_le (SR.blk h3 v h)
theorem SR.fnd:∀{b:Nat} {vs:List LV} {ch:List Scp},SR g b vs ch->∀s,(lkV vs s).map g=lm ch s
 |b,_,[],h,s=>by cases b<;>exact False.elim h
 |0,vs,m::up,⟨v1,v2,e,h1,h2,h3,h4⟩,s=>by
  subst e;subst h3;subst h4
  rw[aar,h2,lm]
  cases fy m s<;>rfl
 |b+1,vs,m::up,⟨v1,v2,e,h1,h2,h3⟩,s=>by
  subst e
  have ih:=SR.fnd h3 s
  have h2:=h2 s
  rw[BM,lm,←h2]
  cases e1:lkV v1 s with
  |some v=>rfl
  |none=>exact ih
theorem SR.is{b:Nat}{vs:List LV}{ch:List Scp}(h:SR g b vs ch)(s:List UInt8):(lkV vs s).isSome=(lm ch s).isSome:=by rw[←h.fnd s,Option.isSome_map]
theorem BW{vs:List LV}{s:List UInt8}{v:LV}(h:lkV vs s=some v):v∈vs:=List.mem_of_find?_eq_some h
theorem SR.put:∀{b:Nat} {vs:List LV} {m:Scp} {up:List Scp},SR g b vs (m::up)->∀(s:List UInt8) (c:Int),rf vs s b c=if(fy m s).isSome then fl c 2 else c:=by
 intro b vs m up h s c
 have key:∀v1 v2:List LV,(∀v∈v1,v.block=b)->(lkV v1 s).map g=fy m s->(∀v∈v2,v.block≠b)->rf (v1++v2) s b c=if(fy m s).isSome then fl c 2 else c:=by
  intro v1 v2 h1 h2 h3
  rw[←h2,rf,BM]
  cases e1:lkV v1 s with
  |some v=>simp[h1 v (BW e1)]
  |none=>
   cases e2:lkV v2 s with
   |none=>rfl
   |some v=>simp[h3 v (BW e2)]
 match b,h with
 |0,⟨v1,v2,e,h1,h2,h3,_⟩=>subst e;subst h3;exact key v1 [] h1 (h2 s) (λv hv=>by simp at hv)
 |b+1,⟨v1,v2,e,h1,h2,h3⟩=>subst e;exact key v1 v2 h1 (h2 s) (λv hv e=>by have:=h3.blk v hv;omega)
theorem IC:∀(m:Scp) (s:List UInt8) (n:Nat) (t:List UInt8),fy (iY m s n) t=if s=t then some n else fy m t
 |[],s,n,t=>by
  by_cases h:s=t
  ·simp[iY,fy,h]
  ·simp[iY,fy,h]
 |x::r,s,n,t=>by
  have ih:=IC r s n t
  simp only[fy] at ih
  by_cases hx:x.1=s
  ·by_cases h:s=t
   ·simp[iY,fy,hx,h]
   ·have:¬x.1=t:=by rw[hx];exact h
    simp[iY,fy,hx,h]
  ·by_cases ht:x.1=t
   ·have:¬s=t:=λe=>hx (ht.trans e.symm)
    rw[iY,if_neg hx,if_neg this];simp[fy,ht]
   ·simp only[iY,fy,if_neg hx,List.find?_cons,ht,decide_false]
    exact ih
theorem SR.add{b:Nat}{vs:List LV}{m:Scp}{up:List Scp}(h:SR g b vs (m::up))(s:List UInt8)(n k:Nat)(hg:g ⟨s,n,b⟩=k):SR g b (⟨s,n,b⟩::vs) (iY m s k::up):=by
 have key:∀v1:List LV,(∀s,(lkV v1 s).map g=fy m s)->∀t,(lkV (⟨s,n,b⟩::v1) t).map g=fy (iY m s k) t:=by
  intro v1 h2 t
  rw[IC]
  by_cases e:s=t
  ·simp[lkV,e,←hg]
  ·rw[if_neg e,←h2 t];simp[lkV,e]
 match b,h with
 |0,⟨v1,v2,e,h1,h2,h3⟩=>
  subst e
  refine⟨⟨s,n,0⟩::v1,v2,rfl,λv hv=>?_,key v1 h2,h3⟩
  rcases ZI.1 hv with rfl|hv
  ·rfl
  ·exact h1 v hv
 |b+1,⟨v1,v2,e,h1,h2,h3⟩=>
  subst e
  refine⟨⟨s,n,b+1⟩::v1,v2,rfl,λv hv=>?_,key v1 h2,h3⟩
  rcases ZI.1 hv with rfl|hv
  ·rfl
  ·exact h1 v hv
theorem SR.open{b:Nat}{vs:List LV}{ch:List Scp}(h:SR g b vs ch):SR g (b+1) vs ([]::ch):=⟨[],vs,rfl,λv hv=>by simp at hv,λs=>rfl,h⟩
theorem SR.base:SR g 0 [] [[]]:=⟨[],[],rfl,λv hv=>by simp at hv,λs=>rfl,rfl,rfl⟩
theorem Gy{α:Type}{p:α->Bool}{l:List α}{k:Nat}:(l.take k).findIdx? p=match l.findIdx? p with|some j=>if j<k then some j else none|none=>none:=by
 cases h:l.findIdx? p with
 |none=>
  rw[aaf] at h⊢
  exact λx hx=>h x (aah hx)
 |some j=>
  rw[ZP] at h
  obtain⟨h1,h2,h3⟩:=h
  simp only
  split
  ·rename_i hj
   rw[ZP]
   exact⟨by rw[ZS];omega,by rw[List.getElem_take];exact h2,λi hi=>by rw[List.getElem_take];exact h3 i hi⟩
  ·rename_i hj
   rw[aaf]
   intro x hx
   obtain⟨i,hi,rfl⟩:=List.mem_take_iff_getElem.1 hx
   simpa using h3 i (by omega)
theorem Oj(fns:List Fd)(k:Nat){vs:List LV}{ch:List Scp}(h:∀s,(lkV vs s).isSome=(lm ch s).isSome)(e:Ex)(c:Int):im fns k vs e.op e.name e.kids.length c=iM fns k ch c e:=by
 unfold im iM
 split
 ·rw[←h,rO];cases lkV vs e.name<;>rfl
 ·split
  ·rw[mY,cg,cg,Gy]
   cases List.findIdx? (λf=>decide (f.name=e.name)) fns with
   |none=>rfl
   |some j=>
    simp only
    by_cases hj:j<k
    ·rw[if_neg (by omega),if_pos hj]
    ·rw[if_pos (by omega),if_neg hj]
  ·rfl
mutual
theorem Tm(fns:List Fd)(k:Nat){vs:List LV}{ch:List Scp}(h:∀s,(lkV vs s).isSome=(lm ch s).isSome):∀(e:Ex) (c:Int),jJ fns k vs e c=e.pre.foldl (iM fns k ch) c
 | .mk o n s ks,c=>by
   rw[jJ,Ex.pre,List.foldl_cons,←CB fns k h ks,←Oj fns k h];rfl
theorem CB(fns:List Fd)(k:Nat){vs:List LV}{ch:List Scp}(h:∀s,(lkV vs s).isSome=(lm ch s).isSome):∀(l:List Ex) (c:Int),bp fns k vs l c=(cQ l).foldl (iM fns k ch) c
 |[],c=>rfl
 |e::r,c=>by rw[bp,cQ,List.foldl_append,Tm fns k h e,CB fns k h r]
end
abbrev g0:LV->Nat:=λ_=>0
theorem UZ{b:Nat}{w:WS}{m:Scp}{up:List Scp}(h:SR g0 b w.vs (m::up))(o:Int)(s:List UInt8):SR g0 b (opW o s b w).vs (opS o s m 0::up)/\(opW o s b w).code=opC o s m up w.code:=by
 unfold opW opS opC
 by_cases h1:o=1
 ·simp only[h1,if_true]
  exact⟨h.add s _ 0 rfl,h.put s _⟩
 ·simp only[if_neg h1]
  split
  ·refine⟨h,?_⟩
   have:=h.is s
   simp only[rO]
   rw[←this]
   cases lkV w.vs s<;>rfl
  ·exact⟨h,rfl⟩
theorem JK{d:Nat}{o:Int}{s:List UInt8}{a:List Ex}{bd el:List Sm}(h:aq (d+1) (.mk o s a bd el)=true):bd.all (aq d)=true/\el.all (aq d)=true/\(¬(o=5\/o=6)->bd=[]/\el=[]):=by
 simp only[aq,fX,Sm.op,Sm.body,Sm.els,ZE,Bool.or_eq_true,decide_eq_true_eq,List.isEmpty_iff] at h
 refine⟨h.1.2,h.2,λhn=>⟨?_,?_⟩⟩
 ·rcases h.1.1.2 with(h|h)|h
  ·exact h
  ·exact absurd (.inl (of_decide_eq_true h)) hn
  ·exact absurd (.inr (of_decide_eq_true h)) hn
 ·rcases h.1.1.1.2 with h|h
  ·exact h
  ·exact absurd (.inl (of_decide_eq_true h)) hn
theorem du(w:WS)(vs:List LV):(w.back vs).code=w.code:=rfl
theorem Ua(fns:List Fd)(k:Nat):∀(d b:Nat) (l:List Sm),l.all (aq d)=true->∀(w:WS) (m:Scp) (up:List Scp),SR g0 b w.vs (m::up)->
 SR g0 b (bJ fns k b l w).vs ((jO fns k l m up w.code).1::up)/\(bJ fns k b l w).code=(jO fns k l m up w.code).2:=by
 intro d
 induction d with
 |zero=>
  intro b l hl w m up h
  cases l with
  |nil=>exact⟨h,rfl⟩
  |cons s r=>simp[aq] at hl
 |succ d ih=>
  have eC:∀(b:Nat) (s:Sm),aq (d+1) s=true->∀(w:WS) (m:Scp) (up:List Scp),SR g0 b w.vs (m::up)->
   SR g0 b (stW fns k b s w).vs ((icS fns k s m up w.code).1::up)/\(stW fns k b s w).code=(icS fns k s m up w.code).2:=by
   intro b s hs w m up h
   obtain⟨o,n,a,bd,el⟩:=s
   obtain⟨f1,f2,f3⟩:=JK hs
   have hc:=CB fns k h.is a w.code
   obtain⟨g1,g2⟩:=UZ (w:=⟨w.vs,w.count,bp fns k w.vs a w.code⟩) h o n
   rw[stW,icS]
   simp only[hc] at g1 g2⊢
   generalize hw2:opW o n b ⟨w.vs,w.count,(cQ a).foldl (iM fns k (m::up)) w.code⟩=w2 at*
   refine⟨g1,?_⟩
   rw[du]
   have g2':w2.code=opC o n m up (Kr fns k (m::up) a w.code):=g2
   rw[←g2']
   by_cases ho:o=5\/o=6
   ·rw[if_pos ho]
    have k1:=ih (b+1) bd f1 w2 [] _ g1.open
    have k2:=ih (b+1) el f2 ((bJ fns k (b+1) bd w2).back w2.vs) [] _ g1.open
    rw[k2.2,du,k1.2]
   ·obtain⟨rfl,rfl⟩:=f3 ho
    rw[if_neg ho]
    simp[bJ,WS.back]
  intro b l
  induction l with
  |nil=>intro _ w m up h;exact⟨h,rfl⟩
  |cons s r ihl=>
   intro hl w m up h
   rw[List.all_cons,ZE] at hl
   obtain⟨k1,k2⟩:=eC b s hl.1 w m up h
   have:=ihl hl.2 _ _ up k1
   rw[bJ,jO,←k2]
   exact this
theorem GB:∀(ps:List (List UInt8)) (w:WS) (m:Scp),SR g0 0 w.vs [m]->SR g0 0 (bO ps w).vs [(kS ps m w.code).1]/\(bO ps w).code=(kS ps m w.code).2
 |[],w,m,h=>⟨h,rfl⟩
 |s::r,w,m,h=>by
  have hp:=h.put s w.code
  have:=GB r (iN w s 0) (iY m s 0) (h.add s w.count 0 rfl)
  simp only[bO,kS,List.foldl_cons] at this⊢
  rw[←hp]
  exact this
theorem QY{fns:List Fd}{k:Nat}{ch:List Scp}{c:Int}(h:c≠0)(e:Ex):iM fns k ch c e=c:=by
 unfold iM
 simp only[Dq h]
 split
 ·split<;>rfl
 ·split
  ·split
   ·rfl
   ·split<;>rfl
  ·rfl
theorem Fy{fns:List Fd}{k:Nat}{ch:List Scp}{c:Int}(h:c≠0):∀l:List Ex,l.foldl (iM fns k ch) c=c
 |[]=>rfl
 |e::r=>by rw[List.foldl_cons,QY h,Fy h r]
theorem QX{o:Int}{s:List UInt8}{m:Scp}{up:List Scp}{c:Int}(h:c≠0):opC o s m up c=c:=by
 unfold opC
 simp only[Dq h]
 split
 ·split<;>rfl
 ·split
  ·split<;>rfl
  ·rfl
mutual
theorem Pj(fns:List Fd)(k:Nat){c:Int}(h:c≠0):∀(s:Sm) (m:Scp) (up:List Scp),(icS fns k s m up c).2=c
 | .mk o s a bd el,m,up=>by
   rw[icS]
   simp only[Kr,Fy h,QX h]
   rw[sR fns k h bd,sR fns k h el,ite_self]
theorem sR(fns:List Fd)(k:Nat){c:Int}(h:c≠0):∀(l:List Sm) (m:Scp) (up:List Scp),(jO fns k l m up c).2=c
 |[],m,up=>rfl
 |s::r,m,up=>by rw[jO,Pj fns k h s m up,sR fns k h r]
end
theorem Ao{c:Int}(h:c≠0):∀(ps:List (List UInt8)) (m:Scp),(kS ps m c).2=c
 |[],m=>rfl
 |s::r,m=>by
  have:=Ao h r (iY m s 0)
  simp only[kS,List.foldl_cons,Dq h,ite_self] at this⊢
  exact this
theorem Ri(fns:List Fd)(k:Nat)(f:Fd){c:Int}(h:c≠0):icF fns k f c=c:=by
 simp only[icF,Dq h,ite_self]
 rw[Ao h,sR fns k h]
theorem Co(fns:List Fd){c:Int}(h:c≠0):∀(l:List Fd) (k:Nat),mX fns k l c=c
 |[],k=>rfl
 |f::r,k=>by rw[mX,Ri fns k f h,Co fns h r]
theorem EZ{fns:List Fd}{k:Nat}{f:Fd}(h:fns[k]?=some f):∃j,cg fns f.name=some j/\j<=k:=by
 cases e:cg fns f.name with
 |none=>
  rw[cg,aaf] at e
  have:=e f (Zy h)
  simp at this
 |some j=>
  refine⟨j,rfl,?_⟩
  rw[cg,ZP] at e
  obtain⟨h1,h2,h3⟩:=e
  rcases aaj k j with hk|hk
  ·have:=h3 k hk
   obtain⟨a1,a2⟩:=Zt.1 h
   rw[a2] at this
   simp at this
  ·exact hk
theorem WM(fns:List Fd){k:Nat}{f:Fd}(hf:fns[k]?=some f)(hok:iZ f=true):(fnW fns k f).code=icF fns k f 0:=by
 obtain⟨j,e1,e2⟩:=EZ hf
 have hb:f.body.all (aq 4)=true:=by simp only[iZ,ZE] at hok;exact hok.2
 have hc:(if cg fns f.name=some k then(0:Int) else 2)=if(match cg fns f.name with|some j=>decide (j<k)|none=>true) then fl 0 2 else 0:=by
  rw[e1]
  by_cases h:j=k
  ·subst h;simp
  ·have:j<k:=by omega
   simp[h,this,fl]
 obtain⟨p1,p2⟩:=GB f.params ⟨[],0,if cg fns f.name=some k then(0:Int) else 2⟩ [] SR.base
 obtain⟨q1,q2⟩:=Ua fns k 4 0 f.body hb _ _ [] p1
 rw[fnW,q2,p2]
 simp only[icF,←hc]
theorem Ru(fns:List Fd):∀(l:List Fd) (k:Nat),(∀i,l[i]?=fns[k+i]?)->l.all iZ=true->kn fns k l=mX fns k l 0
 |[],k,_,_=>rfl
 |f::r,k,hl,ha=>by
  rw[List.all_cons,ZE] at ha
  have h0:fns[k]?=some f:=by have:=hl 0;simpa using this.symm
  have hr:∀i,r[i]?=fns[k+1+i]?:=λi=>by have:=hl (i+1);rw[ZF] at this;rw[this];congr 1;omega
  rw[kn,mX,WM fns h0 ha.1]
  split
  ·rename_i e;rw[e];exact Ru fns r (k+1) hr ha.2
  ·rename_i e;rw[Co fns e]
theorem KY(fns:List Fd):aD fns=if bc fns then mX fns 0 fns 0 else 1:=by
 unfold aD
 split
 ·rename_i h
  simp only[bc,ZE] at h
  exact Ru fns fns 0 (λi=>by rw[aao]) h.1.2
 ·rfl
end
section
mutual
def rnS(fns:List Fd)(k b:Nat):Sm->WS->Sm
 | .mk o s a bd el,w=>
   let w2:=opW o s b ⟨w.vs,w.count,bp fns k w.vs a w.code⟩
   .mk o (opN o s w) (mV w.vs a) (jQ fns k (b+1) bd w2) (jQ fns k (b+1) el ((bJ fns k (b+1) bd w2).back w2.vs))
def jQ(fns:List Fd)(k b:Nat):List Sm->WS->List Sm
 |[],_=>[]
 |s::r,w=>rnS fns k b s w::jQ fns k b r (stW fns k b s w)
end
def pU:List (List UInt8)->WS->List (List UInt8)
 |[],_=>[]
 |s::r,w=>vnm w.count::pU r (iN w s 0)
def rnF(fns:List Fd)(k:Nat)(f:Fd):Fd:=
 ⟨f.name,pU f.params ⟨[],0,if cg fns f.name=some k then 0 else 2⟩,jQ fns k 0 f.body (bO f.params ⟨[],0,if cg fns f.name=some k then 0 else 2⟩)⟩
mutual
def MF:Sm->Nat
 | .mk o _ _ bd el=>(if o=1 then 1 else 0)+uw bd+uw el
def uw:List Sm->Nat
 |[]=>0
 |s::r=>MF s+uw r
end
theorem Aa(o:Int)(s:List UInt8)(b:Nat)(w:WS):(opW o s b w).count=w.count+if o=1 then 1 else 0:=by
 unfold opW
 split
 ·rfl
 ·split<;>rfl
mutual
theorem Fz(fns:List Fd)(k:Nat):∀(s:Sm) (b:Nat) (w:WS),(stW fns k b s w).count=w.count+MF s
 | .mk o s a bd el,b,w=>by
   rw[stW,MF]
   simp only[WS.back]
   rw[kj fns k el,kj fns k bd,Aa];show w.count+_+_+_=_
   omega
theorem kj(fns:List Fd)(k:Nat):∀(l:List Sm) (b:Nat) (w:WS),(bJ fns k b l w).count=w.count+uw l
 |[],b,w=>rfl
 |s::r,b,w=>by rw[bJ,uw,kj fns k r,Fz fns k s];omega
end
mutual
theorem RW:∀s:Sm,MF s<=s.cnt
 | .mk o s a bd el=>by
   have:=zg bd
   have:=zg el
   simp only[MF,Sm.cnt]
   split<;>omega
theorem zg:∀l:List Sm,uw l<=eB l
 |[]=>ZH _
 |s::r=>by have:=RW s;have:=zg r;simp only[uw,eB];omega
end
theorem Bi:∀(ps:List (List UInt8)) (w:WS),(bO ps w).count=w.count+ps.length
 |[],w=>rfl
 |s::r,w=>by
  have:=Bi r (iN w s 0)
  simp only[bO,List.foldl_cons,ZO] at this⊢
  rw[this];simp only[iN];omega
theorem Ta(o:Int)(s:List UInt8)(b:Nat)(w:WS):∃e,(opW o s b w).vs=e++w.vs:=by
 unfold opW
 split
 ·exact⟨[_],rfl⟩
 ·split<;>exact⟨[],rfl⟩
theorem KD(fns:List Fd)(k b:Nat)(o:Int)(s:List UInt8)(a:List Ex)(bd el:List Sm)(w:WS):(stW fns k b (.mk o s a bd el) w).vs=(opW o s b ⟨w.vs,w.count,bp fns k w.vs a w.code⟩).vs:=rfl
theorem HU(fns:List Fd)(k:Nat):∀(l:List Sm) (b:Nat) (w:WS),∃e,(bJ fns k b l w).vs=e++w.vs
 |[],b,w=>⟨[],rfl⟩
 | .mk o s a bd el::r,b,w=>by
   obtain⟨e1,h1⟩:=HU fns k r b (stW fns k b (.mk o s a bd el) w)
   obtain⟨e2,h2⟩:=Ta o s b ⟨w.vs,w.count,bp fns k w.vs a w.code⟩
   exact⟨e1++e2,by rw[bJ,h1,KD,h2,ZZ]⟩
theorem Ui{o:Int}{s:List UInt8}{b:Nat}{w:WS}(h:w.vs.length<=w.count):(opW o s b w).vs.length<=(opW o s b w).count:=by
 unfold opW
 split
 ·simp[iN,h]
 ·split<;>exact h
theorem UO(fns:List Fd)(k:Nat){s:Sm}{b:Nat}{w:WS}(h:w.vs.length<=w.count):(stW fns k b s w).vs.length<=(stW fns k b s w).count:=by
 obtain⟨o,n,a,bd,el⟩:=s
 rw[Fz,KD]
 have:=Ui (o:=o) (s:=n) (b:=b) (w:=⟨w.vs,w.count,bp fns k w.vs a w.code⟩) h
 rw[Aa] at this
 simp only[MF]
 simp only at this
 omega
theorem LI(fns:List Fd)(k:Nat):∀{l:List Sm} {b:Nat} {w:WS},w.vs.length<=w.count->(bJ fns k b l w).vs.length<=(bJ fns k b l w).count
 |[],_,_,h=>h
 |s::r,b,w,h=>LI fns k (l:=r) (UO fns k h)
mutual
def Sm.pre(d:Nat):Sm->List (Sm × Nat)
 | .mk o s a bd el=>(.mk o s a bd el,d)::(bZ (d+1) bd++bZ (d+1) el)
def bZ(d:Nat):List Sm->List (Sm × Nat)
 |[]=>[]
 |s::r=>Sm.pre d s++bZ d r
end
theorem Sm.pre_eq(d:Nat)(s:Sm):s.pre d=(s,d)::(bZ (d+1) s.body++bZ (d+1) s.els):=by cases s;rfl
theorem uQ(d:Nat):∀a b:List Sm,bZ d (a++b)=bZ d a++bZ d b
 |[],b=>rfl
 |s::r,b=>by rw[aac,bZ,bZ,uQ d r b,ZZ]
theorem Ex.pre_eq(e:Ex):e.pre=e::cQ e.kids:=by cases e;rfl
theorem pk:∀a b:List Ex,cQ (a++b)=cQ a++cQ b
 |[],b=>rfl
 |e::r,b=>by rw[aac,cQ,cQ,pk r b,ZZ]
mutual
theorem Sm.pre_len:∀(s:Sm) (d:Nat),(s.pre d).length=s.cnt
 | .mk o s a bd el,d=>by simp only[Sm.pre,Sm.cnt,ZO,ZM,mC bd,mC el];omega
theorem mC:∀(l:List Sm) (d:Nat),(bZ d l).length=eB l
 |[],d=>rfl
 |s::r,d=>by simp only[bZ,eB,ZM,Sm.pre_len s,mC r]
end
end
section
theorem zY{vs:List LV}{s:List UInt8}{c:Int}(h:c≠0):rO vs s c=c:=by unfold rO;split<;>simp[Dq h]
theorem JY{fns:List Fd}{k:Nat}{s:List UInt8}{n:Nat}{c:Int}(h:c≠0):mY fns k s n c=c:=by
 unfold mY
 simp only[Dq h]
 split
 ·rfl
 ·split
  ·rfl
  ·split<;>rfl
theorem KF{fns:List Fd}{k:Nat}{vs:List LV}{o:Int}{s:List UInt8}{n:Nat}{c:Int}(h:c≠0):im fns k vs o s n c=c:=by
 unfold im
 rw[zY h,JY h]
 split
 ·rfl
 ·split<;>rfl
mutual
theorem Na(fns:List Fd)(k:Nat)(vs:List LV){c:Int}(h:c≠0):∀e:Ex,jJ fns k vs e c=c
 | .mk o n s ks=>by rw[jJ,KF h,pO fns k vs h ks]
theorem pO(fns:List Fd)(k:Nat)(vs:List LV){c:Int}(h:c≠0):∀l:List Ex,bp fns k vs l c=c
 |[]=>rfl
 |e::r=>by rw[bp,Na fns k vs h e,pO fns k vs h r]
end
theorem cZ{fns:List Fd}{k:Nat}{vs:List LV}{l:List Ex}{c:Int}(h:bp fns k vs l c=0):c=0:=by
 by_cases hc:c=0
 ·exact hc
 ·rw[pO fns k vs hc] at h;exact h
theorem Fm{vs:List LV}{s:List UInt8}{c:Int}(h:rO vs s c=0):c=0/\∃v,lkV vs s=some v:=by
 by_cases hc:c=0
 ·refine⟨hc,?_⟩
  unfold rO at h
  cases e:lkV vs s with
  |some v=>exact⟨v,rfl⟩
  |none=>rw[e] at h;simp[fl,hc] at h
 ·rw[zY hc] at h;exact absurd h hc
theorem GY{o:Int}{s:List UInt8}{b:Nat}{w:WS}(h:w.code≠0):(opW o s b w).code=w.code:=by
 unfold opW
 split
 ·simp only[iN,rf,Dq h]
  split
  ·rfl
  ·split<;>rfl
 ·split
  ·exact zY h
  ·rfl
mutual
theorem PJ(fns:List Fd)(k:Nat):∀(s:Sm) (b:Nat) (w:WS),w.code≠0->(stW fns k b s w).code=w.code
 | .mk o s a bd el,b,w,h=>by
   have e1:(bp fns k w.vs a w.code)=w.code:=pO fns k w.vs h a
   have e2:(opW o s b ⟨w.vs,w.count,bp fns k w.vs a w.code⟩).code=w.code:=by rw[GY]<;>simp only[e1];exact h
   have e3:=ti fns k bd (b+1) (opW o s b ⟨w.vs,w.count,bp fns k w.vs a w.code⟩) (by rw[e2];exact h)
   rw[stW,du,ti fns k el _ _ (by rw[du,e3,e2];exact h),du,e3,e2]
theorem ti(fns:List Fd)(k:Nat):∀(l:List Sm) (b:Nat) (w:WS),w.code≠0->(bJ fns k b l w).code=w.code
 |[],b,w,h=>rfl
 |s::r,b,w,h=>by
  have e1:=PJ fns k s b w h
  rw[bJ,ti fns k r b _ (by rw[e1];exact h),e1]
end
theorem cu{fns:List Fd}{k b:Nat}{l:List Sm}{w:WS}(h:(bJ fns k b l w).code=0):w.code=0:=by
 by_cases hc:w.code=0
 ·exact hc
 ·rw[ti fns k l b w hc] at h;exact h
theorem zd{o:Int}{s:List UInt8}{b:Nat}{w:WS}(h:(opW o s b w).code=0):w.code=0:=by
 by_cases hc:w.code=0
 ·exact hc
 ·rw[GY hc] at h;exact h
end
section
theorem nr(fns:List Fd):∀(l:List Fd) (k:Nat),kn fns k l=0↔∀(i:Nat) (f:Fd),l[i]?=some f->(fnW fns (k+i) f).code=0
 |[],k=>by simp[kn]
 |f::r,k=>by
  rw[kn]
  have ih:=nr fns r (k+1)
  constructor
  ·intro h i g hg
   by_cases h0:(fnW fns k f).code=0
   ·rw[if_pos h0] at h
    cases i with
    |zero=>cases hg;exact h0
    |succ i=>have:=ih.1 h i g (by simpa using hg);rwa[show k+(i+1)=k+1+i by omega]
   ·rw[if_neg h0] at h;exact absurd h h0
  ·intro h
   rw[if_pos (by have:=h 0 f rfl;rwa[Nat.add_zero] at this)]
   exact ih.2 λi g hg=>by have:=h (i+1) g (by simpa using hg);rwa[show k+(i+1)=k+1+i by omega] at this
theorem sY(l:List Fd):aD l=0↔bc l=true/\∀(k:Nat) (f:Fd),l[k]?=some f->(fnW l k f).code=0:=by
 unfold aD
 by_cases h:bc l=true
 ·rw[if_pos h,nr];simp[h]
 ·rw[if_neg h];simp[h]
theorem dC(l:List Fd):bc l=true↔(1<=l.length/\l.length<=4)/\(∀f∈l,iZ f=true)/\lZ l<=40:=by
 simp only[bc,inR,ZE,decide_eq_true_eq,ZA]
 constructor
 ·rintro⟨⟨⟨h1,h2⟩,h3⟩,h4⟩;exact⟨⟨by omega,by omega⟩,h3,h4⟩
 ·rintro⟨⟨h1,h2⟩,h3,h4⟩;exact⟨⟨⟨by omega,by omega⟩,h3⟩,h4⟩
def Fd.cut(f:Fd)(n:Nat):Fd:=⟨f.name,f.params,f.body.take n⟩
end
section
abbrev Sc5:=List (List UInt8 × Int)
structure S5 where (left:Nat) (said:List Int) (cells:List Int)
inductive O5 (α:Type) where
 |ok (a:α)
 |st (c:Int)
def cN:Sc5->List UInt8->Option Int
 |[],_=>none
 |x::r,s=>if x.1=s then some x.2 else cN r s
def sset:Sc5->List UInt8->Int->Sc5
 |[],_,_=>[]
 |x::r,s,n=>if x.1=s then(s,n)::r else x::sset r s n
def kR:List Sc5->List UInt8->Option Int
 |[],_=>none
 |m::r,s=>match cN m s with|some n=>some n|none=>kR r s
def lw:List Sc5->List UInt8->Int->List Sc5
 |[],_,_=>[]
 |m::r,s,n=>if(cN m s).isSome then sset m s n::r else m::lw r s n
def tr5(b:Bool):Int:=if b then 1 else 0
def gx(op a b:Int):Option Int:=
 if op=3 then some ((a+b)%256) else if op=4 then some ((a-b+256)%256) else if op=5 then some (a*b%256) else if op=8 then some (tr5 (decide (a<b))) else if op=9 then some (tr5 (decide (a=b)))
 else if b=0 then none else if op=6 then some (a/b) else some (a%b)
def S5.say(s:S5)(n:Int):S5:=⟨s.left,s.said++[n],s.cells⟩
def S5.put(s:S5)(i:Nat)(n:Int):S5:=⟨s.left,s.said,s.cells.set i n⟩
def S5.at_(s:S5)(F:Nat):S5:=⟨F,s.said,s.cells⟩
def V5(n:Int):Prop:=0<=n/\n<=255
inductive J5 where
 |ex (k:Nat) (v:List Sc5) (s:S5) (e:Ex) (s':S5) (r:O5 Int)
 |exs (k:Nat) (v:List Sc5) (s:S5) (es:List Ex) (s':S5) (r:O5 (List Int))
 |cal (k:Nat) (us:List Int) (s:S5) (s':S5) (r:O5 Int)
 |stm (k:Nat) (v:List Sc5) (s:S5) (x:Sm) (v':List Sc5) (s':S5) (r:O5 (Option Int))
 |blk (k:Nat) (v:List Sc5) (s:S5) (xs:List Sm) (v':List Sc5) (s':S5) (r:O5 (Option Int))
 |lp (k:Nat) (v:List Sc5) (s:S5) (x:Sm) (v':List Sc5) (s':S5) (r:O5 (Option Int))
def UB:O5 (Option Int)->O5 Int
 | .ok (some n)=> .ok n
 | .ok none=> .ok 0
 | .st c=> .st c
inductive Ev (l:List Fd):J5->Prop where
 |num {k v s e}:e.op=1->V5 e.n->Ev l (.ex k v s e s (.ok e.n))
 |var {k v s e n}:e.op=2->kR v e.name=some n->Ev l (.ex k v s e s (.ok n))
 |call {k v s e s1 us j s2 r}:e.op=13->Ev l (.exs k v s e.kids s1 (.ok us))->cg l e.name=some j->j<k->Ev l (.cal j us s1 s2 r)->Ev l (.ex k v s e s2 r)
 |callS {k v s e s1 c}:e.op=13->Ev l (.exs k v s e.kids s1 (.st c))->Ev l (.ex k v s e s1 (.st c))
 |firstS {k v s e a r s1 c}:3<=e.op->e.op<=12->e.kids=a::r->Ev l (.ex k v s a s1 (.st c))->Ev l (.ex k v s e s1 (.st c))
 |and0 {k v s e a b s1}:e.op=10->e.kids=[a,b]->Ev l (.ex k v s a s1 (.ok 0))->Ev l (.ex k v s e s1 (.ok 0))
 |and1 {k v s e a b s1 n s2 m}:e.op=10->e.kids=[a,b]->Ev l (.ex k v s a s1 (.ok n))->n≠0->Ev l (.ex k v s1 b s2 (.ok m))->Ev l (.ex k v s e s2 (.ok (tr5 (decide (m≠0)))))
 |andS {k v s e a b s1 n s2 c}:e.op=10->e.kids=[a,b]->Ev l (.ex k v s a s1 (.ok n))->n≠0->Ev l (.ex k v s1 b s2 (.st c))->Ev l (.ex k v s e s2 (.st c))
 |not {k v s e a s1 n}:e.op=11->e.kids=[a]->Ev l (.ex k v s a s1 (.ok n))->Ev l (.ex k v s e s1 (.ok (tr5 (decide (n=0)))))
 |at_ {k v s e a s1 n m}:e.op=12->e.kids=[a]->Ev l (.ex k v s a s1 (.ok (n:Nat)))->n<16->s1.cells[n]?=some m->Ev l (.ex k v s e s1 (.ok m))
 |atS {k v s e a s1 n}:e.op=12->e.kids=[a]->Ev l (.ex k v s a s1 (.ok n))->16<=n->Ev l (.ex k v s e s1 (.st 2))
 |bin {k v s e a b s1 n s2 m q}:3<=e.op->e.op<=9->e.kids=[a,b]->Ev l (.ex k v s a s1 (.ok n))->Ev l (.ex k v s1 b s2 (.ok m))->gx e.op n m=some q->Ev l (.ex k v s e s2 (.ok q))
 |binS {k v s e a b s1 n s2 c}:3<=e.op->e.op<=9->e.kids=[a,b]->Ev l (.ex k v s a s1 (.ok n))->Ev l (.ex k v s1 b s2 (.st c))->Ev l (.ex k v s e s2 (.st c))
 |binD {k v s e a b s1 n s2 m}:3<=e.op->e.op<=9->e.kids=[a,b]->Ev l (.ex k v s a s1 (.ok n))->Ev l (.ex k v s1 b s2 (.ok m))->gx e.op n m=none->Ev l (.ex k v s e s2 (.st 1))
 |nil {k v s}:Ev l (.exs k v s [] s (.ok []))
 |cons {k v s a r s1 n s2 ns}:Ev l (.ex k v s a s1 (.ok n))->Ev l (.exs k v s1 r s2 (.ok ns))->Ev l (.exs k v s (a::r) s2 (.ok (n::ns)))
 |consS {k v s a r s1 c}:Ev l (.ex k v s a s1 (.st c))->Ev l (.exs k v s (a::r) s1 (.st c))
 |consT {k v s a r s1 n s2 c}:Ev l (.ex k v s a s1 (.ok n))->Ev l (.exs k v s1 r s2 (.st c))->Ev l (.exs k v s (a::r) s2 (.st c))
 |cal {k f us s v' s' r}:l[k]?=some f->f.params.length=us.length->Ev l (.blk k [f.params.zip us] s f.body v' s' r)->Ev l (.cal k us s s' (UB r))
 |bnil {k v s}:Ev l (.blk k v s [] v s (.ok none))
 |bfuel {k v s x r}:s.left=0->Ev l (.blk k v s (x::r) v s (.st 3))
 |bgo {k v s x r F v1 s1 v2 s2 q}:s.left=F+1->Ev l (.stm k v (s.at_ F) x v1 s1 (.ok none))->Ev l (.blk k v1 s1 r v2 s2 q)->Ev l (.blk k v s (x::r) v2 s2 q)
 |bend {k v s x r F v1 s1 q}:s.left=F+1->Ev l (.stm k v (s.at_ F) x v1 s1 q)->q≠ .ok none->Ev l (.blk k v s (x::r) v1 s1 q)
 |argS {k v s x a r s1 c}:x.op≠6->x.args=a::r->Ev l (.ex k v s a s1 (.st c))->Ev l (.stm k v s x v s1 (.st c))
 |slet {k v s x a s1 n m up}:x.op=1->x.args=[a]->Ev l (.ex k v s a s1 (.ok n))->v=m::up->cN m x.name=none->Ev l (.stm k v s x ((m++[(x.name,n)])::up) s1 (.ok none))
 |sset {k v s x a s1 n}:x.op=2->x.args=[a]->Ev l (.ex k v s a s1 (.ok n))->(kR v x.name).isSome=true->Ev l (.stm k v s x (lw v x.name n) s1 (.ok none))
 |ssay {k v s x a s1 n}:x.op=3->x.args=[a]->Ev l (.ex k v s a s1 (.ok n))->Ev l (.stm k v s x v (s1.say n) (.ok none))
 |sput {k v s x a b s1 n s2 m}:x.op=4->x.args=[a,b]->Ev l (.ex k v s a s1 (.ok (n:Nat)))->Ev l (.ex k v s1 b s2 (.ok m))->n<16->Ev l (.stm k v s x v (s2.put n m) (.ok none))
 |sputC {k v s x a b s1 n s2 m}:x.op=4->x.args=[a,b]->Ev l (.ex k v s a s1 (.ok n))->Ev l (.ex k v s1 b s2 (.ok m))->16<=n->Ev l (.stm k v s x v s2 (.st 2))
 |sputS {k v s x a b s1 n s2 c}:x.op=4->x.args=[a,b]->Ev l (.ex k v s a s1 (.ok n))->Ev l (.ex k v s1 b s2 (.st c))->Ev l (.stm k v s x v s2 (.st c))
 |sif {k v s x a s1 n m v' s2 q}:x.op=5->x.args=[a]->Ev l (.ex k v s a s1 (.ok n))->Ev l (.blk k ([]::v) s1 (if n≠0 then x.body else x.els) (m::v') s2 q)->Ev l (.stm k v s x v' s2 q)
 |sloop {k v s x v' s' q}:x.op=6->Ev l (.lp k v s x v' s' q)->Ev l (.stm k v s x v' s' q)
 |sback {k v s x a s1 n}:x.op=7->x.args=[a]->Ev l (.ex k v s a s1 (.ok n))->Ev l (.stm k v s x v s1 (.ok (some n)))
 |sdo {k v s x a s1 n}:x.op=8->x.args=[a]->Ev l (.ex k v s a s1 (.ok n))->Ev l (.stm k v s x v s1 (.ok none))
 |lpS {k v s x a s1 c}:x.args=[a]->Ev l (.ex k v s a s1 (.st c))->Ev l (.lp k v s x v s1 (.st c))
 |lp0 {k v s x a s1}:x.args=[a]->Ev l (.ex k v s a s1 (.ok 0))->Ev l (.lp k v s x v s1 (.ok none))
 |lpEnd {k v s x a s1 n m v' s2 q}:x.args=[a]->Ev l (.ex k v s a s1 (.ok n))->n≠0->Ev l (.blk k ([]::v) s1 x.body (m::v') s2 q)->q≠ .ok none->Ev l (.lp k v s x v' s2 q)
 |lpFuel {k v s x a s1 n m v' s2}:x.args=[a]->Ev l (.ex k v s a s1 (.ok n))->n≠0->Ev l (.blk k ([]::v) s1 x.body (m::v') s2 (.ok none))->s2.left=0->Ev l (.lp k v s x v' s2 (.st 3))
 |lpGo {k v s x a s1 n m v' s2 F v'' s3 q}:x.args=[a]->Ev l (.ex k v s a s1 (.ok n))->n≠0->Ev l (.blk k ([]::v) s1 x.body (m::v') s2 (.ok none))->s2.left=F+1->Ev l (.lp k v' (s2.at_ F) x v'' s3 q)->Ev l (.lp k v s x v'' s3 q)
end
section
structure G5 (s:S5):Prop where
 len:s.cells.length=16
 cells:∀c∈s.cells,V5 c
 said:∀c∈s.said,V5 c
def GE5(v:List Sc5):Prop:=∀m∈v,∀x∈m,V5 x.2
theorem IL:∀{m:Sc5} {s:List UInt8} {n:Int},cN m s=some n->(s,n)∈m
 |[],_,_,h=>by cases h
 |x::r,s,n,h=>by
  rw[cN] at h
  by_cases e:x.1=s
  ·rw[if_pos e] at h;cases h;subst e;simp
  ·rw[if_neg e] at h;exact aai _ (IL h)
theorem FC:∀{v:List Sc5} {s:List UInt8} {n:Int},GE5 v->kR v s=some n->V5 n
 |[],_,_,_,h=>by cases h
 |m::r,s,n,g,h=>by
  rw[kR] at h
  cases e:cN m s with
  |some q=>
   rw[e] at h;cases h
   exact g m (by simp) _ (IL e)
  |none=>
   rw[e] at h
   exact FC (λm hm=>g m (by simp[hm])) h
theorem Fj:∀{m:Sc5} {s:List UInt8} {n:Int},(∀x∈m,V5 x.2)->V5 n->∀x∈sset m s n,V5 x.2
 |[],_,_,_,_,x,hx=>by cases hx
 |y::r,s,n,g,hn,x,hx=>by
  rw[sset] at hx
  split at hx
  ·rcases ZI.1 hx with rfl|hx
   ·exact hn
   ·exact g x (by simp[hx])
  ·rcases ZI.1 hx with rfl|hx
   ·exact g x (by simp)
   ·exact Fj (λx hx=>g x (by simp[hx])) hn x hx
theorem Fa:∀{v:List Sc5} {s:List UInt8} {n:Int},GE5 v->V5 n->GE5 (lw v s n)
 |[],_,_,g,_=>g
 |m::r,s,n,g,hn=>by
  rw[lw]
  split
  ·intro q hq
   rcases ZI.1 hq with rfl|hq
   ·exact Fj (g m (by simp)) hn
   ·exact g q (by simp[hq])
  ·intro q hq
   rcases ZI.1 hq with rfl|hq
   ·exact g q (by simp)
   ·exact Fa (λm hm=>g m (by simp[hm])) hn q hq
theorem kT(b:Bool):V5 (tr5 b):=by cases b<;>simp[tr5,V5]
theorem Fl{op a b n:Int}(ha:V5 a)(hb:V5 b)(h:gx op a b=some n):V5 n:=by
 obtain⟨a0,a1⟩:=ha
 obtain⟨b0,b1⟩:=hb
 unfold gx at h
 split at h
 ·cases h;unfold V5;omega
 split at h
 ·cases h;unfold V5;omega
 split at h
 ·cases h
  have:0<=a*b:=Int.mul_nonneg a0 b0
  unfold V5
  generalize a*b=q at*
  omega
 split at h
 ·cases h;exact kT _
 split at h
 ·cases h;exact kT _
 split at h
 ·cases h
 split at h
 ·cases h
  have h1:0<=a/b:=Int.ediv_nonneg a0 b0
  have h2:a/b<=a:=Int.ediv_le_self b a0
  exact⟨h1,by omega⟩
 ·cases h
  rename_i hb0 _
  have h1:0<=a%b:=Int.emod_nonneg a hb0
  have h2:a%b<b:=Int.emod_lt_of_pos a (by omega)
  exact⟨h1,by omega⟩
theorem G5.say{s:S5}(g:G5 s){n:Int}(hn:V5 n):G5 (s.say n):=⟨g.len,g.cells,λc hc=>by
 rcases ZB.1 hc with h|h
 ·exact g.said c h
 ·rw[ZC.1 h];exact hn⟩
theorem G5.put{s:S5}(g:G5 s)(i:Nat){n:Int}(hn:V5 n):G5 (s.put i n):=⟨by rw[←g.len];exact aag,λc hc=>by
 rcases aae hc with h|h
 ·exact g.cells c h
 ·rw[h];exact hn,g.said⟩
theorem G5.at_{s:S5}(g:G5 s)(F:Nat):G5 (s.at_ F):=⟨g.len,g.cells,g.said⟩
def YE:J5->Prop
 | .ex _ v s _ _ _=>G5 s/\GE5 v
 | .exs _ v s _ _ _=>G5 s/\GE5 v
 | .cal _ us s _ _=>G5 s/\∀n∈us,V5 n
 | .stm _ v s _ _ _ _=>G5 s/\GE5 v
 | .blk _ v s _ _ _ _=>G5 s/\GE5 v
 | .lp _ v s _ _ _ _=>G5 s/\GE5 v
def WV:J5->Prop
 | .ex _ _ s _ s' r=>G5 s'/\s'.left<=s.left/\∀n,r= .ok n->V5 n
 | .exs _ _ s es s' r=>G5 s'/\s'.left<=s.left/\∀ns,r= .ok ns->ns.length=es.length/\∀n∈ns,V5 n
 | .cal _ _ s s' r=>G5 s'/\s'.left<=s.left/\∀n,r= .ok n->V5 n
 | .stm _ _ s _ v' s' r=>G5 s'/\s'.left<=s.left/\GE5 v'/\∀n,r= .ok (some n)->V5 n
 | .blk _ _ s _ v' s' r=>G5 s'/\s'.left<=s.left/\GE5 v'/\∀n,r= .ok (some n)->V5 n
 | .lp _ _ s _ v' s' r=>G5 s'/\s'.left<=s.left/\GE5 v'/\∀n,r= .ok (some n)->V5 n
theorem GE5.tail{m:Sc5}{v:List Sc5}(g:GE5 (m::v)):GE5 v:=λq hq=>g q (by simp[hq])
theorem GE5.opn{v:List Sc5}(g:GE5 v):GE5 ([]::v):=λq hq=>by
 rcases ZI.1 hq with rfl|hq
 ·intro x hx;cases hx
 ·exact g q hq
theorem aV{l:List Fd}{j:J5}(h:Ev l j):YE j->WV j:=by
 induction h with
 |num _ h=>exact λp=>⟨p.1,ZH _,λn e=>by cases e;exact h⟩
 |var _ h=>exact λp=>⟨p.1,ZH _,λn e=>by cases e;exact FC p.2 h⟩
 |call _ _ _ _ _ i1 i2=>
   intro p
   have a:=i1 p
   have b:=i2 ⟨a.1,(a.2.2 _ rfl).2⟩
   exact⟨b.1,ZQ b.2.1 a.2.1,b.2.2⟩
 |callS _ _ i1=>
   intro p
   have a:=i1 p
   exact⟨a.1,a.2.1,λn e=>by cases e⟩
 |firstS _ _ _ _ i1=>
   intro p
   have a:=i1 p
   exact⟨a.1,a.2.1,λn e=>by cases e⟩
 |and0 _ _ _ i1=>
   intro p
   have a:=i1 p
   exact⟨a.1,a.2.1,λn e=>by cases e;exact⟨by omega,by omega⟩⟩
 |and1 _ _ _ _ _ i1 i2=>
   intro p
   have a:=i1 p
   have b:=i2 ⟨a.1,p.2⟩
   exact⟨b.1,ZQ b.2.1 a.2.1,λn e=>by cases e;exact kT _⟩
 |andS _ _ _ _ _ i1 i2=>
   intro p
   have a:=i1 p
   have b:=i2 ⟨a.1,p.2⟩
   exact⟨b.1,ZQ b.2.1 a.2.1,λn e=>by cases e⟩
 |not _ _ _ i1=>
   intro p
   have a:=i1 p
   exact⟨a.1,a.2.1,λn e=>by cases e;exact kT _⟩
 |at_ _ _ _ _ hm i1=>
   intro p
   have a:=i1 p
   exact⟨a.1,a.2.1,λn e=>by cases e;exact a.1.cells _ (Zy hm)⟩
 |atS _ _ _ _ i1=>
   intro p
   have a:=i1 p
   exact⟨a.1,a.2.1,λn e=>by cases e⟩
 |bin _ _ _ _ _ ht i1 i2=>
   intro p
   have a:=i1 p
   have b:=i2 ⟨a.1,p.2⟩
   exact⟨b.1,ZQ b.2.1 a.2.1,λn e=>by cases e;exact Fl (a.2.2 _ rfl) (b.2.2 _ rfl) ht⟩
 |binS _ _ _ _ _ i1 i2=>
   intro p
   have a:=i1 p
   have b:=i2 ⟨a.1,p.2⟩
   exact⟨b.1,ZQ b.2.1 a.2.1,λn e=>by cases e⟩
 |binD _ _ _ _ _ _ i1 i2=>
   intro p
   have a:=i1 p
   have b:=i2 ⟨a.1,p.2⟩
   exact⟨b.1,ZQ b.2.1 a.2.1,λn e=>by cases e⟩
 |nil=>exact λp=>⟨p.1,ZH _,λns e=>by cases e;exact⟨rfl,λn h=>by cases h⟩⟩
 |cons _ _ i1 i2=>
   intro p
   have a:=i1 p
   have b:=i2 ⟨a.1,p.2⟩
   refine⟨b.1,ZQ b.2.1 a.2.1,λns e=>?_⟩
   cases e
   obtain⟨k1,k2⟩:=b.2.2 _ rfl
   refine⟨by simp[k1],λn hn=>?_⟩
   rcases ZI.1 hn with rfl|hn
   ·exact a.2.2 _ rfl
   ·exact k2 n hn
 |consS _ i1=>
   intro p
   have a:=i1 p
   exact⟨a.1,a.2.1,λn e=>by cases e⟩
 |consT _ _ i1 i2=>
   intro p
   have a:=i1 p
   have b:=i2 ⟨a.1,p.2⟩
   exact⟨b.1,ZQ b.2.1 a.2.1,λn e=>by cases e⟩
 | @cal k f us s v' s' r _ _ _ i1=>
    intro p
    have a:=i1 ⟨p.1,λm hm x hx=>by
     rw[ZC.1 hm] at hx
     exact p.2 _ (List.of_mem_zip hx).2⟩
    refine⟨a.1,a.2.1,λn e=>?_⟩
    match r,e with
    | .ok (some q),e=>cases e;exact a.2.2.2 _ rfl
    | .ok none,e=>cases e;exact⟨by omega,by omega⟩
 |bnil=>exact λp=>⟨p.1,ZH _,p.2,λn e=>by cases e⟩
 |bfuel _=>exact λp=>⟨p.1,ZH _,p.2,λn e=>by cases e⟩
 | @bgo k v s x r F v1 s1 v2 s2 q hF _ _ i1 i2=>
    intro p
    have a:=i1 ⟨p.1.at_ F,p.2⟩
    have b:=i2 ⟨a.1,a.2.2.1⟩
    have h1:s1.left<=F:=a.2.1
    exact⟨b.1,by have:=b.2.1;omega,b.2.2⟩
 | @bend k v s x r F v1 s1 q hF _ _ i1=>
    intro p
    have a:=i1 ⟨p.1.at_ F,p.2⟩
    have h1:s1.left<=F:=a.2.1
    exact⟨a.1,by omega,a.2.2⟩
 |argS _ _ _ i1=>
   intro p
   have a:=i1 p
   exact⟨a.1,a.2.1,p.2,λn e=>by cases e⟩
 | @slet k v s x a s1 n m up _ _ _ hv _ i1=>
    intro p
    have a:=i1 p
    subst hv
    refine⟨a.1,a.2.1,λq hq=>?_,λn e=>by cases e⟩
    rcases ZI.1 hq with rfl|hq
    ·intro y hy
     rcases ZB.1 hy with h|h
     ·exact p.2 m (by simp) y h
     ·rw[ZC.1 h];exact a.2.2 _ rfl
    ·exact p.2 q (by simp[hq])
 |sset _ _ _ _ i1=>
   intro p
   have a:=i1 p
   exact⟨a.1,a.2.1,Fa p.2 (a.2.2 _ rfl),λn e=>by cases e⟩
 |ssay _ _ _ i1=>
   intro p
   have a:=i1 p
   exact⟨a.1.say (a.2.2 _ rfl),a.2.1,p.2,λn e=>by cases e⟩
 |sput _ _ _ _ _ i1 i2=>
   intro p
   have a:=i1 p
   have b:=i2 ⟨a.1,p.2⟩
   exact⟨b.1.put _ (b.2.2 _ rfl),ZQ b.2.1 a.2.1,p.2,λn e=>by cases e⟩
 |sputC _ _ _ _ _ i1 i2=>
   intro p
   have a:=i1 p
   have b:=i2 ⟨a.1,p.2⟩
   exact⟨b.1,ZQ b.2.1 a.2.1,p.2,λn e=>by cases e⟩
 |sputS _ _ _ _ i1 i2=>
   intro p
   have a:=i1 p
   have b:=i2 ⟨a.1,p.2⟩
   exact⟨b.1,ZQ b.2.1 a.2.1,p.2,λn e=>by cases e⟩
 |sif _ _ _ _ i1 i2=>
   intro p
   have a:=i1 p
   have b:=i2 ⟨a.1,p.2.opn⟩
   exact⟨b.1,ZQ b.2.1 a.2.1,b.2.2.1.tail,b.2.2.2⟩
 |sloop _ _ i1=>exact i1
 |sback _ _ _ i1=>
   intro p
   have a:=i1 p
   exact⟨a.1,a.2.1,p.2,λn e=>by cases e;exact a.2.2 _ rfl⟩
 |sdo _ _ _ i1=>
   intro p
   have a:=i1 p
   exact⟨a.1,a.2.1,p.2,λn e=>by cases e⟩
 |lpS _ _ i1=>
   intro p
   have a:=i1 p
   exact⟨a.1,a.2.1,p.2,λn e=>by cases e⟩
 |lp0 _ _ i1=>
   intro p
   have a:=i1 p
   exact⟨a.1,a.2.1,p.2,λn e=>by cases e⟩
 |lpEnd _ _ _ _ _ i1 i2=>
   intro p
   have a:=i1 p
   have b:=i2 ⟨a.1,p.2.opn⟩
   exact⟨b.1,ZQ b.2.1 a.2.1,b.2.2.1.tail,b.2.2.2⟩
 |lpFuel _ _ _ _ _ i1 i2=>
   intro p
   have a:=i1 p
   have b:=i2 ⟨a.1,p.2.opn⟩
   exact⟨b.1,ZQ b.2.1 a.2.1,b.2.2.1.tail,λn e=>by cases e⟩
 | @lpGo k v s x a s1 n m v' s2 F v'' s3 q _ _ _ _ hF _ i1 i2 i3=>
    intro p
    have a:=i1 p
    have b:=i2 ⟨a.1,p.2.opn⟩
    have c:=i3 ⟨b.1.at_ F,b.2.2.1.tail⟩
    have h1:s3.left<=F:=c.2.1
    have h2:s2.left<=s1.left:=b.2.1
    have h3:s1.left<=s.left:=a.2.1
    exact⟨c.1,by omega,c.2.2⟩
end
section
def er(m:Sc5):Scp:=m.map λx=>(x.1,0)
def ers(v:List Sc5):List Scp:=v.map er
theorem Gi(s:List UInt8):∀m:Sc5,fy (er m) s=(cN m s).map λ_=>0
 |[]=>rfl
 |x::r=>by
  have ih:=Gi s r
  simp only[fy,er] at ih
  by_cases h:x.1=s
  ·simp[fy,er,cN,h]
  ·simp only[fy,er,ZT,List.find?_cons,h,decide_false,cN,if_neg h]
   exact ih
theorem HY(s:List UInt8):∀v:List Sc5,lm (ers v) s=(kR v s).map λ_=>0
 |[]=>rfl
 |m::r=>by
  have ih:=HY s r
  simp only[ers] at ih
  rw[ers,ZT,lm,kR,Gi]
  cases cN m s with
  |some n=>rfl
  |none=>exact ih
theorem Ur{m:Sc5}{s:List UInt8}{n:Int}(h:cN m s=none):er (m++[(s,n)])=iY (er m) s 0:=by
 induction m with
 |nil=>rfl
 |cons x r ih=>
  rw[cN] at h
  by_cases e:x.1=s
  ·rw[if_pos e] at h;cases h
  ·rw[if_neg e] at h
   have ih:=ih h
   simp only[er] at ih
   simp only[er,aac,ZT,iY,if_neg e]
   rw[ih]
theorem PZ{s:List UInt8}{n:Int}:∀m:Sc5,er (sset m s n)=er m
 |[]=>rfl
 |x::r=>by
  have ih:=PZ (s:=s) (n:=n) r
  simp only[er] at ih
  rw[sset]
  split
  ·rename_i e;simp[er,←e]
  ·simp[er,ih]
theorem FT{s:List UInt8}{n:Int}:∀v:List Sc5,ers (lw v s n)=ers v
 |[]=>rfl
 |m::r=>by
  have ih:=FT (s:=s) (n:=n) r
  rw[lw]
  split
  ·simp only[ers,ZT,PZ]
  ·simp only[ers,ZT] at ih⊢
   rw[ih]
theorem CP{v:List Sc5}{m:Sc5}{up:List Sc5}(h:ers v=ers (m::up)):∃m' up',v=m'::up'/\er m'=er m/\ers up'=ers up:=by
 cases v with
 |nil=>simp[ers] at h
 |cons m' up'=>
  simp only[ers,ZT,List.cons.injEq] at h
  exact⟨m',up',rfl,h.1,h.2⟩
def Kn(vs:List LV)(v:List Sc5):Prop:=∀t,(lkV vs t).isSome=(kR v t).isSome
theorem On{b:Nat}{vs:List LV}{v:List Sc5}(h:SR g0 b vs (ers v)):Kn vs v:=λt=>by
 rw[h.is t,HY,Option.isSome_map]
def RJ(l:List Fd)(F:Nat):Prop:=∀(k:Nat) (vs:List LV) (d:Nat) (e:Ex) (v:List Sc5) (s:S5),jJ l k vs e 0=0->aQ d e=true->Kn vs v->G5 s->GE5 v->s.left<=F->∃s' r,Ev l (.ex k v s e s' r)
def Ue(l:List Fd)(F:Nat):Prop:=∀(j:Nat) (f:Fd) (us:List Int) (s:S5),l[j]?=some f->f.params.length=us.length->G5 s->(∀n∈us,V5 n)->s.left<=F->∃s' r,Ev l (.cal j us s s' r)
def NI(l:List Fd)(F:Nat):Prop:=∀(k:Nat) (xs:List Sm) (b:Nat) (w:WS) (m:Sc5) (up:List Sc5) (s:S5),(∀x∈xs,∃d,aq d x=true)->(bJ l k b xs w).code=0->SR g0 b w.vs (ers (m::up))->G5 s->GE5 (m::up)->s.left<=F->
 ∃m' up' s' r,Ev l (.blk k (m::up) s xs (m'::up') s' r)/\ers up'=ers up
def UR(l:List Fd)(F:Nat):Prop:=∀(k:Nat) (x:Sm) (b:Nat) (w:WS) (m:Sc5) (up:List Sc5) (s:S5),(∃d,aq d x=true)->(stW l k b x w).code=0->SR g0 b w.vs (ers (m::up))->G5 s->GE5 (m::up)->s.left<=F->
 ∃m' up' s' r,Ev l (.stm k (m::up) s x (m'::up') s' r)/\ers up'=ers up/\(r= .ok none->SR g0 b (stW l k b x w).vs (ers (m'::up')))
def RA(l:List Fd)(F:Nat):Prop:=∀(k:Nat) (x:Sm) (b:Nat) (w:WS) (v:List Sc5) (s:S5),(∃d,aq d x=true)->x.op=6->(stW l k b x w).code=0->SR g0 b w.vs (ers v)->G5 s->GE5 v->s.left<=F->
 ∃v' s' r,Ev l (.lp k v s x v' s' r)/\ers v'=ers v
section
variable {l:List Fd}
theorem Ys{F:Nat}(hS:∀F',F'<F->UR l F')(hB:∀F',F'<F->NI l F'):NI l F:=by
 intro k xs b w m up s hf hz hR hg hv hl
 cases xs with
 |nil=>exact⟨m,up,s,_,.bnil,rfl⟩
 |cons x r=>
  rw[bJ] at hz
  have hz1:=cu hz
  rcases Nat.eq_zero_or_pos s.left with h0|h0
  ·exact⟨m,up,s,_,.bfuel h0,rfl⟩
  obtain⟨F',hF⟩:∃F',s.left=F'+1:=⟨s.left-1,by omega⟩
  obtain⟨m1,up1,s1,r1,e1,u1,R1⟩:=hS F' (by omega) k x b w m up (s.at_ F') (hf x (by simp)) hz1 hR (hg.at_ F') hv (ZH _)
  have p1:=aV e1 ⟨hg.at_ F',hv⟩
  have q1:s1.left<=F':=p1.2.1
  by_cases hq:r1= .ok none
  ·subst hq
   obtain⟨m2,up2,s2,r2,e2,u2⟩:=hB F' (by omega) k r b (stW l k b x w) m1 up1 s1 (λy hy=>hf y (by simp[hy])) hz (R1 rfl) p1.1 p1.2.2.1 q1
   exact⟨m2,up2,s2,r2,.bgo hF e1 e2,u2.trans u1⟩
  ·exact⟨m1,up1,s1,r1,.bend hF e1 hq,u1⟩
theorem QR:∀(ps:List (List UInt8)) (us:List Int),ps.length=us.length->er (ps.zip us)=ps.map λs=>(s,0)
 |[],[],_=>rfl
 |p::r,u::t,h=>by
  have:=QR r t (by simpa using h)
  simp only[er] at this
  simp[er,this]
 |[],_::_,h=>by simp at h
 |_::_,[],h=>by simp at h
theorem If:∀(ps:List (List UInt8)) (m:Scp) (c:Int),(kS ps m c).2=0->(kS ps m c).1=m++ps.map λs=>(s,0)
 |[],m,c,_=>by simp[kS]
 |s::r,m,c,h=>by
  have hh:(kS r (iY m s 0) (if(fy m s).isSome then fl c 2 else c)).2=0:=h
  have ih:=If r _ _ hh
  have hc:(if(fy m s).isSome then fl c 2 else c)=0:=by
   apply Classical.byContradiction
   intro hne
   have:=Ao hne r (iY m s 0)
   rw[this] at hh
   exact hne hh
  have hn:fy m s=none:=by
   cases e:fy m s with
   |none=>rfl
   |some n=>
    rw[e] at hc
    simp only[Option.isSome_some,if_true,fl] at hc
    split at hc<;>omega
  have hset:∀m:Scp,fy m s=none->iY m s 0=m++[(s,0)]:=by
   intro m
   induction m with
   |nil=>intro _;rfl
   |cons x t iht=>
    intro hm
    by_cases hx:x.1=s
    ·simp[fy,hx] at hm
    ·rw[iY,if_neg hx,iht (by simpa[fy,hx] using hm)];rfl
  show(kS r (iY m s 0) (if(fy m s).isSome then fl c 2 else c)).1=_
  rw[ih,hset m hn]
  simp
theorem Zf{F:Nat}(hc:aD l=0)(hB:NI l F):Ue l F:=by
 intro j f us s hj hlen hg hu hl
 obtain⟨hp,hall⟩:=(sY l).1 hc
 have hz:=hall j f hj
 rw[fnW] at hz
 have hpz:=cu hz
 obtain⟨p1,p2⟩:=GB f.params ⟨[],0,if cg l f.name=some j then 0 else 2⟩ [] SR.base
 rw[hpz] at p2
 have hm:=If f.params [] _ p2.symm
 rw[hm,List.nil_append,←QR f.params us hlen] at p1
 have hfo:=((dC l).1 hp).2.1 f (Zy hj)
 have hbody:∀x∈f.body,∃d,aq d x=true:=λx hx=>by
  simp only[iZ,ZE,ZA] at hfo
  exact⟨4,hfo.2 x hx⟩
 obtain⟨m',up',s',r,e,hu2⟩:=hB j f.body 0 _ (f.params.zip us) [] s hbody hz p1 hg (λm hm x hx=>by
  rw[ZC.1 hm] at hx
  exact hu _ (List.of_mem_zip hx).2) hl
 exact⟨s',_,.cal hj hlen e⟩
end
end
section
theorem inR5{n lo hi:Int}:inR n lo hi=true↔lo<=n/\n<=hi:=by simp[inR]
theorem JM{α:Type}{l:List α}(h:l.length=1):∃a,l=[a]:=by
 match l,h with
 |[a],_=>exact⟨a,rfl⟩
theorem Oh{α:Type}{l:List α}(h:l.length=2):∃a b,l=[a,b]:=by
 match l,h with
 |[a,b],_=>exact⟨a,b,rfl⟩
section
variable {l:List Fd}
theorem pQ{k:Nat}{vs:List LV}:∀(es:List Ex),bp l k vs es 0=0->∀e∈es,jJ l k vs e 0=0
 |[],_,e,he=>by cases he
 |x::r,h,e,he=>by
  rw[bp] at h
  have h0:=cZ h
  rw[h0] at h
  rcases ZI.1 he with rfl|he
  ·exact h0
  ·exact pQ r h e he
theorem YN{F:Nat}(hc:aD l=0)(hC:Ue l F):RJ l F:=by
 intro k vs d
 induction d with
 |zero=>intro e v s _ h;cases h
 |succ d ih=>
  intro e v s hz hf hk hg hv hl
  obtain⟨o,n,nm,ks⟩:=e
  rw[aQ,ZE,ZA] at hf
  obtain⟨hh,hks⟩:=hf
  simp only[jR,ZE] at hh
  obtain⟨⟨⟨⟨⟨ho,hkl⟩,_⟩,_⟩,hn⟩,_⟩:=hh
  have ho:1<=o/\o<=13:=inR5.1 ho
  have hkl:(loK o:Int)<=(ks.length:Int)/\(ks.length:Int)<=(hiK o:Int):=inR5.1 hkl
  have hn:V5 n:=inR5.1 hn
  have hks:∀x∈ks,aQ d x=true:=hks
  rw[jJ] at hz
  have h0:=cZ hz
  rw[h0] at hz
  have hkz:=pQ ks hz
  rcases Int.lt_or_le 13 o with h13|h13
  ·omega
  by_cases h1:o=1
  ·exact⟨s,_,.num h1 hn⟩
  by_cases h2:o=2
  ·rw[im,if_pos h2] at h0
   obtain⟨_,x,hx⟩:=Fm h0
   have hs:=hk nm
   rw[hx] at hs
   obtain⟨q,hq⟩:=Option.isSome_iff_exists.1 hs.symm
   exact⟨s,_,.var h2 hq⟩
  by_cases h13':o=13
  ·subst h13'
   rw[im,if_neg (by omega),if_pos rfl,mY] at h0
   have hfa:∃j f,cg l nm=some j/\l[j]?=some f/\f.params.length=ks.length/\j<k:=by
    cases hj:cg l nm with
    |none=>rw[hj] at h0;simp only[fl] at h0;simp at h0
    |some j=>
     rw[hj] at h0
     simp only[fl] at h0
     by_cases hkj:k<=j
     ·rw[if_pos hkj] at h0;simp at h0
     ·rw[if_neg hkj] at h0
      obtain⟨hjl,_,_⟩:=ZP.1 hj
      have hg:=Zu hjl
      refine⟨j,l[j],rfl,hg,?_,by omega⟩
      rw[Bs,hg] at h0
      simp only at h0
      by_cases hp:l[j].params.length=ks.length
      ·exact hp
      ·rw[if_neg hp] at h0;simp at h0
   obtain⟨j,f,hj,hjf,hpl,hjk⟩:=hfa
   have hargs:∀(es:List Ex) (s:S5),(∀e∈es,e∈ks)->G5 s->s.left<=F->∃s' r,Ev l (.exs k v s es s' r):=by
    intro es
    induction es with
    |nil=>intro s _ _ _;exact⟨s,_,.nil⟩
    |cons a r ihr=>
     intro s hm g hs
     obtain⟨s1,r1,e1⟩:=ih a v s (hkz a (hm a (by simp))) (hks a (hm a (by simp))) hk g hv hs
     have p1:=aV e1 ⟨g,hv⟩
     cases r1 with
     |st c=>exact⟨s1,_,.consS e1⟩
     |ok q=>
      obtain⟨s2,r2,e2⟩:=ihr s1 (λx hx=>hm x (by simp[hx])) p1.1 (ZQ p1.2.1 hs)
      cases r2 with
      |st c=>exact⟨s2,_,.consT e1 e2⟩
      |ok ns=>exact⟨s2,_,.cons e1 e2⟩
   obtain⟨s1,r1,e1⟩:=hargs ks s (λ_ h=>h) hg hl
   have p1:=aV e1 ⟨hg,hv⟩
   cases r1 with
   |st c=>exact⟨s1,_,.callS rfl e1⟩
   |ok us=>
    obtain⟨q1,q2⟩:=p1.2.2 _ rfl
    obtain⟨s2,r2,e2⟩:=hC j f us s1 hjf (by rw[hpl,q1]) p1.1 q2 (ZQ p1.2.1 hl)
    exact⟨s2,_,.call rfl e1 hj hjk e2⟩
  have hlo:3<=o:=by omega
  have hhi:o<=12:=by omega
  by_cases h11:o=11\/o=12
  ·have hl1:ks.length=1:=by
    have e1:loK o=1:=by unfold loK;rw[if_neg (by omega),if_pos h11]
    have e2:hiK o=1:=by unfold hiK;rw[if_neg (by omega),if_pos h11]
    rw[e1,e2] at hkl;omega
   obtain⟨a,rfl⟩:=JM hl1
   obtain⟨s1,r1,e1⟩:=ih a v s (hkz a (by simp)) (hks a (by simp)) hk hg hv hl
   have p1:=aV e1 ⟨hg,hv⟩
   cases r1 with
   |st c=>exact⟨s1,_,.firstS hlo hhi rfl e1⟩
   |ok q=>
    obtain⟨q0,q1⟩:=p1.2.2 _ rfl
    rcases h11 with h11|h12
    ·exact⟨s1,_,.not h11 rfl e1⟩
    ·obtain⟨i,rfl⟩:∃i:Nat,q=i:=⟨q.toNat,by omega⟩
     by_cases hi:i<16
     ·have hg2:s1.cells[i]?=some (s1.cells[i]'(by rw[p1.1.len];exact hi)):=Zu _
      exact⟨s1,_,.at_ h12 rfl e1 hi hg2⟩
     ·exact⟨s1,_,.atS h12 rfl e1 (by omega)⟩
  ·have hl2:ks.length=2:=by
    have e1:loK o=2:=by unfold loK;rw[if_neg (by omega),if_neg h11,if_neg h13']
    have e2:hiK o=2:=by unfold hiK;rw[if_neg (by omega),if_neg h11,if_neg h13']
    rw[e1,e2] at hkl;omega
   obtain⟨a,b,rfl⟩:=Oh hl2
   obtain⟨s1,r1,e1⟩:=ih a v s (hkz a (by simp)) (hks a (by simp)) hk hg hv hl
   have p1:=aV e1 ⟨hg,hv⟩
   cases r1 with
   |st c=>exact⟨s1,_,.firstS hlo hhi rfl e1⟩
   |ok q=>
    by_cases h10:o=10/\q=0
    ·obtain⟨h10,rfl⟩:=h10
     exact⟨s1,_,.and0 h10 rfl e1⟩
    obtain⟨s2,r2,e2⟩:=ih b v s1 (hkz b (by simp)) (hks b (by simp)) hk p1.1 hv (ZQ p1.2.1 hl)
    by_cases ho10:o=10
    ·have hq:q≠0:=λe=>h10 ⟨ho10,e⟩
     cases r2 with
     |st c=>exact⟨s2,_,.andS ho10 rfl e1 hq e2⟩
     |ok m=>exact⟨s2,_,.and1 ho10 rfl e1 hq e2⟩
    ·have hle9:o<=9:=by omega
     cases r2 with
     |st c=>exact⟨s2,_,.binS hlo hle9 rfl e1 e2⟩
     |ok m=>
      cases ht:gx o q m with
      |none=>exact⟨s2,_,.binD hlo hle9 rfl e1 e2 ht⟩
      |some t=>exact⟨s2,_,.bin hlo hle9 rfl e1 e2 ht⟩
end
end
section
structure Fine5 (l:List Fd) (k b:Nat) (x:Sm) (w:WS):Prop where
 code:w.code=0
 args:bp l k w.vs x.args 0=0
 op:(opW x.op x.name b ⟨w.vs,w.count,0⟩).code=0
 body:(bJ l k (b+1) x.body (opW x.op x.name b ⟨w.vs,w.count,0⟩)).code=0
 els:∃w3:WS,w3.vs=(opW x.op x.name b ⟨w.vs,w.count,0⟩).vs/\(bJ l k (b+1) x.els w3).code=0
 vs:(stW l k b x w).vs=(opW x.op x.name b ⟨w.vs,w.count,0⟩).vs
theorem TK{l:List Fd}{k b:Nat}{x:Sm}{w:WS}(hz:(stW l k b x w).code=0):Fine5 l k b x w:=by
 obtain⟨o,nm,a,bd,el⟩:=x
 have hz0:=hz
 rw[stW,du] at hz
 have z1:=cu hz
 rw[du] at z1
 have z2:=cu z1
 have z3:bp l k w.vs a w.code=0:=zd z2
 have hc:=cZ z3
 rw[z3] at z2 z1 hz
 have z3':=z3
 rw[hc] at z3'
 refine⟨hc,z3',z2,z1,⟨(bJ l k (b+1) bd (opW o nm b ⟨w.vs,w.count,0⟩)).back (opW o nm b ⟨w.vs,w.count,0⟩).vs,rfl,hz⟩,?_⟩
 rw[KD,z3];rfl
theorem rU{o:Int}{nm:List UInt8}{b:Nat}{w:WS}(h:o≠1):(opW o nm b w).vs=w.vs:=by
 unfold opW
 rw[if_neg h]
 split<;>rfl
theorem Lm{d:Nat}{x:Sm}(h:aq d x=true):(1<=x.op/\x.op<=8)/\x.args.length=gF x.op/\(∀a∈x.args,io a=true)/\(∀y∈x.body,∃d,aq d y=true)/\(∀y∈x.els,∃d,aq d y=true):=by
 cases d with
 |zero=>cases h
 |succ d=>
  rw[aq,ZE,ZE,ZA,ZA] at h
  obtain⟨⟨h1,h2⟩,h3⟩:=h
  simp only[fX,ZE,ZA] at h1
  obtain⟨⟨⟨⟨⟨⟨⟨p1,p2⟩,_⟩,_⟩,p5⟩,_⟩,_⟩,_⟩:=h1
  exact⟨inR5.1 p1,of_decide_eq_true p2,p5,λy hy=>⟨d,h2 y hy⟩,λy hy=>⟨d,h3 y hy⟩⟩
theorem pr{a:Ex}(h:io a=true):aQ 6 a=true:=by rw[io,ZE] at h;exact h.1
section
variable {l:List Fd}
theorem Yx{F:Nat}(hE:RJ l F)(hB:NI l F)(hL:∀F',F'<F->RA l F'):RA l F:=by
 intro k x b w v s hf ho hz hR hg hv hl
 obtain⟨d,hd⟩:=hf
 obtain⟨_,hal,hae,hbo,_⟩:=Lm hd
 have Fn:=TK hz
 have hal1:x.args.length=1:=by rw[hal,gF,if_neg (by omega)]
 obtain⟨a,ha⟩:=JM hal1
 have haz:=pQ x.args Fn.args a (by rw[ha];simp)
 obtain⟨s1,r1,e1⟩:=hE k w.vs 6 a v s haz (pr (hae a (by rw[ha];simp))) (On hR) hg hv hl
 have p1:=aV e1 ⟨hg,hv⟩
 cases r1 with
 |st c=>exact⟨v,s1,_,.lpS ha e1,rfl⟩
 |ok n=>
  by_cases hn:n=0
  ·subst hn;exact⟨v,s1,_,.lp0 ha e1,rfl⟩
  have hsame:(opW x.op x.name b ⟨w.vs,w.count,0⟩).vs=w.vs:=rU (by omega)
  have hR2:SR g0 (b+1) (opW x.op x.name b ⟨w.vs,w.count,0⟩).vs (ers ([]::v)):=by
   rw[hsame];exact hR.open
  obtain⟨m2,v2,s2,r2,e2,u2⟩:=hB k x.body (b+1) _ [] v s1 hbo Fn.body hR2 p1.1 hv.opn (ZQ p1.2.1 hl)
  have p2:=aV e2 ⟨p1.1,hv.opn⟩
  by_cases hq:r2= .ok none
  ·subst hq
   rcases Nat.eq_zero_or_pos s2.left with h0|h0
   ·exact⟨v2,s2,_,.lpFuel ha e1 hn e2 h0,u2⟩
   obtain⟨F',hF⟩:∃F',s2.left=F'+1:=⟨s2.left-1,by omega⟩
   have hlt:F'<F:=by have:=p2.2.1;have:=p1.2.1;omega
   obtain⟨v3,s3,r3,e3,u3⟩:=hL F' hlt k x b w v2 (s2.at_ F') ⟨d,hd⟩ ho hz (by rw[u2];exact hR) (p2.1.at_ F') p2.2.2.1.tail (ZH _)
   exact⟨v3,s3,_,.lpGo ha e1 hn e2 hF e3,u3.trans u2⟩
  ·exact⟨v2,s2,_,.lpEnd ha e1 hn e2 hq,u2⟩
theorem Yu{F:Nat}(hE:RJ l F)(hB:NI l F)(hL:RA l F):UR l F:=by
 intro k x b w m up s hf hz hR hg hv hl
 obtain⟨d,hd⟩:=hf
 obtain⟨⟨ho1,ho8⟩,hal,hae,hbo,heo⟩:=Lm hd
 have Fn:=TK hz
 by_cases h6:x.op=6
 ·obtain⟨v',s',r,e,u⟩:=hL k x b w (m::up) s ⟨d,hd⟩ h6 hz hR hg hv hl
  obtain⟨m',up',rfl,u1,u2⟩:=CP u
  refine⟨m',up',s',r,.sloop h6 e,u2,λ_=>?_⟩
  rw[Fn.vs,rU (by omega),u]
  exact hR
 have hex:∀a∈x.args,∀s:S5,G5 s->s.left<=F->∃s' r,Ev l (.ex k (m::up) s a s' r):=λa ha s g hs=>
  hE k w.vs 6 a (m::up) s (pQ x.args Fn.args a ha) (pr (hae a ha)) (On hR) g hv hs
 by_cases h4:x.op=4
 ·have hal2:x.args.length=2:=by rw[hal,gF,if_pos h4]
  obtain⟨a,c,ha⟩:=Oh hal2
  have hR':SR g0 b (stW l k b x w).vs (ers (m::up)):=by rw[Fn.vs,rU (by omega)];exact hR
  obtain⟨s1,r1,e1⟩:=hex a (by rw[ha];simp) s hg hl
  have p1:=aV e1 ⟨hg,hv⟩
  cases r1 with
  |st q=>exact⟨m,up,s1,_,.argS h6 ha e1,rfl,λ_=>hR'⟩
  |ok n=>
   obtain⟨n0,n1⟩:=p1.2.2 _ rfl
   obtain⟨s2,r2,e2⟩:=hex c (by rw[ha];simp) s1 p1.1 (ZQ p1.2.1 hl)
   cases r2 with
   |st q=>exact⟨m,up,s2,_,.sputS h4 ha e1 e2,rfl,λ_=>hR'⟩
   |ok q=>
    obtain⟨i,rfl⟩:∃i:Nat,n=i:=⟨n.toNat,by omega⟩
    by_cases hi:i<16
    ·exact⟨m,up,_,_,.sput h4 ha e1 e2 hi,rfl,λ_=>hR'⟩
    ·exact⟨m,up,s2,_,.sputC h4 ha e1 e2 (by omega),rfl,λ_=>hR'⟩
 have hal1:x.args.length=1:=by rw[hal,gF,if_neg h4]
 obtain⟨a,ha⟩:=JM hal1
 obtain⟨s1,r1,e1⟩:=hex a (by rw[ha];simp) s hg hl
 have p1:=aV e1 ⟨hg,hv⟩
 have hsame:x.op≠1->SR g0 b (stW l k b x w).vs (ers (m::up)):=λh=>by rw[Fn.vs,rU h];exact hR
 cases r1 with
 |st q=>exact⟨m,up,s1,_,.argS h6 ha e1,rfl,λh=>by cases h⟩
 |ok n=>
  by_cases h1:x.op=1
  ·have hput:(iN ⟨w.vs,w.count,0⟩ x.name b).code=0:=by
    have:=Fn.op
    rw[opW,if_pos h1] at this
    exact this
   have hput2:rf w.vs x.name b 0=0:=hput
   have hR1:SR g0 b w.vs (er m::ers up):=hR
   rw[hR1.put] at hput2
   have hno:cN m x.name=none:=by
    cases e:cN m x.name with
    |none=>rfl
    |some q=>
     rw[Gi,e] at hput2
     simp[fl] at hput2
   refine⟨_,up,s1,_,.slet h1 ha e1 rfl hno,rfl,λ_=>?_⟩
   rw[Fn.vs,opW,if_pos h1]
   have:=hR1.add x.name w.count 0 rfl
   rw[←Ur (n:=n) hno] at this
   exact this
  by_cases h2:x.op=2
  ·have huse:rO w.vs x.name 0=0:=by
    have:=Fn.op
    rw[opW,if_neg h1,if_pos h2] at this
    exact this
   obtain⟨_,q,hq⟩:=Fm huse
   have hs:(kR (m::up) x.name).isSome=true:=by rw[←On hR x.name,hq];rfl
   have hev:=Ev.sset (l:=l) h2 ha e1 hs
   obtain⟨m',up',e,_,u2⟩:=CP (FT (s:=x.name) (n:=n) (m::up))
   have hu:ers (m'::up')=ers (m::up):=by rw[←e];exact FT _
   rw[e] at hev
   exact⟨m',up',s1,_,hev,u2,λ_=>by rw[hu];exact hsame h1⟩
  by_cases h3:x.op=3
  ·exact⟨m,up,_,_,.ssay h3 ha e1,rfl,λ_=>hsame h1⟩
  by_cases h5:x.op=5
  ·have hsv:(opW x.op x.name b ⟨w.vs,w.count,0⟩).vs=w.vs:=rU h1
   obtain⟨w3,hw3,hez⟩:=Fn.els
   have hB':∃m2 v2 s2 r2,Ev l (.blk k ([]::m::up) s1 (if n≠0 then x.body else x.els) (m2::v2) s2 r2)/\ers v2=ers (m::up):=by
    by_cases hn:n≠0
    ·rw[if_pos hn]
     exact hB k x.body (b+1) _ [] (m::up) s1 hbo Fn.body (by rw[hsv];exact hR.open) p1.1 hv.opn (ZQ p1.2.1 hl)
    ·rw[if_neg hn]
     exact hB k x.els (b+1) w3 [] (m::up) s1 heo hez (by rw[hw3,hsv];exact hR.open) p1.1 hv.opn (ZQ p1.2.1 hl)
   obtain⟨m2,v2,s2,r2,e2,u2⟩:=hB'
   obtain⟨m',up',rfl,u3,u4⟩:=CP u2
   exact⟨m',up',s2,r2,.sif h5 ha e1 e2,u4,λ_=>by rw[u2];exact hsame h1⟩
  by_cases h7:x.op=7
  ·exact⟨m,up,s1,_,.sback h7 ha e1,rfl,λh=>by cases h⟩
  ·exact⟨m,up,s1,_,.sdo (by omega) ha e1,rfl,λ_=>hsame h1⟩
theorem SH(hc:aD l=0):∀F,Ue l F/\RJ l F/\NI l F/\UR l F/\RA l F:=by
 intro F
 induction F using Nat.strongRecOn with
 |_ F ih=>
  have hB:=Ys (l:=l) (F:=F) (λF' h=>(ih F' h).2.2.2.1) (λF' h=>(ih F' h).2.2.1)
  have hC:=Zf hc hB
  have hE:=YN hc hC
  have hL:=Yx hE hB (λF' h=>(ih F' h).2.2.2.2)
  exact⟨hC,hE,hB,Yu hE hB hL,hL⟩
end
def s0(fuel:Nat):S5:=⟨fuel,[],List.replicate 16 0⟩
theorem tk(fuel:Nat):G5 (s0 fuel):=⟨by simp[s0],λc hc=>by rw[(List.mem_replicate.1 hc).2];exact⟨by omega,by omega⟩,λc hc=>by cases hc⟩
theorem Zg{l:List Fd}(hc:aD l=0){f:Fd}(hf:l[l.length-1]?=some f){us:List Int}(hl:us.length=f.params.length)(hu:∀n∈us,V5 n)(fuel:Nat):
 ∃s' r,Ev l (.cal (l.length-1) us (s0 fuel) s' r)/\G5 s'/\s'.left<=fuel/\∀n,r= .ok n->V5 n:=by
 obtain⟨s',r,e⟩:=(SH hc fuel).1 (l.length-1) f us (s0 fuel) hf hl.symm (tk fuel) hu (ZH _)
 have p:=aV e ⟨tk fuel,hu⟩
 exact⟨s',r,e,p.1,p.2.1,p.2.2⟩
end
section
def S5.dn(s:S5)(c:Nat):S5:=⟨s.left-c,s.said,s.cells⟩
end
section
def S5.pre(s:S5)(t:List Int):S5:=⟨s.left,t++s.said,s.cells⟩
end
section
def nmS(m:Sc5):List (List UInt8):=m.map (·.1)
def nmV(v:List Sc5):List (List (List UInt8)):=v.map nmS
theorem Lp(s:List UInt8)(n:Int):∀m:Sc5,nmS (sset m s n)=nmS m
 |[]=>rfl
 |x::r=>by
  rw[sset]
  split
  ·rename_i h
   show s::nmS r=x.1::nmS r
   rw[h]
  ·show x.1::nmS (sset r s n)=x.1::nmS r
   rw[Lp s n r]
theorem FW(s:List UInt8)(n:Int):∀v:List Sc5,nmV (lw v s n)=nmV v
 |[]=>rfl
 |m::r=>by
  rw[lw]
  split
  ·show nmS (sset m s n)::nmV r=_
   rw[Lp];rfl
  ·show nmS m::nmV (lw r s n)=_
   rw[FW s n r];rfl
def Grw(v v':List Sc5):Prop:=nmV v'=nmV v\/∃m up m' up' t,v=m::up/\v'=m'::up'/\nmV up'=nmV up/\nmS m'=nmS m++t
theorem Grw.refl(v:List Sc5):Grw v v:= .inl rfl
theorem HD{m:Sc5}{up v:List Sc5}(h:nmV v=nmV (m::up)):∃m' up',v=m'::up'/\nmS m'=nmS m/\nmV up'=nmV up:=by
 match v with
 |[]=>cases h
 |m'::up'=>
  have h:nmS m'::nmV up'=nmS m::nmV up:=h
  exact⟨m',up',rfl,(List.cons.inj h).1,(List.cons.inj h).2⟩
theorem Grw.trans{a b c:List Sc5}(h:Grw a b)(g:Grw b c):Grw a c:=by
 rcases h with h|⟨m,up,m',up',t,rfl,rfl,h1,h2⟩
 ·rcases g with g|⟨m,up,m',up',t,rfl,rfl,h1,h2⟩
  ·exact .inl (g.trans h)
  ·obtain⟨m0,up0,rfl,e1,e2⟩:=HD h.symm
   exact .inr ⟨m0,up0,m',up',t,rfl,rfl,h1.trans e2.symm,by rw[h2,e1]⟩
 ·rcases g with g|⟨q,uq,q',uq',t',e,rfl,g1,g2⟩
  ·obtain⟨m0,up0,rfl,e1,e2⟩:=HD g
   exact .inr ⟨m,up,m0,up0,t,rfl,rfl,e2.trans h1,e1.trans h2⟩
  ·obtain⟨e1,e2⟩:=List.cons.inj e
   subst e1;subst e2
   exact .inr ⟨m,up,q',uq',t++t',rfl,rfl,g1.trans h1,by rw[g2,h2,ZZ]⟩
theorem Grw.tail{m m':Sc5}{v v':List Sc5}(h:Grw (m::v) (m'::v')):nmV v'=nmV v:=by
 rcases h with h|⟨q,up,q',up',t,e1,e2,h1,h2⟩
 ·have h:nmS m'::nmV v'=nmS m::nmV v:=h
  exact(List.cons.inj h).2
 ·rw[(List.cons.inj e1).2,(List.cons.inj e2).2];exact h1
def mK:List Sc5->Sc5
 |[]=>[]
 |m::r=>mK r++m
theorem kW:∀{v w:List Sc5},nmV v=nmV w->(mK v).length=(mK w).length
 |[],[],_=>rfl
 |[],_::_,h=>by cases h
 |_::_,[],h=>by cases h
 |m::r,m'::r',h=>by
  have h:nmS m::nmV r=nmS m'::nmV r':=h
  obtain⟨h1,h2⟩:=List.cons.inj h
  have:=kW h2
  have h1:=congrArg List.length h1
  simp only[nmS,ZU] at h1
  simp[mK,this,h1]
def Un5(v:List Sc5):Prop:=∀m∈v,(nmS m).Pairwise (· ≠ ·)
theorem sget_none_iff:∀{m:Sc5} {s:List UInt8},cN m s=none↔s∉nmS m
 |[],s=>by simp[cN,nmS]
 |x::r,s=>by
  rw[cN]
  by_cases h:x.1=s
  ·simp[h,nmS]
  ·rw[if_neg h,sget_none_iff]
   simp[nmS,Ne.symm h]
theorem Un5.of{v w:List Sc5}(h:Un5 v)(e:nmV w=nmV v):Un5 w:=by
 intro m hm
 have h1:nmS m∈nmV v:=by rw[←e];exact List.mem_map_of_mem hm
 obtain⟨q,hq,e2⟩:=ZN.1 h1
 rw[←e2];exact h q hq
theorem Un5.let{m:Sc5}{up:List Sc5}{s:List UInt8}{n:Int}(h:Un5 (m::up))(hs:cN m s=none):Un5 ((m++[(s,n)])::up):=by
 intro q hq
 rcases ZI.1 hq with rfl|hq
 ·have h1:=h m (by simp)
  have h2:=sget_none_iff.1 hs
  simp only[nmS,List.map_append,ZT,aaz]
  refine List.pairwise_append.2 ⟨h1,List.pairwise_singleton _ _,λa ha b hb=>?_⟩
  rw[ZC.1 hb]
  exact λe=>h2 (e▸ha)
 ·exact h q (by simp[hq])
theorem Un5.opn{v:List Sc5}(h:Un5 v):Un5 ([]::v):=by
 intro q hq
 rcases ZI.1 hq with rfl|hq
 ·exact .nil
 ·exact h q hq
end
section
theorem fc{n:Nat}{h h1:List AO}(e:h.take n=h1)(hn:h1.length=n)(ho:∀o∈h1,okO n o):Fst n h h1:=by
 have hl:n<=h.length:=by
  have:=congrArg List.length e
  rw[ZS] at this;omega
 have hg:∀(i:Nat) (o:AO),h1[i]?=some o->h[i]?=some o:=λi o hi=>by
  have h2:=(Zt.1 hi).1
  rw[←e,List.getElem?_take_of_lt (by omega)] at hi
  exact hi
 exact⟨hn,hl,λi sz es hi=>⟨hg _ _ hi,ho _ (Zy hi)⟩,λi es hi=>⟨hg _ _ hi,ho _ (Zy hi)⟩,λi s p hi=>hg _ _ hi⟩
theorem EV:∀(r:List AO) (s:Nat),((lg (List.range' s r.length++[0]) (r++[.dead])).Nodup/\∀i∈lg (List.range' s r.length++[0]) (r++[.dead]),s<=i)
 |[],s=>by simp[lg]
 |o::r,s=>by
  obtain⟨h1,h2⟩:=EV r (s+1)
  rw[ZO,List.range'_succ]
  cases o with
  |dead=>exact⟨h1,λi hi=>Nat.le_of_succ_le (h2 i hi)⟩
  |_=>exact⟨aak.2 ⟨λhm=>absurd (h2 _ hm) (by omega),h1⟩,λi hi=>by
   rcases ZI.1 hi with rfl|hi
   ·exact ZH _
   ·exact Nat.le_of_succ_le (h2 i hi)⟩
theorem Jr{h:List AO}(hp:0<h.length)(ho:∀o∈h,okO h.length o):∀(r:List AO) (s:Nat),(∀i:Nat,r[i]?=h[s+i]?)->s+r.length=h.length->HW (List.range' 0 h.length++[0]) h (List.range' s r.length++[0]) (r++[.dead])
 |[],s,_,_=>fQ hp aU
 |o::r,s,hr,hs=>by
  have hσ:∀i,i<h.length->(List.range' 0 h.length++[0]).getD i 0=i:=λi hi=>by
   rw[ZL,Zv (by simp;exact hi)];simp[hi]
  rw[ZO,List.range'_succ]
  have h0:=hr 0
  have ih:=Jr hp ho r (s+1) (λi=>by have:=hr (i+1);rw[ZF] at this;rw[this];congr 1;omega) (by simp at hs;omega)
  have hm:h[s]?=some o:=by simpa using h0.symm
  have hok:=ho o (Zy hm)
  cases o with
  |dead=>exact fQ (Zt.1 hm).1 ih
  |row sz es=>
   refine bN (λx hx=>aL (by simp) _ (hok x hx)) ?_ ih
   rw[hm,ZR (g:=id) λx hx=>mS hσ x (hok x hx)];simp
  |mp es=>exact⟨(Zt.1 hm).1,⟨λx hx=>by exact(aL (by simp) [x.2] ⟨hok x hx,trivial⟩).1,by rw[hm,ZR (g:=id) λx hx=>by rw[mb hσ x.2 (hok x hx)];rfl];simp⟩,ih⟩
  |sit s p=>exact⟨(Zt.1 hm).1,hm,ih⟩
theorem Hc{m:Nat}{l:List (Nat × AV)}:∀r:List (Nat × AV),FgA m l r->TWA (List.range' 0 m++[0]) l r
 |[],_=>trivial
 |x::r,⟨⟨a,c⟩,d⟩=>by
  have hσ:∀i,i<m->(List.range' 0 m++[0]).getD i 0=i:=λi hi=>by
   rw[ZL,Zv (by simp;exact hi)];simp[hi]
  exact⟨⟨(aL (by simp) [x.2] ⟨a,trivial⟩).1,by rw[mb hσ _ a,c]⟩,Hc r d⟩
theorem kZ{k n:Nat}{l l1:List (Nat × AV)}{h:List AO}(hk:k<=h.length)(hp:0<h.length)(ho:∀o∈h,okO h.length o)(H:FgA h.length l l1):Wk k (ah n l) h (ah n l1) (h++[.dead]):=by
 have hσ:∀i,i<h.length->(List.range' 0 h.length++[0]).getD i 0=i:=λi hi=>by
  rw[ZL,Zv (by simp;exact hi)];simp[hi]
 refine LH (List.range' 0 h.length++[0]) (by simp;omega) (λi hi=>hσ i (by omega)) ?_ ?_ (Hc _ H)
 ·exact(EV h 0).1
 ·exact Jr hp ho h 0 (λi=>by simp) (by simp)
def aG(fns:List Fd):List (List AV):=fns.map λf=>f.cs.map .p
theorem fI(fns:List Fd):∀x∈aG fns,aj 0 x:=by
 intro x hx;obtain⟨m,_,rfl⟩:=ZN.1 hx;simp
theorem ce{n:Nat}{o:AO}(h:okO 0 o):okO n o:=by
 cases o with
 |dead=>trivial
 |sit=>trivial
 |row sz es=>exact λe he=>aL (Nat.zero_le _) _ (h e he)
 |mp es=>exact λe he=>(aL (Nat.zero_le n) [e.2] ⟨h e he,trivial⟩).1
theorem nT(fns:List Fd)(n:Nat):okO n (bs 3 (aG fns)):=ce (Rl (fI fns))
def exR(l:List Ex):List (List AV):=l.map λe=>e.cs.map .p
theorem dK(l:List Ex):∀x∈exR l,aj 0 x:=by
 intro x hx;obtain⟨m,_,rfl⟩:=ZN.1 hx;simp
theorem ji{h:List AO}{id:Nat}{l:List Ex}(e:h[id]?=some (bs 4 (exR l))):View h (slE id 4 (exR l)) (exL l):=by
 have hh:exR l=(l.map Ex.cs).map (·.map .p):=by simp[exR]
 rw[hh] at e⊢
 exact FP e (λx hx=>by obtain⟨b,_,rfl⟩:=ZN.1 hx;exact b.cs_len)
theorem zt{h:List AO}{id sz:Nat}{r0 r1:List AV}{p0 p1:List PV}(he:h[id]?=some (.row sz [r0,r1]))(l0:p0.length=sz)(l1:p1.length=sz)(h0:∀(j:Nat) (q:PV) (a:AV),p0[j]?=some q->r0[j]?=some a->View h a q)(h1:∀(j:Nat) (q:PV) (a:AV),p1[j]?=some q->r1[j]?=some a->View h a q):View h (.sl id sz 0 2) (.lst sz [p0,p1]):=by
 refine View.sl id sz 0 _ [p0,p1] he (by simp) (by simp[l0,l1]) λi j e q e' a a1 a2 a3 a4=>?_
 rw[aao] at a3
 match i,a1,a3 with
 |0,a1,a3=>cases a1;cases a3;exact h0 j q a a2 a4
 |1,a1,a3=>cases a1;cases a3;exact h1 j q a a2 a4
 |i+2,a1,a3=>simp at a1
def smR(l:List Sm):List (List AV):=l.map λs=>s.cs.map .p
theorem aY(l:List Sm):∀x∈smR l,aj 0 x:=by
 intro x hx;obtain⟨m,_,rfl⟩:=ZN.1 hx;simp
theorem ed(l:List Sm):(smR l).length=l.length:=by simp[smR]
theorem zA(a b:List Sm):smR (a++b)=smR a++smR b:=by simp[smR]
theorem bI{h:List AO}{id sz:Nat}{r0:List AV}{p0:List PV}(he:h[id]?=some (.row sz [r0]))(l0:p0.length=sz)(h0:∀(j:Nat) (q:PV) (a:AV),p0[j]?=some q->r0[j]?=some a->View h a q):View h (.sl id sz 0 1) (.lst sz [p0]):=by
 refine View.sl id sz 0 _ [p0] he (by simp) (by simp[l0]) λi j e q e' a a1 a2 a3 a4=>?_
 rw[aao] at a3
 match i,a1,a3 with
 |0,a1,a3=>cases a1;cases a3;exact h0 j q a a2 a4
 |i+1,a1,a3=>simp at a1
theorem jk{h:List AO}{o n:Int}{w:List UInt8}{k:List Ex}{K:AV}(hk:View h K (exL k)):∀(j:Nat) (q:PV) (a:AV),(Ex.mk o n w k).cs[j]?=some q->[AV.p (.int .i64 o),.p (.int .i64 n),.p (.str w),K][j]?=some a->View h a q:=by
 intro j q a e1 e2
 have hc:(Ex.mk o n w k).cs=[.int .i64 o,.int .i64 n,.str w,exL k]:=Ex.cs_eq _
 rw[hc] at e1
 match j,e1,e2 with
 |0,e1,e2=>cases e1;cases e2;exact .p _
 |1,e1,e2=>cases e1;cases e2;exact .p _
 |2,e1,e2=>cases e1;cases e2;exact .p _
 |3,e1,e2=>cases e1;cases e2;exact hk
 |j+4,e1,e2=>simp at e1
theorem fw{h:List AO}{id:Nat}{l:List Sm}(e:h[id]?=some (.row 5 (smR l))):View h (.sl id 5 0 l.length) (smL l):=by
 have:=gm (h:=h) (id:=id) (sz:=5) (n:=l.length) (ls:=l.map Sm.cs) (by rw[e,smR];simp) (by simp) (λx hx=>by obtain⟨b,_,rfl⟩:=ZN.1 hx;exact b.cs_len)
 exact this
theorem cM{h:List AO}{o:Int}{w:List UInt8}{a:List Ex}{bd el:List Sm}{A B E:AV}(hA:View h A (exL a))(hB:View h B (smL bd))(hE:View h E (smL el)):∀(j:Nat) (q:PV) (x:AV),(Sm.mk o w a bd el).cs[j]?=some q->[AV.p (.int .i64 o),.p (.str w),A,B,E][j]?=some x->View h x q:=by
 intro j q x e1 e2
 have hc:(Sm.mk o w a bd el).cs=[.int .i64 o,.str w,exL a,smL bd,smL el]:=Sm.cs_eq _
 rw[hc] at e1
 match j,e1,e2 with
 |0,e1,e2=>cases e1;cases e2;exact .p _
 |1,e1,e2=>cases e1;cases e2;exact .p _
 |2,e1,e2=>cases e1;cases e2;exact hA
 |3,e1,e2=>cases e1;cases e2;exact hB
 |4,e1,e2=>cases e1;cases e2;exact hE
 |j+5,e1,e2=>simp at e1
theorem dN{n:Nat}:∀o∈([]:List AO),okO n o:=λo h=>by cases h
theorem ag{n:Nat}{a:AO}{l:List AO}(h:okO n a)(r:∀o∈l,okO n o):∀o∈a::l,okO n o:=λo ho=>by
 rcases ZI.1 ho with rfl|ho
 ·exact h
 ·exact r o ho
end
section
theorem Fd.cs_eq'(f:Fd):f.cs=[.str f.name,au f.params,smL f.body]:=rfl
variable (G:am)
end
section
theorem ep{α:Type}{p:α->Bool}{xs:List α}{i:Nat}(h:i<xs.length):(xs.take (i+1)).all p=((xs.take i).all p&&p xs[i]):=by
 rw[al h,List.all_append];simp
theorem nF{α:Type}{p:α->Bool}{xs:List α}{i:Nat}(h:i<xs.length)(hp:p xs[i]=false):xs.all p=false:=
 List.all_eq_false.2 ⟨_,ZD h,by simp[hp]⟩
theorem ik{α:Type}{p:α->Bool}{xs:List α}{i:Nat}(h:xs.length<=i)(ht:(xs.take i).all p=true):xs.all p=true:=by
 rwa[Zz h] at ht
def uy:AK:=qe [yw 2 4,xi] (xZ [wN 10 2,qu 11 10,xe 12 kJ 11,qg 9 12,wT 13 0 9,wT 14 1 9,qg 5 13,ya 14] [xq 15,qz 16 .lss 15 1,qg 17 16,wV 18 17 0 2,wU 19 17 18,qG 20 17 (yu (yl 19 (ql 1) (ql 13))),yF 21 17 20,xP 22 17 21,qg 23 22,wV 24 23 3 2,wU 25 23 24,qG 26 23 (q9 25),xg 27 23 5,xg 28 23 6,qG 29 23 (yu (yn 26 27 28)),yF 30 23 29,xP 31 23 30] 31 yD (yd [wN 32 2,qu 33 32,wc 34 33 2,qg 35 34,wV 36 35 0 2,wU 37 35 36,yc 38 35 .eql 37 13,xP 39 35 38,qg 7 39] (.cut (wg [yx 40,xv 41 2,qu 42 41,xe 43 dq 42,qb 44 (.beq true (.t 40) (.t 43)),qg 45 44,xg 46 45 7,yF 47 45 46,xg 48 45 47,wK 49 48 2 2,wJ 50 48 49,qH 51 48 (x8 .neq 50 (.c qK)),qG 52 45 (qL 48 (.t 51) qS),xP 53 45 52,qg 54 53,wV 55 54 1 2,wU 56 54 55,qG 57 54 (yu (yl 56 xn (ql 255))),yF 58 54 57,xP 59 54 58,qg 60 59,wV 61 60 0 2,wU 62 60 61,yc 63 60 .neq 62 1,xg 64 60 63,wK 65 64 1 2,wJ 66 64 65,xp 67 64 .neq 66 0,qG 68 60 (qL 64 (.t 67) qS),xP 69 60 68] 69 yD) (xF (xM [wY 8] 0 [yH 70,xN 71 2,qu 72 71,wm 73 72,wR 74 70 73] 74 wx 1 (wg [xN 77 2,qu 78 77,yH 79,wt 80 4 78 79,xB 81 80,xq 82,xU 83 82 1,wH 84 ir 81 83,xx 85 84] 85 yD) [yH 75,xR 76 75,qg 8 76]) (yE 4 wv)))))
theorem Em:AK.whole uy=FK.ak kF:=rfl
def ux:AK:=qe [yw 2 5,xi] (.cut (wg [xq 7,qz 8 .lss 7 1,yH 9,wV 10 9 0 2,wU 11 9 10,qG 12 9 (yu (yl 11 (ql 1) (ql 8))),yF 13 9 12,xP 14 9 13,qg 15 14,wV 16 15 2 2,wV 19 15 0 2,wU 17 15 16,qG 18 15 (q9 17),wU 20 15 19,qG 21 15 (.qcall kE (xd 20)),qG 22 15 (qm .neq 18 (.t 21)),xP 23 15 22] 23 yD) (yd [wN 24 2,qu 25 24,wc 26 25 1,qg 27 26,wV 28 27 0 2,wU 29 27 28,yc 30 27 .eql 29 2,xP 31 27 30,qg 5 31] (.cut (wg [xw 32,yq 33 2,qu 34 33,xe 35 dq 34,qb 36 (.beq true (.t 32) (.t 35)),qg 37 36,xg 38 37 5,yF 39 37 38,xg 40 37 39,wK 41 40 1 2,wJ 42 40 41,qH 43 40 (x8 .neq 42 (.c qK)),qG 44 37 (qL 40 (.t 43) qS),xP 45 37 44] 45 yD) (.seq (xM [wY 6] 0 [yA 46,xv 47 2,qu 48 47,wm 49 48,wR 50 46 49] 50 wx 1 (wg [xv 53 2,qu 54 53,yA 55,wt 56 4 54 55,xB 57 56,xe 58 gt 57,xx 59 58] 59 yD) [yA 51,xR 52 51,ya 52]) (.cut (wg [wN 60 2,qu 61 60,wc 62 61 8,qg 63 62,wK 64 63 2 2,wJ 65 63 64,qH 66 63 (qM 4 65 xn),wK 67 63 0 66,wJ 68 63 67,xp 69 63 .neq 68 13,xE 70 63 69] 70 yD) (.cut (wg [qr 71 4 2,qu 72 71,wm 73 72,qz 74 .gtr 73 0,qg 75 74,wK 76 75 0 2,wJ 77 75 76,xp 78 75 .neq 77 5,xE 79 75 78,qg 80 79,wV 81 80 3 2,wU 82 80 81,qG 83 80 (q9 82),yc 84 80 .gtr 83 0,xg 85 80 84,wK 86 85 0 2,wJ 87 85 86,xp 88 85 .neq 87 5,qG 89 80 (qL 85 (.t 88) qS),xg 90 80 89,wK 91 90 0 2,wJ 92 90 91,xp 93 90 .neq 92 6,qG 94 80 (qL 90 (.t 93) qS),xP 95 80 94] 95 yD) (qA [xN 96 2,qu 97 96,xq 98,xU 99 98 1,wH 100 cT 97 99,qg 101 100,wK 102 101 4 2,wJ 103 101 102,xL 104 101 1,xp 105 101 .sub 104 1,qH 106 101 (xy cT 103 (.t 105)),xE 107 101 106,yj 107])))))))
theorem EO:AK.whole ux=FK.ak kC:=rfl
variable (G:am)
theorem sA(n lo hi:Int):VF Tryz.prog G kO [.p (.int .i64 n),.p (.int .i64 lo),.p (.int .i64 hi)] (.p (.bool (inR n lo hi))):=by
 refine AC.go Hx ?_
 by_cases h:lo<=n
 ·simp-implicitDefEqProofs[sf,h,inR]
 ·simp-implicitDefEqProofs[sf,h,inR]
theorem II(op:Int):VF Tryz.prog G kJ [.p (.int .i64 op)] (.tup [.p (.int .i64 (loK op)),.p (.int .i64 (hiK op))]):=by
 refine AC.go Eg ?_
 by_cases h1:op=1
 ·subst h1;simp-implicitDefEqProofs[ew,loK,hiK]
 by_cases h2:op=2
 ·subst h2;simp-implicitDefEqProofs[ew,loK,hiK]
 by_cases h3:op=11
 ·subst h3;simp-implicitDefEqProofs[ew,loK,hiK]
 by_cases h4:op=12
 ·subst h4;simp-implicitDefEqProofs[ew,loK,hiK]
 by_cases h5:op=13
 ·subst h5;simp-implicitDefEqProofs[ew,loK,hiK]
 simp-implicitDefEqProofs[ew,loK,hiK,h1,h2,h3,h4,h5]
theorem Rn:∀(d:Nat) (e:Ex),e.sz<=1099511627776->d<=1000->VF Tryz.prog G ir [.agg (e.cs.map .p),.p (.int .i64 d)] (.p (.bool (aQ d e))):=by
 intro d
 induction d with
 |zero=>
  intro e he _
  refine AC.go ug ?_
  simp-implicitDefEqProofs[kF,Ex.cs_eq]
  refine(II G _).use ?_
  simp-implicitDefEqProofs[aQ]
 |succ d ih=>
  intro e he hd
  have hsz:=e.sz_eq
  have hkl:=aZ e.kids
  refine AC.goK ug Em ?_
  have hd1:¬(d:Int)+1<1:=by omega
  have hw:IntKind.i64.wrap ((d:Int)+1-1)=(d:Int):=by rw[show(d:Int)+1-1=d by omega];exact ae (by omega) (by omega)
  have hw':IntKind.i64.wrap (d:Int)=(d:Int):=ae (by omega) (by omega)
  have hxl:∀l,exL l= .lst 4 (l.map Ex.cs):=λ_=>rfl
  simp-implicitDefEqProofs[uy,kF,Ex.cs_eq]
  refine(II G _).use ?_
  simp-implicitDefEqProofs[hd1]
  refine(sA G _ _ _).use ?_
  by_cases h1:inR e.op 1 13=true
  case neg=>simp-implicitDefEqProofs[h1,aQ,jR]
  simp-implicitDefEqProofs[h1,hxl]
  refine(sA G _ _ _).use ?_
  by_cases h2:inR e.kids.length (loK e.op) (hiK e.op)=true
  case neg=>simp-implicitDefEqProofs[h2,aQ,jR]
  simp-implicitDefEqProofs[h2]
  refine ja (ah 86 [(1,.p (.int .i64 (d+1))),(2,.ptr 0 4 0 0),(7,.p (.bool (HN e.op)))]) [.row 4 [[.p (.int .i64 e.op),.p (.int .i64 e.n),.p (.str e.name),.p (.lst 4 (e.kids.map Ex.cs))]]] ?_ ?_
  ·by_cases o2:e.op=2
   ·simp-implicitDefEqProofs[o2]
    exact ab (by simp) (by simp[okO]) (by simp[below,HN])
   ·by_cases o13:e.op=13
    ·simp-implicitDefEqProofs[o13]
     exact ab (by simp) (by simp[okO]) (by simp[below,HN])
    ·simp-implicitDefEqProofs[o2,o13]
     exact ab (by simp) (by simp[okO]) (by simp[below,HN,o2,o13])
  have hn:e.name.length<=140737488355328:=by omega
  refine rh (λ_:Unit=>ah 86 [(1,.p (.int .i64 ((d:Int)+1))),(2,.ptr 0 4 0 0)]) (λ_=>[.row 4 [[.p (.int .i64 e.op),.p (.int .i64 e.n),.p (.str e.name),.p (.lst 4 (e.kids.map Ex.cs))]]]) (λ_=>jR e=true) ?_ ?_
  ·simp-implicitDefEqProofs[]
   refine(vW G _ hn).use ?_
   simp-implicitDefEqProofs[]
   repeat' first
    |(refine(sA G _ _ _).use ?_;simp-implicitDefEqProofs[])
    |(refine aT (λhc=>?_) (λhc=>?_)<;>simp-implicitDefEqProofs[hc])
   all_goals first
    |exact⟨by simp_all [jR],ab (by simp) (by simp[okO]) (by simp[below])⟩
    |simp_all [aQ,jR]
  intro _ hh
  simp-implicitDefEqProofs[]
  refine aI (λi:Nat=>ah 86 [(1,.p (.int .i64 ((d:Int)+1))),(2,.ptr 0 4 0 0),(8,.p (.int .i64 i))]) (λ_=>[.row 4 [[.p (.int .i64 e.op),.p (.int .i64 e.n),.p (.str e.name),.p (.lst 4 (e.kids.map Ex.cs))]]])
   (λi=>i<=e.kids.length/\(e.kids.take i).all (aQ d)=true) (λi=>e.kids.length-i) 0 (by simp) (ab (by simp) (by simp[okO]) (by simp[below])) ?_
  intro i ⟨hi,hall⟩
  simp-implicitDefEqProofs[]
  refine aT (λh=>?_) (λh=>?_)
  ·simp at h
   have hg:=Zu h
   have hks:=aN (ZD h)
   simp-implicitDefEqProofs[hg,hw']
   refine(ih e.kids[i] (by omega) (by omega)).use ?_
   by_cases hk:aQ d e.kids[i]=true
   ·simp-implicitDefEqProofs[hk]
    refine⟨i+1,⟨h,by rw[←ZA,ep h,hall,hk];rfl⟩,by omega,ab (by simp) (by simp[okO]) ?_⟩
    simp[below,w1 (i:=i) (by omega)]
   ·have hk':aQ d e.kids[i]=false:=by simpa using hk
    have hf:aQ (d+1) e=false:=by simp only[aQ,nF h hk',Bool.and_false]
    simp-implicitDefEqProofs[hk',hf]
  ·simp at h
   have hf:aQ (d+1) e=true:=by simp only[aQ,ik h hall,hh,Bool.and_self]
   simp-implicitDefEqProofs[hf]
theorem Ny{l:List Ex}{i:Nat}(h:i<l.length):fL (l.take (i+1))=fL (l.take i)+l[i].parts:=by
 rw[al h,lc];simp[fL]
theorem Gx(l:List Ex)(i:Nat):fL (l.take i)<=fL l:=by
 have:=lc (l.take i) (l.drop i)
 rw[aab] at this
 omega
theorem Nk:∀(k:Nat) (e:Ex),e.sz<=k->k<=1099511627776->VF Tryz.prog G jr [.agg (e.cs.map .p)] (.p (.int .i64 e.parts)):=by
 intro k
 induction k with
 |zero=>intro e he;have:=e.sz_eq;omega
 |succ k ih=>
  intro e he hk
  have hsz:=e.sz_eq
  have hkl:=aZ e.kids
  have hpe:=e.parts_eq
  have hpz:=GA e.kids
  refine AC.go CM ?_
  have hxl:∀l,exL l= .lst 4 (l.map Ex.cs):=λ_=>rfl
  simp-implicitDefEqProofs[rE,Ex.cs_eq,hxl]
  refine aI (λi:Nat=>ah 21 [(1,.ptr 0 4 0 0),(3,.p (.int .i64 ((1+fL (e.kids.take i):Nat):Int))),(4,.p (.int .i64 i))]) (λ_=>[.row 4 [[.p (.int .i64 e.op),.p (.int .i64 e.n),.p (.str e.name),.p (.lst 4 (e.kids.map Ex.cs))]]])
   (λi=>i<=e.kids.length) (λi=>e.kids.length-i) 0 (by simp) (ab (by simp) (by simp[okO]) (by simp[below,fL])) ?_
  intro i hi
  simp-implicitDefEqProofs[]
  refine aT (λh=>?_) (λh=>?_)
  ·simp at h
   have hg:=Zu h
   have hks:=aN (ZD h)
   have hps:=Ny h
   have hple:=Gx e.kids (i+1)
   simp-implicitDefEqProofs[hg]
   refine(ih e.kids[i] (by omega) (by omega)).use ?_
   have hw:IntKind.i64.wrap (1+(fL (e.kids.take i):Int)+(e.kids[i].parts:Int))=((1+fL (e.kids.take (i+1)):Nat):Int):=by rw[ae (by omega) (by omega)];omega
   simp-implicitDefEqProofs[hw]
   exact⟨i+1,h,by omega,ab (by simp) (by simp[okO]) (by simp[below,w1 (i:=i) (by omega)])⟩
  ·simp at h
   rw[Zz h]
   simp-implicitDefEqProofs[]
   omega
theorem IH(e:Ex)(he:e.sz<=1099511627776):VF Tryz.prog G gt [.agg (e.cs.map .p)] (.p (.bool (io e))):=by
 refine AC.go Au ?_
 simp-implicitDefEqProofs[oY]
 have h6:=Rn G 6 e he (by omega)
 refine h6.use ?_
 by_cases h:aQ 6 e=true
 ·simp-implicitDefEqProofs[h]
  refine(Nk G _ e (ZH _) he).use ?_
  simp-implicitDefEqProofs[io,h]
  omega
 ·simp-implicitDefEqProofs[h,io]
theorem Px(op:Int):VF Tryz.prog G kE [.p (.int .i64 op)] (.p (.int .i64 (gF op))):=by
 refine AC.go EL ?_
 by_cases h:op=4
 ·simp-implicitDefEqProofs[oa,h,gF]
 ·simp-implicitDefEqProofs[oa,h,gF]
theorem AL(d:Nat)(hd:d<=1000)(hs:∀s:Sm,s.sz<=1099511627776->VF Tryz.prog G kB [.agg (s.cs.map .p),.p (.int .i64 d)] (.p (.bool (aq d s))))(l:List Sm)(hl:an l<=1099511627776):
 VF Tryz.prog G cT [.p (smL l),.p (.int .i64 d)] (.p (.bool (l.all (aq d)))):=by
 refine AC.go Ch ?_
 have hll:=bC l
 have hsl:∀l,smL l= .lst 5 (l.map Sm.cs):=λ_=>rfl
 simp-implicitDefEqProofs[sa]
 refine aI (λi:Nat=>ah 19 [(0,.p (smL l)),(1,.p (.int .i64 d)),(5,.p (.int .i64 i))]) (λ_=>[]) (λi=>i<=l.length/\(l.take i).all (aq d)=true) (λi=>l.length-i) 0 (by simp) (bM rfl (by simp[below,hsl])) ?_
 intro i ⟨hi,hall⟩
 simp-implicitDefEqProofs[hsl]
 refine aT (λh=>?_) (λh=>?_)
 ·simp at h
  have hg:=Zu h
  have hks:=cA (ZD h)
  simp-implicitDefEqProofs[hg]
  refine(hs l[i] (by omega)).use ?_
  by_cases hk:aq d l[i]=true
  ·simp-implicitDefEqProofs[hk]
   exact⟨i+1,⟨h,by rw[←ZA,ep h,hall,hk];rfl⟩,by omega,bM rfl (by simp[below,hsl,w1 (i:=i) (by omega)])⟩
  ·have hk':aq d l[i]=false:=by simpa using hk
   have hf:=nF h hk'
   simp-implicitDefEqProofs[hk',hf]
 ·simp at h
  have hf:=ik h hall
  simp-implicitDefEqProofs[hf]
theorem OG:∀(d:Nat),d<=1000->∀s:Sm,s.sz<=1099511627776->VF Tryz.prog G kB [.agg (s.cs.map .p),.p (.int .i64 d)] (.p (.bool (aq d s))):=by
 intro d
 induction d with
 |zero=>
  intro _ s _
  refine AC.go tR ?_
  simp-implicitDefEqProofs[kC,Sm.cs_eq,aq]
 |succ d ih=>
  intro hd s he
  have hsz:=s.sz_eq
  have hal:=aZ s.args
  have hbl:=bC s.body
  have hel:=bC s.els
  have ihs:=AL G d (by omega) (ih (by omega))
  refine AC.goK tR EO ?_
  have hd1:¬(d:Int)+1<1:=by omega
  have hw':IntKind.i64.wrap (d:Int)=(d:Int):=ae (by omega) (by omega)
  have hxl:∀l,exL l= .lst 4 (l.map Ex.cs):=λ_=>rfl
  have hsl:∀l,smL l= .lst 5 (l.map Sm.cs):=λ_=>rfl
  have hn:s.name.length<=140737488355328:=by omega
  simp-implicitDefEqProofs[ux,kC,Sm.cs_eq]
  generalize hH:[AO.row 5 [[AV.p (.int .i64 s.op),.p (.str s.name),.p (exL s.args),.p (smL s.body),.p (smL s.els)]]]=H
  have hho:∀o∈H,okO H.length o:=by rw[←hH];simp[okO]
  have hhl:0<H.length:=by rw[←hH];simp
  have hh0:H[0]?=some (AO.row 5 [[AV.p (.int .i64 s.op),.p (.str s.name),.p (exL s.args),.p (smL s.body),.p (smL s.els)]]):=by rw[←hH];rfl
  have hhL:H.length=1:=by rw[←hH];rfl
  refine rh (λ_:Unit=>ah 108 [(1,.p (.int .i64 ((d:Int)+1))),(2,.ptr 0 5 0 0)]) (λ_=>H) (λ_=>inR s.op 1 8=true/\s.args.length=gF s.op) ?_ ?_
  ·simp-implicitDefEqProofs[hd1,hh0]
   refine(sA G _ _ _).use ?_
   by_cases h1:inR s.op 1 8=true
   case neg=>simp-implicitDefEqProofs[h1,aq,fX]
   simp-implicitDefEqProofs[h1,hh0,hxl]
   refine(Px G _).useQ ?_
   by_cases h2:s.args.length=gF s.op
   ·simp-implicitDefEqProofs[h2]
    exact ab (by omega) hho (by simp[below,hhl])
   ·have h2':¬(s.args.length:Int)=(gF s.op:Int):=by omega
    simp-implicitDefEqProofs[h2,h2',aq,fX]
  intro _ ⟨h1,h2⟩
  refine rh (λ_:Unit=>ah 108 [(1,.p (.int .i64 ((d:Int)+1))),(2,.ptr 0 5 0 0),(5,.p (.bool (dP s.op)))]) (λ_=>H) (λ_=>True) ?_ ?_
  ·simp-implicitDefEqProofs[hh0]
   by_cases o1:s.op=1
   ·simp-implicitDefEqProofs[o1,hh0,dP]
    exact ab (by omega) hho (by simp[below,hhl])
   ·by_cases o2:s.op=2
    ·simp-implicitDefEqProofs[o2,hh0,dP]
     exact ab (by omega) hho (by simp[below,hhl])
    ·simp-implicitDefEqProofs[o1,o2,hh0,dP]
     exact ab (by omega) hho (by simp[below,hhl])
  intro _ _
  refine rh (λ_:Unit=>ah 108 [(1,.p (.int .i64 ((d:Int)+1))),(2,.ptr 0 5 0 0)]) (λ_=>H) (λ_=>(dP s.op==aK s.name)=true/\(dP s.op||decide (s.name=[]))=true) ?_ ?_
  ·simp-implicitDefEqProofs[hh0]
   refine(vW G _ hn).use ?_
   simp-implicitDefEqProofs[hh0]
   repeat' first
    |(refine aT (λhc=>?_) (λhc=>?_)<;>simp-implicitDefEqProofs[hc,hh0])
   all_goals first
    |exact ab (by omega) hho (by simp[below,hhl])
    |exact⟨by simp_all,by simp_all,ab (by omega) hho (by simp[below,hhl])⟩
    |exact⟨by simp_all,ab (by omega) hho (by simp[below,hhl])⟩
    |(simp_all [aq,fX];done)
  intro _ ⟨h3,h4⟩
  simp-implicitDefEqProofs[]
  refine aI (λi:Nat=>ah 108 [(1,.p (.int .i64 ((d:Int)+1))),(2,.ptr 0 5 0 0),(6,.p (.int .i64 i))]) (λ_=>H) (λi=>i<=s.args.length/\(s.args.take i).all io=true) (λi=>s.args.length-i) 0 (by simp) (ab (by omega) hho (by simp[below,hhl])) ?_
  intro i ⟨hi,hall⟩
  simp-implicitDefEqProofs[hh0,hxl]
  refine aT (λh=>?_) (λh=>?_)
  ·simp at h
   have hg:=Zu h
   have hks:=aN (ZD h)
   simp-implicitDefEqProofs[hg,hh0,hxl]
   refine(IH G s.args[i] (by omega)).use ?_
   by_cases hk:io s.args[i]=true
   ·simp-implicitDefEqProofs[hk]
    exact⟨i+1,⟨h,by rw[←ZA,ep h,hall,hk];rfl⟩,by omega,ab (by omega) hho (by simp[below,hhl,w1 (i:=i) (by omega)])⟩
   ·have hk':io s.args[i]=false:=by simpa using hk
    have hf:aq (d+1) s=false:=by simp only[aq,fX,nF h hk',Bool.and_false,Bool.false_and]
    simp-implicitDefEqProofs[hk',hf]
  simp at h
  have h5:s.args.all io=true:=ik h hall
  have hlen1:1<=s.args.length:=by rw[h2];unfold gF;split<;>omega
  obtain⟨a0,ar,ha⟩:∃a r,s.args=a::r:=by
   cases hh:s.args with
   |nil=>rw[hh] at hlen1;simp at hlen1
   |cons a r=>exact⟨a,r,rfl⟩
  have ha0:s.args[0]?=some a0:=by rw[ha];rfl
  refine rh (λ_:Unit=>ah 108 [(1,.p (.int .i64 ((d:Int)+1))),(2,.ptr 0 5 0 0)]) (λ_=>H) (λ_=>(!decide (s.op=8)||decide (a0.op=13))=true) ?_ ?_
  ·simp-implicitDefEqProofs[hh0]
   by_cases o8:s.op=8
   ·have hae:=a0.cs_eq
    simp-implicitDefEqProofs[o8,hh0,hxl,ha0,hae]
    refine aT (λhc=>?_) (λhc=>?_)
    ·simp at hc
     have hf:aq (d+1) s=false:=by simp[aq,fX,o8,ha,hc]
     simp-implicitDefEqProofs[hf]
    ·simp at hc
     simp-implicitDefEqProofs[hc]
     exact ab (by omega) hho (by simp[below,hhl])
   ·simp-implicitDefEqProofs[o8,hh0]
    exact ab (by omega) hho (by simp[below,hhl])
  intro _ h6
  refine rh (λ_:Unit=>ah 108 [(1,.p (.int .i64 ((d:Int)+1))),(2,.ptr 0 5 0 0)]) (λ_=>H) (λ_=>(s.els.isEmpty||decide (s.op=5))=true/\(s.body.isEmpty||decide (s.op=5)||decide (s.op=6))=true) ?_ ?_
  ·have hf:¬((s.els.isEmpty||decide (s.op=5))=true/\(s.body.isEmpty||decide (s.op=5)||decide (s.op=6))=true)->aq (d+1) s=false:=λh=>by
    have:fX s=false:=by
     cases hx:fX s with
     |false=>rfl
     |true=>refine absurd ?_ h;simp only[fX,ZE] at hx;exact⟨hx.1.2,hx.2⟩
    simp[aq,this]
   have pe:¬s.els=[]->0<s.els.length:=List.length_pos_iff.2
   have pb:¬s.body=[]->0<s.body.length:=List.length_pos_iff.2
   by_cases o5:s.op=5
   ·simp-implicitDefEqProofs[hh0,hsl,o5]
    repeat' first
     |(refine aT (λhc=>?_) (λhc=>?_)<;>simp-implicitDefEqProofs[hc,hh0,hsl,o5])
    all_goals exact ab (by omega) hho (by simp[below,hhl])
   by_cases e1:s.els=[]
   case neg=>
    have hf:=hf (by simp[e1,o5])
    have:=pe e1
    simp-implicitDefEqProofs[hh0,hsl,o5,e1,this,hf]
   by_cases e2:s.body=[]
   ·simp-implicitDefEqProofs[hh0,hsl,o5,e1,e2]
    exact ab (by omega) hho (by simp[below,hhl])
   have:=pb e2
   by_cases o6:s.op=6
   ·simp-implicitDefEqProofs[hh0,hsl,o6,e1,e2,this]
    exact ab (by omega) hho (by simp[below,hhl])
   ·have hf:=hf (by simp[e2,o5,o6])
    simp-implicitDefEqProofs[hh0,hsl,o5,o6,e1,e2,this,hf]
  intro _ ⟨h7,h8⟩
  have hm:(match s.args with|a::_=>decide (a.op=13)|[]=>false)=decide (a0.op=13):=by rw[ha]
  have hhd:fX s=true:=by
   have h6':(!decide (s.op=8)||(match s.args with|a::_=>decide (a.op=13)|[]=>false))=true:=by rw[hm];exact h6
   have h2':decide (s.args.length=gF s.op)=true:=by simp[h2]
   simp only[fX,h1,h2',h3,h4,h5,h7,h8,Bool.and_self,Bool.and_true,Bool.true_and]
   exact h6'
  simp-implicitDefEqProofs[hh0,hw']
  refine(ihs s.body (by omega)).use ?_
  by_cases hB:s.body.all (aq d)=true
  ·simp only[hB]
   simp-implicitDefEqProofs[hh0,hw']
   refine(ihs s.els (by omega)).use ?_
   have hf:aq (d+1) s=s.els.all (aq d):=by simp only[aq,hhd,hB,Bool.true_and]
   rw[hf]
   generalize s.els.all (aq d)=w
   simp-implicitDefEqProofs[]
  ·have hB':s.body.all (aq d)=false:=by simpa using hB
   have hf:aq (d+1) s=false:=by simp only[aq,hB',Bool.and_false,Bool.false_and]
   simp only[hB',hf]
   simp-implicitDefEqProofs[]
theorem NO(d:Nat)(hd:d<=1000)(l:List Sm)(hl:an l<=1099511627776):VF Tryz.prog G cT [.p (smL l),.p (.int .i64 d)] (.p (.bool (l.all (aq d)))):=
 AL G d hd (OG G d hd) l hl
theorem Vn(f:Fd)(hf:f.sz<=1099511627776):VF Tryz.prog G sg [.agg (f.cs.map .p)] (.p (.bool (iZ f))):=by
 refine AC.go Hl ?_
 have hsz:f.sz=1+f.name.length+(f.params.length+(f.params.map List.length).sum)+an f.body:=rfl
 have hps:∀x∈f.params,x.length<=(f.params.map List.length).sum:=λx hx=>by
  have key:∀l:List (List UInt8),x∈l->x.length<=(l.map List.length).sum:=by
   intro l
   induction l with
   |nil=>intro h;cases h
   |cons y r ih=>
    intro h
    simp only[ZT,List.sum_cons]
    rcases ZI.1 h with rfl|h
    ·omega
    ·have:=ih h;omega
  exact key _ hx
 have hst:au f.params= .lst 1 (f.params.map λw=>[.str w]):=rfl
 have h4:=NO G 4 (by omega) f.body (by omega)
 simp-implicitDefEqProofs[AU,Fd.cs,hst]
 refine aI (λi:Nat=>ah 32 [(1,.ptr 0 3 0 0),(3,.p (.int .i64 i))]) (λ_=>[.row 3 [[.p (.str f.name),.p (au f.params),.p (smL f.body)]]]) (λi=>i<=f.params.length/\(f.params.take i).all aK=true) (λi=>f.params.length-i) 0 (by simp) (ab (by simp) (by simp[okO]) (by simp[below])) ?_
 intro i ⟨hi,hall⟩
 simp-implicitDefEqProofs[hst]
 refine aT (λh=>?_) (λh=>?_)
 ·simp at h
  have hg:=Zu h
  have hl:=hps _ (ZD h)
  simp-implicitDefEqProofs[hg]
  refine(vW G _ (by omega)).use ?_
  by_cases hk:aK f.params[i]=true
  ·simp-implicitDefEqProofs[hk]
   exact⟨i+1,⟨h,by rw[←ZA,ep h,hall,hk];rfl⟩,by omega,ab (by simp) (by simp[okO]) (by simp[below,w1 (i:=i) (by omega)])⟩
  ·have hk':aK f.params[i]=false:=by simpa using hk
   have hff:iZ f=false:=by simp only[iZ,nF h hk',Bool.false_and]
   simp-implicitDefEqProofs[hk',hff]
 ·simp at h
  have h1:f.params.all aK=true:=ik h hall
  simp-implicitDefEqProofs[]
  refine(vW G _ (by omega)).use ?_
  by_cases h2:aK f.name=true
  case neg=>
   have h2':aK f.name=false:=by simpa using h2
   simp-implicitDefEqProofs[h2',iZ]
  simp-implicitDefEqProofs[h2]
  by_cases h3:f.params.length<=3
  case neg=>
   have h3':¬(f.params.length:Int)<=3:=by omega
   simp-implicitDefEqProofs[h3,h3',iZ]
  have h3':(f.params.length:Int)<=3:=by omega
  simp-implicitDefEqProofs[h3']
  refine h4.use ?_
  have hff:iZ f=f.body.all (aq 4):=by simp only[iZ,h1,h2,h3,decide_true,Bool.true_and]
  rw[hff]
  generalize f.body.all (aq 4)=w
  simp-implicitDefEqProofs[]
theorem MU{l:List Sm}{i:Nat}(h:i<l.length):eB (l.take (i+1))=eB (l.take i)+l[i].cnt:=by
 rw[al h,sD];simp[eB]
theorem yW(l:List Sm)(i:Nat):eB (l.take i)<=eB l:=by
 have:=sD (l.take i) (l.drop i)
 rw[aab] at this
 omega
def nt(l:List Sm)(i:Nat):Nat:=l.length+((l.take i).map λs=>eB s.body+eB s.els).sum
theorem KB(l:List Sm):nt l 0=l.length:=by simp[nt]
theorem DO{l:List Sm}{i:Nat}(h:i<l.length):nt l (i+1)=nt l i+eB l[i].body+eB l[i].els:=by
 rw[nt,nt,al h,List.map_append,List.sum_append]
 simp only[ZT,aaz,List.sum_cons,List.sum_nil]
 omega
theorem zM(l:List Sm):∀i,i<=l.length->eB (l.take i)+l.length=i+nt l i
 |0,_=>by simp[eB,nt]
 |i+1,h=>by
  have:=zM l i (by omega)
  rw[MU (by omega),DO (by omega),(l[i]'(by omega)).cnt_eq]
  omega
theorem Ni:∀(k:Nat) (l:List Sm),an l<=k->k<=1099511627776->VF Tryz.prog G gg [.p (smL l)] (.p (.int .i64 (eB l))):=by
 intro k
 induction k with
 |zero=>
  intro l hl _
  have:l=[]:=by
   cases l with
   |nil=>rfl
   |cons s r=>have:=s.sz_eq;simp only[an] at hl;omega
  subst this
  refine AC.go rQ ?_
  have hsl:smL []= .lst 5 []:=rfl
  simp-implicitDefEqProofs[mP,hsl]
  refine aI (λ_:Unit=>ah 29 [(0,.p (.lst 5 [])),(3,.p (.int .i64 0)),(4,.p (.int .i64 0))]) (λ_=>[]) (λ_=>True) (λ_=>0) () trivial (bM rfl (by simp[below])) ?_
  intro _ _
  simp-implicitDefEqProofs[eB]
 |succ k ih=>
  intro l hl hk
  have hll:=bC l
  have hnz:=tj l
  refine AC.go rQ ?_
  have hsl:∀l,smL l= .lst 5 (l.map Sm.cs):=λ_=>rfl
  simp-implicitDefEqProofs[mP,hsl]
  refine aI (λi:Nat=>ah 29 [(0,.p (smL l)),(3,.p (.int .i64 (nt l i))),(4,.p (.int .i64 i))]) (λ_=>[]) (λi=>i<=l.length) (λi=>l.length-i) 0 (by simp) (bM rfl (by simp[below,hsl,KB])) ?_
  intro i hi
  have k0:=zM l i hi
  have k2:=yW l i
  simp-implicitDefEqProofs[hsl]
  refine aT (λh=>?_) (λh=>?_)
  ·simp at h
   have hg:=Zu h
   have hks:=cA (ZD h)
   have hse:=l[i].sz_eq
   have hce:=l[i].cs_eq
   have k1:=DO h
   have k3:=zM l (i+1) h
   have k4:=yW l (i+1)
   simp-implicitDefEqProofs[hg,hce]
   refine(ih l[i].body (by omega) (by omega)).use ?_
   simp-implicitDefEqProofs[hg,hce]
   refine(ih l[i].els (by omega) (by omega)).use ?_
   have w1':IntKind.i64.wrap ((nt l i:Int)+(eB l[i].body:Int))=(nt l i:Int)+(eB l[i].body:Int):=ae (by omega) (by omega)
   have w2':IntKind.i64.wrap ((nt l i:Int)+(eB l[i].body:Int)+(eB l[i].els:Int))=(nt l (i+1):Int):=by rw[ae (by omega) (by omega)];omega
   simp-implicitDefEqProofs[w1',w2']
   exact⟨i+1,h,by omega,bM rfl (by simp[below,hsl,w1 (i:=i) (by omega)])⟩
  ·simp at h
   rw[Zz h] at k0
   have:nt l i=eB l:=by omega
   simp-implicitDefEqProofs[this]
theorem cS:∀{l:List Fd} {f:Fd},f∈l->f.sz<=aH l
 |x::r,e,h=>by
  simp only[aH,ZT,List.sum_cons]
  rcases ZI.1 h with rfl|h
  ·omega
  ·have:=cS h;simp only[aH] at this;omega
theorem dL:∀l:List Fd,l.length<=aH l
 |[]=>ZH _
 |e::r=>by have:=dL r;simp only[aH,ZT,List.sum_cons,ZO] at this⊢;have:1<=e.sz:=by unfold Fd.sz;omega
           omega
def Dd(l:List Fd)(i:Nat):Nat:=lZ (l.take i)
theorem Mt{l:List Fd}{i:Nat}(h:i<l.length):Dd l (i+1)=Dd l i+eB l[i].body:=by
 rw[Dd,Dd,lZ,lZ,al h,List.map_append,List.sum_append];simp
theorem Ge:∀l:List Fd,lZ l<=aH l
 |[]=>ZH _
 |f::r=>by
  have:=Ge r
  have h2:=tj f.body
  simp only[lZ,aH,ZT,List.sum_cons] at this⊢
  have:an f.body<=f.sz:=by unfold Fd.sz;omega
  omega
theorem So(l:List Fd)(i:Nat):Dd l i<=aH l:=by
 have h1:=Ge (l.take i)
 have h2:aH (l.take i)<=aH l:=by
  have:aH l=aH (l.take i)+aH (l.drop i):=by
   rw[←aab i l,aH,List.map_append,List.sum_append];simp[aH]
  omega
 exact ZQ h1 h2
theorem SO(l:List Fd)(hl:aH l<=1099511627776):VF Tryz.prog G pP [.agg [.p (fdL l)]] (.p (.int .i64 (lZ l))):=by
 refine AC.go Gk ?_
 have hll:=dL l
 have hfl:∀l,fdL l= .lst 3 (l.map Fd.cs):=λ_=>rfl
 simp-implicitDefEqProofs[yP]
 refine aI (λi:Nat=>ah 22 [(1,.ptr 0 1 0 0),(3,.p (.int .i64 (Dd l i))),(4,.p (.int .i64 i))]) (λ_=>[.row 1 [[.p (fdL l)]]]) (λi=>i<=l.length) (λi=>l.length-i) 0 (by simp) (ab (by simp) (by simp[okO]) (by simp[below,Dd,lZ])) ?_
 intro i hi
 simp-implicitDefEqProofs[hfl]
 refine aT (λh=>?_) (λh=>?_)
 ·simp at h
  have hg:=Zu h
  have hks:=cS (ZD h)
  have hse:l[i].sz=1+l[i].name.length+(l[i].params.length+(l[i].params.map List.length).sum)+an l[i].body:=rfl
  have hce:l[i].cs=[.str l[i].name,au l[i].params,smL l[i].body]:=rfl
  have k1:=Mt h
  have k2:=So l (i+1)
  simp-implicitDefEqProofs[hg,hce]
  refine(Ni G _ l[i].body (ZH _) (by omega)).use ?_
  have w1':IntKind.i64.wrap ((Dd l i:Int)+(eB l[i].body:Int))=(Dd l (i+1):Int):=by rw[ae (by omega) (by omega)];omega
  simp-implicitDefEqProofs[w1']
  exact⟨i+1,h,by omega,ab (by simp) (by simp[okO]) (by simp[below,w1 (i:=i) (by omega),hfl])⟩
 ·simp at h
  have:Dd l i=lZ l:=by rw[Dd,Zz h]
  simp-implicitDefEqProofs[this]
theorem mA(l:List Fd)(hl:aH l<=1099511627776):VF Tryz.prog G eF [.agg [.p (fdL l)]] (.p (.bool (bc l))):=by
 refine AC.go tD ?_
 have hfl:∀l,fdL l= .lst 3 (l.map Fd.cs):=λ_=>rfl
 have hall:=SO G l hl
 have hll:=dL l
 rw[hfl] at hall
 simp-implicitDefEqProofs[lS,hfl]
 refine(sA G _ _ _).use ?_
 by_cases h1:inR l.length 1 4=true
 case neg=>simp-implicitDefEqProofs[h1,bc]
 simp-implicitDefEqProofs[h1]
 refine aI (λi:Nat=>ah 26 [(1,.ptr 0 1 0 0),(3,.p (.int .i64 i))]) (λ_=>[.row 1 [[.p (.lst 3 (l.map Fd.cs))]]]) (λi=>i<=l.length/\(l.take i).all iZ=true) (λi=>l.length-i) 0 (by simp) (ab (by simp) (by simp[okO]) (by simp[below])) ?_
 intro i ⟨hi,ha⟩
 simp-implicitDefEqProofs[]
 refine aT (λh=>?_) (λh=>?_)
 ·simp at h
  have hg:=Zu h
  have hks:=cS (ZD h)
  simp-implicitDefEqProofs[hg]
  refine(Vn G l[i] (by omega)).use ?_
  by_cases hk:iZ l[i]=true
  ·simp-implicitDefEqProofs[hk]
   exact⟨i+1,⟨h,by rw[←ZA,ep h,ha,hk];rfl⟩,by omega,ab (by simp) (by simp[okO]) (by simp[below,w1 (i:=i) (by omega)])⟩
  ·have hk':iZ l[i]=false:=by simpa using hk
   have hff:bc l=false:=by simp only[bc,nF h hk',Bool.and_false,Bool.false_and]
   simp-implicitDefEqProofs[hk',hff]
 ·simp at h
  have h2:l.all iZ=true:=ik h ha
  simp-implicitDefEqProofs[]
  refine hall.use ?_
  have hff:bc l=decide (lZ l<=40):=by simp only[bc,h1,h2,Bool.true_and]
  simp-implicitDefEqProofs[hff]
  omega
end
section
noncomputable def eqX {α:Type} (a b:α):Bool:= @decide (a=b) (Classical.propDecidable _)
theorem rb{α:Type}{a b:α}(h:a=b):eqX a b=true:=by unfold eqX;exact @decide_eq_true _ (Classical.propDecidable _) h
theorem fO{α:Type}{a b:α}(h:¬a=b):eqX a b=false:=by unfold eqX;exact @decide_eq_false _ (Classical.propDecidable _) h
theorem Ex.ext'{a b:Ex}(h1:a.op=b.op)(h2:a.n=b.n)(h3:a.name=b.name)(h4:a.kids=b.kids):a=b:=by
 cases a;cases b;simp only[Ex.op,Ex.n,Ex.name,Ex.kids] at*;subst h1 h2 h3 h4;rfl
theorem Sm.ext'{a b:Sm}(h1:a.op=b.op)(h2:a.name=b.name)(h3:a.args=b.args)(h4:a.body=b.body)(h5:a.els=b.els):a=b:=by
 cases a;cases b;simp only[Sm.op,Sm.name,Sm.args,Sm.body,Sm.els] at*;subst h1 h2 h3 h4 h5;rfl
theorem jH{α:Type}{a b:List α}{i:Nat}(h:a.take i=b.take i)(ha:i<a.length)(hb:i<b.length)(e:a[i]=b[i]):a.take (i+1)=b.take (i+1):=by
 rw[al ha,al hb,h,e]
theorem mN{α:Type}{a b:List α}(h:a.take a.length=b.take a.length)(hl:a.length=b.length):a=b:=by
 rw[aad] at h
 rw[h,hl,aad]
theorem Hw{α:Type}{a b:List α}{i:Nat}(ha:i<a.length)(hb:i<b.length)(e:¬a[i]=b[i]):¬a=b:=λh=>by
 subst h;exact e rfl
variable (G:am)
theorem NJ(a b:List (List UInt8))(ha:a.length<=1099511627776)(hb:b.length<=1099511627776):VF Tryz.prog G mM [.p (au a),.p (au b)] (.p (.bool (eqX a b))):=by
 refine AC.go DC ?_
 have hsl:∀l,au l= .lst 1 (l.map λw=>[.str w]):=λ_=>rfl
 by_cases hl:a.length=b.length
 case neg=>
  have hl':¬(a.length:Int)=b.length:=by omega
  rw[fO λe=>hl (by rw[e])]
  simp-implicitDefEqProofs[mF,hsl,hl']
 simp-implicitDefEqProofs[mF,hsl,hl]
 refine aI (λi:Nat=>ah 26 [(0,.p (au a)),(1,.p (au b)),(5,.p (.int .i64 i))]) (λ_=>[]) (λi=>i<=a.length/\a.take i=b.take i) (λi=>a.length-i) 0 (by simp) (bM rfl (by simp[below,hsl])) ?_
 rintro i ⟨hi,he⟩
 simp-implicitDefEqProofs[hsl,hl]
 refine aT (λh=>?_) (λh=>?_)
 ·simp at h
  have h2:i<a.length:=by omega
  have g1:=Zu h2
  have g2:=Zu h
  have nx:=jH he h2 h
  have nn:=Hw h2 h
  generalize a[i]=x at g1 nx nn
  generalize b[i]=y at g2 nx nn
  by_cases e:x=y
  ·simp-implicitDefEqProofs[g1,g2,e]
   exact⟨i+1,⟨by omega,nx e⟩,by omega,bM rfl (by simp[below,hsl,w1 (i:=i) (by omega)])⟩
  ·rw[fO (nn e)]
   simp-implicitDefEqProofs[g1,g2,e]
 ·simp at h
  have hie:i=a.length:=by omega
  subst hie
  rw[rb (mN he hl)]
  simp-implicitDefEqProofs[]
theorem Jy:∀(N:Nat) (a:Ex),a.sz<=N->a.sz<=1073741824->∀b:Ex,b.sz<=1073741824->VF Tryz.prog G iy [.agg (a.cs.map .p),.agg (b.cs.map .p)] (.p (.bool (eqX a b))):=by
 intro N
 induction N with
 |zero=>intro e he;have:=e.sz_eq;omega
 |succ N ih=>
  intro a ha hz b hb
  have c1:=a.cs_eq
  have c2:=b.cs_eq
  have z1:=a.sz_eq
  have z2:=b.sz_eq
  have l1:=aZ a.kids
  have l2:=aZ b.kids
  have hsl:∀l,exL l= .lst 4 (l.map Ex.cs):=λ_=>rfl
  refine AC.go Bz ?_
  by_cases h1:a.op=b.op
  case neg=>
   rw[fO λe=>h1 (by rw[e])]
   simp-implicitDefEqProofs[dU,c1,c2,h1]
  by_cases h2:a.n=b.n
  case neg=>
   rw[fO λe=>h2 (by rw[e])]
   simp-implicitDefEqProofs[dU,c1,c2,h1,h2]
  by_cases h3:a.name=b.name
  case neg=>
   rw[fO λe=>h3 (by rw[e])]
   simp-implicitDefEqProofs[dU,c1,c2,h1,h2,h3]
  by_cases hl:a.kids.length=b.kids.length
  case neg=>
   have hl':¬(a.kids.length:Int)=b.kids.length:=by omega
   rw[fO λe=>hl (by rw[e])]
   simp-implicitDefEqProofs[dU,c1,c2,h1,h2,h3,hsl,hl']
  simp-implicitDefEqProofs[dU,c1,c2,h1,h2,h3,hsl,hl]
  refine aI (λi:Nat=>ah 53 [(2,.ptr 0 4 0 0),(3,.ptr 1 4 0 0),(5,.p (.int .i64 i))]) (λ_=>[.row 4 [[.p (.int .i64 b.op),.p (.int .i64 b.n),.p (.str b.name),.p (.lst 4 (a.kids.map Ex.cs))]],.row 4 [[.p (.int .i64 b.op),.p (.int .i64 b.n),.p (.str b.name),.p (.lst 4 (b.kids.map Ex.cs))]]]) (λi=>i<=a.kids.length/\a.kids.take i=b.kids.take i) (λi=>a.kids.length-i) 0 (by simp) (ab (by simp) (by simp[okO,below]) (by simp[below])) ?_
  rintro i ⟨hi,he⟩
  simp-implicitDefEqProofs[hl]
  refine aT (λh=>?_) (λh=>?_)
  ·simp at h
   have h2':i<a.kids.length:=by omega
   have g1:=Zu h2'
   have g2:=Zu h
   have nx:=jH he h2' h
   have nn:=Hw h2' h
   have s1:=aN (ZD h2')
   have s2:=aN (ZD h)
   generalize a.kids[i]=x at g1 nx nn s1
   generalize b.kids[i]=y at g2 nx nn s2
   simp-implicitDefEqProofs[g1,g2]
   refine(ih x (by omega) (by omega) y (by omega)).use ?_
   by_cases e:x=y
   ·rw[rb e]
    simp-implicitDefEqProofs[]
    exact⟨i+1,⟨by omega,nx e⟩,by omega,ab (by simp) (by simp[okO,below]) (by simp[below,w1 (i:=i) (by omega)])⟩
   ·rw[fO e,fO λe=>nn ‹_› (by rw[e])]
    simp-implicitDefEqProofs[]
  ·simp at h
   have hie:i=a.kids.length:=by omega
   subst hie
   rw[rb (Ex.ext' h1 h2 h3 (mN he hl))]
   simp-implicitDefEqProofs[]
theorem Gv:∀(N:Nat) (a:List Sm),an a<N->an a<=1073741824->∀b:List Sm,an b<=1073741824->VF Tryz.prog G eb [.p (smL a),.p (smL b)] (.p (.bool (eqX a b))):=by
 intro N
 induction N with
 |zero=>intro a ha;omega
 |succ N ih=>
  intro a ha hza b hzb
  have l1:=bC a
  have l2:=bC b
  have hsl:∀l,smL l= .lst 5 (l.map Sm.cs):=λ_=>rfl
  have hxl:∀l,exL l= .lst 4 (l.map Ex.cs):=λ_=>rfl
  refine AC.go vA ?_
  by_cases hl:a.length=b.length
  case neg=>
   have hl':¬(a.length:Int)=b.length:=by omega
   rw[fO λe=>hl (by rw[e])]
   simp-implicitDefEqProofs[jG,hsl,hl']
  simp-implicitDefEqProofs[jG,hsl,hl]
  refine aI (λi:Nat=>ah 111 [(0,.p (smL a)),(1,.p (smL b)),(5,.p (.int .i64 i))]) (λ_=>[]) (λi=>i<=a.length/\a.take i=b.take i) (λi=>a.length-i) 0 (by simp) (bM rfl (by simp[below,hsl])) ?_
  rintro i ⟨hi,he⟩
  simp-implicitDefEqProofs[hsl,hl]
  refine aT (λh=>?_) (λh=>?_)
  case _=>
   simp at h
   have h2:i<a.length:=by omega
   have g1:=Zu h2
   have g2:=Zu h
   have nx:=jH he h2 h
   have nn:=Hw h2 h
   have m1:=cA (ZD h2)
   have m2:=cA (ZD h)
   generalize a[i]=x at g1 nx nn m1
   generalize b[i]=y at g2 nx nn m2
   have c1:=x.cs_eq
   have c2:=y.cs_eq
   have z1:=x.sz_eq
   have z2:=y.sz_eq
   have q1:=aZ x.args
   have q2:=aZ y.args
   by_cases h1:x.op=y.op
   case neg=>
    rw[fO (nn λe=>h1 (by rw[e]))]
    simp-implicitDefEqProofs[g1,g2,c1,c2,h1]
   by_cases h3:x.name=y.name
   case neg=>
    rw[fO (nn λe=>h3 (by rw[e]))]
    simp-implicitDefEqProofs[g1,g2,c1,c2,h1,h3]
   by_cases h4:x.args.length=y.args.length
   case neg=>
    have h4':¬(x.args.length:Int)=y.args.length:=by omega
    rw[fO (nn λe=>h4 (by rw[e]))]
    simp-implicitDefEqProofs[g1,g2,c1,c2,h1,h3,hxl,h4']
   simp-implicitDefEqProofs[g1,g2,c1,c2,h1,h3,hxl,h4]
   refine aI (λj:Nat=>ah 111 [(0,.p (smL a)),(1,.p (smL b)),(5,.p (.int .i64 i)),(6,.p (.int .i64 j))]) (λ_=>[]) (λj=>j<=x.args.length/\x.args.take j=y.args.take j) (λj=>x.args.length-j) 0 (by simp) (bM rfl (by simp[below,hsl])) ?_
   rintro j ⟨hj,hej⟩
   simp-implicitDefEqProofs[hsl,g1,g2,c1,c2,hxl,h4]
   refine aT (λhc=>?_) (λhc=>?_)
   ·simp at hc
    have hc2:j<x.args.length:=by omega
    have a1:=Zu hc2
    have a2:=Zu hc
    have nx2:=jH hej hc2 hc
    have nn2:=Hw hc2 hc
    have u1:=aN (ZD hc2)
    have u2:=aN (ZD hc)
    generalize x.args[j]=v at a1 nx2 nn2 u1
    generalize y.args[j]=w at a2 nx2 nn2 u2
    simp-implicitDefEqProofs[hsl,g1,g2,c1,c2,hxl,a1,a2]
    refine(Jy G v.sz v (ZH _) (by omega) w (by omega)).use ?_
    by_cases e:v=w
    ·rw[rb e]
     simp-implicitDefEqProofs[]
     exact⟨j+1,⟨by omega,nx2 e⟩,by omega,bM rfl (by simp[below,hsl,w1 (i:=j) (by omega)])⟩
    ·rw[fO e,fO (nn λq=>nn2 e (by rw[q]))]
     simp-implicitDefEqProofs[]
   ·simp at hc
    have hje:j=x.args.length:=by omega
    subst hje
    have hA:=mN hej h4
    simp-implicitDefEqProofs[g1,g2,c1,c2]
    refine(ih x.body (by omega) (by omega) y.body (by omega)).use ?_
    by_cases h5:x.body=y.body
    case neg=>
     rw[fO h5,fO (nn λe=>h5 (by rw[e]))]
     simp-implicitDefEqProofs[]
    rw[rb h5]
    simp-implicitDefEqProofs[g1,g2,c1,c2]
    refine(ih x.els (by omega) (by omega) y.els (by omega)).use ?_
    by_cases h6:x.els=y.els
    case neg=>
     rw[fO h6,fO (nn λe=>h6 (by rw[e]))]
     simp-implicitDefEqProofs[]
    rw[rb h6]
    simp-implicitDefEqProofs[]
    exact⟨i+1,⟨by omega,nx (Sm.ext' h1 h3 hA h5 h6)⟩,by omega,bM rfl (by simp[below,hsl,w1 (i:=i) (by omega)])⟩
  case _=>
   simp at h
   have hie:i=a.length:=by omega
   subst hie
   rw[rb (mN he hl)]
   simp-implicitDefEqProofs[]
theorem sx(a b:List Fd)(ha:aH a<=1073741824)(hb:aH b<=1073741824):VF Tryz.prog G eI [.agg [.p (fdL a)],.agg [.p (fdL b)]] (.p (.bool (eqX a b))):=by
 have hll1:=dL a
 have hll2:=dL b
 have hfl:∀l,fdL l= .lst 3 (l.map Fd.cs):=λ_=>rfl
 refine AC.go tt ?_
 by_cases hl:a.length=b.length
 case neg=>
  have hl':¬(a.length:Int)=b.length:=by omega
  rw[fO λe=>hl (by rw[e])]
  simp-implicitDefEqProofs[gS,hfl,hl']
 simp-implicitDefEqProofs[gS,hfl,hl]
 refine aI (λi:Nat=>ah 65 [(2,.ptr 0 1 0 0),(3,.ptr 1 1 0 0),(5,.p (.int .i64 i))]) (λ_=>[.row 1 [[.p (fdL a)]],.row 1 [[.p (fdL b)]]]) (λi=>i<=a.length/\a.take i=b.take i) (λi=>a.length-i) 0 (by simp) (ab (by simp) (by simp[okO,below]) (by simp[below])) ?_
 rintro i ⟨hi,he⟩
 simp-implicitDefEqProofs[hfl,hl]
 refine aT (λh=>?_) (λh=>?_)
 case _=>
  simp at h
  have h2:i<a.length:=by omega
  have g1:=Zu h2
  have g2:=Zu h
  have nx:=jH he h2 h
  have nn:=Hw h2 h
  have m1:=cS (ZD h2)
  have m2:=cS (ZD h)
  generalize a[i]=x at g1 nx nn m1
  generalize b[i]=y at g2 nx nn m2
  have c1:=x.cs_eq'
  have c2:=y.cs_eq'
  have z1:x.sz=1+x.name.length+(x.params.length+(x.params.map List.length).sum)+an x.body:=rfl
  have z2:y.sz=1+y.name.length+(y.params.length+(y.params.map List.length).sum)+an y.body:=rfl
  by_cases h1:x.name=y.name
  case neg=>
   rw[fO (nn λe=>h1 (by rw[e]))]
   simp-implicitDefEqProofs[g1,g2,c1,c2,h1]
  simp-implicitDefEqProofs[g1,g2,c1,c2,h1]
  refine(NJ G x.params y.params (by omega) (by omega)).use ?_
  by_cases h3:x.params=y.params
  case neg=>
   rw[fO h3,fO (nn λe=>h3 (by rw[e]))]
   simp-implicitDefEqProofs[]
  rw[rb h3]
  simp-implicitDefEqProofs[g1,g2,c1,c2]
  refine(Gv G (an x.body+1) x.body (by omega) (by omega) y.body (by omega)).use ?_
  by_cases h4:x.body=y.body
  case neg=>
   rw[fO h4,fO (nn λe=>h4 (by rw[e]))]
   simp-implicitDefEqProofs[]
  rw[rb h4]
  simp-implicitDefEqProofs[]
  exact⟨i+1,⟨by omega,nx (by cases x;cases y;simp only at h1 h3 h4;subst h1 h3 h4;rfl)⟩,by omega,ab (h:=[.row 1 [[.p (fdL a)]],.row 1 [[.p (fdL b)]]]) (by simp) (by simp[okO,below]) (by simp[below,w1 (i:=i) (by omega)])⟩
 case _=>
  simp at h
  have hie:i=a.length:=by omega
  subst hie
  rw[rb (mN he hl)]
  simp-implicitDefEqProofs[]
end
section
def ixI:Option Nat->Int|none=> -1|some i=>i
def vaC(nf:Bool)(id n:Nat):AV:=if nf then .nils else .sl id 3 0 n
def lvC(v:LV):List AV:=[.p (.str v.name),.p (.int .i64 v.num),.p (.int .i64 v.block)]
def lvR(vs:List LV):List (List AV):=vs.reverse.map lvC
def roC(nf:Bool)(vs:List LV):AO:=if nf then .dead else .row 3 (lvR vs)
def wC(id:Nat)(nf:Bool)(fns:List Fd)(k:Nat)(w:WS):List AV:=[.p (fdL fns),.p (.int .i64 k),vaC nf id w.vs.length,.p (.int .i64 w.count),.p (.int .i64 w.code)]
def wO(id:Nat)(nf:Bool)(fns:List Fd)(k:Nat)(w:WS):AO:= .row 5 [wC id nf fns k w]
def HWk(nf:Bool)(fns:List Fd)(k:Nat)(w:WS):List AO:=[wO 1 nf fns k w,roC nf w.vs]
theorem BL(vs:List LV):(lvR vs).length=vs.length:=by simp[lvR]
theorem Is(vs:List LV):∀x∈lvR vs,aj 0 x:=by
 intro x hx;obtain⟨m,_,rfl⟩:=ZN.1 hx;simp[lvC,aj,below]
theorem iF(nf:Bool)(vs:List LV)(n:Nat):okO n (roC nf vs):=by
 cases nf
 ·exact ce (λe he=>Is vs e he)
 ·exact trivial
theorem MG{nf:Bool}{id n m:Nat}(h:id<m):below m (vaC nf id n):=by cases nf<;>simp[vaC,below,h]
theorem Cb{id:Nat}{nf:Bool}{fns:List Fd}{k:Nat}{w:WS}{m:Nat}(h:id<m):aj m (wC id nf fns k w):=⟨by simp,by simp,MG h,by simp,by simp,trivial⟩
theorem AZ{id:Nat}{nf:Bool}{fns:List Fd}{k:Nat}{w:WS}{m:Nat}(h:id<m):okO m (wO id nf fns k w):=by
 intro e he;rw[ZC.1 he];exact Cb h
theorem Ry(σ:List Nat)(nf:Bool)(id n:Nat):ren σ (vaC nf id n)=vaC nf (σ.getD id 0) n:=by cases nf<;>rfl
theorem FX(σ:List Nat)(id:Nat)(nf:Bool)(fns:List Fd)(k:Nat)(w:WS):bm σ (wC id nf fns k w)=wC (σ.getD id 0) nf fns k w:=by
 simp only[wC,bm,Ry];rfl
theorem Ma(σ:List Nat)(id:Nat)(nf:Bool)(fns:List Fd)(k:Nat)(w:WS):iL σ (wO id nf fns k w)=wO (σ.getD id 0) nf fns k w:=by
 simp only[wO,iL,ZT,aaz,FX]
theorem Jc(σ:List Nat)(nf:Bool)(vs:List LV):iL σ (roC nf vs)=roC nf vs:=by
 cases nf
 ·show AO.row 3 ((lvR vs).map (bm σ))= .row 3 (lvR vs)
  rw[ZR (g:=id) λx hx=>dv σ x (Is vs x hx)];simp
 ·rfl
theorem Ld(pre:List LV)(v:LV)(r:List LV):(lvR (pre++v::r))[r.length]?=some (lvC v):=by
 simp[lvR]
theorem Qs(v:LV)(r:List LV):lvR (v::r)=lvR r++[lvC v]:=by simp[lvR]
def AE:List LV->List UInt8->Int
 |[],_=> -1
 |v::r,s=>if v.name=s then r.length else AE r s
theorem AG:∀(vs:List LV) (s:List UInt8),(lkV vs s=none/\AE vs s= -1)\/∃pre v r,vs=pre++v::r/\lkV vs s=some v/\AE vs s=r.length
 |[],s=> .inl ⟨rfl,rfl⟩
 |v::r,s=>by
  by_cases h:v.name=s
  ·exact .inr ⟨[],v,r,rfl,by simp[lkV,h],by simp[AE,h]⟩
  ·have h1:lkV (v::r) s=lkV r s:=by simp[lkV,h]
   have h2:AE (v::r) s=AE r s:=by simp[AE,h]
   rw[h1,h2]
   rcases AG r s with h|⟨pre,u,q,e,h⟩
   ·exact .inl h
   ·exact .inr ⟨v::pre,u,q,by rw[e];rfl,h⟩
theorem yM:AK.whole jx=FK.ak jA:=rfl
variable (G:am)
theorem OH(l:List Fd)(s:List UInt8)(hl:l.length<=1099511627776):VF Tryz.prog G nU [.agg [.p (fdL l)],.p (.str s)] (.p (.int .i64 (ixI (cg l s)))):=by
 refine AC.go GT ?_
 have hfl:∀l,fdL l= .lst 3 (l.map Fd.cs):=λ_=>rfl
 simp-implicitDefEqProofs[AM,hfl]
 refine aI (λi:Nat=>ah 22 [(1,.p (.str s)),(2,.ptr 0 1 0 0),(5,.p (.int .i64 i))]) (λ_=>[.row 1 [[.p (.lst 3 (l.map Fd.cs))]]]) (λi=>i<=l.length/\∀f∈l.take i,f.name≠s) (λi=>l.length-i) 0 (by simp) (ab (by simp) (by simp[okO]) (by simp[below])) ?_
 intro i ⟨hi,hn⟩
 simp-implicitDefEqProofs[]
 refine aT (λh=>?_) (λh=>?_)
 ·simp at h
  have hg:=Zu h
  have hce:l[i].cs=[.str l[i].name,au l[i].params,smL l[i].body]:=rfl
  by_cases he:l[i].name=s
  ·have hf:cg l s=some i:=by
    rw[cg,ZP]
    exact⟨h,by simpa using he,λj hj=>by have:=hn l[j] (List.mem_take_iff_getElem.2 ⟨j,by omega,rfl⟩);simpa using this⟩
   simp-implicitDefEqProofs[hg,hce,he,hf,ixI]
  ·simp-implicitDefEqProofs[hg,hce,he]
   refine⟨i+1,⟨h,λp hp=>?_⟩,by omega,ab (by simp) (by simp[okO]) (by simp[below,w1 (i:=i) (by omega)])⟩
   rw[al h] at hp
   rcases ZB.1 hp with hp|hp
   ·exact hn p hp
   ·rw[ZC.1 hp];exact he
 ·simp at h
  rw[Zz h] at hn
  have hf:cg l s=none:=by
   rw[cg,aaf];intro x hx;simpa using hn x hx
  simp-implicitDefEqProofs[hf,ixI]
theorem Vl:∀m:Nat,m<26->((([97,98,99,100,101,102,103,104,105,106,107,108,109,110,111,112,113,114,115,116,117,118,119,120,121,122]:List UInt8).take (m+1)).drop m)=[UInt8.ofNat (97+m)]:=by decide
theorem Td:∀m:Nat,m<26->List.drop m ((97:UInt8)::List.take m [98,99,100,101,102,103,104,105,106,107,108,109,110,111,112,113,114,115,116,117,118,119,120,121,122])=[97+UInt8.ofNat m]:=by decide
theorem Cf(n:Nat):VF Tryz.prog G kG [.p (.int .i64 n)] (.p (.str (vnm n))):=by
 refine AC.go Ey ?_
 have hm:n%26<26:=Nat.mod_lt _ (by omega)
 have ht:(n:Int).tmod 26=((n%26:Nat):Int):=rfl
 have hw:IntKind.i64.wrap (((n%26:Nat):Int)+1)=((n%26+1:Nat):Int):=w1 (by omega)
 have habc:=Vl _ hm
 rw[vnm]
 generalize n%26=m at hm ht hw habc
 have h0:(0:Int)<=(m:Int)+1:=by omega
 have h1:m+1<=26:=by omega
 simp-implicitDefEqProofs[tT,ht,hw,h0,h1]
 exact⟨by omega,Td m hm⟩
theorem sW(nf:Bool)(fns:List Fd)(k:Nat)(w:WS)(c:Int):AC Tryz.prog G bQ [.ptr 0 5 0 0,.p (.int .i64 c)] (HWk nf fns k w) λx h=>x= .ret (.tup [])/\h=HWk nf fns k ⟨w.vs,w.count,fl w.code c⟩:=by
 refine AC.go uH ?_
 by_cases h0:w.code=0
 ·simp-implicitDefEqProofs[iR,HWk,wO,wC,h0,fl]
 ·simp-implicitDefEqProofs[iR,HWk,wO,wC,h0,fl]
theorem CQ(nf:Bool)(fns:List Fd)(k:Nat)(w:WS):∀o∈HWk nf fns k w,okO 2 o:=by
 intro o ho
 simp only[HWk,ZI,aaa,or_false] at ho
 rcases ho with rfl|rfl
 ·exact AZ (by omega)
 ·exact iF _ _ _
theorem LY(nf:Bool)(fns:List Fd)(k:Nat)(w:WS)(hn:nf=true->w.vs=[])(hl:w.vs.length<=1099511627776)(s:List UInt8):AC Tryz.prog G fk [.ptr 0 5 0 0,.p (.str s)] (HWk nf fns k w) λx h=>x= .ret (.p (.int .i64 (AE w.vs s)))/\h=HWk nf fns k w:=by
 refine AC.go vq ?_
 have hok:=CQ nf fns k w
 cases nf with
 |true=>
  have hv:=hn rfl
  rw[HWk] at hok⊢
  simp-implicitDefEqProofs[iG,wO,wC,vaC,hv]
  refine aI (λ_:Unit=>ah 27 [(0,.ptr 0 5 0 0),(1,.p (.str s)),(5,.p (.int .i64 (-1)))]) (λ_=>[wO 1 true fns k w,roC true w.vs]) (λ_=>True) (λ_=>0) () trivial ?_ ?_
  ·have e:wO 1 true fns k w= .row 5 [[.p (fdL fns),.p (.int .i64 k),.nils,.p (.int .i64 w.count),.p (.int .i64 w.code)]]:=by simp[wO,wC,vaC]
   rw[←e,←hv]
   exact ab (by simp) hok (by simp[below,ae (x:= -1) (by omega) (by omega)])
  ·intro _ _
   simp-implicitDefEqProofs[AE]
   simp[wO,wC,vaC,hv]
 |false=>
  rw[HWk] at hok⊢
  have e:∀r,roC false r= .row 3 (lvR r):=λ_=>rfl
  have hw0:IntKind.i64.wrap ((w.vs.length:Int)-1)=(w.vs.length:Int)-1:=ae (by omega) (by omega)
  simp-implicitDefEqProofs[iG,wO,wC,vaC,hw0]
  refine aI (λr:List LV=>ah 27 [(0,.ptr 0 5 0 0),(1,.p (.str s)),(5,.p (.int .i64 ((r.length:Int)-1)))]) (λ_=>[wO 1 false fns k w,roC false w.vs]) (λr=>∃pre,w.vs=pre++r/\AE w.vs s=AE r s) (λr=>r.length) w.vs ⟨[],rfl,rfl⟩ ?_ ?_
  ·exact ab (h:=[wO 1 false fns k w,roC false w.vs]) (by simp) hok (by simp[below])
  ·rintro r ⟨pre,e1,e2⟩
   cases r with
   |nil=>
    simp-implicitDefEqProofs[wO,wC,vaC]
    rw[e2];rfl
   |cons v r=>
    have hat:=Ld pre v r
    rw[←e1] at hat
    have hlen:r.length<w.vs.length:=by rw[e1];simp;omega
    have hll:=BL w.vs
    have c1:((r.length+1:Nat):Int)-1=(r.length:Int):=by omega
    have hw1:IntKind.i64.wrap ((r.length:Int)-1)=(r.length:Int)-1:=ae (by omega) (by omega)
    by_cases hs:v.name=s
    ·simp-implicitDefEqProofs[wO,wC,vaC,e,c1,hat,hlen,lvC,hs]
     rw[e2];simp[AE,hs]
    ·simp-implicitDefEqProofs[wO,wC,vaC,e,c1,hat,hlen,lvC,hs]
     refine⟨r,⟨⟨pre++[v],by rw[e1];simp⟩,by rw[e2];simp[AE,hs]⟩,by simp,?_⟩
     refine ab (h:=[wO 1 false fns k w,roC false w.vs]) (by simp) hok ?_
     simp[below,hw1]
theorem QK(nf:Bool)(fns:List Fd)(k:Nat)(w:WS)(hn:nf=true->w.vs=[])(hl:w.vs.length<=1099511627776)(s:List UInt8):AC Tryz.prog G fP [.ptr 0 5 0 0,.p (.str s)] (HWk nf fns k w) λx h=>x= .ret (.p (.str (Ck w.vs s)))/\h=HWk nf fns k ⟨w.vs,w.count,rO w.vs s w.code⟩:=by
 refine AC.go yV ?_
 simp-implicitDefEqProofs[nq]
 refine(LY G nf fns k w hn hl s).mono ?_
 rintro r h ⟨rfl,rfl⟩
 rcases AG w.vs s with⟨e1,e2⟩|⟨pre,v,q,e0,e1,e2⟩
 ·simp-implicitDefEqProofs[aa,e2]
  refine(sW G nf fns k w 3).mono ?_
  rintro r h ⟨rfl,rfl⟩
  simp-implicitDefEqProofs[aa,Ck,rO,e1]
 ·have hat:=Ld pre v q
  rw[←e0] at hat
  have hlen:q.length<w.vs.length:=by rw[e0];simp;omega
  have hnf:nf=false:=by
   cases nf with
   |false=>rfl
   |true=>rw[hn rfl] at e0;simp at e0
  subst hnf
  have e:∀r,roC false r= .row 3 (lvR r):=λ_=>rfl
  have hq:¬(q.length:Int)<0:=by omega
  simp-implicitDefEqProofs[aa,e2,hq,HWk,wO,wC,vaC,e,hat,hlen,lvC]
  refine(Cf G v.num).use ?_
  simp-implicitDefEqProofs[Ck,rO,e1]
theorem Qy(nf:Bool)(fns:List Fd)(k:Nat)(w:WS)(hn:nf=true->w.vs=[])(hl:w.vs.length<=1099511627776)(hc:w.count<=1099511627776)(s:List UInt8)(b:Nat):AC Tryz.prog G fM [.ptr 0 5 0 0,.p (.str s),.p (.int .i64 b)] (HWk nf fns k w) λx h=>x= .ret (.p (.str (vnm w.count)))/\h=[wO 2 false fns k (iN w s b),.dead,roC false (iN w s b).vs]:=by
 refine AC.goK vR yM ?_
 have hw1:IntKind.i64.wrap ((w.count:Int)+1)=(w.count:Int)+1:=ae (by omega) (by omega)
 have hw2:IntKind.i64.wrap ((w.count:Int)+1-1)=(w.count:Int):=by rw[ae (by omega) (by omega)];omega
 have hw3:IntKind.i64.wrap (w.count:Int)=(w.count:Int):=ae (by omega) (by omega)
 have hll:=BL w.vs
 simp-implicitDefEqProofs[jx,jA]
 refine(LY G nf fns k w hn hl s).mono ?_
 rintro r h ⟨rfl,rfl⟩
 simp-implicitDefEqProofs[aa]
 refine ja (ah 57 [(0,.ptr 0 5 0 0),(1,.p (.str s)),(2,.p (.int .i64 b))]) (HWk nf fns k ⟨w.vs,w.count,rf w.vs s b w.code⟩) ?_ ?_
 ·rcases AG w.vs s with⟨e1,e2⟩|⟨pre,v,q,e0,e1,e2⟩
  ·simp-implicitDefEqProofs[e2,rf,e1]
   exact ab (by simp[HWk]) (CQ nf fns k w) (by simp[below,HWk])
  ·have hat:=Ld pre v q
   rw[←e0] at hat
   have hlen:q.length<w.vs.length:=by rw[e0];simp;omega
   have hnf:nf=false:=by
    cases nf with
    |false=>rfl
    |true=>rw[hn rfl] at e0;simp at e0
   subst hnf
   have e:∀r,roC false r= .row 3 (lvR r):=λ_=>rfl
   have hq:(0:Int)<=(q.length:Int):=by omega
   by_cases hb:v.block=b
   ·have:=sW G false fns k w 2
    simp only[HWk,wO,wC,vaC,e] at this
    simp-implicitDefEqProofs[e2,HWk,wO,wC,vaC,e,hat,hlen,lvC,hb]
    refine this.mono ?_
    rintro r h ⟨rfl,rfl⟩
    have hp:rf w.vs s b w.code=fl w.code 2:=by simp[rf,e1,hb]
    rw[hp]
    simp-implicitDefEqProofs[aa]
    refine ab (h:=HWk false fns k ⟨w.vs,w.count,fl w.code 2⟩) ?_ (CQ _ _ _ _) ?_
    ·simp[HWk]
    ·simp[below,HWk]
   ·have hp:rf w.vs s b w.code=w.code:=by simp[rf,e1,hb]
    have hbi:¬(v.block:Int)=(b:Int):=by omega
    rw[hp]
    simp-implicitDefEqProofs[e2,HWk,wO,wC,vaC,e,hat,hlen,lvC,hbi]
    refine ab (h:=HWk false fns k w) ?_ (CQ _ _ _ _) ?_
    ·simp[HWk]
    ·simp[below,HWk]
 ·cases nf with
  |true=>
   have hv:=hn rfl
   simp-implicitDefEqProofs[HWk,wO,wC,vaC,roC,hv,hw1,hw2,hw3]
   refine(Cf G w.count).use ?_
   simp-implicitDefEqProofs[iN,lvR,lvC,hv]
  |false=>
   have e:∀r,roC false r= .row 3 (lvR r):=λ_=>rfl
   simp-implicitDefEqProofs[HWk,wO,wC,vaC,e,hw1,hw2,hw3,hll]
   refine⟨by omega,?_⟩
   refine(Cf G w.count).use ?_
   simp-implicitDefEqProofs[iN,Qs,lvC]
   rw[Zz (by omega)]
end
section
theorem uI:AK.whole iO=FK.ak iH:=rfl
variable (G:am)
theorem Ih{f:FuncId}{args:List AV}{nf:Bool}{fns:List Fd}{k:Nat}{w w':WS}{v:AV}(H:AC Tryz.prog G f args (HWk nf fns k w) λx h=>x= .ret v/\h=HWk nf fns k w')(rest:List AO)(ha:aj 2 args):
 AC Tryz.prog G f args (wO 1 nf fns k w::roC nf w.vs::rest) λx h=>x= .ret v/\h=wO 1 nf fns k w'::roC nf w'.vs::rest:=by
 refine(AC.pre H rest ha (CQ _ _ _ _) ?_).mono ?_
 ·rintro x h ⟨_,rfl⟩;rfl
 ·rintro x h ⟨h1,⟨rfl,rfl⟩,rfl⟩
  exact⟨rfl,rfl⟩
theorem zk{n id:Nat}(hn:id<n){nf nf':Bool}{fns:List Fd}{k:Nat}{w:WS}{vs:List LV}{l:List AO}(r:∀o∈l,okO n o):∀o∈wO id nf fns k w::roC nf' vs::l,okO n o:=ag (AZ hn) (ag (iF _ _ _) r)
theorem Cu{ρ π:List Nat}{h r1:List AO}{i id:Nat}{nf:Bool}{fns:List Fd}{k:Nat}{w:WS}(hid:id<ρ.length)(e:h[i]?=some (wO (ρ.getD id 0) nf fns k w))(hr:HW ρ h π r1):HW ρ h (i::π) (wO id nf fns k w::r1):=by
 refine bN (es:=[wC id nf fns k w]) (λx hx=>?_) ?_ hr
 ·rw[ZC.1 hx];exact Cb hid
 ·rw[e,ZT,aaz,FX];rfl
theorem Mw{α:Type}{l:List α}{i j:Nat}{a b:α}(hij:i≠j)(h:l[j]?=some b):(l.set i a).set j b=l.set i a:=by
 apply List.ext_getElem?
 intro n
 rw[List.getElem?_set]
 split
 ·rename_i e
  subst e
  rw[Zx hij,h]
  rw[if_pos (by rw[aag];exact(Zt.1 h).1)]
 ·rfl
theorem Gt(ρ:List Nat):∀l:List AV,aj 0 l->TW ρ l l
 |[],_=>by simp
 |v::r,h=>by
  rw[BX]
  refine⟨.inr ⟨(aL (Nat.zero_le _) [v] ⟨h.1,trivial⟩).1,?_⟩,Gt ρ r h.2⟩
  have:=dv ρ [v] ⟨h.1,trivial⟩
  simpa[bm] using this
theorem WO{h:List AO}{wid id:Nat}{nf:Bool}{fns:List Fd}{k:Nat}{w:WS}(e0:h[wid]?=some (wO id nf fns k w))(e1:h[id]?=some (roC nf w.vs)):HW [wid,id] h [wid,id] (HWk nf fns k w):=by
 refine bN (es:=[wC 1 nf fns k w]) (λx hx=>?_) ?_ ?_
 ·rw[ZC.1 hx];exact Cb (by simp)
 ·rw[e0,ZT,aaz,FX];rfl
 ·exact bV e1 (iF _ _ _) aU
theorem Up{f:FuncId}{args:List AV}{nf:Bool}{fns:List Fd}{k:Nat}{w:WS}{v:AV}{c:Int}(H:AC Tryz.prog G f (.ptr 0 5 0 0::args) (HWk nf fns k w) λx h=>x= .ret v/\h=HWk nf fns k ⟨w.vs,w.count,c⟩)(ha:aj 0 args)(hv:below 0 v)
 {h:List AO}{wid id:Nat}(hid:wid≠id)(e0:h[wid]?=some (wO id nf fns k w))(e1:h[id]?=some (roC nf w.vs)):
 AC Tryz.prog G f (.ptr wid 5 0 0::args) h λx h'=>x= .ret v/\h'=h.set wid (wO id nf fns k ⟨w.vs,w.count,c⟩):=by
 refine(H.frame [wid,id] (by simp[hid]) ?_ (WO e0 e1)).mono ?_
 ·rw[BX];exact⟨.inr ⟨by simp[below],rfl⟩,Gt _ _ ha⟩
 ·rintro x h' ⟨x0,h0,⟨rfl,rfl⟩,_,rfl,rfl⟩
  refine⟨?_,?_⟩
  ·have:=dv ([wid,id]++List.range' h.length ((HWk nf fns k ⟨w.vs,w.count,c⟩).length-(HWk nf fns k w).length)) [v] ⟨hv,trivial⟩
   simp only[bm] at this
   simp only[Dl]
   exact congrArg ARes.ret (List.cons.inj this).1
  ·simp only[HWk,ZO,aay,Nat.sub_self,List.range'_zero,aar,List.take_succ_cons,List.take_zero,ZT,aaz,List.drop_succ_cons,List.drop_zero,Ma,Jc,mrg]
   exact Mw hid e1
theorem OY{f:FuncId}{args:List AV}{nf:Bool}{fns:List Fd}{k:Nat}{w:WS}{v:AV}{Q:Bool->WS->Prop}(H:AC Tryz.prog G f (.ptr 0 5 0 0::args) (HWk nf fns k w) λx h=>∃nf' w',x= .ret v/\h=[wO 2 nf' fns k w',.dead,roC nf' w'.vs]/\Q nf' w')(ha:aj 0 args)(hv:below 0 v)
 {h:List AO}{wid id:Nat}(hid:wid≠id)(e0:h[wid]?=some (wO id nf fns k w))(e1:h[id]?=some (roC nf w.vs)):
 AC Tryz.prog G f (.ptr wid 5 0 0::args) h λx h'=>∃nf' w',x= .ret v/\h'=(h.set wid (wO h.length nf' fns k w')).set id .dead++[roC nf' w'.vs]/\Q nf' w':=by
 refine(H.frame [wid,id] (by simp[hid]) ?_ (WO e0 e1)).mono ?_
 ·rw[BX];exact⟨.inr ⟨by simp[below],rfl⟩,Gt _ _ ha⟩
 ·rintro x h' ⟨x0,h0,⟨nf',w',rfl,rfl,q⟩,_,rfl,rfl⟩
  refine⟨nf',w',?_,?_,q⟩
  ·have:=dv ([wid,id]++List.range' h.length ([wO 2 nf' fns k w',.dead,roC nf' w'.vs].length-(HWk nf fns k w).length)) [v] ⟨hv,trivial⟩
   simp only[bm] at this
   simp only[Dl]
   exact congrArg ARes.ret (List.cons.inj this).1
  ·simp only[HWk,ZO,aay,List.take_succ_cons,List.take_zero,ZT,aaz,List.drop_succ_cons,List.drop_zero,Ma,Jc,mrg]
   rfl
theorem Fq(fns:List Fd)(k:Nat)(vs:List LV):∀(a b:List Ex) (c:Int),bp fns k vs (a++b) c=bp fns k vs b (bp fns k vs a c)
 |[],b,c=>rfl
 |e::r,b,c=>by rw[aac,bp,bp,Fq fns k vs r]
theorem zh(vs:List LV):∀l:List Ex,mV vs l=l.map (rnE vs)
 |[]=>rfl
 |e::r=>by rw[mV,zh vs r];rfl
theorem Ci{fns:List Fd}{k:Nat}{vs:List LV}{l:List Ex}{c:Int}{i:Nat}(h:i<l.length):bp fns k vs (l.take (i+1)) c=jJ fns k vs l[i] (bp fns k vs (l.take i) c):=by
 rw[al h,Fq];rfl
theorem Ft{vs:List LV}{l:List Ex}{i:Nat}(h:i<l.length):mV vs (l.take (i+1))=mV vs (l.take i)++[rnE vs l[i]]:=by
 rw[zh,zh,al h,List.map_append];rfl
theorem zu(vs:List LV)(l:List Ex):(mV vs l).length=l.length:=by rw[zh,ZU]
theorem BQ(l:List Ex):(exR l).length=l.length:=by simp[exR]
theorem BU(a b:List Ex):exR (a++b)=exR a++exR b:=by simp[exR]
theorem vI{h:List AO}{id:Nat}{l:List Ex}(e:h[id]?=some (.row 4 (exR l))):View h (.sl id 4 0 l.length) (exL l):=by
 have:=gm (h:=h) (id:=id) (sz:=4) (n:=l.length) (ls:=l.map Ex.cs) (by rw[e,exR];simp) (by simp) (λx hx=>by obtain⟨b,_,rfl⟩:=ZN.1 hx;exact b.cs_len)
 exact this
theorem ST{fns:List Fd}{s:List UInt8}{j:Nat}(h:cg fns s=some j):j<fns.length:=by
 rw[cg,ZP] at h;exact h.1
theorem SC{fns:List Fd}{k:Nat}(hf:fns.length<=1099511627776):∀(N:Nat) (e:Ex),e.sz<=N->N<=1099511627776->∀(nf:Bool) (w:WS),(nf=true->w.vs=[])->w.vs.length<=1099511627776->
 AC Tryz.prog G dF [.ptr 0 5 0 0,.agg (e.cs.map .p)] (HWk nf fns k w) λx h=>x= .ret (.agg ((rnE w.vs e).cs.map .p))/\h=HWk nf fns k ⟨w.vs,w.count,jJ fns k w.vs e w.code⟩:=by
 intro N
 induction N with
 |zero=>intro e he;have:=e.sz_eq;omega
 |succ N ih=>
  intro e he hN nf w hn hl
  have hec:=e.cs_eq
  have hsz:=e.sz_eq
  have hkl:=aZ e.kids
  have hre:(rnE w.vs e).cs=[.int .i64 e.op,.int .i64 e.n,.str (if e.op=2 then Ck w.vs e.name else e.name),exL (mV w.vs e.kids)]:=by
   obtain⟨o,n,s,ks⟩:=e;rw[rnE,Ex.cs_eq];rfl
  have hce:jJ fns k w.vs e w.code=bp fns k w.vs e.kids (im fns k w.vs e.op e.name e.kids.length w.code):=by
   obtain⟨o,n,s,ks⟩:=e;rfl
  have main:AC Tryz.prog G dF [.ptr 0 5 0 0,.agg (e.cs.map .p)] (HWk nf fns k w) λx h=>∃E1 E2,x= .ret (.agg [.p (.int .i64 e.op),.p (.int .i64 e.n),.p (.str (if e.op=2 then Ck w.vs e.name else e.name)),.sl 4 4 0 e.kids.length])/\
   h=[wO 1 nf fns k ⟨w.vs,w.count,jJ fns k w.vs e w.code⟩,roC nf w.vs,E1,E2,.row 4 (exR (mV w.vs e.kids))]:=by
   refine AC.goK uL uI ?_
   simp-implicitDefEqProofs[iO,iH,HWk,hec]
   refine ja (ah 75 [(0,.ptr 0 5 0 0),(3,.ptr 2 4 0 0),(4,.ptr 3 4 0 0)]) [wO 1 nf fns k ⟨w.vs,w.count,if e.op=2 then rO w.vs e.name w.code else w.code⟩,roC nf w.vs,.row 4 [[.p (.int .i64 e.op),.p (.int .i64 e.n),.p (.str (if e.op=2 then Ck w.vs e.name else e.name)),.p (exL e.kids)]],.row 4 [[.p (.int .i64 0),.p (.int .i64 0),.p (.str []),.nils]]] ?_ ?_
   ·by_cases o2:e.op=2
    ·simp-implicitDefEqProofs[o2]
     refine(Ih G (QK G nf fns k w hn hl e.name) _ (by simp[below])).mono ?_
     rintro r h ⟨rfl,rfl⟩
     simp-implicitDefEqProofs[aa]
     exact ab (by simp) (zk (by simp) (by simp[okO,below])) (by simp[below])
    ·simp-implicitDefEqProofs[o2]
     exact ab (by simp) (zk (by simp) (by simp[okO,below])) (by simp[below])
   refine ja (ah 75 [(0,.ptr 0 5 0 0),(3,.ptr 2 4 0 0),(4,.ptr 3 4 0 0)]) [wO 1 nf fns k ⟨w.vs,w.count,im fns k w.vs e.op e.name e.kids.length w.code⟩,roC nf w.vs,.row 4 [[.p (.int .i64 e.op),.p (.int .i64 e.n),.p (.str (if e.op=2 then Ck w.vs e.name else e.name)),.p (exL e.kids)]],.row 4 [[.p (.int .i64 0),.p (.int .i64 0),.p (.str []),.nils]]] ?_ ?_
   ·by_cases o13:e.op=13
    ·have hhd:im fns k w.vs e.op e.name e.kids.length w.code=mY fns k e.name e.kids.length w.code:=by simp[im,o13]
     rw[hhd]
     simp-implicitDefEqProofs[o13,wO,wC]
     refine(OH G fns e.name hf).use ?_
     have fin:∀c:Int,Wk 2 (ah 75 [(0,.ptr 0 5 0 0),(3,.ptr 2 4 0 0),(4,.ptr 3 4 0 0)]) [wO 1 nf fns k ⟨w.vs,w.count,c⟩,roC nf w.vs,.row 4 [[.p (.int .i64 13),.p (.int .i64 e.n),.p (.str e.name),.p (exL e.kids)]],.row 4 [[.p (.int .i64 0),.p (.int .i64 0),.p (.str []),.nils]]] (ah 75 [(0,.ptr 0 5 0 0),(3,.ptr 2 4 0 0),(4,.ptr 3 4 0 0)]) [wO 1 nf fns k ⟨w.vs,w.count,c⟩,roC nf w.vs,.row 4 [[.p (.int .i64 13),.p (.int .i64 e.n),.p (.str e.name),.p (exL e.kids)]],.row 4 [[.p (.int .i64 0),.p (.int .i64 0),.p (.str []),.nils]]]:=λc=>
      ab (by simp) (zk (by simp) (by simp[okO,below])) (by simp[below])
     cases hfa:cg fns e.name with
     |none=>
      simp-implicitDefEqProofs[ixI,mY,hfa]
      refine(Ih G (sW G nf fns k w 4) _ (by simp[below])).mono ?_
      rintro r h ⟨rfl,rfl⟩
      simp-implicitDefEqProofs[aa]
      exact ab (h:=[wO 1 nf fns k ⟨w.vs,w.count,fl w.code 4⟩,roC nf w.vs,.row 4 [[.p (.int .i64 13),.p (.int .i64 e.n),.p (.str e.name),.p (exL e.kids)]],.row 4 [[.p (.int .i64 0),.p (.int .i64 0),.p (.str []),.nils]]]) (by simp) (zk (by simp) (by simp[okO,below])) (by simp[below])
     |some j=>
      have hj:=ST hfa
      have hg:=Zu hj
      have hjn:¬(j:Int)<0:=by omega
      by_cases hkj:k<=j
      ·have hkj':(k:Int)<=(j:Int):=by omega
       simp-implicitDefEqProofs[ixI,mY,hfa,hkj,hkj',hjn]
       refine(Ih G (sW G nf fns k w 4) _ (by simp[below])).mono ?_
       rintro r h ⟨rfl,rfl⟩
       simp-implicitDefEqProofs[aa]
       exact ab (h:=[wO 1 nf fns k ⟨w.vs,w.count,fl w.code 4⟩,roC nf w.vs,.row 4 [[.p (.int .i64 13),.p (.int .i64 e.n),.p (.str e.name),.p (exL e.kids)]],.row 4 [[.p (.int .i64 0),.p (.int .i64 0),.p (.str []),.nils]]]) (by simp) (zk (by simp) (by simp[okO,below])) (by simp[below])
      ·have hkj':¬(k:Int)<=(j:Int):=by omega
       have hfl:fdL fns= .lst 3 (fns.map Fd.cs):=rfl
       have hcs:fns[j].cs=[.str fns[j].name,au fns[j].params,smL fns[j].body]:=rfl
       have hst:au fns[j].params= .lst 1 (fns[j].params.map λw=>[.str w]):=rfl
       have hxl:∀l,exL l= .lst 4 (l.map Ex.cs):=λ_=>rfl
       have hpn:Bs fns j=fns[j].params.length:=by simp[Bs,hg]
       by_cases hp:fns[j].params.length=e.kids.length
       ·have hcc:mY fns k e.name e.kids.length w.code=w.code:=by simp[mY,hfa,hkj,hpn,hp]
        rw[hcc]
        simp-implicitDefEqProofs[ixI,hkj',hjn,hfl,hg,hcs,hst,hxl,hp]
        exact ab (h:=[wO 1 nf fns k w,roC nf w.vs,.row 4 [[.p (.int .i64 13),.p (.int .i64 e.n),.p (.str e.name),.p (exL e.kids)]],.row 4 [[.p (.int .i64 0),.p (.int .i64 0),.p (.str []),.nils]]]) (by simp) (zk (by simp) (by simp[okO,below])) (by simp[below])
       ·have hcc:mY fns k e.name e.kids.length w.code=fl w.code 5:=by simp[mY,hfa,hkj,hpn,hp]
        have hp':¬(fns[j].params.length:Int)=(e.kids.length:Int):=by omega
        rw[hcc]
        simp-implicitDefEqProofs[ixI,hkj',hjn,hfl,hg,hcs,hst,hxl,hp']
        refine(Ih G (sW G nf fns k w 5) _ (by simp[below])).mono ?_
        rintro r h ⟨rfl,rfl⟩
        simp-implicitDefEqProofs[aa]
        exact ab (h:=[wO 1 nf fns k ⟨w.vs,w.count,fl w.code 5⟩,roC nf w.vs,.row 4 [[.p (.int .i64 13),.p (.int .i64 e.n),.p (.str e.name),.p (exL e.kids)]],.row 4 [[.p (.int .i64 0),.p (.int .i64 0),.p (.str []),.nils]]]) (by simp) (zk (by simp) (by simp[okO,below])) (by simp[below])
    ·have hhd:im fns k w.vs e.op e.name e.kids.length w.code=if e.op=2 then rO w.vs e.name w.code else w.code:=by simp[im,o13]
     rw[hhd]
     simp-implicitDefEqProofs[o13]
     exact ab (by simp) (zk (by simp) (by simp[okO,below])) (by simp[below])
   rw[hce]
   generalize im fns k w.vs e.op e.name e.kids.length w.code=c2
   generalize (if e.op=2 then Ck w.vs e.name else e.name)=s1
   have hxl:exL e.kids= .lst 4 (e.kids.map Ex.cs):=rfl
   simp-implicitDefEqProofs[]
   refine aI (λi:Nat=>ah 75 [(0,.ptr 0 5 0 0),(3,.ptr 2 4 0 0),(4,.ptr 3 4 0 0),(6,.sl 4 4 0 i),(7,.p (.int .i64 i))])
    (λi=>[wO 1 nf fns k ⟨w.vs,w.count,bp fns k w.vs (e.kids.take i) c2⟩,roC nf w.vs,.row 4 [[.p (.int .i64 e.op),.p (.int .i64 e.n),.p (.str s1),.p (exL e.kids)]],.row 4 [[.p (.int .i64 0),.p (.int .i64 0),.p (.str []),.nils]],.row 4 (exR (mV w.vs (e.kids.take i)))])
    (λi=>i<=e.kids.length) (λi=>e.kids.length-i) 0 (by simp) ?_ ?_
   ·exact ab (by simp) (zk (by simp) (by simp[okO,below])) (by simp[below])
   ·intro i hi
    have hrl:(exR (mV w.vs (e.kids.take i))).length=i:=by rw[BQ,zu];simp;omega
    simp-implicitDefEqProofs[hxl]
    refine aT (λh=>?_) (λh=>?_)
    ·simp at h
     have hg:=Zu h
     have hks:=aN (ZD h)
     have hkc:=(rnE w.vs e.kids[i]).cs_eq
     simp-implicitDefEqProofs[hg]
     refine(Ih G (ih e.kids[i] (by omega) (by omega) nf ⟨w.vs,w.count,bp fns k w.vs (e.kids.take i) c2⟩ hn hl) _ (by simp[below])).mono ?_
     rintro r h ⟨rfl,rfl⟩
     rw[show(rnE (WS.mk w.vs w.count (bp fns k w.vs (e.kids.take i) c2)).vs e.kids[i])=rnE w.vs e.kids[i] from rfl]
     simp-implicitDefEqProofs[aa,hkc,hrl]
     refine⟨by omega,?_⟩
     refine⟨i+1,by omega,by omega,?_⟩
     have htk:List.take i (exR (mV w.vs (e.kids.take i)))=exR (mV w.vs (e.kids.take i)):=Zz (by omega)
     rw[Ci h,Ft h,BU,htk]
     refine ck [0,1,2,3,6] (by simp) (by decide) (by decide) (Cu (by simp) rfl (bV rfl (iF _ _ _) (az rfl (by simp[below]) (az rfl (by simp[below]) (az ?_ ?_ aU))))) (by simp[below,ren,w1 (i:=i) (by omega)])
     ·have:exR [rnE w.vs e.kids[i]]=[[.p (.int .i64 (rnE w.vs e.kids[i]).op),.p (.int .i64 (rnE w.vs e.kids[i]).n),.p (.str (rnE w.vs e.kids[i]).name),.p (exL (rnE w.vs e.kids[i]).kids)]]:=by rw[exR,aap,hkc];rfl
      rw[this];rfl
     ·intro x hx
      rcases ZB.1 hx with h|h
      ·exact dK _ x h
      ·exact dK _ x h
    ·simp at h
     have hie:i=e.kids.length:=by omega
     subst hie
     simp-implicitDefEqProofs[]
  refine main.frz 2 (by simp[HWk]) (λt v h ⟨_,_,e,_⟩=>by cases e) ?_
  rintro v h ⟨E1,E2,e,rfl⟩
  cases e
  refine⟨_,HWk nf fns k ⟨w.vs,w.count,jJ fns k w.vs e w.code⟩,by simp,rfl,.agg ?_ .nil,.same (AZ (by omega)) (.same (iF _ _ _) (.nil _)),rfl,rfl⟩
  rw[hre]
  have hrl:=zu w.vs e.kids
  rw[←hrl]
  exact .keep (by simp) (.keep (by simp) (.keep (by simp) (.one (vI rfl) .nil)))
end
section
theorem tx:AK.whole gM=FK.ak gP:=rfl
theorem Ip(fns:List Fd)(k b:Nat):∀(x y:List Sm) (w:WS),bJ fns k b (x++y) w=bJ fns k b y (bJ fns k b x w)
 |[],y,w=>rfl
 |s::r,y,w=>by rw[aac,bJ,bJ,Ip fns k b r]
theorem Jj(fns:List Fd)(k b:Nat):∀(x y:List Sm) (w:WS),jQ fns k b (x++y) w=jQ fns k b x w++jQ fns k b y (bJ fns k b x w)
 |[],y,w=>rfl
 |s::r,y,w=>by rw[aac,jQ,jQ,Jj fns k b r];rfl
theorem NF{fns:List Fd}{k b:Nat}{l:List Sm}{w:WS}{i:Nat}(h:i<l.length):bJ fns k b (l.take (i+1)) w=stW fns k b l[i] (bJ fns k b (l.take i) w):=by
 rw[al h,Ip];rfl
theorem MX{fns:List Fd}{k b:Nat}{l:List Sm}{w:WS}{i:Nat}(h:i<l.length):jQ fns k b (l.take (i+1)) w=jQ fns k b (l.take i) w++[rnS fns k b l[i] (bJ fns k b (l.take i) w)]:=by
 rw[al h,Jj];rfl
theorem DD(fns:List Fd)(k b:Nat):∀(l:List Sm) (w:WS),(jQ fns k b l w).length=l.length
 |[],w=>rfl
 |s::r,w=>by rw[jQ,ZO,DD fns k b r,ZO]
theorem Gs{l:List Sm}{i:Nat}(h:i<l.length):an (l.take i)+l[i].sz<=an l:=by
 have e:l=l.take i++l[i]::l.drop (i+1):=by rw[←aas h,aab]
 have h2:an l=an (l.take i)+(l[i].sz+an (l.drop (i+1))):=by
  conv=>lhs;rw[e]
  rw[bu];rfl
 omega
def vp(fns:List Fd)(k b:Nat)(l:List Sm)(w:WS):WS:=if 0<b then(bJ fns k b l w).back w.vs else bJ fns k b l w
theorem JH(fns:List Fd)(k b:Nat)(l:List Sm)(w:WS):(vp fns k b l w).count=w.count+uw l:=by
 unfold vp
 split
 ·exact kj fns k l b w
 ·exact kj fns k l b w
theorem Qn{e vs:List LV}:(lvR (e++vs)).take vs.length=lvR vs:=by
 have h:lvR (e++vs)=lvR vs++lvR e:=by simp[lvR]
 rw[h,List.take_append_of_le_length (by rw[BL];exact ZH _),Zz (by rw[BL];exact ZH _)]
theorem ET(l:List Sm):uw l<=an l:=ZQ (zg l) (tj l)
theorem Kg(nf:Bool)(id n:Nat):(vaC nf id n).isCell=true:=by cases nf<;>rfl
theorem NN(nf:Bool)(id n:Nat):(vaC nf id n).cells=[vaC nf id n]:=by cases nf<;>rfl
attribute [simp ↓] Kg NN
variable (G:am)
def StP(fns:List Fd)(k b:Nat)(l:List Sm)(w:WS)(x:ARes)(h:List AO):Prop:=∃nf' w',x= .ret (.p (smL (jQ fns k b l w)))/\h=[wO 2 nf' fns k w',.dead,roC nf' w'.vs]/\(nf'=true->w'.vs=[])/\w'=vp fns k b l w
structure StS where (i:Nat) (nf:Bool)
theorem Oe{fns:List Fd}{k:Nat}(hf:fns.length<=1099511627776):∀(N:Nat) (l:List Sm),an l<N->∀(b:Nat) (nf:Bool) (w:WS),(nf=true->w.vs=[])->w.vs.length<=w.count->w.count+an l<=1099511627776->b+an l<=1099511627776->
 AC Tryz.prog G dg [.ptr 0 5 0 0,.p (smL l),.p (.int .i64 b)] (HWk nf fns k w) (StP fns k b l w):=by
 intro N
 induction N with
 |zero=>
  intro l hl b nf w hn hv hc hb
  omega
 |succ N ih=>
  intro l hl b nf w hn hv hc hb
  have hll:=bC l
  refine AC.goK ty tx ?_
  have hsl:∀l,smL l= .lst 5 (l.map Sm.cs):=λ_=>rfl
  have hlen0:Hz (vaC nf 1 w.vs.length)=some (.p (.int .i64 w.vs.length)):=by
   cases nf
   ·rfl
   ·simp[vaC,hn rfl]
  simp-implicitDefEqProofs[gM,gP,HWk,wO,wC,hlen0]
  refine aI (λs:StS=>ah 96 [(0,.ptr 0 5 0 0),(1,.p (smL l)),(2,.p (.int .i64 b)),(7,.sl 2 5 0 s.i),(8,.p (.int .i64 w.vs.length)),(9,.p (.int .i64 s.i))])
   (λs=>[wO 3 s.nf fns k (bJ fns k b (l.take s.i) w),.dead,.row 5 (smR (jQ fns k b (l.take s.i) w)),roC s.nf (bJ fns k b (l.take s.i) w).vs])
   (λs=>s.i<=l.length/\(s.nf=true->(bJ fns k b (l.take s.i) w).vs=[])) (λs=>l.length-s.i) ⟨0,nf⟩ ⟨by simp,hn⟩ ?_ ?_
  ·refine LH [0,1,2,1] (by simp) (by decide) ?_ (Cu (by simp) rfl (fQ (by simp) (az rfl (by simp[smR,jQ]) (bV rfl (iF _ _ _) aU)))) (by simp[below,ren])
   cases nf<;>simp[lg,roC,wO,bJ]
  ·rintro⟨i,nf⟩ ⟨hi,hn⟩
   simp only at hi hn
   simp-implicitDefEqProofs[hsl]
   refine aT (λh=>?_) (λh=>?_)
   ·simp at h
    have hg:=Zu h
    have hat:=Gs h
    have hse:=l[i].cs_eq
    have hsz:=l[i].sz_eq
    have hle:=LI fns k (l:=l.take i) (b:=b) hv
    have hcn:=kj fns k (l.take i) b w
    have hlz:=ET (l.take i)
    have eW:=NF (fns:=fns) (k:=k) (b:=b) (w:=w) h
    have eR:=MX (fns:=fns) (k:=k) (b:=b) (w:=w) h
    have hol:=DD fns k b (l.take i) w
    rw[ZS,Nat.min_eq_left hi] at hol
    generalize l[i]=s at hg hat hse hsz eW eR
    generalize bJ fns k b (l.take i) w=wi at hn hle hcn eW eR⊢
    generalize jQ fns k b (l.take i) w=out at hol eR⊢
    obtain⟨o,nme,a,bd,el⟩:=s
    simp only[Sm.op,Sm.name,Sm.args,Sm.body,Sm.els] at hse hsz
    simp-implicitDefEqProofs[hg,hse]
    have hxl:∀l,exL l= .lst 4 (l.map Ex.cs):=λ_=>rfl
    have hal:=aZ a
    have hlE:=ET bd
    have hwl:wi.vs.length<=1099511627776:=by omega
    have hopR:∀(x y z u v:AV),aj 0 [x,y,z,u,v]->okO 5 (AO.row 5 [[x,y,z,u,v]]):=λx y z u v hh=>ce (λe he=>by rw[ZC.1 he];exact hh)
    refine aI (λj:Nat=>ah 96 [(0,.ptr 0 5 0 0),(1,.p (smL l)),(2,.p (.int .i64 b)),(7,.sl 2 5 0 i),(8,.p (.int .i64 w.vs.length)),(9,.p (.int .i64 i)),(10,.ptr 4 5 0 0),(11,.sl 5 4 0 j),(12,.p (.int .i64 j))])
     (λj=>[wO 3 nf fns k ⟨wi.vs,wi.count,bp fns k wi.vs (a.take j) wi.code⟩,.dead,.row 5 (smR out),roC nf wi.vs,.row 5 [[.p (.int .i64 o),.p (.str nme),.p (exL a),.p (smL bd),.p (smL el)]],.row 4 (exR (mV wi.vs (a.take j)))])
     (λj=>j<=a.length) (λj=>a.length-j) 0 (by simp) ?_ ?_
    ·refine ab (h:=[wO 3 nf fns k wi,.dead,.row 5 (smR out),roC nf wi.vs,.row 5 [[.p (.int .i64 o),.p (.str nme),.p (exL a),.p (smL bd),.p (smL el)]],.row 4 []]) (by simp) (ag (AZ (by simp)) (ag trivial (ag (ce (aY out)) (ag (iF _ _ _) (by simp[okO,below]))))) (by simp[below,hsl])
    intro j hj
    have hrl:(exR (mV wi.vs (a.take j))).length=j:=by rw[BQ,zu];simp;omega
    simp-implicitDefEqProofs[hxl]
    refine aT (λhc=>?_) (λhc=>?_)
    ·simp at hc
     have hga:=Zu hc
     have hks:=aN (ZD hc)
     have hkc:=(rnE wi.vs a[j]).cs_eq
     simp-implicitDefEqProofs[hga]
     refine(Up G (id:=3) (SC G hf (a[j].sz) a[j] (ZH _) (by omega) nf ⟨wi.vs,wi.count,bp fns k wi.vs (a.take j) wi.code⟩ hn hwl) (by simp) (by simp[below]) (by decide) rfl rfl).mono ?_
     rintro r h' ⟨rfl,rfl⟩
     rw[show(rnE (WS.mk wi.vs wi.count (bp fns k wi.vs (a.take j) wi.code)).vs a[j])=rnE wi.vs a[j] from rfl]
     simp-implicitDefEqProofs[aa,hkc,hrl]
     refine⟨by omega,j+1,by omega,by omega,?_⟩
     have htk:List.take j (exR (mV wi.vs (a.take j)))=exR (mV wi.vs (a.take j)):=Zz (by omega)
     rw[Ci hc,Ft hc,BU,htk]
     refine ck [0,1,2,3,4,7] (by simp) (by decide) (by decide) (Cu (by simp) rfl (fQ (by simp) (az rfl (aY out) (bV rfl (iF _ _ _) (az rfl (by simp[below]) (az ?_ ?_ aU)))))) (by simp[below,ren,hsl,w1 (i:=j) (by omega)])
     ·have:exR [rnE wi.vs a[j]]=[[.p (.int .i64 (rnE wi.vs a[j]).op),.p (.int .i64 (rnE wi.vs a[j]).n),.p (.str (rnE wi.vs a[j]).name),.p (exL (rnE wi.vs a[j]).kids)]]:=by rw[exR,aap,hkc];rfl
      rw[this];rfl
     ·intro x hx
      rcases ZB.1 hx with h|h
      ·exact dK _ x h
      ·exact dK _ x h
    simp at hc
    have hje:j=a.length:=by omega
    subst hje
    rw[aad] at hrl⊢
    have hal2:=zu wi.vs a
    simp-implicitDefEqProofs[]
    generalize hw1:WS.mk wi.vs wi.count (bp fns k wi.vs a wi.code)=w1
    have e1v:w1.vs=wi.vs:=by rw[←hw1]
    have e1c:w1.count=wi.count:=by rw[←hw1]
    have e1l:w1.vs.length=wi.vs.length:=by rw[e1v]
    rw[←e1v]
    refine ja (ah 96 [(0,.ptr 0 5 0 0),(1,.p (smL l)),(2,.p (.int .i64 b)),(7,.sl 2 5 0 i),(8,.p (.int .i64 w.vs.length)),(9,.p (.int .i64 i)),(10,.ptr 4 5 0 0)])
     [wO 3 nf fns k w1,.dead,.row 5 (smR out),roC nf w1.vs,.row 5 [[.p (.int .i64 o),.p (.str nme),.p (exL (mV w1.vs a)),.p (smL bd),.p (smL el)]]] ?_ ?_
    ·simp-implicitDefEqProofs[]
     refine cV 5 (by omega) (by simp) rfl (.same (AZ (by omega)) (.dead (.same (ce (aY out)) (.same (iF _ _ _) (.one (.keep (by simp[below]) (.keep (by simp[below]) (.one ?_ (.keep (by simp[below]) (.keep (by simp[below]) .nil))))) (.nil _)))))) ?_
     ·rw[←e1v] at hal2
      rw[←hal2]
      exact vI rfl
     ·refine⟨.keep (by simp[below]) .nil,.keep (by simp[below]) .nil,.keep (by simp[below]) .nil,.keep (by simp[below]) .nil,.keep (by simp[below]) .nil,.keep (by simp[below]) .nil,.keep (by simp[below]) .nil,trivial⟩
    have TT:∀(r1:List (Nat × AV)),Aw.look r1 0= .ptr 0 5 0 0->Aw.look r1 1= .p (smL l)->Aw.look r1 2= .p (.int .i64 b)->Aw.look r1 7= .sl 2 5 0 i->Aw.look r1 8= .p (.int .i64 w.vs.length)->Aw.look r1 9= .p (.int .i64 i)->Aw.look r1 10= .ptr 4 5 0 0->∀ρ:List Nat,ρ.length=5->ρ.getD 0 0=0->ρ.getD 2 0=2->ρ.getD 4 0=4->
     TWA ρ r1 [(0,.ptr 0 5 0 0),(1,.p (smL l)),(2,.p (.int .i64 b)),(7,.sl 2 5 0 i),(8,.p (.int .i64 w.vs.length)),(9,.p (.int .i64 i)),(10,.ptr 4 5 0 0)]:=by
     intro r1 a0 a1 a2 a7 a8 a9 a10 ρ hr r0 r2 r4
     simp[below,ren,hr,a0,a1,a2,a7,a8,a9,a10]
     rw[ZL,Zu (by omega)] at r0 r2 r4
     exact⟨r0,r2,r4⟩
    have hn1:nf=true->w1.vs=[]:=λh=>by rw[e1v];exact hn h
    have okB:∀(nf:Bool) (w:WS) (r:AO),okO 0 r->∀x∈[wO 3 nf fns k w,.dead,.row 5 (smR out),roC nf w.vs,r],okO 5 x:=λnf w r hr=>
     ag (AZ (by omega)) (ag trivial (ag (ce (aY out)) (ag (iF _ _ _) (ag (ce hr) dN))))
    refine ja (ah 96 [(0,.ptr 0 5 0 0),(1,.p (smL l)),(2,.p (.int .i64 b)),(7,.sl 2 5 0 i),(8,.p (.int .i64 w.vs.length)),(9,.p (.int .i64 i)),(10,.ptr 4 5 0 0)])
     [wO 3 (if o=1 then false else nf) fns k (if o=1 then iN w1 nme b else w1),.dead,.row 5 (smR out),roC (if o=1 then false else nf) (if o=1 then iN w1 nme b else w1).vs,.row 5 [[.p (.int .i64 o),.p (.str (if o=1 then vnm w1.count else nme)),.p (exL (mV w1.vs a)),.p (smL bd),.p (smL el)]]] ?_ ?_
    ·by_cases o1:o=1
     ·simp-implicitDefEqProofs[o1]
      refine(OY G (id:=3) (Q:=λnf' w'=>nf'=false/\w'=iN w1 nme b) ((Qy G nf fns k w1 hn1 (by omega) (by omega) nme b).mono (by rintro x h ⟨rfl,rfl⟩;exact⟨false,_,rfl,rfl,rfl,rfl⟩)) (by simp) (by simp[below]) (by decide) rfl rfl).mono ?_
      rintro r h' ⟨nf',w',rfl,rfl,rfl,rfl⟩
      simp-implicitDefEqProofs[aa]
      refine ck [0,1,2,5,4] (by simp) (by decide) (by decide) (Cu (by simp) rfl (fQ (by simp) (az rfl (aY out) (bV rfl (iF _ _ _) (az rfl (by simp[below]) aU))))) (TT _ (by simp) (by simp) (by simp) (by simp) (by simp) (by simp) (by simp) _ rfl rfl rfl rfl)
     ·simp-implicitDefEqProofs[o1]
      refine ab (by simp) (okB nf w1 _ (by simp[okO,below])) (by simp[below])
    generalize hw2:(if o=1 then iN w1 nme b else w1)=w2
    generalize hnf2:(if o=1 then false else nf)=nf2
    generalize hnm2:(if o=1 then vnm w1.count else nme)=nm2
    have hn2:nf2=true->w2.vs=[]:=by
     intro h
     by_cases o1:o=1
     ·rw[if_pos o1] at hnf2;rw[←hnf2] at h;cases h
     ·rw[if_neg o1] at hnf2 hw2;rw[←hw2];exact hn1 (by rw[hnf2];exact h)
    have h2c:w2.count=w1.count+if o=1 then 1 else 0:=by rw[←hw2];split<;>rfl
    have h2v:w2.vs.length<=w2.count:=by
     rw[←hw2];split
     ·simp[iN];omega
     ·omega
    have h2b:w2.count<=wi.count+1:=by rw[h2c,e1c];split<;>omega
    refine ja (ah 96 [(0,.ptr 0 5 0 0),(1,.p (smL l)),(2,.p (.int .i64 b)),(7,.sl 2 5 0 i),(8,.p (.int .i64 w.vs.length)),(9,.p (.int .i64 i)),(10,.ptr 4 5 0 0)])
     [wO 3 nf2 fns k (opW o nme b w1),.dead,.row 5 (smR out),roC nf2 (opW o nme b w1).vs,.row 5 [[.p (.int .i64 o),.p (.str (opN o nme w1)),.p (exL (mV w1.vs a)),.p (smL bd),.p (smL el)]]] ?_ ?_
    ·by_cases o2:o=2
     ·have o1:¬o=1:=by omega
      rw[if_neg o1] at hw2 hnm2
      subst hw2;subst hnm2
      have eo:opW o nme b w1=⟨w1.vs,w1.count,rO w1.vs nme w1.code⟩:=by rw[opW,if_neg o1,if_pos o2]
      have en:opN o nme w1=Ck w1.vs nme:=by rw[opN,if_neg o1,if_pos o2]
      rw[eo,en]
      simp-implicitDefEqProofs[o2]
      refine(Up G (id:=3) (QK G nf2 fns k w1 hn2 (by omega) nme) (by simp) (by simp[below]) (by decide) rfl rfl).mono ?_
      rintro r h' ⟨rfl,rfl⟩
      simp-implicitDefEqProofs[aa]
      refine ab (h:=[wO 3 nf2 fns k ⟨w1.vs,w1.count,rO w1.vs nme w1.code⟩,.dead,.row 5 (smR out),roC nf2 w1.vs,_]) (by simp) (okB nf2 ⟨w1.vs,w1.count,rO w1.vs nme w1.code⟩ _ (by simp[okO,below])) (by simp[below])
     ·have eo:opW o nme b w1=w2:=by rw[opW,if_neg o2,←hw2]
      have en:opN o nme w1=nm2:=by rw[opN,if_neg o2,←hnm2]
      rw[eo,en]
      simp-implicitDefEqProofs[o2]
      refine ab (by simp) (okB nf2 w2 _ (by simp[okO,below])) (by simp[below])
    have eov:(opW o nme b w1).vs=w2.vs:=by
     rw[opW,←hw2];split
     ·rfl
     ·split<;>rfl
    have eoc:(opW o nme b w1).count=w2.count:=by rw[Aa,h2c]
    have hwb:IntKind.i64.wrap ((b:Int)+1)=((b+1:Nat):Int):=by rw[ae (by omega) (by omega)];omega
    have hstw:stW fns k b (.mk o nme a bd el) wi=vp fns k (b+1) el (vp fns k (b+1) bd (opW o nme b w1)):=by
     rw[stW]
     simp only[hw1,vp,Nat.succ_pos,if_true]
     rfl
    have hrns:(rnS fns k b (.mk o nme a bd el) wi).cs=[.int .i64 o,.str (opN o nme w1),exL (mV w1.vs a),smL (jQ fns k (b+1) bd (opW o nme b w1)),smL (jQ fns k (b+1) el (vp fns k (b+1) bd (opW o nme b w1)))]:=by
     rw[rnS,Sm.cs_eq]
     simp only[hw1,vp,Nat.succ_pos,if_true,Sm.op,Sm.name,Sm.args,Sm.body,Sm.els,e1v]
     have:opN o nme wi=opN o nme w1:=by simp only[opN,e1v,e1c]
     rw[this]
    rw[hstw] at eW
    clear hstw
    generalize opW o nme b w1=w3 at eov eoc hrns eW⊢
    have hn3:nf2=true->w3.vs=[]:=λh=>by rw[eov];exact hn2 h
    have h3v:w3.vs.length<=w3.count:=by rw[eov,eoc];exact h2v
    simp-implicitDefEqProofs[hwb]
    refine(OY G (id:=3) (ih bd (by omega) (b+1) nf2 w3 hn3 h3v (by omega) (by omega)) (by simp) (by simp[below]) (by decide) rfl rfl).mono ?_
    rintro r h' ⟨nf4,w4,rfl,rfl,hn4,hw4⟩
    rw[←hw4] at hrns eW
    have h4c:w4.count=w3.count+uw bd:=by rw[hw4];exact JH _ _ _ _ _
    have h4v:w4.vs.length<=w4.count:=by
     have:w4.vs=w3.vs:=by rw[hw4];simp[vp,WS.back]
     rw[this,h4c];omega
    simp-implicitDefEqProofs[aa,hwb]
    refine(OY G (id:=5) (ih el (by omega) (b+1) nf4 w4 hn4 h4v (by omega) (by omega)) (by simp) (by simp[below]) (by decide) rfl rfl).mono ?_
    rintro r h' ⟨nf5,w5,rfl,rfl,hn5,hw5⟩
    rw[←hw5] at eW
    have hsl2:(smR out).length=i:=by rw[ed];exact hol
    simp-implicitDefEqProofs[aa,hsl2]
    refine⟨⟨by omega,by omega⟩,⟨i+1,nf5⟩,⟨by simp only;omega,λh=>by simp only at h⊢;rw[eW];exact hn5 h⟩,by simp only;omega,?_⟩
    simp only
    rw[eW,eR,zA]
    have htk:List.take i (smR out)=smR out:=Zz (by omega)
    rw[htk]
    have hsm1:smR [rnS fns k b (.mk o nme a bd el) wi]=[[.p (.int .i64 o),.p (.str (opN o nme w1)),.p (exL (mV w1.vs a)),.p (smL (jQ fns k (b+1) bd w3)),.p (smL (jQ fns k (b+1) el w4))]]:=by rw[smR,aap,hrns];rfl
    rw[hsm1]
    refine ck [0,1,8,6] (by simp) (by decide) (by decide) (Cu (by simp) rfl (fQ (by simp) (az rfl (λx hx=>?_) (bV rfl (iF _ _ _) aU)))) (by simp[below,ren,hsl,show IntKind.i64.wrap ((i:Int)+1)=((i:Int)+1) from ae (by omega) (by omega)])
    rcases ZB.1 hx with h|h
    ·exact aY out x h
    ·rw[ZC.1 h];simp
   ·simp at h
    have hie:i=l.length:=by omega
    subst hie
    rw[aad] at hn⊢
    obtain⟨ext,hext⟩:=HU fns k l b w
    have hlen:=DD fns k b l w
    refine ja (ah 96 [(7,.p (smL (jQ fns k b l w)))]) [wO 2 nf fns k (vp fns k b l w),.dead,roC nf (vp fns k b l w).vs] ?_ ?_
    ·have fin:∀(r1:List (Nat × AV)) (w':WS),w'.vs=w.vs\/w'.vs=(bJ fns k b l w).vs->(Aw.look r1 7= .sl 2 5 0 l.length)->
      Wk 2 (ah 96 r1) [wO 3 nf fns k w',.dead,.row 5 (smR (jQ fns k b l w)),roC nf (bJ fns k b l w).vs] (ah 96 [(7,.p (smL (jQ fns k b l w)))]) [wO 2 nf fns k w',.dead,roC nf w'.vs]:=by
      intro r1 w' hv' hr
      refine Wk.trans (LB (h1:=[wO 3 nf fns k w',.dead,.row 5 (smR (jQ fns k b l w)),roC nf w'.vs]) ?_) (Wk.trans (ck (l1:=[(7,.sl 3 5 0 l.length)]) (h1:=[wO 2 nf fns k w',.dead,roC nf w'.vs,.row 5 (smR (jQ fns k b l w))]) [0,1,3,2] (by simp) (by decide) (by decide) (Cu (by simp) rfl (fQ (by simp) (bV rfl (iF _ _ _) (az rfl (aY _) aU)))) (by simp[below,ren,hr]))
       (cV 3 (by omega) (by simp) rfl (.same (AZ (by omega)) (.dead (.same (iF _ _ _) (.nil _)))) ?_))
      ·refine⟨.inl rfl,.inl rfl,.inl rfl,?_,trivial⟩
       rcases hv' with e|e
       ·cases nf with
        |true=>exact .inl rfl
        |false=>
         refine .inr ⟨3,lvR (bJ fns k b l w).vs,w.vs.length,rfl,?_⟩
         rw[hext,Qn,e];rfl
       ·rw[e];exact .inl rfl
      ·rw[←hlen]
       exact⟨.one (fw rfl) .nil,trivial⟩
     by_cases hb0:0<b
     ·have hwe:vp fns k b l w=(bJ fns k b l w).back w.vs:=if_pos hb0
      rw[hwe]
      have hll2:(bJ fns k b l w).vs.length=ext.length+w.vs.length:=by rw[hext,ZM]
      cases nf with
      |true=>
       have h0:=hn rfl
       rw[h0] at hext
       have h00:w.vs=[]:=(List.append_eq_nil_iff.1 hext.symm).2
       simp-implicitDefEqProofs[hb0,wO,wC,vaC,h00]
       rw[h00] at fin
       exact fin _ ⟨[],(bJ fns k b l w).count,(bJ fns k b l w).code⟩ (.inl rfl) (by simp)
      |false=>
       have hle:w.vs.length<=(bJ fns k b l w).vs.length:=by omega
       simp-implicitDefEqProofs[hb0,wO,wC,vaC,hle]
       exact fin _ ⟨w.vs,(bJ fns k b l w).count,(bJ fns k b l w).code⟩ (.inl rfl) (by simp)
     ·have hwe:vp fns k b l w=bJ fns k b l w:=if_neg hb0
      have hb0':b=0:=by omega
      subst hb0'
      rw[hwe]
      simp-implicitDefEqProofs[]
      exact fin _ _ (.inr rfl) (by simp)
    ·simp-implicitDefEqProofs[]
     refine⟨nf,_,rfl,rfl,?_,rfl⟩
     intro hnf
     have h0:=hn hnf
     unfold vp
     split
     ·rw[h0] at hext;exact(List.append_eq_nil_iff.1 hext.symm).2
     ·exact h0
end
end Go.Proofs.YtokiapglmedipaaGreatDoor
