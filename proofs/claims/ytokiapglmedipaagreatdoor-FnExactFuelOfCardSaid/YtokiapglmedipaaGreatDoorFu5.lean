/-
  Contracts and lemmas that the card needs, part 5.
-/
import Derived.Test.YtokiapglmedipaaGreatDoorFu4
import Derived.Laws.RangeAny
import Derived.Laws.RangeString
namespace Go.Proofs.YtokiapglmedipaaGreatDoor
open Go Go.Aw
set_option maxRecDepth 100000
set_option maxHeartbeats 4000000
section
theorem aj{α:Type}{xs:List α}{i:Nat}(h:i<xs.length):xs.take (i+1)=xs.take i++[xs[i]]:=by
 rw[List.take_add_one,Re h];rfl
def bG(l:List Int):PV:= .lst 1 (l.map λn=>[.int .i64 n])
def vX(l:List Int):AO:= .row 1 (l.map λn=>[.p (.int .i64 n)])
def aB(l:List (List UInt8)):PV:= .lst 1 (l.map λw=>[.str w])
def Qq(l:List (List UInt8)):List (List AV):=l.map λw=>[.p (.str w)]
def jh(l:List (List UInt8)):AO:= .row 1 (l.map λn=>[.p (.str n)])
theorem zr(l:List (List UInt8)):∀x∈Qq l,ah 0 x:=by
 intro x hx;obtain⟨m,_,rfl⟩:=RC.1 hx;simp[ah,below]
theorem lz{l:List Int}{id:Nat}{h:List AO}(e:h[id]?=some (vX l)):View h (.sl id 1 0 l.length) (bG l):=by
 have:=ic (h:=h) (id:=id) (sz:=1) (n:=l.length) (ls:=l.map λn=>[.int .i64 n]) (by rw[e,vX];simp) (by simp) (λx hx=>by obtain⟨b,_,rfl⟩:=RC.1 hx;rfl)
 exact this
theorem th{l:List (List UInt8)}{id:Nat}{h:List AO}(e:h[id]?=some (jh l)):View h (.sl id 1 0 l.length) (aB l):=by
 have:=ic (h:=h) (id:=id) (sz:=1) (n:=l.length) (ls:=l.map λn=>[.str n]) (by rw[e,jh];simp) (by simp) (λx hx=>by obtain⟨b,_,rfl⟩:=RC.1 hx;rfl)
 exact this
end
section
def cW(c:UInt8):Bool:=decide (97<=c.toNat)&&decide (c.toNat<=122)
def keyW:List (List UInt8):=[[102,110],[108,101,116],[115,97,121],[112,117,116],[105,102],[101,108,115,101],[108,111,111,112],[98,97,99,107],[100,111]]
def aA(s:List UInt8):Bool:=s.all cW&&decide (0<s.length)&&decide (s.length<=4)&& !keyW.contains s
def vt:List UInt8:=[40,41,123,125,59,44,43,45,42,47,37,60,61,38,33,64]
def rB(s:List UInt8)(c:Int):Int:=match s.findIdx? (λx=>(x.toNat:Int)==c) with|some i=>i|none=> -1
def Bq(c:Int):Int:=if 97<=c/\c<=122 then 1 else if 48<=c/\c<=57 then 2 else if 0<=rB vt c then 3 else if c=32\/c=10 then 4 else 0
theorem LA(x:UInt8):(Bq (x.toNat:Int)=1)↔cW x=true:=by
 have h:(97<=(x.toNat:Int)/\(x.toNat:Int)<=122)↔cW x=true:=by simp[cW];omega
 unfold Bq
 constructor
 ·intro e
  split at e
  ·rename_i h1;exact h.1 h1
  ·repeat' split at e
   all_goals omega
 ·intro e;rw[if_pos (h.2 e)]
def zS(s:List UInt8):Int:=match s.findIdx? (λx=> !cW x) with|some i=>i|none=> -1
theorem GX(s:List UInt8):decide (zS s<0)=s.all cW:=by
 unfold zS
 cases h:s.findIdx? (λx=> !cW x) with
 |none=>
  rw[RJ] at h
  have:s.all cW=true:=Rk.2 λx hx=>by have:=h x hx;simpa using this
  simp[this]
 |some i=>
  rw[Ru] at h
  obtain⟨h1,h2,_⟩:=h
  have:s.all cW=false:=List.all_eq_false.2 ⟨_,Rt h1,by simpa using h2⟩
  rw[this];simp
def idxS(l:List (List UInt8))(s:List UInt8):Int:=match l.findIdx? (λw=>w==s) with|some i=>i|none=> -1
theorem Ho(l:List (List UInt8))(s:List UInt8):decide (0<=idxS l s)=l.contains s:=by
 unfold idxS
 cases h:l.findIdx? (λw=>w==s) with
 |none=>
  rw[RJ] at h
  have:l.contains s=false:=by
   cases hc:l.contains s with
   |false=>rfl
   |true=>
    have hm:s∈l:=by simpa using hc
    have:=h s hm
    simp at this
  rw[this];simp
 |some i=>
  rw[Ru] at h
  obtain⟨h1,h2,_⟩:=h
  have:l.contains s=true:=by
   simp only[beq_iff_eq] at h2
   rw[List.contains_iff_mem,←h2];exact Rt h1
  rw[this];simp
variable (G:aw)
theorem sO(s:List UInt8)(c:Int)(hb:s.length<=1048576):VF Tryz.prog G ji [.p (.str s),.p (.int .u8 c)] (.p (.int .i64 (rB s c))):=by
 refine AC.go vI ?_
 simp-implicitDefEqProofs[mo]
 refine aF (λi:Nat=>af 18 [(0,.p (.str s)),(1,.p (.int .u8 c)),(5,.p (.int .i64 i))]) (λ_=>[]) (λi=>i<=s.length/\∀x∈s.take i,(x.toNat:Int)≠c) (λi=>s.length-i) 0 (by simp) ?_ ?_
 ·exact aE rfl (by simp[below])
 ·intro i ⟨hi,hn⟩
  simp-implicitDefEqProofs[]
  refine bx (λh1=>?_) (λh1=>?_)
  ·simp at h1
   have hg:=Re h1
   by_cases he:(s[i].toNat:Int)=c
   ·have hf:rB s c=i:=by
     have:s.findIdx? (λx=>(x.toNat:Int)==c)=some i:=by
      rw[Ru]
      exact⟨h1,by simpa using he,λj hj=>by have:=hn s[j] (Sc.2 ⟨j,by omega,rfl⟩);simpa using this⟩
     rw[rB,this]
    simp-implicitDefEqProofs[hg,he,hf]
   ·simp-implicitDefEqProofs[hg,he]
    refine⟨i+1,⟨h1,λp hp=>?_⟩,by omega,aE rfl ?_⟩
    ·rw[aj h1] at hp
     rcases Rr.1 hp with hp|hp
     ·exact hn p hp
     ·rw[Rq.1 hp];exact he
    ·simp[below,w1 (i:=i) (by omega)]
  ·simp at h1
   rw[Rp h1] at hn
   have hf:rB s c= -1:=by
    have:s.findIdx? (λx=>(x.toNat:Int)==c)=none:=by
     rw[RJ];intro x hx;simpa using hn x hx
    rw[rB,this]
   simp-implicitDefEqProofs[hf]
theorem Fs(c:Int):VF Tryz.prog G jb [.p (.int .u8 c)] (.p (.int .i64 (Bq c))):=by
 refine AC.go vb ?_
 simp-implicitDefEqProofs[nB]
 unfold Bq
 by_cases h1:97<=c
 ·by_cases h2:c<=122
  ·simp-implicitDefEqProofs[h1,h2]
  ·have h3:¬c<=57:=by omega
   have h4:¬c=32:=by omega
   have h5:¬c=10:=by omega
   have h6:48<=c:=by omega
   simp-implicitDefEqProofs[h1,h2,h3,h6]
   refine(sO G vt c (by decide)).use ?_
   generalize rB vt c=w
   by_cases hf:0<=w
   ·simp-implicitDefEqProofs[hf]
   ·simp-implicitDefEqProofs[hf,h4,h5]
 ·simp-implicitDefEqProofs[h1]
  by_cases h2:48<=c
  ·by_cases h3:c<=57
   ·simp-implicitDefEqProofs[h2,h3]
   ·have h4:¬c=32:=by omega
    have h5:¬c=10:=by omega
    simp-implicitDefEqProofs[h2,h3]
    refine(sO G vt c (by decide)).use ?_
    generalize rB vt c=w
    by_cases hf:0<=w
    ·simp-implicitDefEqProofs[hf]
    ·simp-implicitDefEqProofs[hf,h4,h5]
  ·simp-implicitDefEqProofs[h2]
   refine(sO G vt c (by decide)).use ?_
   generalize rB vt c=w
   by_cases hf:0<=w
   ·simp-implicitDefEqProofs[hf]
   ·by_cases h4:c=32
    ·simp-implicitDefEqProofs[hf,h4]
    ·by_cases h5:c=10
     ·simp-implicitDefEqProofs[hf,h4,h5]
     ·simp-implicitDefEqProofs[hf,h4,h5]
theorem KH(s:List UInt8)(hb:s.length<=140737488355328):VF Tryz.prog G lY [.p (.str s),.p (.int .i64 1)] (.p (.bool (s.all cW&&decide (0<s.length)))):=by
 refine AC.go zO ?_
 simp-implicitDefEqProofs[se]
 refine aF (λi:Nat=>af 21 [(0,.p (.str s)),(1,.p (.int .i64 1)),(5,.p (.int .i64 i))]) (λ_=>[]) (λi=>i<=s.length/\∀x∈s.take i,cW x=true) (λi=>s.length-i) 0 (by simp) ?_ ?_
 ·exact aE rfl (by simp[below])
 ·intro i ⟨hi,hn⟩
  simp-implicitDefEqProofs[]
  refine bx (λh1=>?_) (λh1=>?_)
  ·simp at h1
   have hg:=Re h1
   simp-implicitDefEqProofs[hg]
   refine(Fs G _).use ?_
   have hcl:=LA s[i]
   by_cases he:cW s[i]=true
   ·have hc:=hcl.2 he
    simp-implicitDefEqProofs[hc]
    refine⟨i+1,⟨h1,λp hp=>?_⟩,by omega,aE rfl ?_⟩
    ·rw[aj h1] at hp
     rcases Rr.1 hp with hp|hp
     ·exact hn p hp
     ·rw[Rq.1 hp];exact he
    ·simp[below,w1 (i:=i) (by omega)]
   ·have hc:¬Bq (s[i].toNat:Int)=1:=λe=>he (hcl.1 e)
    have ha:s.all cW=false:=List.all_eq_false.2 ⟨_,Rt h1,by simpa using he⟩
    simp-implicitDefEqProofs[hc,ha]
  ·simp at h1
   rw[Rp h1] at hn
   have ha:s.all cW=true:=Rk.2 hn
   simp-implicitDefEqProofs[ha]
theorem Dg:VF Tryz.prog G eO [] (.p (aB keyW)):=by
 have key:AC Tryz.prog G eO [] [] λx h=>x= .ret (.sl 0 1 0 9)/\h=[.row 1 (keyW.map λw=>[.p (.str w)])]:=by
  refine AC.go tY ?_
  simp-implicitDefEqProofs[mb,keyW]
 exact AC.freeze key (.one (ic (ls:=keyW.map λw=>[.str w]) (by simp) (by simp[keyW]) (by simp)) .nil)
theorem Ls(s:List UInt8):VF Tryz.prog G lK [.p (.str s)] (.p (.bool (keyW.contains s))):=by
 refine AC.go AS ?_
 have hsl:aB keyW= .lst 1 (keyW.map λw=>[.str w]):=rfl
 have hkl:keyW.length=9:=rfl
 simp-implicitDefEqProofs[pT]
 refine(Dg G).use ?_
 simp-implicitDefEqProofs[]
 refine aF (λi:Nat=>af 18 [(0,.p (.str s)),(3,.p (aB keyW)),(4,.p (.int .i64 i))]) (λ_=>[]) (λi=>i<=keyW.length/\∀w∈keyW.take i,w≠s) (λi=>keyW.length-i) 0 (by simp) ?_ ?_
 ·exact aE rfl (by simp[below,aB])
 ·intro i ⟨hi,hn⟩
  generalize keyW=L at*
  simp-implicitDefEqProofs[hsl]
  refine bx (λh1=>?_) (λh1=>?_)
  ·simp at h1
   have hg:=Re h1
   by_cases he:L[i]=s
   ·have hm:s∈L:=by rw[←he];exact Rt h1
    simp-implicitDefEqProofs[hg,he,hm]
   ·simp-implicitDefEqProofs[hg,he]
    refine⟨i+1,⟨h1,λp hp=>?_⟩,by omega,aE rfl ?_⟩
    ·rw[aj h1] at hp
     rcases Rr.1 hp with hp|hp
     ·exact hn p hp
     ·rw[Rq.1 hp];exact he
    ·simp[below,w1 (i:=i) (by omega)]
  ·simp at h1
   rw[Rp h1] at hn
   have hm:¬s∈L:=λhm=>hn s hm rfl
   simp-implicitDefEqProofs[hm]
theorem rx(s:List UInt8)(hb:s.length<=140737488355328):VF Tryz.prog G bS [.p (.str s)] (.p (.bool (aA s))):=by
 refine AC.go yU ?_
 simp-implicitDefEqProofs[oE]
 refine(KH G s hb).use ?_
 cases h1:(s.all cW&&decide (0<s.length)) with
 |false=>
  have hi:aA s=false:=by rw[aA,h1];rfl
  simp-implicitDefEqProofs[hi]
 |true=>
  by_cases h4:s.length<=4
  ·have h4i:(s.length:Int)<=4:=by omega
   have hi:aA s= !keyW.contains s:=by rw[aA,h1];simp[h4]
   simp-implicitDefEqProofs[h4i]
   refine(Ls G s).use ?_
   rw[hi]
   simp-implicitDefEqProofs[]
  ·have h4i:¬(s.length:Int)<=4:=by omega
   have hi:aA s=false:=by rw[aA,h1];simp[h4]
   simp-implicitDefEqProofs[h4i,hi]
end
section
inductive Ex where
 |mk (op n:Int) (name:List UInt8) (kids:List Ex)
inductive Sm where
 |mk (op:Int) (name:List UInt8) (args:List Ex) (body els:List Sm)
structure Fd where (name:List UInt8) (params:List (List UInt8)) (body:List Sm)
def Ex.op:Ex->Int| .mk o _ _ _=>o
def Ex.n:Ex->Int| .mk _ n _ _=>n
def Ex.name:Ex->List UInt8| .mk _ _ s _=>s
def Ex.kids:Ex->List Ex| .mk _ _ _ k=>k
def Sm.op:Sm->Int| .mk o _ _ _ _=>o
def Sm.name:Sm->List UInt8| .mk _ s _ _ _=>s
def Sm.args:Sm->List Ex| .mk _ _ a _ _=>a
def Sm.body:Sm->List Sm| .mk _ _ _ b _=>b
def Sm.els:Sm->List Sm| .mk _ _ _ _ e=>e
mutual
def Ex.cs:Ex->List PV
 | .mk o n s k=>[.int .i64 o,.int .i64 n,.str s,.lst 4 (IX k)]
def IX:List Ex->List (List PV)
 |[]=>[]
 |e::r=>e.cs::IX r
end
mutual
def Sm.cs:Sm->List PV
 | .mk o s a b e=>[.int .i64 o,.str s,.lst 4 (IX a),.lst 5 (HD b),.lst 5 (HD e)]
def HD:List Sm->List (List PV)
 |[]=>[]
 |s::r=>s.cs::HD r
end
theorem vn:∀l:List Ex,IX l=l.map Ex.cs
 |[]=>rfl
 |e::r=>by rw[IX,vn r];rfl
theorem uX:∀l:List Sm,HD l=l.map Sm.cs
 |[]=>rfl
 |e::r=>by rw[HD,uX r];rfl
def exL(l:List Ex):PV:= .lst 4 (l.map Ex.cs)
def smL(l:List Sm):PV:= .lst 5 (l.map Sm.cs)
theorem Ex.cs_eq(e:Ex):e.cs=[.int .i64 e.op,.int .i64 e.n,.str e.name,exL e.kids]:=by
 cases e;rw[Ex.cs,vn];rfl
theorem Sm.cs_eq(s:Sm):s.cs=[.int .i64 s.op,.str s.name,exL s.args,smL s.body,smL s.els]:=by
 cases s;rw[Sm.cs,vn,uX,uX];rfl
@[simp] theorem Ex.cs_len(e:Ex):e.cs.length=4:=by cases e;rfl
@[simp] theorem Ex.cs_take(e:Ex):List.take 4 (e.cs.map AV.p)=e.cs.map AV.p:=by cases e;rfl
@[simp] theorem Sm.cs_len(s:Sm):s.cs.length=5:=by cases s;rfl
@[simp] theorem Sm.cs_take(s:Sm):List.take 5 (s.cs.map AV.p)=s.cs.map AV.p:=by cases s;rfl
def Fd.cs(f:Fd):List PV:=[.str f.name,aB f.params,smL f.body]
@[simp] theorem Fd.cs_len(f:Fd):f.cs.length=3:=rfl
@[simp] theorem Fd.cs_take(f:Fd):List.take 3 (f.cs.map AV.p)=f.cs.map AV.p:=rfl
def fdL(l:List Fd):PV:= .lst 3 (l.map Fd.cs)
mutual
def Ex.sz:Ex->Nat
 | .mk _ _ s k=>1+s.length+dh k
def dh:List Ex->Nat
 |[]=>0
 |e::r=>e.sz+dh r
end
mutual
def Sm.sz:Sm->Nat
 | .mk _ s a b e=>1+s.length+dh a+aH b+aH e
def aH:List Sm->Nat
 |[]=>0
 |s::r=>s.sz+aH r
end
def Fd.sz(f:Fd):Nat:=1+f.name.length+(f.params.length+(f.params.map List.length).sum)+aH f.body
def bh(l:List Fd):Nat:=(l.map Fd.sz).sum
theorem Ex.sz_eq(e:Ex):e.sz=1+e.name.length+dh e.kids:=by cases e;rfl
theorem Sm.sz_eq(s:Sm):s.sz=1+s.name.length+dh s.args+aH s.body+aH s.els:=by cases s;rfl
theorem tL:∀a b:List Ex,dh (a++b)=dh a+dh b
 |[],b=>by simp[dh]
 |e::r,b=>by simp only[RW,dh,tL r b];omega
theorem tI:∀a b:List Sm,aH (a++b)=aH a+aH b
 |[],b=>by simp[aH]
 |e::r,b=>by simp only[RW,aH,tI r b];omega
theorem aT:∀{l:List Ex} {e:Ex},e∈l->e.sz<=dh l
 |x::r,e,h=>by
  simp only[dh]
  rcases Rm.1 h with rfl|h
  ·omega
  ·have:=aT h;omega
theorem aW:∀{l:List Sm} {e:Sm},e∈l->e.sz<=aH l
 |x::r,e,h=>by
  simp only[aH]
  rcases Rm.1 h with rfl|h
  ·omega
  ·have:=aW h;omega
theorem aX:∀l:List Ex,l.length<=dh l
 |[]=>Rl _
 |e::r=>by have:=aX r;have:=e.sz_eq;simp only[dh,Rz];omega
theorem bF:∀l:List Sm,l.length<=aH l
 |[]=>Rl _
 |e::r=>by have:=bF r;have:=e.sz_eq;simp only[aH,Rz];omega
mutual
def Ex.parts:Ex->Nat
 | .mk _ _ _ k=>1+fp k
def fp:List Ex->Nat
 |[]=>0
 |e::r=>e.parts+fp r
end
theorem Ex.parts_eq(e:Ex):e.parts=1+fp e.kids:=by cases e;rfl
theorem gX:∀a b:List Ex,fp (a++b)=fp a+fp b
 |[],b=>by simp[fp]
 |e::r,b=>by simp only[RW,fp,gX r b];omega
mutual
theorem Ex.parts_le:∀e:Ex,e.parts<=e.sz
 | .mk _ _ s k=>by have:=zP k;simp only[Ex.parts,Ex.sz];omega
theorem zP:∀l:List Ex,fp l<=dh l
 |[]=>Rl _
 |e::r=>by have:=e.parts_le;have:=zP r;simp only[fp,dh];omega
end
mutual
def Sm.cnt:Sm->Nat
 | .mk _ _ _ b e=>1+de b+de e
def de:List Sm->Nat
 |[]=>0
 |s::r=>s.cnt+de r
end
theorem Sm.cnt_eq(s:Sm):s.cnt=1+de s.body+de s.els:=by cases s;rfl
theorem mC:∀a b:List Sm,de (a++b)=de a+de b
 |[],b=>by simp[de]
 |e::r,b=>by simp only[RW,de,mC r b];omega
mutual
theorem Sm.cnt_le:∀s:Sm,s.cnt<=s.sz
 | .mk _ s a b e=>by have:=nH b;have:=nH e;simp only[Sm.cnt,Sm.sz];omega
theorem nH:∀l:List Sm,de l<=aH l
 |[]=>Rl _
 |e::r=>by have:=e.cnt_le;have:=nH r;simp only[de,aH];omega
end
def inR(n lo hi:Int):Bool:=decide (lo<=n)&&decide (n<=hi)
def loK(op:Int):Nat:=if op=1\/op=2 then 0 else if op=11\/op=12 then 1 else if op=13 then 0 else 2
def hiK(op:Int):Nat:=if op=1\/op=2 then 0 else if op=11\/op=12 then 1 else if op=13 then 3 else 2
def DM(op:Int):Bool:=decide (op=2)||decide (op=13)
def lm(e:Ex):Bool:=inR e.op 1 13&&inR e.kids.length (loK e.op) (hiK e.op)&&(DM e.op==aA e.name)&&(DM e.op||decide (e.name=[]))&&inR e.n 0 255&&(decide (e.op=1)||decide (e.n=0))
def bO:Nat->Ex->Bool
 |0,_=>false
 |d+1,e=>lm e&&e.kids.all (bO d)
def kG(e:Ex):Bool:=bO 6 e&&decide (e.parts<=30)
def ga(op:Int):Nat:=if op=4 then 2 else 1
def cg(op:Int):Bool:=decide (op=1)||decide (op=2)
def iD(s:Sm):Bool:=inR s.op 1 8&&decide (s.args.length=ga s.op)&&(cg s.op==aA s.name)&&(cg s.op||decide (s.name=[]))&&s.args.all kG&&
 (!decide (s.op=8)||(match s.args with|a::_=>decide (a.op=13)|[]=>false))&&(s.els.isEmpty||decide (s.op=5))&&(s.body.isEmpty||decide (s.op=5)||decide (s.op=6))
def ay:Nat->Sm->Bool
 |0,_=>false
 |d+1,s=>iD s&&s.body.all (ay d)&&s.els.all (ay d)
def iZ(f:Fd):Bool:=f.params.all aA&&aA f.name&&decide (f.params.length<=3)&&f.body.all (ay 4)
def kT(l:List Fd):Nat:=(l.map λf=>de f.body).sum
def ce(l:List Fd):Bool:=inR l.length 1 4&&l.all iZ&&decide (kT l<=40)
end
section
def Fr(K:List Nat)(h h':List AO):Prop:=h.length<=h'.length/\∀i,i<h.length->i∉K->h'[i]?=h[i]?
theorem Fr.refl(K:List Nat)(h:List AO):Fr K h h:=⟨Rl _,λ_ _ _=>rfl⟩
theorem Fr.more(K:List Nat)(h os:List AO):Fr K h (h++os):=⟨by simp,λi hi _=>Rh hi⟩
theorem Fr.trans{K K':List Nat}{h h1 h2:List AO}(a:Fr K h h1)(b:Fr K' h1 h2)(hk:∀i∈K',i∈K\/h.length<=i):Fr K h h2:=
 ⟨Ry a.1 b.1,λi hi hn=>by
   rw[b.2 i (RA hi a.1) (λhm=>by
    rcases hk i hm with q|q
    ·exact hn q
    ·omega),a.2 i hi hn]⟩
theorem Fr.sub{K K':List Nat}{h h1:List AO}(a:Fr K h h1)(hk:∀i∈K,i∈K'\/h.length<=i):Fr K' h h1:=
 ⟨a.1,λi hi hn=>a.2 i hi λhm=>by
   rcases hk i hm with q|q
   ·exact hn q
   ·omega⟩
theorem Fr.from{K:List Nat}{h os h2:List AO}(a:Fr K (h++os) h2):Fr K h h2:=
 ⟨by have:=a.1;simp at this;omega,λi hi hn=>by rw[a.2 i (by simp;omega) hn,Rh hi]⟩
theorem OF(q:PV):(AV.p q).isCell=true:=rfl
theorem NT(a b c d:Nat):(AV.sl a b c d).isCell=true:=rfl
theorem Mv(a b c d:Nat):(AV.ptr a b c d).isCell=true:=rfl
theorem Oi(q:PV):(AV.p q).cells=[AV.p q]:=rfl
theorem OO(a b c d:Nat):(AV.sl a b c d).cells=[AV.sl a b c d]:=rfl
theorem Ma(a b c d:Nat):(AV.ptr a b c d).cells=[AV.ptr a b c d]:=rfl
end
section
def Qj(hF:List AO)(n:Nat)(o x y:AO):Prop:=
 (x= .dead/\y=o/\okO n o)\/(x= .dead/\y= .dead)\/(x=o/\y= .dead)\/(x= .dead/\∃sz e e1,o= .row sz [e]/\y= .row sz [e1]/\Fzs hF n e e1)
theorem zY{hF:List AO}{n:Nat}:∀(h:List AO) (X Y:Nat->AO->AO),(∀i o,h[i]?=some o->Qj hF n o (X i o) (Y i o))->Thn hF n h (h.mapIdx X) (h.mapIdx Y)
 |[],_,_,_=>by rw[List.mapIdx_nil,List.mapIdx_nil];exact .nil
 |o::r,X,Y,H=>by
  rw[List.mapIdx_cons,List.mapIdx_cons]
  have ih:=zY (hF:=hF) (n:=n) r (λi=>X (i+1)) (λi=>Y (i+1)) λi o h=>H (i+1) o h
  rcases H 0 o rfl with⟨h1,h2,h3⟩|⟨h1,h2⟩|⟨h1,h2⟩|⟨h1,sz,e,e1,rfl,h2,h3⟩
  ·rw[h1,h2];exact .same h3 ih
  ·rw[h1,h2];exact .drop ih
  ·rw[h1,h2];exact .give ih
  ·rw[h1,h2];exact .one h3 ih
end
section
structure LV where (name:List UInt8) (num block:Nat)
structure WS where (vs:List LV) (count:Nat) (code:Int)
def fl(c k:Int):Int:=if c=0 then k else c
theorem vp{c k:Int}(h:c≠0):fl c k=c:=if_neg h
def lkV(vs:List LV)(s:List UInt8):Option LV:=vs.find? λv=>decide (v.name=s)
def bz(fns:List Fd)(s:List UInt8):Option Nat:=fns.findIdx? λf=>decide (f.name=s)
def yK(fns:List Fd)(j:Nat):Nat:=match fns[j]? with|some f=>f.params.length|none=>0
def nh(vs:List LV)(s:List UInt8)(c:Int):Int:=match lkV vs s with|none=>fl c 3|some _=>c
def jP(fns:List Fd)(k:Nat)(s:List UInt8)(n:Nat)(c:Int):Int:=
 match bz fns s with|none=>fl c 4|some j=>if k<=j then fl c 4 else if yK fns j=n then c else fl c 5
def iG(fns:List Fd)(k:Nat)(vs:List LV)(o:Int)(s:List UInt8)(n:Nat)(c:Int):Int:=
 if o=2 then nh vs s c else if o=13 then jP fns k s n c else c
mutual
def mQ(fns:List Fd)(k:Nat)(vs:List LV):Ex->Int->Int
 | .mk o _ s ks,c=>bl fns k vs ks (iG fns k vs o s ks.length c)
def bl(fns:List Fd)(k:Nat)(vs:List LV):List Ex->Int->Int
 |[],c=>c
 |e::r,c=>bl fns k vs r (mQ fns k vs e c)
end
def vnm(n:Nat):List UInt8:=[118,UInt8.ofNat (97+n%26)]
def uC(vs:List LV)(s:List UInt8):List UInt8:=match lkV vs s with|none=>s|some v=>vnm v.num
mutual
def rnE(vs:List LV):Ex->Ex
 | .mk o n s ks=> .mk o n (if o=2 then uC vs s else s) (jA vs ks)
def jA(vs:List LV):List Ex->List Ex
 |[]=>[]
 |e::r=>rnE vs e::jA vs r
end
def og(vs:List LV)(s:List UInt8)(b:Nat)(c:Int):Int:=match lkV vs s with|none=>c|some v=>if v.block=b then fl c 2 else c
def fI(w:WS)(s:List UInt8)(b:Nat):WS:=⟨⟨s,w.count,b⟩::w.vs,w.count+1,og w.vs s b w.code⟩
def opW(o:Int)(s:List UInt8)(b:Nat)(w:WS):WS:=if o=1 then fI w s b else if o=2 then⟨w.vs,w.count,nh w.vs s w.code⟩ else w
def opN(o:Int)(s:List UInt8)(w:WS):List UInt8:=if o=1 then vnm w.count else if o=2 then uC w.vs s else s
def WS.back(w:WS)(vs:List LV):WS:=⟨vs,w.count,w.code⟩
mutual
def stW(fns:List Fd)(k b:Nat):Sm->WS->WS
 | .mk o s a bd el,w=>
   let w2:=opW o s b ⟨w.vs,w.count,bl fns k w.vs a w.code⟩
   let w3:=(bs fns k (b+1) bd w2).back w2.vs
   (bs fns k (b+1) el w3).back w2.vs
def bs(fns:List Fd)(k b:Nat):List Sm->WS->WS
 |[],w=>w
 |s::r,w=>bs fns k b r (stW fns k b s w)
end
def bi(ps:List (List UInt8))(w:WS):WS:=ps.foldl (λw s=>fI w s 0) w
def fnW(fns:List Fd)(k:Nat)(f:Fd):WS:=bs fns k 0 f.body (bi f.params ⟨[],0,if bz fns f.name=some k then 0 else 2⟩)
def gg(fns:List Fd):Nat->List Fd->Int
 |_,[]=>0
 |k,f::r=>if(fnW fns k f).code=0 then gg fns (k+1) r else(fnW fns k f).code
def aJ(fns:List Fd):Int:=if ce fns then gg fns 0 fns else 1
abbrev Scp:=List (List UInt8 × Nat)
def dg(m:Scp)(s:List UInt8):Option Nat:=(m.find? λx=>decide (x.1=s)).map (·.2)
def fk:Scp->List UInt8->Nat->Scp
 |[],s,n=>[(s,n)]
 |x::r,s,n=>if x.1=s then(s,n)::r else x::fk r s n
def ij:List Scp->List UInt8->Option Nat
 |[],_=>none
 |m::r,s=>match dg m s with|some n=>some n|none=>ij r s
def eZ(fns:List Fd)(k:Nat)(ch:List Scp)(c:Int)(e:Ex):Int:=
 if e.op=2 then(if(ij ch e.name).isSome then c else fl c 3)
 else if e.op=13 then(match bz (fns.take k) e.name with|none=>fl c 4|some j=>if yK fns j=e.kids.length then c else fl c 5)
 else c
mutual
def Ex.pre:Ex->List Ex
 | .mk o n s ks=> .mk o n s ks::cE ks
def cE:List Ex->List Ex
 |[]=>[]
 |e::r=>e.pre++cE r
end
def Do(fns:List Fd)(k:Nat)(ch:List Scp)(l:List Ex)(c:Int):Int:=(cE l).foldl (eZ fns k ch) c
def opS(o:Int)(s:List UInt8)(m:Scp)(n:Nat):Scp:=if o=1 then fk m s n else m
def opC(o:Int)(s:List UInt8)(m:Scp)(up:List Scp)(c:Int):Int:=
 if o=1 then(if(dg m s).isSome then fl c 2 else c) else if o=2 then(if(ij (m::up) s).isSome then c else fl c 3) else c
mutual
def icS(fns:List Fd)(k:Nat):Sm->Scp->List Scp->Int->Scp × Int
 | .mk o s a bd el,m,up,c=>
   let m2:=opS o s m 0
   let c2:=opC o s m up (Do fns k (m::up) a c)
   (m2,if o=5\/o=6 then(fX fns k el [] (m2::up) (fX fns k bd [] (m2::up) c2).2).2 else c2)
def fX(fns:List Fd)(k:Nat):List Sm->Scp->List Scp->Int->Scp × Int
 |[],m,_,c=>(m,c)
 |s::r,m,up,c=>fX fns k r (icS fns k s m up c).1 up (icS fns k s m up c).2
end
def gV(ps:List (List UInt8))(m:Scp)(c:Int):Scp × Int:=ps.foldl (λx s=>(fk x.1 s 0,if(dg x.1 s).isSome then fl x.2 2 else x.2)) (m,c)
def icF(fns:List Fd)(k:Nat)(f:Fd)(c:Int):Int:=
 let c1:=if(match bz fns f.name with|some j=>decide (j<k)|none=>true) then fl c 2 else c
 let x:=gV f.params [] c1
 (fX fns k f.body x.1 [] x.2).2
def jv(fns:List Fd):Nat->List Fd->Int->Int
 |_,[],c=>c
 |k,f::r,c=>jv fns (k+1) r (icF fns k f c)
def SR(g:LV->Nat):Nat->List LV->List Scp->Prop
 |_,_,[]=>False
 |b,vs,m::up=>∃v1 v2,vs=v1++v2/\(∀v∈v1,v.block=b)/\(∀s,(lkV v1 s).map g=dg m s)/\match b with
  |0=>v2=[]/\up=[]
  |b+1=>SR g b v2 up
theorem ue(a b:List LV)(s:List UInt8):lkV (a++b) s=match lkV a s with|some v=>some v|none=>lkV b s:=by
 simp only[lkV,List.find?_append]
 cases List.find? (λv=>decide (v.name=s)) a<;>rfl
variable {g:LV->Nat}
theorem SR.blk:∀{b:Nat} {vs:List LV} {ch:List Scp},SR g b vs ch->∀v∈vs,v.block<=b
 |b,_,[],h,v,hv=>by cases b<;>exact False.elim h
 |0,vs,m::up,⟨v1,v2,e,h1,_,h3,_⟩,v,hv=>by
  subst e;subst h3
  rw[RO] at hv
  exact Nat.le_of_eq (h1 v hv)
 |b+1,vs,m::up,⟨v1,v2,e,h1,_,h3⟩,v,hv=>by
  subst e
  rcases Rr.1 hv with h|h
  ·exact Nat.le_of_eq (h1 v h)
  ·exact Nat.le_succ_of_le (SR.blk h3 v h)
theorem SR.fnd:∀{b:Nat} {vs:List LV} {ch:List Scp},SR g b vs ch->∀s,(lkV vs s).map g=ij ch s
 |b,_,[],h,s=>by cases b<;>exact False.elim h
 |0,vs,m::up,⟨v1,v2,e,h1,h2,h3,h4⟩,s=>by
  subst e;subst h3;subst h4
  rw[RO,h2,ij]
  cases dg m s<;>rfl
 |b+1,vs,m::up,⟨v1,v2,e,h1,h2,h3⟩,s=>by
  subst e
  have ih:=SR.fnd h3 s
  have h2:=h2 s
  rw[ue,ij,←h2]
  cases e1:lkV v1 s with
  |some v=>rfl
  |none=>exact ih
theorem SR.is{b:Nat}{vs:List LV}{ch:List Scp}(h:SR g b vs ch)(s:List UInt8):(lkV vs s).isSome=(ij ch s).isSome:=by rw[←h.fnd s,Option.isSome_map]
theorem uo{vs:List LV}{s:List UInt8}{v:LV}(h:lkV vs s=some v):v∈vs:=List.mem_of_find?_eq_some h
theorem SR.put:∀{b:Nat} {vs:List LV} {m:Scp} {up:List Scp},SR g b vs (m::up)->∀(s:List UInt8) (c:Int),og vs s b c=if(dg m s).isSome then fl c 2 else c:=by
 intro b vs m up h s c
 have key:∀v1 v2:List LV,(∀v∈v1,v.block=b)->(lkV v1 s).map g=dg m s->(∀v∈v2,v.block≠b)->og (v1++v2) s b c=if(dg m s).isSome then fl c 2 else c:=by
  intro v1 v2 h1 h2 h3
  rw[←h2,og,ue]
  cases e1:lkV v1 s with
  |some v=>simp[h1 v (uo e1)]
  |none=>
   cases e2:lkV v2 s with
   |none=>rfl
   |some v=>simp[h3 v (uo e2)]
 match b,h with
 |0,⟨v1,v2,e,h1,h2,h3,_⟩=>subst e;subst h3;exact key v1 [] h1 (h2 s) (λv hv=>by simp at hv)
 |b+1,⟨v1,v2,e,h1,h2,h3⟩=>subst e;exact key v1 v2 h1 (h2 s) (λv hv e=>by have:=h3.blk v hv;omega)
theorem Bp:∀(m:Scp) (s:List UInt8) (n:Nat) (t:List UInt8),dg (fk m s n) t=if s=t then some n else dg m t
 |[],s,n,t=>by
  by_cases h:s=t
  ·simp[fk,dg,h]
  ·simp[fk,dg,h]
 |x::r,s,n,t=>by
  have ih:=Bp r s n t
  simp only[dg] at ih
  by_cases hx:x.1=s
  ·by_cases h:s=t
   ·simp[fk,dg,hx,h]
   ·have:¬x.1=t:=by rw[hx];exact h
    simp[fk,dg,hx,h]
  ·by_cases ht:x.1=t
   ·have:¬s=t:=λe=>hx (ht.trans e.symm)
    rw[fk,if_neg hx,if_neg this];simp[dg,ht]
   ·simp only[fk,dg,if_neg hx,List.find?_cons,ht,decide_false]
    exact ih
theorem SR.add{b:Nat}{vs:List LV}{m:Scp}{up:List Scp}(h:SR g b vs (m::up))(s:List UInt8)(n k:Nat)(hg:g ⟨s,n,b⟩=k):SR g b (⟨s,n,b⟩::vs) (fk m s k::up):=by
 have key:∀v1:List LV,(∀s,(lkV v1 s).map g=dg m s)->∀t,(lkV (⟨s,n,b⟩::v1) t).map g=dg (fk m s k) t:=by
  intro v1 h2 t
  rw[Bp]
  by_cases e:s=t
  ·simp[lkV,e,←hg]
  ·rw[if_neg e,←h2 t];simp[lkV,e]
 match b,h with
 |0,⟨v1,v2,e,h1,h2,h3⟩=>
  subst e
  refine⟨⟨s,n,0⟩::v1,v2,rfl,λv hv=>?_,key v1 h2,h3⟩
  rcases Rm.1 hv with rfl|hv
  ·rfl
  ·exact h1 v hv
 |b+1,⟨v1,v2,e,h1,h2,h3⟩=>
  subst e
  refine⟨⟨s,n,b+1⟩::v1,v2,rfl,λv hv=>?_,key v1 h2,h3⟩
  rcases Rm.1 hv with rfl|hv
  ·rfl
  ·exact h1 v hv
theorem SR.open{b:Nat}{vs:List LV}{ch:List Scp}(h:SR g b vs ch):SR g (b+1) vs ([]::ch):=⟨[],vs,rfl,λv hv=>by simp at hv,λs=>rfl,h⟩
theorem SR.base:SR g 0 [] [[]]:=⟨[],[],rfl,λv hv=>by simp at hv,λs=>rfl,rfl,rfl⟩
theorem AT{α:Type}{p:α->Bool}{l:List α}{k:Nat}:(l.take k).findIdx? p=match l.findIdx? p with|some j=>if j<k then some j else none|none=>none:=by
 cases h:l.findIdx? p with
 |none=>
  rw[RJ] at h⊢
  exact λx hx=>h x (RP hx)
 |some j=>
  rw[Ru] at h
  obtain⟨h1,h2,h3⟩:=h
  simp only
  split
  ·rename_i hj
   rw[Ru]
   exact⟨by rw[RG];omega,by rw[List.getElem_take];exact h2,λi hi=>by rw[List.getElem_take];exact h3 i hi⟩
  ·rename_i hj
   rw[RJ]
   intro x hx
   obtain⟨i,hi,rfl⟩:=Sc.1 hx
   simpa using h3 i (by omega)
theorem HA(fns:List Fd)(k:Nat){vs:List LV}{ch:List Scp}(h:∀s,(lkV vs s).isSome=(ij ch s).isSome)(e:Ex)(c:Int):iG fns k vs e.op e.name e.kids.length c=eZ fns k ch c e:=by
 unfold iG eZ
 split
 ·rw[←h,nh];cases lkV vs e.name<;>rfl
 ·split
  ·rw[jP,bz,bz,AT]
   cases List.findIdx? (λf=>decide (f.name=e.name)) fns with
   |none=>rfl
   |some j=>
    simp only
    by_cases hj:j<k
    ·rw[if_neg (by omega),if_pos hj]
    ·rw[if_pos (by omega),if_neg hj]
  ·rfl
mutual
theorem KB(fns:List Fd)(k:Nat){vs:List LV}{ch:List Scp}(h:∀s,(lkV vs s).isSome=(ij ch s).isSome):∀(e:Ex) (c:Int),mQ fns k vs e c=e.pre.foldl (eZ fns k ch) c
 | .mk o n s ks,c=>by
   rw[mQ,Ex.pre,List.foldl_cons,←vL fns k h ks,←HA fns k h];rfl
theorem vL(fns:List Fd)(k:Nat){vs:List LV}{ch:List Scp}(h:∀s,(lkV vs s).isSome=(ij ch s).isSome):∀(l:List Ex) (c:Int),bl fns k vs l c=(cE l).foldl (eZ fns k ch) c
 |[],c=>rfl
 |e::r,c=>by rw[bl,cE,List.foldl_append,KB fns k h e,vL fns k h r]
end
abbrev g0:LV->Nat:=λ_=>0
theorem Mr{b:Nat}{w:WS}{m:Scp}{up:List Scp}(h:SR g0 b w.vs (m::up))(o:Int)(s:List UInt8):SR g0 b (opW o s b w).vs (opS o s m 0::up)/\(opW o s b w).code=opC o s m up w.code:=by
 unfold opW opS opC
 by_cases h1:o=1
 ·simp only[h1,if_true]
  exact⟨h.add s _ 0 rfl,h.put s _⟩
 ·simp only[if_neg h1]
  split
  ·refine⟨h,?_⟩
   have:=h.is s
   simp only[nh]
   rw[←this]
   cases lkV w.vs s<;>rfl
  ·exact⟨h,rfl⟩
theorem Dh{d:Nat}{o:Int}{s:List UInt8}{a:List Ex}{bd el:List Sm}(h:ay (d+1) (.mk o s a bd el)=true):bd.all (ay d)=true/\el.all (ay d)=true/\(¬(o=5\/o=6)->bd=[]/\el=[]):=by
 simp only[ay,iD,Sm.op,Sm.body,Sm.els,Rv,Bool.or_eq_true,decide_eq_true_eq,List.isEmpty_iff] at h
 refine⟨h.1.2,h.2,λhn=>⟨?_,?_⟩⟩
 ·rcases h.1.1.2 with(h|h)|h
  ·exact h
  ·exact absurd (.inl (of_decide_eq_true h)) hn
  ·exact absurd (.inr (of_decide_eq_true h)) hn
 ·rcases h.1.1.1.2 with h|h
  ·exact h
  ·exact absurd (.inl (of_decide_eq_true h)) hn
theorem cN(w:WS)(vs:List LV):(w.back vs).code=w.code:=rfl
theorem MY(fns:List Fd)(k:Nat):∀(d b:Nat) (l:List Sm),l.all (ay d)=true->∀(w:WS) (m:Scp) (up:List Scp),SR g0 b w.vs (m::up)->
 SR g0 b (bs fns k b l w).vs ((fX fns k l m up w.code).1::up)/\(bs fns k b l w).code=(fX fns k l m up w.code).2:=by
 intro d
 induction d with
 |zero=>
  intro b l hl w m up h
  cases l with
  |nil=>exact⟨h,rfl⟩
  |cons s r=>simp[ay] at hl
 |succ d ih=>
  have mY:∀(b:Nat) (s:Sm),ay (d+1) s=true->∀(w:WS) (m:Scp) (up:List Scp),SR g0 b w.vs (m::up)->
   SR g0 b (stW fns k b s w).vs ((icS fns k s m up w.code).1::up)/\(stW fns k b s w).code=(icS fns k s m up w.code).2:=by
   intro b s hs w m up h
   obtain⟨o,n,a,bd,el⟩:=s
   obtain⟨f1,f2,f3⟩:=Dh hs
   have hc:=vL fns k h.is a w.code
   obtain⟨g1,g2⟩:=Mr (w:=⟨w.vs,w.count,bl fns k w.vs a w.code⟩) h o n
   rw[stW,icS]
   simp only[hc] at g1 g2⊢
   generalize hw2:opW o n b ⟨w.vs,w.count,(cE a).foldl (eZ fns k (m::up)) w.code⟩=w2 at*
   refine⟨g1,?_⟩
   rw[cN]
   have g2':w2.code=opC o n m up (Do fns k (m::up) a w.code):=g2
   rw[←g2']
   by_cases ho:o=5\/o=6
   ·rw[if_pos ho]
    have k1:=ih (b+1) bd f1 w2 [] _ g1.open
    have k2:=ih (b+1) el f2 ((bs fns k (b+1) bd w2).back w2.vs) [] _ g1.open
    rw[k2.2,cN,k1.2]
   ·obtain⟨rfl,rfl⟩:=f3 ho
    rw[if_neg ho]
    simp[bs,WS.back]
  intro b l
  induction l with
  |nil=>intro _ w m up h;exact⟨h,rfl⟩
  |cons s r ihl=>
   intro hl w m up h
   rw[List.all_cons,Rv] at hl
   obtain⟨k1,k2⟩:=mY b s hl.1 w m up h
   have:=ihl hl.2 _ _ up k1
   rw[bs,fX,←k2]
   exact this
theorem AQ:∀(ps:List (List UInt8)) (w:WS) (m:Scp),SR g0 0 w.vs [m]->SR g0 0 (bi ps w).vs [(gV ps m w.code).1]/\(bi ps w).code=(gV ps m w.code).2
 |[],w,m,h=>⟨h,rfl⟩
 |s::r,w,m,h=>by
  have hp:=h.put s w.code
  have:=AQ r (fI w s 0) (fk m s 0) (h.add s w.count 0 rfl)
  simp only[bi,gV,List.foldl_cons] at this⊢
  rw[←hp]
  exact this
theorem Jc{fns:List Fd}{k:Nat}{ch:List Scp}{c:Int}(h:c≠0)(e:Ex):eZ fns k ch c e=c:=by
 unfold eZ
 simp only[vp h]
 split
 ·split<;>rfl
 ·split
  ·split
   ·rfl
   ·split<;>rfl
  ·rfl
theorem zf{fns:List Fd}{k:Nat}{ch:List Scp}{c:Int}(h:c≠0):∀l:List Ex,l.foldl (eZ fns k ch) c=c
 |[]=>rfl
 |e::r=>by rw[List.foldl_cons,Jc h,zf h r]
theorem Ij{o:Int}{s:List UInt8}{m:Scp}{up:List Scp}{c:Int}(h:c≠0):opC o s m up c=c:=by
 unfold opC
 simp only[vp h]
 split
 ·split<;>rfl
 ·split
  ·split<;>rfl
  ·rfl
mutual
theorem Jr(fns:List Fd)(k:Nat){c:Int}(h:c≠0):∀(s:Sm) (m:Scp) (up:List Scp),(icS fns k s m up c).2=c
 | .mk o s a bd el,m,up=>by
   rw[icS]
   simp only[Do,zf h,Ij h]
   rw[nN fns k h bd,nN fns k h el,ite_self]
theorem nN(fns:List Fd)(k:Nat){c:Int}(h:c≠0):∀(l:List Sm) (m:Scp) (up:List Scp),(fX fns k l m up c).2=c
 |[],m,up=>rfl
 |s::r,m,up=>by rw[fX,Jr fns k h s m up,nN fns k h r]
end
theorem sJ{c:Int}(h:c≠0):∀(ps:List (List UInt8)) (m:Scp),(gV ps m c).2=c
 |[],m=>rfl
 |s::r,m=>by
  have:=sJ h r (fk m s 0)
  simp only[gV,List.foldl_cons,vp h,ite_self] at this⊢
  exact this
theorem Ht(fns:List Fd)(k:Nat)(f:Fd){c:Int}(h:c≠0):icF fns k f c=c:=by
 simp only[icF,vp h,ite_self]
 rw[sJ h,nN fns k h]
theorem yp(fns:List Fd){c:Int}(h:c≠0):∀(l:List Fd) (k:Nat),jv fns k l c=c
 |[],k=>rfl
 |f::r,k=>by rw[jv,Ht fns k f h,yp fns h r]
theorem zH{fns:List Fd}{k:Nat}{f:Fd}(h:fns[k]?=some f):∃j,bz fns f.name=some j/\j<=k:=by
 cases e:bz fns f.name with
 |none=>
  rw[bz,RJ] at e
  have:=e f (Ri h)
  simp at this
 |some j=>
  refine⟨j,rfl,?_⟩
  rw[bz,Ru] at e
  obtain⟨h1,h2,h3⟩:=e
  rcases RU k j with hk|hk
  ·have:=h3 k hk
   obtain⟨a1,a2⟩:=Rd.1 h
   rw[a2] at this
   simp at this
  ·exact hk
theorem OL(fns:List Fd){k:Nat}{f:Fd}(hf:fns[k]?=some f)(hok:iZ f=true):(fnW fns k f).code=icF fns k f 0:=by
 obtain⟨j,e1,e2⟩:=zH hf
 have hb:f.body.all (ay 4)=true:=by simp only[iZ,Rv] at hok;exact hok.2
 have hc:(if bz fns f.name=some k then(0:Int) else 2)=if(match bz fns f.name with|some j=>decide (j<k)|none=>true) then fl 0 2 else 0:=by
  rw[e1]
  by_cases h:j=k
  ·subst h;simp
  ·have:j<k:=by omega
   simp[h,this,fl]
 obtain⟨p1,p2⟩:=AQ f.params ⟨[],0,if bz fns f.name=some k then(0:Int) else 2⟩ [] SR.base
 obtain⟨q1,q2⟩:=MY fns k 4 0 f.body hb _ _ [] p1
 rw[fnW,q2,p2]
 simp only[icF,←hc]
theorem IE(fns:List Fd):∀(l:List Fd) (k:Nat),(∀i,l[i]?=fns[k+i]?)->l.all iZ=true->gg fns k l=jv fns k l 0
 |[],k,_,_=>rfl
 |f::r,k,hl,ha=>by
  rw[List.all_cons,Rv] at ha
  have h0:fns[k]?=some f:=by have:=hl 0;simpa using this.symm
  have hr:∀i,r[i]?=fns[k+1+i]?:=λi=>by have:=hl (i+1);rw[Sb] at this;rw[this];congr 1;omega
  rw[gg,jv,OL fns h0 ha.1]
  split
  ·rename_i e;rw[e];exact IE fns r (k+1) hr ha.2
  ·rename_i e;rw[yp fns e]
theorem CN(fns:List Fd):aJ fns=if ce fns then jv fns 0 fns 0 else 1:=by
 unfold aJ
 split
 ·rename_i h
  simp only[ce,Rv] at h
  exact IE fns fns 0 (λi=>by rw[Nat.zero_add]) h.1.2
 ·rfl
end
section
mutual
def rnS(fns:List Fd)(k b:Nat):Sm->WS->Sm
 | .mk o s a bd el,w=>
   let w2:=opW o s b ⟨w.vs,w.count,bl fns k w.vs a w.code⟩
   .mk o (opN o s w) (jA w.vs a) (fY fns k (b+1) bd w2) (fY fns k (b+1) el ((bs fns k (b+1) bd w2).back w2.vs))
def fY(fns:List Fd)(k b:Nat):List Sm->WS->List Sm
 |[],_=>[]
 |s::r,w=>rnS fns k b s w::fY fns k b r (stW fns k b s w)
end
def lP:List (List UInt8)->WS->List (List UInt8)
 |[],_=>[]
 |s::r,w=>vnm w.count::lP r (fI w s 0)
def rnF(fns:List Fd)(k:Nat)(f:Fd):Fd:=
 ⟨f.name,lP f.params ⟨[],0,if bz fns f.name=some k then 0 else 2⟩,fY fns k 0 f.body (bi f.params ⟨[],0,if bz fns f.name=some k then 0 else 2⟩)⟩
mutual
def Gk:Sm->Nat
 | .mk o _ _ bd el=>(if o=1 then 1 else 0)+pj bd+pj el
def pj:List Sm->Nat
 |[]=>0
 |s::r=>Gk s+pj r
end
theorem sH(o:Int)(s:List UInt8)(b:Nat)(w:WS):(opW o s b w).count=w.count+if o=1 then 1 else 0:=by
 unfold opW
 split
 ·rfl
 ·split<;>rfl
mutual
theorem zC(fns:List Fd)(k:Nat):∀(s:Sm) (b:Nat) (w:WS),(stW fns k b s w).count=w.count+Gk s
 | .mk o s a bd el,b,w=>by
   rw[stW,Gk]
   simp only[WS.back]
   rw[gu fns k el,gu fns k bd,sH];show w.count+_+_+_=_
   omega
theorem gu(fns:List Fd)(k:Nat):∀(l:List Sm) (b:Nat) (w:WS),(bs fns k b l w).count=w.count+pj l
 |[],b,w=>rfl
 |s::r,b,w=>by rw[bs,pj,gu fns k r,zC fns k s];omega
end
mutual
theorem Lz:∀s:Sm,Gk s<=s.cnt
 | .mk o s a bd el=>by
   have:=re bd
   have:=re el
   simp only[Gk,Sm.cnt]
   split<;>omega
theorem re:∀l:List Sm,pj l<=de l
 |[]=>Rl _
 |s::r=>by have:=Lz s;have:=re r;simp only[pj,de];omega
end
theorem tr:∀(ps:List (List UInt8)) (w:WS),(bi ps w).count=w.count+ps.length
 |[],w=>rfl
 |s::r,w=>by
  have:=tr r (fI w s 0)
  simp only[bi,List.foldl_cons,Rz] at this⊢
  rw[this];simp only[fI];omega
theorem Lb(o:Int)(s:List UInt8)(b:Nat)(w:WS):∃e,(opW o s b w).vs=e++w.vs:=by
 unfold opW
 split
 ·exact⟨[_],rfl⟩
 ·split<;>exact⟨[],rfl⟩
theorem CQ(fns:List Fd)(k b:Nat)(o:Int)(s:List UInt8)(a:List Ex)(bd el:List Sm)(w:WS):(stW fns k b (.mk o s a bd el) w).vs=(opW o s b ⟨w.vs,w.count,bl fns k w.vs a w.code⟩).vs:=rfl
theorem Bg(fns:List Fd)(k:Nat):∀(l:List Sm) (b:Nat) (w:WS),∃e,(bs fns k b l w).vs=e++w.vs
 |[],b,w=>⟨[],rfl⟩
 | .mk o s a bd el::r,b,w=>by
   obtain⟨e1,h1⟩:=Bg fns k r b (stW fns k b (.mk o s a bd el) w)
   obtain⟨e2,h2⟩:=Lb o s b ⟨w.vs,w.count,bl fns k w.vs a w.code⟩
   exact⟨e1++e2,by rw[bs,h1,CQ,h2,RT]⟩
theorem Ni{o:Int}{s:List UInt8}{b:Nat}{w:WS}(h:w.vs.length<=w.count):(opW o s b w).vs.length<=(opW o s b w).count:=by
 unfold opW
 split
 ·simp[fI,h]
 ·split<;>exact h
theorem Nh(fns:List Fd)(k:Nat){s:Sm}{b:Nat}{w:WS}(h:w.vs.length<=w.count):(stW fns k b s w).vs.length<=(stW fns k b s w).count:=by
 obtain⟨o,n,a,bd,el⟩:=s
 rw[zC,CQ]
 have:=Ni (o:=o) (s:=n) (b:=b) (w:=⟨w.vs,w.count,bl fns k w.vs a w.code⟩) h
 rw[sH] at this
 simp only[Gk]
 simp only at this
 omega
theorem Fa(fns:List Fd)(k:Nat):∀{l:List Sm} {b:Nat} {w:WS},w.vs.length<=w.count->(bs fns k b l w).vs.length<=(bs fns k b l w).count
 |[],_,_,h=>h
 |s::r,b,w,h=>Fa fns k (l:=r) (Nh fns k h)
mutual
def Sm.pre(d:Nat):Sm->List (Sm × Nat)
 | .mk o s a bd el=>(.mk o s a bd el,d)::(bg (d+1) bd++bg (d+1) el)
def bg(d:Nat):List Sm->List (Sm × Nat)
 |[]=>[]
 |s::r=>Sm.pre d s++bg d r
end
theorem Sm.pre_eq(d:Nat)(s:Sm):s.pre d=(s,d)::(bg (d+1) s.body++bg (d+1) s.els):=by cases s;rfl
theorem pn(d:Nat):∀a b:List Sm,bg d (a++b)=bg d a++bg d b
 |[],b=>rfl
 |s::r,b=>by rw[RW,bg,bg,pn d r b,RT]
theorem Ex.pre_eq(e:Ex):e.pre=e::cE e.kids:=by cases e;rfl
theorem rR:∀a b:List Ex,cE (a++b)=cE a++cE b
 |[],b=>rfl
 |e::r,b=>by rw[RW,cE,cE,rR r b,RT]
mutual
theorem Sm.pre_len:∀(s:Sm) (d:Nat),(s.pre d).length=s.cnt
 | .mk o s a bd el,d=>by simp only[Sm.pre,Sm.cnt,Rz,Rx,jw bd,jw el];omega
theorem jw:∀(l:List Sm) (d:Nat),(bg d l).length=de l
 |[],d=>rfl
 |s::r,d=>by simp only[bg,de,Rx,Sm.pre_len s,jw r]
end
end
section
theorem sy{vs:List LV}{s:List UInt8}{c:Int}(h:c≠0):nh vs s c=c:=by unfold nh;split<;>simp[vp h]
theorem DT{fns:List Fd}{k:Nat}{s:List UInt8}{n:Nat}{c:Int}(h:c≠0):jP fns k s n c=c:=by
 unfold jP
 simp only[vp h]
 split
 ·rfl
 ·split
  ·rfl
  ·split<;>rfl
theorem CX{fns:List Fd}{k:Nat}{vs:List LV}{o:Int}{s:List UInt8}{n:Nat}{c:Int}(h:c≠0):iG fns k vs o s n c=c:=by
 unfold iG
 rw[sy h,DT h]
 split
 ·rfl
 ·split<;>rfl
mutual
theorem FF(fns:List Fd)(k:Nat)(vs:List LV){c:Int}(h:c≠0):∀e:Ex,mQ fns k vs e c=c
 | .mk o n s ks=>by rw[mQ,CX h,lX fns k vs h ks]
theorem lX(fns:List Fd)(k:Nat)(vs:List LV){c:Int}(h:c≠0):∀l:List Ex,bl fns k vs l c=c
 |[]=>rfl
 |e::r=>by rw[bl,FF fns k vs h e,lX fns k vs h r]
end
theorem fd{fns:List Fd}{k:Nat}{vs:List LV}{l:List Ex}{c:Int}(h:bl fns k vs l c=0):c=0:=by
 by_cases hc:c=0
 ·exact hc
 ·rw[lX fns k vs hc] at h;exact h
theorem zn{vs:List LV}{s:List UInt8}{c:Int}(h:nh vs s c=0):c=0/\∃v,lkV vs s=some v:=by
 by_cases hc:c=0
 ·refine⟨hc,?_⟩
  unfold nh at h
  cases e:lkV vs s with
  |some v=>exact⟨v,rfl⟩
  |none=>rw[e] at h;simp[fl,hc] at h
 ·rw[sy hc] at h;exact absurd h hc
theorem Bx{o:Int}{s:List UInt8}{b:Nat}{w:WS}(h:w.code≠0):(opW o s b w).code=w.code:=by
 unfold opW
 split
 ·simp only[fI,og,vp h]
  split
  ·rfl
  ·split<;>rfl
 ·split
  ·exact sy h
  ·rfl
mutual
theorem He(fns:List Fd)(k:Nat):∀(s:Sm) (b:Nat) (w:WS),w.code≠0->(stW fns k b s w).code=w.code
 | .mk o s a bd el,b,w,h=>by
   have e1:(bl fns k w.vs a w.code)=w.code:=lX fns k w.vs h a
   have e2:(opW o s b ⟨w.vs,w.count,bl fns k w.vs a w.code⟩).code=w.code:=by rw[Bx]<;>simp only[e1];exact h
   have e3:=nD fns k bd (b+1) (opW o s b ⟨w.vs,w.count,bl fns k w.vs a w.code⟩) (by rw[e2];exact h)
   rw[stW,cN,nD fns k el _ _ (by rw[cN,e3,e2];exact h),cN,e3,e2]
theorem nD(fns:List Fd)(k:Nat):∀(l:List Sm) (b:Nat) (w:WS),w.code≠0->(bs fns k b l w).code=w.code
 |[],b,w,h=>rfl
 |s::r,b,w,h=>by
  have e1:=He fns k s b w h
  rw[bs,nD fns k r b _ (by rw[e1];exact h),e1]
end
theorem cu{fns:List Fd}{k b:Nat}{l:List Sm}{w:WS}(h:(bs fns k b l w).code=0):w.code=0:=by
 by_cases hc:w.code=0
 ·exact hc
 ·rw[nD fns k l b w hc] at h;exact h
theorem vW{o:Int}{s:List UInt8}{b:Nat}{w:WS}(h:(opW o s b w).code=0):w.code=0:=by
 by_cases hc:w.code=0
 ·exact hc
 ·rw[Bx hc] at h;exact h
end
section
theorem mJ(fns:List Fd):∀(l:List Fd) (k:Nat),gg fns k l=0↔∀(i:Nat) (f:Fd),l[i]?=some f->(fnW fns (k+i) f).code=0
 |[],k=>by simp[gg]
 |f::r,k=>by
  rw[gg]
  have ih:=mJ fns r (k+1)
  constructor
  ·intro h i g hg
   by_cases h0:(fnW fns k f).code=0
   ·rw[if_pos h0] at h
    cases i with
    |zero=>cases hg;exact h0
    |succ i=>have:=ih.1 h i g (by simpa using hg);rwa[show k+(i+1)=k+1+i by omega]
   ·rw[if_neg h0] at h;exact absurd h h0
  ·intro h
   rw[if_pos (by have:=h 0 f rfl;rwa[Nat.add_zero] at this)]
   exact ih.2 λi g hg=>by have:=h (i+1) g (by simpa using hg);rwa[show k+(i+1)=k+1+i by omega] at this
theorem zW(l:List Fd):aJ l=0↔ce l=true/\∀(k:Nat) (f:Fd),l[k]?=some f->(fnW l k f).code=0:=by
 unfold aJ
 by_cases h:ce l=true
 ·rw[if_pos h,mJ];simp[h]
 ·rw[if_neg h];simp[h]
theorem yb(l:List Fd):ce l=true↔(1<=l.length/\l.length<=4)/\(∀f∈l,iZ f=true)/\kT l<=40:=by
 simp only[ce,inR,Rv,decide_eq_true_eq,Rk]
 constructor
 ·rintro⟨⟨⟨h1,h2⟩,h3⟩,h4⟩;exact⟨⟨by omega,by omega⟩,h3,h4⟩
 ·rintro⟨⟨h1,h2⟩,h3,h4⟩;exact⟨⟨⟨by omega,by omega⟩,h3⟩,h4⟩
def Fd.cut(f:Fd)(n:Nat):Fd:=⟨f.name,f.params,f.body.take n⟩
end
section
abbrev Sc5:=List (List UInt8 × Int)
structure S5 where (left:Nat) (said:List Int) (cells:List Int)
inductive O5 (α:Type) where
 |ok (a:α)
 |st (c:Int)
def bt:Sc5->List UInt8->Option Int
 |[],_=>none
 |x::r,s=>if x.1=s then some x.2 else bt r s
def sset:Sc5->List UInt8->Int->Sc5
 |[],_,_=>[]
 |x::r,s,n=>if x.1=s then(s,n)::r else x::sset r s n
def fw:List Sc5->List UInt8->Option Int
 |[],_=>none
 |m::r,s=>match bt m s with|some n=>some n|none=>fw r s
def fx:List Sc5->List UInt8->Int->List Sc5
 |[],_,_=>[]
 |m::r,s,n=>if(bt m s).isSome then sset m s n::r else m::fx r s n
def tr5(b:Bool):Int:=if b then 1 else 0
def Ao(op a b:Int):Option Int:=
 if op=3 then some ((a+b)%256) else if op=4 then some ((a-b+256)%256) else if op=5 then some (a*b%256) else if op=8 then some (tr5 (decide (a<b))) else if op=9 then some (tr5 (decide (a=b)))
 else if b=0 then none else if op=6 then some (a/b) else some (a%b)
def S5.say(s:S5)(n:Int):S5:=⟨s.left,s.said++[n],s.cells⟩
def S5.put(s:S5)(i:Nat)(n:Int):S5:=⟨s.left,s.said,s.cells.set i n⟩
def S5.at_(s:S5)(F:Nat):S5:=⟨F,s.said,s.cells⟩
def V5(n:Int):Prop:=0<=n/\n<=255
inductive J5 where
 |ex (k:Nat) (v:List Sc5) (s:S5) (e:Ex) (s':S5) (r:O5 Int)
 |exs (k:Nat) (v:List Sc5) (s:S5) (es:List Ex) (s':S5) (r:O5 (List Int))
 |cal (k:Nat) (us:List Int) (s:S5) (s':S5) (r:O5 Int)
 |stm (k:Nat) (v:List Sc5) (s:S5) (x:Sm) (v':List Sc5) (s':S5) (r:O5 (Option Int))
 |blk (k:Nat) (v:List Sc5) (s:S5) (xs:List Sm) (v':List Sc5) (s':S5) (r:O5 (Option Int))
 |lp (k:Nat) (v:List Sc5) (s:S5) (x:Sm) (v':List Sc5) (s':S5) (r:O5 (Option Int))
def DL:O5 (Option Int)->O5 Int
 | .ok (some n)=> .ok n
 | .ok none=> .ok 0
 | .st c=> .st c
inductive Ev (l:List Fd):J5->Prop where
 |num {k v s e}:e.op=1->V5 e.n->Ev l (.ex k v s e s (.ok e.n))
 |var {k v s e n}:e.op=2->fw v e.name=some n->Ev l (.ex k v s e s (.ok n))
 |call {k v s e s1 us j s2 r}:e.op=13->Ev l (.exs k v s e.kids s1 (.ok us))->bz l e.name=some j->j<k->Ev l (.cal j us s1 s2 r)->Ev l (.ex k v s e s2 r)
 |callS {k v s e s1 c}:e.op=13->Ev l (.exs k v s e.kids s1 (.st c))->Ev l (.ex k v s e s1 (.st c))
 |firstS {k v s e a r s1 c}:3<=e.op->e.op<=12->e.kids=a::r->Ev l (.ex k v s a s1 (.st c))->Ev l (.ex k v s e s1 (.st c))
 |and0 {k v s e a b s1}:e.op=10->e.kids=[a,b]->Ev l (.ex k v s a s1 (.ok 0))->Ev l (.ex k v s e s1 (.ok 0))
 |and1 {k v s e a b s1 n s2 m}:e.op=10->e.kids=[a,b]->Ev l (.ex k v s a s1 (.ok n))->n≠0->Ev l (.ex k v s1 b s2 (.ok m))->Ev l (.ex k v s e s2 (.ok (tr5 (decide (m≠0)))))
 |andS {k v s e a b s1 n s2 c}:e.op=10->e.kids=[a,b]->Ev l (.ex k v s a s1 (.ok n))->n≠0->Ev l (.ex k v s1 b s2 (.st c))->Ev l (.ex k v s e s2 (.st c))
 |not {k v s e a s1 n}:e.op=11->e.kids=[a]->Ev l (.ex k v s a s1 (.ok n))->Ev l (.ex k v s e s1 (.ok (tr5 (decide (n=0)))))
 |at_ {k v s e a s1 n m}:e.op=12->e.kids=[a]->Ev l (.ex k v s a s1 (.ok (n:Nat)))->n<16->s1.cells[n]?=some m->Ev l (.ex k v s e s1 (.ok m))
 |atS {k v s e a s1 n}:e.op=12->e.kids=[a]->Ev l (.ex k v s a s1 (.ok n))->16<=n->Ev l (.ex k v s e s1 (.st 2))
 |bin {k v s e a b s1 n s2 m q}:3<=e.op->e.op<=9->e.kids=[a,b]->Ev l (.ex k v s a s1 (.ok n))->Ev l (.ex k v s1 b s2 (.ok m))->Ao e.op n m=some q->Ev l (.ex k v s e s2 (.ok q))
 |binS {k v s e a b s1 n s2 c}:3<=e.op->e.op<=9->e.kids=[a,b]->Ev l (.ex k v s a s1 (.ok n))->Ev l (.ex k v s1 b s2 (.st c))->Ev l (.ex k v s e s2 (.st c))
 |binD {k v s e a b s1 n s2 m}:3<=e.op->e.op<=9->e.kids=[a,b]->Ev l (.ex k v s a s1 (.ok n))->Ev l (.ex k v s1 b s2 (.ok m))->Ao e.op n m=none->Ev l (.ex k v s e s2 (.st 1))
 |nil {k v s}:Ev l (.exs k v s [] s (.ok []))
 |cons {k v s a r s1 n s2 ns}:Ev l (.ex k v s a s1 (.ok n))->Ev l (.exs k v s1 r s2 (.ok ns))->Ev l (.exs k v s (a::r) s2 (.ok (n::ns)))
 |consS {k v s a r s1 c}:Ev l (.ex k v s a s1 (.st c))->Ev l (.exs k v s (a::r) s1 (.st c))
 |consT {k v s a r s1 n s2 c}:Ev l (.ex k v s a s1 (.ok n))->Ev l (.exs k v s1 r s2 (.st c))->Ev l (.exs k v s (a::r) s2 (.st c))
 |cal {k f us s v' s' r}:l[k]?=some f->f.params.length=us.length->Ev l (.blk k [f.params.zip us] s f.body v' s' r)->Ev l (.cal k us s s' (DL r))
 |bnil {k v s}:Ev l (.blk k v s [] v s (.ok none))
 |bfuel {k v s x r}:s.left=0->Ev l (.blk k v s (x::r) v s (.st 3))
 |bgo {k v s x r F v1 s1 v2 s2 q}:s.left=F+1->Ev l (.stm k v (s.at_ F) x v1 s1 (.ok none))->Ev l (.blk k v1 s1 r v2 s2 q)->Ev l (.blk k v s (x::r) v2 s2 q)
 |bend {k v s x r F v1 s1 q}:s.left=F+1->Ev l (.stm k v (s.at_ F) x v1 s1 q)->q≠ .ok none->Ev l (.blk k v s (x::r) v1 s1 q)
 |argS {k v s x a r s1 c}:x.op≠6->x.args=a::r->Ev l (.ex k v s a s1 (.st c))->Ev l (.stm k v s x v s1 (.st c))
 |slet {k v s x a s1 n m up}:x.op=1->x.args=[a]->Ev l (.ex k v s a s1 (.ok n))->v=m::up->bt m x.name=none->Ev l (.stm k v s x ((m++[(x.name,n)])::up) s1 (.ok none))
 |sset {k v s x a s1 n}:x.op=2->x.args=[a]->Ev l (.ex k v s a s1 (.ok n))->(fw v x.name).isSome=true->Ev l (.stm k v s x (fx v x.name n) s1 (.ok none))
 |ssay {k v s x a s1 n}:x.op=3->x.args=[a]->Ev l (.ex k v s a s1 (.ok n))->Ev l (.stm k v s x v (s1.say n) (.ok none))
 |sput {k v s x a b s1 n s2 m}:x.op=4->x.args=[a,b]->Ev l (.ex k v s a s1 (.ok (n:Nat)))->Ev l (.ex k v s1 b s2 (.ok m))->n<16->Ev l (.stm k v s x v (s2.put n m) (.ok none))
 |sputC {k v s x a b s1 n s2 m}:x.op=4->x.args=[a,b]->Ev l (.ex k v s a s1 (.ok n))->Ev l (.ex k v s1 b s2 (.ok m))->16<=n->Ev l (.stm k v s x v s2 (.st 2))
 |sputS {k v s x a b s1 n s2 c}:x.op=4->x.args=[a,b]->Ev l (.ex k v s a s1 (.ok n))->Ev l (.ex k v s1 b s2 (.st c))->Ev l (.stm k v s x v s2 (.st c))
 |sif {k v s x a s1 n m v' s2 q}:x.op=5->x.args=[a]->Ev l (.ex k v s a s1 (.ok n))->Ev l (.blk k ([]::v) s1 (if n≠0 then x.body else x.els) (m::v') s2 q)->Ev l (.stm k v s x v' s2 q)
 |sloop {k v s x v' s' q}:x.op=6->Ev l (.lp k v s x v' s' q)->Ev l (.stm k v s x v' s' q)
 |sback {k v s x a s1 n}:x.op=7->x.args=[a]->Ev l (.ex k v s a s1 (.ok n))->Ev l (.stm k v s x v s1 (.ok (some n)))
 |sdo {k v s x a s1 n}:x.op=8->x.args=[a]->Ev l (.ex k v s a s1 (.ok n))->Ev l (.stm k v s x v s1 (.ok none))
 |lpS {k v s x a s1 c}:x.args=[a]->Ev l (.ex k v s a s1 (.st c))->Ev l (.lp k v s x v s1 (.st c))
 |lp0 {k v s x a s1}:x.args=[a]->Ev l (.ex k v s a s1 (.ok 0))->Ev l (.lp k v s x v s1 (.ok none))
 |lpEnd {k v s x a s1 n m v' s2 q}:x.args=[a]->Ev l (.ex k v s a s1 (.ok n))->n≠0->Ev l (.blk k ([]::v) s1 x.body (m::v') s2 q)->q≠ .ok none->Ev l (.lp k v s x v' s2 q)
 |lpFuel {k v s x a s1 n m v' s2}:x.args=[a]->Ev l (.ex k v s a s1 (.ok n))->n≠0->Ev l (.blk k ([]::v) s1 x.body (m::v') s2 (.ok none))->s2.left=0->Ev l (.lp k v s x v' s2 (.st 3))
 |lpGo {k v s x a s1 n m v' s2 F v'' s3 q}:x.args=[a]->Ev l (.ex k v s a s1 (.ok n))->n≠0->Ev l (.blk k ([]::v) s1 x.body (m::v') s2 (.ok none))->s2.left=F+1->Ev l (.lp k v' (s2.at_ F) x v'' s3 q)->Ev l (.lp k v s x v'' s3 q)
end
section
structure G5 (s:S5):Prop where
 len:s.cells.length=16
 cells:∀c∈s.cells,V5 c
 said:∀c∈s.said,V5 c
def GE5(v:List Sc5):Prop:=∀m∈v,∀x∈m,V5 x.2
theorem Cg:∀{m:Sc5} {s:List UInt8} {n:Int},bt m s=some n->(s,n)∈m
 |[],_,_,h=>by cases h
 |x::r,s,n,h=>by
  rw[bt] at h
  by_cases e:x.1=s
  ·rw[if_pos e] at h;cases h;subst e;simp
  ·rw[if_neg e] at h;exact Sh _ (Cg h)
theorem ta:∀{v:List Sc5} {s:List UInt8} {n:Int},GE5 v->fw v s=some n->V5 n
 |[],_,_,_,h=>by cases h
 |m::r,s,n,g,h=>by
  rw[fw] at h
  cases e:bt m s with
  |some q=>
   rw[e] at h;cases h
   exact g m (by simp) _ (Cg e)
  |none=>
   rw[e] at h
   exact ta (λm hm=>g m (by simp[hm])) h
theorem zi:∀{m:Sc5} {s:List UInt8} {n:Int},(∀x∈m,V5 x.2)->V5 n->∀x∈sset m s n,V5 x.2
 |[],_,_,_,_,x,hx=>by cases hx
 |y::r,s,n,g,hn,x,hx=>by
  rw[sset] at hx
  split at hx
  ·rcases Rm.1 hx with rfl|hx
   ·exact hn
   ·exact g x (by simp[hx])
  ·rcases Rm.1 hx with rfl|hx
   ·exact g x (by simp)
   ·exact zi (λx hx=>g x (by simp[hx])) hn x hx
theorem zk:∀{v:List Sc5} {s:List UInt8} {n:Int},GE5 v->V5 n->GE5 (fx v s n)
 |[],_,_,g,_=>g
 |m::r,s,n,g,hn=>by
  rw[fx]
  split
  ·intro q hq
   rcases Rm.1 hq with rfl|hq
   ·exact zi (g m (by simp)) hn
   ·exact g q (by simp[hq])
  ·intro q hq
   rcases Rm.1 hq with rfl|hq
   ·exact g q (by simp)
   ·exact zk (λm hm=>g m (by simp[hm])) hn q hq
theorem fA(b:Bool):V5 (tr5 b):=by cases b<;>simp[tr5,V5]
theorem zu{op a b n:Int}(ha:V5 a)(hb:V5 b)(h:Ao op a b=some n):V5 n:=by
 obtain⟨a0,a1⟩:=ha
 obtain⟨b0,b1⟩:=hb
 unfold Ao at h
 split at h
 ·cases h;unfold V5;omega
 split at h
 ·cases h;unfold V5;omega
 split at h
 ·cases h
  have:0<=a*b:=Int.mul_nonneg a0 b0
  unfold V5
  generalize a*b=q at*
  omega
 split at h
 ·cases h;exact fA _
 split at h
 ·cases h;exact fA _
 split at h
 ·cases h
 split at h
 ·cases h
  have h1:0<=a/b:=Int.ediv_nonneg a0 b0
  have h2:a/b<=a:=Int.ediv_le_self b a0
  exact⟨h1,by omega⟩
 ·cases h
  rename_i hb0 _
  have h1:0<=a%b:=Int.emod_nonneg a hb0
  have h2:a%b<b:=Int.emod_lt_of_pos a (by omega)
  exact⟨h1,by omega⟩
theorem G5.say{s:S5}(g:G5 s){n:Int}(hn:V5 n):G5 (s.say n):=⟨g.len,g.cells,λc hc=>by
 rcases Rr.1 hc with h|h
 ·exact g.said c h
 ·rw[Rq.1 h];exact hn⟩
theorem G5.put{s:S5}(g:G5 s)(i:Nat){n:Int}(hn:V5 n):G5 (s.put i n):=⟨by rw[←g.len];exact RQ,λc hc=>by
 rcases List.mem_or_eq_of_mem_set hc with h|h
 ·exact g.cells c h
 ·rw[h];exact hn,g.said⟩
theorem G5.at_{s:S5}(g:G5 s)(F:Nat):G5 (s.at_ F):=⟨g.len,g.cells,g.said⟩
def Qr:J5->Prop
 | .ex _ v s _ _ _=>G5 s/\GE5 v
 | .exs _ v s _ _ _=>G5 s/\GE5 v
 | .cal _ us s _ _=>G5 s/\∀n∈us,V5 n
 | .stm _ v s _ _ _ _=>G5 s/\GE5 v
 | .blk _ v s _ _ _ _=>G5 s/\GE5 v
 | .lp _ v s _ _ _ _=>G5 s/\GE5 v
def OU:J5->Prop
 | .ex _ _ s _ s' r=>G5 s'/\s'.left<=s.left/\∀n,r= .ok n->V5 n
 | .exs _ _ s es s' r=>G5 s'/\s'.left<=s.left/\∀ns,r= .ok ns->ns.length=es.length/\∀n∈ns,V5 n
 | .cal _ _ s s' r=>G5 s'/\s'.left<=s.left/\∀n,r= .ok n->V5 n
 | .stm _ _ s _ v' s' r=>G5 s'/\s'.left<=s.left/\GE5 v'/\∀n,r= .ok (some n)->V5 n
 | .blk _ _ s _ v' s' r=>G5 s'/\s'.left<=s.left/\GE5 v'/\∀n,r= .ok (some n)->V5 n
 | .lp _ _ s _ v' s' r=>G5 s'/\s'.left<=s.left/\GE5 v'/\∀n,r= .ok (some n)->V5 n
theorem GE5.tail{m:Sc5}{v:List Sc5}(g:GE5 (m::v)):GE5 v:=λq hq=>g q (by simp[hq])
theorem GE5.opn{v:List Sc5}(g:GE5 v):GE5 ([]::v):=λq hq=>by
 rcases Rm.1 hq with rfl|hq
 ·intro x hx;cases hx
 ·exact g q hq
theorem cG{l:List Fd}{j:J5}(h:Ev l j):Qr j->OU j:=by
 induction h with
 |num _ h=>exact λp=>⟨p.1,Rl _,λn e=>by cases e;exact h⟩
 |var _ h=>exact λp=>⟨p.1,Rl _,λn e=>by cases e;exact ta p.2 h⟩
 |call _ _ _ _ _ i1 i2=>
   intro p
   have a:=i1 p
   have b:=i2 ⟨a.1,(a.2.2 _ rfl).2⟩
   exact⟨b.1,Ry b.2.1 a.2.1,b.2.2⟩
 |callS _ _ i1=>
   intro p
   have a:=i1 p
   exact⟨a.1,a.2.1,λn e=>by cases e⟩
 |firstS _ _ _ _ i1=>
   intro p
   have a:=i1 p
   exact⟨a.1,a.2.1,λn e=>by cases e⟩
 |and0 _ _ _ i1=>
   intro p
   have a:=i1 p
   exact⟨a.1,a.2.1,λn e=>by cases e;exact⟨by omega,by omega⟩⟩
 |and1 _ _ _ _ _ i1 i2=>
   intro p
   have a:=i1 p
   have b:=i2 ⟨a.1,p.2⟩
   exact⟨b.1,Ry b.2.1 a.2.1,λn e=>by cases e;exact fA _⟩
 |andS _ _ _ _ _ i1 i2=>
   intro p
   have a:=i1 p
   have b:=i2 ⟨a.1,p.2⟩
   exact⟨b.1,Ry b.2.1 a.2.1,λn e=>by cases e⟩
 |not _ _ _ i1=>
   intro p
   have a:=i1 p
   exact⟨a.1,a.2.1,λn e=>by cases e;exact fA _⟩
 |at_ _ _ _ _ hm i1=>
   intro p
   have a:=i1 p
   exact⟨a.1,a.2.1,λn e=>by cases e;exact a.1.cells _ (Ri hm)⟩
 |atS _ _ _ _ i1=>
   intro p
   have a:=i1 p
   exact⟨a.1,a.2.1,λn e=>by cases e⟩
 |bin _ _ _ _ _ ht i1 i2=>
   intro p
   have a:=i1 p
   have b:=i2 ⟨a.1,p.2⟩
   exact⟨b.1,Ry b.2.1 a.2.1,λn e=>by cases e;exact zu (a.2.2 _ rfl) (b.2.2 _ rfl) ht⟩
 |binS _ _ _ _ _ i1 i2=>
   intro p
   have a:=i1 p
   have b:=i2 ⟨a.1,p.2⟩
   exact⟨b.1,Ry b.2.1 a.2.1,λn e=>by cases e⟩
 |binD _ _ _ _ _ _ i1 i2=>
   intro p
   have a:=i1 p
   have b:=i2 ⟨a.1,p.2⟩
   exact⟨b.1,Ry b.2.1 a.2.1,λn e=>by cases e⟩
 |nil=>exact λp=>⟨p.1,Rl _,λns e=>by cases e;exact⟨rfl,λn h=>by cases h⟩⟩
 |cons _ _ i1 i2=>
   intro p
   have a:=i1 p
   have b:=i2 ⟨a.1,p.2⟩
   refine⟨b.1,Ry b.2.1 a.2.1,λns e=>?_⟩
   cases e
   obtain⟨k1,k2⟩:=b.2.2 _ rfl
   refine⟨by simp[k1],λn hn=>?_⟩
   rcases Rm.1 hn with rfl|hn
   ·exact a.2.2 _ rfl
   ·exact k2 n hn
 |consS _ i1=>
   intro p
   have a:=i1 p
   exact⟨a.1,a.2.1,λn e=>by cases e⟩
 |consT _ _ i1 i2=>
   intro p
   have a:=i1 p
   have b:=i2 ⟨a.1,p.2⟩
   exact⟨b.1,Ry b.2.1 a.2.1,λn e=>by cases e⟩
 | @cal k f us s v' s' r _ _ _ i1=>
    intro p
    have a:=i1 ⟨p.1,λm hm x hx=>by
     rw[Rq.1 hm] at hx
     exact p.2 _ (List.of_mem_zip hx).2⟩
    refine⟨a.1,a.2.1,λn e=>?_⟩
    match r,e with
    | .ok (some q),e=>cases e;exact a.2.2.2 _ rfl
    | .ok none,e=>cases e;exact⟨by omega,by omega⟩
 |bnil=>exact λp=>⟨p.1,Rl _,p.2,λn e=>by cases e⟩
 |bfuel _=>exact λp=>⟨p.1,Rl _,p.2,λn e=>by cases e⟩
 | @bgo k v s x r F v1 s1 v2 s2 q hF _ _ i1 i2=>
    intro p
    have a:=i1 ⟨p.1.at_ F,p.2⟩
    have b:=i2 ⟨a.1,a.2.2.1⟩
    have h1:s1.left<=F:=a.2.1
    exact⟨b.1,by have:=b.2.1;omega,b.2.2⟩
 | @bend k v s x r F v1 s1 q hF _ _ i1=>
    intro p
    have a:=i1 ⟨p.1.at_ F,p.2⟩
    have h1:s1.left<=F:=a.2.1
    exact⟨a.1,by omega,a.2.2⟩
 |argS _ _ _ i1=>
   intro p
   have a:=i1 p
   exact⟨a.1,a.2.1,p.2,λn e=>by cases e⟩
 | @slet k v s x a s1 n m up _ _ _ hv _ i1=>
    intro p
    have a:=i1 p
    subst hv
    refine⟨a.1,a.2.1,λq hq=>?_,λn e=>by cases e⟩
    rcases Rm.1 hq with rfl|hq
    ·intro y hy
     rcases Rr.1 hy with h|h
     ·exact p.2 m (by simp) y h
     ·rw[Rq.1 h];exact a.2.2 _ rfl
    ·exact p.2 q (by simp[hq])
 |sset _ _ _ _ i1=>
   intro p
   have a:=i1 p
   exact⟨a.1,a.2.1,zk p.2 (a.2.2 _ rfl),λn e=>by cases e⟩
 |ssay _ _ _ i1=>
   intro p
   have a:=i1 p
   exact⟨a.1.say (a.2.2 _ rfl),a.2.1,p.2,λn e=>by cases e⟩
 |sput _ _ _ _ _ i1 i2=>
   intro p
   have a:=i1 p
   have b:=i2 ⟨a.1,p.2⟩
   exact⟨b.1.put _ (b.2.2 _ rfl),Ry b.2.1 a.2.1,p.2,λn e=>by cases e⟩
 |sputC _ _ _ _ _ i1 i2=>
   intro p
   have a:=i1 p
   have b:=i2 ⟨a.1,p.2⟩
   exact⟨b.1,Ry b.2.1 a.2.1,p.2,λn e=>by cases e⟩
 |sputS _ _ _ _ i1 i2=>
   intro p
   have a:=i1 p
   have b:=i2 ⟨a.1,p.2⟩
   exact⟨b.1,Ry b.2.1 a.2.1,p.2,λn e=>by cases e⟩
 |sif _ _ _ _ i1 i2=>
   intro p
   have a:=i1 p
   have b:=i2 ⟨a.1,p.2.opn⟩
   exact⟨b.1,Ry b.2.1 a.2.1,b.2.2.1.tail,b.2.2.2⟩
 |sloop _ _ i1=>exact i1
 |sback _ _ _ i1=>
   intro p
   have a:=i1 p
   exact⟨a.1,a.2.1,p.2,λn e=>by cases e;exact a.2.2 _ rfl⟩
 |sdo _ _ _ i1=>
   intro p
   have a:=i1 p
   exact⟨a.1,a.2.1,p.2,λn e=>by cases e⟩
 |lpS _ _ i1=>
   intro p
   have a:=i1 p
   exact⟨a.1,a.2.1,p.2,λn e=>by cases e⟩
 |lp0 _ _ i1=>
   intro p
   have a:=i1 p
   exact⟨a.1,a.2.1,p.2,λn e=>by cases e⟩
 |lpEnd _ _ _ _ _ i1 i2=>
   intro p
   have a:=i1 p
   have b:=i2 ⟨a.1,p.2.opn⟩
   exact⟨b.1,Ry b.2.1 a.2.1,b.2.2.1.tail,b.2.2.2⟩
 |lpFuel _ _ _ _ _ i1 i2=>
   intro p
   have a:=i1 p
   have b:=i2 ⟨a.1,p.2.opn⟩
   exact⟨b.1,Ry b.2.1 a.2.1,b.2.2.1.tail,λn e=>by cases e⟩
 | @lpGo k v s x a s1 n m v' s2 F v'' s3 q _ _ _ _ hF _ i1 i2 i3=>
    intro p
    have a:=i1 p
    have b:=i2 ⟨a.1,p.2.opn⟩
    have c:=i3 ⟨b.1.at_ F,b.2.2.1.tail⟩
    have h1:s3.left<=F:=c.2.1
    have h2:s2.left<=s1.left:=b.2.1
    have h3:s1.left<=s.left:=a.2.1
    exact⟨c.1,by omega,c.2.2⟩
end
section
def er(m:Sc5):Scp:=m.map λx=>(x.1,0)
def ers(v:List Sc5):List Scp:=v.map er
theorem zU(s:List UInt8):∀m:Sc5,dg (er m) s=(bt m s).map λ_=>0
 |[]=>rfl
 |x::r=>by
  have ih:=zU s r
  simp only[dg,er] at ih
  by_cases h:x.1=s
  ·simp[dg,er,bt,h]
  ·simp only[dg,er,RF,List.find?_cons,h,decide_false,bt,if_neg h]
   exact ih
theorem Bh(s:List UInt8):∀v:List Sc5,ij (ers v) s=(fw v s).map λ_=>0
 |[]=>rfl
 |m::r=>by
  have ih:=Bh s r
  simp only[ers] at ih
  rw[ers,RF,ij,fw,zU]
  cases bt m s with
  |some n=>rfl
  |none=>exact ih
theorem Mp{m:Sc5}{s:List UInt8}{n:Int}(h:bt m s=none):er (m++[(s,n)])=fk (er m) s 0:=by
 induction m with
 |nil=>rfl
 |cons x r ih=>
  rw[bt] at h
  by_cases e:x.1=s
  ·rw[if_pos e] at h;cases h
  ·rw[if_neg e] at h
   have ih:=ih h
   simp only[er] at ih
   simp only[er,RW,RF,fk,if_neg e]
   rw[ih]
theorem Hv{s:List UInt8}{n:Int}:∀m:Sc5,er (sset m s n)=er m
 |[]=>rfl
 |x::r=>by
  have ih:=Hv (s:=s) (n:=n) r
  simp only[er] at ih
  rw[sset]
  split
  ·rename_i e;simp[er,←e]
  ·simp[er,ih]
theorem zX{s:List UInt8}{n:Int}:∀v:List Sc5,ers (fx v s n)=ers v
 |[]=>rfl
 |m::r=>by
  have ih:=zX (s:=s) (n:=n) r
  rw[fx]
  split
  ·simp only[ers,RF,Hv]
  ·simp only[ers,RF] at ih⊢
   rw[ih]
theorem vu{v:List Sc5}{m:Sc5}{up:List Sc5}(h:ers v=ers (m::up)):∃m' up',v=m'::up'/\er m'=er m/\ers up'=ers up:=by
 cases v with
 |nil=>simp[ers] at h
 |cons m' up'=>
  simp only[ers,RF,List.cons.injEq] at h
  exact⟨m',up',rfl,h.1,h.2⟩
def Kn(vs:List LV)(v:List Sc5):Prop:=∀t,(lkV vs t).isSome=(fw v t).isSome
theorem JK{b:Nat}{vs:List LV}{v:List Sc5}(h:SR g0 b vs (ers v)):Kn vs v:=λt=>by
 rw[h.is t,Bh,Option.isSome_map]
def Kb(l:List Fd)(F:Nat):Prop:=∀(k:Nat) (vs:List LV) (d:Nat) (e:Ex) (v:List Sc5) (s:S5),mQ l k vs e 0=0->bO d e=true->Kn vs v->G5 s->GE5 v->s.left<=F->∃s' r,Ev l (.ex k v s e s' r)
def MR(l:List Fd)(F:Nat):Prop:=∀(j:Nat) (f:Fd) (us:List Int) (s:S5),l[j]?=some f->f.params.length=us.length->G5 s->(∀n∈us,V5 n)->s.left<=F->∃s' r,Ev l (.cal j us s s' r)
def FW(l:List Fd)(F:Nat):Prop:=∀(k:Nat) (xs:List Sm) (b:Nat) (w:WS) (m:Sc5) (up:List Sc5) (s:S5),(∀x∈xs,∃d,ay d x=true)->(bs l k b xs w).code=0->SR g0 b w.vs (ers (m::up))->G5 s->GE5 (m::up)->s.left<=F->
 ∃m' up' s' r,Ev l (.blk k (m::up) s xs (m'::up') s' r)/\ers up'=ers up
def Mf(l:List Fd)(F:Nat):Prop:=∀(k:Nat) (x:Sm) (b:Nat) (w:WS) (m:Sc5) (up:List Sc5) (s:S5),(∃d,ay d x=true)->(stW l k b x w).code=0->SR g0 b w.vs (ers (m::up))->G5 s->GE5 (m::up)->s.left<=F->
 ∃m' up' s' r,Ev l (.stm k (m::up) s x (m'::up') s' r)/\ers up'=ers up/\(r= .ok none->SR g0 b (stW l k b x w).vs (ers (m'::up')))
def JU(l:List Fd)(F:Nat):Prop:=∀(k:Nat) (x:Sm) (b:Nat) (w:WS) (v:List Sc5) (s:S5),(∃d,ay d x=true)->x.op=6->(stW l k b x w).code=0->SR g0 b w.vs (ers v)->G5 s->GE5 v->s.left<=F->
 ∃v' s' r,Ev l (.lp k v s x v' s' r)/\ers v'=ers v
section
variable {l:List Fd}
theorem Qn{F:Nat}(hS:∀F',F'<F->Mf l F')(hB:∀F',F'<F->FW l F'):FW l F:=by
 intro k xs b w m up s hf hz hR hg hv hl
 cases xs with
 |nil=>exact⟨m,up,s,_,.bnil,rfl⟩
 |cons x r=>
  rw[bs] at hz
  have hz1:=cu hz
  rcases Nat.eq_zero_or_pos s.left with h0|h0
  ·exact⟨m,up,s,_,.bfuel h0,rfl⟩
  obtain⟨F',hF⟩:∃F',s.left=F'+1:=⟨s.left-1,by omega⟩
  obtain⟨m1,up1,s1,r1,e1,u1,R1⟩:=hS F' (by omega) k x b w m up (s.at_ F') (hf x (by simp)) hz1 hR (hg.at_ F') hv (Rl _)
  have p1:=cG e1 ⟨hg.at_ F',hv⟩
  have q1:s1.left<=F':=p1.2.1
  by_cases hq:r1= .ok none
  ·subst hq
   obtain⟨m2,up2,s2,r2,e2,u2⟩:=hB F' (by omega) k r b (stW l k b x w) m1 up1 s1 (λy hy=>hf y (by simp[hy])) hz (R1 rfl) p1.1 p1.2.2.1 q1
   exact⟨m2,up2,s2,r2,.bgo hF e1 e2,u2.trans u1⟩
  ·exact⟨m1,up1,s1,r1,.bend hF e1 hq,u1⟩
theorem Hb:∀(ps:List (List UInt8)) (us:List Int),ps.length=us.length->er (ps.zip us)=ps.map λs=>(s,0)
 |[],[],_=>rfl
 |p::r,u::t,h=>by
  have:=Hb r t (by simpa using h)
  simp only[er] at this
  simp[er,this]
 |[],_::_,h=>by simp at h
 |_::_,[],h=>by simp at h
theorem BK:∀(ps:List (List UInt8)) (m:Scp) (c:Int),(gV ps m c).2=0->(gV ps m c).1=m++ps.map λs=>(s,0)
 |[],m,c,_=>by simp[gV]
 |s::r,m,c,h=>by
  have hh:(gV r (fk m s 0) (if(dg m s).isSome then fl c 2 else c)).2=0:=h
  have ih:=BK r _ _ hh
  have hc:(if(dg m s).isSome then fl c 2 else c)=0:=by
   apply Classical.byContradiction
   intro hne
   have:=sJ hne r (fk m s 0)
   rw[this] at hh
   exact hne hh
  have hn:dg m s=none:=by
   cases e:dg m s with
   |none=>rfl
   |some n=>
    rw[e] at hc
    simp only[Option.isSome_some,if_true,fl] at hc
    split at hc<;>omega
  have hset:∀m:Scp,dg m s=none->fk m s 0=m++[(s,0)]:=by
   intro m
   induction m with
   |nil=>intro _;rfl
   |cons x t iht=>
    intro hm
    by_cases hx:x.1=s
    ·simp[dg,hx] at hm
    ·rw[fk,if_neg hx,iht (by simpa[dg,hx] using hm)];rfl
  show(gV r (fk m s 0) (if(dg m s).isSome then fl c 2 else c)).1=_
  rw[ih,hset m hn]
  simp
theorem Qu{F:Nat}(hc:aJ l=0)(hB:FW l F):MR l F:=by
 intro j f us s hj hlen hg hu hl
 obtain⟨hp,hall⟩:=(zW l).1 hc
 have hz:=hall j f hj
 rw[fnW] at hz
 have hpz:=cu hz
 obtain⟨p1,p2⟩:=AQ f.params ⟨[],0,if bz l f.name=some j then 0 else 2⟩ [] SR.base
 rw[hpz] at p2
 have hm:=BK f.params [] _ p2.symm
 rw[hm,List.nil_append,←Hb f.params us hlen] at p1
 have hfo:=((yb l).1 hp).2.1 f (Ri hj)
 have hbody:∀x∈f.body,∃d,ay d x=true:=λx hx=>by
  simp only[iZ,Rv,Rk] at hfo
  exact⟨4,hfo.2 x hx⟩
 obtain⟨m',up',s',r,e,hu2⟩:=hB j f.body 0 _ (f.params.zip us) [] s hbody hz p1 hg (λm hm x hx=>by
  rw[Rq.1 hm] at hx
  exact hu _ (List.of_mem_zip hx).2) hl
 exact⟨s',_,.cal hj hlen e⟩
end
end
section
theorem inR5{n lo hi:Int}:inR n lo hi=true↔lo<=n/\n<=hi:=by simp[inR]
theorem Dp{α:Type}{l:List α}(h:l.length=1):∃a,l=[a]:=by
 match l,h with
 |[a],_=>exact⟨a,rfl⟩
theorem IO{α:Type}{l:List α}(h:l.length=2):∃a b,l=[a,b]:=by
 match l,h with
 |[a,b],_=>exact⟨a,b,rfl⟩
section
variable {l:List Fd}
theorem lE{k:Nat}{vs:List LV}:∀(es:List Ex),bl l k vs es 0=0->∀e∈es,mQ l k vs e 0=0
 |[],_,e,he=>by cases he
 |x::r,h,e,he=>by
  rw[bl] at h
  have h0:=fd h
  rw[h0] at h
  rcases Rm.1 he with rfl|he
  ·exact h0
  ·exact lE r h e he
theorem QD{F:Nat}(hc:aJ l=0)(hC:MR l F):Kb l F:=by
 intro k vs d
 induction d with
 |zero=>intro e v s _ h;cases h
 |succ d ih=>
  intro e v s hz hf hk hg hv hl
  obtain⟨o,n,nm,ks⟩:=e
  rw[bO,Rv,Rk] at hf
  obtain⟨hh,hks⟩:=hf
  simp only[lm,Rv] at hh
  obtain⟨⟨⟨⟨⟨ho,hkl⟩,_⟩,_⟩,hn⟩,_⟩:=hh
  have ho:1<=o/\o<=13:=inR5.1 ho
  have hkl:(loK o:Int)<=(ks.length:Int)/\(ks.length:Int)<=(hiK o:Int):=inR5.1 hkl
  have hn:V5 n:=inR5.1 hn
  have hks:∀x∈ks,bO d x=true:=hks
  rw[mQ] at hz
  have h0:=fd hz
  rw[h0] at hz
  have hkz:=lE ks hz
  rcases Int.lt_or_le 13 o with h13|h13
  ·omega
  by_cases h1:o=1
  ·exact⟨s,_,.num h1 hn⟩
  by_cases h2:o=2
  ·rw[iG,if_pos h2] at h0
   obtain⟨_,x,hx⟩:=zn h0
   have hs:=hk nm
   rw[hx] at hs
   obtain⟨q,hq⟩:=Option.isSome_iff_exists.1 hs.symm
   exact⟨s,_,.var h2 hq⟩
  by_cases h13':o=13
  ·subst h13'
   rw[iG,if_neg (by omega),if_pos rfl,jP] at h0
   have hfa:∃j f,bz l nm=some j/\l[j]?=some f/\f.params.length=ks.length/\j<k:=by
    cases hj:bz l nm with
    |none=>rw[hj] at h0;simp only[fl] at h0;simp at h0
    |some j=>
     rw[hj] at h0
     simp only[fl] at h0
     by_cases hkj:k<=j
     ·rw[if_pos hkj] at h0;simp at h0
     ·rw[if_neg hkj] at h0
      obtain⟨hjl,_,_⟩:=Ru.1 hj
      have hg:=Re hjl
      refine⟨j,l[j],rfl,hg,?_,by omega⟩
      rw[yK,hg] at h0
      simp only at h0
      by_cases hp:l[j].params.length=ks.length
      ·exact hp
      ·rw[if_neg hp] at h0;simp at h0
   obtain⟨j,f,hj,hjf,hpl,hjk⟩:=hfa
   have hargs:∀(es:List Ex) (s:S5),(∀e∈es,e∈ks)->G5 s->s.left<=F->∃s' r,Ev l (.exs k v s es s' r):=by
    intro es
    induction es with
    |nil=>intro s _ _ _;exact⟨s,_,.nil⟩
    |cons a r ihr=>
     intro s hm g hs
     obtain⟨s1,r1,e1⟩:=ih a v s (hkz a (hm a (by simp))) (hks a (hm a (by simp))) hk g hv hs
     have p1:=cG e1 ⟨g,hv⟩
     cases r1 with
     |st c=>exact⟨s1,_,.consS e1⟩
     |ok q=>
      obtain⟨s2,r2,e2⟩:=ihr s1 (λx hx=>hm x (by simp[hx])) p1.1 (Ry p1.2.1 hs)
      cases r2 with
      |st c=>exact⟨s2,_,.consT e1 e2⟩
      |ok ns=>exact⟨s2,_,.cons e1 e2⟩
   obtain⟨s1,r1,e1⟩:=hargs ks s (λ_ h=>h) hg hl
   have p1:=cG e1 ⟨hg,hv⟩
   cases r1 with
   |st c=>exact⟨s1,_,.callS rfl e1⟩
   |ok us=>
    obtain⟨q1,q2⟩:=p1.2.2 _ rfl
    obtain⟨s2,r2,e2⟩:=hC j f us s1 hjf (by rw[hpl,q1]) p1.1 q2 (Ry p1.2.1 hl)
    exact⟨s2,_,.call rfl e1 hj hjk e2⟩
  have hlo:3<=o:=by omega
  have hhi:o<=12:=by omega
  by_cases h11:o=11\/o=12
  ·have hl1:ks.length=1:=by
    have e1:loK o=1:=by unfold loK;rw[if_neg (by omega),if_pos h11]
    have e2:hiK o=1:=by unfold hiK;rw[if_neg (by omega),if_pos h11]
    rw[e1,e2] at hkl;omega
   obtain⟨a,rfl⟩:=Dp hl1
   obtain⟨s1,r1,e1⟩:=ih a v s (hkz a (by simp)) (hks a (by simp)) hk hg hv hl
   have p1:=cG e1 ⟨hg,hv⟩
   cases r1 with
   |st c=>exact⟨s1,_,.firstS hlo hhi rfl e1⟩
   |ok q=>
    obtain⟨q0,q1⟩:=p1.2.2 _ rfl
    rcases h11 with h11|h12
    ·exact⟨s1,_,.not h11 rfl e1⟩
    ·obtain⟨i,rfl⟩:∃i:Nat,q=i:=⟨q.toNat,by omega⟩
     by_cases hi:i<16
     ·have hg2:s1.cells[i]?=some (s1.cells[i]'(by rw[p1.1.len];exact hi)):=Re _
      exact⟨s1,_,.at_ h12 rfl e1 hi hg2⟩
     ·exact⟨s1,_,.atS h12 rfl e1 (by omega)⟩
  ·have hl2:ks.length=2:=by
    have e1:loK o=2:=by unfold loK;rw[if_neg (by omega),if_neg h11,if_neg h13']
    have e2:hiK o=2:=by unfold hiK;rw[if_neg (by omega),if_neg h11,if_neg h13']
    rw[e1,e2] at hkl;omega
   obtain⟨a,b,rfl⟩:=IO hl2
   obtain⟨s1,r1,e1⟩:=ih a v s (hkz a (by simp)) (hks a (by simp)) hk hg hv hl
   have p1:=cG e1 ⟨hg,hv⟩
   cases r1 with
   |st c=>exact⟨s1,_,.firstS hlo hhi rfl e1⟩
   |ok q=>
    by_cases h10:o=10/\q=0
    ·obtain⟨h10,rfl⟩:=h10
     exact⟨s1,_,.and0 h10 rfl e1⟩
    obtain⟨s2,r2,e2⟩:=ih b v s1 (hkz b (by simp)) (hks b (by simp)) hk p1.1 hv (Ry p1.2.1 hl)
    by_cases ho10:o=10
    ·have hq:q≠0:=λe=>h10 ⟨ho10,e⟩
     cases r2 with
     |st c=>exact⟨s2,_,.andS ho10 rfl e1 hq e2⟩
     |ok m=>exact⟨s2,_,.and1 ho10 rfl e1 hq e2⟩
    ·have hle9:o<=9:=by omega
     cases r2 with
     |st c=>exact⟨s2,_,.binS hlo hle9 rfl e1 e2⟩
     |ok m=>
      cases ht:Ao o q m with
      |none=>exact⟨s2,_,.binD hlo hle9 rfl e1 e2 ht⟩
      |some t=>exact⟨s2,_,.bin hlo hle9 rfl e1 e2 ht⟩
end
end
section
structure Fine5 (l:List Fd) (k b:Nat) (x:Sm) (w:WS):Prop where
 code:w.code=0
 args:bl l k w.vs x.args 0=0
 op:(opW x.op x.name b ⟨w.vs,w.count,0⟩).code=0
 body:(bs l k (b+1) x.body (opW x.op x.name b ⟨w.vs,w.count,0⟩)).code=0
 els:∃w3:WS,w3.vs=(opW x.op x.name b ⟨w.vs,w.count,0⟩).vs/\(bs l k (b+1) x.els w3).code=0
 vs:(stW l k b x w).vs=(opW x.op x.name b ⟨w.vs,w.count,0⟩).vs
theorem LK{l:List Fd}{k b:Nat}{x:Sm}{w:WS}(hz:(stW l k b x w).code=0):Fine5 l k b x w:=by
 obtain⟨o,nm,a,bd,el⟩:=x
 have hz0:=hz
 rw[stW,cN] at hz
 have z1:=cu hz
 rw[cN] at z1
 have z2:=cu z1
 have z3:bl l k w.vs a w.code=0:=vW z2
 have hc:=fd z3
 rw[z3] at z2 z1 hz
 have z3':=z3
 rw[hc] at z3'
 refine⟨hc,z3',z2,z1,⟨(bs l k (b+1) bd (opW o nm b ⟨w.vs,w.count,0⟩)).back (opW o nm b ⟨w.vs,w.count,0⟩).vs,rfl,hz⟩,?_⟩
 rw[CQ,z3];rfl
theorem nz{o:Int}{nm:List UInt8}{b:Nat}{w:WS}(h:o≠1):(opW o nm b w).vs=w.vs:=by
 unfold opW
 rw[if_neg h]
 split<;>rfl
theorem GN{d:Nat}{x:Sm}(h:ay d x=true):(1<=x.op/\x.op<=8)/\x.args.length=ga x.op/\(∀a∈x.args,kG a=true)/\(∀y∈x.body,∃d,ay d y=true)/\(∀y∈x.els,∃d,ay d y=true):=by
 cases d with
 |zero=>cases h
 |succ d=>
  rw[ay,Rv,Rv,Rk,Rk] at h
  obtain⟨⟨h1,h2⟩,h3⟩:=h
  simp only[iD,Rv,Rk] at h1
  obtain⟨⟨⟨⟨⟨⟨⟨p1,p2⟩,_⟩,_⟩,p5⟩,_⟩,_⟩,_⟩:=h1
  exact⟨inR5.1 p1,of_decide_eq_true p2,p5,λy hy=>⟨d,h2 y hy⟩,λy hy=>⟨d,h3 y hy⟩⟩
theorem sG{a:Ex}(h:kG a=true):bO 6 a=true:=by rw[kG,Rv] at h;exact h.1
section
variable {l:List Fd}
theorem Qi{F:Nat}(hE:Kb l F)(hB:FW l F)(hL:∀F',F'<F->JU l F'):JU l F:=by
 intro k x b w v s hf ho hz hR hg hv hl
 obtain⟨d,hd⟩:=hf
 obtain⟨_,hal,hae,hbo,_⟩:=GN hd
 have Fn:=LK hz
 have hal1:x.args.length=1:=by rw[hal,ga,if_neg (by omega)]
 obtain⟨a,ha⟩:=Dp hal1
 have haz:=lE x.args Fn.args a (by rw[ha];simp)
 obtain⟨s1,r1,e1⟩:=hE k w.vs 6 a v s haz (sG (hae a (by rw[ha];simp))) (JK hR) hg hv hl
 have p1:=cG e1 ⟨hg,hv⟩
 cases r1 with
 |st c=>exact⟨v,s1,_,.lpS ha e1,rfl⟩
 |ok n=>
  by_cases hn:n=0
  ·subst hn;exact⟨v,s1,_,.lp0 ha e1,rfl⟩
  have hsame:(opW x.op x.name b ⟨w.vs,w.count,0⟩).vs=w.vs:=nz (by omega)
  have hR2:SR g0 (b+1) (opW x.op x.name b ⟨w.vs,w.count,0⟩).vs (ers ([]::v)):=by
   rw[hsame];exact hR.open
  obtain⟨m2,v2,s2,r2,e2,u2⟩:=hB k x.body (b+1) _ [] v s1 hbo Fn.body hR2 p1.1 hv.opn (Ry p1.2.1 hl)
  have p2:=cG e2 ⟨p1.1,hv.opn⟩
  by_cases hq:r2= .ok none
  ·subst hq
   rcases Nat.eq_zero_or_pos s2.left with h0|h0
   ·exact⟨v2,s2,_,.lpFuel ha e1 hn e2 h0,u2⟩
   obtain⟨F',hF⟩:∃F',s2.left=F'+1:=⟨s2.left-1,by omega⟩
   have hlt:F'<F:=by have:=p2.2.1;have:=p1.2.1;omega
   obtain⟨v3,s3,r3,e3,u3⟩:=hL F' hlt k x b w v2 (s2.at_ F') ⟨d,hd⟩ ho hz (by rw[u2];exact hR) (p2.1.at_ F') p2.2.2.1.tail (Rl _)
   exact⟨v3,s3,_,.lpGo ha e1 hn e2 hF e3,u3.trans u2⟩
  ·exact⟨v2,s2,_,.lpEnd ha e1 hn e2 hq,u2⟩
theorem PW{F:Nat}(hE:Kb l F)(hB:FW l F)(hL:JU l F):Mf l F:=by
 intro k x b w m up s hf hz hR hg hv hl
 obtain⟨d,hd⟩:=hf
 obtain⟨⟨ho1,ho8⟩,hal,hae,hbo,heo⟩:=GN hd
 have Fn:=LK hz
 by_cases h6:x.op=6
 ·obtain⟨v',s',r,e,u⟩:=hL k x b w (m::up) s ⟨d,hd⟩ h6 hz hR hg hv hl
  obtain⟨m',up',rfl,u1,u2⟩:=vu u
  refine⟨m',up',s',r,.sloop h6 e,u2,λ_=>?_⟩
  rw[Fn.vs,nz (by omega),u]
  exact hR
 have hex:∀a∈x.args,∀s:S5,G5 s->s.left<=F->∃s' r,Ev l (.ex k (m::up) s a s' r):=λa ha s g hs=>
  hE k w.vs 6 a (m::up) s (lE x.args Fn.args a ha) (sG (hae a ha)) (JK hR) g hv hs
 by_cases h4:x.op=4
 ·have hal2:x.args.length=2:=by rw[hal,ga,if_pos h4]
  obtain⟨a,c,ha⟩:=IO hal2
  have hR':SR g0 b (stW l k b x w).vs (ers (m::up)):=by rw[Fn.vs,nz (by omega)];exact hR
  obtain⟨s1,r1,e1⟩:=hex a (by rw[ha];simp) s hg hl
  have p1:=cG e1 ⟨hg,hv⟩
  cases r1 with
  |st q=>exact⟨m,up,s1,_,.argS h6 ha e1,rfl,λ_=>hR'⟩
  |ok n=>
   obtain⟨n0,n1⟩:=p1.2.2 _ rfl
   obtain⟨s2,r2,e2⟩:=hex c (by rw[ha];simp) s1 p1.1 (Ry p1.2.1 hl)
   cases r2 with
   |st q=>exact⟨m,up,s2,_,.sputS h4 ha e1 e2,rfl,λ_=>hR'⟩
   |ok q=>
    obtain⟨i,rfl⟩:∃i:Nat,n=i:=⟨n.toNat,by omega⟩
    by_cases hi:i<16
    ·exact⟨m,up,_,_,.sput h4 ha e1 e2 hi,rfl,λ_=>hR'⟩
    ·exact⟨m,up,s2,_,.sputC h4 ha e1 e2 (by omega),rfl,λ_=>hR'⟩
 have hal1:x.args.length=1:=by rw[hal,ga,if_neg h4]
 obtain⟨a,ha⟩:=Dp hal1
 obtain⟨s1,r1,e1⟩:=hex a (by rw[ha];simp) s hg hl
 have p1:=cG e1 ⟨hg,hv⟩
 have hsame:x.op≠1->SR g0 b (stW l k b x w).vs (ers (m::up)):=λh=>by rw[Fn.vs,nz h];exact hR
 cases r1 with
 |st q=>exact⟨m,up,s1,_,.argS h6 ha e1,rfl,λh=>by cases h⟩
 |ok n=>
  by_cases h1:x.op=1
  ·have hput:(fI ⟨w.vs,w.count,0⟩ x.name b).code=0:=by
    have:=Fn.op
    rw[opW,if_pos h1] at this
    exact this
   have hput2:og w.vs x.name b 0=0:=hput
   have hR1:SR g0 b w.vs (er m::ers up):=hR
   rw[hR1.put] at hput2
   have hno:bt m x.name=none:=by
    cases e:bt m x.name with
    |none=>rfl
    |some q=>
     rw[zU,e] at hput2
     simp[fl] at hput2
   refine⟨_,up,s1,_,.slet h1 ha e1 rfl hno,rfl,λ_=>?_⟩
   rw[Fn.vs,opW,if_pos h1]
   have:=hR1.add x.name w.count 0 rfl
   rw[←Mp (n:=n) hno] at this
   exact this
  by_cases h2:x.op=2
  ·have huse:nh w.vs x.name 0=0:=by
    have:=Fn.op
    rw[opW,if_neg h1,if_pos h2] at this
    exact this
   obtain⟨_,q,hq⟩:=zn huse
   have hs:(fw (m::up) x.name).isSome=true:=by rw[←JK hR x.name,hq];rfl
   have hev:=Ev.sset (l:=l) h2 ha e1 hs
   obtain⟨m',up',e,_,u2⟩:=vu (zX (s:=x.name) (n:=n) (m::up))
   have hu:ers (m'::up')=ers (m::up):=by rw[←e];exact zX _
   rw[e] at hev
   exact⟨m',up',s1,_,hev,u2,λ_=>by rw[hu];exact hsame h1⟩
  by_cases h3:x.op=3
  ·exact⟨m,up,_,_,.ssay h3 ha e1,rfl,λ_=>hsame h1⟩
  by_cases h5:x.op=5
  ·have hsv:(opW x.op x.name b ⟨w.vs,w.count,0⟩).vs=w.vs:=nz h1
   obtain⟨w3,hw3,hez⟩:=Fn.els
   have hB':∃m2 v2 s2 r2,Ev l (.blk k ([]::m::up) s1 (if n≠0 then x.body else x.els) (m2::v2) s2 r2)/\ers v2=ers (m::up):=by
    by_cases hn:n≠0
    ·rw[if_pos hn]
     exact hB k x.body (b+1) _ [] (m::up) s1 hbo Fn.body (by rw[hsv];exact hR.open) p1.1 hv.opn (Ry p1.2.1 hl)
    ·rw[if_neg hn]
     exact hB k x.els (b+1) w3 [] (m::up) s1 heo hez (by rw[hw3,hsv];exact hR.open) p1.1 hv.opn (Ry p1.2.1 hl)
   obtain⟨m2,v2,s2,r2,e2,u2⟩:=hB'
   obtain⟨m',up',rfl,u3,u4⟩:=vu u2
   exact⟨m',up',s2,r2,.sif h5 ha e1 e2,u4,λ_=>by rw[u2];exact hsame h1⟩
  by_cases h7:x.op=7
  ·exact⟨m,up,s1,_,.sback h7 ha e1,rfl,λh=>by cases h⟩
  ·exact⟨m,up,s1,_,.sdo (by omega) ha e1,rfl,λ_=>hsame h1⟩
theorem Kt(hc:aJ l=0):∀F,MR l F/\Kb l F/\FW l F/\Mf l F/\JU l F:=by
 intro F
 induction F using Nat.strongRecOn with
 |_ F ih=>
  have hB:=Qn (l:=l) (F:=F) (λF' h=>(ih F' h).2.2.2.1) (λF' h=>(ih F' h).2.2.1)
  have hC:=Qu hc hB
  have hE:=QD hc hC
  have hL:=Qi hE hB (λF' h=>(ih F' h).2.2.2.2)
  exact⟨hC,hE,hB,PW hE hB hL,hL⟩
end
def s0(fuel:Nat):S5:=⟨fuel,[],List.replicate 16 0⟩
theorem nS(fuel:Nat):G5 (s0 fuel):=⟨by simp[s0],λc hc=>by rw[(Se.1 hc).2];exact⟨by omega,by omega⟩,λc hc=>by cases hc⟩
theorem QK{l:List Fd}(hc:aJ l=0){f:Fd}(hf:l[l.length-1]?=some f){us:List Int}(hl:us.length=f.params.length)(hu:∀n∈us,V5 n)(fuel:Nat):
 ∃s' r,Ev l (.cal (l.length-1) us (s0 fuel) s' r)/\G5 s'/\s'.left<=fuel/\∀n,r= .ok n->V5 n:=by
 obtain⟨s',r,e⟩:=(Kt hc fuel).1 (l.length-1) f us (s0 fuel) hf hl.symm (nS fuel) hu (Rl _)
 have p:=cG e ⟨nS fuel,hu⟩
 exact⟨s',r,e,p.1,p.2.1,p.2.2⟩
end
section
def S5.dn(s:S5)(c:Nat):S5:=⟨s.left-c,s.said,s.cells⟩
end
section
def S5.pre(s:S5)(t:List Int):S5:=⟨s.left,t++s.said,s.cells⟩
end
section
def nmS(m:Sc5):List (List UInt8):=m.map (·.1)
def nmV(v:List Sc5):List (List (List UInt8)):=v.map nmS
theorem ED(s:List UInt8)(n:Int):∀m:Sc5,nmS (sset m s n)=nmS m
 |[]=>rfl
 |x::r=>by
  rw[sset]
  split
  ·rename_i h
   show s::nmS r=x.1::nmS r
   rw[h]
  ·show x.1::nmS (sset r s n)=x.1::nmS r
   rw[ED s n r]
theorem um(s:List UInt8)(n:Int):∀v:List Sc5,nmV (fx v s n)=nmV v
 |[]=>rfl
 |m::r=>by
  rw[fx]
  split
  ·show nmS (sset m s n)::nmV r=_
   rw[ED];rfl
  ·show nmS m::nmV (fx r s n)=_
   rw[um s n r];rfl
def Grw(v v':List Sc5):Prop:=nmV v'=nmV v\/∃m up m' up' t,v=m::up/\v'=m'::up'/\nmV up'=nmV up/\nmS m'=nmS m++t
theorem Grw.refl(v:List Sc5):Grw v v:= .inl rfl
theorem Bt{m:Sc5}{up v:List Sc5}(h:nmV v=nmV (m::up)):∃m' up',v=m'::up'/\nmS m'=nmS m/\nmV up'=nmV up:=by
 match v with
 |[]=>cases h
 |m'::up'=>
  have h:nmS m'::nmV up'=nmS m::nmV up:=h
  exact⟨m',up',rfl,(List.cons.inj h).1,(List.cons.inj h).2⟩
theorem Grw.trans{a b c:List Sc5}(h:Grw a b)(g:Grw b c):Grw a c:=by
 rcases h with h|⟨m,up,m',up',t,rfl,rfl,h1,h2⟩
 ·rcases g with g|⟨m,up,m',up',t,rfl,rfl,h1,h2⟩
  ·exact .inl (g.trans h)
  ·obtain⟨m0,up0,rfl,e1,e2⟩:=Bt h.symm
   exact .inr ⟨m0,up0,m',up',t,rfl,rfl,h1.trans e2.symm,by rw[h2,e1]⟩
 ·rcases g with g|⟨q,uq,q',uq',t',e,rfl,g1,g2⟩
  ·obtain⟨m0,up0,rfl,e1,e2⟩:=Bt g
   exact .inr ⟨m,up,m0,up0,t,rfl,rfl,e2.trans h1,e1.trans h2⟩
  ·obtain⟨e1,e2⟩:=List.cons.inj e
   subst e1;subst e2
   exact .inr ⟨m,up,q',uq',t++t',rfl,rfl,g1.trans h1,by rw[g2,h2,RT]⟩
theorem Grw.tail{m m':Sc5}{v v':List Sc5}(h:Grw (m::v) (m'::v')):nmV v'=nmV v:=by
 rcases h with h|⟨q,up,q',up',t,e1,e2,h1,h2⟩
 ·have h:nmS m'::nmV v'=nmS m::nmV v:=h
  exact(List.cons.inj h).2
 ·rw[(List.cons.inj e1).2,(List.cons.inj e2).2];exact h1
def Sh5:J5->Prop
 | .stm _ v _ _ v' _ _=>Grw v v'
 | .blk _ v _ _ v' _ _=>Grw v v'
 | .lp _ v _ _ v' _ _=>nmV v'=nmV v
 |_=>True
theorem uG{l:List Fd}{j:J5}(h:Ev l j):Sh5 j:=by
 induction h with
 |bnil=>exact .inl rfl
 |bfuel _=>exact .inl rfl
 |bgo _ _ _ i1 i2=>exact i1.trans i2
 |bend _ _ _ i1=>exact i1
 |argS _ _ _ _=>exact .inl rfl
 | @slet k v s x a s1 n m up _ _ _ hv _ _=>
   subst hv
   exact .inr ⟨m,up,m++[(x.name,n)],up,[x.name],rfl,rfl,rfl,by simp[nmS]⟩
 |sset _ _ _ _ _=>exact .inl (um _ _ _)
 |ssay _ _ _ _=>exact .inl rfl
 |sput _ _ _ _ _ _ _=>exact .inl rfl
 |sputC _ _ _ _ _ _ _=>exact .inl rfl
 |sputS _ _ _ _ _ _=>exact .inl rfl
 |sif _ _ _ _ _ i2=>exact .inl i2.tail
 |sloop _ _ i1=>exact .inl i1
 |sback _ _ _ _=>exact .inl rfl
 |sdo _ _ _ _=>exact .inl rfl
 |lpS _ _ _=>exact(rfl:nmV _=nmV _)
 |lp0 _ _ _=>exact(rfl:nmV _=nmV _)
 |lpEnd _ _ _ _ _ _ i2=>exact i2.tail
 |lpFuel _ _ _ _ _ _ i2=>exact i2.tail
 |lpGo _ _ _ _ _ _ _ i2 i3=>exact(show nmV _=nmV _ from i3).trans i2.tail
 |_=>trivial
def aq:List Sc5->Sc5
 |[]=>[]
 |m::r=>aq r++m
theorem fK:∀{v w:List Sc5},nmV v=nmV w->(aq v).length=(aq w).length
 |[],[],_=>rfl
 |[],_::_,h=>by cases h
 |_::_,[],h=>by cases h
 |m::r,m'::r',h=>by
  have h:nmS m::nmV r=nmS m'::nmV r':=h
  obtain⟨h1,h2⟩:=List.cons.inj h
  have:=fK h2
  have h1:=congrArg List.length h1
  simp only[nmS,RL] at h1
  simp[aq,this,h1]
theorem zw{m:Sc5}{v w:List Sc5}(h:nmV v=nmV w):(aq (m::v)).take (aq w).length=aq v:=by
 rw[aq,←fK h,List.take_left']
 rfl
def cn:Sc5->List UInt8->Option Nat
 |[],_=>none
 |x::r,s=>match cn r s with|some i=>some (i+1)|none=>if x.1=s then some 0 else none
theorem lZ(s:List UInt8):∀a b:Sc5,cn (a++b) s=match cn b s with|some i=>some (a.length+i)|none=>cn a s
 |[],b=>by cases h:cn b s<;>simp[cn,h]
 |x::r,b=>by
  rw[RW,cn,lZ s r b]
  cases h:cn b s with
  |some i=>simp;omega
  |none=>rfl
def Un5(v:List Sc5):Prop:=∀m∈v,(nmS m).Pairwise (· ≠ ·)
theorem sget_none_iff:∀{m:Sc5} {s:List UInt8},bt m s=none↔s∉nmS m
 |[],s=>by simp[bt,nmS]
 |x::r,s=>by
  rw[bt]
  by_cases h:x.1=s
  ·simp[h,nmS]
  ·rw[if_neg h,sget_none_iff]
   simp[nmS,Ne.symm h]
theorem mK:∀{m:Sc5} {s:List UInt8},s∉nmS m->cn m s=none
 |[],s,_=>rfl
 |x::r,s,h=>by
  simp only[nmS,RF,Rm,not_or] at h
  rw[cn,mK (m:=r) h.2]
  simp only
  rw[if_neg (λe=>h.1 e.symm)]
theorem yq:∀{m:Sc5} {s:List UInt8} {n:Int},(nmS m).Pairwise (· ≠ ·)->bt m s=some n->∃i,cn m s=some i/\m[i]?=some (s,n)/\∀q,sset m s q=m.set i (s,q)
 |x::r,s,n,hp,h=>by
  obtain⟨h1,h2⟩:=List.pairwise_cons.1 (show(x.1::nmS r).Pairwise (· ≠ ·) from hp)
  rw[bt] at h
  by_cases hx:x.1=s
  ·rw[if_pos hx] at h
   have hn:s∉nmS r:=λhm=>h1 s hm hx
   refine⟨0,?_,?_,λq=>?_⟩
   ·rw[cn,mK hn];simp only;rw[if_pos hx]
   ·obtain⟨a,b⟩:=x
    have hx:a=s:=hx
    have h:some b=some n:=h
    cases h;subst hx;rfl
   ·rw[sset,if_pos hx];rfl
  ·rw[if_neg hx] at h
   obtain⟨i,g1,g2,g3⟩:=yq h2 h
   refine⟨i+1,?_,by simpa using g2,λq=>?_⟩
   ·rw[cn,g1]
   ·rw[sset,if_neg hx,g3 q];rfl
theorem yr:∀{v:List Sc5} {s:List UInt8} {n:Int},Un5 v->fw v s=some n->∃i,cn (aq v) s=some i/\(aq v)[i]?=some (s,n)/\∀q,aq (fx v s q)=(aq v).set i (s,q)
 |m::r,s,n,hu,h=>by
  rw[fw] at h
  cases hm:bt m s with
  |some k=>
   rw[hm] at h
   cases h
   obtain⟨i,g1,g2,g3⟩:=yq (hu m (by simp)) hm
   refine⟨(aq r).length+i,?_,?_,λq=>?_⟩
   ·rw[aq,lZ,g1]
   ·rw[aq,Ro (by omega)]
    rw[Sp];exact g2
   ·rw[fx,hm]
    simp only[Option.isSome_some,if_true]
    rw[aq,aq,g3 q,List.set_append_right _ _ (by omega),Sp]
  |none=>
   rw[hm] at h
   obtain⟨i,g1,g2,g3⟩:=yr (λq hq=>hu q (by simp[hq])) h
   have hi:i<(aq r).length:=by
    have:=Rd.1 g2
    exact this.1
   refine⟨i,?_,?_,λq=>?_⟩
   ·rw[aq,lZ,mK (sget_none_iff.1 hm)];exact g1
   ·rw[aq,Rh hi];exact g2
   ·rw[fx,hm]
    simp only[Option.isSome_none,Bool.false_eq_true,if_false]
    rw[aq,aq,g3 q,List.set_append_left _ _ hi]
theorem Jz{m:Sc5}{up:List Sc5}(x:List UInt8 × Int):aq ((m++[x])::up)=aq (m::up)++[x]:=by simp[aq]
theorem zq(v:List Sc5):aq ([]::v)=aq v:=by simp[aq]
theorem Un5.of{v w:List Sc5}(h:Un5 v)(e:nmV w=nmV v):Un5 w:=by
 intro m hm
 have h1:nmS m∈nmV v:=by rw[←e];exact List.mem_map_of_mem hm
 obtain⟨q,hq,e2⟩:=RC.1 h1
 rw[←e2];exact h q hq
theorem Un5.let{m:Sc5}{up:List Sc5}{s:List UInt8}{n:Int}(h:Un5 (m::up))(hs:bt m s=none):Un5 ((m++[(s,n)])::up):=by
 intro q hq
 rcases Rm.1 hq with rfl|hq
 ·have h1:=h m (by simp)
  have h2:=sget_none_iff.1 hs
  simp only[nmS,List.map_append,RF,List.map_nil]
  refine List.pairwise_append.2 ⟨h1,List.pairwise_singleton _ _,λa ha b hb=>?_⟩
  rw[Rq.1 hb]
  exact λe=>h2 (e▸ha)
 ·exact h q (by simp[hq])
theorem Un5.opn{v:List Sc5}(h:Un5 v):Un5 ([]::v):=by
 intro q hq
 rcases Rm.1 hq with rfl|hq
 ·exact .nil
 ·exact h q hq
end
section
theorem eF{n:Nat}{h h1:List AO}(e:h.take n=h1)(hn:h1.length=n)(ho:∀o∈h1,okO n o):Fst n h h1:=by
 have hl:n<=h.length:=by
  have:=congrArg List.length e
  rw[RG] at this;omega
 have hg:∀(i:Nat) (o:AO),h1[i]?=some o->h[i]?=some o:=λi o hi=>by
  have h2:=(Rd.1 hi).1
  rw[←e,List.getElem?_take_of_lt (by omega)] at hi
  exact hi
 exact⟨hn,hl,λi sz es hi=>⟨hg _ _ hi,ho _ (Ri hi)⟩,λi es hi=>⟨hg _ _ hi,ho _ (Ri hi)⟩,λi s p hi=>hg _ _ hi⟩
theorem zx:∀(r:List AO) (s:Nat),((iJ (List.range' s r.length++[0]) (r++[.dead])).Nodup/\∀i∈iJ (List.range' s r.length++[0]) (r++[.dead]),s<=i)
 |[],s=>by simp[iJ]
 |o::r,s=>by
  obtain⟨h1,h2⟩:=zx r (s+1)
  rw[Rz,List.range'_succ]
  cases o with
  |dead=>exact⟨h1,λi hi=>Nat.le_of_succ_le (h2 i hi)⟩
  |_=>exact⟨List.nodup_cons.2 ⟨λhm=>absurd (h2 _ hm) (by omega),h1⟩,λi hi=>by
   rcases Rm.1 hi with rfl|hi
   ·exact Rl _
   ·exact Nat.le_of_succ_le (h2 i hi)⟩
theorem Cm{h:List AO}(hp:0<h.length)(ho:∀o∈h,okO h.length o):∀(r:List AO) (s:Nat),(∀i:Nat,r[i]?=h[s+i]?)->s+r.length=h.length->HW (List.range' 0 h.length++[0]) h (List.range' s r.length++[0]) (r++[.dead])
 |[],s,_,_=>iL hp cY
 |o::r,s,hr,hs=>by
  have hσ:∀i,i<h.length->(List.range' 0 h.length++[0]).getD i 0=i:=λi hi=>by
   rw[Rn,Rh (by simp;exact hi)];simp[hi]
  rw[Rz,List.range'_succ]
  have h0:=hr 0
  have ih:=Cm hp ho r (s+1) (λi=>by have:=hr (i+1);rw[Sb] at this;rw[this];congr 1;omega) (by simp at hs;omega)
  have hm:h[s]?=some o:=by simpa using h0.symm
  have hok:=ho o (Ri hm)
  cases o with
  |dead=>exact iL (Rd.1 hm).1 ih
  |row sz es=>
   refine At (λx hx=>bq (by simp) _ (hok x hx)) ?_ ih
   rw[hm,RK (g:=id) λx hx=>rH hσ x (hok x hx)];simp
  |mp es=>exact⟨(Rd.1 hm).1,⟨λx hx=>by exact(bq (by simp) [x.2] ⟨hok x hx,trivial⟩).1,by rw[hm,RK (g:=id) λx hx=>by rw[lW hσ x.2 (hok x hx)];rfl];simp⟩,ih⟩
  |sit s p=>exact⟨(Rd.1 hm).1,hm,ih⟩
theorem Bc{m:Nat}{l:List (Nat × AV)}:∀r:List (Nat × AV),FgA m l r->TWA (List.range' 0 m++[0]) l r
 |[],_=>trivial
 |x::r,⟨⟨a,c⟩,d⟩=>by
  have hσ:∀i,i<m->(List.range' 0 m++[0]).getD i 0=i:=λi hi=>by
   rw[Rn,Rh (by simp;exact hi)];simp[hi]
  exact⟨⟨(bq (by simp) [x.2] ⟨a,trivial⟩).1,by rw[lW hσ _ a,c]⟩,Bc r d⟩
theorem Cx{k n:Nat}{l l1:List (Nat × AV)}{h:List AO}(hk:k<=h.length)(hp:0<h.length)(ho:∀o∈h,okO h.length o)(H:FgA h.length l l1):Wk k (af n l) h (af n l1) (h++[.dead]):=by
 have hσ:∀i,i<h.length->(List.range' 0 h.length++[0]).getD i 0=i:=λi hi=>by
  rw[Rn,Rh (by simp;exact hi)];simp[hi]
 refine Fb (List.range' 0 h.length++[0]) (by simp;omega) (λi hi=>hσ i (by omega)) ?_ ?_ (Bc _ H)
 ·exact(zx h 0).1
 ·exact Cm hp ho h 0 (λi=>by simp) (by simp)
theorem gr{n:Nat}{o:AO}(h:okO 0 o):okO n o:=by
 cases o with
 |dead=>trivial
 |sit=>trivial
 |row sz es=>exact λe he=>bq (Sk _) _ (h e he)
 |mp es=>exact λe he=>(bq (Sk n) [e.2] ⟨h e he,trivial⟩).1
def exR(l:List Ex):List (List AV):=l.map λe=>e.cs.map .p
theorem rI(l:List Ex):∀x∈exR l,ah 0 x:=by
 intro x hx;obtain⟨m,_,rfl⟩:=RC.1 hx;simp
def smR(l:List Sm):List (List AV):=l.map λs=>s.cs.map .p
theorem jD(l:List Sm):∀x∈smR l,ah 0 x:=by
 intro x hx;obtain⟨m,_,rfl⟩:=RC.1 hx;simp
theorem KP(l:List Sm):(smR l).length=l.length:=by simp[smR]
theorem KM(a b:List Sm):smR (a++b)=smR a++smR b:=by simp[smR]
theorem Id{h:List AO}{id:Nat}{l:List Sm}(e:h[id]?=some (.row 5 (smR l))):View h (.sl id 5 0 l.length) (smL l):=by
 have:=ic (h:=h) (id:=id) (sz:=5) (n:=l.length) (ls:=l.map Sm.cs) (by rw[e,smR];simp) (by simp) (λx hx=>by obtain⟨b,_,rfl⟩:=RC.1 hx;exact b.cs_len)
 exact this
theorem iP{n:Nat}:∀o∈([]:List AO),okO n o:=λo h=>by cases h
theorem an{n:Nat}{a:AO}{l:List AO}(h:okO n a)(r:∀o∈l,okO n o):∀o∈a::l,okO n o:=λo ho=>by
 rcases Rm.1 ho with rfl|ho
 ·exact h
 ·exact r o ho
end
section
abbrev BL:Nat:=9223372036854775807
mutual
def Ex.fit:Ex->Prop
 | .mk _ _ s k=>s.length<=BL/\k.length<=BL/\lM k
def lM:List Ex->Prop
 |[]=>True
 |e::r=>e.fit/\lM r
end
mutual
def Sm.fit:Sm->Prop
 | .mk _ s a b e=>s.length<=BL/\(a.length<=BL/\lM a)/\(b.length<=BL/\jd b)/\(e.length<=BL/\jd e)
def jd:List Sm->Prop
 |[]=>True
 |s::r=>s.fit/\jd r
end
def Fd.fit(f:Fd):Prop:=f.name.length<=BL/\(f.params.length<=BL/\∀x∈f.params,x.length<=BL)/\(f.body.length<=BL/\jd f.body)
theorem pK:∀{l:List Ex} {e:Ex},lM l->e∈l->e.fit
 |x::r,e,h,hm=>by
  rcases Rm.1 hm with rfl|hm
  ·exact h.1
  ·exact pK h.2 hm
theorem pA:∀{l:List Sm} {e:Sm},jd l->e∈l->e.fit
 |x::r,e,h,hm=>by
  rcases Rm.1 hm with rfl|hm
  ·exact h.1
  ·exact pA h.2 hm
theorem Ex.fit_eq(e:Ex):e.fit=(e.name.length<=BL/\e.kids.length<=BL/\lM e.kids):=by cases e;rfl
theorem Sm.fit_eq(s:Sm):s.fit=(s.name.length<=BL/\(s.args.length<=BL/\lM s.args)/\(s.body.length<=BL/\jd s.body)/\(s.els.length<=BL/\jd s.els)):=by cases s;rfl
theorem Fd.cs_eq'(f:Fd):f.cs=[.str f.name,aB f.params,smL f.body]:=rfl
def cU(ss:List Nat)(i:Nat):Nat:=ss.length+((ss.take i).map (· -1)).sum
theorem ti(ss:List Nat):cU ss 0=ss.length:=by simp[cU]
theorem sL{ss:List Nat}{i v:Nat}(h:ss[i]?=some v):cU ss (i+1)=cU ss i+(v-1):=by
 rw[cU,cU,List.take_add_one,h,List.map_append,List.sum_append];simp;omega
theorem Aa:∀{ss:List Nat},(∀v∈ss,1<=v)->ss.length+(ss.map (· -1)).sum=ss.sum
 |[],_=>rfl
 |v::r,h=>by
  have:=Aa (ss:=r) λx hx=>h x (by simp[hx])
  have h1:=h v (by simp)
  simp only[Rz,RF,List.sum_cons];omega
theorem uN{ss:List Nat}(h:∀v∈ss,1<=v){i:Nat}(hi:ss.length<=i):cU ss i=ss.sum:=by
 rw[cU,Rp hi,Aa h]
theorem AN{ss:List Nat}(h:∀v∈ss,1<=v)(i:Nat):cU ss i<=ss.sum:=by
 rw[←Aa h,cU]
 have:(ss.map (· -1)).sum=((ss.take i).map (· -1)).sum+((ss.drop i).map (· -1)).sum:=by
  conv=>lhs;rw[←RZ i ss,List.map_append,List.sum_append]
 omega
theorem CC:∀l:List Ex,dh l=(l.map Ex.sz).sum
 |[]=>rfl
 |e::r=>by simp only[dh,RF,List.sum_cons,CC r]
theorem BG:∀l:List Sm,aH l=(l.map Sm.sz).sum
 |[]=>rfl
 |e::r=>by simp only[aH,RF,List.sum_cons,BG r]
theorem JA(l:List Fd):bh l=(l.map Fd.sz).sum:=rfl
theorem Ex.sz_pos(e:Ex):1<=e.sz:=by rw[e.sz_eq];omega
theorem Sm.sz_pos(e:Sm):1<=e.sz:=by rw[e.sz_eq];omega
theorem Fd.sz_pos(f:Fd):1<=f.sz:=by unfold Fd.sz;omega
def bu(left z:Nat):Int:=if z<=left then((left-z:Nat):Int) else-1
variable (G:aw)
theorem zJ(l:List Ex)(left:Nat)(hl:left<=1048576)(hb:l.length<=BL)(H:∀e∈l,∀left:Nat,left<=1048576->VF Tryz.prog G gD [.agg (e.cs.map .p),.p (.int .i64 left)] (.p (.int .i64 (bu left (e.sz-1))))):
 VF Tryz.prog G dB [.p (exL l),.p (.int .i64 left)] (.p (.int .i64 (bu left (dh l)))):=by
 refine AC.go vq ?_
 have hpos:∀v∈l.map Ex.sz,1<=v:=λv hv=>by obtain⟨e,_,rfl⟩:=RC.1 hv;exact e.sz_pos
 have hz:=CC l
 have hal:=λi (hi:l.length<=i)=>uN hpos (i:=i) (by rw[RL];exact hi)
 have hle:=AN hpos
 have h00:cU (l.map Ex.sz) 0=l.length:=by rw[ti,RL]
 rw[←hz] at hal hle
 have hsl:∀l,exL l= .lst 4 (l.map Ex.cs):=λ_=>rfl
 have hw:IntKind.i64.wrap ((left:Int)-l.length)=(left:Int)-l.length:=ag (by simp only[BL] at hb;omega) (by omega)
 by_cases h:l.length<=left
 case neg=>
  have h1:(left:Int)-l.length<0:=by omega
  have:=hle 0
  have h2:bu left (dh l)= -1:=if_neg (by omega)
  simp-implicitDefEqProofs[jf,hsl,hw,h1,h2]
 have h1:¬(left:Int)-l.length<0:=by omega
 simp-implicitDefEqProofs[jf,hsl,hw,h1]
 refine aF (λi:Nat=>af 27 [(0,.p (exL l)),(1,.p (.int .i64 ((left-cU (l.map Ex.sz) i:Nat):Int))),(5,.p (.int .i64 i))]) (λ_=>[]) (λi=>i<=l.length/\cU (l.map Ex.sz) i<=left) (λi=>l.length-i) 0 ⟨by omega,by rw[h00];exact h⟩ ?_ ?_
 ·refine aE rfl ?_
  simp only[h00]
  simp[below,hsl]
  omega
 ·intro i ⟨hi,hx⟩
  simp-implicitDefEqProofs[hsl]
  refine bx (λh1=>?_) (λh1=>?_)
  ·simp at h1
   have hg:=Re h1
   have hsu:=sL (ss:=l.map Ex.sz) (i:=i) (v:=l[i].sz) (by rw[Rs,hg];rfl)
   have hH:=H l[i] (Rt h1) (left-cU (l.map Ex.sz) i) (by omega)
   have hcs:l[i].cs.length=4:=by simp
   have hle1:=hle (i+1)
   generalize l[i]=e at hg hsu hH hcs
   simp-implicitDefEqProofs[hg,hcs]
   refine hH.use ?_
   by_cases h2:e.sz-1<=left-cU (l.map Ex.sz) i
   ·have e2:bu (left-cU (l.map Ex.sz) i) (e.sz-1)=((left-cU (l.map Ex.sz) (i+1):Nat):Int):=by rw[bu,if_pos h2];omega
    have h3:¬((left-cU (l.map Ex.sz) (i+1):Nat):Int)<0:=by omega
    rw[e2]
    simp-implicitDefEqProofs[h3]
    refine⟨i+1,⟨h1,by omega⟩,by omega,aE rfl (by simp[below,hsl,w1 (i:=i) (by simp only[BL] at hb;omega)])⟩
   ·have e2:bu (left-cU (l.map Ex.sz) i) (e.sz-1)= -1:=if_neg h2
    have e3:bu left (dh l)= -1:=if_neg (by omega)
    rw[e2,e3]
    simp-implicitDefEqProofs[]
  ·simp at h1
   have hta:=hal i h1
   have h5:bu left (dh l)=((left-cU (l.map Ex.sz) i:Nat):Int):=by rw[hta,bu,if_pos (by omega)]
   simp-implicitDefEqProofs[h5]
theorem zG(l:List Ex)(hb:l.length<=1048576)(H:∀e∈l,VF Tryz.prog G gE [.agg (e.cs.map .p)] (.agg (e.cs.map .p))):VF Tryz.prog G cM [.p (exL l)] (.p (exL l)):=by
 have hsl:∀l,exL l= .lst 4 (l.map Ex.cs):=λ_=>rfl
 have key:AC Tryz.prog G cM [.p (exL l)] [] λx h=>x= .ret (.sl 0 4 0 l.length)/\h=[.row 4 (l.map λe=>e.cs.map .p)]:=by
  refine AC.go vg ?_
  have hn:(l.map λe=>e.cs.map AV.p).length=l.length:=by simp
  simp-implicitDefEqProofs[mr,hsl]
  refine⟨by omega,?_⟩
  refine aF (λi:Nat=>af 23 [(0,.p (exL l)),(3,.sl 0 4 0 l.length),(4,.p (.int .i64 i))]) (λi=>[.row 4 ((l.map λe=>e.cs.map AV.p).take i++List.replicate (l.length-i) [.p (.int .i64 0),.p (.int .i64 0),.p (.str []),.nils])]) (λi=>i<=l.length) (λi=>l.length-i) 0 (by simp) ?_ ?_
  ·refine dE [0] rfl (by simp) (bD (by simp) (by simp[below]) cY) ?_
   simp[below,ren,hsl]
  ·intro i hi
   simp-implicitDefEqProofs[hsl]
   refine bx (λh1=>?_) (λh1=>?_)
   ·simp at h1
    have hg:=Re h1
    have hg2:=vV (z:=([.p (.int .i64 0),.p (.int .i64 0),.p (.str []),.nils]:List AV)) hn h1
    have hset:=pU (z:=([.p (.int .i64 0),.p (.int .i64 0),.p (.str []),.nils]:List AV)) (v:=l[i].cs.map AV.p) hn h1 (by rw[Rs,hg];rfl)
    have hH:=H l[i] (Rt h1)
    have hcs:=l[i].cs_eq
    have htl:(List.take i (l.map λ(e:Ex)=>e.cs.map AV.p)++List.replicate (l.length-i) ([.p (.int .i64 0),.p (.int .i64 0),.p (.str []),.nils]:List AV)).length=l.length:=by simp;omega
    generalize l[i]=e at hg hset hH hcs
    generalize hRow:(List.take i (l.map λ(e:Ex)=>e.cs.map AV.p)++List.replicate (l.length-i) ([.p (.int .i64 0),.p (.int .i64 0),.p (.str []),.nils]:List AV))=Rw at hg2 hset htl⊢
    rw[hcs] at hH hset
    simp-implicitDefEqProofs[hg,hcs]
    refine hH.use ?_
    simp-implicitDefEqProofs[hg2,h1,fP]
    simp only[RF,List.map_nil] at hset
    rw[hset]
    refine⟨i+1,h1,by omega,dE [0] rfl (by simp) (bD rfl ?_ cY) ?_⟩
    ·intro x hx
     rcases Rr.1 hx with hx|hx
     ·obtain⟨y,_,rfl⟩:=RC.1 (RP hx);simp
     ·rw[(Se.1 hx).2];simp[below]
    ·simp[below,ren,hsl,w1 (i:=i) (by omega)]
   ·simp at h1
    have hie:i=l.length:=by omega
    subst hie
    rw[Nat.sub_self,List.replicate_zero,RO,Rp (by rw[hn];exact Rl _)]
    simp-implicitDefEqProofs[]
 refine AC.freeze key (.one ?_ .nil)
 have:=ic (h:=[.row 4 (l.map λe=>e.cs.map .p)]) (id:=0) (sz:=4) (n:=l.length) (ls:=l.map Ex.cs) (by simp) (by simp) (λx hx=>by obtain⟨b,_,rfl⟩:=RC.1 hx;simp)
 exact this
theorem zl(l:List Ex)(hb:l.length<=1048576)(H:∀e∈l,VF Tryz.prog G gL [.agg (e.cs.map .p),.agg (e.cs.map .p)] (.p (.bool true))):VF Tryz.prog G dI [.p (exL l),.p (exL l)] (.p (.bool true)):=by
 refine AC.go vh ?_
 have hsl:∀l,exL l= .lst 4 (l.map Ex.cs):=λ_=>rfl
 simp-implicitDefEqProofs[nC,hsl]
 refine aF (λi:Nat=>af 27 [(0,.p (exL l)),(1,.p (exL l)),(5,.p (.int .i64 i))]) (λ_=>[]) (λi=>i<=l.length) (λi=>l.length-i) 0 (by simp) ?_ ?_
 ·exact aE rfl (by simp[below,hsl])
 intro i hi
 simp-implicitDefEqProofs[hsl]
 refine bx (λh1=>?_) (λh1=>?_)
 ·simp at h1
  have hg:=Re h1
  have hH:=H l[i] (Rt h1)
  have hcs:l[i].cs.length=4:=by simp
  generalize l[i]=e at hg hH hcs
  simp-implicitDefEqProofs[hg,hcs]
  refine hH.use ?_
  simp-implicitDefEqProofs[]
  exact⟨i+1,h1,by omega,aE rfl (by simp[below,hsl,w1 (i:=i) (by omega)])⟩
 ·simp at h1
  simp-implicitDefEqProofs[]
theorem zb(l:List Sm)(left:Nat)(hl:left<=1048576)(hb:l.length<=BL)(H:∀e∈l,∀left:Nat,left<=1048576->VF Tryz.prog G gC [.agg (e.cs.map .p),.p (.int .i64 left)] (.p (.int .i64 (bu left (e.sz-1))))):
 VF Tryz.prog G bX [.p (smL l),.p (.int .i64 left)] (.p (.int .i64 (bu left (aH l)))):=by
 refine AC.go vw ?_
 have hpos:∀v∈l.map Sm.sz,1<=v:=λv hv=>by obtain⟨e,_,rfl⟩:=RC.1 hv;exact e.sz_pos
 have hz:=BG l
 have hal:=λi (hi:l.length<=i)=>uN hpos (i:=i) (by rw[RL];exact hi)
 have hle:=AN hpos
 have h00:cU (l.map Sm.sz) 0=l.length:=by rw[ti,RL]
 rw[←hz] at hal hle
 have hsl:∀l,smL l= .lst 5 (l.map Sm.cs):=λ_=>rfl
 have hw:IntKind.i64.wrap ((left:Int)-l.length)=(left:Int)-l.length:=ag (by simp only[BL] at hb;omega) (by omega)
 by_cases h:l.length<=left
 case neg=>
  have h1:(left:Int)-l.length<0:=by omega
  have:=hle 0
  have h2:bu left (aH l)= -1:=if_neg (by omega)
  simp-implicitDefEqProofs[jC,hsl,hw,h1,h2]
 have h1:¬(left:Int)-l.length<0:=by omega
 simp-implicitDefEqProofs[jC,hsl,hw,h1]
 refine aF (λi:Nat=>af 27 [(0,.p (smL l)),(1,.p (.int .i64 ((left-cU (l.map Sm.sz) i:Nat):Int))),(5,.p (.int .i64 i))]) (λ_=>[]) (λi=>i<=l.length/\cU (l.map Sm.sz) i<=left) (λi=>l.length-i) 0 ⟨by omega,by rw[h00];exact h⟩ ?_ ?_
 ·refine aE rfl ?_
  simp only[h00]
  simp[below,hsl]
  omega
 ·intro i ⟨hi,hx⟩
  simp-implicitDefEqProofs[hsl]
  refine bx (λh1=>?_) (λh1=>?_)
  ·simp at h1
   have hg:=Re h1
   have hsu:=sL (ss:=l.map Sm.sz) (i:=i) (v:=l[i].sz) (by rw[Rs,hg];rfl)
   have hH:=H l[i] (Rt h1) (left-cU (l.map Sm.sz) i) (by omega)
   have hcs:l[i].cs.length=5:=by simp
   have hle1:=hle (i+1)
   generalize l[i]=e at hg hsu hH hcs
   simp-implicitDefEqProofs[hg,hcs]
   refine hH.use ?_
   by_cases h2:e.sz-1<=left-cU (l.map Sm.sz) i
   ·have e2:bu (left-cU (l.map Sm.sz) i) (e.sz-1)=((left-cU (l.map Sm.sz) (i+1):Nat):Int):=by rw[bu,if_pos h2];omega
    have h3:¬((left-cU (l.map Sm.sz) (i+1):Nat):Int)<0:=by omega
    rw[e2]
    simp-implicitDefEqProofs[h3]
    refine⟨i+1,⟨h1,by omega⟩,by omega,aE rfl (by simp[below,hsl,w1 (i:=i) (by simp only[BL] at hb;omega)])⟩
   ·have e2:bu (left-cU (l.map Sm.sz) i) (e.sz-1)= -1:=if_neg h2
    have e3:bu left (aH l)= -1:=if_neg (by omega)
    rw[e2,e3]
    simp-implicitDefEqProofs[]
  ·simp at h1
   have hta:=hal i h1
   have h5:bu left (aH l)=((left-cU (l.map Sm.sz) i:Nat):Int):=by rw[hta,bu,if_pos (by omega)]
   simp-implicitDefEqProofs[h5]
theorem sX(l:List Sm)(hb:l.length<=1048576)(H:∀e∈l,VF Tryz.prog G gF [.agg (e.cs.map .p)] (.agg (e.cs.map .p))):VF Tryz.prog G bY [.p (smL l)] (.p (smL l)):=by
 have hsl:∀l,smL l= .lst 5 (l.map Sm.cs):=λ_=>rfl
 have key:AC Tryz.prog G bY [.p (smL l)] [] λx h=>x= .ret (.sl 0 5 0 l.length)/\h=[.row 5 (l.map λe=>e.cs.map .p)]:=by
  refine AC.go yx ?_
  have hn:(l.map λe=>e.cs.map AV.p).length=l.length:=by simp
  simp-implicitDefEqProofs[mu,hsl]
  refine⟨by omega,?_⟩
  refine aF (λi:Nat=>af 23 [(0,.p (smL l)),(3,.sl 0 5 0 l.length),(4,.p (.int .i64 i))]) (λi=>[.row 5 ((l.map λe=>e.cs.map AV.p).take i++List.replicate (l.length-i) [.p (.int .i64 0),.p (.str []),.nils,.nils,.nils])]) (λi=>i<=l.length) (λi=>l.length-i) 0 (by simp) ?_ ?_
  ·refine dE [0] rfl (by simp) (bD (by simp) (by simp[below]) cY) ?_
   simp[below,ren,hsl]
  ·intro i hi
   simp-implicitDefEqProofs[hsl]
   refine bx (λh1=>?_) (λh1=>?_)
   ·simp at h1
    have hg:=Re h1
    have hg2:=vV (z:=([.p (.int .i64 0),.p (.str []),.nils,.nils,.nils]:List AV)) hn h1
    have hset:=pU (z:=([.p (.int .i64 0),.p (.str []),.nils,.nils,.nils]:List AV)) (v:=l[i].cs.map AV.p) hn h1 (by rw[Rs,hg];rfl)
    have hH:=H l[i] (Rt h1)
    have hcs:=l[i].cs_eq
    have htl:(List.take i (l.map λ(e:Sm)=>e.cs.map AV.p)++List.replicate (l.length-i) ([.p (.int .i64 0),.p (.str []),.nils,.nils,.nils]:List AV)).length=l.length:=by simp;omega
    generalize l[i]=e at hg hset hH hcs
    generalize hRow:(List.take i (l.map λ(e:Sm)=>e.cs.map AV.p)++List.replicate (l.length-i) ([.p (.int .i64 0),.p (.str []),.nils,.nils,.nils]:List AV))=Rw at hg2 hset htl⊢
    rw[hcs] at hH hset
    simp-implicitDefEqProofs[hg,hcs]
    refine hH.use ?_
    simp-implicitDefEqProofs[hg2,h1,fP]
    simp only[RF,List.map_nil] at hset
    rw[hset]
    refine⟨i+1,h1,by omega,dE [0] rfl (by simp) (bD rfl ?_ cY) ?_⟩
    ·intro x hx
     rcases Rr.1 hx with hx|hx
     ·obtain⟨y,_,rfl⟩:=RC.1 (RP hx);simp
     ·rw[(Se.1 hx).2];simp[below]
    ·simp[below,ren,hsl,w1 (i:=i) (by omega)]
   ·simp at h1
    have hie:i=l.length:=by omega
    subst hie
    rw[Nat.sub_self,List.replicate_zero,RO,Rp (by rw[hn];exact Rl _)]
    simp-implicitDefEqProofs[]
 refine AC.freeze key (.one ?_ .nil)
 have:=ic (h:=[.row 5 (l.map λe=>e.cs.map .p)]) (id:=0) (sz:=5) (n:=l.length) (ls:=l.map Sm.cs) (by simp) (by simp) (λx hx=>by obtain⟨b,_,rfl⟩:=RC.1 hx;simp)
 exact this
theorem sI(l:List Sm)(hb:l.length<=1048576)(H:∀e∈l,VF Tryz.prog G gO [.agg (e.cs.map .p),.agg (e.cs.map .p)] (.p (.bool true))):VF Tryz.prog G cQ [.p (smL l),.p (smL l)] (.p (.bool true)):=by
 refine AC.go vE ?_
 have hsl:∀l,smL l= .lst 5 (l.map Sm.cs):=λ_=>rfl
 simp-implicitDefEqProofs[mz,hsl]
 refine aF (λi:Nat=>af 27 [(0,.p (smL l)),(1,.p (smL l)),(5,.p (.int .i64 i))]) (λ_=>[]) (λi=>i<=l.length) (λi=>l.length-i) 0 (by simp) ?_ ?_
 ·exact aE rfl (by simp[below,hsl])
 intro i hi
 simp-implicitDefEqProofs[hsl]
 refine bx (λh1=>?_) (λh1=>?_)
 ·simp at h1
  have hg:=Re h1
  have hH:=H l[i] (Rt h1)
  have hcs:l[i].cs.length=5:=by simp
  generalize l[i]=e at hg hH hcs
  simp-implicitDefEqProofs[hg,hcs]
  refine hH.use ?_
  simp-implicitDefEqProofs[]
  exact⟨i+1,h1,by omega,aE rfl (by simp[below,hsl,w1 (i:=i) (by omega)])⟩
 ·simp at h1
  simp-implicitDefEqProofs[]
theorem KK(l:List Fd)(left:Nat)(hl:left<=1048576)(hb:l.length<=BL)(H:∀e∈l,∀left:Nat,left<=1048576->VF Tryz.prog G jZ [.agg (e.cs.map .p),.p (.int .i64 left)] (.p (.int .i64 (bu left (e.sz-1))))):
 VF Tryz.prog G lS [.p (fdL l),.p (.int .i64 left)] (.p (.int .i64 (bu left (bh l)))):=by
 refine AC.go Ax ?_
 have hpos:∀v∈l.map Fd.sz,1<=v:=λv hv=>by obtain⟨e,_,rfl⟩:=RC.1 hv;exact e.sz_pos
 have hz:=JA l
 have hal:=λi (hi:l.length<=i)=>uN hpos (i:=i) (by rw[RL];exact hi)
 have hle:=AN hpos
 have h00:cU (l.map Fd.sz) 0=l.length:=by rw[ti,RL]
 rw[←hz] at hal hle
 have hsl:∀l,fdL l= .lst 3 (l.map Fd.cs):=λ_=>rfl
 have hw:IntKind.i64.wrap ((left:Int)-l.length)=(left:Int)-l.length:=ag (by simp only[BL] at hb;omega) (by omega)
 by_cases h:l.length<=left
 case neg=>
  have h1:(left:Int)-l.length<0:=by omega
  have:=hle 0
  have h2:bu left (bh l)= -1:=if_neg (by omega)
  simp-implicitDefEqProofs[lD,hsl,hw,h1,h2]
 have h1:¬(left:Int)-l.length<0:=by omega
 simp-implicitDefEqProofs[lD,hsl,hw,h1]
 refine aF (λi:Nat=>af 27 [(0,.p (fdL l)),(1,.p (.int .i64 ((left-cU (l.map Fd.sz) i:Nat):Int))),(5,.p (.int .i64 i))]) (λ_=>[]) (λi=>i<=l.length/\cU (l.map Fd.sz) i<=left) (λi=>l.length-i) 0 ⟨by omega,by rw[h00];exact h⟩ ?_ ?_
 ·refine aE rfl ?_
  simp only[h00]
  simp[below,hsl]
  omega
 ·intro i ⟨hi,hx⟩
  simp-implicitDefEqProofs[hsl]
  refine bx (λh1=>?_) (λh1=>?_)
  ·simp at h1
   have hg:=Re h1
   have hsu:=sL (ss:=l.map Fd.sz) (i:=i) (v:=l[i].sz) (by rw[Rs,hg];rfl)
   have hH:=H l[i] (Rt h1) (left-cU (l.map Fd.sz) i) (by omega)
   have hcs:l[i].cs.length=3:=by simp
   have hle1:=hle (i+1)
   generalize l[i]=e at hg hsu hH hcs
   simp-implicitDefEqProofs[hg,hcs]
   refine hH.use ?_
   by_cases h2:e.sz-1<=left-cU (l.map Fd.sz) i
   ·have e2:bu (left-cU (l.map Fd.sz) i) (e.sz-1)=((left-cU (l.map Fd.sz) (i+1):Nat):Int):=by rw[bu,if_pos h2];omega
    have h3:¬((left-cU (l.map Fd.sz) (i+1):Nat):Int)<0:=by omega
    rw[e2]
    simp-implicitDefEqProofs[h3]
    refine⟨i+1,⟨h1,by omega⟩,by omega,aE rfl (by simp[below,hsl,w1 (i:=i) (by simp only[BL] at hb;omega)])⟩
   ·have e2:bu (left-cU (l.map Fd.sz) i) (e.sz-1)= -1:=if_neg h2
    have e3:bu left (bh l)= -1:=if_neg (by omega)
    rw[e2,e3]
    simp-implicitDefEqProofs[]
  ·simp at h1
   have hta:=hal i h1
   have h5:bu left (bh l)=((left-cU (l.map Fd.sz) i:Nat):Int):=by rw[hta,bu,if_pos (by omega)]
   simp-implicitDefEqProofs[h5]
theorem Lt(l:List Fd)(hb:l.length<=1048576)(H:∀e∈l,VF Tryz.prog G kf [.agg (e.cs.map .p)] (.agg (e.cs.map .p))):VF Tryz.prog G iO [.p (fdL l)] (.p (fdL l)):=by
 have hsl:∀l,fdL l= .lst 3 (l.map Fd.cs):=λ_=>rfl
 have key:AC Tryz.prog G iO [.p (fdL l)] [] λx h=>x= .ret (.sl 0 3 0 l.length)/\h=[.row 3 (l.map λe=>e.cs.map .p)]:=by
  refine AC.go AJ ?_
  have hn:(l.map λe=>e.cs.map AV.p).length=l.length:=by simp
  simp-implicitDefEqProofs[rF,hsl]
  refine⟨by omega,?_⟩
  refine aF (λi:Nat=>af 23 [(0,.p (fdL l)),(3,.sl 0 3 0 l.length),(4,.p (.int .i64 i))]) (λi=>[.row 3 ((l.map λe=>e.cs.map AV.p).take i++List.replicate (l.length-i) [.p (.str []),.nils,.nils])]) (λi=>i<=l.length) (λi=>l.length-i) 0 (by simp) ?_ ?_
  ·refine dE [0] rfl (by simp) (bD (by simp) (by simp[below]) cY) ?_
   simp[below,ren,hsl]
  ·intro i hi
   simp-implicitDefEqProofs[hsl]
   refine bx (λh1=>?_) (λh1=>?_)
   ·simp at h1
    have hg:=Re h1
    have hg2:=vV (z:=([.p (.str []),.nils,.nils]:List AV)) hn h1
    have hset:=pU (z:=([.p (.str []),.nils,.nils]:List AV)) (v:=l[i].cs.map AV.p) hn h1 (by rw[Rs,hg];rfl)
    have hH:=H l[i] (Rt h1)
    have hcs:=l[i].cs_eq'
    have htl:(List.take i (l.map λ(e:Fd)=>e.cs.map AV.p)++List.replicate (l.length-i) ([.p (.str []),.nils,.nils]:List AV)).length=l.length:=by simp;omega
    generalize l[i]=e at hg hset hH hcs
    generalize hRow:(List.take i (l.map λ(e:Fd)=>e.cs.map AV.p)++List.replicate (l.length-i) ([.p (.str []),.nils,.nils]:List AV))=Rw at hg2 hset htl⊢
    rw[hcs] at hH hset
    simp-implicitDefEqProofs[hg,hcs]
    refine hH.use ?_
    simp-implicitDefEqProofs[hg2,h1,fP]
    simp only[RF,List.map_nil] at hset
    rw[hset]
    refine⟨i+1,h1,by omega,dE [0] rfl (by simp) (bD rfl ?_ cY) ?_⟩
    ·intro x hx
     rcases Rr.1 hx with hx|hx
     ·obtain⟨y,_,rfl⟩:=RC.1 (RP hx);simp
     ·rw[(Se.1 hx).2];simp[below]
    ·simp[below,ren,hsl,w1 (i:=i) (by omega)]
   ·simp at h1
    have hie:i=l.length:=by omega
    subst hie
    rw[Nat.sub_self,List.replicate_zero,RO,Rp (by rw[hn];exact Rl _)]
    simp-implicitDefEqProofs[]
 refine AC.freeze key (.one ?_ .nil)
 have:=ic (h:=[.row 3 (l.map λe=>e.cs.map .p)]) (id:=0) (sz:=3) (n:=l.length) (ls:=l.map Fd.cs) (by simp) (by simp) (λx hx=>by obtain⟨b,_,rfl⟩:=RC.1 hx;simp)
 exact this
theorem JO(l:List Fd)(hb:l.length<=1048576)(H:∀e∈l,VF Tryz.prog G jT [.agg (e.cs.map .p),.agg (e.cs.map .p)] (.p (.bool true))):VF Tryz.prog G lI [.p (fdL l),.p (fdL l)] (.p (.bool true)):=by
 refine AC.go Ak ?_
 have hsl:∀l,fdL l= .lst 3 (l.map Fd.cs):=λ_=>rfl
 simp-implicitDefEqProofs[pO,hsl]
 refine aF (λi:Nat=>af 27 [(0,.p (fdL l)),(1,.p (fdL l)),(5,.p (.int .i64 i))]) (λ_=>[]) (λi=>i<=l.length) (λi=>l.length-i) 0 (by simp) ?_ ?_
 ·exact aE rfl (by simp[below,hsl])
 intro i hi
 simp-implicitDefEqProofs[hsl]
 refine bx (λh1=>?_) (λh1=>?_)
 ·simp at h1
  have hg:=Re h1
  have hH:=H l[i] (Rt h1)
  have hcs:l[i].cs.length=3:=by simp
  generalize l[i]=e at hg hH hcs
  simp-implicitDefEqProofs[hg,hcs]
  refine hH.use ?_
  simp-implicitDefEqProofs[]
  exact⟨i+1,h1,by omega,aE rfl (by simp[below,hsl,w1 (i:=i) (by omega)])⟩
 ·simp at h1
  simp-implicitDefEqProofs[]
end
section
theorem dq{α:Type}{p:α->Bool}{xs:List α}{i:Nat}(h:i<xs.length):(xs.take (i+1)).all p=((xs.take i).all p&&p xs[i]):=by
 rw[aj h,List.all_append];simp
theorem lO{α:Type}{p:α->Bool}{xs:List α}{i:Nat}(h:i<xs.length)(hp:p xs[i]=false):xs.all p=false:=
 List.all_eq_false.2 ⟨_,Rt h,by simp[hp]⟩
theorem fE{α:Type}{p:α->Bool}{xs:List α}{i:Nat}(h:xs.length<=i)(ht:(xs.take i).all p=true):xs.all p=true:=by
 rwa[Rp h] at ht
def oN:AK:=qe [wx 2 4 0,wA] (xo [wQ 10 2,qu 11 10,w9 12 gN 11,qf 9 12,wN 13 0 9,wN 14 1 9,qf 5 13,xC 14] [wG 15,xw 16 15 1,qf 17 16,xq 18 17 0 2,xm 19 17 18,qJ 20 17 (xJ (xD 19 (qk 1) (qk 13))),qJ 21 17 (qX 20),xR 22 17 21,qf 23 22,xq 24 23 3 2,xm 25 23 24,qJ 26 23 (qQ 25),xx 27 23 5,xx 28 23 6,qJ 29 23 (xJ (xF 26 27 28)),qJ 30 23 (qX 29),xR 31 23 30] 31 wA (.cut (.reg [wQ 32 2,qu 33 32,wg 34 33 2,qf 35 34,xq 36 35 0 2,xm 37 35 36,qJ 38 35 (wV .eql 37 13),xR 39 35 38,qf 7 39]) (.cut (qe [qf 40 7,xp 41 2,qu 42 41,w9 43 bS 42,qb 44 (.beq true (.t 40) (.t 43)),qf 45 44,xx 46 45 7,qJ 47 45 (qX 46),xx 48 45 47,wT 49 48 2 2,wR 50 48 49,qI 51 48 (xv .neq 50 (.c wF)),qJ 52 45 (qL 48 (.t 51) wI),xR 53 45 52,qf 54 53,xq 55 54 1 2,xm 56 54 55,qJ 57 54 (xJ (xD 56 (qk 0) (qk 255))),qJ 58 54 (qX 57),xR 59 54 58,qf 60 59,xq 61 60 0 2,xm 62 60 61,qJ 63 60 (wV .neq 62 1),xx 64 60 63,wT 65 64 1 2,wR 66 64 65,xB 67 64 .neq 66 0,qJ 68 60 (qL 64 (.t 67) wI),xR 69 60 68] (xO 69)) (xz [wE 8] (xf 0 [xI 70,xy 71 2,qu 72 71,wc 73 72,wH 74 70 73] 74 0 1 (qe [xy 77 2,qu 78 77,xI 79,wq 80 4 78 79,qG 81 4 80,wG 82,qy 83 .sub 82 1,wY 84 eL 81 83,wJ 85 84] (xO 85)) [xI 75,xu 76 75,qf 8 76]) [xU 4]))))
theorem yW:AK.whole oN=FK.ak gA:=rfl
def pi:AK:=qe [wx 2 5 0,wA] (.cut (qe [wG 7,xw 8 7 1,xI 9,xq 10 9 0 2,xm 11 9 10,qJ 12 9 (xJ (xD 11 (qk 1) (qk 8))),qJ 13 9 (qX 12),xR 14 9 13,qf 15 14,xq 16 15 2 2,xq 19 15 0 2,xm 17 15 16,qJ 18 15 (qQ 17),xm 20 15 19,qJ 21 15 (.qcall gI (w8 20)),qJ 22 15 (ql .neq 18 (.t 21)),xR 23 15 22] (xO 23)) (.cut (.reg [wQ 24 2,qu 25 24,wg 26 25 1,qf 27 26,xq 28 27 0 2,xm 29 27 28,qJ 30 27 (wV .eql 29 2),xR 31 27 30,qf 5 31]) (.cut (qe [xb 32,xr 33 2,qu 34 33,w9 35 bS 34,qb 36 (.beq true (.t 32) (.t 35)),qf 37 36,xx 38 37 5,qJ 39 37 (qX 38),xx 40 37 39,wT 41 40 1 2,wR 42 40 41,qI 43 40 (xv .neq 42 (.c wF)),qJ 44 37 (qL 40 (.t 43) wI),xR 45 37 44] (xO 45)) (qx [wE 6] (xf 0 [qf 46 6,xp 47 2,qu 48 47,wc 49 48,wH 50 46 49] 50 0 1 (qe [xp 53 2,qu 54 53,qf 55 6,wq 56 4 54 55,qG 57 4 56,w9 58 dN 57,wJ 59 58] (xO 59)) [qf 51 6,xu 52 51,xC 52]) (.cut (qe [wQ 60 2,qu 61 60,wg 62 61 8,qf 63 62,wT 64 63 2 2,wR 65 63 64,qI 66 63 (qF 4 65 (qk 0)),wT 67 63 0 66,wR 68 63 67,xB 69 63 .neq 68 13,xL 70 63 69] (xO 70)) (.cut (qe [qq 71 4 2,qu 72 71,wc 73 72,qy 74 .gtr 73 0,qf 75 74,wT 76 75 0 2,wR 77 75 76,xB 78 75 .neq 77 5,xL 79 75 78,qf 80 79,xq 81 80 3 2,xm 82 80 81,qJ 83 80 (qQ 82),qJ 84 80 (wV .gtr 83 0),xx 85 80 84,wT 86 85 0 2,wR 87 85 86,xB 88 85 .neq 87 5,qJ 89 80 (qL 85 (.t 88) wI),xx 90 80 89,wT 91 90 0 2,wR 92 90 91,xB 93 90 .neq 92 6,qJ 94 80 (qL 90 (.t 93) wI),xR 95 80 94] (xO 95)) (qw [xy 96 2,qu 97 96,wG 98,qy 99 .sub 98 1,wY 100 bE 97 99,qf 101 100,wT 102 101 4 2,wR 103 101 102,xA 104 101 1,xB 105 101 .sub 104 1,qI 106 101 (.call bE (wW 103 (.t 105))),xL 107 101 106,qf 4 107])))))))
theorem yN:AK.whole pi=FK.ak gP:=rfl
variable (G:aw)
theorem sN(n lo hi:Int):VF Tryz.prog G ib [.p (.int .i64 n),.p (.int .i64 lo),.p (.int .i64 hi)] (.p (.bool (inR n lo hi))):=by
 refine AC.go BD ?_
 by_cases h:lo<=n
 ·simp-implicitDefEqProofs[mG,h,inR]
 ·simp-implicitDefEqProofs[mG,h,inR]
theorem BT(op:Int):VF Tryz.prog G gN [.p (.int .i64 op)] (.tup [.p (.int .i64 (loK op)),.p (.int .i64 (hiK op))]):=by
 refine AC.go yX ?_
 by_cases h1:op=1
 ·subst h1;simp-implicitDefEqProofs[cA,loK,hiK]
 by_cases h2:op=2
 ·subst h2;simp-implicitDefEqProofs[cA,loK,hiK]
 by_cases h3:op=11
 ·subst h3;simp-implicitDefEqProofs[cA,loK,hiK]
 by_cases h4:op=12
 ·subst h4;simp-implicitDefEqProofs[cA,loK,hiK]
 by_cases h5:op=13
 ·subst h5;simp-implicitDefEqProofs[cA,loK,hiK]
 simp-implicitDefEqProofs[cA,loK,hiK,h1,h2,h3,h4,h5]
theorem Ig:∀(d:Nat) (e:Ex),e.sz<=1099511627776->d<=1000->VF Tryz.prog G eL [.agg (e.cs.map .p),.p (.int .i64 d)] (.p (.bool (bO d e))):=by
 intro d
 induction d with
 |zero=>
  intro e he _
  refine AC.go oD ?_
  simp-implicitDefEqProofs[gA,Ex.cs_eq]
  refine(BT G _).use ?_
  simp-implicitDefEqProofs[bO]
 |succ d ih=>
  intro e he hd
  have hsz:=e.sz_eq
  have hkl:=aX e.kids
  refine AC.goK oD yW ?_
  have hd1:¬(d:Int)+1<1:=by omega
  have hw:IntKind.i64.wrap ((d:Int)+1-1)=(d:Int):=by rw[show(d:Int)+1-1=d by omega];exact ag (by omega) (by omega)
  have hw':IntKind.i64.wrap (d:Int)=(d:Int):=ag (by omega) (by omega)
  have hxl:∀l,exL l= .lst 4 (l.map Ex.cs):=λ_=>rfl
  simp-implicitDefEqProofs[oN,gA,Ex.cs_eq]
  refine(BT G _).use ?_
  simp-implicitDefEqProofs[hd1]
  refine(sN G _ _ _).use ?_
  by_cases h1:inR e.op 1 13=true
  case neg=>simp-implicitDefEqProofs[h1,bO,lm]
  simp-implicitDefEqProofs[h1,hxl]
  refine(sN G _ _ _).use ?_
  by_cases h2:inR e.kids.length (loK e.op) (hiK e.op)=true
  case neg=>simp-implicitDefEqProofs[h2,bO,lm]
  simp-implicitDefEqProofs[h2]
  refine ow (af 86 [(1,.p (.int .i64 (d+1))),(2,.ptr 0 4 0 0),(7,.p (.bool (DM e.op)))]) [.row 4 [[.p (.int .i64 e.op),.p (.int .i64 e.n),.p (.str e.name),.p (.lst 4 (e.kids.map Ex.cs))]]] ?_ ?_
  ·by_cases o2:e.op=2
   ·simp-implicitDefEqProofs[o2]
    exact ab (by simp) (by simp[okO]) (by simp[below,DM])
   ·by_cases o13:e.op=13
    ·simp-implicitDefEqProofs[o13]
     exact ab (by simp) (by simp[okO]) (by simp[below,DM])
    ·simp-implicitDefEqProofs[o2,o13]
     exact ab (by simp) (by simp[okO]) (by simp[below,DM,o2,o13])
  have hn:e.name.length<=140737488355328:=by omega
  refine yZ (λ_:Unit=>af 86 [(1,.p (.int .i64 ((d:Int)+1))),(2,.ptr 0 4 0 0)]) (λ_=>[.row 4 [[.p (.int .i64 e.op),.p (.int .i64 e.n),.p (.str e.name),.p (.lst 4 (e.kids.map Ex.cs))]]]) (λ_=>lm e=true) ?_ ?_
  ·simp-implicitDefEqProofs[]
   refine(rx G _ hn).use ?_
   simp-implicitDefEqProofs[]
   repeat' first
    |(refine(sN G _ _ _).use ?_;simp-implicitDefEqProofs[])
    |(refine bx (λhc=>?_) (λhc=>?_)<;>simp-implicitDefEqProofs[hc])
   all_goals first
    |exact⟨by simp_all [lm],ab (by simp) (by simp[okO]) (by simp[below])⟩
    |simp_all [bO,lm]
  intro _ hh
  simp-implicitDefEqProofs[]
  refine aF (λi:Nat=>af 86 [(1,.p (.int .i64 ((d:Int)+1))),(2,.ptr 0 4 0 0),(8,.p (.int .i64 i))]) (λ_=>[.row 4 [[.p (.int .i64 e.op),.p (.int .i64 e.n),.p (.str e.name),.p (.lst 4 (e.kids.map Ex.cs))]]])
   (λi=>i<=e.kids.length/\(e.kids.take i).all (bO d)=true) (λi=>e.kids.length-i) 0 (by simp) (ab (by simp) (by simp[okO]) (by simp[below])) ?_
  intro i ⟨hi,hall⟩
  simp-implicitDefEqProofs[]
  refine bx (λh=>?_) (λh=>?_)
  ·simp at h
   have hg:=Re h
   have hks:=aT (Rt h)
   simp-implicitDefEqProofs[hg,hw']
   refine(ih e.kids[i] (by omega) (by omega)).use ?_
   by_cases hk:bO d e.kids[i]=true
   ·simp-implicitDefEqProofs[hk]
    refine⟨i+1,⟨h,by rw[←Rk,dq h,hall,hk];rfl⟩,by omega,ab (by simp) (by simp[okO]) ?_⟩
    simp[below,w1 (i:=i) (by omega)]
   ·have hk':bO d e.kids[i]=false:=by simpa using hk
    have hf:bO (d+1) e=false:=by simp only[bO,lO h hk',Bool.and_false]
    simp-implicitDefEqProofs[hk',hf]
  ·simp at h
   have hf:bO (d+1) e=true:=by simp only[bO,fE h hall,hh,Bool.and_self]
   simp-implicitDefEqProofs[hf]
theorem FG{l:List Ex}{i:Nat}(h:i<l.length):fp (l.take (i+1))=fp (l.take i)+l[i].parts:=by
 rw[aj h,gX];simp[fp]
theorem As(l:List Ex)(i:Nat):fp (l.take i)<=fp l:=by
 have:=gX (l.take i) (l.drop i)
 rw[RZ] at this
 omega
theorem FU:∀(k:Nat) (e:Ex),e.sz<=k->k<=1099511627776->VF Tryz.prog G fv [.agg (e.cs.map .p)] (.p (.int .i64 e.parts)):=by
 intro k
 induction k with
 |zero=>intro e he;have:=e.sz_eq;omega
 |succ k ih=>
  intro e he hk
  have hsz:=e.sz_eq
  have hkl:=aX e.kids
  have hpe:=e.parts_eq
  have hpz:=zP e.kids
  refine AC.go vv ?_
  have hxl:∀l,exL l= .lst 4 (l.map Ex.cs):=λ_=>rfl
  simp-implicitDefEqProofs[mR,Ex.cs_eq,hxl]
  refine aF (λi:Nat=>af 21 [(1,.ptr 0 4 0 0),(3,.p (.int .i64 ((1+fp (e.kids.take i):Nat):Int))),(4,.p (.int .i64 i))]) (λ_=>[.row 4 [[.p (.int .i64 e.op),.p (.int .i64 e.n),.p (.str e.name),.p (.lst 4 (e.kids.map Ex.cs))]]])
   (λi=>i<=e.kids.length) (λi=>e.kids.length-i) 0 (by simp) (ab (by simp) (by simp[okO]) (by simp[below,fp])) ?_
  intro i hi
  simp-implicitDefEqProofs[]
  refine bx (λh=>?_) (λh=>?_)
  ·simp at h
   have hg:=Re h
   have hks:=aT (Rt h)
   have hps:=FG h
   have hple:=As e.kids (i+1)
   simp-implicitDefEqProofs[hg]
   refine(ih e.kids[i] (by omega) (by omega)).use ?_
   have hw:IntKind.i64.wrap (1+(fp (e.kids.take i):Int)+(e.kids[i].parts:Int))=((1+fp (e.kids.take (i+1)):Nat):Int):=by rw[ag (by omega) (by omega)];omega
   simp-implicitDefEqProofs[hw]
   exact⟨i+1,h,by omega,ab (by simp) (by simp[okO]) (by simp[below,w1 (i:=i) (by omega)])⟩
  ·simp at h
   rw[Rp h]
   simp-implicitDefEqProofs[]
   omega
theorem BW(e:Ex)(he:e.sz<=1099511627776):VF Tryz.prog G dN [.agg (e.cs.map .p)] (.p (.bool (kG e))):=by
 refine AC.go sw ?_
 simp-implicitDefEqProofs[lf]
 have h6:=Ig G 6 e he (by omega)
 refine h6.use ?_
 by_cases h:bO 6 e=true
 ·simp-implicitDefEqProofs[h]
  refine(FU G _ e (Rl _) he).use ?_
  simp-implicitDefEqProofs[kG,h]
  omega
 ·simp-implicitDefEqProofs[h,kG]
theorem Js(op:Int):VF Tryz.prog G gI [.p (.int .i64 op)] (.p (.int .i64 (ga op))):=by
 refine AC.go yM ?_
 by_cases h:op=4
 ·simp-implicitDefEqProofs[kx,h,ga]
 ·simp-implicitDefEqProofs[kx,h,ga]
theorem tm(d:Nat)(hd:d<=1000)(hs:∀s:Sm,s.sz<=1099511627776->VF Tryz.prog G gQ [.agg (s.cs.map .p),.p (.int .i64 d)] (.p (.bool (ay d s))))(l:List Sm)(hl:aH l<=1099511627776):
 VF Tryz.prog G bE [.p (smL l),.p (.int .i64 d)] (.p (.bool (l.all (ay d)))):=by
 refine AC.go uQ ?_
 have hll:=bF l
 have hsl:∀l,smL l= .lst 5 (l.map Sm.cs):=λ_=>rfl
 simp-implicitDefEqProofs[mw]
 refine aF (λi:Nat=>af 19 [(0,.p (smL l)),(1,.p (.int .i64 d)),(5,.p (.int .i64 i))]) (λ_=>[]) (λi=>i<=l.length/\(l.take i).all (ay d)=true) (λi=>l.length-i) 0 (by simp) (aE rfl (by simp[below,hsl])) ?_
 intro i ⟨hi,hall⟩
 simp-implicitDefEqProofs[hsl]
 refine bx (λh=>?_) (λh=>?_)
 ·simp at h
  have hg:=Re h
  have hks:=aW (Rt h)
  simp-implicitDefEqProofs[hg]
  refine(hs l[i] (by omega)).use ?_
  by_cases hk:ay d l[i]=true
  ·simp-implicitDefEqProofs[hk]
   exact⟨i+1,⟨h,by rw[←Rk,dq h,hall,hk];rfl⟩,by omega,aE rfl (by simp[below,hsl,w1 (i:=i) (by omega)])⟩
  ·have hk':ay d l[i]=false:=by simpa using hk
   have hf:=lO h hk'
   simp-implicitDefEqProofs[hk',hf]
 ·simp at h
  have hf:=fE h hall
  simp-implicitDefEqProofs[hf]
theorem Hk:∀(d:Nat),d<=1000->∀s:Sm,s.sz<=1099511627776->VF Tryz.prog G gQ [.agg (s.cs.map .p),.p (.int .i64 d)] (.p (.bool (ay d s))):=by
 intro d
 induction d with
 |zero=>
  intro _ s _
  refine AC.go oS ?_
  simp-implicitDefEqProofs[gP,Sm.cs_eq,ay]
 |succ d ih=>
  intro hd s he
  have hsz:=s.sz_eq
  have hal:=aX s.args
  have hbl:=bF s.body
  have hel:=bF s.els
  have ihs:=tm G d (by omega) (ih (by omega))
  refine AC.goK oS yN ?_
  have hd1:¬(d:Int)+1<1:=by omega
  have hw':IntKind.i64.wrap (d:Int)=(d:Int):=ag (by omega) (by omega)
  have hxl:∀l,exL l= .lst 4 (l.map Ex.cs):=λ_=>rfl
  have hsl:∀l,smL l= .lst 5 (l.map Sm.cs):=λ_=>rfl
  have hn:s.name.length<=140737488355328:=by omega
  simp-implicitDefEqProofs[pi,gP,Sm.cs_eq]
  generalize hH:[AO.row 5 [[AV.p (.int .i64 s.op),.p (.str s.name),.p (exL s.args),.p (smL s.body),.p (smL s.els)]]]=H
  have hho:∀o∈H,okO H.length o:=by rw[←hH];simp[okO]
  have hhl:0<H.length:=by rw[←hH];simp
  have hh0:H[0]?=some (AO.row 5 [[AV.p (.int .i64 s.op),.p (.str s.name),.p (exL s.args),.p (smL s.body),.p (smL s.els)]]):=by rw[←hH];rfl
  have hhL:H.length=1:=by rw[←hH];rfl
  refine yZ (λ_:Unit=>af 108 [(1,.p (.int .i64 ((d:Int)+1))),(2,.ptr 0 5 0 0)]) (λ_=>H) (λ_=>inR s.op 1 8=true/\s.args.length=ga s.op) ?_ ?_
  ·simp-implicitDefEqProofs[hd1,hh0]
   refine(sN G _ _ _).use ?_
   by_cases h1:inR s.op 1 8=true
   case neg=>simp-implicitDefEqProofs[h1,ay,iD]
   simp-implicitDefEqProofs[h1,hh0,hxl]
   refine(Js G _).useQ ?_
   by_cases h2:s.args.length=ga s.op
   ·simp-implicitDefEqProofs[h2]
    exact ab (by omega) hho (by simp[below,hhl])
   ·have h2':¬(s.args.length:Int)=(ga s.op:Int):=by omega
    simp-implicitDefEqProofs[h2,h2',ay,iD]
  intro _ ⟨h1,h2⟩
  refine yZ (λ_:Unit=>af 108 [(1,.p (.int .i64 ((d:Int)+1))),(2,.ptr 0 5 0 0),(5,.p (.bool (cg s.op)))]) (λ_=>H) (λ_=>True) ?_ ?_
  ·simp-implicitDefEqProofs[hh0]
   by_cases o1:s.op=1
   ·simp-implicitDefEqProofs[o1,hh0,cg]
    exact ab (by omega) hho (by simp[below,hhl])
   ·by_cases o2:s.op=2
    ·simp-implicitDefEqProofs[o2,hh0,cg]
     exact ab (by omega) hho (by simp[below,hhl])
    ·simp-implicitDefEqProofs[o1,o2,hh0,cg]
     exact ab (by omega) hho (by simp[below,hhl])
  intro _ _
  refine yZ (λ_:Unit=>af 108 [(1,.p (.int .i64 ((d:Int)+1))),(2,.ptr 0 5 0 0)]) (λ_=>H) (λ_=>(cg s.op==aA s.name)=true/\(cg s.op||decide (s.name=[]))=true) ?_ ?_
  ·simp-implicitDefEqProofs[hh0]
   refine(rx G _ hn).use ?_
   simp-implicitDefEqProofs[hh0]
   repeat' first
    |(refine bx (λhc=>?_) (λhc=>?_)<;>simp-implicitDefEqProofs[hc,hh0])
   all_goals first
    |exact ab (by omega) hho (by simp[below,hhl])
    |exact⟨by simp_all,by simp_all,ab (by omega) hho (by simp[below,hhl])⟩
    |exact⟨by simp_all,ab (by omega) hho (by simp[below,hhl])⟩
    |(simp_all [ay,iD];done)
  intro _ ⟨h3,h4⟩
  simp-implicitDefEqProofs[]
  refine aF (λi:Nat=>af 108 [(1,.p (.int .i64 ((d:Int)+1))),(2,.ptr 0 5 0 0),(6,.p (.int .i64 i))]) (λ_=>H) (λi=>i<=s.args.length/\(s.args.take i).all kG=true) (λi=>s.args.length-i) 0 (by simp) (ab (by omega) hho (by simp[below,hhl])) ?_
  intro i ⟨hi,hall⟩
  simp-implicitDefEqProofs[hh0,hxl]
  refine bx (λh=>?_) (λh=>?_)
  ·simp at h
   have hg:=Re h
   have hks:=aT (Rt h)
   simp-implicitDefEqProofs[hg,hh0,hxl]
   refine(BW G s.args[i] (by omega)).use ?_
   by_cases hk:kG s.args[i]=true
   ·simp-implicitDefEqProofs[hk]
    exact⟨i+1,⟨h,by rw[←Rk,dq h,hall,hk];rfl⟩,by omega,ab (by omega) hho (by simp[below,hhl,w1 (i:=i) (by omega)])⟩
   ·have hk':kG s.args[i]=false:=by simpa using hk
    have hf:ay (d+1) s=false:=by simp only[ay,iD,lO h hk',Bool.and_false,Bool.false_and]
    simp-implicitDefEqProofs[hk',hf]
  simp at h
  have h5:s.args.all kG=true:=fE h hall
  have hlen1:1<=s.args.length:=by rw[h2];unfold ga;split<;>omega
  obtain⟨a0,ar,ha⟩:∃a r,s.args=a::r:=by
   cases hh:s.args with
   |nil=>rw[hh] at hlen1;simp at hlen1
   |cons a r=>exact⟨a,r,rfl⟩
  have ha0:s.args[0]?=some a0:=by rw[ha];rfl
  refine yZ (λ_:Unit=>af 108 [(1,.p (.int .i64 ((d:Int)+1))),(2,.ptr 0 5 0 0)]) (λ_=>H) (λ_=>(!decide (s.op=8)||decide (a0.op=13))=true) ?_ ?_
  ·simp-implicitDefEqProofs[hh0]
   by_cases o8:s.op=8
   ·have hae:=a0.cs_eq
    simp-implicitDefEqProofs[o8,hh0,hxl,ha0,hae]
    refine bx (λhc=>?_) (λhc=>?_)
    ·simp at hc
     have hf:ay (d+1) s=false:=by simp[ay,iD,o8,ha,hc]
     simp-implicitDefEqProofs[hf]
    ·simp at hc
     simp-implicitDefEqProofs[hc]
     exact ab (by omega) hho (by simp[below,hhl])
   ·simp-implicitDefEqProofs[o8,hh0]
    exact ab (by omega) hho (by simp[below,hhl])
  intro _ h6
  refine yZ (λ_:Unit=>af 108 [(1,.p (.int .i64 ((d:Int)+1))),(2,.ptr 0 5 0 0)]) (λ_=>H) (λ_=>(s.els.isEmpty||decide (s.op=5))=true/\(s.body.isEmpty||decide (s.op=5)||decide (s.op=6))=true) ?_ ?_
  ·have hf:¬((s.els.isEmpty||decide (s.op=5))=true/\(s.body.isEmpty||decide (s.op=5)||decide (s.op=6))=true)->ay (d+1) s=false:=λh=>by
    have:iD s=false:=by
     cases hx:iD s with
     |false=>rfl
     |true=>refine absurd ?_ h;simp only[iD,Rv] at hx;exact⟨hx.1.2,hx.2⟩
    simp[ay,this]
   have pe:¬s.els=[]->0<s.els.length:=List.length_pos_iff.2
   have pb:¬s.body=[]->0<s.body.length:=List.length_pos_iff.2
   by_cases o5:s.op=5
   ·simp-implicitDefEqProofs[hh0,hsl,o5]
    repeat' first
     |(refine bx (λhc=>?_) (λhc=>?_)<;>simp-implicitDefEqProofs[hc,hh0,hsl,o5])
    all_goals exact ab (by omega) hho (by simp[below,hhl])
   by_cases e1:s.els=[]
   case neg=>
    have hf:=hf (by simp[e1,o5])
    have:=pe e1
    simp-implicitDefEqProofs[hh0,hsl,o5,e1,this,hf]
   by_cases e2:s.body=[]
   ·simp-implicitDefEqProofs[hh0,hsl,o5,e1,e2]
    exact ab (by omega) hho (by simp[below,hhl])
   have:=pb e2
   by_cases o6:s.op=6
   ·simp-implicitDefEqProofs[hh0,hsl,o6,e1,e2,this]
    exact ab (by omega) hho (by simp[below,hhl])
   ·have hf:=hf (by simp[e2,o5,o6])
    simp-implicitDefEqProofs[hh0,hsl,o5,o6,e1,e2,this,hf]
  intro _ ⟨h7,h8⟩
  have hm:(match s.args with|a::_=>decide (a.op=13)|[]=>false)=decide (a0.op=13):=by rw[ha]
  have hhd:iD s=true:=by
   have h6':(!decide (s.op=8)||(match s.args with|a::_=>decide (a.op=13)|[]=>false))=true:=by rw[hm];exact h6
   have h2':decide (s.args.length=ga s.op)=true:=by simp[h2]
   simp only[iD,h1,h2',h3,h4,h5,h7,h8,Bool.and_self,Bool.and_true,Bool.true_and]
   exact h6'
  simp-implicitDefEqProofs[hh0,hw']
  refine(ihs s.body (by omega)).use ?_
  by_cases hB:s.body.all (ay d)=true
  ·simp only[hB]
   simp-implicitDefEqProofs[hh0,hw']
   refine(ihs s.els (by omega)).use ?_
   have hf:ay (d+1) s=s.els.all (ay d):=by simp only[ay,hhd,hB,Bool.true_and]
   rw[hf]
   generalize s.els.all (ay d)=w
   simp-implicitDefEqProofs[]
  ·have hB':s.body.all (ay d)=false:=by simpa using hB
   have hf:ay (d+1) s=false:=by simp only[ay,hB',Bool.and_false,Bool.false_and]
   simp only[hB',hf]
   simp-implicitDefEqProofs[]
theorem Gr(d:Nat)(hd:d<=1000)(l:List Sm)(hl:aH l<=1099511627776):VF Tryz.prog G bE [.p (smL l),.p (.int .i64 d)] (.p (.bool (l.all (ay d)))):=
 tm G d hd (Hk G d hd) l hl
theorem LY(f:Fd)(hf:f.sz<=1099511627776):VF Tryz.prog G mU [.agg (f.cs.map .p)] (.p (.bool (iZ f))):=by
 refine AC.go Cq ?_
 have hsz:f.sz=1+f.name.length+(f.params.length+(f.params.map List.length).sum)+aH f.body:=rfl
 have hps:∀x∈f.params,x.length<=(f.params.map List.length).sum:=λx hx=>by
  have key:∀l:List (List UInt8),x∈l->x.length<=(l.map List.length).sum:=by
   intro l
   induction l with
   |nil=>intro h;cases h
   |cons y r ih=>
    intro h
    simp only[RF,List.sum_cons]
    rcases Rm.1 h with rfl|h
    ·omega
    ·have:=ih h;omega
  exact key _ hx
 have hst:aB f.params= .lst 1 (f.params.map λw=>[.str w]):=rfl
 have h4:=Gr G 4 (by omega) f.body (by omega)
 simp-implicitDefEqProofs[tz,Fd.cs,hst]
 refine aF (λi:Nat=>af 32 [(1,.ptr 0 3 0 0),(3,.p (.int .i64 i))]) (λ_=>[.row 3 [[.p (.str f.name),.p (aB f.params),.p (smL f.body)]]]) (λi=>i<=f.params.length/\(f.params.take i).all aA=true) (λi=>f.params.length-i) 0 (by simp) (ab (by simp) (by simp[okO]) (by simp[below])) ?_
 intro i ⟨hi,hall⟩
 simp-implicitDefEqProofs[hst]
 refine bx (λh=>?_) (λh=>?_)
 ·simp at h
  have hg:=Re h
  have hl:=hps _ (Rt h)
  simp-implicitDefEqProofs[hg]
  refine(rx G _ (by omega)).use ?_
  by_cases hk:aA f.params[i]=true
  ·simp-implicitDefEqProofs[hk]
   exact⟨i+1,⟨h,by rw[←Rk,dq h,hall,hk];rfl⟩,by omega,ab (by simp) (by simp[okO]) (by simp[below,w1 (i:=i) (by omega)])⟩
  ·have hk':aA f.params[i]=false:=by simpa using hk
   have hff:iZ f=false:=by simp only[iZ,lO h hk',Bool.false_and]
   simp-implicitDefEqProofs[hk',hff]
 ·simp at h
  have h1:f.params.all aA=true:=fE h hall
  simp-implicitDefEqProofs[]
  refine(rx G _ (by omega)).use ?_
  by_cases h2:aA f.name=true
  case neg=>
   have h2':aA f.name=false:=by simpa using h2
   simp-implicitDefEqProofs[h2',iZ]
  simp-implicitDefEqProofs[h2]
  by_cases h3:f.params.length<=3
  case neg=>
   have h3':¬(f.params.length:Int)<=3:=by omega
   simp-implicitDefEqProofs[h3,h3',iZ]
  have h3':(f.params.length:Int)<=3:=by omega
  simp-implicitDefEqProofs[h3']
  refine h4.use ?_
  have hff:iZ f=f.body.all (ay 4):=by simp only[iZ,h1,h2,h3,decide_true,Bool.true_and]
  rw[hff]
  generalize f.body.all (ay 4)=w
  simp-implicitDefEqProofs[]
theorem GF{l:List Sm}{i:Nat}(h:i<l.length):de (l.take (i+1))=de (l.take i)+l[i].cnt:=by
 rw[aj h,mC];simp[de]
theorem rY(l:List Sm)(i:Nat):de (l.take i)<=de l:=by
 have:=mC (l.take i) (l.drop i)
 rw[RZ] at this
 omega
def kj(l:List Sm)(i:Nat):Nat:=l.length+((l.take i).map λs=>de s.body+de s.els).sum
theorem Dq(l:List Sm):kj l 0=l.length:=by simp[kj]
theorem vB{l:List Sm}{i:Nat}(h:i<l.length):kj l (i+1)=kj l i+de l[i].body+de l[i].els:=by
 rw[kj,kj,aj h,List.map_append,List.sum_append]
 simp only[RF,List.map_nil,List.sum_cons,List.sum_nil]
 omega
theorem sr(l:List Sm):∀i,i<=l.length->de (l.take i)+l.length=i+kj l i
 |0,_=>by simp[de,kj]
 |i+1,h=>by
  have:=sr l i (by omega)
  rw[GF (by omega),vB (by omega),(l[i]'(by omega)).cnt_eq]
  omega
theorem Gv:∀(k:Nat) (l:List Sm),aH l<=k->k<=1099511627776->VF Tryz.prog G dH [.p (smL l)] (.p (.int .i64 (de l))):=by
 intro k
 induction k with
 |zero=>
  intro l hl _
  have:l=[]:=by
   cases l with
   |nil=>rfl
   |cons s r=>have:=s.sz_eq;simp only[aH] at hl;omega
  subst this
  refine AC.go ng ?_
  have hsl:smL []= .lst 5 []:=rfl
  simp-implicitDefEqProofs[jm,hsl]
  refine aF (λ_:Unit=>af 29 [(0,.p (.lst 5 [])),(3,.p (.int .i64 0)),(4,.p (.int .i64 0))]) (λ_=>[]) (λ_=>True) (λ_=>0) () trivial (aE rfl (by simp[below])) ?_
  intro _ _
  simp-implicitDefEqProofs[de]
 |succ k ih=>
  intro l hl hk
  have hll:=bF l
  have hnz:=nH l
  refine AC.go ng ?_
  have hsl:∀l,smL l= .lst 5 (l.map Sm.cs):=λ_=>rfl
  simp-implicitDefEqProofs[jm,hsl]
  refine aF (λi:Nat=>af 29 [(0,.p (smL l)),(3,.p (.int .i64 (kj l i))),(4,.p (.int .i64 i))]) (λ_=>[]) (λi=>i<=l.length) (λi=>l.length-i) 0 (by simp) (aE rfl (by simp[below,hsl,Dq])) ?_
  intro i hi
  have k0:=sr l i hi
  have k2:=rY l i
  simp-implicitDefEqProofs[hsl]
  refine bx (λh=>?_) (λh=>?_)
  ·simp at h
   have hg:=Re h
   have hks:=aW (Rt h)
   have hse:=l[i].sz_eq
   have hce:=l[i].cs_eq
   have k1:=vB h
   have k3:=sr l (i+1) h
   have k4:=rY l (i+1)
   simp-implicitDefEqProofs[hg,hce]
   refine(ih l[i].body (by omega) (by omega)).use ?_
   simp-implicitDefEqProofs[hg,hce]
   refine(ih l[i].els (by omega) (by omega)).use ?_
   have w1':IntKind.i64.wrap ((kj l i:Int)+(de l[i].body:Int))=(kj l i:Int)+(de l[i].body:Int):=ag (by omega) (by omega)
   have w2':IntKind.i64.wrap ((kj l i:Int)+(de l[i].body:Int)+(de l[i].els:Int))=(kj l (i+1):Int):=by rw[ag (by omega) (by omega)];omega
   simp-implicitDefEqProofs[w1',w2']
   exact⟨i+1,h,by omega,aE rfl (by simp[below,hsl,w1 (i:=i) (by omega)])⟩
  ·simp at h
   rw[Rp h] at k0
   have:kj l i=de l:=by omega
   simp-implicitDefEqProofs[this]
theorem cS:∀{l:List Fd} {f:Fd},f∈l->f.sz<=bh l
 |x::r,e,h=>by
  simp only[bh,RF,List.sum_cons]
  rcases Rm.1 h with rfl|h
  ·omega
  ·have:=cS h;simp only[bh] at this;omega
theorem eN:∀l:List Fd,l.length<=bh l
 |[]=>Rl _
 |e::r=>by have:=eN r;simp only[bh,RF,List.sum_cons,Rz] at this⊢;have:1<=e.sz:=by unfold Fd.sz;omega
           omega
def uT(l:List Fd)(i:Nat):Nat:=kT (l.take i)
theorem GH{l:List Fd}{i:Nat}(h:i<l.length):uT l (i+1)=uT l i+de l[i].body:=by
 rw[uT,uT,kT,kT,aj h,List.map_append,List.sum_append];simp
theorem AZ:∀l:List Fd,kT l<=bh l
 |[]=>Rl _
 |f::r=>by
  have:=AZ r
  have h2:=nH f.body
  simp only[kT,bh,RF,List.sum_cons] at this⊢
  have:aH f.body<=f.sz:=by unfold Fd.sz;omega
  omega
theorem Lp(l:List Fd)(i:Nat):uT l i<=bh l:=by
 have h1:=AZ (l.take i)
 have h2:bh (l.take i)<=bh l:=by
  have:bh l=bh (l.take i)+bh (l.drop i):=by
   rw[←RZ i l,bh,List.map_append,List.sum_append];simp[bh]
  omega
 exact Ry h1 h2
theorem Kl(l:List Fd)(hl:bh l<=1099511627776):VF Tryz.prog G lH [.agg [.p (fdL l)]] (.p (.int .i64 (kT l))):=by
 refine AC.go AP ?_
 have hll:=eN l
 have hfl:∀l,fdL l= .lst 3 (l.map Fd.cs):=λ_=>rfl
 simp-implicitDefEqProofs[rL]
 refine aF (λi:Nat=>af 22 [(1,.ptr 0 1 0 0),(3,.p (.int .i64 (uT l i))),(4,.p (.int .i64 i))]) (λ_=>[.row 1 [[.p (fdL l)]]]) (λi=>i<=l.length) (λi=>l.length-i) 0 (by simp) (ab (by simp) (by simp[okO]) (by simp[below,uT,kT])) ?_
 intro i hi
 simp-implicitDefEqProofs[hfl]
 refine bx (λh=>?_) (λh=>?_)
 ·simp at h
  have hg:=Re h
  have hks:=cS (Rt h)
  have hse:l[i].sz=1+l[i].name.length+(l[i].params.length+(l[i].params.map List.length).sum)+aH l[i].body:=rfl
  have hce:l[i].cs=[.str l[i].name,aB l[i].params,smL l[i].body]:=rfl
  have k1:=GH h
  have k2:=Lp l (i+1)
  simp-implicitDefEqProofs[hg,hce]
  refine(Gv G _ l[i].body (Rl _) (by omega)).use ?_
  have w1':IntKind.i64.wrap ((uT l i:Int)+(de l[i].body:Int))=(uT l (i+1):Int):=by rw[ag (by omega) (by omega)];omega
  simp-implicitDefEqProofs[w1']
  exact⟨i+1,h,by omega,ab (by simp) (by simp[okO]) (by simp[below,w1 (i:=i) (by omega),hfl])⟩
 ·simp at h
  have:uT l i=kT l:=by rw[uT,Rp h]
  simp-implicitDefEqProofs[this]
theorem ym(l:List Fd)(hl:bh l<=1099511627776):VF Tryz.prog G dY [.agg [.p (fdL l)]] (.p (.bool (ce l))):=by
 refine AC.go oy ?_
 have hfl:∀l,fdL l= .lst 3 (l.map Fd.cs):=λ_=>rfl
 have hall:=Kl G l hl
 have hll:=eN l
 rw[hfl] at hall
 simp-implicitDefEqProofs[iC,hfl]
 refine(sN G _ _ _).use ?_
 by_cases h1:inR l.length 1 4=true
 case neg=>simp-implicitDefEqProofs[h1,ce]
 simp-implicitDefEqProofs[h1]
 refine aF (λi:Nat=>af 26 [(1,.ptr 0 1 0 0),(3,.p (.int .i64 i))]) (λ_=>[.row 1 [[.p (.lst 3 (l.map Fd.cs))]]]) (λi=>i<=l.length/\(l.take i).all iZ=true) (λi=>l.length-i) 0 (by simp) (ab (by simp) (by simp[okO]) (by simp[below])) ?_
 intro i ⟨hi,ha⟩
 simp-implicitDefEqProofs[]
 refine bx (λh=>?_) (λh=>?_)
 ·simp at h
  have hg:=Re h
  have hks:=cS (Rt h)
  simp-implicitDefEqProofs[hg]
  refine(LY G l[i] (by omega)).use ?_
  by_cases hk:iZ l[i]=true
  ·simp-implicitDefEqProofs[hk]
   exact⟨i+1,⟨h,by rw[←Rk,dq h,ha,hk];rfl⟩,by omega,ab (by simp) (by simp[okO]) (by simp[below,w1 (i:=i) (by omega)])⟩
  ·have hk':iZ l[i]=false:=by simpa using hk
   have hff:ce l=false:=by simp only[ce,lO h hk',Bool.and_false,Bool.false_and]
   simp-implicitDefEqProofs[hk',hff]
 ·simp at h
  have h2:l.all iZ=true:=fE h ha
  simp-implicitDefEqProofs[]
  refine hall.use ?_
  have hff:ce l=decide (kT l<=40):=by simp only[ce,h1,h2,Bool.true_and]
  simp-implicitDefEqProofs[hff]
  omega
end
section
variable (G:aw)
theorem bn{left z:Nat}(h:¬z<=left):bu left z= -1:=if_neg h
theorem dp{left z:Nat}(h:z<=left):bu left z=((left-z:Nat):Int):=if_pos h
theorem Im:∀(N:Nat) (e:Ex),e.sz<=N->e.fit->∀left:Nat,left<=1048576->VF Tryz.prog G gD [.agg (e.cs.map .p),.p (.int .i64 left)] (.p (.int .i64 (bu left (e.sz-1)))):=by
 intro N
 induction N with
 |zero=>intro e he;have:=e.sz_pos;omega
 |succ N ih=>
  intro e he hf left hl
  have hec:=e.cs_eq
  have hsz:=e.sz_eq
  rw[e.fit_eq] at hf
  obtain⟨f1,f2,f3⟩:=hf
  refine AC.go yL ?_
  have hw:IntKind.i64.wrap ((left:Int)-e.name.length)=(left:Int)-e.name.length:=ag (by simp only[BL] at f1;omega) (by omega)
  by_cases h1:e.name.length<=left
  case neg=>
   have h2:(left:Int)-e.name.length<0:=by omega
   rw[bn (by omega)]
   simp-implicitDefEqProofs[kH,hec,hw,h2]
  have h2:¬(left:Int)-e.name.length<0:=by omega
  have e2:(left:Int)-e.name.length=((left-e.name.length:Nat):Int):=by omega
  have hS:=zJ G e.kids (left-e.name.length) (by omega) f2 (λx hx l hl=>ih x (by have:=aT hx;omega) (pK f3 hx) l hl)
  rw[e2] at h2
  replace hw:=hw.trans e2
  simp-implicitDefEqProofs[kH,hec,hw,h2]
  refine hS.use ?_
  by_cases h3:dh e.kids<=left-e.name.length
  ·have n3:¬((left-e.name.length-dh e.kids:Nat):Int)<0:=by omega
   rw[dp h3,dp (by omega)]
   simp-implicitDefEqProofs[n3]
   omega
  ·rw[bn h3,bn (by omega)]
   simp-implicitDefEqProofs[]
theorem GI(l:List Ex)(hf:lM l)(hb:l.length<=BL)(left:Nat)(hl:left<=1048576):VF Tryz.prog G dB [.p (exL l),.p (.int .i64 left)] (.p (.int .i64 (bu left (dh l)))):=
 zJ G l left hl hb (λe he l hl=>Im G e.sz e (Rl _) (pK hf he) l hl)
theorem In:∀(N:Nat) (s:Sm),s.sz<=N->s.fit->∀left:Nat,left<=1048576->VF Tryz.prog G gC [.agg (s.cs.map .p),.p (.int .i64 left)] (.p (.int .i64 (bu left (s.sz-1)))):=by
 intro N
 induction N with
 |zero=>intro e he;have:=e.sz_pos;omega
 |succ N ih=>
  intro e he hf left hl
  have hec:=e.cs_eq
  have hsz:=e.sz_eq
  rw[e.fit_eq] at hf
  obtain⟨f1,⟨f2,f3⟩,⟨f4,f5⟩,f6,f7⟩:=hf
  have sub:∀l:List Sm,aH l<=N->jd l->l.length<=BL->∀left:Nat,left<=1048576->VF Tryz.prog G bX [.p (smL l),.p (.int .i64 left)] (.p (.int .i64 (bu left (aH l)))):=λl hz hf hb left hl=>
   zb G l left hl hb (λx hx l hl=>ih x (by have:=aW hx;omega) (pA hf hx) l hl)
  refine AC.go yH ?_
  have hw:IntKind.i64.wrap ((left:Int)-e.name.length)=(left:Int)-e.name.length:=ag (by simp only[BL] at f1;omega) (by omega)
  by_cases h1:e.name.length<=left
  case neg=>
   have h2:(left:Int)-e.name.length<0:=by omega
   rw[bn (by omega)]
   simp-implicitDefEqProofs[kz,hec,hw,h2]
  have h2:¬(left:Int)-e.name.length<0:=by omega
  have e2:(left:Int)-e.name.length=((left-e.name.length:Nat):Int):=by omega
  rw[e2] at h2
  replace hw:=hw.trans e2
  simp-implicitDefEqProofs[kz,hec,hw,h2]
  refine(GI G e.args f3 f2 (left-e.name.length) (by omega)).use ?_
  by_cases h3:dh e.args<=left-e.name.length
  case neg=>
   rw[bn h3,bn (by omega)]
   simp-implicitDefEqProofs[]
  have n3:¬((left-e.name.length-dh e.args:Nat):Int)<0:=by omega
  rw[dp h3]
  simp-implicitDefEqProofs[n3]
  refine(sub e.body (by omega) f5 f4 (left-e.name.length-dh e.args) (by omega)).use ?_
  by_cases h4:aH e.body<=left-e.name.length-dh e.args
  case neg=>
   rw[bn h4,bn (by omega)]
   simp-implicitDefEqProofs[]
  have n4:¬((left-e.name.length-dh e.args-aH e.body:Nat):Int)<0:=by omega
  rw[dp h4]
  simp-implicitDefEqProofs[n4]
  refine(sub e.els (by omega) f7 f6 (left-e.name.length-dh e.args-aH e.body) (by omega)).use ?_
  by_cases h5:aH e.els<=left-e.name.length-dh e.args-aH e.body
  case neg=>
   rw[bn h5,bn (by omega)]
   simp-implicitDefEqProofs[]
  have n5:¬((left-e.name.length-dh e.args-aH e.body-aH e.els:Nat):Int)<0:=by omega
  rw[dp h5,dp (by omega)]
  simp-implicitDefEqProofs[n5]
  omega
theorem Ga(l:List Sm)(hf:jd l)(hb:l.length<=BL)(left:Nat)(hl:left<=1048576):VF Tryz.prog G bX [.p (smL l),.p (.int .i64 left)] (.p (.int .i64 (bu left (aH l)))):=
 zb G l left hl hb (λe he l hl=>In G e.sz e (Rl _) (pA hf he) l hl)
def me(xs:List (List UInt8))(i:Nat):Nat:=((xs.take i).map List.length).sum
theorem Fl{xs:List (List UInt8)}{i:Nat}(h:i<xs.length):me xs (i+1)=me xs i+xs[i].length:=by
 show((xs.take (i+1)).map List.length).sum=((xs.take i).map List.length).sum+xs[i].length
 rw[aj h,List.map_append,List.sum_append]
 rfl
theorem GR{xs:List (List UInt8)}{i:Nat}(h:xs.length<=i):me xs i=(xs.map List.length).sum:=by rw[me,Rp h]
theorem Ks{xs:List (List UInt8)}{i:Nat}:me xs i<=(xs.map List.length).sum:=by
 conv=>rhs;rw[←RZ i xs,List.map_append,List.sum_append]
 simp[me]
def szW(xs:List (List UInt8)):Nat:=xs.length+(xs.map List.length).sum
theorem BC(xs:List (List UInt8))(left:Nat)(hl:left<=1048576)(hb:xs.length<=9223372036854775807)(hs:∀x∈xs,x.length<=9223372036854775807):VF Tryz.prog G gn [.p (aB xs),.p (.int .i64 left)] (.p (.int .i64 (if szW xs<=left then((left-szW xs:Nat):Int) else-1))):=by
 refine AC.go sq ?_
 have hw:IntKind.i64.wrap ((left:Int)-xs.length)=(left:Int)-xs.length:=ag (by omega) (by omega)
 have hsz:szW xs=xs.length+(xs.map List.length).sum:=rfl
 by_cases h:xs.length<=left
 case neg=>
  have h1:(left:Int)-xs.length<0:=by omega
  have h2:¬szW xs<=left:=by omega
  simp-implicitDefEqProofs[gm,aB,hw,h1,h2]
 have h1:¬(left:Int)-xs.length<0:=by omega
 simp-implicitDefEqProofs[gm,aB,hw,h1]
 refine aF (λi:Nat=>af 28 [(0,.p (aB xs)),(1,.p (.int .i64 ((left-xs.length-me xs i:Nat):Int))),(5,.p (.int .i64 i))]) (λ_=>[]) (λi=>i<=xs.length/\xs.length+me xs i<=left) (λi=>xs.length-i) 0 (by simp[me];omega) ?_ ?_
 ·refine aE rfl ?_
  simp[below,aB,me]
  omega
 ·intro i ⟨hi,hx⟩
  simp-implicitDefEqProofs[aB]
  refine bx (λh1=>?_) (λh1=>?_)
  ·simp at h1
   have hg:=Re h1
   have hle:=hs _ (Rt h1)
   have hsu:=Fl h1
   have hsl:=Ks (xs:=xs) (i:=i+1)
   have hw2:IntKind.i64.wrap (((left-xs.length-me xs i:Nat):Int)-(xs[i].length:Int))=((left-xs.length-me xs i:Nat):Int)-(xs[i].length:Int):=ag (by omega) (by omega)
   by_cases h2:xs.length+me xs (i+1)<=left
   ·have h3:¬((left-xs.length-me xs i:Nat):Int)-(xs[i].length:Int)<0:=by omega
    have h4:((left-xs.length-me xs i:Nat):Int)-(xs[i].length:Int)=((left-xs.length-me xs (i+1):Nat):Int):=by omega
    rw[h4] at h3
    replace hw2:=hw2.trans h4
    clear hle hsu hsl
    simp-implicitDefEqProofs[hg,hw2,h3]
    refine⟨i+1,⟨h1,h2⟩,by omega,aE rfl (by simp[below,aB,w1 (i:=i) (by omega)])⟩
   ·have h3:((left-xs.length-me xs i:Nat):Int)-(xs[i].length:Int)<0:=by omega
    have h5:¬szW xs<=left:=by omega
    clear hle hsu hsl
    simp-implicitDefEqProofs[hg,hw2,h3,h5]
  ·simp at h1
   have hta:=GR (xs:=xs) h1
   have h5:szW xs<=left:=by omega
   have h6:((left-xs.length-me xs i:Nat):Int)=((left-szW xs:Nat):Int):=by omega
   simp-implicitDefEqProofs[h5,h6]
theorem Mw(f:Fd)(hf:f.fit)(left:Nat)(hl:left<=1048576):VF Tryz.prog G jZ [.agg (f.cs.map .p),.p (.int .i64 left)] (.p (.int .i64 (bu left (f.sz-1)))):=by
 obtain⟨f1,⟨f2,f3⟩,f4,f5⟩:=hf
 have hec:=f.cs_eq'
 have hsz:f.sz=1+f.name.length+szW f.params+aH f.body:=rfl
 refine AC.go Cn ?_
 have hw:IntKind.i64.wrap ((left:Int)-f.name.length)=(left:Int)-f.name.length:=ag (by simp only[BL] at f1;omega) (by omega)
 by_cases h1:f.name.length<=left
 case neg=>
  have h2:(left:Int)-f.name.length<0:=by omega
  rw[bn (by omega)]
  simp-implicitDefEqProofs[mW,hec,hw,h2]
 have h2:¬(left:Int)-f.name.length<0:=by omega
 have e2:(left:Int)-f.name.length=((left-f.name.length:Nat):Int):=by omega
 rw[e2] at h2
 replace hw:=hw.trans e2
 simp-implicitDefEqProofs[mW,hec,hw,h2]
 refine(BC G f.params (left-f.name.length) (by omega) f2 f3).use ?_
 by_cases h3:szW f.params<=left-f.name.length
 case neg=>
  rw[if_neg h3,bn (by omega)]
  simp-implicitDefEqProofs[]
 have n3:¬((left-f.name.length-szW f.params:Nat):Int)<0:=by omega
 rw[if_pos h3]
 simp-implicitDefEqProofs[n3]
 refine(Ga G f.body f5 f4 (left-f.name.length-szW f.params) (by omega)).use ?_
 by_cases h4:aH f.body<=left-f.name.length-szW f.params
 case neg=>
  rw[bn h4,bn (by omega)]
  simp-implicitDefEqProofs[]
 have n4:¬((left-f.name.length-szW f.params-aH f.body:Nat):Int)<0:=by omega
 rw[dp h4,dp (by omega)]
 simp-implicitDefEqProofs[n4]
 omega
def Ml(l:List Fd):Prop:=l.length<=BL/\∀f∈l,f.fit
theorem Cu(l:List Fd)(hf:Ml l)(left:Nat)(hl:left<=1048576):VF Tryz.prog G dT [.agg [.p (fdL l)],.p (.int .i64 left)] (.p (.int .i64 (bu left (bh l)))):=by
 have hS:=KK G l left hl hf.1 (λf hm left hl=>Mw G f (hf.2 f hm) left hl)
 refine AC.go tj ?_
 simp-implicitDefEqProofs[kY]
 refine hS.use ?_
 by_cases h:bh l<=left
 ·have n:¬((left-bh l:Nat):Int)<0:=by omega
  rw[dp h]
  simp-implicitDefEqProofs[n]
 ·rw[bn h]
  simp-implicitDefEqProofs[]
theorem GW:∀(N:Nat) (e:Ex),e.sz<=N->e.sz<=1048576->VF Tryz.prog G gE [.agg (e.cs.map .p)] (.agg (e.cs.map .p)):=by
 intro N
 induction N with
 |zero=>intro e he;have:=e.sz_pos;omega
 |succ N ih=>
  intro e he hb
  have hec:=e.cs_eq
  have hsz:=e.sz_eq
  have hkl:=aX e.kids
  have hS:=zG G e.kids (by omega) (λx hx=>ih x (by have:=aT hx;omega) (by have:=aT hx;omega))
  refine AC.go yT ?_
  simp-implicitDefEqProofs[oT,hec]
  refine hS.use ?_
  simp-implicitDefEqProofs[]
theorem FM(l:List Ex)(hb:dh l<=1048576):VF Tryz.prog G cM [.p (exL l)] (.p (exL l)):=
 zG G l (by have:=aX l;omega) (λe he=>GW G e.sz e (Rl _) (by have:=aT he;omega))
theorem Hn:∀(N:Nat) (e:Sm),e.sz<=N->e.sz<=1048576->VF Tryz.prog G gF [.agg (e.cs.map .p)] (.agg (e.cs.map .p)):=by
 intro N
 induction N with
 |zero=>intro e he;have:=e.sz_pos;omega
 |succ N ih=>
  intro e he hb
  have hec:=e.cs_eq
  have hsz:=e.sz_eq
  have h1:=bF e.body
  have h2:=bF e.els
  have hB:=sX G e.body (by omega) (λx hx=>ih x (by have:=aW hx;omega) (by have:=aW hx;omega))
  have hE:=sX G e.els (by omega) (λx hx=>ih x (by have:=aW hx;omega) (by have:=aW hx;omega))
  refine AC.go yE ?_
  simp-implicitDefEqProofs[oQ,hec]
  refine(FM G e.args (by omega)).use ?_
  simp-implicitDefEqProofs[]
  refine hB.use ?_
  simp-implicitDefEqProofs[]
  refine hE.use ?_
  simp-implicitDefEqProofs[]
theorem Gh(l:List Sm)(hb:aH l<=1048576):VF Tryz.prog G bY [.p (smL l)] (.p (smL l)):=
 sX G l (by have:=bF l;omega) (λe he=>Hn G e.sz e (Rl _) (by have:=aW he;omega))
def lv(l:List (List UInt8))(i:Nat):List (List UInt8):=l.take i++List.replicate (l.length-i) []
theorem Fe{l:List (List UInt8)}{i:Nat}(h:i<l.length):(lv l i).set i l[i]=lv l (i+1):=by
 have hl:(l.take i).length=i:=by simp;omega
 have e:l.length-i=(l.length-(i+1))+1:=by omega
 show(l.take i++List.replicate (l.length-i) []).set i l[i]=l.take (i+1)++List.replicate (l.length-(i+1)) []
 rw[List.set_append_right _ _ (by omega),hl,Nat.sub_self,e,List.replicate_succ,List.set_cons_zero,aj h,RT]
 rfl
theorem Gj{l:List (List UInt8)}{i:Nat}(h:i<l.length):(lv l i)[i]?=some []:=by
 have hl:(l.take i).length=i:=by simp;omega
 rw[lv,Ro (by omega),hl,Nat.sub_self,List.getElem?_replicate,if_pos (by omega)]
theorem Gx{l:List (List UInt8)}{i:Nat}(h:i<=l.length):(lv l i).length=l.length:=by simp[lv];omega
theorem BA(l:List (List UInt8))(hb:l.length<=1048576):AC Tryz.prog G dS [.p (aB l)] [] λx h=>x= .ret (.sl 0 1 0 l.length)/\h=[jh l]:=by
 refine AC.go sR ?_
 have hbl:aB l= .lst 1 (l.map λn=>[.str n]):=rfl
 simp-implicitDefEqProofs[kQ,hbl]
 refine⟨by omega,?_⟩
 refine aF (λi:Nat=>af 22 [(0,.p (aB l)),(3,.sl 0 1 0 l.length),(4,.p (.int .i64 i))]) (λi=>[jh (lv l i)]) (λi=>i<=l.length) (λi=>l.length-i) 0 (by simp) ?_ ?_
 ·refine dE [0] rfl (by simp) (bD (by simp[lv]) (by simp) cY) ?_
  simp[below,ren,aB]
 ·intro i hi
  have hlen:=Gx hi
  simp-implicitDefEqProofs[hbl]
  refine bx (λh1=>?_) (λh1=>?_)
  ·simp at h1
   have hg:=Re h1
   have hg2:=Gj h1
   have hset:((lv l i).map λn=>[AV.p (.str n)]).set i [.p (.str l[i])]=(lv l (i+1)).map λn=>[AV.p (.str n)]:=by rw[←Fe h1,List.map_set]
   have hbo:jh (lv l i)= .row 1 ((lv l i).map λn=>[.p (.str n)]):=rfl
   clear hlen
   simp-implicitDefEqProofs[hg,hbo,hg2,h1,hset]
   refine⟨i+1,h1,by omega,dE [0] rfl (by simp) (bD rfl (by simp) cY) ?_⟩
   simp[below,ren,aB,w1 (i:=i) (by omega)]
  ·simp at h1
   have:i=l.length:=by omega
   subst this
   simp-implicitDefEqProofs[lv]
theorem Ct(l:List (List UInt8))(hb:l.length<=1048576):VF Tryz.prog G dS [.p (aB l)] (.p (aB l)):=AC.freeze (BA G l hb) (.one (th rfl) .nil)
theorem MP(f:Fd)(hb:f.sz<=1048576):VF Tryz.prog G kf [.agg (f.cs.map .p)] (.agg (f.cs.map .p)):=by
 have hec:=f.cs_eq'
 have hsz:f.sz=1+f.name.length+szW f.params+aH f.body:=rfl
 have hw:szW f.params=f.params.length+(f.params.map List.length).sum:=rfl
 refine AC.go CE ?_
 simp-implicitDefEqProofs[tJ,hec]
 refine(Ct G f.params (by omega)).use ?_
 simp-implicitDefEqProofs[]
 refine(Gh G f.body (by omega)).use ?_
 simp-implicitDefEqProofs[]
theorem BM(l:List Fd)(hb:bh l<=1048576):VF Tryz.prog G cT [.agg [.p (fdL l)]] (.agg [.p (fdL l)]):=by
 have hS:=Lt G l (by have:=eN l;omega) (λf hm=>MP G f (by have:=cS hm;omega))
 refine AC.go tf ?_
 simp-implicitDefEqProofs[lh]
 refine hS.use ?_
 simp-implicitDefEqProofs[]
theorem If:∀(N:Nat) (e:Ex),e.sz<=N->e.sz<=1048576->VF Tryz.prog G gL [.agg (e.cs.map .p),.agg (e.cs.map .p)] (.p (.bool true)):=by
 intro N
 induction N with
 |zero=>intro e he;have:=e.sz_pos;omega
 |succ N ih=>
  intro e he hb
  have hec:=e.cs_eq
  have hsz:=e.sz_eq
  have hkl:=aX e.kids
  have hS:=zl G e.kids (by omega) (λx hx=>ih x (by have:=aT hx;omega) (by have:=aT hx;omega))
  refine AC.go yO ?_
  simp-implicitDefEqProofs[pg,hec]
  refine hS.use ?_
  simp-implicitDefEqProofs[]
theorem GG(l:List Ex)(hb:dh l<=1048576):VF Tryz.prog G dI [.p (exL l),.p (exL l)] (.p (.bool true)):=
 zl G l (by have:=aX l;omega) (λe he=>If G e.sz e (Rl _) (by have:=aT he;omega))
theorem Hz:∀(N:Nat) (e:Sm),e.sz<=N->e.sz<=1048576->VF Tryz.prog G gO [.agg (e.cs.map .p),.agg (e.cs.map .p)] (.p (.bool true)):=by
 intro N
 induction N with
 |zero=>intro e he;have:=e.sz_pos;omega
 |succ N ih=>
  intro e he hb
  have hec:=e.cs_eq
  have hsz:=e.sz_eq
  have h1:=bF e.body
  have h2:=bF e.els
  have hB:=sI G e.body (by omega) (λx hx=>ih x (by have:=aW hx;omega) (by have:=aW hx;omega))
  have hE:=sI G e.els (by omega) (λx hx=>ih x (by have:=aW hx;omega) (by have:=aW hx;omega))
  refine AC.go yI ?_
  simp-implicitDefEqProofs[oX,hec]
  refine(GG G e.args (by omega)).use ?_
  simp-implicitDefEqProofs[]
  refine hB.use ?_
  simp-implicitDefEqProofs[]
  refine hE.use ?_
  simp-implicitDefEqProofs[]
theorem Fu(l:List Sm)(hb:aH l<=1048576):VF Tryz.prog G cQ [.p (smL l),.p (smL l)] (.p (.bool true)):=
 sI G l (by have:=bF l;omega) (λe he=>Hz G e.sz e (Rl _) (by have:=aW he;omega))
theorem Cr(xs:List (List UInt8))(hb:xs.length<=1048576):VF Tryz.prog G gq [.p (aB xs),.p (aB xs)] (.p (.bool true)):=by
 refine AC.go sV ?_
 have hsl:aB xs= .lst 1 (xs.map λw=>[.str w]):=rfl
 simp-implicitDefEqProofs[kX,hsl]
 refine aF (λi:Nat=>af 26 [(0,.p (aB xs)),(1,.p (aB xs)),(5,.p (.int .i64 i))]) (λ_=>[]) (λi=>i<=xs.length) (λi=>xs.length-i) 0 (by simp) (aE rfl (by simp[below,hsl])) ?_
 intro i hi
 simp-implicitDefEqProofs[hsl]
 refine bx (λh1=>?_) (λh1=>?_)
 ·simp at h1
  have hx:=Re h1
  generalize xs[i]=v at hx
  simp-implicitDefEqProofs[hx]
  exact⟨i+1,h1,by omega,aE rfl (by simp[below,hsl,w1 (i:=i) (by omega)])⟩
 ·simp at h1
  simp-implicitDefEqProofs[]
theorem Mm(f:Fd)(hb:f.sz<=1048576):VF Tryz.prog G jT [.agg (f.cs.map .p),.agg (f.cs.map .p)] (.p (.bool true)):=by
 have hec:=f.cs_eq'
 have hsz:f.sz=1+f.name.length+szW f.params+aH f.body:=rfl
 have hw:szW f.params=f.params.length+(f.params.map List.length).sum:=rfl
 refine AC.go BF ?_
 simp-implicitDefEqProofs[tx,hec]
 refine(Cr G f.params (by omega)).use ?_
 simp-implicitDefEqProofs[]
 refine(Fu G f.body (by omega)).use ?_
 simp-implicitDefEqProofs[]
theorem BB(l:List Fd)(hb:bh l<=1048576):VF Tryz.prog G gk [.agg [.p (fdL l)],.agg [.p (fdL l)]] (.p (.bool true)):=by
 have hS:=JO G l (by have:=eN l;omega) (λf hm=>Mm G f (by have:=cS hm;omega))
 refine AC.go tk ?_
 simp-implicitDefEqProofs[lq]
 refine hS.use ?_
 simp-implicitDefEqProofs[]
end
section
theorem Ex.ext'{a b:Ex}(h1:a.op=b.op)(h2:a.n=b.n)(h3:a.name=b.name)(h4:a.kids=b.kids):a=b:=by
 cases a;cases b;simp only[Ex.op,Ex.n,Ex.name,Ex.kids] at*;subst h1 h2 h3 h4;rfl
theorem Sm.ext'{a b:Sm}(h1:a.op=b.op)(h2:a.name=b.name)(h3:a.args=b.args)(h4:a.body=b.body)(h5:a.els=b.els):a=b:=by
 cases a;cases b;simp only[Sm.op,Sm.name,Sm.args,Sm.body,Sm.els] at*;subst h1 h2 h3 h4 h5;rfl
variable (G:aw)
end
section
def ixI:Option Nat->Int|none=> -1|some i=>i
def vaC(nf:Bool)(id n:Nat):AV:=if nf then .nils else .sl id 3 0 n
def lvC(v:LV):List AV:=[.p (.str v.name),.p (.int .i64 v.num),.p (.int .i64 v.block)]
def lvR(vs:List LV):List (List AV):=vs.reverse.map lvC
def roC(nf:Bool)(vs:List LV):AO:=if nf then .dead else .row 3 (lvR vs)
def wC(id:Nat)(nf:Bool)(fns:List Fd)(k:Nat)(w:WS):List AV:=[.p (fdL fns),.p (.int .i64 k),vaC nf id w.vs.length,.p (.int .i64 w.count),.p (.int .i64 w.code)]
def wO(id:Nat)(nf:Bool)(fns:List Fd)(k:Nat)(w:WS):AO:= .row 5 [wC id nf fns k w]
def HWk(nf:Bool)(fns:List Fd)(k:Nat)(w:WS):List AO:=[wO 1 nf fns k w,roC nf w.vs]
theorem uj(vs:List LV):(lvR vs).length=vs.length:=by simp[lvR]
theorem CB(vs:List LV):∀x∈lvR vs,ah 0 x:=by
 intro x hx;obtain⟨m,_,rfl⟩:=RC.1 hx;simp[lvC,ah,below]
theorem fc(nf:Bool)(vs:List LV)(n:Nat):okO n (roC nf vs):=by
 cases nf
 ·exact gr (λe he=>CB vs e he)
 ·exact trivial
theorem Fg{nf:Bool}{id n m:Nat}(h:id<m):below m (vaC nf id n):=by cases nf<;>simp[vaC,below,h]
theorem yt{id:Nat}{nf:Bool}{fns:List Fd}{k:Nat}{w:WS}{m:Nat}(h:id<m):ah m (wC id nf fns k w):=⟨by simp,by simp,Fg h,by simp,by simp,trivial⟩
theorem tG{id:Nat}{nf:Bool}{fns:List Fd}{k:Nat}{w:WS}{m:Nat}(h:id<m):okO m (wO id nf fns k w):=by
 intro e he;rw[Rq.1 he];exact yt h
theorem JX(σ:List Nat)(nf:Bool)(id n:Nat):ren σ (vaC nf id n)=vaC nf (σ.getD id 0) n:=by cases nf<;>rfl
theorem Ae(σ:List Nat)(id:Nat)(nf:Bool)(fns:List Fd)(k:Nat)(w:WS):bR σ (wC id nf fns k w)=wC (σ.getD id 0) nf fns k w:=by
 simp only[wC,bR,JX];rfl
theorem Fc(σ:List Nat)(id:Nat)(nf:Bool)(fns:List Fd)(k:Nat)(w:WS):na σ (wO id nf fns k w)=wO (σ.getD id 0) nf fns k w:=by
 simp only[wO,na,RF,List.map_nil,Ae]
theorem Bu(σ:List Nat)(nf:Bool)(vs:List LV):na σ (roC nf vs)=roC nf vs:=by
 cases nf
 ·show AO.row 3 ((lvR vs).map (bR σ))= .row 3 (lvR vs)
  rw[RK (g:=id) λx hx=>iS σ x (CB vs x hx)];simp
 ·rfl
theorem Dl(pre:List LV)(v:LV)(r:List LV):(lvR (pre++v::r))[r.length]?=some (lvC v):=by
 simp[lvR]
theorem HO(v:LV)(r:List LV):lvR (v::r)=lvR r++[lvC v]:=by simp[lvR]
def sW:List LV->List UInt8->Int
 |[],_=> -1
 |v::r,s=>if v.name=s then r.length else sW r s
theorem su:∀(vs:List LV) (s:List UInt8),(lkV vs s=none/\sW vs s= -1)\/∃pre v r,vs=pre++v::r/\lkV vs s=some v/\sW vs s=r.length
 |[],s=> .inl ⟨rfl,rfl⟩
 |v::r,s=>by
  by_cases h:v.name=s
  ·exact .inr ⟨[],v,r,rfl,by simp[lkV,h],by simp[sW,h]⟩
  ·have h1:lkV (v::r) s=lkV r s:=by simp[lkV,h]
   have h2:sW (v::r) s=sW r s:=by simp[sW,h]
   rw[h1,h2]
   rcases su r s with h|⟨pre,u,q,e,h⟩
   ·exact .inl h
   ·exact .inr ⟨v::pre,u,q,by rw[e];rfl,h⟩
theorem ra:AK.whole ft=FK.ak fR:=rfl
variable (G:aw)
theorem DK(l:List Fd)(s:List UInt8)(hl:l.length<=1099511627776):VF Tryz.prog G gR [.agg [.p (fdL l)],.p (.str s)] (.p (.int .i64 (ixI (bz l s)))):=by
 refine AC.go Ba ?_
 have hfl:∀l,fdL l= .lst 3 (l.map Fd.cs):=λ_=>rfl
 simp-implicitDefEqProofs[tA,hfl]
 refine aF (λi:Nat=>af 22 [(1,.p (.str s)),(2,.ptr 0 1 0 0),(5,.p (.int .i64 i))]) (λ_=>[.row 1 [[.p (.lst 3 (l.map Fd.cs))]]]) (λi=>i<=l.length/\∀f∈l.take i,f.name≠s) (λi=>l.length-i) 0 (by simp) (ab (by simp) (by simp[okO]) (by simp[below])) ?_
 intro i ⟨hi,hn⟩
 simp-implicitDefEqProofs[]
 refine bx (λh=>?_) (λh=>?_)
 ·simp at h
  have hg:=Re h
  have hce:l[i].cs=[.str l[i].name,aB l[i].params,smL l[i].body]:=rfl
  by_cases he:l[i].name=s
  ·have hf:bz l s=some i:=by
    rw[bz,Ru]
    exact⟨h,by simpa using he,λj hj=>by have:=hn l[j] (Sc.2 ⟨j,by omega,rfl⟩);simpa using this⟩
   simp-implicitDefEqProofs[hg,hce,he,hf,ixI]
  ·simp-implicitDefEqProofs[hg,hce,he]
   refine⟨i+1,⟨h,λp hp=>?_⟩,by omega,ab (by simp) (by simp[okO]) (by simp[below,w1 (i:=i) (by omega)])⟩
   rw[aj h] at hp
   rcases Rr.1 hp with hp|hp
   ·exact hn p hp
   ·rw[Rq.1 hp];exact he
 ·simp at h
  rw[Rp h] at hn
  have hf:bz l s=none:=by
   rw[bz,RJ];intro x hx;simpa using hn x hx
  simp-implicitDefEqProofs[hf,ixI]
theorem LP:∀m:Nat,m<26->((([97,98,99,100,101,102,103,104,105,106,107,108,109,110,111,112,113,114,115,116,117,118,119,120,121,122]:List UInt8).take (m+1)).drop m)=[UInt8.ofNat (97+m)]:=by decide
theorem Ly:∀m:Nat,m<26->List.drop m ((97:UInt8)::List.take m [98,99,100,101,102,103,104,105,106,107,108,109,110,111,112,113,114,115,116,117,118,119,120,121,122])=[97+UInt8.ofNat m]:=by decide
theorem vK(n:Nat):VF Tryz.prog G gJ [.p (.int .i64 n)] (.p (.str (vnm n))):=by
 refine AC.go yJ ?_
 have hm:n%26<26:=Nat.mod_lt _ (by omega)
 have ht:(n:Int).tmod 26=((n%26:Nat):Int):=rfl
 have hw:IntKind.i64.wrap (((n%26:Nat):Int)+1)=((n%26+1:Nat):Int):=w1 (by omega)
 have habc:=LP _ hm
 rw[vnm]
 generalize n%26=m at hm ht hw habc
 have h0:(0:Int)<=(m:Int)+1:=by omega
 have h1:m+1<=26:=by omega
 simp-implicitDefEqProofs[oV,ht,hw,h0,h1]
 exact⟨by omega,Ly m hm⟩
theorem nL(nf:Bool)(fns:List Fd)(k:Nat)(w:WS)(c:Int):AC Tryz.prog G aY [.ptr 0 5 0 0,.p (.int .i64 c)] (HWk nf fns k w) λx h=>x= .ret (.tup [])/\h=HWk nf fns k ⟨w.vs,w.count,fl w.code c⟩:=by
 refine AC.go pI ?_
 by_cases h0:w.code=0
 ·simp-implicitDefEqProofs[fh,HWk,wO,wC,h0,fl]
 ·simp-implicitDefEqProofs[fh,HWk,wO,wC,h0,fl]
theorem vU(nf:Bool)(fns:List Fd)(k:Nat)(w:WS):∀o∈HWk nf fns k w,okO 2 o:=by
 intro o ho
 simp only[HWk,Rm,RH,or_false] at ho
 rcases ho with rfl|rfl
 ·exact tG (by omega)
 ·exact fc _ _ _
theorem EF(nf:Bool)(fns:List Fd)(k:Nat)(w:WS)(hn:nf=true->w.vs=[])(hl:w.vs.length<=1099511627776)(s:List UInt8):AC Tryz.prog G da [.ptr 0 5 0 0,.p (.str s)] (HWk nf fns k w) λx h=>x= .ret (.p (.int .i64 (sW w.vs s)))/\h=HWk nf fns k w:=by
 refine AC.go pu ?_
 have hok:=vU nf fns k w
 cases nf with
 |true=>
  have hv:=hn rfl
  rw[HWk] at hok⊢
  simp-implicitDefEqProofs[eV,wO,wC,vaC,hv]
  refine aF (λ_:Unit=>af 27 [(0,.ptr 0 5 0 0),(1,.p (.str s)),(5,.p (.int .i64 (-1)))]) (λ_=>[wO 1 true fns k w,roC true w.vs]) (λ_=>True) (λ_=>0) () trivial ?_ ?_
  ·have e:wO 1 true fns k w= .row 5 [[.p (fdL fns),.p (.int .i64 k),.nils,.p (.int .i64 w.count),.p (.int .i64 w.code)]]:=by simp[wO,wC,vaC]
   rw[←e,←hv]
   exact ab (by simp) hok (by simp[below,ag (x:= -1) (by omega) (by omega)])
  ·intro _ _
   simp-implicitDefEqProofs[sW]
   simp[wO,wC,vaC,hv]
 |false=>
  rw[HWk] at hok⊢
  have e:∀r,roC false r= .row 3 (lvR r):=λ_=>rfl
  have hw0:IntKind.i64.wrap ((w.vs.length:Int)-1)=(w.vs.length:Int)-1:=ag (by omega) (by omega)
  simp-implicitDefEqProofs[eV,wO,wC,vaC,hw0]
  refine aF (λr:List LV=>af 27 [(0,.ptr 0 5 0 0),(1,.p (.str s)),(5,.p (.int .i64 ((r.length:Int)-1)))]) (λ_=>[wO 1 false fns k w,roC false w.vs]) (λr=>∃pre,w.vs=pre++r/\sW w.vs s=sW r s) (λr=>r.length) w.vs ⟨[],rfl,rfl⟩ ?_ ?_
  ·exact ab (h:=[wO 1 false fns k w,roC false w.vs]) (by simp) hok (by simp[below])
  ·rintro r ⟨pre,e1,e2⟩
   cases r with
   |nil=>
    simp-implicitDefEqProofs[wO,wC,vaC]
    rw[e2];rfl
   |cons v r=>
    have hat:=Dl pre v r
    rw[←e1] at hat
    have hlen:r.length<w.vs.length:=by rw[e1];simp;omega
    have hll:=uj w.vs
    have c1:((r.length+1:Nat):Int)-1=(r.length:Int):=by omega
    have hw1:IntKind.i64.wrap ((r.length:Int)-1)=(r.length:Int)-1:=ag (by omega) (by omega)
    by_cases hs:v.name=s
    ·simp-implicitDefEqProofs[wO,wC,vaC,e,c1,hat,hlen,lvC,hs]
     rw[e2];simp[sW,hs]
    ·simp-implicitDefEqProofs[wO,wC,vaC,e,c1,hat,hlen,lvC,hs]
     refine⟨r,⟨⟨pre++[v],by rw[e1];simp⟩,by rw[e2];simp[sW,hs]⟩,by simp,?_⟩
     refine ab (h:=[wO 1 false fns k w,roC false w.vs]) (by simp) hok ?_
     simp[below,hw1]
theorem JM(nf:Bool)(fns:List Fd)(k:Nat)(w:WS)(hn:nf=true->w.vs=[])(hl:w.vs.length<=1099511627776)(s:List UInt8):AC Tryz.prog G du [.ptr 0 5 0 0,.p (.str s)] (HWk nf fns k w) λx h=>x= .ret (.p (.str (uC w.vs s)))/\h=HWk nf fns k ⟨w.vs,w.count,nh w.vs s w.code⟩:=by
 refine AC.go rp ?_
 simp-implicitDefEqProofs[jU]
 refine(EF G nf fns k w hn hl s).mono ?_
 rintro r h ⟨rfl,rfl⟩
 rcases su w.vs s with⟨e1,e2⟩|⟨pre,v,q,e0,e1,e2⟩
 ·simp-implicitDefEqProofs[aa,e2]
  refine(nL G nf fns k w 3).mono ?_
  rintro r h ⟨rfl,rfl⟩
  simp-implicitDefEqProofs[aa,uC,nh,e1]
 ·have hat:=Dl pre v q
  rw[←e0] at hat
  have hlen:q.length<w.vs.length:=by rw[e0];simp;omega
  have hnf:nf=false:=by
   cases nf with
   |false=>rfl
   |true=>rw[hn rfl] at e0;simp at e0
  subst hnf
  have e:∀r,roC false r= .row 3 (lvR r):=λ_=>rfl
  have hq:¬(q.length:Int)<0:=by omega
  simp-implicitDefEqProofs[aa,e2,hq,HWk,wO,wC,vaC,e,hat,hlen,lvC]
  refine(vK G v.num).use ?_
  simp-implicitDefEqProofs[uC,nh,e1]
theorem ID(nf:Bool)(fns:List Fd)(k:Nat)(w:WS)(hn:nf=true->w.vs=[])(hl:w.vs.length<=1099511627776)(hc:w.count<=1099511627776)(s:List UInt8)(b:Nat):AC Tryz.prog G dx [.ptr 0 5 0 0,.p (.str s),.p (.int .i64 b)] (HWk nf fns k w) λx h=>x= .ret (.p (.str (vnm w.count)))/\h=[wO 2 false fns k (fI w s b),.dead,roC false (fI w s b).vs]:=by
 refine AC.goK pN ra ?_
 have hw1:IntKind.i64.wrap ((w.count:Int)+1)=(w.count:Int)+1:=ag (by omega) (by omega)
 have hw2:IntKind.i64.wrap ((w.count:Int)+1-1)=(w.count:Int):=by rw[ag (by omega) (by omega)];omega
 have hw3:IntKind.i64.wrap (w.count:Int)=(w.count:Int):=ag (by omega) (by omega)
 have hll:=uj w.vs
 simp-implicitDefEqProofs[ft,fR]
 refine(EF G nf fns k w hn hl s).mono ?_
 rintro r h ⟨rfl,rfl⟩
 simp-implicitDefEqProofs[aa]
 refine ow (af 57 [(0,.ptr 0 5 0 0),(1,.p (.str s)),(2,.p (.int .i64 b))]) (HWk nf fns k ⟨w.vs,w.count,og w.vs s b w.code⟩) ?_ ?_
 ·rcases su w.vs s with⟨e1,e2⟩|⟨pre,v,q,e0,e1,e2⟩
  ·simp-implicitDefEqProofs[e2,og,e1]
   exact ab (by simp[HWk]) (vU nf fns k w) (by simp[below,HWk])
  ·have hat:=Dl pre v q
   rw[←e0] at hat
   have hlen:q.length<w.vs.length:=by rw[e0];simp;omega
   have hnf:nf=false:=by
    cases nf with
    |false=>rfl
    |true=>rw[hn rfl] at e0;simp at e0
   subst hnf
   have e:∀r,roC false r= .row 3 (lvR r):=λ_=>rfl
   have hq:(0:Int)<=(q.length:Int):=by omega
   by_cases hb:v.block=b
   ·have:=nL G false fns k w 2
    simp only[HWk,wO,wC,vaC,e] at this
    simp-implicitDefEqProofs[e2,HWk,wO,wC,vaC,e,hat,hlen,lvC,hb]
    refine this.mono ?_
    rintro r h ⟨rfl,rfl⟩
    have hp:og w.vs s b w.code=fl w.code 2:=by simp[og,e1,hb]
    rw[hp]
    simp-implicitDefEqProofs[aa]
    refine ab (h:=HWk false fns k ⟨w.vs,w.count,fl w.code 2⟩) ?_ (vU _ _ _ _) ?_
    ·simp[HWk]
    ·simp[below,HWk]
   ·have hp:og w.vs s b w.code=w.code:=by simp[og,e1,hb]
    have hbi:¬(v.block:Int)=(b:Int):=by omega
    rw[hp]
    simp-implicitDefEqProofs[e2,HWk,wO,wC,vaC,e,hat,hlen,lvC,hbi]
    refine ab (h:=HWk false fns k w) ?_ (vU _ _ _ _) ?_
    ·simp[HWk]
    ·simp[below,HWk]
 ·cases nf with
  |true=>
   have hv:=hn rfl
   simp-implicitDefEqProofs[HWk,wO,wC,vaC,roC,hv,hw1,hw2,hw3]
   refine(vK G w.count).use ?_
   simp-implicitDefEqProofs[fI,lvR,lvC,hv]
  |false=>
   have e:∀r,roC false r= .row 3 (lvR r):=λ_=>rfl
   simp-implicitDefEqProofs[HWk,wO,wC,vaC,e,hw1,hw2,hw3,hll]
   refine⟨by omega,?_⟩
   refine(vK G w.count).use ?_
   simp-implicitDefEqProofs[fI,HO,lvC]
   rw[Rp (by omega)]
end
end Go.Proofs.YtokiapglmedipaaGreatDoor
