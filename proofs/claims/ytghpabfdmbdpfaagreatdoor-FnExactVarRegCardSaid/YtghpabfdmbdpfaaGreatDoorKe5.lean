/-
  Contracts and lemmas that the card needs, part 5.
-/
import Derived.Test.YtghpabfdmbdpfaaGreatDoorKe4
import Derived.Laws.RangeAny
import Derived.Laws.RangeString
namespace Go.Proofs.YtghpabfdmbdpfaaGreatDoor
open Go Go.Aw
set_option maxRecDepth 100000
set_option maxHeartbeats 4000000
section
theorem an{α:Type}{xs:List α}{i:Nat}(h:i<xs.length):xs.take (i+1)=xs.take i++[xs[i]]:=by
 rw[List.take_add_one,Tc h];rfl
def bt(l:List Int):PV:= .lst 1 (l.map λn=>[.int .i64 n])
def aR(l:List (List UInt8)):PV:= .lst 1 (l.map λw=>[.str w])
def Sc(l:List (List UInt8)):List (List AV):=l.map λw=>[.p (.str w)]
def fp(l:List (List UInt8)):AO:= .row 1 (l.map λn=>[.p (.str n)])
theorem jI(l:List (List UInt8)):∀x∈Sc l,az 0 x:=by
 intro x hx;obtain⟨m,_,rfl⟩:=TE.1 hx;simp[az,below]
theorem tE{l:List (List UInt8)}{id:Nat}{h:List AO}(e:h[id]?=some (fp l)):View h (.sl id 1 0 l.length) (aR l):=by
 have:=fh (h:=h) (id:=id) (sz:=1) (n:=l.length) (ls:=l.map λn=>[.str n]) (by rw[e,fp];simp) (by simp) (λx hx=>by obtain⟨b,_,rfl⟩:=TE.1 hx;rfl)
 exact this
end
section
def dm(c:UInt8):Bool:=decide (97<=c.toNat)&&decide (c.toNat<=122)
def keyW:List (List UInt8):=[[102,110],[108,101,116],[115,97,121],[112,117,116],[105,102],[101,108,115,101],[108,111,111,112],[98,97,99,107],[100,111]]
def aI(s:List UInt8):Bool:=s.all dm&&decide (0<s.length)&&decide (s.length<=4)&& !keyW.contains s
def zO:List UInt8:=[40,41,123,125,59,44,43,45,42,47,37,60,61,38,33,64]
def sH(s:List UInt8)(c:Int):Int:=match s.findIdx? (λx=>(x.toNat:Int)==c) with|some i=>i|none=> -1
def CM(c:Int):Int:=if 97<=c/\c<=122 then 1 else if 48<=c/\c<=57 then 2 else if 0<=sH zO c then 3 else if c=32\/c=10 then 4 else 0
theorem Mg(x:UInt8):(CM (x.toNat:Int)=1)↔dm x=true:=by
 have h:(97<=(x.toNat:Int)/\(x.toNat:Int)<=122)↔dm x=true:=by simp[dm];omega
 unfold CM
 constructor
 ·intro e
  split at e
  ·rename_i h1;exact h.1 h1
  ·repeat' split at e
   all_goals omega
 ·intro e;rw[if_pos (h.2 e)]
def Cs(s:List UInt8):Int:=match s.findIdx? (λx=> !dm x) with|some i=>i|none=> -1
theorem Li(s:List UInt8):decide (Cs s<0)=s.all dm:=by
 unfold Cs
 cases h:s.findIdx? (λx=> !dm x) with
 |none=>
  rw[TF] at h
  have:s.all dm=true:=Tj.2 λx hx=>by have:=h x hx;simpa using this
  simp[this]
 |some i=>
  rw[Tv] at h
  obtain⟨h1,h2,_⟩:=h
  have:s.all dm=false:=List.all_eq_false.2 ⟨_,Tp h1,by simpa using h2⟩
  rw[this];simp
def idxS(l:List (List UInt8))(s:List UInt8):Int:=match l.findIdx? (λw=>w==s) with|some i=>i|none=> -1
theorem Kt(l:List (List UInt8))(s:List UInt8):decide (0<=idxS l s)=l.contains s:=by
 unfold idxS
 cases h:l.findIdx? (λw=>w==s) with
 |none=>
  rw[TF] at h
  have:l.contains s=false:=by
   cases hc:l.contains s with
   |false=>rfl
   |true=>
    have hm:s∈l:=by simpa using hc
    have:=h s hm
    simp at this
  rw[this];simp
 |some i=>
  rw[Tv] at h
  obtain⟨h1,h2,_⟩:=h
  have:l.contains s=true:=by
   simp only[beq_iff_eq] at h2
   rw[List.contains_iff_mem,←h2];exact Tp h1
  rw[this];simp
variable (G:aH)
theorem tf(s:List UInt8)(c:Int)(hb:s.length<=1048576):VF Tryz.prog G jQ [.p (.str s),.p (.int .u8 c)] (.p (.int .i64 (sH s c))):=by
 refine AC.go vQ ?_
 simp-implicitDefEqProofs[oL]
 refine aG (λi:Nat=>ay 18 [(0,.p (.str s)),(1,.p (.int .u8 c)),(5,.p (.int .i64 i))]) (λ_=>[]) (λi=>i<=s.length/\∀x∈s.take i,(x.toNat:Int)≠c) (λi=>s.length-i) 0 (by simp) ?_ ?_
 ·exact aQ rfl (by simp[below])
 ·intro i ⟨hi,hn⟩
  simp-implicitDefEqProofs[]
  refine aJ (λh1=>?_) (λh1=>?_)
  ·simp at h1
   have hg:=Tc h1
   by_cases he:(s[i].toNat:Int)=c
   ·have hf:sH s c=i:=by
     have:s.findIdx? (λx=>(x.toNat:Int)==c)=some i:=by
      rw[Tv]
      exact⟨h1,by simpa using he,λj hj=>by have:=hn s[j] (TV.2 ⟨j,by omega,rfl⟩);simpa using this⟩
     rw[sH,this]
    simp-implicitDefEqProofs[hg,he,hf]
   ·simp-implicitDefEqProofs[hg,he]
    refine⟨i+1,⟨h1,λp hp=>?_⟩,by omega,aQ rfl ?_⟩
    ·rw[an h1] at hp
     rcases Th.1 hp with hp|hp
     ·exact hn p hp
     ·rw[Ti.1 hp];exact he
    ·simp[below,w1 (i:=i) (by omega)]
  ·simp at h1
   rw[Tl h1] at hn
   have hf:sH s c= -1:=by
    have:s.findIdx? (λx=>(x.toNat:Int)==c)=none:=by
     rw[TF];intro x hx;simpa using hn x hx
    rw[sH,this]
   simp-implicitDefEqProofs[hf]
theorem Ir(c:Int):VF Tryz.prog G kr [.p (.int .u8 c)] (.p (.int .i64 (CM c))):=by
 refine AC.go zR ?_
 simp-implicitDefEqProofs[oI]
 unfold CM
 by_cases h1:97<=c
 ·by_cases h2:c<=122
  ·simp-implicitDefEqProofs[h1,h2]
  ·have h3:¬c<=57:=by omega
   have h4:¬c=32:=by omega
   have h5:¬c=10:=by omega
   have h6:48<=c:=by omega
   simp-implicitDefEqProofs[h1,h2,h3,h6]
   refine(tf G zO c (by decide)).use ?_
   generalize sH zO c=w
   by_cases hf:0<=w
   ·simp-implicitDefEqProofs[hf]
   ·simp-implicitDefEqProofs[hf,h4,h5]
 ·simp-implicitDefEqProofs[h1]
  by_cases h2:48<=c
  ·by_cases h3:c<=57
   ·simp-implicitDefEqProofs[h2,h3]
   ·have h4:¬c=32:=by omega
    have h5:¬c=10:=by omega
    simp-implicitDefEqProofs[h2,h3]
    refine(tf G zO c (by decide)).use ?_
    generalize sH zO c=w
    by_cases hf:0<=w
    ·simp-implicitDefEqProofs[hf]
    ·simp-implicitDefEqProofs[hf,h4,h5]
  ·simp-implicitDefEqProofs[h2]
   refine(tf G zO c (by decide)).use ?_
   generalize sH zO c=w
   by_cases hf:0<=w
   ·simp-implicitDefEqProofs[hf]
   ·by_cases h4:c=32
    ·simp-implicitDefEqProofs[hf,h4]
    ·by_cases h5:c=10
     ·simp-implicitDefEqProofs[hf,h4,h5]
     ·simp-implicitDefEqProofs[hf,h4,h5]
theorem Mc(s:List UInt8)(hb:s.length<=140737488355328):VF Tryz.prog G mT [.p (.str s),.p (.int .i64 1)] (.p (.bool (s.all dm&&decide (0<s.length)))):=by
 refine AC.go Ci ?_
 simp-implicitDefEqProofs[rW]
 refine aG (λi:Nat=>ay 21 [(0,.p (.str s)),(1,.p (.int .i64 1)),(5,.p (.int .i64 i))]) (λ_=>[]) (λi=>i<=s.length/\∀x∈s.take i,dm x=true) (λi=>s.length-i) 0 (by simp) ?_ ?_
 ·exact aQ rfl (by simp[below])
 ·intro i ⟨hi,hn⟩
  simp-implicitDefEqProofs[]
  refine aJ (λh1=>?_) (λh1=>?_)
  ·simp at h1
   have hg:=Tc h1
   simp-implicitDefEqProofs[hg]
   refine(Ir G _).use ?_
   have hcl:=Mg s[i]
   by_cases he:dm s[i]=true
   ·have hc:=hcl.2 he
    simp-implicitDefEqProofs[hc]
    refine⟨i+1,⟨h1,λp hp=>?_⟩,by omega,aQ rfl ?_⟩
    ·rw[an h1] at hp
     rcases Th.1 hp with hp|hp
     ·exact hn p hp
     ·rw[Ti.1 hp];exact he
    ·simp[below,w1 (i:=i) (by omega)]
   ·have hc:¬CM (s[i].toNat:Int)=1:=λe=>he (hcl.1 e)
    have ha:s.all dm=false:=List.all_eq_false.2 ⟨_,Tp h1,by simpa using he⟩
    simp-implicitDefEqProofs[hc,ha]
  ·simp at h1
   rw[Tl h1] at hn
   have ha:s.all dm=true:=Tj.2 hn
   simp-implicitDefEqProofs[ha]
theorem EM:VF Tryz.prog G fx [] (.p (aR keyW)):=by
 have key:AC Tryz.prog G fx [] [] λx h=>x= .ret (.sl 0 1 0 9)/\h=[.row 1 (keyW.map λw=>[.p (.str w)])]:=by
  refine AC.go uY ?_
  simp-implicitDefEqProofs[nj,keyW]
 exact AC.freeze key (.one (fh (ls:=keyW.map λw=>[.str w]) (by simp) (by simp[keyW]) (by simp)) .nil)
theorem ME(s:List UInt8):VF Tryz.prog G mX [.p (.str s)] (.p (.bool (keyW.contains s))):=by
 refine AC.go BD ?_
 have hsl:aR keyW= .lst 1 (keyW.map λw=>[.str w]):=rfl
 have hkl:keyW.length=9:=rfl
 simp-implicitDefEqProofs[rT]
 refine(EM G).use ?_
 simp-implicitDefEqProofs[]
 refine aG (λi:Nat=>ay 18 [(0,.p (.str s)),(3,.p (aR keyW)),(4,.p (.int .i64 i))]) (λ_=>[]) (λi=>i<=keyW.length/\∀w∈keyW.take i,w≠s) (λi=>keyW.length-i) 0 (by simp) ?_ ?_
 ·exact aQ rfl (by simp[below,aR])
 ·intro i ⟨hi,hn⟩
  generalize keyW=L at*
  simp-implicitDefEqProofs[hsl]
  refine aJ (λh1=>?_) (λh1=>?_)
  ·simp at h1
   have hg:=Tc h1
   by_cases he:L[i]=s
   ·have hm:s∈L:=by rw[←he];exact Tp h1
    simp-implicitDefEqProofs[hg,he,hm]
   ·simp-implicitDefEqProofs[hg,he]
    refine⟨i+1,⟨h1,λp hp=>?_⟩,by omega,aQ rfl ?_⟩
    ·rw[an h1] at hp
     rcases Th.1 hp with hp|hp
     ·exact hn p hp
     ·rw[Ti.1 hp];exact he
    ·simp[below,w1 (i:=i) (by omega)]
  ·simp at h1
   rw[Tl h1] at hn
   have hm:¬s∈L:=λhm=>hn s hm rfl
   simp-implicitDefEqProofs[hm]
theorem rV(s:List UInt8)(hb:s.length<=140737488355328):VF Tryz.prog G cb [.p (.str s)] (.p (.bool (aI s))):=by
 refine AC.go AF ?_
 simp-implicitDefEqProofs[pI]
 refine(Mc G s hb).use ?_
 cases h1:(s.all dm&&decide (0<s.length)) with
 |false=>
  have hi:aI s=false:=by rw[aI,h1];rfl
  simp-implicitDefEqProofs[hi]
 |true=>
  by_cases h4:s.length<=4
  ·have h4i:(s.length:Int)<=4:=by omega
   have hi:aI s= !keyW.contains s:=by rw[aI,h1];simp[h4]
   simp-implicitDefEqProofs[h4i]
   refine(ME G s).use ?_
   rw[hi]
   simp-implicitDefEqProofs[]
  ·have h4i:¬(s.length:Int)<=4:=by omega
   have hi:aI s=false:=by rw[aI,h1];simp[h4]
   simp-implicitDefEqProofs[h4i,hi]
end
section
inductive Ex where
 |mk (op n:Int) (name:List UInt8) (kids:List Ex)
inductive Sm where
 |mk (op:Int) (name:List UInt8) (args:List Ex) (body els:List Sm)
structure Fd where (name:List UInt8) (params:List (List UInt8)) (body:List Sm)
def Ex.op:Ex->Int| .mk o _ _ _=>o
def Ex.n:Ex->Int| .mk _ n _ _=>n
def Ex.name:Ex->List UInt8| .mk _ _ s _=>s
def Ex.kids:Ex->List Ex| .mk _ _ _ k=>k
def Sm.op:Sm->Int| .mk o _ _ _ _=>o
def Sm.name:Sm->List UInt8| .mk _ s _ _ _=>s
def Sm.args:Sm->List Ex| .mk _ _ a _ _=>a
def Sm.body:Sm->List Sm| .mk _ _ _ b _=>b
def Sm.els:Sm->List Sm| .mk _ _ _ _ e=>e
mutual
def Ex.cs:Ex->List PV
 | .mk o n s k=>[.int .i64 o,.int .i64 n,.str s,.lst 4 (Ku k)]
def Ku:List Ex->List (List PV)
 |[]=>[]
 |e::r=>e.cs::Ku r
end
mutual
def Sm.cs:Sm->List PV
 | .mk o s a b e=>[.int .i64 o,.str s,.lst 4 (Ku a),.lst 5 (Kl b),.lst 5 (Kl e)]
def Kl:List Sm->List (List PV)
 |[]=>[]
 |s::r=>s.cs::Kl r
end
theorem zj:∀l:List Ex,Ku l=l.map Ex.cs
 |[]=>rfl
 |e::r=>by rw[Ku,zj r];rfl
theorem yS:∀l:List Sm,Kl l=l.map Sm.cs
 |[]=>rfl
 |e::r=>by rw[Kl,yS r];rfl
def exL(l:List Ex):PV:= .lst 4 (l.map Ex.cs)
def smL(l:List Sm):PV:= .lst 5 (l.map Sm.cs)
theorem Ex.cs_eq(e:Ex):e.cs=[.int .i64 e.op,.int .i64 e.n,.str e.name,exL e.kids]:=by
 cases e;rw[Ex.cs,zj];rfl
theorem Sm.cs_eq(s:Sm):s.cs=[.int .i64 s.op,.str s.name,exL s.args,smL s.body,smL s.els]:=by
 cases s;rw[Sm.cs,zj,yS,yS];rfl
@[simp] theorem Ex.cs_len(e:Ex):e.cs.length=4:=by cases e;rfl
@[simp] theorem Ex.cs_take(e:Ex):List.take 4 (e.cs.map AV.p)=e.cs.map AV.p:=by cases e;rfl
@[simp] theorem Sm.cs_len(s:Sm):s.cs.length=5:=by cases s;rfl
@[simp] theorem Sm.cs_take(s:Sm):List.take 5 (s.cs.map AV.p)=s.cs.map AV.p:=by cases s;rfl
def Fd.cs(f:Fd):List PV:=[.str f.name,aR f.params,smL f.body]
@[simp] theorem Fd.cs_len(f:Fd):f.cs.length=3:=rfl
@[simp] theorem Fd.cs_take(f:Fd):List.take 3 (f.cs.map AV.p)=f.cs.map AV.p:=rfl
def fdL(l:List Fd):PV:= .lst 3 (l.map Fd.cs)
mutual
def Ex.sz:Ex->Nat
 | .mk _ _ s k=>1+s.length+aL k
def aL:List Ex->Nat
 |[]=>0
 |e::r=>e.sz+aL r
end
mutual
def Sm.sz:Sm->Nat
 | .mk _ s a b e=>1+s.length+aL a+aA b+aA e
def aA:List Sm->Nat
 |[]=>0
 |s::r=>s.sz+aA r
end
def Fd.sz(f:Fd):Nat:=1+f.name.length+(f.params.length+(f.params.map List.length).sum)+aA f.body
def bQ(l:List Fd):Nat:=(l.map Fd.sz).sum
theorem Ex.sz_eq(e:Ex):e.sz=1+e.name.length+aL e.kids:=by cases e;rfl
theorem Sm.sz_eq(s:Sm):s.sz=1+s.name.length+aL s.args+aA s.body+aA s.els:=by cases s;rfl
theorem dp:∀a b:List Ex,aL (a++b)=aL a+aL b
 |[],b=>by simp[aL]
 |e::r,b=>by simp only[TN,aL,dp r b];omega
theorem cN:∀a b:List Sm,aA (a++b)=aA a+aA b
 |[],b=>by simp[aA]
 |e::r,b=>by simp only[TN,aA,cN r b];omega
theorem bv:∀{l:List Ex} {e:Ex},e∈l->e.sz<=aL l
 |x::r,e,h=>by
  simp only[aL]
  rcases Tf.1 h with rfl|h
  ·omega
  ·have:=bv h;omega
theorem bp:∀{l:List Sm} {e:Sm},e∈l->e.sz<=aA l
 |x::r,e,h=>by
  simp only[aA]
  rcases Tf.1 h with rfl|h
  ·omega
  ·have:=bp h;omega
theorem bk:∀l:List Ex,l.length<=aL l
 |[]=>Tk _
 |e::r=>by have:=bk r;have:=e.sz_eq;simp only[aL,Tu];omega
theorem bf:∀l:List Sm,l.length<=aA l
 |[]=>Tk _
 |e::r=>by have:=bf r;have:=e.sz_eq;simp only[aA,Tu];omega
mutual
def Ex.parts:Ex->Nat
 | .mk _ _ _ k=>1+fC k
def fC:List Ex->Nat
 |[]=>0
 |e::r=>e.parts+fC r
end
theorem Ex.parts_eq(e:Ex):e.parts=1+fC e.kids:=by cases e;rfl
theorem iK:∀a b:List Ex,fC (a++b)=fC a+fC b
 |[],b=>by simp[fC]
 |e::r,b=>by simp only[TN,fC,iK r b];omega
mutual
theorem Ex.parts_le:∀e:Ex,e.parts<=e.sz
 | .mk _ _ s k=>by have:=BV k;simp only[Ex.parts,Ex.sz];omega
theorem BV:∀l:List Ex,fC l<=aL l
 |[]=>Tk _
 |e::r=>by have:=e.parts_le;have:=BV r;simp only[fC,aL];omega
end
mutual
def Sm.cnt:Sm->Nat
 | .mk _ _ _ b e=>1+da b+da e
def da:List Sm->Nat
 |[]=>0
 |s::r=>s.cnt+da r
end
theorem Sm.cnt_eq(s:Sm):s.cnt=1+da s.body+da s.els:=by cases s;rfl
theorem om:∀a b:List Sm,da (a++b)=da a+da b
 |[],b=>by simp[da]
 |e::r,b=>by simp only[TN,da,om r b];omega
mutual
theorem Sm.cnt_le:∀s:Sm,s.cnt<=s.sz
 | .mk _ s a b e=>by have:=fu b;have:=fu e;simp only[Sm.cnt,Sm.sz];omega
theorem fu:∀l:List Sm,da l<=aA l
 |[]=>Tk _
 |e::r=>by have:=e.cnt_le;have:=fu r;simp only[da,aA];omega
end
def inR(n lo hi:Int):Bool:=decide (lo<=n)&&decide (n<=hi)
def loK(op:Int):Nat:=if op=1\/op=2 then 0 else if op=11\/op=12 then 1 else if op=13 then 0 else 2
def hiK(op:Int):Nat:=if op=1\/op=2 then 0 else if op=11\/op=12 then 1 else if op=13 then 3 else 2
def Dr(op:Int):Bool:=decide (op=2)||decide (op=13)
def jY(e:Ex):Bool:=inR e.op 1 13&&inR e.kids.length (loK e.op) (hiK e.op)&&(Dr e.op==aI e.name)&&(Dr e.op||decide (e.name=[]))&&inR e.n 0 255&&(decide (e.op=1)||decide (e.n=0))
def bH:Nat->Ex->Bool
 |0,_=>false
 |d+1,e=>jY e&&e.kids.all (bH d)
def kM(e:Ex):Bool:=bH 6 e&&decide (e.parts<=30)
def ju(op:Int):Nat:=if op=4 then 2 else 1
def ck(op:Int):Bool:=decide (op=1)||decide (op=2)
def fN(s:Sm):Bool:=inR s.op 1 8&&decide (s.args.length=ju s.op)&&(ck s.op==aI s.name)&&(ck s.op||decide (s.name=[]))&&s.args.all kM&&
 (!decide (s.op=8)||(match s.args with|a::_=>decide (a.op=13)|[]=>false))&&(s.els.isEmpty||decide (s.op=5))&&(s.body.isEmpty||decide (s.op=5)||decide (s.op=6))
def aF:Nat->Sm->Bool
 |0,_=>false
 |d+1,s=>fN s&&s.body.all (aF d)&&s.els.all (aF d)
def jd(f:Fd):Bool:=f.params.all aI&&aI f.name&&decide (f.params.length<=3)&&f.body.all (aF 4)
def kJ(l:List Fd):Nat:=(l.map λf=>da f.body).sum
def bI(l:List Fd):Bool:=inR l.length 1 4&&l.all jd&&decide (kJ l<=40)
end
section
structure LV where (name:List UInt8) (num block:Nat)
structure WS where (vs:List LV) (count:Nat) (code:Int)
def fl(c k:Int):Int:=if c=0 then k else c
theorem Gr{c k:Int}(h:c≠0):fl c k=c:=if_neg h
def lkV(vs:List LV)(s:List UInt8):Option LV:=vs.find? λv=>decide (v.name=s)
def cM(fns:List Fd)(s:List UInt8):Option Nat:=fns.findIdx? λf=>decide (f.name=s)
def IV(fns:List Fd)(j:Nat):Nat:=match fns[j]? with|some f=>f.params.length|none=>0
def uL(vs:List LV)(s:List UInt8)(c:Int):Int:=match lkV vs s with|none=>fl c 3|some _=>c
def sf(fns:List Fd)(k:Nat)(s:List UInt8)(n:Nat)(c:Int):Int:=
 match cM fns s with|none=>fl c 4|some j=>if k<=j then fl c 4 else if IV fns j=n then c else fl c 5
def pW(fns:List Fd)(k:Nat)(vs:List LV)(o:Int)(s:List UInt8)(n:Nat)(c:Int):Int:=
 if o=2 then uL vs s c else if o=13 then sf fns k s n c else c
mutual
def DA(fns:List Fd)(k:Nat)(vs:List LV):Ex->Int->Int
 | .mk o _ s ks,c=>dw fns k vs ks (pW fns k vs o s ks.length c)
def dw(fns:List Fd)(k:Nat)(vs:List LV):List Ex->Int->Int
 |[],c=>c
 |e::r,c=>dw fns k vs r (DA fns k vs e c)
end
def vnm(n:Nat):List UInt8:=[118,UInt8.ofNat (97+n%26)]
def vT(vs:List LV)(s:List UInt8):List UInt8:=match lkV vs s with|none=>s|some v=>vnm v.num
mutual
def rnE(vs:List LV):Ex->Ex
 | .mk o n s ks=> .mk o n (if o=2 then vT vs s else s) (kG vs ks)
def kG(vs:List LV):List Ex->List Ex
 |[]=>[]
 |e::r=>rnE vs e::kG vs r
end
def An(vs:List LV)(s:List UInt8)(b:Nat)(c:Int):Int:=match lkV vs s with|none=>c|some v=>if v.block=b then fl c 2 else c
def lZ(w:WS)(s:List UInt8)(b:Nat):WS:=⟨⟨s,w.count,b⟩::w.vs,w.count+1,An w.vs s b w.code⟩
def opW(o:Int)(s:List UInt8)(b:Nat)(w:WS):WS:=if o=1 then lZ w s b else if o=2 then⟨w.vs,w.count,uL w.vs s w.code⟩ else w
def opN(o:Int)(s:List UInt8)(w:WS):List UInt8:=if o=1 then vnm w.count else if o=2 then vT w.vs s else s
def WS.back(w:WS)(vs:List LV):WS:=⟨vs,w.count,w.code⟩
mutual
def stW(fns:List Fd)(k b:Nat):Sm->WS->WS
 | .mk o s a bd el,w=>
   let w2:=opW o s b ⟨w.vs,w.count,dw fns k w.vs a w.code⟩
   let w3:=(cH fns k (b+1) bd w2).back w2.vs
   (cH fns k (b+1) el w3).back w2.vs
def cH(fns:List Fd)(k b:Nat):List Sm->WS->WS
 |[],w=>w
 |s::r,w=>cH fns k b r (stW fns k b s w)
end
def cC(ps:List (List UInt8))(w:WS):WS:=ps.foldl (λw s=>lZ w s 0) w
def fnW(fns:List Fd)(k:Nat)(f:Fd):WS:=cH fns k 0 f.body (cC f.params ⟨[],0,if cM fns f.name=some k then 0 else 2⟩)
def gR(fns:List Fd):Nat->List Fd->Int
 |_,[]=>0
 |k,f::r=>if(fnW fns k f).code=0 then gR fns (k+1) r else(fnW fns k f).code
def cA(fns:List Fd):Int:=if bI fns then gR fns 0 fns else 1
abbrev Scp:=List (List UInt8 × Nat)
def eU(m:Scp)(s:List UInt8):Option Nat:=(m.find? λx=>decide (x.1=s)).map (·.2)
def dW:Scp->List UInt8->Nat->Scp
 |[],s,n=>[(s,n)]
 |x::r,s,n=>if x.1=s then(s,n)::r else x::dW r s n
def cE:List Scp->List UInt8->Option Nat
 |[],_=>none
 |m::r,s=>match eU m s with|some n=>some n|none=>cE r s
def dY(fns:List Fd)(k:Nat)(ch:List Scp)(c:Int)(e:Ex):Int:=
 if e.op=2 then(if(cE ch e.name).isSome then c else fl c 3)
 else if e.op=13 then(match cM (fns.take k) e.name with|none=>fl c 4|some j=>if IV fns j=e.kids.length then c else fl c 5)
 else c
mutual
def Ex.pre:Ex->List Ex
 | .mk o n s ks=> .mk o n s ks::dF ks
def dF:List Ex->List Ex
 |[]=>[]
 |e::r=>e.pre++dF r
end
def zZ(fns:List Fd)(k:Nat)(ch:List Scp)(l:List Ex)(c:Int):Int:=(dF l).foldl (dY fns k ch) c
def opS(o:Int)(s:List UInt8)(m:Scp)(n:Nat):Scp:=if o=1 then dW m s n else m
def opC(o:Int)(s:List UInt8)(m:Scp)(up:List Scp)(c:Int):Int:=
 if o=1 then(if(eU m s).isSome then fl c 2 else c) else if o=2 then(if(cE (m::up) s).isSome then c else fl c 3) else c
mutual
def icS(fns:List Fd)(k:Nat):Sm->Scp->List Scp->Int->Scp × Int
 | .mk o s a bd el,m,up,c=>
   let m2:=opS o s m 0
   let c2:=opC o s m up (zZ fns k (m::up) a c)
   (m2,if o=5\/o=6 then(dU fns k el [] (m2::up) (dU fns k bd [] (m2::up) c2).2).2 else c2)
def dU(fns:List Fd)(k:Nat):List Sm->Scp->List Scp->Int->Scp × Int
 |[],m,_,c=>(m,c)
 |s::r,m,up,c=>dU fns k r (icS fns k s m up c).1 up (icS fns k s m up c).2
end
def ka(ps:List (List UInt8))(m:Scp)(c:Int):Scp × Int:=ps.foldl (λx s=>(dW x.1 s 0,if(eU x.1 s).isSome then fl x.2 2 else x.2)) (m,c)
def icF(fns:List Fd)(k:Nat)(f:Fd)(c:Int):Int:=
 let c1:=if(match cM fns f.name with|some j=>decide (j<k)|none=>true) then fl c 2 else c
 let x:=ka f.params [] c1
 (dU fns k f.body x.1 [] x.2).2
def iM(fns:List Fd):Nat->List Fd->Int->Int
 |_,[],c=>c
 |k,f::r,c=>iM fns (k+1) r (icF fns k f c)
def SR(g:LV->Nat):Nat->List LV->List Scp->Prop
 |_,_,[]=>False
 |b,vs,m::up=>∃v1 v2,vs=v1++v2/\(∀v∈v1,v.block=b)/\(∀s,(lkV v1 s).map g=eU m s)/\match b with
  |0=>v2=[]/\up=[]
  |b+1=>SR g b v2 up
theorem Hm(a b:List LV)(s:List UInt8):lkV (a++b) s=match lkV a s with|some v=>some v|none=>lkV b s:=by
 simp only[lkV,List.find?_append]
 cases List.find? (λv=>decide (v.name=s)) a<;>rfl
variable {g:LV->Nat}
theorem SR.blk:∀{b:Nat} {vs:List LV} {ch:List Scp},SR g b vs ch->∀v∈vs,v.block<=b
 |b,_,[],h,v,hv=>by cases b<;>exact False.elim h
 |0,vs,m::up,⟨v1,v2,e,h1,_,h3,_⟩,v,hv=>by
  subst e;subst h3
  rw[Tt] at hv
  exact Nat.le_of_eq (h1 v hv)
 |b+1,vs,m::up,⟨v1,v2,e,h1,_,h3⟩,v,hv=>by
  subst e
  rcases Th.1 hv with h|h
  ·exact Nat.le_of_eq (h1 v h)
  ·exact Nat.le_succ_of_le (SR.blk h3 v h)
theorem SR.fnd:∀{b:Nat} {vs:List LV} {ch:List Scp},SR g b vs ch->∀s,(lkV vs s).map g=cE ch s
 |b,_,[],h,s=>by cases b<;>exact False.elim h
 |0,vs,m::up,⟨v1,v2,e,h1,h2,h3,h4⟩,s=>by
  subst e;subst h3;subst h4
  rw[Tt,h2,cE]
  cases eU m s<;>rfl
 |b+1,vs,m::up,⟨v1,v2,e,h1,h2,h3⟩,s=>by
  subst e
  have ih:=SR.fnd h3 s
  have h2:=h2 s
  rw[Hm,cE,←h2]
  cases e1:lkV v1 s with
  |some v=>rfl
  |none=>exact ih
theorem SR.is{b:Nat}{vs:List LV}{ch:List Scp}(h:SR g b vs ch)(s:List UInt8):(lkV vs s).isSome=(cE ch s).isSome:=by rw[←h.fnd s,Option.isSome_map]
theorem GL{vs:List LV}{s:List UInt8}{v:LV}(h:lkV vs s=some v):v∈vs:=List.mem_of_find?_eq_some h
theorem SR.put:∀{b:Nat} {vs:List LV} {m:Scp} {up:List Scp},SR g b vs (m::up)->∀(s:List UInt8) (c:Int),An vs s b c=if(eU m s).isSome then fl c 2 else c:=by
 intro b vs m up h s c
 have key:∀v1 v2:List LV,(∀v∈v1,v.block=b)->(lkV v1 s).map g=eU m s->(∀v∈v2,v.block≠b)->An (v1++v2) s b c=if(eU m s).isSome then fl c 2 else c:=by
  intro v1 v2 h1 h2 h3
  rw[←h2,An,Hm]
  cases e1:lkV v1 s with
  |some v=>simp[h1 v (GL e1)]
  |none=>
   cases e2:lkV v2 s with
   |none=>rfl
   |some v=>simp[h3 v (GL e2)]
 match b,h with
 |0,⟨v1,v2,e,h1,h2,h3,_⟩=>subst e;subst h3;exact key v1 [] h1 (h2 s) (λv hv=>by simp at hv)
 |b+1,⟨v1,v2,e,h1,h2,h3⟩=>subst e;exact key v1 v2 h1 (h2 s) (λv hv e=>by have:=h3.blk v hv;omega)
theorem kC:∀(m:Scp) (s:List UInt8) (n:Nat) (t:List UInt8),eU (dW m s n) t=if s=t then some n else eU m t
 |[],s,n,t=>by
  by_cases h:s=t
  ·simp[dW,eU,h]
  ·simp[dW,eU,h]
 |x::r,s,n,t=>by
  have ih:=kC r s n t
  simp only[eU] at ih
  by_cases hx:x.1=s
  ·by_cases h:s=t
   ·simp[dW,eU,hx,h]
   ·have:¬x.1=t:=by rw[hx];exact h
    simp[dW,eU,hx,h]
  ·by_cases ht:x.1=t
   ·have:¬s=t:=λe=>hx (ht.trans e.symm)
    rw[dW,if_neg hx,if_neg this];simp[eU,ht]
   ·simp only[dW,eU,if_neg hx,List.find?_cons,ht,decide_false]
    exact ih
theorem SR.add{b:Nat}{vs:List LV}{m:Scp}{up:List Scp}(h:SR g b vs (m::up))(s:List UInt8)(n k:Nat)(hg:g ⟨s,n,b⟩=k):SR g b (⟨s,n,b⟩::vs) (dW m s k::up):=by
 have key:∀v1:List LV,(∀s,(lkV v1 s).map g=eU m s)->∀t,(lkV (⟨s,n,b⟩::v1) t).map g=eU (dW m s k) t:=by
  intro v1 h2 t
  rw[kC]
  by_cases e:s=t
  ·simp[lkV,e,←hg]
  ·rw[if_neg e,←h2 t];simp[lkV,e]
 match b,h with
 |0,⟨v1,v2,e,h1,h2,h3⟩=>
  subst e
  refine⟨⟨s,n,0⟩::v1,v2,rfl,λv hv=>?_,key v1 h2,h3⟩
  rcases Tf.1 hv with rfl|hv
  ·rfl
  ·exact h1 v hv
 |b+1,⟨v1,v2,e,h1,h2,h3⟩=>
  subst e
  refine⟨⟨s,n,b+1⟩::v1,v2,rfl,λv hv=>?_,key v1 h2,h3⟩
  rcases Tf.1 hv with rfl|hv
  ·rfl
  ·exact h1 v hv
theorem SR.open{b:Nat}{vs:List LV}{ch:List Scp}(h:SR g b vs ch):SR g (b+1) vs ([]::ch):=⟨[],vs,rfl,λv hv=>by simp at hv,λs=>rfl,h⟩
theorem SR.base:SR g 0 [] [[]]:=⟨[],[],rfl,λv hv=>by simp at hv,λs=>rfl,rfl,rfl⟩
theorem Cp{α:Type}{p:α->Bool}{l:List α}{k:Nat}:(l.take k).findIdx? p=match l.findIdx? p with|some j=>if j<k then some j else none|none=>none:=by
 cases h:l.findIdx? p with
 |none=>
  rw[TF] at h⊢
  exact λx hx=>h x (Uf hx)
 |some j=>
  rw[Tv] at h
  obtain⟨h1,h2,h3⟩:=h
  simp only
  split
  ·rename_i hj
   rw[Tv]
   exact⟨by rw[TD];omega,by rw[List.getElem_take];exact h2,λi hi=>by rw[List.getElem_take];exact h3 i hi⟩
  ·rename_i hj
   rw[TF]
   intro x hx
   obtain⟨i,hi,rfl⟩:=TV.1 hx
   simpa using h3 i (by omega)
theorem LD(fns:List Fd)(k:Nat){vs:List LV}{ch:List Scp}(h:∀s,(lkV vs s).isSome=(cE ch s).isSome)(e:Ex)(c:Int):pW fns k vs e.op e.name e.kids.length c=dY fns k ch c e:=by
 unfold pW dY
 split
 ·rw[←h,uL];cases lkV vs e.name<;>rfl
 ·split
  ·rw[sf,cM,cM,Cp]
   cases List.findIdx? (λf=>decide (f.name=e.name)) fns with
   |none=>rfl
   |some j=>
    simp only
    by_cases hj:j<k
    ·rw[if_neg (by omega),if_pos hj]
    ·rw[if_pos (by omega),if_neg hj]
  ·rfl
mutual
theorem Nz(fns:List Fd)(k:Nat){vs:List LV}{ch:List Scp}(h:∀s,(lkV vs s).isSome=(cE ch s).isSome):∀(e:Ex) (c:Int),DA fns k vs e c=e.pre.foldl (dY fns k ch) c
 | .mk o n s ks,c=>by
   rw[DA,Ex.pre,Ul,←yy fns k h ks,←LD fns k h];rfl
theorem yy(fns:List Fd)(k:Nat){vs:List LV}{ch:List Scp}(h:∀s,(lkV vs s).isSome=(cE ch s).isSome):∀(l:List Ex) (c:Int),dw fns k vs l c=(dF l).foldl (dY fns k ch) c
 |[],c=>rfl
 |e::r,c=>by rw[dw,dF,Uc,Nz fns k h e,yy fns k h r]
end
abbrev g0:LV->Nat:=λ_=>0
theorem OB{b:Nat}{w:WS}{m:Scp}{up:List Scp}(h:SR g0 b w.vs (m::up))(o:Int)(s:List UInt8):SR g0 b (opW o s b w).vs (opS o s m 0::up)/\(opW o s b w).code=opC o s m up w.code:=by
 unfold opW opS opC
 by_cases h1:o=1
 ·simp only[h1,if_true]
  exact⟨h.add s _ 0 rfl,h.put s _⟩
 ·simp only[if_neg h1]
  split
  ·refine⟨h,?_⟩
   have:=h.is s
   simp only[uL]
   rw[←this]
   cases lkV w.vs s<;>rfl
  ·exact⟨h,rfl⟩
theorem Fb{d:Nat}{o:Int}{s:List UInt8}{a:List Ex}{bd el:List Sm}(h:aF (d+1) (.mk o s a bd el)=true):bd.all (aF d)=true/\el.all (aF d)=true/\(¬(o=5\/o=6)->bd=[]/\el=[]):=by
 simp only[aF,fN,Sm.op,Sm.body,Sm.els,Tm,Bool.or_eq_true,decide_eq_true_eq,List.isEmpty_iff] at h
 refine⟨h.1.2,h.2,λhn=>⟨?_,?_⟩⟩
 ·rcases h.1.1.2 with(h|h)|h
  ·exact h
  ·exact absurd (.inl (of_decide_eq_true h)) hn
  ·exact absurd (.inr (of_decide_eq_true h)) hn
 ·rcases h.1.1.1.2 with h|h
  ·exact h
  ·exact absurd (.inl (of_decide_eq_true h)) hn
theorem Bs(w:WS)(vs:List LV):(w.back vs).code=w.code:=rfl
theorem Ol(fns:List Fd)(k:Nat):∀(d b:Nat) (l:List Sm),l.all (aF d)=true->∀(w:WS) (m:Scp) (up:List Scp),SR g0 b w.vs (m::up)->
 SR g0 b (cH fns k b l w).vs ((dU fns k l m up w.code).1::up)/\(cH fns k b l w).code=(dU fns k l m up w.code).2:=by
 intro d
 induction d with
 |zero=>
  intro b l hl w m up h
  cases l with
  |nil=>exact⟨h,rfl⟩
  |cons s r=>simp[aF] at hl
 |succ d ih=>
  have nR:∀(b:Nat) (s:Sm),aF (d+1) s=true->∀(w:WS) (m:Scp) (up:List Scp),SR g0 b w.vs (m::up)->
   SR g0 b (stW fns k b s w).vs ((icS fns k s m up w.code).1::up)/\(stW fns k b s w).code=(icS fns k s m up w.code).2:=by
   intro b s hs w m up h
   obtain⟨o,n,a,bd,el⟩:=s
   obtain⟨f1,f2,f3⟩:=Fb hs
   have hc:=yy fns k h.is a w.code
   obtain⟨g1,g2⟩:=OB (w:=⟨w.vs,w.count,dw fns k w.vs a w.code⟩) h o n
   rw[stW,icS]
   simp only[hc] at g1 g2⊢
   generalize hw2:opW o n b ⟨w.vs,w.count,(dF a).foldl (dY fns k (m::up)) w.code⟩=w2 at*
   refine⟨g1,?_⟩
   rw[Bs]
   have g2':w2.code=opC o n m up (zZ fns k (m::up) a w.code):=g2
   rw[←g2']
   by_cases ho:o=5\/o=6
   ·rw[if_pos ho]
    have k1:=ih (b+1) bd f1 w2 [] _ g1.open
    have k2:=ih (b+1) el f2 ((cH fns k (b+1) bd w2).back w2.vs) [] _ g1.open
    rw[k2.2,Bs,k1.2]
   ·obtain⟨rfl,rfl⟩:=f3 ho
    rw[if_neg ho]
    simp[cH,WS.back]
  intro b l
  induction l with
  |nil=>intro _ w m up h;exact⟨h,rfl⟩
  |cons s r ihl=>
   intro hl w m up h
   rw[List.all_cons,Tm] at hl
   obtain⟨k1,k2⟩:=nR b s hl.1 w m up h
   have:=ihl hl.2 _ _ up k1
   rw[cH,dU,←k2]
   exact this
theorem Gd:∀(ps:List (List UInt8)) (w:WS) (m:Scp),SR g0 0 w.vs [m]->SR g0 0 (cC ps w).vs [(ka ps m w.code).1]/\(cC ps w).code=(ka ps m w.code).2
 |[],w,m,h=>⟨h,rfl⟩
 |s::r,w,m,h=>by
  have hp:=h.put s w.code
  have:=Gd r (lZ w s 0) (dW m s 0) (h.add s w.count 0 rfl)
  simp only[cC,ka,Ul] at this⊢
  rw[←hp]
  exact this
theorem KW{fns:List Fd}{k:Nat}{ch:List Scp}{c:Int}(h:c≠0)(e:Ex):dY fns k ch c e=c:=by
 unfold dY
 simp only[Gr h]
 split
 ·split<;>rfl
 ·split
  ·split
   ·rfl
   ·split<;>rfl
  ·rfl
theorem tv{fns:List Fd}{k:Nat}{ch:List Scp}{c:Int}(h:c≠0):∀l:List Ex,l.foldl (dY fns k ch) c=c
 |[]=>rfl
 |e::r=>by rw[Ul,KW h,tv h r]
theorem Ey{o:Int}{s:List UInt8}{m:Scp}{up:List Scp}{c:Int}(h:c≠0):opC o s m up c=c:=by
 unfold opC
 simp only[Gr h]
 split
 ·split<;>rfl
 ·split
  ·split<;>rfl
  ·rfl
mutual
theorem Kr(fns:List Fd)(k:Nat){c:Int}(h:c≠0):∀(s:Sm) (m:Scp) (up:List Scp),(icS fns k s m up c).2=c
 | .mk o s a bd el,m,up=>by
   rw[icS]
   simp only[zZ,tv h,Ey h]
   rw[mf fns k h bd,mf fns k h el,ite_self]
theorem mf(fns:List Fd)(k:Nat){c:Int}(h:c≠0):∀(l:List Sm) (m:Scp) (up:List Scp),(dU fns k l m up c).2=c
 |[],m,up=>rfl
 |s::r,m,up=>by rw[dU,Kr fns k h s m up,mf fns k h r]
end
theorem Bl{c:Int}(h:c≠0):∀(ps:List (List UInt8)) (m:Scp),(ka ps m c).2=c
 |[],m=>rfl
 |s::r,m=>by
  have:=Bl h r (dW m s 0)
  simp only[ka,Ul,Gr h,ite_self] at this⊢
  exact this
theorem Js(fns:List Fd)(k:Nat)(f:Fd){c:Int}(h:c≠0):icF fns k f c=c:=by
 simp only[icF,Gr h,ite_self]
 rw[Bl h,mf fns k h]
theorem rL(fns:List Fd){c:Int}(h:c≠0):∀(l:List Fd) (k:Nat),iM fns k l c=c
 |[],k=>rfl
 |f::r,k=>by rw[iM,Js fns k f h,rL fns h r]
theorem AZ{fns:List Fd}{k:Nat}{f:Fd}(h:fns[k]?=some f):∃j,cM fns f.name=some j/\j<=k:=by
 cases e:cM fns f.name with
 |none=>
  rw[cM,TF] at e
  have:=e f (Tn h)
  simp at this
 |some j=>
  refine⟨j,rfl,?_⟩
  rw[cM,Tv] at e
  obtain⟨h1,h2,h3⟩:=e
  rcases TQ k j with hk|hk
  ·have:=h3 k hk
   obtain⟨a1,a2⟩:=Ta.1 h
   rw[a2] at this
   simp at this
  ·exact hk
theorem Qu(fns:List Fd){k:Nat}{f:Fd}(hf:fns[k]?=some f)(hok:jd f=true):(fnW fns k f).code=icF fns k f 0:=by
 obtain⟨j,e1,e2⟩:=AZ hf
 have hb:f.body.all (aF 4)=true:=by simp only[jd,Tm] at hok;exact hok.2
 have hc:(if cM fns f.name=some k then(0:Int) else 2)=if(match cM fns f.name with|some j=>decide (j<k)|none=>true) then fl 0 2 else 0:=by
  rw[e1]
  by_cases h:j=k
  ·subst h;simp
  ·have:j<k:=by omega
   simp[h,this,fl]
 obtain⟨p1,p2⟩:=Gd f.params ⟨[],0,if cM fns f.name=some k then(0:Int) else 2⟩ [] SR.base
 obtain⟨q1,q2⟩:=Ol fns k 4 0 f.body hb _ _ [] p1
 rw[fnW,q2,p2]
 simp only[icF,←hc]
theorem JP(fns:List Fd):∀(l:List Fd) (k:Nat),(∀i,l[i]?=fns[k+i]?)->l.all jd=true->gR fns k l=iM fns k l 0
 |[],k,_,_=>rfl
 |f::r,k,hl,ha=>by
  rw[List.all_cons,Tm] at ha
  have h0:fns[k]?=some f:=by have:=hl 0;simpa using this.symm
  have hr:∀i,r[i]?=fns[k+1+i]?:=λi=>by have:=hl (i+1);rw[List.getElem?_cons_succ] at this;rw[this];congr 1;omega
  rw[gR,iM,Qu fns h0 ha.1]
  split
  ·rename_i e;rw[e];exact JP fns r (k+1) hr ha.2
  ·rename_i e;rw[rL fns e]
theorem zd(fns:List Fd):cA fns=if bI fns then iM fns 0 fns 0 else 1:=by
 unfold cA
 split
 ·rename_i h
  simp only[bI,Tm] at h
  exact JP fns fns 0 (λi=>by rw[Ua]) h.1.2
 ·rfl
end
section
mutual
def rnS(fns:List Fd)(k b:Nat):Sm->WS->Sm
 | .mk o s a bd el,w=>
   let w2:=opW o s b ⟨w.vs,w.count,dw fns k w.vs a w.code⟩
   .mk o (opN o s w) (kG w.vs a) (gu fns k (b+1) bd w2) (gu fns k (b+1) el ((cH fns k (b+1) bd w2).back w2.vs))
def gu(fns:List Fd)(k b:Nat):List Sm->WS->List Sm
 |[],_=>[]
 |s::r,w=>rnS fns k b s w::gu fns k b r (stW fns k b s w)
end
def pu:List (List UInt8)->WS->List (List UInt8)
 |[],_=>[]
 |s::r,w=>vnm w.count::pu r (lZ w s 0)
def rnF(fns:List Fd)(k:Nat)(f:Fd):Fd:=
 ⟨f.name,pu f.params ⟨[],0,if cM fns f.name=some k then 0 else 2⟩,gu fns k 0 f.body (cC f.params ⟨[],0,if cM fns f.name=some k then 0 else 2⟩)⟩
mutual
def rB:Sm->Nat
 | .mk o _ _ bd el=>(if o=1 then 1 else 0)+aN bd+aN el
def aN:List Sm->Nat
 |[]=>0
 |s::r=>rB s+aN r
end
theorem tV(o:Int)(s:List UInt8)(b:Nat)(w:WS):(opW o s b w).count=w.count+if o=1 then 1 else 0:=by
 unfold opW
 split
 ·rfl
 ·split<;>rfl
mutual
theorem Br(fns:List Fd)(k:Nat):∀(s:Sm) (b:Nat) (w:WS),(stW fns k b s w).count=w.count+rB s
 | .mk o s a bd el,b,w=>by
   rw[stW,rB]
   simp only[WS.back]
   rw[ib fns k el,ib fns k bd,tV];show w.count+_+_+_=_
   omega
theorem ib(fns:List Fd)(k:Nat):∀(l:List Sm) (b:Nat) (w:WS),(cH fns k b l w).count=w.count+aN l
 |[],b,w=>rfl
 |s::r,b,w=>by rw[cH,aN,ib fns k r,Br fns k s];omega
end
mutual
theorem MM:∀s:Sm,rB s<=s.cnt
 | .mk o s a bd el=>by
   have:=fe bd
   have:=fe el
   simp only[rB,Sm.cnt]
   split<;>omega
theorem fe:∀l:List Sm,aN l<=da l
 |[]=>Tk _
 |s::r=>by have:=MM s;have:=fe r;simp only[aN,da];omega
end
theorem uo:∀(ps:List (List UInt8)) (w:WS),(cC ps w).count=w.count+ps.length
 |[],w=>rfl
 |s::r,w=>by
  have:=uo r (lZ w s 0)
  simp only[cC,Ul,Tu] at this⊢
  rw[this];simp only[lZ];omega
theorem Mk(o:Int)(s:List UInt8)(b:Nat)(w:WS):∃e,(opW o s b w).vs=e++w.vs:=by
 unfold opW
 split
 ·exact⟨[_],rfl⟩
 ·split<;>exact⟨[],rfl⟩
theorem JC(fns:List Fd)(k b:Nat)(o:Int)(s:List UInt8)(a:List Ex)(bd el:List Sm)(w:WS):(stW fns k b (.mk o s a bd el) w).vs=(opW o s b ⟨w.vs,w.count,dw fns k w.vs a w.code⟩).vs:=rfl
theorem DZ(fns:List Fd)(k:Nat):∀(l:List Sm) (b:Nat) (w:WS),∃e,(cH fns k b l w).vs=e++w.vs
 |[],b,w=>⟨[],rfl⟩
 | .mk o s a bd el::r,b,w=>by
   obtain⟨e1,h1⟩:=DZ fns k r b (stW fns k b (.mk o s a bd el) w)
   obtain⟨e2,h2⟩:=Mk o s b ⟨w.vs,w.count,dw fns k w.vs a w.code⟩
   exact⟨e1++e2,by rw[cH,h1,JC,h2,Ud]⟩
theorem Oy{o:Int}{s:List UInt8}{b:Nat}{w:WS}(h:w.vs.length<=w.count):(opW o s b w).vs.length<=(opW o s b w).count:=by
 unfold opW
 split
 ·simp[lZ,h]
 ·split<;>exact h
theorem OQ(fns:List Fd)(k:Nat){s:Sm}{b:Nat}{w:WS}(h:w.vs.length<=w.count):(stW fns k b s w).vs.length<=(stW fns k b s w).count:=by
 obtain⟨o,n,a,bd,el⟩:=s
 rw[Br,JC]
 have:=Oy (o:=o) (s:=n) (b:=b) (w:=⟨w.vs,w.count,dw fns k w.vs a w.code⟩) h
 rw[tV] at this
 simp only[rB]
 simp only at this
 omega
theorem GG(fns:List Fd)(k:Nat):∀{l:List Sm} {b:Nat} {w:WS},w.vs.length<=w.count->(cH fns k b l w).vs.length<=(cH fns k b l w).count
 |[],_,_,h=>h
 |s::r,b,w,h=>GG fns k (l:=r) (OQ fns k h)
mutual
def Sm.pre(d:Nat):Sm->List (Sm × Nat)
 | .mk o s a bd el=>(.mk o s a bd el,d)::(aS (d+1) bd++aS (d+1) el)
def aS(d:Nat):List Sm->List (Sm × Nat)
 |[]=>[]
 |s::r=>Sm.pre d s++aS d r
end
theorem Sm.pre_eq(d:Nat)(s:Sm):s.pre d=(s,d)::(aS (d+1) s.body++aS (d+1) s.els):=by cases s;rfl
theorem mS(d:Nat):∀a b:List Sm,aS d (a++b)=aS d a++aS d b
 |[],b=>rfl
 |s::r,b=>by rw[TN,aS,aS,mS d r b,Ud]
theorem Ex.pre_eq(e:Ex):e.pre=e::dF e.kids:=by cases e;rfl
theorem sa:∀a b:List Ex,dF (a++b)=dF a++dF b
 |[],b=>rfl
 |e::r,b=>by rw[TN,dF,dF,sa r b,Ud]
mutual
theorem Sm.pre_len:∀(s:Sm) (d:Nat),(s.pre d).length=s.cnt
 | .mk o s a bd el,d=>by simp only[Sm.pre,Sm.cnt,Tu,Tw,jP bd,jP el];omega
theorem jP:∀(l:List Sm) (d:Nat),(aS d l).length=da l
 |[],d=>rfl
 |s::r,d=>by simp only[aS,da,Tw,Sm.pre_len s,jP r]
end
end
section
structure Ii where (op to:Int) (args:List Int) (n:Int)
structure Ph where (to:Int) (args:List Int)
def Ii.cs(x:Ii):List PV:=[.int .i64 x.op,.int .i64 x.to,bt x.args,.int .i64 x.n]
def Ph.cs(x:Ph):List PV:=[.int .i64 x.to,bt x.args]
def inL(l:List Ii):PV:= .lst 4 (l.map Ii.cs)
def phL(l:List Ph):PV:= .lst 2 (l.map Ph.cs)
structure Bk where (phis:List Ph) (ins:List Ii) (jump on:Int) (next:List Int)
def Bk.cs(b:Bk):List PV:=[phL b.phis,inL b.ins,.int .i64 b.jump,.int .i64 b.on,bt b.next]
def bkL(l:List Bk):PV:= .lst 5 (l.map Bk.cs)
structure Cd where (params regs:Int) (blocks:List Bk)
def Cd.cs(c:Cd):List PV:=[.int .i64 c.params,.int .i64 c.regs,bkL c.blocks]
def cdL(l:List Cd):PV:= .lst 3 (l.map Cd.cs)
def bk0:Bk:=⟨[],[],0,0,[]⟩
def Bk.put(b:Bk)(x:Ii):Bk:={b with ins:=b.ins++[x]}
def Bk.fin(b:Bk)(j o:Int)(nx:List Int):Bk:={b with jump:=j,on:=o,next:=nx}
def modB(f:Bk->Bk)(l:List Bk)(i:Nat):List Bk:=match l[i]? with|some b=>l.set i (f b)|none=>l
structure Lw where (regs:Nat) (bs:List Bk) (pos:Nat)
def Lw.put(w:Lw)(x:Ii):Lw:=⟨w.regs,modB (·.put x) w.bs w.pos,w.pos⟩
def Lw.name(w:Lw)(n:Nat):Lw:=⟨w.regs,w.bs++List.replicate n bk0,w.pos⟩
def Lw.fin(w:Lw)(j o:Int)(g:Nat)(nx:List Int):Lw:=⟨w.regs,modB (·.fin j o nx) w.bs w.pos,g⟩
def Lw.reg(w:Lw):Lw:=⟨w.regs+1,w.bs,w.pos⟩
def Lw.mk'(w:Lw)(op n:Int)(args:List Int):Lw:=w.reg.put ⟨op,w.regs,args,n⟩
def gy(o:Int):Int:=if o=11 then 10 else if o=12 then 11 else if o=13 then 14 else o
mutual
def lwE(fa sc:List UInt8->Int):Ex->Lw->Int × Lw
 | .mk o n s ks,w=>
   if o=1 then(w.regs,w.mk' 1 n [])
   else if o=2 then(sc s,w)
   else if o=10 then lwA fa sc ks w
   else let x:=be fa sc ks w
    (x.2.regs,x.2.mk' (gy o) (if o=13 then fa s else 0) x.1)
def lwA(fa sc:List UInt8->Int):List Ex->Lw->Int × Lw
 |[a,b],w=>
  let x:=lwE fa sc a w
  let w2:=x.2.mk' 1 0 []
  let y:=lwE fa sc b ((w2.name 2).fin 2 x.1 w2.bs.length [w2.bs.length,w2.bs.length+1])
  (x.2.regs,((y.2.mk' 10 0 [y.1]).put ⟨10,x.2.regs,[y.2.regs],0⟩).fin 1 0 (w2.bs.length+1) [w2.bs.length+1])
 |_,w=>(0,w)
def be(fa sc:List UInt8->Int):List Ex->Lw->List Int × Lw
 |[],w=>([],w)
 |e::r,w=>
  let x:=lwE fa sc e w
  let y:=be fa sc r x.2
  (x.1::y.1,y.2)
end
def scF(d:Int)(ch:List Scp)(s:List UInt8):Int:=match cE ch s with|some n=>(n:Int)|none=>d
mutual
def lwS(fa:List UInt8->Int)(d:Int):Sm->Scp->List Scp->Nat->Lw->Scp × Nat × Lw
 | .mk o s a bd el,m,up,nx,w=>
   if o=6 then
    let w1:=(w.name 3).fin 1 0 w.bs.length [w.bs.length]
    let x:=lwE fa (scF d (m::up)) (a.headD (.mk 0 0 [] [])) w1
    let y:=aO fa d bd [] (m::up) nx (x.2.fin 2 x.1 (w.bs.length+1) [w.bs.length+1,w.bs.length+2])
    (m,y.2.1,y.2.2.fin 1 0 (w.bs.length+2) [w.bs.length])
   else
    let x:=be fa (scF d (m::up)) a w
    if o=1 then(dW m s nx,nx+1,x.2.put ⟨2,nx,x.1,0⟩)
    else if o=2 then(m,nx,x.2.put ⟨2,scF d (m::up) s,x.1,0⟩)
    else if o=3 then(m,nx,x.2.put ⟨13,-1,x.1,0⟩)
    else if o=4 then(m,nx,x.2.put ⟨12,-1,x.1,0⟩)
    else if o=5 then
     let t:=x.2.bs.length
     let y:=aO fa d bd [] (m::up) nx ((x.2.name 3).fin 2 (x.1.headD 0) t [t,t+1])
     let z:=aO fa d el [] (m::up) y.2.1 (y.2.2.fin 1 0 (t+1) [t+2])
     (m,z.2.1,z.2.2.fin 1 0 (t+2) [t+2])
    else if o=7 then(m,nx,(x.2.name 1).fin 3 (x.1.headD 0) x.2.bs.length [])
    else(m,nx,x.2)
def aO(fa:List UInt8->Int)(d:Int):List Sm->Scp->List Scp->Nat->Lw->Scp × Nat × Lw
 |[],m,_,nx,w=>(m,nx,w)
 |s::r,m,up,nx,w=>
  let x:=lwS fa d s m up nx w
  aO fa d r x.1 up x.2.1 x.2.2
end
def psS:List (List UInt8)->Scp->Nat->Scp
 |[],m,_=>m
 |p::r,m,i=>psS r (dW m p i) (i+1)
def faI(l:List Fd)(s:List UInt8):Int:=match cM l s with|some i=>(i:Int)|none=> -1
def lwF(l:List Fd)(d:Int)(f:Fd):Cd:=
 let w0:Lw:=⟨f.params.length+aN f.body,[bk0],0⟩
 let x:=aO (faI l) d f.body (psS f.params [] 0) [] f.params.length w0
 let w:=x.2.2.mk' 1 0 []
 ⟨f.params.length,w.regs,(w.fin 3 x.2.2.regs 0 []).bs⟩
theorem yu(f:Bk->Bk)(l:List Bk)(i:Nat):(modB f l i).length=l.length:=by
 unfold modB;split<;>simp
theorem oU{f:Bk->Bk}{l:List Bk}{i:Nat}{b:Bk}(h:l[i]?=some b):modB f l i=l.set i (f b):=by
 unfold modB;rw[h]
structure Lw.Ok (w:Lw) (B:Nat):Prop where
 regs:w.regs<=B
 bs:w.bs.length<=B
 ins:∀b∈w.bs,b.ins.length<=B
 pos:w.pos<w.bs.length
theorem Lw.Ok.up{w:Lw}{A B:Nat}(H:w.Ok A)(h:A<=B):w.Ok B:=⟨TP H.1 h,TP H.2 h,λb hb=>TP (H.3 b hb) h,H.4⟩
theorem Lw.Ok.cur{w:Lw}{B:Nat}(H:w.Ok B):∃b,w.bs[w.pos]?=some b/\b.ins.length<=B:=
 ⟨_,Tc H.pos,H.ins _ (Tp H.pos)⟩
theorem Lw.Ok.reg{w:Lw}{B:Nat}(H:w.Ok B):w.reg.Ok (B+1):=⟨by have:=H.1;show w.regs+1<=_;omega,by have:=H.2;show w.bs.length<=_;omega,λb hb=>by have:=H.3 b hb;omega,H.4⟩
theorem Lw.Ok.put{w:Lw}{B:Nat}(H:w.Ok B)(x:Ii):(w.put x).Ok (B+1):=by
 obtain⟨b,hb,hl⟩:=H.cur
 have hbs:(w.put x).bs=w.bs.set w.pos (b.put x):=oU hb
 refine⟨by have:=H.1;show w.regs<=_;omega,by rw[hbs,List.length_set];have:=H.2;omega,λc hc=>?_,by rw[hbs,List.length_set];exact H.4⟩
 rw[hbs] at hc
 rcases Ue hc with h|rfl
 ·have:=H.3 c h;omega
 ·simp only[Bk.put,Tw,List.length_singleton];omega
theorem Lw.Ok.mk'{w:Lw}{B:Nat}(H:w.Ok B)(op n:Int)(args:List Int):(w.mk' op n args).Ok (B+2):=H.reg.put _
theorem Lw.Ok.name{w:Lw}{B:Nat}(H:w.Ok B)(n:Nat):(w.name n).Ok (B+n):=by
 refine⟨by have:=H.1;show w.regs<=_;omega,by have:=H.2;simp[Lw.name];omega,λb hb=>?_,by have:=H.4;simp[Lw.name];omega⟩
 rcases Th.1 hb with h|h
 ·have:=H.3 b h;omega
 ·rw[(TY.1 h).2];simp[bk0]
theorem Lw.Ok.fin{w:Lw}{B:Nat}(H:w.Ok B)(j o:Int){g:Nat}(hg:g<w.bs.length)(nx:List Int):(w.fin j o g nx).Ok B:=by
 obtain⟨b,hb,hl⟩:=H.cur
 have hbs:(w.fin j o g nx).bs=w.bs.set w.pos (b.fin j o nx):=oU hb
 refine⟨H.1,by rw[hbs,List.length_set];exact H.2,λc hc=>?_,by rw[hbs,List.length_set];exact hg⟩
 rw[hbs] at hc
 rcases Ue hc with h|rfl
 ·exact H.3 c h
 ·exact hl
@[simp] theorem Lw.put_len(w:Lw)(x:Ii):(w.put x).bs.length=w.bs.length:=yu _ _ _
@[simp] theorem Lw.mk'_len(w:Lw)(op n:Int)(args:List Int):(w.mk' op n args).bs.length=w.bs.length:=yu _ _ _
@[simp] theorem Lw.fin_len(w:Lw)(j o:Int)(g:Nat)(nx:List Int):(w.fin j o g nx).bs.length=w.bs.length:=yu _ _ _
@[simp] theorem Lw.name_len(w:Lw)(n:Nat):(w.name n).bs.length=w.bs.length+n:=by simp[Lw.name]
@[simp] theorem Lw.fin_pos(w:Lw)(j o:Int)(g:Nat)(nx:List Int):(w.fin j o g nx).pos=g:=rfl
theorem Lr(fa sc:List UInt8->Int)(e:Ex)(w:Lw):lwE fa sc e w=if e.op=1 then((w.regs:Int),w.mk' 1 e.n []) else if e.op=2 then(sc e.name,w) else if e.op=10 then lwA fa sc e.kids w else
 ((be fa sc e.kids w).2.regs,(be fa sc e.kids w).2.mk' (gy e.op) (if e.op=13 then fa e.name else 0) (be fa sc e.kids w).1):=by
 obtain⟨o,n,s,ks⟩:=e;rw[lwE];rfl
theorem fm(fa sc:List UInt8->Int):∀(l:List Ex) (w:Lw),(be fa sc l w).1.length=l.length
 |[],_=>by rw[be];rfl
 |e::r,w=>by rw[be];simp[fm fa sc r]
theorem De(fa sc:List UInt8->Int):∀(a b:List Ex) (w:Lw),be fa sc (a++b) w=((be fa sc a w).1++(be fa sc b (be fa sc a w).2).1,(be fa sc b (be fa sc a w).2).2)
 |[],b,w=>by simp[be]
 |e::r,b,w=>by rw[TN,be,be,De fa sc r];simp
theorem ud{fa sc:List UInt8->Int}{l:List Ex}{i:Nat}(h:i<l.length)(w:Lw):be fa sc (l.take (i+1)) w=((be fa sc (l.take i) w).1++[(lwE fa sc l[i] (be fa sc (l.take i) w).2).1],(lwE fa sc l[i] (be fa sc (l.take i) w).2).2):=by
 rw[an h,De,be,be]
mutual
theorem lv(fa sc:List UInt8->Int):∀(e:Ex) (w:Lw) (B:Nat),w.Ok B->(lwE fa sc e w).2.Ok (B+8*e.sz)/\w.bs.length<=(lwE fa sc e w).2.bs.length
 | .mk o n s ks,w,B,H=>by
   have hz:(Ex.mk o n s ks).sz=1+s.length+aL ks:=Ex.sz_eq _
   rw[hz,lwE]
   split
   ·exact⟨(H.mk' _ _ _).up (by omega),by simp⟩
   split
   ·exact⟨H.up (by omega),Tk _⟩
   split
   ·have:=Pa fa sc ks w B H
    exact⟨this.1.up (by omega),this.2⟩
   ·have:=iv fa sc ks w B H
    exact⟨(this.1.mk' _ _ _).up (by omega),by simpa using this.2⟩
theorem Pa(fa sc:List UInt8->Int):∀(l:List Ex) (w:Lw) (B:Nat),w.Ok B->(lwA fa sc l w).2.Ok (B+8*aL l+7)/\w.bs.length<=(lwA fa sc l w).2.bs.length
 |[],w,B,H=>by rw[lwA];exact⟨H.up (by omega),Tk _⟩;intro a b h;cases h
 |[a],w,B,H=>by rw[lwA];exact⟨H.up (by omega),Tk _⟩;intro a b h;cases h
 |a::b::c::r,w,B,H=>by rw[lwA];exact⟨H.up (by omega),Tk _⟩;intro a b h;cases h
 |[a,b],w,B,H=>by
  obtain⟨h1,l1⟩:=lv fa sc a w B H
  have hz:aL [a,b]=a.sz+b.sz:=by simp[aL]
  have ha:=a.sz_eq
  have hb:=b.sz_eq
  rw[lwA,hz]
  simp only
  generalize lwE fa sc a w=x at*
  have h2:=((h1.mk' 1 0 []).name 2).fin 2 x.1 (g:=(x.2.mk' 1 0 []).bs.length) (by simp) [((x.2.mk' 1 0 []).bs.length:Int),((x.2.mk' 1 0 []).bs.length:Int)+1]
  obtain⟨h3,l3⟩:=lv fa sc b _ _ h2
  generalize lwE fa sc b _=y at*
  simp at l3
  have hg:(x.2.mk' 1 0 []).bs.length+1<((y.2.mk' 10 0 [y.1]).put ⟨10,x.2.regs,[(y.2.regs:Int)],0⟩).bs.length:=by simp;omega
  have h4:=((h3.mk' 10 0 [y.1]).put ⟨10,x.2.regs,[(y.2.regs:Int)],0⟩).fin 1 0 hg [((x.2.mk' 1 0 []).bs.length:Int)+1]
  exact⟨h4.up (by omega),by simp;omega⟩
theorem iv(fa sc:List UInt8->Int):∀(l:List Ex) (w:Lw) (B:Nat),w.Ok B->(be fa sc l w).2.Ok (B+8*aL l)/\w.bs.length<=(be fa sc l w).2.bs.length
 |[],w,B,H=>by rw[be];exact⟨H.up (by omega),Tk _⟩
 |e::r,w,B,H=>by
  obtain⟨h1,l1⟩:=lv fa sc e w B H
  have hz:aL (e::r)=e.sz+aL r:=by rw[aL]
  rw[be,hz]
  simp only
  obtain⟨h2,l2⟩:=iv fa sc r _ _ h1
  exact⟨h2.up (by omega),TP l1 l2⟩
end
end
section
def IK{α:Type}(p:Nat->α->Bool)(l:List α):Bool:=l.zipIdx.all λx=>p x.2 x.1
theorem allI_iff{α:Type}{p:Nat->α->Bool}{l:List α}:IK p l=true↔∀(i:Nat) (x:α),l[i]?=some x->p i x=true:=by
 rw[IK,Tj]
 constructor
 ·intro h i x hx;exact h (x,i) (List.mem_zipIdx_iff_getElem?.2 hx)
 ·intro h ⟨x,i⟩ hm;exact h i x (List.mem_zipIdx_iff_getElem?.1 hm)
theorem mU{α:Type}{p:Nat->α->Bool}{l:List α}{i:Nat}{x:α}(h:l[i]?=some x)(hp:p i x=false):IK p l=false:=by
 cases e:IK p l with
 |false=>rfl
 |true=>rw[allI_iff.1 e i x h] at hp;cases hp
theorem lX{α:Type}{p:α->Bool}{l:List α}{x:α}(h:x∈l)(hp:p x=false):l.all p=false:=by
 rw[List.all_eq_false];exact⟨x,h,by simp[hp]⟩
def fk(o:Int):Bool:=inR o 1 14&& !decide (o=12)&& !decide (o=13)
def nL(o:Int):Int:=if o=1 then 0 else if o=2\/o=10\/o=11\/o=13 then 1 else 2
def dx(g r:Int):Bool:=inR r 0 (g-1)
def CX(u:List Cd)(n:Int):Int:=match u[n.toNat]? with|some c=>c.params|none=> -1
def iN(u:List Cd)(k:Nat)(g:Int)(x:Ii):Bool:=
 inR x.op 1 14&&x.args.all (dx g)&&(if fk x.op then dx g x.to else decide (x.to= -1))&&
 (if x.op=14 then inR x.n 0 ((k:Int)-1)&&decide ((x.args.length:Int)=CX u x.n)
  else if x.op=1 then decide (x.args.length=0)&&inR x.n 0 255
  else decide (x.n=0)&&decide ((x.args.length:Int)=nL x.op))
def nxN(j:Int):Int:=if j=1 then 1 else if j=2 then 2 else if j=3 then 0 else-1
def onU(j:Int):Bool:=decide (j=2)||decide (j=3)
def cD(bs:List Bk)(b:Int):List Int:=(bs.zipIdx.filter λx=>decide (b∈x.1.next)).map λx=>(x.2:Int)
def phB(g:Int)(b n:Nat)(x:Ph):Bool:= !decide (b=0)&&decide (x.args.length=n)&&x.args.all (dx g)&&dx g x.to
def bkB(u:List Cd)(k:Nat)(c:Cd)(b:Nat)(x:Bk):Bool:=
 decide ((x.next.length:Int)=nxN x.jump)&&(if onU x.jump then dx c.regs x.on else decide (x.on=0))&&x.next.all (λn=>inR n 1 ((c.blocks.length:Int)-1))&&x.ins.all (iN u k c.regs)&&x.phis.all (phB c.regs b (cD c.blocks b).length)
def bkN(x:Bk):Nat:=x.ins.length+x.phis.length
def cdN(c:Cd):Nat:=(c.blocks.map bkN).sum
def unN(u:List Cd):Nat:=(u.map cdN).sum
def cdB(u:List Cd)(k:Nat)(c:Cd):Bool:=inR c.params 0 3&&inR c.regs c.params 300&&inR c.blocks.length 1 160&&IK (bkB u k c) c.blocks
def unB(u:List Cd):Bool:=inR u.length 1 4&&IK (cdB u) u&&decide (unN u<=800)
structure BkFit (M:Nat) (b:Bk):Prop where
 phis:b.phis.length<=M
 ins:b.ins.length<=M
 next:b.next.length<=M
 pa:∀x∈b.phis,x.args.length<=M
 ia:∀x∈b.ins,x.args.length<=M
def Gf(M:Nat)(c:Cd):Prop:=c.blocks.length<=M/\∀b∈c.blocks,BkFit M b
def Ja(M:Nat)(u:List Cd):Prop:=u.length<=M/\∀c∈u,Gf M c
theorem Cd.cs_eq2(c:Cd):c.cs=[.int .i64 c.params,.int .i64 c.regs,bkL c.blocks]:=rfl
theorem Bk.cs_eq2(b:Bk):b.cs=[phL b.phis,inL b.ins,.int .i64 b.jump,.int .i64 b.on,bt b.next]:=rfl
theorem Ii.cs_eq2(x:Ii):x.cs=[.int .i64 x.op,.int .i64 x.to,bt x.args,.int .i64 x.n]:=rfl
theorem Ph.cs_eq2(x:Ph):x.cs=[.int .i64 x.to,bt x.args]:=rfl
theorem nT{α:Type}(f:α->Nat)(l:List α)(i:Nat):((l.take i).map f).sum<=(l.map f).sum:=by
 have:=congrArg (λl=>(List.map f l).sum) (TL i l)
 simp only[List.map_append,List.sum_append] at this
 omega
theorem te{α:Type}(f:α->Nat){l:List α}{i:Nat}{x:α}(h:l[i]?=some x):((l.take (i+1)).map f).sum=((l.take i).map f).sum+f x:=by
 obtain⟨hi,rfl⟩:=Ta.1 h
 rw[an hi,List.map_append,List.sum_append];simp
theorem mV(bs:List Bk)(b:Int):(cD bs b).length<=bs.length:=by
 rw[cD,TB]
 exact TP (List.length_filter_le _ _) (by simp)
theorem Ek{α:Type}{l:List α}{i:Nat}{x:α}(h:l[i]?=some x):(l.take (i+1)).zipIdx=(l.take i).zipIdx++[(x,i)]:=by
 obtain⟨hi,rfl⟩:=Ta.1 h
 rw[an hi,List.zipIdx_append,TD,Nat.min_eq_left (by omega)]
 simp
theorem uC{bs:List Bk}{b:Int}{i:Nat}{x:Bk}(h:bs[i]?=some x):cD (bs.take (i+1)) b=cD (bs.take i) b++(if b∈x.next then[(i:Int)] else[]):=by
 rw[cD,Ek h,List.filter_append,List.map_append]
 congr 1
 by_cases hb:b∈x.next<;>simp[hb]
theorem DF(u:List Cd){i:Nat}{c:Cd}(h:u[i]?=some c)(j:Nat):unN (u.take i)+((c.blocks.take j).map bkN).sum<=unN u:=by
 have h1:=te cdN h
 have h2:=nT cdN u (i+1)
 have h3:=nT bkN c.blocks j
 have h4:cdN c=(c.blocks.map bkN).sum:=rfl
 simp only[unN]
 omega
end
section
def Fr(K:List Nat)(h h':List AO):Prop:=h.length<=h'.length/\∀i,i<h.length->i∉K->h'[i]?=h[i]?
theorem Fr.refl(K:List Nat)(h:List AO):Fr K h h:=⟨Tk _,λ_ _ _=>rfl⟩
theorem Fr.more(K:List Nat)(h os:List AO):Fr K h (h++os):=⟨by simp,λi hi _=>Tb hi⟩
theorem Fr.trans{K K':List Nat}{h h1 h2:List AO}(a:Fr K h h1)(b:Fr K' h1 h2)(hk:∀i∈K',i∈K\/h.length<=i):Fr K h h2:=
 ⟨TP a.1 b.1,λi hi hn=>by
   rw[b.2 i (TH hi a.1) (λhm=>by
    rcases hk i hm with q|q
    ·exact hn q
    ·omega),a.2 i hi hn]⟩
theorem Fr.sub{K K':List Nat}{h h1:List AO}(a:Fr K h h1)(hk:∀i∈K,i∈K'\/h.length<=i):Fr K' h h1:=
 ⟨a.1,λi hi hn=>a.2 i hi λhm=>by
   rcases hk i hm with q|q
   ·exact hn q
   ·omega⟩
theorem Fr.from{K:List Nat}{h os h2:List AO}(a:Fr K (h++os) h2):Fr K h h2:=
 ⟨by have:=a.1;simp at this;omega,λi hi hn=>by rw[a.2 i (by simp;omega) hn,Tb hi]⟩
theorem aD(q:PV):(AV.p q).isCell=true:=rfl
theorem au(a b c d:Nat):(AV.sl a b c d).isCell=true:=rfl
theorem aj(a b c d:Nat):(AV.ptr a b c d).isCell=true:=rfl
theorem ae:AV.nils.isCell=true:=rfl
theorem aC(q:PV):(AV.p q).cells=[AV.p q]:=rfl
theorem aq(a b c d:Nat):(AV.sl a b c d).cells=[AV.sl a b c d]:=rfl
theorem ah(a b c d:Nat):(AV.ptr a b c d).cells=[AV.ptr a b c d]:=rfl
theorem ab:AV.nils.cells=[AV.nils]:=rfl
theorem af(cs:List AV):(AV.agg cs).cells=cs:=rfl
end
section
section
variable {s:Bool} {h:List AO} {id sz:Nat} {rows:List (List AV)} {D:List (List PV)} {J:List Nat}
theorem Ow(H:RowOwn s h id sz rows D J){i:Nat}{e:List PV}(hi:D[i]?=some e):
 ∃r Ji,rows[i]?=some r/\OwnL s h r e Ji/\Ji.Nodup/\(∀j∈Ji,j∈J)/\∀(h2:List AO) (r':List AV) (e':List PV) (I2:List Nat),h2[id]?=some (.row sz (rows.set i r'))->(∀j∈J,j∉Ji->h2[j]?=h[j]?)->OwnL s h2 r' e' I2->I2.Nodup->(∀j∈I2,j∈Ji\/(j≠id/\j∉J))->e'.length=sz->
  ∃J',RowOwn s h2 id sz (rows.set i r') (D.set i e') J'/\∀j∈J',j∈J\/j∈I2:=by
 obtain⟨r,J1,Ji,J2,g1,rfl,g3,g4⟩:=H.own.put H.len H.rl H.dl hi
 have hn:=H.nd
 have hlt:∀j∈J1++(Ji++J2),j<h.length:=λj hj=>H.own.lt hj
 simp only[TC,List.nodup_append,Th,not_or] at hn hlt
 obtain⟨⟨n1,n2,n3⟩,m1,⟨m2,m3,m4⟩,m5⟩:=hn
 refine⟨r,Ji,g1,g3,m2,λj hj=>by simp[hj],λh2 r' e' I2 k1 k2 ho nd2 hs he=>?_⟩
 simp only[Th,not_or] at hs
 refine⟨J1++(I2++J2),⟨k1,by simp[H.len],λe he'=>?_,λe he'=>?_,g4 _ r' e' I2 (λj hj=>?_) ho,?_⟩,λj hj=>?_⟩
 ·rcases Ue he' with h1|rfl
  ·exact H.rl e h1
  ·rw[ho.len,he]
 ·rcases Ue he' with h1|rfl
  ·exact H.dl e h1
  ·exact he
 ·rcases Th.1 hj with hj|hj
  ·exact k2 j (by simp[hj]) λhm=>m5 j hj j (.inl hm) rfl
  ·exact k2 j (by simp[hj]) λhm=>m4 j hm j hj rfl
 ·simp only[TC,List.nodup_append,Th,not_or]
  refine⟨⟨n1,λhm=>?_,n3⟩,m1,⟨nd2,m3,λa ha b hb e=>?_⟩,λa ha b hb e=>?_⟩
  ·rcases hs _ hm with h|h
   ·exact n2 h
   ·exact h.1 rfl
  ·subst e
   rcases hs _ ha with h|h
   ·exact m4 a h a hb rfl
   ·exact h.2.2.2 hb
  ·subst e
   rcases hb with hb|hb
   ·rcases hs _ hb with h|h
    ·exact m5 a ha a (.inl h) rfl
    ·exact h.2.1 ha
   ·exact m5 a ha a (.inr hb) rfl
 ·simp only[Th] at hj⊢
  rcases hj with hj|hj|hj
  ·exact .inl (.inl hj)
  ·exact .inr hj
  ·exact .inl (.inr (.inr hj))
theorem FP(H:RowOwn s h id sz rows D J){h2 os:List AO}(e2:h2=h++os){rs:List (List AV)}{es:List (List PV)}{I2:List Nat}(ho:OwnL s h2 rs.flatten es.flatten I2)(hl:rs.length=es.length)(hr:∀e∈rs,e.length=sz)(he:∀e∈es,e.length=sz)(nd2:I2.Nodup)(hd:∀j∈I2,j≠id/\j∉J):
 RowOwn s (h2.set id .dead++[.row sz (rows++rs)]) h2.length sz (rows++rs) (D++es) (J++I2):=by
 subst e2
 have hid:=H.lt
 have hn:=H.nd
 rw[TC] at hn
 have hid2:id∉I2:=λhm=>(hd _ hm).1 rfl
 have hlt:∀j∈J,j<h.length:=λj hj=>H.own.lt hj
 have hlt2:∀j∈I2,j<(h++os).length:=λj hj=>ho.lt hj
 refine⟨by rw[Tg (by simp)];simp,by simp[H.len,hl],λe he'=>?_,λe he'=>?_,?_,?_⟩
 ·rcases Th.1 he' with h1|h1
  ·exact H.rl e h1
  ·exact hr e h1
 ·rcases Th.1 he' with h1|h1
  ·exact H.dl e h1
  ·exact he e h1
 ·rw[TZ,TZ]
  exact(((H.own.more os).set_out hn.1 _).more _).app ((ho.set_out hid2 _).more _)
 ·rw[TC,List.nodup_append]
  refine⟨λhm=>?_,hn.2,nd2,λa ha b hb e=>?_⟩
  ·rcases Th.1 hm with hm|hm
   ·have:=hlt _ hm;simp at this;omega
   ·have:=hlt2 _ hm;omega
  ·subst e;exact(hd a hb).2 ha
end
def lwO(l:List Fd)(pr:Int)(w:Lw)(K:AV):AO:= .row 5 [[.p (fdL l),.p (.int .i64 pr),.p (.int .i64 w.regs),K,.p (.int .i64 w.pos)]]
def NoC(h:List AO)(K:AV):Prop:=(∀q,K≠ .p q)/\∀kid n rows,K= .sl kid 5 0 n->h[kid]?=some (.row 5 rows)->∀r∈rows,∀q,r[1]?≠some (.p q)
structure LS (mk:Lw->AV->AO) (L:Nat) (w:Lw) (h:List AO) (K:AV) (I:List Nat):Prop where
 here:h[L]?=some (mk w K)
 own:OwnL false h [K] [bkL w.bs] I
 nd:(L::I).Nodup
 noc:NoC h K
def Frm(S:List Nat)(h h':List AO):Prop:=h.length<=h'.length/\∀i,i<h.length->i∉S->h'[i]?=h[i]?
theorem Frm.refl(S:List Nat)(h:List AO):Frm S h h:=⟨Tk _,λ_ _ _=>rfl⟩
theorem Frm.more(S:List Nat)(h os:List AO):Frm S h (h++os):=⟨by simp,λi hi _=>Tb hi⟩
theorem Frm.trans{S T:List Nat}{h h1 h2:List AO}(a:Frm S h h1)(b:Frm T h1 h2)(hT:∀j∈T,j∈S\/h.length<=j):Frm S h h2:=
 ⟨TP a.1 b.1,λi hi hn=>by
   rw[b.2 i (by have:=a.1;omega) λhm=>by
    rcases hT i hm with h|h
    ·exact hn h
    ·omega,a.2 i hi hn]⟩
def LR(mk:Lw->AV->AO)(L:Nat)(w:Lw)(S:List Nat)(h h':List AO):Prop:=∃K I,LS mk L w h' K I/\Frm (L::S) h h'/\∀j∈I,j∈S\/h.length<=j
theorem LR.seq{mk:Lw->AV->AO}{L:Nat}{w2:Lw}{S T:List Nat}{h h1 h2:List AO}{I:List Nat}(hf:Frm (L::S) h h1)(hI:∀j∈I,j∈S\/h.length<=j)(b:LR mk L w2 T h1 h2)(hT:∀j∈T,j∈I\/j∈S\/h.length<=j):LR mk L w2 S h h2:=by
 obtain⟨K2,I2,a1,a2,a3⟩:=b
 have hT':∀j∈T,j∈S\/h.length<=j:=λj hj=>by
  rcases hT j hj with h|h
  ·exact hI j h
  ·exact h
 refine⟨K2,I2,a1,hf.trans a2 λj hj=>?_,λj hj=>?_⟩
 ·rcases Tf.1 hj with rfl|hj
  ·exact .inl (by simp)
  ·rcases hT' j hj with h|h
   ·exact .inl (by simp[h])
   ·exact .inr h
 ·rcases a3 j hj with h|h
  ·exact hT' j h
  ·exact .inr (TP hf.1 h)
theorem AY(h:List AO):∀n,OwnL false h (List.replicate n [AV.nils,.nils,.p (.int .i64 0),.p (.int .i64 0),.nils]).flatten (List.replicate n bk0.cs).flatten []
 |0=> .nil
 |n+1=> .nils 2 (.nils 4 (.p _ (λ_=>rfl) (.p _ (λ_=>rfl) (.nils 1 (AY h n)))))
theorem Dp(h:List AO):∀l:List Int,OwnL false h (l.map λn=>[AV.p (.int .i64 n)]).flatten (l.map λn=>[PV.int .i64 n]).flatten []
 |[]=> .nil
 |w::r=> .p _ (λ_=>rfl) (Dp h r)
theorem sh{h:List AO}{id:Nat}{l:List Int}{n:Nat}(hg:h[id]?=some (.row 1 (l.map λn=>[AV.p (.int .i64 n)])))(hn:n=l.length):OwnL false h [.sl id 1 0 n] [bt l] [id]:=by
 have:RowOwn false h id 1 (l.map λn=>[AV.p (.int .i64 n)]) (l.map λn=>[PV.int .i64 n]) []:=
  ⟨hg,by simp,λe he=>by obtain⟨w,_,rfl⟩:=TE.1 he;rfl,λe he=>by obtain⟨w,_,rfl⟩:=TE.1 he;rfl,Dp _ l,by simp⟩
 exact this.tree (by simpa using hn)
theorem Oc{h:List AO}{vs:List AV}{b:Bk}{I:List Nat}(H:OwnL false h vs b.cs I):∃P N X IP IN IX,vs=[P,N,.p (.int .i64 b.jump),.p (.int .i64 b.on),X]/\I=IP++(IN++IX)/\OwnL false h [P] [phL b.phis] IP/\OwnL false h [N] [inL b.ins] IN/\OwnL false h [X] [bt b.next] IX:=by
 obtain⟨P,N,x,y,X,rfl⟩:∃P N x y X,vs=[P,N,x,y,X]:=by
  have:=H.len
  match vs,this with
  |[P,N,x,y,X],_=>exact⟨P,N,x,y,X,rfl⟩
 rw[show b.cs=[phL b.phis,inL b.ins,.int .i64 b.jump,.int .i64 b.on,bt b.next] from rfl] at H
 obtain⟨I1,I',rfl,h1,H⟩:=H.one
 obtain⟨I2,I3,rfl,h2,H⟩:=H.one
 cases H with
 |p _ _ H=>
  cases H with
  |p _ _ H=>exact⟨P,N,X,I1,I2,I3,rfl,rfl,h1,h2,H⟩
theorem Fz{h:List AO}{b:Bk}{P N X:AV}{IP IN IX:List Nat}(h1:OwnL false h [P] [phL b.phis] IP)(h2:OwnL false h [N] [inL b.ins] IN)(h3:OwnL false h [X] [bt b.next] IX):OwnL false h [P,N,.p (.int .i64 b.jump),.p (.int .i64 b.on),X] b.cs (IP++(IN++IX)):=by
 rw[show b.cs=[phL b.phis,inL b.ins,.int .i64 b.jump,.int .i64 b.on,bt b.next] from rfl]
 exact h1.app (h2.app (.p _ (λ_=>rfl) (.p _ (λ_=>rfl) h3)))
theorem fI{s:Bool}{h:List AO}{v:AV}{q:PV}{I:List Nat}(H:OwnL s h [v] [q] I):v.cells=[v]/\v.isCell=true:=by
 cases H with
 |p _ _ _=>exact⟨rfl,rfl⟩
 |nils _ _=>exact⟨rfl,rfl⟩
 |sl id sz n rows es _ _ _ _ _ _ _=>exact⟨rfl,rfl⟩
section
variable {mk:Lw->AV->AO} {L:Nat} {w:Lw} {h:List AO} {K:AV} {I:List Nat}
theorem LS.rows(H:LS mk L w h K I)(hp:0<w.bs.length):∃kid rows J,K= .sl kid 5 0 w.bs.length/\I=kid::J/\RowOwn false h kid 5 rows (w.bs.map Bk.cs) J:=by
 have ho:=H.own
 have nd:=(TC.1 H.nd).2
 rw[show bkL w.bs= .lst 5 (w.bs.map Bk.cs) from rfl] at ho
 rcases ho.inv nd with⟨h0,_⟩|⟨_,hh⟩|⟨id,rows,J,rfl,rfl,hr⟩
 ·rw[List.map_eq_nil_iff.1 h0] at hp;simp at hp
 ·exact(H.noc.1 _ hh.1).elim
 ·exact⟨id,rows,J,by rw[TB],rfl,hr⟩
theorem LS.lt(H:LS mk L w h K I):L<h.length:=(Ta.1 H.here).1
theorem vw{h:List AO}{kid n:Nat}{l:List Bk}{I:List Nat}(H:OwnL false h [.sl kid 5 0 n] [bkL l] I):kid∈I:=by
 rw[show bkL l= .lst 5 (l.map Bk.cs) from rfl] at H
 cases H with
 |sl id sz n rows es a1 a2 a3 a4 a5 a6 H=>simp
theorem LS.frame(H:LS mk L w h K I){h':List AO}(e:∀i∈L::I,h'[i]?=h[i]?):LS mk L w h' K I:=
 ⟨by rw[e L (by simp)];exact H.here,H.own.frame λi hi=>e i (by simp[hi]),H.nd,H.noc.1,λkid n rows eK hg=>by
   have ho:=H.own
   rw[eK] at ho
   rw[e kid (by simp[vw ho])] at hg
   exact H.noc.2 kid n rows eK hg⟩
theorem LS.more(H:LS mk L w h K I)(os:List AO):LS mk L w (h++os) K I:=H.frame λi hi=>by
 rcases Tf.1 hi with rfl|hi
 ·exact Tb H.lt
 ·exact Tb (H.own.lt hi)
theorem LS.modB(H:LS mk L w h K I)(hp:w.pos<w.bs.length):∃kid rows b P N X IP IN IX,K= .sl kid 5 0 w.bs.length/\kid∈I/\h[kid]?=some (.row 5 rows)/\rows.length=w.bs.length/\w.bs[w.pos]?=some b/\rows[w.pos]?=some [P,N,.p (.int .i64 b.jump),.p (.int .i64 b.on),X]/\
 (∀q,N≠ .p q)/\OwnL false h [P] [phL b.phis] IP/\OwnL false h [N] [inL b.ins] IN/\OwnL false h [X] [bt b.next] IX/\(IP++(IN++IX)).Nodup/\(∀j∈IP++(IN++IX),j∈I/\j≠kid/\j≠L)/\kid≠L/\
 ∀(h2:List AO) (r':List AV) (b':Bk) (I2:List Nat) (w2:Lw),h2[kid]?=some (.row 5 (rows.set w.pos r'))->(∀j,j<h.length->j≠L->j≠kid->j∉IP++(IN++IX)->h2[j]?=h[j]?)->h.length<=h2.length->h2[L]?=some (mk w2 (.sl kid 5 0 w.bs.length))->OwnL false h2 r' b'.cs I2->I2.Nodup->(∀j∈I2,j∈IP++(IN++IX)\/(j≠L/\j∉I))->w2.bs=w.bs.set w.pos b'->(∀q,r'[1]?≠some (.p q))->
  ∃I',LS mk L w2 h2 (.sl kid 5 0 w.bs.length) I'/\Frm (L::I) h h2/\∀j∈I',j∈I\/j∈I2:=by
 obtain⟨kid,rows,J,rfl,rfl,hr⟩:=H.rows (by omega)
 have hg:=Tc hp
 generalize w.bs[w.pos]=b at hg
 obtain⟨r,Ji,g1,g2,g3,g4,g5⟩:=Ow hr (i:=w.pos) (e:=b.cs) (by rw[Ty,hg];rfl)
 obtain⟨P,N,X,IP,IN,IX,rfl,rfl,hP,hN,hX⟩:=Oc g2
 have hnd:=H.nd
 have hn:=hr.nd
 have hlen:=hr.len
 rw[TB] at hlen
 simp only[TC,Tf,not_or] at hnd hn
 have hnL:∀j∈J,j≠L:=λj hj e=>hnd.1.2 (e▸hj)
 have hnK:∀j∈J,j≠kid:=λj hj e=>hn.1 (e▸hj)
 refine⟨kid,rows,b,P,N,X,IP,IN,IX,rfl,by simp,hr.here,hlen,hg,g1,λq e=>H.noc.2 kid _ rows rfl hr.here _ (Tn g1) q (by rw[e];rfl),hP,hN,hX,g3,λj hj=>⟨Tx _ (g4 j hj),hnK j (g4 j hj),hnL j (g4 j hj)⟩,λe=>hnd.1.1 e.symm,λh2 r' b' I2 w2 k1 k2 k3 k4 k5 k6 k7 k8 k9=>?_⟩
 have hLl:=H.lt
 obtain⟨J',r1,r2⟩:=g5 h2 r' b'.cs I2 k1 (λj hj hn=>k2 j (hr.own.lt hj) (hnL j hj) (hnK j hj) hn) k5 k6 (λj hj=>by
  rcases k7 j hj with h|h
  ·exact .inl h
  ·simp only[Tf,not_or] at h
   exact .inr h.2) rfl
 have hI2:∀j∈J',j≠L/\j≠kid:=λj hj=>by
  have hnd':=r1.nd
  rw[TC] at hnd'
  refine⟨λe=>?_,λe=>hnd'.1 (e▸hj)⟩
  rcases r2 j hj with h|h
  ·exact hnL j h e
  ·rcases k7 j h with h|h
   ·exact hnL j (g4 j h) e
   ·exact h.1 e
 refine⟨kid::J',⟨k4,?_,?_,?_⟩,⟨k3,λi hi hn=>?_⟩,λj hj=>?_⟩
 ·rw[show bkL w2.bs= .lst 5 (w2.bs.map Bk.cs) from rfl,k8,List.map_set]
  exact r1.tree (by simp)
 ·simp only[TC,Tf,not_or]
  exact⟨⟨λe=>hnd.1.1 e,λhm=>(hI2 L hm).1 rfl⟩,TC.1 r1.nd⟩
 ·refine⟨λq e=>(by cases e),?_⟩
  intro kid2 n rows2 eK hg2 r hr2
  cases eK
  rw[k1] at hg2
  cases hg2
  rcases Ue hr2 with h1|rfl
  ·exact H.noc.2 kid _ rows rfl hr.here r h1
  ·exact k9
 ·simp only[Tf,not_or] at hn
  exact k2 i hi hn.1 hn.2.1 λhm=>hn.2.2 (g4 i hm)
 ·rcases Tf.1 hj with rfl|hj
  ·exact .inl (by simp)
  ·rcases r2 j hj with h|h
   ·exact .inl (by simp[h])
   ·exact .inr h
end
end
section
def MkF(mk:Lw->AV->AO):Prop:=∀w w2 K,w.regs=w2.regs->w.pos=w2.pos->mk w K=mk w2 K
theorem Ls(l:List Fd)(pr:Int):MkF (lwO l pr):=λw w2 K h1 h2=>by simp[lwO,h1,h2]
section
variable {mk:Lw->AV->AO} {L:Nat} {w:Lw} {h:List AO} {K:AV} {I:List Nat}
theorem LS.putAt(hmk:MkF mk)(H:LS mk L w h K I)(hp:w.pos<w.bs.length)(x:Ii){A:AV}{J:List Nat}(hA:OwnL false h [A] [bt x.args] J)(ndJ:J.Nodup)(hJ:∀j∈J,j≠L/\j∉I):
 ∃kid rows b P N X,K= .sl kid 5 0 w.bs.length/\(∀t,(h++t)[kid]?=some (.row 5 rows))/\rows.length=w.bs.length/\w.bs[w.pos]?=some b/\rows[w.pos]?=some [P,N,.p (.int .i64 b.jump),.p (.int .i64 b.on),X]/\(P.cells=[P]/\P.isCell=true)/\(N.cells=[N]/\N.isCell=true)/\(X.cells=[X]/\X.isCell=true)/\kid<h.length/\
  ((N= .nils/\b.ins=[]/\∀os,LR mk L (w.put x) (I++J) h ((h++(os++[AO.row 4 [[.p (.int .i64 x.op),.p (.int .i64 x.to),A,.p (.int .i64 x.n)]]])).set kid (AO.row 5 (rows.set w.pos [P,.sl (h.length+os.length) 4 0 1,.p (.int .i64 b.jump),.p (.int .i64 b.on),X]))))\/
   ∃iid rowsN,N= .sl iid 4 0 b.ins.length/\(∀t,(h++t)[iid]?=some (.row 4 rowsN))/\rowsN.length=b.ins.length/\iid<h.length/\iid≠kid/\
    ∀os,LR mk L (w.put x) (I++J) h (((h++os).set iid .dead++[AO.row 4 (rowsN++[[.p (.int .i64 x.op),.p (.int .i64 x.to),A,.p (.int .i64 x.n)]])]).set kid (AO.row 5 (rows.set w.pos [P,.sl (h.length+os.length) 4 0 (b.ins.length+1),.p (.int .i64 b.jump),.p (.int .i64 b.on),X])))):=by
 obtain⟨kid,rows,b,P,N,X,IP,IN,IX,rfl,hkI,hrow,hlen,hb,hcur,hNc0,hP,hN,hX,hnd,hsub,hkL,close⟩:=H.modB hp
 have hkl:kid<h.length:=(Ta.1 hrow).1
 have hLl:=H.lt
 have hbs:(w.put x).bs=w.bs.set w.pos (b.put x):=oU hb
 have hmkw:∀K,mk (w.put x) K=mk w K:=λK=>hmk _ _ K rfl rfl
 simp only[List.nodup_append,Th] at hnd hsub
 have hPlt:=λj hj=>hP.lt (i:=j) hj
 have hXlt:=λj hj=>hX.lt (i:=j) hj
 have hxcs:x.cs=[.int .i64 x.op,.int .i64 x.to,bt x.args,.int .i64 x.n]:=rfl
 refine⟨kid,rows,b,P,N,X,rfl,λt=>by rw[Tb hkl];exact hrow,hlen,hb,hcur,fI hP,fI hN,fI hX,hkl,?_⟩
 rw[show inL b.ins= .lst 4 (b.ins.map Ii.cs) from rfl] at hN
 have hfin:∀(h2:List AO) (nid n:Nat) (IN':List Nat),h2[kid]?=some (.row 5 (rows.set w.pos [P,.sl nid 4 0 n,.p (.int .i64 b.jump),.p (.int .i64 b.on),X]))->(∀j,j<h.length->j≠kid->j∉IN->h2[j]?=h[j]?)->h.length<=h2.length->OwnL false h2 [.sl nid 4 0 n] [inL (b.ins++[x])] IN'->IN'.Nodup->(∀j∈IN',j∈IN\/j∈J\/h.length<=j)->
  LR mk L (w.put x) (I++J) h h2:=by
  intro h2 nid n IN' k1 k2 k3 k4 k5 k6
  have hgt:∀j,h.length<=j->j≠L/\j∉I:=λj hj=>⟨by omega,λhm=>by have:=H.own.lt hm;omega⟩
  obtain⟨I',a1,a2,a3⟩:=close h2 _ (b.put x) (IP++(IN'++IX)) (w.put x) k1 (λj hj h1 h2 h3=>k2 j hj h2 λhm=>h3 (by simp[hm])) k3 (by
   rw[hmkw,k2 L hLl (λe=>hkL e.symm) λhm=>(hsub L (.inr (.inl hm))).2.2 rfl];exact H.here)
   (Fz (b:=b.put x) (hP.frame λj hj=>k2 j (hPlt j hj) (hsub j (.inl hj)).2.1 λhm=>hnd.2.2 j hj j (.inl hm) rfl) k4 (hX.frame λj hj=>k2 j (hXlt j hj) (hsub j (.inr (.inr hj))).2.1 λhm=>hnd.2.1.2.2 j hm j hj rfl))
   (by
     simp only[List.nodup_append,Th]
     refine⟨hnd.1,⟨k5,hnd.2.1.2.1,λa ha c hc e=>?_⟩,λa ha c hc e=>?_⟩
     ·subst e
      rcases k6 a ha with h|h|h
      ·exact hnd.2.1.2.2 a h a hc rfl
      ·exact(hJ a h).2 (hsub a (.inr (.inr hc))).1
      ·have:=hXlt a hc;omega
     ·subst e
      rcases hc with hc|hc
      ·rcases k6 a hc with h|h|h
       ·exact hnd.2.2 a ha a (.inl h) rfl
       ·exact(hJ a h).2 (hsub a (.inl ha)).1
       ·have:=hPlt a ha;omega
      ·exact hnd.2.2 a ha a (.inr hc) rfl)
   (λj hj=>by
     simp only[Th] at hj⊢
     rcases hj with hj|hj|hj
     ·exact .inl (.inl hj)
     ·rcases k6 j hj with h|h|h
      ·exact .inl (.inr (.inl h))
      ·exact .inr (hJ j h)
      ·exact .inr (hgt j h)
     ·exact .inl (.inr (.inr hj))) hbs (by simp)
  refine⟨_,I',a1,⟨a2.1,λi hi hn=>a2.2 i hi λhm=>hn ?_⟩,λj hj=>?_⟩
  ·rcases Tf.1 hm with rfl|hm
   ·simp
   ·simp[hm]
  ·rcases a3 j hj with h|h
   ·exact .inl (by simp[h])
   ·simp only[Th] at h⊢
    rcases h with h|h|h
    ·exact .inl (.inl (hsub j (.inl h)).1)
    ·rcases k6 j h with h|h|h
     ·exact .inl (.inl (hsub j (.inr (.inl h))).1)
     ·exact .inl (.inr h)
     ·exact .inr h
    ·exact .inl (.inl (hsub j (.inr (.inr h))).1)
 have hxO:∀h2,OwnL false h2 [A] [bt x.args] J->OwnL false h2 [.p (.int .i64 x.op),.p (.int .i64 x.to),A,.p (.int .i64 x.n)] x.cs J:=λh2 hA2=>by
  rw[hxcs]
  have:=hA2.app (OwnL.p (.int .i64 x.n) (λ_=>rfl) (OwnL.nil (s:=false) (h:=h2)))
  rw[Tt] at this
  exact .p _ (λ_=>rfl) (.p _ (λ_=>rfl) this)
 have hkJ:kid∉J:=λhm=>(hJ kid hm).2 hkI
 have hJlt:=λj hj=>hA.lt (i:=j) hj
 rcases hN.inv hnd.2.1.1 with⟨h0,rfl,hNc⟩|⟨_,hh,_⟩|⟨iid,rowsN,JN,rfl,rfl,hr⟩
 ·have hi0:b.ins=[]:=List.map_eq_nil_iff.1 h0
  refine .inl ⟨hNc.resolve_right (hNc0 _),hi0,λos=>?_⟩
  have hl2:(h++(os++[AO.row 4 [[.p (.int .i64 x.op),.p (.int .i64 x.to),A,.p (.int .i64 x.n)]]])).length=h.length+os.length+1:=by simp;omega
  have hrow4:RowOwn false ((h++(os++[AO.row 4 [[.p (.int .i64 x.op),.p (.int .i64 x.to),A,.p (.int .i64 x.n)]]])).set kid (AO.row 5 (rows.set w.pos [P,.sl (h.length+os.length) 4 0 1,.p (.int .i64 b.jump),.p (.int .i64 b.on),X]))) (h.length+os.length) 4 [[.p (.int .i64 x.op),.p (.int .i64 x.to),A,.p (.int .i64 x.n)]] [x.cs] J:=by
   refine⟨?_,rfl,by simp,by simp[hxcs],?_,?_⟩
   ·rw[Te (by omega),←Ud,Tg (by simp)];simp
   ·rw[List.flatten_singleton,List.flatten_singleton]
    exact hxO _ ((hA.more _).set_out hkJ _)
   ·rw[TC];exact⟨λhm=>by have:=hJlt _ hm;omega,ndJ⟩
  refine hfin _ (h.length+os.length) 1 ((h.length+os.length)::J) (Tr (by omega)) (λj hj h1 _=>by rw[Te (Ne.symm h1),Tb hj]) (by rw[List.length_set];omega) (by
   rw[hi0];exact hrow4.tree rfl) hrow4.nd (λj hj=>?_)
  rcases Tf.1 hj with rfl|hj
  ·exact .inr (.inr (by omega))
  ·exact .inr (.inl hj)
 ·exact(hNc0 _ hh).elim
 ·have hiI:iid∈I:=(hsub iid (.inr (.inl (by simp)))).1
  have hik:iid≠kid:=(hsub iid (.inr (.inl (by simp)))).2.1
  have hil:=hr.lt
  have hlenN:=hr.len
  rw[TB] at hlenN
  refine .inr ⟨iid,rowsN,by rw[TB],λt=>by rw[Tb hil];exact hr.here,hlenN,hil,hik,λos=>?_⟩
  have hJN:∀j∈J,j≠iid/\j∉JN:=λj hj=>⟨λe=>(hJ j hj).2 (e▸hiI),λhm=>(hJ j hj).2 (hsub j (.inr (.inl (by simp[hm])))).1⟩
  have hra:=FP hr (h2:=h++os) rfl (rs:=[[.p (.int .i64 x.op),.p (.int .i64 x.to),A,.p (.int .i64 x.n)]]) (es:=[x.cs]) (I2:=J) (by
   rw[List.flatten_singleton,List.flatten_singleton];exact hxO _ (hA.more _)) rfl (by simp) (by simp[hxcs]) ndJ hJN
  have hl0:(h++os).length=h.length+os.length:=by simp
  rw[hl0] at hra
  have hkn:kid∉(h.length+os.length)::(JN++J):=by
   simp only[Tf,Th,not_or]
   exact⟨by omega,λhm=>(hsub kid (.inr (.inl (by simp[hm])))).2.1 rfl,hkJ⟩
  have hra2:=hra.frame (h':=((h++os).set iid .dead++[AO.row 4 (rowsN++[[.p (.int .i64 x.op),.p (.int .i64 x.to),A,.p (.int .i64 x.n)]])]).set kid (AO.row 5 (rows.set w.pos [P,.sl (h.length+os.length) 4 0 (b.ins.length+1),.p (.int .i64 b.jump),.p (.int .i64 b.on),X]))) (λi hi=>Te λe=>hkn (by rw[e];exact hi))
  refine hfin _ (h.length+os.length) (b.ins.length+1) ((h.length+os.length)::(JN++J)) (Tr (by simp;omega)) (λj hj h1 h2=>?_) (by simp;omega) (by
   rw[show inL (b.ins++[x])= .lst 4 (b.ins.map Ii.cs++[x.cs]) by simp[inL]]
   exact hra2.tree (by simp)) hra2.nd (λj hj=>?_)
  ·rw[Te (Ne.symm h1),Tb (by simp;omega),Te (λe=>h2 (by simp[←e])),Tb hj]
  ·simp only[Tf,Th] at hj⊢
   rcases hj with rfl|hj|hj
   ·exact .inr (.inr (by omega))
   ·exact .inl (.inr hj)
   ·exact .inr (.inl hj)
theorem LS.finAt(hmk:MkF mk)(H:LS mk L w h K I)(hp:w.pos<w.bs.length):
 ∃kid rows b P N X,K= .sl kid 5 0 w.bs.length/\(∀t,(h++t)[kid]?=some (.row 5 rows))/\rows.length=w.bs.length/\w.bs[w.pos]?=some b/\rows[w.pos]?=some [P,N,.p (.int .i64 b.jump),.p (.int .i64 b.on),X]/\(P.cells=[P]/\P.isCell=true)/\(N.cells=[N]/\N.isCell=true)/\(X.cells=[X]/\X.isCell=true)/\kid<h.length/\kid≠L/\
  ∀(j o:Int) (g:Nat) (nx:List Int) (V:AV) (J:List Nat),OwnL false h [V] [bt nx] J->J.Nodup->(∀j∈J,j≠L/\j∉I)->
   LR mk L (w.fin j o g nx) (I++J) h ((h.set kid (AO.row 5 (rows.set w.pos [P,N,.p (.int .i64 j),.p (.int .i64 o),V]))).set L (mk (w.fin j o g nx) K)):=by
 obtain⟨kid,rows,b,P,N,X,IP,IN,IX,rfl,hkI,hrow,hlen,hb,hcur,hNc0,hP,hN,hX,hnd,hsub,hkL,close⟩:=H.modB hp
 have hkl:kid<h.length:=(Ta.1 hrow).1
 have hLl:=H.lt
 simp only[List.nodup_append,Th] at hnd hsub
 refine⟨kid,rows,b,P,N,X,rfl,λt=>by rw[Tb hkl];exact hrow,hlen,hb,hcur,fI hP,fI hN,fI hX,hkl,hkL,λj o g nx V J hV ndJ hJ=>?_⟩
 have hbs:(w.fin j o g nx).bs=w.bs.set w.pos (b.fin j o nx):=oU hb
 have hkJ:kid∉J:=λhm=>(hJ kid hm).2 hkI
 have hLJ:L∉J:=λhm=>(hJ L hm).1 rfl
 have hfr:∀i,i≠kid->i≠L->((h.set kid (AO.row 5 (rows.set w.pos [P,N,.p (.int .i64 j),.p (.int .i64 o),V]))).set L (mk (w.fin j o g nx) (.sl kid 5 0 w.bs.length)))[i]?=h[i]?:=λi h1 h2=>by
  rw[Te (Ne.symm h2),Te (Ne.symm h1)]
 obtain⟨I',a1,a2,a3⟩:=close _ _ (b.fin j o nx) (IP++(IN++J)) (w.fin j o g nx) (by rw[Te (Ne.symm hkL)];exact Tr hkl) (λi hi h1 h2 h3=>hfr i h2 h1) (by simp) (Tr (by simpa using hLl))
  (Fz (b:=b.fin j o nx) (hP.frame λi hi=>hfr i (hsub i (.inl hi)).2.1 (hsub i (.inl hi)).2.2) (hN.frame λi hi=>hfr i (hsub i (.inr (.inl hi))).2.1 (hsub i (.inr (.inl hi))).2.2) (hV.frame λi hi=>hfr i (λe=>hkJ (e▸hi)) (hJ i hi).1))
  (by
    simp only[List.nodup_append,Th]
    refine⟨hnd.1,⟨hnd.2.1.1,ndJ,λa ha c hc e=>?_⟩,λa ha c hc e=>?_⟩
    ·subst e;exact(hJ a hc).2 (hsub a (.inr (.inl ha))).1
    ·subst e
     rcases hc with hc|hc
     ·exact hnd.2.2 a ha a (.inl hc) rfl
     ·exact(hJ a hc).2 (hsub a (.inl ha)).1)
  (λi hi=>by
    simp only[Th] at hi⊢
    rcases hi with hi|hi|hi
    ·exact .inl (.inl hi)
    ·exact .inl (.inr (.inl hi))
    ·exact .inr (hJ i hi)) hbs (by simpa using hNc0)
 refine⟨_,I',a1,⟨a2.1,λi hi hn=>a2.2 i hi λhm=>hn ?_⟩,λi hi=>?_⟩
 ·rcases Tf.1 hm with rfl|hm
  ·simp
  ·simp[hm]
 ·rcases a3 i hi with h|h
  ·exact .inl (by simp[h])
  ·simp only[Th] at h⊢
   rcases h with h|h|h
   ·exact .inl (.inl (hsub i (.inl h)).1)
   ·exact .inl (.inl (hsub i (.inr (.inl h))).1)
   ·exact .inl (.inr h)
theorem LS.nameAt(H:LS mk L w h K I)(hp:0<w.bs.length)(n:Nat)(os:List AO):
 ∃kid rows,K= .sl kid 5 0 w.bs.length/\(∀t,(h++t)[kid]?=some (.row 5 rows))/\rows.length=w.bs.length/\kid<h.length/\kid≠L/\
  LR mk L (w.name n) I h (((h++os).set kid .dead++[AO.row 5 (rows++List.replicate n [.nils,.nils,.p (.int .i64 0),.p (.int .i64 0),.nils])]).set L (mk (w.name n) (.sl (h.length+os.length) 5 0 (w.bs.length+n)))):=by
 obtain⟨kid,rows,J,rfl,rfl,hr⟩:=H.rows hp
 have hkl:=hr.lt
 have hLl:=H.lt
 have hlen:=hr.len
 rw[TB] at hlen
 have hnd:=H.nd
 simp only[TC,Tf,not_or] at hnd
 refine⟨kid,rows,rfl,λt=>by rw[Tb hkl];exact hr.here,hlen,hkl,λe=>hnd.1.1 e.symm,?_⟩
 have hra:=FP hr (h2:=h++os) rfl (rs:=List.replicate n [.nils,.nils,.p (.int .i64 0),.p (.int .i64 0),.nils]) (es:=List.replicate n bk0.cs) (I2:=[]) (AY _ n) (by simp) (λe he=>by rw[(TY.1 he).2];rfl) (λe he=>by rw[(TY.1 he).2];rfl) List.nodup_nil (λj hj=>by cases hj)
 have hl0:(h++os).length=h.length+os.length:=by simp
 rw[hl0,Tt] at hra
 have hra2:=hra.frame (h':=(((h++os).set kid .dead++[AO.row 5 (rows++List.replicate n [.nils,.nils,.p (.int .i64 0),.p (.int .i64 0),.nils])]).set L (mk (w.name n) (.sl (h.length+os.length) 5 0 (w.bs.length+n))))) (λi hi=>Te λe=>by
  subst e
  rcases Tf.1 hi with h|h
  ·omega
  ·exact hnd.1.2 h)
 refine⟨_,(h.length+os.length)::J,⟨Tr (by simp;omega),?_,?_,?_⟩,⟨by simp;omega,λi hi hn=>?_⟩,λj hj=>?_⟩
 ·rw[show bkL (w.name n).bs= .lst 5 (w.bs.map Bk.cs++List.replicate n bk0.cs) by simp[bkL,Lw.name]]
  exact hra2.tree (by simp)
 ·simp only[TC,Tf,not_or]
  exact⟨⟨by omega,hnd.1.2⟩,TC.1 hra.nd⟩
 ·refine⟨λq e=>(by cases e),?_⟩
  intro kid2 n2 rows2 eK hg2 r hr2
  cases eK
  rw[hra2.here] at hg2
  cases hg2
  rcases Th.1 hr2 with h1|h1
  ·exact H.noc.2 kid _ rows rfl hr.here r h1
  ·rw[(TY.1 h1).2];simp
 ·simp only[Tf,not_or] at hn
  rw[Te (Ne.symm hn.1),Tb (by simp;omega),Te (Ne.symm hn.2.1),Tb hi]
 ·rcases Tf.1 hj with rfl|hj
  ·exact .inr (by omega)
  ·exact .inl (by simp[hj])
end
end
section
theorem dC{α:Type}{p:α->Bool}{xs:List α}{i:Nat}(h:i<xs.length):(xs.take (i+1)).all p=((xs.take i).all p&&p xs[i]):=by
 rw[an h,List.all_append];simp
theorem mZ{α:Type}{p:α->Bool}{xs:List α}{i:Nat}(h:i<xs.length)(hp:p xs[i]=false):xs.all p=false:=
 List.all_eq_false.2 ⟨_,Tp h,by simp[hp]⟩
theorem fU{α:Type}{p:α->Bool}{xs:List α}{i:Nat}(h:xs.length<=i)(ht:(xs.take i).all p=true):xs.all p=true:=by
 rwa[Tl h] at ht
def pT:AK:=qL [xI 2 4,wz] [wR 10 2,qq 11 10,wT 12 im 11,qe 9 12,xc 13 0 9,xc 14 1 9,qe 5 13,qe 6 14] (w7 [wI 15,xP 16 15 1,qe 17 16,wK 18 17 0 2,wG 19 17 18,xN 20 17 (yn 19 w9 13),xL 21 17 20,xq 22 17 21,qe 23 22,wK 24 23 3 2,wG 25 23 24,qD 26 23 (qP 25),xb 27 23 5,xb 28 23 6,xN 29 23 (yp 26 27 28),xL 30 23 29,xq 31 23 30] 31 xH (xW (.reg [wR 32 2,qq 33 32,wt 34 33 2,qe 35 34,wK 36 35 0 2,wG 37 35 36,xE 38 35 .eql 37 (qj 13),xq 39 35 38,qe 7 39]) (xr [qe 40 7,xn 41 2,qq 42 41,wT 43 cb 42,qb 44 (.beq true (.t 40) (.t 43)),qe 45 44,xb 46 45 7,xL 47 45 46,xb 48 45 47,wL 49 48 2 2,wH 50 48 49,qF 51 48 (xD .neq 50 (.c wB)),qD 52 45 (qI 48 (.t 51) qB),xq 53 45 52,qe 54 53,wK 55 54 1 2,wG 56 54 55,xN 57 54 (yn 56 wx 255),xL 58 54 57,xq 59 54 58,qe 60 59,wK 61 60 0 2,wG 62 60 61,xE 63 60 .neq 62 w9,xb 64 60 63,wL 65 64 1 2,wH 66 64 65,xk 67 64 .neq 66 wx,qD 68 60 (qI 64 (.t 67) qB),xq 69 60 68] 69 xH) (xQ (xJ 8) 0 [ya 70,yb 71 2,qq 72 71,qX 73 72,ww 74 70 73] 74 0 1 (xr [yb 77 2,qq 78 77,ya 79,wd 80 4 78 79,qK 81 4 80,wI 82,yq 83 82 1,wQ 84 fc 81 83,wE 85 84] 85 xH) (xT (ya 75) 76 75 8 76) [qc 4 wn])))
theorem AG:AK.whole pT=FK.ak iC:=rfl
def rb:AK:=qd [xI 2 5,wz] (xW (xr [wI 7,xP 8 7 1,ya 9,wK 10 9 0 2,wG 11 9 10,xN 12 9 (yn 11 w9 8),xL 13 9 12,xq 14 9 13,qe 15 14,wK 16 15 2 2,wK 19 15 0 2,wG 17 15 16,qD 18 15 (qP 17),wG 20 15 19,qD 21 15 (.qcall iE (wS 20)),xE 22 15 .neq 18 (.t 21),xq 23 15 22] 23 xH) (.reg [wR 24 2,qq 25 24,wt 26 25 1,qe 27 26,wK 28 27 0 2,wG 29 27 28,xE 30 27 .eql 29 (qj 2),xq 31 27 30,qe 5 31]) (.cut (xr [wU 32,xf 33 2,qq 34 33,wT 35 cb 34,qb 36 (.beq true (.t 32) (.t 35)),qe 37 36,xb 38 37 5,xL 39 37 38,xb 40 37 39,wL 41 40 1 2,wH 42 40 41,qF 43 40 (xD .neq 42 (.c wB)),qD 44 37 (qI 40 (.t 43) qB),xq 45 37 44] 45 xH) (qx (xJ 6) (qO 0 (xa [yj 46,xn 47 2,qq 48 47,qX 49 48,ww 50 46 49] 50 0 1 (xr [xn 53 2,qq 54 53,yj 55,wd 56 4 54 55,qK 57 4 56,wT 58 ef 57,wE 59 58] 59 xH) (xT (yj 51) 52 51 6 52))) (xW (xr [wR 60 2,qq 61 60,wt 62 61 8,qe 63 62,wL 64 63 2 2,wH 65 63 64,qF 66 63 (qG 4 65 wx),wL 67 63 0 66,wH 68 63 67,xk 69 63 .neq 68 (qj 13),x4 70 63 69] 70 xH) (xr [qt 71 4 2,qq 72 71,qX 73 72,qy 74 .gtr 73 0,qe 75 74,wL 76 75 0 2,wH 77 75 76,xk 78 75 .neq 77 (qj 5),x4 79 75 78,qe 80 79,wK 81 80 3 2,wG 82 80 81,qD 83 80 (qP 82),xE 84 80 .gtr 83 wx,xb 85 80 84,wL 86 85 0 2,wH 87 85 86,xk 88 85 .neq 87 (qj 5),qD 89 80 (qI 85 (.t 88) qB),xb 90 80 89,wL 91 90 0 2,wH 92 90 91,xk 93 90 .neq 92 (qj 6),qD 94 80 (qI 90 (.t 93) qB),xq 95 80 94] 95 xH) (qw [yb 96 2,qq 97 96,wI 98,yq 99 98 1,wQ 100 bL 97 99,qe 101 100,wL 102 101 4 2,wH 103 101 102,yi 104 101 1,xk 105 101 .sub 104 w9,qF 106 101 (.call bL (wN 103 (.t 105))),x4 107 101 106,qe 4 107])))))
theorem Al:AK.whole rb=FK.ak iw:=rfl
variable (G:aH)
theorem cG(n lo hi:Int):VF Tryz.prog G fO [.p (.int .i64 n),.p (.int .i64 lo),.p (.int .i64 hi)] (.p (.bool (inR n lo hi))):=by
 refine AC.go CI ?_
 by_cases h:lo<=n
 ·simp-implicitDefEqProofs[oh,h,inR]
 ·simp-implicitDefEqProofs[oh,h,inR]
theorem CW(op:Int):VF Tryz.prog G im [.p (.int .i64 op)] (.tup [.p (.int .i64 (loK op)),.p (.int .i64 (hiK op))]):=by
 refine AC.go Az ?_
 by_cases h1:op=1
 ·subst h1;simp-implicitDefEqProofs[cQ,loK,hiK]
 by_cases h2:op=2
 ·subst h2;simp-implicitDefEqProofs[cQ,loK,hiK]
 by_cases h3:op=11
 ·subst h3;simp-implicitDefEqProofs[cQ,loK,hiK]
 by_cases h4:op=12
 ·subst h4;simp-implicitDefEqProofs[cQ,loK,hiK]
 by_cases h5:op=13
 ·subst h5;simp-implicitDefEqProofs[cQ,loK,hiK]
 simp-implicitDefEqProofs[cQ,loK,hiK,h1,h2,h3,h4,h5]
theorem Kk:∀(d:Nat) (e:Ex),e.sz<=1099511627776->d<=1000->VF Tryz.prog G fc [.agg (e.cs.map .p),.p (.int .i64 d)] (.p (.bool (bH d e))):=by
 intro d
 induction d with
 |zero=>
  intro e he _
  refine AC.go pO ?_
  simp-implicitDefEqProofs[iC,Ex.cs_eq]
  refine(CW G _).use ?_
  simp-implicitDefEqProofs[bH]
 |succ d ih=>
  intro e he hd
  have hsz:=e.sz_eq
  have hkl:=bk e.kids
  refine AC.goK pO AG ?_
  have hd1:¬(d:Int)+1<1:=by omega
  have hw:IntKind.i64.wrap ((d:Int)+1-1)=(d:Int):=by rw[show(d:Int)+1-1=d by omega];exact ag (by omega) (by omega)
  have hw':IntKind.i64.wrap (d:Int)=(d:Int):=ag (by omega) (by omega)
  have hxl:∀l,exL l= .lst 4 (l.map Ex.cs):=λ_=>rfl
  simp-implicitDefEqProofs[pT,iC,Ex.cs_eq]
  refine(CW G _).use ?_
  simp-implicitDefEqProofs[hd1]
  refine(cG G _ _ _).use ?_
  by_cases h1:inR e.op 1 13=true
  case neg=>simp-implicitDefEqProofs[h1,bH,jY]
  simp-implicitDefEqProofs[h1,hxl]
  refine(cG G _ _ _).use ?_
  by_cases h2:inR e.kids.length (loK e.op) (hiK e.op)=true
  case neg=>simp-implicitDefEqProofs[h2,bH,jY]
  simp-implicitDefEqProofs[h2]
  refine pm (ay 86 [(1,.p (.int .i64 (d+1))),(2,.ptr 0 4 0 0),(7,.p (.bool (Dr e.op)))]) [.row 4 [[.p (.int .i64 e.op),.p (.int .i64 e.n),.p (.str e.name),.p (.lst 4 (e.kids.map Ex.cs))]]] ?_ ?_
  ·by_cases o2:e.op=2
   ·simp-implicitDefEqProofs[o2]
    exact am (by simp) (by simp[okO]) (by simp[below,Dr])
   ·by_cases o13:e.op=13
    ·simp-implicitDefEqProofs[o13]
     exact am (by simp) (by simp[okO]) (by simp[below,Dr])
    ·simp-implicitDefEqProofs[o2,o13]
     exact am (by simp) (by simp[okO]) (by simp[below,Dr,o2,o13])
  have hn:e.name.length<=140737488355328:=by omega
  refine me (λ_:Unit=>ay 86 [(1,.p (.int .i64 ((d:Int)+1))),(2,.ptr 0 4 0 0)]) (λ_=>[.row 4 [[.p (.int .i64 e.op),.p (.int .i64 e.n),.p (.str e.name),.p (.lst 4 (e.kids.map Ex.cs))]]]) (λ_=>jY e=true) ?_ ?_
  ·simp-implicitDefEqProofs[]
   refine(rV G _ hn).use ?_
   simp-implicitDefEqProofs[]
   repeat' first
    |(refine(cG G _ _ _).use ?_;simp-implicitDefEqProofs[])
    |(refine aJ (λhc=>?_) (λhc=>?_)<;>simp-implicitDefEqProofs[hc])
   all_goals first
    |exact⟨by simp_all [jY],am (by simp) (by simp[okO]) (by simp[below])⟩
    |simp_all [bH,jY]
  intro _ hh
  simp-implicitDefEqProofs[]
  refine aG (λi:Nat=>ay 86 [(1,.p (.int .i64 ((d:Int)+1))),(2,.ptr 0 4 0 0),(8,.p (.int .i64 i))]) (λ_=>[.row 4 [[.p (.int .i64 e.op),.p (.int .i64 e.n),.p (.str e.name),.p (.lst 4 (e.kids.map Ex.cs))]]])
   (λi=>i<=e.kids.length/\(e.kids.take i).all (bH d)=true) (λi=>e.kids.length-i) 0 (by simp) (am (by simp) (by simp[okO]) (by simp[below])) ?_
  intro i ⟨hi,hall⟩
  simp-implicitDefEqProofs[]
  refine aJ (λh=>?_) (λh=>?_)
  ·simp at h
   have hg:=Tc h
   have hks:=bv (Tp h)
   simp-implicitDefEqProofs[hg,hw']
   refine(ih e.kids[i] (by omega) (by omega)).use ?_
   by_cases hk:bH d e.kids[i]=true
   ·simp-implicitDefEqProofs[hk]
    refine⟨i+1,⟨h,by rw[←Tj,dC h,hall,hk];rfl⟩,by omega,am (by simp) (by simp[okO]) ?_⟩
    simp[below,w1 (i:=i) (by omega)]
   ·have hk':bH d e.kids[i]=false:=by simpa using hk
    have hf:bH (d+1) e=false:=by simp only[bH,mZ h hk',Bool.and_false]
    simp-implicitDefEqProofs[hk',hf]
  ·simp at h
   have hf:bH (d+1) e=true:=by simp only[bH,fU h hall,hh,Bool.and_self]
   simp-implicitDefEqProofs[hf]
theorem Ip{l:List Ex}{i:Nat}(h:i<l.length):fC (l.take (i+1))=fC (l.take i)+l[i].parts:=by
 rw[an h,iK];simp[fC]
theorem BH(l:List Ex)(i:Nat):fC (l.take i)<=fC l:=by
 have:=iK (l.take i) (l.drop i)
 rw[TL] at this
 omega
theorem HO:∀(k:Nat) (e:Ex),e.sz<=k->k<=1099511627776->VF Tryz.prog G gn [.agg (e.cs.map .p)] (.p (.int .i64 e.parts)):=by
 intro k
 induction k with
 |zero=>intro e he;have:=e.sz_eq;omega
 |succ k ih=>
  intro e he hk
  have hsz:=e.sz_eq
  have hkl:=bk e.kids
  have hpe:=e.parts_eq
  have hpz:=BV e.kids
  refine AC.go zE ?_
  have hxl:∀l,exL l= .lst 4 (l.map Ex.cs):=λ_=>rfl
  simp-implicitDefEqProofs[nD,Ex.cs_eq,hxl]
  refine aG (λi:Nat=>ay 21 [(1,.ptr 0 4 0 0),(3,.p (.int .i64 ((1+fC (e.kids.take i):Nat):Int))),(4,.p (.int .i64 i))]) (λ_=>[.row 4 [[.p (.int .i64 e.op),.p (.int .i64 e.n),.p (.str e.name),.p (.lst 4 (e.kids.map Ex.cs))]]])
   (λi=>i<=e.kids.length) (λi=>e.kids.length-i) 0 (by simp) (am (by simp) (by simp[okO]) (by simp[below,fC])) ?_
  intro i hi
  simp-implicitDefEqProofs[]
  refine aJ (λh=>?_) (λh=>?_)
  ·simp at h
   have hg:=Tc h
   have hks:=bv (Tp h)
   have hps:=Ip h
   have hple:=BH e.kids (i+1)
   simp-implicitDefEqProofs[hg]
   refine(ih e.kids[i] (by omega) (by omega)).use ?_
   have hw:IntKind.i64.wrap (1+(fC (e.kids.take i):Int)+(e.kids[i].parts:Int))=((1+fC (e.kids.take (i+1)):Nat):Int):=by rw[ag (by omega) (by omega)];omega
   simp-implicitDefEqProofs[hw]
   exact⟨i+1,h,by omega,am (by simp) (by simp[okO]) (by simp[below,w1 (i:=i) (by omega)])⟩
  ·simp at h
   rw[Tl h]
   simp-implicitDefEqProofs[]
   omega
theorem CB(e:Ex)(he:e.sz<=1099511627776):VF Tryz.prog G ef [.agg (e.cs.map .p)] (.p (.bool (kM e))):=by
 refine AC.go tK ?_
 simp-implicitDefEqProofs[mr]
 have h6:=Kk G 6 e he (by omega)
 refine h6.use ?_
 by_cases h:bH 6 e=true
 ·simp-implicitDefEqProofs[h]
  refine(HO G _ e (Tk _) he).use ?_
  simp-implicitDefEqProofs[kM,h]
  omega
 ·simp-implicitDefEqProofs[h,kM]
theorem KN(op:Int):VF Tryz.prog G iE [.p (.int .i64 op)] (.p (.int .i64 (ju op))):=by
 refine AC.go Af ?_
 by_cases h:op=4
 ·simp-implicitDefEqProofs[lC,h,ju]
 ·simp-implicitDefEqProofs[lC,h,ju]
theorem uq(d:Nat)(hd:d<=1000)(hs:∀s:Sm,s.sz<=1099511627776->VF Tryz.prog G iG [.agg (s.cs.map .p),.p (.int .i64 d)] (.p (.bool (aF d s))))(l:List Sm)(hl:aA l<=1099511627776):
 VF Tryz.prog G bL [.p (smL l),.p (.int .i64 d)] (.p (.bool (l.all (aF d)))):=by
 refine AC.go zg ?_
 have hll:=bf l
 have hsl:∀l,smL l= .lst 5 (l.map Sm.cs):=λ_=>rfl
 simp-implicitDefEqProofs[nP]
 refine aG (λi:Nat=>ay 19 [(0,.p (smL l)),(1,.p (.int .i64 d)),(5,.p (.int .i64 i))]) (λ_=>[]) (λi=>i<=l.length/\(l.take i).all (aF d)=true) (λi=>l.length-i) 0 (by simp) (aQ rfl (by simp[below,hsl])) ?_
 intro i ⟨hi,hall⟩
 simp-implicitDefEqProofs[hsl]
 refine aJ (λh=>?_) (λh=>?_)
 ·simp at h
  have hg:=Tc h
  have hks:=bp (Tp h)
  simp-implicitDefEqProofs[hg]
  refine(hs l[i] (by omega)).use ?_
  by_cases hk:aF d l[i]=true
  ·simp-implicitDefEqProofs[hk]
   exact⟨i+1,⟨h,by rw[←Tj,dC h,hall,hk];rfl⟩,by omega,aQ rfl (by simp[below,hsl,w1 (i:=i) (by omega)])⟩
  ·have hk':aF d l[i]=false:=by simpa using hk
   have hf:=mZ h hk'
   simp-implicitDefEqProofs[hk',hf]
 ·simp at h
  have hf:=fU h hall
  simp-implicitDefEqProofs[hf]
theorem Lj:∀(d:Nat),d<=1000->∀s:Sm,s.sz<=1099511627776->VF Tryz.prog G iG [.agg (s.cs.map .p),.p (.int .i64 d)] (.p (.bool (aF d s))):=by
 intro d
 induction d with
 |zero=>
  intro _ s _
  refine AC.go ra ?_
  simp-implicitDefEqProofs[iw,Sm.cs_eq,aF]
 |succ d ih=>
  intro hd s he
  have hsz:=s.sz_eq
  have hal:=bk s.args
  have hbl:=bf s.body
  have hel:=bf s.els
  have ihs:=uq G d (by omega) (ih (by omega))
  refine AC.goK ra Al ?_
  have hd1:¬(d:Int)+1<1:=by omega
  have hw':IntKind.i64.wrap (d:Int)=(d:Int):=ag (by omega) (by omega)
  have hxl:∀l,exL l= .lst 4 (l.map Ex.cs):=λ_=>rfl
  have hsl:∀l,smL l= .lst 5 (l.map Sm.cs):=λ_=>rfl
  have hn:s.name.length<=140737488355328:=by omega
  simp-implicitDefEqProofs[rb,iw,Sm.cs_eq]
  generalize hH:[AO.row 5 [[AV.p (.int .i64 s.op),.p (.str s.name),.p (exL s.args),.p (smL s.body),.p (smL s.els)]]]=H
  have hho:∀o∈H,okO H.length o:=by rw[←hH];simp[okO]
  have hhl:0<H.length:=by rw[←hH];simp
  have hh0:H[0]?=some (AO.row 5 [[AV.p (.int .i64 s.op),.p (.str s.name),.p (exL s.args),.p (smL s.body),.p (smL s.els)]]):=by rw[←hH];rfl
  have hhL:H.length=1:=by rw[←hH];rfl
  refine me (λ_:Unit=>ay 108 [(1,.p (.int .i64 ((d:Int)+1))),(2,.ptr 0 5 0 0)]) (λ_=>H) (λ_=>inR s.op 1 8=true/\s.args.length=ju s.op) ?_ ?_
  ·simp-implicitDefEqProofs[hd1,hh0]
   refine(cG G _ _ _).use ?_
   by_cases h1:inR s.op 1 8=true
   case neg=>simp-implicitDefEqProofs[h1,aF,fN]
   simp-implicitDefEqProofs[h1,hh0,hxl]
   refine(KN G _).useQ ?_
   by_cases h2:s.args.length=ju s.op
   ·simp-implicitDefEqProofs[h2]
    exact am (by omega) hho (by simp[below,hhl])
   ·have h2':¬(s.args.length:Int)=(ju s.op:Int):=by omega
    simp-implicitDefEqProofs[h2,h2',aF,fN]
  intro _ ⟨h1,h2⟩
  refine me (λ_:Unit=>ay 108 [(1,.p (.int .i64 ((d:Int)+1))),(2,.ptr 0 5 0 0),(5,.p (.bool (ck s.op)))]) (λ_=>H) (λ_=>True) ?_ ?_
  ·simp-implicitDefEqProofs[hh0]
   by_cases o1:s.op=1
   ·simp-implicitDefEqProofs[o1,hh0,ck]
    exact am (by omega) hho (by simp[below,hhl])
   ·by_cases o2:s.op=2
    ·simp-implicitDefEqProofs[o2,hh0,ck]
     exact am (by omega) hho (by simp[below,hhl])
    ·simp-implicitDefEqProofs[o1,o2,hh0,ck]
     exact am (by omega) hho (by simp[below,hhl])
  intro _ _
  refine me (λ_:Unit=>ay 108 [(1,.p (.int .i64 ((d:Int)+1))),(2,.ptr 0 5 0 0)]) (λ_=>H) (λ_=>(ck s.op==aI s.name)=true/\(ck s.op||decide (s.name=[]))=true) ?_ ?_
  ·simp-implicitDefEqProofs[hh0]
   refine(rV G _ hn).use ?_
   simp-implicitDefEqProofs[hh0]
   repeat' first
    |(refine aJ (λhc=>?_) (λhc=>?_)<;>simp-implicitDefEqProofs[hc,hh0])
   all_goals first
    |exact am (by omega) hho (by simp[below,hhl])
    |exact⟨by simp_all,by simp_all,am (by omega) hho (by simp[below,hhl])⟩
    |exact⟨by simp_all,am (by omega) hho (by simp[below,hhl])⟩
    |(simp_all [aF,fN];done)
  intro _ ⟨h3,h4⟩
  simp-implicitDefEqProofs[]
  refine aG (λi:Nat=>ay 108 [(1,.p (.int .i64 ((d:Int)+1))),(2,.ptr 0 5 0 0),(6,.p (.int .i64 i))]) (λ_=>H) (λi=>i<=s.args.length/\(s.args.take i).all kM=true) (λi=>s.args.length-i) 0 (by simp) (am (by omega) hho (by simp[below,hhl])) ?_
  intro i ⟨hi,hall⟩
  simp-implicitDefEqProofs[hh0,hxl]
  refine aJ (λh=>?_) (λh=>?_)
  ·simp at h
   have hg:=Tc h
   have hks:=bv (Tp h)
   simp-implicitDefEqProofs[hg,hh0,hxl]
   refine(CB G s.args[i] (by omega)).use ?_
   by_cases hk:kM s.args[i]=true
   ·simp-implicitDefEqProofs[hk]
    exact⟨i+1,⟨h,by rw[←Tj,dC h,hall,hk];rfl⟩,by omega,am (by omega) hho (by simp[below,hhl,w1 (i:=i) (by omega)])⟩
   ·have hk':kM s.args[i]=false:=by simpa using hk
    have hf:aF (d+1) s=false:=by simp only[aF,fN,mZ h hk',Bool.and_false,Bool.false_and]
    simp-implicitDefEqProofs[hk',hf]
  simp at h
  have h5:s.args.all kM=true:=fU h hall
  have hlen1:1<=s.args.length:=by rw[h2];unfold ju;split<;>omega
  obtain⟨a0,ar,ha⟩:∃a r,s.args=a::r:=by
   cases hh:s.args with
   |nil=>rw[hh] at hlen1;simp at hlen1
   |cons a r=>exact⟨a,r,rfl⟩
  have ha0:s.args[0]?=some a0:=by rw[ha];rfl
  refine me (λ_:Unit=>ay 108 [(1,.p (.int .i64 ((d:Int)+1))),(2,.ptr 0 5 0 0)]) (λ_=>H) (λ_=>(!decide (s.op=8)||decide (a0.op=13))=true) ?_ ?_
  ·simp-implicitDefEqProofs[hh0]
   by_cases o8:s.op=8
   ·have hae:=a0.cs_eq
    simp-implicitDefEqProofs[o8,hh0,hxl,ha0,hae]
    refine aJ (λhc=>?_) (λhc=>?_)
    ·simp at hc
     have hf:aF (d+1) s=false:=by simp[aF,fN,o8,ha,hc]
     simp-implicitDefEqProofs[hf]
    ·simp at hc
     simp-implicitDefEqProofs[hc]
     exact am (by omega) hho (by simp[below,hhl])
   ·simp-implicitDefEqProofs[o8,hh0]
    exact am (by omega) hho (by simp[below,hhl])
  intro _ h6
  refine me (λ_:Unit=>ay 108 [(1,.p (.int .i64 ((d:Int)+1))),(2,.ptr 0 5 0 0)]) (λ_=>H) (λ_=>(s.els.isEmpty||decide (s.op=5))=true/\(s.body.isEmpty||decide (s.op=5)||decide (s.op=6))=true) ?_ ?_
  ·have hf:¬((s.els.isEmpty||decide (s.op=5))=true/\(s.body.isEmpty||decide (s.op=5)||decide (s.op=6))=true)->aF (d+1) s=false:=λh=>by
    have:fN s=false:=by
     cases hx:fN s with
     |false=>rfl
     |true=>refine absurd ?_ h;simp only[fN,Tm] at hx;exact⟨hx.1.2,hx.2⟩
    simp[aF,this]
   have pe:¬s.els=[]->0<s.els.length:=List.length_pos_iff.2
   have pb:¬s.body=[]->0<s.body.length:=List.length_pos_iff.2
   by_cases o5:s.op=5
   ·simp-implicitDefEqProofs[hh0,hsl,o5]
    repeat' first
     |(refine aJ (λhc=>?_) (λhc=>?_)<;>simp-implicitDefEqProofs[hc,hh0,hsl,o5])
    all_goals exact am (by omega) hho (by simp[below,hhl])
   by_cases e1:s.els=[]
   case neg=>
    have hf:=hf (by simp[e1,o5])
    have:=pe e1
    simp-implicitDefEqProofs[hh0,hsl,o5,e1,this,hf]
   by_cases e2:s.body=[]
   ·simp-implicitDefEqProofs[hh0,hsl,o5,e1,e2]
    exact am (by omega) hho (by simp[below,hhl])
   have:=pb e2
   by_cases o6:s.op=6
   ·simp-implicitDefEqProofs[hh0,hsl,o6,e1,e2,this]
    exact am (by omega) hho (by simp[below,hhl])
   ·have hf:=hf (by simp[e2,o5,o6])
    simp-implicitDefEqProofs[hh0,hsl,o5,o6,e1,e2,this,hf]
  intro _ ⟨h7,h8⟩
  have hm:(match s.args with|a::_=>decide (a.op=13)|[]=>false)=decide (a0.op=13):=by rw[ha]
  have hhd:fN s=true:=by
   have h6':(!decide (s.op=8)||(match s.args with|a::_=>decide (a.op=13)|[]=>false))=true:=by rw[hm];exact h6
   have h2':decide (s.args.length=ju s.op)=true:=by simp[h2]
   simp only[fN,h1,h2',h3,h4,h5,h7,h8,Bool.and_self,Bool.and_true,Bool.true_and]
   exact h6'
  simp-implicitDefEqProofs[hh0,hw']
  refine(ihs s.body (by omega)).use ?_
  by_cases hB:s.body.all (aF d)=true
  ·simp only[hB]
   simp-implicitDefEqProofs[hh0,hw']
   refine(ihs s.els (by omega)).use ?_
   have hf:aF (d+1) s=s.els.all (aF d):=by simp only[aF,hhd,hB,Bool.true_and]
   rw[hf]
   generalize s.els.all (aF d)=w
   simp-implicitDefEqProofs[]
  ·have hB':s.body.all (aF d)=false:=by simpa using hB
   have hf:aF (d+1) s=false:=by simp only[aF,hB',Bool.and_false,Bool.false_and]
   simp only[hB',hf]
   simp-implicitDefEqProofs[]
theorem Hy(d:Nat)(hd:d<=1000)(l:List Sm)(hl:aA l<=1099511627776):VF Tryz.prog G bL [.p (smL l),.p (.int .i64 d)] (.p (.bool (l.all (aF d)))):=
 uq G d hd (Lj G d hd) l hl
theorem Pi(f:Fd)(hf:f.sz<=1099511627776):VF Tryz.prog G oG [.agg (f.cs.map .p)] (.p (.bool (jd f))):=by
 refine AC.go CV ?_
 have hsz:f.sz=1+f.name.length+(f.params.length+(f.params.map List.length).sum)+aA f.body:=rfl
 have hps:∀x∈f.params,x.length<=(f.params.map List.length).sum:=λx hx=>by
  have key:∀l:List (List UInt8),x∈l->x.length<=(l.map List.length).sum:=by
   intro l
   induction l with
   |nil=>intro h;cases h
   |cons y r ih=>
    intro h
    simp only[TA,List.sum_cons]
    rcases Tf.1 h with rfl|h
    ·omega
    ·have:=ih h;omega
  exact key _ hx
 have hst:aR f.params= .lst 1 (f.params.map λw=>[.str w]):=rfl
 have h4:=Hy G 4 (by omega) f.body (by omega)
 simp-implicitDefEqProofs[uA,Fd.cs,hst]
 refine aG (λi:Nat=>ay 32 [(1,.ptr 0 3 0 0),(3,.p (.int .i64 i))]) (λ_=>[.row 3 [[.p (.str f.name),.p (aR f.params),.p (smL f.body)]]]) (λi=>i<=f.params.length/\(f.params.take i).all aI=true) (λi=>f.params.length-i) 0 (by simp) (am (by simp) (by simp[okO]) (by simp[below])) ?_
 intro i ⟨hi,hall⟩
 simp-implicitDefEqProofs[hst]
 refine aJ (λh=>?_) (λh=>?_)
 ·simp at h
  have hg:=Tc h
  have hl:=hps _ (Tp h)
  simp-implicitDefEqProofs[hg]
  refine(rV G _ (by omega)).use ?_
  by_cases hk:aI f.params[i]=true
  ·simp-implicitDefEqProofs[hk]
   exact⟨i+1,⟨h,by rw[←Tj,dC h,hall,hk];rfl⟩,by omega,am (by simp) (by simp[okO]) (by simp[below,w1 (i:=i) (by omega)])⟩
  ·have hk':aI f.params[i]=false:=by simpa using hk
   have hff:jd f=false:=by simp only[jd,mZ h hk',Bool.false_and]
   simp-implicitDefEqProofs[hk',hff]
 ·simp at h
  have h1:f.params.all aI=true:=fU h hall
  simp-implicitDefEqProofs[]
  refine(rV G _ (by omega)).use ?_
  by_cases h2:aI f.name=true
  case neg=>
   have h2':aI f.name=false:=by simpa using h2
   simp-implicitDefEqProofs[h2',jd]
  simp-implicitDefEqProofs[h2]
  by_cases h3:f.params.length<=3
  case neg=>
   have h3':¬(f.params.length:Int)<=3:=by omega
   simp-implicitDefEqProofs[h3,h3',jd]
  have h3':(f.params.length:Int)<=3:=by omega
  simp-implicitDefEqProofs[h3']
  refine h4.use ?_
  have hff:jd f=f.body.all (aF 4):=by simp only[jd,h1,h2,h3,decide_true,Bool.true_and]
  rw[hff]
  generalize f.body.all (aF 4)=w
  simp-implicitDefEqProofs[]
theorem Im{l:List Sm}{i:Nat}(h:i<l.length):da (l.take (i+1))=da (l.take i)+l[i].cnt:=by
 rw[an h,om];simp[da]
theorem sX(l:List Sm)(i:Nat):da (l.take i)<=da l:=by
 have:=om (l.take i) (l.drop i)
 rw[TL] at this
 omega
def kU(l:List Sm)(i:Nat):Nat:=l.length+((l.take i).map λs=>da s.body+da s.els).sum
theorem FS(l:List Sm):kU l 0=l.length:=by simp[kU]
theorem yE{l:List Sm}{i:Nat}(h:i<l.length):kU l (i+1)=kU l i+da l[i].body+da l[i].els:=by
 rw[kU,kU,an h,List.map_append,List.sum_append]
 simp only[TA,TU,List.sum_cons,List.sum_nil]
 omega
theorem tg(l:List Sm):∀i,i<=l.length->da (l.take i)+l.length=i+kU l i
 |0,_=>by simp[da,kU]
 |i+1,h=>by
  have:=tg l i (by omega)
  rw[Im (by omega),yE (by omega),(l[i]'(by omega)).cnt_eq]
  omega
theorem IJ:∀(k:Nat) (l:List Sm),aA l<=k->k<=1099511627776->VF Tryz.prog G dZ [.p (smL l)] (.p (.int .i64 (da l))):=by
 intro k
 induction k with
 |zero=>
  intro l hl _
  have:l=[]:=by
   cases l with
   |nil=>rfl
   |cons s r=>have:=s.sz_eq;simp only[aA] at hl;omega
  subst this
  refine AC.go oR ?_
  have hsl:smL []= .lst 5 []:=rfl
  simp-implicitDefEqProofs[kq,hsl]
  refine aG (λ_:Unit=>ay 29 [(0,.p (.lst 5 [])),(3,.p (.int .i64 0)),(4,.p (.int .i64 0))]) (λ_=>[]) (λ_=>True) (λ_=>0) () trivial (aQ rfl (by simp[below])) ?_
  intro _ _
  simp-implicitDefEqProofs[da]
 |succ k ih=>
  intro l hl hk
  have hll:=bf l
  have hnz:=fu l
  refine AC.go oR ?_
  have hsl:∀l,smL l= .lst 5 (l.map Sm.cs):=λ_=>rfl
  simp-implicitDefEqProofs[kq,hsl]
  refine aG (λi:Nat=>ay 29 [(0,.p (smL l)),(3,.p (.int .i64 (kU l i))),(4,.p (.int .i64 i))]) (λ_=>[]) (λi=>i<=l.length) (λi=>l.length-i) 0 (by simp) (aQ rfl (by simp[below,hsl,FS])) ?_
  intro i hi
  have k0:=tg l i hi
  have k2:=sX l i
  simp-implicitDefEqProofs[hsl]
  refine aJ (λh=>?_) (λh=>?_)
  ·simp at h
   have hg:=Tc h
   have hks:=bp (Tp h)
   have hse:=l[i].sz_eq
   have hce:=l[i].cs_eq
   have k1:=yE h
   have k3:=tg l (i+1) h
   have k4:=sX l (i+1)
   simp-implicitDefEqProofs[hg,hce]
   refine(ih l[i].body (by omega) (by omega)).use ?_
   simp-implicitDefEqProofs[hg,hce]
   refine(ih l[i].els (by omega) (by omega)).use ?_
   have w1':IntKind.i64.wrap ((kU l i:Int)+(da l[i].body:Int))=(kU l i:Int)+(da l[i].body:Int):=ag (by omega) (by omega)
   have w2':IntKind.i64.wrap ((kU l i:Int)+(da l[i].body:Int)+(da l[i].els:Int))=(kU l (i+1):Int):=by rw[ag (by omega) (by omega)];omega
   simp-implicitDefEqProofs[w1',w2']
   exact⟨i+1,h,by omega,aQ rfl (by simp[below,hsl,w1 (i:=i) (by omega)])⟩
  ·simp at h
   rw[Tl h] at k0
   have:kU l i=da l:=by omega
   simp-implicitDefEqProofs[this]
theorem dy:∀{l:List Fd} {f:Fd},f∈l->f.sz<=bQ l
 |x::r,e,h=>by
  simp only[bQ,TA,List.sum_cons]
  rcases Tf.1 h with rfl|h
  ·omega
  ·have:=dy h;simp only[bQ] at this;omega
theorem dc:∀l:List Fd,l.length<=bQ l
 |[]=>Tk _
 |e::r=>by have:=dc r;simp only[bQ,TA,List.sum_cons,Tu] at this⊢;have:1<=e.sz:=by unfold Fd.sz;omega
           omega
def yN(l:List Fd)(i:Nat):Nat:=kJ (l.take i)
theorem It{l:List Fd}{i:Nat}(h:i<l.length):yN l (i+1)=yN l i+da l[i].body:=by
 rw[yN,yN,kJ,kJ,an h,List.map_append,List.sum_append];simp
theorem Cn:∀l:List Fd,kJ l<=bQ l
 |[]=>Tk _
 |f::r=>by
  have:=Cn r
  have h2:=fu f.body
  simp only[kJ,bQ,TA,List.sum_cons] at this⊢
  have:aA f.body<=f.sz:=by unfold Fd.sz;omega
  omega
theorem Mt(l:List Fd)(i:Nat):yN l i<=bQ l:=by
 have h1:=Cn (l.take i)
 have h2:bQ (l.take i)<=bQ l:=by
  have:bQ l=bQ (l.take i)+bQ (l.drop i):=by
   rw[←TL i l,bQ,List.map_append,List.sum_append];simp[bQ]
  omega
 exact TP h1 h2
theorem Mp(l:List Fd)(hl:bQ l<=1099511627776):VF Tryz.prog G mQ [.agg [.p (fdL l)]] (.p (.int .i64 (kJ l))):=by
 refine AC.go BY ?_
 have hll:=dc l
 have hfl:∀l,fdL l= .lst 3 (l.map Fd.cs):=λ_=>rfl
 simp-implicitDefEqProofs[tc]
 refine aG (λi:Nat=>ay 22 [(1,.ptr 0 1 0 0),(3,.p (.int .i64 (yN l i))),(4,.p (.int .i64 i))]) (λ_=>[.row 1 [[.p (fdL l)]]]) (λi=>i<=l.length) (λi=>l.length-i) 0 (by simp) (am (by simp) (by simp[okO]) (by simp[below,yN,kJ])) ?_
 intro i hi
 simp-implicitDefEqProofs[hfl]
 refine aJ (λh=>?_) (λh=>?_)
 ·simp at h
  have hg:=Tc h
  have hks:=dy (Tp h)
  have hse:l[i].sz=1+l[i].name.length+(l[i].params.length+(l[i].params.map List.length).sum)+aA l[i].body:=rfl
  have hce:l[i].cs=[.str l[i].name,aR l[i].params,smL l[i].body]:=rfl
  have k1:=It h
  have k2:=Mt l (i+1)
  simp-implicitDefEqProofs[hg,hce]
  refine(IJ G _ l[i].body (Tk _) (by omega)).use ?_
  have w1':IntKind.i64.wrap ((yN l i:Int)+(da l[i].body:Int))=(yN l (i+1):Int):=by rw[ag (by omega) (by omega)];omega
  simp-implicitDefEqProofs[w1']
  exact⟨i+1,h,by omega,am (by simp) (by simp[okO]) (by simp[below,w1 (i:=i) (by omega),hfl])⟩
 ·simp at h
  have:yN l i=kJ l:=by rw[yN,Tl h]
  simp-implicitDefEqProofs[this]
theorem yM(l:List Fd)(hl:bQ l<=1099511627776):VF Tryz.prog G eJ [.agg [.p (fdL l)]] (.p (.bool (bI l))):=by
 refine AC.go pE ?_
 have hfl:∀l,fdL l= .lst 3 (l.map Fd.cs):=λ_=>rfl
 have hall:=Mp G l hl
 have hll:=dc l
 rw[hfl] at hall
 simp-implicitDefEqProofs[jr,hfl]
 refine(cG G _ _ _).use ?_
 by_cases h1:inR l.length 1 4=true
 case neg=>simp-implicitDefEqProofs[h1,bI]
 simp-implicitDefEqProofs[h1]
 refine aG (λi:Nat=>ay 26 [(1,.ptr 0 1 0 0),(3,.p (.int .i64 i))]) (λ_=>[.row 1 [[.p (.lst 3 (l.map Fd.cs))]]]) (λi=>i<=l.length/\(l.take i).all jd=true) (λi=>l.length-i) 0 (by simp) (am (by simp) (by simp[okO]) (by simp[below])) ?_
 intro i ⟨hi,ha⟩
 simp-implicitDefEqProofs[]
 refine aJ (λh=>?_) (λh=>?_)
 ·simp at h
  have hg:=Tc h
  have hks:=dy (Tp h)
  simp-implicitDefEqProofs[hg]
  refine(Pi G l[i] (by omega)).use ?_
  by_cases hk:jd l[i]=true
  ·simp-implicitDefEqProofs[hk]
   exact⟨i+1,⟨h,by rw[←Tj,dC h,ha,hk];rfl⟩,by omega,am (by simp) (by simp[okO]) (by simp[below,w1 (i:=i) (by omega)])⟩
  ·have hk':jd l[i]=false:=by simpa using hk
   have hff:bI l=false:=by simp only[bI,mZ h hk',Bool.and_false,Bool.false_and]
   simp-implicitDefEqProofs[hk',hff]
 ·simp at h
  have h2:l.all jd=true:=fU h ha
  simp-implicitDefEqProofs[]
  refine hall.use ?_
  have hff:bI l=decide (kJ l<=40):=by simp only[bI,h1,h2,Bool.true_and]
  simp-implicitDefEqProofs[hff]
  omega
end
section
theorem cw{n:Nat}{h h1:List AO}(e:h.take n=h1)(hn:h1.length=n)(ho:∀o∈h1,okO n o):Fst n h h1:=by
 have hl:n<=h.length:=by
  have:=congrArg List.length e
  rw[TD] at this;omega
 have hg:∀(i:Nat) (o:AO),h1[i]?=some o->h[i]?=some o:=λi o hi=>by
  have h2:=(Ta.1 hi).1
  rw[←e,List.getElem?_take_of_lt (by omega)] at hi
  exact hi
 exact⟨hn,hl,λi sz es hi=>⟨hg _ _ hi,ho _ (Tn hi)⟩,λi es hi=>⟨hg _ _ hi,ho _ (Tn hi)⟩,λi s p hi=>hg _ _ hi⟩
theorem Bj:∀(r:List AO) (s:Nat),((iJ (List.range' s r.length++[0]) (r++[.dead])).Nodup/\∀i∈iJ (List.range' s r.length++[0]) (r++[.dead]),s<=i)
 |[],s=>by simp[iJ]
 |o::r,s=>by
  obtain⟨h1,h2⟩:=Bj r (s+1)
  rw[Tu,List.range'_succ]
  cases o with
  |dead=>exact⟨h1,λi hi=>Nat.le_of_succ_le (h2 i hi)⟩
  |_=>exact⟨TC.2 ⟨λhm=>absurd (h2 _ hm) (by omega),h1⟩,λi hi=>by
   rcases Tf.1 hi with rfl|hi
   ·exact Tk _
   ·exact Nat.le_of_succ_le (h2 i hi)⟩
theorem Cy{h:List AO}(hp:0<h.length)(ho:∀o∈h,okO h.length o):∀(r:List AO) (s:Nat),(∀i:Nat,r[i]?=h[s+i]?)->s+r.length=h.length->HW (List.range' 0 h.length++[0]) h (List.range' s r.length++[0]) (r++[.dead])
 |[],s,_,_=>ew hp cI
 |o::r,s,hr,hs=>by
  have hσ:∀i,i<h.length->(List.range' 0 h.length++[0]).getD i 0=i:=λi hi=>by
   rw[Ts,Tb (by simp;exact hi)];simp[hi]
  rw[Tu,List.range'_succ]
  have h0:=hr 0
  have ih:=Cy hp ho r (s+1) (λi=>by have:=hr (i+1);rw[List.getElem?_cons_succ] at this;rw[this];congr 1;omega) (by simp at hs;omega)
  have hm:h[s]?=some o:=by simpa using h0.symm
  have hok:=ho o (Tn hm)
  cases o with
  |dead=>exact ew (Ta.1 hm).1 ih
  |row sz es=>
   refine vh (λx hx=>aM (by simp) _ (hok x hx)) ?_ ih
   rw[hm,TI (g:=id) λx hx=>oq hσ x (hok x hx)];simp
  |mp es=>exact⟨(Ta.1 hm).1,⟨λx hx=>by exact(aM (by simp) [x.2] ⟨hok x hx,trivial⟩).1,by rw[hm,TI (g:=id) λx hx=>by rw[jz hσ x.2 (hok x hx)];rfl];simp⟩,ih⟩
  |sit s p=>exact⟨(Ta.1 hm).1,hm,ih⟩
theorem CE{m:Nat}{l:List (Nat × AV)}:∀r:List (Nat × AV),FgA m l r->TWA (List.range' 0 m++[0]) l r
 |[],_=>trivial
 |x::r,⟨⟨a,c⟩,d⟩=>by
  have hσ:∀i,i<m->(List.range' 0 m++[0]).getD i 0=i:=λi hi=>by
   rw[Ts,Tb (by simp;exact hi)];simp[hi]
  exact⟨⟨(aM (by simp) [x.2] ⟨a,trivial⟩).1,by rw[jz hσ _ a,c]⟩,CE r d⟩
theorem yR{k n:Nat}{l l1:List (Nat × AV)}{h:List AO}(hk:k<=h.length)(hp:0<h.length)(ho:∀o∈h,okO h.length o)(H:FgA h.length l l1):Wk k (ay n l) h (ay n l1) (h++[.dead]):=by
 have hσ:∀i,i<h.length->(List.range' 0 h.length++[0]).getD i 0=i:=λi hi=>by
  rw[Ts,Tb (by simp;exact hi)];simp[hi]
 refine Cl (List.range' 0 h.length++[0]) (by simp;omega) (λi hi=>hσ i (by omega)) ?_ ?_ (CE _ H)
 ·exact(Bj h 0).1
 ·exact Cy hp ho h 0 (λi=>by simp) (by simp)
theorem gV{n:Nat}{o:AO}(h:okO 0 o):okO n o:=by
 cases o with
 |dead=>trivial
 |sit=>trivial
 |row sz es=>exact λe he=>aM (TM _) _ (h e he)
 |mp es=>exact λe he=>(aM (TM n) [e.2] ⟨h e he,trivial⟩).1
def exR(l:List Ex):List (List AV):=l.map λe=>e.cs.map .p
theorem sQ(l:List Ex):∀x∈exR l,az 0 x:=by
 intro x hx;obtain⟨m,_,rfl⟩:=TE.1 hx;simp
def smR(l:List Sm):List (List AV):=l.map λs=>s.cs.map .p
theorem jK(l:List Sm):∀x∈smR l,az 0 x:=by
 intro x hx;obtain⟨m,_,rfl⟩:=TE.1 hx;simp
theorem Nt(l:List Sm):(smR l).length=l.length:=by simp[smR]
theorem MO(a b:List Sm):smR (a++b)=smR a++smR b:=by simp[smR]
theorem Kp{h:List AO}{id:Nat}{l:List Sm}(e:h[id]?=some (.row 5 (smR l))):View h (.sl id 5 0 l.length) (smL l):=by
 have:=fh (h:=h) (id:=id) (sz:=5) (n:=l.length) (ls:=l.map Sm.cs) (by rw[e,smR];simp) (by simp) (λx hx=>by obtain⟨b,_,rfl⟩:=TE.1 hx;exact b.cs_len)
 exact this
theorem jA{n:Nat}:∀o∈([]:List AO),okO n o:=λo h=>by cases h
theorem aE{n:Nat}{a:AO}{l:List AO}(h:okO n a)(r:∀o∈l,okO n o):∀o∈a::l,okO n o:=λo ho=>by
 rcases Tf.1 ho with rfl|ho
 ·exact h
 ·exact r o ho
end
section
variable (G:aH)
theorem bU(n lo hi:Int):VF Tryz.prog G cP [.p (.int .i64 n),.p (.int .i64 lo),.p (.int .i64 hi)] (.p (.bool (inR n lo hi))):=by
 refine AC.go Aj ?_
 by_cases h:lo<=n
 ·simp-implicitDefEqProofs[lF,h,inR]
 ·simp-implicitDefEqProofs[lF,h,inR]
theorem CC(n:Int):VF Tryz.prog G iy [.p (.int .i64 n)] (.p (.bool (inR n 0 255))):=by
 refine AC.go AA ?_
 simp-implicitDefEqProofs[pK]
 refine(bU G _ _ _).use ?_
 simp-implicitDefEqProofs[]
theorem EQ(n:Int):VF Tryz.prog G cJ [.p (.int .i32 n)] (.p (.bool (decide (n<97)||decide (122<n)))):=by
 refine AC.go uW ?_
 simp-implicitDefEqProofs[no]
 by_cases h:n<97
 ·simp-implicitDefEqProofs[h]
 ·simp-implicitDefEqProofs[h]
theorem Nc{s:List UInt8}{i:Nat}(h:i<s.length)(hl:dm s[i]=true):Utf8.decode ⟨⟨s⟩⟩ i=(s[i].toNat,1):=by
 simp only[dm,Tm,decide_eq_true_eq] at hl
 exact decode_ascii ⟨⟨s⟩⟩ i h (by show(s[i]).toNat<128;omega)
theorem Ig{s:List UInt8}{i:Nat}(h:i<s.length)(hl:¬dm s[i]=true):(((Utf8.decode ⟨⟨s⟩⟩ i).1:Int)<97\/122<((Utf8.decode ⟨⟨s⟩⟩ i).1:Int)):=by
 rcases TQ s[i].toNat 128 with h1|h1
 ·rw[show Utf8.decode ⟨⟨s⟩⟩ i=(s[i].toNat,1) from decode_ascii ⟨⟨s⟩⟩ i h h1]
  simp[dm] at hl
  simp only
  omega
 ·have:=(decode_high ⟨⟨s⟩⟩ i h h1).1
  omega
theorem Df(s:List UInt8)(hb:s.length<=140737488355328):VF Tryz.prog G eI [.p (.str s),.fn (.func cJ) [],.p (.bool true)] (.p (.int .i64 (Cs s))):=by
 refine AC.go pF ?_
 simp-implicitDefEqProofs[jl]
 refine aG (λi:Nat=>ay 21 [(0,.p (.str s)),(1,.fn (.func cJ) []),(2,.p (.bool true)),(10,.it 0)]) (λi=>[.sit s i]) (λi=>i<=s.length/\∀x∈s.take i,dm x=true) (λi=>s.length-i) 0 (by simp) ?_ ?_
 ·exact am (by simp) (by simp[okO]) (by simp[below,az])
 ·intro i ⟨hi,hn⟩
  simp-implicitDefEqProofs[]
  by_cases h1:i<s.length
  ·have hg:=Tc h1
   simp-implicitDefEqProofs[h1]
   refine(EQ G _).use ?_
   by_cases hl:dm s[i]=true
   ·have hd:=Nc h1 hl
    have hl':=hl
    simp only[dm,Tm,decide_eq_true_eq] at hl'
    have e1:¬((s[i].toNat:Int)<97):=by omega
    have e2:¬(122<(s[i].toNat:Int)):=by omega
    rw[hd]
    simp-implicitDefEqProofs[e1,e2]
    refine⟨i+1,⟨h1,λp hp=>?_⟩,by omega,am (by simp) (by simp[okO]) (by simp[below,az])⟩
    rw[an h1] at hp
    rcases Th.1 hp with hp|hp
    ·exact hn p hp
    ·rw[Ti.1 hp];exact hl
   ·have hd:=Ig h1 hl
    have hf:Cs s=i:=by
     have:s.findIdx? (λx=> !dm x)=some i:=by
      rw[Tv]
      exact⟨h1,by simpa using hl,λj hj=>by have:=hn s[j] (TV.2 ⟨j,by omega,rfl⟩);simpa using this⟩
     rw[Cs,this]
    have hdb:(decide (((Utf8.decode ⟨⟨s⟩⟩ i).1:Int)<97)||decide (122<((Utf8.decode ⟨⟨s⟩⟩ i).1:Int)))=true:=by
     rcases hd with h|h<;>simp[h]
    rw[hdb]
    simp-implicitDefEqProofs[hf]
  ·have hn':=hn
   rw[Tl (by omega)] at hn'
   have hf:Cs s= -1:=by
    have:s.findIdx? (λx=> !dm x)=none:=by
     rw[TF];intro x hx;simpa using hn' x hx
    rw[Cs,this]
   simp-implicitDefEqProofs[h1,hf]
theorem Et(s:List UInt8)(hb:s.length<=140737488355328):VF Tryz.prog G eZ [.p (.str s),.fn (.func cJ) []] (.p (.int .i64 (Cs s))):=by
 refine AC.go pw ?_
 simp-implicitDefEqProofs[jt]
 refine(Df G s hb).use ?_
 simp-implicitDefEqProofs[]
theorem Hh(L:List (List UInt8))(s:List UInt8)(hb:L.length<=1048576):VF Tryz.prog G cz [.p (aR L),.p (.str s)] (.p (.int .i64 (idxS L s))):=by
 refine AC.go nr ?_
 have hsl:aR L= .lst 1 (L.map λw=>[.str w]):=rfl
 simp-implicitDefEqProofs[gw,hsl]
 refine aG (λi:Nat=>ay 19 [(0,.p (aR L)),(1,.p (.str s)),(6,.p (aR L)),(7,.p (.int .i64 L.length)),(8,.p (.int .i64 i))]) (λ_=>[]) (λi=>i<=L.length/\∀w∈L.take i,w≠s) (λi=>L.length-i) 0 (by simp) ?_ ?_
 ·exact aQ rfl (by simp[below,aR])
 ·intro i ⟨hi,hn⟩
  simp-implicitDefEqProofs[hsl]
  refine aJ (λh1=>?_) (λh1=>?_)
  ·simp at h1
   have hg:=Tc h1
   by_cases he:L[i]=s
   ·have hf:idxS L s=i:=by
     have:L.findIdx? (λw=>w==s)=some i:=by
      rw[Tv]
      exact⟨h1,by simpa using he,λj hj=>by have:=hn L[j] (TV.2 ⟨j,by omega,rfl⟩);simpa using this⟩
     rw[idxS,this]
    have he':s=L[i]:=he.symm
    simp-implicitDefEqProofs[hg,hf,←he']
   ·have he':¬s=L[i]:=λe=>he e.symm
    simp-implicitDefEqProofs[hg,he']
    refine⟨i+1,⟨h1,λp hp=>?_⟩,by omega,aQ rfl ?_⟩
    ·rw[an h1] at hp
     rcases Th.1 hp with hp|hp
     ·exact hn p hp
     ·rw[Ti.1 hp];exact he
    ·simp[below,aR,w1 (i:=i) (by omega)]
  ·simp at h1
   rw[Tl h1] at hn
   have hf:idxS L s= -1:=by
    have:L.findIdx? (λw=>w==s)=none:=by
     rw[TF];intro x hx;simpa using hn x hx
    rw[idxS,this]
   simp-implicitDefEqProofs[hf]
theorem FT(L:List (List UInt8))(s:List UInt8)(hb:L.length<=1048576):VF Tryz.prog G cS [.p (aR L),.p (.str s)] (.p (.bool (L.contains s))):=by
 rw[←Kt]
 refine AC.go lB ?_
 simp-implicitDefEqProofs[fj]
 refine(Hh G L s hb).use ?_
 simp-implicitDefEqProofs[]
abbrev ja:Nat:=0
def gO:List PV:=keyW.map .str
variable (hK:G ja=some gO)
include hK
theorem nV(s:List UInt8)(hb:s.length<=140737488355328):VF Tryz.prog G ca [.p (.str s)] (.p (.bool (aI s))):=by
 refine AC.go Au ?_
 unfold ja at hK
 simp-implicitDefEqProofs[pH]
 refine(bU G _ _ _).use ?_
 have hr:inR (s.length:Int) 1 4=(decide (0<s.length)&&decide (s.length<=4)):=by
  unfold inR
  by_cases h1:0<s.length<;>by_cases h2:s.length<=4<;>simp[h1,h2]<;>omega
 rw[hr]
 have hi:aI s=((decide (0<s.length)&&decide (s.length<=4))&&(s.all dm&& !keyW.contains s)):=by
  rw[aI];cases s.all dm<;>cases decide (0<s.length)<;>cases decide (s.length<=4)<;>rfl
 cases h1:(decide (0<s.length)&&decide (s.length<=4)) with
 |false=>
  rw[hi,h1]
  simp-implicitDefEqProofs[]
 |true=>
  rw[hi,h1]
  simp-implicitDefEqProofs[]
  refine(Et G s hb).use ?_
  rw[←Li]
  by_cases hn:Cs s<0
  ·simp-implicitDefEqProofs[hn,hK,gO,keyW]
   refine(FT G keyW s (by decide)).use ?_
   simp-implicitDefEqProofs[keyW]
  ·simp-implicitDefEqProofs[hn]
end
section
theorem uM:AK.whole je=FK.ak jg:=rfl
abbrev dV:Nat:=1
def opK:List PV:=[.int .i64 3,.int .i64 4,.int .i64 5,.int .i64 6,.int .i64 7,.int .i64 8,.int .i64 9,.int .i64 10]
def opV:List (List PV):=[[.str [43],.int .i64 3],[.str [45],.int .i64 3],[.str [42],.int .i64 4],[.str [47],.int .i64 4],[.str [37],.int .i64 4],[.str [60],.int .i64 2],[.str [61],.int .i64 2],[.str [38],.int .i64 1]]
def lvl(op:Int):Int:=if op=10 then 1 else if op=8 then 2 else if op=9 then 2 else if op=3 then 3 else if op=4 then 3 else 4
def sgB(op:Int):UInt8:=if op=3 then 43 else if op=4 then 45 else if op=5 then 42 else if op=6 then 47 else if op=7 then 37 else if op=8 then 60 else if op=9 then 61 else 38
def sgn(op:Int):Option AV:=if 3<=op/\op<=10 then some (.agg [.p (.str [sgB op]),.p (.int .i64 (lvl op))]) else none
theorem GD(op:Int):(opK.all λk'=>(keq (.int .i64 op) k').isSome)=true:=by simp[opK,keq]
theorem Gc(op:Int):gm (.int .i64 op) (HL opK opV)=some (sgn op):=by
 by_cases h:3<=op/\op<=10
 ·have h8:op=3\/op=4\/op=5\/op=6\/op=7\/op=8\/op=9\/op=10:=by omega
  rcases h8 with rfl|rfl|rfl|rfl|rfl|rfl|rfl|rfl<;>rfl
 ·have e:sgn op=none:=if_neg h
  have h3:¬op=3:=by omega
  have h4:¬op=4:=by omega
  have h5:¬op=5:=by omega
  have h6:¬op=6:=by omega
  have h7:¬op=7:=by omega
  have h8:¬op=8:=by omega
  have h9:¬op=9:=by omega
  have h10:¬op=10:=by omega
  rw[e]
  simp[opK,opV,HL,gm,keq,h3,h4,h5,h6,h7,h8,h9,h10]
theorem Hi(op:Int):0<lvl op:=by
 unfold lvl
 repeat' split
 all_goals omega
theorem Pj(op:Int):lvl op<6:=by
 unfold lvl
 repeat' split
 all_goals omega
def lvI(op:Int):Int:=if 3<=op/\op<=10 then lvl op else if op=11\/op=12 then 5 else 6
mutual
def Ex.deep:Ex->Nat
 | .mk _ _ _ k=>1+mu k
def mu:List Ex->Nat
 |[]=>0
 |e::r=>max e.deep (mu r)
end
theorem Ex.deep_eq(e:Ex):e.deep=1+mu e.kids:=by cases e;rfl
theorem CP:∀a b:List Ex,mu (a++b)=max (mu a) (mu b)
 |[],b=>by simp[mu]
 |e::r,b=>by rw[TN,mu,mu,CP r b];omega
mutual
theorem Ex.deep_le:∀e:Ex,e.deep<=e.sz
 | .mk _ _ s k=>by have:=Ck k;simp only[Ex.deep,Ex.sz];omega
theorem Ck:∀l:List Ex,mu l<=aL l
 |[]=>Tk _
 |e::r=>by have:=e.deep_le;have:=Ck r;simp only[mu,aL];omega
end
theorem oN{α:Type}{p:α->Bool}{xs:List α}{i:Nat}{c:α}(h:xs[i]?=some c):(xs.take (i+1)).all p=((xs.take i).all p&&p c):=by
 rw[List.take_add_one,h,List.all_append];simp
def okE(m:Nat)(e:Ex):Bool:=bH m e&&decide (e.parts<=30)
def uU:Nat->Ex->Bool
 |0,_=>false
 |m+1,e=>jY e&&e.kids.all (okE m)
theorem DN:∀{l:List Ex} {e:Ex},e∈l->e.parts<=fC l
 |x::r,e,h=>by
  simp only[fC]
  rcases Tf.1 h with rfl|h
  ·omega
  ·have:=DN h;omega
theorem Gp(m:Nat)(e:Ex):(uU m e&&decide (e.parts<=30))=okE m e:=by
 cases m with
 |zero=>simp[uU,okE,bH]
 |succ m=>
  by_cases hp:e.parts<=30
  ·have h2:e.kids.all (okE m)=e.kids.all (bH m):=by
    rw[Bool.eq_iff_iff,Tj,Tj]
    refine⟨λh x hx=>?_,λh x hx=>?_⟩
    ·have:=h x hx;simp only[okE,Tm] at this;exact this.1
    ·have h1:=h x hx
     have:=DN hx
     have:=e.parts_eq
     simp only[okE,h1,Bool.true_and]
     simp;omega
   simp[uU,okE,bH,h2]
  ·simp[okE,hp]
theorem MU(e:Ex):okE 6 e=kM e:=rfl
def szA(m:Nat)(e:Ex):AV:=if uU m e then .tup [.p (.int .i64 e.parts),.p (.int .i64 e.deep),.p (.bool (decide (e.parts<=30)))] else .tup [.p (.int .i64 0),.p (.int .i64 0),.p (.bool false)]
def bW(e:Ex):Bool:=inR e.op 1 13&&(if e.op=1 then inR e.n 0 255&&decide (e.name=[]) else if e.op=2\/e.op=13 then aI e.name&&decide (e.n=0) else true)
def gA(e:Ex):Bool:=(decide (e.op=1\/e.op=2\/e.op=13)||(decide (e.n=0)&&decide (e.name=[])))&&inR e.kids.length (loK e.op) (hiK e.op)
theorem ry:aI []=false:=rfl
theorem Em(e:Ex):jY e=(bW e&&gA e):=by
 unfold jY bW gA Dr
 by_cases h1:e.op=1
 ·simp only[h1]
  cases inR (e.kids.length:Int) (loK 1:Nat) (hiK 1:Nat)<;>by_cases hn:e.name=[]<;>cases h2:inR e.n 0 255<;>simp[hn,ry,inR]
 by_cases h2:e.op=2
 ·simp only[h2]
  cases inR (e.kids.length:Int) (loK 2:Nat) (hiK 2:Nat)<;>cases hi:aI e.name<;>by_cases hn:e.n=0<;>simp[hn,inR]
 by_cases h3:e.op=13
 ·simp only[h3]
  cases inR (e.kids.length:Int) (loK 13:Nat) (hiK 13:Nat)<;>cases hi:aI e.name<;>by_cases hn:e.n=0<;>simp[hn,inR]
 ·cases inR e.op 1 13<;>cases inR (e.kids.length:Int) (loK e.op:Nat) (hiK e.op:Nat)<;>by_cases hn:e.n=0<;>by_cases hm:e.name=[]<;>simp[h1,h2,h3,hn,hm,ry,inR]
variable (G:aH) (hK:G ja=some gO) (hS:G dV=some [.tbl opK opV])
include hS
theorem IH(op:Int):VF Tryz.prog G kH [.p (.int .i64 op)] (.p (.int .i64 (lvI op))):=by
 refine AC.go zu ?_
 have hall:=GD op
 have hget:=Gc op
 have hS':=hS
 unfold dV at hS'
 have hlp:=Hi op
 by_cases h:3<=op/\op<=10
 ·have e:sgn op=some (.agg [.p (.str [sgB op]),.p (.int .i64 (lvl op))]):=if_pos h
  have e2:lvI op=lvl op:=if_pos h
  rw[e2]
  generalize lvl op=L at*
  simp-implicitDefEqProofs[dQ,hS',hall,hget,e,hlp]
 ·have e:sgn op=none:=if_neg h
  by_cases h11:op=11
  ·subst h11;simp-implicitDefEqProofs[dQ,hS',hall,hget,e,lvI]
  by_cases h12:op=12
  ·subst h12;simp-implicitDefEqProofs[dQ,hS',hall,hget,e,lvI]
  have e2:lvI op=6:=by rw[lvI,if_neg h,if_neg (by simp[h11,h12])]
  simp-implicitDefEqProofs[dQ,hS',hall,hget,e,e2,h11,h12]
include hK
theorem FR:∀(m:Nat) (e:Ex),e.sz<=1073741824->m<=100->VF Tryz.prog G fv [.agg (e.cs.map .p),.p (.int .i64 m)] (szA m e):=by
 intro m
 induction m using Nat.strongRecOn with
 |_ m ih=>
 intro e he hm
 have hec:=e.cs_eq
 have hsz:=e.sz_eq
 have hkl:=bk e.kids
 have hS':=hS
 unfold dV at hS'
 have hall:=GD e.op
 have hget:=Gc e.op
 have hxl:exL e.kids= .lst 4 (e.kids.map Ex.cs):=rfl
 have hbad:(bW e&&gA e&&decide (1<=m))=false->szA m e= .tup [.p (.int .i64 0),.p (.int .i64 0),.p (.bool false)]:=by
  intro h
  have:uU m e=false:=by
   cases m with
   |zero=>rfl
   |succ m=>rw[uU,Em];simp at h;cases h1:bW e<;>cases h2:gA e<;>simp[h1,h2] at h⊢
  rw[szA,this];rfl
 have hb1:bW e=false->szA m e= .tup [.p (.int .i64 0),.p (.int .i64 0),.p (.bool false)]:=λh=>hbad (by rw[h];rfl)
 refine AC.goK uJ uM ?_
 simp-implicitDefEqProofs[je,jg,hec]
 refine me (λ_:Unit=>ay 127 [(1,.p (.int .i64 m)),(2,.ptr 0 4 0 0),(7,.p (.int .i64 (loK e.op))),(8,.p (.int .i64 (hiK e.op)))]) (λ_=>[.row 4 [[.p (.int .i64 e.op),.p (.int .i64 e.n),.p (.str e.name),.p (exL e.kids)]]]) (λ_=>bW e=true) ?_ ?_
 ·have fin:∀(r1:List (Nat × AV)),Aw.look r1 1= .p (.int .i64 m)->Aw.look r1 2= .ptr 0 4 0 0->Aw.look r1 7= .p (.int .i64 (loK e.op))->Aw.look r1 8= .p (.int .i64 (hiK e.op))->
   Wk 0 (ay 127 r1) [.row 4 [[.p (.int .i64 e.op),.p (.int .i64 e.n),.p (.str e.name),.p (exL e.kids)]]] (ay 127 [(1,.p (.int .i64 m)),(2,.ptr 0 4 0 0),(7,.p (.int .i64 (loK e.op))),(8,.p (.int .i64 (hiK e.op)))]) [.row 4 [[.p (.int .i64 e.op),.p (.int .i64 e.n),.p (.str e.name),.p (exL e.kids)]]]:=λr1 a b c d=>
   am (by simp) (by simp[okO,below]) (by simp[below,a,b,c,d])
  have hop1:inR (1:Int) 1 13=true:=rfl
  have hop2:inR (2:Int) 1 13=true:=rfl
  have hop13:inR (13:Int) 1 13=true:=rfl
  by_cases o1:e.op=1
  ·rw[o1] at fin⊢
   simp-implicitDefEqProofs[o1]
   refine(CC G _).use ?_
   by_cases h1:inR e.n 0 255=true
   ·by_cases h2:e.name=[]
    ·have hp:bW e=true:=by simp[bW,o1,h1,h2,hop1]
     rw[h2] at fin
     simp-implicitDefEqProofs[h1,h2,hp]
     exact fin _ (by simp) (by simp) (by simp[loK]) (by simp[hiK])
    ·have hp:bW e=false:=by simp[bW,o1,h1,h2,hop1]
     rw[hb1 hp]
     simp-implicitDefEqProofs[h1,h2]
   ·have hp:bW e=false:=by simp[bW,o1,h1,hop1]
    rw[hb1 hp]
    simp-implicitDefEqProofs[h1]
  by_cases o2:e.op=2
  ·rw[o2] at fin⊢
   simp-implicitDefEqProofs[o2]
   refine(nV G hK _ (by omega)).use ?_
   by_cases h1:aI e.name=true
   ·by_cases h2:e.n=0
    ·have hp:bW e=true:=by simp[bW,o2,h1,h2,hop2]
     rw[h2] at fin
     simp-implicitDefEqProofs[h1,h2,hp]
     exact fin _ (by simp) (by simp) (by simp[loK]) (by simp[hiK])
    ·have hp:bW e=false:=by simp[bW,o2,h1,h2,hop2]
     rw[hb1 hp]
     simp-implicitDefEqProofs[h1,h2]
   ·have hp:bW e=false:=by simp[bW,o2,h1,hop2]
    rw[hb1 hp]
    simp-implicitDefEqProofs[h1]
  by_cases o13:e.op=13
  ·rw[o13] at fin⊢
   simp-implicitDefEqProofs[o13]
   refine(nV G hK _ (by omega)).use ?_
   by_cases h1:aI e.name=true
   ·by_cases h2:e.n=0
    ·have hp:bW e=true:=by simp[bW,o13,h1,h2,hop13]
     rw[h2] at fin
     simp-implicitDefEqProofs[h1,h2,hp]
     exact fin _ (by simp) (by simp) (by simp[loK]) (by simp[hiK])
    ·have hp:bW e=false:=by simp[bW,o13,h1,h2,hop13]
     rw[hb1 hp]
     simp-implicitDefEqProofs[h1,h2]
   ·have hp:bW e=false:=by simp[bW,o13,h1,hop13]
    rw[hb1 hp]
    simp-implicitDefEqProofs[h1]
  have hlp:=Hi e.op
  by_cases h:3<=e.op/\e.op<=10
  ·have es:sgn e.op=some (.agg [.p (.str [sgB e.op]),.p (.int .i64 (lvl e.op))]):=if_pos h
   have hp:bW e=true:=by simp[bW,o1,o2,o13,inR];omega
   have o11:¬e.op=11:=by omega
   have o12:¬e.op=12:=by omega
   have elo:loK e.op=2:=by simp[loK,o1,o2,o11,o12,o13]
   have ehi:hiK e.op=2:=by simp[hiK,o1,o2,o11,o12,o13]
   generalize lvl e.op=L at*
   simp-implicitDefEqProofs[o1,o2,o13,hS',hall,hget,es,hlp,hp]
   exact fin _ (by simp) (by simp) (by simp[elo]) (by simp[ehi])
  have es:sgn e.op=none:=if_neg h
  by_cases o11:e.op=11
  ·have hp:bW e=true:=by simp[bW,o11,inR]
   have elo:loK e.op=1:=by simp[loK,o11]
   have ehi:hiK e.op=1:=by simp[hiK,o11]
   rw[o11] at hall hget es fin
   simp-implicitDefEqProofs[o11,hS',hall,hget,es,hp]
   exact fin _ (by simp) (by simp) (by simp[loK]) (by simp[hiK])
  by_cases o12:e.op=12
  ·have hp:bW e=true:=by simp[bW,o12,inR]
   rw[o12] at hall hget es fin
   simp-implicitDefEqProofs[o12,hS',hall,hget,es,hp]
   exact fin _ (by simp) (by simp) (by simp[loK]) (by simp[hiK])
  ·have hp:bW e=false:=by simp[bW,o1,o2,o13,inR];omega
   rw[hb1 hp]
   simp-implicitDefEqProofs[o1,o2,o13,hS',hall,hget,es,o11,o12]
 intro _ hp
 have hop:1<=e.op/\e.op<=13:=by
  simp only[bW,Tm,inR,decide_eq_true_eq] at hp
  exact hp.1
 have hb2:gA e=false->szA m e= .tup [.p (.int .i64 0),.p (.int .i64 0),.p (.bool false)]:=λh=>hbad (by rw[h];simp)
 have hb3:m<1->szA m e= .tup [.p (.int .i64 0),.p (.int .i64 0),.p (.bool false)]:=by
  intro h
  have hd:decide (1<=m)=false:=by simp;omega
  exact hbad (by rw[hd];simp)
 refine me (λ_:Unit=>ay 127 [(1,.p (.int .i64 m)),(2,.ptr 0 4 0 0)]) (λ_=>[.row 4 [[.p (.int .i64 e.op),.p (.int .i64 e.n),.p (.str e.name),.p (exL e.kids)]]]) (λ_=>gA e=true/\1<=m) ?_ ?_
 ·have fin:∀(r1:List (Nat × AV)),Aw.look r1 1= .p (.int .i64 m)->Aw.look r1 2= .ptr 0 4 0 0->
   Wk 0 (ay 127 r1) [.row 4 [[.p (.int .i64 e.op),.p (.int .i64 e.n),.p (.str e.name),.p (exL e.kids)]]] (ay 127 [(1,.p (.int .i64 m)),(2,.ptr 0 4 0 0)]) [.row 4 [[.p (.int .i64 e.op),.p (.int .i64 e.n),.p (.str e.name),.p (exL e.kids)]]]:=λr1 a b=>
   am (by simp) (by simp[okO,below]) (by simp[below,a,b])
  simp-implicitDefEqProofs[]
  refine(IH G hS e.op).use ?_
  by_cases ho:e.op=1\/e.op=2\/e.op=13
  ·have hlv:lvI e.op=6:=by
    rw[lvI,if_neg (by omega),if_neg (by omega)]
   have hd:decide (e.op=1\/e.op=2\/e.op=13)=true:=by simpa using ho
   simp-implicitDefEqProofs[hlv,hxl]
   refine(bU G _ _ _).use ?_
   by_cases hk:inR e.kids.length (loK e.op) (hiK e.op)=true
   ·have hr:gA e=true:=by rw[gA,hd,hk];rfl
    by_cases hm1:m<1
    ·have hm1':(m:Int)<1:=by omega
     rw[hb3 hm1]
     simp-implicitDefEqProofs[hk,hm1']
    ·have hm1':¬(m:Int)<1:=by omega
     have hm2:1<=m:=by omega
     simp-implicitDefEqProofs[hk,hm1',hr,hm2]
     exact fin _ (by simp) (by simp)
   ·have hk':inR e.kids.length (loK e.op) (hiK e.op)=false:=by simpa using hk
    have hr:gA e=false:=by rw[gA,hk',Bool.and_false]
    rw[hb2 hr]
    simp-implicitDefEqProofs[hk']
  ·have hlv:lvI e.op<6:=by
    have:=Pj e.op
    unfold lvI
    split
    ·exact this
    ·rw[if_pos (by omega)];omega
   have hd:decide (e.op=1\/e.op=2\/e.op=13)=false:=by simpa using ho
   generalize lvI e.op=L at hlv⊢
   by_cases h1:e.n=0
   ·by_cases h2:e.name=[]
    ·have hz:decide (e.n=0)=true/\decide (e.name=[])=true:=by simp[h1,h2]
     simp-implicitDefEqProofs[hlv,h1,h2,hxl]
     refine(bU G _ _ _).use ?_
     rw[h1,h2] at fin
     by_cases hk:inR e.kids.length (loK e.op) (hiK e.op)=true
     ·have hr:gA e=true:=by rw[gA,hd,hk,hz.1,hz.2];rfl
      by_cases hm1:m<1
      ·have hm1':(m:Int)<1:=by omega
       rw[hb3 hm1]
       simp-implicitDefEqProofs[hk,hm1']
      ·have hm1':¬(m:Int)<1:=by omega
       have hm2:1<=m:=by omega
       simp-implicitDefEqProofs[hk,hm1',hr,hm2]
       exact fin _ (by simp) (by simp)
     ·have hk':inR e.kids.length (loK e.op) (hiK e.op)=false:=by simpa using hk
      have hr:gA e=false:=by rw[gA,hk',Bool.and_false]
      rw[hb2 hr]
      simp-implicitDefEqProofs[hk']
    ·have hr:gA e=false:=by rw[gA,hd];simp[h2]
     rw[hb2 hr]
     simp-implicitDefEqProofs[hlv,h1,h2]
   ·have hr:gA e=false:=by rw[gA,hd];simp[h1]
    rw[hb2 hr]
    simp-implicitDefEqProofs[hlv,h1]
 rintro _ ⟨hr,hm1⟩
 have hhd:jY e=true:=by rw[Em,hp,hr];rfl
 obtain⟨m',rfl⟩:∃m',m=m'+1:=⟨m-1,by omega⟩
 have hszO:uU (m'+1) e=e.kids.all (okE m'):=by rw[uU,hhd];rfl
 have hpe:=e.parts_eq
 have hde:=e.deep_eq
 have hpl:=e.parts_le
 have hwm:IntKind.i64.wrap (((m'+1:Nat):Int)-1)=(m':Int):=by rw[ag (by omega) (by omega)];omega
 simp-implicitDefEqProofs[hxl]
 refine aG (λi:Nat=>ay 127 [(1,.p (.int .i64 ((m':Int)+1))),(2,.ptr 0 4 0 0),(9,.p (.int .i64 ((1+fC (e.kids.take i):Nat):Int))),(10,.p (.int .i64 ((1+mu (e.kids.take i):Nat):Int))),(99,.p (exL e.kids)),(100,.p (.int .i64 e.kids.length)),(101,.p (.int .i64 i))])
  (λ_=>[.row 4 [[.p (.int .i64 e.op),.p (.int .i64 e.n),.p (.str e.name),.p (exL e.kids)]]]) (λi=>i<=e.kids.length/\(e.kids.take i).all (okE m')=true) (λi=>e.kids.length-i) 0 (by simp) ?_ ?_
 ·exact am (by simp) (by simp[okO,below]) (by simp[below,hxl,fC,mu])
 rintro i ⟨hi,ha⟩
 have hwm':IntKind.i64.wrap (m':Int)=(m':Int):=ag (by omega) (by omega)
 simp-implicitDefEqProofs[hxl]
 refine aJ (λh=>?_) (λh=>?_)
 ·simp at h
  have hg:=Tc h
  have hks:=bv (Tp h)
  have hkc:=e.kids[i].cs_eq
  have hpt:fC (e.kids.take (i+1))=fC (e.kids.take i)+e.kids[i].parts:=by rw[an h,iK];simp[fC]
  have hdt:mu (e.kids.take (i+1))=max (mu (e.kids.take i)) e.kids[i].deep:=by rw[an h,CP];simp[mu]
  have hpl1:fC (e.kids.take (i+1))<=e.parts:=by
   have:=iK (e.kids.take (i+1)) (e.kids.drop (i+1))
   rw[TL] at this
   omega
  have hok:=Gp m' e.kids[i]
  have hdl:e.kids[i].deep<=e.kids[i].sz:=Ex.deep_le _
  have hdl2:mu (e.kids.take i)<=e.sz:=by
   have h1:=Ck (e.kids.take i)
   have h2:=dp (e.kids.take i) (e.kids.drop i)
   rw[TL] at h2
   omega
  generalize e.kids[i]=c at*
  simp-implicitDefEqProofs[hg,hkc,hwm']
  have hI:=ih m' (by omega) c (by omega) (by omega)
  rw[hkc] at hI
  by_cases ho:okE m' c=true
  ·have h1:uU m' c=true/\c.parts<=30:=by rw[ho] at hok;simpa using hok
   have hA:szA m' c= .tup [.p (.int .i64 c.parts),.p (.int .i64 c.deep),.p (.bool true)]:=by rw[szA,if_pos h1.1];simp[h1.2]
   rw[hA] at hI
   refine hI.use ?_
   have hw1:IntKind.i64.wrap (1+(fC (e.kids.take i):Int)+(c.parts:Int))=((1+fC (e.kids.take (i+1)):Nat):Int):=by rw[ag (by omega) (by omega)];omega
   have hw2:IntKind.i64.wrap ((c.deep:Int)+1)=(c.deep:Int)+1:=ag (by omega) (by omega)
   have hmx:(if 1+(mu (e.kids.take i):Int)<(c.deep:Int)+1 then(c.deep:Int)+1 else 1+(mu (e.kids.take i):Int))=1+(mu (e.kids.take (i+1)):Int):=by
    rw[hdt];split<;>omega
   simp-implicitDefEqProofs[hw1,hw2,hmx]
   refine⟨i+1,⟨h,by rw[←Tj,oN hg,ha,ho];rfl⟩,by omega,?_⟩
   refine eg (m:=1) (by omega) (cw rfl rfl (by simp[okO,below])) (by simp[below,hxl,w1 (i:=i) (by omega)])
  ·have hf:e.kids.all (okE m')=false:=List.all_eq_false.2 ⟨c,Tn hg,by simpa using ho⟩
   have hA2:szA (m'+1) e= .tup [.p (.int .i64 0),.p (.int .i64 0),.p (.bool false)]:=by rw[szA,hszO,hf];rfl
   rw[hA2]
   by_cases h1:uU m' c=true
   ·have h2:¬c.parts<=30:=λh2=>ho (by rw[←hok,h1];simpa using h2)
    have hA:szA m' c= .tup [.p (.int .i64 c.parts),.p (.int .i64 c.deep),.p (.bool false)]:=by rw[szA,if_pos h1];simp[h2]
    rw[hA] at hI
    refine hI.use ?_
    simp-implicitDefEqProofs[]
   ·have hA:szA m' c= .tup [.p (.int .i64 0),.p (.int .i64 0),.p (.bool false)]:=by rw[szA,if_neg h1]
    rw[hA] at hI
    refine hI.use ?_
    simp-implicitDefEqProofs[]
 ·simp at h
  rw[Tl h] at ha⊢
  have hA:szA (m'+1) e= .tup [.p (.int .i64 e.parts),.p (.int .i64 e.deep),.p (.bool (decide (e.parts<=30)))]:=by rw[szA,hszO,ha];rfl
  rw[hA,hpe,hde]
  simp-implicitDefEqProofs[]
  omega
theorem CL(e:Ex)(he:e.sz<=1073741824):VF Tryz.prog G eu [.agg (e.cs.map .p)] (.p (.bool (kM e))):=by
 refine AC.go tC ?_
 have hec:=e.cs_eq
 have hx:=FR G hK hS 6 e he (by omega)
 rw[hec] at hx
 simp-implicitDefEqProofs[lV,hec]
 rw[←MU,←Gp]
 unfold szA at hx
 by_cases h:uU 6 e=true
 ·rw[if_pos h] at hx
  rw[h]
  refine hx.use ?_
  simp-implicitDefEqProofs[]
 ·have h':uU 6 e=false:=by simpa using h
  rw[if_neg h] at hx
  rw[h']
  refine hx.use ?_
  simp-implicitDefEqProofs[]
end
section
def pN:AK:=qL [xI 2 5,wz] [wR 12 2,qq 13 12,wT 14 ft 13,qe 11 14,xc 15 0 11,xc 16 1 11,xc 17 2 11,xc 18 3 11,qe 5 15,qe 6 16,qe 7 17,qe 8 18] (.cut (.blk 0 (qx (xS (wI 20) (qy 21 .gtr 20 4) 19 21) (wZ 19 .skip [xn 22 2,qq 23 22,qX 24 23,wU 25,q6 26 .neq 24 25,qe 19 26] (qo 19 .skip (.cut (.reg [yj 27,qe 28 27,wL 29 28 1 2,wH 30 28 29,qF 31 28 (.call ca (wS 30)),qF 32 28 (qT 31),x4 33 28 32,qe 19 33]) (qo 19 .skip (.cut (.reg [yj 34,wE 35 34,qe 36 35,wL 37 36 1 2,wH 38 36 37,qF 39 36 (xD .neq 38 (.c wB)),x4 40 36 39,qe 19 40]) (qo 19 .skip (.cut (.reg [qe 41 7,wE 42 41,qe 43 42,wL 44 43 3 2,wH 45 43 44,qF 46 43 (qP 45),xk 47 43 .gtr 46 wx,x4 48 43 47,qe 19 48]) (qo 19 .skip (.cut (.reg [ya 49,wE 50 49,qe 51 50,wL 52 51 4 2,wH 53 51 52,qF 54 51 (qP 53),xk 55 51 .gtr 54 wx,x4 56 51 55,qe 19 56]) (qo 19 .skip (.reg [wR 57 2,qq 58 57,wt 59 58 8,qe 60 59,wL 61 60 2 2,wH 62 60 61,qF 63 60 (qG 4 62 wx),wL 64 60 0 63,wH 65 60 64,xk 66 60 .neq 65 (qj 13),x4 67 60 66,qe 19 67]))))))))))) (qU 19 xH))) (wV [xn 68 2,qq 69 68,qX 70 69,wy 71] 1 (yh [ww 72 71 70] 72 1 2 (qL [wd 73 4 69 71,qK 74 4 73,wg 10 [qR,qR,wB,.nils],q8 4 10 74] [qK 75 4 10,wT 76 eu 75,wE 77 76] (qU 77 xH)) (xZ 78 71 71 78)) [yb 79 2,qq 80 79,wI 81,xi 82 81,wQ 83 cg 80 82,qe 84 83,wL 85 84 4 2,wH 86 84 85,yi 87 84 1,xk 88 84 .add 87 w9,qF 89 84 (.call cg (wN 86 (.t 88))),x4 90 84 89,qe 4 90]))
theorem AH:AK.whole pN=FK.ak ir:=rfl
variable (G:aH)
def py(op:Int):Int:=if op=4 then 2 else if inR op 1 8 then 1 else-1
def jc(op:Int):Bool:=decide (op=5)||decide (op=6)
theorem yJ(op:Int):VF Tryz.prog G ft [.p (.int .i64 op)] (.tup [.p (.int .i64 (py op)),.p (.bool (ck op)),.p (.bool (jc op)),.p (.bool (decide (op=5)))]):=by
 refine AC.go uO ?_
 by_cases h1:op=1
 ·subst h1;simp-implicitDefEqProofs[bc,py,inR,ck,jc]
 by_cases h2:op=2
 ·subst h2;simp-implicitDefEqProofs[bc,py,inR,ck,jc]
 by_cases h3:op=3
 ·subst h3;simp-implicitDefEqProofs[bc,py,inR,ck,jc]
 by_cases h4:op=4
 ·subst h4;simp-implicitDefEqProofs[bc,py,inR,ck,jc]
 by_cases h5:op=5
 ·subst h5;simp-implicitDefEqProofs[bc,py,inR,ck,jc]
 by_cases h6:op=6
 ·subst h6;simp-implicitDefEqProofs[bc,py,inR,ck,jc]
 by_cases h7:op=7
 ·subst h7;simp-implicitDefEqProofs[bc,py,inR,ck,jc]
 by_cases h8:op=8
 ·subst h8;simp-implicitDefEqProofs[bc,py,inR,ck,jc]
 have ha:py op= -1:=by
  have:inR op 1 8=false:=by simp[inR];omega
  rw[py,if_neg h4,this];rfl
 have hn:ck op=false:=by simp[ck,h1,h2]
 have hb:jc op=false:=by simp[jc,h5,h6]
 rw[ha,hn,hb]
 simp-implicitDefEqProofs[bc,h1,h2,h3,h4,h5,h6,h7,h8]
def ES:List Ex->Bool
 |a::_=>decide (a.op=13)
 |[]=>false
def jj(s:Sm):Bool:=decide ((s.args.length:Int)=py s.op)&&(!ck s.op||aI s.name)&&(ck s.op||decide (s.name=[]))&&(jc s.op||decide (s.body=[]))&&(decide (s.op=5)||decide (s.els=[]))&&
 (!decide (s.op=8)||ES s.args)
theorem Ik(s:Sm):fN s=(inR s.op 1 8&&decide (s.args.length=ju s.op)&&(ck s.op==aI s.name)&&(ck s.op||decide (s.name=[]))&&s.args.all kM&&
 (!decide (s.op=8)||ES s.args)&&(s.els.isEmpty||decide (s.op=5))&&(s.body.isEmpty||decide (s.op=5)||decide (s.op=6))):=by
 unfold fN
 cases s.args<;>rfl
theorem Db(s:Sm):fN s=(jj s&&s.args.all kM):=by
 have ha:decide ((s.args.length:Int)=py s.op)=(inR s.op 1 8&&decide (s.args.length=ju s.op)):=by
  unfold py ju
  by_cases h4:s.op=4
  ·have:inR s.op 1 8=true:=by simp[inR,h4]
   rw[this,if_pos h4,if_pos h4];simp;omega
  ·rw[if_neg h4,if_neg h4]
   cases h:inR s.op 1 8 with
   |true=>simp;omega
   |false=>simp
 have hn:(ck s.op==aI s.name&&(ck s.op||decide (s.name=[])))=((!ck s.op||aI s.name)&&(ck s.op||decide (s.name=[]))):=by
  cases ck s.op with
  |true=>cases aI s.name<;>rfl
  |false=>
   by_cases h:s.name=[]
   ·rw[h,ry];rfl
   ·simp[h]
 have hb:(s.body.isEmpty||decide (s.op=5)||decide (s.op=6))=(jc s.op||decide (s.body=[])):=by
  rw[jc]
  cases s.body<;>cases decide (s.op=5)<;>cases decide (s.op=6)<;>simp
 have he:(s.els.isEmpty||decide (s.op=5))=(decide (s.op=5)||decide (s.els=[])):=by
  cases s.els<;>cases decide (s.op=5)<;>simp
 rw[Ik]
 unfold jj
 rw[ha,hb,he]
 generalize ES s.args=z
 generalize (ck s.op==aI s.name)=c at hn⊢
 generalize (!ck s.op||aI s.name)=c' at hn⊢
 generalize (ck s.op||decide (s.name=[]))=d at hn⊢
 generalize s.args.all kM=x
 generalize (jc s.op||decide (s.body=[]))=y
 generalize (decide (s.op=5)||decide (s.els=[]))=y'
 generalize (!decide (s.op=8))=u
 cases inR s.op 1 8<;>cases decide (s.args.length=ju s.op)<;>cases c<;>cases c'<;>cases d<;>cases x<;>cases y<;>cases y'<;>cases u<;>cases z<;>simp_all
variable (hK:G ja=some gO) (hS:G dV=some [.tbl opK opV])
def Fv(d:Nat)(L:List Sm):Int:=match L.findIdx? (λs=> !aF d s) with|some i=>i|none=> -1
theorem Ks(d:Nat)(L:List Sm):decide (0<=Fv d L)= !(L.all (aF d)):=by
 unfold Fv
 cases h:L.findIdx? (λx=> !aF d x) with
 |none=>
  rw[TF] at h
  have:L.all (aF d)=true:=Tj.2 λx hx=>by have:=h x hx;simpa using this
  simp[this]
 |some i=>
  rw[Tv] at h
  obtain⟨h1,h2,_⟩:=h
  have:L.all (aF d)=false:=List.all_eq_false.2 ⟨_,Tp h1,by simpa using h2⟩
  rw[this];simp
theorem uG(d:Nat)(nest:Int)(hs:∀s:Sm,s.sz<=1073741824->VF Tryz.prog G iA [.agg (s.cs.map .p),.p (.int .i64 nest)] (.p (.bool (aF d s))))(L:List Sm)(hL:aA L<=1073741824):
 VF Tryz.prog G cg [.p (smL L),.p (.int .i64 nest)] (.p (.bool (L.all (aF d)))):=by
 have hsl:smL L= .lst 5 (L.map Sm.cs):=rfl
 have hll:=bf L
 have nR:∀s:Sm,s.sz<=1073741824->AC Tryz.prog G cd [.agg (s.cs.map .p),.ptr 0 1 0 0] [.row 1 [[.p (.int .i64 nest)]]] λx h=>x= .ret (.p (.bool (!aF d s)))/\h=[.row 1 [[.p (.int .i64 nest)]]]:=by
  intro s hz
  refine AC.trim (AC.go tk ?_) (by simp[below])
  have hse:=s.cs_eq
  have h1:=hs s hz
  rw[hse] at h1
  simp-implicitDefEqProofs[lW,hse]
  refine h1.use ?_
  simp-implicitDefEqProofs[]
 have idx:AC Tryz.prog G bT [.p (smL L),.fn (.func cd) [.ptr 0 1 0 0]] [.row 1 [[.p (.int .i64 nest)]]] λx h=>x= .ret (.p (.int .i64 (Fv d L)))/\h=[.row 1 [[.p (.int .i64 nest)]]]:=by
  refine AC.go iX ?_
  simp-implicitDefEqProofs[dB,hsl]
  refine aG (λi:Nat=>ay 19 [(0,.p (smL L)),(1,.fn (.func cd) [.ptr 0 1 0 0]),(7,.p (.int .i64 L.length)),(8,.p (.int .i64 i))]) (λ_=>[.row 1 [[.p (.int .i64 nest)]]]) (λi=>i<=L.length/\∀w∈L.take i,aF d w=true) (λi=>L.length-i) 0 (by simp) ?_ ?_
  ·exact am (by simp) (by simp[okO,below]) (by simp[below,az,hsl])
  ·intro i ⟨hi,hn⟩
   simp-implicitDefEqProofs[hsl]
   refine aJ (λh1=>?_) (λh1=>?_)
   ·simp at h1
    have hg:=Tc h1
    have hz:=bp (Tp h1)
    simp-implicitDefEqProofs[hg]
    refine(nR L[i] (by omega)).mono ?_
    rintro r h ⟨rfl,rfl⟩
    by_cases he:aF d L[i]=true
    ·simp-implicitDefEqProofs[aa,he]
     refine⟨i+1,⟨h1,λp hp=>?_⟩,by omega,am (by simp) (by simp[okO,below]) (by simp[below,az,hsl,w1 (i:=i) (by omega)])⟩
     rw[an h1] at hp
     rcases Th.1 hp with hp|hp
     ·exact hn p hp
     ·rw[Ti.1 hp];exact he
    ·have hf:Fv d L=i:=by
      have:L.findIdx? (λw=> !aF d w)=some i:=by
       rw[Tv]
       exact⟨h1,by simpa using he,λj hj=>by have:=hn L[j] (TV.2 ⟨j,by omega,rfl⟩);simpa using this⟩
      rw[Fv,this]
     simp-implicitDefEqProofs[aa,he,hf]
   ·simp at h1
    rw[Tl h1] at hn
    have hf:Fv d L= -1:=by
     have:L.findIdx? (λw=> !aF d w)=none:=by
      rw[TF];intro x hx;simpa using hn x hx
     rw[Fv,this]
    simp-implicitDefEqProofs[hf]
 have con:AC Tryz.prog G bB [.p (smL L),.fn (.func cd) [.ptr 0 1 0 0]] [.row 1 [[.p (.int .i64 nest)]]] λx h=>x= .ret (.p (.bool (!L.all (aF d))))/\h=[.row 1 [[.p (.int .i64 nest)]]]:=by
  refine AC.go gv ?_
  simp-implicitDefEqProofs[cT]
  refine idx.mono ?_
  rintro r h ⟨rfl,rfl⟩
  have:=Ks d L
  simp-implicitDefEqProofs[aa]
  simpa using this
 refine AC.go Ac ?_
 simp-implicitDefEqProofs[ox]
 refine con.mono ?_
 rintro r h ⟨rfl,rfl⟩
 simp-implicitDefEqProofs[aa]
include hS hK
theorem Lp:∀d:Nat,d<=4->∀s:Sm,s.sz<=1073741824->VF Tryz.prog G iA [.agg (s.cs.map .p),.p (.int .i64 (5-d))] (.p (.bool (aF d s))):=by
 intro d
 induction d with
 |zero=>
  intro _ s hz
  have hse:=s.cs_eq
  refine AC.go pR ?_
  simp-implicitDefEqProofs[ir,hse]
  refine(yJ G _).use ?_
  simp-implicitDefEqProofs[aF]
 |succ d ih=>
  intro hd s hz
  have hse:=s.cs_eq
  have hsz:=s.sz_eq
  have hal:=bk s.args
  have hblk:=uG G d (5-d) (ih (by omega))
  have hnn:(5:Int)-((d+1:Nat):Int)=4-d:=by omega
  have hnw:IntKind.i64.wrap (4-(d:Int)+1)=5-d:=by rw[ag (by omega) (by omega)];omega
  have hn4:¬(4:Int)<4-d:=by omega
  have hxl:exL s.args= .lst 4 (s.args.map Ex.cs):=rfl
  have hsl:∀l,smL l= .lst 5 (l.map Sm.cs):=λ_=>rfl
  rw[hnn]
  have hbad:jj s=false->aF (d+1) s=false:=λh=>by rw[aF,Db,h];rfl
  refine AC.goK pR AH ?_
  simp-implicitDefEqProofs[pN,ir,hse]
  refine(yJ G _).use ?_
  simp-implicitDefEqProofs[]
  refine me (λ_:Unit=>ay 91 [(1,.p (.int .i64 (4-d))),(2,.ptr 0 5 0 0)]) (λ_=>[.row 5 [[.p (.int .i64 s.op),.p (.str s.name),.p (exL s.args),.p (smL s.body),.p (smL s.els)]]]) (λ_=>jj s=true) ?_ ?_
  ·have fin:∀(r1:List (Nat × AV)),Aw.look r1 1= .p (.int .i64 (4-d))->Aw.look r1 2= .ptr 0 5 0 0->
    Wk 0 (ay 91 r1) [.row 5 [[.p (.int .i64 s.op),.p (.str s.name),.p (exL s.args),.p (smL s.body),.p (smL s.els)]]] (ay 91 [(1,.p (.int .i64 (4-d))),(2,.ptr 0 5 0 0)]) [.row 5 [[.p (.int .i64 s.op),.p (.str s.name),.p (exL s.args),.p (smL s.body),.p (smL s.els)]]]:=λr1 a b=>
    am (by simp) (by simp[okO,below]) (by simp[below,a,b])
   have hb0:s.body=[]\/0<s.body.length:=by cases s.body<;>simp
   have he0:s.els=[]\/0<s.els.length:=by cases s.els<;>simp
   by_cases hl:(s.args.length:Int)=py s.op
   case neg=>
    rw[hbad (by simp[jj,hl])]
    simp-implicitDefEqProofs[hn4,hxl,hl]
   have hel:(decide (s.els=[]))= !decide (0<s.els.length):=by cases s.els<;>simp
   have hbo:(decide (s.body=[]))= !decide (0<s.body.length):=by cases s.body<;>simp
   simp-implicitDefEqProofs[hn4,hxl,hl]
   refine pm (ay 91 [(1,.p (.int .i64 (4-d))),(2,.ptr 0 5 0 0),(6,.p (.bool (ck s.op))),(7,.p (.bool (jc s.op))),(8,.p (.bool (decide (s.op=5)))),(19,.p (.bool (ck s.op&& !aI s.name)))]) ([.row 5 [[.p (.int .i64 s.op),.p (.str s.name),.p (exL s.args),.p (smL s.body),.p (smL s.els)]]]) ?_ ?_
   ·cases hn:ck s.op with
    |true=>
     simp-implicitDefEqProofs[]
     refine(nV G hK _ (by omega)).use ?_
     simp-implicitDefEqProofs[]
     exact am (by simp) (by simp[okO,below]) (by simp[below])
    |false=>
     simp-implicitDefEqProofs[]
     exact am (by simp) (by simp[okO,below]) (by simp[below])
   by_cases h2:(ck s.op&& !aI s.name)=true
   ·rw[hbad (by simp only[jj];cases h:ck s.op<;>cases h':aI s.name<;>simp[h,h'] at h2⊢)]
    simp-implicitDefEqProofs[h2]
   have h2':(ck s.op&& !aI s.name)=false:=by simpa using h2
   rw[h2']
   simp-implicitDefEqProofs[]
   refine pm (ay 91 [(1,.p (.int .i64 (4-d))),(2,.ptr 0 5 0 0),(6,.p (.bool (ck s.op))),(7,.p (.bool (jc s.op))),(8,.p (.bool (decide (s.op=5)))),(19,.p (.bool (!ck s.op&& !decide (s.name=[]))))]) ([.row 5 [[.p (.int .i64 s.op),.p (.str s.name),.p (exL s.args),.p (smL s.body),.p (smL s.els)]]]) ?_ ?_
   ·cases hn:ck s.op with
    |true=>
     simp-implicitDefEqProofs[]
     exact am (by simp) (by simp[okO,below]) (by simp[below])
    |false=>
     simp-implicitDefEqProofs[]
     exact am (by simp) (by simp[okO,below]) (by simp[below])
   by_cases h3:(!ck s.op&& !decide (s.name=[]))=true
   ·rw[hbad (by simp only[jj];cases h:ck s.op<;>cases h':decide (s.name=[])<;>simp[h,h'] at h3⊢)]
    simp-implicitDefEqProofs[h3]
   have h3':(!ck s.op&& !decide (s.name=[]))=false:=by simpa using h3
   rw[h3']
   simp-implicitDefEqProofs[]
   refine pm (ay 91 [(1,.p (.int .i64 (4-d))),(2,.ptr 0 5 0 0),(6,.p (.bool (ck s.op))),(7,.p (.bool (jc s.op))),(8,.p (.bool (decide (s.op=5)))),(19,.p (.bool (!jc s.op&&decide (0<s.body.length))))]) ([.row 5 [[.p (.int .i64 s.op),.p (.str s.name),.p (exL s.args),.p (smL s.body),.p (smL s.els)]]]) ?_ ?_
   ·cases hn:jc s.op with
    |true=>
     simp-implicitDefEqProofs[hsl]
     exact am (by simp) (by simp[okO,below]) (by simp[below])
    |false=>
     simp-implicitDefEqProofs[hsl]
     exact am (by simp) (by simp[okO,below]) (by simp[below])
   by_cases h4:(!jc s.op&&decide (0<s.body.length))=true
   ·rw[hbad (by simp only[jj,hbo];cases h:jc s.op<;>cases h':decide (0<s.body.length)<;>simp[h,h'] at h4⊢)]
    simp-implicitDefEqProofs[h4]
   have h4':(!jc s.op&&decide (0<s.body.length))=false:=by simpa using h4
   rw[h4']
   simp-implicitDefEqProofs[]
   refine pm (ay 91 [(1,.p (.int .i64 (4-d))),(2,.ptr 0 5 0 0),(6,.p (.bool (ck s.op))),(7,.p (.bool (jc s.op))),(8,.p (.bool (decide (s.op=5)))),(19,.p (.bool (!decide (s.op=5)&&decide (0<s.els.length))))]) ([.row 5 [[.p (.int .i64 s.op),.p (.str s.name),.p (exL s.args),.p (smL s.body),.p (smL s.els)]]]) ?_ ?_
   ·cases hn:decide (s.op=5) with
    |true=>
     simp-implicitDefEqProofs[hsl]
     exact am (by simp) (by simp[okO,below]) (by simp[below])
    |false=>
     simp-implicitDefEqProofs[hsl]
     exact am (by simp) (by simp[okO,below]) (by simp[below])
   by_cases h5:(!decide (s.op=5)&&decide (0<s.els.length))=true
   ·rw[hbad (by simp only[jj,hel];cases h:decide (s.op=5)<;>cases h':decide (0<s.els.length)<;>simp[h,h'] at h5⊢)]
    simp-implicitDefEqProofs[h5]
   have h5':(!decide (s.op=5)&&decide (0<s.els.length))=false:=by simpa using h5
   rw[h5']
   have hh1:jj s=(!decide (s.op=8)||ES s.args):=by
    simp only[jj,hl,decide_true,Bool.true_and,hel,hbo]
    cases h:ck s.op<;>cases hi:aI s.name<;>cases hm:decide (s.name=[])<;>cases hb:jc s.op<;>cases hc:decide (0<s.body.length)<;>cases ho:decide (s.op=5)<;>cases he:decide (0<s.els.length)<;>simp[h,hi,hm,hb,hc,ho,he] at h2' h3' h4' h5'⊢
   by_cases o8:s.op=8
   ·have ha1:s.args.length=1:=by
     have:py s.op=1:=by rw[o8];rfl
     omega
    obtain⟨a0,ha0⟩:∃a0,s.args=[a0]:=by
     match hh:s.args,ha1 with
     |[x],_=>exact⟨x,rfl⟩
    have hae:=a0.cs_eq
    rw[hh1,o8,ha0]
    rw[o8,ha0] at fin
    have hxa:exL [a0]= .lst 4 [a0.cs]:=rfl
    by_cases hc:a0.op=13
    ·have h13:ES [a0]=true:=by simp[ES,hc]
     simp-implicitDefEqProofs[o8,hae,hc,h13,hxa]
     rw[hxa,hae,hc] at fin
     exact fin _ (by simp) (by simp)
    ·rw[hbad (by rw[hh1,o8,ha0];simp[ES,hc])]
     simp-implicitDefEqProofs[o8,hae,hc,hxa]
   ·have hh2:jj s=true:=by rw[hh1];simp[o8]
    simp-implicitDefEqProofs[o8,hh2]
    exact fin _ (by simp) (by simp)
  intro _ h1
  have hh:aF (d+1) s=(s.args.all kM&&(s.body.all (aF d)&&s.els.all (aF d))):=by rw[aF,Db,h1,Bool.true_and,Bool.and_assoc]
  simp-implicitDefEqProofs[hxl]
  refine aG (λi:Nat=>ay 91 [(1,.p (.int .i64 (4-d))),(2,.ptr 0 5 0 0),(69,.p (exL s.args)),(70,.p (.int .i64 s.args.length)),(71,.p (.int .i64 i))]) (λ_=>[.row 5 [[.p (.int .i64 s.op),.p (.str s.name),.p (exL s.args),.p (smL s.body),.p (smL s.els)]]]) (λi=>i<=s.args.length/\(s.args.take i).all kM=true) (λi=>s.args.length-i) 0 (by simp) ?_ ?_
  ·exact am (by simp) (by simp[okO,below]) (by simp[below,hxl])
  rintro i ⟨hi,ha⟩
  simp-implicitDefEqProofs[hxl]
  refine aJ (λh=>?_) (λh=>?_)
  ·simp at h
   have hg:=Tc h
   have hks:=bv (Tp h)
   have hkc:=s.args[i].cs_eq
   have hx:=CL G hK hS s.args[i] (by omega)
   rw[hkc] at hx
   simp-implicitDefEqProofs[hg,hkc]
   refine hx.use ?_
   by_cases ho:kM s.args[i]=true
   ·simp-implicitDefEqProofs[ho]
    refine⟨i+1,⟨h,by rw[←Tj,dC h,ha,ho];rfl⟩,by omega,?_⟩
    refine eg (m:=1) (by omega) (cw rfl rfl (by simp[okO,below])) (by simp[below,hxl,w1 (i:=i) (by omega)])
   ·have ho':kM s.args[i]=false:=by simpa using ho
    rw[hh,mZ h ho']
    simp-implicitDefEqProofs[ho']
  ·simp at h
   have ha2:s.args.all kM=true:=fU h ha
   rw[hh,ha2,Bool.true_and]
   simp-implicitDefEqProofs[hnw]
   refine(hblk s.body (by omega)).use ?_
   cases hb:s.body.all (aF d) with
   |true=>
    simp-implicitDefEqProofs[hnw]
    refine(hblk s.els (by omega)).use ?_
    simp-implicitDefEqProofs[]
   |false=>
    simp-implicitDefEqProofs[]
end
section
variable (G:aH)
structure Vis (σ:Type) where
 I:σ->List AO
 n:Nat
 F:FuncId
 caps:List AV
 len:∀st,(I st).length=n
 ok:∀st,∀o∈I st,okO n o
 capsOk:az n caps
theorem Vis.pre{σ:Type}(V:Vis σ){f:FuncId}{args:List AV}{st st':σ}{v:AV}(H:AC Tryz.prog G f args (V.I st) λx h=>x= .ret v/\h=V.I st')(rest:List AO)(ha:az V.n args):
 AC Tryz.prog G f args (V.I st++rest) λx h=>x= .ret v/\h=V.I st'++rest:=by
 refine(AC.pre H rest (by rw[V.len];exact ha) (by rw[V.len];exact V.ok st) ?_).mono ?_
 ·rintro x h ⟨_,rfl⟩;rw[V.len,V.len]
 ·rintro x h ⟨h1,⟨rfl,rfl⟩,rfl⟩
  exact⟨rfl,rfl⟩
theorem Vis.trim{σ:Type}(V:Vis σ){f:FuncId}{args:List AV}{st st':σ}{v:AV}(H:AC Tryz.prog G f args (V.I st) λx h=>x= .ret v/\∃l,h=V.I st'++l)(hv:below V.n v):
 AC Tryz.prog G f args (V.I st) λx h=>x= .ret v/\h=V.I st':=by
 refine H.wk (λt v h ⟨e,_⟩=>by cases e) ?_
 rintro u h ⟨e,l,rfl⟩
 cases e
 refine⟨v,V.I st',zi (n:=V.n) (by rw[V.len];exact Tk _) (cw (by rw[←V.len st',List.take_left'];rfl) (V.len _) (V.ok _)) ?_,rfl,rfl⟩
 simp[Fgt,hv]
theorem sj{n m:Nat}(h:n<=m){o:AO}(ho:okO n o):okO m o:=by
 cases o with
 |dead=>trivial
 |sit=>trivial
 |row sz es=>exact λe he=>aM h _ (ho e he)
 |mp es=>exact λe he=>(aM h [e.2] ⟨ho e he,trivial⟩).1
theorem Vis.oks{σ:Type}(V:Vis σ)(st:σ){m:Nat}(hm:V.n<=m){r:List AO}(hr:∀o∈r,okO m o):∀o∈V.I st++r,okO m o:=by
 intro o ho
 rcases Th.1 ho with h|h
 ·exact sj hm (V.ok st o h)
 ·exact hr o h
theorem Vis.same{σ:Type}(V:Vis σ)(st:σ){k n:Nat}(hk:k<=V.n){r s:List AO}{l l1:List (Nat × AV)}(hr:∀o∈r,okO (V.n+r.length) o)(H:FgA (V.n+r.length) l l1):Wk k (ay n l) (V.I st++(r++s)) (ay n l1) (V.I st++r):=by
 have hl:(V.I st++r).length=V.n+r.length:=by rw[Tw,V.len]
 refine eg (m:=V.n+r.length) (by omega) (cw ?_ hl (V.oks st (by omega) hr)) H
 rw[←Ud,←hl,List.take_left'];rfl
theorem Vis.same0{σ:Type}(V:Vis σ)(st:σ){k n:Nat}(hk:k<=V.n){s:List AO}{l l1:List (Nat × AV)}(H:FgA V.n l l1):Wk k (ay n l) (V.I st++s) (ay n l1) (V.I st):=by
 refine eg (m:=V.n) (by omega) (cw ?_ (V.len _) (V.ok st)) H
 rw[←V.len st,List.take_left'];rfl
theorem MC{α:Type}{a b:List α}{n:Nat}(h:a.length=n)(i:Nat):(a++b)[n+i]?=b[i]?:=by
 rw[←h,Tg (by omega)];congr 1;omega
theorem Mo{σ:Type}(V:Vis σ)(step:σ->Ex->σ)(inv:σ->Prop)(B:Nat)(hB:B<=1073741824)
 (hv:∀st e,inv st->e.sz<=B->inv (step st e)/\AC Tryz.prog G V.F (.agg (e.cs.map .p)::V.caps) (V.I st) λx h=>x= .ret (.tup [])/\h=V.I (step st e)):
 ∀(N:Nat) (e:Ex),e.sz<N->e.sz<=B->∀st,inv st->inv (e.pre.foldl step st)/\AC Tryz.prog G jD [.agg (e.cs.map .p),.fn (.func V.F) V.caps] (V.I st) λx h=>x= .ret (.tup [])/\h=V.I (e.pre.foldl step st):=by
 intro N
 induction N with
 |zero=>intro e h;omega
 |succ N ih=>
  intro e he hz st hi
  have hec:=e.cs_eq
  have hsz:=e.sz_eq
  have hkl:=bk e.kids
  have hxl:exL e.kids= .lst 4 (e.kids.map Ex.cs):=rfl
  have hlen:=V.len
  obtain⟨i1,h1⟩:=hv st e hi hz
  have hinv:∀i,i<=e.kids.length->inv ((dF (e.kids.take i)).foldl step (step st e)):=by
   intro i
   induction i with
   |zero=>intro _;exact i1
   |succ i ihi=>
    intro hl
    have hg:i<e.kids.length:=by omega
    have hks:=bv (Tp hg)
    rw[an hg,sa,Uc,dF,dF,Tt]
    exact(ih e.kids[i] (by omega) (by omega) _ (ihi (by omega))).1
  refine⟨?_,?_⟩
  ·rw[Ex.pre_eq,Ul]
   have:=hinv e.kids.length (Tk _)
   rwa[Tz] at this
  refine V.trim G (AC.go BG ?_) (by simp[below])
  have hcb:=V.capsOk
  have hcb1:az (V.n+1) V.caps:=aM (by omega) _ hcb
  rw[hec] at h1
  simp-implicitDefEqProofs[rS,hec,hlen]
  refine(V.pre G h1 _ ⟨by simp[below],hcb⟩).mono ?_
  rintro r h ⟨rfl,rfl⟩
  simp-implicitDefEqProofs[aa,hlen,hxl]
  refine aG (λi:Nat=>ay 20 [(1,.fn (.func V.F) V.caps),(2,.ptr V.n 4 0 0),(10,.p (exL e.kids)),(11,.p (.int .i64 e.kids.length)),(12,.p (.int .i64 i))])
   (λi=>V.I ((dF (e.kids.take i)).foldl step (step st e))++[.row 4 [[.p (.int .i64 e.op),.p (.int .i64 e.n),.p (.str e.name),.p (exL e.kids)]]]) (λi=>i<=e.kids.length) (λi=>e.kids.length-i) 0 (by simp) ?_ ?_
  ·refine V.same (r:=[_]) (s:=[]) _ (Tk _) (by simp[okO,below]) ?_
   simp[below,hxl,hcb1]
  intro i hil
  simp-implicitDefEqProofs[hxl]
  refine aJ (λhc=>?_) (λhc=>?_)
  ·simp at hc
   have hg:=Tc hc
   have hks:=bv (Tp hc)
   have hkc:=e.kids[i].cs_eq
   have hI:=(ih e.kids[i] (by omega) (by omega) _ (hinv i hil)).2
   rw[hkc] at hI
   simp-implicitDefEqProofs[hg,hkc,hlen]
   refine(V.pre G hI _ ⟨by simp[below],by simp[below,hcb],trivial⟩).mono ?_
   rintro r h ⟨rfl,rfl⟩
   simp-implicitDefEqProofs[aa]
   refine⟨i+1,hc,by omega,?_⟩
   have hf:(dF (e.kids.take (i+1))).foldl step (step st e)=e.kids[i].pre.foldl step ((dF (e.kids.take i)).foldl step (step st e)):=by
    rw[an hc,sa,Uc,dF,dF,Tt]
   rw[hf]
   refine V.same (r:=[_]) (s:=[_]) _ (Tk _) (by simp[okO,below]) ?_
   simp[below,hxl,hcb1,w1 (i:=i) (by omega)]
  ·simp at hc
   have hie:i=e.kids.length:=by omega
   subst hie
   rw[Tz,Ex.pre_eq,Ul]
   simp-implicitDefEqProofs[]
theorem GM{σ:Type}(V:Vis σ)(step:σ->Sm × Nat->σ)(inv:σ->Prop)(B:Nat)(hB:B<=1073741824)
 (hv:∀st s d,inv st->s.sz<=B->inv (step st (s,d))/\AC Tryz.prog G V.F (.agg (s.cs.map .p):: .p (.int .i64 (d:Nat))::V.caps) (V.I st) λx h=>x= .ret (.tup [])/\h=V.I (step st (s,d))):
 ∀(N:Nat) (l:List Sm),aA l<N->aA l<=B->∀(d:Nat),d+aA l<=1099511627776->∀st,inv st->inv ((aS d l).foldl step st)/\AC Tryz.prog G cK [.p (smL l),.p (.int .i64 d),.fn (.func V.F) V.caps] (V.I st) λx h=>x= .ret (.tup [])/\h=V.I ((aS d l).foldl step st):=by
 intro N
 induction N with
 |zero=>intro l h;omega
 |succ N ih=>
  intro l hl hz d hd st hi
  have hll:=bf l
  have hlen:=V.len
  have hsl:∀l,smL l= .lst 5 (l.map Sm.cs):=λ_=>rfl
  have hone:∀s:Sm,s∈l->∀st,inv st->inv ((s.pre d).foldl step st):=by
   intro s hs st hi
   have hm:=bp hs
   have hsz:=s.sz_eq
   have i1:=(hv st s d hi (by omega)).1
   have i2:=(ih s.body (by omega) (by omega) (d+1) (by omega) _ i1).1
   have i3:=(ih s.els (by omega) (by omega) (d+1) (by omega) _ i2).1
   rw[Sm.pre_eq,Ul,Uc]
   exact i3
  have hinv:∀i,i<=l.length->inv ((aS d (l.take i)).foldl step st):=by
   intro i
   induction i with
   |zero=>intro _;exact hi
   |succ i ihi=>
    intro hl
    have hg:i<l.length:=by omega
    rw[an hg,mS,Uc,aS,aS,Tt]
    exact hone _ (Tp hg) _ (ihi (by omega))
  refine⟨?_,?_⟩
  ·have:=hinv l.length (Tk _)
   rwa[Tz] at this
  refine V.trim G (AC.go sI ?_) (by simp[below])
  have hcb:=V.capsOk
  simp-implicitDefEqProofs[mD,hsl]
  refine aG (λi:Nat=>ay 31 [(1,.p (.int .i64 d)),(2,.fn (.func V.F) V.caps),(8,.p (smL l)),(9,.p (.int .i64 l.length)),(10,.p (.int .i64 i))])
   (λi=>V.I ((aS d (l.take i)).foldl step st)) (λi=>i<=l.length) (λi=>l.length-i) 0 (by simp) ?_ ?_
  ·rw[hlen]
   have:=V.same0 (s:=[]) st (k:=V.n) (n:=31) (Tk _) (l:=[(10,.p (.int .i64 0)),(9,.p (.int .i64 l.length)),(8,.p (smL l)),(0,.p (smL l)),(1,.p (.int .i64 d)),(2,.fn (.func V.F) V.caps)]) (l1:=[(1,.p (.int .i64 d)),(2,.fn (.func V.F) V.caps),(8,.p (smL l)),(9,.p (.int .i64 l.length)),(10,.p (.int .i64 0))]) (by simp[below,hcb])
   rw[Tt] at this
   exact this
  intro i hil
  simp-implicitDefEqProofs[hsl]
  refine aJ (λhc=>?_) (λhc=>?_)
  ·simp at hc
   have hg:=Tc hc
   have hks:=bp (Tp hc)
   have hkc:=l[i].cs_eq
   have hsz:=l[i].sz_eq
   have hf:(aS d (l.take (i+1))).foldl step st=(l[i].pre d).foldl step ((aS d (l.take i)).foldl step st):=by
    rw[an hc,mS,Uc,aS,aS,Tt]
   have ii:=hinv i hil
   obtain⟨i1,h1⟩:=hv _ l[i] d ii (by omega)
   obtain⟨i2,h2⟩:=ih l[i].body (by omega) (by omega) (d+1) (by omega) _ i1
   obtain⟨i3,h3⟩:=ih l[i].els (by omega) (by omega) (d+1) (by omega) _ i2
   rw[Sm.pre_eq,Ul,Uc] at hf
   have hwd:IntKind.i64.wrap ((d:Int)+1)=((d+1:Nat):Int):=by rw[ag (by omega) (by omega)];omega
   rw[hkc] at h1
   simp-implicitDefEqProofs[hg,hkc,hlen]
   refine(V.pre G h1 _ ⟨by simp,by simp,hcb⟩).mono ?_
   rintro r h ⟨rfl,rfl⟩
   simp-implicitDefEqProofs[aa,hlen,hwd]
   refine(V.pre G h2 _ ⟨by simp,by simp,by simp[below,hcb],trivial⟩).mono ?_
   rintro r h ⟨rfl,rfl⟩
   simp-implicitDefEqProofs[aa,hlen,hwd]
   refine(V.pre G h3 _ ⟨by simp,by simp,by simp[below,hcb],trivial⟩).mono ?_
   rintro r h ⟨rfl,rfl⟩
   simp-implicitDefEqProofs[aa]
   refine⟨i+1,hc,by omega,?_⟩
   rw[hf]
   refine V.same0 (s:=[_]) _ (Tk _) ?_
   simp[below,hsl,hcb,w1 (i:=i) (by omega)]
  ·simp at hc
   have hie:i=l.length:=by omega
   subst hie
   rw[Tz]
   simp-implicitDefEqProofs[]
end
section
variable (G:aH)
abbrev MS:=Int × Int
def pX(st:MS)(x:Sm × Nat):MS:=(IntKind.i64.wrap (st.1+1),if st.2<(x.2:Int) then(x.2:Int) else st.2)
def pL(l:List Fd)(st:MS):MS:=l.foldl (λst f=>(aS 1 f.body).foldl pX st) st
theorem zU:∀(l:List (Sm × Nat)) (st:MS),0<=st.1->st.1+l.length<=1099511627776->(l.foldl pX st).1=st.1+l.length
 |[],st,_,_=>by simp
 |x::r,st,h0,h=>by
  have hw:IntKind.i64.wrap (st.1+1)=st.1+1:=ag (by omega) (by simp at h;omega)
  rw[Ul,zU r _ (by simp only[pX,hw];omega) (by simp only[pX,hw];simp at h;omega)]
  simp only[pX,hw,Tu]
  omega
theorem vK:∀(l:List Fd) (st:MS),0<=st.1->st.1+kJ l<=1099511627776->(pL l st).1=st.1+kJ l
 |[],st,_,_=>by simp[pL,kJ]
 |f::r,st,h0,h=>by
  have ha:kJ (f::r)=da f.body+kJ r:=by simp[kJ]
  have hs:=zU (aS 1 f.body) st h0 (by rw[jP];omega)
  rw[jP] at hs
  have:=vK r ((aS 1 f.body).foldl pX st) (by omega) (by omega)
  simp only[pL,Ul] at this⊢
  omega
theorem Fq{l:List Fd}{st:MS}{i:Nat}(h:i<l.length):pL (l.take (i+1)) st=(aS 1 l[i].body).foldl pX (pL (l.take i) st):=by
 rw[pL,an h,Uc];rfl
def nu(p:PV):Vis MS where
 I:=λst=>[.row 1 [[.p p]],.row 1 [[.p (.int .i64 st.1)]],.row 1 [[.p (.int .i64 st.2)]]]
 n:=3
 F:=eq
 caps:=[.ptr 1 1 0 0,.ptr 2 1 0 0]
 len:=λ_=>rfl
 ok:=λst=>by simp[okO,below]
 capsOk:=by simp[below]
theorem Dn(p:PV)(st:MS)(s:Sm)(d:Nat):AC Tryz.prog G eq [.agg (s.cs.map .p),.p (.int .i64 d),.ptr 1 1 0 0,.ptr 2 1 0 0] ((nu p).I st) λx h=>x= .ret (.tup [])/\h=(nu p).I (pX st (s,d)):=by
 refine(nu p).trim G (AC.go tT ?_) (by simp[below])
 have hse:=s.cs_eq
 simp-implicitDefEqProofs[lY,hse,nu,pX]
theorem HC(l:List Fd)(hl:bQ l<=1073741824):VF Tryz.prog G ko [.agg [.p (fdL l)]] (.tup [.p (.int .i64 (kJ l)),.p (.int .i64 (pL l (0,0)).2)]):=by
 refine AC.go zl ?_
 have hll:=dc l
 have hfl:∀l,fdL l= .lst 3 (l.map Fd.cs):=λ_=>rfl
 have hn:(pL l (0,0)).1=kJ l:=by rw[vK l (0,0) (by simp) (by simp only;have:=Cn l;omega)];simp
 simp-implicitDefEqProofs[nI,hfl]
 refine aG (λi:Nat=>ay 20 [(2,.ptr 1 1 0 0),(3,.ptr 2 1 0 0),(7,.p (fdL l)),(8,.p (.int .i64 l.length)),(9,.p (.int .i64 i))])
  (λi=>(nu (fdL l)).I (pL (l.take i) (0,0))) (λi=>i<=l.length) (λi=>l.length-i) 0 (by simp) ?_ ?_
 ·exact am (h:=(nu (fdL l)).I (0,0)) (by simp) ((nu (fdL l)).ok _) (by simp[below,hfl,nu])
 intro i hil
 simp-implicitDefEqProofs[hfl]
 refine aJ (λhc=>?_) (λhc=>?_)
 ·simp at hc
  have hg:=Tc hc
  have hks:=dy (Tp hc)
  have hcs:l[i].cs=[.str l[i].name,aR l[i].params,smL l[i].body]:=rfl
  have hfz:l[i].sz=1+l[i].name.length+(l[i].params.length+(l[i].params.map List.length).sum)+aA l[i].body:=rfl
  have hI:=(GM G (nu (fdL l)) pX (λ_=>True) 1073741824 (by omega) (λst s d _ _=>⟨trivial,Dn G _ st s d⟩) (aA l[i].body+1) l[i].body (by omega) (by omega) 1 (by omega) (pL (l.take i) (0,0)) trivial).2
  have hlen:=(nu (fdL l)).len
  have h3:(nu (.lst 3 (l.map Fd.cs))).n=3:=rfl
  have hlen':∀st,((nu (.lst 3 (l.map Fd.cs))).I st).length=3:=λ_=>rfl
  simp-implicitDefEqProofs[hg,hcs,hlen']
  refine((nu (fdL l)).pre G hI [_] ⟨by simp,by simp,by simp[below,nu],trivial⟩).mono ?_
  rintro r h ⟨rfl,rfl⟩
  simp-implicitDefEqProofs[aa]
  refine⟨i+1,hc,by omega,?_⟩
  rw[Fq hc]
  refine(nu (fdL l)).same0 (s:=[_]) _ (by simp[nu]) ?_
  simp[below,hfl,nu,w1 (i:=i) (by omega)]
 ·simp at hc
  have hie:i=l.length:=by omega
  subst hie
  rw[Tz]
  simp-implicitDefEqProofs[nu,hn]
theorem tU(hK:G ja=some gO)(s:List UInt8)(hb:s.length<=140737488355328):VF Tryz.prog G bi [.p (.str s)] (.p (.bool (!aI s))):=by
 refine AC.go nB ?_
 simp-implicitDefEqProofs[gC]
 refine(nV G hK s hb).use ?_
 simp-implicitDefEqProofs[]
def Ft(L:List (List UInt8)):Int:=match L.findIdx? (λw=> !aI w) with|some i=>i|none=> -1
theorem Jv(L:List (List UInt8)):decide (0<=Ft L)= !(L.all aI):=by
 unfold Ft
 cases h:L.findIdx? (λx=> !aI x) with
 |none=>
  rw[TF] at h
  have:L.all aI=true:=Tj.2 λx hx=>by have:=h x hx;simpa using this
  simp[this]
 |some i=>
  rw[Tv] at h
  obtain⟨h1,h2,_⟩:=h
  have:L.all aI=false:=List.all_eq_false.2 ⟨_,Tp h1,by simpa using h2⟩
  rw[this];simp
theorem Lh{L:List (List UInt8)}{n:Nat}(h:(L.map List.length).sum<=n):∀x∈L,x.length<=n:=by
 induction L with
 |nil=>intro x hx;cases hx
 |cons y r ih=>
  intro x hx
  simp only[TA,List.sum_cons] at h
  rcases Tf.1 hx with rfl|hx
  ·omega
  ·exact ih (by omega) x hx
variable (hK:G ja=some gO)
include hK
theorem Fe(L:List (List UInt8))(hb:L.length<=1073741824)(hw:∀x∈L,x.length<=140737488355328):VF Tryz.prog G cF [.p (aR L),.fn (.func bi) []] (.p (.int .i64 (Ft L))):=by
 refine AC.go kI ?_
 have hsl:aR L= .lst 1 (L.map λw=>[.str w]):=rfl
 simp-implicitDefEqProofs[eB,hsl]
 refine aG (λi:Nat=>ay 19 [(0,.p (aR L)),(1,.fn (.func bi) []),(6,.p (aR L)),(7,.p (.int .i64 L.length)),(8,.p (.int .i64 i))]) (λ_=>[]) (λi=>i<=L.length/\∀w∈L.take i,aI w=true) (λi=>L.length-i) 0 (by simp) ?_ ?_
 ·exact am (by simp) (by simp[okO]) (by simp[below,az,aR])
 ·intro i ⟨hi,hn⟩
  simp-implicitDefEqProofs[hsl]
  refine aJ (λh1=>?_) (λh1=>?_)
  ·simp at h1
   have hg:=Tc h1
   simp-implicitDefEqProofs[hg]
   refine(tU G hK _ (hw _ (Tp h1))).use ?_
   by_cases he:aI L[i]=true
   ·simp-implicitDefEqProofs[he]
    refine⟨i+1,⟨h1,λp hp=>?_⟩,by omega,am (by simp) (by simp[okO]) ?_⟩
    ·rw[an h1] at hp
     rcases Th.1 hp with hp|hp
     ·exact hn p hp
     ·rw[Ti.1 hp];exact he
    ·simp[below,az,aR,w1 (i:=i) (by omega)]
   ·have hf:Ft L=i:=by
     have:L.findIdx? (λw=> !aI w)=some i:=by
      rw[Tv]
      exact⟨h1,by simpa using he,λj hj=>by have:=hn L[j] (TV.2 ⟨j,by omega,rfl⟩);simpa using this⟩
     rw[Ft,this]
    simp-implicitDefEqProofs[he,hf]
  ·simp at h1
   rw[Tl h1] at hn
   have hf:Ft L= -1:=by
    have:L.findIdx? (λw=> !aI w)=none:=by
     rw[TF];intro x hx;simpa using hn x hx
    rw[Ft,this]
   simp-implicitDefEqProofs[hf]
theorem Ao(L:List (List UInt8))(hb:L.length<=1073741824)(hw:∀x∈L,x.length<=140737488355328):VF Tryz.prog G bS [.p (aR L),.fn (.func bi) []] (.p (.bool (!L.all aI))):=by
 rw[←Jv]
 refine AC.go jh ?_
 simp-implicitDefEqProofs[dz]
 refine(Fe G hK L hb hw).use ?_
 simp-implicitDefEqProofs[]
variable (hS:G dV=some [.tbl opK opV])
include hS
theorem vA(l:List Fd)(hl:bQ l<=1073741824):VF Tryz.prog G eG [.agg [.p (fdL l)]] (.p (.bool (bI l))):=by
 refine AC.go pt ?_
 have hll:=dc l
 have hfl:∀l,fdL l= .lst 3 (l.map Fd.cs):=λ_=>rfl
 have hm:=HC G l hl
 rw[hfl] at hm
 simp-implicitDefEqProofs[jq,hfl]
 refine(bU G _ _ _).use ?_
 by_cases h1:inR l.length 1 4=true
 case neg=>simp-implicitDefEqProofs[h1,bI]
 simp-implicitDefEqProofs[h1]
 refine aG (λi:Nat=>ay 48 [(1,.ptr 0 1 0 0),(13,.p (fdL l)),(14,.p (.int .i64 l.length)),(15,.p (.int .i64 i))]) (λ_=>[.row 1 [[.p (.lst 3 (l.map Fd.cs))]]]) (λi=>i<=l.length/\(l.take i).all jd=true) (λi=>l.length-i) 0 (by simp) (am (by simp) (by simp[okO]) (by simp[below,hfl])) ?_
 intro i ⟨hi,ha⟩
 simp-implicitDefEqProofs[hfl]
 refine aJ (λh=>?_) (λh=>?_)
 ·simp at h
  have hg:=Tc h
  have hks:=dy (Tp h)
  have hbadF:jd l[i]=false->bI l=false:=λhk'=>by simp only[bI,mZ h hk',Bool.and_false,Bool.false_and]
  have hcs:l[i].cs=[.str l[i].name,aR l[i].params,smL l[i].body]:=rfl
  have hfz:l[i].sz=1+l[i].name.length+(l[i].params.length+(l[i].params.map List.length).sum)+aA l[i].body:=rfl
  have hokF:jd l[i]=(l[i].params.all aI&&aI l[i].name&&decide (l[i].params.length<=3)&&l[i].body.all (aF 4)):=rfl
  have hblk:=uG G 4 1 (λs hs=>by simpa using Lp G hK hS 4 (by omega) s hs) l[i].body (by omega)
  have hcon:=Ao G hK l[i].params (by omega) (Lh (by omega))
  have hst:aR l[i].params= .lst 1 (l[i].params.map λw=>[.str w]):=rfl
  generalize l[i]=f at*
  rw[hst] at hcon
  simp-implicitDefEqProofs[hg,hcs,hst]
  refine(nV G hK _ (by omega)).use ?_
  by_cases k1:aI f.name=true
  case neg=>
   rw[hbadF (by rw[hokF];simp[k1])]
   simp-implicitDefEqProofs[k1]
  by_cases k2:f.params.length<=3
  case neg=>
   have k2':(3:Int)<f.params.length:=by omega
   rw[hbadF (by rw[hokF];simp[k2])]
   simp-implicitDefEqProofs[k1,k2']
  have k2':¬(3:Int)<f.params.length:=by omega
  simp-implicitDefEqProofs[k1,k2']
  refine hcon.use ?_
  by_cases k3:f.params.all aI=true
  case neg=>
   have k3':f.params.all aI=false:=by simpa using k3
   rw[hbadF (by rw[hokF,k3'];simp)]
   simp-implicitDefEqProofs[k3']
  simp only[k3]
  simp-implicitDefEqProofs[]
  refine hblk.use ?_
  by_cases k4:f.body.all (aF 4)=true
  case neg=>
   have k4':f.body.all (aF 4)=false:=by simpa using k4
   rw[hbadF (by rw[hokF,k4'];simp)]
   simp only[k4']
   simp-implicitDefEqProofs[]
  simp only[k4]
  simp-implicitDefEqProofs[]
  have hk:jd f=true:=by rw[hokF,k1,k3,k4];simp[k2]
  refine⟨i+1,⟨h,by rw[←Tj,oN hg,ha,hk];rfl⟩,by omega,eg (m:=1) (by omega) (cw rfl rfl (by simp[okO,below])) (by simp[below,hfl,w1 (i:=i) (by omega)])⟩
 ·simp at h
  have h2:l.all jd=true:=fU h ha
  simp-implicitDefEqProofs[]
  refine hm.use ?_
  have hff:bI l=decide (kJ l<=40):=by simp only[bI,h1,h2,Bool.true_and]
  simp-implicitDefEqProofs[hff]
  omega
end
end Go.Proofs.YtghpabfdmbdpfaaGreatDoor
