/-
  Contracts and lemmas that the card needs, part 5.
-/
import Derived.Test.YtokiapglmedipaaGreatDoorSf4
import Derived.Laws.RangeAny
import Derived.Laws.RangeString
namespace Go.Proofs.YtokiapglmedipaaGreatDoor
open Go Go.Aw
set_option maxRecDepth 100000
set_option maxHeartbeats 4000000
section
theorem aq{α:Type}{xs:List α}{i:Nat}(h:i<xs.length):xs.take (i+1)=xs.take i++[xs[i]]:=by
 rw[List.take_add_one,UW h];rfl
def uZ(l:List Int):PV:= .lst 1 (l.map λn=>[.int .u8 n])
def aK(l:List Int):PV:= .lst 1 (l.map λn=>[.int .i64 n])
def Ul(l:List Int):List (List AV):=l.map λn=>[.p (.int .i64 n)]
def gx(l:List Int):AO:= .row 1 (l.map λn=>[.p (.int .i64 n)])
def aw(l:List (List UInt8)):PV:= .lst 1 (l.map λw=>[.str w])
def TG(l:List (List UInt8)):List (List AV):=l.map λw=>[.p (.str w)]
def cP(l:List (List UInt8)):AO:= .row 1 (l.map λn=>[.p (.str n)])
theorem BU(l:List Int):∀x∈Ul l,af 0 x:=by
 intro x hx;obtain⟨m,_,rfl⟩:=Vq.1 hx;simp[af,below]
theorem pT(l:List (List UInt8)):∀x∈TG l,af 0 x:=by
 intro x hx;obtain⟨m,_,rfl⟩:=Vq.1 hx;simp[af,below]
theorem iM{l:List Int}{id:Nat}{h:List AO}(e:h[id]?=some (gx l)):View h (.sl id 1 0 l.length) (aK l):=by
 have:=js (h:=h) (id:=id) (sz:=1) (n:=l.length) (ls:=l.map λn=>[.int .i64 n]) (by rw[e,gx];simp) (by simp) (λx hx=>by obtain⟨b,_,rfl⟩:=Vq.1 hx;rfl)
 exact this
theorem gv{l:List (List UInt8)}{id:Nat}{h:List AO}(e:h[id]?=some (cP l)):View h (.sl id 1 0 l.length) (aw l):=by
 have:=js (h:=h) (id:=id) (sz:=1) (n:=l.length) (ls:=l.map λn=>[.str n]) (by rw[e,cP];simp) (by simp) (λx hx=>by obtain⟨b,_,rfl⟩:=Vq.1 hx;rfl)
 exact this
end
section
def dI(c:UInt8):Bool:=decide (97<=c.toNat)&&decide (c.toNat<=122)
def keyW:List (List UInt8):=[[102,110],[108,101,116],[115,97,121],[112,117,116],[105,102],[101,108,115,101],[108,111,111,112],[98,97,99,107],[100,111]]
def aG(s:List UInt8):Bool:=s.all dI&&decide (0<s.length)&&decide (s.length<=4)&& !keyW.contains s
def zy:List UInt8:=[40,41,123,125,59,44,43,45,42,47,37,60,61,38,33,64]
def tG(s:List UInt8)(c:Int):Int:=match s.findIdx? (λx=>(x.toNat:Int)==c) with|some i=>i|none=> -1
def DN(c:Int):Int:=if 97<=c/\c<=122 then 1 else if 48<=c/\c<=57 then 2 else if 0<=tG zy c then 3 else if c=32\/c=10 then 4 else 0
theorem MY(x:UInt8):(DN (x.toNat:Int)=1)↔dI x=true:=by
 have h:(97<=(x.toNat:Int)/\(x.toNat:Int)<=122)↔dI x=true:=by simp[dI];omega
 unfold DN
 constructor
 ·intro e
  split at e
  ·rename_i h1;exact h.1 h1
  ·repeat' split at e
   all_goals omega
 ·intro e;rw[if_pos (h.2 e)]
def Cq(s:List UInt8):Int:=match s.findIdx? (λx=> !dI x) with|some i=>i|none=> -1
theorem LP(s:List UInt8):decide (Cq s<0)=s.all dI:=by
 unfold Cq
 cases h:s.findIdx? (λx=> !dI x) with
 |none=>
  rw[VB] at h
  have:s.all dI=true:=Vc.2 λx hx=>by have:=h x hx;simpa using this
  simp[this]
 |some i=>
  rw[Vn] at h
  obtain⟨h1,h2,_⟩:=h
  have:s.all dI=false:=List.all_eq_false.2 ⟨_,Vl h1,by simpa using h2⟩
  rw[this];simp
def idxS(l:List (List UInt8))(s:List UInt8):Int:=match l.findIdx? (λw=>w==s) with|some i=>i|none=> -1
theorem ME(l:List (List UInt8))(s:List UInt8):decide (0<=idxS l s)=l.contains s:=by
 unfold idxS
 cases h:l.findIdx? (λw=>w==s) with
 |none=>
  rw[VB] at h
  have:l.contains s=false:=by
   cases hc:l.contains s with
   |false=>rfl
   |true=>
    have hm:s∈l:=by simpa using hc
    have:=h s hm
    simp at this
  rw[this];simp
 |some i=>
  rw[Vn] at h
  obtain⟨h1,h2,_⟩:=h
  have:l.contains s=true:=by
   simp only[beq_iff_eq] at h2
   rw[List.contains_iff_mem,←h2];exact Vl h1
  rw[this];simp
variable (G:al)
theorem uC(s:List UInt8)(c:Int)(hb:s.length<=1048576):VF Tryz.prog G kM [.p (.str s),.p (.int .u8 c)] (.p (.int .i64 (tG s c))):=by
 refine AC.go zT ?_
 simp-implicitDefEqProofs[om]
 refine aO (λi:Nat=>ah 18 [(0,.p (.str s)),(1,.p (.int .u8 c)),(5,.p (.int .i64 i))]) (λ_=>[]) (λi=>i<=s.length/\∀x∈s.take i,(x.toNat:Int)≠c) (λi=>s.length-i) 0 (by simp) ?_ ?_
 ·exact bx rfl (by simp[below])
 ·intro i ⟨hi,hn⟩
  simp-implicitDefEqProofs[]
  refine be (λh1=>?_) (λh1=>?_)
  ·simp at h1
   have hg:=UW h1
   by_cases he:(s[i].toNat:Int)=c
   ·have hf:tG s c=i:=by
     have:s.findIdx? (λx=>(x.toNat:Int)==c)=some i:=by
      rw[Vn]
      exact⟨h1,by simpa using he,λj hj=>by have:=hn s[j] (Wc.2 ⟨j,by omega,rfl⟩);simpa using this⟩
     rw[tG,this]
    simp-implicitDefEqProofs[hg,he,hf]
   ·simp-implicitDefEqProofs[hg,he]
    refine⟨i+1,⟨h1,λp hp=>?_⟩,by omega,bx rfl ?_⟩
    ·rw[aq h1] at hp
     rcases Vd.1 hp with hp|hp
     ·exact hn p hp
     ·rw[Ve.1 hp];exact he
    ·simp[below,w1 (i:=i) (by omega)]
  ·simp at h1
   rw[Va h1] at hn
   have hf:tG s c= -1:=by
    have:s.findIdx? (λx=>(x.toNat:Int)==c)=none:=by
     rw[VB];intro x hx;simpa using hn x hx
    rw[tG,this]
   simp-implicitDefEqProofs[hf]
theorem IZ(c:Int):VF Tryz.prog G kG [.p (.int .u8 c)] (.p (.int .i64 (DN c))):=by
 refine AC.go zu ?_
 simp-implicitDefEqProofs[po]
 unfold DN
 by_cases h1:97<=c
 ·by_cases h2:c<=122
  ·simp-implicitDefEqProofs[h1,h2]
  ·have h3:¬c<=57:=by omega
   have h4:¬c=32:=by omega
   have h5:¬c=10:=by omega
   have h6:48<=c:=by omega
   simp-implicitDefEqProofs[h1,h2,h3,h6]
   refine(uC G zy c (by decide)).use ?_
   generalize tG zy c=w
   by_cases hf:0<=w
   ·simp-implicitDefEqProofs[hf]
   ·simp-implicitDefEqProofs[hf,h4,h5]
 ·simp-implicitDefEqProofs[h1]
  by_cases h2:48<=c
  ·by_cases h3:c<=57
   ·simp-implicitDefEqProofs[h2,h3]
   ·have h4:¬c=32:=by omega
    have h5:¬c=10:=by omega
    simp-implicitDefEqProofs[h2,h3]
    refine(uC G zy c (by decide)).use ?_
    generalize tG zy c=w
    by_cases hf:0<=w
    ·simp-implicitDefEqProofs[hf]
    ·simp-implicitDefEqProofs[hf,h4,h5]
  ·simp-implicitDefEqProofs[h2]
   refine(uC G zy c (by decide)).use ?_
   generalize tG zy c=w
   by_cases hf:0<=w
   ·simp-implicitDefEqProofs[hf]
   ·by_cases h4:c=32
    ·simp-implicitDefEqProofs[hf,h4]
    ·by_cases h5:c=10
     ·simp-implicitDefEqProofs[hf,h4,h5]
     ·simp-implicitDefEqProofs[hf,h4,h5]
theorem Nu(s:List UInt8)(hb:s.length<=140737488355328):VF Tryz.prog G nG [.p (.str s),.p (.int .i64 1)] (.p (.bool (s.all dI&&decide (0<s.length)))):=by
 refine AC.go CY ?_
 simp-implicitDefEqProofs[tn]
 refine aO (λi:Nat=>ah 21 [(0,.p (.str s)),(1,.p (.int .i64 1)),(5,.p (.int .i64 i))]) (λ_=>[]) (λi=>i<=s.length/\∀x∈s.take i,dI x=true) (λi=>s.length-i) 0 (by simp) ?_ ?_
 ·exact bx rfl (by simp[below])
 ·intro i ⟨hi,hn⟩
  simp-implicitDefEqProofs[]
  refine be (λh1=>?_) (λh1=>?_)
  ·simp at h1
   have hg:=UW h1
   simp-implicitDefEqProofs[hg]
   refine(IZ G _).use ?_
   have hcl:=MY s[i]
   by_cases he:dI s[i]=true
   ·have hc:=hcl.2 he
    simp-implicitDefEqProofs[hc]
    refine⟨i+1,⟨h1,λp hp=>?_⟩,by omega,bx rfl ?_⟩
    ·rw[aq h1] at hp
     rcases Vd.1 hp with hp|hp
     ·exact hn p hp
     ·rw[Ve.1 hp];exact he
    ·simp[below,w1 (i:=i) (by omega)]
   ·have hc:¬DN (s[i].toNat:Int)=1:=λe=>he (hcl.1 e)
    have ha:s.all dI=false:=List.all_eq_false.2 ⟨_,Vl h1,by simpa using he⟩
    simp-implicitDefEqProofs[hc,ha]
  ·simp at h1
   rw[Va h1] at hn
   have ha:s.all dI=true:=Vc.2 hn
   simp-implicitDefEqProofs[ha]
theorem Ft:VF Tryz.prog G fU [] (.p (aw keyW)):=by
 have key:AC Tryz.prog G fU [] [] λx h=>x= .ret (.sl 0 1 0 9)/\h=[.row 1 (keyW.map λw=>[.p (.str w)])]:=by
  refine AC.go yz ?_
  simp-implicitDefEqProofs[nV,keyW]
 exact AC.freeze key (.one (js (ls:=keyW.map λw=>[.str w]) (by simp) (by simp[keyW]) (by simp)) .nil)
theorem NG(s:List UInt8):VF Tryz.prog G nr [.p (.str s)] (.p (.bool (keyW.contains s))):=by
 refine AC.go Ck ?_
 have hsl:aw keyW= .lst 1 (keyW.map λw=>[.str w]):=rfl
 have hkl:keyW.length=9:=rfl
 simp-implicitDefEqProofs[tZ]
 refine(Ft G).use ?_
 simp-implicitDefEqProofs[]
 refine aO (λi:Nat=>ah 18 [(0,.p (.str s)),(3,.p (aw keyW)),(4,.p (.int .i64 i))]) (λ_=>[]) (λi=>i<=keyW.length/\∀w∈keyW.take i,w≠s) (λi=>keyW.length-i) 0 (by simp) ?_ ?_
 ·exact bx rfl (by simp[below,aw])
 ·intro i ⟨hi,hn⟩
  generalize keyW=L at*
  simp-implicitDefEqProofs[hsl]
  refine be (λh1=>?_) (λh1=>?_)
  ·simp at h1
   have hg:=UW h1
   by_cases he:L[i]=s
   ·have hm:s∈L:=by rw[←he];exact Vl h1
    simp-implicitDefEqProofs[hg,he,hm]
   ·simp-implicitDefEqProofs[hg,he]
    refine⟨i+1,⟨h1,λp hp=>?_⟩,by omega,bx rfl ?_⟩
    ·rw[aq h1] at hp
     rcases Vd.1 hp with hp|hp
     ·exact hn p hp
     ·rw[Ve.1 hp];exact he
    ·simp[below,w1 (i:=i) (by omega)]
  ·simp at h1
   rw[Va h1] at hn
   have hm:¬s∈L:=λhm=>hn s hm rfl
   simp-implicitDefEqProofs[hm]
theorem sZ(s:List UInt8)(hb:s.length<=140737488355328):VF Tryz.prog G cA [.p (.str s)] (.p (.bool (aG s))):=by
 refine AC.go Bb ?_
 simp-implicitDefEqProofs[rz]
 refine(Nu G s hb).use ?_
 cases h1:(s.all dI&&decide (0<s.length)) with
 |false=>
  have hi:aG s=false:=by rw[aG,h1];rfl
  simp-implicitDefEqProofs[hi]
 |true=>
  by_cases h4:s.length<=4
  ·have h4i:(s.length:Int)<=4:=by omega
   have hi:aG s= !keyW.contains s:=by rw[aG,h1];simp[h4]
   simp-implicitDefEqProofs[h4i]
   refine(NG G s).use ?_
   rw[hi]
   simp-implicitDefEqProofs[]
  ·have h4i:¬(s.length:Int)<=4:=by omega
   have hi:aG s=false:=by rw[aG,h1];simp[h4]
   simp-implicitDefEqProofs[h4i,hi]
end
section
inductive Ex where
 |mk (op n:Int) (name:List UInt8) (kids:List Ex)
inductive Sm where
 |mk (op:Int) (name:List UInt8) (args:List Ex) (body els:List Sm)
structure Fd where (name:List UInt8) (params:List (List UInt8)) (body:List Sm)
def Ex.op:Ex->Int| .mk o _ _ _=>o
def Ex.n:Ex->Int| .mk _ n _ _=>n
def Ex.name:Ex->List UInt8| .mk _ _ s _=>s
def Ex.kids:Ex->List Ex| .mk _ _ _ k=>k
def Sm.op:Sm->Int| .mk o _ _ _ _=>o
def Sm.name:Sm->List UInt8| .mk _ s _ _ _=>s
def Sm.args:Sm->List Ex| .mk _ _ a _ _=>a
def Sm.body:Sm->List Sm| .mk _ _ _ b _=>b
def Sm.els:Sm->List Sm| .mk _ _ _ _ e=>e
mutual
def Ex.cs:Ex->List PV
 | .mk o n s k=>[.int .i64 o,.int .i64 n,.str s,.lst 4 (LF k)]
def LF:List Ex->List (List PV)
 |[]=>[]
 |e::r=>e.cs::LF r
end
mutual
def Sm.cs:Sm->List PV
 | .mk o s a b e=>[.int .i64 o,.str s,.lst 4 (LF a),.lst 5 (KB b),.lst 5 (KB e)]
def KB:List Sm->List (List PV)
 |[]=>[]
 |s::r=>s.cs::KB r
end
theorem yZ:∀l:List Ex,LF l=l.map Ex.cs
 |[]=>rfl
 |e::r=>by rw[LF,yZ r];rfl
theorem zo:∀l:List Sm,KB l=l.map Sm.cs
 |[]=>rfl
 |e::r=>by rw[KB,zo r];rfl
def exL(l:List Ex):PV:= .lst 4 (l.map Ex.cs)
def smL(l:List Sm):PV:= .lst 5 (l.map Sm.cs)
theorem Ex.cs_eq(e:Ex):e.cs=[.int .i64 e.op,.int .i64 e.n,.str e.name,exL e.kids]:=by
 cases e;rw[Ex.cs,yZ];rfl
theorem Sm.cs_eq(s:Sm):s.cs=[.int .i64 s.op,.str s.name,exL s.args,smL s.body,smL s.els]:=by
 cases s;rw[Sm.cs,yZ,zo,zo];rfl
@[simp] theorem Ex.cs_len(e:Ex):e.cs.length=4:=by cases e;rfl
@[simp] theorem Ex.cs_take(e:Ex):List.take 4 (e.cs.map AV.p)=e.cs.map AV.p:=by cases e;rfl
@[simp] theorem Sm.cs_len(s:Sm):s.cs.length=5:=by cases s;rfl
@[simp] theorem Sm.cs_take(s:Sm):List.take 5 (s.cs.map AV.p)=s.cs.map AV.p:=by cases s;rfl
def Fd.cs(f:Fd):List PV:=[.str f.name,aw f.params,smL f.body]
@[simp] theorem Fd.cs_len(f:Fd):f.cs.length=3:=rfl
@[simp] theorem Fd.cs_take(f:Fd):List.take 3 (f.cs.map AV.p)=f.cs.map AV.p:=rfl
def fdL(l:List Fd):PV:= .lst 3 (l.map Fd.cs)
mutual
def Ex.sz:Ex->Nat
 | .mk _ _ s k=>1+s.length+br k
def br:List Ex->Nat
 |[]=>0
 |e::r=>e.sz+br r
end
mutual
def Sm.sz:Sm->Nat
 | .mk _ s a b e=>1+s.length+br a+aC b+aC e
def aC:List Sm->Nat
 |[]=>0
 |s::r=>s.sz+aC r
end
def Fd.sz(f:Fd):Nat:=1+f.name.length+(f.params.length+(f.params.map List.length).sum)+aC f.body
def aH(l:List Fd):Nat:=(l.map Fd.sz).sum
theorem Ex.sz_eq(e:Ex):e.sz=1+e.name.length+br e.kids:=by cases e;rfl
theorem Sm.sz_eq(s:Sm):s.sz=1+s.name.length+br s.args+aC s.body+aC s.els:=by cases s;rfl
theorem eN:∀a b:List Ex,br (a++b)=br a+br b
 |[],b=>by simp[br]
 |e::r,b=>by simp only[VH,br,eN r b];omega
theorem bC:∀a b:List Sm,aC (a++b)=aC a+aC b
 |[],b=>by simp[aC]
 |e::r,b=>by simp only[VH,aC,bC r b];omega
theorem bT:∀{l:List Ex} {e:Ex},e∈l->e.sz<=br l
 |x::r,e,h=>by
  simp only[br]
  rcases Vf.1 h with rfl|h
  ·omega
  ·have:=bT h;omega
theorem dQ:∀{l:List Sm} {e:Sm},e∈l->e.sz<=aC l
 |x::r,e,h=>by
  simp only[aC]
  rcases Vf.1 h with rfl|h
  ·omega
  ·have:=dQ h;omega
theorem bH:∀l:List Ex,l.length<=br l
 |[]=>Vi _
 |e::r=>by have:=bH r;have:=e.sz_eq;simp only[br,Vo];omega
theorem cb:∀l:List Sm,l.length<=aC l
 |[]=>Vi _
 |e::r=>by have:=cb r;have:=e.sz_eq;simp only[aC,Vo];omega
mutual
def Ex.parts:Ex->Nat
 | .mk _ _ _ k=>1+ga k
def ga:List Ex->Nat
 |[]=>0
 |e::r=>e.parts+ga r
end
theorem Ex.parts_eq(e:Ex):e.parts=1+ga e.kids:=by cases e;rfl
theorem ju:∀a b:List Ex,ga (a++b)=ga a+ga b
 |[],b=>by simp[ga]
 |e::r,b=>by simp only[VH,ga,ju r b];omega
mutual
theorem Ex.parts_le:∀e:Ex,e.parts<=e.sz
 | .mk _ _ s k=>by have:=Cp k;simp only[Ex.parts,Ex.sz];omega
theorem Cp:∀l:List Ex,ga l<=br l
 |[]=>Vi _
 |e::r=>by have:=e.parts_le;have:=Cp r;simp only[ga,br];omega
end
mutual
def Sm.cnt:Sm->Nat
 | .mk _ _ _ b e=>1+dB b+dB e
def dB:List Sm->Nat
 |[]=>0
 |s::r=>s.cnt+dB r
end
theorem Sm.cnt_eq(s:Sm):s.cnt=1+dB s.body+dB s.els:=by cases s;rfl
theorem oF:∀a b:List Sm,dB (a++b)=dB a+dB b
 |[],b=>by simp[dB]
 |e::r,b=>by simp only[VH,dB,oF r b];omega
mutual
theorem Sm.cnt_le:∀s:Sm,s.cnt<=s.sz
 | .mk _ s a b e=>by have:=pG b;have:=pG e;simp only[Sm.cnt,Sm.sz];omega
theorem pG:∀l:List Sm,dB l<=aC l
 |[]=>Vi _
 |e::r=>by have:=e.cnt_le;have:=pG r;simp only[dB,aC];omega
end
def inR(n lo hi:Int):Bool:=decide (lo<=n)&&decide (n<=hi)
def loK(op:Int):Nat:=if op=1\/op=2 then 0 else if op=11\/op=12 then 1 else if op=13 then 0 else 2
def hiK(op:Int):Nat:=if op=1\/op=2 then 0 else if op=11\/op=12 then 1 else if op=13 then 3 else 2
def Es(op:Int):Bool:=decide (op=2)||decide (op=13)
def md(e:Ex):Bool:=inR e.op 1 13&&inR e.kids.length (loK e.op) (hiK e.op)&&(Es e.op==aG e.name)&&(Es e.op||decide (e.name=[]))&&inR e.n 0 255&&(decide (e.op=1)||decide (e.n=0))
def bZ:Nat->Ex->Bool
 |0,_=>false
 |d+1,e=>md e&&e.kids.all (bZ d)
def lz(e:Ex):Bool:=bZ 6 e&&decide (e.parts<=30)
def gw(op:Int):Nat:=if op=4 then 2 else 1
def cN(op:Int):Bool:=decide (op=1)||decide (op=2)
def iJ(s:Sm):Bool:=inR s.op 1 8&&decide (s.args.length=gw s.op)&&(cN s.op==aG s.name)&&(cN s.op||decide (s.name=[]))&&s.args.all lz&&
 (!decide (s.op=8)||(match s.args with|a::_=>decide (a.op=13)|[]=>false))&&(s.els.isEmpty||decide (s.op=5))&&(s.body.isEmpty||decide (s.op=5)||decide (s.op=6))
def az:Nat->Sm->Bool
 |0,_=>false
 |d+1,s=>iJ s&&s.body.all (az d)&&s.els.all (az d)
def jH(f:Fd):Bool:=f.params.all aG&&aG f.name&&decide (f.params.length<=3)&&f.body.all (az 4)
def gz(l:List Fd):Nat:=(l.map λf=>dB f.body).sum
def aY(l:List Fd):Bool:=inR l.length 1 4&&l.all jH&&decide (gz l<=40)
end
section
theorem gk{s:Bool}{h:List AO}{vs:List AV}{q:PV}{I:List Nat}(H:OwnL s h vs [q] I):∃v,vs=[v]:=by
 have:=H.len
 match vs,this with
 |[v],_=>exact⟨v,rfl⟩
theorem NU{s:Bool}{h:List AO}{vs:List AV}{q r:PV}{I:List Nat}(H:OwnL s h vs [q,r] I):∃a b,vs=[a,b]:=by
 have:=H.len
 match vs,this with
 |[a,b],_=>exact⟨a,b,rfl⟩
theorem Ii{s:Bool}{h:List AO}{vs:List AV}{q r t:PV}{I:List Nat}(H:OwnL s h vs [q,r,t] I):∃a b c,vs=[a,b,c]:=by
 have:=H.len
 match vs,this with
 |[a,b,c],_=>exact⟨a,b,c,rfl⟩
theorem FA{s:Bool}{h:List AO}{vs:List AV}{e:Ex}{I:List Nat}(H:OwnL s h vs e.cs I):∃K,vs=[.p (.int .i64 e.op),.p (.int .i64 e.n),.p (.str e.name),K]/\OwnL s h [K] [exL e.kids] I:=by
 rw[e.cs_eq] at H
 cases H with
 |p _ _ H=>
  cases H with
  |p _ _ H=>
   cases H with
   |p _ _ H=>
    obtain⟨v,rfl⟩:=gk H
    exact⟨v,rfl,H⟩
theorem Mx{s:Bool}{h:List AO}{o n:Int}{w:List UInt8}{k:List Ex}{K:AV}{I:List Nat}(H:OwnL s h [K] [exL k] I):OwnL s h [.p (.int .i64 o),.p (.int .i64 n),.p (.str w),K] (Ex.mk o n w k).cs I:=by
 rw[Ex.cs_eq]
 exact .p _ (λ_=>rfl) (.p _ (λ_=>rfl) (.p _ (λ_=>rfl) H))
theorem PC{s:Bool}{h:List AO}{vs:List AV}{e:Sm}{I:List Nat}(H:OwnL s h vs e.cs I):∃A B E I1 I2 I3,vs=[.p (.int .i64 e.op),.p (.str e.name),A,B,E]/\I=I1++(I2++I3)/\OwnL s h [A] [exL e.args] I1/\OwnL s h [B] [smL e.body] I2/\OwnL s h [E] [smL e.els] I3:=by
 rw[e.cs_eq] at H
 cases H with
 |p _ _ H=>
  cases H with
  |p _ _ H=>
   obtain⟨A,B,E,rfl⟩:=Ii H
   obtain⟨I1,I',rfl,h1,H⟩:=H.one
   obtain⟨I2,I3,rfl,h2,h3⟩:=H.one
   exact⟨A,B,E,I1,I2,I3,rfl,rfl,h1,h2,h3⟩
theorem Pv{s:Bool}{h:List AO}{o:Int}{w:List UInt8}{a:List Ex}{b e:List Sm}{A B E:AV}{I1 I2 I3:List Nat}(h1:OwnL s h [A] [exL a] I1)(h2:OwnL s h [B] [smL b] I2)(h3:OwnL s h [E] [smL e] I3):
 OwnL s h [.p (.int .i64 o),.p (.str w),A,B,E] (Sm.mk o w a b e).cs (I1++(I2++I3)):=by
 rw[Sm.cs_eq]
 exact .p _ (λ_=>rfl) (.p _ (λ_=>rfl) (h1.app (h2.app h3)))
theorem PE{s:Bool}{h:List AO}{vs:List AV}{f:Fd}{I:List Nat}(H:OwnL s h vs f.cs I):∃A B I1 I2,vs=[.p (.str f.name),A,B]/\I=I1++I2/\OwnL s h [A] [aw f.params] I1/\OwnL s h [B] [smL f.body] I2:=by
 rw[show f.cs=[.str f.name,aw f.params,smL f.body] from rfl] at H
 cases H with
 |p _ _ H=>
  obtain⟨A,B,rfl⟩:=NU H
  obtain⟨I1,I2,rfl,h1,H⟩:=H.one
  exact⟨A,B,I1,I2,rfl,rfl,h1,H⟩
theorem sC{s:Bool}{h:List AO}{w:List UInt8}{ps:List (List UInt8)}{b:List Sm}{A B:AV}{I1 I2:List Nat}(h1:OwnL s h [A] [aw ps] I1)(h2:OwnL s h [B] [smL b] I2):OwnL s h [.p (.str w),A,B] (Fd.mk w ps b).cs (I1++I2):=
 .p _ (λ_=>rfl) (h1.app h2)
end
section
def Fr(K:List Nat)(h h':List AO):Prop:=h.length<=h'.length/\∀i,i<h.length->i∉K->h'[i]?=h[i]?
theorem Fr.refl(K:List Nat)(h:List AO):Fr K h h:=⟨Vi _,λ_ _ _=>rfl⟩
theorem Fr.more(K:List Nat)(h os:List AO):Fr K h (h++os):=⟨by simp,λi hi _=>UU hi⟩
theorem Fr.trans{K K':List Nat}{h h1 h2:List AO}(a:Fr K h h1)(b:Fr K' h1 h2)(hk:∀i∈K',i∈K\/h.length<=i):Fr K h h2:=
 ⟨Vp a.1 b.1,λi hi hn=>by
   rw[b.2 i (Vr hi a.1) (λhm=>by
    rcases hk i hm with q|q
    ·exact hn q
    ·omega),a.2 i hi hn]⟩
theorem Fr.sub{K K':List Nat}{h h1:List AO}(a:Fr K h h1)(hk:∀i∈K,i∈K'\/h.length<=i):Fr K' h h1:=
 ⟨a.1,λi hi hn=>a.2 i hi λhm=>by
   rcases hk i hm with q|q
   ·exact hn q
   ·omega⟩
theorem Fr.from{K:List Nat}{h os h2:List AO}(a:Fr K (h++os) h2):Fr K h h2:=
 ⟨by have:=a.1;simp at this;omega,λi hi hn=>by rw[a.2 i (by simp;omega) hn,UU hi]⟩
theorem Sk(q:PV):(AV.p q).isCell=true:=rfl
theorem SC(a b c d:Nat):(AV.sl a b c d).isCell=true:=rfl
theorem Pc(a b c d:Nat):(AV.ptr a b c d).isCell=true:=rfl
theorem RL(q:PV):(AV.p q).cells=[AV.p q]:=rfl
theorem RY(a b c d:Nat):(AV.sl a b c d).cells=[AV.sl a b c d]:=rfl
theorem Pe(a b c d:Nat):(AV.ptr a b c d).cells=[AV.ptr a b c d]:=rfl
end
section
def TE(hF:List AO)(n:Nat)(o x y:AO):Prop:=
 (x= .dead/\y=o/\okO n o)\/(x= .dead/\y= .dead)\/(x=o/\y= .dead)\/(x= .dead/\∃sz e e1,o= .row sz [e]/\y= .row sz [e1]/\Fzs hF n e e1)
theorem Co{hF:List AO}{n:Nat}:∀(h:List AO) (X Y:Nat->AO->AO),(∀i o,h[i]?=some o->TE hF n o (X i o) (Y i o))->Thn hF n h (h.mapIdx X) (h.mapIdx Y)
 |[],_,_,_=>by rw[List.mapIdx_nil,List.mapIdx_nil];exact .nil
 |o::r,X,Y,H=>by
  rw[List.mapIdx_cons,List.mapIdx_cons]
  have ih:=Co (hF:=hF) (n:=n) r (λi=>X (i+1)) (λi=>Y (i+1)) λi o h=>H (i+1) o h
  rcases H 0 o rfl with⟨h1,h2,h3⟩|⟨h1,h2⟩|⟨h1,h2⟩|⟨h1,sz,e,e1,rfl,h2,h3⟩
  ·rw[h1,h2];exact .same h3 ih
  ·rw[h1,h2];exact .drop ih
  ·rw[h1,h2];exact .give ih
  ·rw[h1,h2];exact .one h3 ih
end
section
structure LV where (name:List UInt8) (num block:Nat)
structure WS where (vs:List LV) (count:Nat) (code:Int)
def fl(c k:Int):Int:=if c=0 then k else c
theorem zh{c k:Int}(h:c≠0):fl c k=c:=if_neg h
def lkV(vs:List LV)(s:List UInt8):Option LV:=vs.find? λv=>decide (v.name=s)
def bt(fns:List Fd)(s:List UInt8):Option Nat:=fns.findIdx? λf=>decide (f.name=s)
def tC(fns:List Fd)(j:Nat):Nat:=match fns[j]? with|some f=>f.params.length|none=>0
def pg(vs:List LV)(s:List UInt8)(c:Int):Int:=match lkV vs s with|none=>fl c 3|some _=>c
def kD(fns:List Fd)(k:Nat)(s:List UInt8)(n:Nat)(c:Int):Int:=
 match bt fns s with|none=>fl c 4|some j=>if k<=j then fl c 4 else if tC fns j=n then c else fl c 5
def gu(fns:List Fd)(k:Nat)(vs:List LV)(o:Int)(s:List UInt8)(n:Nat)(c:Int):Int:=
 if o=2 then pg vs s c else if o=13 then kD fns k s n c else c
mutual
def mK(fns:List Fd)(k:Nat)(vs:List LV):Ex->Int->Int
 | .mk o _ s ks,c=>bj fns k vs ks (gu fns k vs o s ks.length c)
def bj(fns:List Fd)(k:Nat)(vs:List LV):List Ex->Int->Int
 |[],c=>c
 |e::r,c=>bj fns k vs r (mK fns k vs e c)
end
def vnm(n:Nat):List UInt8:=[118,UInt8.ofNat (97+n%26)]
def AE(vs:List LV)(s:List UInt8):List UInt8:=match lkV vs s with|none=>s|some v=>vnm v.num
mutual
def rnE(vs:List LV):Ex->Ex
 | .mk o n s ks=> .mk o n (if o=2 then AE vs s else s) (la vs ks)
def la(vs:List LV):List Ex->List Ex
 |[]=>[]
 |e::r=>rnE vs e::la vs r
end
def nZ(vs:List LV)(s:List UInt8)(b:Nat)(c:Int):Int:=match lkV vs s with|none=>c|some v=>if v.block=b then fl c 2 else c
def gn(w:WS)(s:List UInt8)(b:Nat):WS:=⟨⟨s,w.count,b⟩::w.vs,w.count+1,nZ w.vs s b w.code⟩
def opW(o:Int)(s:List UInt8)(b:Nat)(w:WS):WS:=if o=1 then gn w s b else if o=2 then⟨w.vs,w.count,pg w.vs s w.code⟩ else w
def opN(o:Int)(s:List UInt8)(w:WS):List UInt8:=if o=1 then vnm w.count else if o=2 then AE w.vs s else s
def WS.back(w:WS)(vs:List LV):WS:=⟨vs,w.count,w.code⟩
mutual
def stW(fns:List Fd)(k b:Nat):Sm->WS->WS
 | .mk o s a bd el,w=>
   let w2:=opW o s b ⟨w.vs,w.count,bj fns k w.vs a w.code⟩
   let w3:=(bv fns k (b+1) bd w2).back w2.vs
   (bv fns k (b+1) el w3).back w2.vs
def bv(fns:List Fd)(k b:Nat):List Sm->WS->WS
 |[],w=>w
 |s::r,w=>bv fns k b r (stW fns k b s w)
end
def bz(ps:List (List UInt8))(w:WS):WS:=ps.foldl (λw s=>gn w s 0) w
def fnW(fns:List Fd)(k:Nat)(f:Fd):WS:=bv fns k 0 f.body (bz f.params ⟨[],0,if bt fns f.name=some k then 0 else 2⟩)
def iK(fns:List Fd):Nat->List Fd->Int
 |_,[]=>0
 |k,f::r=>if(fnW fns k f).code=0 then iK fns (k+1) r else(fnW fns k f).code
def aJ(fns:List Fd):Int:=if aY fns then iK fns 0 fns else 1
abbrev Scp:=List (List UInt8 × Nat)
def dW(m:Scp)(s:List UInt8):Option Nat:=(m.find? λx=>decide (x.1=s)).map (·.2)
def gy:Scp->List UInt8->Nat->Scp
 |[],s,n=>[(s,n)]
 |x::r,s,n=>if x.1=s then(s,n)::r else x::gy r s n
def jO:List Scp->List UInt8->Option Nat
 |[],_=>none
 |m::r,s=>match dW m s with|some n=>some n|none=>jO r s
def gl(fns:List Fd)(k:Nat)(ch:List Scp)(c:Int)(e:Ex):Int:=
 if e.op=2 then(if(jO ch e.name).isSome then c else fl c 3)
 else if e.op=13 then(match bt (fns.take k) e.name with|none=>fl c 4|some j=>if tC fns j=e.kids.length then c else fl c 5)
 else c
mutual
def Ex.pre:Ex->List Ex
 | .mk o n s ks=> .mk o n s ks::dr ks
def dr:List Ex->List Ex
 |[]=>[]
 |e::r=>e.pre++dr r
end
def Fu(fns:List Fd)(k:Nat)(ch:List Scp)(l:List Ex)(c:Int):Int:=(dr l).foldl (gl fns k ch) c
def opS(o:Int)(s:List UInt8)(m:Scp)(n:Nat):Scp:=if o=1 then gy m s n else m
def opC(o:Int)(s:List UInt8)(m:Scp)(up:List Scp)(c:Int):Int:=
 if o=1 then(if(dW m s).isSome then fl c 2 else c) else if o=2 then(if(jO (m::up) s).isSome then c else fl c 3) else c
mutual
def icS(fns:List Fd)(k:Nat):Sm->Scp->List Scp->Int->Scp × Int
 | .mk o s a bd el,m,up,c=>
   let m2:=opS o s m 0
   let c2:=opC o s m up (Fu fns k (m::up) a c)
   (m2,if o=5\/o=6 then(iC fns k el [] (m2::up) (iC fns k bd [] (m2::up) c2).2).2 else c2)
def iC(fns:List Fd)(k:Nat):List Sm->Scp->List Scp->Int->Scp × Int
 |[],m,_,c=>(m,c)
 |s::r,m,up,c=>iC fns k r (icS fns k s m up c).1 up (icS fns k s m up c).2
end
def jp(ps:List (List UInt8))(m:Scp)(c:Int):Scp × Int:=ps.foldl (λx s=>(gy x.1 s 0,if(dW x.1 s).isSome then fl x.2 2 else x.2)) (m,c)
def icF(fns:List Fd)(k:Nat)(f:Fd)(c:Int):Int:=
 let c1:=if(match bt fns f.name with|some j=>decide (j<k)|none=>true) then fl c 2 else c
 let x:=jp f.params [] c1
 (iC fns k f.body x.1 [] x.2).2
def lq(fns:List Fd):Nat->List Fd->Int->Int
 |_,[],c=>c
 |k,f::r,c=>lq fns (k+1) r (icF fns k f c)
def SR(g:LV->Nat):Nat->List LV->List Scp->Prop
 |_,_,[]=>False
 |b,vs,m::up=>∃v1 v2,vs=v1++v2/\(∀v∈v1,v.block=b)/\(∀s,(lkV v1 s).map g=dW m s)/\match b with
  |0=>v2=[]/\up=[]
  |b+1=>SR g b v2 up
theorem yF(a b:List LV)(s:List UInt8):lkV (a++b) s=match lkV a s with|some v=>some v|none=>lkV b s:=by
 simp only[lkV,List.find?_append]
 cases List.find? (λv=>decide (v.name=s)) a<;>rfl
variable {g:LV->Nat}
theorem SR.blk:∀{b:Nat} {vs:List LV} {ch:List Scp},SR g b vs ch->∀v∈vs,v.block<=b
 |b,_,[],h,v,hv=>by cases b<;>exact False.elim h
 |0,vs,m::up,⟨v1,v2,e,h1,_,h3,_⟩,v,hv=>by
  subst e;subst h3
  rw[VP] at hv
  exact Nat.le_of_eq (h1 v hv)
 |b+1,vs,m::up,⟨v1,v2,e,h1,_,h3⟩,v,hv=>by
  subst e
  rcases Vd.1 hv with h|h
  ·exact Nat.le_of_eq (h1 v h)
  ·exact Nat.le_succ_of_le (SR.blk h3 v h)
theorem SR.fnd:∀{b:Nat} {vs:List LV} {ch:List Scp},SR g b vs ch->∀s,(lkV vs s).map g=jO ch s
 |b,_,[],h,s=>by cases b<;>exact False.elim h
 |0,vs,m::up,⟨v1,v2,e,h1,h2,h3,h4⟩,s=>by
  subst e;subst h3;subst h4
  rw[VP,h2,jO]
  cases dW m s<;>rfl
 |b+1,vs,m::up,⟨v1,v2,e,h1,h2,h3⟩,s=>by
  subst e
  have ih:=SR.fnd h3 s
  have h2:=h2 s
  rw[yF,jO,←h2]
  cases e1:lkV v1 s with
  |some v=>rfl
  |none=>exact ih
theorem SR.is{b:Nat}{vs:List LV}{ch:List Scp}(h:SR g b vs ch)(s:List UInt8):(lkV vs s).isSome=(jO ch s).isSome:=by rw[←h.fnd s,Option.isSome_map]
theorem yI{vs:List LV}{s:List UInt8}{v:LV}(h:lkV vs s=some v):v∈vs:=List.mem_of_find?_eq_some h
theorem SR.put:∀{b:Nat} {vs:List LV} {m:Scp} {up:List Scp},SR g b vs (m::up)->∀(s:List UInt8) (c:Int),nZ vs s b c=if(dW m s).isSome then fl c 2 else c:=by
 intro b vs m up h s c
 have key:∀v1 v2:List LV,(∀v∈v1,v.block=b)->(lkV v1 s).map g=dW m s->(∀v∈v2,v.block≠b)->nZ (v1++v2) s b c=if(dW m s).isSome then fl c 2 else c:=by
  intro v1 v2 h1 h2 h3
  rw[←h2,nZ,yF]
  cases e1:lkV v1 s with
  |some v=>simp[h1 v (yI e1)]
  |none=>
   cases e2:lkV v2 s with
   |none=>rfl
   |some v=>simp[h3 v (yI e2)]
 match b,h with
 |0,⟨v1,v2,e,h1,h2,h3,_⟩=>subst e;subst h3;exact key v1 [] h1 (h2 s) (λv hv=>by simp at hv)
 |b+1,⟨v1,v2,e,h1,h2,h3⟩=>subst e;exact key v1 v2 h1 (h2 s) (λv hv e=>by have:=h3.blk v hv;omega)
theorem DX:∀(m:Scp) (s:List UInt8) (n:Nat) (t:List UInt8),dW (gy m s n) t=if s=t then some n else dW m t
 |[],s,n,t=>by
  by_cases h:s=t
  ·simp[gy,dW,h]
  ·simp[gy,dW,h]
 |x::r,s,n,t=>by
  have ih:=DX r s n t
  simp only[dW] at ih
  by_cases hx:x.1=s
  ·by_cases h:s=t
   ·simp[gy,dW,hx,h]
   ·have:¬x.1=t:=by rw[hx];exact h
    simp[gy,dW,hx,h]
  ·by_cases ht:x.1=t
   ·have:¬s=t:=λe=>hx (ht.trans e.symm)
    rw[gy,if_neg hx,if_neg this];simp[dW,ht]
   ·simp only[gy,dW,if_neg hx,List.find?_cons,ht,decide_false]
    exact ih
theorem SR.add{b:Nat}{vs:List LV}{m:Scp}{up:List Scp}(h:SR g b vs (m::up))(s:List UInt8)(n k:Nat)(hg:g ⟨s,n,b⟩=k):SR g b (⟨s,n,b⟩::vs) (gy m s k::up):=by
 have key:∀v1:List LV,(∀s,(lkV v1 s).map g=dW m s)->∀t,(lkV (⟨s,n,b⟩::v1) t).map g=dW (gy m s k) t:=by
  intro v1 h2 t
  rw[DX]
  by_cases e:s=t
  ·simp[lkV,e,←hg]
  ·rw[if_neg e,←h2 t];simp[lkV,e]
 match b,h with
 |0,⟨v1,v2,e,h1,h2,h3⟩=>
  subst e
  refine⟨⟨s,n,0⟩::v1,v2,rfl,λv hv=>?_,key v1 h2,h3⟩
  rcases Vf.1 hv with rfl|hv
  ·rfl
  ·exact h1 v hv
 |b+1,⟨v1,v2,e,h1,h2,h3⟩=>
  subst e
  refine⟨⟨s,n,b+1⟩::v1,v2,rfl,λv hv=>?_,key v1 h2,h3⟩
  rcases Vf.1 hv with rfl|hv
  ·rfl
  ·exact h1 v hv
theorem SR.open{b:Nat}{vs:List LV}{ch:List Scp}(h:SR g b vs ch):SR g (b+1) vs ([]::ch):=⟨[],vs,rfl,λv hv=>by simp at hv,λs=>rfl,h⟩
theorem SR.base:SR g 0 [] [[]]:=⟨[],[],rfl,λv hv=>by simp at hv,λs=>rfl,rfl,rfl⟩
theorem Cu{α:Type}{p:α->Bool}{l:List α}{k:Nat}:(l.take k).findIdx? p=match l.findIdx? p with|some j=>if j<k then some j else none|none=>none:=by
 cases h:l.findIdx? p with
 |none=>
  rw[VB] at h⊢
  exact λx hx=>h x (VK hx)
 |some j=>
  rw[Vn] at h
  obtain⟨h1,h2,h3⟩:=h
  simp only
  split
  ·rename_i hj
   rw[Vn]
   exact⟨by rw[Vs];omega,by rw[List.getElem_take];exact h2,λi hi=>by rw[List.getElem_take];exact h3 i hi⟩
  ·rename_i hj
   rw[VB]
   intro x hx
   obtain⟨i,hi,rfl⟩:=Wc.1 hx
   simpa using h3 i (by omega)
theorem LZ(fns:List Fd)(k:Nat){vs:List LV}{ch:List Scp}(h:∀s,(lkV vs s).isSome=(jO ch s).isSome)(e:Ex)(c:Int):gu fns k vs e.op e.name e.kids.length c=gl fns k ch c e:=by
 unfold gu gl
 split
 ·rw[←h,pg];cases lkV vs e.name<;>rfl
 ·split
  ·rw[kD,bt,bt,Cu]
   cases List.findIdx? (λf=>decide (f.name=e.name)) fns with
   |none=>rfl
   |some j=>
    simp only
    by_cases hj:j<k
    ·rw[if_neg (by omega),if_pos hj]
    ·rw[if_pos (by omega),if_neg hj]
  ·rfl
mutual
theorem OE(fns:List Fd)(k:Nat){vs:List LV}{ch:List Scp}(h:∀s,(lkV vs s).isSome=(jO ch s).isSome):∀(e:Ex) (c:Int),mK fns k vs e c=e.pre.foldl (gl fns k ch) c
 | .mk o n s ks,c=>by
   rw[mK,Ex.pre,List.foldl_cons,←Ao fns k h ks,←LZ fns k h];rfl
theorem Ao(fns:List Fd)(k:Nat){vs:List LV}{ch:List Scp}(h:∀s,(lkV vs s).isSome=(jO ch s).isSome):∀(l:List Ex) (c:Int),bj fns k vs l c=(dr l).foldl (gl fns k ch) c
 |[],c=>rfl
 |e::r,c=>by rw[bj,dr,List.foldl_append,OE fns k h e,Ao fns k h r]
end
abbrev g0:LV->Nat:=λ_=>0
theorem Qg{b:Nat}{w:WS}{m:Scp}{up:List Scp}(h:SR g0 b w.vs (m::up))(o:Int)(s:List UInt8):SR g0 b (opW o s b w).vs (opS o s m 0::up)/\(opW o s b w).code=opC o s m up w.code:=by
 unfold opW opS opC
 by_cases h1:o=1
 ·simp only[h1,if_true]
  exact⟨h.add s _ 0 rfl,h.put s _⟩
 ·simp only[if_neg h1]
  split
  ·refine⟨h,?_⟩
   have:=h.is s
   simp only[pg]
   rw[←this]
   cases lkV w.vs s<;>rfl
  ·exact⟨h,rfl⟩
theorem FZ{d:Nat}{o:Int}{s:List UInt8}{a:List Ex}{bd el:List Sm}(h:az (d+1) (.mk o s a bd el)=true):bd.all (az d)=true/\el.all (az d)=true/\(¬(o=5\/o=6)->bd=[]/\el=[]):=by
 simp only[az,iJ,Sm.op,Sm.body,Sm.els,Vm,Bool.or_eq_true,decide_eq_true_eq,List.isEmpty_iff] at h
 refine⟨h.1.2,h.2,λhn=>⟨?_,?_⟩⟩
 ·rcases h.1.1.2 with(h|h)|h
  ·exact h
  ·exact absurd (.inl (of_decide_eq_true h)) hn
  ·exact absurd (.inr (of_decide_eq_true h)) hn
 ·rcases h.1.1.1.2 with h|h
  ·exact h
  ·exact absurd (.inl (of_decide_eq_true h)) hn
theorem cF(w:WS)(vs:List LV):(w.back vs).code=w.code:=rfl
theorem Qm(fns:List Fd)(k:Nat):∀(d b:Nat) (l:List Sm),l.all (az d)=true->∀(w:WS) (m:Scp) (up:List Scp),SR g0 b w.vs (m::up)->
 SR g0 b (bv fns k b l w).vs ((iC fns k l m up w.code).1::up)/\(bv fns k b l w).code=(iC fns k l m up w.code).2:=by
 intro d
 induction d with
 |zero=>
  intro b l hl w m up h
  cases l with
  |nil=>exact⟨h,rfl⟩
  |cons s r=>simp[az] at hl
 |succ d ih=>
  have dN:∀(b:Nat) (s:Sm),az (d+1) s=true->∀(w:WS) (m:Scp) (up:List Scp),SR g0 b w.vs (m::up)->
   SR g0 b (stW fns k b s w).vs ((icS fns k s m up w.code).1::up)/\(stW fns k b s w).code=(icS fns k s m up w.code).2:=by
   intro b s hs w m up h
   obtain⟨o,n,a,bd,el⟩:=s
   obtain⟨f1,f2,f3⟩:=FZ hs
   have hc:=Ao fns k h.is a w.code
   obtain⟨g1,g2⟩:=Qg (w:=⟨w.vs,w.count,bj fns k w.vs a w.code⟩) h o n
   rw[stW,icS]
   simp only[hc] at g1 g2⊢
   generalize hw2:opW o n b ⟨w.vs,w.count,(dr a).foldl (gl fns k (m::up)) w.code⟩=w2 at*
   refine⟨g1,?_⟩
   rw[cF]
   have g2':w2.code=opC o n m up (Fu fns k (m::up) a w.code):=g2
   rw[←g2']
   by_cases ho:o=5\/o=6
   ·rw[if_pos ho]
    have k1:=ih (b+1) bd f1 w2 [] _ g1.open
    have k2:=ih (b+1) el f2 ((bv fns k (b+1) bd w2).back w2.vs) [] _ g1.open
    rw[k2.2,cF,k1.2]
   ·obtain⟨rfl,rfl⟩:=f3 ho
    rw[if_neg ho]
    simp[bv,WS.back]
  intro b l
  induction l with
  |nil=>intro _ w m up h;exact⟨h,rfl⟩
  |cons s r ihl=>
   intro hl w m up h
   rw[List.all_cons,Vm] at hl
   obtain⟨k1,k2⟩:=dN b s hl.1 w m up h
   have:=ihl hl.2 _ _ up k1
   rw[bv,iC,←k2]
   exact this
theorem CP:∀(ps:List (List UInt8)) (w:WS) (m:Scp),SR g0 0 w.vs [m]->SR g0 0 (bz ps w).vs [(jp ps m w.code).1]/\(bz ps w).code=(jp ps m w.code).2
 |[],w,m,h=>⟨h,rfl⟩
 |s::r,w,m,h=>by
  have hp:=h.put s w.code
  have:=CP r (gn w s 0) (gy m s 0) (h.add s w.count 0 rfl)
  simp only[bz,jp,List.foldl_cons] at this⊢
  rw[←hp]
  exact this
theorem LU{fns:List Fd}{k:Nat}{ch:List Scp}{c:Int}(h:c≠0)(e:Ex):gl fns k ch c e=c:=by
 unfold gl
 simp only[zh h]
 split
 ·split<;>rfl
 ·split
  ·split
   ·rfl
   ·split<;>rfl
  ·rfl
theorem BL{fns:List Fd}{k:Nat}{ch:List Scp}{c:Int}(h:c≠0):∀l:List Ex,l.foldl (gl fns k ch) c=c
 |[]=>rfl
 |e::r=>by rw[List.foldl_cons,LU h,BL h r]
theorem LX{o:Int}{s:List UInt8}{m:Scp}{up:List Scp}{c:Int}(h:c≠0):opC o s m up c=c:=by
 unfold opC
 simp only[zh h]
 split
 ·split<;>rfl
 ·split
  ·split<;>rfl
  ·rfl
mutual
theorem LR(fns:List Fd)(k:Nat){c:Int}(h:c≠0):∀(s:Sm) (m:Scp) (up:List Scp),(icS fns k s m up c).2=c
 | .mk o s a bd el,m,up=>by
   rw[icS]
   simp only[Fu,BL h,LX h]
   rw[pP fns k h bd,pP fns k h el,ite_self]
theorem pP(fns:List Fd)(k:Nat){c:Int}(h:c≠0):∀(l:List Sm) (m:Scp) (up:List Scp),(iC fns k l m up c).2=c
 |[],m,up=>rfl
 |s::r,m,up=>by rw[iC,LR fns k h s m up,pP fns k h r]
end
theorem vh{c:Int}(h:c≠0):∀(ps:List (List UInt8)) (m:Scp),(jp ps m c).2=c
 |[],m=>rfl
 |s::r,m=>by
  have:=vh h r (gy m s 0)
  simp only[jp,List.foldl_cons,zh h,ite_self] at this⊢
  exact this
theorem KE(fns:List Fd)(k:Nat)(f:Fd){c:Int}(h:c≠0):icF fns k f c=c:=by
 simp only[icF,zh h,ite_self]
 rw[vh h,pP fns k h]
theorem Ac(fns:List Fd){c:Int}(h:c≠0):∀(l:List Fd) (k:Nat),lq fns k l c=c
 |[],k=>rfl
 |f::r,k=>by rw[lq,KE fns k f h,Ac fns h r]
theorem BQ{fns:List Fd}{k:Nat}{f:Fd}(h:fns[k]?=some f):∃j,bt fns f.name=some j/\j<=k:=by
 cases e:bt fns f.name with
 |none=>
  rw[bt,VB] at e
  have:=e f (UZ h)
  simp at this
 |some j=>
  refine⟨j,rfl,?_⟩
  rw[bt,Vn] at e
  obtain⟨h1,h2,h3⟩:=e
  rcases VJ k j with hk|hk
  ·have:=h3 k hk
   obtain⟨a1,a2⟩:=US.1 h
   rw[a2] at this
   simp at this
  ·exact hk
theorem RM(fns:List Fd){k:Nat}{f:Fd}(hf:fns[k]?=some f)(hok:jH f=true):(fnW fns k f).code=icF fns k f 0:=by
 obtain⟨j,e1,e2⟩:=BQ hf
 have hb:f.body.all (az 4)=true:=by simp only[jH,Vm] at hok;exact hok.2
 have hc:(if bt fns f.name=some k then(0:Int) else 2)=if(match bt fns f.name with|some j=>decide (j<k)|none=>true) then fl 0 2 else 0:=by
  rw[e1]
  by_cases h:j=k
  ·subst h;simp
  ·have:j<k:=by omega
   simp[h,this,fl]
 obtain⟨p1,p2⟩:=CP f.params ⟨[],0,if bt fns f.name=some k then(0:Int) else 2⟩ [] SR.base
 obtain⟨q1,q2⟩:=Qm fns k 4 0 f.body hb _ _ [] p1
 rw[fnW,q2,p2]
 simp only[icF,←hc]
theorem KK(fns:List Fd):∀(l:List Fd) (k:Nat),(∀i,l[i]?=fns[k+i]?)->l.all jH=true->iK fns k l=lq fns k l 0
 |[],k,_,_=>rfl
 |f::r,k,hl,ha=>by
  rw[List.all_cons,Vm] at ha
  have h0:fns[k]?=some f:=by have:=hl 0;simpa using this.symm
  have hr:∀i,r[i]?=fns[k+1+i]?:=λi=>by have:=hl (i+1);rw[Vk] at this;rw[this];congr 1;omega
  rw[iK,lq,RM fns h0 ha.1]
  split
  ·rename_i e;rw[e];exact KK fns r (k+1) hr ha.2
  ·rename_i e;rw[Ac fns e]
theorem FN(fns:List Fd):aJ fns=if aY fns then lq fns 0 fns 0 else 1:=by
 unfold aJ
 split
 ·rename_i h
  simp only[aY,Vm] at h
  exact KK fns fns 0 (λi=>by rw[VX]) h.1.2
 ·rfl
end
section
mutual
def rnS(fns:List Fd)(k b:Nat):Sm->WS->Sm
 | .mk o s a bd el,w=>
   let w2:=opW o s b ⟨w.vs,w.count,bj fns k w.vs a w.code⟩
   .mk o (opN o s w) (la w.vs a) (iA fns k (b+1) bd w2) (iA fns k (b+1) el ((bv fns k (b+1) bd w2).back w2.vs))
def iA(fns:List Fd)(k b:Nat):List Sm->WS->List Sm
 |[],_=>[]
 |s::r,w=>rnS fns k b s w::iA fns k b r (stW fns k b s w)
end
def nz:List (List UInt8)->WS->List (List UInt8)
 |[],_=>[]
 |s::r,w=>vnm w.count::nz r (gn w s 0)
def rnF(fns:List Fd)(k:Nat)(f:Fd):Fd:=
 ⟨f.name,nz f.params ⟨[],0,if bt fns f.name=some k then 0 else 2⟩,iA fns k 0 f.body (bz f.params ⟨[],0,if bt fns f.name=some k then 0 else 2⟩)⟩
mutual
def Jd:Sm->Nat
 | .mk o _ _ bd el=>(if o=1 then 1 else 0)+rA bd+rA el
def rA:List Sm->Nat
 |[]=>0
 |s::r=>Jd s+rA r
end
theorem uX(o:Int)(s:List UInt8)(b:Nat)(w:WS):(opW o s b w).count=w.count+if o=1 then 1 else 0:=by
 unfold opW
 split
 ·rfl
 ·split<;>rfl
mutual
theorem Ch(fns:List Fd)(k:Nat):∀(s:Sm) (b:Nat) (w:WS),(stW fns k b s w).count=w.count+Jd s
 | .mk o s a bd el,b,w=>by
   rw[stW,Jd]
   simp only[WS.back]
   rw[iU fns k el,iU fns k bd,uX];show w.count+_+_+_=_
   omega
theorem iU(fns:List Fd)(k:Nat):∀(l:List Sm) (b:Nat) (w:WS),(bv fns k b l w).count=w.count+rA l
 |[],b,w=>rfl
 |s::r,b,w=>by rw[bv,rA,iU fns k r,Ch fns k s];omega
end
mutual
theorem Oy:∀s:Sm,Jd s<=s.cnt
 | .mk o s a bd el=>by
   have:=tS bd
   have:=tS el
   simp only[Jd,Sm.cnt]
   split<;>omega
theorem tS:∀l:List Sm,rA l<=dB l
 |[]=>Vi _
 |s::r=>by have:=Oy s;have:=tS r;simp only[rA,dB];omega
end
theorem vD:∀(ps:List (List UInt8)) (w:WS),(bz ps w).count=w.count+ps.length
 |[],w=>rfl
 |s::r,w=>by
  have:=vD r (gn w s 0)
  simp only[bz,List.foldl_cons,Vo] at this⊢
  rw[this];simp only[gn];omega
theorem NK(o:Int)(s:List UInt8)(b:Nat)(w:WS):∃e,(opW o s b w).vs=e++w.vs:=by
 unfold opW
 split
 ·exact⟨[_],rfl⟩
 ·split<;>exact⟨[],rfl⟩
theorem FM(fns:List Fd)(k b:Nat)(o:Int)(s:List UInt8)(a:List Ex)(bd el:List Sm)(w:WS):(stW fns k b (.mk o s a bd el) w).vs=(opW o s b ⟨w.vs,w.count,bj fns k w.vs a w.code⟩).vs:=rfl
theorem ES(fns:List Fd)(k:Nat):∀(l:List Sm) (b:Nat) (w:WS),∃e,(bv fns k b l w).vs=e++w.vs
 |[],b,w=>⟨[],rfl⟩
 | .mk o s a bd el::r,b,w=>by
   obtain⟨e1,h1⟩:=ES fns k r b (stW fns k b (.mk o s a bd el) w)
   obtain⟨e2,h2⟩:=NK o s b ⟨w.vs,w.count,bj fns k w.vs a w.code⟩
   exact⟨e1++e2,by rw[bv,h1,FM,h2,VA]⟩
theorem Qz{o:Int}{s:List UInt8}{b:Nat}{w:WS}(h:w.vs.length<=w.count):(opW o s b w).vs.length<=(opW o s b w).count:=by
 unfold opW
 split
 ·simp[gn,h]
 ·split<;>exact h
theorem PW(fns:List Fd)(k:Nat){s:Sm}{b:Nat}{w:WS}(h:w.vs.length<=w.count):(stW fns k b s w).vs.length<=(stW fns k b s w).count:=by
 obtain⟨o,n,a,bd,el⟩:=s
 rw[Ch,FM]
 have:=Qz (o:=o) (s:=n) (b:=b) (w:=⟨w.vs,w.count,bj fns k w.vs a w.code⟩) h
 rw[uX] at this
 simp only[Jd]
 simp only at this
 omega
theorem Hb(fns:List Fd)(k:Nat):∀{l:List Sm} {b:Nat} {w:WS},w.vs.length<=w.count->(bv fns k b l w).vs.length<=(bv fns k b l w).count
 |[],_,_,h=>h
 |s::r,b,w,h=>Hb fns k (l:=r) (PW fns k h)
mutual
def Sm.pre(d:Nat):Sm->List (Sm × Nat)
 | .mk o s a bd el=>(.mk o s a bd el,d)::(bJ (d+1) bd++bJ (d+1) el)
def bJ(d:Nat):List Sm->List (Sm × Nat)
 |[]=>[]
 |s::r=>Sm.pre d s++bJ d r
end
theorem Sm.pre_eq(d:Nat)(s:Sm):s.pre d=(s,d)::(bJ (d+1) s.body++bJ (d+1) s.els):=by cases s;rfl
theorem sg(d:Nat):∀a b:List Sm,bJ d (a++b)=bJ d a++bJ d b
 |[],b=>rfl
 |s::r,b=>by rw[VH,bJ,bJ,sg d r b,VA]
theorem Ex.pre_eq(e:Ex):e.pre=e::dr e.kids:=by cases e;rfl
theorem tW:∀a b:List Ex,dr (a++b)=dr a++dr b
 |[],b=>rfl
 |e::r,b=>by rw[VH,dr,dr,tW r b,VA]
mutual
theorem Sm.pre_len:∀(s:Sm) (d:Nat),(s.pre d).length=s.cnt
 | .mk o s a bd el,d=>by simp only[Sm.pre,Sm.cnt,Vo,Vh,kY bd,kY el];omega
theorem kY:∀(l:List Sm) (d:Nat),(bJ d l).length=dB l
 |[],d=>rfl
 |s::r,d=>by simp only[bJ,dB,Vh,Sm.pre_len s,kY r]
end
end
section
theorem vn{vs:List LV}{s:List UInt8}{c:Int}(h:c≠0):pg vs s c=c:=by unfold pg;split<;>simp[zh h]
theorem Gn{fns:List Fd}{k:Nat}{s:List UInt8}{n:Nat}{c:Int}(h:c≠0):kD fns k s n c=c:=by
 unfold kD
 simp only[zh h]
 split
 ·rfl
 ·split
  ·rfl
  ·split<;>rfl
theorem GD{fns:List Fd}{k:Nat}{vs:List LV}{o:Int}{s:List UInt8}{n:Nat}{c:Int}(h:c≠0):gu fns k vs o s n c=c:=by
 unfold gu
 rw[vn h,Gn h]
 split
 ·rfl
 ·split<;>rfl
mutual
theorem Ix(fns:List Fd)(k:Nat)(vs:List LV){c:Int}(h:c≠0):∀e:Ex,mK fns k vs e c=c
 | .mk o n s ks=>by rw[mK,GD h,nv fns k vs h ks]
theorem nv(fns:List Fd)(k:Nat)(vs:List LV){c:Int}(h:c≠0):∀l:List Ex,bj fns k vs l c=c
 |[]=>rfl
 |e::r=>by rw[bj,Ix fns k vs h e,nv fns k vs h r]
end
theorem di{fns:List Fd}{k:Nat}{vs:List LV}{l:List Ex}{c:Int}(h:bj fns k vs l c=0):c=0:=by
 by_cases hc:c=0
 ·exact hc
 ·rw[nv fns k vs hc] at h;exact h
theorem BV{vs:List LV}{s:List UInt8}{c:Int}(h:pg vs s c=0):c=0/\∃v,lkV vs s=some v:=by
 by_cases hc:c=0
 ·refine⟨hc,?_⟩
  unfold pg at h
  cases e:lkV vs s with
  |some v=>exact⟨v,rfl⟩
  |none=>rw[e] at h;simp[fl,hc] at h
 ·rw[vn hc] at h;exact absurd h hc
theorem Fo{o:Int}{s:List UInt8}{b:Nat}{w:WS}(h:w.code≠0):(opW o s b w).code=w.code:=by
 unfold opW
 split
 ·simp only[gn,nZ,zh h]
  split
  ·rfl
  ·split<;>rfl
 ·split
  ·exact vn h
  ·rfl
mutual
theorem Ml(fns:List Fd)(k:Nat):∀(s:Sm) (b:Nat) (w:WS),w.code≠0->(stW fns k b s w).code=w.code
 | .mk o s a bd el,b,w,h=>by
   have e1:(bj fns k w.vs a w.code)=w.code:=nv fns k w.vs h a
   have e2:(opW o s b ⟨w.vs,w.count,bj fns k w.vs a w.code⟩).code=w.code:=by rw[Fo]<;>simp only[e1];exact h
   have e3:=pI fns k bd (b+1) (opW o s b ⟨w.vs,w.count,bj fns k w.vs a w.code⟩) (by rw[e2];exact h)
   rw[stW,cF,pI fns k el _ _ (by rw[cF,e3,e2];exact h),cF,e3,e2]
theorem pI(fns:List Fd)(k:Nat):∀(l:List Sm) (b:Nat) (w:WS),w.code≠0->(bv fns k b l w).code=w.code
 |[],b,w,h=>rfl
 |s::r,b,w,h=>by
  have e1:=Ml fns k s b w h
  rw[bv,pI fns k r b _ (by rw[e1];exact h),e1]
end
theorem bN{fns:List Fd}{k b:Nat}{l:List Sm}{w:WS}(h:(bv fns k b l w).code=0):w.code=0:=by
 by_cases hc:w.code=0
 ·exact hc
 ·rw[pI fns k l b w hc] at h;exact h
theorem tH{o:Int}{s:List UInt8}{b:Nat}{w:WS}(h:(opW o s b w).code=0):w.code=0:=by
 by_cases hc:w.code=0
 ·exact hc
 ·rw[Fo hc] at h;exact h
end
section
theorem lQ(fns:List Fd):∀(l:List Fd) (k:Nat),iK fns k l=0↔∀(i:Nat) (f:Fd),l[i]?=some f->(fnW fns (k+i) f).code=0
 |[],k=>by simp[iK]
 |f::r,k=>by
  rw[iK]
  have ih:=lQ fns r (k+1)
  constructor
  ·intro h i g hg
   by_cases h0:(fnW fns k f).code=0
   ·rw[if_pos h0] at h
    cases i with
    |zero=>cases hg;exact h0
    |succ i=>have:=ih.1 h i g (by simpa using hg);rwa[show k+(i+1)=k+1+i by omega]
   ·rw[if_neg h0] at h;exact absurd h h0
  ·intro h
   rw[if_pos (by have:=h 0 f rfl;rwa[Nat.add_zero] at this)]
   exact ih.2 λi g hg=>by have:=h (i+1) g (by simpa using hg);rwa[show k+(i+1)=k+1+i by omega] at this
theorem tL(l:List Fd):aJ l=0↔aY l=true/\∀(k:Nat) (f:Fd),l[k]?=some f->(fnW l k f).code=0:=by
 unfold aJ
 by_cases h:aY l=true
 ·rw[if_pos h,lQ];simp[h]
 ·rw[if_neg h];simp[h]
theorem eJ(l:List Fd):aY l=true↔(1<=l.length/\l.length<=4)/\(∀f∈l,jH f=true)/\gz l<=40:=by
 simp only[aY,inR,Vm,decide_eq_true_eq,Vc]
 constructor
 ·rintro⟨⟨⟨h1,h2⟩,h3⟩,h4⟩;exact⟨⟨by omega,by omega⟩,h3,h4⟩
 ·rintro⟨⟨h1,h2⟩,h3,h4⟩;exact⟨⟨⟨by omega,by omega⟩,h3⟩,h4⟩
def Fd.cut(f:Fd)(n:Nat):Fd:=⟨f.name,f.params,f.body.take n⟩
end
section
abbrev Sc5:=List (List UInt8 × Int)
structure S5 where (left:Nat) (said:List Int) (cells:List Int)
inductive O5 (α:Type) where
 |ok (a:α)
 |st (c:Int)
def bQ:Sc5->List UInt8->Option Int
 |[],_=>none
 |x::r,s=>if x.1=s then some x.2 else bQ r s
def sset:Sc5->List UInt8->Int->Sc5
 |[],_,_=>[]
 |x::r,s,n=>if x.1=s then(s,n)::r else x::sset r s n
def ig:List Sc5->List UInt8->Option Int
 |[],_=>none
 |m::r,s=>match bQ m s with|some n=>some n|none=>ig r s
def io:List Sc5->List UInt8->Int->List Sc5
 |[],_,_=>[]
 |m::r,s,n=>if(bQ m s).isSome then sset m s n::r else m::io r s n
def tr5(b:Bool):Int:=if b then 1 else 0
def Dn(op a b:Int):Option Int:=
 if op=3 then some ((a+b)%256) else if op=4 then some ((a-b+256)%256) else if op=5 then some (a*b%256) else if op=8 then some (tr5 (decide (a<b))) else if op=9 then some (tr5 (decide (a=b)))
 else if b=0 then none else if op=6 then some (a/b) else some (a%b)
def S5.say(s:S5)(n:Int):S5:=⟨s.left,s.said++[n],s.cells⟩
def S5.put(s:S5)(i:Nat)(n:Int):S5:=⟨s.left,s.said,s.cells.set i n⟩
def S5.at_(s:S5)(F:Nat):S5:=⟨F,s.said,s.cells⟩
def V5(n:Int):Prop:=0<=n/\n<=255
inductive J5 where
 |ex (k:Nat) (v:List Sc5) (s:S5) (e:Ex) (s':S5) (r:O5 Int)
 |exs (k:Nat) (v:List Sc5) (s:S5) (es:List Ex) (s':S5) (r:O5 (List Int))
 |cal (k:Nat) (us:List Int) (s:S5) (s':S5) (r:O5 Int)
 |stm (k:Nat) (v:List Sc5) (s:S5) (x:Sm) (v':List Sc5) (s':S5) (r:O5 (Option Int))
 |blk (k:Nat) (v:List Sc5) (s:S5) (xs:List Sm) (v':List Sc5) (s':S5) (r:O5 (Option Int))
 |lp (k:Nat) (v:List Sc5) (s:S5) (x:Sm) (v':List Sc5) (s':S5) (r:O5 (Option Int))
def GJ:O5 (Option Int)->O5 Int
 | .ok (some n)=> .ok n
 | .ok none=> .ok 0
 | .st c=> .st c
inductive Ev (l:List Fd):J5->Prop where
 |num {k v s e}:e.op=1->V5 e.n->Ev l (.ex k v s e s (.ok e.n))
 |var {k v s e n}:e.op=2->ig v e.name=some n->Ev l (.ex k v s e s (.ok n))
 |call {k v s e s1 us j s2 r}:e.op=13->Ev l (.exs k v s e.kids s1 (.ok us))->bt l e.name=some j->j<k->Ev l (.cal j us s1 s2 r)->Ev l (.ex k v s e s2 r)
 |callS {k v s e s1 c}:e.op=13->Ev l (.exs k v s e.kids s1 (.st c))->Ev l (.ex k v s e s1 (.st c))
 |firstS {k v s e a r s1 c}:3<=e.op->e.op<=12->e.kids=a::r->Ev l (.ex k v s a s1 (.st c))->Ev l (.ex k v s e s1 (.st c))
 |and0 {k v s e a b s1}:e.op=10->e.kids=[a,b]->Ev l (.ex k v s a s1 (.ok 0))->Ev l (.ex k v s e s1 (.ok 0))
 |and1 {k v s e a b s1 n s2 m}:e.op=10->e.kids=[a,b]->Ev l (.ex k v s a s1 (.ok n))->n≠0->Ev l (.ex k v s1 b s2 (.ok m))->Ev l (.ex k v s e s2 (.ok (tr5 (decide (m≠0)))))
 |andS {k v s e a b s1 n s2 c}:e.op=10->e.kids=[a,b]->Ev l (.ex k v s a s1 (.ok n))->n≠0->Ev l (.ex k v s1 b s2 (.st c))->Ev l (.ex k v s e s2 (.st c))
 |not {k v s e a s1 n}:e.op=11->e.kids=[a]->Ev l (.ex k v s a s1 (.ok n))->Ev l (.ex k v s e s1 (.ok (tr5 (decide (n=0)))))
 |at_ {k v s e a s1 n m}:e.op=12->e.kids=[a]->Ev l (.ex k v s a s1 (.ok (n:Nat)))->n<16->s1.cells[n]?=some m->Ev l (.ex k v s e s1 (.ok m))
 |atS {k v s e a s1 n}:e.op=12->e.kids=[a]->Ev l (.ex k v s a s1 (.ok n))->16<=n->Ev l (.ex k v s e s1 (.st 2))
 |bin {k v s e a b s1 n s2 m q}:3<=e.op->e.op<=9->e.kids=[a,b]->Ev l (.ex k v s a s1 (.ok n))->Ev l (.ex k v s1 b s2 (.ok m))->Dn e.op n m=some q->Ev l (.ex k v s e s2 (.ok q))
 |binS {k v s e a b s1 n s2 c}:3<=e.op->e.op<=9->e.kids=[a,b]->Ev l (.ex k v s a s1 (.ok n))->Ev l (.ex k v s1 b s2 (.st c))->Ev l (.ex k v s e s2 (.st c))
 |binD {k v s e a b s1 n s2 m}:3<=e.op->e.op<=9->e.kids=[a,b]->Ev l (.ex k v s a s1 (.ok n))->Ev l (.ex k v s1 b s2 (.ok m))->Dn e.op n m=none->Ev l (.ex k v s e s2 (.st 1))
 |nil {k v s}:Ev l (.exs k v s [] s (.ok []))
 |cons {k v s a r s1 n s2 ns}:Ev l (.ex k v s a s1 (.ok n))->Ev l (.exs k v s1 r s2 (.ok ns))->Ev l (.exs k v s (a::r) s2 (.ok (n::ns)))
 |consS {k v s a r s1 c}:Ev l (.ex k v s a s1 (.st c))->Ev l (.exs k v s (a::r) s1 (.st c))
 |consT {k v s a r s1 n s2 c}:Ev l (.ex k v s a s1 (.ok n))->Ev l (.exs k v s1 r s2 (.st c))->Ev l (.exs k v s (a::r) s2 (.st c))
 |cal {k f us s v' s' r}:l[k]?=some f->f.params.length=us.length->Ev l (.blk k [f.params.zip us] s f.body v' s' r)->Ev l (.cal k us s s' (GJ r))
 |bnil {k v s}:Ev l (.blk k v s [] v s (.ok none))
 |bfuel {k v s x r}:s.left=0->Ev l (.blk k v s (x::r) v s (.st 3))
 |bgo {k v s x r F v1 s1 v2 s2 q}:s.left=F+1->Ev l (.stm k v (s.at_ F) x v1 s1 (.ok none))->Ev l (.blk k v1 s1 r v2 s2 q)->Ev l (.blk k v s (x::r) v2 s2 q)
 |bend {k v s x r F v1 s1 q}:s.left=F+1->Ev l (.stm k v (s.at_ F) x v1 s1 q)->q≠ .ok none->Ev l (.blk k v s (x::r) v1 s1 q)
 |argS {k v s x a r s1 c}:x.op≠6->x.args=a::r->Ev l (.ex k v s a s1 (.st c))->Ev l (.stm k v s x v s1 (.st c))
 |slet {k v s x a s1 n m up}:x.op=1->x.args=[a]->Ev l (.ex k v s a s1 (.ok n))->v=m::up->bQ m x.name=none->Ev l (.stm k v s x ((m++[(x.name,n)])::up) s1 (.ok none))
 |sset {k v s x a s1 n}:x.op=2->x.args=[a]->Ev l (.ex k v s a s1 (.ok n))->(ig v x.name).isSome=true->Ev l (.stm k v s x (io v x.name n) s1 (.ok none))
 |ssay {k v s x a s1 n}:x.op=3->x.args=[a]->Ev l (.ex k v s a s1 (.ok n))->Ev l (.stm k v s x v (s1.say n) (.ok none))
 |sput {k v s x a b s1 n s2 m}:x.op=4->x.args=[a,b]->Ev l (.ex k v s a s1 (.ok (n:Nat)))->Ev l (.ex k v s1 b s2 (.ok m))->n<16->Ev l (.stm k v s x v (s2.put n m) (.ok none))
 |sputC {k v s x a b s1 n s2 m}:x.op=4->x.args=[a,b]->Ev l (.ex k v s a s1 (.ok n))->Ev l (.ex k v s1 b s2 (.ok m))->16<=n->Ev l (.stm k v s x v s2 (.st 2))
 |sputS {k v s x a b s1 n s2 c}:x.op=4->x.args=[a,b]->Ev l (.ex k v s a s1 (.ok n))->Ev l (.ex k v s1 b s2 (.st c))->Ev l (.stm k v s x v s2 (.st c))
 |sif {k v s x a s1 n m v' s2 q}:x.op=5->x.args=[a]->Ev l (.ex k v s a s1 (.ok n))->Ev l (.blk k ([]::v) s1 (if n≠0 then x.body else x.els) (m::v') s2 q)->Ev l (.stm k v s x v' s2 q)
 |sloop {k v s x v' s' q}:x.op=6->Ev l (.lp k v s x v' s' q)->Ev l (.stm k v s x v' s' q)
 |sback {k v s x a s1 n}:x.op=7->x.args=[a]->Ev l (.ex k v s a s1 (.ok n))->Ev l (.stm k v s x v s1 (.ok (some n)))
 |sdo {k v s x a s1 n}:x.op=8->x.args=[a]->Ev l (.ex k v s a s1 (.ok n))->Ev l (.stm k v s x v s1 (.ok none))
 |lpS {k v s x a s1 c}:x.args=[a]->Ev l (.ex k v s a s1 (.st c))->Ev l (.lp k v s x v s1 (.st c))
 |lp0 {k v s x a s1}:x.args=[a]->Ev l (.ex k v s a s1 (.ok 0))->Ev l (.lp k v s x v s1 (.ok none))
 |lpEnd {k v s x a s1 n m v' s2 q}:x.args=[a]->Ev l (.ex k v s a s1 (.ok n))->n≠0->Ev l (.blk k ([]::v) s1 x.body (m::v') s2 q)->q≠ .ok none->Ev l (.lp k v s x v' s2 q)
 |lpFuel {k v s x a s1 n m v' s2}:x.args=[a]->Ev l (.ex k v s a s1 (.ok n))->n≠0->Ev l (.blk k ([]::v) s1 x.body (m::v') s2 (.ok none))->s2.left=0->Ev l (.lp k v s x v' s2 (.st 3))
 |lpGo {k v s x a s1 n m v' s2 F v'' s3 q}:x.args=[a]->Ev l (.ex k v s a s1 (.ok n))->n≠0->Ev l (.blk k ([]::v) s1 x.body (m::v') s2 (.ok none))->s2.left=F+1->Ev l (.lp k v' (s2.at_ F) x v'' s3 q)->Ev l (.lp k v s x v'' s3 q)
end
section
structure G5 (s:S5):Prop where
 len:s.cells.length=16
 cells:∀c∈s.cells,V5 c
 said:∀c∈s.said,V5 c
def GE5(v:List Sc5):Prop:=∀m∈v,∀x∈m,V5 x.2
theorem Fk:∀{m:Sc5} {s:List UInt8} {n:Int},bQ m s=some n->(s,n)∈m
 |[],_,_,h=>by cases h
 |x::r,s,n,h=>by
  rw[bQ] at h
  by_cases e:x.1=s
  ·rw[if_pos e] at h;cases h;subst e;simp
  ·rw[if_neg e] at h;exact VO _ (Fk h)
theorem vg:∀{v:List Sc5} {s:List UInt8} {n:Int},GE5 v->ig v s=some n->V5 n
 |[],_,_,_,h=>by cases h
 |m::r,s,n,g,h=>by
  rw[ig] at h
  cases e:bQ m s with
  |some q=>
   rw[e] at h;cases h
   exact g m (by simp) _ (Fk e)
  |none=>
   rw[e] at h
   exact vg (λm hm=>g m (by simp[hm])) h
theorem BM:∀{m:Sc5} {s:List UInt8} {n:Int},(∀x∈m,V5 x.2)->V5 n->∀x∈sset m s n,V5 x.2
 |[],_,_,_,_,x,hx=>by cases hx
 |y::r,s,n,g,hn,x,hx=>by
  rw[sset] at hx
  split at hx
  ·rcases Vf.1 hx with rfl|hx
   ·exact hn
   ·exact g x (by simp[hx])
  ·rcases Vf.1 hx with rfl|hx
   ·exact g x (by simp)
   ·exact BM (λx hx=>g x (by simp[hx])) hn x hx
theorem BT:∀{v:List Sc5} {s:List UInt8} {n:Int},GE5 v->V5 n->GE5 (io v s n)
 |[],_,_,g,_=>g
 |m::r,s,n,g,hn=>by
  rw[io]
  split
  ·intro q hq
   rcases Vf.1 hq with rfl|hq
   ·exact BM (g m (by simp)) hn
   ·exact g q (by simp[hq])
  ·intro q hq
   rcases Vf.1 hq with rfl|hq
   ·exact g q (by simp)
   ·exact BT (λm hm=>g m (by simp[hm])) hn q hq
theorem ia(b:Bool):V5 (tr5 b):=by cases b<;>simp[tr5,V5]
theorem Cc{op a b n:Int}(ha:V5 a)(hb:V5 b)(h:Dn op a b=some n):V5 n:=by
 obtain⟨a0,a1⟩:=ha
 obtain⟨b0,b1⟩:=hb
 unfold Dn at h
 split at h
 ·cases h;unfold V5;omega
 split at h
 ·cases h;unfold V5;omega
 split at h
 ·cases h
  have:0<=a*b:=Int.mul_nonneg a0 b0
  unfold V5
  generalize a*b=q at*
  omega
 split at h
 ·cases h;exact ia _
 split at h
 ·cases h;exact ia _
 split at h
 ·cases h
 split at h
 ·cases h
  have h1:0<=a/b:=Int.ediv_nonneg a0 b0
  have h2:a/b<=a:=Int.ediv_le_self b a0
  exact⟨h1,by omega⟩
 ·cases h
  rename_i hb0 _
  have h1:0<=a%b:=Int.emod_nonneg a hb0
  have h2:a%b<b:=Int.emod_lt_of_pos a (by omega)
  exact⟨h1,by omega⟩
theorem G5.say{s:S5}(g:G5 s){n:Int}(hn:V5 n):G5 (s.say n):=⟨g.len,g.cells,λc hc=>by
 rcases Vd.1 hc with h|h
 ·exact g.said c h
 ·rw[Ve.1 h];exact hn⟩
theorem G5.put{s:S5}(g:G5 s)(i:Nat){n:Int}(hn:V5 n):G5 (s.put i n):=⟨by rw[←g.len];exact Vy,λc hc=>by
 rcases VR hc with h|h
 ·exact g.cells c h
 ·rw[h];exact hn,g.said⟩
theorem G5.at_{s:S5}(g:G5 s)(F:Nat):G5 (s.at_ F):=⟨g.len,g.cells,g.said⟩
def Uc:J5->Prop
 | .ex _ v s _ _ _=>G5 s/\GE5 v
 | .exs _ v s _ _ _=>G5 s/\GE5 v
 | .cal _ us s _ _=>G5 s/\∀n∈us,V5 n
 | .stm _ v s _ _ _ _=>G5 s/\GE5 v
 | .blk _ v s _ _ _ _=>G5 s/\GE5 v
 | .lp _ v s _ _ _ _=>G5 s/\GE5 v
def SO:J5->Prop
 | .ex _ _ s _ s' r=>G5 s'/\s'.left<=s.left/\∀n,r= .ok n->V5 n
 | .exs _ _ s es s' r=>G5 s'/\s'.left<=s.left/\∀ns,r= .ok ns->ns.length=es.length/\∀n∈ns,V5 n
 | .cal _ _ s s' r=>G5 s'/\s'.left<=s.left/\∀n,r= .ok n->V5 n
 | .stm _ _ s _ v' s' r=>G5 s'/\s'.left<=s.left/\GE5 v'/\∀n,r= .ok (some n)->V5 n
 | .blk _ _ s _ v' s' r=>G5 s'/\s'.left<=s.left/\GE5 v'/\∀n,r= .ok (some n)->V5 n
 | .lp _ _ s _ v' s' r=>G5 s'/\s'.left<=s.left/\GE5 v'/\∀n,r= .ok (some n)->V5 n
theorem GE5.tail{m:Sc5}{v:List Sc5}(g:GE5 (m::v)):GE5 v:=λq hq=>g q (by simp[hq])
theorem GE5.opn{v:List Sc5}(g:GE5 v):GE5 ([]::v):=λq hq=>by
 rcases Vf.1 hq with rfl|hq
 ·intro x hx;cases hx
 ·exact g q hq
theorem dd{l:List Fd}{j:J5}(h:Ev l j):Uc j->SO j:=by
 induction h with
 |num _ h=>exact λp=>⟨p.1,Vi _,λn e=>by cases e;exact h⟩
 |var _ h=>exact λp=>⟨p.1,Vi _,λn e=>by cases e;exact vg p.2 h⟩
 |call _ _ _ _ _ i1 i2=>
   intro p
   have a:=i1 p
   have b:=i2 ⟨a.1,(a.2.2 _ rfl).2⟩
   exact⟨b.1,Vp b.2.1 a.2.1,b.2.2⟩
 |callS _ _ i1=>
   intro p
   have a:=i1 p
   exact⟨a.1,a.2.1,λn e=>by cases e⟩
 |firstS _ _ _ _ i1=>
   intro p
   have a:=i1 p
   exact⟨a.1,a.2.1,λn e=>by cases e⟩
 |and0 _ _ _ i1=>
   intro p
   have a:=i1 p
   exact⟨a.1,a.2.1,λn e=>by cases e;exact⟨by omega,by omega⟩⟩
 |and1 _ _ _ _ _ i1 i2=>
   intro p
   have a:=i1 p
   have b:=i2 ⟨a.1,p.2⟩
   exact⟨b.1,Vp b.2.1 a.2.1,λn e=>by cases e;exact ia _⟩
 |andS _ _ _ _ _ i1 i2=>
   intro p
   have a:=i1 p
   have b:=i2 ⟨a.1,p.2⟩
   exact⟨b.1,Vp b.2.1 a.2.1,λn e=>by cases e⟩
 |not _ _ _ i1=>
   intro p
   have a:=i1 p
   exact⟨a.1,a.2.1,λn e=>by cases e;exact ia _⟩
 |at_ _ _ _ _ hm i1=>
   intro p
   have a:=i1 p
   exact⟨a.1,a.2.1,λn e=>by cases e;exact a.1.cells _ (UZ hm)⟩
 |atS _ _ _ _ i1=>
   intro p
   have a:=i1 p
   exact⟨a.1,a.2.1,λn e=>by cases e⟩
 |bin _ _ _ _ _ ht i1 i2=>
   intro p
   have a:=i1 p
   have b:=i2 ⟨a.1,p.2⟩
   exact⟨b.1,Vp b.2.1 a.2.1,λn e=>by cases e;exact Cc (a.2.2 _ rfl) (b.2.2 _ rfl) ht⟩
 |binS _ _ _ _ _ i1 i2=>
   intro p
   have a:=i1 p
   have b:=i2 ⟨a.1,p.2⟩
   exact⟨b.1,Vp b.2.1 a.2.1,λn e=>by cases e⟩
 |binD _ _ _ _ _ _ i1 i2=>
   intro p
   have a:=i1 p
   have b:=i2 ⟨a.1,p.2⟩
   exact⟨b.1,Vp b.2.1 a.2.1,λn e=>by cases e⟩
 |nil=>exact λp=>⟨p.1,Vi _,λns e=>by cases e;exact⟨rfl,λn h=>by cases h⟩⟩
 |cons _ _ i1 i2=>
   intro p
   have a:=i1 p
   have b:=i2 ⟨a.1,p.2⟩
   refine⟨b.1,Vp b.2.1 a.2.1,λns e=>?_⟩
   cases e
   obtain⟨k1,k2⟩:=b.2.2 _ rfl
   refine⟨by simp[k1],λn hn=>?_⟩
   rcases Vf.1 hn with rfl|hn
   ·exact a.2.2 _ rfl
   ·exact k2 n hn
 |consS _ i1=>
   intro p
   have a:=i1 p
   exact⟨a.1,a.2.1,λn e=>by cases e⟩
 |consT _ _ i1 i2=>
   intro p
   have a:=i1 p
   have b:=i2 ⟨a.1,p.2⟩
   exact⟨b.1,Vp b.2.1 a.2.1,λn e=>by cases e⟩
 | @cal k f us s v' s' r _ _ _ i1=>
    intro p
    have a:=i1 ⟨p.1,λm hm x hx=>by
     rw[Ve.1 hm] at hx
     exact p.2 _ (List.of_mem_zip hx).2⟩
    refine⟨a.1,a.2.1,λn e=>?_⟩
    match r,e with
    | .ok (some q),e=>cases e;exact a.2.2.2 _ rfl
    | .ok none,e=>cases e;exact⟨by omega,by omega⟩
 |bnil=>exact λp=>⟨p.1,Vi _,p.2,λn e=>by cases e⟩
 |bfuel _=>exact λp=>⟨p.1,Vi _,p.2,λn e=>by cases e⟩
 | @bgo k v s x r F v1 s1 v2 s2 q hF _ _ i1 i2=>
    intro p
    have a:=i1 ⟨p.1.at_ F,p.2⟩
    have b:=i2 ⟨a.1,a.2.2.1⟩
    have h1:s1.left<=F:=a.2.1
    exact⟨b.1,by have:=b.2.1;omega,b.2.2⟩
 | @bend k v s x r F v1 s1 q hF _ _ i1=>
    intro p
    have a:=i1 ⟨p.1.at_ F,p.2⟩
    have h1:s1.left<=F:=a.2.1
    exact⟨a.1,by omega,a.2.2⟩
 |argS _ _ _ i1=>
   intro p
   have a:=i1 p
   exact⟨a.1,a.2.1,p.2,λn e=>by cases e⟩
 | @slet k v s x a s1 n m up _ _ _ hv _ i1=>
    intro p
    have a:=i1 p
    subst hv
    refine⟨a.1,a.2.1,λq hq=>?_,λn e=>by cases e⟩
    rcases Vf.1 hq with rfl|hq
    ·intro y hy
     rcases Vd.1 hy with h|h
     ·exact p.2 m (by simp) y h
     ·rw[Ve.1 h];exact a.2.2 _ rfl
    ·exact p.2 q (by simp[hq])
 |sset _ _ _ _ i1=>
   intro p
   have a:=i1 p
   exact⟨a.1,a.2.1,BT p.2 (a.2.2 _ rfl),λn e=>by cases e⟩
 |ssay _ _ _ i1=>
   intro p
   have a:=i1 p
   exact⟨a.1.say (a.2.2 _ rfl),a.2.1,p.2,λn e=>by cases e⟩
 |sput _ _ _ _ _ i1 i2=>
   intro p
   have a:=i1 p
   have b:=i2 ⟨a.1,p.2⟩
   exact⟨b.1.put _ (b.2.2 _ rfl),Vp b.2.1 a.2.1,p.2,λn e=>by cases e⟩
 |sputC _ _ _ _ _ i1 i2=>
   intro p
   have a:=i1 p
   have b:=i2 ⟨a.1,p.2⟩
   exact⟨b.1,Vp b.2.1 a.2.1,p.2,λn e=>by cases e⟩
 |sputS _ _ _ _ i1 i2=>
   intro p
   have a:=i1 p
   have b:=i2 ⟨a.1,p.2⟩
   exact⟨b.1,Vp b.2.1 a.2.1,p.2,λn e=>by cases e⟩
 |sif _ _ _ _ i1 i2=>
   intro p
   have a:=i1 p
   have b:=i2 ⟨a.1,p.2.opn⟩
   exact⟨b.1,Vp b.2.1 a.2.1,b.2.2.1.tail,b.2.2.2⟩
 |sloop _ _ i1=>exact i1
 |sback _ _ _ i1=>
   intro p
   have a:=i1 p
   exact⟨a.1,a.2.1,p.2,λn e=>by cases e;exact a.2.2 _ rfl⟩
 |sdo _ _ _ i1=>
   intro p
   have a:=i1 p
   exact⟨a.1,a.2.1,p.2,λn e=>by cases e⟩
 |lpS _ _ i1=>
   intro p
   have a:=i1 p
   exact⟨a.1,a.2.1,p.2,λn e=>by cases e⟩
 |lp0 _ _ i1=>
   intro p
   have a:=i1 p
   exact⟨a.1,a.2.1,p.2,λn e=>by cases e⟩
 |lpEnd _ _ _ _ _ i1 i2=>
   intro p
   have a:=i1 p
   have b:=i2 ⟨a.1,p.2.opn⟩
   exact⟨b.1,Vp b.2.1 a.2.1,b.2.2.1.tail,b.2.2.2⟩
 |lpFuel _ _ _ _ _ i1 i2=>
   intro p
   have a:=i1 p
   have b:=i2 ⟨a.1,p.2.opn⟩
   exact⟨b.1,Vp b.2.1 a.2.1,b.2.2.1.tail,λn e=>by cases e⟩
 | @lpGo k v s x a s1 n m v' s2 F v'' s3 q _ _ _ _ hF _ i1 i2 i3=>
    intro p
    have a:=i1 p
    have b:=i2 ⟨a.1,p.2.opn⟩
    have c:=i3 ⟨b.1.at_ F,b.2.2.1.tail⟩
    have h1:s3.left<=F:=c.2.1
    have h2:s2.left<=s1.left:=b.2.1
    have h3:s1.left<=s.left:=a.2.1
    exact⟨c.1,by omega,c.2.2⟩
end
section
def er(m:Sc5):Scp:=m.map λx=>(x.1,0)
def ers(v:List Sc5):List Scp:=v.map er
theorem Cn(s:List UInt8):∀m:Sc5,dW (er m) s=(bQ m s).map λ_=>0
 |[]=>rfl
 |x::r=>by
  have ih:=Cn s r
  simp only[dW,er] at ih
  by_cases h:x.1=s
  ·simp[dW,er,bQ,h]
  ·simp only[dW,er,Vt,List.find?_cons,h,decide_false,bQ,if_neg h]
   exact ih
theorem Ef(s:List UInt8):∀v:List Sc5,jO (ers v) s=(ig v s).map λ_=>0
 |[]=>rfl
 |m::r=>by
  have ih:=Ef s r
  simp only[ers] at ih
  rw[ers,Vt,jO,ig,Cn]
  cases bQ m s with
  |some n=>rfl
  |none=>exact ih
theorem PT{m:Sc5}{s:List UInt8}{n:Int}(h:bQ m s=none):er (m++[(s,n)])=gy (er m) s 0:=by
 induction m with
 |nil=>rfl
 |cons x r ih=>
  rw[bQ] at h
  by_cases e:x.1=s
  ·rw[if_pos e] at h;cases h
  ·rw[if_neg e] at h
   have ih:=ih h
   simp only[er] at ih
   simp only[er,VH,Vt,gy,if_neg e]
   rw[ih]
theorem Kk{s:List UInt8}{n:Int}:∀m:Sc5,er (sset m s n)=er m
 |[]=>rfl
 |x::r=>by
  have ih:=Kk (s:=s) (n:=n) r
  simp only[er] at ih
  rw[sset]
  split
  ·rename_i e;simp[er,←e]
  ·simp[er,ih]
theorem CB{s:List UInt8}{n:Int}:∀v:List Sc5,ers (io v s n)=ers v
 |[]=>rfl
 |m::r=>by
  have ih:=CB (s:=s) (n:=n) r
  rw[io]
  split
  ·simp only[ers,Vt,Kk]
  ·simp only[ers,Vt] at ih⊢
   rw[ih]
theorem zB{v:List Sc5}{m:Sc5}{up:List Sc5}(h:ers v=ers (m::up)):∃m' up',v=m'::up'/\er m'=er m/\ers up'=ers up:=by
 cases v with
 |nil=>simp[ers] at h
 |cons m' up'=>
  simp only[ers,Vt,List.cons.injEq] at h
  exact⟨m',up',rfl,h.1,h.2⟩
def Kn(vs:List LV)(v:List Sc5):Prop:=∀t,(lkV vs t).isSome=(ig v t).isSome
theorem Mf{b:Nat}{vs:List LV}{v:List Sc5}(h:SR g0 b vs (ers v)):Kn vs v:=λt=>by
 rw[h.is t,Ef,Option.isSome_map]
def NT(l:List Fd)(F:Nat):Prop:=∀(k:Nat) (vs:List LV) (d:Nat) (e:Ex) (v:List Sc5) (s:S5),mK l k vs e 0=0->bZ d e=true->Kn vs v->G5 s->GE5 v->s.left<=F->∃s' r,Ev l (.ex k v s e s' r)
def Pw(l:List Fd)(F:Nat):Prop:=∀(j:Nat) (f:Fd) (us:List Int) (s:S5),l[j]?=some f->f.params.length=us.length->G5 s->(∀n∈us,V5 n)->s.left<=F->∃s' r,Ev l (.cal j us s s' r)
def Ju(l:List Fd)(F:Nat):Prop:=∀(k:Nat) (xs:List Sm) (b:Nat) (w:WS) (m:Sc5) (up:List Sc5) (s:S5),(∀x∈xs,∃d,az d x=true)->(bv l k b xs w).code=0->SR g0 b w.vs (ers (m::up))->G5 s->GE5 (m::up)->s.left<=F->
 ∃m' up' s' r,Ev l (.blk k (m::up) s xs (m'::up') s' r)/\ers up'=ers up
def QF(l:List Fd)(F:Nat):Prop:=∀(k:Nat) (x:Sm) (b:Nat) (w:WS) (m:Sc5) (up:List Sc5) (s:S5),(∃d,az d x=true)->(stW l k b x w).code=0->SR g0 b w.vs (ers (m::up))->G5 s->GE5 (m::up)->s.left<=F->
 ∃m' up' s' r,Ev l (.stm k (m::up) s x (m'::up') s' r)/\ers up'=ers up/\(r= .ok none->SR g0 b (stW l k b x w).vs (ers (m'::up')))
def Nr(l:List Fd)(F:Nat):Prop:=∀(k:Nat) (x:Sm) (b:Nat) (w:WS) (v:List Sc5) (s:S5),(∃d,az d x=true)->x.op=6->(stW l k b x w).code=0->SR g0 b w.vs (ers v)->G5 s->GE5 v->s.left<=F->
 ∃v' s' r,Ev l (.lp k v s x v' s' r)/\ers v'=ers v
section
variable {l:List Fd}
theorem Uo{F:Nat}(hS:∀F',F'<F->QF l F')(hB:∀F',F'<F->Ju l F'):Ju l F:=by
 intro k xs b w m up s hf hz hR hg hv hl
 cases xs with
 |nil=>exact⟨m,up,s,_,.bnil,rfl⟩
 |cons x r=>
  rw[bv] at hz
  have hz1:=bN hz
  rcases Nat.eq_zero_or_pos s.left with h0|h0
  ·exact⟨m,up,s,_,.bfuel h0,rfl⟩
  obtain⟨F',hF⟩:∃F',s.left=F'+1:=⟨s.left-1,by omega⟩
  obtain⟨m1,up1,s1,r1,e1,u1,R1⟩:=hS F' (by omega) k x b w m up (s.at_ F') (hf x (by simp)) hz1 hR (hg.at_ F') hv (Vi _)
  have p1:=dd e1 ⟨hg.at_ F',hv⟩
  have q1:s1.left<=F':=p1.2.1
  by_cases hq:r1= .ok none
  ·subst hq
   obtain⟨m2,up2,s2,r2,e2,u2⟩:=hB F' (by omega) k r b (stW l k b x w) m1 up1 s1 (λy hy=>hf y (by simp[hy])) hz (R1 rfl) p1.1 p1.2.2.1 q1
   exact⟨m2,up2,s2,r2,.bgo hF e1 e2,u2.trans u1⟩
  ·exact⟨m1,up1,s1,r1,.bend hF e1 hq,u1⟩
theorem Ld:∀(ps:List (List UInt8)) (us:List Int),ps.length=us.length->er (ps.zip us)=ps.map λs=>(s,0)
 |[],[],_=>rfl
 |p::r,u::t,h=>by
  have:=Ld r t (by simpa using h)
  simp only[er] at this
  simp[er,this]
 |[],_::_,h=>by simp at h
 |_::_,[],h=>by simp at h
theorem Dt:∀(ps:List (List UInt8)) (m:Scp) (c:Int),(jp ps m c).2=0->(jp ps m c).1=m++ps.map λs=>(s,0)
 |[],m,c,_=>by simp[jp]
 |s::r,m,c,h=>by
  have hh:(jp r (gy m s 0) (if(dW m s).isSome then fl c 2 else c)).2=0:=h
  have ih:=Dt r _ _ hh
  have hc:(if(dW m s).isSome then fl c 2 else c)=0:=by
   apply Classical.byContradiction
   intro hne
   have:=vh hne r (gy m s 0)
   rw[this] at hh
   exact hne hh
  have hn:dW m s=none:=by
   cases e:dW m s with
   |none=>rfl
   |some n=>
    rw[e] at hc
    simp only[Option.isSome_some,if_true,fl] at hc
    split at hc<;>omega
  have hset:∀m:Scp,dW m s=none->gy m s 0=m++[(s,0)]:=by
   intro m
   induction m with
   |nil=>intro _;rfl
   |cons x t iht=>
    intro hm
    by_cases hx:x.1=s
    ·simp[dW,hx] at hm
    ·rw[gy,if_neg hx,iht (by simpa[dW,hx] using hm)];rfl
  show(jp r (gy m s 0) (if(dW m s).isSome then fl c 2 else c)).1=_
  rw[ih,hset m hn]
  simp
theorem TX{F:Nat}(hc:aJ l=0)(hB:Ju l F):Pw l F:=by
 intro j f us s hj hlen hg hu hl
 obtain⟨hp,hall⟩:=(tL l).1 hc
 have hz:=hall j f hj
 rw[fnW] at hz
 have hpz:=bN hz
 obtain⟨p1,p2⟩:=CP f.params ⟨[],0,if bt l f.name=some j then 0 else 2⟩ [] SR.base
 rw[hpz] at p2
 have hm:=Dt f.params [] _ p2.symm
 rw[hm,List.nil_append,←Ld f.params us hlen] at p1
 have hfo:=((eJ l).1 hp).2.1 f (UZ hj)
 have hbody:∀x∈f.body,∃d,az d x=true:=λx hx=>by
  simp only[jH,Vm,Vc] at hfo
  exact⟨4,hfo.2 x hx⟩
 obtain⟨m',up',s',r,e,hu2⟩:=hB j f.body 0 _ (f.params.zip us) [] s hbody hz p1 hg (λm hm x hx=>by
  rw[Ve.1 hm] at hx
  exact hu _ (List.of_mem_zip hx).2) hl
 exact⟨s',_,.cal hj hlen e⟩
end
end
section
theorem inR5{n lo hi:Int}:inR n lo hi=true↔lo<=n/\n<=hi:=by simp[inR]
theorem FS{α:Type}{l:List α}(h:l.length=1):∃a,l=[a]:=by
 match l,h with
 |[a],_=>exact⟨a,rfl⟩
theorem Kt{α:Type}{l:List α}(h:l.length=2):∃a b,l=[a,b]:=by
 match l,h with
 |[a,b],_=>exact⟨a,b,rfl⟩
section
variable {l:List Fd}
theorem ny{k:Nat}{vs:List LV}:∀(es:List Ex),bj l k vs es 0=0->∀e∈es,mK l k vs e 0=0
 |[],_,e,he=>by cases he
 |x::r,h,e,he=>by
  rw[bj] at h
  have h0:=di h
  rw[h0] at h
  rcases Vf.1 he with rfl|he
  ·exact h0
  ·exact ny r h e he
theorem TF{F:Nat}(hc:aJ l=0)(hC:Pw l F):NT l F:=by
 intro k vs d
 induction d with
 |zero=>intro e v s _ h;cases h
 |succ d ih=>
  intro e v s hz hf hk hg hv hl
  obtain⟨o,n,nm,ks⟩:=e
  rw[bZ,Vm,Vc] at hf
  obtain⟨hh,hks⟩:=hf
  simp only[md,Vm] at hh
  obtain⟨⟨⟨⟨⟨ho,hkl⟩,_⟩,_⟩,hn⟩,_⟩:=hh
  have ho:1<=o/\o<=13:=inR5.1 ho
  have hkl:(loK o:Int)<=(ks.length:Int)/\(ks.length:Int)<=(hiK o:Int):=inR5.1 hkl
  have hn:V5 n:=inR5.1 hn
  have hks:∀x∈ks,bZ d x=true:=hks
  rw[mK] at hz
  have h0:=di hz
  rw[h0] at hz
  have hkz:=ny ks hz
  rcases Int.lt_or_le 13 o with h13|h13
  ·omega
  by_cases h1:o=1
  ·exact⟨s,_,.num h1 hn⟩
  by_cases h2:o=2
  ·rw[gu,if_pos h2] at h0
   obtain⟨_,x,hx⟩:=BV h0
   have hs:=hk nm
   rw[hx] at hs
   obtain⟨q,hq⟩:=Option.isSome_iff_exists.1 hs.symm
   exact⟨s,_,.var h2 hq⟩
  by_cases h13':o=13
  ·subst h13'
   rw[gu,if_neg (by omega),if_pos rfl,kD] at h0
   have hfa:∃j f,bt l nm=some j/\l[j]?=some f/\f.params.length=ks.length/\j<k:=by
    cases hj:bt l nm with
    |none=>rw[hj] at h0;simp only[fl] at h0;simp at h0
    |some j=>
     rw[hj] at h0
     simp only[fl] at h0
     by_cases hkj:k<=j
     ·rw[if_pos hkj] at h0;simp at h0
     ·rw[if_neg hkj] at h0
      obtain⟨hjl,_,_⟩:=Vn.1 hj
      have hg:=UW hjl
      refine⟨j,l[j],rfl,hg,?_,by omega⟩
      rw[tC,hg] at h0
      simp only at h0
      by_cases hp:l[j].params.length=ks.length
      ·exact hp
      ·rw[if_neg hp] at h0;simp at h0
   obtain⟨j,f,hj,hjf,hpl,hjk⟩:=hfa
   have hargs:∀(es:List Ex) (s:S5),(∀e∈es,e∈ks)->G5 s->s.left<=F->∃s' r,Ev l (.exs k v s es s' r):=by
    intro es
    induction es with
    |nil=>intro s _ _ _;exact⟨s,_,.nil⟩
    |cons a r ihr=>
     intro s hm g hs
     obtain⟨s1,r1,e1⟩:=ih a v s (hkz a (hm a (by simp))) (hks a (hm a (by simp))) hk g hv hs
     have p1:=dd e1 ⟨g,hv⟩
     cases r1 with
     |st c=>exact⟨s1,_,.consS e1⟩
     |ok q=>
      obtain⟨s2,r2,e2⟩:=ihr s1 (λx hx=>hm x (by simp[hx])) p1.1 (Vp p1.2.1 hs)
      cases r2 with
      |st c=>exact⟨s2,_,.consT e1 e2⟩
      |ok ns=>exact⟨s2,_,.cons e1 e2⟩
   obtain⟨s1,r1,e1⟩:=hargs ks s (λ_ h=>h) hg hl
   have p1:=dd e1 ⟨hg,hv⟩
   cases r1 with
   |st c=>exact⟨s1,_,.callS rfl e1⟩
   |ok us=>
    obtain⟨q1,q2⟩:=p1.2.2 _ rfl
    obtain⟨s2,r2,e2⟩:=hC j f us s1 hjf (by rw[hpl,q1]) p1.1 q2 (Vp p1.2.1 hl)
    exact⟨s2,_,.call rfl e1 hj hjk e2⟩
  have hlo:3<=o:=by omega
  have hhi:o<=12:=by omega
  by_cases h11:o=11\/o=12
  ·have hl1:ks.length=1:=by
    have e1:loK o=1:=by unfold loK;rw[if_neg (by omega),if_pos h11]
    have e2:hiK o=1:=by unfold hiK;rw[if_neg (by omega),if_pos h11]
    rw[e1,e2] at hkl;omega
   obtain⟨a,rfl⟩:=FS hl1
   obtain⟨s1,r1,e1⟩:=ih a v s (hkz a (by simp)) (hks a (by simp)) hk hg hv hl
   have p1:=dd e1 ⟨hg,hv⟩
   cases r1 with
   |st c=>exact⟨s1,_,.firstS hlo hhi rfl e1⟩
   |ok q=>
    obtain⟨q0,q1⟩:=p1.2.2 _ rfl
    rcases h11 with h11|h12
    ·exact⟨s1,_,.not h11 rfl e1⟩
    ·obtain⟨i,rfl⟩:∃i:Nat,q=i:=⟨q.toNat,by omega⟩
     by_cases hi:i<16
     ·have hg2:s1.cells[i]?=some (s1.cells[i]'(by rw[p1.1.len];exact hi)):=UW _
      exact⟨s1,_,.at_ h12 rfl e1 hi hg2⟩
     ·exact⟨s1,_,.atS h12 rfl e1 (by omega)⟩
  ·have hl2:ks.length=2:=by
    have e1:loK o=2:=by unfold loK;rw[if_neg (by omega),if_neg h11,if_neg h13']
    have e2:hiK o=2:=by unfold hiK;rw[if_neg (by omega),if_neg h11,if_neg h13']
    rw[e1,e2] at hkl;omega
   obtain⟨a,b,rfl⟩:=Kt hl2
   obtain⟨s1,r1,e1⟩:=ih a v s (hkz a (by simp)) (hks a (by simp)) hk hg hv hl
   have p1:=dd e1 ⟨hg,hv⟩
   cases r1 with
   |st c=>exact⟨s1,_,.firstS hlo hhi rfl e1⟩
   |ok q=>
    by_cases h10:o=10/\q=0
    ·obtain⟨h10,rfl⟩:=h10
     exact⟨s1,_,.and0 h10 rfl e1⟩
    obtain⟨s2,r2,e2⟩:=ih b v s1 (hkz b (by simp)) (hks b (by simp)) hk p1.1 hv (Vp p1.2.1 hl)
    by_cases ho10:o=10
    ·have hq:q≠0:=λe=>h10 ⟨ho10,e⟩
     cases r2 with
     |st c=>exact⟨s2,_,.andS ho10 rfl e1 hq e2⟩
     |ok m=>exact⟨s2,_,.and1 ho10 rfl e1 hq e2⟩
    ·have hle9:o<=9:=by omega
     cases r2 with
     |st c=>exact⟨s2,_,.binS hlo hle9 rfl e1 e2⟩
     |ok m=>
      cases ht:Dn o q m with
      |none=>exact⟨s2,_,.binD hlo hle9 rfl e1 e2 ht⟩
      |some t=>exact⟨s2,_,.bin hlo hle9 rfl e1 e2 ht⟩
end
end
section
structure Fine5 (l:List Fd) (k b:Nat) (x:Sm) (w:WS):Prop where
 code:w.code=0
 args:bj l k w.vs x.args 0=0
 op:(opW x.op x.name b ⟨w.vs,w.count,0⟩).code=0
 body:(bv l k (b+1) x.body (opW x.op x.name b ⟨w.vs,w.count,0⟩)).code=0
 els:∃w3:WS,w3.vs=(opW x.op x.name b ⟨w.vs,w.count,0⟩).vs/\(bv l k (b+1) x.els w3).code=0
 vs:(stW l k b x w).vs=(opW x.op x.name b ⟨w.vs,w.count,0⟩).vs
theorem ON{l:List Fd}{k b:Nat}{x:Sm}{w:WS}(hz:(stW l k b x w).code=0):Fine5 l k b x w:=by
 obtain⟨o,nm,a,bd,el⟩:=x
 have hz0:=hz
 rw[stW,cF] at hz
 have z1:=bN hz
 rw[cF] at z1
 have z2:=bN z1
 have z3:bj l k w.vs a w.code=0:=tH z2
 have hc:=di z3
 rw[z3] at z2 z1 hz
 have z3':=z3
 rw[hc] at z3'
 refine⟨hc,z3',z2,z1,⟨(bv l k (b+1) bd (opW o nm b ⟨w.vs,w.count,0⟩)).back (opW o nm b ⟨w.vs,w.count,0⟩).vs,rfl,hz⟩,?_⟩
 rw[FM,z3];rfl
theorem oY{o:Int}{nm:List UInt8}{b:Nat}{w:WS}(h:o≠1):(opW o nm b w).vs=w.vs:=by
 unfold opW
 rw[if_neg h]
 split<;>rfl
theorem JK{d:Nat}{x:Sm}(h:az d x=true):(1<=x.op/\x.op<=8)/\x.args.length=gw x.op/\(∀a∈x.args,lz a=true)/\(∀y∈x.body,∃d,az d y=true)/\(∀y∈x.els,∃d,az d y=true):=by
 cases d with
 |zero=>cases h
 |succ d=>
  rw[az,Vm,Vm,Vc,Vc] at h
  obtain⟨⟨h1,h2⟩,h3⟩:=h
  simp only[iJ,Vm,Vc] at h1
  obtain⟨⟨⟨⟨⟨⟨⟨p1,p2⟩,_⟩,_⟩,p5⟩,_⟩,_⟩,_⟩:=h1
  exact⟨inR5.1 p1,of_decide_eq_true p2,p5,λy hy=>⟨d,h2 y hy⟩,λy hy=>⟨d,h3 y hy⟩⟩
theorem uE{a:Ex}(h:lz a=true):bZ 6 a=true:=by rw[lz,Vm] at h;exact h.1
section
variable {l:List Fd}
theorem Ue{F:Nat}(hE:NT l F)(hB:Ju l F)(hL:∀F',F'<F->Nr l F'):Nr l F:=by
 intro k x b w v s hf ho hz hR hg hv hl
 obtain⟨d,hd⟩:=hf
 obtain⟨_,hal,hae,hbo,_⟩:=JK hd
 have Fn:=ON hz
 have hal1:x.args.length=1:=by rw[hal,gw,if_neg (by omega)]
 obtain⟨a,ha⟩:=FS hal1
 have haz:=ny x.args Fn.args a (by rw[ha];simp)
 obtain⟨s1,r1,e1⟩:=hE k w.vs 6 a v s haz (uE (hae a (by rw[ha];simp))) (Mf hR) hg hv hl
 have p1:=dd e1 ⟨hg,hv⟩
 cases r1 with
 |st c=>exact⟨v,s1,_,.lpS ha e1,rfl⟩
 |ok n=>
  by_cases hn:n=0
  ·subst hn;exact⟨v,s1,_,.lp0 ha e1,rfl⟩
  have hsame:(opW x.op x.name b ⟨w.vs,w.count,0⟩).vs=w.vs:=oY (by omega)
  have hR2:SR g0 (b+1) (opW x.op x.name b ⟨w.vs,w.count,0⟩).vs (ers ([]::v)):=by
   rw[hsame];exact hR.open
  obtain⟨m2,v2,s2,r2,e2,u2⟩:=hB k x.body (b+1) _ [] v s1 hbo Fn.body hR2 p1.1 hv.opn (Vp p1.2.1 hl)
  have p2:=dd e2 ⟨p1.1,hv.opn⟩
  by_cases hq:r2= .ok none
  ·subst hq
   rcases Nat.eq_zero_or_pos s2.left with h0|h0
   ·exact⟨v2,s2,_,.lpFuel ha e1 hn e2 h0,u2⟩
   obtain⟨F',hF⟩:∃F',s2.left=F'+1:=⟨s2.left-1,by omega⟩
   have hlt:F'<F:=by have:=p2.2.1;have:=p1.2.1;omega
   obtain⟨v3,s3,r3,e3,u3⟩:=hL F' hlt k x b w v2 (s2.at_ F') ⟨d,hd⟩ ho hz (by rw[u2];exact hR) (p2.1.at_ F') p2.2.2.1.tail (Vi _)
   exact⟨v3,s3,_,.lpGo ha e1 hn e2 hF e3,u3.trans u2⟩
  ·exact⟨v2,s2,_,.lpEnd ha e1 hn e2 hq,u2⟩
theorem Uf{F:Nat}(hE:NT l F)(hB:Ju l F)(hL:Nr l F):QF l F:=by
 intro k x b w m up s hf hz hR hg hv hl
 obtain⟨d,hd⟩:=hf
 obtain⟨⟨ho1,ho8⟩,hal,hae,hbo,heo⟩:=JK hd
 have Fn:=ON hz
 by_cases h6:x.op=6
 ·obtain⟨v',s',r,e,u⟩:=hL k x b w (m::up) s ⟨d,hd⟩ h6 hz hR hg hv hl
  obtain⟨m',up',rfl,u1,u2⟩:=zB u
  refine⟨m',up',s',r,.sloop h6 e,u2,λ_=>?_⟩
  rw[Fn.vs,oY (by omega),u]
  exact hR
 have hex:∀a∈x.args,∀s:S5,G5 s->s.left<=F->∃s' r,Ev l (.ex k (m::up) s a s' r):=λa ha s g hs=>
  hE k w.vs 6 a (m::up) s (ny x.args Fn.args a ha) (uE (hae a ha)) (Mf hR) g hv hs
 by_cases h4:x.op=4
 ·have hal2:x.args.length=2:=by rw[hal,gw,if_pos h4]
  obtain⟨a,c,ha⟩:=Kt hal2
  have hR':SR g0 b (stW l k b x w).vs (ers (m::up)):=by rw[Fn.vs,oY (by omega)];exact hR
  obtain⟨s1,r1,e1⟩:=hex a (by rw[ha];simp) s hg hl
  have p1:=dd e1 ⟨hg,hv⟩
  cases r1 with
  |st q=>exact⟨m,up,s1,_,.argS h6 ha e1,rfl,λ_=>hR'⟩
  |ok n=>
   obtain⟨n0,n1⟩:=p1.2.2 _ rfl
   obtain⟨s2,r2,e2⟩:=hex c (by rw[ha];simp) s1 p1.1 (Vp p1.2.1 hl)
   cases r2 with
   |st q=>exact⟨m,up,s2,_,.sputS h4 ha e1 e2,rfl,λ_=>hR'⟩
   |ok q=>
    obtain⟨i,rfl⟩:∃i:Nat,n=i:=⟨n.toNat,by omega⟩
    by_cases hi:i<16
    ·exact⟨m,up,_,_,.sput h4 ha e1 e2 hi,rfl,λ_=>hR'⟩
    ·exact⟨m,up,s2,_,.sputC h4 ha e1 e2 (by omega),rfl,λ_=>hR'⟩
 have hal1:x.args.length=1:=by rw[hal,gw,if_neg h4]
 obtain⟨a,ha⟩:=FS hal1
 obtain⟨s1,r1,e1⟩:=hex a (by rw[ha];simp) s hg hl
 have p1:=dd e1 ⟨hg,hv⟩
 have hsame:x.op≠1->SR g0 b (stW l k b x w).vs (ers (m::up)):=λh=>by rw[Fn.vs,oY h];exact hR
 cases r1 with
 |st q=>exact⟨m,up,s1,_,.argS h6 ha e1,rfl,λh=>by cases h⟩
 |ok n=>
  by_cases h1:x.op=1
  ·have hput:(gn ⟨w.vs,w.count,0⟩ x.name b).code=0:=by
    have:=Fn.op
    rw[opW,if_pos h1] at this
    exact this
   have hput2:nZ w.vs x.name b 0=0:=hput
   have hR1:SR g0 b w.vs (er m::ers up):=hR
   rw[hR1.put] at hput2
   have hno:bQ m x.name=none:=by
    cases e:bQ m x.name with
    |none=>rfl
    |some q=>
     rw[Cn,e] at hput2
     simp[fl] at hput2
   refine⟨_,up,s1,_,.slet h1 ha e1 rfl hno,rfl,λ_=>?_⟩
   rw[Fn.vs,opW,if_pos h1]
   have:=hR1.add x.name w.count 0 rfl
   rw[←PT (n:=n) hno] at this
   exact this
  by_cases h2:x.op=2
  ·have huse:pg w.vs x.name 0=0:=by
    have:=Fn.op
    rw[opW,if_neg h1,if_pos h2] at this
    exact this
   obtain⟨_,q,hq⟩:=BV huse
   have hs:(ig (m::up) x.name).isSome=true:=by rw[←Mf hR x.name,hq];rfl
   have hev:=Ev.sset (l:=l) h2 ha e1 hs
   obtain⟨m',up',e,_,u2⟩:=zB (CB (s:=x.name) (n:=n) (m::up))
   have hu:ers (m'::up')=ers (m::up):=by rw[←e];exact CB _
   rw[e] at hev
   exact⟨m',up',s1,_,hev,u2,λ_=>by rw[hu];exact hsame h1⟩
  by_cases h3:x.op=3
  ·exact⟨m,up,_,_,.ssay h3 ha e1,rfl,λ_=>hsame h1⟩
  by_cases h5:x.op=5
  ·have hsv:(opW x.op x.name b ⟨w.vs,w.count,0⟩).vs=w.vs:=oY h1
   obtain⟨w3,hw3,hez⟩:=Fn.els
   have hB':∃m2 v2 s2 r2,Ev l (.blk k ([]::m::up) s1 (if n≠0 then x.body else x.els) (m2::v2) s2 r2)/\ers v2=ers (m::up):=by
    by_cases hn:n≠0
    ·rw[if_pos hn]
     exact hB k x.body (b+1) _ [] (m::up) s1 hbo Fn.body (by rw[hsv];exact hR.open) p1.1 hv.opn (Vp p1.2.1 hl)
    ·rw[if_neg hn]
     exact hB k x.els (b+1) w3 [] (m::up) s1 heo hez (by rw[hw3,hsv];exact hR.open) p1.1 hv.opn (Vp p1.2.1 hl)
   obtain⟨m2,v2,s2,r2,e2,u2⟩:=hB'
   obtain⟨m',up',rfl,u3,u4⟩:=zB u2
   exact⟨m',up',s2,r2,.sif h5 ha e1 e2,u4,λ_=>by rw[u2];exact hsame h1⟩
  by_cases h7:x.op=7
  ·exact⟨m,up,s1,_,.sback h7 ha e1,rfl,λh=>by cases h⟩
  ·exact⟨m,up,s1,_,.sdo (by omega) ha e1,rfl,λ_=>hsame h1⟩
theorem OG(hc:aJ l=0):∀F,Pw l F/\NT l F/\Ju l F/\QF l F/\Nr l F:=by
 intro F
 induction F using Nat.strongRecOn with
 |_ F ih=>
  have hB:=Uo (l:=l) (F:=F) (λF' h=>(ih F' h).2.2.2.1) (λF' h=>(ih F' h).2.2.1)
  have hC:=TX hc hB
  have hE:=TF hc hC
  have hL:=Ue hE hB (λF' h=>(ih F' h).2.2.2.2)
  exact⟨hC,hE,hB,Uf hE hB hL,hL⟩
end
def s0(fuel:Nat):S5:=⟨fuel,[],List.replicate 16 0⟩
theorem nM(fuel:Nat):G5 (s0 fuel):=⟨by simp[s0],λc hc=>by rw[(List.mem_replicate.1 hc).2];exact⟨by omega,by omega⟩,λc hc=>by cases hc⟩
theorem Ur{l:List Fd}(hc:aJ l=0){f:Fd}(hf:l[l.length-1]?=some f){us:List Int}(hl:us.length=f.params.length)(hu:∀n∈us,V5 n)(fuel:Nat):
 ∃s' r,Ev l (.cal (l.length-1) us (s0 fuel) s' r)/\G5 s'/\s'.left<=fuel/\∀n,r= .ok n->V5 n:=by
 obtain⟨s',r,e⟩:=(OG hc fuel).1 (l.length-1) f us (s0 fuel) hf hl.symm (nM fuel) hu (Vi _)
 have p:=dd e ⟨nM fuel,hu⟩
 exact⟨s',r,e,p.1,p.2.1,p.2.2⟩
end
section
def S5.dn(s:S5)(c:Nat):S5:=⟨s.left-c,s.said,s.cells⟩
end
section
def S5.pre(s:S5)(t:List Int):S5:=⟨s.left,t++s.said,s.cells⟩
def Up(l:List Fd)(K:Nat)(t:List Int):J5->Prop
 | .ex k v s e s' r=>k<=K->Ev l (.ex k v (s.pre t) e (s'.pre t) r)
 | .exs k v s e s' r=>k<=K->Ev l (.exs k v (s.pre t) e (s'.pre t) r)
 | .cal k us s s' r=>k<K->Ev l (.cal k us (s.pre t) (s'.pre t) r)
 | .stm k v s x v' s' r=>k<=K->Ev l (.stm k v (s.pre t) x v' (s'.pre t) r)
 | .blk k v s x v' s' r=>k<=K->Ev l (.blk k v (s.pre t) x v' (s'.pre t) r)
 | .lp k v s x v' s' r=>k<=K->Ev l (.lp k v (s.pre t) x v' (s'.pre t) r)
theorem Sg{l l':List Fd}{K:Nat}(hA:∀j,j<K->l'[j]?=l[j]?)(hN:∀s j,bt l s=some j->bt l' s=some j)(t:List Int){j:J5}(h:Ev l j):Up l' K t j:=by
 induction h with
 |num h1 h2=>
  intro _
  exact .num h1 h2
 |var h1 h2=>
  intro _
  exact .var h1 h2
 |call h1 _ h3 h4 _ i1 i2=>
  intro hk
  exact .call h1 (i1 hk) (hN _ _ h3) h4 (i2 (Vr h4 hk))
 |callS h1 _ i1=>
  intro hk
  exact .callS h1 (i1 hk)
 |firstS h1 h2 h3 _ i1=>
  intro hk
  exact .firstS h1 h2 h3 (i1 hk)
 |and0 h1 h2 _ i1=>
  intro hk
  exact .and0 h1 h2 (i1 hk)
 |and1 h1 h2 _ h4 _ i1 i2=>
  intro hk
  exact .and1 h1 h2 (i1 hk) h4 (i2 hk)
 |andS h1 h2 _ h4 _ i1 i2=>
  intro hk
  exact .andS h1 h2 (i1 hk) h4 (i2 hk)
 |not h1 h2 _ i1=>
  intro hk
  exact .not h1 h2 (i1 hk)
 |at_ h1 h2 _ h4 h5 i1=>
  intro hk
  exact .at_ h1 h2 (i1 hk) h4 h5
 |atS h1 h2 _ h4 i1=>
  intro hk
  exact .atS h1 h2 (i1 hk) h4
 |bin h1 h2 h3 _ _ h6 i1 i2=>
  intro hk
  exact .bin h1 h2 h3 (i1 hk) (i2 hk) h6
 |binS h1 h2 h3 _ _ i1 i2=>
  intro hk
  exact .binS h1 h2 h3 (i1 hk) (i2 hk)
 |binD h1 h2 h3 _ _ h6 i1 i2=>
  intro hk
  exact .binD h1 h2 h3 (i1 hk) (i2 hk) h6
 |nil=>
  intro _
  exact .nil
 |cons _ _ i1 i2=>
  intro hk
  exact .cons (i1 hk) (i2 hk)
 |consS _ i1=>
  intro hk
  exact .consS (i1 hk)
 |consT _ _ i1 i2=>
  intro hk
  exact .consT (i1 hk) (i2 hk)
 |argS h1 h2 _ i1=>
  intro hk
  exact .argS h1 h2 (i1 hk)
 |slet h1 h2 _ h4 h5 i1=>
  intro hk
  exact .slet h1 h2 (i1 hk) h4 h5
 |sset h1 h2 _ h4 i1=>
  intro hk
  exact .sset h1 h2 (i1 hk) h4
 | @ssay k v s x a s1 n h1 h2 _ i1=>
   intro hk
   have e:(s1.say n).pre t=(s1.pre t).say n:=by simp[S5.pre,S5.say]
   show Ev l' (.stm k v (s.pre t) x v ((s1.say n).pre t) (.ok none))
   rw[e]
   exact .ssay h1 h2 (i1 hk)
 |sput h1 h2 _ _ h5 i1 i2=>
  intro hk
  exact .sput h1 h2 (i1 hk) (i2 hk) h5
 |sputC h1 h2 _ _ h5 i1 i2=>
  intro hk
  exact .sputC h1 h2 (i1 hk) (i2 hk) h5
 |sputS h1 h2 _ _ i1 i2=>
  intro hk
  exact .sputS h1 h2 (i1 hk) (i2 hk)
 |sif h1 h2 _ _ i1 i2=>
  intro hk
  exact .sif h1 h2 (i1 hk) (i2 hk)
 |sloop h1 _ i1=>
  intro hk
  exact .sloop h1 (i1 hk)
 |sback h1 h2 _ i1=>
  intro hk
  exact .sback h1 h2 (i1 hk)
 |sdo h1 h2 _ i1=>
  intro hk
  exact .sdo h1 h2 (i1 hk)
 |lpS h1 _ i1=>
  intro hk
  exact .lpS h1 (i1 hk)
 |lp0 h1 _ i1=>
  intro hk
  exact .lp0 h1 (i1 hk)
 |lpEnd h1 _ h3 _ h5 i1 i2=>
  intro hk
  exact .lpEnd h1 (i1 hk) h3 (i2 hk) h5
 | @cal k f us s v' s' r h1 h2 _ i1=>
   intro hk
   exact .cal (by rw[hA k hk];exact h1) h2 (i1 (Nat.le_of_lt hk))
 |bnil=>
  intro _
  exact .bnil
 |bfuel h0=>
  intro _
  exact .bfuel h0
 |bgo hF _ _ i1 i2=>
  intro hk
  exact .bgo hF (i1 hk) (i2 hk)
 |bend hF _ h3 i1=>
  intro hk
  exact .bend hF (i1 hk) h3
 |lpFuel h1 _ h3 _ h5 i1 i2=>
  intro hk
  exact .lpFuel h1 (i1 hk) h3 (i2 hk) h5
 |lpGo h1 _ h3 _ h5 _ i1 i2 i3=>
  intro hk
  exact .lpGo h1 (i1 hk) h3 (i2 hk) h5 (i3 hk)
end
section
def nmS(m:Sc5):List (List UInt8):=m.map (·.1)
def nmV(v:List Sc5):List (List (List UInt8)):=v.map nmS
theorem GX(s:List UInt8)(n:Int):∀m:Sc5,nmS (sset m s n)=nmS m
 |[]=>rfl
 |x::r=>by
  rw[sset]
  split
  ·rename_i h
   show s::nmS r=x.1::nmS r
   rw[h]
  ·show x.1::nmS (sset r s n)=x.1::nmS r
   rw[GX s n r]
theorem yQ(s:List UInt8)(n:Int):∀v:List Sc5,nmV (io v s n)=nmV v
 |[]=>rfl
 |m::r=>by
  rw[io]
  split
  ·show nmS (sset m s n)::nmV r=_
   rw[GX];rfl
  ·show nmS m::nmV (io r s n)=_
   rw[yQ s n r];rfl
def Grw(v v':List Sc5):Prop:=nmV v'=nmV v\/∃m up m' up' t,v=m::up/\v'=m'::up'/\nmV up'=nmV up/\nmS m'=nmS m++t
theorem Grw.refl(v:List Sc5):Grw v v:= .inl rfl
theorem Du{m:Sc5}{up v:List Sc5}(h:nmV v=nmV (m::up)):∃m' up',v=m'::up'/\nmS m'=nmS m/\nmV up'=nmV up:=by
 match v with
 |[]=>cases h
 |m'::up'=>
  have h:nmS m'::nmV up'=nmS m::nmV up:=h
  exact⟨m',up',rfl,(List.cons.inj h).1,(List.cons.inj h).2⟩
theorem Grw.trans{a b c:List Sc5}(h:Grw a b)(g:Grw b c):Grw a c:=by
 rcases h with h|⟨m,up,m',up',t,rfl,rfl,h1,h2⟩
 ·rcases g with g|⟨m,up,m',up',t,rfl,rfl,h1,h2⟩
  ·exact .inl (g.trans h)
  ·obtain⟨m0,up0,rfl,e1,e2⟩:=Du h.symm
   exact .inr ⟨m0,up0,m',up',t,rfl,rfl,h1.trans e2.symm,by rw[h2,e1]⟩
 ·rcases g with g|⟨q,uq,q',uq',t',e,rfl,g1,g2⟩
  ·obtain⟨m0,up0,rfl,e1,e2⟩:=Du g
   exact .inr ⟨m,up,m0,up0,t,rfl,rfl,e2.trans h1,e1.trans h2⟩
  ·obtain⟨e1,e2⟩:=List.cons.inj e
   subst e1;subst e2
   exact .inr ⟨m,up,q',uq',t++t',rfl,rfl,g1.trans h1,by rw[g2,h2,VA]⟩
theorem Grw.tail{m m':Sc5}{v v':List Sc5}(h:Grw (m::v) (m'::v')):nmV v'=nmV v:=by
 rcases h with h|⟨q,up,q',up',t,e1,e2,h1,h2⟩
 ·have h:nmS m'::nmV v'=nmS m::nmV v:=h
  exact(List.cons.inj h).2
 ·rw[(List.cons.inj e1).2,(List.cons.inj e2).2];exact h1
def Sh5:J5->Prop
 | .stm _ v _ _ v' _ _=>Grw v v'
 | .blk _ v _ _ v' _ _=>Grw v v'
 | .lp _ v _ _ v' _ _=>nmV v'=nmV v
 |_=>True
theorem Ay{l:List Fd}{j:J5}(h:Ev l j):Sh5 j:=by
 induction h with
 |bnil=>exact .inl rfl
 |bfuel _=>exact .inl rfl
 |bgo _ _ _ i1 i2=>exact i1.trans i2
 |bend _ _ _ i1=>exact i1
 |argS _ _ _ _=>exact .inl rfl
 | @slet k v s x a s1 n m up _ _ _ hv _ _=>
   subst hv
   exact .inr ⟨m,up,m++[(x.name,n)],up,[x.name],rfl,rfl,rfl,by simp[nmS]⟩
 |sset _ _ _ _ _=>exact .inl (yQ _ _ _)
 |ssay _ _ _ _=>exact .inl rfl
 |sput _ _ _ _ _ _ _=>exact .inl rfl
 |sputC _ _ _ _ _ _ _=>exact .inl rfl
 |sputS _ _ _ _ _ _=>exact .inl rfl
 |sif _ _ _ _ _ i2=>exact .inl i2.tail
 |sloop _ _ i1=>exact .inl i1
 |sback _ _ _ _=>exact .inl rfl
 |sdo _ _ _ _=>exact .inl rfl
 |lpS _ _ _=>exact(rfl:nmV _=nmV _)
 |lp0 _ _ _=>exact(rfl:nmV _=nmV _)
 |lpEnd _ _ _ _ _ _ i2=>exact i2.tail
 |lpFuel _ _ _ _ _ _ i2=>exact i2.tail
 |lpGo _ _ _ _ _ _ _ i2 i3=>exact(show nmV _=nmV _ from i3).trans i2.tail
 |_=>trivial
def ay:List Sc5->Sc5
 |[]=>[]
 |m::r=>ay r++m
theorem gQ:∀{v w:List Sc5},nmV v=nmV w->(ay v).length=(ay w).length
 |[],[],_=>rfl
 |[],_::_,h=>by cases h
 |_::_,[],h=>by cases h
 |m::r,m'::r',h=>by
  have h:nmS m::nmV r=nmS m'::nmV r':=h
  obtain⟨h1,h2⟩:=List.cons.inj h
  have:=gQ h2
  have h1:=congrArg List.length h1
  simp only[nmS,VE] at h1
  simp[ay,this,h1]
theorem BX{m:Sc5}{v w:List Sc5}(h:nmV v=nmV w):(ay (m::v)).take (ay w).length=ay v:=by
 rw[ay,←gQ h,List.take_left']
 rfl
def cW:Sc5->List UInt8->Option Nat
 |[],_=>none
 |x::r,s=>match cW r s with|some i=>some (i+1)|none=>if x.1=s then some 0 else none
theorem no(s:List UInt8):∀a b:Sc5,cW (a++b) s=match cW b s with|some i=>some (a.length+i)|none=>cW a s
 |[],b=>by cases h:cW b s<;>simp[cW,h]
 |x::r,b=>by
  rw[VH,cW,no s r b]
  cases h:cW b s with
  |some i=>simp;omega
  |none=>rfl
def Un5(v:List Sc5):Prop:=∀m∈v,(nmS m).Pairwise (· ≠ ·)
theorem sget_none_iff:∀{m:Sc5} {s:List UInt8},bQ m s=none↔s∉nmS m
 |[],s=>by simp[bQ,nmS]
 |x::r,s=>by
  rw[bQ]
  by_cases h:x.1=s
  ·simp[h,nmS]
  ·rw[if_neg h,sget_none_iff]
   simp[nmS,Ne.symm h]
theorem pk:∀{m:Sc5} {s:List UInt8},s∉nmS m->cW m s=none
 |[],s,_=>rfl
 |x::r,s,h=>by
  simp only[nmS,Vt,Vf,not_or] at h
  rw[cW,pk (m:=r) h.2]
  simp only
  rw[if_neg (λe=>h.1 e.symm)]
theorem An:∀{m:Sc5} {s:List UInt8} {n:Int},(nmS m).Pairwise (· ≠ ·)->bQ m s=some n->∃i,cW m s=some i/\m[i]?=some (s,n)/\∀q,sset m s q=m.set i (s,q)
 |x::r,s,n,hp,h=>by
  obtain⟨h1,h2⟩:=List.pairwise_cons.1 (show(x.1::nmS r).Pairwise (· ≠ ·) from hp)
  rw[bQ] at h
  by_cases hx:x.1=s
  ·rw[if_pos hx] at h
   have hn:s∉nmS r:=λhm=>h1 s hm hx
   refine⟨0,?_,?_,λq=>?_⟩
   ·rw[cW,pk hn];simp only;rw[if_pos hx]
   ·obtain⟨a,b⟩:=x
    have hx:a=s:=hx
    have h:some b=some n:=h
    cases h;subst hx;rfl
   ·rw[sset,if_pos hx];rfl
  ·rw[if_neg hx] at h
   obtain⟨i,g1,g2,g3⟩:=An h2 h
   refine⟨i+1,?_,by simpa using g2,λq=>?_⟩
   ·rw[cW,g1]
   ·rw[sset,if_neg hx,g3 q];rfl
theorem Au:∀{v:List Sc5} {s:List UInt8} {n:Int},Un5 v->ig v s=some n->∃i,cW (ay v) s=some i/\(ay v)[i]?=some (s,n)/\∀q,ay (io v s q)=(ay v).set i (s,q)
 |m::r,s,n,hu,h=>by
  rw[ig] at h
  cases hm:bQ m s with
  |some k=>
   rw[hm] at h
   cases h
   obtain⟨i,g1,g2,g3⟩:=An (hu m (by simp)) hm
   refine⟨(ay r).length+i,?_,?_,λq=>?_⟩
   ·rw[ay,no,g1]
   ·rw[ay,Vb (by omega)]
    rw[VC];exact g2
   ·rw[io,hm]
    simp only[Option.isSome_some,if_true]
    rw[ay,ay,g3 q,List.set_append_right _ _ (by omega),VC]
  |none=>
   rw[hm] at h
   obtain⟨i,g1,g2,g3⟩:=Au (λq hq=>hu q (by simp[hq])) h
   have hi:i<(ay r).length:=by
    have:=US.1 g2
    exact this.1
   refine⟨i,?_,?_,λq=>?_⟩
   ·rw[ay,no,pk (sget_none_iff.1 hm)];exact g1
   ·rw[ay,UU hi];exact g2
   ·rw[io,hm]
    simp only[Option.isSome_none,Bool.false_eq_true,if_false]
    rw[ay,ay,g3 q,List.set_append_left _ _ hi]
theorem Kw{m:Sc5}{up:List Sc5}(x:List UInt8 × Int):ay ((m++[x])::up)=ay (m::up)++[x]:=by simp[ay]
theorem Ca(v:List Sc5):ay ([]::v)=ay v:=by simp[ay]
theorem Un5.of{v w:List Sc5}(h:Un5 v)(e:nmV w=nmV v):Un5 w:=by
 intro m hm
 have h1:nmS m∈nmV v:=by rw[←e];exact List.mem_map_of_mem hm
 obtain⟨q,hq,e2⟩:=Vq.1 h1
 rw[←e2];exact h q hq
theorem Un5.let{m:Sc5}{up:List Sc5}{s:List UInt8}{n:Int}(h:Un5 (m::up))(hs:bQ m s=none):Un5 ((m++[(s,n)])::up):=by
 intro q hq
 rcases Vf.1 hq with rfl|hq
 ·have h1:=h m (by simp)
  have h2:=sget_none_iff.1 hs
  simp only[nmS,List.map_append,Vt,List.map_nil]
  refine List.pairwise_append.2 ⟨h1,List.pairwise_singleton _ _,λa ha b hb=>?_⟩
  rw[Ve.1 hb]
  exact λe=>h2 (e▸ha)
 ·exact h q (by simp[hq])
theorem Un5.opn{v:List Sc5}(h:Un5 v):Un5 ([]::v):=by
 intro q hq
 rcases Vf.1 hq with rfl|hq
 ·exact .nil
 ·exact h q hq
end
section
theorem dF{n:Nat}{h h1:List AO}(e:h.take n=h1)(hn:h1.length=n)(ho:∀o∈h1,okO n o):Fst n h h1:=by
 have hl:n<=h.length:=by
  have:=congrArg List.length e
  rw[Vs] at this;omega
 have hg:∀(i:Nat) (o:AO),h1[i]?=some o->h[i]?=some o:=λi o hi=>by
  have h2:=(US.1 hi).1
  rw[←e,List.getElem?_take_of_lt (by omega)] at hi
  exact hi
 exact⟨hn,hl,λi sz es hi=>⟨hg _ _ hi,ho _ (UZ hi)⟩,λi es hi=>⟨hg _ _ hi,ho _ (UZ hi)⟩,λi s p hi=>hg _ _ hi⟩
theorem BF:∀(r:List AO) (s:Nat),((jz (List.range' s r.length++[0]) (r++[.dead])).Nodup/\∀i∈jz (List.range' s r.length++[0]) (r++[.dead]),s<=i)
 |[],s=>by simp[jz]
 |o::r,s=>by
  obtain⟨h1,h2⟩:=BF r (s+1)
  rw[Vo,List.range'_succ]
  cases o with
  |dead=>exact⟨h1,λi hi=>Nat.le_of_succ_le (h2 i hi)⟩
  |_=>exact⟨VU.2 ⟨λhm=>absurd (h2 _ hm) (by omega),h1⟩,λi hi=>by
   rcases Vf.1 hi with rfl|hi
   ·exact Vi _
   ·exact Nat.le_of_succ_le (h2 i hi)⟩
theorem DL{h:List AO}(hp:0<h.length)(ho:∀o∈h,okO h.length o):∀(r:List AO) (s:Nat),(∀i:Nat,r[i]?=h[s+i]?)->s+r.length=h.length->HW (List.range' 0 h.length++[0]) h (List.range' s r.length++[0]) (r++[.dead])
 |[],s,_,_=>eU hp bV
 |o::r,s,hr,hs=>by
  have hσ:∀i,i<h.length->(List.range' 0 h.length++[0]).getD i 0=i:=λi hi=>by
   rw[Vj,UU (by simp;exact hi)];simp[hi]
  rw[Vo,List.range'_succ]
  have h0:=hr 0
  have ih:=DL hp ho r (s+1) (λi=>by have:=hr (i+1);rw[Vk] at this;rw[this];congr 1;omega) (by simp at hs;omega)
  have hm:h[s]?=some o:=by simpa using h0.symm
  have hok:=ho o (UZ hm)
  cases o with
  |dead=>exact eU (US.1 hm).1 ih
  |row sz es=>
   refine cS (λx hx=>bi (by simp) _ (hok x hx)) ?_ ih
   rw[hm,Vx (g:=id) λx hx=>mQ hσ x (hok x hx)];simp
  |mp es=>exact⟨(US.1 hm).1,⟨λx hx=>by exact(bi (by simp) [x.2] ⟨hok x hx,trivial⟩).1,by rw[hm,Vx (g:=id) λx hx=>by rw[nI hσ x.2 (hok x hx)];rfl];simp⟩,ih⟩
  |sit s p=>exact⟨(US.1 hm).1,hm,ih⟩
theorem EL{m:Nat}{l:List (Nat × AV)}:∀r:List (Nat × AV),FgA m l r->TWA (List.range' 0 m++[0]) l r
 |[],_=>trivial
 |x::r,⟨⟨a,c⟩,d⟩=>by
  have hσ:∀i,i<m->(List.range' 0 m++[0]).getD i 0=i:=λi hi=>by
   rw[Vj,UU (by simp;exact hi)];simp[hi]
  exact⟨⟨(bi (by simp) [x.2] ⟨a,trivial⟩).1,by rw[nI hσ _ a,c]⟩,EL r d⟩
theorem uo{k n:Nat}{l l1:List (Nat × AV)}{h:List AO}(hk:k<=h.length)(hp:0<h.length)(ho:∀o∈h,okO h.length o)(H:FgA h.length l l1):Wk k (ah n l) h (ah n l1) (h++[.dead]):=by
 have hσ:∀i,i<h.length->(List.range' 0 h.length++[0]).getD i 0=i:=λi hi=>by
  rw[Vj,UU (by simp;exact hi)];simp[hi]
 refine HM (List.range' 0 h.length++[0]) (by simp;omega) (λi hi=>hσ i (by omega)) ?_ ?_ (EL _ H)
 ·exact(BF h 0).1
 ·exact DL hp ho h 0 (λi=>by simp) (by simp)
def aS(fns:List Fd):List (List AV):=fns.map λf=>f.cs.map .p
theorem pJ(fns:List Fd):∀x∈aS fns,af 0 x:=by
 intro x hx;obtain⟨m,_,rfl⟩:=Vq.1 hx;simp
theorem ee{n:Nat}{o:AO}(h:okO 0 o):okO n o:=by
 cases o with
 |dead=>trivial
 |sit=>trivial
 |row sz es=>exact λe he=>bi (VV _) _ (h e he)
 |mp es=>exact λe he=>(bi (VV n) [e.2] ⟨h e he,trivial⟩).1
theorem lX(fns:List Fd)(n:Nat):okO n (bW 3 (aS fns)):=ee (Mm (pJ fns))
def exR(l:List Ex):List (List AV):=l.map λe=>e.cs.map .p
theorem dS(l:List Ex):∀x∈exR l,af 0 x:=by
 intro x hx;obtain⟨m,_,rfl⟩:=Vq.1 hx;simp
theorem iq{h:List AO}{id:Nat}{l:List Ex}(e:h[id]?=some (bW 4 (exR l))):View h (slE id 4 (exR l)) (exL l):=by
 have hh:exR l=(l.map Ex.cs).map (·.map .p):=by simp[exR]
 rw[hh] at e⊢
 exact Pm e (λx hx=>by obtain⟨b,_,rfl⟩:=Vq.1 hx;exact b.cs_len)
theorem to{h:List AO}{id sz:Nat}{r0 r1:List AV}{p0 p1:List PV}(he:h[id]?=some (.row sz [r0,r1]))(l0:p0.length=sz)(l1:p1.length=sz)(h0:∀(j:Nat) (q:PV) (a:AV),p0[j]?=some q->r0[j]?=some a->View h a q)(h1:∀(j:Nat) (q:PV) (a:AV),p1[j]?=some q->r1[j]?=some a->View h a q):View h (.sl id sz 0 2) (.lst sz [p0,p1]):=by
 refine View.sl id sz 0 _ [p0,p1] he (by simp) (by simp[l0,l1]) λi j e q e' a a1 a2 a3 a4=>?_
 rw[VX] at a3
 match i,a1,a3 with
 |0,a1,a3=>cases a1;cases a3;exact h0 j q a a2 a4
 |1,a1,a3=>cases a1;cases a3;exact h1 j q a a2 a4
 |i+2,a1,a3=>simp at a1
def smR(l:List Sm):List (List AV):=l.map λs=>s.cs.map .p
theorem dT(l:List Sm):∀x∈smR l,af 0 x:=by
 intro x hx;obtain⟨m,_,rfl⟩:=Vq.1 hx;simp
theorem fa(l:List Sm):(smR l).length=l.length:=by simp[smR]
theorem Dh(a b:List Sm):smR (a++b)=smR a++smR b:=by simp[smR]
theorem bs{h:List AO}{id sz:Nat}{r0:List AV}{p0:List PV}(he:h[id]?=some (.row sz [r0]))(l0:p0.length=sz)(h0:∀(j:Nat) (q:PV) (a:AV),p0[j]?=some q->r0[j]?=some a->View h a q):View h (.sl id sz 0 1) (.lst sz [p0]):=by
 refine View.sl id sz 0 _ [p0] he (by simp) (by simp[l0]) λi j e q e' a a1 a2 a3 a4=>?_
 rw[VX] at a3
 match i,a1,a3 with
 |0,a1,a3=>cases a1;cases a3;exact h0 j q a a2 a4
 |i+1,a1,a3=>simp at a1
theorem fP{h:List AO}{o n:Int}{w:List UInt8}{k:List Ex}{K:AV}(hk:View h K (exL k)):∀(j:Nat) (q:PV) (a:AV),(Ex.mk o n w k).cs[j]?=some q->[AV.p (.int .i64 o),.p (.int .i64 n),.p (.str w),K][j]?=some a->View h a q:=by
 intro j q a e1 e2
 have hc:(Ex.mk o n w k).cs=[.int .i64 o,.int .i64 n,.str w,exL k]:=Ex.cs_eq _
 rw[hc] at e1
 match j,e1,e2 with
 |0,e1,e2=>cases e1;cases e2;exact .p _
 |1,e1,e2=>cases e1;cases e2;exact .p _
 |2,e1,e2=>cases e1;cases e2;exact .p _
 |3,e1,e2=>cases e1;cases e2;exact hk
 |j+4,e1,e2=>simp at e1
theorem lr{h:List AO}{id:Nat}{l:List Sm}(e:h[id]?=some (.row 5 (smR l))):View h (.sl id 5 0 l.length) (smL l):=by
 have:=js (h:=h) (id:=id) (sz:=5) (n:=l.length) (ls:=l.map Sm.cs) (by rw[e,smR];simp) (by simp) (λx hx=>by obtain⟨b,_,rfl⟩:=Vq.1 hx;exact b.cs_len)
 exact this
theorem bU{h:List AO}{o:Int}{w:List UInt8}{a:List Ex}{bd el:List Sm}{A B E:AV}(hA:View h A (exL a))(hB:View h B (smL bd))(hE:View h E (smL el)):∀(j:Nat) (q:PV) (x:AV),(Sm.mk o w a bd el).cs[j]?=some q->[AV.p (.int .i64 o),.p (.str w),A,B,E][j]?=some x->View h x q:=by
 intro j q x e1 e2
 have hc:(Sm.mk o w a bd el).cs=[.int .i64 o,.str w,exL a,smL bd,smL el]:=Sm.cs_eq _
 rw[hc] at e1
 match j,e1,e2 with
 |0,e1,e2=>cases e1;cases e2;exact .p _
 |1,e1,e2=>cases e1;cases e2;exact .p _
 |2,e1,e2=>cases e1;cases e2;exact hA
 |3,e1,e2=>cases e1;cases e2;exact hB
 |4,e1,e2=>cases e1;cases e2;exact hE
 |j+5,e1,e2=>simp at e1
theorem fW{n:Nat}:∀o∈([]:List AO),okO n o:=λo h=>by cases h
theorem aj{n:Nat}{a:AO}{l:List AO}(h:okO n a)(r:∀o∈l,okO n o):∀o∈a::l,okO n o:=λo ho=>by
 rcases Vf.1 ho with rfl|ho
 ·exact h
 ·exact r o ho
end
section
theorem eb{α:Type}{p:α->Bool}{xs:List α}{i:Nat}(h:i<xs.length):(xs.take (i+1)).all p=((xs.take i).all p&&p xs[i]):=by
 rw[aq h,List.all_append];simp
theorem nJ{α:Type}{p:α->Bool}{xs:List α}{i:Nat}(h:i<xs.length)(hp:p xs[i]=false):xs.all p=false:=
 List.all_eq_false.2 ⟨_,Vl h,by simp[hp]⟩
theorem ir{α:Type}{p:α->Bool}{xs:List α}{i:Nat}(h:xs.length<=i)(ht:(xs.take i).all p=true):xs.all p=true:=by
 rwa[Va h] at ht
def rE:AK:=qe [wI 2 4 0,xk] (yn [wT 10 2,qu 11 10,xq 12 jf 11,qg 9 12,wR 13 0 9,wR 14 1 9,qg 5 13,x8 14] [xi 15,qx 16 .lss 15 1,qg 17 16,xJ 18 17 0 2,xD 19 17 18,qK 20 17 (x9 (xO 19 (qj 1) (qj 13))),qK 21 17 (ws 20),xY 22 17 21,qg 23 22,xJ 24 23 3 2,xD 25 23 24,qK 26 23 (wc 25),xy 27 23 5,xy 28 23 6,qK 29 23 (x9 (xQ 26 27 28)),qK 30 23 (ws 29),xY 31 23 30] 31 [xk] (ym [wT 32 2,qu 33 32,wb 34 33 2,qg 35 34,xJ 36 35 0 2,xD 37 35 36,qK 38 35 (wY .eql 37 13),xY 39 35 38,qg 7 39] (.cut (wj [yh 40,xu 41 2,qu 42 41,xq 43 cA 42,qb 44 (.beq true (.t 40) (.t 43)),qg 45 44,xy 46 45 7,qK 47 45 (ws 46),xy 48 45 47,wJ 49 48 2 2,wG 50 48 49,qJ 51 48 (yp .neq 50 (.c qF)),qK 52 45 (qN 48 (.t 51) qS),xY 53 45 52,qg 54 53,xJ 55 54 1 2,xD 56 54 55,qK 57 54 (x9 (xO 56 yf (qj 255))),qK 58 54 (ws 57),xY 59 54 58,qg 60 59,xJ 61 60 0 2,xD 62 60 61,qK 63 60 (wY .neq 62 1),xy 64 60 63,wJ 65 64 1 2,wG 66 64 65,xK 67 64 .neq 66 0,qK 68 60 (qN 64 (.t 67) qS),xY 69 60 68] 69 [xk]) (xT (xU [wU 8] 0 [yd 70,xZ 71 2,qu 72 71,wm 73 72,xa 74 70 73] 74 wA 1 (wj [xZ 77 2,qu 78 77,yd 79,wB 80 4 78 79,ye 81 80,xi 82,xF 83 82 1,wM 84 fS 81 83,xo 85 84] 85 [xk]) [yd 75,x7 76 75,qg 8 76]) [qd 4 wz]))))
theorem AZ:AK.whole rE=FK.ak ji:=rfl
def sb:AK:=qe [wI 2 5 0,xk] (.cut (wj [xi 7,qx 8 .lss 7 1,yd 9,xJ 10 9 0 2,xD 11 9 10,qK 12 9 (x9 (xO 11 (qj 1) (qj 8))),qK 13 9 (ws 12),xY 14 9 13,qg 15 14,xJ 16 15 2 2,xJ 19 15 0 2,xD 17 15 16,qK 18 15 (wc 17),xD 20 15 19,qK 21 15 (.qcall jm (xp 20)),qK 22 15 (qm .neq 18 (.t 21)),xY 23 15 22] 23 [xk]) (ym [wT 24 2,qu 25 24,wb 26 25 1,qg 27 26,xJ 28 27 0 2,xD 29 27 28,qK 30 27 (wY .eql 29 2),xY 31 27 30,qg 5 31] (.cut (wj [xr 32,xS 33 2,qu 34 33,xq 35 cA 34,qb 36 (.beq true (.t 32) (.t 35)),qg 37 36,xy 38 37 5,qK 39 37 (ws 38),xy 40 37 39,wJ 41 40 1 2,wG 42 40 41,qJ 43 40 (yp .neq 42 (.c qF)),qK 44 37 (qN 40 (.t 43) qS),xY 45 37 44] 45 [xk]) (.seq (xU [wU 6] 0 [qg 46 6,xu 47 2,qu 48 47,wm 49 48,xa 50 46 49] 50 wA 1 (wj [xu 53 2,qu 54 53,qg 55 6,wB 56 4 54 55,ye 57 56,xq 58 eV 57,xo 59 58] 59 [xk]) [qg 51 6,x7 52 51,x8 52]) (.cut (wj [wT 60 2,qu 61 60,wb 62 61 8,qg 63 62,wJ 64 63 2 2,wG 65 63 64,qJ 66 63 (qU 4 65 yf),wJ 67 63 0 66,wG 68 63 67,xK 69 63 .neq 68 13,xI 70 63 69] 70 [xk]) (.cut (wj [qq 71 4 2,qu 72 71,wm 73 72,qx 74 .gtr 73 0,qg 75 74,wJ 76 75 0 2,wG 77 75 76,xK 78 75 .neq 77 5,xI 79 75 78,qg 80 79,xJ 81 80 3 2,xD 82 80 81,qK 83 80 (wc 82),qK 84 80 (wY .gtr 83 0),xy 85 80 84,wJ 86 85 0 2,wG 87 85 86,xK 88 85 .neq 87 5,qK 89 80 (qN 85 (.t 88) qS),xy 90 80 89,wJ 91 90 0 2,wG 92 90 91,xK 93 90 .neq 92 6,qK 94 80 (qN 90 (.t 93) qS),xY 95 80 94] 95 [xk]) (qA [xZ 96 2,qu 97 96,xi 98,xF 99 98 1,wM 100 bX 97 99,qg 101 100,wJ 102 101 4 2,wG 103 101 102,xN 104 101 1,xK 105 101 .sub 104 1,qJ 106 101 (xG bX 103 (.t 105)),xI 107 101 106,qg 4 107])))))))
theorem Bp:AK.whole sb=FK.ak jh:=rfl
variable (G:al)
theorem pi(n lo hi:Int):VF Tryz.prog G jt [.p (.int .i64 n),.p (.int .i64 lo),.p (.int .i64 hi)] (.p (.bool (inR n lo hi))):=by
 refine AC.go EA ?_
 by_cases h:lo<=n
 ·simp-implicitDefEqProofs[pw,h,inR]
 ·simp-implicitDefEqProofs[pw,h,inR]
theorem Dv(op:Int):VF Tryz.prog G jf [.p (.int .i64 op)] (.tup [.p (.int .i64 (loK op)),.p (.int .i64 (hiK op))]):=by
 refine AC.go Bm ?_
 by_cases h1:op=1
 ·subst h1;simp-implicitDefEqProofs[de,loK,hiK]
 by_cases h2:op=2
 ·subst h2;simp-implicitDefEqProofs[de,loK,hiK]
 by_cases h3:op=11
 ·subst h3;simp-implicitDefEqProofs[de,loK,hiK]
 by_cases h4:op=12
 ·subst h4;simp-implicitDefEqProofs[de,loK,hiK]
 by_cases h5:op=13
 ·subst h5;simp-implicitDefEqProofs[de,loK,hiK]
 simp-implicitDefEqProofs[de,loK,hiK,h1,h2,h3,h4,h5]
theorem Mz:∀(d:Nat) (e:Ex),e.sz<=1099511627776->d<=1000->VF Tryz.prog G fS [.agg (e.cs.map .p),.p (.int .i64 d)] (.p (.bool (bZ d e))):=by
 intro d
 induction d with
 |zero=>
  intro e he _
  refine AC.go se ?_
  simp-implicitDefEqProofs[ji,Ex.cs_eq]
  refine(Dv G _).use ?_
  simp-implicitDefEqProofs[bZ]
 |succ d ih=>
  intro e he hd
  have hsz:=e.sz_eq
  have hkl:=bH e.kids
  refine AC.goK se AZ ?_
  have hd1:¬(d:Int)+1<1:=by omega
  have hw:IntKind.i64.wrap ((d:Int)+1-1)=(d:Int):=by rw[show(d:Int)+1-1=d by omega];exact ab (by omega) (by omega)
  have hw':IntKind.i64.wrap (d:Int)=(d:Int):=ab (by omega) (by omega)
  have hxl:∀l,exL l= .lst 4 (l.map Ex.cs):=λ_=>rfl
  simp-implicitDefEqProofs[rE,ji,Ex.cs_eq]
  refine(Dv G _).use ?_
  simp-implicitDefEqProofs[hd1]
  refine(pi G _ _ _).use ?_
  by_cases h1:inR e.op 1 13=true
  case neg=>simp-implicitDefEqProofs[h1,bZ,md]
  simp-implicitDefEqProofs[h1,hxl]
  refine(pi G _ _ _).use ?_
  by_cases h2:inR e.kids.length (loK e.op) (hiK e.op)=true
  case neg=>simp-implicitDefEqProofs[h2,bZ,md]
  simp-implicitDefEqProofs[h2]
  refine mB (ah 86 [(1,.p (.int .i64 (d+1))),(2,.ptr 0 4 0 0),(7,.p (.bool (Es e.op)))]) [.row 4 [[.p (.int .i64 e.op),.p (.int .i64 e.n),.p (.str e.name),.p (.lst 4 (e.kids.map Ex.cs))]]] ?_ ?_
  ·by_cases o2:e.op=2
   ·simp-implicitDefEqProofs[o2]
    exact ae (by simp) (by simp[okO]) (by simp[below,Es])
   ·by_cases o13:e.op=13
    ·simp-implicitDefEqProofs[o13]
     exact ae (by simp) (by simp[okO]) (by simp[below,Es])
    ·simp-implicitDefEqProofs[o2,o13]
     exact ae (by simp) (by simp[okO]) (by simp[below,Es,o2,o13])
  have hn:e.name.length<=140737488355328:=by omega
  refine uF (λ_:Unit=>ah 86 [(1,.p (.int .i64 ((d:Int)+1))),(2,.ptr 0 4 0 0)]) (λ_=>[.row 4 [[.p (.int .i64 e.op),.p (.int .i64 e.n),.p (.str e.name),.p (.lst 4 (e.kids.map Ex.cs))]]]) (λ_=>md e=true) ?_ ?_
  ·simp-implicitDefEqProofs[]
   refine(sZ G _ hn).use ?_
   simp-implicitDefEqProofs[]
   repeat' first
    |(refine(pi G _ _ _).use ?_;simp-implicitDefEqProofs[])
    |(refine be (λhc=>?_) (λhc=>?_)<;>simp-implicitDefEqProofs[hc])
   all_goals first
    |exact⟨by simp_all [md],ae (by simp) (by simp[okO]) (by simp[below])⟩
    |simp_all [bZ,md]
  intro _ hh
  simp-implicitDefEqProofs[]
  refine aO (λi:Nat=>ah 86 [(1,.p (.int .i64 ((d:Int)+1))),(2,.ptr 0 4 0 0),(8,.p (.int .i64 i))]) (λ_=>[.row 4 [[.p (.int .i64 e.op),.p (.int .i64 e.n),.p (.str e.name),.p (.lst 4 (e.kids.map Ex.cs))]]])
   (λi=>i<=e.kids.length/\(e.kids.take i).all (bZ d)=true) (λi=>e.kids.length-i) 0 (by simp) (ae (by simp) (by simp[okO]) (by simp[below])) ?_
  intro i ⟨hi,hall⟩
  simp-implicitDefEqProofs[]
  refine be (λh=>?_) (λh=>?_)
  ·simp at h
   have hg:=UW h
   have hks:=bT (Vl h)
   simp-implicitDefEqProofs[hg,hw']
   refine(ih e.kids[i] (by omega) (by omega)).use ?_
   by_cases hk:bZ d e.kids[i]=true
   ·simp-implicitDefEqProofs[hk]
    refine⟨i+1,⟨h,by rw[←Vc,eb h,hall,hk];rfl⟩,by omega,ae (by simp) (by simp[okO]) ?_⟩
    simp[below,w1 (i:=i) (by omega)]
   ·have hk':bZ d e.kids[i]=false:=by simpa using hk
    have hf:bZ (d+1) e=false:=by simp only[bZ,nJ h hk',Bool.and_false]
    simp-implicitDefEqProofs[hk',hf]
  ·simp at h
   have hf:bZ (d+1) e=true:=by simp only[bZ,ir h hall,hh,Bool.and_self]
   simp-implicitDefEqProofs[hf]
theorem Jn{l:List Ex}{i:Nat}(h:i<l.length):ga (l.take (i+1))=ga (l.take i)+l[i].parts:=by
 rw[aq h,ju];simp[ga]
theorem Dj(l:List Ex)(i:Nat):ga (l.take i)<=ga l:=by
 have:=ju (l.take i) (l.drop i)
 rw[VM] at this
 omega
theorem ID:∀(k:Nat) (e:Ex),e.sz<=k->k<=1099511627776->VF Tryz.prog G gF [.agg (e.cs.map .p)] (.p (.int .i64 e.parts)):=by
 intro k
 induction k with
 |zero=>intro e he;have:=e.sz_eq;omega
 |succ k ih=>
  intro e he hk
  have hsz:=e.sz_eq
  have hkl:=bH e.kids
  have hpe:=e.parts_eq
  have hpz:=Cp e.kids
  refine AC.go zp ?_
  have hxl:∀l,exL l= .lst 4 (l.map Ex.cs):=λ_=>rfl
  simp-implicitDefEqProofs[oh,Ex.cs_eq,hxl]
  refine aO (λi:Nat=>ah 21 [(1,.ptr 0 4 0 0),(3,.p (.int .i64 ((1+ga (e.kids.take i):Nat):Int))),(4,.p (.int .i64 i))]) (λ_=>[.row 4 [[.p (.int .i64 e.op),.p (.int .i64 e.n),.p (.str e.name),.p (.lst 4 (e.kids.map Ex.cs))]]])
   (λi=>i<=e.kids.length) (λi=>e.kids.length-i) 0 (by simp) (ae (by simp) (by simp[okO]) (by simp[below,ga])) ?_
  intro i hi
  simp-implicitDefEqProofs[]
  refine be (λh=>?_) (λh=>?_)
  ·simp at h
   have hg:=UW h
   have hks:=bT (Vl h)
   have hps:=Jn h
   have hple:=Dj e.kids (i+1)
   simp-implicitDefEqProofs[hg]
   refine(ih e.kids[i] (by omega) (by omega)).use ?_
   have hw:IntKind.i64.wrap (1+(ga (e.kids.take i):Int)+(e.kids[i].parts:Int))=((1+ga (e.kids.take (i+1)):Nat):Int):=by rw[ab (by omega) (by omega)];omega
   simp-implicitDefEqProofs[hw]
   exact⟨i+1,h,by omega,ae (by simp) (by simp[okO]) (by simp[below,w1 (i:=i) (by omega)])⟩
  ·simp at h
   rw[Va h]
   simp-implicitDefEqProofs[]
   omega
theorem DM(e:Ex)(he:e.sz<=1099511627776):VF Tryz.prog G eV [.agg (e.cs.map .p)] (.p (.bool (lz e))):=by
 refine AC.go uJ ?_
 simp-implicitDefEqProofs[mR]
 have h6:=Mz G 6 e he (by omega)
 refine h6.use ?_
 by_cases h:bZ 6 e=true
 ·simp-implicitDefEqProofs[h]
  refine(ID G _ e (Vi _) he).use ?_
  simp-implicitDefEqProofs[lz,h]
  omega
 ·simp-implicitDefEqProofs[h,lz]
theorem Ks(op:Int):VF Tryz.prog G jm [.p (.int .i64 op)] (.p (.int .i64 (gw op))):=by
 refine AC.go Bt ?_
 by_cases h:op=4
 ·simp-implicitDefEqProofs[mA,h,gw]
 ·simp-implicitDefEqProofs[mA,h,gw]
theorem vq(d:Nat)(hd:d<=1000)(hs:∀s:Sm,s.sz<=1099511627776->VF Tryz.prog G jd [.agg (s.cs.map .p),.p (.int .i64 d)] (.p (.bool (az d s))))(l:List Sm)(hl:aC l<=1099511627776):
 VF Tryz.prog G bX [.p (smL l),.p (.int .i64 d)] (.p (.bool (l.all (az d)))):=by
 refine AC.go zk ?_
 have hll:=cb l
 have hsl:∀l,smL l= .lst 5 (l.map Sm.cs):=λ_=>rfl
 simp-implicitDefEqProofs[ph]
 refine aO (λi:Nat=>ah 19 [(0,.p (smL l)),(1,.p (.int .i64 d)),(5,.p (.int .i64 i))]) (λ_=>[]) (λi=>i<=l.length/\(l.take i).all (az d)=true) (λi=>l.length-i) 0 (by simp) (bx rfl (by simp[below,hsl])) ?_
 intro i ⟨hi,hall⟩
 simp-implicitDefEqProofs[hsl]
 refine be (λh=>?_) (λh=>?_)
 ·simp at h
  have hg:=UW h
  have hks:=dQ (Vl h)
  simp-implicitDefEqProofs[hg]
  refine(hs l[i] (by omega)).use ?_
  by_cases hk:az d l[i]=true
  ·simp-implicitDefEqProofs[hk]
   exact⟨i+1,⟨h,by rw[←Vc,eb h,hall,hk];rfl⟩,by omega,bx rfl (by simp[below,hsl,w1 (i:=i) (by omega)])⟩
  ·have hk':az d l[i]=false:=by simpa using hk
   have hf:=nJ h hk'
   simp-implicitDefEqProofs[hk',hf]
 ·simp at h
  have hf:=ir h hall
  simp-implicitDefEqProofs[hf]
theorem Lk:∀(d:Nat),d<=1000->∀s:Sm,s.sz<=1099511627776->VF Tryz.prog G jd [.agg (s.cs.map .p),.p (.int .i64 d)] (.p (.bool (az d s))):=by
 intro d
 induction d with
 |zero=>
  intro _ s _
  refine AC.go rt ?_
  simp-implicitDefEqProofs[jh,Sm.cs_eq,az]
 |succ d ih=>
  intro hd s he
  have hsz:=s.sz_eq
  have hal:=bH s.args
  have hbl:=cb s.body
  have hel:=cb s.els
  have ihs:=vq G d (by omega) (ih (by omega))
  refine AC.goK rt Bp ?_
  have hd1:¬(d:Int)+1<1:=by omega
  have hw':IntKind.i64.wrap (d:Int)=(d:Int):=ab (by omega) (by omega)
  have hxl:∀l,exL l= .lst 4 (l.map Ex.cs):=λ_=>rfl
  have hsl:∀l,smL l= .lst 5 (l.map Sm.cs):=λ_=>rfl
  have hn:s.name.length<=140737488355328:=by omega
  simp-implicitDefEqProofs[sb,jh,Sm.cs_eq]
  generalize hH:[AO.row 5 [[AV.p (.int .i64 s.op),.p (.str s.name),.p (exL s.args),.p (smL s.body),.p (smL s.els)]]]=H
  have hho:∀o∈H,okO H.length o:=by rw[←hH];simp[okO]
  have hhl:0<H.length:=by rw[←hH];simp
  have hh0:H[0]?=some (AO.row 5 [[AV.p (.int .i64 s.op),.p (.str s.name),.p (exL s.args),.p (smL s.body),.p (smL s.els)]]):=by rw[←hH];rfl
  have hhL:H.length=1:=by rw[←hH];rfl
  refine uF (λ_:Unit=>ah 108 [(1,.p (.int .i64 ((d:Int)+1))),(2,.ptr 0 5 0 0)]) (λ_=>H) (λ_=>inR s.op 1 8=true/\s.args.length=gw s.op) ?_ ?_
  ·simp-implicitDefEqProofs[hd1,hh0]
   refine(pi G _ _ _).use ?_
   by_cases h1:inR s.op 1 8=true
   case neg=>simp-implicitDefEqProofs[h1,az,iJ]
   simp-implicitDefEqProofs[h1,hh0,hxl]
   refine(Ks G _).useQ ?_
   by_cases h2:s.args.length=gw s.op
   ·simp-implicitDefEqProofs[h2]
    exact ae (by omega) hho (by simp[below,hhl])
   ·have h2':¬(s.args.length:Int)=(gw s.op:Int):=by omega
    simp-implicitDefEqProofs[h2,h2',az,iJ]
  intro _ ⟨h1,h2⟩
  refine uF (λ_:Unit=>ah 108 [(1,.p (.int .i64 ((d:Int)+1))),(2,.ptr 0 5 0 0),(5,.p (.bool (cN s.op)))]) (λ_=>H) (λ_=>True) ?_ ?_
  ·simp-implicitDefEqProofs[hh0]
   by_cases o1:s.op=1
   ·simp-implicitDefEqProofs[o1,hh0,cN]
    exact ae (by omega) hho (by simp[below,hhl])
   ·by_cases o2:s.op=2
    ·simp-implicitDefEqProofs[o2,hh0,cN]
     exact ae (by omega) hho (by simp[below,hhl])
    ·simp-implicitDefEqProofs[o1,o2,hh0,cN]
     exact ae (by omega) hho (by simp[below,hhl])
  intro _ _
  refine uF (λ_:Unit=>ah 108 [(1,.p (.int .i64 ((d:Int)+1))),(2,.ptr 0 5 0 0)]) (λ_=>H) (λ_=>(cN s.op==aG s.name)=true/\(cN s.op||decide (s.name=[]))=true) ?_ ?_
  ·simp-implicitDefEqProofs[hh0]
   refine(sZ G _ hn).use ?_
   simp-implicitDefEqProofs[hh0]
   repeat' first
    |(refine be (λhc=>?_) (λhc=>?_)<;>simp-implicitDefEqProofs[hc,hh0])
   all_goals first
    |exact ae (by omega) hho (by simp[below,hhl])
    |exact⟨by simp_all,by simp_all,ae (by omega) hho (by simp[below,hhl])⟩
    |exact⟨by simp_all,ae (by omega) hho (by simp[below,hhl])⟩
    |(simp_all [az,iJ];done)
  intro _ ⟨h3,h4⟩
  simp-implicitDefEqProofs[]
  refine aO (λi:Nat=>ah 108 [(1,.p (.int .i64 ((d:Int)+1))),(2,.ptr 0 5 0 0),(6,.p (.int .i64 i))]) (λ_=>H) (λi=>i<=s.args.length/\(s.args.take i).all lz=true) (λi=>s.args.length-i) 0 (by simp) (ae (by omega) hho (by simp[below,hhl])) ?_
  intro i ⟨hi,hall⟩
  simp-implicitDefEqProofs[hh0,hxl]
  refine be (λh=>?_) (λh=>?_)
  ·simp at h
   have hg:=UW h
   have hks:=bT (Vl h)
   simp-implicitDefEqProofs[hg,hh0,hxl]
   refine(DM G s.args[i] (by omega)).use ?_
   by_cases hk:lz s.args[i]=true
   ·simp-implicitDefEqProofs[hk]
    exact⟨i+1,⟨h,by rw[←Vc,eb h,hall,hk];rfl⟩,by omega,ae (by omega) hho (by simp[below,hhl,w1 (i:=i) (by omega)])⟩
   ·have hk':lz s.args[i]=false:=by simpa using hk
    have hf:az (d+1) s=false:=by simp only[az,iJ,nJ h hk',Bool.and_false,Bool.false_and]
    simp-implicitDefEqProofs[hk',hf]
  simp at h
  have h5:s.args.all lz=true:=ir h hall
  have hlen1:1<=s.args.length:=by rw[h2];unfold gw;split<;>omega
  obtain⟨a0,ar,ha⟩:∃a r,s.args=a::r:=by
   cases hh:s.args with
   |nil=>rw[hh] at hlen1;simp at hlen1
   |cons a r=>exact⟨a,r,rfl⟩
  have ha0:s.args[0]?=some a0:=by rw[ha];rfl
  refine uF (λ_:Unit=>ah 108 [(1,.p (.int .i64 ((d:Int)+1))),(2,.ptr 0 5 0 0)]) (λ_=>H) (λ_=>(!decide (s.op=8)||decide (a0.op=13))=true) ?_ ?_
  ·simp-implicitDefEqProofs[hh0]
   by_cases o8:s.op=8
   ·have hae:=a0.cs_eq
    simp-implicitDefEqProofs[o8,hh0,hxl,ha0,hae]
    refine be (λhc=>?_) (λhc=>?_)
    ·simp at hc
     have hf:az (d+1) s=false:=by simp[az,iJ,o8,ha,hc]
     simp-implicitDefEqProofs[hf]
    ·simp at hc
     simp-implicitDefEqProofs[hc]
     exact ae (by omega) hho (by simp[below,hhl])
   ·simp-implicitDefEqProofs[o8,hh0]
    exact ae (by omega) hho (by simp[below,hhl])
  intro _ h6
  refine uF (λ_:Unit=>ah 108 [(1,.p (.int .i64 ((d:Int)+1))),(2,.ptr 0 5 0 0)]) (λ_=>H) (λ_=>(s.els.isEmpty||decide (s.op=5))=true/\(s.body.isEmpty||decide (s.op=5)||decide (s.op=6))=true) ?_ ?_
  ·have hf:¬((s.els.isEmpty||decide (s.op=5))=true/\(s.body.isEmpty||decide (s.op=5)||decide (s.op=6))=true)->az (d+1) s=false:=λh=>by
    have:iJ s=false:=by
     cases hx:iJ s with
     |false=>rfl
     |true=>refine absurd ?_ h;simp only[iJ,Vm] at hx;exact⟨hx.1.2,hx.2⟩
    simp[az,this]
   have pe:¬s.els=[]->0<s.els.length:=List.length_pos_iff.2
   have pb:¬s.body=[]->0<s.body.length:=List.length_pos_iff.2
   by_cases o5:s.op=5
   ·simp-implicitDefEqProofs[hh0,hsl,o5]
    repeat' first
     |(refine be (λhc=>?_) (λhc=>?_)<;>simp-implicitDefEqProofs[hc,hh0,hsl,o5])
    all_goals exact ae (by omega) hho (by simp[below,hhl])
   by_cases e1:s.els=[]
   case neg=>
    have hf:=hf (by simp[e1,o5])
    have:=pe e1
    simp-implicitDefEqProofs[hh0,hsl,o5,e1,this,hf]
   by_cases e2:s.body=[]
   ·simp-implicitDefEqProofs[hh0,hsl,o5,e1,e2]
    exact ae (by omega) hho (by simp[below,hhl])
   have:=pb e2
   by_cases o6:s.op=6
   ·simp-implicitDefEqProofs[hh0,hsl,o6,e1,e2,this]
    exact ae (by omega) hho (by simp[below,hhl])
   ·have hf:=hf (by simp[e2,o5,o6])
    simp-implicitDefEqProofs[hh0,hsl,o5,o6,e1,e2,this,hf]
  intro _ ⟨h7,h8⟩
  have hm:(match s.args with|a::_=>decide (a.op=13)|[]=>false)=decide (a0.op=13):=by rw[ha]
  have hhd:iJ s=true:=by
   have h6':(!decide (s.op=8)||(match s.args with|a::_=>decide (a.op=13)|[]=>false))=true:=by rw[hm];exact h6
   have h2':decide (s.args.length=gw s.op)=true:=by simp[h2]
   simp only[iJ,h1,h2',h3,h4,h5,h7,h8,Bool.and_self,Bool.and_true,Bool.true_and]
   exact h6'
  simp-implicitDefEqProofs[hh0,hw']
  refine(ihs s.body (by omega)).use ?_
  by_cases hB:s.body.all (az d)=true
  ·simp only[hB]
   simp-implicitDefEqProofs[hh0,hw']
   refine(ihs s.els (by omega)).use ?_
   have hf:az (d+1) s=s.els.all (az d):=by simp only[az,hhd,hB,Bool.true_and]
   rw[hf]
   generalize s.els.all (az d)=w
   simp-implicitDefEqProofs[]
  ·have hB':s.body.all (az d)=false:=by simpa using hB
   have hf:az (d+1) s=false:=by simp only[az,hB',Bool.and_false,Bool.false_and]
   simp only[hB',hf]
   simp-implicitDefEqProofs[]
theorem Ia(d:Nat)(hd:d<=1000)(l:List Sm)(hl:aC l<=1099511627776):VF Tryz.prog G bX [.p (smL l),.p (.int .i64 d)] (.p (.bool (l.all (az d)))):=
 vq G d hd (Lk G d hd) l hl
theorem Qh(f:Fd)(hf:f.sz<=1099511627776):VF Tryz.prog G ou [.agg (f.cs.map .p)] (.p (.bool (jH f))):=by
 refine AC.go Fp ?_
 have hsz:f.sz=1+f.name.length+(f.params.length+(f.params.map List.length).sum)+aC f.body:=rfl
 have hps:∀x∈f.params,x.length<=(f.params.map List.length).sum:=λx hx=>by
  have key:∀l:List (List UInt8),x∈l->x.length<=(l.map List.length).sum:=by
   intro l
   induction l with
   |nil=>intro h;cases h
   |cons y r ih=>
    intro h
    simp only[Vt,List.sum_cons]
    rcases Vf.1 h with rfl|h
    ·omega
    ·have:=ih h;omega
  exact key _ hx
 have hst:aw f.params= .lst 1 (f.params.map λw=>[.str w]):=rfl
 have h4:=Ia G 4 (by omega) f.body (by omega)
 simp-implicitDefEqProofs[vv,Fd.cs,hst]
 refine aO (λi:Nat=>ah 32 [(1,.ptr 0 3 0 0),(3,.p (.int .i64 i))]) (λ_=>[.row 3 [[.p (.str f.name),.p (aw f.params),.p (smL f.body)]]]) (λi=>i<=f.params.length/\(f.params.take i).all aG=true) (λi=>f.params.length-i) 0 (by simp) (ae (by simp) (by simp[okO]) (by simp[below])) ?_
 intro i ⟨hi,hall⟩
 simp-implicitDefEqProofs[hst]
 refine be (λh=>?_) (λh=>?_)
 ·simp at h
  have hg:=UW h
  have hl:=hps _ (Vl h)
  simp-implicitDefEqProofs[hg]
  refine(sZ G _ (by omega)).use ?_
  by_cases hk:aG f.params[i]=true
  ·simp-implicitDefEqProofs[hk]
   exact⟨i+1,⟨h,by rw[←Vc,eb h,hall,hk];rfl⟩,by omega,ae (by simp) (by simp[okO]) (by simp[below,w1 (i:=i) (by omega)])⟩
  ·have hk':aG f.params[i]=false:=by simpa using hk
   have hff:jH f=false:=by simp only[jH,nJ h hk',Bool.false_and]
   simp-implicitDefEqProofs[hk',hff]
 ·simp at h
  have h1:f.params.all aG=true:=ir h hall
  simp-implicitDefEqProofs[]
  refine(sZ G _ (by omega)).use ?_
  by_cases h2:aG f.name=true
  case neg=>
   have h2':aG f.name=false:=by simpa using h2
   simp-implicitDefEqProofs[h2',jH]
  simp-implicitDefEqProofs[h2]
  by_cases h3:f.params.length<=3
  case neg=>
   have h3':¬(f.params.length:Int)<=3:=by omega
   simp-implicitDefEqProofs[h3,h3',jH]
  have h3':(f.params.length:Int)<=3:=by omega
  simp-implicitDefEqProofs[h3']
  refine h4.use ?_
  have hff:jH f=f.body.all (az 4):=by simp only[jH,h1,h2,h3,decide_true,Bool.true_and]
  rw[hff]
  generalize f.body.all (az 4)=w
  simp-implicitDefEqProofs[]
theorem Jb{l:List Sm}{i:Nat}(h:i<l.length):dB (l.take (i+1))=dB (l.take i)+l[i].cnt:=by
 rw[aq h,oF];simp[dB]
theorem te(l:List Sm)(i:Nat):dB (l.take i)<=dB l:=by
 have:=oF (l.take i) (l.drop i)
 rw[VM] at this
 omega
def lH(l:List Sm)(i:Nat):Nat:=l.length+((l.take i).map λs=>dB s.body+dB s.els).sum
theorem FR(l:List Sm):lH l 0=l.length:=by simp[lH]
theorem zR{l:List Sm}{i:Nat}(h:i<l.length):lH l (i+1)=lH l i+dB l[i].body+dB l[i].els:=by
 rw[lH,lH,aq h,List.map_append,List.sum_append]
 simp only[Vt,List.map_nil,List.sum_cons,List.sum_nil]
 omega
theorem uD(l:List Sm):∀i,i<=l.length->dB (l.take i)+l.length=i+lH l i
 |0,_=>by simp[dB,lH]
 |i+1,h=>by
  have:=uD l i (by omega)
  rw[Jb (by omega),zR (by omega),(l[i]'(by omega)).cnt_eq]
  omega
theorem Ja:∀(k:Nat) (l:List Sm),aC l<=k->k<=1099511627776->VF Tryz.prog G eI [.p (smL l)] (.p (.int .i64 (dB l))):=by
 intro k
 induction k with
 |zero=>
  intro l hl _
  have:l=[]:=by
   cases l with
   |nil=>rfl
   |cons s r=>have:=s.sz_eq;simp only[aC] at hl;omega
  subst this
  refine AC.go pn ?_
  have hsl:smL []= .lst 5 []:=rfl
  simp-implicitDefEqProofs[kX,hsl]
  refine aO (λ_:Unit=>ah 29 [(0,.p (.lst 5 [])),(3,.p (.int .i64 0)),(4,.p (.int .i64 0))]) (λ_=>[]) (λ_=>True) (λ_=>0) () trivial (bx rfl (by simp[below])) ?_
  intro _ _
  simp-implicitDefEqProofs[dB]
 |succ k ih=>
  intro l hl hk
  have hll:=cb l
  have hnz:=pG l
  refine AC.go pn ?_
  have hsl:∀l,smL l= .lst 5 (l.map Sm.cs):=λ_=>rfl
  simp-implicitDefEqProofs[kX,hsl]
  refine aO (λi:Nat=>ah 29 [(0,.p (smL l)),(3,.p (.int .i64 (lH l i))),(4,.p (.int .i64 i))]) (λ_=>[]) (λi=>i<=l.length) (λi=>l.length-i) 0 (by simp) (bx rfl (by simp[below,hsl,FR])) ?_
  intro i hi
  have k0:=uD l i hi
  have k2:=te l i
  simp-implicitDefEqProofs[hsl]
  refine be (λh=>?_) (λh=>?_)
  ·simp at h
   have hg:=UW h
   have hks:=dQ (Vl h)
   have hse:=l[i].sz_eq
   have hce:=l[i].cs_eq
   have k1:=zR h
   have k3:=uD l (i+1) h
   have k4:=te l (i+1)
   simp-implicitDefEqProofs[hg,hce]
   refine(ih l[i].body (by omega) (by omega)).use ?_
   simp-implicitDefEqProofs[hg,hce]
   refine(ih l[i].els (by omega) (by omega)).use ?_
   have w1':IntKind.i64.wrap ((lH l i:Int)+(dB l[i].body:Int))=(lH l i:Int)+(dB l[i].body:Int):=ab (by omega) (by omega)
   have w2':IntKind.i64.wrap ((lH l i:Int)+(dB l[i].body:Int)+(dB l[i].els:Int))=(lH l (i+1):Int):=by rw[ab (by omega) (by omega)];omega
   simp-implicitDefEqProofs[w1',w2']
   exact⟨i+1,h,by omega,bx rfl (by simp[below,hsl,w1 (i:=i) (by omega)])⟩
  ·simp at h
   rw[Va h] at k0
   have:lH l i=dB l:=by omega
   simp-implicitDefEqProofs[this]
theorem cK:∀{l:List Fd} {f:Fd},f∈l->f.sz<=aH l
 |x::r,e,h=>by
  simp only[aH,Vt,List.sum_cons]
  rcases Vf.1 h with rfl|h
  ·omega
  ·have:=cK h;simp only[aH] at this;omega
theorem fQ:∀l:List Fd,l.length<=aH l
 |[]=>Vi _
 |e::r=>by have:=fQ r;simp only[aH,Vt,List.sum_cons,Vo] at this⊢;have:1<=e.sz:=by unfold Fd.sz;omega
           omega
def Ar(l:List Fd)(i:Nat):Nat:=gz (l.take i)
theorem Jj{l:List Fd}{i:Nat}(h:i<l.length):Ar l (i+1)=Ar l i+dB l[i].body:=by
 rw[Ar,Ar,gz,gz,aq h,List.map_append,List.sum_append];simp
theorem Da:∀l:List Fd,gz l<=aH l
 |[]=>Vi _
 |f::r=>by
  have:=Da r
  have h2:=pG f.body
  simp only[gz,aH,Vt,List.sum_cons] at this⊢
  have:aC f.body<=f.sz:=by unfold Fd.sz;omega
  omega
theorem ND(l:List Fd)(i:Nat):Ar l i<=aH l:=by
 have h1:=Da (l.take i)
 have h2:aH (l.take i)<=aH l:=by
  have:aH l=aH (l.take i)+aH (l.drop i):=by
   rw[←VM i l,aH,List.map_append,List.sum_append];simp[aH]
  omega
 exact Vp h1 h2
theorem NA(l:List Fd)(hl:aH l<=1099511627776):VF Tryz.prog G nK [.agg [.p (fdL l)]] (.p (.int .i64 (gz l))):=by
 refine AC.go Dq ?_
 have hll:=fQ l
 have hfl:∀l,fdL l= .lst 3 (l.map Fd.cs):=λ_=>rfl
 simp-implicitDefEqProofs[tT]
 refine aO (λi:Nat=>ah 22 [(1,.ptr 0 1 0 0),(3,.p (.int .i64 (Ar l i))),(4,.p (.int .i64 i))]) (λ_=>[.row 1 [[.p (fdL l)]]]) (λi=>i<=l.length) (λi=>l.length-i) 0 (by simp) (ae (by simp) (by simp[okO]) (by simp[below,Ar,gz])) ?_
 intro i hi
 simp-implicitDefEqProofs[hfl]
 refine be (λh=>?_) (λh=>?_)
 ·simp at h
  have hg:=UW h
  have hks:=cK (Vl h)
  have hse:l[i].sz=1+l[i].name.length+(l[i].params.length+(l[i].params.map List.length).sum)+aC l[i].body:=rfl
  have hce:l[i].cs=[.str l[i].name,aw l[i].params,smL l[i].body]:=rfl
  have k1:=Jj h
  have k2:=ND l (i+1)
  simp-implicitDefEqProofs[hg,hce]
  refine(Ja G _ l[i].body (Vi _) (by omega)).use ?_
  have w1':IntKind.i64.wrap ((Ar l i:Int)+(dB l[i].body:Int))=(Ar l (i+1):Int):=by rw[ab (by omega) (by omega)];omega
  simp-implicitDefEqProofs[w1']
  exact⟨i+1,h,by omega,ae (by simp) (by simp[okO]) (by simp[below,w1 (i:=i) (by omega),hfl])⟩
 ·simp at h
  have:Ar l i=gz l:=by rw[Ar,Va h]
  simp-implicitDefEqProofs[this]
theorem kH(l:List Fd)(hl:aH l<=1099511627776):VF Tryz.prog G dy [.agg [.p (fdL l)]] (.p (.bool (aY l))):=by
 refine AC.go rb ?_
 have hfl:∀l,fdL l= .lst 3 (l.map Fd.cs):=λ_=>rfl
 have hall:=NA G l hl
 have hll:=fQ l
 rw[hfl] at hall
 simp-implicitDefEqProofs[jY,hfl]
 refine(pi G _ _ _).use ?_
 by_cases h1:inR l.length 1 4=true
 case neg=>simp-implicitDefEqProofs[h1,aY]
 simp-implicitDefEqProofs[h1]
 refine aO (λi:Nat=>ah 26 [(1,.ptr 0 1 0 0),(3,.p (.int .i64 i))]) (λ_=>[.row 1 [[.p (.lst 3 (l.map Fd.cs))]]]) (λi=>i<=l.length/\(l.take i).all jH=true) (λi=>l.length-i) 0 (by simp) (ae (by simp) (by simp[okO]) (by simp[below])) ?_
 intro i ⟨hi,ha⟩
 simp-implicitDefEqProofs[]
 refine be (λh=>?_) (λh=>?_)
 ·simp at h
  have hg:=UW h
  have hks:=cK (Vl h)
  simp-implicitDefEqProofs[hg]
  refine(Qh G l[i] (by omega)).use ?_
  by_cases hk:jH l[i]=true
  ·simp-implicitDefEqProofs[hk]
   exact⟨i+1,⟨h,by rw[←Vc,eb h,ha,hk];rfl⟩,by omega,ae (by simp) (by simp[okO]) (by simp[below,w1 (i:=i) (by omega)])⟩
  ·have hk':jH l[i]=false:=by simpa using hk
   have hff:aY l=false:=by simp only[aY,nJ h hk',Bool.and_false,Bool.false_and]
   simp-implicitDefEqProofs[hk',hff]
 ·simp at h
  have h2:l.all jH=true:=ir h ha
  simp-implicitDefEqProofs[]
  refine hall.use ?_
  have hff:aY l=decide (gz l<=40):=by simp only[aY,h1,h2,Bool.true_and]
  simp-implicitDefEqProofs[hff]
  omega
end
section
theorem Ex.ext'{a b:Ex}(h1:a.op=b.op)(h2:a.n=b.n)(h3:a.name=b.name)(h4:a.kids=b.kids):a=b:=by
 cases a;cases b;simp only[Ex.op,Ex.n,Ex.name,Ex.kids] at*;subst h1 h2 h3 h4;rfl
theorem Sm.ext'{a b:Sm}(h1:a.op=b.op)(h2:a.name=b.name)(h3:a.args=b.args)(h4:a.body=b.body)(h5:a.els=b.els):a=b:=by
 cases a;cases b;simp only[Sm.op,Sm.name,Sm.args,Sm.body,Sm.els] at*;subst h1 h2 h3 h4 h5;rfl
variable (G:al)
end
section
def ixI:Option Nat->Int|none=> -1|some i=>i
def vaC(nf:Bool)(id n:Nat):AV:=if nf then .nils else .sl id 3 0 n
def lvC(v:LV):List AV:=[.p (.str v.name),.p (.int .i64 v.num),.p (.int .i64 v.block)]
def lvR(vs:List LV):List (List AV):=vs.reverse.map lvC
def roC(nf:Bool)(vs:List LV):AO:=if nf then .dead else .row 3 (lvR vs)
def wC(id:Nat)(nf:Bool)(fns:List Fd)(k:Nat)(w:WS):List AV:=[.p (fdL fns),.p (.int .i64 k),vaC nf id w.vs.length,.p (.int .i64 w.count),.p (.int .i64 w.code)]
def wO(id:Nat)(nf:Bool)(fns:List Fd)(k:Nat)(w:WS):AO:= .row 5 [wC id nf fns k w]
def HWk(nf:Bool)(fns:List Fd)(k:Nat)(w:WS):List AO:=[wO 1 nf fns k w,roC nf w.vs]
theorem yR(vs:List LV):(lvR vs).length=vs.length:=by simp[lvR]
theorem DJ(vs:List LV):∀x∈lvR vs,af 0 x:=by
 intro x hx;obtain⟨m,_,rfl⟩:=Vq.1 hx;simp[lvC,af,below]
theorem gq(nf:Bool)(vs:List LV)(n:Nat):okO n (roC nf vs):=by
 cases nf
 ·exact ee (λe he=>DJ vs e he)
 ·exact trivial
theorem In{nf:Bool}{id n m:Nat}(h:id<m):below m (vaC nf id n):=by cases nf<;>simp[vaC,below,h]
theorem AG{id:Nat}{nf:Bool}{fns:List Fd}{k:Nat}{w:WS}{m:Nat}(h:id<m):af m (wC id nf fns k w):=⟨by simp,by simp,In h,by simp,by simp,trivial⟩
theorem vM{id:Nat}{nf:Bool}{fns:List Fd}{k:Nat}{w:WS}{m:Nat}(h:id<m):okO m (wO id nf fns k w):=by
 intro e he;rw[Ve.1 he];exact AG h
theorem Nt(σ:List Nat)(nf:Bool)(id n:Nat):ren σ (vaC nf id n)=vaC nf (σ.getD id 0) n:=by cases nf<;>rfl
theorem Cm(σ:List Nat)(id:Nat)(nf:Bool)(fns:List Fd)(k:Nat)(w:WS):bh σ (wC id nf fns k w)=wC (σ.getD id 0) nf fns k w:=by
 simp only[wC,bh,Nt];rfl
theorem GM(σ:List Nat)(id:Nat)(nf:Bool)(fns:List Fd)(k:Nat)(w:WS):hZ σ (wO id nf fns k w)=wO (σ.getD id 0) nf fns k w:=by
 simp only[wO,hZ,Vt,List.map_nil,Cm]
theorem Fm(σ:List Nat)(nf:Bool)(vs:List LV):hZ σ (roC nf vs)=roC nf vs:=by
 cases nf
 ·show AO.row 3 ((lvR vs).map (bh σ))= .row 3 (lvR vs)
  rw[Vx (g:=id) λx hx=>ec σ x (DJ vs x hx)];simp
 ·rfl
theorem GC(pre:List LV)(v:LV)(r:List LV):(lvR (pre++v::r))[r.length]?=some (lvC v):=by
 simp[lvR]
theorem Lr(v:LV)(r:List LV):lvR (v::r)=lvR r++[lvC v]:=by simp[lvR]
def uM:List LV->List UInt8->Int
 |[],_=> -1
 |v::r,s=>if v.name=s then r.length else uM r s
theorem uG:∀(vs:List LV) (s:List UInt8),(lkV vs s=none/\uM vs s= -1)\/∃pre v r,vs=pre++v::r/\lkV vs s=some v/\uM vs s=r.length
 |[],s=> .inl ⟨rfl,rfl⟩
 |v::r,s=>by
  by_cases h:v.name=s
  ·exact .inr ⟨[],v,r,rfl,by simp[lkV,h],by simp[uM,h]⟩
  ·have h1:lkV (v::r) s=lkV r s:=by simp[lkV,h]
   have h2:uM (v::r) s=uM r s:=by simp[uM,h]
   rw[h1,h2]
   rcases uG r s with h|⟨pre,u,q,e,h⟩
   ·exact .inl h
   ·exact .inr ⟨v::pre,u,q,by rw[e];rfl,h⟩
theorem tu:AK.whole gG=FK.ak gO:=rfl
variable (G:al)
theorem Gx(l:List Fd)(s:List UInt8)(hl:l.length<=1099511627776):VF Tryz.prog G jq [.agg [.p (fdL l)],.p (.str s)] (.p (.int .i64 (ixI (bt l s)))):=by
 refine AC.go Ea ?_
 have hfl:∀l,fdL l= .lst 3 (l.map Fd.cs):=λ_=>rfl
 simp-implicitDefEqProofs[vC,hfl]
 refine aO (λi:Nat=>ah 22 [(1,.p (.str s)),(2,.ptr 0 1 0 0),(5,.p (.int .i64 i))]) (λ_=>[.row 1 [[.p (.lst 3 (l.map Fd.cs))]]]) (λi=>i<=l.length/\∀f∈l.take i,f.name≠s) (λi=>l.length-i) 0 (by simp) (ae (by simp) (by simp[okO]) (by simp[below])) ?_
 intro i ⟨hi,hn⟩
 simp-implicitDefEqProofs[]
 refine be (λh=>?_) (λh=>?_)
 ·simp at h
  have hg:=UW h
  have hce:l[i].cs=[.str l[i].name,aw l[i].params,smL l[i].body]:=rfl
  by_cases he:l[i].name=s
  ·have hf:bt l s=some i:=by
    rw[bt,Vn]
    exact⟨h,by simpa using he,λj hj=>by have:=hn l[j] (Wc.2 ⟨j,by omega,rfl⟩);simpa using this⟩
   simp-implicitDefEqProofs[hg,hce,he,hf,ixI]
  ·simp-implicitDefEqProofs[hg,hce,he]
   refine⟨i+1,⟨h,λp hp=>?_⟩,by omega,ae (by simp) (by simp[okO]) (by simp[below,w1 (i:=i) (by omega)])⟩
   rw[aq h] at hp
   rcases Vd.1 hp with hp|hp
   ·exact hn p hp
   ·rw[Ve.1 hp];exact he
 ·simp at h
  rw[Va h] at hn
  have hf:bt l s=none:=by
   rw[bt,VB];intro x hx;simpa using hn x hx
  simp-implicitDefEqProofs[hf,ixI]
theorem Qq:∀m:Nat,m<26->((([97,98,99,100,101,102,103,104,105,106,107,108,109,110,111,112,113,114,115,116,117,118,119,120,121,122]:List UInt8).take (m+1)).drop m)=[UInt8.ofNat (97+m)]:=by decide
theorem NH:∀m:Nat,m<26->List.drop m ((97:UInt8)::List.take m [98,99,100,101,102,103,104,105,106,107,108,109,110,111,112,113,114,115,116,117,118,119,120,121,122])=[97+UInt8.ofNat m]:=by decide
theorem yX(n:Nat):VF Tryz.prog G jk [.p (.int .i64 n)] (.p (.str (vnm n))):=by
 refine AC.go Bu ?_
 have hm:n%26<26:=Nat.mod_lt _ (by omega)
 have ht:(n:Int).tmod 26=((n%26:Nat):Int):=rfl
 have hw:IntKind.i64.wrap (((n%26:Nat):Int)+1)=((n%26+1:Nat):Int):=w1 (by omega)
 have habc:=Qq _ hm
 rw[vnm]
 generalize n%26=m at hm ht hw habc
 have h0:(0:Int)<=(m:Int)+1:=by omega
 have h1:m+1<=26:=by omega
 simp-implicitDefEqProofs[rY,ht,hw,h0,h1]
 exact⟨by omega,NH m hm⟩
theorem pA(nf:Bool)(fns:List Fd)(k:Nat)(w:WS)(c:Int):AC Tryz.prog G bA [.ptr 0 5 0 0,.p (.int .i64 c)] (HWk nf fns k w) λx h=>x= .ret (.tup [])/\h=HWk nf fns k ⟨w.vs,w.count,fl w.code c⟩:=by
 refine AC.go sG ?_
 by_cases h0:w.code=0
 ·simp-implicitDefEqProofs[gg,HWk,wO,wC,h0,fl]
 ·simp-implicitDefEqProofs[gg,HWk,wO,wC,h0,fl]
theorem AH(nf:Bool)(fns:List Fd)(k:Nat)(w:WS):∀o∈HWk nf fns k w,okO 2 o:=by
 intro o ho
 simp only[HWk,Vf,Vv,or_false] at ho
 rcases ho with rfl|rfl
 ·exact vM (by omega)
 ·exact gq _ _ _
theorem Hn(nf:Bool)(fns:List Fd)(k:Nat)(w:WS)(hn:nf=true->w.vs=[])(hl:w.vs.length<=1099511627776)(s:List UInt8):AC Tryz.prog G dL [.ptr 0 5 0 0,.p (.str s)] (HWk nf fns k w) λx h=>x= .ret (.p (.int .i64 (uM w.vs s)))/\h=HWk nf fns k w:=by
 refine AC.go sh ?_
 have hok:=AH nf fns k w
 cases nf with
 |true=>
  have hv:=hn rfl
  rw[HWk] at hok⊢
  simp-implicitDefEqProofs[gh,wO,wC,vaC,hv]
  refine aO (λ_:Unit=>ah 27 [(0,.ptr 0 5 0 0),(1,.p (.str s)),(5,.p (.int .i64 (-1)))]) (λ_=>[wO 1 true fns k w,roC true w.vs]) (λ_=>True) (λ_=>0) () trivial ?_ ?_
  ·have e:wO 1 true fns k w= .row 5 [[.p (fdL fns),.p (.int .i64 k),.nils,.p (.int .i64 w.count),.p (.int .i64 w.code)]]:=by simp[wO,wC,vaC]
   rw[←e,←hv]
   exact ae (by simp) hok (by simp[below,ab (x:= -1) (by omega) (by omega)])
  ·intro _ _
   simp-implicitDefEqProofs[uM]
   simp[wO,wC,vaC,hv]
 |false=>
  rw[HWk] at hok⊢
  have e:∀r,roC false r= .row 3 (lvR r):=λ_=>rfl
  have hw0:IntKind.i64.wrap ((w.vs.length:Int)-1)=(w.vs.length:Int)-1:=ab (by omega) (by omega)
  simp-implicitDefEqProofs[gh,wO,wC,vaC,hw0]
  refine aO (λr:List LV=>ah 27 [(0,.ptr 0 5 0 0),(1,.p (.str s)),(5,.p (.int .i64 ((r.length:Int)-1)))]) (λ_=>[wO 1 false fns k w,roC false w.vs]) (λr=>∃pre,w.vs=pre++r/\uM w.vs s=uM r s) (λr=>r.length) w.vs ⟨[],rfl,rfl⟩ ?_ ?_
  ·exact ae (h:=[wO 1 false fns k w,roC false w.vs]) (by simp) hok (by simp[below])
  ·rintro r ⟨pre,e1,e2⟩
   cases r with
   |nil=>
    simp-implicitDefEqProofs[wO,wC,vaC]
    rw[e2];rfl
   |cons v r=>
    have hat:=GC pre v r
    rw[←e1] at hat
    have hlen:r.length<w.vs.length:=by rw[e1];simp;omega
    have hll:=yR w.vs
    have c1:((r.length+1:Nat):Int)-1=(r.length:Int):=by omega
    have hw1:IntKind.i64.wrap ((r.length:Int)-1)=(r.length:Int)-1:=ab (by omega) (by omega)
    by_cases hs:v.name=s
    ·simp-implicitDefEqProofs[wO,wC,vaC,e,c1,hat,hlen,lvC,hs]
     rw[e2];simp[uM,hs]
    ·simp-implicitDefEqProofs[wO,wC,vaC,e,c1,hat,hlen,lvC,hs]
     refine⟨r,⟨⟨pre++[v],by rw[e1];simp⟩,by rw[e2];simp[uM,hs]⟩,by simp,?_⟩
     refine ae (h:=[wO 1 false fns k w,roC false w.vs]) (by simp) hok ?_
     simp[below,hw1]
theorem JZ(nf:Bool)(fns:List Fd)(k:Nat)(w:WS)(hn:nf=true->w.vs=[])(hl:w.vs.length<=1099511627776)(s:List UInt8):AC Tryz.prog G ew [.ptr 0 5 0 0,.p (.str s)] (HWk nf fns k w) λx h=>x= .ret (.p (.str (AE w.vs s)))/\h=HWk nf fns k ⟨w.vs,w.count,pg w.vs s w.code⟩:=by
 refine AC.go tk ?_
 simp-implicitDefEqProofs[lZ]
 refine(Hn G nf fns k w hn hl s).mono ?_
 rintro r h ⟨rfl,rfl⟩
 rcases uG w.vs s with⟨e1,e2⟩|⟨pre,v,q,e0,e1,e2⟩
 ·simp-implicitDefEqProofs[aa,e2]
  refine(pA G nf fns k w 3).mono ?_
  rintro r h ⟨rfl,rfl⟩
  simp-implicitDefEqProofs[aa,AE,pg,e1]
 ·have hat:=GC pre v q
  rw[←e0] at hat
  have hlen:q.length<w.vs.length:=by rw[e0];simp;omega
  have hnf:nf=false:=by
   cases nf with
   |false=>rfl
   |true=>rw[hn rfl] at e0;simp at e0
  subst hnf
  have e:∀r,roC false r= .row 3 (lvR r):=λ_=>rfl
  have hq:¬(q.length:Int)<0:=by omega
  simp-implicitDefEqProofs[aa,e2,hq,HWk,wO,wC,vaC,e,hat,hlen,lvC]
  refine(yX G v.num).use ?_
  simp-implicitDefEqProofs[AE,pg,e1]
theorem Lo(nf:Bool)(fns:List Fd)(k:Nat)(w:WS)(hn:nf=true->w.vs=[])(hl:w.vs.length<=1099511627776)(hc:w.count<=1099511627776)(s:List UInt8)(b:Nat):AC Tryz.prog G eA [.ptr 0 5 0 0,.p (.str s),.p (.int .i64 b)] (HWk nf fns k w) λx h=>x= .ret (.p (.str (vnm w.count)))/\h=[wO 2 false fns k (gn w s b),.dead,roC false (gn w s b).vs]:=by
 refine AC.goK sY tu ?_
 have hw1:IntKind.i64.wrap ((w.count:Int)+1)=(w.count:Int)+1:=ab (by omega) (by omega)
 have hw2:IntKind.i64.wrap ((w.count:Int)+1-1)=(w.count:Int):=by rw[ab (by omega) (by omega)];omega
 have hw3:IntKind.i64.wrap (w.count:Int)=(w.count:Int):=ab (by omega) (by omega)
 have hll:=yR w.vs
 simp-implicitDefEqProofs[gG,gO]
 refine(Hn G nf fns k w hn hl s).mono ?_
 rintro r h ⟨rfl,rfl⟩
 simp-implicitDefEqProofs[aa]
 refine mB (ah 57 [(0,.ptr 0 5 0 0),(1,.p (.str s)),(2,.p (.int .i64 b))]) (HWk nf fns k ⟨w.vs,w.count,nZ w.vs s b w.code⟩) ?_ ?_
 ·rcases uG w.vs s with⟨e1,e2⟩|⟨pre,v,q,e0,e1,e2⟩
  ·simp-implicitDefEqProofs[e2,nZ,e1]
   exact ae (by simp[HWk]) (AH nf fns k w) (by simp[below,HWk])
  ·have hat:=GC pre v q
   rw[←e0] at hat
   have hlen:q.length<w.vs.length:=by rw[e0];simp;omega
   have hnf:nf=false:=by
    cases nf with
    |false=>rfl
    |true=>rw[hn rfl] at e0;simp at e0
   subst hnf
   have e:∀r,roC false r= .row 3 (lvR r):=λ_=>rfl
   have hq:(0:Int)<=(q.length:Int):=by omega
   by_cases hb:v.block=b
   ·have:=pA G false fns k w 2
    simp only[HWk,wO,wC,vaC,e] at this
    simp-implicitDefEqProofs[e2,HWk,wO,wC,vaC,e,hat,hlen,lvC,hb]
    refine this.mono ?_
    rintro r h ⟨rfl,rfl⟩
    have hp:nZ w.vs s b w.code=fl w.code 2:=by simp[nZ,e1,hb]
    rw[hp]
    simp-implicitDefEqProofs[aa]
    refine ae (h:=HWk false fns k ⟨w.vs,w.count,fl w.code 2⟩) ?_ (AH _ _ _ _) ?_
    ·simp[HWk]
    ·simp[below,HWk]
   ·have hp:nZ w.vs s b w.code=w.code:=by simp[nZ,e1,hb]
    have hbi:¬(v.block:Int)=(b:Int):=by omega
    rw[hp]
    simp-implicitDefEqProofs[e2,HWk,wO,wC,vaC,e,hat,hlen,lvC,hbi]
    refine ae (h:=HWk false fns k w) ?_ (AH _ _ _ _) ?_
    ·simp[HWk]
    ·simp[below,HWk]
 ·cases nf with
  |true=>
   have hv:=hn rfl
   simp-implicitDefEqProofs[HWk,wO,wC,vaC,roC,hv,hw1,hw2,hw3]
   refine(yX G w.count).use ?_
   simp-implicitDefEqProofs[gn,lvR,lvC,hv]
  |false=>
   have e:∀r,roC false r= .row 3 (lvR r):=λ_=>rfl
   simp-implicitDefEqProofs[HWk,wO,wC,vaC,e,hw1,hw2,hw3,hll]
   refine⟨by omega,?_⟩
   refine(yX G w.count).use ?_
   simp-implicitDefEqProofs[gn,Lr,lvC]
   rw[Va (by omega)]
end
section
theorem sD:AK.whole gb=FK.ak gi:=rfl
variable (G:al)
theorem Ed{f:FuncId}{args:List AV}{nf:Bool}{fns:List Fd}{k:Nat}{w w':WS}{v:AV}(H:AC Tryz.prog G f args (HWk nf fns k w) λx h=>x= .ret v/\h=HWk nf fns k w')(rest:List AO)(ha:af 2 args):
 AC Tryz.prog G f args (wO 1 nf fns k w::roC nf w.vs::rest) λx h=>x= .ret v/\h=wO 1 nf fns k w'::roC nf w'.vs::rest:=by
 refine(AC.pre H rest ha (AH _ _ _ _) ?_).mono ?_
 ·rintro x h ⟨_,rfl⟩;rfl
 ·rintro x h ⟨h1,⟨rfl,rfl⟩,rfl⟩
  exact⟨rfl,rfl⟩
theorem um{n id:Nat}(hn:id<n){nf nf':Bool}{fns:List Fd}{k:Nat}{w:WS}{vs:List LV}{l:List AO}(r:∀o∈l,okO n o):∀o∈wO id nf fns k w::roC nf' vs::l,okO n o:=aj (vM hn) (aj (gq _ _ _) r)
theorem zn{ρ π:List Nat}{h r1:List AO}{i id:Nat}{nf:Bool}{fns:List Fd}{k:Nat}{w:WS}(hid:id<ρ.length)(e:h[i]?=some (wO (ρ.getD id 0) nf fns k w))(hr:HW ρ h π r1):HW ρ h (i::π) (wO id nf fns k w::r1):=by
 refine cS (es:=[wC id nf fns k w]) (λx hx=>?_) ?_ hr
 ·rw[Ve.1 hx];exact AG hid
 ·rw[e,Vt,List.map_nil,Cm];rfl
theorem Jr{α:Type}{l:List α}{i j:Nat}{a b:α}(hij:i≠j)(h:l[j]?=some b):(l.set i a).set j b=l.set i a:=by
 apply List.ext_getElem?
 intro n
 rw[List.getElem?_set]
 split
 ·rename_i e
  subst e
  rw[UT hij,h]
  rw[if_pos (by rw[Vy];exact(US.1 h).1)]
 ·rfl
theorem Ci(ρ:List Nat):∀l:List AV,af 0 l->TW ρ l l
 |[],_=>by simp
 |v::r,h=>by
  rw[yH]
  refine⟨.inr ⟨(bi (VV _) [v] ⟨h.1,trivial⟩).1,?_⟩,Ci ρ r h.2⟩
  have:=ec ρ [v] ⟨h.1,trivial⟩
  simpa[bh] using this
theorem RS{h:List AO}{wid id:Nat}{nf:Bool}{fns:List Fd}{k:Nat}{w:WS}(e0:h[wid]?=some (wO id nf fns k w))(e1:h[id]?=some (roC nf w.vs)):HW [wid,id] h [wid,id] (HWk nf fns k w):=by
 refine cS (es:=[wC 1 nf fns k w]) (λx hx=>?_) ?_ ?_
 ·rw[Ve.1 hx];exact AG (by simp)
 ·rw[e0,Vt,List.map_nil,Cm];rfl
 ·exact bS e1 (gq _ _ _) bV
theorem Py{f:FuncId}{args:List AV}{nf:Bool}{fns:List Fd}{k:Nat}{w:WS}{v:AV}{c:Int}(H:AC Tryz.prog G f (.ptr 0 5 0 0::args) (HWk nf fns k w) λx h=>x= .ret v/\h=HWk nf fns k ⟨w.vs,w.count,c⟩)(ha:af 0 args)(hv:below 0 v)
 {h:List AO}{wid id:Nat}(hid:wid≠id)(e0:h[wid]?=some (wO id nf fns k w))(e1:h[id]?=some (roC nf w.vs)):
 AC Tryz.prog G f (.ptr wid 5 0 0::args) h λx h'=>x= .ret v/\h'=h.set wid (wO id nf fns k ⟨w.vs,w.count,c⟩):=by
 refine(H.frame [wid,id] (by simp[hid]) ?_ (RS e0 e1)).mono ?_
 ·rw[yH];exact⟨.inr ⟨by simp[below],rfl⟩,Ci _ _ ha⟩
 ·rintro x h' ⟨x0,h0,⟨rfl,rfl⟩,_,rfl,rfl⟩
  refine⟨?_,?_⟩
  ·have:=ec ([wid,id]++List.range' h.length ((HWk nf fns k ⟨w.vs,w.count,c⟩).length-(HWk nf fns k w).length)) [v] ⟨hv,trivial⟩
   simp only[bh] at this
   simp only[Bs]
   exact congrArg ARes.ret (List.cons.inj this).1
  ·simp only[HWk,Vo,List.length_nil,Nat.sub_self,List.range'_zero,VP,List.take_succ_cons,List.take_zero,Vt,List.map_nil,List.drop_succ_cons,List.drop_zero,GM,Fm,mrg]
   exact Jr hid e1
theorem Lv{f:FuncId}{args:List AV}{nf:Bool}{fns:List Fd}{k:Nat}{w:WS}{v:AV}{Q:Bool->WS->Prop}(H:AC Tryz.prog G f (.ptr 0 5 0 0::args) (HWk nf fns k w) λx h=>∃nf' w',x= .ret v/\h=[wO 2 nf' fns k w',.dead,roC nf' w'.vs]/\Q nf' w')(ha:af 0 args)(hv:below 0 v)
 {h:List AO}{wid id:Nat}(hid:wid≠id)(e0:h[wid]?=some (wO id nf fns k w))(e1:h[id]?=some (roC nf w.vs)):
 AC Tryz.prog G f (.ptr wid 5 0 0::args) h λx h'=>∃nf' w',x= .ret v/\h'=(h.set wid (wO h.length nf' fns k w')).set id .dead++[roC nf' w'.vs]/\Q nf' w':=by
 refine(H.frame [wid,id] (by simp[hid]) ?_ (RS e0 e1)).mono ?_
 ·rw[yH];exact⟨.inr ⟨by simp[below],rfl⟩,Ci _ _ ha⟩
 ·rintro x h' ⟨x0,h0,⟨nf',w',rfl,rfl,q⟩,_,rfl,rfl⟩
  refine⟨nf',w',?_,?_,q⟩
  ·have:=ec ([wid,id]++List.range' h.length ([wO 2 nf' fns k w',.dead,roC nf' w'.vs].length-(HWk nf fns k w).length)) [v] ⟨hv,trivial⟩
   simp only[bh] at this
   simp only[Bs]
   exact congrArg ARes.ret (List.cons.inj this).1
  ·simp only[HWk,Vo,List.length_nil,List.take_succ_cons,List.take_zero,Vt,List.map_nil,List.drop_succ_cons,List.drop_zero,GM,Fm,mrg]
   rfl
theorem Ce(fns:List Fd)(k:Nat)(vs:List LV):∀(a b:List Ex) (c:Int),bj fns k vs (a++b) c=bj fns k vs b (bj fns k vs a c)
 |[],b,c=>rfl
 |e::r,b,c=>by rw[VH,bj,bj,Ce fns k vs r]
theorem td(vs:List LV):∀l:List Ex,la vs l=l.map (rnE vs)
 |[]=>rfl
 |e::r=>by rw[la,td vs r];rfl
theorem zs{fns:List Fd}{k:Nat}{vs:List LV}{l:List Ex}{c:Int}{i:Nat}(h:i<l.length):bj fns k vs (l.take (i+1)) c=mK fns k vs l[i] (bj fns k vs (l.take i) c):=by
 rw[aq h,Ce];rfl
theorem BP{vs:List LV}{l:List Ex}{i:Nat}(h:i<l.length):la vs (l.take (i+1))=la vs (l.take i)++[rnE vs l[i]]:=by
 rw[td,td,aq h,List.map_append];rfl
theorem tg(vs:List LV)(l:List Ex):(la vs l).length=l.length:=by rw[td,VE]
theorem Hp(l:List Ex):(exR l).length=l.length:=by simp[exR]
theorem HU(a b:List Ex):exR (a++b)=exR a++exR b:=by simp[exR]
theorem EE{h:List AO}{id:Nat}{l:List Ex}(e:h[id]?=some (.row 4 (exR l))):View h (.sl id 4 0 l.length) (exL l):=by
 have:=js (h:=h) (id:=id) (sz:=4) (n:=l.length) (ls:=l.map Ex.cs) (by rw[e,exR];simp) (by simp) (λx hx=>by obtain⟨b,_,rfl⟩:=Vq.1 hx;exact b.cs_len)
 exact this
theorem NF{fns:List Fd}{s:List UInt8}{j:Nat}(h:bt fns s=some j):j<fns.length:=by
 rw[bt,Vn] at h;exact h.1
theorem NI{fns:List Fd}{k:Nat}(hf:fns.length<=1099511627776):∀(N:Nat) (e:Ex),e.sz<=N->N<=1099511627776->∀(nf:Bool) (w:WS),(nf=true->w.vs=[])->w.vs.length<=1099511627776->
 AC Tryz.prog G cQ [.ptr 0 5 0 0,.agg (e.cs.map .p)] (HWk nf fns k w) λx h=>x= .ret (.agg ((rnE w.vs e).cs.map .p))/\h=HWk nf fns k ⟨w.vs,w.count,mK fns k w.vs e w.code⟩:=by
 intro N
 induction N with
 |zero=>intro e he;have:=e.sz_eq;omega
 |succ N ih=>
  intro e he hN nf w hn hl
  have hec:=e.cs_eq
  have hsz:=e.sz_eq
  have hkl:=bH e.kids
  have hre:(rnE w.vs e).cs=[.int .i64 e.op,.int .i64 e.n,.str (if e.op=2 then AE w.vs e.name else e.name),exL (la w.vs e.kids)]:=by
   obtain⟨o,n,s,ks⟩:=e;rw[rnE,Ex.cs_eq];rfl
  have hce:mK fns k w.vs e w.code=bj fns k w.vs e.kids (gu fns k w.vs e.op e.name e.kids.length w.code):=by
   obtain⟨o,n,s,ks⟩:=e;rfl
  have main:AC Tryz.prog G cQ [.ptr 0 5 0 0,.agg (e.cs.map .p)] (HWk nf fns k w) λx h=>∃E1 E2,x= .ret (.agg [.p (.int .i64 e.op),.p (.int .i64 e.n),.p (.str (if e.op=2 then AE w.vs e.name else e.name)),.sl 4 4 0 e.kids.length])/\
   h=[wO 1 nf fns k ⟨w.vs,w.count,mK fns k w.vs e w.code⟩,roC nf w.vs,E1,E2,.row 4 (exR (la w.vs e.kids))]:=by
   refine AC.goK si sD ?_
   simp-implicitDefEqProofs[gb,gi,HWk,hec]
   refine mB (ah 75 [(0,.ptr 0 5 0 0),(3,.ptr 2 4 0 0),(4,.ptr 3 4 0 0)]) [wO 1 nf fns k ⟨w.vs,w.count,if e.op=2 then pg w.vs e.name w.code else w.code⟩,roC nf w.vs,.row 4 [[.p (.int .i64 e.op),.p (.int .i64 e.n),.p (.str (if e.op=2 then AE w.vs e.name else e.name)),.p (exL e.kids)]],.row 4 [[.p (.int .i64 0),.p (.int .i64 0),.p (.str []),.nils]]] ?_ ?_
   ·by_cases o2:e.op=2
    ·simp-implicitDefEqProofs[o2]
     refine(Ed G (JZ G nf fns k w hn hl e.name) _ (by simp[below])).mono ?_
     rintro r h ⟨rfl,rfl⟩
     simp-implicitDefEqProofs[aa]
     exact ae (by simp) (um (by simp) (by simp[okO,below])) (by simp[below])
    ·simp-implicitDefEqProofs[o2]
     exact ae (by simp) (um (by simp) (by simp[okO,below])) (by simp[below])
   refine mB (ah 75 [(0,.ptr 0 5 0 0),(3,.ptr 2 4 0 0),(4,.ptr 3 4 0 0)]) [wO 1 nf fns k ⟨w.vs,w.count,gu fns k w.vs e.op e.name e.kids.length w.code⟩,roC nf w.vs,.row 4 [[.p (.int .i64 e.op),.p (.int .i64 e.n),.p (.str (if e.op=2 then AE w.vs e.name else e.name)),.p (exL e.kids)]],.row 4 [[.p (.int .i64 0),.p (.int .i64 0),.p (.str []),.nils]]] ?_ ?_
   ·by_cases o13:e.op=13
    ·have hhd:gu fns k w.vs e.op e.name e.kids.length w.code=kD fns k e.name e.kids.length w.code:=by simp[gu,o13]
     rw[hhd]
     simp-implicitDefEqProofs[o13,wO,wC]
     refine(Gx G fns e.name hf).use ?_
     have fin:∀c:Int,Wk 2 (ah 75 [(0,.ptr 0 5 0 0),(3,.ptr 2 4 0 0),(4,.ptr 3 4 0 0)]) [wO 1 nf fns k ⟨w.vs,w.count,c⟩,roC nf w.vs,.row 4 [[.p (.int .i64 13),.p (.int .i64 e.n),.p (.str e.name),.p (exL e.kids)]],.row 4 [[.p (.int .i64 0),.p (.int .i64 0),.p (.str []),.nils]]] (ah 75 [(0,.ptr 0 5 0 0),(3,.ptr 2 4 0 0),(4,.ptr 3 4 0 0)]) [wO 1 nf fns k ⟨w.vs,w.count,c⟩,roC nf w.vs,.row 4 [[.p (.int .i64 13),.p (.int .i64 e.n),.p (.str e.name),.p (exL e.kids)]],.row 4 [[.p (.int .i64 0),.p (.int .i64 0),.p (.str []),.nils]]]:=λc=>
      ae (by simp) (um (by simp) (by simp[okO,below])) (by simp[below])
     cases hfa:bt fns e.name with
     |none=>
      simp-implicitDefEqProofs[ixI,kD,hfa]
      refine(Ed G (pA G nf fns k w 4) _ (by simp[below])).mono ?_
      rintro r h ⟨rfl,rfl⟩
      simp-implicitDefEqProofs[aa]
      exact ae (h:=[wO 1 nf fns k ⟨w.vs,w.count,fl w.code 4⟩,roC nf w.vs,.row 4 [[.p (.int .i64 13),.p (.int .i64 e.n),.p (.str e.name),.p (exL e.kids)]],.row 4 [[.p (.int .i64 0),.p (.int .i64 0),.p (.str []),.nils]]]) (by simp) (um (by simp) (by simp[okO,below])) (by simp[below])
     |some j=>
      have hj:=NF hfa
      have hg:=UW hj
      have hjn:¬(j:Int)<0:=by omega
      by_cases hkj:k<=j
      ·have hkj':(k:Int)<=(j:Int):=by omega
       simp-implicitDefEqProofs[ixI,kD,hfa,hkj,hkj',hjn]
       refine(Ed G (pA G nf fns k w 4) _ (by simp[below])).mono ?_
       rintro r h ⟨rfl,rfl⟩
       simp-implicitDefEqProofs[aa]
       exact ae (h:=[wO 1 nf fns k ⟨w.vs,w.count,fl w.code 4⟩,roC nf w.vs,.row 4 [[.p (.int .i64 13),.p (.int .i64 e.n),.p (.str e.name),.p (exL e.kids)]],.row 4 [[.p (.int .i64 0),.p (.int .i64 0),.p (.str []),.nils]]]) (by simp) (um (by simp) (by simp[okO,below])) (by simp[below])
      ·have hkj':¬(k:Int)<=(j:Int):=by omega
       have hfl:fdL fns= .lst 3 (fns.map Fd.cs):=rfl
       have hcs:fns[j].cs=[.str fns[j].name,aw fns[j].params,smL fns[j].body]:=rfl
       have hst:aw fns[j].params= .lst 1 (fns[j].params.map λw=>[.str w]):=rfl
       have hxl:∀l,exL l= .lst 4 (l.map Ex.cs):=λ_=>rfl
       have hpn:tC fns j=fns[j].params.length:=by simp[tC,hg]
       by_cases hp:fns[j].params.length=e.kids.length
       ·have hcc:kD fns k e.name e.kids.length w.code=w.code:=by simp[kD,hfa,hkj,hpn,hp]
        rw[hcc]
        simp-implicitDefEqProofs[ixI,hkj',hjn,hfl,hg,hcs,hst,hxl,hp]
        exact ae (h:=[wO 1 nf fns k w,roC nf w.vs,.row 4 [[.p (.int .i64 13),.p (.int .i64 e.n),.p (.str e.name),.p (exL e.kids)]],.row 4 [[.p (.int .i64 0),.p (.int .i64 0),.p (.str []),.nils]]]) (by simp) (um (by simp) (by simp[okO,below])) (by simp[below])
       ·have hcc:kD fns k e.name e.kids.length w.code=fl w.code 5:=by simp[kD,hfa,hkj,hpn,hp]
        have hp':¬(fns[j].params.length:Int)=(e.kids.length:Int):=by omega
        rw[hcc]
        simp-implicitDefEqProofs[ixI,hkj',hjn,hfl,hg,hcs,hst,hxl,hp']
        refine(Ed G (pA G nf fns k w 5) _ (by simp[below])).mono ?_
        rintro r h ⟨rfl,rfl⟩
        simp-implicitDefEqProofs[aa]
        exact ae (h:=[wO 1 nf fns k ⟨w.vs,w.count,fl w.code 5⟩,roC nf w.vs,.row 4 [[.p (.int .i64 13),.p (.int .i64 e.n),.p (.str e.name),.p (exL e.kids)]],.row 4 [[.p (.int .i64 0),.p (.int .i64 0),.p (.str []),.nils]]]) (by simp) (um (by simp) (by simp[okO,below])) (by simp[below])
    ·have hhd:gu fns k w.vs e.op e.name e.kids.length w.code=if e.op=2 then pg w.vs e.name w.code else w.code:=by simp[gu,o13]
     rw[hhd]
     simp-implicitDefEqProofs[o13]
     exact ae (by simp) (um (by simp) (by simp[okO,below])) (by simp[below])
   rw[hce]
   generalize gu fns k w.vs e.op e.name e.kids.length w.code=c2
   generalize (if e.op=2 then AE w.vs e.name else e.name)=s1
   have hxl:exL e.kids= .lst 4 (e.kids.map Ex.cs):=rfl
   simp-implicitDefEqProofs[]
   refine aO (λi:Nat=>ah 75 [(0,.ptr 0 5 0 0),(3,.ptr 2 4 0 0),(4,.ptr 3 4 0 0),(6,.sl 4 4 0 i),(7,.p (.int .i64 i))])
    (λi=>[wO 1 nf fns k ⟨w.vs,w.count,bj fns k w.vs (e.kids.take i) c2⟩,roC nf w.vs,.row 4 [[.p (.int .i64 e.op),.p (.int .i64 e.n),.p (.str s1),.p (exL e.kids)]],.row 4 [[.p (.int .i64 0),.p (.int .i64 0),.p (.str []),.nils]],.row 4 (exR (la w.vs (e.kids.take i)))])
    (λi=>i<=e.kids.length) (λi=>e.kids.length-i) 0 (by simp) ?_ ?_
   ·exact ae (by simp) (um (by simp) (by simp[okO,below])) (by simp[below])
   ·intro i hi
    have hrl:(exR (la w.vs (e.kids.take i))).length=i:=by rw[Hp,tg];simp;omega
    simp-implicitDefEqProofs[hxl]
    refine be (λh=>?_) (λh=>?_)
    ·simp at h
     have hg:=UW h
     have hks:=bT (Vl h)
     have hkc:=(rnE w.vs e.kids[i]).cs_eq
     simp-implicitDefEqProofs[hg]
     refine(Ed G (ih e.kids[i] (by omega) (by omega) nf ⟨w.vs,w.count,bj fns k w.vs (e.kids.take i) c2⟩ hn hl) _ (by simp[below])).mono ?_
     rintro r h ⟨rfl,rfl⟩
     rw[show(rnE (WS.mk w.vs w.count (bj fns k w.vs (e.kids.take i) c2)).vs e.kids[i])=rnE w.vs e.kids[i] from rfl]
     simp-implicitDefEqProofs[aa,hkc,hrl]
     refine⟨by omega,?_⟩
     refine⟨i+1,by omega,by omega,?_⟩
     have htk:List.take i (exR (la w.vs (e.kids.take i)))=exR (la w.vs (e.kids.take i)):=Va (by omega)
     rw[zs h,BP h,HU,htk]
     refine dc [0,1,2,3,6] (by simp) (by decide) (by decide) (zn (by simp) rfl (bS rfl (gq _ _ _) (bg rfl (by simp[below]) (bg rfl (by simp[below]) (bg ?_ ?_ bV))))) (by simp[below,ren,w1 (i:=i) (by omega)])
     ·have:exR [rnE w.vs e.kids[i]]=[[.p (.int .i64 (rnE w.vs e.kids[i]).op),.p (.int .i64 (rnE w.vs e.kids[i]).n),.p (.str (rnE w.vs e.kids[i]).name),.p (exL (rnE w.vs e.kids[i]).kids)]]:=by rw[exR,VZ,hkc];rfl
      rw[this];rfl
     ·intro x hx
      rcases Vd.1 hx with h|h
      ·exact dS _ x h
      ·exact dS _ x h
    ·simp at h
     have hie:i=e.kids.length:=by omega
     subst hie
     simp-implicitDefEqProofs[]
  refine main.frz 2 (by simp[HWk]) (λt v h ⟨_,_,e,_⟩=>by cases e) ?_
  rintro v h ⟨E1,E2,e,rfl⟩
  cases e
  refine⟨_,HWk nf fns k ⟨w.vs,w.count,mK fns k w.vs e w.code⟩,by simp,rfl,.agg ?_ .nil,.same (vM (by omega)) (.same (gq _ _ _) (.nil _)),rfl,rfl⟩
  rw[hre]
  have hrl:=tg w.vs e.kids
  rw[←hrl]
  exact .keep (by simp) (.keep (by simp) (.keep (by simp) (.one (EE rfl) .nil)))
end
section
theorem rf:AK.whole fq=FK.ak fG:=rfl
theorem Fa(fns:List Fd)(k b:Nat):∀(x y:List Sm) (w:WS),bv fns k b (x++y) w=bv fns k b y (bv fns k b x w)
 |[],y,w=>rfl
 |s::r,y,w=>by rw[VH,bv,bv,Fa fns k b r]
theorem DH(fns:List Fd)(k b:Nat):∀(x y:List Sm) (w:WS),iA fns k b (x++y) w=iA fns k b x w++iA fns k b y (bv fns k b x w)
 |[],y,w=>rfl
 |s::r,y,w=>by rw[VH,iA,iA,DH fns k b r];rfl
theorem Js{fns:List Fd}{k b:Nat}{l:List Sm}{w:WS}{i:Nat}(h:i<l.length):bv fns k b (l.take (i+1)) w=stW fns k b l[i] (bv fns k b (l.take i) w):=by
 rw[aq h,Fa];rfl
theorem Jw{fns:List Fd}{k b:Nat}{l:List Sm}{w:WS}{i:Nat}(h:i<l.length):iA fns k b (l.take (i+1)) w=iA fns k b (l.take i) w++[rnS fns k b l[i] (bv fns k b (l.take i) w)]:=by
 rw[aq h,DH];rfl
theorem zV(fns:List Fd)(k b:Nat):∀(l:List Sm) (w:WS),(iA fns k b l w).length=l.length
 |[],w=>rfl
 |s::r,w=>by rw[iA,Vo,zV fns k b r,Vo]
theorem OB{l:List Sm}{i:Nat}(h:i<l.length):aC (l.take i)+l[i].sz<=aC l:=by
 have e:l=l.take i++l[i]::l.drop (i+1):=by rw[←VS h,VM]
 have h2:aC l=aC (l.take i)+(l[i].sz+aC (l.drop (i+1))):=by
  conv=>lhs;rw[e]
  rw[bC];rfl
 omega
def sI(fns:List Fd)(k b:Nat)(l:List Sm)(w:WS):WS:=if 0<b then(bv fns k b l w).back w.vs else bv fns k b l w
theorem GF(fns:List Fd)(k b:Nat)(l:List Sm)(w:WS):(sI fns k b l w).count=w.count+rA l:=by
 unfold sI
 split
 ·exact iU fns k l b w
 ·exact iU fns k l b w
theorem Kh{e vs:List LV}:(lvR (e++vs)).take vs.length=lvR vs:=by
 have h:lvR (e++vs)=lvR vs++lvR e:=by simp[lvR]
 rw[h,List.take_append_of_le_length (by rw[yR];exact Vi _),Va (by rw[yR];exact Vi _)]
theorem BK(l:List Sm):rA l<=aC l:=Vp (tS l) (pG l)
theorem Fv(nf:Bool)(id n:Nat):(vaC nf id n).isCell=true:=by cases nf<;>rfl
theorem IC(nf:Bool)(id n:Nat):(vaC nf id n).cells=[vaC nf id n]:=by cases nf<;>rfl
attribute [simp ↓] Fv IC
variable (G:al)
def StP(fns:List Fd)(k b:Nat)(l:List Sm)(w:WS)(x:ARes)(h:List AO):Prop:=∃nf' w',x= .ret (.p (smL (iA fns k b l w)))/\h=[wO 2 nf' fns k w',.dead,roC nf' w'.vs]/\(nf'=true->w'.vs=[])/\w'=sI fns k b l w
structure StS where (i:Nat) (nf:Bool)
theorem MD{fns:List Fd}{k:Nat}(hf:fns.length<=1099511627776):∀(N:Nat) (l:List Sm),aC l<N->∀(b:Nat) (nf:Bool) (w:WS),(nf=true->w.vs=[])->w.vs.length<=w.count->w.count+aC l<=1099511627776->b+aC l<=1099511627776->
 AC Tryz.prog G cx [.ptr 0 5 0 0,.p (smL l),.p (.int .i64 b)] (HWk nf fns k w) (StP fns k b l w):=by
 intro N
 induction N with
 |zero=>
  intro l hl b nf w hn hv hc hb
  omega
 |succ N ih=>
  intro l hl b nf w hn hv hc hb
  have hll:=cb l
  refine AC.goK pY rf ?_
  have hsl:∀l,smL l= .lst 5 (l.map Sm.cs):=λ_=>rfl
  have hlen0:FD (vaC nf 1 w.vs.length)=some (.p (.int .i64 w.vs.length)):=by
   cases nf
   ·rfl
   ·simp[vaC,hn rfl]
  simp-implicitDefEqProofs[fq,fG,HWk,wO,wC,hlen0]
  refine aO (λs:StS=>ah 96 [(0,.ptr 0 5 0 0),(1,.p (smL l)),(2,.p (.int .i64 b)),(7,.sl 2 5 0 s.i),(8,.p (.int .i64 w.vs.length)),(9,.p (.int .i64 s.i))])
   (λs=>[wO 3 s.nf fns k (bv fns k b (l.take s.i) w),.dead,.row 5 (smR (iA fns k b (l.take s.i) w)),roC s.nf (bv fns k b (l.take s.i) w).vs])
   (λs=>s.i<=l.length/\(s.nf=true->(bv fns k b (l.take s.i) w).vs=[])) (λs=>l.length-s.i) ⟨0,nf⟩ ⟨by simp,hn⟩ ?_ ?_
  ·refine HM [0,1,2,1] (by simp) (by decide) ?_ (zn (by simp) rfl (eU (by simp) (bg rfl (by simp[smR,iA]) (bS rfl (gq _ _ _) bV)))) (by simp[below,ren])
   cases nf<;>simp[jz,roC,wO,bv]
  ·rintro⟨i,nf⟩ ⟨hi,hn⟩
   simp only at hi hn
   simp-implicitDefEqProofs[hsl]
   refine be (λh=>?_) (λh=>?_)
   ·simp at h
    have hg:=UW h
    have hat:=OB h
    have hse:=l[i].cs_eq
    have hsz:=l[i].sz_eq
    have hle:=Hb fns k (l:=l.take i) (b:=b) hv
    have hcn:=iU fns k (l.take i) b w
    have hlz:=BK (l.take i)
    have eW:=Js (fns:=fns) (k:=k) (b:=b) (w:=w) h
    have eR:=Jw (fns:=fns) (k:=k) (b:=b) (w:=w) h
    have hol:=zV fns k b (l.take i) w
    rw[Vs,Nat.min_eq_left hi] at hol
    generalize l[i]=s at hg hat hse hsz eW eR
    generalize bv fns k b (l.take i) w=wi at hn hle hcn eW eR⊢
    generalize iA fns k b (l.take i) w=out at hol eR⊢
    obtain⟨o,nme,a,bd,el⟩:=s
    simp only[Sm.op,Sm.name,Sm.args,Sm.body,Sm.els] at hse hsz
    simp-implicitDefEqProofs[hg,hse]
    have hxl:∀l,exL l= .lst 4 (l.map Ex.cs):=λ_=>rfl
    have hal:=bH a
    have hlE:=BK bd
    have hwl:wi.vs.length<=1099511627776:=by omega
    have hopR:∀(x y z u v:AV),af 0 [x,y,z,u,v]->okO 5 (AO.row 5 [[x,y,z,u,v]]):=λx y z u v hh=>ee (λe he=>by rw[Ve.1 he];exact hh)
    refine aO (λj:Nat=>ah 96 [(0,.ptr 0 5 0 0),(1,.p (smL l)),(2,.p (.int .i64 b)),(7,.sl 2 5 0 i),(8,.p (.int .i64 w.vs.length)),(9,.p (.int .i64 i)),(10,.ptr 4 5 0 0),(11,.sl 5 4 0 j),(12,.p (.int .i64 j))])
     (λj=>[wO 3 nf fns k ⟨wi.vs,wi.count,bj fns k wi.vs (a.take j) wi.code⟩,.dead,.row 5 (smR out),roC nf wi.vs,.row 5 [[.p (.int .i64 o),.p (.str nme),.p (exL a),.p (smL bd),.p (smL el)]],.row 4 (exR (la wi.vs (a.take j)))])
     (λj=>j<=a.length) (λj=>a.length-j) 0 (by simp) ?_ ?_
    ·refine ae (h:=[wO 3 nf fns k wi,.dead,.row 5 (smR out),roC nf wi.vs,.row 5 [[.p (.int .i64 o),.p (.str nme),.p (exL a),.p (smL bd),.p (smL el)]],.row 4 []]) (by simp) (aj (vM (by simp)) (aj trivial (aj (ee (dT out)) (aj (gq _ _ _) (by simp[okO,below]))))) (by simp[below,hsl])
    intro j hj
    have hrl:(exR (la wi.vs (a.take j))).length=j:=by rw[Hp,tg];simp;omega
    simp-implicitDefEqProofs[hxl]
    refine be (λhc=>?_) (λhc=>?_)
    ·simp at hc
     have hga:=UW hc
     have hks:=bT (Vl hc)
     have hkc:=(rnE wi.vs a[j]).cs_eq
     simp-implicitDefEqProofs[hga]
     refine(Py G (id:=3) (NI G hf (a[j].sz) a[j] (Vi _) (by omega) nf ⟨wi.vs,wi.count,bj fns k wi.vs (a.take j) wi.code⟩ hn hwl) (by simp) (by simp[below]) (by decide) rfl rfl).mono ?_
     rintro r h' ⟨rfl,rfl⟩
     rw[show(rnE (WS.mk wi.vs wi.count (bj fns k wi.vs (a.take j) wi.code)).vs a[j])=rnE wi.vs a[j] from rfl]
     simp-implicitDefEqProofs[aa,hkc,hrl]
     refine⟨by omega,j+1,by omega,by omega,?_⟩
     have htk:List.take j (exR (la wi.vs (a.take j)))=exR (la wi.vs (a.take j)):=Va (by omega)
     rw[zs hc,BP hc,HU,htk]
     refine dc [0,1,2,3,4,7] (by simp) (by decide) (by decide) (zn (by simp) rfl (eU (by simp) (bg rfl (dT out) (bS rfl (gq _ _ _) (bg rfl (by simp[below]) (bg ?_ ?_ bV)))))) (by simp[below,ren,hsl,w1 (i:=j) (by omega)])
     ·have:exR [rnE wi.vs a[j]]=[[.p (.int .i64 (rnE wi.vs a[j]).op),.p (.int .i64 (rnE wi.vs a[j]).n),.p (.str (rnE wi.vs a[j]).name),.p (exL (rnE wi.vs a[j]).kids)]]:=by rw[exR,VZ,hkc];rfl
      rw[this];rfl
     ·intro x hx
      rcases Vd.1 hx with h|h
      ·exact dS _ x h
      ·exact dS _ x h
    simp at hc
    have hje:j=a.length:=by omega
    subst hje
    rw[List.take_length] at hrl⊢
    have hal2:=tg wi.vs a
    simp-implicitDefEqProofs[]
    generalize hw1:WS.mk wi.vs wi.count (bj fns k wi.vs a wi.code)=w1
    have e1v:w1.vs=wi.vs:=by rw[←hw1]
    have e1c:w1.count=wi.count:=by rw[←hw1]
    have e1l:w1.vs.length=wi.vs.length:=by rw[e1v]
    rw[←e1v]
    refine mB (ah 96 [(0,.ptr 0 5 0 0),(1,.p (smL l)),(2,.p (.int .i64 b)),(7,.sl 2 5 0 i),(8,.p (.int .i64 w.vs.length)),(9,.p (.int .i64 i)),(10,.ptr 4 5 0 0)])
     [wO 3 nf fns k w1,.dead,.row 5 (smR out),roC nf w1.vs,.row 5 [[.p (.int .i64 o),.p (.str nme),.p (exL (la w1.vs a)),.p (smL bd),.p (smL el)]]] ?_ ?_
    ·simp-implicitDefEqProofs[]
     refine kj 5 (by omega) (by simp) rfl (.same (vM (by omega)) (.dead (.same (ee (dT out)) (.same (gq _ _ _) (.one (.keep (by simp[below]) (.keep (by simp[below]) (.one ?_ (.keep (by simp[below]) (.keep (by simp[below]) .nil))))) (.nil _)))))) ?_
     ·rw[←e1v] at hal2
      rw[←hal2]
      exact EE rfl
     ·refine⟨.keep (by simp[below]) .nil,.keep (by simp[below]) .nil,.keep (by simp[below]) .nil,.keep (by simp[below]) .nil,.keep (by simp[below]) .nil,.keep (by simp[below]) .nil,.keep (by simp[below]) .nil,trivial⟩
    have TT:∀(r1:List (Nat × AV)),Aw.look r1 0= .ptr 0 5 0 0->Aw.look r1 1= .p (smL l)->Aw.look r1 2= .p (.int .i64 b)->Aw.look r1 7= .sl 2 5 0 i->Aw.look r1 8= .p (.int .i64 w.vs.length)->Aw.look r1 9= .p (.int .i64 i)->Aw.look r1 10= .ptr 4 5 0 0->∀ρ:List Nat,ρ.length=5->ρ.getD 0 0=0->ρ.getD 2 0=2->ρ.getD 4 0=4->
     TWA ρ r1 [(0,.ptr 0 5 0 0),(1,.p (smL l)),(2,.p (.int .i64 b)),(7,.sl 2 5 0 i),(8,.p (.int .i64 w.vs.length)),(9,.p (.int .i64 i)),(10,.ptr 4 5 0 0)]:=by
     intro r1 a0 a1 a2 a7 a8 a9 a10 ρ hr r0 r2 r4
     simp[below,ren,hr,a0,a1,a2,a7,a8,a9,a10]
     rw[Vj,UW (by omega)] at r0 r2 r4
     exact⟨r0,r2,r4⟩
    have hn1:nf=true->w1.vs=[]:=λh=>by rw[e1v];exact hn h
    have okB:∀(nf:Bool) (w:WS) (r:AO),okO 0 r->∀x∈[wO 3 nf fns k w,.dead,.row 5 (smR out),roC nf w.vs,r],okO 5 x:=λnf w r hr=>
     aj (vM (by omega)) (aj trivial (aj (ee (dT out)) (aj (gq _ _ _) (aj (ee hr) fW))))
    refine mB (ah 96 [(0,.ptr 0 5 0 0),(1,.p (smL l)),(2,.p (.int .i64 b)),(7,.sl 2 5 0 i),(8,.p (.int .i64 w.vs.length)),(9,.p (.int .i64 i)),(10,.ptr 4 5 0 0)])
     [wO 3 (if o=1 then false else nf) fns k (if o=1 then gn w1 nme b else w1),.dead,.row 5 (smR out),roC (if o=1 then false else nf) (if o=1 then gn w1 nme b else w1).vs,.row 5 [[.p (.int .i64 o),.p (.str (if o=1 then vnm w1.count else nme)),.p (exL (la w1.vs a)),.p (smL bd),.p (smL el)]]] ?_ ?_
    ·by_cases o1:o=1
     ·simp-implicitDefEqProofs[o1]
      refine(Lv G (id:=3) (Q:=λnf' w'=>nf'=false/\w'=gn w1 nme b) ((Lo G nf fns k w1 hn1 (by omega) (by omega) nme b).mono (by rintro x h ⟨rfl,rfl⟩;exact⟨false,_,rfl,rfl,rfl,rfl⟩)) (by simp) (by simp[below]) (by decide) rfl rfl).mono ?_
      rintro r h' ⟨nf',w',rfl,rfl,rfl,rfl⟩
      simp-implicitDefEqProofs[aa]
      refine dc [0,1,2,5,4] (by simp) (by decide) (by decide) (zn (by simp) rfl (eU (by simp) (bg rfl (dT out) (bS rfl (gq _ _ _) (bg rfl (by simp[below]) bV))))) (TT _ (by simp) (by simp) (by simp) (by simp) (by simp) (by simp) (by simp) _ rfl rfl rfl rfl)
     ·simp-implicitDefEqProofs[o1]
      refine ae (by simp) (okB nf w1 _ (by simp[okO,below])) (by simp[below])
    generalize hw2:(if o=1 then gn w1 nme b else w1)=w2
    generalize hnf2:(if o=1 then false else nf)=nf2
    generalize hnm2:(if o=1 then vnm w1.count else nme)=nm2
    have hn2:nf2=true->w2.vs=[]:=by
     intro h
     by_cases o1:o=1
     ·rw[if_pos o1] at hnf2;rw[←hnf2] at h;cases h
     ·rw[if_neg o1] at hnf2 hw2;rw[←hw2];exact hn1 (by rw[hnf2];exact h)
    have h2c:w2.count=w1.count+if o=1 then 1 else 0:=by rw[←hw2];split<;>rfl
    have h2v:w2.vs.length<=w2.count:=by
     rw[←hw2];split
     ·simp[gn];omega
     ·omega
    have h2b:w2.count<=wi.count+1:=by rw[h2c,e1c];split<;>omega
    refine mB (ah 96 [(0,.ptr 0 5 0 0),(1,.p (smL l)),(2,.p (.int .i64 b)),(7,.sl 2 5 0 i),(8,.p (.int .i64 w.vs.length)),(9,.p (.int .i64 i)),(10,.ptr 4 5 0 0)])
     [wO 3 nf2 fns k (opW o nme b w1),.dead,.row 5 (smR out),roC nf2 (opW o nme b w1).vs,.row 5 [[.p (.int .i64 o),.p (.str (opN o nme w1)),.p (exL (la w1.vs a)),.p (smL bd),.p (smL el)]]] ?_ ?_
    ·by_cases o2:o=2
     ·have o1:¬o=1:=by omega
      rw[if_neg o1] at hw2 hnm2
      subst hw2;subst hnm2
      have eo:opW o nme b w1=⟨w1.vs,w1.count,pg w1.vs nme w1.code⟩:=by rw[opW,if_neg o1,if_pos o2]
      have en:opN o nme w1=AE w1.vs nme:=by rw[opN,if_neg o1,if_pos o2]
      rw[eo,en]
      simp-implicitDefEqProofs[o2]
      refine(Py G (id:=3) (JZ G nf2 fns k w1 hn2 (by omega) nme) (by simp) (by simp[below]) (by decide) rfl rfl).mono ?_
      rintro r h' ⟨rfl,rfl⟩
      simp-implicitDefEqProofs[aa]
      refine ae (h:=[wO 3 nf2 fns k ⟨w1.vs,w1.count,pg w1.vs nme w1.code⟩,.dead,.row 5 (smR out),roC nf2 w1.vs,_]) (by simp) (okB nf2 ⟨w1.vs,w1.count,pg w1.vs nme w1.code⟩ _ (by simp[okO,below])) (by simp[below])
     ·have eo:opW o nme b w1=w2:=by rw[opW,if_neg o2,←hw2]
      have en:opN o nme w1=nm2:=by rw[opN,if_neg o2,←hnm2]
      rw[eo,en]
      simp-implicitDefEqProofs[o2]
      refine ae (by simp) (okB nf2 w2 _ (by simp[okO,below])) (by simp[below])
    have eov:(opW o nme b w1).vs=w2.vs:=by
     rw[opW,←hw2];split
     ·rfl
     ·split<;>rfl
    have eoc:(opW o nme b w1).count=w2.count:=by rw[uX,h2c]
    have hwb:IntKind.i64.wrap ((b:Int)+1)=((b+1:Nat):Int):=by rw[ab (by omega) (by omega)];omega
    have hstw:stW fns k b (.mk o nme a bd el) wi=sI fns k (b+1) el (sI fns k (b+1) bd (opW o nme b w1)):=by
     rw[stW]
     simp only[hw1,sI,Nat.succ_pos,if_true]
     rfl
    have hrns:(rnS fns k b (.mk o nme a bd el) wi).cs=[.int .i64 o,.str (opN o nme w1),exL (la w1.vs a),smL (iA fns k (b+1) bd (opW o nme b w1)),smL (iA fns k (b+1) el (sI fns k (b+1) bd (opW o nme b w1)))]:=by
     rw[rnS,Sm.cs_eq]
     simp only[hw1,sI,Nat.succ_pos,if_true,Sm.op,Sm.name,Sm.args,Sm.body,Sm.els,e1v]
     have:opN o nme wi=opN o nme w1:=by simp only[opN,e1v,e1c]
     rw[this]
    rw[hstw] at eW
    clear hstw
    generalize opW o nme b w1=w3 at eov eoc hrns eW⊢
    have hn3:nf2=true->w3.vs=[]:=λh=>by rw[eov];exact hn2 h
    have h3v:w3.vs.length<=w3.count:=by rw[eov,eoc];exact h2v
    simp-implicitDefEqProofs[hwb]
    refine(Lv G (id:=3) (ih bd (by omega) (b+1) nf2 w3 hn3 h3v (by omega) (by omega)) (by simp) (by simp[below]) (by decide) rfl rfl).mono ?_
    rintro r h' ⟨nf4,w4,rfl,rfl,hn4,hw4⟩
    rw[←hw4] at hrns eW
    have h4c:w4.count=w3.count+rA bd:=by rw[hw4];exact GF _ _ _ _ _
    have h4v:w4.vs.length<=w4.count:=by
     have:w4.vs=w3.vs:=by rw[hw4];simp[sI,WS.back]
     rw[this,h4c];omega
    simp-implicitDefEqProofs[aa,hwb]
    refine(Lv G (id:=5) (ih el (by omega) (b+1) nf4 w4 hn4 h4v (by omega) (by omega)) (by simp) (by simp[below]) (by decide) rfl rfl).mono ?_
    rintro r h' ⟨nf5,w5,rfl,rfl,hn5,hw5⟩
    rw[←hw5] at eW
    have hsl2:(smR out).length=i:=by rw[fa];exact hol
    simp-implicitDefEqProofs[aa,hsl2]
    refine⟨⟨by omega,by omega⟩,⟨i+1,nf5⟩,⟨by simp only;omega,λh=>by simp only at h⊢;rw[eW];exact hn5 h⟩,by simp only;omega,?_⟩
    simp only
    rw[eW,eR,Dh]
    have htk:List.take i (smR out)=smR out:=Va (by omega)
    rw[htk]
    have hsm1:smR [rnS fns k b (.mk o nme a bd el) wi]=[[.p (.int .i64 o),.p (.str (opN o nme w1)),.p (exL (la w1.vs a)),.p (smL (iA fns k (b+1) bd w3)),.p (smL (iA fns k (b+1) el w4))]]:=by rw[smR,VZ,hrns];rfl
    rw[hsm1]
    refine dc [0,1,8,6] (by simp) (by decide) (by decide) (zn (by simp) rfl (eU (by simp) (bg rfl (λx hx=>?_) (bS rfl (gq _ _ _) bV)))) (by simp[below,ren,hsl,show IntKind.i64.wrap ((i:Int)+1)=((i:Int)+1) from ab (by omega) (by omega)])
    rcases Vd.1 hx with h|h
    ·exact dT out x h
    ·rw[Ve.1 h];simp
   ·simp at h
    have hie:i=l.length:=by omega
    subst hie
    rw[List.take_length] at hn⊢
    obtain⟨ext,hext⟩:=ES fns k l b w
    have hlen:=zV fns k b l w
    refine mB (ah 96 [(7,.p (smL (iA fns k b l w)))]) [wO 2 nf fns k (sI fns k b l w),.dead,roC nf (sI fns k b l w).vs] ?_ ?_
    ·have fin:∀(r1:List (Nat × AV)) (w':WS),w'.vs=w.vs\/w'.vs=(bv fns k b l w).vs->(Aw.look r1 7= .sl 2 5 0 l.length)->
      Wk 2 (ah 96 r1) [wO 3 nf fns k w',.dead,.row 5 (smR (iA fns k b l w)),roC nf (bv fns k b l w).vs] (ah 96 [(7,.p (smL (iA fns k b l w)))]) [wO 2 nf fns k w',.dead,roC nf w'.vs]:=by
      intro r1 w' hv' hr
      refine Wk.trans (HD (h1:=[wO 3 nf fns k w',.dead,.row 5 (smR (iA fns k b l w)),roC nf w'.vs]) ?_) (Wk.trans (dc (l1:=[(7,.sl 3 5 0 l.length)]) (h1:=[wO 2 nf fns k w',.dead,roC nf w'.vs,.row 5 (smR (iA fns k b l w))]) [0,1,3,2] (by simp) (by decide) (by decide) (zn (by simp) rfl (eU (by simp) (bS rfl (gq _ _ _) (bg rfl (dT _) bV)))) (by simp[below,ren,hr]))
       (kj 3 (by omega) (by simp) rfl (.same (vM (by omega)) (.dead (.same (gq _ _ _) (.nil _)))) ?_))
      ·refine⟨.inl rfl,.inl rfl,.inl rfl,?_,trivial⟩
       rcases hv' with e|e
       ·cases nf with
        |true=>exact .inl rfl
        |false=>
         refine .inr ⟨3,lvR (bv fns k b l w).vs,w.vs.length,rfl,?_⟩
         rw[hext,Kh,e];rfl
       ·rw[e];exact .inl rfl
      ·rw[←hlen]
       exact⟨.one (lr rfl) .nil,trivial⟩
     by_cases hb0:0<b
     ·have hwe:sI fns k b l w=(bv fns k b l w).back w.vs:=if_pos hb0
      rw[hwe]
      have hll2:(bv fns k b l w).vs.length=ext.length+w.vs.length:=by rw[hext,Vh]
      cases nf with
      |true=>
       have h0:=hn rfl
       rw[h0] at hext
       have h00:w.vs=[]:=(List.append_eq_nil_iff.1 hext.symm).2
       simp-implicitDefEqProofs[hb0,wO,wC,vaC,h00]
       rw[h00] at fin
       exact fin _ ⟨[],(bv fns k b l w).count,(bv fns k b l w).code⟩ (.inl rfl) (by simp)
      |false=>
       have hle:w.vs.length<=(bv fns k b l w).vs.length:=by omega
       simp-implicitDefEqProofs[hb0,wO,wC,vaC,hle]
       exact fin _ ⟨w.vs,(bv fns k b l w).count,(bv fns k b l w).code⟩ (.inl rfl) (by simp)
     ·have hwe:sI fns k b l w=bv fns k b l w:=if_neg hb0
      have hb0':b=0:=by omega
      subst hb0'
      rw[hwe]
      simp-implicitDefEqProofs[]
      exact fin _ _ (.inr rfl) (by simp)
    ·simp-implicitDefEqProofs[]
     refine⟨nf,_,rfl,rfl,?_,rfl⟩
     intro hnf
     have h0:=hn hnf
     unfold sI
     split
     ·rw[h0] at hext;exact(List.append_eq_nil_iff.1 hext.symm).2
     ·exact h0
end
end Go.Proofs.YtokiapglmedipaaGreatDoor
