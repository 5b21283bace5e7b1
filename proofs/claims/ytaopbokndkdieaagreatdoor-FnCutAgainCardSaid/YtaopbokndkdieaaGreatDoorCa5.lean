/-
  Contracts and lemmas that the card needs, part 5.
-/
import Derived.Test.YtaopbokndkdieaaGreatDoorCa4
import Derived.Laws.RangeAny
import Derived.Laws.RangeString
namespace Go.Proofs.YtaopbokndkdieaaGreatDoor
open Go Go.Aw
set_option maxRecDepth 100000
set_option maxHeartbeats 4000000
section
theorem an{α:Type}{xs:List α}{i:Nat}(h:i<xs.length):xs.take (i+1)=xs.take i++[xs[i]]:=by
 rw[List.take_add_one,RA h];rfl
def qB(l:List Int):PV:= .lst 1 (l.map fun n=>[.int .u8 n])
def Ni(l:List Int):PV:= .lst 1 (l.map fun n=>[.int .i64 n])
def vt(l:List Int):AO:= .row 1 (l.map fun n=>[.p (.int .i64 n)])
def aC(l:List (List UInt8)):PV:= .lst 1 (l.map fun w=>[.str w])
def QC(l:List (List UInt8)):List (List AV):=l.map fun w=>[.p (.str w)]
def gw(l:List (List UInt8)):AO:= .row 1 (l.map fun n=>[.p (.str n)])
theorem qp(l:List (List UInt8)):∀x∈QC l,aj 0 x:=by
 intro x hx;obtain⟨m,_,rfl⟩:=RU.1 hx;simp[aj,below]
theorem fu{l:List (List UInt8)}{id:Nat}{h:List AO}(e:h[id]?=some (gw l)):View h (.sl id 1 0 l.length) (aC l):=by
 have:=iH (h:=h) (id:=id) (sz:=1) (n:=l.length) (ls:=l.map fun n=>[.str n]) (by rw[e,gw];simp) (by simp) (fun x hx=>by obtain⟨b,_,rfl⟩:=RU.1 hx;rfl)
 exact this
end
section
def Byt(l:List Int):Prop:=∀n∈l,0≤n∧n≤255
def rdO(b:List Int)(p:Nat):AO:= .row 2 [[.p (qB b),.p (.int .i64 p)]]
theorem Gi{a b:Int}(ha:0≤a)(ha2:a<4611686018427387904)(hb:0≤b)(hb2:b<4611686018427387904):∃n:Nat,IntKind.i64.wrap ((BitVec.ofInt IntKind.i64.bits a^^^BitVec.ofInt IntKind.i64.bits b).toNat:Int)=n:=by
 refine⟨(BitVec.ofInt IntKind.i64.bits a^^^BitVec.ofInt IntKind.i64.bits b).toNat,?_⟩
 obtain⟨x,rfl⟩:∃x:Nat,a=x:=⟨a.toNat,by omega⟩
 obtain⟨y,rfl⟩:∃y:Nat,b=y:=⟨b.toNat,by omega⟩
 have h1:(BitVec.ofInt 64 (x:Int)).toNat=x:=by simp;omega
 have h2:(BitVec.ofInt 64 (y:Int)).toNat=y:=by simp;omega
 have h3:(BitVec.ofInt 64 (x:Int)^^^BitVec.ofInt 64 (y:Int)).toNat<2^63:=by
  rw[BitVec.toNat_xor,h1,h2]
  exact Nat.xor_lt_two_pow (by omega) (by omega)
 have h4:(BitVec.ofInt IntKind.i64.bits (x:Int)^^^BitVec.ofInt IntKind.i64.bits (y:Int)).toNat<2^63:=h3
 exact af (by omega) (by omega)
theorem Ew{a:Nat}{n:Int}(hn:1≤n):∃k:Nat,((a:Int).tmod n)=k∧(k:Int)<n:=by
 obtain⟨m,rfl⟩:∃m:Nat,n=m:=⟨n.toNat,by omega⟩
 refine⟨a%m,?_,?_⟩
 ·rfl
 ·have:a%m<m:=Nat.mod_lt _ (by omega)
  omega
variable (G:aM)
theorem Ih(l:List Int):AC Tryz.prog G iT [.p (qB l)] [] fun x h=>x= .ret (.ptr 0 2 0 0)∧h=[rdO (l.take 2000) 0]:=by
 refine AC.go wE ?_
 have hbl:qB l= .lst 1 (l.map fun n=>[.int .u8 n]):=rfl
 simp-implicitDefEqProofs[pf,hbl]
 refine bf (fun h=>?_) (fun h=>?_)
 ·simp at h
  have:2000≤l.length:=by omega
  simp-implicitDefEqProofs[this,rdO,qB,List.map_take]
 ·simp at h
  have:l.take 2000=l:=RG (by omega)
  simp-implicitDefEqProofs[rdO,this,qB]
theorem Hy(b:List Int)(hb:Byt b)(hl:b.length≤2000)(p:Nat)(hp:p≤1099511627776)(n:Int):AC Tryz.prog G ab [.ptr 0 2 0 0,.p (.int .i64 n)] [rdO b p] fun x h=>∃k:Nat,x= .ret (.p (.int .i64 k))∧h=[rdO b (p+1)]∧((k:Int)<n∨k=0):=by
 refine AC.go sD ?_
 have hbl:qB b= .lst 1 (b.map fun n=>[.int .u8 n]):=rfl
 have hw:IntKind.i64.wrap ((p:Int)+1)=((p+1:Nat):Int):=w1 (by omega)
 by_cases hn:n<1
 ·simp-implicitDefEqProofs[fK,rdO,hbl,hw,hn]
  exact⟨0,rfl,.inr rfl⟩
 by_cases hbn:b=[]
 ·subst hbn
  have hb0:qB []= .lst 1 []:=rfl
  simp-implicitDefEqProofs[fK,rdO,hb0,hw,hn]
  exact⟨0,rfl,.inr rfl⟩
 have hpos:0<b.length:=SI.2 hbn
 have hlb:¬b.length=0:=by omega
 have hn0:¬n=0:=by omega
 have hw2:IntKind.i64.wrap (p:Int)=(p:Int):=af (by omega) (by omega)
 have at_:∀q:Nat,∃c:Int,b[q%b.length]?=some c∧0≤c∧c≤255:=fun q=>by
  have h:=Nat.mod_lt q hpos
  exact⟨_,RA h,hb _ (RH h)⟩
 simp-implicitDefEqProofs[fK,rdO,hbl,hw,hn,hbn,hw2]
 refine bf (fun h1=>?_) (fun h1=>?_)
 ·simp at h1
  obtain⟨c,e1,e2,e3⟩:=at_ p
  rw[Nat.mod_eq_of_lt h1] at e1
  obtain⟨d,rfl⟩:∃d:Nat,c=d:=⟨c.toNat,by omega⟩
  obtain⟨k,q1,q2⟩:=Ew (a:=d) (n:=n) (by omega)
  have hw3:IntKind.i64.wrap (d:Int)=d:=af (by omega) (by omega)
  simp-implicitDefEqProofs[e1,hw3,hn0,q1]
  exact⟨k,rfl,.inl q2⟩
 ·simp at h1
  obtain⟨c1,e1,e2,e3⟩:=at_ p
  obtain⟨c2,f1,f2,f3⟩:=at_ (p*7+3)
  have hq:p/b.length≤p:=Nat.div_le_self _ _
  have ht1:(p:Int).tmod (b.length:Int)=((p%b.length:Nat):Int):=rfl
  have ht2:((p:Int)*7+3).tmod (b.length:Int)=(((p*7+3)%b.length:Nat):Int):=rfl
  have ht3:(p:Int).tdiv (b.length:Int)=((p/b.length:Nat):Int):=rfl
  generalize p/b.length=q at hq ht3
  generalize p%b.length=r1 at e1 ht1
  generalize (p*7+3)%b.length=r2 at f1 ht2
  obtain⟨x1,rfl⟩:∃d:Nat,c1=d:=⟨c1.toNat,by omega⟩
  obtain⟨x2,rfl⟩:∃d:Nat,c2=d:=⟨c2.toNat,by omega⟩
  obtain⟨m,hx⟩:=Gi (a:=x1*131+x2*1117+p*29+q*53) (b:=(x1*131+x2*1117+p*29+q*53)/64) (by omega) (by omega) (by omega) (by omega)
  obtain⟨k,q1,q2⟩:=Ew (a:=m) (n:=n) (by omega)
  have ht4:((x1:Int)*131+x2*1117+p*29+q*53).tdiv 64=((x1:Int)*131+x2*1117+p*29+q*53)/64:=Int.tdiv_eq_ediv_of_nonneg (by omega)
  have w1:IntKind.i64.wrap ((p:Int)*7)=(p:Int)*7:=af (by omega) (by omega)
  have w2:IntKind.i64.wrap ((p:Int)*7+3)=(p:Int)*7+3:=af (by omega) (by omega)
  have w3:IntKind.i64.wrap ((p:Int)*29)=(p:Int)*29:=af (by omega) (by omega)
  have w4:IntKind.i64.wrap (x1:Int)=x1:=af (by omega) (by omega)
  have w5:IntKind.i64.wrap (x2:Int)=x2:=af (by omega) (by omega)
  have w6:IntKind.i64.wrap ((x1:Int)*131)=(x1:Int)*131:=af (by omega) (by omega)
  have w7:IntKind.i64.wrap ((x2:Int)*1117)=(x2:Int)*1117:=af (by omega) (by omega)
  have w8:IntKind.i64.wrap ((x1:Int)*131+x2*1117)=(x1:Int)*131+x2*1117:=af (by omega) (by omega)
  have w9:IntKind.i64.wrap ((x1:Int)*131+x2*1117+p*29)=(x1:Int)*131+x2*1117+p*29:=af (by omega) (by omega)
  have w10:IntKind.i64.wrap (q:Int)=q:=af (by omega) (by omega)
  have w11:IntKind.i64.wrap ((q:Int)*53)=(q:Int)*53:=af (by omega) (by omega)
  have w12:IntKind.i64.wrap ((x1:Int)*131+x2*1117+p*29+q*53)=(x1:Int)*131+x2*1117+p*29+q*53:=af (by omega) (by omega)
  have w13:IntKind.i64.wrap (((x1:Int)*131+x2*1117+p*29+q*53)/64)=((x1:Int)*131+x2*1117+p*29+q*53)/64:=af (by omega) (by omega)
  simp-implicitDefEqProofs[hlb,ht1,ht2,ht3,e1,f1,w1,w2,w3,w4,w5,w6,w7,w8,w9,w10,w11,w12,w13,ht4,hx,hn0,q1]
  simp-implicitDefEqProofs[] at hx
  rw[hx]
  exact⟨k,q1,.inl q2⟩
theorem bU(b:List Int)(p n:Nat):okO n (rdO b p):=by simp[okO,rdO]
theorem aZ(b:List Int)(hb:Byt b)(hl:b.length≤2000)(p:Nat)(hp:p≤1099511627776)(n:Int)(rest:List AO):AC Tryz.prog G ab [.ptr 0 2 0 0,.p (.int .i64 n)] (rdO b p::rest) fun x h=>∃k:Nat,x= .ret (.p (.int .i64 k))∧h=rdO b (p+1)::rest∧((k:Int)<n∨k=0):=by
 refine((Hy G b hb hl p hp n).pre rest (by simp[below]) (fun o ho=>by rw[RM.1 ho];exact bU _ _ _) ?_).mono ?_
 ·rintro x h ⟨k,_,rfl,_⟩;rfl
 ·rintro x h ⟨h1,⟨k,e1,rfl,e3⟩,rfl⟩
  exact⟨k,e1,rfl,e3⟩
theorem Mw{f:FuncId}{args:List AV}{b:List Int}{p:Nat}{o:AO}{R:AV→Nat→Prop}(H:AC Tryz.prog G f (.ptr 0 2 0 0::args) [rdO b p,o] fun x h=>∃v q,x= .ret (.p v)∧h=[rdO b q,o]∧R (.p v) q)(ho:okO 0 o)
 {h:List AO}{k:Nat}{args':List AV}(hk:k≠0)(h0:h[0]?=some (rdO b p))(h1:h[k]?=some o)(hT:TW [0,k] args' args):AC Tryz.prog G f (.ptr 0 2 0 0::args') h fun x h'=>∃v q,x= .ret (.p v)∧h'=h.set 0 (rdO b q)∧R (.p v) q:=by
 have nd:[0,k].Nodup:=by simp;omega
 refine(H.frame (args:= .ptr 0 2 0 0::args') [0,k] nd (by rw[vW];exact⟨.inr ⟨by simp[below],rfl⟩,hT⟩) (dB h0 (bU _ _ _) (dB h1 ho br))).mono ?_
 rintro x h' ⟨x0,h2,⟨v,q,rfl,rfl,r⟩,_,rfl,rfl⟩
 refine⟨v,q,by simp[xu,ren],?_,r⟩
 have e1:∀σ,ig σ (rdO b q)=rdO b q:=fun σ=>tg (n:=0) (fun i hi=>by omega) _ (bU _ _ _)
 have e2:∀σ,ig σ o=o:=fun σ=>tg (n:=0) (fun i hi=>by omega) _ ho
 simp only[List.take,RW,List.length_nil,Sb,List.map_nil,e1,e2,mrg,List.drop,Ss]
 refine List.ext_getElem? fun i=>?_
 rw[List.getElem?_set]
 split
 ·rename_i e;subst e
  rw[RE (Ne.symm hk)]
  split
  ·exact h1.symm
  ·rename_i hl
   have:=(RB.1 h1).1
   simp at hl;omega
 ·rfl
theorem Nn(b:List Int)(hb:Byt b)(hl:b.length≤2000)(p:Nat)(hp:p≤1099511627776)(l:List Int)(hne:l≠[])(hll:l.length≤1099511627776):AC Tryz.prog G al [.ptr 0 2 0 0,.sl 1 1 0 l.length] [rdO b p,vt l] fun x h=>∃v q,x= .ret (.p v)∧h=[rdO b q,vt l]∧(∃n,v= .int .i64 n∧n∈l)∧q=p+1:=by
 refine AC.go mW ?_
 have hpos:0<l.length:=SI.2 hne
 simp-implicitDefEqProofs[jl]
 refine(aZ G b hb hl p hp l.length [vt l]).mono ?_
 rintro r h ⟨k,rfl,rfl,hk⟩
 have hkl:k<l.length:=by omega
 have hg:=RA hkl
 have hn:vt l= .row 1 (l.map fun n=>[.p (.int .i64 n)]):=rfl
 simp-implicitDefEqProofs[aa,hkl,hn,hg]
theorem kq{b:List Int}(hb:Byt b)(hl:b.length≤2000){p:Nat}(hp:p≤1099511627776)(l:List Int){h:List AO}{k:Nat}(hne:l≠[])(hll:l.length≤1099511627776)(hk:k≠0)(h0:h[0]?=some (rdO b p))(h1:h[k]?=some (vt l)):
 AC Tryz.prog G al [.ptr 0 2 0 0,.sl k 1 0 l.length] h fun x h'=>∃n,n∈l∧x= .ret (.p (.int .i64 n))∧h'=h.set 0 (rdO b (p+1)):=by
 refine(Mw G (args:=[.sl 1 1 0 l.length]) (R:=fun v q=>(∃n,v= .p (.int .i64 n)∧n∈l)∧q=p+1) ((Nn G b hb hl p hp l hne hll).mono ?_) (by simp[okO,vt]) (args':=[.sl k 1 0 l.length]) hk h0 h1 (by simp[below,ren])).mono ?_
 ·rintro x h ⟨v,q,e1,e2,⟨n,rfl,e3⟩,e4⟩
  exact⟨_,q,e1,e2,⟨n,rfl,e3⟩,e4⟩
 ·rintro x h' ⟨v,q,e1,e2,⟨n,e3,e4⟩,e5⟩
  cases e3;subst e5
  exact⟨n,e4,e1,e2⟩
theorem PA(b:List Int)(hb:Byt b)(hl:b.length≤2000)(p:Nat)(hp:p≤1099511627776)(l:List (List UInt8))(hne:l≠[])(hll:l.length≤1099511627776):AC Tryz.prog G aL [.ptr 0 2 0 0,.sl 1 1 0 l.length] [rdO b p,gw l] fun x h=>∃v q,x= .ret (.p v)∧h=[rdO b q,gw l]∧(∃s,v= .str s∧s∈l)∧q=p+1:=by
 refine AC.go od ?_
 have hpos:0<l.length:=SI.2 hne
 simp-implicitDefEqProofs[kb]
 refine(aZ G b hb hl p hp l.length [gw l]).mono ?_
 rintro r h ⟨k,rfl,rfl,hk⟩
 have hkl:k<l.length:=by omega
 have hg:=RA hkl
 have hn:gw l= .row 1 (l.map fun n=>[.p (.str n)]):=rfl
 simp-implicitDefEqProofs[aa,hkl,hn,hg]
theorem BE{b:List Int}(hb:Byt b)(hl:b.length≤2000){p:Nat}(hp:p≤1099511627776)(l:List (List UInt8)){h:List AO}{k:Nat}(hne:l≠[])(hll:l.length≤1099511627776)(hk:k≠0)(h0:h[0]?=some (rdO b p))(h1:h[k]?=some (gw l)):
 AC Tryz.prog G aL [.ptr 0 2 0 0,.sl k 1 0 l.length] h fun x h'=>∃s,s∈l∧x= .ret (.p (.str s))∧h'=h.set 0 (rdO b (p+1)):=by
 refine(Mw G (args:=[.sl 1 1 0 l.length]) (R:=fun v q=>(∃n,v= .p (.str n)∧n∈l)∧q=p+1) ((PA G b hb hl p hp l hne hll).mono ?_) (by simp[okO,gw]) (args':=[.sl k 1 0 l.length]) hk h0 h1 (by simp[below,ren])).mono ?_
 ·rintro x h ⟨v,q,e1,e2,⟨n,rfl,e3⟩,e4⟩
  exact⟨_,q,e1,e2,⟨n,rfl,e3⟩,e4⟩
 ·rintro x h' ⟨v,q,e1,e2,⟨n,e3,e4⟩,e5⟩
  cases e3;subst e5
  exact⟨n,e4,e1,e2⟩
theorem EB{b:List Int}(hb:Byt b)(hl:b.length≤2000){p:Nat}(hp:p≤1099511627776)(l:List (List UInt8))(hne:l≠[])(hll:l.length≤1099511627776)(rest:List AO):AC Tryz.prog G aL [.ptr 0 2 0 0,.p (aC l)] (rdO b p::rest) fun x h=>∃s,s∈l∧x= .ret (.p (.str s))∧h=rdO b (p+1)::rest:=by
 have key:AC Tryz.prog G aL [.ptr 0 2 0 0,.p (aC l)] [rdO b p] fun x h=>∃s,s∈l∧x= .ret (.p (.str s))∧h=[rdO b (p+1)]:=by
  refine AC.go od ?_
  have hpos:0<l.length:=SI.2 hne
  have hsl:aC l= .lst 1 (l.map fun w=>[.str w]):=rfl
  simp-implicitDefEqProofs[kb,hsl]
  refine(aZ G b hb hl p hp l.length []).mono ?_
  rintro r h ⟨k,rfl,rfl,hk⟩
  have hkl:k<l.length:=by omega
  have hg:=RA hkl
  simp-implicitDefEqProofs[aa,hg]
 refine(key.pre rest (by simp[below]) (fun o ho=>by rw[RM.1 ho];exact bU _ _ _) ?_).mono ?_
 ·rintro x h ⟨k,_,_,rfl⟩;rfl
 ·rintro x h ⟨h1,⟨s,e1,e2,rfl⟩,rfl⟩
  exact⟨s,e1,e2,rfl⟩
def DP(b:List Int)(Q:AV→Nat→Prop)(x:ARes)(h:List AO):Prop:=∃v rest q v1,x= .ret v∧h=rdO b q::rest∧Fzs (.dead::rest) 1 [v] [v1]∧Q v1 q
theorem lU{f:FuncId}{args:List AV}{b:List Int}{p:Nat}{Q:AV→Nat→Prop}(H:AC Tryz.prog G f args [rdO b p] (DP b Q)):AC Tryz.prog G f args [rdO b p] fun x h=>∃v q,x= .ret v∧h=[rdO b q]∧Q v q:=by
 refine H.frz 1 (RN _) (fun t v h ⟨_,_,_,_,e,_⟩=>by cases e) ?_
 rintro v h ⟨v0,rest,q,v1,e,rfl,hf,r⟩
 cases e
 exact⟨v1,[rdO b q],by simp,rfl,hf,.same (bU _ _ _) (.nil _),v1,q,rfl,rfl,r⟩
theorem iF{f:FuncId}{args:List AV}{b:List Int}{p:Nat}{Q:AV→Nat→Prop}(H:AC Tryz.prog G f args [rdO b p] fun x h=>∃v q,x= .ret v∧h=[rdO b q]∧Q v q)(rest:List AO)(ha:aj 1 args):AC Tryz.prog G f args (rdO b p::rest) fun x h=>∃v q,x= .ret v∧h=rdO b q::rest∧Q v q:=by
 refine(H.pre rest ha (fun o ho=>by rw[RM.1 ho];exact bU _ _ _) ?_).mono ?_
 ·rintro x h ⟨k,_,_,rfl,_⟩;rfl
 ·rintro x h ⟨h1,⟨s,q,e1,rfl,e2⟩,rfl⟩
  exact⟨s,q,e1,rfl,e2⟩
end
section
def eV(c:UInt8):Bool:=decide (97≤c.toNat)&&decide (c.toNat≤122)
def keyW:List (List UInt8):=[[102,110],[108,101,116],[115,97,121],[112,117,116],[105,102],[101,108,115,101],[108,111,111,112],[98,97,99,107],[100,111]]
def aS(s:List UInt8):Bool:=s.all eV&&decide (0<s.length)&&decide (s.length≤4)&& !keyW.contains s
def xR:List UInt8:=[40,41,123,125,59,44,43,45,42,47,37,60,61,38,33,64]
def sC(s:List UInt8)(c:Int):Int:=match s.findIdx? (fun x=>(x.toNat:Int)==c) with|some i=>i|none=> -1
def Co(c:Int):Int:=if 97≤c∧c≤122 then 1 else if 48≤c∧c≤57 then 2 else if 0≤sC xR c then 3 else if c=32∨c=10 then 4 else 0
theorem Ln(x:UInt8):(Co (x.toNat:Int)=1)↔eV x=true:=by
 have h:(97≤(x.toNat:Int)∧(x.toNat:Int)≤122)↔eV x=true:=by simp[eV];omega
 unfold Co
 constructor
 ·intro e
  split at e
  ·rename_i h1;exact h.1 h1
  ·repeat' split at e
   all_goals omega
 ·intro e;rw[if_pos (h.2 e)]
def Ak(s:List UInt8):Int:=match s.findIdx? (fun x=> !eV x) with|some i=>i|none=> -1
theorem Kf(s:List UInt8):decide (Ak s<0)=s.all eV:=by
 unfold Ak
 cases h:s.findIdx? (fun x=> !eV x) with
 |none=>
  rw[So] at h
  have:s.all eV=true:=RF.2 fun x hx=>by have:=h x hx;simpa using this
  simp[this]
 |some i=>
  rw[Sa] at h
  obtain⟨h1,h2,_⟩:=h
  have:s.all eV=false:=List.all_eq_false.2 ⟨_,RH h1,by simpa using h2⟩
  rw[this];simp
def idxS(l:List (List UInt8))(s:List UInt8):Int:=match l.findIdx? (fun w=>w==s) with|some i=>i|none=> -1
theorem IX(l:List (List UInt8))(s:List UInt8):decide (0≤idxS l s)=l.contains s:=by
 unfold idxS
 cases h:l.findIdx? (fun w=>w==s) with
 |none=>
  rw[So] at h
  have:l.contains s=false:=by
   cases hc:l.contains s with
   |false=>rfl
   |true=>
    have hm:s∈l:=by simpa using hc
    have:=h s hm
    simp at this
  rw[this];simp
 |some i=>
  rw[Sa] at h
  obtain⟨h1,h2,_⟩:=h
  have:l.contains s=true:=by
   simp only[beq_iff_eq] at h2
   rw[List.contains_iff_mem,←h2];exact RH h1
  rw[this];simp
variable (G:aM)
theorem us(s:List UInt8)(c:Int)(hb:s.length≤1048576):VF Tryz.prog G lu [.p (.str s),.p (.int .u8 c)] (.p (.int .i64 (sC s c))):=by
 refine AC.go wU ?_
 simp-implicitDefEqProofs[pM]
 refine aV (fun i:Nat=>am 18 [(0,.p (.str s)),(1,.p (.int .u8 c)),(5,.p (.int .i64 i))]) (fun _=>[]) (fun i=>i≤s.length∧∀x∈s.take i,(x.toNat:Int)≠c) (fun i=>s.length-i) 0 (by simp) ?_ ?_
 ·exact bS rfl (by simp[below])
 ·intro i ⟨hi,hn⟩
  simp-implicitDefEqProofs[]
  refine bf (fun h1=>?_) (fun h1=>?_)
  ·simp at h1
   have hg:=RA h1
   by_cases he:(s[i].toNat:Int)=c
   ·have hf:sC s c=i:=by
     have:s.findIdx? (fun x=>(x.toNat:Int)==c)=some i:=by
      rw[Sa]
      exact⟨h1,by simpa using he,fun j hj=>by have:=hn s[j] (List.mem_take_iff_getElem.2 ⟨j,by omega,rfl⟩);simpa using this⟩
     rw[sC,this]
    simp-implicitDefEqProofs[hg,he,hf]
   ·simp-implicitDefEqProofs[hg,he]
    refine⟨i+1,⟨h1,fun p hp=>?_⟩,by omega,bS rfl ?_⟩
    ·rw[an h1] at hp
     rcases RJ.1 hp with hp|hp
     ·exact hn p hp
     ·rw[RM.1 hp];exact he
    ·simp[below,w1 (i:=i) (by omega)]
  ·simp at h1
   rw[RG h1] at hn
   have hf:sC s c= -1:=by
    have:s.findIdx? (fun x=>(x.toNat:Int)==c)=none:=by
     rw[So];intro x hx;simpa using hn x hx
    rw[sC,this]
   simp-implicitDefEqProofs[hf]
theorem FO(c:Int):VF Tryz.prog G la [.p (.int .u8 c)] (.p (.int .i64 (Co c))):=by
 refine AC.go wT ?_
 simp-implicitDefEqProofs[pR]
 unfold Co
 by_cases h1:97≤c
 ·by_cases h2:c≤122
  ·simp-implicitDefEqProofs[h1,h2]
  ·have h3:¬c≤57:=by omega
   have h4:¬c=32:=by omega
   have h5:¬c=10:=by omega
   have h6:48≤c:=by omega
   simp-implicitDefEqProofs[h1,h2,h3,h6]
   refine(us G xR c (by decide)).use ?_
   generalize sC xR c=w
   by_cases hf:0≤w
   ·simp-implicitDefEqProofs[hf]
   ·simp-implicitDefEqProofs[hf,h4,h5]
 ·simp-implicitDefEqProofs[h1]
  by_cases h2:48≤c
  ·by_cases h3:c≤57
   ·simp-implicitDefEqProofs[h2,h3]
   ·have h4:¬c=32:=by omega
    have h5:¬c=10:=by omega
    simp-implicitDefEqProofs[h2,h3]
    refine(us G xR c (by decide)).use ?_
    generalize sC xR c=w
    by_cases hf:0≤w
    ·simp-implicitDefEqProofs[hf]
    ·simp-implicitDefEqProofs[hf,h4,h5]
  ·simp-implicitDefEqProofs[h2]
   refine(us G xR c (by decide)).use ?_
   generalize sC xR c=w
   by_cases hf:0≤w
   ·simp-implicitDefEqProofs[hf]
   ·by_cases h4:c=32
    ·simp-implicitDefEqProofs[hf,h4]
    ·by_cases h5:c=10
     ·simp-implicitDefEqProofs[hf,h4,h5]
     ·simp-implicitDefEqProofs[hf,h4,h5]
theorem Ma(s:List UInt8)(hb:s.length≤140737488355328):VF Tryz.prog G nS [.p (.str s),.p (.int .i64 1)] (.p (.bool (s.all eV&&decide (0<s.length)))):=by
 refine AC.go zZ ?_
 simp-implicitDefEqProofs[sa]
 refine aV (fun i:Nat=>am 21 [(0,.p (.str s)),(1,.p (.int .i64 1)),(5,.p (.int .i64 i))]) (fun _=>[]) (fun i=>i≤s.length∧∀x∈s.take i,eV x=true) (fun i=>s.length-i) 0 (by simp) ?_ ?_
 ·exact bS rfl (by simp[below])
 ·intro i ⟨hi,hn⟩
  simp-implicitDefEqProofs[]
  refine bf (fun h1=>?_) (fun h1=>?_)
  ·simp at h1
   have hg:=RA h1
   simp-implicitDefEqProofs[hg]
   refine(FO G _).use ?_
   have hcl:=Ln s[i]
   by_cases he:eV s[i]=true
   ·have hc:=hcl.2 he
    simp-implicitDefEqProofs[hc]
    refine⟨i+1,⟨h1,fun p hp=>?_⟩,by omega,bS rfl ?_⟩
    ·rw[an h1] at hp
     rcases RJ.1 hp with hp|hp
     ·exact hn p hp
     ·rw[RM.1 hp];exact he
    ·simp[below,w1 (i:=i) (by omega)]
   ·have hc:¬Co (s[i].toNat:Int)=1:=fun e=>he (hcl.1 e)
    have ha:s.all eV=false:=List.all_eq_false.2 ⟨_,RH h1,by simpa using he⟩
    simp-implicitDefEqProofs[hc,ha]
  ·simp at h1
   rw[RG h1] at hn
   have ha:s.all eV=true:=RF.2 hn
   simp-implicitDefEqProofs[ha]
theorem Ea:VF Tryz.prog G gU [] (.p (aC keyW)):=by
 have key:AC Tryz.prog G gU [] [] fun x h=>x= .ret (.sl 0 1 0 9)∧h=[.row 1 (keyW.map fun w=>[.p (.str w)])]:=by
  refine AC.go vo ?_
  simp-implicitDefEqProofs[og,keyW]
 exact AC.freeze key (.one (iH (ls:=keyW.map fun w=>[.str w]) (by simp) (by simp[keyW]) (by simp)) .nil)
theorem Lw(s:List UInt8):VF Tryz.prog G nU [.p (.str s)] (.p (.bool (keyW.contains s))):=by
 refine AC.go AG ?_
 have hsl:aC keyW= .lst 1 (keyW.map fun w=>[.str w]):=rfl
 have hkl:keyW.length=9:=rfl
 simp-implicitDefEqProofs[tp]
 refine(Ea G).use ?_
 simp-implicitDefEqProofs[]
 refine aV (fun i:Nat=>am 18 [(0,.p (.str s)),(3,.p (aC keyW)),(4,.p (.int .i64 i))]) (fun _=>[]) (fun i=>i≤keyW.length∧∀w∈keyW.take i,w≠s) (fun i=>keyW.length-i) 0 (by simp) ?_ ?_
 ·exact bS rfl (by simp[below,aC])
 ·intro i ⟨hi,hn⟩
  generalize keyW=L at*
  simp-implicitDefEqProofs[hsl]
  refine bf (fun h1=>?_) (fun h1=>?_)
  ·simp at h1
   have hg:=RA h1
   by_cases he:L[i]=s
   ·have hm:s∈L:=by rw[←he];exact RH h1
    simp-implicitDefEqProofs[hg,he,hm]
   ·simp-implicitDefEqProofs[hg,he]
    refine⟨i+1,⟨h1,fun p hp=>?_⟩,by omega,bS rfl ?_⟩
    ·rw[an h1] at hp
     rcases RJ.1 hp with hp|hp
     ·exact hn p hp
     ·rw[RM.1 hp];exact he
    ·simp[below,w1 (i:=i) (by omega)]
  ·simp at h1
   rw[RG h1] at hn
   have hm:¬s∈L:=fun hm=>hn s hm rfl
   simp-implicitDefEqProofs[hm]
theorem sH(s:List UInt8)(hb:s.length≤140737488355328):VF Tryz.prog G dA [.p (.str s)] (.p (.bool (aS s))):=by
 refine AC.go yR ?_
 simp-implicitDefEqProofs[rc]
 refine(Ma G s hb).use ?_
 cases h1:(s.all eV&&decide (0<s.length)) with
 |false=>
  have hi:aS s=false:=by rw[aS,h1];rfl
  simp-implicitDefEqProofs[hi]
 |true=>
  by_cases h4:s.length≤4
  ·have h4i:(s.length:Int)≤4:=by omega
   have hi:aS s= !keyW.contains s:=by rw[aS,h1];simp[h4]
   simp-implicitDefEqProofs[h4i]
   refine(Lw G s).use ?_
   rw[hi]
   simp-implicitDefEqProofs[]
  ·have h4i:¬(s.length:Int)≤4:=by omega
   have hi:aS s=false:=by rw[aS,h1];simp[h4]
   simp-implicitDefEqProofs[h4i,hi]
end
section
inductive Ex where
 |mk (op n:Int) (name:List UInt8) (kids:List Ex)
inductive Sm where
 |mk (op:Int) (name:List UInt8) (args:List Ex) (body els:List Sm)
structure Fd where (name:List UInt8) (params:List (List UInt8)) (body:List Sm)
def Ex.op:Ex→Int| .mk o _ _ _=>o
def Ex.n:Ex→Int| .mk _ n _ _=>n
def Ex.name:Ex→List UInt8| .mk _ _ s _=>s
def Ex.kids:Ex→List Ex| .mk _ _ _ k=>k
def Sm.op:Sm→Int| .mk o _ _ _ _=>o
def Sm.name:Sm→List UInt8| .mk _ s _ _ _=>s
def Sm.args:Sm→List Ex| .mk _ _ a _ _=>a
def Sm.body:Sm→List Sm| .mk _ _ _ b _=>b
def Sm.els:Sm→List Sm| .mk _ _ _ _ e=>e
mutual
def Ex.cs:Ex→List PV
 | .mk o n s k=>[.int .i64 o,.int .i64 n,.str s,.lst 4 (Hu k)]
def Hu:List Ex→List (List PV)
 |[]=>[]
 |e::r=>e.cs::Hu r
end
mutual
def Sm.cs:Sm→List PV
 | .mk o s a b e=>[.int .i64 o,.str s,.lst 4 (Hu a),.lst 5 (HZ b),.lst 5 (HZ e)]
def HZ:List Sm→List (List PV)
 |[]=>[]
 |s::r=>s.cs::HZ r
end
theorem yg:∀l:List Ex,Hu l=l.map Ex.cs
 |[]=>rfl
 |e::r=>by rw[Hu,yg r];rfl
theorem xh:∀l:List Sm,HZ l=l.map Sm.cs
 |[]=>rfl
 |e::r=>by rw[HZ,xh r];rfl
def exL(l:List Ex):PV:= .lst 4 (l.map Ex.cs)
def smL(l:List Sm):PV:= .lst 5 (l.map Sm.cs)
theorem Ex.cs_eq(e:Ex):e.cs=[.int .i64 e.op,.int .i64 e.n,.str e.name,exL e.kids]:=by
 cases e;rw[Ex.cs,yg];rfl
theorem Sm.cs_eq(s:Sm):s.cs=[.int .i64 s.op,.str s.name,exL s.args,smL s.body,smL s.els]:=by
 cases s;rw[Sm.cs,yg,xh,xh];rfl
@[simp] theorem Ex.cs_len(e:Ex):e.cs.length=4:=by cases e;rfl
@[simp] theorem Ex.cs_take(e:Ex):List.take 4 (e.cs.map AV.p)=e.cs.map AV.p:=by cases e;rfl
@[simp] theorem Sm.cs_len(s:Sm):s.cs.length=5:=by cases s;rfl
@[simp] theorem Sm.cs_take(s:Sm):List.take 5 (s.cs.map AV.p)=s.cs.map AV.p:=by cases s;rfl
def Fd.cs(f:Fd):List PV:=[.str f.name,aC f.params,smL f.body]
@[simp] theorem Fd.cs_len(f:Fd):f.cs.length=3:=rfl
@[simp] theorem Fd.cs_take(f:Fd):List.take 3 (f.cs.map AV.p)=f.cs.map AV.p:=rfl
def fdL(l:List Fd):PV:= .lst 3 (l.map Fd.cs)
mutual
def Ex.sz:Ex→Nat
 | .mk _ _ s k=>1+s.length+bC k
def bC:List Ex→Nat
 |[]=>0
 |e::r=>e.sz+bC r
end
mutual
def Sm.sz:Sm→Nat
 | .mk _ s a b e=>1+s.length+bC a+aq b+aq e
def aq:List Sm→Nat
 |[]=>0
 |s::r=>s.sz+aq r
end
def Fd.sz(f:Fd):Nat:=1+f.name.length+(f.params.length+(f.params.map List.length).sum)+aq f.body
def aJ(l:List Fd):Nat:=(l.map Fd.sz).sum
theorem Ex.sz_eq(e:Ex):e.sz=1+e.name.length+bC e.kids:=by cases e;rfl
theorem Sm.sz_eq(s:Sm):s.sz=1+s.name.length+bC s.args+aq s.body+aq s.els:=by cases s;rfl
theorem fZ:∀a b:List Ex,bC (a++b)=bC a+bC b
 |[],b=>by simp[bC]
 |e::r,b=>by simp only[Sj,bC,fZ r b];omega
theorem bO:∀a b:List Sm,aq (a++b)=aq a+aq b
 |[],b=>by simp[aq]
 |e::r,b=>by simp only[Sj,aq,bO r b];omega
theorem aT:∀{l:List Ex} {e:Ex},e∈l→e.sz≤bC l
 |x::r,e,h=>by
  simp only[bC]
  rcases RY.1 h with rfl|h
  ·omega
  ·have:=aT h;omega
theorem bD:∀{l:List Sm} {e:Sm},e∈l→e.sz≤aq l
 |x::r,e,h=>by
  simp only[aq]
  rcases RY.1 h with rfl|h
  ·omega
  ·have:=bD h;omega
theorem bh:∀l:List Ex,l.length≤bC l
 |[]=>RN _
 |e::r=>by have:=bh r;have:=e.sz_eq;simp only[bC,RW];omega
theorem bk:∀l:List Sm,l.length≤aq l
 |[]=>RN _
 |e::r=>by have:=bk r;have:=e.sz_eq;simp only[aq,RW];omega
mutual
def Ex.parts:Ex→Nat
 | .mk _ _ _ k=>1+dU k
def dU:List Ex→Nat
 |[]=>0
 |e::r=>e.parts+dU r
end
theorem Ex.parts_eq(e:Ex):e.parts=1+dU e.kids:=by cases e;rfl
theorem jU:∀a b:List Ex,dU (a++b)=dU a+dU b
 |[],b=>by simp[dU]
 |e::r,b=>by simp only[Sj,dU,jU r b];omega
mutual
theorem Ex.parts_le:∀e:Ex,e.parts≤e.sz
 | .mk _ _ s k=>by have:=zL k;simp only[Ex.parts,Ex.sz];omega
theorem zL:∀l:List Ex,dU l≤bC l
 |[]=>RN _
 |e::r=>by have:=e.parts_le;have:=zL r;simp only[dU,bC];omega
end
mutual
def Sm.cnt:Sm→Nat
 | .mk _ _ _ b e=>1+dj b+dj e
def dj:List Sm→Nat
 |[]=>0
 |s::r=>s.cnt+dj r
end
theorem Sm.cnt_eq(s:Sm):s.cnt=1+dj s.body+dj s.els:=by cases s;rfl
theorem pO:∀a b:List Sm,dj (a++b)=dj a+dj b
 |[],b=>by simp[dj]
 |e::r,b=>by simp only[Sj,dj,pO r b];omega
mutual
theorem Sm.cnt_le:∀s:Sm,s.cnt≤s.sz
 | .mk _ s a b e=>by have:=qd b;have:=qd e;simp only[Sm.cnt,Sm.sz];omega
theorem qd:∀l:List Sm,dj l≤aq l
 |[]=>RN _
 |e::r=>by have:=e.cnt_le;have:=qd r;simp only[dj,aq];omega
end
def inR(n lo hi:Int):Bool:=decide (lo≤n)&&decide (n≤hi)
def loK(op:Int):Nat:=if op=1∨op=2 then 0 else if op=11∨op=12 then 1 else if op=13 then 0 else 2
def hiK(op:Int):Nat:=if op=1∨op=2 then 0 else if op=11∨op=12 then 1 else if op=13 then 3 else 2
def CG(op:Int):Bool:=decide (op=2)||decide (op=13)
def jL(e:Ex):Bool:=inR e.op 1 13&&inR e.kids.length (loK e.op) (hiK e.op)&&(CG e.op==aS e.name)&&(CG e.op||decide (e.name=[]))&&inR e.n 0 255&&(decide (e.op=1)||decide (e.n=0))
def bp:Nat→Ex→Bool
 |0,_=>false
 |d+1,e=>jL e&&e.kids.all (bp d)
def gH(e:Ex):Bool:=bp 6 e&&decide (e.parts≤30)
def jc(op:Int):Nat:=if op=4 then 2 else 1
def dT(op:Int):Bool:=decide (op=1)||decide (op=2)
def eU(s:Sm):Bool:=inR s.op 1 8&&decide (s.args.length=jc s.op)&&(dT s.op==aS s.name)&&(dT s.op||decide (s.name=[]))&&s.args.all gH&&
 (!decide (s.op=8)||(match s.args with|a::_=>decide (a.op=13)|[]=>false))&&(s.els.isEmpty||decide (s.op=5))&&(s.body.isEmpty||decide (s.op=5)||decide (s.op=6))
def au:Nat→Sm→Bool
 |0,_=>false
 |d+1,s=>eU s&&s.body.all (au d)&&s.els.all (au d)
def ia(f:Fd):Bool:=f.params.all aS&&aS f.name&&decide (f.params.length≤3)&&f.body.all (au 4)
def jX(l:List Fd):Nat:=(l.map fun f=>dj f.body).sum
def bq(l:List Fd):Bool:=inR l.length 1 4&&l.all ia&&decide (jX l≤40)
end
section
theorem eA{α:Type}{p:α→Bool}{xs:List α}{i:Nat}(h:i<xs.length):(xs.take (i+1)).all p=((xs.take i).all p&&p xs[i]):=by
 rw[an h,List.all_append];simp
theorem mv{α:Type}{p:α→Bool}{xs:List α}{i:Nat}(h:i<xs.length)(hp:p xs[i]=false):xs.all p=false:=
 List.all_eq_false.2 ⟨_,RH h,by simp[hp]⟩
theorem gF{α:Type}{p:α→Bool}{xs:List α}{i:Nat}(h:xs.length≤i)(ht:(xs.take i).all p=true):xs.all p=true:=by
 rwa[RG h] at ht
def K_spec_l2Form:AK:= .seq (.reg [oJ 2 (.box 4 (.t 0)),oJ 4 (.mov (.c (.p (.bool false))))]) (.seq (.reg [oF 10 0 2,oL 11 10,oJ 12 (.call jE [(.t 11)]),oM 9 12,oJ 13 (.ext 0 (.t 9)),oJ 14 (.ext 1 (.t 9)),oM 5 13,oM 6 14]) (.seq (.seq (.reg [oM 15 1,oJ 16 (.bin .lss (.t 15) (.c (.p (.int .i64 1)))),oM 17 16,⟨(some 18),some (17,false),.fldA 0 (.t 2)⟩,⟨(some 19),some (17,false),.ld none (.t 18)⟩,⟨(some 20),some (17,false),.call cn [(.t 19),(.c (.p (.int .i64 1))),(.c (.p (.int .i64 13)))]⟩,⟨(some 21),some (17,false),.not (.t 20)⟩,oJ 22 (.pick (.t 17) (.c (.p (.bool true))) (.t 21)),oM 23 22,⟨(some 24),some (23,false),.fldA 3 (.t 2)⟩,⟨(some 25),some (23,false),.ld none (.t 24)⟩,⟨(some 26),some (23,false),.len false (.t 25)⟩,⟨(some 27),some (23,false),.mov (.t 5)⟩,⟨(some 28),some (23,false),.mov (.t 6)⟩,⟨(some 29),some (23,false),.call cn [(.t 26),(.t 27),(.t 28)]⟩,⟨(some 30),some (23,false),.not (.t 29)⟩,oJ 31 (.pick (.t 23) (.c (.p (.bool true))) (.t 30))]) (.cond (.t 31) (.seq (.reg [oJ 4 (.mov (.c (.p (.bool false))))]) (.ret)) (.skip))) (.cut (.reg [oF 32 0 2,oL 33 32,oJ 34 (.bin .eql (.t 33) (.c (.p (.int .i64 2)))),oM 35 34,⟨(some 36),some (35,false),.fldA 0 (.t 2)⟩,⟨(some 37),some (35,false),.ld none (.t 36)⟩,⟨(some 38),some (35,false),.bin .eql (.t 37) (.c (.p (.int .i64 13)))⟩,oJ 39 (.pick (.t 35) (.c (.p (.bool true))) (.t 38)),oM 7 39]) (.cut (.seq (.reg [oM 40 7,oF 41 2 2,oL 42 41,oJ 43 (.call dA [(.t 42)]),oJ 44 (.beq true (.t 40) (.t 43)),oM 45 44,⟨(some 46),some (45,false),.mov (.t 7)⟩,⟨(some 47),some (45,false),.not (.t 46)⟩,⟨(some 48),some (45,false),.mov (.t 47)⟩,⟨(some 49),some (48,true),.fldA 2 (.t 2)⟩,⟨(some 50),some (48,true),.ld none (.t 49)⟩,⟨(some 51),some (48,true),.bins .neq (.t 50) (.c (.p (.str [])))⟩,⟨(some 52),some (45,false),.pick (.t 48) (.t 51) (.c (.p (.bool false)))⟩,oJ 53 (.pick (.t 45) (.c (.p (.bool true))) (.t 52)),oM 54 53,⟨(some 55),some (54,false),.fldA 1 (.t 2)⟩,⟨(some 56),some (54,false),.ld none (.t 55)⟩,⟨(some 57),some (54,false),.call cn [(.t 56),(.c (.p (.int .i64 0))),(.c (.p (.int .i64 255)))]⟩,⟨(some 58),some (54,false),.not (.t 57)⟩,oJ 59 (.pick (.t 54) (.c (.p (.bool true))) (.t 58)),oM 60 59,⟨(some 61),some (60,false),.fldA 0 (.t 2)⟩,⟨(some 62),some (60,false),.ld none (.t 61)⟩,⟨(some 63),some (60,false),.bin .neq (.t 62) (.c (.p (.int .i64 1)))⟩,⟨(some 64),some (60,false),.mov (.t 63)⟩,⟨(some 65),some (64,true),.fldA 1 (.t 2)⟩,⟨(some 66),some (64,true),.ld none (.t 65)⟩,⟨(some 67),some (64,true),.bin .neq (.t 66) (.c (.p (.int .i64 0)))⟩,⟨(some 68),some (60,false),.pick (.t 64) (.t 67) (.c (.p (.bool false)))⟩,oJ 69 (.pick (.t 60) (.c (.p (.bool true))) (.t 68))]) (.cond (.t 69) (.seq (.reg [oJ 4 (.mov (.c (.p (.bool false))))]) (.ret)) (.skip))) (.seq (.seq (.reg [oK 8 0]) (.blk 0 (.loop (.seq (.seq (.reg [oM 70 8,oF 71 3 2,oL 72 71,oJ 73 (.len false (.t 72)),oJ 74 (.bin .lss (.t 70) (.t 73))]) (.cond (.t 74) (.skip) (.exit 0))) (.seq (.blk 1 (.seq (.reg [oF 77 3 2,oL 78 77,oM 79 8,oJ 80 (.idxS 4 (.t 78) (.t 79)),oJ 81 (.ld (some 4) (.t 80)),oM 82 1,oJ 83 (.bin .sub (.t 82) (.c (.p (.int .i64 1)))),oJ 84 (.call gP [(.t 81),(.t 83)]),oJ 85 (.not (.t 84))]) (.cond (.t 85) (.seq (.reg [oJ 4 (.mov (.c (.p (.bool false))))]) (.ret)) (.skip)))) (.reg [oM 75 8,oJ 76 (.bin .add (.t 75) (.c (.p (.int .i64 1)))),oM 8 76])))))) (.seq (.reg [oJ 4 (.mov (.c (.p (.bool true))))]) (.ret)))))))
theorem yA:K_spec_l2Form.whole=F_spec_l2Form.ak:=rfl
def K_spec_l3Stmt:AK:= .seq (.reg [oJ 2 (.box 5 (.t 0)),oJ 4 (.mov (.c (.p (.bool false))))]) (.cut (.seq (.reg [oM 7 1,oJ 8 (.bin .lss (.t 7) (.c (.p (.int .i64 1)))),oM 9 8,⟨(some 10),some (9,false),.fldA 0 (.t 2)⟩,⟨(some 11),some (9,false),.ld none (.t 10)⟩,⟨(some 12),some (9,false),.call cn [(.t 11),(.c (.p (.int .i64 1))),(.c (.p (.int .i64 8)))]⟩,⟨(some 13),some (9,false),.not (.t 12)⟩,oJ 14 (.pick (.t 9) (.c (.p (.bool true))) (.t 13)),oM 15 14,⟨(some 16),some (15,false),.fldA 2 (.t 2)⟩,⟨(some 19),some (15,false),.fldA 0 (.t 2)⟩,⟨(some 17),some (15,false),.ld none (.t 16)⟩,⟨(some 18),some (15,false),.len false (.t 17)⟩,⟨(some 20),some (15,false),.ld none (.t 19)⟩,⟨(some 21),some (15,false),.qcall jF [(.t 20)]⟩,⟨(some 22),some (15,false),.bin .neq (.t 18) (.t 21)⟩,oJ 23 (.pick (.t 15) (.c (.p (.bool true))) (.t 22))]) (.cond (.t 23) (.seq (.reg [oJ 4 (.mov (.c (.p (.bool false))))]) (.ret)) (.skip))) (.cut (.reg [oF 24 0 2,oL 25 24,oJ 26 (.bin .eql (.t 25) (.c (.p (.int .i64 1)))),oM 27 26,⟨(some 28),some (27,false),.fldA 0 (.t 2)⟩,⟨(some 29),some (27,false),.ld none (.t 28)⟩,⟨(some 30),some (27,false),.bin .eql (.t 29) (.c (.p (.int .i64 2)))⟩,oJ 31 (.pick (.t 27) (.c (.p (.bool true))) (.t 30)),oM 5 31]) (.cut (.seq (.reg [oM 32 5,oF 33 1 2,oL 34 33,oJ 35 (.call dA [(.t 34)]),oJ 36 (.beq true (.t 32) (.t 35)),oM 37 36,⟨(some 38),some (37,false),.mov (.t 5)⟩,⟨(some 39),some (37,false),.not (.t 38)⟩,⟨(some 40),some (37,false),.mov (.t 39)⟩,⟨(some 41),some (40,true),.fldA 1 (.t 2)⟩,⟨(some 42),some (40,true),.ld none (.t 41)⟩,⟨(some 43),some (40,true),.bins .neq (.t 42) (.c (.p (.str [])))⟩,⟨(some 44),some (37,false),.pick (.t 40) (.t 43) (.c (.p (.bool false)))⟩,oJ 45 (.pick (.t 37) (.c (.p (.bool true))) (.t 44))]) (.cond (.t 45) (.seq (.reg [oJ 4 (.mov (.c (.p (.bool false))))]) (.ret)) (.skip))) (.seq (.seq (.reg [oK 6 0]) (.blk 0 (.loop (.seq (.seq (.reg [oM 46 6,oF 47 2 2,oL 48 47,oJ 49 (.len false (.t 48)),oJ 50 (.bin .lss (.t 46) (.t 49))]) (.cond (.t 50) (.skip) (.exit 0))) (.seq (.blk 1 (.seq (.reg [oF 53 2 2,oL 54 53,oM 55 6,oJ 56 (.idxS 4 (.t 54) (.t 55)),oJ 57 (.ld (some 4) (.t 56)),oJ 58 (.call gi [(.t 57)]),oJ 59 (.not (.t 58))]) (.cond (.t 59) (.seq (.reg [oJ 4 (.mov (.c (.p (.bool false))))]) (.ret)) (.skip)))) (.reg [oM 51 6,oJ 52 (.bin .add (.t 51) (.c (.p (.int .i64 1)))),oM 6 52])))))) (.cut (.seq (.reg [oF 60 0 2,oL 61 60,oJ 62 (.bin .eql (.t 61) (.c (.p (.int .i64 8)))),oM 63 62,⟨(some 64),some (63,true),.fldA 2 (.t 2)⟩,⟨(some 65),some (63,true),.ld none (.t 64)⟩,⟨(some 66),some (63,true),.idxS 4 (.t 65) (.c (.p (.int .i64 0)))⟩,⟨(some 67),some (63,true),.fldA 0 (.t 66)⟩,⟨(some 68),some (63,true),.ld none (.t 67)⟩,⟨(some 69),some (63,true),.bin .neq (.t 68) (.c (.p (.int .i64 13)))⟩,oJ 70 (.pick (.t 63) (.t 69) (.c (.p (.bool false))))]) (.cond (.t 70) (.seq (.reg [oJ 4 (.mov (.c (.p (.bool false))))]) (.ret)) (.skip))) (.cut (.seq (.reg [oF 71 4 2,oL 72 71,oJ 73 (.len false (.t 72)),oJ 74 (.bin .gtr (.t 73) (.c (.p (.int .i64 0)))),oM 75 74,⟨(some 76),some (75,true),.fldA 0 (.t 2)⟩,⟨(some 77),some (75,true),.ld none (.t 76)⟩,⟨(some 78),some (75,true),.bin .neq (.t 77) (.c (.p (.int .i64 5)))⟩,oJ 79 (.pick (.t 75) (.t 78) (.c (.p (.bool false)))),oM 80 79,⟨(some 81),some (80,false),.fldA 3 (.t 2)⟩,⟨(some 82),some (80,false),.ld none (.t 81)⟩,⟨(some 83),some (80,false),.len false (.t 82)⟩,⟨(some 84),some (80,false),.bin .gtr (.t 83) (.c (.p (.int .i64 0)))⟩,⟨(some 85),some (80,false),.mov (.t 84)⟩,⟨(some 86),some (85,true),.fldA 0 (.t 2)⟩,⟨(some 87),some (85,true),.ld none (.t 86)⟩,⟨(some 88),some (85,true),.bin .neq (.t 87) (.c (.p (.int .i64 5)))⟩,⟨(some 89),some (80,false),.pick (.t 85) (.t 88) (.c (.p (.bool false)))⟩,⟨(some 90),some (80,false),.mov (.t 89)⟩,⟨(some 91),some (90,true),.fldA 0 (.t 2)⟩,⟨(some 92),some (90,true),.ld none (.t 91)⟩,⟨(some 93),some (90,true),.bin .neq (.t 92) (.c (.p (.int .i64 6)))⟩,⟨(some 94),some (80,false),.pick (.t 90) (.t 93) (.c (.p (.bool false)))⟩,oJ 95 (.pick (.t 80) (.c (.p (.bool true))) (.t 94))]) (.cond (.t 95) (.seq (.reg [oJ 4 (.mov (.c (.p (.bool false))))]) (.ret)) (.skip))) (.seq (.reg [oF 96 3 2,oL 97 96,oM 98 1,oJ 99 (.bin .sub (.t 98) (.c (.p (.int .i64 1)))),oJ 100 (.call da [(.t 97),(.t 99)]),oM 101 100,⟨(some 102),some (101,true),.fldA 4 (.t 2)⟩,⟨(some 103),some (101,true),.ld none (.t 102)⟩,⟨(some 104),some (101,true),.mov (.t 1)⟩,⟨(some 105),some (101,true),.bin .sub (.t 104) (.c (.p (.int .i64 1)))⟩,⟨(some 106),some (101,true),.call da [(.t 103),(.t 105)]⟩,oJ 107 (.pick (.t 101) (.t 106) (.c (.p (.bool false)))),oM 4 107]) (.ret))))))))
theorem yF:K_spec_l3Stmt.whole=F_spec_l3Stmt.ak:=rfl
variable (G:aM)
theorem pt(n lo hi:Int):VF Tryz.prog G cn [.p (.int .i64 n),.p (.int .i64 lo),.p (.int .i64 hi)] (.p (.bool (inR n lo hi))):=by
 refine AC.go AW ?_
 by_cases h:lo≤n
 ·simp-implicitDefEqProofs[pp,h,inR]
 ·simp-implicitDefEqProofs[pp,h,inR]
theorem BS(op:Int):VF Tryz.prog G jE [.p (.int .i64 op)] (.tup [.p (.int .i64 (loK op)),.p (.int .i64 (hiK op))]):=by
 refine AC.go yI ?_
 by_cases h1:op=1
 ·subst h1;simp-implicitDefEqProofs[eu,loK,hiK]
 by_cases h2:op=2
 ·subst h2;simp-implicitDefEqProofs[eu,loK,hiK]
 by_cases h3:op=11
 ·subst h3;simp-implicitDefEqProofs[eu,loK,hiK]
 by_cases h4:op=12
 ·subst h4;simp-implicitDefEqProofs[eu,loK,hiK]
 by_cases h5:op=13
 ·subst h5;simp-implicitDefEqProofs[eu,loK,hiK]
 simp-implicitDefEqProofs[eu,loK,hiK,h1,h2,h3,h4,h5]
theorem Js:∀(d:Nat) (e:Ex),e.sz≤1099511627776→d≤1000→VF Tryz.prog G gP [.agg (e.cs.map .p),.p (.int .i64 d)] (.p (.bool (bp d e))):=by
 intro d
 induction d with
 |zero=>
  intro e he _
  refine AC.go ri ?_
  simp-implicitDefEqProofs[F_spec_l2Form,Ex.cs_eq]
  refine(BS G _).use ?_
  simp-implicitDefEqProofs[bp]
 |succ d ih=>
  intro e he hd
  have hsz:=e.sz_eq
  have hkl:=bh e.kids
  refine AC.goK ri yA ?_
  have hd1:¬(d:Int)+1<1:=by omega
  have hw:IntKind.i64.wrap ((d:Int)+1-1)=(d:Int):=by rw[show(d:Int)+1-1=d by omega];exact af (by omega) (by omega)
  have hw':IntKind.i64.wrap (d:Int)=(d:Int):=af (by omega) (by omega)
  have hxl:∀l,exL l= .lst 4 (l.map Ex.cs):=fun _=>rfl
  simp-implicitDefEqProofs[K_spec_l2Form,F_spec_l2Form,Ex.cs_eq]
  refine(BS G _).use ?_
  simp-implicitDefEqProofs[hd1]
  refine(pt G _ _ _).use ?_
  by_cases h1:inR e.op 1 13=true
  case neg=>simp-implicitDefEqProofs[h1,bp,jL]
  simp-implicitDefEqProofs[h1,hxl]
  refine(pt G _ _ _).use ?_
  by_cases h2:inR e.kids.length (loK e.op) (hiK e.op)=true
  case neg=>simp-implicitDefEqProofs[h2,bp,jL]
  simp-implicitDefEqProofs[h2]
  refine lp (am 86 [(1,.p (.int .i64 (d+1))),(2,.ptr 0 4 0 0),(7,.p (.bool (CG e.op)))]) [.row 4 [[.p (.int .i64 e.op),.p (.int .i64 e.n),.p (.str e.name),.p (.lst 4 (e.kids.map Ex.cs))]]] ?_ ?_
  ·by_cases o2:e.op=2
   ·simp-implicitDefEqProofs[o2]
    exact ae (by simp) (by simp[okO]) (by simp[below,CG])
   ·by_cases o13:e.op=13
    ·simp-implicitDefEqProofs[o13]
     exact ae (by simp) (by simp[okO]) (by simp[below,CG])
    ·simp-implicitDefEqProofs[o2,o13]
     exact ae (by simp) (by simp[okO]) (by simp[below,CG,o2,o13])
  have hn:e.name.length≤140737488355328:=by omega
  refine ox (fun _:Unit=>am 86 [(1,.p (.int .i64 ((d:Int)+1))),(2,.ptr 0 4 0 0)]) (fun _=>[.row 4 [[.p (.int .i64 e.op),.p (.int .i64 e.n),.p (.str e.name),.p (.lst 4 (e.kids.map Ex.cs))]]]) (fun _=>jL e=true) ?_ ?_
  ·simp-implicitDefEqProofs[]
   refine(sH G _ hn).use ?_
   simp-implicitDefEqProofs[]
   repeat' first
    |(refine(pt G _ _ _).use ?_;simp-implicitDefEqProofs[])
    |(refine bf (fun hc=>?_) (fun hc=>?_)<;>simp-implicitDefEqProofs[hc])
   all_goals first
    |exact⟨by simp_all [jL],ae (by simp) (by simp[okO]) (by simp[below])⟩
    |simp_all [bp,jL]
  intro _ hh
  simp-implicitDefEqProofs[]
  refine aV (fun i:Nat=>am 86 [(1,.p (.int .i64 ((d:Int)+1))),(2,.ptr 0 4 0 0),(8,.p (.int .i64 i))]) (fun _=>[.row 4 [[.p (.int .i64 e.op),.p (.int .i64 e.n),.p (.str e.name),.p (.lst 4 (e.kids.map Ex.cs))]]])
   (fun i=>i≤e.kids.length∧(e.kids.take i).all (bp d)=true) (fun i=>e.kids.length-i) 0 (by simp) (ae (by simp) (by simp[okO]) (by simp[below])) ?_
  intro i ⟨hi,hall⟩
  simp-implicitDefEqProofs[]
  refine bf (fun h=>?_) (fun h=>?_)
  ·simp at h
   have hg:=RA h
   have hks:=aT (RH h)
   simp-implicitDefEqProofs[hg,hw']
   refine(ih e.kids[i] (by omega) (by omega)).use ?_
   by_cases hk:bp d e.kids[i]=true
   ·simp-implicitDefEqProofs[hk]
    refine⟨i+1,⟨h,by rw[←RF,eA h,hall,hk];rfl⟩,by omega,ae (by simp) (by simp[okO]) ?_⟩
    simp[below,w1 (i:=i) (by omega)]
   ·have hk':bp d e.kids[i]=false:=by simpa using hk
    have hf:bp (d+1) e=false:=by simp only[bp,mv h hk',Bool.and_false]
    simp-implicitDefEqProofs[hk',hf]
  ·simp at h
   have hf:bp (d+1) e=true:=by simp only[bp,gF h hall,hh,Bool.and_self]
   simp-implicitDefEqProofs[hf]
theorem GP{l:List Ex}{i:Nat}(h:i<l.length):dU (l.take (i+1))=dU (l.take i)+l[i].parts:=by
 rw[an h,jU];simp[dU]
theorem As(l:List Ex)(i:Nat):dU (l.take i)≤dU l:=by
 have:=jU (l.take i) (l.drop i)
 rw[Sk] at this
 omega
theorem Gj:∀(k:Nat) (e:Ex),e.sz≤k→k≤1099511627776→VF Tryz.prog G iB [.agg (e.cs.map .p)] (.p (.int .i64 e.parts)):=by
 intro k
 induction k with
 |zero=>intro e he;have:=e.sz_eq;omega
 |succ k ih=>
  intro e he hk
  have hsz:=e.sz_eq
  have hkl:=bh e.kids
  have hpe:=e.parts_eq
  have hpz:=zL e.kids
  refine AC.go ya ?_
  have hxl:∀l,exL l= .lst 4 (l.map Ex.cs):=fun _=>rfl
  simp-implicitDefEqProofs[pr,Ex.cs_eq,hxl]
  refine aV (fun i:Nat=>am 21 [(1,.ptr 0 4 0 0),(3,.p (.int .i64 ((1+dU (e.kids.take i):Nat):Int))),(4,.p (.int .i64 i))]) (fun _=>[.row 4 [[.p (.int .i64 e.op),.p (.int .i64 e.n),.p (.str e.name),.p (.lst 4 (e.kids.map Ex.cs))]]])
   (fun i=>i≤e.kids.length) (fun i=>e.kids.length-i) 0 (by simp) (ae (by simp) (by simp[okO]) (by simp[below,dU])) ?_
  intro i hi
  simp-implicitDefEqProofs[]
  refine bf (fun h=>?_) (fun h=>?_)
  ·simp at h
   have hg:=RA h
   have hks:=aT (RH h)
   have hps:=GP h
   have hple:=As e.kids (i+1)
   simp-implicitDefEqProofs[hg]
   refine(ih e.kids[i] (by omega) (by omega)).use ?_
   have hw:IntKind.i64.wrap (1+(dU (e.kids.take i):Int)+(e.kids[i].parts:Int))=((1+dU (e.kids.take (i+1)):Nat):Int):=by rw[af (by omega) (by omega)];omega
   simp-implicitDefEqProofs[hw]
   exact⟨i+1,h,by omega,ae (by simp) (by simp[okO]) (by simp[below,w1 (i:=i) (by omega)])⟩
  ·simp at h
   rw[RG h]
   simp-implicitDefEqProofs[]
   omega
theorem CJ(e:Ex)(he:e.sz≤1099511627776):VF Tryz.prog G gi [.agg (e.cs.map .p)] (.p (.bool (gH e))):=by
 refine AC.go ua ?_
 simp-implicitDefEqProofs[nu]
 have h6:=Js G 6 e he (by omega)
 refine h6.use ?_
 by_cases h:bp 6 e=true
 ·simp-implicitDefEqProofs[h]
  refine(Gj G _ e (RN _) he).use ?_
  simp-implicitDefEqProofs[gH,h]
  omega
 ·simp-implicitDefEqProofs[h,gH]
theorem JP(op:Int):VF Tryz.prog G jF [.p (.int .i64 op)] (.p (.int .i64 (jc op))):=by
 refine AC.go yS ?_
 by_cases h:op=4
 ·simp-implicitDefEqProofs[mP,h,jc]
 ·simp-implicitDefEqProofs[mP,h,jc]
theorem uv(d:Nat)(hd:d≤1000)(hs:∀s:Sm,s.sz≤1099511627776→VF Tryz.prog G jI [.agg (s.cs.map .p),.p (.int .i64 d)] (.p (.bool (au d s))))(l:List Sm)(hl:aq l≤1099511627776):
 VF Tryz.prog G da [.p (smL l),.p (.int .i64 d)] (.p (.bool (l.all (au d)))):=by
 refine AC.go wa ?_
 have hll:=bk l
 have hsl:∀l,smL l= .lst 5 (l.map Sm.cs):=fun _=>rfl
 simp-implicitDefEqProofs[pK]
 refine aV (fun i:Nat=>am 19 [(0,.p (smL l)),(1,.p (.int .i64 d)),(5,.p (.int .i64 i))]) (fun _=>[]) (fun i=>i≤l.length∧(l.take i).all (au d)=true) (fun i=>l.length-i) 0 (by simp) (bS rfl (by simp[below,hsl])) ?_
 intro i ⟨hi,hall⟩
 simp-implicitDefEqProofs[hsl]
 refine bf (fun h=>?_) (fun h=>?_)
 ·simp at h
  have hg:=RA h
  have hks:=bD (RH h)
  simp-implicitDefEqProofs[hg]
  refine(hs l[i] (by omega)).use ?_
  by_cases hk:au d l[i]=true
  ·simp-implicitDefEqProofs[hk]
   exact⟨i+1,⟨h,by rw[←RF,eA h,hall,hk];rfl⟩,by omega,bS rfl (by simp[below,hsl,w1 (i:=i) (by omega)])⟩
  ·have hk':au d l[i]=false:=by simpa using hk
   have hf:=mv h hk'
   simp-implicitDefEqProofs[hk',hf]
 ·simp at h
  have hf:=gF h hall
  simp-implicitDefEqProofs[hf]
theorem Ks:∀(d:Nat),d≤1000→∀s:Sm,s.sz≤1099511627776→VF Tryz.prog G jI [.agg (s.cs.map .p),.p (.int .i64 d)] (.p (.bool (au d s))):=by
 intro d
 induction d with
 |zero=>
  intro _ s _
  refine AC.go rb ?_
  simp-implicitDefEqProofs[F_spec_l3Stmt,Sm.cs_eq,au]
 |succ d ih=>
  intro hd s he
  have hsz:=s.sz_eq
  have hal:=bh s.args
  have hbl:=bk s.body
  have hel:=bk s.els
  have ihs:=uv G d (by omega) (ih (by omega))
  refine AC.goK rb yF ?_
  have hd1:¬(d:Int)+1<1:=by omega
  have hw':IntKind.i64.wrap (d:Int)=(d:Int):=af (by omega) (by omega)
  have hxl:∀l,exL l= .lst 4 (l.map Ex.cs):=fun _=>rfl
  have hsl:∀l,smL l= .lst 5 (l.map Sm.cs):=fun _=>rfl
  have hn:s.name.length≤140737488355328:=by omega
  simp-implicitDefEqProofs[K_spec_l3Stmt,F_spec_l3Stmt,Sm.cs_eq]
  generalize hH:[AO.row 5 [[AV.p (.int .i64 s.op),.p (.str s.name),.p (exL s.args),.p (smL s.body),.p (smL s.els)]]]=H
  have hho:∀o∈H,okO H.length o:=by rw[←hH];simp[okO]
  have hhl:0<H.length:=by rw[←hH];simp
  have hh0:H[0]?=some (AO.row 5 [[AV.p (.int .i64 s.op),.p (.str s.name),.p (exL s.args),.p (smL s.body),.p (smL s.els)]]):=by rw[←hH];rfl
  have hhL:H.length=1:=by rw[←hH];rfl
  refine ox (fun _:Unit=>am 108 [(1,.p (.int .i64 ((d:Int)+1))),(2,.ptr 0 5 0 0)]) (fun _=>H) (fun _=>inR s.op 1 8=true∧s.args.length=jc s.op) ?_ ?_
  ·simp-implicitDefEqProofs[hd1,hh0]
   refine(pt G _ _ _).use ?_
   by_cases h1:inR s.op 1 8=true
   case neg=>simp-implicitDefEqProofs[h1,au,eU]
   simp-implicitDefEqProofs[h1,hh0,hxl]
   refine(JP G _).useQ ?_
   by_cases h2:s.args.length=jc s.op
   ·simp-implicitDefEqProofs[h2]
    exact ae (by omega) hho (by simp[below,hhl])
   ·have h2':¬(s.args.length:Int)=(jc s.op:Int):=by omega
    simp-implicitDefEqProofs[h2,h2',au,eU]
  intro _ ⟨h1,h2⟩
  refine ox (fun _:Unit=>am 108 [(1,.p (.int .i64 ((d:Int)+1))),(2,.ptr 0 5 0 0),(5,.p (.bool (dT s.op)))]) (fun _=>H) (fun _=>True) ?_ ?_
  ·simp-implicitDefEqProofs[hh0]
   by_cases o1:s.op=1
   ·simp-implicitDefEqProofs[o1,hh0,dT]
    exact ae (by omega) hho (by simp[below,hhl])
   ·by_cases o2:s.op=2
    ·simp-implicitDefEqProofs[o2,hh0,dT]
     exact ae (by omega) hho (by simp[below,hhl])
    ·simp-implicitDefEqProofs[o1,o2,hh0,dT]
     exact ae (by omega) hho (by simp[below,hhl])
  intro _ _
  refine ox (fun _:Unit=>am 108 [(1,.p (.int .i64 ((d:Int)+1))),(2,.ptr 0 5 0 0)]) (fun _=>H) (fun _=>(dT s.op==aS s.name)=true∧(dT s.op||decide (s.name=[]))=true) ?_ ?_
  ·simp-implicitDefEqProofs[hh0]
   refine(sH G _ hn).use ?_
   simp-implicitDefEqProofs[hh0]
   repeat' first
    |(refine bf (fun hc=>?_) (fun hc=>?_)<;>simp-implicitDefEqProofs[hc,hh0])
   all_goals first
    |exact ae (by omega) hho (by simp[below,hhl])
    |exact⟨by simp_all,by simp_all,ae (by omega) hho (by simp[below,hhl])⟩
    |exact⟨by simp_all,ae (by omega) hho (by simp[below,hhl])⟩
    |(simp_all [au,eU];done)
  intro _ ⟨h3,h4⟩
  simp-implicitDefEqProofs[]
  refine aV (fun i:Nat=>am 108 [(1,.p (.int .i64 ((d:Int)+1))),(2,.ptr 0 5 0 0),(6,.p (.int .i64 i))]) (fun _=>H) (fun i=>i≤s.args.length∧(s.args.take i).all gH=true) (fun i=>s.args.length-i) 0 (by simp) (ae (by omega) hho (by simp[below,hhl])) ?_
  intro i ⟨hi,hall⟩
  simp-implicitDefEqProofs[hh0,hxl]
  refine bf (fun h=>?_) (fun h=>?_)
  ·simp at h
   have hg:=RA h
   have hks:=aT (RH h)
   simp-implicitDefEqProofs[hg,hh0,hxl]
   refine(CJ G s.args[i] (by omega)).use ?_
   by_cases hk:gH s.args[i]=true
   ·simp-implicitDefEqProofs[hk]
    exact⟨i+1,⟨h,by rw[←RF,eA h,hall,hk];rfl⟩,by omega,ae (by omega) hho (by simp[below,hhl,w1 (i:=i) (by omega)])⟩
   ·have hk':gH s.args[i]=false:=by simpa using hk
    have hf:au (d+1) s=false:=by simp only[au,eU,mv h hk',Bool.and_false,Bool.false_and]
    simp-implicitDefEqProofs[hk',hf]
  simp at h
  have h5:s.args.all gH=true:=gF h hall
  have hlen1:1≤s.args.length:=by rw[h2];unfold jc;split<;>omega
  obtain⟨a0,ar,ha⟩:∃a r,s.args=a::r:=by
   cases hh:s.args with
   |nil=>rw[hh] at hlen1;simp at hlen1
   |cons a r=>exact⟨a,r,rfl⟩
  have ha0:s.args[0]?=some a0:=by rw[ha];rfl
  refine ox (fun _:Unit=>am 108 [(1,.p (.int .i64 ((d:Int)+1))),(2,.ptr 0 5 0 0)]) (fun _=>H) (fun _=>(!decide (s.op=8)||decide (a0.op=13))=true) ?_ ?_
  ·simp-implicitDefEqProofs[hh0]
   by_cases o8:s.op=8
   ·have hae:=a0.cs_eq
    simp-implicitDefEqProofs[o8,hh0,hxl,ha0,hae]
    refine bf (fun hc=>?_) (fun hc=>?_)
    ·simp at hc
     have hf:au (d+1) s=false:=by simp[au,eU,o8,ha,hc]
     simp-implicitDefEqProofs[hf]
    ·simp at hc
     simp-implicitDefEqProofs[hc]
     exact ae (by omega) hho (by simp[below,hhl])
   ·simp-implicitDefEqProofs[o8,hh0]
    exact ae (by omega) hho (by simp[below,hhl])
  intro _ h6
  refine ox (fun _:Unit=>am 108 [(1,.p (.int .i64 ((d:Int)+1))),(2,.ptr 0 5 0 0)]) (fun _=>H) (fun _=>(s.els.isEmpty||decide (s.op=5))=true∧(s.body.isEmpty||decide (s.op=5)||decide (s.op=6))=true) ?_ ?_
  ·have hf:¬((s.els.isEmpty||decide (s.op=5))=true∧(s.body.isEmpty||decide (s.op=5)||decide (s.op=6))=true)→au (d+1) s=false:=fun h=>by
    have:eU s=false:=by
     cases hx:eU s with
     |false=>rfl
     |true=>refine absurd ?_ h;simp only[eU,RL] at hx;exact⟨hx.1.2,hx.2⟩
    simp[au,this]
   have pe:¬s.els=[]→0<s.els.length:=SI.2
   have pb:¬s.body=[]→0<s.body.length:=SI.2
   by_cases o5:s.op=5
   ·simp-implicitDefEqProofs[hh0,hsl,o5]
    repeat' first
     |(refine bf (fun hc=>?_) (fun hc=>?_)<;>simp-implicitDefEqProofs[hc,hh0,hsl,o5])
    all_goals exact ae (by omega) hho (by simp[below,hhl])
   by_cases e1:s.els=[]
   case neg=>
    have hf:=hf (by simp[e1,o5])
    have:=pe e1
    simp-implicitDefEqProofs[hh0,hsl,o5,e1,this,hf]
   by_cases e2:s.body=[]
   ·simp-implicitDefEqProofs[hh0,hsl,o5,e1,e2]
    exact ae (by omega) hho (by simp[below,hhl])
   have:=pb e2
   by_cases o6:s.op=6
   ·simp-implicitDefEqProofs[hh0,hsl,o6,e1,e2,this]
    exact ae (by omega) hho (by simp[below,hhl])
   ·have hf:=hf (by simp[e2,o5,o6])
    simp-implicitDefEqProofs[hh0,hsl,o5,o6,e1,e2,this,hf]
  intro _ ⟨h7,h8⟩
  have hm:(match s.args with|a::_=>decide (a.op=13)|[]=>false)=decide (a0.op=13):=by rw[ha]
  have hhd:eU s=true:=by
   have h6':(!decide (s.op=8)||(match s.args with|a::_=>decide (a.op=13)|[]=>false))=true:=by rw[hm];exact h6
   have h2':decide (s.args.length=jc s.op)=true:=by simp[h2]
   simp only[eU,h1,h2',h3,h4,h5,h7,h8,Bool.and_self,Bool.and_true,Bool.true_and]
   exact h6'
  simp-implicitDefEqProofs[hh0,hw']
  refine(ihs s.body (by omega)).use ?_
  by_cases hB:s.body.all (au d)=true
  ·simp only[hB]
   simp-implicitDefEqProofs[hh0,hw']
   refine(ihs s.els (by omega)).use ?_
   have hf:au (d+1) s=s.els.all (au d):=by simp only[au,hhd,hB,Bool.true_and]
   rw[hf]
   generalize s.els.all (au d)=w
   simp-implicitDefEqProofs[]
  ·have hB':s.body.all (au d)=false:=by simpa using hB
   have hf:au (d+1) s=false:=by simp only[au,hB',Bool.and_false,Bool.false_and]
   simp only[hB',hf]
   simp-implicitDefEqProofs[]
theorem GH(d:Nat)(hd:d≤1000)(l:List Sm)(hl:aq l≤1099511627776):VF Tryz.prog G da [.p (smL l),.p (.int .i64 d)] (.p (.bool (l.all (au d)))):=
 uv G d hd (Ks G d hd) l hl
theorem Nf(f:Fd)(hf:f.sz≤1099511627776):VF Tryz.prog G pj [.agg (f.cs.map .p)] (.p (.bool (ia f))):=by
 refine AC.go Cn ?_
 have hsz:f.sz=1+f.name.length+(f.params.length+(f.params.map List.length).sum)+aq f.body:=rfl
 have hps:∀x∈f.params,x.length≤(f.params.map List.length).sum:=fun x hx=>by
  have key:∀l:List (List UInt8),x∈l→x.length≤(l.map List.length).sum:=by
   intro l
   induction l with
   |nil=>intro h;cases h
   |cons y r ih=>
    intro h
    simp only[Sb,List.sum_cons]
    rcases RY.1 h with rfl|h
    ·omega
    ·have:=ih h;omega
  exact key _ hx
 have hst:aC f.params= .lst 1 (f.params.map fun w=>[.str w]):=rfl
 have h4:=GH G 4 (by omega) f.body (by omega)
 simp-implicitDefEqProofs[uw,Fd.cs,hst]
 refine aV (fun i:Nat=>am 32 [(1,.ptr 0 3 0 0),(3,.p (.int .i64 i))]) (fun _=>[.row 3 [[.p (.str f.name),.p (aC f.params),.p (smL f.body)]]]) (fun i=>i≤f.params.length∧(f.params.take i).all aS=true) (fun i=>f.params.length-i) 0 (by simp) (ae (by simp) (by simp[okO]) (by simp[below])) ?_
 intro i ⟨hi,hall⟩
 simp-implicitDefEqProofs[hst]
 refine bf (fun h=>?_) (fun h=>?_)
 ·simp at h
  have hg:=RA h
  have hl:=hps _ (RH h)
  simp-implicitDefEqProofs[hg]
  refine(sH G _ (by omega)).use ?_
  by_cases hk:aS f.params[i]=true
  ·simp-implicitDefEqProofs[hk]
   exact⟨i+1,⟨h,by rw[←RF,eA h,hall,hk];rfl⟩,by omega,ae (by simp) (by simp[okO]) (by simp[below,w1 (i:=i) (by omega)])⟩
  ·have hk':aS f.params[i]=false:=by simpa using hk
   have hff:ia f=false:=by simp only[ia,mv h hk',Bool.false_and]
   simp-implicitDefEqProofs[hk',hff]
 ·simp at h
  have h1:f.params.all aS=true:=gF h hall
  simp-implicitDefEqProofs[]
  refine(sH G _ (by omega)).use ?_
  by_cases h2:aS f.name=true
  case neg=>
   have h2':aS f.name=false:=by simpa using h2
   simp-implicitDefEqProofs[h2',ia]
  simp-implicitDefEqProofs[h2]
  by_cases h3:f.params.length≤3
  case neg=>
   have h3':¬(f.params.length:Int)≤3:=by omega
   simp-implicitDefEqProofs[h3,h3',ia]
  have h3':(f.params.length:Int)≤3:=by omega
  simp-implicitDefEqProofs[h3']
  refine h4.use ?_
  have hff:ia f=f.body.all (au 4):=by simp only[ia,h1,h2,h3,decide_true,Bool.true_and]
  rw[hff]
  generalize f.body.all (au 4)=w
  simp-implicitDefEqProofs[]
theorem GE{l:List Sm}{i:Nat}(h:i<l.length):dj (l.take (i+1))=dj (l.take i)+l[i].cnt:=by
 rw[an h,pO];simp[dj]
theorem sx(l:List Sm)(i:Nat):dj (l.take i)≤dj l:=by
 have:=pO (l.take i) (l.drop i)
 rw[Sk] at this
 omega
def lQ(l:List Sm)(i:Nat):Nat:=l.length+((l.take i).map fun s=>dj s.body+dj s.els).sum
theorem DY(l:List Sm):lQ l 0=l.length:=by simp[lQ]
theorem yf{l:List Sm}{i:Nat}(h:i<l.length):lQ l (i+1)=lQ l i+dj l[i].body+dj l[i].els:=by
 rw[lQ,lQ,an h,List.map_append,List.sum_append]
 simp only[Sb,List.map_nil,List.sum_cons,List.sum_nil]
 omega
theorem ul(l:List Sm):∀i,i≤l.length→dj (l.take i)+l.length=i+lQ l i
 |0,_=>by simp[dj,lQ]
 |i+1,h=>by
  have:=ul l i (by omega)
  rw[GE (by omega),yf (by omega),(l[i]'(by omega)).cnt_eq]
  omega
theorem FD:∀(k:Nat) (l:List Sm),aq l≤k→k≤1099511627776→VF Tryz.prog G fS [.p (smL l)] (.p (.int .i64 (dj l))):=by
 intro k
 induction k with
 |zero=>
  intro l hl _
  have:l=[]:=by
   cases l with
   |nil=>rfl
   |cons s r=>have:=s.sz_eq;simp only[aq] at hl;omega
  subst this
  refine AC.go pQ ?_
  have hsl:smL []= .lst 5 []:=rfl
  simp-implicitDefEqProofs[kT,hsl]
  refine aV (fun _:Unit=>am 29 [(0,.p (.lst 5 [])),(3,.p (.int .i64 0)),(4,.p (.int .i64 0))]) (fun _=>[]) (fun _=>True) (fun _=>0) () trivial (bS rfl (by simp[below])) ?_
  intro _ _
  simp-implicitDefEqProofs[dj]
 |succ k ih=>
  intro l hl hk
  have hll:=bk l
  have hnz:=qd l
  refine AC.go pQ ?_
  have hsl:∀l,smL l= .lst 5 (l.map Sm.cs):=fun _=>rfl
  simp-implicitDefEqProofs[kT,hsl]
  refine aV (fun i:Nat=>am 29 [(0,.p (smL l)),(3,.p (.int .i64 (lQ l i))),(4,.p (.int .i64 i))]) (fun _=>[]) (fun i=>i≤l.length) (fun i=>l.length-i) 0 (by simp) (bS rfl (by simp[below,hsl,DY])) ?_
  intro i hi
  have k0:=ul l i hi
  have k2:=sx l i
  simp-implicitDefEqProofs[hsl]
  refine bf (fun h=>?_) (fun h=>?_)
  ·simp at h
   have hg:=RA h
   have hks:=bD (RH h)
   have hse:=l[i].sz_eq
   have hce:=l[i].cs_eq
   have k1:=yf h
   have k3:=ul l (i+1) h
   have k4:=sx l (i+1)
   simp-implicitDefEqProofs[hg,hce]
   refine(ih l[i].body (by omega) (by omega)).use ?_
   simp-implicitDefEqProofs[hg,hce]
   refine(ih l[i].els (by omega) (by omega)).use ?_
   have w1':IntKind.i64.wrap ((lQ l i:Int)+(dj l[i].body:Int))=(lQ l i:Int)+(dj l[i].body:Int):=af (by omega) (by omega)
   have w2':IntKind.i64.wrap ((lQ l i:Int)+(dj l[i].body:Int)+(dj l[i].els:Int))=(lQ l (i+1):Int):=by rw[af (by omega) (by omega)];omega
   simp-implicitDefEqProofs[w1',w2']
   exact⟨i+1,h,by omega,bS rfl (by simp[below,hsl,w1 (i:=i) (by omega)])⟩
  ·simp at h
   rw[RG h] at k0
   have:lQ l i=dj l:=by omega
   simp-implicitDefEqProofs[this]
theorem cJ:∀{l:List Fd} {f:Fd},f∈l→f.sz≤aJ l
 |x::r,e,h=>by
  simp only[aJ,Sb,List.sum_cons]
  rcases RY.1 h with rfl|h
  ·omega
  ·have:=cJ h;simp only[aJ] at this;omega
theorem cW:∀l:List Fd,l.length≤aJ l
 |[]=>RN _
 |e::r=>by have:=cW r;simp only[aJ,Sb,List.sum_cons,RW] at this⊢;have:1≤e.sz:=by unfold Fd.sz;omega
           omega
def wD(l:List Fd)(i:Nat):Nat:=jX (l.take i)
theorem Gr{l:List Fd}{i:Nat}(h:i<l.length):wD l (i+1)=wD l i+dj l[i].body:=by
 rw[wD,wD,jX,jX,an h,List.map_append,List.sum_append];simp
theorem zK:∀l:List Fd,jX l≤aJ l
 |[]=>RN _
 |f::r=>by
  have:=zK r
  have h2:=qd f.body
  simp only[jX,aJ,Sb,List.sum_cons] at this⊢
  have:aq f.body≤f.sz:=by unfold Fd.sz;omega
  omega
theorem Lq(l:List Fd)(i:Nat):wD l i≤aJ l:=by
 have h1:=zK (l.take i)
 have h2:aJ (l.take i)≤aJ l:=by
  have:aJ l=aJ (l.take i)+aJ (l.drop i):=by
   rw[←Sk i l,aJ,List.map_append,List.sum_append];simp[aJ]
  omega
 exact Sp h1 h2
theorem KV(l:List Fd)(hl:aJ l≤1099511627776):VF Tryz.prog G nJ [.agg [.p (fdL l)]] (.p (.int .i64 (jX l))):=by
 refine AC.go AJ ?_
 have hll:=cW l
 have hfl:∀l,fdL l= .lst 3 (l.map Fd.cs):=fun _=>rfl
 simp-implicitDefEqProofs[sv]
 refine aV (fun i:Nat=>am 22 [(1,.ptr 0 1 0 0),(3,.p (.int .i64 (wD l i))),(4,.p (.int .i64 i))]) (fun _=>[.row 1 [[.p (fdL l)]]]) (fun i=>i≤l.length) (fun i=>l.length-i) 0 (by simp) (ae (by simp) (by simp[okO]) (by simp[below,wD,jX])) ?_
 intro i hi
 simp-implicitDefEqProofs[hfl]
 refine bf (fun h=>?_) (fun h=>?_)
 ·simp at h
  have hg:=RA h
  have hks:=cJ (RH h)
  have hse:l[i].sz=1+l[i].name.length+(l[i].params.length+(l[i].params.map List.length).sum)+aq l[i].body:=rfl
  have hce:l[i].cs=[.str l[i].name,aC l[i].params,smL l[i].body]:=rfl
  have k1:=Gr h
  have k2:=Lq l (i+1)
  simp-implicitDefEqProofs[hg,hce]
  refine(FD G _ l[i].body (RN _) (by omega)).use ?_
  have w1':IntKind.i64.wrap ((wD l i:Int)+(dj l[i].body:Int))=(wD l (i+1):Int):=by rw[af (by omega) (by omega)];omega
  simp-implicitDefEqProofs[w1']
  exact⟨i+1,h,by omega,ae (by simp) (by simp[okO]) (by simp[below,w1 (i:=i) (by omega),hfl])⟩
 ·simp at h
  have:wD l i=jX l:=by rw[wD,RG h]
  simp-implicitDefEqProofs[this]
theorem kX(l:List Fd)(hl:aJ l≤1099511627776):VF Tryz.prog G eJ [.agg [.p (fdL l)]] (.p (.bool (bq l))):=by
 refine AC.go qJ ?_
 have hfl:∀l,fdL l= .lst 3 (l.map Fd.cs):=fun _=>rfl
 have hall:=KV G l hl
 have hll:=cW l
 rw[hfl] at hall
 simp-implicitDefEqProofs[kB,hfl]
 refine(pt G _ _ _).use ?_
 by_cases h1:inR l.length 1 4=true
 case neg=>simp-implicitDefEqProofs[h1,bq]
 simp-implicitDefEqProofs[h1]
 refine aV (fun i:Nat=>am 26 [(1,.ptr 0 1 0 0),(3,.p (.int .i64 i))]) (fun _=>[.row 1 [[.p (.lst 3 (l.map Fd.cs))]]]) (fun i=>i≤l.length∧(l.take i).all ia=true) (fun i=>l.length-i) 0 (by simp) (ae (by simp) (by simp[okO]) (by simp[below])) ?_
 intro i ⟨hi,ha⟩
 simp-implicitDefEqProofs[]
 refine bf (fun h=>?_) (fun h=>?_)
 ·simp at h
  have hg:=RA h
  have hks:=cJ (RH h)
  simp-implicitDefEqProofs[hg]
  refine(Nf G l[i] (by omega)).use ?_
  by_cases hk:ia l[i]=true
  ·simp-implicitDefEqProofs[hk]
   exact⟨i+1,⟨h,by rw[←RF,eA h,ha,hk];rfl⟩,by omega,ae (by simp) (by simp[okO]) (by simp[below,w1 (i:=i) (by omega)])⟩
  ·have hk':ia l[i]=false:=by simpa using hk
   have hff:bq l=false:=by simp only[bq,mv h hk',Bool.and_false,Bool.false_and]
   simp-implicitDefEqProofs[hk',hff]
 ·simp at h
  have h2:l.all ia=true:=gF h ha
  simp-implicitDefEqProofs[]
  refine hall.use ?_
  have hff:bq l=decide (jX l≤40):=by simp only[bq,h1,h2,Bool.true_and]
  simp-implicitDefEqProofs[hff]
  omega
end
section
def tS(l:List (List UInt8)):Prop:=l.length≤1000000∧∀s∈l,s.length≤8
theorem fj{h:List AO}{id:Nat}{l:List Ex}(e:h[id]?=some (.row 4 (l.map fun x=>x.cs.map .p))):View h (.sl id 4 0 l.length) (exL l):=by
 have:=iH (h:=h) (id:=id) (sz:=4) (n:=l.length) (ls:=l.map Ex.cs) (by rw[e];simp) (by simp) (fun x hx=>by obtain⟨b,_,rfl⟩:=RU.1 hx;exact b.cs_len)
 exact this
variable (G:aM)
def ExQ(p n m:Nat)(v:AV)(q:Nat):Prop:=(∃e:Ex,v= .agg (e.cs.map .p)∧e.sz≤n)∧p≤q∧q≤p+m
theorem xB{b:List Int}(hb:Byt b)(hl:b.length≤2000){p:Nat}(hp:p≤1000000000000)(names:List (List UInt8))(hn:tS names):AC Tryz.prog G eD [.ptr 0 2 0 0,.p (aC names)] [rdO b p] fun x h=>∃v q,x= .ret v∧h=[rdO b q]∧ExQ p 9 2 v q:=by
 refine lU G (AC.go rk ?_)
 have hsl:aC names= .lst 1 (names.map fun w=>[.str w]):=rfl
 have fin1:∀(o n:Int) (s:List UInt8) (q:Nat) (rest:List AO),p≤q→q≤p+2→s.length≤8→DP b (ExQ p 9 2) (.ret (.agg [.p (.int .i64 o),.p (.int .i64 n),.p (.str s),.nils])) (rdO b q::rest):=fun o n s q rest h1 h2 hs=>
  ⟨_,rest,q,.agg ((Ex.mk o n s []).cs.map .p),rfl,rfl,.agg (.keep (by simp) (.keep (by simp) (.keep (by simp) (.one (View.nils 4) .nil)))) .nil,⟨_,rfl,by simp[Ex.sz,bC];omega⟩,h1,h2⟩
 have num:∀(q:Nat) (h:List AO),q≤1000000000001→h[0]?=some (rdO b q)→h[2]?=some (vt [0,1,2,3,5,7,15,16,100,255])→_:=fun q h hq h0 h1=>kq G hb hl (p:=q) (by omega) [0,1,2,3,5,7,15,16,100,255] (h:=h) (k:=2) (by simp) (by simp) (by omega) h0 h1
 by_cases hne:names=[]
 ·subst hne
  have hs0:aC []= .lst 1 []:=rfl
  simp-implicitDefEqProofs[gI,hs0]
  refine(num p _ (by omega) rfl rfl).mono ?_
  rintro r h ⟨n,_,rfl,rfl⟩
  simp-implicitDefEqProofs[aa]
  exact fin1 _ _ _ _ _ (by omega) (by omega) (by simp)
 ·have hlen:¬names.length=0:=fun h=>hne (Sw h)
  simp-implicitDefEqProofs[gI,hsl,hne]
  refine(aZ G b hb hl p (by omega) 3 _).mono ?_
  rintro r h ⟨k,rfl,rfl,_⟩
  simp-implicitDefEqProofs[aa]
  refine bf (fun hc=>?_) (fun hc=>?_)
  ·simp-implicitDefEqProofs[]
   refine(num (p+1) _ (by omega) rfl rfl).mono ?_
   rintro r h ⟨n,_,rfl,rfl⟩
   simp-implicitDefEqProofs[aa]
   exact fin1 _ _ _ _ _ (by omega) (by omega) (by simp)
  ·simp-implicitDefEqProofs[]
   rw[←hsl]
   refine(EB G hb hl (by omega) names hne (by have:=hn.1;omega) _).mono ?_
   rintro r h ⟨s,hs,rfl,rfl⟩
   have:=hn.2 s hs
   simp-implicitDefEqProofs[aa]
   exact fin1 _ _ _ _ _ (by omega) (by omega) this
theorem xb{b:List Int}(hb:Byt b)(hl:b.length≤2000)(names:List (List UInt8))(hn:tS names):∀(d:Nat),d≤20→∀{p:Nat},p+6*3^d≤1000000000000→AC Tryz.prog G bA [.ptr 0 2 0 0,.p (aC names),.p (.int .i64 d)] [rdO b p] fun x h=>∃v q,x= .ret v∧h=[rdO b q]∧ExQ p (10*3^d) (6*3^d) v q:=by
 intro d
 induction d with
 |zero=>
  intro _ p hp
  refine lU G (AC.go mF ?_)
  simp-implicitDefEqProofs[fq]
  refine(iF G (xB G hb hl (by omega) names hn) _ (by simp[below])).mono ?_
  rintro r h ⟨v,q,rfl,rfl,⟨e,rfl,he⟩,h1,h2⟩
  have hec:=e.cs_eq
  simp-implicitDefEqProofs[aa,hec]
  exact⟨_,_,q,.agg (e.cs.map .p),rfl,rfl,.agg (by rw[hec];exact gN (by simp)) .nil,⟨e,rfl,by omega⟩,h1,by omega⟩
 |succ d ih=>
  intro hd p hp
  have hpow:3^(d+1)=3*3^d:=by rw[Nat.pow_succ];omega
  have h1p:1≤3^d:=Nat.one_le_pow _ _ (by omega)
  have ih:=fun{p:Nat} (hp:p+6*3^d≤1000000000000)=>ih (by omega) (p:=p) hp
  rw[hpow] at hp⊢
  generalize 3^d=t at*
  have hw:IntKind.i64.wrap (d:Int)=(d:Int):=af (by omega) (by omega)
  have leaf:∀(q:Nat) (rest:List AO),p≤q→q≤p+3→AC Tryz.prog G eD [.ptr 0 2 0 0,.p (aC names)] (rdO b q::rest) fun x h=>∃v q',x= .ret v∧h=rdO b q'::rest∧ExQ q 9 2 v q':=fun q rest _ _=>iF G (xB G hb hl (by omega) names hn) rest (by simp[below])
  have sub:∀(q:Nat) (rest:List AO),p≤q→q≤p+6+6*t→AC Tryz.prog G bA [.ptr 0 2 0 0,.p (aC names),.p (.int .i64 d)] (rdO b q::rest) fun x h=>∃v q',x= .ret v∧h=rdO b q'::rest∧ExQ q (10*t) (6*t) v q':=fun q rest _ _=>iF G (ih (by omega)) rest (by simp[below])
  refine lU G (AC.go mF ?_)
  have leafCase:∀(e:Ex) (q:Nat) (rest:List AO),e.sz≤9→p≤q→q≤p+5→DP b (ExQ p (10*(3*t)) (6*(3*t))) (.ret (.agg (e.cs.map .p))) (rdO b q::rest):=fun e q rest h1 h2 h3=>
   ⟨_,_,q,.agg (e.cs.map .p),rfl,rfl,.agg (by rw[e.cs_eq];exact gN (by simp)) .nil,⟨e,rfl,by omega⟩,h2,by omega⟩
  have bin:∀(o:Int) (e1 e2:Ex) (q:Nat) (rest:List AO) (k:Nat),(rdO b q::rest)[k+1]?=some (.row 4 [e1.cs.map .p,e2.cs.map .p])→e1.sz≤10*t→e2.sz≤10*t→p≤q→q≤p+6*(3*t)→DP b (ExQ p (10*(3*t)) (6*(3*t))) (.ret (.agg [.p (.int .i64 o),.p (.int .i64 0),.p (.str []),.sl (k+1) 4 0 2])) (rdO b q::rest):=fun o e1 e2 q rest k hk h1 h2 h3 h4=>
   ⟨_,rest,q,.agg ((Ex.mk o 0 [] [e1,e2]).cs.map .p),rfl,rfl,.agg (.keep (by simp) (.keep (by simp) (.keep (by simp) (.one (fj (l:=[e1,e2]) (by simpa using hk)) .nil)))) .nil,⟨_,rfl,by simp[Ex.sz,bC];omega⟩,h3,h4⟩
  have una:∀(o:Int) (e1:Ex) (q:Nat) (rest:List AO) (k:Nat),(rdO b q::rest)[k+1]?=some (.row 4 [e1.cs.map .p])→e1.sz≤10*t→p≤q→q≤p+6*(3*t)→DP b (ExQ p (10*(3*t)) (6*(3*t))) (.ret (.agg [.p (.int .i64 o),.p (.int .i64 0),.p (.str []),.sl (k+1) 4 0 1])) (rdO b q::rest):=fun o e1 q rest k hk h1 h3 h4=>
   ⟨_,rest,q,.agg ((Ex.mk o 0 [] [e1]).cs.map .p),rfl,rfl,.agg (.keep (by simp) (.keep (by simp) (.keep (by simp) (.one (fj (l:=[e1]) (by simpa using hk)) .nil)))) .nil,⟨_,rfl,by simp[Ex.sz,bC];omega⟩,h3,h4⟩
  by_cases hd0:d=0
  ·subst hd0
   simp-implicitDefEqProofs[fq]
   refine(leaf p _ (by omega) (by omega)).mono ?_
   rintro r h ⟨v,q,rfl,rfl,⟨e,rfl,he⟩,h1,h2⟩
   have hec:=e.cs_eq
   simp-implicitDefEqProofs[aa,hec]
   have:=leafCase e q [.row 4 [e.cs.map .p]] he h1 (by omega)
   rw[hec] at this
   exact this
  have hd2:¬(d:Int)+1<2:=by omega
  simp-implicitDefEqProofs[fq,hd2]
  refine(aZ G b hb hl p (by omega) 4 _).mono ?_
  rintro r h ⟨k1,rfl,rfl,_⟩
  simp-implicitDefEqProofs[aa]
  refine bf (fun hc=>?_) (fun hc=>?_)
  ·simp-implicitDefEqProofs[]
   refine(leaf (p+1) _ (by omega) (by omega)).mono ?_
   rintro r h ⟨v,q,rfl,rfl,⟨e,rfl,he⟩,h1,h2⟩
   have hec:=e.cs_eq
   simp-implicitDefEqProofs[aa,hec]
   have:=leafCase e q [.row 4 [e.cs.map .p]] he (by omega) (by omega)
   rw[hec] at this
   exact this
  simp-implicitDefEqProofs[]
  refine(aZ G b hb hl (p+1) (by omega) 7 _).mono ?_
  rintro r h ⟨k2,rfl,rfl,_⟩
  simp-implicitDefEqProofs[aa]
  refine bf (fun hc=>?_) (fun hc=>?_)
  ·simp-implicitDefEqProofs[]
   refine(kq G hb hl (p:=p+2) (by omega) [11,12,11] (k:=2) (by simp) (by simp) (by omega) rfl rfl).mono ?_
   rintro r h ⟨n,_,rfl,rfl⟩
   simp-implicitDefEqProofs[aa,hw]
   refine(sub (p+3) _ (by omega) (by omega)).mono ?_
   rintro r h ⟨v,q,rfl,rfl,⟨e,rfl,he⟩,h1,h2⟩
   have hec:=e.cs_eq
   simp-implicitDefEqProofs[aa,hec]
   exact una n e q _ 2 (by rw[hec];rfl) he (by omega) (by omega)
  ·simp-implicitDefEqProofs[]
   refine(kq G hb hl (p:=p+2) (by omega) [3,3,4,5,6,7,8,9,10] (k:=2) (by simp) (by simp) (by omega) rfl rfl).mono ?_
   rintro r h ⟨n,_,rfl,rfl⟩
   simp-implicitDefEqProofs[aa,hw]
   refine(sub (p+3) _ (by omega) (by omega)).mono ?_
   rintro r h ⟨v,q,rfl,rfl,⟨e,rfl,he⟩,h1,h2⟩
   have hec:=e.cs_eq
   simp-implicitDefEqProofs[aa,hec,hw]
   refine(sub q _ (by omega) (by omega)).mono ?_
   rintro r h ⟨v,q2,rfl,rfl,⟨e2,rfl,he2⟩,h3,h4⟩
   have hec2:=e2.cs_eq
   simp-implicitDefEqProofs[aa,hec2]
   exact bin n e e2 q2 _ 2 (by rw[hec,hec2];rfl) he he2 (by omega) (by omega)
end
section
theorem eL{n:Nat}{h h1:List AO}(e:h.take n=h1)(hn:h1.length=n)(ho:∀o∈h1,okO n o):Fst n h h1:=by
 have hl:n≤h.length:=by
  have:=congrArg List.length e
  rw[RZ] at this;omega
 have hg:∀(i:Nat) (o:AO),h1[i]?=some o→h[i]?=some o:=fun i o hi=>by
  have h2:=(RB.1 hi).1
  rw[←e,List.getElem?_take_of_lt (by omega)] at hi
  exact hi
 exact⟨hn,hl,fun i sz es hi=>⟨hg _ _ hi,ho _ (RI hi)⟩,fun i es hi=>⟨hg _ _ hi,ho _ (RI hi)⟩,fun i s p hi=>hg _ _ hi⟩
theorem zA:∀(r:List AO) (s:Nat),((jV (List.range' s r.length++[0]) (r++[.dead])).Nodup∧∀i∈jV (List.range' s r.length++[0]) (r++[.dead]),s≤i)
 |[],s=>by simp[jV]
 |o::r,s=>by
  obtain⟨h1,h2⟩:=zA r (s+1)
  rw[RW,List.range'_succ]
  cases o with
  |dead=>exact⟨h1,fun i hi=>Nat.le_of_succ_le (h2 i hi)⟩
  |_=>exact⟨Sy.2 ⟨fun hm=>absurd (h2 _ hm) (by omega),h1⟩,fun i hi=>by
   rcases RY.1 hi with rfl|hi
   ·exact RN _
   ·exact Nat.le_of_succ_le (h2 i hi)⟩
theorem BZ{h:List AO}(hp:0<h.length)(ho:∀o∈h,okO h.length o):∀(r:List AO) (s:Nat),(∀i:Nat,r[i]?=h[s+i]?)→s+r.length=h.length→HW (List.range' 0 h.length++[0]) h (List.range' s r.length++[0]) (r++[.dead])
 |[],s,_,_=>fL hp br
 |o::r,s,hr,hs=>by
  have hσ:∀i,i<h.length→(List.range' 0 h.length++[0]).getD i 0=i:=fun i hi=>by
   rw[RO,RD (by simp;exact hi)];simp[hi]
  rw[RW,List.range'_succ]
  have h0:=hr 0
  have ih:=BZ hp ho r (s+1) (fun i=>by have:=hr (i+1);rw[RK] at this;rw[this];congr 1;omega) (by simp at hs;omega)
  have hm:h[s]?=some o:=by simpa using h0.symm
  have hok:=ho o (RI hm)
  cases o with
  |dead=>exact fL (RB.1 hm).1 ih
  |row sz es=>
   refine cU (fun x hx=>aW (by simp) _ (hok x hx)) ?_ ih
   rw[hm,RT (g:=id) fun x hx=>kV hσ x (hok x hx)];simp
  |mp es=>exact⟨(RB.1 hm).1,⟨fun x hx=>by exact(aW (by simp) [x.2] ⟨hok x hx,trivial⟩).1,by rw[hm,RT (g:=id) fun x hx=>by rw[kE hσ x.2 (hok x hx)];rfl];simp⟩,ih⟩
  |sit s p=>exact⟨(RB.1 hm).1,hm,ih⟩
theorem Bn{m:Nat}{l:List (Nat × AV)}:∀r:List (Nat × AV),FgA m l r→TWA (List.range' 0 m++[0]) l r
 |[],_=>trivial
 |x::r,⟨⟨a,c⟩,d⟩=>by
  have hσ:∀i,i<m→(List.range' 0 m++[0]).getD i 0=i:=fun i hi=>by
   rw[RO,RD (by simp;exact hi)];simp[hi]
  exact⟨⟨(aW (by simp) [x.2] ⟨a,trivial⟩).1,by rw[kE hσ _ a,c]⟩,Bn r d⟩
theorem gJ{k n:Nat}{l l1:List (Nat × AV)}{h:List AO}(hk:k≤h.length)(hp:0<h.length)(ho:∀o∈h,okO h.length o)(H:FgA h.length l l1):Wk k (am n l) h (am n l1) (h++[.dead]):=by
 have hσ:∀i,i<h.length→(List.range' 0 h.length++[0]).getD i 0=i:=fun i hi=>by
  rw[RO,RD (by simp;exact hi)];simp[hi]
 refine EA (List.range' 0 h.length++[0]) (by simp;omega) (fun i hi=>hσ i (by omega)) ?_ ?_ (Bn _ H)
 ·exact(zA h 0).1
 ·exact BZ hp ho h 0 (fun i=>by simp) (by simp)
def aN(fns:List Fd):List (List AV):=fns.map fun f=>f.cs.map .p
theorem fp(fns:List Fd):∀x∈aN fns,aj 0 x:=by
 intro x hx;obtain⟨m,_,rfl⟩:=RU.1 hx;simp
theorem bR{n:Nat}{o:AO}(h:okO 0 o):okO n o:=by
 cases o with
 |dead=>trivial
 |sit=>trivial
 |row sz es=>exact fun e he=>aW (Nat.zero_le _) _ (h e he)
 |mp es=>exact fun e he=>(aW (Nat.zero_le n) [e.2] ⟨h e he,trivial⟩).1
theorem mh(fns:List Fd)(n:Nat):okO n (bx 3 (aN fns)):=bR (AU (fp fns))
def exR(l:List Ex):List (List AV):=l.map fun e=>e.cs.map .p
theorem dL(l:List Ex):∀x∈exR l,aj 0 x:=by
 intro x hx;obtain⟨m,_,rfl⟩:=RU.1 hx;simp
theorem iC{h:List AO}{id:Nat}{l:List Ex}(e:h[id]?=some (bx 4 (exR l))):View h (slE id 4 (exR l)) (exL l):=by
 have hh:exR l=(l.map Ex.cs).map (·.map .p):=by simp[exR]
 rw[hh] at e⊢
 exact tJ e (fun x hx=>by obtain⟨b,_,rfl⟩:=RU.1 hx;exact b.cs_len)
theorem sE{h:List AO}{id sz:Nat}{r0 r1:List AV}{p0 p1:List PV}(he:h[id]?=some (.row sz [r0,r1]))(l0:p0.length=sz)(l1:p1.length=sz)(h0:∀(j:Nat) (q:PV) (a:AV),p0[j]?=some q→r0[j]?=some a→View h a q)(h1:∀(j:Nat) (q:PV) (a:AV),p1[j]?=some q→r1[j]?=some a→View h a q):View h (.sl id sz 0 2) (.lst sz [p0,p1]):=by
 refine View.sl id sz 0 _ [p0,p1] he (by simp) (by simp[l0,l1]) fun i j e q e' a a1 a2 a3 a4=>?_
 rw[Su] at a3
 match i,a1,a3 with
 |0,a1,a3=>cases a1;cases a3;exact h0 j q a a2 a4
 |1,a1,a3=>cases a1;cases a3;exact h1 j q a a2 a4
 |i+2,a1,a3=>simp at a1
def smR(l:List Sm):List (List AV):=l.map fun s=>s.cs.map .p
theorem aQ(l:List Sm):∀x∈smR l,aj 0 x:=by
 intro x hx;obtain⟨m,_,rfl⟩:=RU.1 hx;simp
theorem dd(l:List Sm):(smR l).length=l.length:=by simp[smR]
theorem nV(a b:List Sm):smR (a++b)=smR a++smR b:=by simp[smR]
theorem ca{h:List AO}{id sz:Nat}{r0:List AV}{p0:List PV}(he:h[id]?=some (.row sz [r0]))(l0:p0.length=sz)(h0:∀(j:Nat) (q:PV) (a:AV),p0[j]?=some q→r0[j]?=some a→View h a q):View h (.sl id sz 0 1) (.lst sz [p0]):=by
 refine View.sl id sz 0 _ [p0] he (by simp) (by simp[l0]) fun i j e q e' a a1 a2 a3 a4=>?_
 rw[Su] at a3
 match i,a1,a3 with
 |0,a1,a3=>cases a1;cases a3;exact h0 j q a a2 a4
 |i+1,a1,a3=>simp at a1
theorem iK{h:List AO}{o n:Int}{w:List UInt8}{k:List Ex}{K:AV}(hk:View h K (exL k)):∀(j:Nat) (q:PV) (a:AV),(Ex.mk o n w k).cs[j]?=some q→[AV.p (.int .i64 o),.p (.int .i64 n),.p (.str w),K][j]?=some a→View h a q:=by
 intro j q a e1 e2
 have hc:(Ex.mk o n w k).cs=[.int .i64 o,.int .i64 n,.str w,exL k]:=Ex.cs_eq _
 rw[hc] at e1
 match j,e1,e2 with
 |0,e1,e2=>cases e1;cases e2;exact .p _
 |1,e1,e2=>cases e1;cases e2;exact .p _
 |2,e1,e2=>cases e1;cases e2;exact .p _
 |3,e1,e2=>cases e1;cases e2;exact hk
 |j+4,e1,e2=>simp at e1
theorem fm{h:List AO}{id:Nat}{l:List Sm}(e:h[id]?=some (.row 5 (smR l))):View h (.sl id 5 0 l.length) (smL l):=by
 have:=iH (h:=h) (id:=id) (sz:=5) (n:=l.length) (ls:=l.map Sm.cs) (by rw[e,smR];simp) (by simp) (fun x hx=>by obtain⟨b,_,rfl⟩:=RU.1 hx;exact b.cs_len)
 exact this
theorem cZ{h:List AO}{o:Int}{w:List UInt8}{a:List Ex}{bd el:List Sm}{A B E:AV}(hA:View h A (exL a))(hB:View h B (smL bd))(hE:View h E (smL el)):∀(j:Nat) (q:PV) (x:AV),(Sm.mk o w a bd el).cs[j]?=some q→[AV.p (.int .i64 o),.p (.str w),A,B,E][j]?=some x→View h x q:=by
 intro j q x e1 e2
 have hc:(Sm.mk o w a bd el).cs=[.int .i64 o,.str w,exL a,smL bd,smL el]:=Sm.cs_eq _
 rw[hc] at e1
 match j,e1,e2 with
 |0,e1,e2=>cases e1;cases e2;exact .p _
 |1,e1,e2=>cases e1;cases e2;exact .p _
 |2,e1,e2=>cases e1;cases e2;exact hA
 |3,e1,e2=>cases e1;cases e2;exact hB
 |4,e1,e2=>cases e1;cases e2;exact hE
 |j+5,e1,e2=>simp at e1
theorem dQ{n:Nat}:∀o∈([]:List AO),okO n o:=fun o h=>by cases h
theorem ag{n:Nat}{a:AO}{l:List AO}(h:okO n a)(r:∀o∈l,okO n o):∀o∈a::l,okO n o:=fun o ho=>by
 rcases RY.1 ho with rfl|ho
 ·exact h
 ·exact r o ho
end
section
def du(fns:List Fd)(vs:List (List UInt8))(next left:Int):List AV:=[.ptr 0 2 0 0,slE 2 3 (aN fns),.p (aC vs),.p (.int .i64 next),.p (.int .i64 left)]
def HG(b:List Int)(p:Nat)(fns:List Fd)(vs:List (List UInt8))(next left:Int):List AO:=[rdO b p,.row 5 [du fns vs next left],bx 3 (aN fns)]
def DG(b:List Int)(fns:List Fd)(Q:AV→Nat→List (List UInt8)→Int→Int→Prop)(x:ARes)(h:List AO):Prop:=
 ∃v rest q vc v1 vs next left,x= .ret v∧h=rdO b q:: .row 5 [[.ptr 0 2 0 0,slE 2 3 (aN fns),vc,.p (.int .i64 next),.p (.int .i64 left)]]::bx 3 (aN fns)::rest∧
  Fzs (.dead:: .dead:: .dead::rest) 3 [vc] [.p (aC vs)]∧Fzs (.dead:: .dead:: .dead::rest) 3 [v] [v1]∧Q v1 q vs next left
def PG(b:List Int)(fns:List Fd)(Q:AV→Nat→List (List UInt8)→Int→Int→Prop)(rest:List AO)(x:ARes)(h:List AO):Prop:=
 ∃v q vs next left,x= .ret v∧h=rdO b q:: .row 5 [du fns vs next left]::bx 3 (aN fns)::rest∧Q v q vs next left
variable (G:aM)
theorem mc{f:FuncId}{args:List AV}{b:List Int}{p:Nat}{fns:List Fd}{vs:List (List UInt8)}{next left:Int}{Q:AV→Nat→List (List UInt8)→Int→Int→Prop}(H:AC Tryz.prog G f args (HG b p fns vs next left) (DG b fns Q)):
 AC Tryz.prog G f args (HG b p fns vs next left) (PG b fns Q []):=by
 refine H.frz 3 (by simp[HG]) (fun t v h ⟨_,_,_,_,_,_,_,_,e,_⟩=>by cases e) ?_
 rintro v h ⟨v0,rest,q,vc,v1,vs',n',l',e,rfl,hc,hf,r⟩
 cases e
 refine⟨v1,HG b q fns vs' n' l',by simp,rfl,hf,.same (bU _ _ _) (.one ?_ (.same (mh _ _) (.nil _))),v1,q,vs',n',l',rfl,rfl,r⟩
 exact .keep (by simp[below]) (.keep (pV (by omega)) (hc.append (.keep (by simp) (.keep (by simp) .nil))))
theorem Ky(b:List Int)(p:Nat)(fns:List Fd)(vs:List (List UInt8))(next left:Int):∀o∈HG b p fns vs next left,okO 3 o:=by
 intro o ho
 simp only[HG,RY,List.not_mem_nil,or_false] at ho
 rcases ho with rfl|rfl|rfl
 ·exact bU _ _ _
 ·intro e he
  rw[RM.1 he]
  exact⟨by simp[below],pV (by omega),by simp,by simp,by simp,trivial⟩
 ·exact mh _ _
theorem dW{f:FuncId}{args:List AV}{b:List Int}{p:Nat}{fns:List Fd}{vs:List (List UInt8)}{next left:Int}{Q:AV→Nat→List (List UInt8)→Int→Int→Prop}(H:AC Tryz.prog G f args (HG b p fns vs next left) (PG b fns Q []))(rest:List AO)(ha:aj 3 args):
 AC Tryz.prog G f args (rdO b p:: .row 5 [du fns vs next left]::bx 3 (aN fns)::rest) (PG b fns Q rest):=by
 refine(AC.pre H rest ha (Ky _ _ _ _ _ _) ?_).mono ?_
 ·rintro x h ⟨v,q,vs',n',l',_,rfl,_⟩;rfl
 ·rintro x h ⟨h1,⟨v,q,vs',n',l',e1,rfl,e2⟩,rfl⟩
  exact⟨v,q,vs',n',l',e1,rfl,e2⟩
def Pc(p:Nat)(vs:List (List UInt8))(next left:Int)(v:AV)(q:Nat)(vs':List (List UInt8))(next' left':Int):Prop:=(∃s:List UInt8,v= .p (.str s)∧s.length≤8)∧p≤q∧q≤p+2∧vs'=vs∧next'=next+1∧left'=left
theorem Ev{b:List Int}(hb:Byt b)(hl:b.length≤2000){p:Nat}(hp:p+2≤1000000000000)(fns:List Fd)(vs:List (List UInt8))(hv:tS vs){next:Int}(hn: -1≤next)(hn2:next≤1000000000000)(left:Int):
 AC Tryz.prog G hZ [.ptr 1 5 0 0] (HG b p fns vs next left) (PG b fns (Pc p vs next left) []):=by
 refine mc G (AC.go rI ?_)
 have hw:IntKind.i64.wrap (next+1)=next+1:=af (by omega) (by omega)
 have hsl:aC vs= .lst 1 (vs.map fun w=>[.str w]):=rfl
 simp-implicitDefEqProofs[lM,HG,du,hw]
 refine(aZ G b hb hl p (by omega) 9 _).mono ?_
 rintro r h ⟨k,rfl,rfl,_⟩
 have fin:∀(s:List UInt8) (q:Nat),s.length≤8→p≤q→q≤p+2→DG b fns (Pc p vs next left) (.ret (.p (.str s))) [rdO b q,.row 5 [[.ptr 0 2 0 0,slE 2 3 (aN fns),.p (aC vs),.p (.int .i64 (next+1)),.p (.int .i64 left)]],bx 3 (aN fns)]:=fun s q h1 h2 h3=>
  ⟨_,[],q,_,_,vs,next+1,left,rfl,rfl,.keep (by simp) .nil,.keep (by simp) .nil,⟨s,rfl,h1⟩,h2,h3,rfl,rfl,rfl⟩
 obtain⟨N,hN⟩:∃N:Nat,next+1=N:=⟨(next+1).toNat,by omega⟩
 have hm:N%24<24:=Nat.mod_lt _ (by omega)
 have ht:(N:Int).tmod 24=((N%24:Nat):Int):=rfl
 have hw2:IntKind.i64.wrap (((N%24:Nat):Int)+1)=((N%24+1:Nat):Int):=w1 (by omega)
 rw[hN] at fin⊢
 generalize N%24=m at hm ht hw2
 have hm1:m+1≤24:=by omega
 have h0m:(0:Int)≤(m:Int)+1:=by omega
 by_cases hc:k=0∧vs≠[]
 ·obtain⟨rfl,hne⟩:=hc
  have hpos:0<vs.length:=SI.2 hne
  simp-implicitDefEqProofs[aa,hsl,hpos]
  rw[←hsl]
  refine(EB G hb hl (by omega) vs hne (by have:=hv.1;omega) _).mono ?_
  rintro r h ⟨s,hs,rfl,rfl⟩
  simp-implicitDefEqProofs[aa]
  exact fin s _ (hv.2 s hs) (by omega) (by omega)
 ·have hcc:(k=0∧0<vs.length)=False:=by
   simp only[eq_iff_iff,iff_false]
   exact fun⟨a,c⟩=>hc ⟨a,SI.1 c⟩
  by_cases hk:k=0
  ·have hv0:vs=[]:=by
    by_cases e:vs=[]
    ·exact e
    ·exact absurd ⟨hk,e⟩ hc
   subst hv0
   have hs0:aC []= .lst 1 []:=rfl
   simp-implicitDefEqProofs[aa,hs0,hk,ht,hw2,hm1,h0m]
   rw[←hs0]
   refine fin _ (p+1) ?_ (by omega) (by omega)
   simp
   omega
  ·simp-implicitDefEqProofs[aa,hk,ht,hw2,hm1,h0m]
   refine fin _ (p+1) ?_ (by omega) (by omega)
   simp
   omega
def wx(fns:List Fd):Prop:=fns.length≤1000∧∀f∈fns,f.name.length≤8∧f.params.length≤3
def PB(p:Nat)(vs:List (List UInt8))(next left:Int)(v:AV)(q:Nat)(vs':List (List UInt8))(next' left':Int):Prop:=(∃e:Ex,v= .agg (e.cs.map .p)∧e.sz≤400)∧p≤q∧q≤p+400∧vs'=vs∧next'=next∧left'=left
theorem Aq{b:List Int}(hb:Byt b)(hl:b.length≤2000){p:Nat}(hp:p≤1000000000000)(l:List Int)(hne:l≠[])(hll:l.length≤1000000000000)(rest:List AO):
 AC Tryz.prog G al [.ptr 0 2 0 0,.p (Ni l)] (rdO b p::rest) fun x h=>∃n,n∈l∧x= .ret (.p (.int .i64 n))∧h=rdO b (p+1)::rest:=by
 have key:AC Tryz.prog G al [.ptr 0 2 0 0,.p (Ni l)] [rdO b p] fun x h=>∃n,n∈l∧x= .ret (.p (.int .i64 n))∧h=[rdO b (p+1)]:=by
  refine AC.go mW ?_
  have hpos:0<l.length:=SI.2 hne
  have hnl:Ni l= .lst 1 (l.map fun n=>[.int .i64 n]):=rfl
  simp-implicitDefEqProofs[jl,hnl]
  refine(aZ G b hb hl p (by omega) l.length []).mono ?_
  rintro r h ⟨m,rfl,rfl,hm⟩
  have hml:m<l.length:=by omega
  have hg:=RA hml
  simp-implicitDefEqProofs[aa,hg]
 refine(key.pre rest (by simp[below]) (fun o ho=>by rw[RM.1 ho];exact bU _ _ _) ?_).mono ?_
 ·rintro x h ⟨n,_,_,rfl⟩;rfl
 ·rintro x h ⟨h1,⟨n,e1,e2,rfl⟩,rfl⟩
  exact⟨n,e1,e2,rfl⟩
structure ExS where (es:List Ex) (q:Nat)
theorem mL{b:List Int}(hb:Byt b)(hl:b.length≤2000){p:Nat}(hp:p+1000≤1000000000000)(fns:List Fd)(hf:wx fns)(vs:List (List UInt8))(hv:tS vs)(next left:Int){d:Nat}(hd:d≤3):
 AC Tryz.prog G bn [.ptr 1 5 0 0,.p (.int .i64 d)] (HG b p fns vs next left) (PG b fns (PB p vs next left) []):=by
 refine mc G (AC.go sI ?_)
 have hpow:3^d≤27:=by
  have:3^d≤3^3:=Nat.pow_le_pow_right (by omega) hd
  omega
 have sub:∀(k:Nat),k≤3→∀(q:Nat) (rest:List AO),p≤q→q≤p+700→AC Tryz.prog G bA [.ptr 0 2 0 0,.p (aC vs),.p (.int .i64 k)] (rdO b q::rest) fun x h=>∃v q',x= .ret v∧h=rdO b q'::rest∧ExQ q (10*3^k) (6*3^k) v q':=fun k hk q rest _ _=>by
  have:3^k≤3^3:=Nat.pow_le_pow_right (by omega) hk
  exact iF G (xb G hb hl vs hv k (by omega) (by omega)) rest (by simp[below])
 simp-implicitDefEqProofs[lS,HG,du]
 refine(sub d hd p _ (by omega) (by omega)).mono ?_
 rintro r h ⟨v,q0,rfl,rfl,⟨e0,rfl,he0⟩,hq1,hq2⟩
 have hec:=e0.cs_eq
 simp-implicitDefEqProofs[aa,hec]
 have finE:∀(e:Ex) (q:Nat) (rest:List AO) (v:AV),Fzs (.dead:: .dead:: .dead::rest) 3 [v] [.agg (e.cs.map .p)]→e.sz≤400→p≤q→q≤p+400→DG b fns (PB p vs next left) (.ret v) (rdO b q:: .row 5 [[.ptr 0 2 0 0,slE 2 3 (aN fns),.p (aC vs),.p (.int .i64 next),.p (.int .i64 left)]]::bx 3 (aN fns)::rest):=fun e q rest v hz h1 h2 h3=>
  ⟨_,rest,q,_,_,vs,next,left,rfl,rfl,.keep (by simp) .nil,hz,⟨e,rfl,h1⟩,h2,h3,rfl,rfl,rfl⟩
 have fz0:∀rest,Fzs (.dead:: .dead:: .dead::rest) 3 [.agg [.p (.int .i64 e0.op),.p (.int .i64 e0.n),.p (.str e0.name),.p (exL e0.kids)]] [.agg (e0.cs.map .p)]:=fun rest=> .agg (by rw[hec];exact gN (by simp)) .nil
 by_cases hfe:fns=[]
 ·have h0:aN fns=[]:=by rw[hfe];rfl
  simp-implicitDefEqProofs[h0]
  rw[←h0]
  have:=finE e0 q0 [.row 4 [[.p (.int .i64 e0.op),.p (.int .i64 e0.n),.p (.str e0.name),.p (exL e0.kids)]],.row 4 [[.p (.int .i64 e0.op),.p (.int .i64 e0.n),.p (.str e0.name),.p (exL e0.kids)]]] _ (fz0 _) (by omega) (by omega) (by omega)
  rw[h0] at this⊢
  exact this
 have hfr:¬aN fns=[]:=fun h=>hfe (List.map_eq_nil_iff.1 h)
 have hfl:(aN fns).length=fns.length:=by simp[aN]
 have hfp:0<fns.length:=SI.2 hfe
 simp only[dS hfr,di hfr,hfl] at finE
 rw[show bx 3 (aN fns)= .row 3 (aN fns) from dS hfr,show slE 2 3 (aN fns)= .sl 2 3 0 (aN fns).length from di hfr,hfl]
 generalize hR:aN fns=R at*
 simp-implicitDefEqProofs[hfr]
 refine(aZ G b hb hl q0 (by omega) 4 _).mono ?_
 rintro r h ⟨k1,rfl,rfl,_⟩
 simp-implicitDefEqProofs[aa]
 refine bf (fun hc=>?_) (fun hc=>?_)
 ·simp-implicitDefEqProofs[]
  exact finE e0 _ _ _ (fz0 _) (by omega) (by omega) (by omega)
 simp-implicitDefEqProofs[hfl]
 refine(aZ G b hb hl (q0+1) (by omega) fns.length _).mono ?_
 rintro r h ⟨k2,rfl,rfl,hk2⟩
 have hk:k2<fns.length:=by omega
 have hg:=RA hk
 have hgr:R[k2]?=some (fns[k2].cs.map .p):=by rw[←hR,aN,RQ,hg];rfl
 have hfo:=hf.2 _ (RH hk)
 generalize fns[k2]=fd at hg hgr hfo
 have hfc:fd.cs=[.str fd.name,aC fd.params,smL fd.body]:=rfl
 have hsp:aC fd.params= .lst 1 (fd.params.map fun w=>[.str w]):=rfl
 clear hfl hg
 simp-implicitDefEqProofs[aa,hgr,hk,hfc]
 have hexn:∀(es:List Ex) (e:Ex),exR (es++[e])=exR es++[e.cs.map .p]:=fun es e=>by simp[exR]
 have hRp:∀x∈R,aj 0 x:=by rw[←hR];exact fp fns
 refine aV (fun s:ExS=>am 99 [(8,.p (.int .i64 s.es.length)),(7,.ptr 6 4 0 0),(6,.ptr 5 3 0 0),(4,.ptr 3 4 0 0),(0,.ptr 1 5 0 0)])
  (fun s=>[rdO b s.q,.row 5 [[.ptr 0 2 0 0,.sl 2 3 0 fns.length,.p (aC vs),.p (.int .i64 next),.p (.int .i64 left)]],.row 3 R,.row 4 [[.p (.int .i64 0),.p (.int .i64 0),.p (.str []),.nils]],
    .row 4 [[.p (.int .i64 e0.op),.p (.int .i64 e0.n),.p (.str e0.name),.p (exL e0.kids)]],.row 3 [[.p (.str fd.name),.p (aC fd.params),.p (smL fd.body)]],.row 4 [[.p (.int .i64 13),.p (.int .i64 0),.p (.str fd.name),slE 7 4 (exR s.es)]],bx 4 (exR s.es)])
  (fun s=>s.es.length≤fd.params.length∧bC s.es≤90*s.es.length∧q0≤s.q∧s.q≤q0+2+54*s.es.length) (fun s=>fd.params.length-s.es.length) ⟨[],q0+1+1⟩ ⟨by simp,by simp[bC],by simp only;omega,by simp⟩
  (gJ (by simp) (by simp) (by
    intro o h
    simp only[RY,List.not_mem_nil,or_false] at h
    rcases h with rfl|rfl|rfl|rfl|rfl|rfl|rfl
    ·exact bU _ _ _
    ·simp[okO,below]
    ·exact bR (fun e he=>hRp e he)
    ·simp[okO,below]
    ·simp[okO,below]
    ·simp[okO,below]
    ·simp[okO,below]) (by simp[below])) ?_
 rintro⟨es,q⟩ ⟨h1,h2,h3,h4⟩
 simp only at h1 h2 h3 h4
 simp-implicitDefEqProofs[hsp]
 refine bf (fun hc=>?_) (fun hc=>?_)
 ·simp at hc
  have hp3:=hfo.2
  simp-implicitDefEqProofs[]
  refine(sub 2 (by omega) q _ (by omega) (by omega)).mono ?_
  rintro r h ⟨v,q2,rfl,rfl,⟨e,rfl,he⟩,hq3,hq4⟩
  have hec:=e.cs_eq
  simp-implicitDefEqProofs[aa,hec]
  have hxl:(exR es).length=es.length:=by simp[exR]
  refine⟨by rw[hxl];omega,⟨es++[e],q2⟩,⟨by simp;omega,by rw[fZ];simp[bC];omega,by simp only;omega,by simp;omega⟩,by simp;omega,?_⟩
  rw[hexn,nO _ (by simp),lG _ (by simp),hec]
  refine bT [0,1,2,3,4,5,6,8] (by simp) (by decide) (by decide) (dB rfl (bU _ _ _) (cU (by simp[below]) (by simp[ren,bL]) (aG rfl hRp (aG rfl (by simp[below]) (aG rfl (by simp[below]) (aG rfl (by simp[below]) (cU (by simp[below]) (by simp[ren,bL]) (aG rfl (fun x hx=>by
   rcases RJ.1 hx with h|h
   ·exact dL _ x h
   ·rw[RM.1 h];simp) br)))))))) ?_
  simp[below,ren,w1 (i:=es.length) (by omega)]
 ·simp at hc
  have hp3:=hfo.2
  have hlen:es.length=fd.params.length:=by omega
  have hxl:(exR es).length=es.length:=by simp[exR]
  have hkids:∀(h:List AO),h[7]?=some (bx 4 (exR es))→View h (slE 7 4 (exR es)) (exL es):=fun h hh=>iC hh
  simp-implicitDefEqProofs[]
  refine(aZ G b hb hl q (by omega) 2 _).mono ?_
  rintro r h ⟨k3,rfl,rfl,_⟩
  simp-implicitDefEqProofs[aa]
  refine bf (fun hc2=>?_) (fun hc2=>?_)
  ·simp-implicitDefEqProofs[]
   have hcc:(Ex.mk 13 0 fd.name es).cs=[.int .i64 13,.int .i64 0,.str fd.name,exL es]:=Ex.cs_eq _
   exact finE ⟨13,0,fd.name,es⟩ (q+1) _ _ (.agg (by rw[hcc];exact .keep (by simp) (.keep (by simp) (.keep (by simp) (.one (hkids _ rfl) .nil)))) .nil) (by simp[Ex.sz];omega) (by omega) (by omega)
  ·simp-implicitDefEqProofs[]
   refine(Aq G hb hl (p:=q+1) (by omega) [3,4,8,10] (by simp) (by simp) _).mono ?_
   rintro r h ⟨n,_,rfl,rfl⟩
   simp-implicitDefEqProofs[aa]
   refine(sub 2 (by omega) (q+1+1) _ (by omega) (by omega)).mono ?_
   rintro r h ⟨v,q2,rfl,rfl,⟨e,rfl,he⟩,hq3,hq4⟩
   have hec:=e.cs_eq
   simp-implicitDefEqProofs[aa,hec]
   have hcc:(Ex.mk 13 0 fd.name es).cs=[.int .i64 13,.int .i64 0,.str fd.name,exL es]:=Ex.cs_eq _
   exact finE ⟨n,0,[],[⟨13,0,fd.name,es⟩,e]⟩ q2 _ _ (.agg (.keep (by simp) (.keep (by simp) (.keep (by simp) (.one (sE (p0:=(Ex.mk 13 0 fd.name es).cs) (p1:=e.cs) rfl (Ex.cs_len _) (Ex.cs_len _) (fun j q a e1 e2=>by
    rw[hcc] at e1
    match j,e1,e2 with
    |0,e1,e2=>cases e1;cases e2;exact .p _
    |1,e1,e2=>cases e1;cases e2;exact .p _
    |2,e1,e2=>cases e1;cases e2;exact .p _
    |3,e1,e2=>cases e1;cases e2;exact hkids _ rfl
    |j+4,e1,e2=>simp at e1) (fun j q a e1 e2=>by
    rw[hec] at e1
    match j,e1,e2 with
    |0,e1,e2=>cases e1;cases e2;exact .p _
    |1,e1,e2=>cases e1;cases e2;exact .p _
    |2,e1,e2=>cases e1;cases e2;exact .p _
    |3,e1,e2=>cases e1;cases e2;exact .p _
    |j+4,e1,e2=>simp at e1)) .nil)))) .nil) (by simp[Ex.sz,bC];omega) (by omega) (by omega)
end
section
variable (G:aM)
def QE(p:Nat)(vs:List (List UInt8))(next left:Int)(v:AV)(q:Nat)(vs':List (List UInt8))(next' left':Int):Prop:=(∃e:Ex,v= .agg (e.cs.map .p)∧e.sz≤410)∧p≤q∧q≤p+401∧vs'=vs∧next'=next∧left'=left
theorem Ja{b:List Int}(hb:Byt b)(hl:b.length≤2000){p:Nat}(hp:p+2000≤1000000000000)(fns:List Fd)(hf:wx fns)(vs:List (List UInt8))(hv:tS vs)(next left:Int):
 AC Tryz.prog G fI [.ptr 1 5 0 0] (HG b p fns vs next left) (PG b fns (QE p vs next left) []):=by
 refine mc G (AC.go th ?_)
 simp-implicitDefEqProofs[ml,HG,du]
 refine(dW G (mL G hb hl (p:=p) (by omega) fns hf vs hv next left (d:=2) (by omega)) _ (by simp[below])).mono ?_
 rintro r h ⟨v,q,vs',n',l',rfl,rfl,⟨e,rfl,he⟩,h1,h2,rfl,rfl,rfl⟩
 have hec:=e.cs_eq
 simp-implicitDefEqProofs[aa,du,hec]
 refine(Aq G hb hl (p:=q) (by omega) [16,16,16,8,17,0] (by simp) (by simp) _).mono ?_
 rintro r h ⟨n,_,rfl,rfl⟩
 simp-implicitDefEqProofs[aa]
 have hn:(Ex.mk 1 n [] []).cs=[.int .i64 1,.int .i64 n,.str [],.lst 4 []]:=Ex.cs_eq _
 refine⟨_,[_,_],q+1,_,.agg ((Ex.mk 7 0 [] [e,⟨1,n,[],[]⟩]).cs.map .p),vs',n',l',rfl,rfl,.keep (by simp) .nil,.agg (.keep (by simp) (.keep (by simp) (.keep (by simp) (.one (sE (p0:=e.cs) (p1:=(Ex.mk 1 n [] []).cs) rfl (Ex.cs_len _) (Ex.cs_len _) (fun j q a e1 e2=>?_) (fun j q a e1 e2=>?_)) .nil)))) .nil,⟨_,rfl,by simp[Ex.sz,bC];omega⟩,by omega,by omega,rfl,rfl,rfl⟩
 ·rw[hec] at e1
  match j,e1,e2 with
  |0,e1,e2=>cases e1;cases e2;exact .p _
  |1,e1,e2=>cases e1;cases e2;exact .p _
  |2,e1,e2=>cases e1;cases e2;exact .p _
  |3,e1,e2=>cases e1;cases e2;exact .p _
  |j+4,e1,e2=>simp at e1
 ·rw[hn] at e1
  match j,e1,e2 with
  |0,e1,e2=>cases e1;cases e2;exact .p _
  |1,e1,e2=>cases e1;cases e2;exact .p _
  |2,e1,e2=>cases e1;cases e2;exact .p _
  |3,e1,e2=>cases e1;cases e2;exact View.nils 4
  |j+4,e1,e2=>simp at e1
def OS(p:Nat)(e:Ex)(vs:List (List UInt8))(next left:Int)(v:AV)(q:Nat)(vs':List (List UInt8))(next' left':Int):Prop:=
 ∃s:List UInt8,s.length≤8∧v= .agg ((Sm.mk 1 s [e] [] []).cs.map .p)∧p≤q∧q≤p+2∧vs'=vs++[s]∧next'=next+1∧left'=left
theorem Mn{b:List Int}(hb:Byt b)(hl:b.length≤2000){p:Nat}(hp:p+2≤1000000000000)(fns:List Fd)(vs:List (List UInt8))(hv:tS vs){next:Int}(hn: -1≤next)(hn2:next≤1000000000000)(left:Int)(e:Ex):
 AC Tryz.prog G dE [.ptr 1 5 0 0,.agg (e.cs.map .p)] (HG b p fns vs next left) (PG b fns (OS p e vs next left) []):=by
 refine mc G (AC.go nk ?_)
 have hec:=e.cs_eq
 simp-implicitDefEqProofs[jk,HG,du,hec]
 refine(dW G (Ev G hb hl hp fns vs hv hn hn2 left) _ (by simp[below])).mono ?_
 rintro r h ⟨v,q,vs',n',l',rfl,rfl,⟨s,rfl,hs⟩,h1,h2,rfl,rfl,rfl⟩
 have hsl:aC vs'= .lst 1 (vs'.map fun w=>[.str w]):=rfl
 simp-implicitDefEqProofs[aa,du,hsl]
 have hv1:=hv.1
 have hrow:List.take vs'.length (List.map ((fun x=>List.map AV.p x)∘fun w=>[PV.str w]) vs')++[[AV.p (PV.str s)]]=(vs'++[s]).map fun w=>[AV.p (.str w)]:=by
  rw[RG (by simp)];simp[Function.comp_def]
 have hlen:vs'.length+1=(vs'++[s]).length:=by simp
 refine⟨by omega,by omega,?_⟩
 rw[hrow,hlen]
 have hsm:(Sm.mk 1 s [e] [] []).cs=[.int .i64 1,.str s,exL [e],smL [],smL []]:=Sm.cs_eq _
 refine⟨_,_,q,_,.agg ((Sm.mk 1 s [e] [] []).cs.map .p),vs'++[s],next+1,l',rfl,rfl,.one (fu rfl) .nil,.agg ?_ .nil,⟨s,hs,rfl,h1,h2,rfl,rfl,rfl⟩⟩
 rw[hsm]
 refine .keep (by simp) (.keep (by simp) (.one ?_ (.one (View.nils 5) (.one (View.nils 5) .nil))))
 exact fj (l:=[e]) (by rw[Sq,hec];rfl)
theorem Ng{b:List Int}(hb:Byt b)(hl:b.length≤2000){p:Nat}(hp:p+2≤1000000000000)(fns:List Fd)(vs:List (List UInt8))(hv:tS vs){next:Int}(hn: -1≤next)(hn2:next≤1000000000000)(left:Int)(N:Int):
 AC Tryz.prog G dE [.ptr 1 5 0 0,.agg [.p (.int .i64 1),.p (.int .i64 N),.p (.str []),.nils]] (HG b p fns vs next left) (PG b fns (OS p ⟨1,N,[],[]⟩ vs next left) []):=by
 refine mc G (AC.go nk ?_)
 simp-implicitDefEqProofs[jk,HG,du]
 refine(dW G (Ev G hb hl hp fns vs hv hn hn2 left) _ (by simp[below])).mono ?_
 rintro r h ⟨v,q,vs',n',l',rfl,rfl,⟨s,rfl,hs⟩,h1,h2,rfl,rfl,rfl⟩
 have hsl:aC vs'= .lst 1 (vs'.map fun w=>[.str w]):=rfl
 simp-implicitDefEqProofs[aa,du,hsl]
 have hv1:=hv.1
 have hrow:List.take vs'.length (List.map ((fun x=>List.map AV.p x)∘fun w=>[PV.str w]) vs')++[[AV.p (PV.str s)]]=(vs'++[s]).map fun w=>[AV.p (.str w)]:=by
  rw[RG (by simp)];simp[Function.comp_def]
 have hlen:vs'.length+1=(vs'++[s]).length:=by simp
 refine⟨by omega,by omega,?_⟩
 rw[hrow,hlen]
 have hsm:(Sm.mk 1 s [⟨1,N,[],[]⟩] [] []).cs=[.int .i64 1,.str s,exL [⟨1,N,[],[]⟩],smL [],smL []]:=Sm.cs_eq _
 refine⟨_,_,q,_,.agg ((Sm.mk 1 s [⟨1,N,[],[]⟩] [] []).cs.map .p),vs'++[s],next+1,l',rfl,rfl,.one (fu rfl) .nil,.agg ?_ .nil,⟨s,hs,rfl,h1,h2,rfl,rfl,rfl⟩⟩
 rw[hsm]
 refine .keep (by simp) (.keep (by simp) (.one ?_ (.one (View.nils 5) (.one (View.nils 5) .nil))))
 refine View.sl _ _ _ _ [(Ex.mk 1 N [] []).cs] rfl (by simp) (by simp) fun i j e q e' a a1 a2 a3 a4=>?_
 rw[Su] at a3
 match i,a1,a3 with
 |0,a1,a3=>
  cases a1;cases a3
  have hn:(Ex.mk 1 N [] []).cs=[.int .i64 1,.int .i64 N,.str [],.lst 4 []]:=Ex.cs_eq _
  rw[hn] at a2
  match j,a2,a4 with
  |0,e1,e2=>cases e1;cases e2;exact .p _
  |1,e1,e2=>cases e1;cases e2;exact .p _
  |2,e1,e2=>cases e1;cases e2;exact .p _
  |3,e1,e2=>cases e1;cases e2;exact View.nils 4
  |j+4,e1,e2=>simp at e1
 |i+1,a1,a3=>simp at a1
end
section
def Pd(d:Nat):Nat:=5000*20^d
structure Bd (n:Nat) (p:Nat) (vs:List (List UInt8)) (next left:Int):Prop where
 p:p+n≤100000000000
 v:vs.length+n/50≤900000
 w:∀s∈vs,s.length≤8
 n0: -1≤next
 n1:next+n≤100000000000
 l0: -100000000000≤left-n
 l1:left≤100000000000
theorem Bd.shrt{n p:Nat}{vs:List (List UInt8)}{next left:Int}(h:Bd n p vs next left):tS vs:=⟨by have:=h.v;omega,h.w⟩
def Mv(n p q:Nat)(next next' left left':Int):Prop:=p≤q∧q≤p+n∧next≤next'∧next'≤next+n∧left-n≤left'∧left'≤left
def LR(b:List Int)(fns:List Fd)(vs:List (List UInt8))(p n:Nat)(next left:Int)(rest:List AO)(x:ARes)(h:List AO):Prop:=
 ∃(out:List Sm) (q:Nat) (next' left':Int),x= .ret (.sl (3+rest.length) 5 0 out.length)∧h=rdO b q:: .row 5 [du fns vs next' left']::bx 3 (aN fns)::rest++[.row 5 (smR out)]∧aq out≤n∧out.length≤100∧Mv n p q next next' left left'
def Gz(G:aM)(b:List Int)(fns:List Fd)(d:Nat):Prop:=∀{p:Nat} {vs:List (List UInt8)} {next left:Int},Bd (Pd d) p vs next left→AC Tryz.prog G bj [.ptr 1 5 0 0,.p (.int .i64 d)] (HG b p fns vs next left) (LR b fns vs p (Pd d) next left [])
variable (G:aM)
theorem sV{b:List Int}{fns:List Fd}{d p:Nat}{vs:List (List UInt8)}{next left:Int}(H:AC Tryz.prog G bj [.ptr 1 5 0 0,.p (.int .i64 d)] (HG b p fns vs next left) (LR b fns vs p (Pd d) next left []))(rest:List AO):
 AC Tryz.prog G bj [.ptr 1 5 0 0,.p (.int .i64 d)] (rdO b p:: .row 5 [du fns vs next left]::bx 3 (aN fns)::rest) (LR b fns vs p (Pd d) next left rest):=by
 have H2:AC Tryz.prog G bj [.ptr 1 5 0 0,.p (.int .i64 d)] (HG b p fns vs next left) fun x h'=>∃h1 es,h'=h1++[.row 5 es]∧h1.length=(HG b p fns vs next left).length∧x= .ret (.sl (HG b p fns vs next left).length 5 0 es.length)∧(∀e∈es,aj 0 e)∧
  (∃(out:List Sm) (q:Nat) (next' left':Int),es=smR out∧h1=HG b q fns vs next' left'∧aq out≤Pd d∧out.length≤100∧Mv (Pd d) p q next next' left left'):=by
  refine H.mono ?_
  rintro x h ⟨out,q,n',l',rfl,rfl,h1,h2,h3⟩
  exact⟨HG b q fns vs n' l',smR out,rfl,rfl,by simp[HG,dd],aQ out,out,q,n',l',rfl,rfl,h1,h2,h3⟩
 refine(AC.pre1 (R:=fun h1 es=>∃(out:List Sm) (q:Nat) (next' left':Int),es=smR out∧h1=HG b q fns vs next' left'∧aq out≤Pd d∧out.length≤100∧Mv (Pd d) p q next next' left left') H2 rest (by simp[below,HG]) (Ky _ _ _ _ _ _) ?_).mono ?_
 ·rintro h1 es ⟨out,q,n',l',rfl,rfl,_⟩
  exact Ky _ _ _ _ _ _
 ·rintro x h ⟨h1,es,rfl,_,rfl,_,out,q,n',l',rfl,rfl,r⟩
  exact⟨out,q,n',l',by simp[HG,dd],rfl,r⟩
def K_spec_l3Gen_loop:AK:= .seq (.reg [oJ 4 (.mov (.c .nils))]) (.seq (.reg [oM 9 0,oM 10 0,oN 11 10,oF 12 0 11,oL 13 12,oJ 14 (.bsl 1 [(.p (.int .i64 0))] 5 [(0,1,(.c (.p (.int .i64 2)))),(1,1,(.c (.p (.int .i64 3)))),(2,1,(.c (.p (.int .i64 1)))),(3,1,(.c (.p (.int .i64 0)))),(4,1,(.c (.p (.int .i64 5))))]),oJ 15 (.call al [(.t 13),(.t 14)]),oJ 16 (.bld [(.p (.int .i64 0)),(.p (.int .i64 0)),(.p (.str [])),.nils] [(0,1,(.c (.p (.int .i64 1)))),(1,1,(.t 15))]),oJ 17 (.call dE [(.t 9),(.t 16)]),oJ 5 (.alloc [(.p (.int .i64 0)),(.p (.str [])),.nils,.nils,.nils]),⟨none,none,.st 5 (.t 5) (.t 17)⟩]) (.seq (.reg [oF 18 1 5,oL 19 18,oJ 20 (.bld [(.p (.int .i64 0)),(.p (.int .i64 0)),(.p (.str [])),.nils] [(0,1,(.c (.p (.int .i64 2)))),(2,1,(.t 19))]),oJ 6 (.alloc [(.p (.int .i64 0)),(.p (.int .i64 0)),(.p (.str [])),.nils]),⟨none,none,.st 4 (.t 6) (.t 20)⟩]) (.seq (.reg [oM 21 0,oM 22 1,oJ 23 (.bin .sub (.t 22) (.c (.p (.int .i64 1)))),oJ 24 (.call bj [(.t 21),(.t 23)]),oM 7 24]) (.seq (.reg [oF 25 1 5,oL 26 25,oJ 27 (.ld (some 4) (.t 6)),oJ 28 (.bld [(.p (.int .i64 0)),(.p (.int .i64 0)),(.p (.str [])),.nils] [(0,1,(.c (.p (.int .i64 1)))),(1,1,(.c (.p (.int .i64 1))))]),oJ 29 (.bsl 4 [(.p (.int .i64 0)),(.p (.int .i64 0)),(.p (.str [])),.nils] 2 [(0,4,(.t 27)),(4,4,(.t 28))]),oJ 30 (.bld [(.p (.int .i64 0)),(.p (.int .i64 0)),(.p (.str [])),.nils] [(0,1,(.c (.p (.int .i64 4)))),(3,1,(.t 29))]),oJ 31 (.bsl 4 [(.p (.int .i64 0)),(.p (.int .i64 0)),(.p (.str [])),.nils] 1 [(0,4,(.t 30))]),oJ 32 (.bld [(.p (.int .i64 0)),(.p (.str [])),.nils,.nils,.nils] [(0,1,(.c (.p (.int .i64 2)))),(1,1,(.t 26)),(2,1,(.t 31))]),oJ 8 (.alloc [(.p (.int .i64 0)),(.p (.str [])),.nils,.nils,.nils]),⟨none,none,.st 5 (.t 8) (.t 32)⟩]) (.cut (.reg [oM 33 0,oM 34 0,oN 35 34,oF 36 4 35,oL 37 36,oJ 38 (.bin .sub (.t 37) (.c (.p (.int .i64 2)))),oN 39 33,oF 40 4 39,oS 40 38]) (.seq (.reg [oM 44 7,oJ 41 (.ld (some 5) (.t 5)),oJ 42 (.ld (some 4) (.t 6)),oJ 43 (.bslP 4 [(.p (.int .i64 0)),(.p (.int .i64 0)),(.p (.str [])),.nils] 1 [(0,4,(.t 42))]),oJ 45 (.ld (some 5) (.t 8)),oJ 46 (.bslP 5 [(.p (.int .i64 0)),(.p (.str [])),.nils,.nils,.nils] 1 [(0,5,(.t 45))]),oJ 47 (.app 5 96 (.t 44) (.t 46)),⟨none,none,.chk (some 5) 5 41⟩,⟨none,none,.chk (some 4) 6 42⟩,oJ 48 (.bld [(.p (.int .i64 0)),(.p (.str [])),.nils,.nils,.nils] [(0,1,(.c (.p (.int .i64 6)))),(2,1,(.t 43)),(3,1,(.t 47))]),oJ 49 (.bsl 5 [(.p (.int .i64 0)),(.p (.str [])),.nils,.nils,.nils] 2 [(0,5,(.t 41)),(5,5,(.t 48))]),oM 4 49]) (.ret)))))))
theorem tk:K_spec_l3Gen_loop.whole=F_spec_l3Gen_loop.ak:=rfl
def Rk(n p:Nat)(vs:List (List UInt8))(next left:Int)(v:AV)(q:Nat)(vs':List (List UInt8))(next' left':Int):Prop:=
 ∃(out:List Sm) (s:List UInt8),v= .p (smL out)∧aq out≤n∧1≤out.length∧out.length≤2∧s.length≤8∧vs'=vs++[s]∧Mv n p q next next' left left'
theorem IQ{b:List Int}(hb:Byt b)(hl:b.length≤2000)(fns:List Fd){d:Nat}(hd:d≤10)(hblk:Gz G b fns d){p:Nat}{vs:List (List UInt8)}{next left:Int}(hB:Bd (Pd d+60) p vs next left):
 AC Tryz.prog G iJ [.ptr 1 5 0 0,.p (.int .i64 ((d:Int)+1))] (HG b p fns vs next left) (PG b fns (Rk (Pd d+60) p vs next left) []):=by
 have hp:=hB.p
 have hv:=hB.v
 have hn0:=hB.n0
 have hn1:=hB.n1
 have hl0:=hB.l0
 have hl1:=hB.l1
 refine mc G (AC.goK sB tk ?_)
 simp-implicitDefEqProofs[K_spec_l3Gen_loop,F_spec_l3Gen_loop,HG,du]
 refine(kq G hb hl (p:=p) (by omega) [2,3,1,0,5] (k:=3) (by simp) (by simp) (by omega) rfl rfl).mono ?_
 rintro r h ⟨N,hN,rfl,rfl⟩
 have hN5:0≤N∧N≤5:=by simp at hN;omega
 simp-implicitDefEqProofs[aa]
 refine(dW G (Ng G hb hl (p:=p+1) (by omega) fns vs hB.shrt hn0 (by omega) left N) _ (by simp[below])).mono ?_
 rintro r h ⟨v,q,vs',n',l',rfl,rfl,s,hs,rfl,h1,h2,rfl,rfl,rfl⟩
 have hsm:(Sm.mk 1 s [⟨1,N,[],[]⟩] [] []).cs=[.int .i64 1,.str s,exL [⟨1,N,[],[]⟩],smL [],smL []]:=Sm.cs_eq _
 have hwd:IntKind.i64.wrap ((d:Int)+1-1)=d:=by rw[af (by omega) (by omega)];omega
 have hw2:IntKind.i64.wrap (d:Int)=d:=af (by omega) (by omega)
 simp-implicitDefEqProofs[aa,du,hsm,hw2]
 have hB2:Bd (Pd d) q (vs++[s]) (next+1) l':=⟨by omega,by simp;omega,fun w hw=>by
  rcases RJ.1 hw with h|h
  ·exact hB.w w h
  ·rw[RM.1 h];exact hs,by omega,by omega,by omega,by omega⟩
 refine(sV G (hblk hB2) _).mono ?_
 rintro r h ⟨out,q2,n2,l2,rfl,rfl,z1,z2,m1,m2,m3,m4,m5,m6⟩
 have hwl:IntKind.i64.wrap (l2-2)=l2-2:=af (by omega) (by omega)
 simp-implicitDefEqProofs[aa,du,hwl]
 have hHb:∀(l:Int),okO 7 (.row 5 [[.ptr 0 2 0 0,slE 2 3 (aN fns),.p (aC (vs++[s])),.p (.int .i64 n2),.p (.int .i64 l)]]):=fun l e he=>by
  rw[RM.1 he];exact⟨by simp[below],pV (by omega),by simp,by simp,by simp,trivial⟩
 refine lp (am 50 [(0,.ptr 1 5 0 0),(5,.ptr 3 5 0 0),(6,.ptr 4 4 0 0),(7,.sl 5 5 0 out.length),(8,.ptr 6 5 0 0)])
  [rdO b q2,.row 5 [[.ptr 0 2 0 0,slE 2 3 (aN fns),.p (aC (vs++[s])),.p (.int .i64 n2),.p (.int .i64 (l2-2))]],bx 3 (aN fns),
   .row 5 [[.p (.int .i64 1),.p (.str s),.p (exL [Ex.mk 1 N [] []]),.p (smL []),.p (smL [])]],.row 4 [[.p (.int .i64 2),.p (.int .i64 0),.p (.str s),.p (exL [])]],.row 5 (smR out),
   .row 5 [[.p (.int .i64 2),.p (.str s),.p (exL [Ex.mk 4 0 [] [⟨2,0,s,[]⟩,⟨1,1,[],[]⟩]]),.p (smL []),.p (smL [])]]] ?_ ?_
 ·simp-implicitDefEqProofs[hwl]
  refine Wk.trans (bT (l1:=[(0,.ptr 1 5 0 0),(5,.ptr 3 5 0 0),(6,.ptr 4 4 0 0),(7,.sl 5 5 0 out.length),(8,.ptr 6 5 0 0)])
   (h1:=[rdO b q2,.row 5 [[.ptr 0 2 0 0,slE 2 3 (aN fns),.p (aC (vs++[s])),.p (.int .i64 n2),.p (.int .i64 (l2-2))]],bx 3 (aN fns),
   .row 5 [[.p (.int .i64 1),.p (.str s),.p (exL [Ex.mk 1 N [] []]),.p (smL []),.p (smL [])]],.row 4 [[.p (.int .i64 2),.p (.int .i64 0),.p (.str s),.nils]],.row 5 (smR out),
   .row 5 [[.p (.int .i64 2),.p (.str s),.sl 8 4 0 1,.nils,.nils]],.row 4 [[.p (.int .i64 2),.p (.int .i64 0),.p (.str s),.nils],[.p (.int .i64 1),.p (.int .i64 1),.p (.str []),.nils]],.row 4 [[.p (.int .i64 4),.p (.int .i64 0),.p (.str []),.sl 7 4 0 2]]])
   [0,1,2,4,5,6,9,7,8] (by simp) (by decide) (by decide) (dB rfl (bU _ _ _) (cU (by simp[below]) (by simp[ren,bL]) (dB rfl (mh _ _) (aG rfl (by simp[below]) (aG rfl (by simp[below]) (aG rfl (aQ out) (cU (by simp[below]) (by simp[ren,bL]) (aG rfl (by simp[below]) (cU (by simp[below]) (by simp[ren,bL]) br))))))))) (by simp[below,ren]))
   (fM 7 (by omega) (by simp) rfl (.same (bU _ _ _) (.same (hHb _) (.same (mh _ _) (.same (by simp[okO,below]) (.one (.keep (by simp) (.keep (by simp) (.keep (by simp) (.one (View.nils 4) .nil)))) (.same (bR (aQ out)) (.one (.keep (by simp) (.keep (by simp) (.one ?_ (.one (View.nils 5) (.one (View.nils 5) .nil))))) (.nil _)))))))) ?_)
  ·exact ca (p0:=(Ex.mk 4 0 [] [⟨2,0,s,[]⟩,⟨1,1,[],[]⟩]).cs) rfl (Ex.cs_len _) (iK (sE (p0:=(Ex.mk 2 0 s []).cs) (p1:=(Ex.mk 1 1 [] []).cs) rfl (Ex.cs_len _) (Ex.cs_len _) (iK (View.nils 4)) (iK (View.nils 4))))
  ·exact⟨.keep (by simp[below]) .nil,.keep (by simp[below]) .nil,.keep (by simp[below]) .nil,.keep (by simp[below]) .nil,.keep (by simp[below]) .nil,trivial⟩
 ·simp-implicitDefEqProofs[]
  have hless:(Sm.mk 2 s [Ex.mk 4 0 [] [⟨2,0,s,[]⟩,⟨1,1,[],[]⟩]] [] []).cs=[.int .i64 2,.str s,exL [Ex.mk 4 0 [] [⟨2,0,s,[]⟩,⟨1,1,[],[]⟩]],smL [],smL []]:=Sm.cs_eq _
  have hrow:List.take out.length (smR out)++[[AV.p (.int .i64 2),.p (.str s),.p (exL [Ex.mk 4 0 [] [⟨2,0,s,[]⟩,⟨1,1,[],[]⟩]]),.p (smL []),.p (smL [])]]=smR (out++[Sm.mk 2 s [Ex.mk 4 0 [] [⟨2,0,s,[]⟩,⟨1,1,[],[]⟩]] [] []]):=by
   rw[RG (by rw[dd];exact RN _),nV];exact congrArg (smR out++ ·) (by rw[smR,Sq,hless];rfl)
  have hlen:out.length+1=(out++[Sm.mk 2 s [Ex.mk 4 0 [] [⟨2,0,s,[]⟩,⟨1,1,[],[]⟩]] [] []]).length:=by simp
  refine⟨⟨by rw[dd];exact RN _,by omega,by omega⟩,?_⟩
  rw[hrow,hlen]
  refine⟨_,_,q2,_,.p (smL [Sm.mk 1 s [⟨1,N,[],[]⟩] [] [],Sm.mk 6 [] [⟨2,0,s,[]⟩] (out++[Sm.mk 2 s [Ex.mk 4 0 [] [⟨2,0,s,[]⟩,⟨1,1,[],[]⟩]] [] []]) []]),vs++[s],n2,l2-2,rfl,rfl,.keep (by simp) .nil,
   .one (sE (p0:=(Sm.mk 1 s [⟨1,N,[],[]⟩] [] []).cs) (p1:=(Sm.mk 6 [] [⟨2,0,s,[]⟩] (out++[Sm.mk 2 s [Ex.mk 4 0 [] [⟨2,0,s,[]⟩,⟨1,1,[],[]⟩]] [] []]) []).cs) rfl (Sm.cs_len _) (Sm.cs_len _)
    (cZ (.p _) (.p _) (.p _)) (cZ ?_ (fm rfl) (View.nils 5))) .nil,_,s,rfl,?_,by simp,by simp,hs,rfl,?_⟩
  ·have h2:(Ex.mk 2 0 s []).cs=[.int .i64 2,.int .i64 0,.str s,exL []]:=Ex.cs_eq _
   have he:exL [Ex.mk 2 0 s []]= .lst 4 [[.int .i64 2,.int .i64 0,.str s,exL []]]:=by rw[exL,Sq,h2]
   rw[he]
   exact .p _
  ·simp[aq,bO,Sm.sz,Ex.sz,bC]
   omega
  ·exact⟨by omega,by omega,by omega,by omega,by omega,by omega⟩
end
section
variable (G:aM)
def OD(n p:Nat)(vs:List (List UInt8))(next left:Int)(v:AV)(q:Nat)(vs':List (List UInt8))(next' left':Int):Prop:=
 ∃out:List Sm,v= .p (smL out)∧aq out≤n∧1≤out.length∧out.length≤2∧(vs'=vs∨∃s:List UInt8,s.length≤8∧vs'=vs++[s])∧Mv n p q next next' left left'
theorem NE{b:List Int}(hb:Byt b)(hl:b.length≤2000)(fns:List Fd)(hf:wx fns){d:Nat}(hd:d≤10)(hblk:1≤d→Gz G b fns d){p:Nat}{vs:List (List UInt8)}{next left:Int}(hB:Bd (2*Pd d+3000) p vs next left):
 AC Tryz.prog G iO [.ptr 1 5 0 0,.p (.int .i64 ((d:Int)+1))] (HG b p fns vs next left) (PG b fns (OD (2*Pd d+3000) p vs next left) []):=by
 have hp:=hB.p
 have hv:=hB.v
 have hn0:=hB.n0
 have hn1:=hB.n1
 have hl0:=hB.l0
 have hl1:=hB.l1
 refine mc G (AC.go ss ?_)
 have hwl:IntKind.i64.wrap (left-1)=left-1:=af (by omega) (by omega)
 have hsl:aC vs= .lst 1 (vs.map fun w=>[.str w]):=rfl
 simp-implicitDefEqProofs[mg,HG,du,hwl]
 refine(aZ G b hb hl p (by omega) 13 _).mono ?_
 rintro r h ⟨k,rfl,rfl,hk⟩
 have eZ:∀(m:Sm) (q:Nat) (rest:List AO) (v:AV) (vc:AV) (vs':List (List UInt8)) (next' left':Int),Fzs (.dead:: .dead:: .dead::rest) 3 [vc] [.p (aC vs')]→Fzs (.dead:: .dead:: .dead::rest) 3 [v] [.p (smL [m])]→m.sz≤2*Pd d+3000→(vs'=vs∨∃s:List UInt8,s.length≤8∧vs'=vs++[s])→Mv (2*Pd d+3000) p q next next' left left'→
  DG b fns (OD (2*Pd d+3000) p vs next left) (.ret v) (rdO b q:: .row 5 [[.ptr 0 2 0 0,slE 2 3 (aN fns),vc,.p (.int .i64 next'),.p (.int .i64 left')]]::bx 3 (aN fns)::rest):=fun m q rest v vc vs' next' left' h1 h2 h3 h4 h5=>
  ⟨_,rest,q,_,_,vs',next',left',rfl,rfl,h1,h2,[m],rfl,by simp[aq];omega,by simp,by simp,h4,h5⟩
 by_cases hc:k<3∧vs≠[]
 ·obtain⟨hc1,hne⟩:=hc
  have hpos:0<vs.length:=SI.2 hne
  have hc1':(k:Int)<3:=by omega
  have hv1:=hB.v
  simp-implicitDefEqProofs[aa,hsl,hc1,hc1',hpos]
  rw[←hsl]
  refine(EB G hb hl (p:=p+1) (by omega) vs hne (by omega) _).mono ?_
  rintro r h ⟨w,hw,rfl,rfl⟩
  have hw8:=hB.w w hw
  simp-implicitDefEqProofs[aa]
  refine(dW G (mL G hb hl (p:=p+1+1) (by omega) fns hf vs hB.shrt next (left-1) (d:=3) (by omega)) _ (by simp[below])).mono ?_
  rintro r h ⟨v,q,vs',n',l',rfl,rfl,⟨e,rfl,he⟩,h1,h2,rfl,rfl,rfl⟩
  have hec:=e.cs_eq
  simp-implicitDefEqProofs[aa,du,hec]
  exact eZ ⟨2,w,[e],[],[]⟩ q _ _ _ vs' n' (left-1) (.keep (by simp) .nil) (.one (ca (p0:=(Sm.mk 2 w [e] [] []).cs) rfl (Sm.cs_len _) (cZ (fj (l:=[e]) (by rw[Sq,hec];rfl)) (View.nils 5) (View.nils 5))) .nil) (by simp[Sm.sz,bC,aq];omega) (.inl rfl) ⟨by omega,by omega,by omega,by omega,by omega,by omega⟩
 have hcc:(k<3∧0<vs.length)=False:=by
  simp only[eq_iff_iff,iff_false]
  exact fun⟨a,c⟩=>hc ⟨a,SI.1 c⟩
 have hvz:(k:Int)<3→vs.length=0:=fun h=>by
  by_cases e:vs=[]
  ·rw[e];rfl
  ·exact absurd ⟨by omega,e⟩ hc
 have hvx:=hB.shrt
 have hvv:=hB.v
 by_cases k5:(k:Int)<5
 ·by_cases k3:(k:Int)<3
  ·have hv0:=hvz k3
   simp-implicitDefEqProofs[aa,hsl,k3,hv0,k5]
   rw[←hsl]
   refine(dW G (mL G hb hl (p:=p+1) (by omega) fns hf vs hvx next (left-1) (d:=3) (by omega)) _ (by simp[below])).mono ?_
   rintro r h ⟨v,q,vs',n',l',rfl,rfl,⟨e,rfl,he⟩,h1,h2,rfl,rfl,rfl⟩
   have hec:=e.cs_eq
   have hL:=Mn G hb hl (p:=q) (by omega) fns vs' hvx hn0 (by omega) (left-1) e
   rw[hec] at hL
   simp-implicitDefEqProofs[aa,du,hec]
   refine(dW G hL _ (by simp[below])).mono ?_
   rintro r h ⟨v,q2,vs2,n2,l2,rfl,rfl,s,hs,rfl,h3,h4,rfl,rfl,rfl⟩
   have hsm:(Sm.mk 1 s [e] [] []).cs=[.int .i64 1,.str s,exL [e],smL [],smL []]:=Sm.cs_eq _
   simp-implicitDefEqProofs[aa,du,hsm]
   exact eZ ⟨1,s,[e],[],[]⟩ q2 _ _ _ (vs'++[s]) (n'+1) (left-1) (.keep (by simp) .nil) (.one (ca (p0:=(Sm.mk 1 s [e] [] []).cs) rfl (Sm.cs_len _) (cZ (.p _) (.p _) (.p _))) .nil) (by simp[Sm.sz,bC,aq];omega) (.inr ⟨s,hs,rfl⟩) ⟨by omega,by omega,by omega,by omega,by omega,by omega⟩
  ·simp-implicitDefEqProofs[aa,hsl,k3,k5]
   rw[←hsl]
   refine(dW G (mL G hb hl (p:=p+1) (by omega) fns hf vs hvx next (left-1) (d:=3) (by omega)) _ (by simp[below])).mono ?_
   rintro r h ⟨v,q,vs',n',l',rfl,rfl,⟨e,rfl,he⟩,h1,h2,rfl,rfl,rfl⟩
   have hec:=e.cs_eq
   have hL:=Mn G hb hl (p:=q) (by omega) fns vs' hvx hn0 (by omega) (left-1) e
   rw[hec] at hL
   simp-implicitDefEqProofs[aa,du,hec]
   refine(dW G hL _ (by simp[below])).mono ?_
   rintro r h ⟨v,q2,vs2,n2,l2,rfl,rfl,s,hs,rfl,h3,h4,rfl,rfl,rfl⟩
   have hsm:(Sm.mk 1 s [e] [] []).cs=[.int .i64 1,.str s,exL [e],smL [],smL []]:=Sm.cs_eq _
   simp-implicitDefEqProofs[aa,du,hsm]
   exact eZ ⟨1,s,[e],[],[]⟩ q2 _ _ _ (vs'++[s]) (n'+1) (left-1) (.keep (by simp) .nil) (.one (ca (p0:=(Sm.mk 1 s [e] [] []).cs) rfl (Sm.cs_len _) (cZ (.p _) (.p _) (.p _))) .nil) (by simp[Sm.sz,bC,aq];omega) (.inr ⟨s,hs,rfl⟩) ⟨by omega,by omega,by omega,by omega,by omega,by omega⟩
 have k3:¬(k:Int)<3:=by omega
 by_cases k7:(k:Int)<7∨d=0
 ·by_cases k7':(k:Int)<7
  ·simp-implicitDefEqProofs[aa,k3,k5,k7']
   refine(dW G (mL G hb hl (p:=p+1) (by omega) fns hf vs hvx next (left-1) (d:=3) (by omega)) _ (by simp[below])).mono ?_
   rintro r h ⟨v,q,vs',n',l',rfl,rfl,⟨e,rfl,he⟩,h1,h2,rfl,rfl,rfl⟩
   have hec:=e.cs_eq
   simp-implicitDefEqProofs[aa,du,hec]
   exact eZ ⟨3,[],[e],[],[]⟩ q _ _ _ vs' n' (left-1) (.keep (by simp) .nil) (.one (ca (p0:=(Sm.mk 3 [] [e] [] []).cs) rfl (Sm.cs_len _) (cZ (fj (l:=[e]) (by rw[Sq,hec];rfl)) (View.nils 5) (View.nils 5))) .nil) (by simp[Sm.sz,bC,aq];omega) (.inl rfl) ⟨by omega,by omega,by omega,by omega,by omega,by omega⟩
  ·have hdl:(d:Int)+1<2:=by omega
   simp-implicitDefEqProofs[aa,k3,k5,k7',hdl]
   refine(dW G (mL G hb hl (p:=p+1) (by omega) fns hf vs hvx next (left-1) (d:=3) (by omega)) _ (by simp[below])).mono ?_
   rintro r h ⟨v,q,vs',n',l',rfl,rfl,⟨e,rfl,he⟩,h1,h2,rfl,rfl,rfl⟩
   have hec:=e.cs_eq
   simp-implicitDefEqProofs[aa,du,hec]
   exact eZ ⟨3,[],[e],[],[]⟩ q _ _ _ vs' n' (left-1) (.keep (by simp) .nil) (.one (ca (p0:=(Sm.mk 3 [] [e] [] []).cs) rfl (Sm.cs_len _) (cZ (fj (l:=[e]) (by rw[Sq,hec];rfl)) (View.nils 5) (View.nils 5))) .nil) (by simp[Sm.sz,bC,aq];omega) (.inl rfl) ⟨by omega,by omega,by omega,by omega,by omega,by omega⟩
 have k7':¬(k:Int)<7:=fun h=>k7 (.inl h)
 have hd1:1≤d:=by omega
 have hd2:¬((d:Int)+1)<2:=by omega
 have hblk2:Gz G b fns d:= @hblk hd1
 by_cases e7:(k:Int)=7
 ·simp-implicitDefEqProofs[aa,k3,k5,k7',hd2,e7]
  refine(dW G (Ja G hb hl (p:=p+1) (by omega) fns hf vs hvx next (left-1)) _ (by simp[below])).mono ?_
  rintro r h ⟨v,q,vs',n',l',rfl,rfl,⟨e,rfl,he⟩,h1,h2,rfl,rfl,rfl⟩
  have hec:=e.cs_eq
  simp-implicitDefEqProofs[aa,du,hec]
  refine(dW G (mL G hb hl (p:=q) (by omega) fns hf vs' hvx n' (left-1) (d:=2) (by omega)) _ (by simp[below])).mono ?_
  rintro r h ⟨v,q2,vs2,n2,l2,rfl,rfl,⟨e2,rfl,he2⟩,h3,h4,rfl,rfl,rfl⟩
  have hec2:=e2.cs_eq
  simp-implicitDefEqProofs[aa,du,hec2]
  exact eZ ⟨4,[],[e,e2],[],[]⟩ q2 _ _ _ vs2 n2 (left-1) (.keep (by simp) .nil) (.one (ca (p0:=(Sm.mk 4 [] [e,e2] [] []).cs) rfl (Sm.cs_len _) (cZ (fj (l:=[e,e2]) (by rw[Sb,Sq,hec,hec2];rfl)) (View.nils 5) (View.nils 5))) .nil) (by simp[Sm.sz,bC,aq];omega) (.inl rfl) ⟨by omega,by omega,by omega,by omega,by omega,by omega⟩
 by_cases e8:(k:Int)=8
 ·simp-implicitDefEqProofs[aa,k3,k5,k7',hd2,e7,e8]
  refine(dW G (Ja G hb hl (p:=p+1) (by omega) fns hf vs hvx next (left-1)) _ (by simp[below])).mono ?_
  rintro r h ⟨v,q,vs',n',l',rfl,rfl,⟨e,rfl,he⟩,h1,h2,rfl,rfl,rfl⟩
  have hec:=e.cs_eq
  simp-implicitDefEqProofs[aa,du,hec]
  exact eZ ⟨3,[],[⟨12,0,[],[e]⟩],[],[]⟩ q _ _ _ vs' n' (left-1) (.keep (by simp) .nil) (.one (ca (p0:=(Sm.mk 3 [] [⟨12,0,[],[e]⟩] [] []).cs) rfl (Sm.cs_len _) (cZ (ca (p0:=(Ex.mk 12 0 [] [e]).cs) rfl (Ex.cs_len _) (iK (fj (l:=[e]) (by rw[Sq,hec];rfl)))) (View.nils 5) (View.nils 5))) .nil) (by simp[Sm.sz,Ex.sz,bC,aq];omega) (.inl rfl) ⟨by omega,by omega,by omega,by omega,by omega,by omega⟩
 have hwd:IntKind.i64.wrap ((d:Int)+1-1)=d:=by rw[af (by omega) (by omega)];omega
 have hwd2:IntKind.i64.wrap (d:Int)=d:=af (by omega) (by omega)
 by_cases k11:(k:Int)<11
 ·simp-implicitDefEqProofs[aa,k3,k5,k7',hd2,e7,e8,k11]
  refine(dW G (mL G hb hl (p:=p+1) (by omega) fns hf vs hvx next (left-1) (d:=3) (by omega)) _ (by simp[below])).mono ?_
  rintro r h ⟨v,q,vs',n',l',rfl,rfl,⟨e,rfl,he⟩,h1,h2,rfl,rfl,rfl⟩
  have hec:=e.cs_eq
  simp-implicitDefEqProofs[aa,du,hec,hwd2]
  have hB2:Bd (Pd d) q vs' n' (left-1):=⟨by omega,by omega,hB.w,by omega,by omega,by omega,by omega⟩
  refine(sV G (hblk2 hB2) _).mono ?_
  rintro r h ⟨out,q2,n2,l2,rfl,rfl,z1,z2,m1,m2,m3,m4,m5,m6⟩
  simp-implicitDefEqProofs[aa,du]
  refine(aZ G b hb hl q2 (by omega) 2 _).mono ?_
  rintro r h ⟨k2,rfl,rfl,_⟩
  simp-implicitDefEqProofs[aa]
  refine bf (fun hq=>?_) (fun hq=>?_)
  ·simp-implicitDefEqProofs[hwd2]
   have hB3:Bd (Pd d) (q2+1) vs' n2 l2:=⟨by omega,by omega,hB.w,by omega,by omega,by omega,by omega⟩
   refine(sV G (hblk2 hB3) _).mono ?_
   rintro r h ⟨out2,q3,n3,l3,rfl,rfl,y1,y2,w1,w2,w3,w4,w5,w6⟩
   simp-implicitDefEqProofs[aa,du]
   exact eZ ⟨5,[],[e],out,out2⟩ q3 _ _ _ vs' n3 l3 (.keep (by simp) .nil) (.one (ca (p0:=(Sm.mk 5 [] [e] out out2).cs) rfl (Sm.cs_len _) (cZ (fj (l:=[e]) (by rw[Sq,hec];rfl)) (fm rfl) (fm rfl))) .nil) (by simp[Sm.sz,bC];omega) (.inl rfl) ⟨by omega,by omega,by omega,by omega,by omega,by omega⟩
  ·simp-implicitDefEqProofs[]
   exact eZ ⟨5,[],[e],out,[]⟩ (q2+1) _ _ _ vs' n2 l2 (.keep (by simp) .nil) (.one (ca (p0:=(Sm.mk 5 [] [e] out []).cs) rfl (Sm.cs_len _) (cZ (fj (l:=[e]) (by rw[Sq,hec];rfl)) (fm rfl) (View.nils 5))) .nil) (by simp[Sm.sz,bC,aq];omega) (.inl rfl) ⟨by omega,by omega,by omega,by omega,by omega,by omega⟩
 by_cases e11:(k:Int)=11
 ·simp-implicitDefEqProofs[aa,k3,k5,k7',hd2,e7,e8,k11,e11]
  refine(aZ G b hb hl (p+1) (by omega) 3 _).mono ?_
  rintro r h ⟨k2,rfl,rfl,_⟩
  simp-implicitDefEqProofs[aa]
  refine bf (fun hq=>?_) (fun hq=>?_)
  ·simp-implicitDefEqProofs[]
   refine(dW G (mL G hb hl (p:=p+1+1) (by omega) fns hf vs hvx next (left-1) (d:=2) (by omega)) _ (by simp[below])).mono ?_
   rintro r h ⟨v,q,vs',n',l',rfl,rfl,⟨e,rfl,he⟩,h1,h2,rfl,rfl,rfl⟩
   have hec:=e.cs_eq
   simp-implicitDefEqProofs[aa,du,hec]
   exact eZ ⟨7,[],[e],[],[]⟩ q _ _ _ vs' n' (left-1) (.keep (by simp) .nil) (.one (ca (p0:=(Sm.mk 7 [] [e] [] []).cs) rfl (Sm.cs_len _) (cZ (fj (l:=[e]) (by rw[Sq,hec];rfl)) (View.nils 5) (View.nils 5))) .nil) (by simp[Sm.sz,bC,aq];omega) (.inl rfl) ⟨by omega,by omega,by omega,by omega,by omega,by omega⟩
  ·simp-implicitDefEqProofs[]
   have hBL:Bd (Pd d+60) (p+1+1) vs next (left-1):=⟨by omega,by omega,hB.w,hn0,by omega,by omega,by omega⟩
   refine(dW G (IQ G hb hl fns hd hblk2 hBL) _ (by simp[below])).mono ?_
   rintro r h ⟨v,q,vs2,n2,l2,rfl,rfl,out,s,rfl,z1,z2,z3,hs,rfl,m1,m2,m3,m4,m5,m6⟩
   simp-implicitDefEqProofs[aa,du]
   exact⟨_,_,q,_,_,vs++[s],n2,l2,rfl,rfl,.keep (by simp) .nil,.keep (by simp) .nil,out,rfl,by omega,z2,z3,.inr ⟨s,hs,rfl⟩,by omega,by omega,by omega,by omega,by omega,by omega⟩
 ·simp-implicitDefEqProofs[aa,k3,k5,k7',hd2,e7,e8,k11,e11]
  have hBL:Bd (Pd d+60) (p+1) vs next (left-1):=⟨by omega,by omega,hB.w,hn0,by omega,by omega,by omega⟩
  refine(dW G (IQ G hb hl fns hd hblk2 hBL) _ (by simp[below])).mono ?_
  rintro r h ⟨v,q,vs2,n2,l2,rfl,rfl,out,s,rfl,z1,z2,z3,hs,rfl,m1,m2,m3,m4,m5,m6⟩
  simp-implicitDefEqProofs[aa,du]
  exact⟨_,_,q,_,_,vs++[s],n2,l2,rfl,rfl,.keep (by simp) .nil,.keep (by simp) .nil,out,rfl,by omega,z2,z3,.inr ⟨s,hs,rfl⟩,by omega,by omega,by omega,by omega,by omega,by omega⟩
end
section
variable (G:aM)
structure BkS where (j m:Nat) (out:List Sm) (q:Nat) (vs:List (List UInt8)) (next left:Int)
theorem OX(d:Nat):5000≤Pd d:=by
 have:1≤20^d:=Nat.one_le_pow _ _ (by omega)
 simp only[Pd];omega
theorem LM(d:Nat):Pd (d+1)=20*Pd d:=by simp only[Pd,Nat.pow_succ];omega
theorem zP{b:List Int}(hb:Byt b)(hl:b.length≤2000)(fns:List Fd)(hf:wx fns){d:Nat}(hd:d≤10)(hblk:1≤d→Gz G b fns d):Gz G b fns (d+1):=by
 intro p vs next left hB
 have hp:=hB.p
 have hv:=hB.v
 have hn0:=hB.n0
 have hn1:=hB.n1
 have hl0:=hB.l0
 have hl1:=hB.l1
 have hP:=OX d
 have hPs:=LM d
 generalize hN:Pd d=N at*
 rw[hPs] at hp hv hn1 hl0⊢
 have hGok:∀(vs:List (List UInt8)) (nx lf:Int),okO 4 (.row 5 [du fns vs nx lf]):=fun vs nx lf e he=>by
  rw[RM.1 he];exact⟨by simp[below],pV (by omega),by simp,by simp,by simp,trivial⟩
 refine AC.go rA ?_
 simp-implicitDefEqProofs[lc,HG,du]
 refine(kq G hb hl (p:=p) (by omega) [2,3,1,4] (k:=4) (by simp) (by simp) (by omega) rfl rfl).mono ?_
 rintro r h ⟨I,hI,rfl,rfl⟩
 obtain⟨J,rfl,hJ⟩:∃J:Nat,I=J∧J≤4:=⟨I.toNat,by simp at hI;omega,by simp at hI;omega⟩
 simp-implicitDefEqProofs[aa]
 refine aV (fun s:BkS=>am 40 [(0,.ptr 1 5 0 0),(1,.p (.int .i64 ((d:Int)+1))),(5,.p (aC vs)),(6,.sl 3 5 0 s.out.length),(7,.p (.int .i64 s.j))])
  (fun s=>[rdO b s.q,.row 5 [du fns s.vs s.next s.left],bx 3 (aN fns),.row 5 (smR s.out)])
  (fun s=>s.j+s.m≤4∧aq s.out≤s.m*(2*N+3000)∧s.out.length≤2*s.m∧p≤s.q∧s.q≤p+1+s.m*(2*N+3000)∧s.vs.length≤vs.length+s.m∧(∀w∈s.vs,w.length≤8)∧next≤s.next∧s.next≤next+((s.m*(2*N+3000):Nat):Int)∧left-((s.m*(2*N+3000):Nat):Int)≤s.left∧s.left≤left)
  (fun s=>s.j) ⟨J,0,[],p+1,vs,next,left⟩ ⟨by simp only;omega,by simp[aq],by simp,by simp,by simp,by simp,hB.w,by simp,by simp,by simp,by simp⟩ ?_ ?_
 ·refine iz (m:=4) (by omega) (eL (h1:=[rdO b (p+1),.row 5 [du fns vs next left],bx 3 (aN fns),.row 5 (smR [])]) rfl rfl (ag (bU _ _ _) (ag (hGok _ _ _) (ag (mh _ _) (ag (bR (aQ [])) dQ))))) (by simp[below])
 rintro⟨j,m,out,q,vs',nx,lf⟩ ⟨i1,i2,i3,i4,i5,i6,i7,i8,i9,i10,i11⟩
 simp only at i1 i2 i3 i4 i5 i6 i7 i8 i9 i10 i11
 simp-implicitDefEqProofs[du]
 have hm4:m*(2*N+3000)≤4*(2*N+3000):=SK _ (by omega)
 by_cases hc:0<j∧0<lf
 ·obtain⟨c1,c2⟩:=hc
  have hm3:m*(2*N+3000)≤3*(2*N+3000):=SK _ (by omega)
  have hms:(m+1)*(2*N+3000)=m*(2*N+3000)+(2*N+3000):=by rw[SJ,Nat.one_mul]
  have hmsI:((m+1:Nat):Int)*(2*(N:Int)+3000)=((m*(2*N+3000)+(2*N+3000):Nat):Int):=by rw[←hms];simp
  generalize m*(2*N+3000)=M at*
  have hB2:Bd (2*Pd d+3000) q vs' nx lf:=by
   rw[hN];exact⟨by omega,by omega,i7,by omega,by omega,by omega,by omega⟩
  have hS:=NE G hb hl fns hf hd hblk hB2
  rw[hN] at hS
  simp-implicitDefEqProofs[c1,c2]
  refine(dW G hS _ (by simp[below])).mono ?_
  rintro r h ⟨v,q2,vs2,n2,l2,rfl,rfl,out2,rfl,z1,z2,z3,hvs,m1,m2,m3,m4,m5,m6⟩
  have hsl:smL out2= .lst 5 (out2.map Sm.cs):=rfl
  simp-implicitDefEqProofs[aa,du,hsl]
  have hol:(smR out).length=out.length:=dd out
  have hwj:IntKind.i64.wrap ((j:Int)-1)=((j-1:Nat):Int):=by rw[af (by omega) (by omega)];omega
  have hrow:List.take out.length (smR out)++List.map ((fun x=>List.map AV.p x)∘Sm.cs) out2=smR (out++out2):=by
   rw[RG (by omega),nV];rfl
  refine⟨⟨by omega,by omega,by omega⟩,⟨j-1,m+1,out++out2,q2,vs2,n2,l2⟩,⟨by simp only;omega,by simp only;rw[bO,hms];omega,by simp only;rw[RR];omega,by simp only;omega,by simp only;rw[hms];omega,?_,?_,by simp only;omega,by simp only;rw[hmsI];omega,by simp only;rw[hmsI];omega,by simp only;omega⟩,by simp only;omega,?_⟩
  ·simp only
   rcases hvs with rfl|⟨s,_,rfl⟩
   ·omega
   ·rw[RR,List.length_singleton];omega
  ·simp only
   rcases hvs with rfl|⟨s,hs,rfl⟩
   ·exact i7
   ·intro w hw
    rcases RJ.1 hw with h|h
    ·exact i7 w h
    ·rw[RM.1 h];exact hs
  ·rw[hrow]
   refine bT [0,1,2,4] (by simp) (by decide) (by decide) (dB rfl (bU _ _ _) (cU ?_ ?_ (dB rfl (mh _ _) (aG rfl (aQ _) br)))) (by simp[below,ren,hwj])
   ·intro x hx
    rw[RM.1 hx];exact⟨by simp[below],pV (by simp),by simp,by simp,by simp,trivial⟩
   ·simp[du,ren,bL]
 ·have hce:(decide (0<j)&&decide (0<lf))=false:=by
   by_cases h1:0<j
   ·have h2:¬0<lf:=fun h=>hc ⟨h1,h⟩
    simp[h2]
   ·simp[h1]
  have fin:LR b fns vs p (20*N) next left [] (.ret (.sl 3 5 0 out.length)) [rdO b q,.row 5 [[.ptr 0 2 0 0,slE 2 3 (aN fns),.p (aC vs),.p (.int .i64 nx),.p (.int .i64 lf)]],bx 3 (aN fns),.row 5 (smR out)]:=
   ⟨out,q,nx,lf,rfl,rfl,by omega,by omega,by omega,by omega,by omega,by omega,by omega,by omega⟩
  by_cases h1:0<j
  ·have h2:¬0<lf:=fun h=>hc ⟨h1,h⟩
   simp-implicitDefEqProofs[h1,h2]
   exact fin
  ·simp-implicitDefEqProofs[h1]
   exact fin
end
section
def K_spec_l3Gen_fn:AK:= .seq (.reg [oJ 6 (.alloc [(.p (.str [])),.nils,.nils])]) (.seq (.reg [oM 8 0,oJ 9 (.bsl 1 [(.p (.str []))] 3 [(0,1,(.c (.p (.str [97])))),(1,1,(.c (.p (.str [98])))),(2,1,(.c (.p (.str [99]))))]),oM 10 2,oJ 11 (.slS 1 (.t 9) none (some (.t 10))),oN 12 8,oF 13 2 12,oS 13 11]) (.seq (.reg [oM 14 0,oM 15 2,oJ 16 (.bin .sub (.t 15) (.c (.p (.int .i64 1)))),oN 17 14,oF 18 3 17,oS 18 16]) (.cut (.reg [oM 19 1,oJ 20 (.bsl 1 [(.p (.str []))] 0 []),oM 21 0,oN 22 21,oF 23 2 22,oL 24 23,oJ 25 (.app 1 16 (.t 20) (.t 24)),oJ 26 (.bld [(.p (.str [])),.nils,.nils] [(0,1,(.t 19)),(1,1,(.t 25))]),oJ 7 (.alloc [(.p (.str [])),.nils,.nils]),⟨none,none,.st 3 (.t 7) (.t 26)⟩]) (.seq (.reg [oM 27 0,oJ 28 (.call bj [(.t 27),(.c (.p (.int .i64 3)))]),oF 29 2 7,oS 29 28]) (.seq (.seq (.reg [oM 30 0,oN 31 30,oF 32 4 31,oL 33 32,oJ 34 (.bin .gtr (.t 33) (.c (.p (.int .i64 0)))),oM 35 34,⟨(some 36),some (35,true),.mov (.t 0)⟩,⟨(some 37),some (35,true),.nilck (.t 36)⟩,⟨(some 38),some (35,true),.fldA 0 (.t 37)⟩,⟨(some 39),some (35,true),.ld none (.t 38)⟩,⟨(some 40),some (35,true),.call ab [(.t 39),(.c (.p (.int .i64 4)))]⟩,⟨(some 41),some (35,true),.bin .gtr (.t 40) (.c (.p (.int .i64 0)))⟩,oJ 42 (.pick (.t 35) (.t 41) (.c (.p (.bool false))))]) (.cond (.t 42) (.seq (.reg [oM 43 0,oM 44 0,oN 45 44,oF 46 4 45,oL 47 46,oJ 48 (.bin .sub (.t 47) (.c (.p (.int .i64 1)))),oN 49 43,oF 50 4 49,oS 50 48]) (.reg [oF 51 2 7,oM 53 0,oL 52 51,oJ 54 (.call bn [(.t 53),(.c (.p (.int .i64 2)))]),⟨none,none,.chk none 51 52⟩,oJ 55 (.bslP 4 [(.p (.int .i64 0)),(.p (.int .i64 0)),(.p (.str [])),.nils] 1 [(0,4,(.t 54))]),oJ 56 (.bld [(.p (.int .i64 0)),(.p (.str [])),.nils,.nils,.nils] [(0,1,(.c (.p (.int .i64 7)))),(2,1,(.t 55))]),oJ 57 (.bslP 5 [(.p (.int .i64 0)),(.p (.str [])),.nils,.nils,.nils] 1 [(0,5,(.t 56))]),oJ 58 (.app 5 96 (.t 52) (.t 57)),oF 59 2 7,oS 59 58])) (.skip))) (.seq (.reg [oJ 60 (.ld (some 3) (.t 7)),⟨none,none,.st 3 (.t 6) (.t 60)⟩]) (.ret)))))))
theorem ve:K_spec_l3Gen_fn.whole=F_spec_l3Gen_fn.ak:=rfl
theorem Ah{h:List AO}{id:Nat}{out:List Sm}{m:Sm}{c:List AV}(e:h[id]?=some (.row 5 (smR out++[c])))(hc:∀(j:Nat) (q:PV) (a:AV),m.cs[j]?=some q→c[j]?=some a→View h a q):View h (.sl id 5 0 (out.length+1)) (smL (out++[m])):=by
 have hl:((out++[m]).map Sm.cs).length=out.length+1:=by simp
 have:=View.sl (h:=h) id 5 0 _ ((out++[m]).map Sm.cs) e (by rw[hl];simp[dd]) (fun x hx=>by obtain⟨b,_,rfl⟩:=RU.1 hx;exact b.cs_len) (fun i j e q e' a a1 a2 a3 a4=>?_)
 ·rwa[hl] at this
 rw[Su] at a3
 rw[List.map_append] at a1
 rcases Sl i out.length with hi|hi
 ·rw[RD (by simpa using hi),RQ,RA hi] at a1
  rw[RD (by simpa[dd] using hi),smR,RQ,RA hi] at a3
  cases a1;cases a3
  rw[RQ,a2] at a4
  cases a4
  exact .p _
 ·rw[RP (by simpa using hi)] at a1
  rw[RP (by simpa[dd] using hi),dd] at a3
  rw[RX] at a1
  cases hd:i-out.length with
  |zero=>
   rw[hd] at a1 a3
   cases a1;cases a3
   exact hc j q a a2 a4
  |succ n=>rw[hd] at a3;simp at a3
variable (G:aM)
theorem Jn{b:List Int}(hb:Byt b)(hl:b.length≤2000)(fns:List Fd)(hf:wx fns):Gz G b fns 3:=
 zP G hb hl fns hf (d:=2) (by omega) fun _=>zP G hb hl fns hf (d:=1) (by omega) fun _=>zP G hb hl fns hf (d:=0) (by omega) fun h=>absurd h (by omega)
def abcW:List (List UInt8):=[[97],[98],[99]]
def fnQ(p:Nat)(name:List UInt8)(np:Nat)(left:Int)(v:AV)(q:Nat)(vs':List (List UInt8))(next' left':Int):Prop:=
 ∃f:Fd,v= .agg (f.cs.map .p)∧f.name=name∧f.params=abcW.take np∧aq f.body≤40000500∧p≤q∧q≤p+40000500∧left-40000500≤left'∧left'≤left
theorem Pf{b:List Int}(hb:Byt b)(hl:b.length≤2000){p:Nat}(hp:p≤90000000000)(fns:List Fd)(hf:wx fns)(vs:List (List UInt8))(next left:Int)(hl0: -1000000000≤left)(hl1:left≤1000000000)(name:List UInt8)(np:Nat)(hnp:np≤3):
 AC Tryz.prog G gT [.ptr 1 5 0 0,.p (.str name),.p (.int .i64 np)] (HG b p fns vs next left) (PG b fns (fnQ p name np left) []):=by
 refine mc G (AC.goK vp ve ?_)
 have hwn:IntKind.i64.wrap ((np:Int)-1)=(np:Int)-1:=af (by omega) (by omega)
 have h3:(np:Int)≤3:=by omega
 simp-implicitDefEqProofs[K_spec_l3Gen_fn,F_spec_l3Gen_fn,HG,du,hwn,h3,hnp]
 refine lp (am 61 [(0,.ptr 1 5 0 0),(6,.ptr 3 3 0 0),(7,.ptr 4 3 0 0)]) [rdO b p,.row 5 [du fns (abcW.take np) ((np:Int)-1) left],bx 3 (aN fns),.row 3 [[.p (.str []),.nils,.nils]],.row 3 [[.p (.str name),.p (aC (abcW.take np)),.nils]]] ?_ ?_
 ·have hlen:(abcW.take np).length=np:=by simp[abcW];omega
  simp-implicitDefEqProofs[hnp,hlen]
  refine⟨⟨by omega,by omega⟩,?_⟩
  have hcutR:gw (abcW.take np)= .row 1 (List.take np [[AV.p (PV.str [97])],[AV.p (PV.str [98])],[AV.p (PV.str [99])]]):=by
   simp only[gw,List.map_take];rfl
  rw[←hcutR]
  refine Wk.trans (ET (h1:=[rdO b p,.row 5 [[.ptr 0 2 0 0,slE 2 3 (aN fns),.sl 4 1 0 np,.p (.int .i64 ((np:Int)-1)),.p (.int .i64 left)]],bx 3 (aN fns),.row 3 [[.p (.str []),.nils,.nils]],gw (abcW.take np),.dead,gw (abcW.take np),.row 3 [[.p (.str name),.sl 6 1 0 np,.nils]]])
   ⟨.inl rfl,.inl rfl,.inl rfl,.inl rfl,.inr ⟨1,_,np,rfl,hcutR⟩,.inl rfl,.inl rfl,.inl rfl,trivial⟩) ?_
  refine Wk.trans (bT (l1:=[(0,.ptr 1 5 0 0),(6,.ptr 3 3 0 0),(7,.ptr 4 3 0 0)])
   (h1:=[rdO b p,.row 5 [[.ptr 0 2 0 0,slE 2 3 (aN fns),.sl 5 1 0 np,.p (.int .i64 ((np:Int)-1)),.p (.int .i64 left)]],bx 3 (aN fns),.row 3 [[.p (.str []),.nils,.nils]],.row 3 [[.p (.str name),.sl 6 1 0 np,.nils]],gw (abcW.take np),gw (abcW.take np)])
   [0,1,2,3,7,4,6] (by simp) (by decide) (by decide) (dB rfl (bU _ _ _) (cU (by simp[below]) (by simp[ren,bL]) (dB rfl (mh _ _) (aG rfl (by simp[below]) (cU (by simp[below]) (by simp[ren,bL]) (dB rfl (qp _) (dB rfl (qp _) br))))))) (by simp[below,ren]))
   (fM 5 (by omega) (by simp) rfl (.same (bU _ _ _) (.one (.keep (by simp[below]) (.keep (pV (by omega)) (.one ?_ (.keep (by simp) (.keep (by simp) .nil))))) (.same (mh _ _) (.same (by simp[okO,below]) (.one (.keep (by simp) (.one ?_ (.keep (by simp[below]) .nil))) (.nil _)))))) ?_)
  ·have:=fu (l:=abcW.take np) (id:=5) (h:=tail 5 [rdO b p,.row 5 [[.ptr 0 2 0 0,slE 2 3 (aN fns),.sl 5 1 0 np,.p (.int .i64 ((np:Int)-1)),.p (.int .i64 left)]],bx 3 (aN fns),.row 3 [[.p (.str []),.nils,.nils]],.row 3 [[.p (.str name),.sl 6 1 0 np,.nils]],gw (abcW.take np),gw (abcW.take np)]) rfl
   rwa[hlen] at this
  ·have:=fu (l:=abcW.take np) (id:=6) (h:=tail 5 [rdO b p,.row 5 [[.ptr 0 2 0 0,slE 2 3 (aN fns),.sl 5 1 0 np,.p (.int .i64 ((np:Int)-1)),.p (.int .i64 left)]],bx 3 (aN fns),.row 3 [[.p (.str []),.nils,.nils]],.row 3 [[.p (.str name),.sl 6 1 0 np,.nils]],gw (abcW.take np),gw (abcW.take np)]) rfl
   rwa[hlen] at this
  ·exact⟨.keep (by simp[below]) .nil,.keep (by simp[below]) .nil,.keep (by simp[below]) .nil,trivial⟩
 have hlen:(abcW.take np).length≤3:=by simp[abcW];omega
 have hw8:∀s∈abcW.take np,s.length≤8:=by
  intro s hs
  have:=Sv hs
  simp only[abcW,RY,List.not_mem_nil,or_false] at this
  rcases this with rfl|rfl|rfl<;>simp
 have hPd:Pd 3=40000000:=rfl
 have hB:Bd (Pd 3) p (abcW.take np) ((np:Int)-1) left:=by rw[hPd];exact⟨by omega,by omega,hw8,by omega,by omega,by omega,by omega⟩
 simp-implicitDefEqProofs[du]
 refine(sV G (Jn G hb hl fns hf hB) _).mono ?_
 rintro r h ⟨out,q,n2,l2,rfl,rfl,z1,z2,m1,m2,m3,m4,m5,m6⟩
 rw[hPd] at z1 m2 m4 m5
 simp-implicitDefEqProofs[aa,du]
 have fin:∀(out:List Sm) (q:Nat) (l2:Int) (rest:List AO) (v:AV) (vc:AV) (vs':List (List UInt8)) (n2:Int),Fzs (.dead:: .dead:: .dead::rest) 3 [vc] [.p (aC vs')]→Fzs (.dead:: .dead:: .dead::rest) 3 [v] [.agg ((Fd.mk name (abcW.take np) out).cs.map .p)]→aq out≤40000500→p≤q→q≤p+40000500→left-40000500≤l2→l2≤left→
  DG b fns (fnQ p name np left) (.ret v) (rdO b q:: .row 5 [[.ptr 0 2 0 0,slE 2 3 (aN fns),vc,.p (.int .i64 n2),.p (.int .i64 l2)]]::bx 3 (aN fns)::rest):=fun out q l2 rest v vc vs' n2 h1 h2 h3 h4 h5 h6 h7=>
  ⟨_,rest,q,_,_,vs',n2,l2,rfl,rfl,h1,h2,⟨name,abcW.take np,out⟩,rfl,rfl,rfl,h3,h4,h5,h6,h7⟩
 by_cases hl2:0<l2
 ·simp-implicitDefEqProofs[hl2]
  refine(aZ G b hb hl q (by omega) 4 _).mono ?_
  rintro r h ⟨k,rfl,rfl,_⟩
  simp-implicitDefEqProofs[aa]
  refine bf (fun hc=>?_) (fun hc=>?_)
  ·have hwl:IntKind.i64.wrap (l2-1)=l2-1:=af (by omega) (by omega)
   simp-implicitDefEqProofs[hwl]
   have hShrt:tS (abcW.take np):=⟨by omega,hw8⟩
   refine(dW G (mL G hb hl (p:=q+1) (by omega) fns hf (abcW.take np) hShrt n2 (l2-1) (d:=2) (by omega)) _ (by simp[below])).mono ?_
   rintro r h ⟨v,q2,vs2,n3,l3,rfl,rfl,⟨e,rfl,he⟩,h1,h2,hvs,rfl,rfl⟩
   subst hvs
   have hec:=e.cs_eq
   have hol:(smR out).length=out.length:=dd out
   simp-implicitDefEqProofs[aa,du,hec,hol]
   refine⟨⟨by omega,by omega⟩,?_⟩
   have htk:List.take out.length (smR out)=smR out:=RG (by omega)
   rw[htk]
   have hm:(Sm.mk 7 [] [e] [] []).cs=[.int .i64 7,.str [],.lst 4 [[.int .i64 e.op,.int .i64 e.n,.str e.name,exL e.kids]],.lst 5 [],.lst 5 []]:=by
    rw[Sm.cs_eq,←hec];rfl
   refine fin (out++[⟨7,[],[e],[],[]⟩]) q2 (l2-1) _ _ _ (abcW.take np) n3 (.keep (by simp) .nil) (.agg (.keep (by simp) (.keep (by simp) (.one (Ah rfl ?_) .nil))) .nil) (by simp[bO,aq,Sm.sz,bC];omega) (by omega) (by omega) (by omega) (by omega)
   intro j q a a1 a2
   rw[hm] at a1
   match j,a1,a2 with
   |0,a1,a2=>cases a1;cases a2;exact .p _
   |1,a1,a2=>cases a1;cases a2;exact .p _
   |2,a1,a2=>cases a1;cases a2;exact .p _
   |3,a1,a2=>cases a1;cases a2;exact View.e 0 5
   |4,a1,a2=>cases a1;cases a2;exact View.e 0 5
   |j+5,a1,a2=>simp at a1
  ·simp-implicitDefEqProofs[]
   exact fin out (q+1) l2 _ _ _ (abcW.take np) n2 (.keep (by simp) .nil) (.agg (.keep (by simp) (.keep (by simp) (.one (fm rfl) .nil))) .nil) (by omega) (by omega) (by omega) (by omega) (by omega)
 ·simp-implicitDefEqProofs[hl2]
  exact fin out q l2 _ _ _ (abcW.take np) n2 (.keep (by simp) .nil) (.agg (.keep (by simp) (.keep (by simp) (.one (fm rfl) .nil))) .nil) (by omega) (by omega) (by omega) (by omega) (by omega)
end
section
theorem xV{h:List AO}{s:List UInt8}{ps:List (List UInt8)}{bd:List Sm}{P B:AV}(hP:View h P (aC ps))(hB:View h B (smL bd)):∀(j:Nat) (q:PV) (x:AV),(Fd.mk s ps bd).cs[j]?=some q→[AV.p (.str s),P,B][j]?=some x→View h x q:=by
 intro j q x e1 e2
 match j,e1,e2 with
 |0,e1,e2=>cases e1;cases e2;exact .p _
 |1,e1,e2=>cases e1;cases e2;exact hP
 |2,e1,e2=>cases e1;cases e2;exact hB
 |j+3,e1,e2=>simp[Fd.cs] at e1
theorem qq{h:List AO}{id:Nat}{l:List Fd}(e:h[id]?=some (.row 3 (aN l))):View h (.sl id 3 0 l.length) (fdL l):=by
 have:=iH (h:=h) (id:=id) (sz:=3) (n:=l.length) (ls:=l.map Fd.cs) (by rw[e,aN];simp) (by simp) (fun x hx=>by obtain⟨b,_,rfl⟩:=RU.1 hx;exact b.cs_len)
 exact this
theorem xS(a b:List Fd):aN (a++b)=aN a++aN b:=by simp[aN]
theorem lv(a:List Fd):(aN a).length=a.length:=by simp[aN]
theorem jW(a b:List Fd):aJ (a++b)=aJ a+aJ b:=by simp[aJ]
def Np:List Fd:=[⟨[109],[],[⟨3,[],[⟨1,1,[],[]⟩],[],[]⟩]⟩]
theorem EK:bq Np=true:=by decide
theorem Ff(k:Nat)(hk:k≤3):(abcW.take k).length+((abcW.take k).map List.length).sum≤6:=by
 have h:k=0∨k=1∨k=2∨k=3:=by omega
 rcases h with rfl|rfl|rfl|rfl<;>decide
variable (G:aM)
structure PgS where (j:Nat) (fns:List Fd) (q:Nat) (vs:List (List UInt8)) (next left:Int)
def QJ(b:List Int)(p n:Nat)(x:ARes)(h:List AO):Prop:=∃(l:List Fd) (q:Nat),x= .ret (.agg [.p (fdL l)])∧h=[rdO b q]∧bq l=true∧aJ l≤200000000∧p≤q∧q≤p+n
def Rg(b:List Int)(p n:Nat)(x:ARes)(h:List AO):Prop:=∃(l:List Fd) (q:Nat) (v:AV) (rest:List AO),x= .ret (.agg [v])∧h=rdO b q::rest∧View (tail 1 h) v (fdL l)∧bq l=true∧aJ l≤200000000∧p≤q∧q≤p+n
theorem Db{b:List Int}(hb:Byt b)(hl:b.length≤2000){p:Nat}(hp:p≤10000000000):AC Tryz.prog G cw [.ptr 0 2 0 0] [rdO b p] (QJ b p 200000000):=by
 refine AC.frz (R:=Rg b p 200000000) ?_ 1 (by simp) (fun t v h ⟨_,_,_,_,e,_⟩=>by cases e) ?_
 ·refine AC.go yB ?_
  simp-implicitDefEqProofs[rm]
  refine(kq G hb hl (p:=p) (by omega) [14,20,8,26] (k:=2) (by simp) (by simp) (by omega) rfl rfl).mono ?_
  rintro r h ⟨L0,hL0,rfl,rfl⟩
  have hL:0≤L0∧L0≤26:=by simp at hL0;omega
  simp-implicitDefEqProofs[aa]
  refine(kq G hb hl (p:=p+1) (by omega) [0,1,1,2] (k:=4) (by simp) (by simp) (by omega) rfl rfl).mono ?_
  rintro r h ⟨J0,hJ0,rfl,rfl⟩
  obtain⟨J,rfl,hJ⟩:∃J:Nat,J0=J∧J≤2:=⟨J0.toNat,by simp at hJ0;omega,by simp at hJ0;omega⟩
  simp-implicitDefEqProofs[aa]
  refine aV (fun s:PgS=>am 69 [(0,.ptr 0 2 0 0),(2,.ptr 3 1 0 0),(3,.ptr 1 5 0 0),(4,.p (.int .i64 s.j))])
   (fun s=>[rdO b s.q,.row 5 [du s.fns s.vs s.next s.left],bx 3 (aN s.fns),.row 1 [[.nils]]])
   (fun s=>s.j+s.fns.length≤2∧wx s.fns∧aJ s.fns≤s.fns.length*40000600∧p≤s.q∧s.q≤p+2+s.fns.length*40000600∧L0-s.fns.length*40000600≤s.left∧s.left≤L0)
   (fun s=>s.j) ⟨J,[],p+1+1,[],0,L0⟩ ⟨by simp only[List.length_nil];omega,⟨by simp,by simp⟩,by simp[aJ],by simp only;omega,by simp,by simp,by simp⟩ ?_ ?_
  ·refine Wk.trans (bT (l1:=[(0,.ptr 0 2 0 0),(2,.ptr 3 1 0 0),(3,.ptr 1 5 0 0),(4,.p (.int .i64 J))])
    (h1:=[rdO b (p+1+1),.row 5 [[.ptr 0 2 0 0,.nils,.nils,.p (.int .i64 0),.p (.int .i64 L0)]],.dead,.row 1 [[.nils]]])
    [0,3,2,1] (by simp) (by decide) (by decide) (dB rfl (bU _ _ _) (cU (by simp[below]) (by simp[ren,bL]) (fL (by simp) (aG rfl (by simp[below]) br)))) (by simp[below,ren]))
    (fM 4 (by omega) (by simp) rfl (.same (bU _ _ _) (.one (.keep (by simp[below]) (.keep (by simp[below,aN,slE]) (.one (View.nils 1) (.keep (by simp) (.keep (by simp) .nil))))) (.dead (.same (by simp[okO,below]) (.nil _))))) ?_)
   exact⟨.keep (by simp[below]) .nil,.keep (by simp[below]) .nil,.keep (by simp[below]) .nil,.keep (by simp[below]) .nil,trivial⟩
  rintro⟨j,fns,q,vs,nx,lf⟩ ⟨i1,i2,i3,i4,i5,i6,i7⟩
  simp only at i1 i2 i3 i4 i5 i6 i7
  simp-implicitDefEqProofs[du]
  by_cases hj:0<j
  ·have hfl:fns.length<3:=by omega
   have hcl:(aN fns).length=fns.length:=lv fns
   obtain⟨nm,hget,hnm⟩:∃nm:List UInt8,([[PV.str [102]],[PV.str [103]],[PV.str [104]]]:List (List PV))[fns.length]?=some [.str nm]∧nm.length≤8:=by
    have h3:fns.length=0∨fns.length=1∨fns.length=2:=by omega
    rcases h3 with h|h|h<;>rw[h]
    ·exact⟨[102],rfl,by simp⟩
    ·exact⟨[103],rfl,by simp⟩
    ·exact⟨[104],rfl,by simp⟩
   simp-implicitDefEqProofs[hj,hcl,hget]
   refine(aZ G b hb hl q (by omega) 3 _).mono ?_
   rintro r h ⟨k,rfl,rfl,hk⟩
   have hk3:k≤3:=by omega
   simp-implicitDefEqProofs[aa,hcl,hget]
   refine(dW G (Pf G hb hl (p:=q+1) (by omega) fns i2 vs nx lf (by omega) (by omega) nm k hk3) _ (by simp[below])).mono ?_
   rintro r h ⟨v,q2,vs2,n2,l2,rfl,rfl,f,rfl,hf1,hf2,z1,z2,z3,z4,z5⟩
   have hcs:=f.cs_len
   have hcf:f.cs=[.str f.name,aC f.params,smL f.body]:=rfl
   simp-implicitDefEqProofs[aa,du,hcf]
   have hfs:f.sz≤40000600:=by
    have h1:f.sz=1+f.name.length+(f.params.length+(f.params.map List.length).sum)+aq f.body:=rfl
    have h2:=Ff k hk3
    rw[←hf2] at h2
    rw[hf1] at h1
    omega
   have hwj:IntKind.i64.wrap ((j:Int)-1)=((j-1:Nat):Int):=by rw[af (by omega) (by omega)];omega
   have hfp:f.params.length≤3:=by rw[hf2];simp[abcW];omega
   have hrow:aN fns++[[AV.p (.str f.name),.p (aC f.params),.p (smL f.body)]]=aN (fns++[f]):=by rw[xS];rfl
   have hne:aN (fns++[f])≠[]:=by simp[aN]
   have hll:(aN fns).length+1=(aN (fns++[f])).length:=by simp[aN]
   rw[hrow,hll]
   refine⟨⟨by rw[←hll,hcl];omega,by omega⟩,⟨j-1,fns++[f],q2,vs2,n2,l2⟩,⟨by simp;omega,⟨by simp;omega,?_⟩,by simp only[jW,RR];simp[aJ] at*;omega,by simp only;omega,by simp;omega,by simp;omega,by simp only;omega⟩,by simp only;omega,?_⟩
   ·intro x hx
    rcases RJ.1 hx with h|h
    ·exact i2.2 x h
    ·rw[RM.1 h,hf1];exact⟨hnm,hfp⟩
   ·rw[di hne,dS hne]
    refine bT [0,1,5,3] (by simp) (by decide) (by decide) (dB rfl (bU _ _ _) (cU (by simp[below]) (by simp[ren,bL]) (aG rfl (fp _) (aG rfl (by simp[below]) br)))) (by simp[below,ren,hwj])
  ·simp-implicitDefEqProofs[hj]
   refine(kq G hb hl (p:=q) (by omega) [0,1,2,1] (k:=4) (by simp) (by simp) (by omega) rfl rfl).mono ?_
   rintro r h ⟨N0,hN0,rfl,rfl⟩
   obtain⟨np,rfl,hnp⟩:∃J:Nat,N0=J∧J≤2:=⟨N0.toNat,by simp at hN0;omega,by simp at hN0;omega⟩
   simp-implicitDefEqProofs[aa]
   refine(dW G (Pf G hb hl (p:=q+1) (by omega) fns i2 vs nx lf (by omega) (by omega) [109] np (by omega)) _ (by simp[below])).mono ?_
   rintro r h ⟨v,q2,vs2,n2,l2,rfl,rfl,f,rfl,hf1,hf2,z1,z2,z3,z4,z5⟩
   have hcf:f.cs=[.str f.name,aC f.params,smL f.body]:=rfl
   have hcl:(aN fns).length=fns.length:=lv fns
   have hfs:f.sz≤40000600:=by
    have h1:f.sz=1+f.name.length+(f.params.length+(f.params.map List.length).sum)+aq f.body:=rfl
    have h2:=Ff np (by omega)
    rw[←hf2] at h2
    rw[hf1] at h1
    simp at h1
    omega
   by_cases hfe:fns=[]
   ·subst hfe
    have h0:aN []=[]:=rfl
    rw[h0]
    simp-implicitDefEqProofs[aa,du,hcf,h0,mw,rV]
    have hrow:[[AV.p (.str f.name),.p (aC f.params),.p (smL f.body)]]=aN [f]:=rfl
    rw[hrow]
    have vw:∀h:List AO,h[8]?=some (.row 3 (aN [f]))→View h (.sl 8 3 0 1) (fdL [f]):=fun h e=>qq (l:=[f]) e
    refine((kX G [f] (by simp only[aJ,Sb,List.map_nil,List.sum_cons,List.sum_nil] at*;omega)).lend (.agg (.one (vw _ rfl) .nil) .nil) rfl).mono ?_
    rintro r h ⟨rfl,rfl⟩
    simp-implicitDefEqProofs[aa]
    by_cases hok:bq [f]=true
    ·simp-implicitDefEqProofs[hok]
     exact⟨[f],q2,_,_,rfl,rfl,vw _ rfl,hok,by simp only[aJ,Sb,List.map_nil,List.sum_cons,List.sum_nil] at*;omega,by omega,by omega⟩
    ·have hok':bq [f]=false:=by simpa using hok
     simp-implicitDefEqProofs[hok']
     exact⟨Np,q2,_,_,rfl,rfl,ca (p0:=(Fd.mk [109] [] [⟨3,[],[⟨1,1,[],[]⟩],[],[]⟩]).cs) rfl rfl (xV (View.nils 1) (ca (p0:=(Sm.mk 3 [] [⟨1,1,[],[]⟩] [] []).cs) rfl (Sm.cs_len _) (cZ (ca (p0:=(Ex.mk 1 1 [] []).cs) rfl (Ex.cs_len _) (iK (View.nils 4))) (View.nils 5) (View.nils 5)))),EK,by decide,by omega,by omega⟩
   ·have h0:aN fns≠[]:=fun h=>hfe (List.map_eq_nil_iff.1 h)
    simp only[du,dS h0,di h0]
    simp-implicitDefEqProofs[aa,hcf,hcl]
    refine⟨⟨by omega,by omega⟩,⟨by omega,by omega⟩,?_⟩
    have hrow:List.take fns.length (List.take fns.length (aN fns))++[[AV.p (.str f.name),.p (aC f.params),.p (smL f.body)]]=aN (fns++[f]):=by
     rw[RG (by rw[RZ];omega),RG (by omega),xS];rfl
    rw[hrow]
    have vw:∀h:List AO,h[8]?=some (.row 3 (aN (fns++[f])))→View h (.sl 8 3 0 (fns.length+1)) (fdL (fns++[f])):=fun h e=>by
     have:=qq e
     rwa[RR,List.length_singleton] at this
    refine((kX G (fns++[f]) (by rw[jW];simp only[aJ,Sb,List.map_nil,List.sum_cons,List.sum_nil] at*;omega)).lend (.agg (.one (vw _ rfl) .nil) .nil) rfl).mono ?_
    rintro r h ⟨rfl,rfl⟩
    simp-implicitDefEqProofs[aa]
    by_cases hok:bq (fns++[f])=true
    ·simp-implicitDefEqProofs[hok]
     exact⟨fns++[f],q2,_,_,rfl,rfl,vw _ rfl,hok,by rw[jW];simp only[aJ,Sb,List.map_nil,List.sum_cons,List.sum_nil] at*;omega,by omega,by omega⟩
    ·have hok':bq (fns++[f])=false:=by simpa using hok
     simp-implicitDefEqProofs[hok']
     exact⟨Np,q2,_,_,rfl,rfl,ca (p0:=(Fd.mk [109] [] [⟨3,[],[⟨1,1,[],[]⟩],[],[]⟩]).cs) rfl rfl (xV (View.nils 1) (ca (p0:=(Sm.mk 3 [] [⟨1,1,[],[]⟩] [] []).cs) rfl (Sm.cs_len _) (cZ (ca (p0:=(Ex.mk 1 1 [] []).cs) rfl (Ex.cs_len _) (iK (View.nils 4))) (View.nils 5) (View.nils 5)))),EK,by decide,by omega,by omega⟩
 ·rintro v h ⟨l,q,v0,rest,e,rfl,hv,h1,h2,h3,h4⟩
  cases e
  exact⟨_,[rdO b q],by simp,rfl,.agg (.one hv .nil) .nil,.same (bU _ _ _) (.nil _),l,q,rfl,rfl,h1,h2,h3,h4⟩
end
section
theorem fY{s:Bool}{h:List AO}{vs:List AV}{q:PV}{I:List Nat}(H:OwnL s h vs [q] I):∃v,vs=[v]:=by
 have:=H.len
 match vs,this with
 |[v],_=>exact⟨v,rfl⟩
theorem KL{s:Bool}{h:List AO}{vs:List AV}{q r:PV}{I:List Nat}(H:OwnL s h vs [q,r] I):∃a b,vs=[a,b]:=by
 have:=H.len
 match vs,this with
 |[a,b],_=>exact⟨a,b,rfl⟩
theorem Gm{s:Bool}{h:List AO}{vs:List AV}{q r t:PV}{I:List Nat}(H:OwnL s h vs [q,r,t] I):∃a b c,vs=[a,b,c]:=by
 have:=H.len
 match vs,this with
 |[a,b,c],_=>exact⟨a,b,c,rfl⟩
theorem Ec{s:Bool}{h:List AO}{vs:List AV}{e:Ex}{I:List Nat}(H:OwnL s h vs e.cs I):∃K,vs=[.p (.int .i64 e.op),.p (.int .i64 e.n),.p (.str e.name),K]∧OwnL s h [K] [exL e.kids] I:=by
 rw[e.cs_eq] at H
 cases H with
 |p _ _ H=>
  cases H with
  |p _ _ H=>
   cases H with
   |p _ _ H=>
    obtain⟨v,rfl⟩:=fY H
    exact⟨v,rfl,H⟩
theorem Kw{s:Bool}{h:List AO}{o n:Int}{w:List UInt8}{k:List Ex}{K:AV}{I:List Nat}(H:OwnL s h [K] [exL k] I):OwnL s h [.p (.int .i64 o),.p (.int .i64 n),.p (.str w),K] (Ex.mk o n w k).cs I:=by
 rw[Ex.cs_eq]
 exact .p _ (fun _=>rfl) (.p _ (fun _=>rfl) (.p _ (fun _=>rfl) H))
theorem HQ{s:Bool}{h:List AO}{vs:List AV}{e:Sm}{I:List Nat}(H:OwnL s h vs e.cs I):∃A B E I1 I2 I3,vs=[.p (.int .i64 e.op),.p (.str e.name),A,B,E]∧I=I1++(I2++I3)∧OwnL s h [A] [exL e.args] I1∧OwnL s h [B] [smL e.body] I2∧OwnL s h [E] [smL e.els] I3:=by
 rw[e.cs_eq] at H
 cases H with
 |p _ _ H=>
  cases H with
  |p _ _ H=>
   obtain⟨A,B,E,rfl⟩:=Gm H
   obtain⟨I1,I',rfl,h1,H⟩:=H.one
   obtain⟨I2,I3,rfl,h2,h3⟩:=H.one
   exact⟨A,B,E,I1,I2,I3,rfl,rfl,h1,h2,h3⟩
theorem CP{s:Bool}{h:List AO}{o:Int}{w:List UInt8}{a:List Ex}{b e:List Sm}{A B E:AV}{I1 I2 I3:List Nat}(h1:OwnL s h [A] [exL a] I1)(h2:OwnL s h [B] [smL b] I2)(h3:OwnL s h [E] [smL e] I3):
 OwnL s h [.p (.int .i64 o),.p (.str w),A,B,E] (Sm.mk o w a b e).cs (I1++(I2++I3)):=by
 rw[Sm.cs_eq]
 exact .p _ (fun _=>rfl) (.p _ (fun _=>rfl) (h1.app (h2.app h3)))
theorem Kd{s:Bool}{h:List AO}{vs:List AV}{f:Fd}{I:List Nat}(H:OwnL s h vs f.cs I):∃A B I1 I2,vs=[.p (.str f.name),A,B]∧I=I1++I2∧OwnL s h [A] [aC f.params] I1∧OwnL s h [B] [smL f.body] I2:=by
 rw[show f.cs=[.str f.name,aC f.params,smL f.body] from rfl] at H
 cases H with
 |p _ _ H=>
  obtain⟨A,B,rfl⟩:=KL H
  obtain⟨I1,I2,rfl,h1,H⟩:=H.one
  exact⟨A,B,I1,I2,rfl,rfl,h1,H⟩
theorem pk{s:Bool}{h:List AO}{w:List UInt8}{ps:List (List UInt8)}{b:List Sm}{A B:AV}{I1 I2:List Nat}(h1:OwnL s h [A] [aC ps] I1)(h2:OwnL s h [B] [smL b] I2):OwnL s h [.p (.str w),A,B] (Fd.mk w ps b).cs (I1++I2):=
 .p _ (fun _=>rfl) (h1.app h2)
end
section
variable (G:aM)
theorem zp{hF:List AO}{n:Nat}{o k:Int}{w:List UInt8}{ks:List Ex}{K:AV}(hk:View hF K (exL ks)):Fzs hF n [.agg [.p (.int .i64 o),.p (.int .i64 k),.p (.str w),K]] [.agg ((Ex.mk o k w ks).cs.map .p)]:=by
 rw[Ex.cs_eq]
 exact .agg (.keep (by simp) (.keep (by simp) (.keep (by simp) (.one hk .nil)))) .nil
def KP(h:List AO)(kids:List Ex)(K:AV):Prop:=(K= .nils∧kids=[])∨∃id rows hX,K= .sl (id+1) 4 0 kids.length∧kids≠[]∧h[id+1]?=some (.row 4 rows)∧hX.length=h.length∧(∀(i:Nat) o,hX[i]?=some o→o.live→h[i]?=some o)∧¬Live hX 0∧¬Live hX (id+1)∧
 rows.length=kids.length∧∀(j:Nat) (e e1:List AV),rows[j]?=some e→(exR kids)[j]?=some e1→Fzs hX h.length e e1
def DT(b:List Int)(Q:Ex→Nat→Prop)(x:ARes)(h:List AO):Prop:=∃(e:Ex) (q:Nat) (rest:List AO) (K:AV),x= .ret (.agg [.p (.int .i64 e.op),.p (.int .i64 e.n),.p (.str e.name),K])∧h=rdO b q::rest∧KP h e.kids K∧Q e q
def EN(b:List Int)(Q:Ex→Nat→Prop)(x:ARes)(h:List AO):Prop:=∃(e:Ex) (q:Nat),x= .ret (.agg [.p (.int .i64 e.op),.p (.int .i64 e.n),.p (.str e.name),slE 1 4 (exR e.kids)])∧h=[rdO b q,bx 4 (exR e.kids)]∧Q e q
def EoQ(p n m:Nat)(e:Ex)(q:Nat):Prop:=e.sz≤n∧p≤q∧q≤p+m
theorem BA{hF:List AO}{n:Nat}:∀h:List AO,FzO hF n h (List.replicate h.length .dead)
 |[]=> .nil _
 |o::r=>by rw[RW,List.replicate_succ];exact .dead (BA r)
theorem AY{hF:List AO}{n sz:Nat}{es es1:List (List AV)}(hl:es.length=es1.length)(hv:∀(j:Nat) (e e1:List AV),es[j]?=some e→es1[j]?=some e1→Fzs hF n e e1):∀(h:List AO) (id:Nat),h[id]?=some (.row sz es)→FzO hF n h ((List.replicate h.length .dead).set id (.row sz es1))
 |[],id,e=>by simp at e
 |o::r,0,e=>by
  cases e
  rw[RW,List.replicate_succ,List.set_cons_zero]
  exact .rows hl hv (BA r)
 |o::r,id+1,e=>by
  rw[RW,List.replicate_succ,List.set_cons_succ]
  exact .dead (AY hl hv r id (by simpa using e))
theorem Ce{f:FuncId}{args:List AV}{b:List Int}{p:Nat}{Q:Ex→Nat→Prop}(H:AC Tryz.prog G f args [rdO b p] (DT b Q)):AC Tryz.prog G f args [rdO b p] (EN b Q):=by
 refine H.wk (fun t v h ⟨_,_,_,_,e,_⟩=>by cases e) ?_
 rintro v h ⟨e,q,rest,K,ev,rfl,hk,hq⟩
 cases ev
 rcases hk with⟨rfl,hk⟩|⟨id,rows,hX,rfl,hne,he,x1,x2,x3,x4,x5,x6⟩
 ·refine⟨_,_,?_,e,q,rfl,rfl,hq⟩
  have h0:exR e.kids=[]:=by rw[hk];rfl
  rw[h0,mw,rV]
  exact Wk.ofL [0,0] (by simp) (by simp) (by simp[rdO,jV]) (by simp[below,aj,ren,bL]) (dB rfl (bU _ _ _) (fL (by simp) br))
 ·have hr:exR e.kids≠[]:=fun h=>hne (List.map_eq_nil_iff.1 h)
  have hrl:(exR e.kids).length=e.kids.length:=by simp[exR]
  rw[RK] at he
  have hid:id<rest.length:=(RB.1 he).1
  refine⟨.agg [.p (.int .i64 e.op),.p (.int .i64 e.n),.p (.str e.name),slE 1 4 (exR e.kids)],[rdO b q,bx 4 (exR e.kids)],?_,e,q,rfl,rfl,hq⟩
  rw[di hr,dS hr,hrl]
  refine Wk.trans (ts1:=[.agg [.p (.int .i64 e.op),.p (.int .i64 e.n),.p (.str e.name),.sl (id+1) 4 0 e.kids.length]]) (h1:=rdO b q::(List.replicate rest.length .dead).set id (.row 4 (exR e.kids))) (ED (hX:=hX) (by simp) x1 x2 (fun i ⟨o,e1,l1⟩ ⟨o2,e2,l2⟩=>?_) (by simp) rfl (fun i u hi=>?_) (.same (bU _ _ _) (AY (by rw[hrl];exact x5) x6 rest id he))) ?_
  ·cases i with
   |zero=>exact x3 ⟨o,e1,l1⟩
   |succ i=>
    by_cases hi:i=id
    ·subst hi;exact x4 ⟨o,e1,l1⟩
    ·rw[RK,RE (Ne.symm hi),List.getElem?_replicate] at e2
     split at e2
     ·cases e2;exact l2
     ·cases e2
  ·cases i with
   |zero=>cases hi;exact .inr ⟨_,rfl,gN (by simp[below,aj];exact hid)⟩
   |succ i=>simp at hi
  ·refine Wk.of [0,id+1] (by simp) (by simp) (by simp) (by simp[below,aj,ren,bL]) (dB rfl (bU _ _ _) (aG ?_ (dL _) br))
   rw[RK,RS (by simpa using hid)]
theorem vZ{f:FuncId}{args:List AV}{b:List Int}{p:Nat}{Q:Ex→Nat→Prop}(H:AC Tryz.prog G f args [rdO b p] (EN b Q))(rest:List AO)(ha:aj 1 args):
 AC Tryz.prog G f args (rdO b p::rest) fun x h=>∃(e:Ex) (q:Nat),x= .ret (.agg [.p (.int .i64 e.op),.p (.int .i64 e.n),.p (.str e.name),slE (rest.length+1) 4 (exR e.kids)])∧h=rdO b q::(rest++[bx 4 (exR e.kids)])∧Q e q:=by
 refine(H.frame (h:=rdO b p::rest) [0] (by simp) (AS (n:=1) ha) (dB rfl (bU _ _ _) br)).mono ?_
 rintro x h ⟨x0,h0,⟨e,q,rfl,rfl,hq⟩,hl,rfl,rfl⟩
 have hp:∀σ,ig σ (bx 4 (exR e.kids))=bx 4 (exR e.kids):=fun σ=>by
  unfold bx
  split
  ·rfl
  ·simp only[ig]
   rw[RT (g:=id) fun x hx=>dZ _ x (dL _ x hx)];simp
 have hp2:∀σ,ig σ (rdO b q)=rdO b q:=fun σ=>by simp[rdO,ig,bL,ren]
 refine⟨e,q,?_,?_,hq⟩
 ·simp[xu,ren,bL]
 ·have hl2:([rdO b q,bx 4 (exR e.kids)]:List AO).length-[rdO b p].length=1:=rfl
  rw[hl2]
  simp only[RW,List.length_nil,Su,List.take_succ_cons,List.take_zero,Sb,List.map_nil,hp2,List.drop_succ_cons,List.drop_zero,mrg,List.set_cons_zero,Sj,hp]
def LfQ(p:Nat)(v:AV)(q:Nat):Prop:=(∃(o n:Int) (s:List UInt8),v= .agg [.p (.int .i64 o),.p (.int .i64 n),.p (.str s),.nils]∧s.length≤8)∧p≤q∧q≤p+2
theorem Fw{b:List Int}(hb:Byt b)(hl:b.length≤2000){p:Nat}(hp:p≤1000000000000)(names:List (List UInt8))(hn:tS names):AC Tryz.prog G eD [.ptr 0 2 0 0,.p (aC names)] [rdO b p] fun x h=>∃v q,x= .ret v∧h=[rdO b q]∧LfQ p v q:=by
 refine lU G (AC.go rk ?_)
 have hsl:aC names= .lst 1 (names.map fun w=>[.str w]):=rfl
 have fin1:∀(o n:Int) (s:List UInt8) (q:Nat) (rest:List AO),p≤q→q≤p+2→s.length≤8→DP b (LfQ p) (.ret (.agg [.p (.int .i64 o),.p (.int .i64 n),.p (.str s),.nils])) (rdO b q::rest):=fun o n s q rest h1 h2 hs=>
  ⟨_,rest,q,_,rfl,rfl,gN (by simp),⟨o,n,s,rfl,hs⟩,h1,h2⟩
 have num:∀(q:Nat) (h:List AO),q≤1000000000001→h[0]?=some (rdO b q)→h[2]?=some (vt [0,1,2,3,5,7,15,16,100,255])→_:=fun q h hq h0 h1=>kq G hb hl (p:=q) (by omega) [0,1,2,3,5,7,15,16,100,255] (h:=h) (k:=2) (by simp) (by simp) (by omega) h0 h1
 by_cases hne:names=[]
 ·subst hne
  have hs0:aC []= .lst 1 []:=rfl
  simp-implicitDefEqProofs[gI,hs0]
  refine(num p _ (by omega) rfl rfl).mono ?_
  rintro r h ⟨n,_,rfl,rfl⟩
  simp-implicitDefEqProofs[aa]
  exact fin1 _ _ _ _ _ (by omega) (by omega) (by simp)
 ·have hlen:¬names.length=0:=fun h=>hne (Sw h)
  simp-implicitDefEqProofs[gI,hsl,hne]
  refine(aZ G b hb hl p (by omega) 3 _).mono ?_
  rintro r h ⟨k,rfl,rfl,_⟩
  simp-implicitDefEqProofs[aa]
  refine bf (fun hc=>?_) (fun hc=>?_)
  ·simp-implicitDefEqProofs[]
   refine(num (p+1) _ (by omega) rfl rfl).mono ?_
   rintro r h ⟨n,_,rfl,rfl⟩
   simp-implicitDefEqProofs[aa]
   exact fin1 _ _ _ _ _ (by omega) (by omega) (by simp)
  ·simp-implicitDefEqProofs[]
   rw[←hsl]
   refine(EB G hb hl (by omega) names hne (by have:=hn.1;omega) _).mono ?_
   rintro r h ⟨s,hs,rfl,rfl⟩
   have:=hn.2 s hs
   simp-implicitDefEqProofs[aa]
   exact fin1 _ _ _ _ _ (by omega) (by omega) this
theorem GQ{b:List Int}(hb:Byt b)(hl:b.length≤2000)(names:List (List UInt8))(hn:tS names)(d:Nat)(hd:d+1≤20){p:Nat}(hp:p+6*3^(d+1)≤1000000000000):AC Tryz.prog G bA [.ptr 0 2 0 0,.p (aC names),.p (.int .i64 ((d+1:Nat):Int))] [rdO b p] (EN b (EoQ p (10*3^(d+1)) (6*3^(d+1)))):=by
 have hpow:3^(d+1)=3*3^d:=by rw[Nat.pow_succ];omega
 have h1p:1≤3^d:=Nat.one_le_pow _ _ (by omega)
 have ih:=fun{p:Nat} (hp:p+6*3^d≤1000000000000)=>xb G hb hl names hn d (by omega) (p:=p) hp
 rw[hpow] at hp⊢
 generalize 3^d=t at*
 have hw:IntKind.i64.wrap (d:Int)=(d:Int):=af (by omega) (by omega)
 have leaf:∀(q:Nat) (rest:List AO),p≤q→q≤p+3→AC Tryz.prog G eD [.ptr 0 2 0 0,.p (aC names)] (rdO b q::rest) fun x h=>∃v q',x= .ret v∧h=rdO b q'::rest∧LfQ q v q':=fun q rest _ _=>iF G (Fw G hb hl (by omega) names hn) rest (by simp[below])
 have sub:∀(q:Nat) (rest:List AO),p≤q→q≤p+6+6*t→AC Tryz.prog G bA [.ptr 0 2 0 0,.p (aC names),.p (.int .i64 d)] (rdO b q::rest) fun x h=>∃v q',x= .ret v∧h=rdO b q'::rest∧ExQ q (10*t) (6*t) v q':=fun q rest _ _=>iF G (ih (by omega)) rest (by simp[below])
 refine Ce G (AC.go mF ?_)
 have leafCase:∀(o n:Int) (s:List UInt8) (q:Nat) (rest:List AO),s.length≤8→p≤q→q≤p+5→DT b (EoQ p (10*(3*t)) (6*(3*t))) (.ret (.agg [.p (.int .i64 o),.p (.int .i64 n),.p (.str s),.nils])) (rdO b q::rest):=fun o n s q rest h1 h2 h3=>
  ⟨⟨o,n,s,[]⟩,q,rest,_,rfl,rfl,.inl ⟨rfl,rfl⟩,by simp[Ex.sz,bC];omega,h2,by omega⟩
 have top:∀(kids:List Ex) (h:List AO) (k:Nat),h[k+1]?=some (.row 4 (exR kids))→kids≠[]→KP h kids (.sl (k+1) 4 0 kids.length):=fun kids h k hk hne=>
  .inr ⟨k,exR kids,List.replicate h.length .dead,rfl,hne,hk,by simp,fun i o e l=>(by rw[List.getElem?_replicate] at e;split at e<;>cases e;exact l.elim),fun⟨o,e,l⟩=>(by rw[List.getElem?_replicate] at e;split at e<;>cases e;exact l.elim),fun⟨o,e,l⟩=>(by rw[List.getElem?_replicate] at e;split at e<;>cases e;exact l.elim),by simp[exR],fun j e e1 h1 h2=>(by rw[h1] at h2;cases h2;exact gN (aW (Nat.zero_le _) _ (dL _ e (RI h1))))⟩
 have bin:∀(o:Int) (e1 e2:Ex) (q:Nat) (rest:List AO) (k:Nat),(rdO b q::rest)[k+1]?=some (.row 4 [e1.cs.map .p,e2.cs.map .p])→e1.sz≤10*t→e2.sz≤10*t→p≤q→q≤p+6*(3*t)→DT b (EoQ p (10*(3*t)) (6*(3*t))) (.ret (.agg [.p (.int .i64 o),.p (.int .i64 0),.p (.str []),.sl (k+1) 4 0 2])) (rdO b q::rest):=fun o e1 e2 q rest k hk h1 h2 h3 h4=>
  ⟨⟨o,0,[],[e1,e2]⟩,q,rest,_,rfl,rfl,top [e1,e2] _ k hk (by simp),by simp[Ex.sz,bC];omega,h3,h4⟩
 have una:∀(o:Int) (e1:Ex) (q:Nat) (rest:List AO) (k:Nat),(rdO b q::rest)[k+1]?=some (.row 4 [e1.cs.map .p])→e1.sz≤10*t→p≤q→q≤p+6*(3*t)→DT b (EoQ p (10*(3*t)) (6*(3*t))) (.ret (.agg [.p (.int .i64 o),.p (.int .i64 0),.p (.str []),.sl (k+1) 4 0 1])) (rdO b q::rest):=fun o e1 q rest k hk h1 h3 h4=>
  ⟨⟨o,0,[],[e1]⟩,q,rest,_,rfl,rfl,top [e1] _ k hk (by simp),by simp[Ex.sz,bC];omega,h3,h4⟩
 by_cases hd0:d=0
 ·subst hd0
  simp-implicitDefEqProofs[fq]
  refine(leaf p _ (by omega) (by omega)).mono ?_
  rintro r h ⟨v,q,rfl,rfl,⟨o,n,s,rfl,he⟩,h1,h2⟩
  simp-implicitDefEqProofs[aa]
  exact leafCase o n s q _ he (by omega) (by omega)
 have hd2:¬(d:Int)+1<2:=by omega
 simp-implicitDefEqProofs[fq,hd2]
 refine(aZ G b hb hl p (by omega) 4 _).mono ?_
 rintro r h ⟨k1,rfl,rfl,_⟩
 simp-implicitDefEqProofs[aa]
 refine bf (fun hc=>?_) (fun hc=>?_)
 ·simp-implicitDefEqProofs[]
  refine(leaf (p+1) _ (by omega) (by omega)).mono ?_
  rintro r h ⟨v,q,rfl,rfl,⟨o,n,s,rfl,he⟩,h1,h2⟩
  simp-implicitDefEqProofs[aa]
  exact leafCase o n s q _ he (by omega) (by omega)
 simp-implicitDefEqProofs[]
 refine(aZ G b hb hl (p+1) (by omega) 7 _).mono ?_
 rintro r h ⟨k2,rfl,rfl,_⟩
 simp-implicitDefEqProofs[aa]
 refine bf (fun hc=>?_) (fun hc=>?_)
 ·simp-implicitDefEqProofs[]
  refine(kq G hb hl (p:=p+2) (by omega) [11,12,11] (k:=2) (by simp) (by simp) (by omega) rfl rfl).mono ?_
  rintro r h ⟨n,_,rfl,rfl⟩
  simp-implicitDefEqProofs[aa,hw]
  refine(sub (p+3) _ (by omega) (by omega)).mono ?_
  rintro r h ⟨v,q,rfl,rfl,⟨e,rfl,he⟩,h1,h2⟩
  have hec:=e.cs_eq
  simp-implicitDefEqProofs[aa,hec]
  exact una n e q _ 2 (by rw[hec];rfl) he (by omega) (by omega)
 ·simp-implicitDefEqProofs[]
  refine(kq G hb hl (p:=p+2) (by omega) [3,3,4,5,6,7,8,9,10] (k:=2) (by simp) (by simp) (by omega) rfl rfl).mono ?_
  rintro r h ⟨n,_,rfl,rfl⟩
  simp-implicitDefEqProofs[aa,hw]
  refine(sub (p+3) _ (by omega) (by omega)).mono ?_
  rintro r h ⟨v,q,rfl,rfl,⟨e,rfl,he⟩,h1,h2⟩
  have hec:=e.cs_eq
  simp-implicitDefEqProofs[aa,hec,hw]
  refine(sub q _ (by omega) (by omega)).mono ?_
  rintro r h ⟨v,q2,rfl,rfl,⟨e2,rfl,he2⟩,h3,h4⟩
  have hec2:=e2.cs_eq
  simp-implicitDefEqProofs[aa,hec2]
  exact bin n e e2 q2 _ 2 (by rw[hec,hec2];rfl) he he2 (by omega) (by omega)
end
section
variable (G:aM)
theorem PD{h:List AO}{kids:List Ex}{id:Nat}(he:h[id+1]?=some (bx 4 (exR kids))):KP h kids (slE (id+1) 4 (exR kids)):=by
 by_cases hk:kids=[]
 ·subst hk;exact .inl ⟨rfl,rfl⟩
 ·have hr:exR kids≠[]:=fun h=>hk (List.map_eq_nil_iff.1 h)
  rw[dS hr] at he
  rw[di hr]
  have hrl:(exR kids).length=kids.length:=by simp[exR]
  rw[hrl]
  exact .inr ⟨id,exR kids,List.replicate h.length .dead,rfl,hk,he,by simp,fun i o e l=>(by rw[List.getElem?_replicate] at e;split at e<;>cases e;exact l.elim),fun⟨o,e,l⟩=>(by rw[List.getElem?_replicate] at e;split at e<;>cases e;exact l.elim),fun⟨o,e,l⟩=>(by rw[List.getElem?_replicate] at e;split at e<;>cases e;exact l.elim),by simp[exR],fun j e e1 h1 h2=>(by rw[h1] at h2;cases h2;exact gN (aW (Nat.zero_le _) _ (dL _ e (RI h1))))⟩
theorem NH(l:List Ex)(n:Nat):okO n (bx 4 (exR l)):=bR (AU (dL l))
theorem Im{hF:List AO}{n id:Nat}{e:Ex}(he:hF[id]?=some (bx 4 (exR e.kids))):Fzs hF n [.p (.int .i64 e.op),.p (.int .i64 e.n),.p (.str e.name),slE id 4 (exR e.kids)] (e.cs.map .p):=by
 rw[e.cs_eq]
 exact .keep (by simp) (.keep (by simp) (.keep (by simp) (.one (iC he) .nil)))
structure KdS where (k:Nat) (es:List Ex) (q:Nat)
theorem Al{b:List Int}(hb:Byt b)(hl:b.length≤2000){d:Nat}(hd:d+1≤7){p:Nat}(hp:p+20000≤1000000000000):AC Tryz.prog G gf [.ptr 0 2 0 0,.p (.int .i64 ((d+1:Nat):Int))] [rdO b p] (EN b (EoQ p 30000 20000)):=by
 refine Ce G (AC.go zY ?_)
 have h3:3^(d+1)≤2187:=by
  have:3^(d+1)≤3^7:=Nat.pow_le_pow_right (by omega) hd
  omega
 have fin:∀(e:Ex) (q:Nat) (rest:List AO) (K:AV),KP (rdO b q::rest) e.kids K→e.sz≤30000→p≤q→q≤p+20000→DT b (EoQ p 30000 20000) (.ret (.agg [.p (.int .i64 e.op),.p (.int .i64 e.n),.p (.str e.name),K])) (rdO b q::rest):=fun e q rest K hk h1 h2 h3=>
  ⟨e,q,rest,K,rfl,rfl,hk,h1,h2,h3⟩
 have hn4:tS [[97],[98],[120],[103,111]]:=⟨by simp,by simp⟩
 have hn2:tS [[97],[98]]:=⟨by simp,by simp⟩
 simp-implicitDefEqProofs[tr]
 refine(AC.give (hX:=[.dead,.dead,gw [[97],[98],[120],[103,111]]]) (hR:=[rdO b p,.row 4 [[.p (.int .i64 0),.p (.int .i64 0),.p (.str []),.nils]],.dead]) (pargs:=[.ptr 0 2 0 0,.p (aC [[97],[98],[120],[103,111]]),.p (.int .i64 ((d+1:Nat):Int))]) (.keep _ (.keep _ (.give _ .nil))) (.keep (by simp[below]) (.one (fu (l:=[[97],[98],[120],[103,111]]) rfl) (.keep (by simp) .nil))) (vZ G (GQ G hb hl _ hn4 d (by omega) (by omega)) _ (by simp[below]))).mono ?_
 rintro r h ⟨e0,q,rfl,rfl,he0,h1,h2⟩
 simp-implicitDefEqProofs[aa]
 refine(aZ G b hb hl q (by omega) 3 _).mono ?_
 rintro r h ⟨k1,rfl,rfl,_⟩
 simp-implicitDefEqProofs[aa]
 refine bf (fun hc=>?_) (fun hc=>?_)
 ·simp-implicitDefEqProofs[]
  exact fin e0 _ _ _ (PD rfl) (by omega) (by omega) (by omega)
 simp-implicitDefEqProofs[]
 refine(BE G hb hl (p:=q+1) (by omega) [[102],[103],[97]] (k:=5) (by simp) (by simp) (by omega) rfl rfl).mono ?_
 rintro r h ⟨s,hs,rfl,rfl⟩
 have hsl:s.length≤8:=by simp at hs;rcases hs with rfl|rfl|rfl<;>simp
 simp-implicitDefEqProofs[aa]
 refine(aZ G b hb hl (q+1+1) (by omega) 4 _).mono ?_
 rintro r h ⟨k2,rfl,rfl,hk2⟩
 simp-implicitDefEqProofs[aa]
 have hexn:∀(es:List Ex) (e:Ex),exR (es++[e])=exR es++[e.cs.map .p]:=fun es e=>by simp[exR]
 refine aV (fun s:KdS=>am 42 [(7,.p (.int .i64 s.k)),(6,.ptr 6 4 0 0),(5,.ptr 4 4 0 0),(4,.ptr 1 4 0 0),(0,.ptr 0 2 0 0)])
  (fun a=>[rdO b a.q,.row 4 [[.p (.int .i64 0),.p (.int .i64 0),.p (.str []),.nils]],.dead,bx 4 (exR e0.kids),.row 4 [[.p (.int .i64 e0.op),.p (.int .i64 e0.n),.p (.str e0.name),slE 3 4 (exR e0.kids)]],.row 1 [[.p (.str [102])],[.p (.str [103])],[.p (.str [97])]],
    .row 4 [[.p (.int .i64 13),.p (.int .i64 0),.p (.str s),slE 7 4 (exR a.es)]],bx 4 (exR a.es)])
  (fun a=>a.k+a.es.length≤3∧bC a.es≤90*a.es.length∧q≤a.q∧a.q≤q+3+54*a.es.length) (fun a=>a.k) ⟨k2,[],q+1+1+1⟩ ⟨by simp only[List.length_nil];omega,by simp[bC],by simp only;omega,by simp⟩
  (gJ (by simp) (by simp) (by
    intro o h
    simp only[RY,List.not_mem_nil,or_false] at h
    rcases h with rfl|rfl|rfl|rfl|rfl|rfl|rfl
    ·exact bU _ _ _
    ·simp[okO,below]
    ·simp[okO]
    ·exact NH _ _
    ·simp[okO,below]
    ·simp[okO,below]
    ·simp[okO,below]) (by simp[below])) ?_
 rintro⟨k,es,q1⟩ ⟨i1,i2,i3,i4⟩
 simp only at i1 i2 i3 i4
 have hxl:(exR es).length=es.length:=by simp[exR]
 simp-implicitDefEqProofs[]
 refine bf (fun hc=>?_) (fun hc=>?_)
 ·simp at hc
  simp-implicitDefEqProofs[]
  have hE:=iF G (xb G hb hl _ hn2 2 (by omega) (p:=q1) (by omega)) ([.row 4 [[.p (.int .i64 0),.p (.int .i64 0),.p (.str []),.nils]],.dead,bx 4 (exR e0.kids),.row 4 [[.p (.int .i64 e0.op),.p (.int .i64 e0.n),.p (.str e0.name),slE 3 4 (exR e0.kids)]],.row 1 [[.p (.str [102])],[.p (.str [103])],[.p (.str [97])]],
   .row 4 [[.p (.int .i64 13),.p (.int .i64 0),.p (.str s),slE 7 4 (exR es)]],bx 4 (exR es)]) (by simp[below])
  refine hE.mono ?_
  rintro r h ⟨v,q2,rfl,rfl,⟨e,rfl,he⟩,hq1,hq2⟩
  have hec':=e.cs_eq
  simp-implicitDefEqProofs[aa,hec']
  refine⟨by rw[hxl];omega,⟨k-1,es++[e],q2⟩,⟨by simp;omega,by rw[fZ];simp[bC];omega,by simp only;omega,by simp;omega⟩,by simp;omega,?_⟩
  have hwk:IntKind.i64.wrap ((k:Int)-1)=((k-1:Nat):Int):=by rw[af (by omega) (by omega)];omega
  rw[hexn,nO _ (by simp),lG _ (by simp),hec']
  refine bT [0,1,2,3,4,5,6,8] (by simp) (by decide) (by decide) (dB rfl (bU _ _ _) (cU (by simp[below]) (by simp[ren,bL]) (fL (by simp) (sw rfl (dL _) (cU (by simp[below]) (by simp[ren,bL]) (aG rfl (by simp[below]) (cU (by simp[below]) (by simp[ren,bL]) (aG rfl (fun x hx=>by
   rcases RJ.1 hx with h|h
   ·exact dL _ x h
   ·rw[RM.1 h];simp) br)))))))) ?_
  simp[below,ren,hwk]
 ·simp at hc
  simp-implicitDefEqProofs[]
  refine(aZ G b hb hl q1 (by omega) 2 _).mono ?_
  rintro r h ⟨k3,rfl,rfl,_⟩
  simp-implicitDefEqProofs[aa]
  refine bf (fun hc2=>?_) (fun hc2=>?_)
  ·simp-implicitDefEqProofs[]
   exact fin ⟨13,0,s,es⟩ (q1+1) _ _ (PD rfl) (by simp[Ex.sz];omega) (by omega) (by omega)
  ·simp-implicitDefEqProofs[]
   have hv:∀hF:List AO,hF[3]?=some (bx 4 (exR e0.kids))→hF[7]?=some (bx 4 (exR es))→∀(n j:Nat) (x x1:List AV),[[AV.p (.int .i64 e0.op),.p (.int .i64 e0.n),.p (.str e0.name),slE 3 4 (exR e0.kids)],[.p (.int .i64 13),.p (.int .i64 0),.p (.str s),slE 7 4 (exR es)]][j]?=some x→(exR [e0,⟨13,0,s,es⟩])[j]?=some x1→Fzs hF n x x1:=by
    intro hF h3 h7 n j x x1 a1 a2
    match j,a1,a2 with
    |0,a1,a2=>cases a1;cases a2;exact Im h3
    |1,a1,a2=>cases a1;cases a2;exact Im (e:=⟨13,0,s,es⟩) h7
    |j+2,a1,a2=>simp at a1
   refine fin ⟨3,0,[],[e0,⟨13,0,s,es⟩]⟩ (q1+1) _ _ (.inr ⟨7,_,[.dead,.dead,.dead,bx 4 (exR e0.kids),.dead,.dead,.dead,bx 4 (exR es),.dead],rfl,by simp[Ex.kids],rfl,rfl,fun i o e l=>?_,fun⟨o,e,l⟩=>?_,fun⟨o,e,l⟩=>?_,rfl,hv _ rfl rfl _⟩) (by simp[Ex.sz,bC];omega) (by omega) (by omega)
   ·match i,e with
    |0,e=>cases e;exact l.elim
    |1,e=>cases e;exact l.elim
    |2,e=>cases e;exact l.elim
    |3,e=>exact e
    |4,e=>cases e;exact l.elim
    |5,e=>cases e;exact l.elim
    |6,e=>cases e;exact l.elim
    |7,e=>exact e
    |8,e=>cases e;exact l.elim
    |i+9,e=>simp at e
   ·cases e;exact l
   ·cases e;exact l
theorem HK{b:List Int}(hb:Byt b)(hl:b.length≤2000){p:Nat}(hp:p+50000≤1000000000000):AC Tryz.prog G jC [.ptr 0 2 0 0] [rdO b p] fun x h=>∃v q,x= .ret v∧h=[rdO b q]∧ExQ p 60000 50000 v q:=by
 refine lU G (AC.go yH ?_)
 have fin:∀(e:Ex) (q:Nat) (rest:List AO) (v:AV),Fzs (.dead::rest) 1 [v] [.agg (e.cs.map .p)]→e.sz≤60000→p≤q→q≤p+50000→DP b (ExQ p 60000 50000) (.ret v) (rdO b q::rest):=fun e q rest v hz h1 h2 h3=>
  ⟨_,rest,q,.agg (e.cs.map .p),rfl,rfl,hz,⟨e,rfl,h1⟩,h2,h3⟩
 simp-implicitDefEqProofs[qS]
 refine(vZ G (Al G hb hl (d:=3) (by omega) (by omega)) _ (by simp[below])).mono ?_
 rintro r h ⟨e0,q,rfl,rfl,he0,h1,h2⟩
 have hsz:=e0.sz_eq
 have hkl:=bh e0.kids
 have hrl:(exR e0.kids).length=e0.kids.length:=by simp[exR]
 simp-implicitDefEqProofs[aa]
 refine(aZ G b hb hl q (by omega) 20 _).mono ?_
 rintro r h ⟨k1,rfl,rfl,_⟩
 by_cases k10:k1=0
 ·subst k10
  simp-implicitDefEqProofs[aa]
  refine(kq G hb hl (p:=q+1) (by omega) [-1,256,3] (k:=4) (by simp) (by simp) (by omega) rfl rfl).mono ?_
  rintro r h ⟨n,_,rfl,rfl⟩
  simp-implicitDefEqProofs[aa]
  exact fin ⟨e0.op,n,e0.name,e0.kids⟩ _ _ _ (zp (iC rfl)) (by simp[Ex.sz];omega) (by omega) (by omega)
 by_cases k11:k1=1
 ·subst k11
  simp-implicitDefEqProofs[aa]
  refine(BE G hb hl (p:=q+1) (by omega) [[],[100,111],[65],[97,98,99,100,101],[113]] (k:=4) (by simp) (by simp) (by omega) rfl rfl).mono ?_
  rintro r h ⟨s,hs,rfl,rfl⟩
  have hsl:s.length≤8:=by simp at hs;rcases hs with rfl|rfl|rfl|rfl|rfl<;>simp
  simp-implicitDefEqProofs[aa]
  exact fin ⟨e0.op,e0.n,s,e0.kids⟩ _ _ _ (zp (iC rfl)) (by simp[Ex.sz];omega) (by omega) (by omega)
 by_cases k12:k1=2
 ·subst k12
  simp-implicitDefEqProofs[aa]
  refine(kq G hb hl (p:=q+1) (by omega) [0,14,-1,5,11] (k:=4) (by simp) (by simp) (by omega) rfl rfl).mono ?_
  rintro r h ⟨n,_,rfl,rfl⟩
  simp-implicitDefEqProofs[aa]
  exact fin ⟨n,e0.n,e0.name,e0.kids⟩ _ _ _ (zp (iC rfl)) (by simp[Ex.sz];omega) (by omega) (by omega)
 by_cases k13:k1=3
 ·subst k13
  simp-implicitDefEqProofs[aa]
  refine(AC.give (pargs:=[.ptr 0 2 0 0,.p (aC [])]) (Spl.rest _) (.keep (by simp[below]) (.one (View.nils 1) .nil)) (iF G (xB G hb hl (p:=q+1) (by omega) [] ⟨by simp,by simp⟩) _ (by simp[below]))).mono ?_
  rintro r h ⟨v,q2,rfl,rfl,⟨e1,rfl,he1⟩,h3,h4⟩
  have hec1:=e1.cs_eq
  have hx:exR (e0.kids++[e1])=exR e0.kids++[[.p (.int .i64 e1.op),.p (.int .i64 e1.n),.p (.str e1.name),.p (exL e1.kids)]]:=by simp[exR,hec1]
  have hne:exR (e0.kids++[e1])≠[]:=by simp[exR]
  simp-implicitDefEqProofs[aa,hec1]
  refine⟨by omega,?_⟩
  rw[←hx]
  have hl2:(exR e0.kids).length+1=(exR (e0.kids++[e1])).length:=by simp[exR]
  have hv:∀h:List AO,h[4]?=some (.row 4 (exR (e0.kids++[e1])))→View h (.sl 4 4 0 ((exR e0.kids).length+1)) (exL (e0.kids++[e1])):=fun h e=>by
   have:=iC (h:=h) (id:=4) (l:=e0.kids++[e1]) (by rw[dS hne];exact e)
   rwa[di hne,←hl2] at this
  exact fin ⟨e0.op,e0.n,e0.name,e0.kids++[e1]⟩ q2 _ _ (zp (hv _ rfl)) (by simp[Ex.sz,fZ,bC];omega) (by omega) (by omega)
 by_cases k14:k1=4
 ·subst k14
  simp-implicitDefEqProofs[aa]
  refine(vZ G (Al G hb hl (d:=6) (by omega) (by omega)) _ (by simp[below])).mono ?_
  rintro r h ⟨e1,q2,rfl,rfl,he1,h3,h4⟩
  simp-implicitDefEqProofs[aa]
  have hs1:=e1.sz_eq
  exact fin ⟨e1.op,e1.n,e1.name,e1.kids⟩ _ _ _ (zp (iC rfl)) (by simp[Ex.sz];omega) (by omega) (by omega)
 have c1:¬(k1:Int)=1:=by omega
 have c2:¬(k1:Int)=2:=by omega
 have c3:¬(k1:Int)=3:=by omega
 have c4:¬(k1:Int)=4:=by omega
 simp-implicitDefEqProofs[aa,k10,c1,c2,c3,c4]
 exact fin ⟨e0.op,e0.n,e0.name,e0.kids⟩ _ _ _ (zp (iC rfl)) (by simp[Ex.sz];omega) (by omega) (by omega)
end
section
structure LV where (name:List UInt8) (num block:Nat)
structure WS where (vs:List LV) (count:Nat) (code:Int)
def fl(c k:Int):Int:=if c=0 then k else c
theorem wY{c k:Int}(h:c≠0):fl c k=c:=if_neg h
def lkV(vs:List LV)(s:List UInt8):Option LV:=vs.find? fun v=>decide (v.name=s)
def ep(fns:List Fd)(s:List UInt8):Option Nat:=fns.findIdx? fun f=>decide (f.name=s)
def yl(fns:List Fd)(j:Nat):Nat:=match fns[j]? with|some f=>f.params.length|none=>0
def nK(vs:List LV)(s:List UInt8)(c:Int):Int:=match lkV vs s with|none=>fl c 3|some _=>c
def nw(fns:List Fd)(k:Nat)(s:List UInt8)(n:Nat)(c:Int):Int:=
 match ep fns s with|none=>fl c 4|some j=>if k≤j then fl c 4 else if yl fns j=n then c else fl c 5
def io(fns:List Fd)(k:Nat)(vs:List LV)(o:Int)(s:List UInt8)(n:Nat)(c:Int):Int:=
 if o=2 then nK vs s c else if o=13 then nw fns k s n c else c
mutual
def jR(fns:List Fd)(k:Nat)(vs:List LV):Ex→Int→Int
 | .mk o _ s ks,c=>bB fns k vs ks (io fns k vs o s ks.length c)
def bB(fns:List Fd)(k:Nat)(vs:List LV):List Ex→Int→Int
 |[],c=>c
 |e::r,c=>bB fns k vs r (jR fns k vs e c)
end
def vnm(n:Nat):List UInt8:=[118,UInt8.ofNat (97+n%26)]
def xE(vs:List LV)(s:List UInt8):List UInt8:=match lkV vs s with|none=>s|some v=>vnm v.num
mutual
def rnE(vs:List LV):Ex→Ex
 | .mk o n s ks=> .mk o n (if o=2 then xE vs s else s) (kZ vs ks)
def kZ(vs:List LV):List Ex→List Ex
 |[]=>[]
 |e::r=>rnE vs e::kZ vs r
end
def oC(vs:List LV)(s:List UInt8)(b:Nat)(c:Int):Int:=match lkV vs s with|none=>c|some v=>if v.block=b then fl c 2 else c
def kO(w:WS)(s:List UInt8)(b:Nat):WS:=⟨⟨s,w.count,b⟩::w.vs,w.count+1,oC w.vs s b w.code⟩
def opW(o:Int)(s:List UInt8)(b:Nat)(w:WS):WS:=if o=1 then kO w s b else if o=2 then⟨w.vs,w.count,nK w.vs s w.code⟩ else w
def opN(o:Int)(s:List UInt8)(w:WS):List UInt8:=if o=1 then vnm w.count else if o=2 then xE w.vs s else s
def WS.back(w:WS)(vs:List LV):WS:=⟨vs,w.count,w.code⟩
mutual
def stW(fns:List Fd)(k b:Nat):Sm→WS→WS
 | .mk o s a bd el,w=>
   let w2:=opW o s b ⟨w.vs,w.count,bB fns k w.vs a w.code⟩
   let w3:=(cg fns k (b+1) bd w2).back w2.vs
   (cg fns k (b+1) el w3).back w2.vs
def cg(fns:List Fd)(k b:Nat):List Sm→WS→WS
 |[],w=>w
 |s::r,w=>cg fns k b r (stW fns k b s w)
end
def dC(ps:List (List UInt8))(w:WS):WS:=ps.foldl (fun w s=>kO w s 0) w
def fnW(fns:List Fd)(k:Nat)(f:Fd):WS:=cg fns k 0 f.body (dC f.params ⟨[],0,if ep fns f.name=some k then 0 else 2⟩)
def js(fns:List Fd):Nat→List Fd→Int
 |_,[]=>0
 |k,f::r=>if(fnW fns k f).code=0 then js fns (k+1) r else(fnW fns k f).code
def aI(fns:List Fd):Int:=if bq fns then js fns 0 fns else 1
abbrev Scp:=List (List UInt8 × Nat)
def jw(m:Scp)(s:List UInt8):Option Nat:=(m.find? fun x=>decide (x.1=s)).map (·.2)
def kF:Scp→List UInt8→Nat→Scp
 |[],s,n=>[(s,n)]
 |x::r,s,n=>if x.1=s then(s,n)::r else x::kF r s n
def iw:List Scp→List UInt8→Option Nat
 |[],_=>none
 |m::r,s=>match jw m s with|some n=>some n|none=>iw r s
def il(fns:List Fd)(k:Nat)(ch:List Scp)(c:Int)(e:Ex):Int:=
 if e.op=2 then(if(iw ch e.name).isSome then c else fl c 3)
 else if e.op=13 then(match ep (fns.take k) e.name with|none=>fl c 4|some j=>if yl fns j=e.kids.length then c else fl c 5)
 else c
mutual
def Ex.pre:Ex→List Ex
 | .mk o n s ks=> .mk o n s ks::ff ks
def ff:List Ex→List Ex
 |[]=>[]
 |e::r=>e.pre++ff r
end
def DL(fns:List Fd)(k:Nat)(ch:List Scp)(l:List Ex)(c:Int):Int:=(ff l).foldl (il fns k ch) c
def opS(o:Int)(s:List UInt8)(m:Scp)(n:Nat):Scp:=if o=1 then kF m s n else m
def opC(o:Int)(s:List UInt8)(m:Scp)(up:List Scp)(c:Int):Int:=
 if o=1 then(if(jw m s).isSome then fl c 2 else c) else if o=2 then(if(iw (m::up) s).isSome then c else fl c 3) else c
mutual
def icS(fns:List Fd)(k:Nat):Sm→Scp→List Scp→Int→Scp × Int
 | .mk o s a bd el,m,up,c=>
   let m2:=opS o s m 0
   let c2:=opC o s m up (DL fns k (m::up) a c)
   (m2,if o=5∨o=6 then(iV fns k el [] (m2::up) (iV fns k bd [] (m2::up) c2).2).2 else c2)
def iV(fns:List Fd)(k:Nat):List Sm→Scp→List Scp→Int→Scp × Int
 |[],m,_,c=>(m,c)
 |s::r,m,up,c=>iV fns k r (icS fns k s m up c).1 up (icS fns k s m up c).2
end
def mD(ps:List (List UInt8))(m:Scp)(c:Int):Scp × Int:=ps.foldl (fun x s=>(kF x.1 s 0,if(jw x.1 s).isSome then fl x.2 2 else x.2)) (m,c)
def icF(fns:List Fd)(k:Nat)(f:Fd)(c:Int):Int:=
 let c1:=if(match ep fns f.name with|some j=>decide (j<k)|none=>true) then fl c 2 else c
 let x:=mD f.params [] c1
 (iV fns k f.body x.1 [] x.2).2
def lq(fns:List Fd):Nat→List Fd→Int→Int
 |_,[],c=>c
 |k,f::r,c=>lq fns (k+1) r (icF fns k f c)
def SR(g:LV→Nat):Nat→List LV→List Scp→Prop
 |_,_,[]=>False
 |b,vs,m::up=>∃v1 v2,vs=v1++v2∧(∀v∈v1,v.block=b)∧(∀s,(lkV v1 s).map g=jw m s)∧match b with
  |0=>v2=[]∧up=[]
  |b+1=>SR g b v2 up
theorem EH(a b:List LV)(s:List UInt8):lkV (a++b) s=match lkV a s with|some v=>some v|none=>lkV b s:=by
 simp only[lkV,List.find?_append]
 cases List.find? (fun v=>decide (v.name=s)) a<;>rfl
variable {g:LV→Nat}
theorem SR.blk:∀{b:Nat} {vs:List LV} {ch:List Scp},SR g b vs ch→∀v∈vs,v.block≤b
 |b,_,[],h,v,hv=>by cases b<;>exact False.elim h
 |0,vs,m::up,⟨v1,v2,e,h1,_,h3,_⟩,v,hv=>by
  subst e;subst h3
  rw[Ss] at hv
  exact Nat.le_of_eq (h1 v hv)
 |b+1,vs,m::up,⟨v1,v2,e,h1,_,h3⟩,v,hv=>by
  subst e
  rcases RJ.1 hv with h|h
  ·exact Nat.le_of_eq (h1 v h)
  ·exact Nat.le_succ_of_le (SR.blk h3 v h)
theorem SR.fnd:∀{b:Nat} {vs:List LV} {ch:List Scp},SR g b vs ch→∀s,(lkV vs s).map g=iw ch s
 |b,_,[],h,s=>by cases b<;>exact False.elim h
 |0,vs,m::up,⟨v1,v2,e,h1,h2,h3,h4⟩,s=>by
  subst e;subst h3;subst h4
  rw[Ss,h2,iw]
  cases jw m s<;>rfl
 |b+1,vs,m::up,⟨v1,v2,e,h1,h2,h3⟩,s=>by
  subst e
  have ih:=SR.fnd h3 s
  have h2:=h2 s
  rw[EH,iw,←h2]
  cases e1:lkV v1 s with
  |some v=>rfl
  |none=>exact ih
theorem SR.is{b:Nat}{vs:List LV}{ch:List Scp}(h:SR g b vs ch)(s:List UInt8):(lkV vs s).isSome=(iw ch s).isSome:=by rw[←h.fnd s,Option.isSome_map]
theorem Fi{vs:List LV}{s:List UInt8}{v:LV}(h:lkV vs s=some v):v∈vs:=List.mem_of_find?_eq_some h
theorem SR.put:∀{b:Nat} {vs:List LV} {m:Scp} {up:List Scp},SR g b vs (m::up)→∀(s:List UInt8) (c:Int),oC vs s b c=if(jw m s).isSome then fl c 2 else c:=by
 intro b vs m up h s c
 have key:∀v1 v2:List LV,(∀v∈v1,v.block=b)→(lkV v1 s).map g=jw m s→(∀v∈v2,v.block≠b)→oC (v1++v2) s b c=if(jw m s).isSome then fl c 2 else c:=by
  intro v1 v2 h1 h2 h3
  rw[←h2,oC,EH]
  cases e1:lkV v1 s with
  |some v=>simp[h1 v (Fi e1)]
  |none=>
   cases e2:lkV v2 s with
   |none=>rfl
   |some v=>simp[h3 v (Fi e2)]
 match b,h with
 |0,⟨v1,v2,e,h1,h2,h3,_⟩=>subst e;subst h3;exact key v1 [] h1 (h2 s) (fun v hv=>by simp at hv)
 |b+1,⟨v1,v2,e,h1,h2,h3⟩=>subst e;exact key v1 v2 h1 (h2 s) (fun v hv e=>by have:=h3.blk v hv;omega)
theorem wA:∀(m:Scp) (s:List UInt8) (n:Nat) (t:List UInt8),jw (kF m s n) t=if s=t then some n else jw m t
 |[],s,n,t=>by
  by_cases h:s=t
  ·simp[kF,jw,h]
  ·simp[kF,jw,h]
 |x::r,s,n,t=>by
  have ih:=wA r s n t
  simp only[jw] at ih
  by_cases hx:x.1=s
  ·by_cases h:s=t
   ·simp[kF,jw,hx,h]
   ·have:¬x.1=t:=by rw[hx];exact h
    simp[kF,jw,hx,h]
  ·by_cases ht:x.1=t
   ·have:¬s=t:=fun e=>hx (ht.trans e.symm)
    rw[kF,if_neg hx,if_neg this];simp[jw,ht]
   ·simp only[kF,jw,if_neg hx,List.find?_cons,ht,decide_false]
    exact ih
theorem SR.add{b:Nat}{vs:List LV}{m:Scp}{up:List Scp}(h:SR g b vs (m::up))(s:List UInt8)(n k:Nat)(hg:g ⟨s,n,b⟩=k):SR g b (⟨s,n,b⟩::vs) (kF m s k::up):=by
 have key:∀v1:List LV,(∀s,(lkV v1 s).map g=jw m s)→∀t,(lkV (⟨s,n,b⟩::v1) t).map g=jw (kF m s k) t:=by
  intro v1 h2 t
  rw[wA]
  by_cases e:s=t
  ·simp[lkV,e,←hg]
  ·rw[if_neg e,←h2 t];simp[lkV,e]
 match b,h with
 |0,⟨v1,v2,e,h1,h2,h3⟩=>
  subst e
  refine⟨⟨s,n,0⟩::v1,v2,rfl,fun v hv=>?_,key v1 h2,h3⟩
  rcases RY.1 hv with rfl|hv
  ·rfl
  ·exact h1 v hv
 |b+1,⟨v1,v2,e,h1,h2,h3⟩=>
  subst e
  refine⟨⟨s,n,b+1⟩::v1,v2,rfl,fun v hv=>?_,key v1 h2,h3⟩
  rcases RY.1 hv with rfl|hv
  ·rfl
  ·exact h1 v hv
theorem SR.open{b:Nat}{vs:List LV}{ch:List Scp}(h:SR g b vs ch):SR g (b+1) vs ([]::ch):=⟨[],vs,rfl,fun v hv=>by simp at hv,fun s=>rfl,h⟩
theorem SR.base:SR g 0 [] [[]]:=⟨[],[],rfl,fun v hv=>by simp at hv,fun s=>rfl,rfl,rfl⟩
theorem zS{α:Type}{p:α→Bool}{l:List α}{k:Nat}:(l.take k).findIdx? p=match l.findIdx? p with|some j=>if j<k then some j else none|none=>none:=by
 cases h:l.findIdx? p with
 |none=>
  rw[So] at h⊢
  exact fun x hx=>h x (Sv hx)
 |some j=>
  rw[Sa] at h
  obtain⟨h1,h2,h3⟩:=h
  simp only
  split
  ·rename_i hj
   rw[Sa]
   exact⟨by rw[RZ];omega,by rw[List.getElem_take];exact h2,fun i hi=>by rw[List.getElem_take];exact h3 i hi⟩
  ·rename_i hj
   rw[So]
   intro x hx
   obtain⟨i,hi,rfl⟩:=List.mem_take_iff_getElem.1 hx
   simpa using h3 i (by omega)
theorem Jy(fns:List Fd)(k:Nat){vs:List LV}{ch:List Scp}(h:∀s,(lkV vs s).isSome=(iw ch s).isSome)(e:Ex)(c:Int):io fns k vs e.op e.name e.kids.length c=il fns k ch c e:=by
 unfold io il
 split
 ·rw[←h,nK];cases lkV vs e.name<;>rfl
 ·split
  ·rw[nw,ep,ep,zS]
   cases List.findIdx? (fun f=>decide (f.name=e.name)) fns with
   |none=>rfl
   |some j=>
    simp only
    by_cases hj:j<k
    ·rw[if_neg (by omega),if_pos hj]
    ·rw[if_pos (by omega),if_neg hj]
  ·rfl
mutual
theorem Lp(fns:List Fd)(k:Nat){vs:List LV}{ch:List Scp}(h:∀s,(lkV vs s).isSome=(iw ch s).isSome):∀(e:Ex) (c:Int),jR fns k vs e c=e.pre.foldl (il fns k ch) c
 | .mk o n s ks,c=>by
   rw[jR,Ex.pre,List.foldl_cons,←wy fns k h ks,←Jy fns k h];rfl
theorem wy(fns:List Fd)(k:Nat){vs:List LV}{ch:List Scp}(h:∀s,(lkV vs s).isSome=(iw ch s).isSome):∀(l:List Ex) (c:Int),bB fns k vs l c=(ff l).foldl (il fns k ch) c
 |[],c=>rfl
 |e::r,c=>by rw[bB,ff,List.foldl_append,Lp fns k h e,wy fns k h r]
end
abbrev g0:LV→Nat:=fun _=>0
theorem ME{b:Nat}{w:WS}{m:Scp}{up:List Scp}(h:SR g0 b w.vs (m::up))(o:Int)(s:List UInt8):SR g0 b (opW o s b w).vs (opS o s m 0::up)∧(opW o s b w).code=opC o s m up w.code:=by
 unfold opW opS opC
 by_cases h1:o=1
 ·simp only[h1,if_true]
  exact⟨h.add s _ 0 rfl,h.put s _⟩
 ·simp only[if_neg h1]
  split
  ·refine⟨h,?_⟩
   have:=h.is s
   simp only[nK]
   rw[←this]
   cases lkV w.vs s<;>rfl
  ·exact⟨h,rfl⟩
theorem CU{d:Nat}{o:Int}{s:List UInt8}{a:List Ex}{bd el:List Sm}(h:au (d+1) (.mk o s a bd el)=true):bd.all (au d)=true∧el.all (au d)=true∧(¬(o=5∨o=6)→bd=[]∧el=[]):=by
 simp only[au,eU,Sm.op,Sm.body,Sm.els,RL,Bool.or_eq_true,decide_eq_true_eq,List.isEmpty_iff] at h
 refine⟨h.1.2,h.2,fun hn=>⟨?_,?_⟩⟩
 ·rcases h.1.1.2 with(h|h)|h
  ·exact h
  ·exact absurd (.inl (of_decide_eq_true h)) hn
  ·exact absurd (.inr (of_decide_eq_true h)) hn
 ·rcases h.1.1.1.2 with h|h
  ·exact h
  ·exact absurd (.inl (of_decide_eq_true h)) hn
theorem gh(w:WS)(vs:List LV):(w.back vs).code=w.code:=rfl
theorem NA(fns:List Fd)(k:Nat):∀(d b:Nat) (l:List Sm),l.all (au d)=true→∀(w:WS) (m:Scp) (up:List Scp),SR g0 b w.vs (m::up)→
 SR g0 b (cg fns k b l w).vs ((iV fns k l m up w.code).1::up)∧(cg fns k b l w).code=(iV fns k l m up w.code).2:=by
 intro d
 induction d with
 |zero=>
  intro b l hl w m up h
  cases l with
  |nil=>exact⟨h,rfl⟩
  |cons s r=>simp[au] at hl
 |succ d ih=>
  have eZ:∀(b:Nat) (s:Sm),au (d+1) s=true→∀(w:WS) (m:Scp) (up:List Scp),SR g0 b w.vs (m::up)→
   SR g0 b (stW fns k b s w).vs ((icS fns k s m up w.code).1::up)∧(stW fns k b s w).code=(icS fns k s m up w.code).2:=by
   intro b s hs w m up h
   obtain⟨o,n,a,bd,el⟩:=s
   obtain⟨f1,f2,f3⟩:=CU hs
   have hc:=wy fns k h.is a w.code
   obtain⟨g1,g2⟩:=ME (w:=⟨w.vs,w.count,bB fns k w.vs a w.code⟩) h o n
   rw[stW,icS]
   simp only[hc] at g1 g2⊢
   generalize hw2:opW o n b ⟨w.vs,w.count,(ff a).foldl (il fns k (m::up)) w.code⟩=w2 at*
   refine⟨g1,?_⟩
   rw[gh]
   have g2':w2.code=opC o n m up (DL fns k (m::up) a w.code):=g2
   rw[←g2']
   by_cases ho:o=5∨o=6
   ·rw[if_pos ho]
    have k1:=ih (b+1) bd f1 w2 [] _ g1.open
    have k2:=ih (b+1) el f2 ((cg fns k (b+1) bd w2).back w2.vs) [] _ g1.open
    rw[k2.2,gh,k1.2]
   ·obtain⟨rfl,rfl⟩:=f3 ho
    rw[if_neg ho]
    simp[cg,WS.back]
  intro b l
  induction l with
  |nil=>intro _ w m up h;exact⟨h,rfl⟩
  |cons s r ihl=>
   intro hl w m up h
   rw[List.all_cons,RL] at hl
   obtain⟨k1,k2⟩:=eZ b s hl.1 w m up h
   have:=ihl hl.2 _ _ up k1
   rw[cg,iV,←k2]
   exact this
theorem Fa:∀(ps:List (List UInt8)) (w:WS) (m:Scp),SR g0 0 w.vs [m]→SR g0 0 (dC ps w).vs [(mD ps m w.code).1]∧(dC ps w).code=(mD ps m w.code).2
 |[],w,m,h=>⟨h,rfl⟩
 |s::r,w,m,h=>by
  have hp:=h.put s w.code
  have:=Fa r (kO w s 0) (kF m s 0) (h.add s w.count 0 rfl)
  simp only[dC,mD,List.foldl_cons] at this⊢
  rw[←hp]
  exact this
theorem Iy{fns:List Fd}{k:Nat}{ch:List Scp}{c:Int}(h:c≠0)(e:Ex):il fns k ch c e=c:=by
 unfold il
 simp only[wY h]
 split
 ·split<;>rfl
 ·split
  ·split
   ·rfl
   ·split<;>rfl
  ·rfl
theorem za{fns:List Fd}{k:Nat}{ch:List Scp}{c:Int}(h:c≠0):∀l:List Ex,l.foldl (il fns k ch) c=c
 |[]=>rfl
 |e::r=>by rw[List.foldl_cons,Iy h,za h r]
theorem Hm{o:Int}{s:List UInt8}{m:Scp}{up:List Scp}{c:Int}(h:c≠0):opC o s m up c=c:=by
 unfold opC
 simp only[wY h]
 split
 ·split<;>rfl
 ·split
  ·split<;>rfl
  ·rfl
mutual
theorem Iv(fns:List Fd)(k:Nat){c:Int}(h:c≠0):∀(s:Sm) (m:Scp) (up:List Scp),(icS fns k s m up c).2=c
 | .mk o s a bd el,m,up=>by
   rw[icS]
   simp only[DL,za h,Hm h]
   rw[pX fns k h bd,pX fns k h el,ite_self]
theorem pX(fns:List Fd)(k:Nat){c:Int}(h:c≠0):∀(l:List Sm) (m:Scp) (up:List Scp),(iV fns k l m up c).2=c
 |[],m,up=>rfl
 |s::r,m,up=>by rw[iV,Iv fns k h s m up,pX fns k h r]
end
theorem yZ{c:Int}(h:c≠0):∀(ps:List (List UInt8)) (m:Scp),(mD ps m c).2=c
 |[],m=>rfl
 |s::r,m=>by
  have:=yZ h r (kF m s 0)
  simp only[mD,List.foldl_cons,wY h,ite_self] at this⊢
  exact this
theorem IG(fns:List Fd)(k:Nat)(f:Fd){c:Int}(h:c≠0):icF fns k f c=c:=by
 simp only[icF,wY h,ite_self]
 rw[yZ h,pX fns k h]
theorem wV(fns:List Fd){c:Int}(h:c≠0):∀(l:List Fd) (k:Nat),lq fns k l c=c
 |[],k=>rfl
 |f::r,k=>by rw[lq,IG fns k f h,wV fns h r]
theorem zB{fns:List Fd}{k:Nat}{f:Fd}(h:fns[k]?=some f):∃j,ep fns f.name=some j∧j≤k:=by
 cases e:ep fns f.name with
 |none=>
  rw[ep,So] at e
  have:=e f (RI h)
  simp at this
 |some j=>
  refine⟨j,rfl,?_⟩
  rw[ep,Sa] at e
  obtain⟨h1,h2,h3⟩:=e
  rcases Sl k j with hk|hk
  ·have:=h3 k hk
   obtain⟨a1,a2⟩:=RB.1 h
   rw[a2] at this
   simp at this
  ·exact hk
theorem OY(fns:List Fd){k:Nat}{f:Fd}(hf:fns[k]?=some f)(hok:ia f=true):(fnW fns k f).code=icF fns k f 0:=by
 obtain⟨j,e1,e2⟩:=zB hf
 have hb:f.body.all (au 4)=true:=by simp only[ia,RL] at hok;exact hok.2
 have hc:(if ep fns f.name=some k then(0:Int) else 2)=if(match ep fns f.name with|some j=>decide (j<k)|none=>true) then fl 0 2 else 0:=by
  rw[e1]
  by_cases h:j=k
  ·subst h;simp
  ·have:j<k:=by omega
   simp[h,this,fl]
 obtain⟨p1,p2⟩:=Fa f.params ⟨[],0,if ep fns f.name=some k then(0:Int) else 2⟩ [] SR.base
 obtain⟨q1,q2⟩:=NA fns k 4 0 f.body hb _ _ [] p1
 rw[fnW,q2,p2]
 simp only[icF,←hc]
theorem Jt(fns:List Fd):∀(l:List Fd) (k:Nat),(∀i,l[i]?=fns[k+i]?)→l.all ia=true→js fns k l=lq fns k l 0
 |[],k,_,_=>rfl
 |f::r,k,hl,ha=>by
  rw[List.all_cons,RL] at ha
  have h0:fns[k]?=some f:=by have:=hl 0;simpa using this.symm
  have hr:∀i,r[i]?=fns[k+1+i]?:=fun i=>by have:=hl (i+1);rw[RK] at this;rw[this];congr 1;omega
  rw[js,lq,OY fns h0 ha.1]
  split
  ·rename_i e;rw[e];exact Jt fns r (k+1) hr ha.2
  ·rename_i e;rw[wV fns e]
theorem DV(fns:List Fd):aI fns=if bq fns then lq fns 0 fns 0 else 1:=by
 unfold aI
 split
 ·rename_i h
  simp only[bq,RL] at h
  exact Jt fns fns 0 (fun i=>by rw[Su]) h.1.2
 ·rfl
end
section
mutual
def rnS(fns:List Fd)(k b:Nat):Sm→WS→Sm
 | .mk o s a bd el,w=>
   let w2:=opW o s b ⟨w.vs,w.count,bB fns k w.vs a w.code⟩
   .mk o (opN o s w) (kZ w.vs a) (iX fns k (b+1) bd w2) (iX fns k (b+1) el ((cg fns k (b+1) bd w2).back w2.vs))
def iX(fns:List Fd)(k b:Nat):List Sm→WS→List Sm
 |[],_=>[]
 |s::r,w=>rnS fns k b s w::iX fns k b r (stW fns k b s w)
end
def qy:List (List UInt8)→WS→List (List UInt8)
 |[],_=>[]
 |s::r,w=>vnm w.count::qy r (kO w s 0)
def rnF(fns:List Fd)(k:Nat)(f:Fd):Fd:=
 ⟨f.name,qy f.params ⟨[],0,if ep fns f.name=some k then 0 else 2⟩,iX fns k 0 f.body (dC f.params ⟨[],0,if ep fns f.name=some k then 0 else 2⟩)⟩
mutual
def Gx:Sm→Nat
 | .mk o _ _ bd el=>(if o=1 then 1 else 0)+qZ bd+qZ el
def qZ:List Sm→Nat
 |[]=>0
 |s::r=>Gx s+qZ r
end
theorem tK(o:Int)(s:List UInt8)(b:Nat)(w:WS):(opW o s b w).count=w.count+if o=1 then 1 else 0:=by
 unfold opW
 split
 ·rfl
 ·split<;>rfl
mutual
theorem zr(fns:List Fd)(k:Nat):∀(s:Sm) (b:Nat) (w:WS),(stW fns k b s w).count=w.count+Gx s
 | .mk o s a bd el,b,w=>by
   rw[stW,Gx]
   simp only[WS.back]
   rw[ju fns k el,ju fns k bd,tK];show w.count+_+_+_=_
   omega
theorem ju(fns:List Fd)(k:Nat):∀(l:List Sm) (b:Nat) (w:WS),(cg fns k b l w).count=w.count+qZ l
 |[],b,w=>rfl
 |s::r,b,w=>by rw[cg,qZ,ju fns k r,zr fns k s];omega
end
mutual
theorem LL:∀s:Sm,Gx s≤s.cnt
 | .mk o s a bd el=>by
   have:=sA bd
   have:=sA el
   simp only[Gx,Sm.cnt]
   split<;>omega
theorem sA:∀l:List Sm,qZ l≤dj l
 |[]=>RN _
 |s::r=>by have:=LL s;have:=sA r;simp only[qZ,dj];omega
end
theorem uR:∀(ps:List (List UInt8)) (w:WS),(dC ps w).count=w.count+ps.length
 |[],w=>rfl
 |s::r,w=>by
  have:=uR r (kO w s 0)
  simp only[dC,List.foldl_cons,RW] at this⊢
  rw[this];simp only[kO];omega
theorem LC(o:Int)(s:List UInt8)(b:Nat)(w:WS):∃e,(opW o s b w).vs=e++w.vs:=by
 unfold opW
 split
 ·exact⟨[_],rfl⟩
 ·split<;>exact⟨[],rfl⟩
theorem Jp(fns:List Fd)(k b:Nat)(o:Int)(s:List UInt8)(a:List Ex)(bd el:List Sm)(w:WS):(stW fns k b (.mk o s a bd el) w).vs=(opW o s b ⟨w.vs,w.count,bB fns k w.vs a w.code⟩).vs:=rfl
theorem Bw(fns:List Fd)(k:Nat):∀(l:List Sm) (b:Nat) (w:WS),∃e,(cg fns k b l w).vs=e++w.vs
 |[],b,w=>⟨[],rfl⟩
 | .mk o s a bd el::r,b,w=>by
   obtain⟨e1,h1⟩:=Bw fns k r b (stW fns k b (.mk o s a bd el) w)
   obtain⟨e2,h2⟩:=LC o s b ⟨w.vs,w.count,bB fns k w.vs a w.code⟩
   exact⟨e1++e2,by rw[cg,h1,Jp,h2,Sg]⟩
theorem Nj{o:Int}{s:List UInt8}{b:Nat}{w:WS}(h:w.vs.length≤w.count):(opW o s b w).vs.length≤(opW o s b w).count:=by
 unfold opW
 split
 ·simp[kO,h]
 ·split<;>exact h
theorem MX(fns:List Fd)(k:Nat){s:Sm}{b:Nat}{w:WS}(h:w.vs.length≤w.count):(stW fns k b s w).vs.length≤(stW fns k b s w).count:=by
 obtain⟨o,n,a,bd,el⟩:=s
 rw[zr,Jp]
 have:=Nj (o:=o) (s:=n) (b:=b) (w:=⟨w.vs,w.count,bB fns k w.vs a w.code⟩) h
 rw[tK] at this
 simp only[Gx]
 simp only at this
 omega
theorem EM(fns:List Fd)(k:Nat):∀{l:List Sm} {b:Nat} {w:WS},w.vs.length≤w.count→(cg fns k b l w).vs.length≤(cg fns k b l w).count
 |[],_,_,h=>h
 |s::r,b,w,h=>EM fns k (l:=r) (MX fns k h)
mutual
def Sm.pre(d:Nat):Sm→List (Sm × Nat)
 | .mk o s a bd el=>(.mk o s a bd el,d)::(cV (d+1) bd++cV (d+1) el)
def cV(d:Nat):List Sm→List (Sm × Nat)
 |[]=>[]
 |s::r=>Sm.pre d s++cV d r
end
theorem Sm.pre_eq(d:Nat)(s:Sm):s.pre d=(s,d)::(cV (d+1) s.body++cV (d+1) s.els):=by cases s;rfl
theorem rD(d:Nat):∀a b:List Sm,cV d (a++b)=cV d a++cV d b
 |[],b=>rfl
 |s::r,b=>by rw[Sj,cV,cV,rD d r b,Sg]
theorem Ex.pre_eq(e:Ex):e.pre=e::ff e.kids:=by cases e;rfl
theorem ny:∀a b:List Ex,ff (a++b)=ff a++ff b
 |[],b=>rfl
 |e::r,b=>by rw[Sj,ff,ff,ny r b,Sg]
mutual
theorem Sm.pre_len:∀(s:Sm) (d:Nat),(s.pre d).length=s.cnt
 | .mk o s a bd el,d=>by simp only[Sm.pre,Sm.cnt,RW,RR,lD bd,lD el];omega
theorem lD:∀(l:List Sm) (d:Nat),(cV d l).length=dj l
 |[],d=>rfl
 |s::r,d=>by simp only[cV,dj,RR,Sm.pre_len s,lD r]
end
end
section
theorem zC{vs:List LV}{s:List UInt8}{c:Int}(h:c≠0):nK vs s c=c:=by unfold nK;split<;>simp[wY h]
theorem Ej{fns:List Fd}{k:Nat}{s:List UInt8}{n:Nat}{c:Int}(h:c≠0):nw fns k s n c=c:=by
 unfold nw
 simp only[wY h]
 split
 ·rfl
 ·split
  ·rfl
  ·split<;>rfl
theorem Di{fns:List Fd}{k:Nat}{vs:List LV}{o:Int}{s:List UInt8}{n:Nat}{c:Int}(h:c≠0):io fns k vs o s n c=c:=by
 unfold io
 rw[zC h,Ej h]
 split
 ·rfl
 ·split<;>rfl
mutual
theorem Gs(fns:List Fd)(k:Nat)(vs:List LV){c:Int}(h:c≠0):∀e:Ex,jR fns k vs e c=c
 | .mk o n s ks=>by rw[jR,Di h,nM fns k vs h ks]
theorem nM(fns:List Fd)(k:Nat)(vs:List LV){c:Int}(h:c≠0):∀l:List Ex,bB fns k vs l c=c
 |[]=>rfl
 |e::r=>by rw[bB,Gs fns k vs h e,nM fns k vs h r]
end
theorem jo{fns:List Fd}{k:Nat}{vs:List LV}{l:List Ex}{c:Int}(h:bB fns k vs l c=0):c=0:=by
 by_cases hc:c=0
 ·exact hc
 ·rw[nM fns k vs hc] at h;exact h
theorem BP{o:Int}{s:List UInt8}{b:Nat}{w:WS}(h:w.code≠0):(opW o s b w).code=w.code:=by
 unfold opW
 split
 ·simp only[kO,oC,wY h]
  split
  ·rfl
  ·split<;>rfl
 ·split
  ·exact zC h
  ·rfl
mutual
theorem Hi(fns:List Fd)(k:Nat):∀(s:Sm) (b:Nat) (w:WS),w.code≠0→(stW fns k b s w).code=w.code
 | .mk o s a bd el,b,w,h=>by
   have e1:(bB fns k w.vs a w.code)=w.code:=nM fns k w.vs h a
   have e2:(opW o s b ⟨w.vs,w.count,bB fns k w.vs a w.code⟩).code=w.code:=by rw[BP]<;>simp only[e1];exact h
   have e3:=pY fns k bd (b+1) (opW o s b ⟨w.vs,w.count,bB fns k w.vs a w.code⟩) (by rw[e2];exact h)
   rw[stW,gh,pY fns k el _ _ (by rw[gh,e3,e2];exact h),gh,e3,e2]
theorem pY(fns:List Fd)(k:Nat):∀(l:List Sm) (b:Nat) (w:WS),w.code≠0→(cg fns k b l w).code=w.code
 |[],b,w,h=>rfl
 |s::r,b,w,h=>by
  have e1:=Hi fns k s b w h
  rw[cg,pY fns k r b _ (by rw[e1];exact h),e1]
end
theorem ip{fns:List Fd}{k b:Nat}{l:List Sm}{w:WS}(h:(cg fns k b l w).code=0):w.code=0:=by
 by_cases hc:w.code=0
 ·exact hc
 ·rw[pY fns k l b w hc] at h;exact h
theorem CE{o:Int}{s:List UInt8}{b:Nat}{w:WS}(h:(opW o s b w).code=0):w.code=0:=by
 by_cases hc:w.code=0
 ·exact hc
 ·rw[BP hc] at h;exact h
end
end Go.Proofs.YtaopbokndkdieaaGreatDoor
