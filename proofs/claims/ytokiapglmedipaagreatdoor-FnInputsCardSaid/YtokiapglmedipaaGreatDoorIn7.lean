/-
  Contracts and lemmas that the card needs, part 7.
-/
import Derived.Test.YtokiapglmedipaaGreatDoorIn6
namespace Go.Proofs.YtokiapglmedipaaGreatDoor
open Go Go.Aw
set_option maxRecDepth 100000
set_option maxHeartbeats 4000000
section
def Byt(l:List Int):Prop:=∀n∈l,0<=n/\n<=255
def rdO(b:List Int)(p:Nat):AO:= .row 2 [[.p (uD b),.p (.int .i64 p)]]
theorem Iw{a b:Int}(ha:0<=a)(ha2:a<4611686018427387904)(hb:0<=b)(hb2:b<4611686018427387904):∃n:Nat,IntKind.i64.wrap ((BitVec.ofInt IntKind.i64.bits a^^^BitVec.ofInt IntKind.i64.bits b).toNat:Int)=n:=by
 refine⟨(BitVec.ofInt IntKind.i64.bits a^^^BitVec.ofInt IntKind.i64.bits b).toNat,?_⟩
 obtain⟨x,rfl⟩:∃x:Nat,a=x:=⟨a.toNat,by omega⟩
 obtain⟨y,rfl⟩:∃y:Nat,b=y:=⟨b.toNat,by omega⟩
 have h1:(BitVec.ofInt 64 (x:Int)).toNat=x:=by simp;omega
 have h2:(BitVec.ofInt 64 (y:Int)).toNat=y:=by simp;omega
 have h3:(BitVec.ofInt 64 (x:Int)^^^BitVec.ofInt 64 (y:Int)).toNat<2^63:=by
  rw[BitVec.toNat_xor,h1,h2]
  exact Nat.xor_lt_two_pow (by omega) (by omega)
 have h4:(BitVec.ofInt IntKind.i64.bits (x:Int)^^^BitVec.ofInt IntKind.i64.bits (y:Int)).toNat<2^63:=h3
 exact ab (by omega) (by omega)
theorem Ih{a:Nat}{n:Int}(hn:1<=n):∃k:Nat,((a:Int).tmod n)=k/\(k:Int)<n:=by
 obtain⟨m,rfl⟩:∃m:Nat,n=m:=⟨n.toNat,by omega⟩
 refine⟨a%m,?_,?_⟩
 ·rfl
 ·have:a%m<m:=Nat.mod_lt _ (by omega)
  omega
variable (G:al)
theorem Qn(l:List Int):AC Tryz.prog G kP [.p (uD l)] [] λx h=>x= .ret (.ptr 0 2 0 0)/\h=[rdO (l.take 2000) 0]:=by
 refine AC.go Ai ?_
 have hbl:uD l= .lst 1 (l.map λn=>[.int .u8 n]):=rfl
 simp-implicitDefEqProofs[pq,hbl]
 refine aY (λh=>?_) (λh=>?_)
 ·simp at h
  have:2000<=l.length:=by omega
  simp-implicitDefEqProofs[this,rdO,uD,List.map_take]
 ·simp at h
  have:l.take 2000=l:=US (by omega)
  simp-implicitDefEqProofs[rdO,this,uD]
theorem PF(b:List Int)(hb:Byt b)(hl:b.length<=2000)(p:Nat)(hp:p<=1099511627776)(n:Int):AC Tryz.prog G bf [.ptr 0 2 0 0,.p (.int .i64 n)] [rdO b p] λx h=>∃k:Nat,x= .ret (.p (.int .i64 k))/\h=[rdO b (p+1)]/\((k:Int)<n\/k=0):=by
 refine AC.go tI ?_
 have hbl:uD b= .lst 1 (b.map λn=>[.int .u8 n]):=rfl
 have hw:IntKind.i64.wrap ((p:Int)+1)=((p+1:Nat):Int):=w1 (by omega)
 by_cases hn:n<1
 ·simp-implicitDefEqProofs[eq,rdO,hbl,hw,hn]
  exact⟨0,rfl,.inr rfl⟩
 by_cases hbn:b=[]
 ·subst hbn
  have hb0:uD []= .lst 1 []:=rfl
  simp-implicitDefEqProofs[eq,rdO,hb0,hw,hn]
  exact⟨0,rfl,.inr rfl⟩
 have hpos:0<b.length:=List.length_pos_iff.2 hbn
 have hlb:¬b.length=0:=by omega
 have hn0:¬n=0:=by omega
 have hw2:IntKind.i64.wrap (p:Int)=(p:Int):=ab (by omega) (by omega)
 have at_:∀q:Nat,∃c:Int,b[q%b.length]?=some c/\0<=c/\c<=255:=λq=>by
  have h:=Nat.mod_lt q hpos
  exact⟨_,UO h,hb _ (Ve h)⟩
 simp-implicitDefEqProofs[eq,rdO,hbl,hw,hn,hbn,hw2]
 refine aY (λh1=>?_) (λh1=>?_)
 ·simp at h1
  obtain⟨c,e1,e2,e3⟩:=at_ p
  rw[Nat.mod_eq_of_lt h1] at e1
  obtain⟨d,rfl⟩:∃d:Nat,c=d:=⟨c.toNat,by omega⟩
  obtain⟨k,q1,q2⟩:=Ih (a:=d) (n:=n) (by omega)
  have hw3:IntKind.i64.wrap (d:Int)=d:=ab (by omega) (by omega)
  simp-implicitDefEqProofs[e1,hw3,hn0,q1]
  exact⟨k,rfl,.inl q2⟩
 ·simp at h1
  obtain⟨c1,e1,e2,e3⟩:=at_ p
  obtain⟨c2,f1,f2,f3⟩:=at_ (p*7+3)
  have hq:p/b.length<=p:=Nat.div_le_self _ _
  have ht1:(p:Int).tmod (b.length:Int)=((p%b.length:Nat):Int):=rfl
  have ht2:((p:Int)*7+3).tmod (b.length:Int)=(((p*7+3)%b.length:Nat):Int):=rfl
  have ht3:(p:Int).tdiv (b.length:Int)=((p/b.length:Nat):Int):=rfl
  generalize p/b.length=q at hq ht3
  generalize p%b.length=r1 at e1 ht1
  generalize (p*7+3)%b.length=r2 at f1 ht2
  obtain⟨x1,rfl⟩:∃d:Nat,c1=d:=⟨c1.toNat,by omega⟩
  obtain⟨x2,rfl⟩:∃d:Nat,c2=d:=⟨c2.toNat,by omega⟩
  obtain⟨m,hx⟩:=Iw (a:=x1*131+x2*1117+p*29+q*53) (b:=(x1*131+x2*1117+p*29+q*53)/64) (by omega) (by omega) (by omega) (by omega)
  obtain⟨k,q1,q2⟩:=Ih (a:=m) (n:=n) (by omega)
  have ht4:((x1:Int)*131+x2*1117+p*29+q*53).tdiv 64=((x1:Int)*131+x2*1117+p*29+q*53)/64:=Int.tdiv_eq_ediv_of_nonneg (by omega)
  have w1:IntKind.i64.wrap ((p:Int)*7)=(p:Int)*7:=ab (by omega) (by omega)
  have w2:IntKind.i64.wrap ((p:Int)*7+3)=(p:Int)*7+3:=ab (by omega) (by omega)
  have w3:IntKind.i64.wrap ((p:Int)*29)=(p:Int)*29:=ab (by omega) (by omega)
  have w4:IntKind.i64.wrap (x1:Int)=x1:=ab (by omega) (by omega)
  have w5:IntKind.i64.wrap (x2:Int)=x2:=ab (by omega) (by omega)
  have w6:IntKind.i64.wrap ((x1:Int)*131)=(x1:Int)*131:=ab (by omega) (by omega)
  have w7:IntKind.i64.wrap ((x2:Int)*1117)=(x2:Int)*1117:=ab (by omega) (by omega)
  have w8:IntKind.i64.wrap ((x1:Int)*131+x2*1117)=(x1:Int)*131+x2*1117:=ab (by omega) (by omega)
  have w9:IntKind.i64.wrap ((x1:Int)*131+x2*1117+p*29)=(x1:Int)*131+x2*1117+p*29:=ab (by omega) (by omega)
  have w10:IntKind.i64.wrap (q:Int)=q:=ab (by omega) (by omega)
  have w11:IntKind.i64.wrap ((q:Int)*53)=(q:Int)*53:=ab (by omega) (by omega)
  have w12:IntKind.i64.wrap ((x1:Int)*131+x2*1117+p*29+q*53)=(x1:Int)*131+x2*1117+p*29+q*53:=ab (by omega) (by omega)
  have w13:IntKind.i64.wrap (((x1:Int)*131+x2*1117+p*29+q*53)/64)=((x1:Int)*131+x2*1117+p*29+q*53)/64:=ab (by omega) (by omega)
  simp-implicitDefEqProofs[hlb,ht1,ht2,ht3,e1,f1,w1,w2,w3,w4,w5,w6,w7,w8,w9,w10,w11,w12,w13,ht4,hx,hn0,q1]
  simp-implicitDefEqProofs[] at hx
  rw[hx]
  exact⟨k,q1,.inl q2⟩
theorem bn(b:List Int)(p n:Nat):okO n (rdO b p):=by simp[okO,rdO]
theorem aU(b:List Int)(hb:Byt b)(hl:b.length<=2000)(p:Nat)(hp:p<=1099511627776)(n:Int)(rest:List AO):AC Tryz.prog G bf [.ptr 0 2 0 0,.p (.int .i64 n)] (rdO b p::rest) λx h=>∃k:Nat,x= .ret (.p (.int .i64 k))/\h=rdO b (p+1)::rest/\((k:Int)<n\/k=0):=by
 refine((PF G b hb hl p hp n).pre rest (by simp[below]) (λo ho=>by rw[UY.1 ho];exact bn _ _ _) ?_).mono ?_
 ·rintro x h ⟨k,_,rfl,_⟩;rfl
 ·rintro x h ⟨h1,⟨k,e1,rfl,e3⟩,rfl⟩
  exact⟨k,e1,rfl,e3⟩
theorem OG{f:FuncId}{args:List AV}{b:List Int}{p:Nat}{o:AO}{R:AV->Nat->Prop}(H:AC Tryz.prog G f (.ptr 0 2 0 0::args) [rdO b p,o] λx h=>∃v q,x= .ret (.p v)/\h=[rdO b q,o]/\R (.p v) q)(ho:okO 0 o)
 {h:List AO}{k:Nat}{args':List AV}(hk:k≠0)(h0:h[0]?=some (rdO b p))(h1:h[k]?=some o)(hT:TW [0,k] args' args):AC Tryz.prog G f (.ptr 0 2 0 0::args') h λx h'=>∃v q,x= .ret (.p v)/\h'=h.set 0 (rdO b q)/\R (.p v) q:=by
 have nd:[0,k].Nodup:=by simp;omega
 refine(H.frame (args:= .ptr 0 2 0 0::args') [0,k] nd (by rw[yP];exact⟨.inr ⟨by simp[below],rfl⟩,hT⟩) (bR h0 (bn _ _ _) (bR h1 ho bv))).mono ?_
 rintro x h' ⟨x0,h2,⟨v,q,rfl,rfl,r⟩,_,rfl,rfl⟩
 refine⟨v,q,by simp[Bo,ren],?_,r⟩
 have e1:∀σ,gT σ (rdO b q)=rdO b q:=λσ=>to (n:=0) (λi hi=>by omega) _ (bn _ _ _)
 have e2:∀σ,gT σ o=o:=λσ=>to (n:=0) (λi hi=>by omega) _ ho
 simp only[List.take,Vh,List.length_nil,Vn,List.map_nil,e1,e2,mrg,List.drop,VE]
 refine List.ext_getElem? λi=>?_
 rw[List.getElem?_set]
 split
 ·rename_i e;subst e
  rw[UM (Ne.symm hk)]
  split
  ·exact h1.symm
  ·rename_i hl
   have:=(UL.1 h1).1
   simp at hl;omega
 ·rfl
theorem Pb(b:List Int)(hb:Byt b)(hl:b.length<=2000)(p:Nat)(hp:p<=1099511627776)(l:List Int)(hne:l≠[])(hll:l.length<=1099511627776):AC Tryz.prog G cC [.ptr 0 2 0 0,.sl 1 1 0 l.length] [rdO b p,lm l] λx h=>∃v q,x= .ret (.p v)/\h=[rdO b q,lm l]/\(∃n,v= .int .i64 n/\n∈l)/\q=p+1:=by
 refine AC.go mY ?_
 have hpos:0<l.length:=List.length_pos_iff.2 hne
 simp-implicitDefEqProofs[iQ]
 refine(aU G b hb hl p hp l.length [lm l]).mono ?_
 rintro r h ⟨k,rfl,rfl,hk⟩
 have hkl:k<l.length:=by omega
 have hg:=UO hkl
 have hn:lm l= .row 1 (l.map λn=>[.p (.int .i64 n)]):=rfl
 simp-implicitDefEqProofs[aa,hkl,hn,hg]
theorem ma{b:List Int}(hb:Byt b)(hl:b.length<=2000){p:Nat}(hp:p<=1099511627776)(l:List Int){h:List AO}{k:Nat}(hne:l≠[])(hll:l.length<=1099511627776)(hk:k≠0)(h0:h[0]?=some (rdO b p))(h1:h[k]?=some (lm l)):
 AC Tryz.prog G cC [.ptr 0 2 0 0,.sl k 1 0 l.length] h λx h'=>∃n,n∈l/\x= .ret (.p (.int .i64 n))/\h'=h.set 0 (rdO b (p+1)):=by
 refine(OG G (args:=[.sl 1 1 0 l.length]) (R:=λv q=>(∃n,v= .p (.int .i64 n)/\n∈l)/\q=p+1) ((Pb G b hb hl p hp l hne hll).mono ?_) (by simp[okO,lm]) (args':=[.sl k 1 0 l.length]) hk h0 h1 (by simp[below,ren])).mono ?_
 ·rintro x h ⟨v,q,e1,e2,⟨n,rfl,e3⟩,e4⟩
  exact⟨_,q,e1,e2,⟨n,rfl,e3⟩,e4⟩
 ·rintro x h' ⟨v,q,e1,e2,⟨n,e3,e4⟩,e5⟩
  cases e3;subst e5
  exact⟨n,e4,e1,e2⟩
theorem Rt(b:List Int)(hb:Byt b)(hl:b.length<=2000)(p:Nat)(hp:p<=1099511627776)(l:List (List UInt8))(hne:l≠[])(hll:l.length<=1099511627776):AC Tryz.prog G cS [.ptr 0 2 0 0,.sl 1 1 0 l.length] [rdO b p,cD l] λx h=>∃v q,x= .ret (.p v)/\h=[rdO b q,cD l]/\(∃s,v= .str s/\s∈l)/\q=p+1:=by
 refine AC.go nT ?_
 have hpos:0<l.length:=List.length_pos_iff.2 hne
 simp-implicitDefEqProofs[jD]
 refine(aU G b hb hl p hp l.length [cD l]).mono ?_
 rintro r h ⟨k,rfl,rfl,hk⟩
 have hkl:k<l.length:=by omega
 have hg:=UO hkl
 have hn:cD l= .row 1 (l.map λn=>[.p (.str n)]):=rfl
 simp-implicitDefEqProofs[aa,hkl,hn,hg]
theorem DO{b:List Int}(hb:Byt b)(hl:b.length<=2000){p:Nat}(hp:p<=1099511627776)(l:List (List UInt8)){h:List AO}{k:Nat}(hne:l≠[])(hll:l.length<=1099511627776)(hk:k≠0)(h0:h[0]?=some (rdO b p))(h1:h[k]?=some (cD l)):
 AC Tryz.prog G cS [.ptr 0 2 0 0,.sl k 1 0 l.length] h λx h'=>∃s,s∈l/\x= .ret (.p (.str s))/\h'=h.set 0 (rdO b (p+1)):=by
 refine(OG G (args:=[.sl 1 1 0 l.length]) (R:=λv q=>(∃n,v= .p (.str n)/\n∈l)/\q=p+1) ((Rt G b hb hl p hp l hne hll).mono ?_) (by simp[okO,cD]) (args':=[.sl k 1 0 l.length]) hk h0 h1 (by simp[below,ren])).mono ?_
 ·rintro x h ⟨v,q,e1,e2,⟨n,rfl,e3⟩,e4⟩
  exact⟨_,q,e1,e2,⟨n,rfl,e3⟩,e4⟩
 ·rintro x h' ⟨v,q,e1,e2,⟨n,e3,e4⟩,e5⟩
  cases e3;subst e5
  exact⟨n,e4,e1,e2⟩
theorem Hg{b:List Int}(hb:Byt b)(hl:b.length<=2000){p:Nat}(hp:p<=1099511627776)(l:List (List UInt8))(hne:l≠[])(hll:l.length<=1099511627776)(rest:List AO):AC Tryz.prog G cS [.ptr 0 2 0 0,.p (aw l)] (rdO b p::rest) λx h=>∃s,s∈l/\x= .ret (.p (.str s))/\h=rdO b (p+1)::rest:=by
 have key:AC Tryz.prog G cS [.ptr 0 2 0 0,.p (aw l)] [rdO b p] λx h=>∃s,s∈l/\x= .ret (.p (.str s))/\h=[rdO b (p+1)]:=by
  refine AC.go nT ?_
  have hpos:0<l.length:=List.length_pos_iff.2 hne
  have hsl:aw l= .lst 1 (l.map λw=>[.str w]):=rfl
  simp-implicitDefEqProofs[jD,hsl]
  refine(aU G b hb hl p hp l.length []).mono ?_
  rintro r h ⟨k,rfl,rfl,hk⟩
  have hkl:k<l.length:=by omega
  have hg:=UO hkl
  simp-implicitDefEqProofs[aa,hg]
 refine(key.pre rest (by simp[below]) (λo ho=>by rw[UY.1 ho];exact bn _ _ _) ?_).mono ?_
 ·rintro x h ⟨k,_,_,rfl⟩;rfl
 ·rintro x h ⟨h1,⟨s,e1,e2,rfl⟩,rfl⟩
  exact⟨s,e1,e2,rfl⟩
def DP(b:List Int)(Q:AV->Nat->Prop)(x:ARes)(h:List AO):Prop:=∃v rest q v1,x= .ret v/\h=rdO b q::rest/\Fzs (.dead::rest) 1 [v] [v1]/\Q v1 q
theorem nH{f:FuncId}{args:List AV}{b:List Int}{p:Nat}{Q:AV->Nat->Prop}(H:AC Tryz.prog G f args [rdO b p] (DP b Q)):AC Tryz.prog G f args [rdO b p] λx h=>∃v q,x= .ret v/\h=[rdO b q]/\Q v q:=by
 refine H.frz 1 (Vb _) (λt v h ⟨_,_,_,_,e,_⟩=>by cases e) ?_
 rintro v h ⟨v0,rest,q,v1,e,rfl,hf,r⟩
 cases e
 exact⟨v1,[rdO b q],by simp,rfl,hf,.same (bn _ _ _) (.nil _),v1,q,rfl,rfl,r⟩
theorem jC{f:FuncId}{args:List AV}{b:List Int}{p:Nat}{Q:AV->Nat->Prop}(H:AC Tryz.prog G f args [rdO b p] λx h=>∃v q,x= .ret v/\h=[rdO b q]/\Q v q)(rest:List AO)(ha:af 1 args):AC Tryz.prog G f args (rdO b p::rest) λx h=>∃v q,x= .ret v/\h=rdO b q::rest/\Q v q:=by
 refine(H.pre rest ha (λo ho=>by rw[UY.1 ho];exact bn _ _ _) ?_).mono ?_
 ·rintro x h ⟨k,_,_,rfl,_⟩;rfl
 ·rintro x h ⟨h1,⟨s,q,e1,rfl,e2⟩,rfl⟩
  exact⟨s,q,e1,rfl,e2⟩
end
section
def vl(l:List (List UInt8)):Prop:=l.length<=1000000/\∀s∈l,s.length<=8
theorem dN{h:List AO}{id:Nat}{l:List Ex}(e:h[id]?=some (.row 4 (l.map λx=>x.cs.map .p))):View h (.sl id 4 0 l.length) (exL l):=by
 have:=hZ (h:=h) (id:=id) (sz:=4) (n:=l.length) (ls:=l.map Ex.cs) (by rw[e];simp) (by simp) (λx hx=>by obtain⟨b,_,rfl⟩:=Vi.1 hx;exact b.cs_len)
 exact this
variable (G:al)
def ExQ(p n m:Nat)(v:AV)(q:Nat):Prop:=(∃e:Ex,v= .agg (e.cs.map .p)/\e.sz<=n)/\p<=q/\q<=p+m
theorem zO{b:List Int}(hb:Byt b)(hl:b.length<=2000){p:Nat}(hp:p<=1000000000000)(names:List (List UInt8))(hn:vl names):AC Tryz.prog G db [.ptr 0 2 0 0,.p (aw names)] [rdO b p] λx h=>∃v q,x= .ret v/\h=[rdO b q]/\ExQ p 9 2 v q:=by
 refine nH G (AC.go rH ?_)
 have hsl:aw names= .lst 1 (names.map λw=>[.str w]):=rfl
 have fin1:∀(o n:Int) (s:List UInt8) (q:Nat) (rest:List AO),p<=q->q<=p+2->s.length<=8->DP b (ExQ p 9 2) (.ret (.agg [.p (.int .i64 o),.p (.int .i64 n),.p (.str s),.nils])) (rdO b q::rest):=λo n s q rest h1 h2 hs=>
  ⟨_,rest,q,.agg ((Ex.mk o n s []).cs.map .p),rfl,rfl,.agg (.keep (by simp) (.keep (by simp) (.keep (by simp) (.one (View.nils 4) .nil)))) .nil,⟨_,rfl,by simp[Ex.sz,bq];omega⟩,h1,h2⟩
 have num:∀(q:Nat) (h:List AO),q<=1000000000001->h[0]?=some (rdO b q)->h[2]?=some (lm [0,1,2,3,5,7,15,16,100,255])->_:=λq h hq h0 h1=>ma G hb hl (p:=q) (by omega) [0,1,2,3,5,7,15,16,100,255] (h:=h) (k:=2) (by simp) (by simp) (by omega) h0 h1
 by_cases hne:names=[]
 ·subst hne
  have hs0:aw []= .lst 1 []:=rfl
  simp-implicitDefEqProofs[fO,hs0]
  refine(num p _ (by omega) rfl rfl).mono ?_
  rintro r h ⟨n,_,rfl,rfl⟩
  simp-implicitDefEqProofs[aa]
  exact fin1 _ _ _ _ _ (by omega) (by omega) (by simp)
 ·have hlen:¬names.length=0:=λh=>hne (VC h)
  simp-implicitDefEqProofs[fO,hsl,hne]
  refine(aU G b hb hl p (by omega) 3 _).mono ?_
  rintro r h ⟨k,rfl,rfl,_⟩
  simp-implicitDefEqProofs[aa]
  refine aY (λhc=>?_) (λhc=>?_)
  ·simp-implicitDefEqProofs[]
   refine(num (p+1) _ (by omega) rfl rfl).mono ?_
   rintro r h ⟨n,_,rfl,rfl⟩
   simp-implicitDefEqProofs[aa]
   exact fin1 _ _ _ _ _ (by omega) (by omega) (by simp)
  ·simp-implicitDefEqProofs[]
   rw[←hsl]
   refine(Hg G hb hl (by omega) names hne (by have:=hn.1;omega) _).mono ?_
   rintro r h ⟨s,hs,rfl,rfl⟩
   have:=hn.2 s hs
   simp-implicitDefEqProofs[aa]
   exact fin1 _ _ _ _ _ (by omega) (by omega) this
theorem zR{b:List Int}(hb:Byt b)(hl:b.length<=2000)(names:List (List UInt8))(hn:vl names):∀(d:Nat),d<=20->∀{p:Nat},p+6*3^d<=1000000000000->AC Tryz.prog G aS [.ptr 0 2 0 0,.p (aw names),.p (.int .i64 d)] [rdO b p] λx h=>∃v q,x= .ret v/\h=[rdO b q]/\ExQ p (10*3^d) (6*3^d) v q:=by
 intro d
 induction d with
 |zero=>
  intro _ p hp
  refine nH G (AC.go mE ?_)
  simp-implicitDefEqProofs[dU]
  refine(jC G (zO G hb hl (by omega) names hn) _ (by simp[below])).mono ?_
  rintro r h ⟨v,q,rfl,rfl,⟨e,rfl,he⟩,h1,h2⟩
  have hec:=e.cs_eq
  simp-implicitDefEqProofs[aa,hec]
  exact⟨_,_,q,.agg (e.cs.map .p),rfl,rfl,.agg (by rw[hec];exact gV (by simp)) .nil,⟨e,rfl,by omega⟩,h1,by omega⟩
 |succ d ih=>
  intro hd p hp
  have hpow:3^(d+1)=3*3^d:=by rw[Nat.pow_succ];omega
  have h1p:1<=3^d:=Nat.one_le_pow _ _ (by omega)
  have ih:=λ{p:Nat} (hp:p+6*3^d<=1000000000000)=>ih (by omega) (p:=p) hp
  rw[hpow] at hp⊢
  generalize 3^d=t at*
  have hw:IntKind.i64.wrap (d:Int)=(d:Int):=ab (by omega) (by omega)
  have leaf:∀(q:Nat) (rest:List AO),p<=q->q<=p+3->AC Tryz.prog G db [.ptr 0 2 0 0,.p (aw names)] (rdO b q::rest) λx h=>∃v q',x= .ret v/\h=rdO b q'::rest/\ExQ q 9 2 v q':=λq rest _ _=>jC G (zO G hb hl (by omega) names hn) rest (by simp[below])
  have sub:∀(q:Nat) (rest:List AO),p<=q->q<=p+6+6*t->AC Tryz.prog G aS [.ptr 0 2 0 0,.p (aw names),.p (.int .i64 d)] (rdO b q::rest) λx h=>∃v q',x= .ret v/\h=rdO b q'::rest/\ExQ q (10*t) (6*t) v q':=λq rest _ _=>jC G (ih (by omega)) rest (by simp[below])
  refine nH G (AC.go mE ?_)
  have leafCase:∀(e:Ex) (q:Nat) (rest:List AO),e.sz<=9->p<=q->q<=p+5->DP b (ExQ p (10*(3*t)) (6*(3*t))) (.ret (.agg (e.cs.map .p))) (rdO b q::rest):=λe q rest h1 h2 h3=>
   ⟨_,_,q,.agg (e.cs.map .p),rfl,rfl,.agg (by rw[e.cs_eq];exact gV (by simp)) .nil,⟨e,rfl,by omega⟩,h2,by omega⟩
  have bin:∀(o:Int) (e1 e2:Ex) (q:Nat) (rest:List AO) (k:Nat),(rdO b q::rest)[k+1]?=some (.row 4 [e1.cs.map .p,e2.cs.map .p])->e1.sz<=10*t->e2.sz<=10*t->p<=q->q<=p+6*(3*t)->DP b (ExQ p (10*(3*t)) (6*(3*t))) (.ret (.agg [.p (.int .i64 o),.p (.int .i64 0),.p (.str []),.sl (k+1) 4 0 2])) (rdO b q::rest):=λo e1 e2 q rest k hk h1 h2 h3 h4=>
   ⟨_,rest,q,.agg ((Ex.mk o 0 [] [e1,e2]).cs.map .p),rfl,rfl,.agg (.keep (by simp) (.keep (by simp) (.keep (by simp) (.one (dN (l:=[e1,e2]) (by simpa using hk)) .nil)))) .nil,⟨_,rfl,by simp[Ex.sz,bq];omega⟩,h3,h4⟩
  have una:∀(o:Int) (e1:Ex) (q:Nat) (rest:List AO) (k:Nat),(rdO b q::rest)[k+1]?=some (.row 4 [e1.cs.map .p])->e1.sz<=10*t->p<=q->q<=p+6*(3*t)->DP b (ExQ p (10*(3*t)) (6*(3*t))) (.ret (.agg [.p (.int .i64 o),.p (.int .i64 0),.p (.str []),.sl (k+1) 4 0 1])) (rdO b q::rest):=λo e1 q rest k hk h1 h3 h4=>
   ⟨_,rest,q,.agg ((Ex.mk o 0 [] [e1]).cs.map .p),rfl,rfl,.agg (.keep (by simp) (.keep (by simp) (.keep (by simp) (.one (dN (l:=[e1]) (by simpa using hk)) .nil)))) .nil,⟨_,rfl,by simp[Ex.sz,bq];omega⟩,h3,h4⟩
  by_cases hd0:d=0
  ·subst hd0
   simp-implicitDefEqProofs[dU]
   refine(leaf p _ (by omega) (by omega)).mono ?_
   rintro r h ⟨v,q,rfl,rfl,⟨e,rfl,he⟩,h1,h2⟩
   have hec:=e.cs_eq
   simp-implicitDefEqProofs[aa,hec]
   have:=leafCase e q [.row 4 [e.cs.map .p]] he h1 (by omega)
   rw[hec] at this
   exact this
  have hd2:¬(d:Int)+1<2:=by omega
  simp-implicitDefEqProofs[dU,hd2]
  refine(aU G b hb hl p (by omega) 4 _).mono ?_
  rintro r h ⟨k1,rfl,rfl,_⟩
  simp-implicitDefEqProofs[aa]
  refine aY (λhc=>?_) (λhc=>?_)
  ·simp-implicitDefEqProofs[]
   refine(leaf (p+1) _ (by omega) (by omega)).mono ?_
   rintro r h ⟨v,q,rfl,rfl,⟨e,rfl,he⟩,h1,h2⟩
   have hec:=e.cs_eq
   simp-implicitDefEqProofs[aa,hec]
   have:=leafCase e q [.row 4 [e.cs.map .p]] he (by omega) (by omega)
   rw[hec] at this
   exact this
  simp-implicitDefEqProofs[]
  refine(aU G b hb hl (p+1) (by omega) 7 _).mono ?_
  rintro r h ⟨k2,rfl,rfl,_⟩
  simp-implicitDefEqProofs[aa]
  refine aY (λhc=>?_) (λhc=>?_)
  ·simp-implicitDefEqProofs[]
   refine(ma G hb hl (p:=p+2) (by omega) [11,12,11] (k:=2) (by simp) (by simp) (by omega) rfl rfl).mono ?_
   rintro r h ⟨n,_,rfl,rfl⟩
   simp-implicitDefEqProofs[aa,hw]
   refine(sub (p+3) _ (by omega) (by omega)).mono ?_
   rintro r h ⟨v,q,rfl,rfl,⟨e,rfl,he⟩,h1,h2⟩
   have hec:=e.cs_eq
   simp-implicitDefEqProofs[aa,hec]
   exact una n e q _ 2 (by rw[hec];rfl) he (by omega) (by omega)
  ·simp-implicitDefEqProofs[]
   refine(ma G hb hl (p:=p+2) (by omega) [3,3,4,5,6,7,8,9,10] (k:=2) (by simp) (by simp) (by omega) rfl rfl).mono ?_
   rintro r h ⟨n,_,rfl,rfl⟩
   simp-implicitDefEqProofs[aa,hw]
   refine(sub (p+3) _ (by omega) (by omega)).mono ?_
   rintro r h ⟨v,q,rfl,rfl,⟨e,rfl,he⟩,h1,h2⟩
   have hec:=e.cs_eq
   simp-implicitDefEqProofs[aa,hec,hw]
   refine(sub q _ (by omega) (by omega)).mono ?_
   rintro r h ⟨v,q2,rfl,rfl,⟨e2,rfl,he2⟩,h3,h4⟩
   have hec2:=e2.cs_eq
   simp-implicitDefEqProofs[aa,hec2]
   exact bin n e e2 q2 _ 2 (by rw[hec,hec2];rfl) he he2 (by omega) (by omega)
end
section
def cn(fns:List Fd)(vs:List (List UInt8))(next left:Int):List AV:=[.ptr 0 2 0 0,slE 2 3 (aX fns),.p (aw vs),.p (.int .i64 next),.p (.int .i64 left)]
def HG(b:List Int)(p:Nat)(fns:List Fd)(vs:List (List UInt8))(next left:Int):List AO:=[rdO b p,.row 5 [cn fns vs next left],bS 3 (aX fns)]
def DG(b:List Int)(fns:List Fd)(Q:AV->Nat->List (List UInt8)->Int->Int->Prop)(x:ARes)(h:List AO):Prop:=
 ∃v rest q vc v1 vs next left,x= .ret v/\h=rdO b q:: .row 5 [[.ptr 0 2 0 0,slE 2 3 (aX fns),vc,.p (.int .i64 next),.p (.int .i64 left)]]::bS 3 (aX fns)::rest/\
  Fzs (.dead:: .dead:: .dead::rest) 3 [vc] [.p (aw vs)]/\Fzs (.dead:: .dead:: .dead::rest) 3 [v] [v1]/\Q v1 q vs next left
def PG(b:List Int)(fns:List Fd)(Q:AV->Nat->List (List UInt8)->Int->Int->Prop)(rest:List AO)(x:ARes)(h:List AO):Prop:=
 ∃v q vs next left,x= .ret v/\h=rdO b q:: .row 5 [cn fns vs next left]::bS 3 (aX fns)::rest/\Q v q vs next left
variable (G:al)
theorem lS{f:FuncId}{args:List AV}{b:List Int}{p:Nat}{fns:List Fd}{vs:List (List UInt8)}{next left:Int}{Q:AV->Nat->List (List UInt8)->Int->Int->Prop}(H:AC Tryz.prog G f args (HG b p fns vs next left) (DG b fns Q)):
 AC Tryz.prog G f args (HG b p fns vs next left) (PG b fns Q []):=by
 refine H.frz 3 (by simp[HG]) (λt v h ⟨_,_,_,_,_,_,_,_,e,_⟩=>by cases e) ?_
 rintro v h ⟨v0,rest,q,vc,v1,vs',n',l',e,rfl,hc,hf,r⟩
 cases e
 refine⟨v1,HG b q fns vs' n' l',by simp,rfl,hf,.same (bn _ _ _) (.one ?_ (.same (mb _ _) (.nil _))),v1,q,vs',n',l',rfl,rfl,r⟩
 exact .keep (by simp[below]) (.keep (pG (by omega)) (hc.append (.keep (by simp) (.keep (by simp) .nil))))
theorem Le(b:List Int)(p:Nat)(fns:List Fd)(vs:List (List UInt8))(next left:Int):∀o∈HG b p fns vs next left,okO 3 o:=by
 intro o ho
 simp only[HG,UX,Vk,or_false] at ho
 rcases ho with rfl|rfl|rfl
 ·exact bn _ _ _
 ·intro e he
  rw[UY.1 he]
  exact⟨by simp[below],pG (by omega),by simp,by simp,by simp,trivial⟩
 ·exact mb _ _
theorem cN{f:FuncId}{args:List AV}{b:List Int}{p:Nat}{fns:List Fd}{vs:List (List UInt8)}{next left:Int}{Q:AV->Nat->List (List UInt8)->Int->Int->Prop}(H:AC Tryz.prog G f args (HG b p fns vs next left) (PG b fns Q []))(rest:List AO)(ha:af 3 args):
 AC Tryz.prog G f args (rdO b p:: .row 5 [cn fns vs next left]::bS 3 (aX fns)::rest) (PG b fns Q rest):=by
 refine(AC.pre H rest ha (Le _ _ _ _ _ _) ?_).mono ?_
 ·rintro x h ⟨v,q,vs',n',l',_,rfl,_⟩;rfl
 ·rintro x h ⟨h1,⟨v,q,vs',n',l',e1,rfl,e2⟩,rfl⟩
  exact⟨v,q,vs',n',l',e1,rfl,e2⟩
def Ro(p:Nat)(vs:List (List UInt8))(next left:Int)(v:AV)(q:Nat)(vs':List (List UInt8))(next' left':Int):Prop:=(∃s:List UInt8,v= .p (.str s)/\s.length<=8)/\p<=q/\q<=p+2/\vs'=vs/\next'=next+1/\left'=left
theorem Hj{b:List Int}(hb:Byt b)(hl:b.length<=2000){p:Nat}(hp:p+2<=1000000000000)(fns:List Fd)(vs:List (List UInt8))(hv:vl vs){next:Int}(hn: -1<=next)(hn2:next<=1000000000000)(left:Int):
 AC Tryz.prog G gm [.ptr 1 5 0 0] (HG b p fns vs next left) (PG b fns (Ro p vs next left) []):=by
 refine lS G (AC.go sB ?_)
 have hw:IntKind.i64.wrap (next+1)=next+1:=ab (by omega) (by omega)
 have hsl:aw vs= .lst 1 (vs.map λw=>[.str w]):=rfl
 simp-implicitDefEqProofs[kR,HG,cn,hw]
 refine(aU G b hb hl p (by omega) 9 _).mono ?_
 rintro r h ⟨k,rfl,rfl,_⟩
 have fin:∀(s:List UInt8) (q:Nat),s.length<=8->p<=q->q<=p+2->DG b fns (Ro p vs next left) (.ret (.p (.str s))) [rdO b q,.row 5 [[.ptr 0 2 0 0,slE 2 3 (aX fns),.p (aw vs),.p (.int .i64 (next+1)),.p (.int .i64 left)]],bS 3 (aX fns)]:=λs q h1 h2 h3=>
  ⟨_,[],q,_,_,vs,next+1,left,rfl,rfl,.keep (by simp) .nil,.keep (by simp) .nil,⟨s,rfl,h1⟩,h2,h3,rfl,rfl,rfl⟩
 obtain⟨N,hN⟩:∃N:Nat,next+1=N:=⟨(next+1).toNat,by omega⟩
 have hm:N%24<24:=Nat.mod_lt _ (by omega)
 have ht:(N:Int).tmod 24=((N%24:Nat):Int):=rfl
 have hw2:IntKind.i64.wrap (((N%24:Nat):Int)+1)=((N%24+1:Nat):Int):=w1 (by omega)
 rw[hN] at fin⊢
 generalize N%24=m at hm ht hw2
 have hm1:m+1<=24:=by omega
 have h0m:(0:Int)<=(m:Int)+1:=by omega
 by_cases hc:k=0/\vs≠[]
 ·obtain⟨rfl,hne⟩:=hc
  have hpos:0<vs.length:=List.length_pos_iff.2 hne
  simp-implicitDefEqProofs[aa,hsl,hpos]
  rw[←hsl]
  refine(Hg G hb hl (by omega) vs hne (by have:=hv.1;omega) _).mono ?_
  rintro r h ⟨s,hs,rfl,rfl⟩
  simp-implicitDefEqProofs[aa]
  exact fin s _ (hv.2 s hs) (by omega) (by omega)
 ·have hcc:(k=0/\0<vs.length)=False:=by
   simp only[eq_iff_iff,iff_false]
   exact λ⟨a,c⟩=>hc ⟨a,List.length_pos_iff.1 c⟩
  by_cases hk:k=0
  ·have hv0:vs=[]:=by
    by_cases e:vs=[]
    ·exact e
    ·exact absurd ⟨hk,e⟩ hc
   subst hv0
   have hs0:aw []= .lst 1 []:=rfl
   simp-implicitDefEqProofs[aa,hs0,hk,ht,hw2,hm1,h0m]
   rw[←hs0]
   refine fin _ (p+1) ?_ (by omega) (by omega)
   simp
   omega
  ·simp-implicitDefEqProofs[aa,hk,ht,hw2,hm1,h0m]
   refine fin _ (p+1) ?_ (by omega) (by omega)
   simp
   omega
def Am(fns:List Fd):Prop:=fns.length<=1000/\∀f∈fns,f.name.length<=8/\f.params.length<=3
def Ru(p:Nat)(vs:List (List UInt8))(next left:Int)(v:AV)(q:Nat)(vs':List (List UInt8))(next' left':Int):Prop:=(∃e:Ex,v= .agg (e.cs.map .p)/\e.sz<=400)/\p<=q/\q<=p+400/\vs'=vs/\next'=next/\left'=left
theorem FT{b:List Int}(hb:Byt b)(hl:b.length<=2000){p:Nat}(hp:p<=1000000000000)(l:List Int)(hne:l≠[])(hll:l.length<=1000000000000)(rest:List AO):
 AC Tryz.prog G cC [.ptr 0 2 0 0,.p (aO l)] (rdO b p::rest) λx h=>∃n,n∈l/\x= .ret (.p (.int .i64 n))/\h=rdO b (p+1)::rest:=by
 have key:AC Tryz.prog G cC [.ptr 0 2 0 0,.p (aO l)] [rdO b p] λx h=>∃n,n∈l/\x= .ret (.p (.int .i64 n))/\h=[rdO b (p+1)]:=by
  refine AC.go mY ?_
  have hpos:0<l.length:=List.length_pos_iff.2 hne
  have hnl:aO l= .lst 1 (l.map λn=>[.int .i64 n]):=rfl
  simp-implicitDefEqProofs[iQ,hnl]
  refine(aU G b hb hl p (by omega) l.length []).mono ?_
  rintro r h ⟨m,rfl,rfl,hm⟩
  have hml:m<l.length:=by omega
  have hg:=UO hml
  simp-implicitDefEqProofs[aa,hg]
 refine(key.pre rest (by simp[below]) (λo ho=>by rw[UY.1 ho];exact bn _ _ _) ?_).mono ?_
 ·rintro x h ⟨n,_,_,rfl⟩;rfl
 ·rintro x h ⟨h1,⟨n,e1,e2,rfl⟩,rfl⟩
  exact⟨n,e1,e2,rfl⟩
structure ExS where (es:List Ex) (q:Nat)
theorem mA{b:List Int}(hb:Byt b)(hl:b.length<=2000){p:Nat}(hp:p+1000<=1000000000000)(fns:List Fd)(hf:Am fns)(vs:List (List UInt8))(hv:vl vs)(next left:Int){d:Nat}(hd:d<=3):
 AC Tryz.prog G ir [.ptr 1 5 0 0,.p (.int .i64 d)] (HG b p fns vs next left) (PG b fns (Ru p vs next left) []):=by
 refine lS G (AC.go tu ?_)
 have hpow:3^d<=27:=by
  have:3^d<=3^3:=Nat.pow_le_pow_right (by omega) hd
  omega
 have sub:∀(k:Nat),k<=3->∀(q:Nat) (rest:List AO),p<=q->q<=p+700->AC Tryz.prog G aS [.ptr 0 2 0 0,.p (aw vs),.p (.int .i64 k)] (rdO b q::rest) λx h=>∃v q',x= .ret v/\h=rdO b q'::rest/\ExQ q (10*3^k) (6*3^k) v q':=λk hk q rest _ _=>by
  have:3^k<=3^3:=Nat.pow_le_pow_right (by omega) hk
  exact jC G (zR G hb hl vs hv k (by omega) (by omega)) rest (by simp[below])
 simp-implicitDefEqProofs[mh,HG,cn]
 refine(sub d hd p _ (by omega) (by omega)).mono ?_
 rintro r h ⟨v,q0,rfl,rfl,⟨e0,rfl,he0⟩,hq1,hq2⟩
 have hec:=e0.cs_eq
 simp-implicitDefEqProofs[aa,hec]
 have finE:∀(e:Ex) (q:Nat) (rest:List AO) (v:AV),Fzs (.dead:: .dead:: .dead::rest) 3 [v] [.agg (e.cs.map .p)]->e.sz<=400->p<=q->q<=p+400->DG b fns (Ru p vs next left) (.ret v) (rdO b q:: .row 5 [[.ptr 0 2 0 0,slE 2 3 (aX fns),.p (aw vs),.p (.int .i64 next),.p (.int .i64 left)]]::bS 3 (aX fns)::rest):=λe q rest v hz h1 h2 h3=>
  ⟨_,rest,q,_,_,vs,next,left,rfl,rfl,.keep (by simp) .nil,hz,⟨e,rfl,h1⟩,h2,h3,rfl,rfl,rfl⟩
 have fz0:∀rest,Fzs (.dead:: .dead:: .dead::rest) 3 [.agg [.p (.int .i64 e0.op),.p (.int .i64 e0.n),.p (.str e0.name),.p (exL e0.kids)]] [.agg (e0.cs.map .p)]:=λrest=> .agg (by rw[hec];exact gV (by simp)) .nil
 by_cases hfe:fns=[]
 ·have h0:aX fns=[]:=by rw[hfe];rfl
  simp-implicitDefEqProofs[h0]
  rw[←h0]
  have:=finE e0 q0 [.row 4 [[.p (.int .i64 e0.op),.p (.int .i64 e0.n),.p (.str e0.name),.p (exL e0.kids)]],.row 4 [[.p (.int .i64 e0.op),.p (.int .i64 e0.n),.p (.str e0.name),.p (exL e0.kids)]]] _ (fz0 _) (by omega) (by omega) (by omega)
  rw[h0] at this⊢
  exact this
 have hfr:¬aX fns=[]:=λh=>hfe (List.map_eq_nil_iff.1 h)
 have hfl:(aX fns).length=fns.length:=by simp[aX]
 have hfp:0<fns.length:=List.length_pos_iff.2 hfe
 simp only[eZ hfr,dx hfr,hfl] at finE
 rw[show bS 3 (aX fns)= .row 3 (aX fns) from eZ hfr,show slE 2 3 (aX fns)= .sl 2 3 0 (aX fns).length from dx hfr,hfl]
 generalize hR:aX fns=R at*
 simp-implicitDefEqProofs[hfr]
 refine(aU G b hb hl q0 (by omega) 4 _).mono ?_
 rintro r h ⟨k1,rfl,rfl,_⟩
 simp-implicitDefEqProofs[aa]
 refine aY (λhc=>?_) (λhc=>?_)
 ·simp-implicitDefEqProofs[]
  exact finE e0 _ _ _ (fz0 _) (by omega) (by omega) (by omega)
 simp-implicitDefEqProofs[hfl]
 refine(aU G b hb hl (q0+1) (by omega) fns.length _).mono ?_
 rintro r h ⟨k2,rfl,rfl,hk2⟩
 have hk:k2<fns.length:=by omega
 have hg:=UO hk
 have hgr:R[k2]?=some (fns[k2].cs.map .p):=by rw[←hR,aX,UZ,hg];rfl
 have hfo:=hf.2 _ (Ve hk)
 generalize fns[k2]=fd at hg hgr hfo
 have hfc:fd.cs=[.str fd.name,aw fd.params,smL fd.body]:=rfl
 have hsp:aw fd.params= .lst 1 (fd.params.map λw=>[.str w]):=rfl
 clear hfl hg
 simp-implicitDefEqProofs[aa,hgr,hk,hfc]
 have hexn:∀(es:List Ex) (e:Ex),exR (es++[e])=exR es++[e.cs.map .p]:=λes e=>by simp[exR]
 have hRp:∀x∈R,af 0 x:=by rw[←hR];exact uJ fns
 refine aJ (λs:ExS=>ah 99 [(8,.p (.int .i64 s.es.length)),(7,.ptr 6 4 0 0),(6,.ptr 5 3 0 0),(4,.ptr 3 4 0 0),(0,.ptr 1 5 0 0)])
  (λs=>[rdO b s.q,.row 5 [[.ptr 0 2 0 0,.sl 2 3 0 fns.length,.p (aw vs),.p (.int .i64 next),.p (.int .i64 left)]],.row 3 R,.row 4 [[.p (.int .i64 0),.p (.int .i64 0),.p (.str []),.nils]],
    .row 4 [[.p (.int .i64 e0.op),.p (.int .i64 e0.n),.p (.str e0.name),.p (exL e0.kids)]],.row 3 [[.p (.str fd.name),.p (aw fd.params),.p (smL fd.body)]],.row 4 [[.p (.int .i64 13),.p (.int .i64 0),.p (.str fd.name),slE 7 4 (exR s.es)]],bS 4 (exR s.es)])
  (λs=>s.es.length<=fd.params.length/\bq s.es<=90*s.es.length/\q0<=s.q/\s.q<=q0+2+54*s.es.length) (λs=>fd.params.length-s.es.length) ⟨[],q0+1+1⟩ ⟨by simp,by simp[bq],by simp only;omega,by simp⟩
  (tQ (by simp) (by simp) (by
    intro o h
    simp only[UX,Vk,or_false] at h
    rcases h with rfl|rfl|rfl|rfl|rfl|rfl|rfl
    ·exact bn _ _ _
    ·simp[okO,below]
    ·exact dH (λe he=>hRp e he)
    ·simp[okO,below]
    ·simp[okO,below]
    ·simp[okO,below]
    ·simp[okO,below]) (by simp[below])) ?_
 rintro⟨es,q⟩ ⟨h1,h2,h3,h4⟩
 simp only at h1 h2 h3 h4
 simp-implicitDefEqProofs[hsp]
 refine aY (λhc=>?_) (λhc=>?_)
 ·simp at hc
  have hp3:=hfo.2
  simp-implicitDefEqProofs[]
  refine(sub 2 (by omega) q _ (by omega) (by omega)).mono ?_
  rintro r h ⟨v,q2,rfl,rfl,⟨e,rfl,he⟩,hq3,hq4⟩
  have hec:=e.cs_eq
  simp-implicitDefEqProofs[aa,hec]
  have hxl:(exR es).length=es.length:=by simp[exR]
  refine⟨by rw[hxl];omega,⟨es++[e],q2⟩,⟨by simp;omega,by rw[eK];simp[bq];omega,by simp only;omega,by simp;omega⟩,by simp;omega,?_⟩
  rw[hexn,Hr _ (by simp),Fm _ (by simp),hec]
  refine eQ [0,1,2,3,4,5,6,8] (by simp) (by decide) (by decide) (bR rfl (bn _ _ _) (bT (by simp[below]) (by simp[ren,be]) (bc rfl hRp (bc rfl (by simp[below]) (bc rfl (by simp[below]) (bc rfl (by simp[below]) (bT (by simp[below]) (by simp[ren,be]) (bc rfl (λx hx=>by
   rcases UW.1 hx with h|h
   ·exact dS _ x h
   ·rw[UY.1 h];simp) bv)))))))) ?_
  simp[below,ren,w1 (i:=es.length) (by omega)]
 ·simp at hc
  have hp3:=hfo.2
  have hlen:es.length=fd.params.length:=by omega
  have hxl:(exR es).length=es.length:=by simp[exR]
  have hkids:∀(h:List AO),h[7]?=some (bS 4 (exR es))->View h (slE 7 4 (exR es)) (exL es):=λh hh=>iz hh
  simp-implicitDefEqProofs[]
  refine(aU G b hb hl q (by omega) 2 _).mono ?_
  rintro r h ⟨k3,rfl,rfl,_⟩
  simp-implicitDefEqProofs[aa]
  refine aY (λhc2=>?_) (λhc2=>?_)
  ·simp-implicitDefEqProofs[]
   have hcc:(Ex.mk 13 0 fd.name es).cs=[.int .i64 13,.int .i64 0,.str fd.name,exL es]:=Ex.cs_eq _
   exact finE ⟨13,0,fd.name,es⟩ (q+1) _ _ (.agg (by rw[hcc];exact .keep (by simp) (.keep (by simp) (.keep (by simp) (.one (hkids _ rfl) .nil)))) .nil) (by simp[Ex.sz];omega) (by omega) (by omega)
  ·simp-implicitDefEqProofs[]
   refine(FT G hb hl (p:=q+1) (by omega) [3,4,8,10] (by simp) (by simp) _).mono ?_
   rintro r h ⟨n,_,rfl,rfl⟩
   simp-implicitDefEqProofs[aa]
   refine(sub 2 (by omega) (q+1+1) _ (by omega) (by omega)).mono ?_
   rintro r h ⟨v,q2,rfl,rfl,⟨e,rfl,he⟩,hq3,hq4⟩
   have hec:=e.cs_eq
   simp-implicitDefEqProofs[aa,hec]
   have hcc:(Ex.mk 13 0 fd.name es).cs=[.int .i64 13,.int .i64 0,.str fd.name,exL es]:=Ex.cs_eq _
   exact finE ⟨n,0,[],[⟨13,0,fd.name,es⟩,e]⟩ q2 _ _ (.agg (.keep (by simp) (.keep (by simp) (.keep (by simp) (.one (tP (p0:=(Ex.mk 13 0 fd.name es).cs) (p1:=e.cs) rfl (Ex.cs_len _) (Ex.cs_len _) (λj q a e1 e2=>by
    rw[hcc] at e1
    match j,e1,e2 with
    |0,e1,e2=>cases e1;cases e2;exact .p _
    |1,e1,e2=>cases e1;cases e2;exact .p _
    |2,e1,e2=>cases e1;cases e2;exact .p _
    |3,e1,e2=>cases e1;cases e2;exact hkids _ rfl
    |j+4,e1,e2=>simp at e1) (λj q a e1 e2=>by
    rw[hec] at e1
    match j,e1,e2 with
    |0,e1,e2=>cases e1;cases e2;exact .p _
    |1,e1,e2=>cases e1;cases e2;exact .p _
    |2,e1,e2=>cases e1;cases e2;exact .p _
    |3,e1,e2=>cases e1;cases e2;exact .p _
    |j+4,e1,e2=>simp at e1)) .nil)))) .nil) (by simp[Ex.sz,bq];omega) (by omega) (by omega)
end
section
variable (G:al)
def Ug(p:Nat)(vs:List (List UInt8))(next left:Int)(v:AV)(q:Nat)(vs':List (List UInt8))(next' left':Int):Prop:=(∃e:Ex,v= .agg (e.cs.map .p)/\e.sz<=410)/\p<=q/\q<=p+401/\vs'=vs/\next'=next/\left'=left
theorem Mc{b:List Int}(hb:Byt b)(hl:b.length<=2000){p:Nat}(hp:p+2000<=1000000000000)(fns:List Fd)(hf:Am fns)(vs:List (List UInt8))(hv:vl vs)(next left:Int):
 AC Tryz.prog G ee [.ptr 1 5 0 0] (HG b p fns vs next left) (PG b fns (Ug p vs next left) []):=by
 refine lS G (AC.go tL ?_)
 simp-implicitDefEqProofs[lL,HG,cn]
 refine(cN G (mA G hb hl (p:=p) (by omega) fns hf vs hv next left (d:=2) (by omega)) _ (by simp[below])).mono ?_
 rintro r h ⟨v,q,vs',n',l',rfl,rfl,⟨e,rfl,he⟩,h1,h2,rfl,rfl,rfl⟩
 have hec:=e.cs_eq
 simp-implicitDefEqProofs[aa,cn,hec]
 refine(FT G hb hl (p:=q) (by omega) [16,16,16,8,17,0] (by simp) (by simp) _).mono ?_
 rintro r h ⟨n,_,rfl,rfl⟩
 simp-implicitDefEqProofs[aa]
 have hn:(Ex.mk 1 n [] []).cs=[.int .i64 1,.int .i64 n,.str [],.lst 4 []]:=Ex.cs_eq _
 refine⟨_,[_,_],q+1,_,.agg ((Ex.mk 7 0 [] [e,⟨1,n,[],[]⟩]).cs.map .p),vs',n',l',rfl,rfl,.keep (by simp) .nil,.agg (.keep (by simp) (.keep (by simp) (.keep (by simp) (.one (tP (p0:=e.cs) (p1:=(Ex.mk 1 n [] []).cs) rfl (Ex.cs_len _) (Ex.cs_len _) (λj q a e1 e2=>?_) (λj q a e1 e2=>?_)) .nil)))) .nil,⟨_,rfl,by simp[Ex.sz,bq];omega⟩,by omega,by omega,rfl,rfl,rfl⟩
 ·rw[hec] at e1
  match j,e1,e2 with
  |0,e1,e2=>cases e1;cases e2;exact .p _
  |1,e1,e2=>cases e1;cases e2;exact .p _
  |2,e1,e2=>cases e1;cases e2;exact .p _
  |3,e1,e2=>cases e1;cases e2;exact .p _
  |j+4,e1,e2=>simp at e1
 ·rw[hn] at e1
  match j,e1,e2 with
  |0,e1,e2=>cases e1;cases e2;exact .p _
  |1,e1,e2=>cases e1;cases e2;exact .p _
  |2,e1,e2=>cases e1;cases e2;exact .p _
  |3,e1,e2=>cases e1;cases e2;exact View.nils 4
  |j+4,e1,e2=>simp at e1
def SG(p:Nat)(e:Ex)(vs:List (List UInt8))(next left:Int)(v:AV)(q:Nat)(vs':List (List UInt8))(next' left':Int):Prop:=
 ∃s:List UInt8,s.length<=8/\v= .agg ((Sm.mk 1 s [e] [] []).cs.map .p)/\p<=q/\q<=p+2/\vs'=vs++[s]/\next'=next+1/\left'=left
theorem OQ{b:List Int}(hb:Byt b)(hl:b.length<=2000){p:Nat}(hp:p+2<=1000000000000)(fns:List Fd)(vs:List (List UInt8))(hv:vl vs){next:Int}(hn: -1<=next)(hn2:next<=1000000000000)(left:Int)(e:Ex):
 AC Tryz.prog G dE [.ptr 1 5 0 0,.agg (e.cs.map .p)] (HG b p fns vs next left) (PG b fns (SG p e vs next left) []):=by
 refine lS G (AC.go mP ?_)
 have hec:=e.cs_eq
 simp-implicitDefEqProofs[iU,HG,cn,hec]
 refine(cN G (Hj G hb hl hp fns vs hv hn hn2 left) _ (by simp[below])).mono ?_
 rintro r h ⟨v,q,vs',n',l',rfl,rfl,⟨s,rfl,hs⟩,h1,h2,rfl,rfl,rfl⟩
 have hsl:aw vs'= .lst 1 (vs'.map λw=>[.str w]):=rfl
 simp-implicitDefEqProofs[aa,cn,hsl]
 have hv1:=hv.1
 have hrow:List.take vs'.length (List.map ((λx=>List.map AV.p x)∘λw=>[PV.str w]) vs')++[[AV.p (PV.str s)]]=(vs'++[s]).map λw=>[AV.p (.str w)]:=by
  rw[US (by simp)];simp[Function.comp_def]
 have hlen:vs'.length+1=(vs'++[s]).length:=by simp
 refine⟨by omega,by omega,?_⟩
 rw[hrow,hlen]
 have hsm:(Sm.mk 1 s [e] [] []).cs=[.int .i64 1,.str s,exL [e],smL [],smL []]:=Sm.cs_eq _
 refine⟨_,_,q,_,.agg ((Sm.mk 1 s [e] [] []).cs.map .p),vs'++[s],next+1,l',rfl,rfl,.one (gx rfl) .nil,.agg ?_ .nil,⟨s,hs,rfl,h1,h2,rfl,rfl,rfl⟩⟩
 rw[hsm]
 refine .keep (by simp) (.keep (by simp) (.one ?_ (.one (View.nils 5) (.one (View.nils 5) .nil))))
 exact dN (l:=[e]) (by rw[VS,hec];rfl)
theorem Pm{b:List Int}(hb:Byt b)(hl:b.length<=2000){p:Nat}(hp:p+2<=1000000000000)(fns:List Fd)(vs:List (List UInt8))(hv:vl vs){next:Int}(hn: -1<=next)(hn2:next<=1000000000000)(left:Int)(N:Int):
 AC Tryz.prog G dE [.ptr 1 5 0 0,.agg [.p (.int .i64 1),.p (.int .i64 N),.p (.str []),.nils]] (HG b p fns vs next left) (PG b fns (SG p ⟨1,N,[],[]⟩ vs next left) []):=by
 refine lS G (AC.go mP ?_)
 simp-implicitDefEqProofs[iU,HG,cn]
 refine(cN G (Hj G hb hl hp fns vs hv hn hn2 left) _ (by simp[below])).mono ?_
 rintro r h ⟨v,q,vs',n',l',rfl,rfl,⟨s,rfl,hs⟩,h1,h2,rfl,rfl,rfl⟩
 have hsl:aw vs'= .lst 1 (vs'.map λw=>[.str w]):=rfl
 simp-implicitDefEqProofs[aa,cn,hsl]
 have hv1:=hv.1
 have hrow:List.take vs'.length (List.map ((λx=>List.map AV.p x)∘λw=>[PV.str w]) vs')++[[AV.p (PV.str s)]]=(vs'++[s]).map λw=>[AV.p (.str w)]:=by
  rw[US (by simp)];simp[Function.comp_def]
 have hlen:vs'.length+1=(vs'++[s]).length:=by simp
 refine⟨by omega,by omega,?_⟩
 rw[hrow,hlen]
 have hsm:(Sm.mk 1 s [⟨1,N,[],[]⟩] [] []).cs=[.int .i64 1,.str s,exL [⟨1,N,[],[]⟩],smL [],smL []]:=Sm.cs_eq _
 refine⟨_,_,q,_,.agg ((Sm.mk 1 s [⟨1,N,[],[]⟩] [] []).cs.map .p),vs'++[s],next+1,l',rfl,rfl,.one (gx rfl) .nil,.agg ?_ .nil,⟨s,hs,rfl,h1,h2,rfl,rfl,rfl⟩⟩
 rw[hsm]
 refine .keep (by simp) (.keep (by simp) (.one ?_ (.one (View.nils 5) (.one (View.nils 5) .nil))))
 refine View.sl _ _ _ _ [(Ex.mk 1 N [] []).cs] rfl (by simp) (by simp) λi j e q e' a a1 a2 a3 a4=>?_
 rw[VP] at a3
 match i,a1,a3 with
 |0,a1,a3=>
  cases a1;cases a3
  have hn:(Ex.mk 1 N [] []).cs=[.int .i64 1,.int .i64 N,.str [],.lst 4 []]:=Ex.cs_eq _
  rw[hn] at a2
  match j,a2,a4 with
  |0,e1,e2=>cases e1;cases e2;exact .p _
  |1,e1,e2=>cases e1;cases e2;exact .p _
  |2,e1,e2=>cases e1;cases e2;exact .p _
  |3,e1,e2=>cases e1;cases e2;exact View.nils 4
  |j+4,e1,e2=>simp at e1
 |i+1,a1,a3=>simp at a1
end
section
def Pd(d:Nat):Nat:=5000*20^d
structure Bd (n:Nat) (p:Nat) (vs:List (List UInt8)) (next left:Int):Prop where
 p:p+n<=100000000000
 v:vs.length+n/50<=900000
 w:∀s∈vs,s.length<=8
 n0: -1<=next
 n1:next+n<=100000000000
 l0: -100000000000<=left-n
 l1:left<=100000000000
theorem Bd.shrt{n p:Nat}{vs:List (List UInt8)}{next left:Int}(h:Bd n p vs next left):vl vs:=⟨by have:=h.v;omega,h.w⟩
def Mv(n p q:Nat)(next next' left left':Int):Prop:=p<=q/\q<=p+n/\next<=next'/\next'<=next+n/\left-n<=left'/\left'<=left
def Nn(b:List Int)(fns:List Fd)(vs:List (List UInt8))(p n:Nat)(next left:Int)(rest:List AO)(x:ARes)(h:List AO):Prop:=
 ∃(out:List Sm) (q:Nat) (next' left':Int),x= .ret (.sl (3+rest.length) 5 0 out.length)/\h=rdO b q:: .row 5 [cn fns vs next' left']::bS 3 (aX fns)::rest++[.row 5 (smR out)]/\aD out<=n/\out.length<=100/\Mv n p q next next' left left'
def IJ(G:al)(b:List Int)(fns:List Fd)(d:Nat):Prop:=∀{p:Nat} {vs:List (List UInt8)} {next left:Int},Bd (Pd d) p vs next left->AC Tryz.prog G aT [.ptr 1 5 0 0,.p (.int .i64 d)] (HG b p fns vs next left) (Nn b fns vs p (Pd d) next left [])
variable (G:al)
theorem tj{b:List Int}{fns:List Fd}{d p:Nat}{vs:List (List UInt8)}{next left:Int}(H:AC Tryz.prog G aT [.ptr 1 5 0 0,.p (.int .i64 d)] (HG b p fns vs next left) (Nn b fns vs p (Pd d) next left []))(rest:List AO):
 AC Tryz.prog G aT [.ptr 1 5 0 0,.p (.int .i64 d)] (rdO b p:: .row 5 [cn fns vs next left]::bS 3 (aX fns)::rest) (Nn b fns vs p (Pd d) next left rest):=by
 have H2:AC Tryz.prog G aT [.ptr 1 5 0 0,.p (.int .i64 d)] (HG b p fns vs next left) λx h'=>∃h1 es,h'=h1++[.row 5 es]/\h1.length=(HG b p fns vs next left).length/\x= .ret (.sl (HG b p fns vs next left).length 5 0 es.length)/\(∀e∈es,af 0 e)/\
  (∃(out:List Sm) (q:Nat) (next' left':Int),es=smR out/\h1=HG b q fns vs next' left'/\aD out<=Pd d/\out.length<=100/\Mv (Pd d) p q next next' left left'):=by
  refine H.mono ?_
  rintro x h ⟨out,q,n',l',rfl,rfl,h1,h2,h3⟩
  exact⟨HG b q fns vs n' l',smR out,rfl,rfl,by simp[HG,fZ],dM out,out,q,n',l',rfl,rfl,h1,h2,h3⟩
 refine(AC.pre1 (R:=λh1 es=>∃(out:List Sm) (q:Nat) (next' left':Int),es=smR out/\h1=HG b q fns vs next' left'/\aD out<=Pd d/\out.length<=100/\Mv (Pd d) p q next next' left left') H2 rest (by simp[below,HG]) (Le _ _ _ _ _ _) ?_).mono ?_
 ·rintro h1 es ⟨out,q,n',l',rfl,rfl,_⟩
  exact Le _ _ _ _ _ _
 ·rintro x h ⟨h1,es,rfl,_,rfl,_,out,q,n',l',rfl,rfl,r⟩
  exact⟨out,q,n',l',by simp[HG,fZ],rfl,r⟩
theorem uk:AK.whole gN=FK.ak ij:=rfl
def Uh(n p:Nat)(vs:List (List UInt8))(next left:Int)(v:AV)(q:Nat)(vs':List (List UInt8))(next' left':Int):Prop:=
 ∃(out:List Sm) (s:List UInt8),v= .p (smL out)/\aD out<=n/\1<=out.length/\out.length<=2/\s.length<=8/\vs'=vs++[s]/\Mv n p q next next' left left'
theorem KL{b:List Int}(hb:Byt b)(hl:b.length<=2000)(fns:List Fd){d:Nat}(hd:d<=10)(hblk:IJ G b fns d){p:Nat}{vs:List (List UInt8)}{next left:Int}(hB:Bd (Pd d+60) p vs next left):
 AC Tryz.prog G ie [.ptr 1 5 0 0,.p (.int .i64 ((d:Int)+1))] (HG b p fns vs next left) (PG b fns (Uh (Pd d+60) p vs next left) []):=by
 have hp:=hB.p
 have hv:=hB.v
 have hn0:=hB.n0
 have hn1:=hB.n1
 have hl0:=hB.l0
 have hl1:=hB.l1
 refine lS G (AC.goK th uk ?_)
 simp-implicitDefEqProofs[gN,ij,HG,cn]
 refine(ma G hb hl (p:=p) (by omega) [2,3,1,0,5] (k:=3) (by simp) (by simp) (by omega) rfl rfl).mono ?_
 rintro r h ⟨N,hN,rfl,rfl⟩
 have hN5:0<=N/\N<=5:=by simp at hN;omega
 simp-implicitDefEqProofs[aa]
 refine(cN G (Pm G hb hl (p:=p+1) (by omega) fns vs hB.shrt hn0 (by omega) left N) _ (by simp[below])).mono ?_
 rintro r h ⟨v,q,vs',n',l',rfl,rfl,s,hs,rfl,h1,h2,rfl,rfl,rfl⟩
 have hsm:(Sm.mk 1 s [⟨1,N,[],[]⟩] [] []).cs=[.int .i64 1,.str s,exL [⟨1,N,[],[]⟩],smL [],smL []]:=Sm.cs_eq _
 have hwd:IntKind.i64.wrap ((d:Int)+1-1)=d:=by rw[ab (by omega) (by omega)];omega
 have hw2:IntKind.i64.wrap (d:Int)=d:=ab (by omega) (by omega)
 simp-implicitDefEqProofs[aa,cn,hsm,hw2]
 have hB2:Bd (Pd d) q (vs++[s]) (next+1) l':=⟨by omega,by simp;omega,λw hw=>by
  rcases UW.1 hw with h|h
  ·exact hB.w w h
  ·rw[UY.1 h];exact hs,by omega,by omega,by omega,by omega⟩
 refine(tj G (hblk hB2) _).mono ?_
 rintro r h ⟨out,q2,n2,l2,rfl,rfl,z1,z2,m1,m2,m3,m4,m5,m6⟩
 have hwl:IntKind.i64.wrap (l2-2)=l2-2:=ab (by omega) (by omega)
 simp-implicitDefEqProofs[aa,cn,hwl]
 have hHb:∀(l:Int),okO 7 (.row 5 [[.ptr 0 2 0 0,slE 2 3 (aX fns),.p (aw (vs++[s])),.p (.int .i64 n2),.p (.int .i64 l)]]):=λl e he=>by
  rw[UY.1 he];exact⟨by simp[below],pG (by omega),by simp,by simp,by simp,trivial⟩
 refine jK (ah 50 [(0,.ptr 1 5 0 0),(5,.ptr 3 5 0 0),(6,.ptr 4 4 0 0),(7,.sl 5 5 0 out.length),(8,.ptr 6 5 0 0)])
  [rdO b q2,.row 5 [[.ptr 0 2 0 0,slE 2 3 (aX fns),.p (aw (vs++[s])),.p (.int .i64 n2),.p (.int .i64 (l2-2))]],bS 3 (aX fns),
   .row 5 [[.p (.int .i64 1),.p (.str s),.p (exL [Ex.mk 1 N [] []]),.p (smL []),.p (smL [])]],.row 4 [[.p (.int .i64 2),.p (.int .i64 0),.p (.str s),.p (exL [])]],.row 5 (smR out),
   .row 5 [[.p (.int .i64 2),.p (.str s),.p (exL [Ex.mk 4 0 [] [⟨2,0,s,[]⟩,⟨1,1,[],[]⟩]]),.p (smL []),.p (smL [])]]] ?_ ?_
 ·simp-implicitDefEqProofs[hwl]
  refine Wk.trans (eQ (l1:=[(0,.ptr 1 5 0 0),(5,.ptr 3 5 0 0),(6,.ptr 4 4 0 0),(7,.sl 5 5 0 out.length),(8,.ptr 6 5 0 0)])
   (h1:=[rdO b q2,.row 5 [[.ptr 0 2 0 0,slE 2 3 (aX fns),.p (aw (vs++[s])),.p (.int .i64 n2),.p (.int .i64 (l2-2))]],bS 3 (aX fns),
   .row 5 [[.p (.int .i64 1),.p (.str s),.p (exL [Ex.mk 1 N [] []]),.p (smL []),.p (smL [])]],.row 4 [[.p (.int .i64 2),.p (.int .i64 0),.p (.str s),.nils]],.row 5 (smR out),
   .row 5 [[.p (.int .i64 2),.p (.str s),.sl 8 4 0 1,.nils,.nils]],.row 4 [[.p (.int .i64 2),.p (.int .i64 0),.p (.str s),.nils],[.p (.int .i64 1),.p (.int .i64 1),.p (.str []),.nils]],.row 4 [[.p (.int .i64 4),.p (.int .i64 0),.p (.str []),.sl 7 4 0 2]]])
   [0,1,2,4,5,6,9,7,8] (by simp) (by decide) (by decide) (bR rfl (bn _ _ _) (bT (by simp[below]) (by simp[ren,be]) (bR rfl (mb _ _) (bc rfl (by simp[below]) (bc rfl (by simp[below]) (bc rfl (dM out) (bT (by simp[below]) (by simp[ren,be]) (bc rfl (by simp[below]) (bT (by simp[below]) (by simp[ren,be]) bv))))))))) (by simp[below,ren]))
   (dK 7 (by omega) (by simp) rfl (.same (bn _ _ _) (.same (hHb _) (.same (mb _ _) (.same (by simp[okO,below]) (.one (.keep (by simp) (.keep (by simp) (.keep (by simp) (.one (View.nils 4) .nil)))) (.same (dH (dM out)) (.one (.keep (by simp) (.keep (by simp) (.one ?_ (.one (View.nils 5) (.one (View.nils 5) .nil))))) (.nil _)))))))) ?_)
  ·exact bs (p0:=(Ex.mk 4 0 [] [⟨2,0,s,[]⟩,⟨1,1,[],[]⟩]).cs) rfl (Ex.cs_len _) (iu (tP (p0:=(Ex.mk 2 0 s []).cs) (p1:=(Ex.mk 1 1 [] []).cs) rfl (Ex.cs_len _) (Ex.cs_len _) (iu (View.nils 4)) (iu (View.nils 4))))
  ·exact⟨.keep (by simp[below]) .nil,.keep (by simp[below]) .nil,.keep (by simp[below]) .nil,.keep (by simp[below]) .nil,.keep (by simp[below]) .nil,trivial⟩
 ·simp-implicitDefEqProofs[]
  have hless:(Sm.mk 2 s [Ex.mk 4 0 [] [⟨2,0,s,[]⟩,⟨1,1,[],[]⟩]] [] []).cs=[.int .i64 2,.str s,exL [Ex.mk 4 0 [] [⟨2,0,s,[]⟩,⟨1,1,[],[]⟩]],smL [],smL []]:=Sm.cs_eq _
  have hrow:List.take out.length (smR out)++[[AV.p (.int .i64 2),.p (.str s),.p (exL [Ex.mk 4 0 [] [⟨2,0,s,[]⟩,⟨1,1,[],[]⟩]]),.p (smL []),.p (smL [])]]=smR (out++[Sm.mk 2 s [Ex.mk 4 0 [] [⟨2,0,s,[]⟩,⟨1,1,[],[]⟩]] [] []]):=by
   rw[US (by rw[fZ];exact Vb _),Cw];exact congrArg (smR out++ ·) (by rw[smR,VS,hless];rfl)
  have hlen:out.length+1=(out++[Sm.mk 2 s [Ex.mk 4 0 [] [⟨2,0,s,[]⟩,⟨1,1,[],[]⟩]] [] []]).length:=by simp
  refine⟨⟨by rw[fZ];exact Vb _,by omega,by omega⟩,?_⟩
  rw[hrow,hlen]
  refine⟨_,_,q2,_,.p (smL [Sm.mk 1 s [⟨1,N,[],[]⟩] [] [],Sm.mk 6 [] [⟨2,0,s,[]⟩] (out++[Sm.mk 2 s [Ex.mk 4 0 [] [⟨2,0,s,[]⟩,⟨1,1,[],[]⟩]] [] []]) []]),vs++[s],n2,l2-2,rfl,rfl,.keep (by simp) .nil,
   .one (tP (p0:=(Sm.mk 1 s [⟨1,N,[],[]⟩] [] []).cs) (p1:=(Sm.mk 6 [] [⟨2,0,s,[]⟩] (out++[Sm.mk 2 s [Ex.mk 4 0 [] [⟨2,0,s,[]⟩,⟨1,1,[],[]⟩]] [] []]) []).cs) rfl (Sm.cs_len _) (Sm.cs_len _)
    (bV (.p _) (.p _) (.p _)) (bV ?_ (kL rfl) (View.nils 5))) .nil,_,s,rfl,?_,by simp,by simp,hs,rfl,?_⟩
  ·have h2:(Ex.mk 2 0 s []).cs=[.int .i64 2,.int .i64 0,.str s,exL []]:=Ex.cs_eq _
   have he:exL [Ex.mk 2 0 s []]= .lst 4 [[.int .i64 2,.int .i64 0,.str s,exL []]]:=by rw[exL,VS,h2]
   rw[he]
   exact .p _
  ·simp[aD,bC,Sm.sz,Ex.sz,bq]
   omega
  ·exact⟨by omega,by omega,by omega,by omega,by omega,by omega⟩
end
section
variable (G:al)
def Rp(n p:Nat)(vs:List (List UInt8))(next left:Int)(v:AV)(q:Nat)(vs':List (List UInt8))(next' left':Int):Prop:=
 ∃out:List Sm,v= .p (smL out)/\aD out<=n/\1<=out.length/\out.length<=2/\(vs'=vs\/∃s:List UInt8,s.length<=8/\vs'=vs++[s])/\Mv n p q next next' left left'
theorem Ph{b:List Int}(hb:Byt b)(hl:b.length<=2000)(fns:List Fd)(hf:Am fns){d:Nat}(hd:d<=10)(hblk:1<=d->IJ G b fns d){p:Nat}{vs:List (List UInt8)}{next left:Int}(hB:Bd (2*Pd d+3000) p vs next left):
 AC Tryz.prog G ia [.ptr 1 5 0 0,.p (.int .i64 ((d:Int)+1))] (HG b p fns vs next left) (PG b fns (Rp (2*Pd d+3000) p vs next left) []):=by
 have hp:=hB.p
 have hv:=hB.v
 have hn0:=hB.n0
 have hn1:=hB.n1
 have hl0:=hB.l0
 have hl1:=hB.l1
 refine lS G (AC.go tx ?_)
 have hwl:IntKind.i64.wrap (left-1)=left-1:=ab (by omega) (by omega)
 have hsl:aw vs= .lst 1 (vs.map λw=>[.str w]):=rfl
 simp-implicitDefEqProofs[lU,HG,cn,hwl]
 refine(aU G b hb hl p (by omega) 13 _).mono ?_
 rintro r h ⟨k,rfl,rfl,hk⟩
 have dg:∀(m:Sm) (q:Nat) (rest:List AO) (v:AV) (vc:AV) (vs':List (List UInt8)) (next' left':Int),Fzs (.dead:: .dead:: .dead::rest) 3 [vc] [.p (aw vs')]->Fzs (.dead:: .dead:: .dead::rest) 3 [v] [.p (smL [m])]->m.sz<=2*Pd d+3000->(vs'=vs\/∃s:List UInt8,s.length<=8/\vs'=vs++[s])->Mv (2*Pd d+3000) p q next next' left left'->
  DG b fns (Rp (2*Pd d+3000) p vs next left) (.ret v) (rdO b q:: .row 5 [[.ptr 0 2 0 0,slE 2 3 (aX fns),vc,.p (.int .i64 next'),.p (.int .i64 left')]]::bS 3 (aX fns)::rest):=λm q rest v vc vs' next' left' h1 h2 h3 h4 h5=>
  ⟨_,rest,q,_,_,vs',next',left',rfl,rfl,h1,h2,[m],rfl,by simp[aD];omega,by simp,by simp,h4,h5⟩
 by_cases hc:k<3/\vs≠[]
 ·obtain⟨hc1,hne⟩:=hc
  have hpos:0<vs.length:=List.length_pos_iff.2 hne
  have hc1':(k:Int)<3:=by omega
  have hv1:=hB.v
  simp-implicitDefEqProofs[aa,hsl,hc1,hc1',hpos]
  rw[←hsl]
  refine(Hg G hb hl (p:=p+1) (by omega) vs hne (by omega) _).mono ?_
  rintro r h ⟨w,hw,rfl,rfl⟩
  have hw8:=hB.w w hw
  simp-implicitDefEqProofs[aa]
  refine(cN G (mA G hb hl (p:=p+1+1) (by omega) fns hf vs hB.shrt next (left-1) (d:=3) (by omega)) _ (by simp[below])).mono ?_
  rintro r h ⟨v,q,vs',n',l',rfl,rfl,⟨e,rfl,he⟩,h1,h2,rfl,rfl,rfl⟩
  have hec:=e.cs_eq
  simp-implicitDefEqProofs[aa,cn,hec]
  exact dg ⟨2,w,[e],[],[]⟩ q _ _ _ vs' n' (left-1) (.keep (by simp) .nil) (.one (bs (p0:=(Sm.mk 2 w [e] [] []).cs) rfl (Sm.cs_len _) (bV (dN (l:=[e]) (by rw[VS,hec];rfl)) (View.nils 5) (View.nils 5))) .nil) (by simp[Sm.sz,bq,aD];omega) (.inl rfl) ⟨by omega,by omega,by omega,by omega,by omega,by omega⟩
 have hcc:(k<3/\0<vs.length)=False:=by
  simp only[eq_iff_iff,iff_false]
  exact λ⟨a,c⟩=>hc ⟨a,List.length_pos_iff.1 c⟩
 have hvz:(k:Int)<3->vs.length=0:=λh=>by
  by_cases e:vs=[]
  ·rw[e];rfl
  ·exact absurd ⟨by omega,e⟩ hc
 have hvx:=hB.shrt
 have hvv:=hB.v
 by_cases k5:(k:Int)<5
 ·by_cases k3:(k:Int)<3
  ·have hv0:=hvz k3
   simp-implicitDefEqProofs[aa,hsl,k3,hv0,k5]
   rw[←hsl]
   refine(cN G (mA G hb hl (p:=p+1) (by omega) fns hf vs hvx next (left-1) (d:=3) (by omega)) _ (by simp[below])).mono ?_
   rintro r h ⟨v,q,vs',n',l',rfl,rfl,⟨e,rfl,he⟩,h1,h2,rfl,rfl,rfl⟩
   have hec:=e.cs_eq
   have hL:=OQ G hb hl (p:=q) (by omega) fns vs' hvx hn0 (by omega) (left-1) e
   rw[hec] at hL
   simp-implicitDefEqProofs[aa,cn,hec]
   refine(cN G hL _ (by simp[below])).mono ?_
   rintro r h ⟨v,q2,vs2,n2,l2,rfl,rfl,s,hs,rfl,h3,h4,rfl,rfl,rfl⟩
   have hsm:(Sm.mk 1 s [e] [] []).cs=[.int .i64 1,.str s,exL [e],smL [],smL []]:=Sm.cs_eq _
   simp-implicitDefEqProofs[aa,cn,hsm]
   exact dg ⟨1,s,[e],[],[]⟩ q2 _ _ _ (vs'++[s]) (n'+1) (left-1) (.keep (by simp) .nil) (.one (bs (p0:=(Sm.mk 1 s [e] [] []).cs) rfl (Sm.cs_len _) (bV (.p _) (.p _) (.p _))) .nil) (by simp[Sm.sz,bq,aD];omega) (.inr ⟨s,hs,rfl⟩) ⟨by omega,by omega,by omega,by omega,by omega,by omega⟩
  ·simp-implicitDefEqProofs[aa,hsl,k3,k5]
   rw[←hsl]
   refine(cN G (mA G hb hl (p:=p+1) (by omega) fns hf vs hvx next (left-1) (d:=3) (by omega)) _ (by simp[below])).mono ?_
   rintro r h ⟨v,q,vs',n',l',rfl,rfl,⟨e,rfl,he⟩,h1,h2,rfl,rfl,rfl⟩
   have hec:=e.cs_eq
   have hL:=OQ G hb hl (p:=q) (by omega) fns vs' hvx hn0 (by omega) (left-1) e
   rw[hec] at hL
   simp-implicitDefEqProofs[aa,cn,hec]
   refine(cN G hL _ (by simp[below])).mono ?_
   rintro r h ⟨v,q2,vs2,n2,l2,rfl,rfl,s,hs,rfl,h3,h4,rfl,rfl,rfl⟩
   have hsm:(Sm.mk 1 s [e] [] []).cs=[.int .i64 1,.str s,exL [e],smL [],smL []]:=Sm.cs_eq _
   simp-implicitDefEqProofs[aa,cn,hsm]
   exact dg ⟨1,s,[e],[],[]⟩ q2 _ _ _ (vs'++[s]) (n'+1) (left-1) (.keep (by simp) .nil) (.one (bs (p0:=(Sm.mk 1 s [e] [] []).cs) rfl (Sm.cs_len _) (bV (.p _) (.p _) (.p _))) .nil) (by simp[Sm.sz,bq,aD];omega) (.inr ⟨s,hs,rfl⟩) ⟨by omega,by omega,by omega,by omega,by omega,by omega⟩
 have k3:¬(k:Int)<3:=by omega
 by_cases k7:(k:Int)<7\/d=0
 ·by_cases k7':(k:Int)<7
  ·simp-implicitDefEqProofs[aa,k3,k5,k7']
   refine(cN G (mA G hb hl (p:=p+1) (by omega) fns hf vs hvx next (left-1) (d:=3) (by omega)) _ (by simp[below])).mono ?_
   rintro r h ⟨v,q,vs',n',l',rfl,rfl,⟨e,rfl,he⟩,h1,h2,rfl,rfl,rfl⟩
   have hec:=e.cs_eq
   simp-implicitDefEqProofs[aa,cn,hec]
   exact dg ⟨3,[],[e],[],[]⟩ q _ _ _ vs' n' (left-1) (.keep (by simp) .nil) (.one (bs (p0:=(Sm.mk 3 [] [e] [] []).cs) rfl (Sm.cs_len _) (bV (dN (l:=[e]) (by rw[VS,hec];rfl)) (View.nils 5) (View.nils 5))) .nil) (by simp[Sm.sz,bq,aD];omega) (.inl rfl) ⟨by omega,by omega,by omega,by omega,by omega,by omega⟩
  ·have hdl:(d:Int)+1<2:=by omega
   simp-implicitDefEqProofs[aa,k3,k5,k7',hdl]
   refine(cN G (mA G hb hl (p:=p+1) (by omega) fns hf vs hvx next (left-1) (d:=3) (by omega)) _ (by simp[below])).mono ?_
   rintro r h ⟨v,q,vs',n',l',rfl,rfl,⟨e,rfl,he⟩,h1,h2,rfl,rfl,rfl⟩
   have hec:=e.cs_eq
   simp-implicitDefEqProofs[aa,cn,hec]
   exact dg ⟨3,[],[e],[],[]⟩ q _ _ _ vs' n' (left-1) (.keep (by simp) .nil) (.one (bs (p0:=(Sm.mk 3 [] [e] [] []).cs) rfl (Sm.cs_len _) (bV (dN (l:=[e]) (by rw[VS,hec];rfl)) (View.nils 5) (View.nils 5))) .nil) (by simp[Sm.sz,bq,aD];omega) (.inl rfl) ⟨by omega,by omega,by omega,by omega,by omega,by omega⟩
 have k7':¬(k:Int)<7:=λh=>k7 (.inl h)
 have hd1:1<=d:=by omega
 have hd2:¬((d:Int)+1)<2:=by omega
 have hblk2:IJ G b fns d:= @hblk hd1
 by_cases e7:(k:Int)=7
 ·simp-implicitDefEqProofs[aa,k3,k5,k7',hd2,e7]
  refine(cN G (Mc G hb hl (p:=p+1) (by omega) fns hf vs hvx next (left-1)) _ (by simp[below])).mono ?_
  rintro r h ⟨v,q,vs',n',l',rfl,rfl,⟨e,rfl,he⟩,h1,h2,rfl,rfl,rfl⟩
  have hec:=e.cs_eq
  simp-implicitDefEqProofs[aa,cn,hec]
  refine(cN G (mA G hb hl (p:=q) (by omega) fns hf vs' hvx n' (left-1) (d:=2) (by omega)) _ (by simp[below])).mono ?_
  rintro r h ⟨v,q2,vs2,n2,l2,rfl,rfl,⟨e2,rfl,he2⟩,h3,h4,rfl,rfl,rfl⟩
  have hec2:=e2.cs_eq
  simp-implicitDefEqProofs[aa,cn,hec2]
  exact dg ⟨4,[],[e,e2],[],[]⟩ q2 _ _ _ vs2 n2 (left-1) (.keep (by simp) .nil) (.one (bs (p0:=(Sm.mk 4 [] [e,e2] [] []).cs) rfl (Sm.cs_len _) (bV (dN (l:=[e,e2]) (by rw[Vn,VS,hec,hec2];rfl)) (View.nils 5) (View.nils 5))) .nil) (by simp[Sm.sz,bq,aD];omega) (.inl rfl) ⟨by omega,by omega,by omega,by omega,by omega,by omega⟩
 by_cases e8:(k:Int)=8
 ·simp-implicitDefEqProofs[aa,k3,k5,k7',hd2,e7,e8]
  refine(cN G (Mc G hb hl (p:=p+1) (by omega) fns hf vs hvx next (left-1)) _ (by simp[below])).mono ?_
  rintro r h ⟨v,q,vs',n',l',rfl,rfl,⟨e,rfl,he⟩,h1,h2,rfl,rfl,rfl⟩
  have hec:=e.cs_eq
  simp-implicitDefEqProofs[aa,cn,hec]
  exact dg ⟨3,[],[⟨12,0,[],[e]⟩],[],[]⟩ q _ _ _ vs' n' (left-1) (.keep (by simp) .nil) (.one (bs (p0:=(Sm.mk 3 [] [⟨12,0,[],[e]⟩] [] []).cs) rfl (Sm.cs_len _) (bV (bs (p0:=(Ex.mk 12 0 [] [e]).cs) rfl (Ex.cs_len _) (iu (dN (l:=[e]) (by rw[VS,hec];rfl)))) (View.nils 5) (View.nils 5))) .nil) (by simp[Sm.sz,Ex.sz,bq,aD];omega) (.inl rfl) ⟨by omega,by omega,by omega,by omega,by omega,by omega⟩
 have hwd:IntKind.i64.wrap ((d:Int)+1-1)=d:=by rw[ab (by omega) (by omega)];omega
 have hwd2:IntKind.i64.wrap (d:Int)=d:=ab (by omega) (by omega)
 by_cases k11:(k:Int)<11
 ·simp-implicitDefEqProofs[aa,k3,k5,k7',hd2,e7,e8,k11]
  refine(cN G (mA G hb hl (p:=p+1) (by omega) fns hf vs hvx next (left-1) (d:=3) (by omega)) _ (by simp[below])).mono ?_
  rintro r h ⟨v,q,vs',n',l',rfl,rfl,⟨e,rfl,he⟩,h1,h2,rfl,rfl,rfl⟩
  have hec:=e.cs_eq
  simp-implicitDefEqProofs[aa,cn,hec,hwd2]
  have hB2:Bd (Pd d) q vs' n' (left-1):=⟨by omega,by omega,hB.w,by omega,by omega,by omega,by omega⟩
  refine(tj G (hblk2 hB2) _).mono ?_
  rintro r h ⟨out,q2,n2,l2,rfl,rfl,z1,z2,m1,m2,m3,m4,m5,m6⟩
  simp-implicitDefEqProofs[aa,cn]
  refine(aU G b hb hl q2 (by omega) 2 _).mono ?_
  rintro r h ⟨k2,rfl,rfl,_⟩
  simp-implicitDefEqProofs[aa]
  refine aY (λhq=>?_) (λhq=>?_)
  ·simp-implicitDefEqProofs[hwd2]
   have hB3:Bd (Pd d) (q2+1) vs' n2 l2:=⟨by omega,by omega,hB.w,by omega,by omega,by omega,by omega⟩
   refine(tj G (hblk2 hB3) _).mono ?_
   rintro r h ⟨out2,q3,n3,l3,rfl,rfl,y1,y2,w1,w2,w3,w4,w5,w6⟩
   simp-implicitDefEqProofs[aa,cn]
   exact dg ⟨5,[],[e],out,out2⟩ q3 _ _ _ vs' n3 l3 (.keep (by simp) .nil) (.one (bs (p0:=(Sm.mk 5 [] [e] out out2).cs) rfl (Sm.cs_len _) (bV (dN (l:=[e]) (by rw[VS,hec];rfl)) (kL rfl) (kL rfl))) .nil) (by simp[Sm.sz,bq];omega) (.inl rfl) ⟨by omega,by omega,by omega,by omega,by omega,by omega⟩
  ·simp-implicitDefEqProofs[]
   exact dg ⟨5,[],[e],out,[]⟩ (q2+1) _ _ _ vs' n2 l2 (.keep (by simp) .nil) (.one (bs (p0:=(Sm.mk 5 [] [e] out []).cs) rfl (Sm.cs_len _) (bV (dN (l:=[e]) (by rw[VS,hec];rfl)) (kL rfl) (View.nils 5))) .nil) (by simp[Sm.sz,bq,aD];omega) (.inl rfl) ⟨by omega,by omega,by omega,by omega,by omega,by omega⟩
 by_cases e11:(k:Int)=11
 ·simp-implicitDefEqProofs[aa,k3,k5,k7',hd2,e7,e8,k11,e11]
  refine(aU G b hb hl (p+1) (by omega) 3 _).mono ?_
  rintro r h ⟨k2,rfl,rfl,_⟩
  simp-implicitDefEqProofs[aa]
  refine aY (λhq=>?_) (λhq=>?_)
  ·simp-implicitDefEqProofs[]
   refine(cN G (mA G hb hl (p:=p+1+1) (by omega) fns hf vs hvx next (left-1) (d:=2) (by omega)) _ (by simp[below])).mono ?_
   rintro r h ⟨v,q,vs',n',l',rfl,rfl,⟨e,rfl,he⟩,h1,h2,rfl,rfl,rfl⟩
   have hec:=e.cs_eq
   simp-implicitDefEqProofs[aa,cn,hec]
   exact dg ⟨7,[],[e],[],[]⟩ q _ _ _ vs' n' (left-1) (.keep (by simp) .nil) (.one (bs (p0:=(Sm.mk 7 [] [e] [] []).cs) rfl (Sm.cs_len _) (bV (dN (l:=[e]) (by rw[VS,hec];rfl)) (View.nils 5) (View.nils 5))) .nil) (by simp[Sm.sz,bq,aD];omega) (.inl rfl) ⟨by omega,by omega,by omega,by omega,by omega,by omega⟩
  ·simp-implicitDefEqProofs[]
   have hBL:Bd (Pd d+60) (p+1+1) vs next (left-1):=⟨by omega,by omega,hB.w,hn0,by omega,by omega,by omega⟩
   refine(cN G (KL G hb hl fns hd hblk2 hBL) _ (by simp[below])).mono ?_
   rintro r h ⟨v,q,vs2,n2,l2,rfl,rfl,out,s,rfl,z1,z2,z3,hs,rfl,m1,m2,m3,m4,m5,m6⟩
   simp-implicitDefEqProofs[aa,cn]
   exact⟨_,_,q,_,_,vs++[s],n2,l2,rfl,rfl,.keep (by simp) .nil,.keep (by simp) .nil,out,rfl,by omega,z2,z3,.inr ⟨s,hs,rfl⟩,by omega,by omega,by omega,by omega,by omega,by omega⟩
 ·simp-implicitDefEqProofs[aa,k3,k5,k7',hd2,e7,e8,k11,e11]
  have hBL:Bd (Pd d+60) (p+1) vs next (left-1):=⟨by omega,by omega,hB.w,hn0,by omega,by omega,by omega⟩
  refine(cN G (KL G hb hl fns hd hblk2 hBL) _ (by simp[below])).mono ?_
  rintro r h ⟨v,q,vs2,n2,l2,rfl,rfl,out,s,rfl,z1,z2,z3,hs,rfl,m1,m2,m3,m4,m5,m6⟩
  simp-implicitDefEqProofs[aa,cn]
  exact⟨_,_,q,_,_,vs++[s],n2,l2,rfl,rfl,.keep (by simp) .nil,.keep (by simp) .nil,out,rfl,by omega,z2,z3,.inr ⟨s,hs,rfl⟩,by omega,by omega,by omega,by omega,by omega,by omega⟩
end
section
variable (G:al)
structure BkS where (j m:Nat) (out:List Sm) (q:Nat) (vs:List (List UInt8)) (next left:Int)
theorem Sy(d:Nat):5000<=Pd d:=by
 have:1<=20^d:=Nat.one_le_pow _ _ (by omega)
 simp only[Pd];omega
theorem Nz(d:Nat):Pd (d+1)=20*Pd d:=by simp only[Pd,Nat.pow_succ];omega
theorem Dc{b:List Int}(hb:Byt b)(hl:b.length<=2000)(fns:List Fd)(hf:Am fns){d:Nat}(hd:d<=10)(hblk:1<=d->IJ G b fns d):IJ G b fns (d+1):=by
 intro p vs next left hB
 have hp:=hB.p
 have hv:=hB.v
 have hn0:=hB.n0
 have hn1:=hB.n1
 have hl0:=hB.l0
 have hl1:=hB.l1
 have hP:=Sy d
 have hPs:=Nz d
 generalize hN:Pd d=N at*
 rw[hPs] at hp hv hn1 hl0⊢
 have hGok:∀(vs:List (List UInt8)) (nx lf:Int),okO 4 (.row 5 [cn fns vs nx lf]):=λvs nx lf e he=>by
  rw[UY.1 he];exact⟨by simp[below],pG (by omega),by simp,by simp,by simp,trivial⟩
 refine AC.go sI ?_
 simp-implicitDefEqProofs[ll,HG,cn]
 refine(ma G hb hl (p:=p) (by omega) [2,3,1,4] (k:=4) (by simp) (by simp) (by omega) rfl rfl).mono ?_
 rintro r h ⟨I,hI,rfl,rfl⟩
 obtain⟨J,rfl,hJ⟩:∃J:Nat,I=J/\J<=4:=⟨I.toNat,by simp at hI;omega,by simp at hI;omega⟩
 simp-implicitDefEqProofs[aa]
 refine aJ (λs:BkS=>ah 40 [(0,.ptr 1 5 0 0),(1,.p (.int .i64 ((d:Int)+1))),(5,.p (aw vs)),(6,.sl 3 5 0 s.out.length),(7,.p (.int .i64 s.j))])
  (λs=>[rdO b s.q,.row 5 [cn fns s.vs s.next s.left],bS 3 (aX fns),.row 5 (smR s.out)])
  (λs=>s.j+s.m<=4/\aD s.out<=s.m*(2*N+3000)/\s.out.length<=2*s.m/\p<=s.q/\s.q<=p+1+s.m*(2*N+3000)/\s.vs.length<=vs.length+s.m/\(∀w∈s.vs,w.length<=8)/\next<=s.next/\s.next<=next+((s.m*(2*N+3000):Nat):Int)/\left-((s.m*(2*N+3000):Nat):Int)<=s.left/\s.left<=left)
  (λs=>s.j) ⟨J,0,[],p+1,vs,next,left⟩ ⟨by simp only;omega,by simp[aD],by simp,by simp,by simp,by simp,hB.w,by simp,by simp,by simp,by simp⟩ ?_ ?_
 ·refine gQ (m:=4) (by omega) (dB (h1:=[rdO b (p+1),.row 5 [cn fns vs next left],bS 3 (aX fns),.row 5 (smR [])]) rfl rfl (aj (bn _ _ _) (aj (hGok _ _ _) (aj (mb _ _) (aj (dH (dM [])) fX))))) (by simp[below])
 rintro⟨j,m,out,q,vs',nx,lf⟩ ⟨i1,i2,i3,i4,i5,i6,i7,i8,i9,i10,i11⟩
 simp only at i1 i2 i3 i4 i5 i6 i7 i8 i9 i10 i11
 simp-implicitDefEqProofs[cn]
 have hm4:m*(2*N+3000)<=4*(2*N+3000):=VU _ (by omega)
 by_cases hc:0<j/\0<lf
 ·obtain⟨c1,c2⟩:=hc
  have hm3:m*(2*N+3000)<=3*(2*N+3000):=VU _ (by omega)
  have hms:(m+1)*(2*N+3000)=m*(2*N+3000)+(2*N+3000):=by rw[VT,Nat.one_mul]
  have hmsI:((m+1:Nat):Int)*(2*(N:Int)+3000)=((m*(2*N+3000)+(2*N+3000):Nat):Int):=by rw[←hms];simp
  generalize m*(2*N+3000)=M at*
  have hB2:Bd (2*Pd d+3000) q vs' nx lf:=by
   rw[hN];exact⟨by omega,by omega,i7,by omega,by omega,by omega,by omega⟩
  have hS:=Ph G hb hl fns hf hd hblk hB2
  rw[hN] at hS
  simp-implicitDefEqProofs[c1,c2]
  refine(cN G hS _ (by simp[below])).mono ?_
  rintro r h ⟨v,q2,vs2,n2,l2,rfl,rfl,out2,rfl,z1,z2,z3,hvs,m1,m2,m3,m4,m5,m6⟩
  have hsl:smL out2= .lst 5 (out2.map Sm.cs):=rfl
  simp-implicitDefEqProofs[aa,cn,hsl]
  have hol:(smR out).length=out.length:=fZ out
  have hwj:IntKind.i64.wrap ((j:Int)-1)=((j-1:Nat):Int):=by rw[ab (by omega) (by omega)];omega
  have hrow:List.take out.length (smR out)++List.map ((λx=>List.map AV.p x)∘Sm.cs) out2=smR (out++out2):=by
   rw[US (by omega),Cw];rfl
  refine⟨⟨by omega,by omega,by omega⟩,⟨j-1,m+1,out++out2,q2,vs2,n2,l2⟩,⟨by simp only;omega,by simp only;rw[bC,hms];omega,by simp only;rw[Va];omega,by simp only;omega,by simp only;rw[hms];omega,?_,?_,by simp only;omega,by simp only;rw[hmsI];omega,by simp only;rw[hmsI];omega,by simp only;omega⟩,by simp only;omega,?_⟩
  ·simp only
   rcases hvs with rfl|⟨s,_,rfl⟩
   ·omega
   ·rw[Va,List.length_singleton];omega
  ·simp only
   rcases hvs with rfl|⟨s,hs,rfl⟩
   ·exact i7
   ·intro w hw
    rcases UW.1 hw with h|h
    ·exact i7 w h
    ·rw[UY.1 h];exact hs
  ·rw[hrow]
   refine eQ [0,1,2,4] (by simp) (by decide) (by decide) (bR rfl (bn _ _ _) (bT ?_ ?_ (bR rfl (mb _ _) (bc rfl (dM _) bv)))) (by simp[below,ren,hwj])
   ·intro x hx
    rw[UY.1 hx];exact⟨by simp[below],pG (by simp),by simp,by simp,by simp,trivial⟩
   ·simp[cn,ren,be]
 ·have hce:(decide (0<j)&&decide (0<lf))=false:=by
   by_cases h1:0<j
   ·have h2:¬0<lf:=λh=>hc ⟨h1,h⟩
    simp[h2]
   ·simp[h1]
  have fin:Nn b fns vs p (20*N) next left [] (.ret (.sl 3 5 0 out.length)) [rdO b q,.row 5 [[.ptr 0 2 0 0,slE 2 3 (aX fns),.p (aw vs),.p (.int .i64 nx),.p (.int .i64 lf)]],bS 3 (aX fns),.row 5 (smR out)]:=
   ⟨out,q,nx,lf,rfl,rfl,by omega,by omega,by omega,by omega,by omega,by omega,by omega,by omega⟩
  by_cases h1:0<j
  ·have h2:¬0<lf:=λh=>hc ⟨h1,h⟩
   simp-implicitDefEqProofs[h1,h2]
   exact fin
  ·simp-implicitDefEqProofs[h1]
   exact fin
end
section
theorem vZ:AK.whole jY=FK.ak jJ:=rfl
theorem CQ{h:List AO}{id:Nat}{out:List Sm}{m:Sm}{c:List AV}(e:h[id]?=some (.row 5 (smR out++[c])))(hc:∀(j:Nat) (q:PV) (a:AV),m.cs[j]?=some q->c[j]?=some a->View h a q):View h (.sl id 5 0 (out.length+1)) (smL (out++[m])):=by
 have hl:((out++[m]).map Sm.cs).length=out.length+1:=by simp
 have:=View.sl (h:=h) id 5 0 _ ((out++[m]).map Sm.cs) e (by rw[hl];simp[fZ]) (λx hx=>by obtain⟨b,_,rfl⟩:=Vi.1 hx;exact b.cs_len) (λi j e q e' a a1 a2 a3 a4=>?_)
 ·rwa[hl] at this
 rw[VP] at a3
 rw[List.map_append] at a1
 rcases Vx i out.length with hi|hi
 ·rw[UN (by simpa using hi),UZ,UO hi] at a1
  rw[UN (by simpa[fZ] using hi),smR,UZ,UO hi] at a3
  cases a1;cases a3
  rw[UZ,a2] at a4
  cases a4
  exact .p _
 ·rw[UT (by simpa using hi)] at a1
  rw[UT (by simpa[fZ] using hi),fZ] at a3
  rw[Vv] at a1
  cases hd:i-out.length with
  |zero=>
   rw[hd] at a1 a3
   cases a1;cases a3
   exact hc j q a a2 a4
  |succ n=>rw[hd] at a3;simp at a3
variable (G:al)
theorem JI{b:List Int}(hb:Byt b)(hl:b.length<=2000)(fns:List Fd)(hf:Am fns):IJ G b fns 3:=
 Dc G hb hl fns hf (d:=2) (by omega) λ_=>Dc G hb hl fns hf (d:=1) (by omega) λ_=>Dc G hb hl fns hf (d:=0) (by omega) λh=>absurd h (by omega)
def abcW:List (List UInt8):=[[97],[98],[99]]
def fnQ(p:Nat)(name:List UInt8)(np:Nat)(left:Int)(v:AV)(q:Nat)(vs':List (List UInt8))(next' left':Int):Prop:=
 ∃f:Fd,v= .agg (f.cs.map .p)/\f.name=name/\f.params=abcW.take np/\aD f.body<=40000500/\p<=q/\q<=p+40000500/\left-40000500<=left'/\left'<=left
theorem SH{b:List Int}(hb:Byt b)(hl:b.length<=2000){p:Nat}(hp:p<=90000000000)(fns:List Fd)(hf:Am fns)(vs:List (List UInt8))(next left:Int)(hl0: -1000000000<=left)(hl1:left<=1000000000)(name:List UInt8)(np:Nat)(hnp:np<=3):
 AC Tryz.prog G fY [.ptr 1 5 0 0,.p (.str name),.p (.int .i64 np)] (HG b p fns vs next left) (PG b fns (fnQ p name np left) []):=by
 refine lS G (AC.goK yG vZ ?_)
 have hwn:IntKind.i64.wrap ((np:Int)-1)=(np:Int)-1:=ab (by omega) (by omega)
 have h3:(np:Int)<=3:=by omega
 simp-implicitDefEqProofs[jY,jJ,HG,cn,hwn,h3,hnp]
 refine jK (ah 61 [(0,.ptr 1 5 0 0),(6,.ptr 3 3 0 0),(7,.ptr 4 3 0 0)]) [rdO b p,.row 5 [cn fns (abcW.take np) ((np:Int)-1) left],bS 3 (aX fns),.row 3 [[.p (.str []),.nils,.nils]],.row 3 [[.p (.str name),.p (aw (abcW.take np)),.nils]]] ?_ ?_
 ·have hlen:(abcW.take np).length=np:=by simp[abcW];omega
  simp-implicitDefEqProofs[hnp,hlen]
  refine⟨⟨by omega,by omega⟩,?_⟩
  have hcutR:cD (abcW.take np)= .row 1 (List.take np [[AV.p (PV.str [97])],[AV.p (PV.str [98])],[AV.p (PV.str [99])]]):=by
   simp only[cD,List.map_take];rfl
  rw[←hcutR]
  refine Wk.trans (Hv (h1:=[rdO b p,.row 5 [[.ptr 0 2 0 0,slE 2 3 (aX fns),.sl 4 1 0 np,.p (.int .i64 ((np:Int)-1)),.p (.int .i64 left)]],bS 3 (aX fns),.row 3 [[.p (.str []),.nils,.nils]],cD (abcW.take np),.dead,cD (abcW.take np),.row 3 [[.p (.str name),.sl 6 1 0 np,.nils]]])
   ⟨.inl rfl,.inl rfl,.inl rfl,.inl rfl,.inr ⟨1,_,np,rfl,hcutR⟩,.inl rfl,.inl rfl,.inl rfl,trivial⟩) ?_
  refine Wk.trans (eQ (l1:=[(0,.ptr 1 5 0 0),(6,.ptr 3 3 0 0),(7,.ptr 4 3 0 0)])
   (h1:=[rdO b p,.row 5 [[.ptr 0 2 0 0,slE 2 3 (aX fns),.sl 5 1 0 np,.p (.int .i64 ((np:Int)-1)),.p (.int .i64 left)]],bS 3 (aX fns),.row 3 [[.p (.str []),.nils,.nils]],.row 3 [[.p (.str name),.sl 6 1 0 np,.nils]],cD (abcW.take np),cD (abcW.take np)])
   [0,1,2,3,7,4,6] (by simp) (by decide) (by decide) (bR rfl (bn _ _ _) (bT (by simp[below]) (by simp[ren,be]) (bR rfl (mb _ _) (bc rfl (by simp[below]) (bT (by simp[below]) (by simp[ren,be]) (bR rfl (pQ _) (bR rfl (pQ _) bv))))))) (by simp[below,ren]))
   (dK 5 (by omega) (by simp) rfl (.same (bn _ _ _) (.one (.keep (by simp[below]) (.keep (pG (by omega)) (.one ?_ (.keep (by simp) (.keep (by simp) .nil))))) (.same (mb _ _) (.same (by simp[okO,below]) (.one (.keep (by simp) (.one ?_ (.keep (by simp[below]) .nil))) (.nil _)))))) ?_)
  ·have:=gx (l:=abcW.take np) (id:=5) (h:=tail 5 [rdO b p,.row 5 [[.ptr 0 2 0 0,slE 2 3 (aX fns),.sl 5 1 0 np,.p (.int .i64 ((np:Int)-1)),.p (.int .i64 left)]],bS 3 (aX fns),.row 3 [[.p (.str []),.nils,.nils]],.row 3 [[.p (.str name),.sl 6 1 0 np,.nils]],cD (abcW.take np),cD (abcW.take np)]) rfl
   rwa[hlen] at this
  ·have:=gx (l:=abcW.take np) (id:=6) (h:=tail 5 [rdO b p,.row 5 [[.ptr 0 2 0 0,slE 2 3 (aX fns),.sl 5 1 0 np,.p (.int .i64 ((np:Int)-1)),.p (.int .i64 left)]],bS 3 (aX fns),.row 3 [[.p (.str []),.nils,.nils]],.row 3 [[.p (.str name),.sl 6 1 0 np,.nils]],cD (abcW.take np),cD (abcW.take np)]) rfl
   rwa[hlen] at this
  ·exact⟨.keep (by simp[below]) .nil,.keep (by simp[below]) .nil,.keep (by simp[below]) .nil,trivial⟩
 have hlen:(abcW.take np).length<=3:=by simp[abcW];omega
 have hw8:∀s∈abcW.take np,s.length<=8:=by
  intro s hs
  have:=VB hs
  simp only[abcW,UX,Vk,or_false] at this
  rcases this with rfl|rfl|rfl<;>simp
 have hPd:Pd 3=40000000:=rfl
 have hB:Bd (Pd 3) p (abcW.take np) ((np:Int)-1) left:=by rw[hPd];exact⟨by omega,by omega,hw8,by omega,by omega,by omega,by omega⟩
 simp-implicitDefEqProofs[cn]
 refine(tj G (JI G hb hl fns hf hB) _).mono ?_
 rintro r h ⟨out,q,n2,l2,rfl,rfl,z1,z2,m1,m2,m3,m4,m5,m6⟩
 rw[hPd] at z1 m2 m4 m5
 simp-implicitDefEqProofs[aa,cn]
 have fin:∀(out:List Sm) (q:Nat) (l2:Int) (rest:List AO) (v:AV) (vc:AV) (vs':List (List UInt8)) (n2:Int),Fzs (.dead:: .dead:: .dead::rest) 3 [vc] [.p (aw vs')]->Fzs (.dead:: .dead:: .dead::rest) 3 [v] [.agg ((Fd.mk name (abcW.take np) out).cs.map .p)]->aD out<=40000500->p<=q->q<=p+40000500->left-40000500<=l2->l2<=left->
  DG b fns (fnQ p name np left) (.ret v) (rdO b q:: .row 5 [[.ptr 0 2 0 0,slE 2 3 (aX fns),vc,.p (.int .i64 n2),.p (.int .i64 l2)]]::bS 3 (aX fns)::rest):=λout q l2 rest v vc vs' n2 h1 h2 h3 h4 h5 h6 h7=>
  ⟨_,rest,q,_,_,vs',n2,l2,rfl,rfl,h1,h2,⟨name,abcW.take np,out⟩,rfl,rfl,rfl,h3,h4,h5,h6,h7⟩
 by_cases hl2:0<l2
 ·simp-implicitDefEqProofs[hl2]
  refine(aU G b hb hl q (by omega) 4 _).mono ?_
  rintro r h ⟨k,rfl,rfl,_⟩
  simp-implicitDefEqProofs[aa]
  refine aY (λhc=>?_) (λhc=>?_)
  ·have hwl:IntKind.i64.wrap (l2-1)=l2-1:=ab (by omega) (by omega)
   simp-implicitDefEqProofs[hwl]
   have hShrt:vl (abcW.take np):=⟨by omega,hw8⟩
   refine(cN G (mA G hb hl (p:=q+1) (by omega) fns hf (abcW.take np) hShrt n2 (l2-1) (d:=2) (by omega)) _ (by simp[below])).mono ?_
   rintro r h ⟨v,q2,vs2,n3,l3,rfl,rfl,⟨e,rfl,he⟩,h1,h2,hvs,rfl,rfl⟩
   subst hvs
   have hec:=e.cs_eq
   have hol:(smR out).length=out.length:=fZ out
   simp-implicitDefEqProofs[aa,cn,hec,hol]
   refine⟨⟨by omega,by omega⟩,?_⟩
   have htk:List.take out.length (smR out)=smR out:=US (by omega)
   rw[htk]
   have hm:(Sm.mk 7 [] [e] [] []).cs=[.int .i64 7,.str [],.lst 4 [[.int .i64 e.op,.int .i64 e.n,.str e.name,exL e.kids]],.lst 5 [],.lst 5 []]:=by
    rw[Sm.cs_eq,←hec];rfl
   refine fin (out++[⟨7,[],[e],[],[]⟩]) q2 (l2-1) _ _ _ (abcW.take np) n3 (.keep (by simp) .nil) (.agg (.keep (by simp) (.keep (by simp) (.one (CQ rfl ?_) .nil))) .nil) (by simp[bC,aD,Sm.sz,bq];omega) (by omega) (by omega) (by omega) (by omega)
   intro j q a a1 a2
   rw[hm] at a1
   match j,a1,a2 with
   |0,a1,a2=>cases a1;cases a2;exact .p _
   |1,a1,a2=>cases a1;cases a2;exact .p _
   |2,a1,a2=>cases a1;cases a2;exact .p _
   |3,a1,a2=>cases a1;cases a2;exact View.e 0 5
   |4,a1,a2=>cases a1;cases a2;exact View.e 0 5
   |j+5,a1,a2=>simp at a1
  ·simp-implicitDefEqProofs[]
   exact fin out (q+1) l2 _ _ _ (abcW.take np) n2 (.keep (by simp) .nil) (.agg (.keep (by simp) (.keep (by simp) (.one (kL rfl) .nil))) .nil) (by omega) (by omega) (by omega) (by omega) (by omega)
 ·simp-implicitDefEqProofs[hl2]
  exact fin out q l2 _ _ _ (abcW.take np) n2 (.keep (by simp) .nil) (.agg (.keep (by simp) (.keep (by simp) (.one (kL rfl) .nil))) .nil) (by omega) (by omega) (by omega) (by omega) (by omega)
end
section
theorem zW{h:List AO}{s:List UInt8}{ps:List (List UInt8)}{bd:List Sm}{P B:AV}(hP:View h P (aw ps))(hB:View h B (smL bd)):∀(j:Nat) (q:PV) (x:AV),(Fd.mk s ps bd).cs[j]?=some q->[AV.p (.str s),P,B][j]?=some x->View h x q:=by
 intro j q x e1 e2
 match j,e1,e2 with
 |0,e1,e2=>cases e1;cases e2;exact .p _
 |1,e1,e2=>cases e1;cases e2;exact hP
 |2,e1,e2=>cases e1;cases e2;exact hB
 |j+3,e1,e2=>simp[Fd.cs] at e1
theorem uU{h:List AO}{id:Nat}{l:List Fd}(e:h[id]?=some (.row 3 (aX l))):View h (.sl id 3 0 l.length) (fdL l):=by
 have:=hZ (h:=h) (id:=id) (sz:=3) (n:=l.length) (ls:=l.map Fd.cs) (by rw[e,aX];simp) (by simp) (λx hx=>by obtain⟨b,_,rfl⟩:=Vi.1 hx;exact b.cs_len)
 exact this
theorem DY(a b:List Fd):aX (a++b)=aX a++aX b:=by simp[aX]
theorem zg(a:List Fd):(aX a).length=a.length:=by simp[aX]
theorem nh(a b:List Fd):aN (a++b)=aN a+aN b:=by simp[aN]
def Qw:List Fd:=[⟨[109],[],[⟨3,[],[⟨1,1,[],[]⟩],[],[]⟩]⟩]
theorem Hw:bt Qw=true:=by decide
theorem Ia(k:Nat)(hk:k<=3):(abcW.take k).length+((abcW.take k).map List.length).sum<=6:=by
 have h:k=0\/k=1\/k=2\/k=3:=by omega
 rcases h with rfl|rfl|rfl|rfl<;>decide
variable (G:al)
structure PgS where (j:Nat) (fns:List Fd) (q:Nat) (vs:List (List UInt8)) (next left:Int)
def TJ(b:List Int)(p n:Nat)(x:ARes)(h:List AO):Prop:=∃(l:List Fd) (q:Nat),x= .ret (.agg [.p (fdL l)])/\h=[rdO b q]/\bt l=true/\aN l<=200000000/\p<=q/\q<=p+n
def Ul(b:List Int)(p n:Nat)(x:ARes)(h:List AO):Prop:=∃(l:List Fd) (q:Nat) (v:AV) (rest:List AO),x= .ret (.agg [v])/\h=rdO b q::rest/\View (tail 1 h) v (fdL l)/\bt l=true/\aN l<=200000000/\p<=q/\q<=p+n
theorem MG{b:List Int}(hb:Byt b)(hl:b.length<=2000){p:Nat}(hp:p<=10000000000):AC Tryz.prog G dV [.ptr 0 2 0 0] [rdO b p] (TJ b p 200000000):=by
 refine AC.frz (R:=Ul b p 200000000) ?_ 1 (by simp) (λt v h ⟨_,_,_,_,e,_⟩=>by cases e) ?_
 ·refine AC.go Bu ?_
  simp-implicitDefEqProofs[rz]
  refine(ma G hb hl (p:=p) (by omega) [14,20,8,26] (k:=2) (by simp) (by simp) (by omega) rfl rfl).mono ?_
  rintro r h ⟨L0,hL0,rfl,rfl⟩
  have hL:0<=L0/\L0<=26:=by simp at hL0;omega
  simp-implicitDefEqProofs[aa]
  refine(ma G hb hl (p:=p+1) (by omega) [0,1,1,2] (k:=4) (by simp) (by simp) (by omega) rfl rfl).mono ?_
  rintro r h ⟨J0,hJ0,rfl,rfl⟩
  obtain⟨J,rfl,hJ⟩:∃J:Nat,J0=J/\J<=2:=⟨J0.toNat,by simp at hJ0;omega,by simp at hJ0;omega⟩
  simp-implicitDefEqProofs[aa]
  refine aJ (λs:PgS=>ah 69 [(0,.ptr 0 2 0 0),(2,.ptr 3 1 0 0),(3,.ptr 1 5 0 0),(4,.p (.int .i64 s.j))])
   (λs=>[rdO b s.q,.row 5 [cn s.fns s.vs s.next s.left],bS 3 (aX s.fns),.row 1 [[.nils]]])
   (λs=>s.j+s.fns.length<=2/\Am s.fns/\aN s.fns<=s.fns.length*40000600/\p<=s.q/\s.q<=p+2+s.fns.length*40000600/\L0-s.fns.length*40000600<=s.left/\s.left<=L0)
   (λs=>s.j) ⟨J,[],p+1+1,[],0,L0⟩ ⟨by simp only[List.length_nil];omega,⟨by simp,by simp⟩,by simp[aN],by simp only;omega,by simp,by simp,by simp⟩ ?_ ?_
  ·refine Wk.trans (eQ (l1:=[(0,.ptr 0 2 0 0),(2,.ptr 3 1 0 0),(3,.ptr 1 5 0 0),(4,.p (.int .i64 J))])
    (h1:=[rdO b (p+1+1),.row 5 [[.ptr 0 2 0 0,.nils,.nils,.p (.int .i64 0),.p (.int .i64 L0)]],.dead,.row 1 [[.nils]]])
    [0,3,2,1] (by simp) (by decide) (by decide) (bR rfl (bn _ _ _) (bT (by simp[below]) (by simp[ren,be]) (fa (by simp) (bc rfl (by simp[below]) bv)))) (by simp[below,ren]))
    (dK 4 (by omega) (by simp) rfl (.same (bn _ _ _) (.one (.keep (by simp[below]) (.keep (by simp[below,aX,slE]) (.one (View.nils 1) (.keep (by simp) (.keep (by simp) .nil))))) (.dead (.same (by simp[okO,below]) (.nil _))))) ?_)
   exact⟨.keep (by simp[below]) .nil,.keep (by simp[below]) .nil,.keep (by simp[below]) .nil,.keep (by simp[below]) .nil,trivial⟩
  rintro⟨j,fns,q,vs,nx,lf⟩ ⟨i1,i2,i3,i4,i5,i6,i7⟩
  simp only at i1 i2 i3 i4 i5 i6 i7
  simp-implicitDefEqProofs[cn]
  by_cases hj:0<j
  ·have hfl:fns.length<3:=by omega
   have hcl:(aX fns).length=fns.length:=zg fns
   obtain⟨nm,hget,hnm⟩:∃nm:List UInt8,([[PV.str [102]],[PV.str [103]],[PV.str [104]]]:List (List PV))[fns.length]?=some [.str nm]/\nm.length<=8:=by
    have h3:fns.length=0\/fns.length=1\/fns.length=2:=by omega
    rcases h3 with h|h|h<;>rw[h]
    ·exact⟨[102],rfl,by simp⟩
    ·exact⟨[103],rfl,by simp⟩
    ·exact⟨[104],rfl,by simp⟩
   simp-implicitDefEqProofs[hj,hcl,hget]
   refine(aU G b hb hl q (by omega) 3 _).mono ?_
   rintro r h ⟨k,rfl,rfl,hk⟩
   have hk3:k<=3:=by omega
   simp-implicitDefEqProofs[aa,hcl,hget]
   refine(cN G (SH G hb hl (p:=q+1) (by omega) fns i2 vs nx lf (by omega) (by omega) nm k hk3) _ (by simp[below])).mono ?_
   rintro r h ⟨v,q2,vs2,n2,l2,rfl,rfl,f,rfl,hf1,hf2,z1,z2,z3,z4,z5⟩
   have hcs:=f.cs_len
   have hcf:f.cs=[.str f.name,aw f.params,smL f.body]:=rfl
   simp-implicitDefEqProofs[aa,cn,hcf]
   have hfs:f.sz<=40000600:=by
    have h1:f.sz=1+f.name.length+(f.params.length+(f.params.map List.length).sum)+aD f.body:=rfl
    have h2:=Ia k hk3
    rw[←hf2] at h2
    rw[hf1] at h1
    omega
   have hwj:IntKind.i64.wrap ((j:Int)-1)=((j-1:Nat):Int):=by rw[ab (by omega) (by omega)];omega
   have hfp:f.params.length<=3:=by rw[hf2];simp[abcW];omega
   have hrow:aX fns++[[AV.p (.str f.name),.p (aw f.params),.p (smL f.body)]]=aX (fns++[f]):=by rw[DY];rfl
   have hne:aX (fns++[f])≠[]:=by simp[aX]
   have hll:(aX fns).length+1=(aX (fns++[f])).length:=by simp[aX]
   rw[hrow,hll]
   refine⟨⟨by rw[←hll,hcl];omega,by omega⟩,⟨j-1,fns++[f],q2,vs2,n2,l2⟩,⟨by simp;omega,⟨by simp;omega,?_⟩,by simp only[nh,Va];simp[aN] at*;omega,by simp only;omega,by simp;omega,by simp;omega,by simp only;omega⟩,by simp only;omega,?_⟩
   ·intro x hx
    rcases UW.1 hx with h|h
    ·exact i2.2 x h
    ·rw[UY.1 h,hf1];exact⟨hnm,hfp⟩
   ·rw[dx hne,eZ hne]
    refine eQ [0,1,5,3] (by simp) (by decide) (by decide) (bR rfl (bn _ _ _) (bT (by simp[below]) (by simp[ren,be]) (bc rfl (uJ _) (bc rfl (by simp[below]) bv)))) (by simp[below,ren,hwj])
  ·simp-implicitDefEqProofs[hj]
   refine(ma G hb hl (p:=q) (by omega) [0,1,2,1] (k:=4) (by simp) (by simp) (by omega) rfl rfl).mono ?_
   rintro r h ⟨N0,hN0,rfl,rfl⟩
   obtain⟨np,rfl,hnp⟩:∃J:Nat,N0=J/\J<=2:=⟨N0.toNat,by simp at hN0;omega,by simp at hN0;omega⟩
   simp-implicitDefEqProofs[aa]
   refine(cN G (SH G hb hl (p:=q+1) (by omega) fns i2 vs nx lf (by omega) (by omega) [109] np (by omega)) _ (by simp[below])).mono ?_
   rintro r h ⟨v,q2,vs2,n2,l2,rfl,rfl,f,rfl,hf1,hf2,z1,z2,z3,z4,z5⟩
   have hcf:f.cs=[.str f.name,aw f.params,smL f.body]:=rfl
   have hcl:(aX fns).length=fns.length:=zg fns
   have hfs:f.sz<=40000600:=by
    have h1:f.sz=1+f.name.length+(f.params.length+(f.params.map List.length).sum)+aD f.body:=rfl
    have h2:=Ia np (by omega)
    rw[←hf2] at h2
    rw[hf1] at h1
    simp at h1
    omega
   by_cases hfe:fns=[]
   ·subst hfe
    have h0:aX []=[]:=rfl
    rw[h0]
    simp-implicitDefEqProofs[aa,cn,hcf,h0,Db,zJ]
    have hrow:[[AV.p (.str f.name),.p (aw f.params),.p (smL f.body)]]=aX [f]:=rfl
    rw[hrow]
    have vw:∀h:List AO,h[8]?=some (.row 3 (aX [f]))->View h (.sl 8 3 0 1) (fdL [f]):=λh e=>uU (l:=[f]) e
    refine((la G [f] (by simp only[aN,Vn,List.map_nil,List.sum_cons,List.sum_nil] at*;omega)).lend (.agg (.one (vw _ rfl) .nil) .nil) rfl).mono ?_
    rintro r h ⟨rfl,rfl⟩
    simp-implicitDefEqProofs[aa]
    by_cases hok:bt [f]=true
    ·simp-implicitDefEqProofs[hok]
     exact⟨[f],q2,_,_,rfl,rfl,vw _ rfl,hok,by simp only[aN,Vn,List.map_nil,List.sum_cons,List.sum_nil] at*;omega,by omega,by omega⟩
    ·have hok':bt [f]=false:=by simpa using hok
     simp-implicitDefEqProofs[hok']
     exact⟨Qw,q2,_,_,rfl,rfl,bs (p0:=(Fd.mk [109] [] [⟨3,[],[⟨1,1,[],[]⟩],[],[]⟩]).cs) rfl rfl (zW (View.nils 1) (bs (p0:=(Sm.mk 3 [] [⟨1,1,[],[]⟩] [] []).cs) rfl (Sm.cs_len _) (bV (bs (p0:=(Ex.mk 1 1 [] []).cs) rfl (Ex.cs_len _) (iu (View.nils 4))) (View.nils 5) (View.nils 5)))),Hw,by decide,by omega,by omega⟩
   ·have h0:aX fns≠[]:=λh=>hfe (List.map_eq_nil_iff.1 h)
    simp only[cn,eZ h0,dx h0]
    simp-implicitDefEqProofs[aa,hcf,hcl]
    refine⟨⟨by omega,by omega⟩,⟨by omega,by omega⟩,?_⟩
    have hrow:List.take fns.length (List.take fns.length (aX fns))++[[AV.p (.str f.name),.p (aw f.params),.p (smL f.body)]]=aX (fns++[f]):=by
     rw[US (by rw[Vl];omega),US (by omega),DY];rfl
    rw[hrow]
    have vw:∀h:List AO,h[8]?=some (.row 3 (aX (fns++[f])))->View h (.sl 8 3 0 (fns.length+1)) (fdL (fns++[f])):=λh e=>by
     have:=uU e
     rwa[Va,List.length_singleton] at this
    refine((la G (fns++[f]) (by rw[nh];simp only[aN,Vn,List.map_nil,List.sum_cons,List.sum_nil] at*;omega)).lend (.agg (.one (vw _ rfl) .nil) .nil) rfl).mono ?_
    rintro r h ⟨rfl,rfl⟩
    simp-implicitDefEqProofs[aa]
    by_cases hok:bt (fns++[f])=true
    ·simp-implicitDefEqProofs[hok]
     exact⟨fns++[f],q2,_,_,rfl,rfl,vw _ rfl,hok,by rw[nh];simp only[aN,Vn,List.map_nil,List.sum_cons,List.sum_nil] at*;omega,by omega,by omega⟩
    ·have hok':bt (fns++[f])=false:=by simpa using hok
     simp-implicitDefEqProofs[hok']
     exact⟨Qw,q2,_,_,rfl,rfl,bs (p0:=(Fd.mk [109] [] [⟨3,[],[⟨1,1,[],[]⟩],[],[]⟩]).cs) rfl rfl (zW (View.nils 1) (bs (p0:=(Sm.mk 3 [] [⟨1,1,[],[]⟩] [] []).cs) rfl (Sm.cs_len _) (bV (bs (p0:=(Ex.mk 1 1 [] []).cs) rfl (Ex.cs_len _) (iu (View.nils 4))) (View.nils 5) (View.nils 5)))),Hw,by decide,by omega,by omega⟩
 ·rintro v h ⟨l,q,v0,rest,e,rfl,hv,h1,h2,h3,h4⟩
  cases e
  exact⟨_,[rdO b q],by simp,rfl,.agg (.one hv .nil) .nil,.same (bn _ _ _) (.nil _),l,q,rfl,rfl,h1,h2,h3,h4⟩
end
section
variable (G:al)
theorem Cg{hF:List AO}{n:Nat}{o k:Int}{w:List UInt8}{ks:List Ex}{K:AV}(hk:View hF K (exL ks)):Fzs hF n [.agg [.p (.int .i64 o),.p (.int .i64 k),.p (.str w),K]] [.agg ((Ex.mk o k w ks).cs.map .p)]:=by
 rw[Ex.cs_eq]
 exact .agg (.keep (by simp) (.keep (by simp) (.keep (by simp) (.one hk .nil)))) .nil
def Om(h:List AO)(kids:List Ex)(K:AV):Prop:=(K= .nils/\kids=[])\/∃id rows hX,K= .sl (id+1) 4 0 kids.length/\kids≠[]/\h[id+1]?=some (.row 4 rows)/\hX.length=h.length/\(∀(i:Nat) o,hX[i]?=some o->o.live->h[i]?=some o)/\¬Live hX 0/\¬Live hX (id+1)/\
 rows.length=kids.length/\∀(j:Nat) (e e1:List AV),rows[j]?=some e->(exR kids)[j]?=some e1->Fzs hX h.length e e1
def DT(b:List Int)(Q:Ex->Nat->Prop)(x:ARes)(h:List AO):Prop:=∃(e:Ex) (q:Nat) (rest:List AO) (K:AV),x= .ret (.agg [.p (.int .i64 e.op),.p (.int .i64 e.n),.p (.str e.name),K])/\h=rdO b q::rest/\Om h e.kids K/\Q e q
def EN(b:List Int)(Q:Ex->Nat->Prop)(x:ARes)(h:List AO):Prop:=∃(e:Ex) (q:Nat),x= .ret (.agg [.p (.int .i64 e.op),.p (.int .i64 e.n),.p (.str e.name),slE 1 4 (exR e.kids)])/\h=[rdO b q,bS 4 (exR e.kids)]/\Q e q
def EoQ(p n m:Nat)(e:Ex)(q:Nat):Prop:=e.sz<=n/\p<=q/\q<=p+m
theorem EE{hF:List AO}{n:Nat}:∀h:List AO,FzO hF n h (List.replicate h.length .dead)
 |[]=> .nil _
 |o::r=>by rw[Vh,List.replicate_succ];exact .dead (EE r)
theorem Fc{hF:List AO}{n sz:Nat}{es es1:List (List AV)}(hl:es.length=es1.length)(hv:∀(j:Nat) (e e1:List AV),es[j]?=some e->es1[j]?=some e1->Fzs hF n e e1):∀(h:List AO) (id:Nat),h[id]?=some (.row sz es)->FzO hF n h ((List.replicate h.length .dead).set id (.row sz es1))
 |[],id,e=>by simp at e
 |o::r,0,e=>by
  cases e
  rw[Vh,List.replicate_succ,List.set_cons_zero]
  exact .rows hl hv (EE r)
 |o::r,id+1,e=>by
  rw[Vh,List.replicate_succ,List.set_cons_succ]
  exact .dead (Fc hl hv r id (by simpa using e))
theorem Fk{f:FuncId}{args:List AV}{b:List Int}{p:Nat}{Q:Ex->Nat->Prop}(H:AC Tryz.prog G f args [rdO b p] (DT b Q)):AC Tryz.prog G f args [rdO b p] (EN b Q):=by
 refine H.wk (λt v h ⟨_,_,_,_,e,_⟩=>by cases e) ?_
 rintro v h ⟨e,q,rest,K,ev,rfl,hk,hq⟩
 cases ev
 rcases hk with⟨rfl,hk⟩|⟨id,rows,hX,rfl,hne,he,x1,x2,x3,x4,x5,x6⟩
 ·refine⟨_,_,?_,e,q,rfl,rfl,hq⟩
  have h0:exR e.kids=[]:=by rw[hk];rfl
  rw[h0,Db,zJ]
  exact Wk.ofL [0,0] (by simp) (by simp) (by simp[rdO,jj]) (by simp[below,af,ren,be]) (bR rfl (bn _ _ _) (fa (by simp) bv))
 ·have hr:exR e.kids≠[]:=λh=>hne (List.map_eq_nil_iff.1 h)
  have hrl:(exR e.kids).length=e.kids.length:=by simp[exR]
  rw[Vd] at he
  have hid:id<rest.length:=(UL.1 he).1
  refine⟨.agg [.p (.int .i64 e.op),.p (.int .i64 e.n),.p (.str e.name),slE 1 4 (exR e.kids)],[rdO b q,bS 4 (exR e.kids)],?_,e,q,rfl,rfl,hq⟩
  rw[dx hr,eZ hr,hrl]
  refine Wk.trans (ts1:=[.agg [.p (.int .i64 e.op),.p (.int .i64 e.n),.p (.str e.name),.sl (id+1) 4 0 e.kids.length]]) (h1:=rdO b q::(List.replicate rest.length .dead).set id (.row 4 (exR e.kids))) (GV (hX:=hX) (by simp) x1 x2 (λi ⟨o,e1,l1⟩ ⟨o2,e2,l2⟩=>?_) (by simp) rfl (λi u hi=>?_) (.same (bn _ _ _) (Fc (by rw[hrl];exact x5) x6 rest id he))) ?_
  ·cases i with
   |zero=>exact x3 ⟨o,e1,l1⟩
   |succ i=>
    by_cases hi:i=id
    ·subst hi;exact x4 ⟨o,e1,l1⟩
    ·rw[Vd,UM (Ne.symm hi),List.getElem?_replicate] at e2
     split at e2
     ·cases e2;exact l2
     ·cases e2
  ·cases i with
   |zero=>cases hi;exact .inr ⟨_,rfl,gV (by simp[below,af];exact hid)⟩
   |succ i=>simp at hi
  ·refine Wk.of [0,id+1] (by simp) (by simp) (by simp) (by simp[below,af,ren,be]) (bR rfl (bn _ _ _) (bc ?_ (dS _) bv))
   rw[Vd,UQ (by simpa using hid)]
theorem yL{f:FuncId}{args:List AV}{b:List Int}{p:Nat}{Q:Ex->Nat->Prop}(H:AC Tryz.prog G f args [rdO b p] (EN b Q))(rest:List AO)(ha:af 1 args):
 AC Tryz.prog G f args (rdO b p::rest) λx h=>∃(e:Ex) (q:Nat),x= .ret (.agg [.p (.int .i64 e.op),.p (.int .i64 e.n),.p (.str e.name),slE (rest.length+1) 4 (exR e.kids)])/\h=rdO b q::(rest++[bS 4 (exR e.kids)])/\Q e q:=by
 refine(H.frame (h:=rdO b p::rest) [0] (by simp) (DU (n:=1) ha) (bR rfl (bn _ _ _) bv)).mono ?_
 rintro x h ⟨x0,h0,⟨e,q,rfl,rfl,hq⟩,hl,rfl,rfl⟩
 have hp:∀σ,gT σ (bS 4 (exR e.kids))=bS 4 (exR e.kids):=λσ=>by
  unfold bS
  split
  ·rfl
  ·simp only[gT]
   rw[Vp (g:=id) λx hx=>dv _ x (dS _ x hx)];simp
 have hp2:∀σ,gT σ (rdO b q)=rdO b q:=λσ=>by simp[rdO,gT,be,ren]
 refine⟨e,q,?_,?_,hq⟩
 ·simp[Bo,ren,be]
 ·have hl2:([rdO b q,bS 4 (exR e.kids)]:List AO).length-[rdO b p].length=1:=rfl
  rw[hl2]
  simp only[Vh,List.length_nil,VP,List.take_succ_cons,List.take_zero,Vn,List.map_nil,hp2,List.drop_succ_cons,List.drop_zero,mrg,List.set_cons_zero,VA,hp]
def LfQ(p:Nat)(v:AV)(q:Nat):Prop:=(∃(o n:Int) (s:List UInt8),v= .agg [.p (.int .i64 o),.p (.int .i64 n),.p (.str s),.nils]/\s.length<=8)/\p<=q/\q<=p+2
theorem JC{b:List Int}(hb:Byt b)(hl:b.length<=2000){p:Nat}(hp:p<=1000000000000)(names:List (List UInt8))(hn:vl names):AC Tryz.prog G db [.ptr 0 2 0 0,.p (aw names)] [rdO b p] λx h=>∃v q,x= .ret v/\h=[rdO b q]/\LfQ p v q:=by
 refine nH G (AC.go rH ?_)
 have hsl:aw names= .lst 1 (names.map λw=>[.str w]):=rfl
 have fin1:∀(o n:Int) (s:List UInt8) (q:Nat) (rest:List AO),p<=q->q<=p+2->s.length<=8->DP b (LfQ p) (.ret (.agg [.p (.int .i64 o),.p (.int .i64 n),.p (.str s),.nils])) (rdO b q::rest):=λo n s q rest h1 h2 hs=>
  ⟨_,rest,q,_,rfl,rfl,gV (by simp),⟨o,n,s,rfl,hs⟩,h1,h2⟩
 have num:∀(q:Nat) (h:List AO),q<=1000000000001->h[0]?=some (rdO b q)->h[2]?=some (lm [0,1,2,3,5,7,15,16,100,255])->_:=λq h hq h0 h1=>ma G hb hl (p:=q) (by omega) [0,1,2,3,5,7,15,16,100,255] (h:=h) (k:=2) (by simp) (by simp) (by omega) h0 h1
 by_cases hne:names=[]
 ·subst hne
  have hs0:aw []= .lst 1 []:=rfl
  simp-implicitDefEqProofs[fO,hs0]
  refine(num p _ (by omega) rfl rfl).mono ?_
  rintro r h ⟨n,_,rfl,rfl⟩
  simp-implicitDefEqProofs[aa]
  exact fin1 _ _ _ _ _ (by omega) (by omega) (by simp)
 ·have hlen:¬names.length=0:=λh=>hne (VC h)
  simp-implicitDefEqProofs[fO,hsl,hne]
  refine(aU G b hb hl p (by omega) 3 _).mono ?_
  rintro r h ⟨k,rfl,rfl,_⟩
  simp-implicitDefEqProofs[aa]
  refine aY (λhc=>?_) (λhc=>?_)
  ·simp-implicitDefEqProofs[]
   refine(num (p+1) _ (by omega) rfl rfl).mono ?_
   rintro r h ⟨n,_,rfl,rfl⟩
   simp-implicitDefEqProofs[aa]
   exact fin1 _ _ _ _ _ (by omega) (by omega) (by simp)
  ·simp-implicitDefEqProofs[]
   rw[←hsl]
   refine(Hg G hb hl (by omega) names hne (by have:=hn.1;omega) _).mono ?_
   rintro r h ⟨s,hs,rfl,rfl⟩
   have:=hn.2 s hs
   simp-implicitDefEqProofs[aa]
   exact fin1 _ _ _ _ _ (by omega) (by omega) this
theorem IQ{b:List Int}(hb:Byt b)(hl:b.length<=2000)(names:List (List UInt8))(hn:vl names)(d:Nat)(hd:d+1<=20){p:Nat}(hp:p+6*3^(d+1)<=1000000000000):AC Tryz.prog G aS [.ptr 0 2 0 0,.p (aw names),.p (.int .i64 ((d+1:Nat):Int))] [rdO b p] (EN b (EoQ p (10*3^(d+1)) (6*3^(d+1)))):=by
 have hpow:3^(d+1)=3*3^d:=by rw[Nat.pow_succ];omega
 have h1p:1<=3^d:=Nat.one_le_pow _ _ (by omega)
 have ih:=λ{p:Nat} (hp:p+6*3^d<=1000000000000)=>zR G hb hl names hn d (by omega) (p:=p) hp
 rw[hpow] at hp⊢
 generalize 3^d=t at*
 have hw:IntKind.i64.wrap (d:Int)=(d:Int):=ab (by omega) (by omega)
 have leaf:∀(q:Nat) (rest:List AO),p<=q->q<=p+3->AC Tryz.prog G db [.ptr 0 2 0 0,.p (aw names)] (rdO b q::rest) λx h=>∃v q',x= .ret v/\h=rdO b q'::rest/\LfQ q v q':=λq rest _ _=>jC G (JC G hb hl (by omega) names hn) rest (by simp[below])
 have sub:∀(q:Nat) (rest:List AO),p<=q->q<=p+6+6*t->AC Tryz.prog G aS [.ptr 0 2 0 0,.p (aw names),.p (.int .i64 d)] (rdO b q::rest) λx h=>∃v q',x= .ret v/\h=rdO b q'::rest/\ExQ q (10*t) (6*t) v q':=λq rest _ _=>jC G (ih (by omega)) rest (by simp[below])
 refine Fk G (AC.go mE ?_)
 have leafCase:∀(o n:Int) (s:List UInt8) (q:Nat) (rest:List AO),s.length<=8->p<=q->q<=p+5->DT b (EoQ p (10*(3*t)) (6*(3*t))) (.ret (.agg [.p (.int .i64 o),.p (.int .i64 n),.p (.str s),.nils])) (rdO b q::rest):=λo n s q rest h1 h2 h3=>
  ⟨⟨o,n,s,[]⟩,q,rest,_,rfl,rfl,.inl ⟨rfl,rfl⟩,by simp[Ex.sz,bq];omega,h2,by omega⟩
 have top:∀(kids:List Ex) (h:List AO) (k:Nat),h[k+1]?=some (.row 4 (exR kids))->kids≠[]->Om h kids (.sl (k+1) 4 0 kids.length):=λkids h k hk hne=>
  .inr ⟨k,exR kids,List.replicate h.length .dead,rfl,hne,hk,by simp,λi o e l=>(by rw[List.getElem?_replicate] at e;split at e<;>cases e;exact l.elim),λ⟨o,e,l⟩=>(by rw[List.getElem?_replicate] at e;split at e<;>cases e;exact l.elim),λ⟨o,e,l⟩=>(by rw[List.getElem?_replicate] at e;split at e<;>cases e;exact l.elim),by simp[exR],λj e e1 h1 h2=>(by rw[h1] at h2;cases h2;exact gV (aZ (VQ _) _ (dS _ e (UR h1))))⟩
 have bin:∀(o:Int) (e1 e2:Ex) (q:Nat) (rest:List AO) (k:Nat),(rdO b q::rest)[k+1]?=some (.row 4 [e1.cs.map .p,e2.cs.map .p])->e1.sz<=10*t->e2.sz<=10*t->p<=q->q<=p+6*(3*t)->DT b (EoQ p (10*(3*t)) (6*(3*t))) (.ret (.agg [.p (.int .i64 o),.p (.int .i64 0),.p (.str []),.sl (k+1) 4 0 2])) (rdO b q::rest):=λo e1 e2 q rest k hk h1 h2 h3 h4=>
  ⟨⟨o,0,[],[e1,e2]⟩,q,rest,_,rfl,rfl,top [e1,e2] _ k hk (by simp),by simp[Ex.sz,bq];omega,h3,h4⟩
 have una:∀(o:Int) (e1:Ex) (q:Nat) (rest:List AO) (k:Nat),(rdO b q::rest)[k+1]?=some (.row 4 [e1.cs.map .p])->e1.sz<=10*t->p<=q->q<=p+6*(3*t)->DT b (EoQ p (10*(3*t)) (6*(3*t))) (.ret (.agg [.p (.int .i64 o),.p (.int .i64 0),.p (.str []),.sl (k+1) 4 0 1])) (rdO b q::rest):=λo e1 q rest k hk h1 h3 h4=>
  ⟨⟨o,0,[],[e1]⟩,q,rest,_,rfl,rfl,top [e1] _ k hk (by simp),by simp[Ex.sz,bq];omega,h3,h4⟩
 by_cases hd0:d=0
 ·subst hd0
  simp-implicitDefEqProofs[dU]
  refine(leaf p _ (by omega) (by omega)).mono ?_
  rintro r h ⟨v,q,rfl,rfl,⟨o,n,s,rfl,he⟩,h1,h2⟩
  simp-implicitDefEqProofs[aa]
  exact leafCase o n s q _ he (by omega) (by omega)
 have hd2:¬(d:Int)+1<2:=by omega
 simp-implicitDefEqProofs[dU,hd2]
 refine(aU G b hb hl p (by omega) 4 _).mono ?_
 rintro r h ⟨k1,rfl,rfl,_⟩
 simp-implicitDefEqProofs[aa]
 refine aY (λhc=>?_) (λhc=>?_)
 ·simp-implicitDefEqProofs[]
  refine(leaf (p+1) _ (by omega) (by omega)).mono ?_
  rintro r h ⟨v,q,rfl,rfl,⟨o,n,s,rfl,he⟩,h1,h2⟩
  simp-implicitDefEqProofs[aa]
  exact leafCase o n s q _ he (by omega) (by omega)
 simp-implicitDefEqProofs[]
 refine(aU G b hb hl (p+1) (by omega) 7 _).mono ?_
 rintro r h ⟨k2,rfl,rfl,_⟩
 simp-implicitDefEqProofs[aa]
 refine aY (λhc=>?_) (λhc=>?_)
 ·simp-implicitDefEqProofs[]
  refine(ma G hb hl (p:=p+2) (by omega) [11,12,11] (k:=2) (by simp) (by simp) (by omega) rfl rfl).mono ?_
  rintro r h ⟨n,_,rfl,rfl⟩
  simp-implicitDefEqProofs[aa,hw]
  refine(sub (p+3) _ (by omega) (by omega)).mono ?_
  rintro r h ⟨v,q,rfl,rfl,⟨e,rfl,he⟩,h1,h2⟩
  have hec:=e.cs_eq
  simp-implicitDefEqProofs[aa,hec]
  exact una n e q _ 2 (by rw[hec];rfl) he (by omega) (by omega)
 ·simp-implicitDefEqProofs[]
  refine(ma G hb hl (p:=p+2) (by omega) [3,3,4,5,6,7,8,9,10] (k:=2) (by simp) (by simp) (by omega) rfl rfl).mono ?_
  rintro r h ⟨n,_,rfl,rfl⟩
  simp-implicitDefEqProofs[aa,hw]
  refine(sub (p+3) _ (by omega) (by omega)).mono ?_
  rintro r h ⟨v,q,rfl,rfl,⟨e,rfl,he⟩,h1,h2⟩
  have hec:=e.cs_eq
  simp-implicitDefEqProofs[aa,hec,hw]
  refine(sub q _ (by omega) (by omega)).mono ?_
  rintro r h ⟨v,q2,rfl,rfl,⟨e2,rfl,he2⟩,h3,h4⟩
  have hec2:=e2.cs_eq
  simp-implicitDefEqProofs[aa,hec2]
  exact bin n e e2 q2 _ 2 (by rw[hec,hec2];rfl) he he2 (by omega) (by omega)
end
section
variable (G:al)
theorem RT{h:List AO}{kids:List Ex}{id:Nat}(he:h[id+1]?=some (bS 4 (exR kids))):Om h kids (slE (id+1) 4 (exR kids)):=by
 by_cases hk:kids=[]
 ·subst hk;exact .inl ⟨rfl,rfl⟩
 ·have hr:exR kids≠[]:=λh=>hk (List.map_eq_nil_iff.1 h)
  rw[eZ hr] at he
  rw[dx hr]
  have hrl:(exR kids).length=kids.length:=by simp[exR]
  rw[hrl]
  exact .inr ⟨id,exR kids,List.replicate h.length .dead,rfl,hk,he,by simp,λi o e l=>(by rw[List.getElem?_replicate] at e;split at e<;>cases e;exact l.elim),λ⟨o,e,l⟩=>(by rw[List.getElem?_replicate] at e;split at e<;>cases e;exact l.elim),λ⟨o,e,l⟩=>(by rw[List.getElem?_replicate] at e;split at e<;>cases e;exact l.elim),by simp[exR],λj e e1 h1 h2=>(by rw[h1] at h2;cases h2;exact gV (aZ (VQ _) _ (dS _ e (UR h1))))⟩
theorem Qk(l:List Ex)(n:Nat):okO n (bS 4 (exR l)):=dH (Lq (dS l))
theorem MJ{hF:List AO}{n id:Nat}{e:Ex}(he:hF[id]?=some (bS 4 (exR e.kids))):Fzs hF n [.p (.int .i64 e.op),.p (.int .i64 e.n),.p (.str e.name),slE id 4 (exR e.kids)] (e.cs.map .p):=by
 rw[e.cs_eq]
 exact .keep (by simp) (.keep (by simp) (.keep (by simp) (.one (iz he) .nil)))
structure KdS where (k:Nat) (es:List Ex) (q:Nat)
theorem CA{b:List Int}(hb:Byt b)(hl:b.length<=2000){d:Nat}(hd:d+1<=7){p:Nat}(hp:p+20000<=1000000000000):AC Tryz.prog G gH [.ptr 0 2 0 0,.p (.int .i64 ((d+1:Nat):Int))] [rdO b p] (EN b (EoQ p 30000 20000)):=by
 refine Fk G (AC.go CC ?_)
 have h3:3^(d+1)<=2187:=by
  have:3^(d+1)<=3^7:=Nat.pow_le_pow_right (by omega) hd
  omega
 have fin:∀(e:Ex) (q:Nat) (rest:List AO) (K:AV),Om (rdO b q::rest) e.kids K->e.sz<=30000->p<=q->q<=p+20000->DT b (EoQ p 30000 20000) (.ret (.agg [.p (.int .i64 e.op),.p (.int .i64 e.n),.p (.str e.name),K])) (rdO b q::rest):=λe q rest K hk h1 h2 h3=>
  ⟨e,q,rest,K,rfl,rfl,hk,h1,h2,h3⟩
 have hn4:vl [[97],[98],[120],[103,111]]:=⟨by simp,by simp⟩
 have hn2:vl [[97],[98]]:=⟨by simp,by simp⟩
 simp-implicitDefEqProofs[tM]
 refine(AC.give (hX:=[.dead,.dead,cD [[97],[98],[120],[103,111]]]) (hR:=[rdO b p,.row 4 [[.p (.int .i64 0),.p (.int .i64 0),.p (.str []),.nils]],.dead]) (pargs:=[.ptr 0 2 0 0,.p (aw [[97],[98],[120],[103,111]]),.p (.int .i64 ((d+1:Nat):Int))]) (.keep _ (.keep _ (.give _ .nil))) (.keep (by simp[below]) (.one (gx (l:=[[97],[98],[120],[103,111]]) rfl) (.keep (by simp) .nil))) (yL G (IQ G hb hl _ hn4 d (by omega) (by omega)) _ (by simp[below]))).mono ?_
 rintro r h ⟨e0,q,rfl,rfl,he0,h1,h2⟩
 simp-implicitDefEqProofs[aa]
 refine(aU G b hb hl q (by omega) 3 _).mono ?_
 rintro r h ⟨k1,rfl,rfl,_⟩
 simp-implicitDefEqProofs[aa]
 refine aY (λhc=>?_) (λhc=>?_)
 ·simp-implicitDefEqProofs[]
  exact fin e0 _ _ _ (RT rfl) (by omega) (by omega) (by omega)
 simp-implicitDefEqProofs[]
 refine(DO G hb hl (p:=q+1) (by omega) [[102],[103],[97]] (k:=5) (by simp) (by simp) (by omega) rfl rfl).mono ?_
 rintro r h ⟨s,hs,rfl,rfl⟩
 have hsl:s.length<=8:=by simp at hs;rcases hs with rfl|rfl|rfl<;>simp
 simp-implicitDefEqProofs[aa]
 refine(aU G b hb hl (q+1+1) (by omega) 4 _).mono ?_
 rintro r h ⟨k2,rfl,rfl,hk2⟩
 simp-implicitDefEqProofs[aa]
 have hexn:∀(es:List Ex) (e:Ex),exR (es++[e])=exR es++[e.cs.map .p]:=λes e=>by simp[exR]
 refine aJ (λs:KdS=>ah 42 [(7,.p (.int .i64 s.k)),(6,.ptr 6 4 0 0),(5,.ptr 4 4 0 0),(4,.ptr 1 4 0 0),(0,.ptr 0 2 0 0)])
  (λa=>[rdO b a.q,.row 4 [[.p (.int .i64 0),.p (.int .i64 0),.p (.str []),.nils]],.dead,bS 4 (exR e0.kids),.row 4 [[.p (.int .i64 e0.op),.p (.int .i64 e0.n),.p (.str e0.name),slE 3 4 (exR e0.kids)]],.row 1 [[.p (.str [102])],[.p (.str [103])],[.p (.str [97])]],
    .row 4 [[.p (.int .i64 13),.p (.int .i64 0),.p (.str s),slE 7 4 (exR a.es)]],bS 4 (exR a.es)])
  (λa=>a.k+a.es.length<=3/\bq a.es<=90*a.es.length/\q<=a.q/\a.q<=q+3+54*a.es.length) (λa=>a.k) ⟨k2,[],q+1+1+1⟩ ⟨by simp only[List.length_nil];omega,by simp[bq],by simp only;omega,by simp⟩
  (tQ (by simp) (by simp) (by
    intro o h
    simp only[UX,Vk,or_false] at h
    rcases h with rfl|rfl|rfl|rfl|rfl|rfl|rfl
    ·exact bn _ _ _
    ·simp[okO,below]
    ·simp[okO]
    ·exact Qk _ _
    ·simp[okO,below]
    ·simp[okO,below]
    ·simp[okO,below]) (by simp[below])) ?_
 rintro⟨k,es,q1⟩ ⟨i1,i2,i3,i4⟩
 simp only at i1 i2 i3 i4
 have hxl:(exR es).length=es.length:=by simp[exR]
 simp-implicitDefEqProofs[]
 refine aY (λhc=>?_) (λhc=>?_)
 ·simp at hc
  simp-implicitDefEqProofs[]
  have hE:=jC G (zR G hb hl _ hn2 2 (by omega) (p:=q1) (by omega)) ([.row 4 [[.p (.int .i64 0),.p (.int .i64 0),.p (.str []),.nils]],.dead,bS 4 (exR e0.kids),.row 4 [[.p (.int .i64 e0.op),.p (.int .i64 e0.n),.p (.str e0.name),slE 3 4 (exR e0.kids)]],.row 1 [[.p (.str [102])],[.p (.str [103])],[.p (.str [97])]],
   .row 4 [[.p (.int .i64 13),.p (.int .i64 0),.p (.str s),slE 7 4 (exR es)]],bS 4 (exR es)]) (by simp[below])
  refine hE.mono ?_
  rintro r h ⟨v,q2,rfl,rfl,⟨e,rfl,he⟩,hq1,hq2⟩
  have hec':=e.cs_eq
  simp-implicitDefEqProofs[aa,hec']
  refine⟨by rw[hxl];omega,⟨k-1,es++[e],q2⟩,⟨by simp;omega,by rw[eK];simp[bq];omega,by simp only;omega,by simp;omega⟩,by simp;omega,?_⟩
  have hwk:IntKind.i64.wrap ((k:Int)-1)=((k-1:Nat):Int):=by rw[ab (by omega) (by omega)];omega
  rw[hexn,Hr _ (by simp),Fm _ (by simp),hec']
  refine eQ [0,1,2,3,4,5,6,8] (by simp) (by decide) (by decide) (bR rfl (bn _ _ _) (bT (by simp[below]) (by simp[ren,be]) (fa (by simp) (MZ rfl (dS _) (bT (by simp[below]) (by simp[ren,be]) (bc rfl (by simp[below]) (bT (by simp[below]) (by simp[ren,be]) (bc rfl (λx hx=>by
   rcases UW.1 hx with h|h
   ·exact dS _ x h
   ·rw[UY.1 h];simp) bv)))))))) ?_
  simp[below,ren,hwk]
 ·simp at hc
  simp-implicitDefEqProofs[]
  refine(aU G b hb hl q1 (by omega) 2 _).mono ?_
  rintro r h ⟨k3,rfl,rfl,_⟩
  simp-implicitDefEqProofs[aa]
  refine aY (λhc2=>?_) (λhc2=>?_)
  ·simp-implicitDefEqProofs[]
   exact fin ⟨13,0,s,es⟩ (q1+1) _ _ (RT rfl) (by simp[Ex.sz];omega) (by omega) (by omega)
  ·simp-implicitDefEqProofs[]
   have hv:∀hF:List AO,hF[3]?=some (bS 4 (exR e0.kids))->hF[7]?=some (bS 4 (exR es))->∀(n j:Nat) (x x1:List AV),[[AV.p (.int .i64 e0.op),.p (.int .i64 e0.n),.p (.str e0.name),slE 3 4 (exR e0.kids)],[.p (.int .i64 13),.p (.int .i64 0),.p (.str s),slE 7 4 (exR es)]][j]?=some x->(exR [e0,⟨13,0,s,es⟩])[j]?=some x1->Fzs hF n x x1:=by
    intro hF h3 h7 n j x x1 a1 a2
    match j,a1,a2 with
    |0,a1,a2=>cases a1;cases a2;exact MJ h3
    |1,a1,a2=>cases a1;cases a2;exact MJ (e:=⟨13,0,s,es⟩) h7
    |j+2,a1,a2=>simp at a1
   refine fin ⟨3,0,[],[e0,⟨13,0,s,es⟩]⟩ (q1+1) _ _ (.inr ⟨7,_,[.dead,.dead,.dead,bS 4 (exR e0.kids),.dead,.dead,.dead,bS 4 (exR es),.dead],rfl,by simp[Ex.kids],rfl,rfl,λi o e l=>?_,λ⟨o,e,l⟩=>?_,λ⟨o,e,l⟩=>?_,rfl,hv _ rfl rfl _⟩) (by simp[Ex.sz,bq];omega) (by omega) (by omega)
   ·match i,e with
    |0,e=>cases e;exact l.elim
    |1,e=>cases e;exact l.elim
    |2,e=>cases e;exact l.elim
    |3,e=>exact e
    |4,e=>cases e;exact l.elim
    |5,e=>cases e;exact l.elim
    |6,e=>cases e;exact l.elim
    |7,e=>exact e
    |8,e=>cases e;exact l.elim
    |i+9,e=>simp at e
   ·cases e;exact l
   ·cases e;exact l
theorem Mz{b:List Int}(hb:Byt b)(hl:b.length<=2000){p:Nat}(hp:p+50000<=1000000000000):AC Tryz.prog G mr [.ptr 0 2 0 0] [rdO b p] λx h=>∃v q,x= .ret v/\h=[rdO b q]/\ExQ p 60000 50000 v q:=by
 refine nH G (AC.go Bm ?_)
 have fin:∀(e:Ex) (q:Nat) (rest:List AO) (v:AV),Fzs (.dead::rest) 1 [v] [.agg (e.cs.map .p)]->e.sz<=60000->p<=q->q<=p+50000->DP b (ExQ p 60000 50000) (.ret v) (rdO b q::rest):=λe q rest v hz h1 h2 h3=>
  ⟨_,rest,q,.agg (e.cs.map .p),rfl,rfl,hz,⟨e,rfl,h1⟩,h2,h3⟩
 simp-implicitDefEqProofs[rx]
 refine(yL G (CA G hb hl (d:=3) (by omega) (by omega)) _ (by simp[below])).mono ?_
 rintro r h ⟨e0,q,rfl,rfl,he0,h1,h2⟩
 have hsz:=e0.sz_eq
 have hkl:=bB e0.kids
 have hrl:(exR e0.kids).length=e0.kids.length:=by simp[exR]
 simp-implicitDefEqProofs[aa]
 refine(aU G b hb hl q (by omega) 20 _).mono ?_
 rintro r h ⟨k1,rfl,rfl,_⟩
 by_cases k10:k1=0
 ·subst k10
  simp-implicitDefEqProofs[aa]
  refine(ma G hb hl (p:=q+1) (by omega) [-1,256,3] (k:=4) (by simp) (by simp) (by omega) rfl rfl).mono ?_
  rintro r h ⟨n,_,rfl,rfl⟩
  simp-implicitDefEqProofs[aa]
  exact fin ⟨e0.op,n,e0.name,e0.kids⟩ _ _ _ (Cg (iz rfl)) (by simp[Ex.sz];omega) (by omega) (by omega)
 by_cases k11:k1=1
 ·subst k11
  simp-implicitDefEqProofs[aa]
  refine(DO G hb hl (p:=q+1) (by omega) [[],[100,111],[65],[97,98,99,100,101],[113]] (k:=4) (by simp) (by simp) (by omega) rfl rfl).mono ?_
  rintro r h ⟨s,hs,rfl,rfl⟩
  have hsl:s.length<=8:=by simp at hs;rcases hs with rfl|rfl|rfl|rfl|rfl<;>simp
  simp-implicitDefEqProofs[aa]
  exact fin ⟨e0.op,e0.n,s,e0.kids⟩ _ _ _ (Cg (iz rfl)) (by simp[Ex.sz];omega) (by omega) (by omega)
 by_cases k12:k1=2
 ·subst k12
  simp-implicitDefEqProofs[aa]
  refine(ma G hb hl (p:=q+1) (by omega) [0,14,-1,5,11] (k:=4) (by simp) (by simp) (by omega) rfl rfl).mono ?_
  rintro r h ⟨n,_,rfl,rfl⟩
  simp-implicitDefEqProofs[aa]
  exact fin ⟨n,e0.n,e0.name,e0.kids⟩ _ _ _ (Cg (iz rfl)) (by simp[Ex.sz];omega) (by omega) (by omega)
 by_cases k13:k1=3
 ·subst k13
  simp-implicitDefEqProofs[aa]
  refine(AC.give (pargs:=[.ptr 0 2 0 0,.p (aw [])]) (Spl.rest _) (.keep (by simp[below]) (.one (View.nils 1) .nil)) (jC G (zO G hb hl (p:=q+1) (by omega) [] ⟨by simp,by simp⟩) _ (by simp[below]))).mono ?_
  rintro r h ⟨v,q2,rfl,rfl,⟨e1,rfl,he1⟩,h3,h4⟩
  have hec1:=e1.cs_eq
  have hx:exR (e0.kids++[e1])=exR e0.kids++[[.p (.int .i64 e1.op),.p (.int .i64 e1.n),.p (.str e1.name),.p (exL e1.kids)]]:=by simp[exR,hec1]
  have hne:exR (e0.kids++[e1])≠[]:=by simp[exR]
  simp-implicitDefEqProofs[aa,hec1]
  refine⟨by omega,?_⟩
  rw[←hx]
  have hl2:(exR e0.kids).length+1=(exR (e0.kids++[e1])).length:=by simp[exR]
  have hv:∀h:List AO,h[4]?=some (.row 4 (exR (e0.kids++[e1])))->View h (.sl 4 4 0 ((exR e0.kids).length+1)) (exL (e0.kids++[e1])):=λh e=>by
   have:=iz (h:=h) (id:=4) (l:=e0.kids++[e1]) (by rw[eZ hne];exact e)
   rwa[dx hne,←hl2] at this
  exact fin ⟨e0.op,e0.n,e0.name,e0.kids++[e1]⟩ q2 _ _ (Cg (hv _ rfl)) (by simp[Ex.sz,eK,bq];omega) (by omega) (by omega)
 by_cases k14:k1=4
 ·subst k14
  simp-implicitDefEqProofs[aa]
  refine(yL G (CA G hb hl (d:=6) (by omega) (by omega)) _ (by simp[below])).mono ?_
  rintro r h ⟨e1,q2,rfl,rfl,he1,h3,h4⟩
  simp-implicitDefEqProofs[aa]
  have hs1:=e1.sz_eq
  exact fin ⟨e1.op,e1.n,e1.name,e1.kids⟩ _ _ _ (Cg (iz rfl)) (by simp[Ex.sz];omega) (by omega) (by omega)
 have c1:¬(k1:Int)=1:=by omega
 have c2:¬(k1:Int)=2:=by omega
 have c3:¬(k1:Int)=3:=by omega
 have c4:¬(k1:Int)=4:=by omega
 simp-implicitDefEqProofs[aa,k10,c1,c2,c3,c4]
 exact fin ⟨e0.op,e0.n,e0.name,e0.kids⟩ _ _ _ (Cg (iz rfl)) (by simp[Ex.sz];omega) (by omega) (by omega)
end
section
variable (G:al)
def PgQ(p n m:Nat)(v:AV)(q:Nat):Prop:=(∃l:List Fd,v= .agg [.p (fdL l)]/\aN l<=n)/\p<=q/\q<=p+m
theorem Cb{h:List AO}{id sz:Nat}{rows:List (List AV)}{es:List (List PV)}(he:h[id]?=some (.row sz rows))(hl:rows.length=es.length)(hs:∀e∈es,e.length=sz)(hv:∀(i j:Nat) (e:List PV) (q:PV) (e':List AV) (a:AV),es[i]?=some e->e[j]?=some q->rows[i]?=some e'->e'[j]?=some a->View h a q){n:Nat}(hn:n=es.length):View h (.sl id sz 0 n) (.lst sz es):=by
 subst hn
 exact .sl id sz 0 rows es he (by omega) hs λi j e q e' a a1 a2 a3 a4=>hv i j e q e' a a1 a2 (by rwa[VP] at a3) a4
theorem sy{h:List AO}{e:List PV}{j:Nat}{q:PV}{a:AV}(h1:e[j]?=some q)(h2:(e.map AV.p)[j]?=some a):View h a q:=by
 rw[UZ,h1] at h2;cases h2;exact .p _
theorem IM{h:List AO}{id k:Nat}{l:List Fd}{f:Fd}{P B:AV}(he:h[id]?=some (.row 3 ((aX l).set k [.p (.str f.name),P,B])))(hk:k<l.length)(hP:View h P (aw f.params))(hB:View h B (smL f.body)){n:Nat}(hn:n=l.length):View h (.sl id 3 0 n) (fdL (l.set k f)):=by
 refine Cb (es:=(l.set k f).map Fd.cs) he (by simp[aX]) (λe he=>by obtain⟨x,_,rfl⟩:=Vi.1 he;simp) (λi j e q e' a a1 a2 a3 a4=>?_) (by simpa using hn)
 rw[UZ] at a1
 by_cases hik:k=i
 ·subst hik
  rw[UQ hk] at a1
  rw[UQ (by simpa[aX] using hk)] at a3
  cases a1;cases a3
  exact zW (s:=f.name) (ps:=f.params) (bd:=f.body) hP hB j q a a2 a4
 ·rw[UM hik] at a1 a3
  obtain⟨g,g1,g2⟩:=UP.1 a1
  subst g2
  rw[aX,UZ,g1] at a3
  cases a3
  exact sy a2 a4
theorem Je{h:List AO}{id:Nat}{l:List (List UInt8)}{s:List UInt8}(he:h[id]?=some (.row 1 (List.take l.length (l.map λw=>[AV.p (.str w)])++[[.p (.str s)]]))):View h (.sl id 1 0 (l.length+1)) (aw (l++[s])):=by
 have e:h[id]?=some (cD (l++[s])):=by rw[he,US (by simp)];simp[cD]
 have:=gx e
 rwa[Va,List.length_singleton] at this
theorem tg{h:List AO}{id:Nat}{l:List Sm}{s:Sm}{r:List AV}(he:h[id]?=some (.row 5 (List.take l.length (smR l)++[r])))(hr:∀(j:Nat) (q:PV) (a:AV),s.cs[j]?=some q->r[j]?=some a->View h a q):View h (.sl id 5 0 (l.length+1)) (smL (l++[s])):=by
 have hl:=fZ l
 refine Cb (es:=(l++[s]).map Sm.cs) he (by simp[hl]) (λe he=>by obtain⟨x,_,rfl⟩:=Vi.1 he;simp) (λi j e q e' a a1 a2 a3 a4=>?_) (by simp)
 rw[US (by omega)] at a3
 rw[List.map_append] at a1
 rcases Vx i l.length with hi|hi
 ·rw[UN (by simpa using hi)] at a1
  rw[UN (by omega)] at a3
  rw[UZ] at a1
  obtain⟨g,g1,g2⟩:=UP.1 a1
  subst g2
  rw[smR,UZ,g1] at a3
  cases a3
  exact sy a2 a4
 ·rw[UT (by simpa using hi)] at a1
  rw[UT (by omega),hl] at a3
  simp only[Vv] at a1
  generalize i-l.length=k at a1 a3
  cases k with
  |zero=>cases a1;cases a3;exact hr j q a a2 a4
  |succ k=>simp at a1
theorem Mm{h:List AO}{id:Nat}{l:List Fd}{f:Fd}(he:h[id]?=some (.row 3 (List.take l.length (aX l)++[f.cs.map .p]))):View h (.sl id 3 0 (l.length+1)) (fdL (l++[f])):=by
 have hl:=zg l
 have:=uU (h:=h) (id:=id) (l:=l++[f]) (by rw[he,US (by omega)];simp[aX])
 rwa[Va,List.length_singleton] at this
theorem ET(l:List Fd)(k:Nat)(f:Fd):aN (l.set k f)<=aN l+f.sz:=by
 by_cases hk:k<l.length
 ·rw[fJ f hk]
  have e:l=l.take k++l.drop k:=(VH _ _).symm
  have e2:l.drop k=l[k]::l.drop (k+1):=VN hk
  have h1:aN l=aN (l.take k)+aN (l.drop k):=by rw[←nh,←e]
  rw[nh]
  have h3:aN (f::l.drop (k+1))=f.sz+aN (l.drop (k+1)):=by simp[aN]
  have h4:aN (l.drop k)=l[k].sz+aN (l.drop (k+1)):=by rw[e2];unfold aN;rw[Vn,List.sum_cons]
  omega
 ·rw[List.set_eq_of_length_le (by omega)];omega
theorem Cn{l:List Fd}{f:Fd}(h:f∈l):f.sz<=aN l:=by
 induction l with
 |nil=>cases h
 |cons x r ih=>
  have e:aN (x::r)=x.sz+aN r:=by simp[aN]
  rcases UX.1 h with rfl|h
  ·omega
  ·have:=ih h;omega
theorem BA:AK.whole ml=FK.ak mH:=rfl
structure NsS where (i:Nat) (o:Int) (w:List UInt8) (A B C:PV) (q:Nat)
structure BdS where (i:Nat) (bd:List Sm)
structure CfS where (f:Fd) (q:Nat)
theorem Ml{b:List Int}(hb:Byt b)(hl:b.length<=2000){p:Nat}(hp:p<=10000000000):AC Tryz.prog G mt [.ptr 0 2 0 0] [rdO b p] λx h=>∃v q,x= .ret v/\h=[rdO b q]/\PgQ p 500000000 200200000 v q:=by
 refine nH G (AC.goK Bn BA ?_)
 have hprog:AC Tryz.prog G dV [.ptr 0 2 0 0] [rdO b p] λx h=>∃v q,x= .ret v/\h=[rdO b q]/\((∃l:List Fd,v= .agg [.p (fdL l)]/\bt l=true/\aN l<=200000000)/\p<=q/\q<=p+200000000):=
  (MG G hb hl hp).mono λx h ⟨l,q,e1,e2,e3,e4,e5,e6⟩=>⟨_,q,e1,e2,⟨l,rfl,e3,e4⟩,e5,e6⟩
 simp-implicitDefEqProofs[ml,mH]
 refine(jC G hprog _ (by simp[below])).mono ?_
 rintro r h ⟨v,q,rfl,rfl,⟨l,rfl,hok,hz⟩,h1,h2⟩
 have hlen:=((iT l).1 hok).1
 obtain⟨n,hn⟩:∃n,l.length=n+1:=⟨l.length-1,by omega⟩
 have hnl:n<l.length:=by omega
 have hfz:=Cn (Ve hnl)
 obtain⟨f,hfe⟩:∃f,l[n]=f:=⟨_,rfl⟩
 rw[hfe] at hfz
 have hg:l[n]?=some f:=by rw[UO hnl,hfe]
 have fin:∀(r1:List (Nat × AV)) (f':Fd) (q':Nat) (rest:List AO) (P B:AV),Aw.look r1 0= .ptr 0 2 0 0->Aw.look r1 2= .ptr 1 1 0 0->Aw.look r1 3= .ptr 2 1 0 0->Aw.look r1 4= .ptr 3 3 0 0->View (.dead:: .dead:: .dead:: .dead::rest) P (aw f'.params)->View (.dead:: .dead:: .dead:: .dead::rest) B (smL f'.body)->f'.sz<=300000000->q<=q'->q'<=q+100000->
  ∃s:CfS,(s.f.sz<=300000000/\q<=s.q/\s.q<=q+100000)/\Wk 1 (ah 145 r1) (rdO b q':: .row 1 [[.nils]]:: .row 1 [[.p (.lst 3 (l.map Fd.cs))]]:: .row 3 [[.p (.str f'.name),P,B]]::rest) (ah 145 [(4,.ptr 3 3 0 0),(3,.ptr 2 1 0 0),(2,.ptr 1 1 0 0),(0,.ptr 0 2 0 0)])
   [rdO b s.q,.row 1 [[.nils]],.row 1 [[.p (.lst 3 (l.map Fd.cs))]],.row 3 [[.p (.str s.f.name),.p (aw s.f.params),.p (smL s.f.body)]]]:=λr1 f' q' rest P B e0 e2 e3 e4 hP hB hz' h3 h4=>
  ⟨⟨f',q'⟩,⟨hz',h3,h4⟩,dK 4 (by omega) (by simp) rfl (.same (bn _ _ _) (.same (by simp[okO,below]) (.same (by simp[okO,below]) (.one (.keep (by simp[below]) (.one hP (.one hB .nil))) (.nil _))))) (by
    simp only[FzA,e0,e2,e3,e4]
    exact⟨.keep (by simp[below]) .nil,.keep (by simp[below]) .nil,.keep (by simp[below]) .nil,.keep (by simp[below]) .nil,trivial⟩)⟩
 have hfsz:f.sz=1+f.name.length+(f.params.length+(f.params.map List.length).sum)+aD f.body:=rfl
 have hln:l.length<=4:=hlen.2
 have hbl:=cr f.body
 have hcs:f.cs=[.str f.name,aw f.params,smL f.body]:=rfl
 have hfl:fdL l= .lst 3 (l.map Fd.cs):=rfl
 have hw:IntKind.i64.wrap ((l.length:Int)-1)=(n:Int):=by rw[ab (by omega) (by omega)];omega
 have hsl:aw f.params= .lst 1 (f.params.map λw=>[.str w]):=rfl
 have hml:smL f.body= .lst 5 (f.body.map Sm.cs):=rfl
 simp-implicitDefEqProofs[aa,hfl,hw,hg,hcs]
 refine yy (λ_:CfS=>ah 145 [(4,.ptr 3 3 0 0),(3,.ptr 2 1 0 0),(2,.ptr 1 1 0 0),(0,.ptr 0 2 0 0)]) (λs=>[rdO b s.q,.row 1 [[.nils]],.row 1 [[.p (.lst 3 (l.map Fd.cs))]],.row 3 [[.p (.str s.f.name),.p (aw s.f.params),.p (smL s.f.body)]]])
  (λs=>s.f.sz<=300000000/\q<=s.q/\s.q<=q+100000) ?_ ?_
 rotate_left
 ·rintro⟨f',q'⟩ ⟨h3,h4,h5⟩
  simp only at h3 h4 h5
  simp-implicitDefEqProofs[hw,hnl,hfe,hcs]
  exact⟨⟨by omega,by omega⟩,_,_,q',.agg [.p (fdL (l.set n f'))],rfl,rfl,.agg (.one (IM (f:=f') rfl hnl (.p _) (.p _) rfl) .nil) .nil,⟨_,rfl,by have:=ET l n f';omega⟩,by omega,by omega⟩
 simp-implicitDefEqProofs[]
 refine(aU G b hb hl q (by omega) 32 _).mono ?_
 rintro r h ⟨k,rfl,rfl,_⟩
 by_cases k0:k=0
 ·subst k0
  simp-implicitDefEqProofs[aa]
  refine(DO G hb hl (p:=q+1) (by omega) [[102],[100,111],[],[103]] (k:=4) (by simp) (by simp) (by omega) rfl rfl).mono ?_
  rintro r h ⟨s,hs,rfl,rfl⟩
  have hs8:s.length<=8:=by simp at hs;rcases hs with rfl|rfl|rfl|rfl<;>simp
  simp-implicitDefEqProofs[aa]
  exact fin _ ⟨s,f.params,f.body⟩ _ _ _ _ (by simp) (by simp) (by simp) (by simp) (.p _) (.p _) (by simp only[Fd.sz];omega) (by omega) (by omega)
 by_cases k1:k=1
 ·subst k1
  simp-implicitDefEqProofs[aa,hsl]
  refine⟨⟨by omega,by omega⟩,?_⟩
  refine(DO G hb hl (p:=q+1) (by omega) [[97],[120],[105,102]] (k:=6) (by simp) (by simp) (by omega) rfl rfl).mono ?_
  rintro r h ⟨s,hs,rfl,rfl⟩
  have hs8:s.length<=8:=by simp at hs;rcases hs with rfl|rfl|rfl<;>simp
  simp-implicitDefEqProofs[aa]
  refine⟨⟨by omega,by omega⟩,?_⟩
  exact fin _ ⟨f.name,f.params++[s],f.body⟩ _ _ _ _ (by simp) (by simp) (by simp) (by simp) (Je rfl) (.p _) (by simp[Fd.sz];omega) (by omega) (by omega)
 by_cases k2:k=2
 ·subst k2
  simp-implicitDefEqProofs[aa,hml]
  refine⟨⟨by omega,by omega⟩,?_⟩
  refine(jC G (Mz G hb hl (p:=q+1) (by omega)) _ (by simp[below])).mono ?_
  rintro r h ⟨v,q2,rfl,rfl,⟨e,rfl,he⟩,h3,h4⟩
  have hec:=e.cs_eq
  simp-implicitDefEqProofs[aa,hec]
  refine⟨⟨by omega,by omega⟩,?_⟩
  exact fin _ ⟨f.name,f.params,f.body++[⟨3,[],[e],[],[]⟩]⟩ _ _ _ _ (by simp) (by simp) (by simp) (by simp) (.p _) (tg rfl (bV (dN (l:=[e]) (by rw[VS,hec];rfl)) (View.nils 5) (View.nils 5))) (by simp[Fd.sz,bC,aD,Sm.sz,bq];omega) (by omega) (by omega)
 by_cases k3:k=3
 ·subst k3
  simp-implicitDefEqProofs[aa,hml]
  refine⟨⟨by omega,by omega⟩,?_⟩
  refine(aU G b hb hl (q+1) (by omega) 10 _).mono ?_
  rintro r h ⟨o,rfl,rfl,_⟩
  simp-implicitDefEqProofs[aa]
  refine(DO G hb hl (p:=q+1+1) (by omega) [[],[97],[122,122]] (k:=6) (by simp) (by simp) (by omega) rfl rfl).mono ?_
  rintro r h ⟨s,hs,rfl,rfl⟩
  have hs8:s.length<=8:=by simp at hs;rcases hs with rfl|rfl|rfl<;>simp
  simp-implicitDefEqProofs[aa]
  refine(yL G (CA G hb hl (d:=1) (by omega) (p:=q+1+1+1) (by omega)) _ (by simp[below])).mono ?_
  rintro r h ⟨e,q2,rfl,rfl,he,h3,h4⟩
  simp-implicitDefEqProofs[aa]
  refine⟨⟨by omega,by omega⟩,?_⟩
  obtain⟨eo,en,es,ek⟩:=e
  exact fin _ ⟨f.name,f.params,f.body++[⟨o,s,[⟨eo,en,es,ek⟩],[],[]⟩]⟩ _ _ _ _ (by simp) (by simp) (by simp) (by simp) (.p _) (tg rfl (bV (bs (p0:=(Ex.mk eo en es ek).cs) rfl (Ex.cs_len _) (iu (iz rfl))) (View.nils 5) (View.nils 5))) (by simp[Fd.sz,bC,aD,Sm.sz,bq];omega) (by omega) (by omega)
 by_cases k5:k=5
 ·subst k5
  simp-implicitDefEqProofs[aa]
  exact⟨_,_,q+1,.agg [.p (fdL [])],rfl,rfl,.agg (.one (View.nils 3) .nil) .nil,⟨[],rfl,by simp[aN]⟩,by omega,by omega⟩
 by_cases k7:k=7
 ·subst k7
  simp-implicitDefEqProofs[aa,hfl]
  have hl0:0<l.length:=by omega
  have hf0:=Cn (Ve hl0)
  obtain⟨f0,hg0,hf0⟩:∃f0,l[0]?=some f0/\f0.sz<=aN l:=⟨_,UO hl0,hf0⟩
  have hc0:f0.cs=[.str f0.name,aw f0.params,smL f0.body]:=rfl
  have hfa:aN (l++[f0])=aN l+f0.sz:=by rw[nh];simp[aN]
  simp-implicitDefEqProofs[hg0,hc0]
  exact⟨⟨by omega,by omega⟩,⟨by omega,by omega⟩,_,_,q+1,.agg [.p (fdL (l++[f0]))],rfl,rfl,.agg (.one (Mm rfl) .nil) .nil,⟨_,rfl,by omega⟩,by omega,by omega⟩
 by_cases k4:k=4
 ·subst k4
  simp-implicitDefEqProofs[aa]
  refine yy (λ_:NsS=>ah 145 [(5,.ptr 5 5 0 0),(4,.ptr 3 3 0 0),(3,.ptr 2 1 0 0),(2,.ptr 1 1 0 0),(0,.ptr 0 2 0 0)])
   (λa=>[rdO b a.q,.row 1 [[.nils]],.row 1 [[.p (.lst 3 (l.map Fd.cs))]],.row 3 [[.p (.str f.name),.p (aw f.params),.p (smL f.body)]],.dead,.row 5 [[.p (.int .i64 a.o),.p (.str a.w),.p a.A,.p a.B,.p a.C]]])
   (λa=>(∃s:Sm,s.cs=[.int .i64 a.o,.str a.w,a.A,a.B,a.C]/\bq s.args<=1/\s.sz+2*a.i<=20)/\q+2<=a.q/\a.q+a.i<=q+10) ?_ ?_
  rotate_left
  ·rintro⟨i,o,w,A,B,C,q1⟩ ⟨⟨s,hse,j1,j2⟩,j3,j4⟩
   simp only at hse j1 j2 j3 j4
   have hss:∀(h:List AO) (id:Nat),h[id]?=some (.row 5 (List.take f.body.length (smR f.body)++[[.p (.int .i64 o),.p (.str w),.p A,.p B,.p C]]))->View h (.sl id 5 0 (f.body.length+1)) (smL (f.body++[s])):=λh id e=>tg e (λj q a a1 a2=>sy (e:=[.int .i64 o,.str w,A,B,C]) (hse▸a1) a2)
   simp-implicitDefEqProofs[hml]
   refine⟨⟨by omega,by omega⟩,⟨by omega,by omega⟩,?_⟩
   exact fin _ ⟨f.name,f.params,f.body++[s]⟩ _ _ _ _ (by simp) (by simp) (by simp) (by simp) (.p _) (hss _ _ rfl) (by simp[Fd.sz,bC,aD];omega) (by omega) (by omega)
  simp-implicitDefEqProofs[]
  refine(aU G b hb hl (q+1) (by omega) 5 _).mono ?_
  rintro r h ⟨i0,rfl,rfl,hi0⟩
  simp-implicitDefEqProofs[aa]
  have hs0:(Sm.mk 6 [] [⟨1,0,[],[]⟩] [] []).cs=[.int .i64 6,.str [],exL [⟨1,0,[],[]⟩],smL [],smL []]:=Sm.cs_eq _
  refine aJ (λa:NsS=>ah 145 [(6,.p (.int .i64 a.i)),(5,.ptr 5 5 0 0),(4,.ptr 3 3 0 0),(3,.ptr 2 1 0 0),(2,.ptr 1 1 0 0),(0,.ptr 0 2 0 0)])
   (λa=>[rdO b a.q,.row 1 [[.nils]],.row 1 [[.p (.lst 3 (l.map Fd.cs))]],.row 3 [[.p (.str f.name),.p (aw f.params),.p (smL f.body)]],.dead,.row 5 [[.p (.int .i64 a.o),.p (.str a.w),.p a.A,.p a.B,.p a.C]]])
   (λa=>(∃s:Sm,s.cs=[.int .i64 a.o,.str a.w,a.A,a.B,a.C]/\bq s.args<=1/\s.sz+2*a.i<=20)/\q+2<=a.q/\a.q+a.i<=q+10) (λa=>a.i) ⟨i0,6,[],exL [⟨1,0,[],[]⟩],smL [],smL [],q+1+1⟩ ⟨⟨_,hs0,by simp[Sm.args,bq,Ex.sz],by simp[Sm.sz,bq,Ex.sz,aD];omega⟩,by simp only;omega,by simp only;omega⟩ ?_ ?_
  ·refine ti (hX:=[.dead,.dead,.dead,.dead,.row 4 [[.p (.int .i64 1),.p (.int .i64 0),.p (.str []),.nils]],.dead]) (by simp)
    (.same (bn _ _ _) (.same (by simp[okO,below]) (.same (by simp[okO,below]) (.same (by simp[okO,below]) (.give (.one ?_ .nil)))))) ?_
   ·exact .keep (by simp[below]) (.keep (by simp[below]) (.one (bs (p0:=(Ex.mk 1 0 [] []).cs) rfl (Ex.cs_len _) (iu (View.nils 4))) (.one (View.nils 5) (.one (View.nils 5) .nil))))
   ·exact⟨.keep (by simp[below]) .nil,.keep (by simp[below]) .nil,.keep (by simp[below]) .nil,.keep (by simp[below]) .nil,.keep (by simp[below]) .nil,.keep (by simp[below]) .nil,trivial⟩
  rintro⟨i,o,w,A,B,C,q1⟩ ⟨⟨s,hse,j1,j2⟩,j3,j4⟩
  simp only at hse j1 j2 j3 j4
  have hcs1:∀n:Int,(Sm.mk n [] s.args [s] []).cs=[.int .i64 n,.str [],A,.lst 5 [[.int .i64 o,.str w,A,B,C]],.lst 5 []]:=λn=>by
   have hsa:=s.cs_eq
   rw[hse] at hsa
   simp only[List.cons.injEq] at hsa
   rw[Sm.cs_eq];simp only[Sm.op,Sm.name,Sm.args,Sm.body,Sm.els];rw[←hse,hsa.2.2.1];rfl
  have hsz:∀n:Int,(Sm.mk n [] s.args [s] []).sz=1+bq s.args+s.sz:=λn=>by simp[Sm.sz,aD]
  simp-implicitDefEqProofs[]
  refine aY (λhc=>?_) (λhc=>?_)
  ·simp at hc
   simp-implicitDefEqProofs[]
   refine(FT G hb hl (p:=q1) (by omega) [5,6] (by simp) (by simp) _).mono ?_
   rintro r h ⟨n1,_,rfl,rfl⟩
   have hwk:IntKind.i64.wrap ((i:Int)-1)=((i-1:Nat):Int):=by rw[ab (by omega) (by omega)];omega
   simp-implicitDefEqProofs[aa]
   refine⟨⟨i-1,n1,[],A,.lst 5 [[.int .i64 o,.str w,A,B,C]],.lst 5 [],q1+1⟩,⟨⟨_,hcs1 n1,j1,by simp only[hsz];omega⟩,by simp only;omega,by simp only;omega⟩,by simp only;omega,?_⟩
   refine ti (hX:=[.dead,.dead,.dead,.dead,.dead,.dead]) (by simp) (.same (bn _ _ _) (.same (by simp[okO,below]) (.same (by simp[okO,below]) (.same (by simp[okO,below]) (.drop (.one (.keep (by simp[below]) (.keep (by simp[below]) (.keep (by simp[below]) (.keep (by simp[below]) (.one (View.nils 5) .nil))))) .nil)))))) ?_
   simp only[hwk]
   exact⟨.keep (by simp[below]) .nil,.keep (by simp[below]) .nil,.keep (by simp[below]) .nil,.keep (by simp[below]) .nil,.keep (by simp[below]) .nil,.keep (by simp[below]) .nil,trivial⟩
  ·simp at hc
   exact⟨⟨i,o,w,A,B,C,q1⟩,⟨⟨s,hse,j1,j2⟩,j3,j4⟩,gQ (m:=6) (by simp) (dB rfl rfl (aj (bn _ _ _) (aj (by simp[okO,below]) (aj (by simp[okO,below]) (aj (by simp[okO,below]) (aj (by simp[okO]) (aj (by simp[okO,below]) fX))))))) (by simp[below])⟩
 by_cases k6:k=6
 ·subst k6
  simp-implicitDefEqProofs[aa]
  refine(ma G hb hl (p:=q+1) (by omega) [20,40,41] (k:=4) (by simp) (by simp) (by omega) rfl rfl).mono ?_
  rintro r h ⟨i0,hi0,rfl,rfl⟩
  obtain⟨i,rfl,hi⟩:∃J:Nat,i0=J/\J<=41:=⟨i0.toNat,by simp at hi0;omega,by simp at hi0;omega⟩
  simp-implicitDefEqProofs[aa]
  refine aJ (λa:BdS=>ah 145 [(7,.p (.int .i64 a.i)),(4,.ptr 3 3 0 0),(3,.ptr 2 1 0 0),(2,.ptr 1 1 0 0),(0,.ptr 0 2 0 0)])
   (λa=>[rdO b (q+1+1),.row 1 [[.nils]],.row 1 [[.p (.lst 3 (l.map Fd.cs))]],.row 3 [[.p (.str f.name),.p (aw f.params),.p (smL a.bd)]]])
   (λa=>a.i<=41/\aD a.bd+10*a.i<=aD f.body+500) (λa=>a.i) ⟨i,f.body⟩ ⟨hi,by simp only;omega⟩ ?_ ?_
  ·exact gQ (m:=4) (by simp) (dB rfl rfl (aj (bn _ _ _) (aj (by simp[okO,below]) (aj (by simp[okO,below]) (aj (by simp[okO,below]) fX))))) (by simp[below])
  rintro⟨i1,bd⟩ ⟨j1,j2⟩
  simp only at j1 j2
  have hbl2:=cr bd
  have hml2:smL bd= .lst 5 (bd.map Sm.cs):=rfl
  simp-implicitDefEqProofs[hml2]
  refine aY (λhc=>?_) (λhc=>?_)
  ·simp at hc
   have hwk:IntKind.i64.wrap ((i1:Int)-1)=((i1-1:Nat):Int):=by rw[ab (by omega) (by omega)];omega
   simp-implicitDefEqProofs[hml2]
   refine⟨⟨by omega,by omega⟩,⟨by omega,by omega⟩,⟨i1-1,bd++[⟨3,[],[⟨1,i1,[],[]⟩],[],[]⟩]⟩,⟨by simp only;omega,by simp[bC,aD,Sm.sz,bq,Ex.sz];omega⟩,by simp only;omega,?_⟩
   refine dK 4 (by omega) (by simp) rfl (.same (bn _ _ _) (.same (by simp[okO,below]) (.same (by simp[okO,below]) (.one (.keep (by simp[below]) (.keep (by simp[below]) (.one (tg rfl (bV (bs (p0:=(Ex.mk 1 i1 [] []).cs) rfl (Ex.cs_len _) (iu (View.nils 4))) (View.nils 5) (View.nils 5))) .nil))) (.nil _))))) ?_
   simp only[hwk]
   exact⟨.keep (by simp[below]) .nil,.keep (by simp[below]) .nil,.keep (by simp[below]) .nil,.keep (by simp[below]) .nil,.keep (by simp[below]) .nil,trivial⟩
  ·simp at hc
   exact fin _ ⟨f.name,f.params,bd⟩ _ _ _ _ (by simp) (by simp) (by simp) (by simp) (.p _) (.p _) (by simp[Fd.sz];omega) (by omega) (by omega)
 have c1:¬(k:Int)=1:=by omega
 have c2:¬(k:Int)=2:=by omega
 have c3:¬(k:Int)=3:=by omega
 have c4:¬(k:Int)=4:=by omega
 have c5:¬(k:Int)=5:=by omega
 have c6:¬(k:Int)=6:=by omega
 have c7:¬(k:Int)=7:=by omega
 simp-implicitDefEqProofs[aa,k0,c1,c2,c3,c4,c5,c6,c7]
 exact fin _ ⟨f.name,f.params,f.body⟩ _ _ _ _ (by simp) (by simp) (by simp) (by simp) (.p _) (.p _) (by simp only[Fd.sz];omega) (by omega) (by omega)
end
section
variable (G:al)
def PshF(s:Bool)(sz:Nat)(D:List (List PV))(h0:List AO)(a:PshS):Prop:=a.i<=D.length/\h0.length<=a.id/\h0.length<=a.h.length/\(∀j,j<h0.length->a.h[j]?=h0[j]?)/\∃rows J,RowOwn s a.h a.id sz rows (D.take a.i) J/\∀j∈J,h0.length<=j
theorem zX{h h2:List AO}(hl:h.length<=h2.length)(hf:∀j,j<h.length->h2[j]?=h[j]?):h2=h++h2.drop h.length:=by
 have e:h2.take h.length=h:=by
  apply List.ext_getElem?
  intro j
  by_cases hj:j<h.length
  ·rw[List.getElem?_take_of_lt hj];exact hf j hj
  ·rw[Vz (by rw[Vl];omega),Vz (by omega)]
 have e2:=VH h.length h2
 rw[e] at e2
 exact e2.symm
theorem PshF.init{s:Bool}{sz:Nat}{D:List (List PV)}(h0 os:List AO):PshF s sz D h0 ⟨0,h0.length,h0++ .row sz []::os⟩:=
 ⟨VQ _,Vb _,by simp,λj hj=>UN hj,[],[],⟨by simp,rfl,λ_ h=>(by cases h),λ_ h=>(by cases h),.nil,by simp⟩,λj hj=>by cases hj⟩
theorem PshF.step{s:Bool}{sz i id:Nat}{D:List (List PV)}{h0 h:List AO}(H:PshF s sz D h0 ⟨i,id,h⟩){e:List PV}(hi:D[i]?=some e){h2:List AO}(hl:h.length<=h2.length)(hf:∀j,j<h.length->h2[j]?=h[j]?){r':List AV}{I2:List Nat}(ho:OwnL s h2 r' e I2)(nd2:I2.Nodup)(hn:∀j∈I2,h.length<=j)(he:e.length=sz):
 ∃rows,(∀os,(h2++os)[id]?=some (.row sz rows))/\rows.length=i/\i<D.length/\id<h2.length/\∀os1 os2,PshF s sz D h0 ⟨i+1,(h2++os1).length,(h2++os1).set id .dead++ .row sz (rows++[r'])::os2⟩:=by
 obtain⟨h1,h3,h4,h5,rows,J,hr,hJ⟩:=H
 have hil:i<D.length:=(UL.1 hi).1
 have hlen:=hr.len
 simp only at h1 h3 h4 h5 hlen hr
 rw[Vl,Nat.min_eq_left h1] at hlen
 have e2:=zX hl hf
 have hid:=hr.lt
 have h2e:h2[id]?=some (.row sz rows):=by rw[hf id hid];exact hr.here
 refine⟨rows,λos=>by rw[UN (by omega)];exact h2e,hlen,hil,by omega,λos1 os2=>⟨hil,by simp only[Va];omega,by simp;omega,λj hj=>?_,rows++[r'],J++I2,?_,λj hj=>?_⟩⟩
 ·simp only
  rw[UN (by simp only[Vr,Va,Vh];omega),UM (by omega),UN (by omega),hf j (by omega)]
  exact h5 j hj
 ·have hp:=(hr.push (h2:=h2++os1) (os:=h2.drop h.length++os1) (by rw[←Vt,←e2]) (ho.more os1) nd2 hn he).more os2
  have hd:D.take i++[e]=D.take (i+1):=by rw[List.take_add_one,hi];rfl
  rw[hd,Vt] at hp
  exact hp
 ·rcases UW.1 hj with hj|hj
  ·exact hJ j hj
  ·have:=hn j hj;omega
theorem PshF.done{s:Bool}{sz i id:Nat}{D:List (List PV)}{h0 h:List AO}(H:PshF s sz D h0 ⟨i,id,h⟩)(hi:D.length<=i):h0.length<=h.length/\(∀j,j<h0.length->h[j]?=h0[j]?)/\∃I,OwnL s h [.sl id sz 0 i] [.lst sz D] I/\I.Nodup/\∀j∈I,h0.length<=j:=by
 obtain⟨h1,h3,h4,h5,rows,J,hr,hJ⟩:=H
 simp only at h1 h3 h4 h5 hr
 rw[US hi] at hr
 exact⟨h4,h5,id::J,hr.tree (by omega),hr.nd,λj hj=>by
  rcases UX.1 hj with rfl|hj
  ·exact h3
  ·exact hJ j hj⟩
theorem EU{s:Bool}{n:Nat}{h1 os:List AO}{a b:List AV}{c d:List PV}{I1 I2:List Nat}(H1:OwnL s h1 a c I1)(n1:I1.Nodup)(f1:∀i∈I1,n<=i)(H2:OwnL s (h1++os) b d I2)(n2:I2.Nodup)(f2:∀i∈I2,h1.length<=i)(hn:n<=h1.length):
 OwnL s (h1++os) (a++b) (c++d) (I1++I2)/\(I1++I2).Nodup/\∀i∈I1++I2,n<=i:=by
 refine⟨(H1.more os).app H2,?_,λi hi=>?_⟩
 ·rw[List.nodup_append]
  refine⟨n1,n2,λa ha b hb e=>?_⟩
  have:=H1.lt ha;have:=f2 b hb;omega
 ·rcases UW.1 hi with hi|hi
  ·exact f1 i hi
  ·have:=f2 i hi;omega
theorem Aa{α:Type}(l:List α)(a b:α):(l++[a]).set l.length b=l++[b]:=by
 rw[List.set_append_right _ _ (Vb _),Nat.sub_self];rfl
theorem Ot{h:List AO}{s:Sm}{A B E:AV}{I:List Nat}(H:OwnL true h ([A]++[B]++[E]) ([exL s.args]++[smL s.body]++[smL s.els]) I):OwnL true h [.p (.int .i64 s.op),.p (.str s.name),A,B,E] s.cs I:=by
 rw[s.cs_eq]
 exact .p _ (λ_=>rfl) (.p _ (λ_=>rfl) H)
theorem ky{s:Bool}{h:List AO}{v:AV}{q:PV}{I:List Nat}(H:OwnL s h [v] [q] I):(∃q',v= .p q')\/v= .nils\/∃a b n,v= .sl a b 0 n:=by
 cases H with
 |p q=>exact .inl ⟨_,rfl⟩
 |nils=>exact .inr (.inl rfl)
 |sl id sz n=>exact .inr (.inr ⟨_,_,_,rfl⟩)
theorem NL{s:Bool}{h:List AO}{e:Ex}{K:AV}{I:List Nat}(H:OwnL s h [K] [exL e.kids] I):OwnL s h [.p (.int .i64 e.op),.p (.int .i64 e.n),.p (.str e.name),K] e.cs I:=by
 rw[e.cs_eq]
 exact .p _ (λ_=>rfl) (.p _ (λ_=>rfl) (.p _ (λ_=>rfl) H))
theorem Ly:∀(N:Nat) (e:Ex),e.sz<=N->e.sz<=1073741824->AC Tryz.prog G ji [.agg (e.cs.map .p)] [] (MkW .agg true e.cs):=by
 intro N
 induction N with
 |zero=>intro e he;have:=e.sz_eq;omega
 |succ N ih=>
  intro e he hb
  have hsz:=e.sz_eq
  have hkl:=bB e.kids
  refine AC.go By ?_
  have hec:=e.cs_eq
  have hsl:exL e.kids= .lst 4 (e.kids.map Ex.cs):=rfl
  simp-implicitDefEqProofs[sg,hec,hsl]
  obtain⟨hb0,ehb⟩:∃hb0:List AO,hb0=[.row 4 [[.p (.int .i64 e.op),.p (.int .i64 e.n),.p (.str e.name),.p (.lst 4 (e.kids.map Ex.cs))]],.row 4 [[.p (.int .i64 0),.p (.int .i64 0),.p (.str []),.nils]]]:=⟨_,rfl⟩
  have hini:PshF true 4 (e.kids.map Ex.cs) hb0 ⟨0,2,[.row 4 [[.p (.int .i64 e.op),.p (.int .i64 e.n),.p (.str e.name),.p (.lst 4 (e.kids.map Ex.cs))]],.row 4 [[.p (.int .i64 0),.p (.int .i64 0),.p (.str []),.nils]],.row 4 []]⟩:=by
   rw[ehb];exact PshF.init _ []
  refine aJ (λa:PshS=>ah 25 [(4,.p (.int .i64 a.i)),(3,.sl a.id 4 0 a.i),(2,.ptr 1 4 0 0),(1,.ptr 0 4 0 0)]) (λa=>a.h) (PshF true 4 (e.kids.map Ex.cs) hb0) (λa=>e.kids.length-a.i) _ hini ?_ ?_
  ·exact aW (by simp) (by simp[below])
  rintro⟨i,id,h'⟩ hJ
  have hl0:hb0.length=2:=by rw[ehb];rfl
  have g0:h'[0]?=some (.row 4 [[.p (.int .i64 e.op),.p (.int .i64 e.n),.p (.str e.name),.p (.lst 4 (e.kids.map Ex.cs))]]):=by rw[hJ.2.2.2.1 0 (by omega),ehb];rfl
  have g1:h'[1]?=some (.row 4 [[.p (.int .i64 0),.p (.int .i64 0),.p (.str []),.nils]]):=by rw[hJ.2.2.2.1 1 (by omega),ehb];rfl
  have hl2:2<=h'.length:=by have:=hJ.2.2.1;simp only at this;omega
  simp-implicitDefEqProofs[g0]
  refine aY (λh1=>?_) (λh1=>?_)
  ·simp at h1
   have hg:=UO h1
   have hm:=bQ (Ve h1)
   have hH:=ih e.kids[i] (by omega) (by omega)
   have hcs:=e.kids[i].cs_eq
   have hDa:(e.kids.map Ex.cs)[i]?=some e.kids[i].cs:=by rw[UZ,hg];rfl
   generalize e.kids[i]=k at hg hH hcs hDa
   have hA:=AC.mkLift CS hH (h:=h') (by rw[hcs];simp)
   rw[hcs] at hA
   simp-implicitDefEqProofs[g0,hg,hcs]
   refine hA.mono ?_
   rintro r h2 ⟨vs,I2,os,rfl,e2,ho,nd,hf⟩
   rw[←hcs] at ho
   obtain⟨rows,k1,k2,k3,k4,k5⟩:=hJ.step hDa (h2:=h2) (by rw[e2];simp) (λx hx=>by rw[e2,UN hx]) ho nd hf k.cs_len
   obtain⟨K,rfl,hK⟩:=GR ho
   have hwi:=w1 (i:=i) (by omega)
   rcases ky hK with⟨q1,rfl⟩|rfl|⟨x1,x2,x3,rfl⟩
   ·have k6:=k5 [.row 4 [[.p (.int .i64 k.op),.p (.int .i64 k.n),.p (.str k.name),.p q1]]] []
    simp-implicitDefEqProofs[aa,k1,k2]
    rw[US (l:=rows) (i:=i) (by omega)]
    refine⟨⟨by omega,by omega⟩,_,k6,by simp only;omega,aW (by simp) ?_⟩
    simp[below,hwi]
   ·have k6:=k5 [.row 4 [[.p (.int .i64 k.op),.p (.int .i64 k.n),.p (.str k.name),.nils]]] []
    simp-implicitDefEqProofs[aa,k1,k2]
    rw[US (l:=rows) (i:=i) (by omega)]
    refine⟨⟨by omega,by omega⟩,_,k6,by simp only;omega,aW (by simp) ?_⟩
    simp[below,hwi]
   ·have k6:=k5 [.row 4 [[.p (.int .i64 k.op),.p (.int .i64 k.n),.p (.str k.name),.sl x1 x2 0 x3]]] []
    simp-implicitDefEqProofs[aa,k1,k2]
    rw[US (l:=rows) (i:=i) (by omega)]
    refine⟨⟨by omega,by omega⟩,_,k6,by simp only;omega,aW (by simp) ?_⟩
    simp[below,hwi]
  ·simp at h1
   have hie:i=e.kids.length:=by have:=hJ.1;simp at this;omega
   obtain⟨d1,d2,I,ho,nd,hI⟩:=hJ.done (by simpa using h1)
   subst hie
   have hn0:0∉I:=λhm=>by have:=hI 0 hm;omega
   have hn1:1∉I:=λhm=>by have:=hI 1 hm;omega
   have s0:∀x,(h'.set 0 x)[0]?=some x:=λx=>UQ (by omega)
   have s1:∀x,(h'.set 0 x)[1]?=some (.row 4 [[.p (.int .i64 0),.p (.int .i64 0),.p (.str []),.nils]]):=λx=>by rw[UM (by omega)];exact g1
   have s2:∀x y,((h'.set 0 x).set 1 y)[1]?=some y:=λx y=>UQ (by rw[Vr];omega)
   simp-implicitDefEqProofs[g0,g1,s0,s1,s2]
   rw[←hsl,←hec]
   exact⟨_,I,rfl,NL ((ho.set_out hn0 _).set_out hn1 _),nd⟩
theorem Ca:∀(N:Nat) (l:List Sm),aD l<N->aD l<=1073741824->AC Tryz.prog G dy [.p (smL l)] [] (MkW dg true [smL l]):=by
 intro N
 induction N with
 |zero=>intro l he;omega
 |succ N ih=>
  intro l hN hz
  have hsl:∀l,smL l= .lst 5 (l.map Sm.cs):=λ_=>rfl
  have hll:=cr l
  refine AC.go Ac ?_
  simp-implicitDefEqProofs[pk,hsl]
  refine aJ (λa:PshS=>ah 52 [(4,.p (.int .i64 a.i)),(3,.sl a.id 5 0 a.i),(0,.p (smL l))]) (λa=>a.h) (PshF true 5 (l.map Sm.cs) []) (λa=>l.length-a.i) ⟨0,0,[.row 5 []]⟩ (PshF.init [] []) ?_ ?_
  ·exact aW (by simp) (by simp[below,hsl])
  rintro⟨i,id,hh⟩ hI
  simp-implicitDefEqProofs[hsl]
  refine aY (λh1=>?_) (λh1=>?_)
  ·simp at h1
   have hg:=UO h1
   have hm:=dP (Ve h1)
   have hcs:=l[i].cs_eq
   have hse:=l[i].sz_eq
   have hD:(l.map Sm.cs)[i]?=some l[i].cs:=by rw[UZ,hg];rfl
   generalize l[i]=s at hg hm hcs hse hD
   simp-implicitDefEqProofs[hg,hcs,Aa]
   have hid:id<hh.length:=by obtain⟨_,_,_,_,_,_,hr,_⟩:=hI;exact hr.lt
   have hal:=bB s.args
   have hxl:exL s.args= .lst 4 (s.args.map Ex.cs):=rfl
   obtain⟨hb,ehb⟩:∃hb,hb=hh++[AO.row 5 [[.p (.int .i64 s.op),.p (.str s.name),.p (exL s.args),.p (smL s.body),.p (smL s.els)]]]:=⟨_,rfl⟩
   have hbl:hb.length=hh.length+1:=by rw[ehb];simp
   have hbx:hb[hh.length]?=some (.row 5 [[.p (.int .i64 s.op),.p (.str s.name),.p (exL s.args),.p (smL s.body),.p (smL s.els)]]):=by rw[ehb];simp
   have hini:PshF true 4 (s.args.map Ex.cs) hb ⟨0,hh.length+1,hh++[AO.row 5 [[.p (.int .i64 s.op),.p (.str s.name),.p (exL s.args),.p (smL s.body),.p (smL s.els)]],.row 4 []]⟩:=by
    have:=PshF.init (s:=true) (sz:=4) (D:=s.args.map Ex.cs) hb []
    rw[hbl,ehb,Vt] at this
    rw[ehb];exact this
   refine aJ (λa:PshS=>ah 52 [(7,.p (.int .i64 a.i)),(6,.sl a.id 4 0 a.i),(5,.ptr hh.length 5 0 0),(4,.p (.int .i64 i)),(3,.sl id 5 0 i),(0,.p (smL l))]) (λa=>a.h) (PshF true 4 (s.args.map Ex.cs) hb) (λa=>s.args.length-a.i) _ hini ?_ ?_
   ·refine aW (by simp) ?_
    simp[below,hsl]
    omega
   rintro⟨j,id2,h'⟩ hJ
   have hjb:h'[hh.length]?=some (.row 5 [[.p (.int .i64 s.op),.p (.str s.name),.p (exL s.args),.p (smL s.body),.p (smL s.els)]]):=by
    rw[hJ.2.2.2.1 _ (by omega)];exact hbx
   have hlb:hh.length+1<=h'.length:=by have:=hJ.2.2.1;simp only at this;omega
   simp-implicitDefEqProofs[hjb,hxl]
   refine aY (λh2=>?_) (λh2=>?_)
   ·simp at h2
    have hga:=UO h2
    have hma:=bQ (Ve h2)
    have hC:=Ly G _ s.args[j] (Vb _) (by omega)
    have hka:=s.args[j].cs_eq
    have hDa:(s.args.map Ex.cs)[j]?=some s.args[j].cs:=by rw[UZ,hga];rfl
    generalize s.args[j]=e at hga hma hC hka hDa
    have hA:=AC.mkLift CS hC (h:=h') (by rw[hka];simp)
    rw[hka] at hA
    simp-implicitDefEqProofs[hjb,hga,hka,hxl]
    refine hA.mono ?_
    rintro r h2 ⟨vs,I2,os,rfl,e2,ho,nd,hf⟩
    rw[←hka] at ho
    obtain⟨rows,k1,k2,k3,k4,k5⟩:=hJ.step hDa (h2:=h2) (by rw[e2];simp) (λx hx=>by rw[e2,UN hx]) ho nd hf e.cs_len
    obtain⟨K,rfl,hK⟩:=GR ho
    have hwj:=w1 (i:=j) (by omega)
    have hl2:h'.length<=h2.length:=by rw[e2];simp
    rcases ky hK with⟨q1,rfl⟩|rfl|⟨x1,x2,x3,rfl⟩
    ·have k6:=k5 [.row 4 [[.p (.int .i64 e.op),.p (.int .i64 e.n),.p (.str e.name),.p q1]]] []
     simp-implicitDefEqProofs[aa,k1,k2]
     rw[US (l:=rows) (i:=j) (by omega)]
     refine⟨⟨by omega,by omega⟩,_,k6,by simp only;omega,aW (by simp) ?_⟩
     simp[below,hsl,hwj]
     omega
    ·have k6:=k5 [.row 4 [[.p (.int .i64 e.op),.p (.int .i64 e.n),.p (.str e.name),.nils]]] []
     simp-implicitDefEqProofs[aa,k1,k2]
     rw[US (l:=rows) (i:=j) (by omega)]
     refine⟨⟨by omega,by omega⟩,_,k6,by simp only;omega,aW (by simp) ?_⟩
     simp[below,hsl,hwj]
     omega
    ·have k6:=k5 [.row 4 [[.p (.int .i64 e.op),.p (.int .i64 e.n),.p (.str e.name),.sl x1 x2 0 x3]]] []
     simp-implicitDefEqProofs[aa,k1,k2]
     rw[US (l:=rows) (i:=j) (by omega)]
     refine⟨⟨by omega,by omega⟩,_,k6,by simp only;omega,aW (by simp) ?_⟩
     simp[below,hsl,hwj]
     omega
   ·simp at h2
    have hjl:j=s.args.length:=by have:=hJ.1;simp at this;omega
    obtain⟨d1,d2,IA,oA,nA,fA⟩:=hJ.done (by simpa using h2)
    subst hjl
    have hB:=ih s.body (by omega) (by omega)
    have hE:=ih s.els (by omega) (by omega)
    simp-implicitDefEqProofs[hjb]
    refine(AC.mkLift nS hB (h:=h') (by simp)).mono ?_
    rintro r h3 ⟨vB,IB,o1,rfl,e3,oB,nB,fB⟩
    obtain⟨B,rfl⟩:=eE oB
    have hjb3:h3[hh.length]?=some (.row 5 [[.p (.int .i64 s.op),.p (.str s.name),.p (exL s.args),.p (smL s.body),.p (smL s.els)]]):=by
     rw[e3,UN (by omega)];exact hjb
    simp-implicitDefEqProofs[aa,dg,hjb3]
    refine(AC.mkLift nS hE (h:=h3) (by simp)).mono ?_
    rintro r h4 ⟨vE,IE,o2,rfl,e4,oE,nE,fE⟩
    obtain⟨E,rfl⟩:=eE oE
    have hjb4:h4[hh.length]?=some (.row 5 [[.p (.int .i64 s.op),.p (.str s.name),.p (exL s.args),.p (smL s.body),.p (smL s.els)]]):=by
     have:hh.length<h3.length:=(UL.1 hjb3).1
     rw[e4,UN this];exact hjb3
    have cB:=ky oB
    have cE:=ky oE
    obtain⟨a1,a2,a3⟩:=EU oA nA fA (by rw[←e3];exact oB) nB fB d1
    rw[←e3] at a1
    obtain⟨b1,b2,b3⟩:=EU a1 a2 a3 (by rw[←e4];exact oE) nE fE (by rw[e3];simp;omega)
    rw[←e4] at b1
    have hS:=Ot (s:=s) b1
    obtain⟨rows,k1,k2,k3,k4,k5⟩:=hI.step hD (h2:=h4) (by rw[e4,e3];simp;omega) (λx hx=>by
     rw[e4,UN (by rw[e3];simp;omega),e3,UN (by omega),d2 x (by omega),ehb,UN hx]) hS b2 (λx hx=>by have:=b3 x hx;omega) s.cs_len
    have k6:=k5 [.row 5 [[.p (.int .i64 s.op),.p (.str s.name),.sl id2 4 0 s.args.length,B,E]]] []
    have hwi:=w1 (i:=i) (by omega)
    rcases cB with⟨q1,rfl⟩|rfl|⟨x1,x2,x3,rfl⟩<;>rcases cE with⟨q2,rfl⟩|rfl|⟨y1,y2,y3,rfl⟩<;>
    ·simp-implicitDefEqProofs[aa,dg,hjb4,k1,k2]
     rw[US (l:=rows) (i:=i) (by omega)]
     refine⟨⟨by omega,by omega⟩,_,k6,by simp only;omega,aW (by simp) ?_⟩
     simp[below,hsl,hwi]
  ·simp at h1
   obtain⟨_,_,I,ho,nd,_⟩:=hI.done (by simpa using h1)
   have hie:i=l.length:=by have:=hI.1;simp at this;omega
   subst hie
   simp-implicitDefEqProofs[]
   exact⟨_,I,rfl,ho,nd⟩
def cpK(a:PshS):AV:=if a.i=0 then .nils else .sl a.id 3 0 a.i
def CpI(l:List Fd)(a:PshS):Prop:=a.i<=l.length/\a.h[0]?=some (.row 1 [[.p (fdL l)]])/\a.h[1]?=some (.row 1 [[.nils]])/\a.h[2]?=some (.row 1 [[cpK a]])/\
 (0<a.i->3<=a.id/\∃rows J,RowOwn true a.h a.id 3 rows ((l.map Fd.cs).take a.i) J/\∀j∈J,3<=j)
theorem gw:∀l:List Fd,l.length<=aN l
 |[]=>Vb _
 |f::r=>by
  have:=gw r
  have h1:aN (f::r)=f.sz+aN r:=by simp[aN]
  have h2:f.sz=1+f.name.length+(f.params.length+(f.params.map List.length).sum)+aD f.body:=rfl
  simp only[Vh];omega
theorem EC{h:List AO}{id:Nat}{l:List (List UInt8)}(e:h[id]?=some (cD l)){n:Nat}(hn:n=l.length):OwnL true h [.sl id 1 0 n] [aw l] [id]:=by
 have hr:RowOwn true h id 1 (l.map λw=>[AV.p (.str w)]) (l.map λw=>[PV.str w]) []:=by
  refine⟨e,by simp,λx hx=>by obtain⟨w,_,rfl⟩:=Vi.1 hx;rfl,λx hx=>by obtain⟨w,_,rfl⟩:=Vi.1 hx;rfl,?_,by simp⟩
  clear e hn
  induction l with
  |nil=>exact .nil
  |cons w r ih=>exact .p _ (λ_=>rfl) ih
 exact hr.tree (by simpa using hn)
theorem Lj{h3:List AO}(hl:3<=h3.length){r:List AV}{f:Fd}{I2:List Nat}(ho:OwnL true h3 r f.cs I2)(nd:I2.Nodup)(hf:∀j∈I2,3<=j)(o x:AO):∃J,RowOwn true ((h3++[o,.row 3 [r]]).set 2 x) (h3.length+1) 3 [r] [f.cs] J/\∀j∈J,3<=j:=by
 have hr:r.length=3:=by rw[ho.len,Fd.cs_len]
 refine⟨I2,⟨?_,rfl,λe he=>by rw[UY.1 he];exact hr,λe he=>by rw[UY.1 he];exact Fd.cs_len f,?_,?_⟩,hf⟩
 ·rw[UM (by omega),UT (by omega),Vw];rfl
 ·have:=(ho.more [o,.row 3 [r]]).set_out (λhm=>by have:=hf 2 hm;omega:2∉I2) x
  simpa using this
 ·rw[VM]
  exact⟨λhm=>by have:=ho.lt hm;omega,nd⟩
theorem Nr{h h3:List AO}{id:Nat}{rows:List (List AV)}{D:List (List PV)}{J:List Nat}(H:RowOwn true h id 3 rows D J)(hJ:∀j∈J,3<=j)(hid:3<=id)(hh:3<=h.length)(e3:h3=h++h3.drop h.length){r:List AV}{f:Fd}{I2:List Nat}(ho:OwnL true h3 r f.cs I2)(nd:I2.Nodup)(hf:∀j∈I2,h.length<=j)(o x:AO):
 ∃J,RowOwn true (((h3++[o]).set id .dead++[AO.row 3 (rows++[r])]).set 2 x) (h3.length+1) 3 (rows++[r]) (D++[f.cs]) J/\∀j∈J,3<=j:=by
 have hp:=H.push (h2:=h3++[o]) (os:=h3.drop h.length++[o]) (by rw[←Vt,←e3]) (ho.more [o]) nd hf (Fd.cs_len f)
 have hl:(h3++[o]).length=h3.length+1:=by simp
 rw[hl] at hp
 have hl3:h.length<=h3.length:=by rw[e3];simp
 refine⟨J++I2,hp.frame λk hk=>?_,λj hj=>?_⟩
 ·have:3<=k:=by
   rcases UX.1 hk with rfl|hk
   ·omega
   ·rcases UW.1 hk with hk|hk
    ·exact hJ k hk
    ·have:=hf k hk;omega
  rw[UM (by omega)]
 ·rcases UW.1 hj with hj|hj
  ·exact hJ j hj
  ·have:=hf j hj;omega
theorem Km(l:List Fd)(hz:aN l<=1073741824):AC Tryz.prog G mD [.agg [.p (fdL l)]] [] (MkW .agg true [fdL l]):=by
 have hfl:∀l,fdL l= .lst 3 (l.map Fd.cs):=λ_=>rfl
 have hll:l.length<=aN l:=gw l
 refine AC.go Bw ?_
 simp-implicitDefEqProofs[rA,hfl]
 refine aJ (λa:PshS=>ah 35 [(4,.p (.int .i64 a.i)),(3,.ptr 2 1 0 0),(2,.ptr 1 1 0 0),(1,.ptr 0 1 0 0)]) (λa=>a.h) (CpI l) (λa=>l.length-a.i) ⟨0,0,[.row 1 [[.p (fdL l)]],.row 1 [[.nils]],.row 1 [[.nils]]]⟩ ⟨VQ _,rfl,rfl,rfl,λh=>by simp at h⟩ ?_ ?_
 ·exact aW (by simp) (by simp[below])
 rintro⟨i,id,h⟩ ⟨i1,i2,i3,i4,i5⟩
 simp only at i1 i2 i3 i4 i5
 have hl3:3<=h.length:=by have:=(UL.1 i4).1;omega
 have j2:∀os,(h++os)[0]?=some (.row 1 [[.p (fdL l)]]):=λos=>by rw[UN (by omega)];exact i2
 have j4:∀os,(h++os)[2]?=some (.row 1 [[cpK ⟨i,id,h⟩]]):=λos=>by rw[UN (by omega)];exact i4
 simp-implicitDefEqProofs[i2,hfl]
 refine aY (λh1=>?_) (λh1=>?_)
 ·simp at h1
  have hg:=UO h1
  have hm:=dD (Ve h1)
  have hD:(l.map Fd.cs)[i]?=some l[i].cs:=by rw[UZ,hg];rfl
  generalize l[i]=f at hg hm hD
  have hcs:f.cs=[.str f.name,aw f.params,smL f.body]:=rfl
  have hsp:aw f.params= .lst 1 (f.params.map λw=>[.str w]):=rfl
  have hfz:f.sz=1+f.name.length+(f.params.length+(f.params.map List.length).sum)+aD f.body:=rfl
  have hB:=Ca G _ f.body (Nat.lt_succ_self _) (by omega)
  by_cases hi0:i=0
  ·subst hi0
   have hk:cpK ⟨0,id,h⟩= .nils:=rfl
   rw[hk] at j4 i4
   have fin0:∀(h3:List AO) (r:List AV) (I2:List Nat) (l0:List (Nat × AV)),h.length+3<=h3.length->(∀j,j<h.length->h3[j]?=h[j]?)->OwnL true h3 r f.cs I2->I2.Nodup->(∀j∈I2,h.length<=j)->∀(o:AO) (hw:Aw.look l0 4= .p (.int .i64 (IntKind.i64.wrap 1))/\Aw.look l0 3= .ptr 2 1 0 0/\Aw.look l0 2= .ptr 1 1 0 0/\Aw.look l0 1= .ptr 0 1 0 0),
    ∃a',CpI l a'/\l.length-a'.i<l.length/\Wk 0 (ah 35 l0) ((h3++[o,.row 3 [r]]).set 2 (.row 1 [[.sl (h3.length+1) 3 0 1]])) (ah 35 [(4,.p (.int .i64 a'.i)),(3,.ptr 2 1 0 0),(2,.ptr 1 1 0 0),(1,.ptr 0 1 0 0)]) a'.h:=by
    intro h3 r I2 l0 hl4 hg3 oR nR fR o ⟨e4,e3,e2,e1⟩
    obtain⟨J,hJ,hJ3⟩:=Lj (by omega) oR nR (λj hj=>by have:=fR j hj;omega) o (.row 1 [[.sl (h3.length+1) 3 0 1]])
    have hd:(l.map Fd.cs).take 1=[f.cs]:=by rw[List.take_add_one,hD];rfl
    refine⟨⟨1,h3.length+1,_⟩,⟨by simp only;omega,?_,?_,?_,λ_=>⟨by simp only;omega,_,J,by simp only[hd];exact hJ,hJ3⟩⟩,by simp only;omega,aW (by simp) ?_⟩
    ·rw[UM (by omega),UN (by omega),hg3 0 (by omega)];exact i2
    ·rw[UM (by omega),UN (by omega),hg3 1 (by omega)];exact i3
    ·rw[UQ (by simp;omega)];rfl
    ·simp[e1,e2,e3,e4,below]
     exact⟨by have:=w1 (i:=0) (by omega);simpa using this,by omega⟩
   simp-implicitDefEqProofs[i2,hfl,hg,hcs,hsp,Aa, ↓j2, ↓j4]
   refine⟨⟨by omega,by omega⟩,?_⟩
   refine(AC.mkLift nS hB (by simp)).mono ?_
   rintro r h3 ⟨vB,IB,o1,rfl,e3,oB,nB,fB⟩
   obtain⟨B,rfl⟩:=eE oB
   simp at fB
   have hg3:∀j,j<h.length->h3[j]?=h[j]?:=λj hj=>by rw[e3,Vt,UN hj]
   have p0:h3[h.length]?=some (.row 3 [[.p (.str f.name),.p (.lst 1 (f.params.map λw=>[.str w])),.p (smL f.body)]]):=by
    rw[e3,Vt,UT (Vb _),Nat.sub_self];rfl
   have p2:h3[h.length+2]?=some (cD f.params):=by
    rw[e3,Vt,UT (by omega),Vw]
    simp[cD,Function.comp_def]
   have oP:=EC p2 (n:=f.params.length) rfl
   have hl4:h.length+3<=h3.length:=by rw[e3];simp
   have q0:∀os,(h3++os)[2]?=some (.row 1 [[.nils]]):=λos=>by rw[UN (by omega),hg3 2 (by omega)];exact i4
   have q1:h3[2]?=some (.row 1 [[.nils]]):=by rw[hg3 2 (by omega)];exact i4
   have q2:∀os,(h3++os)[h.length]?=some (.row 3 [[.p (.str f.name),.p (.lst 1 (f.params.map λw=>[.str w])),.p (smL f.body)]]):=λos=>by rw[UN (by omega)];exact p0
   clear p2
   have hfR:∀j∈[h.length+2]++IB,h.length<=j:=λj hj=>by
    rcases UW.1 hj with hj|hj
    ·rw[UY.1 hj];omega
    ·have:=fB j hj;omega
   have hnR:([h.length+2]++IB).Nodup:=VM.2 ⟨λhm=>by have:=fB _ hm;omega,nB⟩
   rcases ky oB with⟨b1,rfl⟩|rfl|⟨x1,x2,x3,rfl⟩
   ·have oR:=sG (s:=true) (w:=f.name) oP oB
    simp-implicitDefEqProofs[aa,dg, ↓q1, ↓p0, ↓q0, ↓q2]
    exact fin0 h3 _ _ _ hl4 hg3 oR hnR hfR _ (by simp)
   ·have oR:=sG (s:=true) (w:=f.name) oP oB
    simp-implicitDefEqProofs[aa,dg, ↓q1, ↓p0, ↓q0, ↓q2]
    exact fin0 h3 _ _ _ hl4 hg3 oR hnR hfR _ (by simp)
   ·have oR:=sG (s:=true) (w:=f.name) oP oB
    simp-implicitDefEqProofs[aa,dg, ↓q1, ↓p0, ↓q0, ↓q2]
    exact fin0 h3 _ _ _ hl4 hg3 oR hnR hfR _ (by simp)
  ·have hk:cpK ⟨i,id,h⟩= .sl id 3 0 i:=if_neg hi0
   rw[hk] at j4 i4
   obtain⟨hid3,rows,J,hr,hJ3⟩:=i5 (by omega)
   have hrl:rows.length=i:=by have:=hr.len;rw[Vl,Vv] at this;omega
   have hidl:=hr.lt
   have fin0:∀(h3:List AO) (r:List AV) (I2:List Nat) (l0:List (Nat × AV)),h.length+3<=h3.length->(∀j,j<h.length->h3[j]?=h[j]?)->OwnL true h3 r f.cs I2->I2.Nodup->(∀j∈I2,h.length<=j)->∀(o:AO) (hw:Aw.look l0 4= .p (.int .i64 (IntKind.i64.wrap ((i:Int)+1)))/\Aw.look l0 3= .ptr 2 1 0 0/\Aw.look l0 2= .ptr 1 1 0 0/\Aw.look l0 1= .ptr 0 1 0 0),
    ∃a',CpI l a'/\l.length-a'.i<l.length-i/\Wk 0 (ah 35 l0) (((h3++[o]).set id .dead++[AO.row 3 (rows++[r])]).set 2 (.row 1 [[.sl (h3.length+1) 3 0 (i+1)]])) (ah 35 [(4,.p (.int .i64 a'.i)),(3,.ptr 2 1 0 0),(2,.ptr 1 1 0 0),(1,.ptr 0 1 0 0)]) a'.h:=by
    intro h3 r I2 l0 hl4 hg3 oR nR fR o ⟨e4,e3,e2,e1⟩
    obtain⟨J2,hJ,hJ4⟩:=Nr hr hJ3 hid3 hl3 (zX (by omega) hg3) oR nR fR o (.row 1 [[.sl (h3.length+1) 3 0 (i+1)]])
    have hd:(l.map Fd.cs).take i++[f.cs]=(l.map Fd.cs).take (i+1):=by rw[List.take_add_one,hD];rfl
    rw[hd] at hJ
    refine⟨⟨i+1,h3.length+1,_⟩,⟨by simp only;omega,?_,?_,?_,λ_=>⟨by simp only;omega,_,J2,hJ,hJ4⟩⟩,by simp only;omega,aW (by simp) ?_⟩
    ·rw[UM (by omega),UN (by simp only[Vr,Va,Vh];omega),UM (by omega),UN (by omega),hg3 0 (by omega)];exact i2
    ·rw[UM (by omega),UN (by simp only[Vr,Va,Vh];omega),UM (by omega),UN (by omega),hg3 1 (by omega)];exact i3
    ·rw[UQ (by simp;omega),cpK,if_neg (show¬(i+1=0) by omega)]
    ·simp[e1,e2,e3,e4,below]
     exact⟨w1 (i:=i) (by omega),by omega⟩
   simp-implicitDefEqProofs[i2,hfl,hg,hcs,hsp,Aa, ↓j2, ↓j4]
   refine⟨⟨by omega,by omega⟩,?_⟩
   refine(AC.mkLift nS hB (by simp)).mono ?_
   rintro r h3 ⟨vB,IB,o1,rfl,e3,oB,nB,fB⟩
   obtain⟨B,rfl⟩:=eE oB
   simp at fB
   have hg3:∀j,j<h.length->h3[j]?=h[j]?:=λj hj=>by rw[e3,Vt,UN hj]
   have p0:h3[h.length]?=some (.row 3 [[.p (.str f.name),.p (.lst 1 (f.params.map λw=>[.str w])),.p (smL f.body)]]):=by
    rw[e3,Vt,UT (Vb _),Nat.sub_self];rfl
   have p2:h3[h.length+2]?=some (cD f.params):=by
    rw[e3,Vt,UT (by omega),Vw]
    simp[cD,Function.comp_def]
   have oP:=EC p2 (n:=f.params.length) rfl
   have hl4:h.length+3<=h3.length:=by rw[e3];simp
   have q0:∀os,(h3++os)[2]?=some (.row 1 [[.sl id 3 0 i]]):=λos=>by rw[UN (by omega),hg3 2 (by omega)];exact i4
   have q1:h3[2]?=some (.row 1 [[.sl id 3 0 i]]):=by rw[hg3 2 (by omega)];exact i4
   have q2:∀os,(h3++os)[h.length]?=some (.row 3 [[.p (.str f.name),.p (.lst 1 (f.params.map λw=>[.str w])),.p (smL f.body)]]):=λos=>by rw[UN (by omega)];exact p0
   clear p2
   have q4:∀x o y,((h3++x).set id o++y)[2]?=some (.row 1 [[.sl id 3 0 i]]):=λx o y=>by
    rw[UN (by simp only[Vr,Va];omega),UM (by omega),UN (by omega),hg3 2 (by omega)];exact i4
   have q3:∀os,(h3++os)[id]?=some (.row 3 rows):=λos=>by rw[UN (by omega),hg3 id hidl];exact hr.here
   have hfR:∀j∈[h.length+2]++IB,h.length<=j:=λj hj=>by
    rcases UW.1 hj with hj|hj
    ·rw[UY.1 hj];omega
    ·have:=fB j hj;omega
   have hnR:([h.length+2]++IB).Nodup:=VM.2 ⟨λhm=>by have:=fB _ hm;omega,nB⟩
   rcases ky oB with⟨b1,rfl⟩|rfl|⟨x1,x2,x3,rfl⟩
   ·have oR:=sG (s:=true) (w:=f.name) oP oB
    simp-implicitDefEqProofs[aa,dg, ↓q1, ↓p0, ↓q0, ↓q2, ↓q3, ↓q4,hrl]
    rw[US (l:=rows) (i:=i) (by omega)]
    refine⟨⟨by omega,by omega⟩,?_⟩
    exact fin0 h3 _ _ _ hl4 hg3 oR hnR hfR _ (by simp)
   ·have oR:=sG (s:=true) (w:=f.name) oP oB
    simp-implicitDefEqProofs[aa,dg, ↓q1, ↓p0, ↓q0, ↓q2, ↓q3, ↓q4,hrl]
    rw[US (l:=rows) (i:=i) (by omega)]
    refine⟨⟨by omega,by omega⟩,?_⟩
    exact fin0 h3 _ _ _ hl4 hg3 oR hnR hfR _ (by simp)
   ·have oR:=sG (s:=true) (w:=f.name) oP oB
    simp-implicitDefEqProofs[aa,dg, ↓q1, ↓p0, ↓q0, ↓q2, ↓q3, ↓q4,hrl]
    rw[US (l:=rows) (i:=i) (by omega)]
    refine⟨⟨by omega,by omega⟩,?_⟩
    exact fin0 h3 _ _ _ hl4 hg3 oR hnR hfR _ (by simp)
 ·simp at h1
  have hie:i=l.length:=by omega
  subst hie
  have s1:∀x,(h.set 1 x)[1]?=some x:=λx=>UQ (by omega)
  by_cases hi0:l.length=0
  ·have hk:cpK ⟨l.length,id,h⟩= .nils:=if_pos hi0
   rw[hk] at i4
   simp-implicitDefEqProofs[i4,i3,s1]
   obtain rfl:=VC hi0
   exact⟨[.nils],[],rfl,.nils 3 .nil,by simp⟩
  ·have hk:cpK ⟨l.length,id,h⟩= .sl id 3 0 l.length:=if_neg hi0
   rw[hk] at i4
   obtain⟨hid3,rows,J,hr,hJ3⟩:=i5 (by omega)
   rw[US (by simp)] at hr
   simp-implicitDefEqProofs[i4,i3,s1]
   have ho:=hr.tree (n:=l.length) (by simp)
   exact⟨[.sl id 3 0 l.length],id::J,rfl,ho.set_out (λhm=>by
    rcases UX.1 hm with hm|hm
    ·omega
    ·have:=hJ3 _ hm;omega) _,hr.nd⟩
end
section
variable (G:al)
theorem Lz{s:Bool}{b:List Int}{q:Nat}{T:List AO}{vs:List AV}{qs:List PV}{I:List Nat}(H:OwnL s (rdO b q::T) vs qs I)(hI:∀i∈I,1<=i)(o:AO):OwnL s (o::T) vs qs I:=
 H.frame λi hi=>by
  have:=hI i hi
  obtain⟨k,rfl⟩:∃k,i=k+1:=⟨i-1,by omega⟩
  rfl
theorem Ks{b:List Int}{p q:Nat}{T:List AO}{v:AV}{l:List Fd}{I:List Nat}(H:OwnL true (rdO b q::T) [v] [fdL l] I)(hI:∀i∈I,1<=i)(hz:aN l<=900000000)(h1:p<=q)(h2:q<=p+400500000):DP b (PgQ p 900000000 400500000) (.ret (.agg [v])) (rdO b q::T):=
 ⟨_,T,q,.agg [.p (fdL l)],rfl,rfl,.agg (.one ((Lz H hI .dead).view 0 v _ rfl rfl) .nil) .nil,⟨l,rfl,hz⟩,h1,h2⟩
theorem LW{l:List Sm}{k:Nat}{s0:Sm}(s:Sm)(h:l[k]?=some s0):aD (l.set k s)+s0.sz=aD l+s.sz:=by
 obtain⟨hk,h⟩:=UL.1 h
 subst h
 ·rw[fJ s hk,bC]
  have e:l=l.take k++l.drop k:=(VH _ _).symm
  have h1:aD l=aD (l.take k)+aD (l.drop k):=by rw[←bC,←e]
  have h4:aD (l.drop k)=l[k].sz+aD (l.drop (k+1)):=by rw[VN hk];rfl
  simp only[aD]
  omega
theorem Mt(l:List Ex)(k:Nat)(s:Ex):bq (l.set k s)<=bq l+s.sz:=by
 by_cases hk:k<l.length
 ·rw[fJ s hk,eK]
  have e:l=l.take k++l.drop k:=(VH _ _).symm
  have h1:bq l=bq (l.take k)+bq (l.drop k):=by rw[←eK,←e]
  have h4:bq (l.drop k)=l[k].sz+bq (l.drop (k+1)):=by rw[VN hk];rfl
  simp only[bq]
  omega
 ·rw[List.set_eq_of_length_le (by omega)];omega
theorem mS{α:Type}{l:List α}{k:Nat}{x:α}(h:l[k]?=some x):l.set k x=l:=by
 apply List.ext_getElem?
 intro i
 by_cases hi:k=i
 ·subst hi;rw[UQ (UL.1 h).1,h]
 ·rw[UM hi]
theorem Eo{h:List AO}{id sz n m:Nat}{es:List (List PV)}(H:View h (.sl id sz 0 n) (.lst sz es))(hm:m<=es.length):View h (.sl id sz 0 m) (.lst sz (es.take m)):=by
 cases H with
 |sl _ _ _ rows _ e1 e2 e3 e4=>
  have hl:(es.take m).length=m:=by rw[Vl];omega
  have:=View.sl id sz 0 rows (es.take m) e1 (by omega) (λe he=>e3 e (VB he)) (λi j e q e' a a1 a2 a3 a4=>by
   have hi:i<m:=by have:=(UL.1 a1).1;omega
   rw[List.getElem?_take_of_lt hi] at a1
   exact e4 i j e q e' a a1 a2 a3 a4)
  rwa[hl] at this
theorem KN{b:List Int}(hb:Byt b)(hl:b.length<=2000){p:Nat}(hp:p<=5000000000):AC Tryz.prog G mG [.ptr 0 2 0 0] [rdO b p] λx h=>∃v q,x= .ret v/\h=[rdO b q]/\PgQ p 900000000 400500000 v q:=by
 refine nH G (AC.go BG ?_)
 have hprog:AC Tryz.prog G dV [.ptr 0 2 0 0] [rdO b p] λx h=>∃v q,x= .ret v/\h=[rdO b q]/\((∃l:List Fd,v= .agg [.p (fdL l)]/\bt l=true/\aN l<=200000000)/\p<=q/\q<=p+200000000):=
  (MG G hb hl (by omega)).mono λx h ⟨l,q,e1,e2,e3,e4,e5,e6⟩=>⟨_,q,e1,e2,⟨l,rfl,e3,e4⟩,e5,e6⟩
 simp-implicitDefEqProofs[rR]
 refine(jC G hprog _ (by simp[below])).mono ?_
 rintro r h ⟨v,q,rfl,rfl,⟨l,rfl,hok,hz⟩,h1,h2⟩
 have hlen:=((iT l).1 hok).1
 have hfd:=((iT l).1 hok).2.1
 simp-implicitDefEqProofs[aa]
 refine(aU G b hb hl q (by omega) 5 _).mono ?_
 rintro r h ⟨k1,rfl,rfl,_⟩
 simp-implicitDefEqProofs[aa]
 refine aY (λhc=>?_) (λhc=>?_)
 ·simp-implicitDefEqProofs[]
  exact⟨_,_,q+1,.agg [.p (fdL l)],rfl,rfl,.keep (by simp) .nil,⟨l,rfl,by omega⟩,by omega,by omega⟩
 simp-implicitDefEqProofs[]
 refine(aU G b hb hl (q+1) (by omega) 6 _).mono ?_
 rintro r h ⟨k2,rfl,rfl,_⟩
 simp-implicitDefEqProofs[aa]
 refine aY (λhc2=>?_) (λhc2=>?_)
 ·simp-implicitDefEqProofs[]
  refine(jC G (Ml G hb hl (p:=q+1+1) (by omega)) _ (by simp[below])).mono ?_
  rintro r h ⟨v,q2,rfl,rfl,⟨l2,rfl,hz2⟩,h3,h4⟩
  simp-implicitDefEqProofs[aa]
  exact⟨_,_,q2,.agg [.p (fdL l2)],rfl,rfl,.keep (by simp) .nil,⟨l2,rfl,by omega⟩,by omega,by omega⟩
 simp-implicitDefEqProofs[]
 refine(AC.mkLift CS (Km G l (by omega)) (by simp)).mono ?_
 rintro r h ⟨vs,I,os,rfl,rfl,ho,nd,hI⟩
 obtain⟨v,rfl⟩:=eE ho
 have hne:l.map Fd.cs≠[]:=by intro h;rw[List.map_eq_nil_iff] at h;rw[h] at hlen;simp at hlen
 simp at hI
 rcases ho.inv nd with⟨h0,_⟩|⟨h0,_⟩|⟨id,rowsF,JF,rfl,rfl,hF⟩
 ·exact absurd h0 hne
 ·cases h0
 have hid3:3<=id:=hI id (by simp)
 obtain⟨fF,rfl⟩:∃fF,id=fF+1:=⟨id-1,by omega⟩
 rw[Vv]
 simp-implicitDefEqProofs[aa]
 have hF2:∀q',RowOwn true (rdO b q':: .row 1 [[.nils]]:: .row 1 [[.sl (fF+1) 3 0 l.length]]::os) (fF+1) 3 rowsF (l.map Fd.cs) JF:=λq'=>hF.frame λi hi=>by
  have:=hI i (by simpa using hi)
  obtain⟨k,rfl⟩:∃k,i=k+3:=⟨i-3,by omega⟩
  rfl
 have hI3:∀j∈JF,3<=j:=λj hj=>hI j (by simp[hj])
 have hnF:=hF.nd
 clear hF ho
 obtain⟨T,hT⟩:∃T,T= .row 1 [[.nils]]:: .row 1 [[AV.sl (fF+1) 3 0 l.length]]::os:=⟨_,rfl⟩
 rw[←hT] at hF2⊢
 have t0:T[0]?=some (.row 1 [[.nils]]):=by rw[hT];rfl
 have t1:T[1]?=some (.row 1 [[.sl (fF+1) 3 0 l.length]]):=by rw[hT];rfl
 have tF:T[fF]?=some (.row 3 rowsF):=(hF2 0).here
 clear hT
 refine(aU G b hb hl (q+1+1) (by omega) l.length _).mono ?_
 rintro r h ⟨k,rfl,rfl,hk⟩
 have hkl:k<l.length:=by omega
 have hgk:=UO hkl
 have hfk:=hfd _ (Ve hkl)
 have hzk:=dD (Ve hkl)
 have hDk:(l.map Fd.cs)[k]?=some l[k].cs:=by rw[UZ,hgk];rfl
 generalize l[k]=f at hgk hfk hzk hDk
 obtain⟨rF,J1,Jk,J2,r1,rfl,r2,r5⟩:=(hF2 (q+1+1+1)).own.put (hF2 0).len (hF2 0).rl (hF2 0).dl hDk
 obtain⟨A,B,IA,IB,rfl,rfl,oA,oB⟩:=Qs r2
 have hltJ:∀j∈J1++(IA++IB++J2),j<T.length+1:=λj hj=>by have:=(hF2 0).own.lt hj;simpa using this
 have hnd:=hnF
 rw[VM] at hnd
 have hn1:fF+1∉J1++(IA++IB++J2):=hnd.1
 have hn2:=hnd.2
 have hIB:∀j∈IB,3<=j:=λj hj=>hI3 j (by simp[hj])
 have nIB:IB.Nodup:=(List.nodup_append.1 (List.nodup_append.1 (List.nodup_append.1 hn2).2.1).1).2.1
 have hDl:(l.map Fd.cs).length=l.length:=by simp
 have finG:∀(U:List AO) (q':Nat) (B':AV) (I':List Nat) (sl':List Sm),(∀i,2<=i->i<T.length->i≠fF->i+1∉IB->U[i]?=T[i]?)->U[fF]?=some (.row 3 (rowsF.set k [.p (.str f.name),A,B']))->OwnL true (rdO b q'::U) [B'] [smL sl'] I'->(∀i∈I',1<=i)->
  aD sl'<=450000000->p<=q'->q'<=p+400500000->DP b (PgQ p 900000000 400500000) (.ret (.agg [.sl (fF+1) 3 0 l.length])) (rdO b q'::U):=by
  intro U q' B' I' sl' hU hUF oB' hI' hz' h3 h4
  have hfr:∀j∈J1++J2++IA,(rdO b q'::U)[j]?=(rdO b (q+1+1+1)::T)[j]?:=λj hj=>by
   have hjm:j∈J1++(IA++IB++J2):=by simp only[UW] at hj⊢;rcases hj with(hj|hj)|hj<;>simp[hj]
   have hj3:=hI3 j hjm
   have hjl:=hltJ j hjm
   obtain⟨i,rfl⟩:∃i,j=i+1:=⟨j-1,by omega⟩
   rw[Vd,Vd]
   refine hU i (by omega) (by omega) (λe=>hn1 (e▸hjm)) λhm=>?_
   simp only[List.nodup_append,UW] at hn2
   obtain⟨n1,⟨⟨n2,n3,n4⟩,n5,n6⟩,n7⟩:=hn2
   simp only[UW] at hj
   rcases hj with(hj|hj)|hj
   ·exact n7 _ hj _ (.inl (.inr hm)) rfl
   ·exact n6 _ (.inr hm) _ hj rfl
   ·exact n4 _ hj _ hm rfl
  have oR:=sG (s:=true) (w:=f.name) (oA.frame λi hi=>hfr i (by simp[hi])) oB'
  have oW:=r5 (rdO b q'::U) _ _ _ (λj hj=>hfr j (by simp only[UW] at hj⊢;exact .inl hj)) oR
  have hD':(l.map Fd.cs).set k (Fd.mk f.name f.params sl').cs=(l.set k ⟨f.name,f.params,sl'⟩).map Fd.cs:=by rw[List.map_set]
  have tree:=OwnL.sl (s:=true) (h:=rdO b q'::U) (fF+1) 3 l.length (rowsF.set k [.p (.str f.name),A,B']) ((l.map Fd.cs).set k (Fd.mk f.name f.params sl').cs) hUF (by simp) (by have:=(hF2 0).len;simpa using this) (λe he=>by
   rcases VJ he with h|rfl
   ·exact(hF2 0).rl e h
   ·rfl) (λe he=>by
   rcases VJ he with h|rfl
   ·exact(hF2 0).dl e h
   ·rfl) oW .nil
  rw[hD'] at tree
  have hsz:=ET l k ⟨f.name,f.params,sl'⟩
  have hfz:f.sz=1+f.name.length+(f.params.length+(f.params.map List.length).sum)+aD f.body:=rfl
  have hfz':(Fd.mk f.name f.params sl').sz=1+f.name.length+(f.params.length+(f.params.map List.length).sum)+aD sl':=rfl
  refine Ks (l:=l.set k ⟨f.name,f.params,sl'⟩) tree (λi hi=>?_) (by omega) h3 h4
  simp only[UX,UW,Vk,or_false] at hi
  rcases hi with rfl|hi|(hi|hi)|hi
  ·omega
  ·have:=hI3 i (by simp[hi]);omega
  ·have:=hI3 i (by simp[hi]);omega
  ·exact hI' i hi
  ·have:=hI3 i (by simp[hi]);omega
 have hset:rowsF.set k [.p (.str f.name),A,B]=rowsF:=by
  apply List.ext_getElem?
  intro i
  by_cases hi:k=i
  ·subst hi;rw[UQ (UL.1 r1).1,r1]
  ·rw[UM hi]
 have hf2:2<=fF:=by omega
 have s0:∀x,(T.set 0 x)[0]?=some x:=λx=>UQ (by have:=(UL.1 t0).1;omega)
 have hbz:f.sz=1+f.name.length+(f.params.length+(f.params.map List.length).sum)+aD f.body:=rfl
 simp-implicitDefEqProofs[aa,t0,t1,tF,r1,hkl]
 have fin0:∀q' x,p<=q'->q'<=p+400500000->DP b (PgQ p 900000000 400500000) (.ret (.agg [.sl (fF+1) 3 0 l.length])) (rdO b q'::T.set 0 x):=λq' x h3 h4=>
  finG (T.set 0 x) q' B IB f.body (λi h1 _ _ _=>UM (by omega)) (by rw[UM (by omega),hset];exact tF) (oB.frame λj hj=>by
   have:=hIB j hj
   obtain⟨i,rfl⟩:∃i,j=i+1:=⟨j-1,by omega⟩
   rw[Vd,Vd,UM (by omega)]) (λi hi=>by have:=hIB i hi;omega) (by omega) h3 h4
 rcases oB.inv nIB with⟨h0,_,rfl|rfl⟩|⟨h0,_⟩|⟨idB,rowsB,JB,rfl,rfl,hB⟩
 ·simp-implicitDefEqProofs[t0,t1,s0]
  exact fin0 _ _ (by omega) (by omega)
 ·simp-implicitDefEqProofs[t0,t1,s0]
  exact fin0 _ _ (by omega) (by omega)
 ·cases h0
 rw[Vv] at*
 by_cases hbe:f.body.length=0
 ·simp-implicitDefEqProofs[hbe,t0,t1,s0]
  have:=fin0 (q+1+1+1) (.row 1 [[.sl (fF+1) 3 0 l.length]]) (by omega) (by omega)
  exact this
 simp-implicitDefEqProofs[hbe,t0,t1,tF,r1]
 refine(aU G b hb hl (q+1+1+1) (by omega) f.body.length _).mono ?_
 rintro r h ⟨j,rfl,rfl,hj⟩
 have hjl:j<f.body.length:=by omega
 obtain⟨fB,rfl⟩:∃fB,idB=fB+1:=⟨idB-1,by have:=hIB idB (by simp);omega⟩
 have hB3:=hIB (fB+1) (by simp)
 have tB:T[fB]?=some (.row 5 rowsB):=hB.here
 have hgj:=UO hjl
 have hzj:=dP (Ve hjl)
 have hok5:az 4 f.body[j]=true:=by
  simp only[jA,Vf] at hfk
  exact UU.1 hfk.2 _ (Ve hjl)
 have hDj:(f.body.map Sm.cs)[j]?=some f.body[j].cs:=by rw[UZ,hgj];rfl
 generalize f.body[j]=sm at hgj hzj hok5 hDj
 obtain⟨rB,K1,Kj,K2,u1,rfl,u2,u5⟩:=hB.own.put hB.len hB.rl hB.dl hDj
 obtain⟨A1,B1,E1,I1,I2,I3,rfl,rfl,oA1,oB1,oE1⟩:=OZ u2
 simp-implicitDefEqProofs[aa,hjl,t0,t1,tF,r1,tB,u1]
 refine(DO G hb hl (p:=q+1+1+1+1) (by omega) [[122,122],[97],[98],[99],[100]] (k:=T.length+1) (by simp) (by simp) (by omega) rfl (by simp[cD])).mono ?_
 rintro r h ⟨s,hs,rfl,rfl⟩
 have hs8:s.length<=8:=by simp at hs;rcases hs with rfl|rfl|rfl|rfl|rfl<;>simp
 have nB:=nIB
 rw[VM] at nB
 have finS:∀(U:List AO) (q':Nat) (o':Int) (nm':List UInt8) (A':AV) (I':List Nat) (ar':List Ex),(∀i,2<=i->i<T.length->i≠fB->i+1∉I1->U[i]?=T[i]?)->U[fB]?=some (.row 5 (rowsB.set j [.p (.int .i64 o'),.p (.str nm'),A',B1,E1]))->OwnL true (rdO b q'::U) [A'] [exL ar'] I'->(∀i∈I',1<=i)->
  bq ar'+nm'.length<=bq sm.args+sm.name.length+1000->p<=q'->q'<=p+400500000->DP b (PgQ p 900000000 400500000) (.ret (.agg [.sl (fF+1) 3 0 l.length])) (rdO b q'::U):=by
  intro U q' o' nm' A' I' ar' hU hUB oA' hI' hz' h3 h4
  have hmem:∀x∈K1++K2++I2++I3,x∈K1++(I1++(I2++I3)++K2):=λx hx=>by
   simp only[UW] at hx⊢
   rcases hx with((hx|hx)|hx)|hx<;>simp[hx]
  have hltB:∀x∈K1++(I1++(I2++I3)++K2),x<T.length+1:=λx hx=>by have:=hB.own.lt hx;simpa using this
  have hfr:∀x∈K1++K2++I2++I3,(rdO b q'::U)[x]?=(rdO b (q+1+1+1)::T)[x]?:=λx hx=>by
   have hm:=hmem x hx
   have hx3:=hIB x (VD _ hm)
   have hxl:=hltB x hm
   obtain⟨i,rfl⟩:∃i,x=i+1:=⟨x-1,by omega⟩
   rw[Vd,Vd]
   refine hU i (by omega) (by omega) (λe=>nB.1 (e▸hm)) λhm1=>?_
   have hn:=nB.2
   simp only[List.nodup_append,UW] at hn
   obtain⟨n1,⟨⟨n2,⟨n3,n3',n3''⟩,n4⟩,n5,n6⟩,n7⟩:=hn
   simp only[UW] at hx
   rcases hx with((hx|hx)|hx)|hx
   ·exact n7 _ hx _ (.inl (.inl hm1)) rfl
   ·exact n6 _ (.inl hm1) _ hx rfl
   ·exact n4 _ hm1 _ (.inl hx) rfl
   ·exact n4 _ hm1 _ (.inr hx) rfl
  have oS:=Qo (s:=true) (o:=o') (w:=nm') oA' (oB1.frame λi hi=>hfr i (by simp[hi])) (oE1.frame λi hi=>hfr i (by simp[hi]))
  have oW:=u5 (rdO b q'::U) _ _ _ (λx hx=>hfr x (by simp only[UW] at hx⊢;exact .inl (.inl hx))) oS
  have hD':(f.body.map Sm.cs).set j (Sm.mk o' nm' ar' sm.body sm.els).cs=(f.body.set j ⟨o',nm',ar',sm.body,sm.els⟩).map Sm.cs:=by rw[List.map_set]
  have tree:=OwnL.sl (s:=true) (h:=rdO b q'::U) (fB+1) 5 f.body.length (rowsB.set j [.p (.int .i64 o'),.p (.str nm'),A',B1,E1]) ((f.body.map Sm.cs).set j (Sm.mk o' nm' ar' sm.body sm.els).cs) hUB (by simp) (by have:=hB.len;simpa using this) (λe he=>by
   rcases VJ he with h|rfl
   ·exact hB.rl e h
   ·rfl) (λe he=>by
   rcases VJ he with h|rfl
   ·exact hB.dl e h
   ·exact Sm.cs_len _) oW .nil
  rw[hD'] at tree
  have hsz:=LW (s:=⟨o',nm',ar',sm.body,sm.els⟩) hgj
  have hsm:=sm.sz_eq
  have hsm':(Sm.mk o' nm' ar' sm.body sm.els).sz=1+nm'.length+bq ar'+aD sm.body+aD sm.els:=rfl
  have hFB:fF≠fB:=λe=>hn1 (by rw[e];simp)
  have hFI:fF+1∉I1:=λhm=>hn1 (by simp[hm])
  have hFT:fF<T.length:=(UL.1 tF).1
  refine finG U q' (.sl (fB+1) 5 0 f.body.length) _ (f.body.set j ⟨o',nm',ar',sm.body,sm.els⟩) (λi g1 g2 g3 g4=>hU i g1 g2 (λe=>g4 (by rw[e];simp)) λhm=>g4 (by simp[hm])) (by rw[hU fF hf2 hFT hFB hFI,hset];exact tF) tree (λi hi=>?_) (by omega) h3 h4
  simp only[UX,UW,Vk,or_false] at hi
  rcases hi with rfl|hi|(hi|hi|hi)|hi
  ·omega
  ·have:=hIB i (by simp[hi]);omega
  ·exact hI' i hi
  ·have:=hIB i (by simp[hi]);omega
  ·have:=hIB i (by simp[hi]);omega
  ·have:=hIB i (by simp[hi]);omega
 have hTl:2<=T.length:=by have:=(UL.1 t1).1;omega
 have hBT:fB<T.length:=(UL.1 tB).1
 have hI1:∀i∈I1,3<=i/\i<T.length+1:=λi hi=>⟨hIB i (by simp[hi]),by have:=oA1.lt hi;simpa using this⟩
 have oA1u:∀(U:List AO) (q':Nat),(∀i,2<=i->i<T.length->i+1∈I1->U[i]?=T[i]?)->OwnL true (rdO b q'::U) [A1] [exL sm.args] I1:=λU q' hU=>oA1.frame λx hx=>by
  obtain⟨h3,h4⟩:=hI1 x hx
  obtain⟨i,rfl⟩:∃i,x=i+1:=⟨x-1,by omega⟩
  rw[Vd,Vd]
  exact hU i (by omega) (by omega) hx
 have hsmz:=sm.sz_eq
 have finU:∀(U:List AO) (q':Nat),(∀i,2<=i->i<T.length->U[i]?=T[i]?)->p<=q'->q'<=p+400500000->DP b (PgQ p 900000000 400500000) (.ret (.agg [.sl (fF+1) 3 0 l.length])) (rdO b q'::U):=λU q' hU h3 h4=>
  finS U q' sm.op sm.name A1 I1 sm.args (λi a1 a2 _ _=>hU i a1 a2) (by rw[hU fB (by omega) hBT,mS u1];exact tB) (oA1u U q' λi a1 a2 _=>hU i a1 a2) (λi hi=>by have:=(hI1 i hi).1;omega) (by omega) h3 h4
 have a0:∀os,(T++os)[0]?=some (.row 1 [[.nils]]):=λos=>by rw[UN (UL.1 t0).1];exact t0
 have a1:∀os,(T++os)[1]?=some (.row 1 [[.sl (fF+1) 3 0 l.length]]):=λos=>by rw[UN (UL.1 t1).1];exact t1
 have aF:∀os,(T++os)[fF]?=some (.row 3 rowsF):=λos=>by rw[UN (UL.1 tF).1];exact tF
 have aB:∀os,(T++os)[fB]?=some (.row 5 (rowsB)):=λos=>by rw[UN (UL.1 tB).1];exact tB
 simp-implicitDefEqProofs[aa]
 refine(aU G b hb hl (q+1+1+1+1+1) (by omega) 4 _).mono ?_
 rintro r h ⟨k3,rfl,rfl,_⟩
 have nI1:I1.Nodup:=(List.nodup_append.1 (List.nodup_append.1 (List.nodup_append.1 nB.2).2.1).1).1
 have hargs:0<sm.args.length:=by
  simp only[az,jo,Vf,decide_eq_true_eq] at hok5
  have:=hok5.1.1.1.1.1.1.1.1.2
  rw[this];unfold gX;split<;>omega
 have hA0:sm.args.map Ex.cs≠[]:=by intro h;rw[List.map_eq_nil_iff] at h;rw[h] at hargs;simp at hargs
 obtain⟨idA,rowsA,JA,rfl,rfl,hA⟩:∃id rows J,A1= .sl id 4 0 sm.args.length/\I1=id::J/\RowOwn true (rdO b (q+1+1+1)::T) id 4 rows (sm.args.map Ex.cs) J:=by
  rcases oA1.inv nI1 with⟨h0,_⟩|⟨h0,_⟩|⟨id,rows,J,e1,e2,e3⟩
  ·exact absurd h0 hA0
  ·cases h0
  ·rw[Vv] at e1;exact⟨id,rows,J,e1,e2,e3⟩
 obtain⟨fA,rfl⟩:∃fA,idA=fA+1:=⟨idA-1,by have:=(hI1 idA (by simp)).1;omega⟩
 have hA3:=hI1 (fA+1) (by simp)
 have tA:T[fA]?=some (.row 4 rowsA):=hA.here
 have aA:∀os,(T++os)[fA]?=some (.row 4 rowsA):=λos=>by rw[UN (by omega)];exact tA
 have hg0:=UO hargs
 have hz0:=bQ (Ve hargs)
 have hD0:(sm.args.map Ex.cs)[0]?=some sm.args[0].cs:=by rw[UZ,hg0];rfl
 generalize sm.args[0]=e0 at hg0 hz0 hD0
 obtain⟨r0,L1,L0,L2,g1,rfl,g3,g5⟩:=hA.own.put hA.len hA.rl hA.dl hD0
 obtain⟨K0,rfl,_⟩:=GR g3
 have nA:=nI1
 rw[VM] at nA
 have finA:∀(U:List AO) (q':Nat) (o n:Int) (w:List UInt8) (K:AV) (IK:List Nat) (ks:List Ex),(∀i,2<=i->i<T.length->i≠fA->U[i]?=T[i]?)->U[fA]?=some (.row 4 (rowsA.set 0 [.p (.int .i64 o),.p (.int .i64 n),.p (.str w),K]))->OwnL true (rdO b q'::U) [K] [exL ks] IK->(∀i∈IK,1<=i)->
  (Ex.mk o n w ks).sz<=500->p<=q'->q'<=p+400500000->DP b (PgQ p 900000000 400500000) (.ret (.agg [.sl (fF+1) 3 0 l.length])) (rdO b q'::U):=by
  intro U q' o n w K IK ks hU hUA oK hIK hz' h3 h4
  have hfr:∀x∈L1++L2,(rdO b q'::U)[x]?=(rdO b (q+1+1+1)::T)[x]?:=λx hx=>by
   have hm:x∈L1++(L0++L2):=by
    simp only[UW] at hx⊢
    rcases hx with hx|hx
    ·exact .inl hx
    ·exact .inr (.inr hx)
   obtain⟨hx3,hx4⟩:=hI1 x (VD _ hm)
   obtain⟨i,rfl⟩:∃i,x=i+1:=⟨x-1,by omega⟩
   rw[Vd,Vd]
   exact hU i (by omega) (by omega) λe=>nA.1 (e▸hm)
  have oW:=g5 (rdO b q'::U) _ _ _ hfr (JO (o:=o) (n:=n) (w:=w) oK)
  have hD':(sm.args.map Ex.cs).set 0 (Ex.mk o n w ks).cs=(sm.args.set 0 ⟨o,n,w,ks⟩).map Ex.cs:=by rw[List.map_set]
  have tree:=OwnL.sl (s:=true) (h:=rdO b q'::U) (fA+1) 4 sm.args.length (rowsA.set 0 [.p (.int .i64 o),.p (.int .i64 n),.p (.str w),K]) ((sm.args.map Ex.cs).set 0 (Ex.mk o n w ks).cs) hUA (by simp) (by have:=hA.len;simpa using this) (λe he=>by
   rcases VJ he with h|rfl
   ·exact hA.rl e h
   ·rfl) (λe he=>by
   rcases VJ he with h|rfl
   ·exact hA.dl e h
   ·exact Ex.cs_len _) oW .nil
  rw[hD'] at tree
  have hsz:=Mt sm.args 0 ⟨o,n,w,ks⟩
  have hBA:fB≠fA:=λe=>nB.1 (by rw[e];simp)
  refine finS U q' sm.op sm.name (.sl (fA+1) 4 0 sm.args.length) _ (sm.args.set 0 ⟨o,n,w,ks⟩) (λi g1 g2 _ g4=>hU i g1 g2 λe=>g4 (by rw[e];simp)) (by rw[hU fB (by omega) hBT hBA,mS u1];exact tB) tree (λi hi=>?_) (by omega) h3 h4
  simp only[UX,UW,Vk,or_false] at hi
  rcases hi with rfl|hi|hi|hi
  ·omega
  ·have:=(hI1 i (by simp[hi])).1;omega
  ·exact hIK i hi
  ·have:=(hI1 i (by simp[hi])).1;omega
 have w0:∀os x,((T++os).set 0 x)[0]?=some x:=λos x=>UQ (by simp only[Va];omega)
 have v0:∀os x,((T++os).set fA x)[0]?=some (.row 1 [[.nils]]):=λos x=>by rw[UM (by omega)];exact a0 os
 have v1:∀os x,((T++os).set fA x)[1]?=some (.row 1 [[.sl (fF+1) 3 0 l.length]]):=λos x=>by rw[UM (by omega)];exact a1 os
 have v2:∀os x y,(((T++os).set fA x).set 0 y)[0]?=some y:=λos x y=>UQ (by simp only[Vr,Va];omega)
 have hv:∀os x y (i:Nat),2<=i->i<T.length->i≠fA->(((T++os).set fA x).set 0 y)[i]?=T[i]?:=λos x y i h1 h2 h3=>by
  rw[UM (by omega),UM (by omega),UN h2]
 have aE:∀x y os,(T++x::y::os)[T.length+1]?=some y:=λx y os=>by rw[UT (by omega),Vw];rfl
 have aE2:∀x y z os,(T++x::y::os).set (T.length+1) z=T++x::z::os:=λx y z os=>by rw[List.set_append_right _ _ (by omega),Vw];rfl
 by_cases c1:k3=1
 ·subst c1
  simp-implicitDefEqProofs[aa, ↓a0, ↓a1, ↓aF, ↓aB,u1,hjl]
  refine aY (λhn=>?_) (λhn=>?_)
  ·simp-implicitDefEqProofs[]
   refine(DO G hb hl (p:=q+1+1+1+1+1+1) (by omega) [[97],[98],[122,122],[99],[100]] (k:=T.length+2+1) (by simp) (by simp) (by omega) rfl (by simp[cD])).mono ?_
   rintro r h ⟨s2,hs2,rfl,rfl⟩
   have hs28:s2.length<=8:=by simp at hs2;rcases hs2 with rfl|rfl|rfl|rfl|rfl<;>simp
   have v0:∀os x,((T++os).set fB x)[0]?=some (.row 1 [[.nils]]):=λos x=>by rw[UM (by omega)];exact a0 os
   have v1:∀os x,((T++os).set fB x)[1]?=some (.row 1 [[.sl (fF+1) 3 0 l.length]]):=λos x=>by rw[UM (by omega)];exact a1 os
   have v2:∀os x y,(((T++os).set fB x).set 0 y)[0]?=some y:=λos x y=>UQ (by simp only[Vr,Va];omega)
   simp-implicitDefEqProofs[aa, ↓a0, ↓a1, ↓aF, ↓aB,u1,hjl, ↓v0, ↓v1, ↓v2,-getElem?_pos,VK,Vd]
   have hv:∀os x y (i:Nat),2<=i->i<T.length->i≠fB->(((T++os).set fB x).set 0 y)[i]?=T[i]?:=λos x y i h1 h2 h3=>by
    rw[UM (by omega),UM (by omega),UN h2]
   refine finS _ _ sm.op s2 (.sl (fA+1) 4 0 sm.args.length) _ sm.args ?_ ?_ (oA1u _ _ ?_) (λi hi=>by have:=(hI1 i hi).1;omega) (by omega) (by omega) (by omega)
   ·intro i h1 h2 h3 _;exact hv _ _ _ i h1 h2 h3
   ·rw[UM (by omega),UQ (by simp only[Va];omega)]
   ·intro i h1 h2 h3
    exact hv _ _ _ i h1 h2 (λe=>nB.1 (by rw[←e];simp only[UW];exact .inr (.inl (.inl h3))))
  ·simp-implicitDefEqProofs[↓a0, ↓a1, ↓w0,-getElem?_pos,VK,Vd]
   refine finU _ _ ?_ (by omega) (by omega)
   intro i h1 h2
   rw[UM (by omega),UN h2]
 by_cases c2:k3=2
 ·subst c2
  have hw:∀(q':Nat) (os:List AO),OwnL true (rdO b q'::(T++os)) [.sl (fB+1) 5 0 f.body.length] [smL f.body] ((fB+1)::(K1++(((fA+1)::(L1++(L0++L2)))++(I2++I3)++K2))):=λq' os=>oB.frame λx hx=>by
   have h3:=hIB x hx
   have h4:x<T.length+1:=by have:=oB.lt hx;simpa using this
   obtain⟨i,rfl⟩:∃i,x=i+1:=⟨x-1,by omega⟩
   rw[Vd,Vd,UN (by omega)]
  have hv1:∀(q':Nat) (os:List AO),View (rdO b q'::(T++os)) (.sl (fB+1) 5 0 1) (smL (f.body.take 1)):=λq' os=>by
   have:=Eo (m:=1) ((hw q' os).view 0 _ _ rfl rfl) (by simp;omega)
   rw[←List.map_take] at this
   exact this
  have hz1:aD (f.body.take 1)<=aD f.body:=by
   have e:f.body=f.body.take 1++f.body.drop 1:=(VH _ _).symm
   have:aD f.body=aD (f.body.take 1)+aD (f.body.drop 1):=by rw[←bC,←e]
   omega
  have hS:=Ca G _ (f.body.take 1) (Nat.lt_succ_self _) (by omega)
  simp-implicitDefEqProofs[aa, ↓a0, ↓a1, ↓aF, ↓aB,r1,hkl]
  refine⟨by omega,?_⟩
  refine(AC.mkLend nS hS (.one (hv1 _ _) .nil)).mono ?_
  rintro r h ⟨vs,IN,os2,rfl,rfl,oN,nN,hN⟩
  obtain⟨vN,rfl⟩:=eE oN
  have hl1:(f.body.take 1).length=1:=by rw[Vl];omega
  have hneN:(f.body.take 1).map Sm.cs≠[]:=by intro h;rw[List.map_eq_nil_iff] at h;rw[h] at hl1;simp at hl1
  obtain⟨idN,rowsN,JN,rfl,rfl,hRN⟩:∃id rows J,vN= .sl id 5 0 1/\IN=id::J/\RowOwn true _ id 5 rows ((f.body.take 1).map Sm.cs) J:=by
   rcases oN.inv nN with⟨h0,_⟩|⟨h0,_⟩|⟨id,rows,J,e1,e2,e3⟩
   ·exact absurd h0 hneN
   ·cases h0
   ·rw[Vv,hl1] at e1;exact⟨id,rows,J,e1,e2,e3⟩
  have hidN:=hN idN (by simp)
  simp at hidN
  obtain⟨fN,rfl⟩:∃fN,idN=fN+1:=⟨idN-1,by omega⟩
  have hFT:fF<T.length:=(UL.1 tF).1
  have tN:=hRN.here
  simp only[VA,Vt,Vd,List.nil_append] at tN
  have hrN:rowsN.length=1:=by have:=hRN.len;rw[Vv,hl1] at this;exact this
  have hrB:rowsB.length=f.body.length:=by have:=hB.len;simpa using this
  have z1:∀os o y,((T++os).set fB o++y)[fF]?=some (.row 3 rowsF):=λos o y=>by
   rw[UN (by simp only[Vr,Va];omega),UM (λe=>hn1 (by rw[←e];simp))];exact aF os
  have z2:∀os o y x,(((T++os).set fB o++y).set fF x)[0]?=some (.row 1 [[.nils]]):=λos o y x=>by
   rw[UM (by omega),UN (by simp only[Vr,Va];omega),UM (by omega)];exact a0 os
  have z3:∀os o y x,(((T++os).set fB o++y).set fF x)[1]?=some (.row 1 [[.sl (fF+1) 3 0 l.length]]):=λos o y x=>by
   rw[UM (by omega),UN (by simp only[Vr,Va];omega),UM (by omega)];exact a1 os
  have z4:∀os o y x w,((((T++os).set fB o++y).set fF x).set 0 w)[0]?=some w:=λos o y x w=>UQ (by simp only[Vr,Va];omega)
  simp-implicitDefEqProofs[aa,dg, ↓a0, ↓a1, ↓aF, ↓aB, ↓tN, ↓z1, ↓z2, ↓z3, ↓z4,r1,hkl,hrN,hrB,-getElem?_pos,VK,Vd]
  rw[US (l:=rowsB) (by omega),US (l:=rowsN) (by omega)]
  have hbl:=cr f.body
  refine⟨⟨by omega,by omega⟩,?_⟩
  have hJB:∀x∈K1++(((fA+1)::(L1++(L0++L2)))++(I2++I3)++K2),3<=x/\x<T.length+1/\x≠fF+1/\x≠fB+1:=λx hx=>⟨hIB x (VD _ hx),by have:=hB.own.lt hx;simpa using this,λe=>hn1 (by rw[←e];simp only[UW];exact .inr (.inl (.inr (VD _ hx)))),λe=>nB.1 (e▸hx)⟩
  have hJN:∀x∈JN,T.length+3<=x/\x<T.length+3+os2.length:=λx hx=>⟨by have:=hN x (by simp[hx]);simp at this;omega,by have:=hRN.own.lt hx;simp at this;omega⟩
  have nle:∀(W:List AO) (fo bo:AO) (x y:AO),∀i,2<=i->i<T.length->i≠fF->i≠fB->(((((T++W).set fB bo)++[y]).set fF fo).set 0 x)[i]?=T[i]?:=λW fo bo x y i h1 h2 h3 h4=>by
   rw[UM (by omega),UM (by omega),UN (by simp only[Vr,Va];omega),UM (by omega),UN h2]
  have nri:∀(W:List AO) (fo bo:AO) (x y:AO),∀i,T.length<=i->i<(T++W).length->(((((T++W).set fB bo)++[y]).set fF fo).set 0 x)[i]?=(T++W)[i]?:=λW fo bo x y i h1 h2=>by
   rw[UM (by omega),UM (by omega),UN (by simpa using h2),UM (by omega)]
  have hbl2:=cr f.body
  have hzN:aD (f.body++f.body.take 1)<=400000000:=by rw[bC];omega
  refine finG _ _ (.sl (T.length+(os2.length+1+1)+1) 5 0 (f.body.length+1)) ((T.length+(os2.length+1+1)+1)::((K1++(((fA+1)::(L1++(L0++L2)))++(I2++I3)++K2))++JN++[])) (f.body++f.body.take 1) (λi g1 g2 g3 g4=>nle _ _ _ _ _ i g1 g2 g3 (λe=>g4 (by rw[e];simp))) ?_ ?_ ?_ (by omega) (by omega) (by omega)
  ·rw[UM (by omega),UQ (by simp only[Vr,Va];omega)]
  ·refine OwnL.sl _ 5 (f.body.length+1) (rowsB++rowsN) ((f.body++f.body.take 1).map Sm.cs) ?_ (by rw[Vv,Va,hl1]) (by rw[Va,Vv,Va,hl1,hrB,hrN]) (λe he=>?_) (λe he=>by obtain⟨x,_,rfl⟩:=Vi.1 he;simp) ?_ .nil
   ·rw[Vd,UM (by omega),UM (by omega),UT (by simp)]
    simp
   ·rcases UW.1 he with h|h
    ·exact hB.rl e h
    ·exact hRN.rl e h
   ·rw[List.map_append,List.flatten_append,List.flatten_append]
    refine(hB.own.frame λx hx=>?_).app (hRN.own.frame λx hx=>?_)
    ·obtain⟨x1,x2,x3,x4⟩:=hJB x hx
     obtain⟨i,rfl⟩:∃i,x=i+1:=⟨x-1,by omega⟩
     rw[Vd,Vd]
     exact nle _ _ _ _ _ i (by omega) (by omega) (by omega) (by omega)
    ·obtain⟨x1,x2⟩:=hJN x hx
     obtain⟨i,rfl⟩:∃i,x=i+1:=⟨x-1,by omega⟩
     simp only[VA,Vt,Vd,List.nil_append]
     exact nri _ _ _ _ _ i (by omega) (by simp;omega)
  ·intro i hi
   simp only[UX,UW,Vk,or_false] at hi
   rcases hi with rfl|hi|hi
   ·omega
   ·have:=(hJB i (by simp only[UX,UW];exact hi)).1;omega
   ·have:=(hJN i hi).1;omega
 by_cases c0:k3=0
 ·subst c0
  simp-implicitDefEqProofs[aa]
  refine(DO G hb hl (p:=q+1+1+1+1+1+1) (by omega) [[102],[103],[109],[113]] (k:=T.length+2+1) (by simp) (by simp) (by omega) rfl (by simp[cD])).mono ?_
  rintro r h ⟨s2,hs2,rfl,rfl⟩
  have hs28:s2.length<=8:=by simp at hs2;rcases hs2 with rfl|rfl|rfl|rfl<;>simp
  simp-implicitDefEqProofs[aa, ↓a0, ↓a1, ↓aB,u1,hjl, ↓aE, ↓aE2,-getElem?_pos,VK,Vd]
  refine aY (λhn=>?_) (λhn=>?_)
  ·simp-implicitDefEqProofs[↓a0, ↓a1, ↓aB, ↓aA,u1,hjl,g1,hargs, ↓v0, ↓v1, ↓v2, ↓aE,-getElem?_pos,VK,Vd]
   refine finA _ _ 13 0 s2 (.sl (T.length+3+1) 4 0 1) [T.length+3+1] [⟨1,1,[],[]⟩] (λi h1 h2 h3=>hv _ _ _ i h1 h2 h3) ?_ ?_ (by simp) (by simp[Ex.sz,bq];omega) (by omega) (by omega)
   ·rw[UM (by omega),UQ (by simp only[Va];omega)]
   ·refine RowOwn.tree (rows:=[[.p (.int .i64 1),.p (.int .i64 1),.p (.str []),.nils]]) (J:=[]) ⟨?_,rfl,by simp,by simp,?_,by simp⟩ rfl
    ·rw[Vd,UM (by omega),UM (by omega),UT (by omega),Vw];rfl
    ·simpa using JO (s:=true) (o:=1) (n:=1) (w:=[]) (k:=[]) (.nils 4 .nil)
  ·simp-implicitDefEqProofs[↓a0, ↓a1, ↓w0,-getElem?_pos,VK,Vd]
   refine finU _ _ ?_ (by omega) (by omega)
   intro i h1 h2
   rw[UM (by omega),UN h2]
 have d1:¬(k3:Int)=1:=by omega
 have d2:¬(k3:Int)=2:=by omega
 simp-implicitDefEqProofs[aa,c0,d1,d2, ↓a0, ↓a1, ↓aF, ↓aB,u1,hjl]
 refine aY (λhn=>?_) (λhn=>?_)
 ·simp-implicitDefEqProofs[↓a0, ↓a1, ↓aB, ↓aA,u1,hjl,g1,hargs, ↓v0, ↓v1, ↓v2, ↓aE,-getElem?_pos,VK,Vd]
  refine finA _ _ 2 0 s .nils [] [] (λi h1 h2 h3=>hv _ _ _ i h1 h2 h3) ?_ (.nils 4 .nil) (by simp) (by simp[Ex.sz,bq];omega) (by omega) (by omega)
  rw[UM (by omega),UQ (by simp only[Va];omega)]
 ·simp-implicitDefEqProofs[↓a0, ↓a1, ↓w0,-getElem?_pos,VK,Vd]
  refine finU _ _ ?_ (by omega) (by omega)
  intro i h1 h2
  rw[UM (by omega),UN h2]
end
end Go.Proofs.YtokiapglmedipaaGreatDoor
