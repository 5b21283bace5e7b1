/-
  Contracts and lemmas that the card needs, part 6.
-/
import Derived.Test.YtdfplkcigiblcaaGreatFp5
namespace Go.Proofs.YtdfplkcigiblcaaGreat
open Go Go.Aw
set_option maxRecDepth 100000
set_option maxHeartbeats 4000000
section
def Byt(l:List Int):Prop:=∀n∈l,0<=n/\n<=255
def rdO(b:List Int)(p:Nat):AO:= .row 2 [[.p (mt b),.p (.int .i64 p)]]
theorem En{a b:Int}(ha:0<=a)(ha2:a<4611686018427387904)(hb:0<=b)(hb2:b<4611686018427387904):∃n:Nat,IntKind.i64.wrap ((BitVec.ofInt IntKind.i64.bits a^^^BitVec.ofInt IntKind.i64.bits b).toNat:Int)=n:=by
 refine⟨(BitVec.ofInt IntKind.i64.bits a^^^BitVec.ofInt IntKind.i64.bits b).toNat,?_⟩
 obtain⟨x,rfl⟩:∃x:Nat,a=x:=⟨a.toNat,by omega⟩
 obtain⟨y,rfl⟩:∃y:Nat,b=y:=⟨b.toNat,by omega⟩
 have h1:(BitVec.ofInt 64 (x:Int)).toNat=x:=by simp;omega
 have h2:(BitVec.ofInt 64 (y:Int)).toNat=y:=by simp;omega
 have h3:(BitVec.ofInt 64 (x:Int)^^^BitVec.ofInt 64 (y:Int)).toNat<2^63:=by
  rw[BitVec.toNat_xor,h1,h2]
  exact Nat.xor_lt_two_pow (by omega) (by omega)
 have h4:(BitVec.ofInt IntKind.i64.bits (x:Int)^^^BitVec.ofInt IntKind.i64.bits (y:Int)).toNat<2^63:=h3
 exact ae (by omega) (by omega)
theorem Du{a:Nat}{n:Int}(hn:1<=n):∃k:Nat,((a:Int).tmod n)=k/\(k:Int)<n:=by
 obtain⟨m,rfl⟩:∃m:Nat,n=m:=⟨n.toNat,by omega⟩
 refine⟨a%m,?_,?_⟩
 ·rfl
 ·have:a%m<m:=Nat.mod_lt _ (by omega)
  omega
variable (G:az)
theorem Co(l:List Int):AC Tryz.prog G da [.p (mt l)] [] λx h=>x= .ret (.ptr 0 2 0 0)/\h=[rdO (l.take 2000) 0]:=by
 refine AC.go sM ?_
 have hbl:mt l= .lst 1 (l.map λn=>[.int .u8 n]):=rfl
 simp-implicitDefEqProofs[lG,hbl]
 refine aF (λh=>?_) (λh=>?_)
 ·simp at h
  have:2000<=l.length:=by omega
  simp-implicitDefEqProofs[this,rdO,mt,List.map_take]
 ·simp at h
  have:l.take 2000=l:=List.take_of_length_le (by omega)
  simp-implicitDefEqProofs[rdO,this,mt]
theorem KG(b:List Int)(hb:Byt b)(hl:b.length<=2000)(p:Nat)(hp:p<=1099511627776)(n:Int):AC Tryz.prog G bG [.ptr 0 2 0 0,.p (.int .i64 n)] [rdO b p] λx h=>∃k:Nat,x= .ret (.p (.int .i64 k))/\h=[rdO b (p+1)]/\((k:Int)<n\/k=0):=by
 refine AC.go pk ?_
 have hbl:mt b= .lst 1 (b.map λn=>[.int .u8 n]):=rfl
 have hw:IntKind.i64.wrap ((p:Int)+1)=((p+1:Nat):Int):=w1 (by omega)
 by_cases hn:n<1
 ·simp-implicitDefEqProofs[cR,rdO,hbl,hw,hn]
  exact⟨0,rfl,.inr rfl⟩
 by_cases hbn:b=[]
 ·subst hbn
  have hb0:mt []= .lst 1 []:=rfl
  simp-implicitDefEqProofs[cR,rdO,hb0,hw,hn]
  exact⟨0,rfl,.inr rfl⟩
 have hpos:0<b.length:=List.length_pos_iff.2 hbn
 have hlb:¬b.length=0:=by omega
 have hn0:¬n=0:=by omega
 have hw2:IntKind.i64.wrap (p:Int)=(p:Int):=ae (by omega) (by omega)
 have at_:∀q:Nat,∃c:Int,b[q%b.length]?=some c/\0<=c/\c<=255:=λq=>by
  have h:=Nat.mod_lt q hpos
  exact⟨_,List.getElem?_eq_getElem h,hb _ (List.getElem_mem h)⟩
 simp-implicitDefEqProofs[cR,rdO,hbl,hw,hn,hbn,hw2]
 refine aF (λh1=>?_) (λh1=>?_)
 ·simp at h1
  obtain⟨c,e1,e2,e3⟩:=at_ p
  rw[Nat.mod_eq_of_lt h1] at e1
  obtain⟨d,rfl⟩:∃d:Nat,c=d:=⟨c.toNat,by omega⟩
  obtain⟨k,q1,q2⟩:=Du (a:=d) (n:=n) (by omega)
  have hw3:IntKind.i64.wrap (d:Int)=d:=ae (by omega) (by omega)
  simp-implicitDefEqProofs[e1,hw3,hn0,q1]
  exact⟨k,rfl,.inl q2⟩
 ·simp at h1
  obtain⟨c1,e1,e2,e3⟩:=at_ p
  obtain⟨c2,f1,f2,f3⟩:=at_ (p*7+3)
  have hq:p/b.length<=p:=Nat.div_le_self _ _
  have ht1:(p:Int).tmod (b.length:Int)=((p%b.length:Nat):Int):=rfl
  have ht2:((p:Int)*7+3).tmod (b.length:Int)=(((p*7+3)%b.length:Nat):Int):=rfl
  have ht3:(p:Int).tdiv (b.length:Int)=((p/b.length:Nat):Int):=rfl
  generalize p/b.length=q at hq ht3
  generalize p%b.length=r1 at e1 ht1
  generalize (p*7+3)%b.length=r2 at f1 ht2
  obtain⟨x1,rfl⟩:∃d:Nat,c1=d:=⟨c1.toNat,by omega⟩
  obtain⟨x2,rfl⟩:∃d:Nat,c2=d:=⟨c2.toNat,by omega⟩
  obtain⟨m,hx⟩:=En (a:=x1*131+x2*1117+p*29+q*53) (b:=(x1*131+x2*1117+p*29+q*53)/64) (by omega) (by omega) (by omega) (by omega)
  obtain⟨k,q1,q2⟩:=Du (a:=m) (n:=n) (by omega)
  have ht4:((x1:Int)*131+x2*1117+p*29+q*53).tdiv 64=((x1:Int)*131+x2*1117+p*29+q*53)/64:=Int.tdiv_eq_ediv_of_nonneg (by omega)
  have w1:IntKind.i64.wrap ((p:Int)*7)=(p:Int)*7:=ae (by omega) (by omega)
  have w2:IntKind.i64.wrap ((p:Int)*7+3)=(p:Int)*7+3:=ae (by omega) (by omega)
  have w3:IntKind.i64.wrap ((p:Int)*29)=(p:Int)*29:=ae (by omega) (by omega)
  have w4:IntKind.i64.wrap (x1:Int)=x1:=ae (by omega) (by omega)
  have w5:IntKind.i64.wrap (x2:Int)=x2:=ae (by omega) (by omega)
  have w6:IntKind.i64.wrap ((x1:Int)*131)=(x1:Int)*131:=ae (by omega) (by omega)
  have w7:IntKind.i64.wrap ((x2:Int)*1117)=(x2:Int)*1117:=ae (by omega) (by omega)
  have w8:IntKind.i64.wrap ((x1:Int)*131+x2*1117)=(x1:Int)*131+x2*1117:=ae (by omega) (by omega)
  have w9:IntKind.i64.wrap ((x1:Int)*131+x2*1117+p*29)=(x1:Int)*131+x2*1117+p*29:=ae (by omega) (by omega)
  have w10:IntKind.i64.wrap (q:Int)=q:=ae (by omega) (by omega)
  have w11:IntKind.i64.wrap ((q:Int)*53)=(q:Int)*53:=ae (by omega) (by omega)
  have w12:IntKind.i64.wrap ((x1:Int)*131+x2*1117+p*29+q*53)=(x1:Int)*131+x2*1117+p*29+q*53:=ae (by omega) (by omega)
  have w13:IntKind.i64.wrap (((x1:Int)*131+x2*1117+p*29+q*53)/64)=((x1:Int)*131+x2*1117+p*29+q*53)/64:=ae (by omega) (by omega)
  simp-implicitDefEqProofs[hlb,ht1,ht2,ht3,e1,f1,w1,w2,w3,w4,w5,w6,w7,w8,w9,w10,w11,w12,w13,ht4,hx,hn0,q1]
  simp-implicitDefEqProofs[] at hx
  rw[hx]
  exact⟨k,q1,.inl q2⟩
theorem bW(b:List Int)(p n:Nat):okO n (rdO b p):=by simp[okO,rdO]
theorem aG(b:List Int)(hb:Byt b)(hl:b.length<=2000)(p:Nat)(hp:p<=1099511627776)(n:Int)(rest:List AO):AC Tryz.prog G bG [.ptr 0 2 0 0,.p (.int .i64 n)] (rdO b p::rest) λx h=>∃k:Nat,x= .ret (.p (.int .i64 k))/\h=rdO b (p+1)::rest/\((k:Int)<n\/k=0):=by
 refine((KG G b hb hl p hp n).pre rest (by simp[below]) (λo ho=>by rw[List.mem_singleton.1 ho];exact bW _ _ _) ?_).mono ?_
 ·rintro x h ⟨k,_,rfl,_⟩;rfl
 ·rintro x h ⟨h1,⟨k,e1,rfl,e3⟩,rfl⟩
  exact⟨k,e1,rfl,e3⟩
theorem ML{f:FuncId}{args:List AV}{b:List Int}{p:Nat}{o:AO}{R:AV->Nat->Prop}(H:AC Tryz.prog G f (.ptr 0 2 0 0::args) [rdO b p,o] λx h=>∃v q,x= .ret (.p v)/\h=[rdO b q,o]/\R (.p v) q)(ho:okO 0 o)
 {h:List AO}{k:Nat}{args':List AV}(hk:k≠0)(h0:h[0]?=some (rdO b p))(h1:h[k]?=some o)(hT:TW [0,k] args' args):AC Tryz.prog G f (.ptr 0 2 0 0::args') h λx h'=>∃v q,x= .ret (.p v)/\h'=h.set 0 (rdO b q)/\R (.p v) q:=by
 have nd:[0,k].Nodup:=by simp;omega
 refine(H.frame (args:= .ptr 0 2 0 0::args') [0,k] nd (by rw[Jr];exact⟨.inr ⟨by simp[below],rfl⟩,hT⟩) (iC h0 (bW _ _ _) (iC h1 ho jb))).mono ?_
 rintro x h' ⟨x0,h2,⟨v,q,rfl,rfl,r⟩,_,rfl,rfl⟩
 refine⟨v,q,by simp[Cj,ren],?_,r⟩
 have e1:∀σ,eZ σ (rdO b q)=rdO b q:=λσ=>oG (n:=0) (λi hi=>by omega) _ (bW _ _ _)
 have e2:∀σ,eZ σ o=o:=λσ=>oG (n:=0) (λi hi=>by omega) _ ho
 simp only[List.take,List.length_cons,List.length_nil,List.map_cons,List.map_nil,e1,e2,mrg,List.drop,List.append_nil]
 refine List.ext_getElem? λi=>?_
 rw[List.getElem?_set]
 split
 ·rename_i e;subst e
  rw[List.getElem?_set_ne (Ne.symm hk)]
  split
  ·exact h1.symm
  ·rename_i hl
   have:=(List.getElem?_eq_some_iff.1 h1).1
   simp at hl;omega
 ·rfl
theorem KR(b:List Int)(hb:Byt b)(hl:b.length<=2000)(p:Nat)(hp:p<=1099511627776)(l:List Int)(hne:l≠[])(hll:l.length<=1099511627776):AC Tryz.prog G bi [.ptr 0 2 0 0,.sl 1 1 0 l.length] [rdO b p,Be l] λx h=>∃v q,x= .ret (.p v)/\h=[rdO b q,Be l]/\(∃n,v= .int .i64 n/\n∈l)/\q=p+1:=by
 refine AC.go eV ?_
 have hpos:0<l.length:=List.length_pos_iff.2 hne
 simp-implicitDefEqProofs[dq]
 refine(aG G b hb hl p hp l.length [Be l]).mono ?_
 rintro r h ⟨k,rfl,rfl,hk⟩
 have hkl:k<l.length:=by omega
 have hg:=List.getElem?_eq_getElem hkl
 have hn:Be l= .row 1 (l.map λn=>[.p (.int .i64 n)]):=rfl
 simp-implicitDefEqProofs[aa,hkl,hn,hg]
theorem ig{b:List Int}(hb:Byt b)(hl:b.length<=2000){p:Nat}(hp:p<=1099511627776)(l:List Int){h:List AO}{k:Nat}(hne:l≠[])(hll:l.length<=1099511627776)(hk:k≠0)(h0:h[0]?=some (rdO b p))(h1:h[k]?=some (Be l)):
 AC Tryz.prog G bi [.ptr 0 2 0 0,.sl k 1 0 l.length] h λx h'=>∃n,n∈l/\x= .ret (.p (.int .i64 n))/\h'=h.set 0 (rdO b (p+1)):=by
 refine(ML G (args:=[.sl 1 1 0 l.length]) (R:=λv q=>(∃n,v= .p (.int .i64 n)/\n∈l)/\q=p+1) ((KR G b hb hl p hp l hne hll).mono ?_) (by simp[okO,Be]) (args':=[.sl k 1 0 l.length]) hk h0 h1 (by simp[below,ren])).mono ?_
 ·rintro x h ⟨v,q,e1,e2,⟨n,rfl,e3⟩,e4⟩
  exact⟨_,q,e1,e2,⟨n,rfl,e3⟩,e4⟩
 ·rintro x h' ⟨v,q,e1,e2,⟨n,e3,e4⟩,e5⟩
  cases e3;subst e5
  exact⟨n,e4,e1,e2⟩
theorem OP(b:List Int)(hb:Byt b)(hl:b.length<=2000)(p:Nat)(hp:p<=1099511627776)(l:List (List UInt8))(hne:l≠[])(hll:l.length<=1099511627776):AC Tryz.prog G bK [.ptr 0 2 0 0,.sl 1 1 0 l.length] [rdO b p,mm l] λx h=>∃v q,x= .ret (.p v)/\h=[rdO b q,mm l]/\(∃s,v= .str s/\s∈l)/\q=p+1:=by
 refine AC.go kz ?_
 have hpos:0<l.length:=List.length_pos_iff.2 hne
 simp-implicitDefEqProofs[fV]
 refine(aG G b hb hl p hp l.length [mm l]).mono ?_
 rintro r h ⟨k,rfl,rfl,hk⟩
 have hkl:k<l.length:=by omega
 have hg:=List.getElem?_eq_getElem hkl
 have hn:mm l= .row 1 (l.map λn=>[.p (.str n)]):=rfl
 simp-implicitDefEqProofs[aa,hkl,hn,hg]
theorem FY{b:List Int}(hb:Byt b)(hl:b.length<=2000){p:Nat}(hp:p<=1099511627776)(l:List (List UInt8))(hne:l≠[])(hll:l.length<=1099511627776)(rest:List AO):AC Tryz.prog G bK [.ptr 0 2 0 0,.p (bO l)] (rdO b p::rest) λx h=>∃s,s∈l/\x= .ret (.p (.str s))/\h=rdO b (p+1)::rest:=by
 have key:AC Tryz.prog G bK [.ptr 0 2 0 0,.p (bO l)] [rdO b p] λx h=>∃s,s∈l/\x= .ret (.p (.str s))/\h=[rdO b (p+1)]:=by
  refine AC.go kz ?_
  have hpos:0<l.length:=List.length_pos_iff.2 hne
  have hsl:bO l= .lst 1 (l.map λw=>[.str w]):=rfl
  simp-implicitDefEqProofs[fV,hsl]
  refine(aG G b hb hl p hp l.length []).mono ?_
  rintro r h ⟨k,rfl,rfl,hk⟩
  have hkl:k<l.length:=by omega
  have hg:=List.getElem?_eq_getElem hkl
  simp-implicitDefEqProofs[aa,hg]
 refine(key.pre rest (by simp[below]) (λo ho=>by rw[List.mem_singleton.1 ho];exact bW _ _ _) ?_).mono ?_
 ·rintro x h ⟨k,_,_,rfl⟩;rfl
 ·rintro x h ⟨h1,⟨s,e1,e2,rfl⟩,rfl⟩
  exact⟨s,e1,e2,rfl⟩
def DP(b:List Int)(Q:AV->Nat->Prop)(x:ARes)(h:List AO):Prop:=∃v rest q v1,x= .ret v/\h=rdO b q::rest/\Fzs (.dead::rest) 1 [v] [v1]/\Q v1 q
theorem gi{f:FuncId}{args:List AV}{b:List Int}{p:Nat}{Q:AV->Nat->Prop}(H:AC Tryz.prog G f args [rdO b p] (DP b Q)):AC Tryz.prog G f args [rdO b p] λx h=>∃v q,x= .ret v/\h=[rdO b q]/\Q v q:=by
 refine H.frz 1 (Nat.le_refl _) (λt v h ⟨_,_,_,_,e,_⟩=>by cases e) ?_
 rintro v h ⟨v0,rest,q,v1,e,rfl,hf,r⟩
 cases e
 exact⟨v1,[rdO b q],by simp,rfl,hf,.same (bW _ _ _) (.nil _),v1,q,rfl,rfl,r⟩
theorem gZ{f:FuncId}{args:List AV}{b:List Int}{p:Nat}{Q:AV->Nat->Prop}(H:AC Tryz.prog G f args [rdO b p] λx h=>∃v q,x= .ret v/\h=[rdO b q]/\Q v q)(rest:List AO)(ha:aA 1 args):AC Tryz.prog G f args (rdO b p::rest) λx h=>∃v q,x= .ret v/\h=rdO b q::rest/\Q v q:=by
 refine(H.pre rest ha (λo ho=>by rw[List.mem_singleton.1 ho];exact bW _ _ _) ?_).mono ?_
 ·rintro x h ⟨k,_,_,rfl,_⟩;rfl
 ·rintro x h ⟨h1,⟨s,q,e1,rfl,e2⟩,rfl⟩
  exact⟨s,q,e1,rfl,e2⟩
end
section
def yY(l:List (List UInt8)):Prop:=l.length<=1000000/\∀s∈l,s.length<=8
theorem cY{h:List AO}{id:Nat}{l:List Ex}(e:h[id]?=some (.row 4 (l.map λx=>x.cs.map .p))):View h (.sl id 4 0 l.length) (exL l):=by
 have:=eb (h:=h) (id:=id) (sz:=4) (n:=l.length) (ls:=l.map Ex.cs) (by rw[e];simp) (by simp) (λx hx=>by obtain⟨b,_,rfl⟩:=List.mem_map.1 hx;exact b.cs_len)
 exact this
variable (G:az)
def ExQ(p n m:Nat)(v:AV)(q:Nat):Prop:=(∃e:Ex,v= .agg (e.cs.map .p)/\e.sz<=n)/\p<=q/\q<=p+m
theorem zW{b:List Int}(hb:Byt b)(hl:b.length<=2000){p:Nat}(hp:p<=1000000000000)(names:List (List UInt8))(hn:yY names):AC Tryz.prog G fp [.ptr 0 2 0 0,.p (bO names)] [rdO b p] λx h=>∃v q,x= .ret v/\h=[rdO b q]/\ExQ p 9 2 v q:=by
 refine gi G (AC.go uU ?_)
 have hsl:bO names= .lst 1 (names.map λw=>[.str w]):=rfl
 have fin1:∀(o n:Int) (s:List UInt8) (q:Nat) (rest:List AO),p<=q->q<=p+2->s.length<=8->DP b (ExQ p 9 2) (.ret (.agg [.p (.int .i64 o),.p (.int .i64 n),.p (.str s),.nils])) (rdO b q::rest):=λo n s q rest h1 h2 hs=>
  ⟨_,rest,q,.agg ((Ex.mk o n s []).cs.map .p),rfl,rfl,.agg (.keep (by simp) (.keep (by simp) (.keep (by simp) (.one (View.nils 4) .nil)))) .nil,⟨_,rfl,by simp[Ex.sz,aS];omega⟩,h1,h2⟩
 have num:∀(q:Nat) (h:List AO),q<=1000000000001->h[0]?=some (rdO b q)->h[2]?=some (Be [0,1,2,3,5,7,15,16,100,255])->_:=λq h hq h0 h1=>ig G hb hl (p:=q) (by omega) [0,1,2,3,5,7,15,16,100,255] (h:=h) (k:=2) (by simp) (by simp) (by omega) h0 h1
 by_cases hne:names=[]
 ·subst hne
  have hs0:bO []= .lst 1 []:=rfl
  simp-implicitDefEqProofs[iZ,hs0]
  refine(num p _ (by omega) rfl rfl).mono ?_
  rintro r h ⟨n,_,rfl,rfl⟩
  simp-implicitDefEqProofs[aa]
  exact fin1 _ _ _ _ _ (by omega) (by omega) (by simp)
 ·have hlen:¬names.length=0:=λh=>hne (List.eq_nil_of_length_eq_zero h)
  simp-implicitDefEqProofs[iZ,hsl,hne]
  refine(aG G b hb hl p (by omega) 3 _).mono ?_
  rintro r h ⟨k,rfl,rfl,_⟩
  simp-implicitDefEqProofs[aa]
  refine aF (λhc=>?_) (λhc=>?_)
  ·simp-implicitDefEqProofs[]
   refine(num (p+1) _ (by omega) rfl rfl).mono ?_
   rintro r h ⟨n,_,rfl,rfl⟩
   simp-implicitDefEqProofs[aa]
   exact fin1 _ _ _ _ _ (by omega) (by omega) (by simp)
  ·simp-implicitDefEqProofs[]
   rw[←hsl]
   refine(FY G hb hl (by omega) names hne (by have:=hn.1;omega) _).mono ?_
   rintro r h ⟨s,hs,rfl,rfl⟩
   have:=hn.2 s hs
   simp-implicitDefEqProofs[aa]
   exact fin1 _ _ _ _ _ (by omega) (by omega) this
theorem GF{b:List Int}(hb:Byt b)(hl:b.length<=2000)(names:List (List UInt8))(hn:yY names):∀(d:Nat),d<=20->∀{p:Nat},p+6*3^d<=1000000000000->AC Tryz.prog G bl [.ptr 0 2 0 0,.p (bO names),.p (.int .i64 d)] [rdO b p] λx h=>∃v q,x= .ret v/\h=[rdO b q]/\ExQ p (10*3^d) (6*3^d) v q:=by
 intro d
 induction d with
 |zero=>
  intro _ p hp
  refine gi G (AC.go mR ?_)
  simp-implicitDefEqProofs[fk]
  refine(gZ G (zW G hb hl (by omega) names hn) _ (by simp[below])).mono ?_
  rintro r h ⟨v,q,rfl,rfl,⟨e,rfl,he⟩,h1,h2⟩
  have hec:=e.cs_eq
  simp-implicitDefEqProofs[aa,hec]
  exact⟨_,_,q,.agg (e.cs.map .p),rfl,rfl,.agg (by rw[hec];exact lM (by simp)) .nil,⟨e,rfl,by omega⟩,h1,by omega⟩
 |succ d ih=>
  intro hd p hp
  have hpow:3^(d+1)=3*3^d:=by rw[Nat.pow_succ];omega
  have h1p:1<=3^d:=Nat.one_le_pow _ _ (by omega)
  have ih:=λ{p:Nat} (hp:p+6*3^d<=1000000000000)=>ih (by omega) (p:=p) hp
  rw[hpow] at hp⊢
  generalize 3^d=t at*
  have hw:IntKind.i64.wrap (d:Int)=(d:Int):=ae (by omega) (by omega)
  have leaf:∀(q:Nat) (rest:List AO),p<=q->q<=p+3->AC Tryz.prog G fp [.ptr 0 2 0 0,.p (bO names)] (rdO b q::rest) λx h=>∃v q',x= .ret v/\h=rdO b q'::rest/\ExQ q 9 2 v q':=λq rest _ _=>gZ G (zW G hb hl (by omega) names hn) rest (by simp[below])
  have sub:∀(q:Nat) (rest:List AO),p<=q->q<=p+6+6*t->AC Tryz.prog G bl [.ptr 0 2 0 0,.p (bO names),.p (.int .i64 d)] (rdO b q::rest) λx h=>∃v q',x= .ret v/\h=rdO b q'::rest/\ExQ q (10*t) (6*t) v q':=λq rest _ _=>gZ G (ih (by omega)) rest (by simp[below])
  refine gi G (AC.go mR ?_)
  have leafCase:∀(e:Ex) (q:Nat) (rest:List AO),e.sz<=9->p<=q->q<=p+5->DP b (ExQ p (10*(3*t)) (6*(3*t))) (.ret (.agg (e.cs.map .p))) (rdO b q::rest):=λe q rest h1 h2 h3=>
   ⟨_,_,q,.agg (e.cs.map .p),rfl,rfl,.agg (by rw[e.cs_eq];exact lM (by simp)) .nil,⟨e,rfl,by omega⟩,h2,by omega⟩
  have bin:∀(o:Int) (e1 e2:Ex) (q:Nat) (rest:List AO) (k:Nat),(rdO b q::rest)[k+1]?=some (.row 4 [e1.cs.map .p,e2.cs.map .p])->e1.sz<=10*t->e2.sz<=10*t->p<=q->q<=p+6*(3*t)->DP b (ExQ p (10*(3*t)) (6*(3*t))) (.ret (.agg [.p (.int .i64 o),.p (.int .i64 0),.p (.str []),.sl (k+1) 4 0 2])) (rdO b q::rest):=λo e1 e2 q rest k hk h1 h2 h3 h4=>
   ⟨_,rest,q,.agg ((Ex.mk o 0 [] [e1,e2]).cs.map .p),rfl,rfl,.agg (.keep (by simp) (.keep (by simp) (.keep (by simp) (.one (cY (l:=[e1,e2]) (by simpa using hk)) .nil)))) .nil,⟨_,rfl,by simp[Ex.sz,aS];omega⟩,h3,h4⟩
  have una:∀(o:Int) (e1:Ex) (q:Nat) (rest:List AO) (k:Nat),(rdO b q::rest)[k+1]?=some (.row 4 [e1.cs.map .p])->e1.sz<=10*t->p<=q->q<=p+6*(3*t)->DP b (ExQ p (10*(3*t)) (6*(3*t))) (.ret (.agg [.p (.int .i64 o),.p (.int .i64 0),.p (.str []),.sl (k+1) 4 0 1])) (rdO b q::rest):=λo e1 q rest k hk h1 h3 h4=>
   ⟨_,rest,q,.agg ((Ex.mk o 0 [] [e1]).cs.map .p),rfl,rfl,.agg (.keep (by simp) (.keep (by simp) (.keep (by simp) (.one (cY (l:=[e1]) (by simpa using hk)) .nil)))) .nil,⟨_,rfl,by simp[Ex.sz,aS];omega⟩,h3,h4⟩
  by_cases hd0:d=0
  ·subst hd0
   simp-implicitDefEqProofs[fk]
   refine(leaf p _ (by omega) (by omega)).mono ?_
   rintro r h ⟨v,q,rfl,rfl,⟨e,rfl,he⟩,h1,h2⟩
   have hec:=e.cs_eq
   simp-implicitDefEqProofs[aa,hec]
   have:=leafCase e q [.row 4 [e.cs.map .p]] he h1 (by omega)
   rw[hec] at this
   exact this
  have hd2:¬(d:Int)+1<2:=by omega
  simp-implicitDefEqProofs[fk,hd2]
  refine(aG G b hb hl p (by omega) 4 _).mono ?_
  rintro r h ⟨k1,rfl,rfl,_⟩
  simp-implicitDefEqProofs[aa]
  refine aF (λhc=>?_) (λhc=>?_)
  ·simp-implicitDefEqProofs[]
   refine(leaf (p+1) _ (by omega) (by omega)).mono ?_
   rintro r h ⟨v,q,rfl,rfl,⟨e,rfl,he⟩,h1,h2⟩
   have hec:=e.cs_eq
   simp-implicitDefEqProofs[aa,hec]
   have:=leafCase e q [.row 4 [e.cs.map .p]] he (by omega) (by omega)
   rw[hec] at this
   exact this
  simp-implicitDefEqProofs[]
  refine(aG G b hb hl (p+1) (by omega) 7 _).mono ?_
  rintro r h ⟨k2,rfl,rfl,_⟩
  simp-implicitDefEqProofs[aa]
  refine aF (λhc=>?_) (λhc=>?_)
  ·simp-implicitDefEqProofs[]
   refine(ig G hb hl (p:=p+2) (by omega) [11,12,11] (k:=2) (by simp) (by simp) (by omega) rfl rfl).mono ?_
   rintro r h ⟨n,_,rfl,rfl⟩
   simp-implicitDefEqProofs[aa,hw]
   refine(sub (p+3) _ (by omega) (by omega)).mono ?_
   rintro r h ⟨v,q,rfl,rfl,⟨e,rfl,he⟩,h1,h2⟩
   have hec:=e.cs_eq
   simp-implicitDefEqProofs[aa,hec]
   exact una n e q _ 2 (by rw[hec];rfl) he (by omega) (by omega)
  ·simp-implicitDefEqProofs[]
   refine(ig G hb hl (p:=p+2) (by omega) [3,3,4,5,6,7,8,9,10] (k:=2) (by simp) (by simp) (by omega) rfl rfl).mono ?_
   rintro r h ⟨n,_,rfl,rfl⟩
   simp-implicitDefEqProofs[aa,hw]
   refine(sub (p+3) _ (by omega) (by omega)).mono ?_
   rintro r h ⟨v,q,rfl,rfl,⟨e,rfl,he⟩,h1,h2⟩
   have hec:=e.cs_eq
   simp-implicitDefEqProofs[aa,hec,hw]
   refine(sub q _ (by omega) (by omega)).mono ?_
   rintro r h ⟨v,q2,rfl,rfl,⟨e2,rfl,he2⟩,h3,h4⟩
   have hec2:=e2.cs_eq
   simp-implicitDefEqProofs[aa,hec2]
   exact bin n e e2 q2 _ 2 (by rw[hec,hec2];rfl) he he2 (by omega) (by omega)
end
section
def bL(fns:List Fd)(vs:List (List UInt8))(next left:Int):List AV:=[.ptr 0 2 0 0,slE 2 3 (aW fns),.p (bO vs),.p (.int .i64 next),.p (.int .i64 left)]
def HG(b:List Int)(p:Nat)(fns:List Fd)(vs:List (List UInt8))(next left:Int):List AO:=[rdO b p,.row 5 [bL fns vs next left],dd 3 (aW fns)]
def DG(b:List Int)(fns:List Fd)(Q:AV->Nat->List (List UInt8)->Int->Int->Prop)(x:ARes)(h:List AO):Prop:=
 ∃v rest q vc v1 vs next left,x= .ret v/\h=rdO b q:: .row 5 [[.ptr 0 2 0 0,slE 2 3 (aW fns),vc,.p (.int .i64 next),.p (.int .i64 left)]]::dd 3 (aW fns)::rest/\
  Fzs (.dead:: .dead:: .dead::rest) 3 [vc] [.p (bO vs)]/\Fzs (.dead:: .dead:: .dead::rest) 3 [v] [v1]/\Q v1 q vs next left
def PG(b:List Int)(fns:List Fd)(Q:AV->Nat->List (List UInt8)->Int->Int->Prop)(rest:List AO)(x:ARes)(h:List AO):Prop:=
 ∃v q vs next left,x= .ret v/\h=rdO b q:: .row 5 [bL fns vs next left]::dd 3 (aW fns)::rest/\Q v q vs next left
variable (G:az)
theorem iK{f:FuncId}{args:List AV}{b:List Int}{p:Nat}{fns:List Fd}{vs:List (List UInt8)}{next left:Int}{Q:AV->Nat->List (List UInt8)->Int->Int->Prop}(H:AC Tryz.prog G f args (HG b p fns vs next left) (DG b fns Q)):
 AC Tryz.prog G f args (HG b p fns vs next left) (PG b fns Q []):=by
 refine H.frz 3 (by simp[HG]) (λt v h ⟨_,_,_,_,_,_,_,_,e,_⟩=>by cases e) ?_
 rintro v h ⟨v0,rest,q,vc,v1,vs',n',l',e,rfl,hc,hf,r⟩
 cases e
 refine⟨v1,HG b q fns vs' n' l',by simp,rfl,hf,.same (bW _ _ _) (.one ?_ (.same (iL _ _) (.nil _))),v1,q,vs',n',l',rfl,rfl,r⟩
 exact .keep (by simp[below]) (.keep (lY (by omega)) (hc.append (.keep (by simp) (.keep (by simp) .nil))))
theorem Fc(b:List Int)(p:Nat)(fns:List Fd)(vs:List (List UInt8))(next left:Int):∀o∈HG b p fns vs next left,okO 3 o:=by
 intro o ho
 simp only[HG,List.mem_cons,List.not_mem_nil,or_false] at ho
 rcases ho with rfl|rfl|rfl
 ·exact bW _ _ _
 ·intro e he
  rw[List.mem_singleton.1 he]
  exact⟨by simp[below],lY (by omega),by simp,by simp,by simp,trivial⟩
 ·exact iL _ _
theorem bY{f:FuncId}{args:List AV}{b:List Int}{p:Nat}{fns:List Fd}{vs:List (List UInt8)}{next left:Int}{Q:AV->Nat->List (List UInt8)->Int->Int->Prop}(H:AC Tryz.prog G f args (HG b p fns vs next left) (PG b fns Q []))(rest:List AO)(ha:aA 3 args):
 AC Tryz.prog G f args (rdO b p:: .row 5 [bL fns vs next left]::dd 3 (aW fns)::rest) (PG b fns Q rest):=by
 refine(AC.pre H rest ha (Fc _ _ _ _ _ _) ?_).mono ?_
 ·rintro x h ⟨v,q,vs',n',l',_,rfl,_⟩;rfl
 ·rintro x h ⟨h1,⟨v,q,vs',n',l',e1,rfl,e2⟩,rfl⟩
  exact⟨v,q,vs',n',l',e1,rfl,e2⟩
def Nb(p:Nat)(vs:List (List UInt8))(next left:Int)(v:AV)(q:Nat)(vs':List (List UInt8))(next' left':Int):Prop:=(∃s:List UInt8,v= .p (.str s)/\s.length<=8)/\p<=q/\q<=p+2/\vs'=vs/\next'=next+1/\left'=left
theorem CV{b:List Int}(hb:Byt b)(hl:b.length<=2000){p:Nat}(hp:p+2<=1000000000000)(fns:List Fd)(vs:List (List UInt8))(hv:yY vs){next:Int}(hn: -1<=next)(hn2:next<=1000000000000)(left:Int):
 AC Tryz.prog G dO [.ptr 1 5 0 0] (HG b p fns vs next left) (PG b fns (Nb p vs next left) []):=by
 refine iK G (AC.go ni ?_)
 have hw:IntKind.i64.wrap (next+1)=next+1:=ae (by omega) (by omega)
 have hsl:bO vs= .lst 1 (vs.map λw=>[.str w]):=rfl
 simp-implicitDefEqProofs[gW,HG,bL,hw]
 refine(aG G b hb hl p (by omega) 9 _).mono ?_
 rintro r h ⟨k,rfl,rfl,_⟩
 have fin:∀(s:List UInt8) (q:Nat),s.length<=8->p<=q->q<=p+2->DG b fns (Nb p vs next left) (.ret (.p (.str s))) [rdO b q,.row 5 [[.ptr 0 2 0 0,slE 2 3 (aW fns),.p (bO vs),.p (.int .i64 (next+1)),.p (.int .i64 left)]],dd 3 (aW fns)]:=λs q h1 h2 h3=>
  ⟨_,[],q,_,_,vs,next+1,left,rfl,rfl,.keep (by simp) .nil,.keep (by simp) .nil,⟨s,rfl,h1⟩,h2,h3,rfl,rfl,rfl⟩
 obtain⟨N,hN⟩:∃N:Nat,next+1=N:=⟨(next+1).toNat,by omega⟩
 have hm:N%24<24:=Nat.mod_lt _ (by omega)
 have ht:(N:Int).tmod 24=((N%24:Nat):Int):=rfl
 have hw2:IntKind.i64.wrap (((N%24:Nat):Int)+1)=((N%24+1:Nat):Int):=w1 (by omega)
 rw[hN] at fin⊢
 generalize N%24=m at hm ht hw2
 have hm1:m+1<=24:=by omega
 have h0m:(0:Int)<=(m:Int)+1:=by omega
 by_cases hc:k=0/\vs≠[]
 ·obtain⟨rfl,hne⟩:=hc
  have hpos:0<vs.length:=List.length_pos_iff.2 hne
  simp-implicitDefEqProofs[aa,hsl,hpos]
  rw[←hsl]
  refine(FY G hb hl (by omega) vs hne (by have:=hv.1;omega) _).mono ?_
  rintro r h ⟨s,hs,rfl,rfl⟩
  simp-implicitDefEqProofs[aa]
  exact fin s _ (hv.2 s hs) (by omega) (by omega)
 ·have hcc:(k=0/\0<vs.length)=False:=by
   simp only[eq_iff_iff,iff_false]
   exact λ⟨a,c⟩=>hc ⟨a,List.length_pos_iff.1 c⟩
  by_cases hk:k=0
  ·have hv0:vs=[]:=by
    by_cases e:vs=[]
    ·exact e
    ·exact absurd ⟨hk,e⟩ hc
   subst hv0
   have hs0:bO []= .lst 1 []:=rfl
   simp-implicitDefEqProofs[aa,hs0,hk,ht,hw2,hm1,h0m]
   rw[←hs0]
   refine fin _ (p+1) ?_ (by omega) (by omega)
   simp
   omega
  ·simp-implicitDefEqProofs[aa,hk,ht,hw2,hm1,h0m]
   refine fin _ (p+1) ?_ (by omega) (by omega)
   simp
   omega
def tC(fns:List Fd):Prop:=fns.length<=1000/\∀f∈fns,f.name.length<=8/\f.params.length<=3
def MH(p:Nat)(vs:List (List UInt8))(next left:Int)(v:AV)(q:Nat)(vs':List (List UInt8))(next' left':Int):Prop:=(∃e:Ex,v= .agg (e.cs.map .p)/\e.sz<=400)/\p<=q/\q<=p+400/\vs'=vs/\next'=next/\left'=left
theorem Ga{b:List Int}(hb:Byt b)(hl:b.length<=2000){p:Nat}(hp:p<=1000000000000)(l:List Int)(hne:l≠[])(hll:l.length<=1000000000000)(rest:List AO):
 AC Tryz.prog G bi [.ptr 0 2 0 0,.p (aC l)] (rdO b p::rest) λx h=>∃n,n∈l/\x= .ret (.p (.int .i64 n))/\h=rdO b (p+1)::rest:=by
 have key:AC Tryz.prog G bi [.ptr 0 2 0 0,.p (aC l)] [rdO b p] λx h=>∃n,n∈l/\x= .ret (.p (.int .i64 n))/\h=[rdO b (p+1)]:=by
  refine AC.go eV ?_
  have hpos:0<l.length:=List.length_pos_iff.2 hne
  have hnl:aC l= .lst 1 (l.map λn=>[.int .i64 n]):=rfl
  simp-implicitDefEqProofs[dq,hnl]
  refine(aG G b hb hl p (by omega) l.length []).mono ?_
  rintro r h ⟨m,rfl,rfl,hm⟩
  have hml:m<l.length:=by omega
  have hg:=List.getElem?_eq_getElem hml
  simp-implicitDefEqProofs[aa,hg]
 refine(key.pre rest (by simp[below]) (λo ho=>by rw[List.mem_singleton.1 ho];exact bW _ _ _) ?_).mono ?_
 ·rintro x h ⟨n,_,_,rfl⟩;rfl
 ·rintro x h ⟨h1,⟨n,e1,e2,rfl⟩,rfl⟩
  exact⟨n,e1,e2,rfl⟩
structure ExS where (es:List Ex) (q:Nat)
theorem jl{b:List Int}(hb:Byt b)(hl:b.length<=2000){p:Nat}(hp:p+1000<=1000000000000)(fns:List Fd)(hf:tC fns)(vs:List (List UInt8))(hv:yY vs)(next left:Int){d:Nat}(hd:d<=3):
 AC Tryz.prog G eF [.ptr 1 5 0 0,.p (.int .i64 d)] (HG b p fns vs next left) (PG b fns (MH p vs next left) []):=by
 refine iK G (AC.go nQ ?_)
 have hpow:3^d<=27:=by
  have:3^d<=3^3:=Nat.pow_le_pow_right (by omega) hd
  omega
 have sub:∀(k:Nat),k<=3->∀(q:Nat) (rest:List AO),p<=q->q<=p+700->AC Tryz.prog G bl [.ptr 0 2 0 0,.p (bO vs),.p (.int .i64 k)] (rdO b q::rest) λx h=>∃v q',x= .ret v/\h=rdO b q'::rest/\ExQ q (10*3^k) (6*3^k) v q':=λk hk q rest _ _=>by
  have:3^k<=3^3:=Nat.pow_le_pow_right (by omega) hk
  exact gZ G (GF G hb hl vs hv k (by omega) (by omega)) rest (by simp[below])
 simp-implicitDefEqProofs[iF,HG,bL]
 refine(sub d hd p _ (by omega) (by omega)).mono ?_
 rintro r h ⟨v,q0,rfl,rfl,⟨e0,rfl,he0⟩,hq1,hq2⟩
 have hec:=e0.cs_eq
 simp-implicitDefEqProofs[aa,hec]
 have finE:∀(e:Ex) (q:Nat) (rest:List AO) (v:AV),Fzs (.dead:: .dead:: .dead::rest) 3 [v] [.agg (e.cs.map .p)]->e.sz<=400->p<=q->q<=p+400->DG b fns (MH p vs next left) (.ret v) (rdO b q:: .row 5 [[.ptr 0 2 0 0,slE 2 3 (aW fns),.p (bO vs),.p (.int .i64 next),.p (.int .i64 left)]]::dd 3 (aW fns)::rest):=λe q rest v hz h1 h2 h3=>
  ⟨_,rest,q,_,_,vs,next,left,rfl,rfl,.keep (by simp) .nil,hz,⟨e,rfl,h1⟩,h2,h3,rfl,rfl,rfl⟩
 have fz0:∀rest,Fzs (.dead:: .dead:: .dead::rest) 3 [.agg [.p (.int .i64 e0.op),.p (.int .i64 e0.n),.p (.str e0.name),.p (exL e0.kids)]] [.agg (e0.cs.map .p)]:=λrest=> .agg (by rw[hec];exact lM (by simp)) .nil
 by_cases hfe:fns=[]
 ·have h0:aW fns=[]:=by rw[hfe];rfl
  simp-implicitDefEqProofs[h0]
  rw[←h0]
  have:=finE e0 q0 [.row 4 [[.p (.int .i64 e0.op),.p (.int .i64 e0.n),.p (.str e0.name),.p (exL e0.kids)]],.row 4 [[.p (.int .i64 e0.op),.p (.int .i64 e0.n),.p (.str e0.name),.p (exL e0.kids)]]] _ (fz0 _) (by omega) (by omega) (by omega)
  rw[h0] at this⊢
  exact this
 have hfr:¬aW fns=[]:=λh=>hfe (List.map_eq_nil_iff.1 h)
 have hfl:(aW fns).length=fns.length:=by simp[aW]
 have hfp:0<fns.length:=List.length_pos_iff.2 hfe
 simp only[fx hfr,cU hfr,hfl] at finE
 rw[show dd 3 (aW fns)= .row 3 (aW fns) from fx hfr,show slE 2 3 (aW fns)= .sl 2 3 0 (aW fns).length from cU hfr,hfl]
 generalize hR:aW fns=R at*
 simp-implicitDefEqProofs[hfr]
 refine(aG G b hb hl q0 (by omega) 4 _).mono ?_
 rintro r h ⟨k1,rfl,rfl,_⟩
 simp-implicitDefEqProofs[aa]
 refine aF (λhc=>?_) (λhc=>?_)
 ·simp-implicitDefEqProofs[]
  exact finE e0 _ _ _ (fz0 _) (by omega) (by omega) (by omega)
 simp-implicitDefEqProofs[hfl]
 refine(aG G b hb hl (q0+1) (by omega) fns.length _).mono ?_
 rintro r h ⟨k2,rfl,rfl,hk2⟩
 have hk:k2<fns.length:=by omega
 have hg:=List.getElem?_eq_getElem hk
 have hgr:R[k2]?=some (fns[k2].cs.map .p):=by rw[←hR,aW,List.getElem?_map,hg];rfl
 have hfo:=hf.2 _ (List.getElem_mem hk)
 generalize fns[k2]=fd at hg hgr hfo
 have hfc:fd.cs=[.str fd.name,bO fd.params,smL fd.body]:=rfl
 have hsp:bO fd.params= .lst 1 (fd.params.map λw=>[.str w]):=rfl
 clear hfl hg
 simp-implicitDefEqProofs[aa,hgr,hk,hfc]
 have hexn:∀(es:List Ex) (e:Ex),exR (es++[e])=exR es++[e.cs.map .p]:=λes e=>by simp[exR]
 have hRp:∀x∈R,aA 0 x:=by rw[←hR];exact pY fns
 refine aH (λs:ExS=>aw 99 [(8,.p (.int .i64 s.es.length)),(7,.ptr 6 4 0 0),(6,.ptr 5 3 0 0),(4,.ptr 3 4 0 0),(0,.ptr 1 5 0 0)])
  (λs=>[rdO b s.q,.row 5 [[.ptr 0 2 0 0,.sl 2 3 0 fns.length,.p (bO vs),.p (.int .i64 next),.p (.int .i64 left)]],.row 3 R,.row 4 [[.p (.int .i64 0),.p (.int .i64 0),.p (.str []),.nils]],
    .row 4 [[.p (.int .i64 e0.op),.p (.int .i64 e0.n),.p (.str e0.name),.p (exL e0.kids)]],.row 3 [[.p (.str fd.name),.p (bO fd.params),.p (smL fd.body)]],.row 4 [[.p (.int .i64 13),.p (.int .i64 0),.p (.str fd.name),slE 7 4 (exR s.es)]],dd 4 (exR s.es)])
  (λs=>s.es.length<=fd.params.length/\aS s.es<=90*s.es.length/\q0<=s.q/\s.q<=q0+2+54*s.es.length) (λs=>fd.params.length-s.es.length) ⟨[],q0+1+1⟩ ⟨by simp,by simp[aS],by simp only;omega,by simp⟩
  (Fk (by simp) (by simp) (by
    intro o h
    simp only[List.mem_cons,List.not_mem_nil,or_false] at h
    rcases h with rfl|rfl|rfl|rfl|rfl|rfl|rfl
    ·exact bW _ _ _
    ·simp[okO,below]
    ·exact yS (λe he=>hRp e he)
    ·simp[okO,below]
    ·simp[okO,below]
    ·simp[okO,below]
    ·simp[okO,below]) (by simp[below])) ?_
 rintro⟨es,q⟩ ⟨h1,h2,h3,h4⟩
 simp only at h1 h2 h3 h4
 simp-implicitDefEqProofs[hsp]
 refine aF (λhc=>?_) (λhc=>?_)
 ·simp at hc
  have hp3:=hfo.2
  simp-implicitDefEqProofs[]
  refine(sub 2 (by omega) q _ (by omega) (by omega)).mono ?_
  rintro r h ⟨v,q2,rfl,rfl,⟨e,rfl,he⟩,hq3,hq4⟩
  have hec:=e.cs_eq
  simp-implicitDefEqProofs[aa,hec]
  have hxl:(exR es).length=es.length:=by simp[exR]
  refine⟨by rw[hxl];omega,⟨es++[e],q2⟩,⟨by simp;omega,by rw[dX];simp[aS];omega,by simp only;omega,by simp;omega⟩,by simp;omega,?_⟩
  rw[hexn,It _ (by simp),Fo _ (by simp),hec]
  refine mf [0,1,2,3,4,5,6,8] (by simp) (by decide) (by decide) (iC rfl (bW _ _ _) (ed (by simp[below]) (by simp[ren,bn]) (dx rfl hRp (dx rfl (by simp[below]) (dx rfl (by simp[below]) (dx rfl (by simp[below]) (ed (by simp[below]) (by simp[ren,bn]) (dx rfl (λx hx=>by
   rcases List.mem_append.1 hx with h|h
   ·exact GN _ x h
   ·rw[List.mem_singleton.1 h];simp) jb)))))))) ?_
  simp[below,ren,w1 (i:=es.length) (by omega)]
 ·simp at hc
  have hp3:=hfo.2
  have hlen:es.length=fd.params.length:=by omega
  have hxl:(exR es).length=es.length:=by simp[exR]
  have hkids:∀(h:List AO),h[7]?=some (dd 4 (exR es))->View h (slE 7 4 (exR es)) (exL es):=λh hh=>Fu hh
  simp-implicitDefEqProofs[]
  refine(aG G b hb hl q (by omega) 2 _).mono ?_
  rintro r h ⟨k3,rfl,rfl,_⟩
  simp-implicitDefEqProofs[aa]
  refine aF (λhc2=>?_) (λhc2=>?_)
  ·simp-implicitDefEqProofs[]
   have hcc:(Ex.mk 13 0 fd.name es).cs=[.int .i64 13,.int .i64 0,.str fd.name,exL es]:=Ex.cs_eq _
   exact finE ⟨13,0,fd.name,es⟩ (q+1) _ _ (.agg (by rw[hcc];exact .keep (by simp) (.keep (by simp) (.keep (by simp) (.one (hkids _ rfl) .nil)))) .nil) (by simp[Ex.sz];omega) (by omega) (by omega)
  ·simp-implicitDefEqProofs[]
   refine(Ga G hb hl (p:=q+1) (by omega) [3,4,8,10] (by simp) (by simp) _).mono ?_
   rintro r h ⟨n,_,rfl,rfl⟩
   simp-implicitDefEqProofs[aa]
   refine(sub 2 (by omega) (q+1+1) _ (by omega) (by omega)).mono ?_
   rintro r h ⟨v,q2,rfl,rfl,⟨e,rfl,he⟩,hq3,hq4⟩
   have hec:=e.cs_eq
   simp-implicitDefEqProofs[aa,hec]
   have hcc:(Ex.mk 13 0 fd.name es).cs=[.int .i64 13,.int .i64 0,.str fd.name,exL es]:=Ex.cs_eq _
   exact finE ⟨n,0,[],[⟨13,0,fd.name,es⟩,e]⟩ q2 _ _ (.agg (.keep (by simp) (.keep (by simp) (.keep (by simp) (.one (nZ (p0:=(Ex.mk 13 0 fd.name es).cs) (p1:=e.cs) rfl (Ex.cs_len _) (Ex.cs_len _) (λj q a e1 e2=>by
    rw[hcc] at e1
    match j,e1,e2 with
    |0,e1,e2=>cases e1;cases e2;exact .p _
    |1,e1,e2=>cases e1;cases e2;exact .p _
    |2,e1,e2=>cases e1;cases e2;exact .p _
    |3,e1,e2=>cases e1;cases e2;exact hkids _ rfl
    |j+4,e1,e2=>simp at e1) (λj q a e1 e2=>by
    rw[hec] at e1
    match j,e1,e2 with
    |0,e1,e2=>cases e1;cases e2;exact .p _
    |1,e1,e2=>cases e1;cases e2;exact .p _
    |2,e1,e2=>cases e1;cases e2;exact .p _
    |3,e1,e2=>cases e1;cases e2;exact .p _
    |j+4,e1,e2=>simp at e1)) .nil)))) .nil) (by simp[Ex.sz,aS];omega) (by omega) (by omega)
end
section
variable (G:az)
def OB(p:Nat)(vs:List (List UInt8))(next left:Int)(v:AV)(q:Nat)(vs':List (List UInt8))(next' left':Int):Prop:=(∃e:Ex,v= .agg (e.cs.map .p)/\e.sz<=410)/\p<=q/\q<=p+401/\vs'=vs/\next'=next/\left'=left
theorem Hs{b:List Int}(hb:Byt b)(hl:b.length<=2000){p:Nat}(hp:p+2000<=1000000000000)(fns:List Fd)(hf:tC fns)(vs:List (List UInt8))(hv:yY vs)(next left:Int):
 AC Tryz.prog G cS [.ptr 1 5 0 0] (HG b p fns vs next left) (PG b fns (OB p vs next left) []):=by
 refine iK G (AC.go pg ?_)
 simp-implicitDefEqProofs[iB,HG,bL]
 refine(bY G (jl G hb hl (p:=p) (by omega) fns hf vs hv next left (d:=2) (by omega)) _ (by simp[below])).mono ?_
 rintro r h ⟨v,q,vs',n',l',rfl,rfl,⟨e,rfl,he⟩,h1,h2,rfl,rfl,rfl⟩
 have hec:=e.cs_eq
 simp-implicitDefEqProofs[aa,bL,hec]
 refine(Ga G hb hl (p:=q) (by omega) [16,16,16,8,17,0] (by simp) (by simp) _).mono ?_
 rintro r h ⟨n,_,rfl,rfl⟩
 simp-implicitDefEqProofs[aa]
 have hn:(Ex.mk 1 n [] []).cs=[.int .i64 1,.int .i64 n,.str [],.lst 4 []]:=Ex.cs_eq _
 refine⟨_,[_,_],q+1,_,.agg ((Ex.mk 7 0 [] [e,⟨1,n,[],[]⟩]).cs.map .p),vs',n',l',rfl,rfl,.keep (by simp) .nil,.agg (.keep (by simp) (.keep (by simp) (.keep (by simp) (.one (nZ (p0:=e.cs) (p1:=(Ex.mk 1 n [] []).cs) rfl (Ex.cs_len _) (Ex.cs_len _) (λj q a e1 e2=>?_) (λj q a e1 e2=>?_)) .nil)))) .nil,⟨_,rfl,by simp[Ex.sz,aS];omega⟩,by omega,by omega,rfl,rfl,rfl⟩
 ·rw[hec] at e1
  match j,e1,e2 with
  |0,e1,e2=>cases e1;cases e2;exact .p _
  |1,e1,e2=>cases e1;cases e2;exact .p _
  |2,e1,e2=>cases e1;cases e2;exact .p _
  |3,e1,e2=>cases e1;cases e2;exact .p _
  |j+4,e1,e2=>simp at e1
 ·rw[hn] at e1
  match j,e1,e2 with
  |0,e1,e2=>cases e1;cases e2;exact .p _
  |1,e1,e2=>cases e1;cases e2;exact .p _
  |2,e1,e2=>cases e1;cases e2;exact .p _
  |3,e1,e2=>cases e1;cases e2;exact View.nils 4
  |j+4,e1,e2=>simp at e1
def LY(p:Nat)(e:Ex)(vs:List (List UInt8))(next left:Int)(v:AV)(q:Nat)(vs':List (List UInt8))(next' left':Int):Prop:=
 ∃s:List UInt8,s.length<=8/\v= .agg ((Sm.mk 1 s [e] [] []).cs.map .p)/\p<=q/\q<=p+2/\vs'=vs++[s]/\next'=next+1/\left'=left
theorem JS{b:List Int}(hb:Byt b)(hl:b.length<=2000){p:Nat}(hp:p+2<=1000000000000)(fns:List Fd)(vs:List (List UInt8))(hv:yY vs){next:Int}(hn: -1<=next)(hn2:next<=1000000000000)(left:Int)(e:Ex):
 AC Tryz.prog G cr [.ptr 1 5 0 0,.agg (e.cs.map .p)] (HG b p fns vs next left) (PG b fns (LY p e vs next left) []):=by
 refine iK G (AC.go jz ?_)
 have hec:=e.cs_eq
 simp-implicitDefEqProofs[eX,HG,bL,hec]
 refine(bY G (CV G hb hl hp fns vs hv hn hn2 left) _ (by simp[below])).mono ?_
 rintro r h ⟨v,q,vs',n',l',rfl,rfl,⟨s,rfl,hs⟩,h1,h2,rfl,rfl,rfl⟩
 have hsl:bO vs'= .lst 1 (vs'.map λw=>[.str w]):=rfl
 simp-implicitDefEqProofs[aa,bL,hsl]
 have hv1:=hv.1
 have hrow:List.take vs'.length (List.map ((λx=>List.map AV.p x)∘λw=>[PV.str w]) vs')++[[AV.p (PV.str s)]]=(vs'++[s]).map λw=>[AV.p (.str w)]:=by
  rw[List.take_of_length_le (by simp)];simp[Function.comp_def]
 have hlen:vs'.length+1=(vs'++[s]).length:=by simp
 refine⟨by omega,by omega,?_⟩
 rw[hrow,hlen]
 have hsm:(Sm.mk 1 s [e] [] []).cs=[.int .i64 1,.str s,exL [e],smL [],smL []]:=Sm.cs_eq _
 refine⟨_,_,q,_,.agg ((Sm.mk 1 s [e] [] []).cs.map .p),vs'++[s],next+1,l',rfl,rfl,.one (lZ rfl) .nil,.agg ?_ .nil,⟨s,hs,rfl,h1,h2,rfl,rfl,rfl⟩⟩
 rw[hsm]
 refine .keep (by simp) (.keep (by simp) (.one ?_ (.one (View.nils 5) (.one (View.nils 5) .nil))))
 exact cY (l:=[e]) (by rw[List.map_singleton,hec];rfl)
theorem Lb{b:List Int}(hb:Byt b)(hl:b.length<=2000){p:Nat}(hp:p+2<=1000000000000)(fns:List Fd)(vs:List (List UInt8))(hv:yY vs){next:Int}(hn: -1<=next)(hn2:next<=1000000000000)(left:Int)(N:Int):
 AC Tryz.prog G cr [.ptr 1 5 0 0,.agg [.p (.int .i64 1),.p (.int .i64 N),.p (.str []),.nils]] (HG b p fns vs next left) (PG b fns (LY p ⟨1,N,[],[]⟩ vs next left) []):=by
 refine iK G (AC.go jz ?_)
 simp-implicitDefEqProofs[eX,HG,bL]
 refine(bY G (CV G hb hl hp fns vs hv hn hn2 left) _ (by simp[below])).mono ?_
 rintro r h ⟨v,q,vs',n',l',rfl,rfl,⟨s,rfl,hs⟩,h1,h2,rfl,rfl,rfl⟩
 have hsl:bO vs'= .lst 1 (vs'.map λw=>[.str w]):=rfl
 simp-implicitDefEqProofs[aa,bL,hsl]
 have hv1:=hv.1
 have hrow:List.take vs'.length (List.map ((λx=>List.map AV.p x)∘λw=>[PV.str w]) vs')++[[AV.p (PV.str s)]]=(vs'++[s]).map λw=>[AV.p (.str w)]:=by
  rw[List.take_of_length_le (by simp)];simp[Function.comp_def]
 have hlen:vs'.length+1=(vs'++[s]).length:=by simp
 refine⟨by omega,by omega,?_⟩
 rw[hrow,hlen]
 have hsm:(Sm.mk 1 s [⟨1,N,[],[]⟩] [] []).cs=[.int .i64 1,.str s,exL [⟨1,N,[],[]⟩],smL [],smL []]:=Sm.cs_eq _
 refine⟨_,_,q,_,.agg ((Sm.mk 1 s [⟨1,N,[],[]⟩] [] []).cs.map .p),vs'++[s],next+1,l',rfl,rfl,.one (lZ rfl) .nil,.agg ?_ .nil,⟨s,hs,rfl,h1,h2,rfl,rfl,rfl⟩⟩
 rw[hsm]
 refine .keep (by simp) (.keep (by simp) (.one ?_ (.one (View.nils 5) (.one (View.nils 5) .nil))))
 refine View.sl _ _ _ _ [(Ex.mk 1 N [] []).cs] rfl (by simp) (by simp) λi j e q e' a a1 a2 a3 a4=>?_
 rw[Nat.zero_add] at a3
 match i,a1,a3 with
 |0,a1,a3=>
  cases a1;cases a3
  have hn:(Ex.mk 1 N [] []).cs=[.int .i64 1,.int .i64 N,.str [],.lst 4 []]:=Ex.cs_eq _
  rw[hn] at a2
  match j,a2,a4 with
  |0,e1,e2=>cases e1;cases e2;exact .p _
  |1,e1,e2=>cases e1;cases e2;exact .p _
  |2,e1,e2=>cases e1;cases e2;exact .p _
  |3,e1,e2=>cases e1;cases e2;exact View.nils 4
  |j+4,e1,e2=>simp at e1
 |i+1,a1,a3=>simp at a1
end
section
def Pd(d:Nat):Nat:=5000*20^d
structure Bd (n:Nat) (p:Nat) (vs:List (List UInt8)) (next left:Int):Prop where
 p:p+n<=100000000000
 v:vs.length+n/50<=900000
 w:∀s∈vs,s.length<=8
 n0: -1<=next
 n1:next+n<=100000000000
 l0: -100000000000<=left-n
 l1:left<=100000000000
theorem Bd.shrt{n p:Nat}{vs:List (List UInt8)}{next left:Int}(h:Bd n p vs next left):yY vs:=⟨by have:=h.v;omega,h.w⟩
def Mv(n p q:Nat)(next next' left left':Int):Prop:=p<=q/\q<=p+n/\next<=next'/\next'<=next+n/\left-n<=left'/\left'<=left
def Ig(b:List Int)(fns:List Fd)(vs:List (List UInt8))(p n:Nat)(next left:Int)(rest:List AO)(x:ARes)(h:List AO):Prop:=
 ∃(out:List Sm) (q:Nat) (next' left':Int),x= .ret (.sl (3+rest.length) 5 0 out.length)/\h=rdO b q:: .row 5 [bL fns vs next' left']::dd 3 (aW fns)::rest++[.row 5 (smR out)]/\aO out<=n/\out.length<=100/\Mv n p q next next' left left'
def Ei(G:az)(b:List Int)(fns:List Fd)(d:Nat):Prop:=∀{p:Nat} {vs:List (List UInt8)} {next left:Int},Bd (Pd d) p vs next left->AC Tryz.prog G aQ [.ptr 1 5 0 0,.p (.int .i64 d)] (HG b p fns vs next left) (Ig b fns vs p (Pd d) next left [])
variable (G:az)
theorem oq{b:List Int}{fns:List Fd}{d p:Nat}{vs:List (List UInt8)}{next left:Int}(H:AC Tryz.prog G aQ [.ptr 1 5 0 0,.p (.int .i64 d)] (HG b p fns vs next left) (Ig b fns vs p (Pd d) next left []))(rest:List AO):
 AC Tryz.prog G aQ [.ptr 1 5 0 0,.p (.int .i64 d)] (rdO b p:: .row 5 [bL fns vs next left]::dd 3 (aW fns)::rest) (Ig b fns vs p (Pd d) next left rest):=by
 have H2:AC Tryz.prog G aQ [.ptr 1 5 0 0,.p (.int .i64 d)] (HG b p fns vs next left) λx h'=>∃h1 es,h'=h1++[.row 5 es]/\h1.length=(HG b p fns vs next left).length/\x= .ret (.sl (HG b p fns vs next left).length 5 0 es.length)/\(∀e∈es,aA 0 e)/\
  (∃(out:List Sm) (q:Nat) (next' left':Int),es=smR out/\h1=HG b q fns vs next' left'/\aO out<=Pd d/\out.length<=100/\Mv (Pd d) p q next next' left left'):=by
  refine H.mono ?_
  rintro x h ⟨out,q,n',l',rfl,rfl,h1,h2,h3⟩
  exact⟨HG b q fns vs n' l',smR out,rfl,rfl,by simp[HG,fj],lJ out,out,q,n',l',rfl,rfl,h1,h2,h3⟩
 refine(AC.pre1 (R:=λh1 es=>∃(out:List Sm) (q:Nat) (next' left':Int),es=smR out/\h1=HG b q fns vs next' left'/\aO out<=Pd d/\out.length<=100/\Mv (Pd d) p q next next' left left') H2 rest (by simp[below,HG]) (Fc _ _ _ _ _ _) ?_).mono ?_
 ·rintro h1 es ⟨out,q,n',l',rfl,rfl,_⟩
  exact Fc _ _ _ _ _ _
 ·rintro x h ⟨h1,es,rfl,_,rfl,_,out,q,n',l',rfl,rfl,r⟩
  exact⟨out,q,n',l',by simp[HG,fj],rfl,r⟩
theorem nW:AK.whole eq=FK.ak eA:=rfl
def OH(n p:Nat)(vs:List (List UInt8))(next left:Int)(v:AV)(q:Nat)(vs':List (List UInt8))(next' left':Int):Prop:=
 ∃(out:List Sm) (s:List UInt8),v= .p (smL out)/\aO out<=n/\1<=out.length/\out.length<=2/\s.length<=8/\vs'=vs++[s]/\Mv n p q next next' left left'
theorem Gm{b:List Int}(hb:Byt b)(hl:b.length<=2000)(fns:List Fd){d:Nat}(hd:d<=10)(hblk:Ei G b fns d){p:Nat}{vs:List (List UInt8)}{next left:Int}(hB:Bd (Pd d+60) p vs next left):
 AC Tryz.prog G eD [.ptr 1 5 0 0,.p (.int .i64 ((d:Int)+1))] (HG b p fns vs next left) (PG b fns (OH (Pd d+60) p vs next left) []):=by
 have hp:=hB.p
 have hv:=hB.v
 have hn0:=hB.n0
 have hn1:=hB.n1
 have hl0:=hB.l0
 have hl1:=hB.l1
 refine iK G (AC.goK ov nW ?_)
 simp-implicitDefEqProofs[eq,eA,HG,bL]
 refine(ig G hb hl (p:=p) (by omega) [2,3,1,0,5] (k:=3) (by simp) (by simp) (by omega) rfl rfl).mono ?_
 rintro r h ⟨N,hN,rfl,rfl⟩
 have hN5:0<=N/\N<=5:=by simp at hN;omega
 simp-implicitDefEqProofs[aa]
 refine(bY G (Lb G hb hl (p:=p+1) (by omega) fns vs hB.shrt hn0 (by omega) left N) _ (by simp[below])).mono ?_
 rintro r h ⟨v,q,vs',n',l',rfl,rfl,s,hs,rfl,h1,h2,rfl,rfl,rfl⟩
 have hsm:(Sm.mk 1 s [⟨1,N,[],[]⟩] [] []).cs=[.int .i64 1,.str s,exL [⟨1,N,[],[]⟩],smL [],smL []]:=Sm.cs_eq _
 have hwd:IntKind.i64.wrap ((d:Int)+1-1)=d:=by rw[ae (by omega) (by omega)];omega
 have hw2:IntKind.i64.wrap (d:Int)=d:=ae (by omega) (by omega)
 simp-implicitDefEqProofs[aa,bL,hsm,hw2]
 have hB2:Bd (Pd d) q (vs++[s]) (next+1) l':=⟨by omega,by simp;omega,λw hw=>by
  rcases List.mem_append.1 hw with h|h
  ·exact hB.w w h
  ·rw[List.mem_singleton.1 h];exact hs,by omega,by omega,by omega,by omega⟩
 refine(oq G (hblk hB2) _).mono ?_
 rintro r h ⟨out,q2,n2,l2,rfl,rfl,z1,z2,m1,m2,m3,m4,m5,m6⟩
 have hwl:IntKind.i64.wrap (l2-2)=l2-2:=ae (by omega) (by omega)
 simp-implicitDefEqProofs[aa,bL,hwl]
 have hHb:∀(l:Int),okO 7 (.row 5 [[.ptr 0 2 0 0,slE 2 3 (aW fns),.p (bO (vs++[s])),.p (.int .i64 n2),.p (.int .i64 l)]]):=λl e he=>by
  rw[List.mem_singleton.1 he];exact⟨by simp[below],lY (by omega),by simp,by simp,by simp,trivial⟩
 refine Jp (aw 50 [(0,.ptr 1 5 0 0),(5,.ptr 3 5 0 0),(6,.ptr 4 4 0 0),(7,.sl 5 5 0 out.length),(8,.ptr 6 5 0 0)])
  [rdO b q2,.row 5 [[.ptr 0 2 0 0,slE 2 3 (aW fns),.p (bO (vs++[s])),.p (.int .i64 n2),.p (.int .i64 (l2-2))]],dd 3 (aW fns),
   .row 5 [[.p (.int .i64 1),.p (.str s),.p (exL [Ex.mk 1 N [] []]),.p (smL []),.p (smL [])]],.row 4 [[.p (.int .i64 2),.p (.int .i64 0),.p (.str s),.p (exL [])]],.row 5 (smR out),
   .row 5 [[.p (.int .i64 2),.p (.str s),.p (exL [Ex.mk 4 0 [] [⟨2,0,s,[]⟩,⟨1,1,[],[]⟩]]),.p (smL []),.p (smL [])]]] ?_ ?_
 ·simp-implicitDefEqProofs[hwl]
  refine Wk.trans (mf (l1:=[(0,.ptr 1 5 0 0),(5,.ptr 3 5 0 0),(6,.ptr 4 4 0 0),(7,.sl 5 5 0 out.length),(8,.ptr 6 5 0 0)])
   (h1:=[rdO b q2,.row 5 [[.ptr 0 2 0 0,slE 2 3 (aW fns),.p (bO (vs++[s])),.p (.int .i64 n2),.p (.int .i64 (l2-2))]],dd 3 (aW fns),
   .row 5 [[.p (.int .i64 1),.p (.str s),.p (exL [Ex.mk 1 N [] []]),.p (smL []),.p (smL [])]],.row 4 [[.p (.int .i64 2),.p (.int .i64 0),.p (.str s),.nils]],.row 5 (smR out),
   .row 5 [[.p (.int .i64 2),.p (.str s),.sl 8 4 0 1,.nils,.nils]],.row 4 [[.p (.int .i64 2),.p (.int .i64 0),.p (.str s),.nils],[.p (.int .i64 1),.p (.int .i64 1),.p (.str []),.nils]],.row 4 [[.p (.int .i64 4),.p (.int .i64 0),.p (.str []),.sl 7 4 0 2]]])
   [0,1,2,4,5,6,9,7,8] (by simp) (by decide) (by decide) (iC rfl (bW _ _ _) (ed (by simp[below]) (by simp[ren,bn]) (iC rfl (iL _ _) (dx rfl (by simp[below]) (dx rfl (by simp[below]) (dx rfl (lJ out) (ed (by simp[below]) (by simp[ren,bn]) (dx rfl (by simp[below]) (ed (by simp[below]) (by simp[ren,bn]) jb))))))))) (by simp[below,ren]))
   (lX 7 (by omega) (by simp) rfl (.same (bW _ _ _) (.same (hHb _) (.same (iL _ _) (.same (by simp[okO,below]) (.one (.keep (by simp) (.keep (by simp) (.keep (by simp) (.one (View.nils 4) .nil)))) (.same (yS (lJ out)) (.one (.keep (by simp) (.keep (by simp) (.one ?_ (.one (View.nils 5) (.one (View.nils 5) .nil))))) (.nil _)))))))) ?_)
  ·exact bt (p0:=(Ex.mk 4 0 [] [⟨2,0,s,[]⟩,⟨1,1,[],[]⟩]).cs) rfl (Ex.cs_len _) (jA (nZ (p0:=(Ex.mk 2 0 s []).cs) (p1:=(Ex.mk 1 1 [] []).cs) rfl (Ex.cs_len _) (Ex.cs_len _) (jA (View.nils 4)) (jA (View.nils 4))))
  ·exact⟨.keep (by simp[below]) .nil,.keep (by simp[below]) .nil,.keep (by simp[below]) .nil,.keep (by simp[below]) .nil,.keep (by simp[below]) .nil,trivial⟩
 ·simp-implicitDefEqProofs[]
  have hless:(Sm.mk 2 s [Ex.mk 4 0 [] [⟨2,0,s,[]⟩,⟨1,1,[],[]⟩]] [] []).cs=[.int .i64 2,.str s,exL [Ex.mk 4 0 [] [⟨2,0,s,[]⟩,⟨1,1,[],[]⟩]],smL [],smL []]:=Sm.cs_eq _
  have hrow:List.take out.length (smR out)++[[AV.p (.int .i64 2),.p (.str s),.p (exL [Ex.mk 4 0 [] [⟨2,0,s,[]⟩,⟨1,1,[],[]⟩]]),.p (smL []),.p (smL [])]]=smR (out++[Sm.mk 2 s [Ex.mk 4 0 [] [⟨2,0,s,[]⟩,⟨1,1,[],[]⟩]] [] []]):=by
   rw[List.take_of_length_le (by rw[fj];exact Nat.le_refl _),DJ];exact congrArg (smR out++ ·) (by rw[smR,List.map_singleton,hless];rfl)
  have hlen:out.length+1=(out++[Sm.mk 2 s [Ex.mk 4 0 [] [⟨2,0,s,[]⟩,⟨1,1,[],[]⟩]] [] []]).length:=by simp
  refine⟨⟨by rw[fj];exact Nat.le_refl _,by omega,by omega⟩,?_⟩
  rw[hrow,hlen]
  refine⟨_,_,q2,_,.p (smL [Sm.mk 1 s [⟨1,N,[],[]⟩] [] [],Sm.mk 6 [] [⟨2,0,s,[]⟩] (out++[Sm.mk 2 s [Ex.mk 4 0 [] [⟨2,0,s,[]⟩,⟨1,1,[],[]⟩]] [] []]) []]),vs++[s],n2,l2-2,rfl,rfl,.keep (by simp) .nil,
   .one (nZ (p0:=(Sm.mk 1 s [⟨1,N,[],[]⟩] [] []).cs) (p1:=(Sm.mk 6 [] [⟨2,0,s,[]⟩] (out++[Sm.mk 2 s [Ex.mk 4 0 [] [⟨2,0,s,[]⟩,⟨1,1,[],[]⟩]] [] []]) []).cs) rfl (Sm.cs_len _) (Sm.cs_len _)
    (cb (.p _) (.p _) (.p _)) (cb ?_ (jJ rfl) (View.nils 5))) .nil,_,s,rfl,?_,by simp,by simp,hs,rfl,?_⟩
  ·have h2:(Ex.mk 2 0 s []).cs=[.int .i64 2,.int .i64 0,.str s,exL []]:=Ex.cs_eq _
   have he:exL [Ex.mk 2 0 s []]= .lst 4 [[.int .i64 2,.int .i64 0,.str s,exL []]]:=by rw[exL,List.map_singleton,h2]
   rw[he]
   exact .p _
  ·simp[aO,cz,Sm.sz,Ex.sz,aS]
   omega
  ·exact⟨by omega,by omega,by omega,by omega,by omega,by omega⟩
end
section
variable (G:az)
def Ms(n p:Nat)(vs:List (List UInt8))(next left:Int)(v:AV)(q:Nat)(vs':List (List UInt8))(next' left':Int):Prop:=
 ∃out:List Sm,v= .p (smL out)/\aO out<=n/\1<=out.length/\out.length<=2/\(vs'=vs\/∃s:List UInt8,s.length<=8/\vs'=vs++[s])/\Mv n p q next next' left left'
theorem Kr{b:List Int}(hb:Byt b)(hl:b.length<=2000)(fns:List Fd)(hf:tC fns){d:Nat}(hd:d<=10)(hblk:1<=d->Ei G b fns d){p:Nat}{vs:List (List UInt8)}{next left:Int}(hB:Bd (2*Pd d+3000) p vs next left):
 AC Tryz.prog G ee [.ptr 1 5 0 0,.p (.int .i64 ((d:Int)+1))] (HG b p fns vs next left) (PG b fns (Ms (2*Pd d+3000) p vs next left) []):=by
 have hp:=hB.p
 have hv:=hB.v
 have hn0:=hB.n0
 have hn1:=hB.n1
 have hl0:=hB.l0
 have hl1:=hB.l1
 refine iK G (AC.go pj ?_)
 have hwl:IntKind.i64.wrap (left-1)=left-1:=ae (by omega) (by omega)
 have hsl:bO vs= .lst 1 (vs.map λw=>[.str w]):=rfl
 simp-implicitDefEqProofs[iQ,HG,bL,hwl]
 refine(aG G b hb hl p (by omega) 13 _).mono ?_
 rintro r h ⟨k,rfl,rfl,hk⟩
 have iv:∀(m:Sm) (q:Nat) (rest:List AO) (v:AV) (vc:AV) (vs':List (List UInt8)) (next' left':Int),Fzs (.dead:: .dead:: .dead::rest) 3 [vc] [.p (bO vs')]->Fzs (.dead:: .dead:: .dead::rest) 3 [v] [.p (smL [m])]->m.sz<=2*Pd d+3000->(vs'=vs\/∃s:List UInt8,s.length<=8/\vs'=vs++[s])->Mv (2*Pd d+3000) p q next next' left left'->
  DG b fns (Ms (2*Pd d+3000) p vs next left) (.ret v) (rdO b q:: .row 5 [[.ptr 0 2 0 0,slE 2 3 (aW fns),vc,.p (.int .i64 next'),.p (.int .i64 left')]]::dd 3 (aW fns)::rest):=λm q rest v vc vs' next' left' h1 h2 h3 h4 h5=>
  ⟨_,rest,q,_,_,vs',next',left',rfl,rfl,h1,h2,[m],rfl,by simp[aO];omega,by simp,by simp,h4,h5⟩
 by_cases hc:k<3/\vs≠[]
 ·obtain⟨hc1,hne⟩:=hc
  have hpos:0<vs.length:=List.length_pos_iff.2 hne
  have hc1':(k:Int)<3:=by omega
  have hv1:=hB.v
  simp-implicitDefEqProofs[aa,hsl,hc1,hc1',hpos]
  rw[←hsl]
  refine(FY G hb hl (p:=p+1) (by omega) vs hne (by omega) _).mono ?_
  rintro r h ⟨w,hw,rfl,rfl⟩
  have hw8:=hB.w w hw
  simp-implicitDefEqProofs[aa]
  refine(bY G (jl G hb hl (p:=p+1+1) (by omega) fns hf vs hB.shrt next (left-1) (d:=3) (by omega)) _ (by simp[below])).mono ?_
  rintro r h ⟨v,q,vs',n',l',rfl,rfl,⟨e,rfl,he⟩,h1,h2,rfl,rfl,rfl⟩
  have hec:=e.cs_eq
  simp-implicitDefEqProofs[aa,bL,hec]
  exact iv ⟨2,w,[e],[],[]⟩ q _ _ _ vs' n' (left-1) (.keep (by simp) .nil) (.one (bt (p0:=(Sm.mk 2 w [e] [] []).cs) rfl (Sm.cs_len _) (cb (cY (l:=[e]) (by rw[List.map_singleton,hec];rfl)) (View.nils 5) (View.nils 5))) .nil) (by simp[Sm.sz,aS,aO];omega) (.inl rfl) ⟨by omega,by omega,by omega,by omega,by omega,by omega⟩
 have hcc:(k<3/\0<vs.length)=False:=by
  simp only[eq_iff_iff,iff_false]
  exact λ⟨a,c⟩=>hc ⟨a,List.length_pos_iff.1 c⟩
 have hvz:(k:Int)<3->vs.length=0:=λh=>by
  by_cases e:vs=[]
  ·rw[e];rfl
  ·exact absurd ⟨by omega,e⟩ hc
 have hvx:=hB.shrt
 have hvv:=hB.v
 by_cases k5:(k:Int)<5
 ·by_cases k3:(k:Int)<3
  ·have hv0:=hvz k3
   simp-implicitDefEqProofs[aa,hsl,k3,hv0,k5]
   rw[←hsl]
   refine(bY G (jl G hb hl (p:=p+1) (by omega) fns hf vs hvx next (left-1) (d:=3) (by omega)) _ (by simp[below])).mono ?_
   rintro r h ⟨v,q,vs',n',l',rfl,rfl,⟨e,rfl,he⟩,h1,h2,rfl,rfl,rfl⟩
   have hec:=e.cs_eq
   have hL:=JS G hb hl (p:=q) (by omega) fns vs' hvx hn0 (by omega) (left-1) e
   rw[hec] at hL
   simp-implicitDefEqProofs[aa,bL,hec]
   refine(bY G hL _ (by simp[below])).mono ?_
   rintro r h ⟨v,q2,vs2,n2,l2,rfl,rfl,s,hs,rfl,h3,h4,rfl,rfl,rfl⟩
   have hsm:(Sm.mk 1 s [e] [] []).cs=[.int .i64 1,.str s,exL [e],smL [],smL []]:=Sm.cs_eq _
   simp-implicitDefEqProofs[aa,bL,hsm]
   exact iv ⟨1,s,[e],[],[]⟩ q2 _ _ _ (vs'++[s]) (n'+1) (left-1) (.keep (by simp) .nil) (.one (bt (p0:=(Sm.mk 1 s [e] [] []).cs) rfl (Sm.cs_len _) (cb (.p _) (.p _) (.p _))) .nil) (by simp[Sm.sz,aS,aO];omega) (.inr ⟨s,hs,rfl⟩) ⟨by omega,by omega,by omega,by omega,by omega,by omega⟩
  ·simp-implicitDefEqProofs[aa,hsl,k3,k5]
   rw[←hsl]
   refine(bY G (jl G hb hl (p:=p+1) (by omega) fns hf vs hvx next (left-1) (d:=3) (by omega)) _ (by simp[below])).mono ?_
   rintro r h ⟨v,q,vs',n',l',rfl,rfl,⟨e,rfl,he⟩,h1,h2,rfl,rfl,rfl⟩
   have hec:=e.cs_eq
   have hL:=JS G hb hl (p:=q) (by omega) fns vs' hvx hn0 (by omega) (left-1) e
   rw[hec] at hL
   simp-implicitDefEqProofs[aa,bL,hec]
   refine(bY G hL _ (by simp[below])).mono ?_
   rintro r h ⟨v,q2,vs2,n2,l2,rfl,rfl,s,hs,rfl,h3,h4,rfl,rfl,rfl⟩
   have hsm:(Sm.mk 1 s [e] [] []).cs=[.int .i64 1,.str s,exL [e],smL [],smL []]:=Sm.cs_eq _
   simp-implicitDefEqProofs[aa,bL,hsm]
   exact iv ⟨1,s,[e],[],[]⟩ q2 _ _ _ (vs'++[s]) (n'+1) (left-1) (.keep (by simp) .nil) (.one (bt (p0:=(Sm.mk 1 s [e] [] []).cs) rfl (Sm.cs_len _) (cb (.p _) (.p _) (.p _))) .nil) (by simp[Sm.sz,aS,aO];omega) (.inr ⟨s,hs,rfl⟩) ⟨by omega,by omega,by omega,by omega,by omega,by omega⟩
 have k3:¬(k:Int)<3:=by omega
 by_cases k7:(k:Int)<7\/d=0
 ·by_cases k7':(k:Int)<7
  ·simp-implicitDefEqProofs[aa,k3,k5,k7']
   refine(bY G (jl G hb hl (p:=p+1) (by omega) fns hf vs hvx next (left-1) (d:=3) (by omega)) _ (by simp[below])).mono ?_
   rintro r h ⟨v,q,vs',n',l',rfl,rfl,⟨e,rfl,he⟩,h1,h2,rfl,rfl,rfl⟩
   have hec:=e.cs_eq
   simp-implicitDefEqProofs[aa,bL,hec]
   exact iv ⟨3,[],[e],[],[]⟩ q _ _ _ vs' n' (left-1) (.keep (by simp) .nil) (.one (bt (p0:=(Sm.mk 3 [] [e] [] []).cs) rfl (Sm.cs_len _) (cb (cY (l:=[e]) (by rw[List.map_singleton,hec];rfl)) (View.nils 5) (View.nils 5))) .nil) (by simp[Sm.sz,aS,aO];omega) (.inl rfl) ⟨by omega,by omega,by omega,by omega,by omega,by omega⟩
  ·have hdl:(d:Int)+1<2:=by omega
   simp-implicitDefEqProofs[aa,k3,k5,k7',hdl]
   refine(bY G (jl G hb hl (p:=p+1) (by omega) fns hf vs hvx next (left-1) (d:=3) (by omega)) _ (by simp[below])).mono ?_
   rintro r h ⟨v,q,vs',n',l',rfl,rfl,⟨e,rfl,he⟩,h1,h2,rfl,rfl,rfl⟩
   have hec:=e.cs_eq
   simp-implicitDefEqProofs[aa,bL,hec]
   exact iv ⟨3,[],[e],[],[]⟩ q _ _ _ vs' n' (left-1) (.keep (by simp) .nil) (.one (bt (p0:=(Sm.mk 3 [] [e] [] []).cs) rfl (Sm.cs_len _) (cb (cY (l:=[e]) (by rw[List.map_singleton,hec];rfl)) (View.nils 5) (View.nils 5))) .nil) (by simp[Sm.sz,aS,aO];omega) (.inl rfl) ⟨by omega,by omega,by omega,by omega,by omega,by omega⟩
 have k7':¬(k:Int)<7:=λh=>k7 (.inl h)
 have hd1:1<=d:=by omega
 have hd2:¬((d:Int)+1)<2:=by omega
 have hblk2:Ei G b fns d:= @hblk hd1
 by_cases e7:(k:Int)=7
 ·simp-implicitDefEqProofs[aa,k3,k5,k7',hd2,e7]
  refine(bY G (Hs G hb hl (p:=p+1) (by omega) fns hf vs hvx next (left-1)) _ (by simp[below])).mono ?_
  rintro r h ⟨v,q,vs',n',l',rfl,rfl,⟨e,rfl,he⟩,h1,h2,rfl,rfl,rfl⟩
  have hec:=e.cs_eq
  simp-implicitDefEqProofs[aa,bL,hec]
  refine(bY G (jl G hb hl (p:=q) (by omega) fns hf vs' hvx n' (left-1) (d:=2) (by omega)) _ (by simp[below])).mono ?_
  rintro r h ⟨v,q2,vs2,n2,l2,rfl,rfl,⟨e2,rfl,he2⟩,h3,h4,rfl,rfl,rfl⟩
  have hec2:=e2.cs_eq
  simp-implicitDefEqProofs[aa,bL,hec2]
  exact iv ⟨4,[],[e,e2],[],[]⟩ q2 _ _ _ vs2 n2 (left-1) (.keep (by simp) .nil) (.one (bt (p0:=(Sm.mk 4 [] [e,e2] [] []).cs) rfl (Sm.cs_len _) (cb (cY (l:=[e,e2]) (by rw[List.map_cons,List.map_singleton,hec,hec2];rfl)) (View.nils 5) (View.nils 5))) .nil) (by simp[Sm.sz,aS,aO];omega) (.inl rfl) ⟨by omega,by omega,by omega,by omega,by omega,by omega⟩
 by_cases e8:(k:Int)=8
 ·simp-implicitDefEqProofs[aa,k3,k5,k7',hd2,e7,e8]
  refine(bY G (Hs G hb hl (p:=p+1) (by omega) fns hf vs hvx next (left-1)) _ (by simp[below])).mono ?_
  rintro r h ⟨v,q,vs',n',l',rfl,rfl,⟨e,rfl,he⟩,h1,h2,rfl,rfl,rfl⟩
  have hec:=e.cs_eq
  simp-implicitDefEqProofs[aa,bL,hec]
  exact iv ⟨3,[],[⟨12,0,[],[e]⟩],[],[]⟩ q _ _ _ vs' n' (left-1) (.keep (by simp) .nil) (.one (bt (p0:=(Sm.mk 3 [] [⟨12,0,[],[e]⟩] [] []).cs) rfl (Sm.cs_len _) (cb (bt (p0:=(Ex.mk 12 0 [] [e]).cs) rfl (Ex.cs_len _) (jA (cY (l:=[e]) (by rw[List.map_singleton,hec];rfl)))) (View.nils 5) (View.nils 5))) .nil) (by simp[Sm.sz,Ex.sz,aS,aO];omega) (.inl rfl) ⟨by omega,by omega,by omega,by omega,by omega,by omega⟩
 have hwd:IntKind.i64.wrap ((d:Int)+1-1)=d:=by rw[ae (by omega) (by omega)];omega
 have hwd2:IntKind.i64.wrap (d:Int)=d:=ae (by omega) (by omega)
 by_cases k11:(k:Int)<11
 ·simp-implicitDefEqProofs[aa,k3,k5,k7',hd2,e7,e8,k11]
  refine(bY G (jl G hb hl (p:=p+1) (by omega) fns hf vs hvx next (left-1) (d:=3) (by omega)) _ (by simp[below])).mono ?_
  rintro r h ⟨v,q,vs',n',l',rfl,rfl,⟨e,rfl,he⟩,h1,h2,rfl,rfl,rfl⟩
  have hec:=e.cs_eq
  simp-implicitDefEqProofs[aa,bL,hec,hwd2]
  have hB2:Bd (Pd d) q vs' n' (left-1):=⟨by omega,by omega,hB.w,by omega,by omega,by omega,by omega⟩
  refine(oq G (hblk2 hB2) _).mono ?_
  rintro r h ⟨out,q2,n2,l2,rfl,rfl,z1,z2,m1,m2,m3,m4,m5,m6⟩
  simp-implicitDefEqProofs[aa,bL]
  refine(aG G b hb hl q2 (by omega) 2 _).mono ?_
  rintro r h ⟨k2,rfl,rfl,_⟩
  simp-implicitDefEqProofs[aa]
  refine aF (λhq=>?_) (λhq=>?_)
  ·simp-implicitDefEqProofs[hwd2]
   have hB3:Bd (Pd d) (q2+1) vs' n2 l2:=⟨by omega,by omega,hB.w,by omega,by omega,by omega,by omega⟩
   refine(oq G (hblk2 hB3) _).mono ?_
   rintro r h ⟨out2,q3,n3,l3,rfl,rfl,y1,y2,w1,w2,w3,w4,w5,w6⟩
   simp-implicitDefEqProofs[aa,bL]
   exact iv ⟨5,[],[e],out,out2⟩ q3 _ _ _ vs' n3 l3 (.keep (by simp) .nil) (.one (bt (p0:=(Sm.mk 5 [] [e] out out2).cs) rfl (Sm.cs_len _) (cb (cY (l:=[e]) (by rw[List.map_singleton,hec];rfl)) (jJ rfl) (jJ rfl))) .nil) (by simp[Sm.sz,aS];omega) (.inl rfl) ⟨by omega,by omega,by omega,by omega,by omega,by omega⟩
  ·simp-implicitDefEqProofs[]
   exact iv ⟨5,[],[e],out,[]⟩ (q2+1) _ _ _ vs' n2 l2 (.keep (by simp) .nil) (.one (bt (p0:=(Sm.mk 5 [] [e] out []).cs) rfl (Sm.cs_len _) (cb (cY (l:=[e]) (by rw[List.map_singleton,hec];rfl)) (jJ rfl) (View.nils 5))) .nil) (by simp[Sm.sz,aS,aO];omega) (.inl rfl) ⟨by omega,by omega,by omega,by omega,by omega,by omega⟩
 by_cases e11:(k:Int)=11
 ·simp-implicitDefEqProofs[aa,k3,k5,k7',hd2,e7,e8,k11,e11]
  refine(aG G b hb hl (p+1) (by omega) 3 _).mono ?_
  rintro r h ⟨k2,rfl,rfl,_⟩
  simp-implicitDefEqProofs[aa]
  refine aF (λhq=>?_) (λhq=>?_)
  ·simp-implicitDefEqProofs[]
   refine(bY G (jl G hb hl (p:=p+1+1) (by omega) fns hf vs hvx next (left-1) (d:=2) (by omega)) _ (by simp[below])).mono ?_
   rintro r h ⟨v,q,vs',n',l',rfl,rfl,⟨e,rfl,he⟩,h1,h2,rfl,rfl,rfl⟩
   have hec:=e.cs_eq
   simp-implicitDefEqProofs[aa,bL,hec]
   exact iv ⟨7,[],[e],[],[]⟩ q _ _ _ vs' n' (left-1) (.keep (by simp) .nil) (.one (bt (p0:=(Sm.mk 7 [] [e] [] []).cs) rfl (Sm.cs_len _) (cb (cY (l:=[e]) (by rw[List.map_singleton,hec];rfl)) (View.nils 5) (View.nils 5))) .nil) (by simp[Sm.sz,aS,aO];omega) (.inl rfl) ⟨by omega,by omega,by omega,by omega,by omega,by omega⟩
  ·simp-implicitDefEqProofs[]
   have hBL:Bd (Pd d+60) (p+1+1) vs next (left-1):=⟨by omega,by omega,hB.w,hn0,by omega,by omega,by omega⟩
   refine(bY G (Gm G hb hl fns hd hblk2 hBL) _ (by simp[below])).mono ?_
   rintro r h ⟨v,q,vs2,n2,l2,rfl,rfl,out,s,rfl,z1,z2,z3,hs,rfl,m1,m2,m3,m4,m5,m6⟩
   simp-implicitDefEqProofs[aa,bL]
   exact⟨_,_,q,_,_,vs++[s],n2,l2,rfl,rfl,.keep (by simp) .nil,.keep (by simp) .nil,out,rfl,by omega,z2,z3,.inr ⟨s,hs,rfl⟩,by omega,by omega,by omega,by omega,by omega,by omega⟩
 ·simp-implicitDefEqProofs[aa,k3,k5,k7',hd2,e7,e8,k11,e11]
  have hBL:Bd (Pd d+60) (p+1) vs next (left-1):=⟨by omega,by omega,hB.w,hn0,by omega,by omega,by omega⟩
  refine(bY G (Gm G hb hl fns hd hblk2 hBL) _ (by simp[below])).mono ?_
  rintro r h ⟨v,q,vs2,n2,l2,rfl,rfl,out,s,rfl,z1,z2,z3,hs,rfl,m1,m2,m3,m4,m5,m6⟩
  simp-implicitDefEqProofs[aa,bL]
  exact⟨_,_,q,_,_,vs++[s],n2,l2,rfl,rfl,.keep (by simp) .nil,.keep (by simp) .nil,out,rfl,by omega,z2,z3,.inr ⟨s,hs,rfl⟩,by omega,by omega,by omega,by omega,by omega,by omega⟩
end
section
variable (G:az)
structure BkS where (j m:Nat) (out:List Sm) (q:Nat) (vs:List (List UInt8)) (next left:Int)
theorem Mw(d:Nat):5000<=Pd d:=by
 have:1<=20^d:=Nat.one_le_pow _ _ (by omega)
 simp only[Pd];omega
theorem Iq(d:Nat):Pd (d+1)=20*Pd d:=by simp only[Pd,Nat.pow_succ];omega
theorem zt{b:List Int}(hb:Byt b)(hl:b.length<=2000)(fns:List Fd)(hf:tC fns){d:Nat}(hd:d<=10)(hblk:1<=d->Ei G b fns d):Ei G b fns (d+1):=by
 intro p vs next left hB
 have hp:=hB.p
 have hv:=hB.v
 have hn0:=hB.n0
 have hn1:=hB.n1
 have hl0:=hB.l0
 have hl1:=hB.l1
 have hP:=Mw d
 have hPs:=Iq d
 generalize hN:Pd d=N at*
 rw[hPs] at hp hv hn1 hl0⊢
 have hGok:∀(vs:List (List UInt8)) (nx lf:Int),okO 4 (.row 5 [bL fns vs nx lf]):=λvs nx lf e he=>by
  rw[List.mem_singleton.1 he];exact⟨by simp[below],lY (by omega),by simp,by simp,by simp,trivial⟩
 refine AC.go nz ?_
 simp-implicitDefEqProofs[gy,HG,bL]
 refine(ig G hb hl (p:=p) (by omega) [2,3,1,4] (k:=4) (by simp) (by simp) (by omega) rfl rfl).mono ?_
 rintro r h ⟨I,hI,rfl,rfl⟩
 obtain⟨J,rfl,hJ⟩:∃J:Nat,I=J/\J<=4:=⟨I.toNat,by simp at hI;omega,by simp at hI;omega⟩
 simp-implicitDefEqProofs[aa]
 refine aH (λs:BkS=>aw 40 [(0,.ptr 1 5 0 0),(1,.p (.int .i64 ((d:Int)+1))),(5,.p (bO vs)),(6,.sl 3 5 0 s.out.length),(7,.p (.int .i64 s.j))])
  (λs=>[rdO b s.q,.row 5 [bL fns s.vs s.next s.left],dd 3 (aW fns),.row 5 (smR s.out)])
  (λs=>s.j+s.m<=4/\aO s.out<=s.m*(2*N+3000)/\s.out.length<=2*s.m/\p<=s.q/\s.q<=p+1+s.m*(2*N+3000)/\s.vs.length<=vs.length+s.m/\(∀w∈s.vs,w.length<=8)/\next<=s.next/\s.next<=next+((s.m*(2*N+3000):Nat):Int)/\left-((s.m*(2*N+3000):Nat):Int)<=s.left/\s.left<=left)
  (λs=>s.j) ⟨J,0,[],p+1,vs,next,left⟩ ⟨by simp only;omega,by simp[aO],by simp,by simp,by simp,by simp,hB.w,by simp,by simp,by simp,by simp⟩ ?_ ?_
 ·refine yZ (m:=4) (by omega) (ow (h1:=[rdO b (p+1),.row 5 [bL fns vs next left],dd 3 (aW fns),.row 5 (smR [])]) rfl rfl (nV (bW _ _ _) (nV (hGok _ _ _) (nV (iL _ _) (nV (yS (lJ [])) IM))))) (by simp[below])
 rintro⟨j,m,out,q,vs',nx,lf⟩ ⟨i1,i2,i3,i4,i5,i6,i7,i8,i9,i10,i11⟩
 simp only at i1 i2 i3 i4 i5 i6 i7 i8 i9 i10 i11
 simp-implicitDefEqProofs[bL]
 have hm4:m*(2*N+3000)<=4*(2*N+3000):=Nat.mul_le_mul_right _ (by omega)
 by_cases hc:0<j/\0<lf
 ·obtain⟨c1,c2⟩:=hc
  have hm3:m*(2*N+3000)<=3*(2*N+3000):=Nat.mul_le_mul_right _ (by omega)
  have hms:(m+1)*(2*N+3000)=m*(2*N+3000)+(2*N+3000):=by rw[Nat.add_mul,Nat.one_mul]
  have hmsI:((m+1:Nat):Int)*(2*(N:Int)+3000)=((m*(2*N+3000)+(2*N+3000):Nat):Int):=by rw[←hms];simp
  generalize m*(2*N+3000)=M at*
  have hB2:Bd (2*Pd d+3000) q vs' nx lf:=by
   rw[hN];exact⟨by omega,by omega,i7,by omega,by omega,by omega,by omega⟩
  have hS:=Kr G hb hl fns hf hd hblk hB2
  rw[hN] at hS
  simp-implicitDefEqProofs[c1,c2]
  refine(bY G hS _ (by simp[below])).mono ?_
  rintro r h ⟨v,q2,vs2,n2,l2,rfl,rfl,out2,rfl,z1,z2,z3,hvs,m1,m2,m3,m4,m5,m6⟩
  have hsl:smL out2= .lst 5 (out2.map Sm.cs):=rfl
  simp-implicitDefEqProofs[aa,bL,hsl]
  have hol:(smR out).length=out.length:=fj out
  have hwj:IntKind.i64.wrap ((j:Int)-1)=((j-1:Nat):Int):=by rw[ae (by omega) (by omega)];omega
  have hrow:List.take out.length (smR out)++List.map ((λx=>List.map AV.p x)∘Sm.cs) out2=smR (out++out2):=by
   rw[List.take_of_length_le (by omega),DJ];rfl
  refine⟨⟨by omega,by omega,by omega⟩,⟨j-1,m+1,out++out2,q2,vs2,n2,l2⟩,⟨by simp only;omega,by simp only;rw[cz,hms];omega,by simp only;rw[List.length_append];omega,by simp only;omega,by simp only;rw[hms];omega,?_,?_,by simp only;omega,by simp only;rw[hmsI];omega,by simp only;rw[hmsI];omega,by simp only;omega⟩,by simp only;omega,?_⟩
  ·simp only
   rcases hvs with rfl|⟨s,_,rfl⟩
   ·omega
   ·rw[List.length_append,List.length_singleton];omega
  ·simp only
   rcases hvs with rfl|⟨s,hs,rfl⟩
   ·exact i7
   ·intro w hw
    rcases List.mem_append.1 hw with h|h
    ·exact i7 w h
    ·rw[List.mem_singleton.1 h];exact hs
  ·rw[hrow]
   refine mf [0,1,2,4] (by simp) (by decide) (by decide) (iC rfl (bW _ _ _) (ed ?_ ?_ (iC rfl (iL _ _) (dx rfl (lJ _) jb)))) (by simp[below,ren,hwj])
   ·intro x hx
    rw[List.mem_singleton.1 hx];exact⟨by simp[below],lY (by simp),by simp,by simp,by simp,trivial⟩
   ·simp[bL,ren,bn]
 ·have hce:(decide (0<j)&&decide (0<lf))=false:=by
   by_cases h1:0<j
   ·have h2:¬0<lf:=λh=>hc ⟨h1,h⟩
    simp[h2]
   ·simp[h1]
  have fin:Ig b fns vs p (20*N) next left [] (.ret (.sl 3 5 0 out.length)) [rdO b q,.row 5 [[.ptr 0 2 0 0,slE 2 3 (aW fns),.p (bO vs),.p (.int .i64 nx),.p (.int .i64 lf)]],dd 3 (aW fns),.row 5 (smR out)]:=
   ⟨out,q,nx,lf,rfl,rfl,by omega,by omega,by omega,by omega,by omega,by omega,by omega,by omega⟩
  by_cases h1:0<j
  ·have h2:¬0<lf:=λh=>hc ⟨h1,h⟩
   simp-implicitDefEqProofs[h1,h2]
   exact fin
  ·simp-implicitDefEqProofs[h1]
   exact fin
end
section
theorem rY:AK.whole fZ=FK.ak fT:=rfl
theorem zn{h:List AO}{id:Nat}{out:List Sm}{m:Sm}{c:List AV}(e:h[id]?=some (.row 5 (smR out++[c])))(hc:∀(j:Nat) (q:PV) (a:AV),m.cs[j]?=some q->c[j]?=some a->View h a q):View h (.sl id 5 0 (out.length+1)) (smL (out++[m])):=by
 have hl:((out++[m]).map Sm.cs).length=out.length+1:=by simp
 have:=View.sl (h:=h) id 5 0 _ ((out++[m]).map Sm.cs) e (by rw[hl];simp[fj]) (λx hx=>by obtain⟨b,_,rfl⟩:=List.mem_map.1 hx;exact b.cs_len) (λi j e q e' a a1 a2 a3 a4=>?_)
 ·rwa[hl] at this
 rw[Nat.zero_add] at a3
 rw[List.map_append] at a1
 rcases Nat.lt_or_ge i out.length with hi|hi
 ·rw[List.getElem?_append_left (by simpa using hi),List.getElem?_map,List.getElem?_eq_getElem hi] at a1
  rw[List.getElem?_append_left (by simpa[fj] using hi),smR,List.getElem?_map,List.getElem?_eq_getElem hi] at a3
  cases a1;cases a3
  rw[List.getElem?_map,a2] at a4
  cases a4
  exact .p _
 ·rw[List.getElem?_append_right (by simpa using hi)] at a1
  rw[List.getElem?_append_right (by simpa[fj] using hi),fj] at a3
  rw[List.length_map] at a1
  cases hd:i-out.length with
  |zero=>
   rw[hd] at a1 a3
   cases a1;cases a3
   exact hc j q a a2 a4
  |succ n=>rw[hd] at a3;simp at a3
variable (G:az)
theorem FW{b:List Int}(hb:Byt b)(hl:b.length<=2000)(fns:List Fd)(hf:tC fns):Ei G b fns 3:=
 zt G hb hl fns hf (d:=2) (by omega) λ_=>zt G hb hl fns hf (d:=1) (by omega) λ_=>zt G hb hl fns hf (d:=0) (by omega) λh=>absurd h (by omega)
def abcW:List (List UInt8):=[[97],[98],[99]]
def fnQ(p:Nat)(name:List UInt8)(np:Nat)(left:Int)(v:AV)(q:Nat)(vs':List (List UInt8))(next' left':Int):Prop:=
 ∃f:Fd,v= .agg (f.cs.map .p)/\f.name=name/\f.params=abcW.take np/\aO f.body<=40000500/\p<=q/\q<=p+40000500/\left-40000500<=left'/\left'<=left
theorem MN{b:List Int}(hb:Byt b)(hl:b.length<=2000){p:Nat}(hp:p<=90000000000)(fns:List Fd)(hf:tC fns)(vs:List (List UInt8))(next left:Int)(hl0: -1000000000<=left)(hl1:left<=1000000000)(name:List UInt8)(np:Nat)(hnp:np<=3):
 AC Tryz.prog G dK [.ptr 1 5 0 0,.p (.str name),.p (.int .i64 np)] (HG b p fns vs next left) (PG b fns (fnQ p name np left) []):=by
 refine iK G (AC.goK rQ rY ?_)
 have hwn:IntKind.i64.wrap ((np:Int)-1)=(np:Int)-1:=ae (by omega) (by omega)
 have h3:(np:Int)<=3:=by omega
 simp-implicitDefEqProofs[fZ,fT,HG,bL,hwn,h3,hnp]
 refine Jp (aw 61 [(0,.ptr 1 5 0 0),(6,.ptr 3 3 0 0),(7,.ptr 4 3 0 0)]) [rdO b p,.row 5 [bL fns (abcW.take np) ((np:Int)-1) left],dd 3 (aW fns),.row 3 [[.p (.str []),.nils,.nils]],.row 3 [[.p (.str name),.p (bO (abcW.take np)),.nils]]] ?_ ?_
 ·have hlen:(abcW.take np).length=np:=by simp[abcW];omega
  simp-implicitDefEqProofs[hnp,hlen]
  refine⟨⟨by omega,by omega⟩,?_⟩
  have hcutR:mm (abcW.take np)= .row 1 (List.take np [[AV.p (PV.str [97])],[AV.p (PV.str [98])],[AV.p (PV.str [99])]]):=by
   simp only[mm,List.map_take];rfl
  rw[←hcutR]
  refine Wk.trans (Il (h1:=[rdO b p,.row 5 [[.ptr 0 2 0 0,slE 2 3 (aW fns),.sl 4 1 0 np,.p (.int .i64 ((np:Int)-1)),.p (.int .i64 left)]],dd 3 (aW fns),.row 3 [[.p (.str []),.nils,.nils]],mm (abcW.take np),.dead,mm (abcW.take np),.row 3 [[.p (.str name),.sl 6 1 0 np,.nils]]])
   ⟨.inl rfl,.inl rfl,.inl rfl,.inl rfl,.inr ⟨1,_,np,rfl,hcutR⟩,.inl rfl,.inl rfl,.inl rfl,trivial⟩) ?_
  refine Wk.trans (mf (l1:=[(0,.ptr 1 5 0 0),(6,.ptr 3 3 0 0),(7,.ptr 4 3 0 0)])
   (h1:=[rdO b p,.row 5 [[.ptr 0 2 0 0,slE 2 3 (aW fns),.sl 5 1 0 np,.p (.int .i64 ((np:Int)-1)),.p (.int .i64 left)]],dd 3 (aW fns),.row 3 [[.p (.str []),.nils,.nils]],.row 3 [[.p (.str name),.sl 6 1 0 np,.nils]],mm (abcW.take np),mm (abcW.take np)])
   [0,1,2,3,7,4,6] (by simp) (by decide) (by decide) (iC rfl (bW _ _ _) (ed (by simp[below]) (by simp[ren,bn]) (iC rfl (iL _ _) (dx rfl (by simp[below]) (ed (by simp[below]) (by simp[ren,bn]) (iC rfl (vN _) (iC rfl (vN _) jb))))))) (by simp[below,ren]))
   (lX 5 (by omega) (by simp) rfl (.same (bW _ _ _) (.one (.keep (by simp[below]) (.keep (lY (by omega)) (.one ?_ (.keep (by simp) (.keep (by simp) .nil))))) (.same (iL _ _) (.same (by simp[okO,below]) (.one (.keep (by simp) (.one ?_ (.keep (by simp[below]) .nil))) (.nil _)))))) ?_)
  ·have:=lZ (l:=abcW.take np) (id:=5) (h:=jc 5 [rdO b p,.row 5 [[.ptr 0 2 0 0,slE 2 3 (aW fns),.sl 5 1 0 np,.p (.int .i64 ((np:Int)-1)),.p (.int .i64 left)]],dd 3 (aW fns),.row 3 [[.p (.str []),.nils,.nils]],.row 3 [[.p (.str name),.sl 6 1 0 np,.nils]],mm (abcW.take np),mm (abcW.take np)]) rfl
   rwa[hlen] at this
  ·have:=lZ (l:=abcW.take np) (id:=6) (h:=jc 5 [rdO b p,.row 5 [[.ptr 0 2 0 0,slE 2 3 (aW fns),.sl 5 1 0 np,.p (.int .i64 ((np:Int)-1)),.p (.int .i64 left)]],dd 3 (aW fns),.row 3 [[.p (.str []),.nils,.nils]],.row 3 [[.p (.str name),.sl 6 1 0 np,.nils]],mm (abcW.take np),mm (abcW.take np)]) rfl
   rwa[hlen] at this
  ·exact⟨.keep (by simp[below]) .nil,.keep (by simp[below]) .nil,.keep (by simp[below]) .nil,trivial⟩
 have hlen:(abcW.take np).length<=3:=by simp[abcW];omega
 have hw8:∀s∈abcW.take np,s.length<=8:=by
  intro s hs
  have:=List.mem_of_mem_take hs
  simp only[abcW,List.mem_cons,List.not_mem_nil,or_false] at this
  rcases this with rfl|rfl|rfl<;>simp
 have hPd:Pd 3=40000000:=rfl
 have hB:Bd (Pd 3) p (abcW.take np) ((np:Int)-1) left:=by rw[hPd];exact⟨by omega,by omega,hw8,by omega,by omega,by omega,by omega⟩
 simp-implicitDefEqProofs[bL]
 refine(oq G (FW G hb hl fns hf hB) _).mono ?_
 rintro r h ⟨out,q,n2,l2,rfl,rfl,z1,z2,m1,m2,m3,m4,m5,m6⟩
 rw[hPd] at z1 m2 m4 m5
 simp-implicitDefEqProofs[aa,bL]
 have fin:∀(out:List Sm) (q:Nat) (l2:Int) (rest:List AO) (v:AV) (vc:AV) (vs':List (List UInt8)) (n2:Int),Fzs (.dead:: .dead:: .dead::rest) 3 [vc] [.p (bO vs')]->Fzs (.dead:: .dead:: .dead::rest) 3 [v] [.agg ((Fd.mk name (abcW.take np) out).cs.map .p)]->aO out<=40000500->p<=q->q<=p+40000500->left-40000500<=l2->l2<=left->
  DG b fns (fnQ p name np left) (.ret v) (rdO b q:: .row 5 [[.ptr 0 2 0 0,slE 2 3 (aW fns),vc,.p (.int .i64 n2),.p (.int .i64 l2)]]::dd 3 (aW fns)::rest):=λout q l2 rest v vc vs' n2 h1 h2 h3 h4 h5 h6 h7=>
  ⟨_,rest,q,_,_,vs',n2,l2,rfl,rfl,h1,h2,⟨name,abcW.take np,out⟩,rfl,rfl,rfl,h3,h4,h5,h6,h7⟩
 by_cases hl2:0<l2
 ·simp-implicitDefEqProofs[hl2]
  refine(aG G b hb hl q (by omega) 4 _).mono ?_
  rintro r h ⟨k,rfl,rfl,_⟩
  simp-implicitDefEqProofs[aa]
  refine aF (λhc=>?_) (λhc=>?_)
  ·have hwl:IntKind.i64.wrap (l2-1)=l2-1:=ae (by omega) (by omega)
   simp-implicitDefEqProofs[hwl]
   have hShrt:yY (abcW.take np):=⟨by omega,hw8⟩
   refine(bY G (jl G hb hl (p:=q+1) (by omega) fns hf (abcW.take np) hShrt n2 (l2-1) (d:=2) (by omega)) _ (by simp[below])).mono ?_
   rintro r h ⟨v,q2,vs2,n3,l3,rfl,rfl,⟨e,rfl,he⟩,h1,h2,hvs,rfl,rfl⟩
   subst hvs
   have hec:=e.cs_eq
   have hol:(smR out).length=out.length:=fj out
   simp-implicitDefEqProofs[aa,bL,hec,hol]
   refine⟨⟨by omega,by omega⟩,?_⟩
   have htk:List.take out.length (smR out)=smR out:=List.take_of_length_le (by omega)
   rw[htk]
   have hm:(Sm.mk 7 [] [e] [] []).cs=[.int .i64 7,.str [],.lst 4 [[.int .i64 e.op,.int .i64 e.n,.str e.name,exL e.kids]],.lst 5 [],.lst 5 []]:=by
    rw[Sm.cs_eq,←hec];rfl
   refine fin (out++[⟨7,[],[e],[],[]⟩]) q2 (l2-1) _ _ _ (abcW.take np) n3 (.keep (by simp) .nil) (.agg (.keep (by simp) (.keep (by simp) (.one (zn rfl ?_) .nil))) .nil) (by simp[cz,aO,Sm.sz,aS];omega) (by omega) (by omega) (by omega) (by omega)
   intro j q a a1 a2
   rw[hm] at a1
   match j,a1,a2 with
   |0,a1,a2=>cases a1;cases a2;exact .p _
   |1,a1,a2=>cases a1;cases a2;exact .p _
   |2,a1,a2=>cases a1;cases a2;exact .p _
   |3,a1,a2=>cases a1;cases a2;exact View.e 0 5
   |4,a1,a2=>cases a1;cases a2;exact View.e 0 5
   |j+5,a1,a2=>simp at a1
  ·simp-implicitDefEqProofs[]
   exact fin out (q+1) l2 _ _ _ (abcW.take np) n2 (.keep (by simp) .nil) (.agg (.keep (by simp) (.keep (by simp) (.one (jJ rfl) .nil))) .nil) (by omega) (by omega) (by omega) (by omega) (by omega)
 ·simp-implicitDefEqProofs[hl2]
  exact fin out q l2 _ _ _ (abcW.take np) n2 (.keep (by simp) .nil) (.agg (.keep (by simp) (.keep (by simp) (.one (jJ rfl) .nil))) .nil) (by omega) (by omega) (by omega) (by omega) (by omega)
end
section
theorem Au{h:List AO}{s:List UInt8}{ps:List (List UInt8)}{bd:List Sm}{P B:AV}(hP:View h P (bO ps))(hB:View h B (smL bd)):∀(j:Nat) (q:PV) (x:AV),(Fd.mk s ps bd).cs[j]?=some q->[AV.p (.str s),P,B][j]?=some x->View h x q:=by
 intro j q x e1 e2
 match j,e1,e2 with
 |0,e1,e2=>cases e1;cases e2;exact .p _
 |1,e1,e2=>cases e1;cases e2;exact hP
 |2,e1,e2=>cases e1;cases e2;exact hB
 |j+3,e1,e2=>simp[Fd.cs] at e1
theorem vo{h:List AO}{id:Nat}{l:List Fd}(e:h[id]?=some (.row 3 (aW l))):View h (.sl id 3 0 l.length) (fdL l):=by
 have:=eb (h:=h) (id:=id) (sz:=3) (n:=l.length) (ls:=l.map Fd.cs) (by rw[e,aW];simp) (by simp) (λx hx=>by obtain⟨b,_,rfl⟩:=List.mem_map.1 hx;exact b.cs_len)
 exact this
theorem AN(a b:List Fd):aW (a++b)=aW a++aW b:=by simp[aW]
theorem AJ(a:List Fd):(aW a).length=a.length:=by simp[aW]
theorem tV(a b:List Fd):cw (a++b)=cw a+cw b:=by simp[cw]
def Kl:List Fd:=[⟨[109],[],[⟨3,[],[⟨1,1,[],[]⟩],[],[]⟩]⟩]
theorem CS:cP Kl=true:=by decide
theorem DM(k:Nat)(hk:k<=3):(abcW.take k).length+((abcW.take k).map List.length).sum<=6:=by
 have h:k=0\/k=1\/k=2\/k=3:=by omega
 rcases h with rfl|rfl|rfl|rfl<;>decide
variable (G:az)
structure PgS where (j:Nat) (fns:List Fd) (q:Nat) (vs:List (List UInt8)) (next left:Int)
def Oj(b:List Int)(p n:Nat)(x:ARes)(h:List AO):Prop:=∃(l:List Fd) (q:Nat),x= .ret (.agg [.p (fdL l)])/\h=[rdO b q]/\cP l=true/\cw l<=200000000/\p<=q/\q<=p+n
def Ou(b:List Int)(p n:Nat)(x:ARes)(h:List AO):Prop:=∃(l:List Fd) (q:Nat) (v:AV) (rest:List AO),x= .ret (.agg [v])/\h=rdO b q::rest/\View (jc 1 h) v (fdL l)/\cP l=true/\cw l<=200000000/\p<=q/\q<=p+n
theorem Ko{b:List Int}(hb:Byt b)(hl:b.length<=2000){p:Nat}(hp:p<=10000000000):AC Tryz.prog G fy [.ptr 0 2 0 0] [rdO b p] (Oj b p 200000000):=by
 refine AC.frz (R:=Ou b p 200000000) ?_ 1 (by simp) (λt v h ⟨_,_,_,_,e,_⟩=>by cases e) ?_
 ·refine AC.go uZ ?_
  simp-implicitDefEqProofs[my]
  refine(ig G hb hl (p:=p) (by omega) [14,20,8,26] (k:=2) (by simp) (by simp) (by omega) rfl rfl).mono ?_
  rintro r h ⟨L0,hL0,rfl,rfl⟩
  have hL:0<=L0/\L0<=26:=by simp at hL0;omega
  simp-implicitDefEqProofs[aa]
  refine(ig G hb hl (p:=p+1) (by omega) [0,1,1,2] (k:=4) (by simp) (by simp) (by omega) rfl rfl).mono ?_
  rintro r h ⟨J0,hJ0,rfl,rfl⟩
  obtain⟨J,rfl,hJ⟩:∃J:Nat,J0=J/\J<=2:=⟨J0.toNat,by simp at hJ0;omega,by simp at hJ0;omega⟩
  simp-implicitDefEqProofs[aa]
  refine aH (λs:PgS=>aw 69 [(0,.ptr 0 2 0 0),(2,.ptr 3 1 0 0),(3,.ptr 1 5 0 0),(4,.p (.int .i64 s.j))])
   (λs=>[rdO b s.q,.row 5 [bL s.fns s.vs s.next s.left],dd 3 (aW s.fns),.row 1 [[.nils]]])
   (λs=>s.j+s.fns.length<=2/\tC s.fns/\cw s.fns<=s.fns.length*40000600/\p<=s.q/\s.q<=p+2+s.fns.length*40000600/\L0-s.fns.length*40000600<=s.left/\s.left<=L0)
   (λs=>s.j) ⟨J,[],p+1+1,[],0,L0⟩ ⟨by simp only[List.length_nil];omega,⟨by simp,by simp⟩,by simp[cw],by simp only;omega,by simp,by simp,by simp⟩ ?_ ?_
  ·refine Wk.trans (mf (l1:=[(0,.ptr 0 2 0 0),(2,.ptr 3 1 0 0),(3,.ptr 1 5 0 0),(4,.p (.int .i64 J))])
    (h1:=[rdO b (p+1+1),.row 5 [[.ptr 0 2 0 0,.nils,.nils,.p (.int .i64 0),.p (.int .i64 L0)]],.dead,.row 1 [[.nils]]])
    [0,3,2,1] (by simp) (by decide) (by decide) (iC rfl (bW _ _ _) (ed (by simp[below]) (by simp[ren,bn]) (sb (by simp) (dx rfl (by simp[below]) jb)))) (by simp[below,ren]))
    (lX 4 (by omega) (by simp) rfl (.same (bW _ _ _) (.one (.keep (by simp[below]) (.keep (by simp[below,aW,slE]) (.one (View.nils 1) (.keep (by simp) (.keep (by simp) .nil))))) (.dead (.same (by simp[okO,below]) (.nil _))))) ?_)
   exact⟨.keep (by simp[below]) .nil,.keep (by simp[below]) .nil,.keep (by simp[below]) .nil,.keep (by simp[below]) .nil,trivial⟩
  rintro⟨j,fns,q,vs,nx,lf⟩ ⟨i1,i2,i3,i4,i5,i6,i7⟩
  simp only at i1 i2 i3 i4 i5 i6 i7
  simp-implicitDefEqProofs[bL]
  by_cases hj:0<j
  ·have hfl:fns.length<3:=by omega
   have hcl:(aW fns).length=fns.length:=AJ fns
   obtain⟨nm,hget,hnm⟩:∃nm:List UInt8,([[PV.str [102]],[PV.str [103]],[PV.str [104]]]:List (List PV))[fns.length]?=some [.str nm]/\nm.length<=8:=by
    have h3:fns.length=0\/fns.length=1\/fns.length=2:=by omega
    rcases h3 with h|h|h<;>rw[h]
    ·exact⟨[102],rfl,by simp⟩
    ·exact⟨[103],rfl,by simp⟩
    ·exact⟨[104],rfl,by simp⟩
   simp-implicitDefEqProofs[hj,hcl,hget]
   refine(aG G b hb hl q (by omega) 3 _).mono ?_
   rintro r h ⟨k,rfl,rfl,hk⟩
   have hk3:k<=3:=by omega
   simp-implicitDefEqProofs[aa,hcl,hget]
   refine(bY G (MN G hb hl (p:=q+1) (by omega) fns i2 vs nx lf (by omega) (by omega) nm k hk3) _ (by simp[below])).mono ?_
   rintro r h ⟨v,q2,vs2,n2,l2,rfl,rfl,f,rfl,hf1,hf2,z1,z2,z3,z4,z5⟩
   have hcs:=f.cs_len
   have hcf:f.cs=[.str f.name,bO f.params,smL f.body]:=rfl
   simp-implicitDefEqProofs[aa,bL,hcf]
   have hfs:f.sz<=40000600:=by
    have h1:f.sz=1+f.name.length+(f.params.length+(f.params.map List.length).sum)+aO f.body:=rfl
    have h2:=DM k hk3
    rw[←hf2] at h2
    rw[hf1] at h1
    omega
   have hwj:IntKind.i64.wrap ((j:Int)-1)=((j-1:Nat):Int):=by rw[ae (by omega) (by omega)];omega
   have hfp:f.params.length<=3:=by rw[hf2];simp[abcW];omega
   have hrow:aW fns++[[AV.p (.str f.name),.p (bO f.params),.p (smL f.body)]]=aW (fns++[f]):=by rw[AN];rfl
   have hne:aW (fns++[f])≠[]:=by simp[aW]
   have hll:(aW fns).length+1=(aW (fns++[f])).length:=by simp[aW]
   rw[hrow,hll]
   refine⟨⟨by rw[←hll,hcl];omega,by omega⟩,⟨j-1,fns++[f],q2,vs2,n2,l2⟩,⟨by simp;omega,⟨by simp;omega,?_⟩,by simp only[tV,List.length_append];simp[cw] at*;omega,by simp only;omega,by simp;omega,by simp;omega,by simp only;omega⟩,by simp only;omega,?_⟩
   ·intro x hx
    rcases List.mem_append.1 hx with h|h
    ·exact i2.2 x h
    ·rw[List.mem_singleton.1 h,hf1];exact⟨hnm,hfp⟩
   ·rw[cU hne,fx hne]
    refine mf [0,1,5,3] (by simp) (by decide) (by decide) (iC rfl (bW _ _ _) (ed (by simp[below]) (by simp[ren,bn]) (dx rfl (pY _) (dx rfl (by simp[below]) jb)))) (by simp[below,ren,hwj])
  ·simp-implicitDefEqProofs[hj]
   refine(ig G hb hl (p:=q) (by omega) [0,1,2,1] (k:=4) (by simp) (by simp) (by omega) rfl rfl).mono ?_
   rintro r h ⟨N0,hN0,rfl,rfl⟩
   obtain⟨np,rfl,hnp⟩:∃J:Nat,N0=J/\J<=2:=⟨N0.toNat,by simp at hN0;omega,by simp at hN0;omega⟩
   simp-implicitDefEqProofs[aa]
   refine(bY G (MN G hb hl (p:=q+1) (by omega) fns i2 vs nx lf (by omega) (by omega) [109] np (by omega)) _ (by simp[below])).mono ?_
   rintro r h ⟨v,q2,vs2,n2,l2,rfl,rfl,f,rfl,hf1,hf2,z1,z2,z3,z4,z5⟩
   have hcf:f.cs=[.str f.name,bO f.params,smL f.body]:=rfl
   have hcl:(aW fns).length=fns.length:=AJ fns
   have hfs:f.sz<=40000600:=by
    have h1:f.sz=1+f.name.length+(f.params.length+(f.params.map List.length).sum)+aO f.body:=rfl
    have h2:=DM np (by omega)
    rw[←hf2] at h2
    rw[hf1] at h1
    simp at h1
    omega
   by_cases hfe:fns=[]
   ·subst hfe
    have h0:aW []=[]:=rfl
    rw[h0]
    simp-implicitDefEqProofs[aa,bL,hcf,h0,DK,Br]
    have hrow:[[AV.p (.str f.name),.p (bO f.params),.p (smL f.body)]]=aW [f]:=rfl
    rw[hrow]
    have vw:∀h:List AO,h[8]?=some (.row 3 (aW [f]))->View h (.sl 8 3 0 1) (fdL [f]):=λh e=>vo (l:=[f]) e
    refine((kQ G [f] (by simp only[cw,List.map_cons,List.map_nil,List.sum_cons,List.sum_nil] at*;omega)).lend (.agg (.one (vw _ rfl) .nil) .nil) rfl).mono ?_
    rintro r h ⟨rfl,rfl⟩
    simp-implicitDefEqProofs[aa]
    by_cases hok:cP [f]=true
    ·simp-implicitDefEqProofs[hok]
     exact⟨[f],q2,_,_,rfl,rfl,vw _ rfl,hok,by simp only[cw,List.map_cons,List.map_nil,List.sum_cons,List.sum_nil] at*;omega,by omega,by omega⟩
    ·have hok':cP [f]=false:=by simpa using hok
     simp-implicitDefEqProofs[hok']
     exact⟨Kl,q2,_,_,rfl,rfl,bt (p0:=(Fd.mk [109] [] [⟨3,[],[⟨1,1,[],[]⟩],[],[]⟩]).cs) rfl rfl (Au (View.nils 1) (bt (p0:=(Sm.mk 3 [] [⟨1,1,[],[]⟩] [] []).cs) rfl (Sm.cs_len _) (cb (bt (p0:=(Ex.mk 1 1 [] []).cs) rfl (Ex.cs_len _) (jA (View.nils 4))) (View.nils 5) (View.nils 5)))),CS,by decide,by omega,by omega⟩
   ·have h0:aW fns≠[]:=λh=>hfe (List.map_eq_nil_iff.1 h)
    simp only[bL,fx h0,cU h0]
    simp-implicitDefEqProofs[aa,hcf,hcl]
    refine⟨⟨by omega,by omega⟩,⟨by omega,by omega⟩,?_⟩
    have hrow:List.take fns.length (List.take fns.length (aW fns))++[[AV.p (.str f.name),.p (bO f.params),.p (smL f.body)]]=aW (fns++[f]):=by
     rw[List.take_of_length_le (by rw[List.length_take];omega),List.take_of_length_le (by omega),AN];rfl
    rw[hrow]
    have vw:∀h:List AO,h[8]?=some (.row 3 (aW (fns++[f])))->View h (.sl 8 3 0 (fns.length+1)) (fdL (fns++[f])):=λh e=>by
     have:=vo e
     rwa[List.length_append,List.length_singleton] at this
    refine((kQ G (fns++[f]) (by rw[tV];simp only[cw,List.map_cons,List.map_nil,List.sum_cons,List.sum_nil] at*;omega)).lend (.agg (.one (vw _ rfl) .nil) .nil) rfl).mono ?_
    rintro r h ⟨rfl,rfl⟩
    simp-implicitDefEqProofs[aa]
    by_cases hok:cP (fns++[f])=true
    ·simp-implicitDefEqProofs[hok]
     exact⟨fns++[f],q2,_,_,rfl,rfl,vw _ rfl,hok,by rw[tV];simp only[cw,List.map_cons,List.map_nil,List.sum_cons,List.sum_nil] at*;omega,by omega,by omega⟩
    ·have hok':cP (fns++[f])=false:=by simpa using hok
     simp-implicitDefEqProofs[hok']
     exact⟨Kl,q2,_,_,rfl,rfl,bt (p0:=(Fd.mk [109] [] [⟨3,[],[⟨1,1,[],[]⟩],[],[]⟩]).cs) rfl rfl (Au (View.nils 1) (bt (p0:=(Sm.mk 3 [] [⟨1,1,[],[]⟩] [] []).cs) rfl (Sm.cs_len _) (cb (bt (p0:=(Ex.mk 1 1 [] []).cs) rfl (Ex.cs_len _) (jA (View.nils 4))) (View.nils 5) (View.nils 5)))),CS,by decide,by omega,by omega⟩
 ·rintro v h ⟨l,q,v0,rest,e,rfl,hv,h1,h2,h3,h4⟩
  cases e
  exact⟨_,[rdO b q],by simp,rfl,.agg (.one hv .nil) .nil,.same (bW _ _ _) (.nil _),l,q,rfl,rfl,h1,h2,h3,h4⟩
end
section
theorem nA(l:List Fd):cP l=true↔(1<=l.length/\l.length<=4)/\(∀f∈l,kO f=true)/\py l<=40:=by
 simp only[cP,inR,Bool.and_eq_true,decide_eq_true_eq,List.all_eq_true]
 constructor
 ·rintro⟨⟨⟨h1,h2⟩,h3⟩,h4⟩;exact⟨⟨by omega,by omega⟩,h3,h4⟩
 ·rintro⟨⟨h1,h2⟩,h3,h4⟩;exact⟨⟨⟨by omega,by omega⟩,h3⟩,h4⟩
def Fd.cut(f:Fd)(n:Nat):Fd:=⟨f.name,f.params,f.body.take n⟩
end
section
variable (G:az)
theorem vX{h:List AO}{id sz:Nat}{rows:List (List AV)}{es:List (List PV)}(he:h[id]?=some (.row sz rows))(hl:rows.length=es.length)(hs:∀e∈es,e.length=sz)(hv:∀(i j:Nat) (e:List PV) (q:PV) (e':List AV) (a:AV),es[i]?=some e->e[j]?=some q->rows[i]?=some e'->e'[j]?=some a->View h a q){n:Nat}(hn:n=es.length):View h (.sl id sz 0 n) (.lst sz es):=by
 subst hn
 exact .sl id sz 0 rows es he (by omega) hs λi j e q e' a a1 a2 a3 a4=>hv i j e q e' a a1 a2 (by rwa[Nat.zero_add] at a3) a4
end
section
theorem tw:AK.whole gC=FK.ak gA:=rfl
noncomputable def iS (bs:List Bk):List Bool:=(List.range bs.length).map (bP bs)
noncomputable def rwL (bs:List Bk) (a:Nat):List Bool:=(List.range bs.length).map (rwB bs a)
noncomputable def jV (bs:List Bk) (a:Nat):List Bool:=(List.range bs.length).map (co bs a)
def boL(l:List Bool):PV:= .lst 1 (l.map λb=>[.bool b])
noncomputable def Hr (bs:List Bk):PV:= .lst 1 ((List.range bs.length).map λi=>[boL (jV bs i)])
theorem jL{a b:List Bool}(hl:a.length=b.length)(h:∀x,x<a.length->sn a x=sn b x):a=b:=by
 refine List.ext_getElem? λi=>?_
 by_cases hi:i<a.length
 ·rw[mV hi,mV (by omega),h i hi]
 ·rw[List.getElem?_eq_none (by omega),List.getElem?_eq_none (by omega)]
theorem pQ{n:Nat}{f:Nat->Bool}{x:Nat}(h:x<n):sn ((List.range n).map f) x=f x:=by
 simp[sn,List.getD_eq_getElem?_getD,h]
theorem JB{bs:List Bk}(h:aV bs=true){f:Nat}(hf:bs.length<=f):(dfs (nxC bs) f (List.replicate bs.length false,[]) 0).1=iS bs:=by
 have hl:=((zh (nxC bs) f).2 0 (List.replicate bs.length false,[]) (by rw[eM];have:=cG h;exact decide_eq_false (by omega)) (by rw[jZ];exact hf)).2.1
 rw[List.length_replicate] at hl
 refine jL (by rw[hl,iS];simp) λx hx=>?_
 rw[hl] at hx
 rw[HZ h hf hx,iS,pQ hx]
theorem He(bs:List Bk)(a:Nat):rwB bs a a=false:=by
 rw[←Bool.not_eq_true,nR];exact λh=>h.ok rfl
theorem FA(bs:List Bk)(x:Nat):rwB bs 0 x=false:=by
 rw[←Bool.not_eq_true,nR];exact λh=>(Dom.root h.rch).2.2 h
theorem zX{bs:List Bk}(h:aV bs=true){a:Nat}(ha:a≠0)(hal:a<bs.length){f:Nat}(hf:bs.length<=f):((dfs (nxC bs) f ((List.replicate bs.length false).set a true,[]) 0).1).set a false=rwL bs a:=by
 have h0:sn ((List.replicate bs.length false).set a true) 0=false:=by
  rw[gM,eM];have:=cG h;rw[decide_eq_false (by omega),decide_eq_false (Ne.symm ha)];rfl
 have hl:=((zh (nxC bs) f).2 0 ((List.replicate bs.length false).set a true,[]) h0 (by have:=sw ((List.replicate bs.length false).set a true);simp at this⊢;omega)).2.1
 rw[List.length_set,List.length_replicate] at hl
 refine jL (by rw[List.length_set,hl,rwL];simp) λx hx=>?_
 rw[List.length_set,hl] at hx
 rw[rwL,pQ hx]
 by_cases e:x=a
 ·subst e
  rw[He,sn,List.getD_eq_getElem?_getD,List.getElem?_set_self (by omega)];rfl
 ·rw[←AD h ha hal hf hx e,sn,sn,List.getD_eq_getElem?_getD,List.getD_eq_getElem?_getD,List.getElem?_set_ne (Ne.symm e)]
theorem Hm{bs:List Bk}:List.replicate bs.length false=rwL bs 0:=by
 refine jL (by simp[rwL]) λx hx=>?_
 rw[List.length_replicate] at hx
 rw[rwL,pQ hx,FA,eM];simp;omega
theorem uh(bs:List Bk):(iS bs).length=bs.length:=by simp[iS]
theorem yA(bs:List Bk)(a:Nat):(rwL bs a).length=bs.length:=by simp[rwL]
theorem eN(bs:List Bk)(a:Nat):(jV bs a).length=bs.length:=by simp[jV]
noncomputable def jG (bs:List Bk) (i j:Nat):List Bool:=(jV bs i).take j++List.replicate (bs.length-j) false
theorem Am(bs:List Bk)(i:Nat)(j:Nat)(h:j<=bs.length):(jG bs i j).length=bs.length:=by simp[jG,eN];omega
theorem yv(bs:List Bk)(i:Nat):jG bs i 0=List.replicate bs.length false:=by simp[jG]
theorem Ap(bs:List Bk)(i:Nat):jG bs i bs.length=jV bs i:=by rw[jG,List.take_of_length_le (by rw[eN];exact Nat.le_refl _)];simp
theorem vZ{bs:List Bk}{i j:Nat}(h:j<bs.length):(jG bs i j).set j (co bs i j)=jG bs i (j+1):=by
 have hl:((jV bs i).take j).length=j:=by rw[List.length_take,eN];omega
 have ht:(jV bs i).take (j+1)=(jV bs i).take j++[co bs i j]:=by
  rw[ay (by rw[eN];exact h)];simp[jV]
 rw[jG,jG,ht,List.set_append_right _ _ (by omega),hl,Nat.sub_self,show bs.length-j=(bs.length-(j+1))+1 by omega,List.replicate_succ,List.set_cons_zero,List.append_assoc];rfl
structure DmS where (i:Nat) (X:List AO) (o:Nat) (rows:List (List AV))
theorem vp(n:Nat):List.replicate n [AV.p (PV.bool false)]=bM (List.replicate n false):=by simp[bM]
variable (G:az)
theorem CB(c:Cd)(hc:CBd c)(hfit:aV c.blocks=true):AC Tryz.prog G cV [.agg (c.cs.map .p)] [] λx h=>∃o rows,x= .ret (.sl o 1 0 c.blocks.length)/\h[o]?=some (.row 1 rows)/\rows.length=c.blocks.length/\∀k,k<c.blocks.length->∃id,rows[k]?=some [.sl id 1 0 c.blocks.length]/\h[id]?=some (.row 1 (bM (jV c.blocks k))):=by
 have hcs:=c.cs_eq2
 have hbl:bkL c.blocks= .lst 5 (c.blocks.map Bk.cs):=rfl
 have hl1:=hc.1
 have hpos:=cG hfit
 have hrow:=JB hfit (Nat.le_refl _)
 obtain⟨n,hn⟩:∃n,n=c.blocks.length:=⟨_,rfl⟩
 have hwt:=λ(a:Nat) (ha:a≠0) (hal:a<c.blocks.length)=>zX hfit ha hal (Nat.le_refl _)
 have hzr:=Hm (bs:=c.blocks)
 have hsl:(List.replicate c.blocks.length false).length=c.blocks.length:=List.length_replicate
 refine AC.goK te tw ?_
 simp-implicitDefEqProofs[gC,gA,hcs,hbl,vp]
 refine⟨by omega,?_⟩
 have hv:=nD G c hc hfit c.blocks.length [.row 3 [[.p (.int .i64 c.params),.p (.int .i64 c.regs),.p (.lst 5 (c.blocks.map Bk.cs))]],.row 1 [],.row 1 (bM (List.replicate c.blocks.length false)),.row 1 []] 0 2 3 (List.replicate c.blocks.length false) [] hpos hsl (by rw[eM];exact decide_eq_false (by omega)) (by rw[jZ];exact Nat.le_refl _) (by decide) rfl rfl (by rw[jZ];simp;omega)
 rw[hrow,hcs,hbl,hsl] at hv
 refine hv.mono ?_
 rintro rr X ⟨id,rfl,hdX1,x2,hdX2,x4,x5,x6⟩
 have y0:=x6 0 (by simp) (by decide) (by decide)
 have y1:=x6 1 (by simp) (by decide) (by decide)
 simp only[List.length_cons,List.length_nil,List.getElem?_cons_zero,List.getElem?_cons_succ] at x5 y0 y1
 clear x6 hv
 simp-implicitDefEqProofs[aa]
 refine aH (λa:DmS=>aw 74 [(6,.p (.int .i64 a.i)),(1,.ptr 0 3 0 0),(3,.p (.int .i64 c.blocks.length)),(4,.sl a.o 1 0 a.i),(5,.sl 2 1 0 c.blocks.length)]) (λa=>a.X)
  (λa=>a.i<=c.blocks.length/\a.X[0]?=some (.row 3 [[.p (.int .i64 c.params),.p (.int .i64 c.regs),.p (.lst 5 (c.blocks.map Bk.cs))]])/\a.X[2]?=some (.row 1 (bM (iS c.blocks)))/\a.X[a.o]?=some (.row 1 a.rows)/\a.o≠0/\a.o≠2/\a.rows.length=a.i/\∀k,k<a.i->∃id,id≠a.o/\a.rows[k]?=some [.sl id 1 0 c.blocks.length]/\a.X[id]?=some (.row 1 (bM (jV c.blocks k)))) (λa=>c.blocks.length-a.i) ⟨0,X,1,[]⟩ ⟨Nat.zero_le _,y0,x2,y1,by simp,by simp,rfl,λk hk=>absurd hk (Nat.not_lt_zero _)⟩ (ab (Nat.zero_le _) (by simp[below];omega)) ?_
 clear y0 y1 x2 x4 x5 hdX1 hdX2 X
 rintro⟨i,X,o,rows⟩ ⟨hi,g0,g1,g2,ho0,ho2,hrl,hro⟩
 simp only at hi g0 g1 g2 ho0 ho2 hrl hro
 have hol:=(List.getElem?_eq_some_iff.1 g2).1
 have h2l:=(List.getElem?_eq_some_iff.1 g1).1
 simp-implicitDefEqProofs[]
 refine aF (λhc1=>?_) (λhc1=>?_)
 ·simp at hc1
  have hw1:=w1 (i:=i) (by omega)
  have hgX:∀t j,j<X.length->(X++t)[j]?=X[j]?:=λt j hj=>List.getElem?_append_left hj
  have hri:i<(bM (List.replicate c.blocks.length false)).length:=by rw[Ak,hsl];exact hc1
  have e2:∀hh,(bM (List.replicate c.blocks.length false))[i]'hh=[.p (.bool false)]:=λhh=>by simp[bM]
  have hX0:∀t,(X++t)[0]?=some (.row 3 [[.p (.int .i64 c.params),.p (.int .i64 c.regs),.p (.lst 5 (c.blocks.map Bk.cs))]]):=λt=>by rw[hgX _ _ (by omega)];exact g0
  have hX1:∀t hh,(X++t)[0]'hh= .row 3 [[.p (.int .i64 c.params),.p (.int .i64 c.regs),.p (.lst 5 (c.blocks.map Bk.cs))]]:=λt hh=>by
   have:=hX0 t
   rw[List.getElem?_eq_getElem hh] at this
   exact Option.some.inj this
  have e3:∀(l:List Bool) (v:Bool),l.length=c.blocks.length->∀hh,(bM (l.set i v))[i]'hh=[.p (.bool v)]:=λl v hl hh=>by simp[bM,hl,hc1]
  have e4:∀(l:List Bool) (v:Bool),l.length=c.blocks.length->(bM (l.set i v))[i]?=some [.p (.bool v)]:=λl v hl=>ef (by rw[List.getElem?_set_self (by omega)])
  simp-implicitDefEqProofs[vp,hri,e2,dG]
  refine⟨by omega,hc1,?_⟩
  refine fR (λY:List AO=>aw 74 [(7,.sl X.length 1 0 c.blocks.length),(6,.p (.int .i64 i)),(1,.ptr 0 3 0 0),(3,.p (.int .i64 c.blocks.length)),(4,.sl o 1 0 i),(5,.sl 2 1 0 c.blocks.length)]) (λY=>Y)
   (λY=>X.length<Y.length/\(∀j,j<X.length->Y[j]?=X[j]?)/\Y[X.length]?=some (.row 1 (bM (rwL c.blocks i)))) ?_ ?_
  ·by_cases hiz:i=0
   ·subst hiz
    simp-implicitDefEqProofs[e4,dG]
    refine⟨hc1,_,?_,ab (Nat.zero_le _) (by simp[below];omega)⟩
    refine⟨by simp,λj hj=>List.getElem?_append_left hj,?_⟩
    rw[List.getElem?_append_right (Nat.le_refl _),←hzr]
    have hs0:(List.replicate c.blocks.length false).set 0 false=List.replicate c.blocks.length false:=by
     cases c.blocks<;>simp[List.replicate_succ]
    simp[hs0]
   ·simp-implicitDefEqProofs[hiz]
    have hv:=nD G c hc hfit c.blocks.length (X++[AO.row 1 (bM ((List.replicate c.blocks.length false).set i true)),.row 1 []]) 0 X.length (X.length+1) ((List.replicate c.blocks.length false).set i true) [] hpos (by simp) (by rw[gM,eM,decide_eq_false (by omega),decide_eq_false (by omega)];rfl) (by have:=sw ((List.replicate c.blocks.length false).set i true);simp at this⊢;omega) (by omega) (by rw[List.getElem?_append_right (Nat.le_refl _)];simp) (by rw[List.getElem?_append_right (by omega)];simp[au,aT]) (by have:=sw ((List.replicate c.blocks.length false).set i true);simp at this⊢;omega)
    rw[hcs,hbl,List.length_set,hsl] at hv
    simp-implicitDefEqProofs[hX1]
    refine hv.mono ?_
    rintro rr Y ⟨id,rfl,d1,d2,d3,d4,d5,d6⟩
    simp only[List.length_append,List.length_cons,List.length_nil] at d4 d5 d6
    have hzl:(dfs (nxC c.blocks) c.blocks.length ((List.replicate c.blocks.length false).set i true,[]) 0).1.length=c.blocks.length:=by
     have:=congrArg List.length (hwt i hiz hc1)
     rw[List.length_set,yA] at this
     exact this
    have hwi:=hwt i hiz hc1
    generalize (dfs (nxC c.blocks) c.blocks.length ((List.replicate c.blocks.length false).set i true,[]) 0).1=Z at d2 hzl hwi
    have e5:=ef (mV (l:=Z) (i:=i) (by omega))
    simp-implicitDefEqProofs[aa,d2,e5,dG,hwi]
    refine⟨hc1,_,⟨?_,?_,?_⟩,ab (Nat.zero_le _) (by simp[below];omega)⟩
    ·simp;omega
    ·intro j hj
     rw[List.getElem?_set_ne (by omega),d6 j (by omega) (by omega) (by omega),List.getElem?_append_left hj]
    ·rw[List.getElem?_set_self (by omega)]
  ·rintro Y ⟨q1,q2,q3⟩
   have hYo:Y[o]?=some (.row 1 rows):=by rw[q2 _ hol];exact g2
   have hY2:Y[2]?=some (.row 1 (bM (iS c.blocks))):=by rw[q2 _ h2l];exact g1
   simp-implicitDefEqProofs[vp]
   refine⟨by omega,?_⟩
   have hD:∀j,j<c.blocks.length->(jG c.blocks i j).set j (co c.blocks i j)=jG c.blocks i (j+1):=λj hj=>vZ hj
   have hDl:=Am c.blocks i
   have hYl:∀(t:List AO) j,j<Y.length->(Y++t)[j]?=Y[j]?:=λt j hj=>List.getElem?_append_left hj
   have hr1:∀j,j<c.blocks.length->(bM (iS c.blocks))[j]?=some [.p (.bool (bP c.blocks j))]:=λj hj=>ef (by rw[iS];simp[hj])
   have hr2:∀j,j<c.blocks.length->(bM (rwL c.blocks i))[j]?=some [.p (.bool (rwB c.blocks i j))]:=λj hj=>ef (by rw[rwL];simp[hj])
   rw[←yv c.blocks i]
   refine aH (λj:Nat=>aw 74 [(9,.p (.int .i64 j)),(8,.sl Y.length 1 0 c.blocks.length),(7,.sl X.length 1 0 c.blocks.length),(6,.p (.int .i64 i)),(1,.ptr 0 3 0 0),(3,.p (.int .i64 c.blocks.length)),(4,.sl o 1 0 i),(5,.sl 2 1 0 c.blocks.length)])
    (λj=>Y++[.row 1 (bM (jG c.blocks i j))]) (λj=>j<=c.blocks.length) (λj=>c.blocks.length-j) 0 (Nat.zero_le _) (ab (Nat.zero_le _) (by simp[below];omega)) ?_
   intro j hj
   have y2:∀t,(Y++t)[2]?=some (.row 1 (bM (iS c.blocks))):=λt=>by rw[hYl _ _ (by omega)];exact hY2
   have y3:∀t,(Y++t)[X.length]?=some (.row 1 (bM (rwL c.blocks i))):=λt=>by rw[hYl _ _ (by omega)];exact q3
   simp-implicitDefEqProofs[]
   refine aF (λhc2=>?_) (λhc2=>?_)
   ·simp at hc2
    have r1:=hr1 i hc1
    have r2:=hr1 j hc2
    have r3:=hr2 j hc2
    have hDj:=hD j hc2
    have hle:j<(jG c.blocks i j).length:=by rw[hDl j hj];exact hc2
    have hrj:∃z,(bM (jG c.blocks i j))[j]?=some [.p (.bool z)]:=⟨_,ef (List.getElem?_eq_getElem hle)⟩
    obtain⟨z,hz⟩:=hrj
    rw[oU] at hDj
    have hw2:=w1 (i:=j) (by omega)
    clear hr1 hr2 hD hDl hle
    cases c1:bP c.blocks i with
    |false=>
     rw[c1] at r1 hDj
     simp only[Bool.false_and] at hDj
     simp-implicitDefEqProofs[y2,y3,r1,r2,r3,hz,dG,hDj]
     exact⟨hc1,hc2,j+1,by omega,by omega,ab (Nat.zero_le _) (by simp[below,hw2];omega)⟩
    |true=>
     rw[c1] at r1 hDj
     cases c2:bP c.blocks j with
     |false=>
      rw[c2] at r2 hDj
      simp only[Bool.false_and,Bool.and_false] at hDj
      simp-implicitDefEqProofs[y2,y3,r1,r2,r3,hz,dG,hDj]
      exact⟨hc1,hc2,j+1,by omega,by omega,ab (Nat.zero_le _) (by simp[below,hw2];omega)⟩
     |true=>
      rw[c2] at r2 hDj
      simp only[Bool.true_and] at hDj
      simp-implicitDefEqProofs[y2,y3,r1,r2,r3,hz,dG,hDj]
      exact⟨hc1,hc2,j+1,by omega,by omega,ab (Nat.zero_le _) (by simp[below,hw2];omega)⟩
   ·simp at hc2
    have hje:j=c.blocks.length:=by omega
    subst hje
    rw[Ap]
    have y4:∀t,(Y++t)[o]?=some (.row 1 rows):=λt=>by rw[hYl _ _ (by omega)];exact hYo
    have htk:rows.take i=rows:=List.take_of_length_le (by omega)
    simp-implicitDefEqProofs[y4,hrl,htk]
    refine⟨by omega,⟨i+1,_,Y.length+2,rows++[[.sl Y.length 1 0 c.blocks.length]]⟩,⟨hc1,?_,?_,?_,by simp only;omega,by simp only;omega,by simp[hrl],?_⟩,by simp only;omega,ab (Nat.zero_le _) (by simp[below,hw1]<;>omega)⟩
    ·simp only
     rw[List.getElem?_append_left (by simp<;>omega),List.getElem?_set_ne (by omega),hYl _ _ (by omega),q2 _ (by omega)];exact g0
    ·simp only
     rw[List.getElem?_append_left (by simp<;>omega),List.getElem?_set_ne (by omega),hYl _ _ (by omega)];exact hY2
    ·simp only
     rw[List.getElem?_append_right (by simp)];simp
    ·intro k hk
     simp only at hk⊢
     by_cases hki:k=i
     ·subst hki
      refine⟨Y.length,by omega,by rw[List.getElem?_append_right (by omega),hrl];simp,?_⟩
      rw[List.getElem?_append_left (by simp),List.getElem?_set_ne (by omega),List.getElem?_append_right (by omega)];simp
     ·obtain⟨id,e1,e2,e3⟩:=hro k (by omega)
      have hidl:=(List.getElem?_eq_some_iff.1 e3).1
      refine⟨id,by omega,by rw[List.getElem?_append_left (by omega)];exact e2,?_⟩
      rw[List.getElem?_append_left (by simp<;>omega),List.getElem?_set_ne (by omega),hYl _ _ (by omega),q2 _ hidl];exact e3
 ·simp at hc1
  have hie:i=c.blocks.length:=by omega
  subst hie
  simp-implicitDefEqProofs[hrl]
  exact⟨rows,g2,hrl,λk hk=>(hro k hk).elim λid h=>⟨id,h.2⟩⟩
theorem ox{h:List AO}{id n:Nat}{l:List Bool}(e:h[id]?=some (.row 1 (bM l)))(hn:n=l.length):View h (.sl id 1 0 n) (boL l):=by
 have hh:bM l=(l.map λn=>[PV.bool n]).map (·.map .p):=by simp[bM]
 rw[hh] at e
 exact eb e (by simpa using hn) (λx hx=>by obtain⟨b,_,rfl⟩:=List.mem_map.1 hx;rfl)
theorem vK(c:Cd)(hc:CBd c)(hfit:aV c.blocks=true):VF Tryz.prog G cV [.agg (c.cs.map .p)] (.p (Hr c.blocks)):=
 (CB G c hc hfit).freezeR (λt v h ⟨_,_,e,_⟩=>by cases e) λv h ⟨o,rows,e1,e2,e3,e4⟩=>by
   cases e1
   refine .one ?_ .nil
   refine vX (es:=(List.range c.blocks.length).map λi=>[boL (jV c.blocks i)]) e2 (by simpa using e3) (λe he=>by obtain⟨i,_,rfl⟩:=List.mem_map.1 he;rfl) (λi j e q e' a a1 a2 a3 a4=>?_) (by simp)
   by_cases hi:i<c.blocks.length
   ·obtain⟨id,f1,f2⟩:=e4 i hi
    rw[a3] at f1
    cases f1
    simp only[List.getElem?_map,List.getElem?_range hi,Option.map_some,Option.some.injEq] at a1
    subst a1
    cases j with
    |zero=>
     simp only[List.getElem?_cons_zero,Option.some.injEq] at a2 a4
     subst a2;subst a4
     exact ox f2 (by rw[eN])
    |succ j=>simp at a2
   ·rw[List.getElem?_eq_none (by simp;omega)] at a1;cases a1
end
section
def inC(bs:List Bk)(b:Int):Bool:=aV bs&&inR b 0 ((bs.length:Int)-1)
theorem sg{bs:List Bk}{b:Int}(h:inC bs b=true):aV bs=true/\0<=b/\b.toNat<bs.length/\((b.toNat:Nat):Int)=b:=by
 simp only[inC,inR,Bool.and_eq_true,decide_eq_true_eq] at h
 exact⟨h.1,by omega,by omega,by omega⟩
theorem pt(bs:List Bk):∃DL:List (List PV),∃BL:Nat->List (List PV),Hr bs= .lst 1 DL/\DL.length=bs.length/\(∀i,i<bs.length->DL[i]?=some [.lst 1 (BL i)])/\(∀i,(BL i).length=bs.length)/\∀i j,j<bs.length->(BL i)[j]?=some [.bool (co bs i j)]:=
 ⟨_,λi=>(jV bs i).map λb=>[.bool b],rfl,by simp,λi hi=>by simp[hi];rfl,λi=>by simp[eN],λi j hj=>by simp[jV,hj]⟩
variable (G:az)
end
section
def mq(xs:List Int)(k:Nat)(x:Int):List Int:=if xs[k]?=some x then xs else xs.take k++x::xs.drop k
theorem Ju(xs:List Int)(i:Nat)(x:Int)(hi:i<=xs.length):List.take (i+1) (List.take i (List.take i (List.map ((λx=>List.map AV.p x)∘λn=>[PV.int IntKind.i64 n]) xs))++[[AV.p (PV.int IntKind.i64 x)]])++List.drop i (List.take xs.length (List.map ((λx=>List.map AV.p x)∘λn=>[PV.int IntKind.i64 n]) xs))=au (xs.take i++x::xs.drop i):=by
 have e0:List.map ((λx=>List.map AV.p x)∘λn=>[PV.int IntKind.i64 n]) xs=au xs:=rfl
 have hl:=vq xs
 have ht:∀z,List.take (i+1) (List.take i (au xs)++[z])=List.take i (au xs)++[z]:=λz=>List.take_of_length_le (by simp;omega)
 rw[e0,List.take_take,Nat.min_self,ht,List.take_of_length_le (l:=au xs) (i:=xs.length) (by omega)]
 simp[au,List.map_take,List.map_drop]
theorem FO(xs:List Int)(x:Int):List.take (xs.length+1) (List.take xs.length (List.take xs.length (List.map ((λx=>List.map AV.p x)∘λn=>[PV.int IntKind.i64 n]) xs))++[[AV.p (PV.int IntKind.i64 x)]])=au (xs++[x]):=by
 have e0:List.map ((λx=>List.map AV.p x)∘λn=>[PV.int IntKind.i64 n]) xs=au xs:=rfl
 have hl:=vq xs
 rw[e0,List.take_of_length_le (l:=au xs) (by omega),List.take_of_length_le (l:=au xs) (by omega),List.take_of_length_le (by simp[hl])]
 simp[au]
variable (G:az)
theorem lH(xs:List Int)(k:Nat)(x:Int)(hl:xs.length<=1073741824)(hk:k<=xs.length)(h1:∀y∈xs.take k,y<x)(h2:∀y,xs[k]?=some y->¬y<x):VF Tryz.prog G aN [.p (aC xs),.p (.int .i64 x)] (.p (aC (mq xs k x))):=by
 have hnl:aC xs= .lst 1 (xs.map λn=>[.int .i64 n]):=rfl
 have key:AC Tryz.prog G aN [.p (aC xs),.p (.int .i64 x)] [] λr h=>∃v,r= .ret v/\View h v (aC (mq xs k x)):=by
  refine AC.go rU ?_
  simp-implicitDefEqProofs[kC,hnl]
  refine aH (λi:Nat=>aw 47 [(5,.p (.int .i64 i)),(0,.p (.lst 1 (xs.map λn=>[.int .i64 n]))),(1,.p (.int .i64 x))]) (λ_=>[]) (λi=>i<=k) (λi=>xs.length-i) 0 (Nat.zero_le _) (aU rfl (by simp[below])) ?_
  intro i hi
  by_cases hik:i=k
  ·subst hik
   by_cases hil:i<xs.length
   ·obtain⟨y,hge⟩:∃y,xs[i]=y:=⟨_,rfl⟩
    have hg:xs[i]?=some y:=by rw[List.getElem?_eq_getElem hil,hge]
    have hy:=h2 y hg
    by_cases hxy:y=x
    ·subst hxy
     have hI:mq xs i y=xs:=by rw[mq,if_pos hg]
     rw[hI]
     simp-implicitDefEqProofs[hil,hge]
     exact .p _
    ·have hI:mq xs i x=xs.take i++x::xs.drop i:=by rw[mq,hg,if_neg (λe=>hxy (Option.some.inj e))]
     have hmi:min i xs.length=i:=by omega
     simp-implicitDefEqProofs[hil,hge,hy,hxy,hmi]
     refine⟨by omega,⟨by omega,by omega⟩,by omega,⟨by omega,by omega⟩,⟨by omega,by omega⟩,?_⟩
     have hn:i+1+(xs.length-i)=(mq xs i x).length:=by rw[hI];simp;omega
     rw[hn]
     refine bw ?_
     rw[hI]
     exact congrArg (λr=>some (AO.row 1 r)) (Ju xs i x hk)
   ·have hie:i=xs.length:=by omega
    have hI:mq xs i x=xs++[x]:=by rw[mq,hie,if_neg (by simp),List.take_length,List.drop_length]
    subst hie
    simp-implicitDefEqProofs[]
    refine⟨⟨by omega,by omega⟩,⟨by omega,by omega⟩,?_⟩
    have hn:xs.length+1=(mq xs xs.length x).length:=by rw[hI];simp
    have hr:=FO xs x
    rw[hr,hn]
    exact bw (by rw[hI];rfl)
  ·have hil:i<xs.length:=by omega
   have hm:xs[i]∈xs.take k:=List.mem_take_iff_getElem.2 ⟨i,by omega,rfl⟩
   obtain⟨y,hge⟩:∃y,xs[i]=y:=⟨_,rfl⟩
   rw[hge] at hm
   have hy:=h1 y hm
   simp-implicitDefEqProofs[hil,hge,hy]
   exact⟨i+1,by omega,by omega,aU rfl (by simp[below,w1 (i:=i) (by omega)])⟩
 exact key.freezeR (λt v h ⟨_,e,_⟩=>by cases e) λv h ⟨_,e1,e2⟩=>by
  cases e1
  exact .one e2 .nil
theorem AW(xs:List Int)(x:Int)(hl:xs.length<=1073741824)(h1:∀y∈xs,y<x):VF Tryz.prog G aN [.p (aC xs),.p (.int .i64 x)] (.p (aC (xs++[x]))):=by
 have:=lH G xs xs.length x hl (Nat.le_refl _) (by rw[List.take_length];exact h1) (λy hy=>by simp at hy)
 rwa[mq,if_neg (by simp),List.take_length,List.drop_length] at this
theorem zQ(xs:List Int)(x:Int)(hl:xs.length<1073741824)(h1:∀y∈xs,y<x):VF Tryz.prog G aN [.p (aC (xs++[x])),.p (.int .i64 x)] (.p (aC (xs++[x]))):=by
 have:=lH G (xs++[x]) xs.length x (by simp;omega) (by simp) (by rw[List.take_left];exact h1) (λy hy=>by simp at hy;omega)
 rwa[mq,if_pos (by simp)] at this
theorem AM(xs:List Int)(x:Int)(b:Bool)(hl:xs.length<1073741824)(h1:∀y∈xs,y<x):VF Tryz.prog G aN [.p (aC (xs++if b then[x] else[])),.p (.int .i64 x)] (.p (aC (xs++[x]))):=by
 cases b with
 |true=>exact zQ G xs x hl h1
 |false=>simp only[Bool.false_eq_true,if_false,List.append_nil];exact AW G xs x (by omega) h1
def aX(p:Nat->Bool)(n:Nat):List Int:=((List.range n).filter p).map Int.ofNat
theorem vA(p:Nat->Bool):aX p 0=[]:=rfl
theorem vQ(p:Nat->Bool)(n:Nat):aX p (n+1)=aX p n++if p n then[(n:Int)] else[]:=by
 rw[aX,List.range_succ,List.filter_append,List.map_append]
 cases h:p n<;>simp[aX,h]
theorem Dc{p:Nat->Bool}{n:Nat}{x:Int}(h:x∈aX p n):0<=x/\x<n:=by
 obtain⟨a,ha,rfl⟩:=List.mem_map.1 h
 have:=List.mem_range.1 (List.mem_filter.1 ha).1
 constructor
 ·exact Int.natCast_nonneg a
 ·exact Int.ofNat_lt.2 this
theorem dE(p:Nat->Bool)(n:Nat):(aX p n).length<=n:=by
 rw[aX,List.length_map]
 exact Nat.le_trans (List.length_filter_le _ _) (by simp)
noncomputable def tI (bs:List Bk) (x:Nat) (p:Int):Bool:=co bs x p.toNat
noncomputable def fK (bs:List Bk) (x:Nat):Bool:=(aI bs x).any (tI bs x)
noncomputable def be (bs:List Bk):List Int:=if aV bs then aX (fK bs) bs.length else[]
noncomputable def frP (bs:List Bk) (b x:Nat) (p:Int):Bool:=co bs b p.toNat&&(decide (x=b)|| !co bs b x)
noncomputable def frB (bs:List Bk) (b x:Nat):Bool:=(aI bs x).any (frP bs b x)
theorem sy{bs:List Bk}{b r:Int}(h:r∈aI bs b):0<=r/\r.toNat<bs.length:=by
 obtain⟨x,hx,rfl⟩:=List.mem_map.1 h
 have h1:=List.mem_filter.1 hx
 have:=(List.mem_zipIdx_iff_getElem?.1 h1.1)
 have:=(List.getElem?_eq_some_iff.1 this).1
 omega
theorem Gw{p:Int->Bool}{l:List Int}{j:Nat}(hj:j<l.length):(l.take (j+1)).any p=((l.take j).any p||p l[j]):=by
 rw[ay hj,List.any_append];simp
def bI(b:Bool)(i:Nat):List Int:=if b then[(i:Int)] else[]
theorem DF(p:Nat->Bool)(n:Nat):aX p (n+1)=aX p n++bI (p n) n:=vQ p n
theorem KH(xs:List Int)(x:Nat)(b:Bool)(hl:xs.length<1073741824)(h1:∀y∈xs,y<x):VF Tryz.prog G aN [.p (aC (xs++bI b x)),.p (.int .i64 x)] (.p (aC (xs++bI true x))):=AM G xs x b hl h1
theorem BB(c:Cd)(hc:CBd c)(hfit:aV c.blocks=true):VF Tryz.prog G fS [.agg (c.cs.map .p),.p (Hr c.blocks)] (.p (aC (aX (fK c.blocks) c.blocks.length))):=by
 have hcs:=c.cs_eq2
 have hbl:bkL c.blocks= .lst 5 (c.blocks.map Bk.cs):=rfl
 have hl1:=hc.1
 have h4:=λb=>pU G c b hc.1 hc.2
 obtain⟨DL,BL,hd,hdl,hdg,hbll,hbg⟩:=pt c.blocks
 rw[hd,hcs,hbl]
 rw[hcs,hbl] at h4
 refine AC.go rH ?_
 simp-implicitDefEqProofs[kA]
 have hF:=λn x=>Dc (p:=fK c.blocks) (n:=n) (x:=x)
 have hFl:=dE (fK c.blocks)
 have hFs:=DF (fK c.blocks)
 have hF0:=vA (fK c.blocks)
 generalize aX (fK c.blocks)=F at hF hFl hFs hF0
 obtain⟨bo,hbo⟩:∃bo,bo=AO.row 3 [[.p (.int .i64 c.params),.p (.int .i64 c.regs),.p (.lst 5 (c.blocks.map Bk.cs))]]:=⟨_,rfl⟩
 rw[←hbo]
 refine aH (λi:Nat=>aw 40 [(6,.p (.int .i64 i)),(5,.p (aC (F i))),(2,.ptr 0 3 0 0),(1,.p (.lst 1 DL))]) (λ_=>[bo]) (λi=>i<=c.blocks.length) (λi=>c.blocks.length-i) 0 (Nat.zero_le _) ?_ ?_
 ·refine lX 1 (by omega) (by simp) rfl (.same (by rw[hbo];simp[okO,below]) (.nil _)) ?_
  rw[hF0]
  exact⟨.keep (by simp[below]) .nil,.one (bw (l:=[]) rfl) .nil,.keep (by simp[below]) .nil,.keep (by simp[below]) .nil,trivial⟩
 intro i hi
 simp-implicitDefEqProofs[hbo]
 refine aF (λhc1=>?_) (λhc1=>?_)
 ·simp at hc1
  have hw1:=w1 (i:=i) (by omega)
  simp-implicitDefEqProofs[]
  refine(h4 i).use ?_
  have hP:fK c.blocks i=(aI c.blocks i).any (tI c.blocks i):=rfl
  have hpin:=λr=>sy (bs:=c.blocks) (b:=i) (r:=r)
  have hpl:=eU c.blocks (i:Int)
  have hFi:=hFs i
  rw[hP] at hFi
  generalize aI c.blocks i=P at hP hpin hpl hFi
  have hnp:aC P= .lst 1 (P.map λn=>[.int .i64 n]):=rfl
  obtain⟨Q,hQ⟩:∃Q:Nat->List Int,Q=λj=>F i++bI ((P.take j).any (tI c.blocks i)) i:=⟨_,rfl⟩
  have hQ0:Q 0=F i:=by rw[hQ];simp[bI]
  have hQe:Q P.length=F (i+1):=by rw[hQ,hFi];simp only[List.take_length]
  rw[←hbo]
  simp-implicitDefEqProofs[]
  refine aH (λj:Nat=>aw 40 [(8,.p (.int .i64 j)),(7,.p (.lst 1 (P.map λn=>[.int .i64 n]))),(6,.p (.int .i64 i)),(5,.p (aC (Q j))),(2,.ptr 0 3 0 0),(1,.p (.lst 1 DL))]) (λ_=>[bo]) (λj=>j<=P.length) (λj=>P.length-j) 0 (Nat.zero_le _) (ab (Nat.zero_le _) (by simp[below,hQ0,hnp])) ?_
  intro j hj
  simp-implicitDefEqProofs[]
  refine aF (λhc2=>?_) (λhc2=>?_)
  ·simp at hc2
   have hg:=List.getElem?_eq_getElem hc2
   have hat:=Gw (p:=tI c.blocks i) hc2
   have hr:=hpin _ (List.getElem_mem hc2)
   have hh:tI c.blocks i P[j]=co c.blocks i P[j].toNat:=rfl
   generalize P[j]=r at hg hat hr hh
   rw[hh] at hat
   clear hh
   have hQj:Q (j+1)=F i++bI ((P.take j).any (tI c.blocks i)||co c.blocks i r.toNat) i:=by rw[hQ];simp only[hat]
   have hQj0:Q j=F i++bI ((P.take j).any (tI c.blocks i)) i:=by rw[hQ]
   have hrn:((r.toNat:Nat):Int)=r:=by omega
   have hrl:=hr.2
   generalize r.toNat=m at hrn hrl hQj
   subst hrn
   have x1:=hdg i hc1
   have x2:=hbg i m hrl
   have hw2:=w1 (i:=j) (by omega)
   cases c1:co c.blocks i m with
   |false=>
    rw[c1] at x2 hQj
    simp only[Bool.or_false] at hQj
    rw[←hQj0] at hQj
    simp-implicitDefEqProofs[hg,x1,x2]
    exact⟨j+1,by omega,by omega,ab (Nat.zero_le _) (by simp[below,hw2,hQj])⟩
   |true=>
    rw[c1] at x2 hQj
    simp only[Bool.or_true] at hQj
    simp-implicitDefEqProofs[hg,x1,x2]
    rw[hQj0]
    refine(KH G (F i) i _ (by have:=hFl i;omega) (λy hy=>(hF _ _ hy).2)).use ?_
    rw[←hQj]
    simp-implicitDefEqProofs[]
    exact⟨j+1,by omega,by omega,ab (Nat.zero_le _) (by simp[below,hw2])⟩
  ·simp at hc2
   have hje:j=P.length:=by omega
   subst hje
   rw[hQe]
   simp-implicitDefEqProofs[]
   exact⟨i+1,by omega,by omega,ab (Nat.zero_le _) (by simp[below,hw1])⟩
 ·simp at hc1
  have hie:i=c.blocks.length:=by omega
  subst hie
  simp-implicitDefEqProofs[]
theorem dr{f:FuncId}{args:List AV}{p:PV}(H:AC Tryz.prog G f args [] λr h=>∃v,r= .ret v/\View h v p):VF Tryz.prog G f args (.p p):=
 H.freezeR (λt v h ⟨_,e,_⟩=>by cases e) λv h ⟨_,e1,e2⟩=>by
  cases e1
  exact .one e2 .nil
theorem rE(c:Cd)(hc:CBd c):VF Tryz.prog G di [.agg (c.cs.map .p)] (.p (aC (be c.blocks))):=by
 have hcs:=c.cs_eq2
 have hbl:bkL c.blocks= .lst 5 (c.blocks.map Bk.cs):=rfl
 have hl1:=hc.1
 have h1:=pP G c hc
 have h3:=λhf=>vK G c hc hf
 have h5:=λhf=>BB G c hc hf
 rw[hcs,hbl] at h1 h3 h5
 refine dr G ?_
 refine AC.go po ?_
 simp-implicitDefEqProofs[jP,hcs,hbl]
 refine h1.use ?_
 cases e1:aV c.blocks with
 |false=>
  have hm:be c.blocks=[]:=by rw[be,e1];rfl
  rw[hm]
  simp-implicitDefEqProofs[]
  exact bw (l:=[]) rfl
 |true=>
  have hm:be c.blocks=aX (fK c.blocks) c.blocks.length:=by rw[be,if_pos e1]
  rw[hm]
  simp-implicitDefEqProofs[]
  refine(h3 e1).use ?_
  simp-implicitDefEqProofs[]
  refine(h5 e1).use ?_
  simp-implicitDefEqProofs[]
  exact .p _
end
section
variable (G:az)
theorem CJ(l:List Int)(v:Int)(hl:l.length<=1073741824):VF Tryz.prog G dS [.p (aC l),.p (.int .i64 v)] (.p (.int .i64 (ixI (l.findIdx? λx=>decide (v=x))))):=by
 have hnl:aC l= .lst 1 (l.map λn=>[.int .i64 n]):=rfl
 refine AC.go nF ?_
 simp-implicitDefEqProofs[gH,hnl]
 refine aH (λi:Nat=>aw 19 [(8,.p (.int .i64 i)),(7,.p (.int .i64 l.length)),(0,.p (.lst 1 (l.map λn=>[.int .i64 n]))),(1,.p (.int .i64 v))]) (λ_=>[]) (λi=>i<=l.length/\∀x∈l.take i,¬v=x) (λi=>l.length-i) 0 (by simp) (aU rfl (by simp[below])) ?_
 rintro i ⟨hi,hp⟩
 simp-implicitDefEqProofs[]
 refine aF (λhc=>?_) (λhc=>?_)
 ·simp at hc
  have hg:=List.getElem?_eq_getElem hc
  have htk:=ay hc
  have hfi:v=l[i]->(l.findIdx? λx=>decide (v=x))=some i:=λe=>by
   rw[List.findIdx?_eq_some_iff_getElem]
   exact⟨hc,by simpa using e,λj hj=>by have:=hp l[j] (List.mem_take_iff_getElem.2 ⟨j,by omega,rfl⟩);simpa using this⟩
  generalize l[i]=x at hg htk hfi
  simp-implicitDefEqProofs[hg]
  refine aF (λhe=>?_) (λhe=>?_)
  ·have he:v=x:=by simpa using he
   rw[hfi he]
   simp-implicitDefEqProofs[ixI]
  ·have he:¬v=x:=by simpa using he
   simp-implicitDefEqProofs[]
   refine⟨i+1,⟨by omega,λy hy=>?_⟩,by omega,aU rfl (by simp[below,w1 (i:=i) (by omega)])⟩
   rw[htk] at hy
   rcases List.mem_append.1 hy with hy|hy
   ·exact hp y hy
   ·rw[List.mem_singleton.1 hy];exact he
 ·simp at hc
  rw[List.take_of_length_le hc] at hp
  have hf:(l.findIdx? λx=>decide (v=x))=none:=by
   rw[List.findIdx?_eq_none_iff]
   intro x hx
   simpa using hp x hx
  rw[hf]
  simp-implicitDefEqProofs[ixI]
theorem jm(l:List Int)(v:Int)(hl:l.length<=1073741824):VF Tryz.prog G bu [.p (aC l),.p (.int .i64 v)] (.p (.bool (decide (v∈l)))):=by
 refine AC.go kI ?_
 simp-implicitDefEqProofs[eR]
 refine(CJ G l v hl).use ?_
 simp-implicitDefEqProofs[]
 cases hf:l.findIdx? λx=>decide (v=x) with
 |none=>
  rw[List.findIdx?_eq_none_iff] at hf
  have:¬v∈l:=λhm=>by have:=hf v hm;simp at this
  simp[ixI,this]
 |some i=>
  rw[List.findIdx?_eq_some_iff_getElem] at hf
  obtain⟨h1,h2,_⟩:=hf
  have:v∈l:=by
   have h2:v=l[i]:=by simpa using h2
   rw[h2];exact List.getElem_mem h1
  simp[ixI,this]
theorem CT{α:Type}(l:List α)(p:α->Bool):decide (0<=ixI (l.findIdx? p))=l.any p:=by
 cases hf:l.findIdx? p with
 |none=>
  rw[List.findIdx?_eq_none_iff] at hf
  have:l.any p=false:=by rw[List.any_eq_false];intro x hx;simp[hf x hx]
  simp[ixI,this]
 |some i=>
  rw[List.findIdx?_eq_some_iff_getElem] at hf
  obtain⟨h1,h2,_⟩:=hf
  have:l.any p=true:=by rw[List.any_eq_true];exact⟨_,List.getElem_mem h1,h2⟩
  simp[ixI,this]
section
variable {h:List AO} {f:FuncId} {caps:List AV}
theorem AG(xs:List Int)(p:Int->Bool)(hl:xs.length<=1073741824)(hcap:aA h.length caps)
 (hcall:∀x∈xs,AC Tryz.prog G f (.p (.int .i64 x)::caps) h λr h'=>r= .ret (.p (.bool (p x)))/\h'=h):
 AC Tryz.prog G cC [.p (aC xs),.fn (.func f) caps] h λr h'=>r= .ret (.p (.int .i64 (ixI (xs.findIdx? p))))/\h'=h:=by
 have hnl:aC xs= .lst 1 (xs.map λn=>[.int .i64 n]):=rfl
 refine AC.go ko ?_
 simp-implicitDefEqProofs[eE,hnl]
 refine aH (λi:Nat=>aw 19 [(8,.p (.int .i64 i)),(7,.p (.int .i64 xs.length)),(0,.p (.lst 1 (xs.map λn=>[.int .i64 n]))),(1,.fn (.func f) caps)]) (λ_=>h) (λi=>i<=xs.length/\∀x∈xs.take i,p x=false) (λi=>xs.length-i) 0 (by simp) (ab (Nat.le_refl _) (by simp[below,hcap])) ?_
 rintro i ⟨hi,hp⟩
 simp-implicitDefEqProofs[]
 refine aF (λhc=>?_) (λhc=>?_)
 ·simp at hc
  have hg:=List.getElem?_eq_getElem hc
  have htk:=ay hc
  have hfi:p xs[i]=true->xs.findIdx? p=some i:=λe=>by
   rw[List.findIdx?_eq_some_iff_getElem]
   exact⟨hc,e,λj hj=>by have:=hp xs[j] (List.mem_take_iff_getElem.2 ⟨j,by omega,rfl⟩);simp[this]⟩
  have hcl:=hcall _ (List.getElem_mem hc)
  generalize xs[i]=x at hg htk hfi hcl
  simp-implicitDefEqProofs[hg]
  refine hcl.mono ?_
  rintro r h' ⟨rfl,rfl⟩
  cases hpx:p x with
  |true=>
   rw[hfi hpx]
   simp-implicitDefEqProofs[aa,ixI]
  |false=>
   simp-implicitDefEqProofs[aa]
   refine⟨i+1,⟨by omega,λy hy=>?_⟩,by omega,ab (Nat.le_refl _) (by simp[below,hcap,w1 (i:=i) (by omega)])⟩
   rw[htk] at hy
   rcases List.mem_append.1 hy with hy|hy
   ·exact hp y hy
   ·rw[List.mem_singleton.1 hy];exact hpx
 ·simp at hc
  rw[List.take_of_length_le hc] at hp
  have hf:xs.findIdx? p=none:=by rw[List.findIdx?_eq_none_iff];exact hp
  rw[hf]
  simp-implicitDefEqProofs[ixI]
theorem tn(xs:List Int)(p:Int->Bool)(hl:xs.length<=1073741824)(hcap:aA h.length caps)
 (hcall:∀x∈xs,AC Tryz.prog G f (.p (.int .i64 x)::caps) h λr h'=>r= .ret (.p (.bool (p x)))/\h'=h):
 AC Tryz.prog G br [.p (aC xs),.fn (.func f) caps] h λr h'=>r= .ret (.p (.bool (xs.any p)))/\h'=h:=by
 refine AC.go iu ?_
 simp-implicitDefEqProofs[du]
 refine(AG G xs p hl hcap hcall).mono ?_
 rintro r h' ⟨rfl,rfl⟩
 simp-implicitDefEqProofs[aa,CT]
end
theorem Dg{α:Type}(l:List α)(p:α->Bool):l.any (λx=> !p x)= !l.all p:=by
 rw[List.not_all_eq_any_not]
def ik(c:Cd)(b:Int):List Int:=if inR b 0 ((c.blocks.length:Int)-1)=true then aI c.blocks b else[]
structure PsS where (i:Nat) (X:List AO) (V:AV)
theorem Cb(c:Cd)(b:Int)(hl:c.blocks.length<=1073741824)(hn:∀x∈c.blocks,x.next.length<=1073741824):AC Tryz.prog G cn [.agg (c.cs.map .p),.p (.int .i64 b)] [] λx h=>∃V,x= .ret V/\((V= .nils/\ik c b=[])\/∃id,V= .sl id 1 0 (ik c b).length/\h[id]?=some (.row 1 (au (ik c b)))):=by
 have hcs:=c.cs_eq2
 have hbl:bkL c.blocks= .lst 5 (c.blocks.map Bk.cs):=rfl
 have hwb:IntKind.i64.wrap ((c.blocks.length:Int)-1)=(c.blocks.length:Int)-1:=ae (by omega) (by omega)
 refine AC.go sW ?_
 simp-implicitDefEqProofs[kY,hcs,hbl,hwb]
 refine(tv G b 0 ((c.blocks.length:Int)-1)).use ?_
 cases hb:inR b 0 ((c.blocks.length:Int)-1) with
 |false=>simp-implicitDefEqProofs[ik,hb]
 |true=>
 have hpe:ik c b=aI c.blocks b:=by rw[ik,hb,if_pos rfl]
 rw[hpe]
 simp-implicitDefEqProofs[]
 refine aH (λa:PsS=>aw 33 [(18,.p (.int .i64 a.i)),(17,.p (.int .i64 c.blocks.length)),(16,.p (.lst 5 (c.blocks.map Bk.cs))),(5,a.V),(1,.p (.int .i64 b))]) (λa=>a.X)
  (λa=>a.i<=c.blocks.length/\((a.V= .nils/\aI (c.blocks.take a.i) b=[])\/∃id,a.V= .sl id 1 0 (aI (c.blocks.take a.i) b).length/\a.X[id]?=some (.row 1 (au (aI (c.blocks.take a.i) b))))) (λa=>c.blocks.length-a.i) ⟨0,[.row 3 [[.p (.int .i64 c.params),.p (.int .i64 c.regs),.p (.lst 5 (c.blocks.map Bk.cs))]]],.nils⟩ ⟨Nat.zero_le _,.inl ⟨rfl,rfl⟩⟩ (ab (by simp) (by simp[below])) ?_
 rintro⟨i,X,V⟩ ⟨hi,hV⟩
 simp only at hi hV
 simp-implicitDefEqProofs[]
 refine aF (λhc=>?_) (λhc=>?_)
 ·simp at hc
  have hg:=List.getElem?_eq_getElem hc
  have hm:=List.getElem_mem hc
  have hpt:=rn (b:=b) hg
  have hpl:=eU (c.blocks.take i) b
  rw[List.length_take,Nat.min_eq_left (by omega)] at hpl
  have hnx:=hn _ hm
  generalize c.blocks[i]=x at hg hpt hnx
  generalize aI (c.blocks.take i) b=out at hV hpt hpl
  have hxs:=x.cs_eq2
  have hw1:=w1 (i:=i) (by omega)
  simp-implicitDefEqProofs[hg,hxs]
  refine(jm G x.next b hnx).use ?_
  by_cases hbn:b∈x.next
  ·rw[if_pos hbn] at hpt
   have hd:decide (b∈x.next)=true:=by simpa using hbn
   rcases hV with⟨rfl,rfl⟩|⟨id,rfl,hid⟩
   ·simp-implicitDefEqProofs[hd,hbn]
    refine⟨⟨i+1,_,.sl (X.length+2) 1 0 1⟩,⟨by simp only;omega,.inr ⟨X.length+2,by rw[hpt];rfl,?_⟩⟩,by simp only;omega,ab (Nat.zero_le _) ?_⟩
    ·rw[hpt,List.getElem?_append_right (by omega)];simp[au]
    ·simp[below,hw1]
   ·have hiX:=(List.getElem?_eq_some_iff.1 hid).1
    have hxm:∀t,(X++t)[id]?=some (.row 1 (au out)):=λt=>by rw[List.getElem?_append_left hiX];exact hid
    have htl:List.take out.length (au out)=au out:=List.take_of_length_le (by simp[au])
    have hrl:(au out).length=out.length:=by simp[au]
    simp-implicitDefEqProofs[hd,hbn,hxm,htl,hrl]
    refine⟨⟨by omega,by omega⟩,⟨i+1,_,.sl (X.length+2) 1 0 (out.length+1)⟩,⟨by simp only;omega,.inr ⟨X.length+2,by rw[hpt];simp,?_⟩⟩,by simp only;omega,ab (Nat.zero_le _) ?_⟩
    ·rw[hpt,List.getElem?_append_right (by simp)];simp[au]
    ·simp[below,hw1]
  ·rw[if_neg hbn,List.append_nil] at hpt
   have hd:decide (b∈x.next)=false:=by simpa using hbn
   simp-implicitDefEqProofs[hd,hbn]
   rcases hV with⟨rfl,rfl⟩|⟨id,rfl,hid⟩
   ·exact⟨⟨i+1,_,.nils⟩,⟨by simp only;omega,.inl ⟨rfl,hpt⟩⟩,by simp only;omega,ab (Nat.zero_le _) (by simp[below,hw1])⟩
   ·have hiX:=(List.getElem?_eq_some_iff.1 hid).1
    refine⟨⟨i+1,_,.sl id 1 0 out.length⟩,⟨by simp only;omega,.inr ⟨id,by rw[hpt],?_⟩⟩,by simp only;omega,ab (Nat.zero_le _) (by simp[below,hw1];omega)⟩
    rw[hpt,List.getElem?_append_left hiX];exact hid
 ·simp at hc
  have hie:i=c.blocks.length:=by omega
  subst hie
  rw[List.take_length] at hV
  simp-implicitDefEqProofs[]
  exact hV
theorem pR(c:Cd)(b:Int)(hl:c.blocks.length<=1073741824)(hn:∀x∈c.blocks,x.next.length<=1073741824):VF Tryz.prog G cn [.agg (c.cs.map .p),.p (.int .i64 b)] (.p (aC (ik c b))):=
 (Cb G c b hl hn).freezeR (λt v h ⟨_,e,_⟩=>by cases e) λv h ⟨V,e1,e2⟩=>by
   cases e1
   rcases e2 with⟨rfl,e⟩|⟨id,rfl,e⟩
   ·rw[e];exact .one (View.nils 1) .nil
   ·exact .one (bw e) .nil
end
section
variable (G:az)
section
variable {h:List AO} {f:FuncId} {caps:List AV}
theorem BY(xs:List Bk)(p:Bk->Bool)(hl:xs.length<=1073741824)(hcap:aA h.length caps)
 (hcall:∀x∈xs,AC Tryz.prog G f (.agg (x.cs.map .p)::caps) h λr h'=>r= .ret (.p (.bool (p x)))/\h'=h):
 AC Tryz.prog G bD [.p (bkL xs),.fn (.func f) caps] h λr h'=>r= .ret (.p (.int .i64 (ixI (xs.findIdx? p))))/\h'=h:=by
 have hnl:bkL xs= .lst 5 (xs.map Bk.cs):=rfl
 refine AC.go fG ?_
 simp-implicitDefEqProofs[cx,hnl]
 refine aH (λi:Nat=>aw 19 [(8,.p (.int .i64 i)),(7,.p (.int .i64 xs.length)),(0,.p (.lst 5 (xs.map Bk.cs))),(1,.fn (.func f) caps)]) (λ_=>h) (λi=>i<=xs.length/\∀x∈xs.take i,p x=false) (λi=>xs.length-i) 0 (by simp) (ab (Nat.le_refl _) (by simp[below,hcap])) ?_
 rintro i ⟨hi,hp⟩
 simp-implicitDefEqProofs[]
 refine aF (λhc=>?_) (λhc=>?_)
 ·simp at hc
  have hg:=List.getElem?_eq_getElem hc
  have htk:=ay hc
  have hfi:p xs[i]=true->xs.findIdx? p=some i:=λe=>by
   rw[List.findIdx?_eq_some_iff_getElem]
   exact⟨hc,e,λj hj=>by have:=hp xs[j] (List.mem_take_iff_getElem.2 ⟨j,by omega,rfl⟩);simp[this]⟩
  have hcl:=hcall _ (List.getElem_mem hc)
  generalize xs[i]=x at hg htk hfi hcl
  have hxs:=x.cs_eq2
  rw[hxs] at hcl
  simp-implicitDefEqProofs[hg,hxs]
  refine hcl.mono ?_
  rintro r h' ⟨rfl,rfl⟩
  cases hpx:p x with
  |true=>
   rw[hfi hpx]
   simp-implicitDefEqProofs[aa,ixI]
  |false=>
   simp-implicitDefEqProofs[aa]
   refine⟨i+1,⟨by omega,λy hy=>?_⟩,by omega,ab (Nat.le_refl _) (by simp[below,hcap,w1 (i:=i) (by omega)])⟩
   rw[htk] at hy
   rcases List.mem_append.1 hy with hy|hy
   ·exact hp y hy
   ·rw[List.mem_singleton.1 hy];exact hpx
 ·simp at hc
  rw[List.take_of_length_le hc] at hp
  have hf:xs.findIdx? p=none:=by rw[List.findIdx?_eq_none_iff];exact hp
  rw[hf]
  simp-implicitDefEqProofs[ixI]
theorem DT(xs:List Bk)(p:Bk->Bool)(hl:xs.length<=1073741824)(hcap:aA h.length caps)
 (hcall:∀x∈xs,AC Tryz.prog G f (.agg (x.cs.map .p)::caps) h λr h'=>r= .ret (.p (.bool (p x)))/\h'=h):
 AC Tryz.prog G bm [.p (bkL xs),.fn (.func f) caps] h λr h'=>r= .ret (.p (.bool (xs.any p)))/\h'=h:=by
 refine AC.go ep ?_
 simp-implicitDefEqProofs[cd]
 refine(BY G xs p hl hcap hcall).mono ?_
 rintro r h' ⟨rfl,rfl⟩
 simp-implicitDefEqProofs[aa,CT]
end
theorem vl{h:List AO}{c:Cd}{q:Nat}(hq:h[q]?=some (.row 3 [[.p (.int .i64 c.params),.p (.int .i64 c.regs),.p (bkL c.blocks)]]))(hl:c.blocks.length<=1073741824)(r:Int):AC Tryz.prog G dV [.p (.int .i64 r),.ptr q 3 0 0] h λx h'=>x= .ret (.p (.bool (!inR r 0 ((c.blocks.length:Int)-1))))/\h'=h:=by
 have hbl:bkL c.blocks= .lst 5 (c.blocks.map Bk.cs):=rfl
 have hwb:IntKind.i64.wrap ((c.blocks.length:Int)-1)=(c.blocks.length:Int)-1:=ae (by omega) (by omega)
 refine AC.go nH ?_
 simp-implicitDefEqProofs[ie,hq,hbl,hwb]
 refine(tv G r 0 ((c.blocks.length:Int)-1)).use ?_
 simp-implicitDefEqProofs[]
theorem Bp{h:List AO}{c:Cd}{q:Nat}(hq:h[q]?=some (.row 3 [[.p (.int .i64 c.params),.p (.int .i64 c.regs),.p (bkL c.blocks)]]))(hl:c.blocks.length<=1073741824)(x:Bk)(hx:x.next.length<=1073741824):AC Tryz.prog G dp [.agg (x.cs.map .p),.ptr q 3 0 0] h λr h'=>r= .ret (.p (.bool (!tm c.blocks.length x.next)))/\h'=h:=by
 have hxs:=x.cs_eq2
 have hql:=(List.getElem?_eq_some_iff.1 hq).1
 have hfn:tm c.blocks.length x.next=x.next.all λn=>inR n 0 ((c.blocks.length:Int)-1):=rfl
 have hm:∀t,(h++t)[q]?=some (.row 3 [[.p (.int .i64 c.params),.p (.int .i64 c.regs),.p (bkL c.blocks)]]):=λt=>by rw[List.getElem?_append_left hql];exact hq
 refine AC.trim (AC.go pn ?_) (by simp[below])
 simp-implicitDefEqProofs[jE,hxs]
 refine(tn G x.next (λn=> !inR n 0 ((c.blocks.length:Int)-1)) hx (by simp[below];omega) (λn _=>vl G (hm _) hl n)).mono ?_
 rintro r h' ⟨rfl,rfl⟩
 simp-implicitDefEqProofs[aa,Dg,hfn]
theorem vV(c:Cd)(hc:CBd c):VF Tryz.prog G ew [.agg (c.cs.map .p)] (.p (.bool (aV c.blocks))):=by
 have hcs:=c.cs_eq2
 have hl1:=hc.1
 have hbl:bkL c.blocks= .lst 5 (c.blocks.map Bk.cs):=rfl
 refine AC.go sU ?_
 rw[zw]
 by_cases hp:0<c.blocks.length
 ·have hcf:=DT (h:=[.row 3 [[.p (.int .i64 c.params),.p (.int .i64 c.regs),.p (bkL c.blocks)]]]) (f:=dp) (caps:=[.ptr 0 3 0 0]) G c.blocks (λx=> !tm c.blocks.length x.next) hl1 (by simp[below]) (λx hx=>Bp G rfl hl1 x (hc.2 x hx))
  rw[hbl] at hcf
  simp-implicitDefEqProofs[il,hcs,hbl,hp]
  refine hcf.mono ?_
  rintro r h' ⟨rfl,rfl⟩
  simp-implicitDefEqProofs[aa,Dg,zk]
 ·simp-implicitDefEqProofs[il,hcs,hbl,hp]
def unW:List Bk->List Bool->Nat
 |x::r,s::q=>(if s then 0 else x.next.length)+unW r q
 |_,_=>0
theorem Dj:∀{bs:List Bk} {S:List Bool} {b:Nat} {x:Bk},bs[b]?=some x->S[b]?=some false->unW bs (S.set b true)+x.next.length=unW bs S
 |[],_,_,_,h,_=>by simp at h
 |_::_,[],_,_,_,h=>by simp at h
 |y::r,s::q,0,x,h1,h2=>by
  simp at h1 h2
  subst h1;subst h2
  simp[unW];omega
 |y::r,s::q,b+1,x,h1,h2=>by
  have:=Dj (bs:=r) (S:=q) (b:=b) (x:=x) (by simpa using h1) (by simpa using h2)
  simp only[List.set_cons_succ,unW]
  omega
theorem Dv:∀(bs:List Bk),unW bs (List.replicate bs.length false)=(bs.map λx=>x.next.length).sum
 |[]=>rfl
 |x::r=>by
  have:=Dv r
  simp only[List.length_cons,List.replicate_succ,unW,List.map_cons,List.sum_cons,Bool.false_eq_true,if_false]
  omega
def CSm(c:Cd):Prop:=CBd c/\(c.blocks.map λx=>x.next.length).sum<=1099511627776
structure RwS (bs:List Bk) (no:Int) (S:List Bool) (T:List Nat):Prop where
 len:S.length=bs.length
 sound:∀x,x<bs.length->sn S x=true->RW (stC bs) (λy=>(y:Int)=no) x
 todo:∀x∈T,x<bs.length/\((x:Int)≠no->RW (stC bs) (λy=>(y:Int)=no) x)
 clo:∀x,x<bs.length->sn S x=true->∀y∈nxC bs x,(y:Int)=no\/sn S y=true\/y∈T
 root:(0:Int)=no\/sn S 0=true\/0∈T
theorem RwS.start{bs:List Bk}(hfit:aV bs=true)(no:Int):RwS bs no (List.replicate bs.length false) [0] where
 len:=List.length_replicate
 sound x hx h:=by rw[eM,decide_eq_true_eq] at h;omega
 todo x hx:=by
  rw[List.mem_singleton.1 hx]
  exact⟨cG hfit,λh=> .zero h⟩
 clo x hx h:=by rw[eM,decide_eq_true_eq] at h;omega
 root:= .inr (.inr (by simp))
theorem RwS.skip{bs:List Bk}{no:Int}{S:List Bool}{T:List Nat}{b:Nat}(h:RwS bs no S (T++[b]))(hb:(b:Int)=no\/sn S b=true):RwS bs no S T where
 len:=h.len
 sound:=h.sound
 todo x hx:=h.todo x (by simp[hx])
 clo x hx hs y hy:=by
  rcases h.clo x hx hs y hy with h1|h1|h1
  ·exact .inl h1
  ·exact .inr (.inl h1)
  ·rcases List.mem_append.1 h1 with h1|h1
   ·exact .inr (.inr h1)
   ·rw[List.mem_singleton.1 h1];exact hb.imp id .inl
 root:=by
  rcases h.root with h1|h1|h1
  ·exact .inl h1
  ·exact .inr (.inl h1)
  ·rcases List.mem_append.1 h1 with h1|h1
   ·exact .inr (.inr h1)
   ·have:=List.mem_singleton.1 h1
    subst this
    exact hb.imp id .inl
theorem RwS.visit{bs:List Bk}{no:Int}{S:List Bool}{T:List Nat}{b:Nat}(hfit:aV bs=true)(h:RwS bs no S (T++[b]))(hb:(b:Int)≠no):RwS bs no (S.set b true) (T++nxC bs b):=by
 have hbR:=(h.todo b (by simp)).2 hb
 have hbl:=(h.todo b (by simp)).1
 have hup:∀y:Nat,(y:Int)=no\/sn S y=true\/y∈T++[b]->(y:Int)=no\/sn (S.set b true) y=true\/y∈T++nxC bs b:=λy hy=>by
  rw[gM]
  rcases hy with h1|h1|h1
  ·exact .inl h1
  ·exact .inr (.inl (by rw[h1];rfl))
  ·rcases List.mem_append.1 h1 with h1|h1
   ·exact .inr (.inr (List.mem_append_left _ h1))
   ·rw[List.mem_singleton.1 h1];exact .inr (.inl (by simp))
 refine⟨by rw[List.length_set];exact h.len,λx hx hs=>?_,λx hx=>?_,λx hx hs y hy=>?_,by have:=hup 0 (by simpa using h.root);simpa using this⟩
 ·rw[gM,Bool.or_eq_true,decide_eq_true_eq] at hs
  rcases hs with hs|rfl
  ·exact h.sound x hx hs
  ·exact hbR
 ·rcases List.mem_append.1 hx with hx|hx
  ·exact h.todo x (by simp[hx])
  ·exact⟨(zy hfit hx).2,λhn=> .step hbR hx hn⟩
 ·rw[gM,Bool.or_eq_true,decide_eq_true_eq] at hs
  rcases hs with hs|rfl
  ·exact hup y (h.clo x hx hs y hy)
  ·exact .inr (.inr (List.mem_append_right _ hy))
theorem RwS.done{bs:List Bk}{no:Int}{S:List Bool}(hfit:aV bs=true)(h:RwS bs no S []){x:Nat}(hx:x<bs.length):sn S x=true↔RW (stC bs) (λy=>(y:Int)=no) x:=by
 refine⟨h.sound x hx,λhr=>?_⟩
 clear hx
 induction hr with
 |zero h0=>
  rcases h.root with h1|h1|h1
  ·exact absurd h1 h0
  ·exact h1
  ·cases h1
 | @step p m hp e hn ih=>
   have hpl:p<bs.length:=(zy hfit e).1
   rcases h.clo p hpl ih m e with h1|h1|h1
   ·exact absurd h1 hn
   ·exact h1
   ·cases h1
theorem RwS.rch{bs:List Bk}{S:List Bool}(hfit:aV bs=true)(h:RwS bs (-1) S []):S=iS bs:=by
 refine jL (by rw[h.len,uh]) λx hx=>?_
 rw[h.len] at hx
 rw[iS,pQ hx,Bool.eq_iff_iff,h.done hfit hx,rchB_iff,Rch]
 have e:(λy:Nat=>(y:Int)= -1)=λ_=>False:=funext λy=>propext ⟨λh=>by omega,λh=>h.elim⟩
 rw[e]
theorem RwS.rw{bs:List Bk}{S:List Bool}{a:Nat}(hfit:aV bs=true)(h:RwS bs a S []):S=rwL bs a:=by
 refine jL (by rw[h.len,yA]) λx hx=>?_
 rw[h.len] at hx
 rw[rwL,pQ hx,Bool.eq_iff_iff,h.done hfit hx,nR]
 have e:(λy:Nat=>(y:Int)=(a:Int))=λy=>y=a:=funext λy=>propext (by omega)
 rw[e]
theorem FM{bs:List Bk}(hfit:aV bs=true){b:Nat}{x:Bk}(hx:bs[b]?=some x):aT (nxC bs b)=x.next:=by
 rw[lD hx,aT,List.map_map]
 have:∀n∈x.next,(Int.ofNat∘Int.toNat) n=id n:=λn hn=>by
  have:=yW hfit hx hn
  simp only[Function.comp,id]
  show((n.toNat:Nat):Int)=n
  omega
 rw[List.map_congr_left this,List.map_id]
structure RwT where (S:List Bool) (T:List Nat) (X:List AO) (o:Nat) (R:List (List AV))
theorem tj(c:Cd)(hc:CSm c)(hfit:aV c.blocks=true)(no:Int):AC Tryz.prog G aM [.agg (c.cs.map .p),.p (.int .i64 no)] [] λr h=>∃S,RwS c.blocks no S []/\r= .ret (.sl 1 1 0 c.blocks.length)/\h[1]?=some (.row 1 (bM S)):=by
 have hcs:=c.cs_eq2
 have hbl:bkL c.blocks= .lst 5 (c.blocks.map Bk.cs):=rfl
 have hl1:=hc.1.1
 have hpos:=cG hfit
 refine AC.go kK ?_
 simp-implicitDefEqProofs[eP,hcs,hbl,vp]
 refine⟨by omega,?_⟩
 refine aH (λa:RwT=>aw 48 [(1,.p (.int .i64 no)),(2,.ptr 0 3 0 0),(5,.sl 1 1 0 c.blocks.length),(6,.sl a.o 1 0 a.T.length)]) (λa=>a.X)
  (λa=>RwS c.blocks no a.S a.T/\unW c.blocks a.S+a.T.length<=1099511627777/\a.X[0]?=some (.row 3 [[.p (.int .i64 c.params),.p (.int .i64 c.regs),.p (.lst 5 (c.blocks.map Bk.cs))]])/\a.X[1]?=some (.row 1 (bM a.S))/\a.X[a.o]?=some (.row 1 a.R)/\a.o≠0/\a.o≠1/\a.R.take a.T.length=au (aT a.T)/\a.T.length<=a.R.length) (λa=>unW c.blocks a.S+a.T.length)
  ⟨List.replicate c.blocks.length false,[0],_,2,[[.p (.int .i64 0)]]⟩ ⟨RwS.start hfit no,by simp only[Dv];have:=hc.2;simp;omega,rfl,rfl,rfl,by simp,by simp,rfl,by simp⟩ (ab (Nat.zero_le _) (by simp[below])) ?_
 rintro⟨S,T,X,o,R⟩ ⟨hS,hM,g0,g1,g2,ho0,ho1,hR,hRl⟩
 simp only at hS hM g0 g1 g2 ho0 ho1 hR hRl
 have hol:=(List.getElem?_eq_some_iff.1 g2).1
 have h1l:=(List.getElem?_eq_some_iff.1 g1).1
 simp-implicitDefEqProofs[]
 refine aF (λhc1=>?_) (λhc1=>?_)
 ·simp at hc1
  obtain⟨T',b,rfl⟩:∃T' b,T=T'++[b]:=⟨T.dropLast,T.getLast (by intro e;subst e;simp at hc1),(List.dropLast_concat_getLast _).symm⟩
  rw[List.length_append,List.length_singleton] at hR hRl hM
  have hTl:(T'++[b]).length=T'.length+1:=by simp
  have hRb:R[T'.length]?=some [.p (.int .i64 b)]:=by
   have:=congrArg (·[T'.length]?) hR
   simp only[List.getElem?_take_of_lt (Nat.lt_succ_self _)] at this
   rw[this,lU]
   simp[au,aT]
  have hRT:R.take T'.length=au (aT T'):=by
   have:=congrArg (List.take T'.length) hR
   rw[List.take_take,Nat.min_eq_left (Nat.le_succ _),lU] at this
   rw[this]
   simp[au,aT]
  have hwl:IntKind.i64.wrap ((T'.length:Nat):Int)=((T'.length:Nat):Int):=ae (by omega) (by omega)
  have⟨hbl2,hbr⟩:=hS.todo b (by simp)
  have hTR:T'.length<=R.length:=by omega
  have hbS:b<S.length:=by rw[hS.len];exact hbl2
  have hrow:(bM S)[b]?=some [.p (.bool (sn S b))]:=ef (mV hbS)
  by_cases hno:(b:Int)=no
  ·have hsk:=hS.skip (.inl hno)
   simp-implicitDefEqProofs[g2,hwl,hRb,hno,hTR]
   exact⟨by omega,⟨S,T',X,o,R⟩,⟨hsk,by simp only;omega,g0,g1,g2,ho0,ho1,hRT,hTR⟩,by simp only;omega,ab (Nat.zero_le _) (by simp[below];omega)⟩
  ·cases hsb:sn S b with
   |true=>
    rw[hsb] at hrow
    have hsk:=hS.skip (.inr hsb)
    simp-implicitDefEqProofs[g2,hwl,hRb,hno,hTR,g1,hrow]
    exact⟨by omega,hbl2,⟨S,T',X,o,R⟩,⟨hsk,by simp only;omega,g0,g1,g2,ho0,ho1,hRT,hTR⟩,by simp only;omega,ab (Nat.zero_le _) (by simp[below];omega)⟩
   |false=>
    rw[hsb] at hrow
    have hgb:=List.getElem?_eq_getElem hbl2
    have hmb:=List.getElem_mem hbl2
    have hvs:=hS.visit hfit hno
    generalize c.blocks[b]=x at hgb hmb
    have hxs:=x.cs_eq2
    have hxn:=hc.1.2 _ hmb
    have hnl:aC x.next= .lst 1 (x.next.map λn=>[.int .i64 n]):=rfl
    have hW:=Dj hgb (by rw[mV hbS,hsb])
    have hTn:∀t,(X.set 1 t)[o]?=some (.row 1 R):=λt=>by rw[List.getElem?_set_ne (by omega)];exact g2
    have hnn:=FM hfit hgb
    have hnxl:(nxC c.blocks b).length=x.next.length:=by rw[lD hgb,List.length_map]
    have e0:List.map ((λx=>List.map AV.p x)∘λn=>[PV.int IntKind.i64 n]) x.next=au x.next:=rfl
    simp-implicitDefEqProofs[g2,hwl,hRb,hno,hTR,g1,hrow,dG,g0,hgb,hxs,hnl,hTn,hRT]
    refine⟨by omega,hbl2,⟨by omega,by omega⟩,⟨S.set b true,T'++nxC c.blocks b,_,X.length,au (aT T')++au x.next⟩,⟨hvs,by simp only[List.length_append,hnxl];omega,?_,?_,?_,by simp only;omega,by simp only;omega,?_,?_⟩,by simp only[List.length_append,hnxl];omega,ab (Nat.zero_le _) ?_⟩
    ·simp only
     rw[List.getElem?_append_left (by simp;omega),List.getElem?_set_ne (by omega),List.getElem?_set_ne (by omega)];exact g0
    ·simp only
     rw[List.getElem?_append_left (by simp;omega),List.getElem?_set_ne (by omega),List.getElem?_set_self h1l]
    ·simp only
     rw[List.getElem?_append_right (by simp)];simp only[List.length_set,Nat.sub_self,List.getElem?_cons_zero,e0]
    ·simp only
     rw[List.take_of_length_le (by simp[au,aT,hnxl]),lU,hnn];simp[au]
    ·simp[au,aT,hnxl]
    ·simp[below,hnxl]
     try omega
 ·simp at hc1
  subst hc1
  simp-implicitDefEqProofs[]
  exact⟨S,hS,g1⟩
theorem zl(c:Cd)(hc:CSm c)(hfit:aV c.blocks=true):VF Tryz.prog G aM [.agg (c.cs.map .p),.p (.int .i64 (-1))] (.p (boL (iS c.blocks))):=
 dr G ((tj G c hc hfit (-1)).mono λr h ⟨S,h1,h2,h3⟩=>⟨_,h2,by
  have:=h1.rch hfit
  subst this
  exact ox h3 (uh _).symm⟩)
theorem zF(c:Cd)(hc:CSm c)(hfit:aV c.blocks=true)(a:Nat):VF Tryz.prog G aM [.agg (c.cs.map .p),.p (.int .i64 a)] (.p (boL (rwL c.blocks a))):=
 dr G ((tj G c hc hfit a).mono λr h ⟨S,h1,h2,h3⟩=>⟨_,h2,by
  have:=h1.rw hfit
  subst this
  exact ox h3 (yA _ _).symm⟩)
end
section
def mF:AK:=qe [wP 1 3 0,qc 2 (.c .nilp)] (qB [yc 8 1,xf 9 ew 8,xX 10 9] (wW 10 2 (.c .nilp)) (xI [yc 11 1,yc 12 1,qm 13 aM (xJ 12 (-1)),yf 3 1 11,wx 14 [qx,qx,.nils,.nils,.nils] [wv 0 3 11,wG 4 13],wP 15 5 14,qf 3 15] [xr 16 1,qu 17 16,wg 18 17,yh 19] (qT 0 (yg [wJ 20 19 18] (ww 20 0) (wq 1 (qY (xq (qf 21 19) 4 21) [xr 22 1,qu 23 22,wg 24 23,qb 25 (.mks 1 1 [qF] (.t 24) (.t 24)),qf 5 25] (xO [ya 26,wb 27 26,qp 28 4 27,qu 29 28,xH 30,wn 31 1 29 30,qu 32 31] (qW 32 (qY [yc 33 1,xH 34,wM 35 aM 33 34,qf 6 35] [wV 36,wg 37 36,yh 38] (qT 2 (yg [wJ 39 38 37] (ww 39 2) (wq 3 (qe (xq (qf 40 38) 7 40) (.reg [wV 41,x9 42,ya 43,wb 44 43,qp 45 4 44,qu 46 45,x9 47,wn 48 1 46 47,qu 49 48,qf 50 49,xd 51 50 6,xd 52 50 7,qL 53 50 (we 1 51 52),xa 54 50 53,qL 55 50 (wB 54),ye 56 50 55,wn 57 1 41 42,xK 57 56])) (xq (wF 58 38 1) 38 58)))))) (.reg [ya 59,ya 60,wb 61 60,qp 62 3 61,qu 63 62,wV 64,qI 65 1 xY 1 [xT 64],wT 66 1 24 63 65,wb 67 59,qp 68 3 67,xK 68 66]))) (xq (wF 69 19 1) 19 69)))) (xq (ya 70) 2 70)))
theorem uK:AK.whole mF=FK.ak fv:=rfl
noncomputable def dmE (c:Cd):List PV:=[.int .i64 c.params,.int .i64 c.regs,bkL c.blocks,Hr c.blocks,boL (iS c.blocks)]
noncomputable def dmV (c:Cd):AV:=if aV c.blocks then .eptr (dmE c) 0 else .nilp
theorem FE{bs:List Bk}{a b:Nat}(h:bP bs a=false):co bs a b=false:=by rw[oU,h];rfl
theorem IG{bs:List Bk}{a:Nat}(h:bP bs a=false):jV bs a=List.replicate bs.length false:=by
 refine jL (by simp[eN]) λx hx=>?_
 rw[eN] at hx
 rw[jV,pQ hx,FE h,eM];simp;omega
theorem ta(l:List Bool):∃BL:List (List PV),boL l= .lst 1 BL/\BL.length=l.length/\∀(i:Nat) (x:Bool),l[i]?=some x->BL[i]?=some [PV.bool x]:=
 ⟨l.map λb=>[PV.bool b],rfl,by simp,λi x h=>by simp[h]⟩
theorem Jo{α:Type}{l:List α}{i:Nat}{x:α}(h:l[i]?=some x)(hh:i<l.length):l[i]'hh=x:=by
 rw[List.getElem?_eq_getElem hh] at h
 exact Option.some.inj h
structure DpS where (i:Nat) (X:List AO) (V:AV) (rows:List (List AV))
variable (G:az)
theorem EN(c:Cd)(hc:CSm c)(hfit:aV c.blocks=true):AC Tryz.prog G cg [.agg (c.cs.map .p)] [] λx h=>∃o rows,2<=o/\x= .ret (.ptr 1 5 0 0)/\h[1]?=some (.row 5 [[.p (.int .i64 c.params),.p (.int .i64 c.regs),.p (bkL c.blocks),.sl o 1 0 c.blocks.length,.p (boL (iS c.blocks))]])/\h[o]?=some (.row 1 rows)/\rows.length=c.blocks.length/\∀k,k<c.blocks.length->∃id,2<=id/\rows[k]?=some [.sl id 1 0 c.blocks.length]/\h[id]?=some (.row 1 (bM (jV c.blocks k))):=by
 have hcs:=c.cs_eq2
 have hbl:bkL c.blocks= .lst 5 (c.blocks.map Bk.cs):=rfl
 have hl1:=hc.1.1
 have hpos:=cG hfit
 have hg:=vV G c hc.1
 have hra:=zl G c hc hfit
 have hrb:=λa=>zF G c hc hfit a
 obtain⟨BL,hBL,hBl,hBg⟩:=ta (iS c.blocks)
 rw[hcs,hbl] at hg hra hrb
 rw[hBL] at hra
 rw[hfit] at hg
 refine AC.goK mO uK ?_
 rw[hBL]
 simp-implicitDefEqProofs[mF,fv,hcs,hbl]
 refine hg.use ?_
 simp-implicitDefEqProofs[]
 refine hra.use ?_
 simp-implicitDefEqProofs[]
 refine aH (λa:DpS=>aw 71 [(19,.p (.int .i64 a.i)),(18,.p (.int .i64 c.blocks.length)),(3,.ptr 1 5 0 0),(1,.ptr 0 3 0 0)]) (λa=>a.X)
  (λa=>a.i<=c.blocks.length/\a.X[0]?=some (.row 3 [[.p (.int .i64 c.params),.p (.int .i64 c.regs),.p (.lst 5 (c.blocks.map Bk.cs))]])/\a.X[1]?=some (.row 5 [[.p (.int .i64 c.params),.p (.int .i64 c.regs),.p (.lst 5 (c.blocks.map Bk.cs)),a.V,.p (.lst 1 BL)]])/\
    (a.V= .nils/\a.i=0\/∃o,a.V= .sl o 1 0 a.i/\a.X[o]?=some (.row 1 a.rows)/\o≠0/\o≠1)/\a.rows.length=a.i/\∀k,k<a.i->∃id,id≠1/\a.V≠ .sl id 1 0 a.i/\a.rows[k]?=some [.sl id 1 0 c.blocks.length]/\a.X[id]?=some (.row 1 (bM (jV c.blocks k)))) (λa=>c.blocks.length-a.i) ⟨0,_,.nils,[]⟩ ⟨Nat.zero_le _,rfl,rfl,.inl ⟨rfl,rfl⟩,rfl,λk hk=>absurd hk (Nat.not_lt_zero _)⟩ (ab (Nat.zero_le _) (by simp[below])) ?_
 rintro⟨i,X,V,rows⟩ ⟨hi,g0,g1,hV,hrl,hro⟩
 simp only at hi g0 g1 hV hrl hro
 have h1l:=(List.getElem?_eq_some_iff.1 g1).1
 simp-implicitDefEqProofs[]
 refine aF (λhc1=>?_) (λhc1=>?_)
 ·simp at hc1
  have hw1:=w1 (i:=i) (by omega)
  have hX0:∀t,(X++t)[0]?=some (.row 3 [[.p (.int .i64 c.params),.p (.int .i64 c.regs),.p (.lst 5 (c.blocks.map Bk.cs))]]):=λt=>by rw[List.getElem?_append_left (by omega)];exact g0
  have hX0':∀t hh,(X++t)[0]'hh= .row 3 [[.p (.int .i64 c.params),.p (.int .i64 c.regs),.p (.lst 5 (c.blocks.map Bk.cs))]]:=λt hh=>by
   have:=hX0 t
   rw[List.getElem?_eq_getElem hh] at this
   exact Option.some.inj this
  have hX1:∀t,(X++t)[1]?=some (.row 5 [[.p (.int .i64 c.params),.p (.int .i64 c.regs),.p (.lst 5 (c.blocks.map Bk.cs)),V,.p (.lst 1 BL)]]):=λt=>by rw[List.getElem?_append_left (by omega)];exact g1
  have hBi:BL[i]?=some [.bool (bP c.blocks i)]:=hBg i _ (by simp[iS,hc1])
  simp-implicitDefEqProofs[g0,vp]
  refine⟨by omega,?_⟩
  refine fR (λY:List AO=>aw 71 [(5,.sl X.length 1 0 c.blocks.length),(19,.p (.int .i64 i)),(18,.p (.int .i64 c.blocks.length)),(3,.ptr 1 5 0 0),(1,.ptr 0 3 0 0)]) (λY=>Y)
   (λY=>X.length<Y.length/\(∀j,j<X.length->Y[j]?=X[j]?)/\Y[X.length]?=some (.row 1 (bM (jV c.blocks i)))) ?_ ?_
  ·cases hri:bP c.blocks i with
   |false=>
    rw[hri] at hBi
    simp-implicitDefEqProofs[hX1,hBi]
    refine⟨_,⟨by simp,λj hj=>List.getElem?_append_left hj,?_⟩,ab (Nat.zero_le _) (by simp[below];omega)⟩
    rw[List.getElem?_append_right (Nat.le_refl _),IG hri];simp
   |true=>
    rw[hri] at hBi
    obtain⟨CL,hCL,hCl,hCg⟩:=ta (rwL c.blocks i)
    have hrb1:=hrb i
    rw[hCL] at hrb1
    simp-implicitDefEqProofs[hX1,hX0,hX0',hBi]
    refine hrb1.use ?_
    simp-implicitDefEqProofs[]
    have hD:∀j,j<c.blocks.length->(jG c.blocks i j).set j (co c.blocks i j)=jG c.blocks i (j+1):=λj hj=>vZ hj
    have hDl:=Am c.blocks i
    rw[←yv c.blocks i]
    refine aH (λj:Nat=>aw 71 [(38,.p (.int .i64 j)),(37,.p (.int .i64 c.blocks.length)),(6,.p (.lst 1 CL)),(5,.sl X.length 1 0 c.blocks.length),(19,.p (.int .i64 i)),(18,.p (.int .i64 c.blocks.length)),(3,.ptr 1 5 0 0),(1,.ptr 0 3 0 0)])
     (λj=>X++[.row 1 (bM (jG c.blocks i j))]) (λj=>j<=c.blocks.length) (λj=>c.blocks.length-j) 0 (Nat.zero_le _) (ab (Nat.zero_le _) (by simp[below];omega)) ?_
    intro j hj
    simp-implicitDefEqProofs[]
    refine aF (λhc2=>?_) (λhc2=>?_)
    ·simp at hc2
     have r1:BL[j]?=some [.bool (bP c.blocks j)]:=hBg j _ (by simp[iS,hc2])
     have r2:CL[j]?=some [.bool (rwB c.blocks i j)]:=hCg j _ (by simp[rwL,hc2])
     have hDj:=hD j hc2
     have hle:j<(jG c.blocks i j).length:=by rw[hDl j hj];exact hc2
     have hrj:∃z,(bM (jG c.blocks i j))[j]?=some [.p (.bool z)]:=⟨_,ef (List.getElem?_eq_getElem hle)⟩
     obtain⟨z,hz⟩:=hrj
     rw[oU,hri] at hDj
     have hw2:=w1 (i:=j) (by omega)
     clear hD hDl hle
     cases c2:bP c.blocks j with
     |false=>
      rw[c2] at r1 hDj
      simp only[Bool.false_and,Bool.and_false] at hDj
      simp-implicitDefEqProofs[hX1,r1,r2,hz,dG,hDj]
      exact⟨hc2,j+1,by omega,by omega,ab (Nat.zero_le _) (by simp[below,hw2];omega)⟩
     |true=>
      rw[c2] at r1 hDj
      simp only[Bool.true_and] at hDj
      simp-implicitDefEqProofs[hX1,r1,r2,hz,dG,hDj]
      exact⟨hc2,j+1,by omega,by omega,ab (Nat.zero_le _) (by simp[below,hw2];omega)⟩
    ·simp at hc2
     have hje:j=c.blocks.length:=by omega
     subst hje
     rw[Ap]
     simp-implicitDefEqProofs[]
     refine⟨_,⟨by simp,λj hj=>List.getElem?_append_left hj,?_⟩,ab (Nat.zero_le _) (by simp[below];omega)⟩
     rw[List.getElem?_append_right (Nat.le_refl _)];simp
  ·rintro Y ⟨q1,q2,q3⟩
   have hY0:Y[0]?=some (.row 3 [[.p (.int .i64 c.params),.p (.int .i64 c.regs),.p (.lst 5 (c.blocks.map Bk.cs))]]):=by rw[q2 _ (by omega)];exact g0
   have hY1:∀t,(Y++t)[1]?=some (.row 5 [[.p (.int .i64 c.params),.p (.int .i64 c.regs),.p (.lst 5 (c.blocks.map Bk.cs)),V,.p (.lst 1 BL)]]):=λt=>by rw[List.getElem?_append_left (by omega),q2 _ h1l];exact g1
   have hY1':Y[1]?=some (.row 5 [[.p (.int .i64 c.params),.p (.int .i64 c.regs),.p (.lst 5 (c.blocks.map Bk.cs)),V,.p (.lst 1 BL)]]):=by rw[q2 _ h1l];exact g1
   rcases hV with⟨rfl,rfl⟩|⟨o,rfl,g2,ho0,ho1⟩
   ·have hrn:rows=[]:=List.length_eq_zero_iff.1 hrl
    subst hrn
    have hYe:=λt hh=>Jo (hY1 t) hh
    simp-implicitDefEqProofs[hY1,hY1',hYe]
    refine⟨⟨1,_,.sl (Y.length+1) 1 0 1,[[.sl X.length 1 0 c.blocks.length]]⟩,⟨hc1,?_,?_,.inr ⟨Y.length+1,rfl,?_,by omega,by omega⟩,rfl,?_⟩,by simp only;omega,ab (Nat.zero_le _) (by simp[below,ae (x:=1)])⟩
    ·simp only
     rw[List.getElem?_set_ne (by omega),List.getElem?_append_left (by omega)];exact hY0
    ·simp only
     rw[List.getElem?_set_self (by simp)]
    ·simp only
     rw[List.getElem?_set_ne (by omega),List.getElem?_append_right (by omega)];simp
    ·intro k hk
     simp only at hk⊢
     have hk0:k=0:=by omega
     subst hk0
     refine⟨X.length,by omega,by simp;omega,rfl,?_⟩
     rw[List.getElem?_set_ne (by omega),List.getElem?_append_left (by omega)];exact q3
   ·have hol:=(List.getElem?_eq_some_iff.1 g2).1
    have hYo:∀t,(Y++t)[o]?=some (.row 1 rows):=λt=>by rw[List.getElem?_append_left (by omega),q2 _ hol];exact g2
    have htk:rows.take i=rows:=List.take_of_length_le (by omega)
    have hYs:∀t t',((Y++t).set o .dead++t')[1]?=some (.row 5 [[.p (.int .i64 c.params),.p (.int .i64 c.regs),.p (.lst 5 (c.blocks.map Bk.cs)),.sl o 1 0 i,.p (.lst 1 BL)]]):=λt t'=>by
     rw[List.getElem?_append_left (by simp;omega),List.getElem?_set_ne ho1];exact hY1 t
    have hYe:=λt hh=>Jo (hY1 t) hh
    have hYf:=λt t' hh=>Jo (hYs t t') hh
    simp-implicitDefEqProofs[hY1,hY1',hYo,hrl,htk,hYs,hYe,hYf]
    refine⟨⟨by omega,by omega⟩,⟨i+1,_,.sl (Y.length+1) 1 0 (i+1),rows++[[.sl X.length 1 0 c.blocks.length]]⟩,⟨hc1,?_,?_,.inr ⟨Y.length+1,rfl,?_,by omega,by omega⟩,by simp[hrl],?_⟩,by simp only;omega,ab (Nat.zero_le _) (by simp[below,hw1])⟩
    ·simp only
     rw[List.getElem?_set_ne (by omega),List.getElem?_append_left (by simp<;>omega),List.getElem?_set_ne ho0,List.getElem?_append_left (by omega)];exact hY0
    ·simp only
     rw[List.getElem?_set_self (by simp)]
    ·simp only
     rw[List.getElem?_set_ne (by omega),List.getElem?_append_right (by simp)];simp
    ·intro k hk
     simp only at hk⊢
     by_cases hki:k=i
     ·subst hki
      refine⟨X.length,by omega,by simp;omega,by rw[List.getElem?_append_right (by omega),hrl];simp,?_⟩
      rw[List.getElem?_set_ne (by omega),List.getElem?_append_left (by simp;omega),List.getElem?_set_ne (by omega),List.getElem?_append_left (by omega)];exact q3
     ·obtain⟨id,e0,e1,e2,e3⟩:=hro k (by omega)
      have hidl:=(List.getElem?_eq_some_iff.1 e3).1
      have hio:id≠o:=λe=>e1 (by rw[e])
      refine⟨id,e0,by simp;omega,by rw[List.getElem?_append_left (by omega)];exact e2,?_⟩
      rw[List.getElem?_set_ne (by omega),List.getElem?_append_left (by simp;omega),List.getElem?_set_ne (Ne.symm hio),List.getElem?_append_left (by omega),q2 _ hidl];exact e3
 ·simp at hc1
  have hie:i=c.blocks.length:=by omega
  subst hie
  simp-implicitDefEqProofs[]
  rcases hV with⟨_,h0⟩|⟨o,rfl,g2,ho0,ho1⟩
  ·omega
  ·refine⟨o,by omega,g1,rows,g2,hrl,λk hk=>(hro k hk).elim λid h=>⟨id,?_,h.2.2⟩⟩
   have hid0:id≠0:=λe=>by
    have:=h.2.2.2
    rw[e,g0] at this
    cases this
   have:=h.1
   omega
theorem An{n i:Nat}{h:List AO}(hi:n<=i):(jc n h)[i]?=h[i]?:=by
 rw[jc,List.getElem?_append_right (by simp;omega),List.length_replicate,List.getElem?_drop]
 congr 1;omega
theorem tg(c:Cd)(hc:CSm c):VF Tryz.prog G cg [.agg (c.cs.map .p)] (dmV c):=by
 cases hfit:aV c.blocks with
 |false=>
  have hcs:=c.cs_eq2
  have hbl:bkL c.blocks= .lst 5 (c.blocks.map Bk.cs):=rfl
  have hg:=vV G c hc.1
  rw[hcs,hbl,hfit] at hg
  have hd:dmV c= .nilp:=by rw[dmV,hfit];rfl
  rw[hd]
  refine AC.go mO ?_
  simp-implicitDefEqProofs[fv,hcs,hbl]
  refine hg.use ?_
  simp-implicitDefEqProofs[]
 |true=>
  have h1:AC Tryz.prog G cg [.agg (c.cs.map .p)] [] λx h=>x= .ret (.ptr 1 5 0 0)/\h=[.dead,.row 5 [(dmE c).map .p]]:=by
   refine AC.frz (EN G c hc hfit) 2 (by simp) (λt v h ⟨_,_,_,e,_⟩=>by cases e) ?_
   rintro v h ⟨o,rows,ho,e1,e2,e3,e4,e5⟩
   cases e1
   cases h with
   |nil=>simp at e2
   |cons a h=>
    cases h with
    |nil=>simp at e2
    |cons b h=>
     have e2:b= .row 5 [[.p (.int .i64 c.params),.p (.int .i64 c.regs),.p (bkL c.blocks),.sl o 1 0 c.blocks.length,.p (boL (iS c.blocks))]]:=by simpa using e2
     subst e2
     refine⟨_,_,by simp,rfl,.keep (by simp[below]) .nil,.dead (.one (e1:=(dmE c).map .p) (.keep (by simp[below]) (.keep (by simp[below]) (.keep (by simp[below]) (.one ?_ (.keep (by simp[below]) .nil))))) (.nil _)),rfl,rfl⟩
     refine vX (es:=(List.range c.blocks.length).map λi=>[boL (jV c.blocks i)]) (by rw[An ho];exact e3) (by simpa using e4) (λe he=>by obtain⟨i,_,rfl⟩:=List.mem_map.1 he;rfl) (λi j e q e' a a1 a2 a3 a4=>?_) (by simp)
     by_cases hi:i<c.blocks.length
     ·obtain⟨id,f0,f1,f2⟩:=e5 i hi
      rw[a3] at f1
      cases f1
      simp only[List.getElem?_map,List.getElem?_range hi,Option.map_some,Option.some.injEq] at a1
      subst a1
      cases j with
      |zero=>
       simp only[List.getElem?_cons_zero,Option.some.injEq] at a2 a4
       subst a2;subst a4
       exact ox (by rw[An f0];exact f2) (by rw[eN])
      |succ j=>simp at a2
     ·rw[List.getElem?_eq_none (by simp;omega)] at a1;cases a1
  have hd:dmV c= .eptr (dmE c) 0:=by rw[dmV,hfit];rfl
  rw[hd]
  refine AC.frz h1 0 (by simp) (λt v h ⟨e,_⟩=>by cases e) ?_
  rintro v h ⟨e1,rfl⟩
  cases e1
  exact⟨_,[],by simp,rfl,.ptr rfl rfl .nil,.nil _,rfl⟩
end
section
noncomputable def yP (bs:List Bk) (a b:Int):Bool:=inC bs a&&inC bs b&&co bs a.toNat b.toNat
theorem zo{bs:List Bk}{b:Int}(h:aV bs=false):inC bs b=false:=by rw[inC,h];rfl
theorem og{bs:List Bk}{b:Int}(h:aV bs=true):inC bs b=inR b 0 ((bs.length:Int)-1):=by rw[inC,h];rfl
theorem vG{bs:List Bk}{a b:Nat}(h:co bs a b=true):bP bs a=true/\bP bs b=true:=by
 rw[oU] at h
 simp only[Bool.and_eq_true] at h
 exact h.1
theorem vr{bs:List Bk}{a b:Nat}(h:bP bs a=false):co bs a b=false:=FE h
theorem ES{bs:List Bk}{a b:Nat}(h:bP bs b=false):co bs a b=false:=by rw[oU,h,Bool.and_false];rfl
theorem sY(c:Cd):∃DL:List (List PV),∃BL:Nat->List (List PV),∃RL:List (List PV),dmE c=[.int .i64 c.params,.int .i64 c.regs,bkL c.blocks,.lst 1 DL,.lst 1 RL]/\DL.length=c.blocks.length/\(∀i,i<c.blocks.length->DL[i]?=some [.lst 1 (BL i)])/\(∀i,(BL i).length=c.blocks.length)/\(∀i j,j<c.blocks.length->(BL i)[j]?=some [.bool (co c.blocks i j)])/\RL.length=c.blocks.length/\∀i,i<c.blocks.length->RL[i]?=some [.bool (bP c.blocks i)]:=by
 obtain⟨DL,BL,h1,h2,h3,h4,h5⟩:=pt c.blocks
 obtain⟨RL,r1,r2,r3⟩:=ta (iS c.blocks)
 exact⟨DL,BL,RL,by rw[dmE,h1,r1],h2,h3,h4,h5,by rw[r2,uh],λi hi=>r3 i _ (by simp[iS,hi])⟩
variable (G:az)
theorem GO(c:Cd)(hc:CBd c)(b:Int):VF Tryz.prog G cI [dmV c,.p (.int .i64 b)] (.p (.bool (inC c.blocks b&&bP c.blocks b.toNat))):=by
 have hl1:=hc.1
 refine AC.go rT ?_
 cases hfit:aV c.blocks with
 |false=>
  have hd:dmV c= .nilp:=by rw[dmV,hfit];rfl
  rw[hd,zo hfit]
  simp-implicitDefEqProofs[fY]
 |true=>
  have hd:dmV c= .eptr (dmE c) 0:=by rw[dmV,hfit];rfl
  obtain⟨DL,BL,RL,e,hDl,hDg,hBl,hBg,hRl,hRg⟩:=sY c
  rw[hd,e,og hfit]
  have hwn:IntKind.i64.wrap ((c.blocks.length:Int)-1)=(c.blocks.length:Int)-1:=ae (by omega) (by omega)
  simp-implicitDefEqProofs[fY,hRl,hwn]
  refine(tv G b 0 ((c.blocks.length:Int)-1)).use ?_
  cases hi:inR b 0 ((c.blocks.length:Int)-1) with
  |false=>simp-implicitDefEqProofs[]
  |true=>
   obtain⟨_,h0,h1,h2⟩:=sg (bs:=c.blocks) (b:=b) (by rw[og hfit];exact hi)
   have hr:=hRg b.toNat h1
   simp-implicitDefEqProofs[hr,h0]
theorem rB(c:Cd)(hc:CBd c)(a b:Int):VF Tryz.prog G bV [dmV c,.p (.int .i64 a),.p (.int .i64 b)] (.p (.bool (yP c.blocks a b))):=by
 have hl1:=hc.1
 have ha:=GO G c hc a
 have hb:=GO G c hc b
 refine AC.go kJ ?_
 cases hfit:aV c.blocks with
 |false=>
  have hd:dmV c= .nilp:=by rw[dmV,hfit];rfl
  rw[yP,zo hfit]
  rw[hd,zo hfit] at ha hb
  rw[hd]
  simp-implicitDefEqProofs[cN]
  refine ha.use ?_
  simp-implicitDefEqProofs[]
 |true=>
  have hd:dmV c= .eptr (dmE c) 0:=by rw[dmV,hfit];rfl
  obtain⟨DL,BL,RL,e,hDl,hDg,hBl,hBg,hRl,hRg⟩:=sY c
  rw[hd,e] at ha hb
  rw[hd,e]
  simp-implicitDefEqProofs[cN]
  refine ha.use ?_
  rw[yP]
  cases e1:inC c.blocks a with
  |false=>simp-implicitDefEqProofs[]
  |true=>
   obtain⟨_,ha0,ha1,ha2⟩:=sg e1
   cases e2:bP c.blocks a.toNat with
   |false=>simp-implicitDefEqProofs[vr e2]
   |true=>
    simp-implicitDefEqProofs[]
    refine hb.use ?_
    cases e3:inC c.blocks b with
    |false=>simp-implicitDefEqProofs[]
    |true=>
     obtain⟨_,hb0,hb1,hb2⟩:=sg e3
     cases e4:bP c.blocks b.toNat with
     |false=>simp-implicitDefEqProofs[ES e4]
     |true=>
      have h1:=hDg a.toNat ha1
      have h2:=hBg a.toNat b.toNat hb1
      simp-implicitDefEqProofs[h1,h2,ha0,hb0]
theorem zJ(c:Cd)(n:Nat):below n (dmV c):=by rw[dmV];split<;>simp[below]
end
section
section
variable {bs:List Bk} {a b c m:Nat}
theorem DZ(h:bP bs a=true):co bs a a=true:=domB_iff.2 (Dom.refl (rchB_iff.1 h))
end
theorem zG{bs:List Bk}{i:Nat}(hfit:aV bs=true)(hi:i<bs.length):inC bs (i:Int)=true:=by
 rw[og hfit];simp[inR];omega
theorem FL{bs:List Bk}{i:Nat}{x:Int}(hfit:aV bs=true)(hi:i<bs.length)(hx:inC bs x=true):yP bs (i:Int) x=co bs i x.toNat:=by
 rw[yP,zG hfit hi,hx];simp
end
section
def AB:AV->Bool
 | .p (.lst _ _)=>false
 |_=>true
def NoL(h:List AO)(I:List Nat):Prop:=∀j∈I,∀(sz:Nat) (rows:List (List AV)),h[j]?=some (.row sz rows)->∀r∈rows,∀v∈r,AB v=true
theorem NoL.frame{h h':List AO}{I:List Nat}(H:NoL h I)(e:∀i∈I,h'[i]?=h[i]?):NoL h' I:=λj hj sz rows hg=>H j hj sz rows (by rw[←e j hj];exact hg)
theorem NoL.app{h:List AO}{I J:List Nat}(a:NoL h I)(b:NoL h J):NoL h (I++J):=λj hj=>(List.mem_append.1 hj).elim (a j) (b j)
theorem NoL.sub{h:List AO}{I J:List Nat}(a:NoL h I)(s:∀j∈J,j∈I):NoL h J:=λj hj=>a j (s j hj)
theorem NoL.cons{h:List AO}{id sz:Nat}{rows:List (List AV)}{J:List Nat}(e:h[id]?=some (.row sz rows))(hr:∀r∈rows,∀v∈r,AB v=true)(b:NoL h J):NoL h (id::J):=λj hj=>by
 rcases List.mem_cons.1 hj with rfl|hj
 ·intro sz2 rows2 e2
  rw[e] at e2;cases e2
  exact hr
 ·exact b j hj
structure Own (n:Nat) (h:List AO) (vs:List AV) (qs:List PV) (I:List Nat):Prop where
 own:OwnL true h vs qs I
 nd:I.Nodup
 no:NoL h I
 nv:∀v∈vs,AB v=true
 ge:∀j∈I,n<=j
section
variable {n:Nat} {h h2:List AO} {vs:List AV} {qs:List PV} {I:List Nat} {V:AV} {sz:Nat} {D:List (List PV)}
theorem Own.frame(H:Own n h vs qs I)(e:∀i∈I,h2[i]?=h[i]?):Own n h2 vs qs I:=⟨H.own.frame e,H.nd,H.no.frame e,H.nv,H.ge⟩
theorem Own.lt(H:Own n h vs qs I):∀i∈I,i<h.length:=λ_ hi=>H.own.lt hi
theorem Own.more(H:Own n h vs qs I)(os:List AO):Own n (h++os) vs qs I:=H.frame λi hi=>List.getElem?_append_left (H.lt i hi)
theorem Own.low{m:Nat}(H:Own n h vs qs I)(hm:∀j∈I,m<=j):Own m h vs qs I:=⟨H.own,H.nd,H.no,H.nv,hm⟩
theorem Own.fr{K:List Nat}(H:Own n h vs qs I)(f:Fr K h h2)(hK:∀j∈I,j∉K):Own n h2 vs qs I:=H.frame λi hi=>f.2 i (H.lt i hi) (hK i hi)
theorem Own.nil(n:Nat)(h:List AO)(sz:Nat):Own n h [.nils] [.lst sz []] []:=⟨.nils sz .nil,List.nodup_nil,(λj hj=>by cases hj),(λv hv=>by rw[List.mem_singleton.1 hv];rfl),(λj hj=>by cases hj)⟩
theorem Own.nix(n:Nat)(h:List AO):Own n h [] [] []:=⟨.nil,List.nodup_nil,(λj hj=>by cases hj),(λv hv=>by cases hv),(λj hj=>by cases hj)⟩
theorem Own.sc(H:Own n h vs qs I)(q:PV)(hq:Gf q=true)(hn:AB (.p q)=true):Own n h (.p q::vs) (q::qs) I:=⟨.p q (λ_=>hq) H.own,H.nd,H.no,λv hv=>by
 rcases List.mem_cons.1 hv with rfl|hv
 ·exact hn
 ·exact H.nv v hv,H.ge⟩
theorem Own.app{us:List AV}{rs:List PV}{J:List Nat}(H:Own n h vs qs I)(H2:Own n h us rs J)(hd:∀j∈I,j∉J):Own n h (vs++us) (qs++rs) (I++J):=
 ⟨H.own.app H2.own,List.nodup_append.2 ⟨H.nd,H2.nd,λa ha b hb e=>hd a ha (e▸hb)⟩,H.no.app H2.no,λv hv=>(List.mem_append.1 hv).elim (H.nv v) (H2.nv v),λj hj=>(List.mem_append.1 hj).elim (H.ge j) (H2.ge j)⟩
theorem Own.one{q:PV}(H:Own n h vs (q::qs) I):∃v us I1 I2,vs=v::us/\I=I1++I2/\Own n h [v] [q] I1/\Own n h us qs I2:=by
 obtain⟨v,us,rfl⟩:∃v us,vs=v::us:=by
  have:=H.own.len
  cases vs with
  |nil=>simp at this
  |cons v us=>exact⟨v,us,rfl⟩
 obtain⟨I1,I2,rfl,h1,h2⟩:=H.own.one
 have hn:=List.nodup_append.1 H.nd
 exact⟨v,us,I1,I2,rfl,rfl,⟨h1,hn.1,H.no.sub λj hj=>by simp[hj],λx hx=>H.nv x (by rw[List.mem_singleton.1 hx];simp),λj hj=>H.ge j (by simp[hj])⟩,⟨h2,hn.2.1,H.no.sub λj hj=>by simp[hj],λx hx=>H.nv x (by simp[hx]),λj hj=>H.ge j (by simp[hj])⟩⟩
theorem Own.row(H:Own n h [V] [.lst sz D] I):(V= .nils/\D=[]/\I=[])\/∃id rows J,V= .sl id sz 0 D.length/\I=id::J/\RowOwn true h id sz rows D J/\∀r∈rows,∀v∈r,AB v=true:=by
 rcases H.own.inv H.nd with⟨h1,h2,h3|h3⟩|⟨h1,_⟩|⟨id,rows,J,h1,h2,h3⟩
 ·exact .inl ⟨h3,h1,h2⟩
 ·have:=H.nv V (by simp)
  rw[h3] at this;cases this
 ·cases h1
 ·exact .inr ⟨id,rows,J,h1,h2,h3,H.no id (by rw[h2];simp) sz rows h3.here⟩
theorem Own.of{id:Nat}{rows:List (List AV)}{J:List Nat}(H:RowOwn true h id sz rows D J)(hn:∀r∈rows,∀v∈r,AB v=true)(hJ:NoL h J)(hg:∀j∈id::J,n<=j){m:Nat}(hm:m=D.length):Own n h [.sl id sz 0 m] [.lst sz D] (id::J):=
 ⟨H.tree hm,H.nd,hJ.cons H.here hn,λv hv=>by rw[List.mem_singleton.1 hv];rfl,hg⟩
theorem Own.view(H:Own n h [V] [.lst sz D] I):View h V (.lst sz D):=H.own.view 0 V _ rfl rfl
theorem Own.cell{q:PV}(H:Own n h [V] [q] I):V.cells=[V]/\V.isCell=true:=by
 cases H.own with
 |p _ _ _=>exact⟨rfl,rfl⟩
 |nils _ _=>exact⟨rfl,rfl⟩
 |sl id sz n rows es _ _ _ _ _ _ _=>exact⟨rfl,rfl⟩
theorem Own.first{r:List AV}{e:List PV}{J:List Nat}(H2:Own n h2 r e J)(he:e.length=sz)(hn:n<=h2.length):Own n (h2++[.row sz [r]]) [.sl h2.length sz 0 1] [.lst sz [e]] (h2.length::J):=by
 have hl:∀j∈J,j<h2.length:=H2.lt
 refine Own.of (rows:=[r]) ⟨by rw[List.getElem?_append_right (Nat.le_refl _)];simp,rfl,λx hx=>by rw[List.mem_singleton.1 hx,H2.own.len,he],λx hx=>by rw[List.mem_singleton.1 hx,he],by simpa using H2.own.more [.row sz [r]],List.nodup_cons.2 ⟨λhm=>by have:=hl _ hm;omega,H2.nd⟩⟩ (λx hx=>by rw[List.mem_singleton.1 hx];exact H2.nv) (H2.more _).no (λj hj=>by
  rcases List.mem_cons.1 hj with rfl|hj
  ·exact hn
  ·exact H2.ge j hj) rfl
theorem Own.push{id:Nat}{rows:List (List AV)}{J:List Nat}(H:Own n h [.sl id sz 0 D.length] [.lst sz D] (id::J))(hr:RowOwn true h id sz rows D J){os:List AO}(e2:h2=h++os){r:List AV}{e:List PV}{J2:List Nat}(H2:Own n h2 r e J2)(he:e.length=sz)(hd:∀j∈J2,j≠id/\j∉J):
 Own n (h2.set id .dead++[.row sz (rows++[r])]) [.sl h2.length sz 0 (D.length+1)] [.lst sz (D++[e])] (h2.length::(J++J2)):=by
 have R:=Cc hr (rs:=[r]) (es:=[e]) e2 (by simpa using H2.own) rfl (λx hx=>by rw[List.mem_singleton.1 hx,H2.own.len,he]) (λx hx=>by rw[List.mem_singleton.1 hx,he]) H2.nd hd
 have hid:=hr.lt
 have hnJ:id∉J:=(List.nodup_cons.1 hr.nd).1
 have hlJ:∀j∈J,j<h.length:=λj hj=>hr.own.lt hj
 have hl2:h.length<=h2.length:=by rw[e2];simp
 have hr0:=H.no id (by simp) sz rows hr.here
 refine Own.of R (λx hx=>?_) ?_ (λj hj=>?_) (by simp)
 ·rcases List.mem_append.1 hx with h1|h1
  ·exact hr0 x h1
  ·rw[List.mem_singleton.1 h1];exact H2.nv
 ·refine NoL.app ((H.no.sub (J:=J) λj hj=>by simp[hj]).frame λi hi=>?_) (H2.no.frame λi hi=>?_)
  ·have hil:=hlJ i hi
   have hne:id≠i:=λe=>hnJ (e▸hi)
   rw[List.getElem?_append_left (by rw[List.length_set];omega),List.getElem?_set_ne hne,e2,List.getElem?_append_left hil]
  ·rw[List.getElem?_append_left (by rw[List.length_set];exact H2.lt i hi),List.getElem?_set_ne (Ne.symm (hd i hi).1)]
 ·rcases List.mem_cons.1 hj with rfl|hj
  ·have:=H.ge id (by simp);omega
  ·rcases List.mem_append.1 hj with hj|hj
   ·exact H.ge j (by simp[hj])
   ·exact H2.ge j hj
theorem Own.upd{id:Nat}{rows:List (List AV)}{J:List Nat}(H:Own n h [.sl id sz 0 D.length] [.lst sz D] (id::J))(hr:RowOwn true h id sz rows D J){i:Nat}{e:List PV}(hi:D[i]?=some e):
 ∃r Ji,rows[i]?=some r/\Own n h r e Ji/\(∀j∈Ji,j∈J/\j≠id)/\∀(h2:List AO) (r':List AV) (e':List PV) (I2:List Nat),h2[id]?=some (.row sz (rows.set i r'))->(∀j∈J,j∉Ji->h2[j]?=h[j]?)->Own n h2 r' e' I2->(∀j∈I2,j∈Ji\/(j≠id/\j∉J))->e'.length=sz->
  ∃J',Own n h2 [.sl id sz 0 D.length] [.lst sz (D.set i e')] (id::J')/\∀j∈J',j∈J\/j∈I2:=by
 have hr0:=H.no id (by simp) sz rows hr.here
 have hnJ:id∉J:=(List.nodup_cons.1 hr.nd).1
 have hNo:NoL h J:=H.no.sub λj hj=>by simp[hj]
 obtain⟨r,J1,Ji,J2,g1,rfl,g3,g4⟩:=hr.own.put hr.len hr.rl hr.dl hi
 have hn:=hr.nd
 simp only[List.nodup_cons,List.nodup_append,List.mem_append,not_or] at hn
 obtain⟨⟨n1,n2,n3⟩,m1,⟨m2,m3,m4⟩,m5⟩:=hn
 refine⟨r,Ji,g1,⟨g3,m2,hNo.sub λj hj=>by simp[hj],hr0 r (List.mem_of_getElem? g1),λj hj=>H.ge j (by simp[hj])⟩,λj hj=>⟨by simp[hj],λe=>hnJ (by rw[←e];simp[hj])⟩,λh2 r' e' I2 k1 k2 k3 k4 k5=>?_⟩
 simp only[List.mem_append,not_or] at k4
 have hs1:∀j∈J1,h2[j]?=h[j]?:=λj hj=>k2 j (by simp[hj]) λhm=>m5 j hj j (.inl hm) rfl
 have hs2:∀j∈J2,h2[j]?=h[j]?:=λj hj=>k2 j (by simp[hj]) λhm=>m4 j hm j hj rfl
 have hid2:id∉I2:=λhm=>by
  rcases k4 _ hm with h|h
  ·exact n2 h
  ·exact h.1 rfl
 refine⟨J1++(I2++J2),⟨?_,?_,?_,λv hv=>by rw[List.mem_singleton.1 hv];rfl,λj hj=>?_⟩,λj hj=>?_⟩
 ·have:=OwnL.sl (s:=true) (h:=h2) id sz D.length (rows.set i r') (D.set i e') k1 (by simp) (by simp[hr.len]) (λx hx=>by
   rcases List.mem_or_eq_of_mem_set hx with h1|rfl
   ·exact hr.rl x h1
   ·rw[k3.own.len,k5]) (λx hx=>by
   rcases List.mem_or_eq_of_mem_set hx with h1|rfl
   ·exact hr.dl x h1
   ·exact k5) (g4 h2 r' e' I2 (λj hj=>(List.mem_append.1 hj).elim (hs1 j) (hs2 j)) k3.own) .nil
  rwa[List.append_nil] at this
 ·simp only[List.nodup_cons,List.nodup_append,List.mem_append,not_or]
  refine⟨⟨n1,hid2,n3⟩,m1,⟨k3.nd,m3,λa ha b hb e=>?_⟩,λa ha b hb e=>?_⟩
  ·subst e
   rcases k4 _ ha with h|h
   ·exact m4 a h a hb rfl
   ·exact h.2.2.2 hb
  ·subst e
   rcases hb with hb|hb
   ·rcases k4 _ hb with h|h
    ·exact m5 a ha a (.inl h) rfl
    ·exact h.2.1 ha
   ·exact m5 a ha a (.inr hb) rfl
 ·refine NoL.cons k1 (λx hx=>?_) (((hNo.sub (J:=J1) λj hj=>by simp[hj]).frame hs1).app (k3.no.app ((hNo.sub (J:=J2) λj hj=>by simp[hj]).frame hs2)))
  rcases List.mem_or_eq_of_mem_set hx with h1|rfl
  ·exact hr0 x h1
  ·exact k3.nv
 ·simp only[List.mem_cons,List.mem_append] at hj
  rcases hj with rfl|hj|hj|hj
  ·exact H.ge _ (by simp)
  ·exact H.ge j (by simp[hj])
  ·exact k3.ge j hj
  ·exact H.ge j (by simp[hj])
 ·simp only[List.mem_append] at hj⊢
  rcases hj with hj|hj|hj
  ·exact .inl (.inl hj)
  ·exact .inr hj
  ·exact .inl (.inr (.inr hj))
end
variable (G:az)
end
section
section
variable {n:Nat} {h h2:List AO} {vs:List AV} {qs:List PV} {I:List Nat} {V:AV}
theorem Own.int{k:Int}(H:Own n h vs (.int .i64 k::qs) I):∃us,vs= .p (.int .i64 k)::us/\Own n h us qs I:=by
 obtain⟨v,us,I1,I2,rfl,rfl,h1,h2⟩:=H.one
 cases h1.own with
 |p _ _ hh=>cases hh;exact⟨us,rfl,h2⟩
theorem Own.single{q:PV}(H:Own n h vs [q] I):∃v,vs=[v]/\Own n h [v] [q] I:=by
 obtain⟨v,rfl⟩:=Cv H.own
 exact⟨v,rfl,H⟩
theorem Own.putI(H:Own n h vs qs I)(k:Int):Own n h (.p (.int .i64 k)::vs) (.int .i64 k::qs) I:=H.sc _ rfl rfl
theorem zd{b:Bk}(H:Own n h vs b.cs I):∃P N X IP IN IX,vs=[P,N,.p (.int .i64 b.jump),.p (.int .i64 b.on),X]/\I=IP++(IN++IX)/\Own n h [P] [phL b.phis] IP/\Own n h [N] [inL b.ins] IN/\Own n h [X] [aC b.next] IX:=by
 rw[show b.cs=[phL b.phis,inL b.ins,.int .i64 b.jump,.int .i64 b.on,aC b.next] from rfl] at H
 obtain⟨P,u1,IP,I1,rfl,rfl,hP,H⟩:=H.one
 obtain⟨N,u2,IN,I2,rfl,rfl,hN,H⟩:=H.one
 obtain⟨u3,rfl,H3⟩:=H.int
 obtain⟨u4,rfl,H4⟩:=H3.int
 obtain⟨X,rfl,H5⟩:=H4.single
 exact⟨P,N,X,IP,IN,I2,rfl,rfl,hP,hN,H5⟩
theorem sv{b:Bk}{P N X:AV}{IP IN IX:List Nat}(hP:Own n h [P] [phL b.phis] IP)(hN:Own n h [N] [inL b.ins] IN)(hX:Own n h [X] [aC b.next] IX)(d1:∀j∈IP,j∉IN/\j∉IX)(d2:∀j∈IN,j∉IX):Own n h [P,N,.p (.int .i64 b.jump),.p (.int .i64 b.on),X] b.cs (IP++(IN++IX)):=by
 rw[show b.cs=[phL b.phis,inL b.ins,.int .i64 b.jump,.int .i64 b.on,aC b.next] from rfl]
 exact hP.app (hN.app ((hX.putI b.on).putI b.jump) d2) λj hj hm=>(List.mem_append.1 hm).elim (d1 j hj).1 (d1 j hj).2
theorem IJ{x:Ii}(H:Own n h vs x.cs I):∃A,vs=[.p (.int .i64 x.op),.p (.int .i64 x.to),A,.p (.int .i64 x.n)]/\Own n h [A] [aC x.args] I:=by
 rw[show x.cs=[.int .i64 x.op,.int .i64 x.to,aC x.args,.int .i64 x.n] from rfl] at H
 obtain⟨u1,rfl,H1⟩:=H.int
 obtain⟨u2,rfl,H2⟩:=H1.int
 obtain⟨A,u3,IA,I2,rfl,rfl,hA,H3⟩:=H2.one
 obtain⟨u4,rfl,H4⟩:=H3.int
 have:=H4.own
 cases this
 exact⟨A,rfl,by rw[List.append_nil];exact hA⟩
theorem zu{x:Ii}{A:AV}(H:Own n h [A] [aC x.args] I):Own n h [.p (.int .i64 x.op),.p (.int .i64 x.to),A,.p (.int .i64 x.n)] x.cs I:=by
 have h2:Own n h ([A]++[.p (.int .i64 x.n)]) ([aC x.args]++[.int .i64 x.n]) (I++[]):=H.app ((Own.nix n h).putI _) λj _ hm=>by cases hm
 rw[List.append_nil] at h2
 exact(h2.putI x.to).putI x.op
theorem yK{x:Ph}{A:AV}(H:Own n h [A] [aC x.args] I):Own n h [.p (.int .i64 x.to),A] x.cs I:=H.putI _
theorem Dw{c:Cd}(H:Own n h vs c.cs I):∃A,vs=[.p (.int .i64 c.params),.p (.int .i64 c.regs),A]/\Own n h [A] [bkL c.blocks] I:=by
 rw[show c.cs=[.int .i64 c.params,.int .i64 c.regs,bkL c.blocks] from rfl] at H
 obtain⟨u1,rfl,H1⟩:=H.int
 obtain⟨u2,rfl,H2⟩:=H1.int
 obtain⟨A,rfl,H3⟩:=H2.single
 exact⟨A,rfl,H3⟩
theorem so{c:Cd}{A:AV}(H:Own n h [A] [bkL c.blocks] I):Own n h [.p (.int .i64 c.params),.p (.int .i64 c.regs),A] c.cs I:=(H.putI _).putI _
theorem cq{id m:Nat}{l:List Int}(hg:h[id]?=some (.row 1 (l.map λn=>[AV.p (.int .i64 n)])))(hn:n<=id)(hm:m=l.length):Own n h [.sl id 1 0 m] [aC l] [id]:=by
 have hf:∀l:List Int,OwnL true h (l.map λn=>[AV.p (.int .i64 n)]).flatten (l.map λn=>[PV.int .i64 n]).flatten []:=λl=>by
  induction l with
  |nil=>exact .nil
  |cons x r ih=>exact .p _ (λ_=>rfl) ih
 refine Own.of (D:=l.map λn=>[PV.int .i64 n]) ⟨hg,by simp,λe he=>by obtain⟨w,_,rfl⟩:=List.mem_map.1 he;rfl,λe he=>by obtain⟨w,_,rfl⟩:=List.mem_map.1 he;rfl,hf l,by simp⟩ (λr hr v hv=>?_) (λj hj=>by cases hj) (λj hj=>by rw[List.mem_singleton.1 hj];exact hn) (by simp[hm])
 obtain⟨w,_,rfl⟩:=List.mem_map.1 hr
 rw[List.mem_singleton.1 hv];rfl
end
end
end Go.Proofs.YtdfplkcigiblcaaGreat
