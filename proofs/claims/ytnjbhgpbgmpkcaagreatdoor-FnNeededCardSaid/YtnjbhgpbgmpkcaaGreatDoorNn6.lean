/-
  Contracts and lemmas that the card needs, part 6.
-/
import Derived.Test.YtnjbhgpbgmpkcaaGreatDoorNn5
import Derived.Test.YtnjbhgpbgmpkcaaGreatDoorChecked
import Derived.Shelf.Sort.AssemblyIn
import Derived.Shelf.Slices.CompactI
import Derived.Sort.Grow
import Derived.Shelf.Sort.Plain
import Derived.Shelf.Slices.In.SortNone
namespace Go.Proofs.YtnjbhgpbgmpkcaaGreatDoor
open Go Go.Aw
set_option maxRecDepth 100000
set_option maxHeartbeats 4000000
def K_impl_CheckProgram:AK:= .seq (.reg [oJ 1 (.box 1 (.t 0)),oK 2 0]) (.seq (.seq (.reg [oJ 11 (.ld (some 1) (.t 1)),oJ 12 (.call da [(.t 11)]),oJ 13 (.not (.t 12))]) (.cond (.t 13) (.seq (.reg [oK 2 1]) (.ret)) (.skip))) (.seq (.reg [oJ 14 (.ld (some 1) (.t 1)),oJ 15 (.bld [.nils,(.p (.int .i64 0)),(.p (.int .i64 0))] [(0,1,(.t 14))]),oJ 16 (.box 3 (.t 15)),oM 3 16]) (.seq (.seq (.reg [oF 17 0 1,oL 18 17,oJ 19 (.len false (.t 18)),oK 20 0]) (.blk 0 (.loop (.seq (.reg [oJ 21 (.bin .lss (.t 20) (.t 19))]) (.seq (.cond (.t 21) (.skip) (.exit 0)) (.seq (.blk 1 (.seq (.reg [oM 22 20,oJ 23 (.idxS 3 (.t 18) (.t 20)),oJ 24 (.ld (some 3) (.t 23)),oJ 5 (.alloc [(.p (.str [])),.nils,.nils]),oM 4 22,⟨none,none,.st 3 (.t 5) (.t 24)⟩]) (.seq (.reg [oM 25 3,oM 26 4,oN 27 25,oF 28 1 27,oS 28 26]) (.cut (.seq (.reg [oJ 29 (.ld (some 1) (.t 1)),oF 30 0 5,oL 31 30,oJ 32 (.call fw [(.t 29),(.t 31)]),oM 33 4,oJ 34 (.bin .lss (.t 32) (.t 33))]) (.cond (.t 34) (.reg [oM 35 3,oJ 36 (.call aw [(.t 35),(.c (.p (.int .i64 2)))])]) (.skip))) (.seq (.reg [oJ 37 (.call bp [(.c .nilp)]),oM 6 37]) (.seq (.seq (.reg [oF 38 1 5,oL 39 38,oJ 40 (.len false (.t 39)),oK 41 0]) (.blk 2 (.loop (.seq (.reg [oJ 42 (.bin .lss (.t 41) (.t 40))]) (.seq (.cond (.t 42) (.skip) (.exit 2)) (.seq (.blk 3 (.seq (.reg [oJ 43 (.idxS 1 (.t 39) (.t 41)),oL 44 43,oM 8 44]) (.seq (.seq (.reg [oM 46 6,oN 47 46,oF 48 0 47,oL 49 48,oM 50 8,oJ 51 (.lk 1 (.p (.int .i64 0)) true (.t 49) (.t 50)),oM 45 51,oJ 52 (.ext 0 (.t 45)),oJ 53 (.ext 1 (.t 45)),oM 9 52,oM 10 53]) (.seq (.reg [oM 54 10]) (.cond (.t 54) (.reg [oM 55 3,oJ 56 (.call aw [(.t 55),(.c (.p (.int .i64 2)))])]) (.skip)))) (.reg [oM 57 6,oN 58 57,oF 59 0 58,oL 60 59,oM 61 8,⟨none,none,.mup 1 (.t 60) (.t 61) (.c (.p (.int .i64 0)))⟩])))) (.reg [oJ 62 (.bin .add (.t 41) (.c (.p (.int .i64 1)))),oM 41 62]))))))) (.reg [oM 63 3,oF 64 2 5,oL 65 64,oM 66 6,oJ 67 (.call aP [(.t 63),(.t 65),(.t 66)])]))))))) (.reg [oJ 68 (.bin .add (.t 20) (.c (.p (.int .i64 1)))),oM 20 68]))))))) (.seq (.reg [oM 69 3,oN 70 69,oF 71 2 70,oL 72 71,oM 2 72]) (.ret)))))
theorem mD:K_impl_CheckProgram.whole=F_impl_CheckProgram.ak:=rfl
theorem uh(fns:List Fd):∀(a b:List Fd) (k:Nat) (c:Int),iL fns k (a++b) c=iL fns (k+a.length) b (iL fns k a c)
 |[],b,k,c=>rfl
 |f::r,b,k,c=>by rw[List.cons_append,iL,iL,uh fns r];congr 1;simp only[List.length_cons];omega
theorem yA{fns l:List Fd}{i:Nat}{c:Int}(h:i<l.length):iL fns 0 (l.take (i+1)) c=icF fns i l[i] (iL fns 0 (l.take i) c):=by
 rw[al h,uh,List.length_take,Nat.min_eq_left (Nat.le_of_lt h),Nat.zero_add];rfl
theorem Dw(a b:List (List UInt8))(m:Scp)(c:Int):jz (a++b) m c=jz b (jz a m c).1 (jz a m c).2:=by simp[jz]
theorem AY{l:List (List UInt8)}{i:Nat}{m:Scp}{c:Int}(h:i<l.length):jz (l.take (i+1)) m c=(iv (jz (l.take i) m c).1 l[i] 0,if(gO (jz (l.take i) m c).1 l[i]).isSome then fl (jz (l.take i) m c).2 2 else(jz (l.take i) m c).2):=by
 rw[al h,Dw];rfl
variable (G:ay) (hK:G eE=some dV) (hS:G cJ=some [.tbl opK opV])
include hK hS
theorem lB(l:List Fd)(hl:aY l≤1073741824):VF Tryz.prog G cY [.agg [.p (fdL l)]] (.p (.int .i64 (bF l))):=by
 have hll:=cf l
 have hfl:∀l,fdL l= .lst 3 (l.map Fd.cs):=fun _=>rfl
 rw[ye]
 refine AC.goK mA mD ?_
 simp-implicitDefEqProofs[K_impl_CheckProgram,F_impl_CheckProgram]
 refine(rA G hK hS l hl).use ?_
 by_cases hv:bt l=true
 case neg=>
  have hv':bt l=false:=by simpa using hv
  simp-implicitDefEqProofs[hv']
 rw[if_pos hv]
 simp-implicitDefEqProofs[hv,hfl]
 refine aJ (fun i:Nat=>aj 73 [(1,.ptr 0 1 0 0),(3,.ptr 1 3 0 0),(18,.p (fdL l)),(19,.p (.int .i64 l.length)),(20,.p (.int .i64 i))])
  (fun i=>[.row 1 [[.p (fdL l)]],cO l (i-1) (iL l 0 (l.take i) 0)]) (fun i=>i≤l.length) (fun i=>l.length-i) 0 (by simp) ?_ ?_
 ·refine ab (h:=[.row 1 [[.p (fdL l)]],cO l 0 0]) (by simp) (by simp[okO,below,cO]) (by simp[below,hfl])
 intro i hi
 have hbo:okO 0 (.row 1 [[.p (fdL l)]]):=by simp[okO]
 simp-implicitDefEqProofs[hfl]
 refine aS (fun h=>?_) (fun h=>?_)
 ·simp at h
  have hg:=List.getElem?_eq_getElem h
  have hks:=dY (List.getElem_mem h)
  have eT:=yA (fns:=l) (c:=0) h
  obtain⟨j,ej,ejl⟩:=uy hg
  generalize l[i]=f at*
  have hcs:f.cs=[.str f.name,aC f.params,smL f.body]:=rfl
  have hfz:f.sz=1+f.name.length+(f.params.length+(f.params.map List.length).sum)+aq f.body:=rfl
  have hst:aC f.params= .lst 1 (f.params.map fun w=>[.str w]):=rfl
  generalize iL l 0 (l.take i) 0=c0 at eT⊢
  simp-implicitDefEqProofs[hg,hcs,cO]
  have hic:icF l i f c0=(ga l i f.body (jz f.params [] (if j<i then fl c0 2 else c0)).1 [] (jz f.params [] (if j<i then fl c0 2 else c0)).2).2:=by
   rw[icF,ej];simp
  rw[hic] at eT
  clear hic
  refine kD (aj 73 [(1,.ptr 0 1 0 0),(3,.ptr 1 3 0 0),(4,.p (.int .i64 i)),(5,.ptr 2 3 0 0),(18,.p (fdL l)),(19,.p (.int .i64 l.length)),(20,.p (.int .i64 i))])
   [.row 1 [[.p (fdL l)]],cO l i (if j<i then fl c0 2 else c0),.row 3 [[.p (.str f.name),.p (aC f.params),.p (smL f.body)]]] ?_ ?_
  ·simp-implicitDefEqProofs[]
   refine(yx G l f.name (by omega)).use ?_
   rw[ej]
   by_cases hj:j<i
   ·have hj':(j:Int)<(i:Int):=by omega
    rw[if_pos hj]
    simp-implicitDefEqProofs[ixI,hj']
    refine(vO G (.row 1 [[.p (fdL l)]]) l i c0 2 [.row 3 [[.p (.str f.name),.p (aC f.params),.p (smL f.body)]]]).mono ?_
    rintro r h ⟨rfl,rfl⟩
    simp-implicitDefEqProofs[aa]
    exact ab (by simp) (by simp[okO,below,cO]) (by simp[below,hfl])
   ·have hj':¬(j:Int)<(i:Int):=by omega
    rw[if_neg hj]
    simp-implicitDefEqProofs[ixI,hj']
    exact ab (h:=[.row 1 [[.p (fdL l)]],cO l i c0,.row 3 [[.p (.str f.name),.p (aC f.params),.p (smL f.body)]]]) (by simp) (by simp[okO,below,cO]) (by simp[below,hfl])
  generalize (if j<i then fl c0 2 else c0)=c1 at eT⊢
  have hCH:∀(c:Int) (m:Scp),CH (.row 1 [[.p (fdL l)]]) l i c [⟨[.row 3 [[.p (.str f.name),.p (aC f.params),.p (smL f.body)]]],m⟩]=[.row 1 [[.p (fdL l)]],cO l i c,.row 3 [[.p (.str f.name),.p (aC f.params),.p (smL f.body)]],.mp (mpE m),.row 2 [[.mp 3,.nilp]]]:=fun _ _=>rfl
  simp-implicitDefEqProofs[]
  refine(rm G .nilp (.inl rfl) _).mono ?_
  rintro r h ⟨rfl,rfl⟩
  simp-implicitDefEqProofs[aa,hst]
  refine aJ (fun q:Nat=>aj 73 [(1,.ptr 0 1 0 0),(3,.ptr 1 3 0 0),(4,.p (.int .i64 i)),(5,.ptr 2 3 0 0),(6,.ptr 4 2 0 0),(18,.p (fdL l)),(19,.p (.int .i64 l.length)),(20,.p (.int .i64 i)),(39,.p (aC f.params)),(40,.p (.int .i64 f.params.length)),(41,.p (.int .i64 q))])
   (fun q=>[.row 1 [[.p (fdL l)]],cO l i (jz (f.params.take q) [] c1).2,.row 3 [[.p (.str f.name),.p (aC f.params),.p (smL f.body)]],.mp (mpE (jz (f.params.take q) [] c1).1),.row 2 [[.mp 3,.nilp]]])
   (fun q=>q≤f.params.length) (fun q=>f.params.length-q) 0 (by simp) ?_ ?_
  ·exact ab (h:=[.row 1 [[.p (fdL l)]],cO l i c1,.row 3 [[.p (.str f.name),.p (aC f.params),.p (smL f.body)]],.mp [],.row 2 [[.mp 3,.nilp]]]) (by simp) (by simp[okO,below,cO]) (by simp[below,hfl,hst])
  intro q hq
  have eP:=fun h=>AY (l:=f.params) (i:=q) (m:=[]) (c:=c1) h
  generalize hP:jz (f.params.take q) [] c1=st at eP⊢
  obtain⟨mq,cq⟩:=st
  simp only at eP⊢
  simp-implicitDefEqProofs[hst]
  refine aS (fun hc=>?_) (fun hc=>?_)
  ·simp at hc
   have hga:=List.getElem?_eq_getElem hc
   have eP:=eP hc
   generalize f.params[q]=nme at hga eP
   have hmg:=oZ nme mq
   have hms:gP (.str nme) (.p (.int .i64 0)) (mpE mq)=some (mpE (iv mq nme 0)):=by simpa using sj nme 0 mq
   have fin:∀(r1:List (Nat × AV)) (c2:Int),Aw.look r1 1= .ptr 0 1 0 0→Aw.look r1 3= .ptr 1 3 0 0→Aw.look r1 4= .p (.int .i64 i)→Aw.look r1 5= .ptr 2 3 0 0→Aw.look r1 6= .ptr 4 2 0 0→Aw.look r1 18= .p (fdL l)→Aw.look r1 19= .p (.int .i64 l.length)→Aw.look r1 20= .p (.int .i64 i)→Aw.look r1 39= .p (aC f.params)→Aw.look r1 40= .p (.int .i64 f.params.length)→Aw.look r1 41= .p (.int .i64 ((q:Int)+1))→
    Wk 0 (aj 73 r1) [.row 1 [[.p (fdL l)]],cO l i c2,.row 3 [[.p (.str f.name),.p (aC f.params),.p (smL f.body)]],.mp (mpE (iv mq nme 0)),.row 2 [[.mp 3,.nilp]]]
     (aj 73 [(1,.ptr 0 1 0 0),(3,.ptr 1 3 0 0),(4,.p (.int .i64 i)),(5,.ptr 2 3 0 0),(6,.ptr 4 2 0 0),(18,.p (fdL l)),(19,.p (.int .i64 l.length)),(20,.p (.int .i64 i)),(39,.p (aC f.params)),(40,.p (.int .i64 f.params.length)),(41,.p (.int .i64 ((q:Int)+1)))])
     [.row 1 [[.p (fdL l)]],cO l i c2,.row 3 [[.p (.str f.name),.p (aC f.params),.p (smL f.body)]],.mp (mpE (iv mq nme 0)),.row 2 [[.mp 3,.nilp]]]:=by
    intro r1 c2 e1 e3 e4 e5 e6 e18 e19 e20 e39 e40 e41
    refine ab (by simp) (ae (by simp[okO]) (ae (by simp[okO,cO]) (ae (by simp[okO]) (ae (xi _ _) (ae (by simp[okO,below]) bv))))) ?_
    simp[below,e1,e3,e4,e5,e6,e18,e19,e20,e39,e40,e41]
   cases hh:gO mq nme with
   |none=>
    rw[hh] at hmg eP
    simp-implicitDefEqProofs[hga,hmg,hms]
    refine⟨q+1,by omega,by omega,?_⟩
    rw[eP]
    exact fin _ _ (by simp) (by simp) (by simp) (by simp) (by simp) (by simp[hfl]) (by simp) (by simp) (by simp[hst]) (by simp) (by simp[w1 (i:=q) (by omega)])
   |some n=>
    rw[hh] at hmg eP
    simp-implicitDefEqProofs[hga,hmg,hms]
    refine(vO G (.row 1 [[.p (fdL l)]]) l i cq 2 _).mono ?_
    rintro r h ⟨rfl,rfl⟩
    simp-implicitDefEqProofs[aa,hms]
    refine⟨q+1,by omega,by omega,?_⟩
    rw[eP]
    exact fin _ _ (by simp) (by simp) (by simp) (by simp) (by simp) (by simp[hfl]) (by simp) (by simp) (by simp[hst]) (by simp) (by simp[w1 (i:=q) (by omega)])
  ·simp at hc
   have hqe:q=f.params.length:=by omega
   subst hqe
   rw[List.take_length] at hP
   rw[hP] at eT
   simp only at eT
   have hB:=FQ G (.row 1 [[.p (fdL l)]]) (fns:=l) (k:=i) (by omega) (by omega) hbo (aq f.body+1) f.body (by omega) (by omega) [.row 3 [[.p (.str f.name),.p (aC f.params),.p (smL f.body)]]] mq [] cq ⟨by simp[okO],trivial⟩
   rw[hCH] at hB
   simp-implicitDefEqProofs[]
   refine hB.mono ?_
   rintro r h ⟨rfl,rfl⟩
   simp-implicitDefEqProofs[aa]
   refine⟨i+1,by omega,by omega,?_⟩
   rw[eT]
   refine fX (m:=2) (by omega) (dd rfl rfl (by simp[okO,below,cO])) (by simp[below,hfl,w1 (i:=i) (by omega)])
 ·simp at h
  have hie:i=l.length:=by omega
  subst hie
  rw[List.take_length]
  simp-implicitDefEqProofs[cO]
end Go.Proofs.YtnjbhgpbgmpkcaaGreatDoor
namespace Go.Proofs.YtnjbhgpbgmpkcaaGreatDoor
open Go Go.Aw
set_option maxRecDepth 100000
set_option maxHeartbeats 4000000
def Byt(l:List Int):Prop:=∀n∈l,0≤n∧n≤255
def rdO(b:List Int)(p:Nat):AO:= .row 2 [[.p (pJ b),.p (.int .i64 p)]]
theorem AU{a b:Int}(ha:0≤a)(ha2:a<4611686018427387904)(hb:0≤b)(hb2:b<4611686018427387904):∃n:Nat,IntKind.i64.wrap ((BitVec.ofInt IntKind.i64.bits a^^^BitVec.ofInt IntKind.i64.bits b).toNat:Int)=n:=by
 refine⟨(BitVec.ofInt IntKind.i64.bits a^^^BitVec.ofInt IntKind.i64.bits b).toNat,?_⟩
 obtain⟨x,rfl⟩:∃x:Nat,a=x:=⟨a.toNat,by omega⟩
 obtain⟨y,rfl⟩:∃y:Nat,b=y:=⟨b.toNat,by omega⟩
 have h1:(BitVec.ofInt 64 (x:Int)).toNat=x:=by simp;omega
 have h2:(BitVec.ofInt 64 (y:Int)).toNat=y:=by simp;omega
 have h3:(BitVec.ofInt 64 (x:Int)^^^BitVec.ofInt 64 (y:Int)).toNat<2^63:=by
  rw[BitVec.toNat_xor,h1,h2]
  exact Nat.xor_lt_two_pow (by omega) (by omega)
 have h4:(BitVec.ofInt IntKind.i64.bits (x:Int)^^^BitVec.ofInt IntKind.i64.bits (y:Int)).toNat<2^63:=h3
 exact ag (by omega) (by omega)
theorem zP{a:Nat}{n:Int}(hn:1≤n):∃k:Nat,((a:Int).tmod n)=k∧(k:Int)<n:=by
 obtain⟨m,rfl⟩:∃m:Nat,n=m:=⟨n.toNat,by omega⟩
 refine⟨a%m,?_,?_⟩
 ·rfl
 ·have:a%m<m:=Nat.mod_lt _ (by omega)
  omega
variable (G:ay)
theorem GK(l:List Int):AC Tryz.prog G iR [.p (pJ l)] [] fun x h=>x= .ret (.ptr 0 2 0 0)∧h=[rdO (l.take 2000) 0]:=by
 refine AC.go su ?_
 have hbl:pJ l= .lst 1 (l.map fun n=>[.int .u8 n]):=rfl
 simp-implicitDefEqProofs[lm,hbl]
 refine aS (fun h=>?_) (fun h=>?_)
 ·simp at h
  have:2000≤l.length:=by omega
  simp-implicitDefEqProofs[this,rdO,pJ,List.map_take]
 ·simp at h
  have:l.take 2000=l:=List.take_of_length_le (by omega)
  simp-implicitDefEqProofs[rdO,this,pJ]
theorem GT(b:List Int)(hb:Byt b)(hl:b.length≤2000)(p:Nat)(hp:p≤1099511627776)(n:Int):AC Tryz.prog G af [.ptr 0 2 0 0,.p (.int .i64 n)] [rdO b p] fun x h=>∃k:Nat,x= .ret (.p (.int .i64 k))∧h=[rdO b (p+1)]∧((k:Int)<n∨k=0):=by
 refine AC.go pt ?_
 have hbl:pJ b= .lst 1 (b.map fun n=>[.int .u8 n]):=rfl
 have hw:IntKind.i64.wrap ((p:Int)+1)=((p+1:Nat):Int):=w1 (by omega)
 by_cases hn:n<1
 ·simp-implicitDefEqProofs[dQ,rdO,hbl,hw,hn]
  exact⟨0,rfl,.inr rfl⟩
 by_cases hbn:b=[]
 ·subst hbn
  have hb0:pJ []= .lst 1 []:=rfl
  simp-implicitDefEqProofs[dQ,rdO,hb0,hw,hn]
  exact⟨0,rfl,.inr rfl⟩
 have hpos:0<b.length:=List.length_pos_iff.2 hbn
 have hlb:¬b.length=0:=by omega
 have hn0:¬n=0:=by omega
 have hw2:IntKind.i64.wrap (p:Int)=(p:Int):=ag (by omega) (by omega)
 have at_:∀q:Nat,∃c:Int,b[q%b.length]?=some c∧0≤c∧c≤255:=fun q=>by
  have h:=Nat.mod_lt q hpos
  exact⟨_,List.getElem?_eq_getElem h,hb _ (List.getElem_mem h)⟩
 simp-implicitDefEqProofs[dQ,rdO,hbl,hw,hn,hbn,hw2]
 refine aS (fun h1=>?_) (fun h1=>?_)
 ·simp at h1
  obtain⟨c,e1,e2,e3⟩:=at_ p
  rw[Nat.mod_eq_of_lt h1] at e1
  obtain⟨d,rfl⟩:∃d:Nat,c=d:=⟨c.toNat,by omega⟩
  obtain⟨k,q1,q2⟩:=zP (a:=d) (n:=n) (by omega)
  have hw3:IntKind.i64.wrap (d:Int)=d:=ag (by omega) (by omega)
  simp-implicitDefEqProofs[e1,hw3,hn0,q1]
  exact⟨k,rfl,.inl q2⟩
 ·simp at h1
  obtain⟨c1,e1,e2,e3⟩:=at_ p
  obtain⟨c2,f1,f2,f3⟩:=at_ (p*7+3)
  have hq:p/b.length≤p:=Nat.div_le_self _ _
  have ht1:(p:Int).tmod (b.length:Int)=((p%b.length:Nat):Int):=rfl
  have ht2:((p:Int)*7+3).tmod (b.length:Int)=(((p*7+3)%b.length:Nat):Int):=rfl
  have ht3:(p:Int).tdiv (b.length:Int)=((p/b.length:Nat):Int):=rfl
  generalize p/b.length=q at hq ht3
  generalize p%b.length=r1 at e1 ht1
  generalize (p*7+3)%b.length=r2 at f1 ht2
  obtain⟨x1,rfl⟩:∃d:Nat,c1=d:=⟨c1.toNat,by omega⟩
  obtain⟨x2,rfl⟩:∃d:Nat,c2=d:=⟨c2.toNat,by omega⟩
  obtain⟨m,hx⟩:=AU (a:=x1*131+x2*1117+p*29+q*53) (b:=(x1*131+x2*1117+p*29+q*53)/64) (by omega) (by omega) (by omega) (by omega)
  obtain⟨k,q1,q2⟩:=zP (a:=m) (n:=n) (by omega)
  have ht4:((x1:Int)*131+x2*1117+p*29+q*53).tdiv 64=((x1:Int)*131+x2*1117+p*29+q*53)/64:=Int.tdiv_eq_ediv_of_nonneg (by omega)
  have w1:IntKind.i64.wrap ((p:Int)*7)=(p:Int)*7:=ag (by omega) (by omega)
  have w2:IntKind.i64.wrap ((p:Int)*7+3)=(p:Int)*7+3:=ag (by omega) (by omega)
  have w3:IntKind.i64.wrap ((p:Int)*29)=(p:Int)*29:=ag (by omega) (by omega)
  have w4:IntKind.i64.wrap (x1:Int)=x1:=ag (by omega) (by omega)
  have w5:IntKind.i64.wrap (x2:Int)=x2:=ag (by omega) (by omega)
  have w6:IntKind.i64.wrap ((x1:Int)*131)=(x1:Int)*131:=ag (by omega) (by omega)
  have w7:IntKind.i64.wrap ((x2:Int)*1117)=(x2:Int)*1117:=ag (by omega) (by omega)
  have w8:IntKind.i64.wrap ((x1:Int)*131+x2*1117)=(x1:Int)*131+x2*1117:=ag (by omega) (by omega)
  have w9:IntKind.i64.wrap ((x1:Int)*131+x2*1117+p*29)=(x1:Int)*131+x2*1117+p*29:=ag (by omega) (by omega)
  have w10:IntKind.i64.wrap (q:Int)=q:=ag (by omega) (by omega)
  have w11:IntKind.i64.wrap ((q:Int)*53)=(q:Int)*53:=ag (by omega) (by omega)
  have w12:IntKind.i64.wrap ((x1:Int)*131+x2*1117+p*29+q*53)=(x1:Int)*131+x2*1117+p*29+q*53:=ag (by omega) (by omega)
  have w13:IntKind.i64.wrap (((x1:Int)*131+x2*1117+p*29+q*53)/64)=((x1:Int)*131+x2*1117+p*29+q*53)/64:=ag (by omega) (by omega)
  simp-implicitDefEqProofs[hlb,ht1,ht2,ht3,e1,f1,w1,w2,w3,w4,w5,w6,w7,w8,w9,w10,w11,w12,w13,ht4,hx,hn0,q1]
  simp-implicitDefEqProofs[] at hx
  rw[hx]
  exact⟨k,q1,.inl q2⟩
theorem bj(b:List Int)(p n:Nat):okO n (rdO b p):=by simp[okO,rdO]
theorem aX(b:List Int)(hb:Byt b)(hl:b.length≤2000)(p:Nat)(hp:p≤1099511627776)(n:Int)(rest:List AO):AC Tryz.prog G af [.ptr 0 2 0 0,.p (.int .i64 n)] (rdO b p::rest) fun x h=>∃k:Nat,x= .ret (.p (.int .i64 k))∧h=rdO b (p+1)::rest∧((k:Int)<n∨k=0):=by
 refine((GT G b hb hl p hp n).pre rest (by simp[below]) (fun o ho=>by rw[List.mem_singleton.1 ho];exact bj _ _ _) ?_).mono ?_
 ·rintro x h ⟨k,_,rfl,_⟩;rfl
 ·rintro x h ⟨h1,⟨k,e1,rfl,e3⟩,rfl⟩
  exact⟨k,e1,rfl,e3⟩
theorem Gh{f:FuncId}{args:List AV}{b:List Int}{p:Nat}{o:AO}{R:AV→Nat→Prop}(H:AC Tryz.prog G f (.ptr 0 2 0 0::args) [rdO b p,o] fun x h=>∃v q,x= .ret (.p v)∧h=[rdO b q,o]∧R (.p v) q)(ho:okO 0 o)
 {h:List AO}{k:Nat}{args':List AV}(hk:k≠0)(h0:h[0]?=some (rdO b p))(h1:h[k]?=some o)(hT:TW [0,k] args' args):AC Tryz.prog G f (.ptr 0 2 0 0::args') h fun x h'=>∃v q,x= .ret (.p v)∧h'=h.set 0 (rdO b q)∧R (.p v) q:=by
 have nd:[0,k].Nodup:=by simp;omega
 refine(H.frame (args:= .ptr 0 2 0 0::args') [0,k] nd (by rw[pq];exact⟨.inr ⟨by simp[below],rfl⟩,hT⟩) (bx h0 (bj _ _ _) (bx h1 ho bm))).mono ?_
 rintro x h' ⟨x0,h2,⟨v,q,rfl,rfl,r⟩,_,rfl,rfl⟩
 refine⟨v,q,by simp[ri,ren],?_,r⟩
 have e1:∀σ,fh σ (rdO b q)=rdO b q:=fun σ=>pp (n:=0) (fun i hi=>by omega) _ (bj _ _ _)
 have e2:∀σ,fh σ o=o:=fun σ=>pp (n:=0) (fun i hi=>by omega) _ ho
 simp only[List.take,List.length_cons,List.length_nil,List.map_cons,List.map_nil,e1,e2,mrg,List.drop,List.append_nil]
 refine List.ext_getElem? fun i=>?_
 rw[List.getElem?_set]
 split
 ·rename_i e;subst e
  rw[List.getElem?_set_ne (Ne.symm hk)]
  split
  ·exact h1.symm
  ·rename_i hl
   have:=(List.getElem?_eq_some_iff.1 h1).1
   simp at hl;omega
 ·rfl
theorem Hd(b:List Int)(hb:Byt b)(hl:b.length≤2000)(p:Nat)(hp:p≤1099511627776)(l:List Int)(hne:l≠[])(hll:l.length≤1099511627776):AC Tryz.prog G an [.ptr 0 2 0 0,.sl 1 1 0 l.length] [rdO b p,lb l] fun x h=>∃v q,x= .ret (.p v)∧h=[rdO b q,lb l]∧(∃n,v= .int .i64 n∧n∈l)∧q=p+1:=by
 refine AC.go kf ?_
 have hpos:0<l.length:=List.length_pos_iff.2 hne
 simp-implicitDefEqProofs[gz]
 refine(aX G b hb hl p hp l.length [lb l]).mono ?_
 rintro r h ⟨k,rfl,rfl,hk⟩
 have hkl:k<l.length:=by omega
 have hg:=List.getElem?_eq_getElem hkl
 have hn:lb l= .row 1 (l.map fun n=>[.p (.int .i64 n)]):=rfl
 simp-implicitDefEqProofs[aa,hkl,hn,hg]
theorem jo{b:List Int}(hb:Byt b)(hl:b.length≤2000){p:Nat}(hp:p≤1099511627776)(l:List Int){h:List AO}{k:Nat}(hne:l≠[])(hll:l.length≤1099511627776)(hk:k≠0)(h0:h[0]?=some (rdO b p))(h1:h[k]?=some (lb l)):
 AC Tryz.prog G an [.ptr 0 2 0 0,.sl k 1 0 l.length] h fun x h'=>∃n,n∈l∧x= .ret (.p (.int .i64 n))∧h'=h.set 0 (rdO b (p+1)):=by
 refine(Gh G (args:=[.sl 1 1 0 l.length]) (R:=fun v q=>(∃n,v= .p (.int .i64 n)∧n∈l)∧q=p+1) ((Hd G b hb hl p hp l hne hll).mono ?_) (by simp[okO,lb]) (args':=[.sl k 1 0 l.length]) hk h0 h1 (by simp[below,ren])).mono ?_
 ·rintro x h ⟨v,q,e1,e2,⟨n,rfl,e3⟩,e4⟩
  exact⟨_,q,e1,e2,⟨n,rfl,e3⟩,e4⟩
 ·rintro x h' ⟨v,q,e1,e2,⟨n,e3,e4⟩,e5⟩
  cases e3;subst e5
  exact⟨n,e4,e1,e2⟩
theorem Jn(b:List Int)(hb:Byt b)(hl:b.length≤2000)(p:Nat)(hp:p≤1099511627776)(l:List (List UInt8))(hne:l≠[])(hll:l.length≤1099511627776):AC Tryz.prog G az [.ptr 0 2 0 0,.sl 1 1 0 l.length] [rdO b p,bH l] fun x h=>∃v q,x= .ret (.p v)∧h=[rdO b q,bH l]∧(∃s,v= .str s∧s∈l)∧q=p+1:=by
 refine AC.go kP ?_
 have hpos:0<l.length:=List.length_pos_iff.2 hne
 simp-implicitDefEqProofs[gU]
 refine(aX G b hb hl p hp l.length [bH l]).mono ?_
 rintro r h ⟨k,rfl,rfl,hk⟩
 have hkl:k<l.length:=by omega
 have hg:=List.getElem?_eq_getElem hkl
 have hn:bH l= .row 1 (l.map fun n=>[.p (.str n)]):=rfl
 simp-implicitDefEqProofs[aa,hkl,hn,hg]
theorem wU{b:List Int}(hb:Byt b)(hl:b.length≤2000){p:Nat}(hp:p≤1099511627776)(l:List (List UInt8)){h:List AO}{k:Nat}(hne:l≠[])(hll:l.length≤1099511627776)(hk:k≠0)(h0:h[0]?=some (rdO b p))(h1:h[k]?=some (bH l)):
 AC Tryz.prog G az [.ptr 0 2 0 0,.sl k 1 0 l.length] h fun x h'=>∃s,s∈l∧x= .ret (.p (.str s))∧h'=h.set 0 (rdO b (p+1)):=by
 refine(Gh G (args:=[.sl 1 1 0 l.length]) (R:=fun v q=>(∃n,v= .p (.str n)∧n∈l)∧q=p+1) ((Jn G b hb hl p hp l hne hll).mono ?_) (by simp[okO,bH]) (args':=[.sl k 1 0 l.length]) hk h0 h1 (by simp[below,ren])).mono ?_
 ·rintro x h ⟨v,q,e1,e2,⟨n,rfl,e3⟩,e4⟩
  exact⟨_,q,e1,e2,⟨n,rfl,e3⟩,e4⟩
 ·rintro x h' ⟨v,q,e1,e2,⟨n,e3,e4⟩,e5⟩
  cases e3;subst e5
  exact⟨n,e4,e1,e2⟩
theorem zN{b:List Int}(hb:Byt b)(hl:b.length≤2000){p:Nat}(hp:p≤1099511627776)(l:List (List UInt8))(hne:l≠[])(hll:l.length≤1099511627776)(rest:List AO):AC Tryz.prog G az [.ptr 0 2 0 0,.p (aC l)] (rdO b p::rest) fun x h=>∃s,s∈l∧x= .ret (.p (.str s))∧h=rdO b (p+1)::rest:=by
 have key:AC Tryz.prog G az [.ptr 0 2 0 0,.p (aC l)] [rdO b p] fun x h=>∃s,s∈l∧x= .ret (.p (.str s))∧h=[rdO b (p+1)]:=by
  refine AC.go kP ?_
  have hpos:0<l.length:=List.length_pos_iff.2 hne
  have hsl:aC l= .lst 1 (l.map fun w=>[.str w]):=rfl
  simp-implicitDefEqProofs[gU,hsl]
  refine(aX G b hb hl p hp l.length []).mono ?_
  rintro r h ⟨k,rfl,rfl,hk⟩
  have hkl:k<l.length:=by omega
  have hg:=List.getElem?_eq_getElem hkl
  simp-implicitDefEqProofs[aa,hg]
 refine(key.pre rest (by simp[below]) (fun o ho=>by rw[List.mem_singleton.1 ho];exact bj _ _ _) ?_).mono ?_
 ·rintro x h ⟨k,_,_,rfl⟩;rfl
 ·rintro x h ⟨h1,⟨s,e1,e2,rfl⟩,rfl⟩
  exact⟨s,e1,e2,rfl⟩
def DP(b:List Int)(Q:AV→Nat→Prop)(x:ARes)(h:List AO):Prop:=∃v rest q v1,x= .ret v∧h=rdO b q::rest∧Fzs (.dead::rest) 1 [v] [v1]∧Q v1 q
theorem kE{f:FuncId}{args:List AV}{b:List Int}{p:Nat}{Q:AV→Nat→Prop}(H:AC Tryz.prog G f args [rdO b p] (DP b Q)):AC Tryz.prog G f args [rdO b p] fun x h=>∃v q,x= .ret v∧h=[rdO b q]∧Q v q:=by
 refine H.frz 1 (Nat.le_refl _) (fun t v h ⟨_,_,_,_,e,_⟩=>by cases e) ?_
 rintro v h ⟨v0,rest,q,v1,e,rfl,hf,r⟩
 cases e
 exact⟨v1,[rdO b q],by simp,rfl,hf,.same (bj _ _ _) (.nil _),v1,q,rfl,rfl,r⟩
theorem gS{f:FuncId}{args:List AV}{b:List Int}{p:Nat}{Q:AV→Nat→Prop}(H:AC Tryz.prog G f args [rdO b p] fun x h=>∃v q,x= .ret v∧h=[rdO b q]∧Q v q)(rest:List AO)(ha:ah 1 args):AC Tryz.prog G f args (rdO b p::rest) fun x h=>∃v q,x= .ret v∧h=rdO b q::rest∧Q v q:=by
 refine(H.pre rest ha (fun o ho=>by rw[List.mem_singleton.1 ho];exact bj _ _ _) ?_).mono ?_
 ·rintro x h ⟨k,_,_,rfl,_⟩;rfl
 ·rintro x h ⟨h1,⟨s,q,e1,rfl,e2⟩,rfl⟩
  exact⟨s,q,e1,rfl,e2⟩
end Go.Proofs.YtnjbhgpbgmpkcaaGreatDoor
namespace Go.Proofs.YtnjbhgpbgmpkcaaGreatDoor
open Go Go.Aw Go.ChangeShapes Go.WideShapes Go.ChangeAt Go.RowKit
set_option maxRecDepth 100000
abbrev Hv:TypeId:=24
abbrev Jt:TypeId:=22
abbrev KX:TypeId:=111
abbrev GH:TypeId:=54
abbrev JS:TypeId:=9
abbrev FE:TypeId:=109
abbrev Hu:TypeId:=185
abbrev Ga:TypeId:=183
abbrev GZ:TypeId:=225
abbrev Gj:TypeId:=3
abbrev HA:TypeId:=4
abbrev xW:TypeId:=177
abbrev Do:TypeId:=232
abbrev EW:TypeId:=233
abbrev zU:TypeId:=38
abbrev vo:TypeId:=5
theorem Jg:Kids Tryz.prog (· <Tryz.prog.types.size):=kids_rows (by kernel_rfl) (by kernel_rfl)
theorem JR:∀t e,t<Tryz.prog.types.size→Tryz.prog.underlying t=some (.slice e)→0<Tryz.prog.cellsOf e:=slices_full_of Tryz.prog (by kernel_rfl)
def Dc:List TypeId:=[Hv,Jt,KX,GH,JS,FE,Hu,Ga,GZ,Gj,HA,xW,Do]
theorem Er:Plain Tryz.prog Dc=true:=by kernel_rfl
theorem Ll:ownKnob Tryz.prog.godebug=none:=by kernel_rfl
theorem si{H:Type}:∀l:List (DataW H),Rows.uptoBulkAll l=(l.map Rows.uptoBulk).sum
 |[]=>by simp[Rows.uptoBulkAll]
 |d::r=>by simp[Rows.uptoBulkAll,si r]
theorem EV{H:Type}:BulkOk (Rows.uptoBulk (H:=H)) where
 lit:=fun l=>by cases l<;>simp[Rows.uptoBulk]
 str:=fun s=>by simp[Rows.uptoBulk]
 nil:=by simp[Rows.uptoBulk]
 slice:=fun es sp=>by simp only[Rows.uptoBulk,si];omega
 agg:=fun ps=>by simp only[Rows.uptoBulk,si];omega
theorem Ej{t e:TypeId}{vs:List PV}(h:Conf Tryz.prog t vs)(hu:Tryz.prog.underlying t=some (.slice e)):∃es,vs=[.lst (Tryz.prog.cellsOf e) es]∧es.length≤9223372036854775807∧∀x∈es,Conf Tryz.prog e x:=by
 cases h with
 |sl es e' hl hs=>rw[hu] at e';cases e';exact⟨es,rfl,hl,hs⟩
 |bool b e=>rw[e] at hu;cases hu
 |int n e=>rw[e] at hu;cases hu
 |str s e=>rw[e] at hu;cases hu
 |st vs e=>rw[e] at hu;cases hu
 |arr vs e=>rw[e] at hu;cases hu
def G0:ay:=fun g=>if g=eE then some dV else if g=cJ then some [.tbl opK opV] else none
theorem GM:∀k,gk Tryz.prog (k+10) xW (Rows.laid_loop_example_wholeway_impl_keys (H:=Unit))=dV:=fun k=>by kernel_rfl
theorem Ld{W:World}{laid:List (String × DataW Unit)}(hL:laidMet Tryz.prog laid W)(h1:("loop.example/wholeway/impl.keys",Rows.laid_loop_example_wholeway_impl_keys)∈laid)(h2:("loop.example/wholeway/impl.opSign",Rows.laid_loop_example_wholeway_impl_opSign)∈laid):
 ∀g cs,G0 g=some cs→g<W.heap.size∧∀(j:Nat) (c:PV),cs[j]?=some c→∃v,W.cell? ⟨g,j,none⟩=some v∧PRel W (· <W.heap.size) c v:=by
 intro g cs h
 unfold G0 at h
 split at h
 ·rename_i e;subst e;cases h
  exact AN Er hL (n:= "loop.example/wholeway/impl.keys") (d:=Rows.laid_loop_example_wholeway_impl_keys) (t:=xW) h1 (by kernel_rfl) (by kernel_rfl) (by decide) GM
 ·split at h
  ·rename_i e;subst e;cases h
   exact DH Er hL (n:= "loop.example/wholeway/impl.opSign") h2 (t:=EW) (k:=Gj) (e:=Do) (by kernel_rfl) (by kernel_rfl) (by kernel_rfl) (.inl ⟨.i64,by kernel_rfl⟩) (by decide) (by kernel_rfl) (by kernel_rfl) (fun m=>by kernel_rfl)
  ·cases h
def zG:List TypeId:=zU::vo::Dc
theorem Hh:Plain Tryz.prog zG=true:=by kernel_rfl
theorem yL{vs:List PV}(h:Conf Tryz.prog zU vs):∃l:List Int,vs=[pJ l]∧l.length≤9223372036854775807∧Byt l:=by
 obtain⟨es,rfl,hl,h4⟩:=Ej h (e:=vo) (by kernel_rfl)
 have hk:∀x∈es,∃n:Int,x=[PV.int .u8 n]∧(Lit.int .u8 n).wf=true:=fun x hx=>Dk (h4 x hx) (by kernel_rfl)
 obtain⟨l,rfl⟩:=zW (fun n:Int=>[PV.int .u8 n]) (fun x hx=>by obtain⟨n,e,_⟩:=hk x hx;exact⟨n,e⟩)
 rw[show Tryz.prog.cellsOf vo=1 by kernel_rfl]
 refine⟨l,rfl,by rwa[List.length_map] at hl,fun n hn=>?_⟩
 obtain⟨m,e,hw⟩:=hk [PV.int .u8 n] (List.mem_map.2 ⟨n,hn,rfl⟩)
 cases e
 simp[Lit.wf,IntKind.min,IntKind.max,IntKind.bits,IntKind.signed] at hw
 omega
end Go.Proofs.YtnjbhgpbgmpkcaaGreatDoor
namespace Go.Proofs.YtnjbhgpbgmpkcaaGreatDoor
open Go Go.Aw
set_option maxRecDepth 100000
theorem dX{s:Bool}{h:List AO}{vs:List AV}{q:PV}{I:List Nat}(H:OwnL s h vs [q] I):∃v,vs=[v]:=by
 have:=H.len
 match vs,this with
 |[v],_=>exact⟨v,rfl⟩
theorem FT{s:Bool}{h:List AO}{vs:List AV}{q r:PV}{I:List Nat}(H:OwnL s h vs [q,r] I):∃a b,vs=[a,b]:=by
 have:=H.len
 match vs,this with
 |[a,b],_=>exact⟨a,b,rfl⟩
theorem Bq{s:Bool}{h:List AO}{vs:List AV}{q r t:PV}{I:List Nat}(H:OwnL s h vs [q,r,t] I):∃a b c,vs=[a,b,c]:=by
 have:=H.len
 match vs,this with
 |[a,b,c],_=>exact⟨a,b,c,rfl⟩
theorem yX{s:Bool}{h:List AO}{vs:List AV}{e:Ex}{I:List Nat}(H:OwnL s h vs e.cs I):∃K,vs=[.p (.int .i64 e.op),.p (.int .i64 e.n),.p (.str e.name),K]∧OwnL s h [K] [exL e.kids] I:=by
 rw[e.cs_eq] at H
 cases H with
 |p _ _ H=>
  cases H with
  |p _ _ H=>
   cases H with
   |p _ _ H=>
    obtain⟨v,rfl⟩:=dX H
    exact⟨v,rfl,H⟩
theorem Cm{s:Bool}{h:List AO}{o n:Int}{w:List UInt8}{k:List Ex}{K:AV}{I:List Nat}(H:OwnL s h [K] [exL k] I):OwnL s h [.p (.int .i64 o),.p (.int .i64 n),.p (.str w),K] (Ex.mk o n w k).cs I:=by
 rw[Ex.cs_eq]
 exact .p _ (fun _=>rfl) (.p _ (fun _=>rfl) (.p _ (fun _=>rfl) H))
theorem Gw{s:Bool}{h:List AO}{vs:List AV}{e:Sm}{I:List Nat}(H:OwnL s h vs e.cs I):∃A B E I1 I2 I3,vs=[.p (.int .i64 e.op),.p (.str e.name),A,B,E]∧I=I1++(I2++I3)∧OwnL s h [A] [exL e.args] I1∧OwnL s h [B] [smL e.body] I2∧OwnL s h [E] [smL e.els] I3:=by
 rw[e.cs_eq] at H
 cases H with
 |p _ _ H=>
  cases H with
  |p _ _ H=>
   obtain⟨A,B,E,rfl⟩:=Bq H
   obtain⟨I1,I',rfl,h1,H⟩:=H.one
   obtain⟨I2,I3,rfl,h2,h3⟩:=H.one
   exact⟨A,B,E,I1,I2,I3,rfl,rfl,h1,h2,h3⟩
theorem Hn{s:Bool}{h:List AO}{o:Int}{w:List UInt8}{a:List Ex}{b e:List Sm}{A B E:AV}{I1 I2 I3:List Nat}(h1:OwnL s h [A] [exL a] I1)(h2:OwnL s h [B] [smL b] I2)(h3:OwnL s h [E] [smL e] I3):
 OwnL s h [.p (.int .i64 o),.p (.str w),A,B,E] (Sm.mk o w a b e).cs (I1++(I2++I3)):=by
 rw[Sm.cs_eq]
 exact .p _ (fun _=>rfl) (.p _ (fun _=>rfl) (h1.app (h2.app h3)))
theorem GB{s:Bool}{h:List AO}{vs:List AV}{f:Fd}{I:List Nat}(H:OwnL s h vs f.cs I):∃A B I1 I2,vs=[.p (.str f.name),A,B]∧I=I1++I2∧OwnL s h [A] [aC f.params] I1∧OwnL s h [B] [smL f.body] I2:=by
 rw[show f.cs=[.str f.name,aC f.params,smL f.body] from rfl] at H
 cases H with
 |p _ _ H=>
  obtain⟨A,B,rfl⟩:=FT H
  obtain⟨I1,I2,rfl,h1,H⟩:=H.one
  exact⟨A,B,I1,I2,rfl,rfl,h1,H⟩
theorem nK{s:Bool}{h:List AO}{w:List UInt8}{ps:List (List UInt8)}{b:List Sm}{A B:AV}{I1 I2:List Nat}(h1:OwnL s h [A] [aC ps] I1)(h2:OwnL s h [B] [smL b] I2):OwnL s h [.p (.str w),A,B] (Fd.mk w ps b).cs (I1++I2):=
 .p _ (fun _=>rfl) (h1.app h2)
end Go.Proofs.YtnjbhgpbgmpkcaaGreatDoor
namespace Go.Proofs.YtnjbhgpbgmpkcaaGreatDoor
open Go Go.Aw
set_option maxRecDepth 100000
set_option maxHeartbeats 4000000
structure HV (σ:Type) where
 F:FuncId
 caps:List AV
 n:Nat
 Inv:σ→Nat→List AO→Prop
 capsOk:ah n caps
 len:∀{st id h},Inv st id h→n≤h.length∧id<h.length
 frame:∀{st id h h'},Inv st id h→(∀i,i<h.length→i<n∨i=id→h'[i]?=h[i]?)→Inv st id h'
def HV.Left{σ:Type}(V:HV σ)(id:Nat)(h:List AO)(st':σ)(h':List AO):Prop:=
 ∃id',V.Inv st' id' h'∧h.length≤h'.length∧(∀i,i<h.length→V.n≤i→i≠id→h'[i]?=h[i]?)∧(id'=id∨h.length≤id')
structure HS where (i id:Nat) (h:List AO)
theorem HV.more{σ:Type}(V:HV σ){st:σ}{id:Nat}{h:List AO}(H:V.Inv st id h)(os:List AO):V.Inv st id (h++os):=
 V.frame H fun i hi _=>List.getElem?_append_left hi
theorem HV.Left.trans{σ:Type}{V:HV σ}{id id1:Nat}{h h1 h2:List AO}{st2:σ}(hl:h.length≤h1.length)(hk:∀i,i<h.length→V.n≤i→i≠id→h1[i]?=h[i]?)(hi:id1=id∨h.length≤id1)(L:V.Left id1 h1 st2 h2):V.Left id h st2 h2:=by
 obtain⟨id2,a1,a2,a3,a4⟩:=L
 refine⟨id2,a1,by omega,fun i h1 h2 h3=>?_,?_⟩
 ·rw[a3 i (by omega) h2 (by rcases hi with e|e<;>omega),hk i h1 h2 h3]
 ·rcases a4 with e|e
  ·rw[e];exact hi
  ·right;omega
mutual
theorem EM{σ:Type}{step:σ→Ex→σ}{inv:σ→Nat→Prop}(hs:∀st e k,inv st (k+1)→inv (step st e) k):∀(e:Ex) (st:σ) (k:Nat),inv st (k+e.parts)→inv (e.pre.foldl step st) k
 | .mk o n w ks,st,k,h=>by
   have hp:(Ex.mk o n w ks).parts=1+bl ks:=Ex.parts_eq _
   rw[hp,show k+(1+bl ks)=k+bl ks+1 by omega] at h
   rw[Ex.pre_eq,List.foldl_cons]
   exact lv hs ks _ k (hs _ _ _ h)
theorem lv{σ:Type}{step:σ→Ex→σ}{inv:σ→Nat→Prop}(hs:∀st e k,inv st (k+1)→inv (step st e) k):∀(l:List Ex) (st:σ) (k:Nat),inv st (k+bl l)→inv ((bN l).foldl step st) k
 |[],st,k,h=>by simpa[bN,bl] using h
 |e::r,st,k,h=>by
  rw[bl,show k+(e.parts+bl r)=k+bl r+e.parts by omega] at h
  rw[bN,List.foldl_append]
  exact lv hs r _ k (EM hs e st _ h)
end
variable (G:ay)
theorem Dr{σ:Type}(V:HV σ)(step:σ→Ex→σ)(inv:σ→Nat→Prop)(B:Nat)(hB:B≤1073741824)(hs:∀st e k,inv st (k+1)→inv (step st e) k)
 (hv:∀st e k id h,inv st (k+1)→e.sz≤B→V.Inv st id h→AC Tryz.prog G V.F (.agg (e.cs.map .p)::V.caps) h fun x h'=>x= .ret (.tup [])∧V.Left id h (step st e) h'):
 ∀(N:Nat) (e:Ex),e.sz<N→e.sz≤B→∀st k id h,inv st (k+e.parts)→V.Inv st id h→AC Tryz.prog G eq [.agg (e.cs.map .p),.fn (.func V.F) V.caps] h fun x h'=>x= .ret (.tup [])∧V.Left id h (e.pre.foldl step st) h':=by
 intro N
 induction N with
 |zero=>intro e h;omega
 |succ N ih=>
  intro e he hz st k id h hi hI
  have hec:=e.cs_eq
  have hsz:=e.sz_eq
  have hpe:=e.parts_eq
  have hkl:=bL e.kids
  have hxl:exL e.kids= .lst 4 (e.kids.map Ex.cs):=rfl
  have hcb:=V.capsOk
  obtain⟨hn,hid⟩:=V.len hI
  rw[hpe,show k+(1+bl e.kids)=(k+bl e.kids)+1 by omega] at hi
  have h1:=fun h hI=>hv st e (k+bl e.kids) id h hi hz hI
  have i1:=hs st e _ hi
  refine AC.go pk ?_
  rw[hec] at h1
  simp-implicitDefEqProofs[ky,hec]
  refine(h1 _ (V.more hI _)).mono ?_
  rintro r h2 ⟨rfl,id2,L1,L2,L3,L4⟩
  rw[List.length_append] at L2 L3 L4
  simp only[List.length_cons,List.length_nil] at L2 L3 L4
  have hbox:h2[h.length]?=some (.row 4 [[.p (.int .i64 e.op),.p (.int .i64 e.n),.p (.str e.name),.p (exL e.kids)]]):=by
   rw[L3 _ (by omega) hn (by omega)];simp
  simp-implicitDefEqProofs[aa,hbox,hxl]
  refine aJ (fun a:HS=>aj 20 [(1,.fn (.func V.F) V.caps),(2,.ptr h.length 4 0 0),(10,.p (exL e.kids)),(11,.p (.int .i64 e.kids.length)),(12,.p (.int .i64 a.i))])
   (fun a=>a.h) (fun a=>a.i≤e.kids.length∧V.Inv ((bN (e.kids.take a.i)).foldl step (step st e)) a.id a.h∧h.length<a.h.length∧(∀i,i<h.length→V.n≤i→i≠id→a.h[i]?=h[i]?)∧(a.id=id∨h.length<a.id)) (fun a=>e.kids.length-a.i) ⟨0,id2,h2⟩ ⟨Nat.zero_le _,L1,(by show h.length<h2.length;omega),fun i a1 a2 a3=>?_,(by show id2=id∨h.length<id2;omega)⟩ ?_ ?_
  ·show h2[i]?=h[i]?
   rw[L3 i (by omega) a2 a3,List.getElem?_append_left a1]
  ·exact cr (by omega) (by simp[below,hxl];exact⟨aN (by omega) _ hcb,by omega⟩)
  rintro⟨i,idc,hc⟩ ⟨hil,hIc,hlc,hkc,hic⟩
  simp only at hil hIc hlc hkc hic
  simp-implicitDefEqProofs[hxl]
  refine aS (fun hcc=>?_) (fun hcc=>?_)
  ·simp at hcc
   have hg:=List.getElem?_eq_getElem hcc
   have hks:=bQ (List.getElem_mem hcc)
   have hkc2:=e.kids[i].cs_eq
   have hT:e.kids.take (i+1)=e.kids.take i++[e.kids[i]]:=al hcc
   have hsum:bl e.kids=bl (e.kids.take i)+(e.kids[i].parts+bl (e.kids.drop (i+1))):=by
    have e1:bl e.kids=bl (e.kids.take i)+bl (e.kids.drop i):=by rw[←ec,List.take_append_drop]
    have e2:bl (e.kids.drop i)=e.kids[i].parts+bl (e.kids.drop (i+1)):=by rw[List.drop_eq_getElem_cons hcc,bl]
    omega
   have hic2:inv ((bN (e.kids.take i)).foldl step (step st e)) (k+bl (e.kids.drop (i+1))+e.kids[i].parts):=
    lv hs _ _ _ (by rw[show k+bl (e.kids.drop (i+1))+e.kids[i].parts+bl (e.kids.take i)=k+bl e.kids by omega];exact i1)
   have hA:=fun os=>ih e.kids[i] (by omega) (by omega) _ _ idc (hc++os) hic2 (V.more hIc os)
   have hf:(bN (e.kids.take (i+1))).foldl step (step st e)=e.kids[i].pre.foldl step ((bN (e.kids.take i)).foldl step (step st e)):=by
    rw[hT,jP,List.foldl_append,bN,bN,List.append_nil]
   rw[hkc2] at hA
   simp-implicitDefEqProofs[hg,hkc2]
   refine(hA _).mono ?_
   rintro r h3 ⟨rfl,id3,M1,M2,M3,M4⟩
   rw[List.length_append] at M2 M3 M4
   simp only[List.length_cons,List.length_nil] at M2 M3 M4
   have hn3:=(V.len M1).1
   simp-implicitDefEqProofs[aa]
   refine⟨⟨i+1,id3,h3⟩,⟨hcc,by rw[hf];exact M1,by show h.length<h3.length;omega,fun j a1 a2 a3=>?_,?_⟩,by show e.kids.length-(i+1)<e.kids.length-i;omega,cr (by show h.length≤h3.length;omega) ?_⟩
   ·show h3[j]?=h[j]?
    rw[M3 j (by omega) a2 (by omega),List.getElem?_append_left (by omega),hkc j a1 a2 a3]
   ·show id3=id∨h.length<id3
    omega
   ·simp[below,hxl,w1 (i:=i) (by omega)]
    exact⟨aN (by omega) _ hcb,by omega⟩
  ·simp at hcc
   have hie:i=e.kids.length:=by omega
   subst hie
   rw[List.take_length] at hIc
   rw[Ex.pre_eq,List.foldl_cons]
   simp-implicitDefEqProofs[]
   exact⟨idc,hIc,by omega,hkc,by omega⟩
def Sm.own(s:Sm):Nat:=1+s.name.length+aU s.args
theorem Sm.own_sz(s:Sm):s.sz=s.own+aq s.body+aq s.els:=by rw[s.sz_eq,Sm.own]
mutual
theorem Hf{σ:Type}{step:σ→Sm × Nat→σ}{inv:σ→Nat→Prop}(hs:∀st (s:Sm) d k,inv st (k+s.own)→inv (step st (s,d)) k):∀(s:Sm) (d:Nat) (st:σ) (k:Nat),inv st (k+s.sz)→inv ((s.pre d).foldl step st) k
 | .mk o n a b e,d,st,k,h=>by
   rw[Sm.own_sz] at h
   rw[Sm.pre_eq,List.foldl_cons,List.foldl_append]
   refine ma hs e _ _ k (ma hs b _ _ _ (hs _ _ _ _ ?_))
   rw[show k+aq e+aq b+(Sm.mk o n a b e).own=k+((Sm.mk o n a b e).own+aq b+aq e) by omega]
   exact h
theorem ma{σ:Type}{step:σ→Sm × Nat→σ}{inv:σ→Nat→Prop}(hs:∀st (s:Sm) d k,inv st (k+s.own)→inv (step st (s,d)) k):∀(l:List Sm) (d:Nat) (st:σ) (k:Nat),inv st (k+aq l)→inv ((aT d l).foldl step st) k
 |[],d,st,k,h=>by simpa[aT,aq] using h
 |s::r,d,st,k,h=>by
  rw[aq,show k+(s.sz+aq r)=k+aq r+s.sz by omega] at h
  rw[aT,List.foldl_append]
  exact ma hs r d _ k (Hf hs s d st _ h)
end
theorem CB{σ:Type}(V:HV σ)(step:σ→Sm × Nat→σ)(inv:σ→Nat→Prop)(B:Nat)(hB:B≤1073741824)(hs:∀st (s:Sm) d k,inv st (k+s.own)→inv (step st (s,d)) k)
 (hv:∀st (s:Sm) d k id h,inv st (k+s.own)→s.sz≤B→V.Inv st id h→AC Tryz.prog G V.F (.agg (s.cs.map .p):: .p (.int .i64 (d:Nat))::V.caps) h fun x h'=>x= .ret (.tup [])∧V.Left id h (step st (s,d)) h'):
 ∀(N:Nat) (l:List Sm),aq l<N→aq l≤B→∀(d:Nat),d+aq l≤1099511627776→∀st k id h,inv st (k+aq l)→V.Inv st id h→AC Tryz.prog G dr [.p (smL l),.p (.int .i64 d),.fn (.func V.F) V.caps] h fun x h'=>x= .ret (.tup [])∧V.Left id h ((aT d l).foldl step st) h':=by
 intro N
 induction N with
 |zero=>intro l h;omega
 |succ N ih=>
  intro l hl hz d hd st k id h hi hI
  have hll:=cg l
  have hsl:∀l,smL l= .lst 5 (l.map Sm.cs):=fun _=>rfl
  have hcb:=V.capsOk
  obtain⟨hn,hid⟩:=V.len hI
  refine AC.go pr ?_
  simp-implicitDefEqProofs[ko,hsl]
  refine aJ (fun a:HS=>aj 31 [(1,.p (.int .i64 d)),(2,.fn (.func V.F) V.caps),(8,.p (smL l)),(9,.p (.int .i64 l.length)),(10,.p (.int .i64 a.i))])
   (fun a=>a.h) (fun a=>a.i≤l.length∧V.Inv ((aT d (l.take a.i)).foldl step st) a.id a.h∧h.length≤a.h.length∧(∀i,i<h.length→V.n≤i→i≠id→a.h[i]?=h[i]?)∧(a.id=id∨h.length≤a.id)) (fun a=>l.length-a.i) ⟨0,id,h⟩ ⟨Nat.zero_le _,hI,Nat.le_refl _,fun i _ _ _=>rfl,.inl rfl⟩ ?_ ?_
  ·exact cr (Nat.le_refl _) (by simp[below,hsl];exact aN (by omega) _ hcb)
  rintro⟨i,idc,hc⟩ ⟨hil,hIc,hlc,hkc,hic⟩
  simp only at hil hIc hlc hkc hic
  simp-implicitDefEqProofs[hsl]
  refine aS (fun hcc=>?_) (fun hcc=>?_)
  ·simp at hcc
   have hg:=List.getElem?_eq_getElem hcc
   have hks:=eQ (List.getElem_mem hcc)
   have hse:=l[i].cs_eq
   have hsz:=l[i].own_sz
   have hown:1≤l[i].own:=by unfold Sm.own;omega
   have hT:l.take (i+1)=l.take i++[l[i]]:=al hcc
   have hsum:aq l=aq (l.take i)+(l[i].sz+aq (l.drop (i+1))):=by
    have e1:aq l=aq (l.take i)+aq (l.drop i):=by rw[←bn,List.take_append_drop]
    have e2:aq (l.drop i)=l[i].sz+aq (l.drop (i+1)):=by rw[List.drop_eq_getElem_cons hcc,aq]
    omega
   have i0:inv ((aT d (l.take i)).foldl step st) (k+aq (l.drop (i+1))+aq l[i].els+aq l[i].body+l[i].own):=
    ma hs _ _ _ _ (by rw[show k+aq (l.drop (i+1))+aq l[i].els+aq l[i].body+l[i].own+aq (l.take i)=k+aq l by omega];exact hi)
   have i1:=hs _ l[i] d _ i0
   have i2:=ma hs l[i].body (d+1) _ _ i1
   have hf:(aT d (l.take (i+1))).foldl step st=(l[i].pre d).foldl step ((aT d (l.take i)).foldl step st):=by
    rw[hT,kG,List.foldl_append,aT,aT,List.append_nil]
   rw[Sm.pre_eq,List.foldl_cons,List.foldl_append] at hf
   have hwd:IntKind.i64.wrap ((d:Int)+1)=((d+1:Nat):Int):=by rw[ag (by omega) (by omega)];omega
   have h1:=fun os=>hv _ l[i] d _ idc (hc++os) i0 (by omega) (V.more hIc os)
   have h2:=fun st2 id2 hh=>ih l[i].body (by omega) (by omega) (d+1) (by omega) st2 (k+aq (l.drop (i+1))+aq l[i].els) id2 hh
   have h3:=fun st2 id2 hh=>ih l[i].els (by omega) (by omega) (d+1) (by omega) st2 (k+aq (l.drop (i+1))) id2 hh
   rw[hse] at h1
   simp-implicitDefEqProofs[hg,hse]
   refine(h1 _).mono ?_
   rintro r g1 ⟨rfl,id3,M1,M2,M3,M4⟩
   rw[List.length_append] at M2 M3 M4
   simp only[List.length_cons,List.length_nil] at M2 M3 M4
   have hbox:g1[hc.length]?=some (.row 5 [[.p (.int .i64 l[i].op),.p (.str l[i].name),.p (exL l[i].args),.p (smL l[i].body),.p (smL l[i].els)]]):=by
    rw[M3 _ (by omega) (by have:=(V.len hIc).1;omega) (by have:=(V.len hIc).2;omega)];simp
   simp-implicitDefEqProofs[aa,hbox,hwd]
   refine(h2 _ id3 g1 i1 M1).mono ?_
   rintro r g2 ⟨rfl,id4,P1,P2,P3,P4⟩
   have hbox2:g2[hc.length]?=some (.row 5 [[.p (.int .i64 l[i].op),.p (.str l[i].name),.p (exL l[i].args),.p (smL l[i].body),.p (smL l[i].els)]]):=by
    rw[P3 _ (by omega) (by have:=(V.len hIc).1;omega) (by have:=(V.len hIc).2;omega),hbox]
   simp-implicitDefEqProofs[aa,hbox2,hwd]
   refine(h3 _ id4 g2 i2 P1).mono ?_
   rintro r g3 ⟨rfl,id5,Q1,Q2,Q3,Q4⟩
   simp-implicitDefEqProofs[aa]
   refine⟨⟨i+1,id5,g3⟩,⟨hcc,by rw[hf];exact Q1,by show h.length≤g3.length;omega,fun j a1 a2 a3=>?_,?_⟩,by show l.length-(i+1)<l.length-i;omega,cr (by show h.length≤g3.length;omega) ?_⟩
   ·show g3[j]?=h[j]?
    rw[Q3 j (by omega) a2 (by omega),P3 j (by omega) a2 (by omega),M3 j (by omega) a2 (by omega),List.getElem?_append_left (by omega),hkc j a1 a2 a3]
   ·show id5=id∨h.length≤id5
    omega
   ·simp[below,hsl,w1 (i:=i) (by omega)]
    exact aN (by omega) _ hcb
  ·simp at hcc
   have hie:i=l.length:=by omega
   subst hie
   rw[List.take_length] at hIc
   simp-implicitDefEqProofs[]
   exact⟨idc,hIc,hlc,hkc,hic⟩
end Go.Proofs.YtnjbhgpbgmpkcaaGreatDoor
namespace Go.Proofs.YtnjbhgpbgmpkcaaGreatDoor
open Go
def lays189_ren:Go.Shelf.Ren:=⟨fun|125=>157|128=>185|129=>186|189=>122|215=>206|216=>182|257=>156|294=>176|295=>177|296=>178|297=>179|298=>180|299=>181|300=>183|301=>184|328=>201|329=>202|330=>203|331=>204|332=>205|343=>216|n=>n,fun|0=>0|3=>3|4=>4|5=>5|9=>9|28=>45|46=>173|51=>199|53=>201|131=>97|182=>191|183=>192|218=>214|222=>218|228=>230|229=>106|n=>n,fun n=>n⟩
theorem zL:Lays.n189 Tryz.prog lays189_ren where
 mixed:=by kernel_rfl
 f125:=Tryz.func157.trans (congrArg some (by kernel_rfl))
 f128:=Tryz.func185.trans (congrArg some (by kernel_rfl))
 f129:=Tryz.func186.trans (congrArg some (by kernel_rfl))
 f189:=Tryz.func122.trans (congrArg some (by kernel_rfl))
 f215:=Tryz.func206.trans (congrArg some (by kernel_rfl))
 f216:=Tryz.func182.trans (congrArg some (by kernel_rfl))
 f257:=Tryz.func156.trans (congrArg some (by kernel_rfl))
 f294:=Tryz.func176.trans (congrArg some (by kernel_rfl))
 f295:=Tryz.func177.trans (congrArg some (by kernel_rfl))
 f296:=Tryz.func178.trans (congrArg some (by kernel_rfl))
 f297:=Tryz.func179.trans (congrArg some (by kernel_rfl))
 f298:=Tryz.func180.trans (congrArg some (by kernel_rfl))
 f299:=Tryz.func181.trans (congrArg some (by kernel_rfl))
 f300:=Tryz.func183.trans (congrArg some (by kernel_rfl))
 f301:=Tryz.func184.trans (congrArg some (by kernel_rfl))
 f328:=Tryz.func201.trans (congrArg some (by kernel_rfl))
 f329:=Tryz.func202.trans (congrArg some (by kernel_rfl))
 f330:=Tryz.func203.trans (congrArg some (by kernel_rfl))
 f331:=Tryz.func204.trans (congrArg some (by kernel_rfl))
 f332:=Tryz.func205.trans (congrArg some (by kernel_rfl))
 f343:=Tryz.func216.trans (congrArg some (by kernel_rfl))
 t0:=Tryz.underlying0
 a0:=Tryz.isAgg0
 z0:=Tryz.sizeOf0
 v0:=Tryz.zeroValue0
 t3:=Tryz.underlying3
 a3:=Tryz.isAgg3
 z3:=Tryz.sizeOf3
 v3:=Tryz.zeroValue3
 t4:=Tryz.underlying4
 a4:=Tryz.isAgg4
 z4:=Tryz.sizeOf4
 v4:=Tryz.zeroValue4
 t5:=Tryz.underlying5
 a5:=Tryz.isAgg5
 z5:=Tryz.sizeOf5
 v5:=Tryz.zeroValue5
 t9:=Tryz.underlying9
 a9:=Tryz.isAgg9
 z9:=Tryz.sizeOf9
 v9:=Tryz.zeroValue9
 t28:=Tryz.underlying45
 a28:=Tryz.isAgg45
 z28:=Tryz.sizeOf45
 v28:=Tryz.zeroValue45
 t46:=Tryz.underlying173
 a46:=Tryz.isAgg173
 z46:=Tryz.sizeOf173
 v46:=Tryz.zeroValue173
 t51:=Tryz.underlying199
 a51:=Tryz.isAgg199
 z51:=Tryz.sizeOf199
 v51:=Tryz.zeroValue199
 t53:=Tryz.underlying201
 a53:=Tryz.isAgg201
 z53:=Tryz.sizeOf201
 v53:=Tryz.zeroValue201
 t131:=Tryz.underlying97
 a131:=Tryz.isAgg97
 z131:=Tryz.sizeOf97
 v131:=Tryz.zeroValue97
 t182:=Tryz.underlying191
 a182:=Tryz.isAgg191
 z182:=Tryz.sizeOf191
 v182:=Tryz.zeroValue191
 t183:=Tryz.underlying192
 a183:=Tryz.isAgg192
 z183:=Tryz.sizeOf192
 v183:=Tryz.zeroValue192
 t218:=Tryz.underlying214
 a218:=Tryz.isAgg214
 z218:=Tryz.sizeOf214
 v218:=Tryz.zeroValue214
 t222:=Tryz.underlying218
 a222:=Tryz.isAgg218
 z222:=Tryz.sizeOf218
 v222:=Tryz.zeroValue218
 t228:=Tryz.underlying230
 a228:=Tryz.isAgg230
 z228:=Tryz.sizeOf230
 v228:=Tryz.zeroValue230
 t229:=Tryz.underlying106
 a229:=Tryz.isAgg106
 z229:=Tryz.sizeOf106
 v229:=Tryz.zeroValue106
def lays20_ren:Go.Shelf.Ren:=⟨fun|20=>123|n=>n,fun|0=>0|3=>3|4=>4|22=>45|n=>n,fun n=>n⟩
theorem CL:Lays2.n20 Tryz.prog lays20_ren where
 mixed:=by kernel_rfl
 f20:=Tryz.func123.trans (congrArg some (by kernel_rfl))
 t0:=Tryz.underlying0
 a0:=Tryz.isAgg0
 z0:=Tryz.sizeOf0
 v0:=Tryz.zeroValue0
 t3:=Tryz.underlying3
 a3:=Tryz.isAgg3
 z3:=Tryz.sizeOf3
 v3:=Tryz.zeroValue3
 t4:=Tryz.underlying4
 a4:=Tryz.isAgg4
 z4:=Tryz.sizeOf4
 v4:=Tryz.zeroValue4
 t22:=Tryz.underlying45
 a22:=Tryz.isAgg45
 z22:=Tryz.sizeOf45
 v22:=Tryz.zeroValue45
 i3:=by kernel_rfl
end Go.Proofs.YtnjbhgpbgmpkcaaGreatDoor
namespace Go.Aw
open Go Go.Sort
section
variable {G:ay} {W:World} {S:Nat→Prop} {φ:Place} {h:List AO}
theorem HRel.grown(H:HRel G W S φ h)(os:Array Obj):HRel G (grow W os) S φ h∧Keep W S φ h (grow W os) S φ h:=by
 have hg:∀b,b<W.heap.size→(grow W os).heap[b]?=W.heap[b]?:=fun b hb=>by
  simp[grow,Array.getElem?_append,hb]
 have hS:∀b,S b→b<W.heap.size:=fun b hb=>(H.sep b hb).1
 have K:Kept W S φ h.length (grow W os) S φ h.length:=
  {pure:=fun b hb=>⟨hb,hg b (hS b hb)⟩
   len:=Nat.le_refl _
   same:=fun _ _=>rfl
   blk:=fun i hi c' t' fr' e=>by
    rw[hg _ (H.bnd i hi)] at e
    exact⟨c',t',fr',e,rfl⟩}
 have hs:W.heap.size≤(grow W os).heap.size:=by simp[grow]
 refine⟨⟨fun i s es e=>?_,fun i o e lo=>?_,H.inj,fun b hb=>⟨Nat.lt_of_lt_of_le (hS b hb) hs,(H.sep b hb).2⟩,fun i hi=>Nat.lt_of_lt_of_le (H.bnd i hi) hs,fun g cs hgl=>?_⟩,
  {K with os:=rfl,tape:=rfl,output:=rfl,size:=hs,out:=fun b hb _=>hg b hb,img:=fun i hi=> .inr ⟨i,hi,rfl⟩,newS:=fun b hb=> .inl hb}⟩
 ·obtain⟨c,t,fr,a1,a2,a3,a4,a5⟩:=H.obj i s es e
  refine⟨c,t,fr,by rw[hg _ (H.bnd i (H.lt e))];exact a1,a2,a3,a4,fun j a hj=>?_⟩
  obtain⟨b1,v,b2,b3⟩:=a5 j a hj
  exact⟨b1,v,b2,b3.kept K⟩
 ·rw[hg _ (H.bnd i (H.lt e))]
  exact(H.oobj i o e lo).mono fun a v r=>r.kept K
 ·obtain⟨g1,g2⟩:=H.glob g cs hgl
  refine⟨g1,fun j c' hj=>?_⟩
  obtain⟨v,k1,k2⟩:=g2 j c' hj
  exact⟨v,by rw[aQ (K.pure g g1).2];exact k1,k2.mono K.pure⟩
end
theorem Bw{α:Type}[Inhabited α](enc:α→Value){W:World}{n blk off:Nat}{d:Array α}{c:Array Value}{t:TypeId}{fr:Nat × Nat}(e:W.heap[blk]?=some (.cells c t fr)):
 BlockSet W (putRow enc (Go.Sort.ahead W n) blk off d) blk (putCells enc off d c) t fr where
 at_b:=by simp[putRow,mapBlock,Go.Sort.ahead,Array.getElem?_modify,e,onCells]
 other:=fun b' hb=>by
  have:¬blk=b':=fun e=>hb e.symm
  simp[putRow,mapBlock,Go.Sort.ahead,Array.getElem?_modify,this]
 size:=by simp[putRow,mapBlock,Go.Sort.ahead]
 os:=rfl
 tape:=rfl
 output:=rfl
def dM(xs:List Int):AO:= .row 1 (xs.map fun x=>[.p (.int .i64 x)])
theorem uO(xs:List Int):(xs.map fun x=>[AV.p (.int .i64 x)]).flatten=xs.map fun x=> .p (.int .i64 x):=by
 induction xs with
 |nil=>rfl
 |cons x r ih=>rw[List.map_cons,List.flatten_cons,ih];rfl
theorem AC.shelfInts{P:Program}{G:ay}{f:FuncId}{h:List AO}{id:Nat}{xs ys:List Int}{rv:AV}{r:Nat→Nat→Nat→Value}(hf:eV P f=true)(hid:h[id]?=some (dM xs))(hx:xs≠[])(hy:ys.length=xs.length)
 (hr:∀(W:World) (S:Nat→Prop) (φ:Place) (n cap:Nat),id<n→xs.length≤cap→(∀c t fr,W.heap[(φ id).1]?=some (.cells c t fr)→(φ id).2+cap≤c.size)→VRel W S φ n rv (r (φ id).1 (φ id).2 cap))
 (H:∀(blk off cap:Nat) (W:World),Holds (Value.int .i64) W blk off xs.toArray→blk<W.heap.size→xs.length≤cap→Calls P f #[.slice (some ⟨blk,off,none⟩) xs.length cap] W fun e W'=>e= .returned (r blk off cap)∧∃n os,W'=grow (putRow (Value.int .i64) (Go.Sort.ahead W n) blk off ys.toArray) os):
 AC P G f [.sl id 1 0 xs.length] h fun x h'=>x= .ret rv∧h'=h.set id (dM ys):=by
 refine⟨hf,fun W S φ vs hH hA=>?_⟩
 obtain⟨c,t,fr,a1,a2,a3,a4,a5⟩:=hH.obj id 1 _ hid
 rw[uO] at a5
 rw[List.length_map,Nat.mul_one] at a4
 have hidl:=hH.lt hid
 have hs1:vs.size=1:=hA.1
 obtain⟨v0,rfl⟩:∃v0,vs=#[v0]:=⟨vs[0],by
  apply Array.ext
  ·simp[hs1]
  ·intro i h1 h2
   have:i=0:=by omega
   subst this;rfl⟩
 have hv:=hA.2 0 _ v0 rfl rfl
 cases hv with
 |sl _ _ _ _ cap ba _ hl hb hc=>
  rw[Nat.zero_mul,Nat.add_zero] at hb
  have hxl:0<xs.length:=List.length_pos_iff.2 hx
  rw[hb (by omega)]
  have hcell:∀j,j<xs.length→c[(φ id).2+j]?=some (.int .i64 xs[j]!):=fun j hj=>by
   obtain⟨_,v,b2,b3⟩:=a5 j (.p (.int .i64 xs[j])) (by simp[hj])
   cases b3 with
   |p _ _ hp=>
    cases hp
    rw[b2];simp[hj]
  refine(H (φ id).1 (φ id).2 cap W (fun j hj=>?_) (hH.bnd id hidl) hl).mono ?_
  ·have hj':j<xs.length:=by simpa using hj
   refine⟨?_,?_⟩
   ·simp only[World.cell?,a1]
    have:=hcell j hj'
    simpa using this
   ·have:=a2 ((φ id).2+j) (by omega)
    simp only[World.frozen?,a1]
    simpa using this
  ·rintro e W' ⟨rfl,n,os,rfl⟩
   have B:=Bw (Value.int .i64) (n:=n) (off:=(φ id).2) (d:=ys.toArray) a1
   have hU:=hH.update (es':=ys.map fun x=>[.p (.int .i64 x)]) hid a1 (by simp[putCells]) B (by simpa[putCells] using a2) (by simp) (by simp[putCells,hy];exact a4) (fun j a hj=>by
    rw[uO] at hj
    have hjl:j<ys.length:=by
     have:=(List.getElem?_eq_some_iff.1 hj).1
     simpa using this
    have ha:a= .p (.int .i64 ys[j]):=by
     rw[List.getElem?_map,List.getElem?_eq_getElem hjl] at hj
     cases hj;rfl
    subst ha
    refine⟨rfl,.int .i64 ys[j],?_,.p _ _ (.int _ _)⟩
    have hb:(φ id).2+j<c.size:=by omega
    simp[putCells,hb,hjl])
   have hG:=hU.1.grown os
   refine⟨.ret rv,S,φ,h.set id (dM ys),⟨rfl,rfl⟩,hG.1,.ret _ _ (hr _ _ _ _ _ (by simpa using hidl) hl fun c' t' fr' e'=>?_),hU.2.trans hG.2⟩
   have hlt:(φ id).1<(putRow (Value.int .i64) (Go.Sort.ahead W n) (φ id).1 (φ id).2 ys.toArray).heap.size:=by rw[B.size];exact hH.bnd id hidl
   have e2:(grow (putRow (Value.int .i64) (Go.Sort.ahead W n) (φ id).1 (φ id).2 ys.toArray) os).heap[(φ id).1]?=(putRow (Value.int .i64) (Go.Sort.ahead W n) (φ id).1 (φ id).2 ys.toArray).heap[(φ id).1]?:=by
    exact Array.getElem?_append_left hlt
   rw[e2,B.at_b] at e'
   cases e'
   have:=hc _ _ _ a1
   simp[putCells]
   omega
end Go.Aw
namespace Go.Proofs.YtnjbhgpbgmpkcaaGreatDoor
open Go Go.Aw
variable (G:ay)
theorem Dg{h:List AO}{id:Nat}{xs:List Int}(hid:h[id]?=some (dM xs))(hx:xs≠[])(hb:xs.length<4611686018427387904):
 AC Tryz.prog G (lays189_ren.f 189) [.sl id 1 0 xs.length] h fun x h'=>x= .ret (.tup [])∧h'=h.set id (dM (xs.mergeSort fun x y=>decide (x≤y))):=
 AC.shelfInts (r:=fun _ _ _=> .tuple #[]) (by kernel_rfl) hid hx (by simp) (fun _ _ _ _ _ _ _ _=> .tup [] #[] rfl (fun j c v e=>by simp at e))
  fun blk off cap W hH hbk _=>Any.slices_Sort_int zL blk off cap xs W hH hbk hb
theorem An{h:List AO}{id:Nat}{xs:List Int}(hid:h[id]?=some (dM xs))(hx:xs≠[])(hb:xs.length≤9223372036854775807)(hl:(Lib.compact xs).length≤xs.length):
 AC Tryz.prog G (lays20_ren.f 20) [.sl id 1 0 xs.length] h fun x h'=>x= .ret (.sl id 1 0 (Lib.compact xs).length)∧h'=h.set id (dM (Lib.compact xs++List.replicate (xs.length-(Lib.compact xs).length) 0)):=by
 refine AC.shelfInts (r:=fun blk off cap=> .slice (some ⟨blk,off,none⟩) (Lib.compact xs).length cap) (by kernel_rfl) hid hx (by simp;omega) (fun W S φ n cap hi hc hs=>?_) fun blk off cap W hH hbk hcap=>?_
 ·exact .sl id 1 0 _ cap _ hi (by omega) (fun _=>by simp) (fun c t fr e=>by have:=hs c t fr e;omega)
 ·refine(Any.slices_Compact_int CL blk off cap xs W hH hb hcap).mono ?_
  rintro e W' ⟨rfl,q,rfl⟩
  exact⟨rfl,q,#[],by simp⟩
end Go.Proofs.YtnjbhgpbgmpkcaaGreatDoor
namespace Go.Proofs.YtnjbhgpbgmpkcaaGreatDoor
open Go Go.Aw
set_option maxRecDepth 100000
abbrev fG:FuncId:=125
abbrev di:FuncId:=158
abbrev dS:FuncId:=124
abbrev ff:FuncId:=77
abbrev jm:FuncId:=122
abbrev lE:FuncId:=123
abbrev aG:FuncId:=121
abbrev dh:FuncId:=119
abbrev dk:FuncId:=75
abbrev dx:FuncId:=29
abbrev gF:FuncId:=30
def pf:FK:=⟨18,[.t 4],
 .seq (.reg [oJ 4 (.mov (.c (.p (.bool false))))])
 (.seq (.seq (.reg [oK 5 0])
 (.blk 0 (.loop (.seq (.seq (.reg [oM 6 5,
   oM 7 0,
   oJ 8 (.len false (.t 7)),
   oJ 9 (.bin .lss (.t 6) (.t 8))])
 (.cond (.t 9)
  (.skip)
  (.exit 0)))
 (.seq (.blk 1 (.seq (.reg [oM 12 0,
   oM 13 5,
   oJ 14 (.idxS 1 (.t 12) (.t 13)),
   oL 15 14,
   oM 16 1,
   oJ 17 (.bins .eql (.t 15) (.t 16))])
 (.cond (.t 17)
  (.seq (.reg [oJ 4 (.mov (.c (.p (.bool true))))])
  (.ret))
  (.skip))))
 (.reg [oM 10 5,
   oJ 11 (.bin .add (.t 10) (.c (.p (.int .i64 1)))),
   oM 5 11]))))))
 (.seq (.reg [oJ 4 (.mov (.c (.p (.bool false))))])
 (.ret)))⟩
theorem vJ:am Tryz.prog fG=some pf:=by kernel_rfl
def F_spec_l2Names:FK:=⟨40,[.t 6],
 .seq (.reg [oJ 3 (.box 4 (.t 0)),
  oJ 6 (.mov (.c .nils))])
 (.seq (.seq (.reg [oF 8 0 3,
   oL 9 8,
   oM 10 1,
   oJ 11 (.bin .eql (.t 9) (.t 10)),
   oM 12 11,
   ⟨(some 13),some (12,true),.mov (.t 2)⟩,
   ⟨(some 14),some (12,true),.fldA 2 (.t 3)⟩,
   ⟨(some 15),some (12,true),.ld none (.t 14)⟩,
   ⟨(some 16),some (12,true),.call fG [(.t 13),(.t 15)]⟩,
   ⟨(some 17),some (12,true),.not (.t 16)⟩,
   oJ 18 (.pick (.t 12) (.t 17) (.c (.p (.bool false))))])
 (.cond (.t 18)
  (.reg [oM 19 2,
    oF 20 2 3,
    oL 21 20,
    oJ 22 (.bsl 1 [(.p (.str []))] 1 [(0,1,(.t 21))]),
    oJ 23 (.app 1 16 (.t 19) (.t 22)),
    oM 2 23])
  (.skip)))
 (.seq (.seq (.reg [oK 7 0])
 (.blk 0 (.loop (.seq (.seq (.reg [oM 24 7,
   oF 25 3 3,
   oL 26 25,
   oJ 27 (.len false (.t 26)),
   oJ 28 (.bin .lss (.t 24) (.t 27))])
 (.cond (.t 28)
  (.skip)
  (.exit 0)))
 (.seq (.blk 1 (.reg [oF 31 3 3,
   oL 32 31,
   oM 33 7,
   oJ 34 (.idxS 4 (.t 32) (.t 33)),
   oJ 35 (.ld (some 4) (.t 34)),
   oM 36 1,
   oM 37 2,
   oJ 38 (.call di [(.t 35),(.t 36),(.t 37)]),
   oM 2 38]))
 (.reg [oM 29 7,
   oJ 30 (.bin .add (.t 29) (.c (.p (.int .i64 1)))),
   oM 7 30]))))))
 (.seq (.reg [oM 39 2,
   oM 6 39])
 (.ret))))⟩
theorem sA:am Tryz.prog di=some F_spec_l2Names:=by kernel_rfl
def lw:FK:=⟨47,[.t 4],
 .seq (.reg [oJ 4 (.mov (.c .nils))])
 (.seq (.seq (.reg [oK 5 0])
 (.blk 0 (.loop (.seq (.seq (.reg [oM 7 5,
   oM 8 0,
   oJ 9 (.len false (.t 8)),
   oJ 10 (.bin .lss (.t 7) (.t 9))])
 (.cond (.t 10)
  (.skip)
  (.exit 0)))
 (.seq (.blk 1 (.seq (.seq (.reg [oK 6 0])
 (.blk 2 (.loop (.seq (.seq (.reg [oM 13 6,
   oM 14 0,
   oM 15 5,
   oJ 16 (.idxS 5 (.t 14) (.t 15)),
   oF 17 2 16,
   oL 18 17,
   oJ 19 (.len false (.t 18)),
   oJ 20 (.bin .lss (.t 13) (.t 19))])
 (.cond (.t 20)
  (.skip)
  (.exit 2)))
 (.seq (.blk 3 (.reg [oM 23 0,
   oM 24 5,
   oJ 25 (.idxS 5 (.t 23) (.t 24)),
   oF 26 2 25,
   oL 27 26,
   oM 28 6,
   oJ 29 (.idxS 4 (.t 27) (.t 28)),
   oJ 30 (.ld (some 4) (.t 29)),
   oM 31 1,
   oJ 32 (.call di [(.t 30),(.c (.p (.int .i64 13))),(.t 31)]),
   oM 1 32]))
 (.reg [oM 21 6,
   oJ 22 (.bin .add (.t 21) (.c (.p (.int .i64 1)))),
   oM 6 22]))))))
 (.reg [oM 33 0,
   oM 34 5,
   oJ 35 (.idxS 5 (.t 33) (.t 34)),
   oF 36 4 35,
   oM 38 0,
   oM 39 5,
   oJ 40 (.idxS 5 (.t 38) (.t 39)),
   oF 41 3 40,
   oM 43 1,
   oL 37 36,
   oL 42 41,
   oJ 44 (.call dS [(.t 42),(.t 43)]),
   ⟨none,none,.chk none 36 37⟩,
   oJ 45 (.call dS [(.t 37),(.t 44)]),
   oM 1 45])))
 (.reg [oM 11 5,
   oJ 12 (.bin .add (.t 11) (.c (.p (.int .i64 1)))),
   oM 5 12]))))))
 (.seq (.reg [oM 46 1,
   oM 4 46])
 (.ret)))⟩
theorem sN:am Tryz.prog dS=some lw:=by kernel_rfl
def kL:FK:=⟨35,[.t 4],
 .seq (.reg [oJ 2 (.box 1 (.t 0)),
  oJ 4 (.mov (.c .nils))])
 (.seq (.reg [oF 8 0 2,
   oL 9 8,
   oM 10 1,
   oJ 11 (.idxS 3 (.t 9) (.t 10)),
   oF 12 2 11,
   oL 13 12,
   oJ 14 (.bsl 1 [(.p (.str []))] 0 []),
   oJ 15 (.call dS [(.t 13),(.t 14)]),
   oM 5 15])
 (.seq (.reg [oJ 16 (.bsl 1 [(.p (.int .i64 0))] 0 []),
   oM 6 16])
 (.seq (.seq (.reg [oK 7 0])
 (.blk 0 (.loop (.seq (.seq (.reg [oM 17 7,
   oM 18 1,
   oJ 19 (.bin .lss (.t 17) (.t 18))])
 (.cond (.t 19)
  (.skip)
  (.exit 0)))
 (.seq (.blk 1 (.seq (.reg [oM 22 5,
   oF 23 0 2,
   oL 24 23,
   oM 25 7,
   oJ 26 (.idxS 3 (.t 24) (.t 25)),
   oF 27 0 26,
   oL 28 27,
   oJ 29 (.call fG [(.t 22),(.t 28)])])
 (.cond (.t 29)
  (.reg [oM 30 6,
    oM 31 7,
    oJ 32 (.bsl 1 [(.p (.int .i64 0))] 1 [(0,1,(.t 31))]),
    oJ 33 (.app 1 8 (.t 30) (.t 32)),
    oM 6 33])
  (.skip))))
 (.reg [oM 20 7,
   oJ 21 (.bin .add (.t 20) (.c (.p (.int .i64 1)))),
   oM 7 21]))))))
 (.seq (.reg [oM 34 6,
   oM 4 34])
 (.ret)))))⟩
theorem qN:am Tryz.prog ff=some kL:=by kernel_rfl
def dv:FK:=⟨14,[],
 .seq (.reg [oJ 3 (.box 4 (.t 0))])
 (.seq (.reg [oF 4 0 3,
   oL 5 4,
   oJ 6 (.bin .eql (.t 5) (.c (.p (.int .i64 13))))])
 (.cond (.t 6)
  (.reg [oF 9 2 3,
    oL 7 1,
    oJ 8 (.ld (some 1) (.t 2)),
    oL 10 9,
    oJ 11 (.call fw [(.t 8),(.t 10)]),
    ⟨none,none,.chk none 1 7⟩,
    oJ 12 (.bslP 1 [(.p (.int .i64 0))] 1 [(0,1,(.t 11))]),
    oJ 13 (.app 1 8 (.t 7) (.t 12)),
    oS 1 13])
  (.skip)))⟩
theorem nw:am Tryz.prog aG=some dv:=by kernel_rfl
def jV:FK:=⟨19,[],
 .seq (.reg [oJ 4 (.box 5 (.t 0))])
 (.seq (.reg [oF 8 2 4,
   oL 9 8,
   oJ 10 (.len false (.t 9)),
   oK 11 0])
 (.blk 0 (.loop (.seq (.reg [oJ 12 (.bin .lss (.t 11) (.t 10))])
 (.seq (.cond (.t 12)
  (.skip)
  (.exit 0))
 (.seq (.blk 1 (.seq (.reg [oJ 13 (.idxS 4 (.t 9) (.t 11)),
   oJ 14 (.ld (some 4) (.t 13)),
   oJ 7 (.alloc [(.p (.int .i64 0)),(.p (.int .i64 0)),(.p (.str [])),.nils]),
   ⟨none,none,.st 4 (.t 7) (.t 14)⟩])
 (.reg [oJ 15 (.ld (some 4) (.t 7)),
   oJ 16 (.mkf (.func aG) [(.t 2),(.t 3)]),
   oJ 17 (.call eq [(.t 15),(.t 16)])])))
 (.reg [oJ 18 (.bin .add (.t 11) (.c (.p (.int .i64 1)))),
   oM 11 18])))))))⟩
theorem pQ:am Tryz.prog dh=some jV:=by kernel_rfl
def lW:FK:=⟨18,[.t 4],
 .seq (.reg [oJ 2 (.box 1 (.t 0)),
  oJ 4 (.mov (.c .nils))])
 (.seq (.reg [oJ 5 (.alloc [.nils])])
 (.seq (.reg [oF 6 0 2,
   oL 7 6,
   oM 8 1,
   oJ 9 (.idxS 3 (.t 7) (.t 8)),
   oF 10 2 9,
   oL 11 10,
   oJ 12 (.mkf (.func dh) [(.t 5),(.t 2)]),
   oJ 13 (.call dr [(.t 11),(.c (.p (.int .i64 1))),(.t 12)])])
 (.seq (.reg [oL 14 5,
   oJ 15 (.call jm [(.t 14)])])
 (.seq (.reg [oL 16 5,
   oJ 17 (.call lE [(.t 16)]),
   oM 4 17])
 (.ret)))))⟩
theorem sx:am Tryz.prog dk=some lW:=by kernel_rfl
def kO:FK:=⟨20,[.t 4],
 .seq (.reg [oJ 2 (.box 1 (.t 0)),
  oJ 4 (.mov (.c .nils))])
 (.seq (.seq (.reg [oJ 5 (.ld (some 1) (.t 2)),
   oJ 6 (.call jn [(.t 5)]),
   oJ 7 (.not (.t 6)),
   oM 8 7,
   ⟨(some 9),some (8,false),.mov (.t 1)⟩,
   ⟨(some 10),some (8,false),.fldA 0 (.t 2)⟩,
   ⟨(some 11),some (8,false),.ld none (.t 10)⟩,
   ⟨(some 12),some (8,false),.len false (.t 11)⟩,
   ⟨(some 13),some (8,false),.bin .sub (.t 12) (.c (.p (.int .i64 1)))⟩,
   ⟨(some 14),some (8,false),.call cw [(.t 9),(.c (.p (.int .i64 0))),(.t 13)]⟩,
   ⟨(some 15),some (8,false),.not (.t 14)⟩,
   oJ 16 (.pick (.t 8) (.c (.p (.bool true))) (.t 15))])
 (.cond (.t 16)
  (.seq (.reg [oJ 4 (.mov (.c .nils))])
  (.ret))
  (.skip)))
 (.seq (.reg [oJ 17 (.ld (some 1) (.t 2)),
   oM 18 1,
   oJ 19 (.call dk [(.t 17),(.t 18)]),
   oM 4 19])
 (.ret)))⟩
theorem qG:am Tryz.prog dx=some kO:=by kernel_rfl
def no:FK:=⟨29,[.t 4],
 .seq (.reg [oJ 4 (.mov (.c (.p (.bool false))))])
 (.seq (.seq (.reg [oM 6 0,
   oJ 7 (.len false (.t 6)),
   oM 8 1,
   oJ 9 (.len false (.t 8)),
   oJ 10 (.mn (.t 7) (.t 9)),
   oK 11 0])
 (.blk 0 (.loop (.seq (.reg [oJ 12 (.bin .lss (.t 11) (.t 10))])
 (.seq (.cond (.t 12)
  (.skip)
  (.exit 0))
 (.seq (.blk 1 (.seq (.reg [oM 13 11,
   oM 5 13])
 (.seq (.reg [oM 14 0,
   oM 15 5,
   oJ 16 (.idxS 1 (.t 14) (.t 15)),
   oM 18 1,
   oM 19 5,
   oJ 20 (.idxS 1 (.t 18) (.t 19)),
   oL 17 16,
   oL 21 20,
   oJ 22 (.bin .neq (.t 17) (.t 21))])
 (.cond (.t 22)
  (.seq (.reg [oJ 4 (.mov (.c (.p (.bool false))))])
  (.ret))
  (.skip)))))
 (.reg [oJ 23 (.bin .add (.t 11) (.c (.p (.int .i64 1)))),
   oM 11 23])))))))
 (.seq (.reg [oM 24 0,
   oJ 25 (.len false (.t 24)),
   oM 26 1,
   oJ 27 (.len false (.t 26)),
   oJ 28 (.bin .eql (.t 25) (.t 27)),
   oM 4 28])
 (.ret)))⟩
theorem tQ:am Tryz.prog gF=some no:=by kernel_rfl
end Go.Proofs.YtnjbhgpbgmpkcaaGreatDoor
namespace Go.Proofs.YtnjbhgpbgmpkcaaGreatDoor
open Go Go.Aw
set_option maxRecDepth 100000
set_option maxHeartbeats 4000000
def AD(l:List Fd)(out:List Int)(id:Nat)(h:List AO):Prop:=
 h[0]?=some (.row 1 [[.p (fdL l)]])∧2≤h.length∧((out=[]∧id=0∧h[1]?=some (.row 1 [[.nils]]))∨(out≠[]∧2≤id∧h[1]?=some (.row 1 [[.sl id 1 0 out.length]])∧h[id]?=some (dM out)))
def cHV(F:FuncId)(l:List Fd):HV (List Int) where
 F:=F
 caps:=[.ptr 1 1 0 0,.ptr 0 1 0 0]
 n:=2
 Inv:=AD l
 capsOk:=by simp[below]
 len:=fun{out id h} H=>by
  obtain⟨_,h2,⟨_,rfl,_⟩|⟨_,_,_,h3⟩⟩:=H
  ·exact⟨h2,by omega⟩
  ·exact⟨h2,(List.getElem?_eq_some_iff.1 h3).1⟩
 frame:=fun{out id h h'} H K=>by
  obtain⟨h0,h2,H⟩:=H
  have k0:=K 0 (by omega) (.inl (by omega))
  have k1:=K 1 (by omega) (.inl (by omega))
  have hl:2≤h'.length:=by
   rcases H with⟨_,_,e⟩|⟨_,_,e,_⟩
   ·rw[e] at k1;have:=(List.getElem?_eq_some_iff.1 k1).1;omega
   ·rw[e] at k1;have:=(List.getElem?_eq_some_iff.1 k1).1;omega
  refine⟨by rw[k0];exact h0,hl,?_⟩
  rcases H with⟨a,b,e⟩|⟨a,b,e,f⟩
  ·exact .inl ⟨a,b,by rw[k1];exact e⟩
  ·exact .inr ⟨a,b,by rw[k1];exact e,by rw[K id (List.getElem?_eq_some_iff.1 f).1 (.inr rfl)];exact f⟩
def fg(l:List Fd)(out:List Int)(e:Ex):List Int:=if e.op=13 then out++[ixI (ca l e.name)] else out
def kF(out:List Int)(k:Nat):Prop:=out.length+k≤1099511627776
theorem nU(l:List Fd):∀out e k,kF out (k+1)→kF (fg l out e) k:=by
 intro out e k h
 unfold kF fg at*
 split
 ·simp;omega
 ·omega
variable (G:ay)
theorem tZ(l:List Fd)(hl:l.length≤1073741824):∀out (e:Ex) k id h,kF out (k+1)→e.sz≤1073741824→AD l out id h→AC Tryz.prog G aG (.agg (e.cs.map .p)::[.ptr 1 1 0 0,.ptr 0 1 0 0]) h fun x h'=>x= .ret (.tup [])∧(cHV aG l).Left id h (fg l out e) h':=by
 intro out e k id h hk hz hI
 have hcs:=e.cs_eq
 have hlen:=(cHV aG l).len hI
 obtain⟨h0,h2,H⟩:=hI
 refine AC.go nw ?_
 have hm:AD l out id h:=⟨h0,h2,H⟩
 by_cases ho:e.op=13
 case neg=>
  have hp:fg l out e=out:=if_neg ho
  rw[hp]
  simp-implicitDefEqProofs[dv,hcs,ho]
  exact⟨id,(cHV aG l).more hm _,by simp,fun i hi _ _=>List.getElem?_append_left hi,.inl rfl⟩
 have hp:fg l out e=out++[ixI (ca l e.name)]:=if_pos ho
 rw[hp]
 have hfa:=yx G l e.name hl
 generalize ixI (ca l e.name)=y at hfa⊢
 obtain⟨a,b,r,rfl⟩:∃a b r,h=a::b::r:=by
  match h,h2 with
  |a::b::r,_=>exact⟨a,b,r,rfl⟩
 obtain rfl:a= .row 1 [[.p (fdL l)]]:=by simpa using h0
 rcases H with⟨rfl,rfl,h1⟩|⟨hne,hid,h1,hr⟩
 ·obtain rfl:b= .row 1 [[.nils]]:=by simpa using h1
  simp-implicitDefEqProofs[dv,hcs,ho]
  refine hfa.use ?_
  simp-implicitDefEqProofs[]
  refine⟨r.length+3,⟨rfl,by simp,.inr ⟨by simp,by omega,rfl,?_⟩⟩,by simp,fun i hi h2 _=>?_,.inr (by simp)⟩
  ·simp[dM]
  ·match i,h2 with
   |i+2,_=>
    simp at hi
    simp[List.getElem?_append_left hi]
 ·obtain rfl:b= .row 1 [[.sl id 1 0 out.length]]:=by simpa using h1
  obtain⟨j,rfl⟩:∃j,id=j+2:=⟨id-2,by omega⟩
  have hr':r[j]?=some (.row 1 (out.map fun x=>[.p (.int .i64 x)])):=by simpa[dM] using hr
  have hjl:=(List.getElem?_eq_some_iff.1 hr').1
  have gr:∀t,(r++t)[j]?=some (.row 1 (out.map fun x=>[.p (.int .i64 x)])):=fun t=>by rw[List.getElem?_append_left hjl];exact hr'
  simp-implicitDefEqProofs[dv,hcs,ho,gr]
  refine hfa.use ?_
  simp-implicitDefEqProofs[gr]
  unfold kF at hk
  refine⟨⟨by omega,by omega⟩,r.length+3,⟨rfl,by simp,.inr ⟨by simp,by omega,by simp,?_⟩⟩,by simp,fun i hi h2 h3=>?_,.inr (by simp)⟩
  ·have ht:List.take out.length (out.map fun x=>[AV.p (.int .i64 x)])=out.map fun x=>[AV.p (.int .i64 x)]:=List.take_of_length_le (by simp)
   rw[ht]
   simp[dM]
  ·match i,h2,h3 with
   |i+2,_,h3=>
    simp at hi h3
    have hne2:j≠i:=fun e=>h3 e.symm
    simp only[List.getElem?_cons_succ]
    rw[List.getElem?_append_left (by simp;omega),List.getElem?_set_ne hne2,List.getElem?_append_left hi]
end Go.Proofs.YtnjbhgpbgmpkcaaGreatDoor
namespace Go.Proofs.YtnjbhgpbgmpkcaaGreatDoor
open Go Go.Aw
set_option maxRecDepth 100000
theorem uw{vs:List LV}{s:List UInt8}{c:Int}(h:c≠0):ov vs s c=c:=by unfold ov;split<;>simp[rZ h]
theorem ya{fns:List Fd}{k:Nat}{s:List UInt8}{n:Nat}{c:Int}(h:c≠0):kK fns k s n c=c:=by
 unfold kK
 simp only[rZ h]
 split
 ·rfl
 ·split
  ·rfl
  ·split<;>rfl
theorem yM{fns:List Fd}{k:Nat}{vs:List LV}{o:Int}{s:List UInt8}{n:Nat}{c:Int}(h:c≠0):kb fns k vs o s n c=c:=by
 unfold kb
 rw[uw h,ya h]
 split
 ·rfl
 ·split<;>rfl
mutual
theorem BB(fns:List Fd)(k:Nat)(vs:List LV){c:Int}(h:c≠0):∀e:Ex,qO fns k vs e c=c
 | .mk o n s ks=>by rw[qO,yM h,kB fns k vs h ks]
theorem kB(fns:List Fd)(k:Nat)(vs:List LV){c:Int}(h:c≠0):∀l:List Ex,ce fns k vs l c=c
 |[]=>rfl
 |e::r=>by rw[ce,BB fns k vs h e,kB fns k vs h r]
end
theorem sr{fns:List Fd}{k:Nat}{vs:List LV}{l:List Ex}{c:Int}(h:ce fns k vs l c=0):c=0:=by
 by_cases hc:c=0
 ·exact hc
 ·rw[kB fns k vs hc] at h;exact h
theorem xk{o:Int}{s:List UInt8}{b:Nat}{w:WS}(h:w.code≠0):(opW o s b w).code=w.code:=by
 unfold opW
 split
 ·simp only[iY,pH,rZ h]
  split
  ·rfl
  ·split<;>rfl
 ·split
  ·exact uw h
  ·rfl
mutual
theorem DO(fns:List Fd)(k:Nat):∀(s:Sm) (b:Nat) (w:WS),w.code≠0→(stW fns k b s w).code=w.code
 | .mk o s a bd el,b,w,h=>by
   have e1:(ce fns k w.vs a w.code)=w.code:=kB fns k w.vs h a
   have e2:(opW o s b ⟨w.vs,w.count,ce fns k w.vs a w.code⟩).code=w.code:=by rw[xk]<;>simp only[e1];exact h
   have e3:=mf fns k bd (b+1) (opW o s b ⟨w.vs,w.count,ce fns k w.vs a w.code⟩) (by rw[e2];exact h)
   rw[stW,gv,mf fns k el _ _ (by rw[gv,e3,e2];exact h),gv,e3,e2]
theorem mf(fns:List Fd)(k:Nat):∀(l:List Sm) (b:Nat) (w:WS),w.code≠0→(cd fns k b l w).code=w.code
 |[],b,w,h=>rfl
 |s::r,b,w,h=>by
  have e1:=DO fns k s b w h
  rw[cd,mf fns k r b _ (by rw[e1];exact h),e1]
end
theorem ml{fns:List Fd}{k b:Nat}{l:List Sm}{w:WS}(h:(cd fns k b l w).code=0):w.code=0:=by
 by_cases hc:w.code=0
 ·exact hc
 ·rw[mf fns k l b w hc] at h;exact h
theorem Df{o:Int}{s:List UInt8}{b:Nat}{w:WS}(h:(opW o s b w).code=0):w.code=0:=by
 by_cases hc:w.code=0
 ·exact hc
 ·rw[xk hc] at h;exact h
end Go.Proofs.YtnjbhgpbgmpkcaaGreatDoor
namespace Go.Proofs.YtnjbhgpbgmpkcaaGreatDoor
open Go Go.Aw
set_option maxRecDepth 100000
theorem qA(fns:List Fd):∀(l:List Fd) (k:Nat),gx fns k l=0↔∀(i:Nat) (f:Fd),l[i]?=some f→(fnW fns (k+i) f).code=0
 |[],k=>by simp[gx]
 |f::r,k=>by
  rw[gx]
  have ih:=qA fns r (k+1)
  constructor
  ·intro h i g hg
   by_cases h0:(fnW fns k f).code=0
   ·rw[if_pos h0] at h
    cases i with
    |zero=>cases hg;exact h0
    |succ i=>have:=ih.1 h i g (by simpa using hg);rwa[show k+(i+1)=k+1+i by omega]
   ·rw[if_neg h0] at h;exact absurd h h0
  ·intro h
   rw[if_pos (by have:=h 0 f rfl;rwa[Nat.add_zero] at this)]
   exact ih.2 fun i g hg=>by have:=h (i+1) g (by simpa using hg);rwa[show k+(i+1)=k+1+i by omega] at this
theorem re(l:List Fd):bF l=0↔bt l=true∧∀(k:Nat) (f:Fd),l[k]?=some f→(fnW l k f).code=0:=by
 unfold bF
 by_cases h:bt l=true
 ·rw[if_pos h,qA];simp[h]
 ·rw[if_neg h];simp[h]
theorem gl(l:List Fd):bt l=true↔(1≤l.length∧l.length≤4)∧(∀f∈l,iW f=true)∧jQ l≤40:=by
 simp only[bt,inR,Bool.and_eq_true,decide_eq_true_eq,List.all_eq_true]
 constructor
 ·rintro⟨⟨⟨h1,h2⟩,h3⟩,h4⟩;exact⟨⟨by omega,by omega⟩,h3,h4⟩
 ·rintro⟨⟨h1,h2⟩,h3,h4⟩;exact⟨⟨⟨by omega,by omega⟩,h3⟩,h4⟩
def Fd.cut(f:Fd)(n:Nat):Fd:=⟨f.name,f.params,f.body.take n⟩
end Go.Proofs.YtnjbhgpbgmpkcaaGreatDoor
namespace Go.Proofs.YtnjbhgpbgmpkcaaGreatDoor
open Go Go.Aw
set_option maxRecDepth 100000
set_option maxHeartbeats 4000000
def K_spec_l4Walk_expr:AK:= .seq (.reg [oJ 3 (.box 4 (.t 1)),oJ 4 (.alloc [(.p (.int .i64 0)),(.p (.int .i64 0)),(.p (.str [])),.nils])]) (.cut (.seq (.reg [oF 8 0 3,oL 9 8,oJ 10 (.bin .eql (.t 9) (.c (.p (.int .i64 2))))]) (.cond (.t 10) (.reg [oM 11 0,oF 12 2 3,oL 13 12,oJ 14 (.call bW [(.t 11),(.t 13)]),oF 15 2 3,oS 15 14]) (.skip))) (.cut (.seq (.reg [oF 16 0 3,oL 17 16,oJ 18 (.bin .eql (.t 17) (.c (.p (.int .i64 13))))]) (.cond (.t 18) (.seq (.reg [oM 19 0,oN 20 19,oF 21 0 20,oF 23 2 3,oJ 22 (.ld (some 1) (.t 21)),oL 24 23,oJ 25 (.call fy [(.t 22),(.t 24)]),oM 5 25]) (.seq (.reg [oM 26 5,oJ 27 (.bin .lss (.t 26) (.c (.p (.int .i64 0)))),oM 28 27,⟨(some 29),some (28,false),.mov (.t 5)⟩,⟨(some 30),some (28,false),.mov (.t 0)⟩,⟨(some 31),some (28,false),.nilck (.t 30)⟩,⟨(some 32),some (28,false),.fldA 1 (.t 31)⟩,⟨(some 33),some (28,false),.ld none (.t 32)⟩,⟨(some 34),some (28,false),.bin .geq (.t 29) (.t 33)⟩,oJ 35 (.pick (.t 28) (.c (.p (.bool true))) (.t 34))]) (.cond (.t 35) (.reg [oM 36 0,oJ 37 (.call aL [(.t 36),(.c (.p (.int .i64 4)))])]) (.seq (.reg [oM 38 0,oN 39 38,oF 40 0 39,oF 41 0 40,oM 43 5,oF 48 3 3,oL 42 41,oJ 44 (.idxS 3 (.t 42) (.t 43)),oF 45 1 44,oL 46 45,oJ 47 (.len false (.t 46)),oL 49 48,oJ 50 (.len false (.t 49)),oJ 51 (.bin .neq (.t 47) (.t 50))]) (.cond (.t 51) (.reg [oM 52 0,oJ 53 (.call aL [(.t 52),(.c (.p (.int .i64 5)))])]) (.skip)))))) (.skip))) (.seq (.reg [oJ 54 (.bsl 4 [(.p (.int .i64 0)),(.p (.int .i64 0)),(.p (.str [])),.nils] 0 []),oM 6 54]) (.seq (.seq (.reg [oK 7 0]) (.blk 0 (.loop (.seq (.seq (.reg [oM 55 7,oF 56 3 3,oL 57 56,oJ 58 (.len false (.t 57)),oJ 59 (.bin .lss (.t 55) (.t 58))]) (.cond (.t 59) (.skip) (.exit 0))) (.seq (.blk 1 (.reg [oM 62 6,oM 63 0,oF 64 3 3,oL 65 64,oM 66 7,oJ 67 (.idxS 4 (.t 65) (.t 66)),oJ 68 (.ld (some 4) (.t 67)),oJ 69 (.call bw [(.t 63),(.t 68)]),oJ 70 (.bsl 4 [(.p (.int .i64 0)),(.p (.int .i64 0)),(.p (.str [])),.nils] 1 [(0,4,(.t 69))]),oJ 71 (.app 4 56 (.t 62) (.t 70)),oM 6 71])) (.reg [oM 60 7,oJ 61 (.bin .add (.t 60) (.c (.p (.int .i64 1)))),oM 7 61])))))) (.seq (.reg [oM 72 6,oF 73 3 3,oS 73 72]) (.seq (.reg [oJ 74 (.ld (some 4) (.t 3)),⟨none,none,.st 4 (.t 4) (.t 74)⟩]) (.ret)))))))
theorem nL:K_spec_l4Walk_expr.whole=F_spec_l4Walk_expr.ak:=rfl
variable (G:ay)
theorem wS{f:FuncId}{args:List AV}{nf:Bool}{fns:List Fd}{k:Nat}{w w':WS}{v:AV}(H:AC Tryz.prog G f args (HWk nf fns k w) fun x h=>x= .ret v∧h=HWk nf fns k w')(rest:List AO)(ha:ah 2 args):
 AC Tryz.prog G f args (wO 1 nf fns k w::roC nf w.vs::rest) fun x h=>x= .ret v∧h=wO 1 nf fns k w'::roC nf w'.vs::rest:=by
 refine(AC.pre H rest ha (tl _ _ _ _) ?_).mono ?_
 ·rintro x h ⟨_,rfl⟩;rfl
 ·rintro x h ⟨h1,⟨rfl,rfl⟩,rfl⟩
  exact⟨rfl,rfl⟩
theorem oQ{n id:Nat}(hn:id<n){nf nf':Bool}{fns:List Fd}{k:Nat}{w:WS}{vs:List LV}{l:List AO}(r:∀o∈l,okO n o):∀o∈wO id nf fns k w::roC nf' vs::l,okO n o:=ae (qF hn) (ae (fp _ _ _) r)
theorem sw{ρ π:List Nat}{h r1:List AO}{i id:Nat}{nf:Bool}{fns:List Fd}{k:Nat}{w:WS}(hid:id<ρ.length)(e:h[i]?=some (wO (ρ.getD id 0) nf fns k w))(hr:HW ρ h π r1):HW ρ h (i::π) (wO id nf fns k w::r1):=by
 refine cR (es:=[wC id nf fns k w]) (fun x hx=>?_) ?_ hr
 ·rw[List.mem_singleton.1 hx];exact sa hid
 ·rw[e,List.map_cons,List.map_nil,vh];rfl
theorem Ah{α:Type}{l:List α}{i j:Nat}{a b:α}(hij:i≠j)(h:l[j]?=some b):(l.set i a).set j b=l.set i a:=by
 apply List.ext_getElem?
 intro n
 rw[List.getElem?_set]
 split
 ·rename_i e
  subst e
  rw[List.getElem?_set_ne hij,h]
  rw[if_pos (by rw[List.length_set];exact(List.getElem?_eq_some_iff.1 h).1)]
 ·rfl
theorem vR(ρ:List Nat):∀l:List AV,ah 0 l→TW ρ l l
 |[],_=>by simp
 |v::r,h=>by
  rw[pq]
  refine⟨.inr ⟨(aN (Nat.zero_le _) [v] ⟨h.1,trivial⟩).1,?_⟩,vR ρ r h.2⟩
  have:=dg ρ [v] ⟨h.1,trivial⟩
  simpa[bf] using this
theorem IQ{h:List AO}{wid id:Nat}{nf:Bool}{fns:List Fd}{k:Nat}{w:WS}(e0:h[wid]?=some (wO id nf fns k w))(e1:h[id]?=some (roC nf w.vs)):HW [wid,id] h [wid,id] (HWk nf fns k w):=by
 refine cR (es:=[wC 1 nf fns k w]) (fun x hx=>?_) ?_ ?_
 ·rw[List.mem_singleton.1 hx];exact sa (by simp)
 ·rw[e0,List.map_cons,List.map_nil,vh];rfl
 ·exact bx e1 (fp _ _ _) bm
theorem GP{f:FuncId}{args:List AV}{nf:Bool}{fns:List Fd}{k:Nat}{w:WS}{v:AV}{c:Int}(H:AC Tryz.prog G f (.ptr 0 5 0 0::args) (HWk nf fns k w) fun x h=>x= .ret v∧h=HWk nf fns k ⟨w.vs,w.count,c⟩)(ha:ah 0 args)(hv:below 0 v)
 {h:List AO}{wid id:Nat}(hid:wid≠id)(e0:h[wid]?=some (wO id nf fns k w))(e1:h[id]?=some (roC nf w.vs)):
 AC Tryz.prog G f (.ptr wid 5 0 0::args) h fun x h'=>x= .ret v∧h'=h.set wid (wO id nf fns k ⟨w.vs,w.count,c⟩):=by
 refine(H.frame [wid,id] (by simp[hid]) ?_ (IQ e0 e1)).mono ?_
 ·rw[pq];exact⟨.inr ⟨by simp[below],rfl⟩,vR _ _ ha⟩
 ·rintro x h' ⟨x0,h0,⟨rfl,rfl⟩,_,rfl,rfl⟩
  refine⟨?_,?_⟩
  ·have:=dg ([wid,id]++List.range' h.length ((HWk nf fns k ⟨w.vs,w.count,c⟩).length-(HWk nf fns k w).length)) [v] ⟨hv,trivial⟩
   simp only[bf] at this
   simp only[ri]
   exact congrArg ARes.ret (List.cons.inj this).1
  ·simp only[HWk,List.length_cons,List.length_nil,Nat.sub_self,List.range'_zero,List.append_nil,List.take_succ_cons,List.take_zero,List.map_cons,List.map_nil,List.drop_succ_cons,List.drop_zero,zq,wB,mrg]
   exact Ah hid e1
theorem Dq{f:FuncId}{args:List AV}{nf:Bool}{fns:List Fd}{k:Nat}{w:WS}{v:AV}{Q:Bool→WS→Prop}(H:AC Tryz.prog G f (.ptr 0 5 0 0::args) (HWk nf fns k w) fun x h=>∃nf' w',x= .ret v∧h=[wO 2 nf' fns k w',.dead,roC nf' w'.vs]∧Q nf' w')(ha:ah 0 args)(hv:below 0 v)
 {h:List AO}{wid id:Nat}(hid:wid≠id)(e0:h[wid]?=some (wO id nf fns k w))(e1:h[id]?=some (roC nf w.vs)):
 AC Tryz.prog G f (.ptr wid 5 0 0::args) h fun x h'=>∃nf' w',x= .ret v∧h'=(h.set wid (wO h.length nf' fns k w')).set id .dead++[roC nf' w'.vs]∧Q nf' w':=by
 refine(H.frame [wid,id] (by simp[hid]) ?_ (IQ e0 e1)).mono ?_
 ·rw[pq];exact⟨.inr ⟨by simp[below],rfl⟩,vR _ _ ha⟩
 ·rintro x h' ⟨x0,h0,⟨nf',w',rfl,rfl,q⟩,_,rfl,rfl⟩
  refine⟨nf',w',?_,?_,q⟩
  ·have:=dg ([wid,id]++List.range' h.length ([wO 2 nf' fns k w',.dead,roC nf' w'.vs].length-(HWk nf fns k w).length)) [v] ⟨hv,trivial⟩
   simp only[bf] at this
   simp only[ri]
   exact congrArg ARes.ret (List.cons.inj this).1
  ·simp only[HWk,List.length_cons,List.length_nil,List.take_succ_cons,List.take_zero,List.map_cons,List.map_nil,List.drop_succ_cons,List.drop_zero,zq,wB,mrg]
   rfl
theorem uo(fns:List Fd)(k:Nat)(vs:List LV):∀(a b:List Ex) (c:Int),ce fns k vs (a++b) c=ce fns k vs b (ce fns k vs a c)
 |[],b,c=>rfl
 |e::r,b,c=>by rw[List.cons_append,ce,ce,uo fns k vs r]
theorem pw(vs:List LV):∀l:List Ex,iU vs l=l.map (rnE vs)
 |[]=>rfl
 |e::r=>by rw[iU,pw vs r];rfl
theorem rg{fns:List Fd}{k:Nat}{vs:List LV}{l:List Ex}{c:Int}{i:Nat}(h:i<l.length):ce fns k vs (l.take (i+1)) c=qO fns k vs l[i] (ce fns k vs (l.take i) c):=by
 rw[al h,uo];rfl
theorem uG{vs:List LV}{l:List Ex}{i:Nat}(h:i<l.length):iU vs (l.take (i+1))=iU vs (l.take i)++[rnE vs l[i]]:=by
 rw[pw,pw,al h,List.map_append];rfl
theorem og(vs:List LV)(l:List Ex):(iU vs l).length=l.length:=by rw[pw,List.length_map]
theorem zt(l:List Ex):(exR l).length=l.length:=by simp[exR]
theorem zF(a b:List Ex):exR (a++b)=exR a++exR b:=by simp[exR]
theorem wt{h:List AO}{id:Nat}{l:List Ex}(e:h[id]?=some (.row 4 (exR l))):View h (.sl id 4 0 l.length) (exL l):=by
 have:=fO (h:=h) (id:=id) (sz:=4) (n:=l.length) (ls:=l.map Ex.cs) (by rw[e,exR];simp) (by simp) (fun x hx=>by obtain⟨b,_,rfl⟩:=List.mem_map.1 hx;exact b.cs_len)
 exact this
theorem Fh{fns:List Fd}{s:List UInt8}{j:Nat}(h:ca fns s=some j):j<fns.length:=by
 rw[ca,List.findIdx?_eq_some_iff_getElem] at h;exact h.1
theorem ET{fns:List Fd}{k:Nat}(hf:fns.length≤1099511627776):∀(N:Nat) (e:Ex),e.sz≤N→N≤1099511627776→∀(nf:Bool) (w:WS),(nf=true→w.vs=[])→w.vs.length≤1099511627776→
 AC Tryz.prog G bw [.ptr 0 5 0 0,.agg (e.cs.map .p)] (HWk nf fns k w) fun x h=>x= .ret (.agg ((rnE w.vs e).cs.map .p))∧h=HWk nf fns k ⟨w.vs,w.count,qO fns k w.vs e w.code⟩:=by
 intro N
 induction N with
 |zero=>intro e he;have:=e.sz_eq;omega
 |succ N ih=>
  intro e he hN nf w hn hl
  have hec:=e.cs_eq
  have hsz:=e.sz_eq
  have hkl:=bL e.kids
  have hre:(rnE w.vs e).cs=[.int .i64 e.op,.int .i64 e.n,.str (if e.op=2 then tc w.vs e.name else e.name),exL (iU w.vs e.kids)]:=by
   obtain⟨o,n,s,ks⟩:=e;rw[rnE,Ex.cs_eq];rfl
  have hce:qO fns k w.vs e w.code=ce fns k w.vs e.kids (kb fns k w.vs e.op e.name e.kids.length w.code):=by
   obtain⟨o,n,s,ks⟩:=e;rfl
  have main:AC Tryz.prog G bw [.ptr 0 5 0 0,.agg (e.cs.map .p)] (HWk nf fns k w) fun x h=>∃E1 E2,x= .ret (.agg [.p (.int .i64 e.op),.p (.int .i64 e.n),.p (.str (if e.op=2 then tc w.vs e.name else e.name)),.sl 4 4 0 e.kids.length])∧
   h=[wO 1 nf fns k ⟨w.vs,w.count,qO fns k w.vs e w.code⟩,roC nf w.vs,E1,E2,.row 4 (exR (iU w.vs e.kids))]:=by
   refine AC.goK nO nL ?_
   simp-implicitDefEqProofs[K_spec_l4Walk_expr,F_spec_l4Walk_expr,HWk,hec]
   refine kD (aj 75 [(0,.ptr 0 5 0 0),(3,.ptr 2 4 0 0),(4,.ptr 3 4 0 0)]) [wO 1 nf fns k ⟨w.vs,w.count,if e.op=2 then ov w.vs e.name w.code else w.code⟩,roC nf w.vs,.row 4 [[.p (.int .i64 e.op),.p (.int .i64 e.n),.p (.str (if e.op=2 then tc w.vs e.name else e.name)),.p (exL e.kids)]],.row 4 [[.p (.int .i64 0),.p (.int .i64 0),.p (.str []),.nils]]] ?_ ?_
   ·by_cases o2:e.op=2
    ·simp-implicitDefEqProofs[o2]
     refine(wS G (DE G nf fns k w hn hl e.name) _ (by simp[below])).mono ?_
     rintro r h ⟨rfl,rfl⟩
     simp-implicitDefEqProofs[aa]
     exact ab (by simp) (oQ (by simp) (by simp[okO,below])) (by simp[below])
    ·simp-implicitDefEqProofs[o2]
     exact ab (by simp) (oQ (by simp) (by simp[okO,below])) (by simp[below])
   refine kD (aj 75 [(0,.ptr 0 5 0 0),(3,.ptr 2 4 0 0),(4,.ptr 3 4 0 0)]) [wO 1 nf fns k ⟨w.vs,w.count,kb fns k w.vs e.op e.name e.kids.length w.code⟩,roC nf w.vs,.row 4 [[.p (.int .i64 e.op),.p (.int .i64 e.n),.p (.str (if e.op=2 then tc w.vs e.name else e.name)),.p (exL e.kids)]],.row 4 [[.p (.int .i64 0),.p (.int .i64 0),.p (.str []),.nils]]] ?_ ?_
   ·by_cases o13:e.op=13
    ·have hhd:kb fns k w.vs e.op e.name e.kids.length w.code=kK fns k e.name e.kids.length w.code:=by simp[kb,o13]
     rw[hhd]
     simp-implicitDefEqProofs[o13,wO,wC]
     refine(BT G fns e.name hf).use ?_
     have fin:∀c:Int,Wk 2 (aj 75 [(0,.ptr 0 5 0 0),(3,.ptr 2 4 0 0),(4,.ptr 3 4 0 0)]) [wO 1 nf fns k ⟨w.vs,w.count,c⟩,roC nf w.vs,.row 4 [[.p (.int .i64 13),.p (.int .i64 e.n),.p (.str e.name),.p (exL e.kids)]],.row 4 [[.p (.int .i64 0),.p (.int .i64 0),.p (.str []),.nils]]] (aj 75 [(0,.ptr 0 5 0 0),(3,.ptr 2 4 0 0),(4,.ptr 3 4 0 0)]) [wO 1 nf fns k ⟨w.vs,w.count,c⟩,roC nf w.vs,.row 4 [[.p (.int .i64 13),.p (.int .i64 e.n),.p (.str e.name),.p (exL e.kids)]],.row 4 [[.p (.int .i64 0),.p (.int .i64 0),.p (.str []),.nils]]]:=fun c=>
      ab (by simp) (oQ (by simp) (by simp[okO,below])) (by simp[below])
     cases hfa:ca fns e.name with
     |none=>
      simp-implicitDefEqProofs[ixI,kK,hfa]
      refine(wS G (mu G nf fns k w 4) _ (by simp[below])).mono ?_
      rintro r h ⟨rfl,rfl⟩
      simp-implicitDefEqProofs[aa]
      exact ab (h:=[wO 1 nf fns k ⟨w.vs,w.count,fl w.code 4⟩,roC nf w.vs,.row 4 [[.p (.int .i64 13),.p (.int .i64 e.n),.p (.str e.name),.p (exL e.kids)]],.row 4 [[.p (.int .i64 0),.p (.int .i64 0),.p (.str []),.nils]]]) (by simp) (oQ (by simp) (by simp[okO,below])) (by simp[below])
     |some j=>
      have hj:=Fh hfa
      have hg:=List.getElem?_eq_getElem hj
      have hjn:¬(j:Int)<0:=by omega
      by_cases hkj:k≤j
      ·have hkj':(k:Int)≤(j:Int):=by omega
       simp-implicitDefEqProofs[ixI,kK,hfa,hkj,hkj',hjn]
       refine(wS G (mu G nf fns k w 4) _ (by simp[below])).mono ?_
       rintro r h ⟨rfl,rfl⟩
       simp-implicitDefEqProofs[aa]
       exact ab (h:=[wO 1 nf fns k ⟨w.vs,w.count,fl w.code 4⟩,roC nf w.vs,.row 4 [[.p (.int .i64 13),.p (.int .i64 e.n),.p (.str e.name),.p (exL e.kids)]],.row 4 [[.p (.int .i64 0),.p (.int .i64 0),.p (.str []),.nils]]]) (by simp) (oQ (by simp) (by simp[okO,below])) (by simp[below])
      ·have hkj':¬(k:Int)≤(j:Int):=by omega
       have hfl:fdL fns= .lst 3 (fns.map Fd.cs):=rfl
       have hcs:fns[j].cs=[.str fns[j].name,aC fns[j].params,smL fns[j].body]:=rfl
       have hst:aC fns[j].params= .lst 1 (fns[j].params.map fun w=>[.str w]):=rfl
       have hxl:∀l,exL l= .lst 4 (l.map Ex.cs):=fun _=>rfl
       have hpn:Am fns j=fns[j].params.length:=by simp[Am,hg]
       by_cases hp:fns[j].params.length=e.kids.length
       ·have hcc:kK fns k e.name e.kids.length w.code=w.code:=by simp[kK,hfa,hkj,hpn,hp]
        rw[hcc]
        simp-implicitDefEqProofs[ixI,hkj',hjn,hfl,hg,hcs,hst,hxl,hp]
        exact ab (h:=[wO 1 nf fns k w,roC nf w.vs,.row 4 [[.p (.int .i64 13),.p (.int .i64 e.n),.p (.str e.name),.p (exL e.kids)]],.row 4 [[.p (.int .i64 0),.p (.int .i64 0),.p (.str []),.nils]]]) (by simp) (oQ (by simp) (by simp[okO,below])) (by simp[below])
       ·have hcc:kK fns k e.name e.kids.length w.code=fl w.code 5:=by simp[kK,hfa,hkj,hpn,hp]
        have hp':¬(fns[j].params.length:Int)=(e.kids.length:Int):=by omega
        rw[hcc]
        simp-implicitDefEqProofs[ixI,hkj',hjn,hfl,hg,hcs,hst,hxl,hp']
        refine(wS G (mu G nf fns k w 5) _ (by simp[below])).mono ?_
        rintro r h ⟨rfl,rfl⟩
        simp-implicitDefEqProofs[aa]
        exact ab (h:=[wO 1 nf fns k ⟨w.vs,w.count,fl w.code 5⟩,roC nf w.vs,.row 4 [[.p (.int .i64 13),.p (.int .i64 e.n),.p (.str e.name),.p (exL e.kids)]],.row 4 [[.p (.int .i64 0),.p (.int .i64 0),.p (.str []),.nils]]]) (by simp) (oQ (by simp) (by simp[okO,below])) (by simp[below])
    ·have hhd:kb fns k w.vs e.op e.name e.kids.length w.code=if e.op=2 then ov w.vs e.name w.code else w.code:=by simp[kb,o13]
     rw[hhd]
     simp-implicitDefEqProofs[o13]
     exact ab (by simp) (oQ (by simp) (by simp[okO,below])) (by simp[below])
   rw[hce]
   generalize kb fns k w.vs e.op e.name e.kids.length w.code=c2
   generalize (if e.op=2 then tc w.vs e.name else e.name)=s1
   have hxl:exL e.kids= .lst 4 (e.kids.map Ex.cs):=rfl
   simp-implicitDefEqProofs[]
   refine aJ (fun i:Nat=>aj 75 [(0,.ptr 0 5 0 0),(3,.ptr 2 4 0 0),(4,.ptr 3 4 0 0),(6,.sl 4 4 0 i),(7,.p (.int .i64 i))])
    (fun i=>[wO 1 nf fns k ⟨w.vs,w.count,ce fns k w.vs (e.kids.take i) c2⟩,roC nf w.vs,.row 4 [[.p (.int .i64 e.op),.p (.int .i64 e.n),.p (.str s1),.p (exL e.kids)]],.row 4 [[.p (.int .i64 0),.p (.int .i64 0),.p (.str []),.nils]],.row 4 (exR (iU w.vs (e.kids.take i)))])
    (fun i=>i≤e.kids.length) (fun i=>e.kids.length-i) 0 (by simp) ?_ ?_
   ·exact ab (by simp) (oQ (by simp) (by simp[okO,below])) (by simp[below])
   ·intro i hi
    have hrl:(exR (iU w.vs (e.kids.take i))).length=i:=by rw[zt,og];simp;omega
    simp-implicitDefEqProofs[hxl]
    refine aS (fun h=>?_) (fun h=>?_)
    ·simp at h
     have hg:=List.getElem?_eq_getElem h
     have hks:=bQ (List.getElem_mem h)
     have hkc:=(rnE w.vs e.kids[i]).cs_eq
     simp-implicitDefEqProofs[hg]
     refine(wS G (ih e.kids[i] (by omega) (by omega) nf ⟨w.vs,w.count,ce fns k w.vs (e.kids.take i) c2⟩ hn hl) _ (by simp[below])).mono ?_
     rintro r h ⟨rfl,rfl⟩
     rw[show(rnE (WS.mk w.vs w.count (ce fns k w.vs (e.kids.take i) c2)).vs e.kids[i])=rnE w.vs e.kids[i] from rfl]
     simp-implicitDefEqProofs[aa,hkc,hrl]
     refine⟨by omega,?_⟩
     refine⟨i+1,by omega,by omega,?_⟩
     have htk:List.take i (exR (iU w.vs (e.kids.take i)))=exR (iU w.vs (e.kids.take i)):=List.take_of_length_le (by omega)
     rw[rg h,uG h,zF,htk]
     refine db [0,1,2,3,6] (by simp) (by decide) (by decide) (sw (by simp) rfl (bx rfl (fp _ _ _) (aW rfl (by simp[below]) (aW rfl (by simp[below]) (aW ?_ ?_ bm))))) (by simp[below,ren,w1 (i:=i) (by omega)])
     ·have:exR [rnE w.vs e.kids[i]]=[[.p (.int .i64 (rnE w.vs e.kids[i]).op),.p (.int .i64 (rnE w.vs e.kids[i]).n),.p (.str (rnE w.vs e.kids[i]).name),.p (exL (rnE w.vs e.kids[i]).kids)]]:=by rw[exR,List.map_singleton,hkc];rfl
      rw[this];rfl
     ·intro x hx
      rcases List.mem_append.1 hx with h|h
      ·exact dy _ x h
      ·exact dy _ x h
    ·simp at h
     have hie:i=e.kids.length:=by omega
     subst hie
     simp-implicitDefEqProofs[]
  refine main.frz 2 (by simp[HWk]) (fun t v h ⟨_,_,e,_⟩=>by cases e) ?_
  rintro v h ⟨E1,E2,e,rfl⟩
  cases e
  refine⟨_,HWk nf fns k ⟨w.vs,w.count,qO fns k w.vs e w.code⟩,by simp,rfl,.agg ?_ .nil,.same (qF (by omega)) (.same (fp _ _ _) (.nil _)),rfl,rfl⟩
  rw[hre]
  have hrl:=og w.vs e.kids
  rw[←hrl]
  exact .keep (by simp) (.keep (by simp) (.keep (by simp) (.one (wt rfl) .nil)))
end Go.Proofs.YtnjbhgpbgmpkcaaGreatDoor
namespace Go.Proofs.YtnjbhgpbgmpkcaaGreatDoor
open Go Go.Aw
set_option maxRecDepth 100000
set_option maxHeartbeats 4000000
def K_spec_l4Walk_stmts:AK:= .seq (.reg [oJ 6 (.mov (.c .nils))]) (.seq (.reg [oJ 13 (.bsl 5 [(.p (.int .i64 0)),(.p (.str [])),.nils,.nils,.nils] 0 []),oM 7 13]) (.seq (.reg [oM 14 0,oN 15 14,oF 16 2 15,oL 17 16,oJ 18 (.len false (.t 17)),oM 8 18]) (.seq (.seq (.reg [oK 9 0]) (.blk 0 (.loop (.seq (.seq (.reg [oM 19 9,oM 20 1,oJ 21 (.len false (.t 20)),oJ 22 (.bin .lss (.t 19) (.t 21))]) (.cond (.t 22) (.skip) (.exit 0))) (.seq (.blk 1 (.seq (.reg [oM 25 1,oM 26 9,oJ 27 (.idxS 5 (.t 25) (.t 26)),oJ 28 (.ld (some 5) (.t 27)),oJ 10 (.alloc [(.p (.int .i64 0)),(.p (.str [])),.nils,.nils,.nils]),⟨none,none,.st 5 (.t 10) (.t 28)⟩]) (.seq (.reg [oJ 29 (.bsl 4 [(.p (.int .i64 0)),(.p (.int .i64 0)),(.p (.str [])),.nils] 0 []),oM 11 29]) (.seq (.seq (.reg [oK 12 0]) (.blk 2 (.loop (.seq (.seq (.reg [oM 30 12,oF 31 2 10,oL 32 31,oJ 33 (.len false (.t 32)),oJ 34 (.bin .lss (.t 30) (.t 33))]) (.cond (.t 34) (.skip) (.exit 2))) (.seq (.blk 3 (.reg [oM 37 11,oM 38 0,oF 39 2 10,oL 40 39,oM 41 12,oJ 42 (.idxS 4 (.t 40) (.t 41)),oJ 43 (.ld (some 4) (.t 42)),oJ 44 (.call bw [(.t 38),(.t 43)]),oJ 45 (.bsl 4 [(.p (.int .i64 0)),(.p (.int .i64 0)),(.p (.str [])),.nils] 1 [(0,4,(.t 44))]),oJ 46 (.app 4 56 (.t 37) (.t 45)),oM 11 46])) (.reg [oM 35 12,oJ 36 (.bin .add (.t 35) (.c (.p (.int .i64 1)))),oM 12 36])))))) (.cut (.reg [oM 47 11,oF 48 2 10,oS 48 47]) (.cut (.seq (.reg [oF 49 0 10,oL 50 49,oJ 51 (.bin .eql (.t 50) (.c (.p (.int .i64 1))))]) (.cond (.t 51) (.reg [oM 52 0,oF 53 1 10,oL 54 53,oM 55 2,oJ 56 (.call bV [(.t 52),(.t 54),(.t 55)]),oF 57 1 10,oS 57 56]) (.skip))) (.cut (.seq (.reg [oF 58 0 10,oL 59 58,oJ 60 (.bin .eql (.t 59) (.c (.p (.int .i64 2))))]) (.cond (.t 60) (.reg [oM 61 0,oF 62 1 10,oL 63 62,oJ 64 (.call bW [(.t 61),(.t 63)]),oF 65 1 10,oS 65 64]) (.skip))) (.seq (.reg [oM 66 0,oF 67 3 10,oL 68 67,oM 69 2,oJ 70 (.bin .add (.t 69) (.c (.p (.int .i64 1)))),oJ 71 (.call bc [(.t 66),(.t 68),(.t 70)]),oF 72 3 10,oS 72 71]) (.seq (.reg [oM 73 0,oF 74 4 10,oL 75 74,oM 76 2,oJ 77 (.bin .add (.t 76) (.c (.p (.int .i64 1)))),oJ 78 (.call bc [(.t 73),(.t 75),(.t 77)]),oF 79 4 10,oS 79 78]) (.reg [oM 80 7,oJ 81 (.ld (some 5) (.t 10)),oJ 82 (.bsl 5 [(.p (.int .i64 0)),(.p (.str [])),.nils,.nils,.nils] 1 [(0,5,(.t 81))]),oJ 83 (.app 5 96 (.t 80) (.t 82)),oM 7 83])))))))))) (.reg [oM 23 9,oJ 24 (.bin .add (.t 23) (.c (.p (.int .i64 1)))),oM 9 24])))))) (.cut (.seq (.reg [oM 84 2,oJ 85 (.bin .gtr (.t 84) (.c (.p (.int .i64 0))))]) (.cond (.t 85) (.reg [oM 86 0,oM 87 0,oN 88 87,oF 89 2 88,oL 90 89,oM 91 8,oJ 92 (.slS 3 (.t 90) none (some (.t 91))),oN 93 86,oF 94 2 93,oS 94 92]) (.skip))) (.seq (.reg [oM 95 7,oM 6 95]) (.ret))))))
theorem mJ:K_spec_l4Walk_stmts.whole=F_spec_l4Walk_stmts.ak:=rfl
theorem wZ(fns:List Fd)(k b:Nat):∀(x y:List Sm) (w:WS),cd fns k b (x++y) w=cd fns k b y (cd fns k b x w)
 |[],y,w=>rfl
 |s::r,y,w=>by rw[List.cons_append,cd,cd,wZ fns k b r]
theorem wP(fns:List Fd)(k b:Nat):∀(x y:List Sm) (w:WS),gb fns k b (x++y) w=gb fns k b x w++gb fns k b y (cd fns k b x w)
 |[],y,w=>rfl
 |s::r,y,w=>by rw[List.cons_append,gb,gb,wP fns k b r];rfl
theorem AA{fns:List Fd}{k b:Nat}{l:List Sm}{w:WS}{i:Nat}(h:i<l.length):cd fns k b (l.take (i+1)) w=stW fns k b l[i] (cd fns k b (l.take i) w):=by
 rw[al h,wZ];rfl
theorem Bc{fns:List Fd}{k b:Nat}{l:List Sm}{w:WS}{i:Nat}(h:i<l.length):gb fns k b (l.take (i+1)) w=gb fns k b (l.take i) w++[rnS fns k b l[i] (cd fns k b (l.take i) w)]:=by
 rw[al h,wP];rfl
theorem rJ(fns:List Fd)(k b:Nat):∀(l:List Sm) (w:WS),(gb fns k b l w).length=l.length
 |[],w=>rfl
 |s::r,w=>by rw[gb,List.length_cons,rJ fns k b r,List.length_cons]
theorem zJ{l:List Sm}{i:Nat}(h:i<l.length):aq (l.take i)+l[i].sz≤aq l:=by
 have e:l=l.take i++l[i]::l.drop (i+1):=by rw[←List.drop_eq_getElem_cons h,List.take_append_drop]
 have h2:aq l=aq (l.take i)+(l[i].sz+aq (l.drop (i+1))):=by
  conv=>lhs;rw[e]
  rw[bn];rfl
 omega
def nI(fns:List Fd)(k b:Nat)(l:List Sm)(w:WS):WS:=if 0<b then(cd fns k b l w).back w.vs else cd fns k b l w
theorem yl(fns:List Fd)(k b:Nat)(l:List Sm)(w:WS):(nI fns k b l w).count=w.count+mX l:=by
 unfold nI
 split
 ·exact gu fns k l b w
 ·exact gu fns k l b w
theorem Cc{e vs:List LV}:(lvR (e++vs)).take vs.length=lvR vs:=by
 have h:lvR (e++vs)=lvR vs++lvR e:=by simp[lvR]
 rw[h,List.take_append_of_le_length (by rw[qY];exact Nat.le_refl _),List.take_of_length_le (by rw[qY];exact Nat.le_refl _)]
theorem uJ(l:List Sm):mX l≤aq l:=Nat.le_trans (pn l) (mr l)
theorem yK(nf:Bool)(id n:Nat):(vaC nf id n).isCell=true:=by cases nf<;>rfl
theorem AG(nf:Bool)(id n:Nat):(vaC nf id n).cells=[vaC nf id n]:=by cases nf<;>rfl
attribute [simp ↓] yK AG
variable (G:ay)
def StP(fns:List Fd)(k b:Nat)(l:List Sm)(w:WS)(x:ARes)(h:List AO):Prop:=∃nf' w',x= .ret (.p (smL (gb fns k b l w)))∧h=[wO 2 nf' fns k w',.dead,roC nf' w'.vs]∧(nf'=true→w'.vs=[])∧w'=nI fns k b l w
structure StS where (i:Nat) (nf:Bool)
theorem Ds{fns:List Fd}{k:Nat}(hf:fns.length≤1099511627776):∀(N:Nat) (l:List Sm),aq l<N→∀(b:Nat) (nf:Bool) (w:WS),(nf=true→w.vs=[])→w.vs.length≤w.count→w.count+aq l≤1099511627776→b+aq l≤1099511627776→
 AC Tryz.prog G bc [.ptr 0 5 0 0,.p (smL l),.p (.int .i64 b)] (HWk nf fns k w) (StP fns k b l w):=by
 intro N
 induction N with
 |zero=>
  intro l hl b nf w hn hv hc hb
  omega
 |succ N ih=>
  intro l hl b nf w hn hv hc hb
  have hll:=cg l
  refine AC.goK mK mJ ?_
  have hsl:∀l,smL l= .lst 5 (l.map Sm.cs):=fun _=>rfl
  have hlen0:yJ (vaC nf 1 w.vs.length)=some (.p (.int .i64 w.vs.length)):=by
   cases nf
   ·rfl
   ·simp[vaC,hn rfl]
  simp-implicitDefEqProofs[K_spec_l4Walk_stmts,F_spec_l4Walk_stmts,HWk,wO,wC,hlen0]
  refine aJ (fun s:StS=>aj 96 [(0,.ptr 0 5 0 0),(1,.p (smL l)),(2,.p (.int .i64 b)),(7,.sl 2 5 0 s.i),(8,.p (.int .i64 w.vs.length)),(9,.p (.int .i64 s.i))])
   (fun s=>[wO 3 s.nf fns k (cd fns k b (l.take s.i) w),.dead,.row 5 (smR (gb fns k b (l.take s.i) w)),roC s.nf (cd fns k b (l.take s.i) w).vs])
   (fun s=>s.i≤l.length∧(s.nf=true→(cd fns k b (l.take s.i) w).vs=[])) (fun s=>l.length-s.i) ⟨0,nf⟩ ⟨by simp,hn⟩ ?_ ?_
  ·refine py [0,1,2,1] (by simp) (by decide) ?_ (sw (by simp) rfl (bJ (by simp) (aW rfl (by simp[smR,gb]) (bx rfl (fp _ _ _) bm)))) (by simp[below,ren])
   cases nf<;>simp[fx,roC,wO,cd]
  ·rintro⟨i,nf⟩ ⟨hi,hn⟩
   simp only at hi hn
   simp-implicitDefEqProofs[hsl]
   refine aS (fun h=>?_) (fun h=>?_)
   ·simp at h
    have hg:=List.getElem?_eq_getElem h
    have hat:=zJ h
    have hse:=l[i].cs_eq
    have hsz:=l[i].sz_eq
    have hle:=ze fns k (l:=l.take i) (b:=b) hv
    have hcn:=gu fns k (l.take i) b w
    have hlz:=uJ (l.take i)
    have eW:=AA (fns:=fns) (k:=k) (b:=b) (w:=w) h
    have eR:=Bc (fns:=fns) (k:=k) (b:=b) (w:=w) h
    have hol:=rJ fns k b (l.take i) w
    rw[List.length_take,Nat.min_eq_left hi] at hol
    generalize l[i]=s at hg hat hse hsz eW eR
    generalize cd fns k b (l.take i) w=wi at hn hle hcn eW eR⊢
    generalize gb fns k b (l.take i) w=out at hol eR⊢
    obtain⟨o,nme,a,bd,el⟩:=s
    simp only[Sm.op,Sm.name,Sm.args,Sm.body,Sm.els] at hse hsz
    simp-implicitDefEqProofs[hg,hse]
    have hxl:∀l,exL l= .lst 4 (l.map Ex.cs):=fun _=>rfl
    have hal:=bL a
    have hlE:=uJ bd
    have hwl:wi.vs.length≤1099511627776:=by omega
    have hopR:∀(x y z u v:AV),ah 0 [x,y,z,u,v]→okO 5 (AO.row 5 [[x,y,z,u,v]]):=fun x y z u v hh=>bu (fun e he=>by rw[List.mem_singleton.1 he];exact hh)
    refine aJ (fun j:Nat=>aj 96 [(0,.ptr 0 5 0 0),(1,.p (smL l)),(2,.p (.int .i64 b)),(7,.sl 2 5 0 i),(8,.p (.int .i64 w.vs.length)),(9,.p (.int .i64 i)),(10,.ptr 4 5 0 0),(11,.sl 5 4 0 j),(12,.p (.int .i64 j))])
     (fun j=>[wO 3 nf fns k ⟨wi.vs,wi.count,ce fns k wi.vs (a.take j) wi.code⟩,.dead,.row 5 (smR out),roC nf wi.vs,.row 5 [[.p (.int .i64 o),.p (.str nme),.p (exL a),.p (smL bd),.p (smL el)]],.row 4 (exR (iU wi.vs (a.take j)))])
     (fun j=>j≤a.length) (fun j=>a.length-j) 0 (by simp) ?_ ?_
    ·refine ab (h:=[wO 3 nf fns k wi,.dead,.row 5 (smR out),roC nf wi.vs,.row 5 [[.p (.int .i64 o),.p (.str nme),.p (exL a),.p (smL bd),.p (smL el)]],.row 4 []]) (by simp) (ae (qF (by simp)) (ae trivial (ae (bu (dD out)) (ae (fp _ _ _) (by simp[okO,below]))))) (by simp[below,hsl])
    intro j hj
    have hrl:(exR (iU wi.vs (a.take j))).length=j:=by rw[zt,og];simp;omega
    simp-implicitDefEqProofs[hxl]
    refine aS (fun hc=>?_) (fun hc=>?_)
    ·simp at hc
     have hga:=List.getElem?_eq_getElem hc
     have hks:=bQ (List.getElem_mem hc)
     have hkc:=(rnE wi.vs a[j]).cs_eq
     simp-implicitDefEqProofs[hga]
     refine(GP G (id:=3) (ET G hf (a[j].sz) a[j] (Nat.le_refl _) (by omega) nf ⟨wi.vs,wi.count,ce fns k wi.vs (a.take j) wi.code⟩ hn hwl) (by simp) (by simp[below]) (by decide) rfl rfl).mono ?_
     rintro r h' ⟨rfl,rfl⟩
     rw[show(rnE (WS.mk wi.vs wi.count (ce fns k wi.vs (a.take j) wi.code)).vs a[j])=rnE wi.vs a[j] from rfl]
     simp-implicitDefEqProofs[aa,hkc,hrl]
     refine⟨by omega,j+1,by omega,by omega,?_⟩
     have htk:List.take j (exR (iU wi.vs (a.take j)))=exR (iU wi.vs (a.take j)):=List.take_of_length_le (by omega)
     rw[rg hc,uG hc,zF,htk]
     refine db [0,1,2,3,4,7] (by simp) (by decide) (by decide) (sw (by simp) rfl (bJ (by simp) (aW rfl (dD out) (bx rfl (fp _ _ _) (aW rfl (by simp[below]) (aW ?_ ?_ bm)))))) (by simp[below,ren,hsl,w1 (i:=j) (by omega)])
     ·have:exR [rnE wi.vs a[j]]=[[.p (.int .i64 (rnE wi.vs a[j]).op),.p (.int .i64 (rnE wi.vs a[j]).n),.p (.str (rnE wi.vs a[j]).name),.p (exL (rnE wi.vs a[j]).kids)]]:=by rw[exR,List.map_singleton,hkc];rfl
      rw[this];rfl
     ·intro x hx
      rcases List.mem_append.1 hx with h|h
      ·exact dy _ x h
      ·exact dy _ x h
    simp at hc
    have hje:j=a.length:=by omega
    subst hje
    rw[List.take_length] at hrl⊢
    have hal2:=og wi.vs a
    simp-implicitDefEqProofs[]
    generalize hw1:WS.mk wi.vs wi.count (ce fns k wi.vs a wi.code)=w1
    have e1v:w1.vs=wi.vs:=by rw[←hw1]
    have e1c:w1.count=wi.count:=by rw[←hw1]
    have e1l:w1.vs.length=wi.vs.length:=by rw[e1v]
    rw[←e1v]
    refine kD (aj 96 [(0,.ptr 0 5 0 0),(1,.p (smL l)),(2,.p (.int .i64 b)),(7,.sl 2 5 0 i),(8,.p (.int .i64 w.vs.length)),(9,.p (.int .i64 i)),(10,.ptr 4 5 0 0)])
     [wO 3 nf fns k w1,.dead,.row 5 (smR out),roC nf w1.vs,.row 5 [[.p (.int .i64 o),.p (.str nme),.p (exL (iU w1.vs a)),.p (smL bd),.p (smL el)]]] ?_ ?_
    ·simp-implicitDefEqProofs[]
     refine jk 5 (by omega) (by simp) rfl (.same (qF (by omega)) (.dead (.same (bu (dD out)) (.same (fp _ _ _) (.one (.keep (by simp[below]) (.keep (by simp[below]) (.one ?_ (.keep (by simp[below]) (.keep (by simp[below]) .nil))))) (.nil _)))))) ?_
     ·rw[←e1v] at hal2
      rw[←hal2]
      exact wt rfl
     ·refine⟨.keep (by simp[below]) .nil,.keep (by simp[below]) .nil,.keep (by simp[below]) .nil,.keep (by simp[below]) .nil,.keep (by simp[below]) .nil,.keep (by simp[below]) .nil,.keep (by simp[below]) .nil,trivial⟩
    have TT:∀(r1:List (Nat × AV)),Aw.look r1 0= .ptr 0 5 0 0→Aw.look r1 1= .p (smL l)→Aw.look r1 2= .p (.int .i64 b)→Aw.look r1 7= .sl 2 5 0 i→Aw.look r1 8= .p (.int .i64 w.vs.length)→Aw.look r1 9= .p (.int .i64 i)→Aw.look r1 10= .ptr 4 5 0 0→∀ρ:List Nat,ρ.length=5→ρ.getD 0 0=0→ρ.getD 2 0=2→ρ.getD 4 0=4→
     TWA ρ r1 [(0,.ptr 0 5 0 0),(1,.p (smL l)),(2,.p (.int .i64 b)),(7,.sl 2 5 0 i),(8,.p (.int .i64 w.vs.length)),(9,.p (.int .i64 i)),(10,.ptr 4 5 0 0)]:=by
     intro r1 a0 a1 a2 a7 a8 a9 a10 ρ hr r0 r2 r4
     simp[below,ren,hr,a0,a1,a2,a7,a8,a9,a10]
     rw[List.getD_eq_getElem?_getD,List.getElem?_eq_getElem (by omega)] at r0 r2 r4
     exact⟨r0,r2,r4⟩
    have hn1:nf=true→w1.vs=[]:=fun h=>by rw[e1v];exact hn h
    have okB:∀(nf:Bool) (w:WS) (r:AO),okO 0 r→∀x∈[wO 3 nf fns k w,.dead,.row 5 (smR out),roC nf w.vs,r],okO 5 x:=fun nf w r hr=>
     ae (qF (by omega)) (ae trivial (ae (bu (dD out)) (ae (fp _ _ _) (ae (bu hr) bv))))
    refine kD (aj 96 [(0,.ptr 0 5 0 0),(1,.p (smL l)),(2,.p (.int .i64 b)),(7,.sl 2 5 0 i),(8,.p (.int .i64 w.vs.length)),(9,.p (.int .i64 i)),(10,.ptr 4 5 0 0)])
     [wO 3 (if o=1 then false else nf) fns k (if o=1 then iY w1 nme b else w1),.dead,.row 5 (smR out),roC (if o=1 then false else nf) (if o=1 then iY w1 nme b else w1).vs,.row 5 [[.p (.int .i64 o),.p (.str (if o=1 then vnm w1.count else nme)),.p (exL (iU w1.vs a)),.p (smL bd),.p (smL el)]]] ?_ ?_
    ·by_cases o1:o=1
     ·simp-implicitDefEqProofs[o1]
      refine(Dq G (id:=3) (Q:=fun nf' w'=>nf'=false∧w'=iY w1 nme b) ((Eu G nf fns k w1 hn1 (by omega) (by omega) nme b).mono (by rintro x h ⟨rfl,rfl⟩;exact⟨false,_,rfl,rfl,rfl,rfl⟩)) (by simp) (by simp[below]) (by decide) rfl rfl).mono ?_
      rintro r h' ⟨nf',w',rfl,rfl,rfl,rfl⟩
      simp-implicitDefEqProofs[aa]
      refine db [0,1,2,5,4] (by simp) (by decide) (by decide) (sw (by simp) rfl (bJ (by simp) (aW rfl (dD out) (bx rfl (fp _ _ _) (aW rfl (by simp[below]) bm))))) (TT _ (by simp) (by simp) (by simp) (by simp) (by simp) (by simp) (by simp) _ rfl rfl rfl rfl)
     ·simp-implicitDefEqProofs[o1]
      refine ab (by simp) (okB nf w1 _ (by simp[okO,below])) (by simp[below])
    generalize hw2:(if o=1 then iY w1 nme b else w1)=w2
    generalize hnf2:(if o=1 then false else nf)=nf2
    generalize hnm2:(if o=1 then vnm w1.count else nme)=nm2
    have hn2:nf2=true→w2.vs=[]:=by
     intro h
     by_cases o1:o=1
     ·rw[if_pos o1] at hnf2;rw[←hnf2] at h;cases h
     ·rw[if_neg o1] at hnf2 hw2;rw[←hw2];exact hn1 (by rw[hnf2];exact h)
    have h2c:w2.count=w1.count+if o=1 then 1 else 0:=by rw[←hw2];split<;>rfl
    have h2v:w2.vs.length≤w2.count:=by
     rw[←hw2];split
     ·simp[iY];omega
     ·omega
    have h2b:w2.count≤wi.count+1:=by rw[h2c,e1c];split<;>omega
    refine kD (aj 96 [(0,.ptr 0 5 0 0),(1,.p (smL l)),(2,.p (.int .i64 b)),(7,.sl 2 5 0 i),(8,.p (.int .i64 w.vs.length)),(9,.p (.int .i64 i)),(10,.ptr 4 5 0 0)])
     [wO 3 nf2 fns k (opW o nme b w1),.dead,.row 5 (smR out),roC nf2 (opW o nme b w1).vs,.row 5 [[.p (.int .i64 o),.p (.str (opN o nme w1)),.p (exL (iU w1.vs a)),.p (smL bd),.p (smL el)]]] ?_ ?_
    ·by_cases o2:o=2
     ·have o1:¬o=1:=by omega
      rw[if_neg o1] at hw2 hnm2
      subst hw2;subst hnm2
      have eo:opW o nme b w1=⟨w1.vs,w1.count,ov w1.vs nme w1.code⟩:=by rw[opW,if_neg o1,if_pos o2]
      have en:opN o nme w1=tc w1.vs nme:=by rw[opN,if_neg o1,if_pos o2]
      rw[eo,en]
      simp-implicitDefEqProofs[o2]
      refine(GP G (id:=3) (DE G nf2 fns k w1 hn2 (by omega) nme) (by simp) (by simp[below]) (by decide) rfl rfl).mono ?_
      rintro r h' ⟨rfl,rfl⟩
      simp-implicitDefEqProofs[aa]
      refine ab (h:=[wO 3 nf2 fns k ⟨w1.vs,w1.count,ov w1.vs nme w1.code⟩,.dead,.row 5 (smR out),roC nf2 w1.vs,_]) (by simp) (okB nf2 ⟨w1.vs,w1.count,ov w1.vs nme w1.code⟩ _ (by simp[okO,below])) (by simp[below])
     ·have eo:opW o nme b w1=w2:=by rw[opW,if_neg o2,←hw2]
      have en:opN o nme w1=nm2:=by rw[opN,if_neg o2,←hnm2]
      rw[eo,en]
      simp-implicitDefEqProofs[o2]
      refine ab (by simp) (okB nf2 w2 _ (by simp[okO,below])) (by simp[below])
    have eov:(opW o nme b w1).vs=w2.vs:=by
     rw[opW,←hw2];split
     ·rfl
     ·split<;>rfl
    have eoc:(opW o nme b w1).count=w2.count:=by rw[pN,h2c]
    have hwb:IntKind.i64.wrap ((b:Int)+1)=((b+1:Nat):Int):=by rw[ag (by omega) (by omega)];omega
    have hstw:stW fns k b (.mk o nme a bd el) wi=nI fns k (b+1) el (nI fns k (b+1) bd (opW o nme b w1)):=by
     rw[stW]
     simp only[hw1,nI,Nat.succ_pos,if_true]
     rfl
    have hrns:(rnS fns k b (.mk o nme a bd el) wi).cs=[.int .i64 o,.str (opN o nme w1),exL (iU w1.vs a),smL (gb fns k (b+1) bd (opW o nme b w1)),smL (gb fns k (b+1) el (nI fns k (b+1) bd (opW o nme b w1)))]:=by
     rw[rnS,Sm.cs_eq]
     simp only[hw1,nI,Nat.succ_pos,if_true,Sm.op,Sm.name,Sm.args,Sm.body,Sm.els,e1v]
     have:opN o nme wi=opN o nme w1:=by simp only[opN,e1v,e1c]
     rw[this]
    rw[hstw] at eW
    clear hstw
    generalize opW o nme b w1=w3 at eov eoc hrns eW⊢
    have hn3:nf2=true→w3.vs=[]:=fun h=>by rw[eov];exact hn2 h
    have h3v:w3.vs.length≤w3.count:=by rw[eov,eoc];exact h2v
    simp-implicitDefEqProofs[hwb]
    refine(Dq G (id:=3) (ih bd (by omega) (b+1) nf2 w3 hn3 h3v (by omega) (by omega)) (by simp) (by simp[below]) (by decide) rfl rfl).mono ?_
    rintro r h' ⟨nf4,w4,rfl,rfl,hn4,hw4⟩
    rw[←hw4] at hrns eW
    have h4c:w4.count=w3.count+mX bd:=by rw[hw4];exact yl _ _ _ _ _
    have h4v:w4.vs.length≤w4.count:=by
     have:w4.vs=w3.vs:=by rw[hw4];simp[nI,WS.back]
     rw[this,h4c];omega
    simp-implicitDefEqProofs[aa,hwb]
    refine(Dq G (id:=5) (ih el (by omega) (b+1) nf4 w4 hn4 h4v (by omega) (by omega)) (by simp) (by simp[below]) (by decide) rfl rfl).mono ?_
    rintro r h' ⟨nf5,w5,rfl,rfl,hn5,hw5⟩
    rw[←hw5] at eW
    have hsl2:(smR out).length=i:=by rw[fa];exact hol
    simp-implicitDefEqProofs[aa,hsl2]
    refine⟨⟨by omega,by omega⟩,⟨i+1,nf5⟩,⟨by simp only;omega,fun h=>by simp only at h⊢;rw[eW];exact hn5 h⟩,by simp only;omega,?_⟩
    simp only
    rw[eW,eR,vG]
    have htk:List.take i (smR out)=smR out:=List.take_of_length_le (by omega)
    rw[htk]
    have hsm1:smR [rnS fns k b (.mk o nme a bd el) wi]=[[.p (.int .i64 o),.p (.str (opN o nme w1)),.p (exL (iU w1.vs a)),.p (smL (gb fns k (b+1) bd w3)),.p (smL (gb fns k (b+1) el w4))]]:=by rw[smR,List.map_singleton,hrns];rfl
    rw[hsm1]
    refine db [0,1,8,6] (by simp) (by decide) (by decide) (sw (by simp) rfl (bJ (by simp) (aW rfl (fun x hx=>?_) (bx rfl (fp _ _ _) bm)))) (by simp[below,ren,hsl,show IntKind.i64.wrap ((i:Int)+1)=((i:Int)+1) from ag (by omega) (by omega)])
    rcases List.mem_append.1 hx with h|h
    ·exact dD out x h
    ·rw[List.mem_singleton.1 h];simp
   ·simp at h
    have hie:i=l.length:=by omega
    subst hie
    rw[List.take_length] at hn⊢
    obtain⟨ext,hext⟩:=wH fns k l b w
    have hlen:=rJ fns k b l w
    refine kD (aj 96 [(7,.p (smL (gb fns k b l w)))]) [wO 2 nf fns k (nI fns k b l w),.dead,roC nf (nI fns k b l w).vs] ?_ ?_
    ·have fin:∀(r1:List (Nat × AV)) (w':WS),w'.vs=w.vs∨w'.vs=(cd fns k b l w).vs→(Aw.look r1 7= .sl 2 5 0 l.length)→
      Wk 2 (aj 96 r1) [wO 3 nf fns k w',.dead,.row 5 (smR (gb fns k b l w)),roC nf (cd fns k b l w).vs] (aj 96 [(7,.p (smL (gb fns k b l w)))]) [wO 2 nf fns k w',.dead,roC nf w'.vs]:=by
      intro r1 w' hv' hr
      refine Wk.trans (me (h1:=[wO 3 nf fns k w',.dead,.row 5 (smR (gb fns k b l w)),roC nf w'.vs]) ?_) (Wk.trans (db (l1:=[(7,.sl 3 5 0 l.length)]) (h1:=[wO 2 nf fns k w',.dead,roC nf w'.vs,.row 5 (smR (gb fns k b l w))]) [0,1,3,2] (by simp) (by decide) (by decide) (sw (by simp) rfl (bJ (by simp) (bx rfl (fp _ _ _) (aW rfl (dD _) bm)))) (by simp[below,ren,hr]))
       (jk 3 (by omega) (by simp) rfl (.same (qF (by omega)) (.dead (.same (fp _ _ _) (.nil _)))) ?_))
      ·refine⟨.inl rfl,.inl rfl,.inl rfl,?_,trivial⟩
       rcases hv' with e|e
       ·cases nf with
        |true=>exact .inl rfl
        |false=>
         refine .inr ⟨3,lvR (cd fns k b l w).vs,w.vs.length,rfl,?_⟩
         rw[hext,Cc,e];rfl
       ·rw[e];exact .inl rfl
      ·rw[←hlen]
       exact⟨.one (iQ rfl) .nil,trivial⟩
     by_cases hb0:0<b
     ·have hwe:nI fns k b l w=(cd fns k b l w).back w.vs:=if_pos hb0
      rw[hwe]
      have hll2:(cd fns k b l w).vs.length=ext.length+w.vs.length:=by rw[hext,List.length_append]
      cases nf with
      |true=>
       have h0:=hn rfl
       rw[h0] at hext
       have h00:w.vs=[]:=(List.append_eq_nil_iff.1 hext.symm).2
       simp-implicitDefEqProofs[hb0,wO,wC,vaC,h00]
       rw[h00] at fin
       exact fin _ ⟨[],(cd fns k b l w).count,(cd fns k b l w).code⟩ (.inl rfl) (by simp)
      |false=>
       have hle:w.vs.length≤(cd fns k b l w).vs.length:=by omega
       simp-implicitDefEqProofs[hb0,wO,wC,vaC,hle]
       exact fin _ ⟨w.vs,(cd fns k b l w).count,(cd fns k b l w).code⟩ (.inl rfl) (by simp)
     ·have hwe:nI fns k b l w=cd fns k b l w:=if_neg hb0
      have hb0':b=0:=by omega
      subst hb0'
      rw[hwe]
      simp-implicitDefEqProofs[]
      exact fin _ _ (.inr rfl) (by simp)
    ·simp-implicitDefEqProofs[]
     refine⟨nf,_,rfl,rfl,?_,rfl⟩
     intro hnf
     have h0:=hn hnf
     unfold nI
     split
     ·rw[h0] at hext;exact(List.append_eq_nil_iff.1 hext.symm).2
     ·exact h0
end Go.Proofs.YtnjbhgpbgmpkcaaGreatDoor
namespace Go.Proofs.YtnjbhgpbgmpkcaaGreatDoor
open Go Go.Aw
set_option maxRecDepth 100000
set_option maxHeartbeats 4000000
def K_spec_l4Fn:AK:= .seq (.reg [oJ 2 (.box 1 (.t 0)),oJ 4 (.alloc [(.p (.str [])),.nils,.nils]),oK 5 0,oK 6 0]) (.seq (.reg [oJ 11 (.ld (some 1) (.t 2)),oM 12 1,oJ 13 (.bld [.nils,(.p (.int .i64 0)),.nils,(.p (.int .i64 0)),(.p (.int .i64 0))] [(0,1,(.t 11)),(1,1,(.t 12))]),oJ 14 (.box 5 (.t 13)),oM 7 14]) (.cut (.reg [oF 15 0 2,oL 16 15,oM 17 1,oJ 18 (.idxS 3 (.t 16) (.t 17)),oJ 19 (.ld (some 3) (.t 18)),oJ 8 (.alloc [(.p (.str [])),.nils,.nils]),⟨none,none,.st 3 (.t 8) (.t 19)⟩]) (.cut (.seq (.reg [oJ 20 (.ld (some 1) (.t 2)),oF 21 0 8,oL 22 21,oJ 23 (.call fy [(.t 20),(.t 22)]),oM 24 1,oJ 25 (.bin .neq (.t 23) (.t 24))]) (.cond (.t 25) (.reg [oM 26 7,oJ 27 (.call aL [(.t 26),(.c (.p (.int .i64 2)))])]) (.skip))) (.seq (.reg [oJ 28 (.bsl 1 [(.p (.str []))] 0 []),oM 9 28]) (.seq (.seq (.reg [oK 10 0]) (.blk 0 (.loop (.seq (.seq (.reg [oM 29 10,oF 30 1 8,oL 31 30,oJ 32 (.len false (.t 31)),oJ 33 (.bin .lss (.t 29) (.t 32))]) (.cond (.t 33) (.skip) (.exit 0))) (.seq (.blk 1 (.reg [oM 36 9,oM 37 7,oF 38 1 8,oL 39 38,oM 40 10,oJ 41 (.idxS 1 (.t 39) (.t 40)),oL 42 41,oJ 43 (.call bV [(.t 37),(.t 42),(.c (.p (.int .i64 0)))]),oJ 44 (.bsl 1 [(.p (.str []))] 1 [(0,1,(.t 43))]),oJ 45 (.app 1 16 (.t 36) (.t 44)),oM 9 45])) (.reg [oM 34 10,oJ 35 (.bin .add (.t 34) (.c (.p (.int .i64 1)))),oM 10 35])))))) (.seq (.reg [oM 46 9,oF 47 1 8,oS 47 46]) (.seq (.reg [oM 48 7,oF 49 2 8,oL 50 49,oJ 51 (.call bc [(.t 48),(.t 50),(.c (.p (.int .i64 0)))]),oF 52 2 8,oS 52 51]) (.seq (.reg [oM 54 7,oN 55 54,oF 56 4 55,oM 58 7,oN 59 58,oF 60 3 59,oJ 53 (.ld (some 3) (.t 8)),oL 57 56,oL 61 60,⟨none,none,.st 3 (.t 4) (.t 53)⟩,⟨none,none,.chk none 56 57⟩,⟨none,none,.chk none 60 61⟩,oM 5 57,oM 6 61]) (.ret)))))))))
theorem xI:K_spec_l4Fn.whole=F_spec_l4Fn.ak:=rfl
theorem wh:∀(ps:List (List UInt8)) (w:WS),w.vs.length≤w.count→(cD ps w).vs.length≤(cD ps w).count
 |[],w,h=>h
 |s::r,w,h=>wh r (iY w s 0) (by simp[iY];omega)
theorem Bb(a b:List (List UInt8))(w:WS):cD (a++b) w=cD b (cD a w):=by simp[cD]
theorem yj{l:List (List UInt8)}{w:WS}{i:Nat}(h:i<l.length):cD (l.take (i+1)) w=iY (cD (l.take i) w) l[i] 0:=by
 rw[al h,Bb];rfl
theorem xB:∀(a b:List (List UInt8)) (w:WS),mM (a++b) w=mM a w++mM b (cD a w)
 |[],b,w=>rfl
 |s::r,b,w=>by rw[List.cons_append,mM,mM,xB r];rfl
theorem Bp{l:List (List UInt8)}{w:WS}{i:Nat}(h:i<l.length):mM (l.take (i+1)) w=mM (l.take i) w++[vnm (cD (l.take i) w).count]:=by
 rw[al h,xB];rfl
theorem tr:∀(l:List (List UInt8)) (w:WS),(mM l w).length=l.length
 |[],w=>rfl
 |s::r,w=>by rw[mM,List.length_cons,tr r,List.length_cons]
def w0(fns:List Fd)(k:Nat)(f:Fd):WS:=⟨[],0,if ca fns f.name=some k then 0 else 2⟩
theorem Gy(fns:List Fd)(k:Nat)(f:Fd):fnW fns k f=cd fns k 0 f.body (cD f.params (w0 fns k f)):=rfl
theorem DW(fns:List Fd)(k:Nat)(f:Fd):(rnF fns k f).cs=[.str f.name,aC (mM f.params (w0 fns k f)),smL (gb fns k 0 f.body (cD f.params (w0 fns k f)))]:=rfl
variable (G:ay)
theorem Gv{fns:List Fd}{k:Nat}{f:Fd}(hk:fns[k]?=some f)(hz:aY fns≤1073741824):VF Tryz.prog G ji [.agg [.p (fdL fns)],.p (.int .i64 k)] (.tup [.agg ((rnF fns k f).cs.map .p),.p (.int .i64 (fnW fns k f).code),.p (.int .i64 (fnW fns k f).count)]):=by
 have hfl:=cf fns
 have hfm:=dY (List.mem_of_getElem? hk)
 have hfz:f.sz=1+f.name.length+(f.params.length+(f.params.map List.length).sum)+aq f.body:=rfl
 have hkl:=(List.getElem?_eq_some_iff.1 hk).1
 have key:AC Tryz.prog G ji [.agg [.p (fdL fns)],.p (.int .i64 k)] [] fun x h=>x= .ret (.tup [.agg [.p (.str f.name),.sl 5 1 0 f.params.length,.p (smL (gb fns k 0 f.body (cD f.params (w0 fns k f))))],.p (.int .i64 (fnW fns k f).code),.p (.int .i64 (fnW fns k f).count)])∧h[5]?=some (bH (mM f.params (w0 fns k f))):=by
  refine AC.goK wg xI ?_
  have hfd:∀l,fdL l= .lst 3 (l.map Fd.cs):=fun _=>rfl
  have hcs:f.cs=[.str f.name,aC f.params,smL f.body]:=rfl
  have hst:aC f.params= .lst 1 (f.params.map fun w=>[.str w]):=rfl
  simp-implicitDefEqProofs[K_spec_l4Fn,F_spec_l4Fn]
  refine kD (aj 62 [(1,.p (.int .i64 k)),(2,.ptr 0 1 0 0),(4,.ptr 1 3 0 0),(7,.ptr 2 5 0 0),(8,.ptr 3 3 0 0)])
   [.row 1 [[.p (fdL fns)]],.row 3 [[.p (.str []),.nils,.nils]],wO 4 true fns k ⟨[],0,0⟩,.row 3 [[.p (.str f.name),.p (aC f.params),.p (smL f.body)]],.dead] ?_ ?_
  ·simp-implicitDefEqProofs[hfd,hk,hcs]
   refine oh (h:=[.row 1 [[.p (fdL fns)]],.row 3 [[.p (.str []),.nils,.nils]],wO 4 true fns k ⟨[],0,0⟩,.row 3 [[.p (.str f.name),.p (aC f.params),.p (smL f.body)]]]) (by simp) (by simp) ?_ (by simp[below])
   refine ae (by simp[okO,below]) (ae (by simp[okO,below]) (ae ?_ (ae (by simp[okO,below]) bv)))
   intro x hx
   rw[List.mem_singleton.1 hx];simp[wC,vaC,below]
  refine kD (aj 62 [(1,.p (.int .i64 k)),(2,.ptr 0 1 0 0),(4,.ptr 1 3 0 0),(7,.ptr 2 5 0 0),(8,.ptr 3 3 0 0)])
   [.row 1 [[.p (fdL fns)]],.row 3 [[.p (.str []),.nils,.nils]],wO 4 true fns k (w0 fns k f),.row 3 [[.p (.str f.name),.p (aC f.params),.p (smL f.body)]],.dead] ?_ ?_
  ·simp-implicitDefEqProofs[]
   refine(BT G fns f.name (by omega)).use ?_
   have hok:∀w:WS,∀o∈[AO.row 1 [[.p (fdL fns)]],.row 3 [[.p (.str []),.nils,.nils]],wO 4 true fns k w,.row 3 [[.p (.str f.name),.p (aC f.params),.p (smL f.body)]],.dead],okO 5 o:=fun w=>
    ae (by simp[okO,below]) (ae (by simp[okO,below]) (ae (qF (by simp)) (ae (by simp[okO,below]) (ae trivial bv))))
   by_cases he:ca fns f.name=some k
   ·have hw:w0 fns k f=⟨[],0,0⟩:=by rw[w0,if_pos he]
    rw[hw,he]
    simp-implicitDefEqProofs[ixI]
    exact ab (by simp) (hok _) (by simp[below])
   ·have hw:w0 fns k f=⟨[],0,2⟩:=by rw[w0,if_neg he]
    have hne:¬ixI (ca fns f.name)=(k:Int):=by
     intro h
     apply he
     cases e:ca fns f.name with
     |none=>rw[e] at h;simp only[ixI] at h;omega
     |some j=>rw[e] at h;simp only[ixI] at h;have:j=k:=by omega
              rw[this]
    rw[hw]
    simp-implicitDefEqProofs[hne]
    refine(GP G (wid:=2) (id:=4) (mu G true fns k ⟨[],0,0⟩ 2) (by simp) (by simp[below]) (by decide) rfl rfl).mono ?_
    rintro r h' ⟨rfl,rfl⟩
    simp-implicitDefEqProofs[aa]
    exact ab (h:=[AO.row 1 [[.p (fdL fns)]],.row 3 [[.p (.str []),.nils,.nils]],wO 4 true fns k ⟨[],0,2⟩,.row 3 [[.p (.str f.name),.p (aC f.params),.p (smL f.body)]],.dead]) (by simp) (hok _) (by simp[below])
  rw[Gy]
  have hw0v:(w0 fns k f).vs=[]:=rfl
  have hw0c:(w0 fns k f).count=0:=rfl
  generalize w0 fns k f=w0 at hw0v hw0c⊢
  simp-implicitDefEqProofs[]
  have hcnt:∀j,j≤f.params.length→(cD (f.params.take j) w0).count=j:=fun j hj=>by rw[qq,hw0c];simp;omega
  have hvl:∀j,(cD (f.params.take j) w0).vs.length≤(cD (f.params.take j) w0).count:=fun j=>wh _ _ (by rw[hw0v];simp)
  refine aJ (fun j:Nat=>aj 62 [(1,.p (.int .i64 k)),(2,.ptr 0 1 0 0),(4,.ptr 1 3 0 0),(7,.ptr 2 5 0 0),(8,.ptr 3 3 0 0),(9,.sl 5 1 0 j),(10,.p (.int .i64 j))])
   (fun j=>[.row 1 [[.p (fdL fns)]],.row 3 [[.p (.str []),.nils,.nils]],wO 6 (decide (j=0)) fns k (cD (f.params.take j) w0),.row 3 [[.p (.str f.name),.p (aC f.params),.p (smL f.body)]],.dead,bH (mM (f.params.take j) w0),roC (decide (j=0)) (cD (f.params.take j) w0).vs])
   (fun j=>j≤f.params.length) (fun j=>f.params.length-j) 0 (by simp) ?_ ?_
  ·refine oh (h:=[.row 1 [[.p (fdL fns)]],.row 3 [[.p (.str []),.nils,.nils]],wO 6 true fns k w0,.row 3 [[.p (.str f.name),.p (aC f.params),.p (smL f.body)]],.dead,.row 1 []]) (by simp) (by simp) ?_ (by simp[below])
   refine ae (by simp[okO,below]) (ae (by simp[okO,below]) (ae ?_ (ae (by simp[okO,below]) (ae trivial (ae (by simp[okO]) bv)))))
   intro x hx
   rw[List.mem_singleton.1 hx];simp[wC,vaC,below]
  intro j hj
  have hjc:=hcnt j hj
  have hjv:=hvl j
  have hol:=tr (f.params.take j) w0
  rw[List.length_take,Nat.min_eq_left hj] at hol
  have hnf:decide (j=0)=true→(cD (f.params.take j) w0).vs=[]:=by
   intro h
   have h0:j=0:=by simpa using h
   rw[h0,List.take_zero]
   exact hw0v
  simp-implicitDefEqProofs[hst]
  refine aS (fun h=>?_) (fun h=>?_)
  ·simp at h
   have hg:=List.getElem?_eq_getElem h
   have eP:=yj (w:=w0) h
   have eR:=Bp (w:=w0) h
   simp-implicitDefEqProofs[hg]
   refine(Dq G (wid:=2) (id:=6) (Q:=fun nf' w'=>nf'=false∧w'=iY (cD (f.params.take j) w0) f.params[j] 0) ((Eu G (decide (j=0)) fns k _ hnf (by omega) (by omega) f.params[j] 0).mono (by rintro x h ⟨rfl,rfl⟩;exact⟨false,_,rfl,rfl,rfl,rfl⟩)) (by simp) (by simp[below]) (by decide) rfl rfl).mono ?_
   rintro r h' ⟨nf',w',rfl,rfl,rfl,rfl⟩
   have hso:∀l,bH l= .row 1 (l.map fun n=>[.p (.str n)]):=fun _=>rfl
   simp-implicitDefEqProofs[aa,hso,hol]
   refine⟨by omega,j+1,by omega,by omega,?_⟩
   have htk:List.take j ((mM (f.params.take j) w0).map fun n=>[AV.p (.str n)])=(mM (f.params.take j) w0).map fun n=>[AV.p (.str n)]:=List.take_of_length_le (by rw[List.length_map];omega)
   have hd:decide (j+1=0)=false:=by simp
   rw[eP,eR,hd,List.map_append,←List.map_take,List.map_take,htk]
   refine ph [0,1,2,3,4,9,7] rfl (by decide) (aW rfl (by simp) (aW rfl (by simp[below]) (sw (by simp) rfl (aW rfl (by simp) (bJ (by simp) (aW rfl (fun x hx=>?_) (bx rfl (fp _ _ _) bm))))))) (by simp[below,ren,w1 (i:=j) (by omega)])
   rcases List.mem_append.1 hx with h|h
   ·exact bq _ x h
   ·exact bq _ x h
  ·simp at h
   have hje:j=f.params.length:=by omega
   subst hje
   rw[List.take_length] at hol hjc hjv hnf⊢
   generalize decide (f.params.length=0)=nf at hnf⊢
   simp-implicitDefEqProofs[]
   refine(Dq G (wid:=2) (id:=6) (Ds G (fns:=fns) (by omega) (aq f.body+1) f.body (by omega) 0 _ (cD f.params w0) hnf hjv (by omega) (by omega)) (by simp) (by simp[below]) (by decide) rfl rfl).mono ?_
   rintro r h' ⟨nf',w',rfl,rfl,hn',hw'⟩
   have hb:nI fns k 0 f.body (cD f.params w0)=cd fns k 0 f.body (cD f.params w0):=rfl
   rw[hb] at hw'
   rw[←hw']
   simp-implicitDefEqProofs[aa,wO,wC]
 refine key.freezeR (fun t v h ⟨e,_⟩=>by cases e) fun v h ⟨e1,e2⟩=>?_
 cases e1
 rw[DW]
 have hol:=tr f.params (w0 fns k f)
 have hv:=dI e2
 rw[hol] at hv
 exact .tup (.agg (.keep (by simp) (.one hv (.keep (by simp) .nil))) (.keep (by simp) (.keep (by simp) .nil))) .nil
theorem wW{fns:List Fd}{i:Nat}(h:i<fns.length):gx fns i (fns.drop i)=if(fnW fns i fns[i]).code=0 then gx fns (i+1) (fns.drop (i+1)) else(fnW fns i fns[i]).code:=by
 rw[List.drop_eq_getElem_cons h,gx]
theorem rY(l:List Fd)(hz:aY l≤1073741824):VF Tryz.prog G eC [.agg [.p (fdL l)]] (.p (.int .i64 (bF l))):=by
 refine AC.go mI ?_
 have hll:=cf l
 have hfd:∀l,fdL l= .lst 3 (l.map Fd.cs):=fun _=>rfl
 simp-implicitDefEqProofs[gY]
 refine(iI G l (by omega)).use ?_
 by_cases hv:bt l=true
 case neg=>
  have:bF l=1:=if_neg hv
  have hv':bt l=false:=by simpa using hv
  simp-implicitDefEqProofs[hv',this]
 have hc:bF l=gx l 0 (l.drop 0):=if_pos hv
 rw[hc]
 simp-implicitDefEqProofs[hv]
 refine aJ (fun i:Nat=>aj 27 [(1,.ptr 0 1 0 0),(3,.p (.int .i64 i))]) (fun _=>[.row 1 [[.p (fdL l)]]]) (fun i=>i≤l.length∧gx l 0 l=gx l i (l.drop i)) (fun i=>l.length-i) 0 (by simp) (ab (by simp) (by simp[okO]) (by simp[below])) ?_
 rintro i ⟨hi,he⟩
 simp-implicitDefEqProofs[hfd]
 refine aS (fun h=>?_) (fun h=>?_)
 ·simp at h
  have hg:=List.getElem?_eq_getElem h
  have hd:=wW h
  simp-implicitDefEqProofs[]
  refine(Gv G hg hz).use ?_
  have hrc:=DW l i l[i]
  by_cases h0:(fnW l i l[i]).code=0
  ·rw[if_pos h0] at hd
   simp-implicitDefEqProofs[h0,hrc]
   refine⟨i+1,⟨by omega,by rw[he,hd]⟩,by omega,?_⟩
   refine fX (m:=1) (by omega) (dd rfl rfl (by simp[okO,below])) (by simp[below,hfd,w1 (i:=i) (by omega)])
  ·rw[if_neg h0] at hd
   simp-implicitDefEqProofs[h0,hrc]
   rw[he,hd]
 ·simp at h
  have hie:i=l.length:=by omega
  subst hie
  rw[List.drop_length] at he
  simp-implicitDefEqProofs[]
  rw[he];rfl
end Go.Proofs.YtnjbhgpbgmpkcaaGreatDoor
namespace Go.Proofs.YtnjbhgpbgmpkcaaGreatDoor
open Go Go.Aw
set_option maxRecDepth 100000
set_option maxHeartbeats 4000000
variable (G:ay)
theorem CD(l:List Fd)(hz:aY l≤1073741824):VF Tryz.prog G jJ [.agg [.p (fdL l)]] (.p (.bool (decide (bF l=0)))):=by
 refine AC.go tJ ?_
 simp-implicitDefEqProofs[nc]
 refine(rY G l hz).use ?_
 simp-implicitDefEqProofs[]
variable (hK:G eE=some dV) (hS:G cJ=some [.tbl opK opV])
include hK hS
theorem Cr(l:List Fd)(hz:aY l≤1073741824):VF Tryz.prog G jn [.agg [.p (fdL l)]] (.p (.bool (decide (bF l=0)))):=by
 refine AC.go xw ?_
 simp-implicitDefEqProofs[qy]
 refine(lB G hK hS l hz).use ?_
 simp-implicitDefEqProofs[]
end Go.Proofs.YtnjbhgpbgmpkcaaGreatDoor
namespace Go.Proofs.YtnjbhgpbgmpkcaaGreatDoor
open Go Go.Aw
set_option maxRecDepth 100000
set_option maxHeartbeats 4000000
abbrev Wds:=List (List UInt8)
mutual
def nmE(op:Int):Ex→Wds→Wds
 | .mk o _ s ks,out=>eL op ks (if o=op∧s∉out then out++[s] else out)
def eL(op:Int):List Ex→Wds→Wds
 |[],out=>out
 |e::r,out=>eL op r (nmE op e out)
end
mutual
def clS:Sm→Wds→Wds
 | .mk _ _ a b e,out=>eX e (eX b (eL 13 a out))
def eX:List Sm→Wds→Wds
 |[],out=>out
 |s::r,out=>eX r (clS s out)
end
def dN(l:List Fd)(bd:List Sm)(k:Nat):List Nat:=(List.range k).filter fun i=>match l[i]? with|some g=>decide (g.name∈eX bd [])|none=>false
def bM(l:List Fd)(k:Int):List Nat:=if bF l=0∧inR k 0 ((l.length:Int)-1)=true then(match l[k.toNat]? with|some f=>dN l f.body k.toNat|none=>[]) else[]
theorem GG(op:Int)(e:Ex)(out:Wds):nmE op e out=eL op e.kids (if e.op=op∧e.name∉out then out++[e.name] else out):=by cases e;rfl
theorem GV(s:Sm)(out:Wds):clS s out=eX s.els (eX s.body (eL 13 s.args out)):=by cases s;rfl
theorem xm(op:Int):∀(a b:List Ex) (out:Wds),eL op (a++b) out=eL op b (eL op a out)
 |[],b,out=>rfl
 |e::r,b,out=>by rw[List.cons_append,eL,eL,xm op r]
theorem uF{op:Int}{l:List Ex}{out:Wds}{i:Nat}(h:i<l.length):eL op (l.take (i+1)) out=nmE op l[i] (eL op (l.take i) out):=by
 rw[al h,xm];rfl
theorem xE:∀(a b:List Sm) (out:Wds),eX (a++b) out=eX b (eX a out)
 |[],b,out=>rfl
 |e::r,b,out=>by rw[List.cons_append,eX,eX,xE r]
theorem Ao{l:List Sm}{out:Wds}{i:Nat}(h:i<l.length):eX (l.take (i+1)) out=clS l[i] (eX (l.take i) out):=by
 rw[al h,xE];rfl
theorem Aj(l:List Ex)(i:Nat):aU (l.take i)≤aU l:=by
 have e:aU l=aU (l.take i)+aU (l.drop i):=by rw[←cS,List.take_append_drop]
 omega
theorem zI{l:List Ex}{i:Nat}(h:i<l.length):aU (l.take i)+l[i].sz≤aU l:=by
 have e:aU l=aU (l.take i)+aU (l.drop i):=by rw[←cS,List.take_append_drop]
 rw[List.drop_eq_getElem_cons h] at e
 simp only[aU] at e
 omega
mutual
theorem FA(op:Int):∀(e:Ex) (out:Wds),(nmE op e out).length≤out.length+e.sz
 | .mk o _ s ks,out=>by
   have h:=lQ op ks (if o=op∧s∉out then out++[s] else out)
   have h2:(if o=op∧s∉out then out++[s] else out).length≤out.length+1:=by split<;>simp
   rw[nmE,Ex.sz];omega
theorem lQ(op:Int):∀(l:List Ex) (out:Wds),(eL op l out).length≤out.length+aU l
 |[],out=>by simp[eL,aU]
 |e::r,out=>by
  have h1:=FA op e out
  have h2:=lQ op r (nmE op e out)
  rw[eL,aU];omega
end
mutual
theorem FU:∀(s:Sm) (out:Wds),(clS s out).length≤out.length+s.sz
 | .mk _ _ a b e,out=>by
   have h1:=lQ 13 a out
   have h2:=jZ b (eL 13 a out)
   have h3:=jZ e (eX b (eL 13 a out))
   rw[clS,Sm.sz];omega
theorem jZ:∀(l:List Sm) (out:Wds),(eX l out).length≤out.length+aq l
 |[],out=>by simp[eX,aq]
 |s::r,out=>by
  have h1:=FU s out
  have h2:=jZ r (clS s out)
  rw[eX,aq];omega
end
def K_spec_l2Names:AK:= .seq (.reg [oJ 3 (.box 4 (.t 0)),oJ 6 (.mov (.c .nils))]) (.cut (.seq (.reg [oF 8 0 3,oL 9 8,oM 10 1,oJ 11 (.bin .eql (.t 9) (.t 10)),oM 12 11,⟨(some 13),some (12,true),.mov (.t 2)⟩,⟨(some 14),some (12,true),.fldA 2 (.t 3)⟩,⟨(some 15),some (12,true),.ld none (.t 14)⟩,⟨(some 16),some (12,true),.call fG [(.t 13),(.t 15)]⟩,⟨(some 17),some (12,true),.not (.t 16)⟩,oJ 18 (.pick (.t 12) (.t 17) (.c (.p (.bool false))))]) (.cond (.t 18) (.reg [oM 19 2,oF 20 2 3,oL 21 20,oJ 22 (.bsl 1 [(.p (.str []))] 1 [(0,1,(.t 21))]),oJ 23 (.app 1 16 (.t 19) (.t 22)),oM 2 23]) (.skip))) (.seq (.seq (.reg [oK 7 0]) (.blk 0 (.loop (.seq (.seq (.reg [oM 24 7,oF 25 3 3,oL 26 25,oJ 27 (.len false (.t 26)),oJ 28 (.bin .lss (.t 24) (.t 27))]) (.cond (.t 28) (.skip) (.exit 0))) (.seq (.blk 1 (.reg [oF 31 3 3,oL 32 31,oM 33 7,oJ 34 (.idxS 4 (.t 32) (.t 33)),oJ 35 (.ld (some 4) (.t 34)),oM 36 1,oM 37 2,oJ 38 (.call di [(.t 35),(.t 36),(.t 37)]),oM 2 38])) (.reg [oM 29 7,oJ 30 (.bin .add (.t 29) (.c (.p (.int .i64 1)))),oM 7 30])))))) (.seq (.reg [oM 39 2,oM 6 39]) (.ret))))
theorem sh:K_spec_l2Names.whole=F_spec_l2Names.ak:=rfl
variable (G:ay)
theorem vp(l:Wds)(s:List UInt8)(hl:l.length≤1099511627776):VF Tryz.prog G fG [.p (aC l),.p (.str s)] (.p (.bool (decide (s∈l)))):=by
 refine AC.go vJ ?_
 have hsl:∀l,aC l= .lst 1 (l.map fun w=>[.str w]):=fun _=>rfl
 simp-implicitDefEqProofs[pf,hsl]
 refine aJ (fun i:Nat=>aj 18 [(0,.p (aC l)),(1,.p (.str s)),(5,.p (.int .i64 i))]) (fun _=>[]) (fun i=>i≤l.length∧s∉l.take i) (fun i=>l.length-i) 0 (by simp) (co rfl (by simp[below,hsl])) ?_
 rintro i ⟨hi,hn⟩
 simp-implicitDefEqProofs[hsl]
 refine aS (fun h=>?_) (fun h=>?_)
 ·simp at h
  have hg:=List.getElem?_eq_getElem h
  have hmem:=List.getElem_mem h
  have htk:=al h
  generalize l[i]=w at hg hmem htk
  by_cases he:w=s
  ·have hm:s∈l:=he▸hmem
   simp-implicitDefEqProofs[hg,he,hm]
  ·simp-implicitDefEqProofs[hg,he]
   refine⟨i+1,⟨h,fun hp=>?_⟩,by omega,co rfl (by simp[below,hsl,w1 (i:=i) (by omega)])⟩
   rw[htk] at hp
   rcases List.mem_append.1 hp with hp|hp
   ·exact hn hp
   ·rw[List.mem_singleton] at hp;exact he hp.symm
 ·simp at h
  rw[List.take_of_length_le h] at hn
  simp-implicitDefEqProofs[hn]
theorem sH{f:FuncId}{args:List AV}{l l':Wds}(H:AC Tryz.prog G f (args++[.sl 0 1 0 l.length]) [bH l] fun x h=>x= .ret (.sl 1 1 0 l'.length)∧h=[.dead,bH l'])(ha:ah 0 args){h:List AO}{id:Nat}(e:h[id]?=some (bH l)):
 AC Tryz.prog G f (args++[.sl id 1 0 l.length]) h fun x h'=>x= .ret (.sl h.length 1 0 l'.length)∧h'=h.set id .dead++[bH l']:=by
 have hTW:TW [id] (args++[.sl id 1 0 l.length]) (args++[.sl 0 1 0 l.length]):=by
  clear H
  induction args with
  |nil=>simp[below,ren]
  |cons v r ih=>
   rw[List.cons_append,List.cons_append,pq]
   refine⟨.inr ⟨(aN (Nat.zero_le _) [v] ⟨ha.1,trivial⟩).1,?_⟩,ih ha.2⟩
   have:=dg [id] [v] ⟨ha.1,trivial⟩
   simpa[bf] using this
 refine(H.frame [id] (by simp) hTW (bx e (fun x hx=>bq l x hx) bm)).mono ?_
 rintro x h' ⟨x0,h0,⟨rfl,rfl⟩,_,rfl,rfl⟩
 refine⟨?_,?_⟩
 ·simp[ri,ren]
 ·have hp:∀σ,fh σ (bH l')=bH l':=fun σ=>by simp[bH,fh,bf,ren]
  simp only[List.length_cons,List.length_nil,List.take_succ_cons,List.take_zero,List.map_cons,List.map_nil,List.drop_succ_cons,List.drop_zero,hp,mrg]
  rfl
theorem Bt:∀(N:Nat) (e:Ex),e.sz≤N→∀(op:Int) (out:Wds),out.length+e.sz≤1099511627776→
 AC Tryz.prog G di [.agg (e.cs.map .p),.p (.int .i64 op),.sl 0 1 0 out.length] [bH out] fun x h=>x= .ret (.sl 1 1 0 (nmE op e out).length)∧h=[.dead,bH (nmE op e out)]:=by
 intro N
 induction N with
 |zero=>intro e he;have:=e.sz_eq;omega
 |succ N ih=>
  intro e he op out hb
  have hec:=e.cs_eq
  have hsz:=e.sz_eq
  have hkl:=bL e.kids
  rw[GG]
  have key:AC Tryz.prog G di [.agg (e.cs.map .p),.p (.int .i64 op),.sl 0 1 0 out.length] [bH out] fun x h=>∃r,∃out',out'=eL op e.kids (if e.op=op∧e.name∉out then out++[e.name] else out)∧x= .ret (.sl 2 1 0 out'.length)∧h= .dead::r::[bH out']:=by
   refine AC.goK sA sh ?_
   have hso:∀l,bH l= .row 1 (l.map fun n=>[.p (.str n)]):=fun _=>rfl
   have hbox:∀o:AO,o= .row 4 [[.p (.int .i64 e.op),.p (.int .i64 e.n),.p (.str e.name),.p (exL e.kids)]]→okO 0 o:=fun o h=>by rw[h];simp[okO,below]
   simp-implicitDefEqProofs[K_spec_l2Names,F_spec_l2Names,hec]
   obtain⟨out1,ho1⟩:∃out1,out1=(if e.op=op∧e.name∉out then out++[e.name] else out):=⟨_,rfl⟩
   rw[←ho1]
   have hol1:out1.length≤out.length+1:=by rw[ho1];split<;>simp
   refine kD (aj 40 [(1,.p (.int .i64 op)),(2,.sl 2 1 0 out1.length),(3,.ptr 1 4 0 0)]) [.dead,.row 4 [[.p (.int .i64 e.op),.p (.int .i64 e.n),.p (.str e.name),.p (exL e.kids)]],bH out1] ?_ ?_
   ·by_cases ho:e.op=op
    ·by_cases hm:e.name∈out
     ·have h1:out1=out:=by rw[ho1,if_neg (fun h=>h.2 hm)]
      simp-implicitDefEqProofs[ho]
      refine((vp G out e.name (by omega)).lend (.one (dI rfl) (.keep (by simp) .nil)) rfl).mono ?_
      rintro r h ⟨rfl,rfl⟩
      simp-implicitDefEqProofs[aa,hm]
      rw[h1]
      exact py [0,1,0] (by simp) (by decide) (by simp[fx,bH]) (bJ (by simp) (bx rfl (by simp[okO]) (bx rfl (fun x hx=>bq out x hx) bm))) (by simp[below,ren])
     ·have h1:out1=out++[e.name]:=by rw[ho1,if_pos ⟨ho,hm⟩]
      simp-implicitDefEqProofs[ho]
      refine((vp G out e.name (by omega)).lend (.one (dI rfl) (.keep (by simp) .nil)) rfl).mono ?_
      rintro r h ⟨rfl,rfl⟩
      simp-implicitDefEqProofs[aa,hm,hso]
      refine⟨by omega,?_⟩
      have htk:List.take out.length (out.map fun n=>[AV.p (.str n)])=out.map fun n=>[AV.p (.str n)]:=List.take_of_length_le (by simp)
      have hl1:out1.length=out.length+1:=by rw[h1];simp
      rw[hl1,htk]
      refine db [0,1,3] (by simp) (by decide) (by decide) (bJ (by simp) (bx rfl (by simp[okO]) (bx ?_ (fun x hx=>bq out1 x hx) bm))) (by simp[below,ren])
      rw[h1];simp
    ·have h1:out1=out:=by rw[ho1,if_neg (fun h=>ho h.1)]
     simp-implicitDefEqProofs[ho]
     rw[h1]
     exact py [0,1,0] (by simp) (by decide) (by simp[fx,bH]) (bJ (by simp) (bx rfl (by simp[okO]) (bx rfl (fun x hx=>bq out x hx) bm))) (by simp[below,ren])
   have hxl:exL e.kids= .lst 4 (e.kids.map Ex.cs):=rfl
   simp-implicitDefEqProofs[]
   refine aJ (fun i:Nat=>aj 40 [(1,.p (.int .i64 op)),(2,.sl 2 1 0 (eL op (e.kids.take i) out1).length),(3,.ptr 1 4 0 0),(7,.p (.int .i64 i))])
    (fun i=>[.dead,.row 4 [[.p (.int .i64 e.op),.p (.int .i64 e.n),.p (.str e.name),.p (exL e.kids)]],bH (eL op (e.kids.take i) out1)])
    (fun i=>i≤e.kids.length) (fun i=>e.kids.length-i) 0 (by simp) ?_ ?_
   ·exact ab (by simp) (ae trivial (ae (bu (hbox _ rfl)) (ae (bu (bq _)) bv))) (by simp[below,eL])
   ·intro i hi
    have hl2:=lQ op (e.kids.take i) out1
    have hzt:=Aj e.kids i
    simp-implicitDefEqProofs[hxl]
    refine aS (fun h=>?_) (fun h=>?_)
    ·simp at h
     have hg:=List.getElem?_eq_getElem h
     have hks:=bQ (List.getElem_mem h)
     have hT:=uF (op:=op) (out:=out1) h
     have hzt2:=zI h
     generalize hcur:eL op (e.kids.take i) out1=cur at hl2 hT
     generalize e.kids[i]=c at hg hks hT hzt2
     simp-implicitDefEqProofs[hg]
     refine(sH G (args:=[.agg (c.cs.map .p),.p (.int .i64 op)]) (ih c (by omega) op cur (by omega)) (by simp[below]) (id:=2) rfl).mono ?_
     rintro r h ⟨rfl,rfl⟩
     simp-implicitDefEqProofs[aa]
     refine⟨i+1,h,by omega,?_⟩
     rw[hT]
     exact db [0,1,3] (by simp) (by decide) (by decide) (bJ (by simp) (bx rfl (by simp[okO]) (bx rfl (fun x hx=>bq _ x hx) bm))) (by simp[below,ren,w1 (i:=i) (by omega)])
    ·simp at h
     have hie:i=e.kids.length:=by omega
     subst hie
     rw[List.take_length]
     simp-implicitDefEqProofs[]
  refine key.wk (fun t v h ⟨_,_,_,e,_⟩=>by cases e) ?_
  rintro v h ⟨r,out',rfl,e,rfl⟩
  cases e
  exact⟨_,_,Wk.of [0,2] (by simp) (fun i hi=>by simp at hi;subst hi;rfl) (by decide) (by simp[below,ren]) (bJ (by simp) (bx rfl (fun x hx=>bq _ x hx) bm)),rfl,rfl⟩
theorem Au:∀(N:Nat) (l:List Sm),aq l<N→∀out:Wds,out.length+aq l≤1099511627776→
 AC Tryz.prog G dS [.p (smL l),.sl 0 1 0 out.length] [bH out] fun x h=>x= .ret (.sl 1 1 0 (eX l out).length)∧h=[.dead,bH (eX l out)]:=by
 intro N
 induction N with
 |zero=>intro l hl;omega
 |succ N ih=>
  intro l hl out hb
  have hll:=cg l
  have hsl:∀l,smL l= .lst 5 (l.map Sm.cs):=fun _=>rfl
  have hxl:∀l,exL l= .lst 4 (l.map Ex.cs):=fun _=>rfl
  refine AC.go sN ?_
  simp-implicitDefEqProofs[lw]
  refine aJ (fun i:Nat=>aj 47 [(0,.p (smL l)),(1,.sl 1 1 0 (eX (l.take i) out).length),(5,.p (.int .i64 i))]) (fun i=>[.dead,bH (eX (l.take i) out)]) (fun i=>i≤l.length) (fun i=>l.length-i) 0 (by simp) ?_ ?_
  ·exact py [0,0] (by simp) (by simp) (by simp[fx,bH]) (bJ (by simp) (bx rfl (fun x hx=>bq out x hx) bm)) (by simp[below,ren,eX,hsl])
  ·intro i hi
   have hl2:=jZ (l.take i) out
   simp-implicitDefEqProofs[hsl]
   refine aS (fun h=>?_) (fun h=>?_)
   ·simp at h
    have hg:=List.getElem?_eq_getElem h
    have hat:=zJ h
    have hT:=Ao (out:=out) h
    have hse:=l[i].cs_eq
    have hsz:=l[i].sz_eq
    have hcl:=GV l[i]
    generalize eX (l.take i) out=cur at hl2 hT⊢
    generalize l[i]=s at hg hat hT hse hsz hcl
    obtain⟨o,nme,a,bd,el⟩:=s
    simp only[Sm.op,Sm.name,Sm.args,Sm.body,Sm.els] at hse hsz hcl
    simp-implicitDefEqProofs[]
    refine aJ (fun j:Nat=>aj 47 [(0,.p (smL l)),(1,.sl 1 1 0 (eL 13 (a.take j) cur).length),(5,.p (.int .i64 i)),(6,.p (.int .i64 j))]) (fun j=>[.dead,bH (eL 13 (a.take j) cur)]) (fun j=>j≤a.length) (fun j=>a.length-j) 0 (by simp) ?_ ?_
    ·exact ab (by simp) (ae trivial (ae (bu (bq _)) bv)) (by simp[below,eL,hsl])
    ·intro j hj
     have hl3:=lQ 13 (a.take j) cur
     have hal:=bL a
     simp-implicitDefEqProofs[hsl,hg,hse,hxl]
     refine aS (fun hc=>?_) (fun hc=>?_)
     ·simp at hc
      have hga:=List.getElem?_eq_getElem hc
      have hzt:=zI hc
      have hT2:=uF (op:=13) (out:=cur) hc
      generalize eL 13 (a.take j) cur=cj at hl3 hT2⊢
      generalize a[j]=c at hga hzt hT2
      simp-implicitDefEqProofs[hg,hse,hsl,hxl,hga]
      refine(sH G (args:=[.agg (c.cs.map .p),.p (.int .i64 13)]) (Bt G c.sz c (Nat.le_refl _) 13 cj (by omega)) (by simp[below]) (id:=1) rfl).mono ?_
      rintro r h ⟨rfl,rfl⟩
      simp-implicitDefEqProofs[aa]
      refine⟨j+1,hc,by omega,?_⟩
      rw[hT2]
      exact db [0,2] (by simp) (by decide) (by decide) (bJ (by simp) (bx rfl (fun x hx=>bq _ x hx) bm)) (by simp[below,ren,hsl,w1 (i:=j) (by omega)])
     ·simp at hc
      have hje:j=a.length:=by omega
      subst hje
      rw[List.take_length] at hl3⊢
      have hl4:=jZ bd (eL 13 a cur)
      simp-implicitDefEqProofs[hg,hse]
      refine(sH G (args:=[.p (smL bd)]) (ih bd (by omega) (eL 13 a cur) (by omega)) (by simp[below]) (id:=1) rfl).mono ?_
      rintro r h ⟨rfl,rfl⟩
      simp-implicitDefEqProofs[aa,hg,hse,hsl]
      refine(sH G (args:=[.p (smL el)]) (ih el (by omega) (eX bd (eL 13 a cur)) (by omega)) (by simp[below]) (id:=2) rfl).mono ?_
      rintro r h ⟨rfl,rfl⟩
      simp-implicitDefEqProofs[aa]
      refine⟨i+1,h,by omega,?_⟩
      rw[hT,hcl]
      exact db [0,3] (by simp) (by decide) (by decide) (bJ (by simp) (bx rfl (fun x hx=>bq _ x hx) bm)) (by simp[below,ren,hsl,w1 (i:=i) (by omega)])
   ·simp at h
    have hie:i=l.length:=by omega
    subst hie
    rw[List.take_length]
    simp-implicitDefEqProofs[]
def dt(l:List Fd)(bd:List Sm)(i:Nat):List Nat:=(List.range i).filter fun i=>match l[i]? with|some g=>decide (g.name∈eX bd [])|none=>false
theorem vg(l:List Fd)(bd:List Sm)(i:Nat)(g:Fd)(hg:l[i]?=some g):dt l bd (i+1)=if g.name∈eX bd [] then dt l bd i++[i] else dt l bd i:=by
 rw[dt,List.range_succ,List.filter_append]
 simp only[List.filter_cons,List.filter_nil,hg]
 by_cases h:g.name∈eX bd []
 ·simp[h,dt]
 ·simp[h,dt]
theorem jj(l:List Fd)(bd:List Sm)(i:Nat):(dt l bd i).length≤i:=by
 have:=List.length_filter_le (fun i=>match l[i]? with|some g=>decide (g.name∈eX bd [])|none=>false) (List.range i)
 rw[List.length_range] at this
 exact this
theorem xN{fns:List Fd}{k:Nat}{f:Fd}(hk:fns[k]?=some f)(hz:aY fns≤1073741824):VF Tryz.prog G ff [.agg [.p (fdL fns)],.p (.int .i64 k)] (.p (Gc (dN fns f.body k))):=by
 have hfl:=cf fns
 have hfm:=dY (List.mem_of_getElem? hk)
 have hfz:f.sz=1+f.name.length+(f.params.length+(f.params.map List.length).sum)+aq f.body:=rfl
 have hkl:=(List.getElem?_eq_some_iff.1 hk).1
 have hcn:dN fns f.body k=dt fns f.body k:=rfl
 have hlc:=jZ f.body []
 have key:AC Tryz.prog G ff [.agg [.p (fdL fns)],.p (.int .i64 k)] [] fun x h=>x= .ret (.sl 3 1 0 (dt fns f.body k).length)∧h[3]?=some (tO (dt fns f.body k)):=by
  refine AC.go qN ?_
  have hfd:∀l,fdL l= .lst 3 (l.map Fd.cs):=fun _=>rfl
  have hcs:f.cs=[.str f.name,aC f.params,smL f.body]:=rfl
  have hno:∀l,tO l= .row 1 (l.map fun(n:Nat)=>[.p (.int .i64 (n:Int))]):=fun _=>rfl
  simp-implicitDefEqProofs[kL,hfd,hk,hcs]
  have hst0:AO.row 1 []=bH []:=rfl
  refine(sH G (args:=[.p (smL f.body)]) (l:=[]) (Au G (aq f.body+1) f.body (by omega) [] (by simp;omega)) (by simp[below]) (id:=1) rfl).mono ?_
  rintro r h ⟨rfl,rfl⟩
  simp-implicitDefEqProofs[aa]
  generalize hnm:eX f.body []=nm at hlc
  refine aJ (fun i:Nat=>aj 35 [(1,.p (.int .i64 k)),(2,.ptr 0 1 0 0),(5,.sl 2 1 0 nm.length),(6,.sl 3 1 0 (dt fns f.body i).length),(7,.p (.int .i64 i))]) (fun i=>[.row 1 [[.p (.lst 3 (fns.map Fd.cs))]],.dead,bH nm,tO (dt fns f.body i)]) (fun i=>i≤k) (fun i=>k-i) 0 (by simp) ?_ ?_
  ·exact ab (h:=[.row 1 [[.p (.lst 3 (fns.map Fd.cs))]],.dead,bH nm,.row 1 []]) (by simp) (ae (by simp[okO,below]) (ae trivial (ae (bu (bq _)) (ae (by simp[okO]) bv)))) (by simp[below,dt])
  ·intro i hi
   have hcl:=jj fns f.body i
   simp-implicitDefEqProofs[]
   refine aS (fun h=>?_) (fun h=>?_)
   ·simp at h
    have hil:i<fns.length:=by omega
    have hg:=List.getElem?_eq_getElem hil
    generalize fns[i]=g at hg
    have hS:=vg fns f.body i g hg
    rw[hnm] at hS
    have hgs:g.cs=[.str g.name,aC g.params,smL g.body]:=rfl
    simp-implicitDefEqProofs[hg,hgs]
    refine((vp G nm g.name (by simp at hlc;omega)).lend (.one (dI rfl) (.keep (by simp) .nil)) rfl).mono ?_
    rintro r h ⟨rfl,rfl⟩
    generalize dt fns f.body i=c at hcl hS⊢
    by_cases hm:g.name∈nm
    ·rw[if_pos hm] at hS
     simp-implicitDefEqProofs[aa,hm,hno]
     refine⟨by omega,i+1,h,by omega,?_⟩
     have htk:List.take c.length (c.map fun(n:Nat)=>[AV.p (.int .i64 (n:Int))])=c.map fun(n:Nat)=>[AV.p (.int .i64 (n:Int))]:=List.take_of_length_le (by simp)
     rw[hS,htk,List.map_append]
     refine ph [0,1,2,5] rfl (by decide) (aW rfl (by simp) (bJ (by simp) (bx rfl (fun x hx=>bq _ x hx) (aW rfl (fun x hx=>?_) bm)))) (by simp[below,ren,w1 (i:=i) (by omega)])
     rcases List.mem_append.1 hx with h|h
     ·exact il _ x h
     ·exact il _ x h
    ·rw[if_neg hm] at hS
     simp-implicitDefEqProofs[aa,hm]
     refine⟨i+1,h,by omega,?_⟩
     rw[hS]
     exact ab (h:=[.row 1 [[.p (.lst 3 (fns.map Fd.cs))]],.dead,bH nm,tO c]) (by simp) (ae (by simp[okO,below]) (ae trivial (ae (bu (bq _)) (ae (bu (il _)) bv)))) (by simp[below,w1 (i:=i) (by omega)])
   ·simp at h
    have hie:i=k:=by omega
    subst hie
    simp-implicitDefEqProofs[]
 rw[hcn]
 refine key.freezeR (fun t v h ⟨e,_⟩=>by cases e) fun v h ⟨e1,e2⟩=>?_
 cases e1
 exact .one (Bo e2) .nil
end Go.Proofs.YtnjbhgpbgmpkcaaGreatDoor
namespace Go.Proofs.YtnjbhgpbgmpkcaaGreatDoor
open Go Go.Aw
set_option maxRecDepth 100000
set_option maxHeartbeats 4000000
theorem rI{xs:List Int}(hp:xs.Pairwise (· ≤ ·)):∀j,j<xs.length→∃i,i≤j∧Lib.keeps xs.toArray i=true∧xs[i]! =xs[j]! :=by
 intro j
 induction j with
 |zero=>intro h;exact⟨0,Nat.le_refl _,Lib.keeps_lt_one _ 0 (by omega),rfl⟩
 |succ j ih=>
  intro h
  by_cases e:xs.toArray[j+1]! =xs.toArray[j+1-1]!
  ·obtain⟨i,h1,h2,h3⟩:=ih (by omega)
   refine⟨i,by omega,h2,?_⟩
   have e':xs[j+1]! =xs[j]! :=by simpa using e
   rw[h3,e']
  ·exact⟨j+1,Nat.le_refl _,Lib.keeps_pos e,rfl⟩
theorem xq(xs:List Int):(Lib.compact xs).length≤xs.length:=by
 unfold Lib.compact Lib.compactUpTo
 rw[List.length_map]
 have:=List.length_filter_le (Lib.keeps xs.toArray) (List.range xs.length)
 rwa[List.length_range] at this
theorem wl{xs:List Int}(hp:xs.Pairwise (· ≤ ·))(x:Int):x∈Lib.compact xs↔x∈xs:=by
 unfold Lib.compact Lib.compactUpTo
 simp only[List.mem_map,List.mem_filter,List.mem_range]
 constructor
 ·rintro⟨j,⟨h1,_⟩,rfl⟩
  have e:xs.toArray[j]! =xs[j]:=by simp[h1]
  rw[e]
  exact List.getElem_mem h1
 ·intro h
  obtain⟨j,hj,rfl⟩:=List.mem_iff_getElem.1 h
  obtain⟨i,h1,h2,h3⟩:=rI hp j hj
  refine⟨i,⟨by omega,h2⟩,?_⟩
  have e:xs.toArray[i]! =xs[i]! :=by simp
  rw[e,h3]
  simp[hj]
theorem yr{xs:List Int}(hp:xs.Pairwise (· ≤ ·)):(Lib.compact xs).Pairwise (· < ·):=by
 unfold Lib.compact Lib.compactUpTo
 rw[List.pairwise_map]
 have hr:((List.range xs.length).filter (Lib.keeps xs.toArray)).Pairwise (· < ·):=List.Pairwise.filter _ List.pairwise_lt_range
 refine List.Pairwise.imp_of_mem (fun{a b} ha hb hab=>?_) hr
 simp only[List.mem_filter,List.mem_range] at ha hb
 obtain⟨hbl,hbk⟩:=hb
 unfold Lib.keeps at hbk
 have hne:xs.toArray[b]! ≠xs.toArray[b-1]! :=by
  rcases of_decide_eq_true hbk with h|h
  ·omega
  ·exact h
 have h1:xs.toArray[b]! =xs[b]:=by simp[hbl]
 have h2:xs.toArray[b-1]! =xs[b-1]:=by simp[show b-1<xs.length by omega]
 have h3:xs.toArray[a]! =xs[a]:=by simp[ha.1]
 rw[h1,h2] at hne
 rw[h1,h3]
 have k1:xs[b-1]≤xs[b]:=List.pairwise_iff_getElem.1 hp (b-1) b (by omega) hbl (by omega)
 have k2:xs[a]≤xs[b-1]:=by
  by_cases e:a=b-1
  ·subst e;exact Int.le_refl _
  ·exact List.pairwise_iff_getElem.1 hp a (b-1) ha.1 (by omega) (by omega)
 omega
theorem uY(xs:List Int):(xs.mergeSort fun x y=>decide (x≤y)).Pairwise (· ≤ ·):=by
 have:=List.pairwise_mergeSort (le:=fun x y:Int=>decide (x≤y)) (fun a b c h1 h2=>by simp at*;omega) (fun a b=>by simp;omega) xs
 exact this.imp fun h=>by simpa using h
theorem uQ{a b:List Int}(ha:a.Pairwise (· < ·))(hb:b.Pairwise (· < ·))(hm:∀x,x∈a↔x∈b):a=b:=by
 refine List.Perm.eq_of_pairwise (le:=(· < ·)) (fun x y _ _ h1 h2=>by omega) ha hb ?_
 exact(List.perm_ext_iff_of_nodup (ha.imp fun h=>by omega) (hb.imp fun h=>by omega)).2 hm
def du(d:Nat)(bd:List Sm):List Ex:=(aT d bd).flatMap fun x=>bN x.1.args
def iG(l:List Fd)(bd:List Sm):List Int:=((du 1 bd).filter fun e=>decide (e.op=13)).map fun e=>ixI (ca l e.name)
theorem sg(l:List Fd):∀(es:List Ex) (out:List Int),es.foldl (fg l) out=out++(es.filter fun e=>decide (e.op=13)).map fun e=>ixI (ca l e.name)
 |[],out=>by simp
 |e::r,out=>by
  rw[List.foldl_cons,sg l r,fg]
  by_cases h:e.op=13
  ·simp[h]
  ·simp[h]
mutual
theorem FL(op:Int)(s:List UInt8):∀(e:Ex) (out:Wds),s∈nmE op e out↔s∈out∨∃x∈e.pre,x.op=op∧x.name=s
 | .mk o n t ks,out=>by
   rw[nmE,sP op s ks,Ex.pre]
   have hh:(s∈if o=op∧t∉out then out++[t] else out)↔s∈out∨(o=op∧t=s):=by
    split
    ·rename_i h
     simp only[List.mem_append,List.mem_singleton]
     constructor
     ·rintro(h1|h1)
      ·exact .inl h1
      ·exact .inr ⟨h.1,h1.symm⟩
     ·rintro(h1|h1)
      ·exact .inl h1
      ·exact .inr h1.2.symm
    ·rename_i h
     constructor
     ·exact .inl
     ·rintro(h1|⟨h1,h2⟩)
      ·exact h1
      ·rw[←h2];exact Classical.byContradiction fun hn=>h ⟨h1,hn⟩
   rw[hh]
   constructor
   ·rintro((h|⟨h1,h2⟩)|⟨x,h1,h2⟩)
    ·exact .inl h
    ·exact .inr ⟨_,List.mem_cons_self ..,h1,h2⟩
    ·exact .inr ⟨x,List.mem_cons_of_mem _ h1,h2⟩
   ·rintro(h|⟨x,h1,h2,h3⟩)
    ·exact .inl (.inl h)
    ·rcases List.mem_cons.1 h1 with rfl|h1
     ·exact .inl (.inr ⟨h2,h3⟩)
     ·exact .inr ⟨x,h1,h2,h3⟩
theorem sP(op:Int)(s:List UInt8):∀(l:List Ex) (out:Wds),s∈eL op l out↔s∈out∨∃x∈bN l,x.op=op∧x.name=s
 |[],out=>by simp[eL,bN]
 |e::r,out=>by
  rw[eL,sP op s r,FL op s e,bN]
  constructor
  ·rintro((h|⟨x,h1,h2⟩)|⟨x,h1,h2⟩)
   ·exact .inl h
   ·exact .inr ⟨x,List.mem_append_left _ h1,h2⟩
   ·exact .inr ⟨x,List.mem_append_right _ h1,h2⟩
  ·rintro(h|⟨x,h1,h2⟩)
   ·exact .inl (.inl h)
   ·rcases List.mem_append.1 h1 with h1|h1
    ·exact .inl (.inr ⟨x,h1,h2⟩)
    ·exact .inr ⟨x,h1,h2⟩
end
theorem oC(d:Nat)(s:Sm)(r:List Sm):du d (s::r)=bN s.args++(du (d+1) s.body++du (d+1) s.els)++du d r:=by
 rw[du,aT,Sm.pre_eq,List.flatMap_append,List.flatMap_cons,List.flatMap_append];rfl
mutual
theorem FN(s:List UInt8):∀(x:Sm) (d:Nat) (out:Wds),s∈clS x out↔s∈out∨∃e∈bN x.args++(du (d+1) x.body++du (d+1) x.els),e.op=13∧e.name=s
 | .mk o n a b el,d,out=>by
   rw[clS,ln s el (d+1),ln s b (d+1),sP]
   simp only[Sm.args,Sm.body,Sm.els,List.mem_append]
   constructor
   ·rintro(((h|⟨x,h1,h2⟩)|⟨x,h1,h2⟩)|⟨x,h1,h2⟩)
    ·exact .inl h
    ·exact .inr ⟨x,.inl h1,h2⟩
    ·exact .inr ⟨x,.inr (.inl h1),h2⟩
    ·exact .inr ⟨x,.inr (.inr h1),h2⟩
   ·rintro(h|⟨x,h1|h1|h1,h2⟩)
    ·exact .inl (.inl (.inl h))
    ·exact .inl (.inl (.inr ⟨x,h1,h2⟩))
    ·exact .inl (.inr ⟨x,h1,h2⟩)
    ·exact .inr ⟨x,h1,h2⟩
theorem ln(s:List UInt8):∀(l:List Sm) (d:Nat) (out:Wds),s∈eX l out↔s∈out∨∃e∈du d l,e.op=13∧e.name=s
 |[],d,out=>by simp[eX,du,aT]
 |x::r,d,out=>by
  rw[eX,ln s r d,FN s x d,oC]
  constructor
  ·rintro((h|⟨x,h1,h2⟩)|⟨x,h1,h2⟩)
   ·exact .inl h
   ·exact .inr ⟨x,List.mem_append_left _ h1,h2⟩
   ·exact .inr ⟨x,List.mem_append_right _ h1,h2⟩
  ·rintro(h|⟨x,h1,h2⟩)
   ·exact .inl (.inl h)
   ·rcases List.mem_append.1 h1 with h1|h1
    ·exact .inl (.inr ⟨x,h1,h2⟩)
    ·exact .inr ⟨x,h1,h2⟩
end
mutual
theorem yR{fns:List Fd}{k:Nat}{vs:List LV}:∀(e:Ex) (c:Int),qO fns k vs e c=0→∀x∈e.pre,x.op=13→∃j,ca fns x.name=some j∧j<k
 | .mk o n t ks,c,h,x,hx,hop=>by
   rw[qO] at h
   rw[Ex.pre] at hx
   have h0:=sr h
   rcases List.mem_cons.1 hx with rfl|hx
   ·have hop':o=13:=hop
    have hz:¬(13:Int)=2:=by omega
    rw[kb,hop',if_neg hz,if_pos rfl,kK] at h0
    show∃j,ca fns t=some j∧j<k
    cases e:ca fns t with
    |none=>rw[e] at h0;simp only[fl] at h0;split at h0<;>omega
    |some j=>
     rw[e] at h0
     simp only[fl] at h0
     refine⟨j,rfl,?_⟩
     by_cases hj:k≤j
     ·rw[if_pos hj] at h0;split at h0<;>omega
     ·omega
   ·exact lz ks _ h x hx hop
theorem lz{fns:List Fd}{k:Nat}{vs:List LV}:∀(l:List Ex) (c:Int),ce fns k vs l c=0→∀x∈bN l,x.op=13→∃j,ca fns x.name=some j∧j<k
 |[],c,h,x,hx,_=>by simp[bN] at hx
 |e::r,c,h,x,hx,hop=>by
  rw[ce] at h
  rw[bN] at hx
  rcases List.mem_append.1 hx with hx|hx
  ·exact yR e _ (sr h) x hx hop
  ·exact lz r _ h x hx hop
end
mutual
theorem AP{fns:List Fd}{k:Nat}:∀(s:Sm) (b d:Nat) (w:WS),(stW fns k b s w).code=0→∀x∈bN s.args++(du (d+1) s.body++du (d+1) s.els),x.op=13→∃j,ca fns x.name=some j∧j<k
 | .mk o n a bd el,b,d,w,h,x,hx,hop=>by
   rw[stW] at h
   rw[gv] at h
   have h1:=ml h
   rw[gv] at h1
   have h2:=ml h1
   have h3:=Df h2
   simp only[Sm.args,Sm.body,Sm.els,List.mem_append] at hx
   rcases hx with hx|hx|hx
   ·exact lz a _ h3 x hx hop
   ·exact kz bd _ (d+1) _ h1 x hx hop
   ·exact kz el _ (d+1) _ h x hx hop
theorem kz{fns:List Fd}{k:Nat}:∀(l:List Sm) (b d:Nat) (w:WS),(cd fns k b l w).code=0→∀x∈du d l,x.op=13→∃j,ca fns x.name=some j∧j<k
 |[],b,d,w,h,x,hx,_=>by simp[du,aT] at hx
 |s::r,b,d,w,h,x,hx,hop=>by
  rw[cd] at h
  rw[oC] at hx
  rcases List.mem_append.1 hx with hx|hx
  ·exact AP s b d _ (ml h) x hx hop
  ·exact kz r b d _ h x hx hop
end
theorem Ay{vs:List LV}{s:List UInt8}{b:Nat}{c:Int}(h:pH vs s b c=0):c=0:=by
 unfold pH at h
 split at h
 ·exact h
 ·split at h
  ·unfold fl at h;split at h<;>omega
  ·exact h
theorem sB:∀{ps:List (List UInt8)} {w:WS},(cD ps w).code=0→w.code=0
 |[],w,h=>h
 |s::r,w,h=>Ay (sB (ps:=r) (w:=iY w s 0) h)
theorem uv{fns:List Fd}{k:Nat}{f:Fd}(h:(fnW fns k f).code=0):(∀x∈du 1 f.body,x.op=13→∃j,ca fns x.name=some j∧j<k)∧ca fns f.name=some k:=by
 rw[fnW] at h
 refine⟨kz _ _ 1 _ h,?_⟩
 have h1:(if ca fns f.name=some k then(0:Int) else 2)=0:=sB (ml h)
 split at h1
 ·assumption
 ·omega
def cC(l:List Nat):List Int:=l.map fun(n:Nat)=>(n:Int)
theorem ut{l:List Fd}{k:Nat}{f:Fd}(hc:bF l=0)(hk:l[k]?=some f):Lib.compact ((iG l f.body).mergeSort fun x y=>decide (x≤y))=cC (dN l f.body k):=by
 obtain⟨_,hall⟩:=(re l).1 hc
 obtain⟨hcalls,_⟩:=uv (hall k f hk)
 refine uQ (yr (uY _)) ?_ fun x=>?_
 ·rw[cC,List.pairwise_map,dN]
  exact(List.Pairwise.filter _ List.pairwise_lt_range).imp fun h=>by omega
 rw[wl (uY _),List.mem_mergeSort,iG,cC,dN]
 simp only[List.mem_map,List.mem_filter,List.mem_range,decide_eq_true_eq]
 constructor
 ·rintro⟨e,⟨h1,h2⟩,rfl⟩
  obtain⟨j,h3,h4⟩:=hcalls e h1 h2
  obtain⟨h5,h6,h7⟩:=List.findIdx?_eq_some_iff_getElem.1 h3
  refine⟨j,⟨h4,?_⟩,by rw[h3];rfl⟩
  rw[List.getElem?_eq_getElem h5]
  simp only[decide_eq_true_eq] at h6⊢
  rw[h6]
  exact(ln _ _ 1 _).2 (.inr ⟨e,h1,h2,rfl⟩)
 ·rintro⟨i,⟨h1,h2⟩,rfl⟩
  have hil:i<l.length:=by have:=(List.getElem?_eq_some_iff.1 hk).1;omega
  have hg:=List.getElem?_eq_getElem hil
  rw[hg] at h2
  simp only[decide_eq_true_eq] at h2
  rcases(ln _ _ 1 _).1 h2 with h3|⟨e,h3,h4,h5⟩
  ·simp at h3
  ·obtain⟨_,hself⟩:=uv (hall i _ hg)
   exact⟨e,⟨h3,h4⟩,by rw[h5,hself];rfl⟩
end Go.Proofs.YtnjbhgpbgmpkcaaGreatDoor
namespace Go.Proofs.YtnjbhgpbgmpkcaaGreatDoor
open Go Go.Aw
set_option maxRecDepth 100000
set_option maxHeartbeats 4000000
inductive Ned (nx:Nat→List Nat) (r:Nat):Nat→Prop where
 |root:Ned nx r r
 |step {b m:Nat}:Ned nx r b→m∈nx b→Ned nx r m
theorem Ned.trans{nx:Nat→List Nat}{a b c:Nat}(h1:Ned nx a b)(h2:Ned nx b c):Ned nx a c:=by
 induction h2 with
 |root=>exact h1
 |step _ hm ih=>exact .step ih hm
def Dn(nx:Nat→List Nat):Prop:=∀b m,m∈nx b→m<b
theorem Ned.le{nx:Nat→List Nat}(hd:Dn nx){r m:Nat}(h:Ned nx r m):m≤r:=by
 induction h with
 |root=>exact Nat.le_refl _
 |step _ hm ih=>have:=hd _ _ hm;omega
def bAt(nd:List Bool)(i:Nat):Bool:=nd.getD i false
def fv(k:Nat)(nd:List Bool)(i:Nat):List Bool:=nd.set i (bAt nd i||bAt nd k)
def qc(nx:Nat→List Nat)(nd:List Bool)(k:Nat):List Bool:=(nx k).foldl (fv k) nd
def ry(nx:Nat→List Nat):Nat→List Bool→List Bool
 |0,nd=>nd
 |k+1,nd=>ry nx k (qc nx nd k)
def lh(n:Nat):List Bool:=(List.replicate n false).set (n-1) true
def ja(nx:Nat→List Nat)(n:Nat):List Bool:=ry nx n (lh n)
def dP(nx:Nat→List Nat)(n:Nat):List Nat:=(List.range n).filter (bAt (ja nx n))
theorem Bj(k:Nat)(nd:List Bool)(i:Nat):(fv k nd i).length=nd.length:=by simp[fv]
theorem zM{k:Nat}{nd:List Bool}{i:Nat}(hi:i<nd.length)(m:Nat):bAt (fv k nd i) m=if m=i then bAt nd i||bAt nd k else bAt nd m:=by
 unfold fv bAt
 by_cases h:m=i
 ·subst h;simp[hi]
 ·have:i≠m:=fun e=>h e.symm
  simp[List.getElem?_set_ne this,h]
theorem oY{k:Nat}:∀(is:List Nat) (nd:List Bool),(∀i∈is,i<k)→k<nd.length→(is.foldl (fv k) nd).length=nd.length∧∀m,bAt (is.foldl (fv k) nd) m=(bAt nd m||(decide (m∈is)&&bAt nd k))
 |[],nd,_,_=>⟨rfl,fun m=>by simp⟩
 |i::r,nd,h,hk=>by
  have hi:=h i (by simp)
  have hl:=Bj k nd i
  obtain⟨h1,h2⟩:=oY r (fv k nd i) (fun x hx=>h x (by simp[hx])) (by omega)
  refine⟨by rw[List.foldl_cons,h1,hl],fun m=>?_⟩
  rw[List.foldl_cons,h2,zM (by omega),zM (by omega),if_neg (by omega:¬k=i)]
  by_cases hm:m=i
  ·subst hm
   cases bAt nd m<;>cases bAt nd k<;>simp
  ·rw[if_neg hm]
   by_cases hr:m∈r<;>simp[hm,hr]
theorem CP{nx:Nat→List Nat}(hd:Dn nx){r:Nat}:∀(j:Nat) (nd:List Bool),j≤nd.length→r<nd.length→(∀m,bAt nd m=true→Ned nx r m)→(∀b,j≤b→bAt nd b=true→∀m∈nx b,bAt nd m=true)→bAt nd r=true→
 (ry nx j nd).length=nd.length∧∀m,bAt (ry nx j nd) m=true↔Ned nx r m:=by
 intro j
 induction j with
 |zero=>
  intro nd _ _ h1 h2 h3
  refine⟨rfl,fun m=>⟨h1 m,fun h=>?_⟩⟩
  show bAt nd m=true
  induction h with
  |root=>exact h3
  |step _ hm ih=>exact h2 _ (Nat.zero_le _) ih _ hm
 |succ k ih=>
  intro nd hl hr h1 h2 h3
  obtain⟨e1,e2⟩:=oY (nx k) nd (hd k) (by omega)
  have:=ih (qc nx nd k) (by show k≤((nx k).foldl (fv k) nd).length;omega) (by show r<((nx k).foldl (fv k) nd).length;omega) (fun m hm=>?_) (fun b hb hbt m hm=>?_) ?_
  ·refine⟨?_,this.2⟩
   rw[ry,this.1];exact e1
  ·rw[qc,e2,Bool.or_eq_true,Bool.and_eq_true] at hm
   rcases hm with hm|⟨hm,hk⟩
   ·exact h1 m hm
   ·exact .step (h1 k hk) (of_decide_eq_true hm)
  ·rw[qc,e2,Bool.or_eq_true,Bool.and_eq_true] at hbt⊢
   by_cases hbk:b=k
   ·subst hbk
    have hbb:bAt nd b=true:=by
     rcases hbt with h|⟨h,h'⟩
     ·exact h
     ·exact h'
    exact .inr ⟨decide_eq_true hm,hbb⟩
   ·rcases hbt with h|⟨h,h'⟩
    ·exact .inl (h2 b (by omega) h m hm)
    ·have:=hd k b (of_decide_eq_true h);omega
  ·rw[qc,e2,h3];rfl
theorem rP{nx:Nat→List Nat}(hd:Dn nx){n:Nat}(hn:1≤n):(ja nx n).length=n∧∀m,bAt (ja nx n) m=true↔Ned nx (n-1) m:=by
 have hb:∀m,bAt (lh n) m=decide (m=n-1):=by
  intro m
  unfold bAt lh
  by_cases h:m=n-1
  ·subst h;simp[show n-1<n by omega]
  ·have h':n-1≠m:=fun e=>h e.symm
   rw[List.getD_eq_getElem?_getD,List.getElem?_set_ne h',List.getElem?_replicate]
   split<;>simp[h]
 have hl:(lh n).length=n:=by simp[lh]
 have:=CP hd (r:=n-1) n (lh n) (by omega) (by omega) (fun m hm=>by rw[hb] at hm;rw[of_decide_eq_true hm];exact .root) (fun b hbn hbt=>by rw[hb] at hbt;have:=of_decide_eq_true hbt;omega) (by rw[hb];simp)
 exact⟨by rw[ja,this.1,hl],this.2⟩
theorem qo{nx:Nat→List Nat}(hd:Dn nx){n:Nat}(hn:1≤n)(m:Nat):m∈dP nx n↔Ned nx (n-1) m:=by
 rw[dP,List.mem_filter,List.mem_range,(rP hd hn).2]
 exact⟨fun h=>h.2,fun h=>⟨by have:=h.le hd;omega,h⟩⟩
theorem sk(nx:Nat→List Nat)(n:Nat):(dP nx n).Pairwise (· < ·):=List.Pairwise.filter _ List.pairwise_lt_range
def gW(nx:Nat→List Nat):Nat→Nat→List Nat→List Nat
 |0,_,s=>s
 |f+1,n,s=>if n∈s then s else(nx n).foldl (fun s k=>gW nx f k s) (s++[n])
structure VisOk (nx:Nat→List Nat) (n:Nat) (s s':List Nat):Prop where
 sub:∀m∈s,m∈s'
 new:∀m∈s',m∈s∨Ned nx n m
 nd:s.Nodup→s'.Nodup
theorem Fo{nx:Nat→List Nat}(hd:Dn nx):∀(f n:Nat) (s:List Nat),n<f→(∀m∈s,m≤n→∀x∈nx m,x∈s)→VisOk nx n s (gW nx f n s)∧n∈gW nx f n s∧∀m∈gW nx f n s,m≤n→∀x∈nx m,x∈gW nx f n s:=by
 intro f
 induction f with
 |zero=>intro n s h;omega
 |succ f ih=>
  intro n s hn hc
  rw[gW]
  by_cases hin:n∈s
  ·rw[if_pos hin]
   exact⟨⟨fun _ h=>h,fun _ h=> .inl h,id⟩,hin,hc⟩
  rw[if_neg hin]
  have key:∀(ks:List Nat),(∀k∈ks,k∈nx n)→∀(t:List Nat),(∀m∈t,m<n→∀x∈nx m,x∈t)→VisOk nx n t (ks.foldl (fun s k=>gW nx f k s) t)∧(∀k∈ks,k∈ks.foldl (fun s k=>gW nx f k s) t)∧∀m∈ks.foldl (fun s k=>gW nx f k s) t,m<n→∀x∈nx m,x∈ks.foldl (fun s k=>gW nx f k s) t:=by
   intro ks
   induction ks with
   |nil=>intro _ t ht;exact⟨⟨fun _ h=>h,fun _ h=> .inl h,id⟩,(fun _ h=>by cases h),ht⟩
   |cons k r ihr=>
    intro hks t ht
    have hkn:k<n:=hd n k (hks k (by simp))
    obtain⟨a1,a2,a3⟩:=ih k t (by omega) (fun m hm hmk=>ht m hm (by omega))
    have ht':∀m∈gW nx f k t,m<n→∀x∈nx m,x∈gW nx f k t:=by
     intro m hm hmn x hx
     rcases Nat.lt_or_ge k m with h|h
     ·rcases a1.new m hm with h2|h2
      ·exact a1.sub _ (ht m h2 hmn x hx)
      ·have:=h2.le hd;omega
     ·exact a3 m hm h x hx
    obtain⟨b1,b2,b3⟩:=ihr (fun k hk=>hks k (by simp[hk])) (gW nx f k t) ht'
    rw[List.foldl_cons]
    refine⟨⟨fun m hm=>b1.sub _ (a1.sub m hm),fun m hm=>?_,fun h=>b1.nd (a1.nd h)⟩,fun x hx=>?_,b3⟩
    ·rcases b1.new m hm with h|h
     ·rcases a1.new m h with h|h
      ·exact .inl h
      ·exact .inr ((Ned.step .root (hks k (by simp))).trans h)
     ·exact .inr h
    ·rcases List.mem_cons.1 hx with rfl|hx
     ·exact b1.sub _ a2
     ·exact b2 x hx
  obtain⟨k1,k2,k3⟩:=key (nx n) (fun _ h=>h) (s++[n]) (fun m hm hmn x hx=>by
   rcases List.mem_append.1 hm with h|h
   ·exact List.mem_append_left _ (hc m h (by omega) x hx)
   ·have:=List.mem_singleton.1 h;omega)
  refine⟨⟨fun m hm=>k1.sub _ (List.mem_append_left _ hm),fun m hm=>?_,fun h=>k1.nd ?_⟩,k1.sub _ (List.mem_append_right _ (by simp)),fun m hm hmn x hx=>?_⟩
  ·rcases k1.new m hm with h|h
   ·rcases List.mem_append.1 h with h|h
    ·exact .inl h
    ·rw[List.mem_singleton.1 h];exact .inr .root
   ·exact .inr h
  ·rw[List.nodup_append]
   exact⟨h,by simp,fun a ha b hb e=>hin (by rw[List.mem_singleton.1 hb] at e;rw[←e];exact ha)⟩
  ·rcases Nat.lt_or_ge m n with h|h
   ·exact k3 m hm h x hx
   ·have e:m=n:=by omega
    subst e
    exact k2 x hx
def qv(nx:Nat→List Nat)(n:Nat):List Nat:=gW nx n (n-1) []
theorem DK{nx:Nat→List Nat}(hd:Dn nx){n:Nat}(hn:1≤n):(qv nx n).Nodup∧∀m,m∈qv nx n↔Ned nx (n-1) m:=by
 obtain⟨h1,h2,h3⟩:=Fo hd n (n-1) [] (by omega) (fun m h=>by cases h)
 refine⟨h1.nd List.nodup_nil,fun m=>⟨fun h=>?_,fun h=>?_⟩⟩
 ·rcases h1.new m h with h|h
  ·cases h
  ·exact h
 ·show m∈gW nx n (n-1) []
  induction h with
  |root=>exact h2
  | @step b m hb hm ih=>exact h3 b ih (hb.le hd) m hm
theorem uf{nx:Nat→List Nat}(hd:Dn nx){n:Nat}(hn:1≤n){xs:List Int}(hp:xs.Perm (cC (qv nx n))):(xs.mergeSort fun x y=>decide (x≤y))=cC (dP nx n):=by
 obtain⟨h1,h2⟩:=DK hd hn
 have hnd:(cC (qv nx n)).Nodup:=List.pairwise_map.2 (h1.imp fun h e=>h (by omega))
 have hs:(xs.mergeSort fun x y=>decide (x≤y)).Nodup:=((List.mergeSort_perm xs _).trans hp).nodup_iff.2 hnd
 refine uQ ?_ ?_ fun x=>?_
 ·exact((uY xs).and hs).imp fun⟨a,b⟩=>by omega
 ·rw[cC,List.pairwise_map]
  exact(sk nx n).imp fun h=>by omega
 ·rw[List.mem_mergeSort,hp.mem_iff]
  simp only[cC,List.mem_map,qo hd hn,h2]
def aD(l:List Fd)(k:Nat):List Nat:=match l[k]? with|some f=>dN l f.body k|none=>[]
theorem iC(l:List Fd):Dn (aD l):=by
 intro b m h
 unfold aD at h
 split at h
 ·rw[dN,List.mem_filter,List.mem_range] at h;exact h.1
 ·cases h
end Go.Proofs.YtnjbhgpbgmpkcaaGreatDoor
namespace Go.Proofs.YtnjbhgpbgmpkcaaGreatDoor
open Go Go.Aw
set_option maxRecDepth 100000
abbrev dz:FuncId:=35
abbrev fC:FuncId:=133
abbrev cz:FuncId:=132
abbrev iV:FuncId:=82
abbrev bE:FuncId:=83
abbrev dG:FuncId:=34
abbrev eG:FuncId:=33
abbrev ki:FuncId:=36
abbrev kI:FuncId:=8
def kQ:FK:=⟨75,[.t 2],
 .seq (.reg [oJ 1 (.box 1 (.t 0)),
  oJ 2 (.mov (.c .nils))])
 (.seq (.reg [oJ 9 (.bsl 1 [(.p (.int .i64 0))] 0 []),
   oM 3 9])
 (.seq (.seq (.reg [oJ 10 (.ld (some 1) (.t 1)),
   oJ 11 (.call jJ [(.t 10)]),
   oJ 12 (.not (.t 11))])
 (.cond (.t 12)
  (.seq (.reg [oM 13 3,
    oM 2 13])
  (.ret))
  (.skip)))
 (.seq (.reg [oF 14 0 1,
   oL 15 14,
   oJ 16 (.len false (.t 15)),
   oJ 17 (.mks 1 1 [(.p (.bool false))] (.t 16) (.t 16)),
   oM 4 17])
 (.seq (.reg [oM 18 4,
   oF 19 0 1,
   oL 20 19,
   oJ 21 (.len false (.t 20)),
   oJ 22 (.bin .sub (.t 21) (.c (.p (.int .i64 1)))),
   oJ 23 (.idxS 1 (.t 18) (.t 22)),
   ⟨none,none,.st 1 (.t 23) (.c (.p (.bool true)))⟩])
 (.seq (.seq (.reg [oF 24 0 1,
   oL 25 24,
   oJ 26 (.len false (.t 25)),
   oJ 27 (.bin .sub (.t 26) (.c (.p (.int .i64 1)))),
   oM 5 27])
 (.blk 0 (.loop (.seq (.seq (.reg [oM 28 5,
   oJ 29 (.bin .geq (.t 28) (.c (.p (.int .i64 0))))])
 (.cond (.t 29)
  (.skip)
  (.exit 0)))
 (.seq (.blk 1 (.seq (.reg [oJ 32 (.ld (some 1) (.t 1)),
   oM 33 5,
   oJ 34 (.call ff [(.t 32),(.t 33)]),
   oM 6 34])
 (.seq (.reg [oK 7 0])
 (.blk 2 (.loop (.seq (.seq (.reg [oM 35 7,
   oM 36 6,
   oJ 37 (.len false (.t 36)),
   oJ 38 (.bin .lss (.t 35) (.t 37))])
 (.cond (.t 38)
  (.skip)
  (.exit 2)))
 (.seq (.blk 3 (.reg [oM 41 4,
   oM 42 6,
   oM 43 7,
   oJ 44 (.idxS 1 (.t 42) (.t 43)),
   oM 46 4,
   oM 47 6,
   oM 48 7,
   oJ 49 (.idxS 1 (.t 47) (.t 48)),
   oL 45 44,
   oL 50 49,
   oJ 51 (.idxS 1 (.t 46) (.t 50)),
   oL 52 51,
   oM 53 52,
   ⟨(some 54),some (53,false),.mov (.t 4)⟩,
   ⟨(some 55),some (53,false),.mov (.t 5)⟩,
   ⟨(some 56),some (53,false),.idxS 1 (.t 54) (.t 55)⟩,
   ⟨(some 57),some (53,false),.ld none (.t 56)⟩,
   oJ 58 (.pick (.t 53) (.c (.p (.bool true))) (.t 57)),
   oJ 59 (.idxS 1 (.t 41) (.t 45)),
   oS 59 58]))
 (.reg [oM 39 7,
   oJ 40 (.bin .add (.t 39) (.c (.p (.int .i64 1)))),
   oM 7 40]))))))))
 (.reg [oM 30 5,
   oJ 31 (.bin .sub (.t 30) (.c (.p (.int .i64 1)))),
   oM 5 31]))))))
 (.seq (.seq (.reg [oK 8 0])
 (.blk 4 (.loop (.seq (.seq (.reg [oM 60 8,
   oM 61 4,
   oJ 62 (.len false (.t 61)),
   oJ 63 (.bin .lss (.t 60) (.t 62))])
 (.cond (.t 63)
  (.skip)
  (.exit 4)))
 (.seq (.blk 5 (.seq (.reg [oM 66 4,
   oM 67 8,
   oJ 68 (.idxS 1 (.t 66) (.t 67)),
   oL 69 68])
 (.cond (.t 69)
  (.reg [oM 70 3,
    oM 71 8,
    oJ 72 (.bsl 1 [(.p (.int .i64 0))] 1 [(0,1,(.t 71))]),
    oJ 73 (.app 1 8 (.t 70) (.t 72)),
    oM 3 73])
  (.skip))))
 (.reg [oM 64 8,
   oJ 65 (.bin .add (.t 64) (.c (.p (.int .i64 1)))),
   oM 8 65]))))))
 (.seq (.reg [oM 74 3,
   oM 2 74])
 (.ret))))))))⟩
theorem qT:am Tryz.prog dz=some kQ:=by kernel_rfl
def gw:FK:=⟨25,[],
 .seq (.reg [oL 7 1,
  oM 8 0,
  oJ 9 (.lk 0 (.p (.bool false)) false (.t 7) (.t 8)),
  oJ 10 (.not (.t 9))])
 (.cond (.t 10)
  (.seq (.reg [oL 11 1,
    oM 12 0,
    ⟨none,none,.mup 0 (.t 11) (.t 12) (.c (.p (.bool true)))⟩])
  (.seq (.reg [oL 13 2,
    oM 14 0,
    oJ 15 (.callv (.t 13) [(.t 14)]),
    oJ 16 (.len false (.t 15)),
    oK 17 0])
  (.blk 0 (.loop (.seq (.reg [oJ 18 (.bin .lss (.t 17) (.t 16))])
  (.seq (.cond (.t 18)
   (.skip)
   (.exit 0))
  (.seq (.blk 1 (.seq (.reg [oJ 19 (.idxS 1 (.t 15) (.t 17)),
    oL 20 19,
    oM 6 20])
  (.reg [oL 21 3,
    oM 22 6,
    oJ 23 (.callv (.t 21) [(.t 22)])])))
  (.reg [oJ 24 (.bin .add (.t 17) (.c (.p (.int .i64 1)))),
    oM 17 24]))))))))
  (.skip))⟩
theorem qd:am Tryz.prog cz=some gw:=by kernel_rfl
def lq:FK:=⟨23,[.t 4],
 .seq (.reg [oJ 3 (.box 1 (.t 1)),
  oJ 4 (.mov (.c .nils))])
 (.seq (.reg [oJ 9 (.mkm),
   oJ 5 (.alloc [.nilm]),
   oS 5 9])
 (.seq (.reg [oJ 6 (.alloc [.nilf])])
 (.seq (.reg [oJ 10 (.mkf (.func cz) [(.t 5),(.t 3),(.t 6)]),
   oS 6 10])
 (.seq (.seq (.reg [oM 11 0,
   oJ 12 (.len false (.t 11)),
   oK 13 0])
 (.blk 0 (.loop (.seq (.reg [oJ 14 (.bin .lss (.t 13) (.t 12))])
 (.seq (.cond (.t 14)
  (.skip)
  (.exit 0))
 (.seq (.blk 1 (.seq (.reg [oJ 15 (.idxS 1 (.t 11) (.t 13)),
   oL 16 15,
   oM 8 16])
 (.reg [oL 17 6,
   oM 18 8,
   oJ 19 (.callv (.t 17) [(.t 18)])])))
 (.reg [oJ 20 (.bin .add (.t 13) (.c (.p (.int .i64 1)))),
   oM 13 20])))))))
 (.seq (.reg [oL 21 5,
   oJ 22 (.call fC [(.t 21)]),
   oM 4 22])
 (.ret))))))⟩
theorem tj:am Tryz.prog iV=some lq:=by kernel_rfl
def jh:FK:=⟨7,[.t 3],
 .seq (.reg [oJ 3 (.mov (.c .nils))])
 (.seq (.reg [oJ 4 (.ld (some 1) (.t 1)),
   oM 5 0,
   oJ 6 (.call dk [(.t 4),(.t 5)]),
   oM 3 6])
 (.ret))⟩
theorem oz:am Tryz.prog bE=some jh:=by kernel_rfl
def kM:FK:=⟨13,[.t 2],
 .seq (.reg [oJ 1 (.box 1 (.t 0)),
  oJ 2 (.mov (.c .nils))])
 (.seq (.seq (.reg [oJ 3 (.ld (some 1) (.t 1)),
   oJ 4 (.call jn [(.t 3)]),
   oJ 5 (.not (.t 4))])
 (.cond (.t 5)
  (.seq (.reg [oJ 2 (.mov (.c .nils))])
  (.ret))
  (.skip)))
 (.seq (.reg [oF 6 0 1,
   oL 7 6,
   oJ 8 (.len false (.t 7)),
   oJ 9 (.bin .sub (.t 8) (.c (.p (.int .i64 1)))),
   oJ 10 (.bsl 1 [(.p (.int .i64 0))] 1 [(0,1,(.t 9))]),
   oJ 11 (.mkf (.func bE) [(.t 1)]),
   oJ 12 (.call iV [(.t 10),(.t 11)]),
   oM 2 12])
 (.ret)))⟩
theorem qU:am Tryz.prog dG=some kM:=by kernel_rfl
def ia:FK:=⟨6,[.c 2 (some 1)],
 .seq (.reg [oJ 2 (.alloc [.nils])])
 (.seq (.reg [oM 3 0,
   oJ 4 (.call iR [(.t 3)]),
   oJ 5 (.call jy [(.t 4)]),
   oS 2 5])
 (.ret))⟩
theorem mL:am Tryz.prog eG=some ia:=by kernel_rfl
def oI:FK:=⟨17,[.t 4],
 .seq (.reg [oJ 4 (.mov (.c (.p (.bool false))))])
 (.seq (.seq (.reg [oM 7 0,
   oJ 8 (.len false (.t 7)),
   oK 9 0])
 (.blk 0 (.loop (.seq (.reg [oJ 10 (.bin .lss (.t 9) (.t 8))])
 (.seq (.cond (.t 10)
  (.skip)
  (.exit 0))
 (.seq (.blk 1 (.seq (.reg [oJ 11 (.idxS 1 (.t 7) (.t 9)),
   oL 12 11,
   oM 6 12])
 (.seq (.reg [oM 13 6,
   oM 14 1,
   oJ 15 (.bin .eql (.t 13) (.t 14))])
 (.cond (.t 15)
  (.seq (.reg [oJ 4 (.mov (.c (.p (.bool true))))])
  (.ret))
  (.skip)))))
 (.reg [oJ 16 (.bin .add (.t 9) (.c (.p (.int .i64 1)))),
   oM 9 16])))))))
 (.seq (.reg [oJ 4 (.mov (.c (.p (.bool false))))])
 (.ret)))⟩
theorem vI:am Tryz.prog ki=some oI:=by kernel_rfl
def kR:FK:=⟨123,[.t 2],
 .seq (.reg [oJ 2 (.mov (.c (.p (.bool false))))])
 (.seq (.seq (.reg [oM 19 0,
   oJ 20 (.len false (.t 19)),
   oJ 21 (.bin .gtr (.t 20) (.c (.p (.int .i64 1048576))))])
 (.cond (.t 21)
  (.seq (.reg [oJ 2 (.mov (.c (.p (.bool true))))])
  (.ret))
  (.skip)))
 (.seq (.reg [oM 22 0,
   oJ 23 (.call eG [(.t 22)]),
   oJ 3 (.alloc [.nils]),
   oS 3 23])
 (.seq (.reg [oJ 24 (.ld (some 1) (.t 3)),
   oJ 25 (.call dG [(.t 24)]),
   oM 4 25])
 (.seq (.seq (.reg [oM 26 4,
   oJ 27 (.ld (some 1) (.t 3)),
   oJ 28 (.call dz [(.t 27)]),
   oJ 29 (.call gF [(.t 26),(.t 28)]),
   oJ 30 (.not (.t 29)),
   oM 31 30,
   ⟨(some 32),some (31,false),.ld (some 1) (.t 3)⟩,
   ⟨(some 33),some (31,false),.call cY [(.t 32)]⟩,
   ⟨(some 34),some (31,false),.bin .neq (.t 33) (.c (.p (.int .i64 0)))⟩,
   oJ 35 (.pick (.t 31) (.c (.p (.bool true))) (.t 34))])
 (.cond (.t 35)
  (.seq (.reg [oM 36 4,
    oJ 37 (.ld (some 1) (.t 3)),
    oJ 38 (.call dz [(.t 37)]),
    oJ 39 (.call gF [(.t 36),(.t 38)]),
    oM 40 39,
    ⟨(some 41),some (40,true),.mov (.t 4)⟩,
    ⟨(some 42),some (40,true),.len false (.t 41)⟩,
    ⟨(some 43),some (40,true),.bin .eql (.t 42) (.c (.p (.int .i64 0)))⟩,
    oJ 44 (.pick (.t 40) (.t 43) (.c (.p (.bool false)))),
    oM 2 44])
  (.ret))
  (.skip)))
 (.seq (.reg [oJ 45 (.bsl 1 [(.p (.int .i64 0))] 0 []),
   oM 5 45])
 (.seq (.seq (.reg [oM 46 4,
   oJ 47 (.len false (.t 46)),
   oK 48 0])
 (.blk 0 (.loop (.seq (.reg [oJ 49 (.bin .lss (.t 48) (.t 47))])
 (.seq (.cond (.t 49)
  (.skip)
  (.exit 0))
 (.seq (.blk 1 (.seq (.reg [oJ 50 (.idxS 1 (.t 46) (.t 48)),
   oL 51 50,
   oM 7 51])
 (.reg [oM 52 5,
   oM 53 7,
   oJ 54 (.bsl 1 [(.p (.int .i64 0))] 1 [(0,1,(.t 53))]),
   oJ 55 (.app 1 8 (.t 52) (.t 54)),
   oM 5 55])))
 (.reg [oJ 56 (.bin .add (.t 48) (.c (.p (.int .i64 1)))),
   oM 48 56])))))))
 (.seq (.seq (.reg [oM 57 4,
   oJ 58 (.len false (.t 57)),
   oK 59 0])
 (.blk 2 (.loop (.seq (.reg [oJ 60 (.bin .lss (.t 59) (.t 58))])
 (.seq (.cond (.t 60)
  (.skip)
  (.exit 2))
 (.seq (.blk 3 (.seq (.reg [oJ 61 (.idxS 1 (.t 57) (.t 59)),
   oL 62 61,
   oM 9 62])
 (.seq (.reg [oJ 63 (.ld (some 1) (.t 3)),
   oM 64 9,
   oJ 65 (.call dx [(.t 63),(.t 64)]),
   oJ 66 (.len false (.t 65)),
   oK 67 0])
 (.blk 4 (.loop (.seq (.reg [oJ 68 (.bin .lss (.t 67) (.t 66))])
 (.seq (.cond (.t 68)
  (.skip)
  (.exit 4))
 (.seq (.blk 5 (.seq (.reg [oJ 69 (.idxS 1 (.t 65) (.t 67)),
   oL 70 69,
   oM 11 70])
 (.seq (.reg [oM 71 5,
   oM 72 11,
   oJ 73 (.call ki [(.t 71),(.t 72)]),
   oJ 74 (.not (.t 73))])
 (.cond (.t 74)
  (.seq (.reg [oJ 2 (.mov (.c (.p (.bool false))))])
  (.ret))
  (.skip)))))
 (.reg [oJ 75 (.bin .add (.t 67) (.c (.p (.int .i64 1)))),
   oM 67 75])))))))))
 (.reg [oJ 76 (.bin .add (.t 59) (.c (.p (.int .i64 1)))),
   oM 59 76])))))))
 (.seq (.seq (.reg [oM 77 4,
   oM 78 4,
   oJ 79 (.len false (.t 78)),
   oJ 80 (.bin .sub (.t 79) (.c (.p (.int .i64 1)))),
   oJ 81 (.slS 1 (.t 77) none (some (.t 80))),
   oJ 82 (.len false (.t 81)),
   oK 83 0])
 (.blk 6 (.loop (.seq (.reg [oJ 84 (.bin .lss (.t 83) (.t 82))])
 (.seq (.cond (.t 84)
  (.skip)
  (.exit 6))
 (.seq (.blk 7 (.seq (.reg [oJ 85 (.idxS 1 (.t 81) (.t 83)),
   oL 86 85,
   oM 13 86])
 (.seq (.reg [oJ 14 (.mov (.c (.p (.bool false))))])
 (.seq (.seq (.reg [oM 87 4,
   oJ 88 (.len false (.t 87)),
   oK 89 0])
 (.blk 8 (.loop (.seq (.reg [oJ 90 (.bin .lss (.t 89) (.t 88))])
 (.seq (.cond (.t 90)
  (.skip)
  (.exit 8))
 (.seq (.blk 9 (.seq (.reg [oJ 91 (.idxS 1 (.t 87) (.t 89)),
   oL 92 91,
   oM 16 92])
 (.seq (.reg [oJ 93 (.ld (some 1) (.t 3)),
   oM 94 16,
   oJ 95 (.call dx [(.t 93),(.t 94)]),
   oJ 96 (.len false (.t 95)),
   oK 97 0])
 (.blk 10 (.loop (.seq (.reg [oJ 98 (.bin .lss (.t 97) (.t 96))])
 (.seq (.cond (.t 98)
  (.skip)
  (.exit 10))
 (.seq (.blk 11 (.seq (.reg [oJ 99 (.idxS 1 (.t 95) (.t 97)),
   oL 100 99,
   oM 18 100])
 (.reg [oM 101 14,
   oM 102 101,
   ⟨(some 103),some (102,false),.mov (.t 18)⟩,
   ⟨(some 104),some (102,false),.mov (.t 13)⟩,
   ⟨(some 105),some (102,false),.bin .eql (.t 103) (.t 104)⟩,
   oJ 106 (.pick (.t 102) (.c (.p (.bool true))) (.t 105)),
   oM 14 106])))
 (.reg [oJ 107 (.bin .add (.t 97) (.c (.p (.int .i64 1)))),
   oM 97 107])))))))))
 (.reg [oJ 108 (.bin .add (.t 89) (.c (.p (.int .i64 1)))),
   oM 89 108])))))))
 (.seq (.reg [oM 109 14,
   oJ 110 (.not (.t 109))])
 (.cond (.t 110)
  (.seq (.reg [oJ 2 (.mov (.c (.p (.bool false))))])
  (.ret))
  (.skip)))))))
 (.reg [oJ 111 (.bin .add (.t 83) (.c (.p (.int .i64 1)))),
   oM 83 111])))))))
 (.seq (.reg [oM 112 4,
   oM 113 4,
   oJ 114 (.len false (.t 113)),
   oJ 115 (.bin .sub (.t 114) (.c (.p (.int .i64 1)))),
   oJ 116 (.idxS 1 (.t 112) (.t 115)),
   oF 118 0 3,
   oL 117 116,
   oL 119 118,
   oJ 120 (.len false (.t 119)),
   oJ 121 (.bin .sub (.t 120) (.c (.p (.int .i64 1)))),
   oJ 122 (.bin .eql (.t 117) (.t 121)),
   oM 2 122])
 (.ret))))))))))⟩
theorem qX:am Tryz.prog kI=some kR:=by kernel_rfl
end Go.Proofs.YtnjbhgpbgmpkcaaGreatDoor
namespace Go.Proofs.YtnjbhgpbgmpkcaaGreatDoor
open Go Go.Aw
set_option maxRecDepth 100000
set_option maxHeartbeats 4000000
variable (G:ay)
mutual
def Sm.mq:Sm→Nat
 | .mk _ _ a b e=>2+3*bl a+Fx b+Fx e
def Fx:List Sm→Nat
 |[]=>0
 |s::r=>s.mq+Fx r
end
def Fd.mq(f:Fd):Nat:=1+f.params.length+Fx f.body
end Go.Proofs.YtnjbhgpbgmpkcaaGreatDoor
namespace Go.Proofs.YtnjbhgpbgmpkcaaGreatDoor
open Go Go.Aw
set_option maxRecDepth 100000
set_option maxHeartbeats 4000000
abbrev Gf:Nat:=0
def Fa:List PV:=[.int .i64 0,.int .i64 0,.int .i64 0,.int .i64 1,.int .i64 2,.int .i64 3,.int .i64 255,.int .i64 16,.int .i64 7]
variable (G:ay)
end Go.Proofs.YtnjbhgpbgmpkcaaGreatDoor
namespace Go.Proofs.YtnjbhgpbgmpkcaaGreatDoor
open Go Go.Aw
set_option maxRecDepth 100000
set_option maxHeartbeats 4000000
variable (G:ay)
variable (hT:G Gf=some Fa)
include hT
omit hT
theorem uN{h:List AO}{id:Nat}{l:List Int}(e:h[id]?=some (lb l)){n:Nat}(hn:n=l.length):OwnL true h [.sl id 1 0 n] [cG l] [id]:=by
 subst hn
 have hf:∀l:List Int,OwnL true h (l.map fun w=>[AV.p (.int .i64 w)]).flatten (l.map fun w=>[PV.int .i64 w]).flatten []:=by
  intro l
  induction l with
  |nil=>exact .nil
  |cons w r ih=>exact .p _ (fun _=>rfl) ih
 have:RowOwn true h id 1 (l.map fun w=>[.p (.int .i64 w)]) (l.map fun w=>[.int .i64 w]) []:=⟨e,by simp,by simp,by simp,hf l,by simp⟩
 exact this.tree (by simp)
include hT
end Go.Proofs.YtnjbhgpbgmpkcaaGreatDoor
namespace Go.Proofs.YtnjbhgpbgmpkcaaGreatDoor
open Go Go.Aw
set_option maxRecDepth 100000
set_option maxHeartbeats 4000000
theorem AC.shelfNil{P:Program}{G:ay}{f:FuncId}{h:List AO}{rv:AV}{r:Value}(hf:eV P f=true)(hr:∀(W:World) (S:Nat→Prop) (φ:Aw.Place) (n:Nat),VRel W S φ n rv r)
 (H:∀W:World,Calls P f #[.slice none 0 0] W fun e W'=>e= .returned r∧W'=W):AC P G f [.nils] h fun x h'=>x= .ret rv∧h'=h:=by
 refine⟨hf,fun W S φ vs hH hA=>?_⟩
 have hs1:vs.size=1:=hA.1
 obtain⟨v0,rfl⟩:∃v0,vs=#[v0]:=⟨vs[0],by
  apply Array.ext
  ·simp[hs1]
  ·intro i h1 h2
   have:i=0:=by omega
   subst this;rfl⟩
 have hv:=hA.2 0 _ v0 rfl rfl
 cases hv
 refine(H W).mono ?_
 rintro e W' ⟨rfl,rfl⟩
 exact⟨.ret rv,S,φ,h,⟨rfl,rfl⟩,hH,.ret _ _ (hr _ _ _ _),Keep.refl hH⟩
theorem jT:∀h:List AO,Cuts h h
 |[]=>trivial
 |_::r=>⟨.inl rfl,jT r⟩
theorem ww:∀{h:List AO} {id sz:Nat} {es:List (List AV)} (k:Nat),h[id]?=some (.row sz es)→Cuts h (h.set id (.row sz (es.take k)))
 |[],_,_,_,_,e=>by simp at e
 |o::r,0,sz,es,k,e=>by
  simp at e;subst e
  exact⟨.inr ⟨sz,es,k,rfl,rfl⟩,jT r⟩
 |o::r,id+1,sz,es,k,e=>⟨.inl rfl,ww k (by simpa using e)⟩
variable (G:ay)
theorem uB(h:List AO):AC Tryz.prog G (lays189_ren.f 189) [.nils] h fun x h'=>x= .ret (.tup [])∧h'=h:=
 AC.shelfNil (r:= .tuple #[]) (by kernel_rfl) (fun _ _ _ _=> .tup [] #[] rfl (fun j c v e=>by simp at e)) fun W=>Any.slices_Sort_int_none zL none 0 W
theorem wc(h:List AO):AC Tryz.prog G (lays20_ren.f 20) [.nils] h fun x h'=>x= .ret .nils∧h'=h:=
 AC.shelfNil (r:= .slice none 0 0) (by kernel_rfl) (fun _ _ _ _=> .nils) fun W=>Any.slices_Compact_int_empty CL none 0 W
def sy(l:List Fd)(out:List Int)(x:Sm × Nat):List Int:=(bN x.1.args).foldl (fg l) out
theorem zf{out:List Int}{a b:Nat}(h:kF out b)(hab:a≤b):kF out a:=by unfold kF at*;omega
theorem rV(l:List Fd):∀out (s:Sm) (d k:Nat),kF out (k+s.own)→kF (sy l out (s,d)) k:=by
 intro out s d k h
 have:=nW s.args
 exact lv (nU l) s.args out k (zf h (by unfold Sm.own;omega))
theorem wq(l:List Fd)(hl:l.length≤1073741824):∀out (s:Sm) (d k id:Nat) h,kF out (k+s.own)→s.sz≤1073741824→AD l out id h→
 AC Tryz.prog G dh (.agg (s.cs.map .p):: .p (.int .i64 (d:Nat))::[.ptr 1 1 0 0,.ptr 0 1 0 0]) h fun x h'=>x= .ret (.tup [])∧(cHV dh l).Left id h (sy l out (s,d)) h':=by
 intro out s d k id h hk hz hI
 have hcs:=s.cs_eq
 have hsz:=s.sz_eq
 have hal:=bL s.args
 have hap:=nW s.args
 have hxl:exL s.args= .lst 4 (s.args.map Ex.cs):=rfl
 have hlen:=(cHV aG l).len hI
 have hn2:2≤h.length:=hlen.1
 have hid:id<h.length:=hlen.2
 have hk0:kF out (k+bl s.args):=zf hk (by unfold Sm.own;omega)
 refine AC.go pQ ?_
 simp-implicitDefEqProofs[jV,hcs,hxl]
 refine aJ (fun a:HS=>aj 19 [(2,.ptr 1 1 0 0),(3,.ptr 0 1 0 0),(9,.p (exL s.args)),(10,.p (.int .i64 s.args.length)),(11,.p (.int .i64 a.i))])
  (fun a=>a.h) (fun a=>a.i≤s.args.length∧AD l ((bN (s.args.take a.i)).foldl (fg l) out) a.id a.h∧h.length<a.h.length∧(∀i,i<h.length→2≤i→i≠id→a.h[i]?=h[i]?)∧(a.id=id∨h.length≤a.id)) (fun a=>s.args.length-a.i) ⟨0,id,h++[.row 5 [[.p (.int .i64 s.op),.p (.str s.name),.p (exL s.args),.p (smL s.body),.p (smL s.els)]]]⟩ ⟨Nat.zero_le _,(cHV aG l).more hI _,by simp,fun i a1 a2 a3=>List.getElem?_append_left a1,.inl rfl⟩ ?_ ?_
 ·exact cr (by simp) (by simp[below,hxl];omega)
 rintro⟨i,idc,hc⟩ ⟨hil,hIc,hlc,hkc,hic⟩
 simp only at hil hIc hlc hkc hic
 simp-implicitDefEqProofs[hxl]
 refine aS (fun hcc=>?_) (fun hcc=>?_)
 ·simp at hcc
  have hg:=List.getElem?_eq_getElem hcc
  have hks:=bQ (List.getElem_mem hcc)
  have hkc2:=s.args[i].cs_eq
  have hT:s.args.take (i+1)=s.args.take i++[s.args[i]]:=al hcc
  have hsum:bl s.args=bl (s.args.take i)+(s.args[i].parts+bl (s.args.drop (i+1))):=by
   have e1:bl s.args=bl (s.args.take i)+bl (s.args.drop i):=by rw[←ec,List.take_append_drop]
   have e2:bl (s.args.drop i)=s.args[i].parts+bl (s.args.drop (i+1)):=by rw[List.drop_eq_getElem_cons hcc,bl]
   omega
  have hic2:kF ((bN (s.args.take i)).foldl (fg l) out) (k+bl (s.args.drop (i+1))+s.args[i].parts):=
   lv (nU l) _ _ _ (by rw[show k+bl (s.args.drop (i+1))+s.args[i].parts+bl (s.args.take i)=k+bl s.args by omega];exact hk0)
  have hA:=fun os=>Dr G (cHV aG l) (fg l) kF 1073741824 (Nat.le_refl _) (nU l) (tZ G l hl) 1073741825 s.args[i] (by omega) (by omega) _ _ idc (hc++os) hic2 ((cHV aG l).more hIc os)
  have hf:(bN (s.args.take (i+1))).foldl (fg l) out=s.args[i].pre.foldl (fg l) ((bN (s.args.take i)).foldl (fg l) out):=by
   rw[hT,jP,List.foldl_append,bN,bN,List.append_nil]
  have hF:(cHV aG l).F=aG:=rfl
  have hC:(cHV aG l).caps=[.ptr 1 1 0 0,.ptr 0 1 0 0]:=rfl
  rw[hkc2,hF,hC] at hA
  simp-implicitDefEqProofs[hg,hkc2]
  refine(hA _).mono ?_
  rintro r h3 ⟨rfl,id3,M1,M2,M3,M4⟩
  rw[List.length_append] at M2 M3 M4
  simp only[List.length_cons,List.length_nil] at M2 M3 M4
  have M3':∀i,i<hc.length+(0+1)→2≤i→i≠idc→h3[i]?=_:=M3
  simp-implicitDefEqProofs[aa]
  refine⟨⟨i+1,id3,h3⟩,⟨hcc,by rw[hf];exact M1,by show h.length<h3.length;omega,fun j a1 a2 a3=>?_,?_⟩,by show s.args.length-(i+1)<s.args.length-i;omega,cr (by show h.length≤h3.length;omega) ?_⟩
  ·show h3[j]?=h[j]?
   rw[M3' j (by omega) a2 (by omega),List.getElem?_append_left (by omega),hkc j a1 a2 a3]
  ·show id3=id∨h.length≤id3
   omega
  ·simp[below,hxl,w1 (i:=i) (by omega)]
   omega
 ·simp at hcc
  have hie:i=s.args.length:=by omega
  subst hie
  rw[List.take_length] at hIc
  simp-implicitDefEqProofs[]
  exact⟨idc,hIc,by omega,hkc,by omega⟩
theorem to(l:List Fd):∀(xs:List (Sm × Nat)) (out:List Int),xs.foldl (sy l) out=(xs.flatMap fun x=>bN x.1.args).foldl (fg l) out
 |[],out=>rfl
 |x::r,out=>by rw[List.foldl_cons,to l r,List.flatMap_cons,List.foldl_append];rfl
theorem qE(l:List Fd)(bd:List Sm):(aT 1 bd).foldl (sy l) []=iG l bd:=by
 rw[to,sg];rfl
def pD(l:List Fd)(bd:List Sm):List Int:=Lib.compact ((iG l bd).mergeSort fun x y=>decide (x≤y))
theorem ug(l:List Fd)(hz:aY l≤1073741824){k:Nat}{f:Fd}(hk:l[k]?=some f):AC Tryz.prog G dk [.agg [.p (fdL l)],.p (.int .i64 k)] [] (MkW cK true [cG (pD l f.body)]):=by
 have hll:=cf l
 have hfm:=dY (List.mem_of_getElem? hk)
 have hfz:f.sz=1+f.name.length+(f.params.length+(f.params.map List.length).sum)+aq f.body:=rfl
 have hfl:fdL l= .lst 3 (l.map Fd.cs):=rfl
 have hcs:f.cs=[.str f.name,aC f.params,smL f.body]:=rfl
 have hin:∀xs,dM xs=lb xs:=fun _=>rfl
 generalize hS:(iG l f.body).mergeSort (fun x y=>decide (x≤y))=S
 have hSl:S.length=(iG l f.body).length:=by rw[←hS,List.length_mergeSort]
 have hcl:=xq S
 have hcnt:kF (iG l f.body) 0:=by
  rw[←qE]
  exact ma (rV l) f.body 1 [] 0 (by unfold kF;simp;omega)
 have hnum:(iG l f.body).length≤1099511627776:=by unfold kF at hcnt;omega
 have key:AC Tryz.prog G dk [.agg [.p (fdL l)],.p (.int .i64 k)] [] fun x h=>(x= .ret .nils∧iG l f.body=[])∨∃id t,x= .ret (.sl id 1 0 (Lib.compact S).length)∧h[id]?=some (dM (Lib.compact S++t)):=by
  refine AC.go sx ?_
  simp-implicitDefEqProofs[lW,hfl,hk,hcs]
  refine(CB G (cHV dh l) (sy l) kF 1073741824 (Nat.le_refl _) (rV l) (fun st s d k id h=>wq G l (by omega) st s d k id h) 1073741825 f.body (by omega) (by omega) 1 (by omega) [] 0 0 [.row 1 [[.p (fdL l)]],.row 1 [[.nils]]] (by unfold kF;simp;omega) ⟨rfl,by simp,.inl ⟨rfl,rfl,rfl⟩⟩).mono ?_
  rintro r h ⟨rfl,id,L1,L2,L3,L4⟩
  rw[qE] at L1
  obtain⟨h0,h2,⟨hn,rfl,h1⟩|⟨hn,hid,h1,hr⟩⟩:AD l (iG l f.body) id h:=L1
  ·simp-implicitDefEqProofs[aa,h1]
   refine(uB G h).mono ?_
   rintro r h' ⟨rfl,rfl⟩
   simp-implicitDefEqProofs[aa,h1]
   refine(wc G h').mono ?_
   rintro r h'' ⟨rfl,rfl⟩
   simp-implicitDefEqProofs[aa]
   exact hn
  ·have hidl:=(List.getElem?_eq_some_iff.1 hr).1
   simp-implicitDefEqProofs[aa,h1]
   refine(Dg G hr hn (by omega)).mono ?_
   rintro r h' ⟨rfl,rfl⟩
   rw[hS]
   have hne:id≠1:=by omega
   have hC:=An G (h:=h.set id (dM S)) (id:=id) (xs:=S) (by simp[hidl]) (by intro e;rw[e] at hSl;simp at hSl;exact hn (List.length_eq_zero_iff.1 hSl.symm)) (by omega) hcl
   rw[hSl] at hC
   simp-implicitDefEqProofs[aa,h1,List.getElem?_set_ne hne]
   refine hC.mono ?_
   rintro r h'' ⟨rfl,rfl⟩
   simp-implicitDefEqProofs[aa]
   exact⟨List.replicate ((iG l f.body).length-(Lib.compact S).length) 0,by simp[hidl]⟩
 refine key.wk (fun t v h hh=>?_) fun v h hh=>?_
 ·rcases hh with⟨e,_⟩|⟨_,_,e,_⟩<;>cases e
 have hO:pD l f.body=Lib.compact S:=by rw[pD,hS]
 rw[hO]
 rcases hh with⟨e,hn⟩|⟨id,t,e,hid⟩
 ·cases e
  have:S=[]:=by rw[hn] at hSl;exact List.length_eq_zero_iff.1 (by simpa using hSl)
  rw[this]
  exact⟨.nils,h,me (jT h),[.nils],[],rfl,.nils 1 .nil,List.nodup_nil⟩
 ·cases e
  have hidl:=(List.getElem?_eq_some_iff.1 hid).1
  refine⟨_,_,me (ww (Lib.compact S).length hid),[.sl id 1 0 (Lib.compact S).length],[id],rfl,uN ?_ rfl,by simp⟩
  rw[List.getElem?_set_self hidl]
  simp[lb,←List.map_take]
end Go.Proofs.YtnjbhgpbgmpkcaaGreatDoor
