/-
  Contracts and lemmas that the card needs, part 6.
-/
import Derived.Test.YtnjbhgpbgmpkcaaGreatDoorFl5
import Derived.Test.YtnjbhgpbgmpkcaaGreatDoorChecked
import Derived.Shelf.Sort.AssemblyIn
import Derived.Shelf.Slices.CompactI
import Derived.Sort.Grow
import Derived.Shelf.Sort.Plain
import Derived.Shelf.Slices.In.SortNone
namespace Go.Proofs.YtnjbhgpbgmpkcaaGreatDoor
open Go Go.Aw
set_option maxRecDepth 100000
set_option maxHeartbeats 4000000
def K_impl_CheckProgram:AK:= .seq (.reg [oJ 1 (.box 1 (.t 0)),oK 2 0]) (.seq (.seq (.reg [oJ 11 (.ld (some 1) (.t 1)),oJ 12 (.call cT [(.t 11)]),oJ 13 (.not (.t 12))]) (.cond (.t 13) (.seq (.reg [oK 2 1]) (.ret)) (.skip))) (.seq (.reg [oJ 14 (.ld (some 1) (.t 1)),oJ 15 (.bld [.nils,(.p (.int .i64 0)),(.p (.int .i64 0))] [(0,1,(.t 14))]),oJ 16 (.box 3 (.t 15)),oM 3 16]) (.seq (.seq (.reg [oF 17 0 1,oL 18 17,oJ 19 (.len false (.t 18)),oK 20 0]) (.blk 0 (.loop (.seq (.reg [oJ 21 (.bin .lss (.t 20) (.t 19))]) (.seq (.cond (.t 21) (.skip) (.exit 0)) (.seq (.blk 1 (.seq (.reg [oM 22 20,oJ 23 (.idxS 3 (.t 18) (.t 20)),oJ 24 (.ld (some 3) (.t 23)),oJ 5 (.alloc [(.p (.str [])),.nils,.nils]),oM 4 22,⟨none,none,.st 3 (.t 5) (.t 24)⟩]) (.seq (.reg [oM 25 3,oM 26 4,oN 27 25,oF 28 1 27,oS 28 26]) (.cut (.seq (.reg [oJ 29 (.ld (some 1) (.t 1)),oF 30 0 5,oL 31 30,oJ 32 (.call eU [(.t 29),(.t 31)]),oM 33 4,oJ 34 (.bin .lss (.t 32) (.t 33))]) (.cond (.t 34) (.reg [oM 35 3,oJ 36 (.call aw [(.t 35),(.c (.p (.int .i64 2)))])]) (.skip))) (.seq (.reg [oJ 37 (.call bj [(.c .nilp)]),oM 6 37]) (.seq (.seq (.reg [oF 38 1 5,oL 39 38,oJ 40 (.len false (.t 39)),oK 41 0]) (.blk 2 (.loop (.seq (.reg [oJ 42 (.bin .lss (.t 41) (.t 40))]) (.seq (.cond (.t 42) (.skip) (.exit 2)) (.seq (.blk 3 (.seq (.reg [oJ 43 (.idxS 1 (.t 39) (.t 41)),oL 44 43,oM 8 44]) (.seq (.seq (.reg [oM 46 6,oN 47 46,oF 48 0 47,oL 49 48,oM 50 8,oJ 51 (.lk 1 (.p (.int .i64 0)) true (.t 49) (.t 50)),oM 45 51,oJ 52 (.ext 0 (.t 45)),oJ 53 (.ext 1 (.t 45)),oM 9 52,oM 10 53]) (.seq (.reg [oM 54 10]) (.cond (.t 54) (.reg [oM 55 3,oJ 56 (.call aw [(.t 55),(.c (.p (.int .i64 2)))])]) (.skip)))) (.reg [oM 57 6,oN 58 57,oF 59 0 58,oL 60 59,oM 61 8,⟨none,none,.mup 1 (.t 60) (.t 61) (.c (.p (.int .i64 0)))⟩])))) (.reg [oJ 62 (.bin .add (.t 41) (.c (.p (.int .i64 1)))),oM 41 62]))))))) (.reg [oM 63 3,oF 64 2 5,oL 65 64,oM 66 6,oJ 67 (.call aM [(.t 63),(.t 65),(.t 66)])]))))))) (.reg [oJ 68 (.bin .add (.t 20) (.c (.p (.int .i64 1)))),oM 20 68]))))))) (.seq (.reg [oM 69 3,oN 70 69,oF 71 2 70,oL 72 71,oM 2 72]) (.ret)))))
theorem lM:K_impl_CheckProgram.whole=F_impl_CheckProgram.ak:=rfl
theorem tC(fns:List Fd):∀(a b:List Fd) (k:Nat) (c:Int),gW fns k (a++b) c=gW fns (k+a.length) b (gW fns k a c)
 |[],b,k,c=>rfl
 |f::r,b,k,c=>by rw[List.cons_append,gW,gW,tC fns r];congr 1;simp only[List.length_cons];omega
theorem xA{fns l:List Fd}{i:Nat}{c:Int}(h:i<l.length):gW fns 0 (l.take (i+1)) c=icF fns i l[i] (gW fns 0 (l.take i) c):=by
 rw[an h,tC,List.length_take,Nat.min_eq_left (Nat.le_of_lt h),Nat.zero_add];rfl
theorem AR(a b:List (List UInt8))(m:Scp)(c:Int):iX (a++b) m c=iX b (iX a m c).1 (iX a m c).2:=by simp[iX]
theorem zx{l:List (List UInt8)}{i:Nat}{m:Scp}{c:Int}(h:i<l.length):iX (l.take (i+1)) m c=(gY (iX (l.take i) m c).1 l[i] 0,if(gq (iX (l.take i) m c).1 l[i]).isSome then fl (iX (l.take i) m c).2 2 else(iX (l.take i) m c).2):=by
 rw[an h,AR];rfl
variable (G:aC) (hK:G fM=some fp) (hS:G dj=some [.tbl opK opV])
include hK hS
theorem kT(l:List Fd)(hl:aX l≤1073741824):VF Tryz.prog G cS [.agg [.p (fdL l)]] (.p (.int .i64 (cG l))):=by
 have hll:=bX l
 have hfl:∀l,fdL l= .lst 3 (l.map Fd.cs):=fun _=>rfl
 rw[xi]
 refine AC.goK lT lM ?_
 simp-implicitDefEqProofs[K_impl_CheckProgram,F_impl_CheckProgram]
 refine(rD G hK hS l hl).use ?_
 by_cases hv:bp l=true
 case neg=>
  have hv':bp l=false:=by simpa using hv
  simp-implicitDefEqProofs[hv']
 rw[if_pos hv]
 simp-implicitDefEqProofs[hv,hfl]
 refine aO (fun i:Nat=>am 73 [(1,.ptr 0 1 0 0),(3,.ptr 1 3 0 0),(18,.p (fdL l)),(19,.p (.int .i64 l.length)),(20,.p (.int .i64 i))])
  (fun i=>[.row 1 [[.p (fdL l)]],cO l (i-1) (gW l 0 (l.take i) 0)]) (fun i=>i≤l.length) (fun i=>l.length-i) 0 (by simp) ?_ ?_
 ·refine ab (h:=[.row 1 [[.p (fdL l)]],cO l 0 0]) (by simp) (by simp[okO,below,cO]) (by simp[below,hfl])
 intro i hi
 have hbo:okO 0 (.row 1 [[.p (fdL l)]]):=by simp[okO]
 simp-implicitDefEqProofs[hfl]
 refine aW (fun h=>?_) (fun h=>?_)
 ·simp at h
  have hg:=List.getElem?_eq_getElem h
  have hks:=dJ (List.getElem_mem h)
  have eT:=xA (fns:=l) (c:=0) h
  obtain⟨j,ej,ejl⟩:=th hg
  generalize l[i]=f at*
  have hcs:f.cs=[.str f.name,az f.params,smL f.body]:=rfl
  have hfz:f.sz=1+f.name.length+(f.params.length+(f.params.map List.length).sum)+aq f.body:=rfl
  have hst:az f.params= .lst 1 (f.params.map fun w=>[.str w]):=rfl
  generalize gW l 0 (l.take i) 0=c0 at eT⊢
  simp-implicitDefEqProofs[hg,hcs,cO]
  have hic:icF l i f c0=(fC l i f.body (iX f.params [] (if j<i then fl c0 2 else c0)).1 [] (iX f.params [] (if j<i then fl c0 2 else c0)).2).2:=by
   rw[icF,ej];simp
  rw[hic] at eT
  clear hic
  refine ji (am 73 [(1,.ptr 0 1 0 0),(3,.ptr 1 3 0 0),(4,.p (.int .i64 i)),(5,.ptr 2 3 0 0),(18,.p (fdL l)),(19,.p (.int .i64 l.length)),(20,.p (.int .i64 i))])
   [.row 1 [[.p (fdL l)]],cO l i (if j<i then fl c0 2 else c0),.row 3 [[.p (.str f.name),.p (az f.params),.p (smL f.body)]]] ?_ ?_
  ·simp-implicitDefEqProofs[]
   refine(xx G l f.name (by omega)).use ?_
   rw[ej]
   by_cases hj:j<i
   ·have hj':(j:Int)<(i:Int):=by omega
    rw[if_pos hj]
    simp-implicitDefEqProofs[ixI,hj']
    refine(uD G (.row 1 [[.p (fdL l)]]) l i c0 2 [.row 3 [[.p (.str f.name),.p (az f.params),.p (smL f.body)]]]).mono ?_
    rintro r h ⟨rfl,rfl⟩
    simp-implicitDefEqProofs[aa]
    exact ab (by simp) (by simp[okO,below,cO]) (by simp[below,hfl])
   ·have hj':¬(j:Int)<(i:Int):=by omega
    rw[if_neg hj]
    simp-implicitDefEqProofs[ixI,hj']
    exact ab (h:=[.row 1 [[.p (fdL l)]],cO l i c0,.row 3 [[.p (.str f.name),.p (az f.params),.p (smL f.body)]]]) (by simp) (by simp[okO,below,cO]) (by simp[below,hfl])
  generalize (if j<i then fl c0 2 else c0)=c1 at eT⊢
  have hCH:∀(c:Int) (m:Scp),CH (.row 1 [[.p (fdL l)]]) l i c [⟨[.row 3 [[.p (.str f.name),.p (az f.params),.p (smL f.body)]]],m⟩]=[.row 1 [[.p (fdL l)]],cO l i c,.row 3 [[.p (.str f.name),.p (az f.params),.p (smL f.body)]],.mp (mpE m),.row 2 [[.mp 3,.nilp]]]:=fun _ _=>rfl
  simp-implicitDefEqProofs[]
  refine(rp G .nilp (.inl rfl) _).mono ?_
  rintro r h ⟨rfl,rfl⟩
  simp-implicitDefEqProofs[aa,hst]
  refine aO (fun q:Nat=>am 73 [(1,.ptr 0 1 0 0),(3,.ptr 1 3 0 0),(4,.p (.int .i64 i)),(5,.ptr 2 3 0 0),(6,.ptr 4 2 0 0),(18,.p (fdL l)),(19,.p (.int .i64 l.length)),(20,.p (.int .i64 i)),(39,.p (az f.params)),(40,.p (.int .i64 f.params.length)),(41,.p (.int .i64 q))])
   (fun q=>[.row 1 [[.p (fdL l)]],cO l i (iX (f.params.take q) [] c1).2,.row 3 [[.p (.str f.name),.p (az f.params),.p (smL f.body)]],.mp (mpE (iX (f.params.take q) [] c1).1),.row 2 [[.mp 3,.nilp]]])
   (fun q=>q≤f.params.length) (fun q=>f.params.length-q) 0 (by simp) ?_ ?_
  ·exact ab (h:=[.row 1 [[.p (fdL l)]],cO l i c1,.row 3 [[.p (.str f.name),.p (az f.params),.p (smL f.body)]],.mp [],.row 2 [[.mp 3,.nilp]]]) (by simp) (by simp[okO,below,cO]) (by simp[below,hfl,hst])
  intro q hq
  have eP:=fun h=>zx (l:=f.params) (i:=q) (m:=[]) (c:=c1) h
  generalize hP:iX (f.params.take q) [] c1=st at eP⊢
  obtain⟨mq,cq⟩:=st
  simp only at eP⊢
  simp-implicitDefEqProofs[hst]
  refine aW (fun hc=>?_) (fun hc=>?_)
  ·simp at hc
   have hga:=List.getElem?_eq_getElem hc
   have eP:=eP hc
   generalize f.params[q]=nme at hga eP
   have hmg:=nc nme mq
   have hms:ij (.str nme) (.p (.int .i64 0)) (mpE mq)=some (mpE (gY mq nme 0)):=by simpa using rx nme 0 mq
   have fin:∀(r1:List (Nat × AV)) (c2:Int),Aw.look r1 1= .ptr 0 1 0 0→Aw.look r1 3= .ptr 1 3 0 0→Aw.look r1 4= .p (.int .i64 i)→Aw.look r1 5= .ptr 2 3 0 0→Aw.look r1 6= .ptr 4 2 0 0→Aw.look r1 18= .p (fdL l)→Aw.look r1 19= .p (.int .i64 l.length)→Aw.look r1 20= .p (.int .i64 i)→Aw.look r1 39= .p (az f.params)→Aw.look r1 40= .p (.int .i64 f.params.length)→Aw.look r1 41= .p (.int .i64 ((q:Int)+1))→
    Wk 0 (am 73 r1) [.row 1 [[.p (fdL l)]],cO l i c2,.row 3 [[.p (.str f.name),.p (az f.params),.p (smL f.body)]],.mp (mpE (gY mq nme 0)),.row 2 [[.mp 3,.nilp]]]
     (am 73 [(1,.ptr 0 1 0 0),(3,.ptr 1 3 0 0),(4,.p (.int .i64 i)),(5,.ptr 2 3 0 0),(6,.ptr 4 2 0 0),(18,.p (fdL l)),(19,.p (.int .i64 l.length)),(20,.p (.int .i64 i)),(39,.p (az f.params)),(40,.p (.int .i64 f.params.length)),(41,.p (.int .i64 ((q:Int)+1)))])
     [.row 1 [[.p (fdL l)]],cO l i c2,.row 3 [[.p (.str f.name),.p (az f.params),.p (smL f.body)]],.mp (mpE (gY mq nme 0)),.row 2 [[.mp 3,.nilp]]]:=by
    intro r1 c2 e1 e3 e4 e5 e6 e18 e19 e20 e39 e40 e41
    refine ab (by simp) (ag (by simp[okO]) (ag (by simp[okO,cO]) (ag (by simp[okO]) (ag (wg _ _) (ag (by simp[okO,below]) cH))))) ?_
    simp[below,e1,e3,e4,e5,e6,e18,e19,e20,e39,e40,e41]
   cases hh:gq mq nme with
   |none=>
    rw[hh] at hmg eP
    simp-implicitDefEqProofs[hga,hmg,hms]
    refine⟨q+1,by omega,by omega,?_⟩
    rw[eP]
    exact fin _ _ (by simp) (by simp) (by simp) (by simp) (by simp) (by simp[hfl]) (by simp) (by simp) (by simp[hst]) (by simp) (by simp[w1 (i:=q) (by omega)])
   |some n=>
    rw[hh] at hmg eP
    simp-implicitDefEqProofs[hga,hmg,hms]
    refine(uD G (.row 1 [[.p (fdL l)]]) l i cq 2 _).mono ?_
    rintro r h ⟨rfl,rfl⟩
    simp-implicitDefEqProofs[aa,hms]
    refine⟨q+1,by omega,by omega,?_⟩
    rw[eP]
    exact fin _ _ (by simp) (by simp) (by simp) (by simp) (by simp) (by simp[hfl]) (by simp) (by simp) (by simp[hst]) (by simp) (by simp[w1 (i:=q) (by omega)])
  ·simp at hc
   have hqe:q=f.params.length:=by omega
   subst hqe
   rw[List.take_length] at hP
   rw[hP] at eT
   simp only at eT
   have hB:=Dj G (.row 1 [[.p (fdL l)]]) (fns:=l) (k:=i) (by omega) (by omega) hbo (aq f.body+1) f.body (by omega) (by omega) [.row 3 [[.p (.str f.name),.p (az f.params),.p (smL f.body)]]] mq [] cq ⟨by simp[okO],trivial⟩
   rw[hCH] at hB
   simp-implicitDefEqProofs[]
   refine hB.mono ?_
   rintro r h ⟨rfl,rfl⟩
   simp-implicitDefEqProofs[aa]
   refine⟨i+1,by omega,by omega,?_⟩
   rw[eT]
   refine eY (m:=2) (by omega) (cY rfl rfl (by simp[okO,below,cO])) (by simp[below,hfl,w1 (i:=i) (by omega)])
 ·simp at h
  have hie:i=l.length:=by omega
  subst hie
  rw[List.take_length]
  simp-implicitDefEqProofs[cO]
end Go.Proofs.YtnjbhgpbgmpkcaaGreatDoor
namespace Go.Proofs.YtnjbhgpbgmpkcaaGreatDoor
open Go Go.Aw
set_option maxRecDepth 100000
set_option maxHeartbeats 4000000
def Byt(l:List Int):Prop:=∀n∈l,0≤n∧n≤255
def rdO(b:List Int)(p:Nat):AO:= .row 2 [[.p (pp b),.p (.int .i64 p)]]
theorem zC{a b:Int}(ha:0≤a)(ha2:a<4611686018427387904)(hb:0≤b)(hb2:b<4611686018427387904):∃n:Nat,IntKind.i64.wrap ((BitVec.ofInt IntKind.i64.bits a^^^BitVec.ofInt IntKind.i64.bits b).toNat:Int)=n:=by
 refine⟨(BitVec.ofInt IntKind.i64.bits a^^^BitVec.ofInt IntKind.i64.bits b).toNat,?_⟩
 obtain⟨x,rfl⟩:∃x:Nat,a=x:=⟨a.toNat,by omega⟩
 obtain⟨y,rfl⟩:∃y:Nat,b=y:=⟨b.toNat,by omega⟩
 have h1:(BitVec.ofInt 64 (x:Int)).toNat=x:=by simp;omega
 have h2:(BitVec.ofInt 64 (y:Int)).toNat=y:=by simp;omega
 have h3:(BitVec.ofInt 64 (x:Int)^^^BitVec.ofInt 64 (y:Int)).toNat<2^63:=by
  rw[BitVec.toNat_xor,h1,h2]
  exact Nat.xor_lt_two_pow (by omega) (by omega)
 have h4:(BitVec.ofInt IntKind.i64.bits (x:Int)^^^BitVec.ofInt IntKind.i64.bits (y:Int)).toNat<2^63:=h3
 exact af (by omega) (by omega)
theorem xZ{a:Nat}{n:Int}(hn:1≤n):∃k:Nat,((a:Int).tmod n)=k∧(k:Int)<n:=by
 obtain⟨m,rfl⟩:∃m:Nat,n=m:=⟨n.toNat,by omega⟩
 refine⟨a%m,?_,?_⟩
 ·rfl
 ·have:a%m<m:=Nat.mod_lt _ (by omega)
  omega
variable (G:aC)
theorem Fy(l:List Int):AC Tryz.prog G fq [.p (pp l)] [] fun x h=>x= .ret (.ptr 0 2 0 0)∧h=[rdO (l.take 2000) 0]:=by
 refine AC.go rr ?_
 have hbl:pp l= .lst 1 (l.map fun n=>[.int .u8 n]):=rfl
 simp-implicitDefEqProofs[kJ,hbl]
 refine aW (fun h=>?_) (fun h=>?_)
 ·simp at h
  have:2000≤l.length:=by omega
  simp-implicitDefEqProofs[this,rdO,pp,List.map_take]
 ·simp at h
  have:l.take 2000=l:=List.take_of_length_le (by omega)
  simp-implicitDefEqProofs[rdO,this,pp]
theorem Bt(b:List Int)(hb:Byt b)(hl:b.length≤2000)(p:Nat)(hp:p≤1099511627776)(n:Int):AC Tryz.prog G ae [.ptr 0 2 0 0,.p (.int .i64 n)] [rdO b p] fun x h=>∃k:Nat,x= .ret (.p (.int .i64 k))∧h=[rdO b (p+1)]∧((k:Int)<n∨k=0):=by
 refine AC.go nz ?_
 have hbl:pp b= .lst 1 (b.map fun n=>[.int .u8 n]):=rfl
 have hw:IntKind.i64.wrap ((p:Int)+1)=((p+1:Nat):Int):=w1 (by omega)
 by_cases hn:n<1
 ·simp-implicitDefEqProofs[dA,rdO,hbl,hw,hn]
  exact⟨0,rfl,.inr rfl⟩
 by_cases hbn:b=[]
 ·subst hbn
  have hb0:pp []= .lst 1 []:=rfl
  simp-implicitDefEqProofs[dA,rdO,hb0,hw,hn]
  exact⟨0,rfl,.inr rfl⟩
 have hpos:0<b.length:=List.length_pos_iff.2 hbn
 have hlb:¬b.length=0:=by omega
 have hn0:¬n=0:=by omega
 have hw2:IntKind.i64.wrap (p:Int)=(p:Int):=af (by omega) (by omega)
 have at_:∀q:Nat,∃c:Int,b[q%b.length]?=some c∧0≤c∧c≤255:=fun q=>by
  have h:=Nat.mod_lt q hpos
  exact⟨_,List.getElem?_eq_getElem h,hb _ (List.getElem_mem h)⟩
 simp-implicitDefEqProofs[dA,rdO,hbl,hw,hn,hbn,hw2]
 refine aW (fun h1=>?_) (fun h1=>?_)
 ·simp at h1
  obtain⟨c,e1,e2,e3⟩:=at_ p
  rw[Nat.mod_eq_of_lt h1] at e1
  obtain⟨d,rfl⟩:∃d:Nat,c=d:=⟨c.toNat,by omega⟩
  obtain⟨k,q1,q2⟩:=xZ (a:=d) (n:=n) (by omega)
  have hw3:IntKind.i64.wrap (d:Int)=d:=af (by omega) (by omega)
  simp-implicitDefEqProofs[e1,hw3,hn0,q1]
  exact⟨k,rfl,.inl q2⟩
 ·simp at h1
  obtain⟨c1,e1,e2,e3⟩:=at_ p
  obtain⟨c2,f1,f2,f3⟩:=at_ (p*7+3)
  have hq:p/b.length≤p:=Nat.div_le_self _ _
  have ht1:(p:Int).tmod (b.length:Int)=((p%b.length:Nat):Int):=rfl
  have ht2:((p:Int)*7+3).tmod (b.length:Int)=(((p*7+3)%b.length:Nat):Int):=rfl
  have ht3:(p:Int).tdiv (b.length:Int)=((p/b.length:Nat):Int):=rfl
  generalize p/b.length=q at hq ht3
  generalize p%b.length=r1 at e1 ht1
  generalize (p*7+3)%b.length=r2 at f1 ht2
  obtain⟨x1,rfl⟩:∃d:Nat,c1=d:=⟨c1.toNat,by omega⟩
  obtain⟨x2,rfl⟩:∃d:Nat,c2=d:=⟨c2.toNat,by omega⟩
  obtain⟨m,hx⟩:=zC (a:=x1*131+x2*1117+p*29+q*53) (b:=(x1*131+x2*1117+p*29+q*53)/64) (by omega) (by omega) (by omega) (by omega)
  obtain⟨k,q1,q2⟩:=xZ (a:=m) (n:=n) (by omega)
  have ht4:((x1:Int)*131+x2*1117+p*29+q*53).tdiv 64=((x1:Int)*131+x2*1117+p*29+q*53)/64:=Int.tdiv_eq_ediv_of_nonneg (by omega)
  have w1:IntKind.i64.wrap ((p:Int)*7)=(p:Int)*7:=af (by omega) (by omega)
  have w2:IntKind.i64.wrap ((p:Int)*7+3)=(p:Int)*7+3:=af (by omega) (by omega)
  have w3:IntKind.i64.wrap ((p:Int)*29)=(p:Int)*29:=af (by omega) (by omega)
  have w4:IntKind.i64.wrap (x1:Int)=x1:=af (by omega) (by omega)
  have w5:IntKind.i64.wrap (x2:Int)=x2:=af (by omega) (by omega)
  have w6:IntKind.i64.wrap ((x1:Int)*131)=(x1:Int)*131:=af (by omega) (by omega)
  have w7:IntKind.i64.wrap ((x2:Int)*1117)=(x2:Int)*1117:=af (by omega) (by omega)
  have w8:IntKind.i64.wrap ((x1:Int)*131+x2*1117)=(x1:Int)*131+x2*1117:=af (by omega) (by omega)
  have w9:IntKind.i64.wrap ((x1:Int)*131+x2*1117+p*29)=(x1:Int)*131+x2*1117+p*29:=af (by omega) (by omega)
  have w10:IntKind.i64.wrap (q:Int)=q:=af (by omega) (by omega)
  have w11:IntKind.i64.wrap ((q:Int)*53)=(q:Int)*53:=af (by omega) (by omega)
  have w12:IntKind.i64.wrap ((x1:Int)*131+x2*1117+p*29+q*53)=(x1:Int)*131+x2*1117+p*29+q*53:=af (by omega) (by omega)
  have w13:IntKind.i64.wrap (((x1:Int)*131+x2*1117+p*29+q*53)/64)=((x1:Int)*131+x2*1117+p*29+q*53)/64:=af (by omega) (by omega)
  simp-implicitDefEqProofs[hlb,ht1,ht2,ht3,e1,f1,w1,w2,w3,w4,w5,w6,w7,w8,w9,w10,w11,w12,w13,ht4,hx,hn0,q1]
  simp-implicitDefEqProofs[] at hx
  rw[hx]
  exact⟨k,q1,.inl q2⟩
theorem bc(b:List Int)(p n:Nat):okO n (rdO b p):=by simp[okO,rdO]
theorem aU(b:List Int)(hb:Byt b)(hl:b.length≤2000)(p:Nat)(hp:p≤1099511627776)(n:Int)(rest:List AO):AC Tryz.prog G ae [.ptr 0 2 0 0,.p (.int .i64 n)] (rdO b p::rest) fun x h=>∃k:Nat,x= .ret (.p (.int .i64 k))∧h=rdO b (p+1)::rest∧((k:Int)<n∨k=0):=by
 refine((Bt G b hb hl p hp n).pre rest (by simp[below]) (fun o ho=>by rw[List.mem_singleton.1 ho];exact bc _ _ _) ?_).mono ?_
 ·rintro x h ⟨k,_,rfl,_⟩;rfl
 ·rintro x h ⟨h1,⟨k,e1,rfl,e3⟩,rfl⟩
  exact⟨k,e1,rfl,e3⟩
theorem EC{f:FuncId}{args:List AV}{b:List Int}{p:Nat}{o:AO}{R:AV→Nat→Prop}(H:AC Tryz.prog G f (.ptr 0 2 0 0::args) [rdO b p,o] fun x h=>∃v q,x= .ret (.p v)∧h=[rdO b q,o]∧R (.p v) q)(ho:okO 0 o)
 {h:List AO}{k:Nat}{args':List AV}(hk:k≠0)(h0:h[0]?=some (rdO b p))(h1:h[k]?=some o)(hT:TW [0,k] args' args):AC Tryz.prog G f (.ptr 0 2 0 0::args') h fun x h'=>∃v q,x= .ret (.p v)∧h'=h.set 0 (rdO b q)∧R (.p v) q:=by
 have nd:[0,k].Nodup:=by simp;omega
 refine(H.frame (args:= .ptr 0 2 0 0::args') [0,k] nd (by rw[oh];exact⟨.inr ⟨by simp[below],rfl⟩,hT⟩) (bs h0 (bc _ _ _) (bs h1 ho bq))).mono ?_
 rintro x h' ⟨x0,h2,⟨v,q,rfl,rfl,r⟩,_,rfl,rfl⟩
 refine⟨v,q,by simp[sj,ren],?_,r⟩
 have e1:∀σ,eK σ (rdO b q)=rdO b q:=fun σ=>nV (n:=0) (fun i hi=>by omega) _ (bc _ _ _)
 have e2:∀σ,eK σ o=o:=fun σ=>nV (n:=0) (fun i hi=>by omega) _ ho
 simp only[List.take,List.length_cons,List.length_nil,List.map_cons,List.map_nil,e1,e2,mrg,List.drop,List.append_nil]
 refine List.ext_getElem? fun i=>?_
 rw[List.getElem?_set]
 split
 ·rename_i e;subst e
  rw[List.getElem?_set_ne (Ne.symm hk)]
  split
  ·exact h1.symm
  ·rename_i hl
   have:=(List.getElem?_eq_some_iff.1 h1).1
   simp at hl;omega
 ·rfl
theorem FV(b:List Int)(hb:Byt b)(hl:b.length≤2000)(p:Nat)(hp:p≤1099511627776)(l:List Int)(hne:l≠[])(hll:l.length≤1099511627776):AC Tryz.prog G aj [.ptr 0 2 0 0,.sl 1 1 0 l.length] [rdO b p,rd l] fun x h=>∃v q,x= .ret (.p v)∧h=[rdO b q,rd l]∧(∃n,v= .int .i64 n∧n∈l)∧q=p+1:=by
 refine AC.go jj ?_
 have hpos:0<l.length:=List.length_pos_iff.2 hne
 simp-implicitDefEqProofs[fO]
 refine(aU G b hb hl p hp l.length [rd l]).mono ?_
 rintro r h ⟨k,rfl,rfl,hk⟩
 have hkl:k<l.length:=by omega
 have hg:=List.getElem?_eq_getElem hkl
 have hn:rd l= .row 1 (l.map fun n=>[.p (.int .i64 n)]):=rfl
 simp-implicitDefEqProofs[aa,hkl,hn,hg]
theorem iE{b:List Int}(hb:Byt b)(hl:b.length≤2000){p:Nat}(hp:p≤1099511627776)(l:List Int){h:List AO}{k:Nat}(hne:l≠[])(hll:l.length≤1099511627776)(hk:k≠0)(h0:h[0]?=some (rdO b p))(h1:h[k]?=some (rd l)):
 AC Tryz.prog G aj [.ptr 0 2 0 0,.sl k 1 0 l.length] h fun x h'=>∃n,n∈l∧x= .ret (.p (.int .i64 n))∧h'=h.set 0 (rdO b (p+1)):=by
 refine(EC G (args:=[.sl 1 1 0 l.length]) (R:=fun v q=>(∃n,v= .p (.int .i64 n)∧n∈l)∧q=p+1) ((FV G b hb hl p hp l hne hll).mono ?_) (by simp[okO,rd]) (args':=[.sl k 1 0 l.length]) hk h0 h1 (by simp[below,ren])).mono ?_
 ·rintro x h ⟨v,q,e1,e2,⟨n,rfl,e3⟩,e4⟩
  exact⟨_,q,e1,e2,⟨n,rfl,e3⟩,e4⟩
 ·rintro x h' ⟨v,q,e1,e2,⟨n,e3,e4⟩,e5⟩
  cases e3;subst e5
  exact⟨n,e4,e1,e2⟩
theorem HQ(b:List Int)(hb:Byt b)(hl:b.length≤2000)(p:Nat)(hp:p≤1099511627776)(l:List (List UInt8))(hne:l≠[])(hll:l.length≤1099511627776):AC Tryz.prog G ay [.ptr 0 2 0 0,.sl 1 1 0 l.length] [rdO b p,bC l] fun x h=>∃v q,x= .ret (.p v)∧h=[rdO b q,bC l]∧(∃s,v= .str s∧s∈l)∧q=p+1:=by
 refine AC.go jX ?_
 have hpos:0<l.length:=List.length_pos_iff.2 hne
 simp-implicitDefEqProofs[gx]
 refine(aU G b hb hl p hp l.length [bC l]).mono ?_
 rintro r h ⟨k,rfl,rfl,hk⟩
 have hkl:k<l.length:=by omega
 have hg:=List.getElem?_eq_getElem hkl
 have hn:bC l= .row 1 (l.map fun n=>[.p (.str n)]):=rfl
 simp-implicitDefEqProofs[aa,hkl,hn,hg]
theorem wj{b:List Int}(hb:Byt b)(hl:b.length≤2000){p:Nat}(hp:p≤1099511627776)(l:List (List UInt8)){h:List AO}{k:Nat}(hne:l≠[])(hll:l.length≤1099511627776)(hk:k≠0)(h0:h[0]?=some (rdO b p))(h1:h[k]?=some (bC l)):
 AC Tryz.prog G ay [.ptr 0 2 0 0,.sl k 1 0 l.length] h fun x h'=>∃s,s∈l∧x= .ret (.p (.str s))∧h'=h.set 0 (rdO b (p+1)):=by
 refine(EC G (args:=[.sl 1 1 0 l.length]) (R:=fun v q=>(∃n,v= .p (.str n)∧n∈l)∧q=p+1) ((HQ G b hb hl p hp l hne hll).mono ?_) (by simp[okO,bC]) (args':=[.sl k 1 0 l.length]) hk h0 h1 (by simp[below,ren])).mono ?_
 ·rintro x h ⟨v,q,e1,e2,⟨n,rfl,e3⟩,e4⟩
  exact⟨_,q,e1,e2,⟨n,rfl,e3⟩,e4⟩
 ·rintro x h' ⟨v,q,e1,e2,⟨n,e3,e4⟩,e5⟩
  cases e3;subst e5
  exact⟨n,e4,e1,e2⟩
theorem yI{b:List Int}(hb:Byt b)(hl:b.length≤2000){p:Nat}(hp:p≤1099511627776)(l:List (List UInt8))(hne:l≠[])(hll:l.length≤1099511627776)(rest:List AO):AC Tryz.prog G ay [.ptr 0 2 0 0,.p (az l)] (rdO b p::rest) fun x h=>∃s,s∈l∧x= .ret (.p (.str s))∧h=rdO b (p+1)::rest:=by
 have key:AC Tryz.prog G ay [.ptr 0 2 0 0,.p (az l)] [rdO b p] fun x h=>∃s,s∈l∧x= .ret (.p (.str s))∧h=[rdO b (p+1)]:=by
  refine AC.go jX ?_
  have hpos:0<l.length:=List.length_pos_iff.2 hne
  have hsl:az l= .lst 1 (l.map fun w=>[.str w]):=rfl
  simp-implicitDefEqProofs[gx,hsl]
  refine(aU G b hb hl p hp l.length []).mono ?_
  rintro r h ⟨k,rfl,rfl,hk⟩
  have hkl:k<l.length:=by omega
  have hg:=List.getElem?_eq_getElem hkl
  simp-implicitDefEqProofs[aa,hg]
 refine(key.pre rest (by simp[below]) (fun o ho=>by rw[List.mem_singleton.1 ho];exact bc _ _ _) ?_).mono ?_
 ·rintro x h ⟨k,_,_,rfl⟩;rfl
 ·rintro x h ⟨h1,⟨s,e1,e2,rfl⟩,rfl⟩
  exact⟨s,e1,e2,rfl⟩
def DP(b:List Int)(Q:AV→Nat→Prop)(x:ARes)(h:List AO):Prop:=∃v rest q v1,x= .ret v∧h=rdO b q::rest∧Fzs (.dead::rest) 1 [v] [v1]∧Q v1 q
theorem jL{f:FuncId}{args:List AV}{b:List Int}{p:Nat}{Q:AV→Nat→Prop}(H:AC Tryz.prog G f args [rdO b p] (DP b Q)):AC Tryz.prog G f args [rdO b p] fun x h=>∃v q,x= .ret v∧h=[rdO b q]∧Q v q:=by
 refine H.frz 1 (Nat.le_refl _) (fun t v h ⟨_,_,_,_,e,_⟩=>by cases e) ?_
 rintro v h ⟨v0,rest,q,v1,e,rfl,hf,r⟩
 cases e
 exact⟨v1,[rdO b q],by simp,rfl,hf,.same (bc _ _ _) (.nil _),v1,q,rfl,rfl,r⟩
theorem gC{f:FuncId}{args:List AV}{b:List Int}{p:Nat}{Q:AV→Nat→Prop}(H:AC Tryz.prog G f args [rdO b p] fun x h=>∃v q,x= .ret v∧h=[rdO b q]∧Q v q)(rest:List AO)(ha:ah 1 args):AC Tryz.prog G f args (rdO b p::rest) fun x h=>∃v q,x= .ret v∧h=rdO b q::rest∧Q v q:=by
 refine(H.pre rest ha (fun o ho=>by rw[List.mem_singleton.1 ho];exact bc _ _ _) ?_).mono ?_
 ·rintro x h ⟨k,_,_,rfl,_⟩;rfl
 ·rintro x h ⟨h1,⟨s,q,e1,rfl,e2⟩,rfl⟩
  exact⟨s,q,e1,rfl,e2⟩
end Go.Proofs.YtnjbhgpbgmpkcaaGreatDoor
namespace Go.Proofs.YtnjbhgpbgmpkcaaGreatDoor
open Go Go.Aw Go.ChangeShapes Go.WideShapes Go.ChangeAt Go.RowKit
set_option maxRecDepth 100000
abbrev FD:TypeId:=24
abbrev Hk:TypeId:=22
abbrev Jd:TypeId:=111
abbrev FT:TypeId:=54
abbrev GP:TypeId:=9
abbrev CW:TypeId:=109
abbrev EQ:TypeId:=185
abbrev DD:TypeId:=183
abbrev EY:TypeId:=225
abbrev EF:TypeId:=3
abbrev Ff:TypeId:=4
abbrev xe:TypeId:=177
abbrev Cv:TypeId:=232
abbrev DV:TypeId:=233
abbrev yw:TypeId:=38
abbrev uu:TypeId:=5
theorem Ha:Kids Tryz.prog (· <Tryz.prog.types.size):=kids_rows (by kernel_rfl) (by kernel_rfl)
theorem Hb:∀t e,t<Tryz.prog.types.size→Tryz.prog.underlying t=some (.slice e)→0<Tryz.prog.cellsOf e:=slices_full_of Tryz.prog (by kernel_rfl)
def CA:List TypeId:=[FD,Hk,Jd,FT,GP,CW,EQ,DD,EY,EF,Ff,xe,Cv]
theorem Ch:Plain Tryz.prog CA=true:=by kernel_rfl
theorem IW:ownKnob Tryz.prog.godebug=none:=by kernel_rfl
theorem rV{H:Type}:∀l:List (DataW H),Rows.uptoBulkAll l=(l.map Rows.uptoBulk).sum
 |[]=>by simp[Rows.uptoBulkAll]
 |d::r=>by simp[Rows.uptoBulkAll,rV r]
theorem Dm{H:Type}:BulkOk (Rows.uptoBulk (H:=H)) where
 lit:=fun l=>by cases l<;>simp[Rows.uptoBulk]
 str:=fun s=>by simp[Rows.uptoBulk]
 nil:=by simp[Rows.uptoBulk]
 slice:=fun es sp=>by simp only[Rows.uptoBulk,rV];omega
 agg:=fun ps=>by simp only[Rows.uptoBulk,rV];omega
theorem Cc{t e:TypeId}{vs:List PV}(h:Conf Tryz.prog t vs)(hu:Tryz.prog.underlying t=some (.slice e)):∃es,vs=[.lst (Tryz.prog.cellsOf e) es]∧es.length≤9223372036854775807∧∀x∈es,Conf Tryz.prog e x:=by
 cases h with
 |sl es e' hl hs=>rw[hu] at e';cases e';exact⟨es,rfl,hl,hs⟩
 |bool b e=>rw[e] at hu;cases hu
 |int n e=>rw[e] at hu;cases hu
 |str s e=>rw[e] at hu;cases hu
 |st vs e=>rw[e] at hu;cases hu
 |arr vs e=>rw[e] at hu;cases hu
def G0:aC:=fun g=>if g=fM then some fp else if g=dj then some [.tbl opK opV] else none
theorem Fg:∀k,fT Tryz.prog (k+10) xe (Rows.laid_loop_example_wholeway_impl_keys (H:=Unit))=fp:=fun k=>by kernel_rfl
theorem Je{W:World}{laid:List (String × DataW Unit)}(hL:laidMet Tryz.prog laid W)(h1:("loop.example/wholeway/impl.keys",Rows.laid_loop_example_wholeway_impl_keys)∈laid)(h2:("loop.example/wholeway/impl.opSign",Rows.laid_loop_example_wholeway_impl_opSign)∈laid):
 ∀g cs,G0 g=some cs→g<W.heap.size∧∀(j:Nat) (c:PV),cs[j]?=some c→∃v,W.cell? ⟨g,j,none⟩=some v∧PRel W (· <W.heap.size) c v:=by
 intro g cs h
 unfold G0 at h
 split at h
 ·rename_i e;subst e;cases h
  exact zN Ch hL (n:= "loop.example/wholeway/impl.keys") (d:=Rows.laid_loop_example_wholeway_impl_keys) (t:=xe) h1 (by kernel_rfl) (by kernel_rfl) (by decide) Fg
 ·split at h
  ·rename_i e;subst e;cases h
   exact BY Ch hL (n:= "loop.example/wholeway/impl.opSign") h2 (t:=DV) (k:=EF) (e:=Cv) (by kernel_rfl) (by kernel_rfl) (by kernel_rfl) (.inl ⟨.i64,by kernel_rfl⟩) (by decide) (by kernel_rfl) (by kernel_rfl) (fun m=>by kernel_rfl)
  ·cases h
def yi:List TypeId:=yw::uu::CA
theorem Fa:Plain Tryz.prog yi=true:=by kernel_rfl
theorem wU{vs:List PV}(h:Conf Tryz.prog yw vs):∃l:List Int,vs=[pp l]∧l.length≤9223372036854775807∧Byt l:=by
 obtain⟨es,rfl,hl,h4⟩:=Cc h (e:=uu) (by kernel_rfl)
 have hk:∀x∈es,∃n:Int,x=[PV.int .u8 n]∧(Lit.int .u8 n).wf=true:=fun x hx=>Cb (h4 x hx) (by kernel_rfl)
 obtain⟨l,rfl⟩:=yv (fun n:Int=>[PV.int .u8 n]) (fun x hx=>by obtain⟨n,e,_⟩:=hk x hx;exact⟨n,e⟩)
 rw[show Tryz.prog.cellsOf uu=1 by kernel_rfl]
 refine⟨l,rfl,by rwa[List.length_map] at hl,fun n hn=>?_⟩
 obtain⟨m,e,hw⟩:=hk [PV.int .u8 n] (List.mem_map.2 ⟨n,hn,rfl⟩)
 cases e
 simp[Lit.wf,IntKind.min,IntKind.max,IntKind.bits,IntKind.signed] at hw
 omega
end Go.Proofs.YtnjbhgpbgmpkcaaGreatDoor
namespace Go.Proofs.YtnjbhgpbgmpkcaaGreatDoor
open Go Go.Aw
set_option maxRecDepth 100000
theorem dK{s:Bool}{h:List AO}{vs:List AV}{q:PV}{I:List Nat}(H:OwnL s h vs [q] I):∃v,vs=[v]:=by
 have:=H.len
 match vs,this with
 |[v],_=>exact⟨v,rfl⟩
theorem DE{s:Bool}{h:List AO}{vs:List AV}{q r:PV}{I:List Nat}(H:OwnL s h vs [q,r] I):∃a b,vs=[a,b]:=by
 have:=H.len
 match vs,this with
 |[a,b],_=>exact⟨a,b,rfl⟩
theorem zs{s:Bool}{h:List AO}{vs:List AV}{q r t:PV}{I:List Nat}(H:OwnL s h vs [q,r,t] I):∃a b c,vs=[a,b,c]:=by
 have:=H.len
 match vs,this with
 |[a,b,c],_=>exact⟨a,b,c,rfl⟩
theorem wH{s:Bool}{h:List AO}{vs:List AV}{e:Ex}{I:List Nat}(H:OwnL s h vs e.cs I):∃K,vs=[.p (.int .i64 e.op),.p (.int .i64 e.n),.p (.str e.name),K]∧OwnL s h [K] [exL e.kids] I:=by
 rw[e.cs_eq] at H
 cases H with
 |p _ _ H=>
  cases H with
  |p _ _ H=>
   cases H with
   |p _ _ H=>
    obtain⟨v,rfl⟩:=dK H
    exact⟨v,rfl,H⟩
theorem Bv{s:Bool}{h:List AO}{o n:Int}{w:List UInt8}{k:List Ex}{K:AV}{I:List Nat}(H:OwnL s h [K] [exL k] I):OwnL s h [.p (.int .i64 o),.p (.int .i64 n),.p (.str w),K] (Ex.mk o n w k).cs I:=by
 rw[Ex.cs_eq]
 exact .p _ (fun _=>rfl) (.p _ (fun _=>rfl) (.p _ (fun _=>rfl) H))
theorem EW{s:Bool}{h:List AO}{vs:List AV}{e:Sm}{I:List Nat}(H:OwnL s h vs e.cs I):∃A B E I1 I2 I3,vs=[.p (.int .i64 e.op),.p (.str e.name),A,B,E]∧I=I1++(I2++I3)∧OwnL s h [A] [exL e.args] I1∧OwnL s h [B] [smL e.body] I2∧OwnL s h [E] [smL e.els] I3:=by
 rw[e.cs_eq] at H
 cases H with
 |p _ _ H=>
  cases H with
  |p _ _ H=>
   obtain⟨A,B,E,rfl⟩:=zs H
   obtain⟨I1,I',rfl,h1,H⟩:=H.one
   obtain⟨I2,I3,rfl,h2,h3⟩:=H.one
   exact⟨A,B,E,I1,I2,I3,rfl,rfl,h1,h2,h3⟩
theorem Fq{s:Bool}{h:List AO}{o:Int}{w:List UInt8}{a:List Ex}{b e:List Sm}{A B E:AV}{I1 I2 I3:List Nat}(h1:OwnL s h [A] [exL a] I1)(h2:OwnL s h [B] [smL b] I2)(h3:OwnL s h [E] [smL e] I3):
 OwnL s h [.p (.int .i64 o),.p (.str w),A,B,E] (Sm.mk o w a b e).cs (I1++(I2++I3)):=by
 rw[Sm.cs_eq]
 exact .p _ (fun _=>rfl) (.p _ (fun _=>rfl) (h1.app (h2.app h3)))
theorem FO{s:Bool}{h:List AO}{vs:List AV}{f:Fd}{I:List Nat}(H:OwnL s h vs f.cs I):∃A B I1 I2,vs=[.p (.str f.name),A,B]∧I=I1++I2∧OwnL s h [A] [az f.params] I1∧OwnL s h [B] [smL f.body] I2:=by
 rw[show f.cs=[.str f.name,az f.params,smL f.body] from rfl] at H
 cases H with
 |p _ _ H=>
  obtain⟨A,B,rfl⟩:=DE H
  obtain⟨I1,I2,rfl,h1,H⟩:=H.one
  exact⟨A,B,I1,I2,rfl,rfl,h1,H⟩
theorem mW{s:Bool}{h:List AO}{w:List UInt8}{ps:List (List UInt8)}{b:List Sm}{A B:AV}{I1 I2:List Nat}(h1:OwnL s h [A] [az ps] I1)(h2:OwnL s h [B] [smL b] I2):OwnL s h [.p (.str w),A,B] (Fd.mk w ps b).cs (I1++I2):=
 .p _ (fun _=>rfl) (h1.app h2)
end Go.Proofs.YtnjbhgpbgmpkcaaGreatDoor
namespace Go.Proofs.YtnjbhgpbgmpkcaaGreatDoor
open Go Go.Aw
set_option maxRecDepth 100000
set_option maxHeartbeats 4000000
structure HV (σ:Type) where
 F:FuncId
 caps:List AV
 n:Nat
 Inv:σ→Nat→List AO→Prop
 capsOk:ah n caps
 len:∀{st id h},Inv st id h→n≤h.length∧id<h.length
 frame:∀{st id h h'},Inv st id h→(∀i,i<h.length→i<n∨i=id→h'[i]?=h[i]?)→Inv st id h'
def HV.Left{σ:Type}(V:HV σ)(id:Nat)(h:List AO)(st':σ)(h':List AO):Prop:=
 ∃id',V.Inv st' id' h'∧h.length≤h'.length∧(∀i,i<h.length→V.n≤i→i≠id→h'[i]?=h[i]?)∧(id'=id∨h.length≤id')
structure HS where (i id:Nat) (h:List AO)
theorem HV.more{σ:Type}(V:HV σ){st:σ}{id:Nat}{h:List AO}(H:V.Inv st id h)(os:List AO):V.Inv st id (h++os):=
 V.frame H fun i hi _=>List.getElem?_append_left hi
theorem HV.Left.trans{σ:Type}{V:HV σ}{id id1:Nat}{h h1 h2:List AO}{st2:σ}(hl:h.length≤h1.length)(hk:∀i,i<h.length→V.n≤i→i≠id→h1[i]?=h[i]?)(hi:id1=id∨h.length≤id1)(L:V.Left id1 h1 st2 h2):V.Left id h st2 h2:=by
 obtain⟨id2,a1,a2,a3,a4⟩:=L
 refine⟨id2,a1,by omega,fun i h1 h2 h3=>?_,?_⟩
 ·rw[a3 i (by omega) h2 (by rcases hi with e|e<;>omega),hk i h1 h2 h3]
 ·rcases a4 with e|e
  ·rw[e];exact hi
  ·right;omega
mutual
theorem Dd{σ:Type}{step:σ→Ex→σ}{inv:σ→Nat→Prop}(hs:∀st e k,inv st (k+1)→inv (step st e) k):∀(e:Ex) (st:σ) (k:Nat),inv st (k+e.parts)→inv (e.pre.foldl step st) k
 | .mk o n w ks,st,k,h=>by
   have hp:(Ex.mk o n w ks).parts=1+bi ks:=Ex.parts_eq _
   rw[hp,show k+(1+bi ks)=k+bi ks+1 by omega] at h
   rw[Ex.pre_eq,List.foldl_cons]
   exact ll hs ks _ k (hs _ _ _ h)
theorem ll{σ:Type}{step:σ→Ex→σ}{inv:σ→Nat→Prop}(hs:∀st e k,inv st (k+1)→inv (step st e) k):∀(l:List Ex) (st:σ) (k:Nat),inv st (k+bi l)→inv ((bG l).foldl step st) k
 |[],st,k,h=>by simpa[bG,bi] using h
 |e::r,st,k,h=>by
  rw[bi,show k+(e.parts+bi r)=k+bi r+e.parts by omega] at h
  rw[bG,List.foldl_append]
  exact ll hs r _ k (Dd hs e st _ h)
end
variable (G:aC)
theorem AM{σ:Type}(V:HV σ)(step:σ→Ex→σ)(inv:σ→Nat→Prop)(B:Nat)(hB:B≤1073741824)(hs:∀st e k,inv st (k+1)→inv (step st e) k)
 (hv:∀st e k id h,inv st (k+1)→e.sz≤B→V.Inv st id h→AC Tryz.prog G V.F (.agg (e.cs.map .p)::V.caps) h fun x h'=>x= .ret (.tup [])∧V.Left id h (step st e) h'):
 ∀(N:Nat) (e:Ex),e.sz<N→e.sz≤B→∀st k id h,inv st (k+e.parts)→V.Inv st id h→AC Tryz.prog G dP [.agg (e.cs.map .p),.fn (.func V.F) V.caps] h fun x h'=>x= .ret (.tup [])∧V.Left id h (e.pre.foldl step st) h':=by
 intro N
 induction N with
 |zero=>intro e h;omega
 |succ N ih=>
  intro e he hz st k id h hi hI
  have hec:=e.cs_eq
  have hsz:=e.sz_eq
  have hpe:=e.parts_eq
  have hkl:=bF e.kids
  have hxl:exL e.kids= .lst 4 (e.kids.map Ex.cs):=rfl
  have hcb:=V.capsOk
  obtain⟨hn,hid⟩:=V.len hI
  rw[hpe,show k+(1+bi e.kids)=(k+bi e.kids)+1 by omega] at hi
  have h1:=fun h hI=>hv st e (k+bi e.kids) id h hi hz hI
  have i1:=hs st e _ hi
  refine AC.go oy ?_
  rw[hec] at h1
  simp-implicitDefEqProofs[jM,hec]
  refine(h1 _ (V.more hI _)).mono ?_
  rintro r h2 ⟨rfl,id2,L1,L2,L3,L4⟩
  rw[List.length_append] at L2 L3 L4
  simp only[List.length_cons,List.length_nil] at L2 L3 L4
  have hbox:h2[h.length]?=some (.row 4 [[.p (.int .i64 e.op),.p (.int .i64 e.n),.p (.str e.name),.p (exL e.kids)]]):=by
   rw[L3 _ (by omega) hn (by omega)];simp
  simp-implicitDefEqProofs[aa,hbox,hxl]
  refine aO (fun a:HS=>am 20 [(1,.fn (.func V.F) V.caps),(2,.ptr h.length 4 0 0),(10,.p (exL e.kids)),(11,.p (.int .i64 e.kids.length)),(12,.p (.int .i64 a.i))])
   (fun a=>a.h) (fun a=>a.i≤e.kids.length∧V.Inv ((bG (e.kids.take a.i)).foldl step (step st e)) a.id a.h∧h.length<a.h.length∧(∀i,i<h.length→V.n≤i→i≠id→a.h[i]?=h[i]?)∧(a.id=id∨h.length<a.id)) (fun a=>e.kids.length-a.i) ⟨0,id2,h2⟩ ⟨Nat.zero_le _,L1,(by show h.length<h2.length;omega),fun i a1 a2 a3=>?_,(by show id2=id∨h.length<id2;omega)⟩ ?_ ?_
  ·show h2[i]?=h[i]?
   rw[L3 i (by omega) a2 a3,List.getElem?_append_left a1]
  ·exact cd (by omega) (by simp[below,hxl];exact⟨aL (by omega) _ hcb,by omega⟩)
  rintro⟨i,idc,hc⟩ ⟨hil,hIc,hlc,hkc,hic⟩
  simp only at hil hIc hlc hkc hic
  simp-implicitDefEqProofs[hxl]
  refine aW (fun hcc=>?_) (fun hcc=>?_)
  ·simp at hcc
   have hg:=List.getElem?_eq_getElem hcc
   have hks:=bN (List.getElem_mem hcc)
   have hkc2:=e.kids[i].cs_eq
   have hT:e.kids.take (i+1)=e.kids.take i++[e.kids[i]]:=an hcc
   have hsum:bi e.kids=bi (e.kids.take i)+(e.kids[i].parts+bi (e.kids.drop (i+1))):=by
    have e1:bi e.kids=bi (e.kids.take i)+bi (e.kids.drop i):=by rw[←dI,List.take_append_drop]
    have e2:bi (e.kids.drop i)=e.kids[i].parts+bi (e.kids.drop (i+1)):=by rw[List.drop_eq_getElem_cons hcc,bi]
    omega
   have hic2:inv ((bG (e.kids.take i)).foldl step (step st e)) (k+bi (e.kids.drop (i+1))+e.kids[i].parts):=
    ll hs _ _ _ (by rw[show k+bi (e.kids.drop (i+1))+e.kids[i].parts+bi (e.kids.take i)=k+bi e.kids by omega];exact i1)
   have hA:=fun os=>ih e.kids[i] (by omega) (by omega) _ _ idc (hc++os) hic2 (V.more hIc os)
   have hf:(bG (e.kids.take (i+1))).foldl step (step st e)=e.kids[i].pre.foldl step ((bG (e.kids.take i)).foldl step (step st e)):=by
    rw[hT,jh,List.foldl_append,bG,bG,List.append_nil]
   rw[hkc2] at hA
   simp-implicitDefEqProofs[hg,hkc2]
   refine(hA _).mono ?_
   rintro r h3 ⟨rfl,id3,M1,M2,M3,M4⟩
   rw[List.length_append] at M2 M3 M4
   simp only[List.length_cons,List.length_nil] at M2 M3 M4
   have hn3:=(V.len M1).1
   simp-implicitDefEqProofs[aa]
   refine⟨⟨i+1,id3,h3⟩,⟨hcc,by rw[hf];exact M1,by show h.length<h3.length;omega,fun j a1 a2 a3=>?_,?_⟩,by show e.kids.length-(i+1)<e.kids.length-i;omega,cd (by show h.length≤h3.length;omega) ?_⟩
   ·show h3[j]?=h[j]?
    rw[M3 j (by omega) a2 (by omega),List.getElem?_append_left (by omega),hkc j a1 a2 a3]
   ·show id3=id∨h.length<id3
    omega
   ·simp[below,hxl,w1 (i:=i) (by omega)]
    exact⟨aL (by omega) _ hcb,by omega⟩
  ·simp at hcc
   have hie:i=e.kids.length:=by omega
   subst hie
   rw[List.take_length] at hIc
   rw[Ex.pre_eq,List.foldl_cons]
   simp-implicitDefEqProofs[]
   exact⟨idc,hIc,by omega,hkc,by omega⟩
def Sm.own(s:Sm):Nat:=1+s.name.length+aR s.args
theorem Sm.own_sz(s:Sm):s.sz=s.own+aq s.body+aq s.els:=by rw[s.sz_eq,Sm.own]
mutual
theorem Fs{σ:Type}{step:σ→Sm × Nat→σ}{inv:σ→Nat→Prop}(hs:∀st (s:Sm) d k,inv st (k+s.own)→inv (step st (s,d)) k):∀(s:Sm) (d:Nat) (st:σ) (k:Nat),inv st (k+s.sz)→inv ((s.pre d).foldl step st) k
 | .mk o n a b e,d,st,k,h=>by
   rw[Sm.own_sz] at h
   rw[Sm.pre_eq,List.foldl_cons,List.foldl_append]
   refine lD hs e _ _ k (lD hs b _ _ _ (hs _ _ _ _ ?_))
   rw[show k+aq e+aq b+(Sm.mk o n a b e).own=k+((Sm.mk o n a b e).own+aq b+aq e) by omega]
   exact h
theorem lD{σ:Type}{step:σ→Sm × Nat→σ}{inv:σ→Nat→Prop}(hs:∀st (s:Sm) d k,inv st (k+s.own)→inv (step st (s,d)) k):∀(l:List Sm) (d:Nat) (st:σ) (k:Nat),inv st (k+aq l)→inv ((aQ d l).foldl step st) k
 |[],d,st,k,h=>by simpa[aQ,aq] using h
 |s::r,d,st,k,h=>by
  rw[aq,show k+(s.sz+aq r)=k+aq r+s.sz by omega] at h
  rw[aQ,List.foldl_append]
  exact lD hs r d _ k (Fs hs s d st _ h)
end
theorem BJ{σ:Type}(V:HV σ)(step:σ→Sm × Nat→σ)(inv:σ→Nat→Prop)(B:Nat)(hB:B≤1073741824)(hs:∀st (s:Sm) d k,inv st (k+s.own)→inv (step st (s,d)) k)
 (hv:∀st (s:Sm) d k id h,inv st (k+s.own)→s.sz≤B→V.Inv st id h→AC Tryz.prog G V.F (.agg (s.cs.map .p):: .p (.int .i64 (d:Nat))::V.caps) h fun x h'=>x= .ret (.tup [])∧V.Left id h (step st (s,d)) h'):
 ∀(N:Nat) (l:List Sm),aq l<N→aq l≤B→∀(d:Nat),d+aq l≤1099511627776→∀st k id h,inv st (k+aq l)→V.Inv st id h→AC Tryz.prog G di [.p (smL l),.p (.int .i64 d),.fn (.func V.F) V.caps] h fun x h'=>x= .ret (.tup [])∧V.Left id h ((aQ d l).foldl step st) h':=by
 intro N
 induction N with
 |zero=>intro l h;omega
 |succ N ih=>
  intro l hl hz d hd st k id h hi hI
  have hll:=bV l
  have hsl:∀l,smL l= .lst 5 (l.map Sm.cs):=fun _=>rfl
  have hcb:=V.capsOk
  obtain⟨hn,hid⟩:=V.len hI
  refine AC.go nQ ?_
  simp-implicitDefEqProofs[jC,hsl]
  refine aO (fun a:HS=>am 31 [(1,.p (.int .i64 d)),(2,.fn (.func V.F) V.caps),(8,.p (smL l)),(9,.p (.int .i64 l.length)),(10,.p (.int .i64 a.i))])
   (fun a=>a.h) (fun a=>a.i≤l.length∧V.Inv ((aQ d (l.take a.i)).foldl step st) a.id a.h∧h.length≤a.h.length∧(∀i,i<h.length→V.n≤i→i≠id→a.h[i]?=h[i]?)∧(a.id=id∨h.length≤a.id)) (fun a=>l.length-a.i) ⟨0,id,h⟩ ⟨Nat.zero_le _,hI,Nat.le_refl _,fun i _ _ _=>rfl,.inl rfl⟩ ?_ ?_
  ·exact cd (Nat.le_refl _) (by simp[below,hsl];exact aL (by omega) _ hcb)
  rintro⟨i,idc,hc⟩ ⟨hil,hIc,hlc,hkc,hic⟩
  simp only at hil hIc hlc hkc hic
  simp-implicitDefEqProofs[hsl]
  refine aW (fun hcc=>?_) (fun hcc=>?_)
  ·simp at hcc
   have hg:=List.getElem?_eq_getElem hcc
   have hks:=eu (List.getElem_mem hcc)
   have hse:=l[i].cs_eq
   have hsz:=l[i].own_sz
   have hown:1≤l[i].own:=by unfold Sm.own;omega
   have hT:l.take (i+1)=l.take i++[l[i]]:=an hcc
   have hsum:aq l=aq (l.take i)+(l[i].sz+aq (l.drop (i+1))):=by
    have e1:aq l=aq (l.take i)+aq (l.drop i):=by rw[←bk,List.take_append_drop]
    have e2:aq (l.drop i)=l[i].sz+aq (l.drop (i+1)):=by rw[List.drop_eq_getElem_cons hcc,aq]
    omega
   have i0:inv ((aQ d (l.take i)).foldl step st) (k+aq (l.drop (i+1))+aq l[i].els+aq l[i].body+l[i].own):=
    lD hs _ _ _ _ (by rw[show k+aq (l.drop (i+1))+aq l[i].els+aq l[i].body+l[i].own+aq (l.take i)=k+aq l by omega];exact hi)
   have i1:=hs _ l[i] d _ i0
   have i2:=lD hs l[i].body (d+1) _ _ i1
   have hf:(aQ d (l.take (i+1))).foldl step st=(l[i].pre d).foldl step ((aQ d (l.take i)).foldl step st):=by
    rw[hT,jH,List.foldl_append,aQ,aQ,List.append_nil]
   rw[Sm.pre_eq,List.foldl_cons,List.foldl_append] at hf
   have hwd:IntKind.i64.wrap ((d:Int)+1)=((d+1:Nat):Int):=by rw[af (by omega) (by omega)];omega
   have h1:=fun os=>hv _ l[i] d _ idc (hc++os) i0 (by omega) (V.more hIc os)
   have h2:=fun st2 id2 hh=>ih l[i].body (by omega) (by omega) (d+1) (by omega) st2 (k+aq (l.drop (i+1))+aq l[i].els) id2 hh
   have h3:=fun st2 id2 hh=>ih l[i].els (by omega) (by omega) (d+1) (by omega) st2 (k+aq (l.drop (i+1))) id2 hh
   rw[hse] at h1
   simp-implicitDefEqProofs[hg,hse]
   refine(h1 _).mono ?_
   rintro r g1 ⟨rfl,id3,M1,M2,M3,M4⟩
   rw[List.length_append] at M2 M3 M4
   simp only[List.length_cons,List.length_nil] at M2 M3 M4
   have hbox:g1[hc.length]?=some (.row 5 [[.p (.int .i64 l[i].op),.p (.str l[i].name),.p (exL l[i].args),.p (smL l[i].body),.p (smL l[i].els)]]):=by
    rw[M3 _ (by omega) (by have:=(V.len hIc).1;omega) (by have:=(V.len hIc).2;omega)];simp
   simp-implicitDefEqProofs[aa,hbox,hwd]
   refine(h2 _ id3 g1 i1 M1).mono ?_
   rintro r g2 ⟨rfl,id4,P1,P2,P3,P4⟩
   have hbox2:g2[hc.length]?=some (.row 5 [[.p (.int .i64 l[i].op),.p (.str l[i].name),.p (exL l[i].args),.p (smL l[i].body),.p (smL l[i].els)]]):=by
    rw[P3 _ (by omega) (by have:=(V.len hIc).1;omega) (by have:=(V.len hIc).2;omega),hbox]
   simp-implicitDefEqProofs[aa,hbox2,hwd]
   refine(h3 _ id4 g2 i2 P1).mono ?_
   rintro r g3 ⟨rfl,id5,Q1,Q2,Q3,Q4⟩
   simp-implicitDefEqProofs[aa]
   refine⟨⟨i+1,id5,g3⟩,⟨hcc,by rw[hf];exact Q1,by show h.length≤g3.length;omega,fun j a1 a2 a3=>?_,?_⟩,by show l.length-(i+1)<l.length-i;omega,cd (by show h.length≤g3.length;omega) ?_⟩
   ·show g3[j]?=h[j]?
    rw[Q3 j (by omega) a2 (by omega),P3 j (by omega) a2 (by omega),M3 j (by omega) a2 (by omega),List.getElem?_append_left (by omega),hkc j a1 a2 a3]
   ·show id5=id∨h.length≤id5
    omega
   ·simp[below,hsl,w1 (i:=i) (by omega)]
    exact aL (by omega) _ hcb
  ·simp at hcc
   have hie:i=l.length:=by omega
   subst hie
   rw[List.take_length] at hIc
   simp-implicitDefEqProofs[]
   exact⟨idc,hIc,hlc,hkc,hic⟩
end Go.Proofs.YtnjbhgpbgmpkcaaGreatDoor
namespace Go.Proofs.YtnjbhgpbgmpkcaaGreatDoor
open Go
def lays189_ren:Go.Shelf.Ren:=⟨fun|125=>157|128=>185|129=>186|189=>122|215=>206|216=>182|257=>156|294=>176|295=>177|296=>178|297=>179|298=>180|299=>181|300=>183|301=>184|328=>201|329=>202|330=>203|331=>204|332=>205|343=>216|n=>n,fun|0=>0|3=>3|4=>4|5=>5|9=>9|28=>45|46=>173|51=>199|53=>201|131=>97|182=>191|183=>192|218=>214|222=>218|228=>230|229=>106|n=>n,fun n=>n⟩
theorem yd:Lays.n189 Tryz.prog lays189_ren where
 mixed:=by kernel_rfl
 f125:=Tryz.func157.trans (congrArg some (by kernel_rfl))
 f128:=Tryz.func185.trans (congrArg some (by kernel_rfl))
 f129:=Tryz.func186.trans (congrArg some (by kernel_rfl))
 f189:=Tryz.func122.trans (congrArg some (by kernel_rfl))
 f215:=Tryz.func206.trans (congrArg some (by kernel_rfl))
 f216:=Tryz.func182.trans (congrArg some (by kernel_rfl))
 f257:=Tryz.func156.trans (congrArg some (by kernel_rfl))
 f294:=Tryz.func176.trans (congrArg some (by kernel_rfl))
 f295:=Tryz.func177.trans (congrArg some (by kernel_rfl))
 f296:=Tryz.func178.trans (congrArg some (by kernel_rfl))
 f297:=Tryz.func179.trans (congrArg some (by kernel_rfl))
 f298:=Tryz.func180.trans (congrArg some (by kernel_rfl))
 f299:=Tryz.func181.trans (congrArg some (by kernel_rfl))
 f300:=Tryz.func183.trans (congrArg some (by kernel_rfl))
 f301:=Tryz.func184.trans (congrArg some (by kernel_rfl))
 f328:=Tryz.func201.trans (congrArg some (by kernel_rfl))
 f329:=Tryz.func202.trans (congrArg some (by kernel_rfl))
 f330:=Tryz.func203.trans (congrArg some (by kernel_rfl))
 f331:=Tryz.func204.trans (congrArg some (by kernel_rfl))
 f332:=Tryz.func205.trans (congrArg some (by kernel_rfl))
 f343:=Tryz.func216.trans (congrArg some (by kernel_rfl))
 t0:=Tryz.underlying0
 a0:=Tryz.isAgg0
 z0:=Tryz.sizeOf0
 v0:=Tryz.zeroValue0
 t3:=Tryz.underlying3
 a3:=Tryz.isAgg3
 z3:=Tryz.sizeOf3
 v3:=Tryz.zeroValue3
 t4:=Tryz.underlying4
 a4:=Tryz.isAgg4
 z4:=Tryz.sizeOf4
 v4:=Tryz.zeroValue4
 t5:=Tryz.underlying5
 a5:=Tryz.isAgg5
 z5:=Tryz.sizeOf5
 v5:=Tryz.zeroValue5
 t9:=Tryz.underlying9
 a9:=Tryz.isAgg9
 z9:=Tryz.sizeOf9
 v9:=Tryz.zeroValue9
 t28:=Tryz.underlying45
 a28:=Tryz.isAgg45
 z28:=Tryz.sizeOf45
 v28:=Tryz.zeroValue45
 t46:=Tryz.underlying173
 a46:=Tryz.isAgg173
 z46:=Tryz.sizeOf173
 v46:=Tryz.zeroValue173
 t51:=Tryz.underlying199
 a51:=Tryz.isAgg199
 z51:=Tryz.sizeOf199
 v51:=Tryz.zeroValue199
 t53:=Tryz.underlying201
 a53:=Tryz.isAgg201
 z53:=Tryz.sizeOf201
 v53:=Tryz.zeroValue201
 t131:=Tryz.underlying97
 a131:=Tryz.isAgg97
 z131:=Tryz.sizeOf97
 v131:=Tryz.zeroValue97
 t182:=Tryz.underlying191
 a182:=Tryz.isAgg191
 z182:=Tryz.sizeOf191
 v182:=Tryz.zeroValue191
 t183:=Tryz.underlying192
 a183:=Tryz.isAgg192
 z183:=Tryz.sizeOf192
 v183:=Tryz.zeroValue192
 t218:=Tryz.underlying214
 a218:=Tryz.isAgg214
 z218:=Tryz.sizeOf214
 v218:=Tryz.zeroValue214
 t222:=Tryz.underlying218
 a222:=Tryz.isAgg218
 z222:=Tryz.sizeOf218
 v222:=Tryz.zeroValue218
 t228:=Tryz.underlying230
 a228:=Tryz.isAgg230
 z228:=Tryz.sizeOf230
 v228:=Tryz.zeroValue230
 t229:=Tryz.underlying106
 a229:=Tryz.isAgg106
 z229:=Tryz.sizeOf106
 v229:=Tryz.zeroValue106
def lays20_ren:Go.Shelf.Ren:=⟨fun|20=>123|n=>n,fun|0=>0|3=>3|4=>4|22=>45|n=>n,fun n=>n⟩
theorem Cs:Lays2.n20 Tryz.prog lays20_ren where
 mixed:=by kernel_rfl
 f20:=Tryz.func123.trans (congrArg some (by kernel_rfl))
 t0:=Tryz.underlying0
 a0:=Tryz.isAgg0
 z0:=Tryz.sizeOf0
 v0:=Tryz.zeroValue0
 t3:=Tryz.underlying3
 a3:=Tryz.isAgg3
 z3:=Tryz.sizeOf3
 v3:=Tryz.zeroValue3
 t4:=Tryz.underlying4
 a4:=Tryz.isAgg4
 z4:=Tryz.sizeOf4
 v4:=Tryz.zeroValue4
 t22:=Tryz.underlying45
 a22:=Tryz.isAgg45
 z22:=Tryz.sizeOf45
 v22:=Tryz.zeroValue45
 i3:=by kernel_rfl
end Go.Proofs.YtnjbhgpbgmpkcaaGreatDoor
namespace Go.Aw
open Go Go.Sort
section
variable {G:aC} {W:World} {S:Nat→Prop} {φ:Place} {h:List AO}
theorem HRel.grown(H:HRel G W S φ h)(os:Array Obj):HRel G (grow W os) S φ h∧Keep W S φ h (grow W os) S φ h:=by
 have hg:∀b,b<W.heap.size→(grow W os).heap[b]?=W.heap[b]?:=fun b hb=>by
  simp[grow,Array.getElem?_append,hb]
 have hS:∀b,S b→b<W.heap.size:=fun b hb=>(H.sep b hb).1
 have K:Kept W S φ h.length (grow W os) S φ h.length:=
  {pure:=fun b hb=>⟨hb,hg b (hS b hb)⟩
   len:=Nat.le_refl _
   same:=fun _ _=>rfl
   blk:=fun i hi c' t' fr' e=>by
    rw[hg _ (H.bnd i hi)] at e
    exact⟨c',t',fr',e,rfl⟩}
 have hs:W.heap.size≤(grow W os).heap.size:=by simp[grow]
 refine⟨⟨fun i s es e=>?_,fun i o e lo=>?_,H.inj,fun b hb=>⟨Nat.lt_of_lt_of_le (hS b hb) hs,(H.sep b hb).2⟩,fun i hi=>Nat.lt_of_lt_of_le (H.bnd i hi) hs,fun g cs hgl=>?_⟩,
  {K with os:=rfl,tape:=rfl,output:=rfl,size:=hs,out:=fun b hb _=>hg b hb,img:=fun i hi=> .inr ⟨i,hi,rfl⟩,newS:=fun b hb=> .inl hb}⟩
 ·obtain⟨c,t,fr,a1,a2,a3,a4,a5⟩:=H.obj i s es e
  refine⟨c,t,fr,by rw[hg _ (H.bnd i (H.lt e))];exact a1,a2,a3,a4,fun j a hj=>?_⟩
  obtain⟨b1,v,b2,b3⟩:=a5 j a hj
  exact⟨b1,v,b2,b3.kept K⟩
 ·rw[hg _ (H.bnd i (H.lt e))]
  exact(H.oobj i o e lo).mono fun a v r=>r.kept K
 ·obtain⟨g1,g2⟩:=H.glob g cs hgl
  refine⟨g1,fun j c' hj=>?_⟩
  obtain⟨v,k1,k2⟩:=g2 j c' hj
  exact⟨v,by rw[aS (K.pure g g1).2];exact k1,k2.mono K.pure⟩
end
theorem zp{α:Type}[Inhabited α](enc:α→Value){W:World}{n blk off:Nat}{d:Array α}{c:Array Value}{t:TypeId}{fr:Nat × Nat}(e:W.heap[blk]?=some (.cells c t fr)):
 BlockSet W (putRow enc (Go.Sort.ahead W n) blk off d) blk (putCells enc off d c) t fr where
 at_b:=by simp[putRow,mapBlock,Go.Sort.ahead,Array.getElem?_modify,e,onCells]
 other:=fun b' hb=>by
  have:¬blk=b':=fun e=>hb e.symm
  simp[putRow,mapBlock,Go.Sort.ahead,Array.getElem?_modify,this]
 size:=by simp[putRow,mapBlock,Go.Sort.ahead]
 os:=rfl
 tape:=rfl
 output:=rfl
def iG(xs:List Int):AO:= .row 1 (xs.map fun x=>[.p (.int .i64 x)])
theorem tx(xs:List Int):(xs.map fun x=>[AV.p (.int .i64 x)]).flatten=xs.map fun x=> .p (.int .i64 x):=by
 induction xs with
 |nil=>rfl
 |cons x r ih=>rw[List.map_cons,List.flatten_cons,ih];rfl
theorem AC.shelfInts{P:Program}{G:aC}{f:FuncId}{h:List AO}{id:Nat}{xs ys:List Int}{rv:AV}{r:Nat→Nat→Nat→Value}(hf:fv P f=true)(hid:h[id]?=some (iG xs))(hx:xs≠[])(hy:ys.length=xs.length)
 (hr:∀(W:World) (S:Nat→Prop) (φ:Place) (n cap:Nat),id<n→xs.length≤cap→(∀c t fr,W.heap[(φ id).1]?=some (.cells c t fr)→(φ id).2+cap≤c.size)→VRel W S φ n rv (r (φ id).1 (φ id).2 cap))
 (H:∀(blk off cap:Nat) (W:World),Holds (Value.int .i64) W blk off xs.toArray→blk<W.heap.size→xs.length≤cap→Calls P f #[.slice (some ⟨blk,off,none⟩) xs.length cap] W fun e W'=>e= .returned (r blk off cap)∧∃n os,W'=grow (putRow (Value.int .i64) (Go.Sort.ahead W n) blk off ys.toArray) os):
 AC P G f [.sl id 1 0 xs.length] h fun x h'=>x= .ret rv∧h'=h.set id (iG ys):=by
 refine⟨hf,fun W S φ vs hH hA=>?_⟩
 obtain⟨c,t,fr,a1,a2,a3,a4,a5⟩:=hH.obj id 1 _ hid
 rw[tx] at a5
 rw[List.length_map,Nat.mul_one] at a4
 have hidl:=hH.lt hid
 have hs1:vs.size=1:=hA.1
 obtain⟨v0,rfl⟩:∃v0,vs=#[v0]:=⟨vs[0],by
  apply Array.ext
  ·simp[hs1]
  ·intro i h1 h2
   have:i=0:=by omega
   subst this;rfl⟩
 have hv:=hA.2 0 _ v0 rfl rfl
 cases hv with
 |sl _ _ _ _ cap ba _ hl hb hc=>
  rw[Nat.zero_mul,Nat.add_zero] at hb
  have hxl:0<xs.length:=List.length_pos_iff.2 hx
  rw[hb (by omega)]
  have hcell:∀j,j<xs.length→c[(φ id).2+j]?=some (.int .i64 xs[j]!):=fun j hj=>by
   obtain⟨_,v,b2,b3⟩:=a5 j (.p (.int .i64 xs[j])) (by simp[hj])
   cases b3 with
   |p _ _ hp=>
    cases hp
    rw[b2];simp[hj]
  refine(H (φ id).1 (φ id).2 cap W (fun j hj=>?_) (hH.bnd id hidl) hl).mono ?_
  ·have hj':j<xs.length:=by simpa using hj
   refine⟨?_,?_⟩
   ·simp only[World.cell?,a1]
    have:=hcell j hj'
    simpa using this
   ·have:=a2 ((φ id).2+j) (by omega)
    simp only[World.frozen?,a1]
    simpa using this
  ·rintro e W' ⟨rfl,n,os,rfl⟩
   have B:=zp (Value.int .i64) (n:=n) (off:=(φ id).2) (d:=ys.toArray) a1
   have hU:=hH.update (es':=ys.map fun x=>[.p (.int .i64 x)]) hid a1 (by simp[putCells]) B (by simpa[putCells] using a2) (by simp) (by simp[putCells,hy];exact a4) (fun j a hj=>by
    rw[tx] at hj
    have hjl:j<ys.length:=by
     have:=(List.getElem?_eq_some_iff.1 hj).1
     simpa using this
    have ha:a= .p (.int .i64 ys[j]):=by
     rw[List.getElem?_map,List.getElem?_eq_getElem hjl] at hj
     cases hj;rfl
    subst ha
    refine⟨rfl,.int .i64 ys[j],?_,.p _ _ (.int _ _)⟩
    have hb:(φ id).2+j<c.size:=by omega
    simp[putCells,hb,hjl])
   have hG:=hU.1.grown os
   refine⟨.ret rv,S,φ,h.set id (iG ys),⟨rfl,rfl⟩,hG.1,.ret _ _ (hr _ _ _ _ _ (by simpa using hidl) hl fun c' t' fr' e'=>?_),hU.2.trans hG.2⟩
   have hlt:(φ id).1<(putRow (Value.int .i64) (Go.Sort.ahead W n) (φ id).1 (φ id).2 ys.toArray).heap.size:=by rw[B.size];exact hH.bnd id hidl
   have e2:(grow (putRow (Value.int .i64) (Go.Sort.ahead W n) (φ id).1 (φ id).2 ys.toArray) os).heap[(φ id).1]?=(putRow (Value.int .i64) (Go.Sort.ahead W n) (φ id).1 (φ id).2 ys.toArray).heap[(φ id).1]?:=by
    exact Array.getElem?_append_left hlt
   rw[e2,B.at_b] at e'
   cases e'
   have:=hc _ _ _ a1
   simp[putCells]
   omega
end Go.Aw
namespace Go.Proofs.YtnjbhgpbgmpkcaaGreatDoor
open Go Go.Aw
variable (G:aC)
theorem Fv{h:List AO}{id:Nat}{xs:List Int}(hid:h[id]?=some (iG xs))(hx:xs≠[])(hb:xs.length<4611686018427387904):
 AC Tryz.prog G (lays189_ren.f 189) [.sl id 1 0 xs.length] h fun x h'=>x= .ret (.tup [])∧h'=h.set id (iG (xs.mergeSort fun x y=>decide (x≤y))):=
 AC.shelfInts (r:=fun _ _ _=> .tuple #[]) (by kernel_rfl) hid hx (by simp) (fun _ _ _ _ _ _ _ _=> .tup [] #[] rfl (fun j c v e=>by simp at e))
  fun blk off cap W hH hbk _=>Any.slices_Sort_int yd blk off cap xs W hH hbk hb
theorem zF{h:List AO}{id:Nat}{xs:List Int}(hid:h[id]?=some (iG xs))(hx:xs≠[])(hb:xs.length≤9223372036854775807)(hl:(Lib.compact xs).length≤xs.length):
 AC Tryz.prog G (lays20_ren.f 20) [.sl id 1 0 xs.length] h fun x h'=>x= .ret (.sl id 1 0 (Lib.compact xs).length)∧h'=h.set id (iG (Lib.compact xs++List.replicate (xs.length-(Lib.compact xs).length) 0)):=by
 refine AC.shelfInts (r:=fun blk off cap=> .slice (some ⟨blk,off,none⟩) (Lib.compact xs).length cap) (by kernel_rfl) hid hx (by simp;omega) (fun W S φ n cap hi hc hs=>?_) fun blk off cap W hH hbk hcap=>?_
 ·exact .sl id 1 0 _ cap _ hi (by omega) (fun _=>by simp) (fun c t fr e=>by have:=hs c t fr e;omega)
 ·refine(Any.slices_Compact_int Cs blk off cap xs W hH hb hcap).mono ?_
  rintro e W' ⟨rfl,q,rfl⟩
  exact⟨rfl,q,#[],by simp⟩
end Go.Proofs.YtnjbhgpbgmpkcaaGreatDoor
namespace Go.Proofs.YtnjbhgpbgmpkcaaGreatDoor
open Go Go.Aw
set_option maxRecDepth 100000
abbrev fw:FuncId:=125
abbrev cU:FuncId:=158
abbrev dE:FuncId:=124
abbrev eF:FuncId:=77
abbrev bR:FuncId:=31
abbrev oe:FuncId:=122
abbrev kO:FuncId:=123
abbrev aD:FuncId:=121
abbrev cW:FuncId:=119
abbrev fk:FuncId:=75
abbrev eC:FuncId:=29
abbrev dW:FuncId:=28
abbrev gh:FuncId:=30
abbrev kb:FuncId:=7
def nI:FK:=⟨18,[.t 4],
 .seq (.reg [oJ 4 (.mov (.c (.p (.bool false))))])
 (.seq (.seq (.reg [oK 5 0])
 (.blk 0 (.loop (.seq (.seq (.reg [oM 6 5,
   oM 7 0,
   oJ 8 (.len false (.t 7)),
   oJ 9 (.bin .lss (.t 6) (.t 8))])
 (.cond (.t 9)
  (.skip)
  (.exit 0)))
 (.seq (.blk 1 (.seq (.reg [oM 12 0,
   oM 13 5,
   oJ 14 (.idxS 1 (.t 12) (.t 13)),
   oL 15 14,
   oM 16 1,
   oJ 17 (.bins .eql (.t 15) (.t 16))])
 (.cond (.t 17)
  (.seq (.reg [oJ 4 (.mov (.c (.p (.bool true))))])
  (.ret))
  (.skip))))
 (.reg [oM 10 5,
   oJ 11 (.bin .add (.t 10) (.c (.p (.int .i64 1)))),
   oM 5 11]))))))
 (.seq (.reg [oJ 4 (.mov (.c (.p (.bool false))))])
 (.ret)))⟩
theorem uk:al Tryz.prog fw=some nI:=by kernel_rfl
def F_spec_l2Names:FK:=⟨40,[.t 6],
 .seq (.reg [oJ 3 (.box 4 (.t 0)),
  oJ 6 (.mov (.c .nils))])
 (.seq (.seq (.reg [oF 8 0 3,
   oL 9 8,
   oM 10 1,
   oJ 11 (.bin .eql (.t 9) (.t 10)),
   oM 12 11,
   ⟨(some 13),some (12,true),.mov (.t 2)⟩,
   ⟨(some 14),some (12,true),.fldA 2 (.t 3)⟩,
   ⟨(some 15),some (12,true),.ld none (.t 14)⟩,
   ⟨(some 16),some (12,true),.call fw [(.t 13),(.t 15)]⟩,
   ⟨(some 17),some (12,true),.not (.t 16)⟩,
   oJ 18 (.pick (.t 12) (.t 17) (.c (.p (.bool false))))])
 (.cond (.t 18)
  (.reg [oM 19 2,
    oF 20 2 3,
    oL 21 20,
    oJ 22 (.bsl 1 [(.p (.str []))] 1 [(0,1,(.t 21))]),
    oJ 23 (.app 1 16 (.t 19) (.t 22)),
    oM 2 23])
  (.skip)))
 (.seq (.seq (.reg [oK 7 0])
 (.blk 0 (.loop (.seq (.seq (.reg [oM 24 7,
   oF 25 3 3,
   oL 26 25,
   oJ 27 (.len false (.t 26)),
   oJ 28 (.bin .lss (.t 24) (.t 27))])
 (.cond (.t 28)
  (.skip)
  (.exit 0)))
 (.seq (.blk 1 (.reg [oF 31 3 3,
   oL 32 31,
   oM 33 7,
   oJ 34 (.idxS 4 (.t 32) (.t 33)),
   oJ 35 (.ld (some 4) (.t 34)),
   oM 36 1,
   oM 37 2,
   oJ 38 (.call cU [(.t 35),(.t 36),(.t 37)]),
   oM 2 38]))
 (.reg [oM 29 7,
   oJ 30 (.bin .add (.t 29) (.c (.p (.int .i64 1)))),
   oM 7 30]))))))
 (.seq (.reg [oM 39 2,
   oM 6 39])
 (.ret))))⟩
theorem se:al Tryz.prog cU=some F_spec_l2Names:=by kernel_rfl
def kN:FK:=⟨47,[.t 4],
 .seq (.reg [oJ 4 (.mov (.c .nils))])
 (.seq (.seq (.reg [oK 5 0])
 (.blk 0 (.loop (.seq (.seq (.reg [oM 7 5,
   oM 8 0,
   oJ 9 (.len false (.t 8)),
   oJ 10 (.bin .lss (.t 7) (.t 9))])
 (.cond (.t 10)
  (.skip)
  (.exit 0)))
 (.seq (.blk 1 (.seq (.seq (.reg [oK 6 0])
 (.blk 2 (.loop (.seq (.seq (.reg [oM 13 6,
   oM 14 0,
   oM 15 5,
   oJ 16 (.idxS 5 (.t 14) (.t 15)),
   oF 17 2 16,
   oL 18 17,
   oJ 19 (.len false (.t 18)),
   oJ 20 (.bin .lss (.t 13) (.t 19))])
 (.cond (.t 20)
  (.skip)
  (.exit 2)))
 (.seq (.blk 3 (.reg [oM 23 0,
   oM 24 5,
   oJ 25 (.idxS 5 (.t 23) (.t 24)),
   oF 26 2 25,
   oL 27 26,
   oM 28 6,
   oJ 29 (.idxS 4 (.t 27) (.t 28)),
   oJ 30 (.ld (some 4) (.t 29)),
   oM 31 1,
   oJ 32 (.call cU [(.t 30),(.c (.p (.int .i64 13))),(.t 31)]),
   oM 1 32]))
 (.reg [oM 21 6,
   oJ 22 (.bin .add (.t 21) (.c (.p (.int .i64 1)))),
   oM 6 22]))))))
 (.reg [oM 33 0,
   oM 34 5,
   oJ 35 (.idxS 5 (.t 33) (.t 34)),
   oF 36 4 35,
   oM 38 0,
   oM 39 5,
   oJ 40 (.idxS 5 (.t 38) (.t 39)),
   oF 41 3 40,
   oM 43 1,
   oL 37 36,
   oL 42 41,
   oJ 44 (.call dE [(.t 42),(.t 43)]),
   ⟨none,none,.chk none 36 37⟩,
   oJ 45 (.call dE [(.t 37),(.t 44)]),
   oM 1 45])))
 (.reg [oM 11 5,
   oJ 12 (.bin .add (.t 11) (.c (.p (.int .i64 1)))),
   oM 5 12]))))))
 (.seq (.reg [oM 46 1,
   oM 4 46])
 (.ret)))⟩
theorem qH:al Tryz.prog dE=some kN:=by kernel_rfl
def jV:FK:=⟨35,[.t 4],
 .seq (.reg [oJ 2 (.box 1 (.t 0)),
  oJ 4 (.mov (.c .nils))])
 (.seq (.reg [oF 8 0 2,
   oL 9 8,
   oM 10 1,
   oJ 11 (.idxS 3 (.t 9) (.t 10)),
   oF 12 2 11,
   oL 13 12,
   oJ 14 (.bsl 1 [(.p (.str []))] 0 []),
   oJ 15 (.call dE [(.t 13),(.t 14)]),
   oM 5 15])
 (.seq (.reg [oJ 16 (.bsl 1 [(.p (.int .i64 0))] 0 []),
   oM 6 16])
 (.seq (.seq (.reg [oK 7 0])
 (.blk 0 (.loop (.seq (.seq (.reg [oM 17 7,
   oM 18 1,
   oJ 19 (.bin .lss (.t 17) (.t 18))])
 (.cond (.t 19)
  (.skip)
  (.exit 0)))
 (.seq (.blk 1 (.seq (.reg [oM 22 5,
   oF 23 0 2,
   oL 24 23,
   oM 25 7,
   oJ 26 (.idxS 3 (.t 24) (.t 25)),
   oF 27 0 26,
   oL 28 27,
   oJ 29 (.call fw [(.t 22),(.t 28)])])
 (.cond (.t 29)
  (.reg [oM 30 6,
    oM 31 7,
    oJ 32 (.bsl 1 [(.p (.int .i64 0))] 1 [(0,1,(.t 31))]),
    oJ 33 (.app 1 8 (.t 30) (.t 32)),
    oM 6 33])
  (.skip))))
 (.reg [oM 20 7,
   oJ 21 (.bin .add (.t 20) (.c (.p (.int .i64 1)))),
   oM 7 21]))))))
 (.seq (.reg [oM 34 6,
   oM 4 34])
 (.ret)))))⟩
theorem pZ:al Tryz.prog eF=some jV:=by kernel_rfl
def gw:FK:=⟨21,[.t 4],
 .seq (.reg [oJ 2 (.box 1 (.t 0)),
  oJ 4 (.mov (.c .nils))])
 (.seq (.seq (.reg [oJ 5 (.ld (some 1) (.t 2)),
   oJ 6 (.call je [(.t 5)]),
   oJ 7 (.not (.t 6)),
   oM 8 7,
   ⟨(some 9),some (8,false),.mov (.t 1)⟩,
   ⟨(some 10),some (8,false),.fldA 0 (.t 2)⟩,
   ⟨(some 11),some (8,false),.ld none (.t 10)⟩,
   ⟨(some 12),some (8,false),.len false (.t 11)⟩,
   ⟨(some 13),some (8,false),.bin .sub (.t 12) (.c (.p (.int .i64 1)))⟩,
   ⟨(some 14),some (8,false),.call bA [(.t 9),(.c (.p (.int .i64 0))),(.t 13)]⟩,
   ⟨(some 15),some (8,false),.not (.t 14)⟩,
   oJ 16 (.pick (.t 8) (.c (.p (.bool true))) (.t 15))])
 (.cond (.t 16)
  (.seq (.reg [oJ 17 (.bsl 1 [(.p (.int .i64 0))] 0 []),
    oM 4 17])
  (.ret))
  (.skip)))
 (.seq (.reg [oJ 18 (.ld (some 1) (.t 2)),
   oM 19 1,
   oJ 20 (.call eF [(.t 18),(.t 19)]),
   oM 4 20])
 (.ret)))⟩
theorem ke:al Tryz.prog bR=some gw:=by kernel_rfl
def dg:FK:=⟨14,[],
 .seq (.reg [oJ 3 (.box 4 (.t 0))])
 (.seq (.reg [oF 4 0 3,
   oL 5 4,
   oJ 6 (.bin .eql (.t 5) (.c (.p (.int .i64 13))))])
 (.cond (.t 6)
  (.reg [oF 9 2 3,
    oL 7 1,
    oJ 8 (.ld (some 1) (.t 2)),
    oL 10 9,
    oJ 11 (.call eU [(.t 8),(.t 10)]),
    ⟨none,none,.chk none 1 7⟩,
    oJ 12 (.bslP 1 [(.p (.int .i64 0))] 1 [(0,1,(.t 11))]),
    oJ 13 (.app 1 8 (.t 7) (.t 12)),
    oS 1 13])
  (.skip)))⟩
theorem mD:al Tryz.prog aD=some dg:=by kernel_rfl
def jn:FK:=⟨19,[],
 .seq (.reg [oJ 4 (.box 5 (.t 0))])
 (.seq (.reg [oF 8 2 4,
   oL 9 8,
   oJ 10 (.len false (.t 9)),
   oK 11 0])
 (.blk 0 (.loop (.seq (.reg [oJ 12 (.bin .lss (.t 11) (.t 10))])
 (.seq (.cond (.t 12)
  (.skip)
  (.exit 0))
 (.seq (.blk 1 (.seq (.reg [oJ 13 (.idxS 4 (.t 9) (.t 11)),
   oJ 14 (.ld (some 4) (.t 13)),
   oJ 7 (.alloc [(.p (.int .i64 0)),(.p (.int .i64 0)),(.p (.str [])),.nils]),
   ⟨none,none,.st 4 (.t 7) (.t 14)⟩])
 (.reg [oJ 15 (.ld (some 4) (.t 7)),
   oJ 16 (.mkf (.func aD) [(.t 2),(.t 3)]),
   oJ 17 (.call dP [(.t 15),(.t 16)])])))
 (.reg [oJ 18 (.bin .add (.t 11) (.c (.p (.int .i64 1)))),
   oM 11 18])))))))⟩
theorem pf:al Tryz.prog cW=some jn:=by kernel_rfl
def ku:FK:=⟨18,[.t 4],
 .seq (.reg [oJ 2 (.box 1 (.t 0)),
  oJ 4 (.mov (.c .nils))])
 (.seq (.reg [oJ 5 (.alloc [.nils])])
 (.seq (.reg [oF 6 0 2,
   oL 7 6,
   oM 8 1,
   oJ 9 (.idxS 3 (.t 7) (.t 8)),
   oF 10 2 9,
   oL 11 10,
   oJ 12 (.mkf (.func cW) [(.t 5),(.t 2)]),
   oJ 13 (.call di [(.t 11),(.c (.p (.int .i64 1))),(.t 12)])])
 (.seq (.reg [oL 14 5,
   oJ 15 (.call oe [(.t 14)])])
 (.seq (.reg [oL 16 5,
   oJ 17 (.call kO [(.t 16)]),
   oM 4 17])
 (.ret)))))⟩
theorem rt:al Tryz.prog fk=some ku:=by kernel_rfl
def jU:FK:=⟨20,[.t 4],
 .seq (.reg [oJ 2 (.box 1 (.t 0)),
  oJ 4 (.mov (.c .nils))])
 (.seq (.seq (.reg [oJ 5 (.ld (some 1) (.t 2)),
   oJ 6 (.call kS [(.t 5)]),
   oJ 7 (.not (.t 6)),
   oM 8 7,
   ⟨(some 9),some (8,false),.mov (.t 1)⟩,
   ⟨(some 10),some (8,false),.fldA 0 (.t 2)⟩,
   ⟨(some 11),some (8,false),.ld none (.t 10)⟩,
   ⟨(some 12),some (8,false),.len false (.t 11)⟩,
   ⟨(some 13),some (8,false),.bin .sub (.t 12) (.c (.p (.int .i64 1)))⟩,
   ⟨(some 14),some (8,false),.call cg [(.t 9),(.c (.p (.int .i64 0))),(.t 13)]⟩,
   ⟨(some 15),some (8,false),.not (.t 14)⟩,
   oJ 16 (.pick (.t 8) (.c (.p (.bool true))) (.t 15))])
 (.cond (.t 16)
  (.seq (.reg [oJ 4 (.mov (.c .nils))])
  (.ret))
  (.skip)))
 (.seq (.reg [oJ 17 (.ld (some 1) (.t 2)),
   oM 18 1,
   oJ 19 (.call fk [(.t 17),(.t 18)]),
   oM 4 19])
 (.ret)))⟩
theorem qi:al Tryz.prog eC=some jU:=by kernel_rfl
def F_spec_DrawCalledBy:FK:=⟨49,[.c 2 (some 1),.t 3],
 .seq (.reg [oJ 2 (.alloc [.nils]),
  oK 3 0])
 (.seq (.reg [oM 8 0,
   oJ 9 (.call fq [(.t 8)]),
   oM 4 9])
 (.seq (.reg [oM 10 4,
   oJ 11 (.call gg [(.t 10)]),
   oJ 5 (.alloc [.nils]),
   oS 5 11])
 (.seq (.seq (.reg [oK 6 0])
 (.blk 0 (.loop (.seq (.seq (.reg [oM 12 6,
   oJ 13 (.bin .lss (.t 12) (.c (.p (.int .i64 6)))),
   oM 14 13,
   ⟨(some 15),some (14,true),.mov (.t 4)⟩,
   ⟨(some 16),some (14,true),.call ae [(.t 15),(.c (.p (.int .i64 8)))]⟩,
   ⟨(some 17),some (14,true),.bin .gtr (.t 16) (.c (.p (.int .i64 0)))⟩,
   oJ 18 (.pick (.t 14) (.t 17) (.c (.p (.bool false))))])
 (.cond (.t 18)
  (.skip)
  (.exit 0)))
 (.seq (.blk 1 (.seq (.seq (.reg [oF 21 0 5,
   oL 22 21,
   oJ 23 (.len false (.t 22)),
   oJ 24 (.bin .sub (.t 23) (.c (.p (.int .i64 1)))),
   oM 7 24])
 (.blk 2 (.loop (.seq (.seq (.reg [oM 25 7,
   oJ 26 (.bin .gtr (.t 25) (.c (.p (.int .i64 0))))])
 (.cond (.t 26)
  (.skip)
  (.exit 2)))
 (.seq (.blk 3 (.seq (.reg [oJ 29 (.ld (some 1) (.t 5)),
   oM 30 7,
   oJ 31 (.call bR [(.t 29),(.t 30)]),
   oJ 32 (.len false (.t 31)),
   oJ 33 (.bin .gtr (.t 32) (.c (.p (.int .i64 0))))])
 (.cond (.t 33)
  (.seq (.reg [oJ 34 (.ld (some 1) (.t 5)),
    oM 35 7,
    oS 2 34,
    oM 3 35])
  (.ret))
  (.skip))))
 (.reg [oM 27 7,
   oJ 28 (.bin .sub (.t 27) (.c (.p (.int .i64 1)))),
   oM 7 28]))))))
 (.reg [oM 36 4,
   oJ 37 (.call bI [(.t 36)]),
   oS 5 37])))
 (.reg [oM 19 6,
   oJ 20 (.bin .add (.t 19) (.c (.p (.int .i64 1)))),
   oM 6 20]))))))
 (.seq (.reg [oM 39 4,
   oF 40 0 5,
   oF 44 0 5,
   oJ 38 (.ld (some 1) (.t 5)),
   oL 41 40,
   oJ 42 (.len false (.t 41)),
   oJ 43 (.bin .sub (.t 42) (.c (.p (.int .i64 1)))),
   oL 45 44,
   oJ 46 (.len false (.t 45)),
   oJ 47 (.bslP 1 [(.p (.int .i64 0))] 5 [(0,1,(.t 43)),(1,1,(.c (.p (.int .i64 0)))),(2,1,(.c (.p (.int .i64 1)))),(3,1,(.c (.p (.int .i64 (-1))))),(4,1,(.t 46))]),
   oJ 48 (.call aj [(.t 39),(.t 47)]),
   ⟨none,none,.chk (some 1) 5 38⟩,
   oS 2 38,
   oM 3 48])
 (.ret)))))⟩
theorem lV:al Tryz.prog dW=some F_spec_DrawCalledBy:=by kernel_rfl
def mb:FK:=⟨29,[.t 4],
 .seq (.reg [oJ 4 (.mov (.c (.p (.bool false))))])
 (.seq (.seq (.reg [oM 6 0,
   oJ 7 (.len false (.t 6)),
   oM 8 1,
   oJ 9 (.len false (.t 8)),
   oJ 10 (.mn (.t 7) (.t 9)),
   oK 11 0])
 (.blk 0 (.loop (.seq (.reg [oJ 12 (.bin .lss (.t 11) (.t 10))])
 (.seq (.cond (.t 12)
  (.skip)
  (.exit 0))
 (.seq (.blk 1 (.seq (.reg [oM 13 11,
   oM 5 13])
 (.seq (.reg [oM 14 0,
   oM 15 5,
   oJ 16 (.idxS 1 (.t 14) (.t 15)),
   oM 18 1,
   oM 19 5,
   oJ 20 (.idxS 1 (.t 18) (.t 19)),
   oL 17 16,
   oL 21 20,
   oJ 22 (.bin .neq (.t 17) (.t 21))])
 (.cond (.t 22)
  (.seq (.reg [oJ 4 (.mov (.c (.p (.bool false))))])
  (.ret))
  (.skip)))))
 (.reg [oJ 23 (.bin .add (.t 11) (.c (.p (.int .i64 1)))),
   oM 11 23])))))))
 (.seq (.reg [oM 24 0,
   oJ 25 (.len false (.t 24)),
   oM 26 1,
   oJ 27 (.len false (.t 26)),
   oJ 28 (.bin .eql (.t 25) (.t 27)),
   oM 4 28])
 (.ret)))⟩
theorem sS:al Tryz.prog gh=some mb:=by kernel_rfl
def kf:FK:=⟨82,[.t 2],
 .seq (.reg [oJ 2 (.mov (.c (.p (.bool false))))])
 (.seq (.seq (.reg [oM 8 0,
   oJ 9 (.len false (.t 8)),
   oJ 10 (.bin .gtr (.t 9) (.c (.p (.int .i64 1048576))))])
 (.cond (.t 10)
  (.seq (.reg [oJ 2 (.mov (.c (.p (.bool true))))])
  (.ret))
  (.skip)))
 (.seq (.reg [oM 12 0,
   oJ 13 (.call dW [(.t 12)]),
   oM 11 13,
   oJ 14 (.ext 0 (.t 11)),
   oJ 15 (.ext 1 (.t 11)),
   oJ 3 (.alloc [.nils]),
   oS 3 14,
   oM 4 15])
 (.seq (.reg [oJ 16 (.ld (some 1) (.t 3)),
   oM 17 4,
   oJ 18 (.call eC [(.t 16),(.t 17)]),
   oM 5 18])
 (.seq (.seq (.reg [oM 19 5,
   oJ 20 (.ld (some 1) (.t 3)),
   oM 21 4,
   oJ 22 (.call bR [(.t 20),(.t 21)]),
   oJ 23 (.call gh [(.t 19),(.t 22)]),
   oJ 24 (.not (.t 23)),
   oM 25 24,
   ⟨(some 26),some (25,false),.ld (some 1) (.t 3)⟩,
   ⟨(some 27),some (25,false),.call cS [(.t 26)]⟩,
   ⟨(some 28),some (25,false),.bin .neq (.t 27) (.c (.p (.int .i64 0)))⟩,
   oJ 29 (.pick (.t 25) (.c (.p (.bool true))) (.t 28))])
 (.cond (.t 29)
  (.seq (.reg [oM 30 5,
    oJ 31 (.ld (some 1) (.t 3)),
    oM 32 4,
    oJ 33 (.call bR [(.t 31),(.t 32)]),
    oJ 34 (.call gh [(.t 30),(.t 33)]),
    oM 35 34,
    ⟨(some 36),some (35,true),.mov (.t 5)⟩,
    ⟨(some 37),some (35,true),.len false (.t 36)⟩,
    ⟨(some 38),some (35,true),.bin .eql (.t 37) (.c (.p (.int .i64 0)))⟩,
    oJ 39 (.pick (.t 35) (.t 38) (.c (.p (.bool false)))),
    oM 2 39])
  (.ret))
  (.skip)))
 (.seq (.seq (.reg [oM 40 5,
   oJ 41 (.len false (.t 40)),
   oK 42 0])
 (.blk 0 (.loop (.seq (.reg [oJ 43 (.bin .lss (.t 42) (.t 41))])
 (.seq (.cond (.t 43)
  (.skip)
  (.exit 0))
 (.seq (.blk 1 (.seq (.reg [oM 44 42,
   oJ 45 (.idxS 1 (.t 40) (.t 42)),
   oL 46 45,
   oM 6 44,
   oM 7 46])
 (.seq (.reg [oM 47 7,
   oJ 48 (.bin .lss (.t 47) (.c (.p (.int .i64 0)))),
   oM 49 48,
   ⟨(some 50),some (49,false),.mov (.t 7)⟩,
   ⟨(some 51),some (49,false),.mov (.t 4)⟩,
   ⟨(some 52),some (49,false),.bin .geq (.t 50) (.t 51)⟩,
   oJ 53 (.pick (.t 49) (.c (.p (.bool true))) (.t 52)),
   oM 54 53,
   ⟨(some 55),some (54,false),.mov (.t 6)⟩,
   ⟨(some 56),some (54,false),.bin .gtr (.t 55) (.c (.p (.int .i64 0)))⟩,
   ⟨(some 57),some (54,false),.mov (.t 56)⟩,
   ⟨(some 58),some (57,true),.mov (.t 5)⟩,
   ⟨(some 59),some (57,true),.mov (.t 6)⟩,
   ⟨(some 60),some (57,true),.bin .sub (.t 59) (.c (.p (.int .i64 1)))⟩,
   ⟨(some 61),some (57,true),.idxS 1 (.t 58) (.t 60)⟩,
   ⟨(some 62),some (57,true),.ld none (.t 61)⟩,
   ⟨(some 63),some (57,true),.mov (.t 7)⟩,
   ⟨(some 64),some (57,true),.bin .geq (.t 62) (.t 63)⟩,
   ⟨(some 65),some (54,false),.pick (.t 57) (.t 64) (.c (.p (.bool false)))⟩,
   oJ 66 (.pick (.t 54) (.c (.p (.bool true))) (.t 65))])
 (.cond (.t 66)
  (.seq (.reg [oJ 2 (.mov (.c (.p (.bool false))))])
  (.ret))
  (.skip)))))
 (.reg [oJ 67 (.bin .add (.t 42) (.c (.p (.int .i64 1)))),
   oM 42 67])))))))
 (.seq (.reg [oM 68 4,
   oJ 69 (.bin .geq (.t 68) (.c (.p (.int .i64 0)))),
   oM 70 69,
   ⟨(some 71),some (70,true),.mov (.t 4)⟩,
   ⟨(some 72),some (70,true),.fldA 0 (.t 3)⟩,
   ⟨(some 73),some (70,true),.ld none (.t 72)⟩,
   ⟨(some 74),some (70,true),.len false (.t 73)⟩,
   ⟨(some 75),some (70,true),.bin .lss (.t 71) (.t 74)⟩,
   oJ 76 (.pick (.t 70) (.t 75) (.c (.p (.bool false)))),
   oM 77 76,
   ⟨(some 78),some (77,false),.mov (.t 5)⟩,
   ⟨(some 79),some (77,false),.len false (.t 78)⟩,
   ⟨(some 80),some (77,false),.bin .eql (.t 79) (.c (.p (.int .i64 0)))⟩,
   oJ 81 (.pick (.t 77) (.c (.p (.bool true))) (.t 80)),
   oM 2 81])
 (.ret)))))))⟩
theorem qd:al Tryz.prog kb=some kf:=by kernel_rfl
end Go.Proofs.YtnjbhgpbgmpkcaaGreatDoor
namespace Go.Proofs.YtnjbhgpbgmpkcaaGreatDoor
open Go Go.Aw
set_option maxRecDepth 100000
set_option maxHeartbeats 4000000
def yW(l:List Fd)(out:List Int)(id:Nat)(h:List AO):Prop:=
 h[0]?=some (.row 1 [[.p (fdL l)]])∧2≤h.length∧((out=[]∧id=0∧h[1]?=some (.row 1 [[.nils]]))∨(out≠[]∧2≤id∧h[1]?=some (.row 1 [[.sl id 1 0 out.length]])∧h[id]?=some (iG out)))
def cHV(F:FuncId)(l:List Fd):HV (List Int) where
 F:=F
 caps:=[.ptr 1 1 0 0,.ptr 0 1 0 0]
 n:=2
 Inv:=yW l
 capsOk:=by simp[below]
 len:=fun{out id h} H=>by
  obtain⟨_,h2,⟨_,rfl,_⟩|⟨_,_,_,h3⟩⟩:=H
  ·exact⟨h2,by omega⟩
  ·exact⟨h2,(List.getElem?_eq_some_iff.1 h3).1⟩
 frame:=fun{out id h h'} H K=>by
  obtain⟨h0,h2,H⟩:=H
  have k0:=K 0 (by omega) (.inl (by omega))
  have k1:=K 1 (by omega) (.inl (by omega))
  have hl:2≤h'.length:=by
   rcases H with⟨_,_,e⟩|⟨_,_,e,_⟩
   ·rw[e] at k1;have:=(List.getElem?_eq_some_iff.1 k1).1;omega
   ·rw[e] at k1;have:=(List.getElem?_eq_some_iff.1 k1).1;omega
  refine⟨by rw[k0];exact h0,hl,?_⟩
  rcases H with⟨a,b,e⟩|⟨a,b,e,f⟩
  ·exact .inl ⟨a,b,by rw[k1];exact e⟩
  ·exact .inr ⟨a,b,by rw[k1];exact e,by rw[K id (List.getElem?_eq_some_iff.1 f).1 (.inr rfl)];exact f⟩
def eQ(l:List Fd)(out:List Int)(e:Ex):List Int:=if e.op=13 then out++[ixI (bY l e.name)] else out
def jD(out:List Int)(k:Nat):Prop:=out.length+k≤1099511627776
theorem mF(l:List Fd):∀out e k,jD out (k+1)→jD (eQ l out e) k:=by
 intro out e k h
 unfold jD eQ at*
 split
 ·simp;omega
 ·omega
variable (G:aC)
theorem sR(l:List Fd)(hl:l.length≤1073741824):∀out (e:Ex) k id h,jD out (k+1)→e.sz≤1073741824→yW l out id h→AC Tryz.prog G aD (.agg (e.cs.map .p)::[.ptr 1 1 0 0,.ptr 0 1 0 0]) h fun x h'=>x= .ret (.tup [])∧(cHV aD l).Left id h (eQ l out e) h':=by
 intro out e k id h hk hz hI
 have hcs:=e.cs_eq
 have hlen:=(cHV aD l).len hI
 obtain⟨h0,h2,H⟩:=hI
 refine AC.go mD ?_
 have hm:yW l out id h:=⟨h0,h2,H⟩
 by_cases ho:e.op=13
 case neg=>
  have hp:eQ l out e=out:=if_neg ho
  rw[hp]
  simp-implicitDefEqProofs[dg,hcs,ho]
  exact⟨id,(cHV aD l).more hm _,by simp,fun i hi _ _=>List.getElem?_append_left hi,.inl rfl⟩
 have hp:eQ l out e=out++[ixI (bY l e.name)]:=if_pos ho
 rw[hp]
 have hfa:=xx G l e.name hl
 generalize ixI (bY l e.name)=y at hfa⊢
 obtain⟨a,b,r,rfl⟩:∃a b r,h=a::b::r:=by
  match h,h2 with
  |a::b::r,_=>exact⟨a,b,r,rfl⟩
 obtain rfl:a= .row 1 [[.p (fdL l)]]:=by simpa using h0
 rcases H with⟨rfl,rfl,h1⟩|⟨hne,hid,h1,hr⟩
 ·obtain rfl:b= .row 1 [[.nils]]:=by simpa using h1
  simp-implicitDefEqProofs[dg,hcs,ho]
  refine hfa.use ?_
  simp-implicitDefEqProofs[]
  refine⟨r.length+3,⟨rfl,by simp,.inr ⟨by simp,by omega,rfl,?_⟩⟩,by simp,fun i hi h2 _=>?_,.inr (by simp)⟩
  ·simp[iG]
  ·match i,h2 with
   |i+2,_=>
    simp at hi
    simp[List.getElem?_append_left hi]
 ·obtain rfl:b= .row 1 [[.sl id 1 0 out.length]]:=by simpa using h1
  obtain⟨j,rfl⟩:∃j,id=j+2:=⟨id-2,by omega⟩
  have hr':r[j]?=some (.row 1 (out.map fun x=>[.p (.int .i64 x)])):=by simpa[iG] using hr
  have hjl:=(List.getElem?_eq_some_iff.1 hr').1
  have gr:∀t,(r++t)[j]?=some (.row 1 (out.map fun x=>[.p (.int .i64 x)])):=fun t=>by rw[List.getElem?_append_left hjl];exact hr'
  simp-implicitDefEqProofs[dg,hcs,ho,gr]
  refine hfa.use ?_
  simp-implicitDefEqProofs[gr]
  unfold jD at hk
  refine⟨⟨by omega,by omega⟩,r.length+3,⟨rfl,by simp,.inr ⟨by simp,by omega,by simp,?_⟩⟩,by simp,fun i hi h2 h3=>?_,.inr (by simp)⟩
  ·have ht:List.take out.length (out.map fun x=>[AV.p (.int .i64 x)])=out.map fun x=>[AV.p (.int .i64 x)]:=List.take_of_length_le (by simp)
   rw[ht]
   simp[iG]
  ·match i,h2,h3 with
   |i+2,_,h3=>
    simp at hi h3
    have hne2:j≠i:=fun e=>h3 e.symm
    simp only[List.getElem?_cons_succ]
    rw[List.getElem?_append_left (by simp;omega),List.getElem?_set_ne hne2,List.getElem?_append_left hi]
end Go.Proofs.YtnjbhgpbgmpkcaaGreatDoor
namespace Go.Proofs.YtnjbhgpbgmpkcaaGreatDoor
open Go Go.Aw
set_option maxRecDepth 100000
theorem tm{vs:List LV}{s:List UInt8}{c:Int}(h:c≠0):ni vs s c=c:=by unfold ni;split<;>simp[re h]
theorem wT{fns:List Fd}{k:Nat}{s:List UInt8}{n:Nat}{c:Int}(h:c≠0):jW fns k s n c=c:=by
 unfold jW
 simp only[re h]
 split
 ·rfl
 ·split
  ·rfl
  ·split<;>rfl
theorem wV{fns:List Fd}{k:Nat}{vs:List LV}{o:Int}{s:List UInt8}{n:Nat}{c:Int}(h:c≠0):jo fns k vs o s n c=c:=by
 unfold jo
 rw[tm h,wT h]
 split
 ·rfl
 ·split<;>rfl
mutual
theorem zQ(fns:List Fd)(k:Nat)(vs:List LV){c:Int}(h:c≠0):∀e:Ex,qh fns k vs e c=c
 | .mk o n s ks=>by rw[qh,wV h,jJ fns k vs h ks]
theorem jJ(fns:List Fd)(k:Nat)(vs:List LV){c:Int}(h:c≠0):∀l:List Ex,bW fns k vs l c=c
 |[]=>rfl
 |e::r=>by rw[bW,zQ fns k vs h e,jJ fns k vs h r]
end
theorem qV{fns:List Fd}{k:Nat}{vs:List LV}{l:List Ex}{c:Int}(h:bW fns k vs l c=0):c=0:=by
 by_cases hc:c=0
 ·exact hc
 ·rw[jJ fns k vs hc] at h;exact h
theorem ve{o:Int}{s:List UInt8}{b:Nat}{w:WS}(h:w.code≠0):(opW o s b w).code=w.code:=by
 unfold opW
 split
 ·simp only[iz,oH,re h]
  split
  ·rfl
  ·split<;>rfl
 ·split
  ·exact tm h
  ·rfl
mutual
theorem At(fns:List Fd)(k:Nat):∀(s:Sm) (b:Nat) (w:WS),w.code≠0→(stW fns k b s w).code=w.code
 | .mk o s a bd el,b,w,h=>by
   have e1:(bW fns k w.vs a w.code)=w.code:=jJ fns k w.vs h a
   have e2:(opW o s b ⟨w.vs,w.count,bW fns k w.vs a w.code⟩).code=w.code:=by rw[ve]<;>simp only[e1];exact h
   have e3:=lE fns k bd (b+1) (opW o s b ⟨w.vs,w.count,bW fns k w.vs a w.code⟩) (by rw[e2];exact h)
   rw[stW,fU,lE fns k el _ _ (by rw[fU,e3,e2];exact h),fU,e3,e2]
theorem lE(fns:List Fd)(k:Nat):∀(l:List Sm) (b:Nat) (w:WS),w.code≠0→(ca fns k b l w).code=w.code
 |[],b,w,h=>rfl
 |s::r,b,w,h=>by
  have e1:=At fns k s b w h
  rw[ca,lE fns k r b _ (by rw[e1];exact h),e1]
end
theorem lA{fns:List Fd}{k b:Nat}{l:List Sm}{w:WS}(h:(ca fns k b l w).code=0):w.code=0:=by
 by_cases hc:w.code=0
 ·exact hc
 ·rw[lE fns k l b w hc] at h;exact h
theorem Bu{o:Int}{s:List UInt8}{b:Nat}{w:WS}(h:(opW o s b w).code=0):w.code=0:=by
 by_cases hc:w.code=0
 ·exact hc
 ·rw[ve hc] at h;exact h
end Go.Proofs.YtnjbhgpbgmpkcaaGreatDoor
namespace Go.Proofs.YtnjbhgpbgmpkcaaGreatDoor
open Go Go.Aw
set_option maxRecDepth 100000
theorem px(fns:List Fd):∀(l:List Fd) (k:Nat),fZ fns k l=0↔∀(i:Nat) (f:Fd),l[i]?=some f→(fnW fns (k+i) f).code=0
 |[],k=>by simp[fZ]
 |f::r,k=>by
  rw[fZ]
  have ih:=px fns r (k+1)
  constructor
  ·intro h i g hg
   by_cases h0:(fnW fns k f).code=0
   ·rw[if_pos h0] at h
    cases i with
    |zero=>cases hg;exact h0
    |succ i=>have:=ih.1 h i g (by simpa using hg);rwa[show k+(i+1)=k+1+i by omega]
   ·rw[if_neg h0] at h;exact absurd h h0
  ·intro h
   rw[if_pos (by have:=h 0 f rfl;rwa[Nat.add_zero] at this)]
   exact ih.2 fun i g hg=>by have:=h (i+1) g (by simpa using hg);rwa[show k+(i+1)=k+1+i by omega] at this
theorem Di(l:List Fd):cG l=0↔bp l=true∧∀(k:Nat) (f:Fd),l[k]?=some f→(fnW l k f).code=0:=by
 unfold cG
 by_cases h:bp l=true
 ·rw[if_pos h,px];simp[h]
 ·rw[if_neg h];simp[h]
theorem mU(l:List Fd):bp l=true↔(1≤l.length∧l.length≤4)∧(∀f∈l,iy f=true)∧jA l≤40:=by
 simp only[bp,inR,Bool.and_eq_true,decide_eq_true_eq,List.all_eq_true]
 constructor
 ·rintro⟨⟨⟨h1,h2⟩,h3⟩,h4⟩;exact⟨⟨by omega,by omega⟩,h3,h4⟩
 ·rintro⟨⟨h1,h2⟩,h3,h4⟩;exact⟨⟨⟨by omega,by omega⟩,h3⟩,h4⟩
def Fd.cut(f:Fd)(n:Nat):Fd:=⟨f.name,f.params,f.body.take n⟩
end Go.Proofs.YtnjbhgpbgmpkcaaGreatDoor
namespace Go.Proofs.YtnjbhgpbgmpkcaaGreatDoor
open Go Go.Aw
set_option maxRecDepth 100000
set_option maxHeartbeats 4000000
def K_spec_l4Walk_expr:AK:= .seq (.reg [oJ 3 (.box 4 (.t 1)),oJ 4 (.alloc [(.p (.int .i64 0)),(.p (.int .i64 0)),(.p (.str [])),.nils])]) (.cut (.seq (.reg [oF 8 0 3,oL 9 8,oJ 10 (.bin .eql (.t 9) (.c (.p (.int .i64 2))))]) (.cond (.t 10) (.reg [oM 11 0,oF 12 2 3,oL 13 12,oJ 14 (.call bO [(.t 11),(.t 13)]),oF 15 2 3,oS 15 14]) (.skip))) (.cut (.seq (.reg [oF 16 0 3,oL 17 16,oJ 18 (.bin .eql (.t 17) (.c (.p (.int .i64 13))))]) (.cond (.t 18) (.seq (.reg [oM 19 0,oN 20 19,oF 21 0 20,oF 23 2 3,oJ 22 (.ld (some 1) (.t 21)),oL 24 23,oJ 25 (.call eS [(.t 22),(.t 24)]),oM 5 25]) (.seq (.reg [oM 26 5,oJ 27 (.bin .lss (.t 26) (.c (.p (.int .i64 0)))),oM 28 27,⟨(some 29),some (28,false),.mov (.t 5)⟩,⟨(some 30),some (28,false),.mov (.t 0)⟩,⟨(some 31),some (28,false),.nilck (.t 30)⟩,⟨(some 32),some (28,false),.fldA 1 (.t 31)⟩,⟨(some 33),some (28,false),.ld none (.t 32)⟩,⟨(some 34),some (28,false),.bin .geq (.t 29) (.t 33)⟩,oJ 35 (.pick (.t 28) (.c (.p (.bool true))) (.t 34))]) (.cond (.t 35) (.reg [oM 36 0,oJ 37 (.call aK [(.t 36),(.c (.p (.int .i64 4)))])]) (.seq (.reg [oM 38 0,oN 39 38,oF 40 0 39,oF 41 0 40,oM 43 5,oF 48 3 3,oL 42 41,oJ 44 (.idxS 3 (.t 42) (.t 43)),oF 45 1 44,oL 46 45,oJ 47 (.len false (.t 46)),oL 49 48,oJ 50 (.len false (.t 49)),oJ 51 (.bin .neq (.t 47) (.t 50))]) (.cond (.t 51) (.reg [oM 52 0,oJ 53 (.call aK [(.t 52),(.c (.p (.int .i64 5)))])]) (.skip)))))) (.skip))) (.seq (.reg [oJ 54 (.bsl 4 [(.p (.int .i64 0)),(.p (.int .i64 0)),(.p (.str [])),.nils] 0 []),oM 6 54]) (.seq (.seq (.reg [oK 7 0]) (.blk 0 (.loop (.seq (.seq (.reg [oM 55 7,oF 56 3 3,oL 57 56,oJ 58 (.len false (.t 57)),oJ 59 (.bin .lss (.t 55) (.t 58))]) (.cond (.t 59) (.skip) (.exit 0))) (.seq (.blk 1 (.reg [oM 62 6,oM 63 0,oF 64 3 3,oL 65 64,oM 66 7,oJ 67 (.idxS 4 (.t 65) (.t 66)),oJ 68 (.ld (some 4) (.t 67)),oJ 69 (.call br [(.t 63),(.t 68)]),oJ 70 (.bsl 4 [(.p (.int .i64 0)),(.p (.int .i64 0)),(.p (.str [])),.nils] 1 [(0,4,(.t 69))]),oJ 71 (.app 4 56 (.t 62) (.t 70)),oM 6 71])) (.reg [oM 60 7,oJ 61 (.bin .add (.t 60) (.c (.p (.int .i64 1)))),oM 7 61])))))) (.seq (.reg [oM 72 6,oF 73 3 3,oS 73 72]) (.seq (.reg [oJ 74 (.ld (some 4) (.t 3)),⟨none,none,.st 4 (.t 4) (.t 74)⟩]) (.ret)))))))
theorem mC:K_spec_l4Walk_expr.whole=F_spec_l4Walk_expr.ak:=rfl
variable (G:aC)
theorem vS{f:FuncId}{args:List AV}{nf:Bool}{fns:List Fd}{k:Nat}{w w':WS}{v:AV}(H:AC Tryz.prog G f args (HWk nf fns k w) fun x h=>x= .ret v∧h=HWk nf fns k w')(rest:List AO)(ha:ah 2 args):
 AC Tryz.prog G f args (wO 1 nf fns k w::roC nf w.vs::rest) fun x h=>x= .ret v∧h=wO 1 nf fns k w'::roC nf w'.vs::rest:=by
 refine(AC.pre H rest ha (qY _ _ _ _) ?_).mono ?_
 ·rintro x h ⟨_,rfl⟩;rfl
 ·rintro x h ⟨h1,⟨rfl,rfl⟩,rfl⟩
  exact⟨rfl,rfl⟩
theorem nG{n id:Nat}(hn:id<n){nf nf':Bool}{fns:List Fd}{k:Nat}{w:WS}{vs:List LV}{l:List AO}(r:∀o∈l,okO n o):∀o∈wO id nf fns k w::roC nf' vs::l,okO n o:=ag (pJ hn) (ag (eO _ _ _) r)
theorem qE{ρ π:List Nat}{h r1:List AO}{i id:Nat}{nf:Bool}{fns:List Fd}{k:Nat}{w:WS}(hid:id<ρ.length)(e:h[i]?=some (wO (ρ.getD id 0) nf fns k w))(hr:HW ρ h π r1):HW ρ h (i::π) (wO id nf fns k w::r1):=by
 refine cI (es:=[wC id nf fns k w]) (fun x hx=>?_) ?_ hr
 ·rw[List.mem_singleton.1 hx];exact rQ hid
 ·rw[e,List.map_cons,List.map_nil,tX];rfl
theorem zY{α:Type}{l:List α}{i j:Nat}{a b:α}(hij:i≠j)(h:l[j]?=some b):(l.set i a).set j b=l.set i a:=by
 apply List.ext_getElem?
 intro n
 rw[List.getElem?_set]
 split
 ·rename_i e
  subst e
  rw[List.getElem?_set_ne hij,h]
  rw[if_pos (by rw[List.length_set];exact(List.getElem?_eq_some_iff.1 h).1)]
 ·rfl
theorem tO(ρ:List Nat):∀l:List AV,ah 0 l→TW ρ l l
 |[],_=>by simp
 |v::r,h=>by
  rw[oh]
  refine⟨.inr ⟨(aL (Nat.zero_le _) [v] ⟨h.1,trivial⟩).1,?_⟩,tO ρ r h.2⟩
  have:=cV ρ [v] ⟨h.1,trivial⟩
  simpa[aZ] using this
theorem GY{h:List AO}{wid id:Nat}{nf:Bool}{fns:List Fd}{k:Nat}{w:WS}(e0:h[wid]?=some (wO id nf fns k w))(e1:h[id]?=some (roC nf w.vs)):HW [wid,id] h [wid,id] (HWk nf fns k w):=by
 refine cI (es:=[wC 1 nf fns k w]) (fun x hx=>?_) ?_ ?_
 ·rw[List.mem_singleton.1 hx];exact rQ (by simp)
 ·rw[e0,List.map_cons,List.map_nil,tX];rfl
 ·exact bs e1 (eO _ _ _) bq
theorem FR{f:FuncId}{args:List AV}{nf:Bool}{fns:List Fd}{k:Nat}{w:WS}{v:AV}{c:Int}(H:AC Tryz.prog G f (.ptr 0 5 0 0::args) (HWk nf fns k w) fun x h=>x= .ret v∧h=HWk nf fns k ⟨w.vs,w.count,c⟩)(ha:ah 0 args)(hv:below 0 v)
 {h:List AO}{wid id:Nat}(hid:wid≠id)(e0:h[wid]?=some (wO id nf fns k w))(e1:h[id]?=some (roC nf w.vs)):
 AC Tryz.prog G f (.ptr wid 5 0 0::args) h fun x h'=>x= .ret v∧h'=h.set wid (wO id nf fns k ⟨w.vs,w.count,c⟩):=by
 refine(H.frame [wid,id] (by simp[hid]) ?_ (GY e0 e1)).mono ?_
 ·rw[oh];exact⟨.inr ⟨by simp[below],rfl⟩,tO _ _ ha⟩
 ·rintro x h' ⟨x0,h0,⟨rfl,rfl⟩,_,rfl,rfl⟩
  refine⟨?_,?_⟩
  ·have:=cV ([wid,id]++List.range' h.length ((HWk nf fns k ⟨w.vs,w.count,c⟩).length-(HWk nf fns k w).length)) [v] ⟨hv,trivial⟩
   simp only[aZ] at this
   simp only[sj]
   exact congrArg ARes.ret (List.cons.inj this).1
  ·simp only[HWk,List.length_cons,List.length_nil,Nat.sub_self,List.range'_zero,List.append_nil,List.take_succ_cons,List.take_zero,List.map_cons,List.map_nil,List.drop_succ_cons,List.drop_zero,yl,vA,mrg]
   exact zY hid e1
theorem Ci{f:FuncId}{args:List AV}{nf:Bool}{fns:List Fd}{k:Nat}{w:WS}{v:AV}{Q:Bool→WS→Prop}(H:AC Tryz.prog G f (.ptr 0 5 0 0::args) (HWk nf fns k w) fun x h=>∃nf' w',x= .ret v∧h=[wO 2 nf' fns k w',.dead,roC nf' w'.vs]∧Q nf' w')(ha:ah 0 args)(hv:below 0 v)
 {h:List AO}{wid id:Nat}(hid:wid≠id)(e0:h[wid]?=some (wO id nf fns k w))(e1:h[id]?=some (roC nf w.vs)):
 AC Tryz.prog G f (.ptr wid 5 0 0::args) h fun x h'=>∃nf' w',x= .ret v∧h'=(h.set wid (wO h.length nf' fns k w')).set id .dead++[roC nf' w'.vs]∧Q nf' w':=by
 refine(H.frame [wid,id] (by simp[hid]) ?_ (GY e0 e1)).mono ?_
 ·rw[oh];exact⟨.inr ⟨by simp[below],rfl⟩,tO _ _ ha⟩
 ·rintro x h' ⟨x0,h0,⟨nf',w',rfl,rfl,q⟩,_,rfl,rfl⟩
  refine⟨nf',w',?_,?_,q⟩
  ·have:=cV ([wid,id]++List.range' h.length ([wO 2 nf' fns k w',.dead,roC nf' w'.vs].length-(HWk nf fns k w).length)) [v] ⟨hv,trivial⟩
   simp only[aZ] at this
   simp only[sj]
   exact congrArg ARes.ret (List.cons.inj this).1
  ·simp only[HWk,List.length_cons,List.length_nil,List.take_succ_cons,List.take_zero,List.map_cons,List.map_nil,List.drop_succ_cons,List.drop_zero,yl,vA,mrg]
   rfl
theorem tw(fns:List Fd)(k:Nat)(vs:List LV):∀(a b:List Ex) (c:Int),bW fns k vs (a++b) c=bW fns k vs b (bW fns k vs a c)
 |[],b,c=>rfl
 |e::r,b,c=>by rw[List.cons_append,bW,bW,tw fns k vs r]
theorem nk(vs:List LV):∀l:List Ex,ia vs l=l.map (rnE vs)
 |[]=>rfl
 |e::r=>by rw[ia,nk vs r];rfl
theorem qx{fns:List Fd}{k:Nat}{vs:List LV}{l:List Ex}{c:Int}{i:Nat}(h:i<l.length):bW fns k vs (l.take (i+1)) c=qh fns k vs l[i] (bW fns k vs (l.take i) c):=by
 rw[an h,tw];rfl
theorem tp{vs:List LV}{l:List Ex}{i:Nat}(h:i<l.length):ia vs (l.take (i+1))=ia vs (l.take i)++[rnE vs l[i]]:=by
 rw[nk,nk,an h,List.map_append];rfl
theorem nJ(vs:List LV)(l:List Ex):(ia vs l).length=l.length:=by rw[nk,List.length_map]
theorem yq(l:List Ex):(exR l).length=l.length:=by simp[exR]
theorem xO(a b:List Ex):exR (a++b)=exR a++exR b:=by simp[exR]
theorem ww{h:List AO}{id:Nat}{l:List Ex}(e:h[id]?=some (.row 4 (exR l))):View h (.sl id 4 0 l.length) (exL l):=by
 have:=gu (h:=h) (id:=id) (sz:=4) (n:=l.length) (ls:=l.map Ex.cs) (by rw[e,exR];simp) (by simp) (fun x hx=>by obtain⟨b,_,rfl⟩:=List.mem_map.1 hx;exact b.cs_len)
 exact this
theorem Ek{fns:List Fd}{s:List UInt8}{j:Nat}(h:bY fns s=some j):j<fns.length:=by
 rw[bY,List.findIdx?_eq_some_iff_getElem] at h;exact h.1
theorem Dt{fns:List Fd}{k:Nat}(hf:fns.length≤1099511627776):∀(N:Nat) (e:Ex),e.sz≤N→N≤1099511627776→∀(nf:Bool) (w:WS),(nf=true→w.vs=[])→w.vs.length≤1099511627776→
 AC Tryz.prog G br [.ptr 0 5 0 0,.agg (e.cs.map .p)] (HWk nf fns k w) fun x h=>x= .ret (.agg ((rnE w.vs e).cs.map .p))∧h=HWk nf fns k ⟨w.vs,w.count,qh fns k w.vs e w.code⟩:=by
 intro N
 induction N with
 |zero=>intro e he;have:=e.sz_eq;omega
 |succ N ih=>
  intro e he hN nf w hn hl
  have hec:=e.cs_eq
  have hsz:=e.sz_eq
  have hkl:=bF e.kids
  have hre:(rnE w.vs e).cs=[.int .i64 e.op,.int .i64 e.n,.str (if e.op=2 then ro w.vs e.name else e.name),exL (ia w.vs e.kids)]:=by
   obtain⟨o,n,s,ks⟩:=e;rw[rnE,Ex.cs_eq];rfl
  have hce:qh fns k w.vs e w.code=bW fns k w.vs e.kids (jo fns k w.vs e.op e.name e.kids.length w.code):=by
   obtain⟨o,n,s,ks⟩:=e;rfl
  have main:AC Tryz.prog G br [.ptr 0 5 0 0,.agg (e.cs.map .p)] (HWk nf fns k w) fun x h=>∃E1 E2,x= .ret (.agg [.p (.int .i64 e.op),.p (.int .i64 e.n),.p (.str (if e.op=2 then ro w.vs e.name else e.name)),.sl 4 4 0 e.kids.length])∧
   h=[wO 1 nf fns k ⟨w.vs,w.count,qh fns k w.vs e w.code⟩,roC nf w.vs,E1,E2,.row 4 (exR (ia w.vs e.kids))]:=by
   refine AC.goK mE mC ?_
   simp-implicitDefEqProofs[K_spec_l4Walk_expr,F_spec_l4Walk_expr,HWk,hec]
   refine ji (am 75 [(0,.ptr 0 5 0 0),(3,.ptr 2 4 0 0),(4,.ptr 3 4 0 0)]) [wO 1 nf fns k ⟨w.vs,w.count,if e.op=2 then ni w.vs e.name w.code else w.code⟩,roC nf w.vs,.row 4 [[.p (.int .i64 e.op),.p (.int .i64 e.n),.p (.str (if e.op=2 then ro w.vs e.name else e.name)),.p (exL e.kids)]],.row 4 [[.p (.int .i64 0),.p (.int .i64 0),.p (.str []),.nils]]] ?_ ?_
   ·by_cases o2:e.op=2
    ·simp-implicitDefEqProofs[o2]
     refine(vS G (CM G nf fns k w hn hl e.name) _ (by simp[below])).mono ?_
     rintro r h ⟨rfl,rfl⟩
     simp-implicitDefEqProofs[aa]
     exact ab (by simp) (nG (by simp) (by simp[okO,below])) (by simp[below])
    ·simp-implicitDefEqProofs[o2]
     exact ab (by simp) (nG (by simp) (by simp[okO,below])) (by simp[below])
   refine ji (am 75 [(0,.ptr 0 5 0 0),(3,.ptr 2 4 0 0),(4,.ptr 3 4 0 0)]) [wO 1 nf fns k ⟨w.vs,w.count,jo fns k w.vs e.op e.name e.kids.length w.code⟩,roC nf w.vs,.row 4 [[.p (.int .i64 e.op),.p (.int .i64 e.n),.p (.str (if e.op=2 then ro w.vs e.name else e.name)),.p (exL e.kids)]],.row 4 [[.p (.int .i64 0),.p (.int .i64 0),.p (.str []),.nils]]] ?_ ?_
   ·by_cases o13:e.op=13
    ·have hhd:jo fns k w.vs e.op e.name e.kids.length w.code=jW fns k e.name e.kids.length w.code:=by simp[jo,o13]
     rw[hhd]
     simp-implicitDefEqProofs[o13,wO,wC]
     refine(CU G fns e.name hf).use ?_
     have fin:∀c:Int,Wk 2 (am 75 [(0,.ptr 0 5 0 0),(3,.ptr 2 4 0 0),(4,.ptr 3 4 0 0)]) [wO 1 nf fns k ⟨w.vs,w.count,c⟩,roC nf w.vs,.row 4 [[.p (.int .i64 13),.p (.int .i64 e.n),.p (.str e.name),.p (exL e.kids)]],.row 4 [[.p (.int .i64 0),.p (.int .i64 0),.p (.str []),.nils]]] (am 75 [(0,.ptr 0 5 0 0),(3,.ptr 2 4 0 0),(4,.ptr 3 4 0 0)]) [wO 1 nf fns k ⟨w.vs,w.count,c⟩,roC nf w.vs,.row 4 [[.p (.int .i64 13),.p (.int .i64 e.n),.p (.str e.name),.p (exL e.kids)]],.row 4 [[.p (.int .i64 0),.p (.int .i64 0),.p (.str []),.nils]]]:=fun c=>
      ab (by simp) (nG (by simp) (by simp[okO,below])) (by simp[below])
     cases hfa:bY fns e.name with
     |none=>
      simp-implicitDefEqProofs[ixI,jW,hfa]
      refine(vS G (lC G nf fns k w 4) _ (by simp[below])).mono ?_
      rintro r h ⟨rfl,rfl⟩
      simp-implicitDefEqProofs[aa]
      exact ab (h:=[wO 1 nf fns k ⟨w.vs,w.count,fl w.code 4⟩,roC nf w.vs,.row 4 [[.p (.int .i64 13),.p (.int .i64 e.n),.p (.str e.name),.p (exL e.kids)]],.row 4 [[.p (.int .i64 0),.p (.int .i64 0),.p (.str []),.nils]]]) (by simp) (nG (by simp) (by simp[okO,below])) (by simp[below])
     |some j=>
      have hj:=Ek hfa
      have hg:=List.getElem?_eq_getElem hj
      have hjn:¬(j:Int)<0:=by omega
      by_cases hkj:k≤j
      ·have hkj':(k:Int)≤(j:Int):=by omega
       simp-implicitDefEqProofs[ixI,jW,hfa,hkj,hkj',hjn]
       refine(vS G (lC G nf fns k w 4) _ (by simp[below])).mono ?_
       rintro r h ⟨rfl,rfl⟩
       simp-implicitDefEqProofs[aa]
       exact ab (h:=[wO 1 nf fns k ⟨w.vs,w.count,fl w.code 4⟩,roC nf w.vs,.row 4 [[.p (.int .i64 13),.p (.int .i64 e.n),.p (.str e.name),.p (exL e.kids)]],.row 4 [[.p (.int .i64 0),.p (.int .i64 0),.p (.str []),.nils]]]) (by simp) (nG (by simp) (by simp[okO,below])) (by simp[below])
      ·have hkj':¬(k:Int)≤(j:Int):=by omega
       have hfl:fdL fns= .lst 3 (fns.map Fd.cs):=rfl
       have hcs:fns[j].cs=[.str fns[j].name,az fns[j].params,smL fns[j].body]:=rfl
       have hst:az fns[j].params= .lst 1 (fns[j].params.map fun w=>[.str w]):=rfl
       have hxl:∀l,exL l= .lst 4 (l.map Ex.cs):=fun _=>rfl
       have hpn:zP fns j=fns[j].params.length:=by simp[zP,hg]
       by_cases hp:fns[j].params.length=e.kids.length
       ·have hcc:jW fns k e.name e.kids.length w.code=w.code:=by simp[jW,hfa,hkj,hpn,hp]
        rw[hcc]
        simp-implicitDefEqProofs[ixI,hkj',hjn,hfl,hg,hcs,hst,hxl,hp]
        exact ab (h:=[wO 1 nf fns k w,roC nf w.vs,.row 4 [[.p (.int .i64 13),.p (.int .i64 e.n),.p (.str e.name),.p (exL e.kids)]],.row 4 [[.p (.int .i64 0),.p (.int .i64 0),.p (.str []),.nils]]]) (by simp) (nG (by simp) (by simp[okO,below])) (by simp[below])
       ·have hcc:jW fns k e.name e.kids.length w.code=fl w.code 5:=by simp[jW,hfa,hkj,hpn,hp]
        have hp':¬(fns[j].params.length:Int)=(e.kids.length:Int):=by omega
        rw[hcc]
        simp-implicitDefEqProofs[ixI,hkj',hjn,hfl,hg,hcs,hst,hxl,hp']
        refine(vS G (lC G nf fns k w 5) _ (by simp[below])).mono ?_
        rintro r h ⟨rfl,rfl⟩
        simp-implicitDefEqProofs[aa]
        exact ab (h:=[wO 1 nf fns k ⟨w.vs,w.count,fl w.code 5⟩,roC nf w.vs,.row 4 [[.p (.int .i64 13),.p (.int .i64 e.n),.p (.str e.name),.p (exL e.kids)]],.row 4 [[.p (.int .i64 0),.p (.int .i64 0),.p (.str []),.nils]]]) (by simp) (nG (by simp) (by simp[okO,below])) (by simp[below])
    ·have hhd:jo fns k w.vs e.op e.name e.kids.length w.code=if e.op=2 then ni w.vs e.name w.code else w.code:=by simp[jo,o13]
     rw[hhd]
     simp-implicitDefEqProofs[o13]
     exact ab (by simp) (nG (by simp) (by simp[okO,below])) (by simp[below])
   rw[hce]
   generalize jo fns k w.vs e.op e.name e.kids.length w.code=c2
   generalize (if e.op=2 then ro w.vs e.name else e.name)=s1
   have hxl:exL e.kids= .lst 4 (e.kids.map Ex.cs):=rfl
   simp-implicitDefEqProofs[]
   refine aO (fun i:Nat=>am 75 [(0,.ptr 0 5 0 0),(3,.ptr 2 4 0 0),(4,.ptr 3 4 0 0),(6,.sl 4 4 0 i),(7,.p (.int .i64 i))])
    (fun i=>[wO 1 nf fns k ⟨w.vs,w.count,bW fns k w.vs (e.kids.take i) c2⟩,roC nf w.vs,.row 4 [[.p (.int .i64 e.op),.p (.int .i64 e.n),.p (.str s1),.p (exL e.kids)]],.row 4 [[.p (.int .i64 0),.p (.int .i64 0),.p (.str []),.nils]],.row 4 (exR (ia w.vs (e.kids.take i)))])
    (fun i=>i≤e.kids.length) (fun i=>e.kids.length-i) 0 (by simp) ?_ ?_
   ·exact ab (by simp) (nG (by simp) (by simp[okO,below])) (by simp[below])
   ·intro i hi
    have hrl:(exR (ia w.vs (e.kids.take i))).length=i:=by rw[yq,nJ];simp;omega
    simp-implicitDefEqProofs[hxl]
    refine aW (fun h=>?_) (fun h=>?_)
    ·simp at h
     have hg:=List.getElem?_eq_getElem h
     have hks:=bN (List.getElem_mem h)
     have hkc:=(rnE w.vs e.kids[i]).cs_eq
     simp-implicitDefEqProofs[hg]
     refine(vS G (ih e.kids[i] (by omega) (by omega) nf ⟨w.vs,w.count,bW fns k w.vs (e.kids.take i) c2⟩ hn hl) _ (by simp[below])).mono ?_
     rintro r h ⟨rfl,rfl⟩
     rw[show(rnE (WS.mk w.vs w.count (bW fns k w.vs (e.kids.take i) c2)).vs e.kids[i])=rnE w.vs e.kids[i] from rfl]
     simp-implicitDefEqProofs[aa,hkc,hrl]
     refine⟨by omega,?_⟩
     refine⟨i+1,by omega,by omega,?_⟩
     have htk:List.take i (exR (ia w.vs (e.kids.take i)))=exR (ia w.vs (e.kids.take i)):=List.take_of_length_le (by omega)
     rw[qx h,tp h,xO,htk]
     refine cQ [0,1,2,3,6] (by simp) (by decide) (by decide) (qE (by simp) rfl (bs rfl (eO _ _ _) (bf rfl (by simp[below]) (bf rfl (by simp[below]) (bf ?_ ?_ bq))))) (by simp[below,ren,w1 (i:=i) (by omega)])
     ·have:exR [rnE w.vs e.kids[i]]=[[.p (.int .i64 (rnE w.vs e.kids[i]).op),.p (.int .i64 (rnE w.vs e.kids[i]).n),.p (.str (rnE w.vs e.kids[i]).name),.p (exL (rnE w.vs e.kids[i]).kids)]]:=by rw[exR,List.map_singleton,hkc];rfl
      rw[this];rfl
     ·intro x hx
      rcases List.mem_append.1 hx with h|h
      ·exact du _ x h
      ·exact du _ x h
    ·simp at h
     have hie:i=e.kids.length:=by omega
     subst hie
     simp-implicitDefEqProofs[]
  refine main.frz 2 (by simp[HWk]) (fun t v h ⟨_,_,e,_⟩=>by cases e) ?_
  rintro v h ⟨E1,E2,e,rfl⟩
  cases e
  refine⟨_,HWk nf fns k ⟨w.vs,w.count,qh fns k w.vs e w.code⟩,by simp,rfl,.agg ?_ .nil,.same (pJ (by omega)) (.same (eO _ _ _) (.nil _)),rfl,rfl⟩
  rw[hre]
  have hrl:=nJ w.vs e.kids
  rw[←hrl]
  exact .keep (by simp) (.keep (by simp) (.keep (by simp) (.one (ww rfl) .nil)))
end Go.Proofs.YtnjbhgpbgmpkcaaGreatDoor
namespace Go.Proofs.YtnjbhgpbgmpkcaaGreatDoor
open Go Go.Aw
set_option maxRecDepth 100000
set_option maxHeartbeats 4000000
def K_spec_l4Walk_stmts:AK:= .seq (.reg [oJ 6 (.mov (.c .nils))]) (.seq (.reg [oJ 13 (.bsl 5 [(.p (.int .i64 0)),(.p (.str [])),.nils,.nils,.nils] 0 []),oM 7 13]) (.seq (.reg [oM 14 0,oN 15 14,oF 16 2 15,oL 17 16,oJ 18 (.len false (.t 17)),oM 8 18]) (.seq (.seq (.reg [oK 9 0]) (.blk 0 (.loop (.seq (.seq (.reg [oM 19 9,oM 20 1,oJ 21 (.len false (.t 20)),oJ 22 (.bin .lss (.t 19) (.t 21))]) (.cond (.t 22) (.skip) (.exit 0))) (.seq (.blk 1 (.seq (.reg [oM 25 1,oM 26 9,oJ 27 (.idxS 5 (.t 25) (.t 26)),oJ 28 (.ld (some 5) (.t 27)),oJ 10 (.alloc [(.p (.int .i64 0)),(.p (.str [])),.nils,.nils,.nils]),⟨none,none,.st 5 (.t 10) (.t 28)⟩]) (.seq (.reg [oJ 29 (.bsl 4 [(.p (.int .i64 0)),(.p (.int .i64 0)),(.p (.str [])),.nils] 0 []),oM 11 29]) (.seq (.seq (.reg [oK 12 0]) (.blk 2 (.loop (.seq (.seq (.reg [oM 30 12,oF 31 2 10,oL 32 31,oJ 33 (.len false (.t 32)),oJ 34 (.bin .lss (.t 30) (.t 33))]) (.cond (.t 34) (.skip) (.exit 2))) (.seq (.blk 3 (.reg [oM 37 11,oM 38 0,oF 39 2 10,oL 40 39,oM 41 12,oJ 42 (.idxS 4 (.t 40) (.t 41)),oJ 43 (.ld (some 4) (.t 42)),oJ 44 (.call br [(.t 38),(.t 43)]),oJ 45 (.bsl 4 [(.p (.int .i64 0)),(.p (.int .i64 0)),(.p (.str [])),.nils] 1 [(0,4,(.t 44))]),oJ 46 (.app 4 56 (.t 37) (.t 45)),oM 11 46])) (.reg [oM 35 12,oJ 36 (.bin .add (.t 35) (.c (.p (.int .i64 1)))),oM 12 36])))))) (.cut (.reg [oM 47 11,oF 48 2 10,oS 48 47]) (.cut (.seq (.reg [oF 49 0 10,oL 50 49,oJ 51 (.bin .eql (.t 50) (.c (.p (.int .i64 1))))]) (.cond (.t 51) (.reg [oM 52 0,oF 53 1 10,oL 54 53,oM 55 2,oJ 56 (.call bP [(.t 52),(.t 54),(.t 55)]),oF 57 1 10,oS 57 56]) (.skip))) (.cut (.seq (.reg [oF 58 0 10,oL 59 58,oJ 60 (.bin .eql (.t 59) (.c (.p (.int .i64 2))))]) (.cond (.t 60) (.reg [oM 61 0,oF 62 1 10,oL 63 62,oJ 64 (.call bO [(.t 61),(.t 63)]),oF 65 1 10,oS 65 64]) (.skip))) (.seq (.reg [oM 66 0,oF 67 3 10,oL 68 67,oM 69 2,oJ 70 (.bin .add (.t 69) (.c (.p (.int .i64 1)))),oJ 71 (.call aY [(.t 66),(.t 68),(.t 70)]),oF 72 3 10,oS 72 71]) (.seq (.reg [oM 73 0,oF 74 4 10,oL 75 74,oM 76 2,oJ 77 (.bin .add (.t 76) (.c (.p (.int .i64 1)))),oJ 78 (.call aY [(.t 73),(.t 75),(.t 77)]),oF 79 4 10,oS 79 78]) (.reg [oM 80 7,oJ 81 (.ld (some 5) (.t 10)),oJ 82 (.bsl 5 [(.p (.int .i64 0)),(.p (.str [])),.nils,.nils,.nils] 1 [(0,5,(.t 81))]),oJ 83 (.app 5 96 (.t 80) (.t 82)),oM 7 83])))))))))) (.reg [oM 23 9,oJ 24 (.bin .add (.t 23) (.c (.p (.int .i64 1)))),oM 9 24])))))) (.cut (.seq (.reg [oM 84 2,oJ 85 (.bin .gtr (.t 84) (.c (.p (.int .i64 0))))]) (.cond (.t 85) (.reg [oM 86 0,oM 87 0,oN 88 87,oF 89 2 88,oL 90 89,oM 91 8,oJ 92 (.slS 3 (.t 90) none (some (.t 91))),oN 93 86,oF 94 2 93,oS 94 92]) (.skip))) (.seq (.reg [oM 95 7,oM 6 95]) (.ret))))))
theorem lK:K_spec_l4Walk_stmts.whole=F_spec_l4Walk_stmts.ak:=rfl
theorem vG(fns:List Fd)(k b:Nat):∀(x y:List Sm) (w:WS),ca fns k b (x++y) w=ca fns k b y (ca fns k b x w)
 |[],y,w=>rfl
 |s::r,y,w=>by rw[List.cons_append,ca,ca,vG fns k b r]
theorem wd(fns:List Fd)(k b:Nat):∀(x y:List Sm) (w:WS),fD fns k b (x++y) w=fD fns k b x w++fD fns k b y (ca fns k b x w)
 |[],y,w=>rfl
 |s::r,y,w=>by rw[List.cons_append,fD,fD,wd fns k b r];rfl
theorem zj{fns:List Fd}{k b:Nat}{l:List Sm}{w:WS}{i:Nat}(h:i<l.length):ca fns k b (l.take (i+1)) w=stW fns k b l[i] (ca fns k b (l.take i) w):=by
 rw[an h,vG];rfl
theorem zL{fns:List Fd}{k b:Nat}{l:List Sm}{w:WS}{i:Nat}(h:i<l.length):fD fns k b (l.take (i+1)) w=fD fns k b (l.take i) w++[rnS fns k b l[i] (ca fns k b (l.take i) w)]:=by
 rw[an h,wd];rfl
theorem rn(fns:List Fd)(k b:Nat):∀(l:List Sm) (w:WS),(fD fns k b l w).length=l.length
 |[],w=>rfl
 |s::r,w=>by rw[fD,List.length_cons,rn fns k b r,List.length_cons]
theorem yb{l:List Sm}{i:Nat}(h:i<l.length):aq (l.take i)+l[i].sz≤aq l:=by
 have e:l=l.take i++l[i]::l.drop (i+1):=by rw[←List.drop_eq_getElem_cons h,List.take_append_drop]
 have h2:aq l=aq (l.take i)+(l[i].sz+aq (l.drop (i+1))):=by
  conv=>lhs;rw[e]
  rw[bk];rfl
 omega
def mT(fns:List Fd)(k b:Nat)(l:List Sm)(w:WS):WS:=if 0<b then(ca fns k b l w).back w.vs else ca fns k b l w
theorem xG(fns:List Fd)(k b:Nat)(l:List Sm)(w:WS):(mT fns k b l w).count=w.count+mw l:=by
 unfold mT
 split
 ·exact fP fns k l b w
 ·exact fP fns k l b w
theorem BW{e vs:List LV}:(lvR (e++vs)).take vs.length=lvR vs:=by
 have h:lvR (e++vs)=lvR vs++lvR e:=by simp[lvR]
 rw[h,List.take_append_of_le_length (by rw[ql];exact Nat.le_refl _),List.take_of_length_le (by rw[ql];exact Nat.le_refl _)]
theorem tt(l:List Sm):mw l≤aq l:=Nat.le_trans (oo l) (lp l)
theorem xp(nf:Bool)(id n:Nat):(vaC nf id n).isCell=true:=by cases nf<;>rfl
theorem zr(nf:Bool)(id n:Nat):(vaC nf id n).cells=[vaC nf id n]:=by cases nf<;>rfl
attribute [simp ↓] xp zr
variable (G:aC)
def StP(fns:List Fd)(k b:Nat)(l:List Sm)(w:WS)(x:ARes)(h:List AO):Prop:=∃nf' w',x= .ret (.p (smL (fD fns k b l w)))∧h=[wO 2 nf' fns k w',.dead,roC nf' w'.vs]∧(nf'=true→w'.vs=[])∧w'=mT fns k b l w
structure StS where (i:Nat) (nf:Bool)
theorem Ck{fns:List Fd}{k:Nat}(hf:fns.length≤1099511627776):∀(N:Nat) (l:List Sm),aq l<N→∀(b:Nat) (nf:Bool) (w:WS),(nf=true→w.vs=[])→w.vs.length≤w.count→w.count+aq l≤1099511627776→b+aq l≤1099511627776→
 AC Tryz.prog G aY [.ptr 0 5 0 0,.p (smL l),.p (.int .i64 b)] (HWk nf fns k w) (StP fns k b l w):=by
 intro N
 induction N with
 |zero=>
  intro l hl b nf w hn hv hc hb
  omega
 |succ N ih=>
  intro l hl b nf w hn hv hc hb
  have hll:=bV l
  refine AC.goK lO lK ?_
  have hsl:∀l,smL l= .lst 5 (l.map Sm.cs):=fun _=>rfl
  have hlen0:wX (vaC nf 1 w.vs.length)=some (.p (.int .i64 w.vs.length)):=by
   cases nf
   ·rfl
   ·simp[vaC,hn rfl]
  simp-implicitDefEqProofs[K_spec_l4Walk_stmts,F_spec_l4Walk_stmts,HWk,wO,wC,hlen0]
  refine aO (fun s:StS=>am 96 [(0,.ptr 0 5 0 0),(1,.p (smL l)),(2,.p (.int .i64 b)),(7,.sl 2 5 0 s.i),(8,.p (.int .i64 w.vs.length)),(9,.p (.int .i64 s.i))])
   (fun s=>[wO 3 s.nf fns k (ca fns k b (l.take s.i) w),.dead,.row 5 (smR (fD fns k b (l.take s.i) w)),roC s.nf (ca fns k b (l.take s.i) w).vs])
   (fun s=>s.i≤l.length∧(s.nf=true→(ca fns k b (l.take s.i) w).vs=[])) (fun s=>l.length-s.i) ⟨0,nf⟩ ⟨by simp,hn⟩ ?_ ?_
  ·refine nD [0,1,2,1] (by simp) (by decide) ?_ (qE (by simp) rfl (bD (by simp) (bf rfl (by simp[smR,fD]) (bs rfl (eO _ _ _) bq)))) (by simp[below,ren])
   cases nf<;>simp[eV,roC,wO,ca]
  ·rintro⟨i,nf⟩ ⟨hi,hn⟩
   simp only at hi hn
   simp-implicitDefEqProofs[hsl]
   refine aW (fun h=>?_) (fun h=>?_)
   ·simp at h
    have hg:=List.getElem?_eq_getElem h
    have hat:=yb h
    have hse:=l[i].cs_eq
    have hsz:=l[i].sz_eq
    have hle:=yy fns k (l:=l.take i) (b:=b) hv
    have hcn:=fP fns k (l.take i) b w
    have hlz:=tt (l.take i)
    have eW:=zj (fns:=fns) (k:=k) (b:=b) (w:=w) h
    have eR:=zL (fns:=fns) (k:=k) (b:=b) (w:=w) h
    have hol:=rn fns k b (l.take i) w
    rw[List.length_take,Nat.min_eq_left hi] at hol
    generalize l[i]=s at hg hat hse hsz eW eR
    generalize ca fns k b (l.take i) w=wi at hn hle hcn eW eR⊢
    generalize fD fns k b (l.take i) w=out at hol eR⊢
    obtain⟨o,nme,a,bd,el⟩:=s
    simp only[Sm.op,Sm.name,Sm.args,Sm.body,Sm.els] at hse hsz
    simp-implicitDefEqProofs[hg,hse]
    have hxl:∀l,exL l= .lst 4 (l.map Ex.cs):=fun _=>rfl
    have hal:=bF a
    have hlE:=tt bd
    have hwl:wi.vs.length≤1099511627776:=by omega
    have hopR:∀(x y z u v:AV),ah 0 [x,y,z,u,v]→okO 5 (AO.row 5 [[x,y,z,u,v]]):=fun x y z u v hh=>ce (fun e he=>by rw[List.mem_singleton.1 he];exact hh)
    refine aO (fun j:Nat=>am 96 [(0,.ptr 0 5 0 0),(1,.p (smL l)),(2,.p (.int .i64 b)),(7,.sl 2 5 0 i),(8,.p (.int .i64 w.vs.length)),(9,.p (.int .i64 i)),(10,.ptr 4 5 0 0),(11,.sl 5 4 0 j),(12,.p (.int .i64 j))])
     (fun j=>[wO 3 nf fns k ⟨wi.vs,wi.count,bW fns k wi.vs (a.take j) wi.code⟩,.dead,.row 5 (smR out),roC nf wi.vs,.row 5 [[.p (.int .i64 o),.p (.str nme),.p (exL a),.p (smL bd),.p (smL el)]],.row 4 (exR (ia wi.vs (a.take j)))])
     (fun j=>j≤a.length) (fun j=>a.length-j) 0 (by simp) ?_ ?_
    ·refine ab (h:=[wO 3 nf fns k wi,.dead,.row 5 (smR out),roC nf wi.vs,.row 5 [[.p (.int .i64 o),.p (.str nme),.p (exL a),.p (smL bd),.p (smL el)]],.row 4 []]) (by simp) (ag (pJ (by simp)) (ag trivial (ag (ce (dt out)) (ag (eO _ _ _) (by simp[okO,below]))))) (by simp[below,hsl])
    intro j hj
    have hrl:(exR (ia wi.vs (a.take j))).length=j:=by rw[yq,nJ];simp;omega
    simp-implicitDefEqProofs[hxl]
    refine aW (fun hc=>?_) (fun hc=>?_)
    ·simp at hc
     have hga:=List.getElem?_eq_getElem hc
     have hks:=bN (List.getElem_mem hc)
     have hkc:=(rnE wi.vs a[j]).cs_eq
     simp-implicitDefEqProofs[hga]
     refine(FR G (id:=3) (Dt G hf (a[j].sz) a[j] (Nat.le_refl _) (by omega) nf ⟨wi.vs,wi.count,bW fns k wi.vs (a.take j) wi.code⟩ hn hwl) (by simp) (by simp[below]) (by decide) rfl rfl).mono ?_
     rintro r h' ⟨rfl,rfl⟩
     rw[show(rnE (WS.mk wi.vs wi.count (bW fns k wi.vs (a.take j) wi.code)).vs a[j])=rnE wi.vs a[j] from rfl]
     simp-implicitDefEqProofs[aa,hkc,hrl]
     refine⟨by omega,j+1,by omega,by omega,?_⟩
     have htk:List.take j (exR (ia wi.vs (a.take j)))=exR (ia wi.vs (a.take j)):=List.take_of_length_le (by omega)
     rw[qx hc,tp hc,xO,htk]
     refine cQ [0,1,2,3,4,7] (by simp) (by decide) (by decide) (qE (by simp) rfl (bD (by simp) (bf rfl (dt out) (bs rfl (eO _ _ _) (bf rfl (by simp[below]) (bf ?_ ?_ bq)))))) (by simp[below,ren,hsl,w1 (i:=j) (by omega)])
     ·have:exR [rnE wi.vs a[j]]=[[.p (.int .i64 (rnE wi.vs a[j]).op),.p (.int .i64 (rnE wi.vs a[j]).n),.p (.str (rnE wi.vs a[j]).name),.p (exL (rnE wi.vs a[j]).kids)]]:=by rw[exR,List.map_singleton,hkc];rfl
      rw[this];rfl
     ·intro x hx
      rcases List.mem_append.1 hx with h|h
      ·exact du _ x h
      ·exact du _ x h
    simp at hc
    have hje:j=a.length:=by omega
    subst hje
    rw[List.take_length] at hrl⊢
    have hal2:=nJ wi.vs a
    simp-implicitDefEqProofs[]
    generalize hw1:WS.mk wi.vs wi.count (bW fns k wi.vs a wi.code)=w1
    have e1v:w1.vs=wi.vs:=by rw[←hw1]
    have e1c:w1.count=wi.count:=by rw[←hw1]
    have e1l:w1.vs.length=wi.vs.length:=by rw[e1v]
    rw[←e1v]
    refine ji (am 96 [(0,.ptr 0 5 0 0),(1,.p (smL l)),(2,.p (.int .i64 b)),(7,.sl 2 5 0 i),(8,.p (.int .i64 w.vs.length)),(9,.p (.int .i64 i)),(10,.ptr 4 5 0 0)])
     [wO 3 nf fns k w1,.dead,.row 5 (smR out),roC nf w1.vs,.row 5 [[.p (.int .i64 o),.p (.str nme),.p (exL (ia w1.vs a)),.p (smL bd),.p (smL el)]]] ?_ ?_
    ·simp-implicitDefEqProofs[]
     refine jO 5 (by omega) (by simp) rfl (.same (pJ (by omega)) (.dead (.same (ce (dt out)) (.same (eO _ _ _) (.one (.keep (by simp[below]) (.keep (by simp[below]) (.one ?_ (.keep (by simp[below]) (.keep (by simp[below]) .nil))))) (.nil _)))))) ?_
     ·rw[←e1v] at hal2
      rw[←hal2]
      exact ww rfl
     ·refine⟨.keep (by simp[below]) .nil,.keep (by simp[below]) .nil,.keep (by simp[below]) .nil,.keep (by simp[below]) .nil,.keep (by simp[below]) .nil,.keep (by simp[below]) .nil,.keep (by simp[below]) .nil,trivial⟩
    have TT:∀(r1:List (Nat × AV)),Aw.look r1 0= .ptr 0 5 0 0→Aw.look r1 1= .p (smL l)→Aw.look r1 2= .p (.int .i64 b)→Aw.look r1 7= .sl 2 5 0 i→Aw.look r1 8= .p (.int .i64 w.vs.length)→Aw.look r1 9= .p (.int .i64 i)→Aw.look r1 10= .ptr 4 5 0 0→∀ρ:List Nat,ρ.length=5→ρ.getD 0 0=0→ρ.getD 2 0=2→ρ.getD 4 0=4→
     TWA ρ r1 [(0,.ptr 0 5 0 0),(1,.p (smL l)),(2,.p (.int .i64 b)),(7,.sl 2 5 0 i),(8,.p (.int .i64 w.vs.length)),(9,.p (.int .i64 i)),(10,.ptr 4 5 0 0)]:=by
     intro r1 a0 a1 a2 a7 a8 a9 a10 ρ hr r0 r2 r4
     simp[below,ren,hr,a0,a1,a2,a7,a8,a9,a10]
     rw[List.getD_eq_getElem?_getD,List.getElem?_eq_getElem (by omega)] at r0 r2 r4
     exact⟨r0,r2,r4⟩
    have hn1:nf=true→w1.vs=[]:=fun h=>by rw[e1v];exact hn h
    have okB:∀(nf:Bool) (w:WS) (r:AO),okO 0 r→∀x∈[wO 3 nf fns k w,.dead,.row 5 (smR out),roC nf w.vs,r],okO 5 x:=fun nf w r hr=>
     ag (pJ (by omega)) (ag trivial (ag (ce (dt out)) (ag (eO _ _ _) (ag (ce hr) cH))))
    refine ji (am 96 [(0,.ptr 0 5 0 0),(1,.p (smL l)),(2,.p (.int .i64 b)),(7,.sl 2 5 0 i),(8,.p (.int .i64 w.vs.length)),(9,.p (.int .i64 i)),(10,.ptr 4 5 0 0)])
     [wO 3 (if o=1 then false else nf) fns k (if o=1 then iz w1 nme b else w1),.dead,.row 5 (smR out),roC (if o=1 then false else nf) (if o=1 then iz w1 nme b else w1).vs,.row 5 [[.p (.int .i64 o),.p (.str (if o=1 then vnm w1.count else nme)),.p (exL (ia w1.vs a)),.p (smL bd),.p (smL el)]]] ?_ ?_
    ·by_cases o1:o=1
     ·simp-implicitDefEqProofs[o1]
      refine(Ci G (id:=3) (Q:=fun nf' w'=>nf'=false∧w'=iz w1 nme b) ((Cj G nf fns k w1 hn1 (by omega) (by omega) nme b).mono (by rintro x h ⟨rfl,rfl⟩;exact⟨false,_,rfl,rfl,rfl,rfl⟩)) (by simp) (by simp[below]) (by decide) rfl rfl).mono ?_
      rintro r h' ⟨nf',w',rfl,rfl,rfl,rfl⟩
      simp-implicitDefEqProofs[aa]
      refine cQ [0,1,2,5,4] (by simp) (by decide) (by decide) (qE (by simp) rfl (bD (by simp) (bf rfl (dt out) (bs rfl (eO _ _ _) (bf rfl (by simp[below]) bq))))) (TT _ (by simp) (by simp) (by simp) (by simp) (by simp) (by simp) (by simp) _ rfl rfl rfl rfl)
     ·simp-implicitDefEqProofs[o1]
      refine ab (by simp) (okB nf w1 _ (by simp[okO,below])) (by simp[below])
    generalize hw2:(if o=1 then iz w1 nme b else w1)=w2
    generalize hnf2:(if o=1 then false else nf)=nf2
    generalize hnm2:(if o=1 then vnm w1.count else nme)=nm2
    have hn2:nf2=true→w2.vs=[]:=by
     intro h
     by_cases o1:o=1
     ·rw[if_pos o1] at hnf2;rw[←hnf2] at h;cases h
     ·rw[if_neg o1] at hnf2 hw2;rw[←hw2];exact hn1 (by rw[hnf2];exact h)
    have h2c:w2.count=w1.count+if o=1 then 1 else 0:=by rw[←hw2];split<;>rfl
    have h2v:w2.vs.length≤w2.count:=by
     rw[←hw2];split
     ·simp[iz];omega
     ·omega
    have h2b:w2.count≤wi.count+1:=by rw[h2c,e1c];split<;>omega
    refine ji (am 96 [(0,.ptr 0 5 0 0),(1,.p (smL l)),(2,.p (.int .i64 b)),(7,.sl 2 5 0 i),(8,.p (.int .i64 w.vs.length)),(9,.p (.int .i64 i)),(10,.ptr 4 5 0 0)])
     [wO 3 nf2 fns k (opW o nme b w1),.dead,.row 5 (smR out),roC nf2 (opW o nme b w1).vs,.row 5 [[.p (.int .i64 o),.p (.str (opN o nme w1)),.p (exL (ia w1.vs a)),.p (smL bd),.p (smL el)]]] ?_ ?_
    ·by_cases o2:o=2
     ·have o1:¬o=1:=by omega
      rw[if_neg o1] at hw2 hnm2
      subst hw2;subst hnm2
      have eo:opW o nme b w1=⟨w1.vs,w1.count,ni w1.vs nme w1.code⟩:=by rw[opW,if_neg o1,if_pos o2]
      have en:opN o nme w1=ro w1.vs nme:=by rw[opN,if_neg o1,if_pos o2]
      rw[eo,en]
      simp-implicitDefEqProofs[o2]
      refine(FR G (id:=3) (CM G nf2 fns k w1 hn2 (by omega) nme) (by simp) (by simp[below]) (by decide) rfl rfl).mono ?_
      rintro r h' ⟨rfl,rfl⟩
      simp-implicitDefEqProofs[aa]
      refine ab (h:=[wO 3 nf2 fns k ⟨w1.vs,w1.count,ni w1.vs nme w1.code⟩,.dead,.row 5 (smR out),roC nf2 w1.vs,_]) (by simp) (okB nf2 ⟨w1.vs,w1.count,ni w1.vs nme w1.code⟩ _ (by simp[okO,below])) (by simp[below])
     ·have eo:opW o nme b w1=w2:=by rw[opW,if_neg o2,←hw2]
      have en:opN o nme w1=nm2:=by rw[opN,if_neg o2,←hnm2]
      rw[eo,en]
      simp-implicitDefEqProofs[o2]
      refine ab (by simp) (okB nf2 w2 _ (by simp[okO,below])) (by simp[below])
    have eov:(opW o nme b w1).vs=w2.vs:=by
     rw[opW,←hw2];split
     ·rfl
     ·split<;>rfl
    have eoc:(opW o nme b w1).count=w2.count:=by rw[oG,h2c]
    have hwb:IntKind.i64.wrap ((b:Int)+1)=((b+1:Nat):Int):=by rw[af (by omega) (by omega)];omega
    have hstw:stW fns k b (.mk o nme a bd el) wi=mT fns k (b+1) el (mT fns k (b+1) bd (opW o nme b w1)):=by
     rw[stW]
     simp only[hw1,mT,Nat.succ_pos,if_true]
     rfl
    have hrns:(rnS fns k b (.mk o nme a bd el) wi).cs=[.int .i64 o,.str (opN o nme w1),exL (ia w1.vs a),smL (fD fns k (b+1) bd (opW o nme b w1)),smL (fD fns k (b+1) el (mT fns k (b+1) bd (opW o nme b w1)))]:=by
     rw[rnS,Sm.cs_eq]
     simp only[hw1,mT,Nat.succ_pos,if_true,Sm.op,Sm.name,Sm.args,Sm.body,Sm.els,e1v]
     have:opN o nme wi=opN o nme w1:=by simp only[opN,e1v,e1c]
     rw[this]
    rw[hstw] at eW
    clear hstw
    generalize opW o nme b w1=w3 at eov eoc hrns eW⊢
    have hn3:nf2=true→w3.vs=[]:=fun h=>by rw[eov];exact hn2 h
    have h3v:w3.vs.length≤w3.count:=by rw[eov,eoc];exact h2v
    simp-implicitDefEqProofs[hwb]
    refine(Ci G (id:=3) (ih bd (by omega) (b+1) nf2 w3 hn3 h3v (by omega) (by omega)) (by simp) (by simp[below]) (by decide) rfl rfl).mono ?_
    rintro r h' ⟨nf4,w4,rfl,rfl,hn4,hw4⟩
    rw[←hw4] at hrns eW
    have h4c:w4.count=w3.count+mw bd:=by rw[hw4];exact xG _ _ _ _ _
    have h4v:w4.vs.length≤w4.count:=by
     have:w4.vs=w3.vs:=by rw[hw4];simp[mT,WS.back]
     rw[this,h4c];omega
    simp-implicitDefEqProofs[aa,hwb]
    refine(Ci G (id:=5) (ih el (by omega) (b+1) nf4 w4 hn4 h4v (by omega) (by omega)) (by simp) (by simp[below]) (by decide) rfl rfl).mono ?_
    rintro r h' ⟨nf5,w5,rfl,rfl,hn5,hw5⟩
    rw[←hw5] at eW
    have hsl2:(smR out).length=i:=by rw[eA];exact hol
    simp-implicitDefEqProofs[aa,hsl2]
    refine⟨⟨by omega,by omega⟩,⟨i+1,nf5⟩,⟨by simp only;omega,fun h=>by simp only at h⊢;rw[eW];exact hn5 h⟩,by simp only;omega,?_⟩
    simp only
    rw[eW,eR,uz]
    have htk:List.take i (smR out)=smR out:=List.take_of_length_le (by omega)
    rw[htk]
    have hsm1:smR [rnS fns k b (.mk o nme a bd el) wi]=[[.p (.int .i64 o),.p (.str (opN o nme w1)),.p (exL (ia w1.vs a)),.p (smL (fD fns k (b+1) bd w3)),.p (smL (fD fns k (b+1) el w4))]]:=by rw[smR,List.map_singleton,hrns];rfl
    rw[hsm1]
    refine cQ [0,1,8,6] (by simp) (by decide) (by decide) (qE (by simp) rfl (bD (by simp) (bf rfl (fun x hx=>?_) (bs rfl (eO _ _ _) bq)))) (by simp[below,ren,hsl,show IntKind.i64.wrap ((i:Int)+1)=((i:Int)+1) from af (by omega) (by omega)])
    rcases List.mem_append.1 hx with h|h
    ·exact dt out x h
    ·rw[List.mem_singleton.1 h];simp
   ·simp at h
    have hie:i=l.length:=by omega
    subst hie
    rw[List.take_length] at hn⊢
    obtain⟨ext,hext⟩:=uP fns k l b w
    have hlen:=rn fns k b l w
    refine ji (am 96 [(7,.p (smL (fD fns k b l w)))]) [wO 2 nf fns k (mT fns k b l w),.dead,roC nf (mT fns k b l w).vs] ?_ ?_
    ·have fin:∀(r1:List (Nat × AV)) (w':WS),w'.vs=w.vs∨w'.vs=(ca fns k b l w).vs→(Aw.look r1 7= .sl 2 5 0 l.length)→
      Wk 2 (am 96 r1) [wO 3 nf fns k w',.dead,.row 5 (smR (fD fns k b l w)),roC nf (ca fns k b l w).vs] (am 96 [(7,.p (smL (fD fns k b l w)))]) [wO 2 nf fns k w',.dead,roC nf w'.vs]:=by
      intro r1 w' hv' hr
      refine Wk.trans (qn (h1:=[wO 3 nf fns k w',.dead,.row 5 (smR (fD fns k b l w)),roC nf w'.vs]) ?_) (Wk.trans (cQ (l1:=[(7,.sl 3 5 0 l.length)]) (h1:=[wO 2 nf fns k w',.dead,roC nf w'.vs,.row 5 (smR (fD fns k b l w))]) [0,1,3,2] (by simp) (by decide) (by decide) (qE (by simp) rfl (bD (by simp) (bs rfl (eO _ _ _) (bf rfl (dt _) bq)))) (by simp[below,ren,hr]))
       (jO 3 (by omega) (by simp) rfl (.same (pJ (by omega)) (.dead (.same (eO _ _ _) (.nil _)))) ?_))
      ·refine⟨.inl rfl,.inl rfl,.inl rfl,?_,trivial⟩
       rcases hv' with e|e
       ·cases nf with
        |true=>exact .inl rfl
        |false=>
         refine .inr ⟨3,lvR (ca fns k b l w).vs,w.vs.length,rfl,?_⟩
         rw[hext,BW,e];rfl
       ·rw[e];exact .inl rfl
      ·rw[←hlen]
       exact⟨.one (gS rfl) .nil,trivial⟩
     by_cases hb0:0<b
     ·have hwe:mT fns k b l w=(ca fns k b l w).back w.vs:=if_pos hb0
      rw[hwe]
      have hll2:(ca fns k b l w).vs.length=ext.length+w.vs.length:=by rw[hext,List.length_append]
      cases nf with
      |true=>
       have h0:=hn rfl
       rw[h0] at hext
       have h00:w.vs=[]:=(List.append_eq_nil_iff.1 hext.symm).2
       simp-implicitDefEqProofs[hb0,wO,wC,vaC,h00]
       rw[h00] at fin
       exact fin _ ⟨[],(ca fns k b l w).count,(ca fns k b l w).code⟩ (.inl rfl) (by simp)
      |false=>
       have hle:w.vs.length≤(ca fns k b l w).vs.length:=by omega
       simp-implicitDefEqProofs[hb0,wO,wC,vaC,hle]
       exact fin _ ⟨w.vs,(ca fns k b l w).count,(ca fns k b l w).code⟩ (.inl rfl) (by simp)
     ·have hwe:mT fns k b l w=ca fns k b l w:=if_neg hb0
      have hb0':b=0:=by omega
      subst hb0'
      rw[hwe]
      simp-implicitDefEqProofs[]
      exact fin _ _ (.inr rfl) (by simp)
    ·simp-implicitDefEqProofs[]
     refine⟨nf,_,rfl,rfl,?_,rfl⟩
     intro hnf
     have h0:=hn hnf
     unfold mT
     split
     ·rw[h0] at hext;exact(List.append_eq_nil_iff.1 hext.symm).2
     ·exact h0
end Go.Proofs.YtnjbhgpbgmpkcaaGreatDoor
namespace Go.Proofs.YtnjbhgpbgmpkcaaGreatDoor
open Go Go.Aw
set_option maxRecDepth 100000
set_option maxHeartbeats 4000000
def K_spec_l4Fn:AK:= .seq (.reg [oJ 2 (.box 1 (.t 0)),oJ 4 (.alloc [(.p (.str [])),.nils,.nils]),oK 5 0,oK 6 0]) (.seq (.reg [oJ 11 (.ld (some 1) (.t 2)),oM 12 1,oJ 13 (.bld [.nils,(.p (.int .i64 0)),.nils,(.p (.int .i64 0)),(.p (.int .i64 0))] [(0,1,(.t 11)),(1,1,(.t 12))]),oJ 14 (.box 5 (.t 13)),oM 7 14]) (.cut (.reg [oF 15 0 2,oL 16 15,oM 17 1,oJ 18 (.idxS 3 (.t 16) (.t 17)),oJ 19 (.ld (some 3) (.t 18)),oJ 8 (.alloc [(.p (.str [])),.nils,.nils]),⟨none,none,.st 3 (.t 8) (.t 19)⟩]) (.cut (.seq (.reg [oJ 20 (.ld (some 1) (.t 2)),oF 21 0 8,oL 22 21,oJ 23 (.call eS [(.t 20),(.t 22)]),oM 24 1,oJ 25 (.bin .neq (.t 23) (.t 24))]) (.cond (.t 25) (.reg [oM 26 7,oJ 27 (.call aK [(.t 26),(.c (.p (.int .i64 2)))])]) (.skip))) (.seq (.reg [oJ 28 (.bsl 1 [(.p (.str []))] 0 []),oM 9 28]) (.seq (.seq (.reg [oK 10 0]) (.blk 0 (.loop (.seq (.seq (.reg [oM 29 10,oF 30 1 8,oL 31 30,oJ 32 (.len false (.t 31)),oJ 33 (.bin .lss (.t 29) (.t 32))]) (.cond (.t 33) (.skip) (.exit 0))) (.seq (.blk 1 (.reg [oM 36 9,oM 37 7,oF 38 1 8,oL 39 38,oM 40 10,oJ 41 (.idxS 1 (.t 39) (.t 40)),oL 42 41,oJ 43 (.call bP [(.t 37),(.t 42),(.c (.p (.int .i64 0)))]),oJ 44 (.bsl 1 [(.p (.str []))] 1 [(0,1,(.t 43))]),oJ 45 (.app 1 16 (.t 36) (.t 44)),oM 9 45])) (.reg [oM 34 10,oJ 35 (.bin .add (.t 34) (.c (.p (.int .i64 1)))),oM 10 35])))))) (.seq (.reg [oM 46 9,oF 47 1 8,oS 47 46]) (.seq (.reg [oM 48 7,oF 49 2 8,oL 50 49,oJ 51 (.call aY [(.t 48),(.t 50),(.c (.p (.int .i64 0)))]),oF 52 2 8,oS 52 51]) (.seq (.reg [oM 54 7,oN 55 54,oF 56 4 55,oM 58 7,oN 59 58,oF 60 3 59,oJ 53 (.ld (some 3) (.t 8)),oL 57 56,oL 61 60,⟨none,none,.st 3 (.t 4) (.t 53)⟩,⟨none,none,.chk none 56 57⟩,⟨none,none,.chk none 60 61⟩,oM 5 57,oM 6 61]) (.ret)))))))))
theorem wv:K_spec_l4Fn.whole=F_spec_l4Fn.ak:=rfl
theorem wa:∀(ps:List (List UInt8)) (w:WS),w.vs.length≤w.count→(cw ps w).vs.length≤(cw ps w).count
 |[],w,h=>h
 |s::r,w,h=>wa r (iz w s 0) (by simp[iz];omega)
theorem yZ(a b:List (List UInt8))(w:WS):cw (a++b) w=cw b (cw a w):=by simp[cw]
theorem wA{l:List (List UInt8)}{w:WS}{i:Nat}(h:i<l.length):cw (l.take (i+1)) w=iz (cw (l.take i) w) l[i] 0:=by
 rw[an h,yZ];rfl
theorem vo:∀(a b:List (List UInt8)) (w:WS),lJ (a++b) w=lJ a w++lJ b (cw a w)
 |[],b,w=>rfl
 |s::r,b,w=>by rw[List.cons_append,lJ,lJ,vo r];rfl
theorem zM{l:List (List UInt8)}{w:WS}{i:Nat}(h:i<l.length):lJ (l.take (i+1)) w=lJ (l.take i) w++[vnm (cw (l.take i) w).count]:=by
 rw[an h,vo];rfl
theorem rb:∀(l:List (List UInt8)) (w:WS),(lJ l w).length=l.length
 |[],w=>rfl
 |s::r,w=>by rw[lJ,List.length_cons,rb r,List.length_cons]
def w0(fns:List Fd)(k:Nat)(f:Fd):WS:=⟨[],0,if bY fns f.name=some k then 0 else 2⟩
theorem FY(fns:List Fd)(k:Nat)(f:Fd):fnW fns k f=ca fns k 0 f.body (cw f.params (w0 fns k f)):=rfl
theorem BV(fns:List Fd)(k:Nat)(f:Fd):(rnF fns k f).cs=[.str f.name,az (lJ f.params (w0 fns k f)),smL (fD fns k 0 f.body (cw f.params (w0 fns k f)))]:=rfl
variable (G:aC)
theorem Fk{fns:List Fd}{k:Nat}{f:Fd}(hk:fns[k]?=some f)(hz:aX fns≤1073741824):VF Tryz.prog G iJ [.agg [.p (fdL fns)],.p (.int .i64 k)] (.tup [.agg ((rnF fns k f).cs.map .p),.p (.int .i64 (fnW fns k f).code),.p (.int .i64 (fnW fns k f).count)]):=by
 have hfl:=bX fns
 have hfm:=dJ (List.mem_of_getElem? hk)
 have hfz:f.sz=1+f.name.length+(f.params.length+(f.params.map List.length).sum)+aq f.body:=rfl
 have hkl:=(List.getElem?_eq_some_iff.1 hk).1
 have key:AC Tryz.prog G iJ [.agg [.p (fdL fns)],.p (.int .i64 k)] [] fun x h=>x= .ret (.tup [.agg [.p (.str f.name),.sl 5 1 0 f.params.length,.p (smL (fD fns k 0 f.body (cw f.params (w0 fns k f))))],.p (.int .i64 (fnW fns k f).code),.p (.int .i64 (fnW fns k f).count)])∧h[5]?=some (bC (lJ f.params (w0 fns k f))):=by
  refine AC.goK uS wv ?_
  have hfd:∀l,fdL l= .lst 3 (l.map Fd.cs):=fun _=>rfl
  have hcs:f.cs=[.str f.name,az f.params,smL f.body]:=rfl
  have hst:az f.params= .lst 1 (f.params.map fun w=>[.str w]):=rfl
  simp-implicitDefEqProofs[K_spec_l4Fn,F_spec_l4Fn]
  refine ji (am 62 [(1,.p (.int .i64 k)),(2,.ptr 0 1 0 0),(4,.ptr 1 3 0 0),(7,.ptr 2 5 0 0),(8,.ptr 3 3 0 0)])
   [.row 1 [[.p (fdL fns)]],.row 3 [[.p (.str []),.nils,.nils]],wO 4 true fns k ⟨[],0,0⟩,.row 3 [[.p (.str f.name),.p (az f.params),.p (smL f.body)]],.dead] ?_ ?_
  ·simp-implicitDefEqProofs[hfd,hk,hcs]
   refine nU (h:=[.row 1 [[.p (fdL fns)]],.row 3 [[.p (.str []),.nils,.nils]],wO 4 true fns k ⟨[],0,0⟩,.row 3 [[.p (.str f.name),.p (az f.params),.p (smL f.body)]]]) (by simp) (by simp) ?_ (by simp[below])
   refine ag (by simp[okO,below]) (ag (by simp[okO,below]) (ag ?_ (ag (by simp[okO,below]) cH)))
   intro x hx
   rw[List.mem_singleton.1 hx];simp[wC,vaC,below]
  refine ji (am 62 [(1,.p (.int .i64 k)),(2,.ptr 0 1 0 0),(4,.ptr 1 3 0 0),(7,.ptr 2 5 0 0),(8,.ptr 3 3 0 0)])
   [.row 1 [[.p (fdL fns)]],.row 3 [[.p (.str []),.nils,.nils]],wO 4 true fns k (w0 fns k f),.row 3 [[.p (.str f.name),.p (az f.params),.p (smL f.body)]],.dead] ?_ ?_
  ·simp-implicitDefEqProofs[]
   refine(CU G fns f.name (by omega)).use ?_
   have hok:∀w:WS,∀o∈[AO.row 1 [[.p (fdL fns)]],.row 3 [[.p (.str []),.nils,.nils]],wO 4 true fns k w,.row 3 [[.p (.str f.name),.p (az f.params),.p (smL f.body)]],.dead],okO 5 o:=fun w=>
    ag (by simp[okO,below]) (ag (by simp[okO,below]) (ag (pJ (by simp)) (ag (by simp[okO,below]) (ag trivial cH))))
   by_cases he:bY fns f.name=some k
   ·have hw:w0 fns k f=⟨[],0,0⟩:=by rw[w0,if_pos he]
    rw[hw,he]
    simp-implicitDefEqProofs[ixI]
    exact ab (by simp) (hok _) (by simp[below])
   ·have hw:w0 fns k f=⟨[],0,2⟩:=by rw[w0,if_neg he]
    have hne:¬ixI (bY fns f.name)=(k:Int):=by
     intro h
     apply he
     cases e:bY fns f.name with
     |none=>rw[e] at h;simp only[ixI] at h;omega
     |some j=>rw[e] at h;simp only[ixI] at h;have:j=k:=by omega
              rw[this]
    rw[hw]
    simp-implicitDefEqProofs[hne]
    refine(FR G (wid:=2) (id:=4) (lC G true fns k ⟨[],0,0⟩ 2) (by simp) (by simp[below]) (by decide) rfl rfl).mono ?_
    rintro r h' ⟨rfl,rfl⟩
    simp-implicitDefEqProofs[aa]
    exact ab (h:=[AO.row 1 [[.p (fdL fns)]],.row 3 [[.p (.str []),.nils,.nils]],wO 4 true fns k ⟨[],0,2⟩,.row 3 [[.p (.str f.name),.p (az f.params),.p (smL f.body)]],.dead]) (by simp) (hok _) (by simp[below])
  rw[FY]
  have hw0v:(w0 fns k f).vs=[]:=rfl
  have hw0c:(w0 fns k f).count=0:=rfl
  generalize w0 fns k f=w0 at hw0v hw0c⊢
  simp-implicitDefEqProofs[]
  have hcnt:∀j,j≤f.params.length→(cw (f.params.take j) w0).count=j:=fun j hj=>by rw[pD,hw0c];simp;omega
  have hvl:∀j,(cw (f.params.take j) w0).vs.length≤(cw (f.params.take j) w0).count:=fun j=>wa _ _ (by rw[hw0v];simp)
  refine aO (fun j:Nat=>am 62 [(1,.p (.int .i64 k)),(2,.ptr 0 1 0 0),(4,.ptr 1 3 0 0),(7,.ptr 2 5 0 0),(8,.ptr 3 3 0 0),(9,.sl 5 1 0 j),(10,.p (.int .i64 j))])
   (fun j=>[.row 1 [[.p (fdL fns)]],.row 3 [[.p (.str []),.nils,.nils]],wO 6 (decide (j=0)) fns k (cw (f.params.take j) w0),.row 3 [[.p (.str f.name),.p (az f.params),.p (smL f.body)]],.dead,bC (lJ (f.params.take j) w0),roC (decide (j=0)) (cw (f.params.take j) w0).vs])
   (fun j=>j≤f.params.length) (fun j=>f.params.length-j) 0 (by simp) ?_ ?_
  ·refine nU (h:=[.row 1 [[.p (fdL fns)]],.row 3 [[.p (.str []),.nils,.nils]],wO 6 true fns k w0,.row 3 [[.p (.str f.name),.p (az f.params),.p (smL f.body)]],.dead,.row 1 []]) (by simp) (by simp) ?_ (by simp[below])
   refine ag (by simp[okO,below]) (ag (by simp[okO,below]) (ag ?_ (ag (by simp[okO,below]) (ag trivial (ag (by simp[okO]) cH)))))
   intro x hx
   rw[List.mem_singleton.1 hx];simp[wC,vaC,below]
  intro j hj
  have hjc:=hcnt j hj
  have hjv:=hvl j
  have hol:=rb (f.params.take j) w0
  rw[List.length_take,Nat.min_eq_left hj] at hol
  have hnf:decide (j=0)=true→(cw (f.params.take j) w0).vs=[]:=by
   intro h
   have h0:j=0:=by simpa using h
   rw[h0,List.take_zero]
   exact hw0v
  simp-implicitDefEqProofs[hst]
  refine aW (fun h=>?_) (fun h=>?_)
  ·simp at h
   have hg:=List.getElem?_eq_getElem h
   have eP:=wA (w:=w0) h
   have eR:=zM (w:=w0) h
   simp-implicitDefEqProofs[hg]
   refine(Ci G (wid:=2) (id:=6) (Q:=fun nf' w'=>nf'=false∧w'=iz (cw (f.params.take j) w0) f.params[j] 0) ((Cj G (decide (j=0)) fns k _ hnf (by omega) (by omega) f.params[j] 0).mono (by rintro x h ⟨rfl,rfl⟩;exact⟨false,_,rfl,rfl,rfl,rfl⟩)) (by simp) (by simp[below]) (by decide) rfl rfl).mono ?_
   rintro r h' ⟨nf',w',rfl,rfl,rfl,rfl⟩
   have hso:∀l,bC l= .row 1 (l.map fun n=>[.p (.str n)]):=fun _=>rfl
   simp-implicitDefEqProofs[aa,hso,hol]
   refine⟨by omega,j+1,by omega,by omega,?_⟩
   have htk:List.take j ((lJ (f.params.take j) w0).map fun n=>[AV.p (.str n)])=(lJ (f.params.take j) w0).map fun n=>[AV.p (.str n)]:=List.take_of_length_le (by rw[List.length_map];omega)
   have hd:decide (j+1=0)=false:=by simp
   rw[eP,eR,hd,List.map_append,←List.map_take,List.map_take,htk]
   refine vn [0,1,2,3,4,9,7] rfl (by decide) (bf rfl (by simp) (bf rfl (by simp[below]) (qE (by simp) rfl (bf rfl (by simp) (bD (by simp) (bf rfl (fun x hx=>?_) (bs rfl (eO _ _ _) bq))))))) (by simp[below,ren,w1 (i:=j) (by omega)])
   rcases List.mem_append.1 hx with h|h
   ·exact bm _ x h
   ·exact bm _ x h
  ·simp at h
   have hje:j=f.params.length:=by omega
   subst hje
   rw[List.take_length] at hol hjc hjv hnf⊢
   generalize decide (f.params.length=0)=nf at hnf⊢
   simp-implicitDefEqProofs[]
   refine(Ci G (wid:=2) (id:=6) (Ck G (fns:=fns) (by omega) (aq f.body+1) f.body (by omega) 0 _ (cw f.params w0) hnf hjv (by omega) (by omega)) (by simp) (by simp[below]) (by decide) rfl rfl).mono ?_
   rintro r h' ⟨nf',w',rfl,rfl,hn',hw'⟩
   have hb:mT fns k 0 f.body (cw f.params w0)=ca fns k 0 f.body (cw f.params w0):=rfl
   rw[hb] at hw'
   rw[←hw']
   simp-implicitDefEqProofs[aa,wO,wC]
 refine key.freezeR (fun t v h ⟨e,_⟩=>by cases e) fun v h ⟨e1,e2⟩=>?_
 cases e1
 rw[BV]
 have hol:=rb f.params (w0 fns k f)
 have hv:=dy e2
 rw[hol] at hv
 exact .tup (.agg (.keep (by simp) (.one hv (.keep (by simp) .nil))) (.keep (by simp) (.keep (by simp) .nil))) .nil
theorem vL{fns:List Fd}{i:Nat}(h:i<fns.length):fZ fns i (fns.drop i)=if(fnW fns i fns[i]).code=0 then fZ fns (i+1) (fns.drop (i+1)) else(fnW fns i fns[i]).code:=by
 rw[List.drop_eq_getElem_cons h,fZ]
theorem rm(l:List Fd)(hz:aX l≤1073741824):VF Tryz.prog G dS [.agg [.p (fdL l)]] (.p (.int .i64 (cG l))):=by
 refine AC.go lN ?_
 have hll:=bX l
 have hfd:∀l,fdL l= .lst 3 (l.map Fd.cs):=fun _=>rfl
 simp-implicitDefEqProofs[gE]
 refine(io G l (by omega)).use ?_
 by_cases hv:bp l=true
 case neg=>
  have:cG l=1:=if_neg hv
  have hv':bp l=false:=by simpa using hv
  simp-implicitDefEqProofs[hv',this]
 have hc:cG l=fZ l 0 (l.drop 0):=if_pos hv
 rw[hc]
 simp-implicitDefEqProofs[hv]
 refine aO (fun i:Nat=>am 27 [(1,.ptr 0 1 0 0),(3,.p (.int .i64 i))]) (fun _=>[.row 1 [[.p (fdL l)]]]) (fun i=>i≤l.length∧fZ l 0 l=fZ l i (l.drop i)) (fun i=>l.length-i) 0 (by simp) (ab (by simp) (by simp[okO]) (by simp[below])) ?_
 rintro i ⟨hi,he⟩
 simp-implicitDefEqProofs[hfd]
 refine aW (fun h=>?_) (fun h=>?_)
 ·simp at h
  have hg:=List.getElem?_eq_getElem h
  have hd:=vL h
  simp-implicitDefEqProofs[]
  refine(Fk G hg hz).use ?_
  have hrc:=BV l i l[i]
  by_cases h0:(fnW l i l[i]).code=0
  ·rw[if_pos h0] at hd
   simp-implicitDefEqProofs[h0,hrc]
   refine⟨i+1,⟨by omega,by rw[he,hd]⟩,by omega,?_⟩
   refine eY (m:=1) (by omega) (cY rfl rfl (by simp[okO,below])) (by simp[below,hfd,w1 (i:=i) (by omega)])
  ·rw[if_neg h0] at hd
   simp-implicitDefEqProofs[h0,hrc]
   rw[he,hd]
 ·simp at h
  have hie:i=l.length:=by omega
  subst hie
  rw[List.drop_length] at he
  simp-implicitDefEqProofs[]
  rw[he];rfl
end Go.Proofs.YtnjbhgpbgmpkcaaGreatDoor
namespace Go.Proofs.YtnjbhgpbgmpkcaaGreatDoor
open Go Go.Aw
set_option maxRecDepth 100000
set_option maxHeartbeats 4000000
variable (G:aC)
theorem vV(l:List Fd)(hz:aX l≤1073741824):VF Tryz.prog G je [.agg [.p (fdL l)]] (.p (.bool (decide (cG l=0)))):=by
 refine AC.go sB ?_
 simp-implicitDefEqProofs[mc]
 refine(rm G l hz).use ?_
 simp-implicitDefEqProofs[]
variable (hK:G fM=some fp) (hS:G dj=some [.tbl opK opV])
include hK hS
theorem Fw(l:List Fd)(hz:aX l≤1073741824):VF Tryz.prog G kS [.agg [.p (fdL l)]] (.p (.bool (decide (cG l=0)))):=by
 refine AC.go uL ?_
 simp-implicitDefEqProofs[py]
 refine(kT G hK hS l hz).use ?_
 simp-implicitDefEqProofs[]
end Go.Proofs.YtnjbhgpbgmpkcaaGreatDoor
namespace Go.Proofs.YtnjbhgpbgmpkcaaGreatDoor
open Go Go.Aw
set_option maxRecDepth 100000
set_option maxHeartbeats 4000000
abbrev Wds:=List (List UInt8)
mutual
def nmE(op:Int):Ex→Wds→Wds
 | .mk o _ s ks,out=>eq op ks (if o=op∧s∉out then out++[s] else out)
def eq(op:Int):List Ex→Wds→Wds
 |[],out=>out
 |e::r,out=>eq op r (nmE op e out)
end
mutual
def clS:Sm→Wds→Wds
 | .mk _ _ a b e,out=>ep e (ep b (eq 13 a out))
def ep:List Sm→Wds→Wds
 |[],out=>out
 |s::r,out=>ep r (clS s out)
end
def ey(l:List Fd)(bd:List Sm)(k:Nat):List Nat:=(List.range k).filter fun i=>match l[i]? with|some g=>decide (g.name∈ep bd [])|none=>false
def bh(l:List Fd)(k:Int):List Nat:=if cG l=0∧inR k 0 ((l.length:Int)-1)=true then(match l[k.toNat]? with|some f=>ey l f.body k.toNat|none=>[]) else[]
theorem Ft(op:Int)(e:Ex)(out:Wds):nmE op e out=eq op e.kids (if e.op=op∧e.name∉out then out++[e.name] else out):=by cases e;rfl
theorem FM(s:Sm)(out:Wds):clS s out=ep s.els (ep s.body (eq 13 s.args out)):=by cases s;rfl
theorem wn(op:Int):∀(a b:List Ex) (out:Wds),eq op (a++b) out=eq op b (eq op a out)
 |[],b,out=>rfl
 |e::r,b,out=>by rw[List.cons_append,eq,eq,wn op r]
theorem tf{op:Int}{l:List Ex}{out:Wds}{i:Nat}(h:i<l.length):eq op (l.take (i+1)) out=nmE op l[i] (eq op (l.take i) out):=by
 rw[an h,wn];rfl
theorem vM:∀(a b:List Sm) (out:Wds),ep (a++b) out=ep b (ep a out)
 |[],b,out=>rfl
 |e::r,b,out=>by rw[List.cons_append,ep,ep,vM r]
theorem zt{l:List Sm}{out:Wds}{i:Nat}(h:i<l.length):ep (l.take (i+1)) out=clS l[i] (ep (l.take i) out):=by
 rw[an h,vM];rfl
theorem yU(l:List Ex)(i:Nat):aR (l.take i)≤aR l:=by
 have e:aR l=aR (l.take i)+aR (l.drop i):=by rw[←cF,List.take_append_drop]
 omega
theorem yx{l:List Ex}{i:Nat}(h:i<l.length):aR (l.take i)+l[i].sz≤aR l:=by
 have e:aR l=aR (l.take i)+aR (l.drop i):=by rw[←cF,List.take_append_drop]
 rw[List.drop_eq_getElem_cons h] at e
 simp only[aR] at e
 omega
mutual
theorem Ee(op:Int):∀(e:Ex) (out:Wds),(nmE op e out).length≤out.length+e.sz
 | .mk o _ s ks,out=>by
   have h:=kC op ks (if o=op∧s∉out then out++[s] else out)
   have h2:(if o=op∧s∉out then out++[s] else out).length≤out.length+1:=by split<;>simp
   rw[nmE,Ex.sz];omega
theorem kC(op:Int):∀(l:List Ex) (out:Wds),(eq op l out).length≤out.length+aR l
 |[],out=>by simp[eq,aR]
 |e::r,out=>by
  have h1:=Ee op e out
  have h2:=kC op r (nmE op e out)
  rw[eq,aR];omega
end
mutual
theorem Dp:∀(s:Sm) (out:Wds),(clS s out).length≤out.length+s.sz
 | .mk _ _ a b e,out=>by
   have h1:=kC 13 a out
   have h2:=jt b (eq 13 a out)
   have h3:=jt e (ep b (eq 13 a out))
   rw[clS,Sm.sz];omega
theorem jt:∀(l:List Sm) (out:Wds),(ep l out).length≤out.length+aq l
 |[],out=>by simp[ep,aq]
 |s::r,out=>by
  have h1:=Dp s out
  have h2:=jt r (clS s out)
  rw[ep,aq];omega
end
def K_spec_l2Names:AK:= .seq (.reg [oJ 3 (.box 4 (.t 0)),oJ 6 (.mov (.c .nils))]) (.cut (.seq (.reg [oF 8 0 3,oL 9 8,oM 10 1,oJ 11 (.bin .eql (.t 9) (.t 10)),oM 12 11,⟨(some 13),some (12,true),.mov (.t 2)⟩,⟨(some 14),some (12,true),.fldA 2 (.t 3)⟩,⟨(some 15),some (12,true),.ld none (.t 14)⟩,⟨(some 16),some (12,true),.call fw [(.t 13),(.t 15)]⟩,⟨(some 17),some (12,true),.not (.t 16)⟩,oJ 18 (.pick (.t 12) (.t 17) (.c (.p (.bool false))))]) (.cond (.t 18) (.reg [oM 19 2,oF 20 2 3,oL 21 20,oJ 22 (.bsl 1 [(.p (.str []))] 1 [(0,1,(.t 21))]),oJ 23 (.app 1 16 (.t 19) (.t 22)),oM 2 23]) (.skip))) (.seq (.seq (.reg [oK 7 0]) (.blk 0 (.loop (.seq (.seq (.reg [oM 24 7,oF 25 3 3,oL 26 25,oJ 27 (.len false (.t 26)),oJ 28 (.bin .lss (.t 24) (.t 27))]) (.cond (.t 28) (.skip) (.exit 0))) (.seq (.blk 1 (.reg [oF 31 3 3,oL 32 31,oM 33 7,oJ 34 (.idxS 4 (.t 32) (.t 33)),oJ 35 (.ld (some 4) (.t 34)),oM 36 1,oM 37 2,oJ 38 (.call cU [(.t 35),(.t 36),(.t 37)]),oM 2 38])) (.reg [oM 29 7,oJ 30 (.bin .add (.t 29) (.c (.p (.int .i64 1)))),oM 7 30])))))) (.seq (.reg [oM 39 2,oM 6 39]) (.ret))))
theorem qU:K_spec_l2Names.whole=F_spec_l2Names.ak:=rfl
variable (G:aC)
theorem ul(l:Wds)(s:List UInt8)(hl:l.length≤1099511627776):VF Tryz.prog G fw [.p (az l),.p (.str s)] (.p (.bool (decide (s∈l)))):=by
 refine AC.go uk ?_
 have hsl:∀l,az l= .lst 1 (l.map fun w=>[.str w]):=fun _=>rfl
 simp-implicitDefEqProofs[nI,hsl]
 refine aO (fun i:Nat=>am 18 [(0,.p (az l)),(1,.p (.str s)),(5,.p (.int .i64 i))]) (fun _=>[]) (fun i=>i≤l.length∧s∉l.take i) (fun i=>l.length-i) 0 (by simp) (cJ rfl (by simp[below,hsl])) ?_
 rintro i ⟨hi,hn⟩
 simp-implicitDefEqProofs[hsl]
 refine aW (fun h=>?_) (fun h=>?_)
 ·simp at h
  have hg:=List.getElem?_eq_getElem h
  have hmem:=List.getElem_mem h
  have htk:=an h
  generalize l[i]=w at hg hmem htk
  by_cases he:w=s
  ·have hm:s∈l:=he▸hmem
   simp-implicitDefEqProofs[hg,he,hm]
  ·simp-implicitDefEqProofs[hg,he]
   refine⟨i+1,⟨h,fun hp=>?_⟩,by omega,cJ rfl (by simp[below,hsl,w1 (i:=i) (by omega)])⟩
   rw[htk] at hp
   rcases List.mem_append.1 hp with hp|hp
   ·exact hn hp
   ·rw[List.mem_singleton] at hp;exact he hp.symm
 ·simp at h
  rw[List.take_of_length_le h] at hn
  simp-implicitDefEqProofs[hn]
theorem qN{f:FuncId}{args:List AV}{l l':Wds}(H:AC Tryz.prog G f (args++[.sl 0 1 0 l.length]) [bC l] fun x h=>x= .ret (.sl 1 1 0 l'.length)∧h=[.dead,bC l'])(ha:ah 0 args){h:List AO}{id:Nat}(e:h[id]?=some (bC l)):
 AC Tryz.prog G f (args++[.sl id 1 0 l.length]) h fun x h'=>x= .ret (.sl h.length 1 0 l'.length)∧h'=h.set id .dead++[bC l']:=by
 have hTW:TW [id] (args++[.sl id 1 0 l.length]) (args++[.sl 0 1 0 l.length]):=by
  clear H
  induction args with
  |nil=>simp[below,ren]
  |cons v r ih=>
   rw[List.cons_append,List.cons_append,oh]
   refine⟨.inr ⟨(aL (Nat.zero_le _) [v] ⟨ha.1,trivial⟩).1,?_⟩,ih ha.2⟩
   have:=cV [id] [v] ⟨ha.1,trivial⟩
   simpa[aZ] using this
 refine(H.frame [id] (by simp) hTW (bs e (fun x hx=>bm l x hx) bq)).mono ?_
 rintro x h' ⟨x0,h0,⟨rfl,rfl⟩,_,rfl,rfl⟩
 refine⟨?_,?_⟩
 ·simp[sj,ren]
 ·have hp:∀σ,eK σ (bC l')=bC l':=fun σ=>by simp[bC,eK,aZ,ren]
  simp only[List.length_cons,List.length_nil,List.take_succ_cons,List.take_zero,List.map_cons,List.map_nil,List.drop_succ_cons,List.drop_zero,hp,mrg]
  rfl
theorem zg:∀(N:Nat) (e:Ex),e.sz≤N→∀(op:Int) (out:Wds),out.length+e.sz≤1099511627776→
 AC Tryz.prog G cU [.agg (e.cs.map .p),.p (.int .i64 op),.sl 0 1 0 out.length] [bC out] fun x h=>x= .ret (.sl 1 1 0 (nmE op e out).length)∧h=[.dead,bC (nmE op e out)]:=by
 intro N
 induction N with
 |zero=>intro e he;have:=e.sz_eq;omega
 |succ N ih=>
  intro e he op out hb
  have hec:=e.cs_eq
  have hsz:=e.sz_eq
  have hkl:=bF e.kids
  rw[Ft]
  have key:AC Tryz.prog G cU [.agg (e.cs.map .p),.p (.int .i64 op),.sl 0 1 0 out.length] [bC out] fun x h=>∃r,∃out',out'=eq op e.kids (if e.op=op∧e.name∉out then out++[e.name] else out)∧x= .ret (.sl 2 1 0 out'.length)∧h= .dead::r::[bC out']:=by
   refine AC.goK se qU ?_
   have hso:∀l,bC l= .row 1 (l.map fun n=>[.p (.str n)]):=fun _=>rfl
   have hbox:∀o:AO,o= .row 4 [[.p (.int .i64 e.op),.p (.int .i64 e.n),.p (.str e.name),.p (exL e.kids)]]→okO 0 o:=fun o h=>by rw[h];simp[okO,below]
   simp-implicitDefEqProofs[K_spec_l2Names,F_spec_l2Names,hec]
   obtain⟨out1,ho1⟩:∃out1,out1=(if e.op=op∧e.name∉out then out++[e.name] else out):=⟨_,rfl⟩
   rw[←ho1]
   have hol1:out1.length≤out.length+1:=by rw[ho1];split<;>simp
   refine ji (am 40 [(1,.p (.int .i64 op)),(2,.sl 2 1 0 out1.length),(3,.ptr 1 4 0 0)]) [.dead,.row 4 [[.p (.int .i64 e.op),.p (.int .i64 e.n),.p (.str e.name),.p (exL e.kids)]],bC out1] ?_ ?_
   ·by_cases ho:e.op=op
    ·by_cases hm:e.name∈out
     ·have h1:out1=out:=by rw[ho1,if_neg (fun h=>h.2 hm)]
      simp-implicitDefEqProofs[ho]
      refine((ul G out e.name (by omega)).lend (.one (dy rfl) (.keep (by simp) .nil)) rfl).mono ?_
      rintro r h ⟨rfl,rfl⟩
      simp-implicitDefEqProofs[aa,hm]
      rw[h1]
      exact nD [0,1,0] (by simp) (by decide) (by simp[eV,bC]) (bD (by simp) (bs rfl (by simp[okO]) (bs rfl (fun x hx=>bm out x hx) bq))) (by simp[below,ren])
     ·have h1:out1=out++[e.name]:=by rw[ho1,if_pos ⟨ho,hm⟩]
      simp-implicitDefEqProofs[ho]
      refine((ul G out e.name (by omega)).lend (.one (dy rfl) (.keep (by simp) .nil)) rfl).mono ?_
      rintro r h ⟨rfl,rfl⟩
      simp-implicitDefEqProofs[aa,hm,hso]
      refine⟨by omega,?_⟩
      have htk:List.take out.length (out.map fun n=>[AV.p (.str n)])=out.map fun n=>[AV.p (.str n)]:=List.take_of_length_le (by simp)
      have hl1:out1.length=out.length+1:=by rw[h1];simp
      rw[hl1,htk]
      refine cQ [0,1,3] (by simp) (by decide) (by decide) (bD (by simp) (bs rfl (by simp[okO]) (bs ?_ (fun x hx=>bm out1 x hx) bq))) (by simp[below,ren])
      rw[h1];simp
    ·have h1:out1=out:=by rw[ho1,if_neg (fun h=>ho h.1)]
     simp-implicitDefEqProofs[ho]
     rw[h1]
     exact nD [0,1,0] (by simp) (by decide) (by simp[eV,bC]) (bD (by simp) (bs rfl (by simp[okO]) (bs rfl (fun x hx=>bm out x hx) bq))) (by simp[below,ren])
   have hxl:exL e.kids= .lst 4 (e.kids.map Ex.cs):=rfl
   simp-implicitDefEqProofs[]
   refine aO (fun i:Nat=>am 40 [(1,.p (.int .i64 op)),(2,.sl 2 1 0 (eq op (e.kids.take i) out1).length),(3,.ptr 1 4 0 0),(7,.p (.int .i64 i))])
    (fun i=>[.dead,.row 4 [[.p (.int .i64 e.op),.p (.int .i64 e.n),.p (.str e.name),.p (exL e.kids)]],bC (eq op (e.kids.take i) out1)])
    (fun i=>i≤e.kids.length) (fun i=>e.kids.length-i) 0 (by simp) ?_ ?_
   ·exact ab (by simp) (ag trivial (ag (ce (hbox _ rfl)) (ag (ce (bm _)) cH))) (by simp[below,eq])
   ·intro i hi
    have hl2:=kC op (e.kids.take i) out1
    have hzt:=yU e.kids i
    simp-implicitDefEqProofs[hxl]
    refine aW (fun h=>?_) (fun h=>?_)
    ·simp at h
     have hg:=List.getElem?_eq_getElem h
     have hks:=bN (List.getElem_mem h)
     have hT:=tf (op:=op) (out:=out1) h
     have hzt2:=yx h
     generalize hcur:eq op (e.kids.take i) out1=cur at hl2 hT
     generalize e.kids[i]=c at hg hks hT hzt2
     simp-implicitDefEqProofs[hg]
     refine(qN G (args:=[.agg (c.cs.map .p),.p (.int .i64 op)]) (ih c (by omega) op cur (by omega)) (by simp[below]) (id:=2) rfl).mono ?_
     rintro r h ⟨rfl,rfl⟩
     simp-implicitDefEqProofs[aa]
     refine⟨i+1,h,by omega,?_⟩
     rw[hT]
     exact cQ [0,1,3] (by simp) (by decide) (by decide) (bD (by simp) (bs rfl (by simp[okO]) (bs rfl (fun x hx=>bm _ x hx) bq))) (by simp[below,ren,w1 (i:=i) (by omega)])
    ·simp at h
     have hie:i=e.kids.length:=by omega
     subst hie
     rw[List.take_length]
     simp-implicitDefEqProofs[]
  refine key.wk (fun t v h ⟨_,_,_,e,_⟩=>by cases e) ?_
  rintro v h ⟨r,out',rfl,e,rfl⟩
  cases e
  exact⟨_,_,Wk.of [0,2] (by simp) (fun i hi=>by simp at hi;subst hi;rfl) (by decide) (by simp[below,ren]) (bD (by simp) (bs rfl (fun x hx=>bm _ x hx) bq)),rfl,rfl⟩
theorem zl:∀(N:Nat) (l:List Sm),aq l<N→∀out:Wds,out.length+aq l≤1099511627776→
 AC Tryz.prog G dE [.p (smL l),.sl 0 1 0 out.length] [bC out] fun x h=>x= .ret (.sl 1 1 0 (ep l out).length)∧h=[.dead,bC (ep l out)]:=by
 intro N
 induction N with
 |zero=>intro l hl;omega
 |succ N ih=>
  intro l hl out hb
  have hll:=bV l
  have hsl:∀l,smL l= .lst 5 (l.map Sm.cs):=fun _=>rfl
  have hxl:∀l,exL l= .lst 4 (l.map Ex.cs):=fun _=>rfl
  refine AC.go qH ?_
  simp-implicitDefEqProofs[kN]
  refine aO (fun i:Nat=>am 47 [(0,.p (smL l)),(1,.sl 1 1 0 (ep (l.take i) out).length),(5,.p (.int .i64 i))]) (fun i=>[.dead,bC (ep (l.take i) out)]) (fun i=>i≤l.length) (fun i=>l.length-i) 0 (by simp) ?_ ?_
  ·exact nD [0,0] (by simp) (by simp) (by simp[eV,bC]) (bD (by simp) (bs rfl (fun x hx=>bm out x hx) bq)) (by simp[below,ren,ep,hsl])
  ·intro i hi
   have hl2:=jt (l.take i) out
   simp-implicitDefEqProofs[hsl]
   refine aW (fun h=>?_) (fun h=>?_)
   ·simp at h
    have hg:=List.getElem?_eq_getElem h
    have hat:=yb h
    have hT:=zt (out:=out) h
    have hse:=l[i].cs_eq
    have hsz:=l[i].sz_eq
    have hcl:=FM l[i]
    generalize ep (l.take i) out=cur at hl2 hT⊢
    generalize l[i]=s at hg hat hT hse hsz hcl
    obtain⟨o,nme,a,bd,el⟩:=s
    simp only[Sm.op,Sm.name,Sm.args,Sm.body,Sm.els] at hse hsz hcl
    simp-implicitDefEqProofs[]
    refine aO (fun j:Nat=>am 47 [(0,.p (smL l)),(1,.sl 1 1 0 (eq 13 (a.take j) cur).length),(5,.p (.int .i64 i)),(6,.p (.int .i64 j))]) (fun j=>[.dead,bC (eq 13 (a.take j) cur)]) (fun j=>j≤a.length) (fun j=>a.length-j) 0 (by simp) ?_ ?_
    ·exact ab (by simp) (ag trivial (ag (ce (bm _)) cH)) (by simp[below,eq,hsl])
    ·intro j hj
     have hl3:=kC 13 (a.take j) cur
     have hal:=bF a
     simp-implicitDefEqProofs[hsl,hg,hse,hxl]
     refine aW (fun hc=>?_) (fun hc=>?_)
     ·simp at hc
      have hga:=List.getElem?_eq_getElem hc
      have hzt:=yx hc
      have hT2:=tf (op:=13) (out:=cur) hc
      generalize eq 13 (a.take j) cur=cj at hl3 hT2⊢
      generalize a[j]=c at hga hzt hT2
      simp-implicitDefEqProofs[hg,hse,hsl,hxl,hga]
      refine(qN G (args:=[.agg (c.cs.map .p),.p (.int .i64 13)]) (zg G c.sz c (Nat.le_refl _) 13 cj (by omega)) (by simp[below]) (id:=1) rfl).mono ?_
      rintro r h ⟨rfl,rfl⟩
      simp-implicitDefEqProofs[aa]
      refine⟨j+1,hc,by omega,?_⟩
      rw[hT2]
      exact cQ [0,2] (by simp) (by decide) (by decide) (bD (by simp) (bs rfl (fun x hx=>bm _ x hx) bq)) (by simp[below,ren,hsl,w1 (i:=j) (by omega)])
     ·simp at hc
      have hje:j=a.length:=by omega
      subst hje
      rw[List.take_length] at hl3⊢
      have hl4:=jt bd (eq 13 a cur)
      simp-implicitDefEqProofs[hg,hse]
      refine(qN G (args:=[.p (smL bd)]) (ih bd (by omega) (eq 13 a cur) (by omega)) (by simp[below]) (id:=1) rfl).mono ?_
      rintro r h ⟨rfl,rfl⟩
      simp-implicitDefEqProofs[aa,hg,hse,hsl]
      refine(qN G (args:=[.p (smL el)]) (ih el (by omega) (ep bd (eq 13 a cur)) (by omega)) (by simp[below]) (id:=2) rfl).mono ?_
      rintro r h ⟨rfl,rfl⟩
      simp-implicitDefEqProofs[aa]
      refine⟨i+1,h,by omega,?_⟩
      rw[hT,hcl]
      exact cQ [0,3] (by simp) (by decide) (by decide) (bD (by simp) (bs rfl (fun x hx=>bm _ x hx) bq)) (by simp[below,ren,hsl,w1 (i:=i) (by omega)])
   ·simp at h
    have hie:i=l.length:=by omega
    subst hie
    rw[List.take_length]
    simp-implicitDefEqProofs[]
def dd(l:List Fd)(bd:List Sm)(i:Nat):List Nat:=(List.range i).filter fun i=>match l[i]? with|some g=>decide (g.name∈ep bd [])|none=>false
theorem tQ(l:List Fd)(bd:List Sm)(i:Nat)(g:Fd)(hg:l[i]?=some g):dd l bd (i+1)=if g.name∈ep bd [] then dd l bd i++[i] else dd l bd i:=by
 rw[dd,List.range_succ,List.filter_append]
 simp only[List.filter_cons,List.filter_nil,hg]
 by_cases h:g.name∈ep bd []
 ·simp[h,dd]
 ·simp[h,dd]
theorem pE(l:List Fd)(bd:List Sm)(i:Nat):(dd l bd i).length≤i:=by
 have:=List.length_filter_le (fun i=>match l[i]? with|some g=>decide (g.name∈ep bd [])|none=>false) (List.range i)
 rw[List.length_range] at this
 exact this
theorem xz{fns:List Fd}{k:Nat}{f:Fd}(hk:fns[k]?=some f)(hz:aX fns≤1073741824):VF Tryz.prog G eF [.agg [.p (fdL fns)],.p (.int .i64 k)] (.p (zJ (ey fns f.body k))):=by
 have hfl:=bX fns
 have hfm:=dJ (List.mem_of_getElem? hk)
 have hfz:f.sz=1+f.name.length+(f.params.length+(f.params.map List.length).sum)+aq f.body:=rfl
 have hkl:=(List.getElem?_eq_some_iff.1 hk).1
 have hcn:ey fns f.body k=dd fns f.body k:=rfl
 have hlc:=jt f.body []
 have key:AC Tryz.prog G eF [.agg [.p (fdL fns)],.p (.int .i64 k)] [] fun x h=>x= .ret (.sl 3 1 0 (dd fns f.body k).length)∧h[3]?=some (uc (dd fns f.body k)):=by
  refine AC.go pZ ?_
  have hfd:∀l,fdL l= .lst 3 (l.map Fd.cs):=fun _=>rfl
  have hcs:f.cs=[.str f.name,az f.params,smL f.body]:=rfl
  have hno:∀l,uc l= .row 1 (l.map fun(n:Nat)=>[.p (.int .i64 (n:Int))]):=fun _=>rfl
  simp-implicitDefEqProofs[jV,hfd,hk,hcs]
  have hst0:AO.row 1 []=bC []:=rfl
  refine(qN G (args:=[.p (smL f.body)]) (l:=[]) (zl G (aq f.body+1) f.body (by omega) [] (by simp;omega)) (by simp[below]) (id:=1) rfl).mono ?_
  rintro r h ⟨rfl,rfl⟩
  simp-implicitDefEqProofs[aa]
  generalize hnm:ep f.body []=nm at hlc
  refine aO (fun i:Nat=>am 35 [(1,.p (.int .i64 k)),(2,.ptr 0 1 0 0),(5,.sl 2 1 0 nm.length),(6,.sl 3 1 0 (dd fns f.body i).length),(7,.p (.int .i64 i))]) (fun i=>[.row 1 [[.p (.lst 3 (fns.map Fd.cs))]],.dead,bC nm,uc (dd fns f.body i)]) (fun i=>i≤k) (fun i=>k-i) 0 (by simp) ?_ ?_
  ·exact ab (h:=[.row 1 [[.p (.lst 3 (fns.map Fd.cs))]],.dead,bC nm,.row 1 []]) (by simp) (ag (by simp[okO,below]) (ag trivial (ag (ce (bm _)) (ag (by simp[okO]) cH)))) (by simp[below,dd])
  ·intro i hi
   have hcl:=pE fns f.body i
   simp-implicitDefEqProofs[]
   refine aW (fun h=>?_) (fun h=>?_)
   ·simp at h
    have hil:i<fns.length:=by omega
    have hg:=List.getElem?_eq_getElem hil
    generalize fns[i]=g at hg
    have hS:=tQ fns f.body i g hg
    rw[hnm] at hS
    have hgs:g.cs=[.str g.name,az g.params,smL g.body]:=rfl
    simp-implicitDefEqProofs[hg,hgs]
    refine((ul G nm g.name (by simp at hlc;omega)).lend (.one (dy rfl) (.keep (by simp) .nil)) rfl).mono ?_
    rintro r h ⟨rfl,rfl⟩
    generalize dd fns f.body i=c at hcl hS⊢
    by_cases hm:g.name∈nm
    ·rw[if_pos hm] at hS
     simp-implicitDefEqProofs[aa,hm,hno]
     refine⟨by omega,i+1,h,by omega,?_⟩
     have htk:List.take c.length (c.map fun(n:Nat)=>[AV.p (.int .i64 (n:Int))])=c.map fun(n:Nat)=>[AV.p (.int .i64 (n:Int))]:=List.take_of_length_le (by simp)
     rw[hS,htk,List.map_append]
     refine vn [0,1,2,5] rfl (by decide) (bf rfl (by simp) (bD (by simp) (bs rfl (fun x hx=>bm _ x hx) (bf rfl (fun x hx=>?_) bq)))) (by simp[below,ren,w1 (i:=i) (by omega)])
     rcases List.mem_append.1 hx with h|h
     ·exact pg _ x h
     ·exact pg _ x h
    ·rw[if_neg hm] at hS
     simp-implicitDefEqProofs[aa,hm]
     refine⟨i+1,h,by omega,?_⟩
     rw[hS]
     exact ab (h:=[.row 1 [[.p (.lst 3 (fns.map Fd.cs))]],.dead,bC nm,uc c]) (by simp) (ag (by simp[okO,below]) (ag trivial (ag (ce (bm _)) (ag (ce (pg _)) cH)))) (by simp[below,w1 (i:=i) (by omega)])
   ·simp at h
    have hie:i=k:=by omega
    subst hie
    simp-implicitDefEqProofs[]
 rw[hcn]
 refine key.freezeR (fun t v h ⟨e,_⟩=>by cases e) fun v h ⟨e1,e2⟩=>?_
 cases e1
 exact .one (ti e2) .nil
theorem rj(l:List Fd)(hz:aX l≤1073741824)(k:Int):VF Tryz.prog G bR [.agg [.p (fdL l)],.p (.int .i64 k)] (.p (zJ (bh l k))):=by
 have hll:=bX l
 have hfl:fdL l= .lst 3 (l.map Fd.cs):=rfl
 have hw:IntKind.i64.wrap ((l.length:Int)-1)=(l.length:Int)-1:=af (by omega) (by omega)
 by_cases hc:cG l=0∧inR k 0 ((l.length:Int)-1)=true
 case neg=>
  have hcb:bh l k=[]:=if_neg hc
  rw[hcb]
  have key:AC Tryz.prog G bR [.agg [.p (fdL l)],.p (.int .i64 k)] [] fun x h=>x= .ret (.sl 1 1 0 0)∧h[1]?=some (uc []):=by
   refine AC.go ke ?_
   simp-implicitDefEqProofs[gw]
   refine(vV G l hz).use ?_
   by_cases h0:cG l=0
   case neg=>
    simp-implicitDefEqProofs[h0,uc]
   simp-implicitDefEqProofs[h0,hfl,hw]
   rw[←hfl]
   refine(mG G _ _ _).use ?_
   have h1':inR k 0 ((l.length:Int)-1)=false:=by
    cases e:inR k 0 ((l.length:Int)-1) with
    |false=>rfl
    |true=>exact absurd ⟨h0,e⟩ hc
   rw[h1']
   simp-implicitDefEqProofs[uc]
  refine key.freezeR (fun t v h ⟨e,_⟩=>by cases e) fun v h ⟨e1,e2⟩=>?_
  cases e1
  exact .one (ti e2) .nil
 obtain⟨h0,h1⟩:=hc
 have hk:0≤k∧k≤(l.length:Int)-1:=by simpa[inR] using h1
 obtain⟨n,rfl⟩:∃n:Nat,k=n:=⟨k.toNat,by omega⟩
 have hn:n<l.length:=by omega
 have hg:=List.getElem?_eq_getElem hn
 have hcb:bh l n=ey l l[n].body n:=by rw[bh,if_pos ⟨h0,h1⟩];simp only[Int.toNat_natCast,hg]
 rw[hcb]
 refine AC.go ke ?_
 simp-implicitDefEqProofs[gw]
 refine(vV G l hz).use ?_
 simp-implicitDefEqProofs[h0,hfl,hw]
 rw[←hfl]
 refine(mG G _ _ _).use ?_
 rw[h1]
 simp-implicitDefEqProofs[]
 refine(xz G hg hz).use ?_
 simp-implicitDefEqProofs[]
end Go.Proofs.YtnjbhgpbgmpkcaaGreatDoor
namespace Go.Proofs.YtnjbhgpbgmpkcaaGreatDoor
open Go Go.Aw
set_option maxRecDepth 100000
set_option maxHeartbeats 4000000
theorem qA{xs:List Int}(hp:xs.Pairwise (· ≤ ·)):∀j,j<xs.length→∃i,i≤j∧Lib.keeps xs.toArray i=true∧xs[i]! =xs[j]! :=by
 intro j
 induction j with
 |zero=>intro h;exact⟨0,Nat.le_refl _,Lib.keeps_lt_one _ 0 (by omega),rfl⟩
 |succ j ih=>
  intro h
  by_cases e:xs.toArray[j+1]! =xs.toArray[j+1-1]!
  ·obtain⟨i,h1,h2,h3⟩:=ih (by omega)
   refine⟨i,by omega,h2,?_⟩
   have e':xs[j+1]! =xs[j]! :=by simpa using e
   rw[h3,e']
  ·exact⟨j+1,Nat.le_refl _,Lib.keeps_pos e,rfl⟩
theorem vY(xs:List Int):(Lib.compact xs).length≤xs.length:=by
 unfold Lib.compact Lib.compactUpTo
 rw[List.length_map]
 have:=List.length_filter_le (Lib.keeps xs.toArray) (List.range xs.length)
 rwa[List.length_range] at this
theorem wt{xs:List Int}(hp:xs.Pairwise (· ≤ ·))(x:Int):x∈Lib.compact xs↔x∈xs:=by
 unfold Lib.compact Lib.compactUpTo
 simp only[List.mem_map,List.mem_filter,List.mem_range]
 constructor
 ·rintro⟨j,⟨h1,_⟩,rfl⟩
  have e:xs.toArray[j]! =xs[j]:=by simp[h1]
  rw[e]
  exact List.getElem_mem h1
 ·intro h
  obtain⟨j,hj,rfl⟩:=List.mem_iff_getElem.1 h
  obtain⟨i,h1,h2,h3⟩:=qA hp j hj
  refine⟨i,⟨by omega,h2⟩,?_⟩
  have e:xs.toArray[i]! =xs[i]! :=by simp
  rw[e,h3]
  simp[hj]
theorem xj{xs:List Int}(hp:xs.Pairwise (· ≤ ·)):(Lib.compact xs).Pairwise (· < ·):=by
 unfold Lib.compact Lib.compactUpTo
 rw[List.pairwise_map]
 have hr:((List.range xs.length).filter (Lib.keeps xs.toArray)).Pairwise (· < ·):=List.Pairwise.filter _ List.pairwise_lt_range
 refine List.Pairwise.imp_of_mem (fun{a b} ha hb hab=>?_) hr
 simp only[List.mem_filter,List.mem_range] at ha hb
 obtain⟨hbl,hbk⟩:=hb
 unfold Lib.keeps at hbk
 have hne:xs.toArray[b]! ≠xs.toArray[b-1]! :=by
  rcases of_decide_eq_true hbk with h|h
  ·omega
  ·exact h
 have h1:xs.toArray[b]! =xs[b]:=by simp[hbl]
 have h2:xs.toArray[b-1]! =xs[b-1]:=by simp[show b-1<xs.length by omega]
 have h3:xs.toArray[a]! =xs[a]:=by simp[ha.1]
 rw[h1,h2] at hne
 rw[h1,h3]
 have k1:xs[b-1]≤xs[b]:=List.pairwise_iff_getElem.1 hp (b-1) b (by omega) hbl (by omega)
 have k2:xs[a]≤xs[b-1]:=by
  by_cases e:a=b-1
  ·subst e;exact Int.le_refl _
  ·exact List.pairwise_iff_getElem.1 hp a (b-1) ha.1 (by omega) (by omega)
 omega
theorem yJ(xs:List Int):(xs.mergeSort fun x y=>decide (x≤y)).Pairwise (· ≤ ·):=by
 have:=List.pairwise_mergeSort (le:=fun x y:Int=>decide (x≤y)) (fun a b c h1 h2=>by simp at*;omega) (fun a b=>by simp;omega) xs
 exact this.imp fun h=>by simpa using h
theorem zH{a b:List Int}(ha:a.Pairwise (· < ·))(hb:b.Pairwise (· < ·))(hm:∀x,x∈a↔x∈b):a=b:=by
 refine List.Perm.eq_of_pairwise (le:=(· < ·)) (fun x y _ _ h1 h2=>by omega) ha hb ?_
 exact(List.perm_ext_iff_of_nodup (ha.imp fun h=>by omega) (hb.imp fun h=>by omega)).2 hm
def dh(d:Nat)(bd:List Sm):List Ex:=(aQ d bd).flatMap fun x=>bG x.1.args
def im(l:List Fd)(bd:List Sm):List Int:=((dh 1 bd).filter fun e=>decide (e.op=13)).map fun e=>ixI (bY l e.name)
theorem rE(l:List Fd):∀(es:List Ex) (out:List Int),es.foldl (eQ l) out=out++(es.filter fun e=>decide (e.op=13)).map fun e=>ixI (bY l e.name)
 |[],out=>by simp
 |e::r,out=>by
  rw[List.foldl_cons,rE l r,eQ]
  by_cases h:e.op=13
  ·simp[h]
  ·simp[h]
mutual
theorem Er(op:Int)(s:List UInt8):∀(e:Ex) (out:Wds),s∈nmE op e out↔s∈out∨∃x∈e.pre,x.op=op∧x.name=s
 | .mk o n t ks,out=>by
   rw[nmE,qz op s ks,Ex.pre]
   have hh:(s∈if o=op∧t∉out then out++[t] else out)↔s∈out∨(o=op∧t=s):=by
    split
    ·rename_i h
     simp only[List.mem_append,List.mem_singleton]
     constructor
     ·rintro(h1|h1)
      ·exact .inl h1
      ·exact .inr ⟨h.1,h1.symm⟩
     ·rintro(h1|h1)
      ·exact .inl h1
      ·exact .inr h1.2.symm
    ·rename_i h
     constructor
     ·exact .inl
     ·rintro(h1|⟨h1,h2⟩)
      ·exact h1
      ·rw[←h2];exact Classical.byContradiction fun hn=>h ⟨h1,hn⟩
   rw[hh]
   constructor
   ·rintro((h|⟨h1,h2⟩)|⟨x,h1,h2⟩)
    ·exact .inl h
    ·exact .inr ⟨_,List.mem_cons_self ..,h1,h2⟩
    ·exact .inr ⟨x,List.mem_cons_of_mem _ h1,h2⟩
   ·rintro(h|⟨x,h1,h2,h3⟩)
    ·exact .inl (.inl h)
    ·rcases List.mem_cons.1 h1 with rfl|h1
     ·exact .inl (.inr ⟨h2,h3⟩)
     ·exact .inr ⟨x,h1,h2,h3⟩
theorem qz(op:Int)(s:List UInt8):∀(l:List Ex) (out:Wds),s∈eq op l out↔s∈out∨∃x∈bG l,x.op=op∧x.name=s
 |[],out=>by simp[eq,bG]
 |e::r,out=>by
  rw[eq,qz op s r,Er op s e,bG]
  constructor
  ·rintro((h|⟨x,h1,h2⟩)|⟨x,h1,h2⟩)
   ·exact .inl h
   ·exact .inr ⟨x,List.mem_append_left _ h1,h2⟩
   ·exact .inr ⟨x,List.mem_append_right _ h1,h2⟩
  ·rintro(h|⟨x,h1,h2⟩)
   ·exact .inl (.inl h)
   ·rcases List.mem_append.1 h1 with h1|h1
    ·exact .inl (.inr ⟨x,h1,h2⟩)
    ·exact .inr ⟨x,h1,h2⟩
end
theorem nM(d:Nat)(s:Sm)(r:List Sm):dh d (s::r)=bG s.args++(dh (d+1) s.body++dh (d+1) s.els)++dh d r:=by
 rw[dh,aQ,Sm.pre_eq,List.flatMap_append,List.flatMap_cons,List.flatMap_append];rfl
mutual
theorem Em(s:List UInt8):∀(x:Sm) (d:Nat) (out:Wds),s∈clS x out↔s∈out∨∃e∈bG x.args++(dh (d+1) x.body++dh (d+1) x.els),e.op=13∧e.name=s
 | .mk o n a b el,d,out=>by
   rw[clS,ko s el (d+1),ko s b (d+1),qz]
   simp only[Sm.args,Sm.body,Sm.els,List.mem_append]
   constructor
   ·rintro(((h|⟨x,h1,h2⟩)|⟨x,h1,h2⟩)|⟨x,h1,h2⟩)
    ·exact .inl h
    ·exact .inr ⟨x,.inl h1,h2⟩
    ·exact .inr ⟨x,.inr (.inl h1),h2⟩
    ·exact .inr ⟨x,.inr (.inr h1),h2⟩
   ·rintro(h|⟨x,h1|h1|h1,h2⟩)
    ·exact .inl (.inl (.inl h))
    ·exact .inl (.inl (.inr ⟨x,h1,h2⟩))
    ·exact .inl (.inr ⟨x,h1,h2⟩)
    ·exact .inr ⟨x,h1,h2⟩
theorem ko(s:List UInt8):∀(l:List Sm) (d:Nat) (out:Wds),s∈ep l out↔s∈out∨∃e∈dh d l,e.op=13∧e.name=s
 |[],d,out=>by simp[ep,dh,aQ]
 |x::r,d,out=>by
  rw[ep,ko s r d,Em s x d,nM]
  constructor
  ·rintro((h|⟨x,h1,h2⟩)|⟨x,h1,h2⟩)
   ·exact .inl h
   ·exact .inr ⟨x,List.mem_append_left _ h1,h2⟩
   ·exact .inr ⟨x,List.mem_append_right _ h1,h2⟩
  ·rintro(h|⟨x,h1,h2⟩)
   ·exact .inl (.inl h)
   ·rcases List.mem_append.1 h1 with h1|h1
    ·exact .inl (.inr ⟨x,h1,h2⟩)
    ·exact .inr ⟨x,h1,h2⟩
end
mutual
theorem xI{fns:List Fd}{k:Nat}{vs:List LV}:∀(e:Ex) (c:Int),qh fns k vs e c=0→∀x∈e.pre,x.op=13→∃j,bY fns x.name=some j∧j<k
 | .mk o n t ks,c,h,x,hx,hop=>by
   rw[qh] at h
   rw[Ex.pre] at hx
   have h0:=qV h
   rcases List.mem_cons.1 hx with rfl|hx
   ·have hop':o=13:=hop
    have hz:¬(13:Int)=2:=by omega
    rw[jo,hop',if_neg hz,if_pos rfl,jW] at h0
    show∃j,bY fns t=some j∧j<k
    cases e:bY fns t with
    |none=>rw[e] at h0;simp only[fl] at h0;split at h0<;>omega
    |some j=>
     rw[e] at h0
     simp only[fl] at h0
     refine⟨j,rfl,?_⟩
     by_cases hj:k≤j
     ·rw[if_pos hj] at h0;split at h0<;>omega
     ·omega
   ·exact kZ ks _ h x hx hop
theorem kZ{fns:List Fd}{k:Nat}{vs:List LV}:∀(l:List Ex) (c:Int),bW fns k vs l c=0→∀x∈bG l,x.op=13→∃j,bY fns x.name=some j∧j<k
 |[],c,h,x,hx,_=>by simp[bG] at hx
 |e::r,c,h,x,hx,hop=>by
  rw[bW] at h
  rw[bG] at hx
  rcases List.mem_append.1 hx with hx|hx
  ·exact xI e _ (qV h) x hx hop
  ·exact kZ r _ h x hx hop
end
mutual
theorem yV{fns:List Fd}{k:Nat}:∀(s:Sm) (b d:Nat) (w:WS),(stW fns k b s w).code=0→∀x∈bG s.args++(dh (d+1) s.body++dh (d+1) s.els),x.op=13→∃j,bY fns x.name=some j∧j<k
 | .mk o n a bd el,b,d,w,h,x,hx,hop=>by
   rw[stW] at h
   rw[fU] at h
   have h1:=lA h
   rw[fU] at h1
   have h2:=lA h1
   have h3:=Bu h2
   simp only[Sm.args,Sm.body,Sm.els,List.mem_append] at hx
   rcases hx with hx|hx|hx
   ·exact kZ a _ h3 x hx hop
   ·exact jF bd _ (d+1) _ h1 x hx hop
   ·exact jF el _ (d+1) _ h x hx hop
theorem jF{fns:List Fd}{k:Nat}:∀(l:List Sm) (b d:Nat) (w:WS),(ca fns k b l w).code=0→∀x∈dh d l,x.op=13→∃j,bY fns x.name=some j∧j<k
 |[],b,d,w,h,x,hx,_=>by simp[dh,aQ] at hx
 |s::r,b,d,w,h,x,hx,hop=>by
  rw[ca] at h
  rw[nM] at hx
  rcases List.mem_append.1 hx with hx|hx
  ·exact yV s b d _ (lA h) x hx hop
  ·exact jF r b d _ h x hx hop
end
theorem yQ{vs:List LV}{s:List UInt8}{b:Nat}{c:Int}(h:oH vs s b c=0):c=0:=by
 unfold oH at h
 split at h
 ·exact h
 ·split at h
  ·unfold fl at h;split at h<;>omega
  ·exact h
theorem rk:∀{ps:List (List UInt8)} {w:WS},(cw ps w).code=0→w.code=0
 |[],w,h=>h
 |s::r,w,h=>yQ (rk (ps:=r) (w:=iz w s 0) h)
theorem tk{fns:List Fd}{k:Nat}{f:Fd}(h:(fnW fns k f).code=0):(∀x∈dh 1 f.body,x.op=13→∃j,bY fns x.name=some j∧j<k)∧bY fns f.name=some k:=by
 rw[fnW] at h
 refine⟨jF _ _ 1 _ h,?_⟩
 have h1:(if bY fns f.name=some k then(0:Int) else 2)=0:=rk (lA h)
 split at h1
 ·assumption
 ·omega
def kr(l:List Nat):List Int:=l.map fun(n:Nat)=>(n:Int)
theorem zn{l:List Fd}{k:Nat}{f:Fd}(hc:cG l=0)(hk:l[k]?=some f):Lib.compact ((im l f.body).mergeSort fun x y=>decide (x≤y))=kr (ey l f.body k):=by
 obtain⟨_,hall⟩:=(Di l).1 hc
 obtain⟨hcalls,_⟩:=tk (hall k f hk)
 refine zH (xj (yJ _)) ?_ fun x=>?_
 ·rw[kr,List.pairwise_map,ey]
  exact(List.Pairwise.filter _ List.pairwise_lt_range).imp fun h=>by omega
 rw[wt (yJ _),List.mem_mergeSort,im,kr,ey]
 simp only[List.mem_map,List.mem_filter,List.mem_range,decide_eq_true_eq]
 constructor
 ·rintro⟨e,⟨h1,h2⟩,rfl⟩
  obtain⟨j,h3,h4⟩:=hcalls e h1 h2
  obtain⟨h5,h6,h7⟩:=List.findIdx?_eq_some_iff_getElem.1 h3
  refine⟨j,⟨h4,?_⟩,by rw[h3];rfl⟩
  rw[List.getElem?_eq_getElem h5]
  simp only[decide_eq_true_eq] at h6⊢
  rw[h6]
  exact(ko _ _ 1 _).2 (.inr ⟨e,h1,h2,rfl⟩)
 ·rintro⟨i,⟨h1,h2⟩,rfl⟩
  have hil:i<l.length:=by have:=(List.getElem?_eq_some_iff.1 hk).1;omega
  have hg:=List.getElem?_eq_getElem hil
  rw[hg] at h2
  simp only[decide_eq_true_eq] at h2
  rcases(ko _ _ 1 _).1 h2 with h3|⟨e,h3,h4,h5⟩
  ·simp at h3
  ·obtain⟨_,hself⟩:=tk (hall i _ hg)
   exact⟨e,⟨h3,h4⟩,by rw[h5,hself];rfl⟩
end Go.Proofs.YtnjbhgpbgmpkcaaGreatDoor
namespace Go.Proofs.YtnjbhgpbgmpkcaaGreatDoor
open Go Go.Aw
set_option maxRecDepth 100000
set_option maxHeartbeats 4000000
variable (G:aC)
mutual
def Sm.mq:Sm→Nat
 | .mk _ _ a b e=>2+3*bi a+Db b+Db e
def Db:List Sm→Nat
 |[]=>0
 |s::r=>s.mq+Db r
end
def Fd.mq(f:Fd):Nat:=1+f.params.length+Db f.body
end Go.Proofs.YtnjbhgpbgmpkcaaGreatDoor
namespace Go.Proofs.YtnjbhgpbgmpkcaaGreatDoor
open Go Go.Aw
set_option maxRecDepth 100000
set_option maxHeartbeats 4000000
abbrev Dh:Nat:=0
def DS:List PV:=[.int .i64 0,.int .i64 0,.int .i64 0,.int .i64 1,.int .i64 2,.int .i64 3,.int .i64 255,.int .i64 16,.int .i64 7]
variable (G:aC)
end Go.Proofs.YtnjbhgpbgmpkcaaGreatDoor
namespace Go.Proofs.YtnjbhgpbgmpkcaaGreatDoor
open Go Go.Aw
set_option maxRecDepth 100000
set_option maxHeartbeats 4000000
variable (G:aC)
variable (hT:G Dh=some DS)
include hT
omit hT
theorem zz{h:List AO}{id:Nat}{l:List Int}(e:h[id]?=some (rd l)){n:Nat}(hn:n=l.length):OwnL true h [.sl id 1 0 n] [iZ l] [id]:=by
 subst hn
 have hf:∀l:List Int,OwnL true h (l.map fun w=>[AV.p (.int .i64 w)]).flatten (l.map fun w=>[PV.int .i64 w]).flatten []:=by
  intro l
  induction l with
  |nil=>exact .nil
  |cons w r ih=>exact .p _ (fun _=>rfl) ih
 have:RowOwn true h id 1 (l.map fun w=>[.p (.int .i64 w)]) (l.map fun w=>[.int .i64 w]) []:=⟨e,by simp,by simp,by simp,hf l,by simp⟩
 exact this.tree (by simp)
include hT
end Go.Proofs.YtnjbhgpbgmpkcaaGreatDoor
namespace Go.Proofs.YtnjbhgpbgmpkcaaGreatDoor
open Go Go.Aw
set_option maxRecDepth 100000
set_option maxHeartbeats 4000000
theorem AC.shelfNil{P:Program}{G:aC}{f:FuncId}{h:List AO}{rv:AV}{r:Value}(hf:fv P f=true)(hr:∀(W:World) (S:Nat→Prop) (φ:Aw.Place) (n:Nat),VRel W S φ n rv r)
 (H:∀W:World,Calls P f #[.slice none 0 0] W fun e W'=>e= .returned r∧W'=W):AC P G f [.nils] h fun x h'=>x= .ret rv∧h'=h:=by
 refine⟨hf,fun W S φ vs hH hA=>?_⟩
 have hs1:vs.size=1:=hA.1
 obtain⟨v0,rfl⟩:∃v0,vs=#[v0]:=⟨vs[0],by
  apply Array.ext
  ·simp[hs1]
  ·intro i h1 h2
   have:i=0:=by omega
   subst this;rfl⟩
 have hv:=hA.2 0 _ v0 rfl rfl
 cases hv
 refine(H W).mono ?_
 rintro e W' ⟨rfl,rfl⟩
 exact⟨.ret rv,S,φ,h,⟨rfl,rfl⟩,hH,.ret _ _ (hr _ _ _ _),Keep.refl hH⟩
theorem pi:∀h:List AO,Cuts h h
 |[]=>trivial
 |_::r=>⟨.inl rfl,pi r⟩
theorem wh:∀{h:List AO} {id sz:Nat} {es:List (List AV)} (k:Nat),h[id]?=some (.row sz es)→Cuts h (h.set id (.row sz (es.take k)))
 |[],_,_,_,_,e=>by simp at e
 |o::r,0,sz,es,k,e=>by
  simp at e;subst e
  exact⟨.inr ⟨sz,es,k,rfl,rfl⟩,pi r⟩
 |o::r,id+1,sz,es,k,e=>⟨.inl rfl,wh k (by simpa using e)⟩
variable (G:aC)
theorem Ab(h:List AO):AC Tryz.prog G (lays189_ren.f 189) [.nils] h fun x h'=>x= .ret (.tup [])∧h'=h:=
 AC.shelfNil (r:= .tuple #[]) (by kernel_rfl) (fun _ _ _ _=> .tup [] #[] rfl (fun j c v e=>by simp at e)) fun W=>Any.slices_Sort_int_none yd none 0 W
theorem tH(h:List AO):AC Tryz.prog G (lays20_ren.f 20) [.nils] h fun x h'=>x= .ret .nils∧h'=h:=
 AC.shelfNil (r:= .slice none 0 0) (by kernel_rfl) (fun _ _ _ _=> .nils) fun W=>Any.slices_Compact_int_empty Cs none 0 W
def rC(l:List Fd)(out:List Int)(x:Sm × Nat):List Int:=(bG x.1.args).foldl (eQ l) out
theorem yA{out:List Int}{a b:Nat}(h:jD out b)(hab:a≤b):jD out a:=by unfold jD at*;omega
theorem sn(l:List Fd):∀out (s:Sm) (d k:Nat),jD out (k+s.own)→jD (rC l out (s,d)) k:=by
 intro out s d k h
 have:=nZ s.args
 exact ll (mF l) s.args out k (yA h (by unfold Sm.own;omega))
theorem uZ(l:List Fd)(hl:l.length≤1073741824):∀out (s:Sm) (d k id:Nat) h,jD out (k+s.own)→s.sz≤1073741824→yW l out id h→
 AC Tryz.prog G cW (.agg (s.cs.map .p):: .p (.int .i64 (d:Nat))::[.ptr 1 1 0 0,.ptr 0 1 0 0]) h fun x h'=>x= .ret (.tup [])∧(cHV cW l).Left id h (rC l out (s,d)) h':=by
 intro out s d k id h hk hz hI
 have hcs:=s.cs_eq
 have hsz:=s.sz_eq
 have hal:=bF s.args
 have hap:=nZ s.args
 have hxl:exL s.args= .lst 4 (s.args.map Ex.cs):=rfl
 have hlen:=(cHV aD l).len hI
 have hn2:2≤h.length:=hlen.1
 have hid:id<h.length:=hlen.2
 have hk0:jD out (k+bi s.args):=yA hk (by unfold Sm.own;omega)
 refine AC.go pf ?_
 simp-implicitDefEqProofs[jn,hcs,hxl]
 refine aO (fun a:HS=>am 19 [(2,.ptr 1 1 0 0),(3,.ptr 0 1 0 0),(9,.p (exL s.args)),(10,.p (.int .i64 s.args.length)),(11,.p (.int .i64 a.i))])
  (fun a=>a.h) (fun a=>a.i≤s.args.length∧yW l ((bG (s.args.take a.i)).foldl (eQ l) out) a.id a.h∧h.length<a.h.length∧(∀i,i<h.length→2≤i→i≠id→a.h[i]?=h[i]?)∧(a.id=id∨h.length≤a.id)) (fun a=>s.args.length-a.i) ⟨0,id,h++[.row 5 [[.p (.int .i64 s.op),.p (.str s.name),.p (exL s.args),.p (smL s.body),.p (smL s.els)]]]⟩ ⟨Nat.zero_le _,(cHV aD l).more hI _,by simp,fun i a1 a2 a3=>List.getElem?_append_left a1,.inl rfl⟩ ?_ ?_
 ·exact cd (by simp) (by simp[below,hxl];omega)
 rintro⟨i,idc,hc⟩ ⟨hil,hIc,hlc,hkc,hic⟩
 simp only at hil hIc hlc hkc hic
 simp-implicitDefEqProofs[hxl]
 refine aW (fun hcc=>?_) (fun hcc=>?_)
 ·simp at hcc
  have hg:=List.getElem?_eq_getElem hcc
  have hks:=bN (List.getElem_mem hcc)
  have hkc2:=s.args[i].cs_eq
  have hT:s.args.take (i+1)=s.args.take i++[s.args[i]]:=an hcc
  have hsum:bi s.args=bi (s.args.take i)+(s.args[i].parts+bi (s.args.drop (i+1))):=by
   have e1:bi s.args=bi (s.args.take i)+bi (s.args.drop i):=by rw[←dI,List.take_append_drop]
   have e2:bi (s.args.drop i)=s.args[i].parts+bi (s.args.drop (i+1)):=by rw[List.drop_eq_getElem_cons hcc,bi]
   omega
  have hic2:jD ((bG (s.args.take i)).foldl (eQ l) out) (k+bi (s.args.drop (i+1))+s.args[i].parts):=
   ll (mF l) _ _ _ (by rw[show k+bi (s.args.drop (i+1))+s.args[i].parts+bi (s.args.take i)=k+bi s.args by omega];exact hk0)
  have hA:=fun os=>AM G (cHV aD l) (eQ l) jD 1073741824 (Nat.le_refl _) (mF l) (sR G l hl) 1073741825 s.args[i] (by omega) (by omega) _ _ idc (hc++os) hic2 ((cHV aD l).more hIc os)
  have hf:(bG (s.args.take (i+1))).foldl (eQ l) out=s.args[i].pre.foldl (eQ l) ((bG (s.args.take i)).foldl (eQ l) out):=by
   rw[hT,jh,List.foldl_append,bG,bG,List.append_nil]
  have hF:(cHV aD l).F=aD:=rfl
  have hC:(cHV aD l).caps=[.ptr 1 1 0 0,.ptr 0 1 0 0]:=rfl
  rw[hkc2,hF,hC] at hA
  simp-implicitDefEqProofs[hg,hkc2]
  refine(hA _).mono ?_
  rintro r h3 ⟨rfl,id3,M1,M2,M3,M4⟩
  rw[List.length_append] at M2 M3 M4
  simp only[List.length_cons,List.length_nil] at M2 M3 M4
  have M3':∀i,i<hc.length+(0+1)→2≤i→i≠idc→h3[i]?=_:=M3
  simp-implicitDefEqProofs[aa]
  refine⟨⟨i+1,id3,h3⟩,⟨hcc,by rw[hf];exact M1,by show h.length<h3.length;omega,fun j a1 a2 a3=>?_,?_⟩,by show s.args.length-(i+1)<s.args.length-i;omega,cd (by show h.length≤h3.length;omega) ?_⟩
  ·show h3[j]?=h[j]?
   rw[M3' j (by omega) a2 (by omega),List.getElem?_append_left (by omega),hkc j a1 a2 a3]
  ·show id3=id∨h.length≤id3
   omega
  ·simp[below,hxl,w1 (i:=i) (by omega)]
   omega
 ·simp at hcc
  have hie:i=s.args.length:=by omega
  subst hie
  rw[List.take_length] at hIc
  simp-implicitDefEqProofs[]
  exact⟨idc,hIc,by omega,hkc,by omega⟩
theorem qC(l:List Fd):∀(xs:List (Sm × Nat)) (out:List Int),xs.foldl (rC l) out=(xs.flatMap fun x=>bG x.1.args).foldl (eQ l) out
 |[],out=>rfl
 |x::r,out=>by rw[List.foldl_cons,qC l r,List.flatMap_cons,List.foldl_append];rfl
theorem pP(l:List Fd)(bd:List Sm):(aQ 1 bd).foldl (rC l) []=im l bd:=by
 rw[qC,rE];rfl
def nr(l:List Fd)(bd:List Sm):List Int:=Lib.compact ((im l bd).mergeSort fun x y=>decide (x≤y))
theorem Aa(l:List Fd)(hz:aX l≤1073741824){k:Nat}{f:Fd}(hk:l[k]?=some f):AC Tryz.prog G fk [.agg [.p (fdL l)],.p (.int .i64 k)] [] (MkW cN true [iZ (nr l f.body)]):=by
 have hll:=bX l
 have hfm:=dJ (List.mem_of_getElem? hk)
 have hfz:f.sz=1+f.name.length+(f.params.length+(f.params.map List.length).sum)+aq f.body:=rfl
 have hfl:fdL l= .lst 3 (l.map Fd.cs):=rfl
 have hcs:f.cs=[.str f.name,az f.params,smL f.body]:=rfl
 have hin:∀xs,iG xs=rd xs:=fun _=>rfl
 generalize hS:(im l f.body).mergeSort (fun x y=>decide (x≤y))=S
 have hSl:S.length=(im l f.body).length:=by rw[←hS,List.length_mergeSort]
 have hcl:=vY S
 have hcnt:jD (im l f.body) 0:=by
  rw[←pP]
  exact lD (sn l) f.body 1 [] 0 (by unfold jD;simp;omega)
 have hnum:(im l f.body).length≤1099511627776:=by unfold jD at hcnt;omega
 have key:AC Tryz.prog G fk [.agg [.p (fdL l)],.p (.int .i64 k)] [] fun x h=>(x= .ret .nils∧im l f.body=[])∨∃id t,x= .ret (.sl id 1 0 (Lib.compact S).length)∧h[id]?=some (iG (Lib.compact S++t)):=by
  refine AC.go rt ?_
  simp-implicitDefEqProofs[ku,hfl,hk,hcs]
  refine(BJ G (cHV cW l) (rC l) jD 1073741824 (Nat.le_refl _) (sn l) (fun st s d k id h=>uZ G l (by omega) st s d k id h) 1073741825 f.body (by omega) (by omega) 1 (by omega) [] 0 0 [.row 1 [[.p (fdL l)]],.row 1 [[.nils]]] (by unfold jD;simp;omega) ⟨rfl,by simp,.inl ⟨rfl,rfl,rfl⟩⟩).mono ?_
  rintro r h ⟨rfl,id,L1,L2,L3,L4⟩
  rw[pP] at L1
  obtain⟨h0,h2,⟨hn,rfl,h1⟩|⟨hn,hid,h1,hr⟩⟩:yW l (im l f.body) id h:=L1
  ·simp-implicitDefEqProofs[aa,h1]
   refine(Ab G h).mono ?_
   rintro r h' ⟨rfl,rfl⟩
   simp-implicitDefEqProofs[aa,h1]
   refine(tH G h').mono ?_
   rintro r h'' ⟨rfl,rfl⟩
   simp-implicitDefEqProofs[aa]
   exact hn
  ·have hidl:=(List.getElem?_eq_some_iff.1 hr).1
   simp-implicitDefEqProofs[aa,h1]
   refine(Fv G hr hn (by omega)).mono ?_
   rintro r h' ⟨rfl,rfl⟩
   rw[hS]
   have hne:id≠1:=by omega
   have hC:=zF G (h:=h.set id (iG S)) (id:=id) (xs:=S) (by simp[hidl]) (by intro e;rw[e] at hSl;simp at hSl;exact hn (List.length_eq_zero_iff.1 hSl.symm)) (by omega) hcl
   rw[hSl] at hC
   simp-implicitDefEqProofs[aa,h1,List.getElem?_set_ne hne]
   refine hC.mono ?_
   rintro r h'' ⟨rfl,rfl⟩
   simp-implicitDefEqProofs[aa]
   exact⟨List.replicate ((im l f.body).length-(Lib.compact S).length) 0,by simp[hidl]⟩
 refine key.wk (fun t v h hh=>?_) fun v h hh=>?_
 ·rcases hh with⟨e,_⟩|⟨_,_,e,_⟩<;>cases e
 have hO:nr l f.body=Lib.compact S:=by rw[nr,hS]
 rw[hO]
 rcases hh with⟨e,hn⟩|⟨id,t,e,hid⟩
 ·cases e
  have:S=[]:=by rw[hn] at hSl;exact List.length_eq_zero_iff.1 (by simpa using hSl)
  rw[this]
  exact⟨.nils,h,qn (pi h),[.nils],[],rfl,.nils 1 .nil,List.nodup_nil⟩
 ·cases e
  have hidl:=(List.getElem?_eq_some_iff.1 hid).1
  refine⟨_,_,qn (wh (Lib.compact S).length hid),[.sl id 1 0 (Lib.compact S).length],[id],rfl,zz ?_ rfl,by simp⟩
  rw[List.getElem?_set_self hidl]
  simp[rd,←List.map_take]
end Go.Proofs.YtnjbhgpbgmpkcaaGreatDoor
namespace Go.Proofs.YtnjbhgpbgmpkcaaGreatDoor
open Go Go.Aw
set_option maxRecDepth 100000
set_option maxHeartbeats 4000000
theorem Cg(l:List Nat):zJ l=iZ (kr l):=by simp[zJ,iZ,kr]
theorem vj(l:List Fd)(k:Int):(bh l k).length≤l.length:=by
 unfold bh
 split
 ·rename_i h
  split
  ·rename_i f hf
   have h1:=pE l f.body k.toNat
   have h2:=(List.getElem?_eq_some_iff.1 hf).1
   have:ey l f.body k.toNat=dd l f.body k.toNat:=rfl
   rw[this];omega
  ·simp
 ·simp
variable (G:aC) (hK:G fM=some fp) (hS:G dj=some [.tbl opK opV])
include hK hS
theorem xm(l:List Fd)(hz:aX l≤1073741824)(k:Int):AC Tryz.prog G eC [.agg [.p (fdL l)],.p (.int .i64 k)] [] (MkW cN true [iZ (kr (bh l k))]):=by
 refine AC.go qi ?_
 have hll:=bX l
 have hfl:fdL l= .lst 3 (l.map Fd.cs):=rfl
 have hw:IntKind.i64.wrap ((l.length:Int)-1)=(l.length:Int)-1:=af (by omega) (by omega)
 simp-implicitDefEqProofs[jU]
 refine(Fw G hK hS l hz).use ?_
 by_cases h0:cG l=0
 case neg=>
  have:bh l k=[]:=if_neg (fun h=>h0 h.1)
  rw[this]
  simp-implicitDefEqProofs[h0]
  exact⟨[.nils],[],rfl,.nils 1 .nil,List.nodup_nil⟩
 simp-implicitDefEqProofs[h0,hfl,hw]
 refine(jv G _ _ _).use ?_
 by_cases h1:inR k 0 ((l.length:Int)-1)=true
 case neg=>
  have h1':inR k 0 ((l.length:Int)-1)=false:=by simpa using h1
  have:bh l k=[]:=if_neg (fun h=>h1 h.2)
  rw[h1',this]
  simp-implicitDefEqProofs[]
  exact⟨[.nils],[],rfl,.nils 1 .nil,List.nodup_nil⟩
 have hk:0≤k∧k≤(l.length:Int)-1:=by simpa[inR] using h1
 obtain⟨n,rfl⟩:∃n:Nat,k=n:=⟨k.toNat,by omega⟩
 have hn:n<l.length:=by omega
 have hg:=List.getElem?_eq_getElem hn
 have hc:bh l (n:Int)=ey l l[n].body n:=by
  rw[bh,if_pos ⟨h0,h1⟩];simp only[Int.toNat_natCast,hg]
 have hA:=fun h:List AO=>AC.mkLift jS (Aa G l hz hg) (h:=h) (by simp)
 have hO:nr l l[n].body=kr (ey l l[n].body n):=zn h0 hg
 rw[hO] at hA
 rw[h1,hc]
 generalize kr (ey l l[n].body n)=ys at*
 simp-implicitDefEqProofs[hfl]
 refine(hA _).mono ?_
 rintro x h2 ⟨vs,I,os,rfl,rfl,ho,nd,hf⟩
 obtain⟨v,rfl⟩:=dK ho
 simp-implicitDefEqProofs[aa,cN]
 exact⟨[v],I,rfl,ho,nd⟩
theorem xv(l:List Fd)(hz:aX l≤1073741824)(k:Int):VF Tryz.prog G eC [.agg [.p (fdL l)],.p (.int .i64 k)] (.p (iZ (kr (bh l k)))):=
 AC.mkFreeze (w:=cN) (qs:=[_]) jS (xm G hK hS l hz k)
end Go.Proofs.YtnjbhgpbgmpkcaaGreatDoor
namespace Go.Proofs.YtnjbhgpbgmpkcaaGreatDoor
open Go Go.Aw
set_option maxRecDepth 100000
set_option maxHeartbeats 4000000
def oQ(l:List (List UInt8)):Prop:=l.length≤1000000∧∀s∈l,s.length≤8
theorem dk{h:List AO}{id:Nat}{l:List Ex}(e:h[id]?=some (.row 4 (l.map fun x=>x.cs.map .p))):View h (.sl id 4 0 l.length) (exL l):=by
 have:=gu (h:=h) (id:=id) (sz:=4) (n:=l.length) (ls:=l.map Ex.cs) (by rw[e];simp) (by simp) (fun x hx=>by obtain⟨b,_,rfl⟩:=List.mem_map.1 hx;exact b.cs_len)
 exact this
variable (G:aC)
def ExQ(p n m:Nat)(v:AV)(q:Nat):Prop:=(∃e:Ex,v= .agg (e.cs.map .p)∧e.sz≤n)∧p≤q∧q≤p+m
theorem qF{b:List Int}(hb:Byt b)(hl:b.length≤2000){p:Nat}(hp:p≤1000000000000)(names:List (List UInt8))(hn:oQ names):AC Tryz.prog G cK [.ptr 0 2 0 0,.p (az names)] [rdO b p] fun x h=>∃v q,x= .ret v∧h=[rdO b q]∧ExQ p 9 2 v q:=by
 refine jL G (AC.go ml ?_)
 have hsl:az names= .lst 1 (names.map fun w=>[.str w]):=rfl
 have fin1:∀(o n:Int) (s:List UInt8) (q:Nat) (rest:List AO),p≤q→q≤p+2→s.length≤8→DP b (ExQ p 9 2) (.ret (.agg [.p (.int .i64 o),.p (.int .i64 n),.p (.str s),.nils])) (rdO b q::rest):=fun o n s q rest h1 h2 hs=>
  ⟨_,rest,q,.agg ((Ex.mk o n s []).cs.map .p),rfl,rfl,.agg (.keep (by simp) (.keep (by simp) (.keep (by simp) (.one (View.nils 4) .nil)))) .nil,⟨_,rfl,by simp[Ex.sz,aR];omega⟩,h1,h2⟩
 have num:∀(q:Nat) (h:List AO),q≤1000000000001→h[0]?=some (rdO b q)→h[2]?=some (rd [0,1,2,3,5,7,15,16,100,255])→_:=fun q h hq h0 h1=>iE G hb hl (p:=q) (by omega) [0,1,2,3,5,7,15,16,100,255] (h:=h) (k:=2) (by simp) (by simp) (by omega) h0 h1
 by_cases hne:names=[]
 ·subst hne
  have hs0:az []= .lst 1 []:=rfl
  simp-implicitDefEqProofs[ec,hs0]
  refine(num p _ (by omega) rfl rfl).mono ?_
  rintro r h ⟨n,_,rfl,rfl⟩
  simp-implicitDefEqProofs[aa]
  exact fin1 _ _ _ _ _ (by omega) (by omega) (by simp)
 ·have hlen:¬names.length=0:=fun h=>hne (List.eq_nil_of_length_eq_zero h)
  simp-implicitDefEqProofs[ec,hsl,hne]
  refine(aU G b hb hl p (by omega) 3 _).mono ?_
  rintro r h ⟨k,rfl,rfl,_⟩
  simp-implicitDefEqProofs[aa]
  refine aW (fun hc=>?_) (fun hc=>?_)
  ·simp-implicitDefEqProofs[]
   refine(num (p+1) _ (by omega) rfl rfl).mono ?_
   rintro r h ⟨n,_,rfl,rfl⟩
   simp-implicitDefEqProofs[aa]
   exact fin1 _ _ _ _ _ (by omega) (by omega) (by simp)
  ·simp-implicitDefEqProofs[]
   rw[←hsl]
   refine(yI G hb hl (by omega) names hne (by have:=hn.1;omega) _).mono ?_
   rintro r h ⟨s,hs,rfl,rfl⟩
   have:=hn.2 s hs
   simp-implicitDefEqProofs[aa]
   exact fin1 _ _ _ _ _ (by omega) (by omega) this
theorem sq{b:List Int}(hb:Byt b)(hl:b.length≤2000)(names:List (List UInt8))(hn:oQ names):∀(d:Nat),d≤20→∀{p:Nat},p+6*3^d≤1000000000000→AC Tryz.prog G aT [.ptr 0 2 0 0,.p (az names),.p (.int .i64 d)] [rdO b p] fun x h=>∃v q,x= .ret v∧h=[rdO b q]∧ExQ p (10*3^d) (6*3^d) v q:=by
 intro d
 induction d with
 |zero=>
  intro _ p hp
  refine jL G (AC.go iT ?_)
  simp-implicitDefEqProofs[dw]
  refine(gC G (qF G hb hl (by omega) names hn) _ (by simp[below])).mono ?_
  rintro r h ⟨v,q,rfl,rfl,⟨e,rfl,he⟩,h1,h2⟩
  have hec:=e.cs_eq
  simp-implicitDefEqProofs[aa,hec]
  exact⟨_,_,q,.agg (e.cs.map .p),rfl,rfl,.agg (by rw[hec];exact fy (by simp)) .nil,⟨e,rfl,by omega⟩,h1,by omega⟩
 |succ d ih=>
  intro hd p hp
  have hpow:3^(d+1)=3*3^d:=by rw[Nat.pow_succ];omega
  have h1p:1≤3^d:=Nat.one_le_pow _ _ (by omega)
  have ih:=fun{p:Nat} (hp:p+6*3^d≤1000000000000)=>ih (by omega) (p:=p) hp
  rw[hpow] at hp⊢
  generalize 3^d=t at*
  have hw:IntKind.i64.wrap (d:Int)=(d:Int):=af (by omega) (by omega)
  have leaf:∀(q:Nat) (rest:List AO),p≤q→q≤p+3→AC Tryz.prog G cK [.ptr 0 2 0 0,.p (az names)] (rdO b q::rest) fun x h=>∃v q',x= .ret v∧h=rdO b q'::rest∧ExQ q 9 2 v q':=fun q rest _ _=>gC G (qF G hb hl (by omega) names hn) rest (by simp[below])
  have sub:∀(q:Nat) (rest:List AO),p≤q→q≤p+6+6*t→AC Tryz.prog G aT [.ptr 0 2 0 0,.p (az names),.p (.int .i64 d)] (rdO b q::rest) fun x h=>∃v q',x= .ret v∧h=rdO b q'::rest∧ExQ q (10*t) (6*t) v q':=fun q rest _ _=>gC G (ih (by omega)) rest (by simp[below])
  refine jL G (AC.go iT ?_)
  have leafCase:∀(e:Ex) (q:Nat) (rest:List AO),e.sz≤9→p≤q→q≤p+5→DP b (ExQ p (10*(3*t)) (6*(3*t))) (.ret (.agg (e.cs.map .p))) (rdO b q::rest):=fun e q rest h1 h2 h3=>
   ⟨_,_,q,.agg (e.cs.map .p),rfl,rfl,.agg (by rw[e.cs_eq];exact fy (by simp)) .nil,⟨e,rfl,by omega⟩,h2,by omega⟩
  have bin:∀(o:Int) (e1 e2:Ex) (q:Nat) (rest:List AO) (k:Nat),(rdO b q::rest)[k+1]?=some (.row 4 [e1.cs.map .p,e2.cs.map .p])→e1.sz≤10*t→e2.sz≤10*t→p≤q→q≤p+6*(3*t)→DP b (ExQ p (10*(3*t)) (6*(3*t))) (.ret (.agg [.p (.int .i64 o),.p (.int .i64 0),.p (.str []),.sl (k+1) 4 0 2])) (rdO b q::rest):=fun o e1 e2 q rest k hk h1 h2 h3 h4=>
   ⟨_,rest,q,.agg ((Ex.mk o 0 [] [e1,e2]).cs.map .p),rfl,rfl,.agg (.keep (by simp) (.keep (by simp) (.keep (by simp) (.one (dk (l:=[e1,e2]) (by simpa using hk)) .nil)))) .nil,⟨_,rfl,by simp[Ex.sz,aR];omega⟩,h3,h4⟩
  have una:∀(o:Int) (e1:Ex) (q:Nat) (rest:List AO) (k:Nat),(rdO b q::rest)[k+1]?=some (.row 4 [e1.cs.map .p])→e1.sz≤10*t→p≤q→q≤p+6*(3*t)→DP b (ExQ p (10*(3*t)) (6*(3*t))) (.ret (.agg [.p (.int .i64 o),.p (.int .i64 0),.p (.str []),.sl (k+1) 4 0 1])) (rdO b q::rest):=fun o e1 q rest k hk h1 h3 h4=>
   ⟨_,rest,q,.agg ((Ex.mk o 0 [] [e1]).cs.map .p),rfl,rfl,.agg (.keep (by simp) (.keep (by simp) (.keep (by simp) (.one (dk (l:=[e1]) (by simpa using hk)) .nil)))) .nil,⟨_,rfl,by simp[Ex.sz,aR];omega⟩,h3,h4⟩
  by_cases hd0:d=0
  ·subst hd0
   simp-implicitDefEqProofs[dw]
   refine(leaf p _ (by omega) (by omega)).mono ?_
   rintro r h ⟨v,q,rfl,rfl,⟨e,rfl,he⟩,h1,h2⟩
   have hec:=e.cs_eq
   simp-implicitDefEqProofs[aa,hec]
   have:=leafCase e q [.row 4 [e.cs.map .p]] he h1 (by omega)
   rw[hec] at this
   exact this
  have hd2:¬(d:Int)+1<2:=by omega
  simp-implicitDefEqProofs[dw,hd2]
  refine(aU G b hb hl p (by omega) 4 _).mono ?_
  rintro r h ⟨k1,rfl,rfl,_⟩
  simp-implicitDefEqProofs[aa]
  refine aW (fun hc=>?_) (fun hc=>?_)
  ·simp-implicitDefEqProofs[]
   refine(leaf (p+1) _ (by omega) (by omega)).mono ?_
   rintro r h ⟨v,q,rfl,rfl,⟨e,rfl,he⟩,h1,h2⟩
   have hec:=e.cs_eq
   simp-implicitDefEqProofs[aa,hec]
   have:=leafCase e q [.row 4 [e.cs.map .p]] he (by omega) (by omega)
   rw[hec] at this
   exact this
  simp-implicitDefEqProofs[]
  refine(aU G b hb hl (p+1) (by omega) 7 _).mono ?_
  rintro r h ⟨k2,rfl,rfl,_⟩
  simp-implicitDefEqProofs[aa]
  refine aW (fun hc=>?_) (fun hc=>?_)
  ·simp-implicitDefEqProofs[]
   refine(iE G hb hl (p:=p+2) (by omega) [11,12,11] (k:=2) (by simp) (by simp) (by omega) rfl rfl).mono ?_
   rintro r h ⟨n,_,rfl,rfl⟩
   simp-implicitDefEqProofs[aa,hw]
   refine(sub (p+3) _ (by omega) (by omega)).mono ?_
   rintro r h ⟨v,q,rfl,rfl,⟨e,rfl,he⟩,h1,h2⟩
   have hec:=e.cs_eq
   simp-implicitDefEqProofs[aa,hec]
   exact una n e q _ 2 (by rw[hec];rfl) he (by omega) (by omega)
  ·simp-implicitDefEqProofs[]
   refine(iE G hb hl (p:=p+2) (by omega) [3,3,4,5,6,7,8,9,10] (k:=2) (by simp) (by simp) (by omega) rfl rfl).mono ?_
   rintro r h ⟨n,_,rfl,rfl⟩
   simp-implicitDefEqProofs[aa,hw]
   refine(sub (p+3) _ (by omega) (by omega)).mono ?_
   rintro r h ⟨v,q,rfl,rfl,⟨e,rfl,he⟩,h1,h2⟩
   have hec:=e.cs_eq
   simp-implicitDefEqProofs[aa,hec,hw]
   refine(sub q _ (by omega) (by omega)).mono ?_
   rintro r h ⟨v,q2,rfl,rfl,⟨e2,rfl,he2⟩,h3,h4⟩
   have hec2:=e2.cs_eq
   simp-implicitDefEqProofs[aa,hec2]
   exact bin n e e2 q2 _ 2 (by rw[hec,hec2];rfl) he he2 (by omega) (by omega)
end Go.Proofs.YtnjbhgpbgmpkcaaGreatDoor
