/-
  Contracts and lemmas that the card needs, part 5.
-/
import Derived.Test.YtbnajafpkeficaaGreatDoorLo4
import Derived.Laws.RangeAny
import Derived.Laws.RangeString
namespace Go.Proofs.YtbnajafpkeficaaGreatDoor
open Go Go.Aw
set_option maxRecDepth 100000
set_option maxHeartbeats 4000000
section
structure Mins where (op a b c n:Int)
deriving DecidableEq
def Mins.cs(m:Mins):List PV:=[.int .i64 m.op,.int .i64 m.a,.int .i64 m.b,.int .i64 m.c,.int .i64 m.n]
structure Mfn where (params slots:Int) (ins:List Mins)
deriving DecidableEq
def Mfn.cs(m:Mfn):List PV:=[.int .i64 m.params,.int .i64 m.slots,.lst 5 (m.ins.map Mins.cs)]
@[simp] theorem Mins.cs_len(m:Mins):m.cs.length=5:=rfl
@[simp] theorem Mins.cs_take(m:Mins):List.take 5 (m.cs.map AV.p)=m.cs.map AV.p:=rfl
@[simp] theorem Mfn.cs_len(m:Mfn):m.cs.length=3:=rfl
@[simp] theorem Mfn.cs_take(m:Mfn):List.take 3 (m.cs.map AV.p)=m.cs.map AV.p:=rfl
def bp(l:List Mins):PV:= .lst 5 (l.map Mins.cs)
def bc(l:List Mfn):PV:= .lst 3 (l.map Mfn.cs)
def aN(l:List Int):PV:= .lst 1 (l.map λn=>[.int .u8 n])
variable (G:az)
def szF(fs:List Mfn):Nat:=fs.length+(fs.map (·.ins.length)).sum
def szT(fs:List Mfn)(i:Nat):Nat:=((fs.take i).map (·.ins.length)).sum
theorem mi{fs:List Mfn}{i:Nat}(h:i<fs.length):szT fs (i+1)=szT fs i+fs[i].ins.length:=by
 simp only[szT]
 rw[List.take_add_one,List.getElem?_eq_getElem h]
 simp only[Option.toList_some,List.map_append,List.sum_append,List.map_cons,List.map_nil,List.sum_cons,List.sum_nil,Nat.add_zero]
theorem DC{fs:List Mfn}{i:Nat}(h:fs.length<=i):szT fs i=(fs.map (·.ins.length)).sum:=by rw[szT,List.take_of_length_le h]
theorem pp{fs:List Mfn}:∀{i:Nat},szT fs i<=(fs.map (·.ins.length)).sum:=λ{i}=>by
 rw[←List.take_append_drop i fs,List.map_append,List.sum_append]
 simp[szT]
@[simp] theorem MF(fs:List Mfn):szT fs 0=0:=by simp[szT]
theorem HC(x y:Mins):VF Tryz.prog G ka [.agg (x.cs.map .p),.agg (y.cs.map .p)] (.p (.bool (decide (x=y)))):=by
 refine AC.enter yn ?_
 simp-implicitDefEqProofs[nU,Mins.cs,List.replicate]
 refine cnd (λh e=>?_) λh=>cnd (λh e=>?_) λh=>cnd (λh e=>?_) λh=>cnd (λh e=>?_) λh=>cnd (λh e=>?_) λh=>?_
 all_goals simp_all
 cases x;cases y;simp_all
theorem Fb(xs ys:List Mins)(hb:xs.length<=1048576):VF Tryz.prog G iJ [.p (bp xs),.p (bp ys)] (.p (.bool (decide (xs=ys)))):=by
 refine AC.enter vB ?_
 simp-implicitDefEqProofs[mW,List.replicate,bp]
 refine cnd (λh e=>?_) λh=>?_
 ·simp_all
 refine aw (λi:Nat=>slots 27 [(0,.p (bp xs)),(1,.p (bp ys)),(5,.p (.int .i64 i))]) (λ_=>[]) (λi=>i<=xs.length/\xs.take i=ys.take i) (λi=>xs.length-i) 0 (by simp) (oR rfl (by simp[slots,List.replicate,bp])) ?_
 intro i ⟨hi,he⟩
 simp-implicitDefEqProofs[slots,List.replicate,bp]
 simp at h
 refine cnd (λh1=>?_) (λh1=>?_)
 ·simp at h1
  have h2:i<ys.length:=by omega
  simp-implicitDefEqProofs[List.getElem?_eq_getElem h1,List.getElem?_eq_getElem h2]
  refine(HC G xs[i] ys[i]).use ?_
  simp-implicitDefEqProofs
  refine cnd (λh3=>?_) (λh3=>?_)
  ·simp at h3
   exact Ch h3
  ·simp at h3
   exact⟨i+1,⟨h1,cF h1 h2 h3 he⟩,by omega,oR rfl (by simp[w1 (i:=i) (by omega)])⟩
 ·simp at h1
  exact rF (by omega) h1 he
theorem Jg(x y:Mfn)(hb:x.ins.length<=1048576):VF Tryz.prog G lz [.agg (x.cs.map .p),.agg (y.cs.map .p)] (.p (.bool (decide (x=y)))):=by
 refine AC.enter zD ?_
 simp-implicitDefEqProofs[pH,Mfn.cs,List.replicate]
 refine cnd (λh e=>?_) λh=>cnd (λh e=>?_) λh=>(Fb G _ _ hb).use ?_
 ·simp_all
 ·simp_all
 ·simp-implicitDefEqProofs
  refine cnd (λh e=>?_) λh=>?_
  ·simp_all
  ·cases x;cases y;simp_all
theorem Gr(xs ys:List Mfn)(hb:szF xs<=1048576):VF Tryz.prog G jK [.p (bc xs),.p (bc ys)] (.p (.bool (decide (xs=ys)))):=by
 refine AC.enter yy ?_
 have hsz:szF xs=xs.length+(xs.map (·.ins.length)).sum:=rfl
 simp-implicitDefEqProofs[ou,List.replicate,bc]
 refine cnd (λh e=>?_) λh=>?_
 ·simp_all
 refine aw (λi:Nat=>slots 27 [(0,.p (bc xs)),(1,.p (bc ys)),(5,.p (.int .i64 i))]) (λ_=>[]) (λi=>i<=xs.length/\xs.take i=ys.take i) (λi=>xs.length-i) 0 (by simp) (oR rfl (by simp[slots,List.replicate,bc])) ?_
 intro i ⟨hi,he⟩
 simp-implicitDefEqProofs[slots,List.replicate,bc]
 simp at h
 refine cnd (λh1=>?_) (λh1=>?_)
 ·simp at h1
  have h2:i<ys.length:=by omega
  have hx:=mi h1
  have hx2:=pp (fs:=xs) (i:=i+1)
  simp-implicitDefEqProofs[List.getElem?_eq_getElem h1,List.getElem?_eq_getElem h2]
  refine(Jg G xs[i] ys[i] (by omega)).use ?_
  simp-implicitDefEqProofs
  refine cnd (λh3=>?_) (λh3=>?_)
  ·simp at h3
   exact Ch h3
  ·simp at h3
   exact⟨i+1,⟨h1,cF h1 h2 h3 he⟩,by omega,oR rfl (by simp[w1 (i:=i) (by omega)])⟩
 ·simp at h1
  exact rF (by omega) h1 he
theorem FR(xs ys:List Mfn)(hb:szF xs<=1048576):VF Tryz.prog G eN [.agg [.p (bc xs)],.agg [.p (bc ys)]] (.p (.bool (decide (xs=ys)))):=by
 refine AC.enter yf ?_
 simp-implicitDefEqProofs[oe,List.replicate]
 refine(Gr G xs ys hb).use ?_
 simp-implicitDefEqProofs
 exact cnd (λh=>by simp_all) λh=>by simp_all
theorem EN(xs ys:List Int)(hb:xs.length<=1048576):VF Tryz.prog G jf [.p (aN xs),.p (aN ys)] (.p (.bool (decide (xs=ys)))):=by
 refine AC.enter uU ?_
 simp-implicitDefEqProofs[nt,List.replicate,aN]
 refine cnd (λh e=>?_) λh=>?_
 ·simp_all
 refine aw (λi:Nat=>slots 26 [(0,.p (aN xs)),(1,.p (aN ys)),(5,.p (.int .i64 i))]) (λ_=>[]) (λi=>i<=xs.length/\xs.take i=ys.take i) (λi=>xs.length-i) 0 (by simp) (oR rfl (by simp[slots,List.replicate,aN])) ?_
 intro i ⟨hi,he⟩
 simp-implicitDefEqProofs[slots,List.replicate,aN]
 simp at h
 refine cnd (λh1=>?_) (λh1=>?_)
 ·simp at h1
  have h2:i<ys.length:=by omega
  simp-implicitDefEqProofs[List.getElem?_eq_getElem h1,List.getElem?_eq_getElem h2]
  refine cnd (λh3=>?_) (λh3=>?_)
  ·simp at h3
   exact Ch h3
  ·simp at h3
   exact⟨i+1,⟨h1,cF h1 h2 h3 he⟩,by omega,oR rfl (by simp[w1 (i:=i) (by omega)])⟩
 ·simp at h1
  exact rF (by omega) h1 he
def cK:List AV:=[.p (.int .i64 0),.p (.int .i64 0),.nils]
end
section
def Mins.av(m:Mins):List AV:=m.cs.map .p
theorem Mins.av_eq(m:Mins):m.av=[.p (.int .i64 m.op),.p (.int .i64 m.a),.p (.int .i64 m.b),.p (.int .i64 m.c),.p (.int .i64 m.n)]:=rfl
def bq(l:List Mins):AO:= .row 5 (l.map Mins.av)
def Mfn.ov(id:Nat)(m:Mfn):List AV:=[.p (.int .i64 m.params),.p (.int .i64 m.slots),.sl id 5 0 m.ins.length]
def lY(b:Nat):List Mfn->List (List AV)
 |[]=>[]
 |m::r=>m.ov b::lY (b+1) r
theorem mw:∀(fs:List Mfn) (b:Nat),(lY b fs).length=fs.length
 |[],_=>rfl
 |_::r,b=>by simp[lY,mw r]
theorem BB:∀{fs:List Mfn} {b i:Nat},(lY b fs)[i]?=(fs[i]?).map (Mfn.ov (b+i))
 |[],_,_=>by simp[lY]
 |m::r,b,0=>by simp[lY]
 |m::r,b,i+1=>by simp[lY,BB (fs:=r),Nat.add_assoc,Nat.add_comm 1 i]
variable (G:az)
theorem aq{α:Type}{xs:List α}{i:Nat}(h:i<xs.length):xs.take (i+1)=xs.take i++[xs[i]]:=by
 rw[List.take_add_one,List.getElem?_eq_getElem h];rfl
def Like(fs gs:List Mfn):Prop:=fs.length=gs.length/\∀(k:Nat) (m m':Mfn),fs[k]?=some m->gs[k]?=some m'->m.ins.length=m'.ins.length
theorem Like.refl(fs:List Mfn):Like fs fs:=⟨rfl,λk m m' h1 h2=>by rw[h1] at h2;cases h2;rfl⟩
def bV(l:List Int):AO:= .row 1 (l.map λn=>[.p (.int .u8 n)])
def mk8(k i:Nat):Int:=IntKind.u8.wrap ((k+i:Nat):Int)
def rn(k n:Nat):List Int:=(List.range n).map (mk8 k)
theorem BU{h:List AO}{id:Nat}{xs:List Int}{k:Nat}(hr:h[id]?=some (bV xs))(hk:k+xs.length<=1152921504606846976):
 AC Tryz.prog G eq [.sl id 1 0 xs.length,.p (.int .i64 k)] h λx h'=>x= .ret (.p (.int .i64 ((k+xs.length:Nat):Int)))/\h'=h.set id (bV (rn k xs.length)):=by
 refine AC.enterB en λhb=>AC.enter en ?_
 have hid:id<h.length:=(List.getElem?_eq_some_iff.1 hr).1
 have hbs:∀ys:List Int,HB (h.set id (bV ys)):=λys=>hb.set_row λe he=>by
  obtain⟨x,_,rfl⟩:=List.mem_map.1 he
  simp
 simp-implicitDefEqProofs[ef,List.replicate]
 have e0:rn k 0++xs.drop 0=xs:=by simp[rn]
 refine aw (λa:Nat × List Int=>slots 20 [(0,.sl id 1 0 xs.length),(1,.p (.int .i64 ((k+a.1:Nat):Int))),(5,.p (.int .i64 a.1))]) (λa=>h.set id (bV a.2)) (λa=>a.1<=xs.length/\a.2=rn k a.1++xs.drop a.1) (λa=>xs.length-a.1) (0,xs) ⟨by simp,e0.symm⟩ ?_ ?_
 ·have e:h.set id (bV xs)=h:=by
   obtain⟨hi,e⟩:=List.getElem?_eq_some_iff.1 hr
   rw[←e];simp
  rw[e]
  exact kV (by simp) hb (by simp-implicitDefEqProofs[slots,List.replicate,below,hid])
 ·rintro⟨i,ys⟩ ⟨hi,hy⟩
  simp only at hi hy
  simp-implicitDefEqProofs[slots,List.replicate]
  refine cnd (λh1=>?_) (λh1=>?_)
  ·simp at h1
   have hyl:ys.length=xs.length:=by rw[hy];simp[rn];omega
   have hys:ys.set i (mk8 k i)=rn k (i+1)++xs.drop (i+1):=by
    rw[hy,List.set_append_right _ _ (by simp[rn])]
    simp only[rn,List.length_map,List.length_range,Nat.sub_self]
    rw[List.drop_eq_getElem_cons h1,List.set_cons_zero,List.range_succ]
    simp
   have hg:(List.map (λn=>[AV.p (.int .u8 n)]) ys)[i]?=some [AV.p (.int .u8 (ys[i]'(by omega)))]:=by rw[List.getElem?_map,List.getElem?_eq_getElem (by omega)];rfl
   have hw1:IntKind.i64.wrap ((k:Int)+(i:Int)+1)=(k:Int)+(i:Int)+1:=aa (by omega) (by omega)
   simp-implicitDefEqProofs[bV,hid,h1,hg,hw1]
   refine⟨i+1,ys.set i (mk8 k i),⟨h1,hys⟩,by omega,?_⟩
   have e:(List.map (λn=>[AV.p (PV.int IntKind.u8 n)]) ys).set i [AV.p (PV.int IntKind.u8 (IntKind.u8.wrap (↑k+ ↑i)))]=List.map (λn=>[AV.p (PV.int IntKind.u8 n)]) (ys.set i (mk8 k i)):=by
    rw[List.map_set];simp[mk8]
   rw[e]
   refine kV ?_ (hbs (ys.set i (mk8 k i))) ?_
   ·simp
   simp[w1 (i:=i) (by omega),below,hid]
   omega
  ·simp at h1
   have:i=xs.length:=by omega
   subst this
   simp[hy]
end
section
variable (G:az)
def inR(n lo hi:Int):Bool:=decide (lo<=n/\n<=hi)
def fA(op:Int):Bool:=op !=14&&op !=20
def fB(op:Int):Bool:=inR op 2 12
def fC(op:Int):Bool:=inR op 3 9
def fN(op:Int):Bool:=op==1||inR op 14 18||op==20||op==21
def ta(params slots len k op:Int):Int:=
 if op=1 then 255 else if op=14 then k-1 else if op=15\/op=16 then slots-1 else if op=17 then 2 else if op=18 then params-1 else len-1
def gT(params slots len k:Int)(x:Mins):Bool:=
 inR x.op 1 22&&(fA x.op||x.a==0)&&(fB x.op||x.b==0)&&(fC x.op||x.c==0)&&(fN x.op||x.n==0)&&
 inR x.a 0 7&&inR x.b 0 7&&inR x.c 0 7&&(!fN x.op||inR x.n 0 (ta params slots len k x.op))
def iN(l:List Mins):Bool:=match l.getLast? with|some x=>x.op==20||x.op==22|none=>false
def gQ(k:Int)(f:Mfn):Bool:=inR f.params 0 3&&inR f.slots 0 64&&iN f.ins&&f.ins.all (gT f.params f.slots f.ins.length k)
def rp:Int->List Mfn->Bool
 |_,[]=>true
 |k,f::r=>gQ k f&&rp (k+1) r
def kf(fs:List Mfn):Nat:=(fs.map (·.ins.length)).sum
def bn(fs:List Mfn):Bool:=inR fs.length 1 4&&decide (kf fs<=2000)&&rp 0 fs
def wordT:List (List UInt8):=[[],[115,101,116],[109,111,118,101],[97,100,100],[115,117,98],[109,117,108],[100,105,118],[114,101,109],[108,101,115,115],[115,97,109,101],[110,111,116],[108,111,97,100],[115,116,111,114,101],[115,97,121],[99,97,108,108],[107,101,101,112],[116,97,107,101],[103,105,118,101],[102,101,116,99,104],[114,101,115,117,108,116],[106,117,109,112],[98,114,97,110,99,104],[98,97,99,107]]
def fldT:List (List UInt8):=[[],[65,78],[65,66],[65,66,67],[65,66,67],[65,66,67],[65,66,67],[65,66,67],[65,66,67],[65,66,67],[65,66],[65,66],[65,66],[65],[78],[65,78],[65,78],[65,78],[65,78],[65],[78],[65,78],[65]]
def sC(op:Int):List UInt8:=if inR op 1 22 then wordT.getD op.toNat [] else[]
def jw(op:Int):List UInt8:=if inR op 1 22 then fldT.getD op.toNat [] else[]
theorem gg(n lo hi:Int):VF Tryz.prog G cH [.p (.int .i64 n),.p (.int .i64 lo),.p (.int .i64 hi)] (.p (.bool (inR n lo hi))):=by
 refine AC.enter BD ?_
 simp-implicitDefEqProofs[tg,List.replicate]
 refine cnd (λh=>?_) (λh=>?_)
 ·simp at h;simp[inR,h]
 ·simp at h
  have:¬(lo<=n):=by omega
  simp[inR,h,this]
theorem dI(n lo hi:Int):VF Tryz.prog G aV [.p (.int .i64 n),.p (.int .i64 lo),.p (.int .i64 hi)] (.p (.bool (inR n lo hi))):=by
 refine AC.enter ym ?_
 simp-implicitDefEqProofs[nY,List.replicate]
 refine cnd (λh=>?_) (λh=>?_)
 ·simp at h;simp[inR,h]
 ·simp at h
  have:¬(lo<=n):=by omega
  simp[inR,h,this]
theorem Az{op:Int}(h:inR op 1 22=true):op=1\/op=2\/op=3\/op=4\/op=5\/op=6\/op=7\/op=8\/op=9\/op=10\/op=11\/op=12\/op=13\/op=14\/op=15\/op=16\/op=17\/op=18\/op=19\/op=20\/op=21\/op=22:=by
 simp[inR] at h;omega
theorem zd(op:Int):VF Tryz.prog G fW [.p (.int .i64 op)] (.tup [.p (.str (sC op)),.p (.str (jw op))]):=by
 refine AC.enter uJ ?_
 simp-implicitDefEqProofs[ml,List.replicate]
 refine(gg G op 1 22).use ?_
 simp-implicitDefEqProofs
 refine cnd (λh=>?_) (λh=>?_)
 ·simp at h;simp[sC,jw,h]
 ·simp at h
  have h2:=h
  simp[inR] at h2
  have h3:op.toNat<23:=by omega
  rcases Az h with rfl|rfl|rfl|rfl|rfl|rfl|rfl|rfl|rfl|rfl|rfl|rfl|rfl|rfl|rfl|rfl|rfl|rfl|rfl|rfl|rfl|rfl<;>simp-implicitDefEqProofs[sC,jw,inR,wordT,fldT]
def pb(x:Mins)(n:Int):Int:=if n=65 then x.a else if n=66 then x.b else if n=67 then x.c else x.n
theorem yc(x:Mins)(n:Int):VF Tryz.prog G fd [.agg (x.cs.map .p),.p (.int .u8 n)] (.p (.int .i64 (pb x n))):=by
 refine AC.enter tm ?_
 simp-implicitDefEqProofs[lT,List.replicate,Mins.cs]
 refine cnd (λh=>?_) λh=>cnd (λh=>?_) λh=>cnd (λh=>?_) λh=>?_
 all_goals simp_all [pb]
def chrs:List UInt8:=[65,66,67,78]
def vQ(x:Mins)(fields:List UInt8)(j:Nat):Bool:=fields.contains (chrs.getD j 0)||pb x (chrs.getD j 0).toNat==0
def oQ(x:Mins)(fields:List UInt8):Bool:=(List.range 4).all (vQ x fields)
theorem JN{a b:UInt8}:((a.toNat:Int)=(b.toNat:Int))↔b=a:=by
 rw[Int.natCast_inj,UInt8.toNat_inj];exact eq_comm
theorem Eo(x:Mins)(fields:List UInt8)(hb:fields.length<=1048576):VF Tryz.prog G iE [.agg (x.cs.map .p),.p (.str fields)] (.p (.bool (oQ x fields))):=by
 refine AC.enter vE ?_
 simp-implicitDefEqProofs[mS,List.replicate]
 refine aw (λi:Nat=>slots 37 [(1,.p (.str fields)),(2,.ptr 0 5 0 0),(5,.p (.int .i64 i))]) (λ_=>[.row 5 [x.cs.map .p]]) (λi=>i<=4/\∀j,j<i->vQ x fields j=true) (λi=>4-i) 0 (by simp) (aU (by simp) (by simp[okO]) (by simp[slots,List.replicate,below])) ?_
 intro i ⟨hi,hj⟩
 simp-implicitDefEqProofs[slots,List.replicate]
 refine cnd (λh1=>?_) (λh1=>?_)
 ·simp at h1
  obtain⟨c,hc⟩:∃c,chrs[i]?=some c:=⟨chrs[i]'(by simp[chrs];omega),List.getElem?_eq_getElem _⟩
  have hc':=hc
  simp only[chrs] at hc'
  simp-implicitDefEqProofs[hc']
  refine aw (λk:Nat=>slots 37 [(1,.p (.str fields)),(2,.ptr 0 5 0 0),(5,.p (.int .i64 i)),(6,.p (.int .u8 c.toNat)),(7,.p (.bool ((fields.take k).contains c))),(8,.p (.int .i64 k))]) (λ_=>[.row 5 [x.cs.map .p]]) (λk=>k<=fields.length) (λk=>fields.length-k) 0 (by simp) (aU (by simp) (by simp[okO]) (by simp[slots,List.replicate,below])) ?_
  intro k hk
  simp-implicitDefEqProofs[slots,List.replicate]
  refine cnd (λh2=>?_) (λh2=>?_)
  ·simp at h2
   have hw:=w1 (i:=k) (by omega)
   have hct:(fields.take (k+1)).contains c=((fields.take k).contains c||c==fields[k]):=by
    rw[aq h2];simp only[List.contains_eq_any_beq,List.any_append,List.any_cons,List.any_nil,Bool.or_false]
   simp-implicitDefEqProofs[List.getElem?_eq_getElem h2]
   refine cnd (λh3=>?_) (λh3=>?_)
   ·simp-implicitDefEqProofs[h3]
    refine⟨k+1,h2,by omega,aU (by simp) (by simp[okO]) ?_⟩
    simp-implicitDefEqProofs[below,hw]
    simp at h3 hct
    simp[hct,h3]
    rw[Bool.eq_iff_iff];simp[JN]
   ·simp-implicitDefEqProofs[h3]
    refine⟨k+1,h2,by omega,aU (by simp) (by simp[okO]) ?_⟩
    simp-implicitDefEqProofs[below,hw]
    simp at h3 hct
    simp[hct,h3]
  ·simp at h2
   have hke:k=fields.length:=by omega
   subst hke
   have hcd:chrs.getD i 0=c:=by rw[List.getD_eq_getElem?_getD,hc];rfl
   by_cases hin:c∈fields
   ·simp-implicitDefEqProofs[hin]
    refine⟨i+1,⟨by omega,λj hji=>?_⟩,by omega,aU (by simp) (by simp[okO]) ?_⟩
    ·rcases Nat.lt_or_ge j i with h3|h3
     ·exact hj j h3
     ·obtain rfl:j=i:=by omega
      simp only[vQ,hcd];simp[hin]
    ·simp[below,w1 (i:=i) (by omega)]
   ·simp-implicitDefEqProofs[hin]
    refine(yc G x c.toNat).use ?_
    simp-implicitDefEqProofs[]
    refine cnd (λh3=>?_) (λh3=>?_)
    ·simp at h3
     have:vQ x fields i=false:=by simp only[vQ,hcd];simp[hin,h3]
     simp[oQ,List.all_eq_false]
     exact⟨i,by omega,by simp[this]⟩
    ·simp at h3
     refine⟨i+1,⟨by omega,λj hji=>?_⟩,by omega,aU (by simp) (by simp[okO]) ?_⟩
     ·rcases Nat.lt_or_ge j i with h4|h4
      ·exact hj j h4
      ·obtain rfl:j=i:=by omega
       simp only[vQ,hcd];simp[h3]
     ·simp[below,w1 (i:=i) (by omega)]
 ·simp at h1
  have:i=4:=by omega
  subst this
  simp[oQ]
  exact hj
def lQ(x:Mins)(fields:List UInt8):Bool:=fields.all λc=>c==78||inR (pb x c.toNat) 0 7
theorem Hx(p s l k:Int)(x:Mins):gT p s l k x=(inR x.op 1 22&&oQ x (jw x.op)&&lQ x (jw x.op)&&(!fN x.op||inR x.n 0 (ta p s l k x.op))):=by
 by_cases h:inR x.op 1 22=true
 ·have e:(oQ x (jw x.op)&&lQ x (jw x.op))=((fA x.op||x.a==0)&&(fB x.op||x.b==0)&&(fC x.op||x.c==0)&&(fN x.op||x.n==0)&&inR x.a 0 7&&inR x.b 0 7&&inR x.c 0 7):=by
   obtain⟨op,a,b,c,n⟩:=x
   simp only at h⊢
   rcases Az h with rfl|rfl|rfl|rfl|rfl|rfl|rfl|rfl|rfl|rfl|rfl|rfl|rfl|rfl|rfl|rfl|rfl|rfl|rfl|rfl|rfl|rfl<;>simp[oQ,vQ,lQ,jw,fldT,pb,chrs,fA,fB,fC,fN,inR,List.range,List.range.loop]<;>(rw[Bool.eq_iff_iff];simp;try omega)
  simp only[gT,h,Bool.true_and]
  rw[e]
 ·simp[gT,h]
end
section
variable (G:az)
theorem yX{op:Int}(h:inR op 1 22=false):jw op=[]:=by simp[jw,h]
theorem ui{op:Int}(h:inR op 1 22=true):jw op≠[]/\(jw op).length<=3:=by
 rcases Az h with rfl|rfl|rfl|rfl|rfl|rfl|rfl|rfl|rfl|rfl|rfl|rfl|rfl|rfl|rfl|rfl|rfl|rfl|rfl|rfl|rfl|rfl<;>simp[jw,fldT,inR]
theorem Gh(fs:List Mfn)(k:Nat)(f:Mfn)(x:Mins)(hk:fs[k]?=some f)(hk2:k<=1048576)(hl:f.ins.length<=1048576)(hp:inR f.params 0 3=true)(hs:inR f.slots 0 64=true):
 VF Tryz.prog G jO [.agg [.p (bc fs)],.p (.int .i64 k),.agg (x.cs.map .p)] (.p (.bool (gT f.params f.slots f.ins.length k x))):=by
 refine AC.enter yD ?_
 have hkm:(fs.map Mfn.cs)[k]?=some f.cs:=by rw[List.getElem?_map,hk];rfl
 rw[Hx]
 simp-implicitDefEqProofs[om,List.replicate,bc,hkm]
 simp-implicitDefEqProofs[Mins.cs]
 refine(zd G x.op).use ?_
 by_cases hop:inR x.op 1 22=true
 ·obtain⟨g1,g2⟩:=ui hop
  simp-implicitDefEqProofs[g1,hop]
  generalize hfl:jw x.op=fields at g1 g2
  refine(Eo G x fields (by omega)).use ?_
  simp-implicitDefEqProofs
  by_cases hr:oQ x fields=true
  ·simp-implicitDefEqProofs[hr]
   refine aw (λi:Nat=>slots 95 [(1,.p (.int .i64 k)),(5,.ptr 1 5 0 0),(7,.ptr 2 3 0 0),(9,.p (.str fields)),(10,.p (.int .i64 i))]) (λ_=>[.row 1 [[.p (bc fs)]],.row 5 [x.cs.map .p],.row 3 [f.cs.map .p]])
    (λi=>i<=fields.length/\lQ x (fields.take i)=true) (λi=>fields.length-i) 0 (by simp[lQ]) ?_ ?_
   ·refine aU (by simp) (by simp[okO,Mins.cs,Mfn.cs]) (by simp[slots,List.replicate,below])
   ·intro i ⟨hi,hc⟩
    simp-implicitDefEqProofs[slots,List.replicate]
    refine cnd (λh1=>?_) (λh1=>?_)
    ·simp at h1
     simp-implicitDefEqProofs[List.getElem?_eq_getElem h1]
     have hct:lQ x (fields.take (i+1))=(lQ x (fields.take i)&&(fields[i]==78||inR (pb x fields[i].toNat) 0 7)):=by
      rw[lQ,aq h1,List.all_append];simp[lQ]
     have hbad:(fields[i]==78||inR (pb x fields[i].toNat) 0 7)=false->lQ x fields=false:=λh=>by
      rw[lQ,List.all_eq_false]
      exact⟨fields[i],List.getElem_mem h1,by simpa using h⟩
     by_cases h78:fields[i]=78
     ·simp-implicitDefEqProofs[h78]
      refine⟨i+1,⟨by omega,by rw[hct,hc,h78];rfl⟩,by omega,aU (by simp) (by simp[okO,Mins.cs,Mfn.cs]) ?_⟩
      simp[below,w1 (i:=i) (by omega)]
     ·have h78':¬((fields[i].toNat:Int)=78):=λe=>h78 (JN (b:=78)|>.1 e).symm
      simp-implicitDefEqProofs[h78']
      refine(yc G x _).use ?_
      simp-implicitDefEqProofs
      refine(gg G _ _ _).use ?_
      simp-implicitDefEqProofs
      refine cnd (λh3=>?_) (λh3=>?_)
      ·simp at h3
       simp-implicitDefEqProofs[hbad (by simp[h78,h3])]
      ·simp at h3
       refine⟨i+1,⟨by omega,by rw[hct,hc];simp[h3]⟩,by omega,aU (by simp) (by simp[okO,Mins.cs,Mfn.cs]) ?_⟩
       simp[below,w1 (i:=i) (by omega)]
    ·simp at h1
     have hall:lQ x fields=true:=by rw[List.take_of_length_le h1] at hc;exact hc
     simp[inR] at hp hs
     have hwk:IntKind.i64.wrap ((k:Int)-1)=(k:Int)-1:=aa (by omega) (by omega)
     have hwp:IntKind.i64.wrap (f.params-1)=f.params-1:=aa (by omega) (by omega)
     have hws:IntKind.i64.wrap (f.slots-1)=f.slots-1:=aa (by omega) (by omega)
     have hwl:IntKind.i64.wrap ((f.ins.length:Int)-1)=(f.ins.length:Int)-1:=aa (by omega) (by omega)
     have hsel:x.op=1\/x.op=14\/x.op=15\/x.op=16\/x.op=17\/x.op=18\/x.op=20\/x.op=21\/(x.op≠1/\x.op≠14/\x.op≠15/\x.op≠16/\x.op≠17/\x.op≠18/\x.op≠20/\x.op≠21):=by omega
     rcases hsel with e|e|e|e|e|e|e|e|⟨e1,e2,e3,e4,e5,e6,e7,e8⟩
     case inr.inr.inr.inr.inr.inr.inr.inr=>
      have hfn:fN x.op=false:=by simp[inR] at hop;simp[fN,inR,e1,e7,e8];omega
      simp-implicitDefEqProofs[Mins.cs,e1,e2,e3,e4,e5,e6,e7,e8,hall,hfn]
     all_goals
      simp-implicitDefEqProofs[Mins.cs,Mfn.cs,e,hwk,hwp,hws,hwl]
      refine(gg G _ _ _).use ?_
      simp-implicitDefEqProofs[hall,fN,ta,inR]
  ·simp-implicitDefEqProofs[hr]
 ·simp-implicitDefEqProofs[yX (by simpa using hop),hop]
end
section
variable (G:az)
theorem kN:∀{fs:List Mfn} {k:Int} {i:Nat} {f:Mfn},rp k fs=true->fs[i]?=some f->gQ (k+i) f=true
 |g::r,k,0,f,h,e=>by
  simp only[rp,Bool.and_eq_true] at h
  cases e;simpa using h.1
 |g::r,k,i+1,f,h,e=>by
  simp only[rp,Bool.and_eq_true] at h
  have:=kN h.2 (i:=i) (f:=f) (by simpa using e)
  rw[show k+((i+1:Nat):Int)=k+1+(i:Int) by omega];exact this
theorem rH:∀{fs:List Mfn} {k:Int},(∀(i:Nat) f,fs[i]?=some f->gQ (k+i) f=true)->rp k fs=true
 |[],_,_=>rfl
 |g::r,k,h=>by
  simp only[rp,Bool.and_eq_true]
  refine⟨by simpa using h 0 g rfl,rH λi f e=>?_⟩
  have:=h (i+1) f (by simpa using e)
  rw[show k+((i+1:Nat):Int)=k+1+(i:Int) by omega] at this;exact this
theorem fX{fs:List Mfn}{i:Nat}{f:Mfn}(e:fs[i]?=some f)(h:gQ i f=false):bn fs=false:=by
 cases hm:bn fs with
 |false=>rfl
 |true=>
  simp only[bn,Bool.and_eq_true] at hm
  have:=kN hm.2 e
  rw[Int.zero_add,h] at this;cases this
theorem vt{l:List Mins}(h:0<l.length):iN l=(l[l.length-1].op==20||l[l.length-1].op==22):=by
 rw[iN,List.getLast?_eq_getElem?,List.getElem?_eq_getElem (by omega)]
theorem sU(fs:List Mfn)(hb:szF fs<=1048576):VF Tryz.prog G ej [.agg [.p (bc fs)]] (.p (.bool (bn fs))):=by
 have hsz:szF fs=fs.length+(fs.map (·.ins.length)).sum:=rfl
 refine AC.enter sy ?_
 simp-implicitDefEqProofs[ky,List.replicate,bc]
 refine(gg G _ _ _).use ?_
 simp-implicitDefEqProofs
 refine cnd (λh=>?_) (λh=>?_)
 ·simp at h;simp[bn,h]
 simp at h
 refine aw (λi:Nat=>slots 81 [(1,.ptr 0 1 0 0),(3,.p (.int .i64 (szT fs i))),(4,.p (.int .i64 i))]) (λ_=>[.row 1 [[.p (bc fs)]]])
  (λi=>i<=fs.length/\szT fs i<=2000/\∀j f,j<i->fs[j]?=some f->gQ j f=true) (λi=>fs.length-i) 0 (by simp) (aU (by simp) (by simp[okO,bc]) (by simp[slots,List.replicate,below])) ?_
 intro i ⟨hi,hn,hok⟩
 simp-implicitDefEqProofs[slots,List.replicate,bc]
 refine cnd (λh1=>?_) (λh1=>?_)
 ·simp at h1
  have hx:=mi h1
  have hx2:=pp (fs:=fs) (i:=i+1)
  have hgi:=List.getElem?_eq_getElem h1
  have hkm:(fs.map Mfn.cs)[i]?=some fs[i].cs:=by rw[List.getElem?_map,hgi];rfl
  have hw:IntKind.i64.wrap ((szT fs i:Int)+(fs[i].ins.length:Int))=((szT fs (i+1):Nat):Int):=by rw[aa (by omega) (by omega),hx];omega
  simp-implicitDefEqProofs[hgi]
  simp-implicitDefEqProofs[Mfn.cs,hw]
  refine(gg G _ _ _).use ?_
  by_cases hp:inR fs[i].params 0 3=true
  rotate_left
  ·simp-implicitDefEqProofs[hp]
   exact(fX hgi (by simp[gQ,hp])).symm▸rfl
  simp-implicitDefEqProofs[hp]
  refine(gg G _ _ _).use ?_
  by_cases hs:inR fs[i].slots 0 64=true
  rotate_left
  ·simp-implicitDefEqProofs[hs]
   exact(fX hgi (by simp[gQ,hs])).symm▸rfl
  by_cases h0:fs[i].ins=[]
  ·simp-implicitDefEqProofs[hs,h0]
   exact(fX hgi (by simp[gQ,h0,iN])).symm▸rfl
  have hpos:0<fs[i].ins.length:=List.length_pos_iff.2 h0
  simp-implicitDefEqProofs[hs,h0]
  refine cnd (λh2=>?_) (λh2=>?_)
  ·simp at h2
   have:¬(kf fs<=2000):=by have:=pp (fs:=fs) (i:=i+1);simp only[kf];omega
   simp[bn,this]
  simp at h2
  refine aw (λq:Nat=>slots 81 [(1,.ptr 0 1 0 0),(3,.p (.int .i64 (szT fs (i+1)))),(4,.p (.int .i64 i)),(5,.ptr 1 3 0 0),(6,.p (.int .i64 q))]) (λ_=>[.row 1 [[.p (bc fs)]],.row 3 [fs[i].cs.map .p]])
   (λq=>q<=fs[i].ins.length/\∀x∈fs[i].ins.take q,gT fs[i].params fs[i].slots fs[i].ins.length i x=true) (λq=>fs[i].ins.length-q) 0 (by simp) (aU (by simp) (by simp[okO,bc,Mfn.cs]) (by simp[slots,List.replicate,below])) ?_
  intro q ⟨hq,hqs⟩
  simp-implicitDefEqProofs[slots,List.replicate,bc,Mfn.cs]
  refine cnd (λh3=>?_) (λh3=>?_)
  ·simp at h3
   simp-implicitDefEqProofs[List.getElem?_eq_getElem h3]
   refine(Gh G fs i fs[i] fs[i].ins[q] hgi (by omega) (by omega) hp hs).use ?_
   simp-implicitDefEqProofs
   refine cnd (λh4=>?_) (λh4=>?_)
   ·simp at h4
    have:(fs[i].ins.all (gT fs[i].params fs[i].slots fs[i].ins.length i))=false:=by
     rw[List.all_eq_false];exact⟨_,List.getElem_mem h3,by simp[h4]⟩
    exact(fX hgi (by simp[gQ,this])).symm▸rfl
   ·simp at h4
    refine⟨q+1,⟨by omega,by
     intro x hx
     rw[aq h3] at hx
     rcases List.mem_append.1 hx with hx|hx
     ·exact hqs x hx
     ·rw[List.mem_singleton.1 hx];exact h4⟩,by omega,aU (by simp) (by simp[okO,bc]) ?_⟩
    simp[below,w1 (i:=q) (by omega)]
  ·simp at h3
   rw[List.take_of_length_le h3] at hqs
   have hwl:IntKind.i64.wrap ((fs[i].ins.length:Int)-1)=((fs[i].ins.length-1:Nat):Int):=by rw[aa (by omega) (by omega)];omega
   have hgl:=List.getElem?_eq_getElem (l:=fs[i].ins) (i:=fs[i].ins.length-1) (by omega)
   have hlo:=vt hpos
   simp-implicitDefEqProofs[hwl,hgl,hpos,Mins.cs]
   have hfin:iN fs[i].ins=true->∃a,(a<=fs.length/\szT fs a<=2000/\∀(j:Nat) (f:Mfn),j<a->fs[j]?=some f->gQ j f=true)/\a=i+1:=λhl=>by
    refine⟨i+1,⟨h1,by omega,λj f hj e=>?_⟩,rfl⟩
    rcases Nat.lt_or_ge j i with hji|hji
    ·exact hok j f hji e
    ·obtain rfl:j=i:=by omega
     rw[hgi] at e;cases e
     simp only[gQ,hp,hs,hl,Bool.true_and,List.all_eq_true]
     exact hqs
   by_cases e20:fs[i].ins[fs[i].ins.length-1].op=20
   ·obtain⟨a,h5,rfl⟩:=hfin (by rw[hlo];simp[e20])
    simp-implicitDefEqProofs[e20]
    refine⟨i+1,h5,by omega,so (n:=1) (by simp) (uf rfl rfl (by simp[bc])) ?_⟩
    simp[below,w1 (i:=i) (by omega)]
   ·simp-implicitDefEqProofs[e20]
    refine cnd (λh5=>?_) (λh5=>?_)
    ·simp at h5
     exact(fX hgi (by simp[gQ,hlo,e20,h5])).symm▸rfl
    ·simp at h5
     obtain⟨a,h6,rfl⟩:=hfin (by rw[hlo];simp[h5])
     refine⟨i+1,h6,by omega,so (n:=1) (by simp) (uf rfl rfl (by simp[bc])) ?_⟩
     simp[below,w1 (i:=i) (by omega)]
 ·simp at h1
  have hall:rp 0 fs=true:=rH λj f e=>by
   rw[Int.zero_add];exact hok j f (by have:=(List.getElem?_eq_some_iff.1 e).1;omega) e
  have:kf fs<=2000:=by rw[kf,←DC h1];exact hn
  simp[bn,hall,this,h]
end
section
abbrev Jn:Nat:=0
abbrev bW:Nat:=1
def JA:List PV:=[.lst 1 [[.int .u8 87],[.int .u8 119]]]
def pvForms:List PV:=[.str [],.int .i64 0,.str [115,101,116],.int .i64 9,.str [109,111,118,101],.int .i64 3,.str [97,100,100],.int .i64 7,.str [115,117,98],.int .i64 7,.str [109,117,108],.int .i64 7,.str [100,105,118],.int .i64 7,.str [114,101,109],.int .i64 7,.str [108,101,115,115],.int .i64 7,.str [115,97,109,101],.int .i64 7,.str [110,111,116],.int .i64 3,.str [108,111,97,100],.int .i64 3,.str [115,116,111,114,101],.int .i64 3,.str [115,97,121],.int .i64 1,.str [99,97,108,108],.int .i64 8,.str [107,101,101,112],.int .i64 9,.str [116,97,107,101],.int .i64 9,.str [103,105,118,101],.int .i64 9,.str [102,101,116,99,104],.int .i64 9,.str [114,101,115,117,108,116],.int .i64 1,.str [106,117,109,112],.int .i64 8,.str [98,114,97,110,99,104],.int .i64 9,.str [98,97,99,107],.int .i64 1]
def maskT:List Int:=[0,9,3,7,7,7,7,7,7,7,3,3,3,1,8,9,9,9,9,1,8,9,1]
def mm(op:Int):Int:=maskT.getD op.toNat 0
theorem Hn{op:Int}(h:inR op 1 22=true):((pvForms.map AV.p).drop (op.toNat*2)).take 2=[.p (.str (sC op)),.p (.int .i64 (mm op))]/\op.toNat*2+2<=pvForms.length:=by
 rcases Az h with rfl|rfl|rfl|rfl|rfl|rfl|rfl|rfl|rfl|rfl|rfl|rfl|rfl|rfl|rfl|rfl|rfl|rfl|rfl|rfl|rfl|rfl<;>exact⟨rfl,by decide⟩
theorem uq{op:Int}(h:inR op 1 22=true):(mm op=9/\fA op=true/\fB op=false/\fC op=false/\fN op=true)\/(mm op=3/\fA op=true/\fB op=true/\fC op=false/\fN op=false)\/
 (mm op=7/\fA op=true/\fB op=true/\fC op=true/\fN op=false)\/(mm op=1/\fA op=true/\fB op=false/\fC op=false/\fN op=false)\/(mm op=8/\fA op=false/\fB op=false/\fC op=false/\fN op=true):=by
 rcases Az h with rfl|rfl|rfl|rfl|rfl|rfl|rfl|rfl|rfl|rfl|rfl|rfl|rfl|rfl|rfl|rfl|rfl|rfl|rfl|rfl|rfl|rfl<;>decide
def okI(x:Mins):Nat->Bool
 |0=>fA x.op||x.a==0
 |1=>fB x.op||x.b==0
 |2=>fC x.op||x.c==0
 |_=>fN x.op||x.n==0
def gx(x:Mins):Bool:=inR x.op 1 22&&okI x 0&&okI x 1&&okI x 2&&okI x 3
variable (G:az) (hG:G bW=some pvForms)
include hG
theorem Gk(x:Mins):VF Tryz.prog G jL [.agg (x.cs.map .p)] (.tup [.agg [.p (.str (if gx x then sC x.op else[])),.p (.int .i64 (if gx x then mm x.op else 0))],.p (.bool (gx x))]):=by
 refine AC.enter yK ?_
 simp-implicitDefEqProofs[nW,List.replicate]
 simp-implicitDefEqProofs[Mins.cs]
 refine(dI G _ _ _).use ?_
 by_cases hop:inR x.op 1 22=true
 rotate_left
 ·simp-implicitDefEqProofs[hop,gx]
 obtain⟨f1,f2⟩:=Hn hop
 have hop':=hop
 simp[inR] at hop'
 have hG':=hG
 dsimp only[bW] at hG'
 simp-implicitDefEqProofs[hop,hG',f1,f2]
 refine⟨by omega,?_⟩
 rcases uq hop with⟨m0,m1,m2,m3,m4⟩|⟨m0,m1,m2,m3,m4⟩|⟨m0,m1,m2,m3,m4⟩|⟨m0,m1,m2,m3,m4⟩|⟨m0,m1,m2,m3,m4⟩
 all_goals
  rw[m0]
  refine aw (λi:Nat=>slots 42 [(1,.ptr 0 5 0 0),(2,.ptr 1 2 0 0),(4,.ptr 2 2 0 0),(24,.agg [.p (.int .i64 x.a),.p (.int .i64 x.b),.p (.int .i64 x.c),.p (.int .i64 x.n)]),(25,.p (.int .i64 i))])
   (λ_=>[.row 5 [x.cs.map .p],.row 2 [[.p (.str []),.p (.int .i64 0)]],.row 2 [[.p (.str (sC x.op)),.p (.int .i64 _)]]]) (λi=>i<=4/\∀j,j<i->okI x j=true) (λi=>4-i) 0 (by simp) (aU (by simp) (by simp[okO]) (by simp[slots,List.replicate,below])) ?_
  rintro i ⟨hi,hj⟩
  have hsplit:i=0\/i=1\/i=2\/i=3\/i=4:=by omega
  have hbad:∀j,j<4->okI x j=false->gx x=false:=λj hj h=>by
   have:j=0\/j=1\/j=2\/j=3:=by omega
   rcases this with rfl|rfl|rfl|rfl<;>simp[gx,h]
  have hnext:∀{ts:List AV} {b:List AO} (i:Nat),okI x i=true->(∀j,j<i->okI x j=true)->∀j,j<i+1->okI x j=true:=λi h1 h2 j h3=>by
   rcases Nat.lt_or_ge j i with h4|h4
   ·exact h2 j h4
   ·obtain rfl:j=i:=by omega
    exact h1
  rcases hsplit with rfl|rfl|rfl|rfl|rfl
  case inr.inr.inr.inr=>
   have h0:=hj 0 (by omega)
   have h1:=hj 1 (by omega)
   have h2:=hj 2 (by omega)
   have h3:=hj 3 (by omega)
   have hf:gx x=true:=by simp[gx,hop,h0,h1,h2,h3]
   simp-implicitDefEqProofs[slots,List.replicate,hf,m0]
  all_goals
   simp-implicitDefEqProofs[slots,List.replicate,IntKind.wrap,IntKind.bits,IntKind.signed]
   first
    |(refine cnd (λh=>?_) (λh=>?_)
      ·simp at h
       first
        |simp-implicitDefEqProofs[hbad 0 (by decide) (show okI x 0=false by simp[okI,m1,m2,m3,m4,h])]
        |simp-implicitDefEqProofs[hbad 1 (by decide) (show okI x 1=false by simp[okI,m1,m2,m3,m4,h])]
        |simp-implicitDefEqProofs[hbad 2 (by decide) (show okI x 2=false by simp[okI,m1,m2,m3,m4,h])]
        |simp-implicitDefEqProofs[hbad 3 (by decide) (show okI x 3=false by simp[okI,m1,m2,m3,m4,h])]
      ·simp at h
       first
        |exact⟨1,⟨by decide,hnext (ts:=[]) (b:=[]) 0 (by simp[okI,m1,m2,m3,m4,h]) hj⟩,by decide,aU (by simp) (by simp[okO]) (by simp[below])⟩
        |exact⟨2,⟨by decide,hnext (ts:=[]) (b:=[]) 1 (by simp[okI,m1,m2,m3,m4,h]) hj⟩,by decide,aU (by simp) (by simp[okO]) (by simp[below])⟩
        |exact⟨3,⟨by decide,hnext (ts:=[]) (b:=[]) 2 (by simp[okI,m1,m2,m3,m4,h]) hj⟩,by decide,aU (by simp) (by simp[okO]) (by simp[below])⟩
        |exact⟨4,⟨by decide,hnext (ts:=[]) (b:=[]) 3 (by simp[okI,m1,m2,m3,m4,h]) hj⟩,by decide,aU (by simp) (by simp[okO]) (by simp[below])⟩)
    |(first
       |exact⟨1,⟨by decide,hnext (ts:=[]) (b:=[]) 0 (by simp[okI,m1,m2,m3,m4]) hj⟩,by decide,aU (by simp) (by simp[okO]) (by simp[below])⟩
       |exact⟨2,⟨by decide,hnext (ts:=[]) (b:=[]) 1 (by simp[okI,m1,m2,m3,m4]) hj⟩,by decide,aU (by simp) (by simp[okO]) (by simp[below])⟩
       |exact⟨3,⟨by decide,hnext (ts:=[]) (b:=[]) 2 (by simp[okI,m1,m2,m3,m4]) hj⟩,by decide,aU (by simp) (by simp[okO]) (by simp[below])⟩
       |exact⟨4,⟨by decide,hnext (ts:=[]) (b:=[]) 3 (by simp[okI,m1,m2,m3,m4]) hj⟩,by decide,aU (by simp) (by simp[okO]) (by simp[below])⟩)
end
section
theorem rW(p s l k:Int)(x:Mins):gT p s l k x=(gx x&&inR x.a 0 7&&inR x.b 0 7&&inR x.c 0 7&&(!fN x.op||inR x.n 0 (ta p s l k x.op))):=by
 simp[gT,gx,okI]
theorem Gp{op:Int}(h:inR op 1 22=true):(Au .and (.int .i64 (mm op)) (.int .i64 8))=some (.int .i64 (if fN op then 8 else 0)):=by
 rcases uq h with⟨m0,m1,m2,m3,m4⟩|⟨m0,m1,m2,m3,m4⟩|⟨m0,m1,m2,m3,m4⟩|⟨m0,m1,m2,m3,m4⟩|⟨m0,m1,m2,m3,m4⟩<;>rw[m0,m4]<;>rfl
variable (G:az) (hG:G bW=some pvForms)
include hG
theorem HQ(fs:List Mfn)(k:Nat)(f:Mfn)(x:Mins)(hk:fs[k]?=some f)(hk2:k<=1048576)(hl:f.ins.length<=1048576)(hp:inR f.params 0 3=true)(hs:inR f.slots 0 64=true):
 VF Tryz.prog G jW [.agg [.p (bc fs)],.p (.int .i64 k),.agg (x.cs.map .p)] (.p (.bool (gT f.params f.slots f.ins.length k x))):=by
 refine AC.enter yM ?_
 rw[rW]
 simp-implicitDefEqProofs[oo,List.replicate,bc]
 refine(Gk G hG x).use ?_
 simp-implicitDefEqProofs[Mins.cs]
 by_cases hf:gx x=true
 rotate_left
 ·simp-implicitDefEqProofs[hf]
 simp-implicitDefEqProofs[hf]
 refine(dI G _ _ _).use ?_
 by_cases ha:inR x.a 0 7=true
 rotate_left
 ·simp-implicitDefEqProofs[ha]
 simp-implicitDefEqProofs[ha]
 refine(dI G _ _ _).use ?_
 by_cases hb:inR x.b 0 7=true
 rotate_left
 ·simp-implicitDefEqProofs[hb]
 simp-implicitDefEqProofs[hb]
 refine(dI G _ _ _).use ?_
 by_cases hc:inR x.c 0 7=true
 rotate_left
 ·simp-implicitDefEqProofs[hc]
 simp-implicitDefEqProofs[hc]
 have hop:inR x.op 1 22=true:=by simp[gx] at hf;exact hf.1.1.1.1
 have hand:=Gp hop
 simp[inR] at hp hs
 have hwk:IntKind.i64.wrap ((k:Int)-1)=(k:Int)-1:=aa (by omega) (by omega)
 have hwp:IntKind.i64.wrap (f.params-1)=f.params-1:=aa (by omega) (by omega)
 have hws:IntKind.i64.wrap (f.slots-1)=f.slots-1:=aa (by omega) (by omega)
 have hwl:IntKind.i64.wrap ((f.ins.length:Int)-1)=(f.ins.length:Int)-1:=aa (by omega) (by omega)
 simp only[Au] at hand
 have hsel:x.op=1\/x.op=14\/x.op=15\/x.op=16\/x.op=17\/x.op=18\/x.op=20\/x.op=21\/(x.op≠1/\x.op≠14/\x.op≠15/\x.op≠16/\x.op≠17/\x.op≠18/\x.op≠20/\x.op≠21):=by omega
 rcases hsel with e|e|e|e|e|e|e|e|⟨e1,e2,e3,e4,e5,e6,e7,e8⟩
 case inr.inr.inr.inr.inr.inr.inr.inr=>
  have hfn:fN x.op=false:=by simp[inR] at hop;simp[fN,inR,e1,e7,e8];omega
  rw[hfn] at hand
  simp-implicitDefEqProofs at hand
  simp-implicitDefEqProofs[e1,e2,e3,e4,e5,e6,e7,e8,hfn,hand]
 all_goals
  have hfn:fN x.op=true:=by rw[e];decide
  rw[hfn] at hand
  simp-implicitDefEqProofs at hand
  rw[e] at hand
  simp-implicitDefEqProofs[Mfn.cs,e,hwk,hwp,hws,hwl,hk,hand]
  refine(dI G _ _ _).use ?_
  simp-implicitDefEqProofs[fN,ta,inR]
end
section
variable (G:az)
def Bd(p:Mins->Bool)(xs:List Mins):Int:=match xs.findIdx? p with|some i=>i|none=> -1
theorem AZ{h:List AO}{f:FuncId}{caps:List AV}(xs:List Mins)(p:Mins->Bool)(hl:xs.length<=1048576)(hcap:ab h.length caps)
 (hcall:∀x∈xs,AC Tryz.prog G f (.agg (x.cs.map .p)::caps) h λr h'=>r= .ret (.p (.bool (p x)))/\h'=h):
 AC Tryz.prog G bX [.p (bp xs),.fn (.func f) caps] h λr h'=>r= .ret (.p (.int .i64 (Bd p xs)))/\h'=h:=by
 refine AC.enterB dF λhb=>AC.enter dF ?_
 simp-implicitDefEqProofs[dK,List.replicate,bp]
 refine aw (λi:Nat=>slots 19 [(0,.p (bp xs)),(1,.fn (.func f) caps),(7,.p (.int .i64 xs.length)),(8,.p (.int .i64 i))]) (λ_=>h) (λi=>i<=xs.length/\∀x∈xs.take i,p x=false) (λi=>xs.length-i) 0 (by simp) (kV (by simp) hb (by simp[slots,List.replicate,below,bp,hcap])) ?_
 intro i ⟨hi,hp⟩
 simp-implicitDefEqProofs[slots,List.replicate,bp]
 refine cnd (λh1=>?_) (λh1=>?_)
 ·simp at h1
  simp-implicitDefEqProofs[List.getElem?_eq_getElem h1]
  refine(hcall _ (List.getElem_mem h1)).mono ?_
  rintro r h' ⟨rfl,rfl⟩
  simp-implicitDefEqProofs
  refine cnd (λh2=>?_) (λh2=>?_)
  ·have:xs.findIdx? p=some i:=by
    rw[List.findIdx?_eq_some_iff_getElem]
    refine⟨h1,h2,λj hj=>?_⟩
    have:=hp (xs[j]) (by rw[List.mem_take_iff_getElem];exact⟨j,by omega,rfl⟩)
    simp[this]
   simp[Bd,this]
  ·refine⟨i+1,⟨by omega,λx hx=>?_⟩,by omega,kV (by simp) hb ?_⟩
   ·rw[aq h1] at hx
    rcases List.mem_append.1 hx with hx|hx
    ·exact hp x hx
    ·rw[List.mem_singleton.1 hx];exact h2
   ·simp[below,hcap,w1 (i:=i) (by omega)]
 ·simp at h1
  rw[List.take_of_length_le h1] at hp
  have:xs.findIdx? p=none:=by rw[List.findIdx?_eq_none_iff];exact hp
  simp[Bd,this]
theorem us{h:List AO}{f:FuncId}{caps:List AV}(xs:List Mins)(p:Mins->Bool)(hl:xs.length<=1048576)(hcap:ab h.length caps)
 (hcall:∀x∈xs,AC Tryz.prog G f (.agg (x.cs.map .p)::caps) h λr h'=>r= .ret (.p (.bool (p x)))/\h'=h):
 AC Tryz.prog G be [.p (bp xs),.fn (.func f) caps] h λr h'=>r= .ret (.p (.bool (xs.any p)))/\h'=h:=by
 refine AC.enter fY ?_
 simp-implicitDefEqProofs[cQ,List.replicate]
 refine(AZ G xs p hl hcap hcall).mono ?_
 rintro r h' ⟨rfl,rfl⟩
 simp-implicitDefEqProofs
 rw[Bool.eq_iff_iff]
 cases h1:xs.findIdx? p with
 |none=>
  have h2:=h1
  rw[List.findIdx?_eq_none_iff] at h2
  simp[Bd,h1]
  intro x hx;simpa using h2 x hx
 |some i=>
  rw[List.findIdx?_eq_some_iff_getElem] at h1
  obtain⟨h2,h3,_⟩:=h1
  have h1:xs.findIdx? p=some i:=by rw[List.findIdx?_eq_some_iff_getElem];exact⟨h2,h3,by assumption⟩
  simp[Bd,h1]
  exact⟨_,List.getElem_mem h2,h3⟩
theorem bf(op:Int):VF Tryz.prog G cM [.p (.int .i64 op)] (.p (.bool (op==20||op==21))):=by
 refine AC.enter yx ?_
 simp-implicitDefEqProofs[nQ,List.replicate]
 by_cases h:op=20
 ·simp-implicitDefEqProofs[h]
 ·simp-implicitDefEqProofs[h]
  rw[Bool.eq_iff_iff];simp
  exact λe=>(h e).elim
variable (hG:G bW=some pvForms)
include hG
theorem yC(fs:List Mfn)(k:Nat)(f:Mfn)(x:Mins)(hk:fs[k]?=some f)(hk2:k<=1048576)(hl:f.ins.length<=1048576)(hp:inR f.params 0 3=true)(hs:inR f.slots 0 64=true)
 {h:List AO}(h0:h[0]?=some (.row 1 [[.p (bc fs)]]))(h1:h[1]?=some (.row 1 [[.p (.int .i64 k)]])):
 AC Tryz.prog G du [.agg (x.cs.map .p),.ptr 0 1 0 0,.ptr 1 1 0 0] h λr h'=>r= .ret (.p (.bool (!gT f.params f.slots f.ins.length k x)))/\h'=h:=by
 refine AC.trim (AC.enter pf ?_) (by simp)
 have a0:(h++[AO.row 5 [List.map AV.p x.cs]])[0]?=some (.row 1 [[.p (bc fs)]]):=by
  rw[List.getElem?_append_left (List.getElem?_eq_some_iff.1 h0).1];exact h0
 have a1:(h++[AO.row 5 [List.map AV.p x.cs]])[1]?=some (.row 1 [[.p (.int .i64 k)]]):=by
  rw[List.getElem?_append_left (List.getElem?_eq_some_iff.1 h1).1];exact h1
 have b0:(h++[AO.row 5 [List.map AV.p x.cs]])[0]'(by simp)=(.row 1 [[.p (bc fs)]]):=by
  rw[List.getElem?_eq_getElem (by simp)] at a0;exact Option.some.inj a0
 simp-implicitDefEqProofs[iF,List.replicate,a0,a1,b0]
 refine(HQ G hG fs k f x hk hk2 hl hp hs).use ?_
 simp-implicitDefEqProofs
theorem sT(fs:List Mfn)(hb:szF fs<=1048576):VF Tryz.prog G eh [.agg [.p (bc fs)]] (.p (.bool (bn fs))):=by
 have hsz:szF fs=fs.length+(fs.map (·.ins.length)).sum:=rfl
 refine AC.enter rG ?_
 simp-implicitDefEqProofs[kP,List.replicate]
 simp-implicitDefEqProofs[bc]
 refine(dI G _ _ _).use ?_
 simp-implicitDefEqProofs
 refine cnd (λh=>?_) (λh=>?_)
 ·simp at h;simp[bn,h]
 simp at h
 refine aw (λi:Nat=>slots 63 [(1,.ptr 0 1 0 0),(3,.p (.int .i64 (szT fs i))),(13,.p (bc fs)),(14,.p (.int .i64 fs.length)),(15,.p (.int .i64 i))]) (λ_=>[.row 1 [[.p (bc fs)]]])
  (λi=>i<=fs.length/\∀j f,j<i->fs[j]?=some f->gQ j f=true) (λi=>fs.length-i) 0 (by simp) (aU (by simp) (by simp[okO,bc]) (by simp[slots,List.replicate,below,bc])) ?_
 intro i ⟨hi,hok⟩
 simp-implicitDefEqProofs[slots,List.replicate]
 refine cnd (λh1=>?_) (λh1=>?_)
 ·simp at h1
  have hx:=mi h1
  have hx2:=pp (fs:=fs) (i:=i+1)
  have hgi:=List.getElem?_eq_getElem h1
  have hw:IntKind.i64.wrap ((szT fs i:Int)+(fs[i].ins.length:Int))=((szT fs (i+1):Nat):Int):=by rw[aa (by omega) (by omega),hx];omega
  have hfl:(bc fs)= .lst 3 (fs.map Mfn.cs):=rfl
  simp-implicitDefEqProofs[hgi,hfl]
  simp-implicitDefEqProofs[Mfn.cs,hw]
  refine(dI G _ _ _).use ?_
  by_cases hp:inR fs[i].params 0 3=true
  rotate_left
  ·simp-implicitDefEqProofs[hp]
   exact(fX hgi (by simp[gQ,hp])).symm▸rfl
  simp-implicitDefEqProofs[hp]
  refine(dI G _ _ _).use ?_
  by_cases hs:inR fs[i].slots 0 64=true
  rotate_left
  ·simp-implicitDefEqProofs[hs]
   exact(fX hgi (by simp[gQ,hs])).symm▸rfl
  by_cases h0:fs[i].ins=[]
  ·simp-implicitDefEqProofs[hs,h0]
   exact(fX hgi (by simp[gQ,h0,iN])).symm▸rfl
  have hpos:0<fs[i].ins.length:=List.length_pos_iff.2 h0
  have hwl:IntKind.i64.wrap ((fs[i].ins.length:Int)-1)=((fs[i].ins.length-1:Nat):Int):=by rw[aa (by omega) (by omega)];omega
  have hgl:=List.getElem?_eq_getElem (l:=fs[i].ins) (i:=fs[i].ins.length-1) (by omega)
  have hlo:=vt hpos
  simp-implicitDefEqProofs[hs,h0,hwl,hgl,hpos,Mins.cs]
  have hend:iN fs[i].ins=true->AC Tryz.prog G be [.p (bp fs[i].ins),.fn (.func du) [.ptr 0 1 0 0,.ptr 1 1 0 0]] [.row 1 [[.p (bc fs)]],.row 1 [[.p (.int .i64 i)]],.row 3 [[.p (.int .i64 fs[i].params),.p (.int .i64 fs[i].slots),.p (bp fs[i].ins)]]]
   λr h'=>r= .ret (.p (.bool (fs[i].ins.any λx=> !gT fs[i].params fs[i].slots fs[i].ins.length i x)))/\h'=[.row 1 [[.p (bc fs)]],.row 1 [[.p (.int .i64 i)]],.row 3 [[.p (.int .i64 fs[i].params),.p (.int .i64 fs[i].slots),.p (bp fs[i].ins)]]]:=λ_=>
   us G fs[i].ins _ (by omega) (by simp[below]) λx hx=>yC G hG fs i fs[i] x hgi (by omega) (by omega) hp hs rfl rfl
  have hrest:iN fs[i].ins=true->(fs[i].ins.any λx=> !gT fs[i].params fs[i].slots fs[i].ins.length i x)=false->∀j f,j<i+1->fs[j]?=some f->gQ j f=true:=λhl ha j f hj e=>by
   rcases Nat.lt_or_ge j i with hji|hji
   ·exact hok j f hji e
   ·obtain rfl:j=i:=by omega
    rw[hgi] at e;cases e
    simp only[gQ,hp,hs,hl,Bool.true_and,List.all_eq_true]
    simp at ha
    exact ha
  have hbadm:(fs[i].ins.any λx=> !gT fs[i].params fs[i].slots fs[i].ins.length i x)=true->bn fs=false:=λha=>by
   refine fX hgi ?_
   simp at ha
   obtain⟨x,h1,h2⟩:=ha
   have:fs[i].ins.all (gT fs[i].params fs[i].slots fs[i].ins.length i)=false:=by rw[List.all_eq_false];exact⟨x,h1,by simp[h2]⟩
   simp[gQ,this]
  by_cases e20:fs[i].ins[fs[i].ins.length-1].op=20
  ·have hl:iN fs[i].ins=true:=by rw[hlo];simp[e20]
   simp-implicitDefEqProofs[e20]
   refine(hend hl).mono ?_
   rintro r h' ⟨rfl,rfl⟩
   simp-implicitDefEqProofs
   refine cnd (λh5=>?_) (λh5=>?_)
   ·exact(hbadm h5).symm▸rfl
   ·refine⟨i+1,⟨h1,hrest hl h5⟩,by omega,so (n:=1) (by simp) (uf rfl rfl (by simp[bc])) ?_⟩
    simp[below,w1 (i:=i) (by omega),bc]
  ·simp-implicitDefEqProofs[e20]
   refine cnd (λh5=>?_) (λh5=>?_)
   ·simp at h5
    exact(fX hgi (by simp[gQ,hlo,e20,h5])).symm▸rfl
   ·simp at h5
    have hl:iN fs[i].ins=true:=by rw[hlo];simp[h5]
    refine(hend hl).mono ?_
    rintro r h' ⟨rfl,rfl⟩
    simp-implicitDefEqProofs
    refine cnd (λh6=>?_) (λh6=>?_)
    ·exact(hbadm h6).symm▸rfl
    ·refine⟨i+1,⟨h1,hrest hl h6⟩,by omega,so (n:=1) (by simp) (uf rfl rfl (by simp[bc])) ?_⟩
     simp[below,w1 (i:=i) (by omega),bc]
 ·simp at h1
  have hall:rp 0 fs=true:=rH λj f e=>by
   rw[Int.zero_add];exact hok j f (by have:=(List.getElem?_eq_some_iff.1 e).1;omega) e
  have e:kf fs=szT fs i:=by rw[kf,DC h1]
  simp[bn,hall,h,e]
  omega
end
section
def jmp(x:Mins):Bool:=x.op==20||x.op==21
def u8(n:Int):Int:=IntKind.u8.wrap n
theorem rM(n:Int):u8 n=n%256:=by simp[u8,IntKind.wrap,IntKind.bits,IntKind.signed]
def aO(x:Mins):List Int:=
 if x.op==1||inR x.op 15 18 then[u8 x.op,u8 x.a,u8 x.n] else if inR x.op 3 9 then[u8 x.op,u8 (x.a+8*x.b),u8 x.c]
 else if x.op==2||inR x.op 10 12 then[u8 x.op,u8 (x.a+8*x.b)] else if x.op==14 then[u8 x.op,u8 x.n] else[u8 x.op,u8 x.a]
theorem fm(x:Mins):(aO x).length=2\/(aO x).length=3:=by
 unfold aO;repeat' split
 all_goals simp
def aL(x:Mins)(long:Bool):Nat:=if jmp x then 2+(if long then 1 else 0)+(if x.op=21 then 1 else 0) else(aO x).length
theorem ni(x:Mins)(b:Bool):aL x b<=4:=by
 unfold aL;split
 ·split<;>split<;>omega
 ·rcases fm x with h|h<;>omega
def plc(ins:List Mins)(L:List Bool)(i:Nat):Nat:=((List.zipWith aL ins L).take i).sum
theorem uh(ins:List Mins)(L:List Bool):plc ins L 0=0:=by simp[plc]
theorem pW{ins:List Mins}{L:List Bool}{i:Nat}(h1:i<ins.length)(h2:i<L.length):plc ins L (i+1)=plc ins L i+aL ins[i] L[i]:=by
 have h:i<(List.zipWith aL ins L).length:=by simp;omega
 rw[plc,aq h,List.sum_append]
 simp[plc]
theorem jZ{ins:List Mins}{L:List Bool}(hl:L.length=ins.length):∀{i:Nat},plc ins L i<=4*ins.length:=by
 have key:∀i,i<=ins.length->plc ins L i<=4*i:=by
  intro i
  induction i with
  |zero=>intro _;rw[uh];omega
  |succ i ih=>
   intro h
   rw[pW (by omega) (by omega)]
   have:=ih (by omega)
   have:=ni ins[i] L[i]
   omega
 intro i
 rcases Nat.lt_or_ge i ins.length with h|h
 ·have:=key i (by omega);omega
 ·have h1:plc ins L i=plc ins L ins.length:=by
   have hz:(List.zipWith aL ins L).length=ins.length:=by simp;omega
   simp only[plc]
   rw[List.take_of_length_le (by omega),List.take_of_length_le (by omega)]
  have:=key ins.length (Nat.le_refl _)
  omega
def jb(ins:List Mins)(L:List Bool)(i:Nat):Bool:=match ins[i]? with
 |some x=>jmp x&& !inR ((plc ins L x.n.toNat:Int)-plc ins L i-aL x false) (-128) 127
 |none=>false
def bG(ins:List Mins)(L:List Bool):List Bool:=L.mapIdx λi b=>b||jb ins L i
theorem dB(ins:List Mins)(L:List Bool):(bG ins L).length=L.length:=by simp[bG]
def ga(L:List Bool):Nat:=L.countP (!·)
theorem uO:∀(L:List Bool) (g:Nat->Bool),(L.mapIdx λi b=>b||g i)=L\/ga (L.mapIdx λi b=>b||g i)<ga L
 |[],g=> .inl rfl
 |b::L,g=>by
  have ih:=uO L λi=>g (i+1)
  have hle:ga (L.mapIdx λi b=>b||g (i+1))<=ga L:=by
   rcases ih with h|h
   ·rw[h];exact Nat.le_refl _
   ·omega
  simp only[List.mapIdx_cons]
  cases b with
  |true=>
   rcases ih with h|h
   ·left;simp at h⊢;exact h
   ·right;simp[ga] at h⊢;exact h
  |false=>
   cases hg:g 0 with
   |true=>right;simp[ga] at hle⊢;omega
   |false=>
    rcases ih with h|h
    ·left;simp at h⊢;exact h
    ·right;simp[ga] at h⊢;omega
theorem iv(ins:List Mins)(L:List Bool)(h:bG ins L≠L):ga (bG ins L)<ga L:=by
 rcases uO L (jb ins L) with h1|h1
 ·exact(h h1).elim
 ·exact h1
def vX(ins:List Mins)(L:List Bool):List Bool:=if bG ins L=L then L else vX ins (bG ins L)
termination_by ga L
decreasing_by exact iv _ _ (by assumption)
theorem zp{ins:List Mins}{L:List Bool}(h:bG ins L=L):vX ins L=L:=by rw[vX,if_pos h]
theorem zh{ins:List Mins}{L:List Bool}(h:bG ins L≠L):vX ins L=vX ins (bG ins L):=by
 conv=>lhs;rw[vX,if_neg h]
theorem AN(ins:List Mins)(L:List Bool):(vX ins L).length=L.length:=by
 rw[vX];split
 ·rfl
 ·rw[AN,dB]
termination_by ga L
decreasing_by exact iv _ _ (by assumption)
def bE(ins:List Mins):List Bool:=vX ins (List.replicate ins.length false)
theorem fy(ins:List Mins):(bE ins).length=ins.length:=by simp[bE,AN]
def je(ins:List Mins)(L:List Bool)(i:Nat):List Int:=match ins[i]?,L[i]? with
 |some x,some b=>if !jmp x then aO x else
   [u8 (x.op+(if b then 128 else 0))]++(if x.op=21 then[u8 x.a] else[])++
    (if b then[u8 (plc ins L x.n.toNat%256:Nat),u8 (plc ins L x.n.toNat/256:Nat)] else[u8 ((plc ins L x.n.toNat:Int)-plc ins L i-aL x false)])
 |_,_=>[]
def lX(ins:List Mins)(L:List Bool)(i:Nat):List Int:=((List.range i).map (je ins L)).flatten
theorem iz(ins:List Mins)(L:List Bool)(i:Nat):lX ins L (i+1)=lX ins L i++je ins L i:=by simp[lX,List.range_succ]
def fK(ins:List Mins):Prop:=ins.length<=2000/\∀x∈ins,inR x.a 0 7=true/\inR x.b 0 7=true/\inR x.op 1 22=true/\(jmp x=true->inR x.n 0 (ins.length-1)=true)
variable (G:az)
theorem gA(x:Mins):VF Tryz.prog G bF [.agg (x.cs.map .p)] (.p (.bool (jmp x))):=by
 refine AC.enter to ?_
 simp-implicitDefEqProofs[lG,List.replicate,Mins.cs]
 by_cases h:x.op=20
 ·simp-implicitDefEqProofs[h,jmp]
 ·simp-implicitDefEqProofs[h,jmp]
  rw[Bool.eq_iff_iff];simp
  exact λe=>(h e).elim
theorem kj(b:Bool):VF Tryz.prog G da [.p (.bool b)] (.p (.int .i64 (if b then 1 else 0))):=by
 refine AC.enter yb ?_
 cases b<;>simp-implicitDefEqProofs[mC,List.replicate]
theorem CT(x:Mins)(ha:inR x.a 0 7=true)(hb:inR x.b 0 7=true):AC Tryz.prog G cx [.agg (x.cs.map .p)] [] λr h=>r= .ret (.sl 0 1 0 (aO x).length)/\h=[bV (aO x)]:=by
 have key:AC Tryz.prog G cx [.agg (x.cs.map .p)] [] λr h=>r= .ret (.sl 1 1 0 (aO x).length)/\∃o,h=[o,bV (aO x)]:=by
  refine AC.enter tN ?_
  simp[inR] at ha hb
  have hw1:IntKind.i64.wrap (8*x.b)=8*x.b:=aa (by omega) (by omega)
  have hw2:IntKind.i64.wrap (x.a+8*x.b)=x.a+8*x.b:=aa (by omega) (by omega)
  simp-implicitDefEqProofs[lS,List.replicate]
  simp-implicitDefEqProofs[Mins.cs]
  by_cases h1:x.op=1
  ·simp-implicitDefEqProofs[h1,aO,bV,u8]
  simp-implicitDefEqProofs[h1]
  refine(gg G _ _ _).use ?_
  by_cases h2:inR x.op 15 18=true
  ·simp-implicitDefEqProofs[h2,aO,bV,u8]
  simp-implicitDefEqProofs[h2]
  refine(gg G _ _ _).use ?_
  by_cases h3:inR x.op 3 9=true
  ·simp-implicitDefEqProofs[h1,h2,h3,aO,bV,u8,hw1,hw2]
  simp-implicitDefEqProofs[h3]
  by_cases h4:x.op=2
  ·simp-implicitDefEqProofs[h4,hw1,hw2,aO,bV,u8,inR]
  simp-implicitDefEqProofs[h4]
  refine(gg G _ _ _).use ?_
  by_cases h5:inR x.op 10 12=true
  ·simp-implicitDefEqProofs[h1,h2,h3,h4,h5,aO,bV,u8,hw1,hw2]
  simp-implicitDefEqProofs[h5]
  by_cases h6:x.op=14
  ·simp-implicitDefEqProofs[h6,aO,bV,u8,inR]
  ·simp-implicitDefEqProofs[h1,h2,h3,h4,h5,h6,aO,bV,u8]
 refine key.gc (λt v h ⟨e,_⟩=>by cases e) λv h ⟨e1,o,e2⟩=>?_
 cases e1;subst e2
 exact⟨.sl 0 1 0 (aO x).length,[bV (aO x)],⟨[1],by simp,by simp,by simp,by simp[below],by simp[ren],by simp,⟨by simp[bV],by simp[bV,aF,ren]⟩,trivial⟩,rfl,rfl⟩
theorem nv{l:List Int}{id:Nat}{h:List AO}(e:h[id]?=some (bV l)):View h (.sl id 1 0 l.length) (aN l):=by
 have:=eP (h:=h) (id:=id) (sz:=1) (n:=l.length) (ls:=l.map λn=>[.int .u8 n]) (by rw[e,bV];simp) (by simp) (by simp)
 exact this
theorem uQ(x:Mins)(ha:inR x.a 0 7=true)(hb:inR x.b 0 7=true):VF Tryz.prog G cx [.agg (x.cs.map .p)] (.p (aN (aO x))):=
 AC.freeze (CT G x ha hb) (.one (nv rfl) .nil)
theorem kR(x:Mins)(b:Bool)(ha:inR x.a 0 7=true)(hb:inR x.b 0 7=true):VF Tryz.prog G db [.agg (x.cs.map .p),.p (.bool b)] (.p (.int .i64 (aL x b))):=by
 refine AC.enter vq ?_
 simp-implicitDefEqProofs[nq,List.replicate]
 refine(gA G x).use ?_
 by_cases hj:jmp x=true
 ·simp-implicitDefEqProofs[hj,Mins.cs]
  refine(kj G b).use ?_
  simp-implicitDefEqProofs[]
  refine(kj G _).use ?_
  simp-implicitDefEqProofs[aL,hj]
  by_cases h21:x.op=21<;>cases b<;>simp[h21,IntKind.wrap,IntKind.bits,IntKind.signed]
 ·simp-implicitDefEqProofs[hj]
  refine(uQ G x ha hb).use ?_
  simp-implicitDefEqProofs[aL,hj,aN]
end
section
def iT(l:List Nat):PV:= .lst 1 (l.map λ(n:Nat)=>[.int .i64 (n:Int)])
def ay(l:List Nat):AO:= .row 1 (l.map λ(n:Nat)=>[.p (.int .i64 (n:Int))])
def mG(l:List Bool):PV:= .lst 1 (l.map λb=>[.bool b])
def aG(l:List Bool):AO:= .row 1 (l.map λb=>[.p (.bool b)])
def dj(ins:List Mins)(L:List Bool)(k:Nat):List Nat:=(List.range k).map (plc ins L)
theorem iY(ins:List Mins)(L:List Bool)(k:Nat):(dj ins L k).length=k:=by simp[dj]
theorem zq(ins:List Mins)(L:List Bool)(k:Nat):dj ins L (k+1)=dj ins L k++[plc ins L k]:=by simp[dj,List.range_succ]
theorem fQ{ins:List Mins}{L:List Bool}{k i:Nat}(h:i<k):(dj ins L k)[i]?=some (plc ins L i):=by simp[dj,h]
variable (G:az)
theorem sZ(f:Mfn)(L:List Bool)(hl:L.length=f.ins.length)(hf:fK f.ins):
 AC Tryz.prog G bz [.agg (f.cs.map .p),.p (mG L)] [] λr h=>r= .ret (.tup [.sl 0 1 0 f.ins.length,.p (.int .i64 (plc f.ins L f.ins.length))])/\h=[ay (dj f.ins L f.ins.length)]:=by
 obtain⟨hn,hfi⟩:=hf
 have key:AC Tryz.prog G bz [.agg (f.cs.map .p),.p (mG L)] [] λr h=>r= .ret (.tup [.sl 1 1 0 f.ins.length,.p (.int .i64 (plc f.ins L f.ins.length))])/\∃o,h=[o,ay (dj f.ins L f.ins.length)]:=by
  refine AC.enter rV ?_
  simp-implicitDefEqProofs[kH,List.replicate,mG]
  refine aw (λi:Nat=>slots 35 [(1,.p (mG L)),(2,.ptr 0 3 0 0),(6,.sl 1 1 0 i),(7,.p (.int .i64 (plc f.ins L i))),(8,.p (.int .i64 i))]) (λi=>[.row 3 [f.cs.map .p],ay (dj f.ins L i)])
   (λi=>i<=f.ins.length) (λi=>f.ins.length-i) 0 (by simp) ?_ ?_
  ·refine aU ?_ ?_ ?_
   ·simp
   ·simp[okO,Mfn.cs]
   simp[slots,List.replicate,below,mG,uh]
  ·intro i hi
   simp-implicitDefEqProofs[slots,List.replicate,mG]
   simp-implicitDefEqProofs[Mfn.cs]
   refine cnd (λh1=>?_) (λh1=>?_)
   ·simp at h1
    have h2:i<L.length:=by omega
    obtain⟨q1,q2,q3,q4⟩:=hfi _ (List.getElem_mem h1)
    have hle:=jZ (ins:=f.ins) (L:=L) hl (i:=i)
    have hsz:=ni f.ins[i] L[i]
    have hw:IntKind.i64.wrap ((plc f.ins L i:Int)+(aL f.ins[i] L[i]:Int))=((plc f.ins L (i+1):Nat):Int):=by rw[aa (by omega) (by omega),pW h1 h2];omega
    have hg1:=List.getElem?_eq_getElem h1
    have hg2:=List.getElem?_eq_getElem h2
    have hin:ay (dj f.ins L i)= .row 1 ((dj f.ins L i).map λ(n:Nat)=>[.p (.int .i64 (n:Int))]):=rfl
    have hlen:=iY f.ins L i
    simp-implicitDefEqProofs[hin,hlen,hg1,hg2]
    refine⟨by omega,?_⟩
    have e:List.take i (List.map (λ(n:Nat)=>[AV.p (.int .i64 (n:Int))]) (dj f.ins L i))++[[AV.p (.int .i64 ((plc f.ins L i:Nat):Int))]]=(dj f.ins L (i+1)).map λ(n:Nat)=>[AV.p (.int .i64 (n:Int))]:=by
     rw[List.take_of_length_le (by simp[hlen]),zq,List.map_append];rfl
    rw[e]
    refine(kR G f.ins[i] L[i] q1 q2).use ?_
    simp-implicitDefEqProofs[hw]
    refine⟨i+1,h1,by omega,Ao [0,3] rfl (by simp) (af rfl (by simp) (af rfl (by simp) aj)) ?_⟩
    simp[below,ren,w1 (i:=i) (by omega)]
   ·simp at h1
    have:i=f.ins.length:=by omega
    subst this
    simp-implicitDefEqProofs
 refine key.gc (λt v h ⟨e,_⟩=>by cases e) λv h ⟨e1,o,e2⟩=>?_
 cases e1;subst e2
 exact⟨.tup [.sl 0 1 0 f.ins.length,.p (.int .i64 (plc f.ins L f.ins.length))],[ay (dj f.ins L f.ins.length)],⟨[1],by simp,by simp,by simp,by simp[below],by simp[ren,aF],by simp,⟨by simp[ay],by simp[ay,aF,ren]⟩,trivial⟩,rfl,rfl⟩
end
section
theorem ux{l:List Bool}{id:Nat}{h:List AO}(e:h[id]?=some (aG l)):View h (.sl id 1 0 l.length) (mG l):=by
 have:=eP (h:=h) (id:=id) (sz:=1) (n:=l.length) (ls:=l.map λb=>[.bool b]) (by rw[e,aG];simp) (by simp) (λx hx=>by obtain⟨b,_,rfl⟩:=List.mem_map.1 hx;rfl)
 exact this
theorem oZ{ins:List Mins}{L:List Bool}{i:Nat}(h:i<L.length):(bG ins L)[i]'(by rw[dB];exact h)=(L[i]||jb ins L i):=by simp[bG]
def bH(ins:List Mins)(L:List Bool)(i:Nat):List Bool:=(bG ins L).take i++L.drop i
theorem oS{ins:List Mins}{L:List Bool}{i:Nat}(h:i<=L.length):(bH ins L i).length=L.length:=by simp[bH,dB];omega
theorem oT{ins:List Mins}{L:List Bool}{i:Nat}(h:i<L.length):(bH ins L i)[i]?=some L[i]:=by
 rw[bH,List.getElem?_append_right (by simp[dB];omega),List.length_take,dB,Nat.min_eq_left (by omega),Nat.sub_self,List.drop_eq_getElem_cons h];rfl
theorem oJ{ins:List Mins}{L:List Bool}{i:Nat}(h:i<L.length):(bH ins L i).set i (L[i]||jb ins L i)=bH ins L (i+1):=by
 have hl:((bG ins L).take i).length=i:=by simp[dB];omega
 rw[bH,List.set_append_right _ _ (by omega),hl,Nat.sub_self,List.drop_eq_getElem_cons h,List.set_cons_zero,bH,aq (by rw[dB];exact h),oZ h]
 simp
theorem fD{ins:List Mins}{L:List Bool}{i:Nat}(h:i<L.length)(hs:(L[i]||jb ins L i)=L[i]):bH ins L i=bH ins L (i+1):=by
 rw[←oJ h,hs]
 have h2:i<(bH ins L i).length:=by rw[oS (by omega)];exact h
 have h3:=oT (ins:=ins) h
 rw[List.getElem?_eq_getElem h2] at h3
 conv=>lhs;rw[←List.set_getElem_self h2]
 rw[Option.some.inj h3]
variable (G:az)
theorem EH(f:Mfn)(hf:fK f.ins):AC Tryz.prog G ch [.agg (f.cs.map .p)] [] λr h=>r= .ret (.sl 0 1 0 f.ins.length)/\h=[aG (bE f.ins)]:=by
 have hf':=hf
 obtain⟨hn,hfi⟩:=hf'
 have key:AC Tryz.prog G ch [.agg (f.cs.map .p)] [] λr h=>r= .ret (.sl 1 1 0 f.ins.length)/\∃o,h=[o,aG (bE f.ins)]:=by
  refine AC.enter vv ?_
  simp-implicitDefEqProofs[-Prod.exists,ng,List.replicate]
  simp-implicitDefEqProofs[-Prod.exists,Mfn.cs]
  refine⟨by omega,?_⟩
  refine aw (λa:Bool × List Bool=>slots 73 [(1,.ptr 0 3 0 0),(3,.sl 1 1 0 f.ins.length),(4,.p (.bool a.1))]) (λa=>[.row 3 [f.cs.map .p],aG a.2])
   (λa=>a.2.length=f.ins.length/\(if a.1 then vX f.ins a.2=bE f.ins else a.2=bE f.ins)) (λa=>2*ga a.2+(if a.1 then 1 else 0)) (true,List.replicate f.ins.length false) (by simp[bE]) ?_ ?_
  ·have e:AO.row 1 (List.replicate f.ins.length [AV.p (PV.bool false)])=aG (List.replicate f.ins.length false):=by simp[aG]
   rw[e]
   refine aU ?_ ?_ ?_
   ·simp
   ·simp[-Bool.exists_bool,-Bool.forall_bool,okO,aG]
   simp[slots,List.replicate,below]
  ·rintro⟨again,L⟩ ⟨hL,hfix⟩
   simp only at hL hfix
   simp-implicitDefEqProofs[-Prod.exists,slots,List.replicate]
   refine cnd (λh1=>?_) (λh1=>?_)
   ·subst h1
    simp only[if_true] at hfix
    simp-implicitDefEqProofs[-Prod.exists,Mfn.cs]
    refine(AC.lend (sZ G f L hL hf) (.keep (by simp[Mfn.cs]) (.one (by rw[←hL];exact ux rfl) .nil)) rfl ?_).mono ?_
    ·simp[cleanO,ay,dk,clean]
    rintro r h ⟨rfl,rfl⟩
    have hbo:aG L= .row 1 (L.map λb=>[.p (.bool b)]):=rfl
    have hsh:aX 2 (ay (dj f.ins L f.ins.length))=ay (dj f.ins L f.ins.length):=by simp[aX,ay,bi,aY]
    have hsL:List.take f.ins.length L=L:=List.take_of_length_le (by omega)
    have htk:List.take f.ins.length (L.map λb=>[AV.p (PV.bool b)])=L.map λb=>[AV.p (PV.bool b)]:=List.take_of_length_le (by simp[hL])
    simp-implicitDefEqProofs[-Prod.exists,aY,bi,hsh,hbo,hL,htk]
    refine⟨by omega,?_⟩
    have e0:AO.row 1 (L.map λb=>[AV.p (.bool b)])=aG (bH f.ins L 0):=by simp[aG,bH]
    have hin:ay (dj f.ins L f.ins.length)= .row 1 ((dj f.ins L f.ins.length).map λ(n:Nat)=>[.p (.int .i64 (n:Int))]):=rfl
    have hplen:=iY f.ins L f.ins.length
    have hrl:=dB f.ins L
    refine aw (λa:Nat × Bool=>slots 73 [(1,.ptr 0 3 0 0),(3,.sl 1 1 0 f.ins.length),(4,.p (.bool a.2)),(5,.sl 2 1 0 f.ins.length),(7,.sl 4 1 0 f.ins.length),(8,.p (.int .i64 a.1))])
     (λa=>[.row 3 [f.cs.map .p],aG L,ay (dj f.ins L f.ins.length),.dead,aG (bH f.ins L a.1)])
     (λa=>a.1<=f.ins.length/\(a.2=false->(bG f.ins L).take a.1=L.take a.1)/\(a.2=true->bG f.ins L≠L)) (λa=>f.ins.length-a.1) (0,false) (by simp) ?_ ?_
    ·rw[←e0]
     refine aU ?_ ?_ ?_
     ·simp
     ·simp[-Bool.exists_bool,-Bool.forall_bool,okO,Mfn.cs,aG,ay]
     simp[slots,List.replicate,below]
    ·rintro⟨i,c⟩ ⟨hi,hc0,hc1⟩
     simp only at hi hc0 hc1
     simp-implicitDefEqProofs[-Prod.exists,slots,List.replicate]
     simp-implicitDefEqProofs[-Prod.exists,Mfn.cs]
     refine cnd (λh1=>?_) (λh1=>?_)
     ·simp at h1
      have h2:i<L.length:=by omega
      obtain⟨q1,q2,q3,q4⟩:=hfi _ (List.getElem_mem h1)
      have hg1:=List.getElem?_eq_getElem h1
      have hg2:=List.getElem?_eq_getElem h2
      have hrg:=oZ (ins:=f.ins) h2
      have hstay:(L[i]||jb f.ins L i)=L[i]->∃a:Nat × Bool,a=(i+1,c)/\(a.1<=f.ins.length/\(a.2=false->(bG f.ins L).take a.1=L.take a.1)/\(a.2=true->bG f.ins L≠L)):=λhs=>by
       refine⟨(i+1,c),rfl,h1,λhc=>?_,hc1⟩
       rw[aq (by rw[hrl];exact h2),aq h2,hc0 hc,hrg,hs]
      simp-implicitDefEqProofs[-Prod.exists,hg1]
      refine(gA G f.ins[i]).use ?_
      by_cases hj:jmp f.ins[i]=true
      ·simp-implicitDefEqProofs[-Prod.exists,hj,hbo,hL,h1]
       refine cnd (λh3=>?_) (λh3=>?_)
       ·have hs:(L[i]||jb f.ins L i)=L[i]:=by simp[h3]
        obtain⟨a,rfl,ha⟩:=hstay hs
        refine⟨(i+1,c),ha,(by show f.ins.length-(i+1)<f.ins.length-i;omega),?_⟩
        rw[fD h2 hs]
        refine aU ?_ ?_ ?_
        ·simp
        ·simp[-Bool.exists_bool,-Bool.forall_bool,okO,aG,ay]
        simp[below,w1 (i:=i) (by omega)]
       ·have q5:=q4 hj
        simp[inR] at q5
        have hnl:f.ins[i].n.toNat<f.ins.length:=by omega
        have hp1:=fQ (ins:=f.ins) (L:=L) hnl
        have hp2:=fQ (ins:=f.ins) (L:=L) h1
        have hle1:=jZ (ins:=f.ins) (L:=L) hL (i:=i)
        have hle2:=jZ (ins:=f.ins) (L:=L) hL (i:=f.ins[i].n.toNat)
        have hsb:=ni f.ins[i] false
        have hwd1:IntKind.i64.wrap ((plc f.ins L f.ins[i].n.toNat:Int)-(plc f.ins L i:Int))=(plc f.ins L f.ins[i].n.toNat:Int)-(plc f.ins L i:Int):=aa (by omega) (by omega)
        have hwd2:IntKind.i64.wrap ((plc f.ins L f.ins[i].n.toNat:Int)-(plc f.ins L i:Int)-(aL f.ins[i] false:Int))=(plc f.ins L f.ins[i].n.toNat:Int)-(plc f.ins L i:Int)-(aL f.ins[i] false:Int):=aa (by omega) (by omega)
        simp-implicitDefEqProofs[-Prod.exists,Mins.cs,hin,hp1,hp2,hg1]
        refine⟨by omega,?_⟩
        refine(kR G f.ins[i] false q1 q2).use ?_
        simp-implicitDefEqProofs[-Prod.exists,hg1,hp1,hp2,Mins.cs,hwd1,hwd2]
        refine(gg G _ _ _).use ?_
        simp-implicitDefEqProofs[-Prod.exists]
        have hneed:jb f.ins L i= !inR ((plc f.ins L f.ins[i].n.toNat:Int)-(plc f.ins L i:Int)-(aL f.ins[i] false:Int)) (-128) 127:=by simp[jb,hg1,hj]
        refine cnd (λh4=>?_) (λh4=>?_)
        ·simp at h4
         have hnt:jb f.ins L i=true:=by rw[hneed,h4];rfl
         have hset:=oJ (ins:=f.ins) h2
         rw[h3,hnt] at hset
         simp only[Bool.false_or] at hset
         have hnlen:i<(bH f.ins L i).length:=by rw[oS (by omega)];exact h2
         have hng:=oT (ins:=f.ins) h2
         have hbn:aG (bH f.ins L i)= .row 1 ((bH f.ins L i).map λb=>[.p (.bool b)]):=rfl
         have hset2:((bH f.ins L i).map λb=>[AV.p (.bool b)]).set i [AV.p (.bool true)]=(bH f.ins L (i+1)).map λb=>[AV.p (.bool b)]:=by rw[←hset,List.map_set]
         simp-implicitDefEqProofs[-Prod.exists,hbn,h1,hng,hset2]
         refine⟨(i+1,true),⟨h1,by simp,λ_ he=>?_⟩,(by show f.ins.length-(i+1)<f.ins.length-i;omega),?_⟩
         ·have h5:=hrg
          have h6:(bG f.ins L)[i]?=some true:=by rw[List.getElem?_eq_getElem (by rw[hrl];exact h2),hrg,hnt];simp
          rw[he,hg2,h3] at h6;cases h6
         ·refine aU ?_ ?_ ?_
          ·simp
          ·simp[-Bool.exists_bool,-Bool.forall_bool,okO,aG,ay]
          simp[below,w1 (i:=i) (by omega)]
        ·simp at h4
         have hnt:jb f.ins L i=false:=by rw[hneed,h4];rfl
         have hs:(L[i]||jb f.ins L i)=L[i]:=by simp[hnt]
         obtain⟨a,rfl,ha⟩:=hstay hs
         refine⟨(i+1,c),ha,(by show f.ins.length-(i+1)<f.ins.length-i;omega),?_⟩
         rw[fD h2 hs]
         refine aU ?_ ?_ ?_
         ·simp
         ·simp[-Bool.exists_bool,-Bool.forall_bool,okO,aG,ay]
         simp[below,w1 (i:=i) (by omega)]
      ·simp-implicitDefEqProofs[-Prod.exists,hj]
       have hs:(L[i]||jb f.ins L i)=L[i]:=by simp[jb,hg1,hj]
       obtain⟨a,rfl,ha⟩:=hstay hs
       refine⟨(i+1,c),ha,(by show f.ins.length-(i+1)<f.ins.length-i;omega),?_⟩
       rw[fD h2 hs]
       refine aU ?_ ?_ ?_
       ·simp
       ·simp[-Bool.exists_bool,-Bool.forall_bool,okO,aG,ay]
       simp[below,w1 (i:=i) (by omega)]
     ·simp at h1
      have hie:i=f.ins.length:=by omega
      subst hie
      have hnx:bH f.ins L f.ins.length=bG f.ins L:=by rw[bH,List.take_of_length_le (by rw[hrl];omega),List.drop_of_length_le (by omega),List.append_nil]
      rw[List.take_of_length_le (by rw[hrl];omega),List.take_of_length_le (by omega)] at hc0
      rw[hnx]
      simp-implicitDefEqProofs[-Prod.exists]
      refine⟨(c,bG f.ins L),⟨by rw[hrl];exact hL,?_⟩,?_,Ao [0,4] rfl (by simp) (af rfl (by simp) (af rfl (by simp[-Bool.exists_bool,-Bool.forall_bool]) aj)) ?_⟩
      ·cases c with
       |false=>
        have:=hc0 rfl
        simp only[Bool.false_eq_true,if_false]
        rw[←hfix,zp this,this]
       |true=>simp only[if_true];rw[←hfix,zh (hc1 rfl)]
      ·cases c with
       |false=>have:=hc0 rfl;rw[this];simp
       |true=>have:=iv _ _ (hc1 rfl);simp;omega
      ·simp[below,ren]
   ·subst h1
    simp at hfix
    subst hfix
    simp-implicitDefEqProofs[-Prod.exists]
 refine key.gc (λt v h ⟨e,_⟩=>by cases e) λv h ⟨e1,o,e2⟩=>?_
 cases e1;subst e2
 exact⟨.sl 0 1 0 f.ins.length,[aG (bE f.ins)],⟨[1],by simp,by simp,by simp,by simp[below],by simp[ren],af rfl (by simp[-Bool.exists_bool,-Bool.forall_bool]) aj⟩,rfl,rfl⟩
end
end Go.Proofs.YtbnajafpkeficaaGreatDoor
namespace Go.Aw
def look:List (Nat × AV)->Nat->AV
 |[],_=> .any
 |x::r,j=>if x.1=j then x.2 else look r j
@[simp] theorem LA(j:Nat):look [] j= .any:=rfl
@[simp] theorem LZ(d:Nat)(v:AV)(r:List (Nat × AV)):look ((d,v)::r) d=v:=by simp[look]
@[simp] theorem KJ{d j:Nat}(v:AV)(r:List (Nat × AV))(h:d≠j):look ((d,v)::r) j=look r j:=by simp[look,h]
def aB(n:Nat)(l:List (Nat × AV)):List AV:=(List.range n).map (look l)
theorem rt{n i:Nat}{l:List (Nat × AV)}(h:i<n):(aB n l)[i]?=some (look l i):=by simp[aB,h]
@[simp] theorem Lv{n j:Nat}{l:List (Nat × AV)}(h:j<n):sel (aB n l) j=look l j:=by
 rw[←pu,List.getD_eq_getElem?_getD,rt h];rfl
@[simp] theorem KM(n d:Nat)(v:AV)(l:List (Nat × AV)):zC (aB n l) d v=aB n ((d,v)::l):=by
 rw[←zx]
 refine List.ext_getElem? λi=>?_
 rw[List.getElem?_set]
 by_cases hi:i<n
 ·rw[rt hi,rt hi]
  by_cases hd:d=i
  ·subst hd
   simp[aB,hi]
  ·simp[hd]
 ·simp only[aB,List.length_map,List.length_range]
  rw[List.getElem?_eq_none (by simp;omega),List.getElem?_eq_none (by simp;omega)]
  split
  ·rw[if_neg (by omega)]
  ·rfl
def zA:Nat->List AV->List (Nat × AV)
 |_,[]=>[]
 |k,a::r=>(k,a)::zA (k+1) r
@[simp] theorem LG(k:Nat):zA k []=[]:=rfl
@[simp] theorem KV(k:Nat)(a:AV)(r:List AV):zA k (a::r)=(k,a)::zA (k+1) r:=rfl
theorem yY:∀(l:List AV) (k i:Nat),look (zA k l) i=if k<=i then(l[i-k]?).getD .any else .any
 |[],k,i=>by simp
 |a::r,k,i=>by
  simp only[zA,look]
  split
  ·rename_i h;subst h;simp
  ·rename_i h
   rw[yY r (k+1) i]
   by_cases hk:k<=i
   ·rw[if_pos (by omega),if_pos hk,show i-k=(i-(k+1))+1 by omega];simp
   ·rw[if_neg (by omega),if_neg hk]
theorem zs{n:Nat}{args:List AV}(h:args.length<=n):args++List.replicate (n-args.length) .any=aB n (zA 0 args):=by
 refine List.ext_getElem? λi=>?_
 by_cases hi:i<n
 ·rw[rt hi,yY,if_pos (Nat.zero_le _),Nat.sub_zero]
  by_cases ha:i<args.length
  ·rw[List.getElem?_append_left ha,List.getElem?_eq_getElem ha];rfl
  ·rw[List.getElem?_append_right (by omega),List.getElem?_replicate,if_pos (by omega),List.getElem?_eq_none (by omega)];rfl
 ·rw[List.getElem?_eq_none (by simp;omega),List.getElem?_eq_none (by simp[aB];omega)]
theorem AC.go{P:Program}{G:az}{f:FuncId}{F:FK}(hF:ah P f=some F){args:List AV}{h:List AO}{R:ARes->List AO->Prop}
 (H:AKW P G h.length F.ak (aB F.ntmps (zA 0 args)) h (yE G F.res R))(hl:Nat.ble args.length F.ntmps=true:=by rfl):AC P G f args h R:=
 AC.enter hF (by rw[zs (Nat.le_of_ble_eq_true hl)];exact H)
theorem AC.goK{P:Program}{G:az}{f:FuncId}{F:FK}(hF:ah P f=some F){K:AK}(hK:K.whole=F.ak){args:List AV}{h:List AO}{R:ARes->List AO->Prop}
 (H:AKW P G h.length K (aB F.ntmps (zA 0 args)) h (yE G F.res R))(hl:Nat.ble args.length F.ntmps=true:=by rfl):AC P G f args h R:=
 AC.enterK hF K (λ_ h=>KOk.cuts (hK▸h)) (by rw[zs (Nat.le_of_ble_eq_true hl)];exact H)
def FgA(m:Nat)(l:List (Nat × AV)):List (Nat × AV)->Prop
 |[]=>True
 |x::r=>(below m x.2/\look l x.1=x.2)/\FgA m l r
@[simp] theorem MN(m:Nat)(l:List (Nat × AV)):FgA m l []=True:=rfl
@[simp] theorem Ly(m:Nat)(l:List (Nat × AV))(x:Nat × AV)(r:List (Nat × AV)):FgA m l (x::r)=((below m x.2/\look l x.1=x.2)/\FgA m l r):=rfl
def TWA(ρ:List Nat)(l:List (Nat × AV)):List (Nat × AV)->Prop
 |[]=>True
 |x::r=>(below ρ.length x.2/\ren ρ x.2=look l x.1)/\TWA ρ l r
@[simp] theorem Na(ρ:List Nat)(l:List (Nat × AV)):TWA ρ l []=True:=rfl
@[simp] theorem Mt(ρ:List Nat)(l:List (Nat × AV))(x:Nat × AV)(r:List (Nat × AV)):TWA ρ l (x::r)=((below ρ.length x.2/\ren ρ x.2=look l x.1)/\TWA ρ l r):=rfl
theorem DA{m:Nat}{l:List (Nat × AV)}:∀{l1:List (Nat × AV)},FgA m l l1->∀i,look l1 i= .any\/(below m (look l1 i)/\look l1 i=look l i)
 |[],_,i=> .inl rfl
 |x::r,h,i=>by
  simp only[look]
  split
  ·rename_i e;subst e;exact .inr ⟨h.1.1,h.1.2.symm⟩
  ·exact DA h.2 i
theorem Ek{ρ:List Nat}{l:List (Nat × AV)}:∀{l1:List (Nat × AV)},TWA ρ l l1->∀i,look l1 i= .any\/(below ρ.length (look l1 i)/\ren ρ (look l1 i)=look l i)
 |[],_,i=> .inl rfl
 |x::r,h,i=>by
  simp only[look]
  split
  ·rename_i e;subst e;exact .inr h.1
  ·exact Ek h.2 i
theorem uV{m n:Nat}{l l1:List (Nat × AV)}(h:FgA m l l1):Fgt m (aB n l) (aB n l1):=by
 have key:∀r:List Nat,Fgt m (r.map (look l)) (r.map (look l1)):=by
  intro r
  induction r with
  |nil=>trivial
  |cons i r ih=>exact⟨DA h i,ih⟩
 exact key _
theorem zZ{ρ:List Nat}{n:Nat}{l l1:List (Nat × AV)}(h:TWA ρ l l1):TW ρ (aB n l) (aB n l1):=by
 have key:∀r:List Nat,TW ρ (r.map (look l)) (r.map (look l1)):=by
  intro r
  induction r with
  |nil=>trivial
  |cons i r ih=>exact⟨Ek h i,ih⟩
 exact key _
theorem aD{k n:Nat}{l l1:List (Nat × AV)}{h:List AO}(hk:k=0)(H:FgA 0 l l1):Wk k (aB n l) h (aB n l1) []:=oR hk (uV H)
theorem bh{k n:Nat}{l l1:List (Nat × AV)}{h:List AO}(hk:k<=h.length)(ho:∀o∈h,okO h.length o)(H:FgA h.length l l1):Wk k (aB n l) h (aB n l1) h:=aU hk ho (uV H)
theorem mo{k n:Nat}{l l1:List (Nat × AV)}{h:List AO}(hk:k<=h.length)(hb:HB h)(H:FgA h.length l l1):Wk k (aB n l) h (aB n l1) h:=kV hk hb (uV H)
theorem al(ρ:List Nat){k n:Nat}{l l1:List (Nat × AV)}{h h1:List AO}(hk:k=0)(nd:ρ.Nodup)(HH:HW ρ h ρ h1)(H:TWA ρ l l1):Wk k (aB n l) h (aB n l1) h1:=Ao ρ hk nd HH (zZ H)
structure Blk (A B:Prop):Type where
 mk::
def EI(b:Bool)(A B:Prop)(_w:Blk A B):Prop:=Cnd b A B
@[simp high] theorem Mw(A B:Prop)(b:Bool):GR A B (.p (.bool b))=EI b A B ⟨⟩:=rfl
@[simp high] theorem KW(A B:Prop)(b:Bool):grd true A B (.p (.bool b))=EI b A B ⟨⟩:=rfl
@[simp high] theorem KY(A B:Prop)(b:Bool):grd false A B (.p (.bool b))=EI (!b) A B ⟨⟩:=rfl
@[simp] theorem Li(A B:Prop)(w:Blk A B):EI true A B w=A:=GG A B
@[simp] theorem KB(A B:Prop)(w:Blk A B):EI false A B w=B:=EE A B
theorem aR{b:Bool}{A B:Prop}{w:Blk A B}(h1:b=true->A)(h2:b=false->B):EI b A B w:=⟨h1,h2⟩
theorem an{ρ:List Nat}{h:List AO}{i:Nat}{π:List Nat}{o:AO}{r1:List AO}(e:h[i]?=some o)(ho:okO 0 o)(hr:HW ρ h π r1):HW ρ h (i::π) (o::r1):=by
 cases o with
 |dead=>exact cm (List.getElem?_eq_some_iff.1 e).1 hr
 |row sz es=>exact af e ho hr
 |sit s p=>exact⟨(List.getElem?_eq_some_iff.1 e).1,e,hr⟩
 |mp es=>
  refine⟨(List.getElem?_eq_some_iff.1 e).1,⟨λx hx=>?_,?_⟩,hr⟩
  ·have:=mZ (Nat.zero_le ρ.length) [x.2] ⟨ho x hx,trivial⟩
   exact this.1
  ·have:es.map (λx=>(x.1,ren ρ x.2))=es:=by
    rw[List.map_congr_left (g:=id) λx hx=>by
     have:=rY ρ [x.2] ⟨ho x hx,trivial⟩
     simp only[aF,List.cons.injEq,and_true] at this
     rw[this];rfl]
    simp
   rw[this];exact e
theorem cS(ρ:List Nat){k n:Nat}{l l1:List (Nat × AV)}{h h1:List AO}(hk:k<=ρ.length)(hi:∀i,i<k->ρ.getD i 0=i)(nd:ρ.Nodup)(HH:HW ρ h ρ h1)(H:TWA ρ l l1):Wk k (aB n l) h (aB n l1) h1:=
 Wk.of ρ hk hi nd (zZ H) HH
theorem tW(ρ:List Nat){k n:Nat}{l l1:List (Nat × AV)}{h h1:List AO}(hk:k<=ρ.length)(hi:∀i,i<k->ρ.getD i 0=i)(nd:(iq ρ h1).Nodup)(HH:HW ρ h ρ h1)(H:TWA ρ l l1):Wk k (aB n l) h (aB n l1) h1:=
 Wk.ofL ρ hk hi nd (zZ H) HH
attribute [simp] nD
end Go.Aw
namespace Go.Aw
mutual
def nN:AV->Bool
 | .agg cs=>jD cs
 | .tup cs=>jD cs
 | .fn _ _=>false
 |_=>true
def jD:List AV->Bool
 |[]=>true
 |v::r=>nN v&&jD r
end
def iL:AO->Bool
 | .row _ es=>es.all jD
 | .mp es=>es.all λx=>nN x.2
 | .sit .. =>true
 | .dead=>true
theorem nG:∀{l:List AV},jD l=true->∀(j:Nat) (c:AV),l[j]?=some c->nN c=true
 |v::r,h,0,c,e=>by simp at e;subst e;simp[jD] at h;exact h.1
 |v::r,h,j+1,c,e=>by simp[jD] at h;exact nG h.2 j c (by simpa using e)
theorem uz{W:World}{S:Nat->Prop}{φ φ':au}{n m:Nat}:∀{v:AV} {x:Value},VRel W S φ' m v x->nN v=true->VRel W S (gb n φ φ') (n+m) (aY n v) x:=by
 intro v x h
 induction h with
 |p pv x hp=>intro _;exact .p _ _ hp
 |agg cs vs hs _ ih=>
  intro hc
  simp only[nN] at hc
  simp only[aY,bu]
  refine .agg _ vs (by simp[hs]) λj c y h1 h2=>?_
  simp only[List.getElem?_map,Option.map_eq_some_iff] at h1
  obtain⟨c0,h1,rfl⟩:=h1
  exact ih j c0 y h1 h2 (nG hc j c0 h1)
 |tup cs vs hs _ ih=>
  intro hc
  simp only[nN] at hc
  simp only[aY,bu]
  refine .tup _ vs (by simp[hs]) λj c y h1 h2=>?_
  simp only[List.getElem?_map,Option.map_eq_some_iff] at h1
  obtain⟨c0,h1,rfl⟩:=h1
  exact ih j c0 y h1 h2 (nG hc j c0 h1)
 |ptr id esz i off hid=>
  intro _
  have:=VRel.ptr (W:=W) (S:=S) (φ:=gb n φ φ') (n:=n+m) (n+id) esz i off (by omega)
  rw[dc] at this;exact this
 |sl id esz off len cap ba hid hl hb hc=>
  intro _
  have:=VRel.sl (W:=W) (S:=S) (φ:=gb n φ φ') (n:=n+m) (n+id) esz off len cap ba (by omega) hl (by rw[dc];exact hb) (by rw[dc];exact hc)
  simpa[aY] using this
 |mp id hid=>
  intro _
  have:=VRel.mp (W:=W) (S:=S) (φ:=gb n φ φ') (n:=n+m) (n+id) (by omega)
  rw[dc] at this;exact this
 |it id hid=>
  intro _
  have:=VRel.it (W:=W) (S:=S) (φ:=gb n φ φ') (n:=n+m) (n+id) (by omega)
  rw[dc] at this;exact this
 |gp g off=>intro _;exact .gp g off
 |nils=>intro _;exact .nils
 |nilp=>intro _;exact .nilp
 |nilf=>intro _;exact .nilf
 |nilm=>intro _;exact .nilm
 |nili=>intro _;exact .nili
 |any x=>intro _;exact .any x
 |eptr e off b o hb hc=>intro _;exact .eptr e off b o hb hc
 |fn=>intro hc;simp[nN] at hc
 |ifc t pv x hp=>intro _;exact .ifc t pv x hp
theorem AC.lift{P:Program}{G:az}{f:FuncId}{args:List AV}{r:AV}{h1:List AO}(H:AC P G f args [] λx h'=>x= .ret r/\h'=h1){h:List AO}(hv:ab 0 args)(hr:nN r=true)(hh:h1.all iL=true):
 AC P G f args h λx h'=>x= .ret (aY h.length r)/\h'=h++h1.map (aX h.length):=by
 refine⟨H.1,λW S φ vs hH hA=>?_⟩
 have h0:HRel G W S φ []:=⟨λid sz es e=>by simp at e,λid o e _=>by simp at e,λid id' e=>(aH e).elim,λb hb=>⟨(hH.sep b hb).1,λid e=>(aH e).elim⟩,λid hid=>by simp at hid,hH.glob⟩
 refine(H.2 W _ φ vs h0 ⟨hA.1,λj c v h1 h2=>?_⟩).mono λe W' ⟨x,S',φ',h',⟨k0,k1⟩,k2,k3,k4⟩=>?_
 ·exact vS (λb hb=>hb) (bg hv j c h1) (hA.2 j _ v h1 h2)
 subst k0;subst k1
 have hout:∀b,b<W.heap.size->W'.heap[b]?=W.heap[b]?:=λb hb=>k4.out b hb λid e=>(aH e).elim
 have hlt:∀{id:Nat} {o:AO},h[id]?=some o->id<h.length:=λe=>(List.getElem?_eq_some_iff.1 e).1
 have himg:∀id,Live h' id->W.heap.size<=(φ' id).1:=λid e=>by
  rcases k4.img id e with h2|⟨id2,h2,_⟩
  ·exact h2
  ·exact(aH h2).elim
 have hφ:∀{i},i<h.length->gb h.length φ φ' i=φ i:=λhi=>by simp[gb,hi]
 have hφ':∀i,gb h.length φ φ' (h.length+i)=φ' i:=λi=>dc _ _ _ i
 have hget:∀{i o},(h++h'.map (aX h.length))[i]?=some o->(i<h.length/\h[i]?=some o)\/(∃k o',i=h.length+k/\h'[k]?=some o'/\o=aX h.length o'):=λ{i o} e=>by
  rcases Nat.lt_or_ge i h.length with hi|hi
  ·rw[List.getElem?_append_left hi] at e;exact .inl ⟨hi,e⟩
  ·rw[List.getElem?_append_right hi,List.getElem?_map,Option.map_eq_some_iff] at e
   obtain⟨o,e2,e3⟩:=e
   exact .inr ⟨_,o,by omega,e2,e3.symm⟩
 have hsl:∀{o:AO},(aX h.length o).live->o.live:=λ{o} l=>by cases o<;>exact l
 have hnew:∀b,S' b->S b\/W.heap.size<=b:=λb hb=>by
  rcases k4.newS b hb with h2|h2|⟨id,h2,_⟩
  ·exact .inl h2
  ·exact .inr h2
  ·exact(aH h2).elim
 have K:Keep W S φ h W' S' (gb h.length φ φ') (h++h'.map (aX h.length)):=
  {pure:=λb hb=>⟨(k4.pure b hb).1,hout b (hH.sep b hb).1⟩,len:=by simp,same:=λ_ hid=>hφ hid
   blk:=λid hid c t fr e=>⟨c,t,fr,by rw[←hout _ (hH.bnd id hid)];exact e,rfl⟩
   os:=k4.os,tape:=k4.tape,output:=k4.output,size:=k4.size,out:=λb hb _=>hout b hb
   img:=λid ⟨o,e,l⟩=>by
    rcases hget e with⟨hi,e'⟩|⟨k,o',rfl,e',rfl⟩
    ·exact .inr ⟨id,⟨_,e',l⟩,by rw[hφ hi]⟩
    ·rw[hφ'];exact .inl (himg _ ⟨_,e',hsl l⟩)
   newS:=λb hb=>(hnew b hb).elim .inl λh2=> .inr (.inl h2)}
 have hlen:(h++h'.map (aX h.length)).length=h.length+h'.length:=by simp
 refine⟨.ret (aY h.length r),S',gb h.length φ φ',_,⟨rfl,rfl⟩,⟨λid sz es e=>?_,λid o1 e lo=>?_,λid id' ⟨o1,e1,l1⟩ ⟨o2,e2,l2⟩ he=>?_,λb hb=>⟨(k2.sep b hb).1,λid ⟨o1,e,l1⟩ he=>?_⟩,λid hid=>?_,λg cs hg=>?_⟩,?_,K⟩
 ·rcases hget e with⟨hi,e'⟩|⟨k,o',rfl,e',eo⟩
  ·obtain⟨c,t,fr,a1,a2,a3,a4,a5⟩:=hH.obj id sz es e'
   refine⟨c,t,fr,by rw[hφ hi,hout _ (hH.bnd id hi)];exact a1,a2,a3,by rw[hφ hi];exact a4,λj u hj=>?_⟩
   obtain⟨b1,v,b2,b3⟩:=a5 j u hj
   exact⟨b1,v,by rw[hφ hi];exact b2,b3.kept K.toKept⟩
  ·obtain⟨es',rfl,rfl⟩:∃es',o'= .row sz es'/\es=es'.map (bi h.length):=by cases o'<;>cases eo;exact⟨_,rfl,rfl⟩
   obtain⟨c,t,fr,a1,a2,a3,a4,a5⟩:=k2.obj k sz es' e'
   refine⟨c,t,fr,by rw[hφ'];exact a1,a2,λe he=>?_,by rw[hφ'];simpa using a4,λj u hj=>?_⟩
   ·obtain⟨e0,he0,rfl⟩:=List.mem_map.1 he
    rw[bu];simpa using a3 e0 he0
   ·have hfl:(es'.map (bi h.length)).flatten=es'.flatten.map (aY h.length):=by
     rw[List.map_flatten];congr 1;exact List.map_congr_left λl _=>bu _ l
    rw[hfl,List.getElem?_map,Option.map_eq_some_iff] at hj
    obtain⟨u0,hj,rfl⟩:=hj
    obtain⟨b1,v,b2,b3⟩:=a5 j u0 hj
    have hcl:nN u0=true:=by
     have h3:=List.all_eq_true.1 hh _ (List.mem_of_getElem? e')
     simp only[iL] at h3
     obtain⟨l,hl,hu⟩:=List.mem_flatten.1 (List.mem_of_getElem? hj)
     have h4:=List.all_eq_true.1 h3 l hl
     obtain⟨q,hq⟩:=List.getElem?_of_mem hu
     exact nG h4 q u0 hq
    exact⟨by rw[lh];exact b1,v,by rw[hφ'];exact b2,by rw[hlen];exact uz b3 hcl⟩
 ·rcases hget e with⟨hi,e'⟩|⟨k,o',rfl,e',eo⟩
  ·rw[hφ hi,hout _ (hH.bnd id hi)]
   exact(hH.oobj id o1 e' lo).mono λa v r=>r.kept K.toKept
  ·subst eo
   rw[hφ']
   have hq:=k2.oobj k o' e' (hsl lo)
   cases o' with
   |dead=>trivial
   |row sz es=>trivial
   |sit t pos=>exact hq
   |mp es'=>
    obtain⟨ents,clock,a1,a2,a3,a4⟩:=hq
    refine⟨ents,clock,a1,by simpa using a2,λj k a hj=>?_,a4⟩
    rw[List.getElem?_map,Option.map_eq_some_iff] at hj
    obtain⟨⟨k0,a0⟩,hj,hk⟩:=hj
    cases hk
    obtain⟨x,c1,c2,c3⟩:=a3 j _ _ hj
    have hcl:nN a0=true:=by
     have h3:=List.all_eq_true.1 hh _ (List.mem_of_getElem? e')
     simp only[iL] at h3
     exact List.all_eq_true.1 h3 _ (List.mem_of_getElem? hj)
    exact⟨x,c1,c2,by rw[hlen];exact uz c3 hcl⟩
 ·rcases hget e1 with⟨hi,e1'⟩|⟨k,_,rfl,e1',rfl⟩<;>rcases hget e2 with⟨hi',e2'⟩|⟨k',_,rfl,e2',rfl⟩
  ·rw[hφ hi,hφ hi'] at he;exact hH.inj _ _ ⟨_,e1',l1⟩ ⟨_,e2',l2⟩ he
  ·rw[hφ hi,hφ'] at he
   have:=himg _ ⟨_,e2',hsl l2⟩
   have:=hH.bnd id hi
   omega
  ·rw[hφ hi',hφ'] at he
   have:=himg _ ⟨_,e1',hsl l1⟩
   have:=hH.bnd id' hi'
   omega
  ·rw[hφ',hφ'] at he;rw[k2.inj _ _ ⟨_,e1',hsl l1⟩ ⟨_,e2',hsl l2⟩ he]
 ·rcases hget e with⟨hi,e'⟩|⟨k,_,rfl,e',rfl⟩
  ·rw[hφ hi] at he
   rcases hnew b hb with h2|h2
   ·exact(hH.sep b h2).2 _ ⟨_,e',l1⟩ he
   ·have:=hH.bnd id hi
    omega
  ·rw[hφ'] at he
   exact(k2.sep b hb).2 _ ⟨_,e',hsl l1⟩ he
 ·rcases Nat.lt_or_ge id h.length with hi|hi
  ·rw[hφ hi];exact Nat.lt_of_lt_of_le (hH.bnd id hi) k4.size
  ·have hid':id-h.length<h'.length:=by rw[hlen] at hid;omega
   have:=hφ' (id-h.length)
   rw[show h.length+(id-h.length)=id by omega] at this
   rw[this]
   exact k2.bnd _ hid'
 ·obtain⟨g1,g2⟩:=hH.glob g cs hg
  refine⟨(K.pure g g1).1,λj c hj=>?_⟩
  obtain⟨v,v1,v2⟩:=g2 j c hj
  exact⟨v,by rw[aW (K.pure g g1).2];exact v1,v2.mono K.pure⟩
 ·cases k3 with
  |ret _ x hv=>rw[hlen];exact .ret _ _ (uz hv hr)
end Go.Aw
namespace Go.Aw
variable {P:Program}
def DH(P:Program)(t:TypeId):Option (List TypeId):=match P.underlying t with
 |some (.struct fs)=>some (fs.toList.map (·.type))
 |_=>none
theorem Jo{t:TypeId}{vs:List PV}{ts:List TypeId}(h:Conf P t vs)(hu:DH P t=some ts):ConfS P ts vs:=by
 unfold DH at hu
 cases h with
 |st vs e hs=>rw[e] at hu;cases hu;exact hs
 |bool b e=>rw[e] at hu;cases hu
 |int n e=>rw[e] at hu;cases hu
 |str s e=>rw[e] at hu;cases hu
 |sl es e=>rw[e] at hu;cases hu
 |arr vs e=>rw[e] at hu;cases hu
theorem pA{t:TypeId}{k:IntKind}{vs:List PV}(h:Conf P t vs)(hu:P.underlying t=some (.int k)):∃n,vs=[.int k n]/\(Lit.int k n).wf=true:=by
 cases h with
 |int n e hw=>rw[hu] at e;cases e;exact⟨n,rfl,hw⟩
 |sl es e=>rw[e] at hu;cases hu
 |bool b e=>rw[e] at hu;cases hu
 |str s e=>rw[e] at hu;cases hu
 |st vs e=>rw[e] at hu;cases hu
 |arr vs e=>rw[e] at hu;cases hu
theorem vh{t:TypeId}{vs:List PV}(h:Conf P t vs)(hu:P.underlying t=some .string):∃s,vs=[.str s]/\s.length<=maxLen:=by
 cases h with
 |str s e hw=>exact⟨s,rfl,hw⟩
 |int n e=>rw[e] at hu;cases hu
 |sl es e=>rw[e] at hu;cases hu
 |bool b e=>rw[e] at hu;cases hu
 |st vs e=>rw[e] at hu;cases hu
 |arr vs e=>rw[e] at hu;cases hu
theorem gn{t:TypeId}{ts:List TypeId}{vs:List PV}(h:ConfS P (t::ts) vs):∃a b,vs=a++b/\Conf P t a/\ConfS P ts b:=by
 cases h with
 |cons h1 h2=>exact⟨_,_,rfl,h1,h2⟩
theorem Ex{vs:List PV}(h:ConfS P [] vs):vs=[]:=by cases h;rfl
theorem vr{t:TypeId}{ts:List TypeId}{vss:List (List PV)}(h:Confs P (t::ts) vss):∃vs r,vss=vs::r/\Conf P t vs/\Confs P ts r:=by
 cases h with
 |cons h1 h2=>exact⟨_,_,rfl,h1,h2⟩
theorem Fc{vss:List (List PV)}(h:Confs P [] vss):vss=[]:=by cases h;rfl
theorem tY{α β:Type}(g:β->α):∀{es:List α},(∀x∈es,∃m,x=g m)->∃ms:List β,es=ms.map g
 |[],_=>⟨[],rfl⟩
 |e::r,h=>by
  obtain⟨m,hm⟩:=h e (by simp)
  obtain⟨ms,hms⟩:=tY g (es:=r) λx hx=>h x (by simp[hx])
  exact⟨m::ms,by simp[hm,hms]⟩
end Go.Aw
namespace Go.Aw
def slE(id sz:Nat)(l:List (List AV)):AV:=if l=[] then .nils else .sl id sz 0 l.length
def lu(sz:Nat)(l:List (List AV)):AO:=if l=[] then .dead else .row sz l
theorem rh(id sz:Nat):slE id sz []= .nils:=rfl
theorem pT(sz:Nat):lu sz []= .dead:=rfl
theorem cP{id sz:Nat}{l:List (List AV)}(h:l≠[]):slE id sz l= .sl id sz 0 l.length:=if_neg h
theorem dS{sz:Nat}{l:List (List AV)}(h:l≠[]):lu sz l= .row sz l:=if_neg h
def FL:AV->Option AV
 | .p (.lst _ es)=>some (.p (.int .i64 es.length))
 | .nils=>some (.p (.int .i64 0))
 | .sl _ _ _ n=>some (.p (.int .i64 n))
 |_=>none
section
variable {P:Program} {G:az} {d:Option Nat} {r:List CO} {ts:List AV} {h:List AO} {K:KT} {Qp:QP}
theorem Je(x:AOp):ev G ts h (.len false x)=(FL (x.ev ts)).map (·,h):=by
 show(un (.len false x) (x.ev ts)).map (·,h)=_
 cases x.ev ts<;>try rfl
 rename_i v;cases v<;>rfl
@[simp high] theorem MU(x:AOp):rK P G (⟨d,none,.len false x⟩::r) ts h K Qp=nxt P G d r ts K Qp ((FL (x.ev ts)).map (·,h)):=by
 rw[←Je (G:=G)];exact br _ rfl
@[simp] theorem NO(sz:Nat)(es:List (List PV)):FL (.p (.lst sz es))=some (.p (.int .i64 es.length)):=rfl
@[simp] theorem KZ:FL .nils=some (.p (.int .i64 0)):=rfl
@[simp] theorem MS(a b c n:Nat):FL (.sl a b c n)=some (.p (.int .i64 n)):=rfl
@[simp] theorem Nt(id sz:Nat)(l:List (List AV)):FL (slE id sz l)=some (.p (.int .i64 l.length)):=by
 by_cases e:l=[]
 ·subst e;rfl
 ·rw[cP e];rfl
end
section
variable {G:az} {h:List AO} {id sz:Nat} {l:List (List AV)}
@[simp high] theorem Hj(o:AOp):un (.len false o) (slE id sz l)=some (.p (.int .i64 l.length)):=by
 by_cases e:l=[]
 ·subst e;rfl
 ·rw[cP e];rfl
@[simp high] theorem Iu:lenOf (slE id sz l)=some l.length:=by
 by_cases e:l=[]
 ·subst e;rfl
 ·rw[cP e];rfl
@[simp high] theorem IW(he:h[id]?=some (lu sz l)):elems h sz (slE id sz l)=some l:=by
 by_cases e:l=[]
 ·subst e;rfl
 ·rw[cP e];rw[dS e] at he;simp[he]
@[simp high] theorem Nu{b:Nat}{xs:List (List AV)}(he:h[id]?=some (lu sz l))(hx:xs≠[]):
 Fg h sz b (some xs) (slE id sz l)=if(l.length+xs.length)*b<=140737488355328/\l.length+xs.length<=140737488355328 then some (.sl h.length sz 0 (l.length+xs.length),h.set id .dead++[.row sz (l++xs)]) else none:=by
 by_cases e:l=[]
 ·subst e
  have:h.set id .dead=h:=by
   refine List.ext_getElem? λi=>?_
   rw[List.getElem?_set]
   split
   ·rename_i hi;subst hi
    split
    ·exact he.symm
    ·rename_i hl;rw[List.getElem?_eq_none (by omega)]
   ·rfl
  rw[rh,ER,this];simp[hx]
 ·rw[cP e,Ie];rw[dS e] at he;simp[he]
@[simp high] theorem NK(esz:Nat)(k:IntKind)(n:Int):HV h esz (slE id sz l) (.p (.int k n))=if l≠[]/\sz=esz/\0<=n/\n<l.length then some (.ptr id esz n.toNat 0,h) else none:=by
 by_cases e:l=[]
 ·subst e;rfl
 ·rw[cP e,JE];simp[e]
@[simp high] theorem Fi{esz i off:Nat}(he:h[id]?=some (lu sz l)):gE G h (.ptr id esz i off)=if sz=esz then(l[i]?).map (·,off) else none:=by
 by_cases e:l=[]
 ·subst e
  simp only[gE,he,pT];simp
 ·rw[dS e] at he
  simp only[gE,he]
@[simp] theorem MR{m:Nat}(hi:id<m):below m (slE id sz l):=by
 by_cases e:l=[]
 ·subst e;trivial
 ·rw[cP e];exact hi
@[simp] theorem Oi{ρ:List Nat}:ren ρ (slE id sz l)=slE (ρ.getD id 0) sz l:=by
 by_cases e:l=[]
 ·subst e;rfl
 ·rw[cP e,cP e];rfl
@[simp] theorem tX(xs:List (List AV))(hx:xs≠[]):slE id sz (l++xs)= .sl id sz 0 (l.length+xs.length):=by
 rw[cP (by simp[hx])];simp
@[simp] theorem ur(xs:List (List AV))(hx:xs≠[]):lu sz (l++xs)= .row sz (l++xs):=dS (by simp[hx])
@[simp high] theorem FZ:(slE id sz l).isCell=true:=by
 by_cases e:l=[]
 ·subst e;rfl
 ·rw[cP e];rfl
@[simp high] theorem IE:(slE id sz l).cells=[slE id sz l]:=by
 by_cases e:l=[]
 ·subst e;rfl
 ·rw[cP e];rfl
end
attribute [simp ↓] FZ IE Hj Iu IW Fi
theorem MD{sz:Nat}{l:List (List AV)}(h:∀x∈l,ab 0 x):okO 0 (lu sz l):=by
 by_cases e:l=[]
 ·subst e;trivial
 ·rw[dS e];exact h
theorem ri{ρ:List Nat}{h:List AO}{i sz:Nat}{l:List (List AV)}{π:List Nat}{r1:List AO}(e:h[i]?=some (lu sz l))(ho:∀x∈l,ab 0 x)(hr:HW ρ h π r1):HW ρ h (i::π) (lu sz l::r1):=
 an e (MD ho) hr
theorem Du{h:List AO}{id sz:Nat}{ls:List (List PV)}(e:h[id]?=some (lu sz (ls.map (·.map .p))))(hl:∀l∈ls,l.length=sz):View h (slE id sz (ls.map (·.map .p))) (.lst sz ls):=by
 by_cases e2:ls=[]
 ·subst e2;exact View.nils sz
 ·have e3:ls.map (·.map AV.p)≠[]:=by simpa using e2
  rw[dS e3] at e
  rw[cP e3,List.length_map]
  exact eP e rfl hl
end Go.Aw
namespace Go.Proofs.YtbnajafpkeficaaGreatDoor
open Go Go.Aw
set_option maxRecDepth 100000
set_option maxHeartbeats 4000000
section
theorem rN(G:az)(f:Mfn)(hf:fK f.ins):VF Tryz.prog G ch [.agg (f.cs.map .p)] (.p (mG (bE f.ins))):=
 AC.freeze (EH G f hf) (.one (by have:=ux (h:=[aG (bE f.ins)]) (id:=0) rfl;rw[fy] at this;exact this) .nil)
def cY(m:Nat)(x:Mins):Nat:=if x.op=14/\(m:Int)<=x.n/\x.n<4 then x.n.toNat+1 else m
def cB(ins:List Mins):Nat:=ins.foldl cY 0
def ex(ins:List Mins)(i:Nat):Nat:=(ins.take i).foldl cY 0
theorem kW{ins:List Mins}{i:Nat}(h:i<ins.length):ex ins (i+1)=cY (ex ins i) ins[i]:=by rw[ex,aq h,List.foldl_append];rfl
theorem BE{m:Nat}{x:Mins}(h:m<=4):cY m x<=4:=by unfold cY;split<;>omega
theorem nb(ins:List Mins)(i:Nat):ex ins i<=4:=by
 have key:∀(l:List Mins) (m:Nat),m<=4->l.foldl cY m<=4:=by
  intro l
  induction l with
  |nil=>intro m h;exact h
  |cons x r ih=>intro m h;exact ih _ (BE h)
 exact key _ _ (by omega)
def back1:Mins:=⟨22,0,0,0,0⟩
def backF:Mfn:=⟨0,0,[back1]⟩
def aZ(e:Nat)(f:Mfn):List Mfn:=List.replicate e backF++[f]
def nc(bx rs:AO):Nat->List AO
 |0=>[bx,rs,.row 1 [[.nils]]]
 |k+1=>[bx,rs,.row 1 [[.sl 3 3 0 (k+1)]],.row 3 (lY 4 (List.replicate (k+1) backF))]++List.replicate (k+1) (bq [back1])
theorem nI(ρ:List Nat)(l:List PV):aF ρ (l.map .p)=l.map .p:=rY ρ _ (by simp)
variable (G:az)
theorem CI(f:Mfn)(hn:f.ins.length<=1048576):VF Tryz.prog G fg [.agg (f.cs.map .p)] (.agg [.p (bc (aZ (cB f.ins) f))]):=by
 have key:AC Tryz.prog G fg [.agg (f.cs.map .p)] [] λx h=>∃id,x= .ret (.agg [.sl id 3 0 (cB f.ins+1)])/\h[id]?=some (.row 3 (lY 4 (List.replicate (cB f.ins) backF)++[f.cs.map .p]))/\∀j,j<cB f.ins->h[4+j]?=some (bq [back1]):=by
  refine AC.go tM ?_
  simp-implicitDefEqProofs[lR]
  refine aw (λi:Nat=>aB 68 [(1,.ptr 0 3 0 0),(2,.ptr 1 1 0 0),(3,.ptr 2 1 0 0),(4,.p (.int .i64 (ex f.ins i))),(5,.p (.int .i64 i))]) (λ_=>nc (.row 3 [f.cs.map .p]) (.row 1 [[.nils]]) 0)
   (λi=>i<=f.ins.length) (λi=>f.ins.length-i) 0 (by simp) ?_ ?_
  ·refine bh ?_ ?_ ?_
   ·simp
   ·simp[okO]
   simp[below,ex]
  ·intro i hi
   simp-implicitDefEqProofs[nc]
   simp-implicitDefEqProofs[Mfn.cs]
   refine aR (λh1=>?_) (λh1=>?_)
   ·simp at h1
    have hg1:=List.getElem?_eq_getElem h1
    have hm:=nb f.ins i
    have hgo:∀m,m=ex f.ins (i+1)->Wk 0 [] [] [] []->True:=λ_ _ _=>trivial
    by_cases h14:f.ins[i].op=14
    ·by_cases hge:(ex f.ins i:Int)<=f.ins[i].n
     ·by_cases hlt:f.ins[i].n<4
      ·have hw:IntKind.i64.wrap (f.ins[i].n+1)=((ex f.ins (i+1):Nat):Int):=by rw[aa (by omega) (by omega),kW h1,cY,if_pos ⟨h14,hge,hlt⟩];omega
       simp-implicitDefEqProofs[hg1,Mins.cs,h14,hge,hlt,hw]
       refine⟨i+1,h1,by omega,bh (by simp) (by simp[okO]) ?_⟩
       simp[below,w1 (i:=i) (by omega)]
      ·have hw:ex f.ins (i+1)=ex f.ins i:=by rw[kW h1,cY,if_neg (by omega)]
       simp-implicitDefEqProofs[hg1,Mins.cs,h14,hge,hlt]
       refine⟨i+1,h1,by omega,bh (by simp) (by simp[okO]) ?_⟩
       simp[below,w1 (i:=i) (by omega),hw]
     ·have hw:ex f.ins (i+1)=ex f.ins i:=by rw[kW h1,cY,if_neg (by omega)]
      simp-implicitDefEqProofs[hg1,Mins.cs,h14,hge]
      refine⟨i+1,h1,by omega,bh (by simp) (by simp[okO]) ?_⟩
      simp[below,w1 (i:=i) (by omega),hw]
    ·have hw:ex f.ins (i+1)=ex f.ins i:=by rw[kW h1,cY,if_neg (by omega)]
     simp-implicitDefEqProofs[hg1,Mins.cs,h14]
     refine⟨i+1,h1,by omega,bh (by simp) (by simp[okO]) ?_⟩
     simp[below,w1 (i:=i) (by omega),hw]
   ·simp at h1
    have he:ex f.ins i=cB f.ins:=by rw[ex,List.take_of_length_le h1];rfl
    have hle:=nb f.ins i
    simp-implicitDefEqProofs[]
    rw[he] at hle⊢
    generalize cB f.ins=e at hle⊢
    refine aw (λk:Nat=>aB 68 [(1,.ptr 0 3 0 0),(2,.ptr 1 1 0 0),(3,.ptr 2 1 0 0),(4,.p (.int .i64 e)),(6,.p (.int .i64 k))]) (λk=>nc (.row 3 [f.cs.map .p]) (.row 1 [[.nils]]) k)
     (λk=>k<=e) (λk=>e-k) 0 (by simp) ?_ ?_
    ·refine bh ?_ ?_ ?_
     ·simp
     ·simp[okO]
     simp[below]
    ·intro k hk
     simp-implicitDefEqProofs[]
     refine aR (λh2=>?_) (λh2=>?_)
     ·simp at h2
      have hkk:k=0\/k=1\/k=2\/k=3:=by omega
      rcases hkk with rfl|rfl|rfl|rfl
      ·simp-implicitDefEqProofs[nc,lY,List.replicate,Mfn.ov,backF,bq]
       refine⟨1,by omega,by omega,al [0,1,2,5,3] rfl (by decide) ?_ ?_⟩
       ·simp[HW,aF,ren,below,nI,Mins.av,Mins.cs,back1,lY,Mfn.ov]
       ·simp[below,ren,IntKind.wrap,IntKind.bits,IntKind.signed]
      ·simp-implicitDefEqProofs[nc,lY,List.replicate,Mfn.ov,backF,bq]
       refine⟨2,by omega,by omega,al [0,1,2,7,4,5] rfl (by decide) ?_ ?_⟩
       ·simp[HW,aF,ren,below,nI,Mins.av,Mins.cs,back1,lY,Mfn.ov]
       ·simp[below,ren,IntKind.wrap,IntKind.bits,IntKind.signed]
      ·simp-implicitDefEqProofs[nc,lY,List.replicate,Mfn.ov,backF,bq]
       refine⟨3,by omega,by omega,al [0,1,2,8,4,5,6] rfl (by decide) ?_ ?_⟩
       ·simp[HW,aF,ren,below,nI,Mins.av,Mins.cs,back1,lY,Mfn.ov]
       ·simp[below,ren,IntKind.wrap,IntKind.bits,IntKind.signed]
      ·simp-implicitDefEqProofs[nc,lY,List.replicate,Mfn.ov,backF,bq]
       refine⟨4,by omega,by omega,al [0,1,2,9,4,5,6,7] rfl (by decide) ?_ ?_⟩
       ·simp[HW,aF,ren,below,nI,Mins.av,Mins.cs,back1,lY,Mfn.ov]
       ·simp[below,ren,IntKind.wrap,IntKind.bits,IntKind.signed]
     ·simp at h2
      have hke:k=e:=by omega
      subst hke
      have hkk:k=0\/k=1\/k=2\/k=3\/k=4:=by omega
      rcases hkk with rfl|rfl|rfl|rfl|rfl
      all_goals
       simp-implicitDefEqProofs[nc,lY,List.replicate,Mfn.ov,backF,bq]
       first
        |rfl
        |(refine⟨rfl,?_⟩
          intro j hj
          have:j=0\/j=1\/j=2\/j=3:=by omega
          rcases this with rfl|rfl|rfl|rfl<;>first|rfl|omega)
 refine key.freezeR (λt v h ⟨id,e,_⟩=>by cases e) λv h ⟨id,e1,e2,e3⟩=>?_
 cases e1
 refine .agg (.one ?_ .nil) .nil
 have hlen:((aZ (cB f.ins) f).map Mfn.cs).length=cB f.ins+1:=by simp[aZ]
 have hv:=View.sl id 3 0 _ ((aZ (cB f.ins) f).map Mfn.cs) e2 (by simp[aZ,mw]) (by intro e he;obtain⟨m,_,rfl⟩:=List.mem_map.1 he;rfl) (λi j e q e' a h1 h2 h3 h4=>by
  rw[Nat.zero_add] at h3
  rcases Nat.lt_or_ge i (cB f.ins) with hi|hi
  ·have e5:((aZ (cB f.ins) f).map Mfn.cs)[i]?=some backF.cs:=by
    rw[List.getElem?_map,aZ,List.getElem?_append_left (by simpa using hi),List.getElem?_replicate,if_pos hi];rfl
   rw[e5] at h1;cases h1
   rw[List.getElem?_append_left (by rw[mw];simpa using hi),BB,List.getElem?_replicate,if_pos hi] at h3
   cases h3
   match j,h2,h4 with
   |0,h2,h4=>cases h2;cases h4;exact .p _
   |1,h2,h4=>cases h2;cases h4;exact .p _
   |2,h2,h4=>
    cases h2;cases h4
    exact eP (ls:=[back1.cs]) (e3 i hi) rfl (by simp)
   |j+3,h2,h4=>simp[backF,Mfn.cs] at h2
  ·have hil:i<cB f.ins+1:=by have:=(List.getElem?_eq_some_iff.1 h1).1;rw[hlen] at this;exact this
   have hie:i=cB f.ins:=by omega
   rw[List.getElem?_append_right (by rw[mw];simpa using hi),mw,List.length_replicate,hie,Nat.sub_self] at h3
   cases h3
   have e5:((aZ (cB f.ins) f).map Mfn.cs)[i]?=some f.cs:=by
    rw[List.getElem?_map,aZ,List.getElem?_append_right (by simpa using hi),List.length_replicate,hie,Nat.sub_self];rfl
   rw[e5] at h1;cases h1
   rw[List.getElem?_map,h2] at h4
   cases h4
   exact .p _)
 rw[hlen] at hv
 exact hv
end
section
def aC(f:Mfn):Bool:=bn (aZ (cB f.ins) f)&&decide (plc f.ins (bE f.ins) f.ins.length<=8000)
def gJ(f:Mfn):List Int:=lX f.ins (bE f.ins) f.ins.length
theorem Cv{k:Int}{f:Mfn}(h:gQ k f=true)(hl:f.ins.length<=2000):fK f.ins:=by
 refine⟨hl,λx hx=>?_⟩
 simp only[gQ,Bool.and_eq_true,List.all_eq_true] at h
 have hi:=h.2 x hx
 rw[rW] at hi
 simp only[Bool.and_eq_true] at hi
 obtain⟨⟨⟨⟨h1,h2⟩,h3⟩,h4⟩,h5⟩:=hi
 refine⟨h2,h3,?_,λhj=>?_⟩
 ·simp only[gx,Bool.and_eq_true] at h1;exact h1.1.1.1.1
 ·have hc:x.op=20\/x.op=21:=by simpa[jmp] using hj
  rcases hc with e|e<;>simpa[fN,ta,e,inR] using h5
theorem pO(e:Nat)(f:Mfn):kf (aZ e f)=e+f.ins.length:=by
 simp[kf,aZ,backF]
theorem bP{e:Nat}{f:Mfn}(h:bn (aZ e f)=true):fK f.ins:=by
 simp only[bn,Bool.and_eq_true,decide_eq_true_eq] at h
 have hs:=h.1.2
 rw[pO] at hs
 have:=kN h.2 (i:=e) (f:=f) (by simp[aZ])
 exact Cv this (by omega)
theorem zg(e:Nat)(f:Mfn):szF (aZ e f)=e+1+(e+f.ins.length):=by
 have:=pO e f
 simp only[kf] at this
 rw[szF,this];simp[aZ]
theorem HK(ins:List Mins)(L:List Bool)(i:Nat):(je ins L i).length<=4:=by
 unfold je
 split
 ·split
  ·rename_i x b _ _ _;rcases fm x with h|h<;>omega
  ·repeat' split
   all_goals simp
 ·simp
theorem uD(ins:List Mins)(L:List Bool)(i:Nat):(lX ins L i).length<=4*i:=by
 induction i with
 |zero=>simp[lX]
 |succ i ih=>rw[iz,List.length_append];have:=HK ins L i;omega
variable (G:az)
theorem lq{l:List Nat}{id:Nat}{h:List AO}(e:h[id]?=some (ay l)):View h (.sl id 1 0 l.length) (iT l):=by
 have:=eP (h:=h) (id:=id) (sz:=1) (n:=l.length) (ls:=l.map λ(n:Nat)=>[.int .i64 (n:Int)]) (by rw[e,ay];simp) (by simp) (λx hx=>by obtain⟨b,_,rfl⟩:=List.mem_map.1 hx;rfl)
 exact this
theorem mR(f:Mfn)(L:List Bool)(hl:L.length=f.ins.length)(hf:fK f.ins):
 VF Tryz.prog G bz [.agg (f.cs.map .p),.p (mG L)] (.tup [.p (iT (dj f.ins L f.ins.length)),.p (.int .i64 (plc f.ins L f.ins.length))]):=
 AC.freeze (sZ G f L hl hf) (.tup (.one (by have:=lq (h:=[ay (dj f.ins L f.ins.length)]) (id:=0) rfl;rw[iY] at this;exact this) (.keep (by simp) .nil)) .nil)
theorem BO(f:Mfn)(hn:f.ins.length<=1000000):VF Tryz.prog G gF [.agg (f.cs.map .p)] (.p (.bool (aC f))):=by
 refine AC.go yr ?_
 have hm:=nb f.ins f.ins.length
 have he:ex f.ins f.ins.length=cB f.ins:=by rw[ex,List.take_of_length_le (Nat.le_refl _)];rfl
 simp-implicitDefEqProofs[oc]
 refine(CI G f (by omega)).use ?_
 simp-implicitDefEqProofs
 refine(sU G _ (by rw[zg];omega)).use ?_
 simp-implicitDefEqProofs
 refine aR (λh=>?_) (λh=>?_)
 ·simp at h
  simp-implicitDefEqProofs[aC,h]
 ·simp at h
  have hf:=bP h
  simp-implicitDefEqProofs
  refine(rN G f hf).use ?_
  simp-implicitDefEqProofs
  refine(mR G f _ (fy _) hf).use ?_
  simp-implicitDefEqProofs[aC,h]
  omega
theorem HP(d:Int):IntKind.u8.wrap (d+256)=IntKind.u8.wrap d:=by
 simp[IntKind.wrap,IntKind.bits,IntKind.signed]
theorem sX(f:Mfn)(hn:f.ins.length<=1000000):AC Tryz.prog G dE [.agg (f.cs.map .p)] [] λx h=>∃id,x= .ret (.tup [.sl id 1 0 (if aC f then gJ f else[]).length,.p (.bool (aC f))])/\h[id]?=some (bV (if aC f then gJ f else[])):=by
 refine AC.go tO ?_
 simp-implicitDefEqProofs[lO]
 refine(BO G f hn).use ?_
 by_cases hc:aC f=true
 rotate_left
 ·simp-implicitDefEqProofs[hc,bV]
 have hal:bn (aZ (cB f.ins) f)=true:=by simp[aC] at hc;exact hc.1
 have hf:=bP hal
 obtain⟨hn2,hfi⟩:=id hf
 simp-implicitDefEqProofs[hc]
 refine(rN G f hf).use ?_
 simp-implicitDefEqProofs
 refine(mR G f _ (fy _) hf).use ?_
 simp-implicitDefEqProofs
 have hL:=fy f.ins
 simp only[gJ]
 generalize bE f.ins=L at hL⊢
 refine aw (λi:Nat=>aB 98 [(1,.ptr 0 3 0 0),(4,.sl 1 1 0 (lX f.ins L i).length),(5,.p (mG L)),(6,.p (iT (dj f.ins L f.ins.length))),(8,.p (.int .i64 i))]) (λi=>[.row 3 [f.cs.map .p],bV (lX f.ins L i)])
  (λi=>i<=f.ins.length) (λi=>f.ins.length-i) 0 (by simp) ?_ ?_
 ·refine bh ?_ ?_ ?_
  ·simp
  ·simp[okO]
  simp[below,lX]
 ·intro i hi
  simp-implicitDefEqProofs[Mfn.cs]
  refine aR (λh1=>?_) (λh1=>?_)
  ·simp at h1
   have h2:i<L.length:=by omega
   obtain⟨q1,q2,q3,q4⟩:=hfi _ (List.getElem_mem h1)
   have hg1:=List.getElem?_eq_getElem h1
   have hg2:=List.getElem?_eq_getElem h2
   have hbo:∀l,bV l= .row 1 (l.map λn=>[.p (.int .u8 n)]):=λ_=>rfl
   have happ:∀l l':List Int,(l.map λn=>[AV.p (.int .u8 n)])++(l'.map λn=>[AV.p (.int .u8 n)])=(l++l').map λn=>[AV.p (.int .u8 n)]:=by simp
   have htk:∀l:List Int,List.take l.length (l.map λn=>[AV.p (.int .u8 n)])=l.map λn=>[AV.p (.int .u8 n)]:=λl=>List.take_of_length_le (by simp)
   have henc:=iz f.ins L i
   simp-implicitDefEqProofs[hg1,Mfn.cs]
   refine(gA G f.ins[i]).use ?_
   by_cases hj:jmp f.ins[i]=true
   rotate_left
   ·simp-implicitDefEqProofs[hj]
    refine(uQ G f.ins[i] q1 q2).use ?_
    have he:je f.ins L i=aO f.ins[i]:=by simp[je,hg1,hg2,hj]
    have hl1:=fm f.ins[i]
    have hel:=uD f.ins L i
    simp-implicitDefEqProofs[aN,hbo,htk]
    refine⟨by omega,i+1,h1,by omega,al [0,3] rfl (by simp) (af rfl (by simp) (af (by simp[henc,he,Function.comp_def]) (by simp) aj)) ?_⟩
    simp[below,ren,w1 (i:=i) (by omega),henc,he]
   ·have q5:=q4 hj
    simp[inR] at q5
    have hnl:f.ins[i].n.toNat<f.ins.length:=by omega
    have hp1:=fQ (ins:=f.ins) (L:=L) hnl
    have hp2:=fQ (ins:=f.ins) (L:=L) h1
    have hle1:=jZ (ins:=f.ins) (L:=L) hL (i:=i)
    have hle2:=jZ (ins:=f.ins) (L:=L) hL (i:=f.ins[i].n.toNat)
    have hel:=uD f.ins L i
    have hsb:=ni f.ins[i] false
    have hpl:∀k,iT (dj f.ins L k)= .lst 1 ((dj f.ins L k).map λ(n:Nat)=>[.int .i64 (n:Int)]):=λ_=>rfl
    have hbl:mG L= .lst 1 (L.map λb=>[.bool b]):=rfl
    generalize hp:plc f.ins L f.ins[i].n.toNat=p at hp1 hle2
    generalize hq:plc f.ins L i=q at hp2 hle1
    have htm:(p:Int).tmod 256=(p:Int)%256:=by rw[show(p:Int).tmod 256=((p%256:Nat):Int) from rfl];omega
    have htd:IntKind.i64.wrap ((p:Int)/256)=(p:Int)/256:=aa (by omega) (by omega)
    have hwd1:IntKind.i64.wrap ((p:Int)-(q:Int))=(p:Int)-(q:Int):=aa (by omega) (by omega)
    have hwd2:IntKind.i64.wrap ((p:Int)-(q:Int)-(aL f.ins[i] false:Int))=(p:Int)-(q:Int)-(aL f.ins[i] false:Int):=aa (by omega) (by omega)
    have hwd3:IntKind.i64.wrap ((p:Int)-(q:Int)-(aL f.ins[i] false:Int)+256)=(p:Int)-(q:Int)-(aL f.ins[i] false:Int)+256:=aa (by omega) (by omega)
    have w128:IntKind.i64.wrap 128=128:=rfl
    have w148:IntKind.i64.wrap 148=148:=rfl
    have w149:IntKind.i64.wrap 149=149:=rfl
    have w0:IntKind.i64.wrap 0=0:=rfl
    have w20:IntKind.i64.wrap 20=20:=rfl
    have w21:IntKind.i64.wrap 21=21:=rfl
    simp-implicitDefEqProofs[hj]
    simp-implicitDefEqProofs[Mins.cs,hpl,hp1]
    refine⟨by omega,?_⟩
    simp-implicitDefEqProofs[Mins.cs,hbl,hg2]
    refine(kj G _).use ?_
    have hc2:f.ins[i].op=20\/f.ins[i].op=21:=by simpa[jmp] using hj
    cases hLi:L[i] with
    |true=>
     have he:je f.ins L i=[u8 (f.ins[i].op+128)]++(if f.ins[i].op=21 then[u8 f.ins[i].a] else[])++[u8 (p%256:Nat),u8 (p/256:Nat)]:=by simp[je,hg1,hg2,hj,hLi,hp]
     rcases hc2 with e|e
     ·simp-implicitDefEqProofs[Mins.cs,hbl,hg2,hLi,e,w128,w148,hbo,htk,htm,htd]
      refine⟨by omega,by omega,i+1,h1,by omega,al [0,6] rfl (by simp) (af rfl (by simp) (af (by simp[List.take_of_length_le,henc,he,e,u8,htm,htd]) (by simp) aj)) ?_⟩
      simp[below,ren,w1 (i:=i) (by omega),henc,he,e]
     ·simp-implicitDefEqProofs[Mins.cs,hbl,hg2,hLi,e,w128,w149,hbo,htk,htm,htd]
      refine⟨by omega,by omega,by omega,i+1,h1,by omega,al [0,8] rfl (by simp) (af rfl (by simp) (af (by simp[List.take_of_length_le,henc,he,e,u8,htm,htd]) (by simp) aj)) ?_⟩
      simp[below,ren,w1 (i:=i) (by omega),henc,he,e]
    |false=>
     have he:je f.ins L i=[u8 f.ins[i].op]++(if f.ins[i].op=21 then[u8 f.ins[i].a] else[])++[u8 ((p:Int)-q-aL f.ins[i] false)]:=by simp[je,hg1,hg2,hj,hLi,hp,hq]
     rcases hc2 with e|e
     ·simp-implicitDefEqProofs[Mins.cs,hbl,hg2,hLi,e,w0,w20,hbo,htk]
      refine⟨by omega,?_⟩
      simp-implicitDefEqProofs[hp2,hwd1]
      have hs25:=kR G f.ins[i] false q1 q2
      rw[Mins.cs,e] at hs25
      refine hs25.use ?_
      simp-implicitDefEqProofs[hp2,hwd1,hwd2,hwd3,HP,Mins.cs,hbo,htk]
      refine⟨by omega,i+1,h1,by omega,al [0,6] rfl (by simp) (af rfl (by simp) (af (by simp[List.take_of_length_le,henc,he,e,u8]) (by simp) aj)) ?_⟩
      simp[below,ren,w1 (i:=i) (by omega),henc,he,e]
     ·simp-implicitDefEqProofs[Mins.cs,hbl,hg2,hLi,e,w0,w21,hbo,htk]
      refine⟨by omega,by omega,?_⟩
      simp-implicitDefEqProofs[hp2,hwd1]
      have hs25:=kR G f.ins[i] false q1 q2
      rw[Mins.cs,e] at hs25
      refine hs25.use ?_
      simp-implicitDefEqProofs[hp2,hwd1,hwd2,hwd3,HP,Mins.cs,hbo,htk]
      refine⟨by omega,i+1,h1,by omega,al [0,8] rfl (by simp) (af rfl (by simp) (af (by simp[List.take_of_length_le,henc,he,e,u8]) (by simp) aj)) ?_⟩
      simp[below,ren,w1 (i:=i) (by omega),henc,he,e]
  ·simp at h1
   have hie:i=f.ins.length:=by omega
   subst hie
   simp-implicitDefEqProofs
theorem Kv(f:Mfn)(hn:f.ins.length<=1000000):VF Tryz.prog G dE [.agg (f.cs.map .p)] (.tup [.p (aN (if aC f then gJ f else[])),.p (.bool (aC f))]):=by
 refine(sX G f hn).freezeR (λt v h ⟨id,e,_⟩=>by cases e) λv h ⟨id,e1,e2⟩=>?_
 cases e1
 exact .tup (.one (nv e2) (.keep (by simp) .nil)) .nil
theorem Bh(f:Mfn)(hn:f.ins.length<=1000000):AC Tryz.prog G dE [.agg (f.cs.map .p)] [] λx h=>x= .ret (.tup [.sl 0 1 0 (if aC f then gJ f else[]).length,.p (.bool (aC f))])/\h=[bV (if aC f then gJ f else[])]:=by
 refine(sX G f hn).gc (λt v h ⟨id,e,_⟩=>by cases e) λv h ⟨id,e1,e2⟩=>?_
 cases e1
 generalize (if aC f then gJ f else[])=l at e2⊢
 exact⟨.tup [.sl 0 1 0 l.length,.p (.bool (aC f))],[bV l],⟨[id],by simp,by simp,by simp,by simp[below],by simp[ren,aF],af e2 (by simp) aj⟩,rfl,rfl⟩
end
section
def aJ(code:List Int)(i:Nat):Int:=code.getD i 0
def bJ(code:List Int):Prop:=∀n∈code,0<=n/\n<=255
theorem cX{code:List Int}{i:Nat}(h:i<code.length):code[i]?=some (aJ code i):=by
 rw[aJ,List.getD_eq_getElem?_getD,List.getElem?_eq_getElem h];rfl
theorem dW{code:List Int}(hb:bJ code)(i:Nat):0<=aJ code i/\aJ code i<=255:=by
 rcases Nat.lt_or_ge i code.length with h|h
 ·exact hb _ (List.mem_of_getElem? (cX h))
 ·rw[aJ,List.getD_eq_getElem?_getD,List.getElem?_eq_none h];simp
def s8(n:Int):Int:=if 127<n then n-256 else n
def eG(op:Int):Mins:=⟨op,0,0,0,0⟩
def fP(op:Int):Bool:=op==20||op==21
def nL(code:List Int)(at':Nat)(op:Int)(long:Bool):Mins:=
 let n:=aL (eG op) long
 let b1:=aJ code (at'+1)
 let b2:=aJ code (at'+2)
 if fP op then⟨op,if op=21 then b1 else 0,0,0,if long then aJ code (at'+n-2)+256*aJ code (at'+n-1) else(at'+n:Nat)+s8 (aJ code (at'+n-1))⟩
 else if op==1||inR op 15 18 then⟨op,b1,0,0,b2⟩
 else if inR op 3 9 then⟨op,b1%8,b1/8,b2,0⟩
 else if op==2||inR op 10 12 then⟨op,b1%8,b1/8,0,0⟩
 else if op==14 then⟨op,0,0,0,b1⟩ else⟨op,b1,0,0,0⟩
def aT(code:List Int)(i:Nat):Int:=aJ code i%128
def ee(code:List Int)(i:Nat):Bool:=decide (128<=aJ code i)
def fu(code:List Int)(i:Nat):Bool:=inR (aT code i) 1 22&&(!ee code i||fP (aT code i))
def aI(code:List Int)(i:Nat):Nat:=aL (eG (aT code i)) (ee code i)
def bl(code:List Int)(i:Nat):Bool:=fu code i&&decide (i+aI code i<=code.length)
def bS(code:List Int)(i:Nat):Mins:=nL code i (aT code i) (ee code i)
theorem nz(code:List Int)(i:Nat):2<=aI code i/\aI code i<=4:=by
 unfold aI aL
 split
 ·split<;>split<;>omega
 ·rcases fm (eG (aT code i)) with h|h<;>omega
theorem iw{x:Int}{n:Nat}(h:x=n)(hn:n<=9223372036854775807):IntKind.i64.wrap x=n:=by rw[aa (by omega) (by omega),h]
variable (G:az)
theorem yI:AK.whole ke=FK.ak jV:=rfl
theorem Gz(code:List Int)(hb:bJ code)(i:Nat)(hi:i<code.length)(hl:code.length<=1048576):
 VF Tryz.prog G jM [.p (aN code),.p (.int .i64 i)]
  (.tup (if bl code i then[.agg ((bS code i).cs.map .p),.p (.int .i64 (aI code i)),.p (.bool true)] else[.agg ((eG (aT code i)).cs.map .p),.p (.int .i64 0),.p (.bool false)])):=by
 refine AC.goK yA yI ?_
 have hbl:aN code= .lst 1 (code.map λn=>[.int .u8 n]):=rfl
 have hg0:=cX hi
 have h0:=dW hb i
 have hop:(aJ code i).tmod 128=aT code i:=by rw[aT,Int.tmod_eq_emod_of_nonneg h0.1]
 have hop0:0<=aT code i/\aT code i<128:=by rw[aT];omega
 have hcv:IntKind.i64.wrap (aT code i)=aT code i:=aa (by omega) (by omega)
 have hbc:(eG (aT code i)).cs=[.int .i64 (aT code i),.int .i64 0,.int .i64 0,.int .i64 0,.int .i64 0]:=rfl
 have hlg:decide (128<=aJ code i)=ee code i:=rfl
 simp-implicitDefEqProofs[ke,jV,hbl,hg0,hop,hcv,hlg]
 refine LM (α:=Unit) (λ_=>aB 204 [(0,.p (aN code)),(1,.p (.int .i64 i)),(4,.ptr 0 5 0 0),(5,.p (.int .i64 0)),(6,.p (.bool false)),(7,.p (.bool (ee code i))),(8,.ptr 1 5 0 0)])
  (λ_=>[.row 5 [(eG 0).cs.map .p],.row 5 [(eG (aT code i)).cs.map .p]]) (λ_=>fu code i=true) ?_ λ_ hok=>?_
 ·simp-implicitDefEqProofs
  refine(zd G _).use ?_
  by_cases hr:inR (aT code i) 1 22=true
  rotate_left
  ·have hd:bl code i=false:=by simp[bl,fu,hr]
   simp-implicitDefEqProofs[yX (by simpa using hr),hd,eG,Mins.cs]
  have hfl:=(ui hr).1
  cases hL:ee code i with
  |false=>
   simp-implicitDefEqProofs[hfl]
   refine⟨by simp[fu,hr,hL],bh (by simp) (by simp[okO]) ?_⟩
   simp[below,aN]
  |true=>
   simp-implicitDefEqProofs[hfl]
   refine(gA G (eG (aT code i))).use ?_
   have hj:jmp (eG (aT code i))=fP (aT code i):=rfl
   cases hJ:fP (aT code i) with
   |false=>
    have hd:bl code i=false:=by simp[bl,fu,hL,hJ]
    simp-implicitDefEqProofs[hj,hJ]
    simp-implicitDefEqProofs[hd,eG,Mins.cs]
   |true=>
    simp-implicitDefEqProofs[hj,hJ]
    refine⟨by simp[fu,hr,hL,hJ],bh (by simp) (by simp[okO]) ?_⟩
    simp[below,aN]
 simp-implicitDefEqProofs
 refine(kR G (eG (aT code i)) (ee code i) rfl rfl).use ?_
 have hsz:aL (eG (aT code i)) (ee code i)=aI code i:=rfl
 obtain⟨hs2,hs4⟩:=nz code i
 have hwn:IntKind.i64.wrap ((i:Int)+aI code i)=((i+aI code i:Nat):Int):=iw (by omega) (by omega)
 simp-implicitDefEqProofs[hsz,hwn,hbl]
 refine aR (λh1=>?_) (λh1=>?_)
 ·simp at h1
  have hd:bl code i=false:=by simp[bl];intro _;omega
  simp-implicitDefEqProofs[hd]
 simp at h1
 have h1':i+aI code i<=code.length:=by omega
 have hgood:bl code i=true:=by simp[bl,hok,h1']
 have hj:jmp (eG (aT code i))=fP (aT code i):=rfl
 refine NT (aB 204 [(4,.ptr 0 5 0 0),(8,.ptr 1 5 0 0),(9,.p (.int .i64 (aI code i)))]) [.row 5 [(eG 0).cs.map .p],.row 5 [(bS code i).cs.map .p]] ?_ ?_
 rotate_left
 ·simp-implicitDefEqProofs[hgood]
 have fin:∀x:Mins,bS code i=x->∀l:List (Nat × AV),FgA 2 l [(4,.ptr 0 5 0 0),(8,.ptr 1 5 0 0),(9,.p (.int .i64 (aI code i)))]->
  Wk 0 (aB 204 l) [.row 5 [(eG 0).cs.map .p],.row 5 [x.cs.map .p]] (aB 204 [(4,.ptr 0 5 0 0),(8,.ptr 1 5 0 0),(9,.p (.int .i64 (aI code i)))]) [.row 5 [(eG 0).cs.map .p],.row 5 [(bS code i).cs.map .p]]:=λx e l hl=>by
  rw[e];exact bh (by simp) (by simp[okO]) hl
 simp-implicitDefEqProofs[]
 refine(gA G (eG (aT code i))).use ?_
 have e1:bS code i=nL code i (aT code i) (ee code i):=rfl
 have hw1:IntKind.i64.wrap ((i:Int)+1)=((i+1:Nat):Int):=iw (by omega) (by omega)
 cases hJ:fP (aT code i) with
 |true=>
  have hc:aT code i=20\/aT code i=21:=by simpa[fP] using hJ
  have hw2:IntKind.i64.wrap ((i:Int)+aI code i-2)=((i+aI code i-2:Nat):Int):=iw (by omega) (by omega)
  have hw3:IntKind.i64.wrap ((i:Int)+aI code i-1)=((i+aI code i-1:Nat):Int):=iw (by omega) (by omega)
  have hq1:=cX (code:=code) (i:=i+1) (by omega)
  have hq2:=cX (code:=code) (i:=i+aI code i-2) (by omega)
  have hq3:=cX (code:=code) (i:=i+aI code i-1) (by omega)
  have b1:=dW hb (i+1)
  have b2:=dW hb (i+aI code i-2)
  have b3:=dW hb (i+aI code i-1)
  have hv1:IntKind.i64.wrap (aJ code (i+1))=aJ code (i+1):=aa (by omega) (by omega)
  have hv2:IntKind.i64.wrap (aJ code (i+aI code i-2))=aJ code (i+aI code i-2):=aa (by omega) (by omega)
  have hv3:IntKind.i64.wrap (aJ code (i+aI code i-1))=aJ code (i+aI code i-1):=aa (by omega) (by omega)
  have hX:bS code i=⟨aT code i,if aT code i=21 then aJ code (i+1) else 0,0,0,if ee code i then aJ code (i+aI code i-2)+256*aJ code (i+aI code i-1) else((i+aI code i:Nat):Int)+s8 (aJ code (i+aI code i-1))⟩:=by
   rw[e1];simp only[nL,hsz,if_pos hJ]
  have hwL:IntKind.i64.wrap (aJ code (i+aI code i-2)+IntKind.i64.wrap (256*aJ code (i+aI code i-1)))=aJ code (i+aI code i-2)+256*aJ code (i+aI code i-1):=by
   rw[aa (x:=256*_) (by omega) (by omega),aa (by omega) (by omega)]
  have hwS:IntKind.i64.wrap (IntKind.i64.wrap ((i:Int)+aI code i+aJ code (i+aI code i-1))-IntKind.i64.wrap (256*(if 127<aJ code (i+aI code i-1) then 1 else 0)))=(i:Int)+aI code i+s8 (aJ code (i+aI code i-1)):=by
   rw[aa (x:=_+_+_) (by omega) (by omega)]
   unfold s8
   split
   ·rw[aa (x:=256*1) (by omega) (by omega),aa (by omega) (by omega)];omega
   ·rw[aa (x:=256*0) (by omega) (by omega),aa (by omega) (by omega)];omega
  simp-implicitDefEqProofs[hj,hJ]
  simp-implicitDefEqProofs[hbc]
  rcases hc with e|e<;>cases hL:ee code i<;>simp-implicitDefEqProofs[e,hbl,hwn,hw1,hw2,hw3,hq1,hq2,hq3,hv1,hv2,hv3,hwL]
  ·refine(kj G _).use ?_
   simp-implicitDefEqProofs[hwS,hbl,hq3]
   exact fin ⟨20,0,0,0,_⟩ (by rw[hX];simp[e,hL]) _ (by simp[below])
  ·exact fin ⟨20,0,0,0,_⟩ (by rw[hX];simp[e,hL]) _ (by simp[below])
  ·refine⟨by omega,(kj G _).use ?_⟩
   simp-implicitDefEqProofs[hwS,hbl,hq3]
   exact fin ⟨21,aJ code (i+1),0,0,_⟩ (by rw[hX];simp[e,hL]) _ (by simp[below])
  ·refine⟨by omega,fin ⟨21,aJ code (i+1),0,0,_⟩ (by rw[hX];simp[e,hL]) _ (by simp[below])⟩
 |false=>
  have hX:bS code i=nL code i (aT code i) (ee code i):=rfl
  have hJ':¬fP (aT code i)=true:=by simp[hJ]
  have hnj:jmp (eG (aT code i))=false:=hJ
  have hsP:aI code i=(aO (eG (aT code i))).length:=by rw[←hsz,aL,if_neg (by simpa using hnj)]
  have b1:=dW hb (i+1)
  have b2:=dW hb (i+2)
  have hq1:=cX (code:=code) (i:=i+1) (by omega)
  have hw2:IntKind.i64.wrap ((i:Int)+2)=((i+2:Nat):Int):=iw (by omega) (by omega)
  have ht2:((i:Int)+2).toNat=i+2:=by omega
  have hv1:IntKind.i64.wrap (aJ code (i+1))=aJ code (i+1):=aa (by omega) (by omega)
  have hv2:IntKind.i64.wrap (aJ code (i+2))=aJ code (i+2):=aa (by omega) (by omega)
  have hm:(aJ code (i+1)).tmod 8=aJ code (i+1)%8:=Int.tmod_eq_emod_of_nonneg b1.1
  have hdv:IntKind.i64.wrap (aJ code (i+1)/8)=aJ code (i+1)/8:=aa (by omega) (by omega)
  have hdd:(aJ code (i+1)).tdiv 8=aJ code (i+1)/8:=Int.tdiv_eq_ediv_of_nonneg b1.1
  simp-implicitDefEqProofs[hj,hJ]
  simp-implicitDefEqProofs[hbc]
  by_cases h1:aT code i=1
  ·have h3:aI code i=3:=by rw[hsP,h1];rfl
   have hq2:=cX (code:=code) (i:=i+2) (by omega)
   simp-implicitDefEqProofs[h1,hbl,ht2,hw1,hw2,hq1,hq2,hv1,hv2]
   exact⟨by omega,by omega,fin ⟨1,aJ code (i+1),0,0,aJ code (i+2)⟩ (by rw[hX,h1];rfl) _ (by simp[below])⟩
  simp-implicitDefEqProofs[h1]
  refine(gg G _ _ _).use ?_
  by_cases h2:inR (aT code i) 15 18=true
  ·have h3:aI code i=3:=by rw[hsP];simp[aO,eG,h2]
   have hq2:=cX (code:=code) (i:=i+2) (by omega)
   simp-implicitDefEqProofs[h2,hbl,ht2,hw1,hw2,hq1,hq2,hv1,hv2]
   exact⟨by omega,by omega,fin ⟨aT code i,aJ code (i+1),0,0,aJ code (i+2)⟩ (by rw[hX];simp[nL,hJ,h2]) _ (by simp[below])⟩
  simp-implicitDefEqProofs[h2]
  refine(gg G _ _ _).use ?_
  by_cases h4:inR (aT code i) 3 9=true
  ·have h3:aI code i=3:=by rw[hsP];simp[aO,eG,h1,h2,h4]
   have hq2:=cX (code:=code) (i:=i+2) (by omega)
   simp-implicitDefEqProofs[h4,hbl,ht2,hw1,hw2,hq1,hq2,hv1,hv2,hm,hdd,hdv]
   exact⟨by omega,by omega,fin ⟨aT code i,aJ code (i+1)%8,aJ code (i+1)/8,aJ code (i+2),0⟩ (by rw[hX];simp[nL,hJ,h1,h2,h4]) _ (by simp[below])⟩
  simp-implicitDefEqProofs[h4]
  by_cases h5:aT code i=2
  ·simp-implicitDefEqProofs[h5,hbl,hw1,hw2,hq1,hv1,hm,hdd,hdv]
   exact⟨by omega,fin ⟨2,aJ code (i+1)%8,aJ code (i+1)/8,0,0⟩ (by rw[hX,h5];rfl) _ (by simp[below])⟩
  simp-implicitDefEqProofs[h5]
  refine(gg G _ _ _).use ?_
  by_cases h6:inR (aT code i) 10 12=true
  ·simp-implicitDefEqProofs[h6,hbl,hw1,hw2,hq1,hv1,hm,hdd,hdv]
   exact⟨by omega,fin ⟨aT code i,aJ code (i+1)%8,aJ code (i+1)/8,0,0⟩ (by rw[hX];simp[nL,hJ,h1,h2,h4,h5,h6]) _ (by simp[below])⟩
  simp-implicitDefEqProofs[h6]
  by_cases h7:aT code i=14
  ·simp-implicitDefEqProofs[h7,hbl,hw1,hw2,hq1,hv1]
   exact⟨by omega,fin ⟨14,0,0,0,aJ code (i+1)⟩ (by rw[hX,h7];rfl) _ (by simp[below])⟩
  simp-implicitDefEqProofs[h7,hbl,hw1,hw2,hq1,hv1]
  exact⟨by omega,fin ⟨aT code i,aJ code (i+1),0,0,0⟩ (by rw[hX];simp[nL,hJ,h1,h2,h4,h5,h6,h7]) _ (by simp[below])⟩
end
section
variable (G:az)
def shpT:List Int:=[2,0,1,2,2,2,2,2,2,2,1,1,1,3,4,0,0,0,0,3,5,5,3]
theorem ze(op:Int)(h:inR op 1 22=true):VF Tryz.prog G cW [.p (.int .i64 op)] (.p (.int .i64 (shpT.getD op.toNat 2))):=by
 refine AC.go vu ?_
 rcases Az h with rfl|rfl|rfl|rfl|rfl|rfl|rfl|rfl|rfl|rfl|rfl|rfl|rfl|rfl|rfl|rfl|rfl|rfl|rfl|rfl|rfl|rfl<;>simp-implicitDefEqProofs[mD,shpT]
theorem Ep(x:Mins)(hop:inR x.op 1 22=true)(hj:jmp x=false)(ha:inR x.a 0 7=true)(hb:inR x.b 0 7=true):
 AC Tryz.prog G di [.agg (x.cs.map .p)] [] λr h=>r= .ret (.sl 0 1 0 (aO x).length)/\h=[bV (aO x)]:=by
 have key:AC Tryz.prog G di [.agg (x.cs.map .p)] [] λr h=>r= .ret (.sl 1 1 0 (aO x).length)/\∃o,h=[o,bV (aO x)]:=by
  refine AC.go vR ?_
  simp-implicitDefEqProofs[mK]
  simp-implicitDefEqProofs[Mins.cs]
  refine(ze G x.op hop).use ?_
  simp[inR] at ha hb
  have hw:IntKind.u8.wrap (IntKind.u8.wrap x.a+IntKind.u8.wrap (8*IntKind.u8.wrap x.b))=IntKind.u8.wrap (x.a+8*x.b):=by
   simp[IntKind.wrap,IntKind.bits,IntKind.signed]
   omega
  obtain⟨op,a,b,c,n⟩:=x
  simp only at hop hj ha hb hw⊢
  rcases Az hop with rfl|rfl|rfl|rfl|rfl|rfl|rfl|rfl|rfl|rfl|rfl|rfl|rfl|rfl|rfl|rfl|rfl|rfl|rfl|rfl|rfl|rfl
  all_goals first
   |(simp[jmp] at hj;done)
   |simp-implicitDefEqProofs[shpT,aO,bV,u8,inR,hw]
 refine key.gc (λt v h ⟨e,_⟩=>by cases e) λv h ⟨e1,o,e2⟩=>?_
 cases e1;subst e2
 exact⟨.sl 0 1 0 (aO x).length,[bV (aO x)],⟨[1],by simp,by simp,by simp,by simp[below],by simp[ren],af rfl (by simp) aj⟩,rfl,rfl⟩
theorem nC(x:Mins)(hop:inR x.op 1 22=true)(hj:jmp x=false)(ha:inR x.a 0 7=true)(hb:inR x.b 0 7=true):VF Tryz.prog G di [.agg (x.cs.map .p)] (.p (aN (aO x))):=
 AC.freeze (Ep G x hop hj ha hb) (.one (nv rfl) .nil)
def szl(ins:List Mins)(L:List Bool)(k:Nat):List Nat:=(List.zipWith aL ins L).take k
theorem Ik{ins:List Mins}{L:List Bool}{k i:Nat}(hk:i<k)(h1:i<ins.length)(h2:i<L.length):(szl ins L k)[i]?=some (aL ins[i] L[i]):=by
 rw[szl,List.getElem?_take,if_pos hk,List.getElem?_zipWith,List.getElem?_eq_getElem h1,List.getElem?_eq_getElem h2]
theorem GK{ins:List Mins}{L:List Bool}{k:Nat}(h1:k<ins.length)(h2:k<L.length):szl ins L (k+1)=szl ins L k++[aL ins[k] L[k]]:=by
 have h:k<(List.zipWith aL ins L).length:=by simp;omega
 rw[szl,aq h];simp[szl]
theorem Jk{ins:List Mins}{L:List Bool}{k:Nat}(h1:k<=ins.length)(h2:k<=L.length):(szl ins L k).length=k:=by simp[szl];omega
def aM(f:Mfn)(lv v1 v2:AV)(sz:Int):List AV:=[.p (.int .i64 f.params),.p (.int .i64 f.slots),.p (bp f.ins),lv,v1,v2,.p (.int .i64 sz)]
theorem BN{h:List AO}{id sid pid:Nat}{f:Mfn}{lv:AV}{sz:Int}{L:List Bool}{i:Nat}(hl:L.length=f.ins.length)(hf:fK f.ins)(h1:i<f.ins.length)(hj:jmp f.ins[i]=true)
 (e0:h[id]?=some (.row 7 [aM f lv (.sl sid 1 0 f.ins.length) (.sl pid 1 0 f.ins.length) sz]))(e1:h[sid]?=some (ay (szl f.ins L f.ins.length)))(e2:h[pid]?=some (ay (dj f.ins L f.ins.length))):
 AC Tryz.prog G cJ [.ptr id 7 0 0,.p (.int .i64 i)] h λr h'=>r= .ret (.p (.int .i64 ((plc f.ins L f.ins[i].n.toNat:Int)-plc f.ins L i-aL f.ins[i] (L[i]'(by omega)))))/\h'=h:=by
 refine AC.go mj ?_
 obtain⟨hn,hfi⟩:=hf
 obtain⟨q1,q2,q3,q4⟩:=hfi _ (List.getElem_mem h1)
 have q5:=q4 hj
 simp[inR] at q5
 have hnl:f.ins[i].n.toNat<f.ins.length:=by omega
 have hp1:=fQ (ins:=f.ins) (L:=L) hnl
 have hp2:=fQ (ins:=f.ins) (L:=L) h1
 have hs1:=Ik (ins:=f.ins) (L:=L) h1 h1 (by omega)
 have hle1:=jZ (ins:=f.ins) (L:=L) hl (i:=i)
 have hle2:=jZ (ins:=f.ins) (L:=L) hl (i:=f.ins[i].n.toNat)
 have hsb:=ni f.ins[i] (L[i]'(by omega))
 have hg1:=List.getElem?_eq_getElem h1
 have hi:∀l,ay l= .row 1 (l.map λ(n:Nat)=>[.p (.int .i64 (n:Int))]):=λ_=>rfl
 have hin:bp f.ins= .lst 5 (f.ins.map Mins.cs):=rfl
 rw[hi] at e1 e2
 have hwd1:IntKind.i64.wrap ((plc f.ins L f.ins[i].n.toNat:Int)-(plc f.ins L i:Int))=(plc f.ins L f.ins[i].n.toNat:Int)-(plc f.ins L i:Int):=aa (by omega) (by omega)
 have hwd2:IntKind.i64.wrap ((plc f.ins L f.ins[i].n.toNat:Int)-(plc f.ins L i:Int)-(aL f.ins[i] (L[i]'(by omega)):Int))=(plc f.ins L f.ins[i].n.toNat:Int)-(plc f.ins L i:Int)-(aL f.ins[i] (L[i]'(by omega)):Int):=aa (by omega) (by omega)
 simp-implicitDefEqProofs[gI,e0,aM,hin,hg1]
 simp-implicitDefEqProofs[Mins.cs,hp1,e1,e2,hp2,hs1,h1]
 refine⟨by omega,?_⟩
 simp-implicitDefEqProofs[e0,aM,hp1,e1,e2,hp2,hs1,h1,hwd1,hwd2]
theorem He(f:Mfn)(L:List Bool)(hl:L.length=f.ins.length)(hf:fK f.ins)(hpos:0<f.ins.length)(v1 v2:AV)(sz:Int)(o3 o4:AO)(ho3:okO 0 o3)(ho4:okO 0 o4):
 AC Tryz.prog G dZ [.ptr 2 7 0 0] [.row 3 [f.cs.map .p],aG L,.row 7 [aM f (.sl 1 1 0 f.ins.length) v1 v2 sz],o3,o4]
  λr h'=>r= .ret (.tup [])/\h'=[.row 3 [f.cs.map .p],aG L,.row 7 [aM f (.sl 1 1 0 f.ins.length) (.sl 5 1 0 f.ins.length) (.sl 6 1 0 f.ins.length) (plc f.ins L f.ins.length)],o3,o4,ay (szl f.ins L f.ins.length),ay (dj f.ins L f.ins.length)]:=by
 obtain⟨hn,hfi⟩:=hf
 refine AC.go mh ?_
 have hin:bp f.ins= .lst 5 (f.ins.map Mins.cs):=rfl
 simp-implicitDefEqProofs[gR,aM]
 simp-implicitDefEqProofs[hin]
 refine aw (λi:Nat=>aB 78 [(0,.ptr 2 7 0 0),(18,.p (bp f.ins)),(19,.p (.int .i64 f.ins.length)),(20,.p (.int .i64 i))])
  (λi=>if i=0 then[.row 3 [f.cs.map .p],aG L,.row 7 [aM f (.sl 1 1 0 f.ins.length) .nils .nils 0],o3,o4]
    else[.row 3 [f.cs.map .p],aG L,.row 7 [aM f (.sl 1 1 0 f.ins.length) (.sl 5 1 0 i) (.sl 6 1 0 i) (plc f.ins L i)],o3,o4,ay (szl f.ins L i),ay (dj f.ins L i)])
  (λi=>i<=f.ins.length) (λi=>f.ins.length-i) 0 (by simp) ?_ ?_
 ·refine cS [0,1,2,3,4] (by simp) (by decide) (by decide) (af rfl (by simp) (an rfl (by simp[-Bool.exists_bool,-Bool.forall_bool,okO,aG]) (aE (by simp[aM,below]) (by simp[aM,ren,aF];exact hin.symm) (an rfl ho3 (an rfl ho4 aj))))) ?_
  simp[below,ren]
  exact hin.symm
 ·intro i hi
  simp-implicitDefEqProofs[]
  refine aR (λh1=>?_) (λh1=>?_)
  ·simp at h1
   have h2:i<L.length:=by omega
   obtain⟨q1,q2,q3,q4⟩:=hfi _ (List.getElem_mem h1)
   have hg1:=List.getElem?_eq_getElem h1
   have hg2:=List.getElem?_eq_getElem h2
   have hbo:aG L= .row 1 (L.map λb=>[.p (.bool b)]):=rfl
   have hle:=jZ (ins:=f.ins) (L:=L) hl (i:=i)
   have hle2:=jZ (ins:=f.ins) (L:=L) hl (i:=i+1)
   have hps:=pW h1 h2
   have hss:=GK h1 h2
   have hqs:=zq f.ins L i
   have hsl:=Jk (ins:=f.ins) (L:=L) (k:=i) (by omega) (by omega)
   have hql:=iY f.ins L i
   have hii:∀l,ay l= .row 1 (l.map λ(n:Nat)=>[.p (.int .i64 (n:Int))]):=λ_=>rfl
   have hbl:∀l,aN l= .lst 1 (l.map λn=>[.int .u8 n]):=λ_=>rfl
   have hw:IntKind.i64.wrap ((plc f.ins L i:Int)+(aL f.ins[i] L[i]:Int))=((plc f.ins L (i+1):Nat):Int):=by rw[aa (by omega) (by omega),hps];omega
   have w2:IntKind.i64.wrap 2=2:=rfl
   have w3:IntKind.i64.wrap 3=3:=rfl
   have w4:IntKind.i64.wrap 4=4:=rfl
   rcases Nat.eq_zero_or_pos i with hi0|hi0
   ·have hz:(i=0)=True:=by simp[hi0]
    have hs0:szl f.ins L i=[]:=by rw[hi0];simp[szl]
    have hq0:dj f.ins L i=[]:=by rw[hi0];simp[dj]
    have hp0:plc f.ins L i=0:=by rw[hi0];exact uh _ _
    by_cases hj:jmp f.ins[i]=true
    rotate_left
    ·have hsz:aL f.ins[i] L[i]=(aO f.ins[i]).length:=by simp[aL,hj]
     have hjo:(f.ins[i].op==20||f.ins[i].op==21)=false:=by simpa[jmp] using hj
     have hpl:=fm f.ins[i]
     have hwv:IntKind.i64.wrap (((aO f.ins[i]).length:Int))=((plc f.ins L (i+1):Nat):Int):=by rw[aa (by omega) (by omega),hps,hp0,hsz];omega
     simp-implicitDefEqProofs[hz,hin,hg1]
     simp-implicitDefEqProofs[Mins.cs]
     refine(bf G _).use ?_
     simp-implicitDefEqProofs[hjo]
     refine(nC G f.ins[i] q3 (by simpa using hj) q1 q2).use ?_
     simp-implicitDefEqProofs[hbl,aM,hii,hsl,hql,hwv,hz]
     refine⟨i+1,h1,by omega,?_⟩
     rw[if_neg (by omega)]
     refine cS [0,1,2,3,4,6,7] (by simp) (by decide) (by decide) (af rfl (by simp) (an rfl (by simp[-Bool.exists_bool,-Bool.forall_bool,okO,aG]) (aE (by simp[aM,below]) (by simp[aM,ren,aF];exact hi0) (an rfl ho3 (an rfl ho4 (af (by simp[hs0,hq0,hp0,hss,hsz,List.take_of_length_le,hsl]) (by simp) (af (by simp[hs0,hq0,hp0,hqs,List.take_of_length_le,hql]) (by simp) aj))))))) ?_
     simp[below,ren,w1 (i:=i) (by omega)]
    ·have hc2:f.ins[i].op=20\/f.ins[i].op=21:=by simpa[jmp] using hj
     cases hLi:L[i] with
     |true=>
      rcases hc2 with e|e
      ·have hsz:aL f.ins[i] L[i]=3:=by simp[aL,hj,hLi,e]
       have hpv:plc f.ins L (i+1)=3:=by rw[hps,hp0,hsz]
       simp-implicitDefEqProofs[hz,hin,hg1]
       simp-implicitDefEqProofs[Mins.cs]
       refine(bf G _).use ?_
       simp-implicitDefEqProofs[e,aM,hbo,h1,hg2,hLi,hii,hsl,hql,w2,w3,w4,hz,hl]
       refine⟨i+1,h1,by omega,?_⟩
       rw[if_neg (by omega)]
       refine cS [0,1,2,3,4,6,7] (by simp) (by decide) (by decide) (af rfl (by simp) (an rfl (by simp[-Bool.exists_bool,-Bool.forall_bool,okO,aG]) (aE (by simp[aM,below]) (by simp[aM,ren,aF,hpv];exact hi0) (an rfl ho3 (an rfl ho4 (af (by simp[hs0,hq0,hp0,hss,hsz,List.take_of_length_le,hsl]) (by simp) (af (by simp[hs0,hq0,hp0,hqs,List.take_of_length_le,hql]) (by simp) aj))))))) ?_
       simp[below,ren,w1 (i:=i) (by omega)]
      ·have hsz:aL f.ins[i] L[i]=4:=by simp[aL,hj,hLi,e]
       have hpv:plc f.ins L (i+1)=4:=by rw[hps,hp0,hsz]
       simp-implicitDefEqProofs[hz,hin,hg1]
       simp-implicitDefEqProofs[Mins.cs]
       refine(bf G _).use ?_
       simp-implicitDefEqProofs[e,aM,hbo,h1,hg2,hLi,hii,hsl,hql,w2,w3,w4,hz,hl]
       refine⟨i+1,h1,by omega,?_⟩
       rw[if_neg (by omega)]
       refine cS [0,1,2,3,4,6,7] (by simp) (by decide) (by decide) (af rfl (by simp) (an rfl (by simp[-Bool.exists_bool,-Bool.forall_bool,okO,aG]) (aE (by simp[aM,below]) (by simp[aM,ren,aF,hpv];exact hi0) (an rfl ho3 (an rfl ho4 (af (by simp[hs0,hq0,hp0,hss,hsz,List.take_of_length_le,hsl]) (by simp) (af (by simp[hs0,hq0,hp0,hqs,List.take_of_length_le,hql]) (by simp) aj))))))) ?_
       simp[below,ren,w1 (i:=i) (by omega)]
     |false=>
      rcases hc2 with e|e
      ·have hsz:aL f.ins[i] L[i]=2:=by simp[aL,hj,hLi,e]
       have hpv:plc f.ins L (i+1)=2:=by rw[hps,hp0,hsz]
       simp-implicitDefEqProofs[hz,hin,hg1]
       simp-implicitDefEqProofs[Mins.cs]
       refine(bf G _).use ?_
       simp-implicitDefEqProofs[e,aM,hbo,h1,hg2,hLi,hii,hsl,hql,w2,w3,w4,hz,hl]
       refine⟨i+1,h1,by omega,?_⟩
       rw[if_neg (by omega)]
       refine cS [0,1,2,3,4,6,7] (by simp) (by decide) (by decide) (af rfl (by simp) (an rfl (by simp[-Bool.exists_bool,-Bool.forall_bool,okO,aG]) (aE (by simp[aM,below]) (by simp[aM,ren,aF,hpv];exact hi0) (an rfl ho3 (an rfl ho4 (af (by simp[hs0,hq0,hp0,hss,hsz,List.take_of_length_le,hsl]) (by simp) (af (by simp[hs0,hq0,hp0,hqs,List.take_of_length_le,hql]) (by simp) aj))))))) ?_
       simp[below,ren,w1 (i:=i) (by omega)]
      ·have hsz:aL f.ins[i] L[i]=3:=by simp[aL,hj,hLi,e]
       have hpv:plc f.ins L (i+1)=3:=by rw[hps,hp0,hsz]
       simp-implicitDefEqProofs[hz,hin,hg1]
       simp-implicitDefEqProofs[Mins.cs]
       refine(bf G _).use ?_
       simp-implicitDefEqProofs[e,aM,hbo,h1,hg2,hLi,hii,hsl,hql,w2,w3,w4,hz,hl]
       refine⟨i+1,h1,by omega,?_⟩
       rw[if_neg (by omega)]
       refine cS [0,1,2,3,4,6,7] (by simp) (by decide) (by decide) (af rfl (by simp) (an rfl (by simp[-Bool.exists_bool,-Bool.forall_bool,okO,aG]) (aE (by simp[aM,below]) (by simp[aM,ren,aF,hpv];exact hi0) (an rfl ho3 (an rfl ho4 (af (by simp[hs0,hq0,hp0,hss,hsz,List.take_of_length_le,hsl]) (by simp) (af (by simp[hs0,hq0,hp0,hqs,List.take_of_length_le,hql]) (by simp) aj))))))) ?_
       simp[below,ren,w1 (i:=i) (by omega)]
   ·have hi1:¬i=0:=by omega
    by_cases hj:jmp f.ins[i]=true
    rotate_left
    ·have hsz:aL f.ins[i] L[i]=(aO f.ins[i]).length:=by simp[aL,hj]
     have hjo:(f.ins[i].op==20||f.ins[i].op==21)=false:=by simpa[jmp] using hj
     have hpl:=fm f.ins[i]
     have hwv:IntKind.i64.wrap ((plc f.ins L i:Int)+((aO f.ins[i]).length:Int))=((plc f.ins L (i+1):Nat):Int):=by rw[aa (by omega) (by omega),hps,hsz];omega
     simp-implicitDefEqProofs[hi1,hin,hg1]
     simp-implicitDefEqProofs[Mins.cs]
     refine(bf G _).use ?_
     simp-implicitDefEqProofs[hjo]
     refine(nC G f.ins[i] q3 (by simpa using hj) q1 q2).use ?_
     simp-implicitDefEqProofs[hbl,aM,hii,hsl,hql,hwv,hi1]
     refine⟨⟨by omega,by omega⟩,i+1,h1,by omega,?_⟩
     rw[if_neg (by omega)]
     refine cS [0,1,2,3,4,8,9] (by simp) (by decide) (by decide) (af rfl (by simp) (an rfl (by simp[-Bool.exists_bool,-Bool.forall_bool,okO,aG]) (aE (by simp[aM,below]) (by simp[aM,ren,aF]) (an rfl ho3 (an rfl ho4 (af (by simp[hss,hsz,List.take_of_length_le,hsl]) (by simp) (af (by simp[hqs,List.take_of_length_le,hql]) (by simp) aj))))))) ?_
     simp[below,ren,w1 (i:=i) (by omega)]
    ·have hc2:f.ins[i].op=20\/f.ins[i].op=21:=by simpa[jmp] using hj
     cases hLi:L[i] with
     |true=>
      rcases hc2 with e|e
      ·have hsz:aL f.ins[i] L[i]=3:=by simp[aL,hj,hLi,e]
       have hwv:IntKind.i64.wrap ((plc f.ins L i:Int)+3)=((plc f.ins L (i+1):Nat):Int):=by rw[aa (by omega) (by omega),hps,hsz];omega
       simp-implicitDefEqProofs[hi1,hin,hg1]
       simp-implicitDefEqProofs[Mins.cs]
       refine(bf G _).use ?_
       simp-implicitDefEqProofs[e,aM,hbo,h1,hg2,hLi,hii,hsl,hql,hwv,w3,w4,hi1,hl]
       refine⟨⟨by omega,by omega⟩,i+1,h1,by omega,?_⟩
       rw[if_neg (by omega)]
       refine cS [0,1,2,3,4,8,9] (by simp) (by decide) (by decide) (af rfl (by simp) (an rfl (by simp[-Bool.exists_bool,-Bool.forall_bool,okO,aG]) (aE (by simp[aM,below]) (by simp[aM,ren,aF]) (an rfl ho3 (an rfl ho4 (af (by simp[hss,hsz,List.take_of_length_le,hsl]) (by simp) (af (by simp[hqs,List.take_of_length_le,hql]) (by simp) aj))))))) ?_
       simp[below,ren,w1 (i:=i) (by omega)]
      ·have hsz:aL f.ins[i] L[i]=4:=by simp[aL,hj,hLi,e]
       have hwv:IntKind.i64.wrap ((plc f.ins L i:Int)+4)=((plc f.ins L (i+1):Nat):Int):=by rw[aa (by omega) (by omega),hps,hsz];omega
       simp-implicitDefEqProofs[hi1,hin,hg1]
       simp-implicitDefEqProofs[Mins.cs]
       refine(bf G _).use ?_
       simp-implicitDefEqProofs[e,aM,hbo,h1,hg2,hLi,hii,hsl,hql,hwv,w3,w4,hi1,hl]
       refine⟨⟨by omega,by omega⟩,i+1,h1,by omega,?_⟩
       rw[if_neg (by omega)]
       refine cS [0,1,2,3,4,8,9] (by simp) (by decide) (by decide) (af rfl (by simp) (an rfl (by simp[-Bool.exists_bool,-Bool.forall_bool,okO,aG]) (aE (by simp[aM,below]) (by simp[aM,ren,aF]) (an rfl ho3 (an rfl ho4 (af (by simp[hss,hsz,List.take_of_length_le,hsl]) (by simp) (af (by simp[hqs,List.take_of_length_le,hql]) (by simp) aj))))))) ?_
       simp[below,ren,w1 (i:=i) (by omega)]
     |false=>
      rcases hc2 with e|e
      ·have hsz:aL f.ins[i] L[i]=2:=by simp[aL,hj,hLi,e]
       have hwv:IntKind.i64.wrap ((plc f.ins L i:Int)+2)=((plc f.ins L (i+1):Nat):Int):=by rw[aa (by omega) (by omega),hps,hsz];omega
       simp-implicitDefEqProofs[hi1,hin,hg1]
       simp-implicitDefEqProofs[Mins.cs]
       refine(bf G _).use ?_
       simp-implicitDefEqProofs[e,aM,hbo,h1,hg2,hLi,hii,hsl,hql,hwv,w3,w4,hi1,hl]
       refine⟨⟨by omega,by omega⟩,i+1,h1,by omega,?_⟩
       rw[if_neg (by omega)]
       refine cS [0,1,2,3,4,8,9] (by simp) (by decide) (by decide) (af rfl (by simp) (an rfl (by simp[-Bool.exists_bool,-Bool.forall_bool,okO,aG]) (aE (by simp[aM,below]) (by simp[aM,ren,aF]) (an rfl ho3 (an rfl ho4 (af (by simp[hss,hsz,List.take_of_length_le,hsl]) (by simp) (af (by simp[hqs,List.take_of_length_le,hql]) (by simp) aj))))))) ?_
       simp[below,ren,w1 (i:=i) (by omega)]
      ·have hsz:aL f.ins[i] L[i]=3:=by simp[aL,hj,hLi,e]
       have hwv:IntKind.i64.wrap ((plc f.ins L i:Int)+3)=((plc f.ins L (i+1):Nat):Int):=by rw[aa (by omega) (by omega),hps,hsz];omega
       simp-implicitDefEqProofs[hi1,hin,hg1]
       simp-implicitDefEqProofs[Mins.cs]
       refine(bf G _).use ?_
       simp-implicitDefEqProofs[e,aM,hbo,h1,hg2,hLi,hii,hsl,hql,hwv,w3,w4,hi1,hl]
       refine⟨⟨by omega,by omega⟩,i+1,h1,by omega,?_⟩
       rw[if_neg (by omega)]
       refine cS [0,1,2,3,4,8,9] (by simp) (by decide) (by decide) (af rfl (by simp) (an rfl (by simp[-Bool.exists_bool,-Bool.forall_bool,okO,aG]) (aE (by simp[aM,below]) (by simp[aM,ren,aF]) (an rfl ho3 (an rfl ho4 (af (by simp[hss,hsz,List.take_of_length_le,hsl]) (by simp) (af (by simp[hqs,List.take_of_length_le,hql]) (by simp) aj))))))) ?_
       simp[below,ren,w1 (i:=i) (by omega)]
  ·simp at h1
   have hie:i=f.ins.length:=by omega
   subst hie
   have hne:¬f.ins.length=0:=by omega
   have hne':¬f.ins=[]:=λe=>by rw[e] at hpos;simp at hpos
   simp-implicitDefEqProofs[hne,hne',aM,hin]
end
section
def cR(m:Nat)(x:Mins):Nat:=if x.op=14 then max m ((if 4<x.n then 4 else x.n)+1).toNat else m
def pe(ins:List Mins)(i:Nat):Nat:=(ins.take i).foldl cR 0
theorem yT{ins:List Mins}{i:Nat}(h:i<ins.length):pe ins (i+1)=cR (pe ins i) ins[i]:=by rw[pe,aq h,List.foldl_append];rfl
theorem Jb(ins:List Mins):∀i,pe ins i<=5:=by
 have key:∀(l:List Mins) (m:Nat),m<=5->l.foldl cR m<=5:=by
  intro l
  induction l with
  |nil=>intro m h;exact h
  |cons x r ih=>
   intro m h
   refine ih _ ?_
   unfold cR
   by_cases h14:x.op=14
   ·rw[if_pos h14]
    by_cases h4:4<x.n
    ·rw[if_pos h4];omega
    ·rw[if_neg h4];omega
   ·rw[if_neg h14];exact h
 exact λi=>key _ _ (by omega)
theorem FY(f:Mfn):bn (aZ (pe f.ins f.ins.length) f)=bn (aZ (cB f.ins) f):=by
 have he:pe f.ins f.ins.length=f.ins.foldl cR 0:=by rw[pe,List.take_of_length_le (Nat.le_refl _)]
 rw[he]
 by_cases h:∀x∈f.ins,x.op=14->x.n<4
 ·have key:∀(l:List Mins) (m:Nat),(∀x∈l,x.op=14->x.n<4)->l.foldl cR m=l.foldl cY m:=by
   intro l
   induction l with
   |nil=>intro m _;rfl
   |cons x r ih=>
    intro m hl
    have h1:=hl x (by simp)
    have e:cR m x=cY m x:=by
     unfold cR cY
     by_cases h14:x.op=14
     ·have h2:=h1 h14
      rw[if_pos h14,if_neg (by omega)]
      by_cases hm:(m:Int)<=x.n
      ·rw[if_pos ⟨h14,hm,h2⟩];omega
      ·rw[if_neg (by omega)];omega
     ·rw[if_neg h14,if_neg (by simp[h14])]
    rw[List.foldl_cons,List.foldl_cons,e]
    exact ih _ λx hx=>hl x (by simp[hx])
  rw[key _ _ h];rfl
 ·have h':∃x∈f.ins,x.op=14/\4<=x.n:=by
   refine Classical.byContradiction λhn=>h λx hx h14=>?_
   refine Classical.byContradiction λhlt=>hn ⟨x,hx,h14,by omega⟩
  obtain⟨x,hx,h14,hx4⟩:=h'
  have e1:bn (aZ (f.ins.foldl cR 0) f)=false:=by
   have mono:∀(l:List Mins) (m:Nat),m<=l.foldl cR m:=by
    intro l
    induction l with
    |nil=>intro m;exact Nat.le_refl _
    |cons y r ih=>intro m;exact Nat.le_trans (by unfold cR;split;exact Nat.le_max_left _ _;exact Nat.le_refl _) (ih _)
   have big:∀(l:List Mins) (m:Nat),x∈l->5<=l.foldl cR m:=by
    intro l
    induction l with
    |nil=>intro m h;simp at h
    |cons y r ih=>
     intro m h
     rcases List.mem_cons.1 h with rfl|h
     ·refine Nat.le_trans ?_ (mono r _)
      unfold cR;rw[if_pos h14]
      by_cases h5:4<x.n
      ·rw[if_pos h5];omega
      ·rw[if_neg h5];omega
     ·exact ih _ h
   have:=big f.ins 0 hx
   have hl:inR (aZ (f.ins.foldl cR 0) f).length 1 4=false:=by simp[inR,aZ];omega
   simp[bn,hl]
  have e2:bn (aZ (cB f.ins) f)=false:=by
   have hm:=nb f.ins f.ins.length
   have he2:ex f.ins f.ins.length=cB f.ins:=by rw[ex,List.take_of_length_le (Nat.le_refl _)];rfl
   refine fX (i:=cB f.ins) (f:=f) (by simp[aZ]) ?_
   have:f.ins.all (gT f.params f.slots f.ins.length (cB f.ins))=false:=by
    rw[List.all_eq_false]
    refine⟨x,hx,?_⟩
    have:inR x.n 0 ((cB f.ins:Int)-1)=false:=by simp[inR];omega
    simp[rW,fN,ta,h14,this,inR]
    try (intros;omega)
   simp[gQ,this]
  rw[e1,e2]
variable (G:az)
theorem Ix(e:Nat)(he:e<=5):VF Tryz.prog G fU [.p (.int .u64 1),.p (.int .u64 e)] (.tup [.p (.int .u64 0),.p (.int .u64 e)]):=by
 refine AC.go pE ?_
 have:e=0\/e=1\/e=2\/e=3\/e=4\/e=5:=by omega
 rcases this with rfl|rfl|rfl|rfl|rfl|rfl<;>simp-implicitDefEqProofs[ju,IntKind.wrap,IntKind.bits,IntKind.signed]
theorem LN(e:Nat)(he:e<=5):VF Tryz.prog G ie [.p (.int .u64 1),.p (.int .u64 e)] (.tup [.p (.int .u64 0),.p (.int .u64 e)]):=by
 refine AC.go tn ?_
 simp-implicitDefEqProofs[lP]
 refine(Ix G e he).use ?_
 simp-implicitDefEqProofs
def pr(n e:Nat):List (List AV):=List.replicate n (backF.cs.map .p)++List.replicate (e-n) cK
theorem FV{n e:Nat}(h:n<=e):(pr n e).length=e:=by simp[pr];omega
theorem FJ{n e:Nat}(h:n<=e):List.take n (pr n e)++List.take (e-n) (List.take n (pr n e))++List.drop (n+min n (e-n)) (pr n e)=pr (n+min n (e-n)) e:=by
 have h1:List.take n (pr n e)=List.replicate n (backF.cs.map .p):=by rw[pr,List.take_left' (by simp)]
 rw[h1,List.take_replicate,pr,List.drop_append,List.drop_replicate,List.drop_replicate,List.length_replicate,pr]
 rw[show n-(n+min n (e-n))=0 by omega,show e-n-(n+min n (e-n)-n)=e-(n+min n (e-n)) by omega,List.replicate_zero,List.nil_append,←List.replicate_append_replicate,Nat.min_comm (e-n) n,List.append_assoc]
theorem HE(n e:Nat):∀x∈pr n e,ab 0 x:=by
 intro x hx
 rcases List.mem_append.1 hx with h|h
 ·rw[List.eq_of_mem_replicate h];simp[backF,Mfn.cs,below,ab]
 ·rw[List.eq_of_mem_replicate h];simp[cK,below,ab]
theorem Ga(o:AO)(ho:okO 0 o)(e:Nat)(he:e<=5):AC Tryz.prog G cL [.p (.lst 3 [backF.cs]),.p (.int .i64 e)] [o] λr h=>r= .ret (.sl 1 3 0 e)/\h=[o,.row 3 (List.replicate e (backF.cs.map .p))]:=by
 refine AC.go jI ?_
 have w1':IntKind.u64.wrap 1=1:=rfl
 have we:IntKind.u64.wrap (e:Int)=e:=by simp[IntKind.wrap,IntKind.bits,IntKind.signed];omega
 have wi:IntKind.i64.wrap (e:Int)=e:=aa (by omega) (by omega)
 simp-implicitDefEqProofs[eU,w1',we]
 refine(LN G e he).use ?_
 have hng:¬(9223372036854775807:Int)<e:=by omega
 simp-implicitDefEqProofs[hng,wi]
 refine⟨by omega,?_⟩
 refine aw (λn:Nat=>aB 48 [(7,.sl 1 3 0 e),(8,.p (.int .i64 n))]) (λn=>[o,.row 3 (pr n e)]) (λn=>n<=e/\(e=0\/0<n)) (λn=>e-n) (min 1 e) (by omega) ?_ ?_
 ·have:(List.take e [List.map AV.p backF.cs]++List.replicate (e-min 1 e) [AV.p (PV.int IntKind.i64 0),AV.p (PV.int IntKind.i64 0),AV.nils])=pr (min 1 e) e:=by
   rcases Nat.eq_zero_or_pos e with rfl|h
   ·rfl
   ·rw[show min 1 e=1 by omega,pr,List.take_of_length_le (by simp;omega)];rfl
  rw[this]
  exact cS [0,1] (by simp) (by decide) (by decide) (an rfl ho (af rfl (HE _ _) aj)) (by simp[below,ren])
 ·intro n ⟨hn,hp⟩
  have hl:=FV hn
  simp-implicitDefEqProofs[]
  refine aR (λh1=>?_) (λh1=>?_)
  ·simp at h1
   simp-implicitDefEqProofs[hl]
   refine⟨by omega,?_⟩
   have hne:n+(e-n)<=e:=by omega
   have hrs:=FJ hn
   rw[List.append_assoc] at hrs
   have w2:IntKind.i64.wrap ((n:Int)+(min n (e-n):Nat))=((n+min n (e-n):Nat):Int):=by rw[aa (by omega) (by omega)];omega
   simp-implicitDefEqProofs[hn,hne,hl,hrs,Nat.min_eq_left hn,w2]
   exact⟨n+min n (e-n),⟨by omega,by omega⟩,by omega,cS [0,1] (by simp) (by decide) (by decide) (an rfl ho (af rfl (HE _ _) aj)) (by simp[below,ren])⟩
  ·simp at h1
   have:n=e:=by omega
   subst this
   simp-implicitDefEqProofs[pr]
end
section
variable (G:az)
structure LS where
 again:Bool
 first:Bool
 L:List Bool
 sz:Int
 o3:AO
 o4:AO
structure IS where
 fst:Nat
 snd:Bool
def LS.row(f:Mfn)(a:LS):AO:= .row 7 [aM f (.sl 1 1 0 f.ins.length) (if a.first then .nils else .sl 3 1 0 f.ins.length) (if a.first then .nils else .sl 4 1 0 f.ins.length) a.sz]
def LS.inv(f:Mfn)(a:LS):Prop:=a.L.length=f.ins.length/\okO 0 a.o3/\okO 0 a.o4/\
 (if a.again then vX f.ins a.L=bE f.ins else a.first=false/\a.L=bE f.ins/\a.sz=plc f.ins a.L f.ins.length/\a.o3=ay (szl f.ins a.L f.ins.length)/\a.o4=ay (dj f.ins a.L f.ins.length))
theorem kT{e:Nat}{f:Mfn}(h:bn (aZ e f)=true):0<f.ins.length:=by
 simp only[bn,Bool.and_eq_true] at h
 have:=kN h.2 (i:=e) (f:=f) (by simp[aZ])
 simp only[gQ,Bool.and_eq_true] at this
 have h1:=this.1.2
 rcases Nat.eq_zero_or_pos f.ins.length with h0|h0
 ·rw[List.length_eq_zero_iff] at h0
  rw[h0] at h1;simp[iN] at h1
 ·exact h0
variable (hG:G bW=some pvForms)
include hG
theorem sD(f:Mfn)(hn:f.ins.length<=1000000)(hlo:∀x∈f.ins,x.op=14-> -9223372036854775808<=x.n):AC Tryz.prog G cz [.agg (f.cs.map .p)] [] λr h=>
 if aC f then r= .ret (.ptr 2 7 0 0)/\h=[.row 3 [f.cs.map .p],aG (bE f.ins),.row 7 [aM f (.sl 1 1 0 f.ins.length) (.sl 3 1 0 f.ins.length) (.sl 4 1 0 f.ins.length) (plc f.ins (bE f.ins) f.ins.length)],ay (szl f.ins (bE f.ins) f.ins.length),ay (dj f.ins (bE f.ins) f.ins.length)]
 else r= .ret .nilp:=by
 refine AC.go tJ ?_
 simp-implicitDefEqProofs[lC]
 simp-implicitDefEqProofs[Mfn.cs]
 refine aw (λi:Nat=>aB 92 [(1,.ptr 0 3 0 0),(3,.p (.int .i64 (pe f.ins i))),(12,.p (bp f.ins)),(13,.p (.int .i64 f.ins.length)),(14,.p (.int .i64 i))]) (λ_=>[.row 3 [f.cs.map .p]])
  (λi=>i<=f.ins.length) (λi=>f.ins.length-i) 0 (by simp) ?_ ?_
 ·refine bh (by simp) (by simp[okO,Mfn.cs]) ?_
  simp[below,pe,bp,Mfn.cs]
 ·intro i hi
  have hin:bp f.ins= .lst 5 (f.ins.map Mins.cs):=rfl
  have hle:=Jb f.ins i
  simp-implicitDefEqProofs[hin]
  refine aR (λh1=>?_) (λh1=>?_)
  ·simp at h1
   have hg1:=List.getElem?_eq_getElem h1
   simp-implicitDefEqProofs[hg1]
   by_cases h14:f.ins[i].op=14
   ·have hw:IntKind.i64.wrap ((if 4<f.ins[i].n then 4 else f.ins[i].n)+1)=(if 4<f.ins[i].n then 4 else f.ins[i].n)+1:=by
     have:=hlo _ (List.getElem_mem h1) h14
     split<;>exact aa (by omega) (by omega)
    have he:(if(pe f.ins i:Int)<(if 4<f.ins[i].n then 4 else f.ins[i].n)+1 then(if 4<f.ins[i].n then 4 else f.ins[i].n)+1 else(pe f.ins i:Int))=((pe f.ins (i+1):Nat):Int):=by
     rw[yT h1,cR,if_pos h14]
     by_cases h4:4<f.ins[i].n
     ·simp only[if_pos h4];omega
     ·simp only[if_neg h4];omega
    simp-implicitDefEqProofs[hg1,Mins.cs,h14,hw,he]
    refine⟨i+1,h1,by omega,al [0] rfl (by decide) (af rfl (by simp[ab,Mfn.cs]) aj) ?_⟩
    simp[below,ren,w1 (i:=i) (by omega)]
   ·have hw:pe f.ins (i+1)=pe f.ins i:=by rw[yT h1,cR,if_neg h14]
    simp-implicitDefEqProofs[hg1,Mins.cs,h14]
    refine⟨i+1,h1,by omega,al [0] rfl (by decide) (af rfl (by simp[ab,Mfn.cs]) aj) ?_⟩
    simp[below,ren,w1 (i:=i) (by omega),hw]
  ·simp at h1
   have:i=f.ins.length:=by omega
   subst this
   simp-implicitDefEqProofs[]
   have hbc:backF.cs=[.int .i64 0,.int .i64 0,.lst 5 [[.int .i64 22,.int .i64 0,.int .i64 0,.int .i64 0,.int .i64 0]]]:=rfl
   generalize hee:pe f.ins f.ins.length=e at*
   refine(Ga G (.row 3 [f.cs.map .p]) (by simp[okO,Mfn.cs]) e hle).mono ?_
   rintro r h ⟨rfl,rfl⟩
   simp-implicitDefEqProofs[lK,ag]
   refine⟨⟨by omega,by omega⟩,?_⟩
   have hv:View [AO.row 3 [List.map AV.p f.cs],AO.dead,AO.row 3 (List.replicate e (List.map AV.p backF.cs)++[[AV.p (PV.int IntKind.i64 f.params),AV.p (PV.int IntKind.i64 f.slots),AV.p (PV.lst 5 (List.map Mins.cs f.ins))]]),AO.row 1 [[AV.sl 2 3 0 (e+1)]]] (.sl 2 3 0 (e+1)) (bc (aZ e f)):=
    eP (ls:=(aZ e f).map Mfn.cs) (by simp[aZ,Mfn.cs]) (by simp[aZ]) (λl hl=>by obtain⟨x,_,rfl⟩:=List.mem_map.1 hl;rfl)
   refine(VF.lend (sT G hG (aZ e f) (by rw[zg];omega)) (.agg (.one hv .nil) .nil) rfl).mono ?_
   rintro r h ⟨rfl,rfl⟩
   have hae:bn (aZ e f)=bn (aZ (cB f.ins) f):=by rw[←hee];exact FY f
   simp-implicitDefEqProofs[hae]
   refine aR (λh2=>?_) (λh2=>?_)
   ·simp at h2
    have hc:aC f=false:=by simp[aC,h2]
    simp-implicitDefEqProofs[hc]
   ·simp at h2
    have hf:=bP h2
    have hmn:f.ins.length<=2000:=hf.1
    simp-implicitDefEqProofs[Mfn.cs,bp]
    refine⟨by omega,?_⟩
    have hpos:=kT h2
    refine aw (λa:LS=>aB 92 [(1,.ptr 0 3 0 0),(7,.ptr 2 7 0 0),(8,.p (.bool a.again))]) (λa=>[.row 3 [f.cs.map .p],aG a.L,a.row f,a.o3,a.o4])
     (λa=>a.inv f) (λa=>2*ga a.L+(if a.again then 1 else 0)) ⟨true,true,List.replicate f.ins.length false,0,.dead,.dead⟩ (by simp[LS.inv,bE,okO]) ?_ ?_
    ·refine al [0,4,5,1,3] rfl (by decide) (af rfl (by simp[ab,Mfn.cs]) (an (by simp[aG]) (by simp[-Bool.exists_bool,-Bool.forall_bool,okO,aG]) (aE (by simp[aM,below]) (by simp[aM,ren,aF];exact hin.symm) (cm (by simp) (cm (by simp) aj))))) ?_
     simp[below,ren]
    ·rintro⟨again,first,L,sz,o3,o4⟩ ⟨hL,ho3,ho4,hfix⟩
     simp only at hL ho3 ho4 hfix
     simp-implicitDefEqProofs[]
     refine aR (λh3=>?_) (λh3=>?_)
     ·subst h3
      simp only[if_true] at hfix
      simp-implicitDefEqProofs[]
      refine AC.mono (He G f L hL hf hpos _ _ sz o3 o4 ho3 ho4) ?_
      rintro r h ⟨rfl,rfl⟩
      have hbo:∀l,aG l= .row 1 (l.map λb=>[.p (.bool b)]):=λ_=>rfl
      simp-implicitDefEqProofs[ag]
      simp-implicitDefEqProofs[Mfn.cs,hin]
      have hrl:=dB f.ins L
      have hn0:L=bH f.ins L 0:=by simp[bH]
      refine aw (λa:IS=>aB 92 [(1,.ptr 0 3 0 0),(7,.ptr 2 7 0 0),(8,.p (.bool a.snd)),(52,.p (bp f.ins)),(53,.p (.int .i64 f.ins.length)),(54,.p (.int .i64 a.fst))])
       (λa=>[.row 3 [f.cs.map .p],aG (bH f.ins L a.fst),.row 7 [aM f (.sl 1 1 0 f.ins.length) (.sl 5 1 0 f.ins.length) (.sl 6 1 0 f.ins.length) (plc f.ins L f.ins.length)],o3,o4,ay (szl f.ins L f.ins.length),ay (dj f.ins L f.ins.length)])
       (λa=>a.fst<=f.ins.length/\(a.snd=false->(bG f.ins L).take a.fst=L.take a.fst)/\(a.snd=true->bG f.ins L≠L)) (λa=>f.ins.length-a.fst) ⟨0,false⟩ (by simp) ?_ ?_
      ·rw[←hn0]
       refine al [0,1,2,3,4,5,6] rfl (by decide) (af rfl (by simp[ab,Mfn.cs]) (an rfl (by simp[-Bool.exists_bool,-Bool.forall_bool,okO,aG]) (aE (by simp[aM,below]) (by simp[aM,ren,aF]) (an rfl ho3 (an rfl ho4 (an rfl (by simp[okO,ay]) (an rfl (by simp[okO,ay]) aj))))))) ?_
       simp[below,ren,hin]
      ·rintro⟨i,c⟩ ⟨hi,hc0,hc1⟩
       simp only at hi hc0 hc1
       simp-implicitDefEqProofs[hin]
       refine aR (λh3=>?_) (λh3=>?_)
       ·simp at h3
        have h4:i<L.length:=by omega
        obtain⟨q1,q2,q3,q4⟩:=hf.2 _ (List.getElem_mem h3)
        have hg1:=List.getElem?_eq_getElem h3
        have hg2:=List.getElem?_eq_getElem h4
        have hng:=oT (ins:=f.ins) h4
        have hrg:=oZ (ins:=f.ins) h4
        have hnl:=oS (ins:=f.ins) (L:=L) (i:=i) (by omega)
        have hstay:(L[i]||jb f.ins L i)=L[i]->((⟨i+1,c⟩:IS).fst<=f.ins.length/\((⟨i+1,c⟩:IS).snd=false->(bG f.ins L).take (⟨i+1,c⟩:IS).fst=L.take (⟨i+1,c⟩:IS).fst)/\((⟨i+1,c⟩:IS).snd=true->bG f.ins L≠L)):=λhs=>by
         refine⟨h3,λhc=>?_,hc1⟩
         show(bG f.ins L).take (i+1)=L.take (i+1)
         rw[aq (by rw[hrl];exact h4),aq h4,hc0 hc,hrg,hs]
        simp-implicitDefEqProofs[hg1]
        simp-implicitDefEqProofs[Mins.cs]
        refine(bf G _).use ?_
        by_cases hj:jmp f.ins[i]=true
        ·have hjo:(f.ins[i].op==20||f.ins[i].op==21)=true:=by simpa[jmp] using hj
         simp-implicitDefEqProofs[hjo,aM,hbo,h3,hng]
         cases hLi:L[i] with
         |true=>
          have hs:(L[i]||jb f.ins L i)=L[i]:=by simp[hLi]
          simp-implicitDefEqProofs[hLi]
          refine⟨⟨i+1,c⟩,hstay hs,(by show f.ins.length-(i+1)<f.ins.length-i;omega),?_⟩
          rw[fD h4 hs]
          refine al [0,1,2,3,4,5,6] rfl (by decide) (af rfl (by simp[ab,Mfn.cs]) (an rfl (by simp[-Bool.exists_bool,-Bool.forall_bool,okO,aG]) (aE (by simp[aM,below]) (by simp[aM,ren,aF]) (an rfl ho3 (an rfl ho4 (an rfl (by simp[okO,ay]) (an rfl (by simp[okO,ay]) aj))))))) ?_
          simp[below,ren,w1 (i:=i) (by omega)]
         |false=>
          simp-implicitDefEqProofs[hLi]
          refine AC.mono (BN G (L:=L) hL hf h3 hj rfl rfl rfl) ?_
          rintro r h ⟨rfl,rfl⟩
          simp-implicitDefEqProofs[ag,hLi]
          refine(dI G _ _ _).use ?_
          simp-implicitDefEqProofs[]
          have hneed:jb f.ins L i= !inR ((plc f.ins L f.ins[i].n.toNat:Int)-(plc f.ins L i:Int)-(aL f.ins[i] false:Int)) (-128) 127:=by simp[jb,hg1,hj]
          refine aR (λh5=>?_) (λh5=>?_)
          ·simp at h5
           have hnt:jb f.ins L i=true:=by rw[hneed,h5];rfl
           have hset:=oJ (ins:=f.ins) h4
           rw[hLi,hnt] at hset
           simp only[Bool.false_or] at hset
           have hset2:((bH f.ins L i).map λb=>[AV.p (.bool b)]).set i [AV.p (.bool true)]=(bH f.ins L (i+1)).map λb=>[AV.p (.bool b)]:=by rw[←hset,List.map_set]
           simp-implicitDefEqProofs[h3,hng,hset2]
           refine⟨⟨i+1,true⟩,⟨h3,by simp,λ_ he=>?_⟩,(by show f.ins.length-(i+1)<f.ins.length-i;omega),?_⟩
           ·have h6:(bG f.ins L)[i]?=some true:=by rw[List.getElem?_eq_getElem (by rw[hrl];exact h4),hrg,hnt];simp
            rw[he,hg2,hLi] at h6;cases h6
           ·refine al [0,1,2,3,4,5,6] rfl (by decide) (af rfl (by simp[ab,Mfn.cs]) (an rfl (by simp[-Bool.exists_bool,-Bool.forall_bool,okO,aG]) (aE (by simp[aM,below]) (by simp[aM,ren,aF]) (an rfl ho3 (an rfl ho4 (an rfl (by simp[okO,ay]) (an rfl (by simp[okO,ay]) aj))))))) ?_
            simp[below,ren,w1 (i:=i) (by omega)]
          ·simp at h5
           have hnt:jb f.ins L i=false:=by rw[hneed,h5];rfl
           have hs:(L[i]||jb f.ins L i)=L[i]:=by simp[hnt]
           simp-implicitDefEqProofs[]
           refine⟨⟨i+1,c⟩,hstay hs,(by show f.ins.length-(i+1)<f.ins.length-i;omega),?_⟩
           rw[fD h4 hs]
           refine al [0,1,2,3,4,5,6] rfl (by decide) (af rfl (by simp[ab,Mfn.cs]) (an rfl (by simp[-Bool.exists_bool,-Bool.forall_bool,okO,aG]) (aE (by simp[aM,below]) (by simp[aM,ren,aF]) (an rfl ho3 (an rfl ho4 (an rfl (by simp[okO,ay]) (an rfl (by simp[okO,ay]) aj))))))) ?_
           simp[below,ren,w1 (i:=i) (by omega)]
        ·have hjo:(f.ins[i].op==20||f.ins[i].op==21)=false:=by simpa[jmp] using hj
         simp-implicitDefEqProofs[hjo]
         have hs:(L[i]||jb f.ins L i)=L[i]:=by simp[jb,hg1,hj]
         refine⟨⟨i+1,c⟩,hstay hs,(by show f.ins.length-(i+1)<f.ins.length-i;omega),?_⟩
         rw[fD h4 hs]
         refine al [0,1,2,3,4,5,6] rfl (by decide) (af rfl (by simp[ab,Mfn.cs]) (an rfl (by simp[-Bool.exists_bool,-Bool.forall_bool,okO,aG]) (aE (by simp[aM,below]) (by simp[aM,ren,aF]) (an rfl ho3 (an rfl ho4 (an rfl (by simp[okO,ay]) (an rfl (by simp[okO,ay]) aj))))))) ?_
         simp[below,ren,w1 (i:=i) (by omega)]
       ·simp at h3
        have hie:i=f.ins.length:=by omega
        subst hie
        have hnx:bH f.ins L f.ins.length=bG f.ins L:=by rw[bH,List.take_of_length_le (by rw[hrl];omega),List.drop_of_length_le (by omega),List.append_nil]
        rw[List.take_of_length_le (by rw[hrl];omega),List.take_of_length_le (by omega)] at hc0
        rw[hnx]
        simp-implicitDefEqProofs[]
        refine⟨⟨c,false,bG f.ins L,plc f.ins L f.ins.length,ay (szl f.ins L f.ins.length),ay (dj f.ins L f.ins.length)⟩,⟨by rw[hrl];exact hL,by simp[okO,ay],by simp[okO,ay],?_⟩,?_,al [0,1,2,5,6] rfl (by simp) (af rfl (by simp[ab]) (an rfl (by simp[-Bool.exists_bool,-Bool.forall_bool,okO,aG]) (aE (by simp[aM,below]) (by simp[aM,ren,aF]) (an rfl (by simp[okO,ay]) (an rfl (by simp[okO,ay]) aj))))) ?_⟩
        ·cases c with
         |false=>
          have hh:=hc0 rfl
          simp only[Bool.false_eq_true,if_false]
          refine⟨trivial,?_,?_,?_,?_⟩
          ·rw[←hfix,zp hh,hh]
          ·rw[hh]
          ·rw[hh]
          ·rw[hh]
         |true=>simp only[if_true];rw[←hfix,zh (hc1 rfl)]
        ·cases c with
         |false=>have:=hc0 rfl;rw[this];simp
         |true=>have:=iv _ _ (hc1 rfl);simp;omega
        ·simp[below,ren]
     ·subst h3
      simp at hfix
      obtain⟨hf1,hf2,hf3,hf4,hf5⟩:=hfix
      subst hf1 hf2 hf3 hf4 hf5
      simp-implicitDefEqProofs[LS.row,aM]
      refine aR (λh4=>?_) (λh4=>?_)
      ·simp at h4
       have hc:aC f=false:=by simp[aC];intro _;omega
       simp-implicitDefEqProofs[hc]
      ·simp at h4
       have hc:aC f=true:=by simp[aC,h2];omega
       simp-implicitDefEqProofs[hc,Mfn.cs,hin]
end
section
def cU(code:List Int)(a:Nat):Option (List Nat):=
 if a<code.length then(if bl code a then(cU code (a+aI code a)).map (a:: ·) else none) else some []
termination_by code.length-a
decreasing_by have:=(nz code a).1;omega
theorem sY{code:List Int}{a:Nat}(h:code.length<=a):cU code a=some []:=by rw[cU,if_neg (by omega)]
theorem tc{code:List Int}{a:Nat}(h:a<code.length)(hg:¬bl code a=true):cU code a=none:=by rw[cU,if_pos h,if_neg hg]
theorem rq{code:List Int}{a:Nat}(h:a<code.length)(hg:bl code a=true):cU code a=(cU code (a+aI code a)).map (a:: ·):=by
 conv=>lhs;rw[cU,if_pos h,if_pos hg]
theorem vo{code:List Int}{a:Nat}(hg:bl code a=true):a+aI code a<=code.length:=by
 simp only[bl,Bool.and_eq_true,decide_eq_true_eq] at hg;exact hg.2
def tx(ps:List Nat)(n:Int):Int:=match ps.findIdx? (λ(p:Nat)=>(p:Int)==n) with|some i=>i|none=> -1
def pD(ps:List Nat)(x:Mins):Mins:=if jmp x then{x with n:=tx ps x.n} else x
def gL(code:List Int)(ps:List Nat):List Mins:=ps.map (bS code)
def dA(code:List Int)(ps:List Nat):List Mins:=(gL code ps).map (pD ps)
def bm(code:List Int)(ps:List Nat)(i:Nat):List Mins:=(dA code ps).take i++(gL code ps).drop i
def de(p s:Int)(code:List Int)(ps:List Nat):Mfn:=⟨p,s,dA code ps⟩
def fx(code:List Int)(f:Mfn):Bool:=aC f&&decide (gJ f=code)
def dG(p s:Int)(code:List Int):Option Mfn:=(cU code 0).bind λps=>if fx code (de p s code ps) then some (de p s code ps) else none
theorem le(code:List Int)(ps:List Nat):(gL code ps).length=ps.length:=by simp[gL]
theorem ec(code:List Int)(ps:List Nat):(dA code ps).length=ps.length:=by simp[dA,gL]
theorem ja{code:List Int}{ps:List Nat}{i:Nat}(h:i<=ps.length):(bm code ps i).length=ps.length:=by simp[bm,ec,le];omega
theorem sQ(code:List Int)(ps:List Nat):bm code ps 0=gL code ps:=by simp[bm]
theorem vD(code:List Int)(ps:List Nat):bm code ps ps.length=dA code ps:=by
 rw[bm,List.take_of_length_le (by rw[ec];omega),List.drop_of_length_le (by rw[le];omega),List.append_nil]
theorem pq{code:List Int}{ps:List Nat}{i:Nat}(h:i<ps.length):(bm code ps i)[i]?=some (bS code ps[i]):=by
 rw[bm,List.getElem?_append_right (by simp[ec];omega)]
 simp[ec,Nat.min_eq_left (Nat.le_of_lt h),gL,h]
theorem oF{code:List Int}{ps:List Nat}{i:Nat}(h:i<ps.length):(bm code ps i).set i (pD ps (bS code ps[i]))=bm code ps (i+1):=by
 have hl:((dA code ps).take i).length=i:=by simp[ec];omega
 rw[bm,List.set_append_right _ _ (by omega),hl,Nat.sub_self,List.drop_eq_getElem_cons (by rw[le];exact h),List.set_cons_zero,bm,aq (by rw[ec];exact h)]
 simp[dA,gL]
theorem td{code:List Int}{ps:List Nat}{i:Nat}(h:i<ps.length)(hj:jmp (bS code ps[i])=false):bm code ps i=bm code ps (i+1):=by
 rw[←oF h,pD,hj]
 refine List.ext_getElem? λj=>?_
 rw[List.getElem?_set]
 split
 ·rename_i e;subst e
  rw[pq h];simp[ja (Nat.le_of_lt h),h]
 ·rfl
def Bm(l:List Int):List UInt8:=l.map λn=>UInt8.ofNat n.toNat
theorem pj:∀l:List Int,pg (l.map λn=>[AV.p (.int .u8 n)])=some (Bm l)
 |[]=>rfl
 |n::r=>by simp[pg,pj r,Bm]
theorem uT:∀{a b:List Int},bJ a->bJ b->(Bm a=Bm b↔a=b)
 |[],[],_,_=>by simp[Bm]
 |[],_::_,_,_=>by simp[Bm]
 |_::_,[],_,_=>by simp[Bm]
 |x::a,y::b,ha,hb=>by
  have ih:=uT (a:=a) (b:=b) (λn hn=>ha n (by simp[hn])) (λn hn=>hb n (by simp[hn]))
  have h1:=ha x (by simp)
  have h2:=hb y (by simp)
  have hxy:UInt8.ofNat x.toNat=UInt8.ofNat y.toNat↔x=y:=by
   constructor
   ·intro e
    have:=congrArg UInt8.toNat e
    simp at this
    omega
   ·rintro rfl;rfl
  simp only[Bm,List.map_cons,List.cons.injEq] at ih⊢
  rw[hxy,ih]
theorem Bb(n:Int):0<=u8 n/\u8 n<=255:=by rw[rM];omega
theorem FD(x:Mins):bJ (aO x):=by
 unfold aO
 intro n hn
 repeat' split at hn
 all_goals
  simp only[List.mem_cons,List.not_mem_nil,or_false] at hn
  rcases hn with rfl|rfl|rfl<;>exact Bb _
theorem IA(ins:List Mins)(L:List Bool)(i:Nat):bJ (je ins L i):=by
 unfold je
 intro n hn
 split at hn
 ·split at hn
  ·exact FD _ n hn
  ·simp only[List.mem_append,List.mem_singleton] at hn
   rcases hn with(rfl|hn)|hn
   ·exact Bb _
   ·split at hn<;>simp at hn
    subst hn;exact Bb _
   ·split at hn<;>simp at hn
    ·rcases hn with rfl|rfl<;>exact Bb _
    ·subst hn;exact Bb _
 ·simp at hn
theorem DY(f:Mfn):bJ (gJ f):=by
 intro n hn
 simp only[gJ,lX,List.mem_flatten,List.mem_map] at hn
 obtain⟨l,⟨i,_,rfl⟩,h⟩:=hn
 exact IA _ _ _ n h
theorem EW{ins:List Mins}{L:List Bool}{i:Nat}(h1:i<ins.length)(h2:i<L.length):(je ins L i).length=aL ins[i] L[i]:=by
 simp only[je,List.getElem?_eq_getElem h1,List.getElem?_eq_getElem h2,aL]
 cases jmp ins[i]<;>cases L[i]<;>by_cases e:ins[i].op=21<;>simp[e]
theorem rQ{ins:List Mins}{L:List Bool}(hl:L.length=ins.length):∀i,i<=ins.length->(lX ins L i).length=plc ins L i
 |0,_=>by simp[lX,plc]
 |i+1,h=>by rw[iz,List.length_append,rQ hl i (by omega),EW (by omega) (by omega),pW (by omega) (by omega)]
theorem FA{f:Mfn}(h:aC f=true):(gJ f).length<=8000:=by
 simp only[aC,Bool.and_eq_true,decide_eq_true_eq] at h
 rw[gJ,rQ (fy _) _ (Nat.le_refl _)];exact h.2
theorem ji{f:Mfn}(h:aC f=true):0<f.ins.length:=by
 simp only[aC,Bool.and_eq_true] at h
 exact kT h.1
theorem HD{p s:Int}{code:List Int}(h:¬code.length<=8000):dG p s code=none:=by
 unfold dG
 cases cU code 0 with
 |none=>rfl
 |some ps=>
  simp only[Option.bind_some]
  split
  ·rename_i hk
   simp only[fx,Bool.and_eq_true,decide_eq_true_eq] at hk
   have:=FA hk.1
   rw[hk.2] at this
   omega
  ·rfl
variable (G:az)
theorem Hy{ps:List Nat}{n:Int}{i:Nat}(h:i<ps.length)(hn:∀p∈ps.take i,(p:Int)≠n)(he:(ps[i]:Int)=n):tx ps n=i:=by
 have:ps.findIdx? (λ(p:Nat)=>(p:Int)==n)=some i:=by
  rw[List.findIdx?_eq_some_iff_getElem]
  refine⟨h,by simpa using he,λj hj=>?_⟩
  have:=hn ps[j] (List.mem_take_iff_getElem.2 ⟨j,by omega,rfl⟩)
  simpa using this
 rw[tx,this]
theorem EJ{ps:List Nat}{n:Int}(hn:∀p∈ps,(p:Int)≠n):tx ps n= -1:=by
 have:ps.findIdx? (λ(p:Nat)=>(p:Int)==n)=none:=by
  rw[List.findIdx?_eq_none_iff]
  intro p hp;simpa using hn p hp
 rw[tx,this]
theorem IP(ps:List Nat)(n:Int)(hb:ps.length<=1048576):VF Tryz.prog G dv [.p (iT ps),.p (.int .i64 n)] (.p (.int .i64 (tx ps n))):=by
 refine AC.go pF ?_
 have hil:iT ps= .lst 1 (ps.map λ(n:Nat)=>[.int .i64 (n:Int)]):=rfl
 simp-implicitDefEqProofs[kZ,hil]
 refine aw (λi:Nat=>aB 19 [(0,.p (iT ps)),(1,.p (.int .i64 n)),(5,.p (.int .i64 i))]) (λ_=>[]) (λi=>i<=ps.length/\∀p∈ps.take i,(p:Int)≠n) (λi=>ps.length-i) 0 (by simp) ?_ ?_
 ·exact aD rfl (by simp[below,iT])
 ·intro i ⟨hi,hn⟩
  simp-implicitDefEqProofs[hil]
  refine aR (λh1=>?_) (λh1=>?_)
  ·simp at h1
   have hg:=List.getElem?_eq_getElem h1
   by_cases he:(ps[i]:Int)=n
   ·simp-implicitDefEqProofs[hg,he,Hy h1 hn he]
   ·simp-implicitDefEqProofs[hg,he]
    refine⟨i+1,⟨h1,λp hp=>?_⟩,by omega,aD rfl ?_⟩
    ·rw[aq h1] at hp
     rcases List.mem_append.1 hp with hp|hp
     ·exact hn p hp
     ·rw[List.mem_singleton.1 hp];exact he
    ·simp[below,w1 (i:=i) (by omega)]
  ·simp at h1
   rw[List.take_of_length_le h1] at hn
   simp-implicitDefEqProofs[EJ hn]
theorem LB{h:List AO}{id:Nat}{ins:List Mins}(e:h[id]?=some (lu 5 (ins.map Mins.av))):View h (slE id 5 (ins.map Mins.av)) (bp ins):=by
 have hm:ins.map Mins.av=(ins.map Mins.cs).map (·.map .p):=by simp[Mins.av]
 rw[hm] at e⊢
 exact Du e (by intro l hl;obtain⟨m,_,rfl⟩:=List.mem_map.1 hl;rfl)
end
section
def dm(c:UInt8):Bool:=decide (97<=c.toNat)&&decide (c.toNat<=122)
def keyW:List (List UInt8):=[[102,110],[108,101,116],[115,97,121],[112,117,116],[105,102],[101,108,115,101],[108,111,111,112],[98,97,99,107],[100,111]]
def aS(s:List UInt8):Bool:=s.all dm&&decide (0<s.length)&&decide (s.length<=4)&& !keyW.contains s
def vP:List UInt8:=[40,41,123,125,59,44,43,45,42,47,37,60,61,38,33,64]
def pB(s:List UInt8)(c:Int):Int:=match s.findIdx? (λx=>(x.toNat:Int)==c) with|some i=>i|none=> -1
def BJ(c:Int):Int:=if 97<=c/\c<=122 then 1 else if 48<=c/\c<=57 then 2 else if 0<=pB vP c then 3 else if c=32\/c=10 then 4 else 0
theorem JC(x:UInt8):(BJ (x.toNat:Int)=1)↔dm x=true:=by
 have h:(97<=(x.toNat:Int)/\(x.toNat:Int)<=122)↔dm x=true:=by simp[dm];omega
 unfold BJ
 constructor
 ·intro e
  split at e
  ·rename_i h1;exact h.1 h1
  ·repeat' split at e
   all_goals omega
 ·intro e;rw[if_pos (h.2 e)]
def aQ(l:List (List UInt8)):PV:= .lst 1 (l.map λw=>[.str w])
def Am(s:List UInt8):Int:=match s.findIdx? (λx=> !dm x) with|some i=>i|none=> -1
theorem GL(s:List UInt8):decide (Am s<0)=s.all dm:=by
 unfold Am
 cases h:s.findIdx? (λx=> !dm x) with
 |none=>
  rw[List.findIdx?_eq_none_iff] at h
  have:s.all dm=true:=List.all_eq_true.2 λx hx=>by have:=h x hx;simpa using this
  simp[this]
 |some i=>
  rw[List.findIdx?_eq_some_iff_getElem] at h
  obtain⟨h1,h2,_⟩:=h
  have:s.all dm=false:=List.all_eq_false.2 ⟨_,List.getElem_mem h1,by simpa using h2⟩
  rw[this];simp
def idxS(l:List (List UInt8))(s:List UInt8):Int:=match l.findIdx? (λw=>w==s) with|some i=>i|none=> -1
theorem GB(l:List (List UInt8))(s:List UInt8):decide (0<=idxS l s)=l.contains s:=by
 unfold idxS
 cases h:l.findIdx? (λw=>w==s) with
 |none=>
  rw[List.findIdx?_eq_none_iff] at h
  have:l.contains s=false:=by
   cases hc:l.contains s with
   |false=>rfl
   |true=>
    have hm:s∈l:=by simpa using hc
    have:=h s hm
    simp at this
  rw[this];simp
 |some i=>
  rw[List.findIdx?_eq_some_iff_getElem] at h
  obtain⟨h1,h2,_⟩:=h
  have:l.contains s=true:=by
   simp only[beq_iff_eq] at h2
   rw[List.contains_iff_mem,←h2];exact List.getElem_mem h1
  rw[this];simp
variable (G:az)
theorem rP(s:List UInt8)(c:Int)(hb:s.length<=1048576):VF Tryz.prog G iS [.p (.str s),.p (.int .u8 c)] (.p (.int .i64 (pB s c))):=by
 refine AC.go uB ?_
 simp-implicitDefEqProofs[mv]
 refine aw (λi:Nat=>aB 18 [(0,.p (.str s)),(1,.p (.int .u8 c)),(5,.p (.int .i64 i))]) (λ_=>[]) (λi=>i<=s.length/\∀x∈s.take i,(x.toNat:Int)≠c) (λi=>s.length-i) 0 (by simp) ?_ ?_
 ·exact aD rfl (by simp[below])
 ·intro i ⟨hi,hn⟩
  simp-implicitDefEqProofs[]
  refine aR (λh1=>?_) (λh1=>?_)
  ·simp at h1
   have hg:=List.getElem?_eq_getElem h1
   by_cases he:(s[i].toNat:Int)=c
   ·have hf:pB s c=i:=by
     have:s.findIdx? (λx=>(x.toNat:Int)==c)=some i:=by
      rw[List.findIdx?_eq_some_iff_getElem]
      exact⟨h1,by simpa using he,λj hj=>by have:=hn s[j] (List.mem_take_iff_getElem.2 ⟨j,by omega,rfl⟩);simpa using this⟩
     rw[pB,this]
    simp-implicitDefEqProofs[hg,he,hf]
   ·simp-implicitDefEqProofs[hg,he]
    refine⟨i+1,⟨h1,λp hp=>?_⟩,by omega,aD rfl ?_⟩
    ·rw[aq h1] at hp
     rcases List.mem_append.1 hp with hp|hp
     ·exact hn p hp
     ·rw[List.mem_singleton.1 hp];exact he
    ·simp[below,w1 (i:=i) (by omega)]
  ·simp at h1
   rw[List.take_of_length_le h1] at hn
   have hf:pB s c= -1:=by
    have:s.findIdx? (λx=>(x.toNat:Int)==c)=none:=by
     rw[List.findIdx?_eq_none_iff];intro x hx;simpa using hn x hx
    rw[pB,this]
   simp-implicitDefEqProofs[hf]
theorem EO(c:Int):VF Tryz.prog G iQ [.p (.int .u8 c)] (.p (.int .i64 (BJ c))):=by
 refine AC.go vC ?_
 simp-implicitDefEqProofs[mr]
 unfold BJ
 by_cases h1:97<=c
 ·by_cases h2:c<=122
  ·simp-implicitDefEqProofs[h1,h2]
  ·have h3:¬c<=57:=by omega
   have h4:¬c=32:=by omega
   have h5:¬c=10:=by omega
   have h6:48<=c:=by omega
   simp-implicitDefEqProofs[h1,h2,h3,h6]
   refine(rP G vP c (by decide)).use ?_
   generalize pB vP c=w
   by_cases hf:0<=w
   ·simp-implicitDefEqProofs[hf]
   ·simp-implicitDefEqProofs[hf,h4,h5]
 ·simp-implicitDefEqProofs[h1]
  by_cases h2:48<=c
  ·by_cases h3:c<=57
   ·simp-implicitDefEqProofs[h2,h3]
   ·have h4:¬c=32:=by omega
    have h5:¬c=10:=by omega
    simp-implicitDefEqProofs[h2,h3]
    refine(rP G vP c (by decide)).use ?_
    generalize pB vP c=w
    by_cases hf:0<=w
    ·simp-implicitDefEqProofs[hf]
    ·simp-implicitDefEqProofs[hf,h4,h5]
  ·simp-implicitDefEqProofs[h2]
   refine(rP G vP c (by decide)).use ?_
   generalize pB vP c=w
   by_cases hf:0<=w
   ·simp-implicitDefEqProofs[hf]
   ·by_cases h4:c=32
    ·simp-implicitDefEqProofs[hf,h4]
    ·by_cases h5:c=10
     ·simp-implicitDefEqProofs[hf,h4,h5]
     ·simp-implicitDefEqProofs[hf,h4,h5]
theorem JF(s:List UInt8)(hb:s.length<=140737488355328):VF Tryz.prog G lw [.p (.str s),.p (.int .i64 1)] (.p (.bool (s.all dm&&decide (0<s.length)))):=by
 refine AC.go Ad ?_
 simp-implicitDefEqProofs[pY]
 refine aw (λi:Nat=>aB 21 [(0,.p (.str s)),(1,.p (.int .i64 1)),(5,.p (.int .i64 i))]) (λ_=>[]) (λi=>i<=s.length/\∀x∈s.take i,dm x=true) (λi=>s.length-i) 0 (by simp) ?_ ?_
 ·exact aD rfl (by simp[below])
 ·intro i ⟨hi,hn⟩
  simp-implicitDefEqProofs[]
  refine aR (λh1=>?_) (λh1=>?_)
  ·simp at h1
   have hg:=List.getElem?_eq_getElem h1
   simp-implicitDefEqProofs[hg]
   refine(EO G _).use ?_
   have hcl:=JC s[i]
   by_cases he:dm s[i]=true
   ·have hc:=hcl.2 he
    simp-implicitDefEqProofs[hc]
    refine⟨i+1,⟨h1,λp hp=>?_⟩,by omega,aD rfl ?_⟩
    ·rw[aq h1] at hp
     rcases List.mem_append.1 hp with hp|hp
     ·exact hn p hp
     ·rw[List.mem_singleton.1 hp];exact he
    ·simp[below,w1 (i:=i) (by omega)]
   ·have hc:¬BJ (s[i].toNat:Int)=1:=λe=>he (hcl.1 e)
    have ha:s.all dm=false:=List.all_eq_false.2 ⟨_,List.getElem_mem h1,by simpa using he⟩
    simp-implicitDefEqProofs[hc,ha]
  ·simp at h1
   rw[List.take_of_length_le h1] at hn
   have ha:s.all dm=true:=List.all_eq_true.2 hn
   simp-implicitDefEqProofs[ha]
theorem Cn:VF Tryz.prog G eZ [] (.p (aQ keyW)):=by
 have key:AC Tryz.prog G eZ [] [] λx h=>x= .ret (.sl 0 1 0 9)/\h=[.row 1 (keyW.map λw=>[.p (.str w)])]:=by
  refine AC.go tz ?_
  simp-implicitDefEqProofs[lH,keyW]
 exact AC.freeze key (.one (eP (ls:=keyW.map λw=>[.str w]) (by simp) (by simp[keyW]) (by simp)) .nil)
theorem IC(s:List UInt8):VF Tryz.prog G kU [.p (.str s)] (.p (.bool (keyW.contains s))):=by
 refine AC.go Ah ?_
 have hsl:aQ keyW= .lst 1 (keyW.map λw=>[.str w]):=rfl
 have hkl:keyW.length=9:=rfl
 simp-implicitDefEqProofs[ra]
 refine(Cn G).use ?_
 simp-implicitDefEqProofs[]
 refine aw (λi:Nat=>aB 18 [(0,.p (.str s)),(3,.p (aQ keyW)),(4,.p (.int .i64 i))]) (λ_=>[]) (λi=>i<=keyW.length/\∀w∈keyW.take i,w≠s) (λi=>keyW.length-i) 0 (by simp) ?_ ?_
 ·exact aD rfl (by simp[below,aQ])
 ·intro i ⟨hi,hn⟩
  generalize keyW=L at*
  simp-implicitDefEqProofs[hsl]
  refine aR (λh1=>?_) (λh1=>?_)
  ·simp at h1
   have hg:=List.getElem?_eq_getElem h1
   by_cases he:L[i]=s
   ·have hm:s∈L:=by rw[←he];exact List.getElem_mem h1
    simp-implicitDefEqProofs[hg,he,hm]
   ·simp-implicitDefEqProofs[hg,he]
    refine⟨i+1,⟨h1,λp hp=>?_⟩,by omega,aD rfl ?_⟩
    ·rw[aq h1] at hp
     rcases List.mem_append.1 hp with hp|hp
     ·exact hn p hp
     ·rw[List.mem_singleton.1 hp];exact he
    ·simp[below,w1 (i:=i) (by omega)]
  ·simp at h1
   rw[List.take_of_length_le h1] at hn
   have hm:¬s∈L:=λhm=>hn s hm rfl
   simp-implicitDefEqProofs[hm]
theorem vK(s:List UInt8)(hb:s.length<=140737488355328):VF Tryz.prog G eL [.p (.str s)] (.p (.bool (aS s))):=by
 refine AC.go yk ?_
 simp-implicitDefEqProofs[nP]
 refine(JF G s hb).use ?_
 cases h1:(s.all dm&&decide (0<s.length)) with
 |false=>
  have hi:aS s=false:=by rw[aS,h1];rfl
  simp-implicitDefEqProofs[hi]
 |true=>
  by_cases h4:s.length<=4
  ·have h4i:(s.length:Int)<=4:=by omega
   have hi:aS s= !keyW.contains s:=by rw[aS,h1];simp[h4]
   simp-implicitDefEqProofs[h4i]
   refine(IC G s).use ?_
   rw[hi]
   simp-implicitDefEqProofs[]
  ·have h4i:¬(s.length:Int)<=4:=by omega
   have hi:aS s=false:=by rw[aS,h1];simp[h4]
   simp-implicitDefEqProofs[h4i,hi]
end
section
variable (G:az)
def bk(l:List Int):PV:= .lst 1 (l.map λn=>[.int .i64 n])
structure Obj where (name:List UInt8) (params slots:Int) (code calls:List Int) (names:List (List UInt8))
deriving DecidableEq
def Obj.cs(o:Obj):List PV:=[.str o.name,.int .i64 o.params,.int .i64 o.slots,aN o.code,bk o.calls,aQ o.names]
theorem iV{α:Type}{xs ys:List α}{i:Nat}(h:xs.length=ys.length)(h1:ys.length<=i)(he:xs.take i=ys.take i):xs=ys:=by
 rwa[List.take_of_length_le (by omega),List.take_of_length_le h1] at he
@[simp] theorem Obj.cs_len(o:Obj):o.cs.length=6:=rfl
@[simp] theorem Obj.cs_take(o:Obj):List.take 6 (o.cs.map AV.p)=o.cs.map AV.p:=rfl
theorem GH(xs ys:List Int)(hb:xs.length<=1048576):VF Tryz.prog G jN [.p (bk xs),.p (bk ys)] (.p (.bool (decide (xs=ys)))):=by
 refine AC.go yw ?_
 simp-implicitDefEqProofs[ox,bk]
 refine aR (λh=>?_) (λh=>?_)
 ·have h':xs≠ys:=by rintro rfl;simp at h
  simp-implicitDefEqProofs[h']
 have h:xs.length=ys.length:=by simp at h;omega
 simp-implicitDefEqProofs[]
 refine aw (λi:Nat=>aB 26 [(0,.p (bk xs)),(1,.p (bk ys)),(5,.p (.int .i64 i))]) (λ_=>[]) (λi=>i<=xs.length/\xs.take i=ys.take i) (λi=>xs.length-i) 0 (by simp) ?_ ?_
 ·exact aD rfl (by simp[below,bk,h])
 intro i ⟨hi,he⟩
 simp-implicitDefEqProofs[bk]
 refine aR (λh1=>?_) (λh1=>?_)
 ·simp at h1
  have h1:i<ys.length:=by omega
  have h1':i<xs.length:=by omega
  have hx:=List.getElem?_eq_getElem h1'
  have hy:=List.getElem?_eq_getElem h1
  by_cases h3:xs[i]=ys[i]
  ·simp-implicitDefEqProofs[hx,hy,h3]
   exact⟨i+1,⟨h1',cF h1' h1 h3 he⟩,by omega,aD rfl (by simp[below,bk,w1 (i:=i) (by omega)])⟩
  ·have h':xs≠ys:=by rintro rfl;exact h3 rfl
   simp-implicitDefEqProofs[hx,hy,h3,h']
 ·simp at h1
  have h1:ys.length<=i:=by omega
  have h':xs=ys:=iV h h1 he
  simp-implicitDefEqProofs[h']
theorem AL(xs ys:List (List UInt8))(hb:xs.length<=1048576):VF Tryz.prog G gd [.p (aQ xs),.p (aQ ys)] (.p (.bool (decide (xs=ys)))):=by
 refine AC.go su ?_
 simp-implicitDefEqProofs[kE,aQ]
 refine aR (λh=>?_) (λh=>?_)
 ·have h':xs≠ys:=by rintro rfl;simp at h
  simp-implicitDefEqProofs[h']
 have h:xs.length=ys.length:=by simp at h;omega
 simp-implicitDefEqProofs[]
 refine aw (λi:Nat=>aB 26 [(0,.p (aQ xs)),(1,.p (aQ ys)),(5,.p (.int .i64 i))]) (λ_=>[]) (λi=>i<=xs.length/\xs.take i=ys.take i) (λi=>xs.length-i) 0 (by simp) ?_ ?_
 ·exact aD rfl (by simp[below,aQ,h])
 intro i ⟨hi,he⟩
 simp-implicitDefEqProofs[aQ]
 refine aR (λh1=>?_) (λh1=>?_)
 ·simp at h1
  have h1:i<ys.length:=by omega
  have h1':i<xs.length:=by omega
  have hx:=List.getElem?_eq_getElem h1'
  have hy:=List.getElem?_eq_getElem h1
  by_cases h3:xs[i]=ys[i]
  ·simp-implicitDefEqProofs[hx,hy,h3]
   exact⟨i+1,⟨h1',cF h1' h1 h3 he⟩,by omega,aD rfl (by simp[below,aQ,w1 (i:=i) (by omega)])⟩
  ·have h':xs≠ys:=by rintro rfl;exact h3 rfl
   simp-implicitDefEqProofs[hx,hy,h3,h']
 ·simp at h1
  have h1:ys.length<=i:=by omega
  have h':xs=ys:=iV h h1 he
  simp-implicitDefEqProofs[h']
theorem Hk(xs ys:List Int)(hb:xs.length<=1048576):VF Tryz.prog G jX [.p (bk xs),.p (bk ys)] (.p (.bool (decide (xs=ys)))):=by
 refine AC.go yt ?_
 simp-implicitDefEqProofs[nR,bk]
 refine aR (λh=>?_) (λh=>?_)
 ·have h':xs≠ys:=by rintro rfl;simp at h
  simp-implicitDefEqProofs[h']
 have h:xs.length=ys.length:=by simp at h;omega
 simp-implicitDefEqProofs[]
 refine aw (λi:Nat=>aB 26 [(0,.p (bk xs)),(1,.p (bk ys)),(5,.p (.int .i64 i))]) (λ_=>[]) (λi=>i<=xs.length/\xs.take i=ys.take i) (λi=>xs.length-i) 0 (by simp) ?_ ?_
 ·exact aD rfl (by simp[below,bk,h])
 intro i ⟨hi,he⟩
 simp-implicitDefEqProofs[bk]
 refine aR (λh1=>?_) (λh1=>?_)
 ·simp at h1
  have h1:i<ys.length:=by omega
  have h1':i<xs.length:=by omega
  have hx:=List.getElem?_eq_getElem h1'
  have hy:=List.getElem?_eq_getElem h1
  by_cases h3:xs[i]=ys[i]
  ·simp-implicitDefEqProofs[hx,hy,h3]
   exact⟨i+1,⟨h1',cF h1' h1 h3 he⟩,by omega,aD rfl (by simp[below,bk,w1 (i:=i) (by omega)])⟩
  ·have h':xs≠ys:=by rintro rfl;exact h3 rfl
   simp-implicitDefEqProofs[hx,hy,h3,h']
 ·simp at h1
  have h1:ys.length<=i:=by omega
  have h':xs=ys:=iV h h1 he
  simp-implicitDefEqProofs[h']
theorem uj(xs ys:List Int)(hb:xs.length<=1048576):VF Tryz.prog G fv [.p (bk xs),.p (bk ys)] (.p (.bool (decide (xs=ys)))):=by
 refine AC.go oC ?_
 simp-implicitDefEqProofs[iK,bk]
 refine aR (λh=>?_) (λh=>?_)
 ·have h':xs≠ys:=by rintro rfl;simp at h
  simp-implicitDefEqProofs[h']
 have h:xs.length=ys.length:=by simp at h;omega
 simp-implicitDefEqProofs[]
 refine aw (λi:Nat=>aB 26 [(0,.p (bk xs)),(1,.p (bk ys)),(11,.p (bk xs)),(12,.p (.int .i64 xs.length)),(13,.p (.int .i64 i))]) (λ_=>[]) (λi=>i<=xs.length/\xs.take i=ys.take i) (λi=>xs.length-i) 0 (by simp) ?_ ?_
 ·exact aD rfl (by simp[below,bk,h])
 intro i ⟨hi,he⟩
 simp-implicitDefEqProofs[bk]
 refine aR (λh1=>?_) (λh1=>?_)
 ·simp at h1
  have h1:i<ys.length:=by omega
  have h1':i<xs.length:=by omega
  have hx:=List.getElem?_eq_getElem h1'
  have hy:=List.getElem?_eq_getElem h1
  by_cases h3:xs[i]=ys[i]
  ·simp-implicitDefEqProofs[hx,hy,h3]
   exact⟨i+1,⟨h1',cF h1' h1 h3 he⟩,by omega,aD rfl (by simp[below,bk,w1 (i:=i) (by omega)])⟩
  ·have h':xs≠ys:=by rintro rfl;exact h3 rfl
   simp-implicitDefEqProofs[hx,hy,h3,h']
 ·simp at h1
  have h1:ys.length<=i:=by omega
  have h':xs=ys:=iV h h1 he
  simp-implicitDefEqProofs[h']
theorem CF(x y:Obj)(h3:x.code.length<=1048576)(h4:x.calls.length<=1048576)(h5:x.names.length<=1048576):VF Tryz.prog G ik [.agg (x.cs.map .p),.agg (y.cs.map .p)] (.p (.bool (decide (x=y)))):=by
 refine AC.go tG ?_
 have hxy:(x=y)↔(x.name=y.name/\x.params=y.params/\x.slots=y.slots/\x.code=y.code/\x.calls=y.calls/\x.names=y.names):=by
  cases x;cases y;simp
 by_cases h1:x.name=y.name
 case neg=>simp-implicitDefEqProofs[dJ,Obj.cs,hxy,h1]
 by_cases h2:x.params=y.params
 case neg=>simp-implicitDefEqProofs[dJ,Obj.cs,hxy,h1,h2]
 by_cases h6:x.slots=y.slots
 case neg=>simp-implicitDefEqProofs[dJ,Obj.cs,hxy,h1,h2,h6]
 simp-implicitDefEqProofs[dJ,Obj.cs,h1,h2,h6]
 refine(EN G _ _ h3).use ?_
 by_cases h7:x.code=y.code
 case neg=>simp-implicitDefEqProofs[hxy,h7]
 simp-implicitDefEqProofs[h7]
 refine(GH G _ _ h4).use ?_
 by_cases h8:x.calls=y.calls
 case neg=>simp-implicitDefEqProofs[hxy,h8]
 simp-implicitDefEqProofs[h8]
 refine(AL G _ _ h5).use ?_
 by_cases h9:x.names=y.names
 case neg=>simp-implicitDefEqProofs[hxy,h9]
 simp-implicitDefEqProofs[hxy,h1,h2,h6,h7,h8,h9]
end
end Go.Proofs.YtbnajafpkeficaaGreatDoor
