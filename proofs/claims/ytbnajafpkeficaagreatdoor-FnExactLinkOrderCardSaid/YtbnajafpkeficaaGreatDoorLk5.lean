/-
  Contracts and lemmas that the card needs, part 5.
-/
import Derived.Test.YtbnajafpkeficaaGreatDoorLk4
import Derived.Laws.RangeAny
import Derived.Laws.RangeString
namespace Go.Proofs.YtbnajafpkeficaaGreatDoor
open Go Go.Aw
set_option maxRecDepth 100000
set_option maxHeartbeats 4000000
section
structure Mins where (op a b c n:Int)
deriving DecidableEq
def Mins.cs(m:Mins):List PV:=[.int .i64 m.op,.int .i64 m.a,.int .i64 m.b,.int .i64 m.c,.int .i64 m.n]
structure Mfn where (params slots:Int) (ins:List Mins)
deriving DecidableEq
def Mfn.cs(m:Mfn):List PV:=[.int .i64 m.params,.int .i64 m.slots,.lst 5 (m.ins.map Mins.cs)]
@[simp] theorem Mins.cs_len(m:Mins):m.cs.length=5:=rfl
@[simp] theorem Mins.cs_take(m:Mins):List.take 5 (m.cs.map AV.p)=m.cs.map AV.p:=rfl
@[simp] theorem Mfn.cs_len(m:Mfn):m.cs.length=3:=rfl
@[simp] theorem Mfn.cs_take(m:Mfn):List.take 3 (m.cs.map AV.p)=m.cs.map AV.p:=rfl
def cT(l:List Mins):PV:= .lst 5 (l.map Mins.cs)
def dQ(l:List Mfn):PV:= .lst 3 (l.map Mfn.cs)
def aN(l:List Int):PV:= .lst 1 (l.map λn=>[.int .u8 n])
variable (G:ay)
def szF(fs:List Mfn):Nat:=fs.length+(fs.map (·.ins.length)).sum
def szT(fs:List Mfn)(i:Nat):Nat:=((fs.take i).map (·.ins.length)).sum
theorem zL{fs:List Mfn}{i:Nat}(h:i<fs.length):szT fs (i+1)=szT fs i+fs[i].ins.length:=by
 simp only[szT]
 rw[List.take_add_one,List.getElem?_eq_getElem h]
 simp only[Option.toList_some,List.map_append,List.sum_append,List.map_cons,List.map_nil,List.sum_cons,List.sum_nil,Nat.add_zero]
theorem BJ{fs:List Mfn}{i:Nat}(h:fs.length<=i):szT fs i=(fs.map (·.ins.length)).sum:=by rw[szT,List.take_of_length_le h]
theorem Ao{fs:List Mfn}:∀{i:Nat},szT fs i<=(fs.map (·.ins.length)).sum:=λ{i}=>by
 rw[←List.take_append_drop i fs,List.map_append,List.sum_append]
 simp[szT]
@[simp] theorem Jj(fs:List Mfn):szT fs 0=0:=by simp[szT]
theorem Dr(xs ys:List Int)(hb:xs.length<=1048576):VF Tryz.prog G ig [.p (aN xs),.p (aN ys)] (.p (.bool (decide (xs=ys)))):=by
 refine AC.enter sB ?_
 simp-implicitDefEqProofs[lQ,List.replicate,aN]
 refine cnd (λh e=>?_) λh=>?_
 ·simp_all
 refine az (λi:Nat=>slots 26 [(0,.p (aN xs)),(1,.p (aN ys)),(5,.p (.int .i64 i))]) (λ_=>[]) (λi=>i<=xs.length/\xs.take i=ys.take i) (λi=>xs.length-i) 0 (by simp) (Al rfl (by simp[slots,List.replicate,aN])) ?_
 intro i ⟨hi,he⟩
 simp-implicitDefEqProofs[slots,List.replicate,aN]
 simp at h
 refine cnd (λh1=>?_) (λh1=>?_)
 ·simp at h1
  have h2:i<ys.length:=by omega
  simp-implicitDefEqProofs[List.getElem?_eq_getElem h1,List.getElem?_eq_getElem h2]
  refine cnd (λh3=>?_) (λh3=>?_)
  ·simp at h3
   exact Ic h3
  ·simp at h3
   exact⟨i+1,⟨h1,dT h1 h2 h3 he⟩,by omega,Al rfl (by simp[w1 (i:=i) (by omega)])⟩
 ·simp at h1
  exact DA (by omega) h1 he
def dq:List AV:=[.p (.int .i64 0),.p (.int .i64 0),.nils]
end
section
def Mins.av(m:Mins):List AV:=m.cs.map .p
theorem Mins.av_eq(m:Mins):m.av=[.p (.int .i64 m.op),.p (.int .i64 m.a),.p (.int .i64 m.b),.p (.int .i64 m.c),.p (.int .i64 m.n)]:=rfl
def fE(l:List Mins):AO:= .row 5 (l.map Mins.av)
def Mfn.ov(id:Nat)(m:Mfn):List AV:=[.p (.int .i64 m.params),.p (.int .i64 m.slots),.sl id 5 0 m.ins.length]
def kZ(b:Nat):List Mfn->List (List AV)
 |[]=>[]
 |m::r=>m.ov b::kZ (b+1) r
theorem lB:∀(fs:List Mfn) (b:Nat),(kZ b fs).length=fs.length
 |[],_=>rfl
 |_::r,b=>by simp[kZ,lB r]
theorem zP:∀{fs:List Mfn} {b i:Nat},(kZ b fs)[i]?=(fs[i]?).map (Mfn.ov (b+i))
 |[],_,_=>by simp[kZ]
 |m::r,b,0=>by simp[kZ]
 |m::r,b,i+1=>by simp[kZ,zP (fs:=r),Nat.add_assoc,Nat.add_comm 1 i]
variable (G:ay)
theorem aq{α:Type}{xs:List α}{i:Nat}(h:i<xs.length):xs.take (i+1)=xs.take i++[xs[i]]:=by
 rw[List.take_add_one,List.getElem?_eq_getElem h];rfl
def Like(fs gs:List Mfn):Prop:=fs.length=gs.length/\∀(k:Nat) (m m':Mfn),fs[k]?=some m->gs[k]?=some m'->m.ins.length=m'.ins.length
theorem Like.refl(fs:List Mfn):Like fs fs:=⟨rfl,λk m m' h1 h2=>by rw[h1] at h2;cases h2;rfl⟩
def bN(l:List Int):AO:= .row 1 (l.map λn=>[.p (.int .u8 n)])
def mk8(k i:Nat):Int:=IntKind.u8.wrap ((k+i:Nat):Int)
def oT(k n:Nat):List Int:=(List.range n).map (mk8 k)
theorem zA{h:List AO}{id:Nat}{xs:List Int}{k:Nat}(hr:h[id]?=some (bN xs))(hk:k+xs.length<=1152921504606846976):
 AC Tryz.prog G dS [.sl id 1 0 xs.length,.p (.int .i64 k)] h λx h'=>x= .ret (.p (.int .i64 ((k+xs.length:Nat):Int)))/\h'=h.set id (bN (oT k xs.length)):=by
 refine AC.enterB dU λhb=>AC.enter dU ?_
 have hid:id<h.length:=(List.getElem?_eq_some_iff.1 hr).1
 have hbs:∀ys:List Int,HB (h.set id (bN ys)):=λys=>hb.set_row λe he=>by
  obtain⟨x,_,rfl⟩:=List.mem_map.1 he
  simp
 simp-implicitDefEqProofs[dN,List.replicate]
 have e0:oT k 0++xs.drop 0=xs:=by simp[oT]
 refine az (λa:Nat × List Int=>slots 20 [(0,.sl id 1 0 xs.length),(1,.p (.int .i64 ((k+a.1:Nat):Int))),(5,.p (.int .i64 a.1))]) (λa=>h.set id (bN a.2)) (λa=>a.1<=xs.length/\a.2=oT k a.1++xs.drop a.1) (λa=>xs.length-a.1) (0,xs) ⟨by simp,e0.symm⟩ ?_ ?_
 ·have e:h.set id (bN xs)=h:=by
   obtain⟨hi,e⟩:=List.getElem?_eq_some_iff.1 hr
   rw[←e];simp
  rw[e]
  exact oW (by simp) hb (by simp-implicitDefEqProofs[slots,List.replicate,below,hid])
 ·rintro⟨i,ys⟩ ⟨hi,hy⟩
  simp only at hi hy
  simp-implicitDefEqProofs[slots,List.replicate]
  refine cnd (λh1=>?_) (λh1=>?_)
  ·simp at h1
   have hyl:ys.length=xs.length:=by rw[hy];simp[oT];omega
   have hys:ys.set i (mk8 k i)=oT k (i+1)++xs.drop (i+1):=by
    rw[hy,List.set_append_right _ _ (by simp[oT])]
    simp only[oT,List.length_map,List.length_range,Nat.sub_self]
    rw[List.drop_eq_getElem_cons h1,List.set_cons_zero,List.range_succ]
    simp
   have hg:(List.map (λn=>[AV.p (.int .u8 n)]) ys)[i]?=some [AV.p (.int .u8 (ys[i]'(by omega)))]:=by rw[List.getElem?_map,List.getElem?_eq_getElem (by omega)];rfl
   have hw1:IntKind.i64.wrap ((k:Int)+(i:Int)+1)=(k:Int)+(i:Int)+1:=ab (by omega) (by omega)
   simp-implicitDefEqProofs[bN,hid,h1,hg,hw1]
   refine⟨i+1,ys.set i (mk8 k i),⟨h1,hys⟩,by omega,?_⟩
   have e:(List.map (λn=>[AV.p (PV.int IntKind.u8 n)]) ys).set i [AV.p (PV.int IntKind.u8 (IntKind.u8.wrap (↑k+ ↑i)))]=List.map (λn=>[AV.p (PV.int IntKind.u8 n)]) (ys.set i (mk8 k i)):=by
    rw[List.map_set];simp[mk8]
   rw[e]
   refine oW ?_ (hbs (ys.set i (mk8 k i))) ?_
   ·simp
   simp[w1 (i:=i) (by omega),below,hid]
   omega
  ·simp at h1
   have:i=xs.length:=by omega
   subst this
   simp[hy]
end
section
variable (G:ay)
def inR(n lo hi:Int):Bool:=decide (lo<=n/\n<=hi)
def fA(op:Int):Bool:=op !=14&&op !=20
def fB(op:Int):Bool:=inR op 2 12
def fC(op:Int):Bool:=inR op 3 9
def fN(op:Int):Bool:=op==1||inR op 14 18||op==20||op==21
def re(params slots len k op:Int):Int:=
 if op=1 then 255 else if op=14 then k-1 else if op=15\/op=16 then slots-1 else if op=17 then 2 else if op=18 then params-1 else len-1
def gB(params slots len k:Int)(x:Mins):Bool:=
 inR x.op 1 22&&(fA x.op||x.a==0)&&(fB x.op||x.b==0)&&(fC x.op||x.c==0)&&(fN x.op||x.n==0)&&
 inR x.a 0 7&&inR x.b 0 7&&inR x.c 0 7&&(!fN x.op||inR x.n 0 (re params slots len k x.op))
def iq(l:List Mins):Bool:=match l.getLast? with|some x=>x.op==20||x.op==22|none=>false
def gm(k:Int)(f:Mfn):Bool:=inR f.params 0 3&&inR f.slots 0 64&&iq f.ins&&f.ins.all (gB f.params f.slots f.ins.length k)
def oY:Int->List Mfn->Bool
 |_,[]=>true
 |k,f::r=>gm k f&&oY (k+1) r
def jg(fs:List Mfn):Nat:=(fs.map (·.ins.length)).sum
def bF(fs:List Mfn):Bool:=inR fs.length 1 4&&decide (jg fs<=2000)&&oY 0 fs
def wordT:List (List UInt8):=[[],[115,101,116],[109,111,118,101],[97,100,100],[115,117,98],[109,117,108],[100,105,118],[114,101,109],[108,101,115,115],[115,97,109,101],[110,111,116],[108,111,97,100],[115,116,111,114,101],[115,97,121],[99,97,108,108],[107,101,101,112],[116,97,107,101],[103,105,118,101],[102,101,116,99,104],[114,101,115,117,108,116],[106,117,109,112],[98,114,97,110,99,104],[98,97,99,107]]
def fldT:List (List UInt8):=[[],[65,78],[65,66],[65,66,67],[65,66,67],[65,66,67],[65,66,67],[65,66,67],[65,66,67],[65,66,67],[65,66],[65,66],[65,66],[65],[78],[65,78],[65,78],[65,78],[65,78],[65],[78],[65,78],[65]]
def rc(op:Int):List UInt8:=if inR op 1 22 then wordT.getD op.toNat [] else[]
def ja(op:Int):List UInt8:=if inR op 1 22 then fldT.getD op.toNat [] else[]
theorem fP(n lo hi:Int):VF Tryz.prog G cm [.p (.int .i64 n),.p (.int .i64 lo),.p (.int .i64 hi)] (.p (.bool (inR n lo hi))):=by
 refine AC.enter yG ?_
 simp-implicitDefEqProofs[rG,List.replicate]
 refine cnd (λh=>?_) (λh=>?_)
 ·simp at h;simp[inR,h]
 ·simp at h
  have:¬(lo<=n):=by omega
  simp[inR,h,this]
theorem dk(n lo hi:Int):VF Tryz.prog G aR [.p (.int .i64 n),.p (.int .i64 lo),.p (.int .i64 hi)] (.p (.bool (inR n lo hi))):=by
 refine AC.enter uz ?_
 simp-implicitDefEqProofs[nc,List.replicate]
 refine cnd (λh=>?_) (λh=>?_)
 ·simp at h;simp[inR,h]
 ·simp at h
  have:¬(lo<=n):=by omega
  simp[inR,h,this]
theorem zz{op:Int}(h:inR op 1 22=true):op=1\/op=2\/op=3\/op=4\/op=5\/op=6\/op=7\/op=8\/op=9\/op=10\/op=11\/op=12\/op=13\/op=14\/op=15\/op=16\/op=17\/op=18\/op=19\/op=20\/op=21\/op=22:=by
 simp[inR] at h;omega
theorem vn(op:Int):VF Tryz.prog G fe [.p (.int .i64 op)] (.tup [.p (.str (rc op)),.p (.str (ja op))]):=by
 refine AC.enter tO ?_
 simp-implicitDefEqProofs[lz,List.replicate]
 refine(fP G op 1 22).use ?_
 simp-implicitDefEqProofs
 refine cnd (λh=>?_) (λh=>?_)
 ·simp at h;simp[rc,ja,h]
 ·simp at h
  have h2:=h
  simp[inR] at h2
  have h3:op.toNat<23:=by omega
  rcases zz h with rfl|rfl|rfl|rfl|rfl|rfl|rfl|rfl|rfl|rfl|rfl|rfl|rfl|rfl|rfl|rfl|rfl|rfl|rfl|rfl|rfl|rfl<;>simp-implicitDefEqProofs[rc,ja,inR,wordT,fldT]
def nK(x:Mins)(n:Int):Int:=if n=65 then x.a else if n=66 then x.b else if n=67 then x.c else x.n
theorem tT(x:Mins)(n:Int):VF Tryz.prog G eN [.agg (x.cs.map .p),.p (.int .u8 n)] (.p (.int .i64 (nK x n))):=by
 refine AC.enter rS ?_
 simp-implicitDefEqProofs[kC,List.replicate,Mins.cs]
 refine cnd (λh=>?_) λh=>cnd (λh=>?_) λh=>cnd (λh=>?_) λh=>?_
 all_goals simp_all [nK]
def chrs:List UInt8:=[65,66,67,78]
def tI(x:Mins)(fields:List UInt8)(j:Nat):Bool:=fields.contains (chrs.getD j 0)||nK x (chrs.getD j 0).toNat==0
def nz(x:Mins)(fields:List UInt8):Bool:=(List.range 4).all (tI x fields)
theorem Hm{a b:UInt8}:((a.toNat:Int)=(b.toNat:Int))↔b=a:=by
 rw[Int.natCast_inj,UInt8.toNat_inj];exact eq_comm
theorem Du(x:Mins)(fields:List UInt8)(hb:fields.length<=1048576):VF Tryz.prog G ii [.agg (x.cs.map .p),.p (.str fields)] (.p (.bool (nz x fields))):=by
 refine AC.enter tt ?_
 simp-implicitDefEqProofs[lI,List.replicate]
 refine az (λi:Nat=>slots 37 [(1,.p (.str fields)),(2,.ptr 0 5 0 0),(5,.p (.int .i64 i))]) (λ_=>[.row 5 [x.cs.map .p]]) (λi=>i<=4/\∀j,j<i->tI x fields j=true) (λi=>4-i) 0 (by simp) (aQ (by simp) (by simp[okO]) (by simp[slots,List.replicate,below])) ?_
 intro i ⟨hi,hj⟩
 simp-implicitDefEqProofs[slots,List.replicate]
 refine cnd (λh1=>?_) (λh1=>?_)
 ·simp at h1
  obtain⟨c,hc⟩:∃c,chrs[i]?=some c:=⟨chrs[i]'(by simp[chrs];omega),List.getElem?_eq_getElem _⟩
  have hc':=hc
  simp only[chrs] at hc'
  simp-implicitDefEqProofs[hc']
  refine az (λk:Nat=>slots 37 [(1,.p (.str fields)),(2,.ptr 0 5 0 0),(5,.p (.int .i64 i)),(6,.p (.int .u8 c.toNat)),(7,.p (.bool ((fields.take k).contains c))),(8,.p (.int .i64 k))]) (λ_=>[.row 5 [x.cs.map .p]]) (λk=>k<=fields.length) (λk=>fields.length-k) 0 (by simp) (aQ (by simp) (by simp[okO]) (by simp[slots,List.replicate,below])) ?_
  intro k hk
  simp-implicitDefEqProofs[slots,List.replicate]
  refine cnd (λh2=>?_) (λh2=>?_)
  ·simp at h2
   have hw:=w1 (i:=k) (by omega)
   have hct:(fields.take (k+1)).contains c=((fields.take k).contains c||c==fields[k]):=by
    rw[aq h2];simp only[List.contains_eq_any_beq,List.any_append,List.any_cons,List.any_nil,Bool.or_false]
   simp-implicitDefEqProofs[List.getElem?_eq_getElem h2]
   refine cnd (λh3=>?_) (λh3=>?_)
   ·simp-implicitDefEqProofs[h3]
    refine⟨k+1,h2,by omega,aQ (by simp) (by simp[okO]) ?_⟩
    simp-implicitDefEqProofs[below,hw]
    simp at h3 hct
    simp[hct,h3]
    rw[Bool.eq_iff_iff];simp[Hm]
   ·simp-implicitDefEqProofs[h3]
    refine⟨k+1,h2,by omega,aQ (by simp) (by simp[okO]) ?_⟩
    simp-implicitDefEqProofs[below,hw]
    simp at h3 hct
    simp[hct,h3]
  ·simp at h2
   have hke:k=fields.length:=by omega
   subst hke
   have hcd:chrs.getD i 0=c:=by rw[List.getD_eq_getElem?_getD,hc];rfl
   by_cases hin:c∈fields
   ·simp-implicitDefEqProofs[hin]
    refine⟨i+1,⟨by omega,λj hji=>?_⟩,by omega,aQ (by simp) (by simp[okO]) ?_⟩
    ·rcases Nat.lt_or_ge j i with h3|h3
     ·exact hj j h3
     ·obtain rfl:j=i:=by omega
      simp only[tI,hcd];simp[hin]
    ·simp[below,w1 (i:=i) (by omega)]
   ·simp-implicitDefEqProofs[hin]
    refine(tT G x c.toNat).use ?_
    simp-implicitDefEqProofs[]
    refine cnd (λh3=>?_) (λh3=>?_)
    ·simp at h3
     have:tI x fields i=false:=by simp only[tI,hcd];simp[hin,h3]
     simp[nz,List.all_eq_false]
     exact⟨i,by omega,by simp[this]⟩
    ·simp at h3
     refine⟨i+1,⟨by omega,λj hji=>?_⟩,by omega,aQ (by simp) (by simp[okO]) ?_⟩
     ·rcases Nat.lt_or_ge j i with h4|h4
      ·exact hj j h4
      ·obtain rfl:j=i:=by omega
       simp only[tI,hcd];simp[h3]
     ·simp[below,w1 (i:=i) (by omega)]
 ·simp at h1
  have:i=4:=by omega
  subst this
  simp[nz]
  exact hj
def kB(x:Mins)(fields:List UInt8):Bool:=fields.all λc=>c==78||inR (nK x c.toNat) 0 7
theorem Fj(p s l k:Int)(x:Mins):gB p s l k x=(inR x.op 1 22&&nz x (ja x.op)&&kB x (ja x.op)&&(!fN x.op||inR x.n 0 (re p s l k x.op))):=by
 by_cases h:inR x.op 1 22=true
 ·have e:(nz x (ja x.op)&&kB x (ja x.op))=((fA x.op||x.a==0)&&(fB x.op||x.b==0)&&(fC x.op||x.c==0)&&(fN x.op||x.n==0)&&inR x.a 0 7&&inR x.b 0 7&&inR x.c 0 7):=by
   obtain⟨op,a,b,c,n⟩:=x
   simp only at h⊢
   rcases zz h with rfl|rfl|rfl|rfl|rfl|rfl|rfl|rfl|rfl|rfl|rfl|rfl|rfl|rfl|rfl|rfl|rfl|rfl|rfl|rfl|rfl|rfl<;>simp[nz,tI,kB,ja,fldT,nK,chrs,fA,fB,fC,fN,inR,List.range,List.range.loop]<;>(rw[Bool.eq_iff_iff];simp;try omega)
  simp only[gB,h,Bool.true_and]
  rw[e]
 ·simp[gB,h]
end
section
variable (G:ay)
theorem vA{op:Int}(h:inR op 1 22=false):ja op=[]:=by simp[ja,h]
theorem sW{op:Int}(h:inR op 1 22=true):ja op≠[]/\(ja op).length<=3:=by
 rcases zz h with rfl|rfl|rfl|rfl|rfl|rfl|rfl|rfl|rfl|rfl|rfl|rfl|rfl|rfl|rfl|rfl|rfl|rfl|rfl|rfl|rfl|rfl<;>simp[ja,fldT,inR]
theorem Fr(fs:List Mfn)(k:Nat)(f:Mfn)(x:Mins)(hk:fs[k]?=some f)(hk2:k<=1048576)(hl:f.ins.length<=1048576)(hp:inR f.params 0 3=true)(hs:inR f.slots 0 64=true):
 VF Tryz.prog G je [.agg [.p (dQ fs)],.p (.int .i64 k),.agg (x.cs.map .p)] (.p (.bool (gB f.params f.slots f.ins.length k x))):=by
 refine AC.enter uo ?_
 have hkm:(fs.map Mfn.cs)[k]?=some f.cs:=by rw[List.getElem?_map,hk];rfl
 rw[Fj]
 simp-implicitDefEqProofs[nb,List.replicate,dQ,hkm]
 simp-implicitDefEqProofs[Mins.cs]
 refine(vn G x.op).use ?_
 by_cases hop:inR x.op 1 22=true
 ·obtain⟨g1,g2⟩:=sW hop
  simp-implicitDefEqProofs[g1,hop]
  generalize hfl:ja x.op=fields at g1 g2
  refine(Du G x fields (by omega)).use ?_
  simp-implicitDefEqProofs
  by_cases hr:nz x fields=true
  ·simp-implicitDefEqProofs[hr]
   refine az (λi:Nat=>slots 95 [(1,.p (.int .i64 k)),(5,.ptr 1 5 0 0),(7,.ptr 2 3 0 0),(9,.p (.str fields)),(10,.p (.int .i64 i))]) (λ_=>[.row 1 [[.p (dQ fs)]],.row 5 [x.cs.map .p],.row 3 [f.cs.map .p]])
    (λi=>i<=fields.length/\kB x (fields.take i)=true) (λi=>fields.length-i) 0 (by simp[kB]) ?_ ?_
   ·refine aQ (by simp) (by simp[okO,Mins.cs,Mfn.cs]) (by simp[slots,List.replicate,below])
   ·intro i ⟨hi,hc⟩
    simp-implicitDefEqProofs[slots,List.replicate]
    refine cnd (λh1=>?_) (λh1=>?_)
    ·simp at h1
     simp-implicitDefEqProofs[List.getElem?_eq_getElem h1]
     have hct:kB x (fields.take (i+1))=(kB x (fields.take i)&&(fields[i]==78||inR (nK x fields[i].toNat) 0 7)):=by
      rw[kB,aq h1,List.all_append];simp[kB]
     have hbad:(fields[i]==78||inR (nK x fields[i].toNat) 0 7)=false->kB x fields=false:=λh=>by
      rw[kB,List.all_eq_false]
      exact⟨fields[i],List.getElem_mem h1,by simpa using h⟩
     by_cases h78:fields[i]=78
     ·simp-implicitDefEqProofs[h78]
      refine⟨i+1,⟨by omega,by rw[hct,hc,h78];rfl⟩,by omega,aQ (by simp) (by simp[okO,Mins.cs,Mfn.cs]) ?_⟩
      simp[below,w1 (i:=i) (by omega)]
     ·have h78':¬((fields[i].toNat:Int)=78):=λe=>h78 (Hm (b:=78)|>.1 e).symm
      simp-implicitDefEqProofs[h78']
      refine(tT G x _).use ?_
      simp-implicitDefEqProofs
      refine(fP G _ _ _).use ?_
      simp-implicitDefEqProofs
      refine cnd (λh3=>?_) (λh3=>?_)
      ·simp at h3
       simp-implicitDefEqProofs[hbad (by simp[h78,h3])]
      ·simp at h3
       refine⟨i+1,⟨by omega,by rw[hct,hc];simp[h3]⟩,by omega,aQ (by simp) (by simp[okO,Mins.cs,Mfn.cs]) ?_⟩
       simp[below,w1 (i:=i) (by omega)]
    ·simp at h1
     have hall:kB x fields=true:=by rw[List.take_of_length_le h1] at hc;exact hc
     simp[inR] at hp hs
     have hwk:IntKind.i64.wrap ((k:Int)-1)=(k:Int)-1:=ab (by omega) (by omega)
     have hwp:IntKind.i64.wrap (f.params-1)=f.params-1:=ab (by omega) (by omega)
     have hws:IntKind.i64.wrap (f.slots-1)=f.slots-1:=ab (by omega) (by omega)
     have hwl:IntKind.i64.wrap ((f.ins.length:Int)-1)=(f.ins.length:Int)-1:=ab (by omega) (by omega)
     have hsel:x.op=1\/x.op=14\/x.op=15\/x.op=16\/x.op=17\/x.op=18\/x.op=20\/x.op=21\/(x.op≠1/\x.op≠14/\x.op≠15/\x.op≠16/\x.op≠17/\x.op≠18/\x.op≠20/\x.op≠21):=by omega
     rcases hsel with e|e|e|e|e|e|e|e|⟨e1,e2,e3,e4,e5,e6,e7,e8⟩
     case inr.inr.inr.inr.inr.inr.inr.inr=>
      have hfn:fN x.op=false:=by simp[inR] at hop;simp[fN,inR,e1,e7,e8];omega
      simp-implicitDefEqProofs[Mins.cs,e1,e2,e3,e4,e5,e6,e7,e8,hall,hfn]
     all_goals
      simp-implicitDefEqProofs[Mins.cs,Mfn.cs,e,hwk,hwp,hws,hwl]
      refine(fP G _ _ _).use ?_
      simp-implicitDefEqProofs[hall,fN,re,inR]
  ·simp-implicitDefEqProofs[hr]
 ·simp-implicitDefEqProofs[vA (by simpa using hop),hop]
end
section
variable (G:ay)
theorem jI:∀{fs:List Mfn} {k:Int} {i:Nat} {f:Mfn},oY k fs=true->fs[i]?=some f->gm (k+i) f=true
 |g::r,k,0,f,h,e=>by
  simp only[oY,Bool.and_eq_true] at h
  cases e;simpa using h.1
 |g::r,k,i+1,f,h,e=>by
  simp only[oY,Bool.and_eq_true] at h
  have:=jI h.2 (i:=i) (f:=f) (by simpa using e)
  rw[show k+((i+1:Nat):Int)=k+1+(i:Int) by omega];exact this
theorem pk:∀{fs:List Mfn} {k:Int},(∀(i:Nat) f,fs[i]?=some f->gm (k+i) f=true)->oY k fs=true
 |[],_,_=>rfl
 |g::r,k,h=>by
  simp only[oY,Bool.and_eq_true]
  refine⟨by simpa using h 0 g rfl,pk λi f e=>?_⟩
  have:=h (i+1) f (by simpa using e)
  rw[show k+((i+1:Nat):Int)=k+1+(i:Int) by omega] at this;exact this
theorem fz{fs:List Mfn}{i:Nat}{f:Mfn}(e:fs[i]?=some f)(h:gm i f=false):bF fs=false:=by
 cases hm:bF fs with
 |false=>rfl
 |true=>
  simp only[bF,Bool.and_eq_true] at hm
  have:=jI hm.2 e
  rw[Int.zero_add,h] at this;cases this
theorem tv{l:List Mins}(h:0<l.length):iq l=(l[l.length-1].op==20||l[l.length-1].op==22):=by
 rw[iq,List.getLast?_eq_getElem?,List.getElem?_eq_getElem (by omega)]
theorem yE(fs:List Mfn)(hb:szF fs<=1048576):VF Tryz.prog G fZ [.agg [.p (dQ fs)]] (.p (.bool (bF fs))):=by
 have hsz:szF fs=fs.length+(fs.map (·.ins.length)).sum:=rfl
 refine AC.enter pA ?_
 simp-implicitDefEqProofs[jR,List.replicate,dQ]
 refine(fP G _ _ _).use ?_
 simp-implicitDefEqProofs
 refine cnd (λh=>?_) (λh=>?_)
 ·simp at h;simp[bF,h]
 simp at h
 refine az (λi:Nat=>slots 81 [(1,.ptr 0 1 0 0),(3,.p (.int .i64 (szT fs i))),(4,.p (.int .i64 i))]) (λ_=>[.row 1 [[.p (dQ fs)]]])
  (λi=>i<=fs.length/\szT fs i<=2000/\∀j f,j<i->fs[j]?=some f->gm j f=true) (λi=>fs.length-i) 0 (by simp) (aQ (by simp) (by simp[okO,dQ]) (by simp[slots,List.replicate,below])) ?_
 intro i ⟨hi,hn,hok⟩
 simp-implicitDefEqProofs[slots,List.replicate,dQ]
 refine cnd (λh1=>?_) (λh1=>?_)
 ·simp at h1
  have hx:=zL h1
  have hx2:=Ao (fs:=fs) (i:=i+1)
  have hgi:=List.getElem?_eq_getElem h1
  have hkm:(fs.map Mfn.cs)[i]?=some fs[i].cs:=by rw[List.getElem?_map,hgi];rfl
  have hw:IntKind.i64.wrap ((szT fs i:Int)+(fs[i].ins.length:Int))=((szT fs (i+1):Nat):Int):=by rw[ab (by omega) (by omega),hx];omega
  simp-implicitDefEqProofs[hgi]
  simp-implicitDefEqProofs[Mfn.cs,hw]
  refine(fP G _ _ _).use ?_
  by_cases hp:inR fs[i].params 0 3=true
  rotate_left
  ·simp-implicitDefEqProofs[hp]
   exact(fz hgi (by simp[gm,hp])).symm▸rfl
  simp-implicitDefEqProofs[hp]
  refine(fP G _ _ _).use ?_
  by_cases hs:inR fs[i].slots 0 64=true
  rotate_left
  ·simp-implicitDefEqProofs[hs]
   exact(fz hgi (by simp[gm,hs])).symm▸rfl
  by_cases h0:fs[i].ins=[]
  ·simp-implicitDefEqProofs[hs,h0]
   exact(fz hgi (by simp[gm,h0,iq])).symm▸rfl
  have hpos:0<fs[i].ins.length:=List.length_pos_iff.2 h0
  simp-implicitDefEqProofs[hs,h0]
  refine cnd (λh2=>?_) (λh2=>?_)
  ·simp at h2
   have:¬(jg fs<=2000):=by have:=Ao (fs:=fs) (i:=i+1);simp only[jg];omega
   simp[bF,this]
  simp at h2
  refine az (λq:Nat=>slots 81 [(1,.ptr 0 1 0 0),(3,.p (.int .i64 (szT fs (i+1)))),(4,.p (.int .i64 i)),(5,.ptr 1 3 0 0),(6,.p (.int .i64 q))]) (λ_=>[.row 1 [[.p (dQ fs)]],.row 3 [fs[i].cs.map .p]])
   (λq=>q<=fs[i].ins.length/\∀x∈fs[i].ins.take q,gB fs[i].params fs[i].slots fs[i].ins.length i x=true) (λq=>fs[i].ins.length-q) 0 (by simp) (aQ (by simp) (by simp[okO,dQ,Mfn.cs]) (by simp[slots,List.replicate,below])) ?_
  intro q ⟨hq,hqs⟩
  simp-implicitDefEqProofs[slots,List.replicate,dQ,Mfn.cs]
  refine cnd (λh3=>?_) (λh3=>?_)
  ·simp at h3
   simp-implicitDefEqProofs[List.getElem?_eq_getElem h3]
   refine(Fr G fs i fs[i] fs[i].ins[q] hgi (by omega) (by omega) hp hs).use ?_
   simp-implicitDefEqProofs
   refine cnd (λh4=>?_) (λh4=>?_)
   ·simp at h4
    have:(fs[i].ins.all (gB fs[i].params fs[i].slots fs[i].ins.length i))=false:=by
     rw[List.all_eq_false];exact⟨_,List.getElem_mem h3,by simp[h4]⟩
    exact(fz hgi (by simp[gm,this])).symm▸rfl
   ·simp at h4
    refine⟨q+1,⟨by omega,by
     intro x hx
     rw[aq h3] at hx
     rcases List.mem_append.1 hx with hx|hx
     ·exact hqs x hx
     ·rw[List.mem_singleton.1 hx];exact h4⟩,by omega,aQ (by simp) (by simp[okO,dQ]) ?_⟩
    simp[below,w1 (i:=q) (by omega)]
  ·simp at h3
   rw[List.take_of_length_le h3] at hqs
   have hwl:IntKind.i64.wrap ((fs[i].ins.length:Int)-1)=((fs[i].ins.length-1:Nat):Int):=by rw[ab (by omega) (by omega)];omega
   have hgl:=List.getElem?_eq_getElem (l:=fs[i].ins) (i:=fs[i].ins.length-1) (by omega)
   have hlo:=tv hpos
   simp-implicitDefEqProofs[hwl,hgl,hpos,Mins.cs]
   have hfin:iq fs[i].ins=true->∃a,(a<=fs.length/\szT fs a<=2000/\∀(j:Nat) (f:Mfn),j<a->fs[j]?=some f->gm j f=true)/\a=i+1:=λhl=>by
    refine⟨i+1,⟨h1,by omega,λj f hj e=>?_⟩,rfl⟩
    rcases Nat.lt_or_ge j i with hji|hji
    ·exact hok j f hji e
    ·obtain rfl:j=i:=by omega
     rw[hgi] at e;cases e
     simp only[gm,hp,hs,hl,Bool.true_and,List.all_eq_true]
     exact hqs
   by_cases e20:fs[i].ins[fs[i].ins.length-1].op=20
   ·obtain⟨a,h5,rfl⟩:=hfin (by rw[hlo];simp[e20])
    simp-implicitDefEqProofs[e20]
    refine⟨i+1,h5,by omega,pF (n:=1) (by simp) (ss rfl rfl (by simp[dQ])) ?_⟩
    simp[below,w1 (i:=i) (by omega)]
   ·simp-implicitDefEqProofs[e20]
    refine cnd (λh5=>?_) (λh5=>?_)
    ·simp at h5
     exact(fz hgi (by simp[gm,hlo,e20,h5])).symm▸rfl
    ·simp at h5
     obtain⟨a,h6,rfl⟩:=hfin (by rw[hlo];simp[h5])
     refine⟨i+1,h6,by omega,pF (n:=1) (by simp) (ss rfl rfl (by simp[dQ])) ?_⟩
     simp[below,w1 (i:=i) (by omega)]
 ·simp at h1
  have hall:oY 0 fs=true:=pk λj f e=>by
   rw[Int.zero_add];exact hok j f (by have:=(List.getElem?_eq_some_iff.1 e).1;omega) e
  have:jg fs<=2000:=by rw[jg,←BJ h1];exact hn
  simp[bF,hall,this,h]
end
section
abbrev Gq:Nat:=0
abbrev bX:Nat:=1
def FU:List PV:=[.lst 1 [[.int .u8 87],[.int .u8 119]]]
def pvForms:List PV:=[.str [],.int .i64 0,.str [115,101,116],.int .i64 9,.str [109,111,118,101],.int .i64 3,.str [97,100,100],.int .i64 7,.str [115,117,98],.int .i64 7,.str [109,117,108],.int .i64 7,.str [100,105,118],.int .i64 7,.str [114,101,109],.int .i64 7,.str [108,101,115,115],.int .i64 7,.str [115,97,109,101],.int .i64 7,.str [110,111,116],.int .i64 3,.str [108,111,97,100],.int .i64 3,.str [115,116,111,114,101],.int .i64 3,.str [115,97,121],.int .i64 1,.str [99,97,108,108],.int .i64 8,.str [107,101,101,112],.int .i64 9,.str [116,97,107,101],.int .i64 9,.str [103,105,118,101],.int .i64 9,.str [102,101,116,99,104],.int .i64 9,.str [114,101,115,117,108,116],.int .i64 1,.str [106,117,109,112],.int .i64 8,.str [98,114,97,110,99,104],.int .i64 9,.str [98,97,99,107],.int .i64 1]
def maskT:List Int:=[0,9,3,7,7,7,7,7,7,7,3,3,3,1,8,9,9,9,9,1,8,9,1]
def me(op:Int):Int:=maskT.getD op.toNat 0
theorem DT{op:Int}(h:inR op 1 22=true):((pvForms.map AV.p).drop (op.toNat*2)).take 2=[.p (.str (rc op)),.p (.int .i64 (me op))]/\op.toNat*2+2<=pvForms.length:=by
 rcases zz h with rfl|rfl|rfl|rfl|rfl|rfl|rfl|rfl|rfl|rfl|rfl|rfl|rfl|rfl|rfl|rfl|rfl|rfl|rfl|rfl|rfl|rfl<;>exact⟨rfl,by decide⟩
theorem th{op:Int}(h:inR op 1 22=true):(me op=9/\fA op=true/\fB op=false/\fC op=false/\fN op=true)\/(me op=3/\fA op=true/\fB op=true/\fC op=false/\fN op=false)\/
 (me op=7/\fA op=true/\fB op=true/\fC op=true/\fN op=false)\/(me op=1/\fA op=true/\fB op=false/\fC op=false/\fN op=false)\/(me op=8/\fA op=false/\fB op=false/\fC op=false/\fN op=true):=by
 rcases zz h with rfl|rfl|rfl|rfl|rfl|rfl|rfl|rfl|rfl|rfl|rfl|rfl|rfl|rfl|rfl|rfl|rfl|rfl|rfl|rfl|rfl|rfl<;>decide
def okI(x:Mins):Nat->Bool
 |0=>fA x.op||x.a==0
 |1=>fB x.op||x.b==0
 |2=>fC x.op||x.c==0
 |_=>fN x.op||x.n==0
def fT(x:Mins):Bool:=inR x.op 1 22&&okI x 0&&okI x 1&&okI x 2&&okI x 3
variable (G:ay) (hG:G bX=some pvForms)
include hG
theorem EM(x:Mins):VF Tryz.prog G jx [.agg (x.cs.map .p)] (.tup [.agg [.p (.str (if fT x then rc x.op else[])),.p (.int .i64 (if fT x then me x.op else 0))],.p (.bool (fT x))]):=by
 refine AC.enter uG ?_
 simp-implicitDefEqProofs[mR,List.replicate]
 simp-implicitDefEqProofs[Mins.cs]
 refine(dk G _ _ _).use ?_
 by_cases hop:inR x.op 1 22=true
 rotate_left
 ·simp-implicitDefEqProofs[hop,fT]
 obtain⟨f1,f2⟩:=DT hop
 have hop':=hop
 simp[inR] at hop'
 have hG':=hG
 dsimp only[bX] at hG'
 simp-implicitDefEqProofs[hop,hG',f1,f2]
 refine⟨by omega,?_⟩
 rcases th hop with⟨m0,m1,m2,m3,m4⟩|⟨m0,m1,m2,m3,m4⟩|⟨m0,m1,m2,m3,m4⟩|⟨m0,m1,m2,m3,m4⟩|⟨m0,m1,m2,m3,m4⟩
 all_goals
  rw[m0]
  refine az (λi:Nat=>slots 42 [(1,.ptr 0 5 0 0),(2,.ptr 1 2 0 0),(4,.ptr 2 2 0 0),(24,.agg [.p (.int .i64 x.a),.p (.int .i64 x.b),.p (.int .i64 x.c),.p (.int .i64 x.n)]),(25,.p (.int .i64 i))])
   (λ_=>[.row 5 [x.cs.map .p],.row 2 [[.p (.str []),.p (.int .i64 0)]],.row 2 [[.p (.str (rc x.op)),.p (.int .i64 _)]]]) (λi=>i<=4/\∀j,j<i->okI x j=true) (λi=>4-i) 0 (by simp) (aQ (by simp) (by simp[okO]) (by simp[slots,List.replicate,below])) ?_
  rintro i ⟨hi,hj⟩
  have hsplit:i=0\/i=1\/i=2\/i=3\/i=4:=by omega
  have hbad:∀j,j<4->okI x j=false->fT x=false:=λj hj h=>by
   have:j=0\/j=1\/j=2\/j=3:=by omega
   rcases this with rfl|rfl|rfl|rfl<;>simp[fT,h]
  have hnext:∀{ts:List AV} {b:List AO} (i:Nat),okI x i=true->(∀j,j<i->okI x j=true)->∀j,j<i+1->okI x j=true:=λi h1 h2 j h3=>by
   rcases Nat.lt_or_ge j i with h4|h4
   ·exact h2 j h4
   ·obtain rfl:j=i:=by omega
    exact h1
  rcases hsplit with rfl|rfl|rfl|rfl|rfl
  case inr.inr.inr.inr=>
   have h0:=hj 0 (by omega)
   have h1:=hj 1 (by omega)
   have h2:=hj 2 (by omega)
   have h3:=hj 3 (by omega)
   have hf:fT x=true:=by simp[fT,hop,h0,h1,h2,h3]
   simp-implicitDefEqProofs[slots,List.replicate,hf,m0]
  all_goals
   simp-implicitDefEqProofs[slots,List.replicate,IntKind.wrap,IntKind.bits,IntKind.signed]
   first
    |(refine cnd (λh=>?_) (λh=>?_)
      ·simp at h
       first
        |simp-implicitDefEqProofs[hbad 0 (by decide) (show okI x 0=false by simp[okI,m1,m2,m3,m4,h])]
        |simp-implicitDefEqProofs[hbad 1 (by decide) (show okI x 1=false by simp[okI,m1,m2,m3,m4,h])]
        |simp-implicitDefEqProofs[hbad 2 (by decide) (show okI x 2=false by simp[okI,m1,m2,m3,m4,h])]
        |simp-implicitDefEqProofs[hbad 3 (by decide) (show okI x 3=false by simp[okI,m1,m2,m3,m4,h])]
      ·simp at h
       first
        |exact⟨1,⟨by decide,hnext (ts:=[]) (b:=[]) 0 (by simp[okI,m1,m2,m3,m4,h]) hj⟩,by decide,aQ (by simp) (by simp[okO]) (by simp[below])⟩
        |exact⟨2,⟨by decide,hnext (ts:=[]) (b:=[]) 1 (by simp[okI,m1,m2,m3,m4,h]) hj⟩,by decide,aQ (by simp) (by simp[okO]) (by simp[below])⟩
        |exact⟨3,⟨by decide,hnext (ts:=[]) (b:=[]) 2 (by simp[okI,m1,m2,m3,m4,h]) hj⟩,by decide,aQ (by simp) (by simp[okO]) (by simp[below])⟩
        |exact⟨4,⟨by decide,hnext (ts:=[]) (b:=[]) 3 (by simp[okI,m1,m2,m3,m4,h]) hj⟩,by decide,aQ (by simp) (by simp[okO]) (by simp[below])⟩)
    |(first
       |exact⟨1,⟨by decide,hnext (ts:=[]) (b:=[]) 0 (by simp[okI,m1,m2,m3,m4]) hj⟩,by decide,aQ (by simp) (by simp[okO]) (by simp[below])⟩
       |exact⟨2,⟨by decide,hnext (ts:=[]) (b:=[]) 1 (by simp[okI,m1,m2,m3,m4]) hj⟩,by decide,aQ (by simp) (by simp[okO]) (by simp[below])⟩
       |exact⟨3,⟨by decide,hnext (ts:=[]) (b:=[]) 2 (by simp[okI,m1,m2,m3,m4]) hj⟩,by decide,aQ (by simp) (by simp[okO]) (by simp[below])⟩
       |exact⟨4,⟨by decide,hnext (ts:=[]) (b:=[]) 3 (by simp[okI,m1,m2,m3,m4]) hj⟩,by decide,aQ (by simp) (by simp[okO]) (by simp[below])⟩)
end
section
theorem pH(p s l k:Int)(x:Mins):gB p s l k x=(fT x&&inR x.a 0 7&&inR x.b 0 7&&inR x.c 0 7&&(!fN x.op||inR x.n 0 (re p s l k x.op))):=by
 simp[gB,fT,okI]
theorem EA{op:Int}(h:inR op 1 22=true):(yj .and (.int .i64 (me op)) (.int .i64 8))=some (.int .i64 (if fN op then 8 else 0)):=by
 rcases th h with⟨m0,m1,m2,m3,m4⟩|⟨m0,m1,m2,m3,m4⟩|⟨m0,m1,m2,m3,m4⟩|⟨m0,m1,m2,m3,m4⟩|⟨m0,m1,m2,m3,m4⟩<;>rw[m0,m4]<;>rfl
variable (G:ay) (hG:G bX=some pvForms)
include hG
theorem Fi(fs:List Mfn)(k:Nat)(f:Mfn)(x:Mins)(hk:fs[k]?=some f)(hk2:k<=1048576)(hl:f.ins.length<=1048576)(hp:inR f.params 0 3=true)(hs:inR f.slots 0 64=true):
 VF Tryz.prog G jq [.agg [.p (dQ fs)],.p (.int .i64 k),.agg (x.cs.map .p)] (.p (.bool (gB f.params f.slots f.ins.length k x))):=by
 refine AC.enter us ?_
 rw[pH]
 simp-implicitDefEqProofs[mT,List.replicate,dQ]
 refine(EM G hG x).use ?_
 simp-implicitDefEqProofs[Mins.cs]
 by_cases hf:fT x=true
 rotate_left
 ·simp-implicitDefEqProofs[hf]
 simp-implicitDefEqProofs[hf]
 refine(dk G _ _ _).use ?_
 by_cases ha:inR x.a 0 7=true
 rotate_left
 ·simp-implicitDefEqProofs[ha]
 simp-implicitDefEqProofs[ha]
 refine(dk G _ _ _).use ?_
 by_cases hb:inR x.b 0 7=true
 rotate_left
 ·simp-implicitDefEqProofs[hb]
 simp-implicitDefEqProofs[hb]
 refine(dk G _ _ _).use ?_
 by_cases hc:inR x.c 0 7=true
 rotate_left
 ·simp-implicitDefEqProofs[hc]
 simp-implicitDefEqProofs[hc]
 have hop:inR x.op 1 22=true:=by simp[fT] at hf;exact hf.1.1.1.1
 have hand:=EA hop
 simp[inR] at hp hs
 have hwk:IntKind.i64.wrap ((k:Int)-1)=(k:Int)-1:=ab (by omega) (by omega)
 have hwp:IntKind.i64.wrap (f.params-1)=f.params-1:=ab (by omega) (by omega)
 have hws:IntKind.i64.wrap (f.slots-1)=f.slots-1:=ab (by omega) (by omega)
 have hwl:IntKind.i64.wrap ((f.ins.length:Int)-1)=(f.ins.length:Int)-1:=ab (by omega) (by omega)
 simp only[yj] at hand
 have hsel:x.op=1\/x.op=14\/x.op=15\/x.op=16\/x.op=17\/x.op=18\/x.op=20\/x.op=21\/(x.op≠1/\x.op≠14/\x.op≠15/\x.op≠16/\x.op≠17/\x.op≠18/\x.op≠20/\x.op≠21):=by omega
 rcases hsel with e|e|e|e|e|e|e|e|⟨e1,e2,e3,e4,e5,e6,e7,e8⟩
 case inr.inr.inr.inr.inr.inr.inr.inr=>
  have hfn:fN x.op=false:=by simp[inR] at hop;simp[fN,inR,e1,e7,e8];omega
  rw[hfn] at hand
  simp-implicitDefEqProofs at hand
  simp-implicitDefEqProofs[e1,e2,e3,e4,e5,e6,e7,e8,hfn,hand]
 all_goals
  have hfn:fN x.op=true:=by rw[e];decide
  rw[hfn] at hand
  simp-implicitDefEqProofs at hand
  rw[e] at hand
  simp-implicitDefEqProofs[Mfn.cs,e,hwk,hwp,hws,hwl,hk,hand]
  refine(dk G _ _ _).use ?_
  simp-implicitDefEqProofs[fN,re,inR]
end
section
variable (G:ay)
def zN(p:Mins->Bool)(xs:List Mins):Int:=match xs.findIdx? p with|some i=>i|none=> -1
theorem zs{h:List AO}{f:FuncId}{caps:List AV}(xs:List Mins)(p:Mins->Bool)(hl:xs.length<=1048576)(hcap:aa h.length caps)
 (hcall:∀x∈xs,AC Tryz.prog G f (.agg (x.cs.map .p)::caps) h λr h'=>r= .ret (.p (.bool (p x)))/\h'=h):
 AC Tryz.prog G bP [.p (cT xs),.fn (.func f) caps] h λr h'=>r= .ret (.p (.int .i64 (zN p xs)))/\h'=h:=by
 refine AC.enterB dt λhb=>AC.enter dt ?_
 simp-implicitDefEqProofs[du,List.replicate,cT]
 refine az (λi:Nat=>slots 19 [(0,.p (cT xs)),(1,.fn (.func f) caps),(7,.p (.int .i64 xs.length)),(8,.p (.int .i64 i))]) (λ_=>h) (λi=>i<=xs.length/\∀x∈xs.take i,p x=false) (λi=>xs.length-i) 0 (by simp) (oW (by simp) hb (by simp[slots,List.replicate,below,cT,hcap])) ?_
 intro i ⟨hi,hp⟩
 simp-implicitDefEqProofs[slots,List.replicate,cT]
 refine cnd (λh1=>?_) (λh1=>?_)
 ·simp at h1
  simp-implicitDefEqProofs[List.getElem?_eq_getElem h1]
  refine(hcall _ (List.getElem_mem h1)).mono ?_
  rintro r h' ⟨rfl,rfl⟩
  simp-implicitDefEqProofs
  refine cnd (λh2=>?_) (λh2=>?_)
  ·have:xs.findIdx? p=some i:=by
    rw[List.findIdx?_eq_some_iff_getElem]
    refine⟨h1,h2,λj hj=>?_⟩
    have:=hp (xs[j]) (by rw[List.mem_take_iff_getElem];exact⟨j,by omega,rfl⟩)
    simp[this]
   simp[zN,this]
  ·refine⟨i+1,⟨by omega,λx hx=>?_⟩,by omega,oW (by simp) hb ?_⟩
   ·rw[aq h1] at hx
    rcases List.mem_append.1 hx with hx|hx
    ·exact hp x hx
    ·rw[List.mem_singleton.1 hx];exact h2
   ·simp[below,hcap,w1 (i:=i) (by omega)]
 ·simp at h1
  rw[List.take_of_length_le h1] at hp
  have:xs.findIdx? p=none:=by rw[List.findIdx?_eq_none_iff];exact hp
  simp[zN,this]
theorem tG{h:List AO}{f:FuncId}{caps:List AV}(xs:List Mins)(p:Mins->Bool)(hl:xs.length<=1048576)(hcap:aa h.length caps)
 (hcall:∀x∈xs,AC Tryz.prog G f (.agg (x.cs.map .p)::caps) h λr h'=>r= .ret (.p (.bool (p x)))/\h'=h):
 AC Tryz.prog G aX [.p (cT xs),.fn (.func f) caps] h λr h'=>r= .ret (.p (.bool (xs.any p)))/\h'=h:=by
 refine AC.enter fD ?_
 simp-implicitDefEqProofs[cy,List.replicate]
 refine(zs G xs p hl hcap hcall).mono ?_
 rintro r h' ⟨rfl,rfl⟩
 simp-implicitDefEqProofs
 rw[Bool.eq_iff_iff]
 cases h1:xs.findIdx? p with
 |none=>
  have h2:=h1
  rw[List.findIdx?_eq_none_iff] at h2
  simp[zN,h1]
  intro x hx;simpa using h2 x hx
 |some i=>
  rw[List.findIdx?_eq_some_iff_getElem] at h1
  obtain⟨h2,h3,_⟩:=h1
  have h1:xs.findIdx? p=some i:=by rw[List.findIdx?_eq_some_iff_getElem];exact⟨h2,h3,by assumption⟩
  simp[zN,h1]
  exact⟨_,List.getElem_mem h2,h3⟩
theorem aY(op:Int):VF Tryz.prog G cx [.p (.int .i64 op)] (.p (.bool (op==20||op==21))):=by
 refine AC.enter ut ?_
 simp-implicitDefEqProofs[mO,List.replicate]
 by_cases h:op=20
 ·simp-implicitDefEqProofs[h]
 ·simp-implicitDefEqProofs[h]
  rw[Bool.eq_iff_iff];simp
  exact λe=>(h e).elim
variable (hG:G bX=some pvForms)
include hG
theorem uQ(fs:List Mfn)(k:Nat)(f:Mfn)(x:Mins)(hk:fs[k]?=some f)(hk2:k<=1048576)(hl:f.ins.length<=1048576)(hp:inR f.params 0 3=true)(hs:inR f.slots 0 64=true)
 {h:List AO}(h0:h[0]?=some (.row 1 [[.p (dQ fs)]]))(h1:h[1]?=some (.row 1 [[.p (.int .i64 k)]])):
 AC Tryz.prog G db [.agg (x.cs.map .p),.ptr 0 1 0 0,.ptr 1 1 0 0] h λr h'=>r= .ret (.p (.bool (!gB f.params f.slots f.ins.length k x)))/\h'=h:=by
 refine AC.trim (AC.enter nu ?_) (by simp)
 have a0:(h++[AO.row 5 [List.map AV.p x.cs]])[0]?=some (.row 1 [[.p (dQ fs)]]):=by
  rw[List.getElem?_append_left (List.getElem?_eq_some_iff.1 h0).1];exact h0
 have a1:(h++[AO.row 5 [List.map AV.p x.cs]])[1]?=some (.row 1 [[.p (.int .i64 k)]]):=by
  rw[List.getElem?_append_left (List.getElem?_eq_some_iff.1 h1).1];exact h1
 have b0:(h++[AO.row 5 [List.map AV.p x.cs]])[0]'(by simp)=(.row 1 [[.p (dQ fs)]]):=by
  rw[List.getElem?_eq_getElem (by simp)] at a0;exact Option.some.inj a0
 simp-implicitDefEqProofs[iM,List.replicate,a0,a1,b0]
 refine(Fi G hG fs k f x hk hk2 hl hp hs).use ?_
 simp-implicitDefEqProofs
theorem zb(fs:List Mfn)(hb:szF fs<=1048576):VF Tryz.prog G fV [.agg [.p (dQ fs)]] (.p (.bool (bF fs))):=by
 have hsz:szF fs=fs.length+(fs.map (·.ins.length)).sum:=rfl
 refine AC.enter pM ?_
 simp-implicitDefEqProofs[jM,List.replicate]
 simp-implicitDefEqProofs[dQ]
 refine(dk G _ _ _).use ?_
 simp-implicitDefEqProofs
 refine cnd (λh=>?_) (λh=>?_)
 ·simp at h;simp[bF,h]
 simp at h
 refine az (λi:Nat=>slots 63 [(1,.ptr 0 1 0 0),(3,.p (.int .i64 (szT fs i))),(13,.p (dQ fs)),(14,.p (.int .i64 fs.length)),(15,.p (.int .i64 i))]) (λ_=>[.row 1 [[.p (dQ fs)]]])
  (λi=>i<=fs.length/\∀j f,j<i->fs[j]?=some f->gm j f=true) (λi=>fs.length-i) 0 (by simp) (aQ (by simp) (by simp[okO,dQ]) (by simp[slots,List.replicate,below,dQ])) ?_
 intro i ⟨hi,hok⟩
 simp-implicitDefEqProofs[slots,List.replicate]
 refine cnd (λh1=>?_) (λh1=>?_)
 ·simp at h1
  have hx:=zL h1
  have hx2:=Ao (fs:=fs) (i:=i+1)
  have hgi:=List.getElem?_eq_getElem h1
  have hw:IntKind.i64.wrap ((szT fs i:Int)+(fs[i].ins.length:Int))=((szT fs (i+1):Nat):Int):=by rw[ab (by omega) (by omega),hx];omega
  have hfl:(dQ fs)= .lst 3 (fs.map Mfn.cs):=rfl
  simp-implicitDefEqProofs[hgi,hfl]
  simp-implicitDefEqProofs[Mfn.cs,hw]
  refine(dk G _ _ _).use ?_
  by_cases hp:inR fs[i].params 0 3=true
  rotate_left
  ·simp-implicitDefEqProofs[hp]
   exact(fz hgi (by simp[gm,hp])).symm▸rfl
  simp-implicitDefEqProofs[hp]
  refine(dk G _ _ _).use ?_
  by_cases hs:inR fs[i].slots 0 64=true
  rotate_left
  ·simp-implicitDefEqProofs[hs]
   exact(fz hgi (by simp[gm,hs])).symm▸rfl
  by_cases h0:fs[i].ins=[]
  ·simp-implicitDefEqProofs[hs,h0]
   exact(fz hgi (by simp[gm,h0,iq])).symm▸rfl
  have hpos:0<fs[i].ins.length:=List.length_pos_iff.2 h0
  have hwl:IntKind.i64.wrap ((fs[i].ins.length:Int)-1)=((fs[i].ins.length-1:Nat):Int):=by rw[ab (by omega) (by omega)];omega
  have hgl:=List.getElem?_eq_getElem (l:=fs[i].ins) (i:=fs[i].ins.length-1) (by omega)
  have hlo:=tv hpos
  simp-implicitDefEqProofs[hs,h0,hwl,hgl,hpos,Mins.cs]
  have hend:iq fs[i].ins=true->AC Tryz.prog G aX [.p (cT fs[i].ins),.fn (.func db) [.ptr 0 1 0 0,.ptr 1 1 0 0]] [.row 1 [[.p (dQ fs)]],.row 1 [[.p (.int .i64 i)]],.row 3 [[.p (.int .i64 fs[i].params),.p (.int .i64 fs[i].slots),.p (cT fs[i].ins)]]]
   λr h'=>r= .ret (.p (.bool (fs[i].ins.any λx=> !gB fs[i].params fs[i].slots fs[i].ins.length i x)))/\h'=[.row 1 [[.p (dQ fs)]],.row 1 [[.p (.int .i64 i)]],.row 3 [[.p (.int .i64 fs[i].params),.p (.int .i64 fs[i].slots),.p (cT fs[i].ins)]]]:=λ_=>
   tG G fs[i].ins _ (by omega) (by simp[below]) λx hx=>uQ G hG fs i fs[i] x hgi (by omega) (by omega) hp hs rfl rfl
  have hrest:iq fs[i].ins=true->(fs[i].ins.any λx=> !gB fs[i].params fs[i].slots fs[i].ins.length i x)=false->∀j f,j<i+1->fs[j]?=some f->gm j f=true:=λhl ha j f hj e=>by
   rcases Nat.lt_or_ge j i with hji|hji
   ·exact hok j f hji e
   ·obtain rfl:j=i:=by omega
    rw[hgi] at e;cases e
    simp only[gm,hp,hs,hl,Bool.true_and,List.all_eq_true]
    simp at ha
    exact ha
  have hbadm:(fs[i].ins.any λx=> !gB fs[i].params fs[i].slots fs[i].ins.length i x)=true->bF fs=false:=λha=>by
   refine fz hgi ?_
   simp at ha
   obtain⟨x,h1,h2⟩:=ha
   have:fs[i].ins.all (gB fs[i].params fs[i].slots fs[i].ins.length i)=false:=by rw[List.all_eq_false];exact⟨x,h1,by simp[h2]⟩
   simp[gm,this]
  by_cases e20:fs[i].ins[fs[i].ins.length-1].op=20
  ·have hl:iq fs[i].ins=true:=by rw[hlo];simp[e20]
   simp-implicitDefEqProofs[e20]
   refine(hend hl).mono ?_
   rintro r h' ⟨rfl,rfl⟩
   simp-implicitDefEqProofs
   refine cnd (λh5=>?_) (λh5=>?_)
   ·exact(hbadm h5).symm▸rfl
   ·refine⟨i+1,⟨h1,hrest hl h5⟩,by omega,pF (n:=1) (by simp) (ss rfl rfl (by simp[dQ])) ?_⟩
    simp[below,w1 (i:=i) (by omega),dQ]
  ·simp-implicitDefEqProofs[e20]
   refine cnd (λh5=>?_) (λh5=>?_)
   ·simp at h5
    exact(fz hgi (by simp[gm,hlo,e20,h5])).symm▸rfl
   ·simp at h5
    have hl:iq fs[i].ins=true:=by rw[hlo];simp[h5]
    refine(hend hl).mono ?_
    rintro r h' ⟨rfl,rfl⟩
    simp-implicitDefEqProofs
    refine cnd (λh6=>?_) (λh6=>?_)
    ·exact(hbadm h6).symm▸rfl
    ·refine⟨i+1,⟨h1,hrest hl h6⟩,by omega,pF (n:=1) (by simp) (ss rfl rfl (by simp[dQ])) ?_⟩
     simp[below,w1 (i:=i) (by omega),dQ]
 ·simp at h1
  have hall:oY 0 fs=true:=pk λj f e=>by
   rw[Int.zero_add];exact hok j f (by have:=(List.getElem?_eq_some_iff.1 e).1;omega) e
  have e:jg fs=szT fs i:=by rw[jg,BJ h1]
  simp[bF,hall,h,e]
  omega
end
section
def jmp(x:Mins):Bool:=x.op==20||x.op==21
def u8(n:Int):Int:=IntKind.u8.wrap n
theorem pI(n:Int):u8 n=n%256:=by simp[u8,IntKind.wrap,IntKind.bits,IntKind.signed]
def aM(x:Mins):List Int:=
 if x.op==1||inR x.op 15 18 then[u8 x.op,u8 x.a,u8 x.n] else if inR x.op 3 9 then[u8 x.op,u8 (x.a+8*x.b),u8 x.c]
 else if x.op==2||inR x.op 10 12 then[u8 x.op,u8 (x.a+8*x.b)] else if x.op==14 then[u8 x.op,u8 x.n] else[u8 x.op,u8 x.a]
theorem eV(x:Mins):(aM x).length=2\/(aM x).length=3:=by
 unfold aM;repeat' split
 all_goals simp
def aK(x:Mins)(long:Bool):Nat:=if jmp x then 2+(if long then 1 else 0)+(if x.op=21 then 1 else 0) else(aM x).length
theorem lq(x:Mins)(b:Bool):aK x b<=4:=by
 unfold aK;split
 ·split<;>split<;>omega
 ·rcases eV x with h|h<;>omega
def plc(ins:List Mins)(L:List Bool)(i:Nat):Nat:=((List.zipWith aK ins L).take i).sum
theorem tg(ins:List Mins)(L:List Bool):plc ins L 0=0:=by simp[plc]
theorem oD{ins:List Mins}{L:List Bool}{i:Nat}(h1:i<ins.length)(h2:i<L.length):plc ins L (i+1)=plc ins L i+aK ins[i] L[i]:=by
 have h:i<(List.zipWith aK ins L).length:=by simp;omega
 rw[plc,aq h,List.sum_append]
 simp[plc]
theorem js{ins:List Mins}{L:List Bool}(hl:L.length=ins.length):∀{i:Nat},plc ins L i<=4*ins.length:=by
 have key:∀i,i<=ins.length->plc ins L i<=4*i:=by
  intro i
  induction i with
  |zero=>intro _;rw[tg];omega
  |succ i ih=>
   intro h
   rw[oD (by omega) (by omega)]
   have:=ih (by omega)
   have:=lq ins[i] L[i]
   omega
 intro i
 rcases Nat.lt_or_ge i ins.length with h|h
 ·have:=key i (by omega);omega
 ·have h1:plc ins L i=plc ins L ins.length:=by
   have hz:(List.zipWith aK ins L).length=ins.length:=by simp;omega
   simp only[plc]
   rw[List.take_of_length_le (by omega),List.take_of_length_le (by omega)]
  have:=key ins.length (Nat.le_refl _)
  omega
def ib(ins:List Mins)(L:List Bool)(i:Nat):Bool:=match ins[i]? with
 |some x=>jmp x&& !inR ((plc ins L x.n.toNat:Int)-plc ins L i-aK x false) (-128) 127
 |none=>false
def bB(ins:List Mins)(L:List Bool):List Bool:=L.mapIdx λi b=>b||ib ins L i
theorem di(ins:List Mins)(L:List Bool):(bB ins L).length=L.length:=by simp[bB]
def fU(L:List Bool):Nat:=L.countP (!·)
theorem tm:∀(L:List Bool) (g:Nat->Bool),(L.mapIdx λi b=>b||g i)=L\/fU (L.mapIdx λi b=>b||g i)<fU L
 |[],g=> .inl rfl
 |b::L,g=>by
  have ih:=tm L λi=>g (i+1)
  have hle:fU (L.mapIdx λi b=>b||g (i+1))<=fU L:=by
   rcases ih with h|h
   ·rw[h];exact Nat.le_refl _
   ·omega
  simp only[List.mapIdx_cons]
  cases b with
  |true=>
   rcases ih with h|h
   ·left;simp at h⊢;exact h
   ·right;simp[fU] at h⊢;exact h
  |false=>
   cases hg:g 0 with
   |true=>right;simp[fU] at hle⊢;omega
   |false=>
    rcases ih with h|h
    ·left;simp at h⊢;exact h
    ·right;simp[fU] at h⊢;omega
theorem gS(ins:List Mins)(L:List Bool)(h:bB ins L≠L):fU (bB ins L)<fU L:=by
 rcases tm L (ib ins L) with h1|h1
 ·exact(h h1).elim
 ·exact h1
def tQ(ins:List Mins)(L:List Bool):List Bool:=if bB ins L=L then L else tQ ins (bB ins L)
termination_by fU L
decreasing_by exact gS _ _ (by assumption)
theorem uU{ins:List Mins}{L:List Bool}(h:bB ins L=L):tQ ins L=L:=by rw[tQ,if_pos h]
theorem vf{ins:List Mins}{L:List Bool}(h:bB ins L≠L):tQ ins L=tQ ins (bB ins L):=by
 conv=>lhs;rw[tQ,if_neg h]
theorem yq(ins:List Mins)(L:List Bool):(tQ ins L).length=L.length:=by
 rw[tQ];split
 ·rfl
 ·rw[yq,di]
termination_by fU L
decreasing_by exact gS _ _ (by assumption)
def bA(ins:List Mins):List Bool:=tQ ins (List.replicate ins.length false)
theorem fb(ins:List Mins):(bA ins).length=ins.length:=by simp[bA,yq]
def ic(ins:List Mins)(L:List Bool)(i:Nat):List Int:=match ins[i]?,L[i]? with
 |some x,some b=>if !jmp x then aM x else
   [u8 (x.op+(if b then 128 else 0))]++(if x.op=21 then[u8 x.a] else[])++
    (if b then[u8 (plc ins L x.n.toNat%256:Nat),u8 (plc ins L x.n.toNat/256:Nat)] else[u8 ((plc ins L x.n.toNat:Int)-plc ins L i-aK x false)])
 |_,_=>[]
def kW(ins:List Mins)(L:List Bool)(i:Nat):List Int:=((List.range i).map (ic ins L)).flatten
theorem gX(ins:List Mins)(L:List Bool)(i:Nat):kW ins L (i+1)=kW ins L i++ic ins L i:=by simp[kW,List.range_succ]
def gi(ins:List Mins):Prop:=ins.length<=2000/\∀x∈ins,inR x.a 0 7=true/\inR x.b 0 7=true/\inR x.op 1 22=true/\(jmp x=true->inR x.n 0 (ins.length-1)=true)
variable (G:ay)
theorem fJ(x:Mins):VF Tryz.prog G bz [.agg (x.cs.map .p)] (.p (.bool (jmp x))):=by
 refine AC.enter rL ?_
 simp-implicitDefEqProofs[kF,List.replicate,Mins.cs]
 by_cases h:x.op=20
 ·simp-implicitDefEqProofs[h,jmp]
 ·simp-implicitDefEqProofs[h,jmp]
  rw[Bool.eq_iff_iff];simp
  exact λe=>(h e).elim
theorem jG(b:Bool):VF Tryz.prog G cF [.p (.bool b)] (.p (.int .i64 (if b then 1 else 0))):=by
 refine AC.enter tU ?_
 cases b<;>simp-implicitDefEqProofs[lJ,List.replicate]
theorem zT(x:Mins)(ha:inR x.a 0 7=true)(hb:inR x.b 0 7=true):AC Tryz.prog G cd [.agg (x.cs.map .p)] [] λr h=>r= .ret (.sl 0 1 0 (aM x).length)/\h=[bN (aM x)]:=by
 have key:AC Tryz.prog G cd [.agg (x.cs.map .p)] [] λr h=>r= .ret (.sl 1 1 0 (aM x).length)/\∃o,h=[o,bN (aM x)]:=by
  refine AC.enter rN ?_
  simp[inR] at ha hb
  have hw1:IntKind.i64.wrap (8*x.b)=8*x.b:=ab (by omega) (by omega)
  have hw2:IntKind.i64.wrap (x.a+8*x.b)=x.a+8*x.b:=ab (by omega) (by omega)
  simp-implicitDefEqProofs[kT,List.replicate]
  simp-implicitDefEqProofs[Mins.cs]
  by_cases h1:x.op=1
  ·simp-implicitDefEqProofs[h1,aM,bN,u8]
  simp-implicitDefEqProofs[h1]
  refine(fP G _ _ _).use ?_
  by_cases h2:inR x.op 15 18=true
  ·simp-implicitDefEqProofs[h2,aM,bN,u8]
  simp-implicitDefEqProofs[h2]
  refine(fP G _ _ _).use ?_
  by_cases h3:inR x.op 3 9=true
  ·simp-implicitDefEqProofs[h1,h2,h3,aM,bN,u8,hw1,hw2]
  simp-implicitDefEqProofs[h3]
  by_cases h4:x.op=2
  ·simp-implicitDefEqProofs[h4,hw1,hw2,aM,bN,u8,inR]
  simp-implicitDefEqProofs[h4]
  refine(fP G _ _ _).use ?_
  by_cases h5:inR x.op 10 12=true
  ·simp-implicitDefEqProofs[h1,h2,h3,h4,h5,aM,bN,u8,hw1,hw2]
  simp-implicitDefEqProofs[h5]
  by_cases h6:x.op=14
  ·simp-implicitDefEqProofs[h6,aM,bN,u8,inR]
  ·simp-implicitDefEqProofs[h1,h2,h3,h4,h5,h6,aM,bN,u8]
 refine key.gc (λt v h ⟨e,_⟩=>by cases e) λv h ⟨e1,o,e2⟩=>?_
 cases e1;subst e2
 exact⟨.sl 0 1 0 (aM x).length,[bN (aM x)],⟨[1],by simp,by simp,by simp,by simp[below],by simp[ren],by simp,⟨by simp[bN],by simp[bN,aF,ren]⟩,trivial⟩,rfl,rfl⟩
theorem mr{l:List Int}{id:Nat}{h:List AO}(e:h[id]?=some (bN l)):View h (.sl id 1 0 l.length) (aN l):=by
 have:=en (h:=h) (id:=id) (sz:=1) (n:=l.length) (ls:=l.map λn=>[.int .u8 n]) (by rw[e,bN];simp) (by simp) (by simp)
 exact this
theorem te(x:Mins)(ha:inR x.a 0 7=true)(hb:inR x.b 0 7=true):VF Tryz.prog G cd [.agg (x.cs.map .p)] (.p (aN (aM x))):=
 AC.freeze (zT G x ha hb) (.one (mr rfl) .nil)
theorem jU(x:Mins)(b:Bool)(ha:inR x.a 0 7=true)(hb:inR x.b 0 7=true):VF Tryz.prog G cI [.agg (x.cs.map .p),.p (.bool b)] (.p (.int .i64 (aK x b))):=by
 refine AC.enter tx ?_
 simp-implicitDefEqProofs[lM,List.replicate]
 refine(fJ G x).use ?_
 by_cases hj:jmp x=true
 ·simp-implicitDefEqProofs[hj,Mins.cs]
  refine(jG G b).use ?_
  simp-implicitDefEqProofs[]
  refine(jG G _).use ?_
  simp-implicitDefEqProofs[aK,hj]
  by_cases h21:x.op=21<;>cases b<;>simp[h21,IntKind.wrap,IntKind.bits,IntKind.signed]
 ·simp-implicitDefEqProofs[hj]
  refine(te G x ha hb).use ?_
  simp-implicitDefEqProofs[aK,hj,aN]
end
section
def iH(l:List Nat):PV:= .lst 1 (l.map λ(n:Nat)=>[.int .i64 (n:Int)])
def aw(l:List Nat):AO:= .row 1 (l.map λ(n:Nat)=>[.p (.int .i64 (n:Int))])
def lO(l:List Bool):PV:= .lst 1 (l.map λb=>[.bool b])
def aE(l:List Bool):AO:= .row 1 (l.map λb=>[.p (.bool b)])
def cN(ins:List Mins)(L:List Bool)(k:Nat):List Nat:=(List.range k).map (plc ins L)
theorem ik(ins:List Mins)(L:List Bool)(k:Nat):(cN ins L k).length=k:=by simp[cN]
theorem vv(ins:List Mins)(L:List Bool)(k:Nat):cN ins L (k+1)=cN ins L k++[plc ins L k]:=by simp[cN,List.range_succ]
theorem fx{ins:List Mins}{L:List Bool}{k i:Nat}(h:i<k):(cN ins L k)[i]?=some (plc ins L i):=by simp[cN,h]
variable (G:ay)
theorem rF(f:Mfn)(L:List Bool)(hl:L.length=f.ins.length)(hf:gi f.ins):
 AC Tryz.prog G bt [.agg (f.cs.map .p),.p (lO L)] [] λr h=>r= .ret (.tup [.sl 0 1 0 f.ins.length,.p (.int .i64 (plc f.ins L f.ins.length))])/\h=[aw (cN f.ins L f.ins.length)]:=by
 obtain⟨hn,hfi⟩:=hf
 have key:AC Tryz.prog G bt [.agg (f.cs.map .p),.p (lO L)] [] λr h=>r= .ret (.tup [.sl 1 1 0 f.ins.length,.p (.int .i64 (plc f.ins L f.ins.length))])/\∃o,h=[o,aw (cN f.ins L f.ins.length)]:=by
  refine AC.enter py ?_
  simp-implicitDefEqProofs[jS,List.replicate,lO]
  refine az (λi:Nat=>slots 35 [(1,.p (lO L)),(2,.ptr 0 3 0 0),(6,.sl 1 1 0 i),(7,.p (.int .i64 (plc f.ins L i))),(8,.p (.int .i64 i))]) (λi=>[.row 3 [f.cs.map .p],aw (cN f.ins L i)])
   (λi=>i<=f.ins.length) (λi=>f.ins.length-i) 0 (by simp) ?_ ?_
  ·refine aQ ?_ ?_ ?_
   ·simp
   ·simp[okO,Mfn.cs]
   simp[slots,List.replicate,below,lO,tg]
  ·intro i hi
   simp-implicitDefEqProofs[slots,List.replicate,lO]
   simp-implicitDefEqProofs[Mfn.cs]
   refine cnd (λh1=>?_) (λh1=>?_)
   ·simp at h1
    have h2:i<L.length:=by omega
    obtain⟨q1,q2,q3,q4⟩:=hfi _ (List.getElem_mem h1)
    have hle:=js (ins:=f.ins) (L:=L) hl (i:=i)
    have hsz:=lq f.ins[i] L[i]
    have hw:IntKind.i64.wrap ((plc f.ins L i:Int)+(aK f.ins[i] L[i]:Int))=((plc f.ins L (i+1):Nat):Int):=by rw[ab (by omega) (by omega),oD h1 h2];omega
    have hg1:=List.getElem?_eq_getElem h1
    have hg2:=List.getElem?_eq_getElem h2
    have hin:aw (cN f.ins L i)= .row 1 ((cN f.ins L i).map λ(n:Nat)=>[.p (.int .i64 (n:Int))]):=rfl
    have hlen:=ik f.ins L i
    simp-implicitDefEqProofs[hin,hlen,hg1,hg2]
    refine⟨by omega,?_⟩
    have e:List.take i (List.map (λ(n:Nat)=>[AV.p (.int .i64 (n:Int))]) (cN f.ins L i))++[[AV.p (.int .i64 ((plc f.ins L i:Nat):Int))]]=(cN f.ins L (i+1)).map λ(n:Nat)=>[AV.p (.int .i64 (n:Int))]:=by
     rw[List.take_of_length_le (by simp[hlen]),vv,List.map_append];rfl
    rw[e]
    refine(jU G f.ins[i] L[i] q1 q2).use ?_
    simp-implicitDefEqProofs[hw]
    refine⟨i+1,h1,by omega,vI [0,3] rfl (by simp) (af rfl (by simp) (af rfl (by simp) aj)) ?_⟩
    simp[below,ren,w1 (i:=i) (by omega)]
   ·simp at h1
    have:i=f.ins.length:=by omega
    subst this
    simp-implicitDefEqProofs
 refine key.gc (λt v h ⟨e,_⟩=>by cases e) λv h ⟨e1,o,e2⟩=>?_
 cases e1;subst e2
 exact⟨.tup [.sl 0 1 0 f.ins.length,.p (.int .i64 (plc f.ins L f.ins.length))],[aw (cN f.ins L f.ins.length)],⟨[1],by simp,by simp,by simp,by simp[below],by simp[ren,aF],by simp,⟨by simp[aw],by simp[aw,aF,ren]⟩,trivial⟩,rfl,rfl⟩
end
section
theorem tA{l:List Bool}{id:Nat}{h:List AO}(e:h[id]?=some (aE l)):View h (.sl id 1 0 l.length) (lO l):=by
 have:=en (h:=h) (id:=id) (sz:=1) (n:=l.length) (ls:=l.map λb=>[.bool b]) (by rw[e,aE];simp) (by simp) (λx hx=>by obtain⟨b,_,rfl⟩:=List.mem_map.1 hx;rfl)
 exact this
theorem nL{ins:List Mins}{L:List Bool}{i:Nat}(h:i<L.length):(bB ins L)[i]'(by rw[di];exact h)=(L[i]||ib ins L i):=by simp[bB]
def bC(ins:List Mins)(L:List Bool)(i:Nat):List Bool:=(bB ins L).take i++L.drop i
theorem nq{ins:List Mins}{L:List Bool}{i:Nat}(h:i<=L.length):(bC ins L i).length=L.length:=by simp[bC,di];omega
theorem nA{ins:List Mins}{L:List Bool}{i:Nat}(h:i<L.length):(bC ins L i)[i]?=some L[i]:=by
 rw[bC,List.getElem?_append_right (by simp[di];omega),List.length_take,di,Nat.min_eq_left (by omega),Nat.sub_self,List.drop_eq_getElem_cons h];rfl
theorem nC{ins:List Mins}{L:List Bool}{i:Nat}(h:i<L.length):(bC ins L i).set i (L[i]||ib ins L i)=bC ins L (i+1):=by
 have hl:((bB ins L).take i).length=i:=by simp[di];omega
 rw[bC,List.set_append_right _ _ (by omega),hl,Nat.sub_self,List.drop_eq_getElem_cons h,List.set_cons_zero,bC,aq (by rw[di];exact h),nL h]
 simp
theorem fa{ins:List Mins}{L:List Bool}{i:Nat}(h:i<L.length)(hs:(L[i]||ib ins L i)=L[i]):bC ins L i=bC ins L (i+1):=by
 rw[←nC h,hs]
 have h2:i<(bC ins L i).length:=by rw[nq (by omega)];exact h
 have h3:=nA (ins:=ins) h
 rw[List.getElem?_eq_getElem h2] at h3
 conv=>lhs;rw[←List.set_getElem_self h2]
 rw[Option.some.inj h3]
variable (G:ay)
theorem Cv(f:Mfn)(hf:gi f.ins):AC Tryz.prog G bU [.agg (f.cs.map .p)] [] λr h=>r= .ret (.sl 0 1 0 f.ins.length)/\h=[aE (bA f.ins)]:=by
 have hf':=hf
 obtain⟨hn,hfi⟩:=hf'
 have key:AC Tryz.prog G bU [.agg (f.cs.map .p)] [] λr h=>r= .ret (.sl 1 1 0 f.ins.length)/\∃o,h=[o,aE (bA f.ins)]:=by
  refine AC.enter sF ?_
  simp-implicitDefEqProofs[-Prod.exists,mh,List.replicate]
  simp-implicitDefEqProofs[-Prod.exists,Mfn.cs]
  refine⟨by omega,?_⟩
  refine az (λa:Bool × List Bool=>slots 73 [(1,.ptr 0 3 0 0),(3,.sl 1 1 0 f.ins.length),(4,.p (.bool a.1))]) (λa=>[.row 3 [f.cs.map .p],aE a.2])
   (λa=>a.2.length=f.ins.length/\(if a.1 then tQ f.ins a.2=bA f.ins else a.2=bA f.ins)) (λa=>2*fU a.2+(if a.1 then 1 else 0)) (true,List.replicate f.ins.length false) (by simp[bA]) ?_ ?_
  ·have e:AO.row 1 (List.replicate f.ins.length [AV.p (PV.bool false)])=aE (List.replicate f.ins.length false):=by simp[aE]
   rw[e]
   refine aQ ?_ ?_ ?_
   ·simp
   ·simp[-Bool.exists_bool,-Bool.forall_bool,okO,aE]
   simp[slots,List.replicate,below]
  ·rintro⟨again,L⟩ ⟨hL,hfix⟩
   simp only at hL hfix
   simp-implicitDefEqProofs[-Prod.exists,slots,List.replicate]
   refine cnd (λh1=>?_) (λh1=>?_)
   ·subst h1
    simp only[if_true] at hfix
    simp-implicitDefEqProofs[-Prod.exists,Mfn.cs]
    refine(AC.lend (rF G f L hL hf) (.keep (by simp[Mfn.cs]) (.one (by rw[←hL];exact tA rfl) .nil)) rfl ?_).mono ?_
    ·simp[cleanO,aw,cY,clean]
    rintro r h ⟨rfl,rfl⟩
    have hbo:aE L= .row 1 (L.map λb=>[.p (.bool b)]):=rfl
    have hsh:aT 2 (aw (cN f.ins L f.ins.length))=aw (cN f.ins L f.ins.length):=by simp[aT,aw,bi,aU]
    have hsL:List.take f.ins.length L=L:=List.take_of_length_le (by omega)
    have htk:List.take f.ins.length (L.map λb=>[AV.p (PV.bool b)])=L.map λb=>[AV.p (PV.bool b)]:=List.take_of_length_le (by simp[hL])
    simp-implicitDefEqProofs[-Prod.exists,aU,bi,hsh,hbo,hL,htk]
    refine⟨by omega,?_⟩
    have e0:AO.row 1 (L.map λb=>[AV.p (.bool b)])=aE (bC f.ins L 0):=by simp[aE,bC]
    have hin:aw (cN f.ins L f.ins.length)= .row 1 ((cN f.ins L f.ins.length).map λ(n:Nat)=>[.p (.int .i64 (n:Int))]):=rfl
    have hplen:=ik f.ins L f.ins.length
    have hrl:=di f.ins L
    refine az (λa:Nat × Bool=>slots 73 [(1,.ptr 0 3 0 0),(3,.sl 1 1 0 f.ins.length),(4,.p (.bool a.2)),(5,.sl 2 1 0 f.ins.length),(7,.sl 4 1 0 f.ins.length),(8,.p (.int .i64 a.1))])
     (λa=>[.row 3 [f.cs.map .p],aE L,aw (cN f.ins L f.ins.length),.dead,aE (bC f.ins L a.1)])
     (λa=>a.1<=f.ins.length/\(a.2=false->(bB f.ins L).take a.1=L.take a.1)/\(a.2=true->bB f.ins L≠L)) (λa=>f.ins.length-a.1) (0,false) (by simp) ?_ ?_
    ·rw[←e0]
     refine aQ ?_ ?_ ?_
     ·simp
     ·simp[-Bool.exists_bool,-Bool.forall_bool,okO,Mfn.cs,aE,aw]
     simp[slots,List.replicate,below]
    ·rintro⟨i,c⟩ ⟨hi,hc0,hc1⟩
     simp only at hi hc0 hc1
     simp-implicitDefEqProofs[-Prod.exists,slots,List.replicate]
     simp-implicitDefEqProofs[-Prod.exists,Mfn.cs]
     refine cnd (λh1=>?_) (λh1=>?_)
     ·simp at h1
      have h2:i<L.length:=by omega
      obtain⟨q1,q2,q3,q4⟩:=hfi _ (List.getElem_mem h1)
      have hg1:=List.getElem?_eq_getElem h1
      have hg2:=List.getElem?_eq_getElem h2
      have hrg:=nL (ins:=f.ins) h2
      have hstay:(L[i]||ib f.ins L i)=L[i]->∃a:Nat × Bool,a=(i+1,c)/\(a.1<=f.ins.length/\(a.2=false->(bB f.ins L).take a.1=L.take a.1)/\(a.2=true->bB f.ins L≠L)):=λhs=>by
       refine⟨(i+1,c),rfl,h1,λhc=>?_,hc1⟩
       rw[aq (by rw[hrl];exact h2),aq h2,hc0 hc,hrg,hs]
      simp-implicitDefEqProofs[-Prod.exists,hg1]
      refine(fJ G f.ins[i]).use ?_
      by_cases hj:jmp f.ins[i]=true
      ·simp-implicitDefEqProofs[-Prod.exists,hj,hbo,hL,h1]
       refine cnd (λh3=>?_) (λh3=>?_)
       ·have hs:(L[i]||ib f.ins L i)=L[i]:=by simp[h3]
        obtain⟨a,rfl,ha⟩:=hstay hs
        refine⟨(i+1,c),ha,(by show f.ins.length-(i+1)<f.ins.length-i;omega),?_⟩
        rw[fa h2 hs]
        refine aQ ?_ ?_ ?_
        ·simp
        ·simp[-Bool.exists_bool,-Bool.forall_bool,okO,aE,aw]
        simp[below,w1 (i:=i) (by omega)]
       ·have q5:=q4 hj
        simp[inR] at q5
        have hnl:f.ins[i].n.toNat<f.ins.length:=by omega
        have hp1:=fx (ins:=f.ins) (L:=L) hnl
        have hp2:=fx (ins:=f.ins) (L:=L) h1
        have hle1:=js (ins:=f.ins) (L:=L) hL (i:=i)
        have hle2:=js (ins:=f.ins) (L:=L) hL (i:=f.ins[i].n.toNat)
        have hsb:=lq f.ins[i] false
        have hwd1:IntKind.i64.wrap ((plc f.ins L f.ins[i].n.toNat:Int)-(plc f.ins L i:Int))=(plc f.ins L f.ins[i].n.toNat:Int)-(plc f.ins L i:Int):=ab (by omega) (by omega)
        have hwd2:IntKind.i64.wrap ((plc f.ins L f.ins[i].n.toNat:Int)-(plc f.ins L i:Int)-(aK f.ins[i] false:Int))=(plc f.ins L f.ins[i].n.toNat:Int)-(plc f.ins L i:Int)-(aK f.ins[i] false:Int):=ab (by omega) (by omega)
        simp-implicitDefEqProofs[-Prod.exists,Mins.cs,hin,hp1,hp2,hg1]
        refine⟨by omega,?_⟩
        refine(jU G f.ins[i] false q1 q2).use ?_
        simp-implicitDefEqProofs[-Prod.exists,hg1,hp1,hp2,Mins.cs,hwd1,hwd2]
        refine(fP G _ _ _).use ?_
        simp-implicitDefEqProofs[-Prod.exists]
        have hneed:ib f.ins L i= !inR ((plc f.ins L f.ins[i].n.toNat:Int)-(plc f.ins L i:Int)-(aK f.ins[i] false:Int)) (-128) 127:=by simp[ib,hg1,hj]
        refine cnd (λh4=>?_) (λh4=>?_)
        ·simp at h4
         have hnt:ib f.ins L i=true:=by rw[hneed,h4];rfl
         have hset:=nC (ins:=f.ins) h2
         rw[h3,hnt] at hset
         simp only[Bool.false_or] at hset
         have hnlen:i<(bC f.ins L i).length:=by rw[nq (by omega)];exact h2
         have hng:=nA (ins:=f.ins) h2
         have hbn:aE (bC f.ins L i)= .row 1 ((bC f.ins L i).map λb=>[.p (.bool b)]):=rfl
         have hset2:((bC f.ins L i).map λb=>[AV.p (.bool b)]).set i [AV.p (.bool true)]=(bC f.ins L (i+1)).map λb=>[AV.p (.bool b)]:=by rw[←hset,List.map_set]
         simp-implicitDefEqProofs[-Prod.exists,hbn,h1,hng,hset2]
         refine⟨(i+1,true),⟨h1,by simp,λ_ he=>?_⟩,(by show f.ins.length-(i+1)<f.ins.length-i;omega),?_⟩
         ·have h5:=hrg
          have h6:(bB f.ins L)[i]?=some true:=by rw[List.getElem?_eq_getElem (by rw[hrl];exact h2),hrg,hnt];simp
          rw[he,hg2,h3] at h6;cases h6
         ·refine aQ ?_ ?_ ?_
          ·simp
          ·simp[-Bool.exists_bool,-Bool.forall_bool,okO,aE,aw]
          simp[below,w1 (i:=i) (by omega)]
        ·simp at h4
         have hnt:ib f.ins L i=false:=by rw[hneed,h4];rfl
         have hs:(L[i]||ib f.ins L i)=L[i]:=by simp[hnt]
         obtain⟨a,rfl,ha⟩:=hstay hs
         refine⟨(i+1,c),ha,(by show f.ins.length-(i+1)<f.ins.length-i;omega),?_⟩
         rw[fa h2 hs]
         refine aQ ?_ ?_ ?_
         ·simp
         ·simp[-Bool.exists_bool,-Bool.forall_bool,okO,aE,aw]
         simp[below,w1 (i:=i) (by omega)]
      ·simp-implicitDefEqProofs[-Prod.exists,hj]
       have hs:(L[i]||ib f.ins L i)=L[i]:=by simp[ib,hg1,hj]
       obtain⟨a,rfl,ha⟩:=hstay hs
       refine⟨(i+1,c),ha,(by show f.ins.length-(i+1)<f.ins.length-i;omega),?_⟩
       rw[fa h2 hs]
       refine aQ ?_ ?_ ?_
       ·simp
       ·simp[-Bool.exists_bool,-Bool.forall_bool,okO,aE,aw]
       simp[below,w1 (i:=i) (by omega)]
     ·simp at h1
      have hie:i=f.ins.length:=by omega
      subst hie
      have hnx:bC f.ins L f.ins.length=bB f.ins L:=by rw[bC,List.take_of_length_le (by rw[hrl];omega),List.drop_of_length_le (by omega),List.append_nil]
      rw[List.take_of_length_le (by rw[hrl];omega),List.take_of_length_le (by omega)] at hc0
      rw[hnx]
      simp-implicitDefEqProofs[-Prod.exists]
      refine⟨(c,bB f.ins L),⟨by rw[hrl];exact hL,?_⟩,?_,vI [0,4] rfl (by simp) (af rfl (by simp) (af rfl (by simp[-Bool.exists_bool,-Bool.forall_bool]) aj)) ?_⟩
      ·cases c with
       |false=>
        have:=hc0 rfl
        simp only[Bool.false_eq_true,if_false]
        rw[←hfix,uU this,this]
       |true=>simp only[if_true];rw[←hfix,vf (hc1 rfl)]
      ·cases c with
       |false=>have:=hc0 rfl;rw[this];simp
       |true=>have:=gS _ _ (hc1 rfl);simp;omega
      ·simp[below,ren]
   ·subst h1
    simp at hfix
    subst hfix
    simp-implicitDefEqProofs[-Prod.exists]
 refine key.gc (λt v h ⟨e,_⟩=>by cases e) λv h ⟨e1,o,e2⟩=>?_
 cases e1;subst e2
 exact⟨.sl 0 1 0 f.ins.length,[aE (bA f.ins)],⟨[1],by simp,by simp,by simp,by simp[below],by simp[ren],af rfl (by simp[-Bool.exists_bool,-Bool.forall_bool]) aj⟩,rfl,rfl⟩
end
end Go.Proofs.YtbnajafpkeficaaGreatDoor
namespace Go.Aw
def fc:List (Nat × AV)->Nat->AV
 |[],_=> .any
 |x::r,j=>if x.1=j then x.2 else fc r j
@[simp] theorem JV(j:Nat):fc [] j= .any:=rfl
@[simp] theorem Jw(d:Nat)(v:AV)(r:List (Nat × AV)):fc ((d,v)::r) d=v:=by simp[fc]
@[simp] theorem Iw{d j:Nat}(v:AV)(r:List (Nat × AV))(h:d≠j):fc ((d,v)::r) j=fc r j:=by simp[fc,h]
def aB(n:Nat)(l:List (Nat × AV)):List AV:=(List.range n).map (fc l)
theorem oP{n i:Nat}{l:List (Nat × AV)}(h:i<n):(aB n l)[i]?=some (fc l i):=by simp[aB,h]
@[simp] theorem JU{n j:Nat}{l:List (Nat × AV)}(h:j<n):sel (aB n l) j=fc l j:=by
 rw[←nj,List.getD_eq_getElem?_getD,oP h];rfl
@[simp] theorem IH(n d:Nat)(v:AV)(l:List (Nat × AV)):vS (aB n l) d v=aB n ((d,v)::l):=by
 rw[←vX]
 refine List.ext_getElem? λi=>?_
 rw[List.getElem?_set]
 by_cases hi:i<n
 ·rw[oP hi,oP hi]
  by_cases hd:d=i
  ·subst hd
   simp[aB,hi]
  ·simp[hd]
 ·simp only[aB,List.length_map,List.length_range]
  rw[List.getElem?_eq_none (by simp;omega),List.getElem?_eq_none (by simp;omega)]
  split
  ·rw[if_neg (by omega)]
  ·rfl
def vQ:Nat->List AV->List (Nat × AV)
 |_,[]=>[]
 |k,a::r=>(k,a)::vQ (k+1) r
@[simp] theorem JY(k:Nat):vQ k []=[]:=rfl
@[simp] theorem IU(k:Nat)(a:AV)(r:List AV):vQ k (a::r)=(k,a)::vQ (k+1) r:=rfl
theorem vl:∀(l:List AV) (k i:Nat),fc (vQ k l) i=if k<=i then(l[i-k]?).getD .any else .any
 |[],k,i=>by simp
 |a::r,k,i=>by
  simp only[vQ,fc]
  split
  ·rename_i h;subst h;simp
  ·rename_i h
   rw[vl r (k+1) i]
   by_cases hk:k<=i
   ·rw[if_pos (by omega),if_pos hk,show i-k=(i-(k+1))+1 by omega];simp
   ·rw[if_neg (by omega),if_neg hk]
theorem vb{n:Nat}{args:List AV}(h:args.length<=n):args++List.replicate (n-args.length) .any=aB n (vQ 0 args):=by
 refine List.ext_getElem? λi=>?_
 by_cases hi:i<n
 ·rw[oP hi,vl,if_pos (Nat.zero_le _),Nat.sub_zero]
  by_cases ha:i<args.length
  ·rw[List.getElem?_append_left ha,List.getElem?_eq_getElem ha];rfl
  ·rw[List.getElem?_append_right (by omega),List.getElem?_replicate,if_pos (by omega),List.getElem?_eq_none (by omega)];rfl
 ·rw[List.getElem?_eq_none (by simp;omega),List.getElem?_eq_none (by simp[aB];omega)]
theorem AC.go{P:Program}{G:ay}{f:FuncId}{F:FK}(hF:ah P f=some F){args:List AV}{h:List AO}{R:ARes->List AO->Prop}
 (H:AKW P G h.length F.ak (aB F.ntmps (vQ 0 args)) h (uy G F.res R))(hl:Nat.ble args.length F.ntmps=true:=by rfl):AC P G f args h R:=
 AC.enter hF (by rw[vb (Nat.le_of_ble_eq_true hl)];exact H)
theorem AC.goK{P:Program}{G:ay}{f:FuncId}{F:FK}(hF:ah P f=some F){K:AK}(hK:K.whole=F.ak){args:List AV}{h:List AO}{R:ARes->List AO->Prop}
 (H:AKW P G h.length K (aB F.ntmps (vQ 0 args)) h (uy G F.res R))(hl:Nat.ble args.length F.ntmps=true:=by rfl):AC P G f args h R:=
 AC.enterK hF K (λ_ h=>KOk.cuts (hK▸h)) (by rw[vb (Nat.le_of_ble_eq_true hl)];exact H)
def FgA(m:Nat)(l:List (Nat × AV)):List (Nat × AV)->Prop
 |[]=>True
 |x::r=>(below m x.2/\fc l x.1=x.2)/\FgA m l r
@[simp] theorem KB(m:Nat)(l:List (Nat × AV)):FgA m l []=True:=rfl
@[simp] theorem Jn(m:Nat)(l:List (Nat × AV))(x:Nat × AV)(r:List (Nat × AV)):FgA m l (x::r)=((below m x.2/\fc l x.1=x.2)/\FgA m l r):=rfl
def TWA(ρ:List Nat)(l:List (Nat × AV)):List (Nat × AV)->Prop
 |[]=>True
 |x::r=>(below ρ.length x.2/\ren ρ x.2=fc l x.1)/\TWA ρ l r
@[simp] theorem Ks(ρ:List Nat)(l:List (Nat × AV)):TWA ρ l []=True:=rfl
@[simp] theorem Kc(ρ:List Nat)(l:List (Nat × AV))(x:Nat × AV)(r:List (Nat × AV)):TWA ρ l (x::r)=((below ρ.length x.2/\ren ρ x.2=fc l x.1)/\TWA ρ l r):=rfl
theorem BG{m:Nat}{l:List (Nat × AV)}:∀{l1:List (Nat × AV)},FgA m l l1->∀i,fc l1 i= .any\/(below m (fc l1 i)/\fc l1 i=fc l i)
 |[],_,i=> .inl rfl
 |x::r,h,i=>by
  simp only[fc]
  split
  ·rename_i e;subst e;exact .inr ⟨h.1.1,h.1.2.symm⟩
  ·exact BG h.2 i
theorem BA{ρ:List Nat}{l:List (Nat × AV)}:∀{l1:List (Nat × AV)},TWA ρ l l1->∀i,fc l1 i= .any\/(below ρ.length (fc l1 i)/\ren ρ (fc l1 i)=fc l i)
 |[],_,i=> .inl rfl
 |x::r,h,i=>by
  simp only[fc]
  split
  ·rename_i e;subst e;exact .inr h.1
  ·exact BA h.2 i
theorem ta{m n:Nat}{l l1:List (Nat × AV)}(h:FgA m l l1):Fgt m (aB n l) (aB n l1):=by
 have key:∀r:List Nat,Fgt m (r.map (fc l)) (r.map (fc l1)):=by
  intro r
  induction r with
  |nil=>trivial
  |cons i r ih=>exact⟨BG h i,ih⟩
 exact key _
theorem vV{ρ:List Nat}{n:Nat}{l l1:List (Nat × AV)}(h:TWA ρ l l1):TW ρ (aB n l) (aB n l1):=by
 have key:∀r:List Nat,TW ρ (r.map (fc l)) (r.map (fc l1)):=by
  intro r
  induction r with
  |nil=>trivial
  |cons i r ih=>exact⟨BA h i,ih⟩
 exact key _
theorem aA{k n:Nat}{l l1:List (Nat × AV)}{h:List AO}(hk:k=0)(H:FgA 0 l l1):Wk k (aB n l) h (aB n l1) []:=Al hk (ta H)
theorem aZ{k n:Nat}{l l1:List (Nat × AV)}{h:List AO}(hk:k<=h.length)(ho:∀o∈h,okO h.length o)(H:FgA h.length l l1):Wk k (aB n l) h (aB n l1) h:=aQ hk ho (ta H)
theorem lD{k n:Nat}{l l1:List (Nat × AV)}{h:List AO}(hk:k<=h.length)(hb:HB h)(H:FgA h.length l l1):Wk k (aB n l) h (aB n l1) h:=oW hk hb (ta H)
theorem an(ρ:List Nat){k n:Nat}{l l1:List (Nat × AV)}{h h1:List AO}(hk:k=0)(nd:ρ.Nodup)(HH:HW ρ h ρ h1)(H:TWA ρ l l1):Wk k (aB n l) h (aB n l1) h1:=vI ρ hk nd HH (vV H)
structure Blk (A B:Prop):Type where
 mk::
def Ci(b:Bool)(A B:Prop)(_w:Blk A B):Prop:=Cnd b A B
@[simp high] theorem Jb(A B:Prop)(b:Bool):DH A B (.p (.bool b))=Ci b A B ⟨⟩:=rfl
@[simp high] theorem Iq(A B:Prop)(b:Bool):grd true A B (.p (.bool b))=Ci b A B ⟨⟩:=rfl
@[simp high] theorem IB(A B:Prop)(b:Bool):grd false A B (.p (.bool b))=Ci (!b) A B ⟨⟩:=rfl
@[simp] theorem Io(A B:Prop)(w:Blk A B):Ci true A B w=A:=Fy A B
@[simp] theorem Ih(A B:Prop)(w:Blk A B):Ci false A B w=B:=Db A B
theorem bf{b:Bool}{A B:Prop}{w:Blk A B}(h1:b=true->A)(h2:b=false->B):Ci b A B w:=⟨h1,h2⟩
theorem am{ρ:List Nat}{h:List AO}{i:Nat}{π:List Nat}{o:AO}{r1:List AO}(e:h[i]?=some o)(ho:okO 0 o)(hr:HW ρ h π r1):HW ρ h (i::π) (o::r1):=by
 cases o with
 |dead=>exact bW (List.getElem?_eq_some_iff.1 e).1 hr
 |row sz es=>exact af e ho hr
 |sit s p=>exact⟨(List.getElem?_eq_some_iff.1 e).1,e,hr⟩
 |mp es=>
  refine⟨(List.getElem?_eq_some_iff.1 e).1,⟨λx hx=>?_,?_⟩,hr⟩
  ·have:=ri (Nat.zero_le ρ.length) [x.2] ⟨ho x hx,trivial⟩
   exact this.1
  ·have:es.map (λx=>(x.1,ren ρ x.2))=es:=by
    rw[List.map_congr_left (g:=id) λx hx=>by
     have:=pr ρ [x.2] ⟨ho x hx,trivial⟩
     simp only[aF,List.cons.injEq,and_true] at this
     rw[this];rfl]
    simp
   rw[this];exact e
theorem cC(ρ:List Nat){k n:Nat}{l l1:List (Nat × AV)}{h h1:List AO}(hk:k<=ρ.length)(hi:∀i,i<k->ρ.getD i 0=i)(nd:ρ.Nodup)(HH:HW ρ h ρ h1)(H:TWA ρ l l1):Wk k (aB n l) h (aB n l1) h1:=
 Wk.of ρ hk hi nd (vV H) HH
theorem su(ρ:List Nat){k n:Nat}{l l1:List (Nat × AV)}{h h1:List AO}(hk:k<=ρ.length)(hi:∀i,i<k->ρ.getD i 0=i)(nd:(gP ρ h1).Nodup)(HH:HW ρ h ρ h1)(H:TWA ρ l l1):Wk k (aB n l) h (aB n l1) h1:=
 Wk.ofL ρ hk hi nd (vV H) HH
attribute [simp] mw
end Go.Aw
namespace Go.Aw
mutual
def mD:AV->Bool
 | .agg cs=>iY cs
 | .tup cs=>iY cs
 | .fn _ _=>false
 |_=>true
def iY:List AV->Bool
 |[]=>true
 |v::r=>mD v&&iY r
end
def ir:AO->Bool
 | .row _ es=>es.all iY
 | .mp es=>es.all λx=>mD x.2
 | .sit .. =>true
 | .dead=>true
theorem mm:∀{l:List AV},iY l=true->∀(j:Nat) (c:AV),l[j]?=some c->mD c=true
 |v::r,h,0,c,e=>by simp at e;subst e;simp[iY] at h;exact h.1
 |v::r,h,j+1,c,e=>by simp[iY] at h;exact mm h.2 j c (by simpa using e)
theorem sJ{W:World}{S:Nat->Prop}{φ φ':au}{n m:Nat}:∀{v:AV} {x:Value},VRel W S φ' m v x->mD v=true->VRel W S (fO n φ φ') (n+m) (aU n v) x:=by
 intro v x h
 induction h with
 |p pv x hp=>intro _;exact .p _ _ hp
 |agg cs vs hs _ ih=>
  intro hc
  simp only[mD] at hc
  simp only[aU,bn]
  refine .agg _ vs (by simp[hs]) λj c y h1 h2=>?_
  simp only[List.getElem?_map,Option.map_eq_some_iff] at h1
  obtain⟨c0,h1,rfl⟩:=h1
  exact ih j c0 y h1 h2 (mm hc j c0 h1)
 |tup cs vs hs _ ih=>
  intro hc
  simp only[mD] at hc
  simp only[aU,bn]
  refine .tup _ vs (by simp[hs]) λj c y h1 h2=>?_
  simp only[List.getElem?_map,Option.map_eq_some_iff] at h1
  obtain⟨c0,h1,rfl⟩:=h1
  exact ih j c0 y h1 h2 (mm hc j c0 h1)
 |ptr id esz i off hid=>
  intro _
  have:=VRel.ptr (W:=W) (S:=S) (φ:=fO n φ φ') (n:=n+m) (n+id) esz i off (by omega)
  rw[cS] at this;exact this
 |sl id esz off len cap ba hid hl hb hc=>
  intro _
  have:=VRel.sl (W:=W) (S:=S) (φ:=fO n φ φ') (n:=n+m) (n+id) esz off len cap ba (by omega) hl (by rw[cS];exact hb) (by rw[cS];exact hc)
  simpa[aU] using this
 |mp id hid=>
  intro _
  have:=VRel.mp (W:=W) (S:=S) (φ:=fO n φ φ') (n:=n+m) (n+id) (by omega)
  rw[cS] at this;exact this
 |it id hid=>
  intro _
  have:=VRel.it (W:=W) (S:=S) (φ:=fO n φ φ') (n:=n+m) (n+id) (by omega)
  rw[cS] at this;exact this
 |gp g off=>intro _;exact .gp g off
 |nils=>intro _;exact .nils
 |nilp=>intro _;exact .nilp
 |nilf=>intro _;exact .nilf
 |nilm=>intro _;exact .nilm
 |nili=>intro _;exact .nili
 |any x=>intro _;exact .any x
 |eptr e off b o hb hc=>intro _;exact .eptr e off b o hb hc
 |fn=>intro hc;simp[mD] at hc
 |ifc t pv x hp=>intro _;exact .ifc t pv x hp
theorem AC.lift{P:Program}{G:ay}{f:FuncId}{args:List AV}{r:AV}{h1:List AO}(H:AC P G f args [] λx h'=>x= .ret r/\h'=h1){h:List AO}(hv:aa 0 args)(hr:mD r=true)(hh:h1.all ir=true):
 AC P G f args h λx h'=>x= .ret (aU h.length r)/\h'=h++h1.map (aT h.length):=by
 refine⟨H.1,λW S φ vs hH hA=>?_⟩
 have h0:HRel G W S φ []:=⟨λid sz es e=>by simp at e,λid o e _=>by simp at e,λid id' e=>(aG e).elim,λb hb=>⟨(hH.sep b hb).1,λid e=>(aG e).elim⟩,λid hid=>by simp at hid,hH.glob⟩
 refine(H.2 W _ φ vs h0 ⟨hA.1,λj c v h1 h2=>?_⟩).mono λe W' ⟨x,S',φ',h',⟨k0,k1⟩,k2,k3,k4⟩=>?_
 ·exact sY (λb hb=>hb) (be hv j c h1) (hA.2 j _ v h1 h2)
 subst k0;subst k1
 have hout:∀b,b<W.heap.size->W'.heap[b]?=W.heap[b]?:=λb hb=>k4.out b hb λid e=>(aG e).elim
 have hlt:∀{id:Nat} {o:AO},h[id]?=some o->id<h.length:=λe=>(List.getElem?_eq_some_iff.1 e).1
 have himg:∀id,Live h' id->W.heap.size<=(φ' id).1:=λid e=>by
  rcases k4.img id e with h2|⟨id2,h2,_⟩
  ·exact h2
  ·exact(aG h2).elim
 have hφ:∀{i},i<h.length->fO h.length φ φ' i=φ i:=λhi=>by simp[fO,hi]
 have hφ':∀i,fO h.length φ φ' (h.length+i)=φ' i:=λi=>cS _ _ _ i
 have hget:∀{i o},(h++h'.map (aT h.length))[i]?=some o->(i<h.length/\h[i]?=some o)\/(∃k o',i=h.length+k/\h'[k]?=some o'/\o=aT h.length o'):=λ{i o} e=>by
  rcases Nat.lt_or_ge i h.length with hi|hi
  ·rw[List.getElem?_append_left hi] at e;exact .inl ⟨hi,e⟩
  ·rw[List.getElem?_append_right hi,List.getElem?_map,Option.map_eq_some_iff] at e
   obtain⟨o,e2,e3⟩:=e
   exact .inr ⟨_,o,by omega,e2,e3.symm⟩
 have hsl:∀{o:AO},(aT h.length o).live->o.live:=λ{o} l=>by cases o<;>exact l
 have hnew:∀b,S' b->S b\/W.heap.size<=b:=λb hb=>by
  rcases k4.newS b hb with h2|h2|⟨id,h2,_⟩
  ·exact .inl h2
  ·exact .inr h2
  ·exact(aG h2).elim
 have K:Keep W S φ h W' S' (fO h.length φ φ') (h++h'.map (aT h.length)):=
  {pure:=λb hb=>⟨(k4.pure b hb).1,hout b (hH.sep b hb).1⟩,len:=by simp,same:=λ_ hid=>hφ hid
   blk:=λid hid c t fr e=>⟨c,t,fr,by rw[←hout _ (hH.bnd id hid)];exact e,rfl⟩
   os:=k4.os,tape:=k4.tape,output:=k4.output,size:=k4.size,out:=λb hb _=>hout b hb
   img:=λid ⟨o,e,l⟩=>by
    rcases hget e with⟨hi,e'⟩|⟨k,o',rfl,e',rfl⟩
    ·exact .inr ⟨id,⟨_,e',l⟩,by rw[hφ hi]⟩
    ·rw[hφ'];exact .inl (himg _ ⟨_,e',hsl l⟩)
   newS:=λb hb=>(hnew b hb).elim .inl λh2=> .inr (.inl h2)}
 have hlen:(h++h'.map (aT h.length)).length=h.length+h'.length:=by simp
 refine⟨.ret (aU h.length r),S',fO h.length φ φ',_,⟨rfl,rfl⟩,⟨λid sz es e=>?_,λid o1 e lo=>?_,λid id' ⟨o1,e1,l1⟩ ⟨o2,e2,l2⟩ he=>?_,λb hb=>⟨(k2.sep b hb).1,λid ⟨o1,e,l1⟩ he=>?_⟩,λid hid=>?_,λg cs hg=>?_⟩,?_,K⟩
 ·rcases hget e with⟨hi,e'⟩|⟨k,o',rfl,e',eo⟩
  ·obtain⟨c,t,fr,a1,a2,a3,a4,a5⟩:=hH.obj id sz es e'
   refine⟨c,t,fr,by rw[hφ hi,hout _ (hH.bnd id hi)];exact a1,a2,a3,by rw[hφ hi];exact a4,λj u hj=>?_⟩
   obtain⟨b1,v,b2,b3⟩:=a5 j u hj
   exact⟨b1,v,by rw[hφ hi];exact b2,b3.kept K.toKept⟩
  ·obtain⟨es',rfl,rfl⟩:∃es',o'= .row sz es'/\es=es'.map (bi h.length):=by cases o'<;>cases eo;exact⟨_,rfl,rfl⟩
   obtain⟨c,t,fr,a1,a2,a3,a4,a5⟩:=k2.obj k sz es' e'
   refine⟨c,t,fr,by rw[hφ'];exact a1,a2,λe he=>?_,by rw[hφ'];simpa using a4,λj u hj=>?_⟩
   ·obtain⟨e0,he0,rfl⟩:=List.mem_map.1 he
    rw[bn];simpa using a3 e0 he0
   ·have hfl:(es'.map (bi h.length)).flatten=es'.flatten.map (aU h.length):=by
     rw[List.map_flatten];congr 1;exact List.map_congr_left λl _=>bn _ l
    rw[hfl,List.getElem?_map,Option.map_eq_some_iff] at hj
    obtain⟨u0,hj,rfl⟩:=hj
    obtain⟨b1,v,b2,b3⟩:=a5 j u0 hj
    have hcl:mD u0=true:=by
     have h3:=List.all_eq_true.1 hh _ (List.mem_of_getElem? e')
     simp only[ir] at h3
     obtain⟨l,hl,hu⟩:=List.mem_flatten.1 (List.mem_of_getElem? hj)
     have h4:=List.all_eq_true.1 h3 l hl
     obtain⟨q,hq⟩:=List.getElem?_of_mem hu
     exact mm h4 q u0 hq
    exact⟨by rw[kj];exact b1,v,by rw[hφ'];exact b2,by rw[hlen];exact sJ b3 hcl⟩
 ·rcases hget e with⟨hi,e'⟩|⟨k,o',rfl,e',eo⟩
  ·rw[hφ hi,hout _ (hH.bnd id hi)]
   exact(hH.oobj id o1 e' lo).mono λa v r=>r.kept K.toKept
  ·subst eo
   rw[hφ']
   have hq:=k2.oobj k o' e' (hsl lo)
   cases o' with
   |dead=>trivial
   |row sz es=>trivial
   |sit t pos=>exact hq
   |mp es'=>
    obtain⟨ents,clock,a1,a2,a3,a4⟩:=hq
    refine⟨ents,clock,a1,by simpa using a2,λj k a hj=>?_,a4⟩
    rw[List.getElem?_map,Option.map_eq_some_iff] at hj
    obtain⟨⟨k0,a0⟩,hj,hk⟩:=hj
    cases hk
    obtain⟨x,c1,c2,c3⟩:=a3 j _ _ hj
    have hcl:mD a0=true:=by
     have h3:=List.all_eq_true.1 hh _ (List.mem_of_getElem? e')
     simp only[ir] at h3
     exact List.all_eq_true.1 h3 _ (List.mem_of_getElem? hj)
    exact⟨x,c1,c2,by rw[hlen];exact sJ c3 hcl⟩
 ·rcases hget e1 with⟨hi,e1'⟩|⟨k,_,rfl,e1',rfl⟩<;>rcases hget e2 with⟨hi',e2'⟩|⟨k',_,rfl,e2',rfl⟩
  ·rw[hφ hi,hφ hi'] at he;exact hH.inj _ _ ⟨_,e1',l1⟩ ⟨_,e2',l2⟩ he
  ·rw[hφ hi,hφ'] at he
   have:=himg _ ⟨_,e2',hsl l2⟩
   have:=hH.bnd id hi
   omega
  ·rw[hφ hi',hφ'] at he
   have:=himg _ ⟨_,e1',hsl l1⟩
   have:=hH.bnd id' hi'
   omega
  ·rw[hφ',hφ'] at he;rw[k2.inj _ _ ⟨_,e1',hsl l1⟩ ⟨_,e2',hsl l2⟩ he]
 ·rcases hget e with⟨hi,e'⟩|⟨k,_,rfl,e',rfl⟩
  ·rw[hφ hi] at he
   rcases hnew b hb with h2|h2
   ·exact(hH.sep b h2).2 _ ⟨_,e',l1⟩ he
   ·have:=hH.bnd id hi
    omega
  ·rw[hφ'] at he
   exact(k2.sep b hb).2 _ ⟨_,e',hsl l1⟩ he
 ·rcases Nat.lt_or_ge id h.length with hi|hi
  ·rw[hφ hi];exact Nat.lt_of_lt_of_le (hH.bnd id hi) k4.size
  ·have hid':id-h.length<h'.length:=by rw[hlen] at hid;omega
   have:=hφ' (id-h.length)
   rw[show h.length+(id-h.length)=id by omega] at this
   rw[this]
   exact k2.bnd _ hid'
 ·obtain⟨g1,g2⟩:=hH.glob g cs hg
  refine⟨(K.pure g g1).1,λj c hj=>?_⟩
  obtain⟨v,v1,v2⟩:=g2 j c hj
  exact⟨v,by rw[aS (K.pure g g1).2];exact v1,v2.mono K.pure⟩
 ·cases k3 with
  |ret _ x hv=>rw[hlen];exact .ret _ _ (sJ hv hr)
end Go.Aw
namespace Go.Aw
variable {P:Program}
def BF(P:Program)(t:TypeId):Option (List TypeId):=match P.underlying t with
 |some (.struct fs)=>some (fs.toList.map (·.type))
 |_=>none
theorem Gi{t:TypeId}{vs:List PV}{ts:List TypeId}(h:Conf P t vs)(hu:BF P t=some ts):ConfS P ts vs:=by
 unfold BF at hu
 cases h with
 |st vs e hs=>rw[e] at hu;cases hu;exact hs
 |bool b e=>rw[e] at hu;cases hu
 |int n e=>rw[e] at hu;cases hu
 |str s e=>rw[e] at hu;cases hu
 |sl es e=>rw[e] at hu;cases hu
 |arr vs e=>rw[e] at hu;cases hu
theorem nU{t:TypeId}{k:IntKind}{vs:List PV}(h:Conf P t vs)(hu:P.underlying t=some (.int k)):∃n,vs=[.int k n]/\(Lit.int k n).wf=true:=by
 cases h with
 |int n e hw=>rw[hu] at e;cases e;exact⟨n,rfl,hw⟩
 |sl es e=>rw[e] at hu;cases hu
 |bool b e=>rw[e] at hu;cases hu
 |str s e=>rw[e] at hu;cases hu
 |st vs e=>rw[e] at hu;cases hu
 |arr vs e=>rw[e] at hu;cases hu
theorem to{t:TypeId}{vs:List PV}(h:Conf P t vs)(hu:P.underlying t=some .string):∃s,vs=[.str s]/\s.length<=maxLen:=by
 cases h with
 |str s e hw=>exact⟨s,rfl,hw⟩
 |int n e=>rw[e] at hu;cases hu
 |sl es e=>rw[e] at hu;cases hu
 |bool b e=>rw[e] at hu;cases hu
 |st vs e=>rw[e] at hu;cases hu
 |arr vs e=>rw[e] at hu;cases hu
theorem fQ{t:TypeId}{ts:List TypeId}{vs:List PV}(h:ConfS P (t::ts) vs):∃a b,vs=a++b/\Conf P t a/\ConfS P ts b:=by
 cases h with
 |cons h1 h2=>exact⟨_,_,rfl,h1,h2⟩
theorem Ch{vs:List PV}(h:ConfS P [] vs):vs=[]:=by cases h;rfl
theorem sE{t:TypeId}{ts:List TypeId}{vss:List (List PV)}(h:Confs P (t::ts) vss):∃vs r,vss=vs::r/\Conf P t vs/\Confs P ts r:=by
 cases h with
 |cons h1 h2=>exact⟨_,_,rfl,h1,h2⟩
theorem Co{vss:List (List PV)}(h:Confs P [] vss):vss=[]:=by cases h;rfl
theorem sv{α β:Type}(g:β->α):∀{es:List α},(∀x∈es,∃m,x=g m)->∃ms:List β,es=ms.map g
 |[],_=>⟨[],rfl⟩
 |e::r,h=>by
  obtain⟨m,hm⟩:=h e (by simp)
  obtain⟨ms,hms⟩:=sv g (es:=r) λx hx=>h x (by simp[hx])
  exact⟨m::ms,by simp[hm,hms]⟩
end Go.Aw
namespace Go.Aw
def slE(id sz:Nat)(l:List (List AV)):AV:=if l=[] then .nils else .sl id sz 0 l.length
def ki(sz:Nat)(l:List (List AV)):AO:=if l=[] then .dead else .row sz l
theorem sw(id sz:Nat):slE id sz []= .nils:=rfl
theorem oO(sz:Nat):ki sz []= .dead:=rfl
theorem cM{id sz:Nat}{l:List (List AV)}(h:l≠[]):slE id sz l= .sl id sz 0 l.length:=if_neg h
theorem dR{sz:Nat}{l:List (List AV)}(h:l≠[]):ki sz l= .row sz l:=if_neg h
def Dd:AV->Option AV
 | .p (.lst _ es)=>some (.p (.int .i64 es.length))
 | .nils=>some (.p (.int .i64 0))
 | .sl _ _ _ n=>some (.p (.int .i64 n))
 |_=>none
section
variable {P:Program} {G:ay} {d:Option Nat} {r:List CO} {ts:List AV} {h:List AO} {K:KT} {Qp:QP}
theorem Hg(x:AOp):ev G ts h (.len false x)=(Dd (x.ev ts)).map (·,h):=by
 show(un (.len false x) (x.ev ts)).map (·,h)=_
 cases x.ev ts<;>try rfl
 rename_i v;cases v<;>rfl
@[simp high] theorem KA(x:AOp):rK P G (⟨d,none,.len false x⟩::r) ts h K Qp=nxt P G d r ts K Qp ((Dd (x.ev ts)).map (·,h)):=by
 rw[←Hg (G:=G)];exact bl _ rfl
@[simp] theorem Lv(sz:Nat)(es:List (List PV)):Dd (.p (.lst sz es))=some (.p (.int .i64 es.length)):=rfl
@[simp] theorem IM:Dd .nils=some (.p (.int .i64 0)):=rfl
@[simp] theorem Kv(a b c n:Nat):Dd (.sl a b c n)=some (.p (.int .i64 n)):=rfl
@[simp] theorem KV(id sz:Nat)(l:List (List AV)):Dd (slE id sz l)=some (.p (.int .i64 l.length)):=by
 by_cases e:l=[]
 ·subst e;rfl
 ·rw[cM e];rfl
end
section
variable {G:ay} {h:List AO} {id sz:Nat} {l:List (List AV)}
@[simp high] theorem DR(o:AOp):un (.len false o) (slE id sz l)=some (.p (.int .i64 l.length)):=by
 by_cases e:l=[]
 ·subst e;rfl
 ·rw[cM e];rfl
@[simp high] theorem Hh:lenOf (slE id sz l)=some l.length:=by
 by_cases e:l=[]
 ·subst e;rfl
 ·rw[cM e];rfl
@[simp high] theorem GB(he:h[id]?=some (ki sz l)):elems h sz (slE id sz l)=some l:=by
 by_cases e:l=[]
 ·subst e;rfl
 ·rw[cM e];rw[dR e] at he;simp[he]
@[simp high] theorem La{b:Nat}{xs:List (List AV)}(he:h[id]?=some (ki sz l))(hx:xs≠[]):
 Dq h sz b (some xs) (slE id sz l)=if(l.length+xs.length)*b<=140737488355328/\l.length+xs.length<=140737488355328 then some (.sl h.length sz 0 (l.length+xs.length),h.set id .dead++[.row sz (l++xs)]) else none:=by
 by_cases e:l=[]
 ·subst e
  have:h.set id .dead=h:=by
   refine List.ext_getElem? λi=>?_
   rw[List.getElem?_set]
   split
   ·rename_i hi;subst hi
    split
    ·exact he.symm
    ·rename_i hl;rw[List.getElem?_eq_none (by omega)]
   ·rfl
  rw[sw,Dm,this];simp[hx]
 ·rw[cM e,Ga];rw[dR e] at he;simp[he]
@[simp high] theorem Lb(esz:Nat)(k:IntKind)(n:Int):EF h esz (slE id sz l) (.p (.int k n))=if l≠[]/\sz=esz/\0<=n/\n<l.length then some (.ptr id esz n.toNat 0,h) else none:=by
 by_cases e:l=[]
 ·subst e;rfl
 ·rw[cM e,FP];simp[e]
@[simp high] theorem Cp{esz i off:Nat}(he:h[id]?=some (ki sz l)):gk G h (.ptr id esz i off)=if sz=esz then(l[i]?).map (·,off) else none:=by
 by_cases e:l=[]
 ·subst e
  simp only[gk,he,oO];simp
 ·rw[dR e] at he
  simp only[gk,he]
@[simp] theorem KF{m:Nat}(hi:id<m):below m (slE id sz l):=by
 by_cases e:l=[]
 ·subst e;trivial
 ·rw[cM e];exact hi
@[simp] theorem LZ{ρ:List Nat}:ren ρ (slE id sz l)=slE (ρ.getD id 0) sz l:=by
 by_cases e:l=[]
 ·subst e;rfl
 ·rw[cM e,cM e];rfl
@[simp] theorem sr(xs:List (List AV))(hx:xs≠[]):slE id sz (l++xs)= .sl id sz 0 (l.length+xs.length):=by
 rw[cM (by simp[hx])];simp
@[simp] theorem tp(xs:List (List AV))(hx:xs≠[]):ki sz (l++xs)= .row sz (l++xs):=dR (by simp[hx])
@[simp high] theorem Ee:(slE id sz l).isCell=true:=by
 by_cases e:l=[]
 ·subst e;rfl
 ·rw[cM e];rfl
@[simp high] theorem GX:(slE id sz l).cells=[slE id sz l]:=by
 by_cases e:l=[]
 ·subst e;rfl
 ·rw[cM e];rfl
end
attribute [simp ↓] Ee GX DR Hh GB Cp
theorem JO{sz:Nat}{l:List (List AV)}(h:∀x∈l,aa 0 x):okO 0 (ki sz l):=by
 by_cases e:l=[]
 ·subst e;trivial
 ·rw[dR e];exact h
theorem pj{ρ:List Nat}{h:List AO}{i sz:Nat}{l:List (List AV)}{π:List Nat}{r1:List AO}(e:h[i]?=some (ki sz l))(ho:∀x∈l,aa 0 x)(hr:HW ρ h π r1):HW ρ h (i::π) (ki sz l::r1):=
 am e (JO ho) hr
theorem zZ{h:List AO}{id sz:Nat}{ls:List (List PV)}(e:h[id]?=some (ki sz (ls.map (·.map .p))))(hl:∀l∈ls,l.length=sz):View h (slE id sz (ls.map (·.map .p))) (.lst sz ls):=by
 by_cases e2:ls=[]
 ·subst e2;exact View.nils sz
 ·have e3:ls.map (·.map AV.p)≠[]:=by simpa using e2
  rw[dR e3] at e
  rw[cM e3,List.length_map]
  exact en e rfl hl
end Go.Aw
namespace Go.Proofs.YtbnajafpkeficaaGreatDoor
open Go Go.Aw
set_option maxRecDepth 100000
set_option maxHeartbeats 4000000
section
theorem po(G:ay)(f:Mfn)(hf:gi f.ins):VF Tryz.prog G bU [.agg (f.cs.map .p)] (.p (lO (bA f.ins))):=
 AC.freeze (Cv G f hf) (.one (by have:=tA (h:=[aE (bA f.ins)]) (id:=0) rfl;rw[fb] at this;exact this) .nil)
def cJ(m:Nat)(x:Mins):Nat:=if x.op=14/\(m:Int)<=x.n/\x.n<4 then x.n.toNat+1 else m
def cn(ins:List Mins):Nat:=ins.foldl cJ 0
def dW(ins:List Mins)(i:Nat):Nat:=(ins.take i).foldl cJ 0
theorem kq{ins:List Mins}{i:Nat}(h:i<ins.length):dW ins (i+1)=cJ (dW ins i) ins[i]:=by rw[dW,aq h,List.foldl_append];rfl
theorem yZ{m:Nat}{x:Mins}(h:m<=4):cJ m x<=4:=by unfold cJ;split<;>omega
theorem lW(ins:List Mins)(i:Nat):dW ins i<=4:=by
 have key:∀(l:List Mins) (m:Nat),m<=4->l.foldl cJ m<=4:=by
  intro l
  induction l with
  |nil=>intro m h;exact h
  |cons x r ih=>intro m h;exact ih _ (yZ h)
 exact key _ _ (by omega)
def back1:Mins:=⟨22,0,0,0,0⟩
def backF:Mfn:=⟨0,0,[back1]⟩
def aV(e:Nat)(f:Mfn):List Mfn:=List.replicate e backF++[f]
def ll(bx rs:AO):Nat->List AO
 |0=>[bx,rs,.row 1 [[.nils]]]
 |k+1=>[bx,rs,.row 1 [[.sl 3 3 0 (k+1)]],.row 3 (kZ 4 (List.replicate (k+1) backF))]++List.replicate (k+1) (fE [back1])
theorem my(ρ:List Nat)(l:List PV):aF ρ (l.map .p)=l.map .p:=pr ρ _ (by simp)
variable (G:ay)
theorem AW(f:Mfn)(hn:f.ins.length<=1048576):VF Tryz.prog G eG [.agg (f.cs.map .p)] (.agg [.p (dQ (aV (cn f.ins) f))]):=by
 have key:AC Tryz.prog G eG [.agg (f.cs.map .p)] [] λx h=>∃id,x= .ret (.agg [.sl id 3 0 (cn f.ins+1)])/\h[id]?=some (.row 3 (kZ 4 (List.replicate (cn f.ins) backF)++[f.cs.map .p]))/\∀j,j<cn f.ins->h[4+j]?=some (fE [back1]):=by
  refine AC.go rP ?_
  simp-implicitDefEqProofs[kK]
  refine az (λi:Nat=>aB 68 [(1,.ptr 0 3 0 0),(2,.ptr 1 1 0 0),(3,.ptr 2 1 0 0),(4,.p (.int .i64 (dW f.ins i))),(5,.p (.int .i64 i))]) (λ_=>ll (.row 3 [f.cs.map .p]) (.row 1 [[.nils]]) 0)
   (λi=>i<=f.ins.length) (λi=>f.ins.length-i) 0 (by simp) ?_ ?_
  ·refine aZ ?_ ?_ ?_
   ·simp
   ·simp[okO]
   simp[below,dW]
  ·intro i hi
   simp-implicitDefEqProofs[ll]
   simp-implicitDefEqProofs[Mfn.cs]
   refine bf (λh1=>?_) (λh1=>?_)
   ·simp at h1
    have hg1:=List.getElem?_eq_getElem h1
    have hm:=lW f.ins i
    have hgo:∀m,m=dW f.ins (i+1)->Wk 0 [] [] [] []->True:=λ_ _ _=>trivial
    by_cases h14:f.ins[i].op=14
    ·by_cases hge:(dW f.ins i:Int)<=f.ins[i].n
     ·by_cases hlt:f.ins[i].n<4
      ·have hw:IntKind.i64.wrap (f.ins[i].n+1)=((dW f.ins (i+1):Nat):Int):=by rw[ab (by omega) (by omega),kq h1,cJ,if_pos ⟨h14,hge,hlt⟩];omega
       simp-implicitDefEqProofs[hg1,Mins.cs,h14,hge,hlt,hw]
       refine⟨i+1,h1,by omega,aZ (by simp) (by simp[okO]) ?_⟩
       simp[below,w1 (i:=i) (by omega)]
      ·have hw:dW f.ins (i+1)=dW f.ins i:=by rw[kq h1,cJ,if_neg (by omega)]
       simp-implicitDefEqProofs[hg1,Mins.cs,h14,hge,hlt]
       refine⟨i+1,h1,by omega,aZ (by simp) (by simp[okO]) ?_⟩
       simp[below,w1 (i:=i) (by omega),hw]
     ·have hw:dW f.ins (i+1)=dW f.ins i:=by rw[kq h1,cJ,if_neg (by omega)]
      simp-implicitDefEqProofs[hg1,Mins.cs,h14,hge]
      refine⟨i+1,h1,by omega,aZ (by simp) (by simp[okO]) ?_⟩
      simp[below,w1 (i:=i) (by omega),hw]
    ·have hw:dW f.ins (i+1)=dW f.ins i:=by rw[kq h1,cJ,if_neg (by omega)]
     simp-implicitDefEqProofs[hg1,Mins.cs,h14]
     refine⟨i+1,h1,by omega,aZ (by simp) (by simp[okO]) ?_⟩
     simp[below,w1 (i:=i) (by omega),hw]
   ·simp at h1
    have he:dW f.ins i=cn f.ins:=by rw[dW,List.take_of_length_le h1];rfl
    have hle:=lW f.ins i
    simp-implicitDefEqProofs[]
    rw[he] at hle⊢
    generalize cn f.ins=e at hle⊢
    refine az (λk:Nat=>aB 68 [(1,.ptr 0 3 0 0),(2,.ptr 1 1 0 0),(3,.ptr 2 1 0 0),(4,.p (.int .i64 e)),(6,.p (.int .i64 k))]) (λk=>ll (.row 3 [f.cs.map .p]) (.row 1 [[.nils]]) k)
     (λk=>k<=e) (λk=>e-k) 0 (by simp) ?_ ?_
    ·refine aZ ?_ ?_ ?_
     ·simp
     ·simp[okO]
     simp[below]
    ·intro k hk
     simp-implicitDefEqProofs[]
     refine bf (λh2=>?_) (λh2=>?_)
     ·simp at h2
      have hkk:k=0\/k=1\/k=2\/k=3:=by omega
      rcases hkk with rfl|rfl|rfl|rfl
      ·simp-implicitDefEqProofs[ll,kZ,List.replicate,Mfn.ov,backF,fE]
       refine⟨1,by omega,by omega,an [0,1,2,5,3] rfl (by decide) ?_ ?_⟩
       ·simp[HW,aF,ren,below,my,Mins.av,Mins.cs,back1,kZ,Mfn.ov]
       ·simp[below,ren,IntKind.wrap,IntKind.bits,IntKind.signed]
      ·simp-implicitDefEqProofs[ll,kZ,List.replicate,Mfn.ov,backF,fE]
       refine⟨2,by omega,by omega,an [0,1,2,7,4,5] rfl (by decide) ?_ ?_⟩
       ·simp[HW,aF,ren,below,my,Mins.av,Mins.cs,back1,kZ,Mfn.ov]
       ·simp[below,ren,IntKind.wrap,IntKind.bits,IntKind.signed]
      ·simp-implicitDefEqProofs[ll,kZ,List.replicate,Mfn.ov,backF,fE]
       refine⟨3,by omega,by omega,an [0,1,2,8,4,5,6] rfl (by decide) ?_ ?_⟩
       ·simp[HW,aF,ren,below,my,Mins.av,Mins.cs,back1,kZ,Mfn.ov]
       ·simp[below,ren,IntKind.wrap,IntKind.bits,IntKind.signed]
      ·simp-implicitDefEqProofs[ll,kZ,List.replicate,Mfn.ov,backF,fE]
       refine⟨4,by omega,by omega,an [0,1,2,9,4,5,6,7] rfl (by decide) ?_ ?_⟩
       ·simp[HW,aF,ren,below,my,Mins.av,Mins.cs,back1,kZ,Mfn.ov]
       ·simp[below,ren,IntKind.wrap,IntKind.bits,IntKind.signed]
     ·simp at h2
      have hke:k=e:=by omega
      subst hke
      have hkk:k=0\/k=1\/k=2\/k=3\/k=4:=by omega
      rcases hkk with rfl|rfl|rfl|rfl|rfl
      all_goals
       simp-implicitDefEqProofs[ll,kZ,List.replicate,Mfn.ov,backF,fE]
       first
        |rfl
        |(refine⟨rfl,?_⟩
          intro j hj
          have:j=0\/j=1\/j=2\/j=3:=by omega
          rcases this with rfl|rfl|rfl|rfl<;>first|rfl|omega)
 refine key.freezeR (λt v h ⟨id,e,_⟩=>by cases e) λv h ⟨id,e1,e2,e3⟩=>?_
 cases e1
 refine .agg (.one ?_ .nil) .nil
 have hlen:((aV (cn f.ins) f).map Mfn.cs).length=cn f.ins+1:=by simp[aV]
 have hv:=View.sl id 3 0 _ ((aV (cn f.ins) f).map Mfn.cs) e2 (by simp[aV,lB]) (by intro e he;obtain⟨m,_,rfl⟩:=List.mem_map.1 he;rfl) (λi j e q e' a h1 h2 h3 h4=>by
  rw[Nat.zero_add] at h3
  rcases Nat.lt_or_ge i (cn f.ins) with hi|hi
  ·have e5:((aV (cn f.ins) f).map Mfn.cs)[i]?=some backF.cs:=by
    rw[List.getElem?_map,aV,List.getElem?_append_left (by simpa using hi),List.getElem?_replicate,if_pos hi];rfl
   rw[e5] at h1;cases h1
   rw[List.getElem?_append_left (by rw[lB];simpa using hi),zP,List.getElem?_replicate,if_pos hi] at h3
   cases h3
   match j,h2,h4 with
   |0,h2,h4=>cases h2;cases h4;exact .p _
   |1,h2,h4=>cases h2;cases h4;exact .p _
   |2,h2,h4=>
    cases h2;cases h4
    exact en (ls:=[back1.cs]) (e3 i hi) rfl (by simp)
   |j+3,h2,h4=>simp[backF,Mfn.cs] at h2
  ·have hil:i<cn f.ins+1:=by have:=(List.getElem?_eq_some_iff.1 h1).1;rw[hlen] at this;exact this
   have hie:i=cn f.ins:=by omega
   rw[List.getElem?_append_right (by rw[lB];simpa using hi),lB,List.length_replicate,hie,Nat.sub_self] at h3
   cases h3
   have e5:((aV (cn f.ins) f).map Mfn.cs)[i]?=some f.cs:=by
    rw[List.getElem?_map,aV,List.getElem?_append_right (by simpa using hi),List.length_replicate,hie,Nat.sub_self];rfl
   rw[e5] at h1;cases h1
   rw[List.getElem?_map,h2] at h4
   cases h4
   exact .p _)
 rw[hlen] at hv
 exact hv
end
section
def aD(f:Mfn):Bool:=bF (aV (cn f.ins) f)&&decide (plc f.ins (bA f.ins) f.ins.length<=8000)
def gt(f:Mfn):List Int:=kW f.ins (bA f.ins) f.ins.length
theorem At{k:Int}{f:Mfn}(h:gm k f=true)(hl:f.ins.length<=2000):gi f.ins:=by
 refine⟨hl,λx hx=>?_⟩
 simp only[gm,Bool.and_eq_true,List.all_eq_true] at h
 have hi:=h.2 x hx
 rw[pH] at hi
 simp only[Bool.and_eq_true] at hi
 obtain⟨⟨⟨⟨h1,h2⟩,h3⟩,h4⟩,h5⟩:=hi
 refine⟨h2,h3,?_,λhj=>?_⟩
 ·simp only[fT,Bool.and_eq_true] at h1;exact h1.1.1.1.1
 ·have hc:x.op=20\/x.op=21:=by simpa[jmp] using hj
  rcases hc with e|e<;>simpa[fN,re,e,inR] using h5
theorem pa(e:Nat)(f:Mfn):jg (aV e f)=e+f.ins.length:=by
 simp[jg,aV,backF]
theorem bS{e:Nat}{f:Mfn}(h:bF (aV e f)=true):gi f.ins:=by
 simp only[bF,Bool.and_eq_true,decide_eq_true_eq] at h
 have hs:=h.1.2
 rw[pa] at hs
 have:=jI h.2 (i:=e) (f:=f) (by simp[aV])
 exact At this (by omega)
theorem uT(e:Nat)(f:Mfn):szF (aV e f)=e+1+(e+f.ins.length):=by
 have:=pa e f
 simp only[jg] at this
 rw[szF,this];simp[aV]
theorem DO(ins:List Mins)(L:List Bool)(i:Nat):(ic ins L i).length<=4:=by
 unfold ic
 split
 ·split
  ·rename_i x b _ _ _;rcases eV x with h|h<;>omega
  ·repeat' split
   all_goals simp
 ·simp
theorem tL(ins:List Mins)(L:List Bool)(i:Nat):(kW ins L i).length<=4*i:=by
 induction i with
 |zero=>simp[kW]
 |succ i ih=>rw[gX,List.length_append];have:=DO ins L i;omega
variable (G:ay)
theorem kr{l:List Nat}{id:Nat}{h:List AO}(e:h[id]?=some (aw l)):View h (.sl id 1 0 l.length) (iH l):=by
 have:=en (h:=h) (id:=id) (sz:=1) (n:=l.length) (ls:=l.map λ(n:Nat)=>[.int .i64 (n:Int)]) (by rw[e,aw];simp) (by simp) (λx hx=>by obtain⟨b,_,rfl⟩:=List.mem_map.1 hx;rfl)
 exact this
theorem lw(f:Mfn)(L:List Bool)(hl:L.length=f.ins.length)(hf:gi f.ins):
 VF Tryz.prog G bt [.agg (f.cs.map .p),.p (lO L)] (.tup [.p (iH (cN f.ins L f.ins.length)),.p (.int .i64 (plc f.ins L f.ins.length))]):=
 AC.freeze (rF G f L hl hf) (.tup (.one (by have:=kr (h:=[aw (cN f.ins L f.ins.length)]) (id:=0) rfl;rw[ik] at this;exact this) (.keep (by simp) .nil)) .nil)
theorem zx(f:Mfn)(hn:f.ins.length<=1000000):VF Tryz.prog G gl [.agg (f.cs.map .p)] (.p (.bool (aD f))):=by
 refine AC.go uH ?_
 have hm:=lW f.ins f.ins.length
 have he:dW f.ins f.ins.length=cn f.ins:=by rw[dW,List.take_of_length_le (Nat.le_refl _)];rfl
 simp-implicitDefEqProofs[na]
 refine(AW G f (by omega)).use ?_
 simp-implicitDefEqProofs
 refine(yE G _ (by rw[uT];omega)).use ?_
 simp-implicitDefEqProofs
 refine bf (λh=>?_) (λh=>?_)
 ·simp at h
  simp-implicitDefEqProofs[aD,h]
 ·simp at h
  have hf:=bS h
  simp-implicitDefEqProofs
  refine(po G f hf).use ?_
  simp-implicitDefEqProofs
  refine(lw G f _ (fb _) hf).use ?_
  simp-implicitDefEqProofs[aD,h]
  omega
theorem Er(d:Int):IntKind.u8.wrap (d+256)=IntKind.u8.wrap d:=by
 simp[IntKind.wrap,IntKind.bits,IntKind.signed]
theorem rx(f:Mfn)(hn:f.ins.length<=1000000):AC Tryz.prog G dv [.agg (f.cs.map .p)] [] λx h=>∃id,x= .ret (.tup [.sl id 1 0 (if aD f then gt f else[]).length,.p (.bool (aD f))])/\h[id]?=some (bN (if aD f then gt f else[])):=by
 refine AC.go rW ?_
 simp-implicitDefEqProofs[kJ]
 refine(zx G f hn).use ?_
 by_cases hc:aD f=true
 rotate_left
 ·simp-implicitDefEqProofs[hc,bN]
 have hal:bF (aV (cn f.ins) f)=true:=by simp[aD] at hc;exact hc.1
 have hf:=bS hal
 obtain⟨hn2,hfi⟩:=id hf
 simp-implicitDefEqProofs[hc]
 refine(po G f hf).use ?_
 simp-implicitDefEqProofs
 refine(lw G f _ (fb _) hf).use ?_
 simp-implicitDefEqProofs
 have hL:=fb f.ins
 simp only[gt]
 generalize bA f.ins=L at hL⊢
 refine az (λi:Nat=>aB 98 [(1,.ptr 0 3 0 0),(4,.sl 1 1 0 (kW f.ins L i).length),(5,.p (lO L)),(6,.p (iH (cN f.ins L f.ins.length))),(8,.p (.int .i64 i))]) (λi=>[.row 3 [f.cs.map .p],bN (kW f.ins L i)])
  (λi=>i<=f.ins.length) (λi=>f.ins.length-i) 0 (by simp) ?_ ?_
 ·refine aZ ?_ ?_ ?_
  ·simp
  ·simp[okO]
  simp[below,kW]
 ·intro i hi
  simp-implicitDefEqProofs[Mfn.cs]
  refine bf (λh1=>?_) (λh1=>?_)
  ·simp at h1
   have h2:i<L.length:=by omega
   obtain⟨q1,q2,q3,q4⟩:=hfi _ (List.getElem_mem h1)
   have hg1:=List.getElem?_eq_getElem h1
   have hg2:=List.getElem?_eq_getElem h2
   have hbo:∀l,bN l= .row 1 (l.map λn=>[.p (.int .u8 n)]):=λ_=>rfl
   have happ:∀l l':List Int,(l.map λn=>[AV.p (.int .u8 n)])++(l'.map λn=>[AV.p (.int .u8 n)])=(l++l').map λn=>[AV.p (.int .u8 n)]:=by simp
   have htk:∀l:List Int,List.take l.length (l.map λn=>[AV.p (.int .u8 n)])=l.map λn=>[AV.p (.int .u8 n)]:=λl=>List.take_of_length_le (by simp)
   have henc:=gX f.ins L i
   simp-implicitDefEqProofs[hg1,Mfn.cs]
   refine(fJ G f.ins[i]).use ?_
   by_cases hj:jmp f.ins[i]=true
   rotate_left
   ·simp-implicitDefEqProofs[hj]
    refine(te G f.ins[i] q1 q2).use ?_
    have he:ic f.ins L i=aM f.ins[i]:=by simp[ic,hg1,hg2,hj]
    have hl1:=eV f.ins[i]
    have hel:=tL f.ins L i
    simp-implicitDefEqProofs[aN,hbo,htk]
    refine⟨by omega,i+1,h1,by omega,an [0,3] rfl (by simp) (af rfl (by simp) (af (by simp[henc,he,Function.comp_def]) (by simp) aj)) ?_⟩
    simp[below,ren,w1 (i:=i) (by omega),henc,he]
   ·have q5:=q4 hj
    simp[inR] at q5
    have hnl:f.ins[i].n.toNat<f.ins.length:=by omega
    have hp1:=fx (ins:=f.ins) (L:=L) hnl
    have hp2:=fx (ins:=f.ins) (L:=L) h1
    have hle1:=js (ins:=f.ins) (L:=L) hL (i:=i)
    have hle2:=js (ins:=f.ins) (L:=L) hL (i:=f.ins[i].n.toNat)
    have hel:=tL f.ins L i
    have hsb:=lq f.ins[i] false
    have hpl:∀k,iH (cN f.ins L k)= .lst 1 ((cN f.ins L k).map λ(n:Nat)=>[.int .i64 (n:Int)]):=λ_=>rfl
    have hbl:lO L= .lst 1 (L.map λb=>[.bool b]):=rfl
    generalize hp:plc f.ins L f.ins[i].n.toNat=p at hp1 hle2
    generalize hq:plc f.ins L i=q at hp2 hle1
    have htm:(p:Int).tmod 256=(p:Int)%256:=by rw[show(p:Int).tmod 256=((p%256:Nat):Int) from rfl];omega
    have htd:IntKind.i64.wrap ((p:Int)/256)=(p:Int)/256:=ab (by omega) (by omega)
    have hwd1:IntKind.i64.wrap ((p:Int)-(q:Int))=(p:Int)-(q:Int):=ab (by omega) (by omega)
    have hwd2:IntKind.i64.wrap ((p:Int)-(q:Int)-(aK f.ins[i] false:Int))=(p:Int)-(q:Int)-(aK f.ins[i] false:Int):=ab (by omega) (by omega)
    have hwd3:IntKind.i64.wrap ((p:Int)-(q:Int)-(aK f.ins[i] false:Int)+256)=(p:Int)-(q:Int)-(aK f.ins[i] false:Int)+256:=ab (by omega) (by omega)
    have w128:IntKind.i64.wrap 128=128:=rfl
    have w148:IntKind.i64.wrap 148=148:=rfl
    have w149:IntKind.i64.wrap 149=149:=rfl
    have w0:IntKind.i64.wrap 0=0:=rfl
    have w20:IntKind.i64.wrap 20=20:=rfl
    have w21:IntKind.i64.wrap 21=21:=rfl
    simp-implicitDefEqProofs[hj]
    simp-implicitDefEqProofs[Mins.cs,hpl,hp1]
    refine⟨by omega,?_⟩
    simp-implicitDefEqProofs[Mins.cs,hbl,hg2]
    refine(jG G _).use ?_
    have hc2:f.ins[i].op=20\/f.ins[i].op=21:=by simpa[jmp] using hj
    cases hLi:L[i] with
    |true=>
     have he:ic f.ins L i=[u8 (f.ins[i].op+128)]++(if f.ins[i].op=21 then[u8 f.ins[i].a] else[])++[u8 (p%256:Nat),u8 (p/256:Nat)]:=by simp[ic,hg1,hg2,hj,hLi,hp]
     rcases hc2 with e|e
     ·simp-implicitDefEqProofs[Mins.cs,hbl,hg2,hLi,e,w128,w148,hbo,htk,htm,htd]
      refine⟨by omega,by omega,i+1,h1,by omega,an [0,6] rfl (by simp) (af rfl (by simp) (af (by simp[List.take_of_length_le,henc,he,e,u8,htm,htd]) (by simp) aj)) ?_⟩
      simp[below,ren,w1 (i:=i) (by omega),henc,he,e]
     ·simp-implicitDefEqProofs[Mins.cs,hbl,hg2,hLi,e,w128,w149,hbo,htk,htm,htd]
      refine⟨by omega,by omega,by omega,i+1,h1,by omega,an [0,8] rfl (by simp) (af rfl (by simp) (af (by simp[List.take_of_length_le,henc,he,e,u8,htm,htd]) (by simp) aj)) ?_⟩
      simp[below,ren,w1 (i:=i) (by omega),henc,he,e]
    |false=>
     have he:ic f.ins L i=[u8 f.ins[i].op]++(if f.ins[i].op=21 then[u8 f.ins[i].a] else[])++[u8 ((p:Int)-q-aK f.ins[i] false)]:=by simp[ic,hg1,hg2,hj,hLi,hp,hq]
     rcases hc2 with e|e
     ·simp-implicitDefEqProofs[Mins.cs,hbl,hg2,hLi,e,w0,w20,hbo,htk]
      refine⟨by omega,?_⟩
      simp-implicitDefEqProofs[hp2,hwd1]
      have hs25:=jU G f.ins[i] false q1 q2
      rw[Mins.cs,e] at hs25
      refine hs25.use ?_
      simp-implicitDefEqProofs[hp2,hwd1,hwd2,hwd3,Er,Mins.cs,hbo,htk]
      refine⟨by omega,i+1,h1,by omega,an [0,6] rfl (by simp) (af rfl (by simp) (af (by simp[List.take_of_length_le,henc,he,e,u8]) (by simp) aj)) ?_⟩
      simp[below,ren,w1 (i:=i) (by omega),henc,he,e]
     ·simp-implicitDefEqProofs[Mins.cs,hbl,hg2,hLi,e,w0,w21,hbo,htk]
      refine⟨by omega,by omega,?_⟩
      simp-implicitDefEqProofs[hp2,hwd1]
      have hs25:=jU G f.ins[i] false q1 q2
      rw[Mins.cs,e] at hs25
      refine hs25.use ?_
      simp-implicitDefEqProofs[hp2,hwd1,hwd2,hwd3,Er,Mins.cs,hbo,htk]
      refine⟨by omega,i+1,h1,by omega,an [0,8] rfl (by simp) (af rfl (by simp) (af (by simp[List.take_of_length_le,henc,he,e,u8]) (by simp) aj)) ?_⟩
      simp[below,ren,w1 (i:=i) (by omega),henc,he,e]
  ·simp at h1
   have hie:i=f.ins.length:=by omega
   subst hie
   simp-implicitDefEqProofs
theorem HO(f:Mfn)(hn:f.ins.length<=1000000):VF Tryz.prog G dv [.agg (f.cs.map .p)] (.tup [.p (aN (if aD f then gt f else[])),.p (.bool (aD f))]):=by
 refine(rx G f hn).freezeR (λt v h ⟨id,e,_⟩=>by cases e) λv h ⟨id,e1,e2⟩=>?_
 cases e1
 exact .tup (.one (mr e2) (.keep (by simp) .nil)) .nil
theorem zQ(f:Mfn)(hn:f.ins.length<=1000000):AC Tryz.prog G dv [.agg (f.cs.map .p)] [] λx h=>x= .ret (.tup [.sl 0 1 0 (if aD f then gt f else[]).length,.p (.bool (aD f))])/\h=[bN (if aD f then gt f else[])]:=by
 refine(rx G f hn).gc (λt v h ⟨id,e,_⟩=>by cases e) λv h ⟨id,e1,e2⟩=>?_
 cases e1
 generalize (if aD f then gt f else[])=l at e2⊢
 exact⟨.tup [.sl 0 1 0 l.length,.p (.bool (aD f))],[bN l],⟨[id],by simp,by simp,by simp,by simp[below],by simp[ren,aF],af e2 (by simp) aj⟩,rfl,rfl⟩
end
section
def aI(code:List Int)(i:Nat):Int:=code.getD i 0
def bO(code:List Int):Prop:=∀n∈code,0<=n/\n<=255
theorem cP{code:List Int}{i:Nat}(h:i<code.length):code[i]?=some (aI code i):=by
 rw[aI,List.getD_eq_getElem?_getD,List.getElem?_eq_getElem h];rfl
theorem dG{code:List Int}(hb:bO code)(i:Nat):0<=aI code i/\aI code i<=255:=by
 rcases Nat.lt_or_ge i code.length with h|h
 ·exact hb _ (List.mem_of_getElem? (cP h))
 ·rw[aI,List.getD_eq_getElem?_getD,List.getElem?_eq_none h];simp
def s8(n:Int):Int:=if 127<n then n-256 else n
def dX(op:Int):Mins:=⟨op,0,0,0,0⟩
def ff(op:Int):Bool:=op==20||op==21
def mK(code:List Int)(at':Nat)(op:Int)(long:Bool):Mins:=
 let n:=aK (dX op) long
 let b1:=aI code (at'+1)
 let b2:=aI code (at'+2)
 if ff op then⟨op,if op=21 then b1 else 0,0,0,if long then aI code (at'+n-2)+256*aI code (at'+n-1) else(at'+n:Nat)+s8 (aI code (at'+n-1))⟩
 else if op==1||inR op 15 18 then⟨op,b1,0,0,b2⟩
 else if inR op 3 9 then⟨op,b1%8,b1/8,b2,0⟩
 else if op==2||inR op 10 12 then⟨op,b1%8,b1/8,0,0⟩
 else if op==14 then⟨op,0,0,0,b1⟩ else⟨op,b1,0,0,0⟩
def aO(code:List Int)(i:Nat):Int:=aI code i%128
def dI(code:List Int)(i:Nat):Bool:=decide (128<=aI code i)
def eQ(code:List Int)(i:Nat):Bool:=inR (aO code i) 1 22&&(!dI code i||ff (aO code i))
def aH(code:List Int)(i:Nat):Nat:=aK (dX (aO code i)) (dI code i)
def bj(code:List Int)(i:Nat):Bool:=eQ code i&&decide (i+aH code i<=code.length)
def bK(code:List Int)(i:Nat):Mins:=mK code i (aO code i) (dI code i)
theorem ml(code:List Int)(i:Nat):2<=aH code i/\aH code i<=4:=by
 unfold aH aK
 split
 ·split<;>split<;>omega
 ·rcases eV (dX (aO code i)) with h|h<;>omega
theorem gR{x:Int}{n:Nat}(h:x=n)(hn:n<=9223372036854775807):IntKind.i64.wrap x=n:=by rw[ab (by omega) (by omega),h]
variable (G:ay)
theorem uD:AK.whole ji=FK.ak jb:=rfl
theorem Eg(code:List Int)(hb:bO code)(i:Nat)(hi:i<code.length)(hl:code.length<=1048576):
 VF Tryz.prog G jn [.p (aN code),.p (.int .i64 i)]
  (.tup (if bj code i then[.agg ((bK code i).cs.map .p),.p (.int .i64 (aH code i)),.p (.bool true)] else[.agg ((dX (aO code i)).cs.map .p),.p (.int .i64 0),.p (.bool false)])):=by
 refine AC.goK uw uD ?_
 have hbl:aN code= .lst 1 (code.map λn=>[.int .u8 n]):=rfl
 have hg0:=cP hi
 have h0:=dG hb i
 have hop:(aI code i).tmod 128=aO code i:=by rw[aO,Int.tmod_eq_emod_of_nonneg h0.1]
 have hop0:0<=aO code i/\aO code i<128:=by rw[aO];omega
 have hcv:IntKind.i64.wrap (aO code i)=aO code i:=ab (by omega) (by omega)
 have hbc:(dX (aO code i)).cs=[.int .i64 (aO code i),.int .i64 0,.int .i64 0,.int .i64 0,.int .i64 0]:=rfl
 have hlg:decide (128<=aI code i)=dI code i:=rfl
 simp-implicitDefEqProofs[ji,jb,hbl,hg0,hop,hcv,hlg]
 refine JB (α:=Unit) (λ_=>aB 204 [(0,.p (aN code)),(1,.p (.int .i64 i)),(4,.ptr 0 5 0 0),(5,.p (.int .i64 0)),(6,.p (.bool false)),(7,.p (.bool (dI code i))),(8,.ptr 1 5 0 0)])
  (λ_=>[.row 5 [(dX 0).cs.map .p],.row 5 [(dX (aO code i)).cs.map .p]]) (λ_=>eQ code i=true) ?_ λ_ hok=>?_
 ·simp-implicitDefEqProofs
  refine(vn G _).use ?_
  by_cases hr:inR (aO code i) 1 22=true
  rotate_left
  ·have hd:bj code i=false:=by simp[bj,eQ,hr]
   simp-implicitDefEqProofs[vA (by simpa using hr),hd,dX,Mins.cs]
  have hfl:=(sW hr).1
  cases hL:dI code i with
  |false=>
   simp-implicitDefEqProofs[hfl]
   refine⟨by simp[eQ,hr,hL],aZ (by simp) (by simp[okO]) ?_⟩
   simp[below,aN]
  |true=>
   simp-implicitDefEqProofs[hfl]
   refine(fJ G (dX (aO code i))).use ?_
   have hj:jmp (dX (aO code i))=ff (aO code i):=rfl
   cases hJ:ff (aO code i) with
   |false=>
    have hd:bj code i=false:=by simp[bj,eQ,hL,hJ]
    simp-implicitDefEqProofs[hj,hJ]
    simp-implicitDefEqProofs[hd,dX,Mins.cs]
   |true=>
    simp-implicitDefEqProofs[hj,hJ]
    refine⟨by simp[eQ,hr,hL,hJ],aZ (by simp) (by simp[okO]) ?_⟩
    simp[below,aN]
 simp-implicitDefEqProofs
 refine(jU G (dX (aO code i)) (dI code i) rfl rfl).use ?_
 have hsz:aK (dX (aO code i)) (dI code i)=aH code i:=rfl
 obtain⟨hs2,hs4⟩:=ml code i
 have hwn:IntKind.i64.wrap ((i:Int)+aH code i)=((i+aH code i:Nat):Int):=gR (by omega) (by omega)
 simp-implicitDefEqProofs[hsz,hwn,hbl]
 refine bf (λh1=>?_) (λh1=>?_)
 ·simp at h1
  have hd:bj code i=false:=by simp[bj];intro _;omega
  simp-implicitDefEqProofs[hd]
 simp at h1
 have h1':i+aH code i<=code.length:=by omega
 have hgood:bj code i=true:=by simp[bj,hok,h1']
 have hj:jmp (dX (aO code i))=ff (aO code i):=rfl
 refine KO (aB 204 [(4,.ptr 0 5 0 0),(8,.ptr 1 5 0 0),(9,.p (.int .i64 (aH code i)))]) [.row 5 [(dX 0).cs.map .p],.row 5 [(bK code i).cs.map .p]] ?_ ?_
 rotate_left
 ·simp-implicitDefEqProofs[hgood]
 have fin:∀x:Mins,bK code i=x->∀l:List (Nat × AV),FgA 2 l [(4,.ptr 0 5 0 0),(8,.ptr 1 5 0 0),(9,.p (.int .i64 (aH code i)))]->
  Wk 0 (aB 204 l) [.row 5 [(dX 0).cs.map .p],.row 5 [x.cs.map .p]] (aB 204 [(4,.ptr 0 5 0 0),(8,.ptr 1 5 0 0),(9,.p (.int .i64 (aH code i)))]) [.row 5 [(dX 0).cs.map .p],.row 5 [(bK code i).cs.map .p]]:=λx e l hl=>by
  rw[e];exact aZ (by simp) (by simp[okO]) hl
 simp-implicitDefEqProofs[]
 refine(fJ G (dX (aO code i))).use ?_
 have e1:bK code i=mK code i (aO code i) (dI code i):=rfl
 have hw1:IntKind.i64.wrap ((i:Int)+1)=((i+1:Nat):Int):=gR (by omega) (by omega)
 cases hJ:ff (aO code i) with
 |true=>
  have hc:aO code i=20\/aO code i=21:=by simpa[ff] using hJ
  have hw2:IntKind.i64.wrap ((i:Int)+aH code i-2)=((i+aH code i-2:Nat):Int):=gR (by omega) (by omega)
  have hw3:IntKind.i64.wrap ((i:Int)+aH code i-1)=((i+aH code i-1:Nat):Int):=gR (by omega) (by omega)
  have hq1:=cP (code:=code) (i:=i+1) (by omega)
  have hq2:=cP (code:=code) (i:=i+aH code i-2) (by omega)
  have hq3:=cP (code:=code) (i:=i+aH code i-1) (by omega)
  have b1:=dG hb (i+1)
  have b2:=dG hb (i+aH code i-2)
  have b3:=dG hb (i+aH code i-1)
  have hv1:IntKind.i64.wrap (aI code (i+1))=aI code (i+1):=ab (by omega) (by omega)
  have hv2:IntKind.i64.wrap (aI code (i+aH code i-2))=aI code (i+aH code i-2):=ab (by omega) (by omega)
  have hv3:IntKind.i64.wrap (aI code (i+aH code i-1))=aI code (i+aH code i-1):=ab (by omega) (by omega)
  have hX:bK code i=⟨aO code i,if aO code i=21 then aI code (i+1) else 0,0,0,if dI code i then aI code (i+aH code i-2)+256*aI code (i+aH code i-1) else((i+aH code i:Nat):Int)+s8 (aI code (i+aH code i-1))⟩:=by
   rw[e1];simp only[mK,hsz,if_pos hJ]
  have hwL:IntKind.i64.wrap (aI code (i+aH code i-2)+IntKind.i64.wrap (256*aI code (i+aH code i-1)))=aI code (i+aH code i-2)+256*aI code (i+aH code i-1):=by
   rw[ab (x:=256*_) (by omega) (by omega),ab (by omega) (by omega)]
  have hwS:IntKind.i64.wrap (IntKind.i64.wrap ((i:Int)+aH code i+aI code (i+aH code i-1))-IntKind.i64.wrap (256*(if 127<aI code (i+aH code i-1) then 1 else 0)))=(i:Int)+aH code i+s8 (aI code (i+aH code i-1)):=by
   rw[ab (x:=_+_+_) (by omega) (by omega)]
   unfold s8
   split
   ·rw[ab (x:=256*1) (by omega) (by omega),ab (by omega) (by omega)];omega
   ·rw[ab (x:=256*0) (by omega) (by omega),ab (by omega) (by omega)];omega
  simp-implicitDefEqProofs[hj,hJ]
  simp-implicitDefEqProofs[hbc]
  rcases hc with e|e<;>cases hL:dI code i<;>simp-implicitDefEqProofs[e,hbl,hwn,hw1,hw2,hw3,hq1,hq2,hq3,hv1,hv2,hv3,hwL]
  ·refine(jG G _).use ?_
   simp-implicitDefEqProofs[hwS,hbl,hq3]
   exact fin ⟨20,0,0,0,_⟩ (by rw[hX];simp[e,hL]) _ (by simp[below])
  ·exact fin ⟨20,0,0,0,_⟩ (by rw[hX];simp[e,hL]) _ (by simp[below])
  ·refine⟨by omega,(jG G _).use ?_⟩
   simp-implicitDefEqProofs[hwS,hbl,hq3]
   exact fin ⟨21,aI code (i+1),0,0,_⟩ (by rw[hX];simp[e,hL]) _ (by simp[below])
  ·refine⟨by omega,fin ⟨21,aI code (i+1),0,0,_⟩ (by rw[hX];simp[e,hL]) _ (by simp[below])⟩
 |false=>
  have hX:bK code i=mK code i (aO code i) (dI code i):=rfl
  have hJ':¬ff (aO code i)=true:=by simp[hJ]
  have hnj:jmp (dX (aO code i))=false:=hJ
  have hsP:aH code i=(aM (dX (aO code i))).length:=by rw[←hsz,aK,if_neg (by simpa using hnj)]
  have b1:=dG hb (i+1)
  have b2:=dG hb (i+2)
  have hq1:=cP (code:=code) (i:=i+1) (by omega)
  have hw2:IntKind.i64.wrap ((i:Int)+2)=((i+2:Nat):Int):=gR (by omega) (by omega)
  have ht2:((i:Int)+2).toNat=i+2:=by omega
  have hv1:IntKind.i64.wrap (aI code (i+1))=aI code (i+1):=ab (by omega) (by omega)
  have hv2:IntKind.i64.wrap (aI code (i+2))=aI code (i+2):=ab (by omega) (by omega)
  have hm:(aI code (i+1)).tmod 8=aI code (i+1)%8:=Int.tmod_eq_emod_of_nonneg b1.1
  have hdv:IntKind.i64.wrap (aI code (i+1)/8)=aI code (i+1)/8:=ab (by omega) (by omega)
  have hdd:(aI code (i+1)).tdiv 8=aI code (i+1)/8:=Int.tdiv_eq_ediv_of_nonneg b1.1
  simp-implicitDefEqProofs[hj,hJ]
  simp-implicitDefEqProofs[hbc]
  by_cases h1:aO code i=1
  ·have h3:aH code i=3:=by rw[hsP,h1];rfl
   have hq2:=cP (code:=code) (i:=i+2) (by omega)
   simp-implicitDefEqProofs[h1,hbl,ht2,hw1,hw2,hq1,hq2,hv1,hv2]
   exact⟨by omega,by omega,fin ⟨1,aI code (i+1),0,0,aI code (i+2)⟩ (by rw[hX,h1];rfl) _ (by simp[below])⟩
  simp-implicitDefEqProofs[h1]
  refine(fP G _ _ _).use ?_
  by_cases h2:inR (aO code i) 15 18=true
  ·have h3:aH code i=3:=by rw[hsP];simp[aM,dX,h2]
   have hq2:=cP (code:=code) (i:=i+2) (by omega)
   simp-implicitDefEqProofs[h2,hbl,ht2,hw1,hw2,hq1,hq2,hv1,hv2]
   exact⟨by omega,by omega,fin ⟨aO code i,aI code (i+1),0,0,aI code (i+2)⟩ (by rw[hX];simp[mK,hJ,h2]) _ (by simp[below])⟩
  simp-implicitDefEqProofs[h2]
  refine(fP G _ _ _).use ?_
  by_cases h4:inR (aO code i) 3 9=true
  ·have h3:aH code i=3:=by rw[hsP];simp[aM,dX,h1,h2,h4]
   have hq2:=cP (code:=code) (i:=i+2) (by omega)
   simp-implicitDefEqProofs[h4,hbl,ht2,hw1,hw2,hq1,hq2,hv1,hv2,hm,hdd,hdv]
   exact⟨by omega,by omega,fin ⟨aO code i,aI code (i+1)%8,aI code (i+1)/8,aI code (i+2),0⟩ (by rw[hX];simp[mK,hJ,h1,h2,h4]) _ (by simp[below])⟩
  simp-implicitDefEqProofs[h4]
  by_cases h5:aO code i=2
  ·simp-implicitDefEqProofs[h5,hbl,hw1,hw2,hq1,hv1,hm,hdd,hdv]
   exact⟨by omega,fin ⟨2,aI code (i+1)%8,aI code (i+1)/8,0,0⟩ (by rw[hX,h5];rfl) _ (by simp[below])⟩
  simp-implicitDefEqProofs[h5]
  refine(fP G _ _ _).use ?_
  by_cases h6:inR (aO code i) 10 12=true
  ·simp-implicitDefEqProofs[h6,hbl,hw1,hw2,hq1,hv1,hm,hdd,hdv]
   exact⟨by omega,fin ⟨aO code i,aI code (i+1)%8,aI code (i+1)/8,0,0⟩ (by rw[hX];simp[mK,hJ,h1,h2,h4,h5,h6]) _ (by simp[below])⟩
  simp-implicitDefEqProofs[h6]
  by_cases h7:aO code i=14
  ·simp-implicitDefEqProofs[h7,hbl,hw1,hw2,hq1,hv1]
   exact⟨by omega,fin ⟨14,0,0,0,aI code (i+1)⟩ (by rw[hX,h7];rfl) _ (by simp[below])⟩
  simp-implicitDefEqProofs[h7,hbl,hw1,hw2,hq1,hv1]
  exact⟨by omega,fin ⟨aO code i,aI code (i+1),0,0,0⟩ (by rw[hX];simp[mK,hJ,h1,h2,h4,h5,h6,h7]) _ (by simp[below])⟩
end
section
variable (G:ay)
def shpT:List Int:=[2,0,1,2,2,2,2,2,2,2,1,1,1,3,4,0,0,0,0,3,5,5,3]
theorem uY(op:Int)(h:inR op 1 22=true):VF Tryz.prog G cR [.p (.int .i64 op)] (.p (.int .i64 (shpT.getD op.toNat 2))):=by
 refine AC.go tq ?_
 rcases zz h with rfl|rfl|rfl|rfl|rfl|rfl|rfl|rfl|rfl|rfl|rfl|rfl|rfl|rfl|rfl|rfl|rfl|rfl|rfl|rfl|rfl|rfl<;>simp-implicitDefEqProofs[mg,shpT]
theorem Dw(x:Mins)(hop:inR x.op 1 22=true)(hj:jmp x=false)(ha:inR x.a 0 7=true)(hb:inR x.b 0 7=true):
 AC Tryz.prog G cL [.agg (x.cs.map .p)] [] λr h=>r= .ret (.sl 0 1 0 (aM x).length)/\h=[bN (aM x)]:=by
 have key:AC Tryz.prog G cL [.agg (x.cs.map .p)] [] λr h=>r= .ret (.sl 1 1 0 (aM x).length)/\∃o,h=[o,bN (aM x)]:=by
  refine AC.go uf ?_
  simp-implicitDefEqProofs[lS]
  simp-implicitDefEqProofs[Mins.cs]
  refine(uY G x.op hop).use ?_
  simp[inR] at ha hb
  have hw:IntKind.u8.wrap (IntKind.u8.wrap x.a+IntKind.u8.wrap (8*IntKind.u8.wrap x.b))=IntKind.u8.wrap (x.a+8*x.b):=by
   simp[IntKind.wrap,IntKind.bits,IntKind.signed]
   omega
  obtain⟨op,a,b,c,n⟩:=x
  simp only at hop hj ha hb hw⊢
  rcases zz hop with rfl|rfl|rfl|rfl|rfl|rfl|rfl|rfl|rfl|rfl|rfl|rfl|rfl|rfl|rfl|rfl|rfl|rfl|rfl|rfl|rfl|rfl
  all_goals first
   |(simp[jmp] at hj;done)
   |simp-implicitDefEqProofs[shpT,aM,bN,u8,inR,hw]
 refine key.gc (λt v h ⟨e,_⟩=>by cases e) λv h ⟨e1,o,e2⟩=>?_
 cases e1;subst e2
 exact⟨.sl 0 1 0 (aM x).length,[bN (aM x)],⟨[1],by simp,by simp,by simp,by simp[below],by simp[ren],af rfl (by simp) aj⟩,rfl,rfl⟩
theorem mq(x:Mins)(hop:inR x.op 1 22=true)(hj:jmp x=false)(ha:inR x.a 0 7=true)(hb:inR x.b 0 7=true):VF Tryz.prog G cL [.agg (x.cs.map .p)] (.p (aN (aM x))):=
 AC.freeze (Dw G x hop hj ha hb) (.one (mr rfl) .nil)
def szl(ins:List Mins)(L:List Bool)(k:Nat):List Nat:=(List.zipWith aK ins L).take k
theorem Gv{ins:List Mins}{L:List Bool}{k i:Nat}(hk:i<k)(h1:i<ins.length)(h2:i<L.length):(szl ins L k)[i]?=some (aK ins[i] L[i]):=by
 rw[szl,List.getElem?_take,if_pos hk,List.getElem?_zipWith,List.getElem?_eq_getElem h1,List.getElem?_eq_getElem h2]
theorem Ej{ins:List Mins}{L:List Bool}{k:Nat}(h1:k<ins.length)(h2:k<L.length):szl ins L (k+1)=szl ins L k++[aK ins[k] L[k]]:=by
 have h:k<(List.zipWith aK ins L).length:=by simp;omega
 rw[szl,aq h];simp[szl]
theorem FN{ins:List Mins}{L:List Bool}{k:Nat}(h1:k<=ins.length)(h2:k<=L.length):(szl ins L k).length=k:=by simp[szl];omega
def aL(f:Mfn)(lv v1 v2:AV)(sz:Int):List AV:=[.p (.int .i64 f.params),.p (.int .i64 f.slots),.p (cT f.ins),lv,v1,v2,.p (.int .i64 sz)]
theorem zp{h:List AO}{id sid pid:Nat}{f:Mfn}{lv:AV}{sz:Int}{L:List Bool}{i:Nat}(hl:L.length=f.ins.length)(hf:gi f.ins)(h1:i<f.ins.length)(hj:jmp f.ins[i]=true)
 (e0:h[id]?=some (.row 7 [aL f lv (.sl sid 1 0 f.ins.length) (.sl pid 1 0 f.ins.length) sz]))(e1:h[sid]?=some (aw (szl f.ins L f.ins.length)))(e2:h[pid]?=some (aw (cN f.ins L f.ins.length))):
 AC Tryz.prog G co [.ptr id 7 0 0,.p (.int .i64 i)] h λr h'=>r= .ret (.p (.int .i64 ((plc f.ins L f.ins[i].n.toNat:Int)-plc f.ins L i-aK f.ins[i] (L[i]'(by omega)))))/\h'=h:=by
 refine AC.go lT ?_
 obtain⟨hn,hfi⟩:=hf
 obtain⟨q1,q2,q3,q4⟩:=hfi _ (List.getElem_mem h1)
 have q5:=q4 hj
 simp[inR] at q5
 have hnl:f.ins[i].n.toNat<f.ins.length:=by omega
 have hp1:=fx (ins:=f.ins) (L:=L) hnl
 have hp2:=fx (ins:=f.ins) (L:=L) h1
 have hs1:=Gv (ins:=f.ins) (L:=L) h1 h1 (by omega)
 have hle1:=js (ins:=f.ins) (L:=L) hl (i:=i)
 have hle2:=js (ins:=f.ins) (L:=L) hl (i:=f.ins[i].n.toNat)
 have hsb:=lq f.ins[i] (L[i]'(by omega))
 have hg1:=List.getElem?_eq_getElem h1
 have hi:∀l,aw l= .row 1 (l.map λ(n:Nat)=>[.p (.int .i64 (n:Int))]):=λ_=>rfl
 have hin:cT f.ins= .lst 5 (f.ins.map Mins.cs):=rfl
 rw[hi] at e1 e2
 have hwd1:IntKind.i64.wrap ((plc f.ins L f.ins[i].n.toNat:Int)-(plc f.ins L i:Int))=(plc f.ins L f.ins[i].n.toNat:Int)-(plc f.ins L i:Int):=ab (by omega) (by omega)
 have hwd2:IntKind.i64.wrap ((plc f.ins L f.ins[i].n.toNat:Int)-(plc f.ins L i:Int)-(aK f.ins[i] (L[i]'(by omega)):Int))=(plc f.ins L f.ins[i].n.toNat:Int)-(plc f.ins L i:Int)-(aK f.ins[i] (L[i]'(by omega)):Int):=ab (by omega) (by omega)
 simp-implicitDefEqProofs[gu,e0,aL,hin,hg1]
 simp-implicitDefEqProofs[Mins.cs,hp1,e1,e2,hp2,hs1,h1]
 refine⟨by omega,?_⟩
 simp-implicitDefEqProofs[e0,aL,hp1,e1,e2,hp2,hs1,h1,hwd1,hwd2]
theorem EJ(f:Mfn)(L:List Bool)(hl:L.length=f.ins.length)(hf:gi f.ins)(hpos:0<f.ins.length)(v1 v2:AV)(sz:Int)(o3 o4:AO)(ho3:okO 0 o3)(ho4:okO 0 o4):
 AC Tryz.prog G dH [.ptr 2 7 0 0] [.row 3 [f.cs.map .p],aE L,.row 7 [aL f (.sl 1 1 0 f.ins.length) v1 v2 sz],o3,o4]
  λr h'=>r= .ret (.tup [])/\h'=[.row 3 [f.cs.map .p],aE L,.row 7 [aL f (.sl 1 1 0 f.ins.length) (.sl 5 1 0 f.ins.length) (.sl 6 1 0 f.ins.length) (plc f.ins L f.ins.length)],o3,o4,aw (szl f.ins L f.ins.length),aw (cN f.ins L f.ins.length)]:=by
 obtain⟨hn,hfi⟩:=hf
 refine AC.go mi ?_
 have hin:cT f.ins= .lst 5 (f.ins.map Mins.cs):=rfl
 simp-implicitDefEqProofs[gz,aL]
 simp-implicitDefEqProofs[hin]
 refine az (λi:Nat=>aB 78 [(0,.ptr 2 7 0 0),(18,.p (cT f.ins)),(19,.p (.int .i64 f.ins.length)),(20,.p (.int .i64 i))])
  (λi=>if i=0 then[.row 3 [f.cs.map .p],aE L,.row 7 [aL f (.sl 1 1 0 f.ins.length) .nils .nils 0],o3,o4]
    else[.row 3 [f.cs.map .p],aE L,.row 7 [aL f (.sl 1 1 0 f.ins.length) (.sl 5 1 0 i) (.sl 6 1 0 i) (plc f.ins L i)],o3,o4,aw (szl f.ins L i),aw (cN f.ins L i)])
  (λi=>i<=f.ins.length) (λi=>f.ins.length-i) 0 (by simp) ?_ ?_
 ·refine cC [0,1,2,3,4] (by simp) (by decide) (by decide) (af rfl (by simp) (am rfl (by simp[-Bool.exists_bool,-Bool.forall_bool,okO,aE]) (aC (by simp[aL,below]) (by simp[aL,ren,aF];exact hin.symm) (am rfl ho3 (am rfl ho4 aj))))) ?_
  simp[below,ren]
  exact hin.symm
 ·intro i hi
  simp-implicitDefEqProofs[]
  refine bf (λh1=>?_) (λh1=>?_)
  ·simp at h1
   have h2:i<L.length:=by omega
   obtain⟨q1,q2,q3,q4⟩:=hfi _ (List.getElem_mem h1)
   have hg1:=List.getElem?_eq_getElem h1
   have hg2:=List.getElem?_eq_getElem h2
   have hbo:aE L= .row 1 (L.map λb=>[.p (.bool b)]):=rfl
   have hle:=js (ins:=f.ins) (L:=L) hl (i:=i)
   have hle2:=js (ins:=f.ins) (L:=L) hl (i:=i+1)
   have hps:=oD h1 h2
   have hss:=Ej h1 h2
   have hqs:=vv f.ins L i
   have hsl:=FN (ins:=f.ins) (L:=L) (k:=i) (by omega) (by omega)
   have hql:=ik f.ins L i
   have hii:∀l,aw l= .row 1 (l.map λ(n:Nat)=>[.p (.int .i64 (n:Int))]):=λ_=>rfl
   have hbl:∀l,aN l= .lst 1 (l.map λn=>[.int .u8 n]):=λ_=>rfl
   have hw:IntKind.i64.wrap ((plc f.ins L i:Int)+(aK f.ins[i] L[i]:Int))=((plc f.ins L (i+1):Nat):Int):=by rw[ab (by omega) (by omega),hps];omega
   have w2:IntKind.i64.wrap 2=2:=rfl
   have w3:IntKind.i64.wrap 3=3:=rfl
   have w4:IntKind.i64.wrap 4=4:=rfl
   rcases Nat.eq_zero_or_pos i with hi0|hi0
   ·have hz:(i=0)=True:=by simp[hi0]
    have hs0:szl f.ins L i=[]:=by rw[hi0];simp[szl]
    have hq0:cN f.ins L i=[]:=by rw[hi0];simp[cN]
    have hp0:plc f.ins L i=0:=by rw[hi0];exact tg _ _
    by_cases hj:jmp f.ins[i]=true
    rotate_left
    ·have hsz:aK f.ins[i] L[i]=(aM f.ins[i]).length:=by simp[aK,hj]
     have hjo:(f.ins[i].op==20||f.ins[i].op==21)=false:=by simpa[jmp] using hj
     have hpl:=eV f.ins[i]
     have hwv:IntKind.i64.wrap (((aM f.ins[i]).length:Int))=((plc f.ins L (i+1):Nat):Int):=by rw[ab (by omega) (by omega),hps,hp0,hsz];omega
     simp-implicitDefEqProofs[hz,hin,hg1]
     simp-implicitDefEqProofs[Mins.cs]
     refine(aY G _).use ?_
     simp-implicitDefEqProofs[hjo]
     refine(mq G f.ins[i] q3 (by simpa using hj) q1 q2).use ?_
     simp-implicitDefEqProofs[hbl,aL,hii,hsl,hql,hwv,hz]
     refine⟨i+1,h1,by omega,?_⟩
     rw[if_neg (by omega)]
     refine cC [0,1,2,3,4,6,7] (by simp) (by decide) (by decide) (af rfl (by simp) (am rfl (by simp[-Bool.exists_bool,-Bool.forall_bool,okO,aE]) (aC (by simp[aL,below]) (by simp[aL,ren,aF];exact hi0) (am rfl ho3 (am rfl ho4 (af (by simp[hs0,hq0,hp0,hss,hsz,List.take_of_length_le,hsl]) (by simp) (af (by simp[hs0,hq0,hp0,hqs,List.take_of_length_le,hql]) (by simp) aj))))))) ?_
     simp[below,ren,w1 (i:=i) (by omega)]
    ·have hc2:f.ins[i].op=20\/f.ins[i].op=21:=by simpa[jmp] using hj
     cases hLi:L[i] with
     |true=>
      rcases hc2 with e|e
      ·have hsz:aK f.ins[i] L[i]=3:=by simp[aK,hj,hLi,e]
       have hpv:plc f.ins L (i+1)=3:=by rw[hps,hp0,hsz]
       simp-implicitDefEqProofs[hz,hin,hg1]
       simp-implicitDefEqProofs[Mins.cs]
       refine(aY G _).use ?_
       simp-implicitDefEqProofs[e,aL,hbo,h1,hg2,hLi,hii,hsl,hql,w2,w3,w4,hz,hl]
       refine⟨i+1,h1,by omega,?_⟩
       rw[if_neg (by omega)]
       refine cC [0,1,2,3,4,6,7] (by simp) (by decide) (by decide) (af rfl (by simp) (am rfl (by simp[-Bool.exists_bool,-Bool.forall_bool,okO,aE]) (aC (by simp[aL,below]) (by simp[aL,ren,aF,hpv];exact hi0) (am rfl ho3 (am rfl ho4 (af (by simp[hs0,hq0,hp0,hss,hsz,List.take_of_length_le,hsl]) (by simp) (af (by simp[hs0,hq0,hp0,hqs,List.take_of_length_le,hql]) (by simp) aj))))))) ?_
       simp[below,ren,w1 (i:=i) (by omega)]
      ·have hsz:aK f.ins[i] L[i]=4:=by simp[aK,hj,hLi,e]
       have hpv:plc f.ins L (i+1)=4:=by rw[hps,hp0,hsz]
       simp-implicitDefEqProofs[hz,hin,hg1]
       simp-implicitDefEqProofs[Mins.cs]
       refine(aY G _).use ?_
       simp-implicitDefEqProofs[e,aL,hbo,h1,hg2,hLi,hii,hsl,hql,w2,w3,w4,hz,hl]
       refine⟨i+1,h1,by omega,?_⟩
       rw[if_neg (by omega)]
       refine cC [0,1,2,3,4,6,7] (by simp) (by decide) (by decide) (af rfl (by simp) (am rfl (by simp[-Bool.exists_bool,-Bool.forall_bool,okO,aE]) (aC (by simp[aL,below]) (by simp[aL,ren,aF,hpv];exact hi0) (am rfl ho3 (am rfl ho4 (af (by simp[hs0,hq0,hp0,hss,hsz,List.take_of_length_le,hsl]) (by simp) (af (by simp[hs0,hq0,hp0,hqs,List.take_of_length_le,hql]) (by simp) aj))))))) ?_
       simp[below,ren,w1 (i:=i) (by omega)]
     |false=>
      rcases hc2 with e|e
      ·have hsz:aK f.ins[i] L[i]=2:=by simp[aK,hj,hLi,e]
       have hpv:plc f.ins L (i+1)=2:=by rw[hps,hp0,hsz]
       simp-implicitDefEqProofs[hz,hin,hg1]
       simp-implicitDefEqProofs[Mins.cs]
       refine(aY G _).use ?_
       simp-implicitDefEqProofs[e,aL,hbo,h1,hg2,hLi,hii,hsl,hql,w2,w3,w4,hz,hl]
       refine⟨i+1,h1,by omega,?_⟩
       rw[if_neg (by omega)]
       refine cC [0,1,2,3,4,6,7] (by simp) (by decide) (by decide) (af rfl (by simp) (am rfl (by simp[-Bool.exists_bool,-Bool.forall_bool,okO,aE]) (aC (by simp[aL,below]) (by simp[aL,ren,aF,hpv];exact hi0) (am rfl ho3 (am rfl ho4 (af (by simp[hs0,hq0,hp0,hss,hsz,List.take_of_length_le,hsl]) (by simp) (af (by simp[hs0,hq0,hp0,hqs,List.take_of_length_le,hql]) (by simp) aj))))))) ?_
       simp[below,ren,w1 (i:=i) (by omega)]
      ·have hsz:aK f.ins[i] L[i]=3:=by simp[aK,hj,hLi,e]
       have hpv:plc f.ins L (i+1)=3:=by rw[hps,hp0,hsz]
       simp-implicitDefEqProofs[hz,hin,hg1]
       simp-implicitDefEqProofs[Mins.cs]
       refine(aY G _).use ?_
       simp-implicitDefEqProofs[e,aL,hbo,h1,hg2,hLi,hii,hsl,hql,w2,w3,w4,hz,hl]
       refine⟨i+1,h1,by omega,?_⟩
       rw[if_neg (by omega)]
       refine cC [0,1,2,3,4,6,7] (by simp) (by decide) (by decide) (af rfl (by simp) (am rfl (by simp[-Bool.exists_bool,-Bool.forall_bool,okO,aE]) (aC (by simp[aL,below]) (by simp[aL,ren,aF,hpv];exact hi0) (am rfl ho3 (am rfl ho4 (af (by simp[hs0,hq0,hp0,hss,hsz,List.take_of_length_le,hsl]) (by simp) (af (by simp[hs0,hq0,hp0,hqs,List.take_of_length_le,hql]) (by simp) aj))))))) ?_
       simp[below,ren,w1 (i:=i) (by omega)]
   ·have hi1:¬i=0:=by omega
    by_cases hj:jmp f.ins[i]=true
    rotate_left
    ·have hsz:aK f.ins[i] L[i]=(aM f.ins[i]).length:=by simp[aK,hj]
     have hjo:(f.ins[i].op==20||f.ins[i].op==21)=false:=by simpa[jmp] using hj
     have hpl:=eV f.ins[i]
     have hwv:IntKind.i64.wrap ((plc f.ins L i:Int)+((aM f.ins[i]).length:Int))=((plc f.ins L (i+1):Nat):Int):=by rw[ab (by omega) (by omega),hps,hsz];omega
     simp-implicitDefEqProofs[hi1,hin,hg1]
     simp-implicitDefEqProofs[Mins.cs]
     refine(aY G _).use ?_
     simp-implicitDefEqProofs[hjo]
     refine(mq G f.ins[i] q3 (by simpa using hj) q1 q2).use ?_
     simp-implicitDefEqProofs[hbl,aL,hii,hsl,hql,hwv,hi1]
     refine⟨⟨by omega,by omega⟩,i+1,h1,by omega,?_⟩
     rw[if_neg (by omega)]
     refine cC [0,1,2,3,4,8,9] (by simp) (by decide) (by decide) (af rfl (by simp) (am rfl (by simp[-Bool.exists_bool,-Bool.forall_bool,okO,aE]) (aC (by simp[aL,below]) (by simp[aL,ren,aF]) (am rfl ho3 (am rfl ho4 (af (by simp[hss,hsz,List.take_of_length_le,hsl]) (by simp) (af (by simp[hqs,List.take_of_length_le,hql]) (by simp) aj))))))) ?_
     simp[below,ren,w1 (i:=i) (by omega)]
    ·have hc2:f.ins[i].op=20\/f.ins[i].op=21:=by simpa[jmp] using hj
     cases hLi:L[i] with
     |true=>
      rcases hc2 with e|e
      ·have hsz:aK f.ins[i] L[i]=3:=by simp[aK,hj,hLi,e]
       have hwv:IntKind.i64.wrap ((plc f.ins L i:Int)+3)=((plc f.ins L (i+1):Nat):Int):=by rw[ab (by omega) (by omega),hps,hsz];omega
       simp-implicitDefEqProofs[hi1,hin,hg1]
       simp-implicitDefEqProofs[Mins.cs]
       refine(aY G _).use ?_
       simp-implicitDefEqProofs[e,aL,hbo,h1,hg2,hLi,hii,hsl,hql,hwv,w3,w4,hi1,hl]
       refine⟨⟨by omega,by omega⟩,i+1,h1,by omega,?_⟩
       rw[if_neg (by omega)]
       refine cC [0,1,2,3,4,8,9] (by simp) (by decide) (by decide) (af rfl (by simp) (am rfl (by simp[-Bool.exists_bool,-Bool.forall_bool,okO,aE]) (aC (by simp[aL,below]) (by simp[aL,ren,aF]) (am rfl ho3 (am rfl ho4 (af (by simp[hss,hsz,List.take_of_length_le,hsl]) (by simp) (af (by simp[hqs,List.take_of_length_le,hql]) (by simp) aj))))))) ?_
       simp[below,ren,w1 (i:=i) (by omega)]
      ·have hsz:aK f.ins[i] L[i]=4:=by simp[aK,hj,hLi,e]
       have hwv:IntKind.i64.wrap ((plc f.ins L i:Int)+4)=((plc f.ins L (i+1):Nat):Int):=by rw[ab (by omega) (by omega),hps,hsz];omega
       simp-implicitDefEqProofs[hi1,hin,hg1]
       simp-implicitDefEqProofs[Mins.cs]
       refine(aY G _).use ?_
       simp-implicitDefEqProofs[e,aL,hbo,h1,hg2,hLi,hii,hsl,hql,hwv,w3,w4,hi1,hl]
       refine⟨⟨by omega,by omega⟩,i+1,h1,by omega,?_⟩
       rw[if_neg (by omega)]
       refine cC [0,1,2,3,4,8,9] (by simp) (by decide) (by decide) (af rfl (by simp) (am rfl (by simp[-Bool.exists_bool,-Bool.forall_bool,okO,aE]) (aC (by simp[aL,below]) (by simp[aL,ren,aF]) (am rfl ho3 (am rfl ho4 (af (by simp[hss,hsz,List.take_of_length_le,hsl]) (by simp) (af (by simp[hqs,List.take_of_length_le,hql]) (by simp) aj))))))) ?_
       simp[below,ren,w1 (i:=i) (by omega)]
     |false=>
      rcases hc2 with e|e
      ·have hsz:aK f.ins[i] L[i]=2:=by simp[aK,hj,hLi,e]
       have hwv:IntKind.i64.wrap ((plc f.ins L i:Int)+2)=((plc f.ins L (i+1):Nat):Int):=by rw[ab (by omega) (by omega),hps,hsz];omega
       simp-implicitDefEqProofs[hi1,hin,hg1]
       simp-implicitDefEqProofs[Mins.cs]
       refine(aY G _).use ?_
       simp-implicitDefEqProofs[e,aL,hbo,h1,hg2,hLi,hii,hsl,hql,hwv,w3,w4,hi1,hl]
       refine⟨⟨by omega,by omega⟩,i+1,h1,by omega,?_⟩
       rw[if_neg (by omega)]
       refine cC [0,1,2,3,4,8,9] (by simp) (by decide) (by decide) (af rfl (by simp) (am rfl (by simp[-Bool.exists_bool,-Bool.forall_bool,okO,aE]) (aC (by simp[aL,below]) (by simp[aL,ren,aF]) (am rfl ho3 (am rfl ho4 (af (by simp[hss,hsz,List.take_of_length_le,hsl]) (by simp) (af (by simp[hqs,List.take_of_length_le,hql]) (by simp) aj))))))) ?_
       simp[below,ren,w1 (i:=i) (by omega)]
      ·have hsz:aK f.ins[i] L[i]=3:=by simp[aK,hj,hLi,e]
       have hwv:IntKind.i64.wrap ((plc f.ins L i:Int)+3)=((plc f.ins L (i+1):Nat):Int):=by rw[ab (by omega) (by omega),hps,hsz];omega
       simp-implicitDefEqProofs[hi1,hin,hg1]
       simp-implicitDefEqProofs[Mins.cs]
       refine(aY G _).use ?_
       simp-implicitDefEqProofs[e,aL,hbo,h1,hg2,hLi,hii,hsl,hql,hwv,w3,w4,hi1,hl]
       refine⟨⟨by omega,by omega⟩,i+1,h1,by omega,?_⟩
       rw[if_neg (by omega)]
       refine cC [0,1,2,3,4,8,9] (by simp) (by decide) (by decide) (af rfl (by simp) (am rfl (by simp[-Bool.exists_bool,-Bool.forall_bool,okO,aE]) (aC (by simp[aL,below]) (by simp[aL,ren,aF]) (am rfl ho3 (am rfl ho4 (af (by simp[hss,hsz,List.take_of_length_le,hsl]) (by simp) (af (by simp[hqs,List.take_of_length_le,hql]) (by simp) aj))))))) ?_
       simp[below,ren,w1 (i:=i) (by omega)]
  ·simp at h1
   have hie:i=f.ins.length:=by omega
   subst hie
   have hne:¬f.ins.length=0:=by omega
   have hne':¬f.ins=[]:=λe=>by rw[e] at hpos;simp at hpos
   simp-implicitDefEqProofs[hne,hne',aL,hin]
end
section
def cz(m:Nat)(x:Mins):Nat:=if x.op=14 then max m ((if 4<x.n then 4 else x.n)+1).toNat else m
def nD(ins:List Mins)(i:Nat):Nat:=(ins.take i).foldl cz 0
theorem vr{ins:List Mins}{i:Nat}(h:i<ins.length):nD ins (i+1)=cz (nD ins i) ins[i]:=by rw[nD,aq h,List.foldl_append];rfl
theorem Gy(ins:List Mins):∀i,nD ins i<=5:=by
 have key:∀(l:List Mins) (m:Nat),m<=5->l.foldl cz m<=5:=by
  intro l
  induction l with
  |nil=>intro m h;exact h
  |cons x r ih=>
   intro m h
   refine ih _ ?_
   unfold cz
   by_cases h14:x.op=14
   ·rw[if_pos h14]
    by_cases h4:4<x.n
    ·rw[if_pos h4];omega
    ·rw[if_neg h4];omega
   ·rw[if_neg h14];exact h
 exact λi=>key _ _ (by omega)
theorem Ei(f:Mfn):bF (aV (nD f.ins f.ins.length) f)=bF (aV (cn f.ins) f):=by
 have he:nD f.ins f.ins.length=f.ins.foldl cz 0:=by rw[nD,List.take_of_length_le (Nat.le_refl _)]
 rw[he]
 by_cases h:∀x∈f.ins,x.op=14->x.n<4
 ·have key:∀(l:List Mins) (m:Nat),(∀x∈l,x.op=14->x.n<4)->l.foldl cz m=l.foldl cJ m:=by
   intro l
   induction l with
   |nil=>intro m _;rfl
   |cons x r ih=>
    intro m hl
    have h1:=hl x (by simp)
    have e:cz m x=cJ m x:=by
     unfold cz cJ
     by_cases h14:x.op=14
     ·have h2:=h1 h14
      rw[if_pos h14,if_neg (by omega)]
      by_cases hm:(m:Int)<=x.n
      ·rw[if_pos ⟨h14,hm,h2⟩];omega
      ·rw[if_neg (by omega)];omega
     ·rw[if_neg h14,if_neg (by simp[h14])]
    rw[List.foldl_cons,List.foldl_cons,e]
    exact ih _ λx hx=>hl x (by simp[hx])
  rw[key _ _ h];rfl
 ·have h':∃x∈f.ins,x.op=14/\4<=x.n:=by
   refine Classical.byContradiction λhn=>h λx hx h14=>?_
   refine Classical.byContradiction λhlt=>hn ⟨x,hx,h14,by omega⟩
  obtain⟨x,hx,h14,hx4⟩:=h'
  have e1:bF (aV (f.ins.foldl cz 0) f)=false:=by
   have mono:∀(l:List Mins) (m:Nat),m<=l.foldl cz m:=by
    intro l
    induction l with
    |nil=>intro m;exact Nat.le_refl _
    |cons y r ih=>intro m;exact Nat.le_trans (by unfold cz;split;exact Nat.le_max_left _ _;exact Nat.le_refl _) (ih _)
   have big:∀(l:List Mins) (m:Nat),x∈l->5<=l.foldl cz m:=by
    intro l
    induction l with
    |nil=>intro m h;simp at h
    |cons y r ih=>
     intro m h
     rcases List.mem_cons.1 h with rfl|h
     ·refine Nat.le_trans ?_ (mono r _)
      unfold cz;rw[if_pos h14]
      by_cases h5:4<x.n
      ·rw[if_pos h5];omega
      ·rw[if_neg h5];omega
     ·exact ih _ h
   have:=big f.ins 0 hx
   have hl:inR (aV (f.ins.foldl cz 0) f).length 1 4=false:=by simp[inR,aV];omega
   simp[bF,hl]
  have e2:bF (aV (cn f.ins) f)=false:=by
   have hm:=lW f.ins f.ins.length
   have he2:dW f.ins f.ins.length=cn f.ins:=by rw[dW,List.take_of_length_le (Nat.le_refl _)];rfl
   refine fz (i:=cn f.ins) (f:=f) (by simp[aV]) ?_
   have:f.ins.all (gB f.params f.slots f.ins.length (cn f.ins))=false:=by
    rw[List.all_eq_false]
    refine⟨x,hx,?_⟩
    have:inR x.n 0 ((cn f.ins:Int)-1)=false:=by simp[inR];omega
    simp[pH,fN,re,h14,this,inR]
    try (intros;omega)
   simp[gm,this]
  rw[e1,e2]
variable (G:ay)
theorem Gj(e:Nat)(he:e<=5):VF Tryz.prog G ft [.p (.int .u64 1),.p (.int .u64 e)] (.tup [.p (.int .u64 0),.p (.int .u64 e)]):=by
 refine AC.go oN ?_
 have:e=0\/e=1\/e=2\/e=3\/e=4\/e=5:=by omega
 rcases this with rfl|rfl|rfl|rfl|rfl|rfl<;>simp-implicitDefEqProofs[iR,IntKind.wrap,IntKind.bits,IntKind.signed]
theorem Jh(e:Nat)(he:e<=5):VF Tryz.prog G gG [.p (.int .u64 1),.p (.int .u64 e)] (.tup [.p (.int .u64 0),.p (.int .u64 e)]):=by
 refine AC.go sa ?_
 simp-implicitDefEqProofs[kU]
 refine(Gj G e he).use ?_
 simp-implicitDefEqProofs
def nt(n e:Nat):List (List AV):=List.replicate n (backF.cs.map .p)++List.replicate (e-n) dq
theorem Ey{n e:Nat}(h:n<=e):(nt n e).length=e:=by simp[nt];omega
theorem CV{n e:Nat}(h:n<=e):List.take n (nt n e)++List.take (e-n) (List.take n (nt n e))++List.drop (n+min n (e-n)) (nt n e)=nt (n+min n (e-n)) e:=by
 have h1:List.take n (nt n e)=List.replicate n (backF.cs.map .p):=by rw[nt,List.take_left' (by simp)]
 rw[h1,List.take_replicate,nt,List.drop_append,List.drop_replicate,List.drop_replicate,List.length_replicate,nt]
 rw[show n-(n+min n (e-n))=0 by omega,show e-n-(n+min n (e-n)-n)=e-(n+min n (e-n)) by omega,List.replicate_zero,List.nil_append,←List.replicate_append_replicate,Nat.min_comm (e-n) n,List.append_assoc]
theorem DN(n e:Nat):∀x∈nt n e,aa 0 x:=by
 intro x hx
 rcases List.mem_append.1 hx with h|h
 ·rw[List.eq_of_mem_replicate h];simp[backF,Mfn.cs,below,aa]
 ·rw[List.eq_of_mem_replicate h];simp[dq,below,aa]
theorem Ec(o:AO)(ho:okO 0 o)(e:Nat)(he:e<=5):AC Tryz.prog G cw [.p (.lst 3 [backF.cs]),.p (.int .i64 e)] [o] λr h=>r= .ret (.sl 1 3 0 e)/\h=[o,.row 3 (List.replicate e (backF.cs.map .p))]:=by
 refine AC.go jw ?_
 have w1':IntKind.u64.wrap 1=1:=rfl
 have we:IntKind.u64.wrap (e:Int)=e:=by simp[IntKind.wrap,IntKind.bits,IntKind.signed];omega
 have wi:IntKind.i64.wrap (e:Int)=e:=ab (by omega) (by omega)
 simp-implicitDefEqProofs[ej,w1',we]
 refine(Jh G e he).use ?_
 have hng:¬(9223372036854775807:Int)<e:=by omega
 simp-implicitDefEqProofs[hng,wi]
 refine⟨by omega,?_⟩
 refine az (λn:Nat=>aB 48 [(7,.sl 1 3 0 e),(8,.p (.int .i64 n))]) (λn=>[o,.row 3 (nt n e)]) (λn=>n<=e/\(e=0\/0<n)) (λn=>e-n) (min 1 e) (by omega) ?_ ?_
 ·have:(List.take e [List.map AV.p backF.cs]++List.replicate (e-min 1 e) [AV.p (PV.int IntKind.i64 0),AV.p (PV.int IntKind.i64 0),AV.nils])=nt (min 1 e) e:=by
   rcases Nat.eq_zero_or_pos e with rfl|h
   ·rfl
   ·rw[show min 1 e=1 by omega,nt,List.take_of_length_le (by simp;omega)];rfl
  rw[this]
  exact cC [0,1] (by simp) (by decide) (by decide) (am rfl ho (af rfl (DN _ _) aj)) (by simp[below,ren])
 ·intro n ⟨hn,hp⟩
  have hl:=Ey hn
  simp-implicitDefEqProofs[]
  refine bf (λh1=>?_) (λh1=>?_)
  ·simp at h1
   simp-implicitDefEqProofs[hl]
   refine⟨by omega,?_⟩
   have hne:n+(e-n)<=e:=by omega
   have hrs:=CV hn
   rw[List.append_assoc] at hrs
   have w2:IntKind.i64.wrap ((n:Int)+(min n (e-n):Nat))=((n+min n (e-n):Nat):Int):=by rw[ab (by omega) (by omega)];omega
   simp-implicitDefEqProofs[hn,hne,hl,hrs,Nat.min_eq_left hn,w2]
   exact⟨n+min n (e-n),⟨by omega,by omega⟩,by omega,cC [0,1] (by simp) (by decide) (by decide) (am rfl ho (af rfl (DN _ _) aj)) (by simp[below,ren])⟩
  ·simp at h1
   have:n=e:=by omega
   subst this
   simp-implicitDefEqProofs[nt]
end
section
variable (G:ay)
structure LS where
 again:Bool
 first:Bool
 L:List Bool
 sz:Int
 o3:AO
 o4:AO
structure IS where
 fst:Nat
 snd:Bool
def LS.row(f:Mfn)(a:LS):AO:= .row 7 [aL f (.sl 1 1 0 f.ins.length) (if a.first then .nils else .sl 3 1 0 f.ins.length) (if a.first then .nils else .sl 4 1 0 f.ins.length) a.sz]
def LS.inv(f:Mfn)(a:LS):Prop:=a.L.length=f.ins.length/\okO 0 a.o3/\okO 0 a.o4/\
 (if a.again then tQ f.ins a.L=bA f.ins else a.first=false/\a.L=bA f.ins/\a.sz=plc f.ins a.L f.ins.length/\a.o3=aw (szl f.ins a.L f.ins.length)/\a.o4=aw (cN f.ins a.L f.ins.length))
theorem kw{e:Nat}{f:Mfn}(h:bF (aV e f)=true):0<f.ins.length:=by
 simp only[bF,Bool.and_eq_true] at h
 have:=jI h.2 (i:=e) (f:=f) (by simp[aV])
 simp only[gm,Bool.and_eq_true] at this
 have h1:=this.1.2
 rcases Nat.eq_zero_or_pos f.ins.length with h0|h0
 ·rw[List.length_eq_zero_iff] at h0
  rw[h0] at h1;simp[iq] at h1
 ·exact h0
variable (hG:G bX=some pvForms)
include hG
theorem rq(f:Mfn)(hn:f.ins.length<=1000000)(hlo:∀x∈f.ins,x.op=14-> -9223372036854775808<=x.n):AC Tryz.prog G cf [.agg (f.cs.map .p)] [] λr h=>
 if aD f then r= .ret (.ptr 2 7 0 0)/\h=[.row 3 [f.cs.map .p],aE (bA f.ins),.row 7 [aL f (.sl 1 1 0 f.ins.length) (.sl 3 1 0 f.ins.length) (.sl 4 1 0 f.ins.length) (plc f.ins (bA f.ins) f.ins.length)],aw (szl f.ins (bA f.ins) f.ins.length),aw (cN f.ins (bA f.ins) f.ins.length)]
 else r= .ret .nilp:=by
 refine AC.go sh ?_
 simp-implicitDefEqProofs[kL]
 simp-implicitDefEqProofs[Mfn.cs]
 refine az (λi:Nat=>aB 92 [(1,.ptr 0 3 0 0),(3,.p (.int .i64 (nD f.ins i))),(12,.p (cT f.ins)),(13,.p (.int .i64 f.ins.length)),(14,.p (.int .i64 i))]) (λ_=>[.row 3 [f.cs.map .p]])
  (λi=>i<=f.ins.length) (λi=>f.ins.length-i) 0 (by simp) ?_ ?_
 ·refine aZ (by simp) (by simp[okO,Mfn.cs]) ?_
  simp[below,nD,cT,Mfn.cs]
 ·intro i hi
  have hin:cT f.ins= .lst 5 (f.ins.map Mins.cs):=rfl
  have hle:=Gy f.ins i
  simp-implicitDefEqProofs[hin]
  refine bf (λh1=>?_) (λh1=>?_)
  ·simp at h1
   have hg1:=List.getElem?_eq_getElem h1
   simp-implicitDefEqProofs[hg1]
   by_cases h14:f.ins[i].op=14
   ·have hw:IntKind.i64.wrap ((if 4<f.ins[i].n then 4 else f.ins[i].n)+1)=(if 4<f.ins[i].n then 4 else f.ins[i].n)+1:=by
     have:=hlo _ (List.getElem_mem h1) h14
     split<;>exact ab (by omega) (by omega)
    have he:(if(nD f.ins i:Int)<(if 4<f.ins[i].n then 4 else f.ins[i].n)+1 then(if 4<f.ins[i].n then 4 else f.ins[i].n)+1 else(nD f.ins i:Int))=((nD f.ins (i+1):Nat):Int):=by
     rw[vr h1,cz,if_pos h14]
     by_cases h4:4<f.ins[i].n
     ·simp only[if_pos h4];omega
     ·simp only[if_neg h4];omega
    simp-implicitDefEqProofs[hg1,Mins.cs,h14,hw,he]
    refine⟨i+1,h1,by omega,an [0] rfl (by decide) (af rfl (by simp[aa,Mfn.cs]) aj) ?_⟩
    simp[below,ren,w1 (i:=i) (by omega)]
   ·have hw:nD f.ins (i+1)=nD f.ins i:=by rw[vr h1,cz,if_neg h14]
    simp-implicitDefEqProofs[hg1,Mins.cs,h14]
    refine⟨i+1,h1,by omega,an [0] rfl (by decide) (af rfl (by simp[aa,Mfn.cs]) aj) ?_⟩
    simp[below,ren,w1 (i:=i) (by omega),hw]
  ·simp at h1
   have:i=f.ins.length:=by omega
   subst this
   simp-implicitDefEqProofs[]
   have hbc:backF.cs=[.int .i64 0,.int .i64 0,.lst 5 [[.int .i64 22,.int .i64 0,.int .i64 0,.int .i64 0,.int .i64 0]]]:=rfl
   generalize hee:nD f.ins f.ins.length=e at*
   refine(Ec G (.row 3 [f.cs.map .p]) (by simp[okO,Mfn.cs]) e hle).mono ?_
   rintro r h ⟨rfl,rfl⟩
   simp-implicitDefEqProofs[kO,ag]
   refine⟨⟨by omega,by omega⟩,?_⟩
   have hv:View [AO.row 3 [List.map AV.p f.cs],AO.dead,AO.row 3 (List.replicate e (List.map AV.p backF.cs)++[[AV.p (PV.int IntKind.i64 f.params),AV.p (PV.int IntKind.i64 f.slots),AV.p (PV.lst 5 (List.map Mins.cs f.ins))]]),AO.row 1 [[AV.sl 2 3 0 (e+1)]]] (.sl 2 3 0 (e+1)) (dQ (aV e f)):=
    en (ls:=(aV e f).map Mfn.cs) (by simp[aV,Mfn.cs]) (by simp[aV]) (λl hl=>by obtain⟨x,_,rfl⟩:=List.mem_map.1 hl;rfl)
   refine(VF.lend (zb G hG (aV e f) (by rw[uT];omega)) (.agg (.one hv .nil) .nil) rfl).mono ?_
   rintro r h ⟨rfl,rfl⟩
   have hae:bF (aV e f)=bF (aV (cn f.ins) f):=by rw[←hee];exact Ei f
   simp-implicitDefEqProofs[hae]
   refine bf (λh2=>?_) (λh2=>?_)
   ·simp at h2
    have hc:aD f=false:=by simp[aD,h2]
    simp-implicitDefEqProofs[hc]
   ·simp at h2
    have hf:=bS h2
    have hmn:f.ins.length<=2000:=hf.1
    simp-implicitDefEqProofs[Mfn.cs,cT]
    refine⟨by omega,?_⟩
    have hpos:=kw h2
    refine az (λa:LS=>aB 92 [(1,.ptr 0 3 0 0),(7,.ptr 2 7 0 0),(8,.p (.bool a.again))]) (λa=>[.row 3 [f.cs.map .p],aE a.L,a.row f,a.o3,a.o4])
     (λa=>a.inv f) (λa=>2*fU a.L+(if a.again then 1 else 0)) ⟨true,true,List.replicate f.ins.length false,0,.dead,.dead⟩ (by simp[LS.inv,bA,okO]) ?_ ?_
    ·refine an [0,4,5,1,3] rfl (by decide) (af rfl (by simp[aa,Mfn.cs]) (am (by simp[aE]) (by simp[-Bool.exists_bool,-Bool.forall_bool,okO,aE]) (aC (by simp[aL,below]) (by simp[aL,ren,aF];exact hin.symm) (bW (by simp) (bW (by simp) aj))))) ?_
     simp[below,ren]
    ·rintro⟨again,first,L,sz,o3,o4⟩ ⟨hL,ho3,ho4,hfix⟩
     simp only at hL ho3 ho4 hfix
     simp-implicitDefEqProofs[]
     refine bf (λh3=>?_) (λh3=>?_)
     ·subst h3
      simp only[if_true] at hfix
      simp-implicitDefEqProofs[]
      refine AC.mono (EJ G f L hL hf hpos _ _ sz o3 o4 ho3 ho4) ?_
      rintro r h ⟨rfl,rfl⟩
      have hbo:∀l,aE l= .row 1 (l.map λb=>[.p (.bool b)]):=λ_=>rfl
      simp-implicitDefEqProofs[ag]
      simp-implicitDefEqProofs[Mfn.cs,hin]
      have hrl:=di f.ins L
      have hn0:L=bC f.ins L 0:=by simp[bC]
      refine az (λa:IS=>aB 92 [(1,.ptr 0 3 0 0),(7,.ptr 2 7 0 0),(8,.p (.bool a.snd)),(52,.p (cT f.ins)),(53,.p (.int .i64 f.ins.length)),(54,.p (.int .i64 a.fst))])
       (λa=>[.row 3 [f.cs.map .p],aE (bC f.ins L a.fst),.row 7 [aL f (.sl 1 1 0 f.ins.length) (.sl 5 1 0 f.ins.length) (.sl 6 1 0 f.ins.length) (plc f.ins L f.ins.length)],o3,o4,aw (szl f.ins L f.ins.length),aw (cN f.ins L f.ins.length)])
       (λa=>a.fst<=f.ins.length/\(a.snd=false->(bB f.ins L).take a.fst=L.take a.fst)/\(a.snd=true->bB f.ins L≠L)) (λa=>f.ins.length-a.fst) ⟨0,false⟩ (by simp) ?_ ?_
      ·rw[←hn0]
       refine an [0,1,2,3,4,5,6] rfl (by decide) (af rfl (by simp[aa,Mfn.cs]) (am rfl (by simp[-Bool.exists_bool,-Bool.forall_bool,okO,aE]) (aC (by simp[aL,below]) (by simp[aL,ren,aF]) (am rfl ho3 (am rfl ho4 (am rfl (by simp[okO,aw]) (am rfl (by simp[okO,aw]) aj))))))) ?_
       simp[below,ren,hin]
      ·rintro⟨i,c⟩ ⟨hi,hc0,hc1⟩
       simp only at hi hc0 hc1
       simp-implicitDefEqProofs[hin]
       refine bf (λh3=>?_) (λh3=>?_)
       ·simp at h3
        have h4:i<L.length:=by omega
        obtain⟨q1,q2,q3,q4⟩:=hf.2 _ (List.getElem_mem h3)
        have hg1:=List.getElem?_eq_getElem h3
        have hg2:=List.getElem?_eq_getElem h4
        have hng:=nA (ins:=f.ins) h4
        have hrg:=nL (ins:=f.ins) h4
        have hnl:=nq (ins:=f.ins) (L:=L) (i:=i) (by omega)
        have hstay:(L[i]||ib f.ins L i)=L[i]->((⟨i+1,c⟩:IS).fst<=f.ins.length/\((⟨i+1,c⟩:IS).snd=false->(bB f.ins L).take (⟨i+1,c⟩:IS).fst=L.take (⟨i+1,c⟩:IS).fst)/\((⟨i+1,c⟩:IS).snd=true->bB f.ins L≠L)):=λhs=>by
         refine⟨h3,λhc=>?_,hc1⟩
         show(bB f.ins L).take (i+1)=L.take (i+1)
         rw[aq (by rw[hrl];exact h4),aq h4,hc0 hc,hrg,hs]
        simp-implicitDefEqProofs[hg1]
        simp-implicitDefEqProofs[Mins.cs]
        refine(aY G _).use ?_
        by_cases hj:jmp f.ins[i]=true
        ·have hjo:(f.ins[i].op==20||f.ins[i].op==21)=true:=by simpa[jmp] using hj
         simp-implicitDefEqProofs[hjo,aL,hbo,h3,hng]
         cases hLi:L[i] with
         |true=>
          have hs:(L[i]||ib f.ins L i)=L[i]:=by simp[hLi]
          simp-implicitDefEqProofs[hLi]
          refine⟨⟨i+1,c⟩,hstay hs,(by show f.ins.length-(i+1)<f.ins.length-i;omega),?_⟩
          rw[fa h4 hs]
          refine an [0,1,2,3,4,5,6] rfl (by decide) (af rfl (by simp[aa,Mfn.cs]) (am rfl (by simp[-Bool.exists_bool,-Bool.forall_bool,okO,aE]) (aC (by simp[aL,below]) (by simp[aL,ren,aF]) (am rfl ho3 (am rfl ho4 (am rfl (by simp[okO,aw]) (am rfl (by simp[okO,aw]) aj))))))) ?_
          simp[below,ren,w1 (i:=i) (by omega)]
         |false=>
          simp-implicitDefEqProofs[hLi]
          refine AC.mono (zp G (L:=L) hL hf h3 hj rfl rfl rfl) ?_
          rintro r h ⟨rfl,rfl⟩
          simp-implicitDefEqProofs[ag,hLi]
          refine(dk G _ _ _).use ?_
          simp-implicitDefEqProofs[]
          have hneed:ib f.ins L i= !inR ((plc f.ins L f.ins[i].n.toNat:Int)-(plc f.ins L i:Int)-(aK f.ins[i] false:Int)) (-128) 127:=by simp[ib,hg1,hj]
          refine bf (λh5=>?_) (λh5=>?_)
          ·simp at h5
           have hnt:ib f.ins L i=true:=by rw[hneed,h5];rfl
           have hset:=nC (ins:=f.ins) h4
           rw[hLi,hnt] at hset
           simp only[Bool.false_or] at hset
           have hset2:((bC f.ins L i).map λb=>[AV.p (.bool b)]).set i [AV.p (.bool true)]=(bC f.ins L (i+1)).map λb=>[AV.p (.bool b)]:=by rw[←hset,List.map_set]
           simp-implicitDefEqProofs[h3,hng,hset2]
           refine⟨⟨i+1,true⟩,⟨h3,by simp,λ_ he=>?_⟩,(by show f.ins.length-(i+1)<f.ins.length-i;omega),?_⟩
           ·have h6:(bB f.ins L)[i]?=some true:=by rw[List.getElem?_eq_getElem (by rw[hrl];exact h4),hrg,hnt];simp
            rw[he,hg2,hLi] at h6;cases h6
           ·refine an [0,1,2,3,4,5,6] rfl (by decide) (af rfl (by simp[aa,Mfn.cs]) (am rfl (by simp[-Bool.exists_bool,-Bool.forall_bool,okO,aE]) (aC (by simp[aL,below]) (by simp[aL,ren,aF]) (am rfl ho3 (am rfl ho4 (am rfl (by simp[okO,aw]) (am rfl (by simp[okO,aw]) aj))))))) ?_
            simp[below,ren,w1 (i:=i) (by omega)]
          ·simp at h5
           have hnt:ib f.ins L i=false:=by rw[hneed,h5];rfl
           have hs:(L[i]||ib f.ins L i)=L[i]:=by simp[hnt]
           simp-implicitDefEqProofs[]
           refine⟨⟨i+1,c⟩,hstay hs,(by show f.ins.length-(i+1)<f.ins.length-i;omega),?_⟩
           rw[fa h4 hs]
           refine an [0,1,2,3,4,5,6] rfl (by decide) (af rfl (by simp[aa,Mfn.cs]) (am rfl (by simp[-Bool.exists_bool,-Bool.forall_bool,okO,aE]) (aC (by simp[aL,below]) (by simp[aL,ren,aF]) (am rfl ho3 (am rfl ho4 (am rfl (by simp[okO,aw]) (am rfl (by simp[okO,aw]) aj))))))) ?_
           simp[below,ren,w1 (i:=i) (by omega)]
        ·have hjo:(f.ins[i].op==20||f.ins[i].op==21)=false:=by simpa[jmp] using hj
         simp-implicitDefEqProofs[hjo]
         have hs:(L[i]||ib f.ins L i)=L[i]:=by simp[ib,hg1,hj]
         refine⟨⟨i+1,c⟩,hstay hs,(by show f.ins.length-(i+1)<f.ins.length-i;omega),?_⟩
         rw[fa h4 hs]
         refine an [0,1,2,3,4,5,6] rfl (by decide) (af rfl (by simp[aa,Mfn.cs]) (am rfl (by simp[-Bool.exists_bool,-Bool.forall_bool,okO,aE]) (aC (by simp[aL,below]) (by simp[aL,ren,aF]) (am rfl ho3 (am rfl ho4 (am rfl (by simp[okO,aw]) (am rfl (by simp[okO,aw]) aj))))))) ?_
         simp[below,ren,w1 (i:=i) (by omega)]
       ·simp at h3
        have hie:i=f.ins.length:=by omega
        subst hie
        have hnx:bC f.ins L f.ins.length=bB f.ins L:=by rw[bC,List.take_of_length_le (by rw[hrl];omega),List.drop_of_length_le (by omega),List.append_nil]
        rw[List.take_of_length_le (by rw[hrl];omega),List.take_of_length_le (by omega)] at hc0
        rw[hnx]
        simp-implicitDefEqProofs[]
        refine⟨⟨c,false,bB f.ins L,plc f.ins L f.ins.length,aw (szl f.ins L f.ins.length),aw (cN f.ins L f.ins.length)⟩,⟨by rw[hrl];exact hL,by simp[okO,aw],by simp[okO,aw],?_⟩,?_,an [0,1,2,5,6] rfl (by simp) (af rfl (by simp[aa]) (am rfl (by simp[-Bool.exists_bool,-Bool.forall_bool,okO,aE]) (aC (by simp[aL,below]) (by simp[aL,ren,aF]) (am rfl (by simp[okO,aw]) (am rfl (by simp[okO,aw]) aj))))) ?_⟩
        ·cases c with
         |false=>
          have hh:=hc0 rfl
          simp only[Bool.false_eq_true,if_false]
          refine⟨trivial,?_,?_,?_,?_⟩
          ·rw[←hfix,uU hh,hh]
          ·rw[hh]
          ·rw[hh]
          ·rw[hh]
         |true=>simp only[if_true];rw[←hfix,vf (hc1 rfl)]
        ·cases c with
         |false=>have:=hc0 rfl;rw[this];simp
         |true=>have:=gS _ _ (hc1 rfl);simp;omega
        ·simp[below,ren]
     ·subst h3
      simp at hfix
      obtain⟨hf1,hf2,hf3,hf4,hf5⟩:=hfix
      subst hf1 hf2 hf3 hf4 hf5
      simp-implicitDefEqProofs[LS.row,aL]
      refine bf (λh4=>?_) (λh4=>?_)
      ·simp at h4
       have hc:aD f=false:=by simp[aD];intro _;omega
       simp-implicitDefEqProofs[hc]
      ·simp at h4
       have hc:aD f=true:=by simp[aD,h2];omega
       simp-implicitDefEqProofs[hc,Mfn.cs,hin]
end
section
def cB(code:List Int)(a:Nat):Option (List Nat):=
 if a<code.length then(if bj code a then(cB code (a+aH code a)).map (a:: ·) else none) else some []
termination_by code.length-a
decreasing_by have:=(ml code a).1;omega
theorem rB{code:List Int}{a:Nat}(h:code.length<=a):cB code a=some []:=by rw[cB,if_neg (by omega)]
theorem rd{code:List Int}{a:Nat}(h:a<code.length)(hg:¬bj code a=true):cB code a=none:=by rw[cB,if_pos h,if_neg hg]
theorem oy{code:List Int}{a:Nat}(h:a<code.length)(hg:bj code a=true):cB code a=(cB code (a+aH code a)).map (a:: ·):=by
 conv=>lhs;rw[cB,if_pos h,if_pos hg]
theorem sG{code:List Int}{a:Nat}(hg:bj code a=true):a+aH code a<=code.length:=by
 simp only[bj,Bool.and_eq_true,decide_eq_true_eq] at hg;exact hg.2
def si(ps:List Nat)(n:Int):Int:=match ps.findIdx? (λ(p:Nat)=>(p:Int)==n) with|some i=>i|none=> -1
def nY(ps:List Nat)(x:Mins):Mins:=if jmp x then{x with n:=si ps x.n} else x
def gA(code:List Int)(ps:List Nat):List Mins:=ps.map (bK code)
def dc(code:List Int)(ps:List Nat):List Mins:=(gA code ps).map (nY ps)
def bk(code:List Int)(ps:List Nat)(i:Nat):List Mins:=(dc code ps).take i++(gA code ps).drop i
def cQ(p s:Int)(code:List Int)(ps:List Nat):Mfn:=⟨p,s,dc code ps⟩
def eW(code:List Int)(f:Mfn):Bool:=aD f&&decide (gt f=code)
def ec(p s:Int)(code:List Int):Option Mfn:=(cB code 0).bind λps=>if eW code (cQ p s code ps) then some (cQ p s code ps) else none
theorem kA(code:List Int)(ps:List Nat):(gA code ps).length=ps.length:=by simp[gA]
theorem dJ(code:List Int)(ps:List Nat):(dc code ps).length=ps.length:=by simp[dc,gA]
theorem iJ{code:List Int}{ps:List Nat}{i:Nat}(h:i<=ps.length):(bk code ps i).length=ps.length:=by simp[bk,dJ,kA];omega
theorem rp(code:List Int)(ps:List Nat):bk code ps 0=gA code ps:=by simp[bk]
theorem tu(code:List Int)(ps:List Nat):bk code ps ps.length=dc code ps:=by
 rw[bk,List.take_of_length_le (by rw[dJ];omega),List.drop_of_length_le (by rw[kA];omega),List.append_nil]
theorem nG{code:List Int}{ps:List Nat}{i:Nat}(h:i<ps.length):(bk code ps i)[i]?=some (bK code ps[i]):=by
 rw[bk,List.getElem?_append_right (by simp[dJ];omega)]
 simp[dJ,Nat.min_eq_left (Nat.le_of_lt h),gA,h]
theorem nN{code:List Int}{ps:List Nat}{i:Nat}(h:i<ps.length):(bk code ps i).set i (nY ps (bK code ps[i]))=bk code ps (i+1):=by
 have hl:((dc code ps).take i).length=i:=by simp[dJ];omega
 rw[bk,List.set_append_right _ _ (by omega),hl,Nat.sub_self,List.drop_eq_getElem_cons (by rw[kA];exact h),List.set_cons_zero,bk,aq (by rw[dJ];exact h)]
 simp[dc,gA]
theorem ry{code:List Int}{ps:List Nat}{i:Nat}(h:i<ps.length)(hj:jmp (bK code ps[i])=false):bk code ps i=bk code ps (i+1):=by
 rw[←nN h,nY,hj]
 refine List.ext_getElem? λj=>?_
 rw[List.getElem?_set]
 split
 ·rename_i e;subst e
  rw[nG h];simp[iJ (Nat.le_of_lt h),h]
 ·rfl
def zS(l:List Int):List UInt8:=l.map λn=>UInt8.ofNat n.toNat
theorem nS:∀l:List Int,nB (l.map λn=>[AV.p (.int .u8 n)])=some (zS l)
 |[]=>rfl
 |n::r=>by simp[nB,nS r,zS]
theorem ua:∀{a b:List Int},bO a->bO b->(zS a=zS b↔a=b)
 |[],[],_,_=>by simp[zS]
 |[],_::_,_,_=>by simp[zS]
 |_::_,[],_,_=>by simp[zS]
 |x::a,y::b,ha,hb=>by
  have ih:=ua (a:=a) (b:=b) (λn hn=>ha n (by simp[hn])) (λn hn=>hb n (by simp[hn]))
  have h1:=ha x (by simp)
  have h2:=hb y (by simp)
  have hxy:UInt8.ofNat x.toNat=UInt8.ofNat y.toNat↔x=y:=by
   constructor
   ·intro e
    have:=congrArg UInt8.toNat e
    simp at this
    omega
   ·rintro rfl;rfl
  simp only[zS,List.map_cons,List.cons.injEq] at ih⊢
  rw[hxy,ih]
theorem zE(n:Int):0<=u8 n/\u8 n<=255:=by rw[pI];omega
theorem Dv(x:Mins):bO (aM x):=by
 unfold aM
 intro n hn
 repeat' split at hn
 all_goals
  simp only[List.mem_cons,List.not_mem_nil,or_false] at hn
  rcases hn with rfl|rfl|rfl<;>exact zE _
theorem FV(ins:List Mins)(L:List Bool)(i:Nat):bO (ic ins L i):=by
 unfold ic
 intro n hn
 split at hn
 ·split at hn
  ·exact Dv _ n hn
  ·simp only[List.mem_append,List.mem_singleton] at hn
   rcases hn with(rfl|hn)|hn
   ·exact zE _
   ·split at hn<;>simp at hn
    subst hn;exact zE _
   ·split at hn<;>simp at hn
    ·rcases hn with rfl|rfl<;>exact zE _
    ·subst hn;exact zE _
 ·simp at hn
theorem Ce(f:Mfn):bO (gt f):=by
 intro n hn
 simp only[gt,kW,List.mem_flatten,List.mem_map] at hn
 obtain⟨l,⟨i,_,rfl⟩,h⟩:=hn
 exact FV _ _ _ n h
theorem Ct{ins:List Mins}{L:List Bool}{i:Nat}(h1:i<ins.length)(h2:i<L.length):(ic ins L i).length=aK ins[i] L[i]:=by
 simp only[ic,List.getElem?_eq_getElem h1,List.getElem?_eq_getElem h2,aK]
 cases jmp ins[i]<;>cases L[i]<;>by_cases e:ins[i].op=21<;>simp[e]
theorem pO{ins:List Mins}{L:List Bool}(hl:L.length=ins.length):∀i,i<=ins.length->(kW ins L i).length=plc ins L i
 |0,_=>by simp[kW,plc]
 |i+1,h=>by rw[gX,List.length_append,pO hl i (by omega),Ct (by omega) (by omega),oD (by omega) (by omega)]
theorem CD{f:Mfn}(h:aD f=true):(gt f).length<=8000:=by
 simp only[aD,Bool.and_eq_true,decide_eq_true_eq] at h
 rw[gt,pO (fb _) _ (Nat.le_refl _)];exact h.2
theorem kh{f:Mfn}(h:aD f=true):0<f.ins.length:=by
 simp only[aD,Bool.and_eq_true] at h
 exact kw h.1
theorem Fq{p s:Int}{code:List Int}(h:¬code.length<=8000):ec p s code=none:=by
 unfold ec
 cases cB code 0 with
 |none=>rfl
 |some ps=>
  simp only[Option.bind_some]
  split
  ·rename_i hk
   simp only[eW,Bool.and_eq_true,decide_eq_true_eq] at hk
   have:=CD hk.1
   rw[hk.2] at this
   omega
  ·rfl
variable (G:ay)
theorem ER{ps:List Nat}{n:Int}{i:Nat}(h:i<ps.length)(hn:∀p∈ps.take i,(p:Int)≠n)(he:(ps[i]:Int)=n):si ps n=i:=by
 have:ps.findIdx? (λ(p:Nat)=>(p:Int)==n)=some i:=by
  rw[List.findIdx?_eq_some_iff_getElem]
  refine⟨h,by simpa using he,λj hj=>?_⟩
  have:=hn ps[j] (List.mem_take_iff_getElem.2 ⟨j,by omega,rfl⟩)
  simpa using this
 rw[si,this]
theorem Dc{ps:List Nat}{n:Int}(hn:∀p∈ps,(p:Int)≠n):si ps n= -1:=by
 have:ps.findIdx? (λ(p:Nat)=>(p:Int)==n)=none:=by
  rw[List.findIdx?_eq_none_iff]
  intro p hp;simpa using hn p hp
 rw[si,this]
theorem GV(ps:List Nat)(n:Int)(hb:ps.length<=1048576):VF Tryz.prog G fp [.p (iH ps),.p (.int .i64 n)] (.p (.int .i64 (si ps n))):=by
 refine AC.go od ?_
 have hil:iH ps= .lst 1 (ps.map λ(n:Nat)=>[.int .i64 (n:Int)]):=rfl
 simp-implicitDefEqProofs[jY,hil]
 refine az (λi:Nat=>aB 19 [(0,.p (iH ps)),(1,.p (.int .i64 n)),(5,.p (.int .i64 i))]) (λ_=>[]) (λi=>i<=ps.length/\∀p∈ps.take i,(p:Int)≠n) (λi=>ps.length-i) 0 (by simp) ?_ ?_
 ·exact aA rfl (by simp[below,iH])
 ·intro i ⟨hi,hn⟩
  simp-implicitDefEqProofs[hil]
  refine bf (λh1=>?_) (λh1=>?_)
  ·simp at h1
   have hg:=List.getElem?_eq_getElem h1
   by_cases he:(ps[i]:Int)=n
   ·simp-implicitDefEqProofs[hg,he,ER h1 hn he]
   ·simp-implicitDefEqProofs[hg,he]
    refine⟨i+1,⟨h1,λp hp=>?_⟩,by omega,aA rfl ?_⟩
    ·rw[aq h1] at hp
     rcases List.mem_append.1 hp with hp|hp
     ·exact hn p hp
     ·rw[List.mem_singleton.1 hp];exact he
    ·simp[below,w1 (i:=i) (by omega)]
  ·simp at h1
   rw[List.take_of_length_le h1] at hn
   simp-implicitDefEqProofs[Dc hn]
theorem Kb{h:List AO}{id:Nat}{ins:List Mins}(e:h[id]?=some (ki 5 (ins.map Mins.av))):View h (slE id 5 (ins.map Mins.av)) (cT ins):=by
 have hm:ins.map Mins.av=(ins.map Mins.cs).map (·.map .p):=by simp[Mins.av]
 rw[hm] at e⊢
 exact zZ e (by intro l hl;obtain⟨m,_,rfl⟩:=List.mem_map.1 hl;rfl)
end
section
def cU(c:UInt8):Bool:=decide (97<=c.toNat)&&decide (c.toNat<=122)
def keyW:List (List UInt8):=[[102,110],[108,101,116],[115,97,121],[112,117,116],[105,102],[101,108,115,101],[108,111,111,112],[98,97,99,107],[100,111]]
def aP(s:List UInt8):Bool:=s.all cU&&decide (0<s.length)&&decide (s.length<=4)&& !keyW.contains s
def tZ:List UInt8:=[40,41,123,125,59,44,43,45,42,47,37,60,61,38,33,64]
def oa(s:List UInt8)(c:Int):Int:=match s.findIdx? (λx=>(x.toNat:Int)==c) with|some i=>i|none=> -1
def yz(c:Int):Int:=if 97<=c/\c<=122 then 1 else if 48<=c/\c<=57 then 2 else if 0<=oa tZ c then 3 else if c=32\/c=10 then 4 else 0
theorem FL(x:UInt8):(yz (x.toNat:Int)=1)↔cU x=true:=by
 have h:(97<=(x.toNat:Int)/\(x.toNat:Int)<=122)↔cU x=true:=by simp[cU];omega
 unfold yz
 constructor
 ·intro e
  split at e
  ·rename_i h1;exact h.1 h1
  ·repeat' split at e
   all_goals omega
 ·intro e;rw[if_pos (h.2 e)]
def aW(l:List (List UInt8)):PV:= .lst 1 (l.map λw=>[.str w])
def xT(s:List UInt8):Int:=match s.findIdx? (λx=> !cU x) with|some i=>i|none=> -1
theorem Ev(s:List UInt8):decide (xT s<0)=s.all cU:=by
 unfold xT
 cases h:s.findIdx? (λx=> !cU x) with
 |none=>
  rw[List.findIdx?_eq_none_iff] at h
  have:s.all cU=true:=List.all_eq_true.2 λx hx=>by have:=h x hx;simpa using this
  simp[this]
 |some i=>
  rw[List.findIdx?_eq_some_iff_getElem] at h
  obtain⟨h1,h2,_⟩:=h
  have:s.all cU=false:=List.all_eq_false.2 ⟨_,List.getElem_mem h1,by simpa using h2⟩
  rw[this];simp
def idxS(l:List (List UInt8))(s:List UInt8):Int:=match l.findIdx? (λw=>w==s) with|some i=>i|none=> -1
theorem EN(l:List (List UInt8))(s:List UInt8):decide (0<=idxS l s)=l.contains s:=by
 unfold idxS
 cases h:l.findIdx? (λw=>w==s) with
 |none=>
  rw[List.findIdx?_eq_none_iff] at h
  have:l.contains s=false:=by
   cases hc:l.contains s with
   |false=>rfl
   |true=>
    have hm:s∈l:=by simpa using hc
    have:=h s hm
    simp at this
  rw[this];simp
 |some i=>
  rw[List.findIdx?_eq_some_iff_getElem] at h
  obtain⟨h1,h2,_⟩:=h
  have:l.contains s=true:=by
   simp only[beq_iff_eq] at h2
   rw[List.contains_iff_mem,←h2];exact List.getElem_mem h1
  rw[this];simp
variable (G:ay)
theorem pB(s:List UInt8)(c:Int)(hb:s.length<=1048576):VF Tryz.prog G iv [.p (.str s),.p (.int .u8 c)] (.p (.int .i64 (oa s c))):=by
 refine AC.go ug ?_
 simp-implicitDefEqProofs[mf]
 refine az (λi:Nat=>aB 18 [(0,.p (.str s)),(1,.p (.int .u8 c)),(5,.p (.int .i64 i))]) (λ_=>[]) (λi=>i<=s.length/\∀x∈s.take i,(x.toNat:Int)≠c) (λi=>s.length-i) 0 (by simp) ?_ ?_
 ·exact aA rfl (by simp[below])
 ·intro i ⟨hi,hn⟩
  simp-implicitDefEqProofs[]
  refine bf (λh1=>?_) (λh1=>?_)
  ·simp at h1
   have hg:=List.getElem?_eq_getElem h1
   by_cases he:(s[i].toNat:Int)=c
   ·have hf:oa s c=i:=by
     have:s.findIdx? (λx=>(x.toNat:Int)==c)=some i:=by
      rw[List.findIdx?_eq_some_iff_getElem]
      exact⟨h1,by simpa using he,λj hj=>by have:=hn s[j] (List.mem_take_iff_getElem.2 ⟨j,by omega,rfl⟩);simpa using this⟩
     rw[oa,this]
    simp-implicitDefEqProofs[hg,he,hf]
   ·simp-implicitDefEqProofs[hg,he]
    refine⟨i+1,⟨h1,λp hp=>?_⟩,by omega,aA rfl ?_⟩
    ·rw[aq h1] at hp
     rcases List.mem_append.1 hp with hp|hp
     ·exact hn p hp
     ·rw[List.mem_singleton.1 hp];exact he
    ·simp[below,w1 (i:=i) (by omega)]
  ·simp at h1
   rw[List.take_of_length_le h1] at hn
   have hf:oa s c= -1:=by
    have:s.findIdx? (λx=>(x.toNat:Int)==c)=none:=by
     rw[List.findIdx?_eq_none_iff];intro x hx;simpa using hn x hx
    rw[oa,this]
   simp-implicitDefEqProofs[hf]
theorem Dz(c:Int):VF Tryz.prog G iE [.p (.int .u8 c)] (.p (.int .i64 (yz c))):=by
 refine AC.go tF ?_
 simp-implicitDefEqProofs[lN]
 unfold yz
 by_cases h1:97<=c
 ·by_cases h2:c<=122
  ·simp-implicitDefEqProofs[h1,h2]
  ·have h3:¬c<=57:=by omega
   have h4:¬c=32:=by omega
   have h5:¬c=10:=by omega
   have h6:48<=c:=by omega
   simp-implicitDefEqProofs[h1,h2,h3,h6]
   refine(pB G tZ c (by decide)).use ?_
   generalize oa tZ c=w
   by_cases hf:0<=w
   ·simp-implicitDefEqProofs[hf]
   ·simp-implicitDefEqProofs[hf,h4,h5]
 ·simp-implicitDefEqProofs[h1]
  by_cases h2:48<=c
  ·by_cases h3:c<=57
   ·simp-implicitDefEqProofs[h2,h3]
   ·have h4:¬c=32:=by omega
    have h5:¬c=10:=by omega
    simp-implicitDefEqProofs[h2,h3]
    refine(pB G tZ c (by decide)).use ?_
    generalize oa tZ c=w
    by_cases hf:0<=w
    ·simp-implicitDefEqProofs[hf]
    ·simp-implicitDefEqProofs[hf,h4,h5]
  ·simp-implicitDefEqProofs[h2]
   refine(pB G tZ c (by decide)).use ?_
   generalize oa tZ c=w
   by_cases hf:0<=w
   ·simp-implicitDefEqProofs[hf]
   ·by_cases h4:c=32
    ·simp-implicitDefEqProofs[hf,h4]
    ·by_cases h5:c=10
     ·simp-implicitDefEqProofs[hf,h4,h5]
     ·simp-implicitDefEqProofs[hf,h4,h5]
theorem Hc(s:List UInt8)(hb:s.length<=140737488355328):VF Tryz.prog G kf [.p (.str s),.p (.int .i64 1)] (.p (.bool (s.all cU&&decide (0<s.length)))):=by
 refine AC.go vM ?_
 simp-implicitDefEqProofs[ow]
 refine az (λi:Nat=>aB 21 [(0,.p (.str s)),(1,.p (.int .i64 1)),(5,.p (.int .i64 i))]) (λ_=>[]) (λi=>i<=s.length/\∀x∈s.take i,cU x=true) (λi=>s.length-i) 0 (by simp) ?_ ?_
 ·exact aA rfl (by simp[below])
 ·intro i ⟨hi,hn⟩
  simp-implicitDefEqProofs[]
  refine bf (λh1=>?_) (λh1=>?_)
  ·simp at h1
   have hg:=List.getElem?_eq_getElem h1
   simp-implicitDefEqProofs[hg]
   refine(Dz G _).use ?_
   have hcl:=FL s[i]
   by_cases he:cU s[i]=true
   ·have hc:=hcl.2 he
    simp-implicitDefEqProofs[hc]
    refine⟨i+1,⟨h1,λp hp=>?_⟩,by omega,aA rfl ?_⟩
    ·rw[aq h1] at hp
     rcases List.mem_append.1 hp with hp|hp
     ·exact hn p hp
     ·rw[List.mem_singleton.1 hp];exact he
    ·simp[below,w1 (i:=i) (by omega)]
   ·have hc:¬yz (s[i].toNat:Int)=1:=λe=>he (hcl.1 e)
    have ha:s.all cU=false:=List.all_eq_false.2 ⟨_,List.getElem_mem h1,by simpa using he⟩
    simp-implicitDefEqProofs[hc,ha]
  ·simp at h1
   rw[List.take_of_length_le h1] at hn
   have ha:s.all cU=true:=List.all_eq_true.2 hn
   simp-implicitDefEqProofs[ha]
theorem Ac:VF Tryz.prog G eI [] (.p (aW keyW)):=by
 have key:AC Tryz.prog G eI [] [] λx h=>x= .ret (.sl 0 1 0 9)/\h=[.row 1 (keyW.map λw=>[.p (.str w)])]:=by
  refine AC.go rX ?_
  simp-implicitDefEqProofs[kR,keyW]
 exact AC.freeze key (.one (en (ls:=keyW.map λw=>[.str w]) (by simp) (by simp[keyW]) (by simp)) .nil)
theorem GN(s:List UInt8):VF Tryz.prog G kb [.p (.str s)] (.p (.bool (keyW.contains s))):=by
 refine AC.go ya ?_
 have hsl:aW keyW= .lst 1 (keyW.map λw=>[.str w]):=rfl
 have hkl:keyW.length=9:=rfl
 simp-implicitDefEqProofs[oG]
 refine(Ac G).use ?_
 simp-implicitDefEqProofs[]
 refine az (λi:Nat=>aB 18 [(0,.p (.str s)),(3,.p (aW keyW)),(4,.p (.int .i64 i))]) (λ_=>[]) (λi=>i<=keyW.length/\∀w∈keyW.take i,w≠s) (λi=>keyW.length-i) 0 (by simp) ?_ ?_
 ·exact aA rfl (by simp[below,aW])
 ·intro i ⟨hi,hn⟩
  generalize keyW=L at*
  simp-implicitDefEqProofs[hsl]
  refine bf (λh1=>?_) (λh1=>?_)
  ·simp at h1
   have hg:=List.getElem?_eq_getElem h1
   by_cases he:L[i]=s
   ·have hm:s∈L:=by rw[←he];exact List.getElem_mem h1
    simp-implicitDefEqProofs[hg,he,hm]
   ·simp-implicitDefEqProofs[hg,he]
    refine⟨i+1,⟨h1,λp hp=>?_⟩,by omega,aA rfl ?_⟩
    ·rw[aq h1] at hp
     rcases List.mem_append.1 hp with hp|hp
     ·exact hn p hp
     ·rw[List.mem_singleton.1 hp];exact he
    ·simp[below,w1 (i:=i) (by omega)]
  ·simp at h1
   rw[List.take_of_length_le h1] at hn
   have hm:¬s∈L:=λhm=>hn s hm rfl
   simp-implicitDefEqProofs[hm]
theorem sL(s:List UInt8)(hb:s.length<=140737488355328):VF Tryz.prog G ex [.p (.str s)] (.p (.bool (aP s))):=by
 refine AC.go uR ?_
 simp-implicitDefEqProofs[ng]
 refine(Hc G s hb).use ?_
 cases h1:(s.all cU&&decide (0<s.length)) with
 |false=>
  have hi:aP s=false:=by rw[aP,h1];rfl
  simp-implicitDefEqProofs[hi]
 |true=>
  by_cases h4:s.length<=4
  ·have h4i:(s.length:Int)<=4:=by omega
   have hi:aP s= !keyW.contains s:=by rw[aP,h1];simp[h4]
   simp-implicitDefEqProofs[h4i]
   refine(GN G s).use ?_
   rw[hi]
   simp-implicitDefEqProofs[]
  ·have h4i:¬(s.length:Int)<=4:=by omega
   have hi:aP s=false:=by rw[aP,h1];simp[h4]
   simp-implicitDefEqProofs[h4i,hi]
end
section
variable (G:ay)
def bc(l:List Int):PV:= .lst 1 (l.map λn=>[.int .i64 n])
structure Obj where (name:List UInt8) (params slots:Int) (code calls:List Int) (names:List (List UInt8))
deriving DecidableEq
def Obj.cs(o:Obj):List PV:=[.str o.name,.int .i64 o.params,.int .i64 o.slots,aN o.code,bc o.calls,aW o.names]
theorem il{α:Type}{xs ys:List α}{i:Nat}(h:xs.length=ys.length)(h1:ys.length<=i)(he:xs.take i=ys.take i):xs=ys:=by
 rwa[List.take_of_length_le (by omega),List.take_of_length_le h1] at he
@[simp] theorem Obj.cs_len(o:Obj):o.cs.length=6:=rfl
@[simp] theorem Obj.cs_take(o:Obj):List.take 6 (o.cs.map AV.p)=o.cs.map AV.p:=rfl
theorem tH(xs ys:List Int)(hb:xs.length<=1048576):VF Tryz.prog G dx [.p (bc xs),.p (bc ys)] (.p (.bool (decide (xs=ys)))):=by
 refine AC.go uv ?_
 simp-implicitDefEqProofs[mV,bc]
 refine bf (λh=>?_) (λh=>?_)
 ·have h':xs≠ys:=by rintro rfl;simp at h
  simp-implicitDefEqProofs[h']
 have h:xs.length=ys.length:=by simp at h;omega
 simp-implicitDefEqProofs[]
 refine az (λi:Nat=>aB 26 [(0,.p (bc xs)),(1,.p (bc ys)),(5,.p (.int .i64 i))]) (λ_=>[]) (λi=>i<=xs.length/\xs.take i=ys.take i) (λi=>xs.length-i) 0 (by simp) ?_ ?_
 ·exact aA rfl (by simp[below,bc,h])
 intro i ⟨hi,he⟩
 simp-implicitDefEqProofs[bc]
 refine bf (λh1=>?_) (λh1=>?_)
 ·simp at h1
  have h1:i<ys.length:=by omega
  have h1':i<xs.length:=by omega
  have hx:=List.getElem?_eq_getElem h1'
  have hy:=List.getElem?_eq_getElem h1
  by_cases h3:xs[i]=ys[i]
  ·simp-implicitDefEqProofs[hx,hy,h3]
   exact⟨i+1,⟨h1',dT h1' h1 h3 he⟩,by omega,aA rfl (by simp[below,bc,w1 (i:=i) (by omega)])⟩
  ·have h':xs≠ys:=by rintro rfl;exact h3 rfl
   simp-implicitDefEqProofs[hx,hy,h3,h']
 ·simp at h1
  have h1:ys.length<=i:=by omega
  have h':xs=ys:=il h h1 he
  simp-implicitDefEqProofs[h']
theorem zf(xs ys:List (List UInt8))(hb:xs.length<=1048576):VF Tryz.prog G fI [.p (aW xs),.p (aW ys)] (.p (.bool (decide (xs=ys)))):=by
 refine AC.go px ?_
 simp-implicitDefEqProofs[jB,aW]
 refine bf (λh=>?_) (λh=>?_)
 ·have h':xs≠ys:=by rintro rfl;simp at h
  simp-implicitDefEqProofs[h']
 have h:xs.length=ys.length:=by simp at h;omega
 simp-implicitDefEqProofs[]
 refine az (λi:Nat=>aB 26 [(0,.p (aW xs)),(1,.p (aW ys)),(5,.p (.int .i64 i))]) (λ_=>[]) (λi=>i<=xs.length/\xs.take i=ys.take i) (λi=>xs.length-i) 0 (by simp) ?_ ?_
 ·exact aA rfl (by simp[below,aW,h])
 intro i ⟨hi,he⟩
 simp-implicitDefEqProofs[aW]
 refine bf (λh1=>?_) (λh1=>?_)
 ·simp at h1
  have h1:i<ys.length:=by omega
  have h1':i<xs.length:=by omega
  have hx:=List.getElem?_eq_getElem h1'
  have hy:=List.getElem?_eq_getElem h1
  by_cases h3:xs[i]=ys[i]
  ·simp-implicitDefEqProofs[hx,hy,h3]
   exact⟨i+1,⟨h1',dT h1' h1 h3 he⟩,by omega,aA rfl (by simp[below,aW,w1 (i:=i) (by omega)])⟩
  ·have h':xs≠ys:=by rintro rfl;exact h3 rfl
   simp-implicitDefEqProofs[hx,hy,h3,h']
 ·simp at h1
  have h1:ys.length<=i:=by omega
  have h':xs=ys:=il h h1 he
  simp-implicitDefEqProofs[h']
theorem DD(xs ys:List Int)(hb:xs.length<=1048576):VF Tryz.prog G jm [.p (bc xs),.p (bc ys)] (.p (.bool (decide (xs=ys)))):=by
 refine AC.go uC ?_
 simp-implicitDefEqProofs[mL,bc]
 refine bf (λh=>?_) (λh=>?_)
 ·have h':xs≠ys:=by rintro rfl;simp at h
  simp-implicitDefEqProofs[h']
 have h:xs.length=ys.length:=by simp at h;omega
 simp-implicitDefEqProofs[]
 refine az (λi:Nat=>aB 26 [(0,.p (bc xs)),(1,.p (bc ys)),(5,.p (.int .i64 i))]) (λ_=>[]) (λi=>i<=xs.length/\xs.take i=ys.take i) (λi=>xs.length-i) 0 (by simp) ?_ ?_
 ·exact aA rfl (by simp[below,bc,h])
 intro i ⟨hi,he⟩
 simp-implicitDefEqProofs[bc]
 refine bf (λh1=>?_) (λh1=>?_)
 ·simp at h1
  have h1:i<ys.length:=by omega
  have h1':i<xs.length:=by omega
  have hx:=List.getElem?_eq_getElem h1'
  have hy:=List.getElem?_eq_getElem h1
  by_cases h3:xs[i]=ys[i]
  ·simp-implicitDefEqProofs[hx,hy,h3]
   exact⟨i+1,⟨h1',dT h1' h1 h3 he⟩,by omega,aA rfl (by simp[below,bc,w1 (i:=i) (by omega)])⟩
  ·have h':xs≠ys:=by rintro rfl;exact h3 rfl
   simp-implicitDefEqProofs[hx,hy,h3,h']
 ·simp at h1
  have h1:ys.length<=i:=by omega
  have h':xs=ys:=il h h1 he
  simp-implicitDefEqProofs[h']
theorem Bq(xs ys:List Int)(hb:xs.length<=1048576):VF Tryz.prog G eU [.p (bc xs),.p (bc ys)] (.p (.bool (decide (xs=ys)))):=by
 refine AC.go nI ?_
 simp-implicitDefEqProofs[iA,bc]
 refine bf (λh=>?_) (λh=>?_)
 ·have h':xs≠ys:=by rintro rfl;simp at h
  simp-implicitDefEqProofs[h']
 have h:xs.length=ys.length:=by simp at h;omega
 simp-implicitDefEqProofs[]
 refine az (λi:Nat=>aB 26 [(0,.p (bc xs)),(1,.p (bc ys)),(11,.p (bc xs)),(12,.p (.int .i64 xs.length)),(13,.p (.int .i64 i))]) (λ_=>[]) (λi=>i<=xs.length/\xs.take i=ys.take i) (λi=>xs.length-i) 0 (by simp) ?_ ?_
 ·exact aA rfl (by simp[below,bc,h])
 intro i ⟨hi,he⟩
 simp-implicitDefEqProofs[bc]
 refine bf (λh1=>?_) (λh1=>?_)
 ·simp at h1
  have h1:i<ys.length:=by omega
  have h1':i<xs.length:=by omega
  have hx:=List.getElem?_eq_getElem h1'
  have hy:=List.getElem?_eq_getElem h1
  by_cases h3:xs[i]=ys[i]
  ·simp-implicitDefEqProofs[hx,hy,h3]
   exact⟨i+1,⟨h1',dT h1' h1 h3 he⟩,by omega,aA rfl (by simp[below,bc,w1 (i:=i) (by omega)])⟩
  ·have h':xs≠ys:=by rintro rfl;exact h3 rfl
   simp-implicitDefEqProofs[hx,hy,h3,h']
 ·simp at h1
  have h1:ys.length<=i:=by omega
  have h':xs=ys:=il h h1 he
  simp-implicitDefEqProofs[h']
theorem AL(x y:Obj)(h3:x.code.length<=1048576)(h4:x.calls.length<=1048576)(h5:x.names.length<=1048576):VF Tryz.prog G gC [.agg (x.cs.map .p),.agg (y.cs.map .p)] (.p (.bool (decide (x=y)))):=by
 refine AC.go rU ?_
 have hxy:(x=y)↔(x.name=y.name/\x.params=y.params/\x.slots=y.slots/\x.code=y.code/\x.calls=y.calls/\x.names=y.names):=by
  cases x;cases y;simp
 by_cases h1:x.name=y.name
 case neg=>simp-implicitDefEqProofs[dp,Obj.cs,hxy,h1]
 by_cases h2:x.params=y.params
 case neg=>simp-implicitDefEqProofs[dp,Obj.cs,hxy,h1,h2]
 by_cases h6:x.slots=y.slots
 case neg=>simp-implicitDefEqProofs[dp,Obj.cs,hxy,h1,h2,h6]
 simp-implicitDefEqProofs[dp,Obj.cs,h1,h2,h6]
 refine(Dr G _ _ h3).use ?_
 by_cases h7:x.code=y.code
 case neg=>simp-implicitDefEqProofs[hxy,h7]
 simp-implicitDefEqProofs[h7]
 refine(tH G _ _ h4).use ?_
 by_cases h8:x.calls=y.calls
 case neg=>simp-implicitDefEqProofs[hxy,h8]
 simp-implicitDefEqProofs[h8]
 refine(zf G _ _ h5).use ?_
 by_cases h9:x.names=y.names
 case neg=>simp-implicitDefEqProofs[hxy,h9]
 simp-implicitDefEqProofs[hxy,h1,h2,h6,h7,h8,h9]
end
end Go.Proofs.YtbnajafpkeficaaGreatDoor
