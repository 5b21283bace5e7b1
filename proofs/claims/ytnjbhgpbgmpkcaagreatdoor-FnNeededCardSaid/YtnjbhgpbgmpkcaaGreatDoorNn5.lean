/-
  Contracts and lemmas that the card needs, part 5.
-/
import Derived.Test.YtnjbhgpbgmpkcaaGreatDoorNn4
namespace Go.Proofs.YtnjbhgpbgmpkcaaGreatDoor
open Go Go.Aw
set_option maxRecDepth 100000
set_option maxHeartbeats 4000000
theorem dK{α:Type}{p:α→Bool}{xs:List α}{i:Nat}(h:i<xs.length):(xs.take (i+1)).all p=((xs.take i).all p&&p xs[i]):=by
 rw[al h,List.all_append];simp
theorem kx{α:Type}{p:α→Bool}{xs:List α}{i:Nat}(h:i<xs.length)(hp:p xs[i]=false):xs.all p=false:=
 List.all_eq_false.2 ⟨_,List.getElem_mem h,by simp[hp]⟩
theorem fT{α:Type}{p:α→Bool}{xs:List α}{i:Nat}(h:xs.length≤i)(ht:(xs.take i).all p=true):xs.all p=true:=by
 rwa[List.take_of_length_le h] at ht
def K_spec_l2Form:AK:= .seq (.reg [oJ 2 (.box 4 (.t 0)),oJ 4 (.mov (.c (.p (.bool false))))]) (.seq (.reg [oF 10 0 2,oL 11 10,oJ 12 (.call gD [(.t 11)]),oM 9 12,oJ 13 (.ext 0 (.t 9)),oJ 14 (.ext 1 (.t 9)),oM 5 13,oM 6 14]) (.seq (.seq (.reg [oM 15 1,oJ 16 (.bin .lss (.t 15) (.c (.p (.int .i64 1)))),oM 17 16,⟨(some 18),some (17,false),.fldA 0 (.t 2)⟩,⟨(some 19),some (17,false),.ld none (.t 18)⟩,⟨(some 20),some (17,false),.call bP [(.t 19),(.c (.p (.int .i64 1))),(.c (.p (.int .i64 13)))]⟩,⟨(some 21),some (17,false),.not (.t 20)⟩,oJ 22 (.pick (.t 17) (.c (.p (.bool true))) (.t 21)),oM 23 22,⟨(some 24),some (23,false),.fldA 3 (.t 2)⟩,⟨(some 25),some (23,false),.ld none (.t 24)⟩,⟨(some 26),some (23,false),.len false (.t 25)⟩,⟨(some 27),some (23,false),.mov (.t 5)⟩,⟨(some 28),some (23,false),.mov (.t 6)⟩,⟨(some 29),some (23,false),.call bP [(.t 26),(.t 27),(.t 28)]⟩,⟨(some 30),some (23,false),.not (.t 29)⟩,oJ 31 (.pick (.t 23) (.c (.p (.bool true))) (.t 30))]) (.cond (.t 31) (.seq (.reg [oJ 4 (.mov (.c (.p (.bool false))))]) (.ret)) (.skip))) (.cut (.reg [oF 32 0 2,oL 33 32,oJ 34 (.bin .eql (.t 33) (.c (.p (.int .i64 2)))),oM 35 34,⟨(some 36),some (35,false),.fldA 0 (.t 2)⟩,⟨(some 37),some (35,false),.ld none (.t 36)⟩,⟨(some 38),some (35,false),.bin .eql (.t 37) (.c (.p (.int .i64 13)))⟩,oJ 39 (.pick (.t 35) (.c (.p (.bool true))) (.t 38)),oM 7 39]) (.cut (.seq (.reg [oM 40 7,oF 41 2 2,oL 42 41,oJ 43 (.call cu [(.t 42)]),oJ 44 (.beq true (.t 40) (.t 43)),oM 45 44,⟨(some 46),some (45,false),.mov (.t 7)⟩,⟨(some 47),some (45,false),.not (.t 46)⟩,⟨(some 48),some (45,false),.mov (.t 47)⟩,⟨(some 49),some (48,true),.fldA 2 (.t 2)⟩,⟨(some 50),some (48,true),.ld none (.t 49)⟩,⟨(some 51),some (48,true),.bins .neq (.t 50) (.c (.p (.str [])))⟩,⟨(some 52),some (45,false),.pick (.t 48) (.t 51) (.c (.p (.bool false)))⟩,oJ 53 (.pick (.t 45) (.c (.p (.bool true))) (.t 52)),oM 54 53,⟨(some 55),some (54,false),.fldA 1 (.t 2)⟩,⟨(some 56),some (54,false),.ld none (.t 55)⟩,⟨(some 57),some (54,false),.call bP [(.t 56),(.c (.p (.int .i64 0))),(.c (.p (.int .i64 255)))]⟩,⟨(some 58),some (54,false),.not (.t 57)⟩,oJ 59 (.pick (.t 54) (.c (.p (.bool true))) (.t 58)),oM 60 59,⟨(some 61),some (60,false),.fldA 0 (.t 2)⟩,⟨(some 62),some (60,false),.ld none (.t 61)⟩,⟨(some 63),some (60,false),.bin .neq (.t 62) (.c (.p (.int .i64 1)))⟩,⟨(some 64),some (60,false),.mov (.t 63)⟩,⟨(some 65),some (64,true),.fldA 1 (.t 2)⟩,⟨(some 66),some (64,true),.ld none (.t 65)⟩,⟨(some 67),some (64,true),.bin .neq (.t 66) (.c (.p (.int .i64 0)))⟩,⟨(some 68),some (60,false),.pick (.t 64) (.t 67) (.c (.p (.bool false)))⟩,oJ 69 (.pick (.t 60) (.c (.p (.bool true))) (.t 68))]) (.cond (.t 69) (.seq (.reg [oJ 4 (.mov (.c (.p (.bool false))))]) (.ret)) (.skip))) (.seq (.seq (.reg [oK 8 0]) (.blk 0 (.loop (.seq (.seq (.reg [oM 70 8,oF 71 3 2,oL 72 71,oJ 73 (.len false (.t 72)),oJ 74 (.bin .lss (.t 70) (.t 73))]) (.cond (.t 74) (.skip) (.exit 0))) (.seq (.blk 1 (.seq (.reg [oF 77 3 2,oL 78 77,oM 79 8,oJ 80 (.idxS 4 (.t 78) (.t 79)),oJ 81 (.ld (some 4) (.t 80)),oM 82 1,oJ 83 (.bin .sub (.t 82) (.c (.p (.int .i64 1)))),oJ 84 (.call eN [(.t 81),(.t 83)]),oJ 85 (.not (.t 84))]) (.cond (.t 85) (.seq (.reg [oJ 4 (.mov (.c (.p (.bool false))))]) (.ret)) (.skip)))) (.reg [oM 75 8,oJ 76 (.bin .add (.t 75) (.c (.p (.int .i64 1)))),oM 8 76])))))) (.seq (.reg [oJ 4 (.mov (.c (.p (.bool true))))]) (.ret)))))))
theorem tW:K_spec_l2Form.whole=F_spec_l2Form.ak:=rfl
def K_spec_l3Stmt:AK:= .seq (.reg [oJ 2 (.box 5 (.t 0)),oJ 4 (.mov (.c (.p (.bool false))))]) (.cut (.seq (.reg [oM 7 1,oJ 8 (.bin .lss (.t 7) (.c (.p (.int .i64 1)))),oM 9 8,⟨(some 10),some (9,false),.fldA 0 (.t 2)⟩,⟨(some 11),some (9,false),.ld none (.t 10)⟩,⟨(some 12),some (9,false),.call bP [(.t 11),(.c (.p (.int .i64 1))),(.c (.p (.int .i64 8)))]⟩,⟨(some 13),some (9,false),.not (.t 12)⟩,oJ 14 (.pick (.t 9) (.c (.p (.bool true))) (.t 13)),oM 15 14,⟨(some 16),some (15,false),.fldA 2 (.t 2)⟩,⟨(some 19),some (15,false),.fldA 0 (.t 2)⟩,⟨(some 17),some (15,false),.ld none (.t 16)⟩,⟨(some 18),some (15,false),.len false (.t 17)⟩,⟨(some 20),some (15,false),.ld none (.t 19)⟩,⟨(some 21),some (15,false),.qcall gC [(.t 20)]⟩,⟨(some 22),some (15,false),.bin .neq (.t 18) (.t 21)⟩,oJ 23 (.pick (.t 15) (.c (.p (.bool true))) (.t 22))]) (.cond (.t 23) (.seq (.reg [oJ 4 (.mov (.c (.p (.bool false))))]) (.ret)) (.skip))) (.cut (.reg [oF 24 0 2,oL 25 24,oJ 26 (.bin .eql (.t 25) (.c (.p (.int .i64 1)))),oM 27 26,⟨(some 28),some (27,false),.fldA 0 (.t 2)⟩,⟨(some 29),some (27,false),.ld none (.t 28)⟩,⟨(some 30),some (27,false),.bin .eql (.t 29) (.c (.p (.int .i64 2)))⟩,oJ 31 (.pick (.t 27) (.c (.p (.bool true))) (.t 30)),oM 5 31]) (.cut (.seq (.reg [oM 32 5,oF 33 1 2,oL 34 33,oJ 35 (.call cu [(.t 34)]),oJ 36 (.beq true (.t 32) (.t 35)),oM 37 36,⟨(some 38),some (37,false),.mov (.t 5)⟩,⟨(some 39),some (37,false),.not (.t 38)⟩,⟨(some 40),some (37,false),.mov (.t 39)⟩,⟨(some 41),some (40,true),.fldA 1 (.t 2)⟩,⟨(some 42),some (40,true),.ld none (.t 41)⟩,⟨(some 43),some (40,true),.bins .neq (.t 42) (.c (.p (.str [])))⟩,⟨(some 44),some (37,false),.pick (.t 40) (.t 43) (.c (.p (.bool false)))⟩,oJ 45 (.pick (.t 37) (.c (.p (.bool true))) (.t 44))]) (.cond (.t 45) (.seq (.reg [oJ 4 (.mov (.c (.p (.bool false))))]) (.ret)) (.skip))) (.seq (.seq (.reg [oK 6 0]) (.blk 0 (.loop (.seq (.seq (.reg [oM 46 6,oF 47 2 2,oL 48 47,oJ 49 (.len false (.t 48)),oJ 50 (.bin .lss (.t 46) (.t 49))]) (.cond (.t 50) (.skip) (.exit 0))) (.seq (.blk 1 (.seq (.reg [oF 53 2 2,oL 54 53,oM 55 6,oJ 56 (.idxS 4 (.t 54) (.t 55)),oJ 57 (.ld (some 4) (.t 56)),oJ 58 (.call ef [(.t 57)]),oJ 59 (.not (.t 58))]) (.cond (.t 59) (.seq (.reg [oJ 4 (.mov (.c (.p (.bool false))))]) (.ret)) (.skip)))) (.reg [oM 51 6,oJ 52 (.bin .add (.t 51) (.c (.p (.int .i64 1)))),oM 6 52])))))) (.cut (.seq (.reg [oF 60 0 2,oL 61 60,oJ 62 (.bin .eql (.t 61) (.c (.p (.int .i64 8)))),oM 63 62,⟨(some 64),some (63,true),.fldA 2 (.t 2)⟩,⟨(some 65),some (63,true),.ld none (.t 64)⟩,⟨(some 66),some (63,true),.idxS 4 (.t 65) (.c (.p (.int .i64 0)))⟩,⟨(some 67),some (63,true),.fldA 0 (.t 66)⟩,⟨(some 68),some (63,true),.ld none (.t 67)⟩,⟨(some 69),some (63,true),.bin .neq (.t 68) (.c (.p (.int .i64 13)))⟩,oJ 70 (.pick (.t 63) (.t 69) (.c (.p (.bool false))))]) (.cond (.t 70) (.seq (.reg [oJ 4 (.mov (.c (.p (.bool false))))]) (.ret)) (.skip))) (.cut (.seq (.reg [oF 71 4 2,oL 72 71,oJ 73 (.len false (.t 72)),oJ 74 (.bin .gtr (.t 73) (.c (.p (.int .i64 0)))),oM 75 74,⟨(some 76),some (75,true),.fldA 0 (.t 2)⟩,⟨(some 77),some (75,true),.ld none (.t 76)⟩,⟨(some 78),some (75,true),.bin .neq (.t 77) (.c (.p (.int .i64 5)))⟩,oJ 79 (.pick (.t 75) (.t 78) (.c (.p (.bool false)))),oM 80 79,⟨(some 81),some (80,false),.fldA 3 (.t 2)⟩,⟨(some 82),some (80,false),.ld none (.t 81)⟩,⟨(some 83),some (80,false),.len false (.t 82)⟩,⟨(some 84),some (80,false),.bin .gtr (.t 83) (.c (.p (.int .i64 0)))⟩,⟨(some 85),some (80,false),.mov (.t 84)⟩,⟨(some 86),some (85,true),.fldA 0 (.t 2)⟩,⟨(some 87),some (85,true),.ld none (.t 86)⟩,⟨(some 88),some (85,true),.bin .neq (.t 87) (.c (.p (.int .i64 5)))⟩,⟨(some 89),some (80,false),.pick (.t 85) (.t 88) (.c (.p (.bool false)))⟩,⟨(some 90),some (80,false),.mov (.t 89)⟩,⟨(some 91),some (90,true),.fldA 0 (.t 2)⟩,⟨(some 92),some (90,true),.ld none (.t 91)⟩,⟨(some 93),some (90,true),.bin .neq (.t 92) (.c (.p (.int .i64 6)))⟩,⟨(some 94),some (80,false),.pick (.t 90) (.t 93) (.c (.p (.bool false)))⟩,oJ 95 (.pick (.t 80) (.c (.p (.bool true))) (.t 94))]) (.cond (.t 95) (.seq (.reg [oJ 4 (.mov (.c (.p (.bool false))))]) (.ret)) (.skip))) (.seq (.reg [oF 96 3 2,oL 97 96,oM 98 1,oJ 99 (.bin .sub (.t 98) (.c (.p (.int .i64 1)))),oJ 100 (.call bS [(.t 97),(.t 99)]),oM 101 100,⟨(some 102),some (101,true),.fldA 4 (.t 2)⟩,⟨(some 103),some (101,true),.ld none (.t 102)⟩,⟨(some 104),some (101,true),.mov (.t 1)⟩,⟨(some 105),some (101,true),.bin .sub (.t 104) (.c (.p (.int .i64 1)))⟩,⟨(some 106),some (101,true),.call bS [(.t 103),(.t 105)]⟩,oJ 107 (.pick (.t 101) (.t 106) (.c (.p (.bool false)))),oM 4 107]) (.ret))))))))
theorem tX:K_spec_l3Stmt.whole=F_spec_l3Stmt.ak:=rfl
variable (G:ay)
theorem se(n lo hi:Int):VF Tryz.prog G bP [.p (.int .i64 n),.p (.int .i64 lo),.p (.int .i64 hi)] (.p (.bool (inR n lo hi))):=by
 refine AC.go xF ?_
 by_cases h:lo≤n
 ·simp-implicitDefEqProofs[lN,h,inR]
 ·simp-implicitDefEqProofs[lN,h,inR]
theorem ws(op:Int):VF Tryz.prog G gD [.p (.int .i64 op)] (.tup [.p (.int .i64 (loK op)),.p (.int .i64 (hiK op))]):=by
 refine AC.go tY ?_
 by_cases h1:op=1
 ·subst h1;simp-implicitDefEqProofs[cV,loK,hiK]
 by_cases h2:op=2
 ·subst h2;simp-implicitDefEqProofs[cV,loK,hiK]
 by_cases h3:op=11
 ·subst h3;simp-implicitDefEqProofs[cV,loK,hiK]
 by_cases h4:op=12
 ·subst h4;simp-implicitDefEqProofs[cV,loK,hiK]
 by_cases h5:op=13
 ·subst h5;simp-implicitDefEqProofs[cV,loK,hiK]
 simp-implicitDefEqProofs[cV,loK,hiK,h1,h2,h3,h4,h5]
theorem Es:∀(d:Nat) (e:Ex),e.sz≤1099511627776→d≤1000→VF Tryz.prog G eN [.agg (e.cs.map .p),.p (.int .i64 d)] (.p (.bool (fV d e))):=by
 intro d
 induction d with
 |zero=>
  intro e he _
  refine AC.go nb ?_
  simp-implicitDefEqProofs[F_spec_l2Form,Ex.cs_eq]
  refine(ws G _).use ?_
  simp-implicitDefEqProofs[fV]
 |succ d ih=>
  intro e he hd
  have hsz:=e.sz_eq
  have hkl:=bL e.kids
  refine AC.goK nb tW ?_
  have hd1:¬(d:Int)+1<1:=by omega
  have hw:IntKind.i64.wrap ((d:Int)+1-1)=(d:Int):=by rw[show(d:Int)+1-1=d by omega];exact ag (by omega) (by omega)
  have hw':IntKind.i64.wrap (d:Int)=(d:Int):=ag (by omega) (by omega)
  have hxl:∀l,exL l= .lst 4 (l.map Ex.cs):=fun _=>rfl
  simp-implicitDefEqProofs[K_spec_l2Form,F_spec_l2Form,Ex.cs_eq]
  refine(ws G _).use ?_
  simp-implicitDefEqProofs[hd1]
  refine(se G _ _ _).use ?_
  by_cases h1:inR e.op 1 13=true
  case neg=>simp-implicitDefEqProofs[h1,fV,mO]
  simp-implicitDefEqProofs[h1,hxl]
  refine(se G _ _ _).use ?_
  by_cases h2:inR e.kids.length (loK e.op) (hiK e.op)=true
  case neg=>simp-implicitDefEqProofs[h2,fV,mO]
  simp-implicitDefEqProofs[h2]
  refine kD (aj 86 [(1,.p (.int .i64 (d+1))),(2,.ptr 0 4 0 0),(7,.p (.bool (xP e.op)))]) [.row 4 [[.p (.int .i64 e.op),.p (.int .i64 e.n),.p (.str e.name),.p (.lst 4 (e.kids.map Ex.cs))]]] ?_ ?_
  ·by_cases o2:e.op=2
   ·simp-implicitDefEqProofs[o2]
    exact ab (by simp) (by simp[okO]) (by simp[below,xP])
   ·by_cases o13:e.op=13
    ·simp-implicitDefEqProofs[o13]
     exact ab (by simp) (by simp[okO]) (by simp[below,xP])
    ·simp-implicitDefEqProofs[o2,o13]
     exact ab (by simp) (by simp[okO]) (by simp[below,xP,o2,o13])
  have hn:e.name.length≤140737488355328:=by omega
  refine rN (fun _:Unit=>aj 86 [(1,.p (.int .i64 ((d:Int)+1))),(2,.ptr 0 4 0 0)]) (fun _=>[.row 4 [[.p (.int .i64 e.op),.p (.int .i64 e.n),.p (.str e.name),.p (.lst 4 (e.kids.map Ex.cs))]]]) (fun _=>mO e=true) ?_ ?_
  ·simp-implicitDefEqProofs[]
   refine(ow G _ hn).use ?_
   simp-implicitDefEqProofs[]
   repeat' first
    |(refine(se G _ _ _).use ?_;simp-implicitDefEqProofs[])
    |(refine aS (fun hc=>?_) (fun hc=>?_)<;>simp-implicitDefEqProofs[hc])
   all_goals first
    |exact⟨by simp_all [mO],ab (by simp) (by simp[okO]) (by simp[below])⟩
    |simp_all [fV,mO]
  intro _ hh
  simp-implicitDefEqProofs[]
  refine aJ (fun i:Nat=>aj 86 [(1,.p (.int .i64 ((d:Int)+1))),(2,.ptr 0 4 0 0),(8,.p (.int .i64 i))]) (fun _=>[.row 4 [[.p (.int .i64 e.op),.p (.int .i64 e.n),.p (.str e.name),.p (.lst 4 (e.kids.map Ex.cs))]]])
   (fun i=>i≤e.kids.length∧(e.kids.take i).all (fV d)=true) (fun i=>e.kids.length-i) 0 (by simp) (ab (by simp) (by simp[okO]) (by simp[below])) ?_
  intro i ⟨hi,hall⟩
  simp-implicitDefEqProofs[]
  refine aS (fun h=>?_) (fun h=>?_)
  ·simp at h
   have hg:=List.getElem?_eq_getElem h
   have hks:=bQ (List.getElem_mem h)
   simp-implicitDefEqProofs[hg,hw']
   refine(ih e.kids[i] (by omega) (by omega)).use ?_
   by_cases hk:fV d e.kids[i]=true
   ·simp-implicitDefEqProofs[hk]
    refine⟨i+1,⟨h,by rw[←List.all_eq_true,dK h,hall,hk];rfl⟩,by omega,ab (by simp) (by simp[okO]) ?_⟩
    simp[below,w1 (i:=i) (by omega)]
   ·have hk':fV d e.kids[i]=false:=by simpa using hk
    have hf:fV (d+1) e=false:=by simp only[fV,kx h hk',Bool.and_false]
    simp-implicitDefEqProofs[hk',hf]
  ·simp at h
   have hf:fV (d+1) e=true:=by simp only[fV,fT h hall,hh,Bool.and_self]
   simp-implicitDefEqProofs[hf]
theorem AT{l:List Ex}{i:Nat}(h:i<l.length):bl (l.take (i+1))=bl (l.take i)+l[i].parts:=by
 rw[al h,ec];simp[bl]
theorem vn(l:List Ex)(i:Nat):bl (l.take i)≤bl l:=by
 have:=ec (l.take i) (l.drop i)
 rw[List.take_append_drop] at this
 omega
theorem AR:∀(k:Nat) (e:Ex),e.sz≤k→k≤1099511627776→VF Tryz.prog G fU [.agg (e.cs.map .p)] (.p (.int .i64 e.parts)):=by
 intro k
 induction k with
 |zero=>intro e he;have:=e.sz_eq;omega
 |succ k ih=>
  intro e he hk
  have hsz:=e.sz_eq
  have hkl:=bL e.kids
  have hpe:=e.parts_eq
  have hpz:=nW e.kids
  refine AC.go ti ?_
  have hxl:∀l,exL l= .lst 4 (l.map Ex.cs):=fun _=>rfl
  simp-implicitDefEqProofs[lF,Ex.cs_eq,hxl]
  refine aJ (fun i:Nat=>aj 21 [(1,.ptr 0 4 0 0),(3,.p (.int .i64 ((1+bl (e.kids.take i):Nat):Int))),(4,.p (.int .i64 i))]) (fun _=>[.row 4 [[.p (.int .i64 e.op),.p (.int .i64 e.n),.p (.str e.name),.p (.lst 4 (e.kids.map Ex.cs))]]])
   (fun i=>i≤e.kids.length) (fun i=>e.kids.length-i) 0 (by simp) (ab (by simp) (by simp[okO]) (by simp[below,bl])) ?_
  intro i hi
  simp-implicitDefEqProofs[]
  refine aS (fun h=>?_) (fun h=>?_)
  ·simp at h
   have hg:=List.getElem?_eq_getElem h
   have hks:=bQ (List.getElem_mem h)
   have hps:=AT h
   have hple:=vn e.kids (i+1)
   simp-implicitDefEqProofs[hg]
   refine(ih e.kids[i] (by omega) (by omega)).use ?_
   have hw:IntKind.i64.wrap (1+(bl (e.kids.take i):Int)+(e.kids[i].parts:Int))=((1+bl (e.kids.take (i+1)):Nat):Int):=by rw[ag (by omega) (by omega)];omega
   simp-implicitDefEqProofs[hw]
   exact⟨i+1,h,by omega,ab (by simp) (by simp[okO]) (by simp[below,w1 (i:=i) (by omega)])⟩
  ·simp at h
   rw[List.take_of_length_le h]
   simp-implicitDefEqProofs[]
   omega
theorem wn(e:Ex)(he:e.sz≤1099511627776):VF Tryz.prog G ef [.agg (e.cs.map .p)] (.p (.bool (kS e))):=by
 refine AC.go pU ?_
 simp-implicitDefEqProofs[jO]
 have h6:=Es G 6 e he (by omega)
 refine h6.use ?_
 by_cases h:fV 6 e=true
 ·simp-implicitDefEqProofs[h]
  refine(AR G _ e (Nat.le_refl _) he).use ?_
  simp-implicitDefEqProofs[kS,h]
  omega
 ·simp-implicitDefEqProofs[h,kS]
theorem CR(op:Int):VF Tryz.prog G gC [.p (.int .i64 op)] (.p (.int .i64 (jl op))):=by
 refine AC.go uc ?_
 by_cases h:op=4
 ·simp-implicitDefEqProofs[jB,h,jl]
 ·simp-implicitDefEqProofs[jB,h,jl]
theorem qm(d:Nat)(hd:d≤1000)(hs:∀s:Sm,s.sz≤1099511627776→VF Tryz.prog G gE [.agg (s.cs.map .p),.p (.int .i64 d)] (.p (.bool (aK d s))))(l:List Sm)(hl:aq l≤1099511627776):
 VF Tryz.prog G bS [.p (smL l),.p (.int .i64 d)] (.p (.bool (l.all (aK d)))):=by
 refine AC.go ta ?_
 have hll:=cg l
 have hsl:∀l,smL l= .lst 5 (l.map Sm.cs):=fun _=>rfl
 simp-implicitDefEqProofs[lA]
 refine aJ (fun i:Nat=>aj 19 [(0,.p (smL l)),(1,.p (.int .i64 d)),(5,.p (.int .i64 i))]) (fun _=>[]) (fun i=>i≤l.length∧(l.take i).all (aK d)=true) (fun i=>l.length-i) 0 (by simp) (co rfl (by simp[below,hsl])) ?_
 intro i ⟨hi,hall⟩
 simp-implicitDefEqProofs[hsl]
 refine aS (fun h=>?_) (fun h=>?_)
 ·simp at h
  have hg:=List.getElem?_eq_getElem h
  have hks:=eQ (List.getElem_mem h)
  simp-implicitDefEqProofs[hg]
  refine(hs l[i] (by omega)).use ?_
  by_cases hk:aK d l[i]=true
  ·simp-implicitDefEqProofs[hk]
   exact⟨i+1,⟨h,by rw[←List.all_eq_true,dK h,hall,hk];rfl⟩,by omega,co rfl (by simp[below,hsl,w1 (i:=i) (by omega)])⟩
  ·have hk':aK d l[i]=false:=by simpa using hk
   have hf:=kx h hk'
   simp-implicitDefEqProofs[hk',hf]
 ·simp at h
  have hf:=fT h hall
  simp-implicitDefEqProofs[hf]
theorem BK:∀(d:Nat),d≤1000→∀s:Sm,s.sz≤1099511627776→VF Tryz.prog G gE [.agg (s.cs.map .p),.p (.int .i64 d)] (.p (.bool (aK d s))):=by
 intro d
 induction d with
 |zero=>
  intro _ s _
  refine AC.go nj ?_
  simp-implicitDefEqProofs[F_spec_l3Stmt,Sm.cs_eq,aK]
 |succ d ih=>
  intro hd s he
  have hsz:=s.sz_eq
  have hal:=bL s.args
  have hbl:=cg s.body
  have hel:=cg s.els
  have ihs:=qm G d (by omega) (ih (by omega))
  refine AC.goK nj tX ?_
  have hd1:¬(d:Int)+1<1:=by omega
  have hw':IntKind.i64.wrap (d:Int)=(d:Int):=ag (by omega) (by omega)
  have hxl:∀l,exL l= .lst 4 (l.map Ex.cs):=fun _=>rfl
  have hsl:∀l,smL l= .lst 5 (l.map Sm.cs):=fun _=>rfl
  have hn:s.name.length≤140737488355328:=by omega
  simp-implicitDefEqProofs[K_spec_l3Stmt,F_spec_l3Stmt,Sm.cs_eq]
  generalize hH:[AO.row 5 [[AV.p (.int .i64 s.op),.p (.str s.name),.p (exL s.args),.p (smL s.body),.p (smL s.els)]]]=H
  have hho:∀o∈H,okO H.length o:=by rw[←hH];simp[okO]
  have hhl:0<H.length:=by rw[←hH];simp
  have hh0:H[0]?=some (AO.row 5 [[AV.p (.int .i64 s.op),.p (.str s.name),.p (exL s.args),.p (smL s.body),.p (smL s.els)]]):=by rw[←hH];rfl
  have hhL:H.length=1:=by rw[←hH];rfl
  refine rN (fun _:Unit=>aj 108 [(1,.p (.int .i64 ((d:Int)+1))),(2,.ptr 0 5 0 0)]) (fun _=>H) (fun _=>inR s.op 1 8=true∧s.args.length=jl s.op) ?_ ?_
  ·simp-implicitDefEqProofs[hd1,hh0]
   refine(se G _ _ _).use ?_
   by_cases h1:inR s.op 1 8=true
   case neg=>simp-implicitDefEqProofs[h1,aK,hZ]
   simp-implicitDefEqProofs[h1,hh0,hxl]
   refine(CR G _).useQ ?_
   by_cases h2:s.args.length=jl s.op
   ·simp-implicitDefEqProofs[h2]
    exact ab (by omega) hho (by simp[below,hhl])
   ·have h2':¬(s.args.length:Int)=(jl s.op:Int):=by omega
    simp-implicitDefEqProofs[h2,h2',aK,hZ]
  intro _ ⟨h1,h2⟩
  refine rN (fun _:Unit=>aj 108 [(1,.p (.int .i64 ((d:Int)+1))),(2,.ptr 0 5 0 0),(5,.p (.bool (cL s.op)))]) (fun _=>H) (fun _=>True) ?_ ?_
  ·simp-implicitDefEqProofs[hh0]
   by_cases o1:s.op=1
   ·simp-implicitDefEqProofs[o1,hh0,cL]
    exact ab (by omega) hho (by simp[below,hhl])
   ·by_cases o2:s.op=2
    ·simp-implicitDefEqProofs[o2,hh0,cL]
     exact ab (by omega) hho (by simp[below,hhl])
    ·simp-implicitDefEqProofs[o1,o2,hh0,cL]
     exact ab (by omega) hho (by simp[below,hhl])
  intro _ _
  refine rN (fun _:Unit=>aj 108 [(1,.p (.int .i64 ((d:Int)+1))),(2,.ptr 0 5 0 0)]) (fun _=>H) (fun _=>(cL s.op==aH s.name)=true∧(cL s.op||decide (s.name=[]))=true) ?_ ?_
  ·simp-implicitDefEqProofs[hh0]
   refine(ow G _ hn).use ?_
   simp-implicitDefEqProofs[hh0]
   repeat' first
    |(refine aS (fun hc=>?_) (fun hc=>?_)<;>simp-implicitDefEqProofs[hc,hh0])
   all_goals first
    |exact ab (by omega) hho (by simp[below,hhl])
    |exact⟨by simp_all,by simp_all,ab (by omega) hho (by simp[below,hhl])⟩
    |exact⟨by simp_all,ab (by omega) hho (by simp[below,hhl])⟩
    |(simp_all [aK,hZ];done)
  intro _ ⟨h3,h4⟩
  simp-implicitDefEqProofs[]
  refine aJ (fun i:Nat=>aj 108 [(1,.p (.int .i64 ((d:Int)+1))),(2,.ptr 0 5 0 0),(6,.p (.int .i64 i))]) (fun _=>H) (fun i=>i≤s.args.length∧(s.args.take i).all kS=true) (fun i=>s.args.length-i) 0 (by simp) (ab (by omega) hho (by simp[below,hhl])) ?_
  intro i ⟨hi,hall⟩
  simp-implicitDefEqProofs[hh0,hxl]
  refine aS (fun h=>?_) (fun h=>?_)
  ·simp at h
   have hg:=List.getElem?_eq_getElem h
   have hks:=bQ (List.getElem_mem h)
   simp-implicitDefEqProofs[hg,hh0,hxl]
   refine(wn G s.args[i] (by omega)).use ?_
   by_cases hk:kS s.args[i]=true
   ·simp-implicitDefEqProofs[hk]
    exact⟨i+1,⟨h,by rw[←List.all_eq_true,dK h,hall,hk];rfl⟩,by omega,ab (by omega) hho (by simp[below,hhl,w1 (i:=i) (by omega)])⟩
   ·have hk':kS s.args[i]=false:=by simpa using hk
    have hf:aK (d+1) s=false:=by simp only[aK,hZ,kx h hk',Bool.and_false,Bool.false_and]
    simp-implicitDefEqProofs[hk',hf]
  simp at h
  have h5:s.args.all kS=true:=fT h hall
  have hlen1:1≤s.args.length:=by rw[h2];unfold jl;split<;>omega
  obtain⟨a0,ar,ha⟩:∃a r,s.args=a::r:=by
   cases hh:s.args with
   |nil=>rw[hh] at hlen1;simp at hlen1
   |cons a r=>exact⟨a,r,rfl⟩
  have ha0:s.args[0]?=some a0:=by rw[ha];rfl
  refine rN (fun _:Unit=>aj 108 [(1,.p (.int .i64 ((d:Int)+1))),(2,.ptr 0 5 0 0)]) (fun _=>H) (fun _=>(!decide (s.op=8)||decide (a0.op=13))=true) ?_ ?_
  ·simp-implicitDefEqProofs[hh0]
   by_cases o8:s.op=8
   ·have hae:=a0.cs_eq
    simp-implicitDefEqProofs[o8,hh0,hxl,ha0,hae]
    refine aS (fun hc=>?_) (fun hc=>?_)
    ·simp at hc
     have hf:aK (d+1) s=false:=by simp[aK,hZ,o8,ha,hc]
     simp-implicitDefEqProofs[hf]
    ·simp at hc
     simp-implicitDefEqProofs[hc]
     exact ab (by omega) hho (by simp[below,hhl])
   ·simp-implicitDefEqProofs[o8,hh0]
    exact ab (by omega) hho (by simp[below,hhl])
  intro _ h6
  refine rN (fun _:Unit=>aj 108 [(1,.p (.int .i64 ((d:Int)+1))),(2,.ptr 0 5 0 0)]) (fun _=>H) (fun _=>(s.els.isEmpty||decide (s.op=5))=true∧(s.body.isEmpty||decide (s.op=5)||decide (s.op=6))=true) ?_ ?_
  ·have hf:¬((s.els.isEmpty||decide (s.op=5))=true∧(s.body.isEmpty||decide (s.op=5)||decide (s.op=6))=true)→aK (d+1) s=false:=fun h=>by
    have:hZ s=false:=by
     cases hx:hZ s with
     |false=>rfl
     |true=>refine absurd ?_ h;simp only[hZ,Bool.and_eq_true] at hx;exact⟨hx.1.2,hx.2⟩
    simp[aK,this]
   have pe:¬s.els=[]→0<s.els.length:=List.length_pos_iff.2
   have pb:¬s.body=[]→0<s.body.length:=List.length_pos_iff.2
   by_cases o5:s.op=5
   ·simp-implicitDefEqProofs[hh0,hsl,o5]
    repeat' first
     |(refine aS (fun hc=>?_) (fun hc=>?_)<;>simp-implicitDefEqProofs[hc,hh0,hsl,o5])
    all_goals exact ab (by omega) hho (by simp[below,hhl])
   by_cases e1:s.els=[]
   case neg=>
    have hf:=hf (by simp[e1,o5])
    have:=pe e1
    simp-implicitDefEqProofs[hh0,hsl,o5,e1,this,hf]
   by_cases e2:s.body=[]
   ·simp-implicitDefEqProofs[hh0,hsl,o5,e1,e2]
    exact ab (by omega) hho (by simp[below,hhl])
   have:=pb e2
   by_cases o6:s.op=6
   ·simp-implicitDefEqProofs[hh0,hsl,o6,e1,e2,this]
    exact ab (by omega) hho (by simp[below,hhl])
   ·have hf:=hf (by simp[e2,o5,o6])
    simp-implicitDefEqProofs[hh0,hsl,o5,o6,e1,e2,this,hf]
  intro _ ⟨h7,h8⟩
  have hm:(match s.args with|a::_=>decide (a.op=13)|[]=>false)=decide (a0.op=13):=by rw[ha]
  have hhd:hZ s=true:=by
   have h6':(!decide (s.op=8)||(match s.args with|a::_=>decide (a.op=13)|[]=>false))=true:=by rw[hm];exact h6
   have h2':decide (s.args.length=jl s.op)=true:=by simp[h2]
   simp only[hZ,h1,h2',h3,h4,h5,h7,h8,Bool.and_self,Bool.and_true,Bool.true_and]
   exact h6'
  simp-implicitDefEqProofs[hh0,hw']
  refine(ihs s.body (by omega)).use ?_
  by_cases hB:s.body.all (aK d)=true
  ·simp only[hB]
   simp-implicitDefEqProofs[hh0,hw']
   refine(ihs s.els (by omega)).use ?_
   have hf:aK (d+1) s=s.els.all (aK d):=by simp only[aK,hhd,hB,Bool.true_and]
   rw[hf]
   generalize s.els.all (aK d)=w
   simp-implicitDefEqProofs[]
  ·have hB':s.body.all (aK d)=false:=by simpa using hB
   have hf:aK (d+1) s=false:=by simp only[aK,hB',Bool.and_false,Bool.false_and]
   simp only[hB',hf]
   simp-implicitDefEqProofs[]
theorem Bl(d:Nat)(hd:d≤1000)(l:List Sm)(hl:aq l≤1099511627776):VF Tryz.prog G bS [.p (smL l),.p (.int .i64 d)] (.p (.bool (l.all (aK d)))):=
 qm G d hd (BK G d hd) l hl
theorem Gx(f:Fd)(hf:f.sz≤1099511627776):VF Tryz.prog G lO [.agg (f.cs.map .p)] (.p (.bool (iW f))):=by
 refine AC.go xy ?_
 have hsz:f.sz=1+f.name.length+(f.params.length+(f.params.map List.length).sum)+aq f.body:=rfl
 have hps:∀x∈f.params,x.length≤(f.params.map List.length).sum:=fun x hx=>by
  have key:∀l:List (List UInt8),x∈l→x.length≤(l.map List.length).sum:=by
   intro l
   induction l with
   |nil=>intro h;cases h
   |cons y r ih=>
    intro h
    simp only[List.map_cons,List.sum_cons]
    rcases List.mem_cons.1 h with rfl|h
    ·omega
    ·have:=ih h;omega
  exact key _ hx
 have hst:aC f.params= .lst 1 (f.params.map fun w=>[.str w]):=rfl
 have h4:=Bl G 4 (by omega) f.body (by omega)
 simp-implicitDefEqProofs[qu,Fd.cs,hst]
 refine aJ (fun i:Nat=>aj 32 [(1,.ptr 0 3 0 0),(3,.p (.int .i64 i))]) (fun _=>[.row 3 [[.p (.str f.name),.p (aC f.params),.p (smL f.body)]]]) (fun i=>i≤f.params.length∧(f.params.take i).all aH=true) (fun i=>f.params.length-i) 0 (by simp) (ab (by simp) (by simp[okO]) (by simp[below])) ?_
 intro i ⟨hi,hall⟩
 simp-implicitDefEqProofs[hst]
 refine aS (fun h=>?_) (fun h=>?_)
 ·simp at h
  have hg:=List.getElem?_eq_getElem h
  have hl:=hps _ (List.getElem_mem h)
  simp-implicitDefEqProofs[hg]
  refine(ow G _ (by omega)).use ?_
  by_cases hk:aH f.params[i]=true
  ·simp-implicitDefEqProofs[hk]
   exact⟨i+1,⟨h,by rw[←List.all_eq_true,dK h,hall,hk];rfl⟩,by omega,ab (by simp) (by simp[okO]) (by simp[below,w1 (i:=i) (by omega)])⟩
  ·have hk':aH f.params[i]=false:=by simpa using hk
   have hff:iW f=false:=by simp only[iW,kx h hk',Bool.false_and]
   simp-implicitDefEqProofs[hk',hff]
 ·simp at h
  have h1:f.params.all aH=true:=fT h hall
  simp-implicitDefEqProofs[]
  refine(ow G _ (by omega)).use ?_
  by_cases h2:aH f.name=true
  case neg=>
   have h2':aH f.name=false:=by simpa using h2
   simp-implicitDefEqProofs[h2',iW]
  simp-implicitDefEqProofs[h2]
  by_cases h3:f.params.length≤3
  case neg=>
   have h3':¬(f.params.length:Int)≤3:=by omega
   simp-implicitDefEqProofs[h3,h3',iW]
  have h3':(f.params.length:Int)≤3:=by omega
  simp-implicitDefEqProofs[h3']
  refine h4.use ?_
  have hff:iW f=f.body.all (aK 4):=by simp only[iW,h1,h2,h3,decide_true,Bool.true_and]
  rw[hff]
  generalize f.body.all (aK 4)=w
  simp-implicitDefEqProofs[]
theorem By{l:List Sm}{i:Nat}(h:i<l.length):dA (l.take (i+1))=dA (l.take i)+l[i].cnt:=by
 rw[al h,lG];simp[dA]
theorem pj(l:List Sm)(i:Nat):dA (l.take i)≤dA l:=by
 have:=lG (l.take i) (l.drop i)
 rw[List.take_append_drop] at this
 omega
def jp(l:List Sm)(i:Nat):Nat:=l.length+((l.take i).map fun s=>dA s.body+dA s.els).sum
theorem xK(l:List Sm):jp l 0=l.length:=by simp[jp]
theorem td{l:List Sm}{i:Nat}(h:i<l.length):jp l (i+1)=jp l i+dA l[i].body+dA l[i].els:=by
 rw[jp,jp,al h,List.map_append,List.sum_append]
 simp only[List.map_cons,List.map_nil,List.sum_cons,List.sum_nil]
 omega
theorem pK(l:List Sm):∀i,i≤l.length→dA (l.take i)+l.length=i+jp l i
 |0,_=>by simp[dA,jp]
 |i+1,h=>by
  have:=pK l i (by omega)
  rw[By (by omega),td (by omega),(l[i]'(by omega)).cnt_eq]
  omega
theorem BC:∀(k:Nat) (l:List Sm),aq l≤k→k≤1099511627776→VF Tryz.prog G eb [.p (smL l)] (.p (.int .i64 (dA l))):=by
 intro k
 induction k with
 |zero=>
  intro l hl _
  have:l=[]:=by
   cases l with
   |nil=>rfl
   |cons s r=>have:=s.sz_eq;simp only[aq] at hl;omega
  subst this
  refine AC.go lT ?_
  have hsl:smL []= .lst 5 []:=rfl
  simp-implicitDefEqProofs[iO,hsl]
  refine aJ (fun _:Unit=>aj 29 [(0,.p (.lst 5 [])),(3,.p (.int .i64 0)),(4,.p (.int .i64 0))]) (fun _=>[]) (fun _=>True) (fun _=>0) () trivial (co rfl (by simp[below])) ?_
  intro _ _
  simp-implicitDefEqProofs[dA]
 |succ k ih=>
  intro l hl hk
  have hll:=cg l
  have hnz:=mr l
  refine AC.go lT ?_
  have hsl:∀l,smL l= .lst 5 (l.map Sm.cs):=fun _=>rfl
  simp-implicitDefEqProofs[iO,hsl]
  refine aJ (fun i:Nat=>aj 29 [(0,.p (smL l)),(3,.p (.int .i64 (jp l i))),(4,.p (.int .i64 i))]) (fun _=>[]) (fun i=>i≤l.length) (fun i=>l.length-i) 0 (by simp) (co rfl (by simp[below,hsl,xK])) ?_
  intro i hi
  have k0:=pK l i hi
  have k2:=pj l i
  simp-implicitDefEqProofs[hsl]
  refine aS (fun h=>?_) (fun h=>?_)
  ·simp at h
   have hg:=List.getElem?_eq_getElem h
   have hks:=eQ (List.getElem_mem h)
   have hse:=l[i].sz_eq
   have hce:=l[i].cs_eq
   have k1:=td h
   have k3:=pK l (i+1) h
   have k4:=pj l (i+1)
   simp-implicitDefEqProofs[hg,hce]
   refine(ih l[i].body (by omega) (by omega)).use ?_
   simp-implicitDefEqProofs[hg,hce]
   refine(ih l[i].els (by omega) (by omega)).use ?_
   have w1':IntKind.i64.wrap ((jp l i:Int)+(dA l[i].body:Int))=(jp l i:Int)+(dA l[i].body:Int):=ag (by omega) (by omega)
   have w2':IntKind.i64.wrap ((jp l i:Int)+(dA l[i].body:Int)+(dA l[i].els:Int))=(jp l (i+1):Int):=by rw[ag (by omega) (by omega)];omega
   simp-implicitDefEqProofs[w1',w2']
   exact⟨i+1,h,by omega,co rfl (by simp[below,hsl,w1 (i:=i) (by omega)])⟩
  ·simp at h
   rw[List.take_of_length_le h] at k0
   have:jp l i=dA l:=by omega
   simp-implicitDefEqProofs[this]
theorem dY:∀{l:List Fd} {f:Fd},f∈l→f.sz≤aY l
 |x::r,e,h=>by
  simp only[aY,List.map_cons,List.sum_cons]
  rcases List.mem_cons.1 h with rfl|h
  ·omega
  ·have:=dY h;simp only[aY] at this;omega
theorem cf:∀l:List Fd,l.length≤aY l
 |[]=>Nat.le_refl _
 |e::r=>by have:=cf r;simp only[aY,List.map_cons,List.sum_cons,List.length_cons] at this⊢;have:1≤e.sz:=by unfold Fd.sz;omega
           omega
def tp(l:List Fd)(i:Nat):Nat:=jQ (l.take i)
theorem AF{l:List Fd}{i:Nat}(h:i<l.length):tp l (i+1)=tp l i+dA l[i].body:=by
 rw[tp,tp,jQ,jQ,al h,List.map_append,List.sum_append];simp
theorem vY:∀l:List Fd,jQ l≤aY l
 |[]=>Nat.le_refl _
 |f::r=>by
  have:=vY r
  have h2:=mr f.body
  simp only[jQ,aY,List.map_cons,List.sum_cons] at this⊢
  have:aq f.body≤f.sz:=by unfold Fd.sz;omega
  omega
theorem Fm(l:List Fd)(i:Nat):tp l i≤aY l:=by
 have h1:=vY (l.take i)
 have h2:aY (l.take i)≤aY l:=by
  have:aY l=aY (l.take i)+aY (l.drop i):=by
   rw[←List.take_append_drop i l,aY,List.map_append,List.sum_append];simp[aY]
  omega
 exact Nat.le_trans h1 h2
theorem Fg(l:List Fd)(hl:aY l≤1099511627776):VF Tryz.prog G kn [.agg [.p (fdL l)]] (.p (.int .i64 (jQ l))):=by
 refine AC.go vD ?_
 have hll:=cf l
 have hfl:∀l,fdL l= .lst 3 (l.map Fd.cs):=fun _=>rfl
 simp-implicitDefEqProofs[pc]
 refine aJ (fun i:Nat=>aj 22 [(1,.ptr 0 1 0 0),(3,.p (.int .i64 (tp l i))),(4,.p (.int .i64 i))]) (fun _=>[.row 1 [[.p (fdL l)]]]) (fun i=>i≤l.length) (fun i=>l.length-i) 0 (by simp) (ab (by simp) (by simp[okO]) (by simp[below,tp,jQ])) ?_
 intro i hi
 simp-implicitDefEqProofs[hfl]
 refine aS (fun h=>?_) (fun h=>?_)
 ·simp at h
  have hg:=List.getElem?_eq_getElem h
  have hks:=dY (List.getElem_mem h)
  have hse:l[i].sz=1+l[i].name.length+(l[i].params.length+(l[i].params.map List.length).sum)+aq l[i].body:=rfl
  have hce:l[i].cs=[.str l[i].name,aC l[i].params,smL l[i].body]:=rfl
  have k1:=AF h
  have k2:=Fm l (i+1)
  simp-implicitDefEqProofs[hg,hce]
  refine(BC G _ l[i].body (Nat.le_refl _) (by omega)).use ?_
  have w1':IntKind.i64.wrap ((tp l i:Int)+(dA l[i].body:Int))=(tp l (i+1):Int):=by rw[ag (by omega) (by omega)];omega
  simp-implicitDefEqProofs[w1']
  exact⟨i+1,h,by omega,ab (by simp) (by simp[okO]) (by simp[below,w1 (i:=i) (by omega),hfl])⟩
 ·simp at h
  have:tp l i=jQ l:=by rw[tp,List.take_of_length_le h]
  simp-implicitDefEqProofs[this]
theorem iI(l:List Fd)(hl:aY l≤1099511627776):VF Tryz.prog G cZ [.agg [.p (fdL l)]] (.p (.bool (bt l))):=by
 refine AC.go mG ?_
 have hfl:∀l,fdL l= .lst 3 (l.map Fd.cs):=fun _=>rfl
 have hall:=Fg G l hl
 have hll:=cf l
 rw[hfl] at hall
 simp-implicitDefEqProofs[ib,hfl]
 refine(se G _ _ _).use ?_
 by_cases h1:inR l.length 1 4=true
 case neg=>simp-implicitDefEqProofs[h1,bt]
 simp-implicitDefEqProofs[h1]
 refine aJ (fun i:Nat=>aj 26 [(1,.ptr 0 1 0 0),(3,.p (.int .i64 i))]) (fun _=>[.row 1 [[.p (.lst 3 (l.map Fd.cs))]]]) (fun i=>i≤l.length∧(l.take i).all iW=true) (fun i=>l.length-i) 0 (by simp) (ab (by simp) (by simp[okO]) (by simp[below])) ?_
 intro i ⟨hi,ha⟩
 simp-implicitDefEqProofs[]
 refine aS (fun h=>?_) (fun h=>?_)
 ·simp at h
  have hg:=List.getElem?_eq_getElem h
  have hks:=dY (List.getElem_mem h)
  simp-implicitDefEqProofs[hg]
  refine(Gx G l[i] (by omega)).use ?_
  by_cases hk:iW l[i]=true
  ·simp-implicitDefEqProofs[hk]
   exact⟨i+1,⟨h,by rw[←List.all_eq_true,dK h,ha,hk];rfl⟩,by omega,ab (by simp) (by simp[okO]) (by simp[below,w1 (i:=i) (by omega)])⟩
  ·have hk':iW l[i]=false:=by simpa using hk
   have hff:bt l=false:=by simp only[bt,kx h hk',Bool.and_false,Bool.false_and]
   simp-implicitDefEqProofs[hk',hff]
 ·simp at h
  have h2:l.all iW=true:=fT h ha
  simp-implicitDefEqProofs[]
  refine hall.use ?_
  have hff:bt l=decide (jQ l≤40):=by simp only[bt,h1,h2,Bool.true_and]
  simp-implicitDefEqProofs[hff]
  omega
end Go.Proofs.YtnjbhgpbgmpkcaaGreatDoor
namespace Go.Proofs.YtnjbhgpbgmpkcaaGreatDoor
open Go Go.Aw
set_option maxRecDepth 100000
set_option maxHeartbeats 4000000
theorem dd{n:Nat}{h h1:List AO}(e:h.take n=h1)(hn:h1.length=n)(ho:∀o∈h1,okO n o):Fst n h h1:=by
 have hl:n≤h.length:=by
  have:=congrArg List.length e
  rw[List.length_take] at this;omega
 have hg:∀(i:Nat) (o:AO),h1[i]?=some o→h[i]?=some o:=fun i o hi=>by
  have h2:=(List.getElem?_eq_some_iff.1 hi).1
  rw[←e,List.getElem?_take_of_lt (by omega)] at hi
  exact hi
 exact⟨hn,hl,fun i sz es hi=>⟨hg _ _ hi,ho _ (List.mem_of_getElem? hi)⟩,fun i es hi=>⟨hg _ _ hi,ho _ (List.mem_of_getElem? hi)⟩,fun i s p hi=>hg _ _ hi⟩
theorem um:∀(r:List AO) (s:Nat),((fx (List.range' s r.length++[0]) (r++[.dead])).Nodup∧∀i∈fx (List.range' s r.length++[0]) (r++[.dead]),s≤i)
 |[],s=>by simp[fx]
 |o::r,s=>by
  obtain⟨h1,h2⟩:=um r (s+1)
  rw[List.length_cons,List.range'_succ]
  cases o with
  |dead=>exact⟨h1,fun i hi=>Nat.le_of_succ_le (h2 i hi)⟩
  |_=>exact⟨List.nodup_cons.2 ⟨fun hm=>absurd (h2 _ hm) (by omega),h1⟩,fun i hi=>by
   rcases List.mem_cons.1 hi with rfl|hi
   ·exact Nat.le_refl _
   ·exact Nat.le_of_succ_le (h2 i hi)⟩
theorem xH{h:List AO}(hp:0<h.length)(ho:∀o∈h,okO h.length o):∀(r:List AO) (s:Nat),(∀i:Nat,r[i]?=h[s+i]?)→s+r.length=h.length→HW (List.range' 0 h.length++[0]) h (List.range' s r.length++[0]) (r++[.dead])
 |[],s,_,_=>bJ hp bm
 |o::r,s,hr,hs=>by
  have hσ:∀i,i<h.length→(List.range' 0 h.length++[0]).getD i 0=i:=fun i hi=>by
   rw[List.getD_eq_getElem?_getD,List.getElem?_append_left (by simp;exact hi)];simp[hi]
  rw[List.length_cons,List.range'_succ]
  have h0:=hr 0
  have ih:=xH hp ho r (s+1) (fun i=>by have:=hr (i+1);rw[List.getElem?_cons_succ] at this;rw[this];congr 1;omega) (by simp at hs;omega)
  have hm:h[s]?=some o:=by simpa using h0.symm
  have hok:=ho o (List.mem_of_getElem? hm)
  cases o with
  |dead=>exact bJ (List.getElem?_eq_some_iff.1 hm).1 ih
  |row sz es=>
   refine cR (fun x hx=>aN (by simp) _ (hok x hx)) ?_ ih
   rw[hm,List.map_congr_left (g:=id) fun x hx=>jU hσ x (hok x hx)];simp
  |mp es=>exact⟨(List.getElem?_eq_some_iff.1 hm).1,⟨fun x hx=>by exact(aN (by simp) [x.2] ⟨hok x hx,trivial⟩).1,by rw[hm,List.map_congr_left (g:=id) fun x hx=>by rw[ku hσ x.2 (hok x hx)];rfl];simp⟩,ih⟩
  |sit s p=>exact⟨(List.getElem?_eq_some_iff.1 hm).1,hm,ih⟩
theorem wV{m:Nat}{l:List (Nat × AV)}:∀r:List (Nat × AV),FgA m l r→TWA (List.range' 0 m++[0]) l r
 |[],_=>trivial
 |x::r,⟨⟨a,c⟩,d⟩=>by
  have hσ:∀i,i<m→(List.range' 0 m++[0]).getD i 0=i:=fun i hi=>by
   rw[List.getD_eq_getElem?_getD,List.getElem?_append_left (by simp;exact hi)];simp[hi]
  exact⟨⟨(aN (by simp) [x.2] ⟨a,trivial⟩).1,by rw[ku hσ _ a,c]⟩,wV r d⟩
theorem oh{k n:Nat}{l l1:List (Nat × AV)}{h:List AO}(hk:k≤h.length)(hp:0<h.length)(ho:∀o∈h,okO h.length o)(H:FgA h.length l l1):Wk k (aj n l) h (aj n l1) (h++[.dead]):=by
 have hσ:∀i,i<h.length→(List.range' 0 h.length++[0]).getD i 0=i:=fun i hi=>by
  rw[List.getD_eq_getElem?_getD,List.getElem?_append_left (by simp;exact hi)];simp[hi]
 refine py (List.range' 0 h.length++[0]) (by simp;omega) (fun i hi=>hσ i (by omega)) ?_ ?_ (wV _ H)
 ·exact(um h 0).1
 ·exact xH hp ho h 0 (fun i=>by simp) (by simp)
def aZ(fns:List Fd):List (List AV):=fns.map fun f=>f.cs.map .p
theorem qb(fns:List Fd):∀x∈aZ fns,ah 0 x:=by
 intro x hx;obtain⟨m,_,rfl⟩:=List.mem_map.1 hx;simp
theorem bu{n:Nat}{o:AO}(h:okO 0 o):okO n o:=by
 cases o with
 |dead=>trivial
 |sit=>trivial
 |row sz es=>exact fun e he=>aN (Nat.zero_le _) _ (h e he)
 |mp es=>exact fun e he=>(aN (Nat.zero_le n) [e.2] ⟨h e he,trivial⟩).1
theorem iZ(fns:List Fd)(n:Nat):okO n (bO 3 (aZ fns)):=bu (DR (qb fns))
def exR(l:List Ex):List (List AV):=l.map fun e=>e.cs.map .p
theorem dy(l:List Ex):∀x∈exR l,ah 0 x:=by
 intro x hx;obtain⟨m,_,rfl⟩:=List.mem_map.1 hx;simp
theorem fD{h:List AO}{id:Nat}{l:List Ex}(e:h[id]?=some (bO 4 (exR l))):View h (slE id 4 (exR l)) (exL l):=by
 have hh:exR l=(l.map Ex.cs).map (·.map .p):=by simp[exR]
 rw[hh] at e⊢
 exact HI e (fun x hx=>by obtain⟨b,_,rfl⟩:=List.mem_map.1 hx;exact b.cs_len)
theorem pz{h:List AO}{id sz:Nat}{r0 r1:List AV}{p0 p1:List PV}(he:h[id]?=some (.row sz [r0,r1]))(l0:p0.length=sz)(l1:p1.length=sz)(h0:∀(j:Nat) (q:PV) (a:AV),p0[j]?=some q→r0[j]?=some a→View h a q)(h1:∀(j:Nat) (q:PV) (a:AV),p1[j]?=some q→r1[j]?=some a→View h a q):View h (.sl id sz 0 2) (.lst sz [p0,p1]):=by
 refine View.sl id sz 0 _ [p0,p1] he (by simp) (by simp[l0,l1]) fun i j e q e' a a1 a2 a3 a4=>?_
 rw[Nat.zero_add] at a3
 match i,a1,a3 with
 |0,a1,a3=>cases a1;cases a3;exact h0 j q a a2 a4
 |1,a1,a3=>cases a1;cases a3;exact h1 j q a a2 a4
 |i+2,a1,a3=>simp at a1
def smR(l:List Sm):List (List AV):=l.map fun s=>s.cs.map .p
theorem dD(l:List Sm):∀x∈smR l,ah 0 x:=by
 intro x hx;obtain⟨m,_,rfl⟩:=List.mem_map.1 hx;simp
theorem fa(l:List Sm):(smR l).length=l.length:=by simp[smR]
theorem vG(a b:List Sm):smR (a++b)=smR a++smR b:=by simp[smR]
theorem bs{h:List AO}{id sz:Nat}{r0:List AV}{p0:List PV}(he:h[id]?=some (.row sz [r0]))(l0:p0.length=sz)(h0:∀(j:Nat) (q:PV) (a:AV),p0[j]?=some q→r0[j]?=some a→View h a q):View h (.sl id sz 0 1) (.lst sz [p0]):=by
 refine View.sl id sz 0 _ [p0] he (by simp) (by simp[l0]) fun i j e q e' a a1 a2 a3 a4=>?_
 rw[Nat.zero_add] at a3
 match i,a1,a3 with
 |0,a1,a3=>cases a1;cases a3;exact h0 j q a a2 a4
 |i+1,a1,a3=>simp at a1
theorem fH{h:List AO}{o n:Int}{w:List UInt8}{k:List Ex}{K:AV}(hk:View h K (exL k)):∀(j:Nat) (q:PV) (a:AV),(Ex.mk o n w k).cs[j]?=some q→[AV.p (.int .i64 o),.p (.int .i64 n),.p (.str w),K][j]?=some a→View h a q:=by
 intro j q a e1 e2
 have hc:(Ex.mk o n w k).cs=[.int .i64 o,.int .i64 n,.str w,exL k]:=Ex.cs_eq _
 rw[hc] at e1
 match j,e1,e2 with
 |0,e1,e2=>cases e1;cases e2;exact .p _
 |1,e1,e2=>cases e1;cases e2;exact .p _
 |2,e1,e2=>cases e1;cases e2;exact .p _
 |3,e1,e2=>cases e1;cases e2;exact hk
 |j+4,e1,e2=>simp at e1
theorem iQ{h:List AO}{id:Nat}{l:List Sm}(e:h[id]?=some (.row 5 (smR l))):View h (.sl id 5 0 l.length) (smL l):=by
 have:=fO (h:=h) (id:=id) (sz:=5) (n:=l.length) (ls:=l.map Sm.cs) (by rw[e,smR];simp) (by simp) (fun x hx=>by obtain⟨b,_,rfl⟩:=List.mem_map.1 hx;exact b.cs_len)
 exact this
theorem bR{h:List AO}{o:Int}{w:List UInt8}{a:List Ex}{bd el:List Sm}{A B E:AV}(hA:View h A (exL a))(hB:View h B (smL bd))(hE:View h E (smL el)):∀(j:Nat) (q:PV) (x:AV),(Sm.mk o w a bd el).cs[j]?=some q→[AV.p (.int .i64 o),.p (.str w),A,B,E][j]?=some x→View h x q:=by
 intro j q x e1 e2
 have hc:(Sm.mk o w a bd el).cs=[.int .i64 o,.str w,exL a,smL bd,smL el]:=Sm.cs_eq _
 rw[hc] at e1
 match j,e1,e2 with
 |0,e1,e2=>cases e1;cases e2;exact .p _
 |1,e1,e2=>cases e1;cases e2;exact .p _
 |2,e1,e2=>cases e1;cases e2;exact hA
 |3,e1,e2=>cases e1;cases e2;exact hB
 |4,e1,e2=>cases e1;cases e2;exact hE
 |j+5,e1,e2=>simp at e1
theorem bv{n:Nat}:∀o∈([]:List AO),okO n o:=fun o h=>by cases h
theorem ae{n:Nat}{a:AO}{l:List AO}(h:okO n a)(r:∀o∈l,okO n o):∀o∈a::l,okO n o:=fun o ho=>by
 rcases List.mem_cons.1 ho with rfl|ho
 ·exact h
 ·exact r o ho
end Go.Proofs.YtnjbhgpbgmpkcaaGreatDoor
namespace Go.Proofs.YtnjbhgpbgmpkcaaGreatDoor
open Go Go.Aw
set_option maxRecDepth 100000
set_option maxHeartbeats 4000000
variable (G:ay)
theorem ka(n lo hi:Int):VF Tryz.prog G cw [.p (.int .i64 n),.p (.int .i64 lo),.p (.int .i64 hi)] (.p (.bool (inR n lo hi))):=by
 refine AC.go tG ?_
 by_cases h:lo≤n
 ·simp-implicitDefEqProofs[jw,h,inR]
 ·simp-implicitDefEqProofs[jw,h,inR]
theorem BQ(n:Int):VF Tryz.prog G gB [.p (.int .i64 n)] (.p (.bool (inR n 0 255))):=by
 refine AC.go tv ?_
 simp-implicitDefEqProofs[mV]
 refine(ka G _ _ _).use ?_
 simp-implicitDefEqProofs[]
theorem yT(n:Int):VF Tryz.prog G cQ [.p (.int .i32 n)] (.p (.bool (decide (n<97)||decide (122<n)))):=by
 refine AC.go qR ?_
 simp-implicitDefEqProofs[kH]
 by_cases h:n<97
 ·simp-implicitDefEqProofs[h]
 ·simp-implicitDefEqProofs[h]
theorem Fu{s:List UInt8}{i:Nat}(h:i<s.length)(hl:dp s[i]=true):Utf8.decode ⟨⟨s⟩⟩ i=(s[i].toNat,1):=by
 simp only[dp,Bool.and_eq_true,decide_eq_true_eq] at hl
 exact decode_ascii ⟨⟨s⟩⟩ i h (by show(s[i]).toNat<128;omega)
theorem As{s:List UInt8}{i:Nat}(h:i<s.length)(hl:¬dp s[i]=true):(((Utf8.decode ⟨⟨s⟩⟩ i).1:Int)<97∨122<((Utf8.decode ⟨⟨s⟩⟩ i).1:Int)):=by
 rcases Nat.lt_or_ge s[i].toNat 128 with h1|h1
 ·rw[show Utf8.decode ⟨⟨s⟩⟩ i=(s[i].toNat,1) from decode_ascii ⟨⟨s⟩⟩ i h h1]
  simp[dp] at hl
  simp only
  omega
 ·have:=(decode_high ⟨⟨s⟩⟩ i h h1).1
  omega
theorem wj(s:List UInt8)(hb:s.length≤140737488355328):VF Tryz.prog G eD [.p (.str s),.fn (.func cQ) [],.p (.bool true)] (.p (.int .i64 (vA s))):=by
 refine AC.go mH ?_
 simp-implicitDefEqProofs[hY]
 refine aJ (fun i:Nat=>aj 21 [(0,.p (.str s)),(1,.fn (.func cQ) []),(2,.p (.bool true)),(10,.it 0)]) (fun i=>[.sit s i]) (fun i=>i≤s.length∧∀x∈s.take i,dp x=true) (fun i=>s.length-i) 0 (by simp) ?_ ?_
 ·exact ab (by simp) (by simp[okO]) (by simp[below,ah])
 ·intro i ⟨hi,hn⟩
  simp-implicitDefEqProofs[]
  by_cases h1:i<s.length
  ·have hg:=List.getElem?_eq_getElem h1
   simp-implicitDefEqProofs[h1]
   refine(yT G _).use ?_
   by_cases hl:dp s[i]=true
   ·have hd:=Fu h1 hl
    have hl':=hl
    simp only[dp,Bool.and_eq_true,decide_eq_true_eq] at hl'
    have e1:¬((s[i].toNat:Int)<97):=by omega
    have e2:¬(122<(s[i].toNat:Int)):=by omega
    rw[hd]
    simp-implicitDefEqProofs[e1,e2]
    refine⟨i+1,⟨h1,fun p hp=>?_⟩,by omega,ab (by simp) (by simp[okO]) (by simp[below,ah])⟩
    rw[al h1] at hp
    rcases List.mem_append.1 hp with hp|hp
    ·exact hn p hp
    ·rw[List.mem_singleton.1 hp];exact hl
   ·have hd:=As h1 hl
    have hf:vA s=i:=by
     have:s.findIdx? (fun x=> !dp x)=some i:=by
      rw[List.findIdx?_eq_some_iff_getElem]
      exact⟨h1,by simpa using hl,fun j hj=>by have:=hn s[j] (List.mem_take_iff_getElem.2 ⟨j,by omega,rfl⟩);simpa using this⟩
     rw[vA,this]
    have hdb:(decide (((Utf8.decode ⟨⟨s⟩⟩ i).1:Int)<97)||decide (122<((Utf8.decode ⟨⟨s⟩⟩ i).1:Int)))=true:=by
     rcases hd with h|h<;>simp[h]
    rw[hdb]
    simp-implicitDefEqProofs[hf]
  ·have hn':=hn
   rw[List.take_of_length_le (by omega)] at hn'
   have hf:vA s= -1:=by
    have:s.findIdx? (fun x=> !dp x)=none:=by
     rw[List.findIdx?_eq_none_iff];intro x hx;simpa using hn' x hx
    rw[vA,this]
   simp-implicitDefEqProofs[h1,hf]
theorem wL(s:List UInt8)(hb:s.length≤140737488355328):VF Tryz.prog G eI [.p (.str s),.fn (.func cQ) []] (.p (.int .i64 (vA s))):=by
 refine AC.go my ?_
 simp-implicitDefEqProofs[gZ]
 refine(wj G s hb).use ?_
 simp-implicitDefEqProofs[]
theorem Gd(L:List (List UInt8))(s:List UInt8)(hb:L.length≤1048576):VF Tryz.prog G dL [.p (aC L),.p (.str s)] (.p (.int .i64 (idxS L s))):=by
 refine AC.go kX ?_
 have hsl:aC L= .lst 1 (L.map fun w=>[.str w]):=rfl
 simp-implicitDefEqProofs[gf,hsl]
 refine aJ (fun i:Nat=>aj 19 [(0,.p (aC L)),(1,.p (.str s)),(6,.p (aC L)),(7,.p (.int .i64 L.length)),(8,.p (.int .i64 i))]) (fun _=>[]) (fun i=>i≤L.length∧∀w∈L.take i,w≠s) (fun i=>L.length-i) 0 (by simp) ?_ ?_
 ·exact co rfl (by simp[below,aC])
 ·intro i ⟨hi,hn⟩
  simp-implicitDefEqProofs[hsl]
  refine aS (fun h1=>?_) (fun h1=>?_)
  ·simp at h1
   have hg:=List.getElem?_eq_getElem h1
   by_cases he:L[i]=s
   ·have hf:idxS L s=i:=by
     have:L.findIdx? (fun w=>w==s)=some i:=by
      rw[List.findIdx?_eq_some_iff_getElem]
      exact⟨h1,by simpa using he,fun j hj=>by have:=hn L[j] (List.mem_take_iff_getElem.2 ⟨j,by omega,rfl⟩);simpa using this⟩
     rw[idxS,this]
    have he':s=L[i]:=he.symm
    simp-implicitDefEqProofs[hg,hf,←he']
   ·have he':¬s=L[i]:=fun e=>he e.symm
    simp-implicitDefEqProofs[hg,he']
    refine⟨i+1,⟨h1,fun p hp=>?_⟩,by omega,co rfl ?_⟩
    ·rw[al h1] at hp
     rcases List.mem_append.1 hp with hp|hp
     ·exact hn p hp
     ·rw[List.mem_singleton.1 hp];exact he
    ·simp[below,aC,w1 (i:=i) (by omega)]
  ·simp at h1
   rw[List.take_of_length_le h1] at hn
   have hf:idxS L s= -1:=by
    have:L.findIdx? (fun w=>w==s)=none:=by
     rw[List.findIdx?_eq_none_iff];intro x hx;simpa using hn x hx
    rw[idxS,this]
   simp-implicitDefEqProofs[hf]
theorem yP(L:List (List UInt8))(s:List UInt8)(hb:L.length≤1048576):VF Tryz.prog G cT [.p (aC L),.p (.str s)] (.p (.bool (L.contains s))):=by
 rw[←DX]
 refine AC.go jC ?_
 simp-implicitDefEqProofs[eS]
 refine(Gd G L s hb).use ?_
 simp-implicitDefEqProofs[]
abbrev eE:Nat:=1
def dV:List PV:=keyW.map .str
variable (hK:G eE=some dV)
include hK
theorem lY(s:List UInt8)(hb:s.length≤140737488355328):VF Tryz.prog G bC [.p (.str s)] (.p (.bool (aH s))):=by
 refine AC.go tC ?_
 unfold eE at hK
 simp-implicitDefEqProofs[mN]
 refine(ka G _ _ _).use ?_
 have hr:inR (s.length:Int) 1 4=(decide (0<s.length)&&decide (s.length≤4)):=by
  unfold inR
  by_cases h1:0<s.length<;>by_cases h2:s.length≤4<;>simp[h1,h2]<;>omega
 rw[hr]
 have hi:aH s=((decide (0<s.length)&&decide (s.length≤4))&&(s.all dp&& !keyW.contains s)):=by
  rw[aH];cases s.all dp<;>cases decide (0<s.length)<;>cases decide (s.length≤4)<;>rfl
 cases h1:(decide (0<s.length)&&decide (s.length≤4)) with
 |false=>
  rw[hi,h1]
  simp-implicitDefEqProofs[]
 |true=>
  rw[hi,h1]
  simp-implicitDefEqProofs[]
  refine(wL G s hb).use ?_
  rw[←Cb]
  by_cases hn:vA s<0
  ·simp-implicitDefEqProofs[hn,hK,dV,keyW]
   refine(yP G keyW s (by decide)).use ?_
   simp-implicitDefEqProofs[keyW]
  ·simp-implicitDefEqProofs[hn]
end Go.Proofs.YtnjbhgpbgmpkcaaGreatDoor
namespace Go.Proofs.YtnjbhgpbgmpkcaaGreatDoor
open Go Go.Aw
set_option maxRecDepth 100000
set_option maxHeartbeats 4000000
def K_impl_exprSize:AK:= .seq (.reg [oJ 2 (.box 4 (.t 0)),oK 4 0,oK 5 0,oJ 6 (.mov (.c (.p (.bool false))))]) (.seq (.reg [oK 7 0,oK 8 0]) (.cut (.blk 0 (.seq (.reg [oF 17 0 2,oL 18 17,oJ 19 (.bin .eql (.t 18) (.c (.p (.int .i64 1)))),oM 16 19]) (.cond (.t 16) (.seq (.reg [oF 20 1 2,oL 21 20,oJ 22 (.call gB [(.t 21)]),oJ 23 (.not (.t 22)),oM 24 23,⟨(some 25),some (24,false),.fldA 2 (.t 2)⟩,⟨(some 26),some (24,false),.ld none (.t 25)⟩,⟨(some 27),some (24,false),.bins .neq (.t 26) (.c (.p (.str [])))⟩,oJ 28 (.pick (.t 24) (.c (.p (.bool true))) (.t 27))]) (.cond (.t 28) (.seq (.reg [oK 4 0,oK 5 0,oJ 6 (.mov (.c (.p (.bool false))))]) (.ret)) (.skip))) (.seq (.reg [oF 30 0 2,oL 31 30,oJ 32 (.bin .eql (.t 31) (.c (.p (.int .i64 2)))),oM 29 32]) (.cond (.t 29) (.seq (.reg [oF 33 2 2,oL 34 33,oJ 35 (.call bC [(.t 34)]),oJ 36 (.not (.t 35)),oM 37 36,⟨(some 38),some (37,false),.fldA 1 (.t 2)⟩,⟨(some 39),some (37,false),.ld none (.t 38)⟩,⟨(some 40),some (37,false),.bin .neq (.t 39) (.c (.p (.int .i64 0)))⟩,oJ 41 (.pick (.t 37) (.c (.p (.bool true))) (.t 40))]) (.cond (.t 41) (.seq (.reg [oK 4 0,oK 5 0,oJ 6 (.mov (.c (.p (.bool false))))]) (.ret)) (.skip))) (.seq (.reg [oF 43 0 2,oL 44 43,oJ 45 (.bin .eql (.t 44) (.c (.p (.int .i64 13)))),oM 42 45]) (.cond (.t 42) (.seq (.reg [oK 8 3]) (.seq (.reg [oF 46 2 2,oL 47 46,oJ 48 (.call bC [(.t 47)]),oJ 49 (.not (.t 48)),oM 50 49,⟨(some 51),some (50,false),.fldA 1 (.t 2)⟩,⟨(some 52),some (50,false),.ld none (.t 51)⟩,⟨(some 53),some (50,false),.bin .neq (.t 52) (.c (.p (.int .i64 0)))⟩,oJ 54 (.pick (.t 50) (.c (.p (.bool true))) (.t 53))]) (.cond (.t 54) (.seq (.reg [oK 4 0,oK 5 0,oJ 6 (.mov (.c (.p (.bool false))))]) (.ret)) (.skip)))) (.seq (.reg [oJ 56 (.ld none (.c (.gp 2 0))),oF 57 0 2,oL 58 57,oJ 59 (.lk 0 (.agg [(.p (.str [])),(.p (.int .i64 0))]) false (.t 56) (.t 58)),oJ 60 (.fldv 1 none (.t 59)),oJ 61 (.bin .gtr (.t 60) (.c (.p (.int .i64 0)))),oM 55 61]) (.cond (.t 55) (.reg [oK 7 2,oK 8 2]) (.seq (.reg [oF 63 0 2,oL 64 63,oJ 65 (.bin .eql (.t 64) (.c (.p (.int .i64 11)))),oM 66 65,⟨(some 67),some (66,false),.fldA 0 (.t 2)⟩,⟨(some 68),some (66,false),.ld none (.t 67)⟩,⟨(some 69),some (66,false),.bin .eql (.t 68) (.c (.p (.int .i64 12)))⟩,oJ 70 (.pick (.t 66) (.c (.p (.bool true))) (.t 69)),oM 62 70]) (.cond (.t 62) (.reg [oK 7 1,oK 8 1]) (.seq (.reg [oK 4 0,oK 5 0,oJ 6 (.mov (.c (.p (.bool false))))]) (.ret))))))))))))) (.cut (.seq (.reg [oF 71 0 2,oL 72 71,oJ 73 (.call fK [(.t 72)]),oJ 74 (.bin .lss (.t 73) (.c (.p (.int .i64 6)))),oM 75 74,⟨(some 76),some (75,true),.fldA 1 (.t 2)⟩,⟨(some 77),some (75,true),.ld none (.t 76)⟩,⟨(some 78),some (75,true),.bin .neq (.t 77) (.c (.p (.int .i64 0)))⟩,⟨(some 79),some (75,true),.mov (.t 78)⟩,⟨(some 80),some (79,false),.fldA 2 (.t 2)⟩,⟨(some 81),some (79,false),.ld none (.t 80)⟩,⟨(some 82),some (79,false),.bins .neq (.t 81) (.c (.p (.str [])))⟩,⟨(some 83),some (75,true),.pick (.t 79) (.c (.p (.bool true))) (.t 82)⟩,oJ 84 (.pick (.t 75) (.t 83) (.c (.p (.bool false)))),oM 85 84,⟨(some 86),some (85,false),.fldA 3 (.t 2)⟩,⟨(some 87),some (85,false),.ld none (.t 86)⟩,⟨(some 88),some (85,false),.len false (.t 87)⟩,⟨(some 89),some (85,false),.mov (.t 7)⟩,⟨(some 90),some (85,false),.mov (.t 8)⟩,⟨(some 91),some (85,false),.call cw [(.t 88),(.t 89),(.t 90)]⟩,⟨(some 92),some (85,false),.not (.t 91)⟩,oJ 93 (.pick (.t 85) (.c (.p (.bool true))) (.t 92)),oM 94 93,⟨(some 95),some (94,false),.mov (.t 1)⟩,⟨(some 96),some (94,false),.bin .lss (.t 95) (.c (.p (.int .i64 1)))⟩,oJ 97 (.pick (.t 94) (.c (.p (.bool true))) (.t 96))]) (.cond (.t 97) (.seq (.reg [oK 4 0,oK 5 0,oJ 6 (.mov (.c (.p (.bool false))))]) (.ret)) (.skip))) (.seq (.reg [oK 9 1,oK 10 1]) (.seq (.seq (.reg [oF 98 3 2,oL 99 98,oJ 100 (.len false (.t 99)),oK 101 0]) (.blk 1 (.loop (.seq (.reg [oJ 102 (.bin .lss (.t 101) (.t 100))]) (.seq (.cond (.t 102) (.skip) (.exit 1)) (.seq (.blk 2 (.seq (.reg [oJ 103 (.idxS 4 (.t 99) (.t 101)),oJ 104 (.ld (some 4) (.t 103)),oJ 12 (.alloc [(.p (.int .i64 0)),(.p (.int .i64 0)),(.p (.str [])),.nils]),⟨none,none,.st 4 (.t 12) (.t 104)⟩]) (.seq (.reg [oJ 106 (.ld (some 4) (.t 12)),oM 107 1,oJ 108 (.bin .sub (.t 107) (.c (.p (.int .i64 1)))),oJ 109 (.call dF [(.t 106),(.t 108)]),oM 105 109,oJ 110 (.ext 0 (.t 105)),oJ 111 (.ext 1 (.t 105)),oJ 112 (.ext 2 (.t 105)),oM 13 110,oM 14 111,oM 15 112]) (.seq (.seq (.reg [oM 113 15,oJ 114 (.not (.t 113))]) (.cond (.t 114) (.seq (.reg [oK 4 0,oK 5 0,oJ 6 (.mov (.c (.p (.bool false))))]) (.ret)) (.skip))) (.seq (.reg [oM 115 9,oM 116 13,oJ 117 (.bin .add (.t 115) (.t 116)),oM 9 117]) (.reg [oM 118 10,oM 119 14,oJ 120 (.bin .add (.t 119) (.c (.p (.int .i64 1)))),oJ 121 (.mx (.t 118) (.t 120)),oM 10 121])))))) (.reg [oJ 122 (.bin .add (.t 101) (.c (.p (.int .i64 1)))),oM 101 122]))))))) (.seq (.reg [oM 123 9,oM 124 10,oM 125 9,oJ 126 (.bin .leq (.t 125) (.c (.p (.int .i64 30)))),oM 4 123,oM 5 124,oM 6 126]) (.ret)))))))
theorem qM:K_impl_exprSize.whole=F_impl_exprSize.ak:=rfl
abbrev cJ:Nat:=2
def opK:List PV:=[.int .i64 3,.int .i64 4,.int .i64 5,.int .i64 6,.int .i64 7,.int .i64 8,.int .i64 9,.int .i64 10]
def opV:List (List PV):=[[.str [43],.int .i64 3],[.str [45],.int .i64 3],[.str [42],.int .i64 4],[.str [47],.int .i64 4],[.str [37],.int .i64 4],[.str [60],.int .i64 2],[.str [61],.int .i64 2],[.str [38],.int .i64 1]]
def lvl(op:Int):Int:=if op=10 then 1 else if op=8 then 2 else if op=9 then 2 else if op=3 then 3 else if op=4 then 3 else 4
def sgB(op:Int):UInt8:=if op=3 then 43 else if op=4 then 45 else if op=5 then 42 else if op=6 then 47 else if op=7 then 37 else if op=8 then 60 else if op=9 then 61 else 38
def sgn(op:Int):Option AV:=if 3≤op∧op≤10 then some (.agg [.p (.str [sgB op]),.p (.int .i64 (lvl op))]) else none
theorem zp(op:Int):(opK.all fun k'=>(keq (.int .i64 op) k').isSome)=true:=by simp[opK,keq]
theorem Ab(op:Int):eu (.int .i64 op) (Ag opK opV)=some (sgn op):=by
 by_cases h:3≤op∧op≤10
 ·have h8:op=3∨op=4∨op=5∨op=6∨op=7∨op=8∨op=9∨op=10:=by omega
  rcases h8 with rfl|rfl|rfl|rfl|rfl|rfl|rfl|rfl<;>rfl
 ·have e:sgn op=none:=if_neg h
  have h3:¬op=3:=by omega
  have h4:¬op=4:=by omega
  have h5:¬op=5:=by omega
  have h6:¬op=6:=by omega
  have h7:¬op=7:=by omega
  have h8:¬op=8:=by omega
  have h9:¬op=9:=by omega
  have h10:¬op=10:=by omega
  rw[e]
  simp[opK,opV,Ag,eu,keq,h3,h4,h5,h6,h7,h8,h9,h10]
theorem zk(op:Int):0<lvl op:=by
 unfold lvl
 repeat' split
 all_goals omega
theorem Hr(op:Int):lvl op<6:=by
 unfold lvl
 repeat' split
 all_goals omega
def lvI(op:Int):Int:=if 3≤op∧op≤10 then lvl op else if op=11∨op=12 then 5 else 6
mutual
def Ex.deep:Ex→Nat
 | .mk _ _ _ k=>1+kg k
def kg:List Ex→Nat
 |[]=>0
 |e::r=>max e.deep (kg r)
end
theorem Ex.deep_eq(e:Ex):e.deep=1+kg e.kids:=by cases e;rfl
theorem xu:∀a b:List Ex,kg (a++b)=max (kg a) (kg b)
 |[],b=>by simp[kg]
 |e::r,b=>by rw[List.cons_append,kg,kg,xu r b];omega
mutual
theorem Ex.deep_le:∀e:Ex,e.deep≤e.sz
 | .mk _ _ s k=>by have:=vT k;simp only[Ex.deep,Ex.sz];omega
theorem vT:∀l:List Ex,kg l≤aU l
 |[]=>Nat.le_refl _
 |e::r=>by have:=e.deep_le;have:=vT r;simp only[kg,aU];omega
end
theorem lc{α:Type}{p:α→Bool}{xs:List α}{i:Nat}{c:α}(h:xs[i]?=some c):(xs.take (i+1)).all p=((xs.take i).all p&&p c):=by
 rw[List.take_add_one,h,List.all_append];simp
def okE(m:Nat)(e:Ex):Bool:=fV m e&&decide (e.parts≤30)
def qK:Nat→Ex→Bool
 |0,_=>false
 |m+1,e=>mO e&&e.kids.all (okE m)
theorem xt:∀{l:List Ex} {e:Ex},e∈l→e.parts≤bl l
 |x::r,e,h=>by
  simp only[bl]
  rcases List.mem_cons.1 h with rfl|h
  ·omega
  ·have:=xt h;omega
theorem Aa(m:Nat)(e:Ex):(qK m e&&decide (e.parts≤30))=okE m e:=by
 cases m with
 |zero=>simp[qK,okE,fV]
 |succ m=>
  by_cases hp:e.parts≤30
  ·have h2:e.kids.all (okE m)=e.kids.all (fV m):=by
    rw[Bool.eq_iff_iff,List.all_eq_true,List.all_eq_true]
    refine⟨fun h x hx=>?_,fun h x hx=>?_⟩
    ·have:=h x hx;simp only[okE,Bool.and_eq_true] at this;exact this.1
    ·have h1:=h x hx
     have:=xt hx
     have:=e.parts_eq
     simp only[okE,h1,Bool.true_and]
     simp;omega
   simp[qK,okE,fV,h2]
  ·simp[okE,hp]
theorem EQ(e:Ex):okE 6 e=kS e:=rfl
def szA(m:Nat)(e:Ex):AV:=if qK m e then .tup [.p (.int .i64 e.parts),.p (.int .i64 e.deep),.p (.bool (decide (e.parts≤30)))] else .tup [.p (.int .i64 0),.p (.int .i64 0),.p (.bool false)]
def cb(e:Ex):Bool:=inR e.op 1 13&&(if e.op=1 then inR e.n 0 255&&decide (e.name=[]) else if e.op=2∨e.op=13 then aH e.name&&decide (e.n=0) else true)
def gd(e:Ex):Bool:=(decide (e.op=1∨e.op=2∨e.op=13)||(decide (e.n=0)&&decide (e.name=[])))&&inR e.kids.length (loK e.op) (hiK e.op)
theorem nv:aH []=false:=rfl
theorem wd(e:Ex):mO e=(cb e&&gd e):=by
 unfold mO cb gd xP
 by_cases h1:e.op=1
 ·simp only[h1]
  cases inR (e.kids.length:Int) (loK 1:Nat) (hiK 1:Nat)<;>by_cases hn:e.name=[]<;>cases h2:inR e.n 0 255<;>simp[hn,nv,inR]
 by_cases h2:e.op=2
 ·simp only[h2]
  cases inR (e.kids.length:Int) (loK 2:Nat) (hiK 2:Nat)<;>cases hi:aH e.name<;>by_cases hn:e.n=0<;>simp[hn,inR]
 by_cases h3:e.op=13
 ·simp only[h3]
  cases inR (e.kids.length:Int) (loK 13:Nat) (hiK 13:Nat)<;>cases hi:aH e.name<;>by_cases hn:e.n=0<;>simp[hn,inR]
 ·cases inR e.op 1 13<;>cases inR (e.kids.length:Int) (loK e.op:Nat) (hiK e.op:Nat)<;>by_cases hn:e.n=0<;>by_cases hm:e.name=[]<;>simp[h1,h2,h3,hn,hm,nv,inR]
variable (G:ay) (hK:G eE=some dV) (hS:G cJ=some [.tbl opK opV])
include hS
theorem Ba(op:Int):VF Tryz.prog G fK [.p (.int .i64 op)] (.p (.int .i64 (lvI op))):=by
 refine AC.go tn ?_
 have hall:=zp op
 have hget:=Ab op
 have hS':=hS
 unfold cJ at hS'
 have hlp:=zk op
 by_cases h:3≤op∧op≤10
 ·have e:sgn op=some (.agg [.p (.str [sgB op]),.p (.int .i64 (lvl op))]):=if_pos h
  have e2:lvI op=lvl op:=if_pos h
  rw[e2]
  generalize lvl op=L at*
  simp-implicitDefEqProofs[dU,hS',hall,hget,e,hlp]
 ·have e:sgn op=none:=if_neg h
  by_cases h11:op=11
  ·subst h11;simp-implicitDefEqProofs[dU,hS',hall,hget,e,lvI]
  by_cases h12:op=12
  ·subst h12;simp-implicitDefEqProofs[dU,hS',hall,hget,e,lvI]
  have e2:lvI op=6:=by rw[lvI,if_neg h,if_neg (by simp[h11,h12])]
  simp-implicitDefEqProofs[dU,hS',hall,hget,e,e2,h11,h12]
include hK
theorem yh:∀(m:Nat) (e:Ex),e.sz≤1073741824→m≤100→VF Tryz.prog G dF [.agg (e.cs.map .p),.p (.int .i64 m)] (szA m e):=by
 intro m
 induction m using Nat.strongRecOn with
 |_ m ih=>
 intro e he hm
 have hec:=e.cs_eq
 have hsz:=e.sz_eq
 have hkl:=bL e.kids
 have hS':=hS
 unfold cJ at hS'
 have hall:=zp e.op
 have hget:=Ab e.op
 have hxl:exL e.kids= .lst 4 (e.kids.map Ex.cs):=rfl
 have hbad:(cb e&&gd e&&decide (1≤m))=false→szA m e= .tup [.p (.int .i64 0),.p (.int .i64 0),.p (.bool false)]:=by
  intro h
  have:qK m e=false:=by
   cases m with
   |zero=>rfl
   |succ m=>rw[qK,wd];simp at h;cases h1:cb e<;>cases h2:gd e<;>simp[h1,h2] at h⊢
  rw[szA,this];rfl
 have hb1:cb e=false→szA m e= .tup [.p (.int .i64 0),.p (.int .i64 0),.p (.bool false)]:=fun h=>hbad (by rw[h];rfl)
 refine AC.goK qQ qM ?_
 simp-implicitDefEqProofs[K_impl_exprSize,F_impl_exprSize,hec]
 refine rN (fun _:Unit=>aj 127 [(1,.p (.int .i64 m)),(2,.ptr 0 4 0 0),(7,.p (.int .i64 (loK e.op))),(8,.p (.int .i64 (hiK e.op)))]) (fun _=>[.row 4 [[.p (.int .i64 e.op),.p (.int .i64 e.n),.p (.str e.name),.p (exL e.kids)]]]) (fun _=>cb e=true) ?_ ?_
 ·have fin:∀(r1:List (Nat × AV)),Aw.look r1 1= .p (.int .i64 m)→Aw.look r1 2= .ptr 0 4 0 0→Aw.look r1 7= .p (.int .i64 (loK e.op))→Aw.look r1 8= .p (.int .i64 (hiK e.op))→
   Wk 0 (aj 127 r1) [.row 4 [[.p (.int .i64 e.op),.p (.int .i64 e.n),.p (.str e.name),.p (exL e.kids)]]] (aj 127 [(1,.p (.int .i64 m)),(2,.ptr 0 4 0 0),(7,.p (.int .i64 (loK e.op))),(8,.p (.int .i64 (hiK e.op)))]) [.row 4 [[.p (.int .i64 e.op),.p (.int .i64 e.n),.p (.str e.name),.p (exL e.kids)]]]:=fun r1 a b c d=>
   ab (by simp) (by simp[okO,below]) (by simp[below,a,b,c,d])
  have hop1:inR (1:Int) 1 13=true:=rfl
  have hop2:inR (2:Int) 1 13=true:=rfl
  have hop13:inR (13:Int) 1 13=true:=rfl
  by_cases o1:e.op=1
  ·rw[o1] at fin⊢
   simp-implicitDefEqProofs[o1]
   refine(BQ G _).use ?_
   by_cases h1:inR e.n 0 255=true
   ·by_cases h2:e.name=[]
    ·have hp:cb e=true:=by simp[cb,o1,h1,h2,hop1]
     rw[h2] at fin
     simp-implicitDefEqProofs[h1,h2,hp]
     exact fin _ (by simp) (by simp) (by simp[loK]) (by simp[hiK])
    ·have hp:cb e=false:=by simp[cb,o1,h1,h2,hop1]
     rw[hb1 hp]
     simp-implicitDefEqProofs[h1,h2]
   ·have hp:cb e=false:=by simp[cb,o1,h1,hop1]
    rw[hb1 hp]
    simp-implicitDefEqProofs[h1]
  by_cases o2:e.op=2
  ·rw[o2] at fin⊢
   simp-implicitDefEqProofs[o2]
   refine(lY G hK _ (by omega)).use ?_
   by_cases h1:aH e.name=true
   ·by_cases h2:e.n=0
    ·have hp:cb e=true:=by simp[cb,o2,h1,h2,hop2]
     rw[h2] at fin
     simp-implicitDefEqProofs[h1,h2,hp]
     exact fin _ (by simp) (by simp) (by simp[loK]) (by simp[hiK])
    ·have hp:cb e=false:=by simp[cb,o2,h1,h2,hop2]
     rw[hb1 hp]
     simp-implicitDefEqProofs[h1,h2]
   ·have hp:cb e=false:=by simp[cb,o2,h1,hop2]
    rw[hb1 hp]
    simp-implicitDefEqProofs[h1]
  by_cases o13:e.op=13
  ·rw[o13] at fin⊢
   simp-implicitDefEqProofs[o13]
   refine(lY G hK _ (by omega)).use ?_
   by_cases h1:aH e.name=true
   ·by_cases h2:e.n=0
    ·have hp:cb e=true:=by simp[cb,o13,h1,h2,hop13]
     rw[h2] at fin
     simp-implicitDefEqProofs[h1,h2,hp]
     exact fin _ (by simp) (by simp) (by simp[loK]) (by simp[hiK])
    ·have hp:cb e=false:=by simp[cb,o13,h1,h2,hop13]
     rw[hb1 hp]
     simp-implicitDefEqProofs[h1,h2]
   ·have hp:cb e=false:=by simp[cb,o13,h1,hop13]
    rw[hb1 hp]
    simp-implicitDefEqProofs[h1]
  have hlp:=zk e.op
  by_cases h:3≤e.op∧e.op≤10
  ·have es:sgn e.op=some (.agg [.p (.str [sgB e.op]),.p (.int .i64 (lvl e.op))]):=if_pos h
   have hp:cb e=true:=by simp[cb,o1,o2,o13,inR];omega
   have o11:¬e.op=11:=by omega
   have o12:¬e.op=12:=by omega
   have elo:loK e.op=2:=by simp[loK,o1,o2,o11,o12,o13]
   have ehi:hiK e.op=2:=by simp[hiK,o1,o2,o11,o12,o13]
   generalize lvl e.op=L at*
   simp-implicitDefEqProofs[o1,o2,o13,hS',hall,hget,es,hlp,hp]
   exact fin _ (by simp) (by simp) (by simp[elo]) (by simp[ehi])
  have es:sgn e.op=none:=if_neg h
  by_cases o11:e.op=11
  ·have hp:cb e=true:=by simp[cb,o11,inR]
   have elo:loK e.op=1:=by simp[loK,o11]
   have ehi:hiK e.op=1:=by simp[hiK,o11]
   rw[o11] at hall hget es fin
   simp-implicitDefEqProofs[o11,hS',hall,hget,es,hp]
   exact fin _ (by simp) (by simp) (by simp[loK]) (by simp[hiK])
  by_cases o12:e.op=12
  ·have hp:cb e=true:=by simp[cb,o12,inR]
   rw[o12] at hall hget es fin
   simp-implicitDefEqProofs[o12,hS',hall,hget,es,hp]
   exact fin _ (by simp) (by simp) (by simp[loK]) (by simp[hiK])
  ·have hp:cb e=false:=by simp[cb,o1,o2,o13,inR];omega
   rw[hb1 hp]
   simp-implicitDefEqProofs[o1,o2,o13,hS',hall,hget,es,o11,o12]
 intro _ hp
 have hop:1≤e.op∧e.op≤13:=by
  simp only[cb,Bool.and_eq_true,inR,decide_eq_true_eq] at hp
  exact hp.1
 have hb2:gd e=false→szA m e= .tup [.p (.int .i64 0),.p (.int .i64 0),.p (.bool false)]:=fun h=>hbad (by rw[h];simp)
 have hb3:m<1→szA m e= .tup [.p (.int .i64 0),.p (.int .i64 0),.p (.bool false)]:=by
  intro h
  have hd:decide (1≤m)=false:=by simp;omega
  exact hbad (by rw[hd];simp)
 refine rN (fun _:Unit=>aj 127 [(1,.p (.int .i64 m)),(2,.ptr 0 4 0 0)]) (fun _=>[.row 4 [[.p (.int .i64 e.op),.p (.int .i64 e.n),.p (.str e.name),.p (exL e.kids)]]]) (fun _=>gd e=true∧1≤m) ?_ ?_
 ·have fin:∀(r1:List (Nat × AV)),Aw.look r1 1= .p (.int .i64 m)→Aw.look r1 2= .ptr 0 4 0 0→
   Wk 0 (aj 127 r1) [.row 4 [[.p (.int .i64 e.op),.p (.int .i64 e.n),.p (.str e.name),.p (exL e.kids)]]] (aj 127 [(1,.p (.int .i64 m)),(2,.ptr 0 4 0 0)]) [.row 4 [[.p (.int .i64 e.op),.p (.int .i64 e.n),.p (.str e.name),.p (exL e.kids)]]]:=fun r1 a b=>
   ab (by simp) (by simp[okO,below]) (by simp[below,a,b])
  simp-implicitDefEqProofs[]
  refine(Ba G hS e.op).use ?_
  by_cases ho:e.op=1∨e.op=2∨e.op=13
  ·have hlv:lvI e.op=6:=by
    rw[lvI,if_neg (by omega),if_neg (by omega)]
   have hd:decide (e.op=1∨e.op=2∨e.op=13)=true:=by simpa using ho
   simp-implicitDefEqProofs[hlv,hxl]
   refine(ka G _ _ _).use ?_
   by_cases hk:inR e.kids.length (loK e.op) (hiK e.op)=true
   ·have hr:gd e=true:=by rw[gd,hd,hk];rfl
    by_cases hm1:m<1
    ·have hm1':(m:Int)<1:=by omega
     rw[hb3 hm1]
     simp-implicitDefEqProofs[hk,hm1']
    ·have hm1':¬(m:Int)<1:=by omega
     have hm2:1≤m:=by omega
     simp-implicitDefEqProofs[hk,hm1',hr,hm2]
     exact fin _ (by simp) (by simp)
   ·have hk':inR e.kids.length (loK e.op) (hiK e.op)=false:=by simpa using hk
    have hr:gd e=false:=by rw[gd,hk',Bool.and_false]
    rw[hb2 hr]
    simp-implicitDefEqProofs[hk']
  ·have hlv:lvI e.op<6:=by
    have:=Hr e.op
    unfold lvI
    split
    ·exact this
    ·rw[if_pos (by omega)];omega
   have hd:decide (e.op=1∨e.op=2∨e.op=13)=false:=by simpa using ho
   generalize lvI e.op=L at hlv⊢
   by_cases h1:e.n=0
   ·by_cases h2:e.name=[]
    ·have hz:decide (e.n=0)=true∧decide (e.name=[])=true:=by simp[h1,h2]
     simp-implicitDefEqProofs[hlv,h1,h2,hxl]
     refine(ka G _ _ _).use ?_
     rw[h1,h2] at fin
     by_cases hk:inR e.kids.length (loK e.op) (hiK e.op)=true
     ·have hr:gd e=true:=by rw[gd,hd,hk,hz.1,hz.2];rfl
      by_cases hm1:m<1
      ·have hm1':(m:Int)<1:=by omega
       rw[hb3 hm1]
       simp-implicitDefEqProofs[hk,hm1']
      ·have hm1':¬(m:Int)<1:=by omega
       have hm2:1≤m:=by omega
       simp-implicitDefEqProofs[hk,hm1',hr,hm2]
       exact fin _ (by simp) (by simp)
     ·have hk':inR e.kids.length (loK e.op) (hiK e.op)=false:=by simpa using hk
      have hr:gd e=false:=by rw[gd,hk',Bool.and_false]
      rw[hb2 hr]
      simp-implicitDefEqProofs[hk']
    ·have hr:gd e=false:=by rw[gd,hd];simp[h2]
     rw[hb2 hr]
     simp-implicitDefEqProofs[hlv,h1,h2]
   ·have hr:gd e=false:=by rw[gd,hd];simp[h1]
    rw[hb2 hr]
    simp-implicitDefEqProofs[hlv,h1]
 rintro _ ⟨hr,hm1⟩
 have hhd:mO e=true:=by rw[wd,hp,hr];rfl
 obtain⟨m',rfl⟩:∃m',m=m'+1:=⟨m-1,by omega⟩
 have hszO:qK (m'+1) e=e.kids.all (okE m'):=by rw[qK,hhd];rfl
 have hpe:=e.parts_eq
 have hde:=e.deep_eq
 have hpl:=e.parts_le
 have hwm:IntKind.i64.wrap (((m'+1:Nat):Int)-1)=(m':Int):=by rw[ag (by omega) (by omega)];omega
 simp-implicitDefEqProofs[hxl]
 refine aJ (fun i:Nat=>aj 127 [(1,.p (.int .i64 ((m':Int)+1))),(2,.ptr 0 4 0 0),(9,.p (.int .i64 ((1+bl (e.kids.take i):Nat):Int))),(10,.p (.int .i64 ((1+kg (e.kids.take i):Nat):Int))),(99,.p (exL e.kids)),(100,.p (.int .i64 e.kids.length)),(101,.p (.int .i64 i))])
  (fun _=>[.row 4 [[.p (.int .i64 e.op),.p (.int .i64 e.n),.p (.str e.name),.p (exL e.kids)]]]) (fun i=>i≤e.kids.length∧(e.kids.take i).all (okE m')=true) (fun i=>e.kids.length-i) 0 (by simp) ?_ ?_
 ·exact ab (by simp) (by simp[okO,below]) (by simp[below,hxl,bl,kg])
 rintro i ⟨hi,ha⟩
 have hwm':IntKind.i64.wrap (m':Int)=(m':Int):=ag (by omega) (by omega)
 simp-implicitDefEqProofs[hxl]
 refine aS (fun h=>?_) (fun h=>?_)
 ·simp at h
  have hg:=List.getElem?_eq_getElem h
  have hks:=bQ (List.getElem_mem h)
  have hkc:=e.kids[i].cs_eq
  have hpt:bl (e.kids.take (i+1))=bl (e.kids.take i)+e.kids[i].parts:=by rw[al h,ec];simp[bl]
  have hdt:kg (e.kids.take (i+1))=max (kg (e.kids.take i)) e.kids[i].deep:=by rw[al h,xu];simp[kg]
  have hpl1:bl (e.kids.take (i+1))≤e.parts:=by
   have:=ec (e.kids.take (i+1)) (e.kids.drop (i+1))
   rw[List.take_append_drop] at this
   omega
  have hok:=Aa m' e.kids[i]
  have hdl:e.kids[i].deep≤e.kids[i].sz:=Ex.deep_le _
  have hdl2:kg (e.kids.take i)≤e.sz:=by
   have h1:=vT (e.kids.take i)
   have h2:=cS (e.kids.take i) (e.kids.drop i)
   rw[List.take_append_drop] at h2
   omega
  generalize e.kids[i]=c at*
  simp-implicitDefEqProofs[hg,hkc,hwm']
  have hI:=ih m' (by omega) c (by omega) (by omega)
  rw[hkc] at hI
  by_cases ho:okE m' c=true
  ·have h1:qK m' c=true∧c.parts≤30:=by rw[ho] at hok;simpa using hok
   have hA:szA m' c= .tup [.p (.int .i64 c.parts),.p (.int .i64 c.deep),.p (.bool true)]:=by rw[szA,if_pos h1.1];simp[h1.2]
   rw[hA] at hI
   refine hI.use ?_
   have hw1:IntKind.i64.wrap (1+(bl (e.kids.take i):Int)+(c.parts:Int))=((1+bl (e.kids.take (i+1)):Nat):Int):=by rw[ag (by omega) (by omega)];omega
   have hw2:IntKind.i64.wrap ((c.deep:Int)+1)=(c.deep:Int)+1:=ag (by omega) (by omega)
   have hmx:(if 1+(kg (e.kids.take i):Int)<(c.deep:Int)+1 then(c.deep:Int)+1 else 1+(kg (e.kids.take i):Int))=1+(kg (e.kids.take (i+1)):Int):=by
    rw[hdt];split<;>omega
   simp-implicitDefEqProofs[hw1,hw2,hmx]
   refine⟨i+1,⟨h,by rw[←List.all_eq_true,lc hg,ha,ho];rfl⟩,by omega,?_⟩
   refine fX (m:=1) (by omega) (dd rfl rfl (by simp[okO,below])) (by simp[below,hxl,w1 (i:=i) (by omega)])
  ·have hf:e.kids.all (okE m')=false:=List.all_eq_false.2 ⟨c,List.mem_of_getElem? hg,by simpa using ho⟩
   have hA2:szA (m'+1) e= .tup [.p (.int .i64 0),.p (.int .i64 0),.p (.bool false)]:=by rw[szA,hszO,hf];rfl
   rw[hA2]
   by_cases h1:qK m' c=true
   ·have h2:¬c.parts≤30:=fun h2=>ho (by rw[←hok,h1];simpa using h2)
    have hA:szA m' c= .tup [.p (.int .i64 c.parts),.p (.int .i64 c.deep),.p (.bool false)]:=by rw[szA,if_pos h1];simp[h2]
    rw[hA] at hI
    refine hI.use ?_
    simp-implicitDefEqProofs[]
   ·have hA:szA m' c= .tup [.p (.int .i64 0),.p (.int .i64 0),.p (.bool false)]:=by rw[szA,if_neg h1]
    rw[hA] at hI
    refine hI.use ?_
    simp-implicitDefEqProofs[]
 ·simp at h
  rw[List.take_of_length_le h] at ha⊢
  have hA:szA (m'+1) e= .tup [.p (.int .i64 e.parts),.p (.int .i64 e.deep),.p (.bool (decide (e.parts≤30)))]:=by rw[szA,hszO,ha];rfl
  rw[hA,hpe,hde]
  simp-implicitDefEqProofs[]
  omega
theorem xj(e:Ex)(he:e.sz≤1073741824):VF Tryz.prog G er [.agg (e.cs.map .p)] (.p (.bool (kS e))):=by
 refine AC.go pO ?_
 have hec:=e.cs_eq
 have hx:=yh G hK hS 6 e he (by omega)
 rw[hec] at hx
 simp-implicitDefEqProofs[kh,hec]
 rw[←EQ,←Aa]
 unfold szA at hx
 by_cases h:qK 6 e=true
 ·rw[if_pos h] at hx
  rw[h]
  refine hx.use ?_
  simp-implicitDefEqProofs[]
 ·have h':qK 6 e=false:=by simpa using h
  rw[if_neg h] at hx
  rw[h']
  refine hx.use ?_
  simp-implicitDefEqProofs[]
end Go.Proofs.YtnjbhgpbgmpkcaaGreatDoor
namespace Go.Proofs.YtnjbhgpbgmpkcaaGreatDoor
open Go Go.Aw
set_option maxRecDepth 100000
structure LV where (name:List UInt8) (num block:Nat)
structure WS where (vs:List LV) (count:Nat) (code:Int)
def fl(c k:Int):Int:=if c=0 then k else c
theorem rZ{c k:Int}(h:c≠0):fl c k=c:=if_neg h
def lkV(vs:List LV)(s:List UInt8):Option LV:=vs.find? fun v=>decide (v.name=s)
def ca(fns:List Fd)(s:List UInt8):Option Nat:=fns.findIdx? fun f=>decide (f.name=s)
def Am(fns:List Fd)(j:Nat):Nat:=match fns[j]? with|some f=>f.params.length|none=>0
def ov(vs:List LV)(s:List UInt8)(c:Int):Int:=match lkV vs s with|none=>fl c 3|some _=>c
def kK(fns:List Fd)(k:Nat)(s:List UInt8)(n:Nat)(c:Int):Int:=
 match ca fns s with|none=>fl c 4|some j=>if k≤j then fl c 4 else if Am fns j=n then c else fl c 5
def kb(fns:List Fd)(k:Nat)(vs:List LV)(o:Int)(s:List UInt8)(n:Nat)(c:Int):Int:=
 if o=2 then ov vs s c else if o=13 then kK fns k s n c else c
mutual
def qO(fns:List Fd)(k:Nat)(vs:List LV):Ex→Int→Int
 | .mk o _ s ks,c=>ce fns k vs ks (kb fns k vs o s ks.length c)
def ce(fns:List Fd)(k:Nat)(vs:List LV):List Ex→Int→Int
 |[],c=>c
 |e::r,c=>ce fns k vs r (qO fns k vs e c)
end
def vnm(n:Nat):List UInt8:=[118,UInt8.ofNat (97+n%26)]
def tc(vs:List LV)(s:List UInt8):List UInt8:=match lkV vs s with|none=>s|some v=>vnm v.num
mutual
def rnE(vs:List LV):Ex→Ex
 | .mk o n s ks=> .mk o n (if o=2 then tc vs s else s) (iU vs ks)
def iU(vs:List LV):List Ex→List Ex
 |[]=>[]
 |e::r=>rnE vs e::iU vs r
end
def pH(vs:List LV)(s:List UInt8)(b:Nat)(c:Int):Int:=match lkV vs s with|none=>c|some v=>if v.block=b then fl c 2 else c
def iY(w:WS)(s:List UInt8)(b:Nat):WS:=⟨⟨s,w.count,b⟩::w.vs,w.count+1,pH w.vs s b w.code⟩
def opW(o:Int)(s:List UInt8)(b:Nat)(w:WS):WS:=if o=1 then iY w s b else if o=2 then⟨w.vs,w.count,ov w.vs s w.code⟩ else w
def opN(o:Int)(s:List UInt8)(w:WS):List UInt8:=if o=1 then vnm w.count else if o=2 then tc w.vs s else s
def WS.back(w:WS)(vs:List LV):WS:=⟨vs,w.count,w.code⟩
mutual
def stW(fns:List Fd)(k b:Nat):Sm→WS→WS
 | .mk o s a bd el,w=>
   let w2:=opW o s b ⟨w.vs,w.count,ce fns k w.vs a w.code⟩
   let w3:=(cd fns k (b+1) bd w2).back w2.vs
   (cd fns k (b+1) el w3).back w2.vs
def cd(fns:List Fd)(k b:Nat):List Sm→WS→WS
 |[],w=>w
 |s::r,w=>cd fns k b r (stW fns k b s w)
end
def cD(ps:List (List UInt8))(w:WS):WS:=ps.foldl (fun w s=>iY w s 0) w
def fnW(fns:List Fd)(k:Nat)(f:Fd):WS:=cd fns k 0 f.body (cD f.params ⟨[],0,if ca fns f.name=some k then 0 else 2⟩)
def gx(fns:List Fd):Nat→List Fd→Int
 |_,[]=>0
 |k,f::r=>if(fnW fns k f).code=0 then gx fns (k+1) r else(fnW fns k f).code
def bF(fns:List Fd):Int:=if bt fns then gx fns 0 fns else 1
abbrev Scp:=List (List UInt8 × Nat)
def gO(m:Scp)(s:List UInt8):Option Nat:=(m.find? fun x=>decide (x.1=s)).map (·.2)
def iv:Scp→List UInt8→Nat→Scp
 |[],s,n=>[(s,n)]
 |x::r,s,n=>if x.1=s then(s,n)::r else x::iv r s n
def iJ:List Scp→List UInt8→Option Nat
 |[],_=>none
 |m::r,s=>match gO m s with|some n=>some n|none=>iJ r s
def fm(fns:List Fd)(k:Nat)(ch:List Scp)(c:Int)(e:Ex):Int:=
 if e.op=2 then(if(iJ ch e.name).isSome then c else fl c 3)
 else if e.op=13 then(match ca (fns.take k) e.name with|none=>fl c 4|some j=>if Am fns j=e.kids.length then c else fl c 5)
 else c
mutual
def Ex.pre:Ex→List Ex
 | .mk o n s ks=> .mk o n s ks::bN ks
def bN:List Ex→List Ex
 |[]=>[]
 |e::r=>e.pre++bN r
end
def yU(fns:List Fd)(k:Nat)(ch:List Scp)(l:List Ex)(c:Int):Int:=(bN l).foldl (fm fns k ch) c
def opS(o:Int)(s:List UInt8)(m:Scp)(n:Nat):Scp:=if o=1 then iv m s n else m
def opC(o:Int)(s:List UInt8)(m:Scp)(up:List Scp)(c:Int):Int:=
 if o=1 then(if(gO m s).isSome then fl c 2 else c) else if o=2 then(if(iJ (m::up) s).isSome then c else fl c 3) else c
mutual
def icS(fns:List Fd)(k:Nat):Sm→Scp→List Scp→Int→Scp × Int
 | .mk o s a bd el,m,up,c=>
   let m2:=opS o s m 0
   let c2:=opC o s m up (yU fns k (m::up) a c)
   (m2,if o=5∨o=6 then(ga fns k el [] (m2::up) (ga fns k bd [] (m2::up) c2).2).2 else c2)
def ga(fns:List Fd)(k:Nat):List Sm→Scp→List Scp→Int→Scp × Int
 |[],m,_,c=>(m,c)
 |s::r,m,up,c=>ga fns k r (icS fns k s m up c).1 up (icS fns k s m up c).2
end
def jz(ps:List (List UInt8))(m:Scp)(c:Int):Scp × Int:=ps.foldl (fun x s=>(iv x.1 s 0,if(gO x.1 s).isSome then fl x.2 2 else x.2)) (m,c)
def icF(fns:List Fd)(k:Nat)(f:Fd)(c:Int):Int:=
 let c1:=if(match ca fns f.name with|some j=>decide (j<k)|none=>true) then fl c 2 else c
 let x:=jz f.params [] c1
 (ga fns k f.body x.1 [] x.2).2
def iL(fns:List Fd):Nat→List Fd→Int→Int
 |_,[],c=>c
 |k,f::r,c=>iL fns (k+1) r (icF fns k f c)
def SR(g:LV→Nat):Nat→List LV→List Scp→Prop
 |_,_,[]=>False
 |b,vs,m::up=>∃v1 v2,vs=v1++v2∧(∀v∈v1,v.block=b)∧(∀s,(lkV v1 s).map g=gO m s)∧match b with
  |0=>v2=[]∧up=[]
  |b+1=>SR g b v2 up
theorem zD(a b:List LV)(s:List UInt8):lkV (a++b) s=match lkV a s with|some v=>some v|none=>lkV b s:=by
 simp only[lkV,List.find?_append]
 cases List.find? (fun v=>decide (v.name=s)) a<;>rfl
variable {g:LV→Nat}
theorem SR.blk:∀{b:Nat} {vs:List LV} {ch:List Scp},SR g b vs ch→∀v∈vs,v.block≤b
 |b,_,[],h,v,hv=>by cases b<;>exact False.elim h
 |0,vs,m::up,⟨v1,v2,e,h1,_,h3,_⟩,v,hv=>by
  subst e;subst h3
  rw[List.append_nil] at hv
  exact Nat.le_of_eq (h1 v hv)
 |b+1,vs,m::up,⟨v1,v2,e,h1,_,h3⟩,v,hv=>by
  subst e
  rcases List.mem_append.1 hv with h|h
  ·exact Nat.le_of_eq (h1 v h)
  ·exact Nat.le_succ_of_le (SR.blk h3 v h)
theorem SR.fnd:∀{b:Nat} {vs:List LV} {ch:List Scp},SR g b vs ch→∀s,(lkV vs s).map g=iJ ch s
 |b,_,[],h,s=>by cases b<;>exact False.elim h
 |0,vs,m::up,⟨v1,v2,e,h1,h2,h3,h4⟩,s=>by
  subst e;subst h3;subst h4
  rw[List.append_nil,h2,iJ]
  cases gO m s<;>rfl
 |b+1,vs,m::up,⟨v1,v2,e,h1,h2,h3⟩,s=>by
  subst e
  have ih:=SR.fnd h3 s
  have h2:=h2 s
  rw[zD,iJ,←h2]
  cases e1:lkV v1 s with
  |some v=>rfl
  |none=>exact ih
theorem SR.is{b:Nat}{vs:List LV}{ch:List Scp}(h:SR g b vs ch)(s:List UInt8):(lkV vs s).isSome=(iJ ch s).isSome:=by rw[←h.fnd s,Option.isSome_map]
theorem zC{vs:List LV}{s:List UInt8}{v:LV}(h:lkV vs s=some v):v∈vs:=List.mem_of_find?_eq_some h
theorem SR.put:∀{b:Nat} {vs:List LV} {m:Scp} {up:List Scp},SR g b vs (m::up)→∀(s:List UInt8) (c:Int),pH vs s b c=if(gO m s).isSome then fl c 2 else c:=by
 intro b vs m up h s c
 have key:∀v1 v2:List LV,(∀v∈v1,v.block=b)→(lkV v1 s).map g=gO m s→(∀v∈v2,v.block≠b)→pH (v1++v2) s b c=if(gO m s).isSome then fl c 2 else c:=by
  intro v1 v2 h1 h2 h3
  rw[←h2,pH,zD]
  cases e1:lkV v1 s with
  |some v=>simp[h1 v (zC e1)]
  |none=>
   cases e2:lkV v2 s with
   |none=>rfl
   |some v=>simp[h3 v (zC e2)]
 match b,h with
 |0,⟨v1,v2,e,h1,h2,h3,_⟩=>subst e;subst h3;exact key v1 [] h1 (h2 s) (fun v hv=>by simp at hv)
 |b+1,⟨v1,v2,e,h1,h2,h3⟩=>subst e;exact key v1 v2 h1 (h2 s) (fun v hv e=>by have:=h3.blk v hv;omega)
theorem xc:∀(m:Scp) (s:List UInt8) (n:Nat) (t:List UInt8),gO (iv m s n) t=if s=t then some n else gO m t
 |[],s,n,t=>by
  by_cases h:s=t
  ·simp[iv,gO,h]
  ·simp[iv,gO,h]
 |x::r,s,n,t=>by
  have ih:=xc r s n t
  simp only[gO] at ih
  by_cases hx:x.1=s
  ·by_cases h:s=t
   ·simp[iv,gO,hx,h]
   ·have:¬x.1=t:=by rw[hx];exact h
    simp[iv,gO,hx,h]
  ·by_cases ht:x.1=t
   ·have:¬s=t:=fun e=>hx (ht.trans e.symm)
    rw[iv,if_neg hx,if_neg this];simp[gO,ht]
   ·simp only[iv,gO,if_neg hx,List.find?_cons,ht,decide_false]
    exact ih
theorem SR.add{b:Nat}{vs:List LV}{m:Scp}{up:List Scp}(h:SR g b vs (m::up))(s:List UInt8)(n k:Nat)(hg:g ⟨s,n,b⟩=k):SR g b (⟨s,n,b⟩::vs) (iv m s k::up):=by
 have key:∀v1:List LV,(∀s,(lkV v1 s).map g=gO m s)→∀t,(lkV (⟨s,n,b⟩::v1) t).map g=gO (iv m s k) t:=by
  intro v1 h2 t
  rw[xc]
  by_cases e:s=t
  ·simp[lkV,e,←hg]
  ·rw[if_neg e,←h2 t];simp[lkV,e]
 match b,h with
 |0,⟨v1,v2,e,h1,h2,h3⟩=>
  subst e
  refine⟨⟨s,n,0⟩::v1,v2,rfl,fun v hv=>?_,key v1 h2,h3⟩
  rcases List.mem_cons.1 hv with rfl|hv
  ·rfl
  ·exact h1 v hv
 |b+1,⟨v1,v2,e,h1,h2,h3⟩=>
  subst e
  refine⟨⟨s,n,b+1⟩::v1,v2,rfl,fun v hv=>?_,key v1 h2,h3⟩
  rcases List.mem_cons.1 hv with rfl|hv
  ·rfl
  ·exact h1 v hv
theorem SR.open{b:Nat}{vs:List LV}{ch:List Scp}(h:SR g b vs ch):SR g (b+1) vs ([]::ch):=⟨[],vs,rfl,fun v hv=>by simp at hv,fun s=>rfl,h⟩
theorem SR.base:SR g 0 [] [[]]:=⟨[],[],rfl,fun v hv=>by simp at hv,fun s=>rfl,rfl,rfl⟩
theorem uW{α:Type}{p:α→Bool}{l:List α}{k:Nat}:(l.take k).findIdx? p=match l.findIdx? p with|some j=>if j<k then some j else none|none=>none:=by
 cases h:l.findIdx? p with
 |none=>
  rw[List.findIdx?_eq_none_iff] at h⊢
  exact fun x hx=>h x (List.mem_of_mem_take hx)
 |some j=>
  rw[List.findIdx?_eq_some_iff_getElem] at h
  obtain⟨h1,h2,h3⟩:=h
  simp only
  split
  ·rename_i hj
   rw[List.findIdx?_eq_some_iff_getElem]
   exact⟨by rw[List.length_take];omega,by rw[List.getElem_take];exact h2,fun i hi=>by rw[List.getElem_take];exact h3 i hi⟩
  ·rename_i hj
   rw[List.findIdx?_eq_none_iff]
   intro x hx
   obtain⟨i,hi,rfl⟩:=List.mem_take_iff_getElem.1 hx
   simpa using h3 i (by omega)
theorem Eg(fns:List Fd)(k:Nat){vs:List LV}{ch:List Scp}(h:∀s,(lkV vs s).isSome=(iJ ch s).isSome)(e:Ex)(c:Int):kb fns k vs e.op e.name e.kids.length c=fm fns k ch c e:=by
 unfold kb fm
 split
 ·rw[←h,ov];cases lkV vs e.name<;>rfl
 ·split
  ·rw[kK,ca,ca,uW]
   cases List.findIdx? (fun f=>decide (f.name=e.name)) fns with
   |none=>rfl
   |some j=>
    simp only
    by_cases hj:j<k
    ·rw[if_neg (by omega),if_pos hj]
    ·rw[if_pos (by omega),if_neg hj]
  ·rfl
mutual
theorem Ez(fns:List Fd)(k:Nat){vs:List LV}{ch:List Scp}(h:∀s,(lkV vs s).isSome=(iJ ch s).isSome):∀(e:Ex) (c:Int),qO fns k vs e c=e.pre.foldl (fm fns k ch) c
 | .mk o n s ks,c=>by
   rw[qO,Ex.pre,List.foldl_cons,←rh fns k h ks,←Eg fns k h];rfl
theorem rh(fns:List Fd)(k:Nat){vs:List LV}{ch:List Scp}(h:∀s,(lkV vs s).isSome=(iJ ch s).isSome):∀(l:List Ex) (c:Int),ce fns k vs l c=(bN l).foldl (fm fns k ch) c
 |[],c=>rfl
 |e::r,c=>by rw[ce,bN,List.foldl_append,Ez fns k h e,rh fns k h r]
end
abbrev g0:LV→Nat:=fun _=>0
theorem GY{b:Nat}{w:WS}{m:Scp}{up:List Scp}(h:SR g0 b w.vs (m::up))(o:Int)(s:List UInt8):SR g0 b (opW o s b w).vs (opS o s m 0::up)∧(opW o s b w).code=opC o s m up w.code:=by
 unfold opW opS opC
 by_cases h1:o=1
 ·simp only[h1,if_true]
  exact⟨h.add s _ 0 rfl,h.put s _⟩
 ·simp only[if_neg h1]
  split
  ·refine⟨h,?_⟩
   have:=h.is s
   simp only[ov]
   rw[←this]
   cases lkV w.vs s<;>rfl
  ·exact⟨h,rfl⟩
theorem za{d:Nat}{o:Int}{s:List UInt8}{a:List Ex}{bd el:List Sm}(h:aK (d+1) (.mk o s a bd el)=true):bd.all (aK d)=true∧el.all (aK d)=true∧(¬(o=5∨o=6)→bd=[]∧el=[]):=by
 simp only[aK,hZ,Sm.op,Sm.body,Sm.els,Bool.and_eq_true,Bool.or_eq_true,decide_eq_true_eq,List.isEmpty_iff] at h
 refine⟨h.1.2,h.2,fun hn=>⟨?_,?_⟩⟩
 ·rcases h.1.1.2 with(h|h)|h
  ·exact h
  ·exact absurd (.inl (of_decide_eq_true h)) hn
  ·exact absurd (.inr (of_decide_eq_true h)) hn
 ·rcases h.1.1.1.2 with h|h
  ·exact h
  ·exact absurd (.inl (of_decide_eq_true h)) hn
theorem gv(w:WS)(vs:List LV):(w.back vs).code=w.code:=rfl
theorem Ha(fns:List Fd)(k:Nat):∀(d b:Nat) (l:List Sm),l.all (aK d)=true→∀(w:WS) (m:Scp) (up:List Scp),SR g0 b w.vs (m::up)→
 SR g0 b (cd fns k b l w).vs ((ga fns k l m up w.code).1::up)∧(cd fns k b l w).code=(ga fns k l m up w.code).2:=by
 intro d
 induction d with
 |zero=>
  intro b l hl w m up h
  cases l with
  |nil=>exact⟨h,rfl⟩
  |cons s r=>simp[aK] at hl
 |succ d ih=>
  have cK:∀(b:Nat) (s:Sm),aK (d+1) s=true→∀(w:WS) (m:Scp) (up:List Scp),SR g0 b w.vs (m::up)→
   SR g0 b (stW fns k b s w).vs ((icS fns k s m up w.code).1::up)∧(stW fns k b s w).code=(icS fns k s m up w.code).2:=by
   intro b s hs w m up h
   obtain⟨o,n,a,bd,el⟩:=s
   obtain⟨f1,f2,f3⟩:=za hs
   have hc:=rh fns k h.is a w.code
   obtain⟨g1,g2⟩:=GY (w:=⟨w.vs,w.count,ce fns k w.vs a w.code⟩) h o n
   rw[stW,icS]
   simp only[hc] at g1 g2⊢
   generalize hw2:opW o n b ⟨w.vs,w.count,(bN a).foldl (fm fns k (m::up)) w.code⟩=w2 at*
   refine⟨g1,?_⟩
   rw[gv]
   have g2':w2.code=opC o n m up (yU fns k (m::up) a w.code):=g2
   rw[←g2']
   by_cases ho:o=5∨o=6
   ·rw[if_pos ho]
    have k1:=ih (b+1) bd f1 w2 [] _ g1.open
    have k2:=ih (b+1) el f2 ((cd fns k (b+1) bd w2).back w2.vs) [] _ g1.open
    rw[k2.2,gv,k1.2]
   ·obtain⟨rfl,rfl⟩:=f3 ho
    rw[if_neg ho]
    simp[cd,WS.back]
  intro b l
  induction l with
  |nil=>intro _ w m up h;exact⟨h,rfl⟩
  |cons s r ihl=>
   intro hl w m up h
   rw[List.all_cons,Bool.and_eq_true] at hl
   obtain⟨k1,k2⟩:=cK b s hl.1 w m up h
   have:=ihl hl.2 _ _ up k1
   rw[cd,ga,←k2]
   exact this
theorem zK:∀(ps:List (List UInt8)) (w:WS) (m:Scp),SR g0 0 w.vs [m]→SR g0 0 (cD ps w).vs [(jz ps m w.code).1]∧(cD ps w).code=(jz ps m w.code).2
 |[],w,m,h=>⟨h,rfl⟩
 |s::r,w,m,h=>by
  have hp:=h.put s w.code
  have:=zK r (iY w s 0) (iv m s 0) (h.add s w.count 0 rfl)
  simp only[cD,jz,List.foldl_cons] at this⊢
  rw[←hp]
  exact this
theorem De{fns:List Fd}{k:Nat}{ch:List Scp}{c:Int}(h:c≠0)(e:Ex):fm fns k ch c e=c:=by
 unfold fm
 simp only[rZ h]
 split
 ·split<;>rfl
 ·split
  ·split
   ·rfl
   ·split<;>rfl
  ·rfl
theorem ux{fns:List Fd}{k:Nat}{ch:List Scp}{c:Int}(h:c≠0):∀l:List Ex,l.foldl (fm fns k ch) c=c
 |[]=>rfl
 |e::r=>by rw[List.foldl_cons,De h,ux h r]
theorem CZ{o:Int}{s:List UInt8}{m:Scp}{up:List Scp}{c:Int}(h:c≠0):opC o s m up c=c:=by
 unfold opC
 simp only[rZ h]
 split
 ·split<;>rfl
 ·split
  ·split<;>rfl
  ·rfl
mutual
theorem BV(fns:List Fd)(k:Nat){c:Int}(h:c≠0):∀(s:Sm) (m:Scp) (up:List Scp),(icS fns k s m up c).2=c
 | .mk o s a bd el,m,up=>by
   rw[icS]
   simp only[yU,ux h,CZ h]
   rw[mg fns k h bd,mg fns k h el,ite_self]
theorem mg(fns:List Fd)(k:Nat){c:Int}(h:c≠0):∀(l:List Sm) (m:Scp) (up:List Scp),(ga fns k l m up c).2=c
 |[],m,up=>rfl
 |s::r,m,up=>by rw[ga,BV fns k h s m up,mg fns k h r]
end
theorem uj{c:Int}(h:c≠0):∀(ps:List (List UInt8)) (m:Scp),(jz ps m c).2=c
 |[],m=>rfl
 |s::r,m=>by
  have:=uj h r (iv m s 0)
  simp only[jz,List.foldl_cons,rZ h,ite_self] at this⊢
  exact this
theorem Ca(fns:List Fd)(k:Nat)(f:Fd){c:Int}(h:c≠0):icF fns k f c=c:=by
 simp only[icF,rZ h,ite_self]
 rw[uj h,mg fns k h]
theorem rk(fns:List Fd){c:Int}(h:c≠0):∀(l:List Fd) (k:Nat),iL fns k l c=c
 |[],k=>rfl
 |f::r,k=>by rw[iL,Ca fns k f h,rk fns h r]
theorem uy{fns:List Fd}{k:Nat}{f:Fd}(h:fns[k]?=some f):∃j,ca fns f.name=some j∧j≤k:=by
 cases e:ca fns f.name with
 |none=>
  rw[ca,List.findIdx?_eq_none_iff] at e
  have:=e f (List.mem_of_getElem? h)
  simp at this
 |some j=>
  refine⟨j,rfl,?_⟩
  rw[ca,List.findIdx?_eq_some_iff_getElem] at e
  obtain⟨h1,h2,h3⟩:=e
  rcases Nat.lt_or_ge k j with hk|hk
  ·have:=h3 k hk
   obtain⟨a1,a2⟩:=List.getElem?_eq_some_iff.1 h
   rw[a2] at this
   simp at this
  ·exact hk
theorem IL(fns:List Fd){k:Nat}{f:Fd}(hf:fns[k]?=some f)(hok:iW f=true):(fnW fns k f).code=icF fns k f 0:=by
 obtain⟨j,e1,e2⟩:=uy hf
 have hb:f.body.all (aK 4)=true:=by simp only[iW,Bool.and_eq_true] at hok;exact hok.2
 have hc:(if ca fns f.name=some k then(0:Int) else 2)=if(match ca fns f.name with|some j=>decide (j<k)|none=>true) then fl 0 2 else 0:=by
  rw[e1]
  by_cases h:j=k
  ·subst h;simp
  ·have:j<k:=by omega
   simp[h,this,fl]
 obtain⟨p1,p2⟩:=zK f.params ⟨[],0,if ca fns f.name=some k then(0:Int) else 2⟩ [] SR.base
 obtain⟨q1,q2⟩:=Ha fns k 4 0 f.body hb _ _ [] p1
 rw[fnW,q2,p2]
 simp only[icF,←hc]
theorem Eb(fns:List Fd):∀(l:List Fd) (k:Nat),(∀i,l[i]?=fns[k+i]?)→l.all iW=true→gx fns k l=iL fns k l 0
 |[],k,_,_=>rfl
 |f::r,k,hl,ha=>by
  rw[List.all_cons,Bool.and_eq_true] at ha
  have h0:fns[k]?=some f:=by have:=hl 0;simpa using this.symm
  have hr:∀i,r[i]?=fns[k+1+i]?:=fun i=>by have:=hl (i+1);rw[List.getElem?_cons_succ] at this;rw[this];congr 1;omega
  rw[gx,iL,IL fns h0 ha.1]
  split
  ·rename_i e;rw[e];exact Eb fns r (k+1) hr ha.2
  ·rename_i e;rw[rk fns e]
theorem ye(fns:List Fd):bF fns=if bt fns then iL fns 0 fns 0 else 1:=by
 unfold bF
 split
 ·rename_i h
  simp only[bt,Bool.and_eq_true] at h
  exact Eb fns fns 0 (fun i=>by rw[Nat.zero_add]) h.1.2
 ·rfl
end Go.Proofs.YtnjbhgpbgmpkcaaGreatDoor
namespace Go.Proofs.YtnjbhgpbgmpkcaaGreatDoor
open Go Go.Aw
set_option maxRecDepth 100000
mutual
def rnS(fns:List Fd)(k b:Nat):Sm→WS→Sm
 | .mk o s a bd el,w=>
   let w2:=opW o s b ⟨w.vs,w.count,ce fns k w.vs a w.code⟩
   .mk o (opN o s w) (iU w.vs a) (gb fns k (b+1) bd w2) (gb fns k (b+1) el ((cd fns k (b+1) bd w2).back w2.vs))
def gb(fns:List Fd)(k b:Nat):List Sm→WS→List Sm
 |[],_=>[]
 |s::r,w=>rnS fns k b s w::gb fns k b r (stW fns k b s w)
end
def mM:List (List UInt8)→WS→List (List UInt8)
 |[],_=>[]
 |s::r,w=>vnm w.count::mM r (iY w s 0)
def rnF(fns:List Fd)(k:Nat)(f:Fd):Fd:=
 ⟨f.name,mM f.params ⟨[],0,if ca fns f.name=some k then 0 else 2⟩,gb fns k 0 f.body (cD f.params ⟨[],0,if ca fns f.name=some k then 0 else 2⟩)⟩
mutual
def Bs:Sm→Nat
 | .mk o _ _ bd el=>(if o=1 then 1 else 0)+mX bd+mX el
def mX:List Sm→Nat
 |[]=>0
 |s::r=>Bs s+mX r
end
theorem pN(o:Int)(s:List UInt8)(b:Nat)(w:WS):(opW o s b w).count=w.count+if o=1 then 1 else 0:=by
 unfold opW
 split
 ·rfl
 ·split<;>rfl
mutual
theorem uH(fns:List Fd)(k:Nat):∀(s:Sm) (b:Nat) (w:WS),(stW fns k b s w).count=w.count+Bs s
 | .mk o s a bd el,b,w=>by
   rw[stW,Bs]
   simp only[WS.back]
   rw[gu fns k el,gu fns k bd,pN];show w.count+_+_+_=_
   omega
theorem gu(fns:List Fd)(k:Nat):∀(l:List Sm) (b:Nat) (w:WS),(cd fns k b l w).count=w.count+mX l
 |[],b,w=>rfl
 |s::r,b,w=>by rw[cd,mX,gu fns k r,uH fns k s];omega
end
mutual
theorem Fe:∀s:Sm,Bs s≤s.cnt
 | .mk o s a bd el=>by
   have:=pn bd
   have:=pn el
   simp only[Bs,Sm.cnt]
   split<;>omega
theorem pn:∀l:List Sm,mX l≤dA l
 |[]=>Nat.le_refl _
 |s::r=>by have:=Fe s;have:=pn r;simp only[mX,dA];omega
end
theorem qq:∀(ps:List (List UInt8)) (w:WS),(cD ps w).count=w.count+ps.length
 |[],w=>rfl
 |s::r,w=>by
  have:=qq r (iY w s 0)
  simp only[cD,List.foldl_cons,List.length_cons] at this⊢
  rw[this];simp only[iY];omega
theorem FZ(o:Int)(s:List UInt8)(b:Nat)(w:WS):∃e,(opW o s b w).vs=e++w.vs:=by
 unfold opW
 split
 ·exact⟨[_],rfl⟩
 ·split<;>exact⟨[],rfl⟩
theorem BP(fns:List Fd)(k b:Nat)(o:Int)(s:List UInt8)(a:List Ex)(bd el:List Sm)(w:WS):(stW fns k b (.mk o s a bd el) w).vs=(opW o s b ⟨w.vs,w.count,ce fns k w.vs a w.code⟩).vs:=rfl
theorem wH(fns:List Fd)(k:Nat):∀(l:List Sm) (b:Nat) (w:WS),∃e,(cd fns k b l w).vs=e++w.vs
 |[],b,w=>⟨[],rfl⟩
 | .mk o s a bd el::r,b,w=>by
   obtain⟨e1,h1⟩:=wH fns k r b (stW fns k b (.mk o s a bd el) w)
   obtain⟨e2,h2⟩:=FZ o s b ⟨w.vs,w.count,ce fns k w.vs a w.code⟩
   exact⟨e1++e2,by rw[cd,h1,BP,h2,List.append_assoc]⟩
theorem Hk{o:Int}{s:List UInt8}{b:Nat}{w:WS}(h:w.vs.length≤w.count):(opW o s b w).vs.length≤(opW o s b w).count:=by
 unfold opW
 split
 ·simp[iY,h]
 ·split<;>exact h
theorem Hj(fns:List Fd)(k:Nat){s:Sm}{b:Nat}{w:WS}(h:w.vs.length≤w.count):(stW fns k b s w).vs.length≤(stW fns k b s w).count:=by
 obtain⟨o,n,a,bd,el⟩:=s
 rw[uH,BP]
 have:=Hk (o:=o) (s:=n) (b:=b) (w:=⟨w.vs,w.count,ce fns k w.vs a w.code⟩) h
 rw[pN] at this
 simp only[Bs]
 simp only at this
 omega
theorem ze(fns:List Fd)(k:Nat):∀{l:List Sm} {b:Nat} {w:WS},w.vs.length≤w.count→(cd fns k b l w).vs.length≤(cd fns k b l w).count
 |[],_,_,h=>h
 |s::r,b,w,h=>ze fns k (l:=r) (Hj fns k h)
mutual
def Sm.pre(d:Nat):Sm→List (Sm × Nat)
 | .mk o s a bd el=>(.mk o s a bd el,d)::(aT (d+1) bd++aT (d+1) el)
def aT(d:Nat):List Sm→List (Sm × Nat)
 |[]=>[]
 |s::r=>Sm.pre d s++aT d r
end
theorem Sm.pre_eq(d:Nat)(s:Sm):s.pre d=(s,d)::(aT (d+1) s.body++aT (d+1) s.els):=by cases s;rfl
theorem kG(d:Nat):∀a b:List Sm,aT d (a++b)=aT d a++aT d b
 |[],b=>rfl
 |s::r,b=>by rw[List.cons_append,aT,aT,kG d r b,List.append_assoc]
theorem Ex.pre_eq(e:Ex):e.pre=e::bN e.kids:=by cases e;rfl
theorem jP:∀a b:List Ex,bN (a++b)=bN a++bN b
 |[],b=>rfl
 |e::r,b=>by rw[List.cons_append,bN,bN,jP r b,List.append_assoc]
mutual
theorem Sm.pre_len:∀(s:Sm) (d:Nat),(s.pre d).length=s.cnt
 | .mk o s a bd el,d=>by simp only[Sm.pre,Sm.cnt,List.length_cons,List.length_append,ir bd,ir el];omega
theorem ir:∀(l:List Sm) (d:Nat),(aT d l).length=dA l
 |[],d=>rfl
 |s::r,d=>by simp only[aT,dA,List.length_append,Sm.pre_len s,ir r]
end
end Go.Proofs.YtnjbhgpbgmpkcaaGreatDoor
namespace Go.Proofs.YtnjbhgpbgmpkcaaGreatDoor
open Go Go.Aw
set_option maxRecDepth 100000
set_option maxHeartbeats 4000000
def K_impl_stmtOk:AK:= .seq (.reg [oJ 2 (.box 5 (.t 0)),oJ 4 (.mov (.c (.p (.bool false))))]) (.seq (.reg [oF 12 0 2,oL 13 12,oJ 14 (.call eY [(.t 13)]),oM 11 14,oJ 15 (.ext 0 (.t 11)),oJ 16 (.ext 1 (.t 11)),oJ 17 (.ext 2 (.t 11)),oJ 18 (.ext 3 (.t 11)),oM 5 15,oM 6 16,oM 7 17,oM 8 18]) (.cut (.blk 0 (.seq (.seq (.reg [oM 20 1,oJ 21 (.bin .gtr (.t 20) (.c (.p (.int .i64 4)))),oM 19 21]) (.cond (.t 19) (.skip) (.seq (.reg [oF 22 2 2,oL 23 22,oJ 24 (.len false (.t 23)),oM 25 5,oJ 26 (.bin .neq (.t 24) (.t 25)),oM 19 26]) (.cond (.t 19) (.skip) (.cut (.reg [oM 27 6,oM 28 27,⟨(some 29),some (28,true),.fldA 1 (.t 2)⟩,⟨(some 30),some (28,true),.ld none (.t 29)⟩,⟨(some 31),some (28,true),.call bC [(.t 30)]⟩,⟨(some 32),some (28,true),.not (.t 31)⟩,oJ 33 (.pick (.t 28) (.t 32) (.c (.p (.bool false)))),oM 19 33]) (.cond (.t 19) (.skip) (.cut (.reg [oM 34 6,oJ 35 (.not (.t 34)),oM 36 35,⟨(some 37),some (36,true),.fldA 1 (.t 2)⟩,⟨(some 38),some (36,true),.ld none (.t 37)⟩,⟨(some 39),some (36,true),.bins .neq (.t 38) (.c (.p (.str [])))⟩,oJ 40 (.pick (.t 36) (.t 39) (.c (.p (.bool false)))),oM 19 40]) (.cond (.t 19) (.skip) (.cut (.reg [oM 41 7,oJ 42 (.not (.t 41)),oM 43 42,⟨(some 44),some (43,true),.fldA 3 (.t 2)⟩,⟨(some 45),some (43,true),.ld none (.t 44)⟩,⟨(some 46),some (43,true),.len false (.t 45)⟩,⟨(some 47),some (43,true),.bin .gtr (.t 46) (.c (.p (.int .i64 0)))⟩,oJ 48 (.pick (.t 43) (.t 47) (.c (.p (.bool false)))),oM 19 48]) (.cond (.t 19) (.skip) (.cut (.reg [oM 49 8,oJ 50 (.not (.t 49)),oM 51 50,⟨(some 52),some (51,true),.fldA 4 (.t 2)⟩,⟨(some 53),some (51,true),.ld none (.t 52)⟩,⟨(some 54),some (51,true),.len false (.t 53)⟩,⟨(some 55),some (51,true),.bin .gtr (.t 54) (.c (.p (.int .i64 0)))⟩,oJ 56 (.pick (.t 51) (.t 55) (.c (.p (.bool false)))),oM 19 56]) (.cond (.t 19) (.skip) (.reg [oF 57 0 2,oL 58 57,oJ 59 (.bin .eql (.t 58) (.c (.p (.int .i64 8)))),oM 60 59,⟨(some 61),some (60,true),.fldA 2 (.t 2)⟩,⟨(some 62),some (60,true),.ld none (.t 61)⟩,⟨(some 63),some (60,true),.idxS 4 (.t 62) (.c (.p (.int .i64 0)))⟩,⟨(some 64),some (60,true),.fldA 0 (.t 63)⟩,⟨(some 65),some (60,true),.ld none (.t 64)⟩,⟨(some 66),some (60,true),.bin .neq (.t 65) (.c (.p (.int .i64 13)))⟩,oJ 67 (.pick (.t 60) (.t 66) (.c (.p (.bool false)))),oM 19 67]))))))))))))) (.cond (.t 19) (.seq (.reg [oJ 4 (.mov (.c (.p (.bool false))))]) (.ret)) (.skip)))) (.seq (.seq (.reg [oF 68 2 2,oL 69 68,oJ 70 (.len false (.t 69)),oK 71 0]) (.blk 1 (.loop (.seq (.reg [oJ 72 (.bin .lss (.t 71) (.t 70))]) (.seq (.cond (.t 72) (.skip) (.exit 1)) (.seq (.blk 2 (.seq (.reg [oJ 73 (.idxS 4 (.t 69) (.t 71)),oJ 74 (.ld (some 4) (.t 73)),oJ 10 (.alloc [(.p (.int .i64 0)),(.p (.int .i64 0)),(.p (.str [])),.nils]),⟨none,none,.st 4 (.t 10) (.t 74)⟩]) (.seq (.reg [oJ 75 (.ld (some 4) (.t 10)),oJ 76 (.call er [(.t 75)]),oJ 77 (.not (.t 76))]) (.cond (.t 77) (.seq (.reg [oJ 4 (.mov (.c (.p (.bool false))))]) (.ret)) (.skip))))) (.reg [oJ 78 (.bin .add (.t 71) (.c (.p (.int .i64 1)))),oM 71 78]))))))) (.seq (.reg [oF 79 3 2,oL 80 79,oM 81 1,oJ 82 (.bin .add (.t 81) (.c (.p (.int .i64 1)))),oJ 83 (.call cF [(.t 80),(.t 82)]),oM 84 83,⟨(some 85),some (84,true),.fldA 4 (.t 2)⟩,⟨(some 86),some (84,true),.ld none (.t 85)⟩,⟨(some 87),some (84,true),.mov (.t 1)⟩,⟨(some 88),some (84,true),.bin .add (.t 87) (.c (.p (.int .i64 1)))⟩,⟨(some 89),some (84,true),.call cF [(.t 86),(.t 88)]⟩,oJ 90 (.pick (.t 84) (.t 89) (.c (.p (.bool false)))),oM 4 90]) (.ret)))))
theorem tH:K_impl_stmtOk.whole=F_impl_stmtOk.ak:=rfl
variable (G:ay)
def mE(op:Int):Int:=if op=4 then 2 else if inR op 1 8 then 1 else-1
def gQ(op:Int):Bool:=decide (op=5)||decide (op=6)
theorem rn(op:Int):VF Tryz.prog G eY [.p (.int .i64 op)] (.tup [.p (.int .i64 (mE op)),.p (.bool (cL op)),.p (.bool (gQ op)),.p (.bool (decide (op=5)))]):=by
 refine AC.go qV ?_
 by_cases h1:op=1
 ·subst h1;simp-implicitDefEqProofs[bh,mE,inR,cL,gQ]
 by_cases h2:op=2
 ·subst h2;simp-implicitDefEqProofs[bh,mE,inR,cL,gQ]
 by_cases h3:op=3
 ·subst h3;simp-implicitDefEqProofs[bh,mE,inR,cL,gQ]
 by_cases h4:op=4
 ·subst h4;simp-implicitDefEqProofs[bh,mE,inR,cL,gQ]
 by_cases h5:op=5
 ·subst h5;simp-implicitDefEqProofs[bh,mE,inR,cL,gQ]
 by_cases h6:op=6
 ·subst h6;simp-implicitDefEqProofs[bh,mE,inR,cL,gQ]
 by_cases h7:op=7
 ·subst h7;simp-implicitDefEqProofs[bh,mE,inR,cL,gQ]
 by_cases h8:op=8
 ·subst h8;simp-implicitDefEqProofs[bh,mE,inR,cL,gQ]
 have ha:mE op= -1:=by
  have:inR op 1 8=false:=by simp[inR];omega
  rw[mE,if_neg h4,this];rfl
 have hn:cL op=false:=by simp[cL,h1,h2]
 have hb:gQ op=false:=by simp[gQ,h5,h6]
 rw[ha,hn,hb]
 simp-implicitDefEqProofs[bh,h1,h2,h3,h4,h5,h6,h7,h8]
def xZ:List Ex→Bool
 |a::_=>decide (a.op=13)
 |[]=>false
def gR(s:Sm):Bool:=decide ((s.args.length:Int)=mE s.op)&&(!cL s.op||aH s.name)&&(cL s.op||decide (s.name=[]))&&(gQ s.op||decide (s.body=[]))&&(decide (s.op=5)||decide (s.els=[]))&&
 (!decide (s.op=8)||xZ s.args)
theorem BD(s:Sm):hZ s=(inR s.op 1 8&&decide (s.args.length=jl s.op)&&(cL s.op==aH s.name)&&(cL s.op||decide (s.name=[]))&&s.args.all kS&&
 (!decide (s.op=8)||xZ s.args)&&(s.els.isEmpty||decide (s.op=5))&&(s.body.isEmpty||decide (s.op=5)||decide (s.op=6))):=by
 unfold hZ
 cases s.args<;>rfl
theorem wz(s:Sm):hZ s=(gR s&&s.args.all kS):=by
 have ha:decide ((s.args.length:Int)=mE s.op)=(inR s.op 1 8&&decide (s.args.length=jl s.op)):=by
  unfold mE jl
  by_cases h4:s.op=4
  ·have:inR s.op 1 8=true:=by simp[inR,h4]
   rw[this,if_pos h4,if_pos h4];simp;omega
  ·rw[if_neg h4,if_neg h4]
   cases h:inR s.op 1 8 with
   |true=>simp;omega
   |false=>simp
 have hn:(cL s.op==aH s.name&&(cL s.op||decide (s.name=[])))=((!cL s.op||aH s.name)&&(cL s.op||decide (s.name=[]))):=by
  cases cL s.op with
  |true=>cases aH s.name<;>rfl
  |false=>
   by_cases h:s.name=[]
   ·rw[h,nv];rfl
   ·simp[h]
 have hb:(s.body.isEmpty||decide (s.op=5)||decide (s.op=6))=(gQ s.op||decide (s.body=[])):=by
  rw[gQ]
  cases s.body<;>cases decide (s.op=5)<;>cases decide (s.op=6)<;>simp
 have he:(s.els.isEmpty||decide (s.op=5))=(decide (s.op=5)||decide (s.els=[])):=by
  cases s.els<;>cases decide (s.op=5)<;>simp
 rw[BD]
 unfold gR
 rw[ha,hb,he]
 generalize xZ s.args=z
 generalize (cL s.op==aH s.name)=c at hn⊢
 generalize (!cL s.op||aH s.name)=c' at hn⊢
 generalize (cL s.op||decide (s.name=[]))=d at hn⊢
 generalize s.args.all kS=x
 generalize (gQ s.op||decide (s.body=[]))=y
 generalize (decide (s.op=5)||decide (s.els=[]))=y'
 generalize (!decide (s.op=8))=u
 cases inR s.op 1 8<;>cases decide (s.args.length=jl s.op)<;>cases c<;>cases c'<;>cases d<;>cases x<;>cases y<;>cases y'<;>cases u<;>cases z<;>simp_all
variable (hK:G eE=some dV) (hS:G cJ=some [.tbl opK opV])
def yw(d:Nat)(L:List Sm):Int:=match L.findIdx? (fun s=> !aK d s) with|some i=>i|none=> -1
theorem BS(d:Nat)(L:List Sm):decide (0≤yw d L)= !(L.all (aK d)):=by
 unfold yw
 cases h:L.findIdx? (fun x=> !aK d x) with
 |none=>
  rw[List.findIdx?_eq_none_iff] at h
  have:L.all (aK d)=true:=List.all_eq_true.2 fun x hx=>by have:=h x hx;simpa using this
  simp[this]
 |some i=>
  rw[List.findIdx?_eq_some_iff_getElem] at h
  obtain⟨h1,h2,_⟩:=h
  have:L.all (aK d)=false:=List.all_eq_false.2 ⟨_,List.getElem_mem h1,by simpa using h2⟩
  rw[this];simp
theorem qC(d:Nat)(nest:Int)(hs:∀s:Sm,s.sz≤1073741824→VF Tryz.prog G gI [.agg (s.cs.map .p),.p (.int .i64 nest)] (.p (.bool (aK d s))))(L:List Sm)(hL:aq L≤1073741824):
 VF Tryz.prog G cF [.p (smL L),.p (.int .i64 nest)] (.p (.bool (L.all (aK d)))):=by
 have hsl:smL L= .lst 5 (L.map Sm.cs):=rfl
 have hll:=cg L
 have cK:∀s:Sm,s.sz≤1073741824→AC Tryz.prog G cy [.agg (s.cs.map .p),.ptr 0 1 0 0] [.row 1 [[.p (.int .i64 nest)]]] fun x h=>x= .ret (.p (.bool (!aK d s)))∧h=[.row 1 [[.p (.int .i64 nest)]]]:=by
  intro s hz
  refine AC.trim (AC.go pV ?_) (by simp[below])
  have hse:=s.cs_eq
  have h1:=hs s hz
  rw[hse] at h1
  simp-implicitDefEqProofs[ke,hse]
  refine h1.use ?_
  simp-implicitDefEqProofs[]
 have idx:AC Tryz.prog G bX [.p (smL L),.fn (.func cy) [.ptr 0 1 0 0]] [.row 1 [[.p (.int .i64 nest)]]] fun x h=>x= .ret (.p (.int .i64 (yw d L)))∧h=[.row 1 [[.p (.int .i64 nest)]]]:=by
  refine AC.go gV ?_
  simp-implicitDefEqProofs[dB,hsl]
  refine aJ (fun i:Nat=>aj 19 [(0,.p (smL L)),(1,.fn (.func cy) [.ptr 0 1 0 0]),(7,.p (.int .i64 L.length)),(8,.p (.int .i64 i))]) (fun _=>[.row 1 [[.p (.int .i64 nest)]]]) (fun i=>i≤L.length∧∀w∈L.take i,aK d w=true) (fun i=>L.length-i) 0 (by simp) ?_ ?_
  ·exact ab (by simp) (by simp[okO,below]) (by simp[below,ah,hsl])
  ·intro i ⟨hi,hn⟩
   simp-implicitDefEqProofs[hsl]
   refine aS (fun h1=>?_) (fun h1=>?_)
   ·simp at h1
    have hg:=List.getElem?_eq_getElem h1
    have hz:=eQ (List.getElem_mem h1)
    simp-implicitDefEqProofs[hg]
    refine(cK L[i] (by omega)).mono ?_
    rintro r h ⟨rfl,rfl⟩
    by_cases he:aK d L[i]=true
    ·simp-implicitDefEqProofs[aa,he]
     refine⟨i+1,⟨h1,fun p hp=>?_⟩,by omega,ab (by simp) (by simp[okO,below]) (by simp[below,ah,hsl,w1 (i:=i) (by omega)])⟩
     rw[al h1] at hp
     rcases List.mem_append.1 hp with hp|hp
     ·exact hn p hp
     ·rw[List.mem_singleton.1 hp];exact he
    ·have hf:yw d L=i:=by
      have:L.findIdx? (fun w=> !aK d w)=some i:=by
       rw[List.findIdx?_eq_some_iff_getElem]
       exact⟨h1,by simpa using he,fun j hj=>by have:=hn L[j] (List.mem_take_iff_getElem.2 ⟨j,by omega,rfl⟩);simpa using this⟩
      rw[yw,this]
     simp-implicitDefEqProofs[aa,he,hf]
   ·simp at h1
    rw[List.take_of_length_le h1] at hn
    have hf:yw d L= -1:=by
     have:L.findIdx? (fun w=> !aK d w)=none:=by
      rw[List.findIdx?_eq_none_iff];intro x hx;simpa using hn x hx
     rw[yw,this]
    simp-implicitDefEqProofs[hf]
 have con:AC Tryz.prog G bI [.p (smL L),.fn (.func cy) [.ptr 0 1 0 0]] [.row 1 [[.p (.int .i64 nest)]]] fun x h=>x= .ret (.p (.bool (!L.all (aK d))))∧h=[.row 1 [[.p (.int .i64 nest)]]]:=by
  refine AC.go fZ ?_
  simp-implicitDefEqProofs[cX]
  refine idx.mono ?_
  rintro r h ⟨rfl,rfl⟩
  have:=BS d L
  simp-implicitDefEqProofs[aa]
  simpa using this
 refine AC.go rx ?_
 simp-implicitDefEqProofs[lH]
 refine con.mono ?_
 rintro r h ⟨rfl,rfl⟩
 simp-implicitDefEqProofs[aa]
include hS hK
theorem Cl:∀d:Nat,d≤4→∀s:Sm,s.sz≤1073741824→VF Tryz.prog G gI [.agg (s.cs.map .p),.p (.int .i64 (5-d))] (.p (.bool (aK d s))):=by
 intro d
 induction d with
 |zero=>
  intro _ s hz
  have hse:=s.cs_eq
  refine AC.go nq ?_
  simp-implicitDefEqProofs[F_impl_stmtOk,hse]
  refine(rn G _).use ?_
  simp-implicitDefEqProofs[aK]
 |succ d ih=>
  intro hd s hz
  have hse:=s.cs_eq
  have hsz:=s.sz_eq
  have hal:=bL s.args
  have hblk:=qC G d (5-d) (ih (by omega))
  have hnn:(5:Int)-((d+1:Nat):Int)=4-d:=by omega
  have hnw:IntKind.i64.wrap (4-(d:Int)+1)=5-d:=by rw[ag (by omega) (by omega)];omega
  have hn4:¬(4:Int)<4-d:=by omega
  have hxl:exL s.args= .lst 4 (s.args.map Ex.cs):=rfl
  have hsl:∀l,smL l= .lst 5 (l.map Sm.cs):=fun _=>rfl
  rw[hnn]
  have hbad:gR s=false→aK (d+1) s=false:=fun h=>by rw[aK,wz,h];rfl
  refine AC.goK nq tH ?_
  simp-implicitDefEqProofs[K_impl_stmtOk,F_impl_stmtOk,hse]
  refine(rn G _).use ?_
  simp-implicitDefEqProofs[]
  refine rN (fun _:Unit=>aj 91 [(1,.p (.int .i64 (4-d))),(2,.ptr 0 5 0 0)]) (fun _=>[.row 5 [[.p (.int .i64 s.op),.p (.str s.name),.p (exL s.args),.p (smL s.body),.p (smL s.els)]]]) (fun _=>gR s=true) ?_ ?_
  ·have fin:∀(r1:List (Nat × AV)),Aw.look r1 1= .p (.int .i64 (4-d))→Aw.look r1 2= .ptr 0 5 0 0→
    Wk 0 (aj 91 r1) [.row 5 [[.p (.int .i64 s.op),.p (.str s.name),.p (exL s.args),.p (smL s.body),.p (smL s.els)]]] (aj 91 [(1,.p (.int .i64 (4-d))),(2,.ptr 0 5 0 0)]) [.row 5 [[.p (.int .i64 s.op),.p (.str s.name),.p (exL s.args),.p (smL s.body),.p (smL s.els)]]]:=fun r1 a b=>
    ab (by simp) (by simp[okO,below]) (by simp[below,a,b])
   have hb0:s.body=[]∨0<s.body.length:=by cases s.body<;>simp
   have he0:s.els=[]∨0<s.els.length:=by cases s.els<;>simp
   by_cases hl:(s.args.length:Int)=mE s.op
   case neg=>
    rw[hbad (by simp[gR,hl])]
    simp-implicitDefEqProofs[hn4,hxl,hl]
   have hel:(decide (s.els=[]))= !decide (0<s.els.length):=by cases s.els<;>simp
   have hbo:(decide (s.body=[]))= !decide (0<s.body.length):=by cases s.body<;>simp
   simp-implicitDefEqProofs[hn4,hxl,hl]
   refine kD (aj 91 [(1,.p (.int .i64 (4-d))),(2,.ptr 0 5 0 0),(6,.p (.bool (cL s.op))),(7,.p (.bool (gQ s.op))),(8,.p (.bool (decide (s.op=5)))),(19,.p (.bool (cL s.op&& !aH s.name)))]) ([.row 5 [[.p (.int .i64 s.op),.p (.str s.name),.p (exL s.args),.p (smL s.body),.p (smL s.els)]]]) ?_ ?_
   ·cases hn:cL s.op with
    |true=>
     simp-implicitDefEqProofs[]
     refine(lY G hK _ (by omega)).use ?_
     simp-implicitDefEqProofs[]
     exact ab (by simp) (by simp[okO,below]) (by simp[below])
    |false=>
     simp-implicitDefEqProofs[]
     exact ab (by simp) (by simp[okO,below]) (by simp[below])
   by_cases h2:(cL s.op&& !aH s.name)=true
   ·rw[hbad (by simp only[gR];cases h:cL s.op<;>cases h':aH s.name<;>simp[h,h'] at h2⊢)]
    simp-implicitDefEqProofs[h2]
   have h2':(cL s.op&& !aH s.name)=false:=by simpa using h2
   rw[h2']
   simp-implicitDefEqProofs[]
   refine kD (aj 91 [(1,.p (.int .i64 (4-d))),(2,.ptr 0 5 0 0),(6,.p (.bool (cL s.op))),(7,.p (.bool (gQ s.op))),(8,.p (.bool (decide (s.op=5)))),(19,.p (.bool (!cL s.op&& !decide (s.name=[]))))]) ([.row 5 [[.p (.int .i64 s.op),.p (.str s.name),.p (exL s.args),.p (smL s.body),.p (smL s.els)]]]) ?_ ?_
   ·cases hn:cL s.op with
    |true=>
     simp-implicitDefEqProofs[]
     exact ab (by simp) (by simp[okO,below]) (by simp[below])
    |false=>
     simp-implicitDefEqProofs[]
     exact ab (by simp) (by simp[okO,below]) (by simp[below])
   by_cases h3:(!cL s.op&& !decide (s.name=[]))=true
   ·rw[hbad (by simp only[gR];cases h:cL s.op<;>cases h':decide (s.name=[])<;>simp[h,h'] at h3⊢)]
    simp-implicitDefEqProofs[h3]
   have h3':(!cL s.op&& !decide (s.name=[]))=false:=by simpa using h3
   rw[h3']
   simp-implicitDefEqProofs[]
   refine kD (aj 91 [(1,.p (.int .i64 (4-d))),(2,.ptr 0 5 0 0),(6,.p (.bool (cL s.op))),(7,.p (.bool (gQ s.op))),(8,.p (.bool (decide (s.op=5)))),(19,.p (.bool (!gQ s.op&&decide (0<s.body.length))))]) ([.row 5 [[.p (.int .i64 s.op),.p (.str s.name),.p (exL s.args),.p (smL s.body),.p (smL s.els)]]]) ?_ ?_
   ·cases hn:gQ s.op with
    |true=>
     simp-implicitDefEqProofs[hsl]
     exact ab (by simp) (by simp[okO,below]) (by simp[below])
    |false=>
     simp-implicitDefEqProofs[hsl]
     exact ab (by simp) (by simp[okO,below]) (by simp[below])
   by_cases h4:(!gQ s.op&&decide (0<s.body.length))=true
   ·rw[hbad (by simp only[gR,hbo];cases h:gQ s.op<;>cases h':decide (0<s.body.length)<;>simp[h,h'] at h4⊢)]
    simp-implicitDefEqProofs[h4]
   have h4':(!gQ s.op&&decide (0<s.body.length))=false:=by simpa using h4
   rw[h4']
   simp-implicitDefEqProofs[]
   refine kD (aj 91 [(1,.p (.int .i64 (4-d))),(2,.ptr 0 5 0 0),(6,.p (.bool (cL s.op))),(7,.p (.bool (gQ s.op))),(8,.p (.bool (decide (s.op=5)))),(19,.p (.bool (!decide (s.op=5)&&decide (0<s.els.length))))]) ([.row 5 [[.p (.int .i64 s.op),.p (.str s.name),.p (exL s.args),.p (smL s.body),.p (smL s.els)]]]) ?_ ?_
   ·cases hn:decide (s.op=5) with
    |true=>
     simp-implicitDefEqProofs[hsl]
     exact ab (by simp) (by simp[okO,below]) (by simp[below])
    |false=>
     simp-implicitDefEqProofs[hsl]
     exact ab (by simp) (by simp[okO,below]) (by simp[below])
   by_cases h5:(!decide (s.op=5)&&decide (0<s.els.length))=true
   ·rw[hbad (by simp only[gR,hel];cases h:decide (s.op=5)<;>cases h':decide (0<s.els.length)<;>simp[h,h'] at h5⊢)]
    simp-implicitDefEqProofs[h5]
   have h5':(!decide (s.op=5)&&decide (0<s.els.length))=false:=by simpa using h5
   rw[h5']
   have hh1:gR s=(!decide (s.op=8)||xZ s.args):=by
    simp only[gR,hl,decide_true,Bool.true_and,hel,hbo]
    cases h:cL s.op<;>cases hi:aH s.name<;>cases hm:decide (s.name=[])<;>cases hb:gQ s.op<;>cases hc:decide (0<s.body.length)<;>cases ho:decide (s.op=5)<;>cases he:decide (0<s.els.length)<;>simp[h,hi,hm,hb,hc,ho,he] at h2' h3' h4' h5'⊢
   by_cases o8:s.op=8
   ·have ha1:s.args.length=1:=by
     have:mE s.op=1:=by rw[o8];rfl
     omega
    obtain⟨a0,ha0⟩:∃a0,s.args=[a0]:=by
     match hh:s.args,ha1 with
     |[x],_=>exact⟨x,rfl⟩
    have hae:=a0.cs_eq
    rw[hh1,o8,ha0]
    rw[o8,ha0] at fin
    have hxa:exL [a0]= .lst 4 [a0.cs]:=rfl
    by_cases hc:a0.op=13
    ·have h13:xZ [a0]=true:=by simp[xZ,hc]
     simp-implicitDefEqProofs[o8,hae,hc,h13,hxa]
     rw[hxa,hae,hc] at fin
     exact fin _ (by simp) (by simp)
    ·rw[hbad (by rw[hh1,o8,ha0];simp[xZ,hc])]
     simp-implicitDefEqProofs[o8,hae,hc,hxa]
   ·have hh2:gR s=true:=by rw[hh1];simp[o8]
    simp-implicitDefEqProofs[o8,hh2]
    exact fin _ (by simp) (by simp)
  intro _ h1
  have hh:aK (d+1) s=(s.args.all kS&&(s.body.all (aK d)&&s.els.all (aK d))):=by rw[aK,wz,h1,Bool.true_and,Bool.and_assoc]
  simp-implicitDefEqProofs[hxl]
  refine aJ (fun i:Nat=>aj 91 [(1,.p (.int .i64 (4-d))),(2,.ptr 0 5 0 0),(69,.p (exL s.args)),(70,.p (.int .i64 s.args.length)),(71,.p (.int .i64 i))]) (fun _=>[.row 5 [[.p (.int .i64 s.op),.p (.str s.name),.p (exL s.args),.p (smL s.body),.p (smL s.els)]]]) (fun i=>i≤s.args.length∧(s.args.take i).all kS=true) (fun i=>s.args.length-i) 0 (by simp) ?_ ?_
  ·exact ab (by simp) (by simp[okO,below]) (by simp[below,hxl])
  rintro i ⟨hi,ha⟩
  simp-implicitDefEqProofs[hxl]
  refine aS (fun h=>?_) (fun h=>?_)
  ·simp at h
   have hg:=List.getElem?_eq_getElem h
   have hks:=bQ (List.getElem_mem h)
   have hkc:=s.args[i].cs_eq
   have hx:=xj G hK hS s.args[i] (by omega)
   rw[hkc] at hx
   simp-implicitDefEqProofs[hg,hkc]
   refine hx.use ?_
   by_cases ho:kS s.args[i]=true
   ·simp-implicitDefEqProofs[ho]
    refine⟨i+1,⟨h,by rw[←List.all_eq_true,dK h,ha,ho];rfl⟩,by omega,?_⟩
    refine fX (m:=1) (by omega) (dd rfl rfl (by simp[okO,below])) (by simp[below,hxl,w1 (i:=i) (by omega)])
   ·have ho':kS s.args[i]=false:=by simpa using ho
    rw[hh,kx h ho']
    simp-implicitDefEqProofs[ho']
  ·simp at h
   have ha2:s.args.all kS=true:=fT h ha
   rw[hh,ha2,Bool.true_and]
   simp-implicitDefEqProofs[hnw]
   refine(hblk s.body (by omega)).use ?_
   cases hb:s.body.all (aK d) with
   |true=>
    simp-implicitDefEqProofs[hnw]
    refine(hblk s.els (by omega)).use ?_
    simp-implicitDefEqProofs[]
   |false=>
    simp-implicitDefEqProofs[]
end Go.Proofs.YtnjbhgpbgmpkcaaGreatDoor
namespace Go.Proofs.YtnjbhgpbgmpkcaaGreatDoor
open Go Go.Aw
set_option maxRecDepth 100000
set_option maxHeartbeats 4000000
variable (G:ay)
structure Vis (σ:Type) where
 I:σ→List AO
 n:Nat
 F:FuncId
 caps:List AV
 len:∀st,(I st).length=n
 ok:∀st,∀o∈I st,okO n o
 capsOk:ah n caps
theorem Vis.pre{σ:Type}(V:Vis σ){f:FuncId}{args:List AV}{st st':σ}{v:AV}(H:AC Tryz.prog G f args (V.I st) fun x h=>x= .ret v∧h=V.I st')(rest:List AO)(ha:ah V.n args):
 AC Tryz.prog G f args (V.I st++rest) fun x h=>x= .ret v∧h=V.I st'++rest:=by
 refine(AC.pre H rest (by rw[V.len];exact ha) (by rw[V.len];exact V.ok st) ?_).mono ?_
 ·rintro x h ⟨_,rfl⟩;rw[V.len,V.len]
 ·rintro x h ⟨h1,⟨rfl,rfl⟩,rfl⟩
  exact⟨rfl,rfl⟩
theorem Vis.trim{σ:Type}(V:Vis σ){f:FuncId}{args:List AV}{st st':σ}{v:AV}(H:AC Tryz.prog G f args (V.I st) fun x h=>x= .ret v∧∃l,h=V.I st'++l)(hv:below V.n v):
 AC Tryz.prog G f args (V.I st) fun x h=>x= .ret v∧h=V.I st':=by
 refine H.wk (fun t v h ⟨e,_⟩=>by cases e) ?_
 rintro u h ⟨e,l,rfl⟩
 cases e
 refine⟨v,V.I st',rz (n:=V.n) (by rw[V.len];exact Nat.le_refl _) (dd (by rw[←V.len st',List.take_left'];rfl) (V.len _) (V.ok _)) ?_,rfl,rfl⟩
 simp[Fgt,hv]
theorem oU{n m:Nat}(h:n≤m){o:AO}(ho:okO n o):okO m o:=by
 cases o with
 |dead=>trivial
 |sit=>trivial
 |row sz es=>exact fun e he=>aN h _ (ho e he)
 |mp es=>exact fun e he=>(aN h [e.2] ⟨ho e he,trivial⟩).1
theorem Vis.oks{σ:Type}(V:Vis σ)(st:σ){m:Nat}(hm:V.n≤m){r:List AO}(hr:∀o∈r,okO m o):∀o∈V.I st++r,okO m o:=by
 intro o ho
 rcases List.mem_append.1 ho with h|h
 ·exact oU hm (V.ok st o h)
 ·exact hr o h
theorem Vis.same{σ:Type}(V:Vis σ)(st:σ){k n:Nat}(hk:k≤V.n){r s:List AO}{l l1:List (Nat × AV)}(hr:∀o∈r,okO (V.n+r.length) o)(H:FgA (V.n+r.length) l l1):Wk k (aj n l) (V.I st++(r++s)) (aj n l1) (V.I st++r):=by
 have hl:(V.I st++r).length=V.n+r.length:=by rw[List.length_append,V.len]
 refine fX (m:=V.n+r.length) (by omega) (dd ?_ hl (V.oks st (by omega) hr)) H
 rw[←List.append_assoc,←hl,List.take_left'];rfl
theorem Vis.same0{σ:Type}(V:Vis σ)(st:σ){k n:Nat}(hk:k≤V.n){s:List AO}{l l1:List (Nat × AV)}(H:FgA V.n l l1):Wk k (aj n l) (V.I st++s) (aj n l1) (V.I st):=by
 refine fX (m:=V.n) (by omega) (dd ?_ (V.len _) (V.ok st)) H
 rw[←V.len st,List.take_left'];rfl
theorem FM{α:Type}{a b:List α}{n:Nat}(h:a.length=n)(i:Nat):(a++b)[n+i]?=b[i]?:=by
 rw[←h,List.getElem?_append_right (by omega)];congr 1;omega
theorem Fb{σ:Type}(V:Vis σ)(step:σ→Ex→σ)(inv:σ→Prop)(B:Nat)(hB:B≤1073741824)
 (hv:∀st e,inv st→e.sz≤B→inv (step st e)∧AC Tryz.prog G V.F (.agg (e.cs.map .p)::V.caps) (V.I st) fun x h=>x= .ret (.tup [])∧h=V.I (step st e)):
 ∀(N:Nat) (e:Ex),e.sz<N→e.sz≤B→∀st,inv st→inv (e.pre.foldl step st)∧AC Tryz.prog G eq [.agg (e.cs.map .p),.fn (.func V.F) V.caps] (V.I st) fun x h=>x= .ret (.tup [])∧h=V.I (e.pre.foldl step st):=by
 intro N
 induction N with
 |zero=>intro e h;omega
 |succ N ih=>
  intro e he hz st hi
  have hec:=e.cs_eq
  have hsz:=e.sz_eq
  have hkl:=bL e.kids
  have hxl:exL e.kids= .lst 4 (e.kids.map Ex.cs):=rfl
  have hlen:=V.len
  obtain⟨i1,h1⟩:=hv st e hi hz
  have hinv:∀i,i≤e.kids.length→inv ((bN (e.kids.take i)).foldl step (step st e)):=by
   intro i
   induction i with
   |zero=>intro _;exact i1
   |succ i ihi=>
    intro hl
    have hg:i<e.kids.length:=by omega
    have hks:=bQ (List.getElem_mem hg)
    rw[al hg,jP,List.foldl_append,bN,bN,List.append_nil]
    exact(ih e.kids[i] (by omega) (by omega) _ (ihi (by omega))).1
  refine⟨?_,?_⟩
  ·rw[Ex.pre_eq,List.foldl_cons]
   have:=hinv e.kids.length (Nat.le_refl _)
   rwa[List.take_length] at this
  refine V.trim G (AC.go pk ?_) (by simp[below])
  have hcb:=V.capsOk
  have hcb1:ah (V.n+1) V.caps:=aN (by omega) _ hcb
  rw[hec] at h1
  simp-implicitDefEqProofs[ky,hec,hlen]
  refine(V.pre G h1 _ ⟨by simp[below],hcb⟩).mono ?_
  rintro r h ⟨rfl,rfl⟩
  simp-implicitDefEqProofs[aa,hlen,hxl]
  refine aJ (fun i:Nat=>aj 20 [(1,.fn (.func V.F) V.caps),(2,.ptr V.n 4 0 0),(10,.p (exL e.kids)),(11,.p (.int .i64 e.kids.length)),(12,.p (.int .i64 i))])
   (fun i=>V.I ((bN (e.kids.take i)).foldl step (step st e))++[.row 4 [[.p (.int .i64 e.op),.p (.int .i64 e.n),.p (.str e.name),.p (exL e.kids)]]]) (fun i=>i≤e.kids.length) (fun i=>e.kids.length-i) 0 (by simp) ?_ ?_
  ·refine V.same (r:=[_]) (s:=[]) _ (Nat.le_refl _) (by simp[okO,below]) ?_
   simp[below,hxl,hcb1]
  intro i hil
  simp-implicitDefEqProofs[hxl]
  refine aS (fun hc=>?_) (fun hc=>?_)
  ·simp at hc
   have hg:=List.getElem?_eq_getElem hc
   have hks:=bQ (List.getElem_mem hc)
   have hkc:=e.kids[i].cs_eq
   have hI:=(ih e.kids[i] (by omega) (by omega) _ (hinv i hil)).2
   rw[hkc] at hI
   simp-implicitDefEqProofs[hg,hkc,hlen]
   refine(V.pre G hI _ ⟨by simp[below],by simp[below,hcb],trivial⟩).mono ?_
   rintro r h ⟨rfl,rfl⟩
   simp-implicitDefEqProofs[aa]
   refine⟨i+1,hc,by omega,?_⟩
   have hf:(bN (e.kids.take (i+1))).foldl step (step st e)=e.kids[i].pre.foldl step ((bN (e.kids.take i)).foldl step (step st e)):=by
    rw[al hc,jP,List.foldl_append,bN,bN,List.append_nil]
   rw[hf]
   refine V.same (r:=[_]) (s:=[_]) _ (Nat.le_refl _) (by simp[okO,below]) ?_
   simp[below,hxl,hcb1,w1 (i:=i) (by omega)]
  ·simp at hc
   have hie:i=e.kids.length:=by omega
   subst hie
   rw[List.take_length,Ex.pre_eq,List.foldl_cons]
   simp-implicitDefEqProofs[]
theorem FC{σ:Type}(V:Vis σ)(step:σ→Sm × Nat→σ)(inv:σ→Prop)(B:Nat)(hB:B≤1073741824)
 (hv:∀st s d,inv st→s.sz≤B→inv (step st (s,d))∧AC Tryz.prog G V.F (.agg (s.cs.map .p):: .p (.int .i64 (d:Nat))::V.caps) (V.I st) fun x h=>x= .ret (.tup [])∧h=V.I (step st (s,d))):
 ∀(N:Nat) (l:List Sm),aq l<N→aq l≤B→∀(d:Nat),d+aq l≤1099511627776→∀st,inv st→inv ((aT d l).foldl step st)∧AC Tryz.prog G dr [.p (smL l),.p (.int .i64 d),.fn (.func V.F) V.caps] (V.I st) fun x h=>x= .ret (.tup [])∧h=V.I ((aT d l).foldl step st):=by
 intro N
 induction N with
 |zero=>intro l h;omega
 |succ N ih=>
  intro l hl hz d hd st hi
  have hll:=cg l
  have hlen:=V.len
  have hsl:∀l,smL l= .lst 5 (l.map Sm.cs):=fun _=>rfl
  have hone:∀s:Sm,s∈l→∀st,inv st→inv ((s.pre d).foldl step st):=by
   intro s hs st hi
   have hm:=eQ hs
   have hsz:=s.sz_eq
   have i1:=(hv st s d hi (by omega)).1
   have i2:=(ih s.body (by omega) (by omega) (d+1) (by omega) _ i1).1
   have i3:=(ih s.els (by omega) (by omega) (d+1) (by omega) _ i2).1
   rw[Sm.pre_eq,List.foldl_cons,List.foldl_append]
   exact i3
  have hinv:∀i,i≤l.length→inv ((aT d (l.take i)).foldl step st):=by
   intro i
   induction i with
   |zero=>intro _;exact hi
   |succ i ihi=>
    intro hl
    have hg:i<l.length:=by omega
    rw[al hg,kG,List.foldl_append,aT,aT,List.append_nil]
    exact hone _ (List.getElem_mem hg) _ (ihi (by omega))
  refine⟨?_,?_⟩
  ·have:=hinv l.length (Nat.le_refl _)
   rwa[List.take_length] at this
  refine V.trim G (AC.go pr ?_) (by simp[below])
  have hcb:=V.capsOk
  simp-implicitDefEqProofs[ko,hsl]
  refine aJ (fun i:Nat=>aj 31 [(1,.p (.int .i64 d)),(2,.fn (.func V.F) V.caps),(8,.p (smL l)),(9,.p (.int .i64 l.length)),(10,.p (.int .i64 i))])
   (fun i=>V.I ((aT d (l.take i)).foldl step st)) (fun i=>i≤l.length) (fun i=>l.length-i) 0 (by simp) ?_ ?_
  ·rw[hlen]
   have:=V.same0 (s:=[]) st (k:=V.n) (n:=31) (Nat.le_refl _) (l:=[(10,.p (.int .i64 0)),(9,.p (.int .i64 l.length)),(8,.p (smL l)),(0,.p (smL l)),(1,.p (.int .i64 d)),(2,.fn (.func V.F) V.caps)]) (l1:=[(1,.p (.int .i64 d)),(2,.fn (.func V.F) V.caps),(8,.p (smL l)),(9,.p (.int .i64 l.length)),(10,.p (.int .i64 0))]) (by simp[below,hcb])
   rw[List.append_nil] at this
   exact this
  intro i hil
  simp-implicitDefEqProofs[hsl]
  refine aS (fun hc=>?_) (fun hc=>?_)
  ·simp at hc
   have hg:=List.getElem?_eq_getElem hc
   have hks:=eQ (List.getElem_mem hc)
   have hkc:=l[i].cs_eq
   have hsz:=l[i].sz_eq
   have hf:(aT d (l.take (i+1))).foldl step st=(l[i].pre d).foldl step ((aT d (l.take i)).foldl step st):=by
    rw[al hc,kG,List.foldl_append,aT,aT,List.append_nil]
   have ii:=hinv i hil
   obtain⟨i1,h1⟩:=hv _ l[i] d ii (by omega)
   obtain⟨i2,h2⟩:=ih l[i].body (by omega) (by omega) (d+1) (by omega) _ i1
   obtain⟨i3,h3⟩:=ih l[i].els (by omega) (by omega) (d+1) (by omega) _ i2
   rw[Sm.pre_eq,List.foldl_cons,List.foldl_append] at hf
   have hwd:IntKind.i64.wrap ((d:Int)+1)=((d+1:Nat):Int):=by rw[ag (by omega) (by omega)];omega
   rw[hkc] at h1
   simp-implicitDefEqProofs[hg,hkc,hlen]
   refine(V.pre G h1 _ ⟨by simp,by simp,hcb⟩).mono ?_
   rintro r h ⟨rfl,rfl⟩
   simp-implicitDefEqProofs[aa,hlen,hwd]
   refine(V.pre G h2 _ ⟨by simp,by simp,by simp[below,hcb],trivial⟩).mono ?_
   rintro r h ⟨rfl,rfl⟩
   simp-implicitDefEqProofs[aa,hlen,hwd]
   refine(V.pre G h3 _ ⟨by simp,by simp,by simp[below,hcb],trivial⟩).mono ?_
   rintro r h ⟨rfl,rfl⟩
   simp-implicitDefEqProofs[aa]
   refine⟨i+1,hc,by omega,?_⟩
   rw[hf]
   refine V.same0 (s:=[_]) _ (Nat.le_refl _) ?_
   simp[below,hsl,hcb,w1 (i:=i) (by omega)]
  ·simp at hc
   have hie:i=l.length:=by omega
   subst hie
   rw[List.take_length]
   simp-implicitDefEqProofs[]
end Go.Proofs.YtnjbhgpbgmpkcaaGreatDoor
namespace Go.Proofs.YtnjbhgpbgmpkcaaGreatDoor
open Go Go.Aw
set_option maxRecDepth 100000
set_option maxHeartbeats 4000000
variable (G:ay)
abbrev MS:=Int × Int
def mP(st:MS)(x:Sm × Nat):MS:=(IntKind.i64.wrap (st.1+1),if st.2<(x.2:Int) then(x.2:Int) else st.2)
def na(l:List Fd)(st:MS):MS:=l.foldl (fun st f=>(aT 1 f.body).foldl mP st) st
theorem rr:∀(l:List (Sm × Nat)) (st:MS),0≤st.1→st.1+l.length≤1099511627776→(l.foldl mP st).1=st.1+l.length
 |[],st,_,_=>by simp
 |x::r,st,h0,h=>by
  have hw:IntKind.i64.wrap (st.1+1)=st.1+1:=ag (by omega) (by simp at h;omega)
  rw[List.foldl_cons,rr r _ (by simp only[mP,hw];omega) (by simp only[mP,hw];simp at h;omega)]
  simp only[mP,hw,List.length_cons]
  omega
theorem sI:∀(l:List Fd) (st:MS),0≤st.1→st.1+jQ l≤1099511627776→(na l st).1=st.1+jQ l
 |[],st,_,_=>by simp[na,jQ]
 |f::r,st,h0,h=>by
  have ha:jQ (f::r)=dA f.body+jQ r:=by simp[jQ]
  have hs:=rr (aT 1 f.body) st h0 (by rw[ir];omega)
  rw[ir] at hs
  have:=sI r ((aT 1 f.body).foldl mP st) (by omega) (by omega)
  simp only[na,List.foldl_cons] at this⊢
  omega
theorem yk{l:List Fd}{st:MS}{i:Nat}(h:i<l.length):na (l.take (i+1)) st=(aT 1 l[i].body).foldl mP (na (l.take i) st):=by
 rw[na,al h,List.foldl_append];rfl
def kW(p:PV):Vis MS where
 I:=fun st=>[.row 1 [[.p p]],.row 1 [[.p (.int .i64 st.1)]],.row 1 [[.p (.int .i64 st.2)]]]
 n:=3
 F:=ed
 caps:=[.ptr 1 1 0 0,.ptr 2 1 0 0]
 len:=fun _=>rfl
 ok:=fun st=>by simp[okO,below]
 capsOk:=by simp[below]
theorem wo(p:PV)(st:MS)(s:Sm)(d:Nat):AC Tryz.prog G ed [.agg (s.cs.map .p),.p (.int .i64 d),.ptr 1 1 0 0,.ptr 2 1 0 0] ((kW p).I st) fun x h=>x= .ret (.tup [])∧h=(kW p).I (mP st (s,d)):=by
 refine(kW p).trim G (AC.go pL ?_) (by simp[below])
 have hse:=s.cs_eq
 simp-implicitDefEqProofs[jW,hse,kW,mP]
theorem Ak(l:List Fd)(hl:aY l≤1073741824):VF Tryz.prog G iA [.agg [.p (fdL l)]] (.tup [.p (.int .i64 (jQ l)),.p (.int .i64 (na l (0,0)).2)]):=by
 refine AC.go tq ?_
 have hll:=cf l
 have hfl:∀l,fdL l= .lst 3 (l.map Fd.cs):=fun _=>rfl
 have hn:(na l (0,0)).1=jQ l:=by rw[sI l (0,0) (by simp) (by simp only;have:=vY l;omega)];simp
 simp-implicitDefEqProofs[lV,hfl]
 refine aJ (fun i:Nat=>aj 20 [(2,.ptr 1 1 0 0),(3,.ptr 2 1 0 0),(7,.p (fdL l)),(8,.p (.int .i64 l.length)),(9,.p (.int .i64 i))])
  (fun i=>(kW (fdL l)).I (na (l.take i) (0,0))) (fun i=>i≤l.length) (fun i=>l.length-i) 0 (by simp) ?_ ?_
 ·exact ab (h:=(kW (fdL l)).I (0,0)) (by simp) ((kW (fdL l)).ok _) (by simp[below,hfl,kW])
 intro i hil
 simp-implicitDefEqProofs[hfl]
 refine aS (fun hc=>?_) (fun hc=>?_)
 ·simp at hc
  have hg:=List.getElem?_eq_getElem hc
  have hks:=dY (List.getElem_mem hc)
  have hcs:l[i].cs=[.str l[i].name,aC l[i].params,smL l[i].body]:=rfl
  have hfz:l[i].sz=1+l[i].name.length+(l[i].params.length+(l[i].params.map List.length).sum)+aq l[i].body:=rfl
  have hI:=(FC G (kW (fdL l)) mP (fun _=>True) 1073741824 (by omega) (fun st s d _ _=>⟨trivial,wo G _ st s d⟩) (aq l[i].body+1) l[i].body (by omega) (by omega) 1 (by omega) (na (l.take i) (0,0)) trivial).2
  have hlen:=(kW (fdL l)).len
  have h3:(kW (.lst 3 (l.map Fd.cs))).n=3:=rfl
  have hlen':∀st,((kW (.lst 3 (l.map Fd.cs))).I st).length=3:=fun _=>rfl
  simp-implicitDefEqProofs[hg,hcs,hlen']
  refine((kW (fdL l)).pre G hI [_] ⟨by simp,by simp,by simp[below,kW],trivial⟩).mono ?_
  rintro r h ⟨rfl,rfl⟩
  simp-implicitDefEqProofs[aa]
  refine⟨i+1,hc,by omega,?_⟩
  rw[yk hc]
  refine(kW (fdL l)).same0 (s:=[_]) _ (by simp[kW]) ?_
  simp[below,hfl,kW,w1 (i:=i) (by omega)]
 ·simp at hc
  have hie:i=l.length:=by omega
  subst hie
  rw[List.take_length]
  simp-implicitDefEqProofs[kW,hn]
theorem qa(hK:G eE=some dV)(s:List UInt8)(hb:s.length≤140737488355328):VF Tryz.prog G br [.p (.str s)] (.p (.bool (!aH s))):=by
 refine AC.go kU ?_
 simp-implicitDefEqProofs[gg]
 refine(lY G hK s hb).use ?_
 simp-implicitDefEqProofs[]
def yd(L:List (List UInt8)):Int:=match L.findIdx? (fun w=> !aH w) with|some i=>i|none=> -1
theorem Ev(L:List (List UInt8)):decide (0≤yd L)= !(L.all aH):=by
 unfold yd
 cases h:L.findIdx? (fun x=> !aH x) with
 |none=>
  rw[List.findIdx?_eq_none_iff] at h
  have:L.all aH=true:=List.all_eq_true.2 fun x hx=>by have:=h x hx;simpa using this
  simp[this]
 |some i=>
  rw[List.findIdx?_eq_some_iff_getElem] at h
  obtain⟨h1,h2,_⟩:=h
  have:L.all aH=false:=List.all_eq_false.2 ⟨_,List.getElem_mem h1,by simpa using h2⟩
  rw[this];simp
theorem Dv{L:List (List UInt8)}{n:Nat}(h:(L.map List.length).sum≤n):∀x∈L,x.length≤n:=by
 induction L with
 |nil=>intro x hx;cases hx
 |cons y r ih=>
  intro x hx
  simp only[List.map_cons,List.sum_cons] at h
  rcases List.mem_cons.1 hx with rfl|hx
  ·omega
  ·exact ih (by omega) x hx
variable (hK:G eE=some dV)
include hK
theorem xT(L:List (List UInt8))(hb:L.length≤1073741824)(hw:∀x∈L,x.length≤140737488355328):VF Tryz.prog G cM [.p (aC L),.fn (.func br) []] (.p (.int .i64 (yd L))):=by
 refine AC.go iX ?_
 have hsl:aC L= .lst 1 (L.map fun w=>[.str w]):=rfl
 simp-implicitDefEqProofs[ew,hsl]
 refine aJ (fun i:Nat=>aj 19 [(0,.p (aC L)),(1,.fn (.func br) []),(6,.p (aC L)),(7,.p (.int .i64 L.length)),(8,.p (.int .i64 i))]) (fun _=>[]) (fun i=>i≤L.length∧∀w∈L.take i,aH w=true) (fun i=>L.length-i) 0 (by simp) ?_ ?_
 ·exact ab (by simp) (by simp[okO]) (by simp[below,ah,aC])
 ·intro i ⟨hi,hn⟩
  simp-implicitDefEqProofs[hsl]
  refine aS (fun h1=>?_) (fun h1=>?_)
  ·simp at h1
   have hg:=List.getElem?_eq_getElem h1
   simp-implicitDefEqProofs[hg]
   refine(qa G hK _ (hw _ (List.getElem_mem h1))).use ?_
   by_cases he:aH L[i]=true
   ·simp-implicitDefEqProofs[he]
    refine⟨i+1,⟨h1,fun p hp=>?_⟩,by omega,ab (by simp) (by simp[okO]) ?_⟩
    ·rw[al h1] at hp
     rcases List.mem_append.1 hp with hp|hp
     ·exact hn p hp
     ·rw[List.mem_singleton.1 hp];exact he
    ·simp[below,ah,aC,w1 (i:=i) (by omega)]
   ·have hf:yd L=i:=by
     have:L.findIdx? (fun w=> !aH w)=some i:=by
      rw[List.findIdx?_eq_some_iff_getElem]
      exact⟨h1,by simpa using he,fun j hj=>by have:=hn L[j] (List.mem_take_iff_getElem.2 ⟨j,by omega,rfl⟩);simpa using this⟩
     rw[yd,this]
    simp-implicitDefEqProofs[he,hf]
  ·simp at h1
   rw[List.take_of_length_le h1] at hn
   have hf:yd L= -1:=by
    have:L.findIdx? (fun w=> !aH w)=none:=by
     rw[List.findIdx?_eq_none_iff];intro x hx;simpa using hn x hx
    rw[yd,this]
   simp-implicitDefEqProofs[hf]
theorem tT(L:List (List UInt8))(hb:L.length≤1073741824)(hw:∀x∈L,x.length≤140737488355328):VF Tryz.prog G bY [.p (aC L),.fn (.func br) []] (.p (.bool (!L.all aH))):=by
 rw[←Ev]
 refine AC.go gT ?_
 simp-implicitDefEqProofs[dE]
 refine(xT G hK L hb hw).use ?_
 simp-implicitDefEqProofs[]
variable (hS:G cJ=some [.tbl opK opV])
include hS
theorem rA(l:List Fd)(hl:aY l≤1073741824):VF Tryz.prog G da [.agg [.p (fdL l)]] (.p (.bool (bt l))):=by
 refine AC.go mz ?_
 have hll:=cf l
 have hfl:∀l,fdL l= .lst 3 (l.map Fd.cs):=fun _=>rfl
 have hm:=Ak G l hl
 rw[hfl] at hm
 simp-implicitDefEqProofs[ic,hfl]
 refine(ka G _ _ _).use ?_
 by_cases h1:inR l.length 1 4=true
 case neg=>simp-implicitDefEqProofs[h1,bt]
 simp-implicitDefEqProofs[h1]
 refine aJ (fun i:Nat=>aj 48 [(1,.ptr 0 1 0 0),(13,.p (fdL l)),(14,.p (.int .i64 l.length)),(15,.p (.int .i64 i))]) (fun _=>[.row 1 [[.p (.lst 3 (l.map Fd.cs))]]]) (fun i=>i≤l.length∧(l.take i).all iW=true) (fun i=>l.length-i) 0 (by simp) (ab (by simp) (by simp[okO]) (by simp[below,hfl])) ?_
 intro i ⟨hi,ha⟩
 simp-implicitDefEqProofs[hfl]
 refine aS (fun h=>?_) (fun h=>?_)
 ·simp at h
  have hg:=List.getElem?_eq_getElem h
  have hks:=dY (List.getElem_mem h)
  have hbadF:iW l[i]=false→bt l=false:=fun hk'=>by simp only[bt,kx h hk',Bool.and_false,Bool.false_and]
  have hcs:l[i].cs=[.str l[i].name,aC l[i].params,smL l[i].body]:=rfl
  have hfz:l[i].sz=1+l[i].name.length+(l[i].params.length+(l[i].params.map List.length).sum)+aq l[i].body:=rfl
  have hokF:iW l[i]=(l[i].params.all aH&&aH l[i].name&&decide (l[i].params.length≤3)&&l[i].body.all (aK 4)):=rfl
  have hblk:=qC G 4 1 (fun s hs=>by simpa using Cl G hK hS 4 (by omega) s hs) l[i].body (by omega)
  have hcon:=tT G hK l[i].params (by omega) (Dv (by omega))
  have hst:aC l[i].params= .lst 1 (l[i].params.map fun w=>[.str w]):=rfl
  generalize l[i]=f at*
  rw[hst] at hcon
  simp-implicitDefEqProofs[hg,hcs,hst]
  refine(lY G hK _ (by omega)).use ?_
  by_cases k1:aH f.name=true
  case neg=>
   rw[hbadF (by rw[hokF];simp[k1])]
   simp-implicitDefEqProofs[k1]
  by_cases k2:f.params.length≤3
  case neg=>
   have k2':(3:Int)<f.params.length:=by omega
   rw[hbadF (by rw[hokF];simp[k2])]
   simp-implicitDefEqProofs[k1,k2']
  have k2':¬(3:Int)<f.params.length:=by omega
  simp-implicitDefEqProofs[k1,k2']
  refine hcon.use ?_
  by_cases k3:f.params.all aH=true
  case neg=>
   have k3':f.params.all aH=false:=by simpa using k3
   rw[hbadF (by rw[hokF,k3'];simp)]
   simp-implicitDefEqProofs[k3']
  simp only[k3]
  simp-implicitDefEqProofs[]
  refine hblk.use ?_
  by_cases k4:f.body.all (aK 4)=true
  case neg=>
   have k4':f.body.all (aK 4)=false:=by simpa using k4
   rw[hbadF (by rw[hokF,k4'];simp)]
   simp only[k4']
   simp-implicitDefEqProofs[]
  simp only[k4]
  simp-implicitDefEqProofs[]
  have hk:iW f=true:=by rw[hokF,k1,k3,k4];simp[k2]
  refine⟨i+1,⟨h,by rw[←List.all_eq_true,lc hg,ha,hk];rfl⟩,by omega,fX (m:=1) (by omega) (dd rfl rfl (by simp[okO,below])) (by simp[below,hfl,w1 (i:=i) (by omega)])⟩
 ·simp at h
  have h2:l.all iW=true:=fT h ha
  simp-implicitDefEqProofs[]
  refine hm.use ?_
  have hff:bt l=decide (jQ l≤40):=by simp only[bt,h1,h2,Bool.true_and]
  simp-implicitDefEqProofs[hff]
  omega
end Go.Proofs.YtnjbhgpbgmpkcaaGreatDoor
namespace Go.Proofs.YtnjbhgpbgmpkcaaGreatDoor
open Go Go.Aw
set_option maxRecDepth 100000
set_option maxHeartbeats 4000000
def ixI:Option Nat→Int|none=> -1|some i=>i
def vaC(nf:Bool)(id n:Nat):AV:=if nf then .nils else .sl id 3 0 n
def lvC(v:LV):List AV:=[.p (.str v.name),.p (.int .i64 v.num),.p (.int .i64 v.block)]
def lvR(vs:List LV):List (List AV):=vs.reverse.map lvC
def roC(nf:Bool)(vs:List LV):AO:=if nf then .dead else .row 3 (lvR vs)
def wC(id:Nat)(nf:Bool)(fns:List Fd)(k:Nat)(w:WS):List AV:=[.p (fdL fns),.p (.int .i64 k),vaC nf id w.vs.length,.p (.int .i64 w.count),.p (.int .i64 w.code)]
def wO(id:Nat)(nf:Bool)(fns:List Fd)(k:Nat)(w:WS):AO:= .row 5 [wC id nf fns k w]
def HWk(nf:Bool)(fns:List Fd)(k:Nat)(w:WS):List AO:=[wO 1 nf fns k w,roC nf w.vs]
theorem qY(vs:List LV):(lvR vs).length=vs.length:=by simp[lvR]
theorem xo(vs:List LV):∀x∈lvR vs,ah 0 x:=by
 intro x hx;obtain⟨m,_,rfl⟩:=List.mem_map.1 hx;simp[lvC,ah,below]
theorem fp(nf:Bool)(vs:List LV)(n:Nat):okO n (roC nf vs):=by
 cases nf
 ·exact bu (fun e he=>xo vs e he)
 ·exact trivial
theorem Ai{nf:Bool}{id n m:Nat}(h:id<m):below m (vaC nf id n):=by cases nf<;>simp[vaC,below,h]
theorem sa{id:Nat}{nf:Bool}{fns:List Fd}{k:Nat}{w:WS}{m:Nat}(h:id<m):ah m (wC id nf fns k w):=⟨by simp,by simp,Ai h,by simp,by simp,trivial⟩
theorem qF{id:Nat}{nf:Bool}{fns:List Fd}{k:Nat}{w:WS}{m:Nat}(h:id<m):okO m (wO id nf fns k w):=by
 intro e he;rw[List.mem_singleton.1 he];exact sa h
theorem EJ(σ:List Nat)(nf:Bool)(id n:Nat):ren σ (vaC nf id n)=vaC nf (σ.getD id 0) n:=by cases nf<;>rfl
theorem vh(σ:List Nat)(id:Nat)(nf:Bool)(fns:List Fd)(k:Nat)(w:WS):bf σ (wC id nf fns k w)=wC (σ.getD id 0) nf fns k w:=by
 simp only[wC,bf,EJ];rfl
theorem zq(σ:List Nat)(id:Nat)(nf:Bool)(fns:List Fd)(k:Nat)(w:WS):fh σ (wO id nf fns k w)=wO (σ.getD id 0) nf fns k w:=by
 simp only[wO,fh,List.map_cons,List.map_nil,vh]
theorem wB(σ:List Nat)(nf:Bool)(vs:List LV):fh σ (roC nf vs)=roC nf vs:=by
 cases nf
 ·show AO.row 3 ((lvR vs).map (bf σ))= .row 3 (lvR vs)
  rw[List.map_congr_left (g:=id) fun x hx=>dg σ x (xo vs x hx)];simp
 ·rfl
theorem yE(pre:List LV)(v:LV)(r:List LV):(lvR (pre++v::r))[r.length]?=some (lvC v):=by
 simp[lvR]
theorem CN(v:LV)(r:List LV):lvR (v::r)=lvR r++[lvC v]:=by simp[lvR]
def qk:List LV→List UInt8→Int
 |[],_=> -1
 |v::r,s=>if v.name=s then r.length else qk r s
theorem pM:∀(vs:List LV) (s:List UInt8),(lkV vs s=none∧qk vs s= -1)∨∃pre v r,vs=pre++v::r∧lkV vs s=some v∧qk vs s=r.length
 |[],s=> .inl ⟨rfl,rfl⟩
 |v::r,s=>by
  by_cases h:v.name=s
  ·exact .inr ⟨[],v,r,rfl,by simp[lkV,h],by simp[qk,h]⟩
  ·have h1:lkV (v::r) s=lkV r s:=by simp[lkV,h]
   have h2:qk (v::r) s=qk r s:=by simp[qk,h]
   rw[h1,h2]
   rcases pM r s with h|⟨pre,u,q,e,h⟩
   ·exact .inl h
   ·exact .inr ⟨v::pre,u,q,by rw[e];rfl,h⟩
def K_spec_l4Walk_put:AK:= .seq (.reg [oJ 6 (.mov (.c (.p (.str []))))]) (.seq (.reg [oM 8 0,oM 9 1,oJ 10 (.call cI [(.t 8),(.t 9)]),oM 7 10]) (.cut (.seq (.reg [oM 11 7,oJ 12 (.bin .geq (.t 11) (.c (.p (.int .i64 0)))),oM 13 12,⟨(some 14),some (13,true),.mov (.t 0)⟩,⟨(some 15),some (13,true),.nilck (.t 14)⟩,⟨(some 16),some (13,true),.fldA 2 (.t 15)⟩,⟨(some 17),some (13,true),.ld none (.t 16)⟩,⟨(some 18),some (13,true),.mov (.t 7)⟩,⟨(some 19),some (13,true),.idxS 3 (.t 17) (.t 18)⟩,⟨(some 20),some (13,true),.fldA 2 (.t 19)⟩,⟨(some 21),some (13,true),.ld none (.t 20)⟩,⟨(some 22),some (13,true),.mov (.t 2)⟩,⟨(some 23),some (13,true),.bin .eql (.t 21) (.t 22)⟩,oJ 24 (.pick (.t 13) (.t 23) (.c (.p (.bool false))))]) (.cond (.t 24) (.reg [oM 25 0,oJ 26 (.call aL [(.t 25),(.c (.p (.int .i64 2)))])]) (.skip))) (.seq (.reg [oM 27 0,oM 28 0,oN 29 28,oF 30 2 29,oM 32 1,oM 33 0,oN 34 33,oF 35 3 34,oM 37 2,oL 31 30,oL 36 35,oJ 38 (.bld [(.p (.str [])),(.p (.int .i64 0)),(.p (.int .i64 0))] [(0,1,(.t 32)),(1,1,(.t 36)),(2,1,(.t 37))]),oJ 39 (.bslP 3 [(.p (.str [])),(.p (.int .i64 0)),(.p (.int .i64 0))] 1 [(0,3,(.t 38))]),oJ 40 (.app 3 32 (.t 31) (.t 39)),oN 41 27,oF 42 2 41,oS 42 40]) (.seq (.reg [oM 43 0,oM 44 0,oN 45 44,oF 46 3 45,oL 47 46,oJ 48 (.bin .add (.t 47) (.c (.p (.int .i64 1)))),oN 49 43,oF 50 3 49,oS 50 48]) (.seq (.reg [oM 51 0,oN 52 51,oF 53 3 52,oL 54 53,oJ 55 (.bin .sub (.t 54) (.c (.p (.int .i64 1)))),oJ 56 (.call eO [(.t 55)]),oM 6 56]) (.ret))))))
theorem oD:K_spec_l4Walk_put.whole=F_spec_l4Walk_put.ak:=rfl
variable (G:ay)
theorem BT(l:List Fd)(s:List UInt8)(hl:l.length≤1099511627776):VF Tryz.prog G fy [.agg [.p (fdL l)],.p (.str s)] (.p (.int .i64 (ixI (ca l s)))):=by
 refine AC.go wF ?_
 have hfl:∀l,fdL l= .lst 3 (l.map Fd.cs):=fun _=>rfl
 simp-implicitDefEqProofs[qr,hfl]
 refine aJ (fun i:Nat=>aj 22 [(1,.p (.str s)),(2,.ptr 0 1 0 0),(5,.p (.int .i64 i))]) (fun _=>[.row 1 [[.p (.lst 3 (l.map Fd.cs))]]]) (fun i=>i≤l.length∧∀f∈l.take i,f.name≠s) (fun i=>l.length-i) 0 (by simp) (ab (by simp) (by simp[okO]) (by simp[below])) ?_
 intro i ⟨hi,hn⟩
 simp-implicitDefEqProofs[]
 refine aS (fun h=>?_) (fun h=>?_)
 ·simp at h
  have hg:=List.getElem?_eq_getElem h
  have hce:l[i].cs=[.str l[i].name,aC l[i].params,smL l[i].body]:=rfl
  by_cases he:l[i].name=s
  ·have hf:ca l s=some i:=by
    rw[ca,List.findIdx?_eq_some_iff_getElem]
    exact⟨h,by simpa using he,fun j hj=>by have:=hn l[j] (List.mem_take_iff_getElem.2 ⟨j,by omega,rfl⟩);simpa using this⟩
   simp-implicitDefEqProofs[hg,hce,he,hf,ixI]
  ·simp-implicitDefEqProofs[hg,hce,he]
   refine⟨i+1,⟨h,fun p hp=>?_⟩,by omega,ab (by simp) (by simp[okO]) (by simp[below,w1 (i:=i) (by omega)])⟩
   rw[al h] at hp
   rcases List.mem_append.1 hp with hp|hp
   ·exact hn p hp
   ·rw[List.mem_singleton.1 hp];exact he
 ·simp at h
  rw[List.take_of_length_le h] at hn
  have hf:ca l s=none:=by
   rw[ca,List.findIdx?_eq_none_iff];intro x hx;simpa using hn x hx
  simp-implicitDefEqProofs[hf,ixI]
theorem HE:∀m:Nat,m<26→((([97,98,99,100,101,102,103,104,105,106,107,108,109,110,111,112,113,114,115,116,117,118,119,120,121,122]:List UInt8).take (m+1)).drop m)=[UInt8.ofNat (97+m)]:=by decide
theorem Fi:∀m:Nat,m<26→List.drop m ((97:UInt8)::List.take m [98,99,100,101,102,103,104,105,106,107,108,109,110,111,112,113,114,115,116,117,118,119,120,121,122])=[97+UInt8.ofNat m]:=by decide
theorem rO(n:Nat):VF Tryz.prog G eO [.p (.int .i64 n)] (.p (.str (vnm n))):=by
 refine AC.go tw ?_
 have hm:n%26<26:=Nat.mod_lt _ (by omega)
 have ht:(n:Int).tmod 26=((n%26:Nat):Int):=rfl
 have hw:IntKind.i64.wrap (((n%26:Nat):Int)+1)=((n%26+1:Nat):Int):=w1 (by omega)
 have habc:=HE _ hm
 rw[vnm]
 generalize n%26=m at hm ht hw habc
 have h0:(0:Int)≤(m:Int)+1:=by omega
 have h1:m+1≤26:=by omega
 simp-implicitDefEqProofs[mW,ht,hw,h0,h1]
 exact⟨by omega,Fi m hm⟩
theorem mu(nf:Bool)(fns:List Fd)(k:Nat)(w:WS)(c:Int):AC Tryz.prog G aL [.ptr 0 5 0 0,.p (.int .i64 c)] (HWk nf fns k w) fun x h=>x= .ret (.tup [])∧h=HWk nf fns k ⟨w.vs,w.count,fl w.code c⟩:=by
 refine AC.go nS ?_
 by_cases h0:w.code=0
 ·simp-implicitDefEqProofs[ft,HWk,wO,wC,h0,fl]
 ·simp-implicitDefEqProofs[ft,HWk,wO,wC,h0,fl]
theorem tl(nf:Bool)(fns:List Fd)(k:Nat)(w:WS):∀o∈HWk nf fns k w,okO 2 o:=by
 intro o ho
 simp only[HWk,List.mem_cons,List.not_mem_nil,or_false] at ho
 rcases ho with rfl|rfl
 ·exact qF (by omega)
 ·exact fp _ _ _
theorem zB(nf:Bool)(fns:List Fd)(k:Nat)(w:WS)(hn:nf=true→w.vs=[])(hl:w.vs.length≤1099511627776)(s:List UInt8):AC Tryz.prog G cI [.ptr 0 5 0 0,.p (.str s)] (HWk nf fns k w) fun x h=>x= .ret (.p (.int .i64 (qk w.vs s)))∧h=HWk nf fns k w:=by
 refine AC.go nu ?_
 have hok:=tl nf fns k w
 cases nf with
 |true=>
  have hv:=hn rfl
  rw[HWk] at hok⊢
  simp-implicitDefEqProofs[fq,wO,wC,vaC,hv]
  refine aJ (fun _:Unit=>aj 27 [(0,.ptr 0 5 0 0),(1,.p (.str s)),(5,.p (.int .i64 (-1)))]) (fun _=>[wO 1 true fns k w,roC true w.vs]) (fun _=>True) (fun _=>0) () trivial ?_ ?_
  ·have e:wO 1 true fns k w= .row 5 [[.p (fdL fns),.p (.int .i64 k),.nils,.p (.int .i64 w.count),.p (.int .i64 w.code)]]:=by simp[wO,wC,vaC]
   rw[←e,←hv]
   exact ab (by simp) hok (by simp[below,ag (x:= -1) (by omega) (by omega)])
  ·intro _ _
   simp-implicitDefEqProofs[qk]
   simp[wO,wC,vaC,hv]
 |false=>
  rw[HWk] at hok⊢
  have e:∀r,roC false r= .row 3 (lvR r):=fun _=>rfl
  have hw0:IntKind.i64.wrap ((w.vs.length:Int)-1)=(w.vs.length:Int)-1:=ag (by omega) (by omega)
  simp-implicitDefEqProofs[fq,wO,wC,vaC,hw0]
  refine aJ (fun r:List LV=>aj 27 [(0,.ptr 0 5 0 0),(1,.p (.str s)),(5,.p (.int .i64 ((r.length:Int)-1)))]) (fun _=>[wO 1 false fns k w,roC false w.vs]) (fun r=>∃pre,w.vs=pre++r∧qk w.vs s=qk r s) (fun r=>r.length) w.vs ⟨[],rfl,rfl⟩ ?_ ?_
  ·exact ab (h:=[wO 1 false fns k w,roC false w.vs]) (by simp) hok (by simp[below])
  ·rintro r ⟨pre,e1,e2⟩
   cases r with
   |nil=>
    simp-implicitDefEqProofs[wO,wC,vaC]
    rw[e2];rfl
   |cons v r=>
    have hat:=yE pre v r
    rw[←e1] at hat
    have hlen:r.length<w.vs.length:=by rw[e1];simp;omega
    have hll:=qY w.vs
    have c1:((r.length+1:Nat):Int)-1=(r.length:Int):=by omega
    have hw1:IntKind.i64.wrap ((r.length:Int)-1)=(r.length:Int)-1:=ag (by omega) (by omega)
    by_cases hs:v.name=s
    ·simp-implicitDefEqProofs[wO,wC,vaC,e,c1,hat,hlen,lvC,hs]
     rw[e2];simp[qk,hs]
    ·simp-implicitDefEqProofs[wO,wC,vaC,e,c1,hat,hlen,lvC,hs]
     refine⟨r,⟨⟨pre++[v],by rw[e1];simp⟩,by rw[e2];simp[qk,hs]⟩,by simp,?_⟩
     refine ab (h:=[wO 1 false fns k w,roC false w.vs]) (by simp) hok ?_
     simp[below,hw1]
theorem DE(nf:Bool)(fns:List Fd)(k:Nat)(w:WS)(hn:nf=true→w.vs=[])(hl:w.vs.length≤1099511627776)(s:List UInt8):AC Tryz.prog G bW [.ptr 0 5 0 0,.p (.str s)] (HWk nf fns k w) fun x h=>x= .ret (.p (.str (tc w.vs s)))∧h=HWk nf fns k ⟨w.vs,w.count,ov w.vs s w.code⟩:=by
 refine AC.go pg ?_
 simp-implicitDefEqProofs[jf]
 refine(zB G nf fns k w hn hl s).mono ?_
 rintro r h ⟨rfl,rfl⟩
 rcases pM w.vs s with⟨e1,e2⟩|⟨pre,v,q,e0,e1,e2⟩
 ·simp-implicitDefEqProofs[aa,e2]
  refine(mu G nf fns k w 3).mono ?_
  rintro r h ⟨rfl,rfl⟩
  simp-implicitDefEqProofs[aa,tc,ov,e1]
 ·have hat:=yE pre v q
  rw[←e0] at hat
  have hlen:q.length<w.vs.length:=by rw[e0];simp;omega
  have hnf:nf=false:=by
   cases nf with
   |false=>rfl
   |true=>rw[hn rfl] at e0;simp at e0
  subst hnf
  have e:∀r,roC false r= .row 3 (lvR r):=fun _=>rfl
  have hq:¬(q.length:Int)<0:=by omega
  simp-implicitDefEqProofs[aa,e2,hq,HWk,wO,wC,vaC,e,hat,hlen,lvC]
  refine(rO G v.num).use ?_
  simp-implicitDefEqProofs[tc,ov,e1]
theorem Eu(nf:Bool)(fns:List Fd)(k:Nat)(w:WS)(hn:nf=true→w.vs=[])(hl:w.vs.length≤1099511627776)(hc:w.count≤1099511627776)(s:List UInt8)(b:Nat):AC Tryz.prog G bV [.ptr 0 5 0 0,.p (.str s),.p (.int .i64 b)] (HWk nf fns k w) fun x h=>x= .ret (.p (.str (vnm w.count)))∧h=[wO 2 false fns k (iY w s b),.dead,roC false (iY w s b).vs]:=by
 refine AC.goK oe oD ?_
 have hw1:IntKind.i64.wrap ((w.count:Int)+1)=(w.count:Int)+1:=ag (by omega) (by omega)
 have hw2:IntKind.i64.wrap ((w.count:Int)+1-1)=(w.count:Int):=by rw[ag (by omega) (by omega)];omega
 have hw3:IntKind.i64.wrap (w.count:Int)=(w.count:Int):=ag (by omega) (by omega)
 have hll:=qY w.vs
 simp-implicitDefEqProofs[K_spec_l4Walk_put,F_spec_l4Walk_put]
 refine(zB G nf fns k w hn hl s).mono ?_
 rintro r h ⟨rfl,rfl⟩
 simp-implicitDefEqProofs[aa]
 refine kD (aj 57 [(0,.ptr 0 5 0 0),(1,.p (.str s)),(2,.p (.int .i64 b))]) (HWk nf fns k ⟨w.vs,w.count,pH w.vs s b w.code⟩) ?_ ?_
 ·rcases pM w.vs s with⟨e1,e2⟩|⟨pre,v,q,e0,e1,e2⟩
  ·simp-implicitDefEqProofs[e2,pH,e1]
   exact ab (by simp[HWk]) (tl nf fns k w) (by simp[below,HWk])
  ·have hat:=yE pre v q
   rw[←e0] at hat
   have hlen:q.length<w.vs.length:=by rw[e0];simp;omega
   have hnf:nf=false:=by
    cases nf with
    |false=>rfl
    |true=>rw[hn rfl] at e0;simp at e0
   subst hnf
   have e:∀r,roC false r= .row 3 (lvR r):=fun _=>rfl
   have hq:(0:Int)≤(q.length:Int):=by omega
   by_cases hb:v.block=b
   ·have:=mu G false fns k w 2
    simp only[HWk,wO,wC,vaC,e] at this
    simp-implicitDefEqProofs[e2,HWk,wO,wC,vaC,e,hat,hlen,lvC,hb]
    refine this.mono ?_
    rintro r h ⟨rfl,rfl⟩
    have hp:pH w.vs s b w.code=fl w.code 2:=by simp[pH,e1,hb]
    rw[hp]
    simp-implicitDefEqProofs[aa]
    refine ab (h:=HWk false fns k ⟨w.vs,w.count,fl w.code 2⟩) ?_ (tl _ _ _ _) ?_
    ·simp[HWk]
    ·simp[below,HWk]
   ·have hp:pH w.vs s b w.code=w.code:=by simp[pH,e1,hb]
    have hbi:¬(v.block:Int)=(b:Int):=by omega
    rw[hp]
    simp-implicitDefEqProofs[e2,HWk,wO,wC,vaC,e,hat,hlen,lvC,hbi]
    refine ab (h:=HWk false fns k w) ?_ (tl _ _ _ _) ?_
    ·simp[HWk]
    ·simp[below,HWk]
 ·cases nf with
  |true=>
   have hv:=hn rfl
   simp-implicitDefEqProofs[HWk,wO,wC,vaC,roC,hv,hw1,hw2,hw3]
   refine(rO G w.count).use ?_
   simp-implicitDefEqProofs[iY,lvR,lvC,hv]
  |false=>
   have e:∀r,roC false r= .row 3 (lvR r):=fun _=>rfl
   simp-implicitDefEqProofs[HWk,wO,wC,vaC,e,hw1,hw2,hw3,hll]
   refine⟨by omega,?_⟩
   refine(rO G w.count).use ?_
   simp-implicitDefEqProofs[iY,CN,lvC]
   rw[List.take_of_length_le (by omega)]
end Go.Proofs.YtnjbhgpbgmpkcaaGreatDoor
namespace Go.Proofs.YtnjbhgpbgmpkcaaGreatDoor
open Go Go.Aw
set_option maxRecDepth 100000
set_option maxHeartbeats 4000000
variable (G:ay)
theorem yx(l:List Fd)(s:List UInt8)(hl:l.length≤1073741824):VF Tryz.prog G fw [.agg [.p (fdL l)],.p (.str s)] (.p (.int .i64 (ixI (ca l s)))):=by
 have hfl:∀l,fdL l= .lst 3 (l.map Fd.cs):=fun _=>rfl
 have cK:∀f:Fd,AC Tryz.prog G eJ [.agg (f.cs.map .p),.ptr 1 1 0 0] [.row 1 [[.p (fdL l)]],.row 1 [[.p (.str s)]]] fun x h=>x= .ret (.p (.bool (decide (f.name=s))))∧h=[.row 1 [[.p (fdL l)]],.row 1 [[.p (.str s)]]]:=by
  intro f
  have hcs:f.cs=[.str f.name,aC f.params,smL f.body]:=rfl
  refine AC.trim (AC.go tz ?_) (by simp[below])
  simp-implicitDefEqProofs[ng,hcs]
 have idx:AC Tryz.prog G cH [.p (fdL l),.fn (.func eJ) [.ptr 1 1 0 0]] [.row 1 [[.p (fdL l)]],.row 1 [[.p (.str s)]]] fun x h=>x= .ret (.p (.int .i64 (ixI (ca l s))))∧h=[.row 1 [[.p (fdL l)]],.row 1 [[.p (.str s)]]]:=by
  refine AC.go iH ?_
  simp-implicitDefEqProofs[dW,hfl]
  refine aJ (fun i:Nat=>aj 19 [(0,.p (fdL l)),(1,.fn (.func eJ) [.ptr 1 1 0 0]),(7,.p (.int .i64 l.length)),(8,.p (.int .i64 i))]) (fun _=>[.row 1 [[.p (fdL l)]],.row 1 [[.p (.str s)]]]) (fun i=>i≤l.length∧∀f∈l.take i,f.name≠s) (fun i=>l.length-i) 0 (by simp) ?_ ?_
  ·exact ab (by simp) (by simp[okO,below]) (by simp[below,ah,hfl])
  ·intro i ⟨hi,hn⟩
   simp-implicitDefEqProofs[hfl]
   refine aS (fun h1=>?_) (fun h1=>?_)
   ·simp at h1
    have hg:=List.getElem?_eq_getElem h1
    simp-implicitDefEqProofs[hg]
    refine(cK l[i]).mono ?_
    rintro r h ⟨rfl,rfl⟩
    by_cases he:l[i].name=s
    ·have hf:ca l s=some i:=by
      rw[ca,List.findIdx?_eq_some_iff_getElem]
      exact⟨h1,by simpa using he,fun j hj=>by have:=hn l[j] (List.mem_take_iff_getElem.2 ⟨j,by omega,rfl⟩);simpa using this⟩
     simp-implicitDefEqProofs[aa,he,hf,ixI]
     exact hfl l
    ·simp-implicitDefEqProofs[aa,he]
     refine⟨i+1,⟨h1,fun p hp=>?_⟩,by omega,ab (h:=[.row 1 [[.p (fdL l)]],.row 1 [[.p (.str s)]]]) (by simp) (by simp[okO,below]) (by simp[below,ah,hfl,w1 (i:=i) (by omega)])⟩
     rw[al h1] at hp
     rcases List.mem_append.1 hp with hp|hp
     ·exact hn p hp
     ·rw[List.mem_singleton.1 hp];exact he
   ·simp at h1
    rw[List.take_of_length_le h1] at hn
    have hf:ca l s=none:=by
     rw[ca,List.findIdx?_eq_none_iff];intro x hx;simpa using hn x hx
    simp-implicitDefEqProofs[hf,ixI]
 refine AC.go xa ?_
 simp-implicitDefEqProofs[qp]
 refine idx.mono ?_
 rintro r h ⟨rfl,rfl⟩
 simp-implicitDefEqProofs[aa]
structure GS where (gap:List AO) (m:Scp)
def mpE(m:Scp):List (PV × AV):=m.map fun x=>(.str x.1,.p (.int .i64 x.2))
def scL:List GS→Nat
 |[]=>0
 |g::up=>scL up+g.gap.length+2
def upV:List GS→AV
 |[]=> .nilp
 |g::up=> .ptr (2+scL up+g.gap.length+1) 2 0 0
def scH:List GS→List AO
 |[]=>[]
 |g::up=>scH up++(g.gap++[.mp (mpE g.m),.row 2 [[.mp (2+scL up+g.gap.length),upV up]]])
theorem jd:∀ch:List GS,(scH ch).length=scL ch
 |[]=>rfl
 |g::up=>by simp only[scH,scL,List.length_append,jd up,List.length_cons,List.length_nil];omega
def cO(fns:List Fd)(k:Nat)(c:Int):AO:= .row 3 [[.p (fdL fns),.p (.int .i64 k),.p (.int .i64 c)]]
def CH(b0:AO)(fns:List Fd)(k:Nat)(c:Int)(ch:List GS):List AO:=b0::cO fns k c::scH ch
theorem gy(b0:AO)(fns:List Fd)(k:Nat)(c:Int)(ch:List GS):(CH b0 fns k c ch).length=2+scL ch:=by
 simp only[CH,List.length_cons,jd];omega
def sb:List GS→Prop
 |[]=>True
 |g::up=>(∀o∈g.gap,okO (2+scL up+g.gap.length) o)∧sb up
theorem im:∀(ch:List GS) {n:Nat},2+scL ch≤n→below n (upV ch)
 |[],_,_=>by simp[upV,below]
 |g::up,n,h=>by simp only[scL] at h;simp only[upV,below];omega
theorem yu:∀(ch:List GS) {n:Nat},sb ch→2+scL ch≤n→∀o∈scH ch,okO n o
 |[],_,_,_,o,ho=>by cases ho
 |g::up,n,⟨h1,h2⟩,hn,o,ho=>by
  simp only[scL] at hn
  rw[scH] at ho
  rcases List.mem_append.1 ho with h|h
  ·exact yu up h2 (by omega) o h
  ·rcases List.mem_append.1 h with h|h
   ·exact oU (by omega) (h1 o h)
   ·simp only[List.mem_cons,List.not_mem_nil,or_false] at h
    rcases h with rfl|rfl
    ·intro e he
     obtain⟨x,_,rfl⟩:=List.mem_map.1 he
     simp[below]
    ·intro e he
     rw[List.mem_singleton.1 he]
     exact⟨by simp only[below];omega,im up (by omega),trivial⟩
theorem wE{b0:AO}{fns:List Fd}{k:Nat}{c:Int}{ch:List GS}(hb:okO 0 b0)(hs:sb ch){n:Nat}(hn:2+scL ch≤n):∀o∈CH b0 fns k c ch,okO n o:=
 ae (bu hb) (ae (by intro e he;rw[List.mem_singleton.1 he];simp[below]) (yu ch hs hn))
theorem oZ(s:List UInt8):∀m:Scp,eu (.str s) (mpE m)=some ((gO m s).map fun n=>AV.p (.int .i64 n))
 |[]=>rfl
 |x::r=>by
  have ih:=oZ s r
  by_cases h:x.1=s
  ·simp[mpE,eu,keq,h,gO]
  ·have h':¬s=x.1:=fun e=>h e.symm
   simp only[mpE,List.map_cons,eu,keq,h',decide_false]
   simp only[mpE] at ih
   rw[ih];simp[gO,h]
theorem sj(s:List UInt8)(n:Nat):∀m:Scp,gP (.str s) (.p (.int .i64 n)) (mpE m)=some (mpE (iv m s n))
 |[]=>rfl
 |x::r=>by
  have ih:=sj s n r
  by_cases h:x.1=s
  ·simp[mpE,gP,keq,h,iv]
  ·have h':¬s=x.1:=fun e=>h e.symm
   simp only[mpE,List.map_cons,gP,keq,h',decide_false]
   simp only[mpE] at ih
   rw[ih];simp[iv,h]
abbrev sco(ch:List GS):List Scp:=ch.map GS.m
theorem CC:∀(pre:List GS) (g:GS) (up:List GS),(scH (pre++g::up))[scL up+g.gap.length]?=some (.mp (mpE g.m))∧(scH (pre++g::up))[scL up+g.gap.length+1]?=some (.row 2 [[.mp (2+scL up+g.gap.length),upV up]])
 |[],g,up=>by
  have hl:(scH up++g.gap).length=scL up+g.gap.length:=by rw[List.length_append,jd]
  have e:scH (g::up)=(scH up++g.gap)++[.mp (mpE g.m),.row 2 [[.mp (2+scL up+g.gap.length),upV up]]]:=by rw[scH,List.append_assoc]
  rw[List.nil_append,e]
  exact⟨by rw[←hl,List.getElem?_append_right (Nat.le_refl _)];simp,by rw[←hl,List.getElem?_append_right (by omega)];simp⟩
 |p::pre,g,up=>by
  obtain⟨h1,h2⟩:=CC pre g up
  have hm1:=(List.getElem?_eq_some_iff.1 h1).1
  have hm2:=(List.getElem?_eq_some_iff.1 h2).1
  rw[List.cons_append,scH]
  exact⟨by rw[List.getElem?_append_left hm1];exact h1,by rw[List.getElem?_append_left hm2];exact h2⟩
theorem xR(ch:List GS):(upV ch).isCell=true:=by cases ch<;>rfl
theorem Al(ch:List GS):(upV ch).cells=[upV ch]:=by cases ch<;>rfl
attribute [simp ↓] xR Al
theorem vO(b0:AO)(fns:List Fd)(k:Nat)(c e:Int)(r:List AO):AC Tryz.prog G aw [.ptr 1 3 0 0,.p (.int .i64 e)] (b0::cO fns k c::r) fun x h=>x= .ret (.tup [])∧h=b0::cO fns k (fl c e)::r:=by
 refine AC.go mB ?_
 by_cases h0:c=0
 ·simp-implicitDefEqProofs[ey,cO,h0,fl]
 ·simp-implicitDefEqProofs[ey,cO,h0,fl]
theorem rm(up:AV)(hu:up= .nilp∨∃i,up= .ptr i 2 0 0)(h:List AO):AC Tryz.prog G bp [up] h fun x h'=>x= .ret (.ptr (h.length+1) 2 0 0)∧h'=h++[.mp [],.row 2 [[.mp h.length,up]]]:=by
 refine AC.go oV ?_
 rcases hu with rfl|⟨i,rfl⟩
 ·simp-implicitDefEqProofs[fM]
 ·simp-implicitDefEqProofs[fM]
theorem El(b0 c0:AO)(ch:List GS)(rest:List AO)(s:List UInt8):AC Tryz.prog G bD [upV ch,.p (.str s)] (b0::c0::(scH ch++rest)) fun x h=>x= .ret (.tup [.p (.int .i64 (((iJ (sco ch) s).getD 0:Nat):Int)),.p (.bool (iJ (sco ch) s).isSome)])∧h=b0::c0::(scH ch++rest):=by
 refine AC.goB pF fun hb=>?_
 simp-implicitDefEqProofs[jq]
 have hHl:(b0::c0::(scH ch++rest)).length=2+scL ch+rest.length:=by simp only[List.length_cons,List.length_append,jd];omega
 refine aJ (fun r:List GS=>aj 25 [(0,upV r),(1,.p (.str s))]) (fun _=>b0::c0::(scH ch++rest)) (fun r=>∃pre,ch=pre++r∧iJ (sco ch) s=iJ (sco r) s) (fun r=>r.length) ch ⟨[],rfl,rfl⟩ ?_ ?_
 ·refine sO (by simp) hb ?_
  rw[hHl]
  exact⟨⟨im ch (by omega),by simp⟩,⟨by simp,by simp⟩,trivial⟩
 rintro r ⟨pre,e1,e2⟩
 cases r with
 |nil=>
  rw[e2]
  simp-implicitDefEqProofs[upV,iJ]
 |cons g up=>
  obtain⟨a1,a2⟩:=CC pre g up
  rw[←e1] at a1 a2
  have b1:=(List.getElem?_eq_some_iff.1 a1).1
  have b2:=(List.getElem?_eq_some_iff.1 a2).1
  have l1:(b0::c0::(scH ch++rest))[2+scL up+g.gap.length]?=some (.mp (mpE g.m)):=by
   rw[show 2+scL up+g.gap.length=(scL up+g.gap.length)+1+1 by omega,List.getElem?_cons_succ,List.getElem?_cons_succ,List.getElem?_append_left b1,a1]
  have l2:(b0::c0::(scH ch++rest))[2+scL up+g.gap.length+1]?=some (.row 2 [[.mp (2+scL up+g.gap.length),upV up]]):=by
   rw[show 2+scL up+g.gap.length+1=(scL up+g.gap.length+1)+1+1 by omega,List.getElem?_cons_succ,List.getElem?_cons_succ,List.getElem?_append_left b2,a2]
  have hmg:=oZ s g.m
  have hle:=jd ch
  rw[e2]
  generalize hH:b0::c0::(scH ch++rest)=H at*
  have hup:upV (g::up)= .ptr (2+scL up+g.gap.length+1) 2 0 0:=rfl
  cases hh:gO g.m s with
  |some n=>
   rw[hh] at hmg
   simp-implicitDefEqProofs[hup,l1,l2,hmg,iJ,hh]
  |none=>
   rw[hh] at hmg
   simp-implicitDefEqProofs[hup,l1,l2,hmg,iJ,hh]
   refine⟨up,⟨⟨pre++[g],by rw[e1];simp⟩,rfl⟩,by simp,?_⟩
   refine sO ?_ hb ?_
   ·rw[hHl,jd];omega
   ·refine⟨⟨im up ?_,?_⟩,⟨by simp,by simp⟩,trivial⟩
    ·rw[hHl]
     have:=congrArg List.length e1
     have h3:=(List.getElem?_eq_some_iff.1 l2).1
     rw[hHl] at h3
     omega
    ·simp
end Go.Proofs.YtnjbhgpbgmpkcaaGreatDoor
namespace Go.Proofs.YtnjbhgpbgmpkcaaGreatDoor
open Go Go.Aw
set_option maxRecDepth 100000
set_option maxHeartbeats 4000000
variable (G:ay)
theorem Gr{f:FuncId}{args:List AV}{h h1:List AO}{v:AV}(H:AC Tryz.prog G f args h fun x h'=>x= .ret v∧∃l,h'=h1++l)(hl:h1.length=h.length)(ho:∀o∈h1,okO h.length o)(hv:below h.length v):
 AC Tryz.prog G f args h fun x h'=>x= .ret v∧h'=h1:=by
 refine H.wk (fun t v h ⟨e,_⟩=>by cases e) ?_
 rintro u h' ⟨e,l,rfl⟩
 cases e
 refine⟨v,h1,rz (n:=h.length) (Nat.le_refl _) (dd ?_ hl ho) ?_,rfl,rfl⟩
 ·rw[←hl,List.take_left'];rfl
 ·simp[Fgt,hv]
theorem Hs{f:FuncId}{args:List AV}{b0:AO}{fns:List Fd}{k:Nat}{c c':Int}{ch ch':List GS}{v:AV}(H:AC Tryz.prog G f args (CH b0 fns k c ch) fun x h=>x= .ret v∧h=CH b0 fns k c' ch')(hb:okO 0 b0)(hs:sb ch)(hl:scL ch'=scL ch)(rest:List AO)(ha:ah (2+scL ch) args):
 AC Tryz.prog G f args (CH b0 fns k c ch++rest) fun x h=>x= .ret v∧h=CH b0 fns k c' ch'++rest:=by
 refine(AC.pre H rest (by rw[gy];exact ha) (by rw[gy];exact wE hb hs (Nat.le_refl _)) ?_).mono ?_
 ·rintro x h ⟨_,rfl⟩;rw[gy,gy,hl]
 ·rintro x h ⟨h1,⟨rfl,rfl⟩,rfl⟩
  exact⟨rfl,rfl⟩
def bxs(ch:List GS)(q:List AV):List AO:=[.row 1 [[.ptr 1 3 0 0]],.row 4 [q],.row 1 [[upV ch]]]
def mC(b0:AO)(fns:List Fd)(k:Nat)(ch:List GS)(q:List PV)(hb:okO 0 b0)(hs:sb ch):Vis Int where
 I:=fun c=>CH b0 fns k c ch++bxs ch (q.map .p)
 n:=2+scL ch+3
 F:=bK
 caps:=[.ptr (2+scL ch+2) 1 0 0,.ptr (2+scL ch) 1 0 0]
 len:=fun c=>by rw[List.length_append,gy];rfl
 ok:=fun c o ho=>by
  rcases List.mem_append.1 ho with h|h
  ·exact wE hb hs (by omega) o h
  ·simp only[bxs,List.mem_cons,List.not_mem_nil,or_false] at h
   rcases h with rfl|rfl|rfl
   ·intro e he;rw[List.mem_singleton.1 he];exact⟨by simp only[below];omega,trivial⟩
   ·intro e he;rw[List.mem_singleton.1 he];exact aN (Nat.zero_le _) _ (by simp)
   ·intro e he;rw[List.mem_singleton.1 he];exact⟨im ch (by omega),trivial⟩
 capsOk:=by simp[below]
def eH(b0:AO)(fns:List Fd)(k:Nat)(ch:List GS)(q:List PV)(e:Ex)(c:Int):List AO:=b0::cO fns k c::(scH ch++(bxs ch (q.map .p)++[.row 4 [[.p (.int .i64 e.op),.p (.int .i64 e.n),.p (.str e.name),.p (exL e.kids)]]]))
section
variable {b0:AO} {fns:List Fd} {k:Nat} {ch:List GS} {q:List PV} {e:Ex} {c:Int}
theorem eH_eq{hb:okO 0 b0}{hs:sb ch}:(mC b0 fns k ch q hb hs).I c++[.row 4 [[.p (.int .i64 e.op),.p (.int .i64 e.n),.p (.str e.name),.p (exL e.kids)]]]=eH b0 fns k ch q e c:=by
 simp[mC,eH,CH]
theorem EG:(eH b0 fns k ch q e c)[1]?=some (.row 3 [[.p (fdL fns),.p (.int .i64 k),.p (.int .i64 c)]]):=rfl
theorem CQ(i:Nat):(eH b0 fns k ch q e c)[2+scL ch+i]?=(bxs ch (q.map .p)++[.row 4 [[.p (.int .i64 e.op),.p (.int .i64 e.n),.p (.str e.name),.p (exL e.kids)]]])[i]?:=by
 rw[eH,show 2+scL ch+i=(scL ch+i)+1+1 by omega,List.getElem?_cons_succ,List.getElem?_cons_succ]
 exact FM (jd ch) i
theorem Ax:(eH b0 fns k ch q e c)[2+scL ch]?=some (.row 1 [[.ptr 1 3 0 0]]):=CQ 0
theorem IZ:(eH b0 fns k ch q e c)[2+scL ch+2]?=some (.row 1 [[upV ch]]):=CQ 2
theorem DZ:(eH b0 fns k ch q e c)[2+scL ch+3]?=some (.row 4 [[.p (.int .i64 e.op),.p (.int .i64 e.n),.p (.str e.name),.p (exL e.kids)]]):=CQ 3
end
theorem Dj{fns:List Fd}{s:List UInt8}{j:Nat}(h:ca fns s=some j):j<fns.length:=by
 rw[ca,List.findIdx?_eq_some_iff_getElem] at h;exact h.1
theorem Dy(b0:AO){fns:List Fd}{k:Nat}(hf:fns.length≤1073741824)(hk:k≤fns.length)(ch:List GS)(q:List PV)(hb:okO 0 b0)(hs:sb ch)(c:Int)(e:Ex)(he:e.sz≤1073741824):
 AC Tryz.prog G bK (.agg (e.cs.map .p)::(mC b0 fns k ch q hb hs).caps) ((mC b0 fns k ch q hb hs).I c) fun x h=>x= .ret (.tup [])∧h=(mC b0 fns k ch q hb hs).I (fm fns k (sco ch) c e):=by
 refine(mC b0 fns k ch q hb hs).trim G (AC.go kV ?_) (by simp[below])
 have hec:=e.cs_eq
 have hlen:((mC b0 fns k ch q hb hs).I c).length=2+scL ch+3:=(mC b0 fns k ch q hb hs).len c
 have hcaps:(mC b0 fns k ch q hb hs).caps=[.ptr (2+scL ch+2) 1 0 0,.ptr (2+scL ch) 1 0 0]:=rfl
 have fin:∀c',(∃l,eH b0 fns k ch q e c'=(mC b0 fns k ch q hb hs).I c'++l):=fun c'=>⟨_,eH_eq.symm⟩
 have hfail:∀n,AC Tryz.prog G aw [.ptr 1 3 0 0,.p (.int .i64 n)] (eH b0 fns k ch q e c) fun x h=>x= .ret (.tup [])∧h=eH b0 fns k ch q e (fl c n):=fun n=>vO G b0 fns k c n _
 have hkl:=bL e.kids
 have hsz:=e.sz_eq
 rw[hcaps]
 simp-implicitDefEqProofs[gi,hec,hlen]
 rw[eH_eq]
 generalize hV:(mC b0 fns k ch q hb hs).I=VI at fin⊢
 by_cases o2:e.op=2
 ·have hfind:AC Tryz.prog G bD [upV ch,.p (.str e.name)] (eH b0 fns k ch q e c) fun x h=>x= .ret (.tup [.p (.int .i64 (((iJ (sco ch) e.name).getD 0:Nat):Int)),.p (.bool (iJ (sco ch) e.name).isSome)])∧h=eH b0 fns k ch q e c:=El G b0 (cO fns k c) ch _ e.name
  simp-implicitDefEqProofs[o2,Ax,IZ,DZ,EG]
  refine hfind.mono ?_
  rintro r h ⟨rfl,rfl⟩
  cases hfs:iJ (sco ch) e.name with
  |some n=>
   have hv:fm fns k (sco ch) c e=c:=by simp[fm,o2,hfs]
   rw[hv]
   simp-implicitDefEqProofs[aa]
   exact fin c
  |none=>
   have hv:fm fns k (sco ch) c e=fl c 3:=by simp[fm,o2,hfs]
   rw[hv]
   simp-implicitDefEqProofs[aa,Ax]
   refine(hfail 3).mono ?_
   rintro r h ⟨rfl,rfl⟩
   simp-implicitDefEqProofs[aa]
   exact fin _
 by_cases o13:e.op=13
 ·have hfl:fdL fns= .lst 3 (fns.map Fd.cs):=rfl
  have hfk:fdL (fns.take k)= .lst 3 ((fns.map Fd.cs).take k):=by rw[←List.map_take];rfl
  have hxl:exL e.kids= .lst 4 (e.kids.map Ex.cs):=rfl
  have hAt:=yx G (fns.take k) e.name (by rw[List.length_take];omega)
  rw[hfk] at hAt
  simp-implicitDefEqProofs[o13,Ax,IZ,DZ,EG,hfl,hk]
  refine hAt.use ?_
  cases hfa:ca (fns.take k) e.name with
  |none=>
   have hv:fm fns k (sco ch) c e=fl c 4:=by simp[fm,o13,hfa]
   rw[hv]
   simp-implicitDefEqProofs[ixI,Ax]
   refine(hfail 4).mono ?_
   rintro r h ⟨rfl,rfl⟩
   simp-implicitDefEqProofs[aa]
   exact fin _
  |some j=>
   have hj:=Dj hfa
   rw[List.length_take] at hj
   have hjl:j<fns.length:=by omega
   have hg:=List.getElem?_eq_getElem hjl
   have hjn:¬(j:Int)<0:=by omega
   have hcs:fns[j].cs=[.str fns[j].name,aC fns[j].params,smL fns[j].body]:=rfl
   have hst:aC fns[j].params= .lst 1 (fns[j].params.map fun w=>[.str w]):=rfl
   have hpn:Am fns j=fns[j].params.length:=by simp[Am,hg]
   by_cases hp:fns[j].params.length=e.kids.length
   ·have hv:fm fns k (sco ch) c e=c:=by simp[fm,o13,hfa,hpn,hp]
    rw[hv]
    simp-implicitDefEqProofs[ixI,Ax,EG,DZ,hjn,hfl,hg,hcs,hst,hxl,hp]
    exact fin _
   ·have hv:fm fns k (sco ch) c e=fl c 5:=by simp[fm,o13,hfa,hpn,hp]
    have hp':¬(fns[j].params.length:Int)=(e.kids.length:Int):=by omega
    rw[hv]
    simp-implicitDefEqProofs[ixI,Ax,EG,DZ,hjn,hfl,hg,hcs,hst,hxl,hp']
    refine(hfail 5).mono ?_
    rintro r h ⟨rfl,rfl⟩
    simp-implicitDefEqProofs[aa]
    exact fin _
 ·have hv:fm fns k (sco ch) c e=c:=by simp[fm,o2,o13]
  rw[hv]
  simp-implicitDefEqProofs[o2,o13,DZ]
  exact fin _
theorem FP(ch:List GS):upV ch= .nilp∨∃i,upV ch= .ptr i 2 0 0:=by
 cases ch with
 |nil=>exact .inl rfl
 |cons g up=>exact .inr ⟨_,rfl⟩
theorem Hb(b0:AO){fns:List Fd}{k:Nat}(hf:fns.length≤1073741824)(hk:k≤fns.length)(ch:List GS)(hb:okO 0 b0)(hs:sb ch)(c:Int)(e:Ex)(he:e.sz≤1073741824):
 AC Tryz.prog G ck [.ptr 1 3 0 0,.agg (e.cs.map .p),upV ch] (CH b0 fns k c ch) fun x h=>x= .ret (.tup [])∧h=CH b0 fns k (e.pre.foldl (fm fns k (sco ch)) c) ch:=by
 refine Gr G (h:=CH b0 fns k c ch) (AC.go mF ?_) (by rw[gy,gy]) (by rw[gy];exact wE hb hs (Nat.le_refl _)) (by simp[below])
 have hec:=e.cs_eq
 have hlen:(CH b0 fns k c ch).length=2+scL ch:=gy _ _ _ _ _
 have hI:=(Fb G (mC b0 fns k ch e.cs hb hs) (fm fns k (sco ch)) (fun _=>True) 1073741824 (by omega) (fun st x _ hx=>⟨trivial,Dy G b0 hf hk ch e.cs hb hs st x hx⟩) (e.sz+1) e (by omega) he c trivial).2
 have hcaps:(mC b0 fns k ch e.cs hb hs).caps=[.ptr (2+scL ch+2) 1 0 0,.ptr (2+scL ch) 1 0 0]:=rfl
 have hF:(mC b0 fns k ch e.cs hb hs).F=bK:=rfl
 have hVI:(mC b0 fns k ch e.cs hb hs).I c=CH b0 fns k c ch++[.row 1 [[.ptr 1 3 0 0]],.row 4 [[.p (.int .i64 e.op),.p (.int .i64 e.n),.p (.str e.name),.p (exL e.kids)]],.row 1 [[upV ch]]]:=by simp[mC,bxs,hec]
 rw[hcaps,hF,hVI,hec] at hI
 have hup:=FP ch
 generalize upV ch=u at hI hup⊢
 rcases hup with rfl|⟨i,rfl⟩
 ·simp-implicitDefEqProofs[eB,hec,hlen]
  refine hI.mono ?_
  rintro r h ⟨rfl,rfl⟩
  simp-implicitDefEqProofs[aa]
  exact⟨_,rfl⟩
 ·simp-implicitDefEqProofs[eB,hec,hlen]
  refine hI.mono ?_
  rintro r h ⟨rfl,rfl⟩
  simp-implicitDefEqProofs[aa]
  exact⟨_,rfl⟩
end Go.Proofs.YtnjbhgpbgmpkcaaGreatDoor
namespace Go.Proofs.YtnjbhgpbgmpkcaaGreatDoor
open Go Go.Aw
set_option maxRecDepth 100000
set_option maxHeartbeats 4000000
def K_impl_checker_block:AK:= .seq (.reg [oM 14 1,oJ 15 (.len false (.t 14)),oK 16 0]) (.blk 0 (.loop (.seq (.reg [oJ 17 (.bin .lss (.t 16) (.t 15))]) (.seq (.cond (.t 17) (.skip) (.exit 0)) (.seq (.blk 1 (.seq (.reg [oJ 18 (.idxS 5 (.t 14) (.t 16)),oJ 19 (.ld (some 5) (.t 18)),oJ 7 (.alloc [(.p (.int .i64 0)),(.p (.str [])),.nils,.nils,.nils]),⟨none,none,.st 5 (.t 7) (.t 19)⟩]) (.seq (.seq (.reg [oF 20 2 7,oL 21 20,oJ 22 (.len false (.t 21)),oK 23 0]) (.blk 2 (.loop (.seq (.reg [oJ 24 (.bin .lss (.t 23) (.t 22))]) (.seq (.cond (.t 24) (.skip) (.exit 2)) (.seq (.blk 3 (.seq (.reg [oJ 25 (.idxS 4 (.t 21) (.t 23)),oJ 26 (.ld (some 4) (.t 25)),oJ 9 (.alloc [(.p (.int .i64 0)),(.p (.int .i64 0)),(.p (.str [])),.nils]),⟨none,none,.st 4 (.t 9) (.t 26)⟩]) (.reg [oM 27 0,oJ 28 (.ld (some 4) (.t 9)),oM 29 2,oJ 30 (.call ck [(.t 27),(.t 28),(.t 29)])]))) (.reg [oJ 31 (.bin .add (.t 23) (.c (.p (.int .i64 1)))),oM 23 31]))))))) (.cut (.seq (.reg [oF 32 0 7,oL 33 32]) (.blk 4 (.seq (.reg [oJ 35 (.bin .eql (.t 33) (.c (.p (.int .i64 1)))),oM 34 35]) (.cond (.t 34) (.seq (.seq (.reg [oM 37 2,oN 38 37,oF 39 0 38,oF 41 1 7,oL 40 39,oL 42 41,oJ 43 (.lk 1 (.p (.int .i64 0)) true (.t 40) (.t 42)),oM 36 43,oJ 44 (.ext 0 (.t 36)),oJ 45 (.ext 1 (.t 36)),oM 10 44,oM 11 45]) (.seq (.reg [oM 46 11]) (.cond (.t 46) (.reg [oM 47 0,oJ 48 (.call aw [(.t 47),(.c (.p (.int .i64 2)))])]) (.skip)))) (.reg [oM 49 2,oN 50 49,oF 51 0 50,oF 53 1 7,oL 52 51,oL 54 53,⟨none,none,.mup 1 (.t 52) (.t 54) (.c (.p (.int .i64 0)))⟩])) (.seq (.reg [oJ 56 (.bin .eql (.t 33) (.c (.p (.int .i64 2)))),oM 55 56]) (.cond (.t 55) (.seq (.reg [oM 58 2,oF 59 1 7,oL 60 59,oJ 61 (.call bD [(.t 58),(.t 60)]),oM 57 61,oJ 62 (.ext 0 (.t 57)),oJ 63 (.ext 1 (.t 57)),oM 12 62,oM 13 63]) (.seq (.reg [oM 64 13,oJ 65 (.not (.t 64))]) (.cond (.t 65) (.reg [oM 66 0,oJ 67 (.call aw [(.t 66),(.c (.p (.int .i64 3)))])]) (.skip)))) (.skip))))))) (.seq (.reg [oF 68 0 7,oL 69 68,oJ 70 (.bin .eql (.t 69) (.c (.p (.int .i64 5)))),oM 71 70,⟨(some 72),some (71,false),.fldA 0 (.t 7)⟩,⟨(some 73),some (71,false),.ld none (.t 72)⟩,⟨(some 74),some (71,false),.bin .eql (.t 73) (.c (.p (.int .i64 6)))⟩,oJ 75 (.pick (.t 71) (.c (.p (.bool true))) (.t 74))]) (.cond (.t 75) (.seq (.reg [oM 76 0,oF 77 3 7,oM 79 2,oL 78 77,oJ 80 (.call bp [(.t 79)]),⟨none,none,.chk none 77 78⟩,oJ 81 (.call aP [(.t 76),(.t 78),(.t 80)])]) (.reg [oM 82 0,oF 83 4 7,oM 85 2,oL 84 83,oJ 86 (.call bp [(.t 85)]),⟨none,none,.chk none 83 84⟩,oJ 87 (.call aP [(.t 82),(.t 84),(.t 86)])])) (.skip))))))) (.reg [oJ 88 (.bin .add (.t 16) (.c (.p (.int .i64 1)))),oM 16 88]))))))
theorem lM:K_impl_checker_block.whole=F_impl_checker_block.ak:=rfl
theorem we(fns:List Fd)(k:Nat):∀(a b:List Sm) (m:Scp) (up:List Scp) (c:Int),ga fns k (a++b) m up c=ga fns k b (ga fns k a m up c).1 up (ga fns k a m up c).2
 |[],b,m,up,c=>rfl
 |s::r,b,m,up,c=>by rw[List.cons_append,ga,ga,we fns k r]
theorem Be{fns:List Fd}{k:Nat}{l:List Sm}{m:Scp}{up:List Scp}{c:Int}{i:Nat}(h:i<l.length):ga fns k (l.take (i+1)) m up c=icS fns k l[i] (ga fns k (l.take i) m up c).1 up (ga fns k (l.take i) m up c).2:=by
 rw[al h,we];rfl
def AX(b0:AO)(fns:List Fd)(k:Nat)(up:List GS)(gap:List AO)(c:Int):List AO:=b0::cO fns k c::(scH up++gap)
theorem GD(b0:AO)(fns:List Fd)(k:Nat)(up:List GS)(gap:List AO)(c:Int):(AX b0 fns k up gap c).length=2+scL up+gap.length:=by
 simp only[AX,List.length_cons,List.length_append,jd];omega
theorem BN(b0:AO)(fns:List Fd)(k:Nat)(up:List GS)(gap:List AO)(m:Scp)(c:Int)(rest:List AO):CH b0 fns k c (⟨gap,m⟩::up)++rest=AX b0 fns k up gap c++(.mp (mpE m):: .row 2 [[.mp (2+scL up+gap.length),upV up]]::rest):=by
 simp[CH,AX,scH]
theorem Cv(b0:AO)(fns:List Fd)(k:Nat)(up:List GS)(gap:List AO)(m:Scp)(c:Int):CH b0 fns k c (⟨gap,m⟩::up)=AX b0 fns k up gap c++[.mp (mpE m),.row 2 [[.mp (2+scL up+gap.length),upV up]]]:=by
 have:=BN b0 fns k up gap m c []
 rwa[List.append_nil] at this
theorem Jl{b0:AO}{fns:List Fd}{k:Nat}{up:List GS}{gap:List AO}(hb:okO 0 b0)(hs:sb up)(hg:∀o∈gap,okO (2+scL up+gap.length) o)(c:Int):∀o∈AX b0 fns k up gap c,okO (2+scL up+gap.length) o:=by
 refine ae (bu hb) (ae (by intro e he;rw[List.mem_singleton.1 he];simp[below]) ?_)
 intro o ho
 rcases List.mem_append.1 ho with h|h
 ·exact yu up hs (by omega) o h
 ·exact hg o h
theorem rb{kk L n:Nat}{A r s:List AO}{l l1:List (Nat × AV)}(hl:A.length=L)(hk:kk≤L+r.length)(ha:∀o∈A,okO L o)(hr:∀o∈r,okO (L+r.length) o)(H:FgA (L+r.length) l l1):Wk kk (aj n l) (A++(r++s)) (aj n l1) (A++r):=by
 have hll:(A++r).length=L+r.length:=by rw[List.length_append,hl]
 refine fX (m:=L+r.length) hk (dd ?_ hll ?_) H
 ·rw[←List.append_assoc,←hll,List.take_left'];rfl
 ·intro o ho
  rcases List.mem_append.1 ho with h|h
  ·exact oU (by omega) (ha o h)
  ·exact hr o h
theorem xi(m:Scp)(n:Nat):okO n (.mp (mpE m)):=by
 intro e he
 obtain⟨x,_,rfl⟩:=List.mem_map.1 he
 simp[below]
variable (G:ay)
theorem FQ(b0:AO){fns:List Fd}{k:Nat}(hf:fns.length≤1073741824)(hk:k≤fns.length)(hb:okO 0 b0):∀(N:Nat) (l:List Sm),aq l<N→aq l≤1073741824→∀(gap:List AO) (m:Scp) (up:List GS) (c:Int),sb (⟨gap,m⟩::up)→
 AC Tryz.prog G aP [.ptr 1 3 0 0,.p (smL l),upV (⟨gap,m⟩::up)] (CH b0 fns k c (⟨gap,m⟩::up)) fun x h=>x= .ret (.tup [])∧h=CH b0 fns k (ga fns k l m (sco up) c).2 (⟨gap,(ga fns k l m (sco up) c).1⟩::up):=by
 intro N
 induction N with
 |zero=>intro l h;omega
 |succ N ih=>
  intro l hl hz gap m up c hs
  have hll:=cg l
  have hsl:∀l,smL l= .lst 5 (l.map Sm.cs):=fun _=>rfl
  have hs':∀m,sb (⟨gap,m⟩::up):=fun _=>hs
  have hscl:∀m,scL (⟨gap,m⟩::up)=scL up+gap.length+2:=fun _=>rfl
  refine Gr G (AC.goK lp lM ?_) (by rw[gy,gy];rfl) (by rw[gy];exact wE hb (hs' _) (by rw[hscl];exact Nat.le_of_eq (by rfl))) (by simp[below])
  have hup:upV (⟨gap,m⟩::up)= .ptr (2+scL up+gap.length+1) 2 0 0:=rfl
  have hlenC:∀c m,(CH b0 fns k c (⟨gap,m⟩::up)).length=2+scL up+gap.length+2:=fun c m=>by rw[gy,hscl];omega
  have hokC:∀c m,∀o∈CH b0 fns k c (⟨gap,m⟩::up),okO (2+scL up+gap.length+2) o:=fun c m=>wE hb (hs' m) (by rw[hscl];omega)
  have hlenA:∀c,(AX b0 fns k up gap c).length=2+scL up+gap.length:=GD b0 fns k up gap
  simp-implicitDefEqProofs[K_impl_checker_block,F_impl_checker_block,hsl,hup]
  refine aJ (fun i:Nat=>aj 89 [(0,.ptr 1 3 0 0),(2,.ptr (2+scL up+gap.length+1) 2 0 0),(14,.p (smL l)),(15,.p (.int .i64 l.length)),(16,.p (.int .i64 i))])
   (fun i=>CH b0 fns k (ga fns k (l.take i) m (sco up) c).2 (⟨gap,(ga fns k (l.take i) m (sco up) c).1⟩::up)) (fun i=>i≤l.length) (fun i=>l.length-i) 0 (by simp) ?_ ?_
  ·refine ab (h:=CH b0 fns k c (⟨gap,m⟩::up)) (Nat.le_refl _) (by rw[hlenC];exact hokC _ _) ?_
   rw[hlenC]
   simp[below,hsl]
  intro i hi
  have eT:=fun h=>Be (fns:=fns) (k:=k) (l:=l) (m:=m) (up:=sco up) (c:=c) (i:=i) h
  rw[hlenC]
  generalize hst:ga fns k (l.take i) m (sco up) c=st at eT⊢
  obtain⟨mi,ci⟩:=st
  simp only at eT⊢
  simp-implicitDefEqProofs[hsl]
  refine aS (fun h=>?_) (fun h=>?_)
  ·simp at h
   have hg:=List.getElem?_eq_getElem h
   have hse:=l[i].cs_eq
   have hsz:=l[i].sz_eq
   have hks:=eQ (List.getElem_mem h)
   have eT:=eT h
   generalize l[i]=s at hg hse hsz hks eT
   obtain⟨o,nme,a,bd,el⟩:=s
   simp only[Sm.op,Sm.name,Sm.args,Sm.body,Sm.els] at hse hsz
   have hxl:exL a= .lst 4 (a.map Ex.cs):=rfl
   have hal:=bL a
   simp-implicitDefEqProofs[hg,hse,hlenC,hxl]
   have hexpr:∀(c:Int) (e:Ex) (rest:List AO),e.sz≤1073741824→AC Tryz.prog G ck [.ptr 1 3 0 0,.agg (e.cs.map .p),.ptr (2+scL up+gap.length+1) 2 0 0] (AX b0 fns k up gap c++(.mp (mpE mi):: .row 2 [[.mp (2+scL up+gap.length),upV up]]::rest)) fun x h=>x= .ret (.tup [])∧h=AX b0 fns k up gap (e.pre.foldl (fm fns k (mi::sco up)) c)++(.mp (mpE mi):: .row 2 [[.mp (2+scL up+gap.length),upV up]]::rest):=by
    intro c e rest he
    have:=Hs G (Hb G b0 hf hk (⟨gap,mi⟩::up) hb (hs' mi) c e he) hb (hs' mi) rfl rest (by refine⟨by simp only[below];omega,by simp,im _ (Nat.le_refl _),trivial⟩)
    simp only[BN] at this
    exact this
   have hfail:∀(c e:Int) (t:List AO),AC Tryz.prog G aw [.ptr 1 3 0 0,.p (.int .i64 e)] (AX b0 fns k up gap c++t) fun x h=>x= .ret (.tup [])∧h=AX b0 fns k up gap (fl c e)++t:=fun c e t=>vO G b0 fns k c e _
   have hfind:∀(c:Int) (m:Scp) (s:List UInt8) (rest:List AO),AC Tryz.prog G bD [.ptr (2+scL up+gap.length+1) 2 0 0,.p (.str s)] (AX b0 fns k up gap c++(.mp (mpE m):: .row 2 [[.mp (2+scL up+gap.length),upV up]]::rest)) fun x h=>x= .ret (.tup [.p (.int .i64 (((iJ (m::sco up) s).getD 0:Nat):Int)),.p (.bool (iJ (m::sco up) s).isSome)])∧h=AX b0 fns k up gap c++(.mp (mpE m):: .row 2 [[.mp (2+scL up+gap.length),upV up]]::rest):=by
    intro c m s rest
    have:=El G b0 (cO fns k c) (⟨gap,m⟩::up) rest s
    have e:b0::cO fns k c::(scH (⟨gap,m⟩::up)++rest)=CH b0 fns k c (⟨gap,m⟩::up)++rest:=rfl
    rw[e,BN] at this
    exact this
   have hblk:∀(c:Int) (m2:Scp) (l':List Sm) (gap2:List AO),aq l'<N→aq l'≤1073741824→(∀o∈gap2,okO (2+scL up+gap.length+2+gap2.length) o)→
    AC Tryz.prog G aP [.ptr 1 3 0 0,.p (smL l'),.ptr (2+scL up+gap.length+2+gap2.length+1) 2 0 0] (AX b0 fns k up gap c++(.mp (mpE m2):: .row 2 [[.mp (2+scL up+gap.length),upV up]]::(gap2++[.mp [],.row 2 [[.mp (2+scL up+gap.length+2+gap2.length),.ptr (2+scL up+gap.length+1) 2 0 0]]])))
     fun x h=>x= .ret (.tup [])∧∃m',h=AX b0 fns k up gap (ga fns k l' [] (m2::sco up) c).2++(.mp (mpE m2):: .row 2 [[.mp (2+scL up+gap.length),upV up]]::(gap2++[.mp (mpE m'),.row 2 [[.mp (2+scL up+gap.length+2+gap2.length),.ptr (2+scL up+gap.length+1) 2 0 0]]])):=by
    intro c m2 l' gap2 h1 h2 h3
    have e1:2+scL (⟨gap,m2⟩::up)+gap2.length=2+scL up+gap.length+2+gap2.length:=by rw[hscl];omega
    have e2:∀c m',CH b0 fns k c (⟨gap2,m'⟩::⟨gap,m2⟩::up)=AX b0 fns k up gap c++(.mp (mpE m2):: .row 2 [[.mp (2+scL up+gap.length),upV up]]::(gap2++[.mp (mpE m'),.row 2 [[.mp (2+scL up+gap.length+2+gap2.length),.ptr (2+scL up+gap.length+1) 2 0 0]]])):=by
     intro c m'
     rw[←e1]
     simp[CH,AX,scH,upV]
    have:=ih l' h1 h2 gap2 [] (⟨gap,m2⟩::up) c ⟨by rw[e1];exact h3,hs' m2⟩
    rw[show upV (⟨gap2,[]⟩::⟨gap,m2⟩::up)= .ptr (2+scL up+gap.length+2+gap2.length+1) 2 0 0 by rw[←e1];rfl] at this
    rw[e2] at this
    refine this.mono ?_
    rintro x h ⟨hx,hh⟩
    exact⟨hx,(ga fns k l' [] (sco (⟨gap,m2⟩::up)) c).1,by rw[hh,e2];rfl⟩
   rw[Cv b0 fns k up gap mi ci,List.append_assoc]
   simp only[List.cons_append,List.nil_append]
   have hokA:=Jl (fns:=fns) (k:=k) hb hs.2 hs.1
   generalize hL:2+scL up+gap.length=L at hexpr hfind hblk hlenA hlenC hokC hokA⊢
   have hR:okO (L+2) (.row 2 [[.mp L,upV up]]):=by
    intro e he;rw[List.mem_singleton.1 he]
    exact⟨by simp only[below];omega,im up (by omega),trivial⟩
   have hX:okO 0 (.row 5 [[AV.p (.int .i64 o),.p (.str nme),.p (.lst 4 (a.map Ex.cs)),.p (smL bd),.p (smL el)]]):=by simp[okO]
   have ok3:∀(m:Scp),∀x∈[AO.mp (mpE m),.row 2 [[.mp L,upV up]],.row 5 [[AV.p (.int .i64 o),.p (.str nme),.p (.lst 4 (a.map Ex.cs)),.p (smL bd),.p (smL el)]]],okO (L+3) x:=fun m=>
    ae (xi _ _) (ae (oU (by omega) hR) (ae (bu hX) bv))
   refine aJ (fun j:Nat=>aj 89 [(0,.ptr 1 3 0 0),(2,.ptr (L+1) 2 0 0),(7,.ptr (L+2) 5 0 0),(14,.p (smL l)),(15,.p (.int .i64 l.length)),(16,.p (.int .i64 i)),(21,.p (exL a)),(22,.p (.int .i64 a.length)),(23,.p (.int .i64 j))])
    (fun j=>AX b0 fns k up gap ((bN (a.take j)).foldl (fm fns k (mi::sco up)) ci)++[.mp (mpE mi),.row 2 [[.mp L,upV up]],.row 5 [[AV.p (.int .i64 o),.p (.str nme),.p (.lst 4 (a.map Ex.cs)),.p (smL bd),.p (smL el)]]])
    (fun j=>j≤a.length) (fun j=>a.length-j) 0 (by simp) ?_ ?_
   ·refine rb (s:=[]) (hlenA _) (by simp) (hokA _) (ok3 _) ?_
    simp[below,hsl,hxl]
   intro j hj
   simp-implicitDefEqProofs[hxl]
   refine aS (fun hc=>?_) (fun hc=>?_)
   ·simp at hc
    have hga:=List.getElem?_eq_getElem hc
    have hka:=bQ (List.getElem_mem hc)
    have hkc:=a[j].cs_eq
    have hE:=hexpr ((bN (a.take j)).foldl (fm fns k (mi::sco up)) ci) a[j] [.row 5 [[AV.p (.int .i64 o),.p (.str nme),.p (.lst 4 (a.map Ex.cs)),.p (smL bd),.p (smL el)]],.row 4 [[.p (.int .i64 a[j].op),.p (.int .i64 a[j].n),.p (.str a[j].name),.p (exL a[j].kids)]]] (by omega)
    rw[hkc] at hE
    simp-implicitDefEqProofs[hga,hkc,hlenA]
    refine hE.mono ?_
    rintro r h ⟨rfl,rfl⟩
    simp-implicitDefEqProofs[aa]
    refine⟨j+1,hc,by omega,?_⟩
    have hf2:(bN (a.take (j+1))).foldl (fm fns k (mi::sco up)) ci=a[j].pre.foldl (fm fns k (mi::sco up)) ((bN (a.take j)).foldl (fm fns k (mi::sco up)) ci):=by
     rw[al hc,jP,List.foldl_append,bN,bN,List.append_nil]
    rw[hf2]
    refine rb (r:=[_,_,_]) (s:=[_]) (hlenA _) (by simp) (hokA _) (ok3 _) ?_
    simp[below,hsl,hxl,w1 (i:=j) (by omega)]
   simp at hc
   have hje:j=a.length:=by omega
   subst hje
   rw[List.take_length]
   have hic:icS fns k ⟨o,nme,a,bd,el⟩ mi (sco up) ci=(opS o nme mi 0,if o=5∨o=6 then(ga fns k el [] (opS o nme mi 0::sco up) (ga fns k bd [] (opS o nme mi 0::sco up) (opC o nme mi (sco up) (yU fns k (mi::sco up) a ci))).2).2 else opC o nme mi (sco up) (yU fns k (mi::sco up) a ci)):=rfl
   rw[hic] at eT
   clear hic
   rw[show(bN a).foldl (fm fns k (mi::sco up)) ci=yU fns k (mi::sco up) a ci from rfl]
   generalize yU fns k (mi::sco up) a ci=c1 at eT⊢
   simp-implicitDefEqProofs[]
   refine kD (aj 89 [(0,.ptr 1 3 0 0),(2,.ptr (L+1) 2 0 0),(7,.ptr (L+2) 5 0 0),(14,.p (smL l)),(15,.p (.int .i64 l.length)),(16,.p (.int .i64 i))])
    (AX b0 fns k up gap (opC o nme mi (sco up) c1)++[.mp (mpE (opS o nme mi 0)),.row 2 [[.mp L,upV up]],.row 5 [[AV.p (.int .i64 o),.p (.str nme),.p (.lst 4 (a.map Ex.cs)),.p (smL bd),.p (smL el)]]]) ?_ ?_
   ·have fin:∀(r1:List (Nat × AV)) (c2:Int) (m2:Scp),Aw.look r1 0= .ptr 1 3 0 0→Aw.look r1 2= .ptr (L+1) 2 0 0→Aw.look r1 7= .ptr (L+2) 5 0 0→Aw.look r1 14= .p (smL l)→Aw.look r1 15= .p (.int .i64 l.length)→Aw.look r1 16= .p (.int .i64 i)→
     Wk (L+2) (aj 89 r1) (AX b0 fns k up gap c2++[.mp (mpE m2),.row 2 [[.mp L,upV up]],.row 5 [[AV.p (.int .i64 o),.p (.str nme),.p (.lst 4 (a.map Ex.cs)),.p (smL bd),.p (smL el)]]])
      (aj 89 [(0,.ptr 1 3 0 0),(2,.ptr (L+1) 2 0 0),(7,.ptr (L+2) 5 0 0),(14,.p (smL l)),(15,.p (.int .i64 l.length)),(16,.p (.int .i64 i))])
      (AX b0 fns k up gap c2++[.mp (mpE m2),.row 2 [[.mp L,upV up]],.row 5 [[AV.p (.int .i64 o),.p (.str nme),.p (.lst 4 (a.map Ex.cs)),.p (smL bd),.p (smL el)]]]):=by
     intro r1 c2 m2 e0 e2 e7 e14 e15 e16
     refine rb (s:=[]) (hlenA _) (by simp) (hokA _) (ok3 _) ?_
     simp[below,e0,e2,e7,e14,e15,e16]
    by_cases o1:o=1
    ·have hmg:=oZ nme mi
     have hms:gP (.str nme) (.p (.int .i64 0)) (mpE mi)=some (mpE (iv mi nme 0)):=by simpa using sj nme 0 mi
     have e2:opS o nme mi 0=iv mi nme 0:=if_pos o1
     rw[e2]
     cases hh:gO mi nme with
     |none=>
      have e1:opC o nme mi (sco up) c1=c1:=by rw[opC,if_pos o1,hh];rfl
      rw[hh] at hmg
      rw[e1]
      subst o1
      simp-implicitDefEqProofs[hlenA,hmg,hms]
      exact fin _ _ _ (by simp) (by simp) (by simp) (by simp[hsl]) (by simp) (by simp)
     |some n=>
      have e1:opC o nme mi (sco up) c1=fl c1 2:=by rw[opC,if_pos o1,hh];rfl
      rw[hh] at hmg
      rw[e1]
      subst o1
      simp-implicitDefEqProofs[hlenA,hmg,hms]
      refine(hfail c1 2 _).mono ?_
      rintro r h ⟨rfl,rfl⟩
      simp-implicitDefEqProofs[aa,hlenA,hms]
      exact fin _ _ _ (by simp) (by simp) (by simp) (by simp[hsl]) (by simp) (by simp)
    have e2:opS o nme mi 0=mi:=if_neg o1
    rw[e2]
    by_cases o2:o=2
    ·cases hh:iJ (mi::sco up) nme with
     |none=>
      have e1:opC o nme mi (sco up) c1=fl c1 3:=by rw[opC,if_neg o1,if_pos o2,hh];rfl
      rw[e1]
      subst o2
      have hF:=hfind c1 mi nme [.row 5 [[AV.p (.int .i64 2),.p (.str nme),.p (.lst 4 (a.map Ex.cs)),.p (smL bd),.p (smL el)]]]
      rw[hh] at hF
      simp-implicitDefEqProofs[hlenA]
      refine hF.mono ?_
      rintro r h ⟨rfl,rfl⟩
      simp-implicitDefEqProofs[aa]
      refine(hfail c1 3 _).mono ?_
      rintro r h ⟨rfl,rfl⟩
      simp-implicitDefEqProofs[aa]
      exact fin _ _ _ (by simp) (by simp) (by simp) (by simp[hsl]) (by simp) (by simp)
     |some n=>
      have e1:opC o nme mi (sco up) c1=c1:=by rw[opC,if_neg o1,if_pos o2,hh];rfl
      rw[e1]
      subst o2
      have hF:=hfind c1 mi nme [.row 5 [[AV.p (.int .i64 2),.p (.str nme),.p (.lst 4 (a.map Ex.cs)),.p (smL bd),.p (smL el)]]]
      rw[hh] at hF
      simp-implicitDefEqProofs[hlenA]
      refine hF.mono ?_
      rintro r h ⟨rfl,rfl⟩
      simp-implicitDefEqProofs[aa]
      exact fin _ _ _ (by simp) (by simp) (by simp) (by simp[hsl]) (by simp) (by simp)
    ·have e1:opC o nme mi (sco up) c1=c1:=by rw[opC,if_neg o1,if_neg o2]
     rw[e1]
     simp-implicitDefEqProofs[hlenA,o1,o2]
     exact fin _ _ _ (by simp) (by simp) (by simp) (by simp[hsl]) (by simp) (by simp)
   generalize opC o nme mi (sco up) c1=c2 at eT⊢
   generalize opS o nme mi 0=m2 at eT⊢
   have hdrop:∀(r1:List (Nat × AV)) (c3:Int) (s:List AO),Aw.look r1 0= .ptr 1 3 0 0→Aw.look r1 2= .ptr (L+1) 2 0 0→Aw.look r1 14= .p (smL l)→Aw.look r1 15= .p (.int .i64 l.length)→Aw.look r1 16= .p (.int .i64 ((i:Int)+1))→
    Wk (L+2) (aj 89 r1) (AX b0 fns k up gap c3++([.mp (mpE m2),.row 2 [[.mp L,upV up]]]++s)) (aj 89 [(0,.ptr 1 3 0 0),(2,.ptr (L+1) 2 0 0),(14,.p (smL l)),(15,.p (.int .i64 l.length)),(16,.p (.int .i64 ((i:Int)+1)))]) (CH b0 fns k c3 (⟨gap,m2⟩::up)):=by
    intro r1 c3 s e0 e2 e14 e15 e16
    rw[Cv,hL]
    refine rb (hlenA _) (by simp) (hokA _) (ae (xi _ _) (ae hR bv)) ?_
    simp[below,e0,e2,e14,e15,e16]
   by_cases ho:o=5∨o=6
   ·rw[if_pos ho] at eT
    rcases ho with o5|o6
    ·subst o5
     simp-implicitDefEqProofs[hlenA]
     refine(rm G (.ptr (L+1) 2 0 0) (.inr ⟨_,rfl⟩) _).mono ?_
     rintro r h ⟨rfl,rfl⟩
     simp-implicitDefEqProofs[aa,hlenA]
     refine(hblk c2 m2 bd [_] (by omega) (by omega) (fun x hx=>by rw[List.mem_singleton.1 hx];exact bu (by simp[okO]))).mono ?_
     rintro r h ⟨rfl,m3,rfl⟩
     simp-implicitDefEqProofs[aa,hlenA]
     refine(rm G (.ptr (L+1) 2 0 0) (.inr ⟨_,rfl⟩) _).mono ?_
     rintro r h ⟨rfl,rfl⟩
     simp-implicitDefEqProofs[aa,hlenA]
     refine(hblk _ m2 el [_,_,_] (by omega) (by omega) (ae (bu (by simp[okO])) (ae (xi _ _) (ae (by
      intro e he;rw[List.mem_singleton.1 he]
      exact⟨by simp only[below];simp,by simp only[below];simp,trivial⟩) bv)))).mono ?_
     rintro r h ⟨rfl,m4,rfl⟩
     simp-implicitDefEqProofs[aa,hlenA]
     refine⟨i+1,by omega,by omega,?_⟩
     rw[eT]
     refine hdrop _ _ _ (by simp) (by simp) (by simp[hsl]) (by simp) (by simp[w1 (i:=i) (by omega)])
    ·subst o6
     simp-implicitDefEqProofs[hlenA]
     refine(rm G (.ptr (L+1) 2 0 0) (.inr ⟨_,rfl⟩) _).mono ?_
     rintro r h ⟨rfl,rfl⟩
     simp-implicitDefEqProofs[aa,hlenA]
     refine(hblk c2 m2 bd [_] (by omega) (by omega) (fun x hx=>by rw[List.mem_singleton.1 hx];exact bu (by simp[okO]))).mono ?_
     rintro r h ⟨rfl,m3,rfl⟩
     simp-implicitDefEqProofs[aa,hlenA]
     refine(rm G (.ptr (L+1) 2 0 0) (.inr ⟨_,rfl⟩) _).mono ?_
     rintro r h ⟨rfl,rfl⟩
     simp-implicitDefEqProofs[aa,hlenA]
     refine(hblk _ m2 el [_,_,_] (by omega) (by omega) (ae (bu (by simp[okO])) (ae (xi _ _) (ae (by
      intro e he;rw[List.mem_singleton.1 he]
      exact⟨by simp only[below];simp,by simp only[below];simp,trivial⟩) bv)))).mono ?_
     rintro r h ⟨rfl,m4,rfl⟩
     simp-implicitDefEqProofs[aa,hlenA]
     refine⟨i+1,by omega,by omega,?_⟩
     rw[eT]
     refine hdrop _ _ _ (by simp) (by simp) (by simp[hsl]) (by simp) (by simp[w1 (i:=i) (by omega)])
   ·rw[if_neg ho] at eT
    have o5:¬o=5:=fun h=>ho (.inl h)
    have o6:¬o=6:=fun h=>ho (.inr h)
    simp-implicitDefEqProofs[hlenA,o5,o6]
    refine⟨i+1,by omega,by omega,?_⟩
    rw[eT]
    refine hdrop _ _ [_] (by simp) (by simp) (by simp[hsl]) (by simp) (by simp[w1 (i:=i) (by omega)])
  ·simp at h
   have hie:i=l.length:=by omega
   subst hie
   rw[List.take_length] at hst
   rw[hst]
   simp-implicitDefEqProofs[]
end Go.Proofs.YtnjbhgpbgmpkcaaGreatDoor
