/-
  Contracts and lemmas that the card needs, part 5.
-/
import Derived.Test.YtnjbhgpbgmpkcaaGreatDoorNd4
namespace Go.Proofs.YtnjbhgpbgmpkcaaGreatDoor
open Go Go.Aw
set_option maxRecDepth 100000
set_option maxHeartbeats 4000000
def K_impl_exprSize:AK:= .seq (.reg [oJ 2 (.box 4 (.t 0)),oK 4 0,oK 5 0,oJ 6 (.mov (.c (.p (.bool false))))]) (.seq (.reg [oK 7 0,oK 8 0]) (.cut (.blk 0 (.seq (.reg [oF 17 0 2,oL 18 17,oJ 19 (.bin .eql (.t 18) (.c (.p (.int .i64 1)))),oM 16 19]) (.cond (.t 16) (.seq (.reg [oF 20 1 2,oL 21 20,oJ 22 (.call gn [(.t 21)]),oJ 23 (.not (.t 22)),oM 24 23,⟨(some 25),some (24,false),.fldA 2 (.t 2)⟩,⟨(some 26),some (24,false),.ld none (.t 25)⟩,⟨(some 27),some (24,false),.bins .neq (.t 26) (.c (.p (.str [])))⟩,oJ 28 (.pick (.t 24) (.c (.p (.bool true))) (.t 27))]) (.cond (.t 28) (.seq (.reg [oK 4 0,oK 5 0,oJ 6 (.mov (.c (.p (.bool false))))]) (.ret)) (.skip))) (.seq (.reg [oF 30 0 2,oL 31 30,oJ 32 (.bin .eql (.t 31) (.c (.p (.int .i64 2)))),oM 29 32]) (.cond (.t 29) (.seq (.reg [oF 33 2 2,oL 34 33,oJ 35 (.call be [(.t 34)]),oJ 36 (.not (.t 35)),oM 37 36,⟨(some 38),some (37,false),.fldA 1 (.t 2)⟩,⟨(some 39),some (37,false),.ld none (.t 38)⟩,⟨(some 40),some (37,false),.bin .neq (.t 39) (.c (.p (.int .i64 0)))⟩,oJ 41 (.pick (.t 37) (.c (.p (.bool true))) (.t 40))]) (.cond (.t 41) (.seq (.reg [oK 4 0,oK 5 0,oJ 6 (.mov (.c (.p (.bool false))))]) (.ret)) (.skip))) (.seq (.reg [oF 43 0 2,oL 44 43,oJ 45 (.bin .eql (.t 44) (.c (.p (.int .i64 13)))),oM 42 45]) (.cond (.t 42) (.seq (.reg [oK 8 3]) (.seq (.reg [oF 46 2 2,oL 47 46,oJ 48 (.call be [(.t 47)]),oJ 49 (.not (.t 48)),oM 50 49,⟨(some 51),some (50,false),.fldA 1 (.t 2)⟩,⟨(some 52),some (50,false),.ld none (.t 51)⟩,⟨(some 53),some (50,false),.bin .neq (.t 52) (.c (.p (.int .i64 0)))⟩,oJ 54 (.pick (.t 50) (.c (.p (.bool true))) (.t 53))]) (.cond (.t 54) (.seq (.reg [oK 4 0,oK 5 0,oJ 6 (.mov (.c (.p (.bool false))))]) (.ret)) (.skip)))) (.seq (.reg [oJ 56 (.ld none (.c (.gp 2 0))),oF 57 0 2,oL 58 57,oJ 59 (.lk 0 (.agg [(.p (.str [])),(.p (.int .i64 0))]) false (.t 56) (.t 58)),oJ 60 (.fldv 1 none (.t 59)),oJ 61 (.bin .gtr (.t 60) (.c (.p (.int .i64 0)))),oM 55 61]) (.cond (.t 55) (.reg [oK 7 2,oK 8 2]) (.seq (.reg [oF 63 0 2,oL 64 63,oJ 65 (.bin .eql (.t 64) (.c (.p (.int .i64 11)))),oM 66 65,⟨(some 67),some (66,false),.fldA 0 (.t 2)⟩,⟨(some 68),some (66,false),.ld none (.t 67)⟩,⟨(some 69),some (66,false),.bin .eql (.t 68) (.c (.p (.int .i64 12)))⟩,oJ 70 (.pick (.t 66) (.c (.p (.bool true))) (.t 69)),oM 62 70]) (.cond (.t 62) (.reg [oK 7 1,oK 8 1]) (.seq (.reg [oK 4 0,oK 5 0,oJ 6 (.mov (.c (.p (.bool false))))]) (.ret))))))))))))) (.cut (.seq (.reg [oF 71 0 2,oL 72 71,oJ 73 (.call fD [(.t 72)]),oJ 74 (.bin .lss (.t 73) (.c (.p (.int .i64 6)))),oM 75 74,⟨(some 76),some (75,true),.fldA 1 (.t 2)⟩,⟨(some 77),some (75,true),.ld none (.t 76)⟩,⟨(some 78),some (75,true),.bin .neq (.t 77) (.c (.p (.int .i64 0)))⟩,⟨(some 79),some (75,true),.mov (.t 78)⟩,⟨(some 80),some (79,false),.fldA 2 (.t 2)⟩,⟨(some 81),some (79,false),.ld none (.t 80)⟩,⟨(some 82),some (79,false),.bins .neq (.t 81) (.c (.p (.str [])))⟩,⟨(some 83),some (75,true),.pick (.t 79) (.c (.p (.bool true))) (.t 82)⟩,oJ 84 (.pick (.t 75) (.t 83) (.c (.p (.bool false)))),oM 85 84,⟨(some 86),some (85,false),.fldA 3 (.t 2)⟩,⟨(some 87),some (85,false),.ld none (.t 86)⟩,⟨(some 88),some (85,false),.len false (.t 87)⟩,⟨(some 89),some (85,false),.mov (.t 7)⟩,⟨(some 90),some (85,false),.mov (.t 8)⟩,⟨(some 91),some (85,false),.call cx [(.t 88),(.t 89),(.t 90)]⟩,⟨(some 92),some (85,false),.not (.t 91)⟩,oJ 93 (.pick (.t 85) (.c (.p (.bool true))) (.t 92)),oM 94 93,⟨(some 95),some (94,false),.mov (.t 1)⟩,⟨(some 96),some (94,false),.bin .lss (.t 95) (.c (.p (.int .i64 1)))⟩,oJ 97 (.pick (.t 94) (.c (.p (.bool true))) (.t 96))]) (.cond (.t 97) (.seq (.reg [oK 4 0,oK 5 0,oJ 6 (.mov (.c (.p (.bool false))))]) (.ret)) (.skip))) (.seq (.reg [oK 9 1,oK 10 1]) (.seq (.seq (.reg [oF 98 3 2,oL 99 98,oJ 100 (.len false (.t 99)),oK 101 0]) (.blk 1 (.loop (.seq (.reg [oJ 102 (.bin .lss (.t 101) (.t 100))]) (.seq (.cond (.t 102) (.skip) (.exit 1)) (.seq (.blk 2 (.seq (.reg [oJ 103 (.idxS 4 (.t 99) (.t 101)),oJ 104 (.ld (some 4) (.t 103)),oJ 12 (.alloc [(.p (.int .i64 0)),(.p (.int .i64 0)),(.p (.str [])),.nils]),⟨none,none,.st 4 (.t 12) (.t 104)⟩]) (.seq (.reg [oJ 106 (.ld (some 4) (.t 12)),oM 107 1,oJ 108 (.bin .sub (.t 107) (.c (.p (.int .i64 1)))),oJ 109 (.call db [(.t 106),(.t 108)]),oM 105 109,oJ 110 (.ext 0 (.t 105)),oJ 111 (.ext 1 (.t 105)),oJ 112 (.ext 2 (.t 105)),oM 13 110,oM 14 111,oM 15 112]) (.seq (.seq (.reg [oM 113 15,oJ 114 (.not (.t 113))]) (.cond (.t 114) (.seq (.reg [oK 4 0,oK 5 0,oJ 6 (.mov (.c (.p (.bool false))))]) (.ret)) (.skip))) (.seq (.reg [oM 115 9,oM 116 13,oJ 117 (.bin .add (.t 115) (.t 116)),oM 9 117]) (.reg [oM 118 10,oM 119 14,oJ 120 (.bin .add (.t 119) (.c (.p (.int .i64 1)))),oJ 121 (.mx (.t 118) (.t 120)),oM 10 121])))))) (.reg [oJ 122 (.bin .add (.t 101) (.c (.p (.int .i64 1)))),oM 101 122]))))))) (.seq (.reg [oM 123 9,oM 124 10,oM 125 9,oJ 126 (.bin .leq (.t 125) (.c (.p (.int .i64 30)))),oM 4 123,oM 5 124,oM 6 126]) (.ret)))))))
theorem qY:K_impl_exprSize.whole=F_impl_exprSize.ak:=rfl
abbrev dq:Nat:=2
def opK:List PV:=[.int .i64 3,.int .i64 4,.int .i64 5,.int .i64 6,.int .i64 7,.int .i64 8,.int .i64 9,.int .i64 10]
def opV:List (List PV):=[[.str [43],.int .i64 3],[.str [45],.int .i64 3],[.str [42],.int .i64 4],[.str [47],.int .i64 4],[.str [37],.int .i64 4],[.str [60],.int .i64 2],[.str [61],.int .i64 2],[.str [38],.int .i64 1]]
def lvl(op:Int):Int:=if op=10 then 1 else if op=8 then 2 else if op=9 then 2 else if op=3 then 3 else if op=4 then 3 else 4
def sgB(op:Int):UInt8:=if op=3 then 43 else if op=4 then 45 else if op=5 then 42 else if op=6 then 47 else if op=7 then 37 else if op=8 then 60 else if op=9 then 61 else 38
def sgn(op:Int):Option AV:=if 3≤op∧op≤10 then some (.agg [.p (.str [sgB op]),.p (.int .i64 (lvl op))]) else none
theorem zy(op:Int):(opK.all fun k'=>(keq (.int .i64 op) k').isSome)=true:=by simp[opK,keq]
theorem zN(op:Int):dQ (.int .i64 op) (AG opK opV)=some (sgn op):=by
 by_cases h:3≤op∧op≤10
 ·have h8:op=3∨op=4∨op=5∨op=6∨op=7∨op=8∨op=9∨op=10:=by omega
  rcases h8 with rfl|rfl|rfl|rfl|rfl|rfl|rfl|rfl<;>rfl
 ·have e:sgn op=none:=if_neg h
  have h3:¬op=3:=by omega
  have h4:¬op=4:=by omega
  have h5:¬op=5:=by omega
  have h6:¬op=6:=by omega
  have h7:¬op=7:=by omega
  have h8:¬op=8:=by omega
  have h9:¬op=9:=by omega
  have h10:¬op=10:=by omega
  rw[e]
  simp[opK,opV,AG,dQ,keq,h3,h4,h5,h6,h7,h8,h9,h10]
theorem zE(op:Int):0<lvl op:=by
 unfold lvl
 repeat' split
 all_goals omega
theorem Hd(op:Int):lvl op<6:=by
 unfold lvl
 repeat' split
 all_goals omega
def lvI(op:Int):Int:=if 3≤op∧op≤10 then lvl op else if op=11∨op=12 then 5 else 6
mutual
def Ex.deep:Ex→Nat
 | .mk _ _ _ k=>1+jC k
def jC:List Ex→Nat
 |[]=>0
 |e::r=>max e.deep (jC r)
end
theorem Ex.deep_eq(e:Ex):e.deep=1+jC e.kids:=by cases e;rfl
theorem ww:∀a b:List Ex,jC (a++b)=max (jC a) (jC b)
 |[],b=>by simp[jC]
 |e::r,b=>by rw[List.cons_append,jC,jC,ww r b];omega
mutual
theorem Ex.deep_le:∀e:Ex,e.deep≤e.sz
 | .mk _ _ s k=>by have:=vv k;simp only[Ex.deep,Ex.sz];omega
theorem vv:∀l:List Ex,jC l≤bv l
 |[]=>Nat.le_refl _
 |e::r=>by have:=e.deep_le;have:=vv r;simp only[jC,bv];omega
end
theorem lM{α:Type}{p:α→Bool}{xs:List α}{i:Nat}{c:α}(h:xs[i]?=some c):(xs.take (i+1)).all p=((xs.take i).all p&&p c):=by
 rw[List.take_add_one,h,List.all_append];simp
def okE(m:Nat)(e:Ex):Bool:=fd m e&&decide (e.parts≤30)
def qK:Nat→Ex→Bool
 |0,_=>false
 |m+1,e=>nk e&&e.kids.all (okE m)
theorem wn:∀{l:List Ex} {e:Ex},e∈l→e.parts≤aB l
 |x::r,e,h=>by
  simp only[aB]
  rcases List.mem_cons.1 h with rfl|h
  ·omega
  ·have:=wn h;omega
theorem zr(m:Nat)(e:Ex):(qK m e&&decide (e.parts≤30))=okE m e:=by
 cases m with
 |zero=>simp[qK,okE,fd]
 |succ m=>
  by_cases hp:e.parts≤30
  ·have h2:e.kids.all (okE m)=e.kids.all (fd m):=by
    rw[Bool.eq_iff_iff,List.all_eq_true,List.all_eq_true]
    refine⟨fun h x hx=>?_,fun h x hx=>?_⟩
    ·have:=h x hx;simp only[okE,Bool.and_eq_true] at this;exact this.1
    ·have h1:=h x hx
     have:=wn hx
     have:=e.parts_eq
     simp only[okE,h1,Bool.true_and]
     simp;omega
   simp[qK,okE,fd,h2]
  ·simp[okE,hp]
theorem FN(e:Ex):okE 6 e=kT e:=rfl
def szA(m:Nat)(e:Ex):AV:=if qK m e then .tup [.p (.int .i64 e.parts),.p (.int .i64 e.deep),.p (.bool (decide (e.parts≤30)))] else .tup [.p (.int .i64 0),.p (.int .i64 0),.p (.bool false)]
def bQ(e:Ex):Bool:=inR e.op 1 13&&(if e.op=1 then inR e.n 0 255&&decide (e.name=[]) else if e.op=2∨e.op=13 then az e.name&&decide (e.n=0) else true)
def fK(e:Ex):Bool:=(decide (e.op=1∨e.op=2∨e.op=13)||(decide (e.n=0)&&decide (e.name=[])))&&inR e.kids.length (loK e.op) (hiK e.op)
theorem nN:az []=false:=rfl
theorem wX(e:Ex):nk e=(bQ e&&fK e):=by
 unfold nk bQ fK yj
 by_cases h1:e.op=1
 ·simp only[h1]
  cases inR (e.kids.length:Int) (loK 1:Nat) (hiK 1:Nat)<;>by_cases hn:e.name=[]<;>cases h2:inR e.n 0 255<;>simp[hn,nN,inR]
 by_cases h2:e.op=2
 ·simp only[h2]
  cases inR (e.kids.length:Int) (loK 2:Nat) (hiK 2:Nat)<;>cases hi:az e.name<;>by_cases hn:e.n=0<;>simp[hn,inR]
 by_cases h3:e.op=13
 ·simp only[h3]
  cases inR (e.kids.length:Int) (loK 13:Nat) (hiK 13:Nat)<;>cases hi:az e.name<;>by_cases hn:e.n=0<;>simp[hn,inR]
 ·cases inR e.op 1 13<;>cases inR (e.kids.length:Int) (loK e.op:Nat) (hiK e.op:Nat)<;>by_cases hn:e.n=0<;>by_cases hm:e.name=[]<;>simp[h1,h2,h3,hn,hm,nN,inR]
variable (G:aw) (hK:G gE=some fW) (hS:G dq=some [.tbl opK opV])
include hS
theorem Aj(op:Int):VF Tryz.prog G fD [.p (.int .i64 op)] (.p (.int .i64 (lvI op))):=by
 refine AC.go rp ?_
 have hall:=zy op
 have hget:=zN op
 have hS':=hS
 unfold dq at hS'
 have hlp:=zE op
 by_cases h:3≤op∧op≤10
 ·have e:sgn op=some (.agg [.p (.str [sgB op]),.p (.int .i64 (lvl op))]):=if_pos h
  have e2:lvI op=lvl op:=if_pos h
  rw[e2]
  generalize lvl op=L at*
  simp-implicitDefEqProofs[dB,hS',hall,hget,e,hlp]
 ·have e:sgn op=none:=if_neg h
  by_cases h11:op=11
  ·subst h11;simp-implicitDefEqProofs[dB,hS',hall,hget,e,lvI]
  by_cases h12:op=12
  ·subst h12;simp-implicitDefEqProofs[dB,hS',hall,hget,e,lvI]
  have e2:lvI op=6:=by rw[lvI,if_neg h,if_neg (by simp[h11,h12])]
  simp-implicitDefEqProofs[dB,hS',hall,hget,e,e2,h11,h12]
include hK
theorem xY:∀(m:Nat) (e:Ex),e.sz≤1073741824→m≤100→VF Tryz.prog G db [.agg (e.cs.map .p),.p (.int .i64 m)] (szA m e):=by
 intro m
 induction m using Nat.strongRecOn with
 |_ m ih=>
 intro e he hm
 have hec:=e.cs_eq
 have hsz:=e.sz_eq
 have hkl:=aW e.kids
 have hS':=hS
 unfold dq at hS'
 have hall:=zy e.op
 have hget:=zN e.op
 have hxl:exL e.kids= .lst 4 (e.kids.map Ex.cs):=rfl
 have hbad:(bQ e&&fK e&&decide (1≤m))=false→szA m e= .tup [.p (.int .i64 0),.p (.int .i64 0),.p (.bool false)]:=by
  intro h
  have:qK m e=false:=by
   cases m with
   |zero=>rfl
   |succ m=>rw[qK,wX];simp at h;cases h1:bQ e<;>cases h2:fK e<;>simp[h1,h2] at h⊢
  rw[szA,this];rfl
 have hb1:bQ e=false→szA m e= .tup [.p (.int .i64 0),.p (.int .i64 0),.p (.bool false)]:=fun h=>hbad (by rw[h];rfl)
 refine AC.goK qQ qY ?_
 simp-implicitDefEqProofs[K_impl_exprSize,F_impl_exprSize,hec]
 refine vA (fun _:Unit=>af 127 [(1,.p (.int .i64 m)),(2,.ptr 0 4 0 0),(7,.p (.int .i64 (loK e.op))),(8,.p (.int .i64 (hiK e.op)))]) (fun _=>[.row 4 [[.p (.int .i64 e.op),.p (.int .i64 e.n),.p (.str e.name),.p (exL e.kids)]]]) (fun _=>bQ e=true) ?_ ?_
 ·have fin:∀(r1:List (Nat × AV)),Aw.look r1 1= .p (.int .i64 m)→Aw.look r1 2= .ptr 0 4 0 0→Aw.look r1 7= .p (.int .i64 (loK e.op))→Aw.look r1 8= .p (.int .i64 (hiK e.op))→
   Wk 0 (af 127 r1) [.row 4 [[.p (.int .i64 e.op),.p (.int .i64 e.n),.p (.str e.name),.p (exL e.kids)]]] (af 127 [(1,.p (.int .i64 m)),(2,.ptr 0 4 0 0),(7,.p (.int .i64 (loK e.op))),(8,.p (.int .i64 (hiK e.op)))]) [.row 4 [[.p (.int .i64 e.op),.p (.int .i64 e.n),.p (.str e.name),.p (exL e.kids)]]]:=fun r1 a b c d=>
   ab (by simp) (by simp[okO,below]) (by simp[below,a,b,c,d])
  have hop1:inR (1:Int) 1 13=true:=rfl
  have hop2:inR (2:Int) 1 13=true:=rfl
  have hop13:inR (13:Int) 1 13=true:=rfl
  by_cases o1:e.op=1
  ·rw[o1] at fin⊢
   simp-implicitDefEqProofs[o1]
   refine(Cq G _).use ?_
   by_cases h1:inR e.n 0 255=true
   ·by_cases h2:e.name=[]
    ·have hp:bQ e=true:=by simp[bQ,o1,h1,h2,hop1]
     rw[h2] at fin
     simp-implicitDefEqProofs[h1,h2,hp]
     exact fin _ (by simp) (by simp) (by simp[loK]) (by simp[hiK])
    ·have hp:bQ e=false:=by simp[bQ,o1,h1,h2,hop1]
     rw[hb1 hp]
     simp-implicitDefEqProofs[h1,h2]
   ·have hp:bQ e=false:=by simp[bQ,o1,h1,hop1]
    rw[hb1 hp]
    simp-implicitDefEqProofs[h1]
  by_cases o2:e.op=2
  ·rw[o2] at fin⊢
   simp-implicitDefEqProofs[o2]
   refine(lC G hK _ (by omega)).use ?_
   by_cases h1:az e.name=true
   ·by_cases h2:e.n=0
    ·have hp:bQ e=true:=by simp[bQ,o2,h1,h2,hop2]
     rw[h2] at fin
     simp-implicitDefEqProofs[h1,h2,hp]
     exact fin _ (by simp) (by simp) (by simp[loK]) (by simp[hiK])
    ·have hp:bQ e=false:=by simp[bQ,o2,h1,h2,hop2]
     rw[hb1 hp]
     simp-implicitDefEqProofs[h1,h2]
   ·have hp:bQ e=false:=by simp[bQ,o2,h1,hop2]
    rw[hb1 hp]
    simp-implicitDefEqProofs[h1]
  by_cases o13:e.op=13
  ·rw[o13] at fin⊢
   simp-implicitDefEqProofs[o13]
   refine(lC G hK _ (by omega)).use ?_
   by_cases h1:az e.name=true
   ·by_cases h2:e.n=0
    ·have hp:bQ e=true:=by simp[bQ,o13,h1,h2,hop13]
     rw[h2] at fin
     simp-implicitDefEqProofs[h1,h2,hp]
     exact fin _ (by simp) (by simp) (by simp[loK]) (by simp[hiK])
    ·have hp:bQ e=false:=by simp[bQ,o13,h1,h2,hop13]
     rw[hb1 hp]
     simp-implicitDefEqProofs[h1,h2]
   ·have hp:bQ e=false:=by simp[bQ,o13,h1,hop13]
    rw[hb1 hp]
    simp-implicitDefEqProofs[h1]
  have hlp:=zE e.op
  by_cases h:3≤e.op∧e.op≤10
  ·have es:sgn e.op=some (.agg [.p (.str [sgB e.op]),.p (.int .i64 (lvl e.op))]):=if_pos h
   have hp:bQ e=true:=by simp[bQ,o1,o2,o13,inR];omega
   have o11:¬e.op=11:=by omega
   have o12:¬e.op=12:=by omega
   have elo:loK e.op=2:=by simp[loK,o1,o2,o11,o12,o13]
   have ehi:hiK e.op=2:=by simp[hiK,o1,o2,o11,o12,o13]
   generalize lvl e.op=L at*
   simp-implicitDefEqProofs[o1,o2,o13,hS',hall,hget,es,hlp,hp]
   exact fin _ (by simp) (by simp) (by simp[elo]) (by simp[ehi])
  have es:sgn e.op=none:=if_neg h
  by_cases o11:e.op=11
  ·have hp:bQ e=true:=by simp[bQ,o11,inR]
   have elo:loK e.op=1:=by simp[loK,o11]
   have ehi:hiK e.op=1:=by simp[hiK,o11]
   rw[o11] at hall hget es fin
   simp-implicitDefEqProofs[o11,hS',hall,hget,es,hp]
   exact fin _ (by simp) (by simp) (by simp[loK]) (by simp[hiK])
  by_cases o12:e.op=12
  ·have hp:bQ e=true:=by simp[bQ,o12,inR]
   rw[o12] at hall hget es fin
   simp-implicitDefEqProofs[o12,hS',hall,hget,es,hp]
   exact fin _ (by simp) (by simp) (by simp[loK]) (by simp[hiK])
  ·have hp:bQ e=false:=by simp[bQ,o1,o2,o13,inR];omega
   rw[hb1 hp]
   simp-implicitDefEqProofs[o1,o2,o13,hS',hall,hget,es,o11,o12]
 intro _ hp
 have hop:1≤e.op∧e.op≤13:=by
  simp only[bQ,Bool.and_eq_true,inR,decide_eq_true_eq] at hp
  exact hp.1
 have hb2:fK e=false→szA m e= .tup [.p (.int .i64 0),.p (.int .i64 0),.p (.bool false)]:=fun h=>hbad (by rw[h];simp)
 have hb3:m<1→szA m e= .tup [.p (.int .i64 0),.p (.int .i64 0),.p (.bool false)]:=by
  intro h
  have hd:decide (1≤m)=false:=by simp;omega
  exact hbad (by rw[hd];simp)
 refine vA (fun _:Unit=>af 127 [(1,.p (.int .i64 m)),(2,.ptr 0 4 0 0)]) (fun _=>[.row 4 [[.p (.int .i64 e.op),.p (.int .i64 e.n),.p (.str e.name),.p (exL e.kids)]]]) (fun _=>fK e=true∧1≤m) ?_ ?_
 ·have fin:∀(r1:List (Nat × AV)),Aw.look r1 1= .p (.int .i64 m)→Aw.look r1 2= .ptr 0 4 0 0→
   Wk 0 (af 127 r1) [.row 4 [[.p (.int .i64 e.op),.p (.int .i64 e.n),.p (.str e.name),.p (exL e.kids)]]] (af 127 [(1,.p (.int .i64 m)),(2,.ptr 0 4 0 0)]) [.row 4 [[.p (.int .i64 e.op),.p (.int .i64 e.n),.p (.str e.name),.p (exL e.kids)]]]:=fun r1 a b=>
   ab (by simp) (by simp[okO,below]) (by simp[below,a,b])
  simp-implicitDefEqProofs[]
  refine(Aj G hS e.op).use ?_
  by_cases ho:e.op=1∨e.op=2∨e.op=13
  ·have hlv:lvI e.op=6:=by
    rw[lvI,if_neg (by omega),if_neg (by omega)]
   have hd:decide (e.op=1∨e.op=2∨e.op=13)=true:=by simpa using ho
   simp-implicitDefEqProofs[hlv,hxl]
   refine(lT G _ _ _).use ?_
   by_cases hk:inR e.kids.length (loK e.op) (hiK e.op)=true
   ·have hr:fK e=true:=by rw[fK,hd,hk];rfl
    by_cases hm1:m<1
    ·have hm1':(m:Int)<1:=by omega
     rw[hb3 hm1]
     simp-implicitDefEqProofs[hk,hm1']
    ·have hm1':¬(m:Int)<1:=by omega
     have hm2:1≤m:=by omega
     simp-implicitDefEqProofs[hk,hm1',hr,hm2]
     exact fin _ (by simp) (by simp)
   ·have hk':inR e.kids.length (loK e.op) (hiK e.op)=false:=by simpa using hk
    have hr:fK e=false:=by rw[fK,hk',Bool.and_false]
    rw[hb2 hr]
    simp-implicitDefEqProofs[hk']
  ·have hlv:lvI e.op<6:=by
    have:=Hd e.op
    unfold lvI
    split
    ·exact this
    ·rw[if_pos (by omega)];omega
   have hd:decide (e.op=1∨e.op=2∨e.op=13)=false:=by simpa using ho
   generalize lvI e.op=L at hlv⊢
   by_cases h1:e.n=0
   ·by_cases h2:e.name=[]
    ·have hz:decide (e.n=0)=true∧decide (e.name=[])=true:=by simp[h1,h2]
     simp-implicitDefEqProofs[hlv,h1,h2,hxl]
     refine(lT G _ _ _).use ?_
     rw[h1,h2] at fin
     by_cases hk:inR e.kids.length (loK e.op) (hiK e.op)=true
     ·have hr:fK e=true:=by rw[fK,hd,hk,hz.1,hz.2];rfl
      by_cases hm1:m<1
      ·have hm1':(m:Int)<1:=by omega
       rw[hb3 hm1]
       simp-implicitDefEqProofs[hk,hm1']
      ·have hm1':¬(m:Int)<1:=by omega
       have hm2:1≤m:=by omega
       simp-implicitDefEqProofs[hk,hm1',hr,hm2]
       exact fin _ (by simp) (by simp)
     ·have hk':inR e.kids.length (loK e.op) (hiK e.op)=false:=by simpa using hk
      have hr:fK e=false:=by rw[fK,hk',Bool.and_false]
      rw[hb2 hr]
      simp-implicitDefEqProofs[hk']
    ·have hr:fK e=false:=by rw[fK,hd];simp[h2]
     rw[hb2 hr]
     simp-implicitDefEqProofs[hlv,h1,h2]
   ·have hr:fK e=false:=by rw[fK,hd];simp[h1]
    rw[hb2 hr]
    simp-implicitDefEqProofs[hlv,h1]
 rintro _ ⟨hr,hm1⟩
 have hhd:nk e=true:=by rw[wX,hp,hr];rfl
 obtain⟨m',rfl⟩:∃m',m=m'+1:=⟨m-1,by omega⟩
 have hszO:qK (m'+1) e=e.kids.all (okE m'):=by rw[qK,hhd];rfl
 have hpe:=e.parts_eq
 have hde:=e.deep_eq
 have hpl:=e.parts_le
 have hwm:IntKind.i64.wrap (((m'+1:Nat):Int)-1)=(m':Int):=by rw[al (by omega) (by omega)];omega
 simp-implicitDefEqProofs[hxl]
 refine aq (fun i:Nat=>af 127 [(1,.p (.int .i64 ((m':Int)+1))),(2,.ptr 0 4 0 0),(9,.p (.int .i64 ((1+aB (e.kids.take i):Nat):Int))),(10,.p (.int .i64 ((1+jC (e.kids.take i):Nat):Int))),(99,.p (exL e.kids)),(100,.p (.int .i64 e.kids.length)),(101,.p (.int .i64 i))])
  (fun _=>[.row 4 [[.p (.int .i64 e.op),.p (.int .i64 e.n),.p (.str e.name),.p (exL e.kids)]]]) (fun i=>i≤e.kids.length∧(e.kids.take i).all (okE m')=true) (fun i=>e.kids.length-i) 0 (by simp) ?_ ?_
 ·exact ab (by simp) (by simp[okO,below]) (by simp[below,hxl,aB,jC])
 rintro i ⟨hi,ha⟩
 have hwm':IntKind.i64.wrap (m':Int)=(m':Int):=al (by omega) (by omega)
 simp-implicitDefEqProofs[hxl]
 refine aQ (fun h=>?_) (fun h=>?_)
 ·simp at h
  have hg:=List.getElem?_eq_getElem h
  have hks:=aO (List.getElem_mem h)
  have hkc:=e.kids[i].cs_eq
  have hpt:aB (e.kids.take (i+1))=aB (e.kids.take i)+e.kids[i].parts:=by rw[ah h,cu];simp[aB]
  have hdt:jC (e.kids.take (i+1))=max (jC (e.kids.take i)) e.kids[i].deep:=by rw[ah h,ww];simp[jC]
  have hpl1:aB (e.kids.take (i+1))≤e.parts:=by
   have:=cu (e.kids.take (i+1)) (e.kids.drop (i+1))
   rw[List.take_append_drop] at this
   omega
  have hok:=zr m' e.kids[i]
  have hdl:e.kids[i].deep≤e.kids[i].sz:=Ex.deep_le _
  have hdl2:jC (e.kids.take i)≤e.sz:=by
   have h1:=vv (e.kids.take i)
   have h2:=je (e.kids.take i) (e.kids.drop i)
   rw[List.take_append_drop] at h2
   omega
  generalize e.kids[i]=c at*
  simp-implicitDefEqProofs[hg,hkc,hwm']
  have hI:=ih m' (by omega) c (by omega) (by omega)
  rw[hkc] at hI
  by_cases ho:okE m' c=true
  ·have h1:qK m' c=true∧c.parts≤30:=by rw[ho] at hok;simpa using hok
   have hA:szA m' c= .tup [.p (.int .i64 c.parts),.p (.int .i64 c.deep),.p (.bool true)]:=by rw[szA,if_pos h1.1];simp[h1.2]
   rw[hA] at hI
   refine hI.use ?_
   have hw1:IntKind.i64.wrap (1+(aB (e.kids.take i):Int)+(c.parts:Int))=((1+aB (e.kids.take (i+1)):Nat):Int):=by rw[al (by omega) (by omega)];omega
   have hw2:IntKind.i64.wrap ((c.deep:Int)+1)=(c.deep:Int)+1:=al (by omega) (by omega)
   have hmx:(if 1+(jC (e.kids.take i):Int)<(c.deep:Int)+1 then(c.deep:Int)+1 else 1+(jC (e.kids.take i):Int))=1+(jC (e.kids.take (i+1)):Int):=by
    rw[hdt];split<;>omega
   simp-implicitDefEqProofs[hw1,hw2,hmx]
   refine⟨i+1,⟨h,by rw[←List.all_eq_true,lM hg,ha,ho];rfl⟩,by omega,?_⟩
   refine jk (m:=1) (by omega) (ex rfl rfl (by simp[okO,below])) (by simp[below,hxl,w1 (i:=i) (by omega)])
  ·have hf:e.kids.all (okE m')=false:=List.all_eq_false.2 ⟨c,List.mem_of_getElem? hg,by simpa using ho⟩
   have hA2:szA (m'+1) e= .tup [.p (.int .i64 0),.p (.int .i64 0),.p (.bool false)]:=by rw[szA,hszO,hf];rfl
   rw[hA2]
   by_cases h1:qK m' c=true
   ·have h2:¬c.parts≤30:=fun h2=>ho (by rw[←hok,h1];simpa using h2)
    have hA:szA m' c= .tup [.p (.int .i64 c.parts),.p (.int .i64 c.deep),.p (.bool false)]:=by rw[szA,if_pos h1];simp[h2]
    rw[hA] at hI
    refine hI.use ?_
    simp-implicitDefEqProofs[]
   ·have hA:szA m' c= .tup [.p (.int .i64 0),.p (.int .i64 0),.p (.bool false)]:=by rw[szA,if_neg h1]
    rw[hA] at hI
    refine hI.use ?_
    simp-implicitDefEqProofs[]
 ·simp at h
  rw[List.take_of_length_le h] at ha⊢
  have hA:szA (m'+1) e= .tup [.p (.int .i64 e.parts),.p (.int .i64 e.deep),.p (.bool (decide (e.parts≤30)))]:=by rw[szA,hszO,ha];rfl
  rw[hA,hpe,hde]
  simp-implicitDefEqProofs[]
  omega
theorem xK(e:Ex)(he:e.sz≤1073741824):VF Tryz.prog G dH [.agg (e.cs.map .p)] (.p (.bool (kT e))):=by
 refine AC.go qh ?_
 have hec:=e.cs_eq
 have hx:=xY G hK hS 6 e he (by omega)
 rw[hec] at hx
 simp-implicitDefEqProofs[jJ,hec]
 rw[←FN,←zr]
 unfold szA at hx
 by_cases h:qK 6 e=true
 ·rw[if_pos h] at hx
  rw[h]
  refine hx.use ?_
  simp-implicitDefEqProofs[]
 ·have h':qK 6 e=false:=by simpa using h
  rw[if_neg h] at hx
  rw[h']
  refine hx.use ?_
  simp-implicitDefEqProofs[]
end Go.Proofs.YtnjbhgpbgmpkcaaGreatDoor
namespace Go.Proofs.YtnjbhgpbgmpkcaaGreatDoor
open Go Go.Aw
set_option maxRecDepth 100000
structure LV where (name:List UInt8) (num block:Nat)
structure WS where (vs:List LV) (count:Nat) (code:Int)
def fl(c k:Int):Int:=if c=0 then k else c
theorem tl{c k:Int}(h:c≠0):fl c k=c:=if_neg h
def lkV(vs:List LV)(s:List UInt8):Option LV:=vs.find? fun v=>decide (v.name=s)
def bT(fns:List Fd)(s:List UInt8):Option Nat:=fns.findIdx? fun f=>decide (f.name=s)
def BJ(fns:List Fd)(j:Nat):Nat:=match fns[j]? with|some f=>f.params.length|none=>0
def nZ(vs:List LV)(s:List UInt8)(c:Int):Int:=match lkV vs s with|none=>fl c 3|some _=>c
def kH(fns:List Fd)(k:Nat)(s:List UInt8)(n:Nat)(c:Int):Int:=
 match bT fns s with|none=>fl c 4|some j=>if k≤j then fl c 4 else if BJ fns j=n then c else fl c 5
def jD(fns:List Fd)(k:Nat)(vs:List LV)(o:Int)(s:List UInt8)(n:Nat)(c:Int):Int:=
 if o=2 then nZ vs s c else if o=13 then kH fns k s n c else c
mutual
def qM(fns:List Fd)(k:Nat)(vs:List LV):Ex→Int→Int
 | .mk o _ s ks,c=>bS fns k vs ks (jD fns k vs o s ks.length c)
def bS(fns:List Fd)(k:Nat)(vs:List LV):List Ex→Int→Int
 |[],c=>c
 |e::r,c=>bS fns k vs r (qM fns k vs e c)
end
def vnm(n:Nat):List UInt8:=[118,UInt8.ofNat (97+n%26)]
def sR(vs:List LV)(s:List UInt8):List UInt8:=match lkV vs s with|none=>s|some v=>vnm v.num
mutual
def rnE(vs:List LV):Ex→Ex
 | .mk o n s ks=> .mk o n (if o=2 then sR vs s else s) (ia vs ks)
def ia(vs:List LV):List Ex→List Ex
 |[]=>[]
 |e::r=>rnE vs e::ia vs r
end
def py(vs:List LV)(s:List UInt8)(b:Nat)(c:Int):Int:=match lkV vs s with|none=>c|some v=>if v.block=b then fl c 2 else c
def iS(w:WS)(s:List UInt8)(b:Nat):WS:=⟨⟨s,w.count,b⟩::w.vs,w.count+1,py w.vs s b w.code⟩
def opW(o:Int)(s:List UInt8)(b:Nat)(w:WS):WS:=if o=1 then iS w s b else if o=2 then⟨w.vs,w.count,nZ w.vs s w.code⟩ else w
def opN(o:Int)(s:List UInt8)(w:WS):List UInt8:=if o=1 then vnm w.count else if o=2 then sR w.vs s else s
def WS.back(w:WS)(vs:List LV):WS:=⟨vs,w.count,w.code⟩
mutual
def stW(fns:List Fd)(k b:Nat):Sm→WS→WS
 | .mk o s a bd el,w=>
   let w2:=opW o s b ⟨w.vs,w.count,bS fns k w.vs a w.code⟩
   let w3:=(bU fns k (b+1) bd w2).back w2.vs
   (bU fns k (b+1) el w3).back w2.vs
def bU(fns:List Fd)(k b:Nat):List Sm→WS→WS
 |[],w=>w
 |s::r,w=>bU fns k b r (stW fns k b s w)
end
def ce(ps:List (List UInt8))(w:WS):WS:=ps.foldl (fun w s=>iS w s 0) w
def fnW(fns:List Fd)(k:Nat)(f:Fd):WS:=bU fns k 0 f.body (ce f.params ⟨[],0,if bT fns f.name=some k then 0 else 2⟩)
def gb(fns:List Fd):Nat→List Fd→Int
 |_,[]=>0
 |k,f::r=>if(fnW fns k f).code=0 then gb fns (k+1) r else(fnW fns k f).code
def cm(fns:List Fd):Int:=if ca fns then gb fns 0 fns else 1
abbrev Scp:=List (List UInt8 × Nat)
def gz(m:Scp)(s:List UInt8):Option Nat:=(m.find? fun x=>decide (x.1=s)).map (·.2)
def ij:Scp→List UInt8→Nat→Scp
 |[],s,n=>[(s,n)]
 |x::r,s,n=>if x.1=s then(s,n)::r else x::ij r s n
def iC:List Scp→List UInt8→Option Nat
 |[],_=>none
 |m::r,s=>match gz m s with|some n=>some n|none=>iC r s
def eQ(fns:List Fd)(k:Nat)(ch:List Scp)(c:Int)(e:Ex):Int:=
 if e.op=2 then(if(iC ch e.name).isSome then c else fl c 3)
 else if e.op=13 then(match bT (fns.take k) e.name with|none=>fl c 4|some j=>if BJ fns j=e.kids.length then c else fl c 5)
 else c
mutual
def Ex.pre:Ex→List Ex
 | .mk o n s ks=> .mk o n s ks::bC ks
def bC:List Ex→List Ex
 |[]=>[]
 |e::r=>e.pre++bC r
end
def xQ(fns:List Fd)(k:Nat)(ch:List Scp)(l:List Ex)(c:Int):Int:=(bC l).foldl (eQ fns k ch) c
def opS(o:Int)(s:List UInt8)(m:Scp)(n:Nat):Scp:=if o=1 then ij m s n else m
def opC(o:Int)(s:List UInt8)(m:Scp)(up:List Scp)(c:Int):Int:=
 if o=1 then(if(gz m s).isSome then fl c 2 else c) else if o=2 then(if(iC (m::up) s).isSome then c else fl c 3) else c
mutual
def icS(fns:List Fd)(k:Nat):Sm→Scp→List Scp→Int→Scp × Int
 | .mk o s a bd el,m,up,c=>
   let m2:=opS o s m 0
   let c2:=opC o s m up (xQ fns k (m::up) a c)
   (m2,if o=5∨o=6 then(fE fns k el [] (m2::up) (fE fns k bd [] (m2::up) c2).2).2 else c2)
def fE(fns:List Fd)(k:Nat):List Sm→Scp→List Scp→Int→Scp × Int
 |[],m,_,c=>(m,c)
 |s::r,m,up,c=>fE fns k r (icS fns k s m up c).1 up (icS fns k s m up c).2
end
def jw(ps:List (List UInt8))(m:Scp)(c:Int):Scp × Int:=ps.foldl (fun x s=>(ij x.1 s 0,if(gz x.1 s).isSome then fl x.2 2 else x.2)) (m,c)
def icF(fns:List Fd)(k:Nat)(f:Fd)(c:Int):Int:=
 let c1:=if(match bT fns f.name with|some j=>decide (j<k)|none=>true) then fl c 2 else c
 let x:=jw f.params [] c1
 (fE fns k f.body x.1 [] x.2).2
def iu(fns:List Fd):Nat→List Fd→Int→Int
 |_,[],c=>c
 |k,f::r,c=>iu fns (k+1) r (icF fns k f c)
def SR(g:LV→Nat):Nat→List LV→List Scp→Prop
 |_,_,[]=>False
 |b,vs,m::up=>∃v1 v2,vs=v1++v2∧(∀v∈v1,v.block=b)∧(∀s,(lkV v1 s).map g=gz m s)∧match b with
  |0=>v2=[]∧up=[]
  |b+1=>SR g b v2 up
theorem Ac(a b:List LV)(s:List UInt8):lkV (a++b) s=match lkV a s with|some v=>some v|none=>lkV b s:=by
 simp only[lkV,List.find?_append]
 cases List.find? (fun v=>decide (v.name=s)) a<;>rfl
variable {g:LV→Nat}
theorem SR.blk:∀{b:Nat} {vs:List LV} {ch:List Scp},SR g b vs ch→∀v∈vs,v.block≤b
 |b,_,[],h,v,hv=>by cases b<;>exact False.elim h
 |0,vs,m::up,⟨v1,v2,e,h1,_,h3,_⟩,v,hv=>by
  subst e;subst h3
  rw[List.append_nil] at hv
  exact Nat.le_of_eq (h1 v hv)
 |b+1,vs,m::up,⟨v1,v2,e,h1,_,h3⟩,v,hv=>by
  subst e
  rcases List.mem_append.1 hv with h|h
  ·exact Nat.le_of_eq (h1 v h)
  ·exact Nat.le_succ_of_le (SR.blk h3 v h)
theorem SR.fnd:∀{b:Nat} {vs:List LV} {ch:List Scp},SR g b vs ch→∀s,(lkV vs s).map g=iC ch s
 |b,_,[],h,s=>by cases b<;>exact False.elim h
 |0,vs,m::up,⟨v1,v2,e,h1,h2,h3,h4⟩,s=>by
  subst e;subst h3;subst h4
  rw[List.append_nil,h2,iC]
  cases gz m s<;>rfl
 |b+1,vs,m::up,⟨v1,v2,e,h1,h2,h3⟩,s=>by
  subst e
  have ih:=SR.fnd h3 s
  have h2:=h2 s
  rw[Ac,iC,←h2]
  cases e1:lkV v1 s with
  |some v=>rfl
  |none=>exact ih
theorem SR.is{b:Nat}{vs:List LV}{ch:List Scp}(h:SR g b vs ch)(s:List UInt8):(lkV vs s).isSome=(iC ch s).isSome:=by rw[←h.fnd s,Option.isSome_map]
theorem zt{vs:List LV}{s:List UInt8}{v:LV}(h:lkV vs s=some v):v∈vs:=List.mem_of_find?_eq_some h
theorem SR.put:∀{b:Nat} {vs:List LV} {m:Scp} {up:List Scp},SR g b vs (m::up)→∀(s:List UInt8) (c:Int),py vs s b c=if(gz m s).isSome then fl c 2 else c:=by
 intro b vs m up h s c
 have key:∀v1 v2:List LV,(∀v∈v1,v.block=b)→(lkV v1 s).map g=gz m s→(∀v∈v2,v.block≠b)→py (v1++v2) s b c=if(gz m s).isSome then fl c 2 else c:=by
  intro v1 v2 h1 h2 h3
  rw[←h2,py,Ac]
  cases e1:lkV v1 s with
  |some v=>simp[h1 v (zt e1)]
  |none=>
   cases e2:lkV v2 s with
   |none=>rfl
   |some v=>simp[h3 v (zt e2)]
 match b,h with
 |0,⟨v1,v2,e,h1,h2,h3,_⟩=>subst e;subst h3;exact key v1 [] h1 (h2 s) (fun v hv=>by simp at hv)
 |b+1,⟨v1,v2,e,h1,h2,h3⟩=>subst e;exact key v1 v2 h1 (h2 s) (fun v hv e=>by have:=h3.blk v hv;omega)
theorem vY:∀(m:Scp) (s:List UInt8) (n:Nat) (t:List UInt8),gz (ij m s n) t=if s=t then some n else gz m t
 |[],s,n,t=>by
  by_cases h:s=t
  ·simp[ij,gz,h]
  ·simp[ij,gz,h]
 |x::r,s,n,t=>by
  have ih:=vY r s n t
  simp only[gz] at ih
  by_cases hx:x.1=s
  ·by_cases h:s=t
   ·simp[ij,gz,hx,h]
   ·have:¬x.1=t:=by rw[hx];exact h
    simp[ij,gz,hx,h]
  ·by_cases ht:x.1=t
   ·have:¬s=t:=fun e=>hx (ht.trans e.symm)
    rw[ij,if_neg hx,if_neg this];simp[gz,ht]
   ·simp only[ij,gz,if_neg hx,List.find?_cons,ht,decide_false]
    exact ih
theorem SR.add{b:Nat}{vs:List LV}{m:Scp}{up:List Scp}(h:SR g b vs (m::up))(s:List UInt8)(n k:Nat)(hg:g ⟨s,n,b⟩=k):SR g b (⟨s,n,b⟩::vs) (ij m s k::up):=by
 have key:∀v1:List LV,(∀s,(lkV v1 s).map g=gz m s)→∀t,(lkV (⟨s,n,b⟩::v1) t).map g=gz (ij m s k) t:=by
  intro v1 h2 t
  rw[vY]
  by_cases e:s=t
  ·simp[lkV,e,←hg]
  ·rw[if_neg e,←h2 t];simp[lkV,e]
 match b,h with
 |0,⟨v1,v2,e,h1,h2,h3⟩=>
  subst e
  refine⟨⟨s,n,0⟩::v1,v2,rfl,fun v hv=>?_,key v1 h2,h3⟩
  rcases List.mem_cons.1 hv with rfl|hv
  ·rfl
  ·exact h1 v hv
 |b+1,⟨v1,v2,e,h1,h2,h3⟩=>
  subst e
  refine⟨⟨s,n,b+1⟩::v1,v2,rfl,fun v hv=>?_,key v1 h2,h3⟩
  rcases List.mem_cons.1 hv with rfl|hv
  ·rfl
  ·exact h1 v hv
theorem SR.open{b:Nat}{vs:List LV}{ch:List Scp}(h:SR g b vs ch):SR g (b+1) vs ([]::ch):=⟨[],vs,rfl,fun v hv=>by simp at hv,fun s=>rfl,h⟩
theorem SR.base:SR g 0 [] [[]]:=⟨[],[],rfl,fun v hv=>by simp at hv,fun s=>rfl,rfl,rfl⟩
theorem vo{α:Type}{p:α→Bool}{l:List α}{k:Nat}:(l.take k).findIdx? p=match l.findIdx? p with|some j=>if j<k then some j else none|none=>none:=by
 cases h:l.findIdx? p with
 |none=>
  rw[List.findIdx?_eq_none_iff] at h⊢
  exact fun x hx=>h x (List.mem_of_mem_take hx)
 |some j=>
  rw[List.findIdx?_eq_some_iff_getElem] at h
  obtain⟨h1,h2,h3⟩:=h
  simp only
  split
  ·rename_i hj
   rw[List.findIdx?_eq_some_iff_getElem]
   exact⟨by rw[List.length_take];omega,by rw[List.getElem_take];exact h2,fun i hi=>by rw[List.getElem_take];exact h3 i hi⟩
  ·rename_i hj
   rw[List.findIdx?_eq_none_iff]
   intro x hx
   obtain⟨i,hi,rfl⟩:=List.mem_take_iff_getElem.1 hx
   simpa using h3 i (by omega)
theorem Cz(fns:List Fd)(k:Nat){vs:List LV}{ch:List Scp}(h:∀s,(lkV vs s).isSome=(iC ch s).isSome)(e:Ex)(c:Int):jD fns k vs e.op e.name e.kids.length c=eQ fns k ch c e:=by
 unfold jD eQ
 split
 ·rw[←h,nZ];cases lkV vs e.name<;>rfl
 ·split
  ·rw[kH,bT,bT,vo]
   cases List.findIdx? (fun f=>decide (f.name=e.name)) fns with
   |none=>rfl
   |some j=>
    simp only
    by_cases hj:j<k
    ·rw[if_neg (by omega),if_pos hj]
    ·rw[if_pos (by omega),if_neg hj]
  ·rfl
mutual
theorem FX(fns:List Fd)(k:Nat){vs:List LV}{ch:List Scp}(h:∀s,(lkV vs s).isSome=(iC ch s).isSome):∀(e:Ex) (c:Int),qM fns k vs e c=e.pre.foldl (eQ fns k ch) c
 | .mk o n s ks,c=>by
   rw[qM,Ex.pre,List.foldl_cons,←sD fns k h ks,←Cz fns k h];rfl
theorem sD(fns:List Fd)(k:Nat){vs:List LV}{ch:List Scp}(h:∀s,(lkV vs s).isSome=(iC ch s).isSome):∀(l:List Ex) (c:Int),bS fns k vs l c=(bC l).foldl (eQ fns k ch) c
 |[],c=>rfl
 |e::r,c=>by rw[bS,bC,List.foldl_append,FX fns k h e,sD fns k h r]
end
abbrev g0:LV→Nat:=fun _=>0
theorem Hn{b:Nat}{w:WS}{m:Scp}{up:List Scp}(h:SR g0 b w.vs (m::up))(o:Int)(s:List UInt8):SR g0 b (opW o s b w).vs (opS o s m 0::up)∧(opW o s b w).code=opC o s m up w.code:=by
 unfold opW opS opC
 by_cases h1:o=1
 ·simp only[h1,if_true]
  exact⟨h.add s _ 0 rfl,h.put s _⟩
 ·simp only[if_neg h1]
  split
  ·refine⟨h,?_⟩
   have:=h.is s
   simp only[nZ]
   rw[←this]
   cases lkV w.vs s<;>rfl
  ·exact⟨h,rfl⟩
theorem yI{d:Nat}{o:Int}{s:List UInt8}{a:List Ex}{bd el:List Sm}(h:aE (d+1) (.mk o s a bd el)=true):bd.all (aE d)=true∧el.all (aE d)=true∧(¬(o=5∨o=6)→bd=[]∧el=[]):=by
 simp only[aE,ip,Sm.op,Sm.body,Sm.els,Bool.and_eq_true,Bool.or_eq_true,decide_eq_true_eq,List.isEmpty_iff] at h
 refine⟨h.1.2,h.2,fun hn=>⟨?_,?_⟩⟩
 ·rcases h.1.1.2 with(h|h)|h
  ·exact h
  ·exact absurd (.inl (of_decide_eq_true h)) hn
  ·exact absurd (.inr (of_decide_eq_true h)) hn
 ·rcases h.1.1.1.2 with h|h
  ·exact h
  ·exact absurd (.inl (of_decide_eq_true h)) hn
theorem gf(w:WS)(vs:List LV):(w.back vs).code=w.code:=rfl
theorem GZ(fns:List Fd)(k:Nat):∀(d b:Nat) (l:List Sm),l.all (aE d)=true→∀(w:WS) (m:Scp) (up:List Scp),SR g0 b w.vs (m::up)→
 SR g0 b (bU fns k b l w).vs ((fE fns k l m up w.code).1::up)∧(bU fns k b l w).code=(fE fns k l m up w.code).2:=by
 intro d
 induction d with
 |zero=>
  intro b l hl w m up h
  cases l with
  |nil=>exact⟨h,rfl⟩
  |cons s r=>simp[aE] at hl
 |succ d ih=>
  have dk:∀(b:Nat) (s:Sm),aE (d+1) s=true→∀(w:WS) (m:Scp) (up:List Scp),SR g0 b w.vs (m::up)→
   SR g0 b (stW fns k b s w).vs ((icS fns k s m up w.code).1::up)∧(stW fns k b s w).code=(icS fns k s m up w.code).2:=by
   intro b s hs w m up h
   obtain⟨o,n,a,bd,el⟩:=s
   obtain⟨f1,f2,f3⟩:=yI hs
   have hc:=sD fns k h.is a w.code
   obtain⟨g1,g2⟩:=Hn (w:=⟨w.vs,w.count,bS fns k w.vs a w.code⟩) h o n
   rw[stW,icS]
   simp only[hc] at g1 g2⊢
   generalize hw2:opW o n b ⟨w.vs,w.count,(bC a).foldl (eQ fns k (m::up)) w.code⟩=w2 at*
   refine⟨g1,?_⟩
   rw[gf]
   have g2':w2.code=opC o n m up (xQ fns k (m::up) a w.code):=g2
   rw[←g2']
   by_cases ho:o=5∨o=6
   ·rw[if_pos ho]
    have k1:=ih (b+1) bd f1 w2 [] _ g1.open
    have k2:=ih (b+1) el f2 ((bU fns k (b+1) bd w2).back w2.vs) [] _ g1.open
    rw[k2.2,gf,k1.2]
   ·obtain⟨rfl,rfl⟩:=f3 ho
    rw[if_neg ho]
    simp[bU,WS.back]
  intro b l
  induction l with
  |nil=>intro _ w m up h;exact⟨h,rfl⟩
  |cons s r ihl=>
   intro hl w m up h
   rw[List.all_cons,Bool.and_eq_true] at hl
   obtain⟨k1,k2⟩:=dk b s hl.1 w m up h
   have:=ihl hl.2 _ _ up k1
   rw[bU,fE,←k2]
   exact this
theorem zq:∀(ps:List (List UInt8)) (w:WS) (m:Scp),SR g0 0 w.vs [m]→SR g0 0 (ce ps w).vs [(jw ps m w.code).1]∧(ce ps w).code=(jw ps m w.code).2
 |[],w,m,h=>⟨h,rfl⟩
 |s::r,w,m,h=>by
  have hp:=h.put s w.code
  have:=zq r (iS w s 0) (ij m s 0) (h.add s w.count 0 rfl)
  simp only[ce,jw,List.foldl_cons] at this⊢
  rw[←hp]
  exact this
theorem EF{fns:List Fd}{k:Nat}{ch:List Scp}{c:Int}(h:c≠0)(e:Ex):eQ fns k ch c e=c:=by
 unfold eQ
 simp only[tl h]
 split
 ·split<;>rfl
 ·split
  ·split
   ·rfl
   ·split<;>rfl
  ·rfl
theorem uM{fns:List Fd}{k:Nat}{ch:List Scp}{c:Int}(h:c≠0):∀l:List Ex,l.foldl (eQ fns k ch) c=c
 |[]=>rfl
 |e::r=>by rw[List.foldl_cons,EF h,uM h r]
theorem EE{o:Int}{s:List UInt8}{m:Scp}{up:List Scp}{c:Int}(h:c≠0):opC o s m up c=c:=by
 unfold opC
 simp only[tl h]
 split
 ·split<;>rfl
 ·split
  ·split<;>rfl
  ·rfl
mutual
theorem Ch(fns:List Fd)(k:Nat){c:Int}(h:c≠0):∀(s:Sm) (m:Scp) (up:List Scp),(icS fns k s m up c).2=c
 | .mk o s a bd el,m,up=>by
   rw[icS]
   simp only[xQ,uM h,EE h]
   rw[ml fns k h bd,ml fns k h el,ite_self]
theorem ml(fns:List Fd)(k:Nat){c:Int}(h:c≠0):∀(l:List Sm) (m:Scp) (up:List Scp),(fE fns k l m up c).2=c
 |[],m,up=>rfl
 |s::r,m,up=>by rw[fE,Ch fns k h s m up,ml fns k h r]
end
theorem uC{c:Int}(h:c≠0):∀(ps:List (List UInt8)) (m:Scp),(jw ps m c).2=c
 |[],m=>rfl
 |s::r,m=>by
  have:=uC h r (ij m s 0)
  simp only[jw,List.foldl_cons,tl h,ite_self] at this⊢
  exact this
theorem Ev(fns:List Fd)(k:Nat)(f:Fd){c:Int}(h:c≠0):icF fns k f c=c:=by
 simp only[icF,tl h,ite_self]
 rw[uC h,ml fns k h]
theorem sX(fns:List Fd){c:Int}(h:c≠0):∀(l:List Fd) (k:Nat),iu fns k l c=c
 |[],k=>rfl
 |f::r,k=>by rw[iu,Ev fns k f h,sX fns h r]
theorem uz{fns:List Fd}{k:Nat}{f:Fd}(h:fns[k]?=some f):∃j,bT fns f.name=some j∧j≤k:=by
 cases e:bT fns f.name with
 |none=>
  rw[bT,List.findIdx?_eq_none_iff] at e
  have:=e f (List.mem_of_getElem? h)
  simp at this
 |some j=>
  refine⟨j,rfl,?_⟩
  rw[bT,List.findIdx?_eq_some_iff_getElem] at e
  obtain⟨h1,h2,h3⟩:=e
  rcases Nat.lt_or_ge k j with hk|hk
  ·have:=h3 k hk
   obtain⟨a1,a2⟩:=List.getElem?_eq_some_iff.1 h
   rw[a2] at this
   simp at this
  ·exact hk
theorem Jc(fns:List Fd){k:Nat}{f:Fd}(hf:fns[k]?=some f)(hok:jB f=true):(fnW fns k f).code=icF fns k f 0:=by
 obtain⟨j,e1,e2⟩:=uz hf
 have hb:f.body.all (aE 4)=true:=by simp only[jB,Bool.and_eq_true] at hok;exact hok.2
 have hc:(if bT fns f.name=some k then(0:Int) else 2)=if(match bT fns f.name with|some j=>decide (j<k)|none=>true) then fl 0 2 else 0:=by
  rw[e1]
  by_cases h:j=k
  ·subst h;simp
  ·have:j<k:=by omega
   simp[h,this,fl]
 obtain⟨p1,p2⟩:=zq f.params ⟨[],0,if bT fns f.name=some k then(0:Int) else 2⟩ [] SR.base
 obtain⟨q1,q2⟩:=GZ fns k 4 0 f.body hb _ _ [] p1
 rw[fnW,q2,p2]
 simp only[icF,←hc]
theorem Es(fns:List Fd):∀(l:List Fd) (k:Nat),(∀i,l[i]?=fns[k+i]?)→l.all jB=true→gb fns k l=iu fns k l 0
 |[],k,_,_=>rfl
 |f::r,k,hl,ha=>by
  rw[List.all_cons,Bool.and_eq_true] at ha
  have h0:fns[k]?=some f:=by have:=hl 0;simpa using this.symm
  have hr:∀i,r[i]?=fns[k+1+i]?:=fun i=>by have:=hl (i+1);rw[List.getElem?_cons_succ] at this;rw[this];congr 1;omega
  rw[gb,iu,Jc fns h0 ha.1]
  split
  ·rename_i e;rw[e];exact Es fns r (k+1) hr ha.2
  ·rename_i e;rw[sX fns e]
theorem zj(fns:List Fd):cm fns=if ca fns then iu fns 0 fns 0 else 1:=by
 unfold cm
 split
 ·rename_i h
  simp only[ca,Bool.and_eq_true] at h
  exact Es fns fns 0 (fun i=>by rw[Nat.zero_add]) h.1.2
 ·rfl
end Go.Proofs.YtnjbhgpbgmpkcaaGreatDoor
namespace Go.Proofs.YtnjbhgpbgmpkcaaGreatDoor
open Go Go.Aw
set_option maxRecDepth 100000
mutual
def rnS(fns:List Fd)(k b:Nat):Sm→WS→Sm
 | .mk o s a bd el,w=>
   let w2:=opW o s b ⟨w.vs,w.count,bS fns k w.vs a w.code⟩
   .mk o (opN o s w) (ia w.vs a) (fG fns k (b+1) bd w2) (fG fns k (b+1) el ((bU fns k (b+1) bd w2).back w2.vs))
def fG(fns:List Fd)(k b:Nat):List Sm→WS→List Sm
 |[],_=>[]
 |s::r,w=>rnS fns k b s w::fG fns k b r (stW fns k b s w)
end
def mN:List (List UInt8)→WS→List (List UInt8)
 |[],_=>[]
 |s::r,w=>vnm w.count::mN r (iS w s 0)
def rnF(fns:List Fd)(k:Nat)(f:Fd):Fd:=
 ⟨f.name,mN f.params ⟨[],0,if bT fns f.name=some k then 0 else 2⟩,fG fns k 0 f.body (ce f.params ⟨[],0,if bT fns f.name=some k then 0 else 2⟩)⟩
mutual
def Be:Sm→Nat
 | .mk o _ _ bd el=>(if o=1 then 1 else 0)+mY bd+mY el
def mY:List Sm→Nat
 |[]=>0
 |s::r=>Be s+mY r
end
theorem pT(o:Int)(s:List UInt8)(b:Nat)(w:WS):(opW o s b w).count=w.count+if o=1 then 1 else 0:=by
 unfold opW
 split
 ·rfl
 ·split<;>rfl
mutual
theorem ut(fns:List Fd)(k:Nat):∀(s:Sm) (b:Nat) (w:WS),(stW fns k b s w).count=w.count+Be s
 | .mk o s a bd el,b,w=>by
   rw[stW,Be]
   simp only[WS.back]
   rw[fU fns k el,fU fns k bd,pT];show w.count+_+_+_=_
   omega
theorem fU(fns:List Fd)(k:Nat):∀(l:List Sm) (b:Nat) (w:WS),(bU fns k b l w).count=w.count+mY l
 |[],b,w=>rfl
 |s::r,b,w=>by rw[bU,mY,fU fns k r,ut fns k s];omega
end
mutual
theorem FJ:∀s:Sm,Be s≤s.cnt
 | .mk o s a bd el=>by
   have:=oo bd
   have:=oo el
   simp only[Be,Sm.cnt]
   split<;>omega
theorem oo:∀l:List Sm,mY l≤da l
 |[]=>Nat.le_refl _
 |s::r=>by have:=FJ s;have:=oo r;simp only[mY,da];omega
end
theorem qo:∀(ps:List (List UInt8)) (w:WS),(ce ps w).count=w.count+ps.length
 |[],w=>rfl
 |s::r,w=>by
  have:=qo r (iS w s 0)
  simp only[ce,List.foldl_cons,List.length_cons] at this⊢
  rw[this];simp only[iS];omega
theorem Fk(o:Int)(s:List UInt8)(b:Nat)(w:WS):∃e,(opW o s b w).vs=e++w.vs:=by
 unfold opW
 split
 ·exact⟨[_],rfl⟩
 ·split<;>exact⟨[],rfl⟩
theorem ED(fns:List Fd)(k b:Nat)(o:Int)(s:List UInt8)(a:List Ex)(bd el:List Sm)(w:WS):(stW fns k b (.mk o s a bd el) w).vs=(opW o s b ⟨w.vs,w.count,bS fns k w.vs a w.code⟩).vs:=rfl
theorem xJ(fns:List Fd)(k:Nat):∀(l:List Sm) (b:Nat) (w:WS),∃e,(bU fns k b l w).vs=e++w.vs
 |[],b,w=>⟨[],rfl⟩
 | .mk o s a bd el::r,b,w=>by
   obtain⟨e1,h1⟩:=xJ fns k r b (stW fns k b (.mk o s a bd el) w)
   obtain⟨e2,h2⟩:=Fk o s b ⟨w.vs,w.count,bS fns k w.vs a w.code⟩
   exact⟨e1++e2,by rw[bU,h1,ED,h2,List.append_assoc]⟩
theorem Ha{o:Int}{s:List UInt8}{b:Nat}{w:WS}(h:w.vs.length≤w.count):(opW o s b w).vs.length≤(opW o s b w).count:=by
 unfold opW
 split
 ·simp[iS,h]
 ·split<;>exact h
theorem GW(fns:List Fd)(k:Nat){s:Sm}{b:Nat}{w:WS}(h:w.vs.length≤w.count):(stW fns k b s w).vs.length≤(stW fns k b s w).count:=by
 obtain⟨o,n,a,bd,el⟩:=s
 rw[ut,ED]
 have:=Ha (o:=o) (s:=n) (b:=b) (w:=⟨w.vs,w.count,bS fns k w.vs a w.code⟩) h
 rw[pT] at this
 simp only[Be]
 simp only at this
 omega
theorem zY(fns:List Fd)(k:Nat):∀{l:List Sm} {b:Nat} {w:WS},w.vs.length≤w.count→(bU fns k b l w).vs.length≤(bU fns k b l w).count
 |[],_,_,h=>h
 |s::r,b,w,h=>zY fns k (l:=r) (GW fns k h)
mutual
def Sm.pre(d:Nat):Sm→List (Sm × Nat)
 | .mk o s a bd el=>(.mk o s a bd el,d)::(aJ (d+1) bd++aJ (d+1) el)
def aJ(d:Nat):List Sm→List (Sm × Nat)
 |[]=>[]
 |s::r=>Sm.pre d s++aJ d r
end
theorem Sm.pre_eq(d:Nat)(s:Sm):s.pre d=(s,d)::(aJ (d+1) s.body++aJ (d+1) s.els):=by cases s;rfl
theorem kF(d:Nat):∀a b:List Sm,aJ d (a++b)=aJ d a++aJ d b
 |[],b=>rfl
 |s::r,b=>by rw[List.cons_append,aJ,aJ,kF d r b,List.append_assoc]
theorem Ex.pre_eq(e:Ex):e.pre=e::bC e.kids:=by cases e;rfl
theorem jU:∀a b:List Ex,bC (a++b)=bC a++bC b
 |[],b=>rfl
 |e::r,b=>by rw[List.cons_append,bC,bC,jU r b,List.append_assoc]
mutual
theorem Sm.pre_len:∀(s:Sm) (d:Nat),(s.pre d).length=s.cnt
 | .mk o s a bd el,d=>by simp only[Sm.pre,Sm.cnt,List.length_cons,List.length_append,iq bd,iq el];omega
theorem iq:∀(l:List Sm) (d:Nat),(aJ d l).length=da l
 |[],d=>rfl
 |s::r,d=>by simp only[aJ,da,List.length_append,Sm.pre_len s,iq r]
end
end Go.Proofs.YtnjbhgpbgmpkcaaGreatDoor
namespace Go.Proofs.YtnjbhgpbgmpkcaaGreatDoor
open Go Go.Aw
set_option maxRecDepth 100000
set_option maxHeartbeats 4000000
def K_impl_stmtOk:AK:= .seq (.reg [oJ 2 (.box 5 (.t 0)),oJ 4 (.mov (.c (.p (.bool false))))]) (.seq (.reg [oF 12 0 2,oL 13 12,oJ 14 (.call eI [(.t 13)]),oM 11 14,oJ 15 (.ext 0 (.t 11)),oJ 16 (.ext 1 (.t 11)),oJ 17 (.ext 2 (.t 11)),oJ 18 (.ext 3 (.t 11)),oM 5 15,oM 6 16,oM 7 17,oM 8 18]) (.cut (.blk 0 (.seq (.seq (.reg [oM 20 1,oJ 21 (.bin .gtr (.t 20) (.c (.p (.int .i64 4)))),oM 19 21]) (.cond (.t 19) (.skip) (.seq (.reg [oF 22 2 2,oL 23 22,oJ 24 (.len false (.t 23)),oM 25 5,oJ 26 (.bin .neq (.t 24) (.t 25)),oM 19 26]) (.cond (.t 19) (.skip) (.cut (.reg [oM 27 6,oM 28 27,⟨(some 29),some (28,true),.fldA 1 (.t 2)⟩,⟨(some 30),some (28,true),.ld none (.t 29)⟩,⟨(some 31),some (28,true),.call be [(.t 30)]⟩,⟨(some 32),some (28,true),.not (.t 31)⟩,oJ 33 (.pick (.t 28) (.t 32) (.c (.p (.bool false)))),oM 19 33]) (.cond (.t 19) (.skip) (.cut (.reg [oM 34 6,oJ 35 (.not (.t 34)),oM 36 35,⟨(some 37),some (36,true),.fldA 1 (.t 2)⟩,⟨(some 38),some (36,true),.ld none (.t 37)⟩,⟨(some 39),some (36,true),.bins .neq (.t 38) (.c (.p (.str [])))⟩,oJ 40 (.pick (.t 36) (.t 39) (.c (.p (.bool false)))),oM 19 40]) (.cond (.t 19) (.skip) (.cut (.reg [oM 41 7,oJ 42 (.not (.t 41)),oM 43 42,⟨(some 44),some (43,true),.fldA 3 (.t 2)⟩,⟨(some 45),some (43,true),.ld none (.t 44)⟩,⟨(some 46),some (43,true),.len false (.t 45)⟩,⟨(some 47),some (43,true),.bin .gtr (.t 46) (.c (.p (.int .i64 0)))⟩,oJ 48 (.pick (.t 43) (.t 47) (.c (.p (.bool false)))),oM 19 48]) (.cond (.t 19) (.skip) (.cut (.reg [oM 49 8,oJ 50 (.not (.t 49)),oM 51 50,⟨(some 52),some (51,true),.fldA 4 (.t 2)⟩,⟨(some 53),some (51,true),.ld none (.t 52)⟩,⟨(some 54),some (51,true),.len false (.t 53)⟩,⟨(some 55),some (51,true),.bin .gtr (.t 54) (.c (.p (.int .i64 0)))⟩,oJ 56 (.pick (.t 51) (.t 55) (.c (.p (.bool false)))),oM 19 56]) (.cond (.t 19) (.skip) (.reg [oF 57 0 2,oL 58 57,oJ 59 (.bin .eql (.t 58) (.c (.p (.int .i64 8)))),oM 60 59,⟨(some 61),some (60,true),.fldA 2 (.t 2)⟩,⟨(some 62),some (60,true),.ld none (.t 61)⟩,⟨(some 63),some (60,true),.idxS 4 (.t 62) (.c (.p (.int .i64 0)))⟩,⟨(some 64),some (60,true),.fldA 0 (.t 63)⟩,⟨(some 65),some (60,true),.ld none (.t 64)⟩,⟨(some 66),some (60,true),.bin .neq (.t 65) (.c (.p (.int .i64 13)))⟩,oJ 67 (.pick (.t 60) (.t 66) (.c (.p (.bool false)))),oM 19 67]))))))))))))) (.cond (.t 19) (.seq (.reg [oJ 4 (.mov (.c (.p (.bool false))))]) (.ret)) (.skip)))) (.seq (.seq (.reg [oF 68 2 2,oL 69 68,oJ 70 (.len false (.t 69)),oK 71 0]) (.blk 1 (.loop (.seq (.reg [oJ 72 (.bin .lss (.t 71) (.t 70))]) (.seq (.cond (.t 72) (.skip) (.exit 1)) (.seq (.blk 2 (.seq (.reg [oJ 73 (.idxS 4 (.t 69) (.t 71)),oJ 74 (.ld (some 4) (.t 73)),oJ 10 (.alloc [(.p (.int .i64 0)),(.p (.int .i64 0)),(.p (.str [])),.nils]),⟨none,none,.st 4 (.t 10) (.t 74)⟩]) (.seq (.reg [oJ 75 (.ld (some 4) (.t 10)),oJ 76 (.call dH [(.t 75)]),oJ 77 (.not (.t 76))]) (.cond (.t 77) (.seq (.reg [oJ 4 (.mov (.c (.p (.bool false))))]) (.ret)) (.skip))))) (.reg [oJ 78 (.bin .add (.t 71) (.c (.p (.int .i64 1)))),oM 71 78]))))))) (.seq (.reg [oF 79 3 2,oL 80 79,oM 81 1,oJ 82 (.bin .add (.t 81) (.c (.p (.int .i64 1)))),oJ 83 (.call cg [(.t 80),(.t 82)]),oM 84 83,⟨(some 85),some (84,true),.fldA 4 (.t 2)⟩,⟨(some 86),some (84,true),.ld none (.t 85)⟩,⟨(some 87),some (84,true),.mov (.t 1)⟩,⟨(some 88),some (84,true),.bin .add (.t 87) (.c (.p (.int .i64 1)))⟩,⟨(some 89),some (84,true),.call cg [(.t 86),(.t 88)]⟩,oJ 90 (.pick (.t 84) (.t 89) (.c (.p (.bool false)))),oM 4 90]) (.ret)))))
theorem tX:K_impl_stmtOk.whole=F_impl_stmtOk.ak:=rfl
variable (G:aw)
def mP(op:Int):Int:=if op=4 then 2 else if inR op 1 8 then 1 else-1
def gL(op:Int):Bool:=decide (op=5)||decide (op=6)
theorem sf(op:Int):VF Tryz.prog G eI [.p (.int .i64 op)] (.tup [.p (.int .i64 (mP op)),.p (.bool (cn op)),.p (.bool (gL op)),.p (.bool (decide (op=5)))]):=by
 refine AC.go qX ?_
 by_cases h1:op=1
 ·subst h1;simp-implicitDefEqProofs[aR,mP,inR,cn,gL]
 by_cases h2:op=2
 ·subst h2;simp-implicitDefEqProofs[aR,mP,inR,cn,gL]
 by_cases h3:op=3
 ·subst h3;simp-implicitDefEqProofs[aR,mP,inR,cn,gL]
 by_cases h4:op=4
 ·subst h4;simp-implicitDefEqProofs[aR,mP,inR,cn,gL]
 by_cases h5:op=5
 ·subst h5;simp-implicitDefEqProofs[aR,mP,inR,cn,gL]
 by_cases h6:op=6
 ·subst h6;simp-implicitDefEqProofs[aR,mP,inR,cn,gL]
 by_cases h7:op=7
 ·subst h7;simp-implicitDefEqProofs[aR,mP,inR,cn,gL]
 by_cases h8:op=8
 ·subst h8;simp-implicitDefEqProofs[aR,mP,inR,cn,gL]
 have ha:mP op= -1:=by
  have:inR op 1 8=false:=by simp[inR];omega
  rw[mP,if_neg h4,this];rfl
 have hn:cn op=false:=by simp[cn,h1,h2]
 have hb:gL op=false:=by simp[gL,h5,h6]
 rw[ha,hn,hb]
 simp-implicitDefEqProofs[aR,h1,h2,h3,h4,h5,h6,h7,h8]
def yu:List Ex→Bool
 |a::_=>decide (a.op=13)
 |[]=>false
def gC(s:Sm):Bool:=decide ((s.args.length:Int)=mP s.op)&&(!cn s.op||az s.name)&&(cn s.op||decide (s.name=[]))&&(gL s.op||decide (s.body=[]))&&(decide (s.op=5)||decide (s.els=[]))&&
 (!decide (s.op=8)||yu s.args)
theorem BK(s:Sm):ip s=(inR s.op 1 8&&decide (s.args.length=jH s.op)&&(cn s.op==az s.name)&&(cn s.op||decide (s.name=[]))&&s.args.all kT&&
 (!decide (s.op=8)||yu s.args)&&(s.els.isEmpty||decide (s.op=5))&&(s.body.isEmpty||decide (s.op=5)||decide (s.op=6))):=by
 unfold ip
 cases s.args<;>rfl
theorem wZ(s:Sm):ip s=(gC s&&s.args.all kT):=by
 have ha:decide ((s.args.length:Int)=mP s.op)=(inR s.op 1 8&&decide (s.args.length=jH s.op)):=by
  unfold mP jH
  by_cases h4:s.op=4
  ·have:inR s.op 1 8=true:=by simp[inR,h4]
   rw[this,if_pos h4,if_pos h4];simp;omega
  ·rw[if_neg h4,if_neg h4]
   cases h:inR s.op 1 8 with
   |true=>simp;omega
   |false=>simp
 have hn:(cn s.op==az s.name&&(cn s.op||decide (s.name=[])))=((!cn s.op||az s.name)&&(cn s.op||decide (s.name=[]))):=by
  cases cn s.op with
  |true=>cases az s.name<;>rfl
  |false=>
   by_cases h:s.name=[]
   ·rw[h,nN];rfl
   ·simp[h]
 have hb:(s.body.isEmpty||decide (s.op=5)||decide (s.op=6))=(gL s.op||decide (s.body=[])):=by
  rw[gL]
  cases s.body<;>cases decide (s.op=5)<;>cases decide (s.op=6)<;>simp
 have he:(s.els.isEmpty||decide (s.op=5))=(decide (s.op=5)||decide (s.els=[])):=by
  cases s.els<;>cases decide (s.op=5)<;>simp
 rw[BK]
 unfold gC
 rw[ha,hb,he]
 generalize yu s.args=z
 generalize (cn s.op==az s.name)=c at hn⊢
 generalize (!cn s.op||az s.name)=c' at hn⊢
 generalize (cn s.op||decide (s.name=[]))=d at hn⊢
 generalize s.args.all kT=x
 generalize (gL s.op||decide (s.body=[]))=y
 generalize (decide (s.op=5)||decide (s.els=[]))=y'
 generalize (!decide (s.op=8))=u
 cases inR s.op 1 8<;>cases decide (s.args.length=jH s.op)<;>cases c<;>cases c'<;>cases d<;>cases x<;>cases y<;>cases y'<;>cases u<;>cases z<;>simp_all
variable (hK:G gE=some fW) (hS:G dq=some [.tbl opK opV])
def yn(d:Nat)(L:List Sm):Int:=match L.findIdx? (fun s=> !aE d s) with|some i=>i|none=> -1
theorem DR(d:Nat)(L:List Sm):decide (0≤yn d L)= !(L.all (aE d)):=by
 unfold yn
 cases h:L.findIdx? (fun x=> !aE d x) with
 |none=>
  rw[List.findIdx?_eq_none_iff] at h
  have:L.all (aE d)=true:=List.all_eq_true.2 fun x hx=>by have:=h x hx;simpa using this
  simp[this]
 |some i=>
  rw[List.findIdx?_eq_some_iff_getElem] at h
  obtain⟨h1,h2,_⟩:=h
  have:L.all (aE d)=false:=List.all_eq_false.2 ⟨_,List.getElem_mem h1,by simpa using h2⟩
  rw[this];simp
theorem qE(d:Nat)(nest:Int)(hs:∀s:Sm,s.sz≤1073741824→VF Tryz.prog G gl [.agg (s.cs.map .p),.p (.int .i64 nest)] (.p (.bool (aE d s))))(L:List Sm)(hL:au L≤1073741824):
 VF Tryz.prog G cg [.p (smL L),.p (.int .i64 nest)] (.p (.bool (L.all (aE d)))):=by
 have hsl:smL L= .lst 5 (L.map Sm.cs):=rfl
 have hll:=aZ L
 have dk:∀s:Sm,s.sz≤1073741824→AC Tryz.prog G bZ [.agg (s.cs.map .p),.ptr 0 1 0 0] [.row 1 [[.p (.int .i64 nest)]]] fun x h=>x= .ret (.p (.bool (!aE d s)))∧h=[.row 1 [[.p (.int .i64 nest)]]]:=by
  intro s hz
  refine AC.trim (AC.go pY ?_) (by simp[below])
  have hse:=s.cs_eq
  have h1:=hs s hz
  rw[hse] at h1
  simp-implicitDefEqProofs[jW,hse]
  refine h1.use ?_
  simp-implicitDefEqProofs[]
 have idx:AC Tryz.prog G bP [.p (smL L),.fn (.func bZ) [.ptr 0 1 0 0]] [.row 1 [[.p (.int .i64 nest)]]] fun x h=>x= .ret (.p (.int .i64 (yn d L)))∧h=[.row 1 [[.p (.int .i64 nest)]]]:=by
  refine AC.go gH ?_
  simp-implicitDefEqProofs[cX,hsl]
  refine aq (fun i:Nat=>af 19 [(0,.p (smL L)),(1,.fn (.func bZ) [.ptr 0 1 0 0]),(7,.p (.int .i64 L.length)),(8,.p (.int .i64 i))]) (fun _=>[.row 1 [[.p (.int .i64 nest)]]]) (fun i=>i≤L.length∧∀w∈L.take i,aE d w=true) (fun i=>L.length-i) 0 (by simp) ?_ ?_
  ·exact ab (by simp) (by simp[okO,below]) (by simp[below,aj,hsl])
  ·intro i ⟨hi,hn⟩
   simp-implicitDefEqProofs[hsl]
   refine aQ (fun h1=>?_) (fun h1=>?_)
   ·simp at h1
    have hg:=List.getElem?_eq_getElem h1
    have hz:=aN (List.getElem_mem h1)
    simp-implicitDefEqProofs[hg]
    refine(dk L[i] (by omega)).mono ?_
    rintro r h ⟨rfl,rfl⟩
    by_cases he:aE d L[i]=true
    ·simp-implicitDefEqProofs[aa,he]
     refine⟨i+1,⟨h1,fun p hp=>?_⟩,by omega,ab (by simp) (by simp[okO,below]) (by simp[below,aj,hsl,w1 (i:=i) (by omega)])⟩
     rw[ah h1] at hp
     rcases List.mem_append.1 hp with hp|hp
     ·exact hn p hp
     ·rw[List.mem_singleton.1 hp];exact he
    ·have hf:yn d L=i:=by
      have:L.findIdx? (fun w=> !aE d w)=some i:=by
       rw[List.findIdx?_eq_some_iff_getElem]
       exact⟨h1,by simpa using he,fun j hj=>by have:=hn L[j] (List.mem_take_iff_getElem.2 ⟨j,by omega,rfl⟩);simpa using this⟩
      rw[yn,this]
     simp-implicitDefEqProofs[aa,he,hf]
   ·simp at h1
    rw[List.take_of_length_le h1] at hn
    have hf:yn d L= -1:=by
     have:L.findIdx? (fun w=> !aE d w)=none:=by
      rw[List.findIdx?_eq_none_iff];intro x hx;simpa using hn x hx
     rw[yn,this]
    simp-implicitDefEqProofs[hf]
 have con:AC Tryz.prog G bq [.p (smL L),.fn (.func bZ) [.ptr 0 1 0 0]] [.row 1 [[.p (.int .i64 nest)]]] fun x h=>x= .ret (.p (.bool (!L.all (aE d))))∧h=[.row 1 [[.p (.int .i64 nest)]]]:=by
  refine AC.go fH ?_
  simp-implicitDefEqProofs[cE]
  refine idx.mono ?_
  rintro r h ⟨rfl,rfl⟩
  have:=DR d L
  simp-implicitDefEqProofs[aa]
  simpa using this
 refine AC.go rR ?_
 simp-implicitDefEqProofs[mb]
 refine con.mono ?_
 rintro r h ⟨rfl,rfl⟩
 simp-implicitDefEqProofs[aa]
include hS hK
theorem Cr:∀d:Nat,d≤4→∀s:Sm,s.sz≤1073741824→VF Tryz.prog G gl [.agg (s.cs.map .p),.p (.int .i64 (5-d))] (.p (.bool (aE d s))):=by
 intro d
 induction d with
 |zero=>
  intro _ s hz
  have hse:=s.cs_eq
  refine AC.go nc ?_
  simp-implicitDefEqProofs[F_impl_stmtOk,hse]
  refine(sf G _).use ?_
  simp-implicitDefEqProofs[aE]
 |succ d ih=>
  intro hd s hz
  have hse:=s.cs_eq
  have hsz:=s.sz_eq
  have hal:=aW s.args
  have hblk:=qE G d (5-d) (ih (by omega))
  have hnn:(5:Int)-((d+1:Nat):Int)=4-d:=by omega
  have hnw:IntKind.i64.wrap (4-(d:Int)+1)=5-d:=by rw[al (by omega) (by omega)];omega
  have hn4:¬(4:Int)<4-d:=by omega
  have hxl:exL s.args= .lst 4 (s.args.map Ex.cs):=rfl
  have hsl:∀l,smL l= .lst 5 (l.map Sm.cs):=fun _=>rfl
  rw[hnn]
  have hbad:gC s=false→aE (d+1) s=false:=fun h=>by rw[aE,wZ,h];rfl
  refine AC.goK nc tX ?_
  simp-implicitDefEqProofs[K_impl_stmtOk,F_impl_stmtOk,hse]
  refine(sf G _).use ?_
  simp-implicitDefEqProofs[]
  refine vA (fun _:Unit=>af 91 [(1,.p (.int .i64 (4-d))),(2,.ptr 0 5 0 0)]) (fun _=>[.row 5 [[.p (.int .i64 s.op),.p (.str s.name),.p (exL s.args),.p (smL s.body),.p (smL s.els)]]]) (fun _=>gC s=true) ?_ ?_
  ·have fin:∀(r1:List (Nat × AV)),Aw.look r1 1= .p (.int .i64 (4-d))→Aw.look r1 2= .ptr 0 5 0 0→
    Wk 0 (af 91 r1) [.row 5 [[.p (.int .i64 s.op),.p (.str s.name),.p (exL s.args),.p (smL s.body),.p (smL s.els)]]] (af 91 [(1,.p (.int .i64 (4-d))),(2,.ptr 0 5 0 0)]) [.row 5 [[.p (.int .i64 s.op),.p (.str s.name),.p (exL s.args),.p (smL s.body),.p (smL s.els)]]]:=fun r1 a b=>
    ab (by simp) (by simp[okO,below]) (by simp[below,a,b])
   have hb0:s.body=[]∨0<s.body.length:=by cases s.body<;>simp
   have he0:s.els=[]∨0<s.els.length:=by cases s.els<;>simp
   by_cases hl:(s.args.length:Int)=mP s.op
   case neg=>
    rw[hbad (by simp[gC,hl])]
    simp-implicitDefEqProofs[hn4,hxl,hl]
   have hel:(decide (s.els=[]))= !decide (0<s.els.length):=by cases s.els<;>simp
   have hbo:(decide (s.body=[]))= !decide (0<s.body.length):=by cases s.body<;>simp
   simp-implicitDefEqProofs[hn4,hxl,hl]
   refine lh (af 91 [(1,.p (.int .i64 (4-d))),(2,.ptr 0 5 0 0),(6,.p (.bool (cn s.op))),(7,.p (.bool (gL s.op))),(8,.p (.bool (decide (s.op=5)))),(19,.p (.bool (cn s.op&& !az s.name)))]) ([.row 5 [[.p (.int .i64 s.op),.p (.str s.name),.p (exL s.args),.p (smL s.body),.p (smL s.els)]]]) ?_ ?_
   ·cases hn:cn s.op with
    |true=>
     simp-implicitDefEqProofs[]
     refine(lC G hK _ (by omega)).use ?_
     simp-implicitDefEqProofs[]
     exact ab (by simp) (by simp[okO,below]) (by simp[below])
    |false=>
     simp-implicitDefEqProofs[]
     exact ab (by simp) (by simp[okO,below]) (by simp[below])
   by_cases h2:(cn s.op&& !az s.name)=true
   ·rw[hbad (by simp only[gC];cases h:cn s.op<;>cases h':az s.name<;>simp[h,h'] at h2⊢)]
    simp-implicitDefEqProofs[h2]
   have h2':(cn s.op&& !az s.name)=false:=by simpa using h2
   rw[h2']
   simp-implicitDefEqProofs[]
   refine lh (af 91 [(1,.p (.int .i64 (4-d))),(2,.ptr 0 5 0 0),(6,.p (.bool (cn s.op))),(7,.p (.bool (gL s.op))),(8,.p (.bool (decide (s.op=5)))),(19,.p (.bool (!cn s.op&& !decide (s.name=[]))))]) ([.row 5 [[.p (.int .i64 s.op),.p (.str s.name),.p (exL s.args),.p (smL s.body),.p (smL s.els)]]]) ?_ ?_
   ·cases hn:cn s.op with
    |true=>
     simp-implicitDefEqProofs[]
     exact ab (by simp) (by simp[okO,below]) (by simp[below])
    |false=>
     simp-implicitDefEqProofs[]
     exact ab (by simp) (by simp[okO,below]) (by simp[below])
   by_cases h3:(!cn s.op&& !decide (s.name=[]))=true
   ·rw[hbad (by simp only[gC];cases h:cn s.op<;>cases h':decide (s.name=[])<;>simp[h,h'] at h3⊢)]
    simp-implicitDefEqProofs[h3]
   have h3':(!cn s.op&& !decide (s.name=[]))=false:=by simpa using h3
   rw[h3']
   simp-implicitDefEqProofs[]
   refine lh (af 91 [(1,.p (.int .i64 (4-d))),(2,.ptr 0 5 0 0),(6,.p (.bool (cn s.op))),(7,.p (.bool (gL s.op))),(8,.p (.bool (decide (s.op=5)))),(19,.p (.bool (!gL s.op&&decide (0<s.body.length))))]) ([.row 5 [[.p (.int .i64 s.op),.p (.str s.name),.p (exL s.args),.p (smL s.body),.p (smL s.els)]]]) ?_ ?_
   ·cases hn:gL s.op with
    |true=>
     simp-implicitDefEqProofs[hsl]
     exact ab (by simp) (by simp[okO,below]) (by simp[below])
    |false=>
     simp-implicitDefEqProofs[hsl]
     exact ab (by simp) (by simp[okO,below]) (by simp[below])
   by_cases h4:(!gL s.op&&decide (0<s.body.length))=true
   ·rw[hbad (by simp only[gC,hbo];cases h:gL s.op<;>cases h':decide (0<s.body.length)<;>simp[h,h'] at h4⊢)]
    simp-implicitDefEqProofs[h4]
   have h4':(!gL s.op&&decide (0<s.body.length))=false:=by simpa using h4
   rw[h4']
   simp-implicitDefEqProofs[]
   refine lh (af 91 [(1,.p (.int .i64 (4-d))),(2,.ptr 0 5 0 0),(6,.p (.bool (cn s.op))),(7,.p (.bool (gL s.op))),(8,.p (.bool (decide (s.op=5)))),(19,.p (.bool (!decide (s.op=5)&&decide (0<s.els.length))))]) ([.row 5 [[.p (.int .i64 s.op),.p (.str s.name),.p (exL s.args),.p (smL s.body),.p (smL s.els)]]]) ?_ ?_
   ·cases hn:decide (s.op=5) with
    |true=>
     simp-implicitDefEqProofs[hsl]
     exact ab (by simp) (by simp[okO,below]) (by simp[below])
    |false=>
     simp-implicitDefEqProofs[hsl]
     exact ab (by simp) (by simp[okO,below]) (by simp[below])
   by_cases h5:(!decide (s.op=5)&&decide (0<s.els.length))=true
   ·rw[hbad (by simp only[gC,hel];cases h:decide (s.op=5)<;>cases h':decide (0<s.els.length)<;>simp[h,h'] at h5⊢)]
    simp-implicitDefEqProofs[h5]
   have h5':(!decide (s.op=5)&&decide (0<s.els.length))=false:=by simpa using h5
   rw[h5']
   have hh1:gC s=(!decide (s.op=8)||yu s.args):=by
    simp only[gC,hl,decide_true,Bool.true_and,hel,hbo]
    cases h:cn s.op<;>cases hi:az s.name<;>cases hm:decide (s.name=[])<;>cases hb:gL s.op<;>cases hc:decide (0<s.body.length)<;>cases ho:decide (s.op=5)<;>cases he:decide (0<s.els.length)<;>simp[h,hi,hm,hb,hc,ho,he] at h2' h3' h4' h5'⊢
   by_cases o8:s.op=8
   ·have ha1:s.args.length=1:=by
     have:mP s.op=1:=by rw[o8];rfl
     omega
    obtain⟨a0,ha0⟩:∃a0,s.args=[a0]:=by
     match hh:s.args,ha1 with
     |[x],_=>exact⟨x,rfl⟩
    have hae:=a0.cs_eq
    rw[hh1,o8,ha0]
    rw[o8,ha0] at fin
    have hxa:exL [a0]= .lst 4 [a0.cs]:=rfl
    by_cases hc:a0.op=13
    ·have h13:yu [a0]=true:=by simp[yu,hc]
     simp-implicitDefEqProofs[o8,hae,hc,h13,hxa]
     rw[hxa,hae,hc] at fin
     exact fin _ (by simp) (by simp)
    ·rw[hbad (by rw[hh1,o8,ha0];simp[yu,hc])]
     simp-implicitDefEqProofs[o8,hae,hc,hxa]
   ·have hh2:gC s=true:=by rw[hh1];simp[o8]
    simp-implicitDefEqProofs[o8,hh2]
    exact fin _ (by simp) (by simp)
  intro _ h1
  have hh:aE (d+1) s=(s.args.all kT&&(s.body.all (aE d)&&s.els.all (aE d))):=by rw[aE,wZ,h1,Bool.true_and,Bool.and_assoc]
  simp-implicitDefEqProofs[hxl]
  refine aq (fun i:Nat=>af 91 [(1,.p (.int .i64 (4-d))),(2,.ptr 0 5 0 0),(69,.p (exL s.args)),(70,.p (.int .i64 s.args.length)),(71,.p (.int .i64 i))]) (fun _=>[.row 5 [[.p (.int .i64 s.op),.p (.str s.name),.p (exL s.args),.p (smL s.body),.p (smL s.els)]]]) (fun i=>i≤s.args.length∧(s.args.take i).all kT=true) (fun i=>s.args.length-i) 0 (by simp) ?_ ?_
  ·exact ab (by simp) (by simp[okO,below]) (by simp[below,hxl])
  rintro i ⟨hi,ha⟩
  simp-implicitDefEqProofs[hxl]
  refine aQ (fun h=>?_) (fun h=>?_)
  ·simp at h
   have hg:=List.getElem?_eq_getElem h
   have hks:=aO (List.getElem_mem h)
   have hkc:=s.args[i].cs_eq
   have hx:=xK G hK hS s.args[i] (by omega)
   rw[hkc] at hx
   simp-implicitDefEqProofs[hg,hkc]
   refine hx.use ?_
   by_cases ho:kT s.args[i]=true
   ·simp-implicitDefEqProofs[ho]
    refine⟨i+1,⟨h,by rw[←List.all_eq_true,di h,ha,ho];rfl⟩,by omega,?_⟩
    refine jk (m:=1) (by omega) (ex rfl rfl (by simp[okO,below])) (by simp[below,hxl,w1 (i:=i) (by omega)])
   ·have ho':kT s.args[i]=false:=by simpa using ho
    rw[hh,kB h ho']
    simp-implicitDefEqProofs[ho']
  ·simp at h
   have ha2:s.args.all kT=true:=fh h ha
   rw[hh,ha2,Bool.true_and]
   simp-implicitDefEqProofs[hnw]
   refine(hblk s.body (by omega)).use ?_
   cases hb:s.body.all (aE d) with
   |true=>
    simp-implicitDefEqProofs[hnw]
    refine(hblk s.els (by omega)).use ?_
    simp-implicitDefEqProofs[]
   |false=>
    simp-implicitDefEqProofs[]
end Go.Proofs.YtnjbhgpbgmpkcaaGreatDoor
namespace Go.Proofs.YtnjbhgpbgmpkcaaGreatDoor
open Go Go.Aw
set_option maxRecDepth 100000
set_option maxHeartbeats 4000000
variable (G:aw)
structure Vis (σ:Type) where
 I:σ→List AO
 n:Nat
 F:FuncId
 caps:List AV
 len:∀st,(I st).length=n
 ok:∀st,∀o∈I st,okO n o
 capsOk:aj n caps
theorem Vis.pre{σ:Type}(V:Vis σ){f:FuncId}{args:List AV}{st st':σ}{v:AV}(H:AC Tryz.prog G f args (V.I st) fun x h=>x= .ret v∧h=V.I st')(rest:List AO)(ha:aj V.n args):
 AC Tryz.prog G f args (V.I st++rest) fun x h=>x= .ret v∧h=V.I st'++rest:=by
 refine(AC.pre H rest (by rw[V.len];exact ha) (by rw[V.len];exact V.ok st) ?_).mono ?_
 ·rintro x h ⟨_,rfl⟩;rw[V.len,V.len]
 ·rintro x h ⟨h1,⟨rfl,rfl⟩,rfl⟩
  exact⟨rfl,rfl⟩
theorem Vis.trim{σ:Type}(V:Vis σ){f:FuncId}{args:List AV}{st st':σ}{v:AV}(H:AC Tryz.prog G f args (V.I st) fun x h=>x= .ret v∧∃l,h=V.I st'++l)(hv:below V.n v):
 AC Tryz.prog G f args (V.I st) fun x h=>x= .ret v∧h=V.I st':=by
 refine H.wk (fun t v h ⟨e,_⟩=>by cases e) ?_
 rintro u h ⟨e,l,rfl⟩
 cases e
 refine⟨v,V.I st',rP (n:=V.n) (by rw[V.len];exact Nat.le_refl _) (ex (by rw[←V.len st',List.take_left'];rfl) (V.len _) (V.ok _)) ?_,rfl,rfl⟩
 simp[Fgt,hv]
theorem oG{n m:Nat}(h:n≤m){o:AO}(ho:okO n o):okO m o:=by
 cases o with
 |dead=>trivial
 |sit=>trivial
 |row sz es=>exact fun e he=>aL h _ (ho e he)
 |mp es=>exact fun e he=>(aL h [e.2] ⟨ho e he,trivial⟩).1
theorem Vis.oks{σ:Type}(V:Vis σ)(st:σ){m:Nat}(hm:V.n≤m){r:List AO}(hr:∀o∈r,okO m o):∀o∈V.I st++r,okO m o:=by
 intro o ho
 rcases List.mem_append.1 ho with h|h
 ·exact oG hm (V.ok st o h)
 ·exact hr o h
theorem Vis.same{σ:Type}(V:Vis σ)(st:σ){k n:Nat}(hk:k≤V.n){r s:List AO}{l l1:List (Nat × AV)}(hr:∀o∈r,okO (V.n+r.length) o)(H:FgA (V.n+r.length) l l1):Wk k (af n l) (V.I st++(r++s)) (af n l1) (V.I st++r):=by
 have hl:(V.I st++r).length=V.n+r.length:=by rw[List.length_append,V.len]
 refine jk (m:=V.n+r.length) (by omega) (ex ?_ hl (V.oks st (by omega) hr)) H
 rw[←List.append_assoc,←hl,List.take_left'];rfl
theorem Vis.same0{σ:Type}(V:Vis σ)(st:σ){k n:Nat}(hk:k≤V.n){s:List AO}{l l1:List (Nat × AV)}(H:FgA V.n l l1):Wk k (af n l) (V.I st++s) (af n l1) (V.I st):=by
 refine jk (m:=V.n) (by omega) (ex ?_ (V.len _) (V.ok st)) H
 rw[←V.len st,List.take_left'];rfl
theorem Fy{α:Type}{a b:List α}{n:Nat}(h:a.length=n)(i:Nat):(a++b)[n+i]?=b[i]?:=by
 rw[←h,List.getElem?_append_right (by omega)];congr 1;omega
theorem EZ{σ:Type}(V:Vis σ)(step:σ→Ex→σ)(inv:σ→Prop)(B:Nat)(hB:B≤1073741824)
 (hv:∀st e,inv st→e.sz≤B→inv (step st e)∧AC Tryz.prog G V.F (.agg (e.cs.map .p)::V.caps) (V.I st) fun x h=>x= .ret (.tup [])∧h=V.I (step st e)):
 ∀(N:Nat) (e:Ex),e.sz<N→e.sz≤B→∀st,inv st→inv (e.pre.foldl step st)∧AC Tryz.prog G dL [.agg (e.cs.map .p),.fn (.func V.F) V.caps] (V.I st) fun x h=>x= .ret (.tup [])∧h=V.I (e.pre.foldl step st):=by
 intro N
 induction N with
 |zero=>intro e h;omega
 |succ N ih=>
  intro e he hz st hi
  have hec:=e.cs_eq
  have hsz:=e.sz_eq
  have hkl:=aW e.kids
  have hxl:exL e.kids= .lst 4 (e.kids.map Ex.cs):=rfl
  have hlen:=V.len
  obtain⟨i1,h1⟩:=hv st e hi hz
  have hinv:∀i,i≤e.kids.length→inv ((bC (e.kids.take i)).foldl step (step st e)):=by
   intro i
   induction i with
   |zero=>intro _;exact i1
   |succ i ihi=>
    intro hl
    have hg:i<e.kids.length:=by omega
    have hks:=aO (List.getElem_mem hg)
    rw[ah hg,jU,List.foldl_append,bC,bC,List.append_nil]
    exact(ih e.kids[i] (by omega) (by omega) _ (ihi (by omega))).1
  refine⟨?_,?_⟩
  ·rw[Ex.pre_eq,List.foldl_cons]
   have:=hinv e.kids.length (Nat.le_refl _)
   rwa[List.take_length] at this
  refine V.trim G (AC.go ou ?_) (by simp[below])
  have hcb:=V.capsOk
  have hcb1:aj (V.n+1) V.caps:=aL (by omega) _ hcb
  rw[hec] at h1
  simp-implicitDefEqProofs[kE,hec,hlen]
  refine(V.pre G h1 _ ⟨by simp[below],hcb⟩).mono ?_
  rintro r h ⟨rfl,rfl⟩
  simp-implicitDefEqProofs[aa,hlen,hxl]
  refine aq (fun i:Nat=>af 20 [(1,.fn (.func V.F) V.caps),(2,.ptr V.n 4 0 0),(10,.p (exL e.kids)),(11,.p (.int .i64 e.kids.length)),(12,.p (.int .i64 i))])
   (fun i=>V.I ((bC (e.kids.take i)).foldl step (step st e))++[.row 4 [[.p (.int .i64 e.op),.p (.int .i64 e.n),.p (.str e.name),.p (exL e.kids)]]]) (fun i=>i≤e.kids.length) (fun i=>e.kids.length-i) 0 (by simp) ?_ ?_
  ·refine V.same (r:=[_]) (s:=[]) _ (Nat.le_refl _) (by simp[okO,below]) ?_
   simp[below,hxl,hcb1]
  intro i hil
  simp-implicitDefEqProofs[hxl]
  refine aQ (fun hc=>?_) (fun hc=>?_)
  ·simp at hc
   have hg:=List.getElem?_eq_getElem hc
   have hks:=aO (List.getElem_mem hc)
   have hkc:=e.kids[i].cs_eq
   have hI:=(ih e.kids[i] (by omega) (by omega) _ (hinv i hil)).2
   rw[hkc] at hI
   simp-implicitDefEqProofs[hg,hkc,hlen]
   refine(V.pre G hI _ ⟨by simp[below],by simp[below,hcb],trivial⟩).mono ?_
   rintro r h ⟨rfl,rfl⟩
   simp-implicitDefEqProofs[aa]
   refine⟨i+1,hc,by omega,?_⟩
   have hf:(bC (e.kids.take (i+1))).foldl step (step st e)=e.kids[i].pre.foldl step ((bC (e.kids.take i)).foldl step (step st e)):=by
    rw[ah hc,jU,List.foldl_append,bC,bC,List.append_nil]
   rw[hf]
   refine V.same (r:=[_]) (s:=[_]) _ (Nat.le_refl _) (by simp[okO,below]) ?_
   simp[below,hxl,hcb1,w1 (i:=i) (by omega)]
  ·simp at hc
   have hie:i=e.kids.length:=by omega
   subst hie
   rw[List.take_length,Ex.pre_eq,List.foldl_cons]
   simp-implicitDefEqProofs[]
theorem EO{σ:Type}(V:Vis σ)(step:σ→Sm × Nat→σ)(inv:σ→Prop)(B:Nat)(hB:B≤1073741824)
 (hv:∀st s d,inv st→s.sz≤B→inv (step st (s,d))∧AC Tryz.prog G V.F (.agg (s.cs.map .p):: .p (.int .i64 (d:Nat))::V.caps) (V.I st) fun x h=>x= .ret (.tup [])∧h=V.I (step st (s,d))):
 ∀(N:Nat) (l:List Sm),au l<N→au l≤B→∀(d:Nat),d+au l≤1099511627776→∀st,inv st→inv ((aJ d l).foldl step st)∧AC Tryz.prog G cR [.p (smL l),.p (.int .i64 d),.fn (.func V.F) V.caps] (V.I st) fun x h=>x= .ret (.tup [])∧h=V.I ((aJ d l).foldl step st):=by
 intro N
 induction N with
 |zero=>intro l h;omega
 |succ N ih=>
  intro l hl hz d hd st hi
  have hll:=aZ l
  have hlen:=V.len
  have hsl:∀l,smL l= .lst 5 (l.map Sm.cs):=fun _=>rfl
  have hone:∀s:Sm,s∈l→∀st,inv st→inv ((s.pre d).foldl step st):=by
   intro s hs st hi
   have hm:=aN hs
   have hsz:=s.sz_eq
   have i1:=(hv st s d hi (by omega)).1
   have i2:=(ih s.body (by omega) (by omega) (d+1) (by omega) _ i1).1
   have i3:=(ih s.els (by omega) (by omega) (d+1) (by omega) _ i2).1
   rw[Sm.pre_eq,List.foldl_cons,List.foldl_append]
   exact i3
  have hinv:∀i,i≤l.length→inv ((aJ d (l.take i)).foldl step st):=by
   intro i
   induction i with
   |zero=>intro _;exact hi
   |succ i ihi=>
    intro hl
    have hg:i<l.length:=by omega
    rw[ah hg,kF,List.foldl_append,aJ,aJ,List.append_nil]
    exact hone _ (List.getElem_mem hg) _ (ihi (by omega))
  refine⟨?_,?_⟩
  ·have:=hinv l.length (Nat.le_refl _)
   rwa[List.take_length] at this
  refine V.trim G (AC.go oW ?_) (by simp[below])
  have hcb:=V.capsOk
  simp-implicitDefEqProofs[kf,hsl]
  refine aq (fun i:Nat=>af 31 [(1,.p (.int .i64 d)),(2,.fn (.func V.F) V.caps),(8,.p (smL l)),(9,.p (.int .i64 l.length)),(10,.p (.int .i64 i))])
   (fun i=>V.I ((aJ d (l.take i)).foldl step st)) (fun i=>i≤l.length) (fun i=>l.length-i) 0 (by simp) ?_ ?_
  ·rw[hlen]
   have:=V.same0 (s:=[]) st (k:=V.n) (n:=31) (Nat.le_refl _) (l:=[(10,.p (.int .i64 0)),(9,.p (.int .i64 l.length)),(8,.p (smL l)),(0,.p (smL l)),(1,.p (.int .i64 d)),(2,.fn (.func V.F) V.caps)]) (l1:=[(1,.p (.int .i64 d)),(2,.fn (.func V.F) V.caps),(8,.p (smL l)),(9,.p (.int .i64 l.length)),(10,.p (.int .i64 0))]) (by simp[below,hcb])
   rw[List.append_nil] at this
   exact this
  intro i hil
  simp-implicitDefEqProofs[hsl]
  refine aQ (fun hc=>?_) (fun hc=>?_)
  ·simp at hc
   have hg:=List.getElem?_eq_getElem hc
   have hks:=aN (List.getElem_mem hc)
   have hkc:=l[i].cs_eq
   have hsz:=l[i].sz_eq
   have hf:(aJ d (l.take (i+1))).foldl step st=(l[i].pre d).foldl step ((aJ d (l.take i)).foldl step st):=by
    rw[ah hc,kF,List.foldl_append,aJ,aJ,List.append_nil]
   have ii:=hinv i hil
   obtain⟨i1,h1⟩:=hv _ l[i] d ii (by omega)
   obtain⟨i2,h2⟩:=ih l[i].body (by omega) (by omega) (d+1) (by omega) _ i1
   obtain⟨i3,h3⟩:=ih l[i].els (by omega) (by omega) (d+1) (by omega) _ i2
   rw[Sm.pre_eq,List.foldl_cons,List.foldl_append] at hf
   have hwd:IntKind.i64.wrap ((d:Int)+1)=((d+1:Nat):Int):=by rw[al (by omega) (by omega)];omega
   rw[hkc] at h1
   simp-implicitDefEqProofs[hg,hkc,hlen]
   refine(V.pre G h1 _ ⟨by simp,by simp,hcb⟩).mono ?_
   rintro r h ⟨rfl,rfl⟩
   simp-implicitDefEqProofs[aa,hlen,hwd]
   refine(V.pre G h2 _ ⟨by simp,by simp,by simp[below,hcb],trivial⟩).mono ?_
   rintro r h ⟨rfl,rfl⟩
   simp-implicitDefEqProofs[aa,hlen,hwd]
   refine(V.pre G h3 _ ⟨by simp,by simp,by simp[below,hcb],trivial⟩).mono ?_
   rintro r h ⟨rfl,rfl⟩
   simp-implicitDefEqProofs[aa]
   refine⟨i+1,hc,by omega,?_⟩
   rw[hf]
   refine V.same0 (s:=[_]) _ (Nat.le_refl _) ?_
   simp[below,hsl,hcb,w1 (i:=i) (by omega)]
  ·simp at hc
   have hie:i=l.length:=by omega
   subst hie
   rw[List.take_length]
   simp-implicitDefEqProofs[]
end Go.Proofs.YtnjbhgpbgmpkcaaGreatDoor
namespace Go.Proofs.YtnjbhgpbgmpkcaaGreatDoor
open Go Go.Aw
set_option maxRecDepth 100000
set_option maxHeartbeats 4000000
variable (G:aw)
abbrev MS:=Int × Int
def mX(st:MS)(x:Sm × Nat):MS:=(IntKind.i64.wrap (st.1+1),if st.2<(x.2:Int) then(x.2:Int) else st.2)
def nn(l:List Fd)(st:MS):MS:=l.foldl (fun st f=>(aJ 1 f.body).foldl mX st) st
theorem ty:∀(l:List (Sm × Nat)) (st:MS),0≤st.1→st.1+l.length≤1099511627776→(l.foldl mX st).1=st.1+l.length
 |[],st,_,_=>by simp
 |x::r,st,h0,h=>by
  have hw:IntKind.i64.wrap (st.1+1)=st.1+1:=al (by omega) (by simp at h;omega)
  rw[List.foldl_cons,ty r _ (by simp only[mX,hw];omega) (by simp only[mX,hw];simp at h;omega)]
  simp only[mX,hw,List.length_cons]
  omega
theorem ru:∀(l:List Fd) (st:MS),0≤st.1→st.1+jR l≤1099511627776→(nn l st).1=st.1+jR l
 |[],st,_,_=>by simp[nn,jR]
 |f::r,st,h0,h=>by
  have ha:jR (f::r)=da f.body+jR r:=by simp[jR]
  have hs:=ty (aJ 1 f.body) st h0 (by rw[iq];omega)
  rw[iq] at hs
  have:=ru r ((aJ 1 f.body).foldl mX st) (by omega) (by omega)
  simp only[nn,List.foldl_cons] at this⊢
  omega
theorem yz{l:List Fd}{st:MS}{i:Nat}(h:i<l.length):nn (l.take (i+1)) st=(aJ 1 l[i].body).foldl mX (nn (l.take i) st):=by
 rw[nn,ah h,List.foldl_append];rfl
def kP(p:PV):Vis MS where
 I:=fun st=>[.row 1 [[.p p]],.row 1 [[.p (.int .i64 st.1)]],.row 1 [[.p (.int .i64 st.2)]]]
 n:=3
 F:=dE
 caps:=[.ptr 1 1 0 0,.ptr 2 1 0 0]
 len:=fun _=>rfl
 ok:=fun st=>by simp[okO,below]
 capsOk:=by simp[below]
theorem xL(p:PV)(st:MS)(s:Sm)(d:Nat):AC Tryz.prog G dE [.agg (s.cs.map .p),.p (.int .i64 d),.ptr 1 1 0 0,.ptr 2 1 0 0] ((kP p).I st) fun x h=>x= .ret (.tup [])∧h=(kP p).I (mX st (s,d)):=by
 refine(kP p).trim G (AC.go pU ?_) (by simp[below])
 have hse:=s.cs_eq
 simp-implicitDefEqProofs[ka,hse,kP,mX]
theorem AW(l:List Fd)(hl:bL l≤1073741824):VF Tryz.prog G hZ [.agg [.p (fdL l)]] (.tup [.p (.int .i64 (jR l)),.p (.int .i64 (nn l (0,0)).2)]):=by
 refine AC.go tz ?_
 have hll:=br l
 have hfl:∀l,fdL l= .lst 3 (l.map Fd.cs):=fun _=>rfl
 have hn:(nn l (0,0)).1=jR l:=by rw[ru l (0,0) (by simp) (by simp only;have:=vp l;omega)];simp
 simp-implicitDefEqProofs[lN,hfl]
 refine aq (fun i:Nat=>af 20 [(2,.ptr 1 1 0 0),(3,.ptr 2 1 0 0),(7,.p (fdL l)),(8,.p (.int .i64 l.length)),(9,.p (.int .i64 i))])
  (fun i=>(kP (fdL l)).I (nn (l.take i) (0,0))) (fun i=>i≤l.length) (fun i=>l.length-i) 0 (by simp) ?_ ?_
 ·exact ab (h:=(kP (fdL l)).I (0,0)) (by simp) ((kP (fdL l)).ok _) (by simp[below,hfl,kP])
 intro i hil
 simp-implicitDefEqProofs[hfl]
 refine aQ (fun hc=>?_) (fun hc=>?_)
 ·simp at hc
  have hg:=List.getElem?_eq_getElem hc
  have hks:=dc (List.getElem_mem hc)
  have hcs:l[i].cs=[.str l[i].name,aC l[i].params,smL l[i].body]:=rfl
  have hfz:l[i].sz=1+l[i].name.length+(l[i].params.length+(l[i].params.map List.length).sum)+au l[i].body:=rfl
  have hI:=(EO G (kP (fdL l)) mX (fun _=>True) 1073741824 (by omega) (fun st s d _ _=>⟨trivial,xL G _ st s d⟩) (au l[i].body+1) l[i].body (by omega) (by omega) 1 (by omega) (nn (l.take i) (0,0)) trivial).2
  have hlen:=(kP (fdL l)).len
  have h3:(kP (.lst 3 (l.map Fd.cs))).n=3:=rfl
  have hlen':∀st,((kP (.lst 3 (l.map Fd.cs))).I st).length=3:=fun _=>rfl
  simp-implicitDefEqProofs[hg,hcs,hlen']
  refine((kP (fdL l)).pre G hI [_] ⟨by simp,by simp,by simp[below,kP],trivial⟩).mono ?_
  rintro r h ⟨rfl,rfl⟩
  simp-implicitDefEqProofs[aa]
  refine⟨i+1,hc,by omega,?_⟩
  rw[yz hc]
  refine(kP (fdL l)).same0 (s:=[_]) _ (by simp[kP]) ?_
  simp[below,hfl,kP,w1 (i:=i) (by omega)]
 ·simp at hc
  have hie:i=l.length:=by omega
  subst hie
  rw[List.take_length]
  simp-implicitDefEqProofs[kP,hn]
theorem pJ(hK:G gE=some fW)(s:List UInt8)(hb:s.length≤140737488355328):VF Tryz.prog G aV [.p (.str s)] (.p (.bool (!az s))):=by
 refine AC.go kR ?_
 simp-implicitDefEqProofs[fI]
 refine(lC G hK s hb).use ?_
 simp-implicitDefEqProofs[]
def yy(L:List (List UInt8)):Int:=match L.findIdx? (fun w=> !az w) with|some i=>i|none=> -1
theorem Eh(L:List (List UInt8)):decide (0≤yy L)= !(L.all az):=by
 unfold yy
 cases h:L.findIdx? (fun x=> !az x) with
 |none=>
  rw[List.findIdx?_eq_none_iff] at h
  have:L.all az=true:=List.all_eq_true.2 fun x hx=>by have:=h x hx;simpa using this
  simp[this]
 |some i=>
  rw[List.findIdx?_eq_some_iff_getElem] at h
  obtain⟨h1,h2,_⟩:=h
  have:L.all az=false:=List.all_eq_false.2 ⟨_,List.getElem_mem h1,by simpa using h2⟩
  rw[this];simp
theorem Ef{L:List (List UInt8)}{n:Nat}(h:(L.map List.length).sum≤n):∀x∈L,x.length≤n:=by
 induction L with
 |nil=>intro x hx;cases hx
 |cons y r ih=>
  intro x hx
  simp only[List.map_cons,List.sum_cons] at h
  rcases List.mem_cons.1 hx with rfl|hx
  ·omega
  ·exact ih (by omega) x hx
variable (hK:G gE=some fW)
include hK
theorem xP(L:List (List UInt8))(hb:L.length≤1073741824)(hw:∀x∈L,x.length≤140737488355328):VF Tryz.prog G co [.p (aC L),.fn (.func aV) []] (.p (.int .i64 (yy L))):=by
 refine AC.go iT ?_
 have hsl:aC L= .lst 1 (L.map fun w=>[.str w]):=rfl
 simp-implicitDefEqProofs[dM,hsl]
 refine aq (fun i:Nat=>af 19 [(0,.p (aC L)),(1,.fn (.func aV) []),(6,.p (aC L)),(7,.p (.int .i64 L.length)),(8,.p (.int .i64 i))]) (fun _=>[]) (fun i=>i≤L.length∧∀w∈L.take i,az w=true) (fun i=>L.length-i) 0 (by simp) ?_ ?_
 ·exact ab (by simp) (by simp[okO]) (by simp[below,aj,aC])
 ·intro i ⟨hi,hn⟩
  simp-implicitDefEqProofs[hsl]
  refine aQ (fun h1=>?_) (fun h1=>?_)
  ·simp at h1
   have hg:=List.getElem?_eq_getElem h1
   simp-implicitDefEqProofs[hg]
   refine(pJ G hK _ (hw _ (List.getElem_mem h1))).use ?_
   by_cases he:az L[i]=true
   ·simp-implicitDefEqProofs[he]
    refine⟨i+1,⟨h1,fun p hp=>?_⟩,by omega,ab (by simp) (by simp[okO]) ?_⟩
    ·rw[ah h1] at hp
     rcases List.mem_append.1 hp with hp|hp
     ·exact hn p hp
     ·rw[List.mem_singleton.1 hp];exact he
    ·simp[below,aj,aC,w1 (i:=i) (by omega)]
   ·have hf:yy L=i:=by
     have:L.findIdx? (fun w=> !az w)=some i:=by
      rw[List.findIdx?_eq_some_iff_getElem]
      exact⟨h1,by simpa using he,fun j hj=>by have:=hn L[j] (List.mem_take_iff_getElem.2 ⟨j,by omega,rfl⟩);simpa using this⟩
     rw[yy,this]
    simp-implicitDefEqProofs[he,hf]
  ·simp at h1
   rw[List.take_of_length_le h1] at hn
   have hf:yy L= -1:=by
    have:L.findIdx? (fun w=> !az w)=none:=by
     rw[List.findIdx?_eq_none_iff];intro x hx;simpa using hn x hx
    rw[yy,this]
   simp-implicitDefEqProofs[hf]
theorem tG(L:List (List UInt8))(hb:L.length≤1073741824)(hw:∀x∈L,x.length≤140737488355328):VF Tryz.prog G bO [.p (aC L),.fn (.func aV) []] (.p (.bool (!L.all az))):=by
 rw[←Eh]
 refine AC.go gF ?_
 simp-implicitDefEqProofs[cY]
 refine(xP G hK L hb hw).use ?_
 simp-implicitDefEqProofs[]
variable (hS:G dq=some [.tbl opK opV])
include hS
theorem su(l:List Fd)(hl:bL l≤1073741824):VF Tryz.prog G cF [.agg [.p (fdL l)]] (.p (.bool (ca l))):=by
 refine AC.go mJ ?_
 have hll:=br l
 have hfl:∀l,fdL l= .lst 3 (l.map Fd.cs):=fun _=>rfl
 have hm:=AW G l hl
 rw[hfl] at hm
 simp-implicitDefEqProofs[gN,hfl]
 refine(lT G _ _ _).use ?_
 by_cases h1:inR l.length 1 4=true
 case neg=>simp-implicitDefEqProofs[h1,ca]
 simp-implicitDefEqProofs[h1]
 refine aq (fun i:Nat=>af 48 [(1,.ptr 0 1 0 0),(13,.p (fdL l)),(14,.p (.int .i64 l.length)),(15,.p (.int .i64 i))]) (fun _=>[.row 1 [[.p (.lst 3 (l.map Fd.cs))]]]) (fun i=>i≤l.length∧(l.take i).all jB=true) (fun i=>l.length-i) 0 (by simp) (ab (by simp) (by simp[okO]) (by simp[below,hfl])) ?_
 intro i ⟨hi,ha⟩
 simp-implicitDefEqProofs[hfl]
 refine aQ (fun h=>?_) (fun h=>?_)
 ·simp at h
  have hg:=List.getElem?_eq_getElem h
  have hks:=dc (List.getElem_mem h)
  have hbadF:jB l[i]=false→ca l=false:=fun hk'=>by simp only[ca,kB h hk',Bool.and_false,Bool.false_and]
  have hcs:l[i].cs=[.str l[i].name,aC l[i].params,smL l[i].body]:=rfl
  have hfz:l[i].sz=1+l[i].name.length+(l[i].params.length+(l[i].params.map List.length).sum)+au l[i].body:=rfl
  have hokF:jB l[i]=(l[i].params.all az&&az l[i].name&&decide (l[i].params.length≤3)&&l[i].body.all (aE 4)):=rfl
  have hblk:=qE G 4 1 (fun s hs=>by simpa using Cr G hK hS 4 (by omega) s hs) l[i].body (by omega)
  have hcon:=tG G hK l[i].params (by omega) (Ef (by omega))
  have hst:aC l[i].params= .lst 1 (l[i].params.map fun w=>[.str w]):=rfl
  generalize l[i]=f at*
  rw[hst] at hcon
  simp-implicitDefEqProofs[hg,hcs,hst]
  refine(lC G hK _ (by omega)).use ?_
  by_cases k1:az f.name=true
  case neg=>
   rw[hbadF (by rw[hokF];simp[k1])]
   simp-implicitDefEqProofs[k1]
  by_cases k2:f.params.length≤3
  case neg=>
   have k2':(3:Int)<f.params.length:=by omega
   rw[hbadF (by rw[hokF];simp[k2])]
   simp-implicitDefEqProofs[k1,k2']
  have k2':¬(3:Int)<f.params.length:=by omega
  simp-implicitDefEqProofs[k1,k2']
  refine hcon.use ?_
  by_cases k3:f.params.all az=true
  case neg=>
   have k3':f.params.all az=false:=by simpa using k3
   rw[hbadF (by rw[hokF,k3'];simp)]
   simp-implicitDefEqProofs[k3']
  simp only[k3]
  simp-implicitDefEqProofs[]
  refine hblk.use ?_
  by_cases k4:f.body.all (aE 4)=true
  case neg=>
   have k4':f.body.all (aE 4)=false:=by simpa using k4
   rw[hbadF (by rw[hokF,k4'];simp)]
   simp only[k4']
   simp-implicitDefEqProofs[]
  simp only[k4]
  simp-implicitDefEqProofs[]
  have hk:jB f=true:=by rw[hokF,k1,k3,k4];simp[k2]
  refine⟨i+1,⟨h,by rw[←List.all_eq_true,lM hg,ha,hk];rfl⟩,by omega,jk (m:=1) (by omega) (ex rfl rfl (by simp[okO,below])) (by simp[below,hfl,w1 (i:=i) (by omega)])⟩
 ·simp at h
  have h2:l.all jB=true:=fh h ha
  simp-implicitDefEqProofs[]
  refine hm.use ?_
  have hff:ca l=decide (jR l≤40):=by simp only[ca,h1,h2,Bool.true_and]
  simp-implicitDefEqProofs[hff]
  omega
end Go.Proofs.YtnjbhgpbgmpkcaaGreatDoor
namespace Go.Proofs.YtnjbhgpbgmpkcaaGreatDoor
open Go Go.Aw
set_option maxRecDepth 100000
set_option maxHeartbeats 4000000
def ixI:Option Nat→Int|none=> -1|some i=>i
def vaC(nf:Bool)(id n:Nat):AV:=if nf then .nils else .sl id 3 0 n
def lvC(v:LV):List AV:=[.p (.str v.name),.p (.int .i64 v.num),.p (.int .i64 v.block)]
def lvR(vs:List LV):List (List AV):=vs.reverse.map lvC
def roC(nf:Bool)(vs:List LV):AO:=if nf then .dead else .row 3 (lvR vs)
def wC(id:Nat)(nf:Bool)(fns:List Fd)(k:Nat)(w:WS):List AV:=[.p (fdL fns),.p (.int .i64 k),vaC nf id w.vs.length,.p (.int .i64 w.count),.p (.int .i64 w.code)]
def wO(id:Nat)(nf:Bool)(fns:List Fd)(k:Nat)(w:WS):AO:= .row 5 [wC id nf fns k w]
def HWk(nf:Bool)(fns:List Fd)(k:Nat)(w:WS):List AO:=[wO 1 nf fns k w,roC nf w.vs]
theorem ri(vs:List LV):(lvR vs).length=vs.length:=by simp[lvR]
theorem xA(vs:List LV):∀x∈lvR vs,aj 0 x:=by
 intro x hx;obtain⟨m,_,rfl⟩:=List.mem_map.1 hx;simp[lvC,aj,below]
theorem eS(nf:Bool)(vs:List LV)(n:Nat):okO n (roC nf vs):=by
 cases nf
 ·exact bx (fun e he=>xA vs e he)
 ·exact trivial
theorem Cb{nf:Bool}{id n m:Nat}(h:id<m):below m (vaC nf id n):=by cases nf<;>simp[vaC,below,h]
theorem rD{id:Nat}{nf:Bool}{fns:List Fd}{k:Nat}{w:WS}{m:Nat}(h:id<m):aj m (wC id nf fns k w):=⟨by simp,by simp,Cb h,by simp,by simp,trivial⟩
theorem qH{id:Nat}{nf:Bool}{fns:List Fd}{k:Nat}{w:WS}{m:Nat}(h:id<m):okO m (wO id nf fns k w):=by
 intro e he;rw[List.mem_singleton.1 he];exact rD h
theorem FU(σ:List Nat)(nf:Bool)(id n:Nat):ren σ (vaC nf id n)=vaC nf (σ.getD id 0) n:=by cases nf<;>rfl
theorem vN(σ:List Nat)(id:Nat)(nf:Bool)(fns:List Fd)(k:Nat)(w:WS):bD σ (wC id nf fns k w)=wC (σ.getD id 0) nf fns k w:=by
 simp only[wC,bD,FU];rfl
theorem zR(σ:List Nat)(id:Nat)(nf:Bool)(fns:List Fd)(k:Nat)(w:WS):ju σ (wO id nf fns k w)=wO (σ.getD id 0) nf fns k w:=by
 simp only[wO,ju,List.map_cons,List.map_nil,vN]
theorem vW(σ:List Nat)(nf:Bool)(vs:List LV):ju σ (roC nf vs)=roC nf vs:=by
 cases nf
 ·show AO.row 3 ((lvR vs).map (bD σ))= .row 3 (lvR vs)
  rw[List.map_congr_left (g:=id) fun x hx=>fP σ x (xA vs x hx)];simp
 ·rfl
theorem xW(pre:List LV)(v:LV)(r:List LV):(lvR (pre++v::r))[r.length]?=some (lvC v):=by
 simp[lvR]
theorem Dx(v:LV)(r:List LV):lvR (v::r)=lvR r++[lvC v]:=by simp[lvR]
def qb:List LV→List UInt8→Int
 |[],_=> -1
 |v::r,s=>if v.name=s then r.length else qb r s
theorem pF:∀(vs:List LV) (s:List UInt8),(lkV vs s=none∧qb vs s= -1)∨∃pre v r,vs=pre++v::r∧lkV vs s=some v∧qb vs s=r.length
 |[],s=> .inl ⟨rfl,rfl⟩
 |v::r,s=>by
  by_cases h:v.name=s
  ·exact .inr ⟨[],v,r,rfl,by simp[lkV,h],by simp[qb,h]⟩
  ·have h1:lkV (v::r) s=lkV r s:=by simp[lkV,h]
   have h2:qb (v::r) s=qb r s:=by simp[qb,h]
   rw[h1,h2]
   rcases pF r s with h|⟨pre,u,q,e,h⟩
   ·exact .inl h
   ·exact .inr ⟨v::pre,u,q,by rw[e];rfl,h⟩
def K_spec_l4Walk_put:AK:= .seq (.reg [oJ 6 (.mov (.c (.p (.str []))))]) (.seq (.reg [oM 8 0,oM 9 1,oJ 10 (.call cb [(.t 8),(.t 9)]),oM 7 10]) (.cut (.seq (.reg [oM 11 7,oJ 12 (.bin .geq (.t 11) (.c (.p (.int .i64 0)))),oM 13 12,⟨(some 14),some (13,true),.mov (.t 0)⟩,⟨(some 15),some (13,true),.nilck (.t 14)⟩,⟨(some 16),some (13,true),.fldA 2 (.t 15)⟩,⟨(some 17),some (13,true),.ld none (.t 16)⟩,⟨(some 18),some (13,true),.mov (.t 7)⟩,⟨(some 19),some (13,true),.idxS 3 (.t 17) (.t 18)⟩,⟨(some 20),some (13,true),.fldA 2 (.t 19)⟩,⟨(some 21),some (13,true),.ld none (.t 20)⟩,⟨(some 22),some (13,true),.mov (.t 2)⟩,⟨(some 23),some (13,true),.bin .eql (.t 21) (.t 22)⟩,oJ 24 (.pick (.t 13) (.t 23) (.c (.p (.bool false))))]) (.cond (.t 24) (.reg [oM 25 0,oJ 26 (.call aF [(.t 25),(.c (.p (.int .i64 2)))])]) (.skip))) (.seq (.reg [oM 27 0,oM 28 0,oN 29 28,oF 30 2 29,oM 32 1,oM 33 0,oN 34 33,oF 35 3 34,oM 37 2,oL 31 30,oL 36 35,oJ 38 (.bld [(.p (.str [])),(.p (.int .i64 0)),(.p (.int .i64 0))] [(0,1,(.t 32)),(1,1,(.t 36)),(2,1,(.t 37))]),oJ 39 (.bslP 3 [(.p (.str [])),(.p (.int .i64 0)),(.p (.int .i64 0))] 1 [(0,3,(.t 38))]),oJ 40 (.app 3 32 (.t 31) (.t 39)),oN 41 27,oF 42 2 41,oS 42 40]) (.seq (.reg [oM 43 0,oM 44 0,oN 45 44,oF 46 3 45,oL 47 46,oJ 48 (.bin .add (.t 47) (.c (.p (.int .i64 1)))),oN 49 43,oF 50 3 49,oS 50 48]) (.seq (.reg [oM 51 0,oN 52 51,oF 53 3 52,oL 54 53,oJ 55 (.bin .sub (.t 54) (.c (.p (.int .i64 1)))),oJ 56 (.call ec [(.t 55)]),oM 6 56]) (.ret))))))
theorem pg:K_spec_l4Walk_put.whole=F_spec_l4Walk_put.ak:=rfl
variable (G:aw)
theorem Cu(l:List Fd)(s:List UInt8)(hl:l.length≤1099511627776):VF Tryz.prog G eV [.agg [.p (fdL l)],.p (.str s)] (.p (.int .i64 (ixI (bT l s)))):=by
 refine AC.go wM ?_
 have hfl:∀l,fdL l= .lst 3 (l.map Fd.cs):=fun _=>rfl
 simp-implicitDefEqProofs[qm,hfl]
 refine aq (fun i:Nat=>af 22 [(1,.p (.str s)),(2,.ptr 0 1 0 0),(5,.p (.int .i64 i))]) (fun _=>[.row 1 [[.p (.lst 3 (l.map Fd.cs))]]]) (fun i=>i≤l.length∧∀f∈l.take i,f.name≠s) (fun i=>l.length-i) 0 (by simp) (ab (by simp) (by simp[okO]) (by simp[below])) ?_
 intro i ⟨hi,hn⟩
 simp-implicitDefEqProofs[]
 refine aQ (fun h=>?_) (fun h=>?_)
 ·simp at h
  have hg:=List.getElem?_eq_getElem h
  have hce:l[i].cs=[.str l[i].name,aC l[i].params,smL l[i].body]:=rfl
  by_cases he:l[i].name=s
  ·have hf:bT l s=some i:=by
    rw[bT,List.findIdx?_eq_some_iff_getElem]
    exact⟨h,by simpa using he,fun j hj=>by have:=hn l[j] (List.mem_take_iff_getElem.2 ⟨j,by omega,rfl⟩);simpa using this⟩
   simp-implicitDefEqProofs[hg,hce,he,hf,ixI]
  ·simp-implicitDefEqProofs[hg,hce,he]
   refine⟨i+1,⟨h,fun p hp=>?_⟩,by omega,ab (by simp) (by simp[okO]) (by simp[below,w1 (i:=i) (by omega)])⟩
   rw[ah h] at hp
   rcases List.mem_append.1 hp with hp|hp
   ·exact hn p hp
   ·rw[List.mem_singleton.1 hp];exact he
 ·simp at h
  rw[List.take_of_length_le h] at hn
  have hf:bT l s=none:=by
   rw[bT,List.findIdx?_eq_none_iff];intro x hx;simpa using hn x hx
  simp-implicitDefEqProofs[hf,ixI]
theorem Hy:∀m:Nat,m<26→((([97,98,99,100,101,102,103,104,105,106,107,108,109,110,111,112,113,114,115,116,117,118,119,120,121,122]:List UInt8).take (m+1)).drop m)=[UInt8.ofNat (97+m)]:=by decide
theorem Gj:∀m:Nat,m<26→List.drop m ((97:UInt8)::List.take m [98,99,100,101,102,103,104,105,106,107,108,109,110,111,112,113,114,115,116,117,118,119,120,121,122])=[97+UInt8.ofNat m]:=by decide
theorem rt(n:Nat):VF Tryz.prog G ec [.p (.int .i64 n)] (.p (.str (vnm n))):=by
 refine AC.go ua ?_
 have hm:n%26<26:=Nat.mod_lt _ (by omega)
 have ht:(n:Int).tmod 26=((n%26:Nat):Int):=rfl
 have hw:IntKind.i64.wrap (((n%26:Nat):Int)+1)=((n%26+1:Nat):Int):=w1 (by omega)
 have habc:=Hy _ hm
 rw[vnm]
 generalize n%26=m at hm ht hw habc
 have h0:(0:Int)≤(m:Int)+1:=by omega
 have h1:m+1≤26:=by omega
 simp-implicitDefEqProofs[nw,ht,hw,h0,h1]
 exact⟨by omega,Gj m hm⟩
theorem mC(nf:Bool)(fns:List Fd)(k:Nat)(w:WS)(c:Int):AC Tryz.prog G aF [.ptr 0 5 0 0,.p (.int .i64 c)] (HWk nf fns k w) fun x h=>x= .ret (.tup [])∧h=HWk nf fns k ⟨w.vs,w.count,fl w.code c⟩:=by
 refine AC.go nG ?_
 by_cases h0:w.code=0
 ·simp-implicitDefEqProofs[eK,HWk,wO,wC,h0,fl]
 ·simp-implicitDefEqProofs[eK,HWk,wO,wC,h0,fl]
theorem sP(nf:Bool)(fns:List Fd)(k:Nat)(w:WS):∀o∈HWk nf fns k w,okO 2 o:=by
 intro o ho
 simp only[HWk,List.mem_cons,List.not_mem_nil,or_false] at ho
 rcases ho with rfl|rfl
 ·exact qH (by omega)
 ·exact eS _ _ _
theorem zJ(nf:Bool)(fns:List Fd)(k:Nat)(w:WS)(hn:nf=true→w.vs=[])(hl:w.vs.length≤1099511627776)(s:List UInt8):AC Tryz.prog G cb [.ptr 0 5 0 0,.p (.str s)] (HWk nf fns k w) fun x h=>x= .ret (.p (.int .i64 (qb w.vs s)))∧h=HWk nf fns k w:=by
 refine AC.go nL ?_
 have hok:=sP nf fns k w
 cases nf with
 |true=>
  have hv:=hn rfl
  rw[HWk] at hok⊢
  simp-implicitDefEqProofs[eN,wO,wC,vaC,hv]
  refine aq (fun _:Unit=>af 27 [(0,.ptr 0 5 0 0),(1,.p (.str s)),(5,.p (.int .i64 (-1)))]) (fun _=>[wO 1 true fns k w,roC true w.vs]) (fun _=>True) (fun _=>0) () trivial ?_ ?_
  ·have e:wO 1 true fns k w= .row 5 [[.p (fdL fns),.p (.int .i64 k),.nils,.p (.int .i64 w.count),.p (.int .i64 w.code)]]:=by simp[wO,wC,vaC]
   rw[←e,←hv]
   exact ab (by simp) hok (by simp[below,al (x:= -1) (by omega) (by omega)])
  ·intro _ _
   simp-implicitDefEqProofs[qb]
   simp[wO,wC,vaC,hv]
 |false=>
  rw[HWk] at hok⊢
  have e:∀r,roC false r= .row 3 (lvR r):=fun _=>rfl
  have hw0:IntKind.i64.wrap ((w.vs.length:Int)-1)=(w.vs.length:Int)-1:=al (by omega) (by omega)
  simp-implicitDefEqProofs[eN,wO,wC,vaC,hw0]
  refine aq (fun r:List LV=>af 27 [(0,.ptr 0 5 0 0),(1,.p (.str s)),(5,.p (.int .i64 ((r.length:Int)-1)))]) (fun _=>[wO 1 false fns k w,roC false w.vs]) (fun r=>∃pre,w.vs=pre++r∧qb w.vs s=qb r s) (fun r=>r.length) w.vs ⟨[],rfl,rfl⟩ ?_ ?_
  ·exact ab (h:=[wO 1 false fns k w,roC false w.vs]) (by simp) hok (by simp[below])
  ·rintro r ⟨pre,e1,e2⟩
   cases r with
   |nil=>
    simp-implicitDefEqProofs[wO,wC,vaC]
    rw[e2];rfl
   |cons v r=>
    have hat:=xW pre v r
    rw[←e1] at hat
    have hlen:r.length<w.vs.length:=by rw[e1];simp;omega
    have hll:=ri w.vs
    have c1:((r.length+1:Nat):Int)-1=(r.length:Int):=by omega
    have hw1:IntKind.i64.wrap ((r.length:Int)-1)=(r.length:Int)-1:=al (by omega) (by omega)
    by_cases hs:v.name=s
    ·simp-implicitDefEqProofs[wO,wC,vaC,e,c1,hat,hlen,lvC,hs]
     rw[e2];simp[qb,hs]
    ·simp-implicitDefEqProofs[wO,wC,vaC,e,c1,hat,hlen,lvC,hs]
     refine⟨r,⟨⟨pre++[v],by rw[e1];simp⟩,by rw[e2];simp[qb,hs]⟩,by simp,?_⟩
     refine ab (h:=[wO 1 false fns k w,roC false w.vs]) (by simp) hok ?_
     simp[below,hw1]
theorem DQ(nf:Bool)(fns:List Fd)(k:Nat)(w:WS)(hn:nf=true→w.vs=[])(hl:w.vs.length≤1099511627776)(s:List UInt8):AC Tryz.prog G bK [.ptr 0 5 0 0,.p (.str s)] (HWk nf fns k w) fun x h=>x= .ret (.p (.str (sR w.vs s)))∧h=HWk nf fns k ⟨w.vs,w.count,nZ w.vs s w.code⟩:=by
 refine AC.go oP ?_
 simp-implicitDefEqProofs[jg]
 refine(zJ G nf fns k w hn hl s).mono ?_
 rintro r h ⟨rfl,rfl⟩
 rcases pF w.vs s with⟨e1,e2⟩|⟨pre,v,q,e0,e1,e2⟩
 ·simp-implicitDefEqProofs[aa,e2]
  refine(mC G nf fns k w 3).mono ?_
  rintro r h ⟨rfl,rfl⟩
  simp-implicitDefEqProofs[aa,sR,nZ,e1]
 ·have hat:=xW pre v q
  rw[←e0] at hat
  have hlen:q.length<w.vs.length:=by rw[e0];simp;omega
  have hnf:nf=false:=by
   cases nf with
   |false=>rfl
   |true=>rw[hn rfl] at e0;simp at e0
  subst hnf
  have e:∀r,roC false r= .row 3 (lvR r):=fun _=>rfl
  have hq:¬(q.length:Int)<0:=by omega
  simp-implicitDefEqProofs[aa,e2,hq,HWk,wO,wC,vaC,e,hat,hlen,lvC]
  refine(rt G v.num).use ?_
  simp-implicitDefEqProofs[sR,nZ,e1]
theorem Dl(nf:Bool)(fns:List Fd)(k:Nat)(w:WS)(hn:nf=true→w.vs=[])(hl:w.vs.length≤1099511627776)(hc:w.count≤1099511627776)(s:List UInt8)(b:Nat):AC Tryz.prog G bJ [.ptr 0 5 0 0,.p (.str s),.p (.int .i64 b)] (HWk nf fns k w) fun x h=>x= .ret (.p (.str (vnm w.count)))∧h=[wO 2 false fns k (iS w s b),.dead,roC false (iS w s b).vs]:=by
 refine AC.goK nY pg ?_
 have hw1:IntKind.i64.wrap ((w.count:Int)+1)=(w.count:Int)+1:=al (by omega) (by omega)
 have hw2:IntKind.i64.wrap ((w.count:Int)+1-1)=(w.count:Int):=by rw[al (by omega) (by omega)];omega
 have hw3:IntKind.i64.wrap (w.count:Int)=(w.count:Int):=al (by omega) (by omega)
 have hll:=ri w.vs
 simp-implicitDefEqProofs[K_spec_l4Walk_put,F_spec_l4Walk_put]
 refine(zJ G nf fns k w hn hl s).mono ?_
 rintro r h ⟨rfl,rfl⟩
 simp-implicitDefEqProofs[aa]
 refine lh (af 57 [(0,.ptr 0 5 0 0),(1,.p (.str s)),(2,.p (.int .i64 b))]) (HWk nf fns k ⟨w.vs,w.count,py w.vs s b w.code⟩) ?_ ?_
 ·rcases pF w.vs s with⟨e1,e2⟩|⟨pre,v,q,e0,e1,e2⟩
  ·simp-implicitDefEqProofs[e2,py,e1]
   exact ab (by simp[HWk]) (sP nf fns k w) (by simp[below,HWk])
  ·have hat:=xW pre v q
   rw[←e0] at hat
   have hlen:q.length<w.vs.length:=by rw[e0];simp;omega
   have hnf:nf=false:=by
    cases nf with
    |false=>rfl
    |true=>rw[hn rfl] at e0;simp at e0
   subst hnf
   have e:∀r,roC false r= .row 3 (lvR r):=fun _=>rfl
   have hq:(0:Int)≤(q.length:Int):=by omega
   by_cases hb:v.block=b
   ·have:=mC G false fns k w 2
    simp only[HWk,wO,wC,vaC,e] at this
    simp-implicitDefEqProofs[e2,HWk,wO,wC,vaC,e,hat,hlen,lvC,hb]
    refine this.mono ?_
    rintro r h ⟨rfl,rfl⟩
    have hp:py w.vs s b w.code=fl w.code 2:=by simp[py,e1,hb]
    rw[hp]
    simp-implicitDefEqProofs[aa]
    refine ab (h:=HWk false fns k ⟨w.vs,w.count,fl w.code 2⟩) ?_ (sP _ _ _ _) ?_
    ·simp[HWk]
    ·simp[below,HWk]
   ·have hp:py w.vs s b w.code=w.code:=by simp[py,e1,hb]
    have hbi:¬(v.block:Int)=(b:Int):=by omega
    rw[hp]
    simp-implicitDefEqProofs[e2,HWk,wO,wC,vaC,e,hat,hlen,lvC,hbi]
    refine ab (h:=HWk false fns k w) ?_ (sP _ _ _ _) ?_
    ·simp[HWk]
    ·simp[below,HWk]
 ·cases nf with
  |true=>
   have hv:=hn rfl
   simp-implicitDefEqProofs[HWk,wO,wC,vaC,roC,hv,hw1,hw2,hw3]
   refine(rt G w.count).use ?_
   simp-implicitDefEqProofs[iS,lvR,lvC,hv]
  |false=>
   have e:∀r,roC false r= .row 3 (lvR r):=fun _=>rfl
   simp-implicitDefEqProofs[HWk,wO,wC,vaC,e,hw1,hw2,hw3,hll]
   refine⟨by omega,?_⟩
   refine(rt G w.count).use ?_
   simp-implicitDefEqProofs[iS,Dx,lvC]
   rw[List.take_of_length_le (by omega)]
end Go.Proofs.YtnjbhgpbgmpkcaaGreatDoor
namespace Go.Proofs.YtnjbhgpbgmpkcaaGreatDoor
open Go Go.Aw
set_option maxRecDepth 100000
set_option maxHeartbeats 4000000
variable (G:aw)
theorem yf(l:List Fd)(s:List UInt8)(hl:l.length≤1073741824):VF Tryz.prog G eY [.agg [.p (fdL l)],.p (.str s)] (.p (.int .i64 (ixI (bT l s)))):=by
 have hfl:∀l,fdL l= .lst 3 (l.map Fd.cs):=fun _=>rfl
 have dk:∀f:Fd,AC Tryz.prog G er [.agg (f.cs.map .p),.ptr 1 1 0 0] [.row 1 [[.p (fdL l)]],.row 1 [[.p (.str s)]]] fun x h=>x= .ret (.p (.bool (decide (f.name=s))))∧h=[.row 1 [[.p (fdL l)]],.row 1 [[.p (.str s)]]]:=by
  intro f
  have hcs:f.cs=[.str f.name,aC f.params,smL f.body]:=rfl
  refine AC.trim (AC.go tD ?_) (by simp[below])
  simp-implicitDefEqProofs[na,hcs]
 have idx:AC Tryz.prog G ck [.p (fdL l),.fn (.func er) [.ptr 1 1 0 0]] [.row 1 [[.p (fdL l)]],.row 1 [[.p (.str s)]]] fun x h=>x= .ret (.p (.int .i64 (ixI (bT l s))))∧h=[.row 1 [[.p (fdL l)]],.row 1 [[.p (.str s)]]]:=by
  refine AC.go iG ?_
  simp-implicitDefEqProofs[dt,hfl]
  refine aq (fun i:Nat=>af 19 [(0,.p (fdL l)),(1,.fn (.func er) [.ptr 1 1 0 0]),(7,.p (.int .i64 l.length)),(8,.p (.int .i64 i))]) (fun _=>[.row 1 [[.p (fdL l)]],.row 1 [[.p (.str s)]]]) (fun i=>i≤l.length∧∀f∈l.take i,f.name≠s) (fun i=>l.length-i) 0 (by simp) ?_ ?_
  ·exact ab (by simp) (by simp[okO,below]) (by simp[below,aj,hfl])
  ·intro i ⟨hi,hn⟩
   simp-implicitDefEqProofs[hfl]
   refine aQ (fun h1=>?_) (fun h1=>?_)
   ·simp at h1
    have hg:=List.getElem?_eq_getElem h1
    simp-implicitDefEqProofs[hg]
    refine(dk l[i]).mono ?_
    rintro r h ⟨rfl,rfl⟩
    by_cases he:l[i].name=s
    ·have hf:bT l s=some i:=by
      rw[bT,List.findIdx?_eq_some_iff_getElem]
      exact⟨h1,by simpa using he,fun j hj=>by have:=hn l[j] (List.mem_take_iff_getElem.2 ⟨j,by omega,rfl⟩);simpa using this⟩
     simp-implicitDefEqProofs[aa,he,hf,ixI]
     exact hfl l
    ·simp-implicitDefEqProofs[aa,he]
     refine⟨i+1,⟨h1,fun p hp=>?_⟩,by omega,ab (h:=[.row 1 [[.p (fdL l)]],.row 1 [[.p (.str s)]]]) (by simp) (by simp[okO,below]) (by simp[below,aj,hfl,w1 (i:=i) (by omega)])⟩
     rw[ah h1] at hp
     rcases List.mem_append.1 hp with hp|hp
     ·exact hn p hp
     ·rw[List.mem_singleton.1 hp];exact he
   ·simp at h1
    rw[List.take_of_length_le h1] at hn
    have hf:bT l s=none:=by
     rw[bT,List.findIdx?_eq_none_iff];intro x hx;simpa using hn x hx
    simp-implicitDefEqProofs[hf,ixI]
 refine AC.go xe ?_
 simp-implicitDefEqProofs[qD]
 refine idx.mono ?_
 rintro r h ⟨rfl,rfl⟩
 simp-implicitDefEqProofs[aa]
structure GS where (gap:List AO) (m:Scp)
def mpE(m:Scp):List (PV × AV):=m.map fun x=>(.str x.1,.p (.int .i64 x.2))
def scL:List GS→Nat
 |[]=>0
 |g::up=>scL up+g.gap.length+2
def upV:List GS→AV
 |[]=> .nilp
 |g::up=> .ptr (2+scL up+g.gap.length+1) 2 0 0
def scH:List GS→List AO
 |[]=>[]
 |g::up=>scH up++(g.gap++[.mp (mpE g.m),.row 2 [[.mp (2+scL up+g.gap.length),upV up]]])
theorem ji:∀ch:List GS,(scH ch).length=scL ch
 |[]=>rfl
 |g::up=>by simp only[scH,scL,List.length_append,ji up,List.length_cons,List.length_nil];omega
def cO(fns:List Fd)(k:Nat)(c:Int):AO:= .row 3 [[.p (fdL fns),.p (.int .i64 k),.p (.int .i64 c)]]
def CH(b0:AO)(fns:List Fd)(k:Nat)(c:Int)(ch:List GS):List AO:=b0::cO fns k c::scH ch
theorem fM(b0:AO)(fns:List Fd)(k:Nat)(c:Int)(ch:List GS):(CH b0 fns k c ch).length=2+scL ch:=by
 simp only[CH,List.length_cons,ji];omega
def te:List GS→Prop
 |[]=>True
 |g::up=>(∀o∈g.gap,okO (2+scL up+g.gap.length) o)∧te up
theorem gW:∀(ch:List GS) {n:Nat},2+scL ch≤n→below n (upV ch)
 |[],_,_=>by simp[upV,below]
 |g::up,n,h=>by simp only[scL] at h;simp only[upV,below];omega
theorem yc:∀(ch:List GS) {n:Nat},te ch→2+scL ch≤n→∀o∈scH ch,okO n o
 |[],_,_,_,o,ho=>by cases ho
 |g::up,n,⟨h1,h2⟩,hn,o,ho=>by
  simp only[scL] at hn
  rw[scH] at ho
  rcases List.mem_append.1 ho with h|h
  ·exact yc up h2 (by omega) o h
  ·rcases List.mem_append.1 h with h|h
   ·exact oG (by omega) (h1 o h)
   ·simp only[List.mem_cons,List.not_mem_nil,or_false] at h
    rcases h with rfl|rfl
    ·intro e he
     obtain⟨x,_,rfl⟩:=List.mem_map.1 he
     simp[below]
    ·intro e he
     rw[List.mem_singleton.1 he]
     exact⟨by simp only[below];omega,gW up (by omega),trivial⟩
theorem xc{b0:AO}{fns:List Fd}{k:Nat}{c:Int}{ch:List GS}(hb:okO 0 b0)(hs:te ch){n:Nat}(hn:2+scL ch≤n):∀o∈CH b0 fns k c ch,okO n o:=
 ae (bx hb) (ae (by intro e he;rw[List.mem_singleton.1 he];simp[below]) (yc ch hs hn))
theorem oI(s:List UInt8):∀m:Scp,dQ (.str s) (mpE m)=some ((gz m s).map fun n=>AV.p (.int .i64 n))
 |[]=>rfl
 |x::r=>by
  have ih:=oI s r
  by_cases h:x.1=s
  ·simp[mpE,dQ,keq,h,gz]
  ·have h':¬s=x.1:=fun e=>h e.symm
   simp only[mpE,List.map_cons,dQ,keq,h',decide_false]
   simp only[mpE] at ih
   rw[ih];simp[gz,h]
theorem to(s:List UInt8)(n:Nat):∀m:Scp,gw (.str s) (.p (.int .i64 n)) (mpE m)=some (mpE (ij m s n))
 |[]=>rfl
 |x::r=>by
  have ih:=to s n r
  by_cases h:x.1=s
  ·simp[mpE,gw,keq,h,ij]
  ·have h':¬s=x.1:=fun e=>h e.symm
   simp only[mpE,List.map_cons,gw,keq,h',decide_false]
   simp only[mpE] at ih
   rw[ih];simp[ij,h]
abbrev sco(ch:List GS):List Scp:=ch.map GS.m
theorem CQ:∀(pre:List GS) (g:GS) (up:List GS),(scH (pre++g::up))[scL up+g.gap.length]?=some (.mp (mpE g.m))∧(scH (pre++g::up))[scL up+g.gap.length+1]?=some (.row 2 [[.mp (2+scL up+g.gap.length),upV up]])
 |[],g,up=>by
  have hl:(scH up++g.gap).length=scL up+g.gap.length:=by rw[List.length_append,ji]
  have e:scH (g::up)=(scH up++g.gap)++[.mp (mpE g.m),.row 2 [[.mp (2+scL up+g.gap.length),upV up]]]:=by rw[scH,List.append_assoc]
  rw[List.nil_append,e]
  exact⟨by rw[←hl,List.getElem?_append_right (Nat.le_refl _)];simp,by rw[←hl,List.getElem?_append_right (by omega)];simp⟩
 |p::pre,g,up=>by
  obtain⟨h1,h2⟩:=CQ pre g up
  have hm1:=(List.getElem?_eq_some_iff.1 h1).1
  have hm2:=(List.getElem?_eq_some_iff.1 h2).1
  rw[List.cons_append,scH]
  exact⟨by rw[List.getElem?_append_left hm1];exact h1,by rw[List.getElem?_append_left hm2];exact h2⟩
theorem xZ(ch:List GS):(upV ch).isCell=true:=by cases ch<;>rfl
theorem AE(ch:List GS):(upV ch).cells=[upV ch]:=by cases ch<;>rfl
attribute [simp ↓] xZ AE
theorem vr(b0:AO)(fns:List Fd)(k:Nat)(c e:Int)(r:List AO):AC Tryz.prog G an [.ptr 1 3 0 0,.p (.int .i64 e)] (b0::cO fns k c::r) fun x h=>x= .ret (.tup [])∧h=b0::cO fns k (fl c e)::r:=by
 refine AC.go mI ?_
 by_cases h0:c=0
 ·simp-implicitDefEqProofs[dU,cO,h0,fl]
 ·simp-implicitDefEqProofs[dU,cO,h0,fl]
theorem sU(up:AV)(hu:up= .nilp∨∃i,up= .ptr i 2 0 0)(h:List AO):AC Tryz.prog G aU [up] h fun x h'=>x= .ret (.ptr (h.length+1) 2 0 0)∧h'=h++[.mp [],.row 2 [[.mp h.length,up]]]:=by
 refine AC.go pw ?_
 rcases hu with rfl|⟨i,rfl⟩
 ·simp-implicitDefEqProofs[fp]
 ·simp-implicitDefEqProofs[fp]
theorem Cn(b0 c0:AO)(ch:List GS)(rest:List AO)(s:List UInt8):AC Tryz.prog G bl [upV ch,.p (.str s)] (b0::c0::(scH ch++rest)) fun x h=>x= .ret (.tup [.p (.int .i64 (((iC (sco ch) s).getD 0:Nat):Int)),.p (.bool (iC (sco ch) s).isSome)])∧h=b0::c0::(scH ch++rest):=by
 refine AC.goB oO fun hb=>?_
 simp-implicitDefEqProofs[jb]
 have hHl:(b0::c0::(scH ch++rest)).length=2+scL ch+rest.length:=by simp only[List.length_cons,List.length_append,ji];omega
 refine aq (fun r:List GS=>af 25 [(0,upV r),(1,.p (.str s))]) (fun _=>b0::c0::(scH ch++rest)) (fun r=>∃pre,ch=pre++r∧iC (sco ch) s=iC (sco r) s) (fun r=>r.length) ch ⟨[],rfl,rfl⟩ ?_ ?_
 ·refine iO (by simp) hb ?_
  rw[hHl]
  exact⟨⟨gW ch (by omega),by simp⟩,⟨by simp,by simp⟩,trivial⟩
 rintro r ⟨pre,e1,e2⟩
 cases r with
 |nil=>
  rw[e2]
  simp-implicitDefEqProofs[upV,iC]
 |cons g up=>
  obtain⟨a1,a2⟩:=CQ pre g up
  rw[←e1] at a1 a2
  have b1:=(List.getElem?_eq_some_iff.1 a1).1
  have b2:=(List.getElem?_eq_some_iff.1 a2).1
  have l1:(b0::c0::(scH ch++rest))[2+scL up+g.gap.length]?=some (.mp (mpE g.m)):=by
   rw[show 2+scL up+g.gap.length=(scL up+g.gap.length)+1+1 by omega,List.getElem?_cons_succ,List.getElem?_cons_succ,List.getElem?_append_left b1,a1]
  have l2:(b0::c0::(scH ch++rest))[2+scL up+g.gap.length+1]?=some (.row 2 [[.mp (2+scL up+g.gap.length),upV up]]):=by
   rw[show 2+scL up+g.gap.length+1=(scL up+g.gap.length+1)+1+1 by omega,List.getElem?_cons_succ,List.getElem?_cons_succ,List.getElem?_append_left b2,a2]
  have hmg:=oI s g.m
  have hle:=ji ch
  rw[e2]
  generalize hH:b0::c0::(scH ch++rest)=H at*
  have hup:upV (g::up)= .ptr (2+scL up+g.gap.length+1) 2 0 0:=rfl
  cases hh:gz g.m s with
  |some n=>
   rw[hh] at hmg
   simp-implicitDefEqProofs[hup,l1,l2,hmg,iC,hh]
  |none=>
   rw[hh] at hmg
   simp-implicitDefEqProofs[hup,l1,l2,hmg,iC,hh]
   refine⟨up,⟨⟨pre++[g],by rw[e1];simp⟩,rfl⟩,by simp,?_⟩
   refine iO ?_ hb ?_
   ·rw[hHl,ji];omega
   ·refine⟨⟨gW up ?_,?_⟩,⟨by simp,by simp⟩,trivial⟩
    ·rw[hHl]
     have:=congrArg List.length e1
     have h3:=(List.getElem?_eq_some_iff.1 l2).1
     rw[hHl] at h3
     omega
    ·simp
end Go.Proofs.YtnjbhgpbgmpkcaaGreatDoor
namespace Go.Proofs.YtnjbhgpbgmpkcaaGreatDoor
open Go Go.Aw
set_option maxRecDepth 100000
set_option maxHeartbeats 4000000
variable (G:aw)
theorem Gu{f:FuncId}{args:List AV}{h h1:List AO}{v:AV}(H:AC Tryz.prog G f args h fun x h'=>x= .ret v∧∃l,h'=h1++l)(hl:h1.length=h.length)(ho:∀o∈h1,okO h.length o)(hv:below h.length v):
 AC Tryz.prog G f args h fun x h'=>x= .ret v∧h'=h1:=by
 refine H.wk (fun t v h ⟨e,_⟩=>by cases e) ?_
 rintro u h' ⟨e,l,rfl⟩
 cases e
 refine⟨v,h1,rP (n:=h.length) (Nat.le_refl _) (ex ?_ hl ho) ?_,rfl,rfl⟩
 ·rw[←hl,List.take_left'];rfl
 ·simp[Fgt,hv]
theorem Hv{f:FuncId}{args:List AV}{b0:AO}{fns:List Fd}{k:Nat}{c c':Int}{ch ch':List GS}{v:AV}(H:AC Tryz.prog G f args (CH b0 fns k c ch) fun x h=>x= .ret v∧h=CH b0 fns k c' ch')(hb:okO 0 b0)(hs:te ch)(hl:scL ch'=scL ch)(rest:List AO)(ha:aj (2+scL ch) args):
 AC Tryz.prog G f args (CH b0 fns k c ch++rest) fun x h=>x= .ret v∧h=CH b0 fns k c' ch'++rest:=by
 refine(AC.pre H rest (by rw[fM];exact ha) (by rw[fM];exact xc hb hs (Nat.le_refl _)) ?_).mono ?_
 ·rintro x h ⟨_,rfl⟩;rw[fM,fM,hl]
 ·rintro x h ⟨h1,⟨rfl,rfl⟩,rfl⟩
  exact⟨rfl,rfl⟩
def bxs(ch:List GS)(q:List AV):List AO:=[.row 1 [[.ptr 1 3 0 0]],.row 4 [q],.row 1 [[upV ch]]]
def mG(b0:AO)(fns:List Fd)(k:Nat)(ch:List GS)(q:List PV)(hb:okO 0 b0)(hs:te ch):Vis Int where
 I:=fun c=>CH b0 fns k c ch++bxs ch (q.map .p)
 n:=2+scL ch+3
 F:=bt
 caps:=[.ptr (2+scL ch+2) 1 0 0,.ptr (2+scL ch) 1 0 0]
 len:=fun c=>by rw[List.length_append,fM];rfl
 ok:=fun c o ho=>by
  rcases List.mem_append.1 ho with h|h
  ·exact xc hb hs (by omega) o h
  ·simp only[bxs,List.mem_cons,List.not_mem_nil,or_false] at h
   rcases h with rfl|rfl|rfl
   ·intro e he;rw[List.mem_singleton.1 he];exact⟨by simp only[below];omega,trivial⟩
   ·intro e he;rw[List.mem_singleton.1 he];exact aL (Nat.zero_le _) _ (by simp)
   ·intro e he;rw[List.mem_singleton.1 he];exact⟨gW ch (by omega),trivial⟩
 capsOk:=by simp[below]
def eH(b0:AO)(fns:List Fd)(k:Nat)(ch:List GS)(q:List PV)(e:Ex)(c:Int):List AO:=b0::cO fns k c::(scH ch++(bxs ch (q.map .p)++[.row 4 [[.p (.int .i64 e.op),.p (.int .i64 e.n),.p (.str e.name),.p (exL e.kids)]]]))
section
variable {b0:AO} {fns:List Fd} {k:Nat} {ch:List GS} {q:List PV} {e:Ex} {c:Int}
theorem eH_eq{hb:okO 0 b0}{hs:te ch}:(mG b0 fns k ch q hb hs).I c++[.row 4 [[.p (.int .i64 e.op),.p (.int .i64 e.n),.p (.str e.name),.p (exL e.kids)]]]=eH b0 fns k ch q e c:=by
 simp[mG,eH,CH]
theorem FM:(eH b0 fns k ch q e c)[1]?=some (.row 3 [[.p (fdL fns),.p (.int .i64 k),.p (.int .i64 c)]]):=rfl
theorem DX(i:Nat):(eH b0 fns k ch q e c)[2+scL ch+i]?=(bxs ch (q.map .p)++[.row 4 [[.p (.int .i64 e.op),.p (.int .i64 e.n),.p (.str e.name),.p (exL e.kids)]]])[i]?:=by
 rw[eH,show 2+scL ch+i=(scL ch+i)+1+1 by omega,List.getElem?_cons_succ,List.getElem?_cons_succ]
 exact Fy (ji ch) i
theorem Bz:(eH b0 fns k ch q e c)[2+scL ch]?=some (.row 1 [[.ptr 1 3 0 0]]):=DX 0
theorem IZ:(eH b0 fns k ch q e c)[2+scL ch+2]?=some (.row 1 [[upV ch]]):=DX 2
theorem Ep:(eH b0 fns k ch q e c)[2+scL ch+3]?=some (.row 4 [[.p (.int .i64 e.op),.p (.int .i64 e.n),.p (.str e.name),.p (exL e.kids)]]):=DX 3
end
theorem CF{fns:List Fd}{s:List UInt8}{j:Nat}(h:bT fns s=some j):j<fns.length:=by
 rw[bT,List.findIdx?_eq_some_iff_getElem] at h;exact h.1
theorem Ei(b0:AO){fns:List Fd}{k:Nat}(hf:fns.length≤1073741824)(hk:k≤fns.length)(ch:List GS)(q:List PV)(hb:okO 0 b0)(hs:te ch)(c:Int)(e:Ex)(he:e.sz≤1073741824):
 AC Tryz.prog G bt (.agg (e.cs.map .p)::(mG b0 fns k ch q hb hs).caps) ((mG b0 fns k ch q hb hs).I c) fun x h=>x= .ret (.tup [])∧h=(mG b0 fns k ch q hb hs).I (eQ fns k (sco ch) c e):=by
 refine(mG b0 fns k ch q hb hs).trim G (AC.go kU ?_) (by simp[below])
 have hec:=e.cs_eq
 have hlen:((mG b0 fns k ch q hb hs).I c).length=2+scL ch+3:=(mG b0 fns k ch q hb hs).len c
 have hcaps:(mG b0 fns k ch q hb hs).caps=[.ptr (2+scL ch+2) 1 0 0,.ptr (2+scL ch) 1 0 0]:=rfl
 have fin:∀c',(∃l,eH b0 fns k ch q e c'=(mG b0 fns k ch q hb hs).I c'++l):=fun c'=>⟨_,eH_eq.symm⟩
 have hfail:∀n,AC Tryz.prog G an [.ptr 1 3 0 0,.p (.int .i64 n)] (eH b0 fns k ch q e c) fun x h=>x= .ret (.tup [])∧h=eH b0 fns k ch q e (fl c n):=fun n=>vr G b0 fns k c n _
 have hkl:=aW e.kids
 have hsz:=e.sz_eq
 rw[hcaps]
 simp-implicitDefEqProofs[fJ,hec,hlen]
 rw[eH_eq]
 generalize hV:(mG b0 fns k ch q hb hs).I=VI at fin⊢
 by_cases o2:e.op=2
 ·have hfind:AC Tryz.prog G bl [upV ch,.p (.str e.name)] (eH b0 fns k ch q e c) fun x h=>x= .ret (.tup [.p (.int .i64 (((iC (sco ch) e.name).getD 0:Nat):Int)),.p (.bool (iC (sco ch) e.name).isSome)])∧h=eH b0 fns k ch q e c:=Cn G b0 (cO fns k c) ch _ e.name
  simp-implicitDefEqProofs[o2,Bz,IZ,Ep,FM]
  refine hfind.mono ?_
  rintro r h ⟨rfl,rfl⟩
  cases hfs:iC (sco ch) e.name with
  |some n=>
   have hv:eQ fns k (sco ch) c e=c:=by simp[eQ,o2,hfs]
   rw[hv]
   simp-implicitDefEqProofs[aa]
   exact fin c
  |none=>
   have hv:eQ fns k (sco ch) c e=fl c 3:=by simp[eQ,o2,hfs]
   rw[hv]
   simp-implicitDefEqProofs[aa,Bz]
   refine(hfail 3).mono ?_
   rintro r h ⟨rfl,rfl⟩
   simp-implicitDefEqProofs[aa]
   exact fin _
 by_cases o13:e.op=13
 ·have hfl:fdL fns= .lst 3 (fns.map Fd.cs):=rfl
  have hfk:fdL (fns.take k)= .lst 3 ((fns.map Fd.cs).take k):=by rw[←List.map_take];rfl
  have hxl:exL e.kids= .lst 4 (e.kids.map Ex.cs):=rfl
  have hAt:=yf G (fns.take k) e.name (by rw[List.length_take];omega)
  rw[hfk] at hAt
  simp-implicitDefEqProofs[o13,Bz,IZ,Ep,FM,hfl,hk]
  refine hAt.use ?_
  cases hfa:bT (fns.take k) e.name with
  |none=>
   have hv:eQ fns k (sco ch) c e=fl c 4:=by simp[eQ,o13,hfa]
   rw[hv]
   simp-implicitDefEqProofs[ixI,Bz]
   refine(hfail 4).mono ?_
   rintro r h ⟨rfl,rfl⟩
   simp-implicitDefEqProofs[aa]
   exact fin _
  |some j=>
   have hj:=CF hfa
   rw[List.length_take] at hj
   have hjl:j<fns.length:=by omega
   have hg:=List.getElem?_eq_getElem hjl
   have hjn:¬(j:Int)<0:=by omega
   have hcs:fns[j].cs=[.str fns[j].name,aC fns[j].params,smL fns[j].body]:=rfl
   have hst:aC fns[j].params= .lst 1 (fns[j].params.map fun w=>[.str w]):=rfl
   have hpn:BJ fns j=fns[j].params.length:=by simp[BJ,hg]
   by_cases hp:fns[j].params.length=e.kids.length
   ·have hv:eQ fns k (sco ch) c e=c:=by simp[eQ,o13,hfa,hpn,hp]
    rw[hv]
    simp-implicitDefEqProofs[ixI,Bz,FM,Ep,hjn,hfl,hg,hcs,hst,hxl,hp]
    exact fin _
   ·have hv:eQ fns k (sco ch) c e=fl c 5:=by simp[eQ,o13,hfa,hpn,hp]
    have hp':¬(fns[j].params.length:Int)=(e.kids.length:Int):=by omega
    rw[hv]
    simp-implicitDefEqProofs[ixI,Bz,FM,Ep,hjn,hfl,hg,hcs,hst,hxl,hp']
    refine(hfail 5).mono ?_
    rintro r h ⟨rfl,rfl⟩
    simp-implicitDefEqProofs[aa]
    exact fin _
 ·have hv:eQ fns k (sco ch) c e=c:=by simp[eQ,o2,o13]
  rw[hv]
  simp-implicitDefEqProofs[o2,o13,Ep]
  exact fin _
theorem Gm(ch:List GS):upV ch= .nilp∨∃i,upV ch= .ptr i 2 0 0:=by
 cases ch with
 |nil=>exact .inl rfl
 |cons g up=>exact .inr ⟨_,rfl⟩
theorem Hg(b0:AO){fns:List Fd}{k:Nat}(hf:fns.length≤1073741824)(hk:k≤fns.length)(ch:List GS)(hb:okO 0 b0)(hs:te ch)(c:Int)(e:Ex)(he:e.sz≤1073741824):
 AC Tryz.prog G bR [.ptr 1 3 0 0,.agg (e.cs.map .p),upV ch] (CH b0 fns k c ch) fun x h=>x= .ret (.tup [])∧h=CH b0 fns k (e.pre.foldl (eQ fns k (sco ch)) c) ch:=by
 refine Gu G (h:=CH b0 fns k c ch) (AC.go mK ?_) (by rw[fM,fM]) (by rw[fM];exact xc hb hs (Nat.le_refl _)) (by simp[below])
 have hec:=e.cs_eq
 have hlen:(CH b0 fns k c ch).length=2+scL ch:=fM _ _ _ _ _
 have hI:=(EZ G (mG b0 fns k ch e.cs hb hs) (eQ fns k (sco ch)) (fun _=>True) 1073741824 (by omega) (fun st x _ hx=>⟨trivial,Ei G b0 hf hk ch e.cs hb hs st x hx⟩) (e.sz+1) e (by omega) he c trivial).2
 have hcaps:(mG b0 fns k ch e.cs hb hs).caps=[.ptr (2+scL ch+2) 1 0 0,.ptr (2+scL ch) 1 0 0]:=rfl
 have hF:(mG b0 fns k ch e.cs hb hs).F=bt:=rfl
 have hVI:(mG b0 fns k ch e.cs hb hs).I c=CH b0 fns k c ch++[.row 1 [[.ptr 1 3 0 0]],.row 4 [[.p (.int .i64 e.op),.p (.int .i64 e.n),.p (.str e.name),.p (exL e.kids)]],.row 1 [[upV ch]]]:=by simp[mG,bxs,hec]
 rw[hcaps,hF,hVI,hec] at hI
 have hup:=Gm ch
 generalize upV ch=u at hI hup⊢
 rcases hup with rfl|⟨i,rfl⟩
 ·simp-implicitDefEqProofs[eb,hec,hlen]
  refine hI.mono ?_
  rintro r h ⟨rfl,rfl⟩
  simp-implicitDefEqProofs[aa]
  exact⟨_,rfl⟩
 ·simp-implicitDefEqProofs[eb,hec,hlen]
  refine hI.mono ?_
  rintro r h ⟨rfl,rfl⟩
  simp-implicitDefEqProofs[aa]
  exact⟨_,rfl⟩
end Go.Proofs.YtnjbhgpbgmpkcaaGreatDoor
namespace Go.Proofs.YtnjbhgpbgmpkcaaGreatDoor
open Go Go.Aw
set_option maxRecDepth 100000
set_option maxHeartbeats 4000000
def K_impl_checker_block:AK:= .seq (.reg [oM 14 1,oJ 15 (.len false (.t 14)),oK 16 0]) (.blk 0 (.loop (.seq (.reg [oJ 17 (.bin .lss (.t 16) (.t 15))]) (.seq (.cond (.t 17) (.skip) (.exit 0)) (.seq (.blk 1 (.seq (.reg [oJ 18 (.idxS 5 (.t 14) (.t 16)),oJ 19 (.ld (some 5) (.t 18)),oJ 7 (.alloc [(.p (.int .i64 0)),(.p (.str [])),.nils,.nils,.nils]),⟨none,none,.st 5 (.t 7) (.t 19)⟩]) (.seq (.seq (.reg [oF 20 2 7,oL 21 20,oJ 22 (.len false (.t 21)),oK 23 0]) (.blk 2 (.loop (.seq (.reg [oJ 24 (.bin .lss (.t 23) (.t 22))]) (.seq (.cond (.t 24) (.skip) (.exit 2)) (.seq (.blk 3 (.seq (.reg [oJ 25 (.idxS 4 (.t 21) (.t 23)),oJ 26 (.ld (some 4) (.t 25)),oJ 9 (.alloc [(.p (.int .i64 0)),(.p (.int .i64 0)),(.p (.str [])),.nils]),⟨none,none,.st 4 (.t 9) (.t 26)⟩]) (.reg [oM 27 0,oJ 28 (.ld (some 4) (.t 9)),oM 29 2,oJ 30 (.call bR [(.t 27),(.t 28),(.t 29)])]))) (.reg [oJ 31 (.bin .add (.t 23) (.c (.p (.int .i64 1)))),oM 23 31]))))))) (.cut (.seq (.reg [oF 32 0 7,oL 33 32]) (.blk 4 (.seq (.reg [oJ 35 (.bin .eql (.t 33) (.c (.p (.int .i64 1)))),oM 34 35]) (.cond (.t 34) (.seq (.seq (.reg [oM 37 2,oN 38 37,oF 39 0 38,oF 41 1 7,oL 40 39,oL 42 41,oJ 43 (.lk 1 (.p (.int .i64 0)) true (.t 40) (.t 42)),oM 36 43,oJ 44 (.ext 0 (.t 36)),oJ 45 (.ext 1 (.t 36)),oM 10 44,oM 11 45]) (.seq (.reg [oM 46 11]) (.cond (.t 46) (.reg [oM 47 0,oJ 48 (.call an [(.t 47),(.c (.p (.int .i64 2)))])]) (.skip)))) (.reg [oM 49 2,oN 50 49,oF 51 0 50,oF 53 1 7,oL 52 51,oL 54 53,⟨none,none,.mup 1 (.t 52) (.t 54) (.c (.p (.int .i64 0)))⟩])) (.seq (.reg [oJ 56 (.bin .eql (.t 33) (.c (.p (.int .i64 2)))),oM 55 56]) (.cond (.t 55) (.seq (.reg [oM 58 2,oF 59 1 7,oL 60 59,oJ 61 (.call bl [(.t 58),(.t 60)]),oM 57 61,oJ 62 (.ext 0 (.t 57)),oJ 63 (.ext 1 (.t 57)),oM 12 62,oM 13 63]) (.seq (.reg [oM 64 13,oJ 65 (.not (.t 64))]) (.cond (.t 65) (.reg [oM 66 0,oJ 67 (.call an [(.t 66),(.c (.p (.int .i64 3)))])]) (.skip)))) (.skip))))))) (.seq (.reg [oF 68 0 7,oL 69 68,oJ 70 (.bin .eql (.t 69) (.c (.p (.int .i64 5)))),oM 71 70,⟨(some 72),some (71,false),.fldA 0 (.t 7)⟩,⟨(some 73),some (71,false),.ld none (.t 72)⟩,⟨(some 74),some (71,false),.bin .eql (.t 73) (.c (.p (.int .i64 6)))⟩,oJ 75 (.pick (.t 71) (.c (.p (.bool true))) (.t 74))]) (.cond (.t 75) (.seq (.reg [oM 76 0,oF 77 3 7,oM 79 2,oL 78 77,oJ 80 (.call aU [(.t 79)]),⟨none,none,.chk none 77 78⟩,oJ 81 (.call aG [(.t 76),(.t 78),(.t 80)])]) (.reg [oM 82 0,oF 83 4 7,oM 85 2,oL 84 83,oJ 86 (.call aU [(.t 85)]),⟨none,none,.chk none 83 84⟩,oJ 87 (.call aG [(.t 82),(.t 84),(.t 86)])])) (.skip))))))) (.reg [oJ 88 (.bin .add (.t 16) (.c (.p (.int .i64 1)))),oM 16 88]))))))
theorem lD:K_impl_checker_block.whole=F_impl_checker_block.ak:=rfl
theorem xb(fns:List Fd)(k:Nat):∀(a b:List Sm) (m:Scp) (up:List Scp) (c:Int),fE fns k (a++b) m up c=fE fns k b (fE fns k a m up c).1 up (fE fns k a m up c).2
 |[],b,m,up,c=>rfl
 |s::r,b,m,up,c=>by rw[List.cons_append,fE,fE,xb fns k r]
theorem BG{fns:List Fd}{k:Nat}{l:List Sm}{m:Scp}{up:List Scp}{c:Int}{i:Nat}(h:i<l.length):fE fns k (l.take (i+1)) m up c=icS fns k l[i] (fE fns k (l.take i) m up c).1 up (fE fns k (l.take i) m up c).2:=by
 rw[ah h,xb];rfl
def AX(b0:AO)(fns:List Fd)(k:Nat)(up:List GS)(gap:List AO)(c:Int):List AO:=b0::cO fns k c::(scH up++gap)
theorem HA(b0:AO)(fns:List Fd)(k:Nat)(up:List GS)(gap:List AO)(c:Int):(AX b0 fns k up gap c).length=2+scL up+gap.length:=by
 simp only[AX,List.length_cons,List.length_append,ji];omega
theorem EG(b0:AO)(fns:List Fd)(k:Nat)(up:List GS)(gap:List AO)(m:Scp)(c:Int)(rest:List AO):CH b0 fns k c (⟨gap,m⟩::up)++rest=AX b0 fns k up gap c++(.mp (mpE m):: .row 2 [[.mp (2+scL up+gap.length),upV up]]::rest):=by
 simp[CH,AX,scH]
theorem En(b0:AO)(fns:List Fd)(k:Nat)(up:List GS)(gap:List AO)(m:Scp)(c:Int):CH b0 fns k c (⟨gap,m⟩::up)=AX b0 fns k up gap c++[.mp (mpE m),.row 2 [[.mp (2+scL up+gap.length),upV up]]]:=by
 have:=EG b0 fns k up gap m c []
 rwa[List.append_nil] at this
theorem Js{b0:AO}{fns:List Fd}{k:Nat}{up:List GS}{gap:List AO}(hb:okO 0 b0)(hs:te up)(hg:∀o∈gap,okO (2+scL up+gap.length) o)(c:Int):∀o∈AX b0 fns k up gap c,okO (2+scL up+gap.length) o:=by
 refine ae (bx hb) (ae (by intro e he;rw[List.mem_singleton.1 he];simp[below]) ?_)
 intro o ho
 rcases List.mem_append.1 ho with h|h
 ·exact yc up hs (by omega) o h
 ·exact hg o h
theorem rh{kk L n:Nat}{A r s:List AO}{l l1:List (Nat × AV)}(hl:A.length=L)(hk:kk≤L+r.length)(ha:∀o∈A,okO L o)(hr:∀o∈r,okO (L+r.length) o)(H:FgA (L+r.length) l l1):Wk kk (af n l) (A++(r++s)) (af n l1) (A++r):=by
 have hll:(A++r).length=L+r.length:=by rw[List.length_append,hl]
 refine jk (m:=L+r.length) hk (ex ?_ hll ?_) H
 ·rw[←List.append_assoc,←hll,List.take_left'];rfl
 ·intro o ho
  rcases List.mem_append.1 ho with h|h
  ·exact oG (by omega) (ha o h)
  ·exact hr o h
theorem xE(m:Scp)(n:Nat):okO n (.mp (mpE m)):=by
 intro e he
 obtain⟨x,_,rfl⟩:=List.mem_map.1 he
 simp[below]
variable (G:aw)
theorem Fl(b0:AO){fns:List Fd}{k:Nat}(hf:fns.length≤1073741824)(hk:k≤fns.length)(hb:okO 0 b0):∀(N:Nat) (l:List Sm),au l<N→au l≤1073741824→∀(gap:List AO) (m:Scp) (up:List GS) (c:Int),te (⟨gap,m⟩::up)→
 AC Tryz.prog G aG [.ptr 1 3 0 0,.p (smL l),upV (⟨gap,m⟩::up)] (CH b0 fns k c (⟨gap,m⟩::up)) fun x h=>x= .ret (.tup [])∧h=CH b0 fns k (fE fns k l m (sco up) c).2 (⟨gap,(fE fns k l m (sco up) c).1⟩::up):=by
 intro N
 induction N with
 |zero=>intro l h;omega
 |succ N ih=>
  intro l hl hz gap m up c hs
  have hll:=aZ l
  have hsl:∀l,smL l= .lst 5 (l.map Sm.cs):=fun _=>rfl
  have hs':∀m,te (⟨gap,m⟩::up):=fun _=>hs
  have hscl:∀m,scL (⟨gap,m⟩::up)=scL up+gap.length+2:=fun _=>rfl
  refine Gu G (AC.goK lf lD ?_) (by rw[fM,fM];rfl) (by rw[fM];exact xc hb (hs' _) (by rw[hscl];exact Nat.le_of_eq (by rfl))) (by simp[below])
  have hup:upV (⟨gap,m⟩::up)= .ptr (2+scL up+gap.length+1) 2 0 0:=rfl
  have hlenC:∀c m,(CH b0 fns k c (⟨gap,m⟩::up)).length=2+scL up+gap.length+2:=fun c m=>by rw[fM,hscl];omega
  have hokC:∀c m,∀o∈CH b0 fns k c (⟨gap,m⟩::up),okO (2+scL up+gap.length+2) o:=fun c m=>xc hb (hs' m) (by rw[hscl];omega)
  have hlenA:∀c,(AX b0 fns k up gap c).length=2+scL up+gap.length:=HA b0 fns k up gap
  simp-implicitDefEqProofs[K_impl_checker_block,F_impl_checker_block,hsl,hup]
  refine aq (fun i:Nat=>af 89 [(0,.ptr 1 3 0 0),(2,.ptr (2+scL up+gap.length+1) 2 0 0),(14,.p (smL l)),(15,.p (.int .i64 l.length)),(16,.p (.int .i64 i))])
   (fun i=>CH b0 fns k (fE fns k (l.take i) m (sco up) c).2 (⟨gap,(fE fns k (l.take i) m (sco up) c).1⟩::up)) (fun i=>i≤l.length) (fun i=>l.length-i) 0 (by simp) ?_ ?_
  ·refine ab (h:=CH b0 fns k c (⟨gap,m⟩::up)) (Nat.le_refl _) (by rw[hlenC];exact hokC _ _) ?_
   rw[hlenC]
   simp[below,hsl]
  intro i hi
  have eT:=fun h=>BG (fns:=fns) (k:=k) (l:=l) (m:=m) (up:=sco up) (c:=c) (i:=i) h
  rw[hlenC]
  generalize hst:fE fns k (l.take i) m (sco up) c=st at eT⊢
  obtain⟨mi,ci⟩:=st
  simp only at eT⊢
  simp-implicitDefEqProofs[hsl]
  refine aQ (fun h=>?_) (fun h=>?_)
  ·simp at h
   have hg:=List.getElem?_eq_getElem h
   have hse:=l[i].cs_eq
   have hsz:=l[i].sz_eq
   have hks:=aN (List.getElem_mem h)
   have eT:=eT h
   generalize l[i]=s at hg hse hsz hks eT
   obtain⟨o,nme,a,bd,el⟩:=s
   simp only[Sm.op,Sm.name,Sm.args,Sm.body,Sm.els] at hse hsz
   have hxl:exL a= .lst 4 (a.map Ex.cs):=rfl
   have hal:=aW a
   simp-implicitDefEqProofs[hg,hse,hlenC,hxl]
   have hexpr:∀(c:Int) (e:Ex) (rest:List AO),e.sz≤1073741824→AC Tryz.prog G bR [.ptr 1 3 0 0,.agg (e.cs.map .p),.ptr (2+scL up+gap.length+1) 2 0 0] (AX b0 fns k up gap c++(.mp (mpE mi):: .row 2 [[.mp (2+scL up+gap.length),upV up]]::rest)) fun x h=>x= .ret (.tup [])∧h=AX b0 fns k up gap (e.pre.foldl (eQ fns k (mi::sco up)) c)++(.mp (mpE mi):: .row 2 [[.mp (2+scL up+gap.length),upV up]]::rest):=by
    intro c e rest he
    have:=Hv G (Hg G b0 hf hk (⟨gap,mi⟩::up) hb (hs' mi) c e he) hb (hs' mi) rfl rest (by refine⟨by simp only[below];omega,by simp,gW _ (Nat.le_refl _),trivial⟩)
    simp only[EG] at this
    exact this
   have hfail:∀(c e:Int) (t:List AO),AC Tryz.prog G an [.ptr 1 3 0 0,.p (.int .i64 e)] (AX b0 fns k up gap c++t) fun x h=>x= .ret (.tup [])∧h=AX b0 fns k up gap (fl c e)++t:=fun c e t=>vr G b0 fns k c e _
   have hfind:∀(c:Int) (m:Scp) (s:List UInt8) (rest:List AO),AC Tryz.prog G bl [.ptr (2+scL up+gap.length+1) 2 0 0,.p (.str s)] (AX b0 fns k up gap c++(.mp (mpE m):: .row 2 [[.mp (2+scL up+gap.length),upV up]]::rest)) fun x h=>x= .ret (.tup [.p (.int .i64 (((iC (m::sco up) s).getD 0:Nat):Int)),.p (.bool (iC (m::sco up) s).isSome)])∧h=AX b0 fns k up gap c++(.mp (mpE m):: .row 2 [[.mp (2+scL up+gap.length),upV up]]::rest):=by
    intro c m s rest
    have:=Cn G b0 (cO fns k c) (⟨gap,m⟩::up) rest s
    have e:b0::cO fns k c::(scH (⟨gap,m⟩::up)++rest)=CH b0 fns k c (⟨gap,m⟩::up)++rest:=rfl
    rw[e,EG] at this
    exact this
   have hblk:∀(c:Int) (m2:Scp) (l':List Sm) (gap2:List AO),au l'<N→au l'≤1073741824→(∀o∈gap2,okO (2+scL up+gap.length+2+gap2.length) o)→
    AC Tryz.prog G aG [.ptr 1 3 0 0,.p (smL l'),.ptr (2+scL up+gap.length+2+gap2.length+1) 2 0 0] (AX b0 fns k up gap c++(.mp (mpE m2):: .row 2 [[.mp (2+scL up+gap.length),upV up]]::(gap2++[.mp [],.row 2 [[.mp (2+scL up+gap.length+2+gap2.length),.ptr (2+scL up+gap.length+1) 2 0 0]]])))
     fun x h=>x= .ret (.tup [])∧∃m',h=AX b0 fns k up gap (fE fns k l' [] (m2::sco up) c).2++(.mp (mpE m2):: .row 2 [[.mp (2+scL up+gap.length),upV up]]::(gap2++[.mp (mpE m'),.row 2 [[.mp (2+scL up+gap.length+2+gap2.length),.ptr (2+scL up+gap.length+1) 2 0 0]]])):=by
    intro c m2 l' gap2 h1 h2 h3
    have e1:2+scL (⟨gap,m2⟩::up)+gap2.length=2+scL up+gap.length+2+gap2.length:=by rw[hscl];omega
    have e2:∀c m',CH b0 fns k c (⟨gap2,m'⟩::⟨gap,m2⟩::up)=AX b0 fns k up gap c++(.mp (mpE m2):: .row 2 [[.mp (2+scL up+gap.length),upV up]]::(gap2++[.mp (mpE m'),.row 2 [[.mp (2+scL up+gap.length+2+gap2.length),.ptr (2+scL up+gap.length+1) 2 0 0]]])):=by
     intro c m'
     rw[←e1]
     simp[CH,AX,scH,upV]
    have:=ih l' h1 h2 gap2 [] (⟨gap,m2⟩::up) c ⟨by rw[e1];exact h3,hs' m2⟩
    rw[show upV (⟨gap2,[]⟩::⟨gap,m2⟩::up)= .ptr (2+scL up+gap.length+2+gap2.length+1) 2 0 0 by rw[←e1];rfl] at this
    rw[e2] at this
    refine this.mono ?_
    rintro x h ⟨hx,hh⟩
    exact⟨hx,(fE fns k l' [] (sco (⟨gap,m2⟩::up)) c).1,by rw[hh,e2];rfl⟩
   rw[En b0 fns k up gap mi ci,List.append_assoc]
   simp only[List.cons_append,List.nil_append]
   have hokA:=Js (fns:=fns) (k:=k) hb hs.2 hs.1
   generalize hL:2+scL up+gap.length=L at hexpr hfind hblk hlenA hlenC hokC hokA⊢
   have hR:okO (L+2) (.row 2 [[.mp L,upV up]]):=by
    intro e he;rw[List.mem_singleton.1 he]
    exact⟨by simp only[below];omega,gW up (by omega),trivial⟩
   have hX:okO 0 (.row 5 [[AV.p (.int .i64 o),.p (.str nme),.p (.lst 4 (a.map Ex.cs)),.p (smL bd),.p (smL el)]]):=by simp[okO]
   have ok3:∀(m:Scp),∀x∈[AO.mp (mpE m),.row 2 [[.mp L,upV up]],.row 5 [[AV.p (.int .i64 o),.p (.str nme),.p (.lst 4 (a.map Ex.cs)),.p (smL bd),.p (smL el)]]],okO (L+3) x:=fun m=>
    ae (xE _ _) (ae (oG (by omega) hR) (ae (bx hX) bA))
   refine aq (fun j:Nat=>af 89 [(0,.ptr 1 3 0 0),(2,.ptr (L+1) 2 0 0),(7,.ptr (L+2) 5 0 0),(14,.p (smL l)),(15,.p (.int .i64 l.length)),(16,.p (.int .i64 i)),(21,.p (exL a)),(22,.p (.int .i64 a.length)),(23,.p (.int .i64 j))])
    (fun j=>AX b0 fns k up gap ((bC (a.take j)).foldl (eQ fns k (mi::sco up)) ci)++[.mp (mpE mi),.row 2 [[.mp L,upV up]],.row 5 [[AV.p (.int .i64 o),.p (.str nme),.p (.lst 4 (a.map Ex.cs)),.p (smL bd),.p (smL el)]]])
    (fun j=>j≤a.length) (fun j=>a.length-j) 0 (by simp) ?_ ?_
   ·refine rh (s:=[]) (hlenA _) (by simp) (hokA _) (ok3 _) ?_
    simp[below,hsl,hxl]
   intro j hj
   simp-implicitDefEqProofs[hxl]
   refine aQ (fun hc=>?_) (fun hc=>?_)
   ·simp at hc
    have hga:=List.getElem?_eq_getElem hc
    have hka:=aO (List.getElem_mem hc)
    have hkc:=a[j].cs_eq
    have hE:=hexpr ((bC (a.take j)).foldl (eQ fns k (mi::sco up)) ci) a[j] [.row 5 [[AV.p (.int .i64 o),.p (.str nme),.p (.lst 4 (a.map Ex.cs)),.p (smL bd),.p (smL el)]],.row 4 [[.p (.int .i64 a[j].op),.p (.int .i64 a[j].n),.p (.str a[j].name),.p (exL a[j].kids)]]] (by omega)
    rw[hkc] at hE
    simp-implicitDefEqProofs[hga,hkc,hlenA]
    refine hE.mono ?_
    rintro r h ⟨rfl,rfl⟩
    simp-implicitDefEqProofs[aa]
    refine⟨j+1,hc,by omega,?_⟩
    have hf2:(bC (a.take (j+1))).foldl (eQ fns k (mi::sco up)) ci=a[j].pre.foldl (eQ fns k (mi::sco up)) ((bC (a.take j)).foldl (eQ fns k (mi::sco up)) ci):=by
     rw[ah hc,jU,List.foldl_append,bC,bC,List.append_nil]
    rw[hf2]
    refine rh (r:=[_,_,_]) (s:=[_]) (hlenA _) (by simp) (hokA _) (ok3 _) ?_
    simp[below,hsl,hxl,w1 (i:=j) (by omega)]
   simp at hc
   have hje:j=a.length:=by omega
   subst hje
   rw[List.take_length]
   have hic:icS fns k ⟨o,nme,a,bd,el⟩ mi (sco up) ci=(opS o nme mi 0,if o=5∨o=6 then(fE fns k el [] (opS o nme mi 0::sco up) (fE fns k bd [] (opS o nme mi 0::sco up) (opC o nme mi (sco up) (xQ fns k (mi::sco up) a ci))).2).2 else opC o nme mi (sco up) (xQ fns k (mi::sco up) a ci)):=rfl
   rw[hic] at eT
   clear hic
   rw[show(bC a).foldl (eQ fns k (mi::sco up)) ci=xQ fns k (mi::sco up) a ci from rfl]
   generalize xQ fns k (mi::sco up) a ci=c1 at eT⊢
   simp-implicitDefEqProofs[]
   refine lh (af 89 [(0,.ptr 1 3 0 0),(2,.ptr (L+1) 2 0 0),(7,.ptr (L+2) 5 0 0),(14,.p (smL l)),(15,.p (.int .i64 l.length)),(16,.p (.int .i64 i))])
    (AX b0 fns k up gap (opC o nme mi (sco up) c1)++[.mp (mpE (opS o nme mi 0)),.row 2 [[.mp L,upV up]],.row 5 [[AV.p (.int .i64 o),.p (.str nme),.p (.lst 4 (a.map Ex.cs)),.p (smL bd),.p (smL el)]]]) ?_ ?_
   ·have fin:∀(r1:List (Nat × AV)) (c2:Int) (m2:Scp),Aw.look r1 0= .ptr 1 3 0 0→Aw.look r1 2= .ptr (L+1) 2 0 0→Aw.look r1 7= .ptr (L+2) 5 0 0→Aw.look r1 14= .p (smL l)→Aw.look r1 15= .p (.int .i64 l.length)→Aw.look r1 16= .p (.int .i64 i)→
     Wk (L+2) (af 89 r1) (AX b0 fns k up gap c2++[.mp (mpE m2),.row 2 [[.mp L,upV up]],.row 5 [[AV.p (.int .i64 o),.p (.str nme),.p (.lst 4 (a.map Ex.cs)),.p (smL bd),.p (smL el)]]])
      (af 89 [(0,.ptr 1 3 0 0),(2,.ptr (L+1) 2 0 0),(7,.ptr (L+2) 5 0 0),(14,.p (smL l)),(15,.p (.int .i64 l.length)),(16,.p (.int .i64 i))])
      (AX b0 fns k up gap c2++[.mp (mpE m2),.row 2 [[.mp L,upV up]],.row 5 [[AV.p (.int .i64 o),.p (.str nme),.p (.lst 4 (a.map Ex.cs)),.p (smL bd),.p (smL el)]]]):=by
     intro r1 c2 m2 e0 e2 e7 e14 e15 e16
     refine rh (s:=[]) (hlenA _) (by simp) (hokA _) (ok3 _) ?_
     simp[below,e0,e2,e7,e14,e15,e16]
    by_cases o1:o=1
    ·have hmg:=oI nme mi
     have hms:gw (.str nme) (.p (.int .i64 0)) (mpE mi)=some (mpE (ij mi nme 0)):=by simpa using to nme 0 mi
     have e2:opS o nme mi 0=ij mi nme 0:=if_pos o1
     rw[e2]
     cases hh:gz mi nme with
     |none=>
      have e1:opC o nme mi (sco up) c1=c1:=by rw[opC,if_pos o1,hh];rfl
      rw[hh] at hmg
      rw[e1]
      subst o1
      simp-implicitDefEqProofs[hlenA,hmg,hms]
      exact fin _ _ _ (by simp) (by simp) (by simp) (by simp[hsl]) (by simp) (by simp)
     |some n=>
      have e1:opC o nme mi (sco up) c1=fl c1 2:=by rw[opC,if_pos o1,hh];rfl
      rw[hh] at hmg
      rw[e1]
      subst o1
      simp-implicitDefEqProofs[hlenA,hmg,hms]
      refine(hfail c1 2 _).mono ?_
      rintro r h ⟨rfl,rfl⟩
      simp-implicitDefEqProofs[aa,hlenA,hms]
      exact fin _ _ _ (by simp) (by simp) (by simp) (by simp[hsl]) (by simp) (by simp)
    have e2:opS o nme mi 0=mi:=if_neg o1
    rw[e2]
    by_cases o2:o=2
    ·cases hh:iC (mi::sco up) nme with
     |none=>
      have e1:opC o nme mi (sco up) c1=fl c1 3:=by rw[opC,if_neg o1,if_pos o2,hh];rfl
      rw[e1]
      subst o2
      have hF:=hfind c1 mi nme [.row 5 [[AV.p (.int .i64 2),.p (.str nme),.p (.lst 4 (a.map Ex.cs)),.p (smL bd),.p (smL el)]]]
      rw[hh] at hF
      simp-implicitDefEqProofs[hlenA]
      refine hF.mono ?_
      rintro r h ⟨rfl,rfl⟩
      simp-implicitDefEqProofs[aa]
      refine(hfail c1 3 _).mono ?_
      rintro r h ⟨rfl,rfl⟩
      simp-implicitDefEqProofs[aa]
      exact fin _ _ _ (by simp) (by simp) (by simp) (by simp[hsl]) (by simp) (by simp)
     |some n=>
      have e1:opC o nme mi (sco up) c1=c1:=by rw[opC,if_neg o1,if_pos o2,hh];rfl
      rw[e1]
      subst o2
      have hF:=hfind c1 mi nme [.row 5 [[AV.p (.int .i64 2),.p (.str nme),.p (.lst 4 (a.map Ex.cs)),.p (smL bd),.p (smL el)]]]
      rw[hh] at hF
      simp-implicitDefEqProofs[hlenA]
      refine hF.mono ?_
      rintro r h ⟨rfl,rfl⟩
      simp-implicitDefEqProofs[aa]
      exact fin _ _ _ (by simp) (by simp) (by simp) (by simp[hsl]) (by simp) (by simp)
    ·have e1:opC o nme mi (sco up) c1=c1:=by rw[opC,if_neg o1,if_neg o2]
     rw[e1]
     simp-implicitDefEqProofs[hlenA,o1,o2]
     exact fin _ _ _ (by simp) (by simp) (by simp) (by simp[hsl]) (by simp) (by simp)
   generalize opC o nme mi (sco up) c1=c2 at eT⊢
   generalize opS o nme mi 0=m2 at eT⊢
   have hdrop:∀(r1:List (Nat × AV)) (c3:Int) (s:List AO),Aw.look r1 0= .ptr 1 3 0 0→Aw.look r1 2= .ptr (L+1) 2 0 0→Aw.look r1 14= .p (smL l)→Aw.look r1 15= .p (.int .i64 l.length)→Aw.look r1 16= .p (.int .i64 ((i:Int)+1))→
    Wk (L+2) (af 89 r1) (AX b0 fns k up gap c3++([.mp (mpE m2),.row 2 [[.mp L,upV up]]]++s)) (af 89 [(0,.ptr 1 3 0 0),(2,.ptr (L+1) 2 0 0),(14,.p (smL l)),(15,.p (.int .i64 l.length)),(16,.p (.int .i64 ((i:Int)+1)))]) (CH b0 fns k c3 (⟨gap,m2⟩::up)):=by
    intro r1 c3 s e0 e2 e14 e15 e16
    rw[En,hL]
    refine rh (hlenA _) (by simp) (hokA _) (ae (xE _ _) (ae hR bA)) ?_
    simp[below,e0,e2,e14,e15,e16]
   by_cases ho:o=5∨o=6
   ·rw[if_pos ho] at eT
    rcases ho with o5|o6
    ·subst o5
     simp-implicitDefEqProofs[hlenA]
     refine(sU G (.ptr (L+1) 2 0 0) (.inr ⟨_,rfl⟩) _).mono ?_
     rintro r h ⟨rfl,rfl⟩
     simp-implicitDefEqProofs[aa,hlenA]
     refine(hblk c2 m2 bd [_] (by omega) (by omega) (fun x hx=>by rw[List.mem_singleton.1 hx];exact bx (by simp[okO]))).mono ?_
     rintro r h ⟨rfl,m3,rfl⟩
     simp-implicitDefEqProofs[aa,hlenA]
     refine(sU G (.ptr (L+1) 2 0 0) (.inr ⟨_,rfl⟩) _).mono ?_
     rintro r h ⟨rfl,rfl⟩
     simp-implicitDefEqProofs[aa,hlenA]
     refine(hblk _ m2 el [_,_,_] (by omega) (by omega) (ae (bx (by simp[okO])) (ae (xE _ _) (ae (by
      intro e he;rw[List.mem_singleton.1 he]
      exact⟨by simp only[below];simp,by simp only[below];simp,trivial⟩) bA)))).mono ?_
     rintro r h ⟨rfl,m4,rfl⟩
     simp-implicitDefEqProofs[aa,hlenA]
     refine⟨i+1,by omega,by omega,?_⟩
     rw[eT]
     refine hdrop _ _ _ (by simp) (by simp) (by simp[hsl]) (by simp) (by simp[w1 (i:=i) (by omega)])
    ·subst o6
     simp-implicitDefEqProofs[hlenA]
     refine(sU G (.ptr (L+1) 2 0 0) (.inr ⟨_,rfl⟩) _).mono ?_
     rintro r h ⟨rfl,rfl⟩
     simp-implicitDefEqProofs[aa,hlenA]
     refine(hblk c2 m2 bd [_] (by omega) (by omega) (fun x hx=>by rw[List.mem_singleton.1 hx];exact bx (by simp[okO]))).mono ?_
     rintro r h ⟨rfl,m3,rfl⟩
     simp-implicitDefEqProofs[aa,hlenA]
     refine(sU G (.ptr (L+1) 2 0 0) (.inr ⟨_,rfl⟩) _).mono ?_
     rintro r h ⟨rfl,rfl⟩
     simp-implicitDefEqProofs[aa,hlenA]
     refine(hblk _ m2 el [_,_,_] (by omega) (by omega) (ae (bx (by simp[okO])) (ae (xE _ _) (ae (by
      intro e he;rw[List.mem_singleton.1 he]
      exact⟨by simp only[below];simp,by simp only[below];simp,trivial⟩) bA)))).mono ?_
     rintro r h ⟨rfl,m4,rfl⟩
     simp-implicitDefEqProofs[aa,hlenA]
     refine⟨i+1,by omega,by omega,?_⟩
     rw[eT]
     refine hdrop _ _ _ (by simp) (by simp) (by simp[hsl]) (by simp) (by simp[w1 (i:=i) (by omega)])
   ·rw[if_neg ho] at eT
    have o5:¬o=5:=fun h=>ho (.inl h)
    have o6:¬o=6:=fun h=>ho (.inr h)
    simp-implicitDefEqProofs[hlenA,o5,o6]
    refine⟨i+1,by omega,by omega,?_⟩
    rw[eT]
    refine hdrop _ _ [_] (by simp) (by simp) (by simp[hsl]) (by simp) (by simp[w1 (i:=i) (by omega)])
  ·simp at h
   have hie:i=l.length:=by omega
   subst hie
   rw[List.take_length] at hst
   rw[hst]
   simp-implicitDefEqProofs[]
end Go.Proofs.YtnjbhgpbgmpkcaaGreatDoor
namespace Go.Proofs.YtnjbhgpbgmpkcaaGreatDoor
open Go Go.Aw
set_option maxRecDepth 100000
set_option maxHeartbeats 4000000
def K_impl_CheckProgram:AK:= .seq (.reg [oJ 1 (.box 1 (.t 0)),oK 2 0]) (.seq (.seq (.reg [oJ 11 (.ld (some 1) (.t 1)),oJ 12 (.call cF [(.t 11)]),oJ 13 (.not (.t 12))]) (.cond (.t 13) (.seq (.reg [oK 2 1]) (.ret)) (.skip))) (.seq (.reg [oJ 14 (.ld (some 1) (.t 1)),oJ 15 (.bld [.nils,(.p (.int .i64 0)),(.p (.int .i64 0))] [(0,1,(.t 14))]),oJ 16 (.box 3 (.t 15)),oM 3 16]) (.seq (.seq (.reg [oF 17 0 1,oL 18 17,oJ 19 (.len false (.t 18)),oK 20 0]) (.blk 0 (.loop (.seq (.reg [oJ 21 (.bin .lss (.t 20) (.t 19))]) (.seq (.cond (.t 21) (.skip) (.exit 0)) (.seq (.blk 1 (.seq (.reg [oM 22 20,oJ 23 (.idxS 3 (.t 18) (.t 20)),oJ 24 (.ld (some 3) (.t 23)),oJ 5 (.alloc [(.p (.str [])),.nils,.nils]),oM 4 22,⟨none,none,.st 3 (.t 5) (.t 24)⟩]) (.seq (.reg [oM 25 3,oM 26 4,oN 27 25,oF 28 1 27,oS 28 26]) (.cut (.seq (.reg [oJ 29 (.ld (some 1) (.t 1)),oF 30 0 5,oL 31 30,oJ 32 (.call eY [(.t 29),(.t 31)]),oM 33 4,oJ 34 (.bin .lss (.t 32) (.t 33))]) (.cond (.t 34) (.reg [oM 35 3,oJ 36 (.call an [(.t 35),(.c (.p (.int .i64 2)))])]) (.skip))) (.seq (.reg [oJ 37 (.call aU [(.c .nilp)]),oM 6 37]) (.seq (.seq (.reg [oF 38 1 5,oL 39 38,oJ 40 (.len false (.t 39)),oK 41 0]) (.blk 2 (.loop (.seq (.reg [oJ 42 (.bin .lss (.t 41) (.t 40))]) (.seq (.cond (.t 42) (.skip) (.exit 2)) (.seq (.blk 3 (.seq (.reg [oJ 43 (.idxS 1 (.t 39) (.t 41)),oL 44 43,oM 8 44]) (.seq (.seq (.reg [oM 46 6,oN 47 46,oF 48 0 47,oL 49 48,oM 50 8,oJ 51 (.lk 1 (.p (.int .i64 0)) true (.t 49) (.t 50)),oM 45 51,oJ 52 (.ext 0 (.t 45)),oJ 53 (.ext 1 (.t 45)),oM 9 52,oM 10 53]) (.seq (.reg [oM 54 10]) (.cond (.t 54) (.reg [oM 55 3,oJ 56 (.call an [(.t 55),(.c (.p (.int .i64 2)))])]) (.skip)))) (.reg [oM 57 6,oN 58 57,oF 59 0 58,oL 60 59,oM 61 8,⟨none,none,.mup 1 (.t 60) (.t 61) (.c (.p (.int .i64 0)))⟩])))) (.reg [oJ 62 (.bin .add (.t 41) (.c (.p (.int .i64 1)))),oM 41 62]))))))) (.reg [oM 63 3,oF 64 2 5,oL 65 64,oM 66 6,oJ 67 (.call aG [(.t 63),(.t 65),(.t 66)])]))))))) (.reg [oJ 68 (.bin .add (.t 20) (.c (.p (.int .i64 1)))),oM 20 68]))))))) (.seq (.reg [oM 69 3,oN 70 69,oF 71 2 70,oL 72 71,oM 2 72]) (.ret)))))
theorem mS:K_impl_CheckProgram.whole=F_impl_CheckProgram.ak:=rfl
theorem uH(fns:List Fd):∀(a b:List Fd) (k:Nat) (c:Int),iu fns k (a++b) c=iu fns (k+a.length) b (iu fns k a c)
 |[],b,k,c=>rfl
 |f::r,b,k,c=>by rw[List.cons_append,iu,iu,uH fns r];congr 1;simp only[List.length_cons];omega
theorem yV{fns l:List Fd}{i:Nat}{c:Int}(h:i<l.length):iu fns 0 (l.take (i+1)) c=icF fns i l[i] (iu fns 0 (l.take i) c):=by
 rw[ah h,uH,List.length_take,Nat.min_eq_left (Nat.le_of_lt h),Nat.zero_add];rfl
theorem CC(a b:List (List UInt8))(m:Scp)(c:Int):jw (a++b) m c=jw b (jw a m c).1 (jw a m c).2:=by simp[jw]
theorem AP{l:List (List UInt8)}{i:Nat}{m:Scp}{c:Int}(h:i<l.length):jw (l.take (i+1)) m c=(ij (jw (l.take i) m c).1 l[i] 0,if(gz (jw (l.take i) m c).1 l[i]).isSome then fl (jw (l.take i) m c).2 2 else(jw (l.take i) m c).2):=by
 rw[ah h,CC];rfl
variable (G:aw) (hK:G gE=some fW) (hS:G dq=some [.tbl opK opV])
include hK hS
theorem sL(l:List Fd)(hl:bL l≤1073741824):VF Tryz.prog G dT [.agg [.p (fdL l)]] (.p (.int .i64 (cm l))):=by
 have hll:=br l
 have hfl:∀l,fdL l= .lst 3 (l.map Fd.cs):=fun _=>rfl
 rw[zj]
 refine AC.goK mH mS ?_
 simp-implicitDefEqProofs[K_impl_CheckProgram,F_impl_CheckProgram]
 refine(su G hK hS l hl).use ?_
 by_cases hv:ca l=true
 case neg=>
  have hv':ca l=false:=by simpa using hv
  simp-implicitDefEqProofs[hv']
 rw[if_pos hv]
 simp-implicitDefEqProofs[hv,hfl]
 refine aq (fun i:Nat=>af 73 [(1,.ptr 0 1 0 0),(3,.ptr 1 3 0 0),(18,.p (fdL l)),(19,.p (.int .i64 l.length)),(20,.p (.int .i64 i))])
  (fun i=>[.row 1 [[.p (fdL l)]],cO l (i-1) (iu l 0 (l.take i) 0)]) (fun i=>i≤l.length) (fun i=>l.length-i) 0 (by simp) ?_ ?_
 ·refine ab (h:=[.row 1 [[.p (fdL l)]],cO l 0 0]) (by simp) (by simp[okO,below,cO]) (by simp[below,hfl])
 intro i hi
 have hbo:okO 0 (.row 1 [[.p (fdL l)]]):=by simp[okO]
 simp-implicitDefEqProofs[hfl]
 refine aQ (fun h=>?_) (fun h=>?_)
 ·simp at h
  have hg:=List.getElem?_eq_getElem h
  have hks:=dc (List.getElem_mem h)
  have eT:=yV (fns:=l) (c:=0) h
  obtain⟨j,ej,ejl⟩:=uz hg
  generalize l[i]=f at*
  have hcs:f.cs=[.str f.name,aC f.params,smL f.body]:=rfl
  have hfz:f.sz=1+f.name.length+(f.params.length+(f.params.map List.length).sum)+au f.body:=rfl
  have hst:aC f.params= .lst 1 (f.params.map fun w=>[.str w]):=rfl
  generalize iu l 0 (l.take i) 0=c0 at eT⊢
  simp-implicitDefEqProofs[hg,hcs,cO]
  have hic:icF l i f c0=(fE l i f.body (jw f.params [] (if j<i then fl c0 2 else c0)).1 [] (jw f.params [] (if j<i then fl c0 2 else c0)).2).2:=by
   rw[icF,ej];simp
  rw[hic] at eT
  clear hic
  refine lh (af 73 [(1,.ptr 0 1 0 0),(3,.ptr 1 3 0 0),(4,.p (.int .i64 i)),(5,.ptr 2 3 0 0),(18,.p (fdL l)),(19,.p (.int .i64 l.length)),(20,.p (.int .i64 i))])
   [.row 1 [[.p (fdL l)]],cO l i (if j<i then fl c0 2 else c0),.row 3 [[.p (.str f.name),.p (aC f.params),.p (smL f.body)]]] ?_ ?_
  ·simp-implicitDefEqProofs[]
   refine(yf G l f.name (by omega)).use ?_
   rw[ej]
   by_cases hj:j<i
   ·have hj':(j:Int)<(i:Int):=by omega
    rw[if_pos hj]
    simp-implicitDefEqProofs[ixI,hj']
    refine(vr G (.row 1 [[.p (fdL l)]]) l i c0 2 [.row 3 [[.p (.str f.name),.p (aC f.params),.p (smL f.body)]]]).mono ?_
    rintro r h ⟨rfl,rfl⟩
    simp-implicitDefEqProofs[aa]
    exact ab (by simp) (by simp[okO,below,cO]) (by simp[below,hfl])
   ·have hj':¬(j:Int)<(i:Int):=by omega
    rw[if_neg hj]
    simp-implicitDefEqProofs[ixI,hj']
    exact ab (h:=[.row 1 [[.p (fdL l)]],cO l i c0,.row 3 [[.p (.str f.name),.p (aC f.params),.p (smL f.body)]]]) (by simp) (by simp[okO,below,cO]) (by simp[below,hfl])
  generalize (if j<i then fl c0 2 else c0)=c1 at eT⊢
  have hCH:∀(c:Int) (m:Scp),CH (.row 1 [[.p (fdL l)]]) l i c [⟨[.row 3 [[.p (.str f.name),.p (aC f.params),.p (smL f.body)]]],m⟩]=[.row 1 [[.p (fdL l)]],cO l i c,.row 3 [[.p (.str f.name),.p (aC f.params),.p (smL f.body)]],.mp (mpE m),.row 2 [[.mp 3,.nilp]]]:=fun _ _=>rfl
  simp-implicitDefEqProofs[]
  refine(sU G .nilp (.inl rfl) _).mono ?_
  rintro r h ⟨rfl,rfl⟩
  simp-implicitDefEqProofs[aa,hst]
  refine aq (fun q:Nat=>af 73 [(1,.ptr 0 1 0 0),(3,.ptr 1 3 0 0),(4,.p (.int .i64 i)),(5,.ptr 2 3 0 0),(6,.ptr 4 2 0 0),(18,.p (fdL l)),(19,.p (.int .i64 l.length)),(20,.p (.int .i64 i)),(39,.p (aC f.params)),(40,.p (.int .i64 f.params.length)),(41,.p (.int .i64 q))])
   (fun q=>[.row 1 [[.p (fdL l)]],cO l i (jw (f.params.take q) [] c1).2,.row 3 [[.p (.str f.name),.p (aC f.params),.p (smL f.body)]],.mp (mpE (jw (f.params.take q) [] c1).1),.row 2 [[.mp 3,.nilp]]])
   (fun q=>q≤f.params.length) (fun q=>f.params.length-q) 0 (by simp) ?_ ?_
  ·exact ab (h:=[.row 1 [[.p (fdL l)]],cO l i c1,.row 3 [[.p (.str f.name),.p (aC f.params),.p (smL f.body)]],.mp [],.row 2 [[.mp 3,.nilp]]]) (by simp) (by simp[okO,below,cO]) (by simp[below,hfl,hst])
  intro q hq
  have eP:=fun h=>AP (l:=f.params) (i:=q) (m:=[]) (c:=c1) h
  generalize hP:jw (f.params.take q) [] c1=st at eP⊢
  obtain⟨mq,cq⟩:=st
  simp only at eP⊢
  simp-implicitDefEqProofs[hst]
  refine aQ (fun hc=>?_) (fun hc=>?_)
  ·simp at hc
   have hga:=List.getElem?_eq_getElem hc
   have eP:=eP hc
   generalize f.params[q]=nme at hga eP
   have hmg:=oI nme mq
   have hms:gw (.str nme) (.p (.int .i64 0)) (mpE mq)=some (mpE (ij mq nme 0)):=by simpa using to nme 0 mq
   have fin:∀(r1:List (Nat × AV)) (c2:Int),Aw.look r1 1= .ptr 0 1 0 0→Aw.look r1 3= .ptr 1 3 0 0→Aw.look r1 4= .p (.int .i64 i)→Aw.look r1 5= .ptr 2 3 0 0→Aw.look r1 6= .ptr 4 2 0 0→Aw.look r1 18= .p (fdL l)→Aw.look r1 19= .p (.int .i64 l.length)→Aw.look r1 20= .p (.int .i64 i)→Aw.look r1 39= .p (aC f.params)→Aw.look r1 40= .p (.int .i64 f.params.length)→Aw.look r1 41= .p (.int .i64 ((q:Int)+1))→
    Wk 0 (af 73 r1) [.row 1 [[.p (fdL l)]],cO l i c2,.row 3 [[.p (.str f.name),.p (aC f.params),.p (smL f.body)]],.mp (mpE (ij mq nme 0)),.row 2 [[.mp 3,.nilp]]]
     (af 73 [(1,.ptr 0 1 0 0),(3,.ptr 1 3 0 0),(4,.p (.int .i64 i)),(5,.ptr 2 3 0 0),(6,.ptr 4 2 0 0),(18,.p (fdL l)),(19,.p (.int .i64 l.length)),(20,.p (.int .i64 i)),(39,.p (aC f.params)),(40,.p (.int .i64 f.params.length)),(41,.p (.int .i64 ((q:Int)+1)))])
     [.row 1 [[.p (fdL l)]],cO l i c2,.row 3 [[.p (.str f.name),.p (aC f.params),.p (smL f.body)]],.mp (mpE (ij mq nme 0)),.row 2 [[.mp 3,.nilp]]]:=by
    intro r1 c2 e1 e3 e4 e5 e6 e18 e19 e20 e39 e40 e41
    refine ab (by simp) (ae (by simp[okO]) (ae (by simp[okO,cO]) (ae (by simp[okO]) (ae (xE _ _) (ae (by simp[okO,below]) bA))))) ?_
    simp[below,e1,e3,e4,e5,e6,e18,e19,e20,e39,e40,e41]
   cases hh:gz mq nme with
   |none=>
    rw[hh] at hmg eP
    simp-implicitDefEqProofs[hga,hmg,hms]
    refine⟨q+1,by omega,by omega,?_⟩
    rw[eP]
    exact fin _ _ (by simp) (by simp) (by simp) (by simp) (by simp) (by simp[hfl]) (by simp) (by simp) (by simp[hst]) (by simp) (by simp[w1 (i:=q) (by omega)])
   |some n=>
    rw[hh] at hmg eP
    simp-implicitDefEqProofs[hga,hmg,hms]
    refine(vr G (.row 1 [[.p (fdL l)]]) l i cq 2 _).mono ?_
    rintro r h ⟨rfl,rfl⟩
    simp-implicitDefEqProofs[aa,hms]
    refine⟨q+1,by omega,by omega,?_⟩
    rw[eP]
    exact fin _ _ (by simp) (by simp) (by simp) (by simp) (by simp) (by simp[hfl]) (by simp) (by simp) (by simp[hst]) (by simp) (by simp[w1 (i:=q) (by omega)])
  ·simp at hc
   have hqe:q=f.params.length:=by omega
   subst hqe
   rw[List.take_length] at hP
   rw[hP] at eT
   simp only at eT
   have hB:=Fl G (.row 1 [[.p (fdL l)]]) (fns:=l) (k:=i) (by omega) (by omega) hbo (au f.body+1) f.body (by omega) (by omega) [.row 3 [[.p (.str f.name),.p (aC f.params),.p (smL f.body)]]] mq [] cq ⟨by simp[okO],trivial⟩
   rw[hCH] at hB
   simp-implicitDefEqProofs[]
   refine hB.mono ?_
   rintro r h ⟨rfl,rfl⟩
   simp-implicitDefEqProofs[aa]
   refine⟨i+1,by omega,by omega,?_⟩
   rw[eT]
   refine jk (m:=2) (by omega) (ex rfl rfl (by simp[okO,below,cO])) (by simp[below,hfl,w1 (i:=i) (by omega)])
 ·simp at h
  have hie:i=l.length:=by omega
  subst hie
  rw[List.take_length]
  simp-implicitDefEqProofs[cO]
end Go.Proofs.YtnjbhgpbgmpkcaaGreatDoor
namespace Go.Proofs.YtnjbhgpbgmpkcaaGreatDoor
open Go Go.Aw
set_option maxRecDepth 100000
set_option maxHeartbeats 4000000
abbrev BL:Nat:=9223372036854775807
mutual
def Ex.fit:Ex→Prop
 | .mk _ _ s k=>s.length≤BL∧k.length≤BL∧kq k
def kq:List Ex→Prop
 |[]=>True
 |e::r=>e.fit∧kq r
end
mutual
def Sm.fit:Sm→Prop
 | .mk _ s a b e=>s.length≤BL∧(a.length≤BL∧kq a)∧(b.length≤BL∧ie b)∧(e.length≤BL∧ie e)
def ie:List Sm→Prop
 |[]=>True
 |s::r=>s.fit∧ie r
end
def Fd.fit(f:Fd):Prop:=f.name.length≤BL∧(f.params.length≤BL∧∀x∈f.params,x.length≤BL)∧(f.body.length≤BL∧ie f.body)
theorem nP:∀{l:List Ex} {e:Ex},kq l→e∈l→e.fit
 |x::r,e,h,hm=>by
  rcases List.mem_cons.1 hm with rfl|hm
  ·exact h.1
  ·exact nP h.2 hm
theorem nM:∀{l:List Sm} {e:Sm},ie l→e∈l→e.fit
 |x::r,e,h,hm=>by
  rcases List.mem_cons.1 hm with rfl|hm
  ·exact h.1
  ·exact nM h.2 hm
theorem Ex.fit_eq(e:Ex):e.fit=(e.name.length≤BL∧e.kids.length≤BL∧kq e.kids):=by cases e;rfl
theorem Sm.fit_eq(s:Sm):s.fit=(s.name.length≤BL∧(s.args.length≤BL∧kq s.args)∧(s.body.length≤BL∧ie s.body)∧(s.els.length≤BL∧ie s.els)):=by cases s;rfl
theorem Fd.cs_eq'(f:Fd):f.cs=[.str f.name,aC f.params,smL f.body]:=rfl
def cM(ss:List Nat)(i:Nat):Nat:=ss.length+((ss.take i).map (· -1)).sum
theorem pV(ss:List Nat):cM ss 0=ss.length:=by simp[cM]
theorem px{ss:List Nat}{i v:Nat}(h:ss[i]?=some v):cM ss (i+1)=cM ss i+(v-1):=by
 rw[cM,cM,List.take_add_one,h,List.map_append,List.sum_append];simp;omega
theorem uU:∀{ss:List Nat},(∀v∈ss,1≤v)→ss.length+(ss.map (· -1)).sum=ss.sum
 |[],_=>rfl
 |v::r,h=>by
  have:=uU (ss:=r) fun x hx=>h x (by simp[hx])
  have h1:=h v (by simp)
  simp only[List.length_cons,List.map_cons,List.sum_cons];omega
theorem sV{ss:List Nat}(h:∀v∈ss,1≤v){i:Nat}(hi:ss.length≤i):cM ss i=ss.sum:=by
 rw[cM,List.take_of_length_le hi,uU h]
theorem vB{ss:List Nat}(h:∀v∈ss,1≤v)(i:Nat):cM ss i≤ss.sum:=by
 rw[←uU h,cM]
 have:(ss.map (· -1)).sum=((ss.take i).map (· -1)).sum+((ss.drop i).map (· -1)).sum:=by
  conv=>lhs;rw[←List.take_append_drop i ss,List.map_append,List.sum_append]
 omega
theorem wh:∀l:List Ex,bv l=(l.map Ex.sz).sum
 |[]=>rfl
 |e::r=>by simp only[bv,List.map_cons,List.sum_cons,wh r]
theorem vZ:∀l:List Sm,au l=(l.map Sm.sz).sum
 |[]=>rfl
 |e::r=>by simp only[au,List.map_cons,List.sum_cons,vZ r]
theorem CB(l:List Fd):bL l=(l.map Fd.sz).sum:=rfl
theorem Ex.sz_pos(e:Ex):1≤e.sz:=by rw[e.sz_eq];omega
theorem Sm.sz_pos(e:Sm):1≤e.sz:=by rw[e.sz_eq];omega
theorem Fd.sz_pos(f:Fd):1≤f.sz:=by unfold Fd.sz;omega
def bs(left z:Nat):Int:=if z≤left then((left-z:Nat):Int) else-1
variable (G:aw)
theorem ui(l:List Ex)(left:Nat)(hl:left≤1048576)(hb:l.length≤BL)(H:∀e∈l,∀left:Nat,left≤1048576→VF Tryz.prog G gh [.agg (e.cs.map .p),.p (.int .i64 left)] (.p (.int .i64 (bs left (e.sz-1))))):
 VF Tryz.prog G dA [.p (exL l),.p (.int .i64 left)] (.p (.int .i64 (bs left (bv l)))):=by
 refine AC.go rS ?_
 have hpos:∀v∈l.map Ex.sz,1≤v:=fun v hv=>by obtain⟨e,_,rfl⟩:=List.mem_map.1 hv;exact e.sz_pos
 have hz:=wh l
 have hal:=fun i (hi:l.length≤i)=>sV hpos (i:=i) (by rw[List.length_map];exact hi)
 have hle:=vB hpos
 have h00:cM (l.map Ex.sz) 0=l.length:=by rw[pV,List.length_map]
 rw[←hz] at hal hle
 have hsl:∀l,exL l= .lst 4 (l.map Ex.cs):=fun _=>rfl
 have hw:IntKind.i64.wrap ((left:Int)-l.length)=(left:Int)-l.length:=al (by simp only[BL] at hb;omega) (by omega)
 by_cases h:l.length≤left
 case neg=>
  have h1:(left:Int)-l.length<0:=by omega
  have:=hle 0
  have h2:bs left (bv l)= -1:=if_neg (by omega)
  simp-implicitDefEqProofs[iw,hsl,hw,h1,h2]
 have h1:¬(left:Int)-l.length<0:=by omega
 simp-implicitDefEqProofs[iw,hsl,hw,h1]
 refine aq (fun i:Nat=>af 27 [(0,.p (exL l)),(1,.p (.int .i64 ((left-cM (l.map Ex.sz) i:Nat):Int))),(5,.p (.int .i64 i))]) (fun _=>[]) (fun i=>i≤l.length∧cM (l.map Ex.sz) i≤left) (fun i=>l.length-i) 0 ⟨by omega,by rw[h00];exact h⟩ ?_ ?_
 ·refine aD rfl ?_
  simp only[h00]
  simp[below,hsl]
  omega
 ·intro i ⟨hi,hx⟩
  simp-implicitDefEqProofs[hsl]
  refine aQ (fun h1=>?_) (fun h1=>?_)
  ·simp at h1
   have hg:=List.getElem?_eq_getElem h1
   have hsu:=px (ss:=l.map Ex.sz) (i:=i) (v:=l[i].sz) (by rw[List.getElem?_map,hg];rfl)
   have hH:=H l[i] (List.getElem_mem h1) (left-cM (l.map Ex.sz) i) (by omega)
   have hcs:l[i].cs.length=4:=by simp
   have hle1:=hle (i+1)
   generalize l[i]=e at hg hsu hH hcs
   simp-implicitDefEqProofs[hg,hcs]
   refine hH.use ?_
   by_cases h2:e.sz-1≤left-cM (l.map Ex.sz) i
   ·have e2:bs (left-cM (l.map Ex.sz) i) (e.sz-1)=((left-cM (l.map Ex.sz) (i+1):Nat):Int):=by rw[bs,if_pos h2];omega
    have h3:¬((left-cM (l.map Ex.sz) (i+1):Nat):Int)<0:=by omega
    rw[e2]
    simp-implicitDefEqProofs[h3]
    refine⟨i+1,⟨h1,by omega⟩,by omega,aD rfl (by simp[below,hsl,w1 (i:=i) (by simp only[BL] at hb;omega)])⟩
   ·have e2:bs (left-cM (l.map Ex.sz) i) (e.sz-1)= -1:=if_neg h2
    have e3:bs left (bv l)= -1:=if_neg (by omega)
    rw[e2,e3]
    simp-implicitDefEqProofs[]
  ·simp at h1
   have hta:=hal i h1
   have h5:bs left (bv l)=((left-cM (l.map Ex.sz) i:Nat):Int):=by rw[hta,bs,if_pos (by omega)]
   simp-implicitDefEqProofs[h5]
theorem uG(l:List Ex)(hb:l.length≤1048576)(H:∀e∈l,VF Tryz.prog G dd [.agg (e.cs.map .p)] (.agg (e.cs.map .p))):VF Tryz.prog G bH [.p (exL l)] (.p (exL l)):=by
 have hsl:∀l,exL l= .lst 4 (l.map Ex.cs):=fun _=>rfl
 have key:AC Tryz.prog G bH [.p (exL l)] [] fun x h=>x= .ret (.sl 0 4 0 l.length)∧h=[.row 4 (l.map fun e=>e.cs.map .p)]:=by
  refine AC.go lz ?_
  have hn:(l.map fun e=>e.cs.map AV.p).length=l.length:=by simp
  simp-implicitDefEqProofs[ig,hsl]
  refine⟨by omega,?_⟩
  refine aq (fun i:Nat=>af 23 [(0,.p (exL l)),(3,.sl 0 4 0 l.length),(4,.p (.int .i64 i))]) (fun i=>[.row 4 ((l.map fun e=>e.cs.map AV.p).take i++List.replicate (l.length-i) [.p (.int .i64 0),.p (.int .i64 0),.p (.str []),.nils])]) (fun i=>i≤l.length) (fun i=>l.length-i) 0 (by simp) ?_ ?_
  ·refine dw [0] rfl (by simp) (bf (by simp) (by simp[below]) bp) ?_
   simp[below,ren,hsl]
  ·intro i hi
   simp-implicitDefEqProofs[hsl]
   refine aQ (fun h1=>?_) (fun h1=>?_)
   ·simp at h1
    have hg:=List.getElem?_eq_getElem h1
    have hg2:=rL (z:=([.p (.int .i64 0),.p (.int .i64 0),.p (.str []),.nils]:List AV)) hn h1
    have hset:=oV (z:=([.p (.int .i64 0),.p (.int .i64 0),.p (.str []),.nils]:List AV)) (v:=l[i].cs.map AV.p) hn h1 (by rw[List.getElem?_map,hg];rfl)
    have hH:=H l[i] (List.getElem_mem h1)
    have hcs:=l[i].cs_eq
    have htl:(List.take i (l.map fun(e:Ex)=>e.cs.map AV.p)++List.replicate (l.length-i) ([.p (.int .i64 0),.p (.int .i64 0),.p (.str []),.nils]:List AV)).length=l.length:=by simp;omega
    generalize l[i]=e at hg hset hH hcs
    generalize hRow:(List.take i (l.map fun(e:Ex)=>e.cs.map AV.p)++List.replicate (l.length-i) ([.p (.int .i64 0),.p (.int .i64 0),.p (.str []),.nils]:List AV))=Rw at hg2 hset htl⊢
    rw[hcs] at hH hset
    simp-implicitDefEqProofs[hg,hcs]
    refine hH.use ?_
    simp-implicitDefEqProofs[hg2,h1,dC]
    simp only[List.map_cons,List.map_nil] at hset
    rw[hset]
    refine⟨i+1,h1,by omega,dw [0] rfl (by simp) (bf rfl ?_ bp) ?_⟩
    ·intro x hx
     rcases List.mem_append.1 hx with hx|hx
     ·obtain⟨y,_,rfl⟩:=List.mem_map.1 (List.mem_of_mem_take hx);simp
     ·rw[(List.mem_replicate.1 hx).2];simp[below]
    ·simp[below,ren,hsl,w1 (i:=i) (by omega)]
   ·simp at h1
    have hie:i=l.length:=by omega
    subst hie
    rw[Nat.sub_self,List.replicate_zero,List.append_nil,List.take_of_length_le (by rw[hn];exact Nat.le_refl _)]
    simp-implicitDefEqProofs[]
 refine AC.freeze key (.one ?_ .nil)
 have:=fw (h:=[.row 4 (l.map fun e=>e.cs.map .p)]) (id:=0) (sz:=4) (n:=l.length) (ls:=l.map Ex.cs) (by simp) (by simp) (fun x hx=>by obtain⟨b,_,rfl⟩:=List.mem_map.1 hx;simp)
 exact this
theorem uf(l:List Ex)(hb:l.length≤1048576)(H:∀e∈l,VF Tryz.prog G gk [.agg (e.cs.map .p),.agg (e.cs.map .p)] (.p (.bool true))):VF Tryz.prog G dv [.p (exL l),.p (exL l)] (.p (.bool true)):=by
 refine AC.go sW ?_
 have hsl:∀l,exL l= .lst 4 (l.map Ex.cs):=fun _=>rfl
 simp-implicitDefEqProofs[lP,hsl]
 refine aq (fun i:Nat=>af 27 [(0,.p (exL l)),(1,.p (exL l)),(5,.p (.int .i64 i))]) (fun _=>[]) (fun i=>i≤l.length) (fun i=>l.length-i) 0 (by simp) ?_ ?_
 ·exact aD rfl (by simp[below,hsl])
 intro i hi
 simp-implicitDefEqProofs[hsl]
 refine aQ (fun h1=>?_) (fun h1=>?_)
 ·simp at h1
  have hg:=List.getElem?_eq_getElem h1
  have hH:=H l[i] (List.getElem_mem h1)
  have hcs:l[i].cs.length=4:=by simp
  generalize l[i]=e at hg hH hcs
  simp-implicitDefEqProofs[hg,hcs]
  refine hH.use ?_
  simp-implicitDefEqProofs[]
  exact⟨i+1,h1,by omega,aD rfl (by simp[below,hsl,w1 (i:=i) (by omega)])⟩
 ·simp at h1
  simp-implicitDefEqProofs[]
theorem uq(l:List Sm)(left:Nat)(hl:left≤1048576)(hb:l.length≤BL)(H:∀e∈l,∀left:Nat,left≤1048576→VF Tryz.prog G gi [.agg (e.cs.map .p),.p (.int .i64 left)] (.p (.int .i64 (bs left (e.sz-1))))):
 VF Tryz.prog G cf [.p (smL l),.p (.int .i64 left)] (.p (.int .i64 (bs left (au l)))):=by
 refine AC.go rq ?_
 have hpos:∀v∈l.map Sm.sz,1≤v:=fun v hv=>by obtain⟨e,_,rfl⟩:=List.mem_map.1 hv;exact e.sz_pos
 have hz:=vZ l
 have hal:=fun i (hi:l.length≤i)=>sV hpos (i:=i) (by rw[List.length_map];exact hi)
 have hle:=vB hpos
 have h00:cM (l.map Sm.sz) 0=l.length:=by rw[pV,List.length_map]
 rw[←hz] at hal hle
 have hsl:∀l,smL l= .lst 5 (l.map Sm.cs):=fun _=>rfl
 have hw:IntKind.i64.wrap ((left:Int)-l.length)=(left:Int)-l.length:=al (by simp only[BL] at hb;omega) (by omega)
 by_cases h:l.length≤left
 case neg=>
  have h1:(left:Int)-l.length<0:=by omega
  have:=hle 0
  have h2:bs left (au l)= -1:=if_neg (by omega)
  simp-implicitDefEqProofs[ic,hsl,hw,h1,h2]
 have h1:¬(left:Int)-l.length<0:=by omega
 simp-implicitDefEqProofs[ic,hsl,hw,h1]
 refine aq (fun i:Nat=>af 27 [(0,.p (smL l)),(1,.p (.int .i64 ((left-cM (l.map Sm.sz) i:Nat):Int))),(5,.p (.int .i64 i))]) (fun _=>[]) (fun i=>i≤l.length∧cM (l.map Sm.sz) i≤left) (fun i=>l.length-i) 0 ⟨by omega,by rw[h00];exact h⟩ ?_ ?_
 ·refine aD rfl ?_
  simp only[h00]
  simp[below,hsl]
  omega
 ·intro i ⟨hi,hx⟩
  simp-implicitDefEqProofs[hsl]
  refine aQ (fun h1=>?_) (fun h1=>?_)
  ·simp at h1
   have hg:=List.getElem?_eq_getElem h1
   have hsu:=px (ss:=l.map Sm.sz) (i:=i) (v:=l[i].sz) (by rw[List.getElem?_map,hg];rfl)
   have hH:=H l[i] (List.getElem_mem h1) (left-cM (l.map Sm.sz) i) (by omega)
   have hcs:l[i].cs.length=5:=by simp
   have hle1:=hle (i+1)
   generalize l[i]=e at hg hsu hH hcs
   simp-implicitDefEqProofs[hg,hcs]
   refine hH.use ?_
   by_cases h2:e.sz-1≤left-cM (l.map Sm.sz) i
   ·have e2:bs (left-cM (l.map Sm.sz) i) (e.sz-1)=((left-cM (l.map Sm.sz) (i+1):Nat):Int):=by rw[bs,if_pos h2];omega
    have h3:¬((left-cM (l.map Sm.sz) (i+1):Nat):Int)<0:=by omega
    rw[e2]
    simp-implicitDefEqProofs[h3]
    refine⟨i+1,⟨h1,by omega⟩,by omega,aD rfl (by simp[below,hsl,w1 (i:=i) (by simp only[BL] at hb;omega)])⟩
   ·have e2:bs (left-cM (l.map Sm.sz) i) (e.sz-1)= -1:=if_neg h2
    have e3:bs left (au l)= -1:=if_neg (by omega)
    rw[e2,e3]
    simp-implicitDefEqProofs[]
  ·simp at h1
   have hta:=hal i h1
   have h5:bs left (au l)=((left-cM (l.map Sm.sz) i:Nat):Int):=by rw[hta,bs,if_pos (by omega)]
   simp-implicitDefEqProofs[h5]
theorem pI(l:List Sm)(hb:l.length≤1048576)(H:∀e∈l,VF Tryz.prog G dg [.agg (e.cs.map .p)] (.agg (e.cs.map .p))):VF Tryz.prog G bh [.p (smL l)] (.p (smL l)):=by
 have hsl:∀l,smL l= .lst 5 (l.map Sm.cs):=fun _=>rfl
 have key:AC Tryz.prog G bh [.p (smL l)] [] fun x h=>x= .ret (.sl 0 5 0 l.length)∧h=[.row 5 (l.map fun e=>e.cs.map .p)]:=by
  refine AC.go lm ?_
  have hn:(l.map fun e=>e.cs.map AV.p).length=l.length:=by simp
  simp-implicitDefEqProofs[il,hsl]
  refine⟨by omega,?_⟩
  refine aq (fun i:Nat=>af 23 [(0,.p (smL l)),(3,.sl 0 5 0 l.length),(4,.p (.int .i64 i))]) (fun i=>[.row 5 ((l.map fun e=>e.cs.map AV.p).take i++List.replicate (l.length-i) [.p (.int .i64 0),.p (.str []),.nils,.nils,.nils])]) (fun i=>i≤l.length) (fun i=>l.length-i) 0 (by simp) ?_ ?_
  ·refine dw [0] rfl (by simp) (bf (by simp) (by simp[below]) bp) ?_
   simp[below,ren,hsl]
  ·intro i hi
   simp-implicitDefEqProofs[hsl]
   refine aQ (fun h1=>?_) (fun h1=>?_)
   ·simp at h1
    have hg:=List.getElem?_eq_getElem h1
    have hg2:=rL (z:=([.p (.int .i64 0),.p (.str []),.nils,.nils,.nils]:List AV)) hn h1
    have hset:=oV (z:=([.p (.int .i64 0),.p (.str []),.nils,.nils,.nils]:List AV)) (v:=l[i].cs.map AV.p) hn h1 (by rw[List.getElem?_map,hg];rfl)
    have hH:=H l[i] (List.getElem_mem h1)
    have hcs:=l[i].cs_eq
    have htl:(List.take i (l.map fun(e:Sm)=>e.cs.map AV.p)++List.replicate (l.length-i) ([.p (.int .i64 0),.p (.str []),.nils,.nils,.nils]:List AV)).length=l.length:=by simp;omega
    generalize l[i]=e at hg hset hH hcs
    generalize hRow:(List.take i (l.map fun(e:Sm)=>e.cs.map AV.p)++List.replicate (l.length-i) ([.p (.int .i64 0),.p (.str []),.nils,.nils,.nils]:List AV))=Rw at hg2 hset htl⊢
    rw[hcs] at hH hset
    simp-implicitDefEqProofs[hg,hcs]
    refine hH.use ?_
    simp-implicitDefEqProofs[hg2,h1,dC]
    simp only[List.map_cons,List.map_nil] at hset
    rw[hset]
    refine⟨i+1,h1,by omega,dw [0] rfl (by simp) (bf rfl ?_ bp) ?_⟩
    ·intro x hx
     rcases List.mem_append.1 hx with hx|hx
     ·obtain⟨y,_,rfl⟩:=List.mem_map.1 (List.mem_of_mem_take hx);simp
     ·rw[(List.mem_replicate.1 hx).2];simp[below]
    ·simp[below,ren,hsl,w1 (i:=i) (by omega)]
   ·simp at h1
    have hie:i=l.length:=by omega
    subst hie
    rw[Nat.sub_self,List.replicate_zero,List.append_nil,List.take_of_length_le (by rw[hn];exact Nat.le_refl _)]
    simp-implicitDefEqProofs[]
 refine AC.freeze key (.one ?_ .nil)
 have:=fw (h:=[.row 5 (l.map fun e=>e.cs.map .p)]) (id:=0) (sz:=5) (n:=l.length) (ls:=l.map Sm.cs) (by simp) (by simp) (fun x hx=>by obtain⟨b,_,rfl⟩:=List.mem_map.1 hx;simp)
 exact this
theorem pC(l:List Sm)(hb:l.length≤1048576)(H:∀e∈l,VF Tryz.prog G gq [.agg (e.cs.map .p),.agg (e.cs.map .p)] (.p (.bool true))):VF Tryz.prog G cH [.p (smL l),.p (smL l)] (.p (.bool true)):=by
 refine AC.go rZ ?_
 have hsl:∀l,smL l= .lst 5 (l.map Sm.cs):=fun _=>rfl
 simp-implicitDefEqProofs[lR,hsl]
 refine aq (fun i:Nat=>af 27 [(0,.p (smL l)),(1,.p (smL l)),(5,.p (.int .i64 i))]) (fun _=>[]) (fun i=>i≤l.length) (fun i=>l.length-i) 0 (by simp) ?_ ?_
 ·exact aD rfl (by simp[below,hsl])
 intro i hi
 simp-implicitDefEqProofs[hsl]
 refine aQ (fun h1=>?_) (fun h1=>?_)
 ·simp at h1
  have hg:=List.getElem?_eq_getElem h1
  have hH:=H l[i] (List.getElem_mem h1)
  have hcs:l[i].cs.length=5:=by simp
  generalize l[i]=e at hg hH hcs
  simp-implicitDefEqProofs[hg,hcs]
  refine hH.use ?_
  simp-implicitDefEqProofs[]
  exact⟨i+1,h1,by omega,aD rfl (by simp[below,hsl,w1 (i:=i) (by omega)])⟩
 ·simp at h1
  simp-implicitDefEqProofs[]
theorem Gb(l:List Fd)(left:Nat)(hl:left≤1048576)(hb:l.length≤BL)(H:∀e∈l,∀left:Nat,left≤1048576→VF Tryz.prog G jh [.agg (e.cs.map .p),.p (.int .i64 left)] (.p (.int .i64 (bs left (e.sz-1))))):
 VF Tryz.prog G ke [.p (fdL l),.p (.int .i64 left)] (.p (.int .i64 (bs left (bL l)))):=by
 refine AC.go vt ?_
 have hpos:∀v∈l.map Fd.sz,1≤v:=fun v hv=>by obtain⟨e,_,rfl⟩:=List.mem_map.1 hv;exact e.sz_pos
 have hz:=CB l
 have hal:=fun i (hi:l.length≤i)=>sV hpos (i:=i) (by rw[List.length_map];exact hi)
 have hle:=vB hpos
 have h00:cM (l.map Fd.sz) 0=l.length:=by rw[pV,List.length_map]
 rw[←hz] at hal hle
 have hsl:∀l,fdL l= .lst 3 (l.map Fd.cs):=fun _=>rfl
 have hw:IntKind.i64.wrap ((left:Int)-l.length)=(left:Int)-l.length:=al (by simp only[BL] at hb;omega) (by omega)
 by_cases h:l.length≤left
 case neg=>
  have h1:(left:Int)-l.length<0:=by omega
  have:=hle 0
  have h2:bs left (bL l)= -1:=if_neg (by omega)
  simp-implicitDefEqProofs[kx,hsl,hw,h1,h2]
 have h1:¬(left:Int)-l.length<0:=by omega
 simp-implicitDefEqProofs[kx,hsl,hw,h1]
 refine aq (fun i:Nat=>af 27 [(0,.p (fdL l)),(1,.p (.int .i64 ((left-cM (l.map Fd.sz) i:Nat):Int))),(5,.p (.int .i64 i))]) (fun _=>[]) (fun i=>i≤l.length∧cM (l.map Fd.sz) i≤left) (fun i=>l.length-i) 0 ⟨by omega,by rw[h00];exact h⟩ ?_ ?_
 ·refine aD rfl ?_
  simp only[h00]
  simp[below,hsl]
  omega
 ·intro i ⟨hi,hx⟩
  simp-implicitDefEqProofs[hsl]
  refine aQ (fun h1=>?_) (fun h1=>?_)
  ·simp at h1
   have hg:=List.getElem?_eq_getElem h1
   have hsu:=px (ss:=l.map Fd.sz) (i:=i) (v:=l[i].sz) (by rw[List.getElem?_map,hg];rfl)
   have hH:=H l[i] (List.getElem_mem h1) (left-cM (l.map Fd.sz) i) (by omega)
   have hcs:l[i].cs.length=3:=by simp
   have hle1:=hle (i+1)
   generalize l[i]=e at hg hsu hH hcs
   simp-implicitDefEqProofs[hg,hcs]
   refine hH.use ?_
   by_cases h2:e.sz-1≤left-cM (l.map Fd.sz) i
   ·have e2:bs (left-cM (l.map Fd.sz) i) (e.sz-1)=((left-cM (l.map Fd.sz) (i+1):Nat):Int):=by rw[bs,if_pos h2];omega
    have h3:¬((left-cM (l.map Fd.sz) (i+1):Nat):Int)<0:=by omega
    rw[e2]
    simp-implicitDefEqProofs[h3]
    refine⟨i+1,⟨h1,by omega⟩,by omega,aD rfl (by simp[below,hsl,w1 (i:=i) (by simp only[BL] at hb;omega)])⟩
   ·have e2:bs (left-cM (l.map Fd.sz) i) (e.sz-1)= -1:=if_neg h2
    have e3:bs left (bL l)= -1:=if_neg (by omega)
    rw[e2,e3]
    simp-implicitDefEqProofs[]
  ·simp at h1
   have hta:=hal i h1
   have h5:bs left (bL l)=((left-cM (l.map Fd.sz) i:Nat):Int):=by rw[hta,bs,if_pos (by omega)]
   simp-implicitDefEqProofs[h5]
theorem FY(l:List Fd)(hb:l.length≤1048576)(H:∀e∈l,VF Tryz.prog G eX [.agg (e.cs.map .p)] (.agg (e.cs.map .p))):VF Tryz.prog G fv [.p (fdL l)] (.p (fdL l)):=by
 have hsl:∀l,fdL l= .lst 3 (l.map Fd.cs):=fun _=>rfl
 have key:AC Tryz.prog G fv [.p (fdL l)] [] fun x h=>x= .ret (.sl 0 3 0 l.length)∧h=[.row 3 (l.map fun e=>e.cs.map .p)]:=by
  refine AC.go pm ?_
  have hn:(l.map fun e=>e.cs.map AV.p).length=l.length:=by simp
  simp-implicitDefEqProofs[kr,hsl]
  refine⟨by omega,?_⟩
  refine aq (fun i:Nat=>af 23 [(0,.p (fdL l)),(3,.sl 0 3 0 l.length),(4,.p (.int .i64 i))]) (fun i=>[.row 3 ((l.map fun e=>e.cs.map AV.p).take i++List.replicate (l.length-i) [.p (.str []),.nils,.nils])]) (fun i=>i≤l.length) (fun i=>l.length-i) 0 (by simp) ?_ ?_
  ·refine dw [0] rfl (by simp) (bf (by simp) (by simp[below]) bp) ?_
   simp[below,ren,hsl]
  ·intro i hi
   simp-implicitDefEqProofs[hsl]
   refine aQ (fun h1=>?_) (fun h1=>?_)
   ·simp at h1
    have hg:=List.getElem?_eq_getElem h1
    have hg2:=rL (z:=([.p (.str []),.nils,.nils]:List AV)) hn h1
    have hset:=oV (z:=([.p (.str []),.nils,.nils]:List AV)) (v:=l[i].cs.map AV.p) hn h1 (by rw[List.getElem?_map,hg];rfl)
    have hH:=H l[i] (List.getElem_mem h1)
    have hcs:=l[i].cs_eq'
    have htl:(List.take i (l.map fun(e:Fd)=>e.cs.map AV.p)++List.replicate (l.length-i) ([.p (.str []),.nils,.nils]:List AV)).length=l.length:=by simp;omega
    generalize l[i]=e at hg hset hH hcs
    generalize hRow:(List.take i (l.map fun(e:Fd)=>e.cs.map AV.p)++List.replicate (l.length-i) ([.p (.str []),.nils,.nils]:List AV))=Rw at hg2 hset htl⊢
    rw[hcs] at hH hset
    simp-implicitDefEqProofs[hg,hcs]
    refine hH.use ?_
    simp-implicitDefEqProofs[hg2,h1,dC]
    simp only[List.map_cons,List.map_nil] at hset
    rw[hset]
    refine⟨i+1,h1,by omega,dw [0] rfl (by simp) (bf rfl ?_ bp) ?_⟩
    ·intro x hx
     rcases List.mem_append.1 hx with hx|hx
     ·obtain⟨y,_,rfl⟩:=List.mem_map.1 (List.mem_of_mem_take hx);simp
     ·rw[(List.mem_replicate.1 hx).2];simp[below]
    ·simp[below,ren,hsl,w1 (i:=i) (by omega)]
   ·simp at h1
    have hie:i=l.length:=by omega
    subst hie
    rw[Nat.sub_self,List.replicate_zero,List.append_nil,List.take_of_length_le (by rw[hn];exact Nat.le_refl _)]
    simp-implicitDefEqProofs[]
 refine AC.freeze key (.one ?_ .nil)
 have:=fw (h:=[.row 3 (l.map fun e=>e.cs.map .p)]) (id:=0) (sz:=3) (n:=l.length) (ls:=l.map Fd.cs) (by simp) (by simp) (fun x hx=>by obtain⟨b,_,rfl⟩:=List.mem_map.1 hx;simp)
 exact this
theorem Fv(l:List Fd)(hb:l.length≤1048576)(H:∀e∈l,VF Tryz.prog G iX [.agg (e.cs.map .p),.agg (e.cs.map .p)] (.p (.bool true))):VF Tryz.prog G kD [.p (fdL l),.p (fdL l)] (.p (.bool true)):=by
 refine AC.go vH ?_
 have hsl:∀l,fdL l= .lst 3 (l.map Fd.cs):=fun _=>rfl
 simp-implicitDefEqProofs[pc,hsl]
 refine aq (fun i:Nat=>af 27 [(0,.p (fdL l)),(1,.p (fdL l)),(5,.p (.int .i64 i))]) (fun _=>[]) (fun i=>i≤l.length) (fun i=>l.length-i) 0 (by simp) ?_ ?_
 ·exact aD rfl (by simp[below,hsl])
 intro i hi
 simp-implicitDefEqProofs[hsl]
 refine aQ (fun h1=>?_) (fun h1=>?_)
 ·simp at h1
  have hg:=List.getElem?_eq_getElem h1
  have hH:=H l[i] (List.getElem_mem h1)
  have hcs:l[i].cs.length=3:=by simp
  generalize l[i]=e at hg hH hcs
  simp-implicitDefEqProofs[hg,hcs]
  refine hH.use ?_
  simp-implicitDefEqProofs[]
  exact⟨i+1,h1,by omega,aD rfl (by simp[below,hsl,w1 (i:=i) (by omega)])⟩
 ·simp at h1
  simp-implicitDefEqProofs[]
end Go.Proofs.YtnjbhgpbgmpkcaaGreatDoor
namespace Go.Proofs.YtnjbhgpbgmpkcaaGreatDoor
open Go Go.Aw
set_option maxRecDepth 100000
set_option maxHeartbeats 4000000
variable (G:aw)
theorem bm{left z:Nat}(h:¬z≤left):bs left z= -1:=if_neg h
theorem de{left z:Nat}(h:z≤left):bs left z=((left-z:Nat):Int):=if_pos h
theorem Ee:∀(N:Nat) (e:Ex),e.sz≤N→e.fit→∀left:Nat,left≤1048576→VF Tryz.prog G gh [.agg (e.cs.map .p),.p (.int .i64 left)] (.p (.int .i64 (bs left (e.sz-1)))):=by
 intro N
 induction N with
 |zero=>intro e he;have:=e.sz_pos;omega
 |succ N ih=>
  intro e he hf left hl
  have hec:=e.cs_eq
  have hsz:=e.sz_eq
  rw[e.fit_eq] at hf
  obtain⟨f1,f2,f3⟩:=hf
  refine AC.go tO ?_
  have hw:IntKind.i64.wrap ((left:Int)-e.name.length)=(left:Int)-e.name.length:=al (by simp only[BL] at f1;omega) (by omega)
  by_cases h1:e.name.length≤left
  case neg=>
   have h2:(left:Int)-e.name.length<0:=by omega
   rw[bm (by omega)]
   simp-implicitDefEqProofs[jn,hec,hw,h2]
  have h2:¬(left:Int)-e.name.length<0:=by omega
  have e2:(left:Int)-e.name.length=((left-e.name.length:Nat):Int):=by omega
  have hS:=ui G e.kids (left-e.name.length) (by omega) f2 (fun x hx l hl=>ih x (by have:=aO hx;omega) (nP f3 hx) l hl)
  rw[e2] at h2
  replace hw:=hw.trans e2
  simp-implicitDefEqProofs[jn,hec,hw,h2]
  refine hS.use ?_
  by_cases h3:bv e.kids≤left-e.name.length
  ·have n3:¬((left-e.name.length-bv e.kids:Nat):Int)<0:=by omega
   rw[de h3,de (by omega)]
   simp-implicitDefEqProofs[n3]
   omega
  ·rw[bm h3,bm (by omega)]
   simp-implicitDefEqProofs[]
theorem BS(l:List Ex)(hf:kq l)(hb:l.length≤BL)(left:Nat)(hl:left≤1048576):VF Tryz.prog G dA [.p (exL l),.p (.int .i64 left)] (.p (.int .i64 (bs left (bv l)))):=
 ui G l left hl hb (fun e he l hl=>Ee G e.sz e (Nat.le_refl _) (nP hf he) l hl)
theorem CU:∀(N:Nat) (s:Sm),s.sz≤N→s.fit→∀left:Nat,left≤1048576→VF Tryz.prog G gi [.agg (s.cs.map .p),.p (.int .i64 left)] (.p (.int .i64 (bs left (s.sz-1)))):=by
 intro N
 induction N with
 |zero=>intro e he;have:=e.sz_pos;omega
 |succ N ih=>
  intro e he hf left hl
  have hec:=e.cs_eq
  have hsz:=e.sz_eq
  rw[e.fit_eq] at hf
  obtain⟨f1,⟨f2,f3⟩,⟨f4,f5⟩,f6,f7⟩:=hf
  have sub:∀l:List Sm,au l≤N→ie l→l.length≤BL→∀left:Nat,left≤1048576→VF Tryz.prog G cf [.p (smL l),.p (.int .i64 left)] (.p (.int .i64 (bs left (au l)))):=fun l hz hf hb left hl=>
   uq G l left hl hb (fun x hx l hl=>ih x (by have:=aN hx;omega) (nM hf hx) l hl)
  refine AC.go tJ ?_
  have hw:IntKind.i64.wrap ((left:Int)-e.name.length)=(left:Int)-e.name.length:=al (by simp only[BL] at f1;omega) (by omega)
  by_cases h1:e.name.length≤left
  case neg=>
   have h2:(left:Int)-e.name.length<0:=by omega
   rw[bm (by omega)]
   simp-implicitDefEqProofs[jx,hec,hw,h2]
  have h2:¬(left:Int)-e.name.length<0:=by omega
  have e2:(left:Int)-e.name.length=((left-e.name.length:Nat):Int):=by omega
  rw[e2] at h2
  replace hw:=hw.trans e2
  simp-implicitDefEqProofs[jx,hec,hw,h2]
  refine(BS G e.args f3 f2 (left-e.name.length) (by omega)).use ?_
  by_cases h3:bv e.args≤left-e.name.length
  case neg=>
   rw[bm h3,bm (by omega)]
   simp-implicitDefEqProofs[]
  have n3:¬((left-e.name.length-bv e.args:Nat):Int)<0:=by omega
  rw[de h3]
  simp-implicitDefEqProofs[n3]
  refine(sub e.body (by omega) f5 f4 (left-e.name.length-bv e.args) (by omega)).use ?_
  by_cases h4:au e.body≤left-e.name.length-bv e.args
  case neg=>
   rw[bm h4,bm (by omega)]
   simp-implicitDefEqProofs[]
  have n4:¬((left-e.name.length-bv e.args-au e.body:Nat):Int)<0:=by omega
  rw[de h4]
  simp-implicitDefEqProofs[n4]
  refine(sub e.els (by omega) f7 f6 (left-e.name.length-bv e.args-au e.body) (by omega)).use ?_
  by_cases h5:au e.els≤left-e.name.length-bv e.args-au e.body
  case neg=>
   rw[bm h5,bm (by omega)]
   simp-implicitDefEqProofs[]
  have n5:¬((left-e.name.length-bv e.args-au e.body-au e.els:Nat):Int)<0:=by omega
  rw[de h5,de (by omega)]
  simp-implicitDefEqProofs[n5]
  omega
theorem BD(l:List Sm)(hf:ie l)(hb:l.length≤BL)(left:Nat)(hl:left≤1048576):VF Tryz.prog G cf [.p (smL l),.p (.int .i64 left)] (.p (.int .i64 (bs left (au l)))):=
 uq G l left hl hb (fun e he l hl=>CU G e.sz e (Nat.le_refl _) (nM hf he) l hl)
def kW(xs:List (List UInt8))(i:Nat):Nat:=((xs.take i).map List.length).sum
theorem BY{xs:List (List UInt8)}{i:Nat}(h:i<xs.length):kW xs (i+1)=kW xs i+xs[i].length:=by
 show((xs.take (i+1)).map List.length).sum=((xs.take i).map List.length).sum+xs[i].length
 rw[ah h,List.map_append,List.sum_append]
 rfl
theorem Dk{xs:List (List UInt8)}{i:Nat}(h:xs.length≤i):kW xs i=(xs.map List.length).sum:=by rw[kW,List.take_of_length_le h]
theorem FD{xs:List (List UInt8)}{i:Nat}:kW xs i≤(xs.map List.length).sum:=by
 conv=>rhs;rw[←List.take_append_drop i xs,List.map_append,List.sum_append]
 simp[kW]
def szW(xs:List (List UInt8)):Nat:=xs.length+(xs.map List.length).sum
theorem xI(xs:List (List UInt8))(left:Nat)(hl:left≤1048576)(hb:xs.length≤9223372036854775807)(hs:∀x∈xs,x.length≤9223372036854775807):VF Tryz.prog G fO [.p (aC xs),.p (.int .i64 left)] (.p (.int .i64 (if szW xs≤left then((left-szW xs:Nat):Int) else-1))):=by
 refine AC.go qi ?_
 have hw:IntKind.i64.wrap ((left:Int)-xs.length)=(left:Int)-xs.length:=al (by omega) (by omega)
 have hsz:szW xs=xs.length+(xs.map List.length).sum:=rfl
 by_cases h:xs.length≤left
 case neg=>
  have h1:(left:Int)-xs.length<0:=by omega
  have h2:¬szW xs≤left:=by omega
  simp-implicitDefEqProofs[fY,aC,hw,h1,h2]
 have h1:¬(left:Int)-xs.length<0:=by omega
 simp-implicitDefEqProofs[fY,aC,hw,h1]
 refine aq (fun i:Nat=>af 28 [(0,.p (aC xs)),(1,.p (.int .i64 ((left-xs.length-kW xs i:Nat):Int))),(5,.p (.int .i64 i))]) (fun _=>[]) (fun i=>i≤xs.length∧xs.length+kW xs i≤left) (fun i=>xs.length-i) 0 (by simp[kW];omega) ?_ ?_
 ·refine aD rfl ?_
  simp[below,aC,kW]
  omega
 ·intro i ⟨hi,hx⟩
  simp-implicitDefEqProofs[aC]
  refine aQ (fun h1=>?_) (fun h1=>?_)
  ·simp at h1
   have hg:=List.getElem?_eq_getElem h1
   have hle:=hs _ (List.getElem_mem h1)
   have hsu:=BY h1
   have hsl:=FD (xs:=xs) (i:=i+1)
   have hw2:IntKind.i64.wrap (((left-xs.length-kW xs i:Nat):Int)-(xs[i].length:Int))=((left-xs.length-kW xs i:Nat):Int)-(xs[i].length:Int):=al (by omega) (by omega)
   by_cases h2:xs.length+kW xs (i+1)≤left
   ·have h3:¬((left-xs.length-kW xs i:Nat):Int)-(xs[i].length:Int)<0:=by omega
    have h4:((left-xs.length-kW xs i:Nat):Int)-(xs[i].length:Int)=((left-xs.length-kW xs (i+1):Nat):Int):=by omega
    rw[h4] at h3
    replace hw2:=hw2.trans h4
    clear hle hsu hsl
    simp-implicitDefEqProofs[hg,hw2,h3]
    refine⟨i+1,⟨h1,h2⟩,by omega,aD rfl (by simp[below,aC,w1 (i:=i) (by omega)])⟩
   ·have h3:((left-xs.length-kW xs i:Nat):Int)-(xs[i].length:Int)<0:=by omega
    have h5:¬szW xs≤left:=by omega
    clear hle hsu hsl
    simp-implicitDefEqProofs[hg,hw2,h3,h5]
  ·simp at h1
   have hta:=Dk (xs:=xs) h1
   have h5:szW xs≤left:=by omega
   have h6:((left-xs.length-kW xs i:Nat):Int)=((left-szW xs:Nat):Int):=by omega
   simp-implicitDefEqProofs[h5,h6]
theorem GP(f:Fd)(hf:f.fit)(left:Nat)(hl:left≤1048576):VF Tryz.prog G jh [.agg (f.cs.map .p),.p (.int .i64 left)] (.p (.int .i64 (bs left (f.sz-1)))):=by
 obtain⟨f1,⟨f2,f3⟩,f4,f5⟩:=hf
 have hec:=f.cs_eq'
 have hsz:f.sz=1+f.name.length+szW f.params+au f.body:=rfl
 refine AC.go wx ?_
 have hw:IntKind.i64.wrap ((left:Int)-f.name.length)=(left:Int)-f.name.length:=al (by simp only[BL] at f1;omega) (by omega)
 by_cases h1:f.name.length≤left
 case neg=>
  have h2:(left:Int)-f.name.length<0:=by omega
  rw[bm (by omega)]
  simp-implicitDefEqProofs[mc,hec,hw,h2]
 have h2:¬(left:Int)-f.name.length<0:=by omega
 have e2:(left:Int)-f.name.length=((left-f.name.length:Nat):Int):=by omega
 rw[e2] at h2
 replace hw:=hw.trans e2
 simp-implicitDefEqProofs[mc,hec,hw,h2]
 refine(xI G f.params (left-f.name.length) (by omega) f2 f3).use ?_
 by_cases h3:szW f.params≤left-f.name.length
 case neg=>
  rw[if_neg h3,bm (by omega)]
  simp-implicitDefEqProofs[]
 have n3:¬((left-f.name.length-szW f.params:Nat):Int)<0:=by omega
 rw[if_pos h3]
 simp-implicitDefEqProofs[n3]
 refine(BD G f.body f5 f4 (left-f.name.length-szW f.params) (by omega)).use ?_
 by_cases h4:au f.body≤left-f.name.length-szW f.params
 case neg=>
  rw[bm h4,bm (by omega)]
  simp-implicitDefEqProofs[]
 have n4:¬((left-f.name.length-szW f.params-au f.body:Nat):Int)<0:=by omega
 rw[de h4,de (by omega)]
 simp-implicitDefEqProofs[n4]
 omega
def GG(l:List Fd):Prop:=l.length≤BL∧∀f∈l,f.fit
theorem wq(l:List Fd)(hf:GG l)(left:Nat)(hl:left≤1048576):VF Tryz.prog G dK [.agg [.p (fdL l)],.p (.int .i64 left)] (.p (.int .i64 (bs left (bL l)))):=by
 have hS:=Gb G l left hl hf.1 (fun f hm left hl=>GP G f (hf.2 f hm) left hl)
 refine AC.go qd ?_
 simp-implicitDefEqProofs[jK]
 refine hS.use ?_
 by_cases h:bL l≤left
 ·have n:¬((left-bL l:Nat):Int)<0:=by omega
  rw[de h]
  simp-implicitDefEqProofs[n]
 ·rw[bm h]
  simp-implicitDefEqProofs[]
theorem DB:∀(N:Nat) (e:Ex),e.sz≤N→e.sz≤1048576→VF Tryz.prog G dd [.agg (e.cs.map .p)] (.agg (e.cs.map .p)):=by
 intro N
 induction N with
 |zero=>intro e he;have:=e.sz_pos;omega
 |succ N ih=>
  intro e he hb
  have hec:=e.cs_eq
  have hsz:=e.sz_eq
  have hkl:=aW e.kids
  have hS:=uG G e.kids (by omega) (fun x hx=>ih x (by have:=aO hx;omega) (by have:=aO hx;omega))
  refine AC.go nr ?_
  simp-implicitDefEqProofs[jp,hec]
  refine hS.use ?_
  simp-implicitDefEqProofs[]
theorem Bs(l:List Ex)(hb:bv l≤1048576):VF Tryz.prog G bH [.p (exL l)] (.p (exL l)):=
 uG G l (by have:=aW l;omega) (fun e he=>DB G e.sz e (Nat.le_refl _) (by have:=aO he;omega))
theorem Dq:∀(N:Nat) (e:Sm),e.sz≤N→e.sz≤1048576→VF Tryz.prog G dg [.agg (e.cs.map .p)] (.agg (e.cs.map .p)):=by
 intro N
 induction N with
 |zero=>intro e he;have:=e.sz_pos;omega
 |succ N ih=>
  intro e he hb
  have hec:=e.cs_eq
  have hsz:=e.sz_eq
  have h1:=aZ e.body
  have h2:=aZ e.els
  have hB:=pI G e.body (by omega) (fun x hx=>ih x (by have:=aN hx;omega) (by have:=aN hx;omega))
  have hE:=pI G e.els (by omega) (fun x hx=>ih x (by have:=aN hx;omega) (by have:=aN hx;omega))
  refine AC.go ni ?_
  simp-implicitDefEqProofs[jz,hec]
  refine(Bs G e.args (by omega)).use ?_
  simp-implicitDefEqProofs[]
  refine hB.use ?_
  simp-implicitDefEqProofs[]
  refine hE.use ?_
  simp-implicitDefEqProofs[]
theorem AD(l:List Sm)(hb:au l≤1048576):VF Tryz.prog G bh [.p (smL l)] (.p (smL l)):=
 pI G l (by have:=aZ l;omega) (fun e he=>Dq G e.sz e (Nat.le_refl _) (by have:=aN he;omega))
def jO(l:List (List UInt8))(i:Nat):List (List UInt8):=l.take i++List.replicate (l.length-i) []
theorem AT{l:List (List UInt8)}{i:Nat}(h:i<l.length):(jO l i).set i l[i]=jO l (i+1):=by
 have hl:(l.take i).length=i:=by simp;omega
 have e:l.length-i=(l.length-(i+1))+1:=by omega
 show(l.take i++List.replicate (l.length-i) []).set i l[i]=l.take (i+1)++List.replicate (l.length-(i+1)) []
 rw[List.set_append_right _ _ (by omega),hl,Nat.sub_self,e,List.replicate_succ,List.set_cons_zero,ah h,List.append_assoc]
 rfl
theorem Bg{l:List (List UInt8)}{i:Nat}(h:i<l.length):(jO l i)[i]?=some []:=by
 have hl:(l.take i).length=i:=by simp;omega
 rw[jO,List.getElem?_append_right (by omega),hl,Nat.sub_self,List.getElem?_replicate,if_pos (by omega)]
theorem BF{l:List (List UInt8)}{i:Nat}(h:i≤l.length):(jO l i).length=l.length:=by simp[jO];omega
theorem qI(l:List (List UInt8))(hb:l.length≤1048576):AC Tryz.prog G cI [.p (aC l)] [] fun x h=>x= .ret (.sl 0 1 0 l.length)∧h=[cJ l]:=by
 refine AC.go pL ?_
 have hbl:aC l= .lst 1 (l.map fun n=>[.str n]):=rfl
 simp-implicitDefEqProofs[kb,hbl]
 refine⟨by omega,?_⟩
 refine aq (fun i:Nat=>af 22 [(0,.p (aC l)),(3,.sl 0 1 0 l.length),(4,.p (.int .i64 i))]) (fun i=>[cJ (jO l i)]) (fun i=>i≤l.length) (fun i=>l.length-i) 0 (by simp) ?_ ?_
 ·refine dw [0] rfl (by simp) (bf (by simp[jO]) (by simp) bp) ?_
  simp[below,ren,aC]
 ·intro i hi
  have hlen:=BF hi
  simp-implicitDefEqProofs[hbl]
  refine aQ (fun h1=>?_) (fun h1=>?_)
  ·simp at h1
   have hg:=List.getElem?_eq_getElem h1
   have hg2:=Bg h1
   have hset:((jO l i).map fun n=>[AV.p (.str n)]).set i [.p (.str l[i])]=(jO l (i+1)).map fun n=>[AV.p (.str n)]:=by rw[←AT h1,List.map_set]
   have hbo:cJ (jO l i)= .row 1 ((jO l i).map fun n=>[.p (.str n)]):=rfl
   clear hlen
   simp-implicitDefEqProofs[hg,hbo,hg2,h1,hset]
   refine⟨i+1,h1,by omega,dw [0] rfl (by simp) (bf rfl (by simp) bp) ?_⟩
   simp[below,ren,aC,w1 (i:=i) (by omega)]
  ·simp at h1
   have:i=l.length:=by omega
   subst this
   simp-implicitDefEqProofs[jO]
theorem wW(l:List (List UInt8))(hb:l.length≤1048576):VF Tryz.prog G cI [.p (aC l)] (.p (aC l)):=AC.freeze (qI G l hb) (.one (jX rfl) .nil)
theorem HU(f:Fd)(hb:f.sz≤1048576):VF Tryz.prog G eX [.agg (f.cs.map .p)] (.agg (f.cs.map .p)):=by
 have hec:=f.cs_eq'
 have hsz:f.sz=1+f.name.length+szW f.params+au f.body:=rfl
 have hw:szW f.params=f.params.length+(f.params.map List.length).sum:=rfl
 refine AC.go qq ?_
 simp-implicitDefEqProofs[lp,hec]
 refine(wW G f.params (by omega)).use ?_
 simp-implicitDefEqProofs[]
 refine(AD G f.body (by omega)).use ?_
 simp-implicitDefEqProofs[]
theorem we(l:List Fd)(hb:bL l≤1048576):VF Tryz.prog G bw [.agg [.p (fdL l)]] (.agg [.p (fdL l)]):=by
 have hS:=FY G l (by have:=br l;omega) (fun f hm=>HU G f (by have:=dc hm;omega))
 refine AC.go jP ?_
 simp-implicitDefEqProofs[fX]
 refine hS.use ?_
 simp-implicitDefEqProofs[]
theorem Dd:∀(N:Nat) (e:Ex),e.sz≤N→e.sz≤1048576→VF Tryz.prog G gk [.agg (e.cs.map .p),.agg (e.cs.map .p)] (.p (.bool true)):=by
 intro N
 induction N with
 |zero=>intro e he;have:=e.sz_pos;omega
 |succ N ih=>
  intro e he hb
  have hec:=e.cs_eq
  have hsz:=e.sz_eq
  have hkl:=aW e.kids
  have hS:=uf G e.kids (by omega) (fun x hx=>ih x (by have:=aO hx;omega) (by have:=aO hx;omega))
  refine AC.go tS ?_
  simp-implicitDefEqProofs[nt,hec]
  refine hS.use ?_
  simp-implicitDefEqProofs[]
theorem Ba(l:List Ex)(hb:bv l≤1048576):VF Tryz.prog G dv [.p (exL l),.p (exL l)] (.p (.bool true)):=
 uf G l (by have:=aW l;omega) (fun e he=>Dd G e.sz e (Nat.le_refl _) (by have:=aO he;omega))
theorem Cv:∀(N:Nat) (e:Sm),e.sz≤N→e.sz≤1048576→VF Tryz.prog G gq [.agg (e.cs.map .p),.agg (e.cs.map .p)] (.p (.bool true)):=by
 intro N
 induction N with
 |zero=>intro e he;have:=e.sz_pos;omega
 |succ N ih=>
  intro e he hb
  have hec:=e.cs_eq
  have hsz:=e.sz_eq
  have h1:=aZ e.body
  have h2:=aZ e.els
  have hB:=pC G e.body (by omega) (fun x hx=>ih x (by have:=aN hx;omega) (by have:=aN hx;omega))
  have hE:=pC G e.els (by omega) (fun x hx=>ih x (by have:=aN hx;omega) (by have:=aN hx;omega))
  refine AC.go tI ?_
  simp-implicitDefEqProofs[no,hec]
  refine(Ba G e.args (by omega)).use ?_
  simp-implicitDefEqProofs[]
  refine hB.use ?_
  simp-implicitDefEqProofs[]
  refine hE.use ?_
  simp-implicitDefEqProofs[]
theorem AA(l:List Sm)(hb:au l≤1048576):VF Tryz.prog G cH [.p (smL l),.p (smL l)] (.p (.bool true)):=
 pC G l (by have:=aZ l;omega) (fun e he=>Cv G e.sz e (Nat.le_refl _) (by have:=aN he;omega))
theorem xm(xs:List (List UInt8))(hb:xs.length≤1048576):VF Tryz.prog G fR [.p (aC xs),.p (aC xs)] (.p (.bool true)):=by
 refine AC.go pX ?_
 have hsl:aC xs= .lst 1 (xs.map fun w=>[.str w]):=rfl
 simp-implicitDefEqProofs[jF,hsl]
 refine aq (fun i:Nat=>af 26 [(0,.p (aC xs)),(1,.p (aC xs)),(5,.p (.int .i64 i))]) (fun _=>[]) (fun i=>i≤xs.length) (fun i=>xs.length-i) 0 (by simp) (aD rfl (by simp[below,hsl])) ?_
 intro i hi
 simp-implicitDefEqProofs[hsl]
 refine aQ (fun h1=>?_) (fun h1=>?_)
 ·simp at h1
  have hx:=List.getElem?_eq_getElem h1
  generalize xs[i]=v at hx
  simp-implicitDefEqProofs[hx]
  exact⟨i+1,h1,by omega,aD rfl (by simp[below,hsl,w1 (i:=i) (by omega)])⟩
 ·simp at h1
  simp-implicitDefEqProofs[]
theorem GJ(f:Fd)(hb:f.sz≤1048576):VF Tryz.prog G iX [.agg (f.cs.map .p),.agg (f.cs.map .p)] (.p (.bool true)):=by
 have hec:=f.cs_eq'
 have hsz:f.sz=1+f.name.length+szW f.params+au f.body:=rfl
 have hw:szW f.params=f.params.length+(f.params.map List.length).sum:=rfl
 refine AC.go xp ?_
 simp-implicitDefEqProofs[qF,hec]
 refine(xm G f.params (by omega)).use ?_
 simp-implicitDefEqProofs[]
 refine(AA G f.body (by omega)).use ?_
 simp-implicitDefEqProofs[]
theorem xB(l:List Fd)(hb:bL l≤1048576):VF Tryz.prog G ga [.agg [.p (fdL l)],.agg [.p (fdL l)]] (.p (.bool true)):=by
 have hS:=Fv G l (by have:=br l;omega) (fun f hm=>GJ G f (by have:=dc hm;omega))
 refine AC.go pS ?_
 simp-implicitDefEqProofs[jQ]
 refine hS.use ?_
 simp-implicitDefEqProofs[]
end Go.Proofs.YtnjbhgpbgmpkcaaGreatDoor
namespace Go.Proofs.YtnjbhgpbgmpkcaaGreatDoor
open Go Go.Aw Go.ChangeShapes Go.WideShapes Go.ChangeAt Go.RowKit
set_option maxRecDepth 100000
abbrev DG:TypeId:=24
abbrev GD:TypeId:=22
abbrev Gs:TypeId:=111
abbrev zf:TypeId:=54
abbrev uK:TypeId:=9
abbrev pn:TypeId:=109
abbrev iv:TypeId:=185
abbrev ra:TypeId:=183
abbrev lS:TypeId:=225
abbrev wg:TypeId:=3
abbrev GF:TypeId:=4
abbrev zh:TypeId:=177
abbrev EI:TypeId:=232
abbrev FF:TypeId:=233
theorem Jn:Kids Tryz.prog (· <Tryz.prog.types.size):=kids_rows (by kernel_rfl) (by kernel_rfl)
theorem Jj:∀t e,t<Tryz.prog.types.size→Tryz.prog.underlying t=some (.slice e)→0<Tryz.prog.cellsOf e:=slices_full_of Tryz.prog (by kernel_rfl)
def Cx:List TypeId:=[DG,GD,Gs,zf,uK,pn,iv,ra,lS,wg,GF,zh,EI]
theorem yd:Plain Tryz.prog Cx=true:=by kernel_rfl
theorem KF:ownKnob Tryz.prog.godebug=none:=by kernel_rfl
theorem rO{H:Type}:∀l:List (DataW H),Rows.uptoBulkAll l=(l.map Rows.uptoBulk).sum
 |[]=>by simp[Rows.uptoBulkAll]
 |d::r=>by simp[Rows.uptoBulkAll,rO r]
theorem Gf{H:Type}:BulkOk (Rows.uptoBulk (H:=H)) where
 lit:=fun l=>by cases l<;>simp[Rows.uptoBulk]
 str:=fun s=>by simp[Rows.uptoBulk]
 nil:=by simp[Rows.uptoBulk]
 slice:=fun es sp=>by simp only[Rows.uptoBulk,rO];omega
 agg:=fun ps=>by simp only[Rows.uptoBulk,rO];omega
theorem iB{t e:TypeId}{vs:List PV}(h:Conf Tryz.prog t vs)(hu:Tryz.prog.underlying t=some (.slice e)):∃es,vs=[.lst (Tryz.prog.cellsOf e) es]∧es.length≤9223372036854775807∧∀x∈es,Conf Tryz.prog e x:=by
 cases h with
 |sl es e' hl hs=>rw[hu] at e';cases e';exact⟨es,rfl,hl,hs⟩
 |bool b e=>rw[e] at hu;cases hu
 |int n e=>rw[e] at hu;cases hu
 |str s e=>rw[e] at hu;cases hu
 |st vs e=>rw[e] at hu;cases hu
 |arr vs e=>rw[e] at hu;cases hu
theorem Ai{vs:List PV}(h:Conf Tryz.prog zf vs):∃l:List (List UInt8),vs=[aC l]∧l.length≤9223372036854775807∧∀x∈l,x.length≤9223372036854775807:=by
 obtain⟨es,rfl,hl,h4⟩:=iB h (e:=uK) (by kernel_rfl)
 have hk:∀x∈es,∃s:List UInt8,x=[PV.str s]∧s.length≤maxLen:=fun x hx=>oh (h4 x hx) (by kernel_rfl)
 obtain⟨l,rfl⟩:=zx (fun s:List UInt8=>[PV.str s]) (fun x hx=>by obtain⟨n,e,_⟩:=hk x hx;exact⟨n,e⟩)
 rw[show Tryz.prog.cellsOf uK=1 by kernel_rfl]
 refine⟨l,rfl,by rwa[List.length_map] at hl,fun s hs=>?_⟩
 obtain⟨m,e,hw⟩:=hk [PV.str s] (List.mem_map.2 ⟨s,hs,rfl⟩)
 cases e
 exact hw
theorem iN{α β:Type}(g:β→α)(p:β→Prop):∀{es:List α},(∀x∈es,∃m,x=g m∧p m)→∃ms:List β,es=ms.map g∧∀m∈ms,p m
 |[],_=>⟨[],rfl,fun m hm=>by cases hm⟩
 |e::r,h=>by
  obtain⟨m,hm,hp⟩:=h e (by simp)
  obtain⟨ms,hms,hps⟩:=iN g p (es:=r) fun x hx=>h x (by simp[hx])
  exact⟨m::ms,by simp[hm,hms],fun x hx=>by
   rcases List.mem_cons.1 hx with rfl|hx
   ·exact hp
   ·exact hps x hx⟩
theorem pO:∀{l:List Ex},(∀e∈l,e.fit)→kq l
 |[],_=>trivial
 |e::r,h=>⟨h e (by simp),pO fun x hx=>h x (by simp[hx])⟩
theorem mF:∀{l:List Sm},(∀e∈l,e.fit)→ie l
 |[],_=>trivial
 |e::r,h=>⟨h e (by simp),mF fun x hx=>h x (by simp[hx])⟩
theorem sa{x:List PV}{es:List (List PV)}(h:x∈es)(sz:Nat):SizeOf.sizeOf x<SizeOf.sizeOf [PV.lst sz es]:=by
 have:=List.sizeOf_lt_of_mem h
 simp
 omega
theorem Fq:∀(n:Nat) (vs:List PV),SizeOf.sizeOf vs<n→Conf Tryz.prog lS vs→∃e:Ex,vs=e.cs∧e.fit:=by
 intro n
 induction n with
 |zero=>intro vs h;omega
 |succ n ih=>
  intro vs hn h
  have h:=rk (ts:=[wg,wg,uK,ra]) h (by kernel_rfl)
  obtain⟨a,r,rfl,h1,h⟩:=bu h
  obtain⟨b,r,rfl,h2,h⟩:=bu h
  obtain⟨c,r,rfl,h3,h⟩:=bu h
  obtain⟨d,r,rfl,h4,h⟩:=bu h
  cases mr h
  obtain⟨n1,rfl,_⟩:=sS h1 (k:= .i64) (by kernel_rfl)
  obtain⟨n2,rfl,_⟩:=sS h2 (k:= .i64) (by kernel_rfl)
  obtain⟨s,rfl,l3⟩:=oh h3 (by kernel_rfl)
  obtain⟨es,rfl,l4,h5⟩:=iB h4 (e:=lS) (by kernel_rfl)
  have hs1:SizeOf.sizeOf [PV.lst (Tryz.prog.cellsOf lS) es]<n+1:=by simp at hn⊢;omega
  obtain⟨l,rfl,hl⟩:=iN Ex.cs Ex.fit (fun x hx=>ih x (by have:=sa hx (Tryz.prog.cellsOf lS);omega) (h5 x hx))
  refine⟨⟨n1,n2,s,l⟩,?_,?_⟩
  ·rw[show Tryz.prog.cellsOf lS=4 by kernel_rfl,Ex.cs_eq];rfl
  ·exact⟨l3,by rwa[List.length_map] at l4,pO hl⟩
theorem DZ{vs:List PV}(h:Conf Tryz.prog ra vs):∃l:List Ex,vs=[exL l]∧l.length≤BL∧kq l:=by
 obtain⟨es,rfl,l4,h5⟩:=iB h (e:=lS) (by kernel_rfl)
 obtain⟨l,rfl,hl⟩:=iN Ex.cs Ex.fit (fun x hx=>Fq _ x (Nat.lt_succ_self _) (h5 x hx))
 rw[show Tryz.prog.cellsOf lS=4 by kernel_rfl]
 exact⟨l,rfl,by rwa[List.length_map] at l4,pO hl⟩
theorem Fh:∀(n:Nat) (vs:List PV),SizeOf.sizeOf vs<n→Conf Tryz.prog iv vs→∃e:Sm,vs=e.cs∧e.fit:=by
 intro n
 induction n with
 |zero=>intro vs h;omega
 |succ n ih=>
  intro vs hn h
  have h:=rk (ts:=[wg,uK,ra,pn,pn]) h (by kernel_rfl)
  obtain⟨a,r,rfl,h1,h⟩:=bu h
  obtain⟨b,r,rfl,h2,h⟩:=bu h
  obtain⟨c,r,rfl,h3,h⟩:=bu h
  obtain⟨d,r,rfl,h4,h⟩:=bu h
  obtain⟨d',r,rfl,h4',h⟩:=bu h
  cases mr h
  obtain⟨n1,rfl,_⟩:=sS h1 (k:= .i64) (by kernel_rfl)
  obtain⟨s,rfl,l3⟩:=oh h2 (by kernel_rfl)
  obtain⟨ar,rfl,la,fa⟩:=DZ h3
  obtain⟨es,rfl,l4,h5⟩:=iB h4 (e:=iv) (by kernel_rfl)
  obtain⟨es',rfl,l4',h5'⟩:=iB h4' (e:=iv) (by kernel_rfl)
  have hs1:SizeOf.sizeOf [PV.lst (Tryz.prog.cellsOf iv) es]<n+1:=by simp at hn⊢;omega
  have hs2:SizeOf.sizeOf [PV.lst (Tryz.prog.cellsOf iv) es']<n+1:=by simp at hn⊢;omega
  obtain⟨l,rfl,hl⟩:=iN Sm.cs Sm.fit (fun x hx=>ih x (by have:=sa hx (Tryz.prog.cellsOf iv);omega) (h5 x hx))
  obtain⟨l',rfl,hl'⟩:=iN Sm.cs Sm.fit (fun x hx=>ih x (by have:=sa hx (Tryz.prog.cellsOf iv);omega) (h5' x hx))
  refine⟨⟨n1,s,ar,l,l'⟩,?_,?_⟩
  ·rw[show Tryz.prog.cellsOf iv=5 by kernel_rfl,Sm.cs_eq];rfl
  ·exact⟨l3,⟨la,fa⟩,⟨by rwa[List.length_map] at l4,mF hl⟩,⟨by rwa[List.length_map] at l4',mF hl'⟩⟩
theorem DC{vs:List PV}(h:Conf Tryz.prog pn vs):∃l:List Sm,vs=[smL l]∧l.length≤BL∧ie l:=by
 obtain⟨es,rfl,l4,h5⟩:=iB h (e:=iv) (by kernel_rfl)
 obtain⟨l,rfl,hl⟩:=iN Sm.cs Sm.fit (fun x hx=>Fh _ x (Nat.lt_succ_self _) (h5 x hx))
 rw[show Tryz.prog.cellsOf iv=5 by kernel_rfl]
 exact⟨l,rfl,by rwa[List.length_map] at l4,mF hl⟩
theorem FE{vs:List PV}(h:Conf Tryz.prog Gs vs):∃f:Fd,vs=f.cs∧f.fit:=by
 have h:=rk (ts:=[uK,zf,pn]) h (by kernel_rfl)
 obtain⟨a,r,rfl,h1,h⟩:=bu h
 obtain⟨b,r,rfl,h2,h⟩:=bu h
 obtain⟨c,r,rfl,h3,h⟩:=bu h
 cases mr h
 obtain⟨s,rfl,l1⟩:=oh h1 (by kernel_rfl)
 obtain⟨ws,rfl,l2,w2⟩:=Ai h2
 obtain⟨bd,rfl,l3,f3⟩:=DC h3
 exact⟨⟨s,ws,bd⟩,rfl,l1,⟨l2,w2⟩,l3,f3⟩
theorem Bp{vs:List PV}(h:Conf Tryz.prog DG vs):∃l:List Fd,vs=[fdL l]∧GG l:=by
 have h:=rk (ts:=[GD]) h (by kernel_rfl)
 obtain⟨a,r,rfl,h1,h⟩:=bu h
 cases mr h
 obtain⟨es,rfl,l4,h5⟩:=iB h1 (e:=Gs) (by kernel_rfl)
 obtain⟨l,rfl,hl⟩:=iN Fd.cs Fd.fit (fun x hx=>FE (h5 x hx))
 rw[show Tryz.prog.cellsOf Gs=3 by kernel_rfl]
 exact⟨l,rfl,by rwa[List.length_map] at l4,hl⟩
def G0:aw:=fun g=>if g=gE then some fW else if g=dq then some [.tbl opK opV] else none
theorem HP:∀k,fV Tryz.prog (k+10) zh (Rows.laid_loop_example_wholeway_impl_keys (H:=Unit))=fW:=fun k=>by kernel_rfl
theorem KH{W:World}{laid:List (String × DataW Unit)}(hL:laidMet Tryz.prog laid W)(h1:("loop.example/wholeway/impl.keys",Rows.laid_loop_example_wholeway_impl_keys)∈laid)(h2:("loop.example/wholeway/impl.opSign",Rows.laid_loop_example_wholeway_impl_opSign)∈laid):
 ∀g cs,G0 g=some cs→g<W.heap.size∧∀(j:Nat) (c:PV),cs[j]?=some c→∃v,W.cell? ⟨g,j,none⟩=some v∧PRel W (· <W.heap.size) c v:=by
 intro g cs h
 unfold G0 at h
 split at h
 ·rename_i e;subst e;cases h
  exact BZ yd hL (n:= "loop.example/wholeway/impl.keys") (d:=Rows.laid_loop_example_wholeway_impl_keys) (t:=zh) h1 (by kernel_rfl) (by kernel_rfl) (by decide) HP
 ·split at h
  ·rename_i e;subst e;cases h
   exact Da yd hL (n:= "loop.example/wholeway/impl.opSign") h2 (t:=FF) (k:=wg) (e:=EI) (by kernel_rfl) (by kernel_rfl) (by kernel_rfl) (.inl ⟨.i64,by kernel_rfl⟩) (by decide) (by kernel_rfl) (by kernel_rfl) (fun m=>by kernel_rfl)
  ·cases h
end Go.Proofs.YtnjbhgpbgmpkcaaGreatDoor
