/-
  Contracts and lemmas that the card needs, part 6.
-/
import Derived.Test.YtiojgfhdcpppcaaGreatDoorIf5
namespace Go.Proofs.YtiojgfhdcpppcaaGreatDoor
open Go Go.Aw
set_option maxRecDepth 100000
theorem pu(fns:List Fd):∀(l:List Fd) (k:Nat),fv fns k l=0↔∀(i:Nat) (f:Fd),l[i]?=some f→(fnW fns (k+i) f).code=0
 |[],k=>by simp[fv]
 |f::r,k=>by
  rw[fv]
  have ih:=pu fns r (k+1)
  constructor
  ·intro h i g hg
   by_cases h0:(fnW fns k f).code=0
   ·rw[if_pos h0] at h
    cases i with
    |zero=>cases hg;exact h0
    |succ i=>have:=ih.1 h i g (by simpa using hg);rwa[show k+(i+1)=k+1+i by omega]
   ·rw[if_neg h0] at h;exact absurd h h0
  ·intro h
   rw[if_pos (by have:=h 0 f rfl;rwa[Nat.add_zero] at this)]
   exact ih.2 fun i g hg=>by have:=h (i+1) g (by simpa using hg);rwa[show k+(i+1)=k+1+i by omega] at this
theorem Dm(l:List Fd):cG l=0↔bU l=true∧∀(k:Nat) (f:Fd),l[k]?=some f→(fnW l k f).code=0:=by
 unfold cG
 by_cases h:bU l=true
 ·rw[if_pos h,pu];simp[h]
 ·rw[if_neg h];simp[h]
theorem wS(l:List Fd):bU l=true↔(1≤l.length∧l.length≤4)∧(∀f∈l,ik f=true)∧jj l≤40:=by
 simp only[bU,inR,Bool.and_eq_true,decide_eq_true_eq,List.all_eq_true]
 constructor
 ·rintro⟨⟨⟨h1,h2⟩,h3⟩,h4⟩;exact⟨⟨by omega,by omega⟩,h3,h4⟩
 ·rintro⟨⟨h1,h2⟩,h3,h4⟩;exact⟨⟨⟨by omega,by omega⟩,h3⟩,h4⟩
def Fd.cut(f:Fd)(n:Nat):Fd:=⟨f.name,f.params,f.body.take n⟩
end Go.Proofs.YtiojgfhdcpppcaaGreatDoor
namespace Go.Proofs.YtiojgfhdcpppcaaGreatDoor
open Go Go.Aw
set_option maxRecDepth 100000
abbrev aL:FuncId:=92
abbrev cH:FuncId:=93
abbrev dw:FuncId:=142
abbrev cy:FuncId:=94
abbrev gE:FuncId:=51
abbrev eb:FuncId:=18
abbrev gO:FuncId:=115
abbrev dR:FuncId:=46
abbrev dm:FuncId:=13
abbrev aT:FuncId:=90
abbrev cW:FuncId:=49
abbrev bM:FuncId:=15
abbrev iT:FuncId:=30
abbrev da:FuncId:=16
abbrev dV:FuncId:=31
abbrev fb:FuncId:=19
abbrev fX:FuncId:=32
abbrev dp:FuncId:=20
abbrev eh:FuncId:=3
def fS:FK:=⟨20,[.t 2],
 .seq (.reg [oJ 2 (.mov (.c (.p (.str []))))])
 (.seq (.seq (.reg [oM 4 0,
   oJ 5 (.bin .leq (.t 4) (.c (.p (.int .i64 0))))])
 (.cond (.t 5)
  (.seq (.reg [oJ 2 (.mov (.c (.p (.str [109,48]))))])
  (.ret))
  (.skip)))
 (.seq (.reg [oJ 3 (.mov (.c (.p (.str []))))])
 (.seq (.blk 0 (.loop (.seq (.seq (.reg [oM 6 0,
   oJ 7 (.bin .gtr (.t 6) (.c (.p (.int .i64 0))))])
 (.cond (.t 7)
  (.skip)
  (.exit 0)))
 (.blk 1 (.seq (.reg [oM 8 0,
   oJ 9 (.bin .rem (.t 8) (.c (.p (.int .i64 10)))),
   oJ 10 (.bin .add (.c (.p (.int .i64 48))) (.t 9)),
   oJ 11 (.conv .u8 (.t 10)),
   oJ 12 (.bsl 1 [(.p (.int .u8 0))] 1 [(0,1,(.t 11))]),
   oJ 13 (.btos (.t 12)),
   oM 14 3,
   oJ 15 (.bins .add (.t 13) (.t 14)),
   oM 3 15])
 (.reg [oM 16 0,
   oJ 17 (.bin .quo (.t 16) (.c (.p (.int .i64 10)))),
   oM 0 17]))))))
 (.seq (.reg [oM 18 3,
   oJ 19 (.bins .add (.c (.p (.str [109]))) (.t 18)),
   oM 2 19])
 (.ret)))))⟩
theorem pM:ae Tryz.prog aL=some fS:=by kernel_rfl
def cF:FK:=⟨20,[.t 4],
 .seq (.reg [oK 4 0])
 (.seq (.seq (.reg [oK 5 0])
 (.blk 0 (.loop (.seq (.seq (.reg [oM 6 5,
   oM 7 0,
   oJ 8 (.len false (.t 7)),
   oJ 9 (.bin .lss (.t 6) (.t 8))])
 (.cond (.t 9)
  (.skip)
  (.exit 0)))
 (.seq (.blk 1 (.seq (.reg [oM 12 0,
   oM 13 5,
   oM 14 1,
   oJ 15 (.call aL [(.t 14)]),
   oJ 16 (.idxS 1 (.t 12) (.t 13)),
   oS 16 15])
 (.reg [oM 17 1,
   oJ 18 (.bin .add (.t 17) (.c (.p (.int .i64 1)))),
   oM 1 18])))
 (.reg [oM 10 5,
   oJ 11 (.bin .add (.t 10) (.c (.p (.int .i64 1)))),
   oM 5 11]))))))
 (.seq (.reg [oM 19 1,
   oM 4 19])
 (.ret)))⟩
theorem cC:ae Tryz.prog cH=some cF:=by kernel_rfl
def dt:FK:=⟨42,[.t 4],
 .seq (.reg [oK 4 0])
 (.seq (.seq (.reg [oK 5 0])
 (.blk 0 (.loop (.seq (.seq (.reg [oM 6 5,
   oM 7 0,
   oJ 8 (.len false (.t 7)),
   oJ 9 (.bin .lss (.t 6) (.t 8))])
 (.cond (.t 9)
  (.skip)
  (.exit 0)))
 (.seq (.blk 1 (.seq (.reg [oM 12 0,
   oM 13 5,
   oM 14 1,
   oJ 15 (.idxS 4 (.t 12) (.t 13)),
   oF 16 0 15,
   oS 16 14])
 (.seq (.reg [oM 17 1,
   oJ 18 (.bin .add (.t 17) (.c (.p (.int .i64 1)))),
   oM 1 18])
 (.seq (.reg [oM 19 0,
   oM 20 5,
   oM 21 1,
   oJ 22 (.idxS 4 (.t 19) (.t 20)),
   oF 23 1 22,
   oS 23 21])
 (.seq (.reg [oM 24 1,
   oJ 25 (.bin .add (.t 24) (.c (.p (.int .i64 1)))),
   oM 1 25])
 (.seq (.reg [oM 26 0,
   oM 27 5,
   oM 28 1,
   oJ 29 (.call aL [(.t 28)]),
   oJ 30 (.idxS 4 (.t 26) (.t 27)),
   oF 31 2 30,
   oS 31 29])
 (.seq (.reg [oM 32 1,
   oJ 33 (.bin .add (.t 32) (.c (.p (.int .i64 1)))),
   oM 1 33])
 (.reg [oM 34 0,
   oM 35 5,
   oJ 36 (.idxS 4 (.t 34) (.t 35)),
   oF 37 3 36,
   oL 38 37,
   oM 39 1,
   oJ 40 (.call dw [(.t 38),(.t 39)]),
   oM 1 40]))))))))
 (.reg [oM 10 5,
   oJ 11 (.bin .add (.t 10) (.c (.p (.int .i64 1)))),
   oM 5 11]))))))
 (.seq (.reg [oM 41 1,
   oM 4 41])
 (.ret)))⟩
theorem fk:ae Tryz.prog dw=some dt:=by kernel_rfl
def du:FK:=⟨49,[.t 4],
 .seq (.reg [oK 4 0])
 (.seq (.seq (.reg [oK 5 0])
 (.blk 0 (.loop (.seq (.seq (.reg [oM 6 5,
   oM 7 0,
   oJ 8 (.len false (.t 7)),
   oJ 9 (.bin .lss (.t 6) (.t 8))])
 (.cond (.t 9)
  (.skip)
  (.exit 0)))
 (.seq (.blk 1 (.seq (.reg [oM 12 0,
   oM 13 5,
   oM 14 1,
   oJ 15 (.idxS 5 (.t 12) (.t 13)),
   oF 16 0 15,
   oS 16 14])
 (.seq (.reg [oM 17 1,
   oJ 18 (.bin .add (.t 17) (.c (.p (.int .i64 1)))),
   oM 1 18])
 (.seq (.reg [oM 19 0,
   oM 20 5,
   oM 21 1,
   oJ 22 (.call aL [(.t 21)]),
   oJ 23 (.idxS 5 (.t 19) (.t 20)),
   oF 24 1 23,
   oS 24 22])
 (.seq (.reg [oM 25 1,
   oJ 26 (.bin .add (.t 25) (.c (.p (.int .i64 1)))),
   oM 1 26])
 (.seq (.reg [oM 27 0,
   oM 28 5,
   oJ 29 (.idxS 5 (.t 27) (.t 28)),
   oF 30 2 29,
   oL 31 30,
   oM 32 1,
   oJ 33 (.call dw [(.t 31),(.t 32)]),
   oM 1 33])
 (.seq (.reg [oM 34 0,
   oM 35 5,
   oJ 36 (.idxS 5 (.t 34) (.t 35)),
   oF 37 3 36,
   oL 38 37,
   oM 39 1,
   oJ 40 (.call cy [(.t 38),(.t 39)]),
   oM 1 40])
 (.reg [oM 41 0,
   oM 42 5,
   oJ 43 (.idxS 5 (.t 41) (.t 42)),
   oF 44 4 43,
   oL 45 44,
   oM 46 1,
   oJ 47 (.call cy [(.t 45),(.t 46)]),
   oM 1 47]))))))))
 (.reg [oM 10 5,
   oJ 11 (.bin .add (.t 10) (.c (.p (.int .i64 1)))),
   oM 5 11]))))))
 (.seq (.reg [oM 48 1,
   oM 4 48])
 (.ret)))⟩
theorem fy:ae Tryz.prog cy=some du:=by kernel_rfl
def eu:FK:=⟨35,[.t 4],
 .seq (.reg [oK 4 0])
 (.seq (.seq (.reg [oK 5 0])
 (.blk 0 (.loop (.seq (.seq (.reg [oM 6 5,
   oM 7 0,
   oJ 8 (.len false (.t 7)),
   oJ 9 (.bin .lss (.t 6) (.t 8))])
 (.cond (.t 9)
  (.skip)
  (.exit 0)))
 (.seq (.blk 1 (.seq (.reg [oM 12 0,
   oM 13 5,
   oM 14 1,
   oJ 15 (.call aL [(.t 14)]),
   oJ 16 (.idxS 3 (.t 12) (.t 13)),
   oF 17 0 16,
   oS 17 15])
 (.seq (.reg [oM 18 1,
   oJ 19 (.bin .add (.t 18) (.c (.p (.int .i64 1)))),
   oM 1 19])
 (.seq (.reg [oM 20 0,
   oM 21 5,
   oJ 22 (.idxS 3 (.t 20) (.t 21)),
   oF 23 1 22,
   oL 24 23,
   oM 25 1,
   oJ 26 (.call cH [(.t 24),(.t 25)]),
   oM 1 26])
 (.reg [oM 27 0,
   oM 28 5,
   oJ 29 (.idxS 3 (.t 27) (.t 28)),
   oF 30 2 29,
   oL 31 30,
   oM 32 1,
   oJ 33 (.call cy [(.t 31),(.t 32)]),
   oM 1 33])))))
 (.reg [oM 10 5,
   oJ 11 (.bin .add (.t 10) (.c (.p (.int .i64 1)))),
   oM 5 11]))))))
 (.seq (.reg [oM 34 1,
   oM 4 34])
 (.ret)))⟩
theorem gH:ae Tryz.prog gE=some eu:=by kernel_rfl
def ib:FK:=⟨10,[.t 4],
 .seq (.reg [oJ 2 (.box 1 (.t 0)),
  oK 4 0])
 (.seq (.reg [oF 5 0 2,
   oL 6 5,
   oM 7 1,
   oJ 8 (.call gE [(.t 6),(.t 7)]),
   oM 1 8])
 (.seq (.reg [oM 9 1,
   oM 4 9])
 (.ret)))⟩
theorem mJ:ae Tryz.prog eb=some ib:=by kernel_rfl
def hY:FK:=⟨22,[.t 4],
 .seq (.reg [oK 4 0])
 (.seq (.seq (.reg [oK 5 0])
 (.blk 0 (.loop (.seq (.seq (.reg [oM 6 5,
   oM 7 0,
   oJ 8 (.len false (.t 7)),
   oJ 9 (.bin .lss (.t 6) (.t 8))])
 (.cond (.t 9)
  (.skip)
  (.exit 0)))
 (.seq (.blk 1 (.seq (.seq (.reg [oM 12 0,
   oM 13 5,
   oJ 14 (.idxS 1 (.t 12) (.t 13)),
   oM 16 1,
   oL 15 14,
   oJ 17 (.call aL [(.t 16)]),
   ⟨none,none,.chk none 14 15⟩,
   oJ 18 (.bins .neq (.t 15) (.t 17))])
 (.cond (.t 18)
  (.seq (.reg [oJ 4 (.mov (.c (.p (.int .i64 (-1)))))])
  (.ret))
  (.skip)))
 (.reg [oM 19 1,
   oJ 20 (.bin .add (.t 19) (.c (.p (.int .i64 1)))),
   oM 1 20])))
 (.reg [oM 10 5,
   oJ 11 (.bin .add (.t 10) (.c (.p (.int .i64 1)))),
   oM 5 11]))))))
 (.seq (.reg [oM 21 1,
   oM 4 21])
 (.ret)))⟩
theorem mt:ae Tryz.prog gO=some hY:=by kernel_rfl
def F_spec_l5Inputs:FK:=⟨29,[.t 2],
 .seq (.reg [oJ 2 (.mov (.c .nils))])
 (.seq (.reg [oJ 6 (.bsl 1 [(.p (.int .i64 0))] 3 [(0,1,(.c (.p (.int .i64 0)))),(1,1,(.c (.p (.int .i64 0)))),(2,1,(.c (.p (.int .i64 0))))]),
   oJ 7 (.bsl 1 [(.p (.int .i64 0))] 3 [(0,1,(.c (.p (.int .i64 1)))),(1,1,(.c (.p (.int .i64 2)))),(2,1,(.c (.p (.int .i64 3))))]),
   oJ 8 (.bsl 1 [(.p (.int .i64 0))] 3 [(0,1,(.c (.p (.int .i64 255)))),(1,1,(.c (.p (.int .i64 16)))),(2,1,(.c (.p (.int .i64 7))))]),
   oJ 9 (.bsl 1 [.nils] 3 [(0,1,(.t 6)),(1,1,(.t 7)),(2,1,(.t 8))]),
   oM 3 9])
 (.seq (.reg [oJ 10 (.bsl 1 [.nils] 0 []),
   oM 4 10])
 (.seq (.seq (.reg [oK 5 0])
 (.blk 0 (.loop (.seq (.seq (.reg [oM 11 5,
   oM 12 3,
   oJ 13 (.len false (.t 12)),
   oJ 14 (.bin .lss (.t 11) (.t 13))])
 (.cond (.t 14)
  (.skip)
  (.exit 0)))
 (.seq (.blk 1 (.reg [oM 17 4,
   oJ 18 (.bsl 1 [(.p (.int .i64 0))] 0 []),
   oM 19 3,
   oM 20 5,
   oJ 21 (.idxS 1 (.t 19) (.t 20)),
   oL 22 21,
   oM 23 0,
   oJ 24 (.slS 1 (.t 22) none (some (.t 23))),
   oJ 25 (.app 1 8 (.t 18) (.t 24)),
   oJ 26 (.bsl 1 [.nils] 1 [(0,1,(.t 25))]),
   oJ 27 (.app 1 24 (.t 17) (.t 26)),
   oM 4 27]))
 (.reg [oM 15 5,
   oJ 16 (.bin .add (.t 15) (.c (.p (.int .i64 1)))),
   oM 5 16]))))))
 (.seq (.reg [oM 28 4,
   oM 2 28])
 (.ret)))))⟩
theorem pL:ae Tryz.prog dR=some F_spec_l5Inputs:=by kernel_rfl
def iZ:FK:=⟨20,[.t 2],
 .seq (.reg [oJ 1 (.box 1 (.t 0)),
  oJ 2 (.mov (.c .nils))])
 (.seq (.seq (.reg [oJ 4 (.ld (some 1) (.t 1)),
   oJ 5 (.call iK [(.t 4)]),
   oJ 6 (.not (.t 5))])
 (.cond (.t 6)
  (.seq (.reg [oJ 7 (.bsl 1 [.nils] 0 []),
    oM 2 7])
  (.ret))
  (.skip)))
 (.seq (.reg [oF 8 0 1,
   oL 9 8,
   oF 10 0 1,
   oL 11 10,
   oJ 12 (.len false (.t 11)),
   oJ 13 (.bin .sub (.t 12) (.c (.p (.int .i64 1)))),
   oJ 14 (.idxS 3 (.t 9) (.t 13)),
   oF 15 1 14,
   oL 16 15,
   oJ 17 (.len false (.t 16)),
   oM 3 17])
 (.seq (.reg [oM 18 3,
   oJ 19 (.call dR [(.t 18)]),
   oM 2 19])
 (.ret))))⟩
theorem nW:ae Tryz.prog dm=some iZ:=by kernel_rfl
def dX:FK:=⟨8,[.t 2],
 .seq (.reg [oJ 2 (.mov (.c .nils))])
 (.seq (.seq (.reg [oM 3 0,
   oJ 4 (.snil false (.t 3))])
 (.cond (.t 4)
  (.seq (.reg [oJ 2 (.mov (.c .nils))])
  (.ret))
  (.skip)))
 (.seq (.reg [oJ 5 (.bsl 1 [(.p (.int .i64 0))] 0 []),
   oM 6 0,
   oJ 7 (.app 1 8 (.t 5) (.t 6)),
   oM 2 7])
 (.ret)))⟩
theorem gI:ae Tryz.prog aT=some dX:=by kernel_rfl
def F_impl_triesOf:FK:=⟨18,[.t 2],
 .seq (.reg [oJ 2 (.mov (.c .nils))])
 (.seq (.reg [oJ 3 (.mov (.c .nils))])
 (.seq (.seq (.reg [oJ 6 (.ld (some 9) (.c (.gp 0 0))),
   oK 7 0])
 (.blk 0 (.loop (.seq (.reg [oJ 8 (.bin .lss (.t 7) (.c (.p (.int .i64 3))))])
 (.seq (.cond (.t 8)
  (.skip)
  (.exit 0))
 (.seq (.blk 1 (.seq (.reg [oJ 9 (.idxV 3 3 (some 3) (.t 6) (.t 7)),
   oJ 5 (.alloc [(.p (.int .i64 0)),(.p (.int .i64 0)),(.p (.int .i64 0))]),
   ⟨none,none,.st 3 (.t 5) (.t 9)⟩])
 (.reg [oM 10 3,
   oM 11 0,
   oJ 12 (.slA 3 1 (.t 5) none (some (.t 11))),
   oJ 13 (.call aT [(.t 12)]),
   oJ 14 (.bsl 1 [.nils] 1 [(0,1,(.t 13))]),
   oJ 15 (.app 1 24 (.t 10) (.t 14)),
   oM 3 15])))
 (.reg [oJ 16 (.bin .add (.t 7) (.c (.p (.int .i64 1)))),
   oM 7 16])))))))
 (.seq (.reg [oM 17 3,
   oM 2 17])
 (.ret))))⟩
theorem kS:ae Tryz.prog cW=some F_impl_triesOf:=by kernel_rfl
def js:FK:=⟨17,[.t 2],
 .seq (.reg [oJ 1 (.box 1 (.t 0)),
  oJ 2 (.mov (.c .nils))])
 (.seq (.seq (.reg [oJ 3 (.ld (some 1) (.t 1)),
   oJ 4 (.call kx [(.t 3)]),
   oJ 5 (.not (.t 4))])
 (.cond (.t 5)
  (.seq (.reg [oJ 2 (.mov (.c .nils))])
  (.ret))
  (.skip)))
 (.seq (.reg [oF 6 0 1,
   oL 7 6,
   oF 8 0 1,
   oL 9 8,
   oJ 10 (.len false (.t 9)),
   oJ 11 (.bin .sub (.t 10) (.c (.p (.int .i64 1)))),
   oJ 12 (.idxS 3 (.t 7) (.t 11)),
   oF 13 1 12,
   oL 14 13,
   oJ 15 (.len false (.t 14)),
   oJ 16 (.call cW [(.t 15)]),
   oM 2 16])
 (.ret)))⟩
theorem oe:ae Tryz.prog bM=some js:=by kernel_rfl
def lP:FK:=⟨26,[.t 4],
 .seq (.reg [oJ 4 (.mov (.c (.p (.bool false))))])
 (.seq (.seq (.reg [oM 6 0,
   oJ 7 (.len false (.t 6)),
   oM 8 1,
   oJ 9 (.len false (.t 8)),
   oJ 10 (.bin .neq (.t 7) (.t 9))])
 (.cond (.t 10)
  (.seq (.reg [oJ 4 (.mov (.c (.p (.bool false))))])
  (.ret))
  (.skip)))
 (.seq (.seq (.reg [oK 5 0])
 (.blk 0 (.loop (.seq (.seq (.reg [oM 11 5,
   oM 12 0,
   oJ 13 (.len false (.t 12)),
   oJ 14 (.bin .lss (.t 11) (.t 13))])
 (.cond (.t 14)
  (.skip)
  (.exit 0)))
 (.seq (.blk 1 (.seq (.reg [oM 17 0,
   oM 18 5,
   oJ 19 (.idxS 1 (.t 17) (.t 18)),
   oM 21 1,
   oM 22 5,
   oJ 23 (.idxS 1 (.t 21) (.t 22)),
   oL 20 19,
   oL 24 23,
   oJ 25 (.bin .neq (.t 20) (.t 24))])
 (.cond (.t 25)
  (.seq (.reg [oJ 4 (.mov (.c (.p (.bool false))))])
  (.ret))
  (.skip))))
 (.reg [oM 15 5,
   oJ 16 (.bin .add (.t 15) (.c (.p (.int .i64 1)))),
   oM 5 16]))))))
 (.seq (.reg [oJ 4 (.mov (.c (.p (.bool true))))])
 (.ret))))⟩
theorem sc:ae Tryz.prog iT=some lP:=by kernel_rfl
def kO:FK:=⟨27,[.t 4],
 .seq (.reg [oJ 4 (.mov (.c (.p (.bool false))))])
 (.seq (.seq (.reg [oM 6 0,
   oJ 7 (.len false (.t 6)),
   oM 8 1,
   oJ 9 (.len false (.t 8)),
   oJ 10 (.bin .neq (.t 7) (.t 9))])
 (.cond (.t 10)
  (.seq (.reg [oJ 4 (.mov (.c (.p (.bool false))))])
  (.ret))
  (.skip)))
 (.seq (.seq (.reg [oK 5 0])
 (.blk 0 (.loop (.seq (.seq (.reg [oM 11 5,
   oM 12 0,
   oJ 13 (.len false (.t 12)),
   oJ 14 (.bin .lss (.t 11) (.t 13))])
 (.cond (.t 14)
  (.skip)
  (.exit 0)))
 (.seq (.blk 1 (.seq (.reg [oM 17 0,
   oM 18 5,
   oJ 19 (.idxS 1 (.t 17) (.t 18)),
   oM 21 1,
   oM 22 5,
   oJ 23 (.idxS 1 (.t 21) (.t 22)),
   oL 20 19,
   oL 24 23,
   oJ 25 (.call iT [(.t 20),(.t 24)]),
   oJ 26 (.not (.t 25))])
 (.cond (.t 26)
  (.seq (.reg [oJ 4 (.mov (.c (.p (.bool false))))])
  (.ret))
  (.skip))))
 (.reg [oM 15 5,
   oJ 16 (.bin .add (.t 15) (.c (.p (.int .i64 1)))),
   oM 5 16]))))))
 (.seq (.reg [oJ 4 (.mov (.c (.p (.bool true))))])
 (.ret))))⟩
theorem rJ:ae Tryz.prog da=some kO:=by kernel_rfl
def dT:FK:=⟨19,[.t 4],
 .seq (.reg [oK 4 0])
 (.seq (.seq (.reg [oK 5 0])
 (.blk 0 (.loop (.seq (.seq (.reg [oM 6 5,
   oM 7 0,
   oJ 8 (.len false (.t 7)),
   oJ 9 (.bin .lss (.t 6) (.t 8))])
 (.cond (.t 9)
  (.skip)
  (.exit 0)))
 (.seq (.blk 1 (.seq (.reg [oM 12 0,
   oM 13 5,
   oM 14 1,
   oJ 15 (.idxS 1 (.t 12) (.t 13)),
   oS 15 14])
 (.reg [oM 16 1,
   oJ 17 (.bin .add (.t 16) (.c (.p (.int .i64 1)))),
   oM 1 17])))
 (.reg [oM 10 5,
   oJ 11 (.bin .add (.t 10) (.c (.p (.int .i64 1)))),
   oM 5 11]))))))
 (.seq (.reg [oM 18 1,
   oM 4 18])
 (.ret)))⟩
theorem dS:ae Tryz.prog dV=some dT:=by kernel_rfl
def dj:FK:=⟨19,[.t 4],
 .seq (.reg [oK 4 0])
 (.seq (.seq (.reg [oK 5 0])
 (.blk 0 (.loop (.seq (.seq (.reg [oM 6 5,
   oM 7 0,
   oJ 8 (.len false (.t 7)),
   oJ 9 (.bin .lss (.t 6) (.t 8))])
 (.cond (.t 9)
  (.skip)
  (.exit 0)))
 (.seq (.blk 1 (.reg [oM 12 0,
   oM 13 5,
   oJ 14 (.idxS 1 (.t 12) (.t 13)),
   oL 15 14,
   oM 16 1,
   oJ 17 (.call dV [(.t 15),(.t 16)]),
   oM 1 17]))
 (.reg [oM 10 5,
   oJ 11 (.bin .add (.t 10) (.c (.p (.int .i64 1)))),
   oM 5 11]))))))
 (.seq (.reg [oM 18 1,
   oM 4 18])
 (.ret)))⟩
theorem fp:ae Tryz.prog fb=some dj:=by kernel_rfl
def jQ:FK:=⟨21,[.t 4],
 .seq (.reg [oK 4 0])
 (.seq (.seq (.reg [oK 5 0])
 (.blk 0 (.loop (.seq (.seq (.reg [oM 6 5,
   oM 7 0,
   oJ 8 (.len false (.t 7)),
   oJ 9 (.bin .lss (.t 6) (.t 8))])
 (.cond (.t 9)
  (.skip)
  (.exit 0)))
 (.seq (.blk 1 (.seq (.seq (.reg [oM 12 0,
   oM 13 5,
   oJ 14 (.idxS 1 (.t 12) (.t 13)),
   oL 15 14,
   oM 16 1,
   oJ 17 (.bin .neq (.t 15) (.t 16))])
 (.cond (.t 17)
  (.seq (.reg [oJ 4 (.mov (.c (.p (.int .i64 (-1)))))])
  (.ret))
  (.skip)))
 (.reg [oM 18 1,
   oJ 19 (.bin .add (.t 18) (.c (.p (.int .i64 1)))),
   oM 1 19])))
 (.reg [oM 10 5,
   oJ 11 (.bin .add (.t 10) (.c (.p (.int .i64 1)))),
   oM 5 11]))))))
 (.seq (.reg [oM 20 1,
   oM 4 20])
 (.ret)))⟩
theorem pO:ae Tryz.prog fX=some jQ:=by kernel_rfl
def jk:FK:=⟨21,[.t 4],
 .seq (.reg [oK 4 0])
 (.seq (.seq (.reg [oK 5 0])
 (.blk 0 (.loop (.seq (.seq (.reg [oM 6 5,
   oM 7 0,
   oJ 8 (.len false (.t 7)),
   oJ 9 (.bin .lss (.t 6) (.t 8))])
 (.cond (.t 9)
  (.skip)
  (.exit 0)))
 (.seq (.blk 1 (.seq (.reg [oM 12 0,
   oM 13 5,
   oJ 14 (.idxS 1 (.t 12) (.t 13)),
   oL 15 14,
   oM 16 1,
   oJ 17 (.call fX [(.t 15),(.t 16)]),
   oM 1 17])
 (.seq (.reg [oM 18 1,
   oJ 19 (.bin .lss (.t 18) (.c (.p (.int .i64 0))))])
 (.cond (.t 19)
  (.seq (.reg [oJ 4 (.mov (.c (.p (.int .i64 (-1)))))])
  (.ret))
  (.skip)))))
 (.reg [oM 10 5,
   oJ 11 (.bin .add (.t 10) (.c (.p (.int .i64 1)))),
   oM 5 11]))))))
 (.seq (.reg [oM 20 1,
   oM 4 20])
 (.ret)))⟩
theorem nV:ae Tryz.prog dp=some jk:=by kernel_rfl
def ep:FK:=⟨69,[.t 2],
 .seq (.reg [oJ 1 (.box 1 (.t 0)),
  oJ 2 (.mov (.c (.p (.bool false))))])
 (.seq (.reg [oK 3 1048576])
 (.seq (.reg [oJ 11 (.ld (some 1) (.t 1)),
   oM 12 3,
   oJ 13 (.call dv [(.t 11),(.t 12)]),
   oM 3 13])
 (.seq (.seq (.reg [oM 14 3,
   oJ 15 (.bin .lss (.t 14) (.c (.p (.int .i64 0))))])
 (.cond (.t 15)
  (.seq (.reg [oJ 2 (.mov (.c (.p (.bool true))))])
  (.ret))
  (.skip)))
 (.seq (.reg [oJ 16 (.ld (some 1) (.t 1)),
   oJ 17 (.call br [(.t 16)]),
   oJ 18 (.call dm [(.t 17)]),
   oM 4 18])
 (.seq (.reg [oJ 19 (.ld (some 1) (.t 1)),
   oJ 20 (.call br [(.t 19)]),
   oJ 5 (.alloc [.nils]),
   oS 5 20])
 (.seq (.reg [oJ 21 (.ld (some 1) (.t 5)),
   oJ 22 (.call bM [(.t 21)]),
   oM 6 22])
 (.seq (.seq (.reg [oM 23 6,
   oM 24 4,
   oJ 25 (.call da [(.t 23),(.t 24)]),
   oJ 26 (.not (.t 25))])
 (.cond (.t 26)
  (.seq (.reg [oJ 2 (.mov (.c (.p (.bool false))))])
  (.ret))
  (.skip)))
 (.seq (.seq (.reg [oJ 27 (.ld (some 1) (.t 5)),
   oJ 28 (.ld (some 1) (.t 1)),
   oJ 29 (.call br [(.t 28)]),
   ⟨none,none,.chk (some 1) 5 27⟩,
   oJ 30 (.call fg [(.t 27),(.t 29)]),
   oJ 31 (.not (.t 30))])
 (.cond (.t 31)
  (.seq (.reg [oJ 2 (.mov (.c (.p (.bool false))))])
  (.ret))
  (.skip)))
 (.seq (.reg [oK 7 1])
 (.seq (.reg [oJ 32 (.ld (some 1) (.t 5)),
   oM 33 7,
   oJ 34 (.call eb [(.t 32),(.t 33)]),
   oM 7 34])
 (.seq (.seq (.reg [oM 35 7,
   oJ 36 (.bin .lss (.t 35) (.c (.p (.int .i64 0)))),
   oM 37 36,
   ⟨(some 38),some (37,false),.mov (.t 6)⟩,
   ⟨(some 39),some (37,false),.mov (.t 4)⟩,
   ⟨(some 40),some (37,false),.call da [(.t 38),(.t 39)]⟩,
   ⟨(some 41),some (37,false),.not (.t 40)⟩,
   oJ 42 (.pick (.t 37) (.c (.p (.bool true))) (.t 41))])
 (.cond (.t 42)
  (.seq (.reg [oJ 2 (.mov (.c (.p (.bool false))))])
  (.ret))
  (.skip)))
 (.seq (.reg [oK 8 1])
 (.seq (.reg [oM 43 6,
   oM 44 8,
   oJ 45 (.call fb [(.t 43),(.t 44)]),
   oM 8 45])
 (.seq (.reg [oK 9 1])
 (.seq (.reg [oM 46 6,
   oM 47 9,
   oJ 48 (.call dp [(.t 46),(.t 47)]),
   oM 9 48])
 (.seq (.seq (.reg [oM 49 9,
   oJ 50 (.bin .lss (.t 49) (.c (.p (.int .i64 0))))])
 (.cond (.t 50)
  (.seq (.reg [oJ 2 (.mov (.c (.p (.bool false))))])
  (.ret))
  (.skip)))
 (.seq (.seq (.reg [oM 51 9,
   oM 52 8,
   oJ 53 (.bin .neq (.t 51) (.t 52))])
 (.cond (.t 53)
  (.seq (.reg [oJ 2 (.mov (.c (.p (.bool false))))])
  (.ret))
  (.skip)))
 (.seq (.reg [oJ 54 (.ld (some 1) (.t 1)),
   oJ 55 (.call br [(.t 54)]),
   oJ 56 (.call bM [(.t 55)]),
   oM 10 56])
 (.seq (.seq (.reg [oM 57 10,
   oM 58 4,
   oJ 59 (.call da [(.t 57),(.t 58)]),
   oJ 60 (.not (.t 59))])
 (.cond (.t 60)
  (.seq (.reg [oJ 2 (.mov (.c (.p (.bool false))))])
  (.ret))
  (.skip)))
 (.seq (.reg [oK 9 1])
 (.seq (.reg [oM 61 6,
   oM 62 9,
   oJ 63 (.call dp [(.t 61),(.t 62)]),
   oM 9 63])
 (.seq (.seq (.reg [oM 64 9,
   oJ 65 (.bin .lss (.t 64) (.c (.p (.int .i64 0))))])
 (.cond (.t 65)
  (.seq (.reg [oJ 2 (.mov (.c (.p (.bool false))))])
  (.ret))
  (.skip)))
 (.seq (.seq (.reg [oM 66 9,
   oM 67 8,
   oJ 68 (.bin .neq (.t 66) (.t 67))])
 (.cond (.t 68)
  (.seq (.reg [oJ 2 (.mov (.c (.p (.bool false))))])
  (.ret))
  (.skip)))
 (.seq (.reg [oJ 2 (.mov (.c (.p (.bool true))))])
 (.ret)))))))))))))))))))))))))⟩
theorem jt:ae Tryz.prog eh=some ep:=by kernel_rfl
end Go.Proofs.YtiojgfhdcpppcaaGreatDoor
namespace Go.Proofs.YtiojgfhdcpppcaaGreatDoor
open Go Go.Aw
set_option maxRecDepth 100000
set_option maxHeartbeats 4000000
def K_spec_l4Walk_expr:AK:= .seq (.reg [oJ 3 (.box 4 (.t 1)),oJ 4 (.alloc [(.p (.int .i64 0)),(.p (.int .i64 0)),(.p (.str [])),.nils])]) (.cut (.seq (.reg [oF 8 0 3,oL 9 8,oJ 10 (.bin .eql (.t 9) (.c (.p (.int .i64 2))))]) (.cond (.t 10) (.reg [oM 11 0,oF 12 2 3,oL 13 12,oJ 14 (.call bB [(.t 11),(.t 13)]),oF 15 2 3,oS 15 14]) (.skip))) (.cut (.seq (.reg [oF 16 0 3,oL 17 16,oJ 18 (.bin .eql (.t 17) (.c (.p (.int .i64 13))))]) (.cond (.t 18) (.seq (.reg [oM 19 0,oN 20 19,oF 21 0 20,oF 23 2 3,oJ 22 (.ld (some 1) (.t 21)),oL 24 23,oJ 25 (.call eq [(.t 22),(.t 24)]),oM 5 25]) (.seq (.reg [oM 26 5,oJ 27 (.bin .lss (.t 26) (.c (.p (.int .i64 0)))),oM 28 27,⟨(some 29),some (28,false),.mov (.t 5)⟩,⟨(some 30),some (28,false),.mov (.t 0)⟩,⟨(some 31),some (28,false),.nilck (.t 30)⟩,⟨(some 32),some (28,false),.fldA 1 (.t 31)⟩,⟨(some 33),some (28,false),.ld none (.t 32)⟩,⟨(some 34),some (28,false),.bin .geq (.t 29) (.t 33)⟩,oJ 35 (.pick (.t 28) (.c (.p (.bool true))) (.t 34))]) (.cond (.t 35) (.reg [oM 36 0,oJ 37 (.call aD [(.t 36),(.c (.p (.int .i64 4)))])]) (.seq (.reg [oM 38 0,oN 39 38,oF 40 0 39,oF 41 0 40,oM 43 5,oF 48 3 3,oL 42 41,oJ 44 (.idxS 3 (.t 42) (.t 43)),oF 45 1 44,oL 46 45,oJ 47 (.len false (.t 46)),oL 49 48,oJ 50 (.len false (.t 49)),oJ 51 (.bin .neq (.t 47) (.t 50))]) (.cond (.t 51) (.reg [oM 52 0,oJ 53 (.call aD [(.t 52),(.c (.p (.int .i64 5)))])]) (.skip)))))) (.skip))) (.seq (.reg [oJ 54 (.bsl 4 [(.p (.int .i64 0)),(.p (.int .i64 0)),(.p (.str [])),.nils] 0 []),oM 6 54]) (.seq (.seq (.reg [oK 7 0]) (.blk 0 (.loop (.seq (.seq (.reg [oM 55 7,oF 56 3 3,oL 57 56,oJ 58 (.len false (.t 57)),oJ 59 (.bin .lss (.t 55) (.t 58))]) (.cond (.t 59) (.skip) (.exit 0))) (.seq (.blk 1 (.reg [oM 62 6,oM 63 0,oF 64 3 3,oL 65 64,oM 66 7,oJ 67 (.idxS 4 (.t 65) (.t 66)),oJ 68 (.ld (some 4) (.t 67)),oJ 69 (.call aU [(.t 63),(.t 68)]),oJ 70 (.bsl 4 [(.p (.int .i64 0)),(.p (.int .i64 0)),(.p (.str [])),.nils] 1 [(0,4,(.t 69))]),oJ 71 (.app 4 56 (.t 62) (.t 70)),oM 6 71])) (.reg [oM 60 7,oJ 61 (.bin .add (.t 60) (.c (.p (.int .i64 1)))),oM 7 61])))))) (.seq (.reg [oM 72 6,oF 73 3 3,oS 73 72]) (.seq (.reg [oJ 74 (.ld (some 4) (.t 3)),⟨none,none,.st 4 (.t 4) (.t 74)⟩]) (.ret)))))))
theorem mu:K_spec_l4Walk_expr.whole=F_spec_l4Walk_expr.ak:=rfl
variable (G:aA)
theorem uJ{f:FuncId}{args:List AV}{nf:Bool}{fns:List Fd}{k:Nat}{w w':WS}{v:AV}(H:AC Tryz.prog G f args (HWk nf fns k w) fun x h=>x= .ret v∧h=HWk nf fns k w')(rest:List AO)(ha:ag 2 args):
 AC Tryz.prog G f args (wO 1 nf fns k w::roC nf w.vs::rest) fun x h=>x= .ret v∧h=wO 1 nf fns k w'::roC nf w'.vs::rest:=by
 refine(AC.pre H rest ha (rz _ _ _ _) ?_).mono ?_
 ·rintro x h ⟨_,rfl⟩;rfl
 ·rintro x h ⟨h1,⟨rfl,rfl⟩,rfl⟩
  exact⟨rfl,rfl⟩
theorem nD{n id:Nat}(hn:id<n){nf nf':Bool}{fns:List Fd}{k:Nat}{w:WS}{vs:List LV}{l:List AO}(r:∀o∈l,okO n o):∀o∈wO id nf fns k w::roC nf' vs::l,okO n o:=an (po hn) (an (ee _ _ _) r)
theorem rD{ρ π:List Nat}{h r1:List AO}{i id:Nat}{nf:Bool}{fns:List Fd}{k:Nat}{w:WS}(hid:id<ρ.length)(e:h[i]?=some (wO (ρ.getD id 0) nf fns k w))(hr:HW ρ h π r1):HW ρ h (i::π) (wO id nf fns k w::r1):=by
 refine iC (es:=[wC id nf fns k w]) (fun x hx=>?_) ?_ hr
 ·rw[List.mem_singleton.1 hx];exact qu hid
 ·rw[e,List.map_cons,List.map_nil,tk];rfl
theorem zy{α:Type}{l:List α}{i j:Nat}{a b:α}(hij:i≠j)(h:l[j]?=some b):(l.set i a).set j b=l.set i a:=by
 apply List.ext_getElem?
 intro n
 rw[List.getElem?_set]
 split
 ·rename_i e
  subst e
  rw[List.getElem?_set_ne hij,h]
  rw[if_pos (by rw[List.length_set];exact(List.getElem?_eq_some_iff.1 h).1)]
 ·rfl
theorem tn(ρ:List Nat):∀l:List AV,ag 0 l→TW ρ l l
 |[],_=>by simp
 |v::r,h=>by
  rw[tq]
  refine⟨.inr ⟨(aV (Nat.zero_le _) [v] ⟨h.1,trivial⟩).1,?_⟩,tn ρ r h.2⟩
  have:=ff ρ [v] ⟨h.1,trivial⟩
  simpa[bp] using this
theorem Ha{h:List AO}{wid id:Nat}{nf:Bool}{fns:List Fd}{k:Nat}{w:WS}(e0:h[wid]?=some (wO id nf fns k w))(e1:h[id]?=some (roC nf w.vs)):HW [wid,id] h [wid,id] (HWk nf fns k w):=by
 refine iC (es:=[wC 1 nf fns k w]) (fun x hx=>?_) ?_ ?_
 ·rw[List.mem_singleton.1 hx];exact qu (by simp)
 ·rw[e0,List.map_cons,List.map_nil,tk];rfl
 ·exact iH e1 (ee _ _ _) bJ
theorem Ek{f:FuncId}{args:List AV}{nf:Bool}{fns:List Fd}{k:Nat}{w:WS}{v:AV}{c:Int}(H:AC Tryz.prog G f (.ptr 0 5 0 0::args) (HWk nf fns k w) fun x h=>x= .ret v∧h=HWk nf fns k ⟨w.vs,w.count,c⟩)(ha:ag 0 args)(hv:below 0 v)
 {h:List AO}{wid id:Nat}(hid:wid≠id)(e0:h[wid]?=some (wO id nf fns k w))(e1:h[id]?=some (roC nf w.vs)):
 AC Tryz.prog G f (.ptr wid 5 0 0::args) h fun x h'=>x= .ret v∧h'=h.set wid (wO id nf fns k ⟨w.vs,w.count,c⟩):=by
 refine(H.frame [wid,id] (by simp[hid]) ?_ (Ha e0 e1)).mono ?_
 ·rw[tq];exact⟨.inr ⟨by simp[below],rfl⟩,tn _ _ ha⟩
 ·rintro x h' ⟨x0,h0,⟨rfl,rfl⟩,_,rfl,rfl⟩
  refine⟨?_,?_⟩
  ·have:=ff ([wid,id]++List.range' h.length ((HWk nf fns k ⟨w.vs,w.count,c⟩).length-(HWk nf fns k w).length)) [v] ⟨hv,trivial⟩
   simp only[bp] at this
   simp only[yh]
   exact congrArg ARes.ret (List.cons.inj this).1
  ·simp only[HWk,List.length_cons,List.length_nil,Nat.sub_self,List.range'_zero,List.append_nil,List.take_succ_cons,List.take_zero,List.map_cons,List.map_nil,List.drop_succ_cons,List.drop_zero,xn,uQ,mrg]
   exact zy hid e1
theorem Ca{f:FuncId}{args:List AV}{nf:Bool}{fns:List Fd}{k:Nat}{w:WS}{v:AV}{Q:Bool→WS→Prop}(H:AC Tryz.prog G f (.ptr 0 5 0 0::args) (HWk nf fns k w) fun x h=>∃nf' w',x= .ret v∧h=[wO 2 nf' fns k w',.dead,roC nf' w'.vs]∧Q nf' w')(ha:ag 0 args)(hv:below 0 v)
 {h:List AO}{wid id:Nat}(hid:wid≠id)(e0:h[wid]?=some (wO id nf fns k w))(e1:h[id]?=some (roC nf w.vs)):
 AC Tryz.prog G f (.ptr wid 5 0 0::args) h fun x h'=>∃nf' w',x= .ret v∧h'=(h.set wid (wO h.length nf' fns k w')).set id .dead++[roC nf' w'.vs]∧Q nf' w':=by
 refine(H.frame [wid,id] (by simp[hid]) ?_ (Ha e0 e1)).mono ?_
 ·rw[tq];exact⟨.inr ⟨by simp[below],rfl⟩,tn _ _ ha⟩
 ·rintro x h' ⟨x0,h0,⟨nf',w',rfl,rfl,q⟩,_,rfl,rfl⟩
  refine⟨nf',w',?_,?_,q⟩
  ·have:=ff ([wid,id]++List.range' h.length ([wO 2 nf' fns k w',.dead,roC nf' w'.vs].length-(HWk nf fns k w).length)) [v] ⟨hv,trivial⟩
   simp only[bp] at this
   simp only[yh]
   exact congrArg ARes.ret (List.cons.inj this).1
  ·simp only[HWk,List.length_cons,List.length_nil,List.take_succ_cons,List.take_zero,List.map_cons,List.map_nil,List.drop_succ_cons,List.drop_zero,xn,uQ,mrg]
   rfl
theorem sI(fns:List Fd)(k:Nat)(vs:List LV):∀(a b:List Ex) (c:Int),cL fns k vs (a++b) c=cL fns k vs b (cL fns k vs a c)
 |[],b,c=>rfl
 |e::r,b,c=>by rw[List.cons_append,cL,cL,sI fns k vs r]
theorem nK(vs:List LV):∀l:List Ex,hJ vs l=l.map (rnE vs)
 |[]=>rfl
 |e::r=>by rw[hJ,nK vs r];rfl
theorem rL{fns:List Fd}{k:Nat}{vs:List LV}{l:List Ex}{c:Int}{i:Nat}(h:i<l.length):cL fns k vs (l.take (i+1)) c=uw fns k vs l[i] (cL fns k vs (l.take i) c):=by
 rw[aj h,sI];rfl
theorem sP{vs:List LV}{l:List Ex}{i:Nat}(h:i<l.length):hJ vs (l.take (i+1))=hJ vs (l.take i)++[rnE vs l[i]]:=by
 rw[nK,nK,aj h,List.map_append];rfl
theorem ng(vs:List LV)(l:List Ex):(hJ vs l).length=l.length:=by rw[nK,List.length_map]
theorem xu(l:List Ex):(exR l).length=l.length:=by simp[exR]
theorem xm(a b:List Ex):exR (a++b)=exR a++exR b:=by simp[exR]
theorem tZ{h:List AO}{id:Nat}{l:List Ex}(e:h[id]?=some (.row 4 (exR l))):View h (.sl id 4 0 l.length) (exL l):=by
 have:=eB (h:=h) (id:=id) (sz:=4) (n:=l.length) (ls:=l.map Ex.cs) (by rw[e,exR];simp) (by simp) (fun x hx=>by obtain⟨b,_,rfl⟩:=List.mem_map.1 hx;exact b.cs_len)
 exact this
theorem DQ{fns:List Fd}{s:List UInt8}{j:Nat}(h:cV fns s=some j):j<fns.length:=by
 rw[cV,List.findIdx?_eq_some_iff_getElem] at h;exact h.1
theorem Dv{fns:List Fd}{k:Nat}(hf:fns.length≤1099511627776):∀(N:Nat) (e:Ex),e.sz≤N→N≤1099511627776→∀(nf:Bool) (w:WS),(nf=true→w.vs=[])→w.vs.length≤1099511627776→
 AC Tryz.prog G aU [.ptr 0 5 0 0,.agg (e.cs.map .p)] (HWk nf fns k w) fun x h=>x= .ret (.agg ((rnE w.vs e).cs.map .p))∧h=HWk nf fns k ⟨w.vs,w.count,uw fns k w.vs e w.code⟩:=by
 intro N
 induction N with
 |zero=>intro e he;have:=e.sz_eq;omega
 |succ N ih=>
  intro e he hN nf w hn hl
  have hec:=e.cs_eq
  have hsz:=e.sz_eq
  have hkl:=bt e.kids
  have hre:(rnE w.vs e).cs=[.int .i64 e.op,.int .i64 e.n,.str (if e.op=2 then qP w.vs e.name else e.name),exL (hJ w.vs e.kids)]:=by
   obtain⟨o,n,s,ks⟩:=e;rw[rnE,Ex.cs_eq];rfl
  have hce:uw fns k w.vs e w.code=cL fns k w.vs e.kids (lY fns k w.vs e.op e.name e.kids.length w.code):=by
   obtain⟨o,n,s,ks⟩:=e;rfl
  have main:AC Tryz.prog G aU [.ptr 0 5 0 0,.agg (e.cs.map .p)] (HWk nf fns k w) fun x h=>∃E1 E2,x= .ret (.agg [.p (.int .i64 e.op),.p (.int .i64 e.n),.p (.str (if e.op=2 then qP w.vs e.name else e.name)),.sl 4 4 0 e.kids.length])∧
   h=[wO 1 nf fns k ⟨w.vs,w.count,uw fns k w.vs e w.code⟩,roC nf w.vs,E1,E2,.row 4 (exR (hJ w.vs e.kids))]:=by
   refine AC.goK mI mu ?_
   simp-implicitDefEqProofs[K_spec_l4Walk_expr,F_spec_l4Walk_expr,HWk,hec]
   refine gR (af 75 [(0,.ptr 0 5 0 0),(3,.ptr 2 4 0 0),(4,.ptr 3 4 0 0)]) [wO 1 nf fns k ⟨w.vs,w.count,if e.op=2 then pB w.vs e.name w.code else w.code⟩,roC nf w.vs,.row 4 [[.p (.int .i64 e.op),.p (.int .i64 e.n),.p (.str (if e.op=2 then qP w.vs e.name else e.name)),.p (exL e.kids)]],.row 4 [[.p (.int .i64 0),.p (.int .i64 0),.p (.str []),.nils]]] ?_ ?_
   ·by_cases o2:e.op=2
    ·simp-implicitDefEqProofs[o2]
     refine(uJ G (Bh G nf fns k w hn hl e.name) _ (by simp[below])).mono ?_
     rintro r h ⟨rfl,rfl⟩
     simp-implicitDefEqProofs[aa]
     exact ab (by simp) (nD (by simp) (by simp[okO,below])) (by simp[below])
    ·simp-implicitDefEqProofs[o2]
     exact ab (by simp) (nD (by simp) (by simp[okO,below])) (by simp[below])
   refine gR (af 75 [(0,.ptr 0 5 0 0),(3,.ptr 2 4 0 0),(4,.ptr 3 4 0 0)]) [wO 1 nf fns k ⟨w.vs,w.count,lY fns k w.vs e.op e.name e.kids.length w.code⟩,roC nf w.vs,.row 4 [[.p (.int .i64 e.op),.p (.int .i64 e.n),.p (.str (if e.op=2 then qP w.vs e.name else e.name)),.p (exL e.kids)]],.row 4 [[.p (.int .i64 0),.p (.int .i64 0),.p (.str []),.nils]]] ?_ ?_
   ·by_cases o13:e.op=13
    ·have hhd:lY fns k w.vs e.op e.name e.kids.length w.code=nc fns k e.name e.kids.length w.code:=by simp[lY,o13]
     rw[hhd]
     simp-implicitDefEqProofs[o13,wO,wC]
     refine(Ae G fns e.name hf).use ?_
     have fin:∀c:Int,Wk 2 (af 75 [(0,.ptr 0 5 0 0),(3,.ptr 2 4 0 0),(4,.ptr 3 4 0 0)]) [wO 1 nf fns k ⟨w.vs,w.count,c⟩,roC nf w.vs,.row 4 [[.p (.int .i64 13),.p (.int .i64 e.n),.p (.str e.name),.p (exL e.kids)]],.row 4 [[.p (.int .i64 0),.p (.int .i64 0),.p (.str []),.nils]]] (af 75 [(0,.ptr 0 5 0 0),(3,.ptr 2 4 0 0),(4,.ptr 3 4 0 0)]) [wO 1 nf fns k ⟨w.vs,w.count,c⟩,roC nf w.vs,.row 4 [[.p (.int .i64 13),.p (.int .i64 e.n),.p (.str e.name),.p (exL e.kids)]],.row 4 [[.p (.int .i64 0),.p (.int .i64 0),.p (.str []),.nils]]]:=fun c=>
      ab (by simp) (nD (by simp) (by simp[okO,below])) (by simp[below])
     cases hfa:cV fns e.name with
     |none=>
      simp-implicitDefEqProofs[ixI,nc,hfa]
      refine(uJ G (lr G nf fns k w 4) _ (by simp[below])).mono ?_
      rintro r h ⟨rfl,rfl⟩
      simp-implicitDefEqProofs[aa]
      exact ab (h:=[wO 1 nf fns k ⟨w.vs,w.count,fl w.code 4⟩,roC nf w.vs,.row 4 [[.p (.int .i64 13),.p (.int .i64 e.n),.p (.str e.name),.p (exL e.kids)]],.row 4 [[.p (.int .i64 0),.p (.int .i64 0),.p (.str []),.nils]]]) (by simp) (nD (by simp) (by simp[okO,below])) (by simp[below])
     |some j=>
      have hj:=DQ hfa
      have hg:=List.getElem?_eq_getElem hj
      have hjn:¬(j:Int)<0:=by omega
      by_cases hkj:k≤j
      ·have hkj':(k:Int)≤(j:Int):=by omega
       simp-implicitDefEqProofs[ixI,nc,hfa,hkj,hkj',hjn]
       refine(uJ G (lr G nf fns k w 4) _ (by simp[below])).mono ?_
       rintro r h ⟨rfl,rfl⟩
       simp-implicitDefEqProofs[aa]
       exact ab (h:=[wO 1 nf fns k ⟨w.vs,w.count,fl w.code 4⟩,roC nf w.vs,.row 4 [[.p (.int .i64 13),.p (.int .i64 e.n),.p (.str e.name),.p (exL e.kids)]],.row 4 [[.p (.int .i64 0),.p (.int .i64 0),.p (.str []),.nils]]]) (by simp) (nD (by simp) (by simp[okO,below])) (by simp[below])
      ·have hkj':¬(k:Int)≤(j:Int):=by omega
       have hfl:fdL fns= .lst 3 (fns.map Fd.cs):=rfl
       have hcs:fns[j].cs=[.str fns[j].name,aB fns[j].params,smL fns[j].body]:=rfl
       have hst:aB fns[j].params= .lst 1 (fns[j].params.map fun w=>[.str w]):=rfl
       have hxl:∀l,exL l= .lst 4 (l.map Ex.cs):=fun _=>rfl
       have hpn:zn fns j=fns[j].params.length:=by simp[zn,hg]
       by_cases hp:fns[j].params.length=e.kids.length
       ·have hcc:nc fns k e.name e.kids.length w.code=w.code:=by simp[nc,hfa,hkj,hpn,hp]
        rw[hcc]
        simp-implicitDefEqProofs[ixI,hkj',hjn,hfl,hg,hcs,hst,hxl,hp]
        exact ab (h:=[wO 1 nf fns k w,roC nf w.vs,.row 4 [[.p (.int .i64 13),.p (.int .i64 e.n),.p (.str e.name),.p (exL e.kids)]],.row 4 [[.p (.int .i64 0),.p (.int .i64 0),.p (.str []),.nils]]]) (by simp) (nD (by simp) (by simp[okO,below])) (by simp[below])
       ·have hcc:nc fns k e.name e.kids.length w.code=fl w.code 5:=by simp[nc,hfa,hkj,hpn,hp]
        have hp':¬(fns[j].params.length:Int)=(e.kids.length:Int):=by omega
        rw[hcc]
        simp-implicitDefEqProofs[ixI,hkj',hjn,hfl,hg,hcs,hst,hxl,hp']
        refine(uJ G (lr G nf fns k w 5) _ (by simp[below])).mono ?_
        rintro r h ⟨rfl,rfl⟩
        simp-implicitDefEqProofs[aa]
        exact ab (h:=[wO 1 nf fns k ⟨w.vs,w.count,fl w.code 5⟩,roC nf w.vs,.row 4 [[.p (.int .i64 13),.p (.int .i64 e.n),.p (.str e.name),.p (exL e.kids)]],.row 4 [[.p (.int .i64 0),.p (.int .i64 0),.p (.str []),.nils]]]) (by simp) (nD (by simp) (by simp[okO,below])) (by simp[below])
    ·have hhd:lY fns k w.vs e.op e.name e.kids.length w.code=if e.op=2 then pB w.vs e.name w.code else w.code:=by simp[lY,o13]
     rw[hhd]
     simp-implicitDefEqProofs[o13]
     exact ab (by simp) (nD (by simp) (by simp[okO,below])) (by simp[below])
   rw[hce]
   generalize lY fns k w.vs e.op e.name e.kids.length w.code=c2
   generalize (if e.op=2 then qP w.vs e.name else e.name)=s1
   have hxl:exL e.kids= .lst 4 (e.kids.map Ex.cs):=rfl
   simp-implicitDefEqProofs[]
   refine au (fun i:Nat=>af 75 [(0,.ptr 0 5 0 0),(3,.ptr 2 4 0 0),(4,.ptr 3 4 0 0),(6,.sl 4 4 0 i),(7,.p (.int .i64 i))])
    (fun i=>[wO 1 nf fns k ⟨w.vs,w.count,cL fns k w.vs (e.kids.take i) c2⟩,roC nf w.vs,.row 4 [[.p (.int .i64 e.op),.p (.int .i64 e.n),.p (.str s1),.p (exL e.kids)]],.row 4 [[.p (.int .i64 0),.p (.int .i64 0),.p (.str []),.nils]],.row 4 (exR (hJ w.vs (e.kids.take i)))])
    (fun i=>i≤e.kids.length) (fun i=>e.kids.length-i) 0 (by simp) ?_ ?_
   ·exact ab (by simp) (nD (by simp) (by simp[okO,below])) (by simp[below])
   ·intro i hi
    have hrl:(exR (hJ w.vs (e.kids.take i))).length=i:=by rw[xu,ng];simp;omega
    simp-implicitDefEqProofs[hxl]
    refine aR (fun h=>?_) (fun h=>?_)
    ·simp at h
     have hg:=List.getElem?_eq_getElem h
     have hks:=aS (List.getElem_mem h)
     have hkc:=(rnE w.vs e.kids[i]).cs_eq
     simp-implicitDefEqProofs[hg]
     refine(uJ G (ih e.kids[i] (by omega) (by omega) nf ⟨w.vs,w.count,cL fns k w.vs (e.kids.take i) c2⟩ hn hl) _ (by simp[below])).mono ?_
     rintro r h ⟨rfl,rfl⟩
     rw[show(rnE (WS.mk w.vs w.count (cL fns k w.vs (e.kids.take i) c2)).vs e.kids[i])=rnE w.vs e.kids[i] from rfl]
     simp-implicitDefEqProofs[aa,hkc,hrl]
     refine⟨by omega,?_⟩
     refine⟨i+1,by omega,by omega,?_⟩
     have htk:List.take i (exR (hJ w.vs (e.kids.take i)))=exR (hJ w.vs (e.kids.take i)):=List.take_of_length_le (by omega)
     rw[rL h,sP h,xm,htk]
     refine kY [0,1,2,3,6] (by simp) (by decide) (by decide) (rD (by simp) rfl (iH rfl (ee _ _ _) (bh rfl (by simp[below]) (bh rfl (by simp[below]) (bh ?_ ?_ bJ))))) (by simp[below,ren,w1 (i:=i) (by omega)])
     ·have:exR [rnE w.vs e.kids[i]]=[[.p (.int .i64 (rnE w.vs e.kids[i]).op),.p (.int .i64 (rnE w.vs e.kids[i]).n),.p (.str (rnE w.vs e.kids[i]).name),.p (exL (rnE w.vs e.kids[i]).kids)]]:=by rw[exR,List.map_singleton,hkc];rfl
      rw[this];rfl
     ·intro x hx
      rcases List.mem_append.1 hx with h|h
      ·exact np _ x h
      ·exact np _ x h
    ·simp at h
     have hie:i=e.kids.length:=by omega
     subst hie
     simp-implicitDefEqProofs[]
  refine main.frz 2 (by simp[HWk]) (fun t v h ⟨_,_,e,_⟩=>by cases e) ?_
  rintro v h ⟨E1,E2,e,rfl⟩
  cases e
  refine⟨_,HWk nf fns k ⟨w.vs,w.count,uw fns k w.vs e w.code⟩,by simp,rfl,.agg ?_ .nil,.same (po (by omega)) (.same (ee _ _ _) (.nil _)),rfl,rfl⟩
  rw[hre]
  have hrl:=ng w.vs e.kids
  rw[←hrl]
  exact .keep (by simp) (.keep (by simp) (.keep (by simp) (.one (tZ rfl) .nil)))
end Go.Proofs.YtiojgfhdcpppcaaGreatDoor
namespace Go.Proofs.YtiojgfhdcpppcaaGreatDoor
open Go Go.Aw
set_option maxRecDepth 100000
set_option maxHeartbeats 4000000
def K_spec_l4Walk_stmts:AK:= .seq (.reg [oJ 6 (.mov (.c .nils))]) (.seq (.reg [oJ 13 (.bsl 5 [(.p (.int .i64 0)),(.p (.str [])),.nils,.nils,.nils] 0 []),oM 7 13]) (.seq (.reg [oM 14 0,oN 15 14,oF 16 2 15,oL 17 16,oJ 18 (.len false (.t 17)),oM 8 18]) (.seq (.seq (.reg [oK 9 0]) (.blk 0 (.loop (.seq (.seq (.reg [oM 19 9,oM 20 1,oJ 21 (.len false (.t 20)),oJ 22 (.bin .lss (.t 19) (.t 21))]) (.cond (.t 22) (.skip) (.exit 0))) (.seq (.blk 1 (.seq (.reg [oM 25 1,oM 26 9,oJ 27 (.idxS 5 (.t 25) (.t 26)),oJ 28 (.ld (some 5) (.t 27)),oJ 10 (.alloc [(.p (.int .i64 0)),(.p (.str [])),.nils,.nils,.nils]),⟨none,none,.st 5 (.t 10) (.t 28)⟩]) (.seq (.reg [oJ 29 (.bsl 4 [(.p (.int .i64 0)),(.p (.int .i64 0)),(.p (.str [])),.nils] 0 []),oM 11 29]) (.seq (.seq (.reg [oK 12 0]) (.blk 2 (.loop (.seq (.seq (.reg [oM 30 12,oF 31 2 10,oL 32 31,oJ 33 (.len false (.t 32)),oJ 34 (.bin .lss (.t 30) (.t 33))]) (.cond (.t 34) (.skip) (.exit 2))) (.seq (.blk 3 (.reg [oM 37 11,oM 38 0,oF 39 2 10,oL 40 39,oM 41 12,oJ 42 (.idxS 4 (.t 40) (.t 41)),oJ 43 (.ld (some 4) (.t 42)),oJ 44 (.call aU [(.t 38),(.t 43)]),oJ 45 (.bsl 4 [(.p (.int .i64 0)),(.p (.int .i64 0)),(.p (.str [])),.nils] 1 [(0,4,(.t 44))]),oJ 46 (.app 4 56 (.t 37) (.t 45)),oM 11 46])) (.reg [oM 35 12,oJ 36 (.bin .add (.t 35) (.c (.p (.int .i64 1)))),oM 12 36])))))) (.cut (.reg [oM 47 11,oF 48 2 10,oS 48 47]) (.cut (.seq (.reg [oF 49 0 10,oL 50 49,oJ 51 (.bin .eql (.t 50) (.c (.p (.int .i64 1))))]) (.cond (.t 51) (.reg [oM 52 0,oF 53 1 10,oL 54 53,oM 55 2,oJ 56 (.call bA [(.t 52),(.t 54),(.t 55)]),oF 57 1 10,oS 57 56]) (.skip))) (.cut (.seq (.reg [oF 58 0 10,oL 59 58,oJ 60 (.bin .eql (.t 59) (.c (.p (.int .i64 2))))]) (.cond (.t 60) (.reg [oM 61 0,oF 62 1 10,oL 63 62,oJ 64 (.call bB [(.t 61),(.t 63)]),oF 65 1 10,oS 65 64]) (.skip))) (.seq (.reg [oM 66 0,oF 67 3 10,oL 68 67,oM 69 2,oJ 70 (.bin .add (.t 69) (.c (.p (.int .i64 1)))),oJ 71 (.call aI [(.t 66),(.t 68),(.t 70)]),oF 72 3 10,oS 72 71]) (.seq (.reg [oM 73 0,oF 74 4 10,oL 75 74,oM 76 2,oJ 77 (.bin .add (.t 76) (.c (.p (.int .i64 1)))),oJ 78 (.call aI [(.t 73),(.t 75),(.t 77)]),oF 79 4 10,oS 79 78]) (.reg [oM 80 7,oJ 81 (.ld (some 5) (.t 10)),oJ 82 (.bsl 5 [(.p (.int .i64 0)),(.p (.str [])),.nils,.nils,.nils] 1 [(0,5,(.t 81))]),oJ 83 (.app 5 96 (.t 80) (.t 82)),oM 7 83])))))))))) (.reg [oM 23 9,oJ 24 (.bin .add (.t 23) (.c (.p (.int .i64 1)))),oM 9 24])))))) (.cut (.seq (.reg [oM 84 2,oJ 85 (.bin .gtr (.t 84) (.c (.p (.int .i64 0))))]) (.cond (.t 85) (.reg [oM 86 0,oM 87 0,oN 88 87,oF 89 2 88,oL 90 89,oM 91 8,oJ 92 (.slS 3 (.t 90) none (some (.t 91))),oN 93 86,oF 94 2 93,oS 94 92]) (.skip))) (.seq (.reg [oM 95 7,oM 6 95]) (.ret))))))
theorem lE:K_spec_l4Walk_stmts.whole=F_spec_l4Walk_stmts.ak:=rfl
theorem uH(fns:List Fd)(k b:Nat):∀(x y:List Sm) (w:WS),bY fns k b (x++y) w=bY fns k b y (bY fns k b x w)
 |[],y,w=>rfl
 |s::r,y,w=>by rw[List.cons_append,bY,bY,uH fns k b r]
theorem uU(fns:List Fd)(k b:Nat):∀(x y:List Sm) (w:WS),eS fns k b (x++y) w=eS fns k b x w++eS fns k b y (bY fns k b x w)
 |[],y,w=>rfl
 |s::r,y,w=>by rw[List.cons_append,eS,eS,uU fns k b r];rfl
theorem yL{fns:List Fd}{k b:Nat}{l:List Sm}{w:WS}{i:Nat}(h:i<l.length):bY fns k b (l.take (i+1)) w=stW fns k b l[i] (bY fns k b (l.take i) w):=by
 rw[aj h,uH];rfl
theorem yB{fns:List Fd}{k b:Nat}{l:List Sm}{w:WS}{i:Nat}(h:i<l.length):eS fns k b (l.take (i+1)) w=eS fns k b (l.take i) w++[rnS fns k b l[i] (bY fns k b (l.take i) w)]:=by
 rw[aj h,uU];rfl
theorem ri(fns:List Fd)(k b:Nat):∀(l:List Sm) (w:WS),(eS fns k b l w).length=l.length
 |[],w=>rfl
 |s::r,w=>by rw[eS,List.length_cons,ri fns k b r,List.length_cons]
theorem CK{l:List Sm}{i:Nat}(h:i<l.length):aG (l.take i)+l[i].sz≤aG l:=by
 have e:l=l.take i++l[i]::l.drop (i+1):=by rw[←List.drop_eq_getElem_cons h,List.take_append_drop]
 have h2:aG l=aG (l.take i)+(l[i].sz+aG (l.drop (i+1))):=by
  conv=>lhs;rw[e]
  rw[pf];rfl
 omega
def mF(fns:List Fd)(k b:Nat)(l:List Sm)(w:WS):WS:=if 0<b then(bY fns k b l w).back w.vs else bY fns k b l w
theorem wZ(fns:List Fd)(k b:Nat)(l:List Sm)(w:WS):(mF fns k b l w).count=w.count+lO l:=by
 unfold mF
 split
 ·exact fh fns k l b w
 ·exact fh fns k l b w
theorem Bp{e vs:List LV}:(lvR (e++vs)).take vs.length=lvR vs:=by
 have h:lvR (e++vs)=lvR vs++lvR e:=by simp[lvR]
 rw[h,List.take_append_of_le_length (by rw[pU];exact Nat.le_refl _),List.take_of_length_le (by rw[pU];exact Nat.le_refl _)]
theorem sZ(l:List Sm):lO l≤aG l:=Nat.le_trans (nF l) (ln l)
theorem wn(nf:Bool)(id n:Nat):(vaC nf id n).isCell=true:=by cases nf<;>rfl
theorem yg(nf:Bool)(id n:Nat):(vaC nf id n).cells=[vaC nf id n]:=by cases nf<;>rfl
attribute [simp ↓] wn yg
variable (G:aA)
def StP(fns:List Fd)(k b:Nat)(l:List Sm)(w:WS)(x:ARes)(h:List AO):Prop:=∃nf' w',x= .ret (.p (smL (eS fns k b l w)))∧h=[wO 2 nf' fns k w',.dead,roC nf' w'.vs]∧(nf'=true→w'.vs=[])∧w'=mF fns k b l w
structure StS where (i:Nat) (nf:Bool)
theorem Aj{fns:List Fd}{k:Nat}(hf:fns.length≤1099511627776):∀(N:Nat) (l:List Sm),aG l<N→∀(b:Nat) (nf:Bool) (w:WS),(nf=true→w.vs=[])→w.vs.length≤w.count→w.count+aG l≤1099511627776→b+aG l≤1099511627776→
 AC Tryz.prog G aI [.ptr 0 5 0 0,.p (smL l),.p (.int .i64 b)] (HWk nf fns k w) (StP fns k b l w):=by
 intro N
 induction N with
 |zero=>
  intro l hl b nf w hn hv hc hb
  omega
 |succ N ih=>
  intro l hl b nf w hn hv hc hb
  have hll:=bm l
  refine AC.goK lL lE ?_
  have hsl:∀l,smL l= .lst 5 (l.map Sm.cs):=fun _=>rfl
  have hlen0:xa (vaC nf 1 w.vs.length)=some (.p (.int .i64 w.vs.length)):=by
   cases nf
   ·rfl
   ·simp[vaC,hn rfl]
  simp-implicitDefEqProofs[K_spec_l4Walk_stmts,F_spec_l4Walk_stmts,HWk,wO,wC,hlen0]
  refine au (fun s:StS=>af 96 [(0,.ptr 0 5 0 0),(1,.p (smL l)),(2,.p (.int .i64 b)),(7,.sl 2 5 0 s.i),(8,.p (.int .i64 w.vs.length)),(9,.p (.int .i64 s.i))])
   (fun s=>[wO 3 s.nf fns k (bY fns k b (l.take s.i) w),.dead,.row 5 (smR (eS fns k b (l.take s.i) w)),roC s.nf (bY fns k b (l.take s.i) w).vs])
   (fun s=>s.i≤l.length∧(s.nf=true→(bY fns k b (l.take s.i) w).vs=[])) (fun s=>l.length-s.i) ⟨0,nf⟩ ⟨by simp,hn⟩ ?_ ?_
  ·refine xY [0,1,2,1] (by simp) (by decide) ?_ (rD (by simp) rfl (fC (by simp) (bh rfl (by simp[smR,eS]) (iH rfl (ee _ _ _) bJ)))) (by simp[below,ren])
   cases nf<;>simp[gb,roC,wO,bY]
  ·rintro⟨i,nf⟩ ⟨hi,hn⟩
   simp only at hi hn
   simp-implicitDefEqProofs[hsl]
   refine aR (fun h=>?_) (fun h=>?_)
   ·simp at h
    have hg:=List.getElem?_eq_getElem h
    have hat:=CK h
    have hse:=l[i].cs_eq
    have hsz:=l[i].sz_eq
    have hle:=ye fns k (l:=l.take i) (b:=b) hv
    have hcn:=fh fns k (l.take i) b w
    have hlz:=sZ (l.take i)
    have eW:=yL (fns:=fns) (k:=k) (b:=b) (w:=w) h
    have eR:=yB (fns:=fns) (k:=k) (b:=b) (w:=w) h
    have hol:=ri fns k b (l.take i) w
    rw[List.length_take,Nat.min_eq_left hi] at hol
    generalize l[i]=s at hg hat hse hsz eW eR
    generalize bY fns k b (l.take i) w=wi at hn hle hcn eW eR⊢
    generalize eS fns k b (l.take i) w=out at hol eR⊢
    obtain⟨o,nme,a,bd,el⟩:=s
    simp only[Sm.op,Sm.name,Sm.args,Sm.body,Sm.els] at hse hsz
    simp-implicitDefEqProofs[hg,hse]
    have hxl:∀l,exL l= .lst 4 (l.map Ex.cs):=fun _=>rfl
    have hal:=bt a
    have hlE:=sZ bd
    have hwl:wi.vs.length≤1099511627776:=by omega
    have hopR:∀(x y z u v:AV),ag 0 [x,y,z,u,v]→okO 5 (AO.row 5 [[x,y,z,u,v]]):=fun x y z u v hh=>eD (fun e he=>by rw[List.mem_singleton.1 he];exact hh)
    refine au (fun j:Nat=>af 96 [(0,.ptr 0 5 0 0),(1,.p (smL l)),(2,.p (.int .i64 b)),(7,.sl 2 5 0 i),(8,.p (.int .i64 w.vs.length)),(9,.p (.int .i64 i)),(10,.ptr 4 5 0 0),(11,.sl 5 4 0 j),(12,.p (.int .i64 j))])
     (fun j=>[wO 3 nf fns k ⟨wi.vs,wi.count,cL fns k wi.vs (a.take j) wi.code⟩,.dead,.row 5 (smR out),roC nf wi.vs,.row 5 [[.p (.int .i64 o),.p (.str nme),.p (exL a),.p (smL bd),.p (smL el)]],.row 4 (exR (hJ wi.vs (a.take j)))])
     (fun j=>j≤a.length) (fun j=>a.length-j) 0 (by simp) ?_ ?_
    ·refine ab (h:=[wO 3 nf fns k wi,.dead,.row 5 (smR out),roC nf wi.vs,.row 5 [[.p (.int .i64 o),.p (.str nme),.p (exL a),.p (smL bd),.p (smL el)]],.row 4 []]) (by simp) (an (po (by simp)) (an trivial (an (eD (gL out)) (an (ee _ _ _) (by simp[okO,below]))))) (by simp[below,hsl])
    intro j hj
    have hrl:(exR (hJ wi.vs (a.take j))).length=j:=by rw[xu,ng];simp;omega
    simp-implicitDefEqProofs[hxl]
    refine aR (fun hc=>?_) (fun hc=>?_)
    ·simp at hc
     have hga:=List.getElem?_eq_getElem hc
     have hks:=aS (List.getElem_mem hc)
     have hkc:=(rnE wi.vs a[j]).cs_eq
     simp-implicitDefEqProofs[hga]
     refine(Ek G (id:=3) (Dv G hf (a[j].sz) a[j] (Nat.le_refl _) (by omega) nf ⟨wi.vs,wi.count,cL fns k wi.vs (a.take j) wi.code⟩ hn hwl) (by simp) (by simp[below]) (by decide) rfl rfl).mono ?_
     rintro r h' ⟨rfl,rfl⟩
     rw[show(rnE (WS.mk wi.vs wi.count (cL fns k wi.vs (a.take j) wi.code)).vs a[j])=rnE wi.vs a[j] from rfl]
     simp-implicitDefEqProofs[aa,hkc,hrl]
     refine⟨by omega,j+1,by omega,by omega,?_⟩
     have htk:List.take j (exR (hJ wi.vs (a.take j)))=exR (hJ wi.vs (a.take j)):=List.take_of_length_le (by omega)
     rw[rL hc,sP hc,xm,htk]
     refine kY [0,1,2,3,4,7] (by simp) (by decide) (by decide) (rD (by simp) rfl (fC (by simp) (bh rfl (gL out) (iH rfl (ee _ _ _) (bh rfl (by simp[below]) (bh ?_ ?_ bJ)))))) (by simp[below,ren,hsl,w1 (i:=j) (by omega)])
     ·have:exR [rnE wi.vs a[j]]=[[.p (.int .i64 (rnE wi.vs a[j]).op),.p (.int .i64 (rnE wi.vs a[j]).n),.p (.str (rnE wi.vs a[j]).name),.p (exL (rnE wi.vs a[j]).kids)]]:=by rw[exR,List.map_singleton,hkc];rfl
      rw[this];rfl
     ·intro x hx
      rcases List.mem_append.1 hx with h|h
      ·exact np _ x h
      ·exact np _ x h
    simp at hc
    have hje:j=a.length:=by omega
    subst hje
    rw[List.take_length] at hrl⊢
    have hal2:=ng wi.vs a
    simp-implicitDefEqProofs[]
    generalize hw1:WS.mk wi.vs wi.count (cL fns k wi.vs a wi.code)=w1
    have e1v:w1.vs=wi.vs:=by rw[←hw1]
    have e1c:w1.count=wi.count:=by rw[←hw1]
    have e1l:w1.vs.length=wi.vs.length:=by rw[e1v]
    rw[←e1v]
    refine gR (af 96 [(0,.ptr 0 5 0 0),(1,.p (smL l)),(2,.p (.int .i64 b)),(7,.sl 2 5 0 i),(8,.p (.int .i64 w.vs.length)),(9,.p (.int .i64 i)),(10,.ptr 4 5 0 0)])
     [wO 3 nf fns k w1,.dead,.row 5 (smR out),roC nf w1.vs,.row 5 [[.p (.int .i64 o),.p (.str nme),.p (exL (hJ w1.vs a)),.p (smL bd),.p (smL el)]]] ?_ ?_
    ·simp-implicitDefEqProofs[]
     refine fG 5 (by omega) (by simp) rfl (.same (po (by omega)) (.dead (.same (eD (gL out)) (.same (ee _ _ _) (.one (.keep (by simp[below]) (.keep (by simp[below]) (.one ?_ (.keep (by simp[below]) (.keep (by simp[below]) .nil))))) (.nil _)))))) ?_
     ·rw[←e1v] at hal2
      rw[←hal2]
      exact tZ rfl
     ·refine⟨.keep (by simp[below]) .nil,.keep (by simp[below]) .nil,.keep (by simp[below]) .nil,.keep (by simp[below]) .nil,.keep (by simp[below]) .nil,.keep (by simp[below]) .nil,.keep (by simp[below]) .nil,trivial⟩
    have TT:∀(r1:List (Nat × AV)),Aw.look r1 0= .ptr 0 5 0 0→Aw.look r1 1= .p (smL l)→Aw.look r1 2= .p (.int .i64 b)→Aw.look r1 7= .sl 2 5 0 i→Aw.look r1 8= .p (.int .i64 w.vs.length)→Aw.look r1 9= .p (.int .i64 i)→Aw.look r1 10= .ptr 4 5 0 0→∀ρ:List Nat,ρ.length=5→ρ.getD 0 0=0→ρ.getD 2 0=2→ρ.getD 4 0=4→
     TWA ρ r1 [(0,.ptr 0 5 0 0),(1,.p (smL l)),(2,.p (.int .i64 b)),(7,.sl 2 5 0 i),(8,.p (.int .i64 w.vs.length)),(9,.p (.int .i64 i)),(10,.ptr 4 5 0 0)]:=by
     intro r1 a0 a1 a2 a7 a8 a9 a10 ρ hr r0 r2 r4
     simp[below,ren,hr,a0,a1,a2,a7,a8,a9,a10]
     rw[List.getD_eq_getElem?_getD,List.getElem?_eq_getElem (by omega)] at r0 r2 r4
     exact⟨r0,r2,r4⟩
    have hn1:nf=true→w1.vs=[]:=fun h=>by rw[e1v];exact hn h
    have okB:∀(nf:Bool) (w:WS) (r:AO),okO 0 r→∀x∈[wO 3 nf fns k w,.dead,.row 5 (smR out),roC nf w.vs,r],okO 5 x:=fun nf w r hr=>
     an (po (by omega)) (an trivial (an (eD (gL out)) (an (ee _ _ _) (an (eD hr) gl))))
    refine gR (af 96 [(0,.ptr 0 5 0 0),(1,.p (smL l)),(2,.p (.int .i64 b)),(7,.sl 2 5 0 i),(8,.p (.int .i64 w.vs.length)),(9,.p (.int .i64 i)),(10,.ptr 4 5 0 0)])
     [wO 3 (if o=1 then false else nf) fns k (if o=1 then jf w1 nme b else w1),.dead,.row 5 (smR out),roC (if o=1 then false else nf) (if o=1 then jf w1 nme b else w1).vs,.row 5 [[.p (.int .i64 o),.p (.str (if o=1 then vnm w1.count else nme)),.p (exL (hJ w1.vs a)),.p (smL bd),.p (smL el)]]] ?_ ?_
    ·by_cases o1:o=1
     ·simp-implicitDefEqProofs[o1]
      refine(Ca G (id:=3) (Q:=fun nf' w'=>nf'=false∧w'=jf w1 nme b) ((By G nf fns k w1 hn1 (by omega) (by omega) nme b).mono (by rintro x h ⟨rfl,rfl⟩;exact⟨false,_,rfl,rfl,rfl,rfl⟩)) (by simp) (by simp[below]) (by decide) rfl rfl).mono ?_
      rintro r h' ⟨nf',w',rfl,rfl,rfl,rfl⟩
      simp-implicitDefEqProofs[aa]
      refine kY [0,1,2,5,4] (by simp) (by decide) (by decide) (rD (by simp) rfl (fC (by simp) (bh rfl (gL out) (iH rfl (ee _ _ _) (bh rfl (by simp[below]) bJ))))) (TT _ (by simp) (by simp) (by simp) (by simp) (by simp) (by simp) (by simp) _ rfl rfl rfl rfl)
     ·simp-implicitDefEqProofs[o1]
      refine ab (by simp) (okB nf w1 _ (by simp[okO,below])) (by simp[below])
    generalize hw2:(if o=1 then jf w1 nme b else w1)=w2
    generalize hnf2:(if o=1 then false else nf)=nf2
    generalize hnm2:(if o=1 then vnm w1.count else nme)=nm2
    have hn2:nf2=true→w2.vs=[]:=by
     intro h
     by_cases o1:o=1
     ·rw[if_pos o1] at hnf2;rw[←hnf2] at h;cases h
     ·rw[if_neg o1] at hnf2 hw2;rw[←hw2];exact hn1 (by rw[hnf2];exact h)
    have h2c:w2.count=w1.count+if o=1 then 1 else 0:=by rw[←hw2];split<;>rfl
    have h2v:w2.vs.length≤w2.count:=by
     rw[←hw2];split
     ·simp[jf];omega
     ·omega
    have h2b:w2.count≤wi.count+1:=by rw[h2c,e1c];split<;>omega
    refine gR (af 96 [(0,.ptr 0 5 0 0),(1,.p (smL l)),(2,.p (.int .i64 b)),(7,.sl 2 5 0 i),(8,.p (.int .i64 w.vs.length)),(9,.p (.int .i64 i)),(10,.ptr 4 5 0 0)])
     [wO 3 nf2 fns k (opW o nme b w1),.dead,.row 5 (smR out),roC nf2 (opW o nme b w1).vs,.row 5 [[.p (.int .i64 o),.p (.str (opN o nme w1)),.p (exL (hJ w1.vs a)),.p (smL bd),.p (smL el)]]] ?_ ?_
    ·by_cases o2:o=2
     ·have o1:¬o=1:=by omega
      rw[if_neg o1] at hw2 hnm2
      subst hw2;subst hnm2
      have eo:opW o nme b w1=⟨w1.vs,w1.count,pB w1.vs nme w1.code⟩:=by rw[opW,if_neg o1,if_pos o2]
      have en:opN o nme w1=qP w1.vs nme:=by rw[opN,if_neg o1,if_pos o2]
      rw[eo,en]
      simp-implicitDefEqProofs[o2]
      refine(Ek G (id:=3) (Bh G nf2 fns k w1 hn2 (by omega) nme) (by simp) (by simp[below]) (by decide) rfl rfl).mono ?_
      rintro r h' ⟨rfl,rfl⟩
      simp-implicitDefEqProofs[aa]
      refine ab (h:=[wO 3 nf2 fns k ⟨w1.vs,w1.count,pB w1.vs nme w1.code⟩,.dead,.row 5 (smR out),roC nf2 w1.vs,_]) (by simp) (okB nf2 ⟨w1.vs,w1.count,pB w1.vs nme w1.code⟩ _ (by simp[okO,below])) (by simp[below])
     ·have eo:opW o nme b w1=w2:=by rw[opW,if_neg o2,←hw2]
      have en:opN o nme w1=nm2:=by rw[opN,if_neg o2,←hnm2]
      rw[eo,en]
      simp-implicitDefEqProofs[o2]
      refine ab (by simp) (okB nf2 w2 _ (by simp[okO,below])) (by simp[below])
    have eov:(opW o nme b w1).vs=w2.vs:=by
     rw[opW,←hw2];split
     ·rfl
     ·split<;>rfl
    have eoc:(opW o nme b w1).count=w2.count:=by rw[nR,h2c]
    have hwb:IntKind.i64.wrap ((b:Int)+1)=((b+1:Nat):Int):=by rw[ah (by omega) (by omega)];omega
    have hstw:stW fns k b (.mk o nme a bd el) wi=mF fns k (b+1) el (mF fns k (b+1) bd (opW o nme b w1)):=by
     rw[stW]
     simp only[hw1,mF,Nat.succ_pos,if_true]
     rfl
    have hrns:(rnS fns k b (.mk o nme a bd el) wi).cs=[.int .i64 o,.str (opN o nme w1),exL (hJ w1.vs a),smL (eS fns k (b+1) bd (opW o nme b w1)),smL (eS fns k (b+1) el (mF fns k (b+1) bd (opW o nme b w1)))]:=by
     rw[rnS,Sm.cs_eq]
     simp only[hw1,mF,Nat.succ_pos,if_true,Sm.op,Sm.name,Sm.args,Sm.body,Sm.els,e1v]
     have:opN o nme wi=opN o nme w1:=by simp only[opN,e1v,e1c]
     rw[this]
    rw[hstw] at eW
    clear hstw
    generalize opW o nme b w1=w3 at eov eoc hrns eW⊢
    have hn3:nf2=true→w3.vs=[]:=fun h=>by rw[eov];exact hn2 h
    have h3v:w3.vs.length≤w3.count:=by rw[eov,eoc];exact h2v
    simp-implicitDefEqProofs[hwb]
    refine(Ca G (id:=3) (ih bd (by omega) (b+1) nf2 w3 hn3 h3v (by omega) (by omega)) (by simp) (by simp[below]) (by decide) rfl rfl).mono ?_
    rintro r h' ⟨nf4,w4,rfl,rfl,hn4,hw4⟩
    rw[←hw4] at hrns eW
    have h4c:w4.count=w3.count+lO bd:=by rw[hw4];exact wZ _ _ _ _ _
    have h4v:w4.vs.length≤w4.count:=by
     have:w4.vs=w3.vs:=by rw[hw4];simp[mF,WS.back]
     rw[this,h4c];omega
    simp-implicitDefEqProofs[aa,hwb]
    refine(Ca G (id:=5) (ih el (by omega) (b+1) nf4 w4 hn4 h4v (by omega) (by omega)) (by simp) (by simp[below]) (by decide) rfl rfl).mono ?_
    rintro r h' ⟨nf5,w5,rfl,rfl,hn5,hw5⟩
    rw[←hw5] at eW
    have hsl2:(smR out).length=i:=by rw[DC];exact hol
    simp-implicitDefEqProofs[aa,hsl2]
    refine⟨⟨by omega,by omega⟩,⟨i+1,nf5⟩,⟨by simp only;omega,fun h=>by simp only at h⊢;rw[eW];exact hn5 h⟩,by simp only;omega,?_⟩
    simp only
    rw[eW,eR,DE]
    have htk:List.take i (smR out)=smR out:=List.take_of_length_le (by omega)
    rw[htk]
    have hsm1:smR [rnS fns k b (.mk o nme a bd el) wi]=[[.p (.int .i64 o),.p (.str (opN o nme w1)),.p (exL (hJ w1.vs a)),.p (smL (eS fns k (b+1) bd w3)),.p (smL (eS fns k (b+1) el w4))]]:=by rw[smR,List.map_singleton,hrns];rfl
    rw[hsm1]
    refine kY [0,1,8,6] (by simp) (by decide) (by decide) (rD (by simp) rfl (fC (by simp) (bh rfl (fun x hx=>?_) (iH rfl (ee _ _ _) bJ)))) (by simp[below,ren,hsl,show IntKind.i64.wrap ((i:Int)+1)=((i:Int)+1) from ah (by omega) (by omega)])
    rcases List.mem_append.1 hx with h|h
    ·exact gL out x h
    ·rw[List.mem_singleton.1 h];simp
   ·simp at h
    have hie:i=l.length:=by omega
    subst hie
    rw[List.take_length] at hn⊢
    obtain⟨ext,hext⟩:=vj fns k l b w
    have hlen:=ri fns k b l w
    refine gR (af 96 [(7,.p (smL (eS fns k b l w)))]) [wO 2 nf fns k (mF fns k b l w),.dead,roC nf (mF fns k b l w).vs] ?_ ?_
    ·have fin:∀(r1:List (Nat × AV)) (w':WS),w'.vs=w.vs∨w'.vs=(bY fns k b l w).vs→(Aw.look r1 7= .sl 2 5 0 l.length)→
      Wk 2 (af 96 r1) [wO 3 nf fns k w',.dead,.row 5 (smR (eS fns k b l w)),roC nf (bY fns k b l w).vs] (af 96 [(7,.p (smL (eS fns k b l w)))]) [wO 2 nf fns k w',.dead,roC nf w'.vs]:=by
      intro r1 w' hv' hr
      refine Wk.trans (CD (h1:=[wO 3 nf fns k w',.dead,.row 5 (smR (eS fns k b l w)),roC nf w'.vs]) ?_) (Wk.trans (kY (l1:=[(7,.sl 3 5 0 l.length)]) (h1:=[wO 2 nf fns k w',.dead,roC nf w'.vs,.row 5 (smR (eS fns k b l w))]) [0,1,3,2] (by simp) (by decide) (by decide) (rD (by simp) rfl (fC (by simp) (iH rfl (ee _ _ _) (bh rfl (gL _) bJ)))) (by simp[below,ren,hr]))
       (fG 3 (by omega) (by simp) rfl (.same (po (by omega)) (.dead (.same (ee _ _ _) (.nil _)))) ?_))
      ·refine⟨.inl rfl,.inl rfl,.inl rfl,?_,trivial⟩
       rcases hv' with e|e
       ·cases nf with
        |true=>exact .inl rfl
        |false=>
         refine .inr ⟨3,lvR (bY fns k b l w).vs,w.vs.length,rfl,?_⟩
         rw[hext,Bp,e];rfl
       ·rw[e];exact .inl rfl
      ·rw[←hlen]
       exact⟨.one (zP rfl) .nil,trivial⟩
     by_cases hb0:0<b
     ·have hwe:mF fns k b l w=(bY fns k b l w).back w.vs:=if_pos hb0
      rw[hwe]
      have hll2:(bY fns k b l w).vs.length=ext.length+w.vs.length:=by rw[hext,List.length_append]
      cases nf with
      |true=>
       have h0:=hn rfl
       rw[h0] at hext
       have h00:w.vs=[]:=(List.append_eq_nil_iff.1 hext.symm).2
       simp-implicitDefEqProofs[hb0,wO,wC,vaC,h00]
       rw[h00] at fin
       exact fin _ ⟨[],(bY fns k b l w).count,(bY fns k b l w).code⟩ (.inl rfl) (by simp)
      |false=>
       have hle:w.vs.length≤(bY fns k b l w).vs.length:=by omega
       simp-implicitDefEqProofs[hb0,wO,wC,vaC,hle]
       exact fin _ ⟨w.vs,(bY fns k b l w).count,(bY fns k b l w).code⟩ (.inl rfl) (by simp)
     ·have hwe:mF fns k b l w=bY fns k b l w:=if_neg hb0
      have hb0':b=0:=by omega
      subst hb0'
      rw[hwe]
      simp-implicitDefEqProofs[]
      exact fin _ _ (.inr rfl) (by simp)
    ·simp-implicitDefEqProofs[]
     refine⟨nf,_,rfl,rfl,?_,rfl⟩
     intro hnf
     have h0:=hn hnf
     unfold mF
     split
     ·rw[h0] at hext;exact(List.append_eq_nil_iff.1 hext.symm).2
     ·exact h0
end Go.Proofs.YtiojgfhdcpppcaaGreatDoor
namespace Go.Proofs.YtiojgfhdcpppcaaGreatDoor
open Go Go.Aw
set_option maxRecDepth 100000
set_option maxHeartbeats 4000000
def K_spec_l4Fn:AK:= .seq (.reg [oJ 2 (.box 1 (.t 0)),oJ 4 (.alloc [(.p (.str [])),.nils,.nils]),oK 5 0,oK 6 0]) (.seq (.reg [oJ 11 (.ld (some 1) (.t 2)),oM 12 1,oJ 13 (.bld [.nils,(.p (.int .i64 0)),.nils,(.p (.int .i64 0)),(.p (.int .i64 0))] [(0,1,(.t 11)),(1,1,(.t 12))]),oJ 14 (.box 5 (.t 13)),oM 7 14]) (.cut (.reg [oF 15 0 2,oL 16 15,oM 17 1,oJ 18 (.idxS 3 (.t 16) (.t 17)),oJ 19 (.ld (some 3) (.t 18)),oJ 8 (.alloc [(.p (.str [])),.nils,.nils]),⟨none,none,.st 3 (.t 8) (.t 19)⟩]) (.cut (.seq (.reg [oJ 20 (.ld (some 1) (.t 2)),oF 21 0 8,oL 22 21,oJ 23 (.call eq [(.t 20),(.t 22)]),oM 24 1,oJ 25 (.bin .neq (.t 23) (.t 24))]) (.cond (.t 25) (.reg [oM 26 7,oJ 27 (.call aD [(.t 26),(.c (.p (.int .i64 2)))])]) (.skip))) (.seq (.reg [oJ 28 (.bsl 1 [(.p (.str []))] 0 []),oM 9 28]) (.seq (.seq (.reg [oK 10 0]) (.blk 0 (.loop (.seq (.seq (.reg [oM 29 10,oF 30 1 8,oL 31 30,oJ 32 (.len false (.t 31)),oJ 33 (.bin .lss (.t 29) (.t 32))]) (.cond (.t 33) (.skip) (.exit 0))) (.seq (.blk 1 (.reg [oM 36 9,oM 37 7,oF 38 1 8,oL 39 38,oM 40 10,oJ 41 (.idxS 1 (.t 39) (.t 40)),oL 42 41,oJ 43 (.call bA [(.t 37),(.t 42),(.c (.p (.int .i64 0)))]),oJ 44 (.bsl 1 [(.p (.str []))] 1 [(0,1,(.t 43))]),oJ 45 (.app 1 16 (.t 36) (.t 44)),oM 9 45])) (.reg [oM 34 10,oJ 35 (.bin .add (.t 34) (.c (.p (.int .i64 1)))),oM 10 35])))))) (.seq (.reg [oM 46 9,oF 47 1 8,oS 47 46]) (.seq (.reg [oM 48 7,oF 49 2 8,oL 50 49,oJ 51 (.call aI [(.t 48),(.t 50),(.c (.p (.int .i64 0)))]),oF 52 2 8,oS 52 51]) (.seq (.reg [oM 54 7,oN 55 54,oF 56 4 55,oM 58 7,oN 59 58,oF 60 3 59,oJ 53 (.ld (some 3) (.t 8)),oL 57 56,oL 61 60,⟨none,none,.st 3 (.t 4) (.t 53)⟩,⟨none,none,.chk none 56 57⟩,⟨none,none,.chk none 60 61⟩,oM 5 57,oM 6 61]) (.ret)))))))))
theorem vN:K_spec_l4Fn.whole=F_spec_l4Fn.ak:=rfl
theorem vD:∀(ps:List (List UInt8)) (w:WS),w.vs.length≤w.count→(bX ps w).vs.length≤(bX ps w).count
 |[],w,h=>h
 |s::r,w,h=>vD r (jf w s 0) (by simp[jf];omega)
theorem yF(a b:List (List UInt8))(w:WS):bX (a++b) w=bX b (bX a w):=by simp[bX]
theorem wB{l:List (List UInt8)}{w:WS}{i:Nat}(h:i<l.length):bX (l.take (i+1)) w=jf (bX (l.take i) w) l[i] 0:=by
 rw[aj h,yF];rfl
theorem vo:∀(a b:List (List UInt8)) (w:WS),lC (a++b) w=lC a w++lC b (bX a w)
 |[],b,w=>rfl
 |s::r,b,w=>by rw[List.cons_append,lC,lC,vo r];rfl
theorem yH{l:List (List UInt8)}{w:WS}{i:Nat}(h:i<l.length):lC (l.take (i+1)) w=lC (l.take i) w++[vnm (bX (l.take i) w).count]:=by
 rw[aj h,vo];rfl
theorem qQ:∀(l:List (List UInt8)) (w:WS),(lC l w).length=l.length
 |[],w=>rfl
 |s::r,w=>by rw[lC,List.length_cons,qQ r,List.length_cons]
def w0(fns:List Fd)(k:Nat)(f:Fd):WS:=⟨[],0,if cV fns f.name=some k then 0 else 2⟩
theorem EZ(fns:List Fd)(k:Nat)(f:Fd):fnW fns k f=bY fns k 0 f.body (bX f.params (w0 fns k f)):=rfl
theorem BR(fns:List Fd)(k:Nat)(f:Fd):(rnF fns k f).cs=[.str f.name,aB (lC f.params (w0 fns k f)),smL (eS fns k 0 f.body (bX f.params (w0 fns k f)))]:=rfl
variable (G:aA)
theorem Fo{fns:List Fd}{k:Nat}{f:Fd}(hk:fns[k]?=some f)(hz:cb fns≤1073741824):VF Tryz.prog G iD [.agg [.p (fdL fns)],.p (.int .i64 k)] (.tup [.agg ((rnF fns k f).cs.map .p),.p (.int .i64 (fnW fns k f).code),.p (.int .i64 (fnW fns k f).count)]):=by
 have hfl:=cu fns
 have hfm:=dN (List.mem_of_getElem? hk)
 have hfz:f.sz=1+f.name.length+(f.params.length+(f.params.map List.length).sum)+aG f.body:=rfl
 have hkl:=(List.getElem?_eq_some_iff.1 hk).1
 have key:AC Tryz.prog G iD [.agg [.p (fdL fns)],.p (.int .i64 k)] [] fun x h=>x= .ret (.tup [.agg [.p (.str f.name),.sl 5 1 0 f.params.length,.p (smL (eS fns k 0 f.body (bX f.params (w0 fns k f))))],.p (.int .i64 (fnW fns k f).code),.p (.int .i64 (fnW fns k f).count)])∧h[5]?=some (lA (lC f.params (w0 fns k f))):=by
  refine AC.goK uT vN ?_
  have hfd:∀l,fdL l= .lst 3 (l.map Fd.cs):=fun _=>rfl
  have hcs:f.cs=[.str f.name,aB f.params,smL f.body]:=rfl
  have hst:aB f.params= .lst 1 (f.params.map fun w=>[.str w]):=rfl
  simp-implicitDefEqProofs[K_spec_l4Fn,F_spec_l4Fn]
  refine gR (af 62 [(1,.p (.int .i64 k)),(2,.ptr 0 1 0 0),(4,.ptr 1 3 0 0),(7,.ptr 2 5 0 0),(8,.ptr 3 3 0 0)])
   [.row 1 [[.p (fdL fns)]],.row 3 [[.p (.str []),.nils,.nils]],wO 4 true fns k ⟨[],0,0⟩,.row 3 [[.p (.str f.name),.p (aB f.params),.p (smL f.body)]],.dead] ?_ ?_
  ·simp-implicitDefEqProofs[hfd,hk,hcs]
   refine uK (h:=[.row 1 [[.p (fdL fns)]],.row 3 [[.p (.str []),.nils,.nils]],wO 4 true fns k ⟨[],0,0⟩,.row 3 [[.p (.str f.name),.p (aB f.params),.p (smL f.body)]]]) (by simp) (by simp) ?_ (by simp[below])
   refine an (by simp[okO,below]) (an (by simp[okO,below]) (an ?_ (an (by simp[okO,below]) gl)))
   intro x hx
   rw[List.mem_singleton.1 hx];simp[wC,vaC,below]
  refine gR (af 62 [(1,.p (.int .i64 k)),(2,.ptr 0 1 0 0),(4,.ptr 1 3 0 0),(7,.ptr 2 5 0 0),(8,.ptr 3 3 0 0)])
   [.row 1 [[.p (fdL fns)]],.row 3 [[.p (.str []),.nils,.nils]],wO 4 true fns k (w0 fns k f),.row 3 [[.p (.str f.name),.p (aB f.params),.p (smL f.body)]],.dead] ?_ ?_
  ·simp-implicitDefEqProofs[]
   refine(Ae G fns f.name (by omega)).use ?_
   have hok:∀w:WS,∀o∈[AO.row 1 [[.p (fdL fns)]],.row 3 [[.p (.str []),.nils,.nils]],wO 4 true fns k w,.row 3 [[.p (.str f.name),.p (aB f.params),.p (smL f.body)]],.dead],okO 5 o:=fun w=>
    an (by simp[okO,below]) (an (by simp[okO,below]) (an (po (by simp)) (an (by simp[okO,below]) (an trivial gl))))
   by_cases he:cV fns f.name=some k
   ·have hw:w0 fns k f=⟨[],0,0⟩:=by rw[w0,if_pos he]
    rw[hw,he]
    simp-implicitDefEqProofs[ixI]
    exact ab (by simp) (hok _) (by simp[below])
   ·have hw:w0 fns k f=⟨[],0,2⟩:=by rw[w0,if_neg he]
    have hne:¬ixI (cV fns f.name)=(k:Int):=by
     intro h
     apply he
     cases e:cV fns f.name with
     |none=>rw[e] at h;simp only[ixI] at h;omega
     |some j=>rw[e] at h;simp only[ixI] at h;have:j=k:=by omega
              rw[this]
    rw[hw]
    simp-implicitDefEqProofs[hne]
    refine(Ek G (wid:=2) (id:=4) (lr G true fns k ⟨[],0,0⟩ 2) (by simp) (by simp[below]) (by decide) rfl rfl).mono ?_
    rintro r h' ⟨rfl,rfl⟩
    simp-implicitDefEqProofs[aa]
    exact ab (h:=[AO.row 1 [[.p (fdL fns)]],.row 3 [[.p (.str []),.nils,.nils]],wO 4 true fns k ⟨[],0,2⟩,.row 3 [[.p (.str f.name),.p (aB f.params),.p (smL f.body)]],.dead]) (by simp) (hok _) (by simp[below])
  rw[EZ]
  have hw0v:(w0 fns k f).vs=[]:=rfl
  have hw0c:(w0 fns k f).count=0:=rfl
  generalize w0 fns k f=w0 at hw0v hw0c⊢
  simp-implicitDefEqProofs[]
  have hcnt:∀j,j≤f.params.length→(bX (f.params.take j) w0).count=j:=fun j hj=>by rw[pr,hw0c];simp;omega
  have hvl:∀j,(bX (f.params.take j) w0).vs.length≤(bX (f.params.take j) w0).count:=fun j=>vD _ _ (by rw[hw0v];simp)
  refine au (fun j:Nat=>af 62 [(1,.p (.int .i64 k)),(2,.ptr 0 1 0 0),(4,.ptr 1 3 0 0),(7,.ptr 2 5 0 0),(8,.ptr 3 3 0 0),(9,.sl 5 1 0 j),(10,.p (.int .i64 j))])
   (fun j=>[.row 1 [[.p (fdL fns)]],.row 3 [[.p (.str []),.nils,.nils]],wO 6 (decide (j=0)) fns k (bX (f.params.take j) w0),.row 3 [[.p (.str f.name),.p (aB f.params),.p (smL f.body)]],.dead,lA (lC (f.params.take j) w0),roC (decide (j=0)) (bX (f.params.take j) w0).vs])
   (fun j=>j≤f.params.length) (fun j=>f.params.length-j) 0 (by simp) ?_ ?_
  ·refine uK (h:=[.row 1 [[.p (fdL fns)]],.row 3 [[.p (.str []),.nils,.nils]],wO 6 true fns k w0,.row 3 [[.p (.str f.name),.p (aB f.params),.p (smL f.body)]],.dead,.row 1 []]) (by simp) (by simp) ?_ (by simp[below])
   refine an (by simp[okO,below]) (an (by simp[okO,below]) (an ?_ (an (by simp[okO,below]) (an trivial (an (by simp[okO]) gl)))))
   intro x hx
   rw[List.mem_singleton.1 hx];simp[wC,vaC,below]
  intro j hj
  have hjc:=hcnt j hj
  have hjv:=hvl j
  have hol:=qQ (f.params.take j) w0
  rw[List.length_take,Nat.min_eq_left hj] at hol
  have hnf:decide (j=0)=true→(bX (f.params.take j) w0).vs=[]:=by
   intro h
   have h0:j=0:=by simpa using h
   rw[h0,List.take_zero]
   exact hw0v
  simp-implicitDefEqProofs[hst]
  refine aR (fun h=>?_) (fun h=>?_)
  ·simp at h
   have hg:=List.getElem?_eq_getElem h
   have eP:=wB (w:=w0) h
   have eR:=yH (w:=w0) h
   simp-implicitDefEqProofs[hg]
   refine(Ca G (wid:=2) (id:=6) (Q:=fun nf' w'=>nf'=false∧w'=jf (bX (f.params.take j) w0) f.params[j] 0) ((By G (decide (j=0)) fns k _ hnf (by omega) (by omega) f.params[j] 0).mono (by rintro x h ⟨rfl,rfl⟩;exact⟨false,_,rfl,rfl,rfl,rfl⟩)) (by simp) (by simp[below]) (by decide) rfl rfl).mono ?_
   rintro r h' ⟨nf',w',rfl,rfl,rfl,rfl⟩
   have hso:∀l,lA l= .row 1 (l.map fun n=>[.p (.str n)]):=fun _=>rfl
   simp-implicitDefEqProofs[aa,hso,hol]
   refine⟨by omega,j+1,by omega,by omega,?_⟩
   have htk:List.take j ((lC (f.params.take j) w0).map fun n=>[AV.p (.str n)])=(lC (f.params.take j) w0).map fun n=>[AV.p (.str n)]:=List.take_of_length_le (by rw[List.length_map];omega)
   have hd:decide (j+1=0)=false:=by simp
   rw[eP,eR,hd,List.map_append,←List.map_take,List.map_take,htk]
   refine bR [0,1,2,3,4,9,7] rfl (by decide) (bh rfl (by simp) (bh rfl (by simp[below]) (rD (by simp) rfl (bh rfl (by simp) (fC (by simp) (bh rfl (fun x hx=>?_) (iH rfl (ee _ _ _) bJ))))))) (by simp[below,ren,w1 (i:=j) (by omega)])
   rcases List.mem_append.1 hx with h|h
   ·exact sB _ x h
   ·exact sB _ x h
  ·simp at h
   have hje:j=f.params.length:=by omega
   subst hje
   rw[List.take_length] at hol hjc hjv hnf⊢
   generalize decide (f.params.length=0)=nf at hnf⊢
   simp-implicitDefEqProofs[]
   refine(Ca G (wid:=2) (id:=6) (Aj G (fns:=fns) (by omega) (aG f.body+1) f.body (by omega) 0 _ (bX f.params w0) hnf hjv (by omega) (by omega)) (by simp) (by simp[below]) (by decide) rfl rfl).mono ?_
   rintro r h' ⟨nf',w',rfl,rfl,hn',hw'⟩
   have hb:mF fns k 0 f.body (bX f.params w0)=bY fns k 0 f.body (bX f.params w0):=rfl
   rw[hb] at hw'
   rw[←hw']
   simp-implicitDefEqProofs[aa,wO,wC]
 refine key.freezeR (fun t v h ⟨e,_⟩=>by cases e) fun v h ⟨e1,e2⟩=>?_
 cases e1
 rw[BR]
 have hol:=qQ f.params (w0 fns k f)
 have hv:=sY e2
 rw[hol] at hv
 exact .tup (.agg (.keep (by simp) (.one hv (.keep (by simp) .nil))) (.keep (by simp) (.keep (by simp) .nil))) .nil
theorem uC{fns:List Fd}{i:Nat}(h:i<fns.length):fv fns i (fns.drop i)=if(fnW fns i fns[i]).code=0 then fv fns (i+1) (fns.drop (i+1)) else(fnW fns i fns[i]).code:=by
 rw[List.drop_eq_getElem_cons h,fv]
theorem qY(l:List Fd)(hz:cb l≤1073741824):VF Tryz.prog G dC [.agg [.p (fdL l)]] (.p (.int .i64 (cG l))):=by
 refine AC.go lH ?_
 have hll:=cu l
 have hfd:∀l,fdL l= .lst 3 (l.map Fd.cs):=fun _=>rfl
 simp-implicitDefEqProofs[gf]
 refine(rx G l (by omega)).use ?_
 by_cases hv:bU l=true
 case neg=>
  have:cG l=1:=if_neg hv
  have hv':bU l=false:=by simpa using hv
  simp-implicitDefEqProofs[hv',this]
 have hc:cG l=fv l 0 (l.drop 0):=if_pos hv
 rw[hc]
 simp-implicitDefEqProofs[hv]
 refine au (fun i:Nat=>af 27 [(1,.ptr 0 1 0 0),(3,.p (.int .i64 i))]) (fun _=>[.row 1 [[.p (fdL l)]]]) (fun i=>i≤l.length∧fv l 0 l=fv l i (l.drop i)) (fun i=>l.length-i) 0 (by simp) (ab (by simp) (by simp[okO]) (by simp[below])) ?_
 rintro i ⟨hi,he⟩
 simp-implicitDefEqProofs[hfd]
 refine aR (fun h=>?_) (fun h=>?_)
 ·simp at h
  have hg:=List.getElem?_eq_getElem h
  have hd:=uC h
  simp-implicitDefEqProofs[]
  refine(Fo G hg hz).use ?_
  have hrc:=BR l i l[i]
  by_cases h0:(fnW l i l[i]).code=0
  ·rw[if_pos h0] at hd
   simp-implicitDefEqProofs[h0,hrc]
   refine⟨i+1,⟨by omega,by rw[he,hd]⟩,by omega,?_⟩
   refine ir (m:=1) (by omega) (dP rfl rfl (by simp[okO,below])) (by simp[below,hfd,w1 (i:=i) (by omega)])
  ·rw[if_neg h0] at hd
   simp-implicitDefEqProofs[h0,hrc]
   rw[he,hd]
 ·simp at h
  have hie:i=l.length:=by omega
  subst hie
  rw[List.drop_length] at he
  simp-implicitDefEqProofs[]
  rw[he];rfl
end Go.Proofs.YtiojgfhdcpppcaaGreatDoor
namespace Go.Proofs.YtiojgfhdcpppcaaGreatDoor
open Go Go.Aw
set_option maxRecDepth 100000
set_option maxHeartbeats 4000000
variable (G:aA)
theorem BK(l:List Fd)(hz:cb l≤1073741824):VF Tryz.prog G iK [.agg [.p (fdL l)]] (.p (.bool (decide (cG l=0)))):=by
 refine AC.go rV ?_
 simp-implicitDefEqProofs[ml]
 refine(qY G l hz).use ?_
 simp-implicitDefEqProofs[]
variable (hK:G gX=some fY) (hS:G dM=some [.tbl opK opV])
include hK hS
theorem EU(l:List Fd)(hz:cb l≤1073741824):VF Tryz.prog G kx [.agg [.p (fdL l)]] (.p (.bool (decide (cG l=0)))):=by
 refine AC.go ui ?_
 simp-implicitDefEqProofs[pn]
 refine(qi G hK hS l hz).use ?_
 simp-implicitDefEqProofs[]
end Go.Proofs.YtiojgfhdcpppcaaGreatDoor
namespace Go.Proofs.YtiojgfhdcpppcaaGreatDoor
open Go Go.Aw
set_option maxRecDepth 100000
theorem bC{s:Bool}{h:List AO}{vs:List AV}{q:PV}{I:List Nat}(H:OwnL s h vs [q] I):∃v,vs=[v]:=by
 have:=H.len
 match vs,this with
 |[v],_=>exact⟨v,rfl⟩
theorem DO{s:Bool}{h:List AO}{vs:List AV}{q r:PV}{I:List Nat}(H:OwnL s h vs [q,r] I):∃a b,vs=[a,b]:=by
 have:=H.len
 match vs,this with
 |[a,b],_=>exact⟨a,b,rfl⟩
theorem zf{s:Bool}{h:List AO}{vs:List AV}{q r t:PV}{I:List Nat}(H:OwnL s h vs [q,r,t] I):∃a b c,vs=[a,b,c]:=by
 have:=H.len
 match vs,this with
 |[a,b,c],_=>exact⟨a,b,c,rfl⟩
theorem zW{s:Bool}{h:List AO}{vs:List AV}{e:Ex}{I:List Nat}(H:OwnL s h vs e.cs I):∃K,vs=[.p (.int .i64 e.op),.p (.int .i64 e.n),.p (.str e.name),K]∧OwnL s h [K] [exL e.kids] I:=by
 rw[e.cs_eq] at H
 cases H with
 |p _ _ H=>
  cases H with
  |p _ _ H=>
   cases H with
   |p _ _ H=>
    obtain⟨v,rfl⟩:=bC H
    exact⟨v,rfl,H⟩
theorem EN{s:Bool}{h:List AO}{o n:Int}{w:List UInt8}{k:List Ex}{K:AV}{I:List Nat}(H:OwnL s h [K] [exL k] I):OwnL s h [.p (.int .i64 o),.p (.int .i64 n),.p (.str w),K] (Ex.mk o n w k).cs I:=by
 rw[Ex.cs_eq]
 exact .p _ (fun _=>rfl) (.p _ (fun _=>rfl) (.p _ (fun _=>rfl) H))
theorem Aa{s:Bool}{h:List AO}{vs:List AV}{e:Sm}{I:List Nat}(H:OwnL s h vs e.cs I):∃A B E I1 I2 I3,vs=[.p (.int .i64 e.op),.p (.str e.name),A,B,E]∧I=I1++(I2++I3)∧OwnL s h [A] [exL e.args] I1∧OwnL s h [B] [smL e.body] I2∧OwnL s h [E] [smL e.els] I3:=by
 rw[e.cs_eq] at H
 cases H with
 |p _ _ H=>
  cases H with
  |p _ _ H=>
   obtain⟨A,B,E,rfl⟩:=zf H
   obtain⟨I1,I',rfl,h1,H⟩:=H.one
   obtain⟨I2,I3,rfl,h2,h3⟩:=H.one
   exact⟨A,B,E,I1,I2,I3,rfl,rfl,h1,h2,h3⟩
theorem EL{s:Bool}{h:List AO}{o:Int}{w:List UInt8}{a:List Ex}{b e:List Sm}{A B E:AV}{I1 I2 I3:List Nat}(h1:OwnL s h [A] [exL a] I1)(h2:OwnL s h [B] [smL b] I2)(h3:OwnL s h [E] [smL e] I3):
 OwnL s h [.p (.int .i64 o),.p (.str w),A,B,E] (Sm.mk o w a b e).cs (I1++(I2++I3)):=by
 rw[Sm.cs_eq]
 exact .p _ (fun _=>rfl) (.p _ (fun _=>rfl) (h1.app (h2.app h3)))
theorem AT{s:Bool}{h:List AO}{vs:List AV}{f:Fd}{I:List Nat}(H:OwnL s h vs f.cs I):∃A B I1 I2,vs=[.p (.str f.name),A,B]∧I=I1++I2∧OwnL s h [A] [aB f.params] I1∧OwnL s h [B] [smL f.body] I2:=by
 rw[show f.cs=[.str f.name,aB f.params,smL f.body] from rfl] at H
 cases H with
 |p _ _ H=>
  obtain⟨A,B,rfl⟩:=DO H
  obtain⟨I1,I2,rfl,h1,H⟩:=H.one
  exact⟨A,B,I1,I2,rfl,rfl,h1,H⟩
theorem EW{s:Bool}{h:List AO}{w:List UInt8}{ps:List (List UInt8)}{b:List Sm}{A B:AV}{I1 I2:List Nat}(h1:OwnL s h [A] [aB ps] I1)(h2:OwnL s h [B] [smL b] I2):OwnL s h [.p (.str w),A,B] (Fd.mk w ps b).cs (I1++I2):=
 .p _ (fun _=>rfl) (h1.app h2)
end Go.Proofs.YtiojgfhdcpppcaaGreatDoor
namespace Go.Proofs.YtiojgfhdcpppcaaGreatDoor
open Go Go.Aw
set_option maxRecDepth 100000
set_option maxHeartbeats 4000000
theorem Is{r:List AV}(h:r.length=4):∃a b c d,r=[a,b,c,d]:=by
 match r,h with
 |[a,b,c,d],_=>exact⟨a,b,c,d,rfl⟩
theorem HV{r:List AV}(h:r.length=5):∃a b c d e,r=[a,b,c,d,e]:=by
 match r,h with
 |[a,b,c,d,e],_=>exact⟨a,b,c,d,e,rfl⟩
theorem IF{r:List AV}(h:r.length=3):∃a b c,r=[a,b,c]:=by
 match r,h with
 |[a,b,c],_=>exact⟨a,b,c,rfl⟩
def zEx:List PV:=[.int .i64 0,.int .i64 0,.str [],.lst 4 []]
def zSm:List PV:=[.int .i64 0,.str [],.lst 4 [],.lst 5 [],.lst 5 []]
def zFd:List PV:=[.str [],.lst 1 [],.lst 5 []]
theorem im(q:PV):(AV.p q).cells=[.p q]:=rfl
theorem bi:AV.nils.cells=[.nils]:=rfl
theorem bZ(c:List AV):(AV.agg c).cells=c:=rfl
theorem il(q:PV):(AV.p q).isCell=true:=rfl
theorem bj:AV.nils.isCell=true:=rfl
theorem dh{s:Bool}{h:List AO}{v:AV}{q:PV}{I:List Nat}(H:OwnL s h [v] [q] I):v.cells=[v]∧v.isCell=true:=by
 cases H with
 |p _ _ _=>exact⟨rfl,rfl⟩
 |nils _ _=>exact⟨rfl,rfl⟩
 |sl id sz n rows es _ _ _ _ _ _ _=>exact⟨rfl,rfl⟩
theorem fr3{s:Bool}{a b c a' b' c':AO}{os r:List AO}{vs:List AV}{qs:List PV}{I:List Nat}(H:OwnL s (a::b::c::os) vs qs I)(hI:∀i∈I,3≤i):OwnL s (a'::b'::c'::(os++r)) vs qs I:=by
 have h1:OwnL s (a'::b'::c'::os) vs qs I:=H.frame fun i hi=>by
  have:=hI i hi
  obtain⟨k,rfl⟩:∃k,i=k+3:=⟨i-3,by omega⟩
  rfl
 exact h1.more r
theorem wx{I J:List Nat}(k:Nat)(n1:I.Nodup)(n2:J.Nodup)(h1:∀i∈I,i<k)(h2:∀j∈J,k≤j):(I++J).Nodup:=
 List.nodup_append.2 ⟨n1,n2,fun a ha b hb e=>by have:=h1 a ha;have:=h2 b hb;omega⟩
variable (G:aA)
theorem sF(l:List Ex)(hb:l.length≤1048576)(H:∀e∈l,AC Tryz.prog G cR [.agg (e.cs.map .p)] [] (MkW .agg true e.cs)):AC Tryz.prog G bz [.p (exL l)] [] (MkW one true [exL l]):=by
 have hsl:∀l,exL l= .lst 4 (l.map Ex.cs):=fun _=>rfl
 refine AC.go kD ?_
 simp-implicitDefEqProofs[gQ,hsl]
 refine⟨by omega,?_⟩
 refine au (fun a:FilS=>af 23 [(0,.p (exL l)),(3,.sl 0 4 0 l.length),(4,.p (.int .i64 a.i))]) (fun a=>a.h) (FilI true 0 4 (l.map Ex.cs) zEx) (fun a=>l.length-a.i) ⟨0,[.row 4 (List.replicate l.length [.p (.int .i64 0),.p (.int .i64 0),.p (.str []),.nils])]⟩
  (FilI.init rfl (by simp) (.p _ (fun _=>rfl) (.p _ (fun _=>rfl) (.p _ (fun _=>rfl) (.nils 4 .nil)))) rfl) ?_ ?_
 ·exact aP (by simp) (by simp[below,hsl])
 ·rintro⟨i,hh⟩ hI
  simp-implicitDefEqProofs[hsl]
  refine aR (fun h1=>?_) (fun h1=>?_)
  ·simp at h1
   have hg:=List.getElem?_eq_getElem h1
   have hH:=H l[i] (List.getElem_mem h1)
   have hcs:=l[i].cs_eq
   have hD':(l.map Ex.cs)[i]?=some l[i].cs:=by rw[List.getElem?_map,hg];rfl
   generalize l[i]=e at hg hH hcs hD'
   have hA:=AC.mkLift pZ hH (h:=hh) (by rw[hcs];simp)
   rw[hcs] at hA
   simp-implicitDefEqProofs[hg,hcs]
   refine hA.mono ?_
   rintro r h2 ⟨vs,I2,os,rfl,e2,ho,nd,hf⟩
   rw[←hcs] at ho
   obtain⟨rows,r0,k1,k2,k3,k4,k5,k6⟩:=hI.step hD' e2 ho nd hf e.cs_len
   obtain⟨K,rfl,hK⟩:=zW ho
   obtain⟨c1,c2⟩:=dh hK
   obtain⟨z1,z2,z3,z4,rfl⟩:=Is k3
   have hll:0<h2.length:=(List.getElem?_eq_some_iff.1 k1).1
   simp-implicitDefEqProofs[-AV.cells,-AV.isCell,im,bi,bZ,il,bj,c1,c2,aa,k1,k2,h1,dc]
   refine⟨_,k6,by simp;omega,aP (by simp) ?_⟩
   simp[below,hsl,w1 (i:=i) (by omega)]
   omega
  ·simp at h1
   obtain⟨rows,J,hr⟩:=hI.done (by simpa using h1)
   simp-implicitDefEqProofs[]
   exact⟨_,_,rfl,hr.tree (by simp),hr.nd⟩
theorem zX:∀(N:Nat) (e:Ex),e.sz≤N→e.sz≤1048576→AC Tryz.prog G cR [.agg (e.cs.map .p)] [] (MkW .agg true e.cs):=by
 intro N
 induction N with
 |zero=>intro e he;have:=e.sz_pos;omega
 |succ N ih=>
  intro e he hb
  have hec:=e.cs_eq
  have hsz:=e.sz_eq
  have hkl:=bt e.kids
  have hS:=sF G e.kids (by omega) (fun x hx=>ih x (by have:=aS hx;omega) (by have:=aS hx;omega))
  refine AC.go lX ?_
  simp-implicitDefEqProofs[iL,hec]
  refine(AC.mkLift fA hS (by simp)).mono ?_
  rintro r h2 ⟨vs,I2,os,rfl,e2,ho,nd,hf⟩
  obtain⟨K,rfl⟩:=bC ho
  obtain⟨c1,c2⟩:=dh ho
  simp at hf
  subst e2
  simp-implicitDefEqProofs[-AV.cells,-AV.isCell,im,bi,bZ,il,bj,c1,c2,aa,one]
  refine⟨_,I2,rfl,?_,nd⟩
  have:=EN (o:=e.op) (n:=e.n) (w:=e.name) (k:=e.kids) (fr3 (r:=[]) (a':= .row 4 [[.p (.int .i64 e.op),.p (.int .i64 e.n),.p (.str e.name),.p (exL e.kids)]]) (b':= .row 4 [[.p (.int .i64 e.op),.p (.int .i64 e.n),.p (.str e.name),K]]) (c':= .row 4 [[.p (.int .i64 e.op),.p (.int .i64 e.n),.p (.str e.name),K]]) ho hf)
  rw[List.append_nil,Ex.cs_eq] at this
  exact this
theorem yU(l:List Ex)(hb:cz l≤1048576):AC Tryz.prog G bz [.p (exL l)] [] (MkW one true [exL l]):=
 sF G l (by have:=bt l;omega) (fun e he=>zX G e.sz e (Nat.le_refl _) (by have:=aS he;omega))
theorem oo(l:List Sm)(hb:l.length≤1048576)(H:∀e∈l,AC Tryz.prog G cP [.agg (e.cs.map .p)] [] (MkW .agg true e.cs)):AC Tryz.prog G aZ [.p (smL l)] [] (MkW one true [smL l]):=by
 have hsl:∀l,smL l= .lst 5 (l.map Sm.cs):=fun _=>rfl
 refine AC.go jZ ?_
 simp-implicitDefEqProofs[gY,hsl]
 refine⟨by omega,?_⟩
 refine au (fun a:FilS=>af 23 [(0,.p (smL l)),(3,.sl 0 5 0 l.length),(4,.p (.int .i64 a.i))]) (fun a=>a.h) (FilI true 0 5 (l.map Sm.cs) zSm) (fun a=>l.length-a.i) ⟨0,[.row 5 (List.replicate l.length [.p (.int .i64 0),.p (.str []),.nils,.nils,.nils])]⟩
  (FilI.init rfl (by simp) (.p _ (fun _=>rfl) (.p _ (fun _=>rfl) (.nils 4 (.nils 5 (.nils 5 .nil))))) rfl) ?_ ?_
 ·exact aP (by simp) (by simp[below,hsl])
 ·rintro⟨i,hh⟩ hI
  simp-implicitDefEqProofs[hsl]
  refine aR (fun h1=>?_) (fun h1=>?_)
  ·simp at h1
   have hg:=List.getElem?_eq_getElem h1
   have hH:=H l[i] (List.getElem_mem h1)
   have hcs:=l[i].cs_eq
   have hD':(l.map Sm.cs)[i]?=some l[i].cs:=by rw[List.getElem?_map,hg];rfl
   generalize l[i]=e at hg hH hcs hD'
   have hA:=AC.mkLift pZ hH (h:=hh) (by rw[hcs];simp)
   rw[hcs] at hA
   simp-implicitDefEqProofs[hg,hcs]
   refine hA.mono ?_
   rintro r h2 ⟨vs,I2,os,rfl,e2,ho,nd,hf⟩
   rw[←hcs] at ho
   obtain⟨rows,r0,k1,k2,k3,k4,k5,k6⟩:=hI.step hD' e2 ho nd hf e.cs_len
   obtain⟨A,B,E,I3,I4,I5,rfl,_,hA1,hA2,hA3⟩:=Aa ho
   obtain⟨c1,c2⟩:=dh hA1
   obtain⟨c3,c4⟩:=dh hA2
   obtain⟨c5,c6⟩:=dh hA3
   obtain⟨z1,z2,z3,z4,z5,rfl⟩:=HV k3
   have hll:0<h2.length:=(List.getElem?_eq_some_iff.1 k1).1
   simp-implicitDefEqProofs[-AV.cells,-AV.isCell,im,bi,bZ,il,bj,c1,c2,c3,c4,c5,c6,aa,k1,k2,h1,dc]
   refine⟨_,k6,by simp;omega,aP (by simp) ?_⟩
   simp[below,hsl,w1 (i:=i) (by omega)]
   omega
  ·simp at h1
   obtain⟨rows,J,hr⟩:=hI.done (by simpa using h1)
   simp-implicitDefEqProofs[]
   exact⟨_,_,rfl,hr.tree (by simp),hr.nd⟩
theorem Aq:∀(N:Nat) (e:Sm),e.sz≤N→e.sz≤1048576→AC Tryz.prog G cP [.agg (e.cs.map .p)] [] (MkW .agg true e.cs):=by
 intro N
 induction N with
 |zero=>intro e he;have:=e.sz_pos;omega
 |succ N ih=>
  intro e he hb
  have hec:=e.cs_eq
  have hsz:=e.sz_eq
  have hA:=yU G e.args (by omega)
  have hB:=oo G e.body (by have:=bm e.body;omega) (fun x hx=>ih x (by have:=aK hx;omega) (by have:=aK hx;omega))
  have hE:=oo G e.els (by have:=bm e.els;omega) (fun x hx=>ih x (by have:=aK hx;omega) (by have:=aK hx;omega))
  refine AC.go lS ?_
  simp-implicitDefEqProofs[iM,hec]
  refine(AC.mkLift fA hA (by simp)).mono ?_
  rintro r h2 ⟨vs,I1,os1,rfl,e2,o1,n1,f1⟩
  obtain⟨A,rfl⟩:=bC o1
  obtain⟨c1,c2⟩:=dh o1
  have l1:=fun i (hi:i∈I1)=>o1.lt hi
  simp at f1
  subst e2
  simp at l1
  simp-implicitDefEqProofs[-AV.cells,-AV.isCell,im,bi,bZ,il,bj,c1,c2,aa,one]
  refine(AC.mkLift fA hB (by simp)).mono ?_
  rintro r h2 ⟨vs,I2,os2,rfl,e2,o2,n2,f2⟩
  obtain⟨B,rfl⟩:=bC o2
  obtain⟨c3,c4⟩:=dh o2
  have l2:=fun i (hi:i∈I2)=>o2.lt hi
  simp at f2
  subst e2
  simp at l2
  simp-implicitDefEqProofs[-AV.cells,-AV.isCell,im,bi,bZ,il,bj,c1,c2,c3,c4,aa,one]
  refine(AC.mkLift fA hE (by simp)).mono ?_
  rintro r h2 ⟨vs,I3,os3,rfl,e2,o3,n3,f3⟩
  obtain⟨E,rfl⟩:=bC o3
  obtain⟨c5,c6⟩:=dh o3
  simp at f3
  subst e2
  simp-implicitDefEqProofs[-AV.cells,-AV.isCell,im,bi,bZ,il,bj,c1,c2,c3,c4,c5,c6,aa,one]
  simp only[List.cons_append,List.nil_append,List.append_assoc] at o1 o2 o3
  refine⟨_,I1++(I2++I3),rfl,?_,wx (os1.length+3) n1 (wx (os1.length+os2.length+3) n2 n3 (fun i hi=>by have:=l2 i hi;omega) (fun i hi=>by have:=f3 i hi;omega)) (fun i hi=>by have:=l1 i hi;omega) (fun i hi=>by
   rcases List.mem_append.1 hi with h|h
   ·have:=f2 i h;omega
   ·have:=f3 i h;omega)⟩
  have hd:=EL (o:=e.op) (w:=e.name) (a:=e.args) (b:=e.body) (e:=e.els) (A:=A) (B:=B) (E:=E) (I1:=I1) (I2:=I2) (I3:=I3)
   (fr3 (r:=os2++os3) (a':= .row 5 [[.p (.int .i64 e.op),.p (.str e.name),.p (exL e.args),.p (smL e.body),.p (smL e.els)]]) (b':= .row 5 [[.p (.int .i64 e.op),.p (.str e.name),A,B,E]]) (c':= .row 5 [[.p (.int .i64 e.op),.p (.str e.name),A,B,E]]) o1 f1)
   (by
     have:=fr3 (r:=os3) (a':= .row 5 [[.p (.int .i64 e.op),.p (.str e.name),.p (exL e.args),.p (smL e.body),.p (smL e.els)]]) (b':= .row 5 [[.p (.int .i64 e.op),.p (.str e.name),A,B,E]]) (c':= .row 5 [[.p (.int .i64 e.op),.p (.str e.name),A,B,E]]) o2 (fun i hi=>by have:=f2 i hi;omega)
     rwa[List.append_assoc] at this)
   (by
     have:=fr3 (r:=[]) (a':= .row 5 [[.p (.int .i64 e.op),.p (.str e.name),.p (exL e.args),.p (smL e.body),.p (smL e.els)]]) (b':= .row 5 [[.p (.int .i64 e.op),.p (.str e.name),A,B,E]]) (c':= .row 5 [[.p (.int .i64 e.op),.p (.str e.name),A,B,E]]) o3 (fun i hi=>by have:=f3 i hi;omega)
     rwa[List.append_nil] at this)
  rw[Sm.cs_eq] at hd
  exact hd
theorem yP(l:List Sm)(hb:aG l≤1048576):AC Tryz.prog G aZ [.p (smL l)] [] (MkW one true [smL l]):=
 oo G l (by have:=bm l;omega) (fun e he=>Aq G e.sz e (Nat.le_refl _) (by have:=aK he;omega))
theorem sN{h:List AO}{id:Nat}{l:List (List UInt8)}(e:h[id]?=some (lA l)){n:Nat}(hn:n=l.length):OwnL true h [.sl id 1 0 n] [aB l] [id]:=by
 have hf:∀l:List (List UInt8),OwnL true h (l.map fun w=>[AV.p (.str w)]).flatten (l.map fun w=>[PV.str w]).flatten []:=by
  intro l
  induction l with
  |nil=>exact .nil
  |cons w r ih=>exact .p _ (fun _=>rfl) ih
 exact .sl id 1 n _ _ (by rw[e];rfl) (by simp[hn]) (by simp) (by simp) (by simp) (hf l) .nil
theorem Df(l:List Fd)(hb:l.length≤1048576)(H:∀e∈l,AC Tryz.prog G er [.agg (e.cs.map .p)] [] (MkW .agg true e.cs)):AC Tryz.prog G eJ [.p (fdL l)] [] (MkW one true [fdL l]):=by
 have hsl:∀l,fdL l= .lst 3 (l.map Fd.cs):=fun _=>rfl
 refine AC.go mT ?_
 simp-implicitDefEqProofs[jA,hsl]
 refine⟨by omega,?_⟩
 refine au (fun a:FilS=>af 23 [(0,.p (fdL l)),(3,.sl 0 3 0 l.length),(4,.p (.int .i64 a.i))]) (fun a=>a.h) (FilI true 0 3 (l.map Fd.cs) zFd) (fun a=>l.length-a.i) ⟨0,[.row 3 (List.replicate l.length [.p (.str []),.nils,.nils])]⟩
  (FilI.init rfl (by simp) (.p _ (fun _=>rfl) (.nils 1 (.nils 5 .nil))) rfl) ?_ ?_
 ·exact aP (by simp) (by simp[below,hsl])
 ·rintro⟨i,hh⟩ hI
  simp-implicitDefEqProofs[hsl]
  refine aR (fun h1=>?_) (fun h1=>?_)
  ·simp at h1
   have hg:=List.getElem?_eq_getElem h1
   have hH:=H l[i] (List.getElem_mem h1)
   have hcs:=l[i].cs_eq'
   have hD':(l.map Fd.cs)[i]?=some l[i].cs:=by rw[List.getElem?_map,hg];rfl
   generalize l[i]=e at hg hH hcs hD'
   have hA:=AC.mkLift pZ hH (h:=hh) (by rw[hcs];simp)
   rw[hcs] at hA
   simp-implicitDefEqProofs[hg,hcs]
   refine hA.mono ?_
   rintro r h2 ⟨vs,I2,os,rfl,e2,ho,nd,hf⟩
   rw[←hcs] at ho
   obtain⟨rows,r0,k1,k2,k3,k4,k5,k6⟩:=hI.step hD' e2 ho nd hf e.cs_len
   obtain⟨A,B,I3,I4,rfl,_,hA1,hA2⟩:=AT ho
   obtain⟨c1,c2⟩:=dh hA1
   obtain⟨c3,c4⟩:=dh hA2
   obtain⟨z1,z2,z3,rfl⟩:=IF k3
   have hll:0<h2.length:=(List.getElem?_eq_some_iff.1 k1).1
   simp-implicitDefEqProofs[-AV.cells,-AV.isCell,im,bi,bZ,il,bj,c1,c2,c3,c4,aa,k1,k2,h1,dc]
   refine⟨_,k6,by simp;omega,aP (by simp) ?_⟩
   simp[below,hsl,w1 (i:=i) (by omega)]
   omega
  ·simp at h1
   obtain⟨rows,J,hr⟩:=hI.done (by simpa using h1)
   simp-implicitDefEqProofs[]
   exact⟨_,_,rfl,hr.tree (by simp),hr.nd⟩
theorem EJ(e:Fd)(hb:e.sz≤1048576):AC Tryz.prog G er [.agg (e.cs.map .p)] [] (MkW .agg true e.cs):=by
 have hec:=e.cs_eq'
 have hsz:e.sz=1+e.name.length+(e.params.length+(e.params.map List.length).sum)+aG e.body:=rfl
 have hA:AC Tryz.prog G cw [.p (aB e.params)] [] (MkW one true [aB e.params]):=(pm G e.params (by omega)).mono fun x h ⟨h1,h2⟩=>⟨[.sl 0 1 0 e.params.length],[0],by rw[h1];rfl,sN (by rw[h2];rfl) rfl,by simp⟩
 have hB:=yP G e.body (by omega)
 refine AC.go oV ?_
 simp-implicitDefEqProofs[kL,hec]
 refine(AC.mkLift fA hA (by simp)).mono ?_
 rintro r h2 ⟨vs,I1,os1,rfl,e2,o1,n1,f1⟩
 obtain⟨A,rfl⟩:=bC o1
 obtain⟨c1,c2⟩:=dh o1
 have l1:=fun i (hi:i∈I1)=>o1.lt hi
 simp at f1
 subst e2
 simp at l1
 simp-implicitDefEqProofs[-AV.cells,-AV.isCell,im,bi,bZ,il,bj,c1,c2,aa,one]
 refine(AC.mkLift fA hB (by simp)).mono ?_
 rintro r h2 ⟨vs,I2,os2,rfl,e2,o2,n2,f2⟩
 obtain⟨B,rfl⟩:=bC o2
 obtain⟨c3,c4⟩:=dh o2
 simp at f2
 subst e2
 simp-implicitDefEqProofs[-AV.cells,-AV.isCell,im,bi,bZ,il,bj,c1,c2,c3,c4,aa,one]
 simp only[List.cons_append,List.nil_append,List.append_assoc] at o1 o2
 refine⟨_,I1++I2,rfl,?_,wx (os1.length+3) n1 n2 (fun i hi=>by have:=l1 i hi;omega) (fun i hi=>by have:=f2 i hi;omega)⟩
 refine EW (fr3 (r:=os2) o1 f1) ?_
 have:=fr3 (r:=[]) (a':= .row 3 [[.p (.str e.name),.p (aB e.params),.p (smL e.body)]]) (b':= .row 3 [[.p (.str e.name),A,B]]) (c':= .row 3 [[.p (.str e.name),A,B]]) o2 (fun i hi=>by have:=f2 i hi;omega)
 rwa[List.append_nil] at this
theorem uP(l:List Fd)(hb:cb l≤1048576):AC Tryz.prog G br [.agg [.p (fdL l)]] [] (MkW .agg true [fdL l]):=by
 have hA:=Df G l (by have:=cu l;omega) (fun e he=>EJ G e (by have:=dN he;omega))
 refine AC.go jn ?_
 simp-implicitDefEqProofs[fx]
 refine(AC.mkLift fA hA (by simp)).mono ?_
 rintro r h2 ⟨vs,I1,os1,rfl,e2,o1,n1,f1⟩
 obtain⟨A,rfl⟩:=bC o1
 obtain⟨c1,c2⟩:=dh o1
 simp at f1
 subst e2
 simp-implicitDefEqProofs[-AV.cells,-AV.isCell,im,bi,bZ,il,bj,c1,c2,aa,one]
 have:=fr3 (r:=[]) (a':= .row 1 [[.p (fdL l)]]) (b':= .row 1 [[A]]) (c':= .row 1 [[A]]) o1 f1
 rw[List.append_nil] at this
 exact⟨_,I1,rfl,this,n1⟩
end Go.Proofs.YtiojgfhdcpppcaaGreatDoor
namespace Go.Proofs.YtiojgfhdcpppcaaGreatDoor
open Go Go.Aw
set_option maxRecDepth 100000
set_option maxHeartbeats 4000000
theorem Ei(n:Int):IntKind.u8.wrap n=n%256:=by simp[IntKind.wrap,IntKind.bits,IntKind.signed]
theorem Bq{x:Int}{n:Nat}(h:x=n)(hn:n≤9223372036854775807):IntKind.i64.wrap x=n:=by rw[ah (by omega) (by omega),h]
def rX(n:Nat)(acc:List UInt8):List UInt8:=if n=0 then acc else rX (n/10) (UInt8.ofNat (48+n%10)::acc)
termination_by n
theorem yj(acc:List UInt8):rX 0 acc=acc:=by rw[rX,if_pos rfl]
theorem zj{n:Nat}(h:¬n=0)(acc:List UInt8):rX n acc=rX (n/10) (UInt8.ofNat (48+n%10)::acc):=by rw[rX,if_neg h]
def cN(n:Nat):List UInt8:=if n=0 then[109,48] else 109::rX n []
structure DG where (n:Nat) (acc:List UInt8)
variable (G:aA)
theorem jF(n:Nat)(hn:n≤1152921504606846976):VF Tryz.prog G aL [.p (.int .i64 n)] (.p (.str (cN n))):=by
 refine AC.go pM ?_
 by_cases h0:n=0
 ·subst h0
  simp-implicitDefEqProofs[fS,cN]
 have h1:¬(n:Int)≤0:=by omega
 simp-implicitDefEqProofs[fS,h1,h0]
 refine au (fun d:DG=>af 20 [(0,.p (.int .i64 d.n)),(3,.p (.str d.acc))]) (fun _=>[]) (fun d=>rX d.n d.acc=rX n []∧d.acc.length+d.n≤n) (fun d=>d.n) ⟨n,[]⟩ (by simp) ?_ ?_
 ·exact ay rfl (by simp[below])
 ·rintro⟨m,acc⟩ ⟨i1,i2⟩
  simp only at i1 i2
  simp-implicitDefEqProofs[]
  refine aR (fun h2=>?_) (fun h2=>?_)
  ·simp at h2
   have hm0:¬m=0:=by omega
   have e10:(m:Int).tmod 10=(m:Int)%10:=Int.tmod_eq_emod_of_nonneg (by omega)
   have ew:IntKind.i64.wrap (48+(m:Int)%10)=48+(m:Int)%10:=ah (by omega) (by omega)
   have e8:IntKind.u8.wrap (48+(m:Int)%10)=48+(m:Int)%10:=by rw[Ei];omega
   have et:(48+(m:Int)%10).toNat=48+m%10:=by omega
   have ed:IntKind.i64.wrap ((m:Int)/10)=((m/10:Nat):Int):=Bq (by omega) (by omega)
   simp-implicitDefEqProofs[e10,ew,e8,et,ed]
   refine⟨by omega,⟨m/10,UInt8.ofNat (48+m%10)::acc⟩,⟨?_,?_⟩,by simp only;omega,ay rfl ?_⟩
   ·rw[←i1];exact(zj hm0 acc).symm
   ·simp only[List.length_cons];omega
   ·simp[below]
  ·simp at h2
   have:m=0:=by omega
   subst this
   rw[yj] at i1
   have hl:1+(rX n []).length≤9223372036854775807:=by rw[←i1];omega
   simp-implicitDefEqProofs[cN,h0,i1]
   exact hl
def iS(k n:Nat):List Int:=(List.range n).map fun j=>((k+j:Nat):Int)
def jw(k n:Nat):List (List UInt8):=(List.range n).map fun j=>cN (k+j)
theorem vn(k n:Nat):(iS k n).length=n:=by simp[iS]
theorem vq(k n:Nat):(jw k n).length=n:=by simp[jw]
theorem wz{h:List AO}{id:Nat}{xs:List Int}{k:Nat}(hr:h[id]?=some (iW xs))(hk:k+xs.length≤1152921504606846976):
 AC Tryz.prog G dV [.sl id 1 0 xs.length,.p (.int .i64 k)] h fun x h'=>x= .ret (.p (.int .i64 ((k+xs.length:Nat):Int)))∧h'=h.set id (iW (iS k xs.length)):=by
 refine AC.enterB dS fun hb=>AC.go dS ?_
 have hid:id<h.length:=(List.getElem?_eq_some_iff.1 hr).1
 have hbs:∀ys:List Int,HB (h.set id (iW ys)):=fun ys=>hb.set_row fun e he=>by
  obtain⟨x,_,rfl⟩:=List.mem_map.1 he
  simp
 simp-implicitDefEqProofs[dT]
 have e0:iS k 0++xs.drop 0=xs:=by simp[iS]
 refine au (fun a:Nat × List Int=>af 19 [(0,.sl id 1 0 xs.length),(1,.p (.int .i64 ((k+a.1:Nat):Int))),(5,.p (.int .i64 a.1))]) (fun a=>h.set id (iW a.2)) (fun a=>a.1≤xs.length∧a.2=iS k a.1++xs.drop a.1) (fun a=>xs.length-a.1) (0,xs) ⟨by simp,e0.symm⟩ ?_ ?_
 ·have e:h.set id (iW xs)=h:=by
   obtain⟨hi,e⟩:=List.getElem?_eq_some_iff.1 hr
   rw[←e];simp
  rw[e]
  exact gW (by simp) hb (by simp-implicitDefEqProofs[below,hid])
 ·rintro⟨i,ys⟩ ⟨hi,hy⟩
  simp only at hi hy
  simp-implicitDefEqProofs[]
  refine aR (fun h1=>?_) (fun h1=>?_)
  ·simp at h1
   have hyl:ys.length=xs.length:=by rw[hy];simp[iS];omega
   have hys:ys.set i ((k+i:Nat):Int)=iS k (i+1)++xs.drop (i+1):=by
    rw[hy,List.set_append_right _ _ (by simp[iS])]
    simp only[iS,List.length_map,List.length_range,Nat.sub_self]
    rw[List.drop_eq_getElem_cons h1,List.set_cons_zero,List.range_succ]
    simp
   have hg:(List.map (fun n=>[AV.p (.int .i64 n)]) ys)[i]?=some [AV.p (.int .i64 (ys[i]'(by omega)))]:=by rw[List.getElem?_map,List.getElem?_eq_getElem (by omega)];rfl
   have hw1:IntKind.i64.wrap ((k:Int)+(i:Int)+1)=(k:Int)+(i:Int)+1:=ah (by omega) (by omega)
   simp-implicitDefEqProofs[iW,hid,h1,hg,hw1]
   refine⟨i+1,ys.set i ((k+i:Nat):Int),⟨h1,hys⟩,by omega,?_⟩
   have e:(List.map (fun n=>[AV.p (PV.int IntKind.i64 n)]) ys).set i [AV.p (PV.int IntKind.i64 (↑k+ ↑i))]=List.map (fun n=>[AV.p (PV.int IntKind.i64 n)]) (ys.set i ((k+i:Nat):Int)):=by
    rw[List.map_set];simp
   rw[e]
   refine gW ?_ (hbs (ys.set i ((k+i:Nat):Int))) ?_
   ·simp
   simp[w1 (i:=i) (by omega),below,hid]
   omega
  ·simp at h1
   have:i=xs.length:=by omega
   subst this
   simp[hy]
theorem pj(k i:Nat)(hn:k+i≤1152921504606846976):VF Tryz.prog G aL [.p (.int .i64 ((k:Int)+(i:Int)))] (.p (.str (cN (k+i)))):=by
 have:=jF G (k+i) hn
 rwa[Int.natCast_add] at this
theorem sr{h:List AO}{id:Nat}{xs:List (List UInt8)}{k:Nat}(hr:h[id]?=some (lA xs))(hk:k+xs.length≤1152921504606846976):
 AC Tryz.prog G cH [.sl id 1 0 xs.length,.p (.int .i64 k)] h fun x h'=>x= .ret (.p (.int .i64 ((k+xs.length:Nat):Int)))∧h'=h.set id (lA (jw k xs.length)):=by
 refine AC.enterB cC fun hb=>AC.go cC ?_
 have hid:id<h.length:=(List.getElem?_eq_some_iff.1 hr).1
 have hbs:∀ys:List (List UInt8),HB (h.set id (lA ys)):=fun ys=>hb.set_row fun e he=>by
  obtain⟨x,_,rfl⟩:=List.mem_map.1 he
  simp
 simp-implicitDefEqProofs[cF]
 have e0:jw k 0++xs.drop 0=xs:=by simp[jw]
 refine au (fun a:Nat × List (List UInt8)=>af 20 [(0,.sl id 1 0 xs.length),(1,.p (.int .i64 ((k+a.1:Nat):Int))),(5,.p (.int .i64 a.1))]) (fun a=>h.set id (lA a.2)) (fun a=>a.1≤xs.length∧a.2=jw k a.1++xs.drop a.1) (fun a=>xs.length-a.1) (0,xs) ⟨by simp,e0.symm⟩ ?_ ?_
 ·have e:h.set id (lA xs)=h:=by
   obtain⟨hi,e⟩:=List.getElem?_eq_some_iff.1 hr
   rw[←e];simp
  rw[e]
  exact gW (by simp) hb (by simp-implicitDefEqProofs[below,hid])
 ·rintro⟨i,ys⟩ ⟨hi,hy⟩
  simp only at hi hy
  simp-implicitDefEqProofs[]
  refine aR (fun h1=>?_) (fun h1=>?_)
  ·simp at h1
   have hyl:ys.length=xs.length:=by rw[hy];simp[jw];omega
   have hys:ys.set i (cN (k+i))=jw k (i+1)++xs.drop (i+1):=by
    rw[hy,List.set_append_right _ _ (by simp[jw])]
    simp only[jw,List.length_map,List.length_range,Nat.sub_self]
    rw[List.drop_eq_getElem_cons h1,List.set_cons_zero,List.range_succ]
    simp
   have hg:(List.map (fun n=>[AV.p (.str n)]) ys)[i]?=some [AV.p (.str (ys[i]'(by omega)))]:=by rw[List.getElem?_map,List.getElem?_eq_getElem (by omega)];rfl
   have hw1:IntKind.i64.wrap ((k:Int)+(i:Int)+1)=(k:Int)+(i:Int)+1:=ah (by omega) (by omega)
   simp-implicitDefEqProofs[]
   refine(pj G k i (by omega)).use ?_
   simp-implicitDefEqProofs[lA,hid,h1,hg,hw1]
   refine⟨i+1,ys.set i (cN (k+i)),⟨h1,hys⟩,by omega,?_⟩
   have e:(List.map (fun n=>[AV.p (PV.str n)]) ys).set i [AV.p (PV.str (cN (k+i)))]=List.map (fun n=>[AV.p (PV.str n)]) (ys.set i (cN (k+i))):=by
    rw[List.map_set]
   rw[e]
   refine gW ?_ (hbs (ys.set i (cN (k+i)))) ?_
   ·simp
   simp[w1 (i:=i) (by omega),below,hid]
   omega
  ·simp at h1
   have:i=xs.length:=by omega
   subst this
   simp[hy]
theorem Cq(k n:Nat)(hk:k+n≤1152921504606846976):VF Tryz.prog G gO [.p (aB (jw k n)),.p (.int .i64 k)] (.p (.int .i64 ((k+n:Nat):Int))):=by
 refine AC.go mt ?_
 have hsl:∀l,aB l= .lst 1 (l.map fun w=>[.str w]):=fun _=>rfl
 have hl:=vq k n
 simp-implicitDefEqProofs[hY]
 refine au (fun i:Nat=>af 22 [(0,.p (aB (jw k n))),(1,.p (.int .i64 ((k+i:Nat):Int))),(5,.p (.int .i64 i))]) (fun _=>[]) (fun i=>i≤n) (fun i=>n-i) 0 (by simp) ?_ ?_
 ·exact ay rfl (by simp[below,aB])
 intro i hi
 simp-implicitDefEqProofs[hsl,hl]
 refine aR (fun h1=>?_) (fun h1=>?_)
 ·simp at h1
  have hg:(jw k n)[i]?=some (cN (k+i)):=by simp[jw,h1]
  have hw1:IntKind.i64.wrap ((k:Int)+(i:Int)+1)=(k:Int)+(i:Int)+1:=ah (by omega) (by omega)
  clear hl
  simp-implicitDefEqProofs[hg]
  refine(pj G k i (by omega)).use ?_
  simp-implicitDefEqProofs[hw1]
  refine⟨i+1,h1,by omega,ay rfl ?_⟩
  simp[below,aB,w1 (i:=i) (by omega)]
  omega
 ·simp at h1
  have:i=n:=by omega
  subst this
  simp-implicitDefEqProofs[]
theorem wQ(k n:Nat)(hk:k+n≤1152921504606846976):VF Tryz.prog G fX [.p (bE (iS k n)),.p (.int .i64 k)] (.p (.int .i64 ((k+n:Nat):Int))):=by
 refine AC.go pO ?_
 have hsl:∀l,bE l= .lst 1 (l.map fun w=>[.int .i64 w]):=fun _=>rfl
 have hl:=vn k n
 simp-implicitDefEqProofs[jQ]
 refine au (fun i:Nat=>af 21 [(0,.p (bE (iS k n))),(1,.p (.int .i64 ((k+i:Nat):Int))),(5,.p (.int .i64 i))]) (fun _=>[]) (fun i=>i≤n) (fun i=>n-i) 0 (by simp) ?_ ?_
 ·exact ay rfl (by simp[below,bE])
 intro i hi
 simp-implicitDefEqProofs[hsl,hl]
 refine aR (fun h1=>?_) (fun h1=>?_)
 ·simp at h1
  have hg:(iS k n)[i]?=some ((k+i:Nat):Int):=by simp[iS,h1]
  have hw1:IntKind.i64.wrap ((k:Int)+(i:Int)+1)=(k:Int)+(i:Int)+1:=ah (by omega) (by omega)
  clear hl
  simp-implicitDefEqProofs[hg,hw1]
  refine⟨i+1,h1,by omega,ay rfl ?_⟩
  simp[below,bE,w1 (i:=i) (by omega)]
  omega
 ·simp at h1
  have:i=n:=by omega
  subst this
  simp-implicitDefEqProofs[]
end Go.Proofs.YtiojgfhdcpppcaaGreatDoor
namespace Go.Proofs.YtiojgfhdcpppcaaGreatDoor
open Go Go.Aw
set_option maxRecDepth 100000
set_option maxHeartbeats 4000000
mutual
def mkE(k:Nat):Ex→Ex
 | .mk _ _ _ ks=> .mk k ((k+1:Nat):Int) (cN (k+2)) (mC (k+3) ks)
def mC(k:Nat):List Ex→List Ex
 |[]=>[]
 |e::r=>mkE k e::mC (k+3*e.parts) r
end
theorem rp:∀(l:List Ex) (k:Nat),(mC k l).length=l.length
 |[],k=>rfl
 |e::r,k=>by rw[mC,List.length_cons,rp r,List.length_cons]
theorem xV:∀(l:List Ex) (k i:Nat) (e:Ex),l[i]?=some e→(mC k l)[i]?=some (mkE (k+3*aN (l.take i)) e)
 |x::r,k,0,e,h=>by cases h;rfl
 |x::r,k,i+1,e,h=>by
  have:=xV r (k+3*x.parts) i e h
  rw[mC,List.getElem?_cons_succ,this,List.take_succ_cons,aN]
  congr 2
  omega
theorem Ff(k:Nat)(e:Ex):(mkE k e).cs=[.int .i64 k,.int .i64 ((k+1:Nat):Int),.str (cN (k+2)),exL (mC (k+3) e.kids)]:=by
 obtain⟨o,n,s,ks⟩:=e;rw[mkE,Ex.cs_eq];rfl
theorem vZ{l:List Ex}{i:Nat}(h:i<l.length):aN (l.take (i+1))=aN (l.take i)+l[i].parts:=by
 rw[aj h,de];simp[aN]
theorem ym(l:List Ex)(i:Nat):aN (l.take i)≤aN l:=by
 have e:aN l=aN (l.take i)+aN (l.drop i):=by rw[←de,List.take_append_drop]
 omega
theorem yD{l:List Ex}{e:Ex}(h:e∈l):e.parts≤aN l:=by
 induction l with
 |nil=>cases h
 |cons x r ih=>
  rw[aN]
  rcases List.mem_cons.1 h with rfl|h
  ·omega
  ·have:=ih h;omega
theorem zs(l:List Ex):l.length≤aN l:=by
 induction l with
 |nil=>exact Nat.le_refl _
 |cons x r ih=>have:=x.parts_eq;rw[aN,List.length_cons];omega
variable (G:aA)
theorem uj:∀(N:Nat) (l:List Ex),aN l<N→∀(h:List AO) (v:AV) (I:List Nat) (k:Nat),OwnL true h [v] [exL l] I→I.Nodup→k+3*aN l≤1152921504606846976→
 AC Tryz.prog G dw [v,.p (.int .i64 k)] h (Mkd h v I (exL (mC k l)) (.int .i64 ((k+3*aN l:Nat):Int))):=by
 intro N
 induction N with
 |zero=>intro l hl;omega
 |succ N ih=>
  intro l hl h v I k ho nd hk
  have hxl:∀l,exL l= .lst 4 (l.map Ex.cs):=fun _=>rfl
  have hll:=zs l
  rcases ho.inv nd with⟨h0,rfl,rfl|rfl⟩|⟨h0,_⟩|⟨id,rows,J,rfl,rfl,hr⟩
  ·have hl0:l=[]:=List.map_eq_nil_iff.1 h0
   subst hl0
   refine AC.go fk ?_
   have hst:Mkd h .nils [] (exL (mC k [])) (.int .i64 ((k+3*aN []:Nat):Int)) (.ret (.p (.int .i64 k))) h:=⟨rfl,.nils 4 .nil,fun _ _ _=>rfl,Nat.le_refl _⟩
   simp-implicitDefEqProofs[dt]
   refine au (fun _:Unit=>af 42 [(0,.nils),(1,.p (.int .i64 k)),(5,.p (.int .i64 0))]) (fun _=>h) (fun _=>True) (fun _=>0) () trivial (aP (Nat.le_refl _) (by simp[below])) ?_
   intro _ _
   simp-implicitDefEqProofs[]
   exact hst
  ·have hl0:l=[]:=List.map_eq_nil_iff.1 h0
   subst hl0
   refine AC.go fk ?_
   have hst:Mkd h (.p (.lst 4 [])) [] (exL (mC k [])) (.int .i64 ((k+3*aN []:Nat):Int)) (.ret (.p (.int .i64 k))) h:=⟨rfl,.p _ (fun _=>rfl) .nil,fun _ _ _=>rfl,Nat.le_refl _⟩
   simp-implicitDefEqProofs[dt]
   refine au (fun _:Unit=>af 42 [(0,(.p (.lst 4 []))),(1,.p (.int .i64 k)),(5,.p (.int .i64 0))]) (fun _=>h) (fun _=>True) (fun _=>0) () trivial (aP (Nat.le_refl _) (by simp[below])) ?_
   intro _ _
   simp-implicitDefEqProofs[]
   exact hst
  ·cases h0
  rw[List.length_map]
  refine AC.go fk ?_
  simp-implicitDefEqProofs[dt]
  refine au (fun a:FilS=>af 42 [(0,.sl id 4 0 l.length),(1,.p (.int .i64 ((k+3*aN (l.take a.i):Nat):Int))),(5,.p (.int .i64 a.i))]) (fun a=>a.h) (MkI h id 4 ((mC k l).map Ex.cs) (l.map Ex.cs) J) (fun a=>l.length-a.i) ⟨0,h⟩ (MkI.init hr) ?_ ?_
  ·exact aP (Nat.le_refl _) (by simp[below,aN,hr.lt])
  rintro⟨i,hh⟩ hI
  simp-implicitDefEqProofs[]
  refine aR (fun h1=>?_) (fun h1=>?_)
  ·simp at h1
   have hg:=List.getElem?_eq_getElem h1
   have hP:=vZ h1
   have hM:=yD (List.getElem_mem h1)
   have hT:=ym l (i+1)
   generalize l[i]=e at hg hP hM
   have hD:(l.map Ex.cs)[i]?=some e.cs:=by rw[List.getElem?_map,hg];rfl
   have hA:((mC k l).map Ex.cs)[i]?=some (mkE (k+3*aN (l.take i)) e).cs:=by rw[List.getElem?_map,xV l k i e hg];rfl
   obtain⟨rows',r,Ji,s1,s2,s3,s4,s5,s6,s7⟩:=hI.step hD hA
   obtain⟨K,rfl,hK⟩:=zW s3
   obtain⟨c1,c2⟩:=dh hK
   have q1:∀x,(hh.set id x)[id]?=some x:=fun x=>List.getElem?_set_self s5
   have q2:∀x,(rows'.set i x)[i]?=some x:=fun x=>List.getElem?_set_self s6
   have hnid:id∉Ji:=fun hm=>by rw[List.nodup_cons] at s4;exact s4.1 hm
   have hpe:=e.parts_eq
   have hmt:=jF G (k+3*aN (l.take i)+2) (by omega)
   generalize hkk:k+3*aN (l.take i)=kk at*
   have hkI:(k:Int)+3*(aN (l.take i):Int)=(kk:Int):=by omega
   have w0:IntKind.i64.wrap ((kk:Int)+1)=(kk:Int)+1:=ah (by omega) (by omega)
   have w2:IntKind.i64.wrap ((kk:Int)+1+1)=(kk:Int)+1+1:=ah (by omega) (by omega)
   have w3:IntKind.i64.wrap ((kk:Int)+1+1+1)=(kk:Int)+1+1+1:=ah (by omega) (by omega)
   have hm2:VF Tryz.prog G aL [.p (.int .i64 ((kk:Int)+1+1))] (.p (.str (cN (kk+2)))):=by
    have e:((kk+2:Nat):Int)=(kk:Int)+1+1:=by omega
    rw[←e];exact hmt
   have hIH:=fun h1 ho=>ih e.kids (by have:=e.parts_eq;omega) h1 K Ji (kk+3) ho (List.nodup_cons.1 s4).2 (by have:=e.parts_eq;omega)
   have e3:((kk+3:Nat):Int)=(kk:Int)+1+1+1:=by omega
   rw[e3] at hIH
   simp-implicitDefEqProofs[-AV.cells,-AV.isCell,im,bi,bZ,il,bj,c1,c2,s1,s2,q1,q2,hkI,w0,w2,w3]
   refine⟨h1,?_⟩
   refine hm2.use ?_
   simp-implicitDefEqProofs[-AV.cells,-AV.isCell,im,bi,bZ,il,bj,c1,c2,s1,s2,q1,q2,w3]
   refine⟨h1,(hIH _ (hK.set_out hnid _)).mono ?_⟩
   rintro r h2 ⟨rfl,o2,f2,l2⟩
   rw[List.length_set] at f2 l2
   have hgo:=s7 h2 [.p (.int .i64 kk),.p (.int .i64 ((kk+1:Nat):Int)),.p (.str (cN (kk+2))),K] (by rw[f2 id s5 hnid,q1];simp) (fun j hj hn hm=>by rw[f2 j hj hm,List.getElem?_set_ne (fun e=>hn e.symm)]) (by rw[Ff];exact .p _ (fun _=>rfl) (.p _ (fun _=>rfl) (.p _ (fun _=>rfl) o2))) (Ex.cs_len _) l2
   have hid2:id<h2.length:=by omega
   have hwi:=w1 (i:=i) (by omega)
   have hkn:k+3*aN (l.take (i+1))=kk+3+3*aN e.kids:=by omega
   simp-implicitDefEqProofs[aa]
   refine⟨⟨i+1,h2⟩,hgo,by simp only;omega,aP hgo.2.2.2 ?_⟩
   simp[below,hid2,hwi]
   omega
  ·simp at h1
   have hie:i=l.length:=by have:=hI.1;simp at this;omega
   obtain⟨⟨rows2,d1⟩,d2,d3⟩:=hI.done (by simpa using h1) (by simp[rp])
   subst hie
   rw[List.take_length]
   simp-implicitDefEqProofs[]
   refine⟨by simp,?_,d2,d3⟩
   have:=d1.tree (n:=l.length) (by simp[rp])
   exact this
theorem vL{h:List AO}:∀{ps:List (List UInt8)} {vs:List AV} {J:List Nat},OwnL true h vs (ps.map PV.str) J→vs=ps.map (fun w=> .p (.str w))∧J=[]
 |[],vs,J,H=>by
  cases H
  exact⟨rfl,rfl⟩
 |w::r,vs,J,H=>by
  rw[List.map_cons] at H
  cases H with
  |p _ _ H=>
   obtain⟨e1,e2⟩:=vL H
   exact⟨by rw[e1];rfl,e2⟩
theorem rH{α:Type}:∀{rows:List (List α)} {l:List α},rows.flatten=l→(∀e∈rows,e.length=1)→rows=l.map fun x=>[x]
 |[],l,e,_=>by subst e;rfl
 |r::rs,l,e,h=>by
  subst e
  have h1:=h r (by simp)
  match r,h1 with
  |[x],_=>
   have ih:=rH (rows:=rs) rfl fun e he=>h e (by simp[he])
   rw[List.flatten_cons,List.singleton_append,List.map_cons,←ih]
theorem sx:∀ps:List (List UInt8),(ps.map fun w=>[PV.str w]).flatten=ps.map PV.str
 |[]=>rfl
 |w::r=>by rw[List.map_cons,List.flatten_cons,sx r];rfl
theorem ER(h:List AO)(v:AV)(I:List Nat)(ps:List (List UInt8))(k:Nat)(ho:OwnL true h [v] [aB ps] I)(nd:I.Nodup)(hk:k+ps.length≤1152921504606846976):
 AC Tryz.prog G cH [v,.p (.int .i64 k)] h (Mkd h v I (aB (jw k ps.length)) (.int .i64 ((k+ps.length:Nat):Int))):=by
 rcases ho.inv nd with⟨h0,rfl,rfl|rfl⟩|⟨h0,_⟩|⟨id,rows,J,rfl,rfl,hr⟩
 ·have hl0:ps=[]:=List.map_eq_nil_iff.1 h0
  subst hl0
  refine AC.go cC ?_
  have hst:Mkd h .nils [] (aB (jw k 0)) (.int .i64 ((k+0:Nat):Int)) (.ret (.p (.int .i64 k))) h:=⟨rfl,.nils 1 .nil,fun _ _ _=>rfl,Nat.le_refl _⟩
  simp-implicitDefEqProofs[cF]
  refine au (fun _:Unit=>af 20 [(0,.nils),(1,.p (.int .i64 k)),(5,.p (.int .i64 0))]) (fun _=>h) (fun _=>True) (fun _=>0) () trivial (aP (Nat.le_refl _) (by simp[below])) ?_
  intro _ _
  simp-implicitDefEqProofs[]
  exact hst
 ·have hl0:ps=[]:=List.map_eq_nil_iff.1 h0
  subst hl0
  refine AC.go cC ?_
  have hst:Mkd h (.p (.lst 1 [])) [] (aB (jw k 0)) (.int .i64 ((k+0:Nat):Int)) (.ret (.p (.int .i64 k))) h:=⟨rfl,.p _ (fun _=>rfl) .nil,fun _ _ _=>rfl,Nat.le_refl _⟩
  simp-implicitDefEqProofs[cF]
  refine au (fun _:Unit=>af 20 [(0,.p (.lst 1 [])),(1,.p (.int .i64 k)),(5,.p (.int .i64 0))]) (fun _=>h) (fun _=>True) (fun _=>0) () trivial (aP (Nat.le_refl _) (by simp[below])) ?_
  intro _ _
  simp-implicitDefEqProofs[]
  exact hst
 ·cases h0
 rw[List.length_map]
 have hfl:(ps.map fun w=>[PV.str w]).flatten=ps.map PV.str:=by
  exact sx ps
 have hown:=hr.own
 rw[hfl] at hown
 obtain⟨e1,e2⟩:=vL hown
 subst e2
 have e3:=rH e1 hr.rl
 have hh:h[id]?=some (lA ps):=by rw[hr.here,e3,List.map_map];rfl
 refine(sr G hh hk).mono ?_
 rintro x h' ⟨rfl,rfl⟩
 have hid:id<h.length:=hr.lt
 refine⟨rfl,sN (List.getElem?_set_self hid) (by simp[vq]),fun j hj hn=>?_,by simp⟩
 simp at hn
 exact List.getElem?_set_ne fun e=>hn e.symm
mutual
def Sm.mq:Sm→Nat
 | .mk _ _ a b e=>2+3*aN a+bD b+bD e
def bD:List Sm→Nat
 |[]=>0
 |s::r=>s.mq+bD r
end
mutual
def mkS(k:Nat):Sm→Sm
 | .mk _ _ a b e=> .mk k (cN (k+1)) (mC (k+2) a) (kf (k+2+3*aN a) b) (kf (k+2+3*aN a+bD b) e)
def kf(k:Nat):List Sm→List Sm
 |[]=>[]
 |s::r=>mkS k s::kf (k+s.mq) r
end
theorem Sm.mq_eq(s:Sm):s.mq=2+3*aN s.args+bD s.body+bD s.els:=by cases s;rfl
theorem qq:∀a b:List Sm,bD (a++b)=bD a+bD b
 |[],b=>by simp[bD]
 |s::r,b=>by rw[List.cons_append,bD,bD,qq r b];omega
theorem qR:∀(l:List Sm) (k:Nat),(kf k l).length=l.length
 |[],k=>rfl
 |e::r,k=>by rw[kf,List.length_cons,qR r,List.length_cons]
theorem xX:∀(l:List Sm) (k i:Nat) (e:Sm),l[i]?=some e→(kf k l)[i]?=some (mkS (k+bD (l.take i)) e)
 |x::r,k,0,e,h=>by cases h;rfl
 |x::r,k,i+1,e,h=>by
  have:=xX r (k+x.mq) i e h
  rw[kf,List.getElem?_cons_succ,this,List.take_succ_cons,bD]
  congr 2
  omega
theorem EO(k:Nat)(e:Sm):(mkS k e).cs=[.int .i64 k,.str (cN (k+1)),exL (mC (k+2) e.args),smL (kf (k+2+3*aN e.args) e.body),smL (kf (k+2+3*aN e.args+bD e.body) e.els)]:=by
 obtain⟨o,s,a,b,el⟩:=e;rw[mkS,Sm.cs_eq];rfl
theorem zo{l:List Sm}{i:Nat}(h:i<l.length):bD (l.take (i+1))=bD (l.take i)+l[i].mq:=by
 rw[aj h,qq];simp[bD]
theorem tt(l:List Sm)(i:Nat):bD (l.take i)≤bD l:=by
 have e:bD l=bD (l.take i)+bD (l.drop i):=by rw[←qq,List.take_append_drop]
 omega
theorem BB{l:List Sm}{e:Sm}(h:e∈l):e.mq≤bD l:=by
 induction l with
 |nil=>cases h
 |cons x r ih=>
  rw[bD]
  rcases List.mem_cons.1 h with rfl|h
  ·omega
  ·have:=ih h;omega
theorem AQ(l:List Sm):l.length≤bD l:=by
 induction l with
 |nil=>exact Nat.le_refl _
 |cons x r ih=>have:=x.mq_eq;rw[bD,List.length_cons];omega
theorem vv:∀(N:Nat) (l:List Sm),bD l<N→∀(h:List AO) (v:AV) (I:List Nat) (k:Nat),OwnL true h [v] [smL l] I→I.Nodup→k+bD l≤1152921504606846976→
 AC Tryz.prog G cy [v,.p (.int .i64 k)] h (Mkd h v I (smL (kf k l)) (.int .i64 ((k+bD l:Nat):Int))):=by
 intro N
 induction N with
 |zero=>intro l hl;omega
 |succ N ih=>
  intro l hl h v I k ho nd hk
  have hll:=AQ l
  rcases ho.inv nd with⟨h0,rfl,rfl|rfl⟩|⟨h0,_⟩|⟨id,rows,J,rfl,rfl,hr⟩
  ·have hl0:l=[]:=List.map_eq_nil_iff.1 h0
   subst hl0
   refine AC.go fy ?_
   have hst:Mkd h .nils [] (smL (kf k [])) (.int .i64 ((k+bD []:Nat):Int)) (.ret (.p (.int .i64 k))) h:=⟨rfl,.nils 5 .nil,fun _ _ _=>rfl,Nat.le_refl _⟩
   simp-implicitDefEqProofs[du]
   refine au (fun _:Unit=>af 49 [(0,.nils),(1,.p (.int .i64 k)),(5,.p (.int .i64 0))]) (fun _=>h) (fun _=>True) (fun _=>0) () trivial (aP (Nat.le_refl _) (by simp[below])) ?_
   intro _ _
   simp-implicitDefEqProofs[]
   exact hst
  ·have hl0:l=[]:=List.map_eq_nil_iff.1 h0
   subst hl0
   refine AC.go fy ?_
   have hst:Mkd h (.p (.lst 5 [])) [] (smL (kf k [])) (.int .i64 ((k+bD []:Nat):Int)) (.ret (.p (.int .i64 k))) h:=⟨rfl,.p _ (fun _=>rfl) .nil,fun _ _ _=>rfl,Nat.le_refl _⟩
   simp-implicitDefEqProofs[du]
   refine au (fun _:Unit=>af 49 [(0,(.p (.lst 5 []))),(1,.p (.int .i64 k)),(5,.p (.int .i64 0))]) (fun _=>h) (fun _=>True) (fun _=>0) () trivial (aP (Nat.le_refl _) (by simp[below])) ?_
   intro _ _
   simp-implicitDefEqProofs[]
   exact hst
  ·cases h0
  rw[List.length_map]
  refine AC.go fy ?_
  simp-implicitDefEqProofs[du]
  refine au (fun a:FilS=>af 49 [(0,.sl id 5 0 l.length),(1,.p (.int .i64 ((k+bD (l.take a.i):Nat):Int))),(5,.p (.int .i64 a.i))]) (fun a=>a.h) (MkI h id 5 ((kf k l).map Sm.cs) (l.map Sm.cs) J) (fun a=>l.length-a.i) ⟨0,h⟩ (MkI.init hr) ?_ ?_
  ·exact aP (Nat.le_refl _) (by simp[below,bD,hr.lt])
  rintro⟨i,hh⟩ hI
  simp-implicitDefEqProofs[]
  refine aR (fun h1=>?_) (fun h1=>?_)
  ·simp at h1
   have hg:=List.getElem?_eq_getElem h1
   have hP:=zo h1
   have hM:=BB (List.getElem_mem h1)
   have hT:=tt l (i+1)
   generalize l[i]=e at hg hP hM
   have hD:(l.map Sm.cs)[i]?=some e.cs:=by rw[List.getElem?_map,hg];rfl
   have hA:((kf k l).map Sm.cs)[i]?=some (mkS (k+bD (l.take i)) e).cs:=by rw[List.getElem?_map,xX l k i e hg];rfl
   obtain⟨rows',r,Ji,s1,s2,s3,s4,s5,s6,s7⟩:=hI.step hD hA
   obtain⟨A,B,E,I1,I2,I3,rfl,rfl,oA,oB,oE⟩:=Aa s3
   obtain⟨c1,c2⟩:=dh oA
   obtain⟨c3,c4⟩:=dh oB
   obtain⟨c5,c6⟩:=dh oE
   have q1:∀x,(hh.set id x)[id]?=some x:=fun x=>List.getElem?_set_self s5
   have q2:∀x,(rows'.set i x)[i]?=some x:=fun x=>List.getElem?_set_self s6
   rw[List.nodup_cons] at s4
   obtain⟨hnid,n123⟩:=s4
   simp only[List.mem_append,not_or] at hnid
   obtain⟨x1,x2,x3⟩:=hnid
   obtain⟨n1,n23,d123⟩:=List.nodup_append.1 n123
   obtain⟨n2,n3,d23⟩:=List.nodup_append.1 n23
   have hpe:=e.mq_eq
   have hmt:=jF G (k+bD (l.take i)+1) (by omega)
   generalize hkk:k+bD (l.take i)=kk at*
   have hkI:(k:Int)+(bD (l.take i):Int)=(kk:Int):=by omega
   have w0:IntKind.i64.wrap ((kk:Int)+1)=(kk:Int)+1:=ah (by omega) (by omega)
   have w2:IntKind.i64.wrap ((kk:Int)+1+1)=(kk:Int)+1+1:=ah (by omega) (by omega)
   have hm2:VF Tryz.prog G aL [.p (.int .i64 ((kk:Int)+1))] (.p (.str (cN (kk+1)))):=by
    have e:((kk+1:Nat):Int)=(kk:Int)+1:=by omega
    rw[←e];exact hmt
   have e2:((kk+2:Nat):Int)=(kk:Int)+1+1:=by omega
   have mA:=fun h1 ho=>uj G (aN e.args+1) e.args (by omega) h1 A I1 (kk+2) ho n1 (by omega)
   have mB:=fun h1 ho=>ih e.body (by omega) h1 B I2 (kk+2+3*aN e.args) ho n2 (by omega)
   have mE:=fun h1 ho=>ih e.els (by omega) h1 E I3 (kk+2+3*aN e.args+bD e.body) ho n3 (by omega)
   rw[e2] at mA
   simp-implicitDefEqProofs[-AV.cells,-AV.isCell,im,bi,bZ,il,bj,c1,c2,c3,c4,c5,c6,s1,s2,q1,q2,hkI,w0,w2]
   refine⟨h1,?_⟩
   refine hm2.use ?_
   simp-implicitDefEqProofs[-AV.cells,-AV.isCell,im,bi,bZ,il,bj,c1,c2,c3,c4,c5,c6,s1,s2,q1,q2,w2]
   refine⟨h1,(mA _ (oA.set_out x1 _)).mono ?_⟩
   rintro r h2 ⟨rfl,o2,f2,l2⟩
   rw[List.length_set] at f2 l2
   have g2:h2[id]?=some (.row 5 (rows'.set i [.p (.int .i64 kk),.p (.str (cN (kk+1))),A,B,E])):=by rw[f2 id s5 x1,q1]
   simp-implicitDefEqProofs[-AV.cells,-AV.isCell,im,bi,bZ,il,bj,c1,c2,c3,c4,c5,c6,aa,g2,q2]
   have oB2:OwnL true h2 [B] [smL e.body] I2:=oB.frame fun j hj=>by
    have hne:id≠j:=fun e=>x2 (by rw[e];exact hj)
    rw[f2 j (oB.lt hj) (fun hm=>d123 j hm j (List.mem_append_left _ hj) rfl),List.getElem?_set_ne hne]
   refine⟨h1,(mB _ oB2).mono ?_⟩
   rintro r h3 ⟨rfl,o3,f3,l3⟩
   have g3:h3[id]?=some (.row 5 (rows'.set i [.p (.int .i64 kk),.p (.str (cN (kk+1))),A,B,E])):=by rw[f3 id (by omega) x2,g2]
   simp-implicitDefEqProofs[-AV.cells,-AV.isCell,im,bi,bZ,il,bj,c1,c2,c3,c4,c5,c6,aa,g3,q2]
   have oE3:OwnL true h3 [E] [smL e.els] I3:=oE.frame fun j hj=>by
    have:=oE.lt hj
    have hne:id≠j:=fun e=>x3 (by rw[e];exact hj)
    rw[f3 j (by omega) (fun hm=>d23 j hm j hj rfl),f2 j this (fun hm=>d123 j hm j (List.mem_append_right _ hj) rfl),List.getElem?_set_ne hne]
   refine⟨h1,(mE _ oE3).mono ?_⟩
   rintro r h4 ⟨rfl,o4,f4,l4⟩
   have hid4:id<h4.length:=by omega
   have hwi:=w1 (i:=i) (by omega)
   have hkn:k+bD (l.take (i+1))=kk+2+3*aN e.args+bD e.body+bD e.els:=by omega
   have oA4:OwnL true h4 [A] [exL (mC (kk+2) e.args)] I1:=o2.frame fun j hj=>by
    have:=o2.lt hj
    rw[f4 j (by omega) (fun hm=>d123 j hj j (List.mem_append_right _ hm) rfl),f3 j this (fun hm=>d123 j hj j (List.mem_append_left _ hm) rfl)]
   have oB4:OwnL true h4 [B] [smL (kf (kk+2+3*aN e.args) e.body)] I2:=o3.frame fun j hj=>by
    have:=o3.lt hj
    rw[f4 j this (fun hm=>d23 j hj j hm rfl)]
   have hgo:=s7 h4 [.p (.int .i64 kk),.p (.str (cN (kk+1))),A,B,E] (by rw[f4 id (by omega) x3,g3]) (fun j hj hn hm=>by
    simp only[List.mem_append,not_or] at hm
    rw[f4 j (by omega) hm.2.2,f3 j (by omega) hm.2.1,f2 j hj hm.1,List.getElem?_set_ne (fun e=>hn e.symm)]) (by
    rw[EO];exact .p _ (fun _=>rfl) (.p _ (fun _=>rfl) (oA4.app (oB4.app o4)))) (Sm.cs_len _) (by omega)
   simp-implicitDefEqProofs[aa]
   refine⟨⟨i+1,h4⟩,hgo,by simp only;omega,aP hgo.2.2.2 ?_⟩
   simp[below,hid4,hwi]
   omega
  ·simp at h1
   have hie:i=l.length:=by have:=hI.1;simp at this;omega
   obtain⟨⟨rows2,d1⟩,d2,d3⟩:=hI.done (by simpa using h1) (by simp[qR])
   subst hie
   rw[List.take_length]
   simp-implicitDefEqProofs[]
   refine⟨by simp,?_,d2,d3⟩
   have:=d1.tree (n:=l.length) (by simp[qR])
   exact this
def Fd.mq(f:Fd):Nat:=1+f.params.length+bD f.body
def cm(l:List Fd):Nat:=(l.map Fd.mq).sum
def mkF(k:Nat)(f:Fd):Fd:=⟨cN k,jw (k+1) f.params.length,kf (k+1+f.params.length) f.body⟩
def qa(k:Nat):List Fd→List Fd
 |[]=>[]
 |s::r=>mkF k s::qa (k+s.mq) r
theorem vF(a b:List Fd):cm (a++b)=cm a+cm b:=by simp[cm]
theorem qv:∀(l:List Fd) (k:Nat),(qa k l).length=l.length
 |[],k=>rfl
 |e::r,k=>by rw[qa,List.length_cons,qv r,List.length_cons]
theorem xS:∀(l:List Fd) (k i:Nat) (e:Fd),l[i]?=some e→(qa k l)[i]?=some (mkF (k+cm (l.take i)) e)
 |x::r,k,0,e,h=>by cases h;rfl
 |x::r,k,i+1,e,h=>by
  have:=xS r (k+x.mq) i e h
  have e1:cm (x::r.take i)=x.mq+cm (r.take i):=by simp[cm]
  rw[qa,List.getElem?_cons_succ,this,List.take_succ_cons,e1]
  congr 2
  omega
theorem Fg(k:Nat)(e:Fd):(mkF k e).cs=[.str (cN k),aB (jw (k+1) e.params.length),smL (kf (k+1+e.params.length) e.body)]:=rfl
theorem zE{l:List Fd}{i:Nat}(h:i<l.length):cm (l.take (i+1))=cm (l.take i)+l[i].mq:=by
 rw[aj h,vF];simp[cm]
theorem ti(l:List Fd)(i:Nat):cm (l.take i)≤cm l:=by
 have e:cm l=cm (l.take i)+cm (l.drop i):=by rw[←vF,List.take_append_drop]
 omega
theorem Az{l:List Fd}{e:Fd}(h:e∈l):e.mq≤cm l:=by
 induction l with
 |nil=>cases h
 |cons x r ih=>
  have e1:cm (x::r)=x.mq+cm r:=by simp[cm]
  rw[e1]
  rcases List.mem_cons.1 h with rfl|h
  ·omega
  ·have:=ih h;omega
theorem Bg(l:List Fd):l.length≤cm l:=by
 induction l with
 |nil=>exact Nat.zero_le _
 |cons x r ih=>
  have e1:cm (x::r)=x.mq+cm r:=by simp[cm]
  have e2:x.mq=1+x.params.length+bD x.body:=rfl
  rw[e1,List.length_cons];omega
theorem yW(l:List Fd)(h:List AO)(v:AV)(I:List Nat)(k:Nat)(ho:OwnL true h [v] [fdL l] I)(nd:I.Nodup)(hk:k+cm l≤1152921504606846976):
 AC Tryz.prog G gE [v,.p (.int .i64 k)] h (Mkd h v I (fdL (qa k l)) (.int .i64 ((k+cm l:Nat):Int))):=by
 have hll:=Bg l
 rcases ho.inv nd with⟨h0,rfl,rfl|rfl⟩|⟨h0,_⟩|⟨id,rows,J,rfl,rfl,hr⟩
 ·have hl0:l=[]:=List.map_eq_nil_iff.1 h0
  subst hl0
  refine AC.go gH ?_
  have hst:Mkd h .nils [] (fdL (qa k [])) (.int .i64 ((k+cm []:Nat):Int)) (.ret (.p (.int .i64 k))) h:=⟨rfl,.nils 3 .nil,fun _ _ _=>rfl,Nat.le_refl _⟩
  simp-implicitDefEqProofs[eu]
  refine au (fun _:Unit=>af 35 [(0,.nils),(1,.p (.int .i64 k)),(5,.p (.int .i64 0))]) (fun _=>h) (fun _=>True) (fun _=>0) () trivial (aP (Nat.le_refl _) (by simp[below])) ?_
  intro _ _
  simp-implicitDefEqProofs[]
  exact hst
 ·have hl0:l=[]:=List.map_eq_nil_iff.1 h0
  subst hl0
  refine AC.go gH ?_
  have hst:Mkd h (.p (.lst 3 [])) [] (fdL (qa k [])) (.int .i64 ((k+cm []:Nat):Int)) (.ret (.p (.int .i64 k))) h:=⟨rfl,.p _ (fun _=>rfl) .nil,fun _ _ _=>rfl,Nat.le_refl _⟩
  simp-implicitDefEqProofs[eu]
  refine au (fun _:Unit=>af 35 [(0,(.p (.lst 3 []))),(1,.p (.int .i64 k)),(5,.p (.int .i64 0))]) (fun _=>h) (fun _=>True) (fun _=>0) () trivial (aP (Nat.le_refl _) (by simp[below])) ?_
  intro _ _
  simp-implicitDefEqProofs[]
  exact hst
 ·cases h0
 rw[List.length_map]
 refine AC.go gH ?_
 simp-implicitDefEqProofs[eu]
 refine au (fun a:FilS=>af 35 [(0,.sl id 3 0 l.length),(1,.p (.int .i64 ((k+cm (l.take a.i):Nat):Int))),(5,.p (.int .i64 a.i))]) (fun a=>a.h) (MkI h id 3 ((qa k l).map Fd.cs) (l.map Fd.cs) J) (fun a=>l.length-a.i) ⟨0,h⟩ (MkI.init hr) ?_ ?_
 ·exact aP (Nat.le_refl _) (by simp[below,cm,hr.lt])
 rintro⟨i,hh⟩ hI
 simp-implicitDefEqProofs[]
 refine aR (fun h1=>?_) (fun h1=>?_)
 ·simp at h1
  have hg:=List.getElem?_eq_getElem h1
  have hP:=zE h1
  have hM:=Az (List.getElem_mem h1)
  have hT:=ti l (i+1)
  generalize l[i]=e at hg hP hM
  have hD:(l.map Fd.cs)[i]?=some e.cs:=by rw[List.getElem?_map,hg];rfl
  have hA:((qa k l).map Fd.cs)[i]?=some (mkF (k+cm (l.take i)) e).cs:=by rw[List.getElem?_map,xS l k i e hg];rfl
  obtain⟨rows',r,Ji,s1,s2,s3,s4,s5,s6,s7⟩:=hI.step hD hA
  obtain⟨A,B,I1,I2,rfl,rfl,oA,oB⟩:=AT s3
  obtain⟨c1,c2⟩:=dh oA
  obtain⟨c3,c4⟩:=dh oB
  have q1:∀x,(hh.set id x)[id]?=some x:=fun x=>List.getElem?_set_self s5
  have q2:∀x,(rows'.set i x)[i]?=some x:=fun x=>List.getElem?_set_self s6
  rw[List.nodup_cons] at s4
  obtain⟨hnid,n12⟩:=s4
  simp only[List.mem_append,not_or] at hnid
  obtain⟨x1,x2⟩:=hnid
  obtain⟨n1,n2,d12⟩:=List.nodup_append.1 n12
  have hpe:e.mq=1+e.params.length+bD e.body:=rfl
  have hmt:=jF G (k+cm (l.take i)) (by omega)
  generalize hkk:k+cm (l.take i)=kk at*
  have hkI:(k:Int)+(cm (l.take i):Int)=(kk:Int):=by omega
  have w0:IntKind.i64.wrap ((kk:Int)+1)=(kk:Int)+1:=ah (by omega) (by omega)
  have e2:((kk+1:Nat):Int)=(kk:Int)+1:=by omega
  have mA:=fun h1 ho=>ER G h1 A I1 e.params (kk+1) ho n1 (by omega)
  have mB:=fun h1 ho=>vv G (bD e.body+1) e.body (by omega) h1 B I2 (kk+1+e.params.length) ho n2 (by omega)
  rw[e2] at mA
  simp-implicitDefEqProofs[-AV.cells,-AV.isCell,im,bi,bZ,il,bj,c1,c2,c3,c4,s1,s2,q1,q2,hkI,w0]
  refine hmt.use ?_
  simp-implicitDefEqProofs[-AV.cells,-AV.isCell,im,bi,bZ,il,bj,c1,c2,c3,c4,s1,s2,q1,q2,w0]
  refine⟨h1,(mA _ (oA.set_out x1 _)).mono ?_⟩
  rintro r h2 ⟨rfl,o2,f2,l2⟩
  rw[List.length_set] at f2 l2
  have g2:h2[id]?=some (.row 3 (rows'.set i [.p (.str (cN kk)),A,B])):=by rw[f2 id s5 x1,q1]
  simp-implicitDefEqProofs[-AV.cells,-AV.isCell,im,bi,bZ,il,bj,c1,c2,c3,c4,aa,g2,q2]
  have oB2:OwnL true h2 [B] [smL e.body] I2:=oB.frame fun j hj=>by
   have hne:id≠j:=fun e=>x2 (by rw[e];exact hj)
   rw[f2 j (oB.lt hj) (fun hm=>d12 j hm j hj rfl),List.getElem?_set_ne hne]
  refine⟨h1,(mB _ oB2).mono ?_⟩
  rintro r h3 ⟨rfl,o3,f3,l3⟩
  have hid3:id<h3.length:=by omega
  have hwi:=w1 (i:=i) (by omega)
  have hkn:k+cm (l.take (i+1))=kk+1+e.params.length+bD e.body:=by omega
  have oA3:OwnL true h3 [A] [aB (jw (kk+1) e.params.length)] I1:=o2.frame fun j hj=>by
   have:=o2.lt hj
   rw[f3 j this (fun hm=>d12 j hj j hm rfl)]
  have hgo:=s7 h3 [.p (.str (cN kk)),A,B] (by rw[f3 id (by omega) x2,g2]) (fun j hj hn hm=>by
   simp only[List.mem_append,not_or] at hm
   rw[f3 j (by omega) hm.2,f2 j hj hm.1,List.getElem?_set_ne (fun e=>hn e.symm)]) (by
   rw[Fg];exact .p _ (fun _=>rfl) (oA3.app o3)) (Fd.cs_len _) (by omega)
  simp-implicitDefEqProofs[aa]
  refine⟨⟨i+1,h3⟩,hgo,by simp only;omega,aP hgo.2.2.2 ?_⟩
  simp[below,hid3,hwi]
  omega
 ·simp at h1
  have hie:i=l.length:=by have:=hI.1;simp at this;omega
  obtain⟨⟨rows2,d1⟩,d2,d3⟩:=hI.done (by simpa using h1) (by simp[qv])
  subst hie
  rw[List.take_length]
  simp-implicitDefEqProofs[]
  refine⟨by simp,?_,d2,d3⟩
  have:=d1.tree (n:=l.length) (by simp[qv])
  exact this
theorem rZ(l:List Fd)(h:List AO)(v:AV)(I:List Nat)(k:Nat)(ho:OwnL true h [v] [fdL l] I)(nd:I.Nodup)(hk:k+cm l≤1152921504606846976):
 AC Tryz.prog G eb [.agg [v],.p (.int .i64 k)] h (Mkd h v I (fdL (qa k l)) (.int .i64 ((k+cm l:Nat):Int))):=by
 obtain⟨c1,c2⟩:=dh ho
 have hm:=yW G l (h++[.row 1 [[v]]]) v I k (ho.more _) nd hk
 refine AC.go mJ ?_
 simp-implicitDefEqProofs[-AV.cells,-AV.isCell,im,bi,bZ,il,bj,c1,c2,ib]
 refine hm.mono ?_
 rintro r h2 ⟨rfl,o2,f2,l2⟩
 simp-implicitDefEqProofs[aa]
 rw[List.length_append] at f2 l2
 refine⟨by simp,o2,fun j hj hn=>?_,by omega⟩
 rw[f2 j (by omega) hn,List.getElem?_append_left hj]
end Go.Proofs.YtiojgfhdcpppcaaGreatDoor
namespace Go.Proofs.YtiojgfhdcpppcaaGreatDoor
open Go Go.Aw
set_option maxRecDepth 100000
set_option maxHeartbeats 4000000
def triL:List (List Int):=[[0,0,0],[1,2,3],[255,16,7]]
def kH(n:Nat):List (List Int):=triL.map (·.take n)
def nsL(l:List (List Int)):PV:= .lst 1 (l.map fun x=>[bE x])
def Cu(l:List (List Int)):AO:= .row 1 (l.map fun x=>[.p (bE x)])
def gn(l:List Fd):List (List Int):=if cG l=0 then(match l[l.length-1]? with|some f=>kH f.params.length|none=>[]) else[]
abbrev lc:Nat:=0
def pvTries:List PV:=[.int .i64 0,.int .i64 0,.int .i64 0,.int .i64 1,.int .i64 2,.int .i64 3,.int .i64 255,.int .i64 16,.int .i64 7]
def K_impl_triesOf:AK:= .seq (.reg [oJ 2 (.mov (.c .nils))]) (.seq (.reg [oJ 3 (.mov (.c .nils))]) (.seq (.seq (.reg [oJ 6 (.ld (some 9) (.c (.gp 0 0))),oK 7 0]) (.blk 0 (.loop (.seq (.reg [oJ 8 (.bin .lss (.t 7) (.c (.p (.int .i64 3))))]) (.seq (.cond (.t 8) (.skip) (.exit 0)) (.seq (.blk 1 (.cut (.reg [oJ 9 (.idxV 3 3 (some 3) (.t 6) (.t 7)),oJ 5 (.alloc [(.p (.int .i64 0)),(.p (.int .i64 0)),(.p (.int .i64 0))]),⟨none,none,.st 3 (.t 5) (.t 9)⟩]) (.reg [oM 10 3,oM 11 0,oJ 12 (.slA 3 1 (.t 5) none (some (.t 11))),oJ 13 (.call aT [(.t 12)]),oJ 14 (.bsl 1 [.nils] 1 [(0,1,(.t 13))]),oJ 15 (.app 1 24 (.t 10) (.t 14)),oM 3 15]))) (.reg [oJ 16 (.bin .add (.t 7) (.c (.p (.int .i64 1)))),oM 7 16]))))))) (.seq (.reg [oM 17 3,oM 2 17]) (.ret))))
theorem ka:K_impl_triesOf.whole=F_impl_triesOf.ak:=rfl
def K_spec_l5Inputs:AK:= .seq (.reg [oJ 2 (.mov (.c .nils))]) (.cut (.reg [oJ 6 (.bsl 1 [(.p (.int .i64 0))] 3 [(0,1,(.c (.p (.int .i64 0)))),(1,1,(.c (.p (.int .i64 0)))),(2,1,(.c (.p (.int .i64 0))))]),oJ 7 (.bsl 1 [(.p (.int .i64 0))] 3 [(0,1,(.c (.p (.int .i64 1)))),(1,1,(.c (.p (.int .i64 2)))),(2,1,(.c (.p (.int .i64 3))))]),oJ 8 (.bsl 1 [(.p (.int .i64 0))] 3 [(0,1,(.c (.p (.int .i64 255)))),(1,1,(.c (.p (.int .i64 16)))),(2,1,(.c (.p (.int .i64 7))))]),oJ 9 (.bsl 1 [.nils] 3 [(0,1,(.t 6)),(1,1,(.t 7)),(2,1,(.t 8))]),oM 3 9]) (.seq (.reg [oJ 10 (.bsl 1 [.nils] 0 []),oM 4 10]) (.seq (.seq (.reg [oK 5 0]) (.blk 0 (.loop (.seq (.seq (.reg [oM 11 5,oM 12 3,oJ 13 (.len false (.t 12)),oJ 14 (.bin .lss (.t 11) (.t 13))]) (.cond (.t 14) (.skip) (.exit 0))) (.seq (.blk 1 (.reg [oM 17 4,oJ 18 (.bsl 1 [(.p (.int .i64 0))] 0 []),oM 19 3,oM 20 5,oJ 21 (.idxS 1 (.t 19) (.t 20)),oL 22 21,oM 23 0,oJ 24 (.slS 1 (.t 22) none (some (.t 23))),oJ 25 (.app 1 8 (.t 18) (.t 24)),oJ 26 (.bsl 1 [.nils] 1 [(0,1,(.t 25))]),oJ 27 (.app 1 24 (.t 17) (.t 26)),oM 4 27])) (.reg [oM 15 5,oJ 16 (.bin .add (.t 15) (.c (.p (.int .i64 1)))),oM 5 16])))))) (.seq (.reg [oM 28 4,oM 2 28]) (.ret)))))
theorem pF:K_spec_l5Inputs.whole=F_spec_l5Inputs.ak:=rfl
variable (G:aA)
theorem BQ(L:List (List PV))(hl:∀x∈L,x.length=1)(hne:L≠[])(hb:L.length≤1048576):AC Tryz.prog G aT [.p (.lst 1 L)] [] fun x h=>x= .ret (.sl 1 1 0 L.length)∧h=[.dead,.row 1 (L.map (·.map .p))]:=by
 obtain⟨x,r,rfl⟩:=List.exists_cons_of_ne_nil hne
 refine AC.go gI ?_
 simp-implicitDefEqProofs[dX]
 simp at hb
 omega
theorem rd:VF Tryz.prog G aT [.p (.lst 1 [])] (.p (.lst 1 [])):=by
 have key:AC Tryz.prog G aT [.p (.lst 1 [])] [] fun x h=>∃v,x= .ret v∧View h v (.lst 1 []):=by
  refine AC.go gI ?_
  simp-implicitDefEqProofs[dX]
  refine⟨.nils 1,?_⟩
  exact View.sl 1 1 0 [] [] rfl (by simp) (by simp) (fun i j e q e' a h=>by simp at h)
 exact key.freezeR (fun t v h ⟨_,e,_⟩=>by cases e) fun v h ⟨u,e1,e2⟩=>by cases e1;exact .one e2 .nil
theorem wu(n:Nat)(hn:n≤3):VF Tryz.prog G dR [.p (.int .i64 n)] (.p (nsL (kH n))):=by
 have key:AC Tryz.prog G dR [.p (.int .i64 n)] [] fun x h=>x= .ret (.sl 0 1 0 3)∧h=[Cu (kH n)]:=by
  refine AC.goK pL pF ?_
  simp-implicitDefEqProofs[K_spec_l5Inputs,F_spec_l5Inputs]
  have hv:∀h:List AO,h[0]?=some (iW [0,0,0])→h[1]?=some (iW [1,2,3])→h[2]?=some (iW [255,16,7])→h[3]?=some (.row 1 [[.sl 0 1 0 3],[.sl 1 1 0 3],[.sl 2 1 0 3]])→View h (.sl 3 1 0 3) (nsL triL):=by
   intro h h0 h1 h2 h3
   have v0:=ll h0
   have v1:=ll h1
   have v2:=ll h2
   refine View.sl 3 1 0 _ [[bE [0,0,0]],[bE [1,2,3]],[bE [255,16,7]]] h3 (by simp) (by simp) fun i j e q e' a a1 a2 a3 a4=>?_
   rw[Nat.zero_add] at a3
   match i,j,a1,a2,a3,a4 with
   |0,0,a1,a2,a3,a4=>cases a1;cases a2;cases a3;cases a4;exact v0
   |1,0,a1,a2,a3,a4=>cases a1;cases a2;cases a3;cases a4;exact v1
   |2,0,a1,a2,a3,a4=>cases a1;cases a2;cases a3;cases a4;exact v2
   |i+3,_,a1,a2,a3,a4=>simp at a1
   |0,j+1,a1,a2,a3,a4=>cases a1;simp at a2
   |1,j+1,a1,a2,a3,a4=>cases a1;simp at a2
   |2,j+1,a1,a2,a3,a4=>cases a1;simp at a2
  refine gR (af 29 [(0,.p (.int .i64 n)),(3,.p (nsL triL))]) [] ?_ ?_
  ·simp-implicitDefEqProofs[]
   refine fG 0 (by omega) (by simp) rfl (.nil _) ⟨.keep (by simp[below]) .nil,.one (hv _ rfl rfl rfl rfl) .nil,trivial⟩
  simp-implicitDefEqProofs[]
  have hns:nsL triL= .lst 1 [[bE [0,0,0]],[bE [1,2,3]],[bE [255,16,7]]]:=rfl
  refine au (fun i:Nat=>af 29 [(0,.p (.int .i64 n)),(3,.p (nsL triL)),(4,.sl 0 1 0 i),(5,.p (.int .i64 i))]) (fun i=>[Cu ((kH n).take i)]) (fun i=>i≤3) (fun i=>3-i) 0 (by simp) ?_ ?_
  ·have e:Cu ((kH n).take 0)= .row 1 []:=rfl
   rw[e]
   refine ab ?_ ?_ ?_
   ·simp
   ·simp[okO]
   ·simp[below,hns]
  intro i hi
  simp-implicitDefEqProofs[hns]
  refine aR (fun h=>?_) (fun h=>?_)
  ·simp at h
   have hx:∃x:List Int,[[bE [0,0,0]],[bE [1,2,3]],[bE [255,16,7]]][i]?=some [bE x]∧x.length=3∧(kH n).take (i+1)=(kH n).take i++[x.take n]∧((kH n).take i).length=i:=by
    match i,h with
    |0,_=>exact⟨[0,0,0],rfl,rfl,rfl,rfl⟩
    |1,_=>exact⟨[1,2,3],rfl,rfl,rfl,rfl⟩
    |2,_=>exact⟨[255,16,7],rfl,rfl,rfl,rfl⟩
   obtain⟨x,hg,hx3,hT,hli⟩:=hx
   have hxl:bE x= .lst 1 (x.map fun n=>[.int .i64 n]):=rfl
   have hmin:min n x.length=n:=Nat.min_eq_left (by omega)
   have hnx:n≤x.length:=by omega
   rw[hxl] at hg
   generalize (kH n).take i=out at hT hli⊢
   have hin:∀l,Cu l= .row 1 (l.map fun x=>[.p (bE x)]):=fun _=>rfl
   simp-implicitDefEqProofs[hg,hnx,hmin,hin]
   refine⟨⟨by omega,by omega⟩,⟨by omega,by omega,by omega⟩,i+1,by omega,by omega,?_⟩
   have e4:List.take (i+1) ((kH n).map fun x=>[AV.p (bE x)])=(out.map fun x=>[AV.p (bE x)])++[[.p (bE (x.take n))]]:=by rw[←List.map_take,hT,List.map_append];rfl
   rw[e4,List.take_of_length_le (l:=List.map _ out) (by rw[List.length_map];omega)]
   have hpu:∀y∈out.map fun x=>[AV.p (bE x)],ag 0 y:=fun y hy=>by obtain⟨_,_,rfl⟩:=List.mem_map.1 hy;simp
   refine Wk.trans (ts1:=af 29 [(0,.p (.int .i64 n)),(3,.p (nsL triL)),(4,.sl 0 1 0 (i+1)),(5,.p (.int .i64 (i+1:Nat)))]) (h1:=[.row 1 ((out.map fun x=>[AV.p (bE x)])++[[.sl 1 1 0 n]]),iW (x.take n)]) (kY [4,2] (by simp) (by simp) (by decide) (iC (fun y hy=>?_) ?_ (bh ?_ ?_ bJ)) ?_) (fG 1 (by omega) (by simp) rfl (.rows (by simp) (fun j e e1 h1 h2=>?_) (.nil _)) ?_)
   ·rcases List.mem_append.1 hy with h|h
    ·exact aV (by simp) _ (hpu y h)
    ·rw[List.mem_singleton.1 h];simp[below]
   ·show some _=some _
    rw[List.map_append,List.map_congr_left (g:=id) fun y hy=>ff _ y (hpu y hy)]
    simp[ren,bp]
   ·simp[iW,List.map_take]
    rfl
   ·exact fun y hy=>by obtain⟨_,_,rfl⟩:=List.mem_map.1 hy;simp
   ·simp[below,ren,hns,w1 (i:=i) (by omega)]
   ·rcases Nat.lt_or_ge j out.length with hj|hj
    ·rw[List.getElem?_append_left (by simpa using hj)] at h1 h2
     rw[h1] at h2;cases h2
     obtain⟨_,_,rfl⟩:=List.mem_map.1 (List.mem_of_getElem? h1)
     exact .keep (by simp) .nil
    ·rw[List.getElem?_append_right (by simpa using hj)] at h1 h2
     rw[List.length_map] at h1 h2
     generalize j-out.length=q at h1 h2
     cases q with
     |succ q=>simp at h1
     |zero=>
      simp at h1 h2;subst h1;subst h2
      have hv:=ll (l:=x.take n) (id:=1) (h:=nz 1 [.row 1 ((out.map fun x=>[AV.p (bE x)])++[[.sl 1 1 0 n]]),iW (x.take n)]) rfl
      rw[List.length_take,hmin] at hv
      exact .one hv .nil
   ·exact⟨.keep (by simp[below]) .nil,.keep (by simp[below,hns]) .nil,.keep (by simp[below]) .nil,.keep (by simp[below]) .nil,trivial⟩
  ·simp at h
   have hie:i=3:=by omega
   subst hie
   have:(kH n).take 3=kH n:=rfl
   rw[this]
   simp-implicitDefEqProofs[]
 refine key.freezeR (fun t v h ⟨e,_⟩=>by cases e) fun v h ⟨e1,e2⟩=>?_
 cases e1
 subst e2
 have:=eB (h:=[.row 1 ((kH n).map fun x=>[AV.p (bE x)])]) (id:=0) (sz:=1) (n:=3) (ls:=(kH n).map fun x=>[bE x]) (by simp) (by simp[kH,triL]) (fun x hx=>by obtain⟨b,_,rfl⟩:=List.mem_map.1 hx;rfl)
 exact .one this .nil
end Go.Proofs.YtiojgfhdcpppcaaGreatDoor
namespace Go.Proofs.YtiojgfhdcpppcaaGreatDoor
open Go Go.Aw
set_option maxRecDepth 100000
set_option maxHeartbeats 4000000
variable (G:aA)
def trO(x:List Int)(n:Nat):AO:=iW (x.take n)
def trH(n:Nat):Nat→List AO
 |0=>[]
 |1=>[trO [0,0,0] n,.row 1 [[.sl 0 1 0 n]]]
 |2=>[trO [0,0,0] n,trO [1,2,3] n,.row 1 [[.sl 0 1 0 n],[.sl 1 1 0 n]]]
 |_=>[trO [0,0,0] n,trO [1,2,3] n,trO [255,16,7] n,.row 1 [[.sl 0 1 0 n],[.sl 1 1 0 n],[.sl 2 1 0 n]]]
def trS:Nat→AV
 |0=> .nils
 |i+1=> .sl (i+1) 1 0 (i+1)
theorem jK(x:List Int)(n m:Nat):okO m (trO x n):=eD (yi _)
theorem EH(x:List Int)(n m:Nat):cd m (trO x n)=trO x n:=by
 simp only[trO,cd,iW,List.map_map];rfl
theorem rM(x:List Int)(n:Nat)(hn:0<n)(hnx:n≤x.length)(hb:x.length≤1000)(h:List AO):AC Tryz.prog G aT [.p (.lst 1 (List.take n (x.map fun v=>[.int .i64 v])))] h fun y h'=>y= .ret (.sl (h.length+1) 1 0 n)∧h'=h++[.dead,trO x n]:=by
 have hl:(List.take n (x.map fun v=>[PV.int .i64 v])).length=n:=by rw[List.length_take,List.length_map];omega
 have:=BQ G (List.take n (x.map fun v=>[.int .i64 v])) (fun y hy=>by obtain⟨_,_,rfl⟩:=List.mem_map.1 (List.mem_of_mem_take hy);rfl) (by intro e;rw[e] at hl;simp at hl;omega) (by rw[hl];omega)
 rw[hl] at this
 have e:AO.row 1 ((List.take n (x.map fun v=>[PV.int .i64 v])).map (·.map .p))=trO x n:=by
  rw[trO,iW,←List.map_take,List.map_map];rfl
 rw[e] at this
 refine(AC.lift this (by simp) rfl ?_).mono ?_
 ·simp[xo,trO,iW,pk,ra]
  intro y hy
  obtain⟨_,_,rfl⟩:=List.mem_map.1 (List.mem_of_mem_take hy)
  rfl
 ·rintro y h' ⟨rfl,rfl⟩
  refine⟨?_,?_⟩
  ·rfl
  ·simp only[List.map_cons,List.map_nil,EH];rfl
variable (hT:G lc=some pvTries)
include hT
theorem we(n:Nat)(hn0:0<n)(hn:n≤3):AC Tryz.prog G cW [.p (.int .i64 n)] [] fun x h=>x= .ret (.sl 3 1 0 3)∧h=trH n 3:=by
 unfold lc at hT
 refine AC.goK kS ka ?_
 simp-implicitDefEqProofs[K_impl_triesOf,F_impl_triesOf,hT,pvTries]
 refine au (fun i:Nat=>af 18 [(0,.p (.int .i64 n)),(3,trS i),(6,.agg (pvTries.map .p)),(7,.p (.int .i64 i))]) (trH n) (fun i=>i≤3) (fun i=>3-i) 0 (by simp) ?_ ?_
 ·show Wk 0 _ _ _ []
  exact ay rfl (by simp[below,trS,pvTries])
 intro i hi
 have hnI:(n:Int)≤3:=by omega
 simp-implicitDefEqProofs[pvTries]
 refine aR (fun h=>?_) (fun h=>?_)
 ·simp at h
  have hi3:i=0∨i=1∨i=2:=by omega
  rcases hi3 with rfl|rfl|rfl
  ·simp-implicitDefEqProofs[]
   refine gR (af 18 [(0,.p (.int .i64 n)),(3,.nils),(5,.eptr [.int .i64 0,.int .i64 0,.int .i64 0] 0),(6,.agg (pvTries.map .p)),(7,.p (.int .i64 0))]) [] ?_ ?_
   ·simp-implicitDefEqProofs[trH,trS]
    refine fG 0 (by omega) (by simp) rfl (.nil _) ?_
    exact⟨.keep (by simp[below]) .nil,.keep (by simp[below]) .nil,.ptr rfl rfl .nil,.keep (by simp[below,pvTries]) .nil,.keep (by simp[below]) .nil,trivial⟩
   have hcl:=rM G [0,0,0] n hn0 hn (by simp) []
   simp only[List.map_cons,List.map_nil] at hcl
   simp-implicitDefEqProofs[hn]
   refine hcl.mono ?_
   rintro r h2 ⟨rfl,rfl⟩
   simp-implicitDefEqProofs[aa]
   refine⟨1,by omega,by omega,?_⟩
   have w0:IntKind.i64.wrap 1=1:=by decide
   rw[w0]
   simp only[trH,trS]
   refine bR [1,3] (by omega) (by simp) (iH (o:=trO [0,0,0] n) rfl (jK _ _ _) (iC (by simp[below]) (by simp[ren,bp]) bJ)) ?_
   simp[below,ren]
   rfl
  ·simp-implicitDefEqProofs[]
   refine gR (af 18 [(0,.p (.int .i64 n)),(3,.sl 1 1 0 1),(5,.eptr [.int .i64 1,.int .i64 2,.int .i64 3] 0),(6,.agg (pvTries.map .p)),(7,.p (.int .i64 1))]) [trO [0,0,0] n,.row 1 [[.sl 0 1 0 n]]] ?_ ?_
   ·simp-implicitDefEqProofs[trH,trS]
    refine fG 2 (by omega) (by simp) rfl (.same (jK _ _ _) (.same (by simp[okO,below]) (.nil _))) ?_
    exact⟨.keep (by simp[below]) .nil,.keep (by simp[below]) .nil,.ptr rfl rfl .nil,.keep (by simp[below,pvTries]) .nil,.keep (by simp[below]) .nil,trivial⟩
   have hcl:=rM G [1,2,3] n hn0 hn (by simp) [trO [0,0,0] n,.row 1 [[.sl 0 1 0 n]]]
   simp only[List.map_cons,List.map_nil] at hcl
   simp-implicitDefEqProofs[hn]
   refine hcl.mono ?_
   rintro r h2 ⟨rfl,rfl⟩
   simp-implicitDefEqProofs[aa]
   refine⟨2,by omega,by omega,?_⟩
   have w0:IntKind.i64.wrap 2=2:=by decide
   rw[w0]
   simp only[trH,trS]
   refine bR [0,3,5] (by omega) (by simp) (iH (o:=trO [0,0,0] n) rfl (jK _ _ _) (iH (o:=trO [1,2,3] n) rfl (jK _ _ _) (iC (by simp[below]) (by simp[ren,bp]) bJ))) ?_
   simp[below,ren]
   rfl
  ·simp-implicitDefEqProofs[]
   refine gR (af 18 [(0,.p (.int .i64 n)),(3,.sl 2 1 0 2),(5,.eptr [.int .i64 255,.int .i64 16,.int .i64 7] 0),(6,.agg (pvTries.map .p)),(7,.p (.int .i64 2))]) [trO [0,0,0] n,trO [1,2,3] n,.row 1 [[.sl 0 1 0 n],[.sl 1 1 0 n]]] ?_ ?_
   ·simp-implicitDefEqProofs[trH,trS]
    refine fG 3 (by omega) (by simp) rfl (.same (jK _ _ _) (.same (jK _ _ _) (.same (by simp[okO,below]) (.nil _)))) ?_
    exact⟨.keep (by simp[below]) .nil,.keep (by simp[below]) .nil,.ptr rfl rfl .nil,.keep (by simp[below,pvTries]) .nil,.keep (by simp[below]) .nil,trivial⟩
   have hcl:=rM G [255,16,7] n hn0 hn (by simp) [trO [0,0,0] n,trO [1,2,3] n,.row 1 [[.sl 0 1 0 n],[.sl 1 1 0 n]]]
   simp only[List.map_cons,List.map_nil] at hcl
   simp-implicitDefEqProofs[hn]
   refine hcl.mono ?_
   rintro r h2 ⟨rfl,rfl⟩
   simp-implicitDefEqProofs[aa]
   refine⟨3,by omega,by omega,?_⟩
   have w0:IntKind.i64.wrap 3=3:=by decide
   rw[w0]
   simp only[trH,trS]
   refine bR [0,1,4,6] (by omega) (by simp) (iH (o:=trO [0,0,0] n) rfl (jK _ _ _) (iH (o:=trO [1,2,3] n) rfl (jK _ _ _) (iH (o:=trO [255,16,7] n) rfl (jK _ _ _) (iC (by simp[below]) (by simp[ren,bp]) bJ)))) ?_
   simp[below,ren]
   rfl
 ·simp at h
  have hie:i=3:=by omega
  subst hie
  simp-implicitDefEqProofs[trS]
def trZ(i:Nat):List AO:=if i=0 then[] else[.row 1 (List.replicate i [.p (.lst 1 [])])]
def tG(i:Nat):AV:=if i=0 then .nils else .sl 0 1 0 i
theorem xh:AC Tryz.prog G cW [.p (.int .i64 0)] [] fun x h=>x= .ret (.sl 0 1 0 3)∧h=[.row 1 (List.replicate 3 [.p (.lst 1 [])])]:=by
 unfold lc at hT
 refine AC.goK kS ka ?_
 simp-implicitDefEqProofs[K_impl_triesOf,F_impl_triesOf,hT,pvTries]
 refine au (fun i:Nat=>af 18 [(0,.p (.int .i64 0)),(3,tG i),(6,.agg (pvTries.map .p)),(7,.p (.int .i64 i))]) trZ (fun i=>i≤3) (fun i=>3-i) 0 (by simp) ?_ ?_
 ·show Wk 0 _ _ _ []
  exact ay rfl (by simp[below,tG,pvTries])
 intro i hi
 simp-implicitDefEqProofs[pvTries]
 refine aR (fun h=>?_) (fun h=>?_)
 ·simp at h
  have hi3:i=0∨i=1∨i=2:=by omega
  rcases hi3 with rfl|rfl|rfl
  ·simp-implicitDefEqProofs[]
   refine gR (af 18 [(0,.p (.int .i64 0)),(3,.nils),(5,.eptr [.int .i64 0,.int .i64 0,.int .i64 0] 0),(6,.agg (pvTries.map .p)),(7,.p (.int .i64 0))]) [] ?_ ?_
   ·simp-implicitDefEqProofs[trZ,tG]
    refine fG 0 (by omega) (by simp) rfl (.nil _) ?_
    exact⟨.keep (by simp[below]) .nil,.keep (by simp[below]) .nil,.ptr rfl rfl .nil,.keep (by simp[below,pvTries]) .nil,.keep (by simp[below]) .nil,trivial⟩
   simp-implicitDefEqProofs[]
   refine(rd G).use ?_
   simp-implicitDefEqProofs[]
   refine⟨1,by omega,by omega,?_⟩
   have w0:IntKind.i64.wrap 1=1:=by decide
   rw[w0]
   have e1:trZ 1=[.row 1 [[.p (.lst 1 [])]]]:=rfl
   have e2:tG 1= .sl 0 1 0 1:=rfl
   rw[e1,e2]
   refine bR [1] (by omega) (by simp) (bh rfl (by simp) bJ) ?_
   simp[below,ren]
   rfl
  ·simp-implicitDefEqProofs[]
   refine gR (af 18 [(0,.p (.int .i64 0)),(3,.sl 0 1 0 1),(5,.eptr [.int .i64 1,.int .i64 2,.int .i64 3] 0),(6,.agg (pvTries.map .p)),(7,.p (.int .i64 1))]) [.row 1 [[.p (.lst 1 [])]]] ?_ ?_
   ·simp-implicitDefEqProofs[trZ,tG]
    refine fG 1 (by omega) (by simp) rfl (.same (by simp[okO,below]) (.nil _)) ?_
    exact⟨.keep (by simp[below]) .nil,.keep (by simp[below]) .nil,.ptr rfl rfl .nil,.keep (by simp[below,pvTries]) .nil,.keep (by simp[below]) .nil,trivial⟩
   simp-implicitDefEqProofs[]
   refine(rd G).use ?_
   simp-implicitDefEqProofs[]
   refine⟨2,by omega,by omega,?_⟩
   have w0:IntKind.i64.wrap 2=2:=by decide
   rw[w0]
   have e1:trZ 2=[.row 1 [[.p (.lst 1 [])],[.p (.lst 1 [])]]]:=rfl
   have e2:tG 2= .sl 0 1 0 2:=rfl
   rw[e1,e2]
   refine bR [2] (by omega) (by simp) (bh rfl (by simp) bJ) ?_
   simp[below,ren]
   rfl
  ·simp-implicitDefEqProofs[]
   refine gR (af 18 [(0,.p (.int .i64 0)),(3,.sl 0 1 0 2),(5,.eptr [.int .i64 255,.int .i64 16,.int .i64 7] 0),(6,.agg (pvTries.map .p)),(7,.p (.int .i64 2))]) [.row 1 [[.p (.lst 1 [])],[.p (.lst 1 [])]]] ?_ ?_
   ·simp-implicitDefEqProofs[trZ,tG]
    refine fG 1 (by omega) (by simp) rfl (.same (by simp[okO,below]) (.nil _)) ?_
    exact⟨.keep (by simp[below]) .nil,.keep (by simp[below]) .nil,.ptr rfl rfl .nil,.keep (by simp[below,pvTries]) .nil,.keep (by simp[below]) .nil,trivial⟩
   simp-implicitDefEqProofs[]
   refine(rd G).use ?_
   simp-implicitDefEqProofs[]
   refine⟨3,by omega,by omega,?_⟩
   have w0:IntKind.i64.wrap 3=3:=by decide
   rw[w0]
   have e1:trZ 3=[.row 1 [[.p (.lst 1 [])],[.p (.lst 1 [])],[.p (.lst 1 [])]]]:=rfl
   have e2:tG 3= .sl 0 1 0 3:=rfl
   rw[e1,e2]
   refine bR [2] (by omega) (by simp) (bh rfl (by simp) bJ) ?_
   simp[below,ren]
   rfl
 ·simp at h
  have hie:i=3:=by omega
  subst hie
  simp-implicitDefEqProofs[trZ,tG]
omit hT
theorem lh{h:List AO}{id:Nat}{l:List Int}(e:h[id]?=some (iW l)){n:Nat}(hn:n=l.length):OwnL true h [.sl id 1 0 n] [bE l] [id]:=by
 subst hn
 have hf:∀l:List Int,OwnL true h (l.map fun w=>[AV.p (.int .i64 w)]).flatten (l.map fun w=>[PV.int .i64 w]).flatten []:=by
  intro l
  induction l with
  |nil=>exact .nil
  |cons w r ih=>exact .p _ (fun _=>rfl) ih
 have:RowOwn true h id 1 (l.map fun w=>[.p (.int .i64 w)]) (l.map fun w=>[.int .i64 w]) []:=⟨e,by simp,by simp,by simp,hf l,by simp⟩
 exact this.tree (by simp)
include hT
theorem yT(n:Nat)(hn:n≤3):AC Tryz.prog G cW [.p (.int .i64 n)] [] (MkW one true [nsL (kH n)]):=by
 rcases Nat.eq_zero_or_pos n with rfl|h0
 ·refine(xh G hT).mono ?_
  rintro x h ⟨rfl,rfl⟩
  have hr:RowOwn true [AO.row 1 (List.replicate 3 [AV.p (.lst 1 [])])] 0 1 (List.replicate 3 [AV.p (.lst 1 [])]) (List.replicate 3 [PV.lst 1 []]) []:=⟨rfl,rfl,by simp,by simp,.p _ (fun _=>rfl) (.p _ (fun _=>rfl) (.p _ (fun _=>rfl) .nil)),by simp⟩
  exact⟨[.sl 0 1 0 3],_,rfl,hr.tree rfl,by simp⟩
 ·refine(we G hT n h0 hn).mono ?_
  rintro x h ⟨rfl,rfl⟩
  have hl:∀x:List Int,x.length=3→n=(x.take n).length:=fun x e=>by rw[List.length_take];omega
  have o1:OwnL true (trH n 3) [.sl 0 1 0 n] [bE ([0,0,0].take n)] [0]:=lh rfl (hl _ rfl)
  have o2:OwnL true (trH n 3) [.sl 1 1 0 n] [bE ([1,2,3].take n)] [1]:=lh rfl (hl _ rfl)
  have o3:OwnL true (trH n 3) [.sl 2 1 0 n] [bE ([255,16,7].take n)] [2]:=lh rfl (hl _ rfl)
  have hr:RowOwn true (trH n 3) 3 1 [[.sl 0 1 0 n],[.sl 1 1 0 n],[.sl 2 1 0 n]] [[bE ([0,0,0].take n)],[bE ([1,2,3].take n)],[bE ([255,16,7].take n)]] [0,1,2]:=⟨rfl,rfl,by simp,by simp,o1.app (o2.app o3),by simp⟩
  exact⟨[.sl 3 1 0 3],_,rfl,hr.tree rfl,by simp⟩
end Go.Proofs.YtiojgfhdcpppcaaGreatDoor
namespace Go.Proofs.YtiojgfhdcpppcaaGreatDoor
open Go Go.Aw
set_option maxRecDepth 100000
set_option maxHeartbeats 4000000
theorem xM{l:List Fd}(h:cG l=0):∃f,l[l.length-1]?=some f∧f.params.length≤3∧1≤l.length∧gn l=kH f.params.length:=by
 have hp:=((Dm l).1 h).1
 obtain⟨⟨h1,_⟩,h2,_⟩:=(wS l).1 hp
 have hn:l.length-1<l.length:=by omega
 have hg:=List.getElem?_eq_getElem hn
 refine⟨l[l.length-1],hg,?_,h1,?_⟩
 ·have:=h2 _ (List.getElem_mem hn)
  simp only[ik,Bool.and_eq_true,decide_eq_true_eq] at this
  exact this.1.2
 ·rw[gn,if_pos h,hg]
theorem xP{l:List Fd}(h:¬cG l=0):gn l=[]:=if_neg h
variable (G:aA)
theorem vh(l:List Fd)(hz:cb l≤1073741824):VF Tryz.prog G dm [.agg [.p (fdL l)]] (.p (nsL (gn l))):=by
 have key:AC Tryz.prog G dm [.agg [.p (fdL l)]] [] fun x h=>∃v,x= .ret v∧View h v (nsL (gn l)):=by
  refine AC.go nW ?_
  have hll:=cu l
  have hfl:fdL l= .lst 3 (l.map Fd.cs):=rfl
  simp-implicitDefEqProofs[iZ]
  refine(BK G l hz).use ?_
  by_cases h0:cG l=0
  case neg=>
   rw[xP h0]
   simp-implicitDefEqProofs[h0]
   exact View.sl _ 1 0 [] [] rfl (by simp) (by simp) (fun i j e q e' a h=>by simp at h)
  obtain⟨f,hg,hf3,hl1,hi⟩:=xM h0
  have hw:IntKind.i64.wrap ((l.length:Int)-1)=((l.length-1:Nat):Int):=by rw[ah (by omega) (by omega)];omega
  have hcs:=f.cs_eq'
  rw[hi]
  have hsl:∀l,aB l= .lst 1 (l.map fun w=>[.str w]):=fun _=>rfl
  simp-implicitDefEqProofs[h0,hfl,hw,hg,hcs,hsl]
  refine(wu G f.params.length hf3).use ?_
  simp-implicitDefEqProofs[]
  exact .p _
 exact key.freezeR (fun t v h ⟨_,e,_⟩=>by cases e) fun v h ⟨u,e1,e2⟩=>by cases e1;exact .one e2 .nil
variable (hT:G lc=some pvTries) (hK:G gX=some fY) (hS:G dM=some [.tbl opK opV])
include hT hK hS
theorem oW(l:List Fd)(hz:cb l≤1073741824):AC Tryz.prog G bM [.agg [.p (fdL l)]] [] (MkW one true [nsL (gn l)]):=by
 refine AC.go oe ?_
 have hll:=cu l
 have hfl:fdL l= .lst 3 (l.map Fd.cs):=rfl
 simp-implicitDefEqProofs[js]
 refine(EU G hK hS l hz).use ?_
 by_cases h0:cG l=0
 case neg=>
  rw[xP h0]
  simp-implicitDefEqProofs[h0]
  exact⟨[.nils],[],rfl,.nils 1 .nil,List.nodup_nil⟩
 obtain⟨f,hg,hf3,hl1,hi⟩:=xM h0
 have hw:IntKind.i64.wrap ((l.length:Int)-1)=((l.length-1:Nat):Int):=by rw[ah (by omega) (by omega)];omega
 have hcs:=f.cs_eq'
 rw[hi]
 have hsl:∀l,aB l= .lst 1 (l.map fun w=>[.str w]):=fun _=>rfl
 have hA:=fun h:List AO=>AC.mkLift fA (yT G hT f.params.length hf3) (h:=h) (by simp)
 simp-implicitDefEqProofs[h0,hfl,hw,hg,hcs,hsl]
 refine(hA _).mono ?_
 rintro x h2 ⟨vs,I,os,rfl,rfl,ho,nd,hf⟩
 obtain⟨v,rfl⟩:=bC ho
 simp-implicitDefEqProofs[aa,one]
 exact⟨[v],I,rfl,ho,nd⟩
theorem uf(l:List Fd)(hz:cb l≤1073741824):VF Tryz.prog G bM [.agg [.p (fdL l)]] (.p (nsL (gn l))):=
 AC.mkFreeze fA (oW G hT hK hS l hz)
end Go.Proofs.YtiojgfhdcpppcaaGreatDoor
namespace Go.Proofs.YtiojgfhdcpppcaaGreatDoor
open Go Go.Aw
set_option maxRecDepth 100000
set_option maxHeartbeats 4000000
variable (G:aA)
theorem zg(xs:List Int)(hb:xs.length≤1048576):VF Tryz.prog G iT [.p (bE xs),.p (bE xs)] (.p (.bool true)):=by
 refine AC.go sc ?_
 have hsl:∀l,bE l= .lst 1 (l.map fun w=>[.int .i64 w]):=fun _=>rfl
 simp-implicitDefEqProofs[lP,hsl]
 refine au (fun i:Nat=>af 26 [(0,.p (bE xs)),(1,.p (bE xs)),(5,.p (.int .i64 i))]) (fun _=>[]) (fun i=>i≤xs.length) (fun i=>xs.length-i) 0 (by simp) ?_ ?_
 ·exact ay rfl (by simp[below,bE])
 intro i hi
 simp-implicitDefEqProofs[hsl]
 refine aR (fun h1=>?_) (fun h1=>?_)
 ·simp at h1
  have hg:xs[i]?=some xs[i]:=List.getElem?_eq_getElem h1
  generalize xs[i]=x at hg
  simp-implicitDefEqProofs[hg]
  refine⟨i+1,by omega,by omega,ay rfl ?_⟩
  simp[below,bE,w1 (i:=i) (by omega)]
 ·simp at h1
  simp-implicitDefEqProofs[]
theorem wJ(L:List (List Int))(hb:L.length≤1048576)(hx:∀x∈L,x.length≤1048576):VF Tryz.prog G da [.p (nsL L),.p (nsL L)] (.p (.bool true)):=by
 refine AC.go rJ ?_
 have hsl:∀l,nsL l= .lst 1 (l.map fun w=>[bE w]):=fun _=>rfl
 simp-implicitDefEqProofs[kO,hsl]
 refine au (fun i:Nat=>af 27 [(0,.p (nsL L)),(1,.p (nsL L)),(5,.p (.int .i64 i))]) (fun _=>[]) (fun i=>i≤L.length) (fun i=>L.length-i) 0 (by simp) ?_ ?_
 ·exact ay rfl (by simp[below,nsL])
 intro i hi
 simp-implicitDefEqProofs[hsl]
 refine aR (fun h1=>?_) (fun h1=>?_)
 ·simp at h1
  have hg:L[i]?=some L[i]:=List.getElem?_eq_getElem h1
  have hm:=hx _ (List.getElem_mem h1)
  generalize L[i]=x at hg hm
  simp-implicitDefEqProofs[hg]
  refine(zg G x hm).use ?_
  simp-implicitDefEqProofs[]
  refine⟨i+1,by omega,by omega,ay rfl ?_⟩
  simp[below,nsL,w1 (i:=i) (by omega)]
 ·simp at h1
  simp-implicitDefEqProofs[]
theorem vA{h:List AO}:∀{ps:List Int} {vs:List AV} {J:List Nat},OwnL true h vs (ps.map (PV.int .i64)) J→vs=ps.map (fun w=> .p (.int .i64 w))∧J=[]
 |[],vs,J,H=>by
  cases H
  exact⟨rfl,rfl⟩
 |w::r,vs,J,H=>by
  rw[List.map_cons] at H
  cases H with
  |p _ _ H=>
   obtain⟨e1,e2⟩:=vA H
   exact⟨by rw[e1];rfl,e2⟩
theorem sE:∀ps:List Int,(ps.map fun w=>[PV.int .i64 w]).flatten=ps.map (PV.int .i64)
 |[]=>rfl
 |w::r=>by rw[List.map_cons,List.flatten_cons,sE r];rfl
theorem Ew(h:List AO)(v:AV)(I:List Nat)(ps:List Int)(k:Nat)(ho:OwnL true h [v] [bE ps] I)(nd:I.Nodup)(hk:k+ps.length≤1152921504606846976):
 AC Tryz.prog G dV [v,.p (.int .i64 k)] h (Mkd h v I (bE (iS k ps.length)) (.int .i64 ((k+ps.length:Nat):Int))):=by
 rcases ho.inv nd with⟨h0,rfl,rfl|rfl⟩|⟨h0,_⟩|⟨id,rows,J,rfl,rfl,hr⟩
 ·have hl0:ps=[]:=List.map_eq_nil_iff.1 h0
  subst hl0
  refine AC.go dS ?_
  have hst:Mkd h .nils [] (bE (iS k 0)) (.int .i64 ((k+0:Nat):Int)) (.ret (.p (.int .i64 k))) h:=⟨rfl,.nils 1 .nil,fun _ _ _=>rfl,Nat.le_refl _⟩
  simp-implicitDefEqProofs[dT]
  refine au (fun _:Unit=>af 19 [(0,.nils),(1,.p (.int .i64 k)),(5,.p (.int .i64 0))]) (fun _=>h) (fun _=>True) (fun _=>0) () trivial (aP (Nat.le_refl _) (by simp[below])) ?_
  intro _ _
  simp-implicitDefEqProofs[]
  exact hst
 ·have hl0:ps=[]:=List.map_eq_nil_iff.1 h0
  subst hl0
  refine AC.go dS ?_
  have hst:Mkd h (.p (.lst 1 [])) [] (bE (iS k 0)) (.int .i64 ((k+0:Nat):Int)) (.ret (.p (.int .i64 k))) h:=⟨rfl,.p _ (fun _=>rfl) .nil,fun _ _ _=>rfl,Nat.le_refl _⟩
  simp-implicitDefEqProofs[dT]
  refine au (fun _:Unit=>af 19 [(0,.p (.lst 1 [])),(1,.p (.int .i64 k)),(5,.p (.int .i64 0))]) (fun _=>h) (fun _=>True) (fun _=>0) () trivial (aP (Nat.le_refl _) (by simp[below])) ?_
  intro _ _
  simp-implicitDefEqProofs[]
  exact hst
 ·cases h0
 rw[List.length_map]
 have hown:=hr.own
 have hfl:(ps.map fun w=>[PV.int .i64 w]).flatten=ps.map (PV.int .i64):=sE ps
 rw[hfl] at hown
 obtain⟨e1,e2⟩:=vA hown
 subst e2
 have e3:=rH e1 hr.rl
 have hh:h[id]?=some (iW ps):=by rw[hr.here,e3,List.map_map];rfl
 refine(wz G hh hk).mono ?_
 rintro x h' ⟨rfl,rfl⟩
 have hid:id<h.length:=hr.lt
 refine⟨rfl,lh (List.getElem?_set_self hid) (by simp[vn]),fun j hj hn=>?_,by simp⟩
 simp at hn
 exact List.getElem?_set_ne fun e=>hn e.symm
def dr(L:List (List Int)):Nat:=(L.map List.length).sum
def mR(k:Nat):List (List Int)→List (List Int)
 |[]=>[]
 |x::r=>iS k x.length::mR (k+x.length) r
theorem mX:∀(l:List (List Int)) (k:Nat),(mR k l).length=l.length
 |[],_=>rfl
 |x::r,k=>by rw[mR,List.length_cons,List.length_cons,mX r]
theorem sJ(x:List Int)(r:List (List Int)):dr (x::r)=x.length+dr r:=by simp[dr]
theorem tz:∀(l:List (List Int)) (k i:Nat) (e:List Int),l[i]?=some e→(mR k l)[i]?=some (iS (k+dr (l.take i)) e.length)
 |[],_,_,_,h=>by simp at h
 |x::r,k,0,e,h=>by
  cases h
  rfl
 |x::r,k,i+1,e,h=>by
  rw[mR,List.getElem?_cons_succ,tz r _ i e (by simpa using h),List.take_succ_cons,sJ,Nat.add_assoc]
theorem vI(a b:List (List Int)):dr (a++b)=dr a+dr b:=by simp[dr]
theorem sC{l:List (List Int)}{i:Nat}(h:i<l.length):dr (l.take (i+1))=dr (l.take i)+l[i].length:=by
 rw[List.take_succ_eq_append_getElem h,vI];simp[dr]
theorem xv(l:List (List Int))(i:Nat):dr (l.take i)≤dr l:=by
 conv=>rhs;rw[←List.take_append_drop i l]
 rw[vI];omega
def nC(x:List Int):List PV:=[bE x]
theorem ET(l:List (List Int)):nsL l= .lst 1 (l.map nC):=rfl
theorem uy(l:List (List Int))(hll:l.length≤1048576)(h:List AO)(v:AV)(I:List Nat)(k:Nat)(ho:OwnL true h [v] [nsL l] I)(nd:I.Nodup)(hk:k+dr l≤1152921504606846976):
 AC Tryz.prog G fb [v,.p (.int .i64 k)] h (Mkd h v I (nsL (mR k l)) (.int .i64 ((k+dr l:Nat):Int))):=by
 rw[ET] at ho
 rcases ho.inv nd with⟨h0,rfl,rfl|rfl⟩|⟨h0,_⟩|⟨id,rows,J,rfl,rfl,hr⟩
 ·have hl0:l=[]:=List.map_eq_nil_iff.1 h0
  subst hl0
  refine AC.go fp ?_
  have hst:Mkd h .nils [] (nsL (mR k [])) (.int .i64 ((k+dr []:Nat):Int)) (.ret (.p (.int .i64 k))) h:=⟨rfl,.nils 1 .nil,fun _ _ _=>rfl,Nat.le_refl _⟩
  simp-implicitDefEqProofs[dj]
  refine au (fun _:Unit=>af 19 [(0,.nils),(1,.p (.int .i64 k)),(5,.p (.int .i64 0))]) (fun _=>h) (fun _=>True) (fun _=>0) () trivial (aP (Nat.le_refl _) (by simp[below])) ?_
  intro _ _
  simp-implicitDefEqProofs[]
  exact hst
 ·have hl0:l=[]:=List.map_eq_nil_iff.1 h0
  subst hl0
  refine AC.go fp ?_
  have hst:Mkd h (.p (.lst 1 [])) [] (nsL (mR k [])) (.int .i64 ((k+dr []:Nat):Int)) (.ret (.p (.int .i64 k))) h:=⟨rfl,.p _ (fun _=>rfl) .nil,fun _ _ _=>rfl,Nat.le_refl _⟩
  simp-implicitDefEqProofs[dj]
  refine au (fun _:Unit=>af 19 [(0,(.p (.lst 1 []))),(1,.p (.int .i64 k)),(5,.p (.int .i64 0))]) (fun _=>h) (fun _=>True) (fun _=>0) () trivial (aP (Nat.le_refl _) (by simp[below])) ?_
  intro _ _
  simp-implicitDefEqProofs[]
  exact hst
 ·cases h0
 rw[List.length_map]
 refine AC.go fp ?_
 simp-implicitDefEqProofs[dj]
 refine au (fun a:FilS=>af 19 [(0,.sl id 1 0 l.length),(1,.p (.int .i64 ((k+dr (l.take a.i):Nat):Int))),(5,.p (.int .i64 a.i))]) (fun a=>a.h) (MkI h id 1 ((mR k l).map nC) (l.map nC) J) (fun a=>l.length-a.i) ⟨0,h⟩ (MkI.init hr) ?_ ?_
 ·exact aP (Nat.le_refl _) (by simp[below,dr,hr.lt])
 rintro⟨i,hh⟩ hI
 simp-implicitDefEqProofs[]
 refine aR (fun h1=>?_) (fun h1=>?_)
 ·simp at h1
  have hg:=List.getElem?_eq_getElem h1
  have hP:=sC h1
  have hT:=xv l (i+1)
  generalize l[i]=e at hg hP
  have hD:(l.map nC)[i]?=some [bE e]:=by rw[List.getElem?_map,hg];rfl
  have hA:((mR k l).map nC)[i]?=some [bE (iS (k+dr (l.take i)) e.length)]:=by rw[List.getElem?_map,tz l k i e hg];rfl
  obtain⟨rows',r,Ji,s1,s2,s3,s4,s5,s6,s7⟩:=hI.step hD hA
  obtain⟨v,rfl⟩:=bC s3
  obtain⟨c1,c2⟩:=dh s3
  rw[List.nodup_cons] at s4
  obtain⟨hnid,n1⟩:=s4
  generalize hkk:k+dr (l.take i)=kk at*
  have hkI:(k:Int)+(dr (l.take i):Int)=(kk:Int):=by omega
  have mA:=Ew G hh v Ji e kk s3 n1 (by omega)
  simp-implicitDefEqProofs[-AV.cells,-AV.isCell,im,bi,bZ,il,bj,c1,c2,s1,s2,hkI]
  refine⟨h1,mA.mono ?_⟩
  rintro r h2 ⟨rfl,o2,f2,l2⟩
  have hid2:id<h2.length:=by omega
  have hwi:=w1 (i:=i) (by omega)
  have hset:rows'.set i [v]=rows':=by
   obtain⟨hi,e⟩:=List.getElem?_eq_some_iff.1 s2
   rw[←e];simp
  have hgo:=s7 h2 [v] (by rw[hset,f2 id s5 hnid,s1]) (fun j hj _ hm=>f2 j hj hm) o2 rfl l2
  simp-implicitDefEqProofs[aa]
  refine⟨⟨i+1,h2⟩,hgo,by simp only;omega,aP hgo.2.2.2 ?_⟩
  simp[below,hid2,hwi]
  omega
 ·simp at h1
  have hie:i=l.length:=by have:=hI.1;simp at this;omega
  obtain⟨⟨rows2,d1⟩,d2,d3⟩:=hI.done (by simpa using h1) (by simp[mX])
  subst hie
  rw[List.take_length]
  simp-implicitDefEqProofs[]
  refine⟨by simp,?_,d2,d3⟩
  have:=d1.tree (n:=l.length) (by simp[mX])
  exact this
theorem ut(l:List (List Int))(hll:l.length≤1048576)(k:Nat)(hk:k+dr l≤1152921504606846976):VF Tryz.prog G dp [.p (nsL (mR k l)),.p (.int .i64 k)] (.p (.int .i64 ((k+dr l:Nat):Int))):=by
 refine AC.go nV ?_
 have hsl:∀l,nsL l= .lst 1 (l.map nC):=fun _=>rfl
 have hl:=mX l k
 simp-implicitDefEqProofs[jk]
 refine au (fun i:Nat=>af 21 [(0,.p (nsL (mR k l))),(1,.p (.int .i64 ((k+dr (l.take i):Nat):Int))),(5,.p (.int .i64 i))]) (fun _=>[]) (fun i=>i≤l.length) (fun i=>l.length-i) 0 (by simp) ?_ ?_
 ·exact ay rfl (by simp[below,nsL,dr])
 intro i hi
 simp-implicitDefEqProofs[hsl,hl]
 refine aR (fun h1=>?_) (fun h1=>?_)
 ·simp at h1
  have hg0:=List.getElem?_eq_getElem h1
  have hP:=sC h1
  have hT:=xv l (i+1)
  generalize l[i]=e at hg0 hP
  have hg:(mR k l)[i]?=some (iS (k+dr (l.take i)) e.length):=tz l k i e hg0
  have hn:∀x,nC x=[bE x]:=fun _=>rfl
  clear hl
  have hh:=wQ G (k+dr (l.take i)) e.length (by omega)
  generalize hkk:k+dr (l.take i)=kk at*
  have hkI:(k:Int)+(dr (l.take i):Int)=(kk:Int):=by omega
  have hnn:¬(kk:Int)+(e.length:Int)<0:=by omega
  simp-implicitDefEqProofs[hg,hn,hkI]
  refine hh.use ?_
  simp-implicitDefEqProofs[hnn]
  refine⟨i+1,h1,by omega,ay rfl ?_⟩
  simp[below,nsL,w1 (i:=i) (by omega)]
  omega
 ·simp at h1
  have hie:i=l.length:=by omega
  subst hie
  rw[List.take_length]
  simp-implicitDefEqProofs[]
end Go.Proofs.YtiojgfhdcpppcaaGreatDoor
namespace Go.Proofs.YtiojgfhdcpppcaaGreatDoor
open Go Go.Aw
set_option maxRecDepth 100000
set_option maxHeartbeats 4000000
mutual
theorem Ex.parts_szI:∀e:Ex,e.parts≤e.sz
 | .mk _ _ w k=>by
   have:=qL k
   rw[Ex.parts_eq,Ex.sz_eq]
   simp only[Ex.kids,Ex.name]
   omega
theorem qL:∀l:List Ex,aN l≤cz l
 |[]=>by simp[aN]
 |e::r=>by
  have h1:=Ex.parts_szI e
  have h2:=qL r
  rw[aN,cz]
  omega
end
mutual
theorem Sm.mq_sz:∀s:Sm,s.mq≤3*s.sz
 | .mk _ w a b e=>by
   have h1:=qL a
   have h2:=mV b
   have h3:=mV e
   rw[Sm.mq_eq,Sm.sz_eq]
   simp only[Sm.args,Sm.body,Sm.els,Sm.name]
   omega
theorem mV:∀l:List Sm,bD l≤3*aG l
 |[]=>by simp[bD]
 |s::r=>by
  have h1:=Sm.mq_sz s
  have h2:=mV r
  rw[bD,aG]
  omega
end
theorem uV:∀l:List Fd,cm l≤3*cb l
 |[]=>by simp[cm]
 |f::r=>by
  have h1:=mV f.body
  have h2:=uV r
  have e1:cb (f::r)=f.sz+cb r:=by simp[cb]
  have e2:cm (f::r)=f.mq+cm r:=by simp[cm]
  have e3:f.mq=1+f.params.length+bD f.body:=rfl
  have e4:f.sz=1+f.name.length+(f.params.length+(f.params.map List.length).sum)+aG f.body:=rfl
  omega
theorem pT(l:List Fd):(gn l).length≤3∧∀x∈gn l,x.length≤3:=by
 unfold gn
 split
 ·split
  ·rename_i f _
   refine⟨Nat.le_refl 3,fun x hx=>?_⟩
   obtain⟨y,hy,rfl⟩:=List.mem_map.1 hx
   have:y.length=3:=by
    simp only[triL,List.mem_cons,List.not_mem_nil,or_false] at hy
    rcases hy with rfl|rfl|rfl<;>rfl
   rw[List.length_take];omega
  ·exact⟨Nat.zero_le _,fun x hx=>by cases hx⟩
 ·exact⟨Nat.zero_le _,fun x hx=>by cases hx⟩
theorem qS:∀L:List (List Int),(∀x∈L,x.length≤3)→dr L≤3*L.length
 |[],_=>by simp[dr]
 |x::r,h=>by
  have h1:=h x (by simp)
  have h2:=qS r fun y hy=>h y (by simp[hy])
  rw[sJ,List.length_cons];omega
theorem zR(l:List Fd):dr (gn l)≤9:=by
 have h1:=qS _ (pT l).2
 have:=(pT l).1
 omega
theorem Af(l:List Fd):(gn l).length≤1048576:=by have:=(pT l).1;omega
theorem AJ(l:List Fd):∀x∈gn l,x.length≤1048576:=fun x hx=>by have:=(pT l).2 x hx;omega
variable (G:aA) (hT:G lc=some pvTries) (hK:G gX=some fY) (hS:G dM=some [.tbl opK opV])
include hT hK hS
theorem su(l:List Fd)(hf:Ed l):VF Tryz.prog G eh [.agg [.p (fdL l)]] (.p (.bool true)):=by
 refine AC.go jt ?_
 have hsz':VF Tryz.prog G dv [.agg [.p (fdL l)],.p (.int .i64 1048576)] (.p (.int .i64 (bl 1048576 (cb l)))):=uA G l hf 1048576 (Nat.le_refl _)
 simp-implicitDefEqProofs[ep]
 refine hsz'.use ?_
 by_cases hz:cb l≤1048576
 case neg=>
  rw[bf hz]
  simp-implicitDefEqProofs[]
 have hto:=vl G l hz
 have hnn:¬((1048576-cb l:Nat):Int)<0:=by omega
 have hot:=fun h:List AO=>AC.mkLift pZ (uP G l hz) (h:=h) (by simp)
 have hin:∀(h:List AO) (v:AV) (I:List Nat),OwnL true h [v] [fdL l] I→AC Tryz.prog G bM [.agg [v]] h (Mk one true [nsL (gn l)] h):=fun h v I ho=>AC.mkLend fA (oW G hT hK hS l (by omega)) (.agg ho.views .nil)
 rw[cQ hz]
 simp-implicitDefEqProofs[hnn]
 refine hto.use ?_
 simp-implicitDefEqProofs[]
 refine(vh G l (by omega)).use ?_
 simp-implicitDefEqProofs[]
 refine(hot _).mono ?_
 rintro x h2 ⟨vs,I,os,rfl,e2,ho,nd,hf⟩
 obtain⟨v,rfl⟩:=bC ho
 obtain⟨c1,c2⟩:=dh ho
 have hl2:h2[0]?=some (.row 1 [[.p (fdL l)]]):=by rw[e2];rfl
 simp-implicitDefEqProofs[-AV.cells,-AV.isCell,im,bi,bZ,il,bj,c1,c2,aa,hl2]
 refine(hin _ v I (ho.more _)).mono ?_
 rintro x h3 ⟨vs6,I6,os6,rfl,e3,ho6,nd6,hf6⟩
 obtain⟨v6,rfl⟩:=bC ho6
 obtain⟨c3,c4⟩:=dh ho6
 have hb0:h3[0]?=some (.row 1 [[.p (fdL l)]]):=by rw[e3,e2];rfl
 have hb5:h3[h2.length]?=some (.row 1 [[v]]):=by rw[e3];simp
 have ho3:OwnL true h3 [v] [fdL l] I:=by rw[e3];exact(ho.more _).more _
 have hlen3:h2.length<h3.length:=(List.getElem?_eq_some_iff.1 hb5).1
 have hI5:∀i∈I,i≠h2.length:=fun i hi e=>by have:=ho.lt hi;omega
 have hI0:∀i∈I,i≠0:=fun i hi e=>by have:=hf i hi;simp at this;omega
 have h6:∀i∈I6,h2.length<i:=fun i hi=>by have:=hf6 i hi;simp at this;omega
 have hNl:(gn l).length≤1048576:=Af l
 have hNx:∀x∈gn l,x.length≤1048576:=AJ l
 have heq:=wJ G (gn l) hNl hNx
 have hdl:=fun h v6 I6 (ho6:OwnL true h [v6] [nsL (gn l)] I6)=>heq.lend (h:=h) (args:=[v6,.p (nsL (gn l))]) (.one (ho6.view 0 _ _ rfl rfl) (.keep (by simp[below]) .nil)) rfl
 simp-implicitDefEqProofs[one,aa,hb5,hb0]
 refine(hdl _ v6 I6 ho6).mono ?_
 rintro x h4 ⟨rfl,rfl⟩
 simp-implicitDefEqProofs[aa,hb5,hb0]
 refine hto.use ?_
 simp-implicitDefEqProofs[aa,hb5,hb0]
 have hep:=fun h v I (ho:OwnL true h [v] [fdL l] I)=>(uo G l hz).lend (h:=h) (args:=[.agg [v],.agg [.p (fdL l)]]) (.agg ho.views (.keep (by simp[below]) .nil)) rfl
 refine(hep _ v I ho3).mono ?_
 rintro x h5 ⟨rfl,rfl⟩
 simp-implicitDefEqProofs[aa,hb5,hb0]
 have hQ:=uV l
 refine(rZ G l _ v I 1 ho3 nd (by omega)).mono ?_
 rintro x h6' ⟨rfl,o7,f7,l7⟩
 have hnn7:¬(1:Int)+(cm l:Int)<0:=by omega
 have ho7:OwnL true h6' [v6] [nsL (gn l)] I6:=ho6.frame fun i hi=>f7 i (ho6.lt hi) fun hm=>by have:=h6 i hi;have:=ho.lt hm;omega
 have hb5':h6'[h2.length]?=some (.row 1 [[v]]):=by rw[f7 _ hlen3 fun hm=>hI5 _ hm rfl,hb5]
 have hb0':h6'[0]?=some (.row 1 [[.p (fdL l)]]):=by rw[f7 _ (by omega) fun hm=>hI0 _ hm rfl,hb0]
 clear hb5 hb0
 simp-implicitDefEqProofs[aa,hb5',hb0',hnn7]
 refine(hdl _ v6 I6 ho7).mono ?_
 rintro x h8 ⟨rfl,rfl⟩
 simp-implicitDefEqProofs[aa,hb5',hb0']
 have hS9:=zR l
 refine(uy G (gn l) hNl _ v6 I6 1 ho7 nd6 (by omega)).mono ?_
 rintro x h9 ⟨rfl,o9,f9,l9⟩
 have hb0:h9[0]?=some (.row 1 [[.p (fdL l)]]):=by rw[f9 _ (by omega) fun hm=>by have:=h6 _ hm;omega,hb0']
 clear hb5' hb0'
 have hhe:=fun h v6 I6 (ho6:OwnL true h [v6] [nsL (mR 1 (gn l))] I6)=>(ut G (gn l) hNl 1 (by omega)).lend (h:=h) (args:=[v6,.p (.int .i64 1)]) (.one (ho6.view 0 _ _ rfl rfl) (.keep (by simp[below]) .nil)) rfl
 have hnn9:¬(1:Int)+(dr (gn l):Int)<0:=by omega
 simp-implicitDefEqProofs[aa,hb0]
 refine(hhe _ v6 I6 o9).mono ?_
 rintro x h10 ⟨rfl,rfl⟩
 simp-implicitDefEqProofs[aa,hb0,hnn9]
 refine hto.use ?_
 simp-implicitDefEqProofs[]
 refine(uf G hT hK hS l (by omega)).use ?_
 simp-implicitDefEqProofs[]
 refine heq.use ?_
 simp-implicitDefEqProofs[aa,hb0,hnn9]
 refine(hhe _ v6 I6 o9).mono ?_
 rintro x h11 ⟨rfl,rfl⟩
 simp-implicitDefEqProofs[aa,hb0,hnn9]
end Go.Proofs.YtiojgfhdcpppcaaGreatDoor
namespace Go.Proofs.YtiojgfhdcpppcaaGreatDoor
open Go Go.Aw Go.ChangeShapes Go.WideShapes Go.ChangeAt Go.RowKit
set_option maxRecDepth 100000
abbrev AG:TypeId:=114
abbrev EV:TypeId:=113
def xA:List TypeId:=AG::EV::Ax
theorem fu:Plain Tryz.prog xA=true:=by kernel_rfl
def G0T:aA:=fun g=>if g=lc then some pvTries else G0 g
theorem DR:∀k,eQ Tryz.prog (k+10) AG (Rows.laid_loop_example_wholeway_impl_tries (H:=Unit))=pvTries:=fun k=>by kernel_rfl
theorem IC{W:World}{laid:List (String × DataW Unit)}(hL:laidMet Tryz.prog laid W)(h1:("loop.example/wholeway/impl.keys",Rows.laid_loop_example_wholeway_impl_keys)∈laid)(h2:("loop.example/wholeway/impl.opSign",Rows.laid_loop_example_wholeway_impl_opSign)∈laid)(h3:("loop.example/wholeway/impl.tries",Rows.laid_loop_example_wholeway_impl_tries)∈laid):
 ∀g cs,G0T g=some cs→g<W.heap.size∧∀(j:Nat) (c:PV),cs[j]?=some c→∃v,W.cell? ⟨g,j,none⟩=some v∧PRel W (· <W.heap.size) c v:=by
 intro g cs h
 unfold G0T at h
 split at h
 ·rename_i e;subst e;cases h
  exact sG fu hL (n:= "loop.example/wholeway/impl.tries") (d:=Rows.laid_loop_example_wholeway_impl_tries) (t:=AG) h3 (by kernel_rfl) (by kernel_rfl) (by decide) DR
 ·exact HZ hL h1 h2 g cs h
end Go.Proofs.YtiojgfhdcpppcaaGreatDoor
