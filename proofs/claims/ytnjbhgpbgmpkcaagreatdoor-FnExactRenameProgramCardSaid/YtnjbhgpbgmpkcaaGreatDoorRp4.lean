/-
  Contracts and lemmas that the card needs, part 4.
-/
import Derived.Test.YtnjbhgpbgmpkcaaGreatDoorRp3
import Derived.Test.YtnjbhgpbgmpkcaaGreatDoorRows
import Derived.Laws.RangeAny
import Derived.Laws.RangeString
namespace Go.Proofs.YtnjbhgpbgmpkcaaGreatDoor
open Go Go.Aw
set_option maxRecDepth 100000
abbrev gb:FuncId:=136
abbrev gl:FuncId:=208
abbrev dI:FuncId:=192
abbrev gv:FuncId:=167
abbrev cu:FuncId:=137
abbrev jj:FuncId:=87
abbrev kJ:FuncId:=44
abbrev dR:FuncId:=12
abbrev cP:FuncId:=138
abbrev dv:FuncId:=209
abbrev bQ:FuncId:=193
abbrev dr:FuncId:=168
abbrev bu:FuncId:=139
abbrev fg:FuncId:=89
abbrev fk:FuncId:=47
abbrev bI:FuncId:=14
abbrev bR:FuncId:=76
abbrev iO:FuncId:=219
abbrev iQ:FuncId:=212
abbrev kM:FuncId:=198
abbrev eN:FuncId:=213
abbrev kL:FuncId:=199
abbrev cf:FuncId:=173
abbrev gi:FuncId:=214
abbrev gw:FuncId:=222
abbrev eD:FuncId:=220
abbrev fm:FuncId:=221
abbrev dQ:FuncId:=215
abbrev gm:FuncId:=200
abbrev bO:FuncId:=174
abbrev ll:FuncId:=154
abbrev dM:FuncId:=175
abbrev kK:FuncId:=155
abbrev eh:FuncId:=118
abbrev ff:FuncId:=111
abbrev aJ:FuncId:=112
abbrev cm:FuncId:=147
abbrev eG:FuncId:=148
abbrev bT:FuncId:=113
abbrev bS:FuncId:=150
abbrev bj:FuncId:=149
abbrev aT:FuncId:=114
abbrev gy:FuncId:=70
abbrev ee:FuncId:=88
abbrev ju:FuncId:=45
abbrev cB:FuncId:=26
abbrev cE:FuncId:=74
abbrev eq:FuncId:=187
abbrev ef:FuncId:=159
abbrev dw:FuncId:=188
abbrev cC:FuncId:=161
abbrev cA:FuncId:=160
abbrev bp:FuncId:=126
abbrev cz:FuncId:=162
abbrev bV:FuncId:=127
abbrev bU:FuncId:=189
abbrev bC:FuncId:=163
abbrev eQ:FuncId:=190
abbrev gu:FuncId:=217
abbrev fj:FuncId:=218
abbrev dh:FuncId:=207
abbrev dT:FuncId:=191
abbrev gr:FuncId:=165
abbrev ck:FuncId:=164
abbrev co:FuncId:=129
abbrev dZ:FuncId:=100
abbrev dV:FuncId:=135
abbrev iJ:FuncId:=86
abbrev bg:FuncId:=128
abbrev cI:FuncId:=78
abbrev aX:FuncId:=99
abbrev eF:FuncId:=130
abbrev gx:FuncId:=79
abbrev aq:FuncId:=80
abbrev aB:FuncId:=60
abbrev ij:FuncId:=120
abbrev aI:FuncId:=108
abbrev bG:FuncId:=166
abbrev bY:FuncId:=131
abbrev aM:FuncId:=81
abbrev ep:FuncId:=32
abbrev me:FuncId:=48
abbrev bP:FuncId:=55
abbrev dy:FuncId:=58
abbrev dA:FuncId:=101
abbrev gS:FuncId:=57
abbrev cb:FuncId:=56
abbrev dG:FuncId:=61
abbrev cN:FuncId:=103
abbrev aK:FuncId:=105
abbrev be:FuncId:=102
abbrev ca:FuncId:=63
abbrev bF:FuncId:=146
abbrev bW:FuncId:=107
abbrev bi:FuncId:=106
abbrev bq:FuncId:=104
abbrev aR:FuncId:=64
abbrev bL:FuncId:=62
abbrev bs:FuncId:=59
abbrev aY:FuncId:=24
abbrev fM:FuncId:=140
abbrev gn:FuncId:=210
abbrev dF:FuncId:=194
abbrev gh:FuncId:=169
abbrev cR:FuncId:=141
abbrev jl:FuncId:=91
abbrev kr:FuncId:=50
abbrev cg:FuncId:=17
@[reducible] def oM(d s:Nat):CO:=⟨some d,none,.mov (.t s)⟩
@[reducible] def oL(d s:Nat):CO:=⟨some d,none,.ld none (.t s)⟩
@[reducible] def oF(d i s:Nat):CO:=⟨some d,none,.fldA i (.t s)⟩
@[reducible] def oN(d s:Nat):CO:=⟨some d,none,.nilck (.t s)⟩
@[reducible] def oS(d s:Nat):CO:=⟨none,none,.st 1 (.t d) (.t s)⟩
@[reducible] def oK(d n:Nat):CO:=⟨some d,none,.mov (.c (.p (.int .i64 n)))⟩
@[reducible] def oJ(d:Nat)(o:AI):CO:=⟨some d,none,o⟩
def fU:FK:=⟨28,[.t 4],
 .seq (.reg [oK 4 0])
 (.seq (.reg [oM 6 1,
   oM 7 0,
   oJ 8 (.len false (.t 7)),
   oJ 9 (.bin .sub (.t 6) (.t 8)),
   oM 1 9])
 (.seq (.seq (.reg [oM 10 1,
   oJ 11 (.bin .lss (.t 10) (.c (.p (.int .i64 0))))])
 (.cond (.t 11)
  (.seq (.reg [oJ 4 (.mov (.c (.p (.int .i64 (-1)))))])
  (.ret))
  (.skip)))
 (.seq (.seq (.reg [oK 5 0])
 (.blk 0 (.loop (.seq (.seq (.reg [oM 12 5,
   oM 13 0,
   oJ 14 (.len false (.t 13)),
   oJ 15 (.bin .lss (.t 12) (.t 14))])
 (.cond (.t 15)
  (.skip)
  (.exit 0)))
 (.seq (.blk 1 (.seq (.reg [oM 18 1,
   oM 19 0,
   oM 20 5,
   oJ 21 (.idxS 1 (.t 19) (.t 20)),
   oL 22 21,
   oJ 23 (.len true (.t 22)),
   oJ 24 (.bin .sub (.t 18) (.t 23)),
   oM 1 24])
 (.seq (.reg [oM 25 1,
   oJ 26 (.bin .lss (.t 25) (.c (.p (.int .i64 0))))])
 (.cond (.t 26)
  (.seq (.reg [oJ 4 (.mov (.c (.p (.int .i64 (-1)))))])
  (.ret))
  (.skip)))))
 (.reg [oM 16 5,
   oJ 17 (.bin .add (.t 16) (.c (.p (.int .i64 1)))),
   oM 5 17]))))))
 (.seq (.reg [oM 27 1,
   oM 4 27])
 (.ret)))))⟩
theorem qf:af Tryz.prog gb=some fU:=by kernel_rfl
def jE:FK:=⟨19,[.t 4],
 .seq (.reg [oJ 2 (.box 4 (.t 0)),
  oK 4 0])
 (.seq (.reg [oM 5 1,
   oF 6 2 2,
   oL 7 6,
   oJ 8 (.len true (.t 7)),
   oJ 9 (.bin .sub (.t 5) (.t 8)),
   oM 1 9])
 (.seq (.seq (.reg [oM 10 1,
   oJ 11 (.bin .lss (.t 10) (.c (.p (.int .i64 0))))])
 (.cond (.t 11)
  (.seq (.reg [oJ 4 (.mov (.c (.p (.int .i64 (-1)))))])
  (.ret))
  (.skip)))
 (.seq (.reg [oF 12 3 2,
   oL 13 12,
   oM 14 1,
   oJ 15 (.call dI [(.t 13),(.t 14)]),
   oM 1 15])
 (.seq (.seq (.reg [oM 16 1,
   oJ 17 (.bin .lss (.t 16) (.c (.p (.int .i64 0))))])
 (.cond (.t 17)
  (.seq (.reg [oJ 4 (.mov (.c (.p (.int .i64 (-1)))))])
  (.ret))
  (.skip)))
 (.seq (.reg [oM 18 1,
   oM 4 18])
 (.ret))))))⟩
theorem tF:af Tryz.prog gl=some jE:=by kernel_rfl
def iy:FK:=⟨27,[.t 4],
 .seq (.reg [oK 4 0])
 (.seq (.reg [oM 6 1,
   oM 7 0,
   oJ 8 (.len false (.t 7)),
   oJ 9 (.bin .sub (.t 6) (.t 8)),
   oM 1 9])
 (.seq (.seq (.reg [oM 10 1,
   oJ 11 (.bin .lss (.t 10) (.c (.p (.int .i64 0))))])
 (.cond (.t 11)
  (.seq (.reg [oJ 4 (.mov (.c (.p (.int .i64 (-1)))))])
  (.ret))
  (.skip)))
 (.seq (.seq (.reg [oK 5 0])
 (.blk 0 (.loop (.seq (.seq (.reg [oM 12 5,
   oM 13 0,
   oJ 14 (.len false (.t 13)),
   oJ 15 (.bin .lss (.t 12) (.t 14))])
 (.cond (.t 15)
  (.skip)
  (.exit 0)))
 (.seq (.blk 1 (.seq (.reg [oM 18 0,
   oM 19 5,
   oJ 20 (.idxS 4 (.t 18) (.t 19)),
   oJ 21 (.ld (some 4) (.t 20)),
   oM 22 1,
   oJ 23 (.call gl [(.t 21),(.t 22)]),
   oM 1 23])
 (.seq (.reg [oM 24 1,
   oJ 25 (.bin .lss (.t 24) (.c (.p (.int .i64 0))))])
 (.cond (.t 25)
  (.seq (.reg [oJ 4 (.mov (.c (.p (.int .i64 (-1)))))])
  (.ret))
  (.skip)))))
 (.reg [oM 16 5,
   oJ 17 (.bin .add (.t 16) (.c (.p (.int .i64 1)))),
   oM 5 17]))))))
 (.seq (.reg [oM 26 1,
   oM 4 26])
 (.ret)))))⟩
theorem rZ:af Tryz.prog dI=some iy:=by kernel_rfl
def js:FK:=⟨31,[.t 4],
 .seq (.reg [oJ 2 (.box 5 (.t 0)),
  oK 4 0])
 (.seq (.reg [oM 5 1,
   oF 6 1 2,
   oL 7 6,
   oJ 8 (.len true (.t 7)),
   oJ 9 (.bin .sub (.t 5) (.t 8)),
   oM 1 9])
 (.seq (.seq (.reg [oM 10 1,
   oJ 11 (.bin .lss (.t 10) (.c (.p (.int .i64 0))))])
 (.cond (.t 11)
  (.seq (.reg [oJ 4 (.mov (.c (.p (.int .i64 (-1)))))])
  (.ret))
  (.skip)))
 (.seq (.reg [oF 12 2 2,
   oL 13 12,
   oM 14 1,
   oJ 15 (.call dI [(.t 13),(.t 14)]),
   oM 1 15])
 (.seq (.seq (.reg [oM 16 1,
   oJ 17 (.bin .lss (.t 16) (.c (.p (.int .i64 0))))])
 (.cond (.t 17)
  (.seq (.reg [oJ 4 (.mov (.c (.p (.int .i64 (-1)))))])
  (.ret))
  (.skip)))
 (.seq (.reg [oF 18 3 2,
   oL 19 18,
   oM 20 1,
   oJ 21 (.call cu [(.t 19),(.t 20)]),
   oM 1 21])
 (.seq (.seq (.reg [oM 22 1,
   oJ 23 (.bin .lss (.t 22) (.c (.p (.int .i64 0))))])
 (.cond (.t 23)
  (.seq (.reg [oJ 4 (.mov (.c (.p (.int .i64 (-1)))))])
  (.ret))
  (.skip)))
 (.seq (.reg [oF 24 4 2,
   oL 25 24,
   oM 26 1,
   oJ 27 (.call cu [(.t 25),(.t 26)]),
   oM 1 27])
 (.seq (.seq (.reg [oM 28 1,
   oJ 29 (.bin .lss (.t 28) (.c (.p (.int .i64 0))))])
 (.cond (.t 29)
  (.seq (.reg [oJ 4 (.mov (.c (.p (.int .i64 (-1)))))])
  (.ret))
  (.skip)))
 (.seq (.reg [oM 30 1,
   oM 4 30])
 (.ret))))))))))⟩
theorem tz:af Tryz.prog gv=some js:=by kernel_rfl
def iF:FK:=⟨27,[.t 4],
 .seq (.reg [oK 4 0])
 (.seq (.reg [oM 6 1,
   oM 7 0,
   oJ 8 (.len false (.t 7)),
   oJ 9 (.bin .sub (.t 6) (.t 8)),
   oM 1 9])
 (.seq (.seq (.reg [oM 10 1,
   oJ 11 (.bin .lss (.t 10) (.c (.p (.int .i64 0))))])
 (.cond (.t 11)
  (.seq (.reg [oJ 4 (.mov (.c (.p (.int .i64 (-1)))))])
  (.ret))
  (.skip)))
 (.seq (.seq (.reg [oK 5 0])
 (.blk 0 (.loop (.seq (.seq (.reg [oM 12 5,
   oM 13 0,
   oJ 14 (.len false (.t 13)),
   oJ 15 (.bin .lss (.t 12) (.t 14))])
 (.cond (.t 15)
  (.skip)
  (.exit 0)))
 (.seq (.blk 1 (.seq (.reg [oM 18 0,
   oM 19 5,
   oJ 20 (.idxS 5 (.t 18) (.t 19)),
   oJ 21 (.ld (some 5) (.t 20)),
   oM 22 1,
   oJ 23 (.call gv [(.t 21),(.t 22)]),
   oM 1 23])
 (.seq (.reg [oM 24 1,
   oJ 25 (.bin .lss (.t 24) (.c (.p (.int .i64 0))))])
 (.cond (.t 25)
  (.seq (.reg [oJ 4 (.mov (.c (.p (.int .i64 (-1)))))])
  (.ret))
  (.skip)))))
 (.reg [oM 16 5,
   oJ 17 (.bin .add (.t 16) (.c (.p (.int .i64 1)))),
   oM 5 17]))))))
 (.seq (.reg [oM 26 1,
   oM 4 26])
 (.ret)))))⟩
theorem sL:af Tryz.prog cu=some iF:=by kernel_rfl
def lv:FK:=⟨25,[.t 4],
 .seq (.reg [oJ 2 (.box 3 (.t 0)),
  oK 4 0])
 (.seq (.reg [oM 5 1,
   oF 6 0 2,
   oL 7 6,
   oJ 8 (.len true (.t 7)),
   oJ 9 (.bin .sub (.t 5) (.t 8)),
   oM 1 9])
 (.seq (.seq (.reg [oM 10 1,
   oJ 11 (.bin .lss (.t 10) (.c (.p (.int .i64 0))))])
 (.cond (.t 11)
  (.seq (.reg [oJ 4 (.mov (.c (.p (.int .i64 (-1)))))])
  (.ret))
  (.skip)))
 (.seq (.reg [oF 12 1 2,
   oL 13 12,
   oM 14 1,
   oJ 15 (.call gb [(.t 13),(.t 14)]),
   oM 1 15])
 (.seq (.seq (.reg [oM 16 1,
   oJ 17 (.bin .lss (.t 16) (.c (.p (.int .i64 0))))])
 (.cond (.t 17)
  (.seq (.reg [oJ 4 (.mov (.c (.p (.int .i64 (-1)))))])
  (.ret))
  (.skip)))
 (.seq (.reg [oF 18 2 2,
   oL 19 18,
   oM 20 1,
   oJ 21 (.call cu [(.t 19),(.t 20)]),
   oM 1 21])
 (.seq (.seq (.reg [oM 22 1,
   oJ 23 (.bin .lss (.t 22) (.c (.p (.int .i64 0))))])
 (.cond (.t 23)
  (.seq (.reg [oJ 4 (.mov (.c (.p (.int .i64 (-1)))))])
  (.ret))
  (.skip)))
 (.seq (.reg [oM 24 1,
   oM 4 24])
 (.ret))))))))⟩
theorem wL:af Tryz.prog jj=some lv:=by kernel_rfl
def kP:FK:=⟨27,[.t 4],
 .seq (.reg [oK 4 0])
 (.seq (.reg [oM 6 1,
   oM 7 0,
   oJ 8 (.len false (.t 7)),
   oJ 9 (.bin .sub (.t 6) (.t 8)),
   oM 1 9])
 (.seq (.seq (.reg [oM 10 1,
   oJ 11 (.bin .lss (.t 10) (.c (.p (.int .i64 0))))])
 (.cond (.t 11)
  (.seq (.reg [oJ 4 (.mov (.c (.p (.int .i64 (-1)))))])
  (.ret))
  (.skip)))
 (.seq (.seq (.reg [oK 5 0])
 (.blk 0 (.loop (.seq (.seq (.reg [oM 12 5,
   oM 13 0,
   oJ 14 (.len false (.t 13)),
   oJ 15 (.bin .lss (.t 12) (.t 14))])
 (.cond (.t 15)
  (.skip)
  (.exit 0)))
 (.seq (.blk 1 (.seq (.reg [oM 18 0,
   oM 19 5,
   oJ 20 (.idxS 3 (.t 18) (.t 19)),
   oJ 21 (.ld (some 3) (.t 20)),
   oM 22 1,
   oJ 23 (.call jj [(.t 21),(.t 22)]),
   oM 1 23])
 (.seq (.reg [oM 24 1,
   oJ 25 (.bin .lss (.t 24) (.c (.p (.int .i64 0))))])
 (.cond (.t 25)
  (.seq (.reg [oJ 4 (.mov (.c (.p (.int .i64 (-1)))))])
  (.ret))
  (.skip)))))
 (.reg [oM 16 5,
   oJ 17 (.bin .add (.t 16) (.c (.p (.int .i64 1)))),
   oM 5 17]))))))
 (.seq (.reg [oM 26 1,
   oM 4 26])
 (.ret)))))⟩
theorem vq:af Tryz.prog kJ=some kP:=by kernel_rfl
def kg:FK:=⟨12,[.t 4],
 .seq (.reg [oJ 2 (.box 1 (.t 0)),
  oK 4 0])
 (.seq (.reg [oF 5 0 2,
   oL 6 5,
   oM 7 1,
   oJ 8 (.call kJ [(.t 6),(.t 7)]),
   oM 1 8])
 (.seq (.seq (.reg [oM 9 1,
   oJ 10 (.bin .lss (.t 9) (.c (.p (.int .i64 0))))])
 (.cond (.t 10)
  (.seq (.reg [oJ 4 (.mov (.c (.p (.int .i64 (-1)))))])
  (.ret))
  (.skip)))
 (.seq (.reg [oM 11 1,
   oM 4 11])
 (.ret))))⟩
theorem qA:af Tryz.prog dR=some kg:=by kernel_rfl
def jZ:FK:=⟨22,[.t 2],
 .seq (.reg [oJ 2 (.mov (.c .nils))])
 (.seq (.reg [oM 5 0,
   oJ 6 (.len false (.t 5)),
   oJ 7 (.mks 1 16 [(.p (.str []))] (.t 6) (.t 6)),
   oM 3 7])
 (.seq (.seq (.reg [oK 4 0])
 (.blk 0 (.loop (.seq (.seq (.reg [oM 8 4,
   oM 9 0,
   oJ 10 (.len false (.t 9)),
   oJ 11 (.bin .lss (.t 8) (.t 10))])
 (.cond (.t 11)
  (.skip)
  (.exit 0)))
 (.seq (.blk 1 (.reg [oM 14 3,
   oM 15 4,
   oM 16 0,
   oM 17 4,
   oJ 18 (.idxS 1 (.t 16) (.t 17)),
   oL 19 18,
   oJ 20 (.idxS 1 (.t 14) (.t 15)),
   oS 20 19]))
 (.reg [oM 12 4,
   oJ 13 (.bin .add (.t 12) (.c (.p (.int .i64 1)))),
   oM 4 13]))))))
 (.seq (.reg [oM 21 3,
   oM 2 21])
 (.ret))))⟩
theorem pK:af Tryz.prog cP=some jZ:=by kernel_rfl
def jw:FK:=⟨18,[.c 2 (some 4)],
 .seq (.reg [oJ 1 (.box 4 (.t 0)),
  oJ 2 (.alloc [(.p (.int .i64 0)),(.p (.int .i64 0)),(.p (.str [])),.nils])])
 (.seq (.reg [oJ 3 (.alloc [(.p (.int .i64 0)),(.p (.int .i64 0)),(.p (.str [])),.nils])])
 (.seq (.reg [oF 4 0 1,
   oL 5 4,
   oF 6 0 3,
   oS 6 5])
 (.seq (.reg [oF 7 1 1,
   oL 8 7,
   oF 9 1 3,
   oS 9 8])
 (.seq (.reg [oF 10 2 1,
   oL 11 10,
   oF 12 2 3,
   oS 12 11])
 (.seq (.reg [oF 13 3 1,
   oL 14 13,
   oJ 15 (.call bQ [(.t 14)]),
   oF 16 3 3,
   oS 16 15])
 (.seq (.reg [oJ 17 (.ld (some 4) (.t 3)),
   ⟨none,none,.st 4 (.t 2) (.t 17)⟩])
 (.ret)))))))⟩
theorem nF:af Tryz.prog dv=some jw:=by kernel_rfl
def iP:FK:=⟨23,[.t 2],
 .seq (.reg [oJ 2 (.mov (.c .nils))])
 (.seq (.reg [oM 5 0,
   oJ 6 (.len false (.t 5)),
   oJ 7 (.mks 4 56 [(.p (.int .i64 0)),(.p (.int .i64 0)),(.p (.str [])),.nils] (.t 6) (.t 6)),
   oM 3 7])
 (.seq (.seq (.reg [oK 4 0])
 (.blk 0 (.loop (.seq (.seq (.reg [oM 8 4,
   oM 9 0,
   oJ 10 (.len false (.t 9)),
   oJ 11 (.bin .lss (.t 8) (.t 10))])
 (.cond (.t 11)
  (.skip)
  (.exit 0)))
 (.seq (.blk 1 (.reg [oM 14 3,
   oM 15 4,
   oM 16 0,
   oM 17 4,
   oJ 18 (.idxS 4 (.t 16) (.t 17)),
   oJ 19 (.ld (some 4) (.t 18)),
   oJ 20 (.call dv [(.t 19)]),
   oJ 21 (.idxS 4 (.t 14) (.t 15)),
   ⟨none,none,.st 4 (.t 21) (.t 20)⟩]))
 (.reg [oM 12 4,
   oJ 13 (.bin .add (.t 12) (.c (.p (.int .i64 1)))),
   oM 4 13]))))))
 (.seq (.reg [oM 22 3,
   oM 2 22])
 (.ret))))⟩
theorem lL:af Tryz.prog bQ=some iP:=by kernel_rfl
def jz:FK:=⟨23,[.c 2 (some 5)],
 .seq (.reg [oJ 1 (.box 5 (.t 0)),
  oJ 2 (.alloc [(.p (.int .i64 0)),(.p (.str [])),.nils,.nils,.nils])])
 (.seq (.reg [oJ 3 (.alloc [(.p (.int .i64 0)),(.p (.str [])),.nils,.nils,.nils])])
 (.seq (.reg [oF 4 0 1,
   oL 5 4,
   oF 6 0 3,
   oS 6 5])
 (.seq (.reg [oF 7 1 1,
   oL 8 7,
   oF 9 1 3,
   oS 9 8])
 (.seq (.reg [oF 10 2 1,
   oL 11 10,
   oJ 12 (.call bQ [(.t 11)]),
   oF 13 2 3,
   oS 13 12])
 (.seq (.reg [oF 14 3 1,
   oL 15 14,
   oJ 16 (.call bu [(.t 15)]),
   oF 17 3 3,
   oS 17 16])
 (.seq (.reg [oF 18 4 1,
   oL 19 18,
   oJ 20 (.call bu [(.t 19)]),
   oF 21 4 3,
   oS 21 20])
 (.seq (.reg [oJ 22 (.ld (some 5) (.t 3)),
   ⟨none,none,.st 5 (.t 2) (.t 22)⟩])
 (.ret))))))))⟩
theorem no:af Tryz.prog dr=some jz:=by kernel_rfl
def iZ:FK:=⟨23,[.t 2],
 .seq (.reg [oJ 2 (.mov (.c .nils))])
 (.seq (.reg [oM 5 0,
   oJ 6 (.len false (.t 5)),
   oJ 7 (.mks 5 96 [(.p (.int .i64 0)),(.p (.str [])),.nils,.nils,.nils] (.t 6) (.t 6)),
   oM 3 7])
 (.seq (.seq (.reg [oK 4 0])
 (.blk 0 (.loop (.seq (.seq (.reg [oM 8 4,
   oM 9 0,
   oJ 10 (.len false (.t 9)),
   oJ 11 (.bin .lss (.t 8) (.t 10))])
 (.cond (.t 11)
  (.skip)
  (.exit 0)))
 (.seq (.blk 1 (.reg [oM 14 3,
   oM 15 4,
   oM 16 0,
   oM 17 4,
   oJ 18 (.idxS 5 (.t 16) (.t 17)),
   oJ 19 (.ld (some 5) (.t 18)),
   oJ 20 (.call dr [(.t 19)]),
   oJ 21 (.idxS 5 (.t 14) (.t 15)),
   ⟨none,none,.st 5 (.t 21) (.t 20)⟩]))
 (.reg [oM 12 4,
   oJ 13 (.bin .add (.t 12) (.c (.p (.int .i64 1)))),
   oM 4 13]))))))
 (.seq (.reg [oM 22 3,
   oM 2 22])
 (.ret))))⟩
theorem lu:af Tryz.prog bu=some iZ:=by kernel_rfl
def lr:FK:=⟨16,[.c 2 (some 3)],
 .seq (.reg [oJ 1 (.box 3 (.t 0)),
  oJ 2 (.alloc [(.p (.str [])),.nils,.nils])])
 (.seq (.reg [oJ 3 (.alloc [(.p (.str [])),.nils,.nils])])
 (.seq (.reg [oF 4 0 1,
   oL 5 4,
   oF 6 0 3,
   oS 6 5])
 (.seq (.reg [oF 7 1 1,
   oL 8 7,
   oJ 9 (.call cP [(.t 8)]),
   oF 10 1 3,
   oS 10 9])
 (.seq (.reg [oF 11 2 1,
   oL 12 11,
   oJ 13 (.call bu [(.t 12)]),
   oF 14 2 3,
   oS 14 13])
 (.seq (.reg [oJ 15 (.ld (some 3) (.t 3)),
   ⟨none,none,.st 3 (.t 2) (.t 15)⟩])
 (.ret))))))⟩
theorem qC:af Tryz.prog fg=some lr:=by kernel_rfl
def kD:FK:=⟨23,[.t 2],
 .seq (.reg [oJ 2 (.mov (.c .nils))])
 (.seq (.reg [oM 5 0,
   oJ 6 (.len false (.t 5)),
   oJ 7 (.mks 3 64 [(.p (.str [])),.nils,.nils] (.t 6) (.t 6)),
   oM 3 7])
 (.seq (.seq (.reg [oK 4 0])
 (.blk 0 (.loop (.seq (.seq (.reg [oM 8 4,
   oM 9 0,
   oJ 10 (.len false (.t 9)),
   oJ 11 (.bin .lss (.t 8) (.t 10))])
 (.cond (.t 11)
  (.skip)
  (.exit 0)))
 (.seq (.blk 1 (.reg [oM 14 3,
   oM 15 4,
   oM 16 0,
   oM 17 4,
   oJ 18 (.idxS 3 (.t 16) (.t 17)),
   oJ 19 (.ld (some 3) (.t 18)),
   oJ 20 (.call fg [(.t 19)]),
   oJ 21 (.idxS 3 (.t 14) (.t 15)),
   ⟨none,none,.st 3 (.t 21) (.t 20)⟩]))
 (.reg [oM 12 4,
   oJ 13 (.bin .add (.t 12) (.c (.p (.int .i64 1)))),
   oM 4 13]))))))
 (.seq (.reg [oM 22 3,
   oM 2 22])
 (.ret))))⟩
theorem pq:af Tryz.prog fk=some kD:=by kernel_rfl
def fR:FK:=⟨9,[.c 2 (some 1)],
 .seq (.reg [oJ 1 (.box 1 (.t 0)),
  oJ 2 (.alloc [.nils])])
 (.seq (.reg [oJ 3 (.alloc [.nils])])
 (.seq (.reg [oF 4 0 1,
   oL 5 4,
   oJ 6 (.call fk [(.t 5)]),
   oF 7 0 3,
   oS 7 6])
 (.seq (.reg [oJ 8 (.ld (some 1) (.t 3)),
   oS 2 8])
 (.ret))))⟩
theorem jP:af Tryz.prog bI=some fR:=by kernel_rfl
def ln:FK:=⟨15,[.t 6],
 .seq (.reg [oJ 6 (.mov (.c (.p (.bool false))))])
 (.seq (.reg [oM 7 0,
   oM 8 1,
   oJ 9 (.bin .geq (.t 7) (.t 8)),
   oM 10 9,
   ⟨(some 11),some (10,true),.mov (.t 0)⟩,
   ⟨(some 12),some (10,true),.mov (.t 2)⟩,
   ⟨(some 13),some (10,true),.bin .leq (.t 11) (.t 12)⟩,
   oJ 14 (.pick (.t 10) (.t 13) (.c (.p (.bool false)))),
   oM 6 14])
 (.ret))⟩
theorem xg:af Tryz.prog bR=some ln:=by kernel_rfl
def lY:FK:=⟨18,[.t 4],
 .seq (.reg [oK 4 0])
 (.seq (.seq (.reg [oK 5 0])
 (.blk 0 (.loop (.seq (.seq (.reg [oM 6 5,
   oM 7 0,
   oJ 8 (.len true (.t 7)),
   oJ 9 (.bin .lss (.t 6) (.t 8))])
 (.cond (.t 9)
  (.skip)
  (.exit 0)))
 (.seq (.blk 1 (.seq (.reg [oM 12 0,
   oM 13 5,
   oJ 14 (.idxStr (.t 12) (.t 13)),
   oM 15 1,
   oJ 16 (.bin .eql (.t 14) (.t 15))])
 (.cond (.t 16)
  (.seq (.reg [oM 17 5,
    oM 4 17])
  (.ret))
  (.skip))))
 (.reg [oM 10 5,
   oJ 11 (.bin .add (.t 10) (.c (.p (.int .i64 1)))),
   oM 5 11]))))))
 (.seq (.reg [oJ 4 (.mov (.c (.p (.int .i64 (-1)))))])
 (.ret)))⟩
theorem sA:af Tryz.prog iO=some lY:=by kernel_rfl
def mc:FK:=⟨28,[.t 2],
 .seq (.reg [oK 2 0])
 (.seq (.blk 0 (.seq (.reg [oM 4 0,
   oJ 5 (.bin .geq (.t 4) (.c (.p (.int .u8 97)))),
   oM 6 5,
   ⟨(some 7),some (6,true),.mov (.t 0)⟩,
   ⟨(some 8),some (6,true),.bin .leq (.t 7) (.c (.p (.int .u8 122)))⟩,
   oJ 9 (.pick (.t 6) (.t 8) (.c (.p (.bool false)))),
   oM 3 9])
 (.cond (.t 3)
  (.seq (.reg [oK 2 1])
  (.ret))
  (.seq (.reg [oM 11 0,
    oJ 12 (.bin .geq (.t 11) (.c (.p (.int .u8 48)))),
    oM 13 12,
    ⟨(some 14),some (13,true),.mov (.t 0)⟩,
    ⟨(some 15),some (13,true),.bin .leq (.t 14) (.c (.p (.int .u8 57)))⟩,
    oJ 16 (.pick (.t 13) (.t 15) (.c (.p (.bool false)))),
    oM 10 16])
  (.cond (.t 10)
   (.seq (.reg [oK 2 2])
   (.ret))
   (.seq (.reg [oM 18 0,
     oJ 19 (.call iO [(.c (.p (.str [40,41,123,125,59,44,43,45,42,47,37,60,61,38,33,64]))),(.t 18)]),
     oJ 20 (.bin .geq (.t 19) (.c (.p (.int .i64 0)))),
     oM 17 20])
   (.cond (.t 17)
    (.seq (.reg [oK 2 3])
    (.ret))
    (.seq (.reg [oM 22 0,
      oJ 23 (.bin .eql (.t 22) (.c (.p (.int .u8 32)))),
      oM 24 23,
      ⟨(some 25),some (24,false),.mov (.t 0)⟩,
      ⟨(some 26),some (24,false),.bin .eql (.t 25) (.c (.p (.int .u8 10)))⟩,
      oJ 27 (.pick (.t 24) (.c (.p (.bool true))) (.t 26)),
      oM 21 27])
    (.cond (.t 21)
     (.seq (.reg [oK 2 4])
     (.ret))
     (.skip))))))))))
 (.seq (.reg [oK 2 0])
 (.ret)))⟩
theorem sb:af Tryz.prog iQ=some mc:=by kernel_rfl
def pn:FK:=⟨21,[.t 4],
 .seq (.reg [oJ 4 (.mov (.c (.p (.bool false))))])
 (.seq (.seq (.reg [oK 5 0])
 (.blk 0 (.loop (.seq (.seq (.reg [oM 6 5,
   oM 7 0,
   oJ 8 (.len true (.t 7)),
   oJ 9 (.bin .lss (.t 6) (.t 8))])
 (.cond (.t 9)
  (.skip)
  (.exit 0)))
 (.seq (.blk 1 (.seq (.reg [oM 12 0,
   oM 13 5,
   oJ 14 (.idxStr (.t 12) (.t 13)),
   oJ 15 (.call iQ [(.t 14)]),
   oM 16 1,
   oJ 17 (.bin .neq (.t 15) (.t 16))])
 (.cond (.t 17)
  (.seq (.reg [oJ 4 (.mov (.c (.p (.bool false))))])
  (.ret))
  (.skip))))
 (.reg [oM 10 5,
   oJ 11 (.bin .add (.t 10) (.c (.p (.int .i64 1)))),
   oM 5 11]))))))
 (.seq (.reg [oM 18 0,
   oJ 19 (.len true (.t 18)),
   oJ 20 (.bin .gtr (.t 19) (.c (.p (.int .i64 0)))),
   oM 4 20])
 (.ret)))⟩
theorem vM:af Tryz.prog kM=some pn:=by kernel_rfl
def kT:FK:=⟨2,[.t 0],
 .seq (.reg [oJ 0 (.mov (.c .nils))])
 (.seq (.reg [oJ 1 (.bsl 1 [(.p (.str []))] 9 [(0,1,(.c (.p (.str [102,110])))),(1,1,(.c (.p (.str [108,101,116])))),(2,1,(.c (.p (.str [115,97,121])))),(3,1,(.c (.p (.str [112,117,116])))),(4,1,(.c (.p (.str [105,102])))),(5,1,(.c (.p (.str [101,108,115,101])))),(6,1,(.c (.p (.str [108,111,111,112])))),(7,1,(.c (.p (.str [98,97,99,107])))),(8,1,(.c (.p (.str [100,111]))))]),
   oM 0 1])
 (.ret))⟩
theorem ro:af Tryz.prog eN=some kT:=by kernel_rfl
def pp:FK:=⟨18,[.t 2],
 .seq (.reg [oJ 2 (.mov (.c (.p (.bool false))))])
 (.seq (.reg [oJ 5 (.call eN []),
   oM 3 5])
 (.seq (.seq (.reg [oK 4 0])
 (.blk 0 (.loop (.seq (.seq (.reg [oM 6 4,
   oM 7 3,
   oJ 8 (.len false (.t 7)),
   oJ 9 (.bin .lss (.t 6) (.t 8))])
 (.cond (.t 9)
  (.skip)
  (.exit 0)))
 (.seq (.blk 1 (.seq (.reg [oM 12 3,
   oM 13 4,
   oJ 14 (.idxS 1 (.t 12) (.t 13)),
   oL 15 14,
   oM 16 0,
   oJ 17 (.bins .eql (.t 15) (.t 16))])
 (.cond (.t 17)
  (.seq (.reg [oJ 2 (.mov (.c (.p (.bool true))))])
  (.ret))
  (.skip))))
 (.reg [oM 10 4,
   oJ 11 (.bin .add (.t 10) (.c (.p (.int .i64 1)))),
   oM 4 11]))))))
 (.seq (.reg [oJ 2 (.mov (.c (.p (.bool false))))])
 (.ret))))⟩
theorem vC:af Tryz.prog kL=some pp:=by kernel_rfl
def nq:FK:=⟨15,[.t 2],
 .seq (.reg [oJ 2 (.mov (.c (.p (.bool false))))])
 (.seq (.reg [oM 3 0,
   oJ 4 (.call kM [(.t 3),(.c (.p (.int .i64 1)))]),
   oM 5 4,
   ⟨(some 6),some (5,true),.mov (.t 0)⟩,
   ⟨(some 7),some (5,true),.len true (.t 6)⟩,
   ⟨(some 8),some (5,true),.bin .leq (.t 7) (.c (.p (.int .i64 4)))⟩,
   oJ 9 (.pick (.t 5) (.t 8) (.c (.p (.bool false)))),
   oM 10 9,
   ⟨(some 11),some (10,true),.mov (.t 0)⟩,
   ⟨(some 12),some (10,true),.call kL [(.t 11)]⟩,
   ⟨(some 13),some (10,true),.not (.t 12)⟩,
   oJ 14 (.pick (.t 10) (.t 13) (.c (.p (.bool false)))),
   oM 2 14])
 (.ret))⟩
theorem tu:af Tryz.prog cf=some nq:=by kernel_rfl
def jB:FK:=⟨5,[.t 2],
 .seq (.reg [oK 2 0])
 (.seq (.seq (.reg [oM 3 0,
   oJ 4 (.bin .eql (.t 3) (.c (.p (.int .i64 4))))])
 (.cond (.t 4)
  (.seq (.reg [oK 2 2])
  (.ret))
  (.skip)))
 (.seq (.reg [oK 2 1])
 (.ret)))⟩
theorem tL:af Tryz.prog gi=some jB:=by kernel_rfl
def cF:FK:=⟨13,[.t 2,.t 3],
 .seq (.reg [oK 2 0,
  oK 3 0])
 (.seq (.seq (.reg [oM 4 0])
 (.blk 0 (.seq (.seq (.reg [oJ 6 (.bin .eql (.t 4) (.c (.p (.int .i64 1)))),
   oM 5 6])
 (.cond (.t 5)
  (.skip)
  (.reg [oJ 7 (.bin .eql (.t 4) (.c (.p (.int .i64 2)))),
    oM 5 7])))
 (.cond (.t 5)
  (.seq (.reg [oK 2 0,
    oK 3 0])
  (.ret))
  (.seq (.seq (.reg [oJ 9 (.bin .eql (.t 4) (.c (.p (.int .i64 11)))),
    oM 8 9])
  (.cond (.t 8)
   (.skip)
   (.reg [oJ 10 (.bin .eql (.t 4) (.c (.p (.int .i64 12)))),
     oM 8 10])))
  (.cond (.t 8)
   (.seq (.reg [oK 2 1,
     oK 3 1])
   (.ret))
   (.seq (.reg [oJ 12 (.bin .eql (.t 4) (.c (.p (.int .i64 13)))),
     oM 11 12])
   (.cond (.t 11)
    (.seq (.reg [oK 2 0,
      oK 3 3])
    (.ret))
    (.skip)))))))))
 (.seq (.reg [oK 2 2,
   oK 3 2])
 (.ret)))⟩
theorem tQ:af Tryz.prog gw=some cF:=by kernel_rfl
def F_spec_l2Form:FK:=⟨86,[.t 4],
 .seq (.reg [oJ 2 (.box 4 (.t 0)),
  oJ 4 (.mov (.c (.p (.bool false))))])
 (.seq (.reg [oF 10 0 2,
   oL 11 10,
   oJ 12 (.call gw [(.t 11)]),
   oM 9 12,
   oJ 13 (.ext 0 (.t 9)),
   oJ 14 (.ext 1 (.t 9)),
   oM 5 13,
   oM 6 14])
 (.seq (.seq (.reg [oM 15 1,
   oJ 16 (.bin .lss (.t 15) (.c (.p (.int .i64 1)))),
   oM 17 16,
   ⟨(some 18),some (17,false),.fldA 0 (.t 2)⟩,
   ⟨(some 19),some (17,false),.ld none (.t 18)⟩,
   ⟨(some 20),some (17,false),.call bR [(.t 19),(.c (.p (.int .i64 1))),(.c (.p (.int .i64 13)))]⟩,
   ⟨(some 21),some (17,false),.not (.t 20)⟩,
   oJ 22 (.pick (.t 17) (.c (.p (.bool true))) (.t 21)),
   oM 23 22,
   ⟨(some 24),some (23,false),.fldA 3 (.t 2)⟩,
   ⟨(some 25),some (23,false),.ld none (.t 24)⟩,
   ⟨(some 26),some (23,false),.len false (.t 25)⟩,
   ⟨(some 27),some (23,false),.mov (.t 5)⟩,
   ⟨(some 28),some (23,false),.mov (.t 6)⟩,
   ⟨(some 29),some (23,false),.call bR [(.t 26),(.t 27),(.t 28)]⟩,
   ⟨(some 30),some (23,false),.not (.t 29)⟩,
   oJ 31 (.pick (.t 23) (.c (.p (.bool true))) (.t 30))])
 (.cond (.t 31)
  (.seq (.reg [oJ 4 (.mov (.c (.p (.bool false))))])
  (.ret))
  (.skip)))
 (.seq (.reg [oF 32 0 2,
   oL 33 32,
   oJ 34 (.bin .eql (.t 33) (.c (.p (.int .i64 2)))),
   oM 35 34,
   ⟨(some 36),some (35,false),.fldA 0 (.t 2)⟩,
   ⟨(some 37),some (35,false),.ld none (.t 36)⟩,
   ⟨(some 38),some (35,false),.bin .eql (.t 37) (.c (.p (.int .i64 13)))⟩,
   oJ 39 (.pick (.t 35) (.c (.p (.bool true))) (.t 38)),
   oM 7 39])
 (.seq (.seq (.reg [oM 40 7,
   oF 41 2 2,
   oL 42 41,
   oJ 43 (.call cf [(.t 42)]),
   oJ 44 (.beq true (.t 40) (.t 43)),
   oM 45 44,
   ⟨(some 46),some (45,false),.mov (.t 7)⟩,
   ⟨(some 47),some (45,false),.not (.t 46)⟩,
   ⟨(some 48),some (45,false),.mov (.t 47)⟩,
   ⟨(some 49),some (48,true),.fldA 2 (.t 2)⟩,
   ⟨(some 50),some (48,true),.ld none (.t 49)⟩,
   ⟨(some 51),some (48,true),.bins .neq (.t 50) (.c (.p (.str [])))⟩,
   ⟨(some 52),some (45,false),.pick (.t 48) (.t 51) (.c (.p (.bool false)))⟩,
   oJ 53 (.pick (.t 45) (.c (.p (.bool true))) (.t 52)),
   oM 54 53,
   ⟨(some 55),some (54,false),.fldA 1 (.t 2)⟩,
   ⟨(some 56),some (54,false),.ld none (.t 55)⟩,
   ⟨(some 57),some (54,false),.call bR [(.t 56),(.c (.p (.int .i64 0))),(.c (.p (.int .i64 255)))]⟩,
   ⟨(some 58),some (54,false),.not (.t 57)⟩,
   oJ 59 (.pick (.t 54) (.c (.p (.bool true))) (.t 58)),
   oM 60 59,
   ⟨(some 61),some (60,false),.fldA 0 (.t 2)⟩,
   ⟨(some 62),some (60,false),.ld none (.t 61)⟩,
   ⟨(some 63),some (60,false),.bin .neq (.t 62) (.c (.p (.int .i64 1)))⟩,
   ⟨(some 64),some (60,false),.mov (.t 63)⟩,
   ⟨(some 65),some (64,true),.fldA 1 (.t 2)⟩,
   ⟨(some 66),some (64,true),.ld none (.t 65)⟩,
   ⟨(some 67),some (64,true),.bin .neq (.t 66) (.c (.p (.int .i64 0)))⟩,
   ⟨(some 68),some (60,false),.pick (.t 64) (.t 67) (.c (.p (.bool false)))⟩,
   oJ 69 (.pick (.t 60) (.c (.p (.bool true))) (.t 68))])
 (.cond (.t 69)
  (.seq (.reg [oJ 4 (.mov (.c (.p (.bool false))))])
  (.ret))
  (.skip)))
 (.seq (.seq (.reg [oK 8 0])
 (.blk 0 (.loop (.seq (.seq (.reg [oM 70 8,
   oF 71 3 2,
   oL 72 71,
   oJ 73 (.len false (.t 72)),
   oJ 74 (.bin .lss (.t 70) (.t 73))])
 (.cond (.t 74)
  (.skip)
  (.exit 0)))
 (.seq (.blk 1 (.seq (.reg [oF 77 3 2,
   oL 78 77,
   oM 79 8,
   oJ 80 (.idxS 4 (.t 78) (.t 79)),
   oJ 81 (.ld (some 4) (.t 80)),
   oM 82 1,
   oJ 83 (.bin .sub (.t 82) (.c (.p (.int .i64 1)))),
   oJ 84 (.call eD [(.t 81),(.t 83)]),
   oJ 85 (.not (.t 84))])
 (.cond (.t 85)
  (.seq (.reg [oJ 4 (.mov (.c (.p (.bool false))))])
  (.ret))
  (.skip))))
 (.reg [oM 75 8,
   oJ 76 (.bin .add (.t 75) (.c (.p (.int .i64 1)))),
   oM 8 76]))))))
 (.seq (.reg [oJ 4 (.mov (.c (.p (.bool true))))])
 (.ret)))))))⟩
theorem nE:af Tryz.prog eD=some F_spec_l2Form:=by kernel_rfl
def lp:FK:=⟨21,[.t 2],
 .seq (.reg [oJ 1 (.box 4 (.t 0)),
  oK 2 0])
 (.seq (.reg [oK 3 1])
 (.seq (.seq (.reg [oK 4 0])
 (.blk 0 (.loop (.seq (.seq (.reg [oM 5 4,
   oF 6 3 1,
   oL 7 6,
   oJ 8 (.len false (.t 7)),
   oJ 9 (.bin .lss (.t 5) (.t 8))])
 (.cond (.t 9)
  (.skip)
  (.exit 0)))
 (.seq (.blk 1 (.reg [oM 12 3,
   oF 13 3 1,
   oL 14 13,
   oM 15 4,
   oJ 16 (.idxS 4 (.t 14) (.t 15)),
   oJ 17 (.ld (some 4) (.t 16)),
   oJ 18 (.call fm [(.t 17)]),
   oJ 19 (.bin .add (.t 12) (.t 18)),
   oM 3 19]))
 (.reg [oM 10 4,
   oJ 11 (.bin .add (.t 10) (.c (.p (.int .i64 1)))),
   oM 4 11]))))))
 (.seq (.reg [oM 20 3,
   oM 2 20])
 (.ret))))⟩
theorem sZ:af Tryz.prog fm=some lp:=by kernel_rfl
def jK:FK:=⟨10,[.t 2],
 .seq (.reg [oJ 1 (.box 4 (.t 0)),
  oJ 2 (.mov (.c (.p (.bool false))))])
 (.seq (.reg [oJ 3 (.ld (some 4) (.t 1)),
   oJ 4 (.call eD [(.t 3),(.c (.p (.int .i64 6)))]),
   oM 5 4,
   ⟨(some 6),some (5,true),.ld (some 4) (.t 1)⟩,
   ⟨(some 7),some (5,true),.call fm [(.t 6)]⟩,
   ⟨(some 8),some (5,true),.bin .leq (.t 7) (.c (.p (.int .i64 30)))⟩,
   oJ 9 (.pick (.t 5) (.t 8) (.c (.p (.bool false)))),
   oM 2 9])
 (.ret))⟩
theorem pO:af Tryz.prog dQ=some jK:=by kernel_rfl
def F_spec_l3Stmt:FK:=⟨108,[.t 4],
 .seq (.reg [oJ 2 (.box 5 (.t 0)),
  oJ 4 (.mov (.c (.p (.bool false))))])
 (.seq (.seq (.reg [oM 7 1,
   oJ 8 (.bin .lss (.t 7) (.c (.p (.int .i64 1)))),
   oM 9 8,
   ⟨(some 10),some (9,false),.fldA 0 (.t 2)⟩,
   ⟨(some 11),some (9,false),.ld none (.t 10)⟩,
   ⟨(some 12),some (9,false),.call bR [(.t 11),(.c (.p (.int .i64 1))),(.c (.p (.int .i64 8)))]⟩,
   ⟨(some 13),some (9,false),.not (.t 12)⟩,
   oJ 14 (.pick (.t 9) (.c (.p (.bool true))) (.t 13)),
   oM 15 14,
   ⟨(some 16),some (15,false),.fldA 2 (.t 2)⟩,
   ⟨(some 19),some (15,false),.fldA 0 (.t 2)⟩,
   ⟨(some 17),some (15,false),.ld none (.t 16)⟩,
   ⟨(some 18),some (15,false),.len false (.t 17)⟩,
   ⟨(some 20),some (15,false),.ld none (.t 19)⟩,
   ⟨(some 21),some (15,false),.qcall gi [(.t 20)]⟩,
   ⟨(some 22),some (15,false),.bin .neq (.t 18) (.t 21)⟩,
   oJ 23 (.pick (.t 15) (.c (.p (.bool true))) (.t 22))])
 (.cond (.t 23)
  (.seq (.reg [oJ 4 (.mov (.c (.p (.bool false))))])
  (.ret))
  (.skip)))
 (.seq (.reg [oF 24 0 2,
   oL 25 24,
   oJ 26 (.bin .eql (.t 25) (.c (.p (.int .i64 1)))),
   oM 27 26,
   ⟨(some 28),some (27,false),.fldA 0 (.t 2)⟩,
   ⟨(some 29),some (27,false),.ld none (.t 28)⟩,
   ⟨(some 30),some (27,false),.bin .eql (.t 29) (.c (.p (.int .i64 2)))⟩,
   oJ 31 (.pick (.t 27) (.c (.p (.bool true))) (.t 30)),
   oM 5 31])
 (.seq (.seq (.reg [oM 32 5,
   oF 33 1 2,
   oL 34 33,
   oJ 35 (.call cf [(.t 34)]),
   oJ 36 (.beq true (.t 32) (.t 35)),
   oM 37 36,
   ⟨(some 38),some (37,false),.mov (.t 5)⟩,
   ⟨(some 39),some (37,false),.not (.t 38)⟩,
   ⟨(some 40),some (37,false),.mov (.t 39)⟩,
   ⟨(some 41),some (40,true),.fldA 1 (.t 2)⟩,
   ⟨(some 42),some (40,true),.ld none (.t 41)⟩,
   ⟨(some 43),some (40,true),.bins .neq (.t 42) (.c (.p (.str [])))⟩,
   ⟨(some 44),some (37,false),.pick (.t 40) (.t 43) (.c (.p (.bool false)))⟩,
   oJ 45 (.pick (.t 37) (.c (.p (.bool true))) (.t 44))])
 (.cond (.t 45)
  (.seq (.reg [oJ 4 (.mov (.c (.p (.bool false))))])
  (.ret))
  (.skip)))
 (.seq (.seq (.reg [oK 6 0])
 (.blk 0 (.loop (.seq (.seq (.reg [oM 46 6,
   oF 47 2 2,
   oL 48 47,
   oJ 49 (.len false (.t 48)),
   oJ 50 (.bin .lss (.t 46) (.t 49))])
 (.cond (.t 50)
  (.skip)
  (.exit 0)))
 (.seq (.blk 1 (.seq (.reg [oF 53 2 2,
   oL 54 53,
   oM 55 6,
   oJ 56 (.idxS 4 (.t 54) (.t 55)),
   oJ 57 (.ld (some 4) (.t 56)),
   oJ 58 (.call dQ [(.t 57)]),
   oJ 59 (.not (.t 58))])
 (.cond (.t 59)
  (.seq (.reg [oJ 4 (.mov (.c (.p (.bool false))))])
  (.ret))
  (.skip))))
 (.reg [oM 51 6,
   oJ 52 (.bin .add (.t 51) (.c (.p (.int .i64 1)))),
   oM 6 52]))))))
 (.seq (.seq (.reg [oF 60 0 2,
   oL 61 60,
   oJ 62 (.bin .eql (.t 61) (.c (.p (.int .i64 8)))),
   oM 63 62,
   ⟨(some 64),some (63,true),.fldA 2 (.t 2)⟩,
   ⟨(some 65),some (63,true),.ld none (.t 64)⟩,
   ⟨(some 66),some (63,true),.idxS 4 (.t 65) (.c (.p (.int .i64 0)))⟩,
   ⟨(some 67),some (63,true),.fldA 0 (.t 66)⟩,
   ⟨(some 68),some (63,true),.ld none (.t 67)⟩,
   ⟨(some 69),some (63,true),.bin .neq (.t 68) (.c (.p (.int .i64 13)))⟩,
   oJ 70 (.pick (.t 63) (.t 69) (.c (.p (.bool false))))])
 (.cond (.t 70)
  (.seq (.reg [oJ 4 (.mov (.c (.p (.bool false))))])
  (.ret))
  (.skip)))
 (.seq (.seq (.reg [oF 71 4 2,
   oL 72 71,
   oJ 73 (.len false (.t 72)),
   oJ 74 (.bin .gtr (.t 73) (.c (.p (.int .i64 0)))),
   oM 75 74,
   ⟨(some 76),some (75,true),.fldA 0 (.t 2)⟩,
   ⟨(some 77),some (75,true),.ld none (.t 76)⟩,
   ⟨(some 78),some (75,true),.bin .neq (.t 77) (.c (.p (.int .i64 5)))⟩,
   oJ 79 (.pick (.t 75) (.t 78) (.c (.p (.bool false)))),
   oM 80 79,
   ⟨(some 81),some (80,false),.fldA 3 (.t 2)⟩,
   ⟨(some 82),some (80,false),.ld none (.t 81)⟩,
   ⟨(some 83),some (80,false),.len false (.t 82)⟩,
   ⟨(some 84),some (80,false),.bin .gtr (.t 83) (.c (.p (.int .i64 0)))⟩,
   ⟨(some 85),some (80,false),.mov (.t 84)⟩,
   ⟨(some 86),some (85,true),.fldA 0 (.t 2)⟩,
   ⟨(some 87),some (85,true),.ld none (.t 86)⟩,
   ⟨(some 88),some (85,true),.bin .neq (.t 87) (.c (.p (.int .i64 5)))⟩,
   ⟨(some 89),some (80,false),.pick (.t 85) (.t 88) (.c (.p (.bool false)))⟩,
   ⟨(some 90),some (80,false),.mov (.t 89)⟩,
   ⟨(some 91),some (90,true),.fldA 0 (.t 2)⟩,
   ⟨(some 92),some (90,true),.ld none (.t 91)⟩,
   ⟨(some 93),some (90,true),.bin .neq (.t 92) (.c (.p (.int .i64 6)))⟩,
   ⟨(some 94),some (80,false),.pick (.t 90) (.t 93) (.c (.p (.bool false)))⟩,
   oJ 95 (.pick (.t 80) (.c (.p (.bool true))) (.t 94))])
 (.cond (.t 95)
  (.seq (.reg [oJ 4 (.mov (.c (.p (.bool false))))])
  (.ret))
  (.skip)))
 (.seq (.reg [oF 96 3 2,
   oL 97 96,
   oM 98 1,
   oJ 99 (.bin .sub (.t 98) (.c (.p (.int .i64 1)))),
   oJ 100 (.call bO [(.t 97),(.t 99)]),
   oM 101 100,
   ⟨(some 102),some (101,true),.fldA 4 (.t 2)⟩,
   ⟨(some 103),some (101,true),.ld none (.t 102)⟩,
   ⟨(some 104),some (101,true),.mov (.t 1)⟩,
   ⟨(some 105),some (101,true),.bin .sub (.t 104) (.c (.p (.int .i64 1)))⟩,
   ⟨(some 106),some (101,true),.call bO [(.t 103),(.t 105)]⟩,
   oJ 107 (.pick (.t 101) (.t 106) (.c (.p (.bool false)))),
   oM 4 107])
 (.ret))))))))⟩
theorem ny:af Tryz.prog gm=some F_spec_l3Stmt:=by kernel_rfl
def lG:FK:=⟨19,[.t 4],
 .seq (.reg [oJ 4 (.mov (.c (.p (.bool false))))])
 (.seq (.seq (.reg [oK 5 0])
 (.blk 0 (.loop (.seq (.seq (.reg [oM 6 5,
   oM 7 0,
   oJ 8 (.len false (.t 7)),
   oJ 9 (.bin .lss (.t 6) (.t 8))])
 (.cond (.t 9)
  (.skip)
  (.exit 0)))
 (.seq (.blk 1 (.seq (.reg [oM 12 0,
   oM 13 5,
   oJ 14 (.idxS 5 (.t 12) (.t 13)),
   oJ 15 (.ld (some 5) (.t 14)),
   oM 16 1,
   oJ 17 (.call gm [(.t 15),(.t 16)]),
   oJ 18 (.not (.t 17))])
 (.cond (.t 18)
  (.seq (.reg [oJ 4 (.mov (.c (.p (.bool false))))])
  (.ret))
  (.skip))))
 (.reg [oM 10 5,
   oJ 11 (.bin .add (.t 10) (.c (.p (.int .i64 1)))),
   oM 5 11]))))))
 (.seq (.reg [oJ 4 (.mov (.c (.p (.bool true))))])
 (.ret)))⟩
theorem tk:af Tryz.prog bO=some lG:=by kernel_rfl
def qN:FK:=⟨32,[.t 2],
 .seq (.reg [oJ 1 (.box 3 (.t 0)),
  oJ 2 (.mov (.c (.p (.bool false))))])
 (.seq (.seq (.reg [oK 3 0])
 (.blk 0 (.loop (.seq (.seq (.reg [oM 4 3,
   oF 5 1 1,
   oL 6 5,
   oJ 7 (.len false (.t 6)),
   oJ 8 (.bin .lss (.t 4) (.t 7))])
 (.cond (.t 8)
  (.skip)
  (.exit 0)))
 (.seq (.blk 1 (.seq (.reg [oF 11 1 1,
   oL 12 11,
   oM 13 3,
   oJ 14 (.idxS 1 (.t 12) (.t 13)),
   oL 15 14,
   oJ 16 (.call cf [(.t 15)]),
   oJ 17 (.not (.t 16))])
 (.cond (.t 17)
  (.seq (.reg [oJ 2 (.mov (.c (.p (.bool false))))])
  (.ret))
  (.skip))))
 (.reg [oM 9 3,
   oJ 10 (.bin .add (.t 9) (.c (.p (.int .i64 1)))),
   oM 3 10]))))))
 (.seq (.reg [oF 18 0 1,
   oL 19 18,
   oJ 20 (.call cf [(.t 19)]),
   oM 21 20,
   ⟨(some 22),some (21,true),.fldA 1 (.t 1)⟩,
   ⟨(some 23),some (21,true),.ld none (.t 22)⟩,
   ⟨(some 24),some (21,true),.len false (.t 23)⟩,
   ⟨(some 25),some (21,true),.bin .leq (.t 24) (.c (.p (.int .i64 3)))⟩,
   oJ 26 (.pick (.t 21) (.t 25) (.c (.p (.bool false)))),
   oM 27 26,
   ⟨(some 28),some (27,true),.fldA 2 (.t 1)⟩,
   ⟨(some 29),some (27,true),.ld none (.t 28)⟩,
   ⟨(some 30),some (27,true),.call bO [(.t 29),(.c (.p (.int .i64 4)))]⟩,
   oJ 31 (.pick (.t 27) (.t 30) (.c (.p (.bool false)))),
   oM 2 31])
 (.ret)))⟩
theorem xu:af Tryz.prog ll=some qN:=by kernel_rfl
def iS:FK:=⟨29,[.t 2],
 .seq (.reg [oK 2 0])
 (.seq (.reg [oM 5 0,
   oJ 6 (.len false (.t 5)),
   oM 3 6])
 (.seq (.seq (.reg [oK 4 0])
 (.blk 0 (.loop (.seq (.seq (.reg [oM 7 4,
   oM 8 0,
   oJ 9 (.len false (.t 8)),
   oJ 10 (.bin .lss (.t 7) (.t 9))])
 (.cond (.t 10)
  (.skip)
  (.exit 0)))
 (.seq (.blk 1 (.reg [oM 13 3,
   oM 14 0,
   oM 15 4,
   oJ 16 (.idxS 5 (.t 14) (.t 15)),
   oF 17 3 16,
   oM 21 0,
   oM 22 4,
   oJ 23 (.idxS 5 (.t 21) (.t 22)),
   oF 24 4 23,
   oL 18 17,
   oL 25 24,
   oJ 19 (.call dM [(.t 18)]),
   ⟨none,none,.chk none 24 25⟩,
   oJ 20 (.bin .add (.t 13) (.t 19)),
   oJ 26 (.call dM [(.t 25)]),
   oJ 27 (.bin .add (.t 20) (.t 26)),
   oM 3 27]))
 (.reg [oM 11 4,
   oJ 12 (.bin .add (.t 11) (.c (.p (.int .i64 1)))),
   oM 4 12]))))))
 (.seq (.reg [oM 28 3,
   oM 2 28])
 (.ret))))⟩
theorem lm:af Tryz.prog dM=some iS:=by kernel_rfl
def pu:FK:=⟨22,[.t 2],
 .seq (.reg [oJ 1 (.box 1 (.t 0)),
  oK 2 0])
 (.seq (.reg [oK 3 0])
 (.seq (.seq (.reg [oK 4 0])
 (.blk 0 (.loop (.seq (.seq (.reg [oM 5 4,
   oF 6 0 1,
   oL 7 6,
   oJ 8 (.len false (.t 7)),
   oJ 9 (.bin .lss (.t 5) (.t 8))])
 (.cond (.t 9)
  (.skip)
  (.exit 0)))
 (.seq (.blk 1 (.reg [oM 12 3,
   oF 13 0 1,
   oL 14 13,
   oM 15 4,
   oJ 16 (.idxS 3 (.t 14) (.t 15)),
   oF 17 2 16,
   oL 18 17,
   oJ 19 (.call dM [(.t 18)]),
   oJ 20 (.bin .add (.t 12) (.t 19)),
   oM 3 20]))
 (.reg [oM 10 4,
   oJ 11 (.bin .add (.t 10) (.c (.p (.int .i64 1)))),
   oM 4 11]))))))
 (.seq (.reg [oM 21 3,
   oM 2 21])
 (.ret))))⟩
theorem uO:af Tryz.prog kK=some pu:=by kernel_rfl
def hU:FK:=⟨26,[.t 2],
 .seq (.reg [oJ 1 (.box 1 (.t 0)),
  oJ 2 (.mov (.c (.p (.bool false))))])
 (.seq (.seq (.reg [oF 4 0 1,
   oL 5 4,
   oJ 6 (.len false (.t 5)),
   oJ 7 (.call bR [(.t 6),(.c (.p (.int .i64 1))),(.c (.p (.int .i64 4)))]),
   oJ 8 (.not (.t 7))])
 (.cond (.t 8)
  (.seq (.reg [oJ 2 (.mov (.c (.p (.bool false))))])
  (.ret))
  (.skip)))
 (.seq (.seq (.reg [oK 3 0])
 (.blk 0 (.loop (.seq (.seq (.reg [oM 9 3,
   oF 10 0 1,
   oL 11 10,
   oJ 12 (.len false (.t 11)),
   oJ 13 (.bin .lss (.t 9) (.t 12))])
 (.cond (.t 13)
  (.skip)
  (.exit 0)))
 (.seq (.blk 1 (.seq (.reg [oF 16 0 1,
   oL 17 16,
   oM 18 3,
   oJ 19 (.idxS 3 (.t 17) (.t 18)),
   oJ 20 (.ld (some 3) (.t 19)),
   oJ 21 (.call ll [(.t 20)]),
   oJ 22 (.not (.t 21))])
 (.cond (.t 22)
  (.seq (.reg [oJ 2 (.mov (.c (.p (.bool false))))])
  (.ret))
  (.skip))))
 (.reg [oM 14 3,
   oJ 15 (.bin .add (.t 14) (.c (.p (.int .i64 1)))),
   oM 3 15]))))))
 (.seq (.reg [oJ 23 (.ld (some 1) (.t 1)),
   oJ 24 (.call kK [(.t 23)]),
   oJ 25 (.bin .leq (.t 24) (.c (.p (.int .i64 40)))),
   oM 2 25])
 (.ret))))⟩
theorem nj:af Tryz.prog eh=some hU:=by kernel_rfl
def qS:FK:=⟨22,[.t 4],
 .seq (.reg [oJ 2 (.box 1 (.t 0)),
  oK 4 0])
 (.seq (.seq (.reg [oK 5 0])
 (.blk 0 (.loop (.seq (.seq (.reg [oM 6 5,
   oF 7 0 2,
   oL 8 7,
   oJ 9 (.len false (.t 8)),
   oJ 10 (.bin .lss (.t 6) (.t 9))])
 (.cond (.t 10)
  (.skip)
  (.exit 0)))
 (.seq (.blk 1 (.seq (.reg [oF 13 0 2,
   oL 14 13,
   oM 15 5,
   oJ 16 (.idxS 3 (.t 14) (.t 15)),
   oF 17 0 16,
   oL 18 17,
   oM 19 1,
   oJ 20 (.bins .eql (.t 18) (.t 19))])
 (.cond (.t 20)
  (.seq (.reg [oM 21 5,
    oM 4 21])
  (.ret))
  (.skip))))
 (.reg [oM 11 5,
   oJ 12 (.bin .add (.t 11) (.c (.p (.int .i64 1)))),
   oM 5 12]))))))
 (.seq (.reg [oJ 4 (.mov (.c (.p (.int .i64 (-1)))))])
 (.ret)))⟩
theorem xi:af Tryz.prog ff=some qS:=by kernel_rfl
def eX:FK:=⟨13,[],
 .seq (.reg [oM 4 0,
  oN 5 4,
  oF 6 4 5,
  oL 7 6,
  oJ 8 (.bin .eql (.t 7) (.c (.p (.int .i64 0))))])
 (.cond (.t 8)
  (.reg [oM 9 0,
    oM 10 1,
    oN 11 9,
    oF 12 4 11,
    oS 12 10])
  (.skip))⟩
theorem oa:af Tryz.prog aJ=some eX:=by kernel_rfl
def fc:FK:=⟨27,[.t 4],
 .seq (.reg [oK 4 0])
 (.seq (.seq (.reg [oM 6 0,
   oN 7 6,
   oF 8 2 7,
   oL 9 8,
   oJ 10 (.len false (.t 9)),
   oJ 11 (.bin .sub (.t 10) (.c (.p (.int .i64 1)))),
   oM 5 11])
 (.blk 0 (.loop (.seq (.seq (.reg [oM 12 5,
   oJ 13 (.bin .geq (.t 12) (.c (.p (.int .i64 0))))])
 (.cond (.t 13)
  (.skip)
  (.exit 0)))
 (.seq (.blk 1 (.seq (.reg [oM 16 0,
   oN 17 16,
   oF 18 2 17,
   oL 19 18,
   oM 20 5,
   oJ 21 (.idxS 3 (.t 19) (.t 20)),
   oF 22 0 21,
   oL 23 22,
   oM 24 1,
   oJ 25 (.bins .eql (.t 23) (.t 24))])
 (.cond (.t 25)
  (.seq (.reg [oM 26 5,
    oM 4 26])
  (.ret))
  (.skip))))
 (.reg [oM 14 5,
   oJ 15 (.bin .sub (.t 14) (.c (.p (.int .i64 1)))),
   oM 5 15]))))))
 (.seq (.reg [oJ 4 (.mov (.c (.p (.int .i64 (-1)))))])
 (.ret)))⟩
theorem nS:af Tryz.prog cm=some fc:=by kernel_rfl
def nw:FK:=⟨11,[.t 2],
 .seq (.reg [oJ 2 (.mov (.c (.p (.str []))))])
 (.seq (.reg [oM 4 0,
   oJ 5 (.bin .rem (.t 4) (.c (.p (.int .i64 26)))),
   oM 3 5])
 (.seq (.reg [oM 6 3,
   oM 7 3,
   oJ 8 (.bin .add (.t 7) (.c (.p (.int .i64 1)))),
   oJ 9 (.slStr (.c (.p (.str [97,98,99,100,101,102,103,104,105,106,107,108,109,110,111,112,113,114,115,116,117,118,119,120,121,122]))) (some (.t 6)) (some (.t 8))),
   oJ 10 (.bins .add (.c (.p (.str [118]))) (.t 9)),
   oM 2 10])
 (.ret)))⟩
theorem tB:af Tryz.prog eG=some nw:=by kernel_rfl
def F_spec_l4Walk_put:FK:=⟨57,[.t 6],
 .seq (.reg [oJ 6 (.mov (.c (.p (.str []))))])
 (.seq (.reg [oM 8 0,
   oM 9 1,
   oJ 10 (.call cm [(.t 8),(.t 9)]),
   oM 7 10])
 (.seq (.seq (.reg [oM 11 7,
   oJ 12 (.bin .geq (.t 11) (.c (.p (.int .i64 0)))),
   oM 13 12,
   ⟨(some 14),some (13,true),.mov (.t 0)⟩,
   ⟨(some 15),some (13,true),.nilck (.t 14)⟩,
   ⟨(some 16),some (13,true),.fldA 2 (.t 15)⟩,
   ⟨(some 17),some (13,true),.ld none (.t 16)⟩,
   ⟨(some 18),some (13,true),.mov (.t 7)⟩,
   ⟨(some 19),some (13,true),.idxS 3 (.t 17) (.t 18)⟩,
   ⟨(some 20),some (13,true),.fldA 2 (.t 19)⟩,
   ⟨(some 21),some (13,true),.ld none (.t 20)⟩,
   ⟨(some 22),some (13,true),.mov (.t 2)⟩,
   ⟨(some 23),some (13,true),.bin .eql (.t 21) (.t 22)⟩,
   oJ 24 (.pick (.t 13) (.t 23) (.c (.p (.bool false))))])
 (.cond (.t 24)
  (.reg [oM 25 0,
    oJ 26 (.call aJ [(.t 25),(.c (.p (.int .i64 2)))])])
  (.skip)))
 (.seq (.reg [oM 27 0,
   oM 28 0,
   oN 29 28,
   oF 30 2 29,
   oM 32 1,
   oM 33 0,
   oN 34 33,
   oF 35 3 34,
   oM 37 2,
   oL 31 30,
   oL 36 35,
   oJ 38 (.bld [(.p (.str [])),(.p (.int .i64 0)),(.p (.int .i64 0))] [(0,1,(.t 32)),(1,1,(.t 36)),(2,1,(.t 37))]),
   oJ 39 (.bslP 3 [(.p (.str [])),(.p (.int .i64 0)),(.p (.int .i64 0))] 1 [(0,3,(.t 38))]),
   oJ 40 (.app 3 32 (.t 31) (.t 39)),
   oN 41 27,
   oF 42 2 41,
   oS 42 40])
 (.seq (.reg [oM 43 0,
   oM 44 0,
   oN 45 44,
   oF 46 3 45,
   oL 47 46,
   oJ 48 (.bin .add (.t 47) (.c (.p (.int .i64 1)))),
   oN 49 43,
   oF 50 3 49,
   oS 50 48])
 (.seq (.reg [oM 51 0,
   oN 52 51,
   oF 53 3 52,
   oL 54 53,
   oJ 55 (.bin .sub (.t 54) (.c (.p (.int .i64 1)))),
   oJ 56 (.call eG [(.t 55)]),
   oM 6 56])
 (.ret))))))⟩
theorem oW:af Tryz.prog bT=some F_spec_l4Walk_put:=by kernel_rfl
def jc:FK:=⟨23,[.t 4],
 .seq (.reg [oJ 4 (.mov (.c (.p (.str []))))])
 (.seq (.reg [oM 6 0,
   oM 7 1,
   oJ 8 (.call cm [(.t 6),(.t 7)]),
   oM 5 8])
 (.seq (.seq (.reg [oM 9 5,
   oJ 10 (.bin .lss (.t 9) (.c (.p (.int .i64 0))))])
 (.cond (.t 10)
  (.seq (.reg [oM 11 0,
    oJ 12 (.call aJ [(.t 11),(.c (.p (.int .i64 3)))])])
  (.seq (.reg [oM 13 1,
    oM 4 13])
  (.ret)))
  (.skip)))
 (.seq (.reg [oM 14 0,
   oN 15 14,
   oF 16 2 15,
   oL 17 16,
   oM 18 5,
   oJ 19 (.idxS 3 (.t 17) (.t 18)),
   oF 20 1 19,
   oL 21 20,
   oJ 22 (.call eG [(.t 21)]),
   oM 4 22])
 (.ret))))⟩
theorem ow:af Tryz.prog bS=some jc:=by kernel_rfl
def F_spec_l4Walk_expr:FK:=⟨75,[.c 4 (some 4)],
 .seq (.reg [oJ 3 (.box 4 (.t 1)),
  oJ 4 (.alloc [(.p (.int .i64 0)),(.p (.int .i64 0)),(.p (.str [])),.nils])])
 (.seq (.seq (.reg [oF 8 0 3,
   oL 9 8,
   oJ 10 (.bin .eql (.t 9) (.c (.p (.int .i64 2))))])
 (.cond (.t 10)
  (.reg [oM 11 0,
    oF 12 2 3,
    oL 13 12,
    oJ 14 (.call bS [(.t 11),(.t 13)]),
    oF 15 2 3,
    oS 15 14])
  (.skip)))
 (.seq (.seq (.reg [oF 16 0 3,
   oL 17 16,
   oJ 18 (.bin .eql (.t 17) (.c (.p (.int .i64 13))))])
 (.cond (.t 18)
  (.seq (.reg [oM 19 0,
    oN 20 19,
    oF 21 0 20,
    oF 23 2 3,
    oJ 22 (.ld (some 1) (.t 21)),
    oL 24 23,
    oJ 25 (.call ff [(.t 22),(.t 24)]),
    oM 5 25])
  (.seq (.reg [oM 26 5,
    oJ 27 (.bin .lss (.t 26) (.c (.p (.int .i64 0)))),
    oM 28 27,
    ⟨(some 29),some (28,false),.mov (.t 5)⟩,
    ⟨(some 30),some (28,false),.mov (.t 0)⟩,
    ⟨(some 31),some (28,false),.nilck (.t 30)⟩,
    ⟨(some 32),some (28,false),.fldA 1 (.t 31)⟩,
    ⟨(some 33),some (28,false),.ld none (.t 32)⟩,
    ⟨(some 34),some (28,false),.bin .geq (.t 29) (.t 33)⟩,
    oJ 35 (.pick (.t 28) (.c (.p (.bool true))) (.t 34))])
  (.cond (.t 35)
   (.reg [oM 36 0,
     oJ 37 (.call aJ [(.t 36),(.c (.p (.int .i64 4)))])])
   (.seq (.reg [oM 38 0,
     oN 39 38,
     oF 40 0 39,
     oF 41 0 40,
     oM 43 5,
     oF 48 3 3,
     oL 42 41,
     oJ 44 (.idxS 3 (.t 42) (.t 43)),
     oF 45 1 44,
     oL 46 45,
     oJ 47 (.len false (.t 46)),
     oL 49 48,
     oJ 50 (.len false (.t 49)),
     oJ 51 (.bin .neq (.t 47) (.t 50))])
   (.cond (.t 51)
    (.reg [oM 52 0,
      oJ 53 (.call aJ [(.t 52),(.c (.p (.int .i64 5)))])])
    (.skip))))))
  (.skip)))
 (.seq (.reg [oJ 54 (.bsl 4 [(.p (.int .i64 0)),(.p (.int .i64 0)),(.p (.str [])),.nils] 0 []),
   oM 6 54])
 (.seq (.seq (.reg [oK 7 0])
 (.blk 0 (.loop (.seq (.seq (.reg [oM 55 7,
   oF 56 3 3,
   oL 57 56,
   oJ 58 (.len false (.t 57)),
   oJ 59 (.bin .lss (.t 55) (.t 58))])
 (.cond (.t 59)
  (.skip)
  (.exit 0)))
 (.seq (.blk 1 (.reg [oM 62 6,
   oM 63 0,
   oF 64 3 3,
   oL 65 64,
   oM 66 7,
   oJ 67 (.idxS 4 (.t 65) (.t 66)),
   oJ 68 (.ld (some 4) (.t 67)),
   oJ 69 (.call bj [(.t 63),(.t 68)]),
   oJ 70 (.bsl 4 [(.p (.int .i64 0)),(.p (.int .i64 0)),(.p (.str [])),.nils] 1 [(0,4,(.t 69))]),
   oJ 71 (.app 4 56 (.t 62) (.t 70)),
   oM 6 71]))
 (.reg [oM 60 7,
   oJ 61 (.bin .add (.t 60) (.c (.p (.int .i64 1)))),
   oM 7 61]))))))
 (.seq (.reg [oM 72 6,
   oF 73 3 3,
   oS 73 72])
 (.seq (.reg [oJ 74 (.ld (some 4) (.t 3)),
   ⟨none,none,.st 4 (.t 4) (.t 74)⟩])
 (.ret)))))))⟩
theorem nQ:af Tryz.prog bj=some F_spec_l4Walk_expr:=by kernel_rfl
def F_spec_l4Walk_stmts:FK:=⟨96,[.t 6],
 .seq (.reg [oJ 6 (.mov (.c .nils))])
 (.seq (.reg [oJ 13 (.bsl 5 [(.p (.int .i64 0)),(.p (.str [])),.nils,.nils,.nils] 0 []),
   oM 7 13])
 (.seq (.reg [oM 14 0,
   oN 15 14,
   oF 16 2 15,
   oL 17 16,
   oJ 18 (.len false (.t 17)),
   oM 8 18])
 (.seq (.seq (.reg [oK 9 0])
 (.blk 0 (.loop (.seq (.seq (.reg [oM 19 9,
   oM 20 1,
   oJ 21 (.len false (.t 20)),
   oJ 22 (.bin .lss (.t 19) (.t 21))])
 (.cond (.t 22)
  (.skip)
  (.exit 0)))
 (.seq (.blk 1 (.seq (.reg [oM 25 1,
   oM 26 9,
   oJ 27 (.idxS 5 (.t 25) (.t 26)),
   oJ 28 (.ld (some 5) (.t 27)),
   oJ 10 (.alloc [(.p (.int .i64 0)),(.p (.str [])),.nils,.nils,.nils]),
   ⟨none,none,.st 5 (.t 10) (.t 28)⟩])
 (.seq (.reg [oJ 29 (.bsl 4 [(.p (.int .i64 0)),(.p (.int .i64 0)),(.p (.str [])),.nils] 0 []),
   oM 11 29])
 (.seq (.seq (.reg [oK 12 0])
 (.blk 2 (.loop (.seq (.seq (.reg [oM 30 12,
   oF 31 2 10,
   oL 32 31,
   oJ 33 (.len false (.t 32)),
   oJ 34 (.bin .lss (.t 30) (.t 33))])
 (.cond (.t 34)
  (.skip)
  (.exit 2)))
 (.seq (.blk 3 (.reg [oM 37 11,
   oM 38 0,
   oF 39 2 10,
   oL 40 39,
   oM 41 12,
   oJ 42 (.idxS 4 (.t 40) (.t 41)),
   oJ 43 (.ld (some 4) (.t 42)),
   oJ 44 (.call bj [(.t 38),(.t 43)]),
   oJ 45 (.bsl 4 [(.p (.int .i64 0)),(.p (.int .i64 0)),(.p (.str [])),.nils] 1 [(0,4,(.t 44))]),
   oJ 46 (.app 4 56 (.t 37) (.t 45)),
   oM 11 46]))
 (.reg [oM 35 12,
   oJ 36 (.bin .add (.t 35) (.c (.p (.int .i64 1)))),
   oM 12 36]))))))
 (.seq (.reg [oM 47 11,
   oF 48 2 10,
   oS 48 47])
 (.seq (.seq (.reg [oF 49 0 10,
   oL 50 49,
   oJ 51 (.bin .eql (.t 50) (.c (.p (.int .i64 1))))])
 (.cond (.t 51)
  (.reg [oM 52 0,
    oF 53 1 10,
    oL 54 53,
    oM 55 2,
    oJ 56 (.call bT [(.t 52),(.t 54),(.t 55)]),
    oF 57 1 10,
    oS 57 56])
  (.skip)))
 (.seq (.seq (.reg [oF 58 0 10,
   oL 59 58,
   oJ 60 (.bin .eql (.t 59) (.c (.p (.int .i64 2))))])
 (.cond (.t 60)
  (.reg [oM 61 0,
    oF 62 1 10,
    oL 63 62,
    oJ 64 (.call bS [(.t 61),(.t 63)]),
    oF 65 1 10,
    oS 65 64])
  (.skip)))
 (.seq (.reg [oM 66 0,
   oF 67 3 10,
   oL 68 67,
   oM 69 2,
   oJ 70 (.bin .add (.t 69) (.c (.p (.int .i64 1)))),
   oJ 71 (.call aT [(.t 66),(.t 68),(.t 70)]),
   oF 72 3 10,
   oS 72 71])
 (.seq (.reg [oM 73 0,
   oF 74 4 10,
   oL 75 74,
   oM 76 2,
   oJ 77 (.bin .add (.t 76) (.c (.p (.int .i64 1)))),
   oJ 78 (.call aT [(.t 73),(.t 75),(.t 77)]),
   oF 79 4 10,
   oS 79 78])
 (.reg [oM 80 7,
   oJ 81 (.ld (some 5) (.t 10)),
   oJ 82 (.bsl 5 [(.p (.int .i64 0)),(.p (.str [])),.nils,.nils,.nils] 1 [(0,5,(.t 81))]),
   oJ 83 (.app 5 96 (.t 80) (.t 82)),
   oM 7 83]))))))))))
 (.reg [oM 23 9,
   oJ 24 (.bin .add (.t 23) (.c (.p (.int .i64 1)))),
   oM 9 24]))))))
 (.seq (.seq (.reg [oM 84 2,
   oJ 85 (.bin .gtr (.t 84) (.c (.p (.int .i64 0))))])
 (.cond (.t 85)
  (.reg [oM 86 0,
    oM 87 0,
    oN 88 87,
    oF 89 2 88,
    oL 90 89,
    oM 91 8,
    oJ 92 (.slS 3 (.t 90) none (some (.t 91))),
    oN 93 86,
    oF 94 2 93,
    oS 94 92])
  (.skip)))
 (.seq (.reg [oM 95 7,
   oM 6 95])
 (.ret))))))⟩
theorem mS:af Tryz.prog aT=some F_spec_l4Walk_stmts:=by kernel_rfl
def F_spec_l4Fn:FK:=⟨62,[.c 4 (some 3),.t 5,.t 6],
 .seq (.reg [oJ 2 (.box 1 (.t 0)),
  oJ 4 (.alloc [(.p (.str [])),.nils,.nils]),
  oK 5 0,
  oK 6 0])
 (.seq (.reg [oJ 11 (.ld (some 1) (.t 2)),
   oM 12 1,
   oJ 13 (.bld [.nils,(.p (.int .i64 0)),.nils,(.p (.int .i64 0)),(.p (.int .i64 0))] [(0,1,(.t 11)),(1,1,(.t 12))]),
   oJ 14 (.box 5 (.t 13)),
   oM 7 14])
 (.seq (.reg [oF 15 0 2,
   oL 16 15,
   oM 17 1,
   oJ 18 (.idxS 3 (.t 16) (.t 17)),
   oJ 19 (.ld (some 3) (.t 18)),
   oJ 8 (.alloc [(.p (.str [])),.nils,.nils]),
   ⟨none,none,.st 3 (.t 8) (.t 19)⟩])
 (.seq (.seq (.reg [oJ 20 (.ld (some 1) (.t 2)),
   oF 21 0 8,
   oL 22 21,
   oJ 23 (.call ff [(.t 20),(.t 22)]),
   oM 24 1,
   oJ 25 (.bin .neq (.t 23) (.t 24))])
 (.cond (.t 25)
  (.reg [oM 26 7,
    oJ 27 (.call aJ [(.t 26),(.c (.p (.int .i64 2)))])])
  (.skip)))
 (.seq (.reg [oJ 28 (.bsl 1 [(.p (.str []))] 0 []),
   oM 9 28])
 (.seq (.seq (.reg [oK 10 0])
 (.blk 0 (.loop (.seq (.seq (.reg [oM 29 10,
   oF 30 1 8,
   oL 31 30,
   oJ 32 (.len false (.t 31)),
   oJ 33 (.bin .lss (.t 29) (.t 32))])
 (.cond (.t 33)
  (.skip)
  (.exit 0)))
 (.seq (.blk 1 (.reg [oM 36 9,
   oM 37 7,
   oF 38 1 8,
   oL 39 38,
   oM 40 10,
   oJ 41 (.idxS 1 (.t 39) (.t 40)),
   oL 42 41,
   oJ 43 (.call bT [(.t 37),(.t 42),(.c (.p (.int .i64 0)))]),
   oJ 44 (.bsl 1 [(.p (.str []))] 1 [(0,1,(.t 43))]),
   oJ 45 (.app 1 16 (.t 36) (.t 44)),
   oM 9 45]))
 (.reg [oM 34 10,
   oJ 35 (.bin .add (.t 34) (.c (.p (.int .i64 1)))),
   oM 10 35]))))))
 (.seq (.reg [oM 46 9,
   oF 47 1 8,
   oS 47 46])
 (.seq (.reg [oM 48 7,
   oF 49 2 8,
   oL 50 49,
   oJ 51 (.call aT [(.t 48),(.t 50),(.c (.p (.int .i64 0)))]),
   oF 52 2 8,
   oS 52 51])
 (.seq (.reg [oM 54 7,
   oN 55 54,
   oF 56 4 55,
   oM 58 7,
   oN 59 58,
   oF 60 3 59,
   oJ 53 (.ld (some 3) (.t 8)),
   oL 57 56,
   oL 61 60,
   ⟨none,none,.st 3 (.t 4) (.t 53)⟩,
   ⟨none,none,.chk none 56 57⟩,
   ⟨none,none,.chk none 60 61⟩,
   oM 5 57,
   oM 6 61])
 (.ret)))))))))⟩
theorem xF:af Tryz.prog gy=some F_spec_l4Fn:=by kernel_rfl
def gV:FK:=⟨27,[.t 2],
 .seq (.reg [oJ 1 (.box 1 (.t 0)),
  oK 2 0])
 (.seq (.seq (.reg [oJ 7 (.ld (some 1) (.t 1)),
   oJ 8 (.call eh [(.t 7)]),
   oJ 9 (.not (.t 8))])
 (.cond (.t 9)
  (.seq (.reg [oK 2 1])
  (.ret))
  (.skip)))
 (.seq (.seq (.reg [oK 3 0])
 (.blk 0 (.loop (.seq (.seq (.reg [oM 10 3,
   oF 11 0 1,
   oL 12 11,
   oJ 13 (.len false (.t 12)),
   oJ 14 (.bin .lss (.t 10) (.t 13))])
 (.cond (.t 14)
  (.skip)
  (.exit 0)))
 (.seq (.blk 1 (.seq (.reg [oJ 18 (.ld (some 1) (.t 1)),
   oM 19 3,
   oJ 20 (.call gy [(.t 18),(.t 19)]),
   oM 17 20,
   oJ 21 (.ext 0 (.t 17)),
   oJ 22 (.ext 1 (.t 17)),
   oJ 23 (.ext 2 (.t 17)),
   oJ 4 (.alloc [(.p (.str [])),.nils,.nils]),
   ⟨none,none,.st 3 (.t 4) (.t 21)⟩,
   oM 5 22,
   oM 6 23])
 (.seq (.reg [oM 24 5,
   oJ 25 (.bin .neq (.t 24) (.c (.p (.int .i64 0))))])
 (.cond (.t 25)
  (.seq (.reg [oM 26 5,
    oM 2 26])
  (.ret))
  (.skip)))))
 (.reg [oM 15 3,
   oJ 16 (.bin .add (.t 15) (.c (.p (.int .i64 1)))),
   oM 3 16]))))))
 (.seq (.reg [oK 2 0])
 (.ret))))⟩
theorem mW:af Tryz.prog ee=some gV:=by kernel_rfl
def np:FK:=⟨6,[.t 2],
 .seq (.reg [oJ 1 (.box 1 (.t 0)),
  oJ 2 (.mov (.c (.p (.bool false))))])
 (.seq (.reg [oJ 3 (.ld (some 1) (.t 1)),
   oJ 4 (.call ee [(.t 3)]),
   oJ 5 (.bin .eql (.t 4) (.c (.p (.int .i64 0)))),
   oM 2 5])
 (.ret))⟩
theorem tD:af Tryz.prog ju=some np:=by kernel_rfl
def gJ:FK:=⟨38,[.c 2 (some 1),.t 3],
 .seq (.reg [oJ 1 (.box 1 (.t 0)),
  oJ 2 (.alloc [.nils]),
  oJ 3 (.mov (.c (.p (.bool false))))])
 (.seq (.seq (.reg [oJ 9 (.ld (some 1) (.t 1)),
   oJ 10 (.call ju [(.t 9)]),
   oJ 11 (.not (.t 10))])
 (.cond (.t 11)
  (.seq (.reg [oJ 12 (.bld [.nils] []),
    oS 2 12,
    oJ 3 (.mov (.c (.p (.bool false))))])
  (.ret))
  (.skip)))
 (.seq (.reg [oJ 13 (.bld [.nils] []),
   oJ 4 (.alloc [.nils]),
   oS 4 13])
 (.seq (.seq (.reg [oK 5 0])
 (.blk 0 (.loop (.seq (.seq (.reg [oM 14 5,
   oF 15 0 1,
   oL 16 15,
   oJ 17 (.len false (.t 16)),
   oJ 18 (.bin .lss (.t 14) (.t 17))])
 (.cond (.t 18)
  (.skip)
  (.exit 0)))
 (.seq (.blk 1 (.seq (.reg [oJ 22 (.ld (some 1) (.t 1)),
   oM 23 5,
   oJ 24 (.call gy [(.t 22),(.t 23)]),
   oM 21 24,
   oJ 25 (.ext 0 (.t 21)),
   oJ 26 (.ext 1 (.t 21)),
   oJ 27 (.ext 2 (.t 21)),
   oJ 6 (.alloc [(.p (.str [])),.nils,.nils]),
   ⟨none,none,.st 3 (.t 6) (.t 25)⟩,
   oM 7 26,
   oM 8 27])
 (.seq (.seq (.reg [oM 28 8,
   oJ 29 (.bin .gtr (.t 28) (.c (.p (.int .i64 26))))])
 (.cond (.t 29)
  (.seq (.reg [oJ 30 (.bld [.nils] []),
    oS 2 30,
    oJ 3 (.mov (.c (.p (.bool false))))])
  (.ret))
  (.skip)))
 (.reg [oF 31 0 4,
   oL 32 31,
   oJ 33 (.ld (some 3) (.t 6)),
   oJ 34 (.bsl 3 [(.p (.str [])),.nils,.nils] 1 [(0,3,(.t 33))]),
   oJ 35 (.app 3 64 (.t 32) (.t 34)),
   oF 36 0 4,
   oS 36 35]))))
 (.reg [oM 19 5,
   oJ 20 (.bin .add (.t 19) (.c (.p (.int .i64 1)))),
   oM 5 20]))))))
 (.seq (.reg [oJ 37 (.ld (some 1) (.t 4)),
   oS 2 37,
   oJ 3 (.mov (.c (.p (.bool true))))])
 (.ret)))))⟩
theorem lB:af Tryz.prog cB=some gJ:=by kernel_rfl
def jp:FK:=⟨15,[.t 6],
 .seq (.reg [oJ 6 (.mov (.c (.p (.bool false))))])
 (.seq (.reg [oM 7 1,
   oM 8 0,
   oJ 9 (.bin .leq (.t 7) (.t 8)),
   oM 10 9,
   ⟨(some 11),some (10,true),.mov (.t 0)⟩,
   ⟨(some 12),some (10,true),.mov (.t 2)⟩,
   ⟨(some 13),some (10,true),.bin .leq (.t 11) (.t 12)⟩,
   oJ 14 (.pick (.t 10) (.t 13) (.c (.p (.bool false)))),
   oM 6 14])
 (.ret))⟩
theorem ty:af Tryz.prog cE=some jp:=by kernel_rfl
def hY:FK:=⟨21,[.t 6],
 .seq (.reg [oK 6 0])
 (.seq (.seq (.reg [oM 9 0,
   oJ 10 (.rngS (.t 9))])
 (.blk 0 (.loop (.seq (.reg [oJ 11 (.nxtS (.t 10)),
   oJ 12 (.ext 0 (.t 11))])
 (.seq (.cond (.t 12)
  (.skip)
  (.exit 0))
 (.blk 1 (.seq (.reg [oJ 13 (.ext 1 (.t 11)),
   oJ 14 (.ext 2 (.t 11)),
   oM 7 13,
   oM 8 14])
 (.seq (.reg [oM 15 1,
   oM 16 8,
   oJ 17 (.callv (.t 15) [(.t 16)]),
   oM 18 2,
   oJ 19 (.beq false (.t 17) (.t 18))])
 (.cond (.t 19)
  (.seq (.reg [oM 20 7,
    oM 6 20])
  (.ret))
  (.skip))))))))))
 (.seq (.reg [oJ 6 (.mov (.c (.p (.int .i64 (-1)))))])
 (.ret)))⟩
theorem mO:af Tryz.prog eq=some hY:=by kernel_rfl
def gX:FK:=⟨8,[.t 4],
 .seq (.reg [oK 4 0])
 (.seq (.reg [oM 5 0,
   oM 6 1,
   oJ 7 (.call eq [(.t 5),(.t 6),(.c (.p (.bool true)))]),
   oM 4 7])
 (.ret))⟩
theorem mN:af Tryz.prog ef=some gX:=by kernel_rfl
def fH:FK:=⟨19,[.t 4],
 .seq (.reg [oK 4 0])
 (.seq (.seq (.reg [oM 6 0,
   oJ 7 (.len false (.t 6)),
   oK 8 0])
 (.blk 0 (.loop (.seq (.reg [oJ 9 (.bin .lss (.t 8) (.t 7))])
 (.seq (.cond (.t 9)
  (.skip)
  (.exit 0))
 (.seq (.blk 1 (.seq (.reg [oM 10 8,
   oM 5 10])
 (.seq (.reg [oM 11 1,
   oM 12 0,
   oM 13 5,
   oJ 14 (.idxS 1 (.t 12) (.t 13)),
   oL 15 14,
   oJ 16 (.bins .eql (.t 11) (.t 15))])
 (.cond (.t 16)
  (.seq (.reg [oM 17 5,
    oM 4 17])
  (.ret))
  (.skip)))))
 (.reg [oJ 18 (.bin .add (.t 8) (.c (.p (.int .i64 1)))),
   oM 8 18])))))))
 (.seq (.reg [oJ 4 (.mov (.c (.p (.int .i64 (-1)))))])
 (.ret)))⟩
theorem lc:af Tryz.prog dw=some fH:=by kernel_rfl
def eI:FK:=⟨9,[.t 4],
 .seq (.reg [oJ 4 (.mov (.c (.p (.bool false))))])
 (.seq (.reg [oM 5 0,
   oM 6 1,
   oJ 7 (.call dw [(.t 5),(.t 6)]),
   oJ 8 (.bin .geq (.t 7) (.c (.p (.int .i64 0)))),
   oM 4 8])
 (.ret))⟩
theorem jq:af Tryz.prog cC=some eI:=by kernel_rfl
def kS:FK:=⟨9,[.t 2],
 .seq (.reg [oJ 2 (.mov (.c (.p (.bool false))))])
 (.seq (.reg [oM 3 0,
   oJ 4 (.bin .lss (.t 3) (.c (.p (.int .i32 97)))),
   oM 5 4,
   ⟨(some 6),some (5,false),.mov (.t 0)⟩,
   ⟨(some 7),some (5,false),.bin .gtr (.t 6) (.c (.p (.int .i32 122)))⟩,
   oJ 8 (.pick (.t 5) (.c (.p (.bool true))) (.t 7)),
   oM 2 8])
 (.ret))⟩
theorem rh:af Tryz.prog cA=some kS:=by kernel_rfl
def nr:FK:=⟨17,[.t 2],
 .seq (.reg [oJ 2 (.mov (.c (.p (.bool false))))])
 (.seq (.reg [oM 3 0,
   oJ 4 (.len true (.t 3)),
   oJ 5 (.call cE [(.t 4),(.c (.p (.int .i64 1))),(.c (.p (.int .i64 4)))]),
   oM 6 5,
   ⟨(some 7),some (6,true),.mov (.t 0)⟩,
   ⟨(some 8),some (6,true),.call ef [(.t 7),(.c (.fn (.func cA) []))]⟩,
   ⟨(some 9),some (6,true),.bin .lss (.t 8) (.c (.p (.int .i64 0)))⟩,
   oJ 10 (.pick (.t 6) (.t 9) (.c (.p (.bool false)))),
   oM 11 10,
   ⟨(some 12),some (11,true),.slA 9 1 (.c (.gp 1 0)) none none⟩,
   ⟨(some 13),some (11,true),.mov (.t 0)⟩,
   ⟨(some 14),some (11,true),.call cC [(.t 12),(.t 13)]⟩,
   ⟨(some 15),some (11,true),.not (.t 14)⟩,
   oJ 16 (.pick (.t 11) (.t 15) (.c (.p (.bool false)))),
   oM 2 16])
 (.ret))⟩
theorem tw:af Tryz.prog bp=some nr:=by kernel_rfl
def ec:FK:=⟨19,[.t 4],
 .seq (.reg [oK 4 0])
 (.seq (.seq (.reg [oM 6 0,
   oJ 7 (.len false (.t 6)),
   oK 8 0])
 (.blk 0 (.loop (.seq (.reg [oJ 9 (.bin .lss (.t 8) (.t 7))])
 (.seq (.cond (.t 9)
  (.skip)
  (.exit 0))
 (.seq (.blk 1 (.seq (.reg [oM 10 8,
   oM 5 10])
 (.seq (.reg [oM 11 1,
   oM 12 0,
   oM 13 5,
   oJ 14 (.idxS 1 (.t 12) (.t 13)),
   oL 15 14,
   oJ 16 (.callv (.t 11) [(.t 15)])])
 (.cond (.t 16)
  (.seq (.reg [oM 17 5,
    oM 4 17])
  (.ret))
  (.skip)))))
 (.reg [oJ 18 (.bin .add (.t 8) (.c (.p (.int .i64 1)))),
   oM 8 18])))))))
 (.seq (.reg [oJ 4 (.mov (.c (.p (.int .i64 (-1)))))])
 (.ret)))⟩
theorem ja:af Tryz.prog cz=some ec:=by kernel_rfl
def dp:FK:=⟨9,[.t 4],
 .seq (.reg [oJ 4 (.mov (.c (.p (.bool false))))])
 (.seq (.reg [oM 5 0,
   oM 6 1,
   oJ 7 (.call cz [(.t 5),(.t 6)]),
   oJ 8 (.bin .geq (.t 7) (.c (.p (.int .i64 0)))),
   oM 4 8])
 (.ret))⟩
theorem gT:af Tryz.prog bV=some dp:=by kernel_rfl
def di:FK:=⟨19,[.t 4],
 .seq (.reg [oK 4 0])
 (.seq (.seq (.reg [oM 6 0,
   oJ 7 (.len false (.t 6)),
   oK 8 0])
 (.blk 0 (.loop (.seq (.reg [oJ 9 (.bin .lss (.t 8) (.t 7))])
 (.seq (.cond (.t 9)
  (.skip)
  (.exit 0))
 (.seq (.blk 1 (.seq (.reg [oM 10 8,
   oM 5 10])
 (.seq (.reg [oM 11 1,
   oM 12 0,
   oM 13 5,
   oJ 14 (.idxS 5 (.t 12) (.t 13)),
   oJ 15 (.ld (some 5) (.t 14)),
   oJ 16 (.callv (.t 11) [(.t 15)])])
 (.cond (.t 16)
  (.seq (.reg [oM 17 5,
    oM 4 17])
  (.ret))
  (.skip)))))
 (.reg [oJ 18 (.bin .add (.t 8) (.c (.p (.int .i64 1)))),
   oM 8 18])))))))
 (.seq (.reg [oJ 4 (.mov (.c (.p (.int .i64 (-1)))))])
 (.ret)))⟩
theorem gP:af Tryz.prog bU=some di:=by kernel_rfl
def cG:FK:=⟨9,[.t 4],
 .seq (.reg [oJ 4 (.mov (.c (.p (.bool false))))])
 (.seq (.reg [oM 5 0,
   oM 6 1,
   oJ 7 (.call bU [(.t 5),(.t 6)]),
   oJ 8 (.bin .geq (.t 7) (.c (.p (.int .i64 0)))),
   oM 4 8])
 (.ret))⟩
theorem fF:af Tryz.prog bC=some cG:=by kernel_rfl
def aZ:FK:=⟨20,[.t 2,.t 3,.t 4,.t 5],
 .seq (.reg [oK 2 0,
  oJ 3 (.mov (.c (.p (.bool false)))),
  oJ 4 (.mov (.c (.p (.bool false)))),
  oJ 5 (.mov (.c (.p (.bool false))))])
 (.seq (.seq (.reg [oM 6 0])
 (.blk 0 (.seq (.seq (.reg [oJ 8 (.bin .eql (.t 6) (.c (.p (.int .i64 1)))),
   oM 7 8])
 (.cond (.t 7)
  (.skip)
  (.reg [oJ 9 (.bin .eql (.t 6) (.c (.p (.int .i64 2)))),
    oM 7 9])))
 (.cond (.t 7)
  (.seq (.reg [oK 2 1,
    oJ 3 (.mov (.c (.p (.bool true)))),
    oJ 4 (.mov (.c (.p (.bool false)))),
    oJ 5 (.mov (.c (.p (.bool false))))])
  (.ret))
  (.seq (.seq (.reg [oJ 11 (.bin .eql (.t 6) (.c (.p (.int .i64 3)))),
    oM 10 11])
  (.cond (.t 10)
   (.skip)
   (.seq (.reg [oJ 12 (.bin .eql (.t 6) (.c (.p (.int .i64 7)))),
     oM 10 12])
   (.cond (.t 10)
    (.skip)
    (.reg [oJ 13 (.bin .eql (.t 6) (.c (.p (.int .i64 8)))),
      oM 10 13])))))
  (.cond (.t 10)
   (.seq (.reg [oK 2 1,
     oJ 3 (.mov (.c (.p (.bool false)))),
     oJ 4 (.mov (.c (.p (.bool false)))),
     oJ 5 (.mov (.c (.p (.bool false))))])
   (.ret))
   (.seq (.reg [oJ 15 (.bin .eql (.t 6) (.c (.p (.int .i64 4)))),
     oM 14 15])
   (.cond (.t 14)
    (.seq (.reg [oK 2 2,
      oJ 3 (.mov (.c (.p (.bool false)))),
      oJ 4 (.mov (.c (.p (.bool false)))),
      oJ 5 (.mov (.c (.p (.bool false))))])
    (.ret))
    (.seq (.reg [oJ 17 (.bin .eql (.t 6) (.c (.p (.int .i64 5)))),
      oM 16 17])
    (.cond (.t 16)
     (.seq (.reg [oK 2 1,
       oJ 3 (.mov (.c (.p (.bool false)))),
       oJ 4 (.mov (.c (.p (.bool true)))),
       oJ 5 (.mov (.c (.p (.bool true))))])
     (.ret))
     (.seq (.reg [oJ 19 (.bin .eql (.t 6) (.c (.p (.int .i64 6)))),
       oM 18 19])
     (.cond (.t 18)
      (.seq (.reg [oK 2 1,
        oJ 3 (.mov (.c (.p (.bool false)))),
        oJ 4 (.mov (.c (.p (.bool true)))),
        oJ 5 (.mov (.c (.p (.bool false))))])
      (.ret))
      (.skip)))))))))))))
 (.seq (.reg [oJ 2 (.mov (.c (.p (.int .i64 (-1))))),
   oJ 3 (.mov (.c (.p (.bool false)))),
   oJ 4 (.mov (.c (.p (.bool false)))),
   oJ 5 (.mov (.c (.p (.bool false))))])
 (.ret)))⟩
theorem re:af Tryz.prog eQ=some aZ:=by kernel_rfl
def nA:FK:=⟨5,[.t 2],
 .seq (.reg [oJ 2 (.mov (.c (.p (.bool false))))])
 (.seq (.reg [oM 3 0,
   oJ 4 (.call cE [(.t 3),(.c (.p (.int .i64 0))),(.c (.p (.int .i64 255)))]),
   oM 2 4])
 (.ret))⟩
theorem tO:af Tryz.prog gu=some nA:=by kernel_rfl
def dN:FK:=⟨20,[.t 2],
 .seq (.reg [oK 2 0])
 (.seq (.blk 0 (.seq (.reg [oJ 4 (.ld none (.c (.gp 2 0))),
   oM 5 0,
   oJ 6 (.lk 0 (.agg [(.p (.str [])),(.p (.int .i64 0))]) false (.t 4) (.t 5)),
   oJ 7 (.fldv 1 none (.t 6)),
   oJ 8 (.bin .gtr (.t 7) (.c (.p (.int .i64 0)))),
   oM 3 8])
 (.cond (.t 3)
  (.seq (.reg [oJ 9 (.ld none (.c (.gp 2 0))),
    oM 10 0,
    oJ 11 (.lk 0 (.agg [(.p (.str [])),(.p (.int .i64 0))]) false (.t 9) (.t 10)),
    oJ 12 (.fldv 1 none (.t 11)),
    oM 2 12])
  (.ret))
  (.seq (.reg [oM 14 0,
    oJ 15 (.bin .eql (.t 14) (.c (.p (.int .i64 11)))),
    oM 16 15,
    ⟨(some 17),some (16,false),.mov (.t 0)⟩,
    ⟨(some 18),some (16,false),.bin .eql (.t 17) (.c (.p (.int .i64 12)))⟩,
    oJ 19 (.pick (.t 16) (.c (.p (.bool true))) (.t 18)),
    oM 13 19])
  (.cond (.t 13)
   (.seq (.reg [oK 2 5])
   (.ret))
   (.skip))))))
 (.seq (.reg [oK 2 6])
 (.ret)))⟩
theorem sS:af Tryz.prog fj=some dN:=by kernel_rfl
def F_impl_exprSize:FK:=⟨127,[.t 4,.t 5,.t 6],
 .seq (.reg [oJ 2 (.box 4 (.t 0)),
  oK 4 0,
  oK 5 0,
  oJ 6 (.mov (.c (.p (.bool false))))])
 (.seq (.reg [oK 7 0,
   oK 8 0])
 (.seq (.blk 0 (.seq (.reg [oF 17 0 2,
   oL 18 17,
   oJ 19 (.bin .eql (.t 18) (.c (.p (.int .i64 1)))),
   oM 16 19])
 (.cond (.t 16)
  (.seq (.reg [oF 20 1 2,
    oL 21 20,
    oJ 22 (.call gu [(.t 21)]),
    oJ 23 (.not (.t 22)),
    oM 24 23,
    ⟨(some 25),some (24,false),.fldA 2 (.t 2)⟩,
    ⟨(some 26),some (24,false),.ld none (.t 25)⟩,
    ⟨(some 27),some (24,false),.bins .neq (.t 26) (.c (.p (.str [])))⟩,
    oJ 28 (.pick (.t 24) (.c (.p (.bool true))) (.t 27))])
  (.cond (.t 28)
   (.seq (.reg [oK 4 0,
     oK 5 0,
     oJ 6 (.mov (.c (.p (.bool false))))])
   (.ret))
   (.skip)))
  (.seq (.reg [oF 30 0 2,
    oL 31 30,
    oJ 32 (.bin .eql (.t 31) (.c (.p (.int .i64 2)))),
    oM 29 32])
  (.cond (.t 29)
   (.seq (.reg [oF 33 2 2,
     oL 34 33,
     oJ 35 (.call bp [(.t 34)]),
     oJ 36 (.not (.t 35)),
     oM 37 36,
     ⟨(some 38),some (37,false),.fldA 1 (.t 2)⟩,
     ⟨(some 39),some (37,false),.ld none (.t 38)⟩,
     ⟨(some 40),some (37,false),.bin .neq (.t 39) (.c (.p (.int .i64 0)))⟩,
     oJ 41 (.pick (.t 37) (.c (.p (.bool true))) (.t 40))])
   (.cond (.t 41)
    (.seq (.reg [oK 4 0,
      oK 5 0,
      oJ 6 (.mov (.c (.p (.bool false))))])
    (.ret))
    (.skip)))
   (.seq (.reg [oF 43 0 2,
     oL 44 43,
     oJ 45 (.bin .eql (.t 44) (.c (.p (.int .i64 13)))),
     oM 42 45])
   (.cond (.t 42)
    (.seq (.reg [oK 8 3])
    (.seq (.reg [oF 46 2 2,
      oL 47 46,
      oJ 48 (.call bp [(.t 47)]),
      oJ 49 (.not (.t 48)),
      oM 50 49,
      ⟨(some 51),some (50,false),.fldA 1 (.t 2)⟩,
      ⟨(some 52),some (50,false),.ld none (.t 51)⟩,
      ⟨(some 53),some (50,false),.bin .neq (.t 52) (.c (.p (.int .i64 0)))⟩,
      oJ 54 (.pick (.t 50) (.c (.p (.bool true))) (.t 53))])
    (.cond (.t 54)
     (.seq (.reg [oK 4 0,
       oK 5 0,
       oJ 6 (.mov (.c (.p (.bool false))))])
     (.ret))
     (.skip))))
    (.seq (.reg [oJ 56 (.ld none (.c (.gp 2 0))),
      oF 57 0 2,
      oL 58 57,
      oJ 59 (.lk 0 (.agg [(.p (.str [])),(.p (.int .i64 0))]) false (.t 56) (.t 58)),
      oJ 60 (.fldv 1 none (.t 59)),
      oJ 61 (.bin .gtr (.t 60) (.c (.p (.int .i64 0)))),
      oM 55 61])
    (.cond (.t 55)
     (.reg [oK 7 2,
       oK 8 2])
     (.seq (.reg [oF 63 0 2,
       oL 64 63,
       oJ 65 (.bin .eql (.t 64) (.c (.p (.int .i64 11)))),
       oM 66 65,
       ⟨(some 67),some (66,false),.fldA 0 (.t 2)⟩,
       ⟨(some 68),some (66,false),.ld none (.t 67)⟩,
       ⟨(some 69),some (66,false),.bin .eql (.t 68) (.c (.p (.int .i64 12)))⟩,
       oJ 70 (.pick (.t 66) (.c (.p (.bool true))) (.t 69)),
       oM 62 70])
     (.cond (.t 62)
      (.reg [oK 7 1,
        oK 8 1])
      (.seq (.reg [oK 4 0,
        oK 5 0,
        oJ 6 (.mov (.c (.p (.bool false))))])
      (.ret)))))))))))))
 (.seq (.seq (.reg [oF 71 0 2,
   oL 72 71,
   oJ 73 (.call fj [(.t 72)]),
   oJ 74 (.bin .lss (.t 73) (.c (.p (.int .i64 6)))),
   oM 75 74,
   ⟨(some 76),some (75,true),.fldA 1 (.t 2)⟩,
   ⟨(some 77),some (75,true),.ld none (.t 76)⟩,
   ⟨(some 78),some (75,true),.bin .neq (.t 77) (.c (.p (.int .i64 0)))⟩,
   ⟨(some 79),some (75,true),.mov (.t 78)⟩,
   ⟨(some 80),some (79,false),.fldA 2 (.t 2)⟩,
   ⟨(some 81),some (79,false),.ld none (.t 80)⟩,
   ⟨(some 82),some (79,false),.bins .neq (.t 81) (.c (.p (.str [])))⟩,
   ⟨(some 83),some (75,true),.pick (.t 79) (.c (.p (.bool true))) (.t 82)⟩,
   oJ 84 (.pick (.t 75) (.t 83) (.c (.p (.bool false)))),
   oM 85 84,
   ⟨(some 86),some (85,false),.fldA 3 (.t 2)⟩,
   ⟨(some 87),some (85,false),.ld none (.t 86)⟩,
   ⟨(some 88),some (85,false),.len false (.t 87)⟩,
   ⟨(some 89),some (85,false),.mov (.t 7)⟩,
   ⟨(some 90),some (85,false),.mov (.t 8)⟩,
   ⟨(some 91),some (85,false),.call cE [(.t 88),(.t 89),(.t 90)]⟩,
   ⟨(some 92),some (85,false),.not (.t 91)⟩,
   oJ 93 (.pick (.t 85) (.c (.p (.bool true))) (.t 92)),
   oM 94 93,
   ⟨(some 95),some (94,false),.mov (.t 1)⟩,
   ⟨(some 96),some (94,false),.bin .lss (.t 95) (.c (.p (.int .i64 1)))⟩,
   oJ 97 (.pick (.t 94) (.c (.p (.bool true))) (.t 96))])
 (.cond (.t 97)
  (.seq (.reg [oK 4 0,
    oK 5 0,
    oJ 6 (.mov (.c (.p (.bool false))))])
  (.ret))
  (.skip)))
 (.seq (.reg [oK 9 1,
   oK 10 1])
 (.seq (.seq (.reg [oF 98 3 2,
   oL 99 98,
   oJ 100 (.len false (.t 99)),
   oK 101 0])
 (.blk 1 (.loop (.seq (.reg [oJ 102 (.bin .lss (.t 101) (.t 100))])
 (.seq (.cond (.t 102)
  (.skip)
  (.exit 1))
 (.seq (.blk 2 (.seq (.reg [oJ 103 (.idxS 4 (.t 99) (.t 101)),
   oJ 104 (.ld (some 4) (.t 103)),
   oJ 12 (.alloc [(.p (.int .i64 0)),(.p (.int .i64 0)),(.p (.str [])),.nils]),
   ⟨none,none,.st 4 (.t 12) (.t 104)⟩])
 (.seq (.reg [oJ 106 (.ld (some 4) (.t 12)),
   oM 107 1,
   oJ 108 (.bin .sub (.t 107) (.c (.p (.int .i64 1)))),
   oJ 109 (.call dh [(.t 106),(.t 108)]),
   oM 105 109,
   oJ 110 (.ext 0 (.t 105)),
   oJ 111 (.ext 1 (.t 105)),
   oJ 112 (.ext 2 (.t 105)),
   oM 13 110,
   oM 14 111,
   oM 15 112])
 (.seq (.seq (.reg [oM 113 15,
   oJ 114 (.not (.t 113))])
 (.cond (.t 114)
  (.seq (.reg [oK 4 0,
    oK 5 0,
    oJ 6 (.mov (.c (.p (.bool false))))])
  (.ret))
  (.skip)))
 (.seq (.reg [oM 115 9,
   oM 116 13,
   oJ 117 (.bin .add (.t 115) (.t 116)),
   oM 9 117])
 (.reg [oM 118 10,
   oM 119 14,
   oJ 120 (.bin .add (.t 119) (.c (.p (.int .i64 1)))),
   oJ 121 (.mx (.t 118) (.t 120)),
   oM 10 121]))))))
 (.reg [oJ 122 (.bin .add (.t 101) (.c (.p (.int .i64 1)))),
   oM 101 122])))))))
 (.seq (.reg [oM 123 9,
   oM 124 10,
   oM 125 9,
   oJ 126 (.bin .leq (.t 125) (.c (.p (.int .i64 30)))),
   oM 4 123,
   oM 5 124,
   oM 6 126])
 (.ret)))))))⟩
theorem rn:af Tryz.prog dh=some F_impl_exprSize:=by kernel_rfl
def jG:FK:=⟨13,[.t 2],
 .seq (.reg [oJ 1 (.box 4 (.t 0)),
  oJ 2 (.mov (.c (.p (.bool false))))])
 (.seq (.reg [oJ 7 (.ld (some 4) (.t 1)),
   oJ 8 (.call dh [(.t 7),(.c (.p (.int .i64 6)))]),
   oM 6 8,
   oJ 9 (.ext 0 (.t 6)),
   oJ 10 (.ext 1 (.t 6)),
   oJ 11 (.ext 2 (.t 6)),
   oM 3 9,
   oM 4 10,
   oM 5 11])
 (.seq (.reg [oM 12 5,
   oM 2 12])
 (.ret)))⟩
theorem pI:af Tryz.prog dT=some jG:=by kernel_rfl
def F_impl_stmtOk:FK:=⟨91,[.t 4],
 .seq (.reg [oJ 2 (.box 5 (.t 0)),
  oJ 4 (.mov (.c (.p (.bool false))))])
 (.seq (.reg [oF 12 0 2,
   oL 13 12,
   oJ 14 (.call eQ [(.t 13)]),
   oM 11 14,
   oJ 15 (.ext 0 (.t 11)),
   oJ 16 (.ext 1 (.t 11)),
   oJ 17 (.ext 2 (.t 11)),
   oJ 18 (.ext 3 (.t 11)),
   oM 5 15,
   oM 6 16,
   oM 7 17,
   oM 8 18])
 (.seq (.blk 0 (.seq (.seq (.reg [oM 20 1,
   oJ 21 (.bin .gtr (.t 20) (.c (.p (.int .i64 4)))),
   oM 19 21])
 (.cond (.t 19)
  (.skip)
  (.seq (.reg [oF 22 2 2,
    oL 23 22,
    oJ 24 (.len false (.t 23)),
    oM 25 5,
    oJ 26 (.bin .neq (.t 24) (.t 25)),
    oM 19 26])
  (.cond (.t 19)
   (.skip)
   (.seq (.reg [oM 27 6,
     oM 28 27,
     ⟨(some 29),some (28,true),.fldA 1 (.t 2)⟩,
     ⟨(some 30),some (28,true),.ld none (.t 29)⟩,
     ⟨(some 31),some (28,true),.call bp [(.t 30)]⟩,
     ⟨(some 32),some (28,true),.not (.t 31)⟩,
     oJ 33 (.pick (.t 28) (.t 32) (.c (.p (.bool false)))),
     oM 19 33])
   (.cond (.t 19)
    (.skip)
    (.seq (.reg [oM 34 6,
      oJ 35 (.not (.t 34)),
      oM 36 35,
      ⟨(some 37),some (36,true),.fldA 1 (.t 2)⟩,
      ⟨(some 38),some (36,true),.ld none (.t 37)⟩,
      ⟨(some 39),some (36,true),.bins .neq (.t 38) (.c (.p (.str [])))⟩,
      oJ 40 (.pick (.t 36) (.t 39) (.c (.p (.bool false)))),
      oM 19 40])
    (.cond (.t 19)
     (.skip)
     (.seq (.reg [oM 41 7,
       oJ 42 (.not (.t 41)),
       oM 43 42,
       ⟨(some 44),some (43,true),.fldA 3 (.t 2)⟩,
       ⟨(some 45),some (43,true),.ld none (.t 44)⟩,
       ⟨(some 46),some (43,true),.len false (.t 45)⟩,
       ⟨(some 47),some (43,true),.bin .gtr (.t 46) (.c (.p (.int .i64 0)))⟩,
       oJ 48 (.pick (.t 43) (.t 47) (.c (.p (.bool false)))),
       oM 19 48])
     (.cond (.t 19)
      (.skip)
      (.seq (.reg [oM 49 8,
        oJ 50 (.not (.t 49)),
        oM 51 50,
        ⟨(some 52),some (51,true),.fldA 4 (.t 2)⟩,
        ⟨(some 53),some (51,true),.ld none (.t 52)⟩,
        ⟨(some 54),some (51,true),.len false (.t 53)⟩,
        ⟨(some 55),some (51,true),.bin .gtr (.t 54) (.c (.p (.int .i64 0)))⟩,
        oJ 56 (.pick (.t 51) (.t 55) (.c (.p (.bool false)))),
        oM 19 56])
      (.cond (.t 19)
       (.skip)
       (.reg [oF 57 0 2,
         oL 58 57,
         oJ 59 (.bin .eql (.t 58) (.c (.p (.int .i64 8)))),
         oM 60 59,
         ⟨(some 61),some (60,true),.fldA 2 (.t 2)⟩,
         ⟨(some 62),some (60,true),.ld none (.t 61)⟩,
         ⟨(some 63),some (60,true),.idxS 4 (.t 62) (.c (.p (.int .i64 0)))⟩,
         ⟨(some 64),some (60,true),.fldA 0 (.t 63)⟩,
         ⟨(some 65),some (60,true),.ld none (.t 64)⟩,
         ⟨(some 66),some (60,true),.bin .neq (.t 65) (.c (.p (.int .i64 13)))⟩,
         oJ 67 (.pick (.t 60) (.t 66) (.c (.p (.bool false)))),
         oM 19 67])))))))))))))
 (.cond (.t 19)
  (.seq (.reg [oJ 4 (.mov (.c (.p (.bool false))))])
  (.ret))
  (.skip))))
 (.seq (.seq (.reg [oF 68 2 2,
   oL 69 68,
   oJ 70 (.len false (.t 69)),
   oK 71 0])
 (.blk 1 (.loop (.seq (.reg [oJ 72 (.bin .lss (.t 71) (.t 70))])
 (.seq (.cond (.t 72)
  (.skip)
  (.exit 1))
 (.seq (.blk 2 (.seq (.reg [oJ 73 (.idxS 4 (.t 69) (.t 71)),
   oJ 74 (.ld (some 4) (.t 73)),
   oJ 10 (.alloc [(.p (.int .i64 0)),(.p (.int .i64 0)),(.p (.str [])),.nils]),
   ⟨none,none,.st 4 (.t 10) (.t 74)⟩])
 (.seq (.reg [oJ 75 (.ld (some 4) (.t 10)),
   oJ 76 (.call dT [(.t 75)]),
   oJ 77 (.not (.t 76))])
 (.cond (.t 77)
  (.seq (.reg [oJ 4 (.mov (.c (.p (.bool false))))])
  (.ret))
  (.skip)))))
 (.reg [oJ 78 (.bin .add (.t 71) (.c (.p (.int .i64 1)))),
   oM 71 78])))))))
 (.seq (.reg [oF 79 3 2,
   oL 80 79,
   oM 81 1,
   oJ 82 (.bin .add (.t 81) (.c (.p (.int .i64 1)))),
   oJ 83 (.call co [(.t 80),(.t 82)]),
   oM 84 83,
   ⟨(some 85),some (84,true),.fldA 4 (.t 2)⟩,
   ⟨(some 86),some (84,true),.ld none (.t 85)⟩,
   ⟨(some 87),some (84,true),.mov (.t 1)⟩,
   ⟨(some 88),some (84,true),.bin .add (.t 87) (.c (.p (.int .i64 1)))⟩,
   ⟨(some 89),some (84,true),.call co [(.t 86),(.t 88)]⟩,
   oJ 90 (.pick (.t 84) (.t 89) (.c (.p (.bool false)))),
   oM 4 90])
 (.ret)))))⟩
theorem nx:af Tryz.prog gr=some F_impl_stmtOk:=by kernel_rfl
def jS:FK:=⟨8,[.t 3],
 .seq (.reg [oJ 2 (.box 5 (.t 0)),
  oJ 3 (.mov (.c (.p (.bool false))))])
 (.seq (.reg [oJ 4 (.ld (some 5) (.t 2)),
   oL 5 1,
   oJ 6 (.call gr [(.t 4),(.t 5)]),
   oJ 7 (.not (.t 6)),
   oM 3 7])
 (.ret))⟩
theorem pR:af Tryz.prog ck=some jS:=by kernel_rfl
def mr:FK:=⟨9,[.t 4],
 .seq (.reg [oJ 3 (.box 1 (.t 1)),
  oJ 4 (.mov (.c (.p (.bool false))))])
 (.seq (.reg [oM 5 0,
   oJ 6 (.mkf (.func ck) [(.t 3)]),
   oJ 7 (.call bC [(.t 5),(.t 6)]),
   oJ 8 (.not (.t 7)),
   oM 4 8])
 (.ret))⟩
theorem sx:af Tryz.prog co=some mr:=by kernel_rfl
def oP:FK:=⟨31,[],
 .seq (.reg [oM 8 0,
  oJ 9 (.len false (.t 8)),
  oK 10 0])
 (.blk 0 (.loop (.seq (.reg [oJ 11 (.bin .lss (.t 10) (.t 9))])
 (.seq (.cond (.t 11)
  (.skip)
  (.exit 0))
 (.seq (.blk 1 (.seq (.reg [oJ 12 (.idxS 5 (.t 8) (.t 10)),
   oJ 13 (.ld (some 5) (.t 12)),
   oJ 7 (.alloc [(.p (.int .i64 0)),(.p (.str [])),.nils,.nils,.nils]),
   ⟨none,none,.st 5 (.t 7) (.t 13)⟩])
 (.seq (.reg [oM 14 2,
   oJ 15 (.ld (some 5) (.t 7)),
   oM 16 1,
   oJ 17 (.callv (.t 14) [(.t 15),(.t 16)])])
 (.seq (.reg [oF 18 3 7,
   oL 19 18,
   oM 20 1,
   oJ 21 (.bin .add (.t 20) (.c (.p (.int .i64 1)))),
   oM 22 2,
   oJ 23 (.call dZ [(.t 19),(.t 21),(.t 22)])])
 (.reg [oF 24 4 7,
   oL 25 24,
   oM 26 1,
   oJ 27 (.bin .add (.t 26) (.c (.p (.int .i64 1)))),
   oM 28 2,
   oJ 29 (.call dZ [(.t 25),(.t 27),(.t 28)])])))))
 (.reg [oJ 30 (.bin .add (.t 10) (.c (.p (.int .i64 1)))),
   oM 10 30]))))))⟩
theorem vu:af Tryz.prog dZ=some oP:=by kernel_rfl
def jW:FK:=⟨11,[],
 .seq (.reg [oJ 4 (.box 5 (.t 0))])
 (.seq (.reg [oL 6 2,
   oJ 7 (.bin .add (.t 6) (.c (.p (.int .i64 1)))),
   oS 2 7])
 (.reg [oL 8 3,
   oM 9 1,
   oJ 10 (.mx (.t 8) (.t 9)),
   oS 3 10]))⟩
theorem qn:af Tryz.prog dV=some jW:=by kernel_rfl
def lW:FK:=⟨20,[.c 2 none,.c 3 none],
 .seq (.reg [oJ 1 (.box 1 (.t 0)),
  oJ 2 (.alloc [(.p (.int .i64 0))]),
  oJ 3 (.alloc [(.p (.int .i64 0))])])
 (.seq (.seq (.reg [oF 6 0 1,
   oL 7 6,
   oJ 8 (.len false (.t 7)),
   oK 9 0])
 (.blk 0 (.loop (.seq (.reg [oJ 10 (.bin .lss (.t 9) (.t 8))])
 (.seq (.cond (.t 10)
  (.skip)
  (.exit 0))
 (.seq (.blk 1 (.seq (.reg [oJ 11 (.idxS 3 (.t 7) (.t 9)),
   oJ 12 (.ld (some 3) (.t 11)),
   oJ 5 (.alloc [(.p (.str [])),.nils,.nils]),
   ⟨none,none,.st 3 (.t 5) (.t 12)⟩])
 (.reg [oF 13 2 5,
   oL 14 13,
   oJ 15 (.mkf (.func dV) [(.t 2),(.t 3)]),
   oJ 16 (.call dZ [(.t 14),(.c (.p (.int .i64 1))),(.t 15)])])))
 (.reg [oJ 17 (.bin .add (.t 9) (.c (.p (.int .i64 1)))),
   oM 9 17])))))))
 (.seq (.reg [oL 18 2,
   oL 19 3,
   oS 2 18,
   ⟨none,none,.chk none 3 19⟩,
   oS 3 19])
 (.ret)))⟩
theorem sc:af Tryz.prog iJ=some lW:=by kernel_rfl
def fK:FK:=⟨6,[.t 2],
 .seq (.reg [oJ 2 (.mov (.c (.p (.bool false))))])
 (.seq (.reg [oM 3 0,
   oJ 4 (.call bp [(.t 3)]),
   oJ 5 (.not (.t 4)),
   oM 2 5])
 (.ret))⟩
theorem lf:af Tryz.prog bg=some fK:=by kernel_rfl
def gU:FK:=⟨48,[.t 2],
 .seq (.reg [oJ 1 (.box 1 (.t 0)),
  oJ 2 (.mov (.c (.p (.bool false))))])
 (.seq (.seq (.reg [oF 7 0 1,
   oL 8 7,
   oJ 9 (.len false (.t 8)),
   oJ 10 (.call cE [(.t 9),(.c (.p (.int .i64 1))),(.c (.p (.int .i64 4)))]),
   oJ 11 (.not (.t 10))])
 (.cond (.t 11)
  (.seq (.reg [oJ 2 (.mov (.c (.p (.bool false))))])
  (.ret))
  (.skip)))
 (.seq (.seq (.reg [oF 12 0 1,
   oL 13 12,
   oJ 14 (.len false (.t 13)),
   oK 15 0])
 (.blk 0 (.loop (.seq (.reg [oJ 16 (.bin .lss (.t 15) (.t 14))])
 (.seq (.cond (.t 16)
  (.skip)
  (.exit 0))
 (.seq (.blk 1 (.seq (.reg [oJ 17 (.idxS 3 (.t 13) (.t 15)),
   oJ 18 (.ld (some 3) (.t 17)),
   oJ 4 (.alloc [(.p (.str [])),.nils,.nils]),
   ⟨none,none,.st 3 (.t 4) (.t 18)⟩])
 (.seq (.reg [oF 19 0 4,
   oL 20 19,
   oJ 21 (.call bp [(.t 20)]),
   oJ 22 (.not (.t 21)),
   oM 23 22,
   ⟨(some 24),some (23,false),.fldA 1 (.t 4)⟩,
   ⟨(some 25),some (23,false),.ld none (.t 24)⟩,
   ⟨(some 26),some (23,false),.len false (.t 25)⟩,
   ⟨(some 27),some (23,false),.bin .gtr (.t 26) (.c (.p (.int .i64 3)))⟩,
   oJ 28 (.pick (.t 23) (.c (.p (.bool true))) (.t 27)),
   oM 29 28,
   ⟨(some 30),some (29,false),.fldA 1 (.t 4)⟩,
   ⟨(some 31),some (29,false),.ld none (.t 30)⟩,
   ⟨(some 32),some (29,false),.call bV [(.t 31),(.c (.fn (.func bg) []))]⟩,
   oJ 33 (.pick (.t 29) (.c (.p (.bool true))) (.t 32)),
   oM 34 33,
   ⟨(some 35),some (34,false),.fldA 2 (.t 4)⟩,
   ⟨(some 36),some (34,false),.ld none (.t 35)⟩,
   ⟨(some 37),some (34,false),.call co [(.t 36),(.c (.p (.int .i64 1)))]⟩,
   ⟨(some 38),some (34,false),.not (.t 37)⟩,
   oJ 39 (.pick (.t 34) (.c (.p (.bool true))) (.t 38))])
 (.cond (.t 39)
  (.seq (.reg [oJ 2 (.mov (.c (.p (.bool false))))])
  (.ret))
  (.skip)))))
 (.reg [oJ 40 (.bin .add (.t 15) (.c (.p (.int .i64 1)))),
   oM 15 40])))))))
 (.seq (.reg [oJ 42 (.ld (some 1) (.t 1)),
   oJ 43 (.call iJ [(.t 42)]),
   oM 41 43,
   oJ 44 (.ext 0 (.t 41)),
   oJ 45 (.ext 1 (.t 41)),
   oM 5 44,
   oM 6 45])
 (.seq (.reg [oM 46 5,
   oJ 47 (.bin .leq (.t 46) (.c (.p (.int .i64 40)))),
   oM 2 47])
 (.ret)))))⟩
theorem nc:af Tryz.prog cI=some gU:=by kernel_rfl
def cr:FK:=⟨19,[.t 4],
 .seq (.reg [oK 4 0])
 (.seq (.seq (.reg [oM 6 0,
   oJ 7 (.len false (.t 6)),
   oK 8 0])
 (.blk 0 (.loop (.seq (.reg [oJ 9 (.bin .lss (.t 8) (.t 7))])
 (.seq (.cond (.t 9)
  (.skip)
  (.exit 0))
 (.seq (.blk 1 (.seq (.reg [oM 10 8,
   oM 5 10])
 (.seq (.reg [oM 11 1,
   oM 12 0,
   oM 13 5,
   oJ 14 (.idxS 3 (.t 12) (.t 13)),
   oJ 15 (.ld (some 3) (.t 14)),
   oJ 16 (.callv (.t 11) [(.t 15)])])
 (.cond (.t 16)
  (.seq (.reg [oM 17 5,
    oM 4 17])
  (.ret))
  (.skip)))))
 (.reg [oJ 18 (.bin .add (.t 8) (.c (.p (.int .i64 1)))),
   oM 8 18])))))))
 (.seq (.reg [oJ 4 (.mov (.c (.p (.int .i64 (-1)))))])
 (.ret)))⟩
theorem dJ:af Tryz.prog aX=some cr:=by kernel_rfl
def nG:FK:=⟨8,[.t 3],
 .seq (.reg [oJ 2 (.box 3 (.t 0)),
  oJ 3 (.mov (.c (.p (.bool false))))])
 (.seq (.reg [oF 4 0 2,
   oL 5 4,
   oL 6 1,
   oJ 7 (.bins .eql (.t 5) (.t 6)),
   oM 3 7])
 (.ret))⟩
theorem tx:af Tryz.prog eF=some nG:=by kernel_rfl
def qV:FK:=⟨9,[.t 4],
 .seq (.reg [oJ 2 (.box 1 (.t 0)),
  oJ 3 (.box 1 (.t 1)),
  oK 4 0])
 (.seq (.reg [oF 5 0 2,
   oL 6 5,
   oJ 7 (.mkf (.func eF) [(.t 3)]),
   oJ 8 (.call aX [(.t 6),(.t 7)]),
   oM 4 8])
 (.ret))⟩
theorem wy:af Tryz.prog gx=some qV:=by kernel_rfl
def er:FK:=⟨13,[],
 .seq (.reg [oM 4 0,
  oN 5 4,
  oF 6 2 5,
  oL 7 6,
  oJ 8 (.bin .eql (.t 7) (.c (.p (.int .i64 0))))])
 (.cond (.t 8)
  (.reg [oM 9 0,
    oM 10 1,
    oN 11 9,
    oF 12 2 11,
    oS 12 10])
  (.skip))⟩
theorem nh:af Tryz.prog aq=some er:=by kernel_rfl
def fD:FK:=⟨7,[.t 2],
 .seq (.reg [oJ 2 (.mov (.c .nilp))])
 (.seq (.reg [oJ 3 (.mkm),
   oM 4 0,
   oJ 5 (.bld [.nilm,.nilp] [(0,1,(.t 3)),(1,1,(.t 4))]),
   oJ 6 (.box 2 (.t 5)),
   oM 2 6])
 (.ret))⟩
theorem pD:af Tryz.prog aB=some fD:=by kernel_rfl
def oZ:FK:=⟨20,[],
 .seq (.reg [oJ 2 (.box 4 (.t 0))])
 (.seq (.reg [oM 6 1,
   oJ 7 (.ld (some 4) (.t 2)),
   oJ 8 (.callv (.t 6) [(.t 7)])])
 (.seq (.reg [oF 9 3 2,
   oL 10 9,
   oJ 11 (.len false (.t 10)),
   oK 12 0])
 (.blk 0 (.loop (.seq (.reg [oJ 13 (.bin .lss (.t 12) (.t 11))])
 (.seq (.cond (.t 13)
  (.skip)
  (.exit 0))
 (.seq (.blk 1 (.seq (.reg [oJ 14 (.idxS 4 (.t 10) (.t 12)),
   oJ 15 (.ld (some 4) (.t 14)),
   oJ 5 (.alloc [(.p (.int .i64 0)),(.p (.int .i64 0)),(.p (.str [])),.nils]),
   ⟨none,none,.st 4 (.t 5) (.t 15)⟩])
 (.reg [oJ 16 (.ld (some 4) (.t 5)),
   oM 17 1,
   oJ 18 (.call ij [(.t 16),(.t 17)])])))
 (.reg [oJ 19 (.bin .add (.t 12) (.c (.p (.int .i64 1)))),
   oM 12 19]))))))))⟩
theorem uS:af Tryz.prog ij=some oZ:=by kernel_rfl
def jn:FK:=⟨25,[.t 4,.t 5],
 .seq (.reg [oK 4 0,
  oJ 5 (.mov (.c (.p (.bool false))))])
 (.seq (.blk 0 (.loop (.seq (.seq (.reg [oM 8 0,
   oJ 9 (.pnil 0 true (.t 8))])
 (.cond (.t 9)
  (.skip)
  (.exit 0)))
 (.seq (.blk 1 (.seq (.reg [oM 15 0,
   oN 16 15,
   oF 17 0 16,
   oL 18 17,
   oM 19 1,
   oJ 20 (.lk 1 (.p (.int .i64 0)) true (.t 18) (.t 19)),
   oM 14 20,
   oJ 21 (.ext 0 (.t 14)),
   oJ 22 (.ext 1 (.t 14)),
   oM 6 21,
   oM 7 22])
 (.seq (.reg [oM 23 7])
 (.cond (.t 23)
  (.seq (.reg [oM 24 6,
    oM 4 24,
    oJ 5 (.mov (.c (.p (.bool true))))])
  (.ret))
  (.skip)))))
 (.reg [oM 10 0,
   oN 11 10,
   oF 12 1 11,
   oL 13 12,
   oM 0 13])))))
 (.seq (.reg [oK 4 0,
   oJ 5 (.mov (.c (.p (.bool false))))])
 (.ret)))⟩
theorem pi:af Tryz.prog aI=some jn:=by kernel_rfl
def fJ:FK:=⟨58,[],
 .seq (.reg [oJ 3 (.box 4 (.t 0))])
 (.seq (.reg [oF 7 0 3,
   oL 8 7])
 (.blk 0 (.seq (.reg [oJ 10 (.bin .eql (.t 8) (.c (.p (.int .i64 2)))),
   oM 9 10])
 (.cond (.t 9)
  (.seq (.reg [oL 12 1,
    oF 13 2 3,
    oL 14 13,
    oJ 15 (.call aI [(.t 12),(.t 14)]),
    oM 11 15,
    oJ 16 (.ext 0 (.t 11)),
    oJ 17 (.ext 1 (.t 11)),
    oM 4 16,
    oM 5 17])
  (.seq (.reg [oM 18 5,
    oJ 19 (.not (.t 18))])
  (.cond (.t 19)
   (.reg [oL 20 2,
     oJ 21 (.call aq [(.t 20),(.c (.p (.int .i64 3)))])])
   (.skip))))
  (.seq (.reg [oJ 23 (.bin .eql (.t 8) (.c (.p (.int .i64 13)))),
    oM 22 23])
  (.cond (.t 22)
   (.seq (.reg [oF 35 2 3,
     oL 24 2,
     oN 25 24,
     oF 26 0 25,
     oF 27 0 26,
     oL 28 27,
     oL 29 2,
     oN 30 29,
     oF 31 1 30,
     oL 32 31,
     oJ 33 (.slS 3 (.t 28) none (some (.t 32))),
     oJ 34 (.bld [.nils] [(0,1,(.t 33))]),
     oL 36 35,
     oJ 37 (.call gx [(.t 34),(.t 36)]),
     oM 6 37])
   (.seq (.reg [oM 38 6,
     oJ 39 (.bin .lss (.t 38) (.c (.p (.int .i64 0))))])
   (.cond (.t 39)
    (.reg [oL 40 2,
      oJ 41 (.call aq [(.t 40),(.c (.p (.int .i64 4)))])])
    (.seq (.reg [oM 47 6,
      oF 52 3 3,
      oL 42 2,
      oN 43 42,
      oF 44 0 43,
      oF 45 0 44,
      oL 46 45,
      oJ 48 (.idxS 3 (.t 46) (.t 47)),
      oF 49 1 48,
      oL 50 49,
      oJ 51 (.len false (.t 50)),
      oL 53 52,
      oJ 54 (.len false (.t 53)),
      oJ 55 (.bin .neq (.t 51) (.t 54))])
    (.cond (.t 55)
     (.reg [oL 56 2,
       oJ 57 (.call aq [(.t 56),(.c (.p (.int .i64 5)))])])
     (.skip))))))
   (.skip)))))))⟩
theorem le:af Tryz.prog bG=some fJ:=by kernel_rfl
def eA:FK:=⟨9,[],
 .seq (.reg [oJ 3 (.box 1 (.t 0)),
  oJ 4 (.box 4 (.t 1)),
  oJ 5 (.box 1 (.t 2))])
 (.reg [oJ 6 (.ld (some 4) (.t 4)),
   oJ 7 (.mkf (.func bG) [(.t 5),(.t 3)]),
   oJ 8 (.call ij [(.t 6),(.t 7)])])⟩
theorem mZ:af Tryz.prog bY=some eA:=by kernel_rfl
def F_impl_checker_block:FK:=⟨89,[],
 .seq (.reg [oM 14 1,
  oJ 15 (.len false (.t 14)),
  oK 16 0])
 (.blk 0 (.loop (.seq (.reg [oJ 17 (.bin .lss (.t 16) (.t 15))])
 (.seq (.cond (.t 17)
  (.skip)
  (.exit 0))
 (.seq (.blk 1 (.seq (.reg [oJ 18 (.idxS 5 (.t 14) (.t 16)),
   oJ 19 (.ld (some 5) (.t 18)),
   oJ 7 (.alloc [(.p (.int .i64 0)),(.p (.str [])),.nils,.nils,.nils]),
   ⟨none,none,.st 5 (.t 7) (.t 19)⟩])
 (.seq (.seq (.reg [oF 20 2 7,
   oL 21 20,
   oJ 22 (.len false (.t 21)),
   oK 23 0])
 (.blk 2 (.loop (.seq (.reg [oJ 24 (.bin .lss (.t 23) (.t 22))])
 (.seq (.cond (.t 24)
  (.skip)
  (.exit 2))
 (.seq (.blk 3 (.seq (.reg [oJ 25 (.idxS 4 (.t 21) (.t 23)),
   oJ 26 (.ld (some 4) (.t 25)),
   oJ 9 (.alloc [(.p (.int .i64 0)),(.p (.int .i64 0)),(.p (.str [])),.nils]),
   ⟨none,none,.st 4 (.t 9) (.t 26)⟩])
 (.reg [oM 27 0,
   oJ 28 (.ld (some 4) (.t 9)),
   oM 29 2,
   oJ 30 (.call bY [(.t 27),(.t 28),(.t 29)])])))
 (.reg [oJ 31 (.bin .add (.t 23) (.c (.p (.int .i64 1)))),
   oM 23 31])))))))
 (.seq (.seq (.reg [oF 32 0 7,
   oL 33 32])
 (.blk 4 (.seq (.reg [oJ 35 (.bin .eql (.t 33) (.c (.p (.int .i64 1)))),
   oM 34 35])
 (.cond (.t 34)
  (.seq (.seq (.reg [oM 37 2,
    oN 38 37,
    oF 39 0 38,
    oF 41 1 7,
    oL 40 39,
    oL 42 41,
    oJ 43 (.lk 1 (.p (.int .i64 0)) true (.t 40) (.t 42)),
    oM 36 43,
    oJ 44 (.ext 0 (.t 36)),
    oJ 45 (.ext 1 (.t 36)),
    oM 10 44,
    oM 11 45])
  (.seq (.reg [oM 46 11])
  (.cond (.t 46)
   (.reg [oM 47 0,
     oJ 48 (.call aq [(.t 47),(.c (.p (.int .i64 2)))])])
   (.skip))))
  (.reg [oM 49 2,
    oN 50 49,
    oF 51 0 50,
    oF 53 1 7,
    oL 52 51,
    oL 54 53,
    ⟨none,none,.mup 1 (.t 52) (.t 54) (.c (.p (.int .i64 0)))⟩]))
  (.seq (.reg [oJ 56 (.bin .eql (.t 33) (.c (.p (.int .i64 2)))),
    oM 55 56])
  (.cond (.t 55)
   (.seq (.reg [oM 58 2,
     oF 59 1 7,
     oL 60 59,
     oJ 61 (.call aI [(.t 58),(.t 60)]),
     oM 57 61,
     oJ 62 (.ext 0 (.t 57)),
     oJ 63 (.ext 1 (.t 57)),
     oM 12 62,
     oM 13 63])
   (.seq (.reg [oM 64 13,
     oJ 65 (.not (.t 64))])
   (.cond (.t 65)
    (.reg [oM 66 0,
      oJ 67 (.call aq [(.t 66),(.c (.p (.int .i64 3)))])])
    (.skip))))
   (.skip)))))))
 (.seq (.reg [oF 68 0 7,
   oL 69 68,
   oJ 70 (.bin .eql (.t 69) (.c (.p (.int .i64 5)))),
   oM 71 70,
   ⟨(some 72),some (71,false),.fldA 0 (.t 7)⟩,
   ⟨(some 73),some (71,false),.ld none (.t 72)⟩,
   ⟨(some 74),some (71,false),.bin .eql (.t 73) (.c (.p (.int .i64 6)))⟩,
   oJ 75 (.pick (.t 71) (.c (.p (.bool true))) (.t 74))])
 (.cond (.t 75)
  (.seq (.reg [oM 76 0,
    oF 77 3 7,
    oM 79 2,
    oL 78 77,
    oJ 80 (.call aB [(.t 79)]),
    ⟨none,none,.chk none 77 78⟩,
    oJ 81 (.call aM [(.t 76),(.t 78),(.t 80)])])
  (.reg [oM 82 0,
    oF 83 4 7,
    oM 85 2,
    oL 84 83,
    oJ 86 (.call aB [(.t 85)]),
    ⟨none,none,.chk none 83 84⟩,
    oJ 87 (.call aM [(.t 82),(.t 84),(.t 86)])]))
  (.skip)))))))
 (.reg [oJ 88 (.bin .add (.t 16) (.c (.p (.int .i64 1)))),
   oM 16 88]))))))⟩
theorem lh:af Tryz.prog aM=some F_impl_checker_block:=by kernel_rfl
def F_impl_CheckProgram:FK:=⟨73,[.t 2],
 .seq (.reg [oJ 1 (.box 1 (.t 0)),
  oK 2 0])
 (.seq (.seq (.reg [oJ 11 (.ld (some 1) (.t 1)),
   oJ 12 (.call cI [(.t 11)]),
   oJ 13 (.not (.t 12))])
 (.cond (.t 13)
  (.seq (.reg [oK 2 1])
  (.ret))
  (.skip)))
 (.seq (.reg [oJ 14 (.ld (some 1) (.t 1)),
   oJ 15 (.bld [.nils,(.p (.int .i64 0)),(.p (.int .i64 0))] [(0,1,(.t 14))]),
   oJ 16 (.box 3 (.t 15)),
   oM 3 16])
 (.seq (.seq (.reg [oF 17 0 1,
   oL 18 17,
   oJ 19 (.len false (.t 18)),
   oK 20 0])
 (.blk 0 (.loop (.seq (.reg [oJ 21 (.bin .lss (.t 20) (.t 19))])
 (.seq (.cond (.t 21)
  (.skip)
  (.exit 0))
 (.seq (.blk 1 (.seq (.reg [oM 22 20,
   oJ 23 (.idxS 3 (.t 18) (.t 20)),
   oJ 24 (.ld (some 3) (.t 23)),
   oJ 5 (.alloc [(.p (.str [])),.nils,.nils]),
   oM 4 22,
   ⟨none,none,.st 3 (.t 5) (.t 24)⟩])
 (.seq (.reg [oM 25 3,
   oM 26 4,
   oN 27 25,
   oF 28 1 27,
   oS 28 26])
 (.seq (.seq (.reg [oJ 29 (.ld (some 1) (.t 1)),
   oF 30 0 5,
   oL 31 30,
   oJ 32 (.call gx [(.t 29),(.t 31)]),
   oM 33 4,
   oJ 34 (.bin .lss (.t 32) (.t 33))])
 (.cond (.t 34)
  (.reg [oM 35 3,
    oJ 36 (.call aq [(.t 35),(.c (.p (.int .i64 2)))])])
  (.skip)))
 (.seq (.reg [oJ 37 (.call aB [(.c .nilp)]),
   oM 6 37])
 (.seq (.seq (.reg [oF 38 1 5,
   oL 39 38,
   oJ 40 (.len false (.t 39)),
   oK 41 0])
 (.blk 2 (.loop (.seq (.reg [oJ 42 (.bin .lss (.t 41) (.t 40))])
 (.seq (.cond (.t 42)
  (.skip)
  (.exit 2))
 (.seq (.blk 3 (.seq (.reg [oJ 43 (.idxS 1 (.t 39) (.t 41)),
   oL 44 43,
   oM 8 44])
 (.seq (.seq (.reg [oM 46 6,
   oN 47 46,
   oF 48 0 47,
   oL 49 48,
   oM 50 8,
   oJ 51 (.lk 1 (.p (.int .i64 0)) true (.t 49) (.t 50)),
   oM 45 51,
   oJ 52 (.ext 0 (.t 45)),
   oJ 53 (.ext 1 (.t 45)),
   oM 9 52,
   oM 10 53])
 (.seq (.reg [oM 54 10])
 (.cond (.t 54)
  (.reg [oM 55 3,
    oJ 56 (.call aq [(.t 55),(.c (.p (.int .i64 2)))])])
  (.skip))))
 (.reg [oM 57 6,
   oN 58 57,
   oF 59 0 58,
   oL 60 59,
   oM 61 8,
   ⟨none,none,.mup 1 (.t 60) (.t 61) (.c (.p (.int .i64 0)))⟩]))))
 (.reg [oJ 62 (.bin .add (.t 41) (.c (.p (.int .i64 1)))),
   oM 41 62])))))))
 (.reg [oM 63 3,
   oF 64 2 5,
   oL 65 64,
   oM 66 6,
   oJ 67 (.call aM [(.t 63),(.t 65),(.t 66)])])))))))
 (.reg [oJ 68 (.bin .add (.t 20) (.c (.p (.int .i64 1)))),
   oM 20 68])))))))
 (.seq (.reg [oM 69 3,
   oN 70 69,
   oF 71 2 70,
   oL 72 71,
   oM 2 72])
 (.ret)))))⟩
theorem mR:af Tryz.prog ep=some F_impl_CheckProgram:=by kernel_rfl
def qR:FK:=⟨6,[.t 2],
 .seq (.reg [oJ 1 (.box 1 (.t 0)),
  oJ 2 (.mov (.c (.p (.bool false))))])
 (.seq (.reg [oJ 3 (.ld (some 1) (.t 1)),
   oJ 4 (.call ep [(.t 3)]),
   oJ 5 (.bin .eql (.t 4) (.c (.p (.int .i64 0)))),
   oM 2 5])
 (.ret))⟩
theorem wq:af Tryz.prog me=some qR:=by kernel_rfl
def cY:FK:=⟨9,[.t 4],
 .seq (.reg [oJ 4 (.mov (.c (.p (.bool false))))])
 (.seq (.reg [oM 5 0,
   oM 6 1,
   oJ 7 (.call aX [(.t 5),(.t 6)]),
   oJ 8 (.bin .geq (.t 7) (.c (.p (.int .i64 0)))),
   oM 4 8])
 (.ret))⟩
theorem gE:af Tryz.prog bP=some cY:=by kernel_rfl
def fL:FK:=⟨22,[.t 4],
 .seq (.reg [oJ 4 (.mov (.c .nils))])
 (.seq (.reg [oJ 5 (.mov (.c .nils))])
 (.seq (.seq (.reg [oM 8 0,
   oJ 9 (.len false (.t 8)),
   oK 10 0])
 (.blk 0 (.loop (.seq (.reg [oJ 11 (.bin .lss (.t 10) (.t 9))])
 (.seq (.cond (.t 11)
  (.skip)
  (.exit 0))
 (.seq (.blk 1 (.seq (.reg [oJ 12 (.idxS 3 (.t 8) (.t 10)),
   oJ 13 (.ld (some 3) (.t 12)),
   oJ 7 (.alloc [(.p (.str [])),.nils,.nils]),
   ⟨none,none,.st 3 (.t 7) (.t 13)⟩])
 (.reg [oM 14 5,
   oM 15 1,
   oJ 16 (.ld (some 3) (.t 7)),
   oJ 17 (.callv (.t 15) [(.t 16)]),
   oJ 18 (.bsl 3 [(.p (.str [])),.nils,.nils] 1 [(0,3,(.t 17))]),
   oJ 19 (.app 3 64 (.t 14) (.t 18)),
   oM 5 19])))
 (.reg [oJ 20 (.bin .add (.t 10) (.c (.p (.int .i64 1)))),
   oM 10 20])))))))
 (.seq (.reg [oM 21 5,
   oM 4 21])
 (.ret))))⟩
theorem kX:af Tryz.prog dy=some fL:=by kernel_rfl
def fv:FK:=⟨10,[],
 .seq (.reg [oJ 3 (.box 5 (.t 0))])
 (.seq (.reg [oF 5 0 3,
   oL 6 5,
   oJ 7 (.bin .eql (.t 6) (.c (.p (.int .i64 1))))])
 (.cond (.t 7)
  (.reg [oL 8 2,
    oJ 9 (.bin .add (.t 8) (.c (.p (.int .i64 1)))),
    oS 2 9])
  (.skip)))⟩
theorem pc:af Tryz.prog dA=some fv:=by kernel_rfl
def kQ:FK:=⟨12,[.t 2],
 .seq (.reg [oJ 1 (.box 3 (.t 0)),
  oK 2 0])
 (.seq (.reg [oF 4 1 1,
   oL 5 4,
   oJ 6 (.len false (.t 5)),
   oJ 3 (.alloc [(.p (.int .i64 0))]),
   oS 3 6])
 (.seq (.reg [oF 7 2 1,
   oL 8 7,
   oJ 9 (.mkf (.func dA) [(.t 3)]),
   oJ 10 (.call dZ [(.t 8),(.c (.p (.int .i64 1))),(.t 9)])])
 (.seq (.reg [oL 11 3,
   oM 2 11])
 (.ret))))⟩
theorem rb:af Tryz.prog gS=some kQ:=by kernel_rfl
def fw:FK:=⟨6,[.t 2],
 .seq (.reg [oJ 1 (.box 3 (.t 0)),
  oJ 2 (.mov (.c (.p (.bool false))))])
 (.seq (.reg [oJ 3 (.ld (some 3) (.t 1)),
   oJ 4 (.call gS [(.t 3)]),
   oJ 5 (.bin .gtr (.t 4) (.c (.p (.int .i64 26)))),
   oM 2 5])
 (.ret))⟩
theorem ku:af Tryz.prog cb=some fw:=by kernel_rfl
def gG:FK:=⟨22,[.t 4],
 .seq (.reg [oJ 4 (.mov (.c .nils))])
 (.seq (.reg [oJ 5 (.mov (.c .nils))])
 (.seq (.seq (.reg [oM 8 0,
   oJ 9 (.len false (.t 8)),
   oK 10 0])
 (.blk 0 (.loop (.seq (.reg [oJ 11 (.bin .lss (.t 10) (.t 9))])
 (.seq (.cond (.t 11)
  (.skip)
  (.exit 0))
 (.seq (.blk 1 (.seq (.reg [oJ 12 (.idxS 1 (.t 8) (.t 10)),
   oL 13 12,
   oM 7 13])
 (.reg [oM 14 5,
   oM 15 1,
   oM 16 7,
   oJ 17 (.callv (.t 15) [(.t 16)]),
   oJ 18 (.bsl 1 [(.p (.str []))] 1 [(0,1,(.t 17))]),
   oJ 19 (.app 1 16 (.t 14) (.t 18)),
   oM 5 19])))
 (.reg [oJ 20 (.bin .add (.t 10) (.c (.p (.int .i64 1)))),
   oM 10 20])))))))
 (.seq (.reg [oM 21 5,
   oM 4 21])
 (.ret))))⟩
theorem lJ:af Tryz.prog dG=some gG:=by kernel_rfl
def fe:FK:=⟨22,[.t 4],
 .seq (.reg [oJ 4 (.mov (.c .nils))])
 (.seq (.reg [oJ 5 (.mov (.c .nils))])
 (.seq (.seq (.reg [oM 8 0,
   oJ 9 (.len false (.t 8)),
   oK 10 0])
 (.blk 0 (.loop (.seq (.reg [oJ 11 (.bin .lss (.t 10) (.t 9))])
 (.seq (.cond (.t 11)
  (.skip)
  (.exit 0))
 (.seq (.blk 1 (.seq (.reg [oJ 12 (.idxS 5 (.t 8) (.t 10)),
   oJ 13 (.ld (some 5) (.t 12)),
   oJ 7 (.alloc [(.p (.int .i64 0)),(.p (.str [])),.nils,.nils,.nils]),
   ⟨none,none,.st 5 (.t 7) (.t 13)⟩])
 (.reg [oM 14 5,
   oM 15 1,
   oJ 16 (.ld (some 5) (.t 7)),
   oJ 17 (.callv (.t 15) [(.t 16)]),
   oJ 18 (.bsl 5 [(.p (.int .i64 0)),(.p (.str [])),.nils,.nils,.nils] 1 [(0,5,(.t 17))]),
   oJ 19 (.app 5 96 (.t 14) (.t 18)),
   oM 5 19])))
 (.reg [oJ 20 (.bin .add (.t 10) (.c (.p (.int .i64 1)))),
   oM 10 20])))))))
 (.seq (.reg [oM 21 5,
   oM 4 21])
 (.ret))))⟩
theorem jX:af Tryz.prog cN=some fe:=by kernel_rfl
def fd:FK:=⟨22,[.t 4],
 .seq (.reg [oJ 4 (.mov (.c .nils))])
 (.seq (.reg [oJ 5 (.mov (.c .nils))])
 (.seq (.seq (.reg [oM 8 0,
   oJ 9 (.len false (.t 8)),
   oK 10 0])
 (.blk 0 (.loop (.seq (.reg [oJ 11 (.bin .lss (.t 10) (.t 9))])
 (.seq (.cond (.t 11)
  (.skip)
  (.exit 0))
 (.seq (.blk 1 (.seq (.reg [oJ 12 (.idxS 4 (.t 8) (.t 10)),
   oJ 13 (.ld (some 4) (.t 12)),
   oJ 7 (.alloc [(.p (.int .i64 0)),(.p (.int .i64 0)),(.p (.str [])),.nils]),
   ⟨none,none,.st 4 (.t 7) (.t 13)⟩])
 (.reg [oM 14 5,
   oM 15 1,
   oJ 16 (.ld (some 4) (.t 7)),
   oJ 17 (.callv (.t 15) [(.t 16)]),
   oJ 18 (.bsl 4 [(.p (.int .i64 0)),(.p (.int .i64 0)),(.p (.str [])),.nils] 1 [(0,4,(.t 17))]),
   oJ 19 (.app 4 56 (.t 14) (.t 18)),
   oM 5 19])))
 (.reg [oJ 20 (.bin .add (.t 10) (.c (.p (.int .i64 1)))),
   oM 10 20])))))))
 (.seq (.reg [oM 21 5,
   oM 4 21])
 (.ret))))⟩
theorem ki:af Tryz.prog aK=some fd:=by kernel_rfl
def gZ:FK:=⟨10,[.t 4],
 .seq (.reg [oJ 4 (.mov (.c (.p (.str []))))])
 (.seq (.reg [oM 5 1,
   oJ 6 (.bin .add (.c (.p (.int .i64 97))) (.t 5)),
   oJ 7 (.conv .i32 (.t 6)),
   oJ 8 (.strB (.t 7)),
   oJ 9 (.bins .add (.c (.p (.str [118]))) (.t 8)),
   oM 4 9])
 (.ret))⟩
theorem mX:af Tryz.prog be=some gZ:=by kernel_rfl
def gY:FK:=⟨30,[.t 6],
 .seq (.reg [oJ 6 (.mov (.c (.p (.str []))))])
 (.seq (.reg [oM 7 1,
   oN 8 7,
   oF 9 0 8,
   oM 11 2,
   oM 12 0,
   oN 13 12,
   oF 14 0 13,
   oL 10 9,
   oL 15 14,
   ⟨none,none,.mup 1 (.t 10) (.t 11) (.t 15)⟩])
 (.seq (.reg [oM 16 0,
   oN 17 16,
   oF 18 0 17,
   oL 19 18,
   oJ 20 (.bin .add (.t 19) (.c (.p (.int .i64 1)))),
   oN 21 16,
   oF 22 0 21,
   oS 22 20])
 (.seq (.reg [oM 23 0,
   oM 24 0,
   oN 25 24,
   oF 26 0 25,
   oL 27 26,
   oJ 28 (.bin .sub (.t 27) (.c (.p (.int .i64 1)))),
   oJ 29 (.call be [(.t 23),(.t 28)]),
   oM 6 29])
 (.ret))))⟩
theorem mP:af Tryz.prog ca=some gY:=by kernel_rfl
def fI:FK:=⟨9,[.c 4 (some 4)],
 .seq (.reg [oJ 3 (.box 4 (.t 0)),
  oJ 4 (.alloc [(.p (.int .i64 0)),(.p (.int .i64 0)),(.p (.str [])),.nils])])
 (.seq (.reg [oL 5 1,
   oJ 6 (.ld (some 4) (.t 3)),
   oL 7 2,
   oJ 8 (.call bW [(.t 5),(.t 6),(.t 7)]),
   ⟨none,none,.st 4 (.t 4) (.t 8)⟩])
 (.ret))⟩
theorem lb:af Tryz.prog bF=some fI:=by kernel_rfl
def F_impl_renamer_expr:FK:=⟨29,[.c 6 (some 4)],
 .seq (.reg [oJ 3 (.box 1 (.t 0)),
  oJ 4 (.box 4 (.t 1)),
  oJ 5 (.box 1 (.t 2)),
  oJ 6 (.alloc [(.p (.int .i64 0)),(.p (.int .i64 0)),(.p (.str [])),.nils])])
 (.seq (.seq (.reg [oF 9 0 4,
   oL 10 9,
   oJ 11 (.bin .eql (.t 10) (.c (.p (.int .i64 2))))])
 (.cond (.t 11)
  (.seq (.reg [oL 13 5,
    oF 14 2 4,
    oL 15 14,
    oJ 16 (.call aI [(.t 13),(.t 15)]),
    oM 12 16,
    oJ 17 (.ext 0 (.t 12)),
    oJ 18 (.ext 1 (.t 12)),
    oM 7 17,
    oM 8 18])
  (.reg [oL 19 3,
    oM 20 7,
    oJ 21 (.call be [(.t 19),(.t 20)]),
    oF 22 2 4,
    oS 22 21]))
  (.skip)))
 (.seq (.reg [oF 23 3 4,
   oL 24 23,
   oJ 25 (.mkf (.func bF) [(.t 3),(.t 5)]),
   oJ 26 (.call aK [(.t 24),(.t 25)]),
   oF 27 3 4,
   oS 27 26])
 (.seq (.reg [oJ 28 (.ld (some 4) (.t 4)),
   ⟨none,none,.st 4 (.t 6) (.t 28)⟩])
 (.ret))))⟩
theorem mQ:af Tryz.prog bW=some F_impl_renamer_expr:=by kernel_rfl
def eE:FK:=⟨9,[.c 4 (some 4)],
 .seq (.reg [oJ 3 (.box 4 (.t 0)),
  oJ 4 (.alloc [(.p (.int .i64 0)),(.p (.int .i64 0)),(.p (.str [])),.nils])])
 (.seq (.reg [oL 5 1,
   oJ 6 (.ld (some 4) (.t 3)),
   oL 7 2,
   oJ 8 (.call bW [(.t 5),(.t 6),(.t 7)]),
   ⟨none,none,.st 4 (.t 4) (.t 8)⟩])
 (.ret))⟩
theorem jA:af Tryz.prog bi=some eE:=by kernel_rfl
def F_impl_renamer_block_1:FK:=⟨50,[.c 4 (some 5)],
 .seq (.reg [oJ 3 (.box 5 (.t 0)),
  oJ 4 (.alloc [(.p (.int .i64 0)),(.p (.str [])),.nils,.nils,.nils])])
 (.seq (.reg [oF 7 2 3,
   oL 8 7,
   oJ 9 (.mkf (.func bi) [(.t 1),(.t 2)]),
   oJ 10 (.call aK [(.t 8),(.t 9)]),
   oF 11 2 3,
   oS 11 10])
 (.seq (.seq (.reg [oF 12 0 3,
   oL 13 12])
 (.blk 0 (.seq (.reg [oJ 15 (.bin .eql (.t 13) (.c (.p (.int .i64 1)))),
   oM 14 15])
 (.cond (.t 14)
  (.reg [oL 16 1,
    oL 17 2,
    oF 18 1 3,
    oL 19 18,
    oJ 20 (.call ca [(.t 16),(.t 17),(.t 19)]),
    oF 21 1 3,
    oS 21 20])
  (.seq (.reg [oJ 23 (.bin .eql (.t 13) (.c (.p (.int .i64 2)))),
    oM 22 23])
  (.cond (.t 22)
   (.seq (.reg [oL 25 2,
     oF 26 1 3,
     oL 27 26,
     oJ 28 (.call aI [(.t 25),(.t 27)]),
     oM 24 28,
     oJ 29 (.ext 0 (.t 24)),
     oJ 30 (.ext 1 (.t 24)),
     oM 5 29,
     oM 6 30])
   (.reg [oL 31 1,
     oM 32 5,
     oJ 33 (.call be [(.t 31),(.t 32)]),
     oF 34 1 3,
     oS 34 33]))
   (.skip)))))))
 (.seq (.reg [oF 36 3 3,
   oL 35 1,
   oL 37 36,
   oL 38 2,
   oJ 39 (.call aB [(.t 38)]),
   ⟨none,none,.chk none 1 35⟩,
   ⟨none,none,.chk none 36 37⟩,
   oJ 40 (.call aR [(.t 35),(.t 37),(.t 39)]),
   oF 41 3 3,
   oS 41 40])
 (.seq (.reg [oF 43 4 3,
   oL 42 1,
   oL 44 43,
   oL 45 2,
   oJ 46 (.call aB [(.t 45)]),
   ⟨none,none,.chk none 1 42⟩,
   ⟨none,none,.chk none 43 44⟩,
   oJ 47 (.call aR [(.t 42),(.t 44),(.t 46)]),
   oF 48 4 3,
   oS 48 47])
 (.seq (.reg [oJ 49 (.ld (some 5) (.t 3)),
   ⟨none,none,.st 5 (.t 4) (.t 49)⟩])
 (.ret))))))⟩
theorem kF:af Tryz.prog bq=some F_impl_renamer_block_1:=by kernel_rfl
def gH:FK:=⟨10,[.t 6],
 .seq (.reg [oJ 3 (.box 1 (.t 0)),
  oJ 5 (.box 1 (.t 2)),
  oJ 6 (.mov (.c .nils))])
 (.seq (.reg [oM 7 1,
   oJ 8 (.mkf (.func bq) [(.t 3),(.t 5)]),
   oJ 9 (.call cN [(.t 7),(.t 8)]),
   oM 6 9])
 (.ret))⟩
theorem mm:af Tryz.prog aR=some gH:=by kernel_rfl
def eJ:FK:=⟨9,[.t 4],
 .seq (.reg [oJ 4 (.mov (.c (.p (.str []))))])
 (.seq (.reg [oL 5 1,
   oL 6 2,
   oM 7 0,
   oJ 8 (.call ca [(.t 5),(.t 6),(.t 7)]),
   oM 4 8])
 (.ret))⟩
theorem jr:af Tryz.prog bL=some eJ:=by kernel_rfl
def fu:FK:=⟨20,[.c 2 (some 3)],
 .seq (.reg [oJ 1 (.box 3 (.t 0)),
  oJ 2 (.alloc [(.p (.str [])),.nils,.nils])])
 (.seq (.reg [oJ 5 (.bld [(.p (.int .i64 0))] []),
   oJ 6 (.box 1 (.t 5)),
   oJ 7 (.call aB [(.c .nilp)]),
   oJ 3 (.alloc [.nilp]),
   oJ 4 (.alloc [.nilp]),
   oS 3 6,
   oS 4 7])
 (.seq (.reg [oF 8 1 1,
   oL 9 8,
   oJ 10 (.mkf (.func bL) [(.t 3),(.t 4)]),
   oJ 11 (.call dG [(.t 9),(.t 10)]),
   oF 12 1 1,
   oS 12 11])
 (.seq (.reg [oL 13 3,
   oF 14 2 1,
   oL 15 14,
   oL 16 4,
   oJ 17 (.call aR [(.t 13),(.t 15),(.t 16)]),
   oF 18 2 1,
   oS 18 17])
 (.seq (.reg [oJ 19 (.ld (some 3) (.t 1)),
   ⟨none,none,.st 3 (.t 2) (.t 19)⟩])
 (.ret)))))⟩
theorem ky:af Tryz.prog bs=some fu:=by kernel_rfl
def gz:FK:=⟨17,[.c 2 (some 1),.t 3],
 .seq (.reg [oJ 1 (.box 1 (.t 0)),
  oJ 2 (.alloc [.nils]),
  oJ 3 (.mov (.c (.p (.bool false))))])
 (.seq (.seq (.reg [oJ 4 (.ld (some 1) (.t 1)),
   oJ 5 (.call me [(.t 4)]),
   oJ 6 (.not (.t 5)),
   oM 7 6,
   ⟨(some 8),some (7,false),.fldA 0 (.t 1)⟩,
   ⟨(some 9),some (7,false),.ld none (.t 8)⟩,
   ⟨(some 10),some (7,false),.call bP [(.t 9),(.c (.fn (.func cb) []))]⟩,
   oJ 11 (.pick (.t 7) (.c (.p (.bool true))) (.t 10))])
 (.cond (.t 11)
  (.seq (.reg [oJ 12 (.bld [.nils] []),
    oS 2 12,
    oJ 3 (.mov (.c (.p (.bool false))))])
  (.ret))
  (.skip)))
 (.seq (.reg [oF 13 0 1,
   oL 14 13,
   oJ 15 (.call dy [(.t 14),(.c (.fn (.func bs) []))]),
   oJ 16 (.bld [.nils] [(0,1,(.t 15))]),
   oS 2 16,
   oJ 3 (.mov (.c (.p (.bool true))))])
 (.ret)))⟩
theorem lw:af Tryz.prog aY=some gz:=by kernel_rfl
def kh:FK:=⟨26,[.t 4],
 .seq (.reg [oJ 4 (.mov (.c (.p (.bool false))))])
 (.seq (.seq (.reg [oM 6 0,
   oJ 7 (.len false (.t 6)),
   oM 8 1,
   oJ 9 (.len false (.t 8)),
   oJ 10 (.bin .neq (.t 7) (.t 9))])
 (.cond (.t 10)
  (.seq (.reg [oJ 4 (.mov (.c (.p (.bool false))))])
  (.ret))
  (.skip)))
 (.seq (.seq (.reg [oK 5 0])
 (.blk 0 (.loop (.seq (.seq (.reg [oM 11 5,
   oM 12 0,
   oJ 13 (.len false (.t 12)),
   oJ 14 (.bin .lss (.t 11) (.t 13))])
 (.cond (.t 14)
  (.skip)
  (.exit 0)))
 (.seq (.blk 1 (.seq (.reg [oM 17 0,
   oM 18 5,
   oJ 19 (.idxS 1 (.t 17) (.t 18)),
   oM 21 1,
   oM 22 5,
   oJ 23 (.idxS 1 (.t 21) (.t 22)),
   oL 20 19,
   oL 24 23,
   oJ 25 (.bins .neq (.t 20) (.t 24))])
 (.cond (.t 25)
  (.seq (.reg [oJ 4 (.mov (.c (.p (.bool false))))])
  (.ret))
  (.skip))))
 (.reg [oM 15 5,
   oJ 16 (.bin .add (.t 15) (.c (.p (.int .i64 1)))),
   oM 5 16]))))))
 (.seq (.reg [oJ 4 (.mov (.c (.p (.bool true))))])
 (.ret))))⟩
theorem qg:af Tryz.prog fM=some kh:=by kernel_rfl
def nv:FK:=⟨26,[.t 4],
 .seq (.reg [oJ 2 (.box 4 (.t 0)),
  oJ 3 (.box 4 (.t 1)),
  oJ 4 (.mov (.c (.p (.bool false))))])
 (.seq (.seq (.reg [oF 5 0 2,
   oL 6 5,
   oF 7 0 3,
   oL 8 7,
   oJ 9 (.bin .neq (.t 6) (.t 8))])
 (.cond (.t 9)
  (.seq (.reg [oJ 4 (.mov (.c (.p (.bool false))))])
  (.ret))
  (.skip)))
 (.seq (.seq (.reg [oF 10 1 2,
   oL 11 10,
   oF 12 1 3,
   oL 13 12,
   oJ 14 (.bin .neq (.t 11) (.t 13))])
 (.cond (.t 14)
  (.seq (.reg [oJ 4 (.mov (.c (.p (.bool false))))])
  (.ret))
  (.skip)))
 (.seq (.seq (.reg [oF 15 2 2,
   oL 16 15,
   oF 17 2 3,
   oL 18 17,
   oJ 19 (.bins .neq (.t 16) (.t 18))])
 (.cond (.t 19)
  (.seq (.reg [oJ 4 (.mov (.c (.p (.bool false))))])
  (.ret))
  (.skip)))
 (.seq (.seq (.reg [oF 20 3 2,
   oL 21 20,
   oF 22 3 3,
   oL 23 22,
   oJ 24 (.call dF [(.t 21),(.t 23)]),
   oJ 25 (.not (.t 24))])
 (.cond (.t 25)
  (.seq (.reg [oJ 4 (.mov (.c (.p (.bool false))))])
  (.ret))
  (.skip)))
 (.seq (.reg [oJ 4 (.mov (.c (.p (.bool true))))])
 (.ret))))))⟩
theorem tN:af Tryz.prog gn=some nv:=by kernel_rfl
def lT:FK:=⟨27,[.t 4],
 .seq (.reg [oJ 4 (.mov (.c (.p (.bool false))))])
 (.seq (.seq (.reg [oM 6 0,
   oJ 7 (.len false (.t 6)),
   oM 8 1,
   oJ 9 (.len false (.t 8)),
   oJ 10 (.bin .neq (.t 7) (.t 9))])
 (.cond (.t 10)
  (.seq (.reg [oJ 4 (.mov (.c (.p (.bool false))))])
  (.ret))
  (.skip)))
 (.seq (.seq (.reg [oK 5 0])
 (.blk 0 (.loop (.seq (.seq (.reg [oM 11 5,
   oM 12 0,
   oJ 13 (.len false (.t 12)),
   oJ 14 (.bin .lss (.t 11) (.t 13))])
 (.cond (.t 14)
  (.skip)
  (.exit 0)))
 (.seq (.blk 1 (.seq (.reg [oM 17 0,
   oM 18 5,
   oJ 19 (.idxS 4 (.t 17) (.t 18)),
   oM 21 1,
   oM 22 5,
   oJ 23 (.idxS 4 (.t 21) (.t 22)),
   oJ 20 (.ld (some 4) (.t 19)),
   oJ 24 (.ld (some 4) (.t 23)),
   oJ 25 (.call gn [(.t 20),(.t 24)]),
   oJ 26 (.not (.t 25))])
 (.cond (.t 26)
  (.seq (.reg [oJ 4 (.mov (.c (.p (.bool false))))])
  (.ret))
  (.skip))))
 (.reg [oM 15 5,
   oJ 16 (.bin .add (.t 15) (.c (.p (.int .i64 1)))),
   oM 5 16]))))))
 (.seq (.reg [oJ 4 (.mov (.c (.p (.bool true))))])
 (.ret))))⟩
theorem rE:af Tryz.prog dF=some lT:=by kernel_rfl
def nH:FK:=⟨33,[.t 4],
 .seq (.reg [oJ 2 (.box 5 (.t 0)),
  oJ 3 (.box 5 (.t 1)),
  oJ 4 (.mov (.c (.p (.bool false))))])
 (.seq (.seq (.reg [oF 5 0 2,
   oL 6 5,
   oF 7 0 3,
   oL 8 7,
   oJ 9 (.bin .neq (.t 6) (.t 8))])
 (.cond (.t 9)
  (.seq (.reg [oJ 4 (.mov (.c (.p (.bool false))))])
  (.ret))
  (.skip)))
 (.seq (.seq (.reg [oF 10 1 2,
   oL 11 10,
   oF 12 1 3,
   oL 13 12,
   oJ 14 (.bins .neq (.t 11) (.t 13))])
 (.cond (.t 14)
  (.seq (.reg [oJ 4 (.mov (.c (.p (.bool false))))])
  (.ret))
  (.skip)))
 (.seq (.seq (.reg [oF 15 2 2,
   oL 16 15,
   oF 17 2 3,
   oL 18 17,
   oJ 19 (.call dF [(.t 16),(.t 18)]),
   oJ 20 (.not (.t 19))])
 (.cond (.t 20)
  (.seq (.reg [oJ 4 (.mov (.c (.p (.bool false))))])
  (.ret))
  (.skip)))
 (.seq (.seq (.reg [oF 21 3 2,
   oL 22 21,
   oF 23 3 3,
   oL 24 23,
   oJ 25 (.call cR [(.t 22),(.t 24)]),
   oJ 26 (.not (.t 25))])
 (.cond (.t 26)
  (.seq (.reg [oJ 4 (.mov (.c (.p (.bool false))))])
  (.ret))
  (.skip)))
 (.seq (.seq (.reg [oF 27 4 2,
   oL 28 27,
   oF 29 4 3,
   oL 30 29,
   oJ 31 (.call cR [(.t 28),(.t 30)]),
   oJ 32 (.not (.t 31))])
 (.cond (.t 32)
  (.seq (.reg [oJ 4 (.mov (.c (.p (.bool false))))])
  (.ret))
  (.skip)))
 (.seq (.reg [oJ 4 (.mov (.c (.p (.bool true))))])
 (.ret)))))))⟩
theorem tE:af Tryz.prog gh=some nH:=by kernel_rfl
def lK:FK:=⟨27,[.t 4],
 .seq (.reg [oJ 4 (.mov (.c (.p (.bool false))))])
 (.seq (.seq (.reg [oM 6 0,
   oJ 7 (.len false (.t 6)),
   oM 8 1,
   oJ 9 (.len false (.t 8)),
   oJ 10 (.bin .neq (.t 7) (.t 9))])
 (.cond (.t 10)
  (.seq (.reg [oJ 4 (.mov (.c (.p (.bool false))))])
  (.ret))
  (.skip)))
 (.seq (.seq (.reg [oK 5 0])
 (.blk 0 (.loop (.seq (.seq (.reg [oM 11 5,
   oM 12 0,
   oJ 13 (.len false (.t 12)),
   oJ 14 (.bin .lss (.t 11) (.t 13))])
 (.cond (.t 14)
  (.skip)
  (.exit 0)))
 (.seq (.blk 1 (.seq (.reg [oM 17 0,
   oM 18 5,
   oJ 19 (.idxS 5 (.t 17) (.t 18)),
   oM 21 1,
   oM 22 5,
   oJ 23 (.idxS 5 (.t 21) (.t 22)),
   oJ 20 (.ld (some 5) (.t 19)),
   oJ 24 (.ld (some 5) (.t 23)),
   oJ 25 (.call gh [(.t 20),(.t 24)]),
   oJ 26 (.not (.t 25))])
 (.cond (.t 26)
  (.seq (.reg [oJ 4 (.mov (.c (.p (.bool false))))])
  (.ret))
  (.skip))))
 (.reg [oM 15 5,
   oJ 16 (.bin .add (.t 15) (.c (.p (.int .i64 1)))),
   oM 5 16]))))))
 (.seq (.reg [oJ 4 (.mov (.c (.p (.bool true))))])
 (.ret))))⟩
theorem sW:af Tryz.prog cR=some lK:=by kernel_rfl
def qJ:FK:=⟨22,[.t 4],
 .seq (.reg [oJ 2 (.box 3 (.t 0)),
  oJ 3 (.box 3 (.t 1)),
  oJ 4 (.mov (.c (.p (.bool false))))])
 (.seq (.seq (.reg [oF 5 0 2,
   oL 6 5,
   oF 7 0 3,
   oL 8 7,
   oJ 9 (.bins .neq (.t 6) (.t 8))])
 (.cond (.t 9)
  (.seq (.reg [oJ 4 (.mov (.c (.p (.bool false))))])
  (.ret))
  (.skip)))
 (.seq (.seq (.reg [oF 10 1 2,
   oL 11 10,
   oF 12 1 3,
   oL 13 12,
   oJ 14 (.call fM [(.t 11),(.t 13)]),
   oJ 15 (.not (.t 14))])
 (.cond (.t 15)
  (.seq (.reg [oJ 4 (.mov (.c (.p (.bool false))))])
  (.ret))
  (.skip)))
 (.seq (.seq (.reg [oF 16 2 2,
   oL 17 16,
   oF 18 2 3,
   oL 19 18,
   oJ 20 (.call cR [(.t 17),(.t 19)]),
   oJ 21 (.not (.t 20))])
 (.cond (.t 21)
  (.seq (.reg [oJ 4 (.mov (.c (.p (.bool false))))])
  (.ret))
  (.skip)))
 (.seq (.reg [oJ 4 (.mov (.c (.p (.bool true))))])
 (.ret)))))⟩
theorem xf:af Tryz.prog jl=some qJ:=by kernel_rfl
def pt:FK:=⟨27,[.t 4],
 .seq (.reg [oJ 4 (.mov (.c (.p (.bool false))))])
 (.seq (.seq (.reg [oM 6 0,
   oJ 7 (.len false (.t 6)),
   oM 8 1,
   oJ 9 (.len false (.t 8)),
   oJ 10 (.bin .neq (.t 7) (.t 9))])
 (.cond (.t 10)
  (.seq (.reg [oJ 4 (.mov (.c (.p (.bool false))))])
  (.ret))
  (.skip)))
 (.seq (.seq (.reg [oK 5 0])
 (.blk 0 (.loop (.seq (.seq (.reg [oM 11 5,
   oM 12 0,
   oJ 13 (.len false (.t 12)),
   oJ 14 (.bin .lss (.t 11) (.t 13))])
 (.cond (.t 14)
  (.skip)
  (.exit 0)))
 (.seq (.blk 1 (.seq (.reg [oM 17 0,
   oM 18 5,
   oJ 19 (.idxS 3 (.t 17) (.t 18)),
   oM 21 1,
   oM 22 5,
   oJ 23 (.idxS 3 (.t 21) (.t 22)),
   oJ 20 (.ld (some 3) (.t 19)),
   oJ 24 (.ld (some 3) (.t 23)),
   oJ 25 (.call jl [(.t 20),(.t 24)]),
   oJ 26 (.not (.t 25))])
 (.cond (.t 26)
  (.seq (.reg [oJ 4 (.mov (.c (.p (.bool false))))])
  (.ret))
  (.skip))))
 (.reg [oM 15 5,
   oJ 16 (.bin .add (.t 15) (.c (.p (.int .i64 1)))),
   oM 5 16]))))))
 (.seq (.reg [oJ 4 (.mov (.c (.p (.bool true))))])
 (.ret))))⟩
theorem vn:af Tryz.prog kr=some pt:=by kernel_rfl
def jN:FK:=⟨11,[.t 4],
 .seq (.reg [oJ 2 (.box 1 (.t 0)),
  oJ 3 (.box 1 (.t 1)),
  oJ 4 (.mov (.c (.p (.bool false))))])
 (.seq (.seq (.reg [oF 5 0 2,
   oL 6 5,
   oF 7 0 3,
   oL 8 7,
   oJ 9 (.call kr [(.t 6),(.t 8)]),
   oJ 10 (.not (.t 9))])
 (.cond (.t 10)
  (.seq (.reg [oJ 4 (.mov (.c (.p (.bool false))))])
  (.ret))
  (.skip)))
 (.seq (.reg [oJ 4 (.mov (.c (.p (.bool true))))])
 (.ret)))⟩
theorem qt:af Tryz.prog cg=some jN:=by kernel_rfl
end Go.Proofs.YtnjbhgpbgmpkcaaGreatDoor
namespace Go.Proofs.YtnjbhgpbgmpkcaaGreatDoor
open Go Go.Aw
set_option maxRecDepth 100000
set_option maxHeartbeats 4000000
theorem al{α:Type}{xs:List α}{i:Nat}(h:i<xs.length):xs.take (i+1)=xs.take i++[xs[i]]:=by
 rw[List.take_add_one,List.getElem?_eq_getElem h];rfl
def ay(l:List (List UInt8)):PV:= .lst 1 (l.map fun w=>[.str w])
def Kq(l:List (List UInt8)):List (List AV):=l.map fun w=>[.p (.str w)]
def mT(l:List (List UInt8)):AO:= .row 1 (l.map fun n=>[.p (.str n)])
theorem tZ(l:List (List UInt8)):∀x∈Kq l,ah 0 x:=by
 intro x hx;obtain⟨m,_,rfl⟩:=List.mem_map.1 hx;simp[ah,below]
theorem uD{l:List (List UInt8)}{id:Nat}{h:List AO}(e:h[id]?=some (mT l)):View h (.sl id 1 0 l.length) (ay l):=by
 have:=gD (h:=h) (id:=id) (sz:=1) (n:=l.length) (ls:=l.map fun n=>[.str n]) (by rw[e,mT];simp) (by simp) (fun x hx=>by obtain⟨b,_,rfl⟩:=List.mem_map.1 hx;rfl)
 exact this
end Go.Proofs.YtnjbhgpbgmpkcaaGreatDoor
namespace Go.Proofs.YtnjbhgpbgmpkcaaGreatDoor
open Go Go.Aw
set_option maxRecDepth 100000
set_option maxHeartbeats 4000000
def cX(c:UInt8):Bool:=decide (97≤c.toNat)&&decide (c.toNat≤122)
def keyW:List (List UInt8):=[[102,110],[108,101,116],[115,97,121],[112,117,116],[105,102],[101,108,115,101],[108,111,111,112],[98,97,99,107],[100,111]]
def aw(s:List UInt8):Bool:=s.all cX&&decide (0<s.length)&&decide (s.length≤4)&& !keyW.contains s
def sJ:List UInt8:=[40,41,123,125,59,44,43,45,42,47,37,60,61,38,33,64]
def ov(s:List UInt8)(c:Int):Int:=match s.findIdx? (fun x=>(x.toNat:Int)==c) with|some i=>i|none=> -1
def wb(c:Int):Int:=if 97≤c∧c≤122 then 1 else if 48≤c∧c≤57 then 2 else if 0≤ov sJ c then 3 else if c=32∨c=10 then 4 else 0
theorem EB(x:UInt8):(wb (x.toNat:Int)=1)↔cX x=true:=by
 have h:(97≤(x.toNat:Int)∧(x.toNat:Int)≤122)↔cX x=true:=by simp[cX];omega
 unfold wb
 constructor
 ·intro e
  split at e
  ·rename_i h1;exact h.1 h1
  ·repeat' split at e
   all_goals omega
 ·intro e;rw[if_pos (h.2 e)]
def vL(s:List UInt8):Int:=match s.findIdx? (fun x=> !cX x) with|some i=>i|none=> -1
theorem Di(s:List UInt8):decide (vL s<0)=s.all cX:=by
 unfold vL
 cases h:s.findIdx? (fun x=> !cX x) with
 |none=>
  rw[List.findIdx?_eq_none_iff] at h
  have:s.all cX=true:=List.all_eq_true.2 fun x hx=>by have:=h x hx;simpa using this
  simp[this]
 |some i=>
  rw[List.findIdx?_eq_some_iff_getElem] at h
  obtain⟨h1,h2,_⟩:=h
  have:s.all cX=false:=List.all_eq_false.2 ⟨_,List.getElem_mem h1,by simpa using h2⟩
  rw[this];simp
def idxS(l:List (List UInt8))(s:List UInt8):Int:=match l.findIdx? (fun w=>w==s) with|some i=>i|none=> -1
theorem CV(l:List (List UInt8))(s:List UInt8):decide (0≤idxS l s)=l.contains s:=by
 unfold idxS
 cases h:l.findIdx? (fun w=>w==s) with
 |none=>
  rw[List.findIdx?_eq_none_iff] at h
  have:l.contains s=false:=by
   cases hc:l.contains s with
   |false=>rfl
   |true=>
    have hm:s∈l:=by simpa using hc
    have:=h s hm
    simp at this
  rw[this];simp
 |some i=>
  rw[List.findIdx?_eq_some_iff_getElem] at h
  obtain⟨h1,h2,_⟩:=h
  have:l.contains s=true:=by
   simp only[beq_iff_eq] at h2
   rw[List.contains_iff_mem,←h2];exact List.getElem_mem h1
  rw[this];simp
variable (G:aA)
theorem qi(s:List UInt8)(c:Int)(hb:s.length≤1048576):VF Tryz.prog G iO [.p (.str s),.p (.int .u8 c)] (.p (.int .i64 (ov s c))):=by
 refine AC.go sA ?_
 simp-implicitDefEqProofs[lY]
 refine az (fun i:Nat=>aj 18 [(0,.p (.str s)),(1,.p (.int .u8 c)),(5,.p (.int .i64 i))]) (fun _=>[]) (fun i=>i≤s.length∧∀x∈s.take i,(x.toNat:Int)≠c) (fun i=>s.length-i) 0 (by simp) ?_ ?_
 ·exact aC rfl (by simp[below])
 ·intro i ⟨hi,hn⟩
  simp-implicitDefEqProofs[]
  refine bh (fun h1=>?_) (fun h1=>?_)
  ·simp at h1
   have hg:=List.getElem?_eq_getElem h1
   by_cases he:(s[i].toNat:Int)=c
   ·have hf:ov s c=i:=by
     have:s.findIdx? (fun x=>(x.toNat:Int)==c)=some i:=by
      rw[List.findIdx?_eq_some_iff_getElem]
      exact⟨h1,by simpa using he,fun j hj=>by have:=hn s[j] (List.mem_take_iff_getElem.2 ⟨j,by omega,rfl⟩);simpa using this⟩
     rw[ov,this]
    simp-implicitDefEqProofs[hg,he,hf]
   ·simp-implicitDefEqProofs[hg,he]
    refine⟨i+1,⟨h1,fun p hp=>?_⟩,by omega,aC rfl ?_⟩
    ·rw[al h1] at hp
     rcases List.mem_append.1 hp with hp|hp
     ·exact hn p hp
     ·rw[List.mem_singleton.1 hp];exact he
    ·simp[below,w1 (i:=i) (by omega)]
  ·simp at h1
   rw[List.take_of_length_le h1] at hn
   have hf:ov s c= -1:=by
    have:s.findIdx? (fun x=>(x.toNat:Int)==c)=none:=by
     rw[List.findIdx?_eq_none_iff];intro x hx;simpa using hn x hx
    rw[ov,this]
   simp-implicitDefEqProofs[hf]
theorem Ak(c:Int):VF Tryz.prog G iQ [.p (.int .u8 c)] (.p (.int .i64 (wb c))):=by
 refine AC.go sb ?_
 simp-implicitDefEqProofs[mc]
 unfold wb
 by_cases h1:97≤c
 ·by_cases h2:c≤122
  ·simp-implicitDefEqProofs[h1,h2]
  ·have h3:¬c≤57:=by omega
   have h4:¬c=32:=by omega
   have h5:¬c=10:=by omega
   have h6:48≤c:=by omega
   simp-implicitDefEqProofs[h1,h2,h3,h6]
   refine(qi G sJ c (by decide)).use ?_
   generalize ov sJ c=w
   by_cases hf:0≤w
   ·simp-implicitDefEqProofs[hf]
   ·simp-implicitDefEqProofs[hf,h4,h5]
 ·simp-implicitDefEqProofs[h1]
  by_cases h2:48≤c
  ·by_cases h3:c≤57
   ·simp-implicitDefEqProofs[h2,h3]
   ·have h4:¬c=32:=by omega
    have h5:¬c=10:=by omega
    simp-implicitDefEqProofs[h2,h3]
    refine(qi G sJ c (by decide)).use ?_
    generalize ov sJ c=w
    by_cases hf:0≤w
    ·simp-implicitDefEqProofs[hf]
    ·simp-implicitDefEqProofs[hf,h4,h5]
  ·simp-implicitDefEqProofs[h2]
   refine(qi G sJ c (by decide)).use ?_
   generalize ov sJ c=w
   by_cases hf:0≤w
   ·simp-implicitDefEqProofs[hf]
   ·by_cases h4:c=32
    ·simp-implicitDefEqProofs[hf,h4]
    ·by_cases h5:c=10
     ·simp-implicitDefEqProofs[hf,h4,h5]
     ·simp-implicitDefEqProofs[hf,h4,h5]
theorem Ek(s:List UInt8)(hb:s.length≤140737488355328):VF Tryz.prog G kM [.p (.str s),.p (.int .i64 1)] (.p (.bool (s.all cX&&decide (0<s.length)))):=by
 refine AC.go vM ?_
 simp-implicitDefEqProofs[pn]
 refine az (fun i:Nat=>aj 21 [(0,.p (.str s)),(1,.p (.int .i64 1)),(5,.p (.int .i64 i))]) (fun _=>[]) (fun i=>i≤s.length∧∀x∈s.take i,cX x=true) (fun i=>s.length-i) 0 (by simp) ?_ ?_
 ·exact aC rfl (by simp[below])
 ·intro i ⟨hi,hn⟩
  simp-implicitDefEqProofs[]
  refine bh (fun h1=>?_) (fun h1=>?_)
  ·simp at h1
   have hg:=List.getElem?_eq_getElem h1
   simp-implicitDefEqProofs[hg]
   refine(Ak G _).use ?_
   have hcl:=EB s[i]
   by_cases he:cX s[i]=true
   ·have hc:=hcl.2 he
    simp-implicitDefEqProofs[hc]
    refine⟨i+1,⟨h1,fun p hp=>?_⟩,by omega,aC rfl ?_⟩
    ·rw[al h1] at hp
     rcases List.mem_append.1 hp with hp|hp
     ·exact hn p hp
     ·rw[List.mem_singleton.1 hp];exact he
    ·simp[below,w1 (i:=i) (by omega)]
   ·have hc:¬wb (s[i].toNat:Int)=1:=fun e=>he (hcl.1 e)
    have ha:s.all cX=false:=List.all_eq_false.2 ⟨_,List.getElem_mem h1,by simpa using he⟩
    simp-implicitDefEqProofs[hc,ha]
  ·simp at h1
   rw[List.take_of_length_le h1] at hn
   have ha:s.all cX=true:=List.all_eq_true.2 hn
   simp-implicitDefEqProofs[ha]
theorem xW:VF Tryz.prog G eN [] (.p (ay keyW)):=by
 have key:AC Tryz.prog G eN [] [] fun x h=>x= .ret (.sl 0 1 0 9)∧h=[.row 1 (keyW.map fun w=>[.p (.str w)])]:=by
  refine AC.go ro ?_
  simp-implicitDefEqProofs[kT,keyW]
 exact AC.freeze key (.one (gD (ls:=keyW.map fun w=>[.str w]) (by simp) (by simp[keyW]) (by simp)) .nil)
theorem EI(s:List UInt8):VF Tryz.prog G kL [.p (.str s)] (.p (.bool (keyW.contains s))):=by
 refine AC.go vC ?_
 have hsl:ay keyW= .lst 1 (keyW.map fun w=>[.str w]):=rfl
 have hkl:keyW.length=9:=rfl
 simp-implicitDefEqProofs[pp]
 refine(xW G).use ?_
 simp-implicitDefEqProofs[]
 refine az (fun i:Nat=>aj 18 [(0,.p (.str s)),(3,.p (ay keyW)),(4,.p (.int .i64 i))]) (fun _=>[]) (fun i=>i≤keyW.length∧∀w∈keyW.take i,w≠s) (fun i=>keyW.length-i) 0 (by simp) ?_ ?_
 ·exact aC rfl (by simp[below,ay])
 ·intro i ⟨hi,hn⟩
  generalize keyW=L at*
  simp-implicitDefEqProofs[hsl]
  refine bh (fun h1=>?_) (fun h1=>?_)
  ·simp at h1
   have hg:=List.getElem?_eq_getElem h1
   by_cases he:L[i]=s
   ·have hm:s∈L:=by rw[←he];exact List.getElem_mem h1
    simp-implicitDefEqProofs[hg,he,hm]
   ·simp-implicitDefEqProofs[hg,he]
    refine⟨i+1,⟨h1,fun p hp=>?_⟩,by omega,aC rfl ?_⟩
    ·rw[al h1] at hp
     rcases List.mem_append.1 hp with hp|hp
     ·exact hn p hp
     ·rw[List.mem_singleton.1 hp];exact he
    ·simp[below,w1 (i:=i) (by omega)]
  ·simp at h1
   rw[List.take_of_length_le h1] at hn
   have hm:¬s∈L:=fun hm=>hn s hm rfl
   simp-implicitDefEqProofs[hm]
theorem oH(s:List UInt8)(hb:s.length≤140737488355328):VF Tryz.prog G cf [.p (.str s)] (.p (.bool (aw s))):=by
 refine AC.go tu ?_
 simp-implicitDefEqProofs[nq]
 refine(Ek G s hb).use ?_
 cases h1:(s.all cX&&decide (0<s.length)) with
 |false=>
  have hi:aw s=false:=by rw[aw,h1];rfl
  simp-implicitDefEqProofs[hi]
 |true=>
  by_cases h4:s.length≤4
  ·have h4i:(s.length:Int)≤4:=by omega
   have hi:aw s= !keyW.contains s:=by rw[aw,h1];simp[h4]
   simp-implicitDefEqProofs[h4i]
   refine(EI G s).use ?_
   rw[hi]
   simp-implicitDefEqProofs[]
  ·have h4i:¬(s.length:Int)≤4:=by omega
   have hi:aw s=false:=by rw[aw,h1];simp[h4]
   simp-implicitDefEqProofs[h4i,hi]
end Go.Proofs.YtnjbhgpbgmpkcaaGreatDoor
namespace Go.Proofs.YtnjbhgpbgmpkcaaGreatDoor
open Go Go.Aw
set_option maxRecDepth 100000
inductive Ex where
 |mk (op n:Int) (name:List UInt8) (kids:List Ex)
inductive Sm where
 |mk (op:Int) (name:List UInt8) (args:List Ex) (body els:List Sm)
structure Fd where (name:List UInt8) (params:List (List UInt8)) (body:List Sm)
def Ex.op:Ex→Int| .mk o _ _ _=>o
def Ex.n:Ex→Int| .mk _ n _ _=>n
def Ex.name:Ex→List UInt8| .mk _ _ s _=>s
def Ex.kids:Ex→List Ex| .mk _ _ _ k=>k
def Sm.op:Sm→Int| .mk o _ _ _ _=>o
def Sm.name:Sm→List UInt8| .mk _ s _ _ _=>s
def Sm.args:Sm→List Ex| .mk _ _ a _ _=>a
def Sm.body:Sm→List Sm| .mk _ _ _ b _=>b
def Sm.els:Sm→List Sm| .mk _ _ _ _ e=>e
mutual
def Ex.cs:Ex→List PV
 | .mk o n s k=>[.int .i64 o,.int .i64 n,.str s,.lst 4 (CA k)]
def CA:List Ex→List (List PV)
 |[]=>[]
 |e::r=>e.cs::CA r
end
mutual
def Sm.cs:Sm→List PV
 | .mk o s a b e=>[.int .i64 o,.str s,.lst 4 (CA a),.lst 5 (CT b),.lst 5 (CT e)]
def CT:List Sm→List (List PV)
 |[]=>[]
 |s::r=>s.cs::CT r
end
theorem sV:∀l:List Ex,CA l=l.map Ex.cs
 |[]=>rfl
 |e::r=>by rw[CA,sV r];rfl
theorem sX:∀l:List Sm,CT l=l.map Sm.cs
 |[]=>rfl
 |e::r=>by rw[CT,sX r];rfl
def exL(l:List Ex):PV:= .lst 4 (l.map Ex.cs)
def smL(l:List Sm):PV:= .lst 5 (l.map Sm.cs)
theorem Ex.cs_eq(e:Ex):e.cs=[.int .i64 e.op,.int .i64 e.n,.str e.name,exL e.kids]:=by
 cases e;rw[Ex.cs,sV];rfl
theorem Sm.cs_eq(s:Sm):s.cs=[.int .i64 s.op,.str s.name,exL s.args,smL s.body,smL s.els]:=by
 cases s;rw[Sm.cs,sV,sX,sX];rfl
@[simp] theorem Ex.cs_len(e:Ex):e.cs.length=4:=by cases e;rfl
@[simp] theorem Ex.cs_take(e:Ex):List.take 4 (e.cs.map AV.p)=e.cs.map AV.p:=by cases e;rfl
@[simp] theorem Sm.cs_len(s:Sm):s.cs.length=5:=by cases s;rfl
@[simp] theorem Sm.cs_take(s:Sm):List.take 5 (s.cs.map AV.p)=s.cs.map AV.p:=by cases s;rfl
def Fd.cs(f:Fd):List PV:=[.str f.name,ay f.params,smL f.body]
@[simp] theorem Fd.cs_len(f:Fd):f.cs.length=3:=rfl
@[simp] theorem Fd.cs_take(f:Fd):List.take 3 (f.cs.map AV.p)=f.cs.map AV.p:=rfl
def fdL(l:List Fd):PV:= .lst 3 (l.map Fd.cs)
mutual
def Ex.sz:Ex→Nat
 | .mk _ _ s k=>1+s.length+bK k
def bK:List Ex→Nat
 |[]=>0
 |e::r=>e.sz+bK r
end
mutual
def Sm.sz:Sm→Nat
 | .mk _ s a b e=>1+s.length+bK a+aG b+aG e
def aG:List Sm→Nat
 |[]=>0
 |s::r=>s.sz+aG r
end
def Fd.sz(f:Fd):Nat:=1+f.name.length+(f.params.length+(f.params.map List.length).sum)+aG f.body
def bm(l:List Fd):Nat:=(l.map Fd.sz).sum
theorem Ex.sz_eq(e:Ex):e.sz=1+e.name.length+bK e.kids:=by cases e;rfl
theorem Sm.sz_eq(s:Sm):s.sz=1+s.name.length+bK s.args+aG s.body+aG s.els:=by cases s;rfl
theorem qY:∀a b:List Ex,bK (a++b)=bK a+bK b
 |[],b=>by simp[bK]
 |e::r,b=>by simp only[List.cons_append,bK,qY r b];omega
theorem qG:∀a b:List Sm,aG (a++b)=aG a+aG b
 |[],b=>by simp[aG]
 |e::r,b=>by simp only[List.cons_append,aG,qG r b];omega
theorem aW:∀{l:List Ex} {e:Ex},e∈l→e.sz≤bK l
 |x::r,e,h=>by
  simp only[bK]
  rcases List.mem_cons.1 h with rfl|h
  ·omega
  ·have:=aW h;omega
theorem aV:∀{l:List Sm} {e:Sm},e∈l→e.sz≤aG l
 |x::r,e,h=>by
  simp only[aG]
  rcases List.mem_cons.1 h with rfl|h
  ·omega
  ·have:=aV h;omega
theorem bt:∀l:List Ex,l.length≤bK l
 |[]=>Nat.le_refl _
 |e::r=>by have:=bt r;have:=e.sz_eq;simp only[bK,List.length_cons];omega
theorem br:∀l:List Sm,l.length≤aG l
 |[]=>Nat.le_refl _
 |e::r=>by have:=br r;have:=e.sz_eq;simp only[aG,List.length_cons];omega
mutual
def Ex.parts:Ex→Nat
 | .mk _ _ _ k=>1+aH k
def aH:List Ex→Nat
 |[]=>0
 |e::r=>e.parts+aH r
end
theorem Ex.parts_eq(e:Ex):e.parts=1+aH e.kids:=by cases e;rfl
theorem dH:∀a b:List Ex,aH (a++b)=aH a+aH b
 |[],b=>by simp[aH]
 |e::r,b=>by simp only[List.cons_append,aH,dH r b];omega
mutual
theorem Ex.parts_le:∀e:Ex,e.parts≤e.sz
 | .mk _ _ s k=>by have:=vK k;simp only[Ex.parts,Ex.sz];omega
theorem vK:∀l:List Ex,aH l≤bK l
 |[]=>Nat.le_refl _
 |e::r=>by have:=e.parts_le;have:=vK r;simp only[aH,bK];omega
end
mutual
def Sm.cnt:Sm→Nat
 | .mk _ _ _ b e=>1+cH b+cH e
def cH:List Sm→Nat
 |[]=>0
 |s::r=>s.cnt+cH r
end
theorem Sm.cnt_eq(s:Sm):s.cnt=1+cH s.body+cH s.els:=by cases s;rfl
theorem lz:∀a b:List Sm,cH (a++b)=cH a+cH b
 |[],b=>by simp[cH]
 |e::r,b=>by simp only[List.cons_append,cH,lz r b];omega
mutual
theorem Sm.cnt_le:∀s:Sm,s.cnt≤s.sz
 | .mk _ s a b e=>by have:=kw b;have:=kw e;simp only[Sm.cnt,Sm.sz];omega
theorem kw:∀l:List Sm,cH l≤aG l
 |[]=>Nat.le_refl _
 |e::r=>by have:=e.cnt_le;have:=kw r;simp only[cH,aG];omega
end
def inR(n lo hi:Int):Bool:=decide (lo≤n)&&decide (n≤hi)
def loK(op:Int):Nat:=if op=1∨op=2 then 0 else if op=11∨op=12 then 1 else if op=13 then 0 else 2
def hiK(op:Int):Nat:=if op=1∨op=2 then 0 else if op=11∨op=12 then 1 else if op=13 then 3 else 2
def yU(op:Int):Bool:=decide (op=2)||decide (op=13)
def kU(e:Ex):Bool:=inR e.op 1 13&&inR e.kids.length (loK e.op) (hiK e.op)&&(yU e.op==aw e.name)&&(yU e.op||decide (e.name=[]))&&inR e.n 0 255&&(decide (e.op=1)||decide (e.n=0))
def dP:Nat→Ex→Bool
 |0,_=>false
 |d+1,e=>kU e&&e.kids.all (dP d)
def jo(e:Ex):Bool:=dP 6 e&&decide (e.parts≤30)
def je(op:Int):Nat:=if op=4 then 2 else 1
def cx(op:Int):Bool:=decide (op=1)||decide (op=2)
def gI(s:Sm):Bool:=inR s.op 1 8&&decide (s.args.length=je s.op)&&(cx s.op==aw s.name)&&(cx s.op||decide (s.name=[]))&&s.args.all jo&&
 (!decide (s.op=8)||(match s.args with|a::_=>decide (a.op=13)|[]=>false))&&(s.els.isEmpty||decide (s.op=5))&&(s.body.isEmpty||decide (s.op=5)||decide (s.op=6))
def aF:Nat→Sm→Bool
 |0,_=>false
 |d+1,s=>gI s&&s.body.all (aF d)&&s.els.all (aF d)
def il(f:Fd):Bool:=f.params.all aw&&aw f.name&&decide (f.params.length≤3)&&f.body.all (aF 4)
def ia(l:List Fd):Nat:=(l.map fun f=>cH f.body).sum
def ce(l:List Fd):Bool:=inR l.length 1 4&&l.all il&&decide (ia l≤40)
end Go.Proofs.YtnjbhgpbgmpkcaaGreatDoor
