/-
  Contracts and lemmas that the card needs, part 4.
-/
import Derived.Test.YtnjbhgpbgmpkcaaGreatDoorCb3
import Derived.Test.YtnjbhgpbgmpkcaaGreatDoorRows
import Derived.Laws.RangeAny
import Derived.Laws.RangeString
namespace Go.Proofs.YtnjbhgpbgmpkcaaGreatDoor
open Go Go.Aw
set_option maxRecDepth 100000
abbrev fJ:FuncId:=136
abbrev fR:FuncId:=208
abbrev dh:FuncId:=192
abbrev fN:FuncId:=167
abbrev bT:FuncId:=137
abbrev iF:FuncId:=87
abbrev jQ:FuncId:=44
abbrev dv:FuncId:=12
abbrev cB:FuncId:=138
abbrev cX:FuncId:=209
abbrev bv:FuncId:=193
abbrev cY:FuncId:=168
abbrev bf:FuncId:=139
abbrev eE:FuncId:=89
abbrev eV:FuncId:=47
abbrev bq:FuncId:=14
abbrev bi:FuncId:=76
abbrev im:FuncId:=219
abbrev gQ:FuncId:=212
abbrev jH:FuncId:=198
abbrev dZ:FuncId:=213
abbrev jI:FuncId:=199
abbrev bP:FuncId:=173
abbrev fO:FuncId:=214
abbrev fT:FuncId:=222
abbrev dY:FuncId:=220
abbrev fg:FuncId:=221
abbrev du:FuncId:=215
abbrev fS:FuncId:=200
abbrev bA:FuncId:=174
abbrev lm:FuncId:=154
abbrev de:FuncId:=175
abbrev jV:FuncId:=155
abbrev dG:FuncId:=118
abbrev eG:FuncId:=111
abbrev aE:FuncId:=112
abbrev bW:FuncId:=147
abbrev dT:FuncId:=148
abbrev bC:FuncId:=113
abbrev bD:FuncId:=150
abbrev aW:FuncId:=149
abbrev aL:FuncId:=114
abbrev iK:FuncId:=70
abbrev dF:FuncId:=88
abbrev iU:FuncId:=45
abbrev bQ:FuncId:=74
abbrev dH:FuncId:=187
abbrev dO:FuncId:=159
abbrev dc:FuncId:=188
abbrev cm:FuncId:=161
abbrev cd:FuncId:=160
abbrev bc:FuncId:=126
abbrev cb:FuncId:=162
abbrev bF:FuncId:=127
abbrev bG:FuncId:=189
abbrev bj:FuncId:=163
abbrev er:FuncId:=190
abbrev fW:FuncId:=217
abbrev eL:FuncId:=218
abbrev cW:FuncId:=207
abbrev dy:FuncId:=191
abbrev fV:FuncId:=165
abbrev bR:FuncId:=164
abbrev bY:FuncId:=129
abbrev cM:FuncId:=100
abbrev dz:FuncId:=135
abbrev gI:FuncId:=86
abbrev aU:FuncId:=128
abbrev cx:FuncId:=78
abbrev bZ:FuncId:=99
abbrev dS:FuncId:=130
abbrev eF:FuncId:=79
abbrev an:FuncId:=80
abbrev aT:FuncId:=60
abbrev dw:FuncId:=120
abbrev be:FuncId:=108
abbrev bk:FuncId:=166
abbrev bM:FuncId:=131
abbrev aF:FuncId:=81
abbrev dK:FuncId:=32
abbrev lz:FuncId:=48
abbrev fA:FuncId:=140
abbrev fX:FuncId:=210
abbrev dj:FuncId:=194
abbrev fP:FuncId:=169
abbrev cy:FuncId:=141
abbrev iB:FuncId:=91
abbrev jO:FuncId:=50
abbrev fB:FuncId:=17
@[reducible] def oM(d s:Nat):CO:=⟨some d,none,.mov (.t s)⟩
@[reducible] def oL(d s:Nat):CO:=⟨some d,none,.ld none (.t s)⟩
@[reducible] def oF(d i s:Nat):CO:=⟨some d,none,.fldA i (.t s)⟩
@[reducible] def oN(d s:Nat):CO:=⟨some d,none,.nilck (.t s)⟩
@[reducible] def oS(d s:Nat):CO:=⟨none,none,.st 1 (.t d) (.t s)⟩
@[reducible] def oK(d n:Nat):CO:=⟨some d,none,.mov (.c (.p (.int .i64 n)))⟩
@[reducible] def oJ(d:Nat)(o:AI):CO:=⟨some d,none,o⟩
def fK:FK:=⟨28,[.t 4],
 .seq (.reg [oK 4 0])
 (.seq (.reg [oM 6 1,
   oM 7 0,
   oJ 8 (.len false (.t 7)),
   oJ 9 (.bin .sub (.t 6) (.t 8)),
   oM 1 9])
 (.seq (.seq (.reg [oM 10 1,
   oJ 11 (.bin .lss (.t 10) (.c (.p (.int .i64 0))))])
 (.cond (.t 11)
  (.seq (.reg [oJ 4 (.mov (.c (.p (.int .i64 (-1)))))])
  (.ret))
  (.skip)))
 (.seq (.seq (.reg [oK 5 0])
 (.blk 0 (.loop (.seq (.seq (.reg [oM 12 5,
   oM 13 0,
   oJ 14 (.len false (.t 13)),
   oJ 15 (.bin .lss (.t 12) (.t 14))])
 (.cond (.t 15)
  (.skip)
  (.exit 0)))
 (.seq (.blk 1 (.seq (.reg [oM 18 1,
   oM 19 0,
   oM 20 5,
   oJ 21 (.idxS 1 (.t 19) (.t 20)),
   oL 22 21,
   oJ 23 (.len true (.t 22)),
   oJ 24 (.bin .sub (.t 18) (.t 23)),
   oM 1 24])
 (.seq (.reg [oM 25 1,
   oJ 26 (.bin .lss (.t 25) (.c (.p (.int .i64 0))))])
 (.cond (.t 26)
  (.seq (.reg [oJ 4 (.mov (.c (.p (.int .i64 (-1)))))])
  (.ret))
  (.skip)))))
 (.reg [oM 16 5,
   oJ 17 (.bin .add (.t 16) (.c (.p (.int .i64 1)))),
   oM 5 17]))))))
 (.seq (.reg [oM 27 1,
   oM 4 27])
 (.ret)))))⟩
theorem oV:af Tryz.prog fJ=some fK:=by kernel_rfl
def iY:FK:=⟨19,[.t 4],
 .seq (.reg [oJ 2 (.box 4 (.t 0)),
  oK 4 0])
 (.seq (.reg [oM 5 1,
   oF 6 2 2,
   oL 7 6,
   oJ 8 (.len true (.t 7)),
   oJ 9 (.bin .sub (.t 5) (.t 8)),
   oM 1 9])
 (.seq (.seq (.reg [oM 10 1,
   oJ 11 (.bin .lss (.t 10) (.c (.p (.int .i64 0))))])
 (.cond (.t 11)
  (.seq (.reg [oJ 4 (.mov (.c (.p (.int .i64 (-1)))))])
  (.ret))
  (.skip)))
 (.seq (.reg [oF 12 3 2,
   oL 13 12,
   oM 14 1,
   oJ 15 (.call dh [(.t 13),(.t 14)]),
   oM 1 15])
 (.seq (.seq (.reg [oM 16 1,
   oJ 17 (.bin .lss (.t 16) (.c (.p (.int .i64 0))))])
 (.cond (.t 17)
  (.seq (.reg [oJ 4 (.mov (.c (.p (.int .i64 (-1)))))])
  (.ret))
  (.skip)))
 (.seq (.reg [oM 18 1,
   oM 4 18])
 (.ret))))))⟩
theorem sZ:af Tryz.prog fR=some iY:=by kernel_rfl
def iq:FK:=⟨27,[.t 4],
 .seq (.reg [oK 4 0])
 (.seq (.reg [oM 6 1,
   oM 7 0,
   oJ 8 (.len false (.t 7)),
   oJ 9 (.bin .sub (.t 6) (.t 8)),
   oM 1 9])
 (.seq (.seq (.reg [oM 10 1,
   oJ 11 (.bin .lss (.t 10) (.c (.p (.int .i64 0))))])
 (.cond (.t 11)
  (.seq (.reg [oJ 4 (.mov (.c (.p (.int .i64 (-1)))))])
  (.ret))
  (.skip)))
 (.seq (.seq (.reg [oK 5 0])
 (.blk 0 (.loop (.seq (.seq (.reg [oM 12 5,
   oM 13 0,
   oJ 14 (.len false (.t 13)),
   oJ 15 (.bin .lss (.t 12) (.t 14))])
 (.cond (.t 15)
  (.skip)
  (.exit 0)))
 (.seq (.blk 1 (.seq (.reg [oM 18 0,
   oM 19 5,
   oJ 20 (.idxS 4 (.t 18) (.t 19)),
   oJ 21 (.ld (some 4) (.t 20)),
   oM 22 1,
   oJ 23 (.call fR [(.t 21),(.t 22)]),
   oM 1 23])
 (.seq (.reg [oM 24 1,
   oJ 25 (.bin .lss (.t 24) (.c (.p (.int .i64 0))))])
 (.cond (.t 25)
  (.seq (.reg [oJ 4 (.mov (.c (.p (.int .i64 (-1)))))])
  (.ret))
  (.skip)))))
 (.reg [oM 16 5,
   oJ 17 (.bin .add (.t 16) (.c (.p (.int .i64 1)))),
   oM 5 17]))))))
 (.seq (.reg [oM 26 1,
   oM 4 26])
 (.ret)))))⟩
theorem rn:af Tryz.prog dh=some iq:=by kernel_rfl
def ja:FK:=⟨31,[.t 4],
 .seq (.reg [oJ 2 (.box 5 (.t 0)),
  oK 4 0])
 (.seq (.reg [oM 5 1,
   oF 6 1 2,
   oL 7 6,
   oJ 8 (.len true (.t 7)),
   oJ 9 (.bin .sub (.t 5) (.t 8)),
   oM 1 9])
 (.seq (.seq (.reg [oM 10 1,
   oJ 11 (.bin .lss (.t 10) (.c (.p (.int .i64 0))))])
 (.cond (.t 11)
  (.seq (.reg [oJ 4 (.mov (.c (.p (.int .i64 (-1)))))])
  (.ret))
  (.skip)))
 (.seq (.reg [oF 12 2 2,
   oL 13 12,
   oM 14 1,
   oJ 15 (.call dh [(.t 13),(.t 14)]),
   oM 1 15])
 (.seq (.seq (.reg [oM 16 1,
   oJ 17 (.bin .lss (.t 16) (.c (.p (.int .i64 0))))])
 (.cond (.t 17)
  (.seq (.reg [oJ 4 (.mov (.c (.p (.int .i64 (-1)))))])
  (.ret))
  (.skip)))
 (.seq (.reg [oF 18 3 2,
   oL 19 18,
   oM 20 1,
   oJ 21 (.call bT [(.t 19),(.t 20)]),
   oM 1 21])
 (.seq (.seq (.reg [oM 22 1,
   oJ 23 (.bin .lss (.t 22) (.c (.p (.int .i64 0))))])
 (.cond (.t 23)
  (.seq (.reg [oJ 4 (.mov (.c (.p (.int .i64 (-1)))))])
  (.ret))
  (.skip)))
 (.seq (.reg [oF 24 4 2,
   oL 25 24,
   oM 26 1,
   oJ 27 (.call bT [(.t 25),(.t 26)]),
   oM 1 27])
 (.seq (.seq (.reg [oM 28 1,
   oJ 29 (.bin .lss (.t 28) (.c (.p (.int .i64 0))))])
 (.cond (.t 29)
  (.seq (.reg [oJ 4 (.mov (.c (.p (.int .i64 (-1)))))])
  (.ret))
  (.skip)))
 (.seq (.reg [oM 30 1,
   oM 4 30])
 (.ret))))))))))⟩
theorem th:af Tryz.prog fN=some ja:=by kernel_rfl
def ic:FK:=⟨27,[.t 4],
 .seq (.reg [oK 4 0])
 (.seq (.reg [oM 6 1,
   oM 7 0,
   oJ 8 (.len false (.t 7)),
   oJ 9 (.bin .sub (.t 6) (.t 8)),
   oM 1 9])
 (.seq (.seq (.reg [oM 10 1,
   oJ 11 (.bin .lss (.t 10) (.c (.p (.int .i64 0))))])
 (.cond (.t 11)
  (.seq (.reg [oJ 4 (.mov (.c (.p (.int .i64 (-1)))))])
  (.ret))
  (.skip)))
 (.seq (.seq (.reg [oK 5 0])
 (.blk 0 (.loop (.seq (.seq (.reg [oM 12 5,
   oM 13 0,
   oJ 14 (.len false (.t 13)),
   oJ 15 (.bin .lss (.t 12) (.t 14))])
 (.cond (.t 15)
  (.skip)
  (.exit 0)))
 (.seq (.blk 1 (.seq (.reg [oM 18 0,
   oM 19 5,
   oJ 20 (.idxS 5 (.t 18) (.t 19)),
   oJ 21 (.ld (some 5) (.t 20)),
   oM 22 1,
   oJ 23 (.call fN [(.t 21),(.t 22)]),
   oM 1 23])
 (.seq (.reg [oM 24 1,
   oJ 25 (.bin .lss (.t 24) (.c (.p (.int .i64 0))))])
 (.cond (.t 25)
  (.seq (.reg [oJ 4 (.mov (.c (.p (.int .i64 (-1)))))])
  (.ret))
  (.skip)))))
 (.reg [oM 16 5,
   oJ 17 (.bin .add (.t 16) (.c (.p (.int .i64 1)))),
   oM 5 17]))))))
 (.seq (.reg [oM 26 1,
   oM 4 26])
 (.ret)))))⟩
theorem rh:af Tryz.prog bT=some ic:=by kernel_rfl
def kU:FK:=⟨25,[.t 4],
 .seq (.reg [oJ 2 (.box 3 (.t 0)),
  oK 4 0])
 (.seq (.reg [oM 5 1,
   oF 6 0 2,
   oL 7 6,
   oJ 8 (.len true (.t 7)),
   oJ 9 (.bin .sub (.t 5) (.t 8)),
   oM 1 9])
 (.seq (.seq (.reg [oM 10 1,
   oJ 11 (.bin .lss (.t 10) (.c (.p (.int .i64 0))))])
 (.cond (.t 11)
  (.seq (.reg [oJ 4 (.mov (.c (.p (.int .i64 (-1)))))])
  (.ret))
  (.skip)))
 (.seq (.reg [oF 12 1 2,
   oL 13 12,
   oM 14 1,
   oJ 15 (.call fJ [(.t 13),(.t 14)]),
   oM 1 15])
 (.seq (.seq (.reg [oM 16 1,
   oJ 17 (.bin .lss (.t 16) (.c (.p (.int .i64 0))))])
 (.cond (.t 17)
  (.seq (.reg [oJ 4 (.mov (.c (.p (.int .i64 (-1)))))])
  (.ret))
  (.skip)))
 (.seq (.reg [oF 18 2 2,
   oL 19 18,
   oM 20 1,
   oJ 21 (.call bT [(.t 19),(.t 20)]),
   oM 1 21])
 (.seq (.seq (.reg [oM 22 1,
   oJ 23 (.bin .lss (.t 22) (.c (.p (.int .i64 0))))])
 (.cond (.t 23)
  (.seq (.reg [oJ 4 (.mov (.c (.p (.int .i64 (-1)))))])
  (.ret))
  (.skip)))
 (.seq (.reg [oM 24 1,
   oM 4 24])
 (.ret))))))))⟩
theorem vG:af Tryz.prog iF=some kU:=by kernel_rfl
def jR:FK:=⟨27,[.t 4],
 .seq (.reg [oK 4 0])
 (.seq (.reg [oM 6 1,
   oM 7 0,
   oJ 8 (.len false (.t 7)),
   oJ 9 (.bin .sub (.t 6) (.t 8)),
   oM 1 9])
 (.seq (.seq (.reg [oM 10 1,
   oJ 11 (.bin .lss (.t 10) (.c (.p (.int .i64 0))))])
 (.cond (.t 11)
  (.seq (.reg [oJ 4 (.mov (.c (.p (.int .i64 (-1)))))])
  (.ret))
  (.skip)))
 (.seq (.seq (.reg [oK 5 0])
 (.blk 0 (.loop (.seq (.seq (.reg [oM 12 5,
   oM 13 0,
   oJ 14 (.len false (.t 13)),
   oJ 15 (.bin .lss (.t 12) (.t 14))])
 (.cond (.t 15)
  (.skip)
  (.exit 0)))
 (.seq (.blk 1 (.seq (.reg [oM 18 0,
   oM 19 5,
   oJ 20 (.idxS 3 (.t 18) (.t 19)),
   oJ 21 (.ld (some 3) (.t 20)),
   oM 22 1,
   oJ 23 (.call iF [(.t 21),(.t 22)]),
   oM 1 23])
 (.seq (.reg [oM 24 1,
   oJ 25 (.bin .lss (.t 24) (.c (.p (.int .i64 0))))])
 (.cond (.t 25)
  (.seq (.reg [oJ 4 (.mov (.c (.p (.int .i64 (-1)))))])
  (.ret))
  (.skip)))))
 (.reg [oM 16 5,
   oJ 17 (.bin .add (.t 16) (.c (.p (.int .i64 1)))),
   oM 5 17]))))))
 (.seq (.reg [oM 26 1,
   oM 4 26])
 (.ret)))))⟩
theorem uo:af Tryz.prog jQ=some jR:=by kernel_rfl
def jh:FK:=⟨12,[.t 4],
 .seq (.reg [oJ 2 (.box 1 (.t 0)),
  oK 4 0])
 (.seq (.reg [oF 5 0 2,
   oL 6 5,
   oM 7 1,
   oJ 8 (.call jQ [(.t 6),(.t 7)]),
   oM 1 8])
 (.seq (.seq (.reg [oM 9 1,
   oJ 10 (.bin .lss (.t 9) (.c (.p (.int .i64 0))))])
 (.cond (.t 10)
  (.seq (.reg [oJ 4 (.mov (.c (.p (.int .i64 (-1)))))])
  (.ret))
  (.skip)))
 (.seq (.reg [oM 11 1,
   oM 4 11])
 (.ret))))⟩
theorem px:af Tryz.prog dv=some jh:=by kernel_rfl
def jy:FK:=⟨22,[.t 2],
 .seq (.reg [oJ 2 (.mov (.c .nils))])
 (.seq (.reg [oM 5 0,
   oJ 6 (.len false (.t 5)),
   oJ 7 (.mks 1 16 [(.p (.str []))] (.t 6) (.t 6)),
   oM 3 7])
 (.seq (.seq (.reg [oK 4 0])
 (.blk 0 (.loop (.seq (.seq (.reg [oM 8 4,
   oM 9 0,
   oJ 10 (.len false (.t 9)),
   oJ 11 (.bin .lss (.t 8) (.t 10))])
 (.cond (.t 11)
  (.skip)
  (.exit 0)))
 (.seq (.blk 1 (.reg [oM 14 3,
   oM 15 4,
   oM 16 0,
   oM 17 4,
   oJ 18 (.idxS 1 (.t 16) (.t 17)),
   oL 19 18,
   oJ 20 (.idxS 1 (.t 14) (.t 15)),
   oS 20 19]))
 (.reg [oM 12 4,
   oJ 13 (.bin .add (.t 12) (.c (.p (.int .i64 1)))),
   oM 4 13]))))))
 (.seq (.reg [oM 21 3,
   oM 2 21])
 (.ret))))⟩
theorem oz:af Tryz.prog cB=some jy:=by kernel_rfl
def iV:FK:=⟨18,[.c 2 (some 4)],
 .seq (.reg [oJ 1 (.box 4 (.t 0)),
  oJ 2 (.alloc [(.p (.int .i64 0)),(.p (.int .i64 0)),(.p (.str [])),.nils])])
 (.seq (.reg [oJ 3 (.alloc [(.p (.int .i64 0)),(.p (.int .i64 0)),(.p (.str [])),.nils])])
 (.seq (.reg [oF 4 0 1,
   oL 5 4,
   oF 6 0 3,
   oS 6 5])
 (.seq (.reg [oF 7 1 1,
   oL 8 7,
   oF 9 1 3,
   oS 9 8])
 (.seq (.reg [oF 10 2 1,
   oL 11 10,
   oF 12 2 3,
   oS 12 11])
 (.seq (.reg [oF 13 3 1,
   oL 14 13,
   oJ 15 (.call bv [(.t 14)]),
   oF 16 3 3,
   oS 16 15])
 (.seq (.reg [oJ 17 (.ld (some 4) (.t 3)),
   ⟨none,none,.st 4 (.t 2) (.t 17)⟩])
 (.ret)))))))⟩
theorem mN:af Tryz.prog cX=some iV:=by kernel_rfl
def gS:FK:=⟨23,[.t 2],
 .seq (.reg [oJ 2 (.mov (.c .nils))])
 (.seq (.reg [oM 5 0,
   oJ 6 (.len false (.t 5)),
   oJ 7 (.mks 4 56 [(.p (.int .i64 0)),(.p (.int .i64 0)),(.p (.str [])),.nils] (.t 6) (.t 6)),
   oM 3 7])
 (.seq (.seq (.reg [oK 4 0])
 (.blk 0 (.loop (.seq (.seq (.reg [oM 8 4,
   oM 9 0,
   oJ 10 (.len false (.t 9)),
   oJ 11 (.bin .lss (.t 8) (.t 10))])
 (.cond (.t 11)
  (.skip)
  (.exit 0)))
 (.seq (.blk 1 (.reg [oM 14 3,
   oM 15 4,
   oM 16 0,
   oM 17 4,
   oJ 18 (.idxS 4 (.t 16) (.t 17)),
   oJ 19 (.ld (some 4) (.t 18)),
   oJ 20 (.call cX [(.t 19)]),
   oJ 21 (.idxS 4 (.t 14) (.t 15)),
   ⟨none,none,.st 4 (.t 21) (.t 20)⟩]))
 (.reg [oM 12 4,
   oJ 13 (.bin .add (.t 12) (.c (.p (.int .i64 1)))),
   oM 4 13]))))))
 (.seq (.reg [oM 22 3,
   oM 2 22])
 (.ret))))⟩
theorem lD:af Tryz.prog bv=some gS:=by kernel_rfl
def iQ:FK:=⟨23,[.c 2 (some 5)],
 .seq (.reg [oJ 1 (.box 5 (.t 0)),
  oJ 2 (.alloc [(.p (.int .i64 0)),(.p (.str [])),.nils,.nils,.nils])])
 (.seq (.reg [oJ 3 (.alloc [(.p (.int .i64 0)),(.p (.str [])),.nils,.nils,.nils])])
 (.seq (.reg [oF 4 0 1,
   oL 5 4,
   oF 6 0 3,
   oS 6 5])
 (.seq (.reg [oF 7 1 1,
   oL 8 7,
   oF 9 1 3,
   oS 9 8])
 (.seq (.reg [oF 10 2 1,
   oL 11 10,
   oJ 12 (.call bv [(.t 11)]),
   oF 13 2 3,
   oS 13 12])
 (.seq (.reg [oF 14 3 1,
   oL 15 14,
   oJ 16 (.call bf [(.t 15)]),
   oF 17 3 3,
   oS 17 16])
 (.seq (.reg [oF 18 4 1,
   oL 19 18,
   oJ 20 (.call bf [(.t 19)]),
   oF 21 4 3,
   oS 21 20])
 (.seq (.reg [oJ 22 (.ld (some 5) (.t 3)),
   ⟨none,none,.st 5 (.t 2) (.t 22)⟩])
 (.ret))))))))⟩
theorem mw:af Tryz.prog cY=some iQ:=by kernel_rfl
def il:FK:=⟨23,[.t 2],
 .seq (.reg [oJ 2 (.mov (.c .nils))])
 (.seq (.reg [oM 5 0,
   oJ 6 (.len false (.t 5)),
   oJ 7 (.mks 5 96 [(.p (.int .i64 0)),(.p (.str [])),.nils,.nils,.nils] (.t 6) (.t 6)),
   oM 3 7])
 (.seq (.seq (.reg [oK 4 0])
 (.blk 0 (.loop (.seq (.seq (.reg [oM 8 4,
   oM 9 0,
   oJ 10 (.len false (.t 9)),
   oJ 11 (.bin .lss (.t 8) (.t 10))])
 (.cond (.t 11)
  (.skip)
  (.exit 0)))
 (.seq (.blk 1 (.reg [oM 14 3,
   oM 15 4,
   oM 16 0,
   oM 17 4,
   oJ 18 (.idxS 5 (.t 16) (.t 17)),
   oJ 19 (.ld (some 5) (.t 18)),
   oJ 20 (.call cY [(.t 19)]),
   oJ 21 (.idxS 5 (.t 14) (.t 15)),
   ⟨none,none,.st 5 (.t 21) (.t 20)⟩]))
 (.reg [oM 12 4,
   oJ 13 (.bin .add (.t 12) (.c (.p (.int .i64 1)))),
   oM 4 13]))))))
 (.seq (.reg [oM 22 3,
   oM 2 22])
 (.ret))))⟩
theorem kS:af Tryz.prog bf=some il:=by kernel_rfl
def kC:FK:=⟨16,[.c 2 (some 3)],
 .seq (.reg [oJ 1 (.box 3 (.t 0)),
  oJ 2 (.alloc [(.p (.str [])),.nils,.nils])])
 (.seq (.reg [oJ 3 (.alloc [(.p (.str [])),.nils,.nils])])
 (.seq (.reg [oF 4 0 1,
   oL 5 4,
   oF 6 0 3,
   oS 6 5])
 (.seq (.reg [oF 7 1 1,
   oL 8 7,
   oJ 9 (.call cB [(.t 8)]),
   oF 10 1 3,
   oS 10 9])
 (.seq (.reg [oF 11 2 1,
   oL 12 11,
   oJ 13 (.call bf [(.t 12)]),
   oF 14 2 3,
   oS 14 13])
 (.seq (.reg [oJ 15 (.ld (some 3) (.t 3)),
   ⟨none,none,.st 3 (.t 2) (.t 15)⟩])
 (.ret))))))⟩
theorem pO:af Tryz.prog eE=some kC:=by kernel_rfl
def jY:FK:=⟨23,[.t 2],
 .seq (.reg [oJ 2 (.mov (.c .nils))])
 (.seq (.reg [oM 5 0,
   oJ 6 (.len false (.t 5)),
   oJ 7 (.mks 3 64 [(.p (.str [])),.nils,.nils] (.t 6) (.t 6)),
   oM 3 7])
 (.seq (.seq (.reg [oK 4 0])
 (.blk 0 (.loop (.seq (.seq (.reg [oM 8 4,
   oM 9 0,
   oJ 10 (.len false (.t 9)),
   oJ 11 (.bin .lss (.t 8) (.t 10))])
 (.cond (.t 11)
  (.skip)
  (.exit 0)))
 (.seq (.blk 1 (.reg [oM 14 3,
   oM 15 4,
   oM 16 0,
   oM 17 4,
   oJ 18 (.idxS 3 (.t 16) (.t 17)),
   oJ 19 (.ld (some 3) (.t 18)),
   oJ 20 (.call eE [(.t 19)]),
   oJ 21 (.idxS 3 (.t 14) (.t 15)),
   ⟨none,none,.st 3 (.t 21) (.t 20)⟩]))
 (.reg [oM 12 4,
   oJ 13 (.bin .add (.t 12) (.c (.p (.int .i64 1)))),
   oM 4 13]))))))
 (.seq (.reg [oM 22 3,
   oM 2 22])
 (.ret))))⟩
theorem oa:af Tryz.prog eV=some jY:=by kernel_rfl
def fH:FK:=⟨9,[.c 2 (some 1)],
 .seq (.reg [oJ 1 (.box 1 (.t 0)),
  oJ 2 (.alloc [.nils])])
 (.seq (.reg [oJ 3 (.alloc [.nils])])
 (.seq (.reg [oF 4 0 1,
   oL 5 4,
   oJ 6 (.call eV [(.t 5)]),
   oF 7 0 3,
   oS 7 6])
 (.seq (.reg [oJ 8 (.ld (some 1) (.t 3)),
   oS 2 8])
 (.ret))))⟩
theorem jB:af Tryz.prog bq=some fH:=by kernel_rfl
def kW:FK:=⟨15,[.t 6],
 .seq (.reg [oJ 6 (.mov (.c (.p (.bool false))))])
 (.seq (.reg [oM 7 0,
   oM 8 1,
   oJ 9 (.bin .geq (.t 7) (.t 8)),
   oM 10 9,
   ⟨(some 11),some (10,true),.mov (.t 0)⟩,
   ⟨(some 12),some (10,true),.mov (.t 2)⟩,
   ⟨(some 13),some (10,true),.bin .leq (.t 11) (.t 12)⟩,
   oJ 14 (.pick (.t 10) (.t 13) (.c (.p (.bool false)))),
   oM 6 14])
 (.ret))⟩
theorem vB:af Tryz.prog bi=some kW:=by kernel_rfl
def lb:FK:=⟨18,[.t 4],
 .seq (.reg [oK 4 0])
 (.seq (.seq (.reg [oK 5 0])
 (.blk 0 (.loop (.seq (.seq (.reg [oM 6 5,
   oM 7 0,
   oJ 8 (.len true (.t 7)),
   oJ 9 (.bin .lss (.t 6) (.t 8))])
 (.cond (.t 9)
  (.skip)
  (.exit 0)))
 (.seq (.blk 1 (.seq (.reg [oM 12 0,
   oM 13 5,
   oJ 14 (.idxStr (.t 12) (.t 13)),
   oM 15 1,
   oJ 16 (.bin .eql (.t 14) (.t 15))])
 (.cond (.t 16)
  (.seq (.reg [oM 17 5,
    oM 4 17])
  (.ret))
  (.skip))))
 (.reg [oM 10 5,
   oJ 11 (.bin .add (.t 10) (.c (.p (.int .i64 1)))),
   oM 5 11]))))))
 (.seq (.reg [oJ 4 (.mov (.c (.p (.int .i64 (-1)))))])
 (.ret)))⟩
theorem qW:af Tryz.prog im=some lb:=by kernel_rfl
def kD:FK:=⟨28,[.t 2],
 .seq (.reg [oK 2 0])
 (.seq (.blk 0 (.seq (.reg [oM 4 0,
   oJ 5 (.bin .geq (.t 4) (.c (.p (.int .u8 97)))),
   oM 6 5,
   ⟨(some 7),some (6,true),.mov (.t 0)⟩,
   ⟨(some 8),some (6,true),.bin .leq (.t 7) (.c (.p (.int .u8 122)))⟩,
   oJ 9 (.pick (.t 6) (.t 8) (.c (.p (.bool false)))),
   oM 3 9])
 (.cond (.t 3)
  (.seq (.reg [oK 2 1])
  (.ret))
  (.seq (.reg [oM 11 0,
    oJ 12 (.bin .geq (.t 11) (.c (.p (.int .u8 48)))),
    oM 13 12,
    ⟨(some 14),some (13,true),.mov (.t 0)⟩,
    ⟨(some 15),some (13,true),.bin .leq (.t 14) (.c (.p (.int .u8 57)))⟩,
    oJ 16 (.pick (.t 13) (.t 15) (.c (.p (.bool false)))),
    oM 10 16])
  (.cond (.t 10)
   (.seq (.reg [oK 2 2])
   (.ret))
   (.seq (.reg [oM 18 0,
     oJ 19 (.call im [(.c (.p (.str [40,41,123,125,59,44,43,45,42,47,37,60,61,38,33,64]))),(.t 18)]),
     oJ 20 (.bin .geq (.t 19) (.c (.p (.int .i64 0)))),
     oM 17 20])
   (.cond (.t 17)
    (.seq (.reg [oK 2 3])
    (.ret))
    (.seq (.reg [oM 22 0,
      oJ 23 (.bin .eql (.t 22) (.c (.p (.int .u8 32)))),
      oM 24 23,
      ⟨(some 25),some (24,false),.mov (.t 0)⟩,
      ⟨(some 26),some (24,false),.bin .eql (.t 25) (.c (.p (.int .u8 10)))⟩,
      oJ 27 (.pick (.t 24) (.c (.p (.bool true))) (.t 26)),
      oM 21 27])
    (.cond (.t 21)
     (.seq (.reg [oK 2 4])
     (.ret))
     (.skip))))))))))
 (.seq (.reg [oK 2 0])
 (.ret)))⟩
theorem qH:af Tryz.prog gQ=some kD:=by kernel_rfl
def nD:FK:=⟨21,[.t 4],
 .seq (.reg [oJ 4 (.mov (.c (.p (.bool false))))])
 (.seq (.seq (.reg [oK 5 0])
 (.blk 0 (.loop (.seq (.seq (.reg [oM 6 5,
   oM 7 0,
   oJ 8 (.len true (.t 7)),
   oJ 9 (.bin .lss (.t 6) (.t 8))])
 (.cond (.t 9)
  (.skip)
  (.exit 0)))
 (.seq (.blk 1 (.seq (.reg [oM 12 0,
   oM 13 5,
   oJ 14 (.idxStr (.t 12) (.t 13)),
   oJ 15 (.call gQ [(.t 14)]),
   oM 16 1,
   oJ 17 (.bin .neq (.t 15) (.t 16))])
 (.cond (.t 17)
  (.seq (.reg [oJ 4 (.mov (.c (.p (.bool false))))])
  (.ret))
  (.skip))))
 (.reg [oM 10 5,
   oJ 11 (.bin .add (.t 10) (.c (.p (.int .i64 1)))),
   oM 5 11]))))))
 (.seq (.reg [oM 18 0,
   oJ 19 (.len true (.t 18)),
   oJ 20 (.bin .gtr (.t 19) (.c (.p (.int .i64 0)))),
   oM 4 20])
 (.ret)))⟩
theorem uj:af Tryz.prog jH=some nD:=by kernel_rfl
def ko:FK:=⟨2,[.t 0],
 .seq (.reg [oJ 0 (.mov (.c .nils))])
 (.seq (.reg [oJ 1 (.bsl 1 [(.p (.str []))] 9 [(0,1,(.c (.p (.str [102,110])))),(1,1,(.c (.p (.str [108,101,116])))),(2,1,(.c (.p (.str [115,97,121])))),(3,1,(.c (.p (.str [112,117,116])))),(4,1,(.c (.p (.str [105,102])))),(5,1,(.c (.p (.str [101,108,115,101])))),(6,1,(.c (.p (.str [108,111,111,112])))),(7,1,(.c (.p (.str [98,97,99,107])))),(8,1,(.c (.p (.str [100,111]))))]),
   oM 0 1])
 (.ret))⟩
theorem qg:af Tryz.prog dZ=some ko:=by kernel_rfl
def ny:FK:=⟨18,[.t 2],
 .seq (.reg [oJ 2 (.mov (.c (.p (.bool false))))])
 (.seq (.reg [oJ 5 (.call dZ []),
   oM 3 5])
 (.seq (.seq (.reg [oK 4 0])
 (.blk 0 (.loop (.seq (.seq (.reg [oM 6 4,
   oM 7 3,
   oJ 8 (.len false (.t 7)),
   oJ 9 (.bin .lss (.t 6) (.t 8))])
 (.cond (.t 9)
  (.skip)
  (.exit 0)))
 (.seq (.blk 1 (.seq (.reg [oM 12 3,
   oM 13 4,
   oJ 14 (.idxS 1 (.t 12) (.t 13)),
   oL 15 14,
   oM 16 0,
   oJ 17 (.bins .eql (.t 15) (.t 16))])
 (.cond (.t 17)
  (.seq (.reg [oJ 2 (.mov (.c (.p (.bool true))))])
  (.ret))
  (.skip))))
 (.reg [oM 10 4,
   oJ 11 (.bin .add (.t 10) (.c (.p (.int .i64 1)))),
   oM 4 11]))))))
 (.seq (.reg [oJ 2 (.mov (.c (.p (.bool false))))])
 (.ret))))⟩
theorem uF:af Tryz.prog jI=some ny:=by kernel_rfl
def mG:FK:=⟨15,[.t 2],
 .seq (.reg [oJ 2 (.mov (.c (.p (.bool false))))])
 (.seq (.reg [oM 3 0,
   oJ 4 (.call jH [(.t 3),(.c (.p (.int .i64 1)))]),
   oM 5 4,
   ⟨(some 6),some (5,true),.mov (.t 0)⟩,
   ⟨(some 7),some (5,true),.len true (.t 6)⟩,
   ⟨(some 8),some (5,true),.bin .leq (.t 7) (.c (.p (.int .i64 4)))⟩,
   oJ 9 (.pick (.t 5) (.t 8) (.c (.p (.bool false)))),
   oM 10 9,
   ⟨(some 11),some (10,true),.mov (.t 0)⟩,
   ⟨(some 12),some (10,true),.call jI [(.t 11)]⟩,
   ⟨(some 13),some (10,true),.not (.t 12)⟩,
   oJ 14 (.pick (.t 10) (.t 13) (.c (.p (.bool false)))),
   oM 2 14])
 (.ret))⟩
theorem sQ:af Tryz.prog bP=some mG:=by kernel_rfl
def iP:FK:=⟨5,[.t 2],
 .seq (.reg [oK 2 0])
 (.seq (.seq (.reg [oM 3 0,
   oJ 4 (.bin .eql (.t 3) (.c (.p (.int .i64 4))))])
 (.cond (.t 4)
  (.seq (.reg [oK 2 2])
  (.ret))
  (.skip)))
 (.seq (.reg [oK 2 1])
 (.ret)))⟩
theorem tf:af Tryz.prog fO=some iP:=by kernel_rfl
def cu:FK:=⟨13,[.t 2,.t 3],
 .seq (.reg [oK 2 0,
  oK 3 0])
 (.seq (.seq (.reg [oM 4 0])
 (.blk 0 (.seq (.seq (.reg [oJ 6 (.bin .eql (.t 4) (.c (.p (.int .i64 1)))),
   oM 5 6])
 (.cond (.t 5)
  (.skip)
  (.reg [oJ 7 (.bin .eql (.t 4) (.c (.p (.int .i64 2)))),
    oM 5 7])))
 (.cond (.t 5)
  (.seq (.reg [oK 2 0,
    oK 3 0])
  (.ret))
  (.seq (.seq (.reg [oJ 9 (.bin .eql (.t 4) (.c (.p (.int .i64 11)))),
    oM 8 9])
  (.cond (.t 8)
   (.skip)
   (.reg [oJ 10 (.bin .eql (.t 4) (.c (.p (.int .i64 12)))),
     oM 8 10])))
  (.cond (.t 8)
   (.seq (.reg [oK 2 1,
     oK 3 1])
   (.ret))
   (.seq (.reg [oJ 12 (.bin .eql (.t 4) (.c (.p (.int .i64 13)))),
     oM 11 12])
   (.cond (.t 11)
    (.seq (.reg [oK 2 0,
      oK 3 3])
    (.ret))
    (.skip)))))))))
 (.seq (.reg [oK 2 2,
   oK 3 2])
 (.ret)))⟩
theorem sF:af Tryz.prog fT=some cu:=by kernel_rfl
def F_spec_l2Form:FK:=⟨86,[.t 4],
 .seq (.reg [oJ 2 (.box 4 (.t 0)),
  oJ 4 (.mov (.c (.p (.bool false))))])
 (.seq (.reg [oF 10 0 2,
   oL 11 10,
   oJ 12 (.call fT [(.t 11)]),
   oM 9 12,
   oJ 13 (.ext 0 (.t 9)),
   oJ 14 (.ext 1 (.t 9)),
   oM 5 13,
   oM 6 14])
 (.seq (.seq (.reg [oM 15 1,
   oJ 16 (.bin .lss (.t 15) (.c (.p (.int .i64 1)))),
   oM 17 16,
   ⟨(some 18),some (17,false),.fldA 0 (.t 2)⟩,
   ⟨(some 19),some (17,false),.ld none (.t 18)⟩,
   ⟨(some 20),some (17,false),.call bi [(.t 19),(.c (.p (.int .i64 1))),(.c (.p (.int .i64 13)))]⟩,
   ⟨(some 21),some (17,false),.not (.t 20)⟩,
   oJ 22 (.pick (.t 17) (.c (.p (.bool true))) (.t 21)),
   oM 23 22,
   ⟨(some 24),some (23,false),.fldA 3 (.t 2)⟩,
   ⟨(some 25),some (23,false),.ld none (.t 24)⟩,
   ⟨(some 26),some (23,false),.len false (.t 25)⟩,
   ⟨(some 27),some (23,false),.mov (.t 5)⟩,
   ⟨(some 28),some (23,false),.mov (.t 6)⟩,
   ⟨(some 29),some (23,false),.call bi [(.t 26),(.t 27),(.t 28)]⟩,
   ⟨(some 30),some (23,false),.not (.t 29)⟩,
   oJ 31 (.pick (.t 23) (.c (.p (.bool true))) (.t 30))])
 (.cond (.t 31)
  (.seq (.reg [oJ 4 (.mov (.c (.p (.bool false))))])
  (.ret))
  (.skip)))
 (.seq (.reg [oF 32 0 2,
   oL 33 32,
   oJ 34 (.bin .eql (.t 33) (.c (.p (.int .i64 2)))),
   oM 35 34,
   ⟨(some 36),some (35,false),.fldA 0 (.t 2)⟩,
   ⟨(some 37),some (35,false),.ld none (.t 36)⟩,
   ⟨(some 38),some (35,false),.bin .eql (.t 37) (.c (.p (.int .i64 13)))⟩,
   oJ 39 (.pick (.t 35) (.c (.p (.bool true))) (.t 38)),
   oM 7 39])
 (.seq (.seq (.reg [oM 40 7,
   oF 41 2 2,
   oL 42 41,
   oJ 43 (.call bP [(.t 42)]),
   oJ 44 (.beq true (.t 40) (.t 43)),
   oM 45 44,
   ⟨(some 46),some (45,false),.mov (.t 7)⟩,
   ⟨(some 47),some (45,false),.not (.t 46)⟩,
   ⟨(some 48),some (45,false),.mov (.t 47)⟩,
   ⟨(some 49),some (48,true),.fldA 2 (.t 2)⟩,
   ⟨(some 50),some (48,true),.ld none (.t 49)⟩,
   ⟨(some 51),some (48,true),.bins .neq (.t 50) (.c (.p (.str [])))⟩,
   ⟨(some 52),some (45,false),.pick (.t 48) (.t 51) (.c (.p (.bool false)))⟩,
   oJ 53 (.pick (.t 45) (.c (.p (.bool true))) (.t 52)),
   oM 54 53,
   ⟨(some 55),some (54,false),.fldA 1 (.t 2)⟩,
   ⟨(some 56),some (54,false),.ld none (.t 55)⟩,
   ⟨(some 57),some (54,false),.call bi [(.t 56),(.c (.p (.int .i64 0))),(.c (.p (.int .i64 255)))]⟩,
   ⟨(some 58),some (54,false),.not (.t 57)⟩,
   oJ 59 (.pick (.t 54) (.c (.p (.bool true))) (.t 58)),
   oM 60 59,
   ⟨(some 61),some (60,false),.fldA 0 (.t 2)⟩,
   ⟨(some 62),some (60,false),.ld none (.t 61)⟩,
   ⟨(some 63),some (60,false),.bin .neq (.t 62) (.c (.p (.int .i64 1)))⟩,
   ⟨(some 64),some (60,false),.mov (.t 63)⟩,
   ⟨(some 65),some (64,true),.fldA 1 (.t 2)⟩,
   ⟨(some 66),some (64,true),.ld none (.t 65)⟩,
   ⟨(some 67),some (64,true),.bin .neq (.t 66) (.c (.p (.int .i64 0)))⟩,
   ⟨(some 68),some (60,false),.pick (.t 64) (.t 67) (.c (.p (.bool false)))⟩,
   oJ 69 (.pick (.t 60) (.c (.p (.bool true))) (.t 68))])
 (.cond (.t 69)
  (.seq (.reg [oJ 4 (.mov (.c (.p (.bool false))))])
  (.ret))
  (.skip)))
 (.seq (.seq (.reg [oK 8 0])
 (.blk 0 (.loop (.seq (.seq (.reg [oM 70 8,
   oF 71 3 2,
   oL 72 71,
   oJ 73 (.len false (.t 72)),
   oJ 74 (.bin .lss (.t 70) (.t 73))])
 (.cond (.t 74)
  (.skip)
  (.exit 0)))
 (.seq (.blk 1 (.seq (.reg [oF 77 3 2,
   oL 78 77,
   oM 79 8,
   oJ 80 (.idxS 4 (.t 78) (.t 79)),
   oJ 81 (.ld (some 4) (.t 80)),
   oM 82 1,
   oJ 83 (.bin .sub (.t 82) (.c (.p (.int .i64 1)))),
   oJ 84 (.call dY [(.t 81),(.t 83)]),
   oJ 85 (.not (.t 84))])
 (.cond (.t 85)
  (.seq (.reg [oJ 4 (.mov (.c (.p (.bool false))))])
  (.ret))
  (.skip))))
 (.reg [oM 75 8,
   oJ 76 (.bin .add (.t 75) (.c (.p (.int .i64 1)))),
   oM 8 76]))))))
 (.seq (.reg [oJ 4 (.mov (.c (.p (.bool true))))])
 (.ret)))))))⟩
theorem my:af Tryz.prog dY=some F_spec_l2Form:=by kernel_rfl
def kN:FK:=⟨21,[.t 2],
 .seq (.reg [oJ 1 (.box 4 (.t 0)),
  oK 2 0])
 (.seq (.reg [oK 3 1])
 (.seq (.seq (.reg [oK 4 0])
 (.blk 0 (.loop (.seq (.seq (.reg [oM 5 4,
   oF 6 3 1,
   oL 7 6,
   oJ 8 (.len false (.t 7)),
   oJ 9 (.bin .lss (.t 5) (.t 8))])
 (.cond (.t 9)
  (.skip)
  (.exit 0)))
 (.seq (.blk 1 (.reg [oM 12 3,
   oF 13 3 1,
   oL 14 13,
   oM 15 4,
   oJ 16 (.idxS 4 (.t 14) (.t 15)),
   oJ 17 (.ld (some 4) (.t 16)),
   oJ 18 (.call fg [(.t 17)]),
   oJ 19 (.bin .add (.t 12) (.t 18)),
   oM 3 19]))
 (.reg [oM 10 4,
   oJ 11 (.bin .add (.t 10) (.c (.p (.int .i64 1)))),
   oM 4 11]))))))
 (.seq (.reg [oM 20 3,
   oM 2 20])
 (.ret))))⟩
theorem sE:af Tryz.prog fg=some kN:=by kernel_rfl
def jn:FK:=⟨10,[.t 2],
 .seq (.reg [oJ 1 (.box 4 (.t 0)),
  oJ 2 (.mov (.c (.p (.bool false))))])
 (.seq (.reg [oJ 3 (.ld (some 4) (.t 1)),
   oJ 4 (.call dY [(.t 3),(.c (.p (.int .i64 6)))]),
   oM 5 4,
   ⟨(some 6),some (5,true),.ld (some 4) (.t 1)⟩,
   ⟨(some 7),some (5,true),.call fg [(.t 6)]⟩,
   ⟨(some 8),some (5,true),.bin .leq (.t 7) (.c (.p (.int .i64 30)))⟩,
   oJ 9 (.pick (.t 5) (.t 8) (.c (.p (.bool false)))),
   oM 2 9])
 (.ret))⟩
theorem pw:af Tryz.prog du=some jn:=by kernel_rfl
def F_spec_l3Stmt:FK:=⟨108,[.t 4],
 .seq (.reg [oJ 2 (.box 5 (.t 0)),
  oJ 4 (.mov (.c (.p (.bool false))))])
 (.seq (.seq (.reg [oM 7 1,
   oJ 8 (.bin .lss (.t 7) (.c (.p (.int .i64 1)))),
   oM 9 8,
   ⟨(some 10),some (9,false),.fldA 0 (.t 2)⟩,
   ⟨(some 11),some (9,false),.ld none (.t 10)⟩,
   ⟨(some 12),some (9,false),.call bi [(.t 11),(.c (.p (.int .i64 1))),(.c (.p (.int .i64 8)))]⟩,
   ⟨(some 13),some (9,false),.not (.t 12)⟩,
   oJ 14 (.pick (.t 9) (.c (.p (.bool true))) (.t 13)),
   oM 15 14,
   ⟨(some 16),some (15,false),.fldA 2 (.t 2)⟩,
   ⟨(some 19),some (15,false),.fldA 0 (.t 2)⟩,
   ⟨(some 17),some (15,false),.ld none (.t 16)⟩,
   ⟨(some 18),some (15,false),.len false (.t 17)⟩,
   ⟨(some 20),some (15,false),.ld none (.t 19)⟩,
   ⟨(some 21),some (15,false),.qcall fO [(.t 20)]⟩,
   ⟨(some 22),some (15,false),.bin .neq (.t 18) (.t 21)⟩,
   oJ 23 (.pick (.t 15) (.c (.p (.bool true))) (.t 22))])
 (.cond (.t 23)
  (.seq (.reg [oJ 4 (.mov (.c (.p (.bool false))))])
  (.ret))
  (.skip)))
 (.seq (.reg [oF 24 0 2,
   oL 25 24,
   oJ 26 (.bin .eql (.t 25) (.c (.p (.int .i64 1)))),
   oM 27 26,
   ⟨(some 28),some (27,false),.fldA 0 (.t 2)⟩,
   ⟨(some 29),some (27,false),.ld none (.t 28)⟩,
   ⟨(some 30),some (27,false),.bin .eql (.t 29) (.c (.p (.int .i64 2)))⟩,
   oJ 31 (.pick (.t 27) (.c (.p (.bool true))) (.t 30)),
   oM 5 31])
 (.seq (.seq (.reg [oM 32 5,
   oF 33 1 2,
   oL 34 33,
   oJ 35 (.call bP [(.t 34)]),
   oJ 36 (.beq true (.t 32) (.t 35)),
   oM 37 36,
   ⟨(some 38),some (37,false),.mov (.t 5)⟩,
   ⟨(some 39),some (37,false),.not (.t 38)⟩,
   ⟨(some 40),some (37,false),.mov (.t 39)⟩,
   ⟨(some 41),some (40,true),.fldA 1 (.t 2)⟩,
   ⟨(some 42),some (40,true),.ld none (.t 41)⟩,
   ⟨(some 43),some (40,true),.bins .neq (.t 42) (.c (.p (.str [])))⟩,
   ⟨(some 44),some (37,false),.pick (.t 40) (.t 43) (.c (.p (.bool false)))⟩,
   oJ 45 (.pick (.t 37) (.c (.p (.bool true))) (.t 44))])
 (.cond (.t 45)
  (.seq (.reg [oJ 4 (.mov (.c (.p (.bool false))))])
  (.ret))
  (.skip)))
 (.seq (.seq (.reg [oK 6 0])
 (.blk 0 (.loop (.seq (.seq (.reg [oM 46 6,
   oF 47 2 2,
   oL 48 47,
   oJ 49 (.len false (.t 48)),
   oJ 50 (.bin .lss (.t 46) (.t 49))])
 (.cond (.t 50)
  (.skip)
  (.exit 0)))
 (.seq (.blk 1 (.seq (.reg [oF 53 2 2,
   oL 54 53,
   oM 55 6,
   oJ 56 (.idxS 4 (.t 54) (.t 55)),
   oJ 57 (.ld (some 4) (.t 56)),
   oJ 58 (.call du [(.t 57)]),
   oJ 59 (.not (.t 58))])
 (.cond (.t 59)
  (.seq (.reg [oJ 4 (.mov (.c (.p (.bool false))))])
  (.ret))
  (.skip))))
 (.reg [oM 51 6,
   oJ 52 (.bin .add (.t 51) (.c (.p (.int .i64 1)))),
   oM 6 52]))))))
 (.seq (.seq (.reg [oF 60 0 2,
   oL 61 60,
   oJ 62 (.bin .eql (.t 61) (.c (.p (.int .i64 8)))),
   oM 63 62,
   ⟨(some 64),some (63,true),.fldA 2 (.t 2)⟩,
   ⟨(some 65),some (63,true),.ld none (.t 64)⟩,
   ⟨(some 66),some (63,true),.idxS 4 (.t 65) (.c (.p (.int .i64 0)))⟩,
   ⟨(some 67),some (63,true),.fldA 0 (.t 66)⟩,
   ⟨(some 68),some (63,true),.ld none (.t 67)⟩,
   ⟨(some 69),some (63,true),.bin .neq (.t 68) (.c (.p (.int .i64 13)))⟩,
   oJ 70 (.pick (.t 63) (.t 69) (.c (.p (.bool false))))])
 (.cond (.t 70)
  (.seq (.reg [oJ 4 (.mov (.c (.p (.bool false))))])
  (.ret))
  (.skip)))
 (.seq (.seq (.reg [oF 71 4 2,
   oL 72 71,
   oJ 73 (.len false (.t 72)),
   oJ 74 (.bin .gtr (.t 73) (.c (.p (.int .i64 0)))),
   oM 75 74,
   ⟨(some 76),some (75,true),.fldA 0 (.t 2)⟩,
   ⟨(some 77),some (75,true),.ld none (.t 76)⟩,
   ⟨(some 78),some (75,true),.bin .neq (.t 77) (.c (.p (.int .i64 5)))⟩,
   oJ 79 (.pick (.t 75) (.t 78) (.c (.p (.bool false)))),
   oM 80 79,
   ⟨(some 81),some (80,false),.fldA 3 (.t 2)⟩,
   ⟨(some 82),some (80,false),.ld none (.t 81)⟩,
   ⟨(some 83),some (80,false),.len false (.t 82)⟩,
   ⟨(some 84),some (80,false),.bin .gtr (.t 83) (.c (.p (.int .i64 0)))⟩,
   ⟨(some 85),some (80,false),.mov (.t 84)⟩,
   ⟨(some 86),some (85,true),.fldA 0 (.t 2)⟩,
   ⟨(some 87),some (85,true),.ld none (.t 86)⟩,
   ⟨(some 88),some (85,true),.bin .neq (.t 87) (.c (.p (.int .i64 5)))⟩,
   ⟨(some 89),some (80,false),.pick (.t 85) (.t 88) (.c (.p (.bool false)))⟩,
   ⟨(some 90),some (80,false),.mov (.t 89)⟩,
   ⟨(some 91),some (90,true),.fldA 0 (.t 2)⟩,
   ⟨(some 92),some (90,true),.ld none (.t 91)⟩,
   ⟨(some 93),some (90,true),.bin .neq (.t 92) (.c (.p (.int .i64 6)))⟩,
   ⟨(some 94),some (80,false),.pick (.t 90) (.t 93) (.c (.p (.bool false)))⟩,
   oJ 95 (.pick (.t 80) (.c (.p (.bool true))) (.t 94))])
 (.cond (.t 95)
  (.seq (.reg [oJ 4 (.mov (.c (.p (.bool false))))])
  (.ret))
  (.skip)))
 (.seq (.reg [oF 96 3 2,
   oL 97 96,
   oM 98 1,
   oJ 99 (.bin .sub (.t 98) (.c (.p (.int .i64 1)))),
   oJ 100 (.call bA [(.t 97),(.t 99)]),
   oM 101 100,
   ⟨(some 102),some (101,true),.fldA 4 (.t 2)⟩,
   ⟨(some 103),some (101,true),.ld none (.t 102)⟩,
   ⟨(some 104),some (101,true),.mov (.t 1)⟩,
   ⟨(some 105),some (101,true),.bin .sub (.t 104) (.c (.p (.int .i64 1)))⟩,
   ⟨(some 106),some (101,true),.call bA [(.t 103),(.t 105)]⟩,
   oJ 107 (.pick (.t 101) (.t 106) (.c (.p (.bool false)))),
   oM 4 107])
 (.ret))))))))⟩
theorem mO:af Tryz.prog fS=some F_spec_l3Stmt:=by kernel_rfl
def kJ:FK:=⟨19,[.t 4],
 .seq (.reg [oJ 4 (.mov (.c (.p (.bool false))))])
 (.seq (.seq (.reg [oK 5 0])
 (.blk 0 (.loop (.seq (.seq (.reg [oM 6 5,
   oM 7 0,
   oJ 8 (.len false (.t 7)),
   oJ 9 (.bin .lss (.t 6) (.t 8))])
 (.cond (.t 9)
  (.skip)
  (.exit 0)))
 (.seq (.blk 1 (.seq (.reg [oM 12 0,
   oM 13 5,
   oJ 14 (.idxS 5 (.t 12) (.t 13)),
   oJ 15 (.ld (some 5) (.t 14)),
   oM 16 1,
   oJ 17 (.call fS [(.t 15),(.t 16)]),
   oJ 18 (.not (.t 17))])
 (.cond (.t 18)
  (.seq (.reg [oJ 4 (.mov (.c (.p (.bool false))))])
  (.ret))
  (.skip))))
 (.reg [oM 10 5,
   oJ 11 (.bin .add (.t 10) (.c (.p (.int .i64 1)))),
   oM 5 11]))))))
 (.seq (.reg [oJ 4 (.mov (.c (.p (.bool true))))])
 (.ret)))⟩
theorem rx:af Tryz.prog bA=some kJ:=by kernel_rfl
def pC:FK:=⟨32,[.t 2],
 .seq (.reg [oJ 1 (.box 3 (.t 0)),
  oJ 2 (.mov (.c (.p (.bool false))))])
 (.seq (.seq (.reg [oK 3 0])
 (.blk 0 (.loop (.seq (.seq (.reg [oM 4 3,
   oF 5 1 1,
   oL 6 5,
   oJ 7 (.len false (.t 6)),
   oJ 8 (.bin .lss (.t 4) (.t 7))])
 (.cond (.t 8)
  (.skip)
  (.exit 0)))
 (.seq (.blk 1 (.seq (.reg [oF 11 1 1,
   oL 12 11,
   oM 13 3,
   oJ 14 (.idxS 1 (.t 12) (.t 13)),
   oL 15 14,
   oJ 16 (.call bP [(.t 15)]),
   oJ 17 (.not (.t 16))])
 (.cond (.t 17)
  (.seq (.reg [oJ 2 (.mov (.c (.p (.bool false))))])
  (.ret))
  (.skip))))
 (.reg [oM 9 3,
   oJ 10 (.bin .add (.t 9) (.c (.p (.int .i64 1)))),
   oM 3 10]))))))
 (.seq (.reg [oF 18 0 1,
   oL 19 18,
   oJ 20 (.call bP [(.t 19)]),
   oM 21 20,
   ⟨(some 22),some (21,true),.fldA 1 (.t 1)⟩,
   ⟨(some 23),some (21,true),.ld none (.t 22)⟩,
   ⟨(some 24),some (21,true),.len false (.t 23)⟩,
   ⟨(some 25),some (21,true),.bin .leq (.t 24) (.c (.p (.int .i64 3)))⟩,
   oJ 26 (.pick (.t 21) (.t 25) (.c (.p (.bool false)))),
   oM 27 26,
   ⟨(some 28),some (27,true),.fldA 2 (.t 1)⟩,
   ⟨(some 29),some (27,true),.ld none (.t 28)⟩,
   ⟨(some 30),some (27,true),.call bA [(.t 29),(.c (.p (.int .i64 4)))]⟩,
   oJ 31 (.pick (.t 27) (.t 30) (.c (.p (.bool false)))),
   oM 2 31])
 (.ret)))⟩
theorem wd:af Tryz.prog lm=some pC:=by kernel_rfl
def gN:FK:=⟨29,[.t 2],
 .seq (.reg [oK 2 0])
 (.seq (.reg [oM 5 0,
   oJ 6 (.len false (.t 5)),
   oM 3 6])
 (.seq (.seq (.reg [oK 4 0])
 (.blk 0 (.loop (.seq (.seq (.reg [oM 7 4,
   oM 8 0,
   oJ 9 (.len false (.t 8)),
   oJ 10 (.bin .lss (.t 7) (.t 9))])
 (.cond (.t 10)
  (.skip)
  (.exit 0)))
 (.seq (.blk 1 (.reg [oM 13 3,
   oM 14 0,
   oM 15 4,
   oJ 16 (.idxS 5 (.t 14) (.t 15)),
   oF 17 3 16,
   oM 21 0,
   oM 22 4,
   oJ 23 (.idxS 5 (.t 21) (.t 22)),
   oF 24 4 23,
   oL 18 17,
   oL 25 24,
   oJ 19 (.call de [(.t 18)]),
   ⟨none,none,.chk none 24 25⟩,
   oJ 20 (.bin .add (.t 13) (.t 19)),
   oJ 26 (.call de [(.t 25)]),
   oJ 27 (.bin .add (.t 20) (.t 26)),
   oM 3 27]))
 (.reg [oM 11 4,
   oJ 12 (.bin .add (.t 11) (.c (.p (.int .i64 1)))),
   oM 4 12]))))))
 (.seq (.reg [oM 28 3,
   oM 2 28])
 (.ret))))⟩
theorem lC:af Tryz.prog de=some gN:=by kernel_rfl
def oq:FK:=⟨22,[.t 2],
 .seq (.reg [oJ 1 (.box 1 (.t 0)),
  oK 2 0])
 (.seq (.reg [oK 3 0])
 (.seq (.seq (.reg [oK 4 0])
 (.blk 0 (.loop (.seq (.seq (.reg [oM 5 4,
   oF 6 0 1,
   oL 7 6,
   oJ 8 (.len false (.t 7)),
   oJ 9 (.bin .lss (.t 5) (.t 8))])
 (.cond (.t 9)
  (.skip)
  (.exit 0)))
 (.seq (.blk 1 (.reg [oM 12 3,
   oF 13 0 1,
   oL 14 13,
   oM 15 4,
   oJ 16 (.idxS 3 (.t 14) (.t 15)),
   oF 17 2 16,
   oL 18 17,
   oJ 19 (.call de [(.t 18)]),
   oJ 20 (.bin .add (.t 12) (.t 19)),
   oM 3 20]))
 (.reg [oM 10 4,
   oJ 11 (.bin .add (.t 10) (.c (.p (.int .i64 1)))),
   oM 4 11]))))))
 (.seq (.reg [oM 21 3,
   oM 2 21])
 (.ret))))⟩
theorem uz:af Tryz.prog jV=some oq:=by kernel_rfl
def gq:FK:=⟨26,[.t 2],
 .seq (.reg [oJ 1 (.box 1 (.t 0)),
  oJ 2 (.mov (.c (.p (.bool false))))])
 (.seq (.seq (.reg [oF 4 0 1,
   oL 5 4,
   oJ 6 (.len false (.t 5)),
   oJ 7 (.call bi [(.t 6),(.c (.p (.int .i64 1))),(.c (.p (.int .i64 4)))]),
   oJ 8 (.not (.t 7))])
 (.cond (.t 8)
  (.seq (.reg [oJ 2 (.mov (.c (.p (.bool false))))])
  (.ret))
  (.skip)))
 (.seq (.seq (.reg [oK 3 0])
 (.blk 0 (.loop (.seq (.seq (.reg [oM 9 3,
   oF 10 0 1,
   oL 11 10,
   oJ 12 (.len false (.t 11)),
   oJ 13 (.bin .lss (.t 9) (.t 12))])
 (.cond (.t 13)
  (.skip)
  (.exit 0)))
 (.seq (.blk 1 (.seq (.reg [oF 16 0 1,
   oL 17 16,
   oM 18 3,
   oJ 19 (.idxS 3 (.t 17) (.t 18)),
   oJ 20 (.ld (some 3) (.t 19)),
   oJ 21 (.call lm [(.t 20)]),
   oJ 22 (.not (.t 21))])
 (.cond (.t 22)
  (.seq (.reg [oJ 2 (.mov (.c (.p (.bool false))))])
  (.ret))
  (.skip))))
 (.reg [oM 14 3,
   oJ 15 (.bin .add (.t 14) (.c (.p (.int .i64 1)))),
   oM 3 15]))))))
 (.seq (.reg [oJ 23 (.ld (some 1) (.t 1)),
   oJ 24 (.call jV [(.t 23)]),
   oJ 25 (.bin .leq (.t 24) (.c (.p (.int .i64 40)))),
   oM 2 25])
 (.ret))))⟩
theorem lU:af Tryz.prog dG=some gq:=by kernel_rfl
def pR:FK:=⟨22,[.t 4],
 .seq (.reg [oJ 2 (.box 1 (.t 0)),
  oK 4 0])
 (.seq (.seq (.reg [oK 5 0])
 (.blk 0 (.loop (.seq (.seq (.reg [oM 6 5,
   oF 7 0 2,
   oL 8 7,
   oJ 9 (.len false (.t 8)),
   oJ 10 (.bin .lss (.t 6) (.t 9))])
 (.cond (.t 10)
  (.skip)
  (.exit 0)))
 (.seq (.blk 1 (.seq (.reg [oF 13 0 2,
   oL 14 13,
   oM 15 5,
   oJ 16 (.idxS 3 (.t 14) (.t 15)),
   oF 17 0 16,
   oL 18 17,
   oM 19 1,
   oJ 20 (.bins .eql (.t 18) (.t 19))])
 (.cond (.t 20)
  (.seq (.reg [oM 21 5,
    oM 4 21])
  (.ret))
  (.skip))))
 (.reg [oM 11 5,
   oJ 12 (.bin .add (.t 11) (.c (.p (.int .i64 1)))),
   oM 5 12]))))))
 (.seq (.reg [oJ 4 (.mov (.c (.p (.int .i64 (-1)))))])
 (.ret)))⟩
theorem wl:af Tryz.prog eG=some pR:=by kernel_rfl
def ey:FK:=⟨13,[],
 .seq (.reg [oM 4 0,
  oN 5 4,
  oF 6 4 5,
  oL 7 6,
  oJ 8 (.bin .eql (.t 7) (.c (.p (.int .i64 0))))])
 (.cond (.t 8)
  (.reg [oM 9 0,
    oM 10 1,
    oN 11 9,
    oF 12 4 11,
    oS 12 10])
  (.skip))⟩
theorem mY:af Tryz.prog aE=some ey:=by kernel_rfl
def ex:FK:=⟨27,[.t 4],
 .seq (.reg [oK 4 0])
 (.seq (.seq (.reg [oM 6 0,
   oN 7 6,
   oF 8 2 7,
   oL 9 8,
   oJ 10 (.len false (.t 9)),
   oJ 11 (.bin .sub (.t 10) (.c (.p (.int .i64 1)))),
   oM 5 11])
 (.blk 0 (.loop (.seq (.seq (.reg [oM 12 5,
   oJ 13 (.bin .geq (.t 12) (.c (.p (.int .i64 0))))])
 (.cond (.t 13)
  (.skip)
  (.exit 0)))
 (.seq (.blk 1 (.seq (.reg [oM 16 0,
   oN 17 16,
   oF 18 2 17,
   oL 19 18,
   oM 20 5,
   oJ 21 (.idxS 3 (.t 19) (.t 20)),
   oF 22 0 21,
   oL 23 22,
   oM 24 1,
   oJ 25 (.bins .eql (.t 23) (.t 24))])
 (.cond (.t 25)
  (.seq (.reg [oM 26 5,
    oM 4 26])
  (.ret))
  (.skip))))
 (.reg [oM 14 5,
   oJ 15 (.bin .sub (.t 14) (.c (.p (.int .i64 1)))),
   oM 5 15]))))))
 (.seq (.reg [oJ 4 (.mov (.c (.p (.int .i64 (-1)))))])
 (.ret)))⟩
theorem ng:af Tryz.prog bW=some ex:=by kernel_rfl
def mj:FK:=⟨11,[.t 2],
 .seq (.reg [oJ 2 (.mov (.c (.p (.str []))))])
 (.seq (.reg [oM 4 0,
   oJ 5 (.bin .rem (.t 4) (.c (.p (.int .i64 26)))),
   oM 3 5])
 (.seq (.reg [oM 6 3,
   oM 7 3,
   oJ 8 (.bin .add (.t 7) (.c (.p (.int .i64 1)))),
   oJ 9 (.slStr (.c (.p (.str [97,98,99,100,101,102,103,104,105,106,107,108,109,110,111,112,113,114,115,116,117,118,119,120,121,122]))) (some (.t 6)) (some (.t 8))),
   oJ 10 (.bins .add (.c (.p (.str [118]))) (.t 9)),
   oM 2 10])
 (.ret)))⟩
theorem sJ:af Tryz.prog dT=some mj:=by kernel_rfl
def F_spec_l4Walk_put:FK:=⟨57,[.t 6],
 .seq (.reg [oJ 6 (.mov (.c (.p (.str []))))])
 (.seq (.reg [oM 8 0,
   oM 9 1,
   oJ 10 (.call bW [(.t 8),(.t 9)]),
   oM 7 10])
 (.seq (.seq (.reg [oM 11 7,
   oJ 12 (.bin .geq (.t 11) (.c (.p (.int .i64 0)))),
   oM 13 12,
   ⟨(some 14),some (13,true),.mov (.t 0)⟩,
   ⟨(some 15),some (13,true),.nilck (.t 14)⟩,
   ⟨(some 16),some (13,true),.fldA 2 (.t 15)⟩,
   ⟨(some 17),some (13,true),.ld none (.t 16)⟩,
   ⟨(some 18),some (13,true),.mov (.t 7)⟩,
   ⟨(some 19),some (13,true),.idxS 3 (.t 17) (.t 18)⟩,
   ⟨(some 20),some (13,true),.fldA 2 (.t 19)⟩,
   ⟨(some 21),some (13,true),.ld none (.t 20)⟩,
   ⟨(some 22),some (13,true),.mov (.t 2)⟩,
   ⟨(some 23),some (13,true),.bin .eql (.t 21) (.t 22)⟩,
   oJ 24 (.pick (.t 13) (.t 23) (.c (.p (.bool false))))])
 (.cond (.t 24)
  (.reg [oM 25 0,
    oJ 26 (.call aE [(.t 25),(.c (.p (.int .i64 2)))])])
  (.skip)))
 (.seq (.reg [oM 27 0,
   oM 28 0,
   oN 29 28,
   oF 30 2 29,
   oM 32 1,
   oM 33 0,
   oN 34 33,
   oF 35 3 34,
   oM 37 2,
   oL 31 30,
   oL 36 35,
   oJ 38 (.bld [(.p (.str [])),(.p (.int .i64 0)),(.p (.int .i64 0))] [(0,1,(.t 32)),(1,1,(.t 36)),(2,1,(.t 37))]),
   oJ 39 (.bslP 3 [(.p (.str [])),(.p (.int .i64 0)),(.p (.int .i64 0))] 1 [(0,3,(.t 38))]),
   oJ 40 (.app 3 32 (.t 31) (.t 39)),
   oN 41 27,
   oF 42 2 41,
   oS 42 40])
 (.seq (.reg [oM 43 0,
   oM 44 0,
   oN 45 44,
   oF 46 3 45,
   oL 47 46,
   oJ 48 (.bin .add (.t 47) (.c (.p (.int .i64 1)))),
   oN 49 43,
   oF 50 3 49,
   oS 50 48])
 (.seq (.reg [oM 51 0,
   oN 52 51,
   oF 53 3 52,
   oL 54 53,
   oJ 55 (.bin .sub (.t 54) (.c (.p (.int .i64 1)))),
   oJ 56 (.call dT [(.t 55)]),
   oM 6 56])
 (.ret))))))⟩
theorem nB:af Tryz.prog bC=some F_spec_l4Walk_put:=by kernel_rfl
def iy:FK:=⟨23,[.t 4],
 .seq (.reg [oJ 4 (.mov (.c (.p (.str []))))])
 (.seq (.reg [oM 6 0,
   oM 7 1,
   oJ 8 (.call bW [(.t 6),(.t 7)]),
   oM 5 8])
 (.seq (.seq (.reg [oM 9 5,
   oJ 10 (.bin .lss (.t 9) (.c (.p (.int .i64 0))))])
 (.cond (.t 10)
  (.seq (.reg [oM 11 0,
    oJ 12 (.call aE [(.t 11),(.c (.p (.int .i64 3)))])])
  (.seq (.reg [oM 13 1,
    oM 4 13])
  (.ret)))
  (.skip)))
 (.seq (.reg [oM 14 0,
   oN 15 14,
   oF 16 2 15,
   oL 17 16,
   oM 18 5,
   oJ 19 (.idxS 3 (.t 17) (.t 18)),
   oF 20 1 19,
   oL 21 20,
   oJ 22 (.call dT [(.t 21)]),
   oM 4 22])
 (.ret))))⟩
theorem od:af Tryz.prog bD=some iy:=by kernel_rfl
def F_spec_l4Walk_expr:FK:=⟨75,[.c 4 (some 4)],
 .seq (.reg [oJ 3 (.box 4 (.t 1)),
  oJ 4 (.alloc [(.p (.int .i64 0)),(.p (.int .i64 0)),(.p (.str [])),.nils])])
 (.seq (.seq (.reg [oF 8 0 3,
   oL 9 8,
   oJ 10 (.bin .eql (.t 9) (.c (.p (.int .i64 2))))])
 (.cond (.t 10)
  (.reg [oM 11 0,
    oF 12 2 3,
    oL 13 12,
    oJ 14 (.call bD [(.t 11),(.t 13)]),
    oF 15 2 3,
    oS 15 14])
  (.skip)))
 (.seq (.seq (.reg [oF 16 0 3,
   oL 17 16,
   oJ 18 (.bin .eql (.t 17) (.c (.p (.int .i64 13))))])
 (.cond (.t 18)
  (.seq (.reg [oM 19 0,
    oN 20 19,
    oF 21 0 20,
    oF 23 2 3,
    oJ 22 (.ld (some 1) (.t 21)),
    oL 24 23,
    oJ 25 (.call eG [(.t 22),(.t 24)]),
    oM 5 25])
  (.seq (.reg [oM 26 5,
    oJ 27 (.bin .lss (.t 26) (.c (.p (.int .i64 0)))),
    oM 28 27,
    ⟨(some 29),some (28,false),.mov (.t 5)⟩,
    ⟨(some 30),some (28,false),.mov (.t 0)⟩,
    ⟨(some 31),some (28,false),.nilck (.t 30)⟩,
    ⟨(some 32),some (28,false),.fldA 1 (.t 31)⟩,
    ⟨(some 33),some (28,false),.ld none (.t 32)⟩,
    ⟨(some 34),some (28,false),.bin .geq (.t 29) (.t 33)⟩,
    oJ 35 (.pick (.t 28) (.c (.p (.bool true))) (.t 34))])
  (.cond (.t 35)
   (.reg [oM 36 0,
     oJ 37 (.call aE [(.t 36),(.c (.p (.int .i64 4)))])])
   (.seq (.reg [oM 38 0,
     oN 39 38,
     oF 40 0 39,
     oF 41 0 40,
     oM 43 5,
     oF 48 3 3,
     oL 42 41,
     oJ 44 (.idxS 3 (.t 42) (.t 43)),
     oF 45 1 44,
     oL 46 45,
     oJ 47 (.len false (.t 46)),
     oL 49 48,
     oJ 50 (.len false (.t 49)),
     oJ 51 (.bin .neq (.t 47) (.t 50))])
   (.cond (.t 51)
    (.reg [oM 52 0,
      oJ 53 (.call aE [(.t 52),(.c (.p (.int .i64 5)))])])
    (.skip))))))
  (.skip)))
 (.seq (.reg [oJ 54 (.bsl 4 [(.p (.int .i64 0)),(.p (.int .i64 0)),(.p (.str [])),.nils] 0 []),
   oM 6 54])
 (.seq (.seq (.reg [oK 7 0])
 (.blk 0 (.loop (.seq (.seq (.reg [oM 55 7,
   oF 56 3 3,
   oL 57 56,
   oJ 58 (.len false (.t 57)),
   oJ 59 (.bin .lss (.t 55) (.t 58))])
 (.cond (.t 59)
  (.skip)
  (.exit 0)))
 (.seq (.blk 1 (.reg [oM 62 6,
   oM 63 0,
   oF 64 3 3,
   oL 65 64,
   oM 66 7,
   oJ 67 (.idxS 4 (.t 65) (.t 66)),
   oJ 68 (.ld (some 4) (.t 67)),
   oJ 69 (.call aW [(.t 63),(.t 68)]),
   oJ 70 (.bsl 4 [(.p (.int .i64 0)),(.p (.int .i64 0)),(.p (.str [])),.nils] 1 [(0,4,(.t 69))]),
   oJ 71 (.app 4 56 (.t 62) (.t 70)),
   oM 6 71]))
 (.reg [oM 60 7,
   oJ 61 (.bin .add (.t 60) (.c (.p (.int .i64 1)))),
   oM 7 61]))))))
 (.seq (.reg [oM 72 6,
   oF 73 3 3,
   oS 73 72])
 (.seq (.reg [oJ 74 (.ld (some 4) (.t 3)),
   ⟨none,none,.st 4 (.t 4) (.t 74)⟩])
 (.ret)))))))⟩
theorem na:af Tryz.prog aW=some F_spec_l4Walk_expr:=by kernel_rfl
def F_spec_l4Walk_stmts:FK:=⟨96,[.t 6],
 .seq (.reg [oJ 6 (.mov (.c .nils))])
 (.seq (.reg [oJ 13 (.bsl 5 [(.p (.int .i64 0)),(.p (.str [])),.nils,.nils,.nils] 0 []),
   oM 7 13])
 (.seq (.reg [oM 14 0,
   oN 15 14,
   oF 16 2 15,
   oL 17 16,
   oJ 18 (.len false (.t 17)),
   oM 8 18])
 (.seq (.seq (.reg [oK 9 0])
 (.blk 0 (.loop (.seq (.seq (.reg [oM 19 9,
   oM 20 1,
   oJ 21 (.len false (.t 20)),
   oJ 22 (.bin .lss (.t 19) (.t 21))])
 (.cond (.t 22)
  (.skip)
  (.exit 0)))
 (.seq (.blk 1 (.seq (.reg [oM 25 1,
   oM 26 9,
   oJ 27 (.idxS 5 (.t 25) (.t 26)),
   oJ 28 (.ld (some 5) (.t 27)),
   oJ 10 (.alloc [(.p (.int .i64 0)),(.p (.str [])),.nils,.nils,.nils]),
   ⟨none,none,.st 5 (.t 10) (.t 28)⟩])
 (.seq (.reg [oJ 29 (.bsl 4 [(.p (.int .i64 0)),(.p (.int .i64 0)),(.p (.str [])),.nils] 0 []),
   oM 11 29])
 (.seq (.seq (.reg [oK 12 0])
 (.blk 2 (.loop (.seq (.seq (.reg [oM 30 12,
   oF 31 2 10,
   oL 32 31,
   oJ 33 (.len false (.t 32)),
   oJ 34 (.bin .lss (.t 30) (.t 33))])
 (.cond (.t 34)
  (.skip)
  (.exit 2)))
 (.seq (.blk 3 (.reg [oM 37 11,
   oM 38 0,
   oF 39 2 10,
   oL 40 39,
   oM 41 12,
   oJ 42 (.idxS 4 (.t 40) (.t 41)),
   oJ 43 (.ld (some 4) (.t 42)),
   oJ 44 (.call aW [(.t 38),(.t 43)]),
   oJ 45 (.bsl 4 [(.p (.int .i64 0)),(.p (.int .i64 0)),(.p (.str [])),.nils] 1 [(0,4,(.t 44))]),
   oJ 46 (.app 4 56 (.t 37) (.t 45)),
   oM 11 46]))
 (.reg [oM 35 12,
   oJ 36 (.bin .add (.t 35) (.c (.p (.int .i64 1)))),
   oM 12 36]))))))
 (.seq (.reg [oM 47 11,
   oF 48 2 10,
   oS 48 47])
 (.seq (.seq (.reg [oF 49 0 10,
   oL 50 49,
   oJ 51 (.bin .eql (.t 50) (.c (.p (.int .i64 1))))])
 (.cond (.t 51)
  (.reg [oM 52 0,
    oF 53 1 10,
    oL 54 53,
    oM 55 2,
    oJ 56 (.call bC [(.t 52),(.t 54),(.t 55)]),
    oF 57 1 10,
    oS 57 56])
  (.skip)))
 (.seq (.seq (.reg [oF 58 0 10,
   oL 59 58,
   oJ 60 (.bin .eql (.t 59) (.c (.p (.int .i64 2))))])
 (.cond (.t 60)
  (.reg [oM 61 0,
    oF 62 1 10,
    oL 63 62,
    oJ 64 (.call bD [(.t 61),(.t 63)]),
    oF 65 1 10,
    oS 65 64])
  (.skip)))
 (.seq (.reg [oM 66 0,
   oF 67 3 10,
   oL 68 67,
   oM 69 2,
   oJ 70 (.bin .add (.t 69) (.c (.p (.int .i64 1)))),
   oJ 71 (.call aL [(.t 66),(.t 68),(.t 70)]),
   oF 72 3 10,
   oS 72 71])
 (.seq (.reg [oM 73 0,
   oF 74 4 10,
   oL 75 74,
   oM 76 2,
   oJ 77 (.bin .add (.t 76) (.c (.p (.int .i64 1)))),
   oJ 78 (.call aL [(.t 73),(.t 75),(.t 77)]),
   oF 79 4 10,
   oS 79 78])
 (.reg [oM 80 7,
   oJ 81 (.ld (some 5) (.t 10)),
   oJ 82 (.bsl 5 [(.p (.int .i64 0)),(.p (.str [])),.nils,.nils,.nils] 1 [(0,5,(.t 81))]),
   oJ 83 (.app 5 96 (.t 80) (.t 82)),
   oM 7 83]))))))))))
 (.reg [oM 23 9,
   oJ 24 (.bin .add (.t 23) (.c (.p (.int .i64 1)))),
   oM 9 24]))))))
 (.seq (.seq (.reg [oM 84 2,
   oJ 85 (.bin .gtr (.t 84) (.c (.p (.int .i64 0))))])
 (.cond (.t 85)
  (.reg [oM 86 0,
    oM 87 0,
    oN 88 87,
    oF 89 2 88,
    oL 90 89,
    oM 91 8,
    oJ 92 (.slS 3 (.t 90) none (some (.t 91))),
    oN 93 86,
    oF 94 2 93,
    oS 94 92])
  (.skip)))
 (.seq (.reg [oM 95 7,
   oM 6 95])
 (.ret))))))⟩
theorem ma:af Tryz.prog aL=some F_spec_l4Walk_stmts:=by kernel_rfl
def F_spec_l4Fn:FK:=⟨62,[.c 4 (some 3),.t 5,.t 6],
 .seq (.reg [oJ 2 (.box 1 (.t 0)),
  oJ 4 (.alloc [(.p (.str [])),.nils,.nils]),
  oK 5 0,
  oK 6 0])
 (.seq (.reg [oJ 11 (.ld (some 1) (.t 2)),
   oM 12 1,
   oJ 13 (.bld [.nils,(.p (.int .i64 0)),.nils,(.p (.int .i64 0)),(.p (.int .i64 0))] [(0,1,(.t 11)),(1,1,(.t 12))]),
   oJ 14 (.box 5 (.t 13)),
   oM 7 14])
 (.seq (.reg [oF 15 0 2,
   oL 16 15,
   oM 17 1,
   oJ 18 (.idxS 3 (.t 16) (.t 17)),
   oJ 19 (.ld (some 3) (.t 18)),
   oJ 8 (.alloc [(.p (.str [])),.nils,.nils]),
   ⟨none,none,.st 3 (.t 8) (.t 19)⟩])
 (.seq (.seq (.reg [oJ 20 (.ld (some 1) (.t 2)),
   oF 21 0 8,
   oL 22 21,
   oJ 23 (.call eG [(.t 20),(.t 22)]),
   oM 24 1,
   oJ 25 (.bin .neq (.t 23) (.t 24))])
 (.cond (.t 25)
  (.reg [oM 26 7,
    oJ 27 (.call aE [(.t 26),(.c (.p (.int .i64 2)))])])
  (.skip)))
 (.seq (.reg [oJ 28 (.bsl 1 [(.p (.str []))] 0 []),
   oM 9 28])
 (.seq (.seq (.reg [oK 10 0])
 (.blk 0 (.loop (.seq (.seq (.reg [oM 29 10,
   oF 30 1 8,
   oL 31 30,
   oJ 32 (.len false (.t 31)),
   oJ 33 (.bin .lss (.t 29) (.t 32))])
 (.cond (.t 33)
  (.skip)
  (.exit 0)))
 (.seq (.blk 1 (.reg [oM 36 9,
   oM 37 7,
   oF 38 1 8,
   oL 39 38,
   oM 40 10,
   oJ 41 (.idxS 1 (.t 39) (.t 40)),
   oL 42 41,
   oJ 43 (.call bC [(.t 37),(.t 42),(.c (.p (.int .i64 0)))]),
   oJ 44 (.bsl 1 [(.p (.str []))] 1 [(0,1,(.t 43))]),
   oJ 45 (.app 1 16 (.t 36) (.t 44)),
   oM 9 45]))
 (.reg [oM 34 10,
   oJ 35 (.bin .add (.t 34) (.c (.p (.int .i64 1)))),
   oM 10 35]))))))
 (.seq (.reg [oM 46 9,
   oF 47 1 8,
   oS 47 46])
 (.seq (.reg [oM 48 7,
   oF 49 2 8,
   oL 50 49,
   oJ 51 (.call aL [(.t 48),(.t 50),(.c (.p (.int .i64 0)))]),
   oF 52 2 8,
   oS 52 51])
 (.seq (.reg [oM 54 7,
   oN 55 54,
   oF 56 4 55,
   oM 58 7,
   oN 59 58,
   oF 60 3 59,
   oJ 53 (.ld (some 3) (.t 8)),
   oL 57 56,
   oL 61 60,
   ⟨none,none,.st 3 (.t 4) (.t 53)⟩,
   ⟨none,none,.chk none 56 57⟩,
   ⟨none,none,.chk none 60 61⟩,
   oM 5 57,
   oM 6 61])
 (.ret)))))))))⟩
theorem vI:af Tryz.prog iK=some F_spec_l4Fn:=by kernel_rfl
def gu:FK:=⟨27,[.t 2],
 .seq (.reg [oJ 1 (.box 1 (.t 0)),
  oK 2 0])
 (.seq (.seq (.reg [oJ 7 (.ld (some 1) (.t 1)),
   oJ 8 (.call dG [(.t 7)]),
   oJ 9 (.not (.t 8))])
 (.cond (.t 9)
  (.seq (.reg [oK 2 1])
  (.ret))
  (.skip)))
 (.seq (.seq (.reg [oK 3 0])
 (.blk 0 (.loop (.seq (.seq (.reg [oM 10 3,
   oF 11 0 1,
   oL 12 11,
   oJ 13 (.len false (.t 12)),
   oJ 14 (.bin .lss (.t 10) (.t 13))])
 (.cond (.t 14)
  (.skip)
  (.exit 0)))
 (.seq (.blk 1 (.seq (.reg [oJ 18 (.ld (some 1) (.t 1)),
   oM 19 3,
   oJ 20 (.call iK [(.t 18),(.t 19)]),
   oM 17 20,
   oJ 21 (.ext 0 (.t 17)),
   oJ 22 (.ext 1 (.t 17)),
   oJ 23 (.ext 2 (.t 17)),
   oJ 4 (.alloc [(.p (.str [])),.nils,.nils]),
   ⟨none,none,.st 3 (.t 4) (.t 21)⟩,
   oM 5 22,
   oM 6 23])
 (.seq (.reg [oM 24 5,
   oJ 25 (.bin .neq (.t 24) (.c (.p (.int .i64 0))))])
 (.cond (.t 25)
  (.seq (.reg [oM 26 5,
    oM 2 26])
  (.ret))
  (.skip)))))
 (.reg [oM 15 3,
   oJ 16 (.bin .add (.t 15) (.c (.p (.int .i64 1)))),
   oM 3 16]))))))
 (.seq (.reg [oK 2 0])
 (.ret))))⟩
theorem lV:af Tryz.prog dF=some gu:=by kernel_rfl
def mK:FK:=⟨6,[.t 2],
 .seq (.reg [oJ 1 (.box 1 (.t 0)),
  oJ 2 (.mov (.c (.p (.bool false))))])
 (.seq (.reg [oJ 3 (.ld (some 1) (.t 1)),
   oJ 4 (.call dF [(.t 3)]),
   oJ 5 (.bin .eql (.t 4) (.c (.p (.int .i64 0)))),
   oM 2 5])
 (.ret))⟩
theorem sP:af Tryz.prog iU=some mK:=by kernel_rfl
def jc:FK:=⟨15,[.t 6],
 .seq (.reg [oJ 6 (.mov (.c (.p (.bool false))))])
 (.seq (.reg [oM 7 1,
   oM 8 0,
   oJ 9 (.bin .leq (.t 7) (.t 8)),
   oM 10 9,
   ⟨(some 11),some (10,true),.mov (.t 0)⟩,
   ⟨(some 12),some (10,true),.mov (.t 2)⟩,
   ⟨(some 13),some (10,true),.bin .leq (.t 11) (.t 12)⟩,
   oJ 14 (.pick (.t 10) (.t 13) (.c (.p (.bool false)))),
   oM 6 14])
 (.ret))⟩
theorem ta:af Tryz.prog bQ=some jc:=by kernel_rfl
def gv:FK:=⟨21,[.t 6],
 .seq (.reg [oK 6 0])
 (.seq (.seq (.reg [oM 9 0,
   oJ 10 (.rngS (.t 9))])
 (.blk 0 (.loop (.seq (.reg [oJ 11 (.nxtS (.t 10)),
   oJ 12 (.ext 0 (.t 11))])
 (.seq (.cond (.t 12)
  (.skip)
  (.exit 0))
 (.blk 1 (.seq (.reg [oJ 13 (.ext 1 (.t 11)),
   oJ 14 (.ext 2 (.t 11)),
   oM 7 13,
   oM 8 14])
 (.seq (.reg [oM 15 1,
   oM 16 8,
   oJ 17 (.callv (.t 15) [(.t 16)]),
   oM 18 2,
   oJ 19 (.beq false (.t 17) (.t 18))])
 (.cond (.t 19)
  (.seq (.reg [oM 20 7,
    oM 6 20])
  (.ret))
  (.skip))))))))))
 (.seq (.reg [oJ 6 (.mov (.c (.p (.int .i64 (-1)))))])
 (.ret)))⟩
theorem mb:af Tryz.prog dH=some gv:=by kernel_rfl
def gt:FK:=⟨8,[.t 4],
 .seq (.reg [oK 4 0])
 (.seq (.reg [oM 5 0,
   oM 6 1,
   oJ 7 (.call dH [(.t 5),(.t 6),(.c (.p (.bool true)))]),
   oM 4 7])
 (.ret))⟩
theorem lX:af Tryz.prog dO=some gt:=by kernel_rfl
def fv:FK:=⟨19,[.t 4],
 .seq (.reg [oK 4 0])
 (.seq (.seq (.reg [oM 6 0,
   oJ 7 (.len false (.t 6)),
   oK 8 0])
 (.blk 0 (.loop (.seq (.reg [oJ 9 (.bin .lss (.t 8) (.t 7))])
 (.seq (.cond (.t 9)
  (.skip)
  (.exit 0))
 (.seq (.blk 1 (.seq (.reg [oM 10 8,
   oM 5 10])
 (.seq (.reg [oM 11 1,
   oM 12 0,
   oM 13 5,
   oJ 14 (.idxS 1 (.t 12) (.t 13)),
   oL 15 14,
   oJ 16 (.bins .eql (.t 11) (.t 15))])
 (.cond (.t 16)
  (.seq (.reg [oM 17 5,
    oM 4 17])
  (.ret))
  (.skip)))))
 (.reg [oJ 18 (.bin .add (.t 8) (.c (.p (.int .i64 1)))),
   oM 8 18])))))))
 (.seq (.reg [oJ 4 (.mov (.c (.p (.int .i64 (-1)))))])
 (.ret)))⟩
theorem kr:af Tryz.prog dc=some fv:=by kernel_rfl
def dX:FK:=⟨9,[.t 4],
 .seq (.reg [oJ 4 (.mov (.c (.p (.bool false))))])
 (.seq (.reg [oM 5 0,
   oM 6 1,
   oJ 7 (.call dc [(.t 5),(.t 6)]),
   oJ 8 (.bin .geq (.t 7) (.c (.p (.int .i64 0)))),
   oM 4 8])
 (.ret))⟩
theorem iX:af Tryz.prog cm=some dX:=by kernel_rfl
def kn:FK:=⟨9,[.t 2],
 .seq (.reg [oJ 2 (.mov (.c (.p (.bool false))))])
 (.seq (.reg [oM 3 0,
   oJ 4 (.bin .lss (.t 3) (.c (.p (.int .i32 97)))),
   oM 5 4,
   ⟨(some 6),some (5,false),.mov (.t 0)⟩,
   ⟨(some 7),some (5,false),.bin .gtr (.t 6) (.c (.p (.int .i32 122)))⟩,
   oJ 8 (.pick (.t 5) (.c (.p (.bool true))) (.t 7)),
   oM 2 8])
 (.ret))⟩
theorem qi:af Tryz.prog cd=some kn:=by kernel_rfl
def mv:FK:=⟨17,[.t 2],
 .seq (.reg [oJ 2 (.mov (.c (.p (.bool false))))])
 (.seq (.reg [oM 3 0,
   oJ 4 (.len true (.t 3)),
   oJ 5 (.call bQ [(.t 4),(.c (.p (.int .i64 1))),(.c (.p (.int .i64 4)))]),
   oM 6 5,
   ⟨(some 7),some (6,true),.mov (.t 0)⟩,
   ⟨(some 8),some (6,true),.call dO [(.t 7),(.c (.fn (.func cd) []))]⟩,
   ⟨(some 9),some (6,true),.bin .lss (.t 8) (.c (.p (.int .i64 0)))⟩,
   oJ 10 (.pick (.t 6) (.t 9) (.c (.p (.bool false)))),
   oM 11 10,
   ⟨(some 12),some (11,true),.slA 9 1 (.c (.gp 1 0)) none none⟩,
   ⟨(some 13),some (11,true),.mov (.t 0)⟩,
   ⟨(some 14),some (11,true),.call cm [(.t 12),(.t 13)]⟩,
   ⟨(some 15),some (11,true),.not (.t 14)⟩,
   oJ 16 (.pick (.t 11) (.t 15) (.c (.p (.bool false)))),
   oM 2 16])
 (.ret))⟩
theorem tc:af Tryz.prog bc=some mv:=by kernel_rfl
def dC:FK:=⟨19,[.t 4],
 .seq (.reg [oK 4 0])
 (.seq (.seq (.reg [oM 6 0,
   oJ 7 (.len false (.t 6)),
   oK 8 0])
 (.blk 0 (.loop (.seq (.reg [oJ 9 (.bin .lss (.t 8) (.t 7))])
 (.seq (.cond (.t 9)
  (.skip)
  (.exit 0))
 (.seq (.blk 1 (.seq (.reg [oM 10 8,
   oM 5 10])
 (.seq (.reg [oM 11 1,
   oM 12 0,
   oM 13 5,
   oJ 14 (.idxS 1 (.t 12) (.t 13)),
   oL 15 14,
   oJ 16 (.callv (.t 11) [(.t 15)])])
 (.cond (.t 16)
  (.seq (.reg [oM 17 5,
    oM 4 17])
  (.ret))
  (.skip)))))
 (.reg [oJ 18 (.bin .add (.t 8) (.c (.p (.int .i64 1)))),
   oM 8 18])))))))
 (.seq (.reg [oJ 4 (.mov (.c (.p (.int .i64 (-1)))))])
 (.ret)))⟩
theorem iw:af Tryz.prog cb=some dC:=by kernel_rfl
def cV:FK:=⟨9,[.t 4],
 .seq (.reg [oJ 4 (.mov (.c (.p (.bool false))))])
 (.seq (.reg [oM 5 0,
   oM 6 1,
   oJ 7 (.call cb [(.t 5),(.t 6)]),
   oJ 8 (.bin .geq (.t 7) (.c (.p (.int .i64 0)))),
   oM 4 8])
 (.ret))⟩
theorem gh:af Tryz.prog bF=some cV:=by kernel_rfl
def cU:FK:=⟨19,[.t 4],
 .seq (.reg [oK 4 0])
 (.seq (.seq (.reg [oM 6 0,
   oJ 7 (.len false (.t 6)),
   oK 8 0])
 (.blk 0 (.loop (.seq (.reg [oJ 9 (.bin .lss (.t 8) (.t 7))])
 (.seq (.cond (.t 9)
  (.skip)
  (.exit 0))
 (.seq (.blk 1 (.seq (.reg [oM 10 8,
   oM 5 10])
 (.seq (.reg [oM 11 1,
   oM 12 0,
   oM 13 5,
   oJ 14 (.idxS 5 (.t 12) (.t 13)),
   oJ 15 (.ld (some 5) (.t 14)),
   oJ 16 (.callv (.t 11) [(.t 15)])])
 (.cond (.t 16)
  (.seq (.reg [oM 17 5,
    oM 4 17])
  (.ret))
  (.skip)))))
 (.reg [oJ 18 (.bin .add (.t 8) (.c (.p (.int .i64 1)))),
   oM 8 18])))))))
 (.seq (.reg [oJ 4 (.mov (.c (.p (.int .i64 (-1)))))])
 (.ret)))⟩
theorem gi:af Tryz.prog bG=some cU:=by kernel_rfl
def cw:FK:=⟨9,[.t 4],
 .seq (.reg [oJ 4 (.mov (.c (.p (.bool false))))])
 (.seq (.reg [oM 5 0,
   oM 6 1,
   oJ 7 (.call bG [(.t 5),(.t 6)]),
   oJ 8 (.bin .geq (.t 7) (.c (.p (.int .i64 0)))),
   oM 4 8])
 (.ret))⟩
theorem fm:af Tryz.prog bj=some cw:=by kernel_rfl
def aQ:FK:=⟨20,[.t 2,.t 3,.t 4,.t 5],
 .seq (.reg [oK 2 0,
  oJ 3 (.mov (.c (.p (.bool false)))),
  oJ 4 (.mov (.c (.p (.bool false)))),
  oJ 5 (.mov (.c (.p (.bool false))))])
 (.seq (.seq (.reg [oM 6 0])
 (.blk 0 (.seq (.seq (.reg [oJ 8 (.bin .eql (.t 6) (.c (.p (.int .i64 1)))),
   oM 7 8])
 (.cond (.t 7)
  (.skip)
  (.reg [oJ 9 (.bin .eql (.t 6) (.c (.p (.int .i64 2)))),
    oM 7 9])))
 (.cond (.t 7)
  (.seq (.reg [oK 2 1,
    oJ 3 (.mov (.c (.p (.bool true)))),
    oJ 4 (.mov (.c (.p (.bool false)))),
    oJ 5 (.mov (.c (.p (.bool false))))])
  (.ret))
  (.seq (.seq (.reg [oJ 11 (.bin .eql (.t 6) (.c (.p (.int .i64 3)))),
    oM 10 11])
  (.cond (.t 10)
   (.skip)
   (.seq (.reg [oJ 12 (.bin .eql (.t 6) (.c (.p (.int .i64 7)))),
     oM 10 12])
   (.cond (.t 10)
    (.skip)
    (.reg [oJ 13 (.bin .eql (.t 6) (.c (.p (.int .i64 8)))),
      oM 10 13])))))
  (.cond (.t 10)
   (.seq (.reg [oK 2 1,
     oJ 3 (.mov (.c (.p (.bool false)))),
     oJ 4 (.mov (.c (.p (.bool false)))),
     oJ 5 (.mov (.c (.p (.bool false))))])
   (.ret))
   (.seq (.reg [oJ 15 (.bin .eql (.t 6) (.c (.p (.int .i64 4)))),
     oM 14 15])
   (.cond (.t 14)
    (.seq (.reg [oK 2 2,
      oJ 3 (.mov (.c (.p (.bool false)))),
      oJ 4 (.mov (.c (.p (.bool false)))),
      oJ 5 (.mov (.c (.p (.bool false))))])
    (.ret))
    (.seq (.reg [oJ 17 (.bin .eql (.t 6) (.c (.p (.int .i64 5)))),
      oM 16 17])
    (.cond (.t 16)
     (.seq (.reg [oK 2 1,
       oJ 3 (.mov (.c (.p (.bool false)))),
       oJ 4 (.mov (.c (.p (.bool true)))),
       oJ 5 (.mov (.c (.p (.bool true))))])
     (.ret))
     (.seq (.reg [oJ 19 (.bin .eql (.t 6) (.c (.p (.int .i64 6)))),
       oM 18 19])
     (.cond (.t 18)
      (.seq (.reg [oK 2 1,
        oJ 3 (.mov (.c (.p (.bool false)))),
        oJ 4 (.mov (.c (.p (.bool true)))),
        oJ 5 (.mov (.c (.p (.bool false))))])
      (.ret))
      (.skip)))))))))))))
 (.seq (.reg [oJ 2 (.mov (.c (.p (.int .i64 (-1))))),
   oJ 3 (.mov (.c (.p (.bool false)))),
   oJ 4 (.mov (.c (.p (.bool false)))),
   oJ 5 (.mov (.c (.p (.bool false))))])
 (.ret)))⟩
theorem qc:af Tryz.prog er=some aQ:=by kernel_rfl
def ml:FK:=⟨5,[.t 2],
 .seq (.reg [oJ 2 (.mov (.c (.p (.bool false))))])
 (.seq (.reg [oM 3 0,
   oJ 4 (.call bQ [(.t 3),(.c (.p (.int .i64 0))),(.c (.p (.int .i64 255)))]),
   oM 2 4])
 (.ret))⟩
theorem sY:af Tryz.prog fW=some ml:=by kernel_rfl
def dq:FK:=⟨20,[.t 2],
 .seq (.reg [oK 2 0])
 (.seq (.blk 0 (.seq (.reg [oJ 4 (.ld none (.c (.gp 2 0))),
   oM 5 0,
   oJ 6 (.lk 0 (.agg [(.p (.str [])),(.p (.int .i64 0))]) false (.t 4) (.t 5)),
   oJ 7 (.fldv 1 none (.t 6)),
   oJ 8 (.bin .gtr (.t 7) (.c (.p (.int .i64 0)))),
   oM 3 8])
 (.cond (.t 3)
  (.seq (.reg [oJ 9 (.ld none (.c (.gp 2 0))),
    oM 10 0,
    oJ 11 (.lk 0 (.agg [(.p (.str [])),(.p (.int .i64 0))]) false (.t 9) (.t 10)),
    oJ 12 (.fldv 1 none (.t 11)),
    oM 2 12])
  (.ret))
  (.seq (.reg [oM 14 0,
    oJ 15 (.bin .eql (.t 14) (.c (.p (.int .i64 11)))),
    oM 16 15,
    ⟨(some 17),some (16,false),.mov (.t 0)⟩,
    ⟨(some 18),some (16,false),.bin .eql (.t 17) (.c (.p (.int .i64 12)))⟩,
    oJ 19 (.pick (.t 16) (.c (.p (.bool true))) (.t 18)),
    oM 13 19])
  (.cond (.t 13)
   (.seq (.reg [oK 2 5])
   (.ret))
   (.skip))))))
 (.seq (.reg [oK 2 6])
 (.ret)))⟩
theorem rE:af Tryz.prog eL=some dq:=by kernel_rfl
def F_impl_exprSize:FK:=⟨127,[.t 4,.t 5,.t 6],
 .seq (.reg [oJ 2 (.box 4 (.t 0)),
  oK 4 0,
  oK 5 0,
  oJ 6 (.mov (.c (.p (.bool false))))])
 (.seq (.reg [oK 7 0,
   oK 8 0])
 (.seq (.blk 0 (.seq (.reg [oF 17 0 2,
   oL 18 17,
   oJ 19 (.bin .eql (.t 18) (.c (.p (.int .i64 1)))),
   oM 16 19])
 (.cond (.t 16)
  (.seq (.reg [oF 20 1 2,
    oL 21 20,
    oJ 22 (.call fW [(.t 21)]),
    oJ 23 (.not (.t 22)),
    oM 24 23,
    ⟨(some 25),some (24,false),.fldA 2 (.t 2)⟩,
    ⟨(some 26),some (24,false),.ld none (.t 25)⟩,
    ⟨(some 27),some (24,false),.bins .neq (.t 26) (.c (.p (.str [])))⟩,
    oJ 28 (.pick (.t 24) (.c (.p (.bool true))) (.t 27))])
  (.cond (.t 28)
   (.seq (.reg [oK 4 0,
     oK 5 0,
     oJ 6 (.mov (.c (.p (.bool false))))])
   (.ret))
   (.skip)))
  (.seq (.reg [oF 30 0 2,
    oL 31 30,
    oJ 32 (.bin .eql (.t 31) (.c (.p (.int .i64 2)))),
    oM 29 32])
  (.cond (.t 29)
   (.seq (.reg [oF 33 2 2,
     oL 34 33,
     oJ 35 (.call bc [(.t 34)]),
     oJ 36 (.not (.t 35)),
     oM 37 36,
     ⟨(some 38),some (37,false),.fldA 1 (.t 2)⟩,
     ⟨(some 39),some (37,false),.ld none (.t 38)⟩,
     ⟨(some 40),some (37,false),.bin .neq (.t 39) (.c (.p (.int .i64 0)))⟩,
     oJ 41 (.pick (.t 37) (.c (.p (.bool true))) (.t 40))])
   (.cond (.t 41)
    (.seq (.reg [oK 4 0,
      oK 5 0,
      oJ 6 (.mov (.c (.p (.bool false))))])
    (.ret))
    (.skip)))
   (.seq (.reg [oF 43 0 2,
     oL 44 43,
     oJ 45 (.bin .eql (.t 44) (.c (.p (.int .i64 13)))),
     oM 42 45])
   (.cond (.t 42)
    (.seq (.reg [oK 8 3])
    (.seq (.reg [oF 46 2 2,
      oL 47 46,
      oJ 48 (.call bc [(.t 47)]),
      oJ 49 (.not (.t 48)),
      oM 50 49,
      ⟨(some 51),some (50,false),.fldA 1 (.t 2)⟩,
      ⟨(some 52),some (50,false),.ld none (.t 51)⟩,
      ⟨(some 53),some (50,false),.bin .neq (.t 52) (.c (.p (.int .i64 0)))⟩,
      oJ 54 (.pick (.t 50) (.c (.p (.bool true))) (.t 53))])
    (.cond (.t 54)
     (.seq (.reg [oK 4 0,
       oK 5 0,
       oJ 6 (.mov (.c (.p (.bool false))))])
     (.ret))
     (.skip))))
    (.seq (.reg [oJ 56 (.ld none (.c (.gp 2 0))),
      oF 57 0 2,
      oL 58 57,
      oJ 59 (.lk 0 (.agg [(.p (.str [])),(.p (.int .i64 0))]) false (.t 56) (.t 58)),
      oJ 60 (.fldv 1 none (.t 59)),
      oJ 61 (.bin .gtr (.t 60) (.c (.p (.int .i64 0)))),
      oM 55 61])
    (.cond (.t 55)
     (.reg [oK 7 2,
       oK 8 2])
     (.seq (.reg [oF 63 0 2,
       oL 64 63,
       oJ 65 (.bin .eql (.t 64) (.c (.p (.int .i64 11)))),
       oM 66 65,
       ⟨(some 67),some (66,false),.fldA 0 (.t 2)⟩,
       ⟨(some 68),some (66,false),.ld none (.t 67)⟩,
       ⟨(some 69),some (66,false),.bin .eql (.t 68) (.c (.p (.int .i64 12)))⟩,
       oJ 70 (.pick (.t 66) (.c (.p (.bool true))) (.t 69)),
       oM 62 70])
     (.cond (.t 62)
      (.reg [oK 7 1,
        oK 8 1])
      (.seq (.reg [oK 4 0,
        oK 5 0,
        oJ 6 (.mov (.c (.p (.bool false))))])
      (.ret)))))))))))))
 (.seq (.seq (.reg [oF 71 0 2,
   oL 72 71,
   oJ 73 (.call eL [(.t 72)]),
   oJ 74 (.bin .lss (.t 73) (.c (.p (.int .i64 6)))),
   oM 75 74,
   ⟨(some 76),some (75,true),.fldA 1 (.t 2)⟩,
   ⟨(some 77),some (75,true),.ld none (.t 76)⟩,
   ⟨(some 78),some (75,true),.bin .neq (.t 77) (.c (.p (.int .i64 0)))⟩,
   ⟨(some 79),some (75,true),.mov (.t 78)⟩,
   ⟨(some 80),some (79,false),.fldA 2 (.t 2)⟩,
   ⟨(some 81),some (79,false),.ld none (.t 80)⟩,
   ⟨(some 82),some (79,false),.bins .neq (.t 81) (.c (.p (.str [])))⟩,
   ⟨(some 83),some (75,true),.pick (.t 79) (.c (.p (.bool true))) (.t 82)⟩,
   oJ 84 (.pick (.t 75) (.t 83) (.c (.p (.bool false)))),
   oM 85 84,
   ⟨(some 86),some (85,false),.fldA 3 (.t 2)⟩,
   ⟨(some 87),some (85,false),.ld none (.t 86)⟩,
   ⟨(some 88),some (85,false),.len false (.t 87)⟩,
   ⟨(some 89),some (85,false),.mov (.t 7)⟩,
   ⟨(some 90),some (85,false),.mov (.t 8)⟩,
   ⟨(some 91),some (85,false),.call bQ [(.t 88),(.t 89),(.t 90)]⟩,
   ⟨(some 92),some (85,false),.not (.t 91)⟩,
   oJ 93 (.pick (.t 85) (.c (.p (.bool true))) (.t 92)),
   oM 94 93,
   ⟨(some 95),some (94,false),.mov (.t 1)⟩,
   ⟨(some 96),some (94,false),.bin .lss (.t 95) (.c (.p (.int .i64 1)))⟩,
   oJ 97 (.pick (.t 94) (.c (.p (.bool true))) (.t 96))])
 (.cond (.t 97)
  (.seq (.reg [oK 4 0,
    oK 5 0,
    oJ 6 (.mov (.c (.p (.bool false))))])
  (.ret))
  (.skip)))
 (.seq (.reg [oK 9 1,
   oK 10 1])
 (.seq (.seq (.reg [oF 98 3 2,
   oL 99 98,
   oJ 100 (.len false (.t 99)),
   oK 101 0])
 (.blk 1 (.loop (.seq (.reg [oJ 102 (.bin .lss (.t 101) (.t 100))])
 (.seq (.cond (.t 102)
  (.skip)
  (.exit 1))
 (.seq (.blk 2 (.seq (.reg [oJ 103 (.idxS 4 (.t 99) (.t 101)),
   oJ 104 (.ld (some 4) (.t 103)),
   oJ 12 (.alloc [(.p (.int .i64 0)),(.p (.int .i64 0)),(.p (.str [])),.nils]),
   ⟨none,none,.st 4 (.t 12) (.t 104)⟩])
 (.seq (.reg [oJ 106 (.ld (some 4) (.t 12)),
   oM 107 1,
   oJ 108 (.bin .sub (.t 107) (.c (.p (.int .i64 1)))),
   oJ 109 (.call cW [(.t 106),(.t 108)]),
   oM 105 109,
   oJ 110 (.ext 0 (.t 105)),
   oJ 111 (.ext 1 (.t 105)),
   oJ 112 (.ext 2 (.t 105)),
   oM 13 110,
   oM 14 111,
   oM 15 112])
 (.seq (.seq (.reg [oM 113 15,
   oJ 114 (.not (.t 113))])
 (.cond (.t 114)
  (.seq (.reg [oK 4 0,
    oK 5 0,
    oJ 6 (.mov (.c (.p (.bool false))))])
  (.ret))
  (.skip)))
 (.seq (.reg [oM 115 9,
   oM 116 13,
   oJ 117 (.bin .add (.t 115) (.t 116)),
   oM 9 117])
 (.reg [oM 118 10,
   oM 119 14,
   oJ 120 (.bin .add (.t 119) (.c (.p (.int .i64 1)))),
   oJ 121 (.mx (.t 118) (.t 120)),
   oM 10 121]))))))
 (.reg [oJ 122 (.bin .add (.t 101) (.c (.p (.int .i64 1)))),
   oM 101 122])))))))
 (.seq (.reg [oM 123 9,
   oM 124 10,
   oM 125 9,
   oJ 126 (.bin .leq (.t 125) (.c (.p (.int .i64 30)))),
   oM 4 123,
   oM 5 124,
   oM 6 126])
 (.ret)))))))⟩
theorem qk:af Tryz.prog cW=some F_impl_exprSize:=by kernel_rfl
def jF:FK:=⟨13,[.t 2],
 .seq (.reg [oJ 1 (.box 4 (.t 0)),
  oJ 2 (.mov (.c (.p (.bool false))))])
 (.seq (.reg [oJ 7 (.ld (some 4) (.t 1)),
   oJ 8 (.call cW [(.t 7),(.c (.p (.int .i64 6)))]),
   oM 6 8,
   oJ 9 (.ext 0 (.t 6)),
   oJ 10 (.ext 1 (.t 6)),
   oJ 11 (.ext 2 (.t 6)),
   oM 3 9,
   oM 4 10,
   oM 5 11])
 (.seq (.reg [oM 12 5,
   oM 2 12])
 (.ret)))⟩
theorem oU:af Tryz.prog dy=some jF:=by kernel_rfl
def F_impl_stmtOk:FK:=⟨91,[.t 4],
 .seq (.reg [oJ 2 (.box 5 (.t 0)),
  oJ 4 (.mov (.c (.p (.bool false))))])
 (.seq (.reg [oF 12 0 2,
   oL 13 12,
   oJ 14 (.call er [(.t 13)]),
   oM 11 14,
   oJ 15 (.ext 0 (.t 11)),
   oJ 16 (.ext 1 (.t 11)),
   oJ 17 (.ext 2 (.t 11)),
   oJ 18 (.ext 3 (.t 11)),
   oM 5 15,
   oM 6 16,
   oM 7 17,
   oM 8 18])
 (.seq (.blk 0 (.seq (.seq (.reg [oM 20 1,
   oJ 21 (.bin .gtr (.t 20) (.c (.p (.int .i64 4)))),
   oM 19 21])
 (.cond (.t 19)
  (.skip)
  (.seq (.reg [oF 22 2 2,
    oL 23 22,
    oJ 24 (.len false (.t 23)),
    oM 25 5,
    oJ 26 (.bin .neq (.t 24) (.t 25)),
    oM 19 26])
  (.cond (.t 19)
   (.skip)
   (.seq (.reg [oM 27 6,
     oM 28 27,
     ⟨(some 29),some (28,true),.fldA 1 (.t 2)⟩,
     ⟨(some 30),some (28,true),.ld none (.t 29)⟩,
     ⟨(some 31),some (28,true),.call bc [(.t 30)]⟩,
     ⟨(some 32),some (28,true),.not (.t 31)⟩,
     oJ 33 (.pick (.t 28) (.t 32) (.c (.p (.bool false)))),
     oM 19 33])
   (.cond (.t 19)
    (.skip)
    (.seq (.reg [oM 34 6,
      oJ 35 (.not (.t 34)),
      oM 36 35,
      ⟨(some 37),some (36,true),.fldA 1 (.t 2)⟩,
      ⟨(some 38),some (36,true),.ld none (.t 37)⟩,
      ⟨(some 39),some (36,true),.bins .neq (.t 38) (.c (.p (.str [])))⟩,
      oJ 40 (.pick (.t 36) (.t 39) (.c (.p (.bool false)))),
      oM 19 40])
    (.cond (.t 19)
     (.skip)
     (.seq (.reg [oM 41 7,
       oJ 42 (.not (.t 41)),
       oM 43 42,
       ⟨(some 44),some (43,true),.fldA 3 (.t 2)⟩,
       ⟨(some 45),some (43,true),.ld none (.t 44)⟩,
       ⟨(some 46),some (43,true),.len false (.t 45)⟩,
       ⟨(some 47),some (43,true),.bin .gtr (.t 46) (.c (.p (.int .i64 0)))⟩,
       oJ 48 (.pick (.t 43) (.t 47) (.c (.p (.bool false)))),
       oM 19 48])
     (.cond (.t 19)
      (.skip)
      (.seq (.reg [oM 49 8,
        oJ 50 (.not (.t 49)),
        oM 51 50,
        ⟨(some 52),some (51,true),.fldA 4 (.t 2)⟩,
        ⟨(some 53),some (51,true),.ld none (.t 52)⟩,
        ⟨(some 54),some (51,true),.len false (.t 53)⟩,
        ⟨(some 55),some (51,true),.bin .gtr (.t 54) (.c (.p (.int .i64 0)))⟩,
        oJ 56 (.pick (.t 51) (.t 55) (.c (.p (.bool false)))),
        oM 19 56])
      (.cond (.t 19)
       (.skip)
       (.reg [oF 57 0 2,
         oL 58 57,
         oJ 59 (.bin .eql (.t 58) (.c (.p (.int .i64 8)))),
         oM 60 59,
         ⟨(some 61),some (60,true),.fldA 2 (.t 2)⟩,
         ⟨(some 62),some (60,true),.ld none (.t 61)⟩,
         ⟨(some 63),some (60,true),.idxS 4 (.t 62) (.c (.p (.int .i64 0)))⟩,
         ⟨(some 64),some (60,true),.fldA 0 (.t 63)⟩,
         ⟨(some 65),some (60,true),.ld none (.t 64)⟩,
         ⟨(some 66),some (60,true),.bin .neq (.t 65) (.c (.p (.int .i64 13)))⟩,
         oJ 67 (.pick (.t 60) (.t 66) (.c (.p (.bool false)))),
         oM 19 67])))))))))))))
 (.cond (.t 19)
  (.seq (.reg [oJ 4 (.mov (.c (.p (.bool false))))])
  (.ret))
  (.skip))))
 (.seq (.seq (.reg [oF 68 2 2,
   oL 69 68,
   oJ 70 (.len false (.t 69)),
   oK 71 0])
 (.blk 1 (.loop (.seq (.reg [oJ 72 (.bin .lss (.t 71) (.t 70))])
 (.seq (.cond (.t 72)
  (.skip)
  (.exit 1))
 (.seq (.blk 2 (.seq (.reg [oJ 73 (.idxS 4 (.t 69) (.t 71)),
   oJ 74 (.ld (some 4) (.t 73)),
   oJ 10 (.alloc [(.p (.int .i64 0)),(.p (.int .i64 0)),(.p (.str [])),.nils]),
   ⟨none,none,.st 4 (.t 10) (.t 74)⟩])
 (.seq (.reg [oJ 75 (.ld (some 4) (.t 10)),
   oJ 76 (.call dy [(.t 75)]),
   oJ 77 (.not (.t 76))])
 (.cond (.t 77)
  (.seq (.reg [oJ 4 (.mov (.c (.p (.bool false))))])
  (.ret))
  (.skip)))))
 (.reg [oJ 78 (.bin .add (.t 71) (.c (.p (.int .i64 1)))),
   oM 71 78])))))))
 (.seq (.reg [oF 79 3 2,
   oL 80 79,
   oM 81 1,
   oJ 82 (.bin .add (.t 81) (.c (.p (.int .i64 1)))),
   oJ 83 (.call bY [(.t 80),(.t 82)]),
   oM 84 83,
   ⟨(some 85),some (84,true),.fldA 4 (.t 2)⟩,
   ⟨(some 86),some (84,true),.ld none (.t 85)⟩,
   ⟨(some 87),some (84,true),.mov (.t 1)⟩,
   ⟨(some 88),some (84,true),.bin .add (.t 87) (.c (.p (.int .i64 1)))⟩,
   ⟨(some 89),some (84,true),.call bY [(.t 86),(.t 88)]⟩,
   oJ 90 (.pick (.t 84) (.t 89) (.c (.p (.bool false)))),
   oM 4 90])
 (.ret)))))⟩
theorem mD:af Tryz.prog fV=some F_impl_stmtOk:=by kernel_rfl
def ji:FK:=⟨8,[.t 3],
 .seq (.reg [oJ 2 (.box 5 (.t 0)),
  oJ 3 (.mov (.c (.p (.bool false))))])
 (.seq (.reg [oJ 4 (.ld (some 5) (.t 2)),
   oL 5 1,
   oJ 6 (.call fV [(.t 4),(.t 5)]),
   oJ 7 (.not (.t 6)),
   oM 3 7])
 (.ret))⟩
theorem pi:af Tryz.prog bR=some ji:=by kernel_rfl
def kX:FK:=⟨9,[.t 4],
 .seq (.reg [oJ 3 (.box 1 (.t 1)),
  oJ 4 (.mov (.c (.p (.bool false))))])
 (.seq (.reg [oM 5 0,
   oJ 6 (.mkf (.func bR) [(.t 3)]),
   oJ 7 (.call bj [(.t 5),(.t 6)]),
   oJ 8 (.not (.t 7)),
   oM 4 8])
 (.ret))⟩
theorem sr:af Tryz.prog bY=some kX:=by kernel_rfl
def jS:FK:=⟨31,[],
 .seq (.reg [oM 8 0,
  oJ 9 (.len false (.t 8)),
  oK 10 0])
 (.blk 0 (.loop (.seq (.reg [oJ 11 (.bin .lss (.t 10) (.t 9))])
 (.seq (.cond (.t 11)
  (.skip)
  (.exit 0))
 (.seq (.blk 1 (.seq (.reg [oJ 12 (.idxS 5 (.t 8) (.t 10)),
   oJ 13 (.ld (some 5) (.t 12)),
   oJ 7 (.alloc [(.p (.int .i64 0)),(.p (.str [])),.nils,.nils,.nils]),
   ⟨none,none,.st 5 (.t 7) (.t 13)⟩])
 (.seq (.reg [oM 14 2,
   oJ 15 (.ld (some 5) (.t 7)),
   oM 16 1,
   oJ 17 (.callv (.t 14) [(.t 15),(.t 16)])])
 (.seq (.reg [oF 18 3 7,
   oL 19 18,
   oM 20 1,
   oJ 21 (.bin .add (.t 20) (.c (.p (.int .i64 1)))),
   oM 22 2,
   oJ 23 (.call cM [(.t 19),(.t 21),(.t 22)])])
 (.reg [oF 24 4 7,
   oL 25 24,
   oM 26 1,
   oJ 27 (.bin .add (.t 26) (.c (.p (.int .i64 1)))),
   oM 28 2,
   oJ 29 (.call cM [(.t 25),(.t 27),(.t 28)])])))))
 (.reg [oJ 30 (.bin .add (.t 10) (.c (.p (.int .i64 1)))),
   oM 10 30]))))))⟩
theorem nP:af Tryz.prog cM=some jS:=by kernel_rfl
def jA:FK:=⟨11,[],
 .seq (.reg [oJ 4 (.box 5 (.t 0))])
 (.seq (.reg [oL 6 2,
   oJ 7 (.bin .add (.t 6) (.c (.p (.int .i64 1)))),
   oS 2 7])
 (.reg [oL 8 3,
   oM 9 1,
   oJ 10 (.mx (.t 8) (.t 9)),
   oS 3 10]))⟩
theorem pj:af Tryz.prog dz=some jA:=by kernel_rfl
def kZ:FK:=⟨20,[.c 2 none,.c 3 none],
 .seq (.reg [oJ 1 (.box 1 (.t 0)),
  oJ 2 (.alloc [(.p (.int .i64 0))]),
  oJ 3 (.alloc [(.p (.int .i64 0))])])
 (.seq (.seq (.reg [oF 6 0 1,
   oL 7 6,
   oJ 8 (.len false (.t 7)),
   oK 9 0])
 (.blk 0 (.loop (.seq (.reg [oJ 10 (.bin .lss (.t 9) (.t 8))])
 (.seq (.cond (.t 10)
  (.skip)
  (.exit 0))
 (.seq (.blk 1 (.seq (.reg [oJ 11 (.idxS 3 (.t 7) (.t 9)),
   oJ 12 (.ld (some 3) (.t 11)),
   oJ 5 (.alloc [(.p (.str [])),.nils,.nils]),
   ⟨none,none,.st 3 (.t 5) (.t 12)⟩])
 (.reg [oF 13 2 5,
   oL 14 13,
   oJ 15 (.mkf (.func dz) [(.t 2),(.t 3)]),
   oJ 16 (.call cM [(.t 14),(.c (.p (.int .i64 1))),(.t 15)])])))
 (.reg [oJ 17 (.bin .add (.t 9) (.c (.p (.int .i64 1)))),
   oM 9 17])))))))
 (.seq (.reg [oL 18 2,
   oL 19 3,
   oS 2 18,
   ⟨none,none,.chk none 3 19⟩,
   oS 3 19])
 (.ret)))⟩
theorem rc:af Tryz.prog gI=some kZ:=by kernel_rfl
def fq:FK:=⟨6,[.t 2],
 .seq (.reg [oJ 2 (.mov (.c (.p (.bool false))))])
 (.seq (.reg [oM 3 0,
   oJ 4 (.call bc [(.t 3)]),
   oJ 5 (.not (.t 4)),
   oM 2 5])
 (.ret))⟩
theorem ku:af Tryz.prog aU=some fq:=by kernel_rfl
def gw:FK:=⟨48,[.t 2],
 .seq (.reg [oJ 1 (.box 1 (.t 0)),
  oJ 2 (.mov (.c (.p (.bool false))))])
 (.seq (.seq (.reg [oF 7 0 1,
   oL 8 7,
   oJ 9 (.len false (.t 8)),
   oJ 10 (.call bQ [(.t 9),(.c (.p (.int .i64 1))),(.c (.p (.int .i64 4)))]),
   oJ 11 (.not (.t 10))])
 (.cond (.t 11)
  (.seq (.reg [oJ 2 (.mov (.c (.p (.bool false))))])
  (.ret))
  (.skip)))
 (.seq (.seq (.reg [oF 12 0 1,
   oL 13 12,
   oJ 14 (.len false (.t 13)),
   oK 15 0])
 (.blk 0 (.loop (.seq (.reg [oJ 16 (.bin .lss (.t 15) (.t 14))])
 (.seq (.cond (.t 16)
  (.skip)
  (.exit 0))
 (.seq (.blk 1 (.seq (.reg [oJ 17 (.idxS 3 (.t 13) (.t 15)),
   oJ 18 (.ld (some 3) (.t 17)),
   oJ 4 (.alloc [(.p (.str [])),.nils,.nils]),
   ⟨none,none,.st 3 (.t 4) (.t 18)⟩])
 (.seq (.reg [oF 19 0 4,
   oL 20 19,
   oJ 21 (.call bc [(.t 20)]),
   oJ 22 (.not (.t 21)),
   oM 23 22,
   ⟨(some 24),some (23,false),.fldA 1 (.t 4)⟩,
   ⟨(some 25),some (23,false),.ld none (.t 24)⟩,
   ⟨(some 26),some (23,false),.len false (.t 25)⟩,
   ⟨(some 27),some (23,false),.bin .gtr (.t 26) (.c (.p (.int .i64 3)))⟩,
   oJ 28 (.pick (.t 23) (.c (.p (.bool true))) (.t 27)),
   oM 29 28,
   ⟨(some 30),some (29,false),.fldA 1 (.t 4)⟩,
   ⟨(some 31),some (29,false),.ld none (.t 30)⟩,
   ⟨(some 32),some (29,false),.call bF [(.t 31),(.c (.fn (.func aU) []))]⟩,
   oJ 33 (.pick (.t 29) (.c (.p (.bool true))) (.t 32)),
   oM 34 33,
   ⟨(some 35),some (34,false),.fldA 2 (.t 4)⟩,
   ⟨(some 36),some (34,false),.ld none (.t 35)⟩,
   ⟨(some 37),some (34,false),.call bY [(.t 36),(.c (.p (.int .i64 1)))]⟩,
   ⟨(some 38),some (34,false),.not (.t 37)⟩,
   oJ 39 (.pick (.t 34) (.c (.p (.bool true))) (.t 38))])
 (.cond (.t 39)
  (.seq (.reg [oJ 2 (.mov (.c (.p (.bool false))))])
  (.ret))
  (.skip)))))
 (.reg [oJ 40 (.bin .add (.t 15) (.c (.p (.int .i64 1)))),
   oM 15 40])))))))
 (.seq (.reg [oJ 42 (.ld (some 1) (.t 1)),
   oJ 43 (.call gI [(.t 42)]),
   oM 41 43,
   oJ 44 (.ext 0 (.t 41)),
   oJ 45 (.ext 1 (.t 41)),
   oM 5 44,
   oM 6 45])
 (.seq (.reg [oM 46 5,
   oJ 47 (.bin .leq (.t 46) (.c (.p (.int .i64 40)))),
   oM 2 47])
 (.ret)))))⟩
theorem lW:af Tryz.prog cx=some gw:=by kernel_rfl
def dk:FK:=⟨19,[.t 4],
 .seq (.reg [oK 4 0])
 (.seq (.seq (.reg [oM 6 0,
   oJ 7 (.len false (.t 6)),
   oK 8 0])
 (.blk 0 (.loop (.seq (.reg [oJ 9 (.bin .lss (.t 8) (.t 7))])
 (.seq (.cond (.t 9)
  (.skip)
  (.exit 0))
 (.seq (.blk 1 (.seq (.reg [oM 10 8,
   oM 5 10])
 (.seq (.reg [oM 11 1,
   oM 12 0,
   oM 13 5,
   oJ 14 (.idxS 3 (.t 12) (.t 13)),
   oJ 15 (.ld (some 3) (.t 14)),
   oJ 16 (.callv (.t 11) [(.t 15)])])
 (.cond (.t 16)
  (.seq (.reg [oM 17 5,
    oM 4 17])
  (.ret))
  (.skip)))))
 (.reg [oJ 18 (.bin .add (.t 8) (.c (.p (.int .i64 1)))),
   oM 8 18])))))))
 (.seq (.reg [oJ 4 (.mov (.c (.p (.int .i64 (-1)))))])
 (.ret)))⟩
theorem iu:af Tryz.prog bZ=some dk:=by kernel_rfl
def mu:FK:=⟨8,[.t 3],
 .seq (.reg [oJ 2 (.box 3 (.t 0)),
  oJ 3 (.mov (.c (.p (.bool false))))])
 (.seq (.reg [oF 4 0 2,
   oL 5 4,
   oL 6 1,
   oJ 7 (.bins .eql (.t 5) (.t 6)),
   oM 3 7])
 (.ret))⟩
theorem sO:af Tryz.prog dS=some mu:=by kernel_rfl
def pP:FK:=⟨9,[.t 4],
 .seq (.reg [oJ 2 (.box 1 (.t 0)),
  oJ 3 (.box 1 (.t 1)),
  oK 4 0])
 (.seq (.reg [oF 5 0 2,
   oL 6 5,
   oJ 7 (.mkf (.func dS) [(.t 3)]),
   oJ 8 (.call bZ [(.t 6),(.t 7)]),
   oM 4 8])
 (.ret))⟩
theorem ww:af Tryz.prog eF=some pP:=by kernel_rfl
def dJ:FK:=⟨13,[],
 .seq (.reg [oM 4 0,
  oN 5 4,
  oF 6 2 5,
  oL 7 6,
  oJ 8 (.bin .eql (.t 7) (.c (.p (.int .i64 0))))])
 (.cond (.t 8)
  (.reg [oM 9 0,
    oM 10 1,
    oN 11 9,
    oF 12 2 11,
    oS 12 10])
  (.skip))⟩
theorem lY:af Tryz.prog an=some dJ:=by kernel_rfl
def ff:FK:=⟨7,[.t 2],
 .seq (.reg [oJ 2 (.mov (.c .nilp))])
 (.seq (.reg [oJ 3 (.mkm),
   oM 4 0,
   oJ 5 (.bld [.nilm,.nilp] [(0,1,(.t 3)),(1,1,(.t 4))]),
   oJ 6 (.box 2 (.t 5)),
   oM 2 6])
 (.ret))⟩
theorem ox:af Tryz.prog aT=some ff:=by kernel_rfl
def jJ:FK:=⟨20,[],
 .seq (.reg [oJ 2 (.box 4 (.t 0))])
 (.seq (.reg [oM 6 1,
   oJ 7 (.ld (some 4) (.t 2)),
   oJ 8 (.callv (.t 6) [(.t 7)])])
 (.seq (.reg [oF 9 3 2,
   oL 10 9,
   oJ 11 (.len false (.t 10)),
   oK 12 0])
 (.blk 0 (.loop (.seq (.reg [oJ 13 (.bin .lss (.t 12) (.t 11))])
 (.seq (.cond (.t 13)
  (.skip)
  (.exit 0))
 (.seq (.blk 1 (.seq (.reg [oJ 14 (.idxS 4 (.t 10) (.t 12)),
   oJ 15 (.ld (some 4) (.t 14)),
   oJ 5 (.alloc [(.p (.int .i64 0)),(.p (.int .i64 0)),(.p (.str [])),.nils]),
   ⟨none,none,.st 4 (.t 5) (.t 15)⟩])
 (.reg [oJ 16 (.ld (some 4) (.t 5)),
   oM 17 1,
   oJ 18 (.call dw [(.t 16),(.t 17)])])))
 (.reg [oJ 19 (.bin .add (.t 12) (.c (.p (.int .i64 1)))),
   oM 12 19]))))))))⟩
theorem nQ:af Tryz.prog dw=some jJ:=by kernel_rfl
def iL:FK:=⟨25,[.t 4,.t 5],
 .seq (.reg [oK 4 0,
  oJ 5 (.mov (.c (.p (.bool false))))])
 (.seq (.blk 0 (.loop (.seq (.seq (.reg [oM 8 0,
   oJ 9 (.pnil 0 true (.t 8))])
 (.cond (.t 9)
  (.skip)
  (.exit 0)))
 (.seq (.blk 1 (.seq (.reg [oM 15 0,
   oN 16 15,
   oF 17 0 16,
   oL 18 17,
   oM 19 1,
   oJ 20 (.lk 1 (.p (.int .i64 0)) true (.t 18) (.t 19)),
   oM 14 20,
   oJ 21 (.ext 0 (.t 14)),
   oJ 22 (.ext 1 (.t 14)),
   oM 6 21,
   oM 7 22])
 (.seq (.reg [oM 23 7])
 (.cond (.t 23)
  (.seq (.reg [oM 24 6,
    oM 4 24,
    oJ 5 (.mov (.c (.p (.bool true))))])
  (.ret))
  (.skip)))))
 (.reg [oM 10 0,
   oN 11 10,
   oF 12 1 11,
   oL 13 12,
   oM 0 13])))))
 (.seq (.reg [oK 4 0,
   oJ 5 (.mov (.c (.p (.bool false))))])
 (.ret)))⟩
theorem oh:af Tryz.prog be=some iL:=by kernel_rfl
def fu:FK:=⟨58,[],
 .seq (.reg [oJ 3 (.box 4 (.t 0))])
 (.seq (.reg [oF 7 0 3,
   oL 8 7])
 (.blk 0 (.seq (.reg [oJ 10 (.bin .eql (.t 8) (.c (.p (.int .i64 2)))),
   oM 9 10])
 (.cond (.t 9)
  (.seq (.reg [oL 12 1,
    oF 13 2 3,
    oL 14 13,
    oJ 15 (.call be [(.t 12),(.t 14)]),
    oM 11 15,
    oJ 16 (.ext 0 (.t 11)),
    oJ 17 (.ext 1 (.t 11)),
    oM 4 16,
    oM 5 17])
  (.seq (.reg [oM 18 5,
    oJ 19 (.not (.t 18))])
  (.cond (.t 19)
   (.reg [oL 20 2,
     oJ 21 (.call an [(.t 20),(.c (.p (.int .i64 3)))])])
   (.skip))))
  (.seq (.reg [oJ 23 (.bin .eql (.t 8) (.c (.p (.int .i64 13)))),
    oM 22 23])
  (.cond (.t 22)
   (.seq (.reg [oF 35 2 3,
     oL 24 2,
     oN 25 24,
     oF 26 0 25,
     oF 27 0 26,
     oL 28 27,
     oL 29 2,
     oN 30 29,
     oF 31 1 30,
     oL 32 31,
     oJ 33 (.slS 3 (.t 28) none (some (.t 32))),
     oJ 34 (.bld [.nils] [(0,1,(.t 33))]),
     oL 36 35,
     oJ 37 (.call eF [(.t 34),(.t 36)]),
     oM 6 37])
   (.seq (.reg [oM 38 6,
     oJ 39 (.bin .lss (.t 38) (.c (.p (.int .i64 0))))])
   (.cond (.t 39)
    (.reg [oL 40 2,
      oJ 41 (.call an [(.t 40),(.c (.p (.int .i64 4)))])])
    (.seq (.reg [oM 47 6,
      oF 52 3 3,
      oL 42 2,
      oN 43 42,
      oF 44 0 43,
      oF 45 0 44,
      oL 46 45,
      oJ 48 (.idxS 3 (.t 46) (.t 47)),
      oF 49 1 48,
      oL 50 49,
      oJ 51 (.len false (.t 50)),
      oL 53 52,
      oJ 54 (.len false (.t 53)),
      oJ 55 (.bin .neq (.t 51) (.t 54))])
    (.cond (.t 55)
     (.reg [oL 56 2,
       oJ 57 (.call an [(.t 56),(.c (.p (.int .i64 5)))])])
     (.skip))))))
   (.skip)))))))⟩
theorem kw:af Tryz.prog bk=some fu:=by kernel_rfl
def dM:FK:=⟨9,[],
 .seq (.reg [oJ 3 (.box 1 (.t 0)),
  oJ 4 (.box 4 (.t 1)),
  oJ 5 (.box 1 (.t 2))])
 (.reg [oJ 6 (.ld (some 4) (.t 4)),
   oJ 7 (.mkf (.func bk) [(.t 5),(.t 3)]),
   oJ 8 (.call dw [(.t 6),(.t 7)])])⟩
theorem mf:af Tryz.prog bM=some dM:=by kernel_rfl
def F_impl_checker_block:FK:=⟨89,[],
 .seq (.reg [oM 14 1,
  oJ 15 (.len false (.t 14)),
  oK 16 0])
 (.blk 0 (.loop (.seq (.reg [oJ 17 (.bin .lss (.t 16) (.t 15))])
 (.seq (.cond (.t 17)
  (.skip)
  (.exit 0))
 (.seq (.blk 1 (.seq (.reg [oJ 18 (.idxS 5 (.t 14) (.t 16)),
   oJ 19 (.ld (some 5) (.t 18)),
   oJ 7 (.alloc [(.p (.int .i64 0)),(.p (.str [])),.nils,.nils,.nils]),
   ⟨none,none,.st 5 (.t 7) (.t 19)⟩])
 (.seq (.seq (.reg [oF 20 2 7,
   oL 21 20,
   oJ 22 (.len false (.t 21)),
   oK 23 0])
 (.blk 2 (.loop (.seq (.reg [oJ 24 (.bin .lss (.t 23) (.t 22))])
 (.seq (.cond (.t 24)
  (.skip)
  (.exit 2))
 (.seq (.blk 3 (.seq (.reg [oJ 25 (.idxS 4 (.t 21) (.t 23)),
   oJ 26 (.ld (some 4) (.t 25)),
   oJ 9 (.alloc [(.p (.int .i64 0)),(.p (.int .i64 0)),(.p (.str [])),.nils]),
   ⟨none,none,.st 4 (.t 9) (.t 26)⟩])
 (.reg [oM 27 0,
   oJ 28 (.ld (some 4) (.t 9)),
   oM 29 2,
   oJ 30 (.call bM [(.t 27),(.t 28),(.t 29)])])))
 (.reg [oJ 31 (.bin .add (.t 23) (.c (.p (.int .i64 1)))),
   oM 23 31])))))))
 (.seq (.seq (.reg [oF 32 0 7,
   oL 33 32])
 (.blk 4 (.seq (.reg [oJ 35 (.bin .eql (.t 33) (.c (.p (.int .i64 1)))),
   oM 34 35])
 (.cond (.t 34)
  (.seq (.seq (.reg [oM 37 2,
    oN 38 37,
    oF 39 0 38,
    oF 41 1 7,
    oL 40 39,
    oL 42 41,
    oJ 43 (.lk 1 (.p (.int .i64 0)) true (.t 40) (.t 42)),
    oM 36 43,
    oJ 44 (.ext 0 (.t 36)),
    oJ 45 (.ext 1 (.t 36)),
    oM 10 44,
    oM 11 45])
  (.seq (.reg [oM 46 11])
  (.cond (.t 46)
   (.reg [oM 47 0,
     oJ 48 (.call an [(.t 47),(.c (.p (.int .i64 2)))])])
   (.skip))))
  (.reg [oM 49 2,
    oN 50 49,
    oF 51 0 50,
    oF 53 1 7,
    oL 52 51,
    oL 54 53,
    ⟨none,none,.mup 1 (.t 52) (.t 54) (.c (.p (.int .i64 0)))⟩]))
  (.seq (.reg [oJ 56 (.bin .eql (.t 33) (.c (.p (.int .i64 2)))),
    oM 55 56])
  (.cond (.t 55)
   (.seq (.reg [oM 58 2,
     oF 59 1 7,
     oL 60 59,
     oJ 61 (.call be [(.t 58),(.t 60)]),
     oM 57 61,
     oJ 62 (.ext 0 (.t 57)),
     oJ 63 (.ext 1 (.t 57)),
     oM 12 62,
     oM 13 63])
   (.seq (.reg [oM 64 13,
     oJ 65 (.not (.t 64))])
   (.cond (.t 65)
    (.reg [oM 66 0,
      oJ 67 (.call an [(.t 66),(.c (.p (.int .i64 3)))])])
    (.skip))))
   (.skip)))))))
 (.seq (.reg [oF 68 0 7,
   oL 69 68,
   oJ 70 (.bin .eql (.t 69) (.c (.p (.int .i64 5)))),
   oM 71 70,
   ⟨(some 72),some (71,false),.fldA 0 (.t 7)⟩,
   ⟨(some 73),some (71,false),.ld none (.t 72)⟩,
   ⟨(some 74),some (71,false),.bin .eql (.t 73) (.c (.p (.int .i64 6)))⟩,
   oJ 75 (.pick (.t 71) (.c (.p (.bool true))) (.t 74))])
 (.cond (.t 75)
  (.seq (.reg [oM 76 0,
    oF 77 3 7,
    oM 79 2,
    oL 78 77,
    oJ 80 (.call aT [(.t 79)]),
    ⟨none,none,.chk none 77 78⟩,
    oJ 81 (.call aF [(.t 76),(.t 78),(.t 80)])])
  (.reg [oM 82 0,
    oF 83 4 7,
    oM 85 2,
    oL 84 83,
    oJ 86 (.call aT [(.t 85)]),
    ⟨none,none,.chk none 83 84⟩,
    oJ 87 (.call aF [(.t 82),(.t 84),(.t 86)])]))
  (.skip)))))))
 (.reg [oJ 88 (.bin .add (.t 16) (.c (.p (.int .i64 1)))),
   oM 16 88]))))))⟩
theorem lq:af Tryz.prog aF=some F_impl_checker_block:=by kernel_rfl
def F_impl_CheckProgram:FK:=⟨73,[.t 2],
 .seq (.reg [oJ 1 (.box 1 (.t 0)),
  oK 2 0])
 (.seq (.seq (.reg [oJ 11 (.ld (some 1) (.t 1)),
   oJ 12 (.call cx [(.t 11)]),
   oJ 13 (.not (.t 12))])
 (.cond (.t 13)
  (.seq (.reg [oK 2 1])
  (.ret))
  (.skip)))
 (.seq (.reg [oJ 14 (.ld (some 1) (.t 1)),
   oJ 15 (.bld [.nils,(.p (.int .i64 0)),(.p (.int .i64 0))] [(0,1,(.t 14))]),
   oJ 16 (.box 3 (.t 15)),
   oM 3 16])
 (.seq (.seq (.reg [oF 17 0 1,
   oL 18 17,
   oJ 19 (.len false (.t 18)),
   oK 20 0])
 (.blk 0 (.loop (.seq (.reg [oJ 21 (.bin .lss (.t 20) (.t 19))])
 (.seq (.cond (.t 21)
  (.skip)
  (.exit 0))
 (.seq (.blk 1 (.seq (.reg [oM 22 20,
   oJ 23 (.idxS 3 (.t 18) (.t 20)),
   oJ 24 (.ld (some 3) (.t 23)),
   oJ 5 (.alloc [(.p (.str [])),.nils,.nils]),
   oM 4 22,
   ⟨none,none,.st 3 (.t 5) (.t 24)⟩])
 (.seq (.reg [oM 25 3,
   oM 26 4,
   oN 27 25,
   oF 28 1 27,
   oS 28 26])
 (.seq (.seq (.reg [oJ 29 (.ld (some 1) (.t 1)),
   oF 30 0 5,
   oL 31 30,
   oJ 32 (.call eF [(.t 29),(.t 31)]),
   oM 33 4,
   oJ 34 (.bin .lss (.t 32) (.t 33))])
 (.cond (.t 34)
  (.reg [oM 35 3,
    oJ 36 (.call an [(.t 35),(.c (.p (.int .i64 2)))])])
  (.skip)))
 (.seq (.reg [oJ 37 (.call aT [(.c .nilp)]),
   oM 6 37])
 (.seq (.seq (.reg [oF 38 1 5,
   oL 39 38,
   oJ 40 (.len false (.t 39)),
   oK 41 0])
 (.blk 2 (.loop (.seq (.reg [oJ 42 (.bin .lss (.t 41) (.t 40))])
 (.seq (.cond (.t 42)
  (.skip)
  (.exit 2))
 (.seq (.blk 3 (.seq (.reg [oJ 43 (.idxS 1 (.t 39) (.t 41)),
   oL 44 43,
   oM 8 44])
 (.seq (.seq (.reg [oM 46 6,
   oN 47 46,
   oF 48 0 47,
   oL 49 48,
   oM 50 8,
   oJ 51 (.lk 1 (.p (.int .i64 0)) true (.t 49) (.t 50)),
   oM 45 51,
   oJ 52 (.ext 0 (.t 45)),
   oJ 53 (.ext 1 (.t 45)),
   oM 9 52,
   oM 10 53])
 (.seq (.reg [oM 54 10])
 (.cond (.t 54)
  (.reg [oM 55 3,
    oJ 56 (.call an [(.t 55),(.c (.p (.int .i64 2)))])])
  (.skip))))
 (.reg [oM 57 6,
   oN 58 57,
   oF 59 0 58,
   oL 60 59,
   oM 61 8,
   ⟨none,none,.mup 1 (.t 60) (.t 61) (.c (.p (.int .i64 0)))⟩]))))
 (.reg [oJ 62 (.bin .add (.t 41) (.c (.p (.int .i64 1)))),
   oM 41 62])))))))
 (.reg [oM 63 3,
   oF 64 2 5,
   oL 65 64,
   oM 66 6,
   oJ 67 (.call aF [(.t 63),(.t 65),(.t 66)])])))))))
 (.reg [oJ 68 (.bin .add (.t 20) (.c (.p (.int .i64 1)))),
   oM 20 68])))))))
 (.seq (.reg [oM 69 3,
   oN 70 69,
   oF 71 2 70,
   oL 72 71,
   oM 2 72])
 (.ret)))))⟩
theorem mc:af Tryz.prog dK=some F_impl_CheckProgram:=by kernel_rfl
def pE:FK:=⟨6,[.t 2],
 .seq (.reg [oJ 1 (.box 1 (.t 0)),
  oJ 2 (.mov (.c (.p (.bool false))))])
 (.seq (.reg [oJ 3 (.ld (some 1) (.t 1)),
   oJ 4 (.call dK [(.t 3)]),
   oJ 5 (.bin .eql (.t 4) (.c (.p (.int .i64 0)))),
   oM 2 5])
 (.ret))⟩
theorem vw:af Tryz.prog lz=some pE:=by kernel_rfl
def jx:FK:=⟨26,[.t 4],
 .seq (.reg [oJ 4 (.mov (.c (.p (.bool false))))])
 (.seq (.seq (.reg [oM 6 0,
   oJ 7 (.len false (.t 6)),
   oM 8 1,
   oJ 9 (.len false (.t 8)),
   oJ 10 (.bin .neq (.t 7) (.t 9))])
 (.cond (.t 10)
  (.seq (.reg [oJ 4 (.mov (.c (.p (.bool false))))])
  (.ret))
  (.skip)))
 (.seq (.seq (.reg [oK 5 0])
 (.blk 0 (.loop (.seq (.seq (.reg [oM 11 5,
   oM 12 0,
   oJ 13 (.len false (.t 12)),
   oJ 14 (.bin .lss (.t 11) (.t 13))])
 (.cond (.t 14)
  (.skip)
  (.exit 0)))
 (.seq (.blk 1 (.seq (.reg [oM 17 0,
   oM 18 5,
   oJ 19 (.idxS 1 (.t 17) (.t 18)),
   oM 21 1,
   oM 22 5,
   oJ 23 (.idxS 1 (.t 21) (.t 22)),
   oL 20 19,
   oL 24 23,
   oJ 25 (.bins .neq (.t 20) (.t 24))])
 (.cond (.t 25)
  (.seq (.reg [oJ 4 (.mov (.c (.p (.bool false))))])
  (.ret))
  (.skip))))
 (.reg [oM 15 5,
   oJ 16 (.bin .add (.t 15) (.c (.p (.int .i64 1)))),
   oM 5 16]))))))
 (.seq (.reg [oJ 4 (.mov (.c (.p (.bool true))))])
 (.ret))))⟩
theorem pr:af Tryz.prog fA=some jx:=by kernel_rfl
def mF:FK:=⟨26,[.t 4],
 .seq (.reg [oJ 2 (.box 4 (.t 0)),
  oJ 3 (.box 4 (.t 1)),
  oJ 4 (.mov (.c (.p (.bool false))))])
 (.seq (.seq (.reg [oF 5 0 2,
   oL 6 5,
   oF 7 0 3,
   oL 8 7,
   oJ 9 (.bin .neq (.t 6) (.t 8))])
 (.cond (.t 9)
  (.seq (.reg [oJ 4 (.mov (.c (.p (.bool false))))])
  (.ret))
  (.skip)))
 (.seq (.seq (.reg [oF 10 1 2,
   oL 11 10,
   oF 12 1 3,
   oL 13 12,
   oJ 14 (.bin .neq (.t 11) (.t 13))])
 (.cond (.t 14)
  (.seq (.reg [oJ 4 (.mov (.c (.p (.bool false))))])
  (.ret))
  (.skip)))
 (.seq (.seq (.reg [oF 15 2 2,
   oL 16 15,
   oF 17 2 3,
   oL 18 17,
   oJ 19 (.bins .neq (.t 16) (.t 18))])
 (.cond (.t 19)
  (.seq (.reg [oJ 4 (.mov (.c (.p (.bool false))))])
  (.ret))
  (.skip)))
 (.seq (.seq (.reg [oF 20 3 2,
   oL 21 20,
   oF 22 3 3,
   oL 23 22,
   oJ 24 (.call dj [(.t 21),(.t 23)]),
   oJ 25 (.not (.t 24))])
 (.cond (.t 25)
  (.seq (.reg [oJ 4 (.mov (.c (.p (.bool false))))])
  (.ret))
  (.skip)))
 (.seq (.reg [oJ 4 (.mov (.c (.p (.bool true))))])
 (.ret))))))⟩
theorem sX:af Tryz.prog fX=some mF:=by kernel_rfl
def lg:FK:=⟨27,[.t 4],
 .seq (.reg [oJ 4 (.mov (.c (.p (.bool false))))])
 (.seq (.seq (.reg [oM 6 0,
   oJ 7 (.len false (.t 6)),
   oM 8 1,
   oJ 9 (.len false (.t 8)),
   oJ 10 (.bin .neq (.t 7) (.t 9))])
 (.cond (.t 10)
  (.seq (.reg [oJ 4 (.mov (.c (.p (.bool false))))])
  (.ret))
  (.skip)))
 (.seq (.seq (.reg [oK 5 0])
 (.blk 0 (.loop (.seq (.seq (.reg [oM 11 5,
   oM 12 0,
   oJ 13 (.len false (.t 12)),
   oJ 14 (.bin .lss (.t 11) (.t 13))])
 (.cond (.t 14)
  (.skip)
  (.exit 0)))
 (.seq (.blk 1 (.seq (.reg [oM 17 0,
   oM 18 5,
   oJ 19 (.idxS 4 (.t 17) (.t 18)),
   oM 21 1,
   oM 22 5,
   oJ 23 (.idxS 4 (.t 21) (.t 22)),
   oJ 20 (.ld (some 4) (.t 19)),
   oJ 24 (.ld (some 4) (.t 23)),
   oJ 25 (.call fX [(.t 20),(.t 24)]),
   oJ 26 (.not (.t 25))])
 (.cond (.t 26)
  (.seq (.reg [oJ 4 (.mov (.c (.p (.bool false))))])
  (.ret))
  (.skip))))
 (.reg [oM 15 5,
   oJ 16 (.bin .add (.t 15) (.c (.p (.int .i64 1)))),
   oM 5 16]))))))
 (.seq (.reg [oJ 4 (.mov (.c (.p (.bool true))))])
 (.ret))))⟩
theorem rV:af Tryz.prog dj=some lg:=by kernel_rfl
def mm:FK:=⟨33,[.t 4],
 .seq (.reg [oJ 2 (.box 5 (.t 0)),
  oJ 3 (.box 5 (.t 1)),
  oJ 4 (.mov (.c (.p (.bool false))))])
 (.seq (.seq (.reg [oF 5 0 2,
   oL 6 5,
   oF 7 0 3,
   oL 8 7,
   oJ 9 (.bin .neq (.t 6) (.t 8))])
 (.cond (.t 9)
  (.seq (.reg [oJ 4 (.mov (.c (.p (.bool false))))])
  (.ret))
  (.skip)))
 (.seq (.seq (.reg [oF 10 1 2,
   oL 11 10,
   oF 12 1 3,
   oL 13 12,
   oJ 14 (.bins .neq (.t 11) (.t 13))])
 (.cond (.t 14)
  (.seq (.reg [oJ 4 (.mov (.c (.p (.bool false))))])
  (.ret))
  (.skip)))
 (.seq (.seq (.reg [oF 15 2 2,
   oL 16 15,
   oF 17 2 3,
   oL 18 17,
   oJ 19 (.call dj [(.t 16),(.t 18)]),
   oJ 20 (.not (.t 19))])
 (.cond (.t 20)
  (.seq (.reg [oJ 4 (.mov (.c (.p (.bool false))))])
  (.ret))
  (.skip)))
 (.seq (.seq (.reg [oF 21 3 2,
   oL 22 21,
   oF 23 3 3,
   oL 24 23,
   oJ 25 (.call cy [(.t 22),(.t 24)]),
   oJ 26 (.not (.t 25))])
 (.cond (.t 26)
  (.seq (.reg [oJ 4 (.mov (.c (.p (.bool false))))])
  (.ret))
  (.skip)))
 (.seq (.seq (.reg [oF 27 4 2,
   oL 28 27,
   oF 29 4 3,
   oL 30 29,
   oJ 31 (.call cy [(.t 28),(.t 30)]),
   oJ 32 (.not (.t 31))])
 (.cond (.t 32)
  (.seq (.reg [oJ 4 (.mov (.c (.p (.bool false))))])
  (.ret))
  (.skip)))
 (.seq (.reg [oJ 4 (.mov (.c (.p (.bool true))))])
 (.ret)))))))⟩
theorem te:af Tryz.prog fP=some mm:=by kernel_rfl
def lp:FK:=⟨27,[.t 4],
 .seq (.reg [oJ 4 (.mov (.c (.p (.bool false))))])
 (.seq (.seq (.reg [oM 6 0,
   oJ 7 (.len false (.t 6)),
   oM 8 1,
   oJ 9 (.len false (.t 8)),
   oJ 10 (.bin .neq (.t 7) (.t 9))])
 (.cond (.t 10)
  (.seq (.reg [oJ 4 (.mov (.c (.p (.bool false))))])
  (.ret))
  (.skip)))
 (.seq (.seq (.reg [oK 5 0])
 (.blk 0 (.loop (.seq (.seq (.reg [oM 11 5,
   oM 12 0,
   oJ 13 (.len false (.t 12)),
   oJ 14 (.bin .lss (.t 11) (.t 13))])
 (.cond (.t 14)
  (.skip)
  (.exit 0)))
 (.seq (.blk 1 (.seq (.reg [oM 17 0,
   oM 18 5,
   oJ 19 (.idxS 5 (.t 17) (.t 18)),
   oM 21 1,
   oM 22 5,
   oJ 23 (.idxS 5 (.t 21) (.t 22)),
   oJ 20 (.ld (some 5) (.t 19)),
   oJ 24 (.ld (some 5) (.t 23)),
   oJ 25 (.call fP [(.t 20),(.t 24)]),
   oJ 26 (.not (.t 25))])
 (.cond (.t 26)
  (.seq (.reg [oJ 4 (.mov (.c (.p (.bool false))))])
  (.ret))
  (.skip))))
 (.reg [oM 15 5,
   oJ 16 (.bin .add (.t 15) (.c (.p (.int .i64 1)))),
   oM 5 16]))))))
 (.seq (.reg [oJ 4 (.mov (.c (.p (.bool true))))])
 (.ret))))⟩
theorem qI:af Tryz.prog cy=some lp:=by kernel_rfl
def pQ:FK:=⟨22,[.t 4],
 .seq (.reg [oJ 2 (.box 3 (.t 0)),
  oJ 3 (.box 3 (.t 1)),
  oJ 4 (.mov (.c (.p (.bool false))))])
 (.seq (.seq (.reg [oF 5 0 2,
   oL 6 5,
   oF 7 0 3,
   oL 8 7,
   oJ 9 (.bins .neq (.t 6) (.t 8))])
 (.cond (.t 9)
  (.seq (.reg [oJ 4 (.mov (.c (.p (.bool false))))])
  (.ret))
  (.skip)))
 (.seq (.seq (.reg [oF 10 1 2,
   oL 11 10,
   oF 12 1 3,
   oL 13 12,
   oJ 14 (.call fA [(.t 11),(.t 13)]),
   oJ 15 (.not (.t 14))])
 (.cond (.t 15)
  (.seq (.reg [oJ 4 (.mov (.c (.p (.bool false))))])
  (.ret))
  (.skip)))
 (.seq (.seq (.reg [oF 16 2 2,
   oL 17 16,
   oF 18 2 3,
   oL 19 18,
   oJ 20 (.call cy [(.t 17),(.t 19)]),
   oJ 21 (.not (.t 20))])
 (.cond (.t 21)
  (.seq (.reg [oJ 4 (.mov (.c (.p (.bool false))))])
  (.ret))
  (.skip)))
 (.seq (.reg [oJ 4 (.mov (.c (.p (.bool true))))])
 (.ret)))))⟩
theorem wL:af Tryz.prog iB=some pQ:=by kernel_rfl
def og:FK:=⟨27,[.t 4],
 .seq (.reg [oJ 4 (.mov (.c (.p (.bool false))))])
 (.seq (.seq (.reg [oM 6 0,
   oJ 7 (.len false (.t 6)),
   oM 8 1,
   oJ 9 (.len false (.t 8)),
   oJ 10 (.bin .neq (.t 7) (.t 9))])
 (.cond (.t 10)
  (.seq (.reg [oJ 4 (.mov (.c (.p (.bool false))))])
  (.ret))
  (.skip)))
 (.seq (.seq (.reg [oK 5 0])
 (.blk 0 (.loop (.seq (.seq (.reg [oM 11 5,
   oM 12 0,
   oJ 13 (.len false (.t 12)),
   oJ 14 (.bin .lss (.t 11) (.t 13))])
 (.cond (.t 14)
  (.skip)
  (.exit 0)))
 (.seq (.blk 1 (.seq (.reg [oM 17 0,
   oM 18 5,
   oJ 19 (.idxS 3 (.t 17) (.t 18)),
   oM 21 1,
   oM 22 5,
   oJ 23 (.idxS 3 (.t 21) (.t 22)),
   oJ 20 (.ld (some 3) (.t 19)),
   oJ 24 (.ld (some 3) (.t 23)),
   oJ 25 (.call iB [(.t 20),(.t 24)]),
   oJ 26 (.not (.t 25))])
 (.cond (.t 26)
  (.seq (.reg [oJ 4 (.mov (.c (.p (.bool false))))])
  (.ret))
  (.skip))))
 (.reg [oM 15 5,
   oJ 16 (.bin .add (.t 15) (.c (.p (.int .i64 1)))),
   oM 5 16]))))))
 (.seq (.reg [oJ 4 (.mov (.c (.p (.bool true))))])
 (.ret))))⟩
theorem uk:af Tryz.prog jO=some og:=by kernel_rfl
def jq:FK:=⟨11,[.t 4],
 .seq (.reg [oJ 2 (.box 1 (.t 0)),
  oJ 3 (.box 1 (.t 1)),
  oJ 4 (.mov (.c (.p (.bool false))))])
 (.seq (.seq (.reg [oF 5 0 2,
   oL 6 5,
   oF 7 0 3,
   oL 8 7,
   oJ 9 (.call jO [(.t 6),(.t 8)]),
   oJ 10 (.not (.t 9))])
 (.cond (.t 10)
  (.seq (.reg [oJ 4 (.mov (.c (.p (.bool false))))])
  (.ret))
  (.skip)))
 (.seq (.reg [oJ 4 (.mov (.c (.p (.bool true))))])
 (.ret)))⟩
theorem oT:af Tryz.prog fB=some jq:=by kernel_rfl
end Go.Proofs.YtnjbhgpbgmpkcaaGreatDoor
namespace Go.Proofs.YtnjbhgpbgmpkcaaGreatDoor
open Go Go.Aw
set_option maxRecDepth 100000
set_option maxHeartbeats 4000000
theorem ag{α:Type}{xs:List α}{i:Nat}(h:i<xs.length):xs.take (i+1)=xs.take i++[xs[i]]:=by
 rw[List.take_add_one,List.getElem?_eq_getElem h];rfl
def fx(l:List Int):PV:= .lst 1 (l.map fun n=>[.int .i64 n])
def sV(l:List Int):AO:= .row 1 (l.map fun n=>[.p (.int .i64 n)])
def Bn(l:List Nat):PV:= .lst 1 (l.map fun(n:Nat)=>[.int .i64 (n:Int)])
def Jg(l:List Nat):List (List AV):=l.map fun(n:Nat)=>[.p (.int .i64 (n:Int))]
def uI(l:List Nat):AO:= .row 1 (l.map fun(n:Nat)=>[.p (.int .i64 (n:Int))])
def aB(l:List (List UInt8)):PV:= .lst 1 (l.map fun w=>[.str w])
def JN(l:List (List UInt8)):List (List AV):=l.map fun w=>[.p (.str w)]
def cD(l:List (List UInt8)):AO:= .row 1 (l.map fun n=>[.p (.str n)])
theorem po(l:List Nat):∀x∈Jg l,ah 0 x:=by
 intro x hx;obtain⟨m,_,rfl⟩:=List.mem_map.1 hx;simp[ah,below]
theorem bg(l:List (List UInt8)):∀x∈JN l,ah 0 x:=by
 intro x hx;obtain⟨m,_,rfl⟩:=List.mem_map.1 hx;simp[ah,below]
theorem tp{l:List Nat}{id:Nat}{h:List AO}(e:h[id]?=some (uI l)):View h (.sl id 1 0 l.length) (Bn l):=by
 have:=fY (h:=h) (id:=id) (sz:=1) (n:=l.length) (ls:=l.map fun(n:Nat)=>[.int .i64 (n:Int)]) (by rw[e,uI];simp) (by simp) (fun x hx=>by obtain⟨b,_,rfl⟩:=List.mem_map.1 hx;rfl)
 exact this
theorem jC{l:List (List UInt8)}{id:Nat}{h:List AO}(e:h[id]?=some (cD l)):View h (.sl id 1 0 l.length) (aB l):=by
 have:=fY (h:=h) (id:=id) (sz:=1) (n:=l.length) (ls:=l.map fun n=>[.str n]) (by rw[e,cD];simp) (by simp) (fun x hx=>by obtain⟨b,_,rfl⟩:=List.mem_map.1 hx;rfl)
 exact this
end Go.Proofs.YtnjbhgpbgmpkcaaGreatDoor
namespace Go.Proofs.YtnjbhgpbgmpkcaaGreatDoor
open Go Go.Aw
set_option maxRecDepth 100000
set_option maxHeartbeats 4000000
def cF(c:UInt8):Bool:=decide (97≤c.toNat)&&decide (c.toNat≤122)
def keyW:List (List UInt8):=[[102,110],[108,101,116],[115,97,121],[112,117,116],[105,102],[101,108,115,101],[108,111,111,112],[98,97,99,107],[100,111]]
def aw(s:List UInt8):Bool:=s.all cF&&decide (0<s.length)&&decide (s.length≤4)&& !keyW.contains s
def qR:List UInt8:=[40,41,123,125,59,44,43,45,42,47,37,60,61,38,33,64]
def nF(s:List UInt8)(c:Int):Int:=match s.findIdx? (fun x=>(x.toNat:Int)==c) with|some i=>i|none=> -1
def vO(c:Int):Int:=if 97≤c∧c≤122 then 1 else if 48≤c∧c≤57 then 2 else if 0≤nF qR c then 3 else if c=32∨c=10 then 4 else 0
theorem En(x:UInt8):(vO (x.toNat:Int)=1)↔cF x=true:=by
 have h:(97≤(x.toNat:Int)∧(x.toNat:Int)≤122)↔cF x=true:=by simp[cF];omega
 unfold vO
 constructor
 ·intro e
  split at e
  ·rename_i h1;exact h.1 h1
  ·repeat' split at e
   all_goals omega
 ·intro e;rw[if_pos (h.2 e)]
def tY(s:List UInt8):Int:=match s.findIdx? (fun x=> !cF x) with|some i=>i|none=> -1
theorem CC(s:List UInt8):decide (tY s<0)=s.all cF:=by
 unfold tY
 cases h:s.findIdx? (fun x=> !cF x) with
 |none=>
  rw[List.findIdx?_eq_none_iff] at h
  have:s.all cF=true:=List.all_eq_true.2 fun x hx=>by have:=h x hx;simpa using this
  simp[this]
 |some i=>
  rw[List.findIdx?_eq_some_iff_getElem] at h
  obtain⟨h1,h2,_⟩:=h
  have:s.all cF=false:=List.all_eq_false.2 ⟨_,List.getElem_mem h1,by simpa using h2⟩
  rw[this];simp
def idxS(l:List (List UInt8))(s:List UInt8):Int:=match l.findIdx? (fun w=>w==s) with|some i=>i|none=> -1
theorem BE(l:List (List UInt8))(s:List UInt8):decide (0≤idxS l s)=l.contains s:=by
 unfold idxS
 cases h:l.findIdx? (fun w=>w==s) with
 |none=>
  rw[List.findIdx?_eq_none_iff] at h
  have:l.contains s=false:=by
   cases hc:l.contains s with
   |false=>rfl
   |true=>
    have hm:s∈l:=by simpa using hc
    have:=h s hm
    simp at this
  rw[this];simp
 |some i=>
  rw[List.findIdx?_eq_some_iff_getElem] at h
  obtain⟨h1,h2,_⟩:=h
  have:l.contains s=true:=by
   simp only[beq_iff_eq] at h2
   rw[List.contains_iff_mem,←h2];exact List.getElem_mem h1
  rw[this];simp
variable (G:aA)
theorem pf(s:List UInt8)(c:Int)(hb:s.length≤1048576):VF Tryz.prog G im [.p (.str s),.p (.int .u8 c)] (.p (.int .i64 (nF s c))):=by
 refine AC.go qW ?_
 simp-implicitDefEqProofs[lb]
 refine au (fun i:Nat=>aj 18 [(0,.p (.str s)),(1,.p (.int .u8 c)),(5,.p (.int .i64 i))]) (fun _=>[]) (fun i=>i≤s.length∧∀x∈s.take i,(x.toNat:Int)≠c) (fun i=>s.length-i) 0 (by simp) ?_ ?_
 ·exact aC rfl (by simp[below])
 ·intro i ⟨hi,hn⟩
  simp-implicitDefEqProofs[]
  refine aS (fun h1=>?_) (fun h1=>?_)
  ·simp at h1
   have hg:=List.getElem?_eq_getElem h1
   by_cases he:(s[i].toNat:Int)=c
   ·have hf:nF s c=i:=by
     have:s.findIdx? (fun x=>(x.toNat:Int)==c)=some i:=by
      rw[List.findIdx?_eq_some_iff_getElem]
      exact⟨h1,by simpa using he,fun j hj=>by have:=hn s[j] (List.mem_take_iff_getElem.2 ⟨j,by omega,rfl⟩);simpa using this⟩
     rw[nF,this]
    simp-implicitDefEqProofs[hg,he,hf]
   ·simp-implicitDefEqProofs[hg,he]
    refine⟨i+1,⟨h1,fun p hp=>?_⟩,by omega,aC rfl ?_⟩
    ·rw[ag h1] at hp
     rcases List.mem_append.1 hp with hp|hp
     ·exact hn p hp
     ·rw[List.mem_singleton.1 hp];exact he
    ·simp[below,w1 (i:=i) (by omega)]
  ·simp at h1
   rw[List.take_of_length_le h1] at hn
   have hf:nF s c= -1:=by
    have:s.findIdx? (fun x=>(x.toNat:Int)==c)=none:=by
     rw[List.findIdx?_eq_none_iff];intro x hx;simpa using hn x hx
    rw[nF,this]
   simp-implicitDefEqProofs[hf]
theorem zs(c:Int):VF Tryz.prog G gQ [.p (.int .u8 c)] (.p (.int .i64 (vO c))):=by
 refine AC.go qH ?_
 simp-implicitDefEqProofs[kD]
 unfold vO
 by_cases h1:97≤c
 ·by_cases h2:c≤122
  ·simp-implicitDefEqProofs[h1,h2]
  ·have h3:¬c≤57:=by omega
   have h4:¬c=32:=by omega
   have h5:¬c=10:=by omega
   have h6:48≤c:=by omega
   simp-implicitDefEqProofs[h1,h2,h3,h6]
   refine(pf G qR c (by decide)).use ?_
   generalize nF qR c=w
   by_cases hf:0≤w
   ·simp-implicitDefEqProofs[hf]
   ·simp-implicitDefEqProofs[hf,h4,h5]
 ·simp-implicitDefEqProofs[h1]
  by_cases h2:48≤c
  ·by_cases h3:c≤57
   ·simp-implicitDefEqProofs[h2,h3]
   ·have h4:¬c=32:=by omega
    have h5:¬c=10:=by omega
    simp-implicitDefEqProofs[h2,h3]
    refine(pf G qR c (by decide)).use ?_
    generalize nF qR c=w
    by_cases hf:0≤w
    ·simp-implicitDefEqProofs[hf]
    ·simp-implicitDefEqProofs[hf,h4,h5]
  ·simp-implicitDefEqProofs[h2]
   refine(pf G qR c (by decide)).use ?_
   generalize nF qR c=w
   by_cases hf:0≤w
   ·simp-implicitDefEqProofs[hf]
   ·by_cases h4:c=32
    ·simp-implicitDefEqProofs[hf,h4]
    ·by_cases h5:c=10
     ·simp-implicitDefEqProofs[hf,h4,h5]
     ·simp-implicitDefEqProofs[hf,h4,h5]
theorem EA(s:List UInt8)(hb:s.length≤140737488355328):VF Tryz.prog G jH [.p (.str s),.p (.int .i64 1)] (.p (.bool (s.all cF&&decide (0<s.length)))):=by
 refine AC.go uj ?_
 simp-implicitDefEqProofs[nD]
 refine au (fun i:Nat=>aj 21 [(0,.p (.str s)),(1,.p (.int .i64 1)),(5,.p (.int .i64 i))]) (fun _=>[]) (fun i=>i≤s.length∧∀x∈s.take i,cF x=true) (fun i=>s.length-i) 0 (by simp) ?_ ?_
 ·exact aC rfl (by simp[below])
 ·intro i ⟨hi,hn⟩
  simp-implicitDefEqProofs[]
  refine aS (fun h1=>?_) (fun h1=>?_)
  ·simp at h1
   have hg:=List.getElem?_eq_getElem h1
   simp-implicitDefEqProofs[hg]
   refine(zs G _).use ?_
   have hcl:=En s[i]
   by_cases he:cF s[i]=true
   ·have hc:=hcl.2 he
    simp-implicitDefEqProofs[hc]
    refine⟨i+1,⟨h1,fun p hp=>?_⟩,by omega,aC rfl ?_⟩
    ·rw[ag h1] at hp
     rcases List.mem_append.1 hp with hp|hp
     ·exact hn p hp
     ·rw[List.mem_singleton.1 hp];exact he
    ·simp[below,w1 (i:=i) (by omega)]
   ·have hc:¬vO (s[i].toNat:Int)=1:=fun e=>he (hcl.1 e)
    have ha:s.all cF=false:=List.all_eq_false.2 ⟨_,List.getElem_mem h1,by simpa using he⟩
    simp-implicitDefEqProofs[hc,ha]
  ·simp at h1
   rw[List.take_of_length_le h1] at hn
   have ha:s.all cF=true:=List.all_eq_true.2 hn
   simp-implicitDefEqProofs[ha]
theorem wS:VF Tryz.prog G dZ [] (.p (aB keyW)):=by
 have key:AC Tryz.prog G dZ [] [] fun x h=>x= .ret (.sl 0 1 0 9)∧h=[.row 1 (keyW.map fun w=>[.p (.str w)])]:=by
  refine AC.go qg ?_
  simp-implicitDefEqProofs[ko,keyW]
 exact AC.freeze key (.one (fY (ls:=keyW.map fun w=>[.str w]) (by simp) (by simp[keyW]) (by simp)) .nil)
theorem DH(s:List UInt8):VF Tryz.prog G jI [.p (.str s)] (.p (.bool (keyW.contains s))):=by
 refine AC.go uF ?_
 have hsl:aB keyW= .lst 1 (keyW.map fun w=>[.str w]):=rfl
 have hkl:keyW.length=9:=rfl
 simp-implicitDefEqProofs[ny]
 refine(wS G).use ?_
 simp-implicitDefEqProofs[]
 refine au (fun i:Nat=>aj 18 [(0,.p (.str s)),(3,.p (aB keyW)),(4,.p (.int .i64 i))]) (fun _=>[]) (fun i=>i≤keyW.length∧∀w∈keyW.take i,w≠s) (fun i=>keyW.length-i) 0 (by simp) ?_ ?_
 ·exact aC rfl (by simp[below,aB])
 ·intro i ⟨hi,hn⟩
  generalize keyW=L at*
  simp-implicitDefEqProofs[hsl]
  refine aS (fun h1=>?_) (fun h1=>?_)
  ·simp at h1
   have hg:=List.getElem?_eq_getElem h1
   by_cases he:L[i]=s
   ·have hm:s∈L:=by rw[←he];exact List.getElem_mem h1
    simp-implicitDefEqProofs[hg,he,hm]
   ·simp-implicitDefEqProofs[hg,he]
    refine⟨i+1,⟨h1,fun p hp=>?_⟩,by omega,aC rfl ?_⟩
    ·rw[ag h1] at hp
     rcases List.mem_append.1 hp with hp|hp
     ·exact hn p hp
     ·rw[List.mem_singleton.1 hp];exact he
    ·simp[below,w1 (i:=i) (by omega)]
  ·simp at h1
   rw[List.take_of_length_le h1] at hn
   have hm:¬s∈L:=fun hm=>hn s hm rfl
   simp-implicitDefEqProofs[hm]
theorem nH(s:List UInt8)(hb:s.length≤140737488355328):VF Tryz.prog G bP [.p (.str s)] (.p (.bool (aw s))):=by
 refine AC.go sQ ?_
 simp-implicitDefEqProofs[mG]
 refine(EA G s hb).use ?_
 cases h1:(s.all cF&&decide (0<s.length)) with
 |false=>
  have hi:aw s=false:=by rw[aw,h1];rfl
  simp-implicitDefEqProofs[hi]
 |true=>
  by_cases h4:s.length≤4
  ·have h4i:(s.length:Int)≤4:=by omega
   have hi:aw s= !keyW.contains s:=by rw[aw,h1];simp[h4]
   simp-implicitDefEqProofs[h4i]
   refine(DH G s).use ?_
   rw[hi]
   simp-implicitDefEqProofs[]
  ·have h4i:¬(s.length:Int)≤4:=by omega
   have hi:aw s=false:=by rw[aw,h1];simp[h4]
   simp-implicitDefEqProofs[h4i,hi]
end Go.Proofs.YtnjbhgpbgmpkcaaGreatDoor
namespace Go.Proofs.YtnjbhgpbgmpkcaaGreatDoor
open Go Go.Aw
set_option maxRecDepth 100000
inductive Ex where
 |mk (op n:Int) (name:List UInt8) (kids:List Ex)
inductive Sm where
 |mk (op:Int) (name:List UInt8) (args:List Ex) (body els:List Sm)
structure Fd where (name:List UInt8) (params:List (List UInt8)) (body:List Sm)
def Ex.op:Ex→Int| .mk o _ _ _=>o
def Ex.n:Ex→Int| .mk _ n _ _=>n
def Ex.name:Ex→List UInt8| .mk _ _ s _=>s
def Ex.kids:Ex→List Ex| .mk _ _ _ k=>k
def Sm.op:Sm→Int| .mk o _ _ _ _=>o
def Sm.name:Sm→List UInt8| .mk _ s _ _ _=>s
def Sm.args:Sm→List Ex| .mk _ _ a _ _=>a
def Sm.body:Sm→List Sm| .mk _ _ _ b _=>b
def Sm.els:Sm→List Sm| .mk _ _ _ _ e=>e
mutual
def Ex.cs:Ex→List PV
 | .mk o n s k=>[.int .i64 o,.int .i64 n,.str s,.lst 4 (Bz k)]
def Bz:List Ex→List (List PV)
 |[]=>[]
 |e::r=>e.cs::Bz r
end
mutual
def Sm.cs:Sm→List PV
 | .mk o s a b e=>[.int .i64 o,.str s,.lst 4 (Bz a),.lst 5 (CM b),.lst 5 (CM e)]
def CM:List Sm→List (List PV)
 |[]=>[]
 |s::r=>s.cs::CM r
end
theorem qJ:∀l:List Ex,Bz l=l.map Ex.cs
 |[]=>rfl
 |e::r=>by rw[Bz,qJ r];rfl
theorem sC:∀l:List Sm,CM l=l.map Sm.cs
 |[]=>rfl
 |e::r=>by rw[CM,sC r];rfl
def exL(l:List Ex):PV:= .lst 4 (l.map Ex.cs)
def smL(l:List Sm):PV:= .lst 5 (l.map Sm.cs)
theorem Ex.cs_eq(e:Ex):e.cs=[.int .i64 e.op,.int .i64 e.n,.str e.name,exL e.kids]:=by
 cases e;rw[Ex.cs,qJ];rfl
theorem Sm.cs_eq(s:Sm):s.cs=[.int .i64 s.op,.str s.name,exL s.args,smL s.body,smL s.els]:=by
 cases s;rw[Sm.cs,qJ,sC,sC];rfl
@[simp] theorem Ex.cs_len(e:Ex):e.cs.length=4:=by cases e;rfl
@[simp] theorem Ex.cs_take(e:Ex):List.take 4 (e.cs.map AV.p)=e.cs.map AV.p:=by cases e;rfl
@[simp] theorem Sm.cs_len(s:Sm):s.cs.length=5:=by cases s;rfl
@[simp] theorem Sm.cs_take(s:Sm):List.take 5 (s.cs.map AV.p)=s.cs.map AV.p:=by cases s;rfl
def Fd.cs(f:Fd):List PV:=[.str f.name,aB f.params,smL f.body]
@[simp] theorem Fd.cs_len(f:Fd):f.cs.length=3:=rfl
@[simp] theorem Fd.cs_take(f:Fd):List.take 3 (f.cs.map AV.p)=f.cs.map AV.p:=rfl
def fdL(l:List Fd):PV:= .lst 3 (l.map Fd.cs)
mutual
def Ex.sz:Ex→Nat
 | .mk _ _ s k=>1+s.length+br k
def br:List Ex→Nat
 |[]=>0
 |e::r=>e.sz+br r
end
mutual
def Sm.sz:Sm→Nat
 | .mk _ s a b e=>1+s.length+br a+aq b+aq e
def aq:List Sm→Nat
 |[]=>0
 |s::r=>s.sz+aq r
end
def Fd.sz(f:Fd):Nat:=1+f.name.length+(f.params.length+(f.params.map List.length).sum)+aq f.body
def bX(l:List Fd):Nat:=(l.map Fd.sz).sum
theorem Ex.sz_eq(e:Ex):e.sz=1+e.name.length+br e.kids:=by cases e;rfl
theorem Sm.sz_eq(s:Sm):s.sz=1+s.name.length+br s.args+aq s.body+aq s.els:=by cases s;rfl
theorem iN:∀a b:List Ex,br (a++b)=br a+br b
 |[],b=>by simp[br]
 |e::r,b=>by simp only[List.cons_append,br,iN r b];omega
theorem lv:∀a b:List Sm,aq (a++b)=aq a+aq b
 |[],b=>by simp[aq]
 |e::r,b=>by simp only[List.cons_append,aq,lv r b];omega
theorem aM:∀{l:List Ex} {e:Ex},e∈l→e.sz≤br l
 |x::r,e,h=>by
  simp only[br]
  rcases List.mem_cons.1 h with rfl|h
  ·omega
  ·have:=aM h;omega
theorem aN:∀{l:List Sm} {e:Sm},e∈l→e.sz≤aq l
 |x::r,e,h=>by
  simp only[aq]
  rcases List.mem_cons.1 h with rfl|h
  ·omega
  ·have:=aN h;omega
theorem aV:∀l:List Ex,l.length≤br l
 |[]=>Nat.le_refl _
 |e::r=>by have:=aV r;have:=e.sz_eq;simp only[br,List.length_cons];omega
theorem aY:∀l:List Sm,l.length≤aq l
 |[]=>Nat.le_refl _
 |e::r=>by have:=aY r;have:=e.sz_eq;simp only[aq,List.length_cons];omega
mutual
def Ex.parts:Ex→Nat
 | .mk _ _ _ k=>1+az k
def az:List Ex→Nat
 |[]=>0
 |e::r=>e.parts+az r
end
theorem Ex.parts_eq(e:Ex):e.parts=1+az e.kids:=by cases e;rfl
theorem cf:∀a b:List Ex,az (a++b)=az a+az b
 |[],b=>by simp[az]
 |e::r,b=>by simp only[List.cons_append,az,cf r b];omega
mutual
theorem Ex.parts_le:∀e:Ex,e.parts≤e.sz
 | .mk _ _ s k=>by have:=nY k;simp only[Ex.parts,Ex.sz];omega
theorem nY:∀l:List Ex,az l≤br l
 |[]=>Nat.le_refl _
 |e::r=>by have:=e.parts_le;have:=nY r;simp only[az,br];omega
end
mutual
def Sm.cnt:Sm→Nat
 | .mk _ _ _ b e=>1+cS b+cS e
def cS:List Sm→Nat
 |[]=>0
 |s::r=>s.cnt+cS r
end
theorem Sm.cnt_eq(s:Sm):s.cnt=1+cS s.body+cS s.els:=by cases s;rfl
theorem kM:∀a b:List Sm,cS (a++b)=cS a+cS b
 |[],b=>by simp[cS]
 |e::r,b=>by simp only[List.cons_append,cS,kM r b];omega
mutual
theorem Sm.cnt_le:∀s:Sm,s.cnt≤s.sz
 | .mk _ s a b e=>by have:=lF b;have:=lF e;simp only[Sm.cnt,Sm.sz];omega
theorem lF:∀l:List Sm,cS l≤aq l
 |[]=>Nat.le_refl _
 |e::r=>by have:=e.cnt_le;have:=lF r;simp only[cS,aq];omega
end
def inR(n lo hi:Int):Bool:=decide (lo≤n)&&decide (n≤hi)
def loK(op:Int):Nat:=if op=1∨op=2 then 0 else if op=11∨op=12 then 1 else if op=13 then 0 else 2
def hiK(op:Int):Nat:=if op=1∨op=2 then 0 else if op=11∨op=12 then 1 else if op=13 then 3 else 2
def wV(op:Int):Bool:=decide (op=2)||decide (op=13)
def mo(e:Ex):Bool:=inR e.op 1 13&&inR e.kids.length (loK e.op) (hiK e.op)&&(wV e.op==aw e.name)&&(wV e.op||decide (e.name=[]))&&inR e.n 0 255&&(decide (e.op=1)||decide (e.n=0))
def fh:Nat→Ex→Bool
 |0,_=>false
 |d+1,e=>mo e&&e.kids.all (fh d)
def kq(e:Ex):Bool:=fh 6 e&&decide (e.parts≤30)
def jj(op:Int):Nat:=if op=4 then 2 else 1
def ca(op:Int):Bool:=decide (op=1)||decide (op=2)
def gP(s:Sm):Bool:=inR s.op 1 8&&decide (s.args.length=jj s.op)&&(ca s.op==aw s.name)&&(ca s.op||decide (s.name=[]))&&s.args.all kq&&
 (!decide (s.op=8)||(match s.args with|a::_=>decide (a.op=13)|[]=>false))&&(s.els.isEmpty||decide (s.op=5))&&(s.body.isEmpty||decide (s.op=5)||decide (s.op=6))
def aD:Nat→Sm→Bool
 |0,_=>false
 |d+1,s=>gP s&&s.body.all (aD d)&&s.els.all (aD d)
def ju(f:Fd):Bool:=f.params.all aw&&aw f.name&&decide (f.params.length≤3)&&f.body.all (aD 4)
def kb(l:List Fd):Nat:=(l.map fun f=>cS f.body).sum
def co(l:List Fd):Bool:=inR l.length 1 4&&l.all ju&&decide (kb l≤40)
end Go.Proofs.YtnjbhgpbgmpkcaaGreatDoor
namespace Go.Proofs.YtnjbhgpbgmpkcaaGreatDoor
open Go Go.Aw
set_option maxRecDepth 100000
set_option maxHeartbeats 4000000
theorem db{α:Type}{p:α→Bool}{xs:List α}{i:Nat}(h:i<xs.length):(xs.take (i+1)).all p=((xs.take i).all p&&p xs[i]):=by
 rw[ag h,List.all_append];simp
theorem jP{α:Type}{p:α→Bool}{xs:List α}{i:Nat}(h:i<xs.length)(hp:p xs[i]=false):xs.all p=false:=
 List.all_eq_false.2 ⟨_,List.getElem_mem h,by simp[hp]⟩
theorem eO{α:Type}{p:α→Bool}{xs:List α}{i:Nat}(h:xs.length≤i)(ht:(xs.take i).all p=true):xs.all p=true:=by
 rwa[List.take_of_length_le h] at ht
def K_spec_l2Form:AK:= .seq (.reg [oJ 2 (.box 4 (.t 0)),oJ 4 (.mov (.c (.p (.bool false))))]) (.seq (.reg [oF 10 0 2,oL 11 10,oJ 12 (.call fT [(.t 11)]),oM 9 12,oJ 13 (.ext 0 (.t 9)),oJ 14 (.ext 1 (.t 9)),oM 5 13,oM 6 14]) (.seq (.seq (.reg [oM 15 1,oJ 16 (.bin .lss (.t 15) (.c (.p (.int .i64 1)))),oM 17 16,⟨(some 18),some (17,false),.fldA 0 (.t 2)⟩,⟨(some 19),some (17,false),.ld none (.t 18)⟩,⟨(some 20),some (17,false),.call bi [(.t 19),(.c (.p (.int .i64 1))),(.c (.p (.int .i64 13)))]⟩,⟨(some 21),some (17,false),.not (.t 20)⟩,oJ 22 (.pick (.t 17) (.c (.p (.bool true))) (.t 21)),oM 23 22,⟨(some 24),some (23,false),.fldA 3 (.t 2)⟩,⟨(some 25),some (23,false),.ld none (.t 24)⟩,⟨(some 26),some (23,false),.len false (.t 25)⟩,⟨(some 27),some (23,false),.mov (.t 5)⟩,⟨(some 28),some (23,false),.mov (.t 6)⟩,⟨(some 29),some (23,false),.call bi [(.t 26),(.t 27),(.t 28)]⟩,⟨(some 30),some (23,false),.not (.t 29)⟩,oJ 31 (.pick (.t 23) (.c (.p (.bool true))) (.t 30))]) (.cond (.t 31) (.seq (.reg [oJ 4 (.mov (.c (.p (.bool false))))]) (.ret)) (.skip))) (.cut (.reg [oF 32 0 2,oL 33 32,oJ 34 (.bin .eql (.t 33) (.c (.p (.int .i64 2)))),oM 35 34,⟨(some 36),some (35,false),.fldA 0 (.t 2)⟩,⟨(some 37),some (35,false),.ld none (.t 36)⟩,⟨(some 38),some (35,false),.bin .eql (.t 37) (.c (.p (.int .i64 13)))⟩,oJ 39 (.pick (.t 35) (.c (.p (.bool true))) (.t 38)),oM 7 39]) (.cut (.seq (.reg [oM 40 7,oF 41 2 2,oL 42 41,oJ 43 (.call bP [(.t 42)]),oJ 44 (.beq true (.t 40) (.t 43)),oM 45 44,⟨(some 46),some (45,false),.mov (.t 7)⟩,⟨(some 47),some (45,false),.not (.t 46)⟩,⟨(some 48),some (45,false),.mov (.t 47)⟩,⟨(some 49),some (48,true),.fldA 2 (.t 2)⟩,⟨(some 50),some (48,true),.ld none (.t 49)⟩,⟨(some 51),some (48,true),.bins .neq (.t 50) (.c (.p (.str [])))⟩,⟨(some 52),some (45,false),.pick (.t 48) (.t 51) (.c (.p (.bool false)))⟩,oJ 53 (.pick (.t 45) (.c (.p (.bool true))) (.t 52)),oM 54 53,⟨(some 55),some (54,false),.fldA 1 (.t 2)⟩,⟨(some 56),some (54,false),.ld none (.t 55)⟩,⟨(some 57),some (54,false),.call bi [(.t 56),(.c (.p (.int .i64 0))),(.c (.p (.int .i64 255)))]⟩,⟨(some 58),some (54,false),.not (.t 57)⟩,oJ 59 (.pick (.t 54) (.c (.p (.bool true))) (.t 58)),oM 60 59,⟨(some 61),some (60,false),.fldA 0 (.t 2)⟩,⟨(some 62),some (60,false),.ld none (.t 61)⟩,⟨(some 63),some (60,false),.bin .neq (.t 62) (.c (.p (.int .i64 1)))⟩,⟨(some 64),some (60,false),.mov (.t 63)⟩,⟨(some 65),some (64,true),.fldA 1 (.t 2)⟩,⟨(some 66),some (64,true),.ld none (.t 65)⟩,⟨(some 67),some (64,true),.bin .neq (.t 66) (.c (.p (.int .i64 0)))⟩,⟨(some 68),some (60,false),.pick (.t 64) (.t 67) (.c (.p (.bool false)))⟩,oJ 69 (.pick (.t 60) (.c (.p (.bool true))) (.t 68))]) (.cond (.t 69) (.seq (.reg [oJ 4 (.mov (.c (.p (.bool false))))]) (.ret)) (.skip))) (.seq (.seq (.reg [oK 8 0]) (.blk 0 (.loop (.seq (.seq (.reg [oM 70 8,oF 71 3 2,oL 72 71,oJ 73 (.len false (.t 72)),oJ 74 (.bin .lss (.t 70) (.t 73))]) (.cond (.t 74) (.skip) (.exit 0))) (.seq (.blk 1 (.seq (.reg [oF 77 3 2,oL 78 77,oM 79 8,oJ 80 (.idxS 4 (.t 78) (.t 79)),oJ 81 (.ld (some 4) (.t 80)),oM 82 1,oJ 83 (.bin .sub (.t 82) (.c (.p (.int .i64 1)))),oJ 84 (.call dY [(.t 81),(.t 83)]),oJ 85 (.not (.t 84))]) (.cond (.t 85) (.seq (.reg [oJ 4 (.mov (.c (.p (.bool false))))]) (.ret)) (.skip)))) (.reg [oM 75 8,oJ 76 (.bin .add (.t 75) (.c (.p (.int .i64 1)))),oM 8 76])))))) (.seq (.reg [oJ 4 (.mov (.c (.p (.bool true))))]) (.ret)))))))
theorem sU:K_spec_l2Form.whole=F_spec_l2Form.ak:=rfl
def K_spec_l3Stmt:AK:= .seq (.reg [oJ 2 (.box 5 (.t 0)),oJ 4 (.mov (.c (.p (.bool false))))]) (.cut (.seq (.reg [oM 7 1,oJ 8 (.bin .lss (.t 7) (.c (.p (.int .i64 1)))),oM 9 8,⟨(some 10),some (9,false),.fldA 0 (.t 2)⟩,⟨(some 11),some (9,false),.ld none (.t 10)⟩,⟨(some 12),some (9,false),.call bi [(.t 11),(.c (.p (.int .i64 1))),(.c (.p (.int .i64 8)))]⟩,⟨(some 13),some (9,false),.not (.t 12)⟩,oJ 14 (.pick (.t 9) (.c (.p (.bool true))) (.t 13)),oM 15 14,⟨(some 16),some (15,false),.fldA 2 (.t 2)⟩,⟨(some 19),some (15,false),.fldA 0 (.t 2)⟩,⟨(some 17),some (15,false),.ld none (.t 16)⟩,⟨(some 18),some (15,false),.len false (.t 17)⟩,⟨(some 20),some (15,false),.ld none (.t 19)⟩,⟨(some 21),some (15,false),.qcall fO [(.t 20)]⟩,⟨(some 22),some (15,false),.bin .neq (.t 18) (.t 21)⟩,oJ 23 (.pick (.t 15) (.c (.p (.bool true))) (.t 22))]) (.cond (.t 23) (.seq (.reg [oJ 4 (.mov (.c (.p (.bool false))))]) (.ret)) (.skip))) (.cut (.reg [oF 24 0 2,oL 25 24,oJ 26 (.bin .eql (.t 25) (.c (.p (.int .i64 1)))),oM 27 26,⟨(some 28),some (27,false),.fldA 0 (.t 2)⟩,⟨(some 29),some (27,false),.ld none (.t 28)⟩,⟨(some 30),some (27,false),.bin .eql (.t 29) (.c (.p (.int .i64 2)))⟩,oJ 31 (.pick (.t 27) (.c (.p (.bool true))) (.t 30)),oM 5 31]) (.cut (.seq (.reg [oM 32 5,oF 33 1 2,oL 34 33,oJ 35 (.call bP [(.t 34)]),oJ 36 (.beq true (.t 32) (.t 35)),oM 37 36,⟨(some 38),some (37,false),.mov (.t 5)⟩,⟨(some 39),some (37,false),.not (.t 38)⟩,⟨(some 40),some (37,false),.mov (.t 39)⟩,⟨(some 41),some (40,true),.fldA 1 (.t 2)⟩,⟨(some 42),some (40,true),.ld none (.t 41)⟩,⟨(some 43),some (40,true),.bins .neq (.t 42) (.c (.p (.str [])))⟩,⟨(some 44),some (37,false),.pick (.t 40) (.t 43) (.c (.p (.bool false)))⟩,oJ 45 (.pick (.t 37) (.c (.p (.bool true))) (.t 44))]) (.cond (.t 45) (.seq (.reg [oJ 4 (.mov (.c (.p (.bool false))))]) (.ret)) (.skip))) (.seq (.seq (.reg [oK 6 0]) (.blk 0 (.loop (.seq (.seq (.reg [oM 46 6,oF 47 2 2,oL 48 47,oJ 49 (.len false (.t 48)),oJ 50 (.bin .lss (.t 46) (.t 49))]) (.cond (.t 50) (.skip) (.exit 0))) (.seq (.blk 1 (.seq (.reg [oF 53 2 2,oL 54 53,oM 55 6,oJ 56 (.idxS 4 (.t 54) (.t 55)),oJ 57 (.ld (some 4) (.t 56)),oJ 58 (.call du [(.t 57)]),oJ 59 (.not (.t 58))]) (.cond (.t 59) (.seq (.reg [oJ 4 (.mov (.c (.p (.bool false))))]) (.ret)) (.skip)))) (.reg [oM 51 6,oJ 52 (.bin .add (.t 51) (.c (.p (.int .i64 1)))),oM 6 52])))))) (.cut (.seq (.reg [oF 60 0 2,oL 61 60,oJ 62 (.bin .eql (.t 61) (.c (.p (.int .i64 8)))),oM 63 62,⟨(some 64),some (63,true),.fldA 2 (.t 2)⟩,⟨(some 65),some (63,true),.ld none (.t 64)⟩,⟨(some 66),some (63,true),.idxS 4 (.t 65) (.c (.p (.int .i64 0)))⟩,⟨(some 67),some (63,true),.fldA 0 (.t 66)⟩,⟨(some 68),some (63,true),.ld none (.t 67)⟩,⟨(some 69),some (63,true),.bin .neq (.t 68) (.c (.p (.int .i64 13)))⟩,oJ 70 (.pick (.t 63) (.t 69) (.c (.p (.bool false))))]) (.cond (.t 70) (.seq (.reg [oJ 4 (.mov (.c (.p (.bool false))))]) (.ret)) (.skip))) (.cut (.seq (.reg [oF 71 4 2,oL 72 71,oJ 73 (.len false (.t 72)),oJ 74 (.bin .gtr (.t 73) (.c (.p (.int .i64 0)))),oM 75 74,⟨(some 76),some (75,true),.fldA 0 (.t 2)⟩,⟨(some 77),some (75,true),.ld none (.t 76)⟩,⟨(some 78),some (75,true),.bin .neq (.t 77) (.c (.p (.int .i64 5)))⟩,oJ 79 (.pick (.t 75) (.t 78) (.c (.p (.bool false)))),oM 80 79,⟨(some 81),some (80,false),.fldA 3 (.t 2)⟩,⟨(some 82),some (80,false),.ld none (.t 81)⟩,⟨(some 83),some (80,false),.len false (.t 82)⟩,⟨(some 84),some (80,false),.bin .gtr (.t 83) (.c (.p (.int .i64 0)))⟩,⟨(some 85),some (80,false),.mov (.t 84)⟩,⟨(some 86),some (85,true),.fldA 0 (.t 2)⟩,⟨(some 87),some (85,true),.ld none (.t 86)⟩,⟨(some 88),some (85,true),.bin .neq (.t 87) (.c (.p (.int .i64 5)))⟩,⟨(some 89),some (80,false),.pick (.t 85) (.t 88) (.c (.p (.bool false)))⟩,⟨(some 90),some (80,false),.mov (.t 89)⟩,⟨(some 91),some (90,true),.fldA 0 (.t 2)⟩,⟨(some 92),some (90,true),.ld none (.t 91)⟩,⟨(some 93),some (90,true),.bin .neq (.t 92) (.c (.p (.int .i64 6)))⟩,⟨(some 94),some (80,false),.pick (.t 90) (.t 93) (.c (.p (.bool false)))⟩,oJ 95 (.pick (.t 80) (.c (.p (.bool true))) (.t 94))]) (.cond (.t 95) (.seq (.reg [oJ 4 (.mov (.c (.p (.bool false))))]) (.ret)) (.skip))) (.seq (.reg [oF 96 3 2,oL 97 96,oM 98 1,oJ 99 (.bin .sub (.t 98) (.c (.p (.int .i64 1)))),oJ 100 (.call bA [(.t 97),(.t 99)]),oM 101 100,⟨(some 102),some (101,true),.fldA 4 (.t 2)⟩,⟨(some 103),some (101,true),.ld none (.t 102)⟩,⟨(some 104),some (101,true),.mov (.t 1)⟩,⟨(some 105),some (101,true),.bin .sub (.t 104) (.c (.p (.int .i64 1)))⟩,⟨(some 106),some (101,true),.call bA [(.t 103),(.t 105)]⟩,oJ 107 (.pick (.t 101) (.t 106) (.c (.p (.bool false)))),oM 4 107]) (.ret))))))))
theorem td:K_spec_l3Stmt.whole=F_spec_l3Stmt.ak:=rfl
variable (G:aA)
theorem mS(n lo hi:Int):VF Tryz.prog G bi [.p (.int .i64 n),.p (.int .i64 lo),.p (.int .i64 hi)] (.p (.bool (inR n lo hi))):=by
 refine AC.go vB ?_
 by_cases h:lo≤n
 ·simp-implicitDefEqProofs[kW,h,inR]
 ·simp-implicitDefEqProofs[kW,h,inR]
theorem uX(op:Int):VF Tryz.prog G fT [.p (.int .i64 op)] (.tup [.p (.int .i64 (loK op)),.p (.int .i64 (hiK op))]):=by
 refine AC.go sF ?_
 by_cases h1:op=1
 ·subst h1;simp-implicitDefEqProofs[cu,loK,hiK]
 by_cases h2:op=2
 ·subst h2;simp-implicitDefEqProofs[cu,loK,hiK]
 by_cases h3:op=11
 ·subst h3;simp-implicitDefEqProofs[cu,loK,hiK]
 by_cases h4:op=12
 ·subst h4;simp-implicitDefEqProofs[cu,loK,hiK]
 by_cases h5:op=13
 ·subst h5;simp-implicitDefEqProofs[cu,loK,hiK]
 simp-implicitDefEqProofs[cu,loK,hiK,h1,h2,h3,h4,h5]
theorem Du:∀(d:Nat) (e:Ex),e.sz≤1099511627776→d≤1000→VF Tryz.prog G dY [.agg (e.cs.map .p),.p (.int .i64 d)] (.p (.bool (fh d e))):=by
 intro d
 induction d with
 |zero=>
  intro e he _
  refine AC.go my ?_
  simp-implicitDefEqProofs[F_spec_l2Form,Ex.cs_eq]
  refine(uX G _).use ?_
  simp-implicitDefEqProofs[fh]
 |succ d ih=>
  intro e he hd
  have hsz:=e.sz_eq
  have hkl:=aV e.kids
  refine AC.goK my sU ?_
  have hd1:¬(d:Int)+1<1:=by omega
  have hw:IntKind.i64.wrap ((d:Int)+1-1)=(d:Int):=by rw[show(d:Int)+1-1=d by omega];exact al (by omega) (by omega)
  have hw':IntKind.i64.wrap (d:Int)=(d:Int):=al (by omega) (by omega)
  have hxl:∀l,exL l= .lst 4 (l.map Ex.cs):=fun _=>rfl
  simp-implicitDefEqProofs[K_spec_l2Form,F_spec_l2Form,Ex.cs_eq]
  refine(uX G _).use ?_
  simp-implicitDefEqProofs[hd1]
  refine(mS G _ _ _).use ?_
  by_cases h1:inR e.op 1 13=true
  case neg=>simp-implicitDefEqProofs[h1,fh,mo]
  simp-implicitDefEqProofs[h1,hxl]
  refine(mS G _ _ _).use ?_
  by_cases h2:inR e.kids.length (loK e.op) (hiK e.op)=true
  case neg=>simp-implicitDefEqProofs[h2,fh,mo]
  simp-implicitDefEqProofs[h2]
  refine kQ (aj 86 [(1,.p (.int .i64 (d+1))),(2,.ptr 0 4 0 0),(7,.p (.bool (wV e.op)))]) [.row 4 [[.p (.int .i64 e.op),.p (.int .i64 e.n),.p (.str e.name),.p (.lst 4 (e.kids.map Ex.cs))]]] ?_ ?_
  ·by_cases o2:e.op=2
   ·simp-implicitDefEqProofs[o2]
    exact ab (by simp) (by simp[okO]) (by simp[below,wV])
   ·by_cases o13:e.op=13
    ·simp-implicitDefEqProofs[o13]
     exact ab (by simp) (by simp[okO]) (by simp[below,wV])
    ·simp-implicitDefEqProofs[o2,o13]
     exact ab (by simp) (by simp[okO]) (by simp[below,wV,o2,o13])
  have hn:e.name.length≤140737488355328:=by omega
  refine uu (fun _:Unit=>aj 86 [(1,.p (.int .i64 ((d:Int)+1))),(2,.ptr 0 4 0 0)]) (fun _=>[.row 4 [[.p (.int .i64 e.op),.p (.int .i64 e.n),.p (.str e.name),.p (.lst 4 (e.kids.map Ex.cs))]]]) (fun _=>mo e=true) ?_ ?_
  ·simp-implicitDefEqProofs[]
   refine(nH G _ hn).use ?_
   simp-implicitDefEqProofs[]
   repeat' first
    |(refine(mS G _ _ _).use ?_;simp-implicitDefEqProofs[])
    |(refine aS (fun hc=>?_) (fun hc=>?_)<;>simp-implicitDefEqProofs[hc])
   all_goals first
    |exact⟨by simp_all [mo],ab (by simp) (by simp[okO]) (by simp[below])⟩
    |simp_all [fh,mo]
  intro _ hh
  simp-implicitDefEqProofs[]
  refine au (fun i:Nat=>aj 86 [(1,.p (.int .i64 ((d:Int)+1))),(2,.ptr 0 4 0 0),(8,.p (.int .i64 i))]) (fun _=>[.row 4 [[.p (.int .i64 e.op),.p (.int .i64 e.n),.p (.str e.name),.p (.lst 4 (e.kids.map Ex.cs))]]])
   (fun i=>i≤e.kids.length∧(e.kids.take i).all (fh d)=true) (fun i=>e.kids.length-i) 0 (by simp) (ab (by simp) (by simp[okO]) (by simp[below])) ?_
  intro i ⟨hi,hall⟩
  simp-implicitDefEqProofs[]
  refine aS (fun h=>?_) (fun h=>?_)
  ·simp at h
   have hg:=List.getElem?_eq_getElem h
   have hks:=aM (List.getElem_mem h)
   simp-implicitDefEqProofs[hg,hw']
   refine(ih e.kids[i] (by omega) (by omega)).use ?_
   by_cases hk:fh d e.kids[i]=true
   ·simp-implicitDefEqProofs[hk]
    refine⟨i+1,⟨h,by rw[←List.all_eq_true,db h,hall,hk];rfl⟩,by omega,ab (by simp) (by simp[okO]) ?_⟩
    simp[below,w1 (i:=i) (by omega)]
   ·have hk':fh d e.kids[i]=false:=by simpa using hk
    have hf:fh (d+1) e=false:=by simp only[fh,jP h hk',Bool.and_false]
    simp-implicitDefEqProofs[hk',hf]
  ·simp at h
   have hf:fh (d+1) e=true:=by simp only[fh,eO h hall,hh,Bool.and_self]
   simp-implicitDefEqProofs[hf]
theorem zP{l:List Ex}{i:Nat}(h:i<l.length):az (l.take (i+1))=az (l.take i)+l[i].parts:=by
 rw[ag h,cf];simp[az]
theorem ur(l:List Ex)(i:Nat):az (l.take i)≤az l:=by
 have:=cf (l.take i) (l.drop i)
 rw[List.take_append_drop] at this
 omega
theorem zC:∀(k:Nat) (e:Ex),e.sz≤k→k≤1099511627776→VF Tryz.prog G fg [.agg (e.cs.map .p)] (.p (.int .i64 e.parts)):=by
 intro k
 induction k with
 |zero=>intro e he;have:=e.sz_eq;omega
 |succ k ih=>
  intro e he hk
  have hsz:=e.sz_eq
  have hkl:=aV e.kids
  have hpe:=e.parts_eq
  have hpz:=nY e.kids
  refine AC.go sE ?_
  have hxl:∀l,exL l= .lst 4 (l.map Ex.cs):=fun _=>rfl
  simp-implicitDefEqProofs[kN,Ex.cs_eq,hxl]
  refine au (fun i:Nat=>aj 21 [(1,.ptr 0 4 0 0),(3,.p (.int .i64 ((1+az (e.kids.take i):Nat):Int))),(4,.p (.int .i64 i))]) (fun _=>[.row 4 [[.p (.int .i64 e.op),.p (.int .i64 e.n),.p (.str e.name),.p (.lst 4 (e.kids.map Ex.cs))]]])
   (fun i=>i≤e.kids.length) (fun i=>e.kids.length-i) 0 (by simp) (ab (by simp) (by simp[okO]) (by simp[below,az])) ?_
  intro i hi
  simp-implicitDefEqProofs[]
  refine aS (fun h=>?_) (fun h=>?_)
  ·simp at h
   have hg:=List.getElem?_eq_getElem h
   have hks:=aM (List.getElem_mem h)
   have hps:=zP h
   have hple:=ur e.kids (i+1)
   simp-implicitDefEqProofs[hg]
   refine(ih e.kids[i] (by omega) (by omega)).use ?_
   have hw:IntKind.i64.wrap (1+(az (e.kids.take i):Int)+(e.kids[i].parts:Int))=((1+az (e.kids.take (i+1)):Nat):Int):=by rw[al (by omega) (by omega)];omega
   simp-implicitDefEqProofs[hw]
   exact⟨i+1,h,by omega,ab (by simp) (by simp[okO]) (by simp[below,w1 (i:=i) (by omega)])⟩
  ·simp at h
   rw[List.take_of_length_le h]
   simp-implicitDefEqProofs[]
   omega
theorem vN(e:Ex)(he:e.sz≤1099511627776):VF Tryz.prog G du [.agg (e.cs.map .p)] (.p (.bool (kq e))):=by
 refine AC.go pw ?_
 simp-implicitDefEqProofs[jn]
 have h6:=Du G 6 e he (by omega)
 refine h6.use ?_
 by_cases h:fh 6 e=true
 ·simp-implicitDefEqProofs[h]
  refine(zC G _ e (Nat.le_refl _) he).use ?_
  simp-implicitDefEqProofs[kq,h]
  omega
 ·simp-implicitDefEqProofs[h,kq]
theorem BX(op:Int):VF Tryz.prog G fO [.p (.int .i64 op)] (.p (.int .i64 (jj op))):=by
 refine AC.go tf ?_
 by_cases h:op=4
 ·simp-implicitDefEqProofs[iP,h,jj]
 ·simp-implicitDefEqProofs[iP,h,jj]
theorem pU(d:Nat)(hd:d≤1000)(hs:∀s:Sm,s.sz≤1099511627776→VF Tryz.prog G fS [.agg (s.cs.map .p),.p (.int .i64 d)] (.p (.bool (aD d s))))(l:List Sm)(hl:aq l≤1099511627776):
 VF Tryz.prog G bA [.p (smL l),.p (.int .i64 d)] (.p (.bool (l.all (aD d)))):=by
 refine AC.go rx ?_
 have hll:=aY l
 have hsl:∀l,smL l= .lst 5 (l.map Sm.cs):=fun _=>rfl
 simp-implicitDefEqProofs[kJ]
 refine au (fun i:Nat=>aj 19 [(0,.p (smL l)),(1,.p (.int .i64 d)),(5,.p (.int .i64 i))]) (fun _=>[]) (fun i=>i≤l.length∧(l.take i).all (aD d)=true) (fun i=>l.length-i) 0 (by simp) (aC rfl (by simp[below,hsl])) ?_
 intro i ⟨hi,hall⟩
 simp-implicitDefEqProofs[hsl]
 refine aS (fun h=>?_) (fun h=>?_)
 ·simp at h
  have hg:=List.getElem?_eq_getElem h
  have hks:=aN (List.getElem_mem h)
  simp-implicitDefEqProofs[hg]
  refine(hs l[i] (by omega)).use ?_
  by_cases hk:aD d l[i]=true
  ·simp-implicitDefEqProofs[hk]
   exact⟨i+1,⟨h,by rw[←List.all_eq_true,db h,hall,hk];rfl⟩,by omega,aC rfl (by simp[below,hsl,w1 (i:=i) (by omega)])⟩
  ·have hk':aD d l[i]=false:=by simpa using hk
   have hf:=jP h hk'
   simp-implicitDefEqProofs[hk',hf]
 ·simp at h
  have hf:=eO h hall
  simp-implicitDefEqProofs[hf]
theorem Co:∀(d:Nat),d≤1000→∀s:Sm,s.sz≤1099511627776→VF Tryz.prog G fS [.agg (s.cs.map .p),.p (.int .i64 d)] (.p (.bool (aD d s))):=by
 intro d
 induction d with
 |zero=>
  intro _ s _
  refine AC.go mO ?_
  simp-implicitDefEqProofs[F_spec_l3Stmt,Sm.cs_eq,aD]
 |succ d ih=>
  intro hd s he
  have hsz:=s.sz_eq
  have hal:=aV s.args
  have hbl:=aY s.body
  have hel:=aY s.els
  have ihs:=pU G d (by omega) (ih (by omega))
  refine AC.goK mO td ?_
  have hd1:¬(d:Int)+1<1:=by omega
  have hw':IntKind.i64.wrap (d:Int)=(d:Int):=al (by omega) (by omega)
  have hxl:∀l,exL l= .lst 4 (l.map Ex.cs):=fun _=>rfl
  have hsl:∀l,smL l= .lst 5 (l.map Sm.cs):=fun _=>rfl
  have hn:s.name.length≤140737488355328:=by omega
  simp-implicitDefEqProofs[K_spec_l3Stmt,F_spec_l3Stmt,Sm.cs_eq]
  generalize hH:[AO.row 5 [[AV.p (.int .i64 s.op),.p (.str s.name),.p (exL s.args),.p (smL s.body),.p (smL s.els)]]]=H
  have hho:∀o∈H,okO H.length o:=by rw[←hH];simp[okO]
  have hhl:0<H.length:=by rw[←hH];simp
  have hh0:H[0]?=some (AO.row 5 [[AV.p (.int .i64 s.op),.p (.str s.name),.p (exL s.args),.p (smL s.body),.p (smL s.els)]]):=by rw[←hH];rfl
  have hhL:H.length=1:=by rw[←hH];rfl
  refine uu (fun _:Unit=>aj 108 [(1,.p (.int .i64 ((d:Int)+1))),(2,.ptr 0 5 0 0)]) (fun _=>H) (fun _=>inR s.op 1 8=true∧s.args.length=jj s.op) ?_ ?_
  ·simp-implicitDefEqProofs[hd1,hh0]
   refine(mS G _ _ _).use ?_
   by_cases h1:inR s.op 1 8=true
   case neg=>simp-implicitDefEqProofs[h1,aD,gP]
   simp-implicitDefEqProofs[h1,hh0,hxl]
   refine(BX G _).useQ ?_
   by_cases h2:s.args.length=jj s.op
   ·simp-implicitDefEqProofs[h2]
    exact ab (by omega) hho (by simp[below,hhl])
   ·have h2':¬(s.args.length:Int)=(jj s.op:Int):=by omega
    simp-implicitDefEqProofs[h2,h2',aD,gP]
  intro _ ⟨h1,h2⟩
  refine uu (fun _:Unit=>aj 108 [(1,.p (.int .i64 ((d:Int)+1))),(2,.ptr 0 5 0 0),(5,.p (.bool (ca s.op)))]) (fun _=>H) (fun _=>True) ?_ ?_
  ·simp-implicitDefEqProofs[hh0]
   by_cases o1:s.op=1
   ·simp-implicitDefEqProofs[o1,hh0,ca]
    exact ab (by omega) hho (by simp[below,hhl])
   ·by_cases o2:s.op=2
    ·simp-implicitDefEqProofs[o2,hh0,ca]
     exact ab (by omega) hho (by simp[below,hhl])
    ·simp-implicitDefEqProofs[o1,o2,hh0,ca]
     exact ab (by omega) hho (by simp[below,hhl])
  intro _ _
  refine uu (fun _:Unit=>aj 108 [(1,.p (.int .i64 ((d:Int)+1))),(2,.ptr 0 5 0 0)]) (fun _=>H) (fun _=>(ca s.op==aw s.name)=true∧(ca s.op||decide (s.name=[]))=true) ?_ ?_
  ·simp-implicitDefEqProofs[hh0]
   refine(nH G _ hn).use ?_
   simp-implicitDefEqProofs[hh0]
   repeat' first
    |(refine aS (fun hc=>?_) (fun hc=>?_)<;>simp-implicitDefEqProofs[hc,hh0])
   all_goals first
    |exact ab (by omega) hho (by simp[below,hhl])
    |exact⟨by simp_all,by simp_all,ab (by omega) hho (by simp[below,hhl])⟩
    |exact⟨by simp_all,ab (by omega) hho (by simp[below,hhl])⟩
    |(simp_all [aD,gP];done)
  intro _ ⟨h3,h4⟩
  simp-implicitDefEqProofs[]
  refine au (fun i:Nat=>aj 108 [(1,.p (.int .i64 ((d:Int)+1))),(2,.ptr 0 5 0 0),(6,.p (.int .i64 i))]) (fun _=>H) (fun i=>i≤s.args.length∧(s.args.take i).all kq=true) (fun i=>s.args.length-i) 0 (by simp) (ab (by omega) hho (by simp[below,hhl])) ?_
  intro i ⟨hi,hall⟩
  simp-implicitDefEqProofs[hh0,hxl]
  refine aS (fun h=>?_) (fun h=>?_)
  ·simp at h
   have hg:=List.getElem?_eq_getElem h
   have hks:=aM (List.getElem_mem h)
   simp-implicitDefEqProofs[hg,hh0,hxl]
   refine(vN G s.args[i] (by omega)).use ?_
   by_cases hk:kq s.args[i]=true
   ·simp-implicitDefEqProofs[hk]
    exact⟨i+1,⟨h,by rw[←List.all_eq_true,db h,hall,hk];rfl⟩,by omega,ab (by omega) hho (by simp[below,hhl,w1 (i:=i) (by omega)])⟩
   ·have hk':kq s.args[i]=false:=by simpa using hk
    have hf:aD (d+1) s=false:=by simp only[aD,gP,jP h hk',Bool.and_false,Bool.false_and]
    simp-implicitDefEqProofs[hk',hf]
  simp at h
  have h5:s.args.all kq=true:=eO h hall
  have hlen1:1≤s.args.length:=by rw[h2];unfold jj;split<;>omega
  obtain⟨a0,ar,ha⟩:∃a r,s.args=a::r:=by
   cases hh:s.args with
   |nil=>rw[hh] at hlen1;simp at hlen1
   |cons a r=>exact⟨a,r,rfl⟩
  have ha0:s.args[0]?=some a0:=by rw[ha];rfl
  refine uu (fun _:Unit=>aj 108 [(1,.p (.int .i64 ((d:Int)+1))),(2,.ptr 0 5 0 0)]) (fun _=>H) (fun _=>(!decide (s.op=8)||decide (a0.op=13))=true) ?_ ?_
  ·simp-implicitDefEqProofs[hh0]
   by_cases o8:s.op=8
   ·have hae:=a0.cs_eq
    simp-implicitDefEqProofs[o8,hh0,hxl,ha0,hae]
    refine aS (fun hc=>?_) (fun hc=>?_)
    ·simp at hc
     have hf:aD (d+1) s=false:=by simp[aD,gP,o8,ha,hc]
     simp-implicitDefEqProofs[hf]
    ·simp at hc
     simp-implicitDefEqProofs[hc]
     exact ab (by omega) hho (by simp[below,hhl])
   ·simp-implicitDefEqProofs[o8,hh0]
    exact ab (by omega) hho (by simp[below,hhl])
  intro _ h6
  refine uu (fun _:Unit=>aj 108 [(1,.p (.int .i64 ((d:Int)+1))),(2,.ptr 0 5 0 0)]) (fun _=>H) (fun _=>(s.els.isEmpty||decide (s.op=5))=true∧(s.body.isEmpty||decide (s.op=5)||decide (s.op=6))=true) ?_ ?_
  ·have hf:¬((s.els.isEmpty||decide (s.op=5))=true∧(s.body.isEmpty||decide (s.op=5)||decide (s.op=6))=true)→aD (d+1) s=false:=fun h=>by
    have:gP s=false:=by
     cases hx:gP s with
     |false=>rfl
     |true=>refine absurd ?_ h;simp only[gP,Bool.and_eq_true] at hx;exact⟨hx.1.2,hx.2⟩
    simp[aD,this]
   have pe:¬s.els=[]→0<s.els.length:=List.length_pos_iff.2
   have pb:¬s.body=[]→0<s.body.length:=List.length_pos_iff.2
   by_cases o5:s.op=5
   ·simp-implicitDefEqProofs[hh0,hsl,o5]
    repeat' first
     |(refine aS (fun hc=>?_) (fun hc=>?_)<;>simp-implicitDefEqProofs[hc,hh0,hsl,o5])
    all_goals exact ab (by omega) hho (by simp[below,hhl])
   by_cases e1:s.els=[]
   case neg=>
    have hf:=hf (by simp[e1,o5])
    have:=pe e1
    simp-implicitDefEqProofs[hh0,hsl,o5,e1,this,hf]
   by_cases e2:s.body=[]
   ·simp-implicitDefEqProofs[hh0,hsl,o5,e1,e2]
    exact ab (by omega) hho (by simp[below,hhl])
   have:=pb e2
   by_cases o6:s.op=6
   ·simp-implicitDefEqProofs[hh0,hsl,o6,e1,e2,this]
    exact ab (by omega) hho (by simp[below,hhl])
   ·have hf:=hf (by simp[e2,o5,o6])
    simp-implicitDefEqProofs[hh0,hsl,o5,o6,e1,e2,this,hf]
  intro _ ⟨h7,h8⟩
  have hm:(match s.args with|a::_=>decide (a.op=13)|[]=>false)=decide (a0.op=13):=by rw[ha]
  have hhd:gP s=true:=by
   have h6':(!decide (s.op=8)||(match s.args with|a::_=>decide (a.op=13)|[]=>false))=true:=by rw[hm];exact h6
   have h2':decide (s.args.length=jj s.op)=true:=by simp[h2]
   simp only[gP,h1,h2',h3,h4,h5,h7,h8,Bool.and_self,Bool.and_true,Bool.true_and]
   exact h6'
  simp-implicitDefEqProofs[hh0,hw']
  refine(ihs s.body (by omega)).use ?_
  by_cases hB:s.body.all (aD d)=true
  ·simp only[hB]
   simp-implicitDefEqProofs[hh0,hw']
   refine(ihs s.els (by omega)).use ?_
   have hf:aD (d+1) s=s.els.all (aD d):=by simp only[aD,hhd,hB,Bool.true_and]
   rw[hf]
   generalize s.els.all (aD d)=w
   simp-implicitDefEqProofs[]
  ·have hB':s.body.all (aD d)=false:=by simpa using hB
   have hf:aD (d+1) s=false:=by simp only[aD,hB',Bool.and_false,Bool.false_and]
   simp only[hB',hf]
   simp-implicitDefEqProofs[]
theorem Az(d:Nat)(hd:d≤1000)(l:List Sm)(hl:aq l≤1099511627776):VF Tryz.prog G bA [.p (smL l),.p (.int .i64 d)] (.p (.bool (l.all (aD d)))):=
 pU G d hd (Co G d hd) l hl
theorem Gf(f:Fd)(hf:f.sz≤1099511627776):VF Tryz.prog G lm [.agg (f.cs.map .p)] (.p (.bool (ju f))):=by
 refine AC.go wd ?_
 have hsz:f.sz=1+f.name.length+(f.params.length+(f.params.map List.length).sum)+aq f.body:=rfl
 have hps:∀x∈f.params,x.length≤(f.params.map List.length).sum:=fun x hx=>by
  have key:∀l:List (List UInt8),x∈l→x.length≤(l.map List.length).sum:=by
   intro l
   induction l with
   |nil=>intro h;cases h
   |cons y r ih=>
    intro h
    simp only[List.map_cons,List.sum_cons]
    rcases List.mem_cons.1 h with rfl|h
    ·omega
    ·have:=ih h;omega
  exact key _ hx
 have hst:aB f.params= .lst 1 (f.params.map fun w=>[.str w]):=rfl
 have h4:=Az G 4 (by omega) f.body (by omega)
 simp-implicitDefEqProofs[pC,Fd.cs,hst]
 refine au (fun i:Nat=>aj 32 [(1,.ptr 0 3 0 0),(3,.p (.int .i64 i))]) (fun _=>[.row 3 [[.p (.str f.name),.p (aB f.params),.p (smL f.body)]]]) (fun i=>i≤f.params.length∧(f.params.take i).all aw=true) (fun i=>f.params.length-i) 0 (by simp) (ab (by simp) (by simp[okO]) (by simp[below])) ?_
 intro i ⟨hi,hall⟩
 simp-implicitDefEqProofs[hst]
 refine aS (fun h=>?_) (fun h=>?_)
 ·simp at h
  have hg:=List.getElem?_eq_getElem h
  have hl:=hps _ (List.getElem_mem h)
  simp-implicitDefEqProofs[hg]
  refine(nH G _ (by omega)).use ?_
  by_cases hk:aw f.params[i]=true
  ·simp-implicitDefEqProofs[hk]
   exact⟨i+1,⟨h,by rw[←List.all_eq_true,db h,hall,hk];rfl⟩,by omega,ab (by simp) (by simp[okO]) (by simp[below,w1 (i:=i) (by omega)])⟩
  ·have hk':aw f.params[i]=false:=by simpa using hk
   have hff:ju f=false:=by simp only[ju,jP h hk',Bool.false_and]
   simp-implicitDefEqProofs[hk',hff]
 ·simp at h
  have h1:f.params.all aw=true:=eO h hall
  simp-implicitDefEqProofs[]
  refine(nH G _ (by omega)).use ?_
  by_cases h2:aw f.name=true
  case neg=>
   have h2':aw f.name=false:=by simpa using h2
   simp-implicitDefEqProofs[h2',ju]
  simp-implicitDefEqProofs[h2]
  by_cases h3:f.params.length≤3
  case neg=>
   have h3':¬(f.params.length:Int)≤3:=by omega
   simp-implicitDefEqProofs[h3,h3',ju]
  have h3':(f.params.length:Int)≤3:=by omega
  simp-implicitDefEqProofs[h3']
  refine h4.use ?_
  have hff:ju f=f.body.all (aD 4):=by simp only[ju,h1,h2,h3,decide_true,Bool.true_and]
  rw[hff]
  generalize f.body.all (aD 4)=w
  simp-implicitDefEqProofs[]
theorem AJ{l:List Sm}{i:Nat}(h:i<l.length):cS (l.take (i+1))=cS (l.take i)+l[i].cnt:=by
 rw[ag h,kM];simp[cS]
theorem oy(l:List Sm)(i:Nat):cS (l.take i)≤cS l:=by
 have:=kM (l.take i) (l.drop i)
 rw[List.take_append_drop] at this
 omega
def iG(l:List Sm)(i:Nat):Nat:=l.length+((l.take i).map fun s=>cS s.body+cS s.els).sum
theorem wW(l:List Sm):iG l 0=l.length:=by simp[iG]
theorem qD{l:List Sm}{i:Nat}(h:i<l.length):iG l (i+1)=iG l i+cS l[i].body+cS l[i].els:=by
 rw[iG,iG,ag h,List.map_append,List.sum_append]
 simp only[List.map_cons,List.map_nil,List.sum_cons,List.sum_nil]
 omega
theorem pc(l:List Sm):∀i,i≤l.length→cS (l.take i)+l.length=i+iG l i
 |0,_=>by simp[cS,iG]
 |i+1,h=>by
  have:=pc l i (by omega)
  rw[AJ (by omega),qD (by omega),(l[i]'(by omega)).cnt_eq]
  omega
theorem AM:∀(k:Nat) (l:List Sm),aq l≤k→k≤1099511627776→VF Tryz.prog G de [.p (smL l)] (.p (.int .i64 (cS l))):=by
 intro k
 induction k with
 |zero=>
  intro l hl _
  have:l=[]:=by
   cases l with
   |nil=>rfl
   |cons s r=>have:=s.sz_eq;simp only[aq] at hl;omega
  subst this
  refine AC.go lC ?_
  have hsl:smL []= .lst 5 []:=rfl
  simp-implicitDefEqProofs[gN,hsl]
  refine au (fun _:Unit=>aj 29 [(0,.p (.lst 5 [])),(3,.p (.int .i64 0)),(4,.p (.int .i64 0))]) (fun _=>[]) (fun _=>True) (fun _=>0) () trivial (aC rfl (by simp[below])) ?_
  intro _ _
  simp-implicitDefEqProofs[cS]
 |succ k ih=>
  intro l hl hk
  have hll:=aY l
  have hnz:=lF l
  refine AC.go lC ?_
  have hsl:∀l,smL l= .lst 5 (l.map Sm.cs):=fun _=>rfl
  simp-implicitDefEqProofs[gN,hsl]
  refine au (fun i:Nat=>aj 29 [(0,.p (smL l)),(3,.p (.int .i64 (iG l i))),(4,.p (.int .i64 i))]) (fun _=>[]) (fun i=>i≤l.length) (fun i=>l.length-i) 0 (by simp) (aC rfl (by simp[below,hsl,wW])) ?_
  intro i hi
  have k0:=pc l i hi
  have k2:=oy l i
  simp-implicitDefEqProofs[hsl]
  refine aS (fun h=>?_) (fun h=>?_)
  ·simp at h
   have hg:=List.getElem?_eq_getElem h
   have hks:=aN (List.getElem_mem h)
   have hse:=l[i].sz_eq
   have hce:=l[i].cs_eq
   have k1:=qD h
   have k3:=pc l (i+1) h
   have k4:=oy l (i+1)
   simp-implicitDefEqProofs[hg,hce]
   refine(ih l[i].body (by omega) (by omega)).use ?_
   simp-implicitDefEqProofs[hg,hce]
   refine(ih l[i].els (by omega) (by omega)).use ?_
   have w1':IntKind.i64.wrap ((iG l i:Int)+(cS l[i].body:Int))=(iG l i:Int)+(cS l[i].body:Int):=al (by omega) (by omega)
   have w2':IntKind.i64.wrap ((iG l i:Int)+(cS l[i].body:Int)+(cS l[i].els:Int))=(iG l (i+1):Int):=by rw[al (by omega) (by omega)];omega
   simp-implicitDefEqProofs[w1',w2']
   exact⟨i+1,h,by omega,aC rfl (by simp[below,hsl,w1 (i:=i) (by omega)])⟩
  ·simp at h
   rw[List.take_of_length_le h] at k0
   have:iG l i=cS l:=by omega
   simp-implicitDefEqProofs[this]
theorem cR:∀{l:List Fd} {f:Fd},f∈l→f.sz≤bX l
 |x::r,e,h=>by
  simp only[bX,List.map_cons,List.sum_cons]
  rcases List.mem_cons.1 h with rfl|h
  ·omega
  ·have:=cR h;simp only[bX] at this;omega
theorem bK:∀l:List Fd,l.length≤bX l
 |[]=>Nat.le_refl _
 |e::r=>by have:=bK r;simp only[bX,List.map_cons,List.sum_cons,List.length_cons] at this⊢;have:1≤e.sz:=by unfold Fd.sz;omega
           omega
def sb(l:List Fd)(i:Nat):Nat:=kb (l.take i)
theorem zx{l:List Fd}{i:Nat}(h:i<l.length):sb l (i+1)=sb l i+cS l[i].body:=by
 rw[sb,sb,kb,kb,ag h,List.map_append,List.sum_append];simp
theorem tS:∀l:List Fd,kb l≤bX l
 |[]=>Nat.le_refl _
 |f::r=>by
  have:=tS r
  have h2:=lF f.body
  simp only[kb,bX,List.map_cons,List.sum_cons] at this⊢
  have:aq f.body≤f.sz:=by unfold Fd.sz;omega
  omega
theorem EV(l:List Fd)(i:Nat):sb l i≤bX l:=by
 have h1:=tS (l.take i)
 have h2:bX (l.take i)≤bX l:=by
  have:bX l=bX (l.take i)+bX (l.drop i):=by
   rw[←List.take_append_drop i l,bX,List.map_append,List.sum_append];simp[bX]
  omega
 exact Nat.le_trans h1 h2
theorem EH(l:List Fd)(hl:bX l≤1099511627776):VF Tryz.prog G jV [.agg [.p (fdL l)]] (.p (.int .i64 (kb l))):=by
 refine AC.go uz ?_
 have hll:=bK l
 have hfl:∀l,fdL l= .lst 3 (l.map Fd.cs):=fun _=>rfl
 simp-implicitDefEqProofs[oq]
 refine au (fun i:Nat=>aj 22 [(1,.ptr 0 1 0 0),(3,.p (.int .i64 (sb l i))),(4,.p (.int .i64 i))]) (fun _=>[.row 1 [[.p (fdL l)]]]) (fun i=>i≤l.length) (fun i=>l.length-i) 0 (by simp) (ab (by simp) (by simp[okO]) (by simp[below,sb,kb])) ?_
 intro i hi
 simp-implicitDefEqProofs[hfl]
 refine aS (fun h=>?_) (fun h=>?_)
 ·simp at h
  have hg:=List.getElem?_eq_getElem h
  have hks:=cR (List.getElem_mem h)
  have hse:l[i].sz=1+l[i].name.length+(l[i].params.length+(l[i].params.map List.length).sum)+aq l[i].body:=rfl
  have hce:l[i].cs=[.str l[i].name,aB l[i].params,smL l[i].body]:=rfl
  have k1:=zx h
  have k2:=EV l (i+1)
  simp-implicitDefEqProofs[hg,hce]
  refine(AM G _ l[i].body (Nat.le_refl _) (by omega)).use ?_
  have w1':IntKind.i64.wrap ((sb l i:Int)+(cS l[i].body:Int))=(sb l (i+1):Int):=by rw[al (by omega) (by omega)];omega
  simp-implicitDefEqProofs[w1']
  exact⟨i+1,h,by omega,ab (by simp) (by simp[okO]) (by simp[below,w1 (i:=i) (by omega),hfl])⟩
 ·simp at h
  have:sb l i=kb l:=by rw[sb,List.take_of_length_le h]
  simp-implicitDefEqProofs[this]
theorem rf(l:List Fd)(hl:bX l≤1099511627776):VF Tryz.prog G dG [.agg [.p (fdL l)]] (.p (.bool (co l))):=by
 refine AC.go lU ?_
 have hfl:∀l,fdL l= .lst 3 (l.map Fd.cs):=fun _=>rfl
 have hall:=EH G l hl
 have hll:=bK l
 rw[hfl] at hall
 simp-implicitDefEqProofs[gq,hfl]
 refine(mS G _ _ _).use ?_
 by_cases h1:inR l.length 1 4=true
 case neg=>simp-implicitDefEqProofs[h1,co]
 simp-implicitDefEqProofs[h1]
 refine au (fun i:Nat=>aj 26 [(1,.ptr 0 1 0 0),(3,.p (.int .i64 i))]) (fun _=>[.row 1 [[.p (.lst 3 (l.map Fd.cs))]]]) (fun i=>i≤l.length∧(l.take i).all ju=true) (fun i=>l.length-i) 0 (by simp) (ab (by simp) (by simp[okO]) (by simp[below])) ?_
 intro i ⟨hi,ha⟩
 simp-implicitDefEqProofs[]
 refine aS (fun h=>?_) (fun h=>?_)
 ·simp at h
  have hg:=List.getElem?_eq_getElem h
  have hks:=cR (List.getElem_mem h)
  simp-implicitDefEqProofs[hg]
  refine(Gf G l[i] (by omega)).use ?_
  by_cases hk:ju l[i]=true
  ·simp-implicitDefEqProofs[hk]
   exact⟨i+1,⟨h,by rw[←List.all_eq_true,db h,ha,hk];rfl⟩,by omega,ab (by simp) (by simp[okO]) (by simp[below,w1 (i:=i) (by omega)])⟩
  ·have hk':ju l[i]=false:=by simpa using hk
   have hff:co l=false:=by simp only[co,jP h hk',Bool.and_false,Bool.false_and]
   simp-implicitDefEqProofs[hk',hff]
 ·simp at h
  have h2:l.all ju=true:=eO h ha
  simp-implicitDefEqProofs[]
  refine hall.use ?_
  have hff:co l=decide (kb l≤40):=by simp only[co,h1,h2,Bool.true_and]
  simp-implicitDefEqProofs[hff]
  omega
end Go.Proofs.YtnjbhgpbgmpkcaaGreatDoor
namespace Go.Proofs.YtnjbhgpbgmpkcaaGreatDoor
open Go Go.Aw
set_option maxRecDepth 100000
set_option maxHeartbeats 4000000
theorem dW{n:Nat}{h h1:List AO}(e:h.take n=h1)(hn:h1.length=n)(ho:∀o∈h1,okO n o):Fst n h h1:=by
 have hl:n≤h.length:=by
  have:=congrArg List.length e
  rw[List.length_take] at this;omega
 have hg:∀(i:Nat) (o:AO),h1[i]?=some o→h[i]?=some o:=fun i o hi=>by
  have h2:=(List.getElem?_eq_some_iff.1 hi).1
  rw[←e,List.getElem?_take_of_lt (by omega)] at hi
  exact hi
 exact⟨hn,hl,fun i sz es hi=>⟨hg _ _ hi,ho _ (List.mem_of_getElem? hi)⟩,fun i es hi=>⟨hg _ _ hi,ho _ (List.mem_of_getElem? hi)⟩,fun i s p hi=>hg _ _ hi⟩
theorem tx:∀(r:List AO) (s:Nat),((eN (List.range' s r.length++[0]) (r++[.dead])).Nodup∧∀i∈eN (List.range' s r.length++[0]) (r++[.dead]),s≤i)
 |[],s=>by simp[eN]
 |o::r,s=>by
  obtain⟨h1,h2⟩:=tx r (s+1)
  rw[List.length_cons,List.range'_succ]
  cases o with
  |dead=>exact⟨h1,fun i hi=>Nat.le_of_succ_le (h2 i hi)⟩
  |_=>exact⟨List.nodup_cons.2 ⟨fun hm=>absurd (h2 _ hm) (by omega),h1⟩,fun i hi=>by
   rcases List.mem_cons.1 hi with rfl|hi
   ·exact Nat.le_refl _
   ·exact Nat.le_of_succ_le (h2 i hi)⟩
theorem vr{h:List AO}(hp:0<h.length)(ho:∀o∈h,okO h.length o):∀(r:List AO) (s:Nat),(∀i:Nat,r[i]?=h[s+i]?)→s+r.length=h.length→HW (List.range' 0 h.length++[0]) h (List.range' s r.length++[0]) (r++[.dead])
 |[],s,_,_=>bO hp bp
 |o::r,s,hr,hs=>by
  have hσ:∀i,i<h.length→(List.range' 0 h.length++[0]).getD i 0=i:=fun i hi=>by
   rw[List.getD_eq_getElem?_getD,List.getElem?_append_left (by simp;exact hi)];simp[hi]
  rw[List.length_cons,List.range'_succ]
  have h0:=hr 0
  have ih:=vr hp ho r (s+1) (fun i=>by have:=hr (i+1);rw[List.getElem?_cons_succ] at this;rw[this];congr 1;omega) (by simp at hs;omega)
  have hm:h[s]?=some o:=by simpa using h0.symm
  have hok:=ho o (List.mem_of_getElem? hm)
  cases o with
  |dead=>exact bO (List.getElem?_eq_some_iff.1 hm).1 ih
  |row sz es=>
   refine qB (fun x hx=>aJ (by simp) _ (hok x hx)) ?_ ih
   rw[hm,List.map_congr_left (g:=id) fun x hx=>jf hσ x (hok x hx)];simp
  |mp es=>exact⟨(List.getElem?_eq_some_iff.1 hm).1,⟨fun x hx=>by exact(aJ (by simp) [x.2] ⟨hok x hx,trivial⟩).1,by rw[hm,List.map_congr_left (g:=id) fun x hx=>by rw[jK hσ x.2 (hok x hx)];rfl];simp⟩,ih⟩
  |sit s p=>exact⟨(List.getElem?_eq_some_iff.1 hm).1,hm,ih⟩
theorem vY{m:Nat}{l:List (Nat × AV)}:∀r:List (Nat × AV),FgA m l r→TWA (List.range' 0 m++[0]) l r
 |[],_=>trivial
 |x::r,⟨⟨a,c⟩,d⟩=>by
  have hσ:∀i,i<m→(List.range' 0 m++[0]).getD i 0=i:=fun i hi=>by
   rw[List.getD_eq_getElem?_getD,List.getElem?_append_left (by simp;exact hi)];simp[hi]
  exact⟨⟨(aJ (by simp) [x.2] ⟨a,trivial⟩).1,by rw[jK hσ _ a,c]⟩,vY r d⟩
theorem wx{k n:Nat}{l l1:List (Nat × AV)}{h:List AO}(hk:k≤h.length)(hp:0<h.length)(ho:∀o∈h,okO h.length o)(H:FgA h.length l l1):Wk k (aj n l) h (aj n l1) (h++[.dead]):=by
 have hσ:∀i,i<h.length→(List.range' 0 h.length++[0]).getD i 0=i:=fun i hi=>by
  rw[List.getD_eq_getElem?_getD,List.getElem?_append_left (by simp;exact hi)];simp[hi]
 refine ou (List.range' 0 h.length++[0]) (by simp;omega) (fun i hi=>hσ i (by omega)) ?_ ?_ (vY _ H)
 ·exact(tx h 0).1
 ·exact vr hp ho h 0 (fun i=>by simp) (by simp)
theorem cJ{n:Nat}{o:AO}(h:okO 0 o):okO n o:=by
 cases o with
 |dead=>trivial
 |sit=>trivial
 |row sz es=>exact fun e he=>aJ (Nat.zero_le _) _ (h e he)
 |mp es=>exact fun e he=>(aJ (Nat.zero_le n) [e.2] ⟨h e he,trivial⟩).1
def exR(l:List Ex):List (List AV):=l.map fun e=>e.cs.map .p
theorem nJ(l:List Ex):∀x∈exR l,ah 0 x:=by
 intro x hx;obtain⟨m,_,rfl⟩:=List.mem_map.1 hx;simp
def smR(l:List Sm):List (List AV):=l.map fun s=>s.cs.map .p
theorem hY(l:List Sm):∀x∈smR l,ah 0 x:=by
 intro x hx;obtain⟨m,_,rfl⟩:=List.mem_map.1 hx;simp
theorem Eb(l:List Sm):(smR l).length=l.length:=by simp[smR]
theorem Eg(a b:List Sm):smR (a++b)=smR a++smR b:=by simp[smR]
theorem CX{h:List AO}{id:Nat}{l:List Sm}(e:h[id]?=some (.row 5 (smR l))):View h (.sl id 5 0 l.length) (smL l):=by
 have:=fY (h:=h) (id:=id) (sz:=5) (n:=l.length) (ls:=l.map Sm.cs) (by rw[e,smR];simp) (by simp) (fun x hx=>by obtain⟨b,_,rfl⟩:=List.mem_map.1 hx;exact b.cs_len)
 exact this
theorem dB{n:Nat}:∀o∈([]:List AO),okO n o:=fun o h=>by cases h
theorem ae{n:Nat}{a:AO}{l:List AO}(h:okO n a)(r:∀o∈l,okO n o):∀o∈a::l,okO n o:=fun o ho=>by
 rcases List.mem_cons.1 ho with rfl|ho
 ·exact h
 ·exact r o ho
end Go.Proofs.YtnjbhgpbgmpkcaaGreatDoor
namespace Go.Proofs.YtnjbhgpbgmpkcaaGreatDoor
open Go Go.Aw
set_option maxRecDepth 100000
set_option maxHeartbeats 4000000
variable (G:aA)
theorem jk(n lo hi:Int):VF Tryz.prog G bQ [.p (.int .i64 n),.p (.int .i64 lo),.p (.int .i64 hi)] (.p (.bool (inR n lo hi))):=by
 refine AC.go ta ?_
 by_cases h:lo≤n
 ·simp-implicitDefEqProofs[jc,h,inR]
 ·simp-implicitDefEqProofs[jc,h,inR]
theorem Dt(n:Int):VF Tryz.prog G fW [.p (.int .i64 n)] (.p (.bool (inR n 0 255))):=by
 refine AC.go sY ?_
 simp-implicitDefEqProofs[ml]
 refine(jk G _ _ _).use ?_
 simp-implicitDefEqProofs[]
theorem xi(n:Int):VF Tryz.prog G cd [.p (.int .i32 n)] (.p (.bool (decide (n<97)||decide (122<n)))):=by
 refine AC.go qi ?_
 simp-implicitDefEqProofs[kn]
 by_cases h:n<97
 ·simp-implicitDefEqProofs[h]
 ·simp-implicitDefEqProofs[h]
theorem Ek{s:List UInt8}{i:Nat}(h:i<s.length)(hl:cF s[i]=true):Utf8.decode ⟨⟨s⟩⟩ i=(s[i].toNat,1):=by
 simp only[cF,Bool.and_eq_true,decide_eq_true_eq] at hl
 exact decode_ascii ⟨⟨s⟩⟩ i h (by show(s[i]).toNat<128;omega)
theorem zh{s:List UInt8}{i:Nat}(h:i<s.length)(hl:¬cF s[i]=true):(((Utf8.decode ⟨⟨s⟩⟩ i).1:Int)<97∨122<((Utf8.decode ⟨⟨s⟩⟩ i).1:Int)):=by
 rcases Nat.lt_or_ge s[i].toNat 128 with h1|h1
 ·rw[show Utf8.decode ⟨⟨s⟩⟩ i=(s[i].toNat,1) from decode_ascii ⟨⟨s⟩⟩ i h h1]
  simp[cF] at hl
  simp only
  omega
 ·have:=(decode_high ⟨⟨s⟩⟩ i h h1).1
  omega
theorem uS(s:List UInt8)(hb:s.length≤140737488355328):VF Tryz.prog G dH [.p (.str s),.fn (.func cd) [],.p (.bool true)] (.p (.int .i64 (tY s))):=by
 refine AC.go mb ?_
 simp-implicitDefEqProofs[gv]
 refine au (fun i:Nat=>aj 21 [(0,.p (.str s)),(1,.fn (.func cd) []),(2,.p (.bool true)),(10,.it 0)]) (fun i=>[.sit s i]) (fun i=>i≤s.length∧∀x∈s.take i,cF x=true) (fun i=>s.length-i) 0 (by simp) ?_ ?_
 ·exact ab (by simp) (by simp[okO]) (by simp[below,ah])
 ·intro i ⟨hi,hn⟩
  simp-implicitDefEqProofs[]
  by_cases h1:i<s.length
  ·have hg:=List.getElem?_eq_getElem h1
   simp-implicitDefEqProofs[h1]
   refine(xi G _).use ?_
   by_cases hl:cF s[i]=true
   ·have hd:=Ek h1 hl
    have hl':=hl
    simp only[cF,Bool.and_eq_true,decide_eq_true_eq] at hl'
    have e1:¬((s[i].toNat:Int)<97):=by omega
    have e2:¬(122<(s[i].toNat:Int)):=by omega
    rw[hd]
    simp-implicitDefEqProofs[e1,e2]
    refine⟨i+1,⟨h1,fun p hp=>?_⟩,by omega,ab (by simp) (by simp[okO]) (by simp[below,ah])⟩
    rw[ag h1] at hp
    rcases List.mem_append.1 hp with hp|hp
    ·exact hn p hp
    ·rw[List.mem_singleton.1 hp];exact hl
   ·have hd:=zh h1 hl
    have hf:tY s=i:=by
     have:s.findIdx? (fun x=> !cF x)=some i:=by
      rw[List.findIdx?_eq_some_iff_getElem]
      exact⟨h1,by simpa using hl,fun j hj=>by have:=hn s[j] (List.mem_take_iff_getElem.2 ⟨j,by omega,rfl⟩);simpa using this⟩
     rw[tY,this]
    have hdb:(decide (((Utf8.decode ⟨⟨s⟩⟩ i).1:Int)<97)||decide (122<((Utf8.decode ⟨⟨s⟩⟩ i).1:Int)))=true:=by
     rcases hd with h|h<;>simp[h]
    rw[hdb]
    simp-implicitDefEqProofs[hf]
  ·have hn':=hn
   rw[List.take_of_length_le (by omega)] at hn'
   have hf:tY s= -1:=by
    have:s.findIdx? (fun x=> !cF x)=none:=by
     rw[List.findIdx?_eq_none_iff];intro x hx;simpa using hn' x hx
    rw[tY,this]
   simp-implicitDefEqProofs[h1,hf]
theorem vE(s:List UInt8)(hb:s.length≤140737488355328):VF Tryz.prog G dO [.p (.str s),.fn (.func cd) []] (.p (.int .i64 (tY s))):=by
 refine AC.go lX ?_
 simp-implicitDefEqProofs[gt]
 refine(uS G s hb).use ?_
 simp-implicitDefEqProofs[]
theorem DX(L:List (List UInt8))(s:List UInt8)(hb:L.length≤1048576):VF Tryz.prog G dc [.p (aB L),.p (.str s)] (.p (.int .i64 (idxS L s))):=by
 refine AC.go kr ?_
 have hsl:aB L= .lst 1 (L.map fun w=>[.str w]):=rfl
 simp-implicitDefEqProofs[fv,hsl]
 refine au (fun i:Nat=>aj 19 [(0,.p (aB L)),(1,.p (.str s)),(6,.p (aB L)),(7,.p (.int .i64 L.length)),(8,.p (.int .i64 i))]) (fun _=>[]) (fun i=>i≤L.length∧∀w∈L.take i,w≠s) (fun i=>L.length-i) 0 (by simp) ?_ ?_
 ·exact aC rfl (by simp[below,aB])
 ·intro i ⟨hi,hn⟩
  simp-implicitDefEqProofs[hsl]
  refine aS (fun h1=>?_) (fun h1=>?_)
  ·simp at h1
   have hg:=List.getElem?_eq_getElem h1
   by_cases he:L[i]=s
   ·have hf:idxS L s=i:=by
     have:L.findIdx? (fun w=>w==s)=some i:=by
      rw[List.findIdx?_eq_some_iff_getElem]
      exact⟨h1,by simpa using he,fun j hj=>by have:=hn L[j] (List.mem_take_iff_getElem.2 ⟨j,by omega,rfl⟩);simpa using this⟩
     rw[idxS,this]
    have he':s=L[i]:=he.symm
    simp-implicitDefEqProofs[hg,hf,←he']
   ·have he':¬s=L[i]:=fun e=>he e.symm
    simp-implicitDefEqProofs[hg,he']
    refine⟨i+1,⟨h1,fun p hp=>?_⟩,by omega,aC rfl ?_⟩
    ·rw[ag h1] at hp
     rcases List.mem_append.1 hp with hp|hp
     ·exact hn p hp
     ·rw[List.mem_singleton.1 hp];exact he
    ·simp[below,aB,w1 (i:=i) (by omega)]
  ·simp at h1
   rw[List.take_of_length_le h1] at hn
   have hf:idxS L s= -1:=by
    have:L.findIdx? (fun w=>w==s)=none:=by
     rw[List.findIdx?_eq_none_iff];intro x hx;simpa using hn x hx
    rw[idxS,this]
   simp-implicitDefEqProofs[hf]
theorem ye(L:List (List UInt8))(s:List UInt8)(hb:L.length≤1048576):VF Tryz.prog G cm [.p (aB L),.p (.str s)] (.p (.bool (L.contains s))):=by
 rw[←BE]
 refine AC.go iX ?_
 simp-implicitDefEqProofs[dX]
 refine(DX G L s hb).use ?_
 simp-implicitDefEqProofs[]
abbrev iW:Nat:=1
def ij:List PV:=keyW.map .str
variable (hK:G iW=some ij)
include hK
theorem lf(s:List UInt8)(hb:s.length≤140737488355328):VF Tryz.prog G bc [.p (.str s)] (.p (.bool (aw s))):=by
 refine AC.go tc ?_
 unfold iW at hK
 simp-implicitDefEqProofs[mv]
 refine(jk G _ _ _).use ?_
 have hr:inR (s.length:Int) 1 4=(decide (0<s.length)&&decide (s.length≤4)):=by
  unfold inR
  by_cases h1:0<s.length<;>by_cases h2:s.length≤4<;>simp[h1,h2]<;>omega
 rw[hr]
 have hi:aw s=((decide (0<s.length)&&decide (s.length≤4))&&(s.all cF&& !keyW.contains s)):=by
  rw[aw];cases s.all cF<;>cases decide (0<s.length)<;>cases decide (s.length≤4)<;>rfl
 cases h1:(decide (0<s.length)&&decide (s.length≤4)) with
 |false=>
  rw[hi,h1]
  simp-implicitDefEqProofs[]
 |true=>
  rw[hi,h1]
  simp-implicitDefEqProofs[]
  refine(vE G s hb).use ?_
  rw[←CC]
  by_cases hn:tY s<0
  ·simp-implicitDefEqProofs[hn,hK,ij,keyW]
   refine(ye G keyW s (by decide)).use ?_
   simp-implicitDefEqProofs[keyW]
  ·simp-implicitDefEqProofs[hn]
end Go.Proofs.YtnjbhgpbgmpkcaaGreatDoor
