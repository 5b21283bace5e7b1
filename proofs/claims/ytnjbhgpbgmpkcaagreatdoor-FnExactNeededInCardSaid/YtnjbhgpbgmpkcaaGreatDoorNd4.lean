/-
  Contracts and lemmas that the card needs, part 4.
-/
import Derived.Test.YtnjbhgpbgmpkcaaGreatDoorNd3
import Derived.Test.YtnjbhgpbgmpkcaaGreatDoorRows
import Derived.Laws.RangeAny
import Derived.Laws.RangeString
namespace Go.Proofs.YtnjbhgpbgmpkcaaGreatDoor
open Go Go.Aw
set_option maxRecDepth 100000
abbrev fO:FuncId:=136
abbrev gh:FuncId:=208
abbrev dA:FuncId:=192
abbrev gi:FuncId:=167
abbrev cf:FuncId:=137
abbrev jh:FuncId:=87
abbrev ke:FuncId:=44
abbrev dK:FuncId:=12
abbrev cI:FuncId:=138
abbrev dd:FuncId:=209
abbrev bH:FuncId:=193
abbrev dg:FuncId:=168
abbrev bh:FuncId:=139
abbrev eX:FuncId:=89
abbrev fv:FuncId:=47
abbrev bw:FuncId:=14
abbrev bI:FuncId:=76
abbrev iK:FuncId:=219
abbrev iI:FuncId:=212
abbrev ky:FuncId:=198
abbrev eA:FuncId:=213
abbrev kh:FuncId:=199
abbrev bX:FuncId:=173
abbrev gu:FuncId:=214
abbrev gt:FuncId:=222
abbrev eq:FuncId:=220
abbrev fB:FuncId:=221
abbrev dF:FuncId:=215
abbrev gv:FuncId:=200
abbrev bF:FuncId:=174
abbrev ln:FuncId:=154
abbrev dr:FuncId:=175
abbrev kz:FuncId:=155
abbrev dZ:FuncId:=118
abbrev eV:FuncId:=111
abbrev aF:FuncId:=112
abbrev cb:FuncId:=147
abbrev ec:FuncId:=148
abbrev bJ:FuncId:=113
abbrev bK:FuncId:=150
abbrev aX:FuncId:=149
abbrev aM:FuncId:=114
abbrev jj:FuncId:=70
abbrev dY:FuncId:=88
abbrev jl:FuncId:=45
abbrev cx:FuncId:=74
abbrev dX:FuncId:=187
abbrev dS:FuncId:=159
abbrev dj:FuncId:=188
abbrev cB:FuncId:=161
abbrev cr:FuncId:=160
abbrev be:FuncId:=126
abbrev co:FuncId:=162
abbrev bO:FuncId:=127
abbrev bP:FuncId:=189
abbrev bq:FuncId:=163
abbrev eI:FuncId:=190
abbrev gn:FuncId:=217
abbrev fD:FuncId:=218
abbrev db:FuncId:=207
abbrev dH:FuncId:=191
abbrev gl:FuncId:=165
abbrev bZ:FuncId:=164
abbrev cg:FuncId:=129
abbrev cR:FuncId:=100
abbrev dE:FuncId:=135
abbrev hZ:FuncId:=86
abbrev aV:FuncId:=128
abbrev cF:FuncId:=78
abbrev ck:FuncId:=99
abbrev er:FuncId:=130
abbrev eY:FuncId:=79
abbrev an:FuncId:=80
abbrev aU:FuncId:=60
abbrev dL:FuncId:=120
abbrev bl:FuncId:=108
abbrev bt:FuncId:=166
abbrev bR:FuncId:=131
abbrev aG:FuncId:=81
abbrev dT:FuncId:=32
abbrev lw:FuncId:=48
abbrev fR:FuncId:=140
abbrev gk:FuncId:=210
abbrev dv:FuncId:=194
abbrev gq:FuncId:=169
abbrev cH:FuncId:=141
abbrev iX:FuncId:=91
abbrev kD:FuncId:=50
abbrev ga:FuncId:=17
@[reducible] def oM(d s:Nat):CO:=⟨some d,none,.mov (.t s)⟩
@[reducible] def oL(d s:Nat):CO:=⟨some d,none,.ld none (.t s)⟩
@[reducible] def oF(d i s:Nat):CO:=⟨some d,none,.fldA i (.t s)⟩
@[reducible] def oN(d s:Nat):CO:=⟨some d,none,.nilck (.t s)⟩
@[reducible] def oS(d s:Nat):CO:=⟨none,none,.st 1 (.t d) (.t s)⟩
@[reducible] def oK(d n:Nat):CO:=⟨some d,none,.mov (.c (.p (.int .i64 n)))⟩
@[reducible] def oJ(d:Nat)(o:AI):CO:=⟨some d,none,o⟩
def fY:FK:=⟨28,[.t 4],
 .seq (.reg [oK 4 0])
 (.seq (.reg [oM 6 1,
   oM 7 0,
   oJ 8 (.len false (.t 7)),
   oJ 9 (.bin .sub (.t 6) (.t 8)),
   oM 1 9])
 (.seq (.seq (.reg [oM 10 1,
   oJ 11 (.bin .lss (.t 10) (.c (.p (.int .i64 0))))])
 (.cond (.t 11)
  (.seq (.reg [oJ 4 (.mov (.c (.p (.int .i64 (-1)))))])
  (.ret))
  (.skip)))
 (.seq (.seq (.reg [oK 5 0])
 (.blk 0 (.loop (.seq (.seq (.reg [oM 12 5,
   oM 13 0,
   oJ 14 (.len false (.t 13)),
   oJ 15 (.bin .lss (.t 12) (.t 14))])
 (.cond (.t 15)
  (.skip)
  (.exit 0)))
 (.seq (.blk 1 (.seq (.reg [oM 18 1,
   oM 19 0,
   oM 20 5,
   oJ 21 (.idxS 1 (.t 19) (.t 20)),
   oL 22 21,
   oJ 23 (.len true (.t 22)),
   oJ 24 (.bin .sub (.t 18) (.t 23)),
   oM 1 24])
 (.seq (.reg [oM 25 1,
   oJ 26 (.bin .lss (.t 25) (.c (.p (.int .i64 0))))])
 (.cond (.t 26)
  (.seq (.reg [oJ 4 (.mov (.c (.p (.int .i64 (-1)))))])
  (.ret))
  (.skip)))))
 (.reg [oM 16 5,
   oJ 17 (.bin .add (.t 16) (.c (.p (.int .i64 1)))),
   oM 5 17]))))))
 (.seq (.reg [oM 27 1,
   oM 4 27])
 (.ret)))))⟩
theorem qi:ag Tryz.prog fO=some fY:=by kernel_rfl
def jn:FK:=⟨19,[.t 4],
 .seq (.reg [oJ 2 (.box 4 (.t 0)),
  oK 4 0])
 (.seq (.reg [oM 5 1,
   oF 6 2 2,
   oL 7 6,
   oJ 8 (.len true (.t 7)),
   oJ 9 (.bin .sub (.t 5) (.t 8)),
   oM 1 9])
 (.seq (.seq (.reg [oM 10 1,
   oJ 11 (.bin .lss (.t 10) (.c (.p (.int .i64 0))))])
 (.cond (.t 11)
  (.seq (.reg [oJ 4 (.mov (.c (.p (.int .i64 (-1)))))])
  (.ret))
  (.skip)))
 (.seq (.reg [oF 12 3 2,
   oL 13 12,
   oM 14 1,
   oJ 15 (.call dA [(.t 13),(.t 14)]),
   oM 1 15])
 (.seq (.seq (.reg [oM 16 1,
   oJ 17 (.bin .lss (.t 16) (.c (.p (.int .i64 0))))])
 (.cond (.t 17)
  (.seq (.reg [oJ 4 (.mov (.c (.p (.int .i64 (-1)))))])
  (.ret))
  (.skip)))
 (.seq (.reg [oM 18 1,
   oM 4 18])
 (.ret))))))⟩
theorem tO:ag Tryz.prog gh=some jn:=by kernel_rfl
def iw:FK:=⟨27,[.t 4],
 .seq (.reg [oK 4 0])
 (.seq (.reg [oM 6 1,
   oM 7 0,
   oJ 8 (.len false (.t 7)),
   oJ 9 (.bin .sub (.t 6) (.t 8)),
   oM 1 9])
 (.seq (.seq (.reg [oM 10 1,
   oJ 11 (.bin .lss (.t 10) (.c (.p (.int .i64 0))))])
 (.cond (.t 11)
  (.seq (.reg [oJ 4 (.mov (.c (.p (.int .i64 (-1)))))])
  (.ret))
  (.skip)))
 (.seq (.seq (.reg [oK 5 0])
 (.blk 0 (.loop (.seq (.seq (.reg [oM 12 5,
   oM 13 0,
   oJ 14 (.len false (.t 13)),
   oJ 15 (.bin .lss (.t 12) (.t 14))])
 (.cond (.t 15)
  (.skip)
  (.exit 0)))
 (.seq (.blk 1 (.seq (.reg [oM 18 0,
   oM 19 5,
   oJ 20 (.idxS 4 (.t 18) (.t 19)),
   oJ 21 (.ld (some 4) (.t 20)),
   oM 22 1,
   oJ 23 (.call gh [(.t 21),(.t 22)]),
   oM 1 23])
 (.seq (.reg [oM 24 1,
   oJ 25 (.bin .lss (.t 24) (.c (.p (.int .i64 0))))])
 (.cond (.t 25)
  (.seq (.reg [oJ 4 (.mov (.c (.p (.int .i64 (-1)))))])
  (.ret))
  (.skip)))))
 (.reg [oM 16 5,
   oJ 17 (.bin .add (.t 16) (.c (.p (.int .i64 1)))),
   oM 5 17]))))))
 (.seq (.reg [oM 26 1,
   oM 4 26])
 (.ret)))))⟩
theorem rS:ag Tryz.prog dA=some iw:=by kernel_rfl
def jx:FK:=⟨31,[.t 4],
 .seq (.reg [oJ 2 (.box 5 (.t 0)),
  oK 4 0])
 (.seq (.reg [oM 5 1,
   oF 6 1 2,
   oL 7 6,
   oJ 8 (.len true (.t 7)),
   oJ 9 (.bin .sub (.t 5) (.t 8)),
   oM 1 9])
 (.seq (.seq (.reg [oM 10 1,
   oJ 11 (.bin .lss (.t 10) (.c (.p (.int .i64 0))))])
 (.cond (.t 11)
  (.seq (.reg [oJ 4 (.mov (.c (.p (.int .i64 (-1)))))])
  (.ret))
  (.skip)))
 (.seq (.reg [oF 12 2 2,
   oL 13 12,
   oM 14 1,
   oJ 15 (.call dA [(.t 13),(.t 14)]),
   oM 1 15])
 (.seq (.seq (.reg [oM 16 1,
   oJ 17 (.bin .lss (.t 16) (.c (.p (.int .i64 0))))])
 (.cond (.t 17)
  (.seq (.reg [oJ 4 (.mov (.c (.p (.int .i64 (-1)))))])
  (.ret))
  (.skip)))
 (.seq (.reg [oF 18 3 2,
   oL 19 18,
   oM 20 1,
   oJ 21 (.call cf [(.t 19),(.t 20)]),
   oM 1 21])
 (.seq (.seq (.reg [oM 22 1,
   oJ 23 (.bin .lss (.t 22) (.c (.p (.int .i64 0))))])
 (.cond (.t 23)
  (.seq (.reg [oJ 4 (.mov (.c (.p (.int .i64 (-1)))))])
  (.ret))
  (.skip)))
 (.seq (.reg [oF 24 4 2,
   oL 25 24,
   oM 26 1,
   oJ 27 (.call cf [(.t 25),(.t 26)]),
   oM 1 27])
 (.seq (.seq (.reg [oM 28 1,
   oJ 29 (.bin .lss (.t 28) (.c (.p (.int .i64 0))))])
 (.cond (.t 29)
  (.seq (.reg [oJ 4 (.mov (.c (.p (.int .i64 (-1)))))])
  (.ret))
  (.skip)))
 (.seq (.reg [oM 30 1,
   oM 4 30])
 (.ret))))))))))⟩
theorem tJ:ag Tryz.prog gi=some jx:=by kernel_rfl
def ic:FK:=⟨27,[.t 4],
 .seq (.reg [oK 4 0])
 (.seq (.reg [oM 6 1,
   oM 7 0,
   oJ 8 (.len false (.t 7)),
   oJ 9 (.bin .sub (.t 6) (.t 8)),
   oM 1 9])
 (.seq (.seq (.reg [oM 10 1,
   oJ 11 (.bin .lss (.t 10) (.c (.p (.int .i64 0))))])
 (.cond (.t 11)
  (.seq (.reg [oJ 4 (.mov (.c (.p (.int .i64 (-1)))))])
  (.ret))
  (.skip)))
 (.seq (.seq (.reg [oK 5 0])
 (.blk 0 (.loop (.seq (.seq (.reg [oM 12 5,
   oM 13 0,
   oJ 14 (.len false (.t 13)),
   oJ 15 (.bin .lss (.t 12) (.t 14))])
 (.cond (.t 15)
  (.skip)
  (.exit 0)))
 (.seq (.blk 1 (.seq (.reg [oM 18 0,
   oM 19 5,
   oJ 20 (.idxS 5 (.t 18) (.t 19)),
   oJ 21 (.ld (some 5) (.t 20)),
   oM 22 1,
   oJ 23 (.call gi [(.t 21),(.t 22)]),
   oM 1 23])
 (.seq (.reg [oM 24 1,
   oJ 25 (.bin .lss (.t 24) (.c (.p (.int .i64 0))))])
 (.cond (.t 25)
  (.seq (.reg [oJ 4 (.mov (.c (.p (.int .i64 (-1)))))])
  (.ret))
  (.skip)))))
 (.reg [oM 16 5,
   oJ 17 (.bin .add (.t 16) (.c (.p (.int .i64 1)))),
   oM 5 17]))))))
 (.seq (.reg [oM 26 1,
   oM 4 26])
 (.ret)))))⟩
theorem rq:ag Tryz.prog cf=some ic:=by kernel_rfl
def mc:FK:=⟨25,[.t 4],
 .seq (.reg [oJ 2 (.box 3 (.t 0)),
  oK 4 0])
 (.seq (.reg [oM 5 1,
   oF 6 0 2,
   oL 7 6,
   oJ 8 (.len true (.t 7)),
   oJ 9 (.bin .sub (.t 5) (.t 8)),
   oM 1 9])
 (.seq (.seq (.reg [oM 10 1,
   oJ 11 (.bin .lss (.t 10) (.c (.p (.int .i64 0))))])
 (.cond (.t 11)
  (.seq (.reg [oJ 4 (.mov (.c (.p (.int .i64 (-1)))))])
  (.ret))
  (.skip)))
 (.seq (.reg [oF 12 1 2,
   oL 13 12,
   oM 14 1,
   oJ 15 (.call fO [(.t 13),(.t 14)]),
   oM 1 15])
 (.seq (.seq (.reg [oM 16 1,
   oJ 17 (.bin .lss (.t 16) (.c (.p (.int .i64 0))))])
 (.cond (.t 17)
  (.seq (.reg [oJ 4 (.mov (.c (.p (.int .i64 (-1)))))])
  (.ret))
  (.skip)))
 (.seq (.reg [oF 18 2 2,
   oL 19 18,
   oM 20 1,
   oJ 21 (.call cf [(.t 19),(.t 20)]),
   oM 1 21])
 (.seq (.seq (.reg [oM 22 1,
   oJ 23 (.bin .lss (.t 22) (.c (.p (.int .i64 0))))])
 (.cond (.t 23)
  (.seq (.reg [oJ 4 (.mov (.c (.p (.int .i64 (-1)))))])
  (.ret))
  (.skip)))
 (.seq (.reg [oM 24 1,
   oM 4 24])
 (.ret))))))))⟩
theorem wx:ag Tryz.prog jh=some mc:=by kernel_rfl
def kx:FK:=⟨27,[.t 4],
 .seq (.reg [oK 4 0])
 (.seq (.reg [oM 6 1,
   oM 7 0,
   oJ 8 (.len false (.t 7)),
   oJ 9 (.bin .sub (.t 6) (.t 8)),
   oM 1 9])
 (.seq (.seq (.reg [oM 10 1,
   oJ 11 (.bin .lss (.t 10) (.c (.p (.int .i64 0))))])
 (.cond (.t 11)
  (.seq (.reg [oJ 4 (.mov (.c (.p (.int .i64 (-1)))))])
  (.ret))
  (.skip)))
 (.seq (.seq (.reg [oK 5 0])
 (.blk 0 (.loop (.seq (.seq (.reg [oM 12 5,
   oM 13 0,
   oJ 14 (.len false (.t 13)),
   oJ 15 (.bin .lss (.t 12) (.t 14))])
 (.cond (.t 15)
  (.skip)
  (.exit 0)))
 (.seq (.blk 1 (.seq (.reg [oM 18 0,
   oM 19 5,
   oJ 20 (.idxS 3 (.t 18) (.t 19)),
   oJ 21 (.ld (some 3) (.t 20)),
   oM 22 1,
   oJ 23 (.call jh [(.t 21),(.t 22)]),
   oM 1 23])
 (.seq (.reg [oM 24 1,
   oJ 25 (.bin .lss (.t 24) (.c (.p (.int .i64 0))))])
 (.cond (.t 25)
  (.seq (.reg [oJ 4 (.mov (.c (.p (.int .i64 (-1)))))])
  (.ret))
  (.skip)))))
 (.reg [oM 16 5,
   oJ 17 (.bin .add (.t 16) (.c (.p (.int .i64 1)))),
   oM 5 17]))))))
 (.seq (.reg [oM 26 1,
   oM 4 26])
 (.ret)))))⟩
theorem vt:ag Tryz.prog ke=some kx:=by kernel_rfl
def jK:FK:=⟨12,[.t 4],
 .seq (.reg [oJ 2 (.box 1 (.t 0)),
  oK 4 0])
 (.seq (.reg [oF 5 0 2,
   oL 6 5,
   oM 7 1,
   oJ 8 (.call ke [(.t 6),(.t 7)]),
   oM 1 8])
 (.seq (.seq (.reg [oM 9 1,
   oJ 10 (.bin .lss (.t 9) (.c (.p (.int .i64 0))))])
 (.cond (.t 10)
  (.seq (.reg [oJ 4 (.mov (.c (.p (.int .i64 (-1)))))])
  (.ret))
  (.skip)))
 (.seq (.reg [oM 11 1,
   oM 4 11])
 (.ret))))⟩
theorem qd:ag Tryz.prog dK=some jK:=by kernel_rfl
def kb:FK:=⟨22,[.t 2],
 .seq (.reg [oJ 2 (.mov (.c .nils))])
 (.seq (.reg [oM 5 0,
   oJ 6 (.len false (.t 5)),
   oJ 7 (.mks 1 16 [(.p (.str []))] (.t 6) (.t 6)),
   oM 3 7])
 (.seq (.seq (.reg [oK 4 0])
 (.blk 0 (.loop (.seq (.seq (.reg [oM 8 4,
   oM 9 0,
   oJ 10 (.len false (.t 9)),
   oJ 11 (.bin .lss (.t 8) (.t 10))])
 (.cond (.t 11)
  (.skip)
  (.exit 0)))
 (.seq (.blk 1 (.reg [oM 14 3,
   oM 15 4,
   oM 16 0,
   oM 17 4,
   oJ 18 (.idxS 1 (.t 16) (.t 17)),
   oL 19 18,
   oJ 20 (.idxS 1 (.t 14) (.t 15)),
   oS 20 19]))
 (.reg [oM 12 4,
   oJ 13 (.bin .add (.t 12) (.c (.p (.int .i64 1)))),
   oM 4 13]))))))
 (.seq (.reg [oM 21 3,
   oM 2 21])
 (.ret))))⟩
theorem pL:ag Tryz.prog cI=some kb:=by kernel_rfl
def jp:FK:=⟨18,[.c 2 (some 4)],
 .seq (.reg [oJ 1 (.box 4 (.t 0)),
  oJ 2 (.alloc [(.p (.int .i64 0)),(.p (.int .i64 0)),(.p (.str [])),.nils])])
 (.seq (.reg [oJ 3 (.alloc [(.p (.int .i64 0)),(.p (.int .i64 0)),(.p (.str [])),.nils])])
 (.seq (.reg [oF 4 0 1,
   oL 5 4,
   oF 6 0 3,
   oS 6 5])
 (.seq (.reg [oF 7 1 1,
   oL 8 7,
   oF 9 1 3,
   oS 9 8])
 (.seq (.reg [oF 10 2 1,
   oL 11 10,
   oF 12 2 3,
   oS 12 11])
 (.seq (.reg [oF 13 3 1,
   oL 14 13,
   oJ 15 (.call bH [(.t 14)]),
   oF 16 3 3,
   oS 16 15])
 (.seq (.reg [oJ 17 (.ld (some 4) (.t 3)),
   ⟨none,none,.st 4 (.t 2) (.t 17)⟩])
 (.ret)))))))⟩
theorem nr:ag Tryz.prog dd=some jp:=by kernel_rfl
def ig:FK:=⟨23,[.t 2],
 .seq (.reg [oJ 2 (.mov (.c .nils))])
 (.seq (.reg [oM 5 0,
   oJ 6 (.len false (.t 5)),
   oJ 7 (.mks 4 56 [(.p (.int .i64 0)),(.p (.int .i64 0)),(.p (.str [])),.nils] (.t 6) (.t 6)),
   oM 3 7])
 (.seq (.seq (.reg [oK 4 0])
 (.blk 0 (.loop (.seq (.seq (.reg [oM 8 4,
   oM 9 0,
   oJ 10 (.len false (.t 9)),
   oJ 11 (.bin .lss (.t 8) (.t 10))])
 (.cond (.t 11)
  (.skip)
  (.exit 0)))
 (.seq (.blk 1 (.reg [oM 14 3,
   oM 15 4,
   oM 16 0,
   oM 17 4,
   oJ 18 (.idxS 4 (.t 16) (.t 17)),
   oJ 19 (.ld (some 4) (.t 18)),
   oJ 20 (.call dd [(.t 19)]),
   oJ 21 (.idxS 4 (.t 14) (.t 15)),
   ⟨none,none,.st 4 (.t 21) (.t 20)⟩]))
 (.reg [oM 12 4,
   oJ 13 (.bin .add (.t 12) (.c (.p (.int .i64 1)))),
   oM 4 13]))))))
 (.seq (.reg [oM 22 3,
   oM 2 22])
 (.ret))))⟩
theorem lz:ag Tryz.prog bH=some ig:=by kernel_rfl
def jz:FK:=⟨23,[.c 2 (some 5)],
 .seq (.reg [oJ 1 (.box 5 (.t 0)),
  oJ 2 (.alloc [(.p (.int .i64 0)),(.p (.str [])),.nils,.nils,.nils])])
 (.seq (.reg [oJ 3 (.alloc [(.p (.int .i64 0)),(.p (.str [])),.nils,.nils,.nils])])
 (.seq (.reg [oF 4 0 1,
   oL 5 4,
   oF 6 0 3,
   oS 6 5])
 (.seq (.reg [oF 7 1 1,
   oL 8 7,
   oF 9 1 3,
   oS 9 8])
 (.seq (.reg [oF 10 2 1,
   oL 11 10,
   oJ 12 (.call bH [(.t 11)]),
   oF 13 2 3,
   oS 13 12])
 (.seq (.reg [oF 14 3 1,
   oL 15 14,
   oJ 16 (.call bh [(.t 15)]),
   oF 17 3 3,
   oS 17 16])
 (.seq (.reg [oF 18 4 1,
   oL 19 18,
   oJ 20 (.call bh [(.t 19)]),
   oF 21 4 3,
   oS 21 20])
 (.seq (.reg [oJ 22 (.ld (some 5) (.t 3)),
   ⟨none,none,.st 5 (.t 2) (.t 22)⟩])
 (.ret))))))))⟩
theorem ni:ag Tryz.prog dg=some jz:=by kernel_rfl
def il:FK:=⟨23,[.t 2],
 .seq (.reg [oJ 2 (.mov (.c .nils))])
 (.seq (.reg [oM 5 0,
   oJ 6 (.len false (.t 5)),
   oJ 7 (.mks 5 96 [(.p (.int .i64 0)),(.p (.str [])),.nils,.nils,.nils] (.t 6) (.t 6)),
   oM 3 7])
 (.seq (.seq (.reg [oK 4 0])
 (.blk 0 (.loop (.seq (.seq (.reg [oM 8 4,
   oM 9 0,
   oJ 10 (.len false (.t 9)),
   oJ 11 (.bin .lss (.t 8) (.t 10))])
 (.cond (.t 11)
  (.skip)
  (.exit 0)))
 (.seq (.blk 1 (.reg [oM 14 3,
   oM 15 4,
   oM 16 0,
   oM 17 4,
   oJ 18 (.idxS 5 (.t 16) (.t 17)),
   oJ 19 (.ld (some 5) (.t 18)),
   oJ 20 (.call dg [(.t 19)]),
   oJ 21 (.idxS 5 (.t 14) (.t 15)),
   ⟨none,none,.st 5 (.t 21) (.t 20)⟩]))
 (.reg [oM 12 4,
   oJ 13 (.bin .add (.t 12) (.c (.p (.int .i64 1)))),
   oM 4 13]))))))
 (.seq (.reg [oM 22 3,
   oM 2 22])
 (.ret))))⟩
theorem lm:ag Tryz.prog bh=some il:=by kernel_rfl
def lp:FK:=⟨16,[.c 2 (some 3)],
 .seq (.reg [oJ 1 (.box 3 (.t 0)),
  oJ 2 (.alloc [(.p (.str [])),.nils,.nils])])
 (.seq (.reg [oJ 3 (.alloc [(.p (.str [])),.nils,.nils])])
 (.seq (.reg [oF 4 0 1,
   oL 5 4,
   oF 6 0 3,
   oS 6 5])
 (.seq (.reg [oF 7 1 1,
   oL 8 7,
   oJ 9 (.call cI [(.t 8)]),
   oF 10 1 3,
   oS 10 9])
 (.seq (.reg [oF 11 2 1,
   oL 12 11,
   oJ 13 (.call bh [(.t 12)]),
   oF 14 2 3,
   oS 14 13])
 (.seq (.reg [oJ 15 (.ld (some 3) (.t 3)),
   ⟨none,none,.st 3 (.t 2) (.t 15)⟩])
 (.ret))))))⟩
theorem qq:ag Tryz.prog eX=some lp:=by kernel_rfl
def kr:FK:=⟨23,[.t 2],
 .seq (.reg [oJ 2 (.mov (.c .nils))])
 (.seq (.reg [oM 5 0,
   oJ 6 (.len false (.t 5)),
   oJ 7 (.mks 3 64 [(.p (.str [])),.nils,.nils] (.t 6) (.t 6)),
   oM 3 7])
 (.seq (.seq (.reg [oK 4 0])
 (.blk 0 (.loop (.seq (.seq (.reg [oM 8 4,
   oM 9 0,
   oJ 10 (.len false (.t 9)),
   oJ 11 (.bin .lss (.t 8) (.t 10))])
 (.cond (.t 11)
  (.skip)
  (.exit 0)))
 (.seq (.blk 1 (.reg [oM 14 3,
   oM 15 4,
   oM 16 0,
   oM 17 4,
   oJ 18 (.idxS 3 (.t 16) (.t 17)),
   oJ 19 (.ld (some 3) (.t 18)),
   oJ 20 (.call eX [(.t 19)]),
   oJ 21 (.idxS 3 (.t 14) (.t 15)),
   ⟨none,none,.st 3 (.t 21) (.t 20)⟩]))
 (.reg [oM 12 4,
   oJ 13 (.bin .add (.t 12) (.c (.p (.int .i64 1)))),
   oM 4 13]))))))
 (.seq (.reg [oM 22 3,
   oM 2 22])
 (.ret))))⟩
theorem pm:ag Tryz.prog fv=some kr:=by kernel_rfl
def fX:FK:=⟨9,[.c 2 (some 1)],
 .seq (.reg [oJ 1 (.box 1 (.t 0)),
  oJ 2 (.alloc [.nils])])
 (.seq (.reg [oJ 3 (.alloc [.nils])])
 (.seq (.reg [oF 4 0 1,
   oL 5 4,
   oJ 6 (.call fv [(.t 5)]),
   oF 7 0 3,
   oS 7 6])
 (.seq (.reg [oJ 8 (.ld (some 1) (.t 3)),
   oS 2 8])
 (.ret))))⟩
theorem jP:ag Tryz.prog bw=some fX:=by kernel_rfl
def ll:FK:=⟨15,[.t 6],
 .seq (.reg [oJ 6 (.mov (.c (.p (.bool false))))])
 (.seq (.reg [oM 7 0,
   oM 8 1,
   oJ 9 (.bin .geq (.t 7) (.t 8)),
   oM 10 9,
   ⟨(some 11),some (10,true),.mov (.t 0)⟩,
   ⟨(some 12),some (10,true),.mov (.t 2)⟩,
   ⟨(some 13),some (10,true),.bin .leq (.t 11) (.t 12)⟩,
   oJ 14 (.pick (.t 10) (.t 13) (.c (.p (.bool false)))),
   oM 6 14])
 (.ret))⟩
theorem xD:ag Tryz.prog bI=some ll:=by kernel_rfl
def lq:FK:=⟨18,[.t 4],
 .seq (.reg [oK 4 0])
 (.seq (.seq (.reg [oK 5 0])
 (.blk 0 (.loop (.seq (.seq (.reg [oM 6 5,
   oM 7 0,
   oJ 8 (.len true (.t 7)),
   oJ 9 (.bin .lss (.t 6) (.t 8))])
 (.cond (.t 9)
  (.skip)
  (.exit 0)))
 (.seq (.blk 1 (.seq (.reg [oM 12 0,
   oM 13 5,
   oJ 14 (.idxStr (.t 12) (.t 13)),
   oM 15 1,
   oJ 16 (.bin .eql (.t 14) (.t 15))])
 (.cond (.t 16)
  (.seq (.reg [oM 17 5,
    oM 4 17])
  (.ret))
  (.skip))))
 (.reg [oM 10 5,
   oJ 11 (.bin .add (.t 10) (.c (.p (.int .i64 1)))),
   oM 5 11]))))))
 (.seq (.reg [oJ 4 (.mov (.c (.p (.int .i64 (-1)))))])
 (.ret)))⟩
theorem rY:ag Tryz.prog iK=some lq:=by kernel_rfl
def lE:FK:=⟨28,[.t 2],
 .seq (.reg [oK 2 0])
 (.seq (.blk 0 (.seq (.reg [oM 4 0,
   oJ 5 (.bin .geq (.t 4) (.c (.p (.int .u8 97)))),
   oM 6 5,
   ⟨(some 7),some (6,true),.mov (.t 0)⟩,
   ⟨(some 8),some (6,true),.bin .leq (.t 7) (.c (.p (.int .u8 122)))⟩,
   oJ 9 (.pick (.t 6) (.t 8) (.c (.p (.bool false)))),
   oM 3 9])
 (.cond (.t 3)
  (.seq (.reg [oK 2 1])
  (.ret))
  (.seq (.reg [oM 11 0,
    oJ 12 (.bin .geq (.t 11) (.c (.p (.int .u8 48)))),
    oM 13 12,
    ⟨(some 14),some (13,true),.mov (.t 0)⟩,
    ⟨(some 15),some (13,true),.bin .leq (.t 14) (.c (.p (.int .u8 57)))⟩,
    oJ 16 (.pick (.t 13) (.t 15) (.c (.p (.bool false)))),
    oM 10 16])
  (.cond (.t 10)
   (.seq (.reg [oK 2 2])
   (.ret))
   (.seq (.reg [oM 18 0,
     oJ 19 (.call iK [(.c (.p (.str [40,41,123,125,59,44,43,45,42,47,37,60,61,38,33,64]))),(.t 18)]),
     oJ 20 (.bin .geq (.t 19) (.c (.p (.int .i64 0)))),
     oM 17 20])
   (.cond (.t 17)
    (.seq (.reg [oK 2 3])
    (.ret))
    (.seq (.reg [oM 22 0,
      oJ 23 (.bin .eql (.t 22) (.c (.p (.int .u8 32)))),
      oM 24 23,
      ⟨(some 25),some (24,false),.mov (.t 0)⟩,
      ⟨(some 26),some (24,false),.bin .eql (.t 25) (.c (.p (.int .u8 10)))⟩,
      oJ 27 (.pick (.t 24) (.c (.p (.bool true))) (.t 26)),
      oM 21 27])
    (.cond (.t 21)
     (.seq (.reg [oK 2 4])
     (.ret))
     (.skip))))))))))
 (.seq (.reg [oK 2 0])
 (.ret)))⟩
theorem sZ:ag Tryz.prog iI=some lE:=by kernel_rfl
def pq:FK:=⟨21,[.t 4],
 .seq (.reg [oJ 4 (.mov (.c (.p (.bool false))))])
 (.seq (.seq (.reg [oK 5 0])
 (.blk 0 (.loop (.seq (.seq (.reg [oM 6 5,
   oM 7 0,
   oJ 8 (.len true (.t 7)),
   oJ 9 (.bin .lss (.t 6) (.t 8))])
 (.cond (.t 9)
  (.skip)
  (.exit 0)))
 (.seq (.blk 1 (.seq (.reg [oM 12 0,
   oM 13 5,
   oJ 14 (.idxStr (.t 12) (.t 13)),
   oJ 15 (.call iI [(.t 14)]),
   oM 16 1,
   oJ 17 (.bin .neq (.t 15) (.t 16))])
 (.cond (.t 17)
  (.seq (.reg [oJ 4 (.mov (.c (.p (.bool false))))])
  (.ret))
  (.skip))))
 (.reg [oM 10 5,
   oJ 11 (.bin .add (.t 10) (.c (.p (.int .i64 1)))),
   oM 5 11]))))))
 (.seq (.reg [oM 18 0,
   oJ 19 (.len true (.t 18)),
   oJ 20 (.bin .gtr (.t 19) (.c (.p (.int .i64 0)))),
   oM 4 20])
 (.ret)))⟩
theorem vf:ag Tryz.prog ky=some pq:=by kernel_rfl
def kM:FK:=⟨2,[.t 0],
 .seq (.reg [oJ 0 (.mov (.c .nils))])
 (.seq (.reg [oJ 1 (.bsl 1 [(.p (.str []))] 9 [(0,1,(.c (.p (.str [102,110])))),(1,1,(.c (.p (.str [108,101,116])))),(2,1,(.c (.p (.str [115,97,121])))),(3,1,(.c (.p (.str [112,117,116])))),(4,1,(.c (.p (.str [105,102])))),(5,1,(.c (.p (.str [101,108,115,101])))),(6,1,(.c (.p (.str [108,111,111,112])))),(7,1,(.c (.p (.str [98,97,99,107])))),(8,1,(.c (.p (.str [100,111]))))]),
   oM 0 1])
 (.ret))⟩
theorem qT:ag Tryz.prog eA=some kM:=by kernel_rfl
def oe:FK:=⟨18,[.t 2],
 .seq (.reg [oJ 2 (.mov (.c (.p (.bool false))))])
 (.seq (.reg [oJ 5 (.call eA []),
   oM 3 5])
 (.seq (.seq (.reg [oK 4 0])
 (.blk 0 (.loop (.seq (.seq (.reg [oM 6 4,
   oM 7 3,
   oJ 8 (.len false (.t 7)),
   oJ 9 (.bin .lss (.t 6) (.t 8))])
 (.cond (.t 9)
  (.skip)
  (.exit 0)))
 (.seq (.blk 1 (.seq (.reg [oM 12 3,
   oM 13 4,
   oJ 14 (.idxS 1 (.t 12) (.t 13)),
   oL 15 14,
   oM 16 0,
   oJ 17 (.bins .eql (.t 15) (.t 16))])
 (.cond (.t 17)
  (.seq (.reg [oJ 2 (.mov (.c (.p (.bool true))))])
  (.ret))
  (.skip))))
 (.reg [oM 10 4,
   oJ 11 (.bin .add (.t 10) (.c (.p (.int .i64 1)))),
   oM 4 11]))))))
 (.seq (.reg [oJ 2 (.mov (.c (.p (.bool false))))])
 (.ret))))⟩
theorem vE:ag Tryz.prog kh=some oe:=by kernel_rfl
def nj:FK:=⟨15,[.t 2],
 .seq (.reg [oJ 2 (.mov (.c (.p (.bool false))))])
 (.seq (.reg [oM 3 0,
   oJ 4 (.call ky [(.t 3),(.c (.p (.int .i64 1)))]),
   oM 5 4,
   ⟨(some 6),some (5,true),.mov (.t 0)⟩,
   ⟨(some 7),some (5,true),.len true (.t 6)⟩,
   ⟨(some 8),some (5,true),.bin .leq (.t 7) (.c (.p (.int .i64 4)))⟩,
   oJ 9 (.pick (.t 5) (.t 8) (.c (.p (.bool false)))),
   oM 10 9,
   ⟨(some 11),some (10,true),.mov (.t 0)⟩,
   ⟨(some 12),some (10,true),.call kh [(.t 11)]⟩,
   ⟨(some 13),some (10,true),.not (.t 12)⟩,
   oJ 14 (.pick (.t 10) (.t 13) (.c (.p (.bool false)))),
   oM 2 14])
 (.ret))⟩
theorem tA:ag Tryz.prog bX=some nj:=by kernel_rfl
def js:FK:=⟨5,[.t 2],
 .seq (.reg [oK 2 0])
 (.seq (.seq (.reg [oM 3 0,
   oJ 4 (.bin .eql (.t 3) (.c (.p (.int .i64 4))))])
 (.cond (.t 4)
  (.seq (.reg [oK 2 2])
  (.ret))
  (.skip)))
 (.seq (.reg [oK 2 1])
 (.ret)))⟩
theorem tW:ag Tryz.prog gu=some js:=by kernel_rfl
def cA:FK:=⟨13,[.t 2,.t 3],
 .seq (.reg [oK 2 0,
  oK 3 0])
 (.seq (.seq (.reg [oM 4 0])
 (.blk 0 (.seq (.seq (.reg [oJ 6 (.bin .eql (.t 4) (.c (.p (.int .i64 1)))),
   oM 5 6])
 (.cond (.t 5)
  (.skip)
  (.reg [oJ 7 (.bin .eql (.t 4) (.c (.p (.int .i64 2)))),
    oM 5 7])))
 (.cond (.t 5)
  (.seq (.reg [oK 2 0,
    oK 3 0])
  (.ret))
  (.seq (.seq (.reg [oJ 9 (.bin .eql (.t 4) (.c (.p (.int .i64 11)))),
    oM 8 9])
  (.cond (.t 8)
   (.skip)
   (.reg [oJ 10 (.bin .eql (.t 4) (.c (.p (.int .i64 12)))),
     oM 8 10])))
  (.cond (.t 8)
   (.seq (.reg [oK 2 1,
     oK 3 1])
   (.ret))
   (.seq (.reg [oJ 12 (.bin .eql (.t 4) (.c (.p (.int .i64 13)))),
     oM 11 12])
   (.cond (.t 11)
    (.seq (.reg [oK 2 0,
      oK 3 3])
    (.ret))
    (.skip)))))))))
 (.seq (.reg [oK 2 2,
   oK 3 2])
 (.ret)))⟩
theorem tU:ag Tryz.prog gt=some cA:=by kernel_rfl
def F_spec_l2Form:FK:=⟨86,[.t 4],
 .seq (.reg [oJ 2 (.box 4 (.t 0)),
  oJ 4 (.mov (.c (.p (.bool false))))])
 (.seq (.reg [oF 10 0 2,
   oL 11 10,
   oJ 12 (.call gt [(.t 11)]),
   oM 9 12,
   oJ 13 (.ext 0 (.t 9)),
   oJ 14 (.ext 1 (.t 9)),
   oM 5 13,
   oM 6 14])
 (.seq (.seq (.reg [oM 15 1,
   oJ 16 (.bin .lss (.t 15) (.c (.p (.int .i64 1)))),
   oM 17 16,
   ⟨(some 18),some (17,false),.fldA 0 (.t 2)⟩,
   ⟨(some 19),some (17,false),.ld none (.t 18)⟩,
   ⟨(some 20),some (17,false),.call bI [(.t 19),(.c (.p (.int .i64 1))),(.c (.p (.int .i64 13)))]⟩,
   ⟨(some 21),some (17,false),.not (.t 20)⟩,
   oJ 22 (.pick (.t 17) (.c (.p (.bool true))) (.t 21)),
   oM 23 22,
   ⟨(some 24),some (23,false),.fldA 3 (.t 2)⟩,
   ⟨(some 25),some (23,false),.ld none (.t 24)⟩,
   ⟨(some 26),some (23,false),.len false (.t 25)⟩,
   ⟨(some 27),some (23,false),.mov (.t 5)⟩,
   ⟨(some 28),some (23,false),.mov (.t 6)⟩,
   ⟨(some 29),some (23,false),.call bI [(.t 26),(.t 27),(.t 28)]⟩,
   ⟨(some 30),some (23,false),.not (.t 29)⟩,
   oJ 31 (.pick (.t 23) (.c (.p (.bool true))) (.t 30))])
 (.cond (.t 31)
  (.seq (.reg [oJ 4 (.mov (.c (.p (.bool false))))])
  (.ret))
  (.skip)))
 (.seq (.reg [oF 32 0 2,
   oL 33 32,
   oJ 34 (.bin .eql (.t 33) (.c (.p (.int .i64 2)))),
   oM 35 34,
   ⟨(some 36),some (35,false),.fldA 0 (.t 2)⟩,
   ⟨(some 37),some (35,false),.ld none (.t 36)⟩,
   ⟨(some 38),some (35,false),.bin .eql (.t 37) (.c (.p (.int .i64 13)))⟩,
   oJ 39 (.pick (.t 35) (.c (.p (.bool true))) (.t 38)),
   oM 7 39])
 (.seq (.seq (.reg [oM 40 7,
   oF 41 2 2,
   oL 42 41,
   oJ 43 (.call bX [(.t 42)]),
   oJ 44 (.beq true (.t 40) (.t 43)),
   oM 45 44,
   ⟨(some 46),some (45,false),.mov (.t 7)⟩,
   ⟨(some 47),some (45,false),.not (.t 46)⟩,
   ⟨(some 48),some (45,false),.mov (.t 47)⟩,
   ⟨(some 49),some (48,true),.fldA 2 (.t 2)⟩,
   ⟨(some 50),some (48,true),.ld none (.t 49)⟩,
   ⟨(some 51),some (48,true),.bins .neq (.t 50) (.c (.p (.str [])))⟩,
   ⟨(some 52),some (45,false),.pick (.t 48) (.t 51) (.c (.p (.bool false)))⟩,
   oJ 53 (.pick (.t 45) (.c (.p (.bool true))) (.t 52)),
   oM 54 53,
   ⟨(some 55),some (54,false),.fldA 1 (.t 2)⟩,
   ⟨(some 56),some (54,false),.ld none (.t 55)⟩,
   ⟨(some 57),some (54,false),.call bI [(.t 56),(.c (.p (.int .i64 0))),(.c (.p (.int .i64 255)))]⟩,
   ⟨(some 58),some (54,false),.not (.t 57)⟩,
   oJ 59 (.pick (.t 54) (.c (.p (.bool true))) (.t 58)),
   oM 60 59,
   ⟨(some 61),some (60,false),.fldA 0 (.t 2)⟩,
   ⟨(some 62),some (60,false),.ld none (.t 61)⟩,
   ⟨(some 63),some (60,false),.bin .neq (.t 62) (.c (.p (.int .i64 1)))⟩,
   ⟨(some 64),some (60,false),.mov (.t 63)⟩,
   ⟨(some 65),some (64,true),.fldA 1 (.t 2)⟩,
   ⟨(some 66),some (64,true),.ld none (.t 65)⟩,
   ⟨(some 67),some (64,true),.bin .neq (.t 66) (.c (.p (.int .i64 0)))⟩,
   ⟨(some 68),some (60,false),.pick (.t 64) (.t 67) (.c (.p (.bool false)))⟩,
   oJ 69 (.pick (.t 60) (.c (.p (.bool true))) (.t 68))])
 (.cond (.t 69)
  (.seq (.reg [oJ 4 (.mov (.c (.p (.bool false))))])
  (.ret))
  (.skip)))
 (.seq (.seq (.reg [oK 8 0])
 (.blk 0 (.loop (.seq (.seq (.reg [oM 70 8,
   oF 71 3 2,
   oL 72 71,
   oJ 73 (.len false (.t 72)),
   oJ 74 (.bin .lss (.t 70) (.t 73))])
 (.cond (.t 74)
  (.skip)
  (.exit 0)))
 (.seq (.blk 1 (.seq (.reg [oF 77 3 2,
   oL 78 77,
   oM 79 8,
   oJ 80 (.idxS 4 (.t 78) (.t 79)),
   oJ 81 (.ld (some 4) (.t 80)),
   oM 82 1,
   oJ 83 (.bin .sub (.t 82) (.c (.p (.int .i64 1)))),
   oJ 84 (.call eq [(.t 81),(.t 83)]),
   oJ 85 (.not (.t 84))])
 (.cond (.t 85)
  (.seq (.reg [oJ 4 (.mov (.c (.p (.bool false))))])
  (.ret))
  (.skip))))
 (.reg [oM 75 8,
   oJ 76 (.bin .add (.t 75) (.c (.p (.int .i64 1)))),
   oM 8 76]))))))
 (.seq (.reg [oJ 4 (.mov (.c (.p (.bool true))))])
 (.ret)))))))⟩
theorem ng:ag Tryz.prog eq=some F_spec_l2Form:=by kernel_rfl
def lL:FK:=⟨21,[.t 2],
 .seq (.reg [oJ 1 (.box 4 (.t 0)),
  oK 2 0])
 (.seq (.reg [oK 3 1])
 (.seq (.seq (.reg [oK 4 0])
 (.blk 0 (.loop (.seq (.seq (.reg [oM 5 4,
   oF 6 3 1,
   oL 7 6,
   oJ 8 (.len false (.t 7)),
   oJ 9 (.bin .lss (.t 5) (.t 8))])
 (.cond (.t 9)
  (.skip)
  (.exit 0)))
 (.seq (.blk 1 (.reg [oM 12 3,
   oF 13 3 1,
   oL 14 13,
   oM 15 4,
   oJ 16 (.idxS 4 (.t 14) (.t 15)),
   oJ 17 (.ld (some 4) (.t 16)),
   oJ 18 (.call fB [(.t 17)]),
   oJ 19 (.bin .add (.t 12) (.t 18)),
   oM 3 19]))
 (.reg [oM 10 4,
   oJ 11 (.bin .add (.t 10) (.c (.p (.int .i64 1)))),
   oM 4 11]))))))
 (.seq (.reg [oM 20 3,
   oM 2 20])
 (.ret))))⟩
theorem rI:ag Tryz.prog fB=some lL:=by kernel_rfl
def jS:FK:=⟨10,[.t 2],
 .seq (.reg [oJ 1 (.box 4 (.t 0)),
  oJ 2 (.mov (.c (.p (.bool false))))])
 (.seq (.reg [oJ 3 (.ld (some 4) (.t 1)),
   oJ 4 (.call eq [(.t 3),(.c (.p (.int .i64 6)))]),
   oM 5 4,
   ⟨(some 6),some (5,true),.ld (some 4) (.t 1)⟩,
   ⟨(some 7),some (5,true),.call fB [(.t 6)]⟩,
   ⟨(some 8),some (5,true),.bin .leq (.t 7) (.c (.p (.int .i64 30)))⟩,
   oJ 9 (.pick (.t 5) (.t 8) (.c (.p (.bool false)))),
   oM 2 9])
 (.ret))⟩
theorem pM:ag Tryz.prog dF=some jS:=by kernel_rfl
def F_spec_l3Stmt:FK:=⟨108,[.t 4],
 .seq (.reg [oJ 2 (.box 5 (.t 0)),
  oJ 4 (.mov (.c (.p (.bool false))))])
 (.seq (.seq (.reg [oM 7 1,
   oJ 8 (.bin .lss (.t 7) (.c (.p (.int .i64 1)))),
   oM 9 8,
   ⟨(some 10),some (9,false),.fldA 0 (.t 2)⟩,
   ⟨(some 11),some (9,false),.ld none (.t 10)⟩,
   ⟨(some 12),some (9,false),.call bI [(.t 11),(.c (.p (.int .i64 1))),(.c (.p (.int .i64 8)))]⟩,
   ⟨(some 13),some (9,false),.not (.t 12)⟩,
   oJ 14 (.pick (.t 9) (.c (.p (.bool true))) (.t 13)),
   oM 15 14,
   ⟨(some 16),some (15,false),.fldA 2 (.t 2)⟩,
   ⟨(some 19),some (15,false),.fldA 0 (.t 2)⟩,
   ⟨(some 17),some (15,false),.ld none (.t 16)⟩,
   ⟨(some 18),some (15,false),.len false (.t 17)⟩,
   ⟨(some 20),some (15,false),.ld none (.t 19)⟩,
   ⟨(some 21),some (15,false),.qcall gu [(.t 20)]⟩,
   ⟨(some 22),some (15,false),.bin .neq (.t 18) (.t 21)⟩,
   oJ 23 (.pick (.t 15) (.c (.p (.bool true))) (.t 22))])
 (.cond (.t 23)
  (.seq (.reg [oJ 4 (.mov (.c (.p (.bool false))))])
  (.ret))
  (.skip)))
 (.seq (.reg [oF 24 0 2,
   oL 25 24,
   oJ 26 (.bin .eql (.t 25) (.c (.p (.int .i64 1)))),
   oM 27 26,
   ⟨(some 28),some (27,false),.fldA 0 (.t 2)⟩,
   ⟨(some 29),some (27,false),.ld none (.t 28)⟩,
   ⟨(some 30),some (27,false),.bin .eql (.t 29) (.c (.p (.int .i64 2)))⟩,
   oJ 31 (.pick (.t 27) (.c (.p (.bool true))) (.t 30)),
   oM 5 31])
 (.seq (.seq (.reg [oM 32 5,
   oF 33 1 2,
   oL 34 33,
   oJ 35 (.call bX [(.t 34)]),
   oJ 36 (.beq true (.t 32) (.t 35)),
   oM 37 36,
   ⟨(some 38),some (37,false),.mov (.t 5)⟩,
   ⟨(some 39),some (37,false),.not (.t 38)⟩,
   ⟨(some 40),some (37,false),.mov (.t 39)⟩,
   ⟨(some 41),some (40,true),.fldA 1 (.t 2)⟩,
   ⟨(some 42),some (40,true),.ld none (.t 41)⟩,
   ⟨(some 43),some (40,true),.bins .neq (.t 42) (.c (.p (.str [])))⟩,
   ⟨(some 44),some (37,false),.pick (.t 40) (.t 43) (.c (.p (.bool false)))⟩,
   oJ 45 (.pick (.t 37) (.c (.p (.bool true))) (.t 44))])
 (.cond (.t 45)
  (.seq (.reg [oJ 4 (.mov (.c (.p (.bool false))))])
  (.ret))
  (.skip)))
 (.seq (.seq (.reg [oK 6 0])
 (.blk 0 (.loop (.seq (.seq (.reg [oM 46 6,
   oF 47 2 2,
   oL 48 47,
   oJ 49 (.len false (.t 48)),
   oJ 50 (.bin .lss (.t 46) (.t 49))])
 (.cond (.t 50)
  (.skip)
  (.exit 0)))
 (.seq (.blk 1 (.seq (.reg [oF 53 2 2,
   oL 54 53,
   oM 55 6,
   oJ 56 (.idxS 4 (.t 54) (.t 55)),
   oJ 57 (.ld (some 4) (.t 56)),
   oJ 58 (.call dF [(.t 57)]),
   oJ 59 (.not (.t 58))])
 (.cond (.t 59)
  (.seq (.reg [oJ 4 (.mov (.c (.p (.bool false))))])
  (.ret))
  (.skip))))
 (.reg [oM 51 6,
   oJ 52 (.bin .add (.t 51) (.c (.p (.int .i64 1)))),
   oM 6 52]))))))
 (.seq (.seq (.reg [oF 60 0 2,
   oL 61 60,
   oJ 62 (.bin .eql (.t 61) (.c (.p (.int .i64 8)))),
   oM 63 62,
   ⟨(some 64),some (63,true),.fldA 2 (.t 2)⟩,
   ⟨(some 65),some (63,true),.ld none (.t 64)⟩,
   ⟨(some 66),some (63,true),.idxS 4 (.t 65) (.c (.p (.int .i64 0)))⟩,
   ⟨(some 67),some (63,true),.fldA 0 (.t 66)⟩,
   ⟨(some 68),some (63,true),.ld none (.t 67)⟩,
   ⟨(some 69),some (63,true),.bin .neq (.t 68) (.c (.p (.int .i64 13)))⟩,
   oJ 70 (.pick (.t 63) (.t 69) (.c (.p (.bool false))))])
 (.cond (.t 70)
  (.seq (.reg [oJ 4 (.mov (.c (.p (.bool false))))])
  (.ret))
  (.skip)))
 (.seq (.seq (.reg [oF 71 4 2,
   oL 72 71,
   oJ 73 (.len false (.t 72)),
   oJ 74 (.bin .gtr (.t 73) (.c (.p (.int .i64 0)))),
   oM 75 74,
   ⟨(some 76),some (75,true),.fldA 0 (.t 2)⟩,
   ⟨(some 77),some (75,true),.ld none (.t 76)⟩,
   ⟨(some 78),some (75,true),.bin .neq (.t 77) (.c (.p (.int .i64 5)))⟩,
   oJ 79 (.pick (.t 75) (.t 78) (.c (.p (.bool false)))),
   oM 80 79,
   ⟨(some 81),some (80,false),.fldA 3 (.t 2)⟩,
   ⟨(some 82),some (80,false),.ld none (.t 81)⟩,
   ⟨(some 83),some (80,false),.len false (.t 82)⟩,
   ⟨(some 84),some (80,false),.bin .gtr (.t 83) (.c (.p (.int .i64 0)))⟩,
   ⟨(some 85),some (80,false),.mov (.t 84)⟩,
   ⟨(some 86),some (85,true),.fldA 0 (.t 2)⟩,
   ⟨(some 87),some (85,true),.ld none (.t 86)⟩,
   ⟨(some 88),some (85,true),.bin .neq (.t 87) (.c (.p (.int .i64 5)))⟩,
   ⟨(some 89),some (80,false),.pick (.t 85) (.t 88) (.c (.p (.bool false)))⟩,
   ⟨(some 90),some (80,false),.mov (.t 89)⟩,
   ⟨(some 91),some (90,true),.fldA 0 (.t 2)⟩,
   ⟨(some 92),some (90,true),.ld none (.t 91)⟩,
   ⟨(some 93),some (90,true),.bin .neq (.t 92) (.c (.p (.int .i64 6)))⟩,
   ⟨(some 94),some (80,false),.pick (.t 90) (.t 93) (.c (.p (.bool false)))⟩,
   oJ 95 (.pick (.t 80) (.c (.p (.bool true))) (.t 94))])
 (.cond (.t 95)
  (.seq (.reg [oJ 4 (.mov (.c (.p (.bool false))))])
  (.ret))
  (.skip)))
 (.seq (.reg [oF 96 3 2,
   oL 97 96,
   oM 98 1,
   oJ 99 (.bin .sub (.t 98) (.c (.p (.int .i64 1)))),
   oJ 100 (.call bF [(.t 97),(.t 99)]),
   oM 101 100,
   ⟨(some 102),some (101,true),.fldA 4 (.t 2)⟩,
   ⟨(some 103),some (101,true),.ld none (.t 102)⟩,
   ⟨(some 104),some (101,true),.mov (.t 1)⟩,
   ⟨(some 105),some (101,true),.bin .sub (.t 104) (.c (.p (.int .i64 1)))⟩,
   ⟨(some 106),some (101,true),.call bF [(.t 103),(.t 105)]⟩,
   oJ 107 (.pick (.t 101) (.t 106) (.c (.p (.bool false)))),
   oM 4 107])
 (.ret))))))))⟩
theorem np:ag Tryz.prog gv=some F_spec_l3Stmt:=by kernel_rfl
def lu:FK:=⟨19,[.t 4],
 .seq (.reg [oJ 4 (.mov (.c (.p (.bool false))))])
 (.seq (.seq (.reg [oK 5 0])
 (.blk 0 (.loop (.seq (.seq (.reg [oM 6 5,
   oM 7 0,
   oJ 8 (.len false (.t 7)),
   oJ 9 (.bin .lss (.t 6) (.t 8))])
 (.cond (.t 9)
  (.skip)
  (.exit 0)))
 (.seq (.blk 1 (.seq (.reg [oM 12 0,
   oM 13 5,
   oJ 14 (.idxS 5 (.t 12) (.t 13)),
   oJ 15 (.ld (some 5) (.t 14)),
   oM 16 1,
   oJ 17 (.call gv [(.t 15),(.t 16)]),
   oJ 18 (.not (.t 17))])
 (.cond (.t 18)
  (.seq (.reg [oJ 4 (.mov (.c (.p (.bool false))))])
  (.ret))
  (.skip))))
 (.reg [oM 10 5,
   oJ 11 (.bin .add (.t 10) (.c (.p (.int .i64 1)))),
   oM 5 11]))))))
 (.seq (.reg [oJ 4 (.mov (.c (.p (.bool true))))])
 (.ret)))⟩
theorem rA:ag Tryz.prog bF=some lu:=by kernel_rfl
def qp:FK:=⟨32,[.t 2],
 .seq (.reg [oJ 1 (.box 3 (.t 0)),
  oJ 2 (.mov (.c (.p (.bool false))))])
 (.seq (.seq (.reg [oK 3 0])
 (.blk 0 (.loop (.seq (.seq (.reg [oM 4 3,
   oF 5 1 1,
   oL 6 5,
   oJ 7 (.len false (.t 6)),
   oJ 8 (.bin .lss (.t 4) (.t 7))])
 (.cond (.t 8)
  (.skip)
  (.exit 0)))
 (.seq (.blk 1 (.seq (.reg [oF 11 1 1,
   oL 12 11,
   oM 13 3,
   oJ 14 (.idxS 1 (.t 12) (.t 13)),
   oL 15 14,
   oJ 16 (.call bX [(.t 15)]),
   oJ 17 (.not (.t 16))])
 (.cond (.t 17)
  (.seq (.reg [oJ 2 (.mov (.c (.p (.bool false))))])
  (.ret))
  (.skip))))
 (.reg [oM 9 3,
   oJ 10 (.bin .add (.t 9) (.c (.p (.int .i64 1)))),
   oM 3 10]))))))
 (.seq (.reg [oF 18 0 1,
   oL 19 18,
   oJ 20 (.call bX [(.t 19)]),
   oM 21 20,
   ⟨(some 22),some (21,true),.fldA 1 (.t 1)⟩,
   ⟨(some 23),some (21,true),.ld none (.t 22)⟩,
   ⟨(some 24),some (21,true),.len false (.t 23)⟩,
   ⟨(some 25),some (21,true),.bin .leq (.t 24) (.c (.p (.int .i64 3)))⟩,
   oJ 26 (.pick (.t 21) (.t 25) (.c (.p (.bool false)))),
   oM 27 26,
   ⟨(some 28),some (27,true),.fldA 2 (.t 1)⟩,
   ⟨(some 29),some (27,true),.ld none (.t 28)⟩,
   ⟨(some 30),some (27,true),.call bF [(.t 29),(.c (.p (.int .i64 4)))]⟩,
   oJ 31 (.pick (.t 27) (.t 30) (.c (.p (.bool false)))),
   oM 2 31])
 (.ret)))⟩
theorem vX:ag Tryz.prog ln=some qp:=by kernel_rfl
def iM:FK:=⟨29,[.t 2],
 .seq (.reg [oK 2 0])
 (.seq (.reg [oM 5 0,
   oJ 6 (.len false (.t 5)),
   oM 3 6])
 (.seq (.seq (.reg [oK 4 0])
 (.blk 0 (.loop (.seq (.seq (.reg [oM 7 4,
   oM 8 0,
   oJ 9 (.len false (.t 8)),
   oJ 10 (.bin .lss (.t 7) (.t 9))])
 (.cond (.t 10)
  (.skip)
  (.exit 0)))
 (.seq (.blk 1 (.reg [oM 13 3,
   oM 14 0,
   oM 15 4,
   oJ 16 (.idxS 5 (.t 14) (.t 15)),
   oF 17 3 16,
   oM 21 0,
   oM 22 4,
   oJ 23 (.idxS 5 (.t 21) (.t 22)),
   oF 24 4 23,
   oL 18 17,
   oL 25 24,
   oJ 19 (.call dr [(.t 18)]),
   ⟨none,none,.chk none 24 25⟩,
   oJ 20 (.bin .add (.t 13) (.t 19)),
   oJ 26 (.call dr [(.t 25)]),
   oJ 27 (.bin .add (.t 20) (.t 26)),
   oM 3 27]))
 (.reg [oM 11 4,
   oJ 12 (.bin .add (.t 11) (.c (.p (.int .i64 1)))),
   oM 4 12]))))))
 (.seq (.reg [oM 28 3,
   oM 2 28])
 (.ret))))⟩
theorem lW:ag Tryz.prog dr=some iM:=by kernel_rfl
def oq:FK:=⟨22,[.t 2],
 .seq (.reg [oJ 1 (.box 1 (.t 0)),
  oK 2 0])
 (.seq (.reg [oK 3 0])
 (.seq (.seq (.reg [oK 4 0])
 (.blk 0 (.loop (.seq (.seq (.reg [oM 5 4,
   oF 6 0 1,
   oL 7 6,
   oJ 8 (.len false (.t 7)),
   oJ 9 (.bin .lss (.t 5) (.t 8))])
 (.cond (.t 9)
  (.skip)
  (.exit 0)))
 (.seq (.blk 1 (.reg [oM 12 3,
   oF 13 0 1,
   oL 14 13,
   oM 15 4,
   oJ 16 (.idxS 3 (.t 14) (.t 15)),
   oF 17 2 16,
   oL 18 17,
   oJ 19 (.call dr [(.t 18)]),
   oJ 20 (.bin .add (.t 12) (.t 19)),
   oM 3 20]))
 (.reg [oM 10 4,
   oJ 11 (.bin .add (.t 10) (.c (.p (.int .i64 1)))),
   oM 4 11]))))))
 (.seq (.reg [oM 21 3,
   oM 2 21])
 (.ret))))⟩
theorem vl:ag Tryz.prog kz=some oq:=by kernel_rfl
def gO:FK:=⟨26,[.t 2],
 .seq (.reg [oJ 1 (.box 1 (.t 0)),
  oJ 2 (.mov (.c (.p (.bool false))))])
 (.seq (.seq (.reg [oF 4 0 1,
   oL 5 4,
   oJ 6 (.len false (.t 5)),
   oJ 7 (.call bI [(.t 6),(.c (.p (.int .i64 1))),(.c (.p (.int .i64 4)))]),
   oJ 8 (.not (.t 7))])
 (.cond (.t 8)
  (.seq (.reg [oJ 2 (.mov (.c (.p (.bool false))))])
  (.ret))
  (.skip)))
 (.seq (.seq (.reg [oK 3 0])
 (.blk 0 (.loop (.seq (.seq (.reg [oM 9 3,
   oF 10 0 1,
   oL 11 10,
   oJ 12 (.len false (.t 11)),
   oJ 13 (.bin .lss (.t 9) (.t 12))])
 (.cond (.t 13)
  (.skip)
  (.exit 0)))
 (.seq (.blk 1 (.seq (.reg [oF 16 0 1,
   oL 17 16,
   oM 18 3,
   oJ 19 (.idxS 3 (.t 17) (.t 18)),
   oJ 20 (.ld (some 3) (.t 19)),
   oJ 21 (.call ln [(.t 20)]),
   oJ 22 (.not (.t 21))])
 (.cond (.t 22)
  (.seq (.reg [oJ 2 (.mov (.c (.p (.bool false))))])
  (.ret))
  (.skip))))
 (.reg [oM 14 3,
   oJ 15 (.bin .add (.t 14) (.c (.p (.int .i64 1)))),
   oM 3 15]))))))
 (.seq (.reg [oJ 23 (.ld (some 1) (.t 1)),
   oJ 24 (.call kz [(.t 23)]),
   oJ 25 (.bin .leq (.t 24) (.c (.p (.int .i64 40)))),
   oM 2 25])
 (.ret))))⟩
theorem mL:ag Tryz.prog dZ=some gO:=by kernel_rfl
def qm:FK:=⟨22,[.t 4],
 .seq (.reg [oJ 2 (.box 1 (.t 0)),
  oK 4 0])
 (.seq (.seq (.reg [oK 5 0])
 (.blk 0 (.loop (.seq (.seq (.reg [oM 6 5,
   oF 7 0 2,
   oL 8 7,
   oJ 9 (.len false (.t 8)),
   oJ 10 (.bin .lss (.t 6) (.t 9))])
 (.cond (.t 10)
  (.skip)
  (.exit 0)))
 (.seq (.blk 1 (.seq (.reg [oF 13 0 2,
   oL 14 13,
   oM 15 5,
   oJ 16 (.idxS 3 (.t 14) (.t 15)),
   oF 17 0 16,
   oL 18 17,
   oM 19 1,
   oJ 20 (.bins .eql (.t 18) (.t 19))])
 (.cond (.t 20)
  (.seq (.reg [oM 21 5,
    oM 4 21])
  (.ret))
  (.skip))))
 (.reg [oM 11 5,
   oJ 12 (.bin .add (.t 11) (.c (.p (.int .i64 1)))),
   oM 5 12]))))))
 (.seq (.reg [oJ 4 (.mov (.c (.p (.int .i64 (-1)))))])
 (.ret)))⟩
theorem wM:ag Tryz.prog eV=some qm:=by kernel_rfl
def eK:FK:=⟨13,[],
 .seq (.reg [oM 4 0,
  oN 5 4,
  oF 6 4 5,
  oL 7 6,
  oJ 8 (.bin .eql (.t 7) (.c (.p (.int .i64 0))))])
 (.cond (.t 8)
  (.reg [oM 9 0,
    oM 10 1,
    oN 11 9,
    oF 12 4 11,
    oS 12 10])
  (.skip))⟩
theorem nG:ag Tryz.prog aF=some eK:=by kernel_rfl
def eN:FK:=⟨27,[.t 4],
 .seq (.reg [oK 4 0])
 (.seq (.seq (.reg [oM 6 0,
   oN 7 6,
   oF 8 2 7,
   oL 9 8,
   oJ 10 (.len false (.t 9)),
   oJ 11 (.bin .sub (.t 10) (.c (.p (.int .i64 1)))),
   oM 5 11])
 (.blk 0 (.loop (.seq (.seq (.reg [oM 12 5,
   oJ 13 (.bin .geq (.t 12) (.c (.p (.int .i64 0))))])
 (.cond (.t 13)
  (.skip)
  (.exit 0)))
 (.seq (.blk 1 (.seq (.reg [oM 16 0,
   oN 17 16,
   oF 18 2 17,
   oL 19 18,
   oM 20 5,
   oJ 21 (.idxS 3 (.t 19) (.t 20)),
   oF 22 0 21,
   oL 23 22,
   oM 24 1,
   oJ 25 (.bins .eql (.t 23) (.t 24))])
 (.cond (.t 25)
  (.seq (.reg [oM 26 5,
    oM 4 26])
  (.ret))
  (.skip))))
 (.reg [oM 14 5,
   oJ 15 (.bin .sub (.t 14) (.c (.p (.int .i64 1)))),
   oM 5 15]))))))
 (.seq (.reg [oJ 4 (.mov (.c (.p (.int .i64 (-1)))))])
 (.ret)))⟩
theorem nL:ag Tryz.prog cb=some eN:=by kernel_rfl
def nw:FK:=⟨11,[.t 2],
 .seq (.reg [oJ 2 (.mov (.c (.p (.str []))))])
 (.seq (.reg [oM 4 0,
   oJ 5 (.bin .rem (.t 4) (.c (.p (.int .i64 26)))),
   oM 3 5])
 (.seq (.reg [oM 6 3,
   oM 7 3,
   oJ 8 (.bin .add (.t 7) (.c (.p (.int .i64 1)))),
   oJ 9 (.slStr (.c (.p (.str [97,98,99,100,101,102,103,104,105,106,107,108,109,110,111,112,113,114,115,116,117,118,119,120,121,122]))) (some (.t 6)) (some (.t 8))),
   oJ 10 (.bins .add (.c (.p (.str [118]))) (.t 9)),
   oM 2 10])
 (.ret)))⟩
theorem ua:ag Tryz.prog ec=some nw:=by kernel_rfl
def F_spec_l4Walk_put:FK:=⟨57,[.t 6],
 .seq (.reg [oJ 6 (.mov (.c (.p (.str []))))])
 (.seq (.reg [oM 8 0,
   oM 9 1,
   oJ 10 (.call cb [(.t 8),(.t 9)]),
   oM 7 10])
 (.seq (.seq (.reg [oM 11 7,
   oJ 12 (.bin .geq (.t 11) (.c (.p (.int .i64 0)))),
   oM 13 12,
   ⟨(some 14),some (13,true),.mov (.t 0)⟩,
   ⟨(some 15),some (13,true),.nilck (.t 14)⟩,
   ⟨(some 16),some (13,true),.fldA 2 (.t 15)⟩,
   ⟨(some 17),some (13,true),.ld none (.t 16)⟩,
   ⟨(some 18),some (13,true),.mov (.t 7)⟩,
   ⟨(some 19),some (13,true),.idxS 3 (.t 17) (.t 18)⟩,
   ⟨(some 20),some (13,true),.fldA 2 (.t 19)⟩,
   ⟨(some 21),some (13,true),.ld none (.t 20)⟩,
   ⟨(some 22),some (13,true),.mov (.t 2)⟩,
   ⟨(some 23),some (13,true),.bin .eql (.t 21) (.t 22)⟩,
   oJ 24 (.pick (.t 13) (.t 23) (.c (.p (.bool false))))])
 (.cond (.t 24)
  (.reg [oM 25 0,
    oJ 26 (.call aF [(.t 25),(.c (.p (.int .i64 2)))])])
  (.skip)))
 (.seq (.reg [oM 27 0,
   oM 28 0,
   oN 29 28,
   oF 30 2 29,
   oM 32 1,
   oM 33 0,
   oN 34 33,
   oF 35 3 34,
   oM 37 2,
   oL 31 30,
   oL 36 35,
   oJ 38 (.bld [(.p (.str [])),(.p (.int .i64 0)),(.p (.int .i64 0))] [(0,1,(.t 32)),(1,1,(.t 36)),(2,1,(.t 37))]),
   oJ 39 (.bslP 3 [(.p (.str [])),(.p (.int .i64 0)),(.p (.int .i64 0))] 1 [(0,3,(.t 38))]),
   oJ 40 (.app 3 32 (.t 31) (.t 39)),
   oN 41 27,
   oF 42 2 41,
   oS 42 40])
 (.seq (.reg [oM 43 0,
   oM 44 0,
   oN 45 44,
   oF 46 3 45,
   oL 47 46,
   oJ 48 (.bin .add (.t 47) (.c (.p (.int .i64 1)))),
   oN 49 43,
   oF 50 3 49,
   oS 50 48])
 (.seq (.reg [oM 51 0,
   oN 52 51,
   oF 53 3 52,
   oL 54 53,
   oJ 55 (.bin .sub (.t 54) (.c (.p (.int .i64 1)))),
   oJ 56 (.call ec [(.t 55)]),
   oM 6 56])
 (.ret))))))⟩
theorem nY:ag Tryz.prog bJ=some F_spec_l4Walk_put:=by kernel_rfl
def jg:FK:=⟨23,[.t 4],
 .seq (.reg [oJ 4 (.mov (.c (.p (.str []))))])
 (.seq (.reg [oM 6 0,
   oM 7 1,
   oJ 8 (.call cb [(.t 6),(.t 7)]),
   oM 5 8])
 (.seq (.seq (.reg [oM 9 5,
   oJ 10 (.bin .lss (.t 9) (.c (.p (.int .i64 0))))])
 (.cond (.t 10)
  (.seq (.reg [oM 11 0,
    oJ 12 (.call aF [(.t 11),(.c (.p (.int .i64 3)))])])
  (.seq (.reg [oM 13 1,
    oM 4 13])
  (.ret)))
  (.skip)))
 (.seq (.reg [oM 14 0,
   oN 15 14,
   oF 16 2 15,
   oL 17 16,
   oM 18 5,
   oJ 19 (.idxS 3 (.t 17) (.t 18)),
   oF 20 1 19,
   oL 21 20,
   oJ 22 (.call ec [(.t 21)]),
   oM 4 22])
 (.ret))))⟩
theorem oP:ag Tryz.prog bK=some jg:=by kernel_rfl
def F_spec_l4Walk_expr:FK:=⟨75,[.c 4 (some 4)],
 .seq (.reg [oJ 3 (.box 4 (.t 1)),
  oJ 4 (.alloc [(.p (.int .i64 0)),(.p (.int .i64 0)),(.p (.str [])),.nils])])
 (.seq (.seq (.reg [oF 8 0 3,
   oL 9 8,
   oJ 10 (.bin .eql (.t 9) (.c (.p (.int .i64 2))))])
 (.cond (.t 10)
  (.reg [oM 11 0,
    oF 12 2 3,
    oL 13 12,
    oJ 14 (.call bK [(.t 11),(.t 13)]),
    oF 15 2 3,
    oS 15 14])
  (.skip)))
 (.seq (.seq (.reg [oF 16 0 3,
   oL 17 16,
   oJ 18 (.bin .eql (.t 17) (.c (.p (.int .i64 13))))])
 (.cond (.t 18)
  (.seq (.reg [oM 19 0,
    oN 20 19,
    oF 21 0 20,
    oF 23 2 3,
    oJ 22 (.ld (some 1) (.t 21)),
    oL 24 23,
    oJ 25 (.call eV [(.t 22),(.t 24)]),
    oM 5 25])
  (.seq (.reg [oM 26 5,
    oJ 27 (.bin .lss (.t 26) (.c (.p (.int .i64 0)))),
    oM 28 27,
    ⟨(some 29),some (28,false),.mov (.t 5)⟩,
    ⟨(some 30),some (28,false),.mov (.t 0)⟩,
    ⟨(some 31),some (28,false),.nilck (.t 30)⟩,
    ⟨(some 32),some (28,false),.fldA 1 (.t 31)⟩,
    ⟨(some 33),some (28,false),.ld none (.t 32)⟩,
    ⟨(some 34),some (28,false),.bin .geq (.t 29) (.t 33)⟩,
    oJ 35 (.pick (.t 28) (.c (.p (.bool true))) (.t 34))])
  (.cond (.t 35)
   (.reg [oM 36 0,
     oJ 37 (.call aF [(.t 36),(.c (.p (.int .i64 4)))])])
   (.seq (.reg [oM 38 0,
     oN 39 38,
     oF 40 0 39,
     oF 41 0 40,
     oM 43 5,
     oF 48 3 3,
     oL 42 41,
     oJ 44 (.idxS 3 (.t 42) (.t 43)),
     oF 45 1 44,
     oL 46 45,
     oJ 47 (.len false (.t 46)),
     oL 49 48,
     oJ 50 (.len false (.t 49)),
     oJ 51 (.bin .neq (.t 47) (.t 50))])
   (.cond (.t 51)
    (.reg [oM 52 0,
      oJ 53 (.call aF [(.t 52),(.c (.p (.int .i64 5)))])])
    (.skip))))))
  (.skip)))
 (.seq (.reg [oJ 54 (.bsl 4 [(.p (.int .i64 0)),(.p (.int .i64 0)),(.p (.str [])),.nils] 0 []),
   oM 6 54])
 (.seq (.seq (.reg [oK 7 0])
 (.blk 0 (.loop (.seq (.seq (.reg [oM 55 7,
   oF 56 3 3,
   oL 57 56,
   oJ 58 (.len false (.t 57)),
   oJ 59 (.bin .lss (.t 55) (.t 58))])
 (.cond (.t 59)
  (.skip)
  (.exit 0)))
 (.seq (.blk 1 (.reg [oM 62 6,
   oM 63 0,
   oF 64 3 3,
   oL 65 64,
   oM 66 7,
   oJ 67 (.idxS 4 (.t 65) (.t 66)),
   oJ 68 (.ld (some 4) (.t 67)),
   oJ 69 (.call aX [(.t 63),(.t 68)]),
   oJ 70 (.bsl 4 [(.p (.int .i64 0)),(.p (.int .i64 0)),(.p (.str [])),.nils] 1 [(0,4,(.t 69))]),
   oJ 71 (.app 4 56 (.t 62) (.t 70)),
   oM 6 71]))
 (.reg [oM 60 7,
   oJ 61 (.bin .add (.t 60) (.c (.p (.int .i64 1)))),
   oM 7 61]))))))
 (.seq (.reg [oM 72 6,
   oF 73 3 3,
   oS 73 72])
 (.seq (.reg [oJ 74 (.ld (some 4) (.t 3)),
   ⟨none,none,.st 4 (.t 4) (.t 74)⟩])
 (.ret)))))))⟩
theorem nF:ag Tryz.prog aX=some F_spec_l4Walk_expr:=by kernel_rfl
def F_spec_l4Walk_stmts:FK:=⟨96,[.t 6],
 .seq (.reg [oJ 6 (.mov (.c .nils))])
 (.seq (.reg [oJ 13 (.bsl 5 [(.p (.int .i64 0)),(.p (.str [])),.nils,.nils,.nils] 0 []),
   oM 7 13])
 (.seq (.reg [oM 14 0,
   oN 15 14,
   oF 16 2 15,
   oL 17 16,
   oJ 18 (.len false (.t 17)),
   oM 8 18])
 (.seq (.seq (.reg [oK 9 0])
 (.blk 0 (.loop (.seq (.seq (.reg [oM 19 9,
   oM 20 1,
   oJ 21 (.len false (.t 20)),
   oJ 22 (.bin .lss (.t 19) (.t 21))])
 (.cond (.t 22)
  (.skip)
  (.exit 0)))
 (.seq (.blk 1 (.seq (.reg [oM 25 1,
   oM 26 9,
   oJ 27 (.idxS 5 (.t 25) (.t 26)),
   oJ 28 (.ld (some 5) (.t 27)),
   oJ 10 (.alloc [(.p (.int .i64 0)),(.p (.str [])),.nils,.nils,.nils]),
   ⟨none,none,.st 5 (.t 10) (.t 28)⟩])
 (.seq (.reg [oJ 29 (.bsl 4 [(.p (.int .i64 0)),(.p (.int .i64 0)),(.p (.str [])),.nils] 0 []),
   oM 11 29])
 (.seq (.seq (.reg [oK 12 0])
 (.blk 2 (.loop (.seq (.seq (.reg [oM 30 12,
   oF 31 2 10,
   oL 32 31,
   oJ 33 (.len false (.t 32)),
   oJ 34 (.bin .lss (.t 30) (.t 33))])
 (.cond (.t 34)
  (.skip)
  (.exit 2)))
 (.seq (.blk 3 (.reg [oM 37 11,
   oM 38 0,
   oF 39 2 10,
   oL 40 39,
   oM 41 12,
   oJ 42 (.idxS 4 (.t 40) (.t 41)),
   oJ 43 (.ld (some 4) (.t 42)),
   oJ 44 (.call aX [(.t 38),(.t 43)]),
   oJ 45 (.bsl 4 [(.p (.int .i64 0)),(.p (.int .i64 0)),(.p (.str [])),.nils] 1 [(0,4,(.t 44))]),
   oJ 46 (.app 4 56 (.t 37) (.t 45)),
   oM 11 46]))
 (.reg [oM 35 12,
   oJ 36 (.bin .add (.t 35) (.c (.p (.int .i64 1)))),
   oM 12 36]))))))
 (.seq (.reg [oM 47 11,
   oF 48 2 10,
   oS 48 47])
 (.seq (.seq (.reg [oF 49 0 10,
   oL 50 49,
   oJ 51 (.bin .eql (.t 50) (.c (.p (.int .i64 1))))])
 (.cond (.t 51)
  (.reg [oM 52 0,
    oF 53 1 10,
    oL 54 53,
    oM 55 2,
    oJ 56 (.call bJ [(.t 52),(.t 54),(.t 55)]),
    oF 57 1 10,
    oS 57 56])
  (.skip)))
 (.seq (.seq (.reg [oF 58 0 10,
   oL 59 58,
   oJ 60 (.bin .eql (.t 59) (.c (.p (.int .i64 2))))])
 (.cond (.t 60)
  (.reg [oM 61 0,
    oF 62 1 10,
    oL 63 62,
    oJ 64 (.call bK [(.t 61),(.t 63)]),
    oF 65 1 10,
    oS 65 64])
  (.skip)))
 (.seq (.reg [oM 66 0,
   oF 67 3 10,
   oL 68 67,
   oM 69 2,
   oJ 70 (.bin .add (.t 69) (.c (.p (.int .i64 1)))),
   oJ 71 (.call aM [(.t 66),(.t 68),(.t 70)]),
   oF 72 3 10,
   oS 72 71])
 (.seq (.reg [oM 73 0,
   oF 74 4 10,
   oL 75 74,
   oM 76 2,
   oJ 77 (.bin .add (.t 76) (.c (.p (.int .i64 1)))),
   oJ 78 (.call aM [(.t 73),(.t 75),(.t 77)]),
   oF 79 4 10,
   oS 79 78])
 (.reg [oM 80 7,
   oJ 81 (.ld (some 5) (.t 10)),
   oJ 82 (.bsl 5 [(.p (.int .i64 0)),(.p (.str [])),.nils,.nils,.nils] 1 [(0,5,(.t 81))]),
   oJ 83 (.app 5 96 (.t 80) (.t 82)),
   oM 7 83]))))))))))
 (.reg [oM 23 9,
   oJ 24 (.bin .add (.t 23) (.c (.p (.int .i64 1)))),
   oM 9 24]))))))
 (.seq (.seq (.reg [oM 84 2,
   oJ 85 (.bin .gtr (.t 84) (.c (.p (.int .i64 0))))])
 (.cond (.t 85)
  (.reg [oM 86 0,
    oM 87 0,
    oN 88 87,
    oF 89 2 88,
    oL 90 89,
    oM 91 8,
    oJ 92 (.slS 3 (.t 90) none (some (.t 91))),
    oN 93 86,
    oF 94 2 93,
    oS 94 92])
  (.skip)))
 (.seq (.reg [oM 95 7,
   oM 6 95])
 (.ret))))))⟩
theorem mT:ag Tryz.prog aM=some F_spec_l4Walk_stmts:=by kernel_rfl
def F_spec_l4Fn:FK:=⟨62,[.c 4 (some 3),.t 5,.t 6],
 .seq (.reg [oJ 2 (.box 1 (.t 0)),
  oJ 4 (.alloc [(.p (.str [])),.nils,.nils]),
  oK 5 0,
  oK 6 0])
 (.seq (.reg [oJ 11 (.ld (some 1) (.t 2)),
   oM 12 1,
   oJ 13 (.bld [.nils,(.p (.int .i64 0)),.nils,(.p (.int .i64 0)),(.p (.int .i64 0))] [(0,1,(.t 11)),(1,1,(.t 12))]),
   oJ 14 (.box 5 (.t 13)),
   oM 7 14])
 (.seq (.reg [oF 15 0 2,
   oL 16 15,
   oM 17 1,
   oJ 18 (.idxS 3 (.t 16) (.t 17)),
   oJ 19 (.ld (some 3) (.t 18)),
   oJ 8 (.alloc [(.p (.str [])),.nils,.nils]),
   ⟨none,none,.st 3 (.t 8) (.t 19)⟩])
 (.seq (.seq (.reg [oJ 20 (.ld (some 1) (.t 2)),
   oF 21 0 8,
   oL 22 21,
   oJ 23 (.call eV [(.t 20),(.t 22)]),
   oM 24 1,
   oJ 25 (.bin .neq (.t 23) (.t 24))])
 (.cond (.t 25)
  (.reg [oM 26 7,
    oJ 27 (.call aF [(.t 26),(.c (.p (.int .i64 2)))])])
  (.skip)))
 (.seq (.reg [oJ 28 (.bsl 1 [(.p (.str []))] 0 []),
   oM 9 28])
 (.seq (.seq (.reg [oK 10 0])
 (.blk 0 (.loop (.seq (.seq (.reg [oM 29 10,
   oF 30 1 8,
   oL 31 30,
   oJ 32 (.len false (.t 31)),
   oJ 33 (.bin .lss (.t 29) (.t 32))])
 (.cond (.t 33)
  (.skip)
  (.exit 0)))
 (.seq (.blk 1 (.reg [oM 36 9,
   oM 37 7,
   oF 38 1 8,
   oL 39 38,
   oM 40 10,
   oJ 41 (.idxS 1 (.t 39) (.t 40)),
   oL 42 41,
   oJ 43 (.call bJ [(.t 37),(.t 42),(.c (.p (.int .i64 0)))]),
   oJ 44 (.bsl 1 [(.p (.str []))] 1 [(0,1,(.t 43))]),
   oJ 45 (.app 1 16 (.t 36) (.t 44)),
   oM 9 45]))
 (.reg [oM 34 10,
   oJ 35 (.bin .add (.t 34) (.c (.p (.int .i64 1)))),
   oM 10 35]))))))
 (.seq (.reg [oM 46 9,
   oF 47 1 8,
   oS 47 46])
 (.seq (.reg [oM 48 7,
   oF 49 2 8,
   oL 50 49,
   oJ 51 (.call aM [(.t 48),(.t 50),(.c (.p (.int .i64 0)))]),
   oF 52 2 8,
   oS 52 51])
 (.seq (.reg [oM 54 7,
   oN 55 54,
   oF 56 4 55,
   oM 58 7,
   oN 59 58,
   oF 60 3 59,
   oJ 53 (.ld (some 3) (.t 8)),
   oL 57 56,
   oL 61 60,
   ⟨none,none,.st 3 (.t 4) (.t 53)⟩,
   ⟨none,none,.chk none 56 57⟩,
   ⟨none,none,.chk none 60 61⟩,
   oM 5 57,
   oM 6 61])
 (.ret)))))))))⟩
theorem wF:ag Tryz.prog jj=some F_spec_l4Fn:=by kernel_rfl
def gQ:FK:=⟨27,[.t 2],
 .seq (.reg [oJ 1 (.box 1 (.t 0)),
  oK 2 0])
 (.seq (.seq (.reg [oJ 7 (.ld (some 1) (.t 1)),
   oJ 8 (.call dZ [(.t 7)]),
   oJ 9 (.not (.t 8))])
 (.cond (.t 9)
  (.seq (.reg [oK 2 1])
  (.ret))
  (.skip)))
 (.seq (.seq (.reg [oK 3 0])
 (.blk 0 (.loop (.seq (.seq (.reg [oM 10 3,
   oF 11 0 1,
   oL 12 11,
   oJ 13 (.len false (.t 12)),
   oJ 14 (.bin .lss (.t 10) (.t 13))])
 (.cond (.t 14)
  (.skip)
  (.exit 0)))
 (.seq (.blk 1 (.seq (.reg [oJ 18 (.ld (some 1) (.t 1)),
   oM 19 3,
   oJ 20 (.call jj [(.t 18),(.t 19)]),
   oM 17 20,
   oJ 21 (.ext 0 (.t 17)),
   oJ 22 (.ext 1 (.t 17)),
   oJ 23 (.ext 2 (.t 17)),
   oJ 4 (.alloc [(.p (.str [])),.nils,.nils]),
   ⟨none,none,.st 3 (.t 4) (.t 21)⟩,
   oM 5 22,
   oM 6 23])
 (.seq (.reg [oM 24 5,
   oJ 25 (.bin .neq (.t 24) (.c (.p (.int .i64 0))))])
 (.cond (.t 25)
  (.seq (.reg [oM 26 5,
    oM 2 26])
  (.ret))
  (.skip)))))
 (.reg [oM 15 3,
   oJ 16 (.bin .add (.t 15) (.c (.p (.int .i64 1)))),
   oM 3 16]))))))
 (.seq (.reg [oK 2 0])
 (.ret))))⟩
theorem mQ:ag Tryz.prog dY=some gQ:=by kernel_rfl
def nq:FK:=⟨6,[.t 2],
 .seq (.reg [oJ 1 (.box 1 (.t 0)),
  oJ 2 (.mov (.c (.p (.bool false))))])
 (.seq (.reg [oJ 3 (.ld (some 1) (.t 1)),
   oJ 4 (.call dY [(.t 3)]),
   oJ 5 (.bin .eql (.t 4) (.c (.p (.int .i64 0)))),
   oM 2 5])
 (.ret))⟩
theorem tL:ag Tryz.prog jl=some nq:=by kernel_rfl
def jA:FK:=⟨15,[.t 6],
 .seq (.reg [oJ 6 (.mov (.c (.p (.bool false))))])
 (.seq (.reg [oM 7 1,
   oM 8 0,
   oJ 9 (.bin .leq (.t 7) (.t 8)),
   oM 10 9,
   ⟨(some 11),some (10,true),.mov (.t 0)⟩,
   ⟨(some 12),some (10,true),.mov (.t 2)⟩,
   ⟨(some 13),some (10,true),.bin .leq (.t 11) (.t 12)⟩,
   oJ 14 (.pick (.t 10) (.t 13) (.c (.p (.bool false)))),
   oM 6 14])
 (.ret))⟩
theorem tC:ag Tryz.prog cx=some jA:=by kernel_rfl
def gM:FK:=⟨21,[.t 6],
 .seq (.reg [oK 6 0])
 (.seq (.seq (.reg [oM 9 0,
   oJ 10 (.rngS (.t 9))])
 (.blk 0 (.loop (.seq (.reg [oJ 11 (.nxtS (.t 10)),
   oJ 12 (.ext 0 (.t 11))])
 (.seq (.cond (.t 12)
  (.skip)
  (.exit 0))
 (.blk 1 (.seq (.reg [oJ 13 (.ext 1 (.t 11)),
   oJ 14 (.ext 2 (.t 11)),
   oM 7 13,
   oM 8 14])
 (.seq (.reg [oM 15 1,
   oM 16 8,
   oJ 17 (.callv (.t 15) [(.t 16)]),
   oM 18 2,
   oJ 19 (.beq false (.t 17) (.t 18))])
 (.cond (.t 19)
  (.seq (.reg [oM 20 7,
    oM 6 20])
  (.ret))
  (.skip))))))))))
 (.seq (.reg [oJ 6 (.mov (.c (.p (.int .i64 (-1)))))])
 (.ret)))⟩
theorem mM:ag Tryz.prog dX=some gM:=by kernel_rfl
def gP:FK:=⟨8,[.t 4],
 .seq (.reg [oK 4 0])
 (.seq (.reg [oM 5 0,
   oM 6 1,
   oJ 7 (.call dX [(.t 5),(.t 6),(.c (.p (.bool true)))]),
   oM 4 7])
 (.ret))⟩
theorem mO:ag Tryz.prog dS=some gP:=by kernel_rfl
def fL:FK:=⟨19,[.t 4],
 .seq (.reg [oK 4 0])
 (.seq (.seq (.reg [oM 6 0,
   oJ 7 (.len false (.t 6)),
   oK 8 0])
 (.blk 0 (.loop (.seq (.reg [oJ 9 (.bin .lss (.t 8) (.t 7))])
 (.seq (.cond (.t 9)
  (.skip)
  (.exit 0))
 (.seq (.blk 1 (.seq (.reg [oM 10 8,
   oM 5 10])
 (.seq (.reg [oM 11 1,
   oM 12 0,
   oM 13 5,
   oJ 14 (.idxS 1 (.t 12) (.t 13)),
   oL 15 14,
   oJ 16 (.bins .eql (.t 11) (.t 15))])
 (.cond (.t 16)
  (.seq (.reg [oM 17 5,
    oM 4 17])
  (.ret))
  (.skip)))))
 (.reg [oJ 18 (.bin .add (.t 8) (.c (.p (.int .i64 1)))),
   oM 8 18])))))))
 (.seq (.reg [oJ 4 (.mov (.c (.p (.int .i64 (-1)))))])
 (.ret)))⟩
theorem kS:ag Tryz.prog dj=some fL:=by kernel_rfl
def eu:FK:=⟨9,[.t 4],
 .seq (.reg [oJ 4 (.mov (.c (.p (.bool false))))])
 (.seq (.reg [oM 5 0,
   oM 6 1,
   oJ 7 (.call dj [(.t 5),(.t 6)]),
   oJ 8 (.bin .geq (.t 7) (.c (.p (.int .i64 0)))),
   oM 4 8])
 (.ret))⟩
theorem jt:ag Tryz.prog cB=some eu:=by kernel_rfl
def kI:FK:=⟨9,[.t 2],
 .seq (.reg [oJ 2 (.mov (.c (.p (.bool false))))])
 (.seq (.reg [oM 3 0,
   oJ 4 (.bin .lss (.t 3) (.c (.p (.int .i32 97)))),
   oM 5 4,
   ⟨(some 6),some (5,false),.mov (.t 0)⟩,
   ⟨(some 7),some (5,false),.bin .gtr (.t 6) (.c (.p (.int .i32 122)))⟩,
   oJ 8 (.pick (.t 5) (.c (.p (.bool true))) (.t 7)),
   oM 2 8])
 (.ret))⟩
theorem qS:ag Tryz.prog cr=some kI:=by kernel_rfl
def nb:FK:=⟨17,[.t 2],
 .seq (.reg [oJ 2 (.mov (.c (.p (.bool false))))])
 (.seq (.reg [oM 3 0,
   oJ 4 (.len true (.t 3)),
   oJ 5 (.call cx [(.t 4),(.c (.p (.int .i64 1))),(.c (.p (.int .i64 4)))]),
   oM 6 5,
   ⟨(some 7),some (6,true),.mov (.t 0)⟩,
   ⟨(some 8),some (6,true),.call dS [(.t 7),(.c (.fn (.func cr) []))]⟩,
   ⟨(some 9),some (6,true),.bin .lss (.t 8) (.c (.p (.int .i64 0)))⟩,
   oJ 10 (.pick (.t 6) (.t 9) (.c (.p (.bool false)))),
   oM 11 10,
   ⟨(some 12),some (11,true),.slA 9 1 (.c (.gp 1 0)) none none⟩,
   ⟨(some 13),some (11,true),.mov (.t 0)⟩,
   ⟨(some 14),some (11,true),.call cB [(.t 12),(.t 13)]⟩,
   ⟨(some 15),some (11,true),.not (.t 14)⟩,
   oJ 16 (.pick (.t 11) (.t 15) (.c (.p (.bool false)))),
   oM 2 16])
 (.ret))⟩
theorem tM:ag Tryz.prog be=some nb:=by kernel_rfl
def dM:FK:=⟨19,[.t 4],
 .seq (.reg [oK 4 0])
 (.seq (.seq (.reg [oM 6 0,
   oJ 7 (.len false (.t 6)),
   oK 8 0])
 (.blk 0 (.loop (.seq (.reg [oJ 9 (.bin .lss (.t 8) (.t 7))])
 (.seq (.cond (.t 9)
  (.skip)
  (.exit 0))
 (.seq (.blk 1 (.seq (.reg [oM 10 8,
   oM 5 10])
 (.seq (.reg [oM 11 1,
   oM 12 0,
   oM 13 5,
   oJ 14 (.idxS 1 (.t 12) (.t 13)),
   oL 15 14,
   oJ 16 (.callv (.t 11) [(.t 15)])])
 (.cond (.t 16)
  (.seq (.reg [oM 17 5,
    oM 4 17])
  (.ret))
  (.skip)))))
 (.reg [oJ 18 (.bin .add (.t 8) (.c (.p (.int .i64 1)))),
   oM 8 18])))))))
 (.seq (.reg [oJ 4 (.mov (.c (.p (.int .i64 (-1)))))])
 (.ret)))⟩
theorem iT:ag Tryz.prog co=some dM:=by kernel_rfl
def cY:FK:=⟨9,[.t 4],
 .seq (.reg [oJ 4 (.mov (.c (.p (.bool false))))])
 (.seq (.reg [oM 5 0,
   oM 6 1,
   oJ 7 (.call co [(.t 5),(.t 6)]),
   oJ 8 (.bin .geq (.t 7) (.c (.p (.int .i64 0)))),
   oM 4 8])
 (.ret))⟩
theorem gF:ag Tryz.prog bO=some cY:=by kernel_rfl
def cX:FK:=⟨19,[.t 4],
 .seq (.reg [oK 4 0])
 (.seq (.seq (.reg [oM 6 0,
   oJ 7 (.len false (.t 6)),
   oK 8 0])
 (.blk 0 (.loop (.seq (.reg [oJ 9 (.bin .lss (.t 8) (.t 7))])
 (.seq (.cond (.t 9)
  (.skip)
  (.exit 0))
 (.seq (.blk 1 (.seq (.reg [oM 10 8,
   oM 5 10])
 (.seq (.reg [oM 11 1,
   oM 12 0,
   oM 13 5,
   oJ 14 (.idxS 5 (.t 12) (.t 13)),
   oJ 15 (.ld (some 5) (.t 14)),
   oJ 16 (.callv (.t 11) [(.t 15)])])
 (.cond (.t 16)
  (.seq (.reg [oM 17 5,
    oM 4 17])
  (.ret))
  (.skip)))))
 (.reg [oJ 18 (.bin .add (.t 8) (.c (.p (.int .i64 1)))),
   oM 8 18])))))))
 (.seq (.reg [oJ 4 (.mov (.c (.p (.int .i64 (-1)))))])
 (.ret)))⟩
theorem gH:ag Tryz.prog bP=some cX:=by kernel_rfl
def cE:FK:=⟨9,[.t 4],
 .seq (.reg [oJ 4 (.mov (.c (.p (.bool false))))])
 (.seq (.reg [oM 5 0,
   oM 6 1,
   oJ 7 (.call bP [(.t 5),(.t 6)]),
   oJ 8 (.bin .geq (.t 7) (.c (.p (.int .i64 0)))),
   oM 4 8])
 (.ret))⟩
theorem fH:ag Tryz.prog bq=some cE:=by kernel_rfl
def aR:FK:=⟨20,[.t 2,.t 3,.t 4,.t 5],
 .seq (.reg [oK 2 0,
  oJ 3 (.mov (.c (.p (.bool false)))),
  oJ 4 (.mov (.c (.p (.bool false)))),
  oJ 5 (.mov (.c (.p (.bool false))))])
 (.seq (.seq (.reg [oM 6 0])
 (.blk 0 (.seq (.seq (.reg [oJ 8 (.bin .eql (.t 6) (.c (.p (.int .i64 1)))),
   oM 7 8])
 (.cond (.t 7)
  (.skip)
  (.reg [oJ 9 (.bin .eql (.t 6) (.c (.p (.int .i64 2)))),
    oM 7 9])))
 (.cond (.t 7)
  (.seq (.reg [oK 2 1,
    oJ 3 (.mov (.c (.p (.bool true)))),
    oJ 4 (.mov (.c (.p (.bool false)))),
    oJ 5 (.mov (.c (.p (.bool false))))])
  (.ret))
  (.seq (.seq (.reg [oJ 11 (.bin .eql (.t 6) (.c (.p (.int .i64 3)))),
    oM 10 11])
  (.cond (.t 10)
   (.skip)
   (.seq (.reg [oJ 12 (.bin .eql (.t 6) (.c (.p (.int .i64 7)))),
     oM 10 12])
   (.cond (.t 10)
    (.skip)
    (.reg [oJ 13 (.bin .eql (.t 6) (.c (.p (.int .i64 8)))),
      oM 10 13])))))
  (.cond (.t 10)
   (.seq (.reg [oK 2 1,
     oJ 3 (.mov (.c (.p (.bool false)))),
     oJ 4 (.mov (.c (.p (.bool false)))),
     oJ 5 (.mov (.c (.p (.bool false))))])
   (.ret))
   (.seq (.reg [oJ 15 (.bin .eql (.t 6) (.c (.p (.int .i64 4)))),
     oM 14 15])
   (.cond (.t 14)
    (.seq (.reg [oK 2 2,
      oJ 3 (.mov (.c (.p (.bool false)))),
      oJ 4 (.mov (.c (.p (.bool false)))),
      oJ 5 (.mov (.c (.p (.bool false))))])
    (.ret))
    (.seq (.reg [oJ 17 (.bin .eql (.t 6) (.c (.p (.int .i64 5)))),
      oM 16 17])
    (.cond (.t 16)
     (.seq (.reg [oK 2 1,
       oJ 3 (.mov (.c (.p (.bool false)))),
       oJ 4 (.mov (.c (.p (.bool true)))),
       oJ 5 (.mov (.c (.p (.bool true))))])
     (.ret))
     (.seq (.reg [oJ 19 (.bin .eql (.t 6) (.c (.p (.int .i64 6)))),
       oM 18 19])
     (.cond (.t 18)
      (.seq (.reg [oK 2 1,
        oJ 3 (.mov (.c (.p (.bool false)))),
        oJ 4 (.mov (.c (.p (.bool true)))),
        oJ 5 (.mov (.c (.p (.bool false))))])
      (.ret))
      (.skip)))))))))))))
 (.seq (.reg [oJ 2 (.mov (.c (.p (.int .i64 (-1))))),
   oJ 3 (.mov (.c (.p (.bool false)))),
   oJ 4 (.mov (.c (.p (.bool false)))),
   oJ 5 (.mov (.c (.p (.bool false))))])
 (.ret)))⟩
theorem qX:ag Tryz.prog eI=some aR:=by kernel_rfl
def mZ:FK:=⟨5,[.t 2],
 .seq (.reg [oJ 2 (.mov (.c (.p (.bool false))))])
 (.seq (.reg [oM 3 0,
   oJ 4 (.call cx [(.t 3),(.c (.p (.int .i64 0))),(.c (.p (.int .i64 255)))]),
   oM 2 4])
 (.ret))⟩
theorem tB:ag Tryz.prog gn=some mZ:=by kernel_rfl
def dB:FK:=⟨20,[.t 2],
 .seq (.reg [oK 2 0])
 (.seq (.blk 0 (.seq (.reg [oJ 4 (.ld none (.c (.gp 2 0))),
   oM 5 0,
   oJ 6 (.lk 0 (.agg [(.p (.str [])),(.p (.int .i64 0))]) false (.t 4) (.t 5)),
   oJ 7 (.fldv 1 none (.t 6)),
   oJ 8 (.bin .gtr (.t 7) (.c (.p (.int .i64 0)))),
   oM 3 8])
 (.cond (.t 3)
  (.seq (.reg [oJ 9 (.ld none (.c (.gp 2 0))),
    oM 10 0,
    oJ 11 (.lk 0 (.agg [(.p (.str [])),(.p (.int .i64 0))]) false (.t 9) (.t 10)),
    oJ 12 (.fldv 1 none (.t 11)),
    oM 2 12])
  (.ret))
  (.seq (.reg [oM 14 0,
    oJ 15 (.bin .eql (.t 14) (.c (.p (.int .i64 11)))),
    oM 16 15,
    ⟨(some 17),some (16,false),.mov (.t 0)⟩,
    ⟨(some 18),some (16,false),.bin .eql (.t 17) (.c (.p (.int .i64 12)))⟩,
    oJ 19 (.pick (.t 16) (.c (.p (.bool true))) (.t 18)),
    oM 13 19])
  (.cond (.t 13)
   (.seq (.reg [oK 2 5])
   (.ret))
   (.skip))))))
 (.seq (.reg [oK 2 6])
 (.ret)))⟩
theorem rp:ag Tryz.prog fD=some dB:=by kernel_rfl
def F_impl_exprSize:FK:=⟨127,[.t 4,.t 5,.t 6],
 .seq (.reg [oJ 2 (.box 4 (.t 0)),
  oK 4 0,
  oK 5 0,
  oJ 6 (.mov (.c (.p (.bool false))))])
 (.seq (.reg [oK 7 0,
   oK 8 0])
 (.seq (.blk 0 (.seq (.reg [oF 17 0 2,
   oL 18 17,
   oJ 19 (.bin .eql (.t 18) (.c (.p (.int .i64 1)))),
   oM 16 19])
 (.cond (.t 16)
  (.seq (.reg [oF 20 1 2,
    oL 21 20,
    oJ 22 (.call gn [(.t 21)]),
    oJ 23 (.not (.t 22)),
    oM 24 23,
    ⟨(some 25),some (24,false),.fldA 2 (.t 2)⟩,
    ⟨(some 26),some (24,false),.ld none (.t 25)⟩,
    ⟨(some 27),some (24,false),.bins .neq (.t 26) (.c (.p (.str [])))⟩,
    oJ 28 (.pick (.t 24) (.c (.p (.bool true))) (.t 27))])
  (.cond (.t 28)
   (.seq (.reg [oK 4 0,
     oK 5 0,
     oJ 6 (.mov (.c (.p (.bool false))))])
   (.ret))
   (.skip)))
  (.seq (.reg [oF 30 0 2,
    oL 31 30,
    oJ 32 (.bin .eql (.t 31) (.c (.p (.int .i64 2)))),
    oM 29 32])
  (.cond (.t 29)
   (.seq (.reg [oF 33 2 2,
     oL 34 33,
     oJ 35 (.call be [(.t 34)]),
     oJ 36 (.not (.t 35)),
     oM 37 36,
     ⟨(some 38),some (37,false),.fldA 1 (.t 2)⟩,
     ⟨(some 39),some (37,false),.ld none (.t 38)⟩,
     ⟨(some 40),some (37,false),.bin .neq (.t 39) (.c (.p (.int .i64 0)))⟩,
     oJ 41 (.pick (.t 37) (.c (.p (.bool true))) (.t 40))])
   (.cond (.t 41)
    (.seq (.reg [oK 4 0,
      oK 5 0,
      oJ 6 (.mov (.c (.p (.bool false))))])
    (.ret))
    (.skip)))
   (.seq (.reg [oF 43 0 2,
     oL 44 43,
     oJ 45 (.bin .eql (.t 44) (.c (.p (.int .i64 13)))),
     oM 42 45])
   (.cond (.t 42)
    (.seq (.reg [oK 8 3])
    (.seq (.reg [oF 46 2 2,
      oL 47 46,
      oJ 48 (.call be [(.t 47)]),
      oJ 49 (.not (.t 48)),
      oM 50 49,
      ⟨(some 51),some (50,false),.fldA 1 (.t 2)⟩,
      ⟨(some 52),some (50,false),.ld none (.t 51)⟩,
      ⟨(some 53),some (50,false),.bin .neq (.t 52) (.c (.p (.int .i64 0)))⟩,
      oJ 54 (.pick (.t 50) (.c (.p (.bool true))) (.t 53))])
    (.cond (.t 54)
     (.seq (.reg [oK 4 0,
       oK 5 0,
       oJ 6 (.mov (.c (.p (.bool false))))])
     (.ret))
     (.skip))))
    (.seq (.reg [oJ 56 (.ld none (.c (.gp 2 0))),
      oF 57 0 2,
      oL 58 57,
      oJ 59 (.lk 0 (.agg [(.p (.str [])),(.p (.int .i64 0))]) false (.t 56) (.t 58)),
      oJ 60 (.fldv 1 none (.t 59)),
      oJ 61 (.bin .gtr (.t 60) (.c (.p (.int .i64 0)))),
      oM 55 61])
    (.cond (.t 55)
     (.reg [oK 7 2,
       oK 8 2])
     (.seq (.reg [oF 63 0 2,
       oL 64 63,
       oJ 65 (.bin .eql (.t 64) (.c (.p (.int .i64 11)))),
       oM 66 65,
       ⟨(some 67),some (66,false),.fldA 0 (.t 2)⟩,
       ⟨(some 68),some (66,false),.ld none (.t 67)⟩,
       ⟨(some 69),some (66,false),.bin .eql (.t 68) (.c (.p (.int .i64 12)))⟩,
       oJ 70 (.pick (.t 66) (.c (.p (.bool true))) (.t 69)),
       oM 62 70])
     (.cond (.t 62)
      (.reg [oK 7 1,
        oK 8 1])
      (.seq (.reg [oK 4 0,
        oK 5 0,
        oJ 6 (.mov (.c (.p (.bool false))))])
      (.ret)))))))))))))
 (.seq (.seq (.reg [oF 71 0 2,
   oL 72 71,
   oJ 73 (.call fD [(.t 72)]),
   oJ 74 (.bin .lss (.t 73) (.c (.p (.int .i64 6)))),
   oM 75 74,
   ⟨(some 76),some (75,true),.fldA 1 (.t 2)⟩,
   ⟨(some 77),some (75,true),.ld none (.t 76)⟩,
   ⟨(some 78),some (75,true),.bin .neq (.t 77) (.c (.p (.int .i64 0)))⟩,
   ⟨(some 79),some (75,true),.mov (.t 78)⟩,
   ⟨(some 80),some (79,false),.fldA 2 (.t 2)⟩,
   ⟨(some 81),some (79,false),.ld none (.t 80)⟩,
   ⟨(some 82),some (79,false),.bins .neq (.t 81) (.c (.p (.str [])))⟩,
   ⟨(some 83),some (75,true),.pick (.t 79) (.c (.p (.bool true))) (.t 82)⟩,
   oJ 84 (.pick (.t 75) (.t 83) (.c (.p (.bool false)))),
   oM 85 84,
   ⟨(some 86),some (85,false),.fldA 3 (.t 2)⟩,
   ⟨(some 87),some (85,false),.ld none (.t 86)⟩,
   ⟨(some 88),some (85,false),.len false (.t 87)⟩,
   ⟨(some 89),some (85,false),.mov (.t 7)⟩,
   ⟨(some 90),some (85,false),.mov (.t 8)⟩,
   ⟨(some 91),some (85,false),.call cx [(.t 88),(.t 89),(.t 90)]⟩,
   ⟨(some 92),some (85,false),.not (.t 91)⟩,
   oJ 93 (.pick (.t 85) (.c (.p (.bool true))) (.t 92)),
   oM 94 93,
   ⟨(some 95),some (94,false),.mov (.t 1)⟩,
   ⟨(some 96),some (94,false),.bin .lss (.t 95) (.c (.p (.int .i64 1)))⟩,
   oJ 97 (.pick (.t 94) (.c (.p (.bool true))) (.t 96))])
 (.cond (.t 97)
  (.seq (.reg [oK 4 0,
    oK 5 0,
    oJ 6 (.mov (.c (.p (.bool false))))])
  (.ret))
  (.skip)))
 (.seq (.reg [oK 9 1,
   oK 10 1])
 (.seq (.seq (.reg [oF 98 3 2,
   oL 99 98,
   oJ 100 (.len false (.t 99)),
   oK 101 0])
 (.blk 1 (.loop (.seq (.reg [oJ 102 (.bin .lss (.t 101) (.t 100))])
 (.seq (.cond (.t 102)
  (.skip)
  (.exit 1))
 (.seq (.blk 2 (.seq (.reg [oJ 103 (.idxS 4 (.t 99) (.t 101)),
   oJ 104 (.ld (some 4) (.t 103)),
   oJ 12 (.alloc [(.p (.int .i64 0)),(.p (.int .i64 0)),(.p (.str [])),.nils]),
   ⟨none,none,.st 4 (.t 12) (.t 104)⟩])
 (.seq (.reg [oJ 106 (.ld (some 4) (.t 12)),
   oM 107 1,
   oJ 108 (.bin .sub (.t 107) (.c (.p (.int .i64 1)))),
   oJ 109 (.call db [(.t 106),(.t 108)]),
   oM 105 109,
   oJ 110 (.ext 0 (.t 105)),
   oJ 111 (.ext 1 (.t 105)),
   oJ 112 (.ext 2 (.t 105)),
   oM 13 110,
   oM 14 111,
   oM 15 112])
 (.seq (.seq (.reg [oM 113 15,
   oJ 114 (.not (.t 113))])
 (.cond (.t 114)
  (.seq (.reg [oK 4 0,
    oK 5 0,
    oJ 6 (.mov (.c (.p (.bool false))))])
  (.ret))
  (.skip)))
 (.seq (.reg [oM 115 9,
   oM 116 13,
   oJ 117 (.bin .add (.t 115) (.t 116)),
   oM 9 117])
 (.reg [oM 118 10,
   oM 119 14,
   oJ 120 (.bin .add (.t 119) (.c (.p (.int .i64 1)))),
   oJ 121 (.mx (.t 118) (.t 120)),
   oM 10 121]))))))
 (.reg [oJ 122 (.bin .add (.t 101) (.c (.p (.int .i64 1)))),
   oM 101 122])))))))
 (.seq (.reg [oM 123 9,
   oM 124 10,
   oM 125 9,
   oJ 126 (.bin .leq (.t 125) (.c (.p (.int .i64 30)))),
   oM 4 123,
   oM 5 124,
   oM 6 126])
 (.ret)))))))⟩
theorem qQ:ag Tryz.prog db=some F_impl_exprSize:=by kernel_rfl
def jJ:FK:=⟨13,[.t 2],
 .seq (.reg [oJ 1 (.box 4 (.t 0)),
  oJ 2 (.mov (.c (.p (.bool false))))])
 (.seq (.reg [oJ 7 (.ld (some 4) (.t 1)),
   oJ 8 (.call db [(.t 7),(.c (.p (.int .i64 6)))]),
   oM 6 8,
   oJ 9 (.ext 0 (.t 6)),
   oJ 10 (.ext 1 (.t 6)),
   oJ 11 (.ext 2 (.t 6)),
   oM 3 9,
   oM 4 10,
   oM 5 11])
 (.seq (.reg [oM 12 5,
   oM 2 12])
 (.ret)))⟩
theorem qh:ag Tryz.prog dH=some jJ:=by kernel_rfl
def F_impl_stmtOk:FK:=⟨91,[.t 4],
 .seq (.reg [oJ 2 (.box 5 (.t 0)),
  oJ 4 (.mov (.c (.p (.bool false))))])
 (.seq (.reg [oF 12 0 2,
   oL 13 12,
   oJ 14 (.call eI [(.t 13)]),
   oM 11 14,
   oJ 15 (.ext 0 (.t 11)),
   oJ 16 (.ext 1 (.t 11)),
   oJ 17 (.ext 2 (.t 11)),
   oJ 18 (.ext 3 (.t 11)),
   oM 5 15,
   oM 6 16,
   oM 7 17,
   oM 8 18])
 (.seq (.blk 0 (.seq (.seq (.reg [oM 20 1,
   oJ 21 (.bin .gtr (.t 20) (.c (.p (.int .i64 4)))),
   oM 19 21])
 (.cond (.t 19)
  (.skip)
  (.seq (.reg [oF 22 2 2,
    oL 23 22,
    oJ 24 (.len false (.t 23)),
    oM 25 5,
    oJ 26 (.bin .neq (.t 24) (.t 25)),
    oM 19 26])
  (.cond (.t 19)
   (.skip)
   (.seq (.reg [oM 27 6,
     oM 28 27,
     ⟨(some 29),some (28,true),.fldA 1 (.t 2)⟩,
     ⟨(some 30),some (28,true),.ld none (.t 29)⟩,
     ⟨(some 31),some (28,true),.call be [(.t 30)]⟩,
     ⟨(some 32),some (28,true),.not (.t 31)⟩,
     oJ 33 (.pick (.t 28) (.t 32) (.c (.p (.bool false)))),
     oM 19 33])
   (.cond (.t 19)
    (.skip)
    (.seq (.reg [oM 34 6,
      oJ 35 (.not (.t 34)),
      oM 36 35,
      ⟨(some 37),some (36,true),.fldA 1 (.t 2)⟩,
      ⟨(some 38),some (36,true),.ld none (.t 37)⟩,
      ⟨(some 39),some (36,true),.bins .neq (.t 38) (.c (.p (.str [])))⟩,
      oJ 40 (.pick (.t 36) (.t 39) (.c (.p (.bool false)))),
      oM 19 40])
    (.cond (.t 19)
     (.skip)
     (.seq (.reg [oM 41 7,
       oJ 42 (.not (.t 41)),
       oM 43 42,
       ⟨(some 44),some (43,true),.fldA 3 (.t 2)⟩,
       ⟨(some 45),some (43,true),.ld none (.t 44)⟩,
       ⟨(some 46),some (43,true),.len false (.t 45)⟩,
       ⟨(some 47),some (43,true),.bin .gtr (.t 46) (.c (.p (.int .i64 0)))⟩,
       oJ 48 (.pick (.t 43) (.t 47) (.c (.p (.bool false)))),
       oM 19 48])
     (.cond (.t 19)
      (.skip)
      (.seq (.reg [oM 49 8,
        oJ 50 (.not (.t 49)),
        oM 51 50,
        ⟨(some 52),some (51,true),.fldA 4 (.t 2)⟩,
        ⟨(some 53),some (51,true),.ld none (.t 52)⟩,
        ⟨(some 54),some (51,true),.len false (.t 53)⟩,
        ⟨(some 55),some (51,true),.bin .gtr (.t 54) (.c (.p (.int .i64 0)))⟩,
        oJ 56 (.pick (.t 51) (.t 55) (.c (.p (.bool false)))),
        oM 19 56])
      (.cond (.t 19)
       (.skip)
       (.reg [oF 57 0 2,
         oL 58 57,
         oJ 59 (.bin .eql (.t 58) (.c (.p (.int .i64 8)))),
         oM 60 59,
         ⟨(some 61),some (60,true),.fldA 2 (.t 2)⟩,
         ⟨(some 62),some (60,true),.ld none (.t 61)⟩,
         ⟨(some 63),some (60,true),.idxS 4 (.t 62) (.c (.p (.int .i64 0)))⟩,
         ⟨(some 64),some (60,true),.fldA 0 (.t 63)⟩,
         ⟨(some 65),some (60,true),.ld none (.t 64)⟩,
         ⟨(some 66),some (60,true),.bin .neq (.t 65) (.c (.p (.int .i64 13)))⟩,
         oJ 67 (.pick (.t 60) (.t 66) (.c (.p (.bool false)))),
         oM 19 67])))))))))))))
 (.cond (.t 19)
  (.seq (.reg [oJ 4 (.mov (.c (.p (.bool false))))])
  (.ret))
  (.skip))))
 (.seq (.seq (.reg [oF 68 2 2,
   oL 69 68,
   oJ 70 (.len false (.t 69)),
   oK 71 0])
 (.blk 1 (.loop (.seq (.reg [oJ 72 (.bin .lss (.t 71) (.t 70))])
 (.seq (.cond (.t 72)
  (.skip)
  (.exit 1))
 (.seq (.blk 2 (.seq (.reg [oJ 73 (.idxS 4 (.t 69) (.t 71)),
   oJ 74 (.ld (some 4) (.t 73)),
   oJ 10 (.alloc [(.p (.int .i64 0)),(.p (.int .i64 0)),(.p (.str [])),.nils]),
   ⟨none,none,.st 4 (.t 10) (.t 74)⟩])
 (.seq (.reg [oJ 75 (.ld (some 4) (.t 10)),
   oJ 76 (.call dH [(.t 75)]),
   oJ 77 (.not (.t 76))])
 (.cond (.t 77)
  (.seq (.reg [oJ 4 (.mov (.c (.p (.bool false))))])
  (.ret))
  (.skip)))))
 (.reg [oJ 78 (.bin .add (.t 71) (.c (.p (.int .i64 1)))),
   oM 71 78])))))))
 (.seq (.reg [oF 79 3 2,
   oL 80 79,
   oM 81 1,
   oJ 82 (.bin .add (.t 81) (.c (.p (.int .i64 1)))),
   oJ 83 (.call cg [(.t 80),(.t 82)]),
   oM 84 83,
   ⟨(some 85),some (84,true),.fldA 4 (.t 2)⟩,
   ⟨(some 86),some (84,true),.ld none (.t 85)⟩,
   ⟨(some 87),some (84,true),.mov (.t 1)⟩,
   ⟨(some 88),some (84,true),.bin .add (.t 87) (.c (.p (.int .i64 1)))⟩,
   ⟨(some 89),some (84,true),.call cg [(.t 86),(.t 88)]⟩,
   oJ 90 (.pick (.t 84) (.t 89) (.c (.p (.bool false)))),
   oM 4 90])
 (.ret)))))⟩
theorem nc:ag Tryz.prog gl=some F_impl_stmtOk:=by kernel_rfl
def jW:FK:=⟨8,[.t 3],
 .seq (.reg [oJ 2 (.box 5 (.t 0)),
  oJ 3 (.mov (.c (.p (.bool false))))])
 (.seq (.reg [oJ 4 (.ld (some 5) (.t 2)),
   oL 5 1,
   oJ 6 (.call gl [(.t 4),(.t 5)]),
   oJ 7 (.not (.t 6)),
   oM 3 7])
 (.ret))⟩
theorem pY:ag Tryz.prog bZ=some jW:=by kernel_rfl
def mb:FK:=⟨9,[.t 4],
 .seq (.reg [oJ 3 (.box 1 (.t 1)),
  oJ 4 (.mov (.c (.p (.bool false))))])
 (.seq (.reg [oM 5 0,
   oJ 6 (.mkf (.func bZ) [(.t 3)]),
   oJ 7 (.call bq [(.t 5),(.t 6)]),
   oJ 8 (.not (.t 7)),
   oM 4 8])
 (.ret))⟩
theorem rR:ag Tryz.prog cg=some mb:=by kernel_rfl
def kf:FK:=⟨31,[],
 .seq (.reg [oM 8 0,
  oJ 9 (.len false (.t 8)),
  oK 10 0])
 (.blk 0 (.loop (.seq (.reg [oJ 11 (.bin .lss (.t 10) (.t 9))])
 (.seq (.cond (.t 11)
  (.skip)
  (.exit 0))
 (.seq (.blk 1 (.seq (.reg [oJ 12 (.idxS 5 (.t 8) (.t 10)),
   oJ 13 (.ld (some 5) (.t 12)),
   oJ 7 (.alloc [(.p (.int .i64 0)),(.p (.str [])),.nils,.nils,.nils]),
   ⟨none,none,.st 5 (.t 7) (.t 13)⟩])
 (.seq (.reg [oM 14 2,
   oJ 15 (.ld (some 5) (.t 7)),
   oM 16 1,
   oJ 17 (.callv (.t 14) [(.t 15),(.t 16)])])
 (.seq (.reg [oF 18 3 7,
   oL 19 18,
   oM 20 1,
   oJ 21 (.bin .add (.t 20) (.c (.p (.int .i64 1)))),
   oM 22 2,
   oJ 23 (.call cR [(.t 19),(.t 21),(.t 22)])])
 (.reg [oF 24 4 7,
   oL 25 24,
   oM 26 1,
   oJ 27 (.bin .add (.t 26) (.c (.p (.int .i64 1)))),
   oM 28 2,
   oJ 29 (.call cR [(.t 25),(.t 27),(.t 28)])])))))
 (.reg [oJ 30 (.bin .add (.t 10) (.c (.p (.int .i64 1)))),
   oM 10 30]))))))⟩
theorem oW:ag Tryz.prog cR=some kf:=by kernel_rfl
def ka:FK:=⟨11,[],
 .seq (.reg [oJ 4 (.box 5 (.t 0))])
 (.seq (.reg [oL 6 2,
   oJ 7 (.bin .add (.t 6) (.c (.p (.int .i64 1)))),
   oS 2 7])
 (.reg [oL 8 3,
   oM 9 1,
   oJ 10 (.mx (.t 8) (.t 9)),
   oS 3 10]))⟩
theorem pU:ag Tryz.prog dE=some ka:=by kernel_rfl
def lN:FK:=⟨20,[.c 2 none,.c 3 none],
 .seq (.reg [oJ 1 (.box 1 (.t 0)),
  oJ 2 (.alloc [(.p (.int .i64 0))]),
  oJ 3 (.alloc [(.p (.int .i64 0))])])
 (.seq (.seq (.reg [oF 6 0 1,
   oL 7 6,
   oJ 8 (.len false (.t 7)),
   oK 9 0])
 (.blk 0 (.loop (.seq (.reg [oJ 10 (.bin .lss (.t 9) (.t 8))])
 (.seq (.cond (.t 10)
  (.skip)
  (.exit 0))
 (.seq (.blk 1 (.seq (.reg [oJ 11 (.idxS 3 (.t 7) (.t 9)),
   oJ 12 (.ld (some 3) (.t 11)),
   oJ 5 (.alloc [(.p (.str [])),.nils,.nils]),
   ⟨none,none,.st 3 (.t 5) (.t 12)⟩])
 (.reg [oF 13 2 5,
   oL 14 13,
   oJ 15 (.mkf (.func dE) [(.t 2),(.t 3)]),
   oJ 16 (.call cR [(.t 14),(.c (.p (.int .i64 1))),(.t 15)])])))
 (.reg [oJ 17 (.bin .add (.t 9) (.c (.p (.int .i64 1)))),
   oM 9 17])))))))
 (.seq (.reg [oL 18 2,
   oL 19 3,
   oS 2 18,
   ⟨none,none,.chk none 3 19⟩,
   oS 3 19])
 (.ret)))⟩
theorem tz:ag Tryz.prog hZ=some lN:=by kernel_rfl
def fI:FK:=⟨6,[.t 2],
 .seq (.reg [oJ 2 (.mov (.c (.p (.bool false))))])
 (.seq (.reg [oM 3 0,
   oJ 4 (.call be [(.t 3)]),
   oJ 5 (.not (.t 4)),
   oM 2 5])
 (.ret))⟩
theorem kR:ag Tryz.prog aV=some fI:=by kernel_rfl
def gN:FK:=⟨48,[.t 2],
 .seq (.reg [oJ 1 (.box 1 (.t 0)),
  oJ 2 (.mov (.c (.p (.bool false))))])
 (.seq (.seq (.reg [oF 7 0 1,
   oL 8 7,
   oJ 9 (.len false (.t 8)),
   oJ 10 (.call cx [(.t 9),(.c (.p (.int .i64 1))),(.c (.p (.int .i64 4)))]),
   oJ 11 (.not (.t 10))])
 (.cond (.t 11)
  (.seq (.reg [oJ 2 (.mov (.c (.p (.bool false))))])
  (.ret))
  (.skip)))
 (.seq (.seq (.reg [oF 12 0 1,
   oL 13 12,
   oJ 14 (.len false (.t 13)),
   oK 15 0])
 (.blk 0 (.loop (.seq (.reg [oJ 16 (.bin .lss (.t 15) (.t 14))])
 (.seq (.cond (.t 16)
  (.skip)
  (.exit 0))
 (.seq (.blk 1 (.seq (.reg [oJ 17 (.idxS 3 (.t 13) (.t 15)),
   oJ 18 (.ld (some 3) (.t 17)),
   oJ 4 (.alloc [(.p (.str [])),.nils,.nils]),
   ⟨none,none,.st 3 (.t 4) (.t 18)⟩])
 (.seq (.reg [oF 19 0 4,
   oL 20 19,
   oJ 21 (.call be [(.t 20)]),
   oJ 22 (.not (.t 21)),
   oM 23 22,
   ⟨(some 24),some (23,false),.fldA 1 (.t 4)⟩,
   ⟨(some 25),some (23,false),.ld none (.t 24)⟩,
   ⟨(some 26),some (23,false),.len false (.t 25)⟩,
   ⟨(some 27),some (23,false),.bin .gtr (.t 26) (.c (.p (.int .i64 3)))⟩,
   oJ 28 (.pick (.t 23) (.c (.p (.bool true))) (.t 27)),
   oM 29 28,
   ⟨(some 30),some (29,false),.fldA 1 (.t 4)⟩,
   ⟨(some 31),some (29,false),.ld none (.t 30)⟩,
   ⟨(some 32),some (29,false),.call bO [(.t 31),(.c (.fn (.func aV) []))]⟩,
   oJ 33 (.pick (.t 29) (.c (.p (.bool true))) (.t 32)),
   oM 34 33,
   ⟨(some 35),some (34,false),.fldA 2 (.t 4)⟩,
   ⟨(some 36),some (34,false),.ld none (.t 35)⟩,
   ⟨(some 37),some (34,false),.call cg [(.t 36),(.c (.p (.int .i64 1)))]⟩,
   ⟨(some 38),some (34,false),.not (.t 37)⟩,
   oJ 39 (.pick (.t 34) (.c (.p (.bool true))) (.t 38))])
 (.cond (.t 39)
  (.seq (.reg [oJ 2 (.mov (.c (.p (.bool false))))])
  (.ret))
  (.skip)))))
 (.reg [oJ 40 (.bin .add (.t 15) (.c (.p (.int .i64 1)))),
   oM 15 40])))))))
 (.seq (.reg [oJ 42 (.ld (some 1) (.t 1)),
   oJ 43 (.call hZ [(.t 42)]),
   oM 41 43,
   oJ 44 (.ext 0 (.t 41)),
   oJ 45 (.ext 1 (.t 41)),
   oM 5 44,
   oM 6 45])
 (.seq (.reg [oM 46 5,
   oJ 47 (.bin .leq (.t 46) (.c (.p (.int .i64 40)))),
   oM 2 47])
 (.ret)))))⟩
theorem mJ:ag Tryz.prog cF=some gN:=by kernel_rfl
def dt:FK:=⟨19,[.t 4],
 .seq (.reg [oK 4 0])
 (.seq (.seq (.reg [oM 6 0,
   oJ 7 (.len false (.t 6)),
   oK 8 0])
 (.blk 0 (.loop (.seq (.reg [oJ 9 (.bin .lss (.t 8) (.t 7))])
 (.seq (.cond (.t 9)
  (.skip)
  (.exit 0))
 (.seq (.blk 1 (.seq (.reg [oM 10 8,
   oM 5 10])
 (.seq (.reg [oM 11 1,
   oM 12 0,
   oM 13 5,
   oJ 14 (.idxS 3 (.t 12) (.t 13)),
   oJ 15 (.ld (some 3) (.t 14)),
   oJ 16 (.callv (.t 11) [(.t 15)])])
 (.cond (.t 16)
  (.seq (.reg [oM 17 5,
    oM 4 17])
  (.ret))
  (.skip)))))
 (.reg [oJ 18 (.bin .add (.t 8) (.c (.p (.int .i64 1)))),
   oM 8 18])))))))
 (.seq (.reg [oJ 4 (.mov (.c (.p (.int .i64 (-1)))))])
 (.ret)))⟩
theorem iG:ag Tryz.prog ck=some dt:=by kernel_rfl
def na:FK:=⟨8,[.t 3],
 .seq (.reg [oJ 2 (.box 3 (.t 0)),
  oJ 3 (.mov (.c (.p (.bool false))))])
 (.seq (.reg [oF 4 0 2,
   oL 5 4,
   oL 6 1,
   oJ 7 (.bins .eql (.t 5) (.t 6)),
   oM 3 7])
 (.ret))⟩
theorem tD:ag Tryz.prog er=some na:=by kernel_rfl
def qD:FK:=⟨9,[.t 4],
 .seq (.reg [oJ 2 (.box 1 (.t 0)),
  oJ 3 (.box 1 (.t 1)),
  oK 4 0])
 (.seq (.reg [oF 5 0 2,
   oL 6 5,
   oJ 7 (.mkf (.func er) [(.t 3)]),
   oJ 8 (.call ck [(.t 6),(.t 7)]),
   oM 4 8])
 (.ret))⟩
theorem xe:ag Tryz.prog eY=some qD:=by kernel_rfl
def dU:FK:=⟨13,[],
 .seq (.reg [oM 4 0,
  oN 5 4,
  oF 6 2 5,
  oL 7 6,
  oJ 8 (.bin .eql (.t 7) (.c (.p (.int .i64 0))))])
 (.cond (.t 8)
  (.reg [oM 9 0,
    oM 10 1,
    oN 11 9,
    oF 12 2 11,
    oS 12 10])
  (.skip))⟩
theorem mI:ag Tryz.prog an=some dU:=by kernel_rfl
def fp:FK:=⟨7,[.t 2],
 .seq (.reg [oJ 2 (.mov (.c .nilp))])
 (.seq (.reg [oJ 3 (.mkm),
   oM 4 0,
   oJ 5 (.bld [.nilm,.nilp] [(0,1,(.t 3)),(1,1,(.t 4))]),
   oJ 6 (.box 2 (.t 5)),
   oM 2 6])
 (.ret))⟩
theorem pw:ag Tryz.prog aU=some fp:=by kernel_rfl
def kE:FK:=⟨20,[],
 .seq (.reg [oJ 2 (.box 4 (.t 0))])
 (.seq (.reg [oM 6 1,
   oJ 7 (.ld (some 4) (.t 2)),
   oJ 8 (.callv (.t 6) [(.t 7)])])
 (.seq (.reg [oF 9 3 2,
   oL 10 9,
   oJ 11 (.len false (.t 10)),
   oK 12 0])
 (.blk 0 (.loop (.seq (.reg [oJ 13 (.bin .lss (.t 12) (.t 11))])
 (.seq (.cond (.t 13)
  (.skip)
  (.exit 0))
 (.seq (.blk 1 (.seq (.reg [oJ 14 (.idxS 4 (.t 10) (.t 12)),
   oJ 15 (.ld (some 4) (.t 14)),
   oJ 5 (.alloc [(.p (.int .i64 0)),(.p (.int .i64 0)),(.p (.str [])),.nils]),
   ⟨none,none,.st 4 (.t 5) (.t 15)⟩])
 (.reg [oJ 16 (.ld (some 4) (.t 5)),
   oM 17 1,
   oJ 18 (.call dL [(.t 16),(.t 17)])])))
 (.reg [oJ 19 (.bin .add (.t 12) (.c (.p (.int .i64 1)))),
   oM 12 19]))))))))⟩
theorem ou:ag Tryz.prog dL=some kE:=by kernel_rfl
def jb:FK:=⟨25,[.t 4,.t 5],
 .seq (.reg [oK 4 0,
  oJ 5 (.mov (.c (.p (.bool false))))])
 (.seq (.blk 0 (.loop (.seq (.seq (.reg [oM 8 0,
   oJ 9 (.pnil 0 true (.t 8))])
 (.cond (.t 9)
  (.skip)
  (.exit 0)))
 (.seq (.blk 1 (.seq (.reg [oM 15 0,
   oN 16 15,
   oF 17 0 16,
   oL 18 17,
   oM 19 1,
   oJ 20 (.lk 1 (.p (.int .i64 0)) true (.t 18) (.t 19)),
   oM 14 20,
   oJ 21 (.ext 0 (.t 14)),
   oJ 22 (.ext 1 (.t 14)),
   oM 6 21,
   oM 7 22])
 (.seq (.reg [oM 23 7])
 (.cond (.t 23)
  (.seq (.reg [oM 24 6,
    oM 4 24,
    oJ 5 (.mov (.c (.p (.bool true))))])
  (.ret))
  (.skip)))))
 (.reg [oM 10 0,
   oN 11 10,
   oF 12 1 11,
   oL 13 12,
   oM 0 13])))))
 (.seq (.reg [oK 4 0,
   oJ 5 (.mov (.c (.p (.bool false))))])
 (.ret)))⟩
theorem oO:ag Tryz.prog bl=some jb:=by kernel_rfl
def fJ:FK:=⟨58,[],
 .seq (.reg [oJ 3 (.box 4 (.t 0))])
 (.seq (.reg [oF 7 0 3,
   oL 8 7])
 (.blk 0 (.seq (.reg [oJ 10 (.bin .eql (.t 8) (.c (.p (.int .i64 2)))),
   oM 9 10])
 (.cond (.t 9)
  (.seq (.reg [oL 12 1,
    oF 13 2 3,
    oL 14 13,
    oJ 15 (.call bl [(.t 12),(.t 14)]),
    oM 11 15,
    oJ 16 (.ext 0 (.t 11)),
    oJ 17 (.ext 1 (.t 11)),
    oM 4 16,
    oM 5 17])
  (.seq (.reg [oM 18 5,
    oJ 19 (.not (.t 18))])
  (.cond (.t 19)
   (.reg [oL 20 2,
     oJ 21 (.call an [(.t 20),(.c (.p (.int .i64 3)))])])
   (.skip))))
  (.seq (.reg [oJ 23 (.bin .eql (.t 8) (.c (.p (.int .i64 13)))),
    oM 22 23])
  (.cond (.t 22)
   (.seq (.reg [oF 35 2 3,
     oL 24 2,
     oN 25 24,
     oF 26 0 25,
     oF 27 0 26,
     oL 28 27,
     oL 29 2,
     oN 30 29,
     oF 31 1 30,
     oL 32 31,
     oJ 33 (.slS 3 (.t 28) none (some (.t 32))),
     oJ 34 (.bld [.nils] [(0,1,(.t 33))]),
     oL 36 35,
     oJ 37 (.call eY [(.t 34),(.t 36)]),
     oM 6 37])
   (.seq (.reg [oM 38 6,
     oJ 39 (.bin .lss (.t 38) (.c (.p (.int .i64 0))))])
   (.cond (.t 39)
    (.reg [oL 40 2,
      oJ 41 (.call an [(.t 40),(.c (.p (.int .i64 4)))])])
    (.seq (.reg [oM 47 6,
      oF 52 3 3,
      oL 42 2,
      oN 43 42,
      oF 44 0 43,
      oF 45 0 44,
      oL 46 45,
      oJ 48 (.idxS 3 (.t 46) (.t 47)),
      oF 49 1 48,
      oL 50 49,
      oJ 51 (.len false (.t 50)),
      oL 53 52,
      oJ 54 (.len false (.t 53)),
      oJ 55 (.bin .neq (.t 51) (.t 54))])
    (.cond (.t 55)
     (.reg [oL 56 2,
       oJ 57 (.call an [(.t 56),(.c (.p (.int .i64 5)))])])
     (.skip))))))
   (.skip)))))))⟩
theorem kU:ag Tryz.prog bt=some fJ:=by kernel_rfl
def eb:FK:=⟨9,[],
 .seq (.reg [oJ 3 (.box 1 (.t 0)),
  oJ 4 (.box 4 (.t 1)),
  oJ 5 (.box 1 (.t 2))])
 (.reg [oJ 6 (.ld (some 4) (.t 4)),
   oJ 7 (.mkf (.func bt) [(.t 5),(.t 3)]),
   oJ 8 (.call dL [(.t 6),(.t 7)])])⟩
theorem mK:ag Tryz.prog bR=some eb:=by kernel_rfl
def F_impl_checker_block:FK:=⟨89,[],
 .seq (.reg [oM 14 1,
  oJ 15 (.len false (.t 14)),
  oK 16 0])
 (.blk 0 (.loop (.seq (.reg [oJ 17 (.bin .lss (.t 16) (.t 15))])
 (.seq (.cond (.t 17)
  (.skip)
  (.exit 0))
 (.seq (.blk 1 (.seq (.reg [oJ 18 (.idxS 5 (.t 14) (.t 16)),
   oJ 19 (.ld (some 5) (.t 18)),
   oJ 7 (.alloc [(.p (.int .i64 0)),(.p (.str [])),.nils,.nils,.nils]),
   ⟨none,none,.st 5 (.t 7) (.t 19)⟩])
 (.seq (.seq (.reg [oF 20 2 7,
   oL 21 20,
   oJ 22 (.len false (.t 21)),
   oK 23 0])
 (.blk 2 (.loop (.seq (.reg [oJ 24 (.bin .lss (.t 23) (.t 22))])
 (.seq (.cond (.t 24)
  (.skip)
  (.exit 2))
 (.seq (.blk 3 (.seq (.reg [oJ 25 (.idxS 4 (.t 21) (.t 23)),
   oJ 26 (.ld (some 4) (.t 25)),
   oJ 9 (.alloc [(.p (.int .i64 0)),(.p (.int .i64 0)),(.p (.str [])),.nils]),
   ⟨none,none,.st 4 (.t 9) (.t 26)⟩])
 (.reg [oM 27 0,
   oJ 28 (.ld (some 4) (.t 9)),
   oM 29 2,
   oJ 30 (.call bR [(.t 27),(.t 28),(.t 29)])])))
 (.reg [oJ 31 (.bin .add (.t 23) (.c (.p (.int .i64 1)))),
   oM 23 31])))))))
 (.seq (.seq (.reg [oF 32 0 7,
   oL 33 32])
 (.blk 4 (.seq (.reg [oJ 35 (.bin .eql (.t 33) (.c (.p (.int .i64 1)))),
   oM 34 35])
 (.cond (.t 34)
  (.seq (.seq (.reg [oM 37 2,
    oN 38 37,
    oF 39 0 38,
    oF 41 1 7,
    oL 40 39,
    oL 42 41,
    oJ 43 (.lk 1 (.p (.int .i64 0)) true (.t 40) (.t 42)),
    oM 36 43,
    oJ 44 (.ext 0 (.t 36)),
    oJ 45 (.ext 1 (.t 36)),
    oM 10 44,
    oM 11 45])
  (.seq (.reg [oM 46 11])
  (.cond (.t 46)
   (.reg [oM 47 0,
     oJ 48 (.call an [(.t 47),(.c (.p (.int .i64 2)))])])
   (.skip))))
  (.reg [oM 49 2,
    oN 50 49,
    oF 51 0 50,
    oF 53 1 7,
    oL 52 51,
    oL 54 53,
    ⟨none,none,.mup 1 (.t 52) (.t 54) (.c (.p (.int .i64 0)))⟩]))
  (.seq (.reg [oJ 56 (.bin .eql (.t 33) (.c (.p (.int .i64 2)))),
    oM 55 56])
  (.cond (.t 55)
   (.seq (.reg [oM 58 2,
     oF 59 1 7,
     oL 60 59,
     oJ 61 (.call bl [(.t 58),(.t 60)]),
     oM 57 61,
     oJ 62 (.ext 0 (.t 57)),
     oJ 63 (.ext 1 (.t 57)),
     oM 12 62,
     oM 13 63])
   (.seq (.reg [oM 64 13,
     oJ 65 (.not (.t 64))])
   (.cond (.t 65)
    (.reg [oM 66 0,
      oJ 67 (.call an [(.t 66),(.c (.p (.int .i64 3)))])])
    (.skip))))
   (.skip)))))))
 (.seq (.reg [oF 68 0 7,
   oL 69 68,
   oJ 70 (.bin .eql (.t 69) (.c (.p (.int .i64 5)))),
   oM 71 70,
   ⟨(some 72),some (71,false),.fldA 0 (.t 7)⟩,
   ⟨(some 73),some (71,false),.ld none (.t 72)⟩,
   ⟨(some 74),some (71,false),.bin .eql (.t 73) (.c (.p (.int .i64 6)))⟩,
   oJ 75 (.pick (.t 71) (.c (.p (.bool true))) (.t 74))])
 (.cond (.t 75)
  (.seq (.reg [oM 76 0,
    oF 77 3 7,
    oM 79 2,
    oL 78 77,
    oJ 80 (.call aU [(.t 79)]),
    ⟨none,none,.chk none 77 78⟩,
    oJ 81 (.call aG [(.t 76),(.t 78),(.t 80)])])
  (.reg [oM 82 0,
    oF 83 4 7,
    oM 85 2,
    oL 84 83,
    oJ 86 (.call aU [(.t 85)]),
    ⟨none,none,.chk none 83 84⟩,
    oJ 87 (.call aG [(.t 82),(.t 84),(.t 86)])]))
  (.skip)))))))
 (.reg [oJ 88 (.bin .add (.t 16) (.c (.p (.int .i64 1)))),
   oM 16 88]))))))⟩
theorem lf:ag Tryz.prog aG=some F_impl_checker_block:=by kernel_rfl
def F_impl_CheckProgram:FK:=⟨73,[.t 2],
 .seq (.reg [oJ 1 (.box 1 (.t 0)),
  oK 2 0])
 (.seq (.seq (.reg [oJ 11 (.ld (some 1) (.t 1)),
   oJ 12 (.call cF [(.t 11)]),
   oJ 13 (.not (.t 12))])
 (.cond (.t 13)
  (.seq (.reg [oK 2 1])
  (.ret))
  (.skip)))
 (.seq (.reg [oJ 14 (.ld (some 1) (.t 1)),
   oJ 15 (.bld [.nils,(.p (.int .i64 0)),(.p (.int .i64 0))] [(0,1,(.t 14))]),
   oJ 16 (.box 3 (.t 15)),
   oM 3 16])
 (.seq (.seq (.reg [oF 17 0 1,
   oL 18 17,
   oJ 19 (.len false (.t 18)),
   oK 20 0])
 (.blk 0 (.loop (.seq (.reg [oJ 21 (.bin .lss (.t 20) (.t 19))])
 (.seq (.cond (.t 21)
  (.skip)
  (.exit 0))
 (.seq (.blk 1 (.seq (.reg [oM 22 20,
   oJ 23 (.idxS 3 (.t 18) (.t 20)),
   oJ 24 (.ld (some 3) (.t 23)),
   oJ 5 (.alloc [(.p (.str [])),.nils,.nils]),
   oM 4 22,
   ⟨none,none,.st 3 (.t 5) (.t 24)⟩])
 (.seq (.reg [oM 25 3,
   oM 26 4,
   oN 27 25,
   oF 28 1 27,
   oS 28 26])
 (.seq (.seq (.reg [oJ 29 (.ld (some 1) (.t 1)),
   oF 30 0 5,
   oL 31 30,
   oJ 32 (.call eY [(.t 29),(.t 31)]),
   oM 33 4,
   oJ 34 (.bin .lss (.t 32) (.t 33))])
 (.cond (.t 34)
  (.reg [oM 35 3,
    oJ 36 (.call an [(.t 35),(.c (.p (.int .i64 2)))])])
  (.skip)))
 (.seq (.reg [oJ 37 (.call aU [(.c .nilp)]),
   oM 6 37])
 (.seq (.seq (.reg [oF 38 1 5,
   oL 39 38,
   oJ 40 (.len false (.t 39)),
   oK 41 0])
 (.blk 2 (.loop (.seq (.reg [oJ 42 (.bin .lss (.t 41) (.t 40))])
 (.seq (.cond (.t 42)
  (.skip)
  (.exit 2))
 (.seq (.blk 3 (.seq (.reg [oJ 43 (.idxS 1 (.t 39) (.t 41)),
   oL 44 43,
   oM 8 44])
 (.seq (.seq (.reg [oM 46 6,
   oN 47 46,
   oF 48 0 47,
   oL 49 48,
   oM 50 8,
   oJ 51 (.lk 1 (.p (.int .i64 0)) true (.t 49) (.t 50)),
   oM 45 51,
   oJ 52 (.ext 0 (.t 45)),
   oJ 53 (.ext 1 (.t 45)),
   oM 9 52,
   oM 10 53])
 (.seq (.reg [oM 54 10])
 (.cond (.t 54)
  (.reg [oM 55 3,
    oJ 56 (.call an [(.t 55),(.c (.p (.int .i64 2)))])])
  (.skip))))
 (.reg [oM 57 6,
   oN 58 57,
   oF 59 0 58,
   oL 60 59,
   oM 61 8,
   ⟨none,none,.mup 1 (.t 60) (.t 61) (.c (.p (.int .i64 0)))⟩]))))
 (.reg [oJ 62 (.bin .add (.t 41) (.c (.p (.int .i64 1)))),
   oM 41 62])))))))
 (.reg [oM 63 3,
   oF 64 2 5,
   oL 65 64,
   oM 66 6,
   oJ 67 (.call aG [(.t 63),(.t 65),(.t 66)])])))))))
 (.reg [oJ 68 (.bin .add (.t 20) (.c (.p (.int .i64 1)))),
   oM 20 68])))))))
 (.seq (.reg [oM 69 3,
   oN 70 69,
   oF 71 2 70,
   oL 72 71,
   oM 2 72])
 (.ret)))))⟩
theorem mH:ag Tryz.prog dT=some F_impl_CheckProgram:=by kernel_rfl
def qv:FK:=⟨6,[.t 2],
 .seq (.reg [oJ 1 (.box 1 (.t 0)),
  oJ 2 (.mov (.c (.p (.bool false))))])
 (.seq (.reg [oJ 3 (.ld (some 1) (.t 1)),
   oJ 4 (.call dT [(.t 3)]),
   oJ 5 (.bin .eql (.t 4) (.c (.p (.int .i64 0)))),
   oM 2 5])
 (.ret))⟩
theorem xn:ag Tryz.prog lw=some qv:=by kernel_rfl
def jF:FK:=⟨26,[.t 4],
 .seq (.reg [oJ 4 (.mov (.c (.p (.bool false))))])
 (.seq (.seq (.reg [oM 6 0,
   oJ 7 (.len false (.t 6)),
   oM 8 1,
   oJ 9 (.len false (.t 8)),
   oJ 10 (.bin .neq (.t 7) (.t 9))])
 (.cond (.t 10)
  (.seq (.reg [oJ 4 (.mov (.c (.p (.bool false))))])
  (.ret))
  (.skip)))
 (.seq (.seq (.reg [oK 5 0])
 (.blk 0 (.loop (.seq (.seq (.reg [oM 11 5,
   oM 12 0,
   oJ 13 (.len false (.t 12)),
   oJ 14 (.bin .lss (.t 11) (.t 13))])
 (.cond (.t 14)
  (.skip)
  (.exit 0)))
 (.seq (.blk 1 (.seq (.reg [oM 17 0,
   oM 18 5,
   oJ 19 (.idxS 1 (.t 17) (.t 18)),
   oM 21 1,
   oM 22 5,
   oJ 23 (.idxS 1 (.t 21) (.t 22)),
   oL 20 19,
   oL 24 23,
   oJ 25 (.bins .neq (.t 20) (.t 24))])
 (.cond (.t 25)
  (.seq (.reg [oJ 4 (.mov (.c (.p (.bool false))))])
  (.ret))
  (.skip))))
 (.reg [oM 15 5,
   oJ 16 (.bin .add (.t 15) (.c (.p (.int .i64 1)))),
   oM 5 16]))))))
 (.seq (.reg [oJ 4 (.mov (.c (.p (.bool true))))])
 (.ret))))⟩
theorem pX:ag Tryz.prog fR=some jF:=by kernel_rfl
def nt:FK:=⟨26,[.t 4],
 .seq (.reg [oJ 2 (.box 4 (.t 0)),
  oJ 3 (.box 4 (.t 1)),
  oJ 4 (.mov (.c (.p (.bool false))))])
 (.seq (.seq (.reg [oF 5 0 2,
   oL 6 5,
   oF 7 0 3,
   oL 8 7,
   oJ 9 (.bin .neq (.t 6) (.t 8))])
 (.cond (.t 9)
  (.seq (.reg [oJ 4 (.mov (.c (.p (.bool false))))])
  (.ret))
  (.skip)))
 (.seq (.seq (.reg [oF 10 1 2,
   oL 11 10,
   oF 12 1 3,
   oL 13 12,
   oJ 14 (.bin .neq (.t 11) (.t 13))])
 (.cond (.t 14)
  (.seq (.reg [oJ 4 (.mov (.c (.p (.bool false))))])
  (.ret))
  (.skip)))
 (.seq (.seq (.reg [oF 15 2 2,
   oL 16 15,
   oF 17 2 3,
   oL 18 17,
   oJ 19 (.bins .neq (.t 16) (.t 18))])
 (.cond (.t 19)
  (.seq (.reg [oJ 4 (.mov (.c (.p (.bool false))))])
  (.ret))
  (.skip)))
 (.seq (.seq (.reg [oF 20 3 2,
   oL 21 20,
   oF 22 3 3,
   oL 23 22,
   oJ 24 (.call dv [(.t 21),(.t 23)]),
   oJ 25 (.not (.t 24))])
 (.cond (.t 25)
  (.seq (.reg [oJ 4 (.mov (.c (.p (.bool false))))])
  (.ret))
  (.skip)))
 (.seq (.reg [oJ 4 (.mov (.c (.p (.bool true))))])
 (.ret))))))⟩
theorem tS:ag Tryz.prog gk=some nt:=by kernel_rfl
def lP:FK:=⟨27,[.t 4],
 .seq (.reg [oJ 4 (.mov (.c (.p (.bool false))))])
 (.seq (.seq (.reg [oM 6 0,
   oJ 7 (.len false (.t 6)),
   oM 8 1,
   oJ 9 (.len false (.t 8)),
   oJ 10 (.bin .neq (.t 7) (.t 9))])
 (.cond (.t 10)
  (.seq (.reg [oJ 4 (.mov (.c (.p (.bool false))))])
  (.ret))
  (.skip)))
 (.seq (.seq (.reg [oK 5 0])
 (.blk 0 (.loop (.seq (.seq (.reg [oM 11 5,
   oM 12 0,
   oJ 13 (.len false (.t 12)),
   oJ 14 (.bin .lss (.t 11) (.t 13))])
 (.cond (.t 14)
  (.skip)
  (.exit 0)))
 (.seq (.blk 1 (.seq (.reg [oM 17 0,
   oM 18 5,
   oJ 19 (.idxS 4 (.t 17) (.t 18)),
   oM 21 1,
   oM 22 5,
   oJ 23 (.idxS 4 (.t 21) (.t 22)),
   oJ 20 (.ld (some 4) (.t 19)),
   oJ 24 (.ld (some 4) (.t 23)),
   oJ 25 (.call gk [(.t 20),(.t 24)]),
   oJ 26 (.not (.t 25))])
 (.cond (.t 26)
  (.seq (.reg [oJ 4 (.mov (.c (.p (.bool false))))])
  (.ret))
  (.skip))))
 (.reg [oM 15 5,
   oJ 16 (.bin .add (.t 15) (.c (.p (.int .i64 1)))),
   oM 5 16]))))))
 (.seq (.reg [oJ 4 (.mov (.c (.p (.bool true))))])
 (.ret))))⟩
theorem sW:ag Tryz.prog dv=some lP:=by kernel_rfl
def no:FK:=⟨33,[.t 4],
 .seq (.reg [oJ 2 (.box 5 (.t 0)),
  oJ 3 (.box 5 (.t 1)),
  oJ 4 (.mov (.c (.p (.bool false))))])
 (.seq (.seq (.reg [oF 5 0 2,
   oL 6 5,
   oF 7 0 3,
   oL 8 7,
   oJ 9 (.bin .neq (.t 6) (.t 8))])
 (.cond (.t 9)
  (.seq (.reg [oJ 4 (.mov (.c (.p (.bool false))))])
  (.ret))
  (.skip)))
 (.seq (.seq (.reg [oF 10 1 2,
   oL 11 10,
   oF 12 1 3,
   oL 13 12,
   oJ 14 (.bins .neq (.t 11) (.t 13))])
 (.cond (.t 14)
  (.seq (.reg [oJ 4 (.mov (.c (.p (.bool false))))])
  (.ret))
  (.skip)))
 (.seq (.seq (.reg [oF 15 2 2,
   oL 16 15,
   oF 17 2 3,
   oL 18 17,
   oJ 19 (.call dv [(.t 16),(.t 18)]),
   oJ 20 (.not (.t 19))])
 (.cond (.t 20)
  (.seq (.reg [oJ 4 (.mov (.c (.p (.bool false))))])
  (.ret))
  (.skip)))
 (.seq (.seq (.reg [oF 21 3 2,
   oL 22 21,
   oF 23 3 3,
   oL 24 23,
   oJ 25 (.call cH [(.t 22),(.t 24)]),
   oJ 26 (.not (.t 25))])
 (.cond (.t 26)
  (.seq (.reg [oJ 4 (.mov (.c (.p (.bool false))))])
  (.ret))
  (.skip)))
 (.seq (.seq (.reg [oF 27 4 2,
   oL 28 27,
   oF 29 4 3,
   oL 30 29,
   oJ 31 (.call cH [(.t 28),(.t 30)]),
   oJ 32 (.not (.t 31))])
 (.cond (.t 32)
  (.seq (.reg [oJ 4 (.mov (.c (.p (.bool false))))])
  (.ret))
  (.skip)))
 (.seq (.reg [oJ 4 (.mov (.c (.p (.bool true))))])
 (.ret)))))))⟩
theorem tI:ag Tryz.prog gq=some no:=by kernel_rfl
def lR:FK:=⟨27,[.t 4],
 .seq (.reg [oJ 4 (.mov (.c (.p (.bool false))))])
 (.seq (.seq (.reg [oM 6 0,
   oJ 7 (.len false (.t 6)),
   oM 8 1,
   oJ 9 (.len false (.t 8)),
   oJ 10 (.bin .neq (.t 7) (.t 9))])
 (.cond (.t 10)
  (.seq (.reg [oJ 4 (.mov (.c (.p (.bool false))))])
  (.ret))
  (.skip)))
 (.seq (.seq (.reg [oK 5 0])
 (.blk 0 (.loop (.seq (.seq (.reg [oM 11 5,
   oM 12 0,
   oJ 13 (.len false (.t 12)),
   oJ 14 (.bin .lss (.t 11) (.t 13))])
 (.cond (.t 14)
  (.skip)
  (.exit 0)))
 (.seq (.blk 1 (.seq (.reg [oM 17 0,
   oM 18 5,
   oJ 19 (.idxS 5 (.t 17) (.t 18)),
   oM 21 1,
   oM 22 5,
   oJ 23 (.idxS 5 (.t 21) (.t 22)),
   oJ 20 (.ld (some 5) (.t 19)),
   oJ 24 (.ld (some 5) (.t 23)),
   oJ 25 (.call gq [(.t 20),(.t 24)]),
   oJ 26 (.not (.t 25))])
 (.cond (.t 26)
  (.seq (.reg [oJ 4 (.mov (.c (.p (.bool false))))])
  (.ret))
  (.skip))))
 (.reg [oM 15 5,
   oJ 16 (.bin .add (.t 15) (.c (.p (.int .i64 1)))),
   oM 5 16]))))))
 (.seq (.reg [oJ 4 (.mov (.c (.p (.bool true))))])
 (.ret))))⟩
theorem rZ:ag Tryz.prog cH=some lR:=by kernel_rfl
def qF:FK:=⟨22,[.t 4],
 .seq (.reg [oJ 2 (.box 3 (.t 0)),
  oJ 3 (.box 3 (.t 1)),
  oJ 4 (.mov (.c (.p (.bool false))))])
 (.seq (.seq (.reg [oF 5 0 2,
   oL 6 5,
   oF 7 0 3,
   oL 8 7,
   oJ 9 (.bins .neq (.t 6) (.t 8))])
 (.cond (.t 9)
  (.seq (.reg [oJ 4 (.mov (.c (.p (.bool false))))])
  (.ret))
  (.skip)))
 (.seq (.seq (.reg [oF 10 1 2,
   oL 11 10,
   oF 12 1 3,
   oL 13 12,
   oJ 14 (.call fR [(.t 11),(.t 13)]),
   oJ 15 (.not (.t 14))])
 (.cond (.t 15)
  (.seq (.reg [oJ 4 (.mov (.c (.p (.bool false))))])
  (.ret))
  (.skip)))
 (.seq (.seq (.reg [oF 16 2 2,
   oL 17 16,
   oF 18 2 3,
   oL 19 18,
   oJ 20 (.call cH [(.t 17),(.t 19)]),
   oJ 21 (.not (.t 20))])
 (.cond (.t 21)
  (.seq (.reg [oJ 4 (.mov (.c (.p (.bool false))))])
  (.ret))
  (.skip)))
 (.seq (.reg [oJ 4 (.mov (.c (.p (.bool true))))])
 (.ret)))))⟩
theorem xp:ag Tryz.prog iX=some qF:=by kernel_rfl
def pc:FK:=⟨27,[.t 4],
 .seq (.reg [oJ 4 (.mov (.c (.p (.bool false))))])
 (.seq (.seq (.reg [oM 6 0,
   oJ 7 (.len false (.t 6)),
   oM 8 1,
   oJ 9 (.len false (.t 8)),
   oJ 10 (.bin .neq (.t 7) (.t 9))])
 (.cond (.t 10)
  (.seq (.reg [oJ 4 (.mov (.c (.p (.bool false))))])
  (.ret))
  (.skip)))
 (.seq (.seq (.reg [oK 5 0])
 (.blk 0 (.loop (.seq (.seq (.reg [oM 11 5,
   oM 12 0,
   oJ 13 (.len false (.t 12)),
   oJ 14 (.bin .lss (.t 11) (.t 13))])
 (.cond (.t 14)
  (.skip)
  (.exit 0)))
 (.seq (.blk 1 (.seq (.reg [oM 17 0,
   oM 18 5,
   oJ 19 (.idxS 3 (.t 17) (.t 18)),
   oM 21 1,
   oM 22 5,
   oJ 23 (.idxS 3 (.t 21) (.t 22)),
   oJ 20 (.ld (some 3) (.t 19)),
   oJ 24 (.ld (some 3) (.t 23)),
   oJ 25 (.call iX [(.t 20),(.t 24)]),
   oJ 26 (.not (.t 25))])
 (.cond (.t 26)
  (.seq (.reg [oJ 4 (.mov (.c (.p (.bool false))))])
  (.ret))
  (.skip))))
 (.reg [oM 15 5,
   oJ 16 (.bin .add (.t 15) (.c (.p (.int .i64 1)))),
   oM 5 16]))))))
 (.seq (.reg [oJ 4 (.mov (.c (.p (.bool true))))])
 (.ret))))⟩
theorem vH:ag Tryz.prog kD=some pc:=by kernel_rfl
def jQ:FK:=⟨11,[.t 4],
 .seq (.reg [oJ 2 (.box 1 (.t 0)),
  oJ 3 (.box 1 (.t 1)),
  oJ 4 (.mov (.c (.p (.bool false))))])
 (.seq (.seq (.reg [oF 5 0 2,
   oL 6 5,
   oF 7 0 3,
   oL 8 7,
   oJ 9 (.call kD [(.t 6),(.t 8)]),
   oJ 10 (.not (.t 9))])
 (.cond (.t 10)
  (.seq (.reg [oJ 4 (.mov (.c (.p (.bool false))))])
  (.ret))
  (.skip)))
 (.seq (.reg [oJ 4 (.mov (.c (.p (.bool true))))])
 (.ret)))⟩
theorem pS:ag Tryz.prog ga=some jQ:=by kernel_rfl
end Go.Proofs.YtnjbhgpbgmpkcaaGreatDoor
namespace Go.Proofs.YtnjbhgpbgmpkcaaGreatDoor
open Go Go.Aw
set_option maxRecDepth 100000
set_option maxHeartbeats 4000000
theorem ah{α:Type}{xs:List α}{i:Nat}(h:i<xs.length):xs.take (i+1)=xs.take i++[xs[i]]:=by
 rw[List.take_add_one,List.getElem?_eq_getElem h];rfl
def eM(l:List Int):PV:= .lst 1 (l.map fun n=>[.int .i64 n])
def nS(l:List Int):AO:= .row 1 (l.map fun n=>[.p (.int .i64 n)])
def EY(l:List Nat):PV:= .lst 1 (l.map fun(n:Nat)=>[.int .i64 (n:Int)])
def KX(l:List Nat):List (List AV):=l.map fun(n:Nat)=>[.p (.int .i64 (n:Int))]
def tN(l:List Nat):AO:= .row 1 (l.map fun(n:Nat)=>[.p (.int .i64 (n:Int))])
def aC(l:List (List UInt8)):PV:= .lst 1 (l.map fun w=>[.str w])
def KM(l:List (List UInt8)):List (List AV):=l.map fun w=>[.p (.str w)]
def cJ(l:List (List UInt8)):AO:= .row 1 (l.map fun n=>[.p (.str n)])
theorem gZ(l:List Nat):∀x∈KX l,aj 0 x:=by
 intro x hx;obtain⟨m,_,rfl⟩:=List.mem_map.1 hx;simp[aj,below]
theorem bn(l:List (List UInt8)):∀x∈KM l,aj 0 x:=by
 intro x hx;obtain⟨m,_,rfl⟩:=List.mem_map.1 hx;simp[aj,below]
theorem Bv{l:List Int}{id:Nat}{h:List AO}(e:h[id]?=some (nS l)):View h (.sl id 1 0 l.length) (eM l):=by
 have:=fw (h:=h) (id:=id) (sz:=1) (n:=l.length) (ls:=l.map fun n=>[.int .i64 n]) (by rw[e,nS];simp) (by simp) (fun x hx=>by obtain⟨b,_,rfl⟩:=List.mem_map.1 hx;rfl)
 exact this
theorem BP{l:List Nat}{id:Nat}{h:List AO}(e:h[id]?=some (tN l)):View h (.sl id 1 0 l.length) (EY l):=by
 have:=fw (h:=h) (id:=id) (sz:=1) (n:=l.length) (ls:=l.map fun(n:Nat)=>[.int .i64 (n:Int)]) (by rw[e,tN];simp) (by simp) (fun x hx=>by obtain⟨b,_,rfl⟩:=List.mem_map.1 hx;rfl)
 exact this
theorem jX{l:List (List UInt8)}{id:Nat}{h:List AO}(e:h[id]?=some (cJ l)):View h (.sl id 1 0 l.length) (aC l):=by
 have:=fw (h:=h) (id:=id) (sz:=1) (n:=l.length) (ls:=l.map fun n=>[.str n]) (by rw[e,cJ];simp) (by simp) (fun x hx=>by obtain⟨b,_,rfl⟩:=List.mem_map.1 hx;rfl)
 exact this
end Go.Proofs.YtnjbhgpbgmpkcaaGreatDoor
namespace Go.Proofs.YtnjbhgpbgmpkcaaGreatDoor
open Go Go.Aw
set_option maxRecDepth 100000
set_option maxHeartbeats 4000000
def cP(c:UInt8):Bool:=decide (97≤c.toNat)&&decide (c.toNat≤122)
def keyW:List (List UInt8):=[[102,110],[108,101,116],[115,97,121],[112,117,116],[105,102],[101,108,115,101],[108,111,111,112],[98,97,99,107],[100,111]]
def az(s:List UInt8):Bool:=s.all cP&&decide (0<s.length)&&decide (s.length≤4)&& !keyW.contains s
def sH:List UInt8:=[40,41,123,125,59,44,43,45,42,47,37,60,61,38,33,64]
def oU(s:List UInt8)(c:Int):Int:=match s.findIdx? (fun x=>(x.toNat:Int)==c) with|some i=>i|none=> -1
def xj(c:Int):Int:=if 97≤c∧c≤122 then 1 else if 48≤c∧c≤57 then 2 else if 0≤oU sH c then 3 else if c=32∨c=10 then 4 else 0
theorem Gg(x:UInt8):(xj (x.toNat:Int)=1)↔cP x=true:=by
 have h:(97≤(x.toNat:Int)∧(x.toNat:Int)≤122)↔cP x=true:=by simp[cP];omega
 unfold xj
 constructor
 ·intro e
  split at e
  ·rename_i h1;exact h.1 h1
  ·repeat' split at e
   all_goals omega
 ·intro e;rw[if_pos (h.2 e)]
def vK(s:List UInt8):Int:=match s.findIdx? (fun x=> !cP x) with|some i=>i|none=> -1
theorem Ek(s:List UInt8):decide (vK s<0)=s.all cP:=by
 unfold vK
 cases h:s.findIdx? (fun x=> !cP x) with
 |none=>
  rw[List.findIdx?_eq_none_iff] at h
  have:s.all cP=true:=List.all_eq_true.2 fun x hx=>by have:=h x hx;simpa using this
  simp[this]
 |some i=>
  rw[List.findIdx?_eq_some_iff_getElem] at h
  obtain⟨h1,h2,_⟩:=h
  have:s.all cP=false:=List.all_eq_false.2 ⟨_,List.getElem_mem h1,by simpa using h2⟩
  rw[this];simp
def idxS(l:List (List UInt8))(s:List UInt8):Int:=match l.findIdx? (fun w=>w==s) with|some i=>i|none=> -1
theorem EJ(l:List (List UInt8))(s:List UInt8):decide (0≤idxS l s)=l.contains s:=by
 unfold idxS
 cases h:l.findIdx? (fun w=>w==s) with
 |none=>
  rw[List.findIdx?_eq_none_iff] at h
  have:l.contains s=false:=by
   cases hc:l.contains s with
   |false=>rfl
   |true=>
    have hm:s∈l:=by simpa using hc
    have:=h s hm
    simp at this
  rw[this];simp
 |some i=>
  rw[List.findIdx?_eq_some_iff_getElem] at h
  obtain⟨h1,h2,_⟩:=h
  have:l.contains s=true:=by
   simp only[beq_iff_eq] at h2
   rw[List.contains_iff_mem,←h2];exact List.getElem_mem h1
  rw[this];simp
variable (G:aw)
theorem pP(s:List UInt8)(c:Int)(hb:s.length≤1048576):VF Tryz.prog G iK [.p (.str s),.p (.int .u8 c)] (.p (.int .i64 (oU s c))):=by
 refine AC.go rY ?_
 simp-implicitDefEqProofs[lq]
 refine aq (fun i:Nat=>af 18 [(0,.p (.str s)),(1,.p (.int .u8 c)),(5,.p (.int .i64 i))]) (fun _=>[]) (fun i=>i≤s.length∧∀x∈s.take i,(x.toNat:Int)≠c) (fun i=>s.length-i) 0 (by simp) ?_ ?_
 ·exact aD rfl (by simp[below])
 ·intro i ⟨hi,hn⟩
  simp-implicitDefEqProofs[]
  refine aQ (fun h1=>?_) (fun h1=>?_)
  ·simp at h1
   have hg:=List.getElem?_eq_getElem h1
   by_cases he:(s[i].toNat:Int)=c
   ·have hf:oU s c=i:=by
     have:s.findIdx? (fun x=>(x.toNat:Int)==c)=some i:=by
      rw[List.findIdx?_eq_some_iff_getElem]
      exact⟨h1,by simpa using he,fun j hj=>by have:=hn s[j] (List.mem_take_iff_getElem.2 ⟨j,by omega,rfl⟩);simpa using this⟩
     rw[oU,this]
    simp-implicitDefEqProofs[hg,he,hf]
   ·simp-implicitDefEqProofs[hg,he]
    refine⟨i+1,⟨h1,fun p hp=>?_⟩,by omega,aD rfl ?_⟩
    ·rw[ah h1] at hp
     rcases List.mem_append.1 hp with hp|hp
     ·exact hn p hp
     ·rw[List.mem_singleton.1 hp];exact he
    ·simp[below,w1 (i:=i) (by omega)]
  ·simp at h1
   rw[List.take_of_length_le h1] at hn
   have hf:oU s c= -1:=by
    have:s.findIdx? (fun x=>(x.toNat:Int)==c)=none:=by
     rw[List.findIdx?_eq_none_iff];intro x hx;simpa using hn x hx
    rw[oU,this]
   simp-implicitDefEqProofs[hf]
theorem BI(c:Int):VF Tryz.prog G iI [.p (.int .u8 c)] (.p (.int .i64 (xj c))):=by
 refine AC.go sZ ?_
 simp-implicitDefEqProofs[lE]
 unfold xj
 by_cases h1:97≤c
 ·by_cases h2:c≤122
  ·simp-implicitDefEqProofs[h1,h2]
  ·have h3:¬c≤57:=by omega
   have h4:¬c=32:=by omega
   have h5:¬c=10:=by omega
   have h6:48≤c:=by omega
   simp-implicitDefEqProofs[h1,h2,h3,h6]
   refine(pP G sH c (by decide)).use ?_
   generalize oU sH c=w
   by_cases hf:0≤w
   ·simp-implicitDefEqProofs[hf]
   ·simp-implicitDefEqProofs[hf,h4,h5]
 ·simp-implicitDefEqProofs[h1]
  by_cases h2:48≤c
  ·by_cases h3:c≤57
   ·simp-implicitDefEqProofs[h2,h3]
   ·have h4:¬c=32:=by omega
    have h5:¬c=10:=by omega
    simp-implicitDefEqProofs[h2,h3]
    refine(pP G sH c (by decide)).use ?_
    generalize oU sH c=w
    by_cases hf:0≤w
    ·simp-implicitDefEqProofs[hf]
    ·simp-implicitDefEqProofs[hf,h4,h5]
  ·simp-implicitDefEqProofs[h2]
   refine(pP G sH c (by decide)).use ?_
   generalize oU sH c=w
   by_cases hf:0≤w
   ·simp-implicitDefEqProofs[hf]
   ·by_cases h4:c=32
    ·simp-implicitDefEqProofs[hf,h4]
    ·by_cases h5:c=10
     ·simp-implicitDefEqProofs[hf,h4,h5]
     ·simp-implicitDefEqProofs[hf,h4,h5]
theorem Gq(s:List UInt8)(hb:s.length≤140737488355328):VF Tryz.prog G ky [.p (.str s),.p (.int .i64 1)] (.p (.bool (s.all cP&&decide (0<s.length)))):=by
 refine AC.go vf ?_
 simp-implicitDefEqProofs[pq]
 refine aq (fun i:Nat=>af 21 [(0,.p (.str s)),(1,.p (.int .i64 1)),(5,.p (.int .i64 i))]) (fun _=>[]) (fun i=>i≤s.length∧∀x∈s.take i,cP x=true) (fun i=>s.length-i) 0 (by simp) ?_ ?_
 ·exact aD rfl (by simp[below])
 ·intro i ⟨hi,hn⟩
  simp-implicitDefEqProofs[]
  refine aQ (fun h1=>?_) (fun h1=>?_)
  ·simp at h1
   have hg:=List.getElem?_eq_getElem h1
   simp-implicitDefEqProofs[hg]
   refine(BI G _).use ?_
   have hcl:=Gg s[i]
   by_cases he:cP s[i]=true
   ·have hc:=hcl.2 he
    simp-implicitDefEqProofs[hc]
    refine⟨i+1,⟨h1,fun p hp=>?_⟩,by omega,aD rfl ?_⟩
    ·rw[ah h1] at hp
     rcases List.mem_append.1 hp with hp|hp
     ·exact hn p hp
     ·rw[List.mem_singleton.1 hp];exact he
    ·simp[below,w1 (i:=i) (by omega)]
   ·have hc:¬xj (s[i].toNat:Int)=1:=fun e=>he (hcl.1 e)
    have ha:s.all cP=false:=List.all_eq_false.2 ⟨_,List.getElem_mem h1,by simpa using he⟩
    simp-implicitDefEqProofs[hc,ha]
  ·simp at h1
   rw[List.take_of_length_le h1] at hn
   have ha:s.all cP=true:=List.all_eq_true.2 hn
   simp-implicitDefEqProofs[ha]
theorem zb:VF Tryz.prog G eA [] (.p (aC keyW)):=by
 have key:AC Tryz.prog G eA [] [] fun x h=>x= .ret (.sl 0 1 0 9)∧h=[.row 1 (keyW.map fun w=>[.p (.str w)])]:=by
  refine AC.go qT ?_
  simp-implicitDefEqProofs[kM,keyW]
 exact AC.freeze key (.one (fw (ls:=keyW.map fun w=>[.str w]) (by simp) (by simp[keyW]) (by simp)) .nil)
theorem Ge(s:List UInt8):VF Tryz.prog G kh [.p (.str s)] (.p (.bool (keyW.contains s))):=by
 refine AC.go vE ?_
 have hsl:aC keyW= .lst 1 (keyW.map fun w=>[.str w]):=rfl
 have hkl:keyW.length=9:=rfl
 simp-implicitDefEqProofs[oe]
 refine(zb G).use ?_
 simp-implicitDefEqProofs[]
 refine aq (fun i:Nat=>af 18 [(0,.p (.str s)),(3,.p (aC keyW)),(4,.p (.int .i64 i))]) (fun _=>[]) (fun i=>i≤keyW.length∧∀w∈keyW.take i,w≠s) (fun i=>keyW.length-i) 0 (by simp) ?_ ?_
 ·exact aD rfl (by simp[below,aC])
 ·intro i ⟨hi,hn⟩
  generalize keyW=L at*
  simp-implicitDefEqProofs[hsl]
  refine aQ (fun h1=>?_) (fun h1=>?_)
  ·simp at h1
   have hg:=List.getElem?_eq_getElem h1
   by_cases he:L[i]=s
   ·have hm:s∈L:=by rw[←he];exact List.getElem_mem h1
    simp-implicitDefEqProofs[hg,he,hm]
   ·simp-implicitDefEqProofs[hg,he]
    refine⟨i+1,⟨h1,fun p hp=>?_⟩,by omega,aD rfl ?_⟩
    ·rw[ah h1] at hp
     rcases List.mem_append.1 hp with hp|hp
     ·exact hn p hp
     ·rw[List.mem_singleton.1 hp];exact he
    ·simp[below,w1 (i:=i) (by omega)]
  ·simp at h1
   rw[List.take_of_length_le h1] at hn
   have hm:¬s∈L:=fun hm=>hn s hm rfl
   simp-implicitDefEqProofs[hm]
theorem pj(s:List UInt8)(hb:s.length≤140737488355328):VF Tryz.prog G bX [.p (.str s)] (.p (.bool (az s))):=by
 refine AC.go tA ?_
 simp-implicitDefEqProofs[nj]
 refine(Gq G s hb).use ?_
 cases h1:(s.all cP&&decide (0<s.length)) with
 |false=>
  have hi:az s=false:=by rw[az,h1];rfl
  simp-implicitDefEqProofs[hi]
 |true=>
  by_cases h4:s.length≤4
  ·have h4i:(s.length:Int)≤4:=by omega
   have hi:az s= !keyW.contains s:=by rw[az,h1];simp[h4]
   simp-implicitDefEqProofs[h4i]
   refine(Ge G s).use ?_
   rw[hi]
   simp-implicitDefEqProofs[]
  ·have h4i:¬(s.length:Int)≤4:=by omega
   have hi:az s=false:=by rw[az,h1];simp[h4]
   simp-implicitDefEqProofs[h4i,hi]
end Go.Proofs.YtnjbhgpbgmpkcaaGreatDoor
namespace Go.Proofs.YtnjbhgpbgmpkcaaGreatDoor
open Go Go.Aw
set_option maxRecDepth 100000
inductive Ex where
 |mk (op n:Int) (name:List UInt8) (kids:List Ex)
inductive Sm where
 |mk (op:Int) (name:List UInt8) (args:List Ex) (body els:List Sm)
structure Fd where (name:List UInt8) (params:List (List UInt8)) (body:List Sm)
def Ex.op:Ex→Int| .mk o _ _ _=>o
def Ex.n:Ex→Int| .mk _ n _ _=>n
def Ex.name:Ex→List UInt8| .mk _ _ s _=>s
def Ex.kids:Ex→List Ex| .mk _ _ _ k=>k
def Sm.op:Sm→Int| .mk o _ _ _ _=>o
def Sm.name:Sm→List UInt8| .mk _ s _ _ _=>s
def Sm.args:Sm→List Ex| .mk _ _ a _ _=>a
def Sm.body:Sm→List Sm| .mk _ _ _ b _=>b
def Sm.els:Sm→List Sm| .mk _ _ _ _ e=>e
mutual
def Ex.cs:Ex→List PV
 | .mk o n s k=>[.int .i64 o,.int .i64 n,.str s,.lst 4 (Do k)]
def Do:List Ex→List (List PV)
 |[]=>[]
 |e::r=>e.cs::Do r
end
mutual
def Sm.cs:Sm→List PV
 | .mk o s a b e=>[.int .i64 o,.str s,.lst 4 (Do a),.lst 5 (DO b),.lst 5 (DO e)]
def DO:List Sm→List (List PV)
 |[]=>[]
 |s::r=>s.cs::DO r
end
theorem tc:∀l:List Ex,Do l=l.map Ex.cs
 |[]=>rfl
 |e::r=>by rw[Do,tc r];rfl
theorem sw:∀l:List Sm,DO l=l.map Sm.cs
 |[]=>rfl
 |e::r=>by rw[DO,sw r];rfl
def exL(l:List Ex):PV:= .lst 4 (l.map Ex.cs)
def smL(l:List Sm):PV:= .lst 5 (l.map Sm.cs)
theorem Ex.cs_eq(e:Ex):e.cs=[.int .i64 e.op,.int .i64 e.n,.str e.name,exL e.kids]:=by
 cases e;rw[Ex.cs,tc];rfl
theorem Sm.cs_eq(s:Sm):s.cs=[.int .i64 s.op,.str s.name,exL s.args,smL s.body,smL s.els]:=by
 cases s;rw[Sm.cs,tc,sw,sw];rfl
@[simp] theorem Ex.cs_len(e:Ex):e.cs.length=4:=by cases e;rfl
@[simp] theorem Ex.cs_take(e:Ex):List.take 4 (e.cs.map AV.p)=e.cs.map AV.p:=by cases e;rfl
@[simp] theorem Sm.cs_len(s:Sm):s.cs.length=5:=by cases s;rfl
@[simp] theorem Sm.cs_take(s:Sm):List.take 5 (s.cs.map AV.p)=s.cs.map AV.p:=by cases s;rfl
def Fd.cs(f:Fd):List PV:=[.str f.name,aC f.params,smL f.body]
@[simp] theorem Fd.cs_len(f:Fd):f.cs.length=3:=rfl
@[simp] theorem Fd.cs_take(f:Fd):List.take 3 (f.cs.map AV.p)=f.cs.map AV.p:=rfl
def fdL(l:List Fd):PV:= .lst 3 (l.map Fd.cs)
mutual
def Ex.sz:Ex→Nat
 | .mk _ _ s k=>1+s.length+bv k
def bv:List Ex→Nat
 |[]=>0
 |e::r=>e.sz+bv r
end
mutual
def Sm.sz:Sm→Nat
 | .mk _ s a b e=>1+s.length+bv a+au b+au e
def au:List Sm→Nat
 |[]=>0
 |s::r=>s.sz+au r
end
def Fd.sz(f:Fd):Nat:=1+f.name.length+(f.params.length+(f.params.map List.length).sum)+au f.body
def bL(l:List Fd):Nat:=(l.map Fd.sz).sum
theorem Ex.sz_eq(e:Ex):e.sz=1+e.name.length+bv e.kids:=by cases e;rfl
theorem Sm.sz_eq(s:Sm):s.sz=1+s.name.length+bv s.args+au s.body+au s.els:=by cases s;rfl
theorem je:∀a b:List Ex,bv (a++b)=bv a+bv b
 |[],b=>by simp[bv]
 |e::r,b=>by simp only[List.cons_append,bv,je r b];omega
theorem lb:∀a b:List Sm,au (a++b)=au a+au b
 |[],b=>by simp[au]
 |e::r,b=>by simp only[List.cons_append,au,lb r b];omega
theorem aO:∀{l:List Ex} {e:Ex},e∈l→e.sz≤bv l
 |x::r,e,h=>by
  simp only[bv]
  rcases List.mem_cons.1 h with rfl|h
  ·omega
  ·have:=aO h;omega
theorem aN:∀{l:List Sm} {e:Sm},e∈l→e.sz≤au l
 |x::r,e,h=>by
  simp only[au]
  rcases List.mem_cons.1 h with rfl|h
  ·omega
  ·have:=aN h;omega
theorem aW:∀l:List Ex,l.length≤bv l
 |[]=>Nat.le_refl _
 |e::r=>by have:=aW r;have:=e.sz_eq;simp only[bv,List.length_cons];omega
theorem aZ:∀l:List Sm,l.length≤au l
 |[]=>Nat.le_refl _
 |e::r=>by have:=aZ r;have:=e.sz_eq;simp only[au,List.length_cons];omega
mutual
def Ex.parts:Ex→Nat
 | .mk _ _ _ k=>1+aB k
def aB:List Ex→Nat
 |[]=>0
 |e::r=>e.parts+aB r
end
theorem Ex.parts_eq(e:Ex):e.parts=1+aB e.kids:=by cases e;rfl
theorem cu:∀a b:List Ex,aB (a++b)=aB a+aB b
 |[],b=>by simp[aB]
 |e::r,b=>by simp only[List.cons_append,aB,cu r b];omega
mutual
theorem Ex.parts_le:∀e:Ex,e.parts≤e.sz
 | .mk _ _ s k=>by have:=oZ k;simp only[Ex.parts,Ex.sz];omega
theorem oZ:∀l:List Ex,aB l≤bv l
 |[]=>Nat.le_refl _
 |e::r=>by have:=e.parts_le;have:=oZ r;simp only[aB,bv];omega
end
mutual
def Sm.cnt:Sm→Nat
 | .mk _ _ _ b e=>1+da b+da e
def da:List Sm→Nat
 |[]=>0
 |s::r=>s.cnt+da r
end
theorem Sm.cnt_eq(s:Sm):s.cnt=1+da s.body+da s.els:=by cases s;rfl
theorem me:∀a b:List Sm,da (a++b)=da a+da b
 |[],b=>by simp[da]
 |e::r,b=>by simp only[List.cons_append,da,me r b];omega
mutual
theorem Sm.cnt_le:∀s:Sm,s.cnt≤s.sz
 | .mk _ s a b e=>by have:=mu b;have:=mu e;simp only[Sm.cnt,Sm.sz];omega
theorem mu:∀l:List Sm,da l≤au l
 |[]=>Nat.le_refl _
 |e::r=>by have:=e.cnt_le;have:=mu r;simp only[da,au];omega
end
def inR(n lo hi:Int):Bool:=decide (lo≤n)&&decide (n≤hi)
def loK(op:Int):Nat:=if op=1∨op=2 then 0 else if op=11∨op=12 then 1 else if op=13 then 0 else 2
def hiK(op:Int):Nat:=if op=1∨op=2 then 0 else if op=11∨op=12 then 1 else if op=13 then 3 else 2
def yj(op:Int):Bool:=decide (op=2)||decide (op=13)
def nk(e:Ex):Bool:=inR e.op 1 13&&inR e.kids.length (loK e.op) (hiK e.op)&&(yj e.op==az e.name)&&(yj e.op||decide (e.name=[]))&&inR e.n 0 255&&(decide (e.op=1)||decide (e.n=0))
def fd:Nat→Ex→Bool
 |0,_=>false
 |d+1,e=>nk e&&e.kids.all (fd d)
def kT(e:Ex):Bool:=fd 6 e&&decide (e.parts≤30)
def jH(op:Int):Nat:=if op=4 then 2 else 1
def cn(op:Int):Bool:=decide (op=1)||decide (op=2)
def ip(s:Sm):Bool:=inR s.op 1 8&&decide (s.args.length=jH s.op)&&(cn s.op==az s.name)&&(cn s.op||decide (s.name=[]))&&s.args.all kT&&
 (!decide (s.op=8)||(match s.args with|a::_=>decide (a.op=13)|[]=>false))&&(s.els.isEmpty||decide (s.op=5))&&(s.body.isEmpty||decide (s.op=5)||decide (s.op=6))
def aE:Nat→Sm→Bool
 |0,_=>false
 |d+1,s=>ip s&&s.body.all (aE d)&&s.els.all (aE d)
def jB(f:Fd):Bool:=f.params.all az&&az f.name&&decide (f.params.length≤3)&&f.body.all (aE 4)
def jR(l:List Fd):Nat:=(l.map fun f=>da f.body).sum
def ca(l:List Fd):Bool:=inR l.length 1 4&&l.all jB&&decide (jR l≤40)
end Go.Proofs.YtnjbhgpbgmpkcaaGreatDoor
namespace Go.Proofs.YtnjbhgpbgmpkcaaGreatDoor
open Go Go.Aw
set_option maxRecDepth 100000
set_option maxHeartbeats 4000000
theorem di{α:Type}{p:α→Bool}{xs:List α}{i:Nat}(h:i<xs.length):(xs.take (i+1)).all p=((xs.take i).all p&&p xs[i]):=by
 rw[ah h,List.all_append];simp
theorem kB{α:Type}{p:α→Bool}{xs:List α}{i:Nat}(h:i<xs.length)(hp:p xs[i]=false):xs.all p=false:=
 List.all_eq_false.2 ⟨_,List.getElem_mem h,by simp[hp]⟩
theorem fh{α:Type}{p:α→Bool}{xs:List α}{i:Nat}(h:xs.length≤i)(ht:(xs.take i).all p=true):xs.all p=true:=by
 rwa[List.take_of_length_le h] at ht
def K_spec_l2Form:AK:= .seq (.reg [oJ 2 (.box 4 (.t 0)),oJ 4 (.mov (.c (.p (.bool false))))]) (.seq (.reg [oF 10 0 2,oL 11 10,oJ 12 (.call gt [(.t 11)]),oM 9 12,oJ 13 (.ext 0 (.t 9)),oJ 14 (.ext 1 (.t 9)),oM 5 13,oM 6 14]) (.seq (.seq (.reg [oM 15 1,oJ 16 (.bin .lss (.t 15) (.c (.p (.int .i64 1)))),oM 17 16,⟨(some 18),some (17,false),.fldA 0 (.t 2)⟩,⟨(some 19),some (17,false),.ld none (.t 18)⟩,⟨(some 20),some (17,false),.call bI [(.t 19),(.c (.p (.int .i64 1))),(.c (.p (.int .i64 13)))]⟩,⟨(some 21),some (17,false),.not (.t 20)⟩,oJ 22 (.pick (.t 17) (.c (.p (.bool true))) (.t 21)),oM 23 22,⟨(some 24),some (23,false),.fldA 3 (.t 2)⟩,⟨(some 25),some (23,false),.ld none (.t 24)⟩,⟨(some 26),some (23,false),.len false (.t 25)⟩,⟨(some 27),some (23,false),.mov (.t 5)⟩,⟨(some 28),some (23,false),.mov (.t 6)⟩,⟨(some 29),some (23,false),.call bI [(.t 26),(.t 27),(.t 28)]⟩,⟨(some 30),some (23,false),.not (.t 29)⟩,oJ 31 (.pick (.t 23) (.c (.p (.bool true))) (.t 30))]) (.cond (.t 31) (.seq (.reg [oJ 4 (.mov (.c (.p (.bool false))))]) (.ret)) (.skip))) (.cut (.reg [oF 32 0 2,oL 33 32,oJ 34 (.bin .eql (.t 33) (.c (.p (.int .i64 2)))),oM 35 34,⟨(some 36),some (35,false),.fldA 0 (.t 2)⟩,⟨(some 37),some (35,false),.ld none (.t 36)⟩,⟨(some 38),some (35,false),.bin .eql (.t 37) (.c (.p (.int .i64 13)))⟩,oJ 39 (.pick (.t 35) (.c (.p (.bool true))) (.t 38)),oM 7 39]) (.cut (.seq (.reg [oM 40 7,oF 41 2 2,oL 42 41,oJ 43 (.call bX [(.t 42)]),oJ 44 (.beq true (.t 40) (.t 43)),oM 45 44,⟨(some 46),some (45,false),.mov (.t 7)⟩,⟨(some 47),some (45,false),.not (.t 46)⟩,⟨(some 48),some (45,false),.mov (.t 47)⟩,⟨(some 49),some (48,true),.fldA 2 (.t 2)⟩,⟨(some 50),some (48,true),.ld none (.t 49)⟩,⟨(some 51),some (48,true),.bins .neq (.t 50) (.c (.p (.str [])))⟩,⟨(some 52),some (45,false),.pick (.t 48) (.t 51) (.c (.p (.bool false)))⟩,oJ 53 (.pick (.t 45) (.c (.p (.bool true))) (.t 52)),oM 54 53,⟨(some 55),some (54,false),.fldA 1 (.t 2)⟩,⟨(some 56),some (54,false),.ld none (.t 55)⟩,⟨(some 57),some (54,false),.call bI [(.t 56),(.c (.p (.int .i64 0))),(.c (.p (.int .i64 255)))]⟩,⟨(some 58),some (54,false),.not (.t 57)⟩,oJ 59 (.pick (.t 54) (.c (.p (.bool true))) (.t 58)),oM 60 59,⟨(some 61),some (60,false),.fldA 0 (.t 2)⟩,⟨(some 62),some (60,false),.ld none (.t 61)⟩,⟨(some 63),some (60,false),.bin .neq (.t 62) (.c (.p (.int .i64 1)))⟩,⟨(some 64),some (60,false),.mov (.t 63)⟩,⟨(some 65),some (64,true),.fldA 1 (.t 2)⟩,⟨(some 66),some (64,true),.ld none (.t 65)⟩,⟨(some 67),some (64,true),.bin .neq (.t 66) (.c (.p (.int .i64 0)))⟩,⟨(some 68),some (60,false),.pick (.t 64) (.t 67) (.c (.p (.bool false)))⟩,oJ 69 (.pick (.t 60) (.c (.p (.bool true))) (.t 68))]) (.cond (.t 69) (.seq (.reg [oJ 4 (.mov (.c (.p (.bool false))))]) (.ret)) (.skip))) (.seq (.seq (.reg [oK 8 0]) (.blk 0 (.loop (.seq (.seq (.reg [oM 70 8,oF 71 3 2,oL 72 71,oJ 73 (.len false (.t 72)),oJ 74 (.bin .lss (.t 70) (.t 73))]) (.cond (.t 74) (.skip) (.exit 0))) (.seq (.blk 1 (.seq (.reg [oF 77 3 2,oL 78 77,oM 79 8,oJ 80 (.idxS 4 (.t 78) (.t 79)),oJ 81 (.ld (some 4) (.t 80)),oM 82 1,oJ 83 (.bin .sub (.t 82) (.c (.p (.int .i64 1)))),oJ 84 (.call eq [(.t 81),(.t 83)]),oJ 85 (.not (.t 84))]) (.cond (.t 85) (.seq (.reg [oJ 4 (.mov (.c (.p (.bool false))))]) (.ret)) (.skip)))) (.reg [oM 75 8,oJ 76 (.bin .add (.t 75) (.c (.p (.int .i64 1)))),oM 8 76])))))) (.seq (.reg [oJ 4 (.mov (.c (.p (.bool true))))]) (.ret)))))))
theorem tK:K_spec_l2Form.whole=F_spec_l2Form.ak:=rfl
def K_spec_l3Stmt:AK:= .seq (.reg [oJ 2 (.box 5 (.t 0)),oJ 4 (.mov (.c (.p (.bool false))))]) (.cut (.seq (.reg [oM 7 1,oJ 8 (.bin .lss (.t 7) (.c (.p (.int .i64 1)))),oM 9 8,⟨(some 10),some (9,false),.fldA 0 (.t 2)⟩,⟨(some 11),some (9,false),.ld none (.t 10)⟩,⟨(some 12),some (9,false),.call bI [(.t 11),(.c (.p (.int .i64 1))),(.c (.p (.int .i64 8)))]⟩,⟨(some 13),some (9,false),.not (.t 12)⟩,oJ 14 (.pick (.t 9) (.c (.p (.bool true))) (.t 13)),oM 15 14,⟨(some 16),some (15,false),.fldA 2 (.t 2)⟩,⟨(some 19),some (15,false),.fldA 0 (.t 2)⟩,⟨(some 17),some (15,false),.ld none (.t 16)⟩,⟨(some 18),some (15,false),.len false (.t 17)⟩,⟨(some 20),some (15,false),.ld none (.t 19)⟩,⟨(some 21),some (15,false),.qcall gu [(.t 20)]⟩,⟨(some 22),some (15,false),.bin .neq (.t 18) (.t 21)⟩,oJ 23 (.pick (.t 15) (.c (.p (.bool true))) (.t 22))]) (.cond (.t 23) (.seq (.reg [oJ 4 (.mov (.c (.p (.bool false))))]) (.ret)) (.skip))) (.cut (.reg [oF 24 0 2,oL 25 24,oJ 26 (.bin .eql (.t 25) (.c (.p (.int .i64 1)))),oM 27 26,⟨(some 28),some (27,false),.fldA 0 (.t 2)⟩,⟨(some 29),some (27,false),.ld none (.t 28)⟩,⟨(some 30),some (27,false),.bin .eql (.t 29) (.c (.p (.int .i64 2)))⟩,oJ 31 (.pick (.t 27) (.c (.p (.bool true))) (.t 30)),oM 5 31]) (.cut (.seq (.reg [oM 32 5,oF 33 1 2,oL 34 33,oJ 35 (.call bX [(.t 34)]),oJ 36 (.beq true (.t 32) (.t 35)),oM 37 36,⟨(some 38),some (37,false),.mov (.t 5)⟩,⟨(some 39),some (37,false),.not (.t 38)⟩,⟨(some 40),some (37,false),.mov (.t 39)⟩,⟨(some 41),some (40,true),.fldA 1 (.t 2)⟩,⟨(some 42),some (40,true),.ld none (.t 41)⟩,⟨(some 43),some (40,true),.bins .neq (.t 42) (.c (.p (.str [])))⟩,⟨(some 44),some (37,false),.pick (.t 40) (.t 43) (.c (.p (.bool false)))⟩,oJ 45 (.pick (.t 37) (.c (.p (.bool true))) (.t 44))]) (.cond (.t 45) (.seq (.reg [oJ 4 (.mov (.c (.p (.bool false))))]) (.ret)) (.skip))) (.seq (.seq (.reg [oK 6 0]) (.blk 0 (.loop (.seq (.seq (.reg [oM 46 6,oF 47 2 2,oL 48 47,oJ 49 (.len false (.t 48)),oJ 50 (.bin .lss (.t 46) (.t 49))]) (.cond (.t 50) (.skip) (.exit 0))) (.seq (.blk 1 (.seq (.reg [oF 53 2 2,oL 54 53,oM 55 6,oJ 56 (.idxS 4 (.t 54) (.t 55)),oJ 57 (.ld (some 4) (.t 56)),oJ 58 (.call dF [(.t 57)]),oJ 59 (.not (.t 58))]) (.cond (.t 59) (.seq (.reg [oJ 4 (.mov (.c (.p (.bool false))))]) (.ret)) (.skip)))) (.reg [oM 51 6,oJ 52 (.bin .add (.t 51) (.c (.p (.int .i64 1)))),oM 6 52])))))) (.cut (.seq (.reg [oF 60 0 2,oL 61 60,oJ 62 (.bin .eql (.t 61) (.c (.p (.int .i64 8)))),oM 63 62,⟨(some 64),some (63,true),.fldA 2 (.t 2)⟩,⟨(some 65),some (63,true),.ld none (.t 64)⟩,⟨(some 66),some (63,true),.idxS 4 (.t 65) (.c (.p (.int .i64 0)))⟩,⟨(some 67),some (63,true),.fldA 0 (.t 66)⟩,⟨(some 68),some (63,true),.ld none (.t 67)⟩,⟨(some 69),some (63,true),.bin .neq (.t 68) (.c (.p (.int .i64 13)))⟩,oJ 70 (.pick (.t 63) (.t 69) (.c (.p (.bool false))))]) (.cond (.t 70) (.seq (.reg [oJ 4 (.mov (.c (.p (.bool false))))]) (.ret)) (.skip))) (.cut (.seq (.reg [oF 71 4 2,oL 72 71,oJ 73 (.len false (.t 72)),oJ 74 (.bin .gtr (.t 73) (.c (.p (.int .i64 0)))),oM 75 74,⟨(some 76),some (75,true),.fldA 0 (.t 2)⟩,⟨(some 77),some (75,true),.ld none (.t 76)⟩,⟨(some 78),some (75,true),.bin .neq (.t 77) (.c (.p (.int .i64 5)))⟩,oJ 79 (.pick (.t 75) (.t 78) (.c (.p (.bool false)))),oM 80 79,⟨(some 81),some (80,false),.fldA 3 (.t 2)⟩,⟨(some 82),some (80,false),.ld none (.t 81)⟩,⟨(some 83),some (80,false),.len false (.t 82)⟩,⟨(some 84),some (80,false),.bin .gtr (.t 83) (.c (.p (.int .i64 0)))⟩,⟨(some 85),some (80,false),.mov (.t 84)⟩,⟨(some 86),some (85,true),.fldA 0 (.t 2)⟩,⟨(some 87),some (85,true),.ld none (.t 86)⟩,⟨(some 88),some (85,true),.bin .neq (.t 87) (.c (.p (.int .i64 5)))⟩,⟨(some 89),some (80,false),.pick (.t 85) (.t 88) (.c (.p (.bool false)))⟩,⟨(some 90),some (80,false),.mov (.t 89)⟩,⟨(some 91),some (90,true),.fldA 0 (.t 2)⟩,⟨(some 92),some (90,true),.ld none (.t 91)⟩,⟨(some 93),some (90,true),.bin .neq (.t 92) (.c (.p (.int .i64 6)))⟩,⟨(some 94),some (80,false),.pick (.t 90) (.t 93) (.c (.p (.bool false)))⟩,oJ 95 (.pick (.t 80) (.c (.p (.bool true))) (.t 94))]) (.cond (.t 95) (.seq (.reg [oJ 4 (.mov (.c (.p (.bool false))))]) (.ret)) (.skip))) (.seq (.reg [oF 96 3 2,oL 97 96,oM 98 1,oJ 99 (.bin .sub (.t 98) (.c (.p (.int .i64 1)))),oJ 100 (.call bF [(.t 97),(.t 99)]),oM 101 100,⟨(some 102),some (101,true),.fldA 4 (.t 2)⟩,⟨(some 103),some (101,true),.ld none (.t 102)⟩,⟨(some 104),some (101,true),.mov (.t 1)⟩,⟨(some 105),some (101,true),.bin .sub (.t 104) (.c (.p (.int .i64 1)))⟩,⟨(some 106),some (101,true),.call bF [(.t 103),(.t 105)]⟩,oJ 107 (.pick (.t 101) (.t 106) (.c (.p (.bool false)))),oM 4 107]) (.ret))))))))
theorem tE:K_spec_l3Stmt.whole=F_spec_l3Stmt.ak:=rfl
variable (G:aw)
theorem th(n lo hi:Int):VF Tryz.prog G bI [.p (.int .i64 n),.p (.int .i64 lo),.p (.int .i64 hi)] (.p (.bool (inR n lo hi))):=by
 refine AC.go xD ?_
 by_cases h:lo≤n
 ·simp-implicitDefEqProofs[ll,h,inR]
 ·simp-implicitDefEqProofs[ll,h,inR]
theorem wa(op:Int):VF Tryz.prog G gt [.p (.int .i64 op)] (.tup [.p (.int .i64 (loK op)),.p (.int .i64 (hiK op))]):=by
 refine AC.go tU ?_
 by_cases h1:op=1
 ·subst h1;simp-implicitDefEqProofs[cA,loK,hiK]
 by_cases h2:op=2
 ·subst h2;simp-implicitDefEqProofs[cA,loK,hiK]
 by_cases h3:op=11
 ·subst h3;simp-implicitDefEqProofs[cA,loK,hiK]
 by_cases h4:op=12
 ·subst h4;simp-implicitDefEqProofs[cA,loK,hiK]
 by_cases h5:op=13
 ·subst h5;simp-implicitDefEqProofs[cA,loK,hiK]
 simp-implicitDefEqProofs[cA,loK,hiK,h1,h2,h3,h4,h5]
theorem Di:∀(d:Nat) (e:Ex),e.sz≤1099511627776→d≤1000→VF Tryz.prog G eq [.agg (e.cs.map .p),.p (.int .i64 d)] (.p (.bool (fd d e))):=by
 intro d
 induction d with
 |zero=>
  intro e he _
  refine AC.go ng ?_
  simp-implicitDefEqProofs[F_spec_l2Form,Ex.cs_eq]
  refine(wa G _).use ?_
  simp-implicitDefEqProofs[fd]
 |succ d ih=>
  intro e he hd
  have hsz:=e.sz_eq
  have hkl:=aW e.kids
  refine AC.goK ng tK ?_
  have hd1:¬(d:Int)+1<1:=by omega
  have hw:IntKind.i64.wrap ((d:Int)+1-1)=(d:Int):=by rw[show(d:Int)+1-1=d by omega];exact al (by omega) (by omega)
  have hw':IntKind.i64.wrap (d:Int)=(d:Int):=al (by omega) (by omega)
  have hxl:∀l,exL l= .lst 4 (l.map Ex.cs):=fun _=>rfl
  simp-implicitDefEqProofs[K_spec_l2Form,F_spec_l2Form,Ex.cs_eq]
  refine(wa G _).use ?_
  simp-implicitDefEqProofs[hd1]
  refine(th G _ _ _).use ?_
  by_cases h1:inR e.op 1 13=true
  case neg=>simp-implicitDefEqProofs[h1,fd,nk]
  simp-implicitDefEqProofs[h1,hxl]
  refine(th G _ _ _).use ?_
  by_cases h2:inR e.kids.length (loK e.op) (hiK e.op)=true
  case neg=>simp-implicitDefEqProofs[h2,fd,nk]
  simp-implicitDefEqProofs[h2]
  refine lh (af 86 [(1,.p (.int .i64 (d+1))),(2,.ptr 0 4 0 0),(7,.p (.bool (yj e.op)))]) [.row 4 [[.p (.int .i64 e.op),.p (.int .i64 e.n),.p (.str e.name),.p (.lst 4 (e.kids.map Ex.cs))]]] ?_ ?_
  ·by_cases o2:e.op=2
   ·simp-implicitDefEqProofs[o2]
    exact ab (by simp) (by simp[okO]) (by simp[below,yj])
   ·by_cases o13:e.op=13
    ·simp-implicitDefEqProofs[o13]
     exact ab (by simp) (by simp[okO]) (by simp[below,yj])
    ·simp-implicitDefEqProofs[o2,o13]
     exact ab (by simp) (by simp[okO]) (by simp[below,yj,o2,o13])
  have hn:e.name.length≤140737488355328:=by omega
  refine vA (fun _:Unit=>af 86 [(1,.p (.int .i64 ((d:Int)+1))),(2,.ptr 0 4 0 0)]) (fun _=>[.row 4 [[.p (.int .i64 e.op),.p (.int .i64 e.n),.p (.str e.name),.p (.lst 4 (e.kids.map Ex.cs))]]]) (fun _=>nk e=true) ?_ ?_
  ·simp-implicitDefEqProofs[]
   refine(pj G _ hn).use ?_
   simp-implicitDefEqProofs[]
   repeat' first
    |(refine(th G _ _ _).use ?_;simp-implicitDefEqProofs[])
    |(refine aQ (fun hc=>?_) (fun hc=>?_)<;>simp-implicitDefEqProofs[hc])
   all_goals first
    |exact⟨by simp_all [nk],ab (by simp) (by simp[okO]) (by simp[below])⟩
    |simp_all [fd,nk]
  intro _ hh
  simp-implicitDefEqProofs[]
  refine aq (fun i:Nat=>af 86 [(1,.p (.int .i64 ((d:Int)+1))),(2,.ptr 0 4 0 0),(8,.p (.int .i64 i))]) (fun _=>[.row 4 [[.p (.int .i64 e.op),.p (.int .i64 e.n),.p (.str e.name),.p (.lst 4 (e.kids.map Ex.cs))]]])
   (fun i=>i≤e.kids.length∧(e.kids.take i).all (fd d)=true) (fun i=>e.kids.length-i) 0 (by simp) (ab (by simp) (by simp[okO]) (by simp[below])) ?_
  intro i ⟨hi,hall⟩
  simp-implicitDefEqProofs[]
  refine aQ (fun h=>?_) (fun h=>?_)
  ·simp at h
   have hg:=List.getElem?_eq_getElem h
   have hks:=aO (List.getElem_mem h)
   simp-implicitDefEqProofs[hg,hw']
   refine(ih e.kids[i] (by omega) (by omega)).use ?_
   by_cases hk:fd d e.kids[i]=true
   ·simp-implicitDefEqProofs[hk]
    refine⟨i+1,⟨h,by rw[←List.all_eq_true,di h,hall,hk];rfl⟩,by omega,ab (by simp) (by simp[okO]) ?_⟩
    simp[below,w1 (i:=i) (by omega)]
   ·have hk':fd d e.kids[i]=false:=by simpa using hk
    have hf:fd (d+1) e=false:=by simp only[fd,kB h hk',Bool.and_false]
    simp-implicitDefEqProofs[hk',hf]
  ·simp at h
   have hf:fd (d+1) e=true:=by simp only[fd,fh h hall,hh,Bool.and_self]
   simp-implicitDefEqProofs[hf]
theorem Au{l:List Ex}{i:Nat}(h:i<l.length):aB (l.take (i+1))=aB (l.take i)+l[i].parts:=by
 rw[ah h,cu];simp[aB]
theorem vQ(l:List Ex)(i:Nat):aB (l.take i)≤aB l:=by
 have:=cu (l.take i) (l.drop i)
 rw[List.take_append_drop] at this
 omega
theorem Ao:∀(k:Nat) (e:Ex),e.sz≤k→k≤1099511627776→VF Tryz.prog G fB [.agg (e.cs.map .p)] (.p (.int .i64 e.parts)):=by
 intro k
 induction k with
 |zero=>intro e he;have:=e.sz_eq;omega
 |succ k ih=>
  intro e he hk
  have hsz:=e.sz_eq
  have hkl:=aW e.kids
  have hpe:=e.parts_eq
  have hpz:=oZ e.kids
  refine AC.go rI ?_
  have hxl:∀l,exL l= .lst 4 (l.map Ex.cs):=fun _=>rfl
  simp-implicitDefEqProofs[lL,Ex.cs_eq,hxl]
  refine aq (fun i:Nat=>af 21 [(1,.ptr 0 4 0 0),(3,.p (.int .i64 ((1+aB (e.kids.take i):Nat):Int))),(4,.p (.int .i64 i))]) (fun _=>[.row 4 [[.p (.int .i64 e.op),.p (.int .i64 e.n),.p (.str e.name),.p (.lst 4 (e.kids.map Ex.cs))]]])
   (fun i=>i≤e.kids.length) (fun i=>e.kids.length-i) 0 (by simp) (ab (by simp) (by simp[okO]) (by simp[below,aB])) ?_
  intro i hi
  simp-implicitDefEqProofs[]
  refine aQ (fun h=>?_) (fun h=>?_)
  ·simp at h
   have hg:=List.getElem?_eq_getElem h
   have hks:=aO (List.getElem_mem h)
   have hps:=Au h
   have hple:=vQ e.kids (i+1)
   simp-implicitDefEqProofs[hg]
   refine(ih e.kids[i] (by omega) (by omega)).use ?_
   have hw:IntKind.i64.wrap (1+(aB (e.kids.take i):Int)+(e.kids[i].parts:Int))=((1+aB (e.kids.take (i+1)):Nat):Int):=by rw[al (by omega) (by omega)];omega
   simp-implicitDefEqProofs[hw]
   exact⟨i+1,h,by omega,ab (by simp) (by simp[okO]) (by simp[below,w1 (i:=i) (by omega)])⟩
  ·simp at h
   rw[List.take_of_length_le h]
   simp-implicitDefEqProofs[]
   omega
theorem wt(e:Ex)(he:e.sz≤1099511627776):VF Tryz.prog G dF [.agg (e.cs.map .p)] (.p (.bool (kT e))):=by
 refine AC.go pM ?_
 simp-implicitDefEqProofs[jS]
 have h6:=Di G 6 e he (by omega)
 refine h6.use ?_
 by_cases h:fd 6 e=true
 ·simp-implicitDefEqProofs[h]
  refine(Ao G _ e (Nat.le_refl _) he).use ?_
  simp-implicitDefEqProofs[kT,h]
  omega
 ·simp-implicitDefEqProofs[h,kT]
theorem Dr(op:Int):VF Tryz.prog G gu [.p (.int .i64 op)] (.p (.int .i64 (jH op))):=by
 refine AC.go tW ?_
 by_cases h:op=4
 ·simp-implicitDefEqProofs[js,h,jH]
 ·simp-implicitDefEqProofs[js,h,jH]
theorem qw(d:Nat)(hd:d≤1000)(hs:∀s:Sm,s.sz≤1099511627776→VF Tryz.prog G gv [.agg (s.cs.map .p),.p (.int .i64 d)] (.p (.bool (aE d s))))(l:List Sm)(hl:au l≤1099511627776):
 VF Tryz.prog G bF [.p (smL l),.p (.int .i64 d)] (.p (.bool (l.all (aE d)))):=by
 refine AC.go rA ?_
 have hll:=aZ l
 have hsl:∀l,smL l= .lst 5 (l.map Sm.cs):=fun _=>rfl
 simp-implicitDefEqProofs[lu]
 refine aq (fun i:Nat=>af 19 [(0,.p (smL l)),(1,.p (.int .i64 d)),(5,.p (.int .i64 i))]) (fun _=>[]) (fun i=>i≤l.length∧(l.take i).all (aE d)=true) (fun i=>l.length-i) 0 (by simp) (aD rfl (by simp[below,hsl])) ?_
 intro i ⟨hi,hall⟩
 simp-implicitDefEqProofs[hsl]
 refine aQ (fun h=>?_) (fun h=>?_)
 ·simp at h
  have hg:=List.getElem?_eq_getElem h
  have hks:=aN (List.getElem_mem h)
  simp-implicitDefEqProofs[hg]
  refine(hs l[i] (by omega)).use ?_
  by_cases hk:aE d l[i]=true
  ·simp-implicitDefEqProofs[hk]
   exact⟨i+1,⟨h,by rw[←List.all_eq_true,di h,hall,hk];rfl⟩,by omega,aD rfl (by simp[below,hsl,w1 (i:=i) (by omega)])⟩
  ·have hk':aE d l[i]=false:=by simpa using hk
   have hf:=kB h hk'
   simp-implicitDefEqProofs[hk',hf]
 ·simp at h
  have hf:=fh h hall
  simp-implicitDefEqProofs[hf]
theorem CL:∀(d:Nat),d≤1000→∀s:Sm,s.sz≤1099511627776→VF Tryz.prog G gv [.agg (s.cs.map .p),.p (.int .i64 d)] (.p (.bool (aE d s))):=by
 intro d
 induction d with
 |zero=>
  intro _ s _
  refine AC.go np ?_
  simp-implicitDefEqProofs[F_spec_l3Stmt,Sm.cs_eq,aE]
 |succ d ih=>
  intro hd s he
  have hsz:=s.sz_eq
  have hal:=aW s.args
  have hbl:=aZ s.body
  have hel:=aZ s.els
  have ihs:=qw G d (by omega) (ih (by omega))
  refine AC.goK np tE ?_
  have hd1:¬(d:Int)+1<1:=by omega
  have hw':IntKind.i64.wrap (d:Int)=(d:Int):=al (by omega) (by omega)
  have hxl:∀l,exL l= .lst 4 (l.map Ex.cs):=fun _=>rfl
  have hsl:∀l,smL l= .lst 5 (l.map Sm.cs):=fun _=>rfl
  have hn:s.name.length≤140737488355328:=by omega
  simp-implicitDefEqProofs[K_spec_l3Stmt,F_spec_l3Stmt,Sm.cs_eq]
  generalize hH:[AO.row 5 [[AV.p (.int .i64 s.op),.p (.str s.name),.p (exL s.args),.p (smL s.body),.p (smL s.els)]]]=H
  have hho:∀o∈H,okO H.length o:=by rw[←hH];simp[okO]
  have hhl:0<H.length:=by rw[←hH];simp
  have hh0:H[0]?=some (AO.row 5 [[AV.p (.int .i64 s.op),.p (.str s.name),.p (exL s.args),.p (smL s.body),.p (smL s.els)]]):=by rw[←hH];rfl
  have hhL:H.length=1:=by rw[←hH];rfl
  refine vA (fun _:Unit=>af 108 [(1,.p (.int .i64 ((d:Int)+1))),(2,.ptr 0 5 0 0)]) (fun _=>H) (fun _=>inR s.op 1 8=true∧s.args.length=jH s.op) ?_ ?_
  ·simp-implicitDefEqProofs[hd1,hh0]
   refine(th G _ _ _).use ?_
   by_cases h1:inR s.op 1 8=true
   case neg=>simp-implicitDefEqProofs[h1,aE,ip]
   simp-implicitDefEqProofs[h1,hh0,hxl]
   refine(Dr G _).useQ ?_
   by_cases h2:s.args.length=jH s.op
   ·simp-implicitDefEqProofs[h2]
    exact ab (by omega) hho (by simp[below,hhl])
   ·have h2':¬(s.args.length:Int)=(jH s.op:Int):=by omega
    simp-implicitDefEqProofs[h2,h2',aE,ip]
  intro _ ⟨h1,h2⟩
  refine vA (fun _:Unit=>af 108 [(1,.p (.int .i64 ((d:Int)+1))),(2,.ptr 0 5 0 0),(5,.p (.bool (cn s.op)))]) (fun _=>H) (fun _=>True) ?_ ?_
  ·simp-implicitDefEqProofs[hh0]
   by_cases o1:s.op=1
   ·simp-implicitDefEqProofs[o1,hh0,cn]
    exact ab (by omega) hho (by simp[below,hhl])
   ·by_cases o2:s.op=2
    ·simp-implicitDefEqProofs[o2,hh0,cn]
     exact ab (by omega) hho (by simp[below,hhl])
    ·simp-implicitDefEqProofs[o1,o2,hh0,cn]
     exact ab (by omega) hho (by simp[below,hhl])
  intro _ _
  refine vA (fun _:Unit=>af 108 [(1,.p (.int .i64 ((d:Int)+1))),(2,.ptr 0 5 0 0)]) (fun _=>H) (fun _=>(cn s.op==az s.name)=true∧(cn s.op||decide (s.name=[]))=true) ?_ ?_
  ·simp-implicitDefEqProofs[hh0]
   refine(pj G _ hn).use ?_
   simp-implicitDefEqProofs[hh0]
   repeat' first
    |(refine aQ (fun hc=>?_) (fun hc=>?_)<;>simp-implicitDefEqProofs[hc,hh0])
   all_goals first
    |exact ab (by omega) hho (by simp[below,hhl])
    |exact⟨by simp_all,by simp_all,ab (by omega) hho (by simp[below,hhl])⟩
    |exact⟨by simp_all,ab (by omega) hho (by simp[below,hhl])⟩
    |(simp_all [aE,ip];done)
  intro _ ⟨h3,h4⟩
  simp-implicitDefEqProofs[]
  refine aq (fun i:Nat=>af 108 [(1,.p (.int .i64 ((d:Int)+1))),(2,.ptr 0 5 0 0),(6,.p (.int .i64 i))]) (fun _=>H) (fun i=>i≤s.args.length∧(s.args.take i).all kT=true) (fun i=>s.args.length-i) 0 (by simp) (ab (by omega) hho (by simp[below,hhl])) ?_
  intro i ⟨hi,hall⟩
  simp-implicitDefEqProofs[hh0,hxl]
  refine aQ (fun h=>?_) (fun h=>?_)
  ·simp at h
   have hg:=List.getElem?_eq_getElem h
   have hks:=aO (List.getElem_mem h)
   simp-implicitDefEqProofs[hg,hh0,hxl]
   refine(wt G s.args[i] (by omega)).use ?_
   by_cases hk:kT s.args[i]=true
   ·simp-implicitDefEqProofs[hk]
    exact⟨i+1,⟨h,by rw[←List.all_eq_true,di h,hall,hk];rfl⟩,by omega,ab (by omega) hho (by simp[below,hhl,w1 (i:=i) (by omega)])⟩
   ·have hk':kT s.args[i]=false:=by simpa using hk
    have hf:aE (d+1) s=false:=by simp only[aE,ip,kB h hk',Bool.and_false,Bool.false_and]
    simp-implicitDefEqProofs[hk',hf]
  simp at h
  have h5:s.args.all kT=true:=fh h hall
  have hlen1:1≤s.args.length:=by rw[h2];unfold jH;split<;>omega
  obtain⟨a0,ar,ha⟩:∃a r,s.args=a::r:=by
   cases hh:s.args with
   |nil=>rw[hh] at hlen1;simp at hlen1
   |cons a r=>exact⟨a,r,rfl⟩
  have ha0:s.args[0]?=some a0:=by rw[ha];rfl
  refine vA (fun _:Unit=>af 108 [(1,.p (.int .i64 ((d:Int)+1))),(2,.ptr 0 5 0 0)]) (fun _=>H) (fun _=>(!decide (s.op=8)||decide (a0.op=13))=true) ?_ ?_
  ·simp-implicitDefEqProofs[hh0]
   by_cases o8:s.op=8
   ·have hae:=a0.cs_eq
    simp-implicitDefEqProofs[o8,hh0,hxl,ha0,hae]
    refine aQ (fun hc=>?_) (fun hc=>?_)
    ·simp at hc
     have hf:aE (d+1) s=false:=by simp[aE,ip,o8,ha,hc]
     simp-implicitDefEqProofs[hf]
    ·simp at hc
     simp-implicitDefEqProofs[hc]
     exact ab (by omega) hho (by simp[below,hhl])
   ·simp-implicitDefEqProofs[o8,hh0]
    exact ab (by omega) hho (by simp[below,hhl])
  intro _ h6
  refine vA (fun _:Unit=>af 108 [(1,.p (.int .i64 ((d:Int)+1))),(2,.ptr 0 5 0 0)]) (fun _=>H) (fun _=>(s.els.isEmpty||decide (s.op=5))=true∧(s.body.isEmpty||decide (s.op=5)||decide (s.op=6))=true) ?_ ?_
  ·have hf:¬((s.els.isEmpty||decide (s.op=5))=true∧(s.body.isEmpty||decide (s.op=5)||decide (s.op=6))=true)→aE (d+1) s=false:=fun h=>by
    have:ip s=false:=by
     cases hx:ip s with
     |false=>rfl
     |true=>refine absurd ?_ h;simp only[ip,Bool.and_eq_true] at hx;exact⟨hx.1.2,hx.2⟩
    simp[aE,this]
   have pe:¬s.els=[]→0<s.els.length:=List.length_pos_iff.2
   have pb:¬s.body=[]→0<s.body.length:=List.length_pos_iff.2
   by_cases o5:s.op=5
   ·simp-implicitDefEqProofs[hh0,hsl,o5]
    repeat' first
     |(refine aQ (fun hc=>?_) (fun hc=>?_)<;>simp-implicitDefEqProofs[hc,hh0,hsl,o5])
    all_goals exact ab (by omega) hho (by simp[below,hhl])
   by_cases e1:s.els=[]
   case neg=>
    have hf:=hf (by simp[e1,o5])
    have:=pe e1
    simp-implicitDefEqProofs[hh0,hsl,o5,e1,this,hf]
   by_cases e2:s.body=[]
   ·simp-implicitDefEqProofs[hh0,hsl,o5,e1,e2]
    exact ab (by omega) hho (by simp[below,hhl])
   have:=pb e2
   by_cases o6:s.op=6
   ·simp-implicitDefEqProofs[hh0,hsl,o6,e1,e2,this]
    exact ab (by omega) hho (by simp[below,hhl])
   ·have hf:=hf (by simp[e2,o5,o6])
    simp-implicitDefEqProofs[hh0,hsl,o5,o6,e1,e2,this,hf]
  intro _ ⟨h7,h8⟩
  have hm:(match s.args with|a::_=>decide (a.op=13)|[]=>false)=decide (a0.op=13):=by rw[ha]
  have hhd:ip s=true:=by
   have h6':(!decide (s.op=8)||(match s.args with|a::_=>decide (a.op=13)|[]=>false))=true:=by rw[hm];exact h6
   have h2':decide (s.args.length=jH s.op)=true:=by simp[h2]
   simp only[ip,h1,h2',h3,h4,h5,h7,h8,Bool.and_self,Bool.and_true,Bool.true_and]
   exact h6'
  simp-implicitDefEqProofs[hh0,hw']
  refine(ihs s.body (by omega)).use ?_
  by_cases hB:s.body.all (aE d)=true
  ·simp only[hB]
   simp-implicitDefEqProofs[hh0,hw']
   refine(ihs s.els (by omega)).use ?_
   have hf:aE (d+1) s=s.els.all (aE d):=by simp only[aE,hhd,hB,Bool.true_and]
   rw[hf]
   generalize s.els.all (aE d)=w
   simp-implicitDefEqProofs[]
  ·have hB':s.body.all (aE d)=false:=by simpa using hB
   have hf:aE (d+1) s=false:=by simp only[aE,hB',Bool.and_false,Bool.false_and]
   simp only[hB',hf]
   simp-implicitDefEqProofs[]
theorem Bf(d:Nat)(hd:d≤1000)(l:List Sm)(hl:au l≤1099511627776):VF Tryz.prog G bF [.p (smL l),.p (.int .i64 d)] (.p (.bool (l.all (aE d)))):=
 qw G d hd (CL G d hd) l hl
theorem Hi(f:Fd)(hf:f.sz≤1099511627776):VF Tryz.prog G ln [.agg (f.cs.map .p)] (.p (.bool (jB f))):=by
 refine AC.go vX ?_
 have hsz:f.sz=1+f.name.length+(f.params.length+(f.params.map List.length).sum)+au f.body:=rfl
 have hps:∀x∈f.params,x.length≤(f.params.map List.length).sum:=fun x hx=>by
  have key:∀l:List (List UInt8),x∈l→x.length≤(l.map List.length).sum:=by
   intro l
   induction l with
   |nil=>intro h;cases h
   |cons y r ih=>
    intro h
    simp only[List.map_cons,List.sum_cons]
    rcases List.mem_cons.1 h with rfl|h
    ·omega
    ·have:=ih h;omega
  exact key _ hx
 have hst:aC f.params= .lst 1 (f.params.map fun w=>[.str w]):=rfl
 have h4:=Bf G 4 (by omega) f.body (by omega)
 simp-implicitDefEqProofs[qp,Fd.cs,hst]
 refine aq (fun i:Nat=>af 32 [(1,.ptr 0 3 0 0),(3,.p (.int .i64 i))]) (fun _=>[.row 3 [[.p (.str f.name),.p (aC f.params),.p (smL f.body)]]]) (fun i=>i≤f.params.length∧(f.params.take i).all az=true) (fun i=>f.params.length-i) 0 (by simp) (ab (by simp) (by simp[okO]) (by simp[below])) ?_
 intro i ⟨hi,hall⟩
 simp-implicitDefEqProofs[hst]
 refine aQ (fun h=>?_) (fun h=>?_)
 ·simp at h
  have hg:=List.getElem?_eq_getElem h
  have hl:=hps _ (List.getElem_mem h)
  simp-implicitDefEqProofs[hg]
  refine(pj G _ (by omega)).use ?_
  by_cases hk:az f.params[i]=true
  ·simp-implicitDefEqProofs[hk]
   exact⟨i+1,⟨h,by rw[←List.all_eq_true,di h,hall,hk];rfl⟩,by omega,ab (by simp) (by simp[okO]) (by simp[below,w1 (i:=i) (by omega)])⟩
  ·have hk':az f.params[i]=false:=by simpa using hk
   have hff:jB f=false:=by simp only[jB,kB h hk',Bool.false_and]
   simp-implicitDefEqProofs[hk',hff]
 ·simp at h
  have h1:f.params.all az=true:=fh h hall
  simp-implicitDefEqProofs[]
  refine(pj G _ (by omega)).use ?_
  by_cases h2:az f.name=true
  case neg=>
   have h2':az f.name=false:=by simpa using h2
   simp-implicitDefEqProofs[h2',jB]
  simp-implicitDefEqProofs[h2]
  by_cases h3:f.params.length≤3
  case neg=>
   have h3':¬(f.params.length:Int)≤3:=by omega
   simp-implicitDefEqProofs[h3,h3',jB]
  have h3':(f.params.length:Int)≤3:=by omega
  simp-implicitDefEqProofs[h3']
  refine h4.use ?_
  have hff:jB f=f.body.all (aE 4):=by simp only[jB,h1,h2,h3,decide_true,Bool.true_and]
  rw[hff]
  generalize f.body.all (aE 4)=w
  simp-implicitDefEqProofs[]
theorem Av{l:List Sm}{i:Nat}(h:i<l.length):da (l.take (i+1))=da (l.take i)+l[i].cnt:=by
 rw[ah h,me];simp[da]
theorem oR(l:List Sm)(i:Nat):da (l.take i)≤da l:=by
 have:=me (l.take i) (l.drop i)
 rw[List.take_append_drop] at this
 omega
def iV(l:List Sm)(i:Nat):Nat:=l.length+((l.take i).map fun s=>da s.body+da s.els).sum
theorem yF(l:List Sm):iV l 0=l.length:=by simp[iV]
theorem sT{l:List Sm}{i:Nat}(h:i<l.length):iV l (i+1)=iV l i+da l[i].body+da l[i].els:=by
 rw[iV,iV,ah h,List.map_append,List.sum_append]
 simp only[List.map_cons,List.map_nil,List.sum_cons,List.sum_nil]
 omega
theorem pR(l:List Sm):∀i,i≤l.length→da (l.take i)+l.length=i+iV l i
 |0,_=>by simp[da,iV]
 |i+1,h=>by
  have:=pR l i (by omega)
  rw[Av (by omega),sT (by omega),(l[i]'(by omega)).cnt_eq]
  omega
theorem Bm:∀(k:Nat) (l:List Sm),au l≤k→k≤1099511627776→VF Tryz.prog G dr [.p (smL l)] (.p (.int .i64 (da l))):=by
 intro k
 induction k with
 |zero=>
  intro l hl _
  have:l=[]:=by
   cases l with
   |nil=>rfl
   |cons s r=>have:=s.sz_eq;simp only[au] at hl;omega
  subst this
  refine AC.go lW ?_
  have hsl:smL []= .lst 5 []:=rfl
  simp-implicitDefEqProofs[iM,hsl]
  refine aq (fun _:Unit=>af 29 [(0,.p (.lst 5 [])),(3,.p (.int .i64 0)),(4,.p (.int .i64 0))]) (fun _=>[]) (fun _=>True) (fun _=>0) () trivial (aD rfl (by simp[below])) ?_
  intro _ _
  simp-implicitDefEqProofs[da]
 |succ k ih=>
  intro l hl hk
  have hll:=aZ l
  have hnz:=mu l
  refine AC.go lW ?_
  have hsl:∀l,smL l= .lst 5 (l.map Sm.cs):=fun _=>rfl
  simp-implicitDefEqProofs[iM,hsl]
  refine aq (fun i:Nat=>af 29 [(0,.p (smL l)),(3,.p (.int .i64 (iV l i))),(4,.p (.int .i64 i))]) (fun _=>[]) (fun i=>i≤l.length) (fun i=>l.length-i) 0 (by simp) (aD rfl (by simp[below,hsl,yF])) ?_
  intro i hi
  have k0:=pR l i hi
  have k2:=oR l i
  simp-implicitDefEqProofs[hsl]
  refine aQ (fun h=>?_) (fun h=>?_)
  ·simp at h
   have hg:=List.getElem?_eq_getElem h
   have hks:=aN (List.getElem_mem h)
   have hse:=l[i].sz_eq
   have hce:=l[i].cs_eq
   have k1:=sT h
   have k3:=pR l (i+1) h
   have k4:=oR l (i+1)
   simp-implicitDefEqProofs[hg,hce]
   refine(ih l[i].body (by omega) (by omega)).use ?_
   simp-implicitDefEqProofs[hg,hce]
   refine(ih l[i].els (by omega) (by omega)).use ?_
   have w1':IntKind.i64.wrap ((iV l i:Int)+(da l[i].body:Int))=(iV l i:Int)+(da l[i].body:Int):=al (by omega) (by omega)
   have w2':IntKind.i64.wrap ((iV l i:Int)+(da l[i].body:Int)+(da l[i].els:Int))=(iV l (i+1):Int):=by rw[al (by omega) (by omega)];omega
   simp-implicitDefEqProofs[w1',w2']
   exact⟨i+1,h,by omega,aD rfl (by simp[below,hsl,w1 (i:=i) (by omega)])⟩
  ·simp at h
   rw[List.take_of_length_le h] at k0
   have:iV l i=da l:=by omega
   simp-implicitDefEqProofs[this]
theorem dc:∀{l:List Fd} {f:Fd},f∈l→f.sz≤bL l
 |x::r,e,h=>by
  simp only[bL,List.map_cons,List.sum_cons]
  rcases List.mem_cons.1 h with rfl|h
  ·omega
  ·have:=dc h;simp only[bL] at this;omega
theorem br:∀l:List Fd,l.length≤bL l
 |[]=>Nat.le_refl _
 |e::r=>by have:=br r;simp only[bL,List.map_cons,List.sum_cons,List.length_cons] at this⊢;have:1≤e.sz:=by unfold Fd.sz;omega
           omega
def sx(l:List Fd)(i:Nat):Nat:=jR (l.take i)
theorem BW{l:List Fd}{i:Nat}(h:i<l.length):sx l (i+1)=sx l i+da l[i].body:=by
 rw[sx,sx,jR,jR,ah h,List.map_append,List.sum_append];simp
theorem vp:∀l:List Fd,jR l≤bL l
 |[]=>Nat.le_refl _
 |f::r=>by
  have:=vp r
  have h2:=mu f.body
  simp only[jR,bL,List.map_cons,List.sum_cons] at this⊢
  have:au f.body≤f.sz:=by unfold Fd.sz;omega
  omega
theorem EP(l:List Fd)(i:Nat):sx l i≤bL l:=by
 have h1:=vp (l.take i)
 have h2:bL (l.take i)≤bL l:=by
  have:bL l=bL (l.take i)+bL (l.drop i):=by
   rw[←List.take_append_drop i l,bL,List.map_append,List.sum_append];simp[bL]
  omega
 exact Nat.le_trans h1 h2
theorem FQ(l:List Fd)(hl:bL l≤1099511627776):VF Tryz.prog G kz [.agg [.p (fdL l)]] (.p (.int .i64 (jR l))):=by
 refine AC.go vl ?_
 have hll:=br l
 have hfl:∀l,fdL l= .lst 3 (l.map Fd.cs):=fun _=>rfl
 simp-implicitDefEqProofs[oq]
 refine aq (fun i:Nat=>af 22 [(1,.ptr 0 1 0 0),(3,.p (.int .i64 (sx l i))),(4,.p (.int .i64 i))]) (fun _=>[.row 1 [[.p (fdL l)]]]) (fun i=>i≤l.length) (fun i=>l.length-i) 0 (by simp) (ab (by simp) (by simp[okO]) (by simp[below,sx,jR])) ?_
 intro i hi
 simp-implicitDefEqProofs[hfl]
 refine aQ (fun h=>?_) (fun h=>?_)
 ·simp at h
  have hg:=List.getElem?_eq_getElem h
  have hks:=dc (List.getElem_mem h)
  have hse:l[i].sz=1+l[i].name.length+(l[i].params.length+(l[i].params.map List.length).sum)+au l[i].body:=rfl
  have hce:l[i].cs=[.str l[i].name,aC l[i].params,smL l[i].body]:=rfl
  have k1:=BW h
  have k2:=EP l (i+1)
  simp-implicitDefEqProofs[hg,hce]
  refine(Bm G _ l[i].body (Nat.le_refl _) (by omega)).use ?_
  have w1':IntKind.i64.wrap ((sx l i:Int)+(da l[i].body:Int))=(sx l (i+1):Int):=by rw[al (by omega) (by omega)];omega
  simp-implicitDefEqProofs[w1']
  exact⟨i+1,h,by omega,ab (by simp) (by simp[okO]) (by simp[below,w1 (i:=i) (by omega),hfl])⟩
 ·simp at h
  have:sx l i=jR l:=by rw[sx,List.take_of_length_le h]
  simp-implicitDefEqProofs[this]
theorem rM(l:List Fd)(hl:bL l≤1099511627776):VF Tryz.prog G dZ [.agg [.p (fdL l)]] (.p (.bool (ca l))):=by
 refine AC.go mL ?_
 have hfl:∀l,fdL l= .lst 3 (l.map Fd.cs):=fun _=>rfl
 have hall:=FQ G l hl
 have hll:=br l
 rw[hfl] at hall
 simp-implicitDefEqProofs[gO,hfl]
 refine(th G _ _ _).use ?_
 by_cases h1:inR l.length 1 4=true
 case neg=>simp-implicitDefEqProofs[h1,ca]
 simp-implicitDefEqProofs[h1]
 refine aq (fun i:Nat=>af 26 [(1,.ptr 0 1 0 0),(3,.p (.int .i64 i))]) (fun _=>[.row 1 [[.p (.lst 3 (l.map Fd.cs))]]]) (fun i=>i≤l.length∧(l.take i).all jB=true) (fun i=>l.length-i) 0 (by simp) (ab (by simp) (by simp[okO]) (by simp[below])) ?_
 intro i ⟨hi,ha⟩
 simp-implicitDefEqProofs[]
 refine aQ (fun h=>?_) (fun h=>?_)
 ·simp at h
  have hg:=List.getElem?_eq_getElem h
  have hks:=dc (List.getElem_mem h)
  simp-implicitDefEqProofs[hg]
  refine(Hi G l[i] (by omega)).use ?_
  by_cases hk:jB l[i]=true
  ·simp-implicitDefEqProofs[hk]
   exact⟨i+1,⟨h,by rw[←List.all_eq_true,di h,ha,hk];rfl⟩,by omega,ab (by simp) (by simp[okO]) (by simp[below,w1 (i:=i) (by omega)])⟩
  ·have hk':jB l[i]=false:=by simpa using hk
   have hff:ca l=false:=by simp only[ca,kB h hk',Bool.and_false,Bool.false_and]
   simp-implicitDefEqProofs[hk',hff]
 ·simp at h
  have h2:l.all jB=true:=fh h ha
  simp-implicitDefEqProofs[]
  refine hall.use ?_
  have hff:ca l=decide (jR l≤40):=by simp only[ca,h1,h2,Bool.true_and]
  simp-implicitDefEqProofs[hff]
  omega
end Go.Proofs.YtnjbhgpbgmpkcaaGreatDoor
namespace Go.Proofs.YtnjbhgpbgmpkcaaGreatDoor
open Go Go.Aw
set_option maxRecDepth 100000
set_option maxHeartbeats 4000000
theorem ex{n:Nat}{h h1:List AO}(e:h.take n=h1)(hn:h1.length=n)(ho:∀o∈h1,okO n o):Fst n h h1:=by
 have hl:n≤h.length:=by
  have:=congrArg List.length e
  rw[List.length_take] at this;omega
 have hg:∀(i:Nat) (o:AO),h1[i]?=some o→h[i]?=some o:=fun i o hi=>by
  have h2:=(List.getElem?_eq_some_iff.1 hi).1
  rw[←e,List.getElem?_take_of_lt (by omega)] at hi
  exact hi
 exact⟨hn,hl,fun i sz es hi=>⟨hg _ _ hi,ho _ (List.mem_of_getElem? hi)⟩,fun i es hi=>⟨hg _ _ hi,ho _ (List.mem_of_getElem? hi)⟩,fun i s p hi=>hg _ _ hi⟩
theorem uB:∀(r:List AO) (s:Nat),((fj (List.range' s r.length++[0]) (r++[.dead])).Nodup∧∀i∈fj (List.range' s r.length++[0]) (r++[.dead]),s≤i)
 |[],s=>by simp[fj]
 |o::r,s=>by
  obtain⟨h1,h2⟩:=uB r (s+1)
  rw[List.length_cons,List.range'_succ]
  cases o with
  |dead=>exact⟨h1,fun i hi=>Nat.le_of_succ_le (h2 i hi)⟩
  |_=>exact⟨List.nodup_cons.2 ⟨fun hm=>absurd (h2 _ hm) (by omega),h1⟩,fun i hi=>by
   rcases List.mem_cons.1 hi with rfl|hi
   ·exact Nat.le_refl _
   ·exact Nat.le_of_succ_le (h2 i hi)⟩
theorem wy{h:List AO}(hp:0<h.length)(ho:∀o∈h,okO h.length o):∀(r:List AO) (s:Nat),(∀i:Nat,r[i]?=h[s+i]?)→s+r.length=h.length→HW (List.range' 0 h.length++[0]) h (List.range' s r.length++[0]) (r++[.dead])
 |[],s,_,_=>bV hp bp
 |o::r,s,hr,hs=>by
  have hσ:∀i,i<h.length→(List.range' 0 h.length++[0]).getD i 0=i:=fun i hi=>by
   rw[List.getD_eq_getElem?_getD,List.getElem?_append_left (by simp;exact hi)];simp[hi]
  rw[List.length_cons,List.range'_succ]
  have h0:=hr 0
  have ih:=wy hp ho r (s+1) (fun i=>by have:=hr (i+1);rw[List.getElem?_cons_succ] at this;rw[this];congr 1;omega) (by simp at hs;omega)
  have hm:h[s]?=some o:=by simpa using h0.symm
  have hok:=ho o (List.mem_of_getElem? hm)
  cases o with
  |dead=>exact bV (List.getElem?_eq_some_iff.1 hm).1 ih
  |row sz es=>
   refine qZ (fun x hx=>aL (by simp) _ (hok x hx)) ?_ ih
   rw[hm,List.map_congr_left (g:=id) fun x hx=>jN hσ x (hok x hx)];simp
  |mp es=>exact⟨(List.getElem?_eq_some_iff.1 hm).1,⟨fun x hx=>by exact(aL (by simp) [x.2] ⟨hok x hx,trivial⟩).1,by rw[hm,List.map_congr_left (g:=id) fun x hx=>by rw[kC hσ x.2 (hok x hx)];rfl];simp⟩,ih⟩
  |sit s p=>exact⟨(List.getElem?_eq_some_iff.1 hm).1,hm,ih⟩
theorem xa{m:Nat}{l:List (Nat × AV)}:∀r:List (Nat × AV),FgA m l r→TWA (List.range' 0 m++[0]) l r
 |[],_=>trivial
 |x::r,⟨⟨a,c⟩,d⟩=>by
  have hσ:∀i,i<m→(List.range' 0 m++[0]).getD i 0=i:=fun i hi=>by
   rw[List.getD_eq_getElem?_getD,List.getElem?_append_left (by simp;exact hi)];simp[hi]
  exact⟨⟨(aL (by simp) [x.2] ⟨a,trivial⟩).1,by rw[kC hσ _ a,c]⟩,xa r d⟩
theorem xz{k n:Nat}{l l1:List (Nat × AV)}{h:List AO}(hk:k≤h.length)(hp:0<h.length)(ho:∀o∈h,okO h.length o)(H:FgA h.length l l1):Wk k (af n l) h (af n l1) (h++[.dead]):=by
 have hσ:∀i,i<h.length→(List.range' 0 h.length++[0]).getD i 0=i:=fun i hi=>by
  rw[List.getD_eq_getElem?_getD,List.getElem?_append_left (by simp;exact hi)];simp[hi]
 refine nW (List.range' 0 h.length++[0]) (by simp;omega) (fun i hi=>hσ i (by omega)) ?_ ?_ (xa _ H)
 ·exact(uB h 0).1
 ·exact wy hp ho h 0 (fun i=>by simp) (by simp)
theorem bx{n:Nat}{o:AO}(h:okO 0 o):okO n o:=by
 cases o with
 |dead=>trivial
 |sit=>trivial
 |row sz es=>exact fun e he=>aL (Nat.zero_le _) _ (h e he)
 |mp es=>exact fun e he=>(aL (Nat.zero_le n) [e.2] ⟨h e he,trivial⟩).1
def exR(l:List Ex):List (List AV):=l.map fun e=>e.cs.map .p
theorem ov(l:List Ex):∀x∈exR l,aj 0 x:=by
 intro x hx;obtain⟨m,_,rfl⟩:=List.mem_map.1 hx;simp
def smR(l:List Sm):List (List AV):=l.map fun s=>s.cs.map .p
theorem iF(l:List Sm):∀x∈smR l,aj 0 x:=by
 intro x hx;obtain⟨m,_,rfl⟩:=List.mem_map.1 hx;simp
theorem EV(l:List Sm):(smR l).length=l.length:=by simp[smR]
theorem Fi(a b:List Sm):smR (a++b)=smR a++smR b:=by simp[smR]
theorem Dp{h:List AO}{id:Nat}{l:List Sm}(e:h[id]?=some (.row 5 (smR l))):View h (.sl id 5 0 l.length) (smL l):=by
 have:=fw (h:=h) (id:=id) (sz:=5) (n:=l.length) (ls:=l.map Sm.cs) (by rw[e,smR];simp) (by simp) (fun x hx=>by obtain⟨b,_,rfl⟩:=List.mem_map.1 hx;exact b.cs_len)
 exact this
theorem bA{n:Nat}:∀o∈([]:List AO),okO n o:=fun o h=>by cases h
theorem ae{n:Nat}{a:AO}{l:List AO}(h:okO n a)(r:∀o∈l,okO n o):∀o∈a::l,okO n o:=fun o ho=>by
 rcases List.mem_cons.1 ho with rfl|ho
 ·exact h
 ·exact r o ho
end Go.Proofs.YtnjbhgpbgmpkcaaGreatDoor
namespace Go.Proofs.YtnjbhgpbgmpkcaaGreatDoor
open Go Go.Aw
set_option maxRecDepth 100000
set_option maxHeartbeats 4000000
variable (G:aw)
theorem lT(n lo hi:Int):VF Tryz.prog G cx [.p (.int .i64 n),.p (.int .i64 lo),.p (.int .i64 hi)] (.p (.bool (inR n lo hi))):=by
 refine AC.go tC ?_
 by_cases h:lo≤n
 ·simp-implicitDefEqProofs[jA,h,inR]
 ·simp-implicitDefEqProofs[jA,h,inR]
theorem Cq(n:Int):VF Tryz.prog G gn [.p (.int .i64 n)] (.p (.bool (inR n 0 255))):=by
 refine AC.go tB ?_
 simp-implicitDefEqProofs[mZ]
 refine(lT G _ _ _).use ?_
 simp-implicitDefEqProofs[]
theorem za(n:Int):VF Tryz.prog G cr [.p (.int .i32 n)] (.p (.bool (decide (n<97)||decide (122<n)))):=by
 refine AC.go qS ?_
 simp-implicitDefEqProofs[kI]
 by_cases h:n<97
 ·simp-implicitDefEqProofs[h]
 ·simp-implicitDefEqProofs[h]
theorem ET{s:List UInt8}{i:Nat}(h:i<s.length)(hl:cP s[i]=true):Utf8.decode ⟨⟨s⟩⟩ i=(s[i].toNat,1):=by
 simp only[cP,Bool.and_eq_true,decide_eq_true_eq] at hl
 exact decode_ascii ⟨⟨s⟩⟩ i h (by show(s[i]).toNat<128;omega)
theorem Bq{s:List UInt8}{i:Nat}(h:i<s.length)(hl:¬cP s[i]=true):(((Utf8.decode ⟨⟨s⟩⟩ i).1:Int)<97∨122<((Utf8.decode ⟨⟨s⟩⟩ i).1:Int)):=by
 rcases Nat.lt_or_ge s[i].toNat 128 with h1|h1
 ·rw[show Utf8.decode ⟨⟨s⟩⟩ i=(s[i].toNat,1) from decode_ascii ⟨⟨s⟩⟩ i h h1]
  simp[cP] at hl
  simp only
  omega
 ·have:=(decode_high ⟨⟨s⟩⟩ i h h1).1
  omega
theorem xg(s:List UInt8)(hb:s.length≤140737488355328):VF Tryz.prog G dX [.p (.str s),.fn (.func cr) [],.p (.bool true)] (.p (.int .i64 (vK s))):=by
 refine AC.go mM ?_
 simp-implicitDefEqProofs[gM]
 refine aq (fun i:Nat=>af 21 [(0,.p (.str s)),(1,.fn (.func cr) []),(2,.p (.bool true)),(10,.it 0)]) (fun i=>[.sit s i]) (fun i=>i≤s.length∧∀x∈s.take i,cP x=true) (fun i=>s.length-i) 0 (by simp) ?_ ?_
 ·exact ab (by simp) (by simp[okO]) (by simp[below,aj])
 ·intro i ⟨hi,hn⟩
  simp-implicitDefEqProofs[]
  by_cases h1:i<s.length
  ·have hg:=List.getElem?_eq_getElem h1
   simp-implicitDefEqProofs[h1]
   refine(za G _).use ?_
   by_cases hl:cP s[i]=true
   ·have hd:=ET h1 hl
    have hl':=hl
    simp only[cP,Bool.and_eq_true,decide_eq_true_eq] at hl'
    have e1:¬((s[i].toNat:Int)<97):=by omega
    have e2:¬(122<(s[i].toNat:Int)):=by omega
    rw[hd]
    simp-implicitDefEqProofs[e1,e2]
    refine⟨i+1,⟨h1,fun p hp=>?_⟩,by omega,ab (by simp) (by simp[okO]) (by simp[below,aj])⟩
    rw[ah h1] at hp
    rcases List.mem_append.1 hp with hp|hp
    ·exact hn p hp
    ·rw[List.mem_singleton.1 hp];exact hl
   ·have hd:=Bq h1 hl
    have hf:vK s=i:=by
     have:s.findIdx? (fun x=> !cP x)=some i:=by
      rw[List.findIdx?_eq_some_iff_getElem]
      exact⟨h1,by simpa using hl,fun j hj=>by have:=hn s[j] (List.mem_take_iff_getElem.2 ⟨j,by omega,rfl⟩);simpa using this⟩
     rw[vK,this]
    have hdb:(decide (((Utf8.decode ⟨⟨s⟩⟩ i).1:Int)<97)||decide (122<((Utf8.decode ⟨⟨s⟩⟩ i).1:Int)))=true:=by
     rcases hd with h|h<;>simp[h]
    rw[hdb]
    simp-implicitDefEqProofs[hf]
  ·have hn':=hn
   rw[List.take_of_length_le (by omega)] at hn'
   have hf:vK s= -1:=by
    have:s.findIdx? (fun x=> !cP x)=none:=by
     rw[List.findIdx?_eq_none_iff];intro x hx;simpa using hn' x hx
    rw[vK,this]
   simp-implicitDefEqProofs[h1,hf]
theorem wG(s:List UInt8)(hb:s.length≤140737488355328):VF Tryz.prog G dS [.p (.str s),.fn (.func cr) []] (.p (.int .i64 (vK s))):=by
 refine AC.go mO ?_
 simp-implicitDefEqProofs[gP]
 refine(xg G s hb).use ?_
 simp-implicitDefEqProofs[]
theorem Fa(L:List (List UInt8))(s:List UInt8)(hb:L.length≤1048576):VF Tryz.prog G dj [.p (aC L),.p (.str s)] (.p (.int .i64 (idxS L s))):=by
 refine AC.go kS ?_
 have hsl:aC L= .lst 1 (L.map fun w=>[.str w]):=rfl
 simp-implicitDefEqProofs[fL,hsl]
 refine aq (fun i:Nat=>af 19 [(0,.p (aC L)),(1,.p (.str s)),(6,.p (aC L)),(7,.p (.int .i64 L.length)),(8,.p (.int .i64 i))]) (fun _=>[]) (fun i=>i≤L.length∧∀w∈L.take i,w≠s) (fun i=>L.length-i) 0 (by simp) ?_ ?_
 ·exact aD rfl (by simp[below,aC])
 ·intro i ⟨hi,hn⟩
  simp-implicitDefEqProofs[hsl]
  refine aQ (fun h1=>?_) (fun h1=>?_)
  ·simp at h1
   have hg:=List.getElem?_eq_getElem h1
   by_cases he:L[i]=s
   ·have hf:idxS L s=i:=by
     have:L.findIdx? (fun w=>w==s)=some i:=by
      rw[List.findIdx?_eq_some_iff_getElem]
      exact⟨h1,by simpa using he,fun j hj=>by have:=hn L[j] (List.mem_take_iff_getElem.2 ⟨j,by omega,rfl⟩);simpa using this⟩
     rw[idxS,this]
    have he':s=L[i]:=he.symm
    simp-implicitDefEqProofs[hg,hf,←he']
   ·have he':¬s=L[i]:=fun e=>he e.symm
    simp-implicitDefEqProofs[hg,he']
    refine⟨i+1,⟨h1,fun p hp=>?_⟩,by omega,aD rfl ?_⟩
    ·rw[ah h1] at hp
     rcases List.mem_append.1 hp with hp|hp
     ·exact hn p hp
     ·rw[List.mem_singleton.1 hp];exact he
    ·simp[below,aC,w1 (i:=i) (by omega)]
  ·simp at h1
   rw[List.take_of_length_le h1] at hn
   have hf:idxS L s= -1:=by
    have:L.findIdx? (fun w=>w==s)=none:=by
     rw[List.findIdx?_eq_none_iff];intro x hx;simpa using hn x hx
    rw[idxS,this]
   simp-implicitDefEqProofs[hf]
theorem zl(L:List (List UInt8))(s:List UInt8)(hb:L.length≤1048576):VF Tryz.prog G cB [.p (aC L),.p (.str s)] (.p (.bool (L.contains s))):=by
 rw[←EJ]
 refine AC.go jt ?_
 simp-implicitDefEqProofs[eu]
 refine(Fa G L s hb).use ?_
 simp-implicitDefEqProofs[]
abbrev gE:Nat:=1
def fW:List PV:=keyW.map .str
variable (hK:G gE=some fW)
include hK
theorem lC(s:List UInt8)(hb:s.length≤140737488355328):VF Tryz.prog G be [.p (.str s)] (.p (.bool (az s))):=by
 refine AC.go tM ?_
 unfold gE at hK
 simp-implicitDefEqProofs[nb]
 refine(lT G _ _ _).use ?_
 have hr:inR (s.length:Int) 1 4=(decide (0<s.length)&&decide (s.length≤4)):=by
  unfold inR
  by_cases h1:0<s.length<;>by_cases h2:s.length≤4<;>simp[h1,h2]<;>omega
 rw[hr]
 have hi:az s=((decide (0<s.length)&&decide (s.length≤4))&&(s.all cP&& !keyW.contains s)):=by
  rw[az];cases s.all cP<;>cases decide (0<s.length)<;>cases decide (s.length≤4)<;>rfl
 cases h1:(decide (0<s.length)&&decide (s.length≤4)) with
 |false=>
  rw[hi,h1]
  simp-implicitDefEqProofs[]
 |true=>
  rw[hi,h1]
  simp-implicitDefEqProofs[]
  refine(wG G s hb).use ?_
  rw[←Ek]
  by_cases hn:vK s<0
  ·simp-implicitDefEqProofs[hn,hK,fW,keyW]
   refine(zl G keyW s (by decide)).use ?_
   simp-implicitDefEqProofs[keyW]
  ·simp-implicitDefEqProofs[hn]
end Go.Proofs.YtnjbhgpbgmpkcaaGreatDoor
