/-
  Contracts and lemmas that the card needs, part 4.
-/
import Derived.Test.YtnjbhgpbgmpkcaaGreatDoorRm3
import Derived.Test.YtnjbhgpbgmpkcaaGreatDoorRows
namespace Go.Proofs.YtnjbhgpbgmpkcaaGreatDoor
open Go Go.Aw
set_option maxRecDepth 100000
abbrev cm:FuncId:=76
abbrev jW:FuncId:=219
abbrev ki:FuncId:=212
abbrev mg:FuncId:=198
abbrev gb:FuncId:=213
abbrev mu:FuncId:=199
abbrev cT:FuncId:=173
abbrev iP:FuncId:=214
abbrev iS:FuncId:=222
abbrev fW:FuncId:=220
abbrev hY:FuncId:=221
abbrev ft:FuncId:=215
abbrev iM:FuncId:=200
abbrev ck:FuncId:=174
abbrev ny:FuncId:=154
abbrev eV:FuncId:=175
abbrev mh:FuncId:=155
abbrev dH:FuncId:=118
abbrev gB:FuncId:=111
abbrev aR:FuncId:=112
abbrev da:FuncId:=147
abbrev fZ:FuncId:=148
abbrev cw:FuncId:=113
abbrev cu:FuncId:=150
abbrev bI:FuncId:=149
abbrev bq:FuncId:=114
abbrev iY:FuncId:=70
abbrev fK:FuncId:=88
abbrev kQ:FuncId:=45
abbrev dw:FuncId:=26
abbrev jR:FuncId:=84
abbrev gi:FuncId:=134
abbrev dx:FuncId:=85
abbrev dJ:FuncId:=41
abbrev cd:FuncId:=74
abbrev fz:FuncId:=187
abbrev fL:FuncId:=159
abbrev eJ:FuncId:=188
abbrev dB:FuncId:=161
abbrev dr:FuncId:=160
abbrev bM:FuncId:=126
abbrev dm:FuncId:=162
abbrev cz:FuncId:=127
abbrev cy:FuncId:=189
abbrev bT:FuncId:=163
abbrev gf:FuncId:=190
abbrev iL:FuncId:=217
abbrev gI:FuncId:=218
abbrev eu:FuncId:=207
abbrev fw:FuncId:=191
abbrev iR:FuncId:=165
abbrev cX:FuncId:=164
abbrev cZ:FuncId:=129
abbrev dy:FuncId:=100
abbrev fh:FuncId:=135
abbrev gM:FuncId:=86
abbrev bE:FuncId:=128
abbrev cK:FuncId:=78
abbrev bv:FuncId:=99
abbrev fV:FuncId:=130
abbrev gA:FuncId:=79
abbrev ay:FuncId:=80
abbrev aK:FuncId:=60
abbrev fp:FuncId:=120
abbrev aP:FuncId:=108
abbrev bV:FuncId:=166
abbrev cL:FuncId:=131
abbrev aV:FuncId:=81
abbrev dI:FuncId:=32
abbrev iW:FuncId:=48
abbrev co:FuncId:=55
abbrev dg:FuncId:=58
abbrev eM:FuncId:=101
abbrev gm:FuncId:=57
abbrev cP:FuncId:=56
abbrev dt:FuncId:=61
abbrev cx:FuncId:=103
abbrev aL:FuncId:=105
abbrev bB:FuncId:=102
abbrev cI:FuncId:=63
abbrev bZ:FuncId:=146
abbrev cH:FuncId:=107
abbrev bF:FuncId:=106
abbrev bQ:FuncId:=104
abbrev bh:FuncId:=64
abbrev cb:FuncId:=62
abbrev bP:FuncId:=59
abbrev bK:FuncId:=24
abbrev dd:FuncId:=65
abbrev eI:FuncId:=67
abbrev aT:FuncId:=68
abbrev bm:FuncId:=109
abbrev cD:FuncId:=110
abbrev bR:FuncId:=69
abbrev dh:FuncId:=66
abbrev dK:FuncId:=25
abbrev iE:FuncId:=22
abbrev kq:FuncId:=52
abbrev af:FuncId:=54
abbrev aq:FuncId:=73
abbrev aG:FuncId:=97
abbrev dE:FuncId:=170
abbrev be:FuncId:=171
abbrev aU:FuncId:=153
abbrev gn:FuncId:=211
abbrev cU:FuncId:=195
abbrev eO:FuncId:=196
abbrev gW:FuncId:=197
abbrev gR:FuncId:=172
abbrev aQ:FuncId:=152
abbrev gl:FuncId:=117
abbrev dC:FuncId:=72
abbrev fj:FuncId:=144
abbrev iN:FuncId:=143
abbrev kU:FuncId:=95
abbrev iO:FuncId:=145
abbrev dP:FuncId:=98
abbrev kW:FuncId:=96
abbrev kP:FuncId:=53
@[reducible] def oM(d s:Nat):CO:=⟨some d,none,.mov (.t s)⟩
@[reducible] def oL(d s:Nat):CO:=⟨some d,none,.ld none (.t s)⟩
@[reducible] def oF(d i s:Nat):CO:=⟨some d,none,.fldA i (.t s)⟩
@[reducible] def oN(d s:Nat):CO:=⟨some d,none,.nilck (.t s)⟩
@[reducible] def oS(d s:Nat):CO:=⟨none,none,.st 1 (.t d) (.t s)⟩
@[reducible] def oK(d n:Nat):CO:=⟨some d,none,.mov (.c (.p (.int .i64 n)))⟩
@[reducible] def oJ(d:Nat)(o:AI):CO:=⟨some d,none,o⟩
def mW:FK:=⟨15,[.t 6],
 .seq (.reg [oJ 6 (.mov (.c (.p (.bool false))))])
 (.seq (.reg [oM 7 0,
   oM 8 1,
   oJ 9 (.bin .geq (.t 7) (.t 8)),
   oM 10 9,
   ⟨(some 11),some (10,true),.mov (.t 0)⟩,
   ⟨(some 12),some (10,true),.mov (.t 2)⟩,
   ⟨(some 13),some (10,true),.bin .leq (.t 11) (.t 12)⟩,
   oJ 14 (.pick (.t 10) (.t 13) (.c (.p (.bool false)))),
   oM 6 14])
 (.ret))⟩
theorem yk:aj Tryz.prog cm=some mW:=by kernel_rfl
def mU:FK:=⟨18,[.t 4],
 .seq (.reg [oK 4 0])
 (.seq (.seq (.reg [oK 5 0])
 (.blk 0 (.loop (.seq (.seq (.reg [oM 6 5,
   oM 7 0,
   oJ 8 (.len true (.t 7)),
   oJ 9 (.bin .lss (.t 6) (.t 8))])
 (.cond (.t 9)
  (.skip)
  (.exit 0)))
 (.seq (.blk 1 (.seq (.reg [oM 12 0,
   oM 13 5,
   oJ 14 (.idxStr (.t 12) (.t 13)),
   oM 15 1,
   oJ 16 (.bin .eql (.t 14) (.t 15))])
 (.cond (.t 16)
  (.seq (.reg [oM 17 5,
    oM 4 17])
  (.ret))
  (.skip))))
 (.reg [oM 10 5,
   oJ 11 (.bin .add (.t 10) (.c (.p (.int .i64 1)))),
   oM 5 11]))))))
 (.seq (.reg [oJ 4 (.mov (.c (.p (.int .i64 (-1)))))])
 (.ret)))⟩
theorem uj:aj Tryz.prog jW=some mU:=by kernel_rfl
def oe:FK:=⟨28,[.t 2],
 .seq (.reg [oK 2 0])
 (.seq (.blk 0 (.seq (.reg [oM 4 0,
   oJ 5 (.bin .geq (.t 4) (.c (.p (.int .u8 97)))),
   oM 6 5,
   ⟨(some 7),some (6,true),.mov (.t 0)⟩,
   ⟨(some 8),some (6,true),.bin .leq (.t 7) (.c (.p (.int .u8 122)))⟩,
   oJ 9 (.pick (.t 6) (.t 8) (.c (.p (.bool false)))),
   oM 3 9])
 (.cond (.t 3)
  (.seq (.reg [oK 2 1])
  (.ret))
  (.seq (.reg [oM 11 0,
    oJ 12 (.bin .geq (.t 11) (.c (.p (.int .u8 48)))),
    oM 13 12,
    ⟨(some 14),some (13,true),.mov (.t 0)⟩,
    ⟨(some 15),some (13,true),.bin .leq (.t 14) (.c (.p (.int .u8 57)))⟩,
    oJ 16 (.pick (.t 13) (.t 15) (.c (.p (.bool false)))),
    oM 10 16])
  (.cond (.t 10)
   (.seq (.reg [oK 2 2])
   (.ret))
   (.seq (.reg [oM 18 0,
     oJ 19 (.call jW [(.c (.p (.str [40,41,123,125,59,44,43,45,42,47,37,60,61,38,33,64]))),(.t 18)]),
     oJ 20 (.bin .geq (.t 19) (.c (.p (.int .i64 0)))),
     oM 17 20])
   (.cond (.t 17)
    (.seq (.reg [oK 2 3])
    (.ret))
    (.seq (.reg [oM 22 0,
      oJ 23 (.bin .eql (.t 22) (.c (.p (.int .u8 32)))),
      oM 24 23,
      ⟨(some 25),some (24,false),.mov (.t 0)⟩,
      ⟨(some 26),some (24,false),.bin .eql (.t 25) (.c (.p (.int .u8 10)))⟩,
      oJ 27 (.pick (.t 24) (.c (.p (.bool true))) (.t 26)),
      oM 21 27])
    (.cond (.t 21)
     (.seq (.reg [oK 2 4])
     (.ret))
     (.skip))))))))))
 (.seq (.reg [oK 2 0])
 (.ret)))⟩
theorem uX:aj Tryz.prog ki=some oe:=by kernel_rfl
def rk:FK:=⟨21,[.t 4],
 .seq (.reg [oJ 4 (.mov (.c (.p (.bool false))))])
 (.seq (.seq (.reg [oK 5 0])
 (.blk 0 (.loop (.seq (.seq (.reg [oM 6 5,
   oM 7 0,
   oJ 8 (.len true (.t 7)),
   oJ 9 (.bin .lss (.t 6) (.t 8))])
 (.cond (.t 9)
  (.skip)
  (.exit 0)))
 (.seq (.blk 1 (.seq (.reg [oM 12 0,
   oM 13 5,
   oJ 14 (.idxStr (.t 12) (.t 13)),
   oJ 15 (.call ki [(.t 14)]),
   oM 16 1,
   oJ 17 (.bin .neq (.t 15) (.t 16))])
 (.cond (.t 17)
  (.seq (.reg [oJ 4 (.mov (.c (.p (.bool false))))])
  (.ret))
  (.skip))))
 (.reg [oM 10 5,
   oJ 11 (.bin .add (.t 10) (.c (.p (.int .i64 1)))),
   oM 5 11]))))))
 (.seq (.reg [oM 18 0,
   oJ 19 (.len true (.t 18)),
   oJ 20 (.bin .gtr (.t 19) (.c (.p (.int .i64 0)))),
   oM 4 20])
 (.ret)))⟩
theorem wZ:aj Tryz.prog mg=some rk:=by kernel_rfl
def mG:FK:=⟨2,[.t 0],
 .seq (.reg [oJ 0 (.mov (.c .nils))])
 (.seq (.reg [oJ 1 (.bsl 1 [(.p (.str []))] 9 [(0,1,(.c (.p (.str [102,110])))),(1,1,(.c (.p (.str [108,101,116])))),(2,1,(.c (.p (.str [115,97,121])))),(3,1,(.c (.p (.str [112,117,116])))),(4,1,(.c (.p (.str [105,102])))),(5,1,(.c (.p (.str [101,108,115,101])))),(6,1,(.c (.p (.str [108,111,111,112])))),(7,1,(.c (.p (.str [98,97,99,107])))),(8,1,(.c (.p (.str [100,111]))))]),
   oM 0 1])
 (.ret))⟩
theorem sT:aj Tryz.prog gb=some mG:=by kernel_rfl
def rq:FK:=⟨18,[.t 2],
 .seq (.reg [oJ 2 (.mov (.c (.p (.bool false))))])
 (.seq (.reg [oJ 5 (.call gb []),
   oM 3 5])
 (.seq (.seq (.reg [oK 4 0])
 (.blk 0 (.loop (.seq (.seq (.reg [oM 6 4,
   oM 7 3,
   oJ 8 (.len false (.t 7)),
   oJ 9 (.bin .lss (.t 6) (.t 8))])
 (.cond (.t 9)
  (.skip)
  (.exit 0)))
 (.seq (.blk 1 (.seq (.reg [oM 12 3,
   oM 13 4,
   oJ 14 (.idxS 1 (.t 12) (.t 13)),
   oL 15 14,
   oM 16 0,
   oJ 17 (.bins .eql (.t 15) (.t 16))])
 (.cond (.t 17)
  (.seq (.reg [oJ 2 (.mov (.c (.p (.bool true))))])
  (.ret))
  (.skip))))
 (.reg [oM 10 4,
   oJ 11 (.bin .add (.t 10) (.c (.p (.int .i64 1)))),
   oM 4 11]))))))
 (.seq (.reg [oJ 2 (.mov (.c (.p (.bool false))))])
 (.ret))))⟩
theorem xz:aj Tryz.prog mu=some rq:=by kernel_rfl
def pP:FK:=⟨15,[.t 2],
 .seq (.reg [oJ 2 (.mov (.c (.p (.bool false))))])
 (.seq (.reg [oM 3 0,
   oJ 4 (.call mg [(.t 3),(.c (.p (.int .i64 1)))]),
   oM 5 4,
   ⟨(some 6),some (5,true),.mov (.t 0)⟩,
   ⟨(some 7),some (5,true),.len true (.t 6)⟩,
   ⟨(some 8),some (5,true),.bin .leq (.t 7) (.c (.p (.int .i64 4)))⟩,
   oJ 9 (.pick (.t 5) (.t 8) (.c (.p (.bool false)))),
   oM 10 9,
   ⟨(some 11),some (10,true),.mov (.t 0)⟩,
   ⟨(some 12),some (10,true),.call mu [(.t 11)]⟩,
   ⟨(some 13),some (10,true),.not (.t 12)⟩,
   oJ 14 (.pick (.t 10) (.t 13) (.c (.p (.bool false)))),
   oM 2 14])
 (.ret))⟩
theorem wc:aj Tryz.prog cT=some pP:=by kernel_rfl
def lh:FK:=⟨5,[.t 2],
 .seq (.reg [oK 2 0])
 (.seq (.seq (.reg [oM 3 0,
   oJ 4 (.bin .eql (.t 3) (.c (.p (.int .i64 4))))])
 (.cond (.t 4)
  (.seq (.reg [oK 2 2])
  (.ret))
  (.skip)))
 (.seq (.reg [oK 2 1])
 (.ret)))⟩
theorem wn:aj Tryz.prog iP=some lh:=by kernel_rfl
def dA:FK:=⟨13,[.t 2,.t 3],
 .seq (.reg [oK 2 0,
  oK 3 0])
 (.seq (.seq (.reg [oM 4 0])
 (.blk 0 (.seq (.seq (.reg [oJ 6 (.bin .eql (.t 4) (.c (.p (.int .i64 1)))),
   oM 5 6])
 (.cond (.t 5)
  (.skip)
  (.reg [oJ 7 (.bin .eql (.t 4) (.c (.p (.int .i64 2)))),
    oM 5 7])))
 (.cond (.t 5)
  (.seq (.reg [oK 2 0,
    oK 3 0])
  (.ret))
  (.seq (.seq (.reg [oJ 9 (.bin .eql (.t 4) (.c (.p (.int .i64 11)))),
    oM 8 9])
  (.cond (.t 8)
   (.skip)
   (.reg [oJ 10 (.bin .eql (.t 4) (.c (.p (.int .i64 12)))),
     oM 8 10])))
  (.cond (.t 8)
   (.seq (.reg [oK 2 1,
     oK 3 1])
   (.ret))
   (.seq (.reg [oJ 12 (.bin .eql (.t 4) (.c (.p (.int .i64 13)))),
     oM 11 12])
   (.cond (.t 11)
    (.seq (.reg [oK 2 0,
      oK 3 3])
    (.ret))
    (.skip)))))))))
 (.seq (.reg [oK 2 2,
   oK 3 2])
 (.ret)))⟩
theorem vR:aj Tryz.prog iS=some dA:=by kernel_rfl
def F_spec_l2Form:FK:=⟨86,[.t 4],
 .seq (.reg [oJ 2 (.box 4 (.t 0)),
  oJ 4 (.mov (.c (.p (.bool false))))])
 (.seq (.reg [oF 10 0 2,
   oL 11 10,
   oJ 12 (.call iS [(.t 11)]),
   oM 9 12,
   oJ 13 (.ext 0 (.t 9)),
   oJ 14 (.ext 1 (.t 9)),
   oM 5 13,
   oM 6 14])
 (.seq (.seq (.reg [oM 15 1,
   oJ 16 (.bin .lss (.t 15) (.c (.p (.int .i64 1)))),
   oM 17 16,
   ⟨(some 18),some (17,false),.fldA 0 (.t 2)⟩,
   ⟨(some 19),some (17,false),.ld none (.t 18)⟩,
   ⟨(some 20),some (17,false),.call cm [(.t 19),(.c (.p (.int .i64 1))),(.c (.p (.int .i64 13)))]⟩,
   ⟨(some 21),some (17,false),.not (.t 20)⟩,
   oJ 22 (.pick (.t 17) (.c (.p (.bool true))) (.t 21)),
   oM 23 22,
   ⟨(some 24),some (23,false),.fldA 3 (.t 2)⟩,
   ⟨(some 25),some (23,false),.ld none (.t 24)⟩,
   ⟨(some 26),some (23,false),.len false (.t 25)⟩,
   ⟨(some 27),some (23,false),.mov (.t 5)⟩,
   ⟨(some 28),some (23,false),.mov (.t 6)⟩,
   ⟨(some 29),some (23,false),.call cm [(.t 26),(.t 27),(.t 28)]⟩,
   ⟨(some 30),some (23,false),.not (.t 29)⟩,
   oJ 31 (.pick (.t 23) (.c (.p (.bool true))) (.t 30))])
 (.cond (.t 31)
  (.seq (.reg [oJ 4 (.mov (.c (.p (.bool false))))])
  (.ret))
  (.skip)))
 (.seq (.reg [oF 32 0 2,
   oL 33 32,
   oJ 34 (.bin .eql (.t 33) (.c (.p (.int .i64 2)))),
   oM 35 34,
   ⟨(some 36),some (35,false),.fldA 0 (.t 2)⟩,
   ⟨(some 37),some (35,false),.ld none (.t 36)⟩,
   ⟨(some 38),some (35,false),.bin .eql (.t 37) (.c (.p (.int .i64 13)))⟩,
   oJ 39 (.pick (.t 35) (.c (.p (.bool true))) (.t 38)),
   oM 7 39])
 (.seq (.seq (.reg [oM 40 7,
   oF 41 2 2,
   oL 42 41,
   oJ 43 (.call cT [(.t 42)]),
   oJ 44 (.beq true (.t 40) (.t 43)),
   oM 45 44,
   ⟨(some 46),some (45,false),.mov (.t 7)⟩,
   ⟨(some 47),some (45,false),.not (.t 46)⟩,
   ⟨(some 48),some (45,false),.mov (.t 47)⟩,
   ⟨(some 49),some (48,true),.fldA 2 (.t 2)⟩,
   ⟨(some 50),some (48,true),.ld none (.t 49)⟩,
   ⟨(some 51),some (48,true),.bins .neq (.t 50) (.c (.p (.str [])))⟩,
   ⟨(some 52),some (45,false),.pick (.t 48) (.t 51) (.c (.p (.bool false)))⟩,
   oJ 53 (.pick (.t 45) (.c (.p (.bool true))) (.t 52)),
   oM 54 53,
   ⟨(some 55),some (54,false),.fldA 1 (.t 2)⟩,
   ⟨(some 56),some (54,false),.ld none (.t 55)⟩,
   ⟨(some 57),some (54,false),.call cm [(.t 56),(.c (.p (.int .i64 0))),(.c (.p (.int .i64 255)))]⟩,
   ⟨(some 58),some (54,false),.not (.t 57)⟩,
   oJ 59 (.pick (.t 54) (.c (.p (.bool true))) (.t 58)),
   oM 60 59,
   ⟨(some 61),some (60,false),.fldA 0 (.t 2)⟩,
   ⟨(some 62),some (60,false),.ld none (.t 61)⟩,
   ⟨(some 63),some (60,false),.bin .neq (.t 62) (.c (.p (.int .i64 1)))⟩,
   ⟨(some 64),some (60,false),.mov (.t 63)⟩,
   ⟨(some 65),some (64,true),.fldA 1 (.t 2)⟩,
   ⟨(some 66),some (64,true),.ld none (.t 65)⟩,
   ⟨(some 67),some (64,true),.bin .neq (.t 66) (.c (.p (.int .i64 0)))⟩,
   ⟨(some 68),some (60,false),.pick (.t 64) (.t 67) (.c (.p (.bool false)))⟩,
   oJ 69 (.pick (.t 60) (.c (.p (.bool true))) (.t 68))])
 (.cond (.t 69)
  (.seq (.reg [oJ 4 (.mov (.c (.p (.bool false))))])
  (.ret))
  (.skip)))
 (.seq (.seq (.reg [oK 8 0])
 (.blk 0 (.loop (.seq (.seq (.reg [oM 70 8,
   oF 71 3 2,
   oL 72 71,
   oJ 73 (.len false (.t 72)),
   oJ 74 (.bin .lss (.t 70) (.t 73))])
 (.cond (.t 74)
  (.skip)
  (.exit 0)))
 (.seq (.blk 1 (.seq (.reg [oF 77 3 2,
   oL 78 77,
   oM 79 8,
   oJ 80 (.idxS 4 (.t 78) (.t 79)),
   oJ 81 (.ld (some 4) (.t 80)),
   oM 82 1,
   oJ 83 (.bin .sub (.t 82) (.c (.p (.int .i64 1)))),
   oJ 84 (.call fW [(.t 81),(.t 83)]),
   oJ 85 (.not (.t 84))])
 (.cond (.t 85)
  (.seq (.reg [oJ 4 (.mov (.c (.p (.bool false))))])
  (.ret))
  (.skip))))
 (.reg [oM 75 8,
   oJ 76 (.bin .add (.t 75) (.c (.p (.int .i64 1)))),
   oM 8 76]))))))
 (.seq (.reg [oJ 4 (.mov (.c (.p (.bool true))))])
 (.ret)))))))⟩
theorem pu:aj Tryz.prog fW=some F_spec_l2Form:=by kernel_rfl
def ng:FK:=⟨21,[.t 2],
 .seq (.reg [oJ 1 (.box 4 (.t 0)),
  oK 2 0])
 (.seq (.reg [oK 3 1])
 (.seq (.seq (.reg [oK 4 0])
 (.blk 0 (.loop (.seq (.seq (.reg [oM 5 4,
   oF 6 3 1,
   oL 7 6,
   oJ 8 (.len false (.t 7)),
   oJ 9 (.bin .lss (.t 5) (.t 8))])
 (.cond (.t 9)
  (.skip)
  (.exit 0)))
 (.seq (.blk 1 (.reg [oM 12 3,
   oF 13 3 1,
   oL 14 13,
   oM 15 4,
   oJ 16 (.idxS 4 (.t 14) (.t 15)),
   oJ 17 (.ld (some 4) (.t 16)),
   oJ 18 (.call hY [(.t 17)]),
   oJ 19 (.bin .add (.t 12) (.t 18)),
   oM 3 19]))
 (.reg [oM 10 4,
   oJ 11 (.bin .add (.t 10) (.c (.p (.int .i64 1)))),
   oM 4 11]))))))
 (.seq (.reg [oM 20 3,
   oM 2 20])
 (.ret))))⟩
theorem vG:aj Tryz.prog hY=some ng:=by kernel_rfl
def lO:FK:=⟨10,[.t 2],
 .seq (.reg [oJ 1 (.box 4 (.t 0)),
  oJ 2 (.mov (.c (.p (.bool false))))])
 (.seq (.reg [oJ 3 (.ld (some 4) (.t 1)),
   oJ 4 (.call fW [(.t 3),(.c (.p (.int .i64 6)))]),
   oM 5 4,
   ⟨(some 6),some (5,true),.ld (some 4) (.t 1)⟩,
   ⟨(some 7),some (5,true),.call hY [(.t 6)]⟩,
   ⟨(some 8),some (5,true),.bin .leq (.t 7) (.c (.p (.int .i64 30)))⟩,
   oJ 9 (.pick (.t 5) (.t 8) (.c (.p (.bool false)))),
   oM 2 9])
 (.ret))⟩
theorem rY:aj Tryz.prog ft=some lO:=by kernel_rfl
def F_spec_l3Stmt:FK:=⟨108,[.t 4],
 .seq (.reg [oJ 2 (.box 5 (.t 0)),
  oJ 4 (.mov (.c (.p (.bool false))))])
 (.seq (.seq (.reg [oM 7 1,
   oJ 8 (.bin .lss (.t 7) (.c (.p (.int .i64 1)))),
   oM 9 8,
   ⟨(some 10),some (9,false),.fldA 0 (.t 2)⟩,
   ⟨(some 11),some (9,false),.ld none (.t 10)⟩,
   ⟨(some 12),some (9,false),.call cm [(.t 11),(.c (.p (.int .i64 1))),(.c (.p (.int .i64 8)))]⟩,
   ⟨(some 13),some (9,false),.not (.t 12)⟩,
   oJ 14 (.pick (.t 9) (.c (.p (.bool true))) (.t 13)),
   oM 15 14,
   ⟨(some 16),some (15,false),.fldA 2 (.t 2)⟩,
   ⟨(some 19),some (15,false),.fldA 0 (.t 2)⟩,
   ⟨(some 17),some (15,false),.ld none (.t 16)⟩,
   ⟨(some 18),some (15,false),.len false (.t 17)⟩,
   ⟨(some 20),some (15,false),.ld none (.t 19)⟩,
   ⟨(some 21),some (15,false),.qcall iP [(.t 20)]⟩,
   ⟨(some 22),some (15,false),.bin .neq (.t 18) (.t 21)⟩,
   oJ 23 (.pick (.t 15) (.c (.p (.bool true))) (.t 22))])
 (.cond (.t 23)
  (.seq (.reg [oJ 4 (.mov (.c (.p (.bool false))))])
  (.ret))
  (.skip)))
 (.seq (.reg [oF 24 0 2,
   oL 25 24,
   oJ 26 (.bin .eql (.t 25) (.c (.p (.int .i64 1)))),
   oM 27 26,
   ⟨(some 28),some (27,false),.fldA 0 (.t 2)⟩,
   ⟨(some 29),some (27,false),.ld none (.t 28)⟩,
   ⟨(some 30),some (27,false),.bin .eql (.t 29) (.c (.p (.int .i64 2)))⟩,
   oJ 31 (.pick (.t 27) (.c (.p (.bool true))) (.t 30)),
   oM 5 31])
 (.seq (.seq (.reg [oM 32 5,
   oF 33 1 2,
   oL 34 33,
   oJ 35 (.call cT [(.t 34)]),
   oJ 36 (.beq true (.t 32) (.t 35)),
   oM 37 36,
   ⟨(some 38),some (37,false),.mov (.t 5)⟩,
   ⟨(some 39),some (37,false),.not (.t 38)⟩,
   ⟨(some 40),some (37,false),.mov (.t 39)⟩,
   ⟨(some 41),some (40,true),.fldA 1 (.t 2)⟩,
   ⟨(some 42),some (40,true),.ld none (.t 41)⟩,
   ⟨(some 43),some (40,true),.bins .neq (.t 42) (.c (.p (.str [])))⟩,
   ⟨(some 44),some (37,false),.pick (.t 40) (.t 43) (.c (.p (.bool false)))⟩,
   oJ 45 (.pick (.t 37) (.c (.p (.bool true))) (.t 44))])
 (.cond (.t 45)
  (.seq (.reg [oJ 4 (.mov (.c (.p (.bool false))))])
  (.ret))
  (.skip)))
 (.seq (.seq (.reg [oK 6 0])
 (.blk 0 (.loop (.seq (.seq (.reg [oM 46 6,
   oF 47 2 2,
   oL 48 47,
   oJ 49 (.len false (.t 48)),
   oJ 50 (.bin .lss (.t 46) (.t 49))])
 (.cond (.t 50)
  (.skip)
  (.exit 0)))
 (.seq (.blk 1 (.seq (.reg [oF 53 2 2,
   oL 54 53,
   oM 55 6,
   oJ 56 (.idxS 4 (.t 54) (.t 55)),
   oJ 57 (.ld (some 4) (.t 56)),
   oJ 58 (.call ft [(.t 57)]),
   oJ 59 (.not (.t 58))])
 (.cond (.t 59)
  (.seq (.reg [oJ 4 (.mov (.c (.p (.bool false))))])
  (.ret))
  (.skip))))
 (.reg [oM 51 6,
   oJ 52 (.bin .add (.t 51) (.c (.p (.int .i64 1)))),
   oM 6 52]))))))
 (.seq (.seq (.reg [oF 60 0 2,
   oL 61 60,
   oJ 62 (.bin .eql (.t 61) (.c (.p (.int .i64 8)))),
   oM 63 62,
   ⟨(some 64),some (63,true),.fldA 2 (.t 2)⟩,
   ⟨(some 65),some (63,true),.ld none (.t 64)⟩,
   ⟨(some 66),some (63,true),.idxS 4 (.t 65) (.c (.p (.int .i64 0)))⟩,
   ⟨(some 67),some (63,true),.fldA 0 (.t 66)⟩,
   ⟨(some 68),some (63,true),.ld none (.t 67)⟩,
   ⟨(some 69),some (63,true),.bin .neq (.t 68) (.c (.p (.int .i64 13)))⟩,
   oJ 70 (.pick (.t 63) (.t 69) (.c (.p (.bool false))))])
 (.cond (.t 70)
  (.seq (.reg [oJ 4 (.mov (.c (.p (.bool false))))])
  (.ret))
  (.skip)))
 (.seq (.seq (.reg [oF 71 4 2,
   oL 72 71,
   oJ 73 (.len false (.t 72)),
   oJ 74 (.bin .gtr (.t 73) (.c (.p (.int .i64 0)))),
   oM 75 74,
   ⟨(some 76),some (75,true),.fldA 0 (.t 2)⟩,
   ⟨(some 77),some (75,true),.ld none (.t 76)⟩,
   ⟨(some 78),some (75,true),.bin .neq (.t 77) (.c (.p (.int .i64 5)))⟩,
   oJ 79 (.pick (.t 75) (.t 78) (.c (.p (.bool false)))),
   oM 80 79,
   ⟨(some 81),some (80,false),.fldA 3 (.t 2)⟩,
   ⟨(some 82),some (80,false),.ld none (.t 81)⟩,
   ⟨(some 83),some (80,false),.len false (.t 82)⟩,
   ⟨(some 84),some (80,false),.bin .gtr (.t 83) (.c (.p (.int .i64 0)))⟩,
   ⟨(some 85),some (80,false),.mov (.t 84)⟩,
   ⟨(some 86),some (85,true),.fldA 0 (.t 2)⟩,
   ⟨(some 87),some (85,true),.ld none (.t 86)⟩,
   ⟨(some 88),some (85,true),.bin .neq (.t 87) (.c (.p (.int .i64 5)))⟩,
   ⟨(some 89),some (80,false),.pick (.t 85) (.t 88) (.c (.p (.bool false)))⟩,
   ⟨(some 90),some (80,false),.mov (.t 89)⟩,
   ⟨(some 91),some (90,true),.fldA 0 (.t 2)⟩,
   ⟨(some 92),some (90,true),.ld none (.t 91)⟩,
   ⟨(some 93),some (90,true),.bin .neq (.t 92) (.c (.p (.int .i64 6)))⟩,
   ⟨(some 94),some (80,false),.pick (.t 90) (.t 93) (.c (.p (.bool false)))⟩,
   oJ 95 (.pick (.t 80) (.c (.p (.bool true))) (.t 94))])
 (.cond (.t 95)
  (.seq (.reg [oJ 4 (.mov (.c (.p (.bool false))))])
  (.ret))
  (.skip)))
 (.seq (.reg [oF 96 3 2,
   oL 97 96,
   oM 98 1,
   oJ 99 (.bin .sub (.t 98) (.c (.p (.int .i64 1)))),
   oJ 100 (.call ck [(.t 97),(.t 99)]),
   oM 101 100,
   ⟨(some 102),some (101,true),.fldA 4 (.t 2)⟩,
   ⟨(some 103),some (101,true),.ld none (.t 102)⟩,
   ⟨(some 104),some (101,true),.mov (.t 1)⟩,
   ⟨(some 105),some (101,true),.bin .sub (.t 104) (.c (.p (.int .i64 1)))⟩,
   ⟨(some 106),some (101,true),.call ck [(.t 103),(.t 105)]⟩,
   oJ 107 (.pick (.t 101) (.t 106) (.c (.p (.bool false)))),
   oM 4 107])
 (.ret))))))))⟩
theorem pM:aj Tryz.prog iM=some F_spec_l3Stmt:=by kernel_rfl
def nX:FK:=⟨19,[.t 4],
 .seq (.reg [oJ 4 (.mov (.c (.p (.bool false))))])
 (.seq (.seq (.reg [oK 5 0])
 (.blk 0 (.loop (.seq (.seq (.reg [oM 6 5,
   oM 7 0,
   oJ 8 (.len false (.t 7)),
   oJ 9 (.bin .lss (.t 6) (.t 8))])
 (.cond (.t 9)
  (.skip)
  (.exit 0)))
 (.seq (.blk 1 (.seq (.reg [oM 12 0,
   oM 13 5,
   oJ 14 (.idxS 5 (.t 12) (.t 13)),
   oJ 15 (.ld (some 5) (.t 14)),
   oM 16 1,
   oJ 17 (.call iM [(.t 15),(.t 16)]),
   oJ 18 (.not (.t 17))])
 (.cond (.t 18)
  (.seq (.reg [oJ 4 (.mov (.c (.p (.bool false))))])
  (.ret))
  (.skip))))
 (.reg [oM 10 5,
   oJ 11 (.bin .add (.t 10) (.c (.p (.int .i64 1)))),
   oM 5 11]))))))
 (.seq (.reg [oJ 4 (.mov (.c (.p (.bool true))))])
 (.ret)))⟩
theorem uw:aj Tryz.prog ck=some nX:=by kernel_rfl
def sJ:FK:=⟨32,[.t 2],
 .seq (.reg [oJ 1 (.box 3 (.t 0)),
  oJ 2 (.mov (.c (.p (.bool false))))])
 (.seq (.seq (.reg [oK 3 0])
 (.blk 0 (.loop (.seq (.seq (.reg [oM 4 3,
   oF 5 1 1,
   oL 6 5,
   oJ 7 (.len false (.t 6)),
   oJ 8 (.bin .lss (.t 4) (.t 7))])
 (.cond (.t 8)
  (.skip)
  (.exit 0)))
 (.seq (.blk 1 (.seq (.reg [oF 11 1 1,
   oL 12 11,
   oM 13 3,
   oJ 14 (.idxS 1 (.t 12) (.t 13)),
   oL 15 14,
   oJ 16 (.call cT [(.t 15)]),
   oJ 17 (.not (.t 16))])
 (.cond (.t 17)
  (.seq (.reg [oJ 2 (.mov (.c (.p (.bool false))))])
  (.ret))
  (.skip))))
 (.reg [oM 9 3,
   oJ 10 (.bin .add (.t 9) (.c (.p (.int .i64 1)))),
   oM 3 10]))))))
 (.seq (.reg [oF 18 0 1,
   oL 19 18,
   oJ 20 (.call cT [(.t 19)]),
   oM 21 20,
   ⟨(some 22),some (21,true),.fldA 1 (.t 1)⟩,
   ⟨(some 23),some (21,true),.ld none (.t 22)⟩,
   ⟨(some 24),some (21,true),.len false (.t 23)⟩,
   ⟨(some 25),some (21,true),.bin .leq (.t 24) (.c (.p (.int .i64 3)))⟩,
   oJ 26 (.pick (.t 21) (.t 25) (.c (.p (.bool false)))),
   oM 27 26,
   ⟨(some 28),some (27,true),.fldA 2 (.t 1)⟩,
   ⟨(some 29),some (27,true),.ld none (.t 28)⟩,
   ⟨(some 30),some (27,true),.call ck [(.t 29),(.c (.p (.int .i64 4)))]⟩,
   oJ 31 (.pick (.t 27) (.t 30) (.c (.p (.bool false)))),
   oM 2 31])
 (.ret)))⟩
theorem zx:aj Tryz.prog ny=some sJ:=by kernel_rfl
def jK:FK:=⟨29,[.t 2],
 .seq (.reg [oK 2 0])
 (.seq (.reg [oM 5 0,
   oJ 6 (.len false (.t 5)),
   oM 3 6])
 (.seq (.seq (.reg [oK 4 0])
 (.blk 0 (.loop (.seq (.seq (.reg [oM 7 4,
   oM 8 0,
   oJ 9 (.len false (.t 8)),
   oJ 10 (.bin .lss (.t 7) (.t 9))])
 (.cond (.t 10)
  (.skip)
  (.exit 0)))
 (.seq (.blk 1 (.reg [oM 13 3,
   oM 14 0,
   oM 15 4,
   oJ 16 (.idxS 5 (.t 14) (.t 15)),
   oF 17 3 16,
   oM 21 0,
   oM 22 4,
   oJ 23 (.idxS 5 (.t 21) (.t 22)),
   oF 24 4 23,
   oL 18 17,
   oL 25 24,
   oJ 19 (.call eV [(.t 18)]),
   ⟨none,none,.chk none 24 25⟩,
   oJ 20 (.bin .add (.t 13) (.t 19)),
   oJ 26 (.call eV [(.t 25)]),
   oJ 27 (.bin .add (.t 20) (.t 26)),
   oM 3 27]))
 (.reg [oM 11 4,
   oJ 12 (.bin .add (.t 11) (.c (.p (.int .i64 1)))),
   oM 4 12]))))))
 (.seq (.reg [oM 28 3,
   oM 2 28])
 (.ret))))⟩
theorem nc:aj Tryz.prog eV=some jK:=by kernel_rfl
def ra:FK:=⟨22,[.t 2],
 .seq (.reg [oJ 1 (.box 1 (.t 0)),
  oK 2 0])
 (.seq (.reg [oK 3 0])
 (.seq (.seq (.reg [oK 4 0])
 (.blk 0 (.loop (.seq (.seq (.reg [oM 5 4,
   oF 6 0 1,
   oL 7 6,
   oJ 8 (.len false (.t 7)),
   oJ 9 (.bin .lss (.t 5) (.t 8))])
 (.cond (.t 9)
  (.skip)
  (.exit 0)))
 (.seq (.blk 1 (.reg [oM 12 3,
   oF 13 0 1,
   oL 14 13,
   oM 15 4,
   oJ 16 (.idxS 3 (.t 14) (.t 15)),
   oF 17 2 16,
   oL 18 17,
   oJ 19 (.call eV [(.t 18)]),
   oJ 20 (.bin .add (.t 12) (.t 19)),
   oM 3 20]))
 (.reg [oM 10 4,
   oJ 11 (.bin .add (.t 10) (.c (.p (.int .i64 1)))),
   oM 4 11]))))))
 (.seq (.reg [oM 21 3,
   oM 2 21])
 (.ret))))⟩
theorem xT:aj Tryz.prog mh=some ra:=by kernel_rfl
def jw:FK:=⟨26,[.t 2],
 .seq (.reg [oJ 1 (.box 1 (.t 0)),
  oJ 2 (.mov (.c (.p (.bool false))))])
 (.seq (.seq (.reg [oF 4 0 1,
   oL 5 4,
   oJ 6 (.len false (.t 5)),
   oJ 7 (.call cm [(.t 6),(.c (.p (.int .i64 1))),(.c (.p (.int .i64 4)))]),
   oJ 8 (.not (.t 7))])
 (.cond (.t 8)
  (.seq (.reg [oJ 2 (.mov (.c (.p (.bool false))))])
  (.ret))
  (.skip)))
 (.seq (.seq (.reg [oK 3 0])
 (.blk 0 (.loop (.seq (.seq (.reg [oM 9 3,
   oF 10 0 1,
   oL 11 10,
   oJ 12 (.len false (.t 11)),
   oJ 13 (.bin .lss (.t 9) (.t 12))])
 (.cond (.t 13)
  (.skip)
  (.exit 0)))
 (.seq (.blk 1 (.seq (.reg [oF 16 0 1,
   oL 17 16,
   oM 18 3,
   oJ 19 (.idxS 3 (.t 17) (.t 18)),
   oJ 20 (.ld (some 3) (.t 19)),
   oJ 21 (.call ny [(.t 20)]),
   oJ 22 (.not (.t 21))])
 (.cond (.t 22)
  (.seq (.reg [oJ 2 (.mov (.c (.p (.bool false))))])
  (.ret))
  (.skip))))
 (.reg [oM 14 3,
   oJ 15 (.bin .add (.t 14) (.c (.p (.int .i64 1)))),
   oM 3 15]))))))
 (.seq (.reg [oJ 23 (.ld (some 1) (.t 1)),
   oJ 24 (.call mh [(.t 23)]),
   oJ 25 (.bin .leq (.t 24) (.c (.p (.int .i64 40)))),
   oM 2 25])
 (.ret))))⟩
theorem oQ:aj Tryz.prog dH=some jw:=by kernel_rfl
def sH:FK:=⟨22,[.t 4],
 .seq (.reg [oJ 2 (.box 1 (.t 0)),
  oK 4 0])
 (.seq (.seq (.reg [oK 5 0])
 (.blk 0 (.loop (.seq (.seq (.reg [oM 6 5,
   oF 7 0 2,
   oL 8 7,
   oJ 9 (.len false (.t 8)),
   oJ 10 (.bin .lss (.t 6) (.t 9))])
 (.cond (.t 10)
  (.skip)
  (.exit 0)))
 (.seq (.blk 1 (.seq (.reg [oF 13 0 2,
   oL 14 13,
   oM 15 5,
   oJ 16 (.idxS 3 (.t 14) (.t 15)),
   oF 17 0 16,
   oL 18 17,
   oM 19 1,
   oJ 20 (.bins .eql (.t 18) (.t 19))])
 (.cond (.t 20)
  (.seq (.reg [oM 21 5,
    oM 4 21])
  (.ret))
  (.skip))))
 (.reg [oM 11 5,
   oJ 12 (.bin .add (.t 11) (.c (.p (.int .i64 1)))),
   oM 5 12]))))))
 (.seq (.reg [oJ 4 (.mov (.c (.p (.int .i64 (-1)))))])
 (.ret)))⟩
theorem yB:aj Tryz.prog gB=some sH:=by kernel_rfl
def gv:FK:=⟨13,[],
 .seq (.reg [oM 4 0,
  oN 5 4,
  oF 6 4 5,
  oL 7 6,
  oJ 8 (.bin .eql (.t 7) (.c (.p (.int .i64 0))))])
 (.cond (.t 8)
  (.reg [oM 9 0,
    oM 10 1,
    oN 11 9,
    oF 12 4 11,
    oS 12 10])
  (.skip))⟩
theorem qb:aj Tryz.prog aR=some gv:=by kernel_rfl
def gx:FK:=⟨27,[.t 4],
 .seq (.reg [oK 4 0])
 (.seq (.seq (.reg [oM 6 0,
   oN 7 6,
   oF 8 2 7,
   oL 9 8,
   oJ 10 (.len false (.t 9)),
   oJ 11 (.bin .sub (.t 10) (.c (.p (.int .i64 1)))),
   oM 5 11])
 (.blk 0 (.loop (.seq (.seq (.reg [oM 12 5,
   oJ 13 (.bin .geq (.t 12) (.c (.p (.int .i64 0))))])
 (.cond (.t 13)
  (.skip)
  (.exit 0)))
 (.seq (.blk 1 (.seq (.reg [oM 16 0,
   oN 17 16,
   oF 18 2 17,
   oL 19 18,
   oM 20 5,
   oJ 21 (.idxS 3 (.t 19) (.t 20)),
   oF 22 0 21,
   oL 23 22,
   oM 24 1,
   oJ 25 (.bins .eql (.t 23) (.t 24))])
 (.cond (.t 25)
  (.seq (.reg [oM 26 5,
    oM 4 26])
  (.ret))
  (.skip))))
 (.reg [oM 14 5,
   oJ 15 (.bin .sub (.t 14) (.c (.p (.int .i64 1)))),
   oM 5 15]))))))
 (.seq (.reg [oJ 4 (.mov (.c (.p (.int .i64 (-1)))))])
 (.ret)))⟩
theorem qa:aj Tryz.prog da=some gx:=by kernel_rfl
def pL:FK:=⟨11,[.t 2],
 .seq (.reg [oJ 2 (.mov (.c (.p (.str []))))])
 (.seq (.reg [oM 4 0,
   oJ 5 (.bin .rem (.t 4) (.c (.p (.int .i64 26)))),
   oM 3 5])
 (.seq (.reg [oM 6 3,
   oM 7 3,
   oJ 8 (.bin .add (.t 7) (.c (.p (.int .i64 1)))),
   oJ 9 (.slStr (.c (.p (.str [97,98,99,100,101,102,103,104,105,106,107,108,109,110,111,112,113,114,115,116,117,118,119,120,121,122]))) (some (.t 6)) (some (.t 8))),
   oJ 10 (.bins .add (.c (.p (.str [118]))) (.t 9)),
   oM 2 10])
 (.ret)))⟩
theorem wo:aj Tryz.prog fZ=some pL:=by kernel_rfl
def F_spec_l4Walk_put:FK:=⟨57,[.t 6],
 .seq (.reg [oJ 6 (.mov (.c (.p (.str []))))])
 (.seq (.reg [oM 8 0,
   oM 9 1,
   oJ 10 (.call da [(.t 8),(.t 9)]),
   oM 7 10])
 (.seq (.seq (.reg [oM 11 7,
   oJ 12 (.bin .geq (.t 11) (.c (.p (.int .i64 0)))),
   oM 13 12,
   ⟨(some 14),some (13,true),.mov (.t 0)⟩,
   ⟨(some 15),some (13,true),.nilck (.t 14)⟩,
   ⟨(some 16),some (13,true),.fldA 2 (.t 15)⟩,
   ⟨(some 17),some (13,true),.ld none (.t 16)⟩,
   ⟨(some 18),some (13,true),.mov (.t 7)⟩,
   ⟨(some 19),some (13,true),.idxS 3 (.t 17) (.t 18)⟩,
   ⟨(some 20),some (13,true),.fldA 2 (.t 19)⟩,
   ⟨(some 21),some (13,true),.ld none (.t 20)⟩,
   ⟨(some 22),some (13,true),.mov (.t 2)⟩,
   ⟨(some 23),some (13,true),.bin .eql (.t 21) (.t 22)⟩,
   oJ 24 (.pick (.t 13) (.t 23) (.c (.p (.bool false))))])
 (.cond (.t 24)
  (.reg [oM 25 0,
    oJ 26 (.call aR [(.t 25),(.c (.p (.int .i64 2)))])])
  (.skip)))
 (.seq (.reg [oM 27 0,
   oM 28 0,
   oN 29 28,
   oF 30 2 29,
   oM 32 1,
   oM 33 0,
   oN 34 33,
   oF 35 3 34,
   oM 37 2,
   oL 31 30,
   oL 36 35,
   oJ 38 (.bld [(.p (.str [])),(.p (.int .i64 0)),(.p (.int .i64 0))] [(0,1,(.t 32)),(1,1,(.t 36)),(2,1,(.t 37))]),
   oJ 39 (.bslP 3 [(.p (.str [])),(.p (.int .i64 0)),(.p (.int .i64 0))] 1 [(0,3,(.t 38))]),
   oJ 40 (.app 3 32 (.t 31) (.t 39)),
   oN 41 27,
   oF 42 2 41,
   oS 42 40])
 (.seq (.reg [oM 43 0,
   oM 44 0,
   oN 45 44,
   oF 46 3 45,
   oL 47 46,
   oJ 48 (.bin .add (.t 47) (.c (.p (.int .i64 1)))),
   oN 49 43,
   oF 50 3 49,
   oS 50 48])
 (.seq (.reg [oM 51 0,
   oN 52 51,
   oF 53 3 52,
   oL 54 53,
   oJ 55 (.bin .sub (.t 54) (.c (.p (.int .i64 1)))),
   oJ 56 (.call fZ [(.t 55)]),
   oM 6 56])
 (.ret))))))⟩
theorem rp:aj Tryz.prog cw=some F_spec_l4Walk_put:=by kernel_rfl
def kL:FK:=⟨23,[.t 4],
 .seq (.reg [oJ 4 (.mov (.c (.p (.str []))))])
 (.seq (.reg [oM 6 0,
   oM 7 1,
   oJ 8 (.call da [(.t 6),(.t 7)]),
   oM 5 8])
 (.seq (.seq (.reg [oM 9 5,
   oJ 10 (.bin .lss (.t 9) (.c (.p (.int .i64 0))))])
 (.cond (.t 10)
  (.seq (.reg [oM 11 0,
    oJ 12 (.call aR [(.t 11),(.c (.p (.int .i64 3)))])])
  (.seq (.reg [oM 13 1,
    oM 4 13])
  (.ret)))
  (.skip)))
 (.seq (.reg [oM 14 0,
   oN 15 14,
   oF 16 2 15,
   oL 17 16,
   oM 18 5,
   oJ 19 (.idxS 3 (.t 17) (.t 18)),
   oF 20 1 19,
   oL 21 20,
   oJ 22 (.call fZ [(.t 21)]),
   oM 4 22])
 (.ret))))⟩
theorem qz:aj Tryz.prog cu=some kL:=by kernel_rfl
def F_spec_l4Walk_expr:FK:=⟨75,[.c 4 (some 4)],
 .seq (.reg [oJ 3 (.box 4 (.t 1)),
  oJ 4 (.alloc [(.p (.int .i64 0)),(.p (.int .i64 0)),(.p (.str [])),.nils])])
 (.seq (.seq (.reg [oF 8 0 3,
   oL 9 8,
   oJ 10 (.bin .eql (.t 9) (.c (.p (.int .i64 2))))])
 (.cond (.t 10)
  (.reg [oM 11 0,
    oF 12 2 3,
    oL 13 12,
    oJ 14 (.call cu [(.t 11),(.t 13)]),
    oF 15 2 3,
    oS 15 14])
  (.skip)))
 (.seq (.seq (.reg [oF 16 0 3,
   oL 17 16,
   oJ 18 (.bin .eql (.t 17) (.c (.p (.int .i64 13))))])
 (.cond (.t 18)
  (.seq (.reg [oM 19 0,
    oN 20 19,
    oF 21 0 20,
    oF 23 2 3,
    oJ 22 (.ld (some 1) (.t 21)),
    oL 24 23,
    oJ 25 (.call gB [(.t 22),(.t 24)]),
    oM 5 25])
  (.seq (.reg [oM 26 5,
    oJ 27 (.bin .lss (.t 26) (.c (.p (.int .i64 0)))),
    oM 28 27,
    ⟨(some 29),some (28,false),.mov (.t 5)⟩,
    ⟨(some 30),some (28,false),.mov (.t 0)⟩,
    ⟨(some 31),some (28,false),.nilck (.t 30)⟩,
    ⟨(some 32),some (28,false),.fldA 1 (.t 31)⟩,
    ⟨(some 33),some (28,false),.ld none (.t 32)⟩,
    ⟨(some 34),some (28,false),.bin .geq (.t 29) (.t 33)⟩,
    oJ 35 (.pick (.t 28) (.c (.p (.bool true))) (.t 34))])
  (.cond (.t 35)
   (.reg [oM 36 0,
     oJ 37 (.call aR [(.t 36),(.c (.p (.int .i64 4)))])])
   (.seq (.reg [oM 38 0,
     oN 39 38,
     oF 40 0 39,
     oF 41 0 40,
     oM 43 5,
     oF 48 3 3,
     oL 42 41,
     oJ 44 (.idxS 3 (.t 42) (.t 43)),
     oF 45 1 44,
     oL 46 45,
     oJ 47 (.len false (.t 46)),
     oL 49 48,
     oJ 50 (.len false (.t 49)),
     oJ 51 (.bin .neq (.t 47) (.t 50))])
   (.cond (.t 51)
    (.reg [oM 52 0,
      oJ 53 (.call aR [(.t 52),(.c (.p (.int .i64 5)))])])
    (.skip))))))
  (.skip)))
 (.seq (.reg [oJ 54 (.bsl 4 [(.p (.int .i64 0)),(.p (.int .i64 0)),(.p (.str [])),.nils] 0 []),
   oM 6 54])
 (.seq (.seq (.reg [oK 7 0])
 (.blk 0 (.loop (.seq (.seq (.reg [oM 55 7,
   oF 56 3 3,
   oL 57 56,
   oJ 58 (.len false (.t 57)),
   oJ 59 (.bin .lss (.t 55) (.t 58))])
 (.cond (.t 59)
  (.skip)
  (.exit 0)))
 (.seq (.blk 1 (.reg [oM 62 6,
   oM 63 0,
   oF 64 3 3,
   oL 65 64,
   oM 66 7,
   oJ 67 (.idxS 4 (.t 65) (.t 66)),
   oJ 68 (.ld (some 4) (.t 67)),
   oJ 69 (.call bI [(.t 63),(.t 68)]),
   oJ 70 (.bsl 4 [(.p (.int .i64 0)),(.p (.int .i64 0)),(.p (.str [])),.nils] 1 [(0,4,(.t 69))]),
   oJ 71 (.app 4 56 (.t 62) (.t 70)),
   oM 6 71]))
 (.reg [oM 60 7,
   oJ 61 (.bin .add (.t 60) (.c (.p (.int .i64 1)))),
   oM 7 61]))))))
 (.seq (.reg [oM 72 6,
   oF 73 3 3,
   oS 73 72])
 (.seq (.reg [oJ 74 (.ld (some 4) (.t 3)),
   ⟨none,none,.st 4 (.t 4) (.t 74)⟩])
 (.ret)))))))⟩
theorem qd:aj Tryz.prog bI=some F_spec_l4Walk_expr:=by kernel_rfl
def F_spec_l4Walk_stmts:FK:=⟨96,[.t 6],
 .seq (.reg [oJ 6 (.mov (.c .nils))])
 (.seq (.reg [oJ 13 (.bsl 5 [(.p (.int .i64 0)),(.p (.str [])),.nils,.nils,.nils] 0 []),
   oM 7 13])
 (.seq (.reg [oM 14 0,
   oN 15 14,
   oF 16 2 15,
   oL 17 16,
   oJ 18 (.len false (.t 17)),
   oM 8 18])
 (.seq (.seq (.reg [oK 9 0])
 (.blk 0 (.loop (.seq (.seq (.reg [oM 19 9,
   oM 20 1,
   oJ 21 (.len false (.t 20)),
   oJ 22 (.bin .lss (.t 19) (.t 21))])
 (.cond (.t 22)
  (.skip)
  (.exit 0)))
 (.seq (.blk 1 (.seq (.reg [oM 25 1,
   oM 26 9,
   oJ 27 (.idxS 5 (.t 25) (.t 26)),
   oJ 28 (.ld (some 5) (.t 27)),
   oJ 10 (.alloc [(.p (.int .i64 0)),(.p (.str [])),.nils,.nils,.nils]),
   ⟨none,none,.st 5 (.t 10) (.t 28)⟩])
 (.seq (.reg [oJ 29 (.bsl 4 [(.p (.int .i64 0)),(.p (.int .i64 0)),(.p (.str [])),.nils] 0 []),
   oM 11 29])
 (.seq (.seq (.reg [oK 12 0])
 (.blk 2 (.loop (.seq (.seq (.reg [oM 30 12,
   oF 31 2 10,
   oL 32 31,
   oJ 33 (.len false (.t 32)),
   oJ 34 (.bin .lss (.t 30) (.t 33))])
 (.cond (.t 34)
  (.skip)
  (.exit 2)))
 (.seq (.blk 3 (.reg [oM 37 11,
   oM 38 0,
   oF 39 2 10,
   oL 40 39,
   oM 41 12,
   oJ 42 (.idxS 4 (.t 40) (.t 41)),
   oJ 43 (.ld (some 4) (.t 42)),
   oJ 44 (.call bI [(.t 38),(.t 43)]),
   oJ 45 (.bsl 4 [(.p (.int .i64 0)),(.p (.int .i64 0)),(.p (.str [])),.nils] 1 [(0,4,(.t 44))]),
   oJ 46 (.app 4 56 (.t 37) (.t 45)),
   oM 11 46]))
 (.reg [oM 35 12,
   oJ 36 (.bin .add (.t 35) (.c (.p (.int .i64 1)))),
   oM 12 36]))))))
 (.seq (.reg [oM 47 11,
   oF 48 2 10,
   oS 48 47])
 (.seq (.seq (.reg [oF 49 0 10,
   oL 50 49,
   oJ 51 (.bin .eql (.t 50) (.c (.p (.int .i64 1))))])
 (.cond (.t 51)
  (.reg [oM 52 0,
    oF 53 1 10,
    oL 54 53,
    oM 55 2,
    oJ 56 (.call cw [(.t 52),(.t 54),(.t 55)]),
    oF 57 1 10,
    oS 57 56])
  (.skip)))
 (.seq (.seq (.reg [oF 58 0 10,
   oL 59 58,
   oJ 60 (.bin .eql (.t 59) (.c (.p (.int .i64 2))))])
 (.cond (.t 60)
  (.reg [oM 61 0,
    oF 62 1 10,
    oL 63 62,
    oJ 64 (.call cu [(.t 61),(.t 63)]),
    oF 65 1 10,
    oS 65 64])
  (.skip)))
 (.seq (.reg [oM 66 0,
   oF 67 3 10,
   oL 68 67,
   oM 69 2,
   oJ 70 (.bin .add (.t 69) (.c (.p (.int .i64 1)))),
   oJ 71 (.call bq [(.t 66),(.t 68),(.t 70)]),
   oF 72 3 10,
   oS 72 71])
 (.seq (.reg [oM 73 0,
   oF 74 4 10,
   oL 75 74,
   oM 76 2,
   oJ 77 (.bin .add (.t 76) (.c (.p (.int .i64 1)))),
   oJ 78 (.call bq [(.t 73),(.t 75),(.t 77)]),
   oF 79 4 10,
   oS 79 78])
 (.reg [oM 80 7,
   oJ 81 (.ld (some 5) (.t 10)),
   oJ 82 (.bsl 5 [(.p (.int .i64 0)),(.p (.str [])),.nils,.nils,.nils] 1 [(0,5,(.t 81))]),
   oJ 83 (.app 5 96 (.t 80) (.t 82)),
   oM 7 83]))))))))))
 (.reg [oM 23 9,
   oJ 24 (.bin .add (.t 23) (.c (.p (.int .i64 1)))),
   oM 9 24]))))))
 (.seq (.seq (.reg [oM 84 2,
   oJ 85 (.bin .gtr (.t 84) (.c (.p (.int .i64 0))))])
 (.cond (.t 85)
  (.reg [oM 86 0,
    oM 87 0,
    oN 88 87,
    oF 89 2 88,
    oL 90 89,
    oM 91 8,
    oJ 92 (.slS 3 (.t 90) none (some (.t 91))),
    oN 93 86,
    oF 94 2 93,
    oS 94 92])
  (.skip)))
 (.seq (.reg [oM 95 7,
   oM 6 95])
 (.ret))))))⟩
theorem po:aj Tryz.prog bq=some F_spec_l4Walk_stmts:=by kernel_rfl
def F_spec_l4Fn:FK:=⟨62,[.c 4 (some 3),.t 5,.t 6],
 .seq (.reg [oJ 2 (.box 1 (.t 0)),
  oJ 4 (.alloc [(.p (.str [])),.nils,.nils]),
  oK 5 0,
  oK 6 0])
 (.seq (.reg [oJ 11 (.ld (some 1) (.t 2)),
   oM 12 1,
   oJ 13 (.bld [.nils,(.p (.int .i64 0)),.nils,(.p (.int .i64 0)),(.p (.int .i64 0))] [(0,1,(.t 11)),(1,1,(.t 12))]),
   oJ 14 (.box 5 (.t 13)),
   oM 7 14])
 (.seq (.reg [oF 15 0 2,
   oL 16 15,
   oM 17 1,
   oJ 18 (.idxS 3 (.t 16) (.t 17)),
   oJ 19 (.ld (some 3) (.t 18)),
   oJ 8 (.alloc [(.p (.str [])),.nils,.nils]),
   ⟨none,none,.st 3 (.t 8) (.t 19)⟩])
 (.seq (.seq (.reg [oJ 20 (.ld (some 1) (.t 2)),
   oF 21 0 8,
   oL 22 21,
   oJ 23 (.call gB [(.t 20),(.t 22)]),
   oM 24 1,
   oJ 25 (.bin .neq (.t 23) (.t 24))])
 (.cond (.t 25)
  (.reg [oM 26 7,
    oJ 27 (.call aR [(.t 26),(.c (.p (.int .i64 2)))])])
  (.skip)))
 (.seq (.reg [oJ 28 (.bsl 1 [(.p (.str []))] 0 []),
   oM 9 28])
 (.seq (.seq (.reg [oK 10 0])
 (.blk 0 (.loop (.seq (.seq (.reg [oM 29 10,
   oF 30 1 8,
   oL 31 30,
   oJ 32 (.len false (.t 31)),
   oJ 33 (.bin .lss (.t 29) (.t 32))])
 (.cond (.t 33)
  (.skip)
  (.exit 0)))
 (.seq (.blk 1 (.reg [oM 36 9,
   oM 37 7,
   oF 38 1 8,
   oL 39 38,
   oM 40 10,
   oJ 41 (.idxS 1 (.t 39) (.t 40)),
   oL 42 41,
   oJ 43 (.call cw [(.t 37),(.t 42),(.c (.p (.int .i64 0)))]),
   oJ 44 (.bsl 1 [(.p (.str []))] 1 [(0,1,(.t 43))]),
   oJ 45 (.app 1 16 (.t 36) (.t 44)),
   oM 9 45]))
 (.reg [oM 34 10,
   oJ 35 (.bin .add (.t 34) (.c (.p (.int .i64 1)))),
   oM 10 35]))))))
 (.seq (.reg [oM 46 9,
   oF 47 1 8,
   oS 47 46])
 (.seq (.reg [oM 48 7,
   oF 49 2 8,
   oL 50 49,
   oJ 51 (.call bq [(.t 48),(.t 50),(.c (.p (.int .i64 0)))]),
   oF 52 2 8,
   oS 52 51])
 (.seq (.reg [oM 54 7,
   oN 55 54,
   oF 56 4 55,
   oM 58 7,
   oN 59 58,
   oF 60 3 59,
   oJ 53 (.ld (some 3) (.t 8)),
   oL 57 56,
   oL 61 60,
   ⟨none,none,.st 3 (.t 4) (.t 53)⟩,
   ⟨none,none,.chk none 56 57⟩,
   ⟨none,none,.chk none 60 61⟩,
   oM 5 57,
   oM 6 61])
 (.ret)))))))))⟩
theorem yX:aj Tryz.prog iY=some F_spec_l4Fn:=by kernel_rfl
def jy:FK:=⟨27,[.t 2],
 .seq (.reg [oJ 1 (.box 1 (.t 0)),
  oK 2 0])
 (.seq (.seq (.reg [oJ 7 (.ld (some 1) (.t 1)),
   oJ 8 (.call dH [(.t 7)]),
   oJ 9 (.not (.t 8))])
 (.cond (.t 9)
  (.seq (.reg [oK 2 1])
  (.ret))
  (.skip)))
 (.seq (.seq (.reg [oK 3 0])
 (.blk 0 (.loop (.seq (.seq (.reg [oM 10 3,
   oF 11 0 1,
   oL 12 11,
   oJ 13 (.len false (.t 12)),
   oJ 14 (.bin .lss (.t 10) (.t 13))])
 (.cond (.t 14)
  (.skip)
  (.exit 0)))
 (.seq (.blk 1 (.seq (.reg [oJ 18 (.ld (some 1) (.t 1)),
   oM 19 3,
   oJ 20 (.call iY [(.t 18),(.t 19)]),
   oM 17 20,
   oJ 21 (.ext 0 (.t 17)),
   oJ 22 (.ext 1 (.t 17)),
   oJ 23 (.ext 2 (.t 17)),
   oJ 4 (.alloc [(.p (.str [])),.nils,.nils]),
   ⟨none,none,.st 3 (.t 4) (.t 21)⟩,
   oM 5 22,
   oM 6 23])
 (.seq (.reg [oM 24 5,
   oJ 25 (.bin .neq (.t 24) (.c (.p (.int .i64 0))))])
 (.cond (.t 25)
  (.seq (.reg [oM 26 5,
    oM 2 26])
  (.ret))
  (.skip)))))
 (.reg [oM 15 3,
   oJ 16 (.bin .add (.t 15) (.c (.p (.int .i64 1)))),
   oM 3 16]))))))
 (.seq (.reg [oK 2 0])
 (.ret))))⟩
theorem pm:aj Tryz.prog fK=some jy:=by kernel_rfl
def pK:FK:=⟨6,[.t 2],
 .seq (.reg [oJ 1 (.box 1 (.t 0)),
  oJ 2 (.mov (.c (.p (.bool false))))])
 (.seq (.reg [oJ 3 (.ld (some 1) (.t 1)),
   oJ 4 (.call fK [(.t 3)]),
   oJ 5 (.bin .eql (.t 4) (.c (.p (.int .i64 0)))),
   oM 2 5])
 (.ret))⟩
theorem vV:aj Tryz.prog kQ=some pK:=by kernel_rfl
def jg:FK:=⟨38,[.c 2 (some 1),.t 3],
 .seq (.reg [oJ 1 (.box 1 (.t 0)),
  oJ 2 (.alloc [.nils]),
  oJ 3 (.mov (.c (.p (.bool false))))])
 (.seq (.seq (.reg [oJ 9 (.ld (some 1) (.t 1)),
   oJ 10 (.call kQ [(.t 9)]),
   oJ 11 (.not (.t 10))])
 (.cond (.t 11)
  (.seq (.reg [oJ 12 (.bld [.nils] []),
    oS 2 12,
    oJ 3 (.mov (.c (.p (.bool false))))])
  (.ret))
  (.skip)))
 (.seq (.reg [oJ 13 (.bld [.nils] []),
   oJ 4 (.alloc [.nils]),
   oS 4 13])
 (.seq (.seq (.reg [oK 5 0])
 (.blk 0 (.loop (.seq (.seq (.reg [oM 14 5,
   oF 15 0 1,
   oL 16 15,
   oJ 17 (.len false (.t 16)),
   oJ 18 (.bin .lss (.t 14) (.t 17))])
 (.cond (.t 18)
  (.skip)
  (.exit 0)))
 (.seq (.blk 1 (.seq (.reg [oJ 22 (.ld (some 1) (.t 1)),
   oM 23 5,
   oJ 24 (.call iY [(.t 22),(.t 23)]),
   oM 21 24,
   oJ 25 (.ext 0 (.t 21)),
   oJ 26 (.ext 1 (.t 21)),
   oJ 27 (.ext 2 (.t 21)),
   oJ 6 (.alloc [(.p (.str [])),.nils,.nils]),
   ⟨none,none,.st 3 (.t 6) (.t 25)⟩,
   oM 7 26,
   oM 8 27])
 (.seq (.seq (.reg [oM 28 8,
   oJ 29 (.bin .gtr (.t 28) (.c (.p (.int .i64 26))))])
 (.cond (.t 29)
  (.seq (.reg [oJ 30 (.bld [.nils] []),
    oS 2 30,
    oJ 3 (.mov (.c (.p (.bool false))))])
  (.ret))
  (.skip)))
 (.reg [oF 31 0 4,
   oL 32 31,
   oJ 33 (.ld (some 3) (.t 6)),
   oJ 34 (.bsl 3 [(.p (.str [])),.nils,.nils] 1 [(0,3,(.t 33))]),
   oJ 35 (.app 3 64 (.t 32) (.t 34)),
   oF 36 0 4,
   oS 36 35]))))
 (.reg [oM 19 5,
   oJ 20 (.bin .add (.t 19) (.c (.p (.int .i64 1)))),
   oM 5 20]))))))
 (.seq (.reg [oJ 37 (.ld (some 1) (.t 4)),
   oS 2 37,
   oJ 3 (.mov (.c (.p (.bool true))))])
 (.ret)))))⟩
theorem nM:aj Tryz.prog dw=some jg:=by kernel_rfl
def jL:FK:=⟨26,[.t 4],
 .seq (.reg [oJ 4 (.mov (.c (.p (.bool false))))])
 (.seq (.seq (.reg [oM 6 0,
   oJ 7 (.len false (.t 6)),
   oM 8 1,
   oJ 9 (.len false (.t 8)),
   oJ 10 (.bin .neq (.t 7) (.t 9))])
 (.cond (.t 10)
  (.seq (.reg [oJ 4 (.mov (.c (.p (.bool false))))])
  (.ret))
  (.skip)))
 (.seq (.seq (.reg [oK 5 0])
 (.blk 0 (.loop (.seq (.seq (.reg [oM 11 5,
   oM 12 0,
   oJ 13 (.len false (.t 12)),
   oJ 14 (.bin .lss (.t 11) (.t 13))])
 (.cond (.t 14)
  (.skip)
  (.exit 0)))
 (.seq (.blk 1 (.seq (.reg [oM 17 0,
   oM 18 5,
   oJ 19 (.idxS 1 (.t 17) (.t 18)),
   oM 21 1,
   oM 22 5,
   oJ 23 (.idxS 1 (.t 21) (.t 22)),
   oL 20 19,
   oL 24 23,
   oJ 25 (.bins .neq (.t 20) (.t 24))])
 (.cond (.t 25)
  (.seq (.reg [oJ 4 (.mov (.c (.p (.bool false))))])
  (.ret))
  (.skip))))
 (.reg [oM 15 5,
   oJ 16 (.bin .add (.t 15) (.c (.p (.int .i64 1)))),
   oM 5 16]))))))
 (.seq (.reg [oJ 4 (.mov (.c (.p (.bool true))))])
 (.ret))))⟩
theorem vt:aj Tryz.prog jR=some jL:=by kernel_rfl
def dq:FK:=⟨53,[.t 4],
 .seq (.reg [oJ 2 (.box 4 (.t 0)),
  oJ 3 (.box 4 (.t 1)),
  oJ 4 (.mov (.c (.p (.bool false))))])
 (.seq (.seq (.reg [oF 6 0 2,
   oL 7 6,
   oF 8 0 3,
   oL 9 8,
   oJ 10 (.bin .neq (.t 7) (.t 9)),
   oM 11 10,
   ⟨(some 12),some (11,false),.fldA 1 (.t 2)⟩,
   ⟨(some 13),some (11,false),.ld none (.t 12)⟩,
   ⟨(some 14),some (11,false),.fldA 1 (.t 3)⟩,
   ⟨(some 15),some (11,false),.ld none (.t 14)⟩,
   ⟨(some 16),some (11,false),.bin .neq (.t 13) (.t 15)⟩,
   oJ 17 (.pick (.t 11) (.c (.p (.bool true))) (.t 16)),
   oM 18 17,
   ⟨(some 19),some (18,false),.fldA 2 (.t 2)⟩,
   ⟨(some 20),some (18,false),.ld none (.t 19)⟩,
   ⟨(some 21),some (18,false),.fldA 2 (.t 3)⟩,
   ⟨(some 22),some (18,false),.ld none (.t 21)⟩,
   ⟨(some 23),some (18,false),.bins .neq (.t 20) (.t 22)⟩,
   oJ 24 (.pick (.t 18) (.c (.p (.bool true))) (.t 23)),
   oM 25 24,
   ⟨(some 26),some (25,false),.fldA 3 (.t 2)⟩,
   ⟨(some 27),some (25,false),.ld none (.t 26)⟩,
   ⟨(some 28),some (25,false),.len false (.t 27)⟩,
   ⟨(some 29),some (25,false),.fldA 3 (.t 3)⟩,
   ⟨(some 30),some (25,false),.ld none (.t 29)⟩,
   ⟨(some 31),some (25,false),.len false (.t 30)⟩,
   ⟨(some 32),some (25,false),.bin .neq (.t 28) (.t 31)⟩,
   oJ 33 (.pick (.t 25) (.c (.p (.bool true))) (.t 32))])
 (.cond (.t 33)
  (.seq (.reg [oJ 4 (.mov (.c (.p (.bool false))))])
  (.ret))
  (.skip)))
 (.seq (.seq (.reg [oK 5 0])
 (.blk 0 (.loop (.seq (.seq (.reg [oM 34 5,
   oF 35 3 2,
   oL 36 35,
   oJ 37 (.len false (.t 36)),
   oJ 38 (.bin .lss (.t 34) (.t 37))])
 (.cond (.t 38)
  (.skip)
  (.exit 0)))
 (.seq (.blk 1 (.seq (.reg [oF 41 3 2,
   oM 43 5,
   oF 46 3 3,
   oM 48 5,
   oL 42 41,
   oJ 44 (.idxS 4 (.t 42) (.t 43)),
   oJ 45 (.ld (some 4) (.t 44)),
   oL 47 46,
   oJ 49 (.idxS 4 (.t 47) (.t 48)),
   oJ 50 (.ld (some 4) (.t 49)),
   oJ 51 (.call gi [(.t 45),(.t 50)]),
   oJ 52 (.not (.t 51))])
 (.cond (.t 52)
  (.seq (.reg [oJ 4 (.mov (.c (.p (.bool false))))])
  (.ret))
  (.skip))))
 (.reg [oM 39 5,
   oJ 40 (.bin .add (.t 39) (.c (.p (.int .i64 1)))),
   oM 5 40]))))))
 (.seq (.reg [oJ 4 (.mov (.c (.p (.bool true))))])
 (.ret))))⟩
theorem sV:aj Tryz.prog gi=some dq:=by kernel_rfl
def gO:FK:=⟨111,[.t 4],
 .seq (.reg [oJ 4 (.mov (.c (.p (.bool false))))])
 (.seq (.seq (.reg [oM 7 0,
   oJ 8 (.len false (.t 7)),
   oM 9 1,
   oJ 10 (.len false (.t 9)),
   oJ 11 (.bin .neq (.t 8) (.t 10))])
 (.cond (.t 11)
  (.seq (.reg [oJ 4 (.mov (.c (.p (.bool false))))])
  (.ret))
  (.skip)))
 (.seq (.seq (.reg [oK 5 0])
 (.blk 0 (.loop (.seq (.seq (.reg [oM 12 5,
   oM 13 0,
   oJ 14 (.len false (.t 13)),
   oJ 15 (.bin .lss (.t 12) (.t 14))])
 (.cond (.t 15)
  (.skip)
  (.exit 0)))
 (.seq (.blk 1 (.seq (.seq (.reg [oM 18 0,
   oM 19 5,
   oJ 20 (.idxS 5 (.t 18) (.t 19)),
   oF 21 0 20,
   oM 23 1,
   oM 24 5,
   oJ 25 (.idxS 5 (.t 23) (.t 24)),
   oF 26 0 25,
   oL 22 21,
   oL 27 26,
   oJ 28 (.bin .neq (.t 22) (.t 27)),
   oM 29 28,
   ⟨(some 30),some (29,false),.mov (.t 0)⟩,
   ⟨(some 31),some (29,false),.mov (.t 5)⟩,
   ⟨(some 32),some (29,false),.idxS 5 (.t 30) (.t 31)⟩,
   ⟨(some 33),some (29,false),.fldA 1 (.t 32)⟩,
   ⟨(some 35),some (29,false),.mov (.t 1)⟩,
   ⟨(some 36),some (29,false),.mov (.t 5)⟩,
   ⟨(some 37),some (29,false),.idxS 5 (.t 35) (.t 36)⟩,
   ⟨(some 38),some (29,false),.fldA 1 (.t 37)⟩,
   ⟨(some 34),some (29,false),.ld none (.t 33)⟩,
   ⟨(some 39),some (29,false),.ld none (.t 38)⟩,
   ⟨(some 40),some (29,false),.bins .neq (.t 34) (.t 39)⟩,
   oJ 41 (.pick (.t 29) (.c (.p (.bool true))) (.t 40)),
   oM 42 41,
   ⟨(some 43),some (42,false),.mov (.t 0)⟩,
   ⟨(some 44),some (42,false),.mov (.t 5)⟩,
   ⟨(some 45),some (42,false),.idxS 5 (.t 43) (.t 44)⟩,
   ⟨(some 46),some (42,false),.fldA 2 (.t 45)⟩,
   ⟨(some 49),some (42,false),.mov (.t 1)⟩,
   ⟨(some 50),some (42,false),.mov (.t 5)⟩,
   ⟨(some 51),some (42,false),.idxS 5 (.t 49) (.t 50)⟩,
   ⟨(some 52),some (42,false),.fldA 2 (.t 51)⟩,
   ⟨(some 47),some (42,false),.ld none (.t 46)⟩,
   ⟨(some 48),some (42,false),.len false (.t 47)⟩,
   ⟨(some 53),some (42,false),.ld none (.t 52)⟩,
   ⟨(some 54),some (42,false),.len false (.t 53)⟩,
   ⟨(some 55),some (42,false),.bin .neq (.t 48) (.t 54)⟩,
   oJ 56 (.pick (.t 42) (.c (.p (.bool true))) (.t 55))])
 (.cond (.t 56)
  (.seq (.reg [oJ 4 (.mov (.c (.p (.bool false))))])
  (.ret))
  (.skip)))
 (.seq (.seq (.reg [oK 6 0])
 (.blk 2 (.loop (.seq (.seq (.reg [oM 57 6,
   oM 58 0,
   oM 59 5,
   oJ 60 (.idxS 5 (.t 58) (.t 59)),
   oF 61 2 60,
   oL 62 61,
   oJ 63 (.len false (.t 62)),
   oJ 64 (.bin .lss (.t 57) (.t 63))])
 (.cond (.t 64)
  (.skip)
  (.exit 2)))
 (.seq (.blk 3 (.seq (.reg [oM 67 0,
   oM 68 5,
   oJ 69 (.idxS 5 (.t 67) (.t 68)),
   oF 70 2 69,
   oM 72 6,
   oM 75 1,
   oM 76 5,
   oJ 77 (.idxS 5 (.t 75) (.t 76)),
   oF 78 2 77,
   oM 80 6,
   oL 71 70,
   oJ 73 (.idxS 4 (.t 71) (.t 72)),
   oJ 74 (.ld (some 4) (.t 73)),
   oL 79 78,
   oJ 81 (.idxS 4 (.t 79) (.t 80)),
   oJ 82 (.ld (some 4) (.t 81)),
   oJ 83 (.call gi [(.t 74),(.t 82)]),
   oJ 84 (.not (.t 83))])
 (.cond (.t 84)
  (.seq (.reg [oJ 4 (.mov (.c (.p (.bool false))))])
  (.ret))
  (.skip))))
 (.reg [oM 65 6,
   oJ 66 (.bin .add (.t 65) (.c (.p (.int .i64 1)))),
   oM 6 66]))))))
 (.seq (.reg [oM 85 0,
   oM 86 5,
   oJ 87 (.idxS 5 (.t 85) (.t 86)),
   oF 88 3 87,
   oM 90 1,
   oM 91 5,
   oJ 92 (.idxS 5 (.t 90) (.t 91)),
   oF 93 3 92,
   oL 89 88,
   oL 94 93,
   oJ 95 (.call dx [(.t 89),(.t 94)]),
   oJ 96 (.not (.t 95)),
   oM 97 96,
   ⟨(some 98),some (97,false),.mov (.t 0)⟩,
   ⟨(some 99),some (97,false),.mov (.t 5)⟩,
   ⟨(some 100),some (97,false),.idxS 5 (.t 98) (.t 99)⟩,
   ⟨(some 101),some (97,false),.fldA 4 (.t 100)⟩,
   ⟨(some 103),some (97,false),.mov (.t 1)⟩,
   ⟨(some 104),some (97,false),.mov (.t 5)⟩,
   ⟨(some 105),some (97,false),.idxS 5 (.t 103) (.t 104)⟩,
   ⟨(some 106),some (97,false),.fldA 4 (.t 105)⟩,
   ⟨(some 102),some (97,false),.ld none (.t 101)⟩,
   ⟨(some 107),some (97,false),.ld none (.t 106)⟩,
   ⟨(some 108),some (97,false),.call dx [(.t 102),(.t 107)]⟩,
   ⟨(some 109),some (97,false),.not (.t 108)⟩,
   oJ 110 (.pick (.t 97) (.c (.p (.bool true))) (.t 109))])
 (.cond (.t 110)
  (.seq (.reg [oJ 4 (.mov (.c (.p (.bool false))))])
  (.ret))
  (.skip))))))
 (.reg [oM 16 5,
   oJ 17 (.bin .add (.t 16) (.c (.p (.int .i64 1)))),
   oM 5 17]))))))
 (.seq (.reg [oJ 4 (.mov (.c (.p (.bool true))))])
 (.ret))))⟩
theorem qI:aj Tryz.prog dx=some gO:=by kernel_rfl
def fM:FK:=⟨65,[.t 4],
 .seq (.reg [oJ 2 (.box 1 (.t 0)),
  oJ 3 (.box 1 (.t 1)),
  oJ 4 (.mov (.c (.p (.bool false))))])
 (.seq (.seq (.reg [oF 6 0 2,
   oL 7 6,
   oJ 8 (.len false (.t 7)),
   oF 9 0 3,
   oL 10 9,
   oJ 11 (.len false (.t 10)),
   oJ 12 (.bin .neq (.t 8) (.t 11))])
 (.cond (.t 12)
  (.seq (.reg [oJ 4 (.mov (.c (.p (.bool false))))])
  (.ret))
  (.skip)))
 (.seq (.seq (.reg [oK 5 0])
 (.blk 0 (.loop (.seq (.seq (.reg [oM 13 5,
   oF 14 0 2,
   oL 15 14,
   oJ 16 (.len false (.t 15)),
   oJ 17 (.bin .lss (.t 13) (.t 16))])
 (.cond (.t 17)
  (.skip)
  (.exit 0)))
 (.seq (.blk 1 (.seq (.reg [oF 20 0 2,
   oM 22 5,
   oF 26 0 3,
   oM 28 5,
   oL 21 20,
   oJ 23 (.idxS 3 (.t 21) (.t 22)),
   oF 24 0 23,
   oL 25 24,
   oL 27 26,
   oJ 29 (.idxS 3 (.t 27) (.t 28)),
   oF 30 0 29,
   oL 31 30,
   oJ 32 (.bins .neq (.t 25) (.t 31)),
   oM 33 32,
   ⟨(some 34),some (33,false),.fldA 0 (.t 2)⟩,
   ⟨(some 36),some (33,false),.mov (.t 5)⟩,
   ⟨(some 40),some (33,false),.fldA 0 (.t 3)⟩,
   ⟨(some 42),some (33,false),.mov (.t 5)⟩,
   ⟨(some 35),some (33,false),.ld none (.t 34)⟩,
   ⟨(some 37),some (33,false),.idxS 3 (.t 35) (.t 36)⟩,
   ⟨(some 38),some (33,false),.fldA 1 (.t 37)⟩,
   ⟨(some 39),some (33,false),.ld none (.t 38)⟩,
   ⟨(some 41),some (33,false),.ld none (.t 40)⟩,
   ⟨(some 43),some (33,false),.idxS 3 (.t 41) (.t 42)⟩,
   ⟨(some 44),some (33,false),.fldA 1 (.t 43)⟩,
   ⟨(some 45),some (33,false),.ld none (.t 44)⟩,
   ⟨(some 46),some (33,false),.call jR [(.t 39),(.t 45)]⟩,
   ⟨(some 47),some (33,false),.not (.t 46)⟩,
   oJ 48 (.pick (.t 33) (.c (.p (.bool true))) (.t 47)),
   oM 49 48,
   ⟨(some 50),some (49,false),.fldA 0 (.t 2)⟩,
   ⟨(some 52),some (49,false),.mov (.t 5)⟩,
   ⟨(some 56),some (49,false),.fldA 0 (.t 3)⟩,
   ⟨(some 58),some (49,false),.mov (.t 5)⟩,
   ⟨(some 51),some (49,false),.ld none (.t 50)⟩,
   ⟨(some 53),some (49,false),.idxS 3 (.t 51) (.t 52)⟩,
   ⟨(some 54),some (49,false),.fldA 2 (.t 53)⟩,
   ⟨(some 55),some (49,false),.ld none (.t 54)⟩,
   ⟨(some 57),some (49,false),.ld none (.t 56)⟩,
   ⟨(some 59),some (49,false),.idxS 3 (.t 57) (.t 58)⟩,
   ⟨(some 60),some (49,false),.fldA 2 (.t 59)⟩,
   ⟨(some 61),some (49,false),.ld none (.t 60)⟩,
   ⟨(some 62),some (49,false),.call dx [(.t 55),(.t 61)]⟩,
   ⟨(some 63),some (49,false),.not (.t 62)⟩,
   oJ 64 (.pick (.t 49) (.c (.p (.bool true))) (.t 63))])
 (.cond (.t 64)
  (.seq (.reg [oJ 4 (.mov (.c (.p (.bool false))))])
  (.ret))
  (.skip))))
 (.reg [oM 18 5,
   oJ 19 (.bin .add (.t 18) (.c (.p (.int .i64 1)))),
   oM 5 19]))))))
 (.seq (.reg [oJ 4 (.mov (.c (.p (.bool true))))])
 (.ret))))⟩
theorem oX:aj Tryz.prog dJ=some fM:=by kernel_rfl
def kN:FK:=⟨15,[.t 6],
 .seq (.reg [oJ 6 (.mov (.c (.p (.bool false))))])
 (.seq (.reg [oM 7 1,
   oM 8 0,
   oJ 9 (.bin .leq (.t 7) (.t 8)),
   oM 10 9,
   ⟨(some 11),some (10,true),.mov (.t 0)⟩,
   ⟨(some 12),some (10,true),.mov (.t 2)⟩,
   ⟨(some 13),some (10,true),.bin .leq (.t 11) (.t 12)⟩,
   oJ 14 (.pick (.t 10) (.t 13) (.c (.p (.bool false)))),
   oM 6 14])
 (.ret))⟩
theorem vX:aj Tryz.prog cd=some kN:=by kernel_rfl
def jz:FK:=⟨21,[.t 6],
 .seq (.reg [oK 6 0])
 (.seq (.seq (.reg [oM 9 0,
   oJ 10 (.rngS (.t 9))])
 (.blk 0 (.loop (.seq (.reg [oJ 11 (.nxtS (.t 10)),
   oJ 12 (.ext 0 (.t 11))])
 (.seq (.cond (.t 12)
  (.skip)
  (.exit 0))
 (.blk 1 (.seq (.reg [oJ 13 (.ext 1 (.t 11)),
   oJ 14 (.ext 2 (.t 11)),
   oM 7 13,
   oM 8 14])
 (.seq (.reg [oM 15 1,
   oM 16 8,
   oJ 17 (.callv (.t 15) [(.t 16)]),
   oM 18 2,
   oJ 19 (.beq false (.t 17) (.t 18))])
 (.cond (.t 19)
  (.seq (.reg [oM 20 7,
    oM 6 20])
  (.ret))
  (.skip))))))))))
 (.seq (.reg [oJ 6 (.mov (.c (.p (.int .i64 (-1)))))])
 (.ret)))⟩
theorem oV:aj Tryz.prog fz=some jz:=by kernel_rfl
def js:FK:=⟨8,[.t 4],
 .seq (.reg [oK 4 0])
 (.seq (.reg [oM 5 0,
   oM 6 1,
   oJ 7 (.call fz [(.t 5),(.t 6),(.c (.p (.bool true)))]),
   oM 4 7])
 (.ret))⟩
theorem pi:aj Tryz.prog fL=some js:=by kernel_rfl
def ip:FK:=⟨19,[.t 4],
 .seq (.reg [oK 4 0])
 (.seq (.seq (.reg [oM 6 0,
   oJ 7 (.len false (.t 6)),
   oK 8 0])
 (.blk 0 (.loop (.seq (.reg [oJ 9 (.bin .lss (.t 8) (.t 7))])
 (.seq (.cond (.t 9)
  (.skip)
  (.exit 0))
 (.seq (.blk 1 (.seq (.reg [oM 10 8,
   oM 5 10])
 (.seq (.reg [oM 11 1,
   oM 12 0,
   oM 13 5,
   oJ 14 (.idxS 1 (.t 12) (.t 13)),
   oL 15 14,
   oJ 16 (.bins .eql (.t 11) (.t 15))])
 (.cond (.t 16)
  (.seq (.reg [oM 17 5,
    oM 4 17])
  (.ret))
  (.skip)))))
 (.reg [oJ 18 (.bin .add (.t 8) (.c (.p (.int .i64 1)))),
   oM 8 18])))))))
 (.seq (.reg [oJ 4 (.mov (.c (.p (.int .i64 (-1)))))])
 (.ret)))⟩
theorem mN:aj Tryz.prog eJ=some ip:=by kernel_rfl
def fU:FK:=⟨9,[.t 4],
 .seq (.reg [oJ 4 (.mov (.c (.p (.bool false))))])
 (.seq (.reg [oM 5 0,
   oM 6 1,
   oJ 7 (.call eJ [(.t 5),(.t 6)]),
   oJ 8 (.bin .geq (.t 7) (.c (.p (.int .i64 0)))),
   oM 4 8])
 (.ret))⟩
theorem lc:aj Tryz.prog dB=some fU:=by kernel_rfl
def mD:FK:=⟨9,[.t 2],
 .seq (.reg [oJ 2 (.mov (.c (.p (.bool false))))])
 (.seq (.reg [oM 3 0,
   oJ 4 (.bin .lss (.t 3) (.c (.p (.int .i32 97)))),
   oM 5 4,
   ⟨(some 6),some (5,false),.mov (.t 0)⟩,
   ⟨(some 7),some (5,false),.bin .gtr (.t 6) (.c (.p (.int .i32 122)))⟩,
   oJ 8 (.pick (.t 5) (.c (.p (.bool true))) (.t 7)),
   oM 2 8])
 (.ret))⟩
theorem th:aj Tryz.prog dr=some mD:=by kernel_rfl
def pH:FK:=⟨17,[.t 2],
 .seq (.reg [oJ 2 (.mov (.c (.p (.bool false))))])
 (.seq (.reg [oM 3 0,
   oJ 4 (.len true (.t 3)),
   oJ 5 (.call cd [(.t 4),(.c (.p (.int .i64 1))),(.c (.p (.int .i64 4)))]),
   oM 6 5,
   ⟨(some 7),some (6,true),.mov (.t 0)⟩,
   ⟨(some 8),some (6,true),.call fL [(.t 7),(.c (.fn (.func dr) []))]⟩,
   ⟨(some 9),some (6,true),.bin .lss (.t 8) (.c (.p (.int .i64 0)))⟩,
   oJ 10 (.pick (.t 6) (.t 9) (.c (.p (.bool false)))),
   oM 11 10,
   ⟨(some 12),some (11,true),.slA 9 1 (.c (.gp 1 0)) none none⟩,
   ⟨(some 13),some (11,true),.mov (.t 0)⟩,
   ⟨(some 14),some (11,true),.call dB [(.t 12),(.t 13)]⟩,
   ⟨(some 15),some (11,true),.not (.t 14)⟩,
   oJ 16 (.pick (.t 11) (.t 15) (.c (.p (.bool false)))),
   oM 2 16])
 (.ret))⟩
theorem wb:aj Tryz.prog bM=some pH:=by kernel_rfl
def fx:FK:=⟨19,[.t 4],
 .seq (.reg [oK 4 0])
 (.seq (.seq (.reg [oM 6 0,
   oJ 7 (.len false (.t 6)),
   oK 8 0])
 (.blk 0 (.loop (.seq (.reg [oJ 9 (.bin .lss (.t 8) (.t 7))])
 (.seq (.cond (.t 9)
  (.skip)
  (.exit 0))
 (.seq (.blk 1 (.seq (.reg [oM 10 8,
   oM 5 10])
 (.seq (.reg [oM 11 1,
   oM 12 0,
   oM 13 5,
   oJ 14 (.idxS 1 (.t 12) (.t 13)),
   oL 15 14,
   oJ 16 (.callv (.t 11) [(.t 15)])])
 (.cond (.t 16)
  (.seq (.reg [oM 17 5,
    oM 4 17])
  (.ret))
  (.skip)))))
 (.reg [oJ 18 (.bin .add (.t 8) (.c (.p (.int .i64 1)))),
   oM 8 18])))))))
 (.seq (.reg [oJ 4 (.mov (.c (.p (.int .i64 (-1)))))])
 (.ret)))⟩
theorem ku:aj Tryz.prog dm=some fx:=by kernel_rfl
def ey:FK:=⟨9,[.t 4],
 .seq (.reg [oJ 4 (.mov (.c (.p (.bool false))))])
 (.seq (.reg [oM 5 0,
   oM 6 1,
   oJ 7 (.call dm [(.t 5),(.t 6)]),
   oJ 8 (.bin .geq (.t 7) (.c (.p (.int .i64 0)))),
   oM 4 8])
 (.ret))⟩
theorem jo:aj Tryz.prog cz=some ey:=by kernel_rfl
def eA:FK:=⟨19,[.t 4],
 .seq (.reg [oK 4 0])
 (.seq (.seq (.reg [oM 6 0,
   oJ 7 (.len false (.t 6)),
   oK 8 0])
 (.blk 0 (.loop (.seq (.reg [oJ 9 (.bin .lss (.t 8) (.t 7))])
 (.seq (.cond (.t 9)
  (.skip)
  (.exit 0))
 (.seq (.blk 1 (.seq (.reg [oM 10 8,
   oM 5 10])
 (.seq (.reg [oM 11 1,
   oM 12 0,
   oM 13 5,
   oJ 14 (.idxS 5 (.t 12) (.t 13)),
   oJ 15 (.ld (some 5) (.t 14)),
   oJ 16 (.callv (.t 11) [(.t 15)])])
 (.cond (.t 16)
  (.seq (.reg [oM 17 5,
    oM 4 17])
  (.ret))
  (.skip)))))
 (.reg [oJ 18 (.bin .add (.t 8) (.c (.p (.int .i64 1)))),
   oM 8 18])))))))
 (.seq (.reg [oJ 4 (.mov (.c (.p (.int .i64 (-1)))))])
 (.ret)))⟩
theorem jm:aj Tryz.prog cy=some eA:=by kernel_rfl
def dF:FK:=⟨9,[.t 4],
 .seq (.reg [oJ 4 (.mov (.c (.p (.bool false))))])
 (.seq (.reg [oM 5 0,
   oM 6 1,
   oJ 7 (.call cy [(.t 5),(.t 6)]),
   oJ 8 (.bin .geq (.t 7) (.c (.p (.int .i64 0)))),
   oM 4 8])
 (.ret))⟩
theorem ik:aj Tryz.prog bT=some dF:=by kernel_rfl
def bx:FK:=⟨20,[.t 2,.t 3,.t 4,.t 5],
 .seq (.reg [oK 2 0,
  oJ 3 (.mov (.c (.p (.bool false)))),
  oJ 4 (.mov (.c (.p (.bool false)))),
  oJ 5 (.mov (.c (.p (.bool false))))])
 (.seq (.seq (.reg [oM 6 0])
 (.blk 0 (.seq (.seq (.reg [oJ 8 (.bin .eql (.t 6) (.c (.p (.int .i64 1)))),
   oM 7 8])
 (.cond (.t 7)
  (.skip)
  (.reg [oJ 9 (.bin .eql (.t 6) (.c (.p (.int .i64 2)))),
    oM 7 9])))
 (.cond (.t 7)
  (.seq (.reg [oK 2 1,
    oJ 3 (.mov (.c (.p (.bool true)))),
    oJ 4 (.mov (.c (.p (.bool false)))),
    oJ 5 (.mov (.c (.p (.bool false))))])
  (.ret))
  (.seq (.seq (.reg [oJ 11 (.bin .eql (.t 6) (.c (.p (.int .i64 3)))),
    oM 10 11])
  (.cond (.t 10)
   (.skip)
   (.seq (.reg [oJ 12 (.bin .eql (.t 6) (.c (.p (.int .i64 7)))),
     oM 10 12])
   (.cond (.t 10)
    (.skip)
    (.reg [oJ 13 (.bin .eql (.t 6) (.c (.p (.int .i64 8)))),
      oM 10 13])))))
  (.cond (.t 10)
   (.seq (.reg [oK 2 1,
     oJ 3 (.mov (.c (.p (.bool false)))),
     oJ 4 (.mov (.c (.p (.bool false)))),
     oJ 5 (.mov (.c (.p (.bool false))))])
   (.ret))
   (.seq (.reg [oJ 15 (.bin .eql (.t 6) (.c (.p (.int .i64 4)))),
     oM 14 15])
   (.cond (.t 14)
    (.seq (.reg [oK 2 2,
      oJ 3 (.mov (.c (.p (.bool false)))),
      oJ 4 (.mov (.c (.p (.bool false)))),
      oJ 5 (.mov (.c (.p (.bool false))))])
    (.ret))
    (.seq (.reg [oJ 17 (.bin .eql (.t 6) (.c (.p (.int .i64 5)))),
      oM 16 17])
    (.cond (.t 16)
     (.seq (.reg [oK 2 1,
       oJ 3 (.mov (.c (.p (.bool false)))),
       oJ 4 (.mov (.c (.p (.bool true)))),
       oJ 5 (.mov (.c (.p (.bool true))))])
     (.ret))
     (.seq (.reg [oJ 19 (.bin .eql (.t 6) (.c (.p (.int .i64 6)))),
       oM 18 19])
     (.cond (.t 18)
      (.seq (.reg [oK 2 1,
        oJ 3 (.mov (.c (.p (.bool false)))),
        oJ 4 (.mov (.c (.p (.bool true)))),
        oJ 5 (.mov (.c (.p (.bool false))))])
      (.ret))
      (.skip)))))))))))))
 (.seq (.reg [oJ 2 (.mov (.c (.p (.int .i64 (-1))))),
   oJ 3 (.mov (.c (.p (.bool false)))),
   oJ 4 (.mov (.c (.p (.bool false)))),
   oJ 5 (.mov (.c (.p (.bool false))))])
 (.ret)))⟩
theorem ta:aj Tryz.prog gf=some bx:=by kernel_rfl
def pA:FK:=⟨5,[.t 2],
 .seq (.reg [oJ 2 (.mov (.c (.p (.bool false))))])
 (.seq (.reg [oM 3 0,
   oJ 4 (.call cd [(.t 3),(.c (.p (.int .i64 0))),(.c (.p (.int .i64 255)))]),
   oM 2 4])
 (.ret))⟩
theorem wh:aj Tryz.prog iL=some pA:=by kernel_rfl
def eY:FK:=⟨20,[.t 2],
 .seq (.reg [oK 2 0])
 (.seq (.blk 0 (.seq (.reg [oJ 4 (.ld none (.c (.gp 2 0))),
   oM 5 0,
   oJ 6 (.lk 0 (.agg [(.p (.str [])),(.p (.int .i64 0))]) false (.t 4) (.t 5)),
   oJ 7 (.fldv 1 none (.t 6)),
   oJ 8 (.bin .gtr (.t 7) (.c (.p (.int .i64 0)))),
   oM 3 8])
 (.cond (.t 3)
  (.seq (.reg [oJ 9 (.ld none (.c (.gp 2 0))),
    oM 10 0,
    oJ 11 (.lk 0 (.agg [(.p (.str [])),(.p (.int .i64 0))]) false (.t 9) (.t 10)),
    oJ 12 (.fldv 1 none (.t 11)),
    oM 2 12])
  (.ret))
  (.seq (.reg [oM 14 0,
    oJ 15 (.bin .eql (.t 14) (.c (.p (.int .i64 11)))),
    oM 16 15,
    ⟨(some 17),some (16,false),.mov (.t 0)⟩,
    ⟨(some 18),some (16,false),.bin .eql (.t 17) (.c (.p (.int .i64 12)))⟩,
    oJ 19 (.pick (.t 16) (.c (.p (.bool true))) (.t 18)),
    oM 13 19])
  (.cond (.t 13)
   (.seq (.reg [oK 2 5])
   (.ret))
   (.skip))))))
 (.seq (.reg [oK 2 6])
 (.ret)))⟩
theorem uF:aj Tryz.prog gI=some eY:=by kernel_rfl
def F_impl_exprSize:FK:=⟨127,[.t 4,.t 5,.t 6],
 .seq (.reg [oJ 2 (.box 4 (.t 0)),
  oK 4 0,
  oK 5 0,
  oJ 6 (.mov (.c (.p (.bool false))))])
 (.seq (.reg [oK 7 0,
   oK 8 0])
 (.seq (.blk 0 (.seq (.reg [oF 17 0 2,
   oL 18 17,
   oJ 19 (.bin .eql (.t 18) (.c (.p (.int .i64 1)))),
   oM 16 19])
 (.cond (.t 16)
  (.seq (.reg [oF 20 1 2,
    oL 21 20,
    oJ 22 (.call iL [(.t 21)]),
    oJ 23 (.not (.t 22)),
    oM 24 23,
    ⟨(some 25),some (24,false),.fldA 2 (.t 2)⟩,
    ⟨(some 26),some (24,false),.ld none (.t 25)⟩,
    ⟨(some 27),some (24,false),.bins .neq (.t 26) (.c (.p (.str [])))⟩,
    oJ 28 (.pick (.t 24) (.c (.p (.bool true))) (.t 27))])
  (.cond (.t 28)
   (.seq (.reg [oK 4 0,
     oK 5 0,
     oJ 6 (.mov (.c (.p (.bool false))))])
   (.ret))
   (.skip)))
  (.seq (.reg [oF 30 0 2,
    oL 31 30,
    oJ 32 (.bin .eql (.t 31) (.c (.p (.int .i64 2)))),
    oM 29 32])
  (.cond (.t 29)
   (.seq (.reg [oF 33 2 2,
     oL 34 33,
     oJ 35 (.call bM [(.t 34)]),
     oJ 36 (.not (.t 35)),
     oM 37 36,
     ⟨(some 38),some (37,false),.fldA 1 (.t 2)⟩,
     ⟨(some 39),some (37,false),.ld none (.t 38)⟩,
     ⟨(some 40),some (37,false),.bin .neq (.t 39) (.c (.p (.int .i64 0)))⟩,
     oJ 41 (.pick (.t 37) (.c (.p (.bool true))) (.t 40))])
   (.cond (.t 41)
    (.seq (.reg [oK 4 0,
      oK 5 0,
      oJ 6 (.mov (.c (.p (.bool false))))])
    (.ret))
    (.skip)))
   (.seq (.reg [oF 43 0 2,
     oL 44 43,
     oJ 45 (.bin .eql (.t 44) (.c (.p (.int .i64 13)))),
     oM 42 45])
   (.cond (.t 42)
    (.seq (.reg [oK 8 3])
    (.seq (.reg [oF 46 2 2,
      oL 47 46,
      oJ 48 (.call bM [(.t 47)]),
      oJ 49 (.not (.t 48)),
      oM 50 49,
      ⟨(some 51),some (50,false),.fldA 1 (.t 2)⟩,
      ⟨(some 52),some (50,false),.ld none (.t 51)⟩,
      ⟨(some 53),some (50,false),.bin .neq (.t 52) (.c (.p (.int .i64 0)))⟩,
      oJ 54 (.pick (.t 50) (.c (.p (.bool true))) (.t 53))])
    (.cond (.t 54)
     (.seq (.reg [oK 4 0,
       oK 5 0,
       oJ 6 (.mov (.c (.p (.bool false))))])
     (.ret))
     (.skip))))
    (.seq (.reg [oJ 56 (.ld none (.c (.gp 2 0))),
      oF 57 0 2,
      oL 58 57,
      oJ 59 (.lk 0 (.agg [(.p (.str [])),(.p (.int .i64 0))]) false (.t 56) (.t 58)),
      oJ 60 (.fldv 1 none (.t 59)),
      oJ 61 (.bin .gtr (.t 60) (.c (.p (.int .i64 0)))),
      oM 55 61])
    (.cond (.t 55)
     (.reg [oK 7 2,
       oK 8 2])
     (.seq (.reg [oF 63 0 2,
       oL 64 63,
       oJ 65 (.bin .eql (.t 64) (.c (.p (.int .i64 11)))),
       oM 66 65,
       ⟨(some 67),some (66,false),.fldA 0 (.t 2)⟩,
       ⟨(some 68),some (66,false),.ld none (.t 67)⟩,
       ⟨(some 69),some (66,false),.bin .eql (.t 68) (.c (.p (.int .i64 12)))⟩,
       oJ 70 (.pick (.t 66) (.c (.p (.bool true))) (.t 69)),
       oM 62 70])
     (.cond (.t 62)
      (.reg [oK 7 1,
        oK 8 1])
      (.seq (.reg [oK 4 0,
        oK 5 0,
        oJ 6 (.mov (.c (.p (.bool false))))])
      (.ret)))))))))))))
 (.seq (.seq (.reg [oF 71 0 2,
   oL 72 71,
   oJ 73 (.call gI [(.t 72)]),
   oJ 74 (.bin .lss (.t 73) (.c (.p (.int .i64 6)))),
   oM 75 74,
   ⟨(some 76),some (75,true),.fldA 1 (.t 2)⟩,
   ⟨(some 77),some (75,true),.ld none (.t 76)⟩,
   ⟨(some 78),some (75,true),.bin .neq (.t 77) (.c (.p (.int .i64 0)))⟩,
   ⟨(some 79),some (75,true),.mov (.t 78)⟩,
   ⟨(some 80),some (79,false),.fldA 2 (.t 2)⟩,
   ⟨(some 81),some (79,false),.ld none (.t 80)⟩,
   ⟨(some 82),some (79,false),.bins .neq (.t 81) (.c (.p (.str [])))⟩,
   ⟨(some 83),some (75,true),.pick (.t 79) (.c (.p (.bool true))) (.t 82)⟩,
   oJ 84 (.pick (.t 75) (.t 83) (.c (.p (.bool false)))),
   oM 85 84,
   ⟨(some 86),some (85,false),.fldA 3 (.t 2)⟩,
   ⟨(some 87),some (85,false),.ld none (.t 86)⟩,
   ⟨(some 88),some (85,false),.len false (.t 87)⟩,
   ⟨(some 89),some (85,false),.mov (.t 7)⟩,
   ⟨(some 90),some (85,false),.mov (.t 8)⟩,
   ⟨(some 91),some (85,false),.call cd [(.t 88),(.t 89),(.t 90)]⟩,
   ⟨(some 92),some (85,false),.not (.t 91)⟩,
   oJ 93 (.pick (.t 85) (.c (.p (.bool true))) (.t 92)),
   oM 94 93,
   ⟨(some 95),some (94,false),.mov (.t 1)⟩,
   ⟨(some 96),some (94,false),.bin .lss (.t 95) (.c (.p (.int .i64 1)))⟩,
   oJ 97 (.pick (.t 94) (.c (.p (.bool true))) (.t 96))])
 (.cond (.t 97)
  (.seq (.reg [oK 4 0,
    oK 5 0,
    oJ 6 (.mov (.c (.p (.bool false))))])
  (.ret))
  (.skip)))
 (.seq (.reg [oK 9 1,
   oK 10 1])
 (.seq (.seq (.reg [oF 98 3 2,
   oL 99 98,
   oJ 100 (.len false (.t 99)),
   oK 101 0])
 (.blk 1 (.loop (.seq (.reg [oJ 102 (.bin .lss (.t 101) (.t 100))])
 (.seq (.cond (.t 102)
  (.skip)
  (.exit 1))
 (.seq (.blk 2 (.seq (.reg [oJ 103 (.idxS 4 (.t 99) (.t 101)),
   oJ 104 (.ld (some 4) (.t 103)),
   oJ 12 (.alloc [(.p (.int .i64 0)),(.p (.int .i64 0)),(.p (.str [])),.nils]),
   ⟨none,none,.st 4 (.t 12) (.t 104)⟩])
 (.seq (.reg [oJ 106 (.ld (some 4) (.t 12)),
   oM 107 1,
   oJ 108 (.bin .sub (.t 107) (.c (.p (.int .i64 1)))),
   oJ 109 (.call eu [(.t 106),(.t 108)]),
   oM 105 109,
   oJ 110 (.ext 0 (.t 105)),
   oJ 111 (.ext 1 (.t 105)),
   oJ 112 (.ext 2 (.t 105)),
   oM 13 110,
   oM 14 111,
   oM 15 112])
 (.seq (.seq (.reg [oM 113 15,
   oJ 114 (.not (.t 113))])
 (.cond (.t 114)
  (.seq (.reg [oK 4 0,
    oK 5 0,
    oJ 6 (.mov (.c (.p (.bool false))))])
  (.ret))
  (.skip)))
 (.seq (.reg [oM 115 9,
   oM 116 13,
   oJ 117 (.bin .add (.t 115) (.t 116)),
   oM 9 117])
 (.reg [oM 118 10,
   oM 119 14,
   oJ 120 (.bin .add (.t 119) (.c (.p (.int .i64 1)))),
   oJ 121 (.mx (.t 118) (.t 120)),
   oM 10 121]))))))
 (.reg [oJ 122 (.bin .add (.t 101) (.c (.p (.int .i64 1)))),
   oM 101 122])))))))
 (.seq (.reg [oM 123 9,
   oM 124 10,
   oM 125 9,
   oJ 126 (.bin .leq (.t 125) (.c (.p (.int .i64 30)))),
   oM 4 123,
   oM 5 124,
   oM 6 126])
 (.ret)))))))⟩
theorem sS:aj Tryz.prog eu=some F_impl_exprSize:=by kernel_rfl
def lT:FK:=⟨13,[.t 2],
 .seq (.reg [oJ 1 (.box 4 (.t 0)),
  oJ 2 (.mov (.c (.p (.bool false))))])
 (.seq (.reg [oJ 7 (.ld (some 4) (.t 1)),
   oJ 8 (.call eu [(.t 7),(.c (.p (.int .i64 6)))]),
   oM 6 8,
   oJ 9 (.ext 0 (.t 6)),
   oJ 10 (.ext 1 (.t 6)),
   oJ 11 (.ext 2 (.t 6)),
   oM 3 9,
   oM 4 10,
   oM 5 11])
 (.seq (.reg [oM 12 5,
   oM 2 12])
 (.ret)))⟩
theorem ss:aj Tryz.prog fw=some lT:=by kernel_rfl
def F_impl_stmtOk:FK:=⟨91,[.t 4],
 .seq (.reg [oJ 2 (.box 5 (.t 0)),
  oJ 4 (.mov (.c (.p (.bool false))))])
 (.seq (.reg [oF 12 0 2,
   oL 13 12,
   oJ 14 (.call gf [(.t 13)]),
   oM 11 14,
   oJ 15 (.ext 0 (.t 11)),
   oJ 16 (.ext 1 (.t 11)),
   oJ 17 (.ext 2 (.t 11)),
   oJ 18 (.ext 3 (.t 11)),
   oM 5 15,
   oM 6 16,
   oM 7 17,
   oM 8 18])
 (.seq (.blk 0 (.seq (.seq (.reg [oM 20 1,
   oJ 21 (.bin .gtr (.t 20) (.c (.p (.int .i64 4)))),
   oM 19 21])
 (.cond (.t 19)
  (.skip)
  (.seq (.reg [oF 22 2 2,
    oL 23 22,
    oJ 24 (.len false (.t 23)),
    oM 25 5,
    oJ 26 (.bin .neq (.t 24) (.t 25)),
    oM 19 26])
  (.cond (.t 19)
   (.skip)
   (.seq (.reg [oM 27 6,
     oM 28 27,
     ⟨(some 29),some (28,true),.fldA 1 (.t 2)⟩,
     ⟨(some 30),some (28,true),.ld none (.t 29)⟩,
     ⟨(some 31),some (28,true),.call bM [(.t 30)]⟩,
     ⟨(some 32),some (28,true),.not (.t 31)⟩,
     oJ 33 (.pick (.t 28) (.t 32) (.c (.p (.bool false)))),
     oM 19 33])
   (.cond (.t 19)
    (.skip)
    (.seq (.reg [oM 34 6,
      oJ 35 (.not (.t 34)),
      oM 36 35,
      ⟨(some 37),some (36,true),.fldA 1 (.t 2)⟩,
      ⟨(some 38),some (36,true),.ld none (.t 37)⟩,
      ⟨(some 39),some (36,true),.bins .neq (.t 38) (.c (.p (.str [])))⟩,
      oJ 40 (.pick (.t 36) (.t 39) (.c (.p (.bool false)))),
      oM 19 40])
    (.cond (.t 19)
     (.skip)
     (.seq (.reg [oM 41 7,
       oJ 42 (.not (.t 41)),
       oM 43 42,
       ⟨(some 44),some (43,true),.fldA 3 (.t 2)⟩,
       ⟨(some 45),some (43,true),.ld none (.t 44)⟩,
       ⟨(some 46),some (43,true),.len false (.t 45)⟩,
       ⟨(some 47),some (43,true),.bin .gtr (.t 46) (.c (.p (.int .i64 0)))⟩,
       oJ 48 (.pick (.t 43) (.t 47) (.c (.p (.bool false)))),
       oM 19 48])
     (.cond (.t 19)
      (.skip)
      (.seq (.reg [oM 49 8,
        oJ 50 (.not (.t 49)),
        oM 51 50,
        ⟨(some 52),some (51,true),.fldA 4 (.t 2)⟩,
        ⟨(some 53),some (51,true),.ld none (.t 52)⟩,
        ⟨(some 54),some (51,true),.len false (.t 53)⟩,
        ⟨(some 55),some (51,true),.bin .gtr (.t 54) (.c (.p (.int .i64 0)))⟩,
        oJ 56 (.pick (.t 51) (.t 55) (.c (.p (.bool false)))),
        oM 19 56])
      (.cond (.t 19)
       (.skip)
       (.reg [oF 57 0 2,
         oL 58 57,
         oJ 59 (.bin .eql (.t 58) (.c (.p (.int .i64 8)))),
         oM 60 59,
         ⟨(some 61),some (60,true),.fldA 2 (.t 2)⟩,
         ⟨(some 62),some (60,true),.ld none (.t 61)⟩,
         ⟨(some 63),some (60,true),.idxS 4 (.t 62) (.c (.p (.int .i64 0)))⟩,
         ⟨(some 64),some (60,true),.fldA 0 (.t 63)⟩,
         ⟨(some 65),some (60,true),.ld none (.t 64)⟩,
         ⟨(some 66),some (60,true),.bin .neq (.t 65) (.c (.p (.int .i64 13)))⟩,
         oJ 67 (.pick (.t 60) (.t 66) (.c (.p (.bool false)))),
         oM 19 67])))))))))))))
 (.cond (.t 19)
  (.seq (.reg [oJ 4 (.mov (.c (.p (.bool false))))])
  (.ret))
  (.skip))))
 (.seq (.seq (.reg [oF 68 2 2,
   oL 69 68,
   oJ 70 (.len false (.t 69)),
   oK 71 0])
 (.blk 1 (.loop (.seq (.reg [oJ 72 (.bin .lss (.t 71) (.t 70))])
 (.seq (.cond (.t 72)
  (.skip)
  (.exit 1))
 (.seq (.blk 2 (.seq (.reg [oJ 73 (.idxS 4 (.t 69) (.t 71)),
   oJ 74 (.ld (some 4) (.t 73)),
   oJ 10 (.alloc [(.p (.int .i64 0)),(.p (.int .i64 0)),(.p (.str [])),.nils]),
   ⟨none,none,.st 4 (.t 10) (.t 74)⟩])
 (.seq (.reg [oJ 75 (.ld (some 4) (.t 10)),
   oJ 76 (.call fw [(.t 75)]),
   oJ 77 (.not (.t 76))])
 (.cond (.t 77)
  (.seq (.reg [oJ 4 (.mov (.c (.p (.bool false))))])
  (.ret))
  (.skip)))))
 (.reg [oJ 78 (.bin .add (.t 71) (.c (.p (.int .i64 1)))),
   oM 71 78])))))))
 (.seq (.reg [oF 79 3 2,
   oL 80 79,
   oM 81 1,
   oJ 82 (.bin .add (.t 81) (.c (.p (.int .i64 1)))),
   oJ 83 (.call cZ [(.t 80),(.t 82)]),
   oM 84 83,
   ⟨(some 85),some (84,true),.fldA 4 (.t 2)⟩,
   ⟨(some 86),some (84,true),.ld none (.t 85)⟩,
   ⟨(some 87),some (84,true),.mov (.t 1)⟩,
   ⟨(some 88),some (84,true),.bin .add (.t 87) (.c (.p (.int .i64 1)))⟩,
   ⟨(some 89),some (84,true),.call cZ [(.t 86),(.t 88)]⟩,
   oJ 90 (.pick (.t 84) (.t 89) (.c (.p (.bool false)))),
   oM 4 90])
 (.ret)))))⟩
theorem py:aj Tryz.prog iR=some F_impl_stmtOk:=by kernel_rfl
def lp:FK:=⟨8,[.t 3],
 .seq (.reg [oJ 2 (.box 5 (.t 0)),
  oJ 3 (.mov (.c (.p (.bool false))))])
 (.seq (.reg [oJ 4 (.ld (some 5) (.t 2)),
   oL 5 1,
   oJ 6 (.call iR [(.t 4),(.t 5)]),
   oJ 7 (.not (.t 6)),
   oM 3 7])
 (.ret))⟩
theorem rC:aj Tryz.prog cX=some lp:=by kernel_rfl
def nO:FK:=⟨9,[.t 4],
 .seq (.reg [oJ 3 (.box 1 (.t 1)),
  oJ 4 (.mov (.c (.p (.bool false))))])
 (.seq (.reg [oM 5 0,
   oJ 6 (.mkf (.func cX) [(.t 3)]),
   oJ 7 (.call bT [(.t 5),(.t 6)]),
   oJ 8 (.not (.t 7)),
   oM 4 8])
 (.ret))⟩
theorem vr:aj Tryz.prog cZ=some nO:=by kernel_rfl
def ml:FK:=⟨31,[],
 .seq (.reg [oM 8 0,
  oJ 9 (.len false (.t 8)),
  oK 10 0])
 (.blk 0 (.loop (.seq (.reg [oJ 11 (.bin .lss (.t 10) (.t 9))])
 (.seq (.cond (.t 11)
  (.skip)
  (.exit 0))
 (.seq (.blk 1 (.seq (.reg [oJ 12 (.idxS 5 (.t 8) (.t 10)),
   oJ 13 (.ld (some 5) (.t 12)),
   oJ 7 (.alloc [(.p (.int .i64 0)),(.p (.str [])),.nils,.nils,.nils]),
   ⟨none,none,.st 5 (.t 7) (.t 13)⟩])
 (.seq (.reg [oM 14 2,
   oJ 15 (.ld (some 5) (.t 7)),
   oM 16 1,
   oJ 17 (.callv (.t 14) [(.t 15),(.t 16)])])
 (.seq (.reg [oF 18 3 7,
   oL 19 18,
   oM 20 1,
   oJ 21 (.bin .add (.t 20) (.c (.p (.int .i64 1)))),
   oM 22 2,
   oJ 23 (.call dy [(.t 19),(.t 21),(.t 22)])])
 (.reg [oF 24 4 7,
   oL 25 24,
   oM 26 1,
   oJ 27 (.bin .add (.t 26) (.c (.p (.int .i64 1)))),
   oM 28 2,
   oJ 29 (.call dy [(.t 25),(.t 27),(.t 28)])])))))
 (.reg [oJ 30 (.bin .add (.t 10) (.c (.p (.int .i64 1)))),
   oM 10 30]))))))⟩
theorem ru:aj Tryz.prog dy=some ml:=by kernel_rfl
def lR:FK:=⟨11,[],
 .seq (.reg [oJ 4 (.box 5 (.t 0))])
 (.seq (.reg [oL 6 2,
   oJ 7 (.bin .add (.t 6) (.c (.p (.int .i64 1)))),
   oS 2 7])
 (.reg [oL 8 3,
   oM 9 1,
   oJ 10 (.mx (.t 8) (.t 9)),
   oS 3 10]))⟩
theorem sh:aj Tryz.prog fh=some lR:=by kernel_rfl
def od:FK:=⟨20,[.c 2 none,.c 3 none],
 .seq (.reg [oJ 1 (.box 1 (.t 0)),
  oJ 2 (.alloc [(.p (.int .i64 0))]),
  oJ 3 (.alloc [(.p (.int .i64 0))])])
 (.seq (.seq (.reg [oF 6 0 1,
   oL 7 6,
   oJ 8 (.len false (.t 7)),
   oK 9 0])
 (.blk 0 (.loop (.seq (.reg [oJ 10 (.bin .lss (.t 9) (.t 8))])
 (.seq (.cond (.t 10)
  (.skip)
  (.exit 0))
 (.seq (.blk 1 (.seq (.reg [oJ 11 (.idxS 3 (.t 7) (.t 9)),
   oJ 12 (.ld (some 3) (.t 11)),
   oJ 5 (.alloc [(.p (.str [])),.nils,.nils]),
   ⟨none,none,.st 3 (.t 5) (.t 12)⟩])
 (.reg [oF 13 2 5,
   oL 14 13,
   oJ 15 (.mkf (.func fh) [(.t 2),(.t 3)]),
   oJ 16 (.call dy [(.t 14),(.c (.p (.int .i64 1))),(.t 15)])])))
 (.reg [oJ 17 (.bin .add (.t 9) (.c (.p (.int .i64 1)))),
   oM 9 17])))))))
 (.seq (.reg [oL 18 2,
   oL 19 3,
   oS 2 18,
   ⟨none,none,.chk none 3 19⟩,
   oS 3 19])
 (.ret)))⟩
theorem uC:aj Tryz.prog gM=some od:=by kernel_rfl
def iq:FK:=⟨6,[.t 2],
 .seq (.reg [oJ 2 (.mov (.c (.p (.bool false))))])
 (.seq (.reg [oM 3 0,
   oJ 4 (.call bM [(.t 3)]),
   oJ 5 (.not (.t 4)),
   oM 2 5])
 (.ret))⟩
theorem mJ:aj Tryz.prog bE=some iq:=by kernel_rfl
def jx:FK:=⟨48,[.t 2],
 .seq (.reg [oJ 1 (.box 1 (.t 0)),
  oJ 2 (.mov (.c (.p (.bool false))))])
 (.seq (.seq (.reg [oF 7 0 1,
   oL 8 7,
   oJ 9 (.len false (.t 8)),
   oJ 10 (.call cd [(.t 9),(.c (.p (.int .i64 1))),(.c (.p (.int .i64 4)))]),
   oJ 11 (.not (.t 10))])
 (.cond (.t 11)
  (.seq (.reg [oJ 2 (.mov (.c (.p (.bool false))))])
  (.ret))
  (.skip)))
 (.seq (.seq (.reg [oF 12 0 1,
   oL 13 12,
   oJ 14 (.len false (.t 13)),
   oK 15 0])
 (.blk 0 (.loop (.seq (.reg [oJ 16 (.bin .lss (.t 15) (.t 14))])
 (.seq (.cond (.t 16)
  (.skip)
  (.exit 0))
 (.seq (.blk 1 (.seq (.reg [oJ 17 (.idxS 3 (.t 13) (.t 15)),
   oJ 18 (.ld (some 3) (.t 17)),
   oJ 4 (.alloc [(.p (.str [])),.nils,.nils]),
   ⟨none,none,.st 3 (.t 4) (.t 18)⟩])
 (.seq (.reg [oF 19 0 4,
   oL 20 19,
   oJ 21 (.call bM [(.t 20)]),
   oJ 22 (.not (.t 21)),
   oM 23 22,
   ⟨(some 24),some (23,false),.fldA 1 (.t 4)⟩,
   ⟨(some 25),some (23,false),.ld none (.t 24)⟩,
   ⟨(some 26),some (23,false),.len false (.t 25)⟩,
   ⟨(some 27),some (23,false),.bin .gtr (.t 26) (.c (.p (.int .i64 3)))⟩,
   oJ 28 (.pick (.t 23) (.c (.p (.bool true))) (.t 27)),
   oM 29 28,
   ⟨(some 30),some (29,false),.fldA 1 (.t 4)⟩,
   ⟨(some 31),some (29,false),.ld none (.t 30)⟩,
   ⟨(some 32),some (29,false),.call cz [(.t 31),(.c (.fn (.func bE) []))]⟩,
   oJ 33 (.pick (.t 29) (.c (.p (.bool true))) (.t 32)),
   oM 34 33,
   ⟨(some 35),some (34,false),.fldA 2 (.t 4)⟩,
   ⟨(some 36),some (34,false),.ld none (.t 35)⟩,
   ⟨(some 37),some (34,false),.call cZ [(.t 36),(.c (.p (.int .i64 1)))]⟩,
   ⟨(some 38),some (34,false),.not (.t 37)⟩,
   oJ 39 (.pick (.t 34) (.c (.p (.bool true))) (.t 38))])
 (.cond (.t 39)
  (.seq (.reg [oJ 2 (.mov (.c (.p (.bool false))))])
  (.ret))
  (.skip)))))
 (.reg [oJ 40 (.bin .add (.t 15) (.c (.p (.int .i64 1)))),
   oM 15 40])))))))
 (.seq (.reg [oJ 42 (.ld (some 1) (.t 1)),
   oJ 43 (.call gM [(.t 42)]),
   oM 41 43,
   oJ 44 (.ext 0 (.t 41)),
   oJ 45 (.ext 1 (.t 41)),
   oM 5 44,
   oM 6 45])
 (.seq (.reg [oM 46 5,
   oJ 47 (.bin .leq (.t 46) (.c (.p (.int .i64 40)))),
   oM 2 47])
 (.ret)))))⟩
theorem pp:aj Tryz.prog cK=some jx:=by kernel_rfl
def cY:FK:=⟨19,[.t 4],
 .seq (.reg [oK 4 0])
 (.seq (.seq (.reg [oM 6 0,
   oJ 7 (.len false (.t 6)),
   oK 8 0])
 (.blk 0 (.loop (.seq (.reg [oJ 9 (.bin .lss (.t 8) (.t 7))])
 (.seq (.cond (.t 9)
  (.skip)
  (.exit 0))
 (.seq (.blk 1 (.seq (.reg [oM 10 8,
   oM 5 10])
 (.seq (.reg [oM 11 1,
   oM 12 0,
   oM 13 5,
   oJ 14 (.idxS 3 (.t 12) (.t 13)),
   oJ 15 (.ld (some 3) (.t 14)),
   oJ 16 (.callv (.t 11) [(.t 15)])])
 (.cond (.t 16)
  (.seq (.reg [oM 17 5,
    oM 4 17])
  (.ret))
  (.skip)))))
 (.reg [oJ 18 (.bin .add (.t 8) (.c (.p (.int .i64 1)))),
   oM 8 18])))))))
 (.seq (.reg [oJ 4 (.mov (.c (.p (.int .i64 (-1)))))])
 (.ret)))⟩
theorem fa:aj Tryz.prog bv=some cY:=by kernel_rfl
def pw:FK:=⟨8,[.t 3],
 .seq (.reg [oJ 2 (.box 3 (.t 0)),
  oJ 3 (.mov (.c (.p (.bool false))))])
 (.seq (.reg [oF 4 0 2,
   oL 5 4,
   oL 6 1,
   oJ 7 (.bins .eql (.t 5) (.t 6)),
   oM 3 7])
 (.ret))⟩
theorem vU:aj Tryz.prog fV=some pw:=by kernel_rfl
def sO:FK:=⟨9,[.t 4],
 .seq (.reg [oJ 2 (.box 1 (.t 0)),
  oJ 3 (.box 1 (.t 1)),
  oK 4 0])
 (.seq (.reg [oF 5 0 2,
   oL 6 5,
   oJ 7 (.mkf (.func fV) [(.t 3)]),
   oJ 8 (.call bv [(.t 6),(.t 7)]),
   oM 4 8])
 (.ret))⟩
theorem zz:aj Tryz.prog gA=some sO:=by kernel_rfl
def fD:FK:=⟨13,[],
 .seq (.reg [oM 4 0,
  oN 5 4,
  oF 6 2 5,
  oL 7 6,
  oJ 8 (.bin .eql (.t 7) (.c (.p (.int .i64 0))))])
 (.cond (.t 8)
  (.reg [oM 9 0,
    oM 10 1,
    oN 11 9,
    oF 12 2 11,
    oS 12 10])
  (.skip))⟩
theorem pq:aj Tryz.prog ay=some fD:=by kernel_rfl
def gJ:FK:=⟨7,[.t 2],
 .seq (.reg [oJ 2 (.mov (.c .nilp))])
 (.seq (.reg [oJ 3 (.mkm),
   oM 4 0,
   oJ 5 (.bld [.nilm,.nilp] [(0,1,(.t 3)),(1,1,(.t 4))]),
   oJ 6 (.box 2 (.t 5)),
   oM 2 6])
 (.ret))⟩
theorem qX:aj Tryz.prog aK=some gJ:=by kernel_rfl
def md:FK:=⟨20,[],
 .seq (.reg [oJ 2 (.box 4 (.t 0))])
 (.seq (.reg [oM 6 1,
   oJ 7 (.ld (some 4) (.t 2)),
   oJ 8 (.callv (.t 6) [(.t 7)])])
 (.seq (.reg [oF 9 3 2,
   oL 10 9,
   oJ 11 (.len false (.t 10)),
   oK 12 0])
 (.blk 0 (.loop (.seq (.reg [oJ 13 (.bin .lss (.t 12) (.t 11))])
 (.seq (.cond (.t 13)
  (.skip)
  (.exit 0))
 (.seq (.blk 1 (.seq (.reg [oJ 14 (.idxS 4 (.t 10) (.t 12)),
   oJ 15 (.ld (some 4) (.t 14)),
   oJ 5 (.alloc [(.p (.int .i64 0)),(.p (.int .i64 0)),(.p (.str [])),.nils]),
   ⟨none,none,.st 4 (.t 5) (.t 15)⟩])
 (.reg [oJ 16 (.ld (some 4) (.t 5)),
   oM 17 1,
   oJ 18 (.call fp [(.t 16),(.t 17)])])))
 (.reg [oJ 19 (.bin .add (.t 12) (.c (.p (.int .i64 1)))),
   oM 12 19]))))))))⟩
theorem rt:aj Tryz.prog fp=some md:=by kernel_rfl
def kF:FK:=⟨25,[.t 4,.t 5],
 .seq (.reg [oK 4 0,
  oJ 5 (.mov (.c (.p (.bool false))))])
 (.seq (.blk 0 (.loop (.seq (.seq (.reg [oM 8 0,
   oJ 9 (.pnil 0 true (.t 8))])
 (.cond (.t 9)
  (.skip)
  (.exit 0)))
 (.seq (.blk 1 (.seq (.reg [oM 15 0,
   oN 16 15,
   oF 17 0 16,
   oL 18 17,
   oM 19 1,
   oJ 20 (.lk 1 (.p (.int .i64 0)) true (.t 18) (.t 19)),
   oM 14 20,
   oJ 21 (.ext 0 (.t 14)),
   oJ 22 (.ext 1 (.t 14)),
   oM 6 21,
   oM 7 22])
 (.seq (.reg [oM 23 7])
 (.cond (.t 23)
  (.seq (.reg [oM 24 6,
    oM 4 24,
    oJ 5 (.mov (.c (.p (.bool true))))])
  (.ret))
  (.skip)))))
 (.reg [oM 10 0,
   oN 11 10,
   oF 12 1 11,
   oL 13 12,
   oM 0 13])))))
 (.seq (.reg [oK 4 0,
   oJ 5 (.mov (.c (.p (.bool false))))])
 (.ret)))⟩
theorem ri:aj Tryz.prog aP=some kF:=by kernel_rfl
def io:FK:=⟨58,[],
 .seq (.reg [oJ 3 (.box 4 (.t 0))])
 (.seq (.reg [oF 7 0 3,
   oL 8 7])
 (.blk 0 (.seq (.reg [oJ 10 (.bin .eql (.t 8) (.c (.p (.int .i64 2)))),
   oM 9 10])
 (.cond (.t 9)
  (.seq (.reg [oL 12 1,
    oF 13 2 3,
    oL 14 13,
    oJ 15 (.call aP [(.t 12),(.t 14)]),
    oM 11 15,
    oJ 16 (.ext 0 (.t 11)),
    oJ 17 (.ext 1 (.t 11)),
    oM 4 16,
    oM 5 17])
  (.seq (.reg [oM 18 5,
    oJ 19 (.not (.t 18))])
  (.cond (.t 19)
   (.reg [oL 20 2,
     oJ 21 (.call ay [(.t 20),(.c (.p (.int .i64 3)))])])
   (.skip))))
  (.seq (.reg [oJ 23 (.bin .eql (.t 8) (.c (.p (.int .i64 13)))),
    oM 22 23])
  (.cond (.t 22)
   (.seq (.reg [oF 35 2 3,
     oL 24 2,
     oN 25 24,
     oF 26 0 25,
     oF 27 0 26,
     oL 28 27,
     oL 29 2,
     oN 30 29,
     oF 31 1 30,
     oL 32 31,
     oJ 33 (.slS 3 (.t 28) none (some (.t 32))),
     oJ 34 (.bld [.nils] [(0,1,(.t 33))]),
     oL 36 35,
     oJ 37 (.call gA [(.t 34),(.t 36)]),
     oM 6 37])
   (.seq (.reg [oM 38 6,
     oJ 39 (.bin .lss (.t 38) (.c (.p (.int .i64 0))))])
   (.cond (.t 39)
    (.reg [oL 40 2,
      oJ 41 (.call ay [(.t 40),(.c (.p (.int .i64 4)))])])
    (.seq (.reg [oM 47 6,
      oF 52 3 3,
      oL 42 2,
      oN 43 42,
      oF 44 0 43,
      oF 45 0 44,
      oL 46 45,
      oJ 48 (.idxS 3 (.t 46) (.t 47)),
      oF 49 1 48,
      oL 50 49,
      oJ 51 (.len false (.t 50)),
      oL 53 52,
      oJ 54 (.len false (.t 53)),
      oJ 55 (.bin .neq (.t 51) (.t 54))])
    (.cond (.t 55)
     (.reg [oL 56 2,
       oJ 57 (.call ay [(.t 56),(.c (.p (.int .i64 5)))])])
     (.skip))))))
   (.skip)))))))⟩
theorem mS:aj Tryz.prog bV=some io:=by kernel_rfl
def fJ:FK:=⟨9,[],
 .seq (.reg [oJ 3 (.box 1 (.t 0)),
  oJ 4 (.box 4 (.t 1)),
  oJ 5 (.box 1 (.t 2))])
 (.reg [oJ 6 (.ld (some 4) (.t 4)),
   oJ 7 (.mkf (.func bV) [(.t 5),(.t 3)]),
   oJ 8 (.call fp [(.t 6),(.t 7)])])⟩
theorem pj:aj Tryz.prog cL=some fJ:=by kernel_rfl
def F_impl_checker_block:FK:=⟨89,[],
 .seq (.reg [oM 14 1,
  oJ 15 (.len false (.t 14)),
  oK 16 0])
 (.blk 0 (.loop (.seq (.reg [oJ 17 (.bin .lss (.t 16) (.t 15))])
 (.seq (.cond (.t 17)
  (.skip)
  (.exit 0))
 (.seq (.blk 1 (.seq (.reg [oJ 18 (.idxS 5 (.t 14) (.t 16)),
   oJ 19 (.ld (some 5) (.t 18)),
   oJ 7 (.alloc [(.p (.int .i64 0)),(.p (.str [])),.nils,.nils,.nils]),
   ⟨none,none,.st 5 (.t 7) (.t 19)⟩])
 (.seq (.seq (.reg [oF 20 2 7,
   oL 21 20,
   oJ 22 (.len false (.t 21)),
   oK 23 0])
 (.blk 2 (.loop (.seq (.reg [oJ 24 (.bin .lss (.t 23) (.t 22))])
 (.seq (.cond (.t 24)
  (.skip)
  (.exit 2))
 (.seq (.blk 3 (.seq (.reg [oJ 25 (.idxS 4 (.t 21) (.t 23)),
   oJ 26 (.ld (some 4) (.t 25)),
   oJ 9 (.alloc [(.p (.int .i64 0)),(.p (.int .i64 0)),(.p (.str [])),.nils]),
   ⟨none,none,.st 4 (.t 9) (.t 26)⟩])
 (.reg [oM 27 0,
   oJ 28 (.ld (some 4) (.t 9)),
   oM 29 2,
   oJ 30 (.call cL [(.t 27),(.t 28),(.t 29)])])))
 (.reg [oJ 31 (.bin .add (.t 23) (.c (.p (.int .i64 1)))),
   oM 23 31])))))))
 (.seq (.seq (.reg [oF 32 0 7,
   oL 33 32])
 (.blk 4 (.seq (.reg [oJ 35 (.bin .eql (.t 33) (.c (.p (.int .i64 1)))),
   oM 34 35])
 (.cond (.t 34)
  (.seq (.seq (.reg [oM 37 2,
    oN 38 37,
    oF 39 0 38,
    oF 41 1 7,
    oL 40 39,
    oL 42 41,
    oJ 43 (.lk 1 (.p (.int .i64 0)) true (.t 40) (.t 42)),
    oM 36 43,
    oJ 44 (.ext 0 (.t 36)),
    oJ 45 (.ext 1 (.t 36)),
    oM 10 44,
    oM 11 45])
  (.seq (.reg [oM 46 11])
  (.cond (.t 46)
   (.reg [oM 47 0,
     oJ 48 (.call ay [(.t 47),(.c (.p (.int .i64 2)))])])
   (.skip))))
  (.reg [oM 49 2,
    oN 50 49,
    oF 51 0 50,
    oF 53 1 7,
    oL 52 51,
    oL 54 53,
    ⟨none,none,.mup 1 (.t 52) (.t 54) (.c (.p (.int .i64 0)))⟩]))
  (.seq (.reg [oJ 56 (.bin .eql (.t 33) (.c (.p (.int .i64 2)))),
    oM 55 56])
  (.cond (.t 55)
   (.seq (.reg [oM 58 2,
     oF 59 1 7,
     oL 60 59,
     oJ 61 (.call aP [(.t 58),(.t 60)]),
     oM 57 61,
     oJ 62 (.ext 0 (.t 57)),
     oJ 63 (.ext 1 (.t 57)),
     oM 12 62,
     oM 13 63])
   (.seq (.reg [oM 64 13,
     oJ 65 (.not (.t 64))])
   (.cond (.t 65)
    (.reg [oM 66 0,
      oJ 67 (.call ay [(.t 66),(.c (.p (.int .i64 3)))])])
    (.skip))))
   (.skip)))))))
 (.seq (.reg [oF 68 0 7,
   oL 69 68,
   oJ 70 (.bin .eql (.t 69) (.c (.p (.int .i64 5)))),
   oM 71 70,
   ⟨(some 72),some (71,false),.fldA 0 (.t 7)⟩,
   ⟨(some 73),some (71,false),.ld none (.t 72)⟩,
   ⟨(some 74),some (71,false),.bin .eql (.t 73) (.c (.p (.int .i64 6)))⟩,
   oJ 75 (.pick (.t 71) (.c (.p (.bool true))) (.t 74))])
 (.cond (.t 75)
  (.seq (.reg [oM 76 0,
    oF 77 3 7,
    oM 79 2,
    oL 78 77,
    oJ 80 (.call aK [(.t 79)]),
    ⟨none,none,.chk none 77 78⟩,
    oJ 81 (.call aV [(.t 76),(.t 78),(.t 80)])])
  (.reg [oM 82 0,
    oF 83 4 7,
    oM 85 2,
    oL 84 83,
    oJ 86 (.call aK [(.t 85)]),
    ⟨none,none,.chk none 83 84⟩,
    oJ 87 (.call aV [(.t 82),(.t 84),(.t 86)])]))
  (.skip)))))))
 (.reg [oJ 88 (.bin .add (.t 16) (.c (.p (.int .i64 1)))),
   oM 16 88]))))))⟩
theorem nS:aj Tryz.prog aV=some F_impl_checker_block:=by kernel_rfl
def F_impl_CheckProgram:FK:=⟨73,[.t 2],
 .seq (.reg [oJ 1 (.box 1 (.t 0)),
  oK 2 0])
 (.seq (.seq (.reg [oJ 11 (.ld (some 1) (.t 1)),
   oJ 12 (.call cK [(.t 11)]),
   oJ 13 (.not (.t 12))])
 (.cond (.t 13)
  (.seq (.reg [oK 2 1])
  (.ret))
  (.skip)))
 (.seq (.reg [oJ 14 (.ld (some 1) (.t 1)),
   oJ 15 (.bld [.nils,(.p (.int .i64 0)),(.p (.int .i64 0))] [(0,1,(.t 14))]),
   oJ 16 (.box 3 (.t 15)),
   oM 3 16])
 (.seq (.seq (.reg [oF 17 0 1,
   oL 18 17,
   oJ 19 (.len false (.t 18)),
   oK 20 0])
 (.blk 0 (.loop (.seq (.reg [oJ 21 (.bin .lss (.t 20) (.t 19))])
 (.seq (.cond (.t 21)
  (.skip)
  (.exit 0))
 (.seq (.blk 1 (.seq (.reg [oM 22 20,
   oJ 23 (.idxS 3 (.t 18) (.t 20)),
   oJ 24 (.ld (some 3) (.t 23)),
   oJ 5 (.alloc [(.p (.str [])),.nils,.nils]),
   oM 4 22,
   ⟨none,none,.st 3 (.t 5) (.t 24)⟩])
 (.seq (.reg [oM 25 3,
   oM 26 4,
   oN 27 25,
   oF 28 1 27,
   oS 28 26])
 (.seq (.seq (.reg [oJ 29 (.ld (some 1) (.t 1)),
   oF 30 0 5,
   oL 31 30,
   oJ 32 (.call gA [(.t 29),(.t 31)]),
   oM 33 4,
   oJ 34 (.bin .lss (.t 32) (.t 33))])
 (.cond (.t 34)
  (.reg [oM 35 3,
    oJ 36 (.call ay [(.t 35),(.c (.p (.int .i64 2)))])])
  (.skip)))
 (.seq (.reg [oJ 37 (.call aK [(.c .nilp)]),
   oM 6 37])
 (.seq (.seq (.reg [oF 38 1 5,
   oL 39 38,
   oJ 40 (.len false (.t 39)),
   oK 41 0])
 (.blk 2 (.loop (.seq (.reg [oJ 42 (.bin .lss (.t 41) (.t 40))])
 (.seq (.cond (.t 42)
  (.skip)
  (.exit 2))
 (.seq (.blk 3 (.seq (.reg [oJ 43 (.idxS 1 (.t 39) (.t 41)),
   oL 44 43,
   oM 8 44])
 (.seq (.seq (.reg [oM 46 6,
   oN 47 46,
   oF 48 0 47,
   oL 49 48,
   oM 50 8,
   oJ 51 (.lk 1 (.p (.int .i64 0)) true (.t 49) (.t 50)),
   oM 45 51,
   oJ 52 (.ext 0 (.t 45)),
   oJ 53 (.ext 1 (.t 45)),
   oM 9 52,
   oM 10 53])
 (.seq (.reg [oM 54 10])
 (.cond (.t 54)
  (.reg [oM 55 3,
    oJ 56 (.call ay [(.t 55),(.c (.p (.int .i64 2)))])])
  (.skip))))
 (.reg [oM 57 6,
   oN 58 57,
   oF 59 0 58,
   oL 60 59,
   oM 61 8,
   ⟨none,none,.mup 1 (.t 60) (.t 61) (.c (.p (.int .i64 0)))⟩]))))
 (.reg [oJ 62 (.bin .add (.t 41) (.c (.p (.int .i64 1)))),
   oM 41 62])))))))
 (.reg [oM 63 3,
   oF 64 2 5,
   oL 65 64,
   oM 66 6,
   oJ 67 (.call aV [(.t 63),(.t 65),(.t 66)])])))))))
 (.reg [oJ 68 (.bin .add (.t 20) (.c (.p (.int .i64 1)))),
   oM 20 68])))))))
 (.seq (.reg [oM 69 3,
   oN 70 69,
   oF 71 2 70,
   oL 72 71,
   oM 2 72])
 (.ret)))))⟩
theorem pf:aj Tryz.prog dI=some F_impl_CheckProgram:=by kernel_rfl
def sP:FK:=⟨6,[.t 2],
 .seq (.reg [oJ 1 (.box 1 (.t 0)),
  oJ 2 (.mov (.c (.p (.bool false))))])
 (.seq (.reg [oJ 3 (.ld (some 1) (.t 1)),
   oJ 4 (.call dI [(.t 3)]),
   oJ 5 (.bin .eql (.t 4) (.c (.p (.int .i64 0)))),
   oM 2 5])
 (.ret))⟩
theorem yi:aj Tryz.prog iW=some sP:=by kernel_rfl
def ec:FK:=⟨9,[.t 4],
 .seq (.reg [oJ 4 (.mov (.c (.p (.bool false))))])
 (.seq (.reg [oM 5 0,
   oM 6 1,
   oJ 7 (.call bv [(.t 5),(.t 6)]),
   oJ 8 (.bin .geq (.t 7) (.c (.p (.int .i64 0)))),
   oM 4 8])
 (.ret))⟩
theorem jc:aj Tryz.prog co=some ec:=by kernel_rfl
def il:FK:=⟨22,[.t 4],
 .seq (.reg [oJ 4 (.mov (.c .nils))])
 (.seq (.reg [oJ 5 (.mov (.c .nils))])
 (.seq (.seq (.reg [oM 8 0,
   oJ 9 (.len false (.t 8)),
   oK 10 0])
 (.blk 0 (.loop (.seq (.reg [oJ 11 (.bin .lss (.t 10) (.t 9))])
 (.seq (.cond (.t 11)
  (.skip)
  (.exit 0))
 (.seq (.blk 1 (.seq (.reg [oJ 12 (.idxS 3 (.t 8) (.t 10)),
   oJ 13 (.ld (some 3) (.t 12)),
   oJ 7 (.alloc [(.p (.str [])),.nils,.nils]),
   ⟨none,none,.st 3 (.t 7) (.t 13)⟩])
 (.reg [oM 14 5,
   oM 15 1,
   oJ 16 (.ld (some 3) (.t 7)),
   oJ 17 (.callv (.t 15) [(.t 16)]),
   oJ 18 (.bsl 3 [(.p (.str [])),.nils,.nils] 1 [(0,3,(.t 17))]),
   oJ 19 (.app 3 64 (.t 14) (.t 18)),
   oM 5 19])))
 (.reg [oJ 20 (.bin .add (.t 10) (.c (.p (.int .i64 1)))),
   oM 10 20])))))))
 (.seq (.reg [oM 21 5,
   oM 4 21])
 (.ret))))⟩
theorem mK:aj Tryz.prog dg=some il:=by kernel_rfl
def gS:FK:=⟨10,[],
 .seq (.reg [oJ 3 (.box 5 (.t 0))])
 (.seq (.reg [oF 5 0 3,
   oL 6 5,
   oJ 7 (.bin .eql (.t 6) (.c (.p (.int .i64 1))))])
 (.cond (.t 7)
  (.reg [oL 8 2,
    oJ 9 (.bin .add (.t 8) (.c (.p (.int .i64 1)))),
    oS 2 9])
  (.skip)))⟩
theorem re:aj Tryz.prog eM=some gS:=by kernel_rfl
def mH:FK:=⟨12,[.t 2],
 .seq (.reg [oJ 1 (.box 3 (.t 0)),
  oK 2 0])
 (.seq (.reg [oF 4 1 1,
   oL 5 4,
   oJ 6 (.len false (.t 5)),
   oJ 3 (.alloc [(.p (.int .i64 0))]),
   oS 3 6])
 (.seq (.reg [oF 7 2 1,
   oL 8 7,
   oJ 9 (.mkf (.func eM) [(.t 3)]),
   oJ 10 (.call dy [(.t 8),(.c (.p (.int .i64 1))),(.t 9)])])
 (.seq (.reg [oL 11 3,
   oM 2 11])
 (.ret))))⟩
theorem tk:aj Tryz.prog gm=some mH:=by kernel_rfl
def gL:FK:=⟨6,[.t 2],
 .seq (.reg [oJ 1 (.box 3 (.t 0)),
  oJ 2 (.mov (.c (.p (.bool false))))])
 (.seq (.reg [oJ 3 (.ld (some 3) (.t 1)),
   oJ 4 (.call gm [(.t 3)]),
   oJ 5 (.bin .gtr (.t 4) (.c (.p (.int .i64 26)))),
   oM 2 5])
 (.ret))⟩
theorem lZ:aj Tryz.prog cP=some gL:=by kernel_rfl
def ja:FK:=⟨22,[.t 4],
 .seq (.reg [oJ 4 (.mov (.c .nils))])
 (.seq (.reg [oJ 5 (.mov (.c .nils))])
 (.seq (.seq (.reg [oM 8 0,
   oJ 9 (.len false (.t 8)),
   oK 10 0])
 (.blk 0 (.loop (.seq (.reg [oJ 11 (.bin .lss (.t 10) (.t 9))])
 (.seq (.cond (.t 11)
  (.skip)
  (.exit 0))
 (.seq (.blk 1 (.seq (.reg [oJ 12 (.idxS 1 (.t 8) (.t 10)),
   oL 13 12,
   oM 7 13])
 (.reg [oM 14 5,
   oM 15 1,
   oM 16 7,
   oJ 17 (.callv (.t 15) [(.t 16)]),
   oJ 18 (.bsl 1 [(.p (.str []))] 1 [(0,1,(.t 17))]),
   oJ 19 (.app 1 16 (.t 14) (.t 18)),
   oM 5 19])))
 (.reg [oJ 20 (.bin .add (.t 10) (.c (.p (.int .i64 1)))),
   oM 10 20])))))))
 (.seq (.reg [oM 21 5,
   oM 4 21])
 (.ret))))⟩
theorem oc:aj Tryz.prog dt=some ja:=by kernel_rfl
def gC:FK:=⟨22,[.t 4],
 .seq (.reg [oJ 4 (.mov (.c .nils))])
 (.seq (.reg [oJ 5 (.mov (.c .nils))])
 (.seq (.seq (.reg [oM 8 0,
   oJ 9 (.len false (.t 8)),
   oK 10 0])
 (.blk 0 (.loop (.seq (.reg [oJ 11 (.bin .lss (.t 10) (.t 9))])
 (.seq (.cond (.t 11)
  (.skip)
  (.exit 0))
 (.seq (.blk 1 (.seq (.reg [oJ 12 (.idxS 5 (.t 8) (.t 10)),
   oJ 13 (.ld (some 5) (.t 12)),
   oJ 7 (.alloc [(.p (.int .i64 0)),(.p (.str [])),.nils,.nils,.nils]),
   ⟨none,none,.st 5 (.t 7) (.t 13)⟩])
 (.reg [oM 14 5,
   oM 15 1,
   oJ 16 (.ld (some 5) (.t 7)),
   oJ 17 (.callv (.t 15) [(.t 16)]),
   oJ 18 (.bsl 5 [(.p (.int .i64 0)),(.p (.str [])),.nils,.nils,.nils] 1 [(0,5,(.t 17))]),
   oJ 19 (.app 5 96 (.t 14) (.t 18)),
   oM 5 19])))
 (.reg [oJ 20 (.bin .add (.t 10) (.c (.p (.int .i64 1)))),
   oM 10 20])))))))
 (.seq (.reg [oM 21 5,
   oM 4 21])
 (.ret))))⟩
theorem lD:aj Tryz.prog cx=some gC:=by kernel_rfl
def gz:FK:=⟨22,[.t 4],
 .seq (.reg [oJ 4 (.mov (.c .nils))])
 (.seq (.reg [oJ 5 (.mov (.c .nils))])
 (.seq (.seq (.reg [oM 8 0,
   oJ 9 (.len false (.t 8)),
   oK 10 0])
 (.blk 0 (.loop (.seq (.reg [oJ 11 (.bin .lss (.t 10) (.t 9))])
 (.seq (.cond (.t 11)
  (.skip)
  (.exit 0))
 (.seq (.blk 1 (.seq (.reg [oJ 12 (.idxS 4 (.t 8) (.t 10)),
   oJ 13 (.ld (some 4) (.t 12)),
   oJ 7 (.alloc [(.p (.int .i64 0)),(.p (.int .i64 0)),(.p (.str [])),.nils]),
   ⟨none,none,.st 4 (.t 7) (.t 13)⟩])
 (.reg [oM 14 5,
   oM 15 1,
   oJ 16 (.ld (some 4) (.t 7)),
   oJ 17 (.callv (.t 15) [(.t 16)]),
   oJ 18 (.bsl 4 [(.p (.int .i64 0)),(.p (.int .i64 0)),(.p (.str [])),.nils] 1 [(0,4,(.t 17))]),
   oJ 19 (.app 4 56 (.t 14) (.t 18)),
   oM 5 19])))
 (.reg [oJ 20 (.bin .add (.t 10) (.c (.p (.int .i64 1)))),
   oM 10 20])))))))
 (.seq (.reg [oM 21 5,
   oM 4 21])
 (.ret))))⟩
theorem lE:aj Tryz.prog aL=some gz:=by kernel_rfl
def jt:FK:=⟨10,[.t 4],
 .seq (.reg [oJ 4 (.mov (.c (.p (.str []))))])
 (.seq (.reg [oM 5 1,
   oJ 6 (.bin .add (.c (.p (.int .i64 97))) (.t 5)),
   oJ 7 (.conv .i32 (.t 6)),
   oJ 8 (.strB (.t 7)),
   oJ 9 (.bins .add (.c (.p (.str [118]))) (.t 8)),
   oM 4 9])
 (.ret))⟩
theorem oU:aj Tryz.prog bB=some jt:=by kernel_rfl
def ju:FK:=⟨30,[.t 6],
 .seq (.reg [oJ 6 (.mov (.c (.p (.str []))))])
 (.seq (.reg [oM 7 1,
   oN 8 7,
   oF 9 0 8,
   oM 11 2,
   oM 12 0,
   oN 13 12,
   oF 14 0 13,
   oL 10 9,
   oL 15 14,
   ⟨none,none,.mup 1 (.t 10) (.t 11) (.t 15)⟩])
 (.seq (.reg [oM 16 0,
   oN 17 16,
   oF 18 0 17,
   oL 19 18,
   oJ 20 (.bin .add (.t 19) (.c (.p (.int .i64 1)))),
   oN 21 16,
   oF 22 0 21,
   oS 22 20])
 (.seq (.reg [oM 23 0,
   oM 24 0,
   oN 25 24,
   oF 26 0 25,
   oL 27 26,
   oJ 28 (.bin .sub (.t 27) (.c (.p (.int .i64 1)))),
   oJ 29 (.call bB [(.t 23),(.t 28)]),
   oM 6 29])
 (.ret))))⟩
theorem ph:aj Tryz.prog cI=some ju:=by kernel_rfl
def ir:FK:=⟨9,[.c 4 (some 4)],
 .seq (.reg [oJ 3 (.box 4 (.t 0)),
  oJ 4 (.alloc [(.p (.int .i64 0)),(.p (.int .i64 0)),(.p (.str [])),.nils])])
 (.seq (.reg [oL 5 1,
   oJ 6 (.ld (some 4) (.t 3)),
   oL 7 2,
   oJ 8 (.call cH [(.t 5),(.t 6),(.t 7)]),
   ⟨none,none,.st 4 (.t 4) (.t 8)⟩])
 (.ret))⟩
theorem mO:aj Tryz.prog bZ=some ir:=by kernel_rfl
def F_impl_renamer_expr:FK:=⟨29,[.c 6 (some 4)],
 .seq (.reg [oJ 3 (.box 1 (.t 0)),
  oJ 4 (.box 4 (.t 1)),
  oJ 5 (.box 1 (.t 2)),
  oJ 6 (.alloc [(.p (.int .i64 0)),(.p (.int .i64 0)),(.p (.str [])),.nils])])
 (.seq (.seq (.reg [oF 9 0 4,
   oL 10 9,
   oJ 11 (.bin .eql (.t 10) (.c (.p (.int .i64 2))))])
 (.cond (.t 11)
  (.seq (.reg [oL 13 5,
    oF 14 2 4,
    oL 15 14,
    oJ 16 (.call aP [(.t 13),(.t 15)]),
    oM 12 16,
    oJ 17 (.ext 0 (.t 12)),
    oJ 18 (.ext 1 (.t 12)),
    oM 7 17,
    oM 8 18])
  (.reg [oL 19 3,
    oM 20 7,
    oJ 21 (.call bB [(.t 19),(.t 20)]),
    oF 22 2 4,
    oS 22 21]))
  (.skip)))
 (.seq (.reg [oF 23 3 4,
   oL 24 23,
   oJ 25 (.mkf (.func bZ) [(.t 3),(.t 5)]),
   oJ 26 (.call aL [(.t 24),(.t 25)]),
   oF 27 3 4,
   oS 27 26])
 (.seq (.reg [oJ 28 (.ld (some 4) (.t 4)),
   ⟨none,none,.st 4 (.t 6) (.t 28)⟩])
 (.ret))))⟩
theorem pa:aj Tryz.prog cH=some F_impl_renamer_expr:=by kernel_rfl
def fT:FK:=⟨9,[.c 4 (some 4)],
 .seq (.reg [oJ 3 (.box 4 (.t 0)),
  oJ 4 (.alloc [(.p (.int .i64 0)),(.p (.int .i64 0)),(.p (.str [])),.nils])])
 (.seq (.reg [oL 5 1,
   oJ 6 (.ld (some 4) (.t 3)),
   oL 7 2,
   oJ 8 (.call cH [(.t 5),(.t 6),(.t 7)]),
   ⟨none,none,.st 4 (.t 4) (.t 8)⟩])
 (.ret))⟩
theorem kX:aj Tryz.prog bF=some fT:=by kernel_rfl
def F_impl_renamer_block_1:FK:=⟨50,[.c 4 (some 5)],
 .seq (.reg [oJ 3 (.box 5 (.t 0)),
  oJ 4 (.alloc [(.p (.int .i64 0)),(.p (.str [])),.nils,.nils,.nils])])
 (.seq (.reg [oF 7 2 3,
   oL 8 7,
   oJ 9 (.mkf (.func bF) [(.t 1),(.t 2)]),
   oJ 10 (.call aL [(.t 8),(.t 9)]),
   oF 11 2 3,
   oS 11 10])
 (.seq (.seq (.reg [oF 12 0 3,
   oL 13 12])
 (.blk 0 (.seq (.reg [oJ 15 (.bin .eql (.t 13) (.c (.p (.int .i64 1)))),
   oM 14 15])
 (.cond (.t 14)
  (.reg [oL 16 1,
    oL 17 2,
    oF 18 1 3,
    oL 19 18,
    oJ 20 (.call cI [(.t 16),(.t 17),(.t 19)]),
    oF 21 1 3,
    oS 21 20])
  (.seq (.reg [oJ 23 (.bin .eql (.t 13) (.c (.p (.int .i64 2)))),
    oM 22 23])
  (.cond (.t 22)
   (.seq (.reg [oL 25 2,
     oF 26 1 3,
     oL 27 26,
     oJ 28 (.call aP [(.t 25),(.t 27)]),
     oM 24 28,
     oJ 29 (.ext 0 (.t 24)),
     oJ 30 (.ext 1 (.t 24)),
     oM 5 29,
     oM 6 30])
   (.reg [oL 31 1,
     oM 32 5,
     oJ 33 (.call bB [(.t 31),(.t 32)]),
     oF 34 1 3,
     oS 34 33]))
   (.skip)))))))
 (.seq (.reg [oF 36 3 3,
   oL 35 1,
   oL 37 36,
   oL 38 2,
   oJ 39 (.call aK [(.t 38)]),
   ⟨none,none,.chk none 1 35⟩,
   ⟨none,none,.chk none 36 37⟩,
   oJ 40 (.call bh [(.t 35),(.t 37),(.t 39)]),
   oF 41 3 3,
   oS 41 40])
 (.seq (.reg [oF 43 4 3,
   oL 42 1,
   oL 44 43,
   oL 45 2,
   oJ 46 (.call aK [(.t 45)]),
   ⟨none,none,.chk none 1 42⟩,
   ⟨none,none,.chk none 43 44⟩,
   oJ 47 (.call bh [(.t 42),(.t 44),(.t 46)]),
   oF 48 4 3,
   oS 48 47])
 (.seq (.reg [oJ 49 (.ld (some 5) (.t 3)),
   ⟨none,none,.st 5 (.t 4) (.t 49)⟩])
 (.ret))))))⟩
theorem mo:aj Tryz.prog bQ=some F_impl_renamer_block_1:=by kernel_rfl
def iU:FK:=⟨10,[.t 6],
 .seq (.reg [oJ 3 (.box 1 (.t 0)),
  oJ 5 (.box 1 (.t 2)),
  oJ 6 (.mov (.c .nils))])
 (.seq (.reg [oM 7 1,
   oJ 8 (.mkf (.func bQ) [(.t 3),(.t 5)]),
   oJ 9 (.call cx [(.t 7),(.t 8)]),
   oM 6 9])
 (.ret))⟩
theorem mT:aj Tryz.prog bh=some iU:=by kernel_rfl
def fO:FK:=⟨9,[.t 4],
 .seq (.reg [oJ 4 (.mov (.c (.p (.str []))))])
 (.seq (.reg [oL 5 1,
   oL 6 2,
   oM 7 0,
   oJ 8 (.call cI [(.t 5),(.t 6),(.t 7)]),
   oM 4 8])
 (.ret))⟩
theorem ll:aj Tryz.prog cb=some fO:=by kernel_rfl
def gG:FK:=⟨20,[.c 2 (some 3)],
 .seq (.reg [oJ 1 (.box 3 (.t 0)),
  oJ 2 (.alloc [(.p (.str [])),.nils,.nils])])
 (.seq (.reg [oJ 5 (.bld [(.p (.int .i64 0))] []),
   oJ 6 (.box 1 (.t 5)),
   oJ 7 (.call aK [(.c .nilp)]),
   oJ 3 (.alloc [.nilp]),
   oJ 4 (.alloc [.nilp]),
   oS 3 6,
   oS 4 7])
 (.seq (.reg [oF 8 1 1,
   oL 9 8,
   oJ 10 (.mkf (.func cb) [(.t 3),(.t 4)]),
   oJ 11 (.call dt [(.t 9),(.t 10)]),
   oF 12 1 1,
   oS 12 11])
 (.seq (.reg [oL 13 3,
   oF 14 2 1,
   oL 15 14,
   oL 16 4,
   oJ 17 (.call bh [(.t 13),(.t 15),(.t 16)]),
   oF 18 2 1,
   oS 18 17])
 (.seq (.reg [oJ 19 (.ld (some 3) (.t 1)),
   ⟨none,none,.st 3 (.t 2) (.t 19)⟩])
 (.ret)))))⟩
theorem mt:aj Tryz.prog bP=some gG:=by kernel_rfl
def iZ:FK:=⟨17,[.c 2 (some 1),.t 3],
 .seq (.reg [oJ 1 (.box 1 (.t 0)),
  oJ 2 (.alloc [.nils]),
  oJ 3 (.mov (.c (.p (.bool false))))])
 (.seq (.seq (.reg [oJ 4 (.ld (some 1) (.t 1)),
   oJ 5 (.call iW [(.t 4)]),
   oJ 6 (.not (.t 5)),
   oM 7 6,
   ⟨(some 8),some (7,false),.fldA 0 (.t 1)⟩,
   ⟨(some 9),some (7,false),.ld none (.t 8)⟩,
   ⟨(some 10),some (7,false),.call co [(.t 9),(.c (.fn (.func cP) []))]⟩,
   oJ 11 (.pick (.t 7) (.c (.p (.bool true))) (.t 10))])
 (.cond (.t 11)
  (.seq (.reg [oJ 12 (.bld [.nils] []),
    oS 2 12,
    oJ 3 (.mov (.c (.p (.bool false))))])
  (.ret))
  (.skip)))
 (.seq (.reg [oF 13 0 1,
   oL 14 13,
   oJ 15 (.call dg [(.t 14),(.c (.fn (.func bP) []))]),
   oJ 16 (.bld [.nils] [(0,1,(.t 15))]),
   oS 2 16,
   oJ 3 (.mov (.c (.p (.bool true))))])
 (.ret)))⟩
theorem nV:aj Tryz.prog bK=some iZ:=by kernel_rfl
def dc:FK:=⟨32,[.t 6],
 .seq (.reg [oJ 6 (.mov (.c (.p (.bool false))))])
 (.seq (.seq (.reg [oM 10 0,
   oJ 11 (.len false (.t 10)),
   oM 12 1,
   oJ 13 (.len false (.t 12)),
   oJ 14 (.bin .neq (.t 11) (.t 13))])
 (.cond (.t 14)
  (.seq (.reg [oJ 6 (.mov (.c (.p (.bool false))))])
  (.ret))
  (.skip)))
 (.seq (.seq (.reg [oM 15 0,
   oJ 16 (.len false (.t 15)),
   oK 17 0])
 (.blk 0 (.loop (.seq (.reg [oJ 18 (.bin .lss (.t 17) (.t 16))])
 (.seq (.cond (.t 18)
  (.skip)
  (.exit 0))
 (.seq (.blk 1 (.seq (.reg [oM 19 17,
   oJ 20 (.idxS 3 (.t 15) (.t 17)),
   oJ 21 (.ld (some 3) (.t 20)),
   oJ 8 (.alloc [(.p (.str [])),.nils,.nils]),
   oM 7 19,
   ⟨none,none,.st 3 (.t 8) (.t 21)⟩])
 (.seq (.reg [oM 22 1,
   oM 23 7,
   oJ 24 (.idxS 3 (.t 22) (.t 23)),
   oJ 25 (.ld (some 3) (.t 24)),
   oJ 9 (.alloc [(.p (.str [])),.nils,.nils]),
   ⟨none,none,.st 3 (.t 9) (.t 25)⟩])
 (.seq (.reg [oM 26 2,
   oJ 27 (.ld (some 3) (.t 8)),
   oJ 28 (.ld (some 3) (.t 9)),
   oJ 29 (.callv (.t 26) [(.t 27),(.t 28)]),
   oJ 30 (.not (.t 29))])
 (.cond (.t 30)
  (.seq (.reg [oJ 6 (.mov (.c (.p (.bool false))))])
  (.ret))
  (.skip))))))
 (.reg [oJ 31 (.bin .add (.t 17) (.c (.p (.int .i64 1)))),
   oM 17 31])))))))
 (.seq (.reg [oJ 6 (.mov (.c (.p (.bool true))))])
 (.ret))))⟩
theorem jT:aj Tryz.prog dd=some dc:=by kernel_rfl
def eG:FK:=⟨26,[.t 4],
 .seq (.reg [oJ 4 (.mov (.c (.p (.bool false))))])
 (.seq (.seq (.reg [oM 6 0,
   oJ 7 (.len false (.t 6)),
   oM 8 1,
   oJ 9 (.len false (.t 8)),
   oJ 10 (.bin .neq (.t 7) (.t 9))])
 (.cond (.t 10)
  (.seq (.reg [oJ 4 (.mov (.c (.p (.bool false))))])
  (.ret))
  (.skip)))
 (.seq (.seq (.reg [oM 11 0,
   oJ 12 (.len false (.t 11)),
   oK 13 0])
 (.blk 0 (.loop (.seq (.reg [oJ 14 (.bin .lss (.t 13) (.t 12))])
 (.seq (.cond (.t 14)
  (.skip)
  (.exit 0))
 (.seq (.blk 1 (.seq (.reg [oM 15 13,
   oM 5 15])
 (.seq (.reg [oM 16 0,
   oM 17 5,
   oJ 18 (.idxS 1 (.t 16) (.t 17)),
   oM 20 1,
   oM 21 5,
   oJ 22 (.idxS 1 (.t 20) (.t 21)),
   oL 19 18,
   oL 23 22,
   oJ 24 (.bins .neq (.t 19) (.t 23))])
 (.cond (.t 24)
  (.seq (.reg [oJ 4 (.mov (.c (.p (.bool false))))])
  (.ret))
  (.skip)))))
 (.reg [oJ 25 (.bin .add (.t 13) (.c (.p (.int .i64 1)))),
   oM 13 25])))))))
 (.seq (.reg [oJ 4 (.mov (.c (.p (.bool true))))])
 (.ret))))⟩
theorem mM:aj Tryz.prog eI=some eG:=by kernel_rfl
def cF:FK:=⟨32,[.t 6],
 .seq (.reg [oJ 6 (.mov (.c (.p (.bool false))))])
 (.seq (.seq (.reg [oM 10 0,
   oJ 11 (.len false (.t 10)),
   oM 12 1,
   oJ 13 (.len false (.t 12)),
   oJ 14 (.bin .neq (.t 11) (.t 13))])
 (.cond (.t 14)
  (.seq (.reg [oJ 6 (.mov (.c (.p (.bool false))))])
  (.ret))
  (.skip)))
 (.seq (.seq (.reg [oM 15 0,
   oJ 16 (.len false (.t 15)),
   oK 17 0])
 (.blk 0 (.loop (.seq (.reg [oJ 18 (.bin .lss (.t 17) (.t 16))])
 (.seq (.cond (.t 18)
  (.skip)
  (.exit 0))
 (.seq (.blk 1 (.seq (.reg [oM 19 17,
   oJ 20 (.idxS 5 (.t 15) (.t 17)),
   oJ 21 (.ld (some 5) (.t 20)),
   oJ 8 (.alloc [(.p (.int .i64 0)),(.p (.str [])),.nils,.nils,.nils]),
   oM 7 19,
   ⟨none,none,.st 5 (.t 8) (.t 21)⟩])
 (.seq (.reg [oM 22 1,
   oM 23 7,
   oJ 24 (.idxS 5 (.t 22) (.t 23)),
   oJ 25 (.ld (some 5) (.t 24)),
   oJ 9 (.alloc [(.p (.int .i64 0)),(.p (.str [])),.nils,.nils,.nils]),
   ⟨none,none,.st 5 (.t 9) (.t 25)⟩])
 (.seq (.reg [oM 26 2,
   oJ 27 (.ld (some 5) (.t 8)),
   oJ 28 (.ld (some 5) (.t 9)),
   oJ 29 (.callv (.t 26) [(.t 27),(.t 28)]),
   oJ 30 (.not (.t 29))])
 (.cond (.t 30)
  (.seq (.reg [oJ 6 (.mov (.c (.p (.bool false))))])
  (.ret))
  (.skip))))))
 (.reg [oJ 31 (.bin .add (.t 17) (.c (.p (.int .i64 1)))),
   oM 17 31])))))))
 (.seq (.reg [oJ 6 (.mov (.c (.p (.bool true))))])
 (.ret))))⟩
theorem ji:aj Tryz.prog aT=some cF:=by kernel_rfl
def cC:FK:=⟨32,[.t 6],
 .seq (.reg [oJ 6 (.mov (.c (.p (.bool false))))])
 (.seq (.seq (.reg [oM 10 0,
   oJ 11 (.len false (.t 10)),
   oM 12 1,
   oJ 13 (.len false (.t 12)),
   oJ 14 (.bin .neq (.t 11) (.t 13))])
 (.cond (.t 14)
  (.seq (.reg [oJ 6 (.mov (.c (.p (.bool false))))])
  (.ret))
  (.skip)))
 (.seq (.seq (.reg [oM 15 0,
   oJ 16 (.len false (.t 15)),
   oK 17 0])
 (.blk 0 (.loop (.seq (.reg [oJ 18 (.bin .lss (.t 17) (.t 16))])
 (.seq (.cond (.t 18)
  (.skip)
  (.exit 0))
 (.seq (.blk 1 (.seq (.reg [oM 19 17,
   oJ 20 (.idxS 4 (.t 15) (.t 17)),
   oJ 21 (.ld (some 4) (.t 20)),
   oJ 8 (.alloc [(.p (.int .i64 0)),(.p (.int .i64 0)),(.p (.str [])),.nils]),
   oM 7 19,
   ⟨none,none,.st 4 (.t 8) (.t 21)⟩])
 (.seq (.reg [oM 22 1,
   oM 23 7,
   oJ 24 (.idxS 4 (.t 22) (.t 23)),
   oJ 25 (.ld (some 4) (.t 24)),
   oJ 9 (.alloc [(.p (.int .i64 0)),(.p (.int .i64 0)),(.p (.str [])),.nils]),
   ⟨none,none,.st 4 (.t 9) (.t 25)⟩])
 (.seq (.reg [oM 26 2,
   oJ 27 (.ld (some 4) (.t 8)),
   oJ 28 (.ld (some 4) (.t 9)),
   oJ 29 (.callv (.t 26) [(.t 27),(.t 28)]),
   oJ 30 (.not (.t 29))])
 (.cond (.t 30)
  (.seq (.reg [oJ 6 (.mov (.c (.p (.bool false))))])
  (.ret))
  (.skip))))))
 (.reg [oJ 31 (.bin .add (.t 17) (.c (.p (.int .i64 1)))),
   oM 17 31])))))))
 (.seq (.reg [oJ 6 (.mov (.c (.p (.bool true))))])
 (.ret))))⟩
theorem jl:aj Tryz.prog bm=some cC:=by kernel_rfl
def ew:FK:=⟨31,[.t 4],
 .seq (.reg [oJ 2 (.box 4 (.t 0)),
  oJ 3 (.box 4 (.t 1)),
  oJ 4 (.mov (.c (.p (.bool false))))])
 (.seq (.reg [oF 5 0 2,
   oL 6 5,
   oF 7 0 3,
   oL 8 7,
   oJ 9 (.bin .eql (.t 6) (.t 8)),
   oM 10 9,
   ⟨(some 11),some (10,true),.fldA 1 (.t 2)⟩,
   ⟨(some 12),some (10,true),.ld none (.t 11)⟩,
   ⟨(some 13),some (10,true),.fldA 1 (.t 3)⟩,
   ⟨(some 14),some (10,true),.ld none (.t 13)⟩,
   ⟨(some 15),some (10,true),.bin .eql (.t 12) (.t 14)⟩,
   oJ 16 (.pick (.t 10) (.t 15) (.c (.p (.bool false)))),
   oM 17 16,
   ⟨(some 18),some (17,true),.fldA 2 (.t 2)⟩,
   ⟨(some 19),some (17,true),.ld none (.t 18)⟩,
   ⟨(some 20),some (17,true),.fldA 2 (.t 3)⟩,
   ⟨(some 21),some (17,true),.ld none (.t 20)⟩,
   ⟨(some 22),some (17,true),.bins .eql (.t 19) (.t 21)⟩,
   oJ 23 (.pick (.t 17) (.t 22) (.c (.p (.bool false)))),
   oM 24 23,
   ⟨(some 25),some (24,true),.fldA 3 (.t 2)⟩,
   ⟨(some 26),some (24,true),.ld none (.t 25)⟩,
   ⟨(some 27),some (24,true),.fldA 3 (.t 3)⟩,
   ⟨(some 28),some (24,true),.ld none (.t 27)⟩,
   ⟨(some 29),some (24,true),.call bm [(.t 26),(.t 28),(.c (.fn (.func cD) []))]⟩,
   oJ 30 (.pick (.t 24) (.t 29) (.c (.p (.bool false)))),
   oM 4 30])
 (.ret))⟩
theorem tc:aj Tryz.prog cD=some ew:=by kernel_rfl
def gk:FK:=⟨38,[.t 4],
 .seq (.reg [oJ 2 (.box 5 (.t 0)),
  oJ 3 (.box 5 (.t 1)),
  oJ 4 (.mov (.c (.p (.bool false))))])
 (.seq (.reg [oF 5 0 2,
   oL 6 5,
   oF 7 0 3,
   oL 8 7,
   oJ 9 (.bin .eql (.t 6) (.t 8)),
   oM 10 9,
   ⟨(some 11),some (10,true),.fldA 1 (.t 2)⟩,
   ⟨(some 12),some (10,true),.ld none (.t 11)⟩,
   ⟨(some 13),some (10,true),.fldA 1 (.t 3)⟩,
   ⟨(some 14),some (10,true),.ld none (.t 13)⟩,
   ⟨(some 15),some (10,true),.bins .eql (.t 12) (.t 14)⟩,
   oJ 16 (.pick (.t 10) (.t 15) (.c (.p (.bool false)))),
   oM 17 16,
   ⟨(some 18),some (17,true),.fldA 2 (.t 2)⟩,
   ⟨(some 19),some (17,true),.ld none (.t 18)⟩,
   ⟨(some 20),some (17,true),.fldA 2 (.t 3)⟩,
   ⟨(some 21),some (17,true),.ld none (.t 20)⟩,
   ⟨(some 22),some (17,true),.call bm [(.t 19),(.t 21),(.c (.fn (.func cD) []))]⟩,
   oJ 23 (.pick (.t 17) (.t 22) (.c (.p (.bool false)))),
   oM 24 23,
   ⟨(some 25),some (24,true),.fldA 3 (.t 2)⟩,
   ⟨(some 26),some (24,true),.ld none (.t 25)⟩,
   ⟨(some 27),some (24,true),.fldA 3 (.t 3)⟩,
   ⟨(some 28),some (24,true),.ld none (.t 27)⟩,
   ⟨(some 29),some (24,true),.call aT [(.t 26),(.t 28),(.c (.fn (.func bR) []))]⟩,
   oJ 30 (.pick (.t 24) (.t 29) (.c (.p (.bool false)))),
   oM 31 30,
   ⟨(some 32),some (31,true),.fldA 4 (.t 2)⟩,
   ⟨(some 33),some (31,true),.ld none (.t 32)⟩,
   ⟨(some 34),some (31,true),.fldA 4 (.t 3)⟩,
   ⟨(some 35),some (31,true),.ld none (.t 34)⟩,
   ⟨(some 36),some (31,true),.call aT [(.t 33),(.t 35),(.c (.fn (.func bR) []))]⟩,
   oJ 37 (.pick (.t 31) (.t 36) (.c (.p (.bool false)))),
   oM 4 37])
 (.ret))⟩
theorem sW:aj Tryz.prog bR=some gk:=by kernel_rfl
def eK:FK:=⟨24,[.t 4],
 .seq (.reg [oJ 2 (.box 3 (.t 0)),
  oJ 3 (.box 3 (.t 1)),
  oJ 4 (.mov (.c (.p (.bool false))))])
 (.seq (.reg [oF 5 0 2,
   oL 6 5,
   oF 7 0 3,
   oL 8 7,
   oJ 9 (.bins .eql (.t 6) (.t 8)),
   oM 10 9,
   ⟨(some 11),some (10,true),.fldA 1 (.t 2)⟩,
   ⟨(some 12),some (10,true),.ld none (.t 11)⟩,
   ⟨(some 13),some (10,true),.fldA 1 (.t 3)⟩,
   ⟨(some 14),some (10,true),.ld none (.t 13)⟩,
   ⟨(some 15),some (10,true),.call eI [(.t 12),(.t 14)]⟩,
   oJ 16 (.pick (.t 10) (.t 15) (.c (.p (.bool false)))),
   oM 17 16,
   ⟨(some 18),some (17,true),.fldA 2 (.t 2)⟩,
   ⟨(some 19),some (17,true),.ld none (.t 18)⟩,
   ⟨(some 20),some (17,true),.fldA 2 (.t 3)⟩,
   ⟨(some 21),some (17,true),.ld none (.t 20)⟩,
   ⟨(some 22),some (17,true),.call aT [(.t 19),(.t 21),(.c (.fn (.func bR) []))]⟩,
   oJ 23 (.pick (.t 17) (.t 22) (.c (.p (.bool false)))),
   oM 4 23])
 (.ret))⟩
theorem mQ:aj Tryz.prog dh=some eK:=by kernel_rfl
def jv:FK:=⟨10,[.t 4],
 .seq (.reg [oJ 2 (.box 1 (.t 0)),
  oJ 3 (.box 1 (.t 1)),
  oJ 4 (.mov (.c (.p (.bool false))))])
 (.seq (.reg [oF 5 0 2,
   oL 6 5,
   oF 7 0 3,
   oL 8 7,
   oJ 9 (.call dd [(.t 6),(.t 8),(.c (.fn (.func dh) []))]),
   oM 4 9])
 (.ret))⟩
theorem pn:aj Tryz.prog dK=some jv:=by kernel_rfl
def lu:FK:=⟨16,[.t 2],
 .seq (.reg [oJ 1 (.box 1 (.t 0)),
  oJ 2 (.mov (.c (.p (.bool false))))])
 (.seq (.reg [oJ 6 (.ld (some 1) (.t 1)),
   oJ 7 (.call bK [(.t 6)]),
   oM 5 7,
   oJ 8 (.ext 0 (.t 5)),
   oJ 9 (.ext 1 (.t 5)),
   oJ 3 (.alloc [.nils]),
   oS 3 8,
   oM 4 9])
 (.seq (.reg [oM 10 4,
   oM 11 10,
   ⟨(some 12),some (11,true),.ld (some 1) (.t 1)⟩,
   ⟨(some 13),some (11,true),.ld (some 1) (.t 3)⟩,
   ⟨(some 14),some (11,true),.call dK [(.t 12),(.t 13)]⟩,
   oJ 15 (.pick (.t 11) (.t 14) (.c (.p (.bool false)))),
   oM 2 15])
 (.ret)))⟩
theorem rI:aj Tryz.prog iE=some lu:=by kernel_rfl
def nk:FK:=⟨11,[.t 2],
 .seq (.reg [oJ 2 (.mov (.c .nilp))])
 (.seq (.seq (.reg [oM 3 0,
   oJ 4 (.len false (.t 3)),
   oJ 5 (.bin .gtr (.t 4) (.c (.p (.int .i64 2000))))])
 (.cond (.t 5)
  (.reg [oM 6 0,
    oJ 7 (.slS 1 (.t 6) none (some (.c (.p (.int .i64 2000))))),
    oM 0 7])
  (.skip)))
 (.seq (.reg [oM 8 0,
   oJ 9 (.bld [.nils,(.p (.int .i64 0))] [(0,1,(.t 8))]),
   oJ 10 (.box 2 (.t 9)),
   oM 2 10])
 (.ret)))⟩
theorem tE:aj Tryz.prog kq=some nk:=by kernel_rfl
def eN:FK:=⟨99,[.t 4],
 .seq (.reg [oK 4 0])
 (.seq (.reg [oM 7 0,
   oM 8 0,
   oN 9 8,
   oF 10 1 9,
   oL 11 10,
   oJ 12 (.bin .add (.t 11) (.c (.p (.int .i64 1)))),
   oN 13 7,
   oF 14 1 13,
   oS 14 12])
 (.seq (.seq (.reg [oM 15 1,
   oJ 16 (.bin .lss (.t 15) (.c (.p (.int .i64 1)))),
   oM 17 16,
   ⟨(some 18),some (17,false),.mov (.t 0)⟩,
   ⟨(some 19),some (17,false),.nilck (.t 18)⟩,
   ⟨(some 20),some (17,false),.fldA 0 (.t 19)⟩,
   ⟨(some 21),some (17,false),.ld none (.t 20)⟩,
   ⟨(some 22),some (17,false),.len false (.t 21)⟩,
   ⟨(some 23),some (17,false),.bin .eql (.t 22) (.c (.p (.int .i64 0)))⟩,
   oJ 24 (.pick (.t 17) (.c (.p (.bool true))) (.t 23))])
 (.cond (.t 24)
  (.seq (.reg [oK 4 0])
  (.ret))
  (.skip)))
 (.seq (.reg [oM 25 0,
   oN 26 25,
   oF 27 1 26,
   oL 28 27,
   oJ 29 (.bin .sub (.t 28) (.c (.p (.int .i64 1)))),
   oM 5 29])
 (.seq (.seq (.reg [oM 30 5,
   oM 31 0,
   oN 32 31,
   oF 33 0 32,
   oL 34 33,
   oJ 35 (.len false (.t 34)),
   oJ 36 (.bin .lss (.t 30) (.t 35))])
 (.cond (.t 36)
  (.seq (.reg [oM 37 0,
    oN 38 37,
    oF 39 0 38,
    oL 40 39,
    oM 41 5,
    oJ 42 (.idxS 1 (.t 40) (.t 41)),
    oL 43 42,
    oJ 44 (.conv .i64 (.t 43)),
    oM 45 1,
    oJ 46 (.bin .rem (.t 44) (.t 45)),
    oM 4 46])
  (.ret))
  (.skip)))
 (.seq (.reg [oM 47 0,
   oN 48 47,
   oF 49 0 48,
   oM 51 5,
   oM 52 0,
   oN 53 52,
   oF 54 0 53,
   oM 62 0,
   oN 63 62,
   oF 64 0 63,
   oM 66 5,
   oJ 67 (.bin .mul (.t 66) (.c (.p (.int .i64 7)))),
   oJ 68 (.bin .add (.t 67) (.c (.p (.int .i64 3)))),
   oM 69 0,
   oN 70 69,
   oF 71 0 70,
   oM 80 5,
   oJ 81 (.bin .mul (.t 80) (.c (.p (.int .i64 29)))),
   oM 83 5,
   oM 84 0,
   oN 85 84,
   oF 86 0 85,
   oL 50 49,
   oL 55 54,
   oJ 56 (.len false (.t 55)),
   oJ 57 (.bin .rem (.t 51) (.t 56)),
   oJ 58 (.idxS 1 (.t 50) (.t 57)),
   oL 59 58,
   oJ 60 (.conv .i64 (.t 59)),
   oJ 61 (.bin .mul (.t 60) (.c (.p (.int .i64 131)))),
   oL 65 64,
   oL 72 71,
   oJ 73 (.len false (.t 72)),
   oJ 74 (.bin .rem (.t 68) (.t 73)),
   oJ 75 (.idxS 1 (.t 65) (.t 74)),
   oL 76 75,
   oJ 77 (.conv .i64 (.t 76)),
   oJ 78 (.bin .mul (.t 77) (.c (.p (.int .i64 1117)))),
   oJ 79 (.bin .add (.t 61) (.t 78)),
   oJ 82 (.bin .add (.t 79) (.t 81)),
   oL 87 86,
   oJ 88 (.len false (.t 87)),
   oJ 89 (.bin .quo (.t 83) (.t 88)),
   oJ 90 (.bin .mul (.t 89) (.c (.p (.int .i64 53)))),
   oJ 91 (.bin .add (.t 82) (.t 90)),
   oM 6 91])
 (.seq (.reg [oM 92 6,
   oM 93 6,
   oJ 94 (.bin .quo (.t 93) (.c (.p (.int .i64 64)))),
   oJ 95 (.bin .xor (.t 92) (.t 94)),
   oM 6 95])
 (.seq (.reg [oM 96 6,
   oM 97 1,
   oJ 98 (.bin .rem (.t 96) (.t 97)),
   oM 4 98])
 (.ret))))))))⟩
theorem qG:aj Tryz.prog af=some eN:=by kernel_rfl
def iA:FK:=⟨12,[.t 4],
 .seq (.reg [oK 4 0])
 (.seq (.reg [oM 5 1,
   oM 6 0,
   oM 7 1,
   oJ 8 (.len false (.t 7)),
   oJ 9 (.call af [(.t 6),(.t 8)]),
   oJ 10 (.idxS 1 (.t 5) (.t 9)),
   oL 11 10,
   oM 4 11])
 (.ret))⟩
theorem lK:aj Tryz.prog aq=some iA:=by kernel_rfl
def jp:FK:=⟨12,[.t 4],
 .seq (.reg [oJ 4 (.mov (.c (.p (.str []))))])
 (.seq (.reg [oM 5 1,
   oM 6 0,
   oM 7 1,
   oJ 8 (.len false (.t 7)),
   oJ 9 (.call af [(.t 6),(.t 8)]),
   oJ 10 (.idxS 1 (.t 5) (.t 9)),
   oL 11 10,
   oM 4 11])
 (.ret))⟩
theorem mI:aj Tryz.prog aG=some jp:=by kernel_rfl
def fQ:FK:=⟨21,[.c 4 (some 4)],
 .seq (.reg [oJ 4 (.alloc [(.p (.int .i64 0)),(.p (.int .i64 0)),(.p (.str [])),.nils])])
 (.seq (.seq (.reg [oM 5 1,
   oJ 6 (.len false (.t 5)),
   oJ 7 (.bin .eql (.t 6) (.c (.p (.int .i64 0)))),
   oM 8 7,
   ⟨(some 9),some (8,false),.mov (.t 0)⟩,
   ⟨(some 10),some (8,false),.call af [(.t 9),(.c (.p (.int .i64 3)))]⟩,
   ⟨(some 11),some (8,false),.bin .eql (.t 10) (.c (.p (.int .i64 0)))⟩,
   oJ 12 (.pick (.t 8) (.c (.p (.bool true))) (.t 11))])
 (.cond (.t 12)
  (.seq (.reg [oM 13 0,
    oJ 14 (.bsl 1 [(.p (.int .i64 0))] 10 [(0,1,(.c (.p (.int .i64 0)))),(1,1,(.c (.p (.int .i64 1)))),(2,1,(.c (.p (.int .i64 2)))),(3,1,(.c (.p (.int .i64 3)))),(4,1,(.c (.p (.int .i64 5)))),(5,1,(.c (.p (.int .i64 7)))),(6,1,(.c (.p (.int .i64 15)))),(7,1,(.c (.p (.int .i64 16)))),(8,1,(.c (.p (.int .i64 100)))),(9,1,(.c (.p (.int .i64 255))))]),
    oJ 15 (.call aq [(.t 13),(.t 14)]),
    oJ 16 (.bld [(.p (.int .i64 0)),(.p (.int .i64 0)),(.p (.str [])),.nils] [(0,1,(.c (.p (.int .i64 1)))),(1,1,(.t 15))]),
    ⟨none,none,.st 4 (.t 4) (.t 16)⟩])
  (.ret))
  (.skip)))
 (.seq (.reg [oM 17 0,
   oM 18 1,
   oJ 19 (.call aG [(.t 17),(.t 18)]),
   oJ 20 (.bld [(.p (.int .i64 0)),(.p (.int .i64 0)),(.p (.str [])),.nils] [(0,1,(.c (.p (.int .i64 2)))),(2,1,(.t 19))]),
   ⟨none,none,.st 4 (.t 4) (.t 20)⟩])
 (.ret)))⟩
theorem pO:aj Tryz.prog dE=some fQ:=by kernel_rfl
def eF:FK:=⟨47,[.c 6 (some 4)],
 .seq (.reg [oJ 6 (.alloc [(.p (.int .i64 0)),(.p (.int .i64 0)),(.p (.str [])),.nils])])
 (.seq (.seq (.reg [oM 8 2,
   oJ 9 (.bin .lss (.t 8) (.c (.p (.int .i64 2)))),
   oM 10 9,
   ⟨(some 11),some (10,false),.mov (.t 0)⟩,
   ⟨(some 12),some (10,false),.call af [(.t 11),(.c (.p (.int .i64 4)))]⟩,
   ⟨(some 13),some (10,false),.bin .eql (.t 12) (.c (.p (.int .i64 0)))⟩,
   oJ 14 (.pick (.t 10) (.c (.p (.bool true))) (.t 13))])
 (.cond (.t 14)
  (.seq (.reg [oM 15 0,
    oM 16 1,
    oJ 17 (.call dE [(.t 15),(.t 16)]),
    ⟨none,none,.st 4 (.t 6) (.t 17)⟩])
  (.ret))
  (.skip)))
 (.seq (.seq (.reg [oM 18 0,
   oJ 19 (.call af [(.t 18),(.c (.p (.int .i64 7)))]),
   oJ 20 (.bin .eql (.t 19) (.c (.p (.int .i64 0))))])
 (.cond (.t 20)
  (.seq (.reg [oM 21 0,
    oJ 22 (.bsl 1 [(.p (.int .i64 0))] 3 [(0,1,(.c (.p (.int .i64 11)))),(1,1,(.c (.p (.int .i64 12)))),(2,1,(.c (.p (.int .i64 11))))]),
    oJ 23 (.call aq [(.t 21),(.t 22)]),
    oM 24 0,
    oM 25 1,
    oM 26 2,
    oJ 27 (.bin .sub (.t 26) (.c (.p (.int .i64 1)))),
    oJ 28 (.call be [(.t 24),(.t 25),(.t 27)]),
    oJ 29 (.bsl 4 [(.p (.int .i64 0)),(.p (.int .i64 0)),(.p (.str [])),.nils] 1 [(0,4,(.t 28))]),
    oJ 30 (.bld [(.p (.int .i64 0)),(.p (.int .i64 0)),(.p (.str [])),.nils] [(0,1,(.t 23)),(3,1,(.t 29))]),
    ⟨none,none,.st 4 (.t 6) (.t 30)⟩])
  (.ret))
  (.skip)))
 (.seq (.reg [oM 31 0,
   oJ 32 (.bsl 1 [(.p (.int .i64 0))] 9 [(0,1,(.c (.p (.int .i64 3)))),(1,1,(.c (.p (.int .i64 3)))),(2,1,(.c (.p (.int .i64 4)))),(3,1,(.c (.p (.int .i64 5)))),(4,1,(.c (.p (.int .i64 6)))),(5,1,(.c (.p (.int .i64 7)))),(6,1,(.c (.p (.int .i64 8)))),(7,1,(.c (.p (.int .i64 9)))),(8,1,(.c (.p (.int .i64 10))))]),
   oJ 33 (.call aq [(.t 31),(.t 32)]),
   oM 7 33])
 (.seq (.reg [oM 34 7,
   oM 35 0,
   oM 36 1,
   oM 37 2,
   oJ 38 (.bin .sub (.t 37) (.c (.p (.int .i64 1)))),
   oJ 39 (.call be [(.t 35),(.t 36),(.t 38)]),
   oM 40 0,
   oM 41 1,
   oM 42 2,
   oJ 43 (.bin .sub (.t 42) (.c (.p (.int .i64 1)))),
   oJ 44 (.call be [(.t 40),(.t 41),(.t 43)]),
   oJ 45 (.bsl 4 [(.p (.int .i64 0)),(.p (.int .i64 0)),(.p (.str [])),.nils] 2 [(0,4,(.t 39)),(4,4,(.t 44))]),
   oJ 46 (.bld [(.p (.int .i64 0)),(.p (.int .i64 0)),(.p (.str [])),.nils] [(0,1,(.t 34)),(3,1,(.t 45))]),
   ⟨none,none,.st 4 (.t 6) (.t 46)⟩])
 (.ret)))))⟩
theorem lb:aj Tryz.prog be=some eF:=by kernel_rfl
def ky:FK:=⟨99,[.c 4 (some 4)],
 .seq (.reg [oJ 4 (.alloc [(.p (.int .i64 0)),(.p (.int .i64 0)),(.p (.str [])),.nils])])
 (.seq (.reg [oJ 5 (.mov (.c .any)),
   oM 9 0,
   oN 10 9,
   oF 11 0 10,
   oM 13 0,
   oN 14 13,
   oF 15 2 14,
   oM 17 1,
   oL 12 11,
   oL 16 15,
   oJ 18 (.call be [(.t 12),(.t 16),(.t 17)]),
   oJ 5 (.alloc [(.p (.int .i64 0)),(.p (.int .i64 0)),(.p (.str [])),.nils]),
   ⟨none,none,.st 4 (.t 5) (.t 18)⟩])
 (.seq (.seq (.reg [oM 19 0,
   oN 20 19,
   oF 21 1 20,
   oL 22 21,
   oJ 23 (.len false (.t 22)),
   oJ 24 (.bin .eql (.t 23) (.c (.p (.int .i64 0)))),
   oM 25 24,
   ⟨(some 26),some (25,false),.mov (.t 0)⟩,
   ⟨(some 27),some (25,false),.nilck (.t 26)⟩,
   ⟨(some 28),some (25,false),.fldA 0 (.t 27)⟩,
   ⟨(some 29),some (25,false),.ld none (.t 28)⟩,
   ⟨(some 30),some (25,false),.call af [(.t 29),(.c (.p (.int .i64 4)))]⟩,
   ⟨(some 31),some (25,false),.bin .gtr (.t 30) (.c (.p (.int .i64 0)))⟩,
   oJ 32 (.pick (.t 25) (.c (.p (.bool true))) (.t 31))])
 (.cond (.t 32)
  (.seq (.reg [oJ 33 (.ld (some 4) (.t 5)),
    ⟨none,none,.st 4 (.t 4) (.t 33)⟩])
  (.ret))
  (.skip)))
 (.seq (.reg [oJ 6 (.mov (.c .any)),
   oM 34 0,
   oN 35 34,
   oF 36 1 35,
   oM 38 0,
   oN 39 38,
   oF 40 0 39,
   oM 42 0,
   oN 43 42,
   oF 44 1 43,
   oL 37 36,
   oL 41 40,
   oL 45 44,
   oJ 46 (.len false (.t 45)),
   oJ 47 (.call af [(.t 41),(.t 46)]),
   ⟨none,none,.chk none 36 37⟩,
   oJ 48 (.idxS 3 (.t 37) (.t 47)),
   oJ 49 (.ld (some 3) (.t 48)),
   oJ 6 (.alloc [(.p (.str [])),.nils,.nils]),
   ⟨none,none,.st 3 (.t 6) (.t 49)⟩])
 (.seq (.reg [oF 50 0 6,
   oL 51 50,
   oJ 52 (.bld [(.p (.int .i64 0)),(.p (.int .i64 0)),(.p (.str [])),.nils] [(0,1,(.c (.p (.int .i64 13)))),(2,1,(.t 51))]),
   oJ 7 (.alloc [(.p (.int .i64 0)),(.p (.int .i64 0)),(.p (.str [])),.nils]),
   ⟨none,none,.st 4 (.t 7) (.t 52)⟩])
 (.seq (.seq (.reg [oK 8 0])
 (.blk 0 (.loop (.seq (.seq (.reg [oM 53 8,
   oF 54 1 6,
   oL 55 54,
   oJ 56 (.len false (.t 55)),
   oJ 57 (.bin .lss (.t 53) (.t 56))])
 (.cond (.t 57)
  (.skip)
  (.exit 0)))
 (.seq (.blk 1 (.reg [oF 60 3 7,
   oM 62 0,
   oN 63 62,
   oF 64 0 63,
   oM 66 0,
   oN 67 66,
   oF 68 2 67,
   oL 61 60,
   oL 65 64,
   oL 69 68,
   oJ 70 (.call be [(.t 65),(.t 69),(.c (.p (.int .i64 2)))]),
   ⟨none,none,.chk none 60 61⟩,
   oJ 71 (.bslP 4 [(.p (.int .i64 0)),(.p (.int .i64 0)),(.p (.str [])),.nils] 1 [(0,4,(.t 70))]),
   oJ 72 (.app 4 56 (.t 61) (.t 71)),
   oF 73 3 7,
   oS 73 72]))
 (.reg [oM 58 8,
   oJ 59 (.bin .add (.t 58) (.c (.p (.int .i64 1)))),
   oM 8 59]))))))
 (.seq (.seq (.reg [oM 74 0,
   oN 75 74,
   oF 76 0 75,
   oL 77 76,
   oJ 78 (.call af [(.t 77),(.c (.p (.int .i64 2)))]),
   oJ 79 (.bin .eql (.t 78) (.c (.p (.int .i64 0))))])
 (.cond (.t 79)
  (.seq (.reg [oJ 80 (.ld (some 4) (.t 7)),
    ⟨none,none,.st 4 (.t 4) (.t 80)⟩])
  (.ret))
  (.skip)))
 (.seq (.reg [oM 81 0,
   oN 82 81,
   oF 83 0 82,
   oJ 85 (.bslP 1 [(.p (.int .i64 0))] 4 [(0,1,(.c (.p (.int .i64 3)))),(1,1,(.c (.p (.int .i64 4)))),(2,1,(.c (.p (.int .i64 8)))),(3,1,(.c (.p (.int .i64 10))))]),
   oM 88 0,
   oN 89 88,
   oF 90 0 89,
   oM 92 0,
   oN 93 92,
   oF 94 2 93,
   oL 84 83,
   oJ 87 (.ld (some 4) (.t 7)),
   oL 91 90,
   oL 95 94,
   oJ 86 (.call aq [(.t 84),(.t 85)]),
   ⟨none,none,.chk (some 4) 7 87⟩,
   ⟨none,none,.chk none 90 91⟩,
   ⟨none,none,.chk none 94 95⟩,
   oJ 96 (.call be [(.t 91),(.t 95),(.c (.p (.int .i64 2)))]),
   ⟨none,none,.chk (some 4) 7 87⟩,
   oJ 97 (.bsl 4 [(.p (.int .i64 0)),(.p (.int .i64 0)),(.p (.str [])),.nils] 2 [(0,4,(.t 87)),(4,4,(.t 96))]),
   oJ 98 (.bld [(.p (.int .i64 0)),(.p (.int .i64 0)),(.p (.str [])),.nils] [(0,1,(.t 86)),(3,1,(.t 97))]),
   ⟨none,none,.st 4 (.t 4) (.t 98)⟩])
 (.ret))))))))⟩
theorem qZ:aj Tryz.prog aU=some ky:=by kernel_rfl
def jV:FK:=⟨46,[.t 2],
 .seq (.reg [oJ 2 (.mov (.c (.p (.str []))))])
 (.seq (.reg [oM 3 0,
   oM 4 0,
   oN 5 4,
   oF 6 3 5,
   oL 7 6,
   oJ 8 (.bin .add (.t 7) (.c (.p (.int .i64 1)))),
   oN 9 3,
   oF 10 3 9,
   oS 10 8])
 (.seq (.seq (.reg [oM 11 0,
   oN 12 11,
   oF 13 0 12,
   oL 14 13,
   oJ 15 (.call af [(.t 14),(.c (.p (.int .i64 9)))]),
   oJ 16 (.bin .eql (.t 15) (.c (.p (.int .i64 0)))),
   oM 17 16,
   ⟨(some 18),some (17,true),.mov (.t 0)⟩,
   ⟨(some 19),some (17,true),.nilck (.t 18)⟩,
   ⟨(some 20),some (17,true),.fldA 2 (.t 19)⟩,
   ⟨(some 21),some (17,true),.ld none (.t 20)⟩,
   ⟨(some 22),some (17,true),.len false (.t 21)⟩,
   ⟨(some 23),some (17,true),.bin .gtr (.t 22) (.c (.p (.int .i64 0)))⟩,
   oJ 24 (.pick (.t 17) (.t 23) (.c (.p (.bool false))))])
 (.cond (.t 24)
  (.seq (.reg [oM 25 0,
    oN 26 25,
    oF 27 0 26,
    oM 29 0,
    oN 30 29,
    oF 31 2 30,
    oL 28 27,
    oL 32 31,
    oJ 33 (.call aG [(.t 28),(.t 32)]),
    oM 2 33])
  (.ret))
  (.skip)))
 (.seq (.reg [oM 34 0,
   oN 35 34,
   oF 36 3 35,
   oM 39 0,
   oN 40 39,
   oF 41 3 40,
   oL 37 36,
   oJ 38 (.bin .rem (.t 37) (.c (.p (.int .i64 24)))),
   oL 42 41,
   oJ 43 (.bin .rem (.t 42) (.c (.p (.int .i64 24)))),
   oJ 44 (.bin .add (.t 43) (.c (.p (.int .i64 1)))),
   oJ 45 (.slStr (.c (.p (.str [97,98,99,100,101,103,104,105,106,107,108,109,110,112,113,114,115,116,117,118,119,120,121,122]))) (some (.t 38)) (some (.t 44))),
   oM 2 45])
 (.ret))))⟩
theorem qc:aj Tryz.prog gn=some jV:=by kernel_rfl
def iH:FK:=⟨24,[.c 4 (some 5)],
 .seq (.reg [oJ 3 (.box 4 (.t 1)),
  oJ 4 (.alloc [(.p (.int .i64 0)),(.p (.str [])),.nils,.nils,.nils])])
 (.seq (.reg [oM 6 0,
   oJ 7 (.call gn [(.t 6)]),
   oM 5 7])
 (.seq (.reg [oM 8 0,
   oJ 9 (.bsl 1 [(.p (.str []))] 0 []),
   oM 10 0,
   oN 11 10,
   oF 12 2 11,
   oL 13 12,
   oJ 14 (.app 1 16 (.t 9) (.t 13)),
   oM 15 5,
   oJ 16 (.bsl 1 [(.p (.str []))] 1 [(0,1,(.t 15))]),
   oJ 17 (.app 1 16 (.t 14) (.t 16)),
   oN 18 8,
   oF 19 2 18,
   oS 19 17])
 (.seq (.reg [oM 20 5,
   oJ 21 (.ld (some 4) (.t 3)),
   oJ 22 (.bsl 4 [(.p (.int .i64 0)),(.p (.int .i64 0)),(.p (.str [])),.nils] 1 [(0,4,(.t 21))]),
   oJ 23 (.bld [(.p (.int .i64 0)),(.p (.str [])),.nils,.nils,.nils] [(0,1,(.c (.p (.int .i64 1)))),(1,1,(.t 20)),(2,1,(.t 22))]),
   ⟨none,none,.st 5 (.t 4) (.t 23)⟩])
 (.ret))))⟩
theorem lv:aj Tryz.prog cU=some iH:=by kernel_rfl
def kG:FK:=⟨14,[.c 2 (some 4)],
 .seq (.reg [oJ 2 (.alloc [(.p (.int .i64 0)),(.p (.int .i64 0)),(.p (.str [])),.nils])])
 (.seq (.reg [oM 3 0,
   oM 5 0,
   oN 6 5,
   oF 7 0 6,
   oJ 9 (.bslP 1 [(.p (.int .i64 0))] 6 [(0,1,(.c (.p (.int .i64 16)))),(1,1,(.c (.p (.int .i64 16)))),(2,1,(.c (.p (.int .i64 16)))),(3,1,(.c (.p (.int .i64 8)))),(4,1,(.c (.p (.int .i64 17)))),(5,1,(.c (.p (.int .i64 0))))]),
   oL 8 7,
   oJ 4 (.call aU [(.t 3),(.c (.p (.int .i64 2)))]),
   ⟨none,none,.chk none 7 8⟩,
   oJ 10 (.call aq [(.t 8),(.t 9)]),
   oJ 11 (.bld [(.p (.int .i64 0)),(.p (.int .i64 0)),(.p (.str [])),.nils] [(0,1,(.c (.p (.int .i64 1)))),(1,1,(.t 10))]),
   oJ 12 (.bsl 4 [(.p (.int .i64 0)),(.p (.int .i64 0)),(.p (.str [])),.nils] 2 [(0,4,(.t 4)),(4,4,(.t 11))]),
   oJ 13 (.bld [(.p (.int .i64 0)),(.p (.int .i64 0)),(.p (.str [])),.nils] [(0,1,(.c (.p (.int .i64 7)))),(3,1,(.t 12))]),
   ⟨none,none,.st 4 (.t 2) (.t 13)⟩])
 (.ret))⟩
theorem qr:aj Tryz.prog eO=some kG:=by kernel_rfl
def F_spec_l3Gen_loop:FK:=⟨50,[.t 4],
 .seq (.reg [oJ 4 (.mov (.c .nils))])
 (.seq (.reg [oM 9 0,
   oM 10 0,
   oN 11 10,
   oF 12 0 11,
   oL 13 12,
   oJ 14 (.bsl 1 [(.p (.int .i64 0))] 5 [(0,1,(.c (.p (.int .i64 2)))),(1,1,(.c (.p (.int .i64 3)))),(2,1,(.c (.p (.int .i64 1)))),(3,1,(.c (.p (.int .i64 0)))),(4,1,(.c (.p (.int .i64 5))))]),
   oJ 15 (.call aq [(.t 13),(.t 14)]),
   oJ 16 (.bld [(.p (.int .i64 0)),(.p (.int .i64 0)),(.p (.str [])),.nils] [(0,1,(.c (.p (.int .i64 1)))),(1,1,(.t 15))]),
   oJ 17 (.call cU [(.t 9),(.t 16)]),
   oJ 5 (.alloc [(.p (.int .i64 0)),(.p (.str [])),.nils,.nils,.nils]),
   ⟨none,none,.st 5 (.t 5) (.t 17)⟩])
 (.seq (.reg [oF 18 1 5,
   oL 19 18,
   oJ 20 (.bld [(.p (.int .i64 0)),(.p (.int .i64 0)),(.p (.str [])),.nils] [(0,1,(.c (.p (.int .i64 2)))),(2,1,(.t 19))]),
   oJ 6 (.alloc [(.p (.int .i64 0)),(.p (.int .i64 0)),(.p (.str [])),.nils]),
   ⟨none,none,.st 4 (.t 6) (.t 20)⟩])
 (.seq (.reg [oM 21 0,
   oM 22 1,
   oJ 23 (.bin .sub (.t 22) (.c (.p (.int .i64 1)))),
   oJ 24 (.call aQ [(.t 21),(.t 23)]),
   oM 7 24])
 (.seq (.reg [oF 25 1 5,
   oL 26 25,
   oJ 27 (.ld (some 4) (.t 6)),
   oJ 28 (.bld [(.p (.int .i64 0)),(.p (.int .i64 0)),(.p (.str [])),.nils] [(0,1,(.c (.p (.int .i64 1)))),(1,1,(.c (.p (.int .i64 1))))]),
   oJ 29 (.bsl 4 [(.p (.int .i64 0)),(.p (.int .i64 0)),(.p (.str [])),.nils] 2 [(0,4,(.t 27)),(4,4,(.t 28))]),
   oJ 30 (.bld [(.p (.int .i64 0)),(.p (.int .i64 0)),(.p (.str [])),.nils] [(0,1,(.c (.p (.int .i64 4)))),(3,1,(.t 29))]),
   oJ 31 (.bsl 4 [(.p (.int .i64 0)),(.p (.int .i64 0)),(.p (.str [])),.nils] 1 [(0,4,(.t 30))]),
   oJ 32 (.bld [(.p (.int .i64 0)),(.p (.str [])),.nils,.nils,.nils] [(0,1,(.c (.p (.int .i64 2)))),(1,1,(.t 26)),(2,1,(.t 31))]),
   oJ 8 (.alloc [(.p (.int .i64 0)),(.p (.str [])),.nils,.nils,.nils]),
   ⟨none,none,.st 5 (.t 8) (.t 32)⟩])
 (.seq (.reg [oM 33 0,
   oM 34 0,
   oN 35 34,
   oF 36 4 35,
   oL 37 36,
   oJ 38 (.bin .sub (.t 37) (.c (.p (.int .i64 2)))),
   oN 39 33,
   oF 40 4 39,
   oS 40 38])
 (.seq (.reg [oM 44 7,
   oJ 41 (.ld (some 5) (.t 5)),
   oJ 42 (.ld (some 4) (.t 6)),
   oJ 43 (.bslP 4 [(.p (.int .i64 0)),(.p (.int .i64 0)),(.p (.str [])),.nils] 1 [(0,4,(.t 42))]),
   oJ 45 (.ld (some 5) (.t 8)),
   oJ 46 (.bslP 5 [(.p (.int .i64 0)),(.p (.str [])),.nils,.nils,.nils] 1 [(0,5,(.t 45))]),
   oJ 47 (.app 5 96 (.t 44) (.t 46)),
   ⟨none,none,.chk (some 5) 5 41⟩,
   ⟨none,none,.chk (some 4) 6 42⟩,
   oJ 48 (.bld [(.p (.int .i64 0)),(.p (.str [])),.nils,.nils,.nils] [(0,1,(.c (.p (.int .i64 6)))),(2,1,(.t 43)),(3,1,(.t 47))]),
   oJ 49 (.bsl 5 [(.p (.int .i64 0)),(.p (.str [])),.nils,.nils,.nils] 2 [(0,5,(.t 41)),(5,5,(.t 48))]),
   oM 4 49])
 (.ret)))))))⟩
theorem rh:aj Tryz.prog gW=some F_spec_l3Gen_loop:=by kernel_rfl
def kE:FK:=⟨128,[.t 4],
 .seq (.reg [oJ 4 (.mov (.c .nils))])
 (.seq (.reg [oM 7 0,
   oM 8 0,
   oN 9 8,
   oF 10 4 9,
   oL 11 10,
   oJ 12 (.bin .sub (.t 11) (.c (.p (.int .i64 1)))),
   oN 13 7,
   oF 14 4 13,
   oS 14 12])
 (.seq (.reg [oM 15 0,
   oN 16 15,
   oF 17 0 16,
   oL 18 17,
   oJ 19 (.call af [(.t 18),(.c (.p (.int .i64 13)))]),
   oM 5 19])
 (.seq (.blk 0 (.seq (.reg [oM 21 5,
   oJ 22 (.bin .lss (.t 21) (.c (.p (.int .i64 3)))),
   oM 23 22,
   ⟨(some 24),some (23,true),.mov (.t 0)⟩,
   ⟨(some 25),some (23,true),.nilck (.t 24)⟩,
   ⟨(some 26),some (23,true),.fldA 2 (.t 25)⟩,
   ⟨(some 27),some (23,true),.ld none (.t 26)⟩,
   ⟨(some 28),some (23,true),.len false (.t 27)⟩,
   ⟨(some 29),some (23,true),.bin .gtr (.t 28) (.c (.p (.int .i64 0)))⟩,
   oJ 30 (.pick (.t 23) (.t 29) (.c (.p (.bool false)))),
   oM 20 30])
 (.cond (.t 20)
  (.seq (.reg [oM 31 0,
    oN 32 31,
    oF 33 0 32,
    oM 35 0,
    oN 36 35,
    oF 37 2 36,
    oM 40 0,
    oL 34 33,
    oL 38 37,
    oJ 39 (.call aG [(.t 34),(.t 38)]),
    oJ 41 (.call aU [(.t 40),(.c (.p (.int .i64 3)))]),
    oJ 42 (.bsl 4 [(.p (.int .i64 0)),(.p (.int .i64 0)),(.p (.str [])),.nils] 1 [(0,4,(.t 41))]),
    oJ 43 (.bld [(.p (.int .i64 0)),(.p (.str [])),.nils,.nils,.nils] [(0,1,(.c (.p (.int .i64 2)))),(1,1,(.t 39)),(2,1,(.t 42))]),
    oJ 44 (.bsl 5 [(.p (.int .i64 0)),(.p (.str [])),.nils,.nils,.nils] 1 [(0,5,(.t 43))]),
    oM 4 44])
  (.ret))
  (.seq (.reg [oM 46 5,
    oJ 47 (.bin .lss (.t 46) (.c (.p (.int .i64 5)))),
    oM 45 47])
  (.cond (.t 45)
   (.seq (.reg [oM 48 0,
     oM 49 0,
     oJ 50 (.call aU [(.t 49),(.c (.p (.int .i64 3)))]),
     oJ 51 (.call cU [(.t 48),(.t 50)]),
     oJ 52 (.bsl 5 [(.p (.int .i64 0)),(.p (.str [])),.nils,.nils,.nils] 1 [(0,5,(.t 51))]),
     oM 4 52])
   (.ret))
   (.seq (.reg [oM 54 5,
     oJ 55 (.bin .lss (.t 54) (.c (.p (.int .i64 7)))),
     oM 56 55,
     ⟨(some 57),some (56,false),.mov (.t 1)⟩,
     ⟨(some 58),some (56,false),.bin .lss (.t 57) (.c (.p (.int .i64 2)))⟩,
     oJ 59 (.pick (.t 56) (.c (.p (.bool true))) (.t 58)),
     oM 53 59])
   (.cond (.t 53)
    (.seq (.reg [oM 60 0,
      oJ 61 (.call aU [(.t 60),(.c (.p (.int .i64 3)))]),
      oJ 62 (.bsl 4 [(.p (.int .i64 0)),(.p (.int .i64 0)),(.p (.str [])),.nils] 1 [(0,4,(.t 61))]),
      oJ 63 (.bld [(.p (.int .i64 0)),(.p (.str [])),.nils,.nils,.nils] [(0,1,(.c (.p (.int .i64 3)))),(2,1,(.t 62))]),
      oJ 64 (.bsl 5 [(.p (.int .i64 0)),(.p (.str [])),.nils,.nils,.nils] 1 [(0,5,(.t 63))]),
      oM 4 64])
    (.ret))
    (.seq (.reg [oM 66 5,
      oJ 67 (.bin .eql (.t 66) (.c (.p (.int .i64 7)))),
      oM 65 67])
    (.cond (.t 65)
     (.seq (.reg [oM 68 0,
       oJ 69 (.call eO [(.t 68)]),
       oM 70 0,
       oJ 71 (.call aU [(.t 70),(.c (.p (.int .i64 2)))]),
       oJ 72 (.bsl 4 [(.p (.int .i64 0)),(.p (.int .i64 0)),(.p (.str [])),.nils] 2 [(0,4,(.t 69)),(4,4,(.t 71))]),
       oJ 73 (.bld [(.p (.int .i64 0)),(.p (.str [])),.nils,.nils,.nils] [(0,1,(.c (.p (.int .i64 4)))),(2,1,(.t 72))]),
       oJ 74 (.bsl 5 [(.p (.int .i64 0)),(.p (.str [])),.nils,.nils,.nils] 1 [(0,5,(.t 73))]),
       oM 4 74])
     (.ret))
     (.seq (.reg [oM 76 5,
       oJ 77 (.bin .eql (.t 76) (.c (.p (.int .i64 8)))),
       oM 75 77])
     (.cond (.t 75)
      (.seq (.reg [oM 78 0,
        oJ 79 (.call eO [(.t 78)]),
        oJ 80 (.bsl 4 [(.p (.int .i64 0)),(.p (.int .i64 0)),(.p (.str [])),.nils] 1 [(0,4,(.t 79))]),
        oJ 81 (.bld [(.p (.int .i64 0)),(.p (.int .i64 0)),(.p (.str [])),.nils] [(0,1,(.c (.p (.int .i64 12)))),(3,1,(.t 80))]),
        oJ 82 (.bsl 4 [(.p (.int .i64 0)),(.p (.int .i64 0)),(.p (.str [])),.nils] 1 [(0,4,(.t 81))]),
        oJ 83 (.bld [(.p (.int .i64 0)),(.p (.str [])),.nils,.nils,.nils] [(0,1,(.c (.p (.int .i64 3)))),(2,1,(.t 82))]),
        oJ 84 (.bsl 5 [(.p (.int .i64 0)),(.p (.str [])),.nils,.nils,.nils] 1 [(0,5,(.t 83))]),
        oM 4 84])
      (.ret))
      (.seq (.reg [oM 86 5,
        oJ 87 (.bin .lss (.t 86) (.c (.p (.int .i64 11)))),
        oM 85 87])
      (.cond (.t 85)
       (.seq (.reg [oM 88 0,
         oJ 89 (.call aU [(.t 88),(.c (.p (.int .i64 3)))]),
         oJ 90 (.bsl 4 [(.p (.int .i64 0)),(.p (.int .i64 0)),(.p (.str [])),.nils] 1 [(0,4,(.t 89))]),
         oM 91 0,
         oM 92 1,
         oJ 93 (.bin .sub (.t 92) (.c (.p (.int .i64 1)))),
         oJ 94 (.call aQ [(.t 91),(.t 93)]),
         oJ 95 (.bld [(.p (.int .i64 0)),(.p (.str [])),.nils,.nils,.nils] [(0,1,(.c (.p (.int .i64 5)))),(2,1,(.t 90)),(3,1,(.t 94))]),
         oJ 6 (.alloc [(.p (.int .i64 0)),(.p (.str [])),.nils,.nils,.nils]),
         ⟨none,none,.st 5 (.t 6) (.t 95)⟩])
       (.seq (.seq (.reg [oM 96 0,
         oN 97 96,
         oF 98 0 97,
         oL 99 98,
         oJ 100 (.call af [(.t 99),(.c (.p (.int .i64 2)))]),
         oJ 101 (.bin .eql (.t 100) (.c (.p (.int .i64 0))))])
       (.cond (.t 101)
        (.reg [oM 102 0,
          oM 103 1,
          oJ 104 (.bin .sub (.t 103) (.c (.p (.int .i64 1)))),
          oJ 105 (.call aQ [(.t 102),(.t 104)]),
          oF 106 4 6,
          oS 106 105])
        (.skip)))
       (.seq (.reg [oJ 107 (.ld (some 5) (.t 6)),
         oJ 108 (.bsl 5 [(.p (.int .i64 0)),(.p (.str [])),.nils,.nils,.nils] 1 [(0,5,(.t 107))]),
         oM 4 108])
       (.ret))))
       (.seq (.reg [oM 110 5,
         oJ 111 (.bin .eql (.t 110) (.c (.p (.int .i64 11)))),
         oM 112 111,
         ⟨(some 113),some (112,true),.mov (.t 0)⟩,
         ⟨(some 114),some (112,true),.nilck (.t 113)⟩,
         ⟨(some 115),some (112,true),.fldA 0 (.t 114)⟩,
         ⟨(some 116),some (112,true),.ld none (.t 115)⟩,
         ⟨(some 117),some (112,true),.call af [(.t 116),(.c (.p (.int .i64 3)))]⟩,
         ⟨(some 118),some (112,true),.bin .eql (.t 117) (.c (.p (.int .i64 0)))⟩,
         oJ 119 (.pick (.t 112) (.t 118) (.c (.p (.bool false)))),
         oM 109 119])
       (.cond (.t 109)
        (.seq (.reg [oM 120 0,
          oJ 121 (.call aU [(.t 120),(.c (.p (.int .i64 2)))]),
          oJ 122 (.bsl 4 [(.p (.int .i64 0)),(.p (.int .i64 0)),(.p (.str [])),.nils] 1 [(0,4,(.t 121))]),
          oJ 123 (.bld [(.p (.int .i64 0)),(.p (.str [])),.nils,.nils,.nils] [(0,1,(.c (.p (.int .i64 7)))),(2,1,(.t 122))]),
          oJ 124 (.bsl 5 [(.p (.int .i64 0)),(.p (.str [])),.nils,.nils,.nils] 1 [(0,5,(.t 123))]),
          oM 4 124])
        (.ret))
        (.skip))))))))))))))))
 (.seq (.reg [oM 125 0,
   oM 126 1,
   oJ 127 (.call gW [(.t 125),(.t 126)]),
   oM 4 127])
 (.ret)))))⟩
theorem qB:aj Tryz.prog gR=some kE:=by kernel_rfl
def kj:FK:=⟨40,[.t 4],
 .seq (.reg [oJ 4 (.mov (.c .nils))])
 (.seq (.reg [oM 8 0,
   oN 9 8,
   oF 10 2 9,
   oL 11 10,
   oM 5 11])
 (.seq (.reg [oJ 12 (.bsl 5 [(.p (.int .i64 0)),(.p (.str [])),.nils,.nils,.nils] 0 []),
   oM 6 12])
 (.seq (.seq (.reg [oM 13 0,
   oN 14 13,
   oF 15 0 14,
   oL 16 15,
   oJ 17 (.bsl 1 [(.p (.int .i64 0))] 4 [(0,1,(.c (.p (.int .i64 2)))),(1,1,(.c (.p (.int .i64 3)))),(2,1,(.c (.p (.int .i64 1)))),(3,1,(.c (.p (.int .i64 4))))]),
   oJ 18 (.call aq [(.t 16),(.t 17)]),
   oM 7 18])
 (.blk 0 (.loop (.seq (.seq (.reg [oM 19 7,
   oJ 20 (.bin .gtr (.t 19) (.c (.p (.int .i64 0)))),
   oM 21 20,
   ⟨(some 22),some (21,true),.mov (.t 0)⟩,
   ⟨(some 23),some (21,true),.nilck (.t 22)⟩,
   ⟨(some 24),some (21,true),.fldA 4 (.t 23)⟩,
   ⟨(some 25),some (21,true),.ld none (.t 24)⟩,
   ⟨(some 26),some (21,true),.bin .gtr (.t 25) (.c (.p (.int .i64 0)))⟩,
   oJ 27 (.pick (.t 21) (.t 26) (.c (.p (.bool false))))])
 (.cond (.t 27)
  (.skip)
  (.exit 0)))
 (.seq (.blk 1 (.reg [oM 30 6,
   oM 31 0,
   oM 32 1,
   oJ 33 (.call gR [(.t 31),(.t 32)]),
   oJ 34 (.app 5 96 (.t 30) (.t 33)),
   oM 6 34]))
 (.reg [oM 28 7,
   oJ 29 (.bin .sub (.t 28) (.c (.p (.int .i64 1)))),
   oM 7 29]))))))
 (.seq (.reg [oM 35 0,
   oM 36 5,
   oN 37 35,
   oF 38 2 37,
   oS 38 36])
 (.seq (.reg [oM 39 6,
   oM 4 39])
 (.ret))))))⟩
theorem pZ:aj Tryz.prog aQ=some kj:=by kernel_rfl
def F_spec_l3Gen_fn:FK:=⟨61,[.c 6 (some 3)],
 .seq (.reg [oJ 6 (.alloc [(.p (.str [])),.nils,.nils])])
 (.seq (.reg [oM 8 0,
   oJ 9 (.bsl 1 [(.p (.str []))] 3 [(0,1,(.c (.p (.str [97])))),(1,1,(.c (.p (.str [98])))),(2,1,(.c (.p (.str [99]))))]),
   oM 10 2,
   oJ 11 (.slS 1 (.t 9) none (some (.t 10))),
   oN 12 8,
   oF 13 2 12,
   oS 13 11])
 (.seq (.reg [oM 14 0,
   oM 15 2,
   oJ 16 (.bin .sub (.t 15) (.c (.p (.int .i64 1)))),
   oN 17 14,
   oF 18 3 17,
   oS 18 16])
 (.seq (.reg [oM 19 1,
   oJ 20 (.bsl 1 [(.p (.str []))] 0 []),
   oM 21 0,
   oN 22 21,
   oF 23 2 22,
   oL 24 23,
   oJ 25 (.app 1 16 (.t 20) (.t 24)),
   oJ 26 (.bld [(.p (.str [])),.nils,.nils] [(0,1,(.t 19)),(1,1,(.t 25))]),
   oJ 7 (.alloc [(.p (.str [])),.nils,.nils]),
   ⟨none,none,.st 3 (.t 7) (.t 26)⟩])
 (.seq (.reg [oM 27 0,
   oJ 28 (.call aQ [(.t 27),(.c (.p (.int .i64 3)))]),
   oF 29 2 7,
   oS 29 28])
 (.seq (.seq (.reg [oM 30 0,
   oN 31 30,
   oF 32 4 31,
   oL 33 32,
   oJ 34 (.bin .gtr (.t 33) (.c (.p (.int .i64 0)))),
   oM 35 34,
   ⟨(some 36),some (35,true),.mov (.t 0)⟩,
   ⟨(some 37),some (35,true),.nilck (.t 36)⟩,
   ⟨(some 38),some (35,true),.fldA 0 (.t 37)⟩,
   ⟨(some 39),some (35,true),.ld none (.t 38)⟩,
   ⟨(some 40),some (35,true),.call af [(.t 39),(.c (.p (.int .i64 4)))]⟩,
   ⟨(some 41),some (35,true),.bin .gtr (.t 40) (.c (.p (.int .i64 0)))⟩,
   oJ 42 (.pick (.t 35) (.t 41) (.c (.p (.bool false))))])
 (.cond (.t 42)
  (.seq (.reg [oM 43 0,
    oM 44 0,
    oN 45 44,
    oF 46 4 45,
    oL 47 46,
    oJ 48 (.bin .sub (.t 47) (.c (.p (.int .i64 1)))),
    oN 49 43,
    oF 50 4 49,
    oS 50 48])
  (.reg [oF 51 2 7,
    oM 53 0,
    oL 52 51,
    oJ 54 (.call aU [(.t 53),(.c (.p (.int .i64 2)))]),
    ⟨none,none,.chk none 51 52⟩,
    oJ 55 (.bslP 4 [(.p (.int .i64 0)),(.p (.int .i64 0)),(.p (.str [])),.nils] 1 [(0,4,(.t 54))]),
    oJ 56 (.bld [(.p (.int .i64 0)),(.p (.str [])),.nils,.nils,.nils] [(0,1,(.c (.p (.int .i64 7)))),(2,1,(.t 55))]),
    oJ 57 (.bslP 5 [(.p (.int .i64 0)),(.p (.str [])),.nils,.nils,.nils] 1 [(0,5,(.t 56))]),
    oJ 58 (.app 5 96 (.t 52) (.t 57)),
    oF 59 2 7,
    oS 59 58]))
  (.skip)))
 (.seq (.reg [oJ 60 (.ld (some 3) (.t 7)),
   ⟨none,none,.st 3 (.t 6) (.t 60)⟩])
 (.ret)))))))⟩
theorem sX:aj Tryz.prog gl=some F_spec_l3Gen_fn:=by kernel_rfl
def pD:FK:=⟨69,[.c 2 (some 1)],
 .seq (.reg [oJ 2 (.alloc [.nils])])
 (.seq (.reg [oM 8 0,
   oM 9 0,
   oJ 10 (.bsl 1 [(.p (.int .i64 0))] 4 [(0,1,(.c (.p (.int .i64 14)))),(1,1,(.c (.p (.int .i64 20)))),(2,1,(.c (.p (.int .i64 8)))),(3,1,(.c (.p (.int .i64 26))))]),
   oJ 11 (.call aq [(.t 9),(.t 10)]),
   oJ 12 (.bld [.nilp,.nils,.nils,(.p (.int .i64 0)),(.p (.int .i64 0))] [(0,1,(.t 8)),(4,1,(.t 11))]),
   oJ 13 (.box 5 (.t 12)),
   oM 3 13])
 (.seq (.seq (.reg [oM 14 0,
   oJ 15 (.bsl 1 [(.p (.int .i64 0))] 4 [(0,1,(.c (.p (.int .i64 0)))),(1,1,(.c (.p (.int .i64 1)))),(2,1,(.c (.p (.int .i64 1)))),(3,1,(.c (.p (.int .i64 2))))]),
   oJ 16 (.call aq [(.t 14),(.t 15)]),
   oM 4 16])
 (.blk 0 (.loop (.seq (.seq (.reg [oM 17 4,
   oJ 18 (.bin .gtr (.t 17) (.c (.p (.int .i64 0))))])
 (.cond (.t 18)
  (.skip)
  (.exit 0)))
 (.seq (.blk 1 (.seq (.reg [oJ 5 (.mov (.c .any)),
   oM 21 3,
   oJ 22 (.bslP 1 [(.p (.str []))] 3 [(0,1,(.c (.p (.str [102])))),(1,1,(.c (.p (.str [103])))),(2,1,(.c (.p (.str [104]))))]),
   oM 23 3,
   oN 24 23,
   oF 25 1 24,
   oM 30 0,
   oL 26 25,
   oJ 27 (.len false (.t 26)),
   oJ 28 (.idxS 1 (.t 22) (.t 27)),
   oL 29 28,
   oJ 31 (.call af [(.t 30),(.c (.p (.int .i64 3)))]),
   ⟨none,none,.chk none 25 26⟩,
   ⟨none,none,.chk none 28 29⟩,
   oJ 32 (.call gl [(.t 21),(.t 29),(.t 31)]),
   oJ 5 (.alloc [(.p (.str [])),.nils,.nils]),
   ⟨none,none,.st 3 (.t 5) (.t 32)⟩])
 (.reg [oM 33 3,
   oM 34 3,
   oN 35 34,
   oF 36 1 35,
   oL 37 36,
   oJ 38 (.ld (some 3) (.t 5)),
   oJ 39 (.bslP 3 [(.p (.str [])),.nils,.nils] 1 [(0,3,(.t 38))]),
   oJ 40 (.app 3 64 (.t 37) (.t 39)),
   oN 41 33,
   oF 42 1 41,
   oS 42 40])))
 (.reg [oM 19 4,
   oJ 20 (.bin .sub (.t 19) (.c (.p (.int .i64 1)))),
   oM 4 20]))))))
 (.seq (.reg [oM 43 3,
   oM 44 0,
   oJ 45 (.bsl 1 [(.p (.int .i64 0))] 4 [(0,1,(.c (.p (.int .i64 0)))),(1,1,(.c (.p (.int .i64 1)))),(2,1,(.c (.p (.int .i64 2)))),(3,1,(.c (.p (.int .i64 1))))]),
   oJ 46 (.call aq [(.t 44),(.t 45)]),
   oJ 47 (.call gl [(.t 43),(.c (.p (.str [109]))),(.t 46)]),
   oJ 6 (.alloc [(.p (.str [])),.nils,.nils]),
   ⟨none,none,.st 3 (.t 6) (.t 47)⟩])
 (.seq (.reg [oJ 7 (.mov (.c .any)),
   oM 49 3,
   oN 50 49,
   oF 51 1 50,
   oL 52 51,
   oJ 54 (.ld (some 3) (.t 6)),
   oJ 55 (.bslP 3 [(.p (.str [])),.nils,.nils] 1 [(0,3,(.t 54))]),
   oJ 48 (.bsl 3 [(.p (.str [])),.nils,.nils] 0 []),
   ⟨none,none,.chk none 51 52⟩,
   ⟨none,none,.chk (some 3) 6 54⟩,
   oJ 53 (.app 3 64 (.t 48) (.t 52)),
   ⟨none,none,.chk (some 3) 6 54⟩,
   oJ 56 (.app 3 64 (.t 53) (.t 55)),
   oJ 57 (.bld [.nils] [(0,1,(.t 56))]),
   oJ 7 (.alloc [.nils]),
   oS 7 57])
 (.seq (.seq (.reg [oJ 58 (.ld (some 1) (.t 7)),
   oJ 59 (.call dH [(.t 58)]),
   oJ 60 (.not (.t 59))])
 (.cond (.t 60)
  (.seq (.reg [oJ 61 (.bld [(.p (.int .i64 0)),(.p (.int .i64 0)),(.p (.str [])),.nils] [(0,1,(.c (.p (.int .i64 1)))),(1,1,(.c (.p (.int .i64 1))))]),
    oJ 62 (.bsl 4 [(.p (.int .i64 0)),(.p (.int .i64 0)),(.p (.str [])),.nils] 1 [(0,4,(.t 61))]),
    oJ 63 (.bld [(.p (.int .i64 0)),(.p (.str [])),.nils,.nils,.nils] [(0,1,(.c (.p (.int .i64 3)))),(2,1,(.t 62))]),
    oJ 64 (.bsl 5 [(.p (.int .i64 0)),(.p (.str [])),.nils,.nils,.nils] 1 [(0,5,(.t 63))]),
    oJ 65 (.bld [(.p (.str [])),.nils,.nils] [(0,1,(.c (.p (.str [109])))),(2,1,(.t 64))]),
    oJ 66 (.bsl 3 [(.p (.str [])),.nils,.nils] 1 [(0,3,(.t 65))]),
    oJ 67 (.bld [.nils] [(0,1,(.t 66))]),
    oS 2 67])
  (.ret))
  (.skip)))
 (.seq (.reg [oJ 68 (.ld (some 1) (.t 7)),
   oS 2 68])
 (.ret)))))))⟩
theorem vT:aj Tryz.prog dC=some pD:=by kernel_rfl
def qA:FK:=⟨42,[.c 4 (some 4)],
 .seq (.reg [oJ 4 (.alloc [(.p (.int .i64 0)),(.p (.int .i64 0)),(.p (.str [])),.nils])])
 (.seq (.reg [oM 8 0,
   oJ 9 (.bsl 1 [(.p (.str []))] 4 [(0,1,(.c (.p (.str [97])))),(1,1,(.c (.p (.str [98])))),(2,1,(.c (.p (.str [120])))),(3,1,(.c (.p (.str [103,111]))))]),
   oM 10 1,
   oJ 11 (.call be [(.t 8),(.t 9),(.t 10)]),
   oJ 5 (.alloc [(.p (.int .i64 0)),(.p (.int .i64 0)),(.p (.str [])),.nils]),
   ⟨none,none,.st 4 (.t 5) (.t 11)⟩])
 (.seq (.seq (.reg [oM 12 0,
   oJ 13 (.call af [(.t 12),(.c (.p (.int .i64 3)))]),
   oJ 14 (.bin .gtr (.t 13) (.c (.p (.int .i64 0))))])
 (.cond (.t 14)
  (.seq (.reg [oJ 15 (.ld (some 4) (.t 5)),
    ⟨none,none,.st 4 (.t 4) (.t 15)⟩])
  (.ret))
  (.skip)))
 (.seq (.reg [oM 16 0,
   oJ 17 (.bsl 1 [(.p (.str []))] 3 [(0,1,(.c (.p (.str [102])))),(1,1,(.c (.p (.str [103])))),(2,1,(.c (.p (.str [97]))))]),
   oJ 18 (.call aG [(.t 16),(.t 17)]),
   oJ 19 (.bld [(.p (.int .i64 0)),(.p (.int .i64 0)),(.p (.str [])),.nils] [(0,1,(.c (.p (.int .i64 13)))),(2,1,(.t 18))]),
   oJ 6 (.alloc [(.p (.int .i64 0)),(.p (.int .i64 0)),(.p (.str [])),.nils]),
   ⟨none,none,.st 4 (.t 6) (.t 19)⟩])
 (.seq (.seq (.reg [oM 20 0,
   oJ 21 (.call af [(.t 20),(.c (.p (.int .i64 4)))]),
   oM 7 21])
 (.blk 0 (.loop (.seq (.seq (.reg [oM 22 7,
   oJ 23 (.bin .gtr (.t 22) (.c (.p (.int .i64 0))))])
 (.cond (.t 23)
  (.skip)
  (.exit 0)))
 (.seq (.blk 1 (.reg [oF 26 3 6,
   oM 28 0,
   oJ 29 (.bslP 1 [(.p (.str []))] 2 [(0,1,(.c (.p (.str [97])))),(1,1,(.c (.p (.str [98]))))]),
   oL 27 26,
   oJ 30 (.call be [(.t 28),(.t 29),(.c (.p (.int .i64 2)))]),
   ⟨none,none,.chk none 26 27⟩,
   oJ 31 (.bslP 4 [(.p (.int .i64 0)),(.p (.int .i64 0)),(.p (.str [])),.nils] 1 [(0,4,(.t 30))]),
   oJ 32 (.app 4 56 (.t 27) (.t 31)),
   oF 33 3 6,
   oS 33 32]))
 (.reg [oM 24 7,
   oJ 25 (.bin .sub (.t 24) (.c (.p (.int .i64 1)))),
   oM 7 25]))))))
 (.seq (.seq (.reg [oM 34 0,
   oJ 35 (.call af [(.t 34),(.c (.p (.int .i64 2)))]),
   oJ 36 (.bin .eql (.t 35) (.c (.p (.int .i64 0))))])
 (.cond (.t 36)
  (.seq (.reg [oJ 37 (.ld (some 4) (.t 6)),
    ⟨none,none,.st 4 (.t 4) (.t 37)⟩])
  (.ret))
  (.skip)))
 (.seq (.reg [oJ 38 (.ld (some 4) (.t 5)),
   oJ 39 (.ld (some 4) (.t 6)),
   oJ 40 (.bsl 4 [(.p (.int .i64 0)),(.p (.int .i64 0)),(.p (.str [])),.nils] 2 [(0,4,(.t 38)),(4,4,(.t 39))]),
   oJ 41 (.bld [(.p (.int .i64 0)),(.p (.int .i64 0)),(.p (.str [])),.nils] [(0,1,(.c (.p (.int .i64 3)))),(3,1,(.t 40))]),
   ⟨none,none,.st 4 (.t 4) (.t 41)⟩])
 (.ret)))))))⟩
theorem xn:aj Tryz.prog fj=some qA:=by kernel_rfl
def pQ:FK:=⟨40,[.c 2 (some 4)],
 .seq (.reg [oJ 2 (.alloc [(.p (.int .i64 0)),(.p (.int .i64 0)),(.p (.str [])),.nils])])
 (.seq (.reg [oM 4 0,
   oJ 5 (.call fj [(.t 4),(.c (.p (.int .i64 4)))]),
   oJ 3 (.alloc [(.p (.int .i64 0)),(.p (.int .i64 0)),(.p (.str [])),.nils]),
   ⟨none,none,.st 4 (.t 3) (.t 5)⟩])
 (.seq (.seq (.reg [oM 6 0,
   oJ 7 (.call af [(.t 6),(.c (.p (.int .i64 20)))])])
 (.blk 0 (.seq (.reg [oJ 9 (.bin .eql (.t 7) (.c (.p (.int .i64 0)))),
   oM 8 9])
 (.cond (.t 8)
  (.reg [oM 10 0,
    oJ 11 (.bsl 1 [(.p (.int .i64 0))] 3 [(0,1,(.c (.p (.int .i64 (-1))))),(1,1,(.c (.p (.int .i64 256)))),(2,1,(.c (.p (.int .i64 3))))]),
    oJ 12 (.call aq [(.t 10),(.t 11)]),
    oF 13 1 3,
    oS 13 12])
  (.seq (.reg [oJ 15 (.bin .eql (.t 7) (.c (.p (.int .i64 1)))),
    oM 14 15])
  (.cond (.t 14)
   (.reg [oM 16 0,
     oJ 17 (.bsl 1 [(.p (.str []))] 5 [(0,1,(.c (.p (.str [])))),(1,1,(.c (.p (.str [100,111])))),(2,1,(.c (.p (.str [65])))),(3,1,(.c (.p (.str [97,98,99,100,101])))),(4,1,(.c (.p (.str [113]))))]),
     oJ 18 (.call aG [(.t 16),(.t 17)]),
     oF 19 2 3,
     oS 19 18])
   (.seq (.reg [oJ 21 (.bin .eql (.t 7) (.c (.p (.int .i64 2)))),
     oM 20 21])
   (.cond (.t 20)
    (.reg [oM 22 0,
      oJ 23 (.bsl 1 [(.p (.int .i64 0))] 5 [(0,1,(.c (.p (.int .i64 0)))),(1,1,(.c (.p (.int .i64 14)))),(2,1,(.c (.p (.int .i64 (-1))))),(3,1,(.c (.p (.int .i64 5)))),(4,1,(.c (.p (.int .i64 11))))]),
      oJ 24 (.call aq [(.t 22),(.t 23)]),
      oF 25 0 3,
      oS 25 24])
    (.seq (.reg [oJ 27 (.bin .eql (.t 7) (.c (.p (.int .i64 3)))),
      oM 26 27])
    (.cond (.t 26)
     (.reg [oF 28 3 3,
       oM 30 0,
       oL 29 28,
       oJ 31 (.call dE [(.t 30),(.c .nils)]),
       ⟨none,none,.chk none 28 29⟩,
       oJ 32 (.bslP 4 [(.p (.int .i64 0)),(.p (.int .i64 0)),(.p (.str [])),.nils] 1 [(0,4,(.t 31))]),
       oJ 33 (.app 4 56 (.t 29) (.t 32)),
       oF 34 3 3,
       oS 34 33])
     (.seq (.reg [oJ 36 (.bin .eql (.t 7) (.c (.p (.int .i64 4)))),
       oM 35 36])
     (.cond (.t 35)
      (.reg [oM 37 0,
        oJ 38 (.call fj [(.t 37),(.c (.p (.int .i64 7)))]),
        ⟨none,none,.st 4 (.t 3) (.t 38)⟩])
      (.skip)))))))))))))
 (.seq (.reg [oJ 39 (.ld (some 4) (.t 3)),
   ⟨none,none,.st 4 (.t 2) (.t 39)⟩])
 (.ret))))⟩
theorem wg:aj Tryz.prog iN=some pQ:=by kernel_rfl
def F_spec_l3Bent:FK:=⟨145,[.c 2 (some 1)],
 .seq (.reg [oJ 2 (.alloc [.nils])])
 (.seq (.reg [oM 9 0,
   oJ 10 (.call dC [(.t 9)]),
   oJ 3 (.alloc [.nils]),
   oS 3 10])
 (.seq (.reg [oF 11 0 3,
   oL 12 11,
   oF 13 0 3,
   oL 14 13,
   oJ 15 (.len false (.t 14)),
   oJ 16 (.bin .sub (.t 15) (.c (.p (.int .i64 1)))),
   oJ 17 (.idxS 3 (.t 12) (.t 16)),
   oJ 18 (.ld (some 3) (.t 17)),
   oJ 4 (.alloc [(.p (.str [])),.nils,.nils]),
   ⟨none,none,.st 3 (.t 4) (.t 18)⟩])
 (.seq (.seq (.reg [oM 19 0,
   oJ 20 (.call af [(.t 19),(.c (.p (.int .i64 32)))])])
 (.blk 0 (.seq (.reg [oJ 22 (.bin .eql (.t 20) (.c (.p (.int .i64 0)))),
   oM 21 22])
 (.cond (.t 21)
  (.reg [oM 23 0,
    oJ 24 (.bsl 1 [(.p (.str []))] 4 [(0,1,(.c (.p (.str [102])))),(1,1,(.c (.p (.str [100,111])))),(2,1,(.c (.p (.str [])))),(3,1,(.c (.p (.str [103]))))]),
    oJ 25 (.call aG [(.t 23),(.t 24)]),
    oF 26 0 4,
    oS 26 25])
  (.seq (.reg [oJ 28 (.bin .eql (.t 20) (.c (.p (.int .i64 1)))),
    oM 27 28])
  (.cond (.t 27)
   (.reg [oJ 29 (.bsl 1 [(.p (.str []))] 0 []),
     oF 30 1 4,
     oL 31 30,
     oJ 32 (.app 1 16 (.t 29) (.t 31)),
     oM 33 0,
     oJ 34 (.bsl 1 [(.p (.str []))] 3 [(0,1,(.c (.p (.str [97])))),(1,1,(.c (.p (.str [120])))),(2,1,(.c (.p (.str [105,102]))))]),
     oJ 35 (.call aG [(.t 33),(.t 34)]),
     oJ 36 (.bsl 1 [(.p (.str []))] 1 [(0,1,(.t 35))]),
     oJ 37 (.app 1 16 (.t 32) (.t 36)),
     oF 38 1 4,
     oS 38 37])
   (.seq (.reg [oJ 40 (.bin .eql (.t 20) (.c (.p (.int .i64 2)))),
     oM 39 40])
   (.cond (.t 39)
    (.reg [oJ 41 (.bsl 5 [(.p (.int .i64 0)),(.p (.str [])),.nils,.nils,.nils] 0 []),
      oF 42 2 4,
      oL 43 42,
      oJ 44 (.app 5 96 (.t 41) (.t 43)),
      oM 45 0,
      oJ 46 (.call iN [(.t 45)]),
      oJ 47 (.bsl 4 [(.p (.int .i64 0)),(.p (.int .i64 0)),(.p (.str [])),.nils] 1 [(0,4,(.t 46))]),
      oJ 48 (.bld [(.p (.int .i64 0)),(.p (.str [])),.nils,.nils,.nils] [(0,1,(.c (.p (.int .i64 3)))),(2,1,(.t 47))]),
      oJ 49 (.bsl 5 [(.p (.int .i64 0)),(.p (.str [])),.nils,.nils,.nils] 1 [(0,5,(.t 48))]),
      oJ 50 (.app 5 96 (.t 44) (.t 49)),
      oF 51 2 4,
      oS 51 50])
    (.seq (.reg [oJ 53 (.bin .eql (.t 20) (.c (.p (.int .i64 3)))),
      oM 52 53])
    (.cond (.t 52)
     (.reg [oJ 54 (.bsl 5 [(.p (.int .i64 0)),(.p (.str [])),.nils,.nils,.nils] 0 []),
       oF 55 2 4,
       oL 56 55,
       oJ 57 (.app 5 96 (.t 54) (.t 56)),
       oM 58 0,
       oJ 59 (.call af [(.t 58),(.c (.p (.int .i64 10)))]),
       oM 60 0,
       oJ 61 (.bsl 1 [(.p (.str []))] 3 [(0,1,(.c (.p (.str [])))),(1,1,(.c (.p (.str [97])))),(2,1,(.c (.p (.str [122,122]))))]),
       oJ 62 (.call aG [(.t 60),(.t 61)]),
       oM 63 0,
       oJ 64 (.call fj [(.t 63),(.c (.p (.int .i64 2)))]),
       oJ 65 (.bsl 4 [(.p (.int .i64 0)),(.p (.int .i64 0)),(.p (.str [])),.nils] 1 [(0,4,(.t 64))]),
       oJ 66 (.bld [(.p (.int .i64 0)),(.p (.str [])),.nils,.nils,.nils] [(0,1,(.t 59)),(1,1,(.t 62)),(2,1,(.t 65))]),
       oJ 67 (.bsl 5 [(.p (.int .i64 0)),(.p (.str [])),.nils,.nils,.nils] 1 [(0,5,(.t 66))]),
       oJ 68 (.app 5 96 (.t 57) (.t 67)),
       oF 69 2 4,
       oS 69 68])
     (.seq (.reg [oJ 71 (.bin .eql (.t 20) (.c (.p (.int .i64 4)))),
       oM 70 71])
     (.cond (.t 70)
      (.seq (.reg [oJ 72 (.bld [(.p (.int .i64 0)),(.p (.int .i64 0)),(.p (.str [])),.nils] [(0,1,(.c (.p (.int .i64 1))))]),
        oJ 73 (.bsl 4 [(.p (.int .i64 0)),(.p (.int .i64 0)),(.p (.str [])),.nils] 1 [(0,4,(.t 72))]),
        oJ 74 (.bld [(.p (.int .i64 0)),(.p (.str [])),.nils,.nils,.nils] [(0,1,(.c (.p (.int .i64 6)))),(2,1,(.t 73))]),
        oJ 5 (.alloc [(.p (.int .i64 0)),(.p (.str [])),.nils,.nils,.nils]),
        ⟨none,none,.st 5 (.t 5) (.t 74)⟩])
      (.seq (.seq (.reg [oM 75 0,
        oJ 76 (.call af [(.t 75),(.c (.p (.int .i64 5)))]),
        oM 6 76])
      (.blk 1 (.loop (.seq (.seq (.reg [oM 77 6,
        oJ 78 (.bin .gtr (.t 77) (.c (.p (.int .i64 0))))])
      (.cond (.t 78)
       (.skip)
       (.exit 1)))
      (.seq (.blk 2 (.reg [oM 81 0,
        oJ 82 (.bslP 1 [(.p (.int .i64 0))] 2 [(0,1,(.c (.p (.int .i64 5)))),(1,1,(.c (.p (.int .i64 6))))]),
        oF 84 2 5,
        oL 85 84,
        oJ 86 (.ld (some 5) (.t 5)),
        oJ 87 (.bslP 5 [(.p (.int .i64 0)),(.p (.str [])),.nils,.nils,.nils] 1 [(0,5,(.t 86))]),
        oJ 83 (.call aq [(.t 81),(.t 82)]),
        ⟨none,none,.chk none 84 85⟩,
        ⟨none,none,.chk (some 5) 5 86⟩,
        oJ 88 (.bld [(.p (.int .i64 0)),(.p (.str [])),.nils,.nils,.nils] [(0,1,(.t 83)),(2,1,(.t 85)),(3,1,(.t 87))]),
        ⟨none,none,.st 5 (.t 5) (.t 88)⟩]))
      (.reg [oM 79 6,
        oJ 80 (.bin .sub (.t 79) (.c (.p (.int .i64 1)))),
        oM 6 80]))))))
      (.reg [oF 90 2 4,
        oL 91 90,
        oJ 93 (.ld (some 5) (.t 5)),
        oJ 94 (.bslP 5 [(.p (.int .i64 0)),(.p (.str [])),.nils,.nils,.nils] 1 [(0,5,(.t 93))]),
        oJ 89 (.bsl 5 [(.p (.int .i64 0)),(.p (.str [])),.nils,.nils,.nils] 0 []),
        ⟨none,none,.chk none 90 91⟩,
        ⟨none,none,.chk (some 5) 5 93⟩,
        oJ 92 (.app 5 96 (.t 89) (.t 91)),
        ⟨none,none,.chk (some 5) 5 93⟩,
        oJ 95 (.app 5 96 (.t 92) (.t 94)),
        oF 96 2 4,
        oS 96 95])))
      (.seq (.reg [oJ 98 (.bin .eql (.t 20) (.c (.p (.int .i64 5)))),
        oM 97 98])
      (.cond (.t 97)
       (.seq (.reg [oJ 99 (.bld [.nils] []),
         oS 2 99])
       (.ret))
       (.seq (.reg [oJ 101 (.bin .eql (.t 20) (.c (.p (.int .i64 6)))),
         oM 100 101])
       (.cond (.t 100)
        (.seq (.reg [oM 102 0,
          oJ 103 (.bsl 1 [(.p (.int .i64 0))] 3 [(0,1,(.c (.p (.int .i64 20)))),(1,1,(.c (.p (.int .i64 40)))),(2,1,(.c (.p (.int .i64 41))))]),
          oJ 104 (.call aq [(.t 102),(.t 103)]),
          oM 7 104])
        (.blk 3 (.loop (.seq (.seq (.reg [oM 105 7,
          oJ 106 (.bin .gtr (.t 105) (.c (.p (.int .i64 0))))])
        (.cond (.t 106)
         (.skip)
         (.exit 3)))
        (.seq (.blk 4 (.reg [oJ 109 (.bsl 5 [(.p (.int .i64 0)),(.p (.str [])),.nils,.nils,.nils] 0 []),
          oF 110 2 4,
          oL 111 110,
          oJ 112 (.app 5 96 (.t 109) (.t 111)),
          oM 113 7,
          oJ 114 (.bld [(.p (.int .i64 0)),(.p (.int .i64 0)),(.p (.str [])),.nils] [(0,1,(.c (.p (.int .i64 1)))),(1,1,(.t 113))]),
          oJ 115 (.bsl 4 [(.p (.int .i64 0)),(.p (.int .i64 0)),(.p (.str [])),.nils] 1 [(0,4,(.t 114))]),
          oJ 116 (.bld [(.p (.int .i64 0)),(.p (.str [])),.nils,.nils,.nils] [(0,1,(.c (.p (.int .i64 3)))),(2,1,(.t 115))]),
          oJ 117 (.bsl 5 [(.p (.int .i64 0)),(.p (.str [])),.nils,.nils,.nils] 1 [(0,5,(.t 116))]),
          oJ 118 (.app 5 96 (.t 112) (.t 117)),
          oF 119 2 4,
          oS 119 118]))
        (.reg [oM 107 7,
          oJ 108 (.bin .sub (.t 107) (.c (.p (.int .i64 1)))),
          oM 7 108]))))))
        (.seq (.reg [oJ 121 (.bin .eql (.t 20) (.c (.p (.int .i64 7)))),
          oM 120 121])
        (.cond (.t 120)
         (.seq (.reg [oF 123 0 3,
           oF 126 0 3,
           oL 124 123,
           oL 127 126,
           oJ 128 (.idxS 3 (.t 127) (.c (.p (.int .i64 0)))),
           oJ 129 (.ld (some 3) (.t 128)),
           oJ 130 (.bslP 3 [(.p (.str [])),.nils,.nils] 1 [(0,3,(.t 129))]),
           oJ 122 (.bsl 3 [(.p (.str [])),.nils,.nils] 0 []),
           ⟨none,none,.chk none 123 124⟩,
           ⟨none,none,.chk none 126 127⟩,
           ⟨none,none,.chk (some 3) 128 129⟩,
           oJ 125 (.app 3 64 (.t 122) (.t 124)),
           ⟨none,none,.chk none 126 127⟩,
           ⟨none,none,.chk (some 3) 128 129⟩,
           oJ 131 (.app 3 64 (.t 125) (.t 130)),
           oJ 132 (.bld [.nils] [(0,1,(.t 131))]),
           oS 2 132])
         (.ret))
         (.skip)))))))))))))))))))
 (.seq (.reg [oJ 133 (.bsl 3 [(.p (.str [])),.nils,.nils] 0 []),
   oF 134 0 3,
   oL 135 134,
   oJ 136 (.app 3 64 (.t 133) (.t 135)),
   oM 8 136])
 (.seq (.reg [oM 137 8,
   oM 138 8,
   oJ 139 (.len false (.t 138)),
   oJ 140 (.bin .sub (.t 139) (.c (.p (.int .i64 1)))),
   oJ 141 (.ld (some 3) (.t 4)),
   oJ 142 (.idxS 3 (.t 137) (.t 140)),
   ⟨none,none,.st 3 (.t 142) (.t 141)⟩])
 (.seq (.reg [oM 143 8,
   oJ 144 (.bld [.nils] [(0,1,(.t 143))]),
   oS 2 144])
 (.ret)))))))⟩
theorem vP:aj Tryz.prog kU=some F_spec_l3Bent:=by kernel_rfl
def pz:FK:=⟨25,[.c 2 (some 4)],
 .seq (.reg [oJ 1 (.box 4 (.t 0)),
  oJ 2 (.alloc [(.p (.int .i64 0)),(.p (.int .i64 0)),(.p (.str [])),.nils])])
 (.seq (.reg [oJ 5 (.bsl 4 [(.p (.int .i64 0)),(.p (.int .i64 0)),(.p (.str [])),.nils] 0 []),
   oM 3 5])
 (.seq (.seq (.reg [oK 4 0])
 (.blk 0 (.loop (.seq (.seq (.reg [oM 6 4,
   oF 7 3 1,
   oL 8 7,
   oJ 9 (.len false (.t 8)),
   oJ 10 (.bin .lss (.t 6) (.t 9))])
 (.cond (.t 10)
  (.skip)
  (.exit 0)))
 (.seq (.blk 1 (.reg [oM 13 3,
   oF 14 3 1,
   oL 15 14,
   oM 16 4,
   oJ 17 (.idxS 4 (.t 15) (.t 16)),
   oJ 18 (.ld (some 4) (.t 17)),
   oJ 19 (.call iO [(.t 18)]),
   oJ 20 (.bsl 4 [(.p (.int .i64 0)),(.p (.int .i64 0)),(.p (.str [])),.nils] 1 [(0,4,(.t 19))]),
   oJ 21 (.app 4 56 (.t 13) (.t 20)),
   oM 3 21]))
 (.reg [oM 11 4,
   oJ 12 (.bin .add (.t 11) (.c (.p (.int .i64 1)))),
   oM 4 12]))))))
 (.seq (.reg [oM 22 3,
   oF 23 3 1,
   oS 23 22])
 (.seq (.reg [oJ 24 (.ld (some 4) (.t 1)),
   ⟨none,none,.st 4 (.t 2) (.t 24)⟩])
 (.ret)))))⟩
theorem vW:aj Tryz.prog iO=some pz:=by kernel_rfl
def nP:FK:=⟨52,[.t 2],
 .seq (.reg [oJ 2 (.mov (.c .nils))])
 (.seq (.reg [oJ 8 (.bsl 5 [(.p (.int .i64 0)),(.p (.str [])),.nils,.nils,.nils] 0 []),
   oM 3 8])
 (.seq (.seq (.reg [oK 4 0])
 (.blk 0 (.loop (.seq (.seq (.reg [oM 9 4,
   oM 10 0,
   oJ 11 (.len false (.t 10)),
   oJ 12 (.bin .lss (.t 9) (.t 11))])
 (.cond (.t 12)
  (.skip)
  (.exit 0)))
 (.seq (.blk 1 (.seq (.reg [oM 15 0,
   oM 16 4,
   oJ 17 (.idxS 5 (.t 15) (.t 16)),
   oJ 18 (.ld (some 5) (.t 17)),
   oJ 5 (.alloc [(.p (.int .i64 0)),(.p (.str [])),.nils,.nils,.nils]),
   ⟨none,none,.st 5 (.t 5) (.t 18)⟩])
 (.seq (.reg [oJ 19 (.bsl 4 [(.p (.int .i64 0)),(.p (.int .i64 0)),(.p (.str [])),.nils] 0 []),
   oM 6 19])
 (.seq (.seq (.reg [oK 7 0])
 (.blk 2 (.loop (.seq (.seq (.reg [oM 20 7,
   oF 21 2 5,
   oL 22 21,
   oJ 23 (.len false (.t 22)),
   oJ 24 (.bin .lss (.t 20) (.t 23))])
 (.cond (.t 24)
  (.skip)
  (.exit 2)))
 (.seq (.blk 3 (.reg [oM 27 6,
   oF 28 2 5,
   oL 29 28,
   oM 30 7,
   oJ 31 (.idxS 4 (.t 29) (.t 30)),
   oJ 32 (.ld (some 4) (.t 31)),
   oJ 33 (.call iO [(.t 32)]),
   oJ 34 (.bsl 4 [(.p (.int .i64 0)),(.p (.int .i64 0)),(.p (.str [])),.nils] 1 [(0,4,(.t 33))]),
   oJ 35 (.app 4 56 (.t 27) (.t 34)),
   oM 6 35]))
 (.reg [oM 25 7,
   oJ 26 (.bin .add (.t 25) (.c (.p (.int .i64 1)))),
   oM 7 26]))))))
 (.reg [oM 36 3,
   oF 37 0 5,
   oF 39 1 5,
   oM 41 6,
   oF 42 3 5,
   oF 45 4 5,
   oL 38 37,
   oL 40 39,
   oL 43 42,
   oL 46 45,
   oJ 44 (.call dP [(.t 43)]),
   ⟨none,none,.chk none 37 38⟩,
   ⟨none,none,.chk none 39 40⟩,
   ⟨none,none,.chk none 45 46⟩,
   oJ 47 (.call dP [(.t 46)]),
   ⟨none,none,.chk none 37 38⟩,
   ⟨none,none,.chk none 39 40⟩,
   oJ 48 (.bld [(.p (.int .i64 0)),(.p (.str [])),.nils,.nils,.nils] [(0,1,(.t 38)),(1,1,(.t 40)),(2,1,(.t 41)),(3,1,(.t 44)),(4,1,(.t 47))]),
   oJ 49 (.bsl 5 [(.p (.int .i64 0)),(.p (.str [])),.nils,.nils,.nils] 1 [(0,5,(.t 48))]),
   oJ 50 (.app 5 96 (.t 36) (.t 49)),
   oM 3 50])))))
 (.reg [oM 13 4,
   oJ 14 (.bin .add (.t 13) (.c (.p (.int .i64 1)))),
   oM 4 14]))))))
 (.seq (.reg [oM 51 3,
   oM 2 51])
 (.ret))))⟩
theorem tO:aj Tryz.prog dP=some nP:=by kernel_rfl
def pt:FK:=⟨35,[.c 2 (some 1)],
 .seq (.reg [oJ 1 (.box 1 (.t 0)),
  oJ 2 (.alloc [.nils])])
 (.seq (.reg [oJ 6 (.bld [.nils] []),
   oJ 3 (.alloc [.nils]),
   oS 3 6])
 (.seq (.seq (.reg [oK 4 0])
 (.blk 0 (.loop (.seq (.seq (.reg [oM 7 4,
   oF 8 0 1,
   oL 9 8,
   oJ 10 (.len false (.t 9)),
   oJ 11 (.bin .lss (.t 7) (.t 10))])
 (.cond (.t 11)
  (.skip)
  (.exit 0)))
 (.seq (.blk 1 (.seq (.reg [oF 14 0 1,
   oL 15 14,
   oM 16 4,
   oJ 17 (.idxS 3 (.t 15) (.t 16)),
   oJ 18 (.ld (some 3) (.t 17)),
   oJ 5 (.alloc [(.p (.str [])),.nils,.nils]),
   ⟨none,none,.st 3 (.t 5) (.t 18)⟩])
 (.reg [oF 19 0 3,
   oF 21 0 5,
   oF 24 1 5,
   oF 27 2 5,
   oL 20 19,
   oL 22 21,
   oL 25 24,
   oL 28 27,
   oJ 23 (.bsl 1 [(.p (.str []))] 0 []),
   ⟨none,none,.chk none 19 20⟩,
   ⟨none,none,.chk none 21 22⟩,
   ⟨none,none,.chk none 24 25⟩,
   ⟨none,none,.chk none 27 28⟩,
   oJ 26 (.app 1 16 (.t 23) (.t 25)),
   ⟨none,none,.chk none 19 20⟩,
   ⟨none,none,.chk none 21 22⟩,
   ⟨none,none,.chk none 27 28⟩,
   oJ 29 (.call dP [(.t 28)]),
   ⟨none,none,.chk none 19 20⟩,
   ⟨none,none,.chk none 21 22⟩,
   oJ 30 (.bld [(.p (.str [])),.nils,.nils] [(0,1,(.t 22)),(1,1,(.t 26)),(2,1,(.t 29))]),
   oJ 31 (.bsl 3 [(.p (.str [])),.nils,.nils] 1 [(0,3,(.t 30))]),
   ⟨none,none,.chk none 19 20⟩,
   oJ 32 (.app 3 64 (.t 20) (.t 31)),
   oF 33 0 3,
   oS 33 32])))
 (.reg [oM 12 4,
   oJ 13 (.bin .add (.t 12) (.c (.p (.int .i64 1)))),
   oM 4 13]))))))
 (.seq (.reg [oJ 34 (.ld (some 1) (.t 3)),
   oS 2 34])
 (.ret))))⟩
theorem wl:aj Tryz.prog kW=some pt:=by kernel_rfl
def pJ:FK:=⟨104,[.c 2 (some 1)],
 .seq (.reg [oJ 2 (.alloc [.nils])])
 (.seq (.reg [oM 7 0,
   oJ 8 (.call dC [(.t 7)]),
   oJ 3 (.alloc [.nils]),
   oS 3 8])
 (.seq (.seq (.reg [oM 9 0,
   oJ 10 (.call af [(.t 9),(.c (.p (.int .i64 5)))]),
   oJ 11 (.bin .gtr (.t 10) (.c (.p (.int .i64 2))))])
 (.cond (.t 11)
  (.seq (.reg [oJ 12 (.ld (some 1) (.t 3)),
    oS 2 12])
  (.ret))
  (.skip)))
 (.seq (.seq (.reg [oM 13 0,
   oJ 14 (.call af [(.t 13),(.c (.p (.int .i64 6)))]),
   oJ 15 (.bin .eql (.t 14) (.c (.p (.int .i64 0))))])
 (.cond (.t 15)
  (.seq (.reg [oM 16 0,
    oJ 17 (.call kU [(.t 16)]),
    oS 2 17])
  (.ret))
  (.skip)))
 (.seq (.reg [oJ 18 (.ld (some 1) (.t 3)),
   oJ 19 (.call kW [(.t 18)]),
   oS 3 19])
 (.seq (.reg [oF 20 0 3,
   oM 22 0,
   oF 23 0 3,
   oL 21 20,
   oL 24 23,
   oJ 25 (.len false (.t 24)),
   oJ 26 (.call af [(.t 22),(.t 25)]),
   ⟨none,none,.chk none 20 21⟩,
   oJ 27 (.idxS 3 (.t 21) (.t 26)),
   oM 4 27])
 (.seq (.seq (.reg [oM 28 4,
   oN 29 28,
   oF 30 2 29,
   oL 31 30,
   oJ 32 (.len false (.t 31)),
   oJ 33 (.bin .eql (.t 32) (.c (.p (.int .i64 0))))])
 (.cond (.t 33)
  (.seq (.reg [oJ 34 (.ld (some 1) (.t 3)),
    oS 2 34])
  (.ret))
  (.skip)))
 (.seq (.reg [oM 35 4,
   oN 36 35,
   oF 37 2 36,
   oM 39 0,
   oM 40 4,
   oN 41 40,
   oF 42 2 41,
   oL 38 37,
   oL 43 42,
   oJ 44 (.len false (.t 43)),
   oJ 45 (.call af [(.t 39),(.t 44)]),
   ⟨none,none,.chk none 37 38⟩,
   oJ 46 (.idxS 5 (.t 38) (.t 45)),
   oM 5 46])
 (.seq (.reg [oM 47 0,
   oJ 48 (.bsl 1 [(.p (.str []))] 5 [(0,1,(.c (.p (.str [122,122])))),(1,1,(.c (.p (.str [97])))),(2,1,(.c (.p (.str [98])))),(3,1,(.c (.p (.str [99])))),(4,1,(.c (.p (.str [100]))))]),
   oJ 49 (.call aG [(.t 47),(.t 48)]),
   oJ 50 (.bld [(.p (.int .i64 0)),(.p (.int .i64 0)),(.p (.str [])),.nils] [(0,1,(.c (.p (.int .i64 2)))),(2,1,(.t 49))]),
   oJ 6 (.alloc [(.p (.int .i64 0)),(.p (.int .i64 0)),(.p (.str [])),.nils]),
   ⟨none,none,.st 4 (.t 6) (.t 50)⟩])
 (.seq (.seq (.reg [oM 51 0,
   oJ 52 (.call af [(.t 51),(.c (.p (.int .i64 4)))])])
 (.blk 0 (.seq (.reg [oJ 54 (.bin .eql (.t 52) (.c (.p (.int .i64 0)))),
   oM 53 54])
 (.cond (.t 53)
  (.reg [oM 55 0,
    oJ 56 (.bsl 1 [(.p (.str []))] 4 [(0,1,(.c (.p (.str [102])))),(1,1,(.c (.p (.str [103])))),(2,1,(.c (.p (.str [109])))),(3,1,(.c (.p (.str [113]))))]),
    oJ 57 (.call aG [(.t 55),(.t 56)]),
    oJ 58 (.bld [(.p (.int .i64 0)),(.p (.int .i64 0)),(.p (.str [])),.nils] [(0,1,(.c (.p (.int .i64 1)))),(1,1,(.c (.p (.int .i64 1))))]),
    oJ 59 (.bsl 4 [(.p (.int .i64 0)),(.p (.int .i64 0)),(.p (.str [])),.nils] 1 [(0,4,(.t 58))]),
    oJ 60 (.bld [(.p (.int .i64 0)),(.p (.int .i64 0)),(.p (.str [])),.nils] [(0,1,(.c (.p (.int .i64 13)))),(2,1,(.t 57)),(3,1,(.t 59))]),
    ⟨none,none,.st 4 (.t 6) (.t 60)⟩])
  (.seq (.reg [oJ 62 (.bin .eql (.t 52) (.c (.p (.int .i64 1)))),
    oM 61 62])
  (.cond (.t 61)
   (.seq (.seq (.reg [oM 63 5,
     oN 64 63,
     oF 65 1 64,
     oL 66 65,
     oJ 67 (.bins .neq (.t 66) (.c (.p (.str []))))])
   (.cond (.t 67)
    (.reg [oM 68 5,
      oM 69 0,
      oJ 70 (.bsl 1 [(.p (.str []))] 5 [(0,1,(.c (.p (.str [97])))),(1,1,(.c (.p (.str [98])))),(2,1,(.c (.p (.str [122,122])))),(3,1,(.c (.p (.str [99])))),(4,1,(.c (.p (.str [100]))))]),
      oJ 71 (.call aG [(.t 69),(.t 70)]),
      oN 72 68,
      oF 73 1 72,
      oS 73 71])
    (.skip)))
   (.seq (.reg [oJ 74 (.ld (some 1) (.t 3)),
     oS 2 74])
   (.ret)))
   (.seq (.reg [oJ 76 (.bin .eql (.t 52) (.c (.p (.int .i64 2)))),
     oM 75 76])
   (.cond (.t 75)
    (.seq (.reg [oM 77 4,
      oM 78 4,
      oN 79 78,
      oF 80 2 79,
      oM 82 4,
      oN 83 82,
      oF 84 2 83,
      oL 81 80,
      oL 85 84,
      oJ 86 (.slS 5 (.t 85) none (some (.c (.p (.int .i64 1))))),
      oJ 87 (.call dP [(.t 86)]),
      ⟨none,none,.chk none 80 81⟩,
      oJ 88 (.app 5 96 (.t 81) (.t 87)),
      oN 89 77,
      oF 90 2 89,
      oS 90 88])
    (.seq (.reg [oJ 91 (.ld (some 1) (.t 3)),
      oS 2 91])
    (.ret)))
    (.skip)))))))))
 (.seq (.seq (.reg [oM 92 5,
   oN 93 92,
   oF 94 0 93,
   oL 95 94,
   oJ 96 (.bin .neq (.t 95) (.c (.p (.int .i64 8))))])
 (.cond (.t 96)
  (.reg [oM 97 5,
    oN 98 97,
    oF 99 2 98,
    oL 100 99,
    oJ 101 (.ld (some 4) (.t 6)),
    oJ 102 (.idxS 4 (.t 100) (.c (.p (.int .i64 0)))),
    ⟨none,none,.st 4 (.t 102) (.t 101)⟩])
  (.skip)))
 (.seq (.reg [oJ 103 (.ld (some 1) (.t 3)),
   oS 2 103])
 (.ret))))))))))))⟩
theorem vY:aj Tryz.prog kP=some pJ:=by kernel_rfl
end Go.Proofs.YtnjbhgpbgmpkcaaGreatDoor
