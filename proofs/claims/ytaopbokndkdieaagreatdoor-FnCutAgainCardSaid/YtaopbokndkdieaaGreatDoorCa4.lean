/-
  Contracts and lemmas that the card needs, part 4.
-/
import Derived.Test.YtaopbokndkdieaaGreatDoorCa3
import Derived.Test.YtaopbokndkdieaaGreatDoorRows
namespace Go.Proofs.YtaopbokndkdieaaGreatDoor
open Go Go.Aw
set_option maxRecDepth 100000
abbrev cn:FuncId:=104
abbrev lu:FuncId:=182
abbrev la:FuncId:=177
abbrev nS:FuncId:=162
abbrev gU:FuncId:=178
abbrev nU:FuncId:=163
abbrev dA:FuncId:=135
abbrev jF:FuncId:=179
abbrev jE:FuncId:=185
abbrev gP:FuncId:=183
abbrev iB:FuncId:=184
abbrev gi:FuncId:=180
abbrev jI:FuncId:=164
abbrev da:FuncId:=136
abbrev pj:FuncId:=105
abbrev fS:FuncId:=137
abbrev nJ:FuncId:=106
abbrev eJ:FuncId:=80
abbrev iu:FuncId:=107
abbrev bg:FuncId:=108
abbrev dG:FuncId:=138
abbrev gL:FuncId:=139
abbrev dg:FuncId:=109
abbrev de:FuncId:=141
abbrev cf:FuncId:=140
abbrev bH:FuncId:=110
abbrev lW:FuncId:=81
abbrev gv:FuncId:=49
abbrev jH:FuncId:=24
abbrev jJ:FuncId:=111
abbrev dK:FuncId:=82
abbrev er:FuncId:=50
abbrev bs:FuncId:=83
abbrev cb:FuncId:=51
abbrev cX:FuncId:=142
abbrev bc:FuncId:=74
abbrev oa:FuncId:=165
abbrev eq:FuncId:=143
abbrev dz:FuncId:=144
abbrev gE:FuncId:=112
abbrev ft:FuncId:=84
abbrev bM:FuncId:=52
abbrev cx:FuncId:=25
abbrev lH:FuncId:=46
abbrev gV:FuncId:=77
abbrev ef:FuncId:=47
abbrev cK:FuncId:=22
abbrev bY:FuncId:=36
abbrev kj:FuncId:=17
abbrev ew:FuncId:=114
abbrev gt:FuncId:=167
abbrev gn:FuncId:=146
abbrev fC:FuncId:=168
abbrev eB:FuncId:=148
abbrev ec:FuncId:=147
abbrev cy:FuncId:=115
abbrev dX:FuncId:=149
abbrev dm:FuncId:=116
abbrev dr:FuncId:=169
abbrev cM:FuncId:=150
abbrev gS:FuncId:=170
abbrev jA:FuncId:=172
abbrev iP:FuncId:=173
abbrev fk:FuncId:=157
abbrev eQ:FuncId:=126
abbrev jD:FuncId:=152
abbrev dD:FuncId:=151
abbrev dJ:FuncId:=118
abbrev iI:FuncId:=153
abbrev gg:FuncId:=154
abbrev lI:FuncId:=119
abbrev bZ:FuncId:=117
abbrev eI:FuncId:=87
abbrev dN:FuncId:=120
abbrev gM:FuncId:=121
abbrev jO:FuncId:=88
abbrev aK:FuncId:=89
abbrev bX:FuncId:=90
abbrev gd:FuncId:=127
abbrev cG:FuncId:=123
abbrev cS:FuncId:=155
abbrev dt:FuncId:=122
abbrev bm:FuncId:=91
abbrev gu:FuncId:=54
abbrev jQ:FuncId:=27
abbrev bu:FuncId:=59
abbrev cP:FuncId:=61
abbrev az:FuncId:=56
abbrev aR:FuncId:=34
abbrev bG:FuncId:=58
abbrev bV:FuncId:=129
abbrev fT:FuncId:=99
abbrev gx:FuncId:=70
abbrev ce:FuncId:=57
abbrev aO:FuncId:=55
abbrev cT:FuncId:=60
abbrev cD:FuncId:=28
abbrev kQ:FuncId:=125
abbrev iy:FuncId:=96
abbrev cz:FuncId:=97
abbrev aP:FuncId:=62
abbrev ee:FuncId:=128
abbrev dY:FuncId:=98
abbrev gW:FuncId:=69
abbrev iq:FuncId:=35
abbrev be:FuncId:=33
abbrev bP:FuncId:=16
abbrev bv:FuncId:=29
abbrev bz:FuncId:=11
abbrev dI:FuncId:=41
abbrev fz:FuncId:=43
abbrev bl:FuncId:=44
abbrev bE:FuncId:=75
abbrev dq:FuncId:=76
abbrev cL:FuncId:=45
abbrev dR:FuncId:=42
abbrev bI:FuncId:=20
abbrev cR:FuncId:=37
abbrev kg:FuncId:=18
abbrev iT:FuncId:=38
abbrev ab:FuncId:=40
abbrev al:FuncId:=73
abbrev aL:FuncId:=101
abbrev eD:FuncId:=158
abbrev bA:FuncId:=159
abbrev bn:FuncId:=133
abbrev hZ:FuncId:=181
abbrev dE:FuncId:=174
abbrev fI:FuncId:=175
abbrev iJ:FuncId:=176
abbrev iO:FuncId:=160
abbrev bj:FuncId:=132
abbrev gT:FuncId:=102
abbrev cw:FuncId:=72
abbrev gf:FuncId:=131
abbrev jC:FuncId:=130
abbrev mJ:FuncId:=100
abbrev jK:FuncId:=71
abbrev jz:FuncId:=39
abbrev gq:FuncId:=19
abbrev mB:FuncId:=6
abbrev fJ:FuncId:=9
abbrev fH:FuncId:=21
abbrev mj:FuncId:=7
@[reducible] def oM(d s:Nat):CO:=⟨some d,none,.mov (.t s)⟩
@[reducible] def oL(d s:Nat):CO:=⟨some d,none,.ld none (.t s)⟩
@[reducible] def oF(d i s:Nat):CO:=⟨some d,none,.fldA i (.t s)⟩
@[reducible] def oN(d s:Nat):CO:=⟨some d,none,.nilck (.t s)⟩
@[reducible] def oS(d s:Nat):CO:=⟨none,none,.st 1 (.t d) (.t s)⟩
@[reducible] def oK(d n:Nat):CO:=⟨some d,none,.mov (.c (.p (.int .i64 n)))⟩
@[reducible] def oJ(d:Nat)(o:AI):CO:=⟨some d,none,o⟩
def pp:FK:=⟨15,[.t 6],
 .seq (.reg [oJ 6 (.mov (.c (.p (.bool false))))])
 (.seq (.reg [oM 7 0,
   oM 8 1,
   oJ 9 (.bin .geq (.t 7) (.t 8)),
   oM 10 9,
   ⟨(some 11),some (10,true),.mov (.t 0)⟩,
   ⟨(some 12),some (10,true),.mov (.t 2)⟩,
   ⟨(some 13),some (10,true),.bin .leq (.t 11) (.t 12)⟩,
   oJ 14 (.pick (.t 10) (.t 13) (.c (.p (.bool false)))),
   oM 6 14])
 (.ret))⟩
theorem AW:ah Tryz.prog cn=some pp:=by kernel_rfl
def pM:FK:=⟨18,[.t 4],
 .seq (.reg [oK 4 0])
 (.seq (.seq (.reg [oK 5 0])
 (.blk 0 (.loop (.seq (.seq (.reg [oM 6 5,
   oM 7 0,
   oJ 8 (.len true (.t 7)),
   oJ 9 (.bin .lss (.t 6) (.t 8))])
 (.cond (.t 9)
  (.skip)
  (.exit 0)))
 (.seq (.blk 1 (.seq (.reg [oM 12 0,
   oM 13 5,
   oJ 14 (.idxStr (.t 12) (.t 13)),
   oM 15 1,
   oJ 16 (.bin .eql (.t 14) (.t 15))])
 (.cond (.t 16)
  (.seq (.reg [oM 17 5,
    oM 4 17])
  (.ret))
  (.skip))))
 (.reg [oM 10 5,
   oJ 11 (.bin .add (.t 10) (.c (.p (.int .i64 1)))),
   oM 5 11]))))))
 (.seq (.reg [oJ 4 (.mov (.c (.p (.int .i64 (-1)))))])
 (.ret)))⟩
theorem wU:ah Tryz.prog lu=some pM:=by kernel_rfl
def pR:FK:=⟨28,[.t 2],
 .seq (.reg [oK 2 0])
 (.seq (.blk 0 (.seq (.reg [oM 4 0,
   oJ 5 (.bin .geq (.t 4) (.c (.p (.int .u8 97)))),
   oM 6 5,
   ⟨(some 7),some (6,true),.mov (.t 0)⟩,
   ⟨(some 8),some (6,true),.bin .leq (.t 7) (.c (.p (.int .u8 122)))⟩,
   oJ 9 (.pick (.t 6) (.t 8) (.c (.p (.bool false)))),
   oM 3 9])
 (.cond (.t 3)
  (.seq (.reg [oK 2 1])
  (.ret))
  (.seq (.reg [oM 11 0,
    oJ 12 (.bin .geq (.t 11) (.c (.p (.int .u8 48)))),
    oM 13 12,
    ⟨(some 14),some (13,true),.mov (.t 0)⟩,
    ⟨(some 15),some (13,true),.bin .leq (.t 14) (.c (.p (.int .u8 57)))⟩,
    oJ 16 (.pick (.t 13) (.t 15) (.c (.p (.bool false)))),
    oM 10 16])
  (.cond (.t 10)
   (.seq (.reg [oK 2 2])
   (.ret))
   (.seq (.reg [oM 18 0,
     oJ 19 (.call lu [(.c (.p (.str [40,41,123,125,59,44,43,45,42,47,37,60,61,38,33,64]))),(.t 18)]),
     oJ 20 (.bin .geq (.t 19) (.c (.p (.int .i64 0)))),
     oM 17 20])
   (.cond (.t 17)
    (.seq (.reg [oK 2 3])
    (.ret))
    (.seq (.reg [oM 22 0,
      oJ 23 (.bin .eql (.t 22) (.c (.p (.int .u8 32)))),
      oM 24 23,
      ⟨(some 25),some (24,false),.mov (.t 0)⟩,
      ⟨(some 26),some (24,false),.bin .eql (.t 25) (.c (.p (.int .u8 10)))⟩,
      oJ 27 (.pick (.t 24) (.c (.p (.bool true))) (.t 26)),
      oM 21 27])
    (.cond (.t 21)
     (.seq (.reg [oK 2 4])
     (.ret))
     (.skip))))))))))
 (.seq (.reg [oK 2 0])
 (.ret)))⟩
theorem wT:ah Tryz.prog la=some pR:=by kernel_rfl
def sa:FK:=⟨21,[.t 4],
 .seq (.reg [oJ 4 (.mov (.c (.p (.bool false))))])
 (.seq (.seq (.reg [oK 5 0])
 (.blk 0 (.loop (.seq (.seq (.reg [oM 6 5,
   oM 7 0,
   oJ 8 (.len true (.t 7)),
   oJ 9 (.bin .lss (.t 6) (.t 8))])
 (.cond (.t 9)
  (.skip)
  (.exit 0)))
 (.seq (.blk 1 (.seq (.reg [oM 12 0,
   oM 13 5,
   oJ 14 (.idxStr (.t 12) (.t 13)),
   oJ 15 (.call la [(.t 14)]),
   oM 16 1,
   oJ 17 (.bin .neq (.t 15) (.t 16))])
 (.cond (.t 17)
  (.seq (.reg [oJ 4 (.mov (.c (.p (.bool false))))])
  (.ret))
  (.skip))))
 (.reg [oM 10 5,
   oJ 11 (.bin .add (.t 10) (.c (.p (.int .i64 1)))),
   oM 5 11]))))))
 (.seq (.reg [oM 18 0,
   oJ 19 (.len true (.t 18)),
   oJ 20 (.bin .gtr (.t 19) (.c (.p (.int .i64 0)))),
   oM 4 20])
 (.ret)))⟩
theorem zZ:ah Tryz.prog nS=some sa:=by kernel_rfl
def og:FK:=⟨2,[.t 0],
 .seq (.reg [oJ 0 (.mov (.c .nils))])
 (.seq (.reg [oJ 1 (.bsl 1 [(.p (.str []))] 9 [(0,1,(.c (.p (.str [102,110])))),(1,1,(.c (.p (.str [108,101,116])))),(2,1,(.c (.p (.str [115,97,121])))),(3,1,(.c (.p (.str [112,117,116])))),(4,1,(.c (.p (.str [105,102])))),(5,1,(.c (.p (.str [101,108,115,101])))),(6,1,(.c (.p (.str [108,111,111,112])))),(7,1,(.c (.p (.str [98,97,99,107])))),(8,1,(.c (.p (.str [100,111]))))]),
   oM 0 1])
 (.ret))⟩
theorem vo:ah Tryz.prog gU=some og:=by kernel_rfl
def tp:FK:=⟨18,[.t 2],
 .seq (.reg [oJ 2 (.mov (.c (.p (.bool false))))])
 (.seq (.reg [oJ 5 (.call gU []),
   oM 3 5])
 (.seq (.seq (.reg [oK 4 0])
 (.blk 0 (.loop (.seq (.seq (.reg [oM 6 4,
   oM 7 3,
   oJ 8 (.len false (.t 7)),
   oJ 9 (.bin .lss (.t 6) (.t 8))])
 (.cond (.t 9)
  (.skip)
  (.exit 0)))
 (.seq (.blk 1 (.seq (.reg [oM 12 3,
   oM 13 4,
   oJ 14 (.idxS 1 (.t 12) (.t 13)),
   oL 15 14,
   oM 16 0,
   oJ 17 (.bins .eql (.t 15) (.t 16))])
 (.cond (.t 17)
  (.seq (.reg [oJ 2 (.mov (.c (.p (.bool true))))])
  (.ret))
  (.skip))))
 (.reg [oM 10 4,
   oJ 11 (.bin .add (.t 10) (.c (.p (.int .i64 1)))),
   oM 4 11]))))))
 (.seq (.reg [oJ 2 (.mov (.c (.p (.bool false))))])
 (.ret))))⟩
theorem AG:ah Tryz.prog nU=some tp:=by kernel_rfl
def rc:FK:=⟨15,[.t 2],
 .seq (.reg [oJ 2 (.mov (.c (.p (.bool false))))])
 (.seq (.reg [oM 3 0,
   oJ 4 (.call nS [(.t 3),(.c (.p (.int .i64 1)))]),
   oM 5 4,
   ⟨(some 6),some (5,true),.mov (.t 0)⟩,
   ⟨(some 7),some (5,true),.len true (.t 6)⟩,
   ⟨(some 8),some (5,true),.bin .leq (.t 7) (.c (.p (.int .i64 4)))⟩,
   oJ 9 (.pick (.t 5) (.t 8) (.c (.p (.bool false)))),
   oM 10 9,
   ⟨(some 11),some (10,true),.mov (.t 0)⟩,
   ⟨(some 12),some (10,true),.call nU [(.t 11)]⟩,
   ⟨(some 13),some (10,true),.not (.t 12)⟩,
   oJ 14 (.pick (.t 10) (.t 13) (.c (.p (.bool false)))),
   oM 2 14])
 (.ret))⟩
theorem yR:ah Tryz.prog dA=some rc:=by kernel_rfl
def mP:FK:=⟨5,[.t 2],
 .seq (.reg [oK 2 0])
 (.seq (.seq (.reg [oM 3 0,
   oJ 4 (.bin .eql (.t 3) (.c (.p (.int .i64 4))))])
 (.cond (.t 4)
  (.seq (.reg [oK 2 2])
  (.ret))
  (.skip)))
 (.seq (.reg [oK 2 1])
 (.ret)))⟩
theorem yS:ah Tryz.prog jF=some mP:=by kernel_rfl
def eu:FK:=⟨13,[.t 2,.t 3],
 .seq (.reg [oK 2 0,
  oK 3 0])
 (.seq (.seq (.reg [oM 4 0])
 (.blk 0 (.seq (.seq (.reg [oJ 6 (.bin .eql (.t 4) (.c (.p (.int .i64 1)))),
   oM 5 6])
 (.cond (.t 5)
  (.skip)
  (.reg [oJ 7 (.bin .eql (.t 4) (.c (.p (.int .i64 2)))),
    oM 5 7])))
 (.cond (.t 5)
  (.seq (.reg [oK 2 0,
    oK 3 0])
  (.ret))
  (.seq (.seq (.reg [oJ 9 (.bin .eql (.t 4) (.c (.p (.int .i64 11)))),
    oM 8 9])
  (.cond (.t 8)
   (.skip)
   (.reg [oJ 10 (.bin .eql (.t 4) (.c (.p (.int .i64 12)))),
     oM 8 10])))
  (.cond (.t 8)
   (.seq (.reg [oK 2 1,
     oK 3 1])
   (.ret))
   (.seq (.reg [oJ 12 (.bin .eql (.t 4) (.c (.p (.int .i64 13)))),
     oM 11 12])
   (.cond (.t 11)
    (.seq (.reg [oK 2 0,
      oK 3 3])
    (.ret))
    (.skip)))))))))
 (.seq (.reg [oK 2 2,
   oK 3 2])
 (.ret)))⟩
theorem yI:ah Tryz.prog jE=some eu:=by kernel_rfl
def F_spec_l2Form:FK:=⟨86,[.t 4],
 .seq (.reg [oJ 2 (.box 4 (.t 0)),
  oJ 4 (.mov (.c (.p (.bool false))))])
 (.seq (.reg [oF 10 0 2,
   oL 11 10,
   oJ 12 (.call jE [(.t 11)]),
   oM 9 12,
   oJ 13 (.ext 0 (.t 9)),
   oJ 14 (.ext 1 (.t 9)),
   oM 5 13,
   oM 6 14])
 (.seq (.seq (.reg [oM 15 1,
   oJ 16 (.bin .lss (.t 15) (.c (.p (.int .i64 1)))),
   oM 17 16,
   ⟨(some 18),some (17,false),.fldA 0 (.t 2)⟩,
   ⟨(some 19),some (17,false),.ld none (.t 18)⟩,
   ⟨(some 20),some (17,false),.call cn [(.t 19),(.c (.p (.int .i64 1))),(.c (.p (.int .i64 13)))]⟩,
   ⟨(some 21),some (17,false),.not (.t 20)⟩,
   oJ 22 (.pick (.t 17) (.c (.p (.bool true))) (.t 21)),
   oM 23 22,
   ⟨(some 24),some (23,false),.fldA 3 (.t 2)⟩,
   ⟨(some 25),some (23,false),.ld none (.t 24)⟩,
   ⟨(some 26),some (23,false),.len false (.t 25)⟩,
   ⟨(some 27),some (23,false),.mov (.t 5)⟩,
   ⟨(some 28),some (23,false),.mov (.t 6)⟩,
   ⟨(some 29),some (23,false),.call cn [(.t 26),(.t 27),(.t 28)]⟩,
   ⟨(some 30),some (23,false),.not (.t 29)⟩,
   oJ 31 (.pick (.t 23) (.c (.p (.bool true))) (.t 30))])
 (.cond (.t 31)
  (.seq (.reg [oJ 4 (.mov (.c (.p (.bool false))))])
  (.ret))
  (.skip)))
 (.seq (.reg [oF 32 0 2,
   oL 33 32,
   oJ 34 (.bin .eql (.t 33) (.c (.p (.int .i64 2)))),
   oM 35 34,
   ⟨(some 36),some (35,false),.fldA 0 (.t 2)⟩,
   ⟨(some 37),some (35,false),.ld none (.t 36)⟩,
   ⟨(some 38),some (35,false),.bin .eql (.t 37) (.c (.p (.int .i64 13)))⟩,
   oJ 39 (.pick (.t 35) (.c (.p (.bool true))) (.t 38)),
   oM 7 39])
 (.seq (.seq (.reg [oM 40 7,
   oF 41 2 2,
   oL 42 41,
   oJ 43 (.call dA [(.t 42)]),
   oJ 44 (.beq true (.t 40) (.t 43)),
   oM 45 44,
   ⟨(some 46),some (45,false),.mov (.t 7)⟩,
   ⟨(some 47),some (45,false),.not (.t 46)⟩,
   ⟨(some 48),some (45,false),.mov (.t 47)⟩,
   ⟨(some 49),some (48,true),.fldA 2 (.t 2)⟩,
   ⟨(some 50),some (48,true),.ld none (.t 49)⟩,
   ⟨(some 51),some (48,true),.bins .neq (.t 50) (.c (.p (.str [])))⟩,
   ⟨(some 52),some (45,false),.pick (.t 48) (.t 51) (.c (.p (.bool false)))⟩,
   oJ 53 (.pick (.t 45) (.c (.p (.bool true))) (.t 52)),
   oM 54 53,
   ⟨(some 55),some (54,false),.fldA 1 (.t 2)⟩,
   ⟨(some 56),some (54,false),.ld none (.t 55)⟩,
   ⟨(some 57),some (54,false),.call cn [(.t 56),(.c (.p (.int .i64 0))),(.c (.p (.int .i64 255)))]⟩,
   ⟨(some 58),some (54,false),.not (.t 57)⟩,
   oJ 59 (.pick (.t 54) (.c (.p (.bool true))) (.t 58)),
   oM 60 59,
   ⟨(some 61),some (60,false),.fldA 0 (.t 2)⟩,
   ⟨(some 62),some (60,false),.ld none (.t 61)⟩,
   ⟨(some 63),some (60,false),.bin .neq (.t 62) (.c (.p (.int .i64 1)))⟩,
   ⟨(some 64),some (60,false),.mov (.t 63)⟩,
   ⟨(some 65),some (64,true),.fldA 1 (.t 2)⟩,
   ⟨(some 66),some (64,true),.ld none (.t 65)⟩,
   ⟨(some 67),some (64,true),.bin .neq (.t 66) (.c (.p (.int .i64 0)))⟩,
   ⟨(some 68),some (60,false),.pick (.t 64) (.t 67) (.c (.p (.bool false)))⟩,
   oJ 69 (.pick (.t 60) (.c (.p (.bool true))) (.t 68))])
 (.cond (.t 69)
  (.seq (.reg [oJ 4 (.mov (.c (.p (.bool false))))])
  (.ret))
  (.skip)))
 (.seq (.seq (.reg [oK 8 0])
 (.blk 0 (.loop (.seq (.seq (.reg [oM 70 8,
   oF 71 3 2,
   oL 72 71,
   oJ 73 (.len false (.t 72)),
   oJ 74 (.bin .lss (.t 70) (.t 73))])
 (.cond (.t 74)
  (.skip)
  (.exit 0)))
 (.seq (.blk 1 (.seq (.reg [oF 77 3 2,
   oL 78 77,
   oM 79 8,
   oJ 80 (.idxS 4 (.t 78) (.t 79)),
   oJ 81 (.ld (some 4) (.t 80)),
   oM 82 1,
   oJ 83 (.bin .sub (.t 82) (.c (.p (.int .i64 1)))),
   oJ 84 (.call gP [(.t 81),(.t 83)]),
   oJ 85 (.not (.t 84))])
 (.cond (.t 85)
  (.seq (.reg [oJ 4 (.mov (.c (.p (.bool false))))])
  (.ret))
  (.skip))))
 (.reg [oM 75 8,
   oJ 76 (.bin .add (.t 75) (.c (.p (.int .i64 1)))),
   oM 8 76]))))))
 (.seq (.reg [oJ 4 (.mov (.c (.p (.bool true))))])
 (.ret)))))))⟩
theorem ri:ah Tryz.prog gP=some F_spec_l2Form:=by kernel_rfl
def pr:FK:=⟨21,[.t 2],
 .seq (.reg [oJ 1 (.box 4 (.t 0)),
  oK 2 0])
 (.seq (.reg [oK 3 1])
 (.seq (.seq (.reg [oK 4 0])
 (.blk 0 (.loop (.seq (.seq (.reg [oM 5 4,
   oF 6 3 1,
   oL 7 6,
   oJ 8 (.len false (.t 7)),
   oJ 9 (.bin .lss (.t 5) (.t 8))])
 (.cond (.t 9)
  (.skip)
  (.exit 0)))
 (.seq (.blk 1 (.reg [oM 12 3,
   oF 13 3 1,
   oL 14 13,
   oM 15 4,
   oJ 16 (.idxS 4 (.t 14) (.t 15)),
   oJ 17 (.ld (some 4) (.t 16)),
   oJ 18 (.call iB [(.t 17)]),
   oJ 19 (.bin .add (.t 12) (.t 18)),
   oM 3 19]))
 (.reg [oM 10 4,
   oJ 11 (.bin .add (.t 10) (.c (.p (.int .i64 1)))),
   oM 4 11]))))))
 (.seq (.reg [oM 20 3,
   oM 2 20])
 (.ret))))⟩
theorem ya:ah Tryz.prog iB=some pr:=by kernel_rfl
def nu:FK:=⟨10,[.t 2],
 .seq (.reg [oJ 1 (.box 4 (.t 0)),
  oJ 2 (.mov (.c (.p (.bool false))))])
 (.seq (.reg [oJ 3 (.ld (some 4) (.t 1)),
   oJ 4 (.call gP [(.t 3),(.c (.p (.int .i64 6)))]),
   oM 5 4,
   ⟨(some 6),some (5,true),.ld (some 4) (.t 1)⟩,
   ⟨(some 7),some (5,true),.call iB [(.t 6)]⟩,
   ⟨(some 8),some (5,true),.bin .leq (.t 7) (.c (.p (.int .i64 30)))⟩,
   oJ 9 (.pick (.t 5) (.t 8) (.c (.p (.bool false)))),
   oM 2 9])
 (.ret))⟩
theorem ua:ah Tryz.prog gi=some nu:=by kernel_rfl
def F_spec_l3Stmt:FK:=⟨108,[.t 4],
 .seq (.reg [oJ 2 (.box 5 (.t 0)),
  oJ 4 (.mov (.c (.p (.bool false))))])
 (.seq (.seq (.reg [oM 7 1,
   oJ 8 (.bin .lss (.t 7) (.c (.p (.int .i64 1)))),
   oM 9 8,
   ⟨(some 10),some (9,false),.fldA 0 (.t 2)⟩,
   ⟨(some 11),some (9,false),.ld none (.t 10)⟩,
   ⟨(some 12),some (9,false),.call cn [(.t 11),(.c (.p (.int .i64 1))),(.c (.p (.int .i64 8)))]⟩,
   ⟨(some 13),some (9,false),.not (.t 12)⟩,
   oJ 14 (.pick (.t 9) (.c (.p (.bool true))) (.t 13)),
   oM 15 14,
   ⟨(some 16),some (15,false),.fldA 2 (.t 2)⟩,
   ⟨(some 19),some (15,false),.fldA 0 (.t 2)⟩,
   ⟨(some 17),some (15,false),.ld none (.t 16)⟩,
   ⟨(some 18),some (15,false),.len false (.t 17)⟩,
   ⟨(some 20),some (15,false),.ld none (.t 19)⟩,
   ⟨(some 21),some (15,false),.qcall jF [(.t 20)]⟩,
   ⟨(some 22),some (15,false),.bin .neq (.t 18) (.t 21)⟩,
   oJ 23 (.pick (.t 15) (.c (.p (.bool true))) (.t 22))])
 (.cond (.t 23)
  (.seq (.reg [oJ 4 (.mov (.c (.p (.bool false))))])
  (.ret))
  (.skip)))
 (.seq (.reg [oF 24 0 2,
   oL 25 24,
   oJ 26 (.bin .eql (.t 25) (.c (.p (.int .i64 1)))),
   oM 27 26,
   ⟨(some 28),some (27,false),.fldA 0 (.t 2)⟩,
   ⟨(some 29),some (27,false),.ld none (.t 28)⟩,
   ⟨(some 30),some (27,false),.bin .eql (.t 29) (.c (.p (.int .i64 2)))⟩,
   oJ 31 (.pick (.t 27) (.c (.p (.bool true))) (.t 30)),
   oM 5 31])
 (.seq (.seq (.reg [oM 32 5,
   oF 33 1 2,
   oL 34 33,
   oJ 35 (.call dA [(.t 34)]),
   oJ 36 (.beq true (.t 32) (.t 35)),
   oM 37 36,
   ⟨(some 38),some (37,false),.mov (.t 5)⟩,
   ⟨(some 39),some (37,false),.not (.t 38)⟩,
   ⟨(some 40),some (37,false),.mov (.t 39)⟩,
   ⟨(some 41),some (40,true),.fldA 1 (.t 2)⟩,
   ⟨(some 42),some (40,true),.ld none (.t 41)⟩,
   ⟨(some 43),some (40,true),.bins .neq (.t 42) (.c (.p (.str [])))⟩,
   ⟨(some 44),some (37,false),.pick (.t 40) (.t 43) (.c (.p (.bool false)))⟩,
   oJ 45 (.pick (.t 37) (.c (.p (.bool true))) (.t 44))])
 (.cond (.t 45)
  (.seq (.reg [oJ 4 (.mov (.c (.p (.bool false))))])
  (.ret))
  (.skip)))
 (.seq (.seq (.reg [oK 6 0])
 (.blk 0 (.loop (.seq (.seq (.reg [oM 46 6,
   oF 47 2 2,
   oL 48 47,
   oJ 49 (.len false (.t 48)),
   oJ 50 (.bin .lss (.t 46) (.t 49))])
 (.cond (.t 50)
  (.skip)
  (.exit 0)))
 (.seq (.blk 1 (.seq (.reg [oF 53 2 2,
   oL 54 53,
   oM 55 6,
   oJ 56 (.idxS 4 (.t 54) (.t 55)),
   oJ 57 (.ld (some 4) (.t 56)),
   oJ 58 (.call gi [(.t 57)]),
   oJ 59 (.not (.t 58))])
 (.cond (.t 59)
  (.seq (.reg [oJ 4 (.mov (.c (.p (.bool false))))])
  (.ret))
  (.skip))))
 (.reg [oM 51 6,
   oJ 52 (.bin .add (.t 51) (.c (.p (.int .i64 1)))),
   oM 6 52]))))))
 (.seq (.seq (.reg [oF 60 0 2,
   oL 61 60,
   oJ 62 (.bin .eql (.t 61) (.c (.p (.int .i64 8)))),
   oM 63 62,
   ⟨(some 64),some (63,true),.fldA 2 (.t 2)⟩,
   ⟨(some 65),some (63,true),.ld none (.t 64)⟩,
   ⟨(some 66),some (63,true),.idxS 4 (.t 65) (.c (.p (.int .i64 0)))⟩,
   ⟨(some 67),some (63,true),.fldA 0 (.t 66)⟩,
   ⟨(some 68),some (63,true),.ld none (.t 67)⟩,
   ⟨(some 69),some (63,true),.bin .neq (.t 68) (.c (.p (.int .i64 13)))⟩,
   oJ 70 (.pick (.t 63) (.t 69) (.c (.p (.bool false))))])
 (.cond (.t 70)
  (.seq (.reg [oJ 4 (.mov (.c (.p (.bool false))))])
  (.ret))
  (.skip)))
 (.seq (.seq (.reg [oF 71 4 2,
   oL 72 71,
   oJ 73 (.len false (.t 72)),
   oJ 74 (.bin .gtr (.t 73) (.c (.p (.int .i64 0)))),
   oM 75 74,
   ⟨(some 76),some (75,true),.fldA 0 (.t 2)⟩,
   ⟨(some 77),some (75,true),.ld none (.t 76)⟩,
   ⟨(some 78),some (75,true),.bin .neq (.t 77) (.c (.p (.int .i64 5)))⟩,
   oJ 79 (.pick (.t 75) (.t 78) (.c (.p (.bool false)))),
   oM 80 79,
   ⟨(some 81),some (80,false),.fldA 3 (.t 2)⟩,
   ⟨(some 82),some (80,false),.ld none (.t 81)⟩,
   ⟨(some 83),some (80,false),.len false (.t 82)⟩,
   ⟨(some 84),some (80,false),.bin .gtr (.t 83) (.c (.p (.int .i64 0)))⟩,
   ⟨(some 85),some (80,false),.mov (.t 84)⟩,
   ⟨(some 86),some (85,true),.fldA 0 (.t 2)⟩,
   ⟨(some 87),some (85,true),.ld none (.t 86)⟩,
   ⟨(some 88),some (85,true),.bin .neq (.t 87) (.c (.p (.int .i64 5)))⟩,
   ⟨(some 89),some (80,false),.pick (.t 85) (.t 88) (.c (.p (.bool false)))⟩,
   ⟨(some 90),some (80,false),.mov (.t 89)⟩,
   ⟨(some 91),some (90,true),.fldA 0 (.t 2)⟩,
   ⟨(some 92),some (90,true),.ld none (.t 91)⟩,
   ⟨(some 93),some (90,true),.bin .neq (.t 92) (.c (.p (.int .i64 6)))⟩,
   ⟨(some 94),some (80,false),.pick (.t 90) (.t 93) (.c (.p (.bool false)))⟩,
   oJ 95 (.pick (.t 80) (.c (.p (.bool true))) (.t 94))])
 (.cond (.t 95)
  (.seq (.reg [oJ 4 (.mov (.c (.p (.bool false))))])
  (.ret))
  (.skip)))
 (.seq (.reg [oF 96 3 2,
   oL 97 96,
   oM 98 1,
   oJ 99 (.bin .sub (.t 98) (.c (.p (.int .i64 1)))),
   oJ 100 (.call da [(.t 97),(.t 99)]),
   oM 101 100,
   ⟨(some 102),some (101,true),.fldA 4 (.t 2)⟩,
   ⟨(some 103),some (101,true),.ld none (.t 102)⟩,
   ⟨(some 104),some (101,true),.mov (.t 1)⟩,
   ⟨(some 105),some (101,true),.bin .sub (.t 104) (.c (.p (.int .i64 1)))⟩,
   ⟨(some 106),some (101,true),.call da [(.t 103),(.t 105)]⟩,
   oJ 107 (.pick (.t 101) (.t 106) (.c (.p (.bool false)))),
   oM 4 107])
 (.ret))))))))⟩
theorem rb:ah Tryz.prog jI=some F_spec_l3Stmt:=by kernel_rfl
def pK:FK:=⟨19,[.t 4],
 .seq (.reg [oJ 4 (.mov (.c (.p (.bool false))))])
 (.seq (.seq (.reg [oK 5 0])
 (.blk 0 (.loop (.seq (.seq (.reg [oM 6 5,
   oM 7 0,
   oJ 8 (.len false (.t 7)),
   oJ 9 (.bin .lss (.t 6) (.t 8))])
 (.cond (.t 9)
  (.skip)
  (.exit 0)))
 (.seq (.blk 1 (.seq (.reg [oM 12 0,
   oM 13 5,
   oJ 14 (.idxS 5 (.t 12) (.t 13)),
   oJ 15 (.ld (some 5) (.t 14)),
   oM 16 1,
   oJ 17 (.call jI [(.t 15),(.t 16)]),
   oJ 18 (.not (.t 17))])
 (.cond (.t 18)
  (.seq (.reg [oJ 4 (.mov (.c (.p (.bool false))))])
  (.ret))
  (.skip))))
 (.reg [oM 10 5,
   oJ 11 (.bin .add (.t 10) (.c (.p (.int .i64 1)))),
   oM 5 11]))))))
 (.seq (.reg [oJ 4 (.mov (.c (.p (.bool true))))])
 (.ret)))⟩
theorem wa:ah Tryz.prog da=some pK:=by kernel_rfl
def uw:FK:=⟨32,[.t 2],
 .seq (.reg [oJ 1 (.box 3 (.t 0)),
  oJ 2 (.mov (.c (.p (.bool false))))])
 (.seq (.seq (.reg [oK 3 0])
 (.blk 0 (.loop (.seq (.seq (.reg [oM 4 3,
   oF 5 1 1,
   oL 6 5,
   oJ 7 (.len false (.t 6)),
   oJ 8 (.bin .lss (.t 4) (.t 7))])
 (.cond (.t 8)
  (.skip)
  (.exit 0)))
 (.seq (.blk 1 (.seq (.reg [oF 11 1 1,
   oL 12 11,
   oM 13 3,
   oJ 14 (.idxS 1 (.t 12) (.t 13)),
   oL 15 14,
   oJ 16 (.call dA [(.t 15)]),
   oJ 17 (.not (.t 16))])
 (.cond (.t 17)
  (.seq (.reg [oJ 2 (.mov (.c (.p (.bool false))))])
  (.ret))
  (.skip))))
 (.reg [oM 9 3,
   oJ 10 (.bin .add (.t 9) (.c (.p (.int .i64 1)))),
   oM 3 10]))))))
 (.seq (.reg [oF 18 0 1,
   oL 19 18,
   oJ 20 (.call dA [(.t 19)]),
   oM 21 20,
   ⟨(some 22),some (21,true),.fldA 1 (.t 1)⟩,
   ⟨(some 23),some (21,true),.ld none (.t 22)⟩,
   ⟨(some 24),some (21,true),.len false (.t 23)⟩,
   ⟨(some 25),some (21,true),.bin .leq (.t 24) (.c (.p (.int .i64 3)))⟩,
   oJ 26 (.pick (.t 21) (.t 25) (.c (.p (.bool false)))),
   oM 27 26,
   ⟨(some 28),some (27,true),.fldA 2 (.t 1)⟩,
   ⟨(some 29),some (27,true),.ld none (.t 28)⟩,
   ⟨(some 30),some (27,true),.call da [(.t 29),(.c (.p (.int .i64 4)))]⟩,
   oJ 31 (.pick (.t 27) (.t 30) (.c (.p (.bool false)))),
   oM 2 31])
 (.ret)))⟩
theorem Cn:ah Tryz.prog pj=some uw:=by kernel_rfl
def kT:FK:=⟨29,[.t 2],
 .seq (.reg [oK 2 0])
 (.seq (.reg [oM 5 0,
   oJ 6 (.len false (.t 5)),
   oM 3 6])
 (.seq (.seq (.reg [oK 4 0])
 (.blk 0 (.loop (.seq (.seq (.reg [oM 7 4,
   oM 8 0,
   oJ 9 (.len false (.t 8)),
   oJ 10 (.bin .lss (.t 7) (.t 9))])
 (.cond (.t 10)
  (.skip)
  (.exit 0)))
 (.seq (.blk 1 (.reg [oM 13 3,
   oM 14 0,
   oM 15 4,
   oJ 16 (.idxS 5 (.t 14) (.t 15)),
   oF 17 3 16,
   oM 21 0,
   oM 22 4,
   oJ 23 (.idxS 5 (.t 21) (.t 22)),
   oF 24 4 23,
   oL 18 17,
   oL 25 24,
   oJ 19 (.call fS [(.t 18)]),
   ⟨none,none,.chk none 24 25⟩,
   oJ 20 (.bin .add (.t 13) (.t 19)),
   oJ 26 (.call fS [(.t 25)]),
   oJ 27 (.bin .add (.t 20) (.t 26)),
   oM 3 27]))
 (.reg [oM 11 4,
   oJ 12 (.bin .add (.t 11) (.c (.p (.int .i64 1)))),
   oM 4 12]))))))
 (.seq (.reg [oM 28 3,
   oM 2 28])
 (.ret))))⟩
theorem pQ:ah Tryz.prog fS=some kT:=by kernel_rfl
def sv:FK:=⟨22,[.t 2],
 .seq (.reg [oJ 1 (.box 1 (.t 0)),
  oK 2 0])
 (.seq (.reg [oK 3 0])
 (.seq (.seq (.reg [oK 4 0])
 (.blk 0 (.loop (.seq (.seq (.reg [oM 5 4,
   oF 6 0 1,
   oL 7 6,
   oJ 8 (.len false (.t 7)),
   oJ 9 (.bin .lss (.t 5) (.t 8))])
 (.cond (.t 9)
  (.skip)
  (.exit 0)))
 (.seq (.blk 1 (.reg [oM 12 3,
   oF 13 0 1,
   oL 14 13,
   oM 15 4,
   oJ 16 (.idxS 3 (.t 14) (.t 15)),
   oF 17 2 16,
   oL 18 17,
   oJ 19 (.call fS [(.t 18)]),
   oJ 20 (.bin .add (.t 12) (.t 19)),
   oM 3 20]))
 (.reg [oM 10 4,
   oJ 11 (.bin .add (.t 10) (.c (.p (.int .i64 1)))),
   oM 4 11]))))))
 (.seq (.reg [oM 21 3,
   oM 2 21])
 (.ret))))⟩
theorem AJ:ah Tryz.prog nJ=some sv:=by kernel_rfl
def kB:FK:=⟨26,[.t 2],
 .seq (.reg [oJ 1 (.box 1 (.t 0)),
  oJ 2 (.mov (.c (.p (.bool false))))])
 (.seq (.seq (.reg [oF 4 0 1,
   oL 5 4,
   oJ 6 (.len false (.t 5)),
   oJ 7 (.call cn [(.t 6),(.c (.p (.int .i64 1))),(.c (.p (.int .i64 4)))]),
   oJ 8 (.not (.t 7))])
 (.cond (.t 8)
  (.seq (.reg [oJ 2 (.mov (.c (.p (.bool false))))])
  (.ret))
  (.skip)))
 (.seq (.seq (.reg [oK 3 0])
 (.blk 0 (.loop (.seq (.seq (.reg [oM 9 3,
   oF 10 0 1,
   oL 11 10,
   oJ 12 (.len false (.t 11)),
   oJ 13 (.bin .lss (.t 9) (.t 12))])
 (.cond (.t 13)
  (.skip)
  (.exit 0)))
 (.seq (.blk 1 (.seq (.reg [oF 16 0 1,
   oL 17 16,
   oM 18 3,
   oJ 19 (.idxS 3 (.t 17) (.t 18)),
   oJ 20 (.ld (some 3) (.t 19)),
   oJ 21 (.call pj [(.t 20)]),
   oJ 22 (.not (.t 21))])
 (.cond (.t 22)
  (.seq (.reg [oJ 2 (.mov (.c (.p (.bool false))))])
  (.ret))
  (.skip))))
 (.reg [oM 14 3,
   oJ 15 (.bin .add (.t 14) (.c (.p (.int .i64 1)))),
   oM 3 15]))))))
 (.seq (.reg [oJ 23 (.ld (some 1) (.t 1)),
   oJ 24 (.call nJ [(.t 23)]),
   oJ 25 (.bin .leq (.t 24) (.c (.p (.int .i64 40)))),
   oM 2 25])
 (.ret))))⟩
theorem qJ:ah Tryz.prog eJ=some kB:=by kernel_rfl
def uQ:FK:=⟨22,[.t 4],
 .seq (.reg [oJ 2 (.box 1 (.t 0)),
  oK 4 0])
 (.seq (.seq (.reg [oK 5 0])
 (.blk 0 (.loop (.seq (.seq (.reg [oM 6 5,
   oF 7 0 2,
   oL 8 7,
   oJ 9 (.len false (.t 8)),
   oJ 10 (.bin .lss (.t 6) (.t 9))])
 (.cond (.t 10)
  (.skip)
  (.exit 0)))
 (.seq (.blk 1 (.seq (.reg [oF 13 0 2,
   oL 14 13,
   oM 15 5,
   oJ 16 (.idxS 3 (.t 14) (.t 15)),
   oF 17 0 16,
   oL 18 17,
   oM 19 1,
   oJ 20 (.bins .eql (.t 18) (.t 19))])
 (.cond (.t 20)
  (.seq (.reg [oM 21 5,
    oM 4 21])
  (.ret))
  (.skip))))
 (.reg [oM 11 5,
   oJ 12 (.bin .add (.t 11) (.c (.p (.int .i64 1)))),
   oM 5 12]))))))
 (.seq (.reg [oJ 4 (.mov (.c (.p (.int .i64 (-1)))))])
 (.ret)))⟩
theorem BL:ah Tryz.prog iu=some uQ:=by kernel_rfl
def ie:FK:=⟨13,[],
 .seq (.reg [oM 4 0,
  oN 5 4,
  oF 6 4 5,
  oL 7 6,
  oJ 8 (.bin .eql (.t 7) (.c (.p (.int .i64 0))))])
 (.cond (.t 8)
  (.reg [oM 9 0,
    oM 10 1,
    oN 11 9,
    oF 12 4 11,
    oS 12 10])
  (.skip))⟩
theorem rz:ah Tryz.prog bg=some ie:=by kernel_rfl
def ik:FK:=⟨27,[.t 4],
 .seq (.reg [oK 4 0])
 (.seq (.seq (.reg [oM 6 0,
   oN 7 6,
   oF 8 2 7,
   oL 9 8,
   oJ 10 (.len false (.t 9)),
   oJ 11 (.bin .sub (.t 10) (.c (.p (.int .i64 1)))),
   oM 5 11])
 (.blk 0 (.loop (.seq (.seq (.reg [oM 12 5,
   oJ 13 (.bin .geq (.t 12) (.c (.p (.int .i64 0))))])
 (.cond (.t 13)
  (.skip)
  (.exit 0)))
 (.seq (.blk 1 (.seq (.reg [oM 16 0,
   oN 17 16,
   oF 18 2 17,
   oL 19 18,
   oM 20 5,
   oJ 21 (.idxS 3 (.t 19) (.t 20)),
   oF 22 0 21,
   oL 23 22,
   oM 24 1,
   oJ 25 (.bins .eql (.t 23) (.t 24))])
 (.cond (.t 25)
  (.seq (.reg [oM 26 5,
    oM 4 26])
  (.ret))
  (.skip))))
 (.reg [oM 14 5,
   oJ 15 (.bin .sub (.t 14) (.c (.p (.int .i64 1)))),
   oM 5 15]))))))
 (.seq (.reg [oJ 4 (.mov (.c (.p (.int .i64 (-1)))))])
 (.ret)))⟩
theorem rT:ah Tryz.prog dG=some ik:=by kernel_rfl
def qP:FK:=⟨11,[.t 2],
 .seq (.reg [oJ 2 (.mov (.c (.p (.str []))))])
 (.seq (.reg [oM 4 0,
   oJ 5 (.bin .rem (.t 4) (.c (.p (.int .i64 26)))),
   oM 3 5])
 (.seq (.reg [oM 6 3,
   oM 7 3,
   oJ 8 (.bin .add (.t 7) (.c (.p (.int .i64 1)))),
   oJ 9 (.slStr (.c (.p (.str [97,98,99,100,101,102,103,104,105,106,107,108,109,110,111,112,113,114,115,116,117,118,119,120,121,122]))) (some (.t 6)) (some (.t 8))),
   oJ 10 (.bins .add (.c (.p (.str [118]))) (.t 9)),
   oM 2 10])
 (.ret)))⟩
theorem yr:ah Tryz.prog gL=some qP:=by kernel_rfl
def F_spec_l4Walk_put:FK:=⟨57,[.t 6],
 .seq (.reg [oJ 6 (.mov (.c (.p (.str []))))])
 (.seq (.reg [oM 8 0,
   oM 9 1,
   oJ 10 (.call dG [(.t 8),(.t 9)]),
   oM 7 10])
 (.seq (.seq (.reg [oM 11 7,
   oJ 12 (.bin .geq (.t 11) (.c (.p (.int .i64 0)))),
   oM 13 12,
   ⟨(some 14),some (13,true),.mov (.t 0)⟩,
   ⟨(some 15),some (13,true),.nilck (.t 14)⟩,
   ⟨(some 16),some (13,true),.fldA 2 (.t 15)⟩,
   ⟨(some 17),some (13,true),.ld none (.t 16)⟩,
   ⟨(some 18),some (13,true),.mov (.t 7)⟩,
   ⟨(some 19),some (13,true),.idxS 3 (.t 17) (.t 18)⟩,
   ⟨(some 20),some (13,true),.fldA 2 (.t 19)⟩,
   ⟨(some 21),some (13,true),.ld none (.t 20)⟩,
   ⟨(some 22),some (13,true),.mov (.t 2)⟩,
   ⟨(some 23),some (13,true),.bin .eql (.t 21) (.t 22)⟩,
   oJ 24 (.pick (.t 13) (.t 23) (.c (.p (.bool false))))])
 (.cond (.t 24)
  (.reg [oM 25 0,
    oJ 26 (.call bg [(.t 25),(.c (.p (.int .i64 2)))])])
  (.skip)))
 (.seq (.reg [oM 27 0,
   oM 28 0,
   oN 29 28,
   oF 30 2 29,
   oM 32 1,
   oM 33 0,
   oN 34 33,
   oF 35 3 34,
   oM 37 2,
   oL 31 30,
   oL 36 35,
   oJ 38 (.bld [(.p (.str [])),(.p (.int .i64 0)),(.p (.int .i64 0))] [(0,1,(.t 32)),(1,1,(.t 36)),(2,1,(.t 37))]),
   oJ 39 (.bslP 3 [(.p (.str [])),(.p (.int .i64 0)),(.p (.int .i64 0))] 1 [(0,3,(.t 38))]),
   oJ 40 (.app 3 32 (.t 31) (.t 39)),
   oN 41 27,
   oF 42 2 41,
   oS 42 40])
 (.seq (.reg [oM 43 0,
   oM 44 0,
   oN 45 44,
   oF 46 3 45,
   oL 47 46,
   oJ 48 (.bin .add (.t 47) (.c (.p (.int .i64 1)))),
   oN 49 43,
   oF 50 3 49,
   oS 50 48])
 (.seq (.reg [oM 51 0,
   oN 52 51,
   oF 53 3 52,
   oL 54 53,
   oJ 55 (.bin .sub (.t 54) (.c (.p (.int .i64 1)))),
   oJ 56 (.call gL [(.t 55)]),
   oM 6 56])
 (.ret))))))⟩
theorem sO:ah Tryz.prog dg=some F_spec_l4Walk_put:=by kernel_rfl
def me:FK:=⟨23,[.t 4],
 .seq (.reg [oJ 4 (.mov (.c (.p (.str []))))])
 (.seq (.reg [oM 6 0,
   oM 7 1,
   oJ 8 (.call dG [(.t 6),(.t 7)]),
   oM 5 8])
 (.seq (.seq (.reg [oM 9 5,
   oJ 10 (.bin .lss (.t 9) (.c (.p (.int .i64 0))))])
 (.cond (.t 10)
  (.seq (.reg [oM 11 0,
    oJ 12 (.call bg [(.t 11),(.c (.p (.int .i64 3)))])])
  (.seq (.reg [oM 13 1,
    oM 4 13])
  (.ret)))
  (.skip)))
 (.seq (.reg [oM 14 0,
   oN 15 14,
   oF 16 2 15,
   oL 17 16,
   oM 18 5,
   oJ 19 (.idxS 3 (.t 17) (.t 18)),
   oF 20 1 19,
   oL 21 20,
   oJ 22 (.call gL [(.t 21)]),
   oM 4 22])
 (.ret))))⟩
theorem sU:ah Tryz.prog de=some me:=by kernel_rfl
def F_spec_l4Walk_expr:FK:=⟨75,[.c 4 (some 4)],
 .seq (.reg [oJ 3 (.box 4 (.t 1)),
  oJ 4 (.alloc [(.p (.int .i64 0)),(.p (.int .i64 0)),(.p (.str [])),.nils])])
 (.seq (.seq (.reg [oF 8 0 3,
   oL 9 8,
   oJ 10 (.bin .eql (.t 9) (.c (.p (.int .i64 2))))])
 (.cond (.t 10)
  (.reg [oM 11 0,
    oF 12 2 3,
    oL 13 12,
    oJ 14 (.call de [(.t 11),(.t 13)]),
    oF 15 2 3,
    oS 15 14])
  (.skip)))
 (.seq (.seq (.reg [oF 16 0 3,
   oL 17 16,
   oJ 18 (.bin .eql (.t 17) (.c (.p (.int .i64 13))))])
 (.cond (.t 18)
  (.seq (.reg [oM 19 0,
    oN 20 19,
    oF 21 0 20,
    oF 23 2 3,
    oJ 22 (.ld (some 1) (.t 21)),
    oL 24 23,
    oJ 25 (.call iu [(.t 22),(.t 24)]),
    oM 5 25])
  (.seq (.reg [oM 26 5,
    oJ 27 (.bin .lss (.t 26) (.c (.p (.int .i64 0)))),
    oM 28 27,
    ⟨(some 29),some (28,false),.mov (.t 5)⟩,
    ⟨(some 30),some (28,false),.mov (.t 0)⟩,
    ⟨(some 31),some (28,false),.nilck (.t 30)⟩,
    ⟨(some 32),some (28,false),.fldA 1 (.t 31)⟩,
    ⟨(some 33),some (28,false),.ld none (.t 32)⟩,
    ⟨(some 34),some (28,false),.bin .geq (.t 29) (.t 33)⟩,
    oJ 35 (.pick (.t 28) (.c (.p (.bool true))) (.t 34))])
  (.cond (.t 35)
   (.reg [oM 36 0,
     oJ 37 (.call bg [(.t 36),(.c (.p (.int .i64 4)))])])
   (.seq (.reg [oM 38 0,
     oN 39 38,
     oF 40 0 39,
     oF 41 0 40,
     oM 43 5,
     oF 48 3 3,
     oL 42 41,
     oJ 44 (.idxS 3 (.t 42) (.t 43)),
     oF 45 1 44,
     oL 46 45,
     oJ 47 (.len false (.t 46)),
     oL 49 48,
     oJ 50 (.len false (.t 49)),
     oJ 51 (.bin .neq (.t 47) (.t 50))])
   (.cond (.t 51)
    (.reg [oM 52 0,
      oJ 53 (.call bg [(.t 52),(.c (.p (.int .i64 5)))])])
    (.skip))))))
  (.skip)))
 (.seq (.reg [oJ 54 (.bsl 4 [(.p (.int .i64 0)),(.p (.int .i64 0)),(.p (.str [])),.nils] 0 []),
   oM 6 54])
 (.seq (.seq (.reg [oK 7 0])
 (.blk 0 (.loop (.seq (.seq (.reg [oM 55 7,
   oF 56 3 3,
   oL 57 56,
   oJ 58 (.len false (.t 57)),
   oJ 59 (.bin .lss (.t 55) (.t 58))])
 (.cond (.t 59)
  (.skip)
  (.exit 0)))
 (.seq (.blk 1 (.reg [oM 62 6,
   oM 63 0,
   oF 64 3 3,
   oL 65 64,
   oM 66 7,
   oJ 67 (.idxS 4 (.t 65) (.t 66)),
   oJ 68 (.ld (some 4) (.t 67)),
   oJ 69 (.call cf [(.t 63),(.t 68)]),
   oJ 70 (.bsl 4 [(.p (.int .i64 0)),(.p (.int .i64 0)),(.p (.str [])),.nils] 1 [(0,4,(.t 69))]),
   oJ 71 (.app 4 56 (.t 62) (.t 70)),
   oM 6 71]))
 (.reg [oM 60 7,
   oJ 61 (.bin .add (.t 60) (.c (.p (.int .i64 1)))),
   oM 7 61]))))))
 (.seq (.reg [oM 72 6,
   oF 73 3 3,
   oS 73 72])
 (.seq (.reg [oJ 74 (.ld (some 4) (.t 3)),
   ⟨none,none,.st 4 (.t 4) (.t 74)⟩])
 (.ret)))))))⟩
theorem rr:ah Tryz.prog cf=some F_spec_l4Walk_expr:=by kernel_rfl
def F_spec_l4Walk_stmts:FK:=⟨96,[.t 6],
 .seq (.reg [oJ 6 (.mov (.c .nils))])
 (.seq (.reg [oJ 13 (.bsl 5 [(.p (.int .i64 0)),(.p (.str [])),.nils,.nils,.nils] 0 []),
   oM 7 13])
 (.seq (.reg [oM 14 0,
   oN 15 14,
   oF 16 2 15,
   oL 17 16,
   oJ 18 (.len false (.t 17)),
   oM 8 18])
 (.seq (.seq (.reg [oK 9 0])
 (.blk 0 (.loop (.seq (.seq (.reg [oM 19 9,
   oM 20 1,
   oJ 21 (.len false (.t 20)),
   oJ 22 (.bin .lss (.t 19) (.t 21))])
 (.cond (.t 22)
  (.skip)
  (.exit 0)))
 (.seq (.blk 1 (.seq (.reg [oM 25 1,
   oM 26 9,
   oJ 27 (.idxS 5 (.t 25) (.t 26)),
   oJ 28 (.ld (some 5) (.t 27)),
   oJ 10 (.alloc [(.p (.int .i64 0)),(.p (.str [])),.nils,.nils,.nils]),
   ⟨none,none,.st 5 (.t 10) (.t 28)⟩])
 (.seq (.reg [oJ 29 (.bsl 4 [(.p (.int .i64 0)),(.p (.int .i64 0)),(.p (.str [])),.nils] 0 []),
   oM 11 29])
 (.seq (.seq (.reg [oK 12 0])
 (.blk 2 (.loop (.seq (.seq (.reg [oM 30 12,
   oF 31 2 10,
   oL 32 31,
   oJ 33 (.len false (.t 32)),
   oJ 34 (.bin .lss (.t 30) (.t 33))])
 (.cond (.t 34)
  (.skip)
  (.exit 2)))
 (.seq (.blk 3 (.reg [oM 37 11,
   oM 38 0,
   oF 39 2 10,
   oL 40 39,
   oM 41 12,
   oJ 42 (.idxS 4 (.t 40) (.t 41)),
   oJ 43 (.ld (some 4) (.t 42)),
   oJ 44 (.call cf [(.t 38),(.t 43)]),
   oJ 45 (.bsl 4 [(.p (.int .i64 0)),(.p (.int .i64 0)),(.p (.str [])),.nils] 1 [(0,4,(.t 44))]),
   oJ 46 (.app 4 56 (.t 37) (.t 45)),
   oM 11 46]))
 (.reg [oM 35 12,
   oJ 36 (.bin .add (.t 35) (.c (.p (.int .i64 1)))),
   oM 12 36]))))))
 (.seq (.reg [oM 47 11,
   oF 48 2 10,
   oS 48 47])
 (.seq (.seq (.reg [oF 49 0 10,
   oL 50 49,
   oJ 51 (.bin .eql (.t 50) (.c (.p (.int .i64 1))))])
 (.cond (.t 51)
  (.reg [oM 52 0,
    oF 53 1 10,
    oL 54 53,
    oM 55 2,
    oJ 56 (.call dg [(.t 52),(.t 54),(.t 55)]),
    oF 57 1 10,
    oS 57 56])
  (.skip)))
 (.seq (.seq (.reg [oF 58 0 10,
   oL 59 58,
   oJ 60 (.bin .eql (.t 59) (.c (.p (.int .i64 2))))])
 (.cond (.t 60)
  (.reg [oM 61 0,
    oF 62 1 10,
    oL 63 62,
    oJ 64 (.call de [(.t 61),(.t 63)]),
    oF 65 1 10,
    oS 65 64])
  (.skip)))
 (.seq (.reg [oM 66 0,
   oF 67 3 10,
   oL 68 67,
   oM 69 2,
   oJ 70 (.bin .add (.t 69) (.c (.p (.int .i64 1)))),
   oJ 71 (.call bH [(.t 66),(.t 68),(.t 70)]),
   oF 72 3 10,
   oS 72 71])
 (.seq (.reg [oM 73 0,
   oF 74 4 10,
   oL 75 74,
   oM 76 2,
   oJ 77 (.bin .add (.t 76) (.c (.p (.int .i64 1)))),
   oJ 78 (.call bH [(.t 73),(.t 75),(.t 77)]),
   oF 79 4 10,
   oS 79 78])
 (.reg [oM 80 7,
   oJ 81 (.ld (some 5) (.t 10)),
   oJ 82 (.bsl 5 [(.p (.int .i64 0)),(.p (.str [])),.nils,.nils,.nils] 1 [(0,5,(.t 81))]),
   oJ 83 (.app 5 96 (.t 80) (.t 82)),
   oM 7 83]))))))))))
 (.reg [oM 23 9,
   oJ 24 (.bin .add (.t 23) (.c (.p (.int .i64 1)))),
   oM 9 24]))))))
 (.seq (.seq (.reg [oM 84 2,
   oJ 85 (.bin .gtr (.t 84) (.c (.p (.int .i64 0))))])
 (.cond (.t 85)
  (.reg [oM 86 0,
    oM 87 0,
    oN 88 87,
    oF 89 2 88,
    oL 90 89,
    oM 91 8,
    oJ 92 (.slS 3 (.t 90) none (some (.t 91))),
    oN 93 86,
    oF 94 2 93,
    oS 94 92])
  (.skip)))
 (.seq (.reg [oM 95 7,
   oM 6 95])
 (.ret))))))⟩
theorem qL:ah Tryz.prog bH=some F_spec_l4Walk_stmts:=by kernel_rfl
def F_spec_l4Fn:FK:=⟨62,[.c 4 (some 3),.t 5,.t 6],
 .seq (.reg [oJ 2 (.box 1 (.t 0)),
  oJ 4 (.alloc [(.p (.str [])),.nils,.nils]),
  oK 5 0,
  oK 6 0])
 (.seq (.reg [oJ 11 (.ld (some 1) (.t 2)),
   oM 12 1,
   oJ 13 (.bld [.nils,(.p (.int .i64 0)),.nils,(.p (.int .i64 0)),(.p (.int .i64 0))] [(0,1,(.t 11)),(1,1,(.t 12))]),
   oJ 14 (.box 5 (.t 13)),
   oM 7 14])
 (.seq (.reg [oF 15 0 2,
   oL 16 15,
   oM 17 1,
   oJ 18 (.idxS 3 (.t 16) (.t 17)),
   oJ 19 (.ld (some 3) (.t 18)),
   oJ 8 (.alloc [(.p (.str [])),.nils,.nils]),
   ⟨none,none,.st 3 (.t 8) (.t 19)⟩])
 (.seq (.seq (.reg [oJ 20 (.ld (some 1) (.t 2)),
   oF 21 0 8,
   oL 22 21,
   oJ 23 (.call iu [(.t 20),(.t 22)]),
   oM 24 1,
   oJ 25 (.bin .neq (.t 23) (.t 24))])
 (.cond (.t 25)
  (.reg [oM 26 7,
    oJ 27 (.call bg [(.t 26),(.c (.p (.int .i64 2)))])])
  (.skip)))
 (.seq (.reg [oJ 28 (.bsl 1 [(.p (.str []))] 0 []),
   oM 9 28])
 (.seq (.seq (.reg [oK 10 0])
 (.blk 0 (.loop (.seq (.seq (.reg [oM 29 10,
   oF 30 1 8,
   oL 31 30,
   oJ 32 (.len false (.t 31)),
   oJ 33 (.bin .lss (.t 29) (.t 32))])
 (.cond (.t 33)
  (.skip)
  (.exit 0)))
 (.seq (.blk 1 (.reg [oM 36 9,
   oM 37 7,
   oF 38 1 8,
   oL 39 38,
   oM 40 10,
   oJ 41 (.idxS 1 (.t 39) (.t 40)),
   oL 42 41,
   oJ 43 (.call dg [(.t 37),(.t 42),(.c (.p (.int .i64 0)))]),
   oJ 44 (.bsl 1 [(.p (.str []))] 1 [(0,1,(.t 43))]),
   oJ 45 (.app 1 16 (.t 36) (.t 44)),
   oM 9 45]))
 (.reg [oM 34 10,
   oJ 35 (.bin .add (.t 34) (.c (.p (.int .i64 1)))),
   oM 10 35]))))))
 (.seq (.reg [oM 46 9,
   oF 47 1 8,
   oS 47 46])
 (.seq (.reg [oM 48 7,
   oF 49 2 8,
   oL 50 49,
   oJ 51 (.call bH [(.t 48),(.t 50),(.c (.p (.int .i64 0)))]),
   oF 52 2 8,
   oS 52 51])
 (.seq (.reg [oM 54 7,
   oN 55 54,
   oF 56 4 55,
   oM 58 7,
   oN 59 58,
   oF 60 3 59,
   oJ 53 (.ld (some 3) (.t 8)),
   oL 57 56,
   oL 61 60,
   ⟨none,none,.st 3 (.t 4) (.t 53)⟩,
   ⟨none,none,.chk none 56 57⟩,
   ⟨none,none,.chk none 60 61⟩,
   oM 5 57,
   oM 6 61])
 (.ret)))))))))⟩
theorem Cu:ah Tryz.prog lW=some F_spec_l4Fn:=by kernel_rfl
def kz:FK:=⟨27,[.t 2],
 .seq (.reg [oJ 1 (.box 1 (.t 0)),
  oK 2 0])
 (.seq (.seq (.reg [oJ 7 (.ld (some 1) (.t 1)),
   oJ 8 (.call eJ [(.t 7)]),
   oJ 9 (.not (.t 8))])
 (.cond (.t 9)
  (.seq (.reg [oK 2 1])
  (.ret))
  (.skip)))
 (.seq (.seq (.reg [oK 3 0])
 (.blk 0 (.loop (.seq (.seq (.reg [oM 10 3,
   oF 11 0 1,
   oL 12 11,
   oJ 13 (.len false (.t 12)),
   oJ 14 (.bin .lss (.t 10) (.t 13))])
 (.cond (.t 14)
  (.skip)
  (.exit 0)))
 (.seq (.blk 1 (.seq (.reg [oJ 18 (.ld (some 1) (.t 1)),
   oM 19 3,
   oJ 20 (.call lW [(.t 18),(.t 19)]),
   oM 17 20,
   oJ 21 (.ext 0 (.t 17)),
   oJ 22 (.ext 1 (.t 17)),
   oJ 23 (.ext 2 (.t 17)),
   oJ 4 (.alloc [(.p (.str [])),.nils,.nils]),
   ⟨none,none,.st 3 (.t 4) (.t 21)⟩,
   oM 5 22,
   oM 6 23])
 (.seq (.reg [oM 24 5,
   oJ 25 (.bin .neq (.t 24) (.c (.p (.int .i64 0))))])
 (.cond (.t 25)
  (.seq (.reg [oM 26 5,
    oM 2 26])
  (.ret))
  (.skip)))))
 (.reg [oM 15 3,
   oJ 16 (.bin .add (.t 15) (.c (.p (.int .i64 1)))),
   oM 3 16]))))))
 (.seq (.reg [oK 2 0])
 (.ret))))⟩
theorem qI:ah Tryz.prog gv=some kz:=by kernel_rfl
def rj:FK:=⟨6,[.t 2],
 .seq (.reg [oJ 1 (.box 1 (.t 0)),
  oJ 2 (.mov (.c (.p (.bool false))))])
 (.seq (.reg [oJ 3 (.ld (some 1) (.t 1)),
   oJ 4 (.call gv [(.t 3)]),
   oJ 5 (.bin .eql (.t 4) (.c (.p (.int .i64 0)))),
   oM 2 5])
 (.ret))⟩
theorem yM:ah Tryz.prog jH=some rj:=by kernel_rfl
def rd:FK:=⟨25,[.c 2 (some 4)],
 .seq (.reg [oJ 1 (.box 4 (.t 0)),
  oJ 2 (.alloc [(.p (.int .i64 0)),(.p (.int .i64 0)),(.p (.str [])),.nils])])
 (.seq (.reg [oJ 5 (.bsl 4 [(.p (.int .i64 0)),(.p (.int .i64 0)),(.p (.str [])),.nils] 0 []),
   oM 3 5])
 (.seq (.seq (.reg [oK 4 0])
 (.blk 0 (.loop (.seq (.seq (.reg [oM 6 4,
   oF 7 3 1,
   oL 8 7,
   oJ 9 (.len false (.t 8)),
   oJ 10 (.bin .lss (.t 6) (.t 9))])
 (.cond (.t 10)
  (.skip)
  (.exit 0)))
 (.seq (.blk 1 (.reg [oM 13 3,
   oF 14 3 1,
   oL 15 14,
   oM 16 4,
   oJ 17 (.idxS 4 (.t 15) (.t 16)),
   oJ 18 (.ld (some 4) (.t 17)),
   oJ 19 (.call jJ [(.t 18)]),
   oJ 20 (.bsl 4 [(.p (.int .i64 0)),(.p (.int .i64 0)),(.p (.str [])),.nils] 1 [(0,4,(.t 19))]),
   oJ 21 (.app 4 56 (.t 13) (.t 20)),
   oM 3 21]))
 (.reg [oM 11 4,
   oJ 12 (.bin .add (.t 11) (.c (.p (.int .i64 1)))),
   oM 4 12]))))))
 (.seq (.reg [oM 22 3,
   oF 23 3 1,
   oS 23 22])
 (.seq (.reg [oJ 24 (.ld (some 4) (.t 1)),
   ⟨none,none,.st 4 (.t 2) (.t 24)⟩])
 (.ret)))))⟩
theorem yN:ah Tryz.prog jJ=some rd:=by kernel_rfl
def pF:FK:=⟨52,[.t 2],
 .seq (.reg [oJ 2 (.mov (.c .nils))])
 (.seq (.reg [oJ 8 (.bsl 5 [(.p (.int .i64 0)),(.p (.str [])),.nils,.nils,.nils] 0 []),
   oM 3 8])
 (.seq (.seq (.reg [oK 4 0])
 (.blk 0 (.loop (.seq (.seq (.reg [oM 9 4,
   oM 10 0,
   oJ 11 (.len false (.t 10)),
   oJ 12 (.bin .lss (.t 9) (.t 11))])
 (.cond (.t 12)
  (.skip)
  (.exit 0)))
 (.seq (.blk 1 (.seq (.reg [oM 15 0,
   oM 16 4,
   oJ 17 (.idxS 5 (.t 15) (.t 16)),
   oJ 18 (.ld (some 5) (.t 17)),
   oJ 5 (.alloc [(.p (.int .i64 0)),(.p (.str [])),.nils,.nils,.nils]),
   ⟨none,none,.st 5 (.t 5) (.t 18)⟩])
 (.seq (.reg [oJ 19 (.bsl 4 [(.p (.int .i64 0)),(.p (.int .i64 0)),(.p (.str [])),.nils] 0 []),
   oM 6 19])
 (.seq (.seq (.reg [oK 7 0])
 (.blk 2 (.loop (.seq (.seq (.reg [oM 20 7,
   oF 21 2 5,
   oL 22 21,
   oJ 23 (.len false (.t 22)),
   oJ 24 (.bin .lss (.t 20) (.t 23))])
 (.cond (.t 24)
  (.skip)
  (.exit 2)))
 (.seq (.blk 3 (.reg [oM 27 6,
   oF 28 2 5,
   oL 29 28,
   oM 30 7,
   oJ 31 (.idxS 4 (.t 29) (.t 30)),
   oJ 32 (.ld (some 4) (.t 31)),
   oJ 33 (.call jJ [(.t 32)]),
   oJ 34 (.bsl 4 [(.p (.int .i64 0)),(.p (.int .i64 0)),(.p (.str [])),.nils] 1 [(0,4,(.t 33))]),
   oJ 35 (.app 4 56 (.t 27) (.t 34)),
   oM 6 35]))
 (.reg [oM 25 7,
   oJ 26 (.bin .add (.t 25) (.c (.p (.int .i64 1)))),
   oM 7 26]))))))
 (.reg [oM 36 3,
   oF 37 0 5,
   oF 39 1 5,
   oM 41 6,
   oF 42 3 5,
   oF 45 4 5,
   oL 38 37,
   oL 40 39,
   oL 43 42,
   oL 46 45,
   oJ 44 (.call dK [(.t 43)]),
   ⟨none,none,.chk none 37 38⟩,
   ⟨none,none,.chk none 39 40⟩,
   ⟨none,none,.chk none 45 46⟩,
   oJ 47 (.call dK [(.t 46)]),
   ⟨none,none,.chk none 37 38⟩,
   ⟨none,none,.chk none 39 40⟩,
   oJ 48 (.bld [(.p (.int .i64 0)),(.p (.str [])),.nils,.nils,.nils] [(0,1,(.t 38)),(1,1,(.t 40)),(2,1,(.t 41)),(3,1,(.t 44)),(4,1,(.t 47))]),
   oJ 49 (.bsl 5 [(.p (.int .i64 0)),(.p (.str [])),.nils,.nils,.nils] 1 [(0,5,(.t 48))]),
   oJ 50 (.app 5 96 (.t 36) (.t 49)),
   oM 3 50])))))
 (.reg [oM 13 4,
   oJ 14 (.bin .add (.t 13) (.c (.p (.int .i64 1)))),
   oM 4 14]))))))
 (.seq (.reg [oM 51 3,
   oM 2 51])
 (.ret))))⟩
theorem wq:ah Tryz.prog dK=some pF:=by kernel_rfl
def mC:FK:=⟨35,[.c 2 (some 1)],
 .seq (.reg [oJ 1 (.box 1 (.t 0)),
  oJ 2 (.alloc [.nils])])
 (.seq (.reg [oJ 6 (.bld [.nils] []),
   oJ 3 (.alloc [.nils]),
   oS 3 6])
 (.seq (.seq (.reg [oK 4 0])
 (.blk 0 (.loop (.seq (.seq (.reg [oM 7 4,
   oF 8 0 1,
   oL 9 8,
   oJ 10 (.len false (.t 9)),
   oJ 11 (.bin .lss (.t 7) (.t 10))])
 (.cond (.t 11)
  (.skip)
  (.exit 0)))
 (.seq (.blk 1 (.seq (.reg [oF 14 0 1,
   oL 15 14,
   oM 16 4,
   oJ 17 (.idxS 3 (.t 15) (.t 16)),
   oJ 18 (.ld (some 3) (.t 17)),
   oJ 5 (.alloc [(.p (.str [])),.nils,.nils]),
   ⟨none,none,.st 3 (.t 5) (.t 18)⟩])
 (.reg [oF 19 0 3,
   oF 21 0 5,
   oF 24 1 5,
   oF 27 2 5,
   oL 20 19,
   oL 22 21,
   oL 25 24,
   oL 28 27,
   oJ 23 (.bsl 1 [(.p (.str []))] 0 []),
   ⟨none,none,.chk none 19 20⟩,
   ⟨none,none,.chk none 21 22⟩,
   ⟨none,none,.chk none 24 25⟩,
   ⟨none,none,.chk none 27 28⟩,
   oJ 26 (.app 1 16 (.t 23) (.t 25)),
   ⟨none,none,.chk none 19 20⟩,
   ⟨none,none,.chk none 21 22⟩,
   ⟨none,none,.chk none 27 28⟩,
   oJ 29 (.call dK [(.t 28)]),
   ⟨none,none,.chk none 19 20⟩,
   ⟨none,none,.chk none 21 22⟩,
   oJ 30 (.bld [(.p (.str [])),.nils,.nils] [(0,1,(.t 22)),(1,1,(.t 26)),(2,1,(.t 29))]),
   oJ 31 (.bsl 3 [(.p (.str [])),.nils,.nils] 1 [(0,3,(.t 30))]),
   ⟨none,none,.chk none 19 20⟩,
   oJ 32 (.app 3 64 (.t 20) (.t 31)),
   oF 33 0 3,
   oS 33 32])))
 (.reg [oM 12 4,
   oJ 13 (.bin .add (.t 12) (.c (.p (.int .i64 1)))),
   oM 4 13]))))))
 (.seq (.reg [oJ 34 (.ld (some 1) (.t 3)),
   oS 2 34])
 (.ret))))⟩
theorem qT:ah Tryz.prog er=some mC:=by kernel_rfl
def pw:FK:=⟨14,[.t 4],
 .seq (.reg [oJ 2 (.box 4 (.t 0)),
  oJ 4 (.mov (.c (.p (.bool false))))])
 (.seq (.reg [oF 5 0 2,
   oL 6 5,
   oJ 7 (.bin .eql (.t 6) (.c (.p (.int .i64 1)))),
   oM 8 7,
   ⟨(some 9),some (8,true),.fldA 1 (.t 2)⟩,
   ⟨(some 10),some (8,true),.ld none (.t 9)⟩,
   ⟨(some 11),some (8,true),.mov (.t 1)⟩,
   ⟨(some 12),some (8,true),.bin .eql (.t 10) (.t 11)⟩,
   oJ 13 (.pick (.t 8) (.t 12) (.c (.p (.bool false)))),
   oM 4 13])
 (.ret))⟩
theorem Bz:ah Tryz.prog bs=some pw:=by kernel_rfl
def F_spec_l6Cuts:FK:=⟨60,[.t 2],
 .seq (.reg [oJ 2 (.mov (.c .nils))])
 (.seq (.reg [oJ 7 (.bsl 5 [(.p (.int .i64 0)),(.p (.str [])),.nils,.nils,.nils] 0 []),
   oM 3 7])
 (.seq (.seq (.reg [oK 4 0])
 (.blk 0 (.loop (.seq (.seq (.reg [oM 8 4,
   oM 9 0,
   oJ 10 (.len false (.t 9)),
   oJ 11 (.bin .lss (.t 8) (.t 10))])
 (.cond (.t 11)
  (.skip)
  (.exit 0)))
 (.seq (.blk 1 (.seq (.reg [oM 14 0,
   oM 15 4,
   oJ 16 (.idxS 5 (.t 14) (.t 15)),
   oJ 17 (.ld (some 5) (.t 16)),
   oJ 5 (.alloc [(.p (.int .i64 0)),(.p (.str [])),.nils,.nils,.nils]),
   ⟨none,none,.st 5 (.t 5) (.t 17)⟩])
 (.seq (.reg [oF 18 2 5,
   oL 19 18,
   oJ 20 (.idxS 4 (.t 19) (.c (.p (.int .i64 0)))),
   oJ 21 (.ld (some 4) (.t 20)),
   oJ 6 (.alloc [(.p (.int .i64 0)),(.p (.int .i64 0)),(.p (.str [])),.nils]),
   ⟨none,none,.st 4 (.t 6) (.t 21)⟩])
 (.seq (.reg [oF 22 3 5,
   oL 23 22,
   oJ 24 (.call cb [(.t 23)]),
   oF 25 3 5,
   oS 25 24])
 (.seq (.reg [oF 26 4 5,
   oL 27 26,
   oJ 28 (.call cb [(.t 27)]),
   oF 29 4 5,
   oS 29 28])
 (.seq (.seq (.reg [oF 30 0 5,
   oL 31 30,
   oJ 32 (.bin .eql (.t 31) (.c (.p (.int .i64 6)))),
   oM 33 32,
   ⟨(some 34),some (33,true),.ld (some 4) (.t 6)⟩,
   ⟨(some 35),some (33,true),.call bs [(.t 34),(.c (.p (.int .i64 0)))]⟩,
   oJ 36 (.pick (.t 33) (.t 35) (.c (.p (.bool false))))])
 (.cond (.t 36)
  (.exit 1)
  (.skip)))
 (.seq (.seq (.reg [oF 37 0 5,
   oL 38 37,
   oJ 39 (.bin .eql (.t 38) (.c (.p (.int .i64 5)))),
   oM 40 39,
   ⟨(some 41),some (40,true),.fldA 0 (.t 6)⟩,
   ⟨(some 42),some (40,true),.ld none (.t 41)⟩,
   ⟨(some 43),some (40,true),.bin .eql (.t 42) (.c (.p (.int .i64 1)))⟩,
   oJ 44 (.pick (.t 40) (.t 43) (.c (.p (.bool false))))])
 (.cond (.t 44)
  (.seq (.reg [oF 45 1 6,
    oL 46 45,
    oJ 47 (.bin .neq (.t 46) (.c (.p (.int .i64 0))))])
  (.cond (.t 47)
   (.reg [oJ 48 (.bsl 5 [(.p (.int .i64 0)),(.p (.str [])),.nils,.nils,.nils] 0 []),
     oF 49 4 5,
     oS 49 48])
   (.reg [oJ 50 (.bsl 5 [(.p (.int .i64 0)),(.p (.str [])),.nils,.nils,.nils] 0 []),
     oF 51 3 5,
     oS 51 50])))
  (.skip)))
 (.seq (.reg [oM 52 3,
   oJ 53 (.ld (some 5) (.t 5)),
   oJ 54 (.bsl 5 [(.p (.int .i64 0)),(.p (.str [])),.nils,.nils,.nils] 1 [(0,5,(.t 53))]),
   oJ 55 (.app 5 96 (.t 52) (.t 54)),
   oM 3 55])
 (.seq (.reg [oF 56 0 5,
   oL 57 56,
   oJ 58 (.bin .eql (.t 57) (.c (.p (.int .i64 7))))])
 (.cond (.t 58)
  (.exit 0)
  (.skip)))))))))))
 (.reg [oM 12 4,
   oJ 13 (.bin .add (.t 12) (.c (.p (.int .i64 1)))),
   oM 4 13]))))))
 (.seq (.reg [oM 59 3,
   oM 2 59])
 (.ret))))⟩
theorem yq:ah Tryz.prog cb=some F_spec_l6Cuts:=by kernel_rfl
def ph:FK:=⟨4,[.t 2],
 .seq (.reg [oK 2 0])
 (.seq (.seq (.reg [oM 3 0])
 (.cond (.t 3)
  (.seq (.reg [oK 2 1])
  (.ret))
  (.skip)))
 (.seq (.reg [oK 2 0])
 (.ret)))⟩
theorem wI:ah Tryz.prog cX=some ph:=by kernel_rfl
def sT:FK:=⟨5,[.c 2 (some 4)],
 .seq (.reg [oJ 2 (.alloc [(.p (.int .i64 0)),(.p (.int .i64 0)),(.p (.str [])),.nils])])
 (.seq (.reg [oM 3 0,
   oJ 4 (.bld [(.p (.int .i64 0)),(.p (.int .i64 0)),(.p (.str [])),.nils] [(0,1,(.c (.p (.int .i64 1)))),(1,1,(.t 3))]),
   ⟨none,none,.st 4 (.t 2) (.t 4)⟩])
 (.ret))⟩
theorem zH:ah Tryz.prog bc=some sT:=by kernel_rfl
def sh:FK:=⟨50,[.t 6,.t 7],
 .seq (.reg [oK 6 0,
  oK 7 0])
 (.seq (.seq (.reg [oM 8 0])
 (.blk 0 (.seq (.reg [oJ 10 (.bin .eql (.t 8) (.c (.p (.int .i64 3)))),
   oM 9 10])
 (.cond (.t 9)
  (.seq (.reg [oM 11 1,
    oM 12 2,
    oJ 13 (.bin .add (.t 11) (.t 12)),
    oJ 14 (.bin .rem (.t 13) (.c (.p (.int .i64 256)))),
    oM 6 14,
    oK 7 0])
  (.ret))
  (.seq (.reg [oJ 16 (.bin .eql (.t 8) (.c (.p (.int .i64 4)))),
    oM 15 16])
  (.cond (.t 15)
   (.seq (.reg [oM 17 1,
     oM 18 2,
     oJ 19 (.bin .sub (.t 17) (.t 18)),
     oJ 20 (.bin .add (.t 19) (.c (.p (.int .i64 256)))),
     oJ 21 (.bin .rem (.t 20) (.c (.p (.int .i64 256)))),
     oM 6 21,
     oK 7 0])
   (.ret))
   (.seq (.reg [oJ 23 (.bin .eql (.t 8) (.c (.p (.int .i64 5)))),
     oM 22 23])
   (.cond (.t 22)
    (.seq (.reg [oM 24 1,
      oM 25 2,
      oJ 26 (.bin .mul (.t 24) (.t 25)),
      oJ 27 (.bin .rem (.t 26) (.c (.p (.int .i64 256)))),
      oM 6 27,
      oK 7 0])
    (.ret))
    (.seq (.reg [oJ 29 (.bin .eql (.t 8) (.c (.p (.int .i64 8)))),
      oM 28 29])
    (.cond (.t 28)
     (.seq (.reg [oM 30 1,
       oM 31 2,
       oJ 32 (.bin .lss (.t 30) (.t 31)),
       oJ 33 (.call cX [(.t 32)]),
       oM 6 33,
       oK 7 0])
     (.ret))
     (.seq (.reg [oJ 35 (.bin .eql (.t 8) (.c (.p (.int .i64 9)))),
       oM 34 35])
     (.cond (.t 34)
      (.seq (.reg [oM 36 1,
        oM 37 2,
        oJ 38 (.bin .eql (.t 36) (.t 37)),
        oJ 39 (.call cX [(.t 38)]),
        oM 6 39,
        oK 7 0])
      (.ret))
      (.skip)))))))))))))
 (.seq (.seq (.reg [oM 40 2,
   oJ 41 (.bin .eql (.t 40) (.c (.p (.int .i64 0))))])
 (.cond (.t 41)
  (.seq (.reg [oK 6 0,
    oK 7 1])
  (.ret))
  (.skip)))
 (.seq (.seq (.reg [oM 42 0,
   oJ 43 (.bin .eql (.t 42) (.c (.p (.int .i64 6))))])
 (.cond (.t 43)
  (.seq (.reg [oM 44 1,
    oM 45 2,
    oJ 46 (.bin .quo (.t 44) (.t 45)),
    oM 6 46,
    oK 7 0])
  (.ret))
  (.skip)))
 (.seq (.reg [oM 47 1,
   oM 48 2,
   oJ 49 (.bin .rem (.t 47) (.t 48)),
   oM 6 49,
   oK 7 0])
 (.ret)))))⟩
theorem zQ:ah Tryz.prog oa=some sh:=by kernel_rfl
def mO:FK:=⟨92,[.t 6,.t 7],
 .seq (.reg [oJ 3 (.box 4 (.t 0)),
  oK 6 0,
  oK 7 0])
 (.seq (.seq (.reg [oF 12 0 3,
   oL 13 12])
 (.blk 0 (.seq (.reg [oJ 15 (.bin .eql (.t 13) (.c (.p (.int .i64 1)))),
   oM 14 15])
 (.cond (.t 14)
  (.seq (.reg [oF 16 1 3,
    oL 17 16,
    oM 6 17,
    oK 7 0])
  (.ret))
  (.seq (.reg [oJ 19 (.bin .eql (.t 13) (.c (.p (.int .i64 2)))),
    oM 18 19])
  (.cond (.t 18)
   (.seq (.reg [oK 8 0])
   (.blk 1 (.loop (.seq (.seq (.reg [oM 20 8,
     oM 21 1,
     oJ 22 (.len false (.t 21)),
     oJ 23 (.bin .lss (.t 20) (.t 22))])
   (.cond (.t 23)
    (.skip)
    (.exit 1)))
   (.seq (.blk 2 (.seq (.reg [oM 26 1,
     oM 27 8,
     oJ 28 (.idxS 1 (.t 26) (.t 27)),
     oF 30 2 3,
     oL 29 28,
     oL 31 30,
     oJ 32 (.bins .eql (.t 29) (.t 31))])
   (.cond (.t 32)
    (.seq (.reg [oM 33 2,
      oM 34 8,
      oJ 35 (.idxS 1 (.t 33) (.t 34)),
      oL 36 35,
      oM 6 36,
      oK 7 0])
    (.ret))
    (.skip))))
   (.reg [oM 24 8,
     oJ 25 (.bin .add (.t 24) (.c (.p (.int .i64 1)))),
     oM 8 25]))))))
   (.skip)))))))
 (.seq (.reg [oF 38 3 3,
   oL 39 38,
   oJ 40 (.idxS 4 (.t 39) (.c (.p (.int .i64 0)))),
   oJ 41 (.ld (some 4) (.t 40)),
   oM 42 1,
   oM 43 2,
   oJ 44 (.call eq [(.t 41),(.t 42),(.t 43)]),
   oM 37 44,
   oJ 45 (.ext 0 (.t 37)),
   oJ 46 (.ext 1 (.t 37)),
   oM 9 45,
   oM 10 46])
 (.seq (.seq (.reg [oM 47 10,
   oJ 48 (.bin .neq (.t 47) (.c (.p (.int .i64 0))))])
 (.cond (.t 48)
  (.seq (.reg [oM 49 10,
    oK 6 0,
    oM 7 49])
  (.ret))
  (.skip)))
 (.seq (.seq (.reg [oF 50 0 3,
   oL 51 50,
   oJ 52 (.bin .eql (.t 51) (.c (.p (.int .i64 11))))])
 (.cond (.t 52)
  (.seq (.reg [oM 53 9,
    oJ 54 (.bin .eql (.t 53) (.c (.p (.int .i64 0)))),
    oJ 55 (.call cX [(.t 54)]),
    oM 56 10,
    oM 6 55,
    oM 7 56])
  (.ret))
  (.skip)))
 (.seq (.seq (.reg [oF 57 0 3,
   oL 58 57,
   oJ 59 (.bin .eql (.t 58) (.c (.p (.int .i64 10)))),
   oM 60 59,
   ⟨(some 61),some (60,true),.mov (.t 9)⟩,
   ⟨(some 62),some (60,true),.bin .eql (.t 61) (.c (.p (.int .i64 0)))⟩,
   oJ 63 (.pick (.t 60) (.t 62) (.c (.p (.bool false))))])
 (.cond (.t 63)
  (.seq (.reg [oM 64 10,
    oK 6 0,
    oM 7 64])
  (.ret))
  (.skip)))
 (.seq (.reg [oF 66 3 3,
   oL 67 66,
   oJ 68 (.idxS 4 (.t 67) (.c (.p (.int .i64 1)))),
   oJ 69 (.ld (some 4) (.t 68)),
   oM 70 1,
   oM 71 2,
   oJ 72 (.call eq [(.t 69),(.t 70),(.t 71)]),
   oM 65 72,
   oJ 73 (.ext 0 (.t 65)),
   oJ 74 (.ext 1 (.t 65)),
   oM 11 73,
   oM 10 74])
 (.seq (.seq (.reg [oM 75 10,
   oJ 76 (.bin .neq (.t 75) (.c (.p (.int .i64 0))))])
 (.cond (.t 76)
  (.seq (.reg [oM 77 10,
    oK 6 0,
    oM 7 77])
  (.ret))
  (.skip)))
 (.seq (.seq (.reg [oF 78 0 3,
   oL 79 78,
   oJ 80 (.bin .eql (.t 79) (.c (.p (.int .i64 10))))])
 (.cond (.t 80)
  (.seq (.reg [oM 81 11,
    oJ 82 (.bin .neq (.t 81) (.c (.p (.int .i64 0)))),
    oJ 83 (.call cX [(.t 82)]),
    oM 84 10,
    oM 6 83,
    oM 7 84])
  (.ret))
  (.skip)))
 (.seq (.reg [oF 85 0 3,
   oL 86 85,
   oM 87 9,
   oM 88 11,
   oJ 89 (.call oa [(.t 86),(.t 87),(.t 88)]),
   oJ 90 (.ext 0 (.t 89)),
   oJ 91 (.ext 1 (.t 89)),
   oM 6 90,
   oM 7 91])
 (.ret))))))))))⟩
theorem qM:ah Tryz.prog eq=some mO:=by kernel_rfl
def F_spec_l6Safe:FK:=⟨50,[.t 2],
 .seq (.reg [oJ 1 (.box 4 (.t 0)),
  oJ 2 (.mov (.c (.p (.bool false))))])
 (.seq (.seq (.reg [oF 4 0 1,
   oL 5 4,
   oJ 6 (.bin .eql (.t 5) (.c (.p (.int .i64 12)))),
   oM 7 6,
   ⟨(some 8),some (7,false),.fldA 0 (.t 1)⟩,
   ⟨(some 9),some (7,false),.ld none (.t 8)⟩,
   ⟨(some 10),some (7,false),.bin .eql (.t 9) (.c (.p (.int .i64 13)))⟩,
   oJ 11 (.pick (.t 7) (.c (.p (.bool true))) (.t 10))])
 (.cond (.t 11)
  (.seq (.reg [oJ 2 (.mov (.c (.p (.bool false))))])
  (.ret))
  (.skip)))
 (.seq (.seq (.reg [oF 12 0 1,
   oL 13 12,
   oJ 14 (.bin .eql (.t 13) (.c (.p (.int .i64 6)))),
   oM 15 14,
   ⟨(some 16),some (15,false),.fldA 0 (.t 1)⟩,
   ⟨(some 17),some (15,false),.ld none (.t 16)⟩,
   ⟨(some 18),some (15,false),.bin .eql (.t 17) (.c (.p (.int .i64 7)))⟩,
   oJ 19 (.pick (.t 15) (.c (.p (.bool true))) (.t 18)),
   oM 20 19,
   ⟨(some 21),some (20,true),.fldA 3 (.t 1)⟩,
   ⟨(some 22),some (20,true),.ld none (.t 21)⟩,
   ⟨(some 23),some (20,true),.idxS 4 (.t 22) (.c (.p (.int .i64 1)))⟩,
   ⟨(some 24),some (20,true),.fldA 0 (.t 23)⟩,
   ⟨(some 25),some (20,true),.ld none (.t 24)⟩,
   ⟨(some 26),some (20,true),.bin .neq (.t 25) (.c (.p (.int .i64 1)))⟩,
   ⟨(some 27),some (20,true),.mov (.t 26)⟩,
   ⟨(some 28),some (27,false),.fldA 3 (.t 1)⟩,
   ⟨(some 29),some (27,false),.ld none (.t 28)⟩,
   ⟨(some 30),some (27,false),.idxS 4 (.t 29) (.c (.p (.int .i64 1)))⟩,
   ⟨(some 31),some (27,false),.fldA 1 (.t 30)⟩,
   ⟨(some 32),some (27,false),.ld none (.t 31)⟩,
   ⟨(some 33),some (27,false),.bin .eql (.t 32) (.c (.p (.int .i64 0)))⟩,
   ⟨(some 34),some (20,true),.pick (.t 27) (.c (.p (.bool true))) (.t 33)⟩,
   oJ 35 (.pick (.t 20) (.t 34) (.c (.p (.bool false))))])
 (.cond (.t 35)
  (.seq (.reg [oJ 2 (.mov (.c (.p (.bool false))))])
  (.ret))
  (.skip)))
 (.seq (.seq (.reg [oK 3 0])
 (.blk 0 (.loop (.seq (.seq (.reg [oM 36 3,
   oF 37 3 1,
   oL 38 37,
   oJ 39 (.len false (.t 38)),
   oJ 40 (.bin .lss (.t 36) (.t 39))])
 (.cond (.t 40)
  (.skip)
  (.exit 0)))
 (.seq (.blk 1 (.seq (.reg [oF 43 3 1,
   oL 44 43,
   oM 45 3,
   oJ 46 (.idxS 4 (.t 44) (.t 45)),
   oJ 47 (.ld (some 4) (.t 46)),
   oJ 48 (.call dz [(.t 47)]),
   oJ 49 (.not (.t 48))])
 (.cond (.t 49)
  (.seq (.reg [oJ 2 (.mov (.c (.p (.bool false))))])
  (.ret))
  (.skip))))
 (.reg [oM 41 3,
   oJ 42 (.bin .add (.t 41) (.c (.p (.int .i64 1)))),
   oM 3 42]))))))
 (.seq (.reg [oJ 2 (.mov (.c (.p (.bool true))))])
 (.ret)))))⟩
theorem yw:ah Tryz.prog dz=some F_spec_l6Safe:=by kernel_rfl
def F_spec_l6Part:FK:=⟨148,[.c 2 (some 4)],
 .seq (.reg [oJ 1 (.box 4 (.t 0)),
  oJ 2 (.alloc [(.p (.int .i64 0)),(.p (.int .i64 0)),(.p (.str [])),.nils])])
 (.seq (.seq (.reg [oF 8 3 1,
   oL 9 8,
   oJ 10 (.len false (.t 9)),
   oJ 11 (.bin .eql (.t 10) (.c (.p (.int .i64 1)))),
   oM 12 11,
   ⟨(some 13),some (12,true),.fldA 0 (.t 1)⟩,
   ⟨(some 14),some (12,true),.ld none (.t 13)⟩,
   ⟨(some 15),some (12,true),.bin .eql (.t 14) (.c (.p (.int .i64 11)))⟩,
   oJ 16 (.pick (.t 12) (.t 15) (.c (.p (.bool false))))])
 (.cond (.t 16)
  (.seq (.reg [oF 17 3 1,
    oL 18 17,
    oJ 19 (.idxS 4 (.t 18) (.c (.p (.int .i64 0)))),
    oJ 20 (.ld (some 4) (.t 19)),
    oJ 3 (.alloc [(.p (.int .i64 0)),(.p (.int .i64 0)),(.p (.str [])),.nils]),
    ⟨none,none,.st 4 (.t 3) (.t 20)⟩])
  (.seq (.seq (.reg [oF 21 0 3,
    oL 22 21,
    oJ 23 (.bin .eql (.t 22) (.c (.p (.int .i64 1))))])
  (.cond (.t 23)
   (.seq (.reg [oF 24 1 3,
     oL 25 24,
     oJ 26 (.bin .eql (.t 25) (.c (.p (.int .i64 0)))),
     oJ 27 (.call cX [(.t 26)]),
     oJ 28 (.call bc [(.t 27)]),
     ⟨none,none,.st 4 (.t 2) (.t 28)⟩])
   (.ret))
   (.skip)))
  (.seq (.seq (.reg [oF 29 0 3,
    oL 30 29,
    oJ 31 (.bin .eql (.t 30) (.c (.p (.int .i64 11)))),
    oM 32 31,
    ⟨(some 33),some (32,true),.fldA 3 (.t 3)⟩,
    ⟨(some 34),some (32,true),.ld none (.t 33)⟩,
    ⟨(some 35),some (32,true),.idxS 4 (.t 34) (.c (.p (.int .i64 0)))⟩,
    ⟨(some 36),some (32,true),.fldA 0 (.t 35)⟩,
    ⟨(some 37),some (32,true),.ld none (.t 36)⟩,
    ⟨(some 38),some (32,true),.bin .eql (.t 37) (.c (.p (.int .i64 11)))⟩,
    oJ 39 (.pick (.t 32) (.t 38) (.c (.p (.bool false))))])
  (.cond (.t 39)
   (.seq (.reg [oF 40 3 3,
     oL 41 40,
     oJ 42 (.idxS 4 (.t 41) (.c (.p (.int .i64 0)))),
     oJ 43 (.ld (some 4) (.t 42)),
     ⟨none,none,.st 4 (.t 2) (.t 43)⟩])
   (.ret))
   (.skip)))
  (.seq (.reg [oJ 44 (.ld (some 4) (.t 1)),
    ⟨none,none,.st 4 (.t 2) (.t 44)⟩])
  (.ret)))))
  (.skip)))
 (.seq (.seq (.reg [oF 45 0 1,
   oL 46 45,
   oJ 47 (.call cn [(.t 46),(.c (.p (.int .i64 3))),(.c (.p (.int .i64 10)))]),
   oJ 48 (.not (.t 47))])
 (.cond (.t 48)
  (.seq (.reg [oJ 49 (.ld (some 4) (.t 1)),
    ⟨none,none,.st 4 (.t 2) (.t 49)⟩])
  (.ret))
  (.skip)))
 (.seq (.reg [oF 50 3 1,
   oL 51 50,
   oJ 52 (.idxS 4 (.t 51) (.c (.p (.int .i64 0)))),
   oJ 53 (.ld (some 4) (.t 52)),
   oJ 4 (.alloc [(.p (.int .i64 0)),(.p (.int .i64 0)),(.p (.str [])),.nils]),
   ⟨none,none,.st 4 (.t 4) (.t 53)⟩])
 (.seq (.reg [oF 54 3 1,
   oL 55 54,
   oJ 56 (.idxS 4 (.t 55) (.c (.p (.int .i64 1)))),
   oJ 57 (.ld (some 4) (.t 56)),
   oJ 5 (.alloc [(.p (.int .i64 0)),(.p (.int .i64 0)),(.p (.str [])),.nils]),
   ⟨none,none,.st 4 (.t 5) (.t 57)⟩])
 (.seq (.seq (.reg [oF 58 0 4,
   oL 59 58,
   oJ 60 (.bin .eql (.t 59) (.c (.p (.int .i64 1)))),
   oM 61 60,
   ⟨(some 62),some (61,true),.fldA 0 (.t 5)⟩,
   ⟨(some 63),some (61,true),.ld none (.t 62)⟩,
   ⟨(some 64),some (61,true),.bin .eql (.t 63) (.c (.p (.int .i64 1)))⟩,
   oJ 65 (.pick (.t 61) (.t 64) (.c (.p (.bool false))))])
 (.cond (.t 65)
  (.seq (.reg [oJ 67 (.ld (some 4) (.t 1)),
    oJ 68 (.call eq [(.t 67),(.c .nils),(.c .nils)]),
    oM 66 68,
    oJ 69 (.ext 0 (.t 66)),
    oJ 70 (.ext 1 (.t 66)),
    oM 6 69,
    oM 7 70])
  (.seq (.reg [oM 71 7,
    oJ 72 (.bin .eql (.t 71) (.c (.p (.int .i64 0))))])
  (.cond (.t 72)
   (.seq (.reg [oM 73 6,
     oJ 74 (.call bc [(.t 73)]),
     ⟨none,none,.st 4 (.t 2) (.t 74)⟩])
   (.ret))
   (.skip))))
  (.skip)))
 (.seq (.blk 0 (.seq (.reg [oF 76 0 1,
   oL 77 76,
   oJ 78 (.bin .eql (.t 77) (.c (.p (.int .i64 10)))),
   oM 79 78,
   ⟨(some 80),some (79,true),.ld (some 4) (.t 4)⟩,
   ⟨(some 81),some (79,true),.call bs [(.t 80),(.c (.p (.int .i64 0)))]⟩,
   oJ 82 (.pick (.t 79) (.t 81) (.c (.p (.bool false)))),
   oM 75 82])
 (.cond (.t 75)
  (.seq (.reg [oJ 83 (.call bc [(.c (.p (.int .i64 0)))]),
    ⟨none,none,.st 4 (.t 2) (.t 83)⟩])
  (.ret))
  (.seq (.seq (.reg [oJ 85 (.ld (some 4) (.t 5)),
    oJ 86 (.call bs [(.t 85),(.c (.p (.int .i64 0)))]),
    oM 87 86,
    ⟨(some 88),some (87,true),.fldA 0 (.t 1)⟩,
    ⟨(some 89),some (87,true),.ld none (.t 88)⟩,
    ⟨(some 90),some (87,true),.bin .eql (.t 89) (.c (.p (.int .i64 3)))⟩,
    ⟨(some 91),some (87,true),.mov (.t 90)⟩,
    ⟨(some 92),some (91,false),.fldA 0 (.t 1)⟩,
    ⟨(some 93),some (91,false),.ld none (.t 92)⟩,
    ⟨(some 94),some (91,false),.bin .eql (.t 93) (.c (.p (.int .i64 4)))⟩,
    ⟨(some 95),some (87,true),.pick (.t 91) (.c (.p (.bool true))) (.t 94)⟩,
    oJ 96 (.pick (.t 87) (.t 95) (.c (.p (.bool false)))),
    oM 84 96])
  (.cond (.t 84)
   (.skip)
   (.reg [oJ 97 (.ld (some 4) (.t 5)),
     oJ 98 (.call bs [(.t 97),(.c (.p (.int .i64 1)))]),
     oM 99 98,
     ⟨(some 100),some (99,true),.fldA 0 (.t 1)⟩,
     ⟨(some 101),some (99,true),.ld none (.t 100)⟩,
     ⟨(some 102),some (99,true),.bin .eql (.t 101) (.c (.p (.int .i64 5)))⟩,
     ⟨(some 103),some (99,true),.mov (.t 102)⟩,
     ⟨(some 104),some (103,false),.fldA 0 (.t 1)⟩,
     ⟨(some 105),some (103,false),.ld none (.t 104)⟩,
     ⟨(some 106),some (103,false),.bin .eql (.t 105) (.c (.p (.int .i64 6)))⟩,
     ⟨(some 107),some (99,true),.pick (.t 103) (.c (.p (.bool true))) (.t 106)⟩,
     oJ 108 (.pick (.t 99) (.t 107) (.c (.p (.bool false)))),
     oM 84 108])))
  (.cond (.t 84)
   (.seq (.reg [oJ 109 (.ld (some 4) (.t 4)),
     ⟨none,none,.st 4 (.t 2) (.t 109)⟩])
   (.ret))
   (.seq (.seq (.reg [oJ 111 (.ld (some 4) (.t 4)),
     oJ 112 (.call bs [(.t 111),(.c (.p (.int .i64 0)))]),
     oM 113 112,
     ⟨(some 114),some (113,true),.fldA 0 (.t 1)⟩,
     ⟨(some 115),some (113,true),.ld none (.t 114)⟩,
     ⟨(some 116),some (113,true),.bin .eql (.t 115) (.c (.p (.int .i64 3)))⟩,
     oJ 117 (.pick (.t 113) (.t 116) (.c (.p (.bool false)))),
     oM 110 117])
   (.cond (.t 110)
    (.skip)
    (.reg [oJ 118 (.ld (some 4) (.t 4)),
      oJ 119 (.call bs [(.t 118),(.c (.p (.int .i64 1)))]),
      oM 120 119,
      ⟨(some 121),some (120,true),.fldA 0 (.t 1)⟩,
      ⟨(some 122),some (120,true),.ld none (.t 121)⟩,
      ⟨(some 123),some (120,true),.bin .eql (.t 122) (.c (.p (.int .i64 5)))⟩,
      oJ 124 (.pick (.t 120) (.t 123) (.c (.p (.bool false)))),
      oM 110 124])))
   (.cond (.t 110)
    (.seq (.reg [oJ 125 (.ld (some 4) (.t 5)),
      ⟨none,none,.st 4 (.t 2) (.t 125)⟩])
    (.ret))
    (.seq (.reg [oF 127 0 1,
      oL 128 127,
      oJ 129 (.bin .eql (.t 128) (.c (.p (.int .i64 5)))),
      oM 130 129,
      ⟨(some 131),some (130,true),.ld (some 4) (.t 5)⟩,
      ⟨(some 132),some (130,true),.call bs [(.t 131),(.c (.p (.int .i64 0)))]⟩,
      ⟨(some 133),some (130,true),.mov (.t 132)⟩,
      ⟨(some 134),some (133,true),.ld (some 4) (.t 4)⟩,
      ⟨(some 135),some (133,true),.call dz [(.t 134)]⟩,
      ⟨(some 136),some (130,true),.pick (.t 133) (.t 135) (.c (.p (.bool false)))⟩,
      ⟨(some 137),some (130,true),.mov (.t 136)⟩,
      ⟨(some 138),some (137,false),.ld (some 4) (.t 4)⟩,
      ⟨(some 139),some (137,false),.call bs [(.t 138),(.c (.p (.int .i64 0)))]⟩,
      ⟨(some 140),some (137,false),.mov (.t 139)⟩,
      ⟨(some 141),some (140,true),.ld (some 4) (.t 5)⟩,
      ⟨(some 142),some (140,true),.call dz [(.t 141)]⟩,
      ⟨(some 143),some (137,false),.pick (.t 140) (.t 142) (.c (.p (.bool false)))⟩,
      ⟨(some 144),some (130,true),.pick (.t 137) (.c (.p (.bool true))) (.t 143)⟩,
      oJ 145 (.pick (.t 130) (.t 144) (.c (.p (.bool false)))),
      oM 126 145])
    (.cond (.t 126)
     (.seq (.reg [oJ 146 (.call bc [(.c (.p (.int .i64 0)))]),
       ⟨none,none,.st 4 (.t 2) (.t 146)⟩])
     (.ret))
     (.skip))))))))))
 (.seq (.reg [oJ 147 (.ld (some 4) (.t 1)),
   ⟨none,none,.st 4 (.t 2) (.t 147)⟩])
 (.ret))))))))⟩
theorem yQ:ah Tryz.prog gE=some F_spec_l6Part:=by kernel_rfl
def F_spec_l6Fold:FK:=⟨26,[.c 2 (some 4)],
 .seq (.reg [oJ 1 (.box 4 (.t 0)),
  oJ 2 (.alloc [(.p (.int .i64 0)),(.p (.int .i64 0)),(.p (.str [])),.nils])])
 (.seq (.reg [oJ 5 (.bsl 4 [(.p (.int .i64 0)),(.p (.int .i64 0)),(.p (.str [])),.nils] 0 []),
   oM 3 5])
 (.seq (.seq (.reg [oK 4 0])
 (.blk 0 (.loop (.seq (.seq (.reg [oM 6 4,
   oF 7 3 1,
   oL 8 7,
   oJ 9 (.len false (.t 8)),
   oJ 10 (.bin .lss (.t 6) (.t 9))])
 (.cond (.t 10)
  (.skip)
  (.exit 0)))
 (.seq (.blk 1 (.reg [oM 13 3,
   oF 14 3 1,
   oL 15 14,
   oM 16 4,
   oJ 17 (.idxS 4 (.t 15) (.t 16)),
   oJ 18 (.ld (some 4) (.t 17)),
   oJ 19 (.call ft [(.t 18)]),
   oJ 20 (.bsl 4 [(.p (.int .i64 0)),(.p (.int .i64 0)),(.p (.str [])),.nils] 1 [(0,4,(.t 19))]),
   oJ 21 (.app 4 56 (.t 13) (.t 20)),
   oM 3 21]))
 (.reg [oM 11 4,
   oJ 12 (.bin .add (.t 11) (.c (.p (.int .i64 1)))),
   oM 4 12]))))))
 (.seq (.reg [oM 22 3,
   oF 23 3 1,
   oS 23 22])
 (.seq (.reg [oJ 24 (.ld (some 4) (.t 1)),
   oJ 25 (.call gE [(.t 24)]),
   ⟨none,none,.st 4 (.t 2) (.t 25)⟩])
 (.ret)))))⟩
theorem yx:ah Tryz.prog ft=some F_spec_l6Fold:=by kernel_rfl
def F_spec_l6Folds:FK:=⟨51,[.t 2],
 .seq (.reg [oJ 2 (.mov (.c .nils))])
 (.seq (.reg [oJ 8 (.bsl 5 [(.p (.int .i64 0)),(.p (.str [])),.nils,.nils,.nils] 0 []),
   oM 3 8])
 (.seq (.seq (.reg [oK 4 0])
 (.blk 0 (.loop (.seq (.seq (.reg [oM 9 4,
   oM 10 0,
   oJ 11 (.len false (.t 10)),
   oJ 12 (.bin .lss (.t 9) (.t 11))])
 (.cond (.t 12)
  (.skip)
  (.exit 0)))
 (.seq (.blk 1 (.seq (.reg [oM 15 0,
   oM 16 4,
   oJ 17 (.idxS 5 (.t 15) (.t 16)),
   oJ 18 (.ld (some 5) (.t 17)),
   oJ 5 (.alloc [(.p (.int .i64 0)),(.p (.str [])),.nils,.nils,.nils]),
   ⟨none,none,.st 5 (.t 5) (.t 18)⟩])
 (.seq (.reg [oJ 19 (.bsl 4 [(.p (.int .i64 0)),(.p (.int .i64 0)),(.p (.str [])),.nils] 0 []),
   oM 6 19])
 (.seq (.seq (.reg [oK 7 0])
 (.blk 2 (.loop (.seq (.seq (.reg [oM 20 7,
   oF 21 2 5,
   oL 22 21,
   oJ 23 (.len false (.t 22)),
   oJ 24 (.bin .lss (.t 20) (.t 23))])
 (.cond (.t 24)
  (.skip)
  (.exit 2)))
 (.seq (.blk 3 (.reg [oM 27 6,
   oF 28 2 5,
   oL 29 28,
   oM 30 7,
   oJ 31 (.idxS 4 (.t 29) (.t 30)),
   oJ 32 (.ld (some 4) (.t 31)),
   oJ 33 (.call ft [(.t 32)]),
   oJ 34 (.bsl 4 [(.p (.int .i64 0)),(.p (.int .i64 0)),(.p (.str [])),.nils] 1 [(0,4,(.t 33))]),
   oJ 35 (.app 4 56 (.t 27) (.t 34)),
   oM 6 35]))
 (.reg [oM 25 7,
   oJ 26 (.bin .add (.t 25) (.c (.p (.int .i64 1)))),
   oM 7 26]))))))
 (.seq (.reg [oM 36 6,
   oF 37 2 5,
   oS 37 36])
 (.seq (.reg [oF 38 3 5,
   oL 39 38,
   oJ 40 (.call bM [(.t 39)]),
   oF 41 3 5,
   oS 41 40])
 (.seq (.reg [oF 42 4 5,
   oL 43 42,
   oJ 44 (.call bM [(.t 43)]),
   oF 45 4 5,
   oS 45 44])
 (.reg [oM 46 3,
   oJ 47 (.ld (some 5) (.t 5)),
   oJ 48 (.bsl 5 [(.p (.int .i64 0)),(.p (.str [])),.nils,.nils,.nils] 1 [(0,5,(.t 47))]),
   oJ 49 (.app 5 96 (.t 46) (.t 48)),
   oM 3 49]))))))))
 (.reg [oM 13 4,
   oJ 14 (.bin .add (.t 13) (.c (.p (.int .i64 1)))),
   oM 4 14]))))))
 (.seq (.reg [oM 50 3,
   oM 2 50])
 (.ret))))⟩
theorem xj:ah Tryz.prog bM=some F_spec_l6Folds:=by kernel_rfl
def rh:FK:=⟨42,[.c 4 (some 1)],
 .seq (.reg [oJ 2 (.box 1 (.t 0)),
  oJ 4 (.alloc [.nils])])
 (.seq (.reg [oJ 7 (.ld (some 1) (.t 2)),
   oJ 8 (.call er [(.t 7)]),
   oJ 5 (.alloc [.nils]),
   oS 5 8])
 (.seq (.seq (.reg [oK 6 0])
 (.blk 0 (.loop (.seq (.seq (.reg [oM 9 6,
   oF 10 0 5,
   oL 11 10,
   oJ 12 (.len false (.t 11)),
   oJ 13 (.bin .lss (.t 9) (.t 12))])
 (.cond (.t 13)
  (.skip)
  (.exit 0)))
 (.seq (.blk 1 (.seq (.reg [oM 16 1])
 (.cond (.t 16)
  (.reg [oF 17 0 5,
    oM 19 6,
    oF 20 0 5,
    oM 22 6,
    oL 18 17,
    oL 21 20,
    oJ 23 (.idxS 3 (.t 21) (.t 22)),
    oF 24 2 23,
    oL 25 24,
    oJ 26 (.call cb [(.t 25)]),
    ⟨none,none,.chk none 17 18⟩,
    oJ 27 (.idxS 3 (.t 18) (.t 19)),
    oF 28 2 27,
    oS 28 26])
  (.reg [oF 29 0 5,
    oM 31 6,
    oF 32 0 5,
    oM 34 6,
    oL 30 29,
    oL 33 32,
    oJ 35 (.idxS 3 (.t 33) (.t 34)),
    oF 36 2 35,
    oL 37 36,
    oJ 38 (.call bM [(.t 37)]),
    ⟨none,none,.chk none 29 30⟩,
    oJ 39 (.idxS 3 (.t 30) (.t 31)),
    oF 40 2 39,
    oS 40 38]))))
 (.reg [oM 14 6,
   oJ 15 (.bin .add (.t 14) (.c (.p (.int .i64 1)))),
   oM 6 15]))))))
 (.seq (.reg [oJ 41 (.ld (some 1) (.t 5)),
   oS 4 41])
 (.ret))))⟩
theorem yj:ah Tryz.prog cx=some rh:=by kernel_rfl
def ll:FK:=⟨26,[.t 4],
 .seq (.reg [oJ 4 (.mov (.c (.p (.bool false))))])
 (.seq (.seq (.reg [oM 6 0,
   oJ 7 (.len false (.t 6)),
   oM 8 1,
   oJ 9 (.len false (.t 8)),
   oJ 10 (.bin .neq (.t 7) (.t 9))])
 (.cond (.t 10)
  (.seq (.reg [oJ 4 (.mov (.c (.p (.bool false))))])
  (.ret))
  (.skip)))
 (.seq (.seq (.reg [oK 5 0])
 (.blk 0 (.loop (.seq (.seq (.reg [oM 11 5,
   oM 12 0,
   oJ 13 (.len false (.t 12)),
   oJ 14 (.bin .lss (.t 11) (.t 13))])
 (.cond (.t 14)
  (.skip)
  (.exit 0)))
 (.seq (.blk 1 (.seq (.reg [oM 17 0,
   oM 18 5,
   oJ 19 (.idxS 1 (.t 17) (.t 18)),
   oM 21 1,
   oM 22 5,
   oJ 23 (.idxS 1 (.t 21) (.t 22)),
   oL 20 19,
   oL 24 23,
   oJ 25 (.bins .neq (.t 20) (.t 24))])
 (.cond (.t 25)
  (.seq (.reg [oJ 4 (.mov (.c (.p (.bool false))))])
  (.ret))
  (.skip))))
 (.reg [oM 15 5,
   oJ 16 (.bin .add (.t 15) (.c (.p (.int .i64 1)))),
   oM 5 16]))))))
 (.seq (.reg [oJ 4 (.mov (.c (.p (.bool true))))])
 (.ret))))⟩
theorem xw:ah Tryz.prog lH=some ll:=by kernel_rfl
def eb:FK:=⟨53,[.t 4],
 .seq (.reg [oJ 2 (.box 4 (.t 0)),
  oJ 3 (.box 4 (.t 1)),
  oJ 4 (.mov (.c (.p (.bool false))))])
 (.seq (.seq (.reg [oF 6 0 2,
   oL 7 6,
   oF 8 0 3,
   oL 9 8,
   oJ 10 (.bin .neq (.t 7) (.t 9)),
   oM 11 10,
   ⟨(some 12),some (11,false),.fldA 1 (.t 2)⟩,
   ⟨(some 13),some (11,false),.ld none (.t 12)⟩,
   ⟨(some 14),some (11,false),.fldA 1 (.t 3)⟩,
   ⟨(some 15),some (11,false),.ld none (.t 14)⟩,
   ⟨(some 16),some (11,false),.bin .neq (.t 13) (.t 15)⟩,
   oJ 17 (.pick (.t 11) (.c (.p (.bool true))) (.t 16)),
   oM 18 17,
   ⟨(some 19),some (18,false),.fldA 2 (.t 2)⟩,
   ⟨(some 20),some (18,false),.ld none (.t 19)⟩,
   ⟨(some 21),some (18,false),.fldA 2 (.t 3)⟩,
   ⟨(some 22),some (18,false),.ld none (.t 21)⟩,
   ⟨(some 23),some (18,false),.bins .neq (.t 20) (.t 22)⟩,
   oJ 24 (.pick (.t 18) (.c (.p (.bool true))) (.t 23)),
   oM 25 24,
   ⟨(some 26),some (25,false),.fldA 3 (.t 2)⟩,
   ⟨(some 27),some (25,false),.ld none (.t 26)⟩,
   ⟨(some 28),some (25,false),.len false (.t 27)⟩,
   ⟨(some 29),some (25,false),.fldA 3 (.t 3)⟩,
   ⟨(some 30),some (25,false),.ld none (.t 29)⟩,
   ⟨(some 31),some (25,false),.len false (.t 30)⟩,
   ⟨(some 32),some (25,false),.bin .neq (.t 28) (.t 31)⟩,
   oJ 33 (.pick (.t 25) (.c (.p (.bool true))) (.t 32))])
 (.cond (.t 33)
  (.seq (.reg [oJ 4 (.mov (.c (.p (.bool false))))])
  (.ret))
  (.skip)))
 (.seq (.seq (.reg [oK 5 0])
 (.blk 0 (.loop (.seq (.seq (.reg [oM 34 5,
   oF 35 3 2,
   oL 36 35,
   oJ 37 (.len false (.t 36)),
   oJ 38 (.bin .lss (.t 34) (.t 37))])
 (.cond (.t 38)
  (.skip)
  (.exit 0)))
 (.seq (.blk 1 (.seq (.reg [oF 41 3 2,
   oM 43 5,
   oF 46 3 3,
   oM 48 5,
   oL 42 41,
   oJ 44 (.idxS 4 (.t 42) (.t 43)),
   oJ 45 (.ld (some 4) (.t 44)),
   oL 47 46,
   oJ 49 (.idxS 4 (.t 47) (.t 48)),
   oJ 50 (.ld (some 4) (.t 49)),
   oJ 51 (.call gV [(.t 45),(.t 50)]),
   oJ 52 (.not (.t 51))])
 (.cond (.t 52)
  (.seq (.reg [oJ 4 (.mov (.c (.p (.bool false))))])
  (.ret))
  (.skip))))
 (.reg [oM 39 5,
   oJ 40 (.bin .add (.t 39) (.c (.p (.int .i64 1)))),
   oM 5 40]))))))
 (.seq (.reg [oJ 4 (.mov (.c (.p (.bool true))))])
 (.ret))))⟩
theorem uV:ah Tryz.prog gV=some eb:=by kernel_rfl
def iR:FK:=⟨111,[.t 4],
 .seq (.reg [oJ 4 (.mov (.c (.p (.bool false))))])
 (.seq (.seq (.reg [oM 7 0,
   oJ 8 (.len false (.t 7)),
   oM 9 1,
   oJ 10 (.len false (.t 9)),
   oJ 11 (.bin .neq (.t 8) (.t 10))])
 (.cond (.t 11)
  (.seq (.reg [oJ 4 (.mov (.c (.p (.bool false))))])
  (.ret))
  (.skip)))
 (.seq (.seq (.reg [oK 5 0])
 (.blk 0 (.loop (.seq (.seq (.reg [oM 12 5,
   oM 13 0,
   oJ 14 (.len false (.t 13)),
   oJ 15 (.bin .lss (.t 12) (.t 14))])
 (.cond (.t 15)
  (.skip)
  (.exit 0)))
 (.seq (.blk 1 (.seq (.seq (.reg [oM 18 0,
   oM 19 5,
   oJ 20 (.idxS 5 (.t 18) (.t 19)),
   oF 21 0 20,
   oM 23 1,
   oM 24 5,
   oJ 25 (.idxS 5 (.t 23) (.t 24)),
   oF 26 0 25,
   oL 22 21,
   oL 27 26,
   oJ 28 (.bin .neq (.t 22) (.t 27)),
   oM 29 28,
   ⟨(some 30),some (29,false),.mov (.t 0)⟩,
   ⟨(some 31),some (29,false),.mov (.t 5)⟩,
   ⟨(some 32),some (29,false),.idxS 5 (.t 30) (.t 31)⟩,
   ⟨(some 33),some (29,false),.fldA 1 (.t 32)⟩,
   ⟨(some 35),some (29,false),.mov (.t 1)⟩,
   ⟨(some 36),some (29,false),.mov (.t 5)⟩,
   ⟨(some 37),some (29,false),.idxS 5 (.t 35) (.t 36)⟩,
   ⟨(some 38),some (29,false),.fldA 1 (.t 37)⟩,
   ⟨(some 34),some (29,false),.ld none (.t 33)⟩,
   ⟨(some 39),some (29,false),.ld none (.t 38)⟩,
   ⟨(some 40),some (29,false),.bins .neq (.t 34) (.t 39)⟩,
   oJ 41 (.pick (.t 29) (.c (.p (.bool true))) (.t 40)),
   oM 42 41,
   ⟨(some 43),some (42,false),.mov (.t 0)⟩,
   ⟨(some 44),some (42,false),.mov (.t 5)⟩,
   ⟨(some 45),some (42,false),.idxS 5 (.t 43) (.t 44)⟩,
   ⟨(some 46),some (42,false),.fldA 2 (.t 45)⟩,
   ⟨(some 49),some (42,false),.mov (.t 1)⟩,
   ⟨(some 50),some (42,false),.mov (.t 5)⟩,
   ⟨(some 51),some (42,false),.idxS 5 (.t 49) (.t 50)⟩,
   ⟨(some 52),some (42,false),.fldA 2 (.t 51)⟩,
   ⟨(some 47),some (42,false),.ld none (.t 46)⟩,
   ⟨(some 48),some (42,false),.len false (.t 47)⟩,
   ⟨(some 53),some (42,false),.ld none (.t 52)⟩,
   ⟨(some 54),some (42,false),.len false (.t 53)⟩,
   ⟨(some 55),some (42,false),.bin .neq (.t 48) (.t 54)⟩,
   oJ 56 (.pick (.t 42) (.c (.p (.bool true))) (.t 55))])
 (.cond (.t 56)
  (.seq (.reg [oJ 4 (.mov (.c (.p (.bool false))))])
  (.ret))
  (.skip)))
 (.seq (.seq (.reg [oK 6 0])
 (.blk 2 (.loop (.seq (.seq (.reg [oM 57 6,
   oM 58 0,
   oM 59 5,
   oJ 60 (.idxS 5 (.t 58) (.t 59)),
   oF 61 2 60,
   oL 62 61,
   oJ 63 (.len false (.t 62)),
   oJ 64 (.bin .lss (.t 57) (.t 63))])
 (.cond (.t 64)
  (.skip)
  (.exit 2)))
 (.seq (.blk 3 (.seq (.reg [oM 67 0,
   oM 68 5,
   oJ 69 (.idxS 5 (.t 67) (.t 68)),
   oF 70 2 69,
   oM 72 6,
   oM 75 1,
   oM 76 5,
   oJ 77 (.idxS 5 (.t 75) (.t 76)),
   oF 78 2 77,
   oM 80 6,
   oL 71 70,
   oJ 73 (.idxS 4 (.t 71) (.t 72)),
   oJ 74 (.ld (some 4) (.t 73)),
   oL 79 78,
   oJ 81 (.idxS 4 (.t 79) (.t 80)),
   oJ 82 (.ld (some 4) (.t 81)),
   oJ 83 (.call gV [(.t 74),(.t 82)]),
   oJ 84 (.not (.t 83))])
 (.cond (.t 84)
  (.seq (.reg [oJ 4 (.mov (.c (.p (.bool false))))])
  (.ret))
  (.skip))))
 (.reg [oM 65 6,
   oJ 66 (.bin .add (.t 65) (.c (.p (.int .i64 1)))),
   oM 6 66]))))))
 (.seq (.reg [oM 85 0,
   oM 86 5,
   oJ 87 (.idxS 5 (.t 85) (.t 86)),
   oF 88 3 87,
   oM 90 1,
   oM 91 5,
   oJ 92 (.idxS 5 (.t 90) (.t 91)),
   oF 93 3 92,
   oL 89 88,
   oL 94 93,
   oJ 95 (.call ef [(.t 89),(.t 94)]),
   oJ 96 (.not (.t 95)),
   oM 97 96,
   ⟨(some 98),some (97,false),.mov (.t 0)⟩,
   ⟨(some 99),some (97,false),.mov (.t 5)⟩,
   ⟨(some 100),some (97,false),.idxS 5 (.t 98) (.t 99)⟩,
   ⟨(some 101),some (97,false),.fldA 4 (.t 100)⟩,
   ⟨(some 103),some (97,false),.mov (.t 1)⟩,
   ⟨(some 104),some (97,false),.mov (.t 5)⟩,
   ⟨(some 105),some (97,false),.idxS 5 (.t 103) (.t 104)⟩,
   ⟨(some 106),some (97,false),.fldA 4 (.t 105)⟩,
   ⟨(some 102),some (97,false),.ld none (.t 101)⟩,
   ⟨(some 107),some (97,false),.ld none (.t 106)⟩,
   ⟨(some 108),some (97,false),.call ef [(.t 102),(.t 107)]⟩,
   ⟨(some 109),some (97,false),.not (.t 108)⟩,
   oJ 110 (.pick (.t 97) (.c (.p (.bool true))) (.t 109))])
 (.cond (.t 110)
  (.seq (.reg [oJ 4 (.mov (.c (.p (.bool false))))])
  (.ret))
  (.skip))))))
 (.reg [oM 16 5,
   oJ 17 (.bin .add (.t 16) (.c (.p (.int .i64 1)))),
   oM 5 17]))))))
 (.seq (.reg [oJ 4 (.mov (.c (.p (.bool true))))])
 (.ret))))⟩
theorem tm:ah Tryz.prog ef=some iR:=by kernel_rfl
def gy:FK:=⟨65,[.t 4],
 .seq (.reg [oJ 2 (.box 1 (.t 0)),
  oJ 3 (.box 1 (.t 1)),
  oJ 4 (.mov (.c (.p (.bool false))))])
 (.seq (.seq (.reg [oF 6 0 2,
   oL 7 6,
   oJ 8 (.len false (.t 7)),
   oF 9 0 3,
   oL 10 9,
   oJ 11 (.len false (.t 10)),
   oJ 12 (.bin .neq (.t 8) (.t 11))])
 (.cond (.t 12)
  (.seq (.reg [oJ 4 (.mov (.c (.p (.bool false))))])
  (.ret))
  (.skip)))
 (.seq (.seq (.reg [oK 5 0])
 (.blk 0 (.loop (.seq (.seq (.reg [oM 13 5,
   oF 14 0 2,
   oL 15 14,
   oJ 16 (.len false (.t 15)),
   oJ 17 (.bin .lss (.t 13) (.t 16))])
 (.cond (.t 17)
  (.skip)
  (.exit 0)))
 (.seq (.blk 1 (.seq (.reg [oF 20 0 2,
   oM 22 5,
   oF 26 0 3,
   oM 28 5,
   oL 21 20,
   oJ 23 (.idxS 3 (.t 21) (.t 22)),
   oF 24 0 23,
   oL 25 24,
   oL 27 26,
   oJ 29 (.idxS 3 (.t 27) (.t 28)),
   oF 30 0 29,
   oL 31 30,
   oJ 32 (.bins .neq (.t 25) (.t 31)),
   oM 33 32,
   ⟨(some 34),some (33,false),.fldA 0 (.t 2)⟩,
   ⟨(some 36),some (33,false),.mov (.t 5)⟩,
   ⟨(some 40),some (33,false),.fldA 0 (.t 3)⟩,
   ⟨(some 42),some (33,false),.mov (.t 5)⟩,
   ⟨(some 35),some (33,false),.ld none (.t 34)⟩,
   ⟨(some 37),some (33,false),.idxS 3 (.t 35) (.t 36)⟩,
   ⟨(some 38),some (33,false),.fldA 1 (.t 37)⟩,
   ⟨(some 39),some (33,false),.ld none (.t 38)⟩,
   ⟨(some 41),some (33,false),.ld none (.t 40)⟩,
   ⟨(some 43),some (33,false),.idxS 3 (.t 41) (.t 42)⟩,
   ⟨(some 44),some (33,false),.fldA 1 (.t 43)⟩,
   ⟨(some 45),some (33,false),.ld none (.t 44)⟩,
   ⟨(some 46),some (33,false),.call lH [(.t 39),(.t 45)]⟩,
   ⟨(some 47),some (33,false),.not (.t 46)⟩,
   oJ 48 (.pick (.t 33) (.c (.p (.bool true))) (.t 47)),
   oM 49 48,
   ⟨(some 50),some (49,false),.fldA 0 (.t 2)⟩,
   ⟨(some 52),some (49,false),.mov (.t 5)⟩,
   ⟨(some 56),some (49,false),.fldA 0 (.t 3)⟩,
   ⟨(some 58),some (49,false),.mov (.t 5)⟩,
   ⟨(some 51),some (49,false),.ld none (.t 50)⟩,
   ⟨(some 53),some (49,false),.idxS 3 (.t 51) (.t 52)⟩,
   ⟨(some 54),some (49,false),.fldA 2 (.t 53)⟩,
   ⟨(some 55),some (49,false),.ld none (.t 54)⟩,
   ⟨(some 57),some (49,false),.ld none (.t 56)⟩,
   ⟨(some 59),some (49,false),.idxS 3 (.t 57) (.t 58)⟩,
   ⟨(some 60),some (49,false),.fldA 2 (.t 59)⟩,
   ⟨(some 61),some (49,false),.ld none (.t 60)⟩,
   ⟨(some 62),some (49,false),.call ef [(.t 55),(.t 61)]⟩,
   ⟨(some 63),some (49,false),.not (.t 62)⟩,
   oJ 64 (.pick (.t 49) (.c (.p (.bool true))) (.t 63))])
 (.cond (.t 64)
  (.seq (.reg [oJ 4 (.mov (.c (.p (.bool false))))])
  (.ret))
  (.skip))))
 (.reg [oM 18 5,
   oJ 19 (.bin .add (.t 18) (.c (.p (.int .i64 1)))),
   oM 5 19]))))))
 (.seq (.reg [oJ 4 (.mov (.c (.p (.bool true))))])
 (.ret))))⟩
theorem qH:ah Tryz.prog cK=some gy:=by kernel_rfl
def fy:FK:=⟨21,[.c 2 (some 1),.t 3],
 .seq (.reg [oJ 1 (.box 1 (.t 0)),
  oJ 2 (.alloc [.nils]),
  oJ 3 (.mov (.c (.p (.bool false))))])
 (.seq (.seq (.reg [oJ 5 (.ld (some 1) (.t 1)),
   oJ 6 (.call jH [(.t 5)]),
   oJ 7 (.not (.t 6))])
 (.cond (.t 7)
  (.seq (.reg [oJ 8 (.bld [.nils] []),
    oS 2 8,
    oJ 3 (.mov (.c (.p (.bool false))))])
  (.ret))
  (.skip)))
 (.seq (.reg [oJ 9 (.ld (some 1) (.t 1)),
   oJ 10 (.call cx [(.t 9),(.c (.p (.bool false)))]),
   oJ 11 (.call cx [(.t 10),(.c (.p (.bool true)))]),
   oJ 4 (.alloc [.nils]),
   oS 4 11])
 (.seq (.blk 0 (.loop (.seq (.seq (.reg [oJ 12 (.ld (some 1) (.t 4)),
   oJ 13 (.ld (some 1) (.t 1)),
   oJ 14 (.call cK [(.t 12),(.t 13)]),
   oJ 15 (.not (.t 14))])
 (.cond (.t 15)
  (.skip)
  (.exit 0)))
 (.blk 1 (.seq (.reg [oJ 16 (.ld (some 1) (.t 4)),
   oS 1 16])
 (.reg [oJ 17 (.ld (some 1) (.t 1)),
   oJ 18 (.call cx [(.t 17),(.c (.p (.bool false)))]),
   oJ 19 (.call cx [(.t 18),(.c (.p (.bool true)))]),
   oS 4 19]))))))
 (.seq (.reg [oJ 20 (.ld (some 1) (.t 4)),
   oS 2 20,
   oJ 3 (.mov (.c (.p (.bool true))))])
 (.ret)))))⟩
theorem jg:ah Tryz.prog bY=some fy:=by kernel_rfl
def oq:FK:=⟨16,[.t 2],
 .seq (.reg [oJ 1 (.box 1 (.t 0)),
  oJ 2 (.mov (.c (.p (.bool false))))])
 (.seq (.reg [oJ 6 (.ld (some 1) (.t 1)),
   oJ 7 (.call bY [(.t 6)]),
   oM 5 7,
   oJ 8 (.ext 0 (.t 5)),
   oJ 9 (.ext 1 (.t 5)),
   oJ 3 (.alloc [.nils]),
   oS 3 8,
   oM 4 9])
 (.seq (.reg [oM 10 4,
   oM 11 10,
   ⟨(some 12),some (11,true),.ld (some 1) (.t 3)⟩,
   ⟨(some 13),some (11,true),.ld (some 1) (.t 1)⟩,
   ⟨(some 14),some (11,true),.call cK [(.t 12),(.t 13)]⟩,
   oJ 15 (.pick (.t 11) (.t 14) (.c (.p (.bool false)))),
   oM 2 15])
 (.ret)))⟩
theorem vv:ah Tryz.prog kj=some oq:=by kernel_rfl
def mM:FK:=⟨15,[.t 6],
 .seq (.reg [oJ 6 (.mov (.c (.p (.bool false))))])
 (.seq (.reg [oM 7 1,
   oM 8 0,
   oJ 9 (.bin .leq (.t 7) (.t 8)),
   oM 10 9,
   ⟨(some 11),some (10,true),.mov (.t 0)⟩,
   ⟨(some 12),some (10,true),.mov (.t 2)⟩,
   ⟨(some 13),some (10,true),.bin .leq (.t 11) (.t 12)⟩,
   oJ 14 (.pick (.t 10) (.t 13) (.c (.p (.bool false)))),
   oM 6 14])
 (.ret))⟩
theorem yv:ah Tryz.prog ew=some mM:=by kernel_rfl
def ky:FK:=⟨21,[.t 6],
 .seq (.reg [oK 6 0])
 (.seq (.seq (.reg [oM 9 0,
   oJ 10 (.rngS (.t 9))])
 (.blk 0 (.loop (.seq (.reg [oJ 11 (.nxtS (.t 10)),
   oJ 12 (.ext 0 (.t 11))])
 (.seq (.cond (.t 12)
  (.skip)
  (.exit 0))
 (.blk 1 (.seq (.reg [oJ 13 (.ext 1 (.t 11)),
   oJ 14 (.ext 2 (.t 11)),
   oM 7 13,
   oM 8 14])
 (.seq (.reg [oM 15 1,
   oM 16 8,
   oJ 17 (.callv (.t 15) [(.t 16)]),
   oM 18 2,
   oJ 19 (.beq false (.t 17) (.t 18))])
 (.cond (.t 19)
  (.seq (.reg [oM 20 7,
    oM 6 20])
  (.ret))
  (.skip))))))))))
 (.seq (.reg [oJ 6 (.mov (.c (.p (.int .i64 (-1)))))])
 (.ret)))⟩
theorem qx:ah Tryz.prog gt=some ky:=by kernel_rfl
def kr:FK:=⟨8,[.t 4],
 .seq (.reg [oK 4 0])
 (.seq (.reg [oM 5 0,
   oM 6 1,
   oJ 7 (.call gt [(.t 5),(.t 6),(.c (.p (.bool true)))]),
   oM 4 7])
 (.ret))⟩
theorem qt:ah Tryz.prog gn=some kr:=by kernel_rfl
def je:FK:=⟨19,[.t 4],
 .seq (.reg [oK 4 0])
 (.seq (.seq (.reg [oM 6 0,
   oJ 7 (.len false (.t 6)),
   oK 8 0])
 (.blk 0 (.loop (.seq (.reg [oJ 9 (.bin .lss (.t 8) (.t 7))])
 (.seq (.cond (.t 9)
  (.skip)
  (.exit 0))
 (.seq (.blk 1 (.seq (.reg [oM 10 8,
   oM 5 10])
 (.seq (.reg [oM 11 1,
   oM 12 0,
   oM 13 5,
   oJ 14 (.idxS 1 (.t 12) (.t 13)),
   oL 15 14,
   oJ 16 (.bins .eql (.t 11) (.t 15))])
 (.cond (.t 16)
  (.seq (.reg [oM 17 5,
    oM 4 17])
  (.ret))
  (.skip)))))
 (.reg [oJ 18 (.bin .add (.t 8) (.c (.p (.int .i64 1)))),
   oM 8 18])))))))
 (.seq (.reg [oJ 4 (.mov (.c (.p (.int .i64 (-1)))))])
 (.ret)))⟩
theorem oO:ah Tryz.prog fC=some je:=by kernel_rfl
def gQ:FK:=⟨9,[.t 4],
 .seq (.reg [oJ 4 (.mov (.c (.p (.bool false))))])
 (.seq (.reg [oM 5 0,
   oM 6 1,
   oJ 7 (.call fC [(.t 5),(.t 6)]),
   oJ 8 (.bin .geq (.t 7) (.c (.p (.int .i64 0)))),
   oM 4 8])
 (.ret))⟩
theorem mN:ah Tryz.prog eB=some gQ:=by kernel_rfl
def ov:FK:=⟨9,[.t 2],
 .seq (.reg [oJ 2 (.mov (.c (.p (.bool false))))])
 (.seq (.reg [oM 3 0,
   oJ 4 (.bin .lss (.t 3) (.c (.p (.int .i32 97)))),
   oM 5 4,
   ⟨(some 6),some (5,false),.mov (.t 0)⟩,
   ⟨(some 7),some (5,false),.bin .gtr (.t 6) (.c (.p (.int .i32 122)))⟩,
   oJ 8 (.pick (.t 5) (.c (.p (.bool true))) (.t 7)),
   oM 2 8])
 (.ret))⟩
theorem vJ:ah Tryz.prog ec=some ov:=by kernel_rfl
def rn:FK:=⟨17,[.t 2],
 .seq (.reg [oJ 2 (.mov (.c (.p (.bool false))))])
 (.seq (.reg [oM 3 0,
   oJ 4 (.len true (.t 3)),
   oJ 5 (.call ew [(.t 4),(.c (.p (.int .i64 1))),(.c (.p (.int .i64 4)))]),
   oM 6 5,
   ⟨(some 7),some (6,true),.mov (.t 0)⟩,
   ⟨(some 8),some (6,true),.call gn [(.t 7),(.c (.fn (.func ec) []))]⟩,
   ⟨(some 9),some (6,true),.bin .lss (.t 8) (.c (.p (.int .i64 0)))⟩,
   oJ 10 (.pick (.t 6) (.t 9) (.c (.p (.bool false)))),
   oM 11 10,
   ⟨(some 12),some (11,true),.slA 9 1 (.c (.gp 0 0)) none none⟩,
   ⟨(some 13),some (11,true),.mov (.t 0)⟩,
   ⟨(some 14),some (11,true),.call eB [(.t 12),(.t 13)]⟩,
   ⟨(some 15),some (11,true),.not (.t 14)⟩,
   oJ 16 (.pick (.t 11) (.t 15) (.c (.p (.bool false)))),
   oM 2 16])
 (.ret))⟩
theorem yP:ah Tryz.prog cy=some rn:=by kernel_rfl
def gm:FK:=⟨19,[.t 4],
 .seq (.reg [oK 4 0])
 (.seq (.seq (.reg [oM 6 0,
   oJ 7 (.len false (.t 6)),
   oK 8 0])
 (.blk 0 (.loop (.seq (.reg [oJ 9 (.bin .lss (.t 8) (.t 7))])
 (.seq (.cond (.t 9)
  (.skip)
  (.exit 0))
 (.seq (.blk 1 (.seq (.reg [oM 10 8,
   oM 5 10])
 (.seq (.reg [oM 11 1,
   oM 12 0,
   oM 13 5,
   oJ 14 (.idxS 1 (.t 12) (.t 13)),
   oL 15 14,
   oJ 16 (.callv (.t 11) [(.t 15)])])
 (.cond (.t 16)
  (.seq (.reg [oM 17 5,
    oM 4 17])
  (.ret))
  (.skip)))))
 (.reg [oJ 18 (.bin .add (.t 8) (.c (.p (.int .i64 1)))),
   oM 8 18])))))))
 (.seq (.reg [oJ 4 (.mov (.c (.p (.int .i64 (-1)))))])
 (.ret)))⟩
theorem lO:ah Tryz.prog dX=some gm:=by kernel_rfl
def fc:FK:=⟨9,[.t 4],
 .seq (.reg [oJ 4 (.mov (.c (.p (.bool false))))])
 (.seq (.reg [oM 5 0,
   oM 6 1,
   oJ 7 (.call dX [(.t 5),(.t 6)]),
   oJ 8 (.bin .geq (.t 7) (.c (.p (.int .i64 0)))),
   oM 4 8])
 (.ret))⟩
theorem kn:ah Tryz.prog dm=some fc:=by kernel_rfl
def fh:FK:=⟨19,[.t 4],
 .seq (.reg [oK 4 0])
 (.seq (.seq (.reg [oM 6 0,
   oJ 7 (.len false (.t 6)),
   oK 8 0])
 (.blk 0 (.loop (.seq (.reg [oJ 9 (.bin .lss (.t 8) (.t 7))])
 (.seq (.cond (.t 9)
  (.skip)
  (.exit 0))
 (.seq (.blk 1 (.seq (.reg [oM 10 8,
   oM 5 10])
 (.seq (.reg [oM 11 1,
   oM 12 0,
   oM 13 5,
   oJ 14 (.idxS 5 (.t 12) (.t 13)),
   oJ 15 (.ld (some 5) (.t 14)),
   oJ 16 (.callv (.t 11) [(.t 15)])])
 (.cond (.t 16)
  (.seq (.reg [oM 17 5,
    oM 4 17])
  (.ret))
  (.skip)))))
 (.reg [oJ 18 (.bin .add (.t 8) (.c (.p (.int .i64 1)))),
   oM 8 18])))))))
 (.seq (.reg [oJ 4 (.mov (.c (.p (.int .i64 (-1)))))])
 (.ret)))⟩
theorem ke:ah Tryz.prog dr=some fh:=by kernel_rfl
def eF:FK:=⟨9,[.t 4],
 .seq (.reg [oJ 4 (.mov (.c (.p (.bool false))))])
 (.seq (.reg [oM 5 0,
   oM 6 1,
   oJ 7 (.call dr [(.t 5),(.t 6)]),
   oJ 8 (.bin .geq (.t 7) (.c (.p (.int .i64 0)))),
   oM 4 8])
 (.ret))⟩
theorem iW:ah Tryz.prog cM=some eF:=by kernel_rfl
def bQ:FK:=⟨20,[.t 2,.t 3,.t 4,.t 5],
 .seq (.reg [oK 2 0,
  oJ 3 (.mov (.c (.p (.bool false)))),
  oJ 4 (.mov (.c (.p (.bool false)))),
  oJ 5 (.mov (.c (.p (.bool false))))])
 (.seq (.seq (.reg [oM 6 0])
 (.blk 0 (.seq (.seq (.reg [oJ 8 (.bin .eql (.t 6) (.c (.p (.int .i64 1)))),
   oM 7 8])
 (.cond (.t 7)
  (.skip)
  (.reg [oJ 9 (.bin .eql (.t 6) (.c (.p (.int .i64 2)))),
    oM 7 9])))
 (.cond (.t 7)
  (.seq (.reg [oK 2 1,
    oJ 3 (.mov (.c (.p (.bool true)))),
    oJ 4 (.mov (.c (.p (.bool false)))),
    oJ 5 (.mov (.c (.p (.bool false))))])
  (.ret))
  (.seq (.seq (.reg [oJ 11 (.bin .eql (.t 6) (.c (.p (.int .i64 3)))),
    oM 10 11])
  (.cond (.t 10)
   (.skip)
   (.seq (.reg [oJ 12 (.bin .eql (.t 6) (.c (.p (.int .i64 7)))),
     oM 10 12])
   (.cond (.t 10)
    (.skip)
    (.reg [oJ 13 (.bin .eql (.t 6) (.c (.p (.int .i64 8)))),
      oM 10 13])))))
  (.cond (.t 10)
   (.seq (.reg [oK 2 1,
     oJ 3 (.mov (.c (.p (.bool false)))),
     oJ 4 (.mov (.c (.p (.bool false)))),
     oJ 5 (.mov (.c (.p (.bool false))))])
   (.ret))
   (.seq (.reg [oJ 15 (.bin .eql (.t 6) (.c (.p (.int .i64 4)))),
     oM 14 15])
   (.cond (.t 14)
    (.seq (.reg [oK 2 2,
      oJ 3 (.mov (.c (.p (.bool false)))),
      oJ 4 (.mov (.c (.p (.bool false)))),
      oJ 5 (.mov (.c (.p (.bool false))))])
    (.ret))
    (.seq (.reg [oJ 17 (.bin .eql (.t 6) (.c (.p (.int .i64 5)))),
      oM 16 17])
    (.cond (.t 16)
     (.seq (.reg [oK 2 1,
       oJ 3 (.mov (.c (.p (.bool false)))),
       oJ 4 (.mov (.c (.p (.bool true)))),
       oJ 5 (.mov (.c (.p (.bool true))))])
     (.ret))
     (.seq (.reg [oJ 19 (.bin .eql (.t 6) (.c (.p (.int .i64 6)))),
       oM 18 19])
     (.cond (.t 18)
      (.seq (.reg [oK 2 1,
        oJ 3 (.mov (.c (.p (.bool false)))),
        oJ 4 (.mov (.c (.p (.bool true)))),
        oJ 5 (.mov (.c (.p (.bool false))))])
      (.ret))
      (.skip)))))))))))))
 (.seq (.reg [oJ 2 (.mov (.c (.p (.int .i64 (-1))))),
   oJ 3 (.mov (.c (.p (.bool false)))),
   oJ 4 (.mov (.c (.p (.bool false)))),
   oJ 5 (.mov (.c (.p (.bool false))))])
 (.ret)))⟩
theorem uZ:ah Tryz.prog gS=some bQ:=by kernel_rfl
def rf:FK:=⟨5,[.t 2],
 .seq (.reg [oJ 2 (.mov (.c (.p (.bool false))))])
 (.seq (.reg [oM 3 0,
   oJ 4 (.call ew [(.t 3),(.c (.p (.int .i64 0))),(.c (.p (.int .i64 255)))]),
   oM 2 4])
 (.ret))⟩
theorem yL:ah Tryz.prog jA=some rf:=by kernel_rfl
def fU:FK:=⟨20,[.t 2],
 .seq (.reg [oK 2 0])
 (.seq (.blk 0 (.seq (.reg [oJ 4 (.ld none (.c (.gp 1 0))),
   oM 5 0,
   oJ 6 (.lk 0 (.agg [(.p (.str [])),(.p (.int .i64 0))]) false (.t 4) (.t 5)),
   oJ 7 (.fldv 1 none (.t 6)),
   oJ 8 (.bin .gtr (.t 7) (.c (.p (.int .i64 0)))),
   oM 3 8])
 (.cond (.t 3)
  (.seq (.reg [oJ 9 (.ld none (.c (.gp 1 0))),
    oM 10 0,
    oJ 11 (.lk 0 (.agg [(.p (.str [])),(.p (.int .i64 0))]) false (.t 9) (.t 10)),
    oJ 12 (.fldv 1 none (.t 11)),
    oM 2 12])
  (.ret))
  (.seq (.reg [oM 14 0,
    oJ 15 (.bin .eql (.t 14) (.c (.p (.int .i64 11)))),
    oM 16 15,
    ⟨(some 17),some (16,false),.mov (.t 0)⟩,
    ⟨(some 18),some (16,false),.bin .eql (.t 17) (.c (.p (.int .i64 12)))⟩,
    oJ 19 (.pick (.t 16) (.c (.p (.bool true))) (.t 18)),
    oM 13 19])
  (.cond (.t 13)
   (.seq (.reg [oK 2 5])
   (.ret))
   (.skip))))))
 (.seq (.reg [oK 2 6])
 (.ret)))⟩
theorem xO:ah Tryz.prog iP=some fU:=by kernel_rfl
def F_impl_exprSize:FK:=⟨127,[.t 4,.t 5,.t 6],
 .seq (.reg [oJ 2 (.box 4 (.t 0)),
  oK 4 0,
  oK 5 0,
  oJ 6 (.mov (.c (.p (.bool false))))])
 (.seq (.reg [oK 7 0,
   oK 8 0])
 (.seq (.blk 0 (.seq (.reg [oF 17 0 2,
   oL 18 17,
   oJ 19 (.bin .eql (.t 18) (.c (.p (.int .i64 1)))),
   oM 16 19])
 (.cond (.t 16)
  (.seq (.reg [oF 20 1 2,
    oL 21 20,
    oJ 22 (.call jA [(.t 21)]),
    oJ 23 (.not (.t 22)),
    oM 24 23,
    ⟨(some 25),some (24,false),.fldA 2 (.t 2)⟩,
    ⟨(some 26),some (24,false),.ld none (.t 25)⟩,
    ⟨(some 27),some (24,false),.bins .neq (.t 26) (.c (.p (.str [])))⟩,
    oJ 28 (.pick (.t 24) (.c (.p (.bool true))) (.t 27))])
  (.cond (.t 28)
   (.seq (.reg [oK 4 0,
     oK 5 0,
     oJ 6 (.mov (.c (.p (.bool false))))])
   (.ret))
   (.skip)))
  (.seq (.reg [oF 30 0 2,
    oL 31 30,
    oJ 32 (.bin .eql (.t 31) (.c (.p (.int .i64 2)))),
    oM 29 32])
  (.cond (.t 29)
   (.seq (.reg [oF 33 2 2,
     oL 34 33,
     oJ 35 (.call cy [(.t 34)]),
     oJ 36 (.not (.t 35)),
     oM 37 36,
     ⟨(some 38),some (37,false),.fldA 1 (.t 2)⟩,
     ⟨(some 39),some (37,false),.ld none (.t 38)⟩,
     ⟨(some 40),some (37,false),.bin .neq (.t 39) (.c (.p (.int .i64 0)))⟩,
     oJ 41 (.pick (.t 37) (.c (.p (.bool true))) (.t 40))])
   (.cond (.t 41)
    (.seq (.reg [oK 4 0,
      oK 5 0,
      oJ 6 (.mov (.c (.p (.bool false))))])
    (.ret))
    (.skip)))
   (.seq (.reg [oF 43 0 2,
     oL 44 43,
     oJ 45 (.bin .eql (.t 44) (.c (.p (.int .i64 13)))),
     oM 42 45])
   (.cond (.t 42)
    (.seq (.reg [oK 8 3])
    (.seq (.reg [oF 46 2 2,
      oL 47 46,
      oJ 48 (.call cy [(.t 47)]),
      oJ 49 (.not (.t 48)),
      oM 50 49,
      ⟨(some 51),some (50,false),.fldA 1 (.t 2)⟩,
      ⟨(some 52),some (50,false),.ld none (.t 51)⟩,
      ⟨(some 53),some (50,false),.bin .neq (.t 52) (.c (.p (.int .i64 0)))⟩,
      oJ 54 (.pick (.t 50) (.c (.p (.bool true))) (.t 53))])
    (.cond (.t 54)
     (.seq (.reg [oK 4 0,
       oK 5 0,
       oJ 6 (.mov (.c (.p (.bool false))))])
     (.ret))
     (.skip))))
    (.seq (.reg [oJ 56 (.ld none (.c (.gp 1 0))),
      oF 57 0 2,
      oL 58 57,
      oJ 59 (.lk 0 (.agg [(.p (.str [])),(.p (.int .i64 0))]) false (.t 56) (.t 58)),
      oJ 60 (.fldv 1 none (.t 59)),
      oJ 61 (.bin .gtr (.t 60) (.c (.p (.int .i64 0)))),
      oM 55 61])
    (.cond (.t 55)
     (.reg [oK 7 2,
       oK 8 2])
     (.seq (.reg [oF 63 0 2,
       oL 64 63,
       oJ 65 (.bin .eql (.t 64) (.c (.p (.int .i64 11)))),
       oM 66 65,
       ⟨(some 67),some (66,false),.fldA 0 (.t 2)⟩,
       ⟨(some 68),some (66,false),.ld none (.t 67)⟩,
       ⟨(some 69),some (66,false),.bin .eql (.t 68) (.c (.p (.int .i64 12)))⟩,
       oJ 70 (.pick (.t 66) (.c (.p (.bool true))) (.t 69)),
       oM 62 70])
     (.cond (.t 62)
      (.reg [oK 7 1,
        oK 8 1])
      (.seq (.reg [oK 4 0,
        oK 5 0,
        oJ 6 (.mov (.c (.p (.bool false))))])
      (.ret)))))))))))))
 (.seq (.seq (.reg [oF 71 0 2,
   oL 72 71,
   oJ 73 (.call iP [(.t 72)]),
   oJ 74 (.bin .lss (.t 73) (.c (.p (.int .i64 6)))),
   oM 75 74,
   ⟨(some 76),some (75,true),.fldA 1 (.t 2)⟩,
   ⟨(some 77),some (75,true),.ld none (.t 76)⟩,
   ⟨(some 78),some (75,true),.bin .neq (.t 77) (.c (.p (.int .i64 0)))⟩,
   ⟨(some 79),some (75,true),.mov (.t 78)⟩,
   ⟨(some 80),some (79,false),.fldA 2 (.t 2)⟩,
   ⟨(some 81),some (79,false),.ld none (.t 80)⟩,
   ⟨(some 82),some (79,false),.bins .neq (.t 81) (.c (.p (.str [])))⟩,
   ⟨(some 83),some (75,true),.pick (.t 79) (.c (.p (.bool true))) (.t 82)⟩,
   oJ 84 (.pick (.t 75) (.t 83) (.c (.p (.bool false)))),
   oM 85 84,
   ⟨(some 86),some (85,false),.fldA 3 (.t 2)⟩,
   ⟨(some 87),some (85,false),.ld none (.t 86)⟩,
   ⟨(some 88),some (85,false),.len false (.t 87)⟩,
   ⟨(some 89),some (85,false),.mov (.t 7)⟩,
   ⟨(some 90),some (85,false),.mov (.t 8)⟩,
   ⟨(some 91),some (85,false),.call ew [(.t 88),(.t 89),(.t 90)]⟩,
   ⟨(some 92),some (85,false),.not (.t 91)⟩,
   oJ 93 (.pick (.t 85) (.c (.p (.bool true))) (.t 92)),
   oM 94 93,
   ⟨(some 95),some (94,false),.mov (.t 1)⟩,
   ⟨(some 96),some (94,false),.bin .lss (.t 95) (.c (.p (.int .i64 1)))⟩,
   oJ 97 (.pick (.t 94) (.c (.p (.bool true))) (.t 96))])
 (.cond (.t 97)
  (.seq (.reg [oK 4 0,
    oK 5 0,
    oJ 6 (.mov (.c (.p (.bool false))))])
  (.ret))
  (.skip)))
 (.seq (.reg [oK 9 1,
   oK 10 1])
 (.seq (.seq (.reg [oF 98 3 2,
   oL 99 98,
   oJ 100 (.len false (.t 99)),
   oK 101 0])
 (.blk 1 (.loop (.seq (.reg [oJ 102 (.bin .lss (.t 101) (.t 100))])
 (.seq (.cond (.t 102)
  (.skip)
  (.exit 1))
 (.seq (.blk 2 (.seq (.reg [oJ 103 (.idxS 4 (.t 99) (.t 101)),
   oJ 104 (.ld (some 4) (.t 103)),
   oJ 12 (.alloc [(.p (.int .i64 0)),(.p (.int .i64 0)),(.p (.str [])),.nils]),
   ⟨none,none,.st 4 (.t 12) (.t 104)⟩])
 (.seq (.reg [oJ 106 (.ld (some 4) (.t 12)),
   oM 107 1,
   oJ 108 (.bin .sub (.t 107) (.c (.p (.int .i64 1)))),
   oJ 109 (.call fk [(.t 106),(.t 108)]),
   oM 105 109,
   oJ 110 (.ext 0 (.t 105)),
   oJ 111 (.ext 1 (.t 105)),
   oJ 112 (.ext 2 (.t 105)),
   oM 13 110,
   oM 14 111,
   oM 15 112])
 (.seq (.seq (.reg [oM 113 15,
   oJ 114 (.not (.t 113))])
 (.cond (.t 114)
  (.seq (.reg [oK 4 0,
    oK 5 0,
    oJ 6 (.mov (.c (.p (.bool false))))])
  (.ret))
  (.skip)))
 (.seq (.reg [oM 115 9,
   oM 116 13,
   oJ 117 (.bin .add (.t 115) (.t 116)),
   oM 9 117])
 (.reg [oM 118 10,
   oM 119 14,
   oJ 120 (.bin .add (.t 119) (.c (.p (.int .i64 1)))),
   oJ 121 (.mx (.t 118) (.t 120)),
   oM 10 121]))))))
 (.reg [oJ 122 (.bin .add (.t 101) (.c (.p (.int .i64 1)))),
   oM 101 122])))))))
 (.seq (.reg [oM 123 9,
   oM 124 10,
   oM 125 9,
   oJ 126 (.bin .leq (.t 125) (.c (.p (.int .i64 30)))),
   oM 4 123,
   oM 5 124,
   oM 6 126])
 (.ret)))))))⟩
theorem vf:ah Tryz.prog fk=some F_impl_exprSize:=by kernel_rfl
def nc:FK:=⟨13,[.t 2],
 .seq (.reg [oJ 1 (.box 4 (.t 0)),
  oJ 2 (.mov (.c (.p (.bool false))))])
 (.seq (.reg [oJ 7 (.ld (some 4) (.t 1)),
   oJ 8 (.call fk [(.t 7),(.c (.p (.int .i64 6)))]),
   oM 6 8,
   oJ 9 (.ext 0 (.t 6)),
   oJ 10 (.ext 1 (.t 6)),
   oJ 11 (.ext 2 (.t 6)),
   oM 3 9,
   oM 4 10,
   oM 5 11])
 (.seq (.reg [oM 12 5,
   oM 2 12])
 (.ret)))⟩
theorem tI:ah Tryz.prog eQ=some nc:=by kernel_rfl
def F_impl_stmtOk:FK:=⟨91,[.t 4],
 .seq (.reg [oJ 2 (.box 5 (.t 0)),
  oJ 4 (.mov (.c (.p (.bool false))))])
 (.seq (.reg [oF 12 0 2,
   oL 13 12,
   oJ 14 (.call gS [(.t 13)]),
   oM 11 14,
   oJ 15 (.ext 0 (.t 11)),
   oJ 16 (.ext 1 (.t 11)),
   oJ 17 (.ext 2 (.t 11)),
   oJ 18 (.ext 3 (.t 11)),
   oM 5 15,
   oM 6 16,
   oM 7 17,
   oM 8 18])
 (.seq (.blk 0 (.seq (.seq (.reg [oM 20 1,
   oJ 21 (.bin .gtr (.t 20) (.c (.p (.int .i64 4)))),
   oM 19 21])
 (.cond (.t 19)
  (.skip)
  (.seq (.reg [oF 22 2 2,
    oL 23 22,
    oJ 24 (.len false (.t 23)),
    oM 25 5,
    oJ 26 (.bin .neq (.t 24) (.t 25)),
    oM 19 26])
  (.cond (.t 19)
   (.skip)
   (.seq (.reg [oM 27 6,
     oM 28 27,
     ⟨(some 29),some (28,true),.fldA 1 (.t 2)⟩,
     ⟨(some 30),some (28,true),.ld none (.t 29)⟩,
     ⟨(some 31),some (28,true),.call cy [(.t 30)]⟩,
     ⟨(some 32),some (28,true),.not (.t 31)⟩,
     oJ 33 (.pick (.t 28) (.t 32) (.c (.p (.bool false)))),
     oM 19 33])
   (.cond (.t 19)
    (.skip)
    (.seq (.reg [oM 34 6,
      oJ 35 (.not (.t 34)),
      oM 36 35,
      ⟨(some 37),some (36,true),.fldA 1 (.t 2)⟩,
      ⟨(some 38),some (36,true),.ld none (.t 37)⟩,
      ⟨(some 39),some (36,true),.bins .neq (.t 38) (.c (.p (.str [])))⟩,
      oJ 40 (.pick (.t 36) (.t 39) (.c (.p (.bool false)))),
      oM 19 40])
    (.cond (.t 19)
     (.skip)
     (.seq (.reg [oM 41 7,
       oJ 42 (.not (.t 41)),
       oM 43 42,
       ⟨(some 44),some (43,true),.fldA 3 (.t 2)⟩,
       ⟨(some 45),some (43,true),.ld none (.t 44)⟩,
       ⟨(some 46),some (43,true),.len false (.t 45)⟩,
       ⟨(some 47),some (43,true),.bin .gtr (.t 46) (.c (.p (.int .i64 0)))⟩,
       oJ 48 (.pick (.t 43) (.t 47) (.c (.p (.bool false)))),
       oM 19 48])
     (.cond (.t 19)
      (.skip)
      (.seq (.reg [oM 49 8,
        oJ 50 (.not (.t 49)),
        oM 51 50,
        ⟨(some 52),some (51,true),.fldA 4 (.t 2)⟩,
        ⟨(some 53),some (51,true),.ld none (.t 52)⟩,
        ⟨(some 54),some (51,true),.len false (.t 53)⟩,
        ⟨(some 55),some (51,true),.bin .gtr (.t 54) (.c (.p (.int .i64 0)))⟩,
        oJ 56 (.pick (.t 51) (.t 55) (.c (.p (.bool false)))),
        oM 19 56])
      (.cond (.t 19)
       (.skip)
       (.reg [oF 57 0 2,
         oL 58 57,
         oJ 59 (.bin .eql (.t 58) (.c (.p (.int .i64 8)))),
         oM 60 59,
         ⟨(some 61),some (60,true),.fldA 2 (.t 2)⟩,
         ⟨(some 62),some (60,true),.ld none (.t 61)⟩,
         ⟨(some 63),some (60,true),.idxS 4 (.t 62) (.c (.p (.int .i64 0)))⟩,
         ⟨(some 64),some (60,true),.fldA 0 (.t 63)⟩,
         ⟨(some 65),some (60,true),.ld none (.t 64)⟩,
         ⟨(some 66),some (60,true),.bin .neq (.t 65) (.c (.p (.int .i64 13)))⟩,
         oJ 67 (.pick (.t 60) (.t 66) (.c (.p (.bool false)))),
         oM 19 67])))))))))))))
 (.cond (.t 19)
  (.seq (.reg [oJ 4 (.mov (.c (.p (.bool false))))])
  (.ret))
  (.skip))))
 (.seq (.seq (.reg [oF 68 2 2,
   oL 69 68,
   oJ 70 (.len false (.t 69)),
   oK 71 0])
 (.blk 1 (.loop (.seq (.reg [oJ 72 (.bin .lss (.t 71) (.t 70))])
 (.seq (.cond (.t 72)
  (.skip)
  (.exit 1))
 (.seq (.blk 2 (.seq (.reg [oJ 73 (.idxS 4 (.t 69) (.t 71)),
   oJ 74 (.ld (some 4) (.t 73)),
   oJ 10 (.alloc [(.p (.int .i64 0)),(.p (.int .i64 0)),(.p (.str [])),.nils]),
   ⟨none,none,.st 4 (.t 10) (.t 74)⟩])
 (.seq (.reg [oJ 75 (.ld (some 4) (.t 10)),
   oJ 76 (.call eQ [(.t 75)]),
   oJ 77 (.not (.t 76))])
 (.cond (.t 77)
  (.seq (.reg [oJ 4 (.mov (.c (.p (.bool false))))])
  (.ret))
  (.skip)))))
 (.reg [oJ 78 (.bin .add (.t 71) (.c (.p (.int .i64 1)))),
   oM 71 78])))))))
 (.seq (.reg [oF 79 3 2,
   oL 80 79,
   oM 81 1,
   oJ 82 (.bin .add (.t 81) (.c (.p (.int .i64 1)))),
   oJ 83 (.call dJ [(.t 80),(.t 82)]),
   oM 84 83,
   ⟨(some 85),some (84,true),.fldA 4 (.t 2)⟩,
   ⟨(some 86),some (84,true),.ld none (.t 85)⟩,
   ⟨(some 87),some (84,true),.mov (.t 1)⟩,
   ⟨(some 88),some (84,true),.bin .add (.t 87) (.c (.p (.int .i64 1)))⟩,
   ⟨(some 89),some (84,true),.call dJ [(.t 86),(.t 88)]⟩,
   oJ 90 (.pick (.t 84) (.t 89) (.c (.p (.bool false)))),
   oM 4 90])
 (.ret)))))⟩
theorem qW:ah Tryz.prog jD=some F_impl_stmtOk:=by kernel_rfl
def mX:FK:=⟨8,[.t 3],
 .seq (.reg [oJ 2 (.box 5 (.t 0)),
  oJ 3 (.mov (.c (.p (.bool false))))])
 (.seq (.reg [oJ 4 (.ld (some 5) (.t 2)),
   oL 5 1,
   oJ 6 (.call jD [(.t 4),(.t 5)]),
   oJ 7 (.not (.t 6)),
   oM 3 7])
 (.ret))⟩
theorem uf:ah Tryz.prog dD=some mX:=by kernel_rfl
def pJ:FK:=⟨9,[.t 4],
 .seq (.reg [oJ 3 (.box 1 (.t 1)),
  oJ 4 (.mov (.c (.p (.bool false))))])
 (.seq (.reg [oM 5 0,
   oJ 6 (.mkf (.func dD) [(.t 3)]),
   oJ 7 (.call cM [(.t 5),(.t 6)]),
   oJ 8 (.not (.t 7)),
   oM 4 8])
 (.ret))⟩
theorem wu:ah Tryz.prog dJ=some pJ:=by kernel_rfl
def sn:FK:=⟨31,[],
 .seq (.reg [oM 8 0,
  oJ 9 (.len false (.t 8)),
  oK 10 0])
 (.blk 0 (.loop (.seq (.reg [oJ 11 (.bin .lss (.t 10) (.t 9))])
 (.seq (.cond (.t 11)
  (.skip)
  (.exit 0))
 (.seq (.blk 1 (.seq (.reg [oJ 12 (.idxS 5 (.t 8) (.t 10)),
   oJ 13 (.ld (some 5) (.t 12)),
   oJ 7 (.alloc [(.p (.int .i64 0)),(.p (.str [])),.nils,.nils,.nils]),
   ⟨none,none,.st 5 (.t 7) (.t 13)⟩])
 (.seq (.reg [oM 14 2,
   oJ 15 (.ld (some 5) (.t 7)),
   oM 16 1,
   oJ 17 (.callv (.t 14) [(.t 15),(.t 16)])])
 (.seq (.reg [oF 18 3 7,
   oL 19 18,
   oM 20 1,
   oJ 21 (.bin .add (.t 20) (.c (.p (.int .i64 1)))),
   oM 22 2,
   oJ 23 (.call iI [(.t 19),(.t 21),(.t 22)])])
 (.reg [oF 24 4 7,
   oL 25 24,
   oM 26 1,
   oJ 27 (.bin .add (.t 26) (.c (.p (.int .i64 1)))),
   oM 28 2,
   oJ 29 (.call iI [(.t 25),(.t 27),(.t 28)])])))))
 (.reg [oJ 30 (.bin .add (.t 10) (.c (.p (.int .i64 1)))),
   oM 10 30]))))))⟩
theorem Ao:ah Tryz.prog iI=some sn:=by kernel_rfl
def mU:FK:=⟨11,[],
 .seq (.reg [oJ 4 (.box 5 (.t 0))])
 (.seq (.reg [oL 6 2,
   oJ 7 (.bin .add (.t 6) (.c (.p (.int .i64 1)))),
   oS 2 7])
 (.reg [oL 8 3,
   oM 9 1,
   oJ 10 (.mx (.t 8) (.t 9)),
   oS 3 10]))⟩
theorem tC:ah Tryz.prog gg=some mU:=by kernel_rfl
def pB:FK:=⟨20,[.c 2 none,.c 3 none],
 .seq (.reg [oJ 1 (.box 1 (.t 0)),
  oJ 2 (.alloc [(.p (.int .i64 0))]),
  oJ 3 (.alloc [(.p (.int .i64 0))])])
 (.seq (.seq (.reg [oF 6 0 1,
   oL 7 6,
   oJ 8 (.len false (.t 7)),
   oK 9 0])
 (.blk 0 (.loop (.seq (.reg [oJ 10 (.bin .lss (.t 9) (.t 8))])
 (.seq (.cond (.t 10)
  (.skip)
  (.exit 0))
 (.seq (.blk 1 (.seq (.reg [oJ 11 (.idxS 3 (.t 7) (.t 9)),
   oJ 12 (.ld (some 3) (.t 11)),
   oJ 5 (.alloc [(.p (.str [])),.nils,.nils]),
   ⟨none,none,.st 3 (.t 5) (.t 12)⟩])
 (.reg [oF 13 2 5,
   oL 14 13,
   oJ 15 (.mkf (.func gg) [(.t 2),(.t 3)]),
   oJ 16 (.call iI [(.t 14),(.c (.p (.int .i64 1))),(.t 15)])])))
 (.reg [oJ 17 (.bin .add (.t 9) (.c (.p (.int .i64 1)))),
   oM 9 17])))))))
 (.seq (.reg [oL 18 2,
   oL 19 3,
   oS 2 18,
   ⟨none,none,.chk none 3 19⟩,
   oS 3 19])
 (.ret)))⟩
theorem xe:ah Tryz.prog lI=some pB:=by kernel_rfl
def jd:FK:=⟨6,[.t 2],
 .seq (.reg [oJ 2 (.mov (.c (.p (.bool false))))])
 (.seq (.reg [oM 3 0,
   oJ 4 (.call cy [(.t 3)]),
   oJ 5 (.not (.t 4)),
   oM 2 5])
 (.ret))⟩
theorem oT:ah Tryz.prog bZ=some jd:=by kernel_rfl
def ku:FK:=⟨48,[.t 2],
 .seq (.reg [oJ 1 (.box 1 (.t 0)),
  oJ 2 (.mov (.c (.p (.bool false))))])
 (.seq (.seq (.reg [oF 7 0 1,
   oL 8 7,
   oJ 9 (.len false (.t 8)),
   oJ 10 (.call ew [(.t 9),(.c (.p (.int .i64 1))),(.c (.p (.int .i64 4)))]),
   oJ 11 (.not (.t 10))])
 (.cond (.t 11)
  (.seq (.reg [oJ 2 (.mov (.c (.p (.bool false))))])
  (.ret))
  (.skip)))
 (.seq (.seq (.reg [oF 12 0 1,
   oL 13 12,
   oJ 14 (.len false (.t 13)),
   oK 15 0])
 (.blk 0 (.loop (.seq (.reg [oJ 16 (.bin .lss (.t 15) (.t 14))])
 (.seq (.cond (.t 16)
  (.skip)
  (.exit 0))
 (.seq (.blk 1 (.seq (.reg [oJ 17 (.idxS 3 (.t 13) (.t 15)),
   oJ 18 (.ld (some 3) (.t 17)),
   oJ 4 (.alloc [(.p (.str [])),.nils,.nils]),
   ⟨none,none,.st 3 (.t 4) (.t 18)⟩])
 (.seq (.reg [oF 19 0 4,
   oL 20 19,
   oJ 21 (.call cy [(.t 20)]),
   oJ 22 (.not (.t 21)),
   oM 23 22,
   ⟨(some 24),some (23,false),.fldA 1 (.t 4)⟩,
   ⟨(some 25),some (23,false),.ld none (.t 24)⟩,
   ⟨(some 26),some (23,false),.len false (.t 25)⟩,
   ⟨(some 27),some (23,false),.bin .gtr (.t 26) (.c (.p (.int .i64 3)))⟩,
   oJ 28 (.pick (.t 23) (.c (.p (.bool true))) (.t 27)),
   oM 29 28,
   ⟨(some 30),some (29,false),.fldA 1 (.t 4)⟩,
   ⟨(some 31),some (29,false),.ld none (.t 30)⟩,
   ⟨(some 32),some (29,false),.call dm [(.t 31),(.c (.fn (.func bZ) []))]⟩,
   oJ 33 (.pick (.t 29) (.c (.p (.bool true))) (.t 32)),
   oM 34 33,
   ⟨(some 35),some (34,false),.fldA 2 (.t 4)⟩,
   ⟨(some 36),some (34,false),.ld none (.t 35)⟩,
   ⟨(some 37),some (34,false),.call dJ [(.t 36),(.c (.p (.int .i64 1)))]⟩,
   ⟨(some 38),some (34,false),.not (.t 37)⟩,
   oJ 39 (.pick (.t 34) (.c (.p (.bool true))) (.t 38))])
 (.cond (.t 39)
  (.seq (.reg [oJ 2 (.mov (.c (.p (.bool false))))])
  (.ret))
  (.skip)))))
 (.reg [oJ 40 (.bin .add (.t 15) (.c (.p (.int .i64 1)))),
   oM 15 40])))))))
 (.seq (.reg [oJ 42 (.ld (some 1) (.t 1)),
   oJ 43 (.call lI [(.t 42)]),
   oM 41 43,
   oJ 44 (.ext 0 (.t 41)),
   oJ 45 (.ext 1 (.t 41)),
   oM 5 44,
   oM 6 45])
 (.seq (.reg [oM 46 5,
   oJ 47 (.bin .leq (.t 46) (.c (.p (.int .i64 40)))),
   oM 2 47])
 (.ret)))))⟩
theorem qE:ah Tryz.prog eI=some ku:=by kernel_rfl
def fP:FK:=⟨19,[.t 4],
 .seq (.reg [oK 4 0])
 (.seq (.seq (.reg [oM 6 0,
   oJ 7 (.len false (.t 6)),
   oK 8 0])
 (.blk 0 (.loop (.seq (.reg [oJ 9 (.bin .lss (.t 8) (.t 7))])
 (.seq (.cond (.t 9)
  (.skip)
  (.exit 0))
 (.seq (.blk 1 (.seq (.reg [oM 10 8,
   oM 5 10])
 (.seq (.reg [oM 11 1,
   oM 12 0,
   oM 13 5,
   oJ 14 (.idxS 3 (.t 12) (.t 13)),
   oJ 15 (.ld (some 3) (.t 14)),
   oJ 16 (.callv (.t 11) [(.t 15)])])
 (.cond (.t 16)
  (.seq (.reg [oM 17 5,
    oM 4 17])
  (.ret))
  (.skip)))))
 (.reg [oJ 18 (.bin .add (.t 8) (.c (.p (.int .i64 1)))),
   oM 8 18])))))))
 (.seq (.reg [oJ 4 (.mov (.c (.p (.int .i64 (-1)))))])
 (.ret)))⟩
theorem lL:ah Tryz.prog dN=some fP:=by kernel_rfl
def ra:FK:=⟨8,[.t 3],
 .seq (.reg [oJ 2 (.box 3 (.t 0)),
  oJ 3 (.mov (.c (.p (.bool false))))])
 (.seq (.reg [oF 4 0 2,
   oL 5 4,
   oL 6 1,
   oJ 7 (.bins .eql (.t 5) (.t 6)),
   oM 3 7])
 (.ret))⟩
theorem yJ:ah Tryz.prog gM=some ra:=by kernel_rfl
def uE:FK:=⟨9,[.t 4],
 .seq (.reg [oJ 2 (.box 1 (.t 0)),
  oJ 3 (.box 1 (.t 1)),
  oK 4 0])
 (.seq (.reg [oF 5 0 2,
   oL 6 5,
   oJ 7 (.mkf (.func gM) [(.t 3)]),
   oJ 8 (.call dN [(.t 6),(.t 7)]),
   oM 4 8])
 (.ret))⟩
theorem BV:ah Tryz.prog jO=some uE:=by kernel_rfl
def gC:FK:=⟨13,[],
 .seq (.reg [oM 4 0,
  oN 5 4,
  oF 6 2 5,
  oL 7 6,
  oJ 8 (.bin .eql (.t 7) (.c (.p (.int .i64 0))))])
 (.cond (.t 8)
  (.reg [oM 9 0,
    oM 10 1,
    oN 11 9,
    oF 12 2 11,
    oS 12 10])
  (.skip))⟩
theorem qK:ah Tryz.prog aK=some gC:=by kernel_rfl
def iN:FK:=⟨7,[.t 2],
 .seq (.reg [oJ 2 (.mov (.c .nilp))])
 (.seq (.reg [oJ 3 (.mkm),
   oM 4 0,
   oJ 5 (.bld [.nilm,.nilp] [(0,1,(.t 3)),(1,1,(.t 4))]),
   oJ 6 (.box 2 (.t 5)),
   oM 2 6])
 (.ret))⟩
theorem tx:ah Tryz.prog bX=some iN:=by kernel_rfl
def oc:FK:=⟨20,[],
 .seq (.reg [oJ 2 (.box 4 (.t 0))])
 (.seq (.reg [oM 6 1,
   oJ 7 (.ld (some 4) (.t 2)),
   oJ 8 (.callv (.t 6) [(.t 7)])])
 (.seq (.reg [oF 9 3 2,
   oL 10 9,
   oJ 11 (.len false (.t 10)),
   oK 12 0])
 (.blk 0 (.loop (.seq (.reg [oJ 13 (.bin .lss (.t 12) (.t 11))])
 (.seq (.cond (.t 13)
  (.skip)
  (.exit 0))
 (.seq (.blk 1 (.seq (.reg [oJ 14 (.idxS 4 (.t 10) (.t 12)),
   oJ 15 (.ld (some 4) (.t 14)),
   oJ 5 (.alloc [(.p (.int .i64 0)),(.p (.int .i64 0)),(.p (.str [])),.nils]),
   ⟨none,none,.st 4 (.t 5) (.t 15)⟩])
 (.reg [oJ 16 (.ld (some 4) (.t 5)),
   oM 17 1,
   oJ 18 (.call gd [(.t 16),(.t 17)])])))
 (.reg [oJ 19 (.bin .add (.t 12) (.c (.p (.int .i64 1)))),
   oM 12 19]))))))))⟩
theorem rZ:ah Tryz.prog gd=some oc:=by kernel_rfl
def mt:FK:=⟨25,[.t 4,.t 5],
 .seq (.reg [oK 4 0,
  oJ 5 (.mov (.c (.p (.bool false))))])
 (.seq (.blk 0 (.loop (.seq (.seq (.reg [oM 8 0,
   oJ 9 (.pnil 0 true (.t 8))])
 (.cond (.t 9)
  (.skip)
  (.exit 0)))
 (.seq (.blk 1 (.seq (.reg [oM 15 0,
   oN 16 15,
   oF 17 0 16,
   oL 18 17,
   oM 19 1,
   oJ 20 (.lk 1 (.p (.int .i64 0)) true (.t 18) (.t 19)),
   oM 14 20,
   oJ 21 (.ext 0 (.t 14)),
   oJ 22 (.ext 1 (.t 14)),
   oM 6 21,
   oM 7 22])
 (.seq (.reg [oM 23 7])
 (.cond (.t 23)
  (.seq (.reg [oM 24 6,
    oM 4 24,
    oJ 5 (.mov (.c (.p (.bool true))))])
  (.ret))
  (.skip)))))
 (.reg [oM 10 0,
   oN 11 10,
   oF 12 1 11,
   oL 13 12,
   oM 0 13])))))
 (.seq (.reg [oK 4 0,
   oJ 5 (.mov (.c (.p (.bool false))))])
 (.ret)))⟩
theorem sr:ah Tryz.prog cG=some mt:=by kernel_rfl
def iZ:FK:=⟨58,[],
 .seq (.reg [oJ 3 (.box 4 (.t 0))])
 (.seq (.reg [oF 7 0 3,
   oL 8 7])
 (.blk 0 (.seq (.reg [oJ 10 (.bin .eql (.t 8) (.c (.p (.int .i64 2)))),
   oM 9 10])
 (.cond (.t 9)
  (.seq (.reg [oL 12 1,
    oF 13 2 3,
    oL 14 13,
    oJ 15 (.call cG [(.t 12),(.t 14)]),
    oM 11 15,
    oJ 16 (.ext 0 (.t 11)),
    oJ 17 (.ext 1 (.t 11)),
    oM 4 16,
    oM 5 17])
  (.seq (.reg [oM 18 5,
    oJ 19 (.not (.t 18))])
  (.cond (.t 19)
   (.reg [oL 20 2,
     oJ 21 (.call aK [(.t 20),(.c (.p (.int .i64 3)))])])
   (.skip))))
  (.seq (.reg [oJ 23 (.bin .eql (.t 8) (.c (.p (.int .i64 13)))),
    oM 22 23])
  (.cond (.t 22)
   (.seq (.reg [oF 35 2 3,
     oL 24 2,
     oN 25 24,
     oF 26 0 25,
     oF 27 0 26,
     oL 28 27,
     oL 29 2,
     oN 30 29,
     oF 31 1 30,
     oL 32 31,
     oJ 33 (.slS 3 (.t 28) none (some (.t 32))),
     oJ 34 (.bld [.nils] [(0,1,(.t 33))]),
     oL 36 35,
     oJ 37 (.call jO [(.t 34),(.t 36)]),
     oM 6 37])
   (.seq (.reg [oM 38 6,
     oJ 39 (.bin .lss (.t 38) (.c (.p (.int .i64 0))))])
   (.cond (.t 39)
    (.reg [oL 40 2,
      oJ 41 (.call aK [(.t 40),(.c (.p (.int .i64 4)))])])
    (.seq (.reg [oM 47 6,
      oF 52 3 3,
      oL 42 2,
      oN 43 42,
      oF 44 0 43,
      oF 45 0 44,
      oL 46 45,
      oJ 48 (.idxS 3 (.t 46) (.t 47)),
      oF 49 1 48,
      oL 50 49,
      oJ 51 (.len false (.t 50)),
      oL 53 52,
      oJ 54 (.len false (.t 53)),
      oJ 55 (.bin .neq (.t 51) (.t 54))])
    (.cond (.t 55)
     (.reg [oL 56 2,
       oJ 57 (.call aK [(.t 56),(.c (.p (.int .i64 5)))])])
     (.skip))))))
   (.skip)))))))⟩
theorem oz:ah Tryz.prog cS=some iZ:=by kernel_rfl
def gz:FK:=⟨9,[],
 .seq (.reg [oJ 3 (.box 1 (.t 0)),
  oJ 4 (.box 4 (.t 1)),
  oJ 5 (.box 1 (.t 2))])
 (.reg [oJ 6 (.ld (some 4) (.t 4)),
   oJ 7 (.mkf (.func cS) [(.t 5),(.t 3)]),
   oJ 8 (.call gd [(.t 6),(.t 7)])])⟩
theorem qw:ah Tryz.prog dt=some gz:=by kernel_rfl
def F_impl_checker_block:FK:=⟨89,[],
 .seq (.reg [oM 14 1,
  oJ 15 (.len false (.t 14)),
  oK 16 0])
 (.blk 0 (.loop (.seq (.reg [oJ 17 (.bin .lss (.t 16) (.t 15))])
 (.seq (.cond (.t 17)
  (.skip)
  (.exit 0))
 (.seq (.blk 1 (.seq (.reg [oJ 18 (.idxS 5 (.t 14) (.t 16)),
   oJ 19 (.ld (some 5) (.t 18)),
   oJ 7 (.alloc [(.p (.int .i64 0)),(.p (.str [])),.nils,.nils,.nils]),
   ⟨none,none,.st 5 (.t 7) (.t 19)⟩])
 (.seq (.seq (.reg [oF 20 2 7,
   oL 21 20,
   oJ 22 (.len false (.t 21)),
   oK 23 0])
 (.blk 2 (.loop (.seq (.reg [oJ 24 (.bin .lss (.t 23) (.t 22))])
 (.seq (.cond (.t 24)
  (.skip)
  (.exit 2))
 (.seq (.blk 3 (.seq (.reg [oJ 25 (.idxS 4 (.t 21) (.t 23)),
   oJ 26 (.ld (some 4) (.t 25)),
   oJ 9 (.alloc [(.p (.int .i64 0)),(.p (.int .i64 0)),(.p (.str [])),.nils]),
   ⟨none,none,.st 4 (.t 9) (.t 26)⟩])
 (.reg [oM 27 0,
   oJ 28 (.ld (some 4) (.t 9)),
   oM 29 2,
   oJ 30 (.call dt [(.t 27),(.t 28),(.t 29)])])))
 (.reg [oJ 31 (.bin .add (.t 23) (.c (.p (.int .i64 1)))),
   oM 23 31])))))))
 (.seq (.seq (.reg [oF 32 0 7,
   oL 33 32])
 (.blk 4 (.seq (.reg [oJ 35 (.bin .eql (.t 33) (.c (.p (.int .i64 1)))),
   oM 34 35])
 (.cond (.t 34)
  (.seq (.seq (.reg [oM 37 2,
    oN 38 37,
    oF 39 0 38,
    oF 41 1 7,
    oL 40 39,
    oL 42 41,
    oJ 43 (.lk 1 (.p (.int .i64 0)) true (.t 40) (.t 42)),
    oM 36 43,
    oJ 44 (.ext 0 (.t 36)),
    oJ 45 (.ext 1 (.t 36)),
    oM 10 44,
    oM 11 45])
  (.seq (.reg [oM 46 11])
  (.cond (.t 46)
   (.reg [oM 47 0,
     oJ 48 (.call aK [(.t 47),(.c (.p (.int .i64 2)))])])
   (.skip))))
  (.reg [oM 49 2,
    oN 50 49,
    oF 51 0 50,
    oF 53 1 7,
    oL 52 51,
    oL 54 53,
    ⟨none,none,.mup 1 (.t 52) (.t 54) (.c (.p (.int .i64 0)))⟩]))
  (.seq (.reg [oJ 56 (.bin .eql (.t 33) (.c (.p (.int .i64 2)))),
    oM 55 56])
  (.cond (.t 55)
   (.seq (.reg [oM 58 2,
     oF 59 1 7,
     oL 60 59,
     oJ 61 (.call cG [(.t 58),(.t 60)]),
     oM 57 61,
     oJ 62 (.ext 0 (.t 57)),
     oJ 63 (.ext 1 (.t 57)),
     oM 12 62,
     oM 13 63])
   (.seq (.reg [oM 64 13,
     oJ 65 (.not (.t 64))])
   (.cond (.t 65)
    (.reg [oM 66 0,
      oJ 67 (.call aK [(.t 66),(.c (.p (.int .i64 3)))])])
    (.skip))))
   (.skip)))))))
 (.seq (.reg [oF 68 0 7,
   oL 69 68,
   oJ 70 (.bin .eql (.t 69) (.c (.p (.int .i64 5)))),
   oM 71 70,
   ⟨(some 72),some (71,false),.fldA 0 (.t 7)⟩,
   ⟨(some 73),some (71,false),.ld none (.t 72)⟩,
   ⟨(some 74),some (71,false),.bin .eql (.t 73) (.c (.p (.int .i64 6)))⟩,
   oJ 75 (.pick (.t 71) (.c (.p (.bool true))) (.t 74))])
 (.cond (.t 75)
  (.seq (.reg [oM 76 0,
    oF 77 3 7,
    oM 79 2,
    oL 78 77,
    oJ 80 (.call bX [(.t 79)]),
    ⟨none,none,.chk none 77 78⟩,
    oJ 81 (.call bm [(.t 76),(.t 78),(.t 80)])])
  (.reg [oM 82 0,
    oF 83 4 7,
    oM 85 2,
    oL 84 83,
    oJ 86 (.call bX [(.t 85)]),
    ⟨none,none,.chk none 83 84⟩,
    oJ 87 (.call bm [(.t 82),(.t 84),(.t 86)])]))
  (.skip)))))))
 (.reg [oJ 88 (.bin .add (.t 16) (.c (.p (.int .i64 1)))),
   oM 16 88]))))))⟩
theorem po:ah Tryz.prog bm=some F_impl_checker_block:=by kernel_rfl
def F_impl_CheckProgram:FK:=⟨73,[.t 2],
 .seq (.reg [oJ 1 (.box 1 (.t 0)),
  oK 2 0])
 (.seq (.seq (.reg [oJ 11 (.ld (some 1) (.t 1)),
   oJ 12 (.call eI [(.t 11)]),
   oJ 13 (.not (.t 12))])
 (.cond (.t 13)
  (.seq (.reg [oK 2 1])
  (.ret))
  (.skip)))
 (.seq (.reg [oJ 14 (.ld (some 1) (.t 1)),
   oJ 15 (.bld [.nils,(.p (.int .i64 0)),(.p (.int .i64 0))] [(0,1,(.t 14))]),
   oJ 16 (.box 3 (.t 15)),
   oM 3 16])
 (.seq (.seq (.reg [oF 17 0 1,
   oL 18 17,
   oJ 19 (.len false (.t 18)),
   oK 20 0])
 (.blk 0 (.loop (.seq (.reg [oJ 21 (.bin .lss (.t 20) (.t 19))])
 (.seq (.cond (.t 21)
  (.skip)
  (.exit 0))
 (.seq (.blk 1 (.seq (.reg [oM 22 20,
   oJ 23 (.idxS 3 (.t 18) (.t 20)),
   oJ 24 (.ld (some 3) (.t 23)),
   oJ 5 (.alloc [(.p (.str [])),.nils,.nils]),
   oM 4 22,
   ⟨none,none,.st 3 (.t 5) (.t 24)⟩])
 (.seq (.reg [oM 25 3,
   oM 26 4,
   oN 27 25,
   oF 28 1 27,
   oS 28 26])
 (.seq (.seq (.reg [oJ 29 (.ld (some 1) (.t 1)),
   oF 30 0 5,
   oL 31 30,
   oJ 32 (.call jO [(.t 29),(.t 31)]),
   oM 33 4,
   oJ 34 (.bin .lss (.t 32) (.t 33))])
 (.cond (.t 34)
  (.reg [oM 35 3,
    oJ 36 (.call aK [(.t 35),(.c (.p (.int .i64 2)))])])
  (.skip)))
 (.seq (.reg [oJ 37 (.call bX [(.c .nilp)]),
   oM 6 37])
 (.seq (.seq (.reg [oF 38 1 5,
   oL 39 38,
   oJ 40 (.len false (.t 39)),
   oK 41 0])
 (.blk 2 (.loop (.seq (.reg [oJ 42 (.bin .lss (.t 41) (.t 40))])
 (.seq (.cond (.t 42)
  (.skip)
  (.exit 2))
 (.seq (.blk 3 (.seq (.reg [oJ 43 (.idxS 1 (.t 39) (.t 41)),
   oL 44 43,
   oM 8 44])
 (.seq (.seq (.reg [oM 46 6,
   oN 47 46,
   oF 48 0 47,
   oL 49 48,
   oM 50 8,
   oJ 51 (.lk 1 (.p (.int .i64 0)) true (.t 49) (.t 50)),
   oM 45 51,
   oJ 52 (.ext 0 (.t 45)),
   oJ 53 (.ext 1 (.t 45)),
   oM 9 52,
   oM 10 53])
 (.seq (.reg [oM 54 10])
 (.cond (.t 54)
  (.reg [oM 55 3,
    oJ 56 (.call aK [(.t 55),(.c (.p (.int .i64 2)))])])
  (.skip))))
 (.reg [oM 57 6,
   oN 58 57,
   oF 59 0 58,
   oL 60 59,
   oM 61 8,
   ⟨none,none,.mup 1 (.t 60) (.t 61) (.c (.p (.int .i64 0)))⟩]))))
 (.reg [oJ 62 (.bin .add (.t 41) (.c (.p (.int .i64 1)))),
   oM 41 62])))))))
 (.reg [oM 63 3,
   oF 64 2 5,
   oL 65 64,
   oM 66 6,
   oJ 67 (.call bm [(.t 63),(.t 65),(.t 66)])])))))))
 (.reg [oJ 68 (.bin .add (.t 20) (.c (.p (.int .i64 1)))),
   oM 20 68])))))))
 (.seq (.reg [oM 69 3,
   oN 70 69,
   oF 71 2 70,
   oL 72 71,
   oM 2 72])
 (.ret)))))⟩
theorem qA:ah Tryz.prog gu=some F_impl_CheckProgram:=by kernel_rfl
def uI:FK:=⟨6,[.t 2],
 .seq (.reg [oJ 1 (.box 1 (.t 0)),
  oJ 2 (.mov (.c (.p (.bool false))))])
 (.seq (.reg [oJ 3 (.ld (some 1) (.t 1)),
   oJ 4 (.call gu [(.t 3)]),
   oJ 5 (.bin .eql (.t 4) (.c (.p (.int .i64 0)))),
   oM 2 5])
 (.ret))⟩
theorem Bs:ah Tryz.prog jQ=some uI:=by kernel_rfl
def iY:FK:=⟨22,[.t 4],
 .seq (.reg [oJ 4 (.mov (.c .nils))])
 (.seq (.reg [oJ 5 (.mov (.c .nils))])
 (.seq (.seq (.reg [oM 8 0,
   oJ 9 (.len false (.t 8)),
   oK 10 0])
 (.blk 0 (.loop (.seq (.reg [oJ 11 (.bin .lss (.t 10) (.t 9))])
 (.seq (.cond (.t 11)
  (.skip)
  (.exit 0))
 (.seq (.blk 1 (.seq (.reg [oJ 12 (.idxS 3 (.t 8) (.t 10)),
   oJ 13 (.ld (some 3) (.t 12)),
   oJ 7 (.alloc [(.p (.str [])),.nils,.nils]),
   ⟨none,none,.st 3 (.t 7) (.t 13)⟩])
 (.reg [oM 14 5,
   oM 15 1,
   oJ 16 (.ld (some 3) (.t 7)),
   oJ 17 (.callv (.t 15) [(.t 16)]),
   oJ 18 (.bsl 3 [(.p (.str [])),.nils,.nils] 1 [(0,3,(.t 17))]),
   oJ 19 (.app 3 64 (.t 14) (.t 18)),
   oM 5 19])))
 (.reg [oJ 20 (.bin .add (.t 10) (.c (.p (.int .i64 1)))),
   oM 10 20])))))))
 (.seq (.reg [oM 21 5,
   oM 4 21])
 (.ret))))⟩
theorem oG:ah Tryz.prog bu=some iY:=by kernel_rfl
def jf:FK:=⟨8,[.t 2],
 .seq (.reg [oJ 2 (.mov (.c .nils))])
 (.seq (.seq (.reg [oM 3 0,
   oJ 4 (.snil false (.t 3))])
 (.cond (.t 4)
  (.seq (.reg [oJ 2 (.mov (.c .nils))])
  (.ret))
  (.skip)))
 (.seq (.reg [oJ 5 (.bsl 1 [(.p (.str []))] 0 []),
   oM 6 0,
   oJ 7 (.app 1 16 (.t 5) (.t 6)),
   oM 2 7])
 (.ret)))⟩
theorem oD:ah Tryz.prog cP=some jf:=by kernel_rfl
def eM:FK:=⟨22,[.t 4],
 .seq (.reg [oJ 4 (.mov (.c .nils))])
 (.seq (.reg [oJ 5 (.mov (.c .nils))])
 (.seq (.seq (.reg [oM 8 0,
   oJ 9 (.len false (.t 8)),
   oK 10 0])
 (.blk 0 (.loop (.seq (.reg [oJ 11 (.bin .lss (.t 10) (.t 9))])
 (.seq (.cond (.t 11)
  (.skip)
  (.exit 0))
 (.seq (.blk 1 (.seq (.reg [oJ 12 (.idxS 5 (.t 8) (.t 10)),
   oJ 13 (.ld (some 5) (.t 12)),
   oJ 7 (.alloc [(.p (.int .i64 0)),(.p (.str [])),.nils,.nils,.nils]),
   ⟨none,none,.st 5 (.t 7) (.t 13)⟩])
 (.reg [oM 14 5,
   oM 15 1,
   oJ 16 (.ld (some 5) (.t 7)),
   oJ 17 (.callv (.t 15) [(.t 16)]),
   oJ 18 (.bsl 5 [(.p (.int .i64 0)),(.p (.str [])),.nils,.nils,.nils] 1 [(0,5,(.t 17))]),
   oJ 19 (.app 5 96 (.t 14) (.t 18)),
   oM 5 19])))
 (.reg [oJ 20 (.bin .add (.t 10) (.c (.p (.int .i64 1)))),
   oM 10 20])))))))
 (.seq (.reg [oM 21 5,
   oM 4 21])
 (.ret))))⟩
theorem ir:ah Tryz.prog az=some eM:=by kernel_rfl
def im:FK:=⟨22,[.t 4],
 .seq (.reg [oJ 4 (.mov (.c .nils))])
 (.seq (.reg [oJ 5 (.mov (.c .nils))])
 (.seq (.seq (.reg [oM 8 0,
   oJ 9 (.len false (.t 8)),
   oK 10 0])
 (.blk 0 (.loop (.seq (.reg [oJ 11 (.bin .lss (.t 10) (.t 9))])
 (.seq (.cond (.t 11)
  (.skip)
  (.exit 0))
 (.seq (.blk 1 (.seq (.reg [oJ 12 (.idxS 4 (.t 8) (.t 10)),
   oJ 13 (.ld (some 4) (.t 12)),
   oJ 7 (.alloc [(.p (.int .i64 0)),(.p (.int .i64 0)),(.p (.str [])),.nils]),
   ⟨none,none,.st 4 (.t 7) (.t 13)⟩])
 (.reg [oM 14 5,
   oM 15 1,
   oJ 16 (.ld (some 4) (.t 7)),
   oJ 17 (.callv (.t 15) [(.t 16)]),
   oJ 18 (.bsl 4 [(.p (.int .i64 0)),(.p (.int .i64 0)),(.p (.str [])),.nils] 1 [(0,4,(.t 17))]),
   oJ 19 (.app 4 56 (.t 14) (.t 18)),
   oM 5 19])))
 (.reg [oJ 20 (.bin .add (.t 10) (.c (.p (.int .i64 1)))),
   oM 10 20])))))))
 (.seq (.reg [oM 21 5,
   oM 4 21])
 (.ret))))⟩
theorem na:ah Tryz.prog aR=some im:=by kernel_rfl
def mV:FK:=⟨8,[.c 2 (some 4)],
 .seq (.reg [oJ 1 (.box 4 (.t 0)),
  oJ 2 (.alloc [(.p (.int .i64 0)),(.p (.int .i64 0)),(.p (.str [])),.nils])])
 (.seq (.reg [oF 3 3 1,
   oL 4 3,
   oJ 5 (.call aR [(.t 4),(.c (.fn (.func bG) []))]),
   oF 6 3 1,
   oS 6 5])
 (.seq (.reg [oJ 7 (.ld (some 4) (.t 1)),
   ⟨none,none,.st 4 (.t 2) (.t 7)⟩])
 (.ret)))⟩
theorem tY:ah Tryz.prog bG=some mV:=by kernel_rfl
def ng:FK:=⟨16,[.c 2 (some 5)],
 .seq (.reg [oJ 1 (.box 5 (.t 0)),
  oJ 2 (.alloc [(.p (.int .i64 0)),(.p (.str [])),.nils,.nils,.nils])])
 (.seq (.reg [oF 3 2 1,
   oL 4 3,
   oJ 5 (.call aR [(.t 4),(.c (.fn (.func bG) []))]),
   oF 6 2 1,
   oS 6 5])
 (.seq (.reg [oF 7 3 1,
   oL 8 7,
   oJ 9 (.call az [(.t 8),(.c (.fn (.func bV) []))]),
   oF 10 3 1,
   oS 10 9])
 (.seq (.reg [oF 11 4 1,
   oL 12 11,
   oJ 13 (.call az [(.t 12),(.c (.fn (.func bV) []))]),
   oF 14 4 1,
   oS 14 13])
 (.seq (.reg [oJ 15 (.ld (some 5) (.t 1)),
   ⟨none,none,.st 5 (.t 2) (.t 15)⟩])
 (.ret)))))⟩
theorem tQ:ah Tryz.prog bV=some ng:=by kernel_rfl
def pI:FK:=⟨12,[.c 2 (some 3)],
 .seq (.reg [oJ 1 (.box 3 (.t 0)),
  oJ 2 (.alloc [(.p (.str [])),.nils,.nils])])
 (.seq (.reg [oF 3 1 1,
   oL 4 3,
   oJ 5 (.call cP [(.t 4)]),
   oF 6 1 1,
   oS 6 5])
 (.seq (.reg [oF 7 2 1,
   oL 8 7,
   oJ 9 (.call az [(.t 8),(.c (.fn (.func bV) []))]),
   oF 10 2 1,
   oS 10 9])
 (.seq (.reg [oJ 11 (.ld (some 3) (.t 1)),
   ⟨none,none,.st 3 (.t 2) (.t 11)⟩])
 (.ret))))⟩
theorem xq:ah Tryz.prog fT=some pI:=by kernel_rfl
def kC:FK:=⟨7,[.c 2 (some 1)],
 .seq (.reg [oJ 1 (.box 1 (.t 0)),
  oJ 2 (.alloc [.nils])])
 (.seq (.reg [oF 3 0 1,
   oL 4 3,
   oJ 5 (.call bu [(.t 4),(.c (.fn (.func fT) []))]),
   oJ 6 (.bld [.nils] [(0,1,(.t 5))]),
   oS 2 6])
 (.ret))⟩
theorem qv:ah Tryz.prog gx=some kC:=by kernel_rfl
def lr:FK:=⟨19,[.c 3 (some 5)],
 .seq (.reg [oJ 2 (.box 5 (.t 0)),
  oJ 3 (.alloc [(.p (.int .i64 0)),(.p (.str [])),.nils,.nils,.nils])])
 (.seq (.reg [oF 4 2 2,
   oL 5 4,
   oJ 6 (.call aR [(.t 5),(.c (.fn (.func bG) []))]),
   oF 7 2 2,
   oS 7 6])
 (.seq (.reg [oL 8 1,
   oF 9 3 2,
   oL 10 9,
   oJ 11 (.callv (.t 8) [(.t 10)]),
   oF 12 3 2,
   oS 12 11])
 (.seq (.reg [oL 13 1,
   oF 14 4 2,
   oL 15 14,
   oJ 16 (.callv (.t 13) [(.t 15)]),
   oF 17 4 2,
   oS 17 16])
 (.seq (.reg [oJ 18 (.ld (some 5) (.t 2)),
   ⟨none,none,.st 5 (.t 3) (.t 18)⟩])
 (.ret)))))⟩
theorem rO:ah Tryz.prog ce=some lr:=by kernel_rfl
def jq:FK:=⟨10,[.t 4],
 .seq (.reg [oJ 4 (.mov (.c .nils))])
 (.seq (.reg [oM 6 0,
   oJ 7 (.mkf (.func ce) [(.t 2)]),
   oL 5 1,
   oJ 8 (.call az [(.t 6),(.t 7)]),
   ⟨none,none,.chk none 1 5⟩,
   oJ 9 (.callv (.t 5) [(.t 8)]),
   oM 4 9])
 (.ret))⟩
theorem nH:ah Tryz.prog aO=some jq:=by kernel_rfl
def nh:FK:=⟨14,[.c 3 (some 3)],
 .seq (.reg [oJ 2 (.box 3 (.t 0)),
  oJ 3 (.alloc [(.p (.str [])),.nils,.nils])])
 (.seq (.reg [oF 4 1 2,
   oL 5 4,
   oJ 6 (.call cP [(.t 5)]),
   oF 7 1 2,
   oS 7 6])
 (.seq (.reg [oL 8 1,
   oF 9 2 2,
   oL 10 9,
   oJ 11 (.callv (.t 8) [(.t 10)]),
   oF 12 2 2,
   oS 12 11])
 (.seq (.reg [oJ 13 (.ld (some 3) (.t 2)),
   ⟨none,none,.st 3 (.t 3) (.t 13)⟩])
 (.ret))))⟩
theorem tM:ah Tryz.prog cT=some nh:=by kernel_rfl
def lz:FK:=⟨12,[.c 4 (some 1)],
 .seq (.reg [oJ 2 (.box 1 (.t 0)),
  oJ 3 (.box 1 (.t 1)),
  oJ 4 (.alloc [.nils])])
 (.seq (.reg [oJ 5 (.alloc [.nilf])])
 (.seq (.reg [oJ 6 (.mkf (.func aO) [(.t 3),(.t 5)]),
   oS 5 6])
 (.seq (.reg [oF 7 0 2,
   oL 8 7,
   oJ 9 (.mkf (.func cT) [(.t 5)]),
   oJ 10 (.call bu [(.t 8),(.t 9)]),
   oJ 11 (.bld [.nils] [(0,1,(.t 10))]),
   oS 4 11])
 (.ret))))⟩
theorem pP:ah Tryz.prog cD=some lz:=by kernel_rfl
def pi:FK:=⟨4,[.t 2],
 .seq (.reg [oK 2 0])
 (.seq (.seq (.reg [oM 3 0])
 (.cond (.t 3)
  (.seq (.reg [oK 2 1])
  (.ret))
  (.skip)))
 (.seq (.reg [oK 2 0])
 (.ret)))⟩
theorem wN:ah Tryz.prog kQ=some pi:=by kernel_rfl
def nL:FK:=⟨70,[.t 6,.t 7],
 .seq (.reg [oK 6 0,
  oJ 7 (.mov (.c (.p (.bool false))))])
 (.seq (.reg [oJ 8 (.mov (.c (.fn (.func kQ) [])))])
 (.seq (.seq (.reg [oM 9 0])
 (.blk 0 (.seq (.reg [oJ 11 (.bin .eql (.t 9) (.c (.p (.int .i64 3)))),
   oM 10 11])
 (.cond (.t 10)
  (.seq (.reg [oM 12 1,
    oM 13 2,
    oJ 14 (.bin .add (.t 12) (.t 13)),
    oJ 15 (.bin .rem (.t 14) (.c (.p (.int .i64 256)))),
    oM 6 15,
    oJ 7 (.mov (.c (.p (.bool true))))])
  (.ret))
  (.seq (.reg [oJ 17 (.bin .eql (.t 9) (.c (.p (.int .i64 4)))),
    oM 16 17])
  (.cond (.t 16)
   (.seq (.reg [oM 18 1,
     oM 19 2,
     oJ 20 (.bin .sub (.t 18) (.t 19)),
     oJ 21 (.bin .add (.t 20) (.c (.p (.int .i64 256)))),
     oJ 22 (.bin .rem (.t 21) (.c (.p (.int .i64 256)))),
     oM 6 22,
     oJ 7 (.mov (.c (.p (.bool true))))])
   (.ret))
   (.seq (.reg [oJ 24 (.bin .eql (.t 9) (.c (.p (.int .i64 5)))),
     oM 23 24])
   (.cond (.t 23)
    (.seq (.reg [oM 25 1,
      oM 26 2,
      oJ 27 (.bin .mul (.t 25) (.t 26)),
      oJ 28 (.bin .rem (.t 27) (.c (.p (.int .i64 256)))),
      oM 6 28,
      oJ 7 (.mov (.c (.p (.bool true))))])
    (.ret))
    (.seq (.seq (.reg [oJ 30 (.bin .eql (.t 9) (.c (.p (.int .i64 6)))),
      oM 29 30])
    (.cond (.t 29)
     (.skip)
     (.reg [oJ 31 (.bin .eql (.t 9) (.c (.p (.int .i64 7)))),
       oM 29 31])))
    (.cond (.t 29)
     (.seq (.seq (.reg [oM 32 2,
       oJ 33 (.bin .eql (.t 32) (.c (.p (.int .i64 0))))])
     (.cond (.t 33)
      (.seq (.reg [oK 6 0,
        oJ 7 (.mov (.c (.p (.bool false))))])
      (.ret))
      (.skip)))
     (.seq (.seq (.reg [oM 34 0,
       oJ 35 (.bin .eql (.t 34) (.c (.p (.int .i64 6))))])
     (.cond (.t 35)
      (.seq (.reg [oM 36 1,
        oM 37 2,
        oJ 38 (.bin .quo (.t 36) (.t 37)),
        oM 6 38,
        oJ 7 (.mov (.c (.p (.bool true))))])
      (.ret))
      (.skip)))
     (.seq (.reg [oM 39 1,
       oM 40 2,
       oJ 41 (.bin .rem (.t 39) (.t 40)),
       oM 6 41,
       oJ 7 (.mov (.c (.p (.bool true))))])
     (.ret))))
     (.seq (.reg [oJ 43 (.bin .eql (.t 9) (.c (.p (.int .i64 8)))),
       oM 42 43])
     (.cond (.t 42)
      (.seq (.reg [oM 44 8,
        oM 45 1,
        oM 46 2,
        oJ 47 (.bin .lss (.t 45) (.t 46)),
        oJ 48 (.callv (.t 44) [(.t 47)]),
        oM 6 48,
        oJ 7 (.mov (.c (.p (.bool true))))])
      (.ret))
      (.seq (.reg [oJ 50 (.bin .eql (.t 9) (.c (.p (.int .i64 9)))),
        oM 49 50])
      (.cond (.t 49)
       (.seq (.reg [oM 51 8,
         oM 52 1,
         oM 53 2,
         oJ 54 (.bin .eql (.t 52) (.t 53)),
         oJ 55 (.callv (.t 51) [(.t 54)]),
         oM 6 55,
         oJ 7 (.mov (.c (.p (.bool true))))])
       (.ret))
       (.seq (.reg [oJ 57 (.bin .eql (.t 9) (.c (.p (.int .i64 10)))),
         oM 56 57])
       (.cond (.t 56)
        (.seq (.reg [oM 58 8,
          oM 59 1,
          oJ 60 (.bin .neq (.t 59) (.c (.p (.int .i64 0)))),
          oM 61 60,
          ⟨(some 62),some (61,true),.mov (.t 2)⟩,
          ⟨(some 63),some (61,true),.bin .neq (.t 62) (.c (.p (.int .i64 0)))⟩,
          oJ 64 (.pick (.t 61) (.t 63) (.c (.p (.bool false)))),
          oJ 65 (.callv (.t 58) [(.t 64)]),
          oM 6 65,
          oJ 7 (.mov (.c (.p (.bool true))))])
        (.ret))
        (.skip)))))))))))))))))
 (.seq (.reg [oM 66 8,
   oM 67 1,
   oJ 68 (.bin .eql (.t 67) (.c (.p (.int .i64 0)))),
   oJ 69 (.callv (.t 66) [(.t 68)]),
   oM 6 69,
   oJ 7 (.mov (.c (.p (.bool true))))])
 (.ret))))⟩
theorem sN:ah Tryz.prog iy=some nL:=by kernel_rfl
def px:FK:=⟨5,[.c 2 (some 4)],
 .seq (.reg [oJ 2 (.alloc [(.p (.int .i64 0)),(.p (.int .i64 0)),(.p (.str [])),.nils])])
 (.seq (.reg [oM 3 0,
   oJ 4 (.bld [(.p (.int .i64 0)),(.p (.int .i64 0)),(.p (.str [])),.nils] [(0,1,(.c (.p (.int .i64 1)))),(1,1,(.t 3))]),
   ⟨none,none,.st 4 (.t 2) (.t 4)⟩])
 (.ret))⟩
theorem xX:ah Tryz.prog cz=some px:=by kernel_rfl
def nQ:FK:=⟨14,[.t 4],
 .seq (.reg [oJ 2 (.box 4 (.t 0)),
  oJ 4 (.mov (.c (.p (.bool false))))])
 (.seq (.reg [oF 5 0 2,
   oL 6 5,
   oJ 7 (.bin .eql (.t 6) (.c (.p (.int .i64 1)))),
   oM 8 7,
   ⟨(some 9),some (8,true),.fldA 1 (.t 2)⟩,
   ⟨(some 10),some (8,true),.ld none (.t 9)⟩,
   ⟨(some 11),some (8,true),.mov (.t 1)⟩,
   ⟨(some 12),some (8,true),.bin .eql (.t 10) (.t 11)⟩,
   oJ 13 (.pick (.t 8) (.t 12) (.c (.p (.bool false)))),
   oM 4 13])
 (.ret))⟩
theorem Am:ah Tryz.prog aP=some nQ:=by kernel_rfl
def bJ:FK:=⟨40,[],
 .seq (.reg [oJ 2 (.box 4 (.t 0))])
 (.reg [oL 3 1,
   oM 4 3,
   ⟨(some 5),some (4,true),.fldA 0 (.t 2)⟩,
   ⟨(some 6),some (4,true),.ld none (.t 5)⟩,
   ⟨(some 7),some (4,true),.bin .neq (.t 6) (.c (.p (.int .i64 12)))⟩,
   oJ 8 (.pick (.t 4) (.t 7) (.c (.p (.bool false)))),
   oM 9 8,
   ⟨(some 10),some (9,true),.fldA 0 (.t 2)⟩,
   ⟨(some 11),some (9,true),.ld none (.t 10)⟩,
   ⟨(some 12),some (9,true),.bin .neq (.t 11) (.c (.p (.int .i64 13)))⟩,
   oJ 13 (.pick (.t 9) (.t 12) (.c (.p (.bool false)))),
   oM 14 13,
   ⟨(some 15),some (14,true),.fldA 0 (.t 2)⟩,
   ⟨(some 16),some (14,true),.ld none (.t 15)⟩,
   ⟨(some 17),some (14,true),.bin .neq (.t 16) (.c (.p (.int .i64 6)))⟩,
   ⟨(some 18),some (14,true),.mov (.t 17)⟩,
   ⟨(some 19),some (18,true),.fldA 0 (.t 2)⟩,
   ⟨(some 20),some (18,true),.ld none (.t 19)⟩,
   ⟨(some 21),some (18,true),.bin .neq (.t 20) (.c (.p (.int .i64 7)))⟩,
   ⟨(some 22),some (14,true),.pick (.t 18) (.t 21) (.c (.p (.bool false)))⟩,
   ⟨(some 23),some (14,true),.mov (.t 22)⟩,
   ⟨(some 24),some (23,false),.fldA 3 (.t 2)⟩,
   ⟨(some 25),some (23,false),.ld none (.t 24)⟩,
   ⟨(some 26),some (23,false),.idxS 4 (.t 25) (.c (.p (.int .i64 1)))⟩,
   ⟨(some 27),some (23,false),.fldA 0 (.t 26)⟩,
   ⟨(some 28),some (23,false),.ld none (.t 27)⟩,
   ⟨(some 29),some (23,false),.bin .eql (.t 28) (.c (.p (.int .i64 1)))⟩,
   ⟨(some 30),some (23,false),.mov (.t 29)⟩,
   ⟨(some 31),some (30,true),.fldA 3 (.t 2)⟩,
   ⟨(some 32),some (30,true),.ld none (.t 31)⟩,
   ⟨(some 33),some (30,true),.idxS 4 (.t 32) (.c (.p (.int .i64 1)))⟩,
   ⟨(some 34),some (30,true),.fldA 1 (.t 33)⟩,
   ⟨(some 35),some (30,true),.ld none (.t 34)⟩,
   ⟨(some 36),some (30,true),.bin .neq (.t 35) (.c (.p (.int .i64 0)))⟩,
   ⟨(some 37),some (23,false),.pick (.t 30) (.t 36) (.c (.p (.bool false)))⟩,
   ⟨(some 38),some (14,true),.pick (.t 23) (.c (.p (.bool true))) (.t 37)⟩,
   oJ 39 (.pick (.t 14) (.t 38) (.c (.p (.bool false)))),
   oS 1 39])⟩
theorem sQ:ah Tryz.prog ee=some bJ:=by kernel_rfl
def oo:FK:=⟨11,[.t 2],
 .seq (.reg [oJ 1 (.box 4 (.t 0)),
  oJ 2 (.mov (.c (.p (.bool false))))])
 (.seq (.reg [oJ 4 (.ld (some 4) (.t 1)),
   oJ 5 (.call eQ [(.t 4)]),
   oJ 3 (.alloc [(.p (.bool false))]),
   oS 3 5])
 (.seq (.seq (.reg [oL 6 3])
 (.cond (.t 6)
  (.reg [oJ 7 (.ld (some 4) (.t 1)),
    oJ 8 (.mkf (.func ee) [(.t 3)]),
    oJ 9 (.call gd [(.t 7),(.t 8)])])
  (.skip)))
 (.seq (.reg [oL 10 3,
   oM 2 10])
 (.ret))))⟩
theorem uY:ah Tryz.prog dY=some oo:=by kernel_rfl
def F_impl_foldPart:FK:=⟨122,[.c 2 (some 4)],
 .seq (.reg [oJ 1 (.box 4 (.t 0)),
  oJ 2 (.alloc [(.p (.int .i64 0)),(.p (.int .i64 0)),(.p (.str [])),.nils])])
 (.seq (.seq (.reg [oF 7 3 1,
   oL 8 7,
   oJ 9 (.len false (.t 8)),
   oJ 10 (.bin .eql (.t 9) (.c (.p (.int .i64 0)))),
   oM 11 10,
   ⟨(some 12),some (11,false),.fldA 0 (.t 1)⟩,
   ⟨(some 13),some (11,false),.ld none (.t 12)⟩,
   ⟨(some 14),some (11,false),.bin .eql (.t 13) (.c (.p (.int .i64 13)))⟩,
   oJ 15 (.pick (.t 11) (.c (.p (.bool true))) (.t 14)),
   oM 16 15,
   ⟨(some 17),some (16,false),.fldA 0 (.t 1)⟩,
   ⟨(some 18),some (16,false),.ld none (.t 17)⟩,
   ⟨(some 19),some (16,false),.bin .eql (.t 18) (.c (.p (.int .i64 12)))⟩,
   oJ 20 (.pick (.t 16) (.c (.p (.bool true))) (.t 19))])
 (.cond (.t 20)
  (.seq (.reg [oJ 21 (.ld (some 4) (.t 1)),
    ⟨none,none,.st 4 (.t 2) (.t 21)⟩])
  (.ret))
  (.skip)))
 (.seq (.ot (.one []
 (.one [oF 22 3 1]
 (.one [oF 26 3 1]
 (.one [oF 28 3 1]
 (.one [oL 23 22]
 (.one [oJ 24 (.idxS 4 (.t 23) (.c (.p (.int .i64 0))))]
 (.one [oJ 25 (.ld (some 4) (.t 24))]
 (.one [oL 27 26]
 (.one [oL 29 28]
 (.one [oJ 30 (.len false (.t 29))]
 (.one [oJ 31 (.bin .sub (.t 30) (.c (.p (.int .i64 1))))]
 (.one [oJ 32 (.idxS 4 (.t 27) (.t 31))]
 (.one [oJ 33 (.ld (some 4) (.t 32))]
 (.alt (.one [oJ 3 (.alloc [(.p (.int .i64 0)),(.p (.int .i64 0)),(.p (.str [])),.nils]),
   ⟨none,none,.chk none 22 23⟩,
   ⟨none,none,.chk (some 4) 24 25⟩,
   ⟨none,none,.chk none 26 27⟩,
   ⟨none,none,.chk none 28 29⟩,
   ⟨none,none,.chk (some 4) 32 33⟩]
 (.alt (.one [oJ 4 (.alloc [(.p (.int .i64 0)),(.p (.int .i64 0)),(.p (.str [])),.nils]),
   ⟨none,none,.chk none 22 23⟩,
   ⟨none,none,.chk (some 4) 24 25⟩,
   ⟨none,none,.chk none 26 27⟩,
   ⟨none,none,.chk none 28 29⟩,
   ⟨none,none,.chk (some 4) 32 33⟩]
 (.alt (.one [⟨none,none,.st 4 (.t 3) (.t 25)⟩,
   ⟨none,none,.chk none 26 27⟩,
   ⟨none,none,.chk none 28 29⟩,
   ⟨none,none,.chk (some 4) 32 33⟩]
 (.alt (.one [⟨none,none,.st 4 (.t 4) (.t 33)⟩]
 (.done))
 (.tru)))
 (.tru)))
 (.tru)))
 (.alt (.one [oJ 4 (.alloc [(.p (.int .i64 0)),(.p (.int .i64 0)),(.p (.str [])),.nils]),
   ⟨none,none,.chk none 22 23⟩,
   ⟨none,none,.chk (some 4) 24 25⟩,
   ⟨none,none,.chk none 26 27⟩,
   ⟨none,none,.chk none 28 29⟩,
   ⟨none,none,.chk (some 4) 32 33⟩]
 (.alt (.one [oJ 3 (.alloc [(.p (.int .i64 0)),(.p (.int .i64 0)),(.p (.str [])),.nils]),
   ⟨none,none,.chk none 22 23⟩,
   ⟨none,none,.chk (some 4) 24 25⟩,
   ⟨none,none,.chk none 26 27⟩,
   ⟨none,none,.chk none 28 29⟩,
   ⟨none,none,.chk (some 4) 32 33⟩]
 (.alt (.one [⟨none,none,.st 4 (.t 3) (.t 25)⟩,
   ⟨none,none,.chk none 26 27⟩,
   ⟨none,none,.chk none 28 29⟩,
   ⟨none,none,.chk (some 4) 32 33⟩]
 (.alt (.one [⟨none,none,.st 4 (.t 4) (.t 33)⟩]
 (.done))
 (.tru)))
 (.tru)))
 (.tru)))
 (.tru)))))))))))))))))
 (.seq (.seq (.reg [oF 34 0 3,
   oL 35 34,
   oJ 36 (.bin .eql (.t 35) (.c (.p (.int .i64 1)))),
   oM 37 36,
   ⟨(some 38),some (37,true),.fldA 0 (.t 4)⟩,
   ⟨(some 39),some (37,true),.ld none (.t 38)⟩,
   ⟨(some 40),some (37,true),.bin .eql (.t 39) (.c (.p (.int .i64 1)))⟩,
   oJ 41 (.pick (.t 37) (.t 40) (.c (.p (.bool false))))])
 (.cond (.t 41)
  (.seq (.reg [oF 43 0 1,
    oL 44 43,
    oF 45 1 3,
    oL 46 45,
    oF 47 1 4,
    oL 48 47,
    oJ 49 (.call iy [(.t 44),(.t 46),(.t 48)]),
    oM 42 49,
    oJ 50 (.ext 0 (.t 42)),
    oJ 51 (.ext 1 (.t 42)),
    oM 5 50,
    oM 6 51])
  (.seq (.reg [oM 52 6])
  (.cond (.t 52)
   (.seq (.reg [oM 53 5,
     oJ 54 (.call cz [(.t 53)]),
     ⟨none,none,.st 4 (.t 2) (.t 54)⟩])
   (.ret))
   (.skip))))
  (.skip)))
 (.seq (.seq (.reg [oF 55 0 1,
   oL 56 55])
 (.blk 0 (.seq (.reg [oJ 58 (.bin .eql (.t 56) (.c (.p (.int .i64 11)))),
   oM 57 58])
 (.cond (.t 57)
  (.seq (.reg [oF 59 0 3,
    oL 60 59,
    oJ 61 (.bin .eql (.t 60) (.c (.p (.int .i64 11)))),
    oM 62 61,
    ⟨(some 63),some (62,true),.fldA 3 (.t 3)⟩,
    ⟨(some 64),some (62,true),.ld none (.t 63)⟩,
    ⟨(some 65),some (62,true),.idxS 4 (.t 64) (.c (.p (.int .i64 0)))⟩,
    ⟨(some 66),some (62,true),.fldA 0 (.t 65)⟩,
    ⟨(some 67),some (62,true),.ld none (.t 66)⟩,
    ⟨(some 68),some (62,true),.bin .eql (.t 67) (.c (.p (.int .i64 11)))⟩,
    oJ 69 (.pick (.t 62) (.t 68) (.c (.p (.bool false))))])
  (.cond (.t 69)
   (.seq (.reg [oF 70 3 3,
     oL 71 70,
     oJ 72 (.idxS 4 (.t 71) (.c (.p (.int .i64 0)))),
     oJ 73 (.ld (some 4) (.t 72)),
     ⟨none,none,.st 4 (.t 2) (.t 73)⟩])
   (.ret))
   (.skip)))
  (.seq (.reg [oJ 75 (.bin .eql (.t 56) (.c (.p (.int .i64 10)))),
    oM 74 75])
  (.cond (.t 74)
   (.seq (.reg [oJ 76 (.ld (some 4) (.t 3)),
     oJ 77 (.call aP [(.t 76),(.c (.p (.int .i64 0)))])])
   (.cond (.t 77)
    (.seq (.reg [oJ 78 (.call cz [(.c (.p (.int .i64 0)))]),
      ⟨none,none,.st 4 (.t 2) (.t 78)⟩])
    (.ret))
    (.skip)))
   (.seq (.reg [oJ 80 (.bin .eql (.t 56) (.c (.p (.int .i64 3)))),
     oM 79 80])
   (.cond (.t 79)
    (.seq (.seq (.reg [oJ 81 (.ld (some 4) (.t 4)),
      oJ 82 (.call aP [(.t 81),(.c (.p (.int .i64 0)))])])
    (.cond (.t 82)
     (.seq (.reg [oJ 83 (.ld (some 4) (.t 3)),
       ⟨none,none,.st 4 (.t 2) (.t 83)⟩])
     (.ret))
     (.skip)))
    (.seq (.reg [oJ 84 (.ld (some 4) (.t 3)),
      oJ 85 (.call aP [(.t 84),(.c (.p (.int .i64 0)))])])
    (.cond (.t 85)
     (.seq (.reg [oJ 86 (.ld (some 4) (.t 4)),
       ⟨none,none,.st 4 (.t 2) (.t 86)⟩])
     (.ret))
     (.skip))))
    (.seq (.reg [oJ 88 (.bin .eql (.t 56) (.c (.p (.int .i64 4)))),
      oM 87 88])
    (.cond (.t 87)
     (.seq (.reg [oJ 89 (.ld (some 4) (.t 4)),
       oJ 90 (.call aP [(.t 89),(.c (.p (.int .i64 0)))])])
     (.cond (.t 90)
      (.seq (.reg [oJ 91 (.ld (some 4) (.t 3)),
        ⟨none,none,.st 4 (.t 2) (.t 91)⟩])
      (.ret))
      (.skip)))
     (.seq (.reg [oJ 93 (.bin .eql (.t 56) (.c (.p (.int .i64 5)))),
       oM 92 93])
     (.cond (.t 92)
      (.blk 1 (.seq (.reg [oJ 95 (.ld (some 4) (.t 4)),
        oJ 96 (.call aP [(.t 95),(.c (.p (.int .i64 1)))]),
        oM 94 96])
      (.cond (.t 94)
       (.seq (.reg [oJ 97 (.ld (some 4) (.t 3)),
         ⟨none,none,.st 4 (.t 2) (.t 97)⟩])
       (.ret))
       (.seq (.reg [oJ 99 (.ld (some 4) (.t 3)),
         oJ 100 (.call aP [(.t 99),(.c (.p (.int .i64 1)))]),
         oM 98 100])
       (.cond (.t 98)
        (.seq (.reg [oJ 101 (.ld (some 4) (.t 4)),
          ⟨none,none,.st 4 (.t 2) (.t 101)⟩])
        (.ret))
        (.seq (.seq (.reg [oJ 103 (.ld (some 4) (.t 4)),
          oJ 104 (.call aP [(.t 103),(.c (.p (.int .i64 0)))]),
          oM 105 104,
          ⟨(some 106),some (105,true),.ld (some 4) (.t 3)⟩,
          ⟨(some 107),some (105,true),.call dY [(.t 106)]⟩,
          oJ 108 (.pick (.t 105) (.t 107) (.c (.p (.bool false)))),
          oM 102 108])
        (.cond (.t 102)
         (.skip)
         (.reg [oJ 109 (.ld (some 4) (.t 3)),
           oJ 110 (.call aP [(.t 109),(.c (.p (.int .i64 0)))]),
           oM 111 110,
           ⟨(some 112),some (111,true),.ld (some 4) (.t 4)⟩,
           ⟨(some 113),some (111,true),.call dY [(.t 112)]⟩,
           oJ 114 (.pick (.t 111) (.t 113) (.c (.p (.bool false)))),
           oM 102 114])))
        (.cond (.t 102)
         (.seq (.reg [oJ 115 (.call cz [(.c (.p (.int .i64 0)))]),
           ⟨none,none,.st 4 (.t 2) (.t 115)⟩])
         (.ret))
         (.skip))))))))
      (.seq (.reg [oJ 117 (.bin .eql (.t 56) (.c (.p (.int .i64 6)))),
        oM 116 117])
      (.cond (.t 116)
       (.seq (.reg [oJ 118 (.ld (some 4) (.t 4)),
         oJ 119 (.call aP [(.t 118),(.c (.p (.int .i64 1)))])])
       (.cond (.t 119)
        (.seq (.reg [oJ 120 (.ld (some 4) (.t 3)),
          ⟨none,none,.st 4 (.t 2) (.t 120)⟩])
        (.ret))
        (.skip)))
       (.skip)))))))))))))))
 (.seq (.reg [oJ 121 (.ld (some 4) (.t 1)),
   ⟨none,none,.st 4 (.t 2) (.t 121)⟩])
 (.ret))))))⟩
theorem vu:ah Tryz.prog gW=some F_impl_foldPart:=by kernel_rfl
def uK:FK:=⟨9,[.c 2 (some 4)],
 .seq (.reg [oJ 1 (.box 4 (.t 0)),
  oJ 2 (.alloc [(.p (.int .i64 0)),(.p (.int .i64 0)),(.p (.str [])),.nils])])
 (.seq (.reg [oF 3 3 1,
   oL 4 3,
   oJ 5 (.call aR [(.t 4),(.c (.fn (.func iq) []))]),
   oF 6 3 1,
   oS 6 5])
 (.seq (.reg [oJ 7 (.ld (some 4) (.t 1)),
   oJ 8 (.call gW [(.t 7)]),
   ⟨none,none,.st 4 (.t 2) (.t 8)⟩])
 (.ret)))⟩
theorem BR:ah Tryz.prog iq=some uK:=by kernel_rfl
def fQ:FK:=⟨21,[.t 2],
 .seq (.reg [oJ 2 (.mov (.c .nils))])
 (.seq (.seq (.reg [oM 4 0,
   oJ 5 (.len false (.t 4)),
   oK 6 0])
 (.blk 0 (.loop (.seq (.reg [oJ 7 (.bin .lss (.t 6) (.t 5))])
 (.seq (.cond (.t 7)
  (.skip)
  (.exit 0))
 (.seq (.blk 1 (.seq (.reg [oM 8 6,
   oM 3 8])
 (.reg [oM 9 0,
   oM 10 3,
   oM 11 0,
   oM 12 3,
   oJ 13 (.idxS 5 (.t 11) (.t 12)),
   oF 14 2 13,
   oL 15 14,
   oJ 16 (.call aR [(.t 15),(.c (.fn (.func iq) []))]),
   oJ 17 (.idxS 5 (.t 9) (.t 10)),
   oF 18 2 17,
   oS 18 16])))
 (.reg [oJ 19 (.bin .add (.t 6) (.c (.p (.int .i64 1)))),
   oM 6 19])))))))
 (.seq (.reg [oM 20 0,
   oM 2 20])
 (.ret)))⟩
theorem jM:ah Tryz.prog be=some fQ:=by kernel_rfl
def ib:FK:=⟨10,[.c 2 (some 1),.t 3],
 .seq (.reg [oJ 1 (.box 1 (.t 0)),
  oJ 2 (.alloc [.nils]),
  oJ 3 (.mov (.c (.p (.bool false))))])
 (.seq (.seq (.reg [oJ 4 (.ld (some 1) (.t 1)),
   oJ 5 (.call jQ [(.t 4)]),
   oJ 6 (.not (.t 5))])
 (.cond (.t 6)
  (.seq (.reg [oJ 7 (.bld [.nils] []),
    oS 2 7,
    oJ 3 (.mov (.c (.p (.bool false))))])
  (.ret))
  (.skip)))
 (.seq (.reg [oJ 8 (.ld (some 1) (.t 1)),
   oJ 9 (.call cD [(.t 8),(.c (.fn (.func be) []))]),
   oS 2 9,
   oJ 3 (.mov (.c (.p (.bool true))))])
 (.ret)))⟩
theorem lb:ah Tryz.prog bP=some ib:=by kernel_rfl
def F_impl_cutBlock:FK:=⟨57,[.t 2],
 .seq (.reg [oJ 2 (.mov (.c .nils))])
 (.seq (.reg [oJ 3 (.mov (.c .nils))])
 (.seq (.seq (.reg [oM 6 0,
   oJ 7 (.len false (.t 6)),
   oK 8 0])
 (.blk 0 (.loop (.seq (.reg [oJ 9 (.bin .lss (.t 8) (.t 7))])
 (.seq (.cond (.t 9)
  (.skip)
  (.exit 0))
 (.seq (.blk 1 (.seq (.reg [oJ 10 (.idxS 5 (.t 6) (.t 8)),
   oJ 11 (.ld (some 5) (.t 10)),
   oJ 5 (.alloc [(.p (.int .i64 0)),(.p (.str [])),.nils,.nils,.nils]),
   ⟨none,none,.st 5 (.t 5) (.t 11)⟩])
 (.seq (.blk 2 (.seq (.reg [oF 13 0 5,
   oL 14 13,
   oJ 15 (.bin .eql (.t 14) (.c (.p (.int .i64 6)))),
   oM 16 15,
   ⟨(some 17),some (16,true),.fldA 2 (.t 5)⟩,
   ⟨(some 18),some (16,true),.ld none (.t 17)⟩,
   ⟨(some 19),some (16,true),.idxS 4 (.t 18) (.c (.p (.int .i64 0)))⟩,
   ⟨(some 20),some (16,true),.ld (some 4) (.t 19)⟩,
   ⟨(some 21),some (16,true),.call aP [(.t 20),(.c (.p (.int .i64 0)))]⟩,
   oJ 22 (.pick (.t 16) (.t 21) (.c (.p (.bool false)))),
   oM 12 22])
 (.cond (.t 12)
  (.exit 1)
  (.seq (.reg [oF 24 0 5,
    oL 25 24,
    oJ 26 (.bin .eql (.t 25) (.c (.p (.int .i64 5)))),
    oM 27 26,
    ⟨(some 28),some (27,true),.fldA 2 (.t 5)⟩,
    ⟨(some 29),some (27,true),.ld none (.t 28)⟩,
    ⟨(some 30),some (27,true),.idxS 4 (.t 29) (.c (.p (.int .i64 0)))⟩,
    ⟨(some 31),some (27,true),.ld (some 4) (.t 30)⟩,
    ⟨(some 32),some (27,true),.call aP [(.t 31),(.c (.p (.int .i64 0)))]⟩,
    oJ 33 (.pick (.t 27) (.t 32) (.c (.p (.bool false)))),
    oM 23 33])
  (.cond (.t 23)
   (.reg [oF 34 3 5,
     ⟨none,none,.st 1 (.t 34) (.c .nils)⟩])
   (.seq (.reg [oF 36 0 5,
     oL 37 36,
     oJ 38 (.bin .eql (.t 37) (.c (.p (.int .i64 5)))),
     oM 39 38,
     ⟨(some 40),some (39,true),.fldA 2 (.t 5)⟩,
     ⟨(some 41),some (39,true),.ld none (.t 40)⟩,
     ⟨(some 42),some (39,true),.idxS 4 (.t 41) (.c (.p (.int .i64 0)))⟩,
     ⟨(some 43),some (39,true),.fldA 0 (.t 42)⟩,
     ⟨(some 44),some (39,true),.ld none (.t 43)⟩,
     ⟨(some 45),some (39,true),.bin .eql (.t 44) (.c (.p (.int .i64 1)))⟩,
     oJ 46 (.pick (.t 39) (.t 45) (.c (.p (.bool false)))),
     oM 35 46])
   (.cond (.t 35)
    (.reg [oF 47 4 5,
      ⟨none,none,.st 1 (.t 47) (.c .nils)⟩])
    (.skip))))))))
 (.seq (.reg [oM 48 3,
   oJ 49 (.ld (some 5) (.t 5)),
   oJ 50 (.bsl 5 [(.p (.int .i64 0)),(.p (.str [])),.nils,.nils,.nils] 1 [(0,5,(.t 49))]),
   oJ 51 (.app 5 96 (.t 48) (.t 50)),
   oM 3 51])
 (.seq (.reg [oF 52 0 5,
   oL 53 52,
   oJ 54 (.bin .eql (.t 53) (.c (.p (.int .i64 7))))])
 (.cond (.t 54)
  (.exit 0)
  (.skip)))))))
 (.reg [oJ 55 (.bin .add (.t 8) (.c (.p (.int .i64 1)))),
   oM 8 55])))))))
 (.seq (.reg [oM 56 3,
   oM 2 56])
 (.ret))))⟩
theorem vn:ah Tryz.prog bv=some F_impl_cutBlock:=by kernel_rfl
def iM:FK:=⟨10,[.c 2 (some 1),.t 3],
 .seq (.reg [oJ 1 (.box 1 (.t 0)),
  oJ 2 (.alloc [.nils]),
  oJ 3 (.mov (.c (.p (.bool false))))])
 (.seq (.seq (.reg [oJ 4 (.ld (some 1) (.t 1)),
   oJ 5 (.call jQ [(.t 4)]),
   oJ 6 (.not (.t 5))])
 (.cond (.t 6)
  (.seq (.reg [oJ 7 (.bld [.nils] []),
    oS 2 7,
    oJ 3 (.mov (.c (.p (.bool false))))])
  (.ret))
  (.skip)))
 (.seq (.reg [oJ 8 (.ld (some 1) (.t 1)),
   oJ 9 (.call cD [(.t 8),(.c (.fn (.func bv) []))]),
   oS 2 9,
   oJ 3 (.mov (.c (.p (.bool true))))])
 (.ret)))⟩
theorem lV:ah Tryz.prog bz=some iM:=by kernel_rfl
def dP:FK:=⟨32,[.t 6],
 .seq (.reg [oJ 6 (.mov (.c (.p (.bool false))))])
 (.seq (.seq (.reg [oM 10 0,
   oJ 11 (.len false (.t 10)),
   oM 12 1,
   oJ 13 (.len false (.t 12)),
   oJ 14 (.bin .neq (.t 11) (.t 13))])
 (.cond (.t 14)
  (.seq (.reg [oJ 6 (.mov (.c (.p (.bool false))))])
  (.ret))
  (.skip)))
 (.seq (.seq (.reg [oM 15 0,
   oJ 16 (.len false (.t 15)),
   oK 17 0])
 (.blk 0 (.loop (.seq (.reg [oJ 18 (.bin .lss (.t 17) (.t 16))])
 (.seq (.cond (.t 18)
  (.skip)
  (.exit 0))
 (.seq (.blk 1 (.seq (.reg [oM 19 17,
   oJ 20 (.idxS 3 (.t 15) (.t 17)),
   oJ 21 (.ld (some 3) (.t 20)),
   oJ 8 (.alloc [(.p (.str [])),.nils,.nils]),
   oM 7 19,
   ⟨none,none,.st 3 (.t 8) (.t 21)⟩])
 (.seq (.reg [oM 22 1,
   oM 23 7,
   oJ 24 (.idxS 3 (.t 22) (.t 23)),
   oJ 25 (.ld (some 3) (.t 24)),
   oJ 9 (.alloc [(.p (.str [])),.nils,.nils]),
   ⟨none,none,.st 3 (.t 9) (.t 25)⟩])
 (.seq (.reg [oM 26 2,
   oJ 27 (.ld (some 3) (.t 8)),
   oJ 28 (.ld (some 3) (.t 9)),
   oJ 29 (.callv (.t 26) [(.t 27),(.t 28)]),
   oJ 30 (.not (.t 29))])
 (.cond (.t 30)
  (.seq (.reg [oJ 6 (.mov (.c (.p (.bool false))))])
  (.ret))
  (.skip))))))
 (.reg [oJ 31 (.bin .add (.t 17) (.c (.p (.int .i64 1)))),
   oM 17 31])))))))
 (.seq (.reg [oJ 6 (.mov (.c (.p (.bool true))))])
 (.ret))))⟩
theorem lg:ah Tryz.prog dI=some dP:=by kernel_rfl
def fD:FK:=⟨26,[.t 4],
 .seq (.reg [oJ 4 (.mov (.c (.p (.bool false))))])
 (.seq (.seq (.reg [oM 6 0,
   oJ 7 (.len false (.t 6)),
   oM 8 1,
   oJ 9 (.len false (.t 8)),
   oJ 10 (.bin .neq (.t 7) (.t 9))])
 (.cond (.t 10)
  (.seq (.reg [oJ 4 (.mov (.c (.p (.bool false))))])
  (.ret))
  (.skip)))
 (.seq (.seq (.reg [oM 11 0,
   oJ 12 (.len false (.t 11)),
   oK 13 0])
 (.blk 0 (.loop (.seq (.reg [oJ 14 (.bin .lss (.t 13) (.t 12))])
 (.seq (.cond (.t 14)
  (.skip)
  (.exit 0))
 (.seq (.blk 1 (.seq (.reg [oM 15 13,
   oM 5 15])
 (.seq (.reg [oM 16 0,
   oM 17 5,
   oJ 18 (.idxS 1 (.t 16) (.t 17)),
   oM 20 1,
   oM 21 5,
   oJ 22 (.idxS 1 (.t 20) (.t 21)),
   oL 19 18,
   oL 23 22,
   oJ 24 (.bins .neq (.t 19) (.t 23))])
 (.cond (.t 24)
  (.seq (.reg [oJ 4 (.mov (.c (.p (.bool false))))])
  (.ret))
  (.skip)))))
 (.reg [oJ 25 (.bin .add (.t 13) (.c (.p (.int .i64 1)))),
   oM 13 25])))))))
 (.seq (.reg [oJ 4 (.mov (.c (.p (.bool true))))])
 (.ret))))⟩
theorem oQ:ah Tryz.prog fz=some fD:=by kernel_rfl
def dk:FK:=⟨32,[.t 6],
 .seq (.reg [oJ 6 (.mov (.c (.p (.bool false))))])
 (.seq (.seq (.reg [oM 10 0,
   oJ 11 (.len false (.t 10)),
   oM 12 1,
   oJ 13 (.len false (.t 12)),
   oJ 14 (.bin .neq (.t 11) (.t 13))])
 (.cond (.t 14)
  (.seq (.reg [oJ 6 (.mov (.c (.p (.bool false))))])
  (.ret))
  (.skip)))
 (.seq (.seq (.reg [oM 15 0,
   oJ 16 (.len false (.t 15)),
   oK 17 0])
 (.blk 0 (.loop (.seq (.reg [oJ 18 (.bin .lss (.t 17) (.t 16))])
 (.seq (.cond (.t 18)
  (.skip)
  (.exit 0))
 (.seq (.blk 1 (.seq (.reg [oM 19 17,
   oJ 20 (.idxS 5 (.t 15) (.t 17)),
   oJ 21 (.ld (some 5) (.t 20)),
   oJ 8 (.alloc [(.p (.int .i64 0)),(.p (.str [])),.nils,.nils,.nils]),
   oM 7 19,
   ⟨none,none,.st 5 (.t 8) (.t 21)⟩])
 (.seq (.reg [oM 22 1,
   oM 23 7,
   oJ 24 (.idxS 5 (.t 22) (.t 23)),
   oJ 25 (.ld (some 5) (.t 24)),
   oJ 9 (.alloc [(.p (.int .i64 0)),(.p (.str [])),.nils,.nils,.nils]),
   ⟨none,none,.st 5 (.t 9) (.t 25)⟩])
 (.seq (.reg [oM 26 2,
   oJ 27 (.ld (some 5) (.t 8)),
   oJ 28 (.ld (some 5) (.t 9)),
   oJ 29 (.callv (.t 26) [(.t 27),(.t 28)]),
   oJ 30 (.not (.t 29))])
 (.cond (.t 30)
  (.seq (.reg [oJ 6 (.mov (.c (.p (.bool false))))])
  (.ret))
  (.skip))))))
 (.reg [oJ 31 (.bin .add (.t 17) (.c (.p (.int .i64 1)))),
   oM 17 31])))))))
 (.seq (.reg [oJ 6 (.mov (.c (.p (.bool true))))])
 (.ret))))⟩
theorem ka:ah Tryz.prog bl=some dk:=by kernel_rfl
def dh:FK:=⟨32,[.t 6],
 .seq (.reg [oJ 6 (.mov (.c (.p (.bool false))))])
 (.seq (.seq (.reg [oM 10 0,
   oJ 11 (.len false (.t 10)),
   oM 12 1,
   oJ 13 (.len false (.t 12)),
   oJ 14 (.bin .neq (.t 11) (.t 13))])
 (.cond (.t 14)
  (.seq (.reg [oJ 6 (.mov (.c (.p (.bool false))))])
  (.ret))
  (.skip)))
 (.seq (.seq (.reg [oM 15 0,
   oJ 16 (.len false (.t 15)),
   oK 17 0])
 (.blk 0 (.loop (.seq (.reg [oJ 18 (.bin .lss (.t 17) (.t 16))])
 (.seq (.cond (.t 18)
  (.skip)
  (.exit 0))
 (.seq (.blk 1 (.seq (.reg [oM 19 17,
   oJ 20 (.idxS 4 (.t 15) (.t 17)),
   oJ 21 (.ld (some 4) (.t 20)),
   oJ 8 (.alloc [(.p (.int .i64 0)),(.p (.int .i64 0)),(.p (.str [])),.nils]),
   oM 7 19,
   ⟨none,none,.st 4 (.t 8) (.t 21)⟩])
 (.seq (.reg [oM 22 1,
   oM 23 7,
   oJ 24 (.idxS 4 (.t 22) (.t 23)),
   oJ 25 (.ld (some 4) (.t 24)),
   oJ 9 (.alloc [(.p (.int .i64 0)),(.p (.int .i64 0)),(.p (.str [])),.nils]),
   ⟨none,none,.st 4 (.t 9) (.t 25)⟩])
 (.seq (.reg [oM 26 2,
   oJ 27 (.ld (some 4) (.t 8)),
   oJ 28 (.ld (some 4) (.t 9)),
   oJ 29 (.callv (.t 26) [(.t 27),(.t 28)]),
   oJ 30 (.not (.t 29))])
 (.cond (.t 30)
  (.seq (.reg [oJ 6 (.mov (.c (.p (.bool false))))])
  (.ret))
  (.skip))))))
 (.reg [oJ 31 (.bin .add (.t 17) (.c (.p (.int .i64 1)))),
   oM 17 31])))))))
 (.seq (.reg [oJ 6 (.mov (.c (.p (.bool true))))])
 (.ret))))⟩
theorem ki:ah Tryz.prog bE=some dh:=by kernel_rfl
def fg:FK:=⟨31,[.t 4],
 .seq (.reg [oJ 2 (.box 4 (.t 0)),
  oJ 3 (.box 4 (.t 1)),
  oJ 4 (.mov (.c (.p (.bool false))))])
 (.seq (.reg [oF 5 0 2,
   oL 6 5,
   oF 7 0 3,
   oL 8 7,
   oJ 9 (.bin .eql (.t 6) (.t 8)),
   oM 10 9,
   ⟨(some 11),some (10,true),.fldA 1 (.t 2)⟩,
   ⟨(some 12),some (10,true),.ld none (.t 11)⟩,
   ⟨(some 13),some (10,true),.fldA 1 (.t 3)⟩,
   ⟨(some 14),some (10,true),.ld none (.t 13)⟩,
   ⟨(some 15),some (10,true),.bin .eql (.t 12) (.t 14)⟩,
   oJ 16 (.pick (.t 10) (.t 15) (.c (.p (.bool false)))),
   oM 17 16,
   ⟨(some 18),some (17,true),.fldA 2 (.t 2)⟩,
   ⟨(some 19),some (17,true),.ld none (.t 18)⟩,
   ⟨(some 20),some (17,true),.fldA 2 (.t 3)⟩,
   ⟨(some 21),some (17,true),.ld none (.t 20)⟩,
   ⟨(some 22),some (17,true),.bins .eql (.t 19) (.t 21)⟩,
   oJ 23 (.pick (.t 17) (.t 22) (.c (.p (.bool false)))),
   oM 24 23,
   ⟨(some 25),some (24,true),.fldA 3 (.t 2)⟩,
   ⟨(some 26),some (24,true),.ld none (.t 25)⟩,
   ⟨(some 27),some (24,true),.fldA 3 (.t 3)⟩,
   ⟨(some 28),some (24,true),.ld none (.t 27)⟩,
   ⟨(some 29),some (24,true),.call bE [(.t 26),(.t 28),(.c (.fn (.func dq) []))]⟩,
   oJ 30 (.pick (.t 24) (.t 29) (.c (.p (.bool false)))),
   oM 4 30])
 (.ret))⟩
theorem uW:ah Tryz.prog dq=some fg:=by kernel_rfl
def gZ:FK:=⟨38,[.t 4],
 .seq (.reg [oJ 2 (.box 5 (.t 0)),
  oJ 3 (.box 5 (.t 1)),
  oJ 4 (.mov (.c (.p (.bool false))))])
 (.seq (.reg [oF 5 0 2,
   oL 6 5,
   oF 7 0 3,
   oL 8 7,
   oJ 9 (.bin .eql (.t 6) (.t 8)),
   oM 10 9,
   ⟨(some 11),some (10,true),.fldA 1 (.t 2)⟩,
   ⟨(some 12),some (10,true),.ld none (.t 11)⟩,
   ⟨(some 13),some (10,true),.fldA 1 (.t 3)⟩,
   ⟨(some 14),some (10,true),.ld none (.t 13)⟩,
   ⟨(some 15),some (10,true),.bins .eql (.t 12) (.t 14)⟩,
   oJ 16 (.pick (.t 10) (.t 15) (.c (.p (.bool false)))),
   oM 17 16,
   ⟨(some 18),some (17,true),.fldA 2 (.t 2)⟩,
   ⟨(some 19),some (17,true),.ld none (.t 18)⟩,
   ⟨(some 20),some (17,true),.fldA 2 (.t 3)⟩,
   ⟨(some 21),some (17,true),.ld none (.t 20)⟩,
   ⟨(some 22),some (17,true),.call bE [(.t 19),(.t 21),(.c (.fn (.func dq) []))]⟩,
   oJ 23 (.pick (.t 17) (.t 22) (.c (.p (.bool false)))),
   oM 24 23,
   ⟨(some 25),some (24,true),.fldA 3 (.t 2)⟩,
   ⟨(some 26),some (24,true),.ld none (.t 25)⟩,
   ⟨(some 27),some (24,true),.fldA 3 (.t 3)⟩,
   ⟨(some 28),some (24,true),.ld none (.t 27)⟩,
   ⟨(some 29),some (24,true),.call bl [(.t 26),(.t 28),(.c (.fn (.func cL) []))]⟩,
   oJ 30 (.pick (.t 24) (.t 29) (.c (.p (.bool false)))),
   oM 31 30,
   ⟨(some 32),some (31,true),.fldA 4 (.t 2)⟩,
   ⟨(some 33),some (31,true),.ld none (.t 32)⟩,
   ⟨(some 34),some (31,true),.fldA 4 (.t 3)⟩,
   ⟨(some 35),some (31,true),.ld none (.t 34)⟩,
   ⟨(some 36),some (31,true),.call bl [(.t 33),(.t 35),(.c (.fn (.func cL) []))]⟩,
   oJ 37 (.pick (.t 31) (.t 36) (.c (.p (.bool false)))),
   oM 4 37])
 (.ret))⟩
theorem vg:ah Tryz.prog cL=some gZ:=by kernel_rfl
def fG:FK:=⟨24,[.t 4],
 .seq (.reg [oJ 2 (.box 3 (.t 0)),
  oJ 3 (.box 3 (.t 1)),
  oJ 4 (.mov (.c (.p (.bool false))))])
 (.seq (.reg [oF 5 0 2,
   oL 6 5,
   oF 7 0 3,
   oL 8 7,
   oJ 9 (.bins .eql (.t 6) (.t 8)),
   oM 10 9,
   ⟨(some 11),some (10,true),.fldA 1 (.t 2)⟩,
   ⟨(some 12),some (10,true),.ld none (.t 11)⟩,
   ⟨(some 13),some (10,true),.fldA 1 (.t 3)⟩,
   ⟨(some 14),some (10,true),.ld none (.t 13)⟩,
   ⟨(some 15),some (10,true),.call fz [(.t 12),(.t 14)]⟩,
   oJ 16 (.pick (.t 10) (.t 15) (.c (.p (.bool false)))),
   oM 17 16,
   ⟨(some 18),some (17,true),.fldA 2 (.t 2)⟩,
   ⟨(some 19),some (17,true),.ld none (.t 18)⟩,
   ⟨(some 20),some (17,true),.fldA 2 (.t 3)⟩,
   ⟨(some 21),some (17,true),.ld none (.t 20)⟩,
   ⟨(some 22),some (17,true),.call bl [(.t 19),(.t 21),(.c (.fn (.func cL) []))]⟩,
   oJ 23 (.pick (.t 17) (.t 22) (.c (.p (.bool false)))),
   oM 4 23])
 (.ret))⟩
theorem oI:ah Tryz.prog dR=some fG:=by kernel_rfl
def kA:FK:=⟨10,[.t 4],
 .seq (.reg [oJ 2 (.box 1 (.t 0)),
  oJ 3 (.box 1 (.t 1)),
  oJ 4 (.mov (.c (.p (.bool false))))])
 (.seq (.reg [oF 5 0 2,
   oL 6 5,
   oF 7 0 3,
   oL 8 7,
   oJ 9 (.call dI [(.t 6),(.t 8),(.c (.fn (.func dR) []))]),
   oM 4 9])
 (.ret))⟩
theorem qC:ah Tryz.prog bI=some kA:=by kernel_rfl
def fx:FK:=⟨35,[.c 2 (some 1),.t 3],
 .seq (.reg [oJ 1 (.box 1 (.t 0)),
  oJ 2 (.alloc [.nils]),
  oJ 3 (.mov (.c (.p (.bool false))))])
 (.seq (.seq (.reg [oJ 7 (.ld (some 1) (.t 1)),
   oJ 8 (.call jQ [(.t 7)]),
   oJ 9 (.not (.t 8))])
 (.cond (.t 9)
  (.seq (.reg [oJ 10 (.bld [.nils] []),
    oS 2 10,
    oJ 3 (.mov (.c (.p (.bool false))))])
  (.ret))
  (.skip)))
 (.seq (.reg [oJ 11 (.ld (some 1) (.t 1)),
   oJ 12 (.call gx [(.t 11)]),
   oJ 4 (.alloc [.nils]),
   oS 4 12])
 (.blk 0 (.loop (.seq (.blk 1 (.seq (.reg [oJ 14 (.ld (some 1) (.t 4)),
   oJ 15 (.call bP [(.t 14)]),
   oM 13 15,
   oJ 16 (.ext 0 (.t 13)),
   oJ 17 (.ext 1 (.t 13)),
   oJ 5 (.alloc [.nils]),
   oS 5 16,
   oM 6 17])
 (.seq (.seq (.reg [oM 18 6])
 (.cond (.t 18)
  (.reg [oJ 20 (.ld (some 1) (.t 5)),
    oJ 21 (.call bz [(.t 20)]),
    oM 19 21,
    oJ 22 (.ext 0 (.t 19)),
    oJ 23 (.ext 1 (.t 19)),
    oS 5 22,
    oM 6 23])
  (.skip)))
 (.seq (.seq (.reg [oM 24 6,
   oJ 25 (.not (.t 24)),
   oM 26 25,
   ⟨(some 27),some (26,false),.ld (some 1) (.t 5)⟩,
   ⟨(some 28),some (26,false),.ld (some 1) (.t 4)⟩,
   ⟨(some 29),some (26,false),.call bI [(.t 27),(.t 28)]⟩,
   oJ 30 (.pick (.t 26) (.c (.p (.bool true))) (.t 29))])
 (.cond (.t 30)
  (.seq (.reg [oJ 31 (.ld (some 1) (.t 4)),
    oM 32 6,
    oS 2 31,
    oM 3 32])
  (.ret))
  (.skip)))
 (.reg [oJ 33 (.ld (some 1) (.t 5)),
   oS 4 33])))))
 (.seq (.reg [oJ 34 (.ld (some 1) (.t 4))])
 (.reg [oJ 4 (.alloc [.nils]),
   oS 4 34])))))))⟩
theorem jb:ah Tryz.prog cR=some fx:=by kernel_rfl
def ou:FK:=⟨16,[.t 2],
 .seq (.reg [oJ 1 (.box 1 (.t 0)),
  oJ 2 (.mov (.c (.p (.bool false))))])
 (.seq (.reg [oJ 6 (.ld (some 1) (.t 1)),
   oJ 7 (.call cR [(.t 6)]),
   oM 5 7,
   oJ 8 (.ext 0 (.t 5)),
   oJ 9 (.ext 1 (.t 5)),
   oJ 3 (.alloc [.nils]),
   oS 3 8,
   oM 4 9])
 (.seq (.reg [oM 10 4,
   oM 11 10,
   ⟨(some 12),some (11,true),.ld (some 1) (.t 1)⟩,
   ⟨(some 13),some (11,true),.ld (some 1) (.t 3)⟩,
   ⟨(some 14),some (11,true),.call bI [(.t 12),(.t 13)]⟩,
   oJ 15 (.pick (.t 11) (.t 14) (.c (.p (.bool false)))),
   oM 2 15])
 (.ret)))⟩
theorem vq:ah Tryz.prog kg=some ou:=by kernel_rfl
def pf:FK:=⟨11,[.t 2],
 .seq (.reg [oJ 2 (.mov (.c .nilp))])
 (.seq (.seq (.reg [oM 3 0,
   oJ 4 (.len false (.t 3)),
   oJ 5 (.bin .gtr (.t 4) (.c (.p (.int .i64 2000))))])
 (.cond (.t 5)
  (.reg [oM 6 0,
    oJ 7 (.slS 1 (.t 6) none (some (.c (.p (.int .i64 2000))))),
    oM 0 7])
  (.skip)))
 (.seq (.reg [oM 8 0,
   oJ 9 (.bld [.nils,(.p (.int .i64 0))] [(0,1,(.t 8))]),
   oJ 10 (.box 2 (.t 9)),
   oM 2 10])
 (.ret)))⟩
theorem wE:ah Tryz.prog iT=some pf:=by kernel_rfl
def fK:FK:=⟨99,[.t 4],
 .seq (.reg [oK 4 0])
 (.seq (.reg [oM 7 0,
   oM 8 0,
   oN 9 8,
   oF 10 1 9,
   oL 11 10,
   oJ 12 (.bin .add (.t 11) (.c (.p (.int .i64 1)))),
   oN 13 7,
   oF 14 1 13,
   oS 14 12])
 (.seq (.seq (.reg [oM 15 1,
   oJ 16 (.bin .lss (.t 15) (.c (.p (.int .i64 1)))),
   oM 17 16,
   ⟨(some 18),some (17,false),.mov (.t 0)⟩,
   ⟨(some 19),some (17,false),.nilck (.t 18)⟩,
   ⟨(some 20),some (17,false),.fldA 0 (.t 19)⟩,
   ⟨(some 21),some (17,false),.ld none (.t 20)⟩,
   ⟨(some 22),some (17,false),.len false (.t 21)⟩,
   ⟨(some 23),some (17,false),.bin .eql (.t 22) (.c (.p (.int .i64 0)))⟩,
   oJ 24 (.pick (.t 17) (.c (.p (.bool true))) (.t 23))])
 (.cond (.t 24)
  (.seq (.reg [oK 4 0])
  (.ret))
  (.skip)))
 (.seq (.reg [oM 25 0,
   oN 26 25,
   oF 27 1 26,
   oL 28 27,
   oJ 29 (.bin .sub (.t 28) (.c (.p (.int .i64 1)))),
   oM 5 29])
 (.seq (.seq (.reg [oM 30 5,
   oM 31 0,
   oN 32 31,
   oF 33 0 32,
   oL 34 33,
   oJ 35 (.len false (.t 34)),
   oJ 36 (.bin .lss (.t 30) (.t 35))])
 (.cond (.t 36)
  (.seq (.reg [oM 37 0,
    oN 38 37,
    oF 39 0 38,
    oL 40 39,
    oM 41 5,
    oJ 42 (.idxS 1 (.t 40) (.t 41)),
    oL 43 42,
    oJ 44 (.conv .i64 (.t 43)),
    oM 45 1,
    oJ 46 (.bin .rem (.t 44) (.t 45)),
    oM 4 46])
  (.ret))
  (.skip)))
 (.seq (.reg [oM 47 0,
   oN 48 47,
   oF 49 0 48,
   oM 51 5,
   oM 52 0,
   oN 53 52,
   oF 54 0 53,
   oM 62 0,
   oN 63 62,
   oF 64 0 63,
   oM 66 5,
   oJ 67 (.bin .mul (.t 66) (.c (.p (.int .i64 7)))),
   oJ 68 (.bin .add (.t 67) (.c (.p (.int .i64 3)))),
   oM 69 0,
   oN 70 69,
   oF 71 0 70,
   oM 80 5,
   oJ 81 (.bin .mul (.t 80) (.c (.p (.int .i64 29)))),
   oM 83 5,
   oM 84 0,
   oN 85 84,
   oF 86 0 85,
   oL 50 49,
   oL 55 54,
   oJ 56 (.len false (.t 55)),
   oJ 57 (.bin .rem (.t 51) (.t 56)),
   oJ 58 (.idxS 1 (.t 50) (.t 57)),
   oL 59 58,
   oJ 60 (.conv .i64 (.t 59)),
   oJ 61 (.bin .mul (.t 60) (.c (.p (.int .i64 131)))),
   oL 65 64,
   oL 72 71,
   oJ 73 (.len false (.t 72)),
   oJ 74 (.bin .rem (.t 68) (.t 73)),
   oJ 75 (.idxS 1 (.t 65) (.t 74)),
   oL 76 75,
   oJ 77 (.conv .i64 (.t 76)),
   oJ 78 (.bin .mul (.t 77) (.c (.p (.int .i64 1117)))),
   oJ 79 (.bin .add (.t 61) (.t 78)),
   oJ 82 (.bin .add (.t 79) (.t 81)),
   oL 87 86,
   oJ 88 (.len false (.t 87)),
   oJ 89 (.bin .quo (.t 83) (.t 88)),
   oJ 90 (.bin .mul (.t 89) (.c (.p (.int .i64 53)))),
   oJ 91 (.bin .add (.t 82) (.t 90)),
   oM 6 91])
 (.seq (.reg [oM 92 6,
   oM 93 6,
   oJ 94 (.bin .quo (.t 93) (.c (.p (.int .i64 64)))),
   oJ 95 (.bin .xor (.t 92) (.t 94)),
   oM 6 95])
 (.seq (.reg [oM 96 6,
   oM 97 1,
   oJ 98 (.bin .rem (.t 96) (.t 97)),
   oM 4 98])
 (.ret))))))))⟩
theorem sD:ah Tryz.prog ab=some fK:=by kernel_rfl
def jl:FK:=⟨12,[.t 4],
 .seq (.reg [oK 4 0])
 (.seq (.reg [oM 5 1,
   oM 6 0,
   oM 7 1,
   oJ 8 (.len false (.t 7)),
   oJ 9 (.call ab [(.t 6),(.t 8)]),
   oJ 10 (.idxS 1 (.t 5) (.t 9)),
   oL 11 10,
   oM 4 11])
 (.ret))⟩
theorem mW:ah Tryz.prog al=some jl:=by kernel_rfl
def kb:FK:=⟨12,[.t 4],
 .seq (.reg [oJ 4 (.mov (.c (.p (.str []))))])
 (.seq (.reg [oM 5 1,
   oM 6 0,
   oM 7 1,
   oJ 8 (.len false (.t 7)),
   oJ 9 (.call ab [(.t 6),(.t 8)]),
   oJ 10 (.idxS 1 (.t 5) (.t 9)),
   oL 11 10,
   oM 4 11])
 (.ret))⟩
theorem od:ah Tryz.prog aL=some kb:=by kernel_rfl
def gI:FK:=⟨21,[.c 4 (some 4)],
 .seq (.reg [oJ 4 (.alloc [(.p (.int .i64 0)),(.p (.int .i64 0)),(.p (.str [])),.nils])])
 (.seq (.seq (.reg [oM 5 1,
   oJ 6 (.len false (.t 5)),
   oJ 7 (.bin .eql (.t 6) (.c (.p (.int .i64 0)))),
   oM 8 7,
   ⟨(some 9),some (8,false),.mov (.t 0)⟩,
   ⟨(some 10),some (8,false),.call ab [(.t 9),(.c (.p (.int .i64 3)))]⟩,
   ⟨(some 11),some (8,false),.bin .eql (.t 10) (.c (.p (.int .i64 0)))⟩,
   oJ 12 (.pick (.t 8) (.c (.p (.bool true))) (.t 11))])
 (.cond (.t 12)
  (.seq (.reg [oM 13 0,
    oJ 14 (.bsl 1 [(.p (.int .i64 0))] 10 [(0,1,(.c (.p (.int .i64 0)))),(1,1,(.c (.p (.int .i64 1)))),(2,1,(.c (.p (.int .i64 2)))),(3,1,(.c (.p (.int .i64 3)))),(4,1,(.c (.p (.int .i64 5)))),(5,1,(.c (.p (.int .i64 7)))),(6,1,(.c (.p (.int .i64 15)))),(7,1,(.c (.p (.int .i64 16)))),(8,1,(.c (.p (.int .i64 100)))),(9,1,(.c (.p (.int .i64 255))))]),
    oJ 15 (.call al [(.t 13),(.t 14)]),
    oJ 16 (.bld [(.p (.int .i64 0)),(.p (.int .i64 0)),(.p (.str [])),.nils] [(0,1,(.c (.p (.int .i64 1)))),(1,1,(.t 15))]),
    ⟨none,none,.st 4 (.t 4) (.t 16)⟩])
  (.ret))
  (.skip)))
 (.seq (.reg [oM 17 0,
   oM 18 1,
   oJ 19 (.call aL [(.t 17),(.t 18)]),
   oJ 20 (.bld [(.p (.int .i64 0)),(.p (.int .i64 0)),(.p (.str [])),.nils] [(0,1,(.c (.p (.int .i64 2)))),(2,1,(.t 19))]),
   ⟨none,none,.st 4 (.t 4) (.t 20)⟩])
 (.ret)))⟩
theorem rk:ah Tryz.prog eD=some gI:=by kernel_rfl
def fq:FK:=⟨47,[.c 6 (some 4)],
 .seq (.reg [oJ 6 (.alloc [(.p (.int .i64 0)),(.p (.int .i64 0)),(.p (.str [])),.nils])])
 (.seq (.seq (.reg [oM 8 2,
   oJ 9 (.bin .lss (.t 8) (.c (.p (.int .i64 2)))),
   oM 10 9,
   ⟨(some 11),some (10,false),.mov (.t 0)⟩,
   ⟨(some 12),some (10,false),.call ab [(.t 11),(.c (.p (.int .i64 4)))]⟩,
   ⟨(some 13),some (10,false),.bin .eql (.t 12) (.c (.p (.int .i64 0)))⟩,
   oJ 14 (.pick (.t 10) (.c (.p (.bool true))) (.t 13))])
 (.cond (.t 14)
  (.seq (.reg [oM 15 0,
    oM 16 1,
    oJ 17 (.call eD [(.t 15),(.t 16)]),
    ⟨none,none,.st 4 (.t 6) (.t 17)⟩])
  (.ret))
  (.skip)))
 (.seq (.seq (.reg [oM 18 0,
   oJ 19 (.call ab [(.t 18),(.c (.p (.int .i64 7)))]),
   oJ 20 (.bin .eql (.t 19) (.c (.p (.int .i64 0))))])
 (.cond (.t 20)
  (.seq (.reg [oM 21 0,
    oJ 22 (.bsl 1 [(.p (.int .i64 0))] 3 [(0,1,(.c (.p (.int .i64 11)))),(1,1,(.c (.p (.int .i64 12)))),(2,1,(.c (.p (.int .i64 11))))]),
    oJ 23 (.call al [(.t 21),(.t 22)]),
    oM 24 0,
    oM 25 1,
    oM 26 2,
    oJ 27 (.bin .sub (.t 26) (.c (.p (.int .i64 1)))),
    oJ 28 (.call bA [(.t 24),(.t 25),(.t 27)]),
    oJ 29 (.bsl 4 [(.p (.int .i64 0)),(.p (.int .i64 0)),(.p (.str [])),.nils] 1 [(0,4,(.t 28))]),
    oJ 30 (.bld [(.p (.int .i64 0)),(.p (.int .i64 0)),(.p (.str [])),.nils] [(0,1,(.t 23)),(3,1,(.t 29))]),
    ⟨none,none,.st 4 (.t 6) (.t 30)⟩])
  (.ret))
  (.skip)))
 (.seq (.reg [oM 31 0,
   oJ 32 (.bsl 1 [(.p (.int .i64 0))] 9 [(0,1,(.c (.p (.int .i64 3)))),(1,1,(.c (.p (.int .i64 3)))),(2,1,(.c (.p (.int .i64 4)))),(3,1,(.c (.p (.int .i64 5)))),(4,1,(.c (.p (.int .i64 6)))),(5,1,(.c (.p (.int .i64 7)))),(6,1,(.c (.p (.int .i64 8)))),(7,1,(.c (.p (.int .i64 9)))),(8,1,(.c (.p (.int .i64 10))))]),
   oJ 33 (.call al [(.t 31),(.t 32)]),
   oM 7 33])
 (.seq (.reg [oM 34 7,
   oM 35 0,
   oM 36 1,
   oM 37 2,
   oJ 38 (.bin .sub (.t 37) (.c (.p (.int .i64 1)))),
   oJ 39 (.call bA [(.t 35),(.t 36),(.t 38)]),
   oM 40 0,
   oM 41 1,
   oM 42 2,
   oJ 43 (.bin .sub (.t 42) (.c (.p (.int .i64 1)))),
   oJ 44 (.call bA [(.t 40),(.t 41),(.t 43)]),
   oJ 45 (.bsl 4 [(.p (.int .i64 0)),(.p (.int .i64 0)),(.p (.str [])),.nils] 2 [(0,4,(.t 39)),(4,4,(.t 44))]),
   oJ 46 (.bld [(.p (.int .i64 0)),(.p (.int .i64 0)),(.p (.str [])),.nils] [(0,1,(.t 34)),(3,1,(.t 45))]),
   ⟨none,none,.st 4 (.t 6) (.t 46)⟩])
 (.ret)))))⟩
theorem mF:ah Tryz.prog bA=some fq:=by kernel_rfl
def lS:FK:=⟨99,[.c 4 (some 4)],
 .seq (.reg [oJ 4 (.alloc [(.p (.int .i64 0)),(.p (.int .i64 0)),(.p (.str [])),.nils])])
 (.seq (.reg [oJ 5 (.mov (.c .any)),
   oM 9 0,
   oN 10 9,
   oF 11 0 10,
   oM 13 0,
   oN 14 13,
   oF 15 2 14,
   oM 17 1,
   oL 12 11,
   oL 16 15,
   oJ 18 (.call bA [(.t 12),(.t 16),(.t 17)]),
   oJ 5 (.alloc [(.p (.int .i64 0)),(.p (.int .i64 0)),(.p (.str [])),.nils]),
   ⟨none,none,.st 4 (.t 5) (.t 18)⟩])
 (.seq (.seq (.reg [oM 19 0,
   oN 20 19,
   oF 21 1 20,
   oL 22 21,
   oJ 23 (.len false (.t 22)),
   oJ 24 (.bin .eql (.t 23) (.c (.p (.int .i64 0)))),
   oM 25 24,
   ⟨(some 26),some (25,false),.mov (.t 0)⟩,
   ⟨(some 27),some (25,false),.nilck (.t 26)⟩,
   ⟨(some 28),some (25,false),.fldA 0 (.t 27)⟩,
   ⟨(some 29),some (25,false),.ld none (.t 28)⟩,
   ⟨(some 30),some (25,false),.call ab [(.t 29),(.c (.p (.int .i64 4)))]⟩,
   ⟨(some 31),some (25,false),.bin .gtr (.t 30) (.c (.p (.int .i64 0)))⟩,
   oJ 32 (.pick (.t 25) (.c (.p (.bool true))) (.t 31))])
 (.cond (.t 32)
  (.seq (.reg [oJ 33 (.ld (some 4) (.t 5)),
    ⟨none,none,.st 4 (.t 4) (.t 33)⟩])
  (.ret))
  (.skip)))
 (.seq (.reg [oJ 6 (.mov (.c .any)),
   oM 34 0,
   oN 35 34,
   oF 36 1 35,
   oM 38 0,
   oN 39 38,
   oF 40 0 39,
   oM 42 0,
   oN 43 42,
   oF 44 1 43,
   oL 37 36,
   oL 41 40,
   oL 45 44,
   oJ 46 (.len false (.t 45)),
   oJ 47 (.call ab [(.t 41),(.t 46)]),
   ⟨none,none,.chk none 36 37⟩,
   oJ 48 (.idxS 3 (.t 37) (.t 47)),
   oJ 49 (.ld (some 3) (.t 48)),
   oJ 6 (.alloc [(.p (.str [])),.nils,.nils]),
   ⟨none,none,.st 3 (.t 6) (.t 49)⟩])
 (.seq (.reg [oF 50 0 6,
   oL 51 50,
   oJ 52 (.bld [(.p (.int .i64 0)),(.p (.int .i64 0)),(.p (.str [])),.nils] [(0,1,(.c (.p (.int .i64 13)))),(2,1,(.t 51))]),
   oJ 7 (.alloc [(.p (.int .i64 0)),(.p (.int .i64 0)),(.p (.str [])),.nils]),
   ⟨none,none,.st 4 (.t 7) (.t 52)⟩])
 (.seq (.seq (.reg [oK 8 0])
 (.blk 0 (.loop (.seq (.seq (.reg [oM 53 8,
   oF 54 1 6,
   oL 55 54,
   oJ 56 (.len false (.t 55)),
   oJ 57 (.bin .lss (.t 53) (.t 56))])
 (.cond (.t 57)
  (.skip)
  (.exit 0)))
 (.seq (.blk 1 (.reg [oF 60 3 7,
   oM 62 0,
   oN 63 62,
   oF 64 0 63,
   oM 66 0,
   oN 67 66,
   oF 68 2 67,
   oL 61 60,
   oL 65 64,
   oL 69 68,
   oJ 70 (.call bA [(.t 65),(.t 69),(.c (.p (.int .i64 2)))]),
   ⟨none,none,.chk none 60 61⟩,
   oJ 71 (.bslP 4 [(.p (.int .i64 0)),(.p (.int .i64 0)),(.p (.str [])),.nils] 1 [(0,4,(.t 70))]),
   oJ 72 (.app 4 56 (.t 61) (.t 71)),
   oF 73 3 7,
   oS 73 72]))
 (.reg [oM 58 8,
   oJ 59 (.bin .add (.t 58) (.c (.p (.int .i64 1)))),
   oM 8 59]))))))
 (.seq (.seq (.reg [oM 74 0,
   oN 75 74,
   oF 76 0 75,
   oL 77 76,
   oJ 78 (.call ab [(.t 77),(.c (.p (.int .i64 2)))]),
   oJ 79 (.bin .eql (.t 78) (.c (.p (.int .i64 0))))])
 (.cond (.t 79)
  (.seq (.reg [oJ 80 (.ld (some 4) (.t 7)),
    ⟨none,none,.st 4 (.t 4) (.t 80)⟩])
  (.ret))
  (.skip)))
 (.seq (.reg [oM 81 0,
   oN 82 81,
   oF 83 0 82,
   oJ 85 (.bslP 1 [(.p (.int .i64 0))] 4 [(0,1,(.c (.p (.int .i64 3)))),(1,1,(.c (.p (.int .i64 4)))),(2,1,(.c (.p (.int .i64 8)))),(3,1,(.c (.p (.int .i64 10))))]),
   oM 88 0,
   oN 89 88,
   oF 90 0 89,
   oM 92 0,
   oN 93 92,
   oF 94 2 93,
   oL 84 83,
   oJ 87 (.ld (some 4) (.t 7)),
   oL 91 90,
   oL 95 94,
   oJ 86 (.call al [(.t 84),(.t 85)]),
   ⟨none,none,.chk (some 4) 7 87⟩,
   ⟨none,none,.chk none 90 91⟩,
   ⟨none,none,.chk none 94 95⟩,
   oJ 96 (.call bA [(.t 91),(.t 95),(.c (.p (.int .i64 2)))]),
   ⟨none,none,.chk (some 4) 7 87⟩,
   oJ 97 (.bsl 4 [(.p (.int .i64 0)),(.p (.int .i64 0)),(.p (.str [])),.nils] 2 [(0,4,(.t 87)),(4,4,(.t 96))]),
   oJ 98 (.bld [(.p (.int .i64 0)),(.p (.int .i64 0)),(.p (.str [])),.nils] [(0,1,(.t 86)),(3,1,(.t 97))]),
   ⟨none,none,.st 4 (.t 4) (.t 98)⟩])
 (.ret))))))))⟩
theorem sI:ah Tryz.prog bn=some lS:=by kernel_rfl
def lM:FK:=⟨46,[.t 2],
 .seq (.reg [oJ 2 (.mov (.c (.p (.str []))))])
 (.seq (.reg [oM 3 0,
   oM 4 0,
   oN 5 4,
   oF 6 3 5,
   oL 7 6,
   oJ 8 (.bin .add (.t 7) (.c (.p (.int .i64 1)))),
   oN 9 3,
   oF 10 3 9,
   oS 10 8])
 (.seq (.seq (.reg [oM 11 0,
   oN 12 11,
   oF 13 0 12,
   oL 14 13,
   oJ 15 (.call ab [(.t 14),(.c (.p (.int .i64 9)))]),
   oJ 16 (.bin .eql (.t 15) (.c (.p (.int .i64 0)))),
   oM 17 16,
   ⟨(some 18),some (17,true),.mov (.t 0)⟩,
   ⟨(some 19),some (17,true),.nilck (.t 18)⟩,
   ⟨(some 20),some (17,true),.fldA 2 (.t 19)⟩,
   ⟨(some 21),some (17,true),.ld none (.t 20)⟩,
   ⟨(some 22),some (17,true),.len false (.t 21)⟩,
   ⟨(some 23),some (17,true),.bin .gtr (.t 22) (.c (.p (.int .i64 0)))⟩,
   oJ 24 (.pick (.t 17) (.t 23) (.c (.p (.bool false))))])
 (.cond (.t 24)
  (.seq (.reg [oM 25 0,
    oN 26 25,
    oF 27 0 26,
    oM 29 0,
    oN 30 29,
    oF 31 2 30,
    oL 28 27,
    oL 32 31,
    oJ 33 (.call aL [(.t 28),(.t 32)]),
    oM 2 33])
  (.ret))
  (.skip)))
 (.seq (.reg [oM 34 0,
   oN 35 34,
   oF 36 3 35,
   oM 39 0,
   oN 40 39,
   oF 41 3 40,
   oL 37 36,
   oJ 38 (.bin .rem (.t 37) (.c (.p (.int .i64 24)))),
   oL 42 41,
   oJ 43 (.bin .rem (.t 42) (.c (.p (.int .i64 24)))),
   oJ 44 (.bin .add (.t 43) (.c (.p (.int .i64 1)))),
   oJ 45 (.slStr (.c (.p (.str [97,98,99,100,101,103,104,105,106,107,108,109,110,112,113,114,115,116,117,118,119,120,121,122]))) (some (.t 38)) (some (.t 44))),
   oM 2 45])
 (.ret))))⟩
theorem rI:ah Tryz.prog hZ=some lM:=by kernel_rfl
def jk:FK:=⟨24,[.c 4 (some 5)],
 .seq (.reg [oJ 3 (.box 4 (.t 1)),
  oJ 4 (.alloc [(.p (.int .i64 0)),(.p (.str [])),.nils,.nils,.nils])])
 (.seq (.reg [oM 6 0,
   oJ 7 (.call hZ [(.t 6)]),
   oM 5 7])
 (.seq (.reg [oM 8 0,
   oJ 9 (.bsl 1 [(.p (.str []))] 0 []),
   oM 10 0,
   oN 11 10,
   oF 12 2 11,
   oL 13 12,
   oJ 14 (.app 1 16 (.t 9) (.t 13)),
   oM 15 5,
   oJ 16 (.bsl 1 [(.p (.str []))] 1 [(0,1,(.t 15))]),
   oJ 17 (.app 1 16 (.t 14) (.t 16)),
   oN 18 8,
   oF 19 2 18,
   oS 19 17])
 (.seq (.reg [oM 20 5,
   oJ 21 (.ld (some 4) (.t 3)),
   oJ 22 (.bsl 4 [(.p (.int .i64 0)),(.p (.int .i64 0)),(.p (.str [])),.nils] 1 [(0,4,(.t 21))]),
   oJ 23 (.bld [(.p (.int .i64 0)),(.p (.str [])),.nils,.nils,.nils] [(0,1,(.c (.p (.int .i64 1)))),(1,1,(.t 20)),(2,1,(.t 22))]),
   ⟨none,none,.st 5 (.t 4) (.t 23)⟩])
 (.ret))))⟩
theorem nk:ah Tryz.prog dE=some jk:=by kernel_rfl
def ml:FK:=⟨14,[.c 2 (some 4)],
 .seq (.reg [oJ 2 (.alloc [(.p (.int .i64 0)),(.p (.int .i64 0)),(.p (.str [])),.nils])])
 (.seq (.reg [oM 3 0,
   oM 5 0,
   oN 6 5,
   oF 7 0 6,
   oJ 9 (.bslP 1 [(.p (.int .i64 0))] 6 [(0,1,(.c (.p (.int .i64 16)))),(1,1,(.c (.p (.int .i64 16)))),(2,1,(.c (.p (.int .i64 16)))),(3,1,(.c (.p (.int .i64 8)))),(4,1,(.c (.p (.int .i64 17)))),(5,1,(.c (.p (.int .i64 0))))]),
   oL 8 7,
   oJ 4 (.call bn [(.t 3),(.c (.p (.int .i64 2)))]),
   ⟨none,none,.chk none 7 8⟩,
   oJ 10 (.call al [(.t 8),(.t 9)]),
   oJ 11 (.bld [(.p (.int .i64 0)),(.p (.int .i64 0)),(.p (.str [])),.nils] [(0,1,(.c (.p (.int .i64 1)))),(1,1,(.t 10))]),
   oJ 12 (.bsl 4 [(.p (.int .i64 0)),(.p (.int .i64 0)),(.p (.str [])),.nils] 2 [(0,4,(.t 4)),(4,4,(.t 11))]),
   oJ 13 (.bld [(.p (.int .i64 0)),(.p (.int .i64 0)),(.p (.str [])),.nils] [(0,1,(.c (.p (.int .i64 7)))),(3,1,(.t 12))]),
   ⟨none,none,.st 4 (.t 2) (.t 13)⟩])
 (.ret))⟩
theorem th:ah Tryz.prog fI=some ml:=by kernel_rfl
def F_spec_l3Gen_loop:FK:=⟨50,[.t 4],
 .seq (.reg [oJ 4 (.mov (.c .nils))])
 (.seq (.reg [oM 9 0,
   oM 10 0,
   oN 11 10,
   oF 12 0 11,
   oL 13 12,
   oJ 14 (.bsl 1 [(.p (.int .i64 0))] 5 [(0,1,(.c (.p (.int .i64 2)))),(1,1,(.c (.p (.int .i64 3)))),(2,1,(.c (.p (.int .i64 1)))),(3,1,(.c (.p (.int .i64 0)))),(4,1,(.c (.p (.int .i64 5))))]),
   oJ 15 (.call al [(.t 13),(.t 14)]),
   oJ 16 (.bld [(.p (.int .i64 0)),(.p (.int .i64 0)),(.p (.str [])),.nils] [(0,1,(.c (.p (.int .i64 1)))),(1,1,(.t 15))]),
   oJ 17 (.call dE [(.t 9),(.t 16)]),
   oJ 5 (.alloc [(.p (.int .i64 0)),(.p (.str [])),.nils,.nils,.nils]),
   ⟨none,none,.st 5 (.t 5) (.t 17)⟩])
 (.seq (.reg [oF 18 1 5,
   oL 19 18,
   oJ 20 (.bld [(.p (.int .i64 0)),(.p (.int .i64 0)),(.p (.str [])),.nils] [(0,1,(.c (.p (.int .i64 2)))),(2,1,(.t 19))]),
   oJ 6 (.alloc [(.p (.int .i64 0)),(.p (.int .i64 0)),(.p (.str [])),.nils]),
   ⟨none,none,.st 4 (.t 6) (.t 20)⟩])
 (.seq (.reg [oM 21 0,
   oM 22 1,
   oJ 23 (.bin .sub (.t 22) (.c (.p (.int .i64 1)))),
   oJ 24 (.call bj [(.t 21),(.t 23)]),
   oM 7 24])
 (.seq (.reg [oF 25 1 5,
   oL 26 25,
   oJ 27 (.ld (some 4) (.t 6)),
   oJ 28 (.bld [(.p (.int .i64 0)),(.p (.int .i64 0)),(.p (.str [])),.nils] [(0,1,(.c (.p (.int .i64 1)))),(1,1,(.c (.p (.int .i64 1))))]),
   oJ 29 (.bsl 4 [(.p (.int .i64 0)),(.p (.int .i64 0)),(.p (.str [])),.nils] 2 [(0,4,(.t 27)),(4,4,(.t 28))]),
   oJ 30 (.bld [(.p (.int .i64 0)),(.p (.int .i64 0)),(.p (.str [])),.nils] [(0,1,(.c (.p (.int .i64 4)))),(3,1,(.t 29))]),
   oJ 31 (.bsl 4 [(.p (.int .i64 0)),(.p (.int .i64 0)),(.p (.str [])),.nils] 1 [(0,4,(.t 30))]),
   oJ 32 (.bld [(.p (.int .i64 0)),(.p (.str [])),.nils,.nils,.nils] [(0,1,(.c (.p (.int .i64 2)))),(1,1,(.t 26)),(2,1,(.t 31))]),
   oJ 8 (.alloc [(.p (.int .i64 0)),(.p (.str [])),.nils,.nils,.nils]),
   ⟨none,none,.st 5 (.t 8) (.t 32)⟩])
 (.seq (.reg [oM 33 0,
   oM 34 0,
   oN 35 34,
   oF 36 4 35,
   oL 37 36,
   oJ 38 (.bin .sub (.t 37) (.c (.p (.int .i64 2)))),
   oN 39 33,
   oF 40 4 39,
   oS 40 38])
 (.seq (.reg [oM 44 7,
   oJ 41 (.ld (some 5) (.t 5)),
   oJ 42 (.ld (some 4) (.t 6)),
   oJ 43 (.bslP 4 [(.p (.int .i64 0)),(.p (.int .i64 0)),(.p (.str [])),.nils] 1 [(0,4,(.t 42))]),
   oJ 45 (.ld (some 5) (.t 8)),
   oJ 46 (.bslP 5 [(.p (.int .i64 0)),(.p (.str [])),.nils,.nils,.nils] 1 [(0,5,(.t 45))]),
   oJ 47 (.app 5 96 (.t 44) (.t 46)),
   ⟨none,none,.chk (some 5) 5 41⟩,
   ⟨none,none,.chk (some 4) 6 42⟩,
   oJ 48 (.bld [(.p (.int .i64 0)),(.p (.str [])),.nils,.nils,.nils] [(0,1,(.c (.p (.int .i64 6)))),(2,1,(.t 43)),(3,1,(.t 47))]),
   oJ 49 (.bsl 5 [(.p (.int .i64 0)),(.p (.str [])),.nils,.nils,.nils] 2 [(0,5,(.t 41)),(5,5,(.t 48))]),
   oM 4 49])
 (.ret)))))))⟩
theorem sB:ah Tryz.prog iJ=some F_spec_l3Gen_loop:=by kernel_rfl
def mg:FK:=⟨128,[.t 4],
 .seq (.reg [oJ 4 (.mov (.c .nils))])
 (.seq (.reg [oM 7 0,
   oM 8 0,
   oN 9 8,
   oF 10 4 9,
   oL 11 10,
   oJ 12 (.bin .sub (.t 11) (.c (.p (.int .i64 1)))),
   oN 13 7,
   oF 14 4 13,
   oS 14 12])
 (.seq (.reg [oM 15 0,
   oN 16 15,
   oF 17 0 16,
   oL 18 17,
   oJ 19 (.call ab [(.t 18),(.c (.p (.int .i64 13)))]),
   oM 5 19])
 (.seq (.blk 0 (.seq (.reg [oM 21 5,
   oJ 22 (.bin .lss (.t 21) (.c (.p (.int .i64 3)))),
   oM 23 22,
   ⟨(some 24),some (23,true),.mov (.t 0)⟩,
   ⟨(some 25),some (23,true),.nilck (.t 24)⟩,
   ⟨(some 26),some (23,true),.fldA 2 (.t 25)⟩,
   ⟨(some 27),some (23,true),.ld none (.t 26)⟩,
   ⟨(some 28),some (23,true),.len false (.t 27)⟩,
   ⟨(some 29),some (23,true),.bin .gtr (.t 28) (.c (.p (.int .i64 0)))⟩,
   oJ 30 (.pick (.t 23) (.t 29) (.c (.p (.bool false)))),
   oM 20 30])
 (.cond (.t 20)
  (.seq (.reg [oM 31 0,
    oN 32 31,
    oF 33 0 32,
    oM 35 0,
    oN 36 35,
    oF 37 2 36,
    oM 40 0,
    oL 34 33,
    oL 38 37,
    oJ 39 (.call aL [(.t 34),(.t 38)]),
    oJ 41 (.call bn [(.t 40),(.c (.p (.int .i64 3)))]),
    oJ 42 (.bsl 4 [(.p (.int .i64 0)),(.p (.int .i64 0)),(.p (.str [])),.nils] 1 [(0,4,(.t 41))]),
    oJ 43 (.bld [(.p (.int .i64 0)),(.p (.str [])),.nils,.nils,.nils] [(0,1,(.c (.p (.int .i64 2)))),(1,1,(.t 39)),(2,1,(.t 42))]),
    oJ 44 (.bsl 5 [(.p (.int .i64 0)),(.p (.str [])),.nils,.nils,.nils] 1 [(0,5,(.t 43))]),
    oM 4 44])
  (.ret))
  (.seq (.reg [oM 46 5,
    oJ 47 (.bin .lss (.t 46) (.c (.p (.int .i64 5)))),
    oM 45 47])
  (.cond (.t 45)
   (.seq (.reg [oM 48 0,
     oM 49 0,
     oJ 50 (.call bn [(.t 49),(.c (.p (.int .i64 3)))]),
     oJ 51 (.call dE [(.t 48),(.t 50)]),
     oJ 52 (.bsl 5 [(.p (.int .i64 0)),(.p (.str [])),.nils,.nils,.nils] 1 [(0,5,(.t 51))]),
     oM 4 52])
   (.ret))
   (.seq (.reg [oM 54 5,
     oJ 55 (.bin .lss (.t 54) (.c (.p (.int .i64 7)))),
     oM 56 55,
     ⟨(some 57),some (56,false),.mov (.t 1)⟩,
     ⟨(some 58),some (56,false),.bin .lss (.t 57) (.c (.p (.int .i64 2)))⟩,
     oJ 59 (.pick (.t 56) (.c (.p (.bool true))) (.t 58)),
     oM 53 59])
   (.cond (.t 53)
    (.seq (.reg [oM 60 0,
      oJ 61 (.call bn [(.t 60),(.c (.p (.int .i64 3)))]),
      oJ 62 (.bsl 4 [(.p (.int .i64 0)),(.p (.int .i64 0)),(.p (.str [])),.nils] 1 [(0,4,(.t 61))]),
      oJ 63 (.bld [(.p (.int .i64 0)),(.p (.str [])),.nils,.nils,.nils] [(0,1,(.c (.p (.int .i64 3)))),(2,1,(.t 62))]),
      oJ 64 (.bsl 5 [(.p (.int .i64 0)),(.p (.str [])),.nils,.nils,.nils] 1 [(0,5,(.t 63))]),
      oM 4 64])
    (.ret))
    (.seq (.reg [oM 66 5,
      oJ 67 (.bin .eql (.t 66) (.c (.p (.int .i64 7)))),
      oM 65 67])
    (.cond (.t 65)
     (.seq (.reg [oM 68 0,
       oJ 69 (.call fI [(.t 68)]),
       oM 70 0,
       oJ 71 (.call bn [(.t 70),(.c (.p (.int .i64 2)))]),
       oJ 72 (.bsl 4 [(.p (.int .i64 0)),(.p (.int .i64 0)),(.p (.str [])),.nils] 2 [(0,4,(.t 69)),(4,4,(.t 71))]),
       oJ 73 (.bld [(.p (.int .i64 0)),(.p (.str [])),.nils,.nils,.nils] [(0,1,(.c (.p (.int .i64 4)))),(2,1,(.t 72))]),
       oJ 74 (.bsl 5 [(.p (.int .i64 0)),(.p (.str [])),.nils,.nils,.nils] 1 [(0,5,(.t 73))]),
       oM 4 74])
     (.ret))
     (.seq (.reg [oM 76 5,
       oJ 77 (.bin .eql (.t 76) (.c (.p (.int .i64 8)))),
       oM 75 77])
     (.cond (.t 75)
      (.seq (.reg [oM 78 0,
        oJ 79 (.call fI [(.t 78)]),
        oJ 80 (.bsl 4 [(.p (.int .i64 0)),(.p (.int .i64 0)),(.p (.str [])),.nils] 1 [(0,4,(.t 79))]),
        oJ 81 (.bld [(.p (.int .i64 0)),(.p (.int .i64 0)),(.p (.str [])),.nils] [(0,1,(.c (.p (.int .i64 12)))),(3,1,(.t 80))]),
        oJ 82 (.bsl 4 [(.p (.int .i64 0)),(.p (.int .i64 0)),(.p (.str [])),.nils] 1 [(0,4,(.t 81))]),
        oJ 83 (.bld [(.p (.int .i64 0)),(.p (.str [])),.nils,.nils,.nils] [(0,1,(.c (.p (.int .i64 3)))),(2,1,(.t 82))]),
        oJ 84 (.bsl 5 [(.p (.int .i64 0)),(.p (.str [])),.nils,.nils,.nils] 1 [(0,5,(.t 83))]),
        oM 4 84])
      (.ret))
      (.seq (.reg [oM 86 5,
        oJ 87 (.bin .lss (.t 86) (.c (.p (.int .i64 11)))),
        oM 85 87])
      (.cond (.t 85)
       (.seq (.reg [oM 88 0,
         oJ 89 (.call bn [(.t 88),(.c (.p (.int .i64 3)))]),
         oJ 90 (.bsl 4 [(.p (.int .i64 0)),(.p (.int .i64 0)),(.p (.str [])),.nils] 1 [(0,4,(.t 89))]),
         oM 91 0,
         oM 92 1,
         oJ 93 (.bin .sub (.t 92) (.c (.p (.int .i64 1)))),
         oJ 94 (.call bj [(.t 91),(.t 93)]),
         oJ 95 (.bld [(.p (.int .i64 0)),(.p (.str [])),.nils,.nils,.nils] [(0,1,(.c (.p (.int .i64 5)))),(2,1,(.t 90)),(3,1,(.t 94))]),
         oJ 6 (.alloc [(.p (.int .i64 0)),(.p (.str [])),.nils,.nils,.nils]),
         ⟨none,none,.st 5 (.t 6) (.t 95)⟩])
       (.seq (.seq (.reg [oM 96 0,
         oN 97 96,
         oF 98 0 97,
         oL 99 98,
         oJ 100 (.call ab [(.t 99),(.c (.p (.int .i64 2)))]),
         oJ 101 (.bin .eql (.t 100) (.c (.p (.int .i64 0))))])
       (.cond (.t 101)
        (.reg [oM 102 0,
          oM 103 1,
          oJ 104 (.bin .sub (.t 103) (.c (.p (.int .i64 1)))),
          oJ 105 (.call bj [(.t 102),(.t 104)]),
          oF 106 4 6,
          oS 106 105])
        (.skip)))
       (.seq (.reg [oJ 107 (.ld (some 5) (.t 6)),
         oJ 108 (.bsl 5 [(.p (.int .i64 0)),(.p (.str [])),.nils,.nils,.nils] 1 [(0,5,(.t 107))]),
         oM 4 108])
       (.ret))))
       (.seq (.reg [oM 110 5,
         oJ 111 (.bin .eql (.t 110) (.c (.p (.int .i64 11)))),
         oM 112 111,
         ⟨(some 113),some (112,true),.mov (.t 0)⟩,
         ⟨(some 114),some (112,true),.nilck (.t 113)⟩,
         ⟨(some 115),some (112,true),.fldA 0 (.t 114)⟩,
         ⟨(some 116),some (112,true),.ld none (.t 115)⟩,
         ⟨(some 117),some (112,true),.call ab [(.t 116),(.c (.p (.int .i64 3)))]⟩,
         ⟨(some 118),some (112,true),.bin .eql (.t 117) (.c (.p (.int .i64 0)))⟩,
         oJ 119 (.pick (.t 112) (.t 118) (.c (.p (.bool false)))),
         oM 109 119])
       (.cond (.t 109)
        (.seq (.reg [oM 120 0,
          oJ 121 (.call bn [(.t 120),(.c (.p (.int .i64 2)))]),
          oJ 122 (.bsl 4 [(.p (.int .i64 0)),(.p (.int .i64 0)),(.p (.str [])),.nils] 1 [(0,4,(.t 121))]),
          oJ 123 (.bld [(.p (.int .i64 0)),(.p (.str [])),.nils,.nils,.nils] [(0,1,(.c (.p (.int .i64 7)))),(2,1,(.t 122))]),
          oJ 124 (.bsl 5 [(.p (.int .i64 0)),(.p (.str [])),.nils,.nils,.nils] 1 [(0,5,(.t 123))]),
          oM 4 124])
        (.ret))
        (.skip))))))))))))))))
 (.seq (.reg [oM 125 0,
   oM 126 1,
   oJ 127 (.call iJ [(.t 125),(.t 126)]),
   oM 4 127])
 (.ret)))))⟩
theorem ss:ah Tryz.prog iO=some mg:=by kernel_rfl
def lc:FK:=⟨40,[.t 4],
 .seq (.reg [oJ 4 (.mov (.c .nils))])
 (.seq (.reg [oM 8 0,
   oN 9 8,
   oF 10 2 9,
   oL 11 10,
   oM 5 11])
 (.seq (.reg [oJ 12 (.bsl 5 [(.p (.int .i64 0)),(.p (.str [])),.nils,.nils,.nils] 0 []),
   oM 6 12])
 (.seq (.seq (.reg [oM 13 0,
   oN 14 13,
   oF 15 0 14,
   oL 16 15,
   oJ 17 (.bsl 1 [(.p (.int .i64 0))] 4 [(0,1,(.c (.p (.int .i64 2)))),(1,1,(.c (.p (.int .i64 3)))),(2,1,(.c (.p (.int .i64 1)))),(3,1,(.c (.p (.int .i64 4))))]),
   oJ 18 (.call al [(.t 16),(.t 17)]),
   oM 7 18])
 (.blk 0 (.loop (.seq (.seq (.reg [oM 19 7,
   oJ 20 (.bin .gtr (.t 19) (.c (.p (.int .i64 0)))),
   oM 21 20,
   ⟨(some 22),some (21,true),.mov (.t 0)⟩,
   ⟨(some 23),some (21,true),.nilck (.t 22)⟩,
   ⟨(some 24),some (21,true),.fldA 4 (.t 23)⟩,
   ⟨(some 25),some (21,true),.ld none (.t 24)⟩,
   ⟨(some 26),some (21,true),.bin .gtr (.t 25) (.c (.p (.int .i64 0)))⟩,
   oJ 27 (.pick (.t 21) (.t 26) (.c (.p (.bool false))))])
 (.cond (.t 27)
  (.skip)
  (.exit 0)))
 (.seq (.blk 1 (.reg [oM 30 6,
   oM 31 0,
   oM 32 1,
   oJ 33 (.call iO [(.t 31),(.t 32)]),
   oJ 34 (.app 5 96 (.t 30) (.t 33)),
   oM 6 34]))
 (.reg [oM 28 7,
   oJ 29 (.bin .sub (.t 28) (.c (.p (.int .i64 1)))),
   oM 7 29]))))))
 (.seq (.reg [oM 35 0,
   oM 36 5,
   oN 37 35,
   oF 38 2 37,
   oS 38 36])
 (.seq (.reg [oM 39 6,
   oM 4 39])
 (.ret))))))⟩
theorem rA:ah Tryz.prog bj=some lc:=by kernel_rfl
def F_spec_l3Gen_fn:FK:=⟨61,[.c 6 (some 3)],
 .seq (.reg [oJ 6 (.alloc [(.p (.str [])),.nils,.nils])])
 (.seq (.reg [oM 8 0,
   oJ 9 (.bsl 1 [(.p (.str []))] 3 [(0,1,(.c (.p (.str [97])))),(1,1,(.c (.p (.str [98])))),(2,1,(.c (.p (.str [99]))))]),
   oM 10 2,
   oJ 11 (.slS 1 (.t 9) none (some (.t 10))),
   oN 12 8,
   oF 13 2 12,
   oS 13 11])
 (.seq (.reg [oM 14 0,
   oM 15 2,
   oJ 16 (.bin .sub (.t 15) (.c (.p (.int .i64 1)))),
   oN 17 14,
   oF 18 3 17,
   oS 18 16])
 (.seq (.reg [oM 19 1,
   oJ 20 (.bsl 1 [(.p (.str []))] 0 []),
   oM 21 0,
   oN 22 21,
   oF 23 2 22,
   oL 24 23,
   oJ 25 (.app 1 16 (.t 20) (.t 24)),
   oJ 26 (.bld [(.p (.str [])),.nils,.nils] [(0,1,(.t 19)),(1,1,(.t 25))]),
   oJ 7 (.alloc [(.p (.str [])),.nils,.nils]),
   ⟨none,none,.st 3 (.t 7) (.t 26)⟩])
 (.seq (.reg [oM 27 0,
   oJ 28 (.call bj [(.t 27),(.c (.p (.int .i64 3)))]),
   oF 29 2 7,
   oS 29 28])
 (.seq (.seq (.reg [oM 30 0,
   oN 31 30,
   oF 32 4 31,
   oL 33 32,
   oJ 34 (.bin .gtr (.t 33) (.c (.p (.int .i64 0)))),
   oM 35 34,
   ⟨(some 36),some (35,true),.mov (.t 0)⟩,
   ⟨(some 37),some (35,true),.nilck (.t 36)⟩,
   ⟨(some 38),some (35,true),.fldA 0 (.t 37)⟩,
   ⟨(some 39),some (35,true),.ld none (.t 38)⟩,
   ⟨(some 40),some (35,true),.call ab [(.t 39),(.c (.p (.int .i64 4)))]⟩,
   ⟨(some 41),some (35,true),.bin .gtr (.t 40) (.c (.p (.int .i64 0)))⟩,
   oJ 42 (.pick (.t 35) (.t 41) (.c (.p (.bool false))))])
 (.cond (.t 42)
  (.seq (.reg [oM 43 0,
    oM 44 0,
    oN 45 44,
    oF 46 4 45,
    oL 47 46,
    oJ 48 (.bin .sub (.t 47) (.c (.p (.int .i64 1)))),
    oN 49 43,
    oF 50 4 49,
    oS 50 48])
  (.reg [oF 51 2 7,
    oM 53 0,
    oL 52 51,
    oJ 54 (.call bn [(.t 53),(.c (.p (.int .i64 2)))]),
    ⟨none,none,.chk none 51 52⟩,
    oJ 55 (.bslP 4 [(.p (.int .i64 0)),(.p (.int .i64 0)),(.p (.str [])),.nils] 1 [(0,4,(.t 54))]),
    oJ 56 (.bld [(.p (.int .i64 0)),(.p (.str [])),.nils,.nils,.nils] [(0,1,(.c (.p (.int .i64 7)))),(2,1,(.t 55))]),
    oJ 57 (.bslP 5 [(.p (.int .i64 0)),(.p (.str [])),.nils,.nils,.nils] 1 [(0,5,(.t 56))]),
    oJ 58 (.app 5 96 (.t 52) (.t 57)),
    oF 59 2 7,
    oS 59 58]))
  (.skip)))
 (.seq (.reg [oJ 60 (.ld (some 3) (.t 7)),
   ⟨none,none,.st 3 (.t 6) (.t 60)⟩])
 (.ret)))))))⟩
theorem vp:ah Tryz.prog gT=some F_spec_l3Gen_fn:=by kernel_rfl
def rm:FK:=⟨69,[.c 2 (some 1)],
 .seq (.reg [oJ 2 (.alloc [.nils])])
 (.seq (.reg [oM 8 0,
   oM 9 0,
   oJ 10 (.bsl 1 [(.p (.int .i64 0))] 4 [(0,1,(.c (.p (.int .i64 14)))),(1,1,(.c (.p (.int .i64 20)))),(2,1,(.c (.p (.int .i64 8)))),(3,1,(.c (.p (.int .i64 26))))]),
   oJ 11 (.call al [(.t 9),(.t 10)]),
   oJ 12 (.bld [.nilp,.nils,.nils,(.p (.int .i64 0)),(.p (.int .i64 0))] [(0,1,(.t 8)),(4,1,(.t 11))]),
   oJ 13 (.box 5 (.t 12)),
   oM 3 13])
 (.seq (.seq (.reg [oM 14 0,
   oJ 15 (.bsl 1 [(.p (.int .i64 0))] 4 [(0,1,(.c (.p (.int .i64 0)))),(1,1,(.c (.p (.int .i64 1)))),(2,1,(.c (.p (.int .i64 1)))),(3,1,(.c (.p (.int .i64 2))))]),
   oJ 16 (.call al [(.t 14),(.t 15)]),
   oM 4 16])
 (.blk 0 (.loop (.seq (.seq (.reg [oM 17 4,
   oJ 18 (.bin .gtr (.t 17) (.c (.p (.int .i64 0))))])
 (.cond (.t 18)
  (.skip)
  (.exit 0)))
 (.seq (.blk 1 (.seq (.reg [oJ 5 (.mov (.c .any)),
   oM 21 3,
   oJ 22 (.bslP 1 [(.p (.str []))] 3 [(0,1,(.c (.p (.str [102])))),(1,1,(.c (.p (.str [103])))),(2,1,(.c (.p (.str [104]))))]),
   oM 23 3,
   oN 24 23,
   oF 25 1 24,
   oM 30 0,
   oL 26 25,
   oJ 27 (.len false (.t 26)),
   oJ 28 (.idxS 1 (.t 22) (.t 27)),
   oL 29 28,
   oJ 31 (.call ab [(.t 30),(.c (.p (.int .i64 3)))]),
   ⟨none,none,.chk none 25 26⟩,
   ⟨none,none,.chk none 28 29⟩,
   oJ 32 (.call gT [(.t 21),(.t 29),(.t 31)]),
   oJ 5 (.alloc [(.p (.str [])),.nils,.nils]),
   ⟨none,none,.st 3 (.t 5) (.t 32)⟩])
 (.reg [oM 33 3,
   oM 34 3,
   oN 35 34,
   oF 36 1 35,
   oL 37 36,
   oJ 38 (.ld (some 3) (.t 5)),
   oJ 39 (.bslP 3 [(.p (.str [])),.nils,.nils] 1 [(0,3,(.t 38))]),
   oJ 40 (.app 3 64 (.t 37) (.t 39)),
   oN 41 33,
   oF 42 1 41,
   oS 42 40])))
 (.reg [oM 19 4,
   oJ 20 (.bin .sub (.t 19) (.c (.p (.int .i64 1)))),
   oM 4 20]))))))
 (.seq (.reg [oM 43 3,
   oM 44 0,
   oJ 45 (.bsl 1 [(.p (.int .i64 0))] 4 [(0,1,(.c (.p (.int .i64 0)))),(1,1,(.c (.p (.int .i64 1)))),(2,1,(.c (.p (.int .i64 2)))),(3,1,(.c (.p (.int .i64 1))))]),
   oJ 46 (.call al [(.t 44),(.t 45)]),
   oJ 47 (.call gT [(.t 43),(.c (.p (.str [109]))),(.t 46)]),
   oJ 6 (.alloc [(.p (.str [])),.nils,.nils]),
   ⟨none,none,.st 3 (.t 6) (.t 47)⟩])
 (.seq (.reg [oJ 7 (.mov (.c .any)),
   oM 49 3,
   oN 50 49,
   oF 51 1 50,
   oL 52 51,
   oJ 54 (.ld (some 3) (.t 6)),
   oJ 55 (.bslP 3 [(.p (.str [])),.nils,.nils] 1 [(0,3,(.t 54))]),
   oJ 48 (.bsl 3 [(.p (.str [])),.nils,.nils] 0 []),
   ⟨none,none,.chk none 51 52⟩,
   ⟨none,none,.chk (some 3) 6 54⟩,
   oJ 53 (.app 3 64 (.t 48) (.t 52)),
   ⟨none,none,.chk (some 3) 6 54⟩,
   oJ 56 (.app 3 64 (.t 53) (.t 55)),
   oJ 57 (.bld [.nils] [(0,1,(.t 56))]),
   oJ 7 (.alloc [.nils]),
   oS 7 57])
 (.seq (.seq (.reg [oJ 58 (.ld (some 1) (.t 7)),
   oJ 59 (.call eJ [(.t 58)]),
   oJ 60 (.not (.t 59))])
 (.cond (.t 60)
  (.seq (.reg [oJ 61 (.bld [(.p (.int .i64 0)),(.p (.int .i64 0)),(.p (.str [])),.nils] [(0,1,(.c (.p (.int .i64 1)))),(1,1,(.c (.p (.int .i64 1))))]),
    oJ 62 (.bsl 4 [(.p (.int .i64 0)),(.p (.int .i64 0)),(.p (.str [])),.nils] 1 [(0,4,(.t 61))]),
    oJ 63 (.bld [(.p (.int .i64 0)),(.p (.str [])),.nils,.nils,.nils] [(0,1,(.c (.p (.int .i64 3)))),(2,1,(.t 62))]),
    oJ 64 (.bsl 5 [(.p (.int .i64 0)),(.p (.str [])),.nils,.nils,.nils] 1 [(0,5,(.t 63))]),
    oJ 65 (.bld [(.p (.str [])),.nils,.nils] [(0,1,(.c (.p (.str [109])))),(2,1,(.t 64))]),
    oJ 66 (.bsl 3 [(.p (.str [])),.nils,.nils] 1 [(0,3,(.t 65))]),
    oJ 67 (.bld [.nils] [(0,1,(.t 66))]),
    oS 2 67])
  (.ret))
  (.skip)))
 (.seq (.reg [oJ 68 (.ld (some 1) (.t 7)),
   oS 2 68])
 (.ret)))))))⟩
theorem yB:ah Tryz.prog cw=some rm:=by kernel_rfl
def tr:FK:=⟨42,[.c 4 (some 4)],
 .seq (.reg [oJ 4 (.alloc [(.p (.int .i64 0)),(.p (.int .i64 0)),(.p (.str [])),.nils])])
 (.seq (.reg [oM 8 0,
   oJ 9 (.bsl 1 [(.p (.str []))] 4 [(0,1,(.c (.p (.str [97])))),(1,1,(.c (.p (.str [98])))),(2,1,(.c (.p (.str [120])))),(3,1,(.c (.p (.str [103,111]))))]),
   oM 10 1,
   oJ 11 (.call bA [(.t 8),(.t 9),(.t 10)]),
   oJ 5 (.alloc [(.p (.int .i64 0)),(.p (.int .i64 0)),(.p (.str [])),.nils]),
   ⟨none,none,.st 4 (.t 5) (.t 11)⟩])
 (.seq (.seq (.reg [oM 12 0,
   oJ 13 (.call ab [(.t 12),(.c (.p (.int .i64 3)))]),
   oJ 14 (.bin .gtr (.t 13) (.c (.p (.int .i64 0))))])
 (.cond (.t 14)
  (.seq (.reg [oJ 15 (.ld (some 4) (.t 5)),
    ⟨none,none,.st 4 (.t 4) (.t 15)⟩])
  (.ret))
  (.skip)))
 (.seq (.reg [oM 16 0,
   oJ 17 (.bsl 1 [(.p (.str []))] 3 [(0,1,(.c (.p (.str [102])))),(1,1,(.c (.p (.str [103])))),(2,1,(.c (.p (.str [97]))))]),
   oJ 18 (.call aL [(.t 16),(.t 17)]),
   oJ 19 (.bld [(.p (.int .i64 0)),(.p (.int .i64 0)),(.p (.str [])),.nils] [(0,1,(.c (.p (.int .i64 13)))),(2,1,(.t 18))]),
   oJ 6 (.alloc [(.p (.int .i64 0)),(.p (.int .i64 0)),(.p (.str [])),.nils]),
   ⟨none,none,.st 4 (.t 6) (.t 19)⟩])
 (.seq (.seq (.reg [oM 20 0,
   oJ 21 (.call ab [(.t 20),(.c (.p (.int .i64 4)))]),
   oM 7 21])
 (.blk 0 (.loop (.seq (.seq (.reg [oM 22 7,
   oJ 23 (.bin .gtr (.t 22) (.c (.p (.int .i64 0))))])
 (.cond (.t 23)
  (.skip)
  (.exit 0)))
 (.seq (.blk 1 (.reg [oF 26 3 6,
   oM 28 0,
   oJ 29 (.bslP 1 [(.p (.str []))] 2 [(0,1,(.c (.p (.str [97])))),(1,1,(.c (.p (.str [98]))))]),
   oL 27 26,
   oJ 30 (.call bA [(.t 28),(.t 29),(.c (.p (.int .i64 2)))]),
   ⟨none,none,.chk none 26 27⟩,
   oJ 31 (.bslP 4 [(.p (.int .i64 0)),(.p (.int .i64 0)),(.p (.str [])),.nils] 1 [(0,4,(.t 30))]),
   oJ 32 (.app 4 56 (.t 27) (.t 31)),
   oF 33 3 6,
   oS 33 32]))
 (.reg [oM 24 7,
   oJ 25 (.bin .sub (.t 24) (.c (.p (.int .i64 1)))),
   oM 7 25]))))))
 (.seq (.seq (.reg [oM 34 0,
   oJ 35 (.call ab [(.t 34),(.c (.p (.int .i64 2)))]),
   oJ 36 (.bin .eql (.t 35) (.c (.p (.int .i64 0))))])
 (.cond (.t 36)
  (.seq (.reg [oJ 37 (.ld (some 4) (.t 6)),
    ⟨none,none,.st 4 (.t 4) (.t 37)⟩])
  (.ret))
  (.skip)))
 (.seq (.reg [oJ 38 (.ld (some 4) (.t 5)),
   oJ 39 (.ld (some 4) (.t 6)),
   oJ 40 (.bsl 4 [(.p (.int .i64 0)),(.p (.int .i64 0)),(.p (.str [])),.nils] 2 [(0,4,(.t 38)),(4,4,(.t 39))]),
   oJ 41 (.bld [(.p (.int .i64 0)),(.p (.int .i64 0)),(.p (.str [])),.nils] [(0,1,(.c (.p (.int .i64 3)))),(3,1,(.t 40))]),
   ⟨none,none,.st 4 (.t 4) (.t 41)⟩])
 (.ret)))))))⟩
theorem zY:ah Tryz.prog gf=some tr:=by kernel_rfl
def qS:FK:=⟨40,[.c 2 (some 4)],
 .seq (.reg [oJ 2 (.alloc [(.p (.int .i64 0)),(.p (.int .i64 0)),(.p (.str [])),.nils])])
 (.seq (.reg [oM 4 0,
   oJ 5 (.call gf [(.t 4),(.c (.p (.int .i64 4)))]),
   oJ 3 (.alloc [(.p (.int .i64 0)),(.p (.int .i64 0)),(.p (.str [])),.nils]),
   ⟨none,none,.st 4 (.t 3) (.t 5)⟩])
 (.seq (.seq (.reg [oM 6 0,
   oJ 7 (.call ab [(.t 6),(.c (.p (.int .i64 20)))])])
 (.blk 0 (.seq (.reg [oJ 9 (.bin .eql (.t 7) (.c (.p (.int .i64 0)))),
   oM 8 9])
 (.cond (.t 8)
  (.reg [oM 10 0,
    oJ 11 (.bsl 1 [(.p (.int .i64 0))] 3 [(0,1,(.c (.p (.int .i64 (-1))))),(1,1,(.c (.p (.int .i64 256)))),(2,1,(.c (.p (.int .i64 3))))]),
    oJ 12 (.call al [(.t 10),(.t 11)]),
    oF 13 1 3,
    oS 13 12])
  (.seq (.reg [oJ 15 (.bin .eql (.t 7) (.c (.p (.int .i64 1)))),
    oM 14 15])
  (.cond (.t 14)
   (.reg [oM 16 0,
     oJ 17 (.bsl 1 [(.p (.str []))] 5 [(0,1,(.c (.p (.str [])))),(1,1,(.c (.p (.str [100,111])))),(2,1,(.c (.p (.str [65])))),(3,1,(.c (.p (.str [97,98,99,100,101])))),(4,1,(.c (.p (.str [113]))))]),
     oJ 18 (.call aL [(.t 16),(.t 17)]),
     oF 19 2 3,
     oS 19 18])
   (.seq (.reg [oJ 21 (.bin .eql (.t 7) (.c (.p (.int .i64 2)))),
     oM 20 21])
   (.cond (.t 20)
    (.reg [oM 22 0,
      oJ 23 (.bsl 1 [(.p (.int .i64 0))] 5 [(0,1,(.c (.p (.int .i64 0)))),(1,1,(.c (.p (.int .i64 14)))),(2,1,(.c (.p (.int .i64 (-1))))),(3,1,(.c (.p (.int .i64 5)))),(4,1,(.c (.p (.int .i64 11))))]),
      oJ 24 (.call al [(.t 22),(.t 23)]),
      oF 25 0 3,
      oS 25 24])
    (.seq (.reg [oJ 27 (.bin .eql (.t 7) (.c (.p (.int .i64 3)))),
      oM 26 27])
    (.cond (.t 26)
     (.reg [oF 28 3 3,
       oM 30 0,
       oL 29 28,
       oJ 31 (.call eD [(.t 30),(.c .nils)]),
       ⟨none,none,.chk none 28 29⟩,
       oJ 32 (.bslP 4 [(.p (.int .i64 0)),(.p (.int .i64 0)),(.p (.str [])),.nils] 1 [(0,4,(.t 31))]),
       oJ 33 (.app 4 56 (.t 29) (.t 32)),
       oF 34 3 3,
       oS 34 33])
     (.seq (.reg [oJ 36 (.bin .eql (.t 7) (.c (.p (.int .i64 4)))),
       oM 35 36])
     (.cond (.t 35)
      (.reg [oM 37 0,
        oJ 38 (.call gf [(.t 37),(.c (.p (.int .i64 7)))]),
        ⟨none,none,.st 4 (.t 3) (.t 38)⟩])
      (.skip)))))))))))))
 (.seq (.reg [oJ 39 (.ld (some 4) (.t 3)),
   ⟨none,none,.st 4 (.t 2) (.t 39)⟩])
 (.ret))))⟩
theorem yH:ah Tryz.prog jC=some qS:=by kernel_rfl
def F_spec_l3Bent:FK:=⟨145,[.c 2 (some 1)],
 .seq (.reg [oJ 2 (.alloc [.nils])])
 (.seq (.reg [oM 9 0,
   oJ 10 (.call cw [(.t 9)]),
   oJ 3 (.alloc [.nils]),
   oS 3 10])
 (.seq (.reg [oF 11 0 3,
   oL 12 11,
   oF 13 0 3,
   oL 14 13,
   oJ 15 (.len false (.t 14)),
   oJ 16 (.bin .sub (.t 15) (.c (.p (.int .i64 1)))),
   oJ 17 (.idxS 3 (.t 12) (.t 16)),
   oJ 18 (.ld (some 3) (.t 17)),
   oJ 4 (.alloc [(.p (.str [])),.nils,.nils]),
   ⟨none,none,.st 3 (.t 4) (.t 18)⟩])
 (.seq (.seq (.reg [oM 19 0,
   oJ 20 (.call ab [(.t 19),(.c (.p (.int .i64 32)))])])
 (.blk 0 (.seq (.reg [oJ 22 (.bin .eql (.t 20) (.c (.p (.int .i64 0)))),
   oM 21 22])
 (.cond (.t 21)
  (.reg [oM 23 0,
    oJ 24 (.bsl 1 [(.p (.str []))] 4 [(0,1,(.c (.p (.str [102])))),(1,1,(.c (.p (.str [100,111])))),(2,1,(.c (.p (.str [])))),(3,1,(.c (.p (.str [103]))))]),
    oJ 25 (.call aL [(.t 23),(.t 24)]),
    oF 26 0 4,
    oS 26 25])
  (.seq (.reg [oJ 28 (.bin .eql (.t 20) (.c (.p (.int .i64 1)))),
    oM 27 28])
  (.cond (.t 27)
   (.reg [oJ 29 (.bsl 1 [(.p (.str []))] 0 []),
     oF 30 1 4,
     oL 31 30,
     oJ 32 (.app 1 16 (.t 29) (.t 31)),
     oM 33 0,
     oJ 34 (.bsl 1 [(.p (.str []))] 3 [(0,1,(.c (.p (.str [97])))),(1,1,(.c (.p (.str [120])))),(2,1,(.c (.p (.str [105,102]))))]),
     oJ 35 (.call aL [(.t 33),(.t 34)]),
     oJ 36 (.bsl 1 [(.p (.str []))] 1 [(0,1,(.t 35))]),
     oJ 37 (.app 1 16 (.t 32) (.t 36)),
     oF 38 1 4,
     oS 38 37])
   (.seq (.reg [oJ 40 (.bin .eql (.t 20) (.c (.p (.int .i64 2)))),
     oM 39 40])
   (.cond (.t 39)
    (.reg [oJ 41 (.bsl 5 [(.p (.int .i64 0)),(.p (.str [])),.nils,.nils,.nils] 0 []),
      oF 42 2 4,
      oL 43 42,
      oJ 44 (.app 5 96 (.t 41) (.t 43)),
      oM 45 0,
      oJ 46 (.call jC [(.t 45)]),
      oJ 47 (.bsl 4 [(.p (.int .i64 0)),(.p (.int .i64 0)),(.p (.str [])),.nils] 1 [(0,4,(.t 46))]),
      oJ 48 (.bld [(.p (.int .i64 0)),(.p (.str [])),.nils,.nils,.nils] [(0,1,(.c (.p (.int .i64 3)))),(2,1,(.t 47))]),
      oJ 49 (.bsl 5 [(.p (.int .i64 0)),(.p (.str [])),.nils,.nils,.nils] 1 [(0,5,(.t 48))]),
      oJ 50 (.app 5 96 (.t 44) (.t 49)),
      oF 51 2 4,
      oS 51 50])
    (.seq (.reg [oJ 53 (.bin .eql (.t 20) (.c (.p (.int .i64 3)))),
      oM 52 53])
    (.cond (.t 52)
     (.reg [oJ 54 (.bsl 5 [(.p (.int .i64 0)),(.p (.str [])),.nils,.nils,.nils] 0 []),
       oF 55 2 4,
       oL 56 55,
       oJ 57 (.app 5 96 (.t 54) (.t 56)),
       oM 58 0,
       oJ 59 (.call ab [(.t 58),(.c (.p (.int .i64 10)))]),
       oM 60 0,
       oJ 61 (.bsl 1 [(.p (.str []))] 3 [(0,1,(.c (.p (.str [])))),(1,1,(.c (.p (.str [97])))),(2,1,(.c (.p (.str [122,122]))))]),
       oJ 62 (.call aL [(.t 60),(.t 61)]),
       oM 63 0,
       oJ 64 (.call gf [(.t 63),(.c (.p (.int .i64 2)))]),
       oJ 65 (.bsl 4 [(.p (.int .i64 0)),(.p (.int .i64 0)),(.p (.str [])),.nils] 1 [(0,4,(.t 64))]),
       oJ 66 (.bld [(.p (.int .i64 0)),(.p (.str [])),.nils,.nils,.nils] [(0,1,(.t 59)),(1,1,(.t 62)),(2,1,(.t 65))]),
       oJ 67 (.bsl 5 [(.p (.int .i64 0)),(.p (.str [])),.nils,.nils,.nils] 1 [(0,5,(.t 66))]),
       oJ 68 (.app 5 96 (.t 57) (.t 67)),
       oF 69 2 4,
       oS 69 68])
     (.seq (.reg [oJ 71 (.bin .eql (.t 20) (.c (.p (.int .i64 4)))),
       oM 70 71])
     (.cond (.t 70)
      (.seq (.reg [oJ 72 (.bld [(.p (.int .i64 0)),(.p (.int .i64 0)),(.p (.str [])),.nils] [(0,1,(.c (.p (.int .i64 1))))]),
        oJ 73 (.bsl 4 [(.p (.int .i64 0)),(.p (.int .i64 0)),(.p (.str [])),.nils] 1 [(0,4,(.t 72))]),
        oJ 74 (.bld [(.p (.int .i64 0)),(.p (.str [])),.nils,.nils,.nils] [(0,1,(.c (.p (.int .i64 6)))),(2,1,(.t 73))]),
        oJ 5 (.alloc [(.p (.int .i64 0)),(.p (.str [])),.nils,.nils,.nils]),
        ⟨none,none,.st 5 (.t 5) (.t 74)⟩])
      (.seq (.seq (.reg [oM 75 0,
        oJ 76 (.call ab [(.t 75),(.c (.p (.int .i64 5)))]),
        oM 6 76])
      (.blk 1 (.loop (.seq (.seq (.reg [oM 77 6,
        oJ 78 (.bin .gtr (.t 77) (.c (.p (.int .i64 0))))])
      (.cond (.t 78)
       (.skip)
       (.exit 1)))
      (.seq (.blk 2 (.reg [oM 81 0,
        oJ 82 (.bslP 1 [(.p (.int .i64 0))] 2 [(0,1,(.c (.p (.int .i64 5)))),(1,1,(.c (.p (.int .i64 6))))]),
        oF 84 2 5,
        oL 85 84,
        oJ 86 (.ld (some 5) (.t 5)),
        oJ 87 (.bslP 5 [(.p (.int .i64 0)),(.p (.str [])),.nils,.nils,.nils] 1 [(0,5,(.t 86))]),
        oJ 83 (.call al [(.t 81),(.t 82)]),
        ⟨none,none,.chk none 84 85⟩,
        ⟨none,none,.chk (some 5) 5 86⟩,
        oJ 88 (.bld [(.p (.int .i64 0)),(.p (.str [])),.nils,.nils,.nils] [(0,1,(.t 83)),(2,1,(.t 85)),(3,1,(.t 87))]),
        ⟨none,none,.st 5 (.t 5) (.t 88)⟩]))
      (.reg [oM 79 6,
        oJ 80 (.bin .sub (.t 79) (.c (.p (.int .i64 1)))),
        oM 6 80]))))))
      (.reg [oF 90 2 4,
        oL 91 90,
        oJ 93 (.ld (some 5) (.t 5)),
        oJ 94 (.bslP 5 [(.p (.int .i64 0)),(.p (.str [])),.nils,.nils,.nils] 1 [(0,5,(.t 93))]),
        oJ 89 (.bsl 5 [(.p (.int .i64 0)),(.p (.str [])),.nils,.nils,.nils] 0 []),
        ⟨none,none,.chk none 90 91⟩,
        ⟨none,none,.chk (some 5) 5 93⟩,
        oJ 92 (.app 5 96 (.t 89) (.t 91)),
        ⟨none,none,.chk (some 5) 5 93⟩,
        oJ 95 (.app 5 96 (.t 92) (.t 94)),
        oF 96 2 4,
        oS 96 95])))
      (.seq (.reg [oJ 98 (.bin .eql (.t 20) (.c (.p (.int .i64 5)))),
        oM 97 98])
      (.cond (.t 97)
       (.seq (.reg [oJ 99 (.bld [.nils] []),
         oS 2 99])
       (.ret))
       (.seq (.reg [oJ 101 (.bin .eql (.t 20) (.c (.p (.int .i64 6)))),
         oM 100 101])
       (.cond (.t 100)
        (.seq (.reg [oM 102 0,
          oJ 103 (.bsl 1 [(.p (.int .i64 0))] 3 [(0,1,(.c (.p (.int .i64 20)))),(1,1,(.c (.p (.int .i64 40)))),(2,1,(.c (.p (.int .i64 41))))]),
          oJ 104 (.call al [(.t 102),(.t 103)]),
          oM 7 104])
        (.blk 3 (.loop (.seq (.seq (.reg [oM 105 7,
          oJ 106 (.bin .gtr (.t 105) (.c (.p (.int .i64 0))))])
        (.cond (.t 106)
         (.skip)
         (.exit 3)))
        (.seq (.blk 4 (.reg [oJ 109 (.bsl 5 [(.p (.int .i64 0)),(.p (.str [])),.nils,.nils,.nils] 0 []),
          oF 110 2 4,
          oL 111 110,
          oJ 112 (.app 5 96 (.t 109) (.t 111)),
          oM 113 7,
          oJ 114 (.bld [(.p (.int .i64 0)),(.p (.int .i64 0)),(.p (.str [])),.nils] [(0,1,(.c (.p (.int .i64 1)))),(1,1,(.t 113))]),
          oJ 115 (.bsl 4 [(.p (.int .i64 0)),(.p (.int .i64 0)),(.p (.str [])),.nils] 1 [(0,4,(.t 114))]),
          oJ 116 (.bld [(.p (.int .i64 0)),(.p (.str [])),.nils,.nils,.nils] [(0,1,(.c (.p (.int .i64 3)))),(2,1,(.t 115))]),
          oJ 117 (.bsl 5 [(.p (.int .i64 0)),(.p (.str [])),.nils,.nils,.nils] 1 [(0,5,(.t 116))]),
          oJ 118 (.app 5 96 (.t 112) (.t 117)),
          oF 119 2 4,
          oS 119 118]))
        (.reg [oM 107 7,
          oJ 108 (.bin .sub (.t 107) (.c (.p (.int .i64 1)))),
          oM 7 108]))))))
        (.seq (.reg [oJ 121 (.bin .eql (.t 20) (.c (.p (.int .i64 7)))),
          oM 120 121])
        (.cond (.t 120)
         (.seq (.reg [oF 123 0 3,
           oF 126 0 3,
           oL 124 123,
           oL 127 126,
           oJ 128 (.idxS 3 (.t 127) (.c (.p (.int .i64 0)))),
           oJ 129 (.ld (some 3) (.t 128)),
           oJ 130 (.bslP 3 [(.p (.str [])),.nils,.nils] 1 [(0,3,(.t 129))]),
           oJ 122 (.bsl 3 [(.p (.str [])),.nils,.nils] 0 []),
           ⟨none,none,.chk none 123 124⟩,
           ⟨none,none,.chk none 126 127⟩,
           ⟨none,none,.chk (some 3) 128 129⟩,
           oJ 125 (.app 3 64 (.t 122) (.t 124)),
           ⟨none,none,.chk none 126 127⟩,
           ⟨none,none,.chk (some 3) 128 129⟩,
           oJ 131 (.app 3 64 (.t 125) (.t 130)),
           oJ 132 (.bld [.nils] [(0,1,(.t 131))]),
           oS 2 132])
         (.ret))
         (.skip)))))))))))))))))))
 (.seq (.reg [oJ 133 (.bsl 3 [(.p (.str [])),.nils,.nils] 0 []),
   oF 134 0 3,
   oL 135 134,
   oJ 136 (.app 3 64 (.t 133) (.t 135)),
   oM 8 136])
 (.seq (.reg [oM 137 8,
   oM 138 8,
   oJ 139 (.len false (.t 138)),
   oJ 140 (.bin .sub (.t 139) (.c (.p (.int .i64 1)))),
   oJ 141 (.ld (some 3) (.t 4)),
   oJ 142 (.idxS 3 (.t 137) (.t 140)),
   ⟨none,none,.st 3 (.t 142) (.t 141)⟩])
 (.seq (.reg [oM 143 8,
   oJ 144 (.bld [.nils] [(0,1,(.t 143))]),
   oS 2 144])
 (.ret)))))))⟩
theorem yG:ah Tryz.prog mJ=some F_spec_l3Bent:=by kernel_rfl
def rg:FK:=⟨104,[.c 2 (some 1)],
 .seq (.reg [oJ 2 (.alloc [.nils])])
 (.seq (.reg [oM 7 0,
   oJ 8 (.call cw [(.t 7)]),
   oJ 3 (.alloc [.nils]),
   oS 3 8])
 (.seq (.seq (.reg [oM 9 0,
   oJ 10 (.call ab [(.t 9),(.c (.p (.int .i64 5)))]),
   oJ 11 (.bin .gtr (.t 10) (.c (.p (.int .i64 2))))])
 (.cond (.t 11)
  (.seq (.reg [oJ 12 (.ld (some 1) (.t 3)),
    oS 2 12])
  (.ret))
  (.skip)))
 (.seq (.seq (.reg [oM 13 0,
   oJ 14 (.call ab [(.t 13),(.c (.p (.int .i64 6)))]),
   oJ 15 (.bin .eql (.t 14) (.c (.p (.int .i64 0))))])
 (.cond (.t 15)
  (.seq (.reg [oM 16 0,
    oJ 17 (.call mJ [(.t 16)]),
    oS 2 17])
  (.ret))
  (.skip)))
 (.seq (.reg [oJ 18 (.ld (some 1) (.t 3)),
   oJ 19 (.call er [(.t 18)]),
   oS 3 19])
 (.seq (.reg [oF 20 0 3,
   oM 22 0,
   oF 23 0 3,
   oL 21 20,
   oL 24 23,
   oJ 25 (.len false (.t 24)),
   oJ 26 (.call ab [(.t 22),(.t 25)]),
   ⟨none,none,.chk none 20 21⟩,
   oJ 27 (.idxS 3 (.t 21) (.t 26)),
   oM 4 27])
 (.seq (.seq (.reg [oM 28 4,
   oN 29 28,
   oF 30 2 29,
   oL 31 30,
   oJ 32 (.len false (.t 31)),
   oJ 33 (.bin .eql (.t 32) (.c (.p (.int .i64 0))))])
 (.cond (.t 33)
  (.seq (.reg [oJ 34 (.ld (some 1) (.t 3)),
    oS 2 34])
  (.ret))
  (.skip)))
 (.seq (.reg [oM 35 4,
   oN 36 35,
   oF 37 2 36,
   oM 39 0,
   oM 40 4,
   oN 41 40,
   oF 42 2 41,
   oL 38 37,
   oL 43 42,
   oJ 44 (.len false (.t 43)),
   oJ 45 (.call ab [(.t 39),(.t 44)]),
   ⟨none,none,.chk none 37 38⟩,
   oJ 46 (.idxS 5 (.t 38) (.t 45)),
   oM 5 46])
 (.seq (.reg [oM 47 0,
   oJ 48 (.bsl 1 [(.p (.str []))] 5 [(0,1,(.c (.p (.str [122,122])))),(1,1,(.c (.p (.str [97])))),(2,1,(.c (.p (.str [98])))),(3,1,(.c (.p (.str [99])))),(4,1,(.c (.p (.str [100]))))]),
   oJ 49 (.call aL [(.t 47),(.t 48)]),
   oJ 50 (.bld [(.p (.int .i64 0)),(.p (.int .i64 0)),(.p (.str [])),.nils] [(0,1,(.c (.p (.int .i64 2)))),(2,1,(.t 49))]),
   oJ 6 (.alloc [(.p (.int .i64 0)),(.p (.int .i64 0)),(.p (.str [])),.nils]),
   ⟨none,none,.st 4 (.t 6) (.t 50)⟩])
 (.seq (.seq (.reg [oM 51 0,
   oJ 52 (.call ab [(.t 51),(.c (.p (.int .i64 4)))])])
 (.blk 0 (.seq (.reg [oJ 54 (.bin .eql (.t 52) (.c (.p (.int .i64 0)))),
   oM 53 54])
 (.cond (.t 53)
  (.reg [oM 55 0,
    oJ 56 (.bsl 1 [(.p (.str []))] 4 [(0,1,(.c (.p (.str [102])))),(1,1,(.c (.p (.str [103])))),(2,1,(.c (.p (.str [109])))),(3,1,(.c (.p (.str [113]))))]),
    oJ 57 (.call aL [(.t 55),(.t 56)]),
    oJ 58 (.bld [(.p (.int .i64 0)),(.p (.int .i64 0)),(.p (.str [])),.nils] [(0,1,(.c (.p (.int .i64 1)))),(1,1,(.c (.p (.int .i64 1))))]),
    oJ 59 (.bsl 4 [(.p (.int .i64 0)),(.p (.int .i64 0)),(.p (.str [])),.nils] 1 [(0,4,(.t 58))]),
    oJ 60 (.bld [(.p (.int .i64 0)),(.p (.int .i64 0)),(.p (.str [])),.nils] [(0,1,(.c (.p (.int .i64 13)))),(2,1,(.t 57)),(3,1,(.t 59))]),
    ⟨none,none,.st 4 (.t 6) (.t 60)⟩])
  (.seq (.reg [oJ 62 (.bin .eql (.t 52) (.c (.p (.int .i64 1)))),
    oM 61 62])
  (.cond (.t 61)
   (.seq (.seq (.reg [oM 63 5,
     oN 64 63,
     oF 65 1 64,
     oL 66 65,
     oJ 67 (.bins .neq (.t 66) (.c (.p (.str []))))])
   (.cond (.t 67)
    (.reg [oM 68 5,
      oM 69 0,
      oJ 70 (.bsl 1 [(.p (.str []))] 5 [(0,1,(.c (.p (.str [97])))),(1,1,(.c (.p (.str [98])))),(2,1,(.c (.p (.str [122,122])))),(3,1,(.c (.p (.str [99])))),(4,1,(.c (.p (.str [100]))))]),
      oJ 71 (.call aL [(.t 69),(.t 70)]),
      oN 72 68,
      oF 73 1 72,
      oS 73 71])
    (.skip)))
   (.seq (.reg [oJ 74 (.ld (some 1) (.t 3)),
     oS 2 74])
   (.ret)))
   (.seq (.reg [oJ 76 (.bin .eql (.t 52) (.c (.p (.int .i64 2)))),
     oM 75 76])
   (.cond (.t 75)
    (.seq (.reg [oM 77 4,
      oM 78 4,
      oN 79 78,
      oF 80 2 79,
      oM 82 4,
      oN 83 82,
      oF 84 2 83,
      oL 81 80,
      oL 85 84,
      oJ 86 (.slS 5 (.t 85) none (some (.c (.p (.int .i64 1))))),
      oJ 87 (.call dK [(.t 86)]),
      ⟨none,none,.chk none 80 81⟩,
      oJ 88 (.app 5 96 (.t 81) (.t 87)),
      oN 89 77,
      oF 90 2 89,
      oS 90 88])
    (.seq (.reg [oJ 91 (.ld (some 1) (.t 3)),
      oS 2 91])
    (.ret)))
    (.skip)))))))))
 (.seq (.seq (.reg [oM 92 5,
   oN 93 92,
   oF 94 0 93,
   oL 95 94,
   oJ 96 (.bin .neq (.t 95) (.c (.p (.int .i64 8))))])
 (.cond (.t 96)
  (.reg [oM 97 5,
    oN 98 97,
    oF 99 2 98,
    oL 100 99,
    oJ 101 (.ld (some 4) (.t 6)),
    oJ 102 (.idxS 4 (.t 100) (.c (.p (.int .i64 0)))),
    ⟨none,none,.st 4 (.t 102) (.t 101)⟩])
  (.skip)))
 (.seq (.reg [oJ 103 (.ld (some 1) (.t 3)),
   oS 2 103])
 (.ret))))))))))))⟩
theorem yn:ah Tryz.prog jK=some rg:=by kernel_rfl
def F_spec_l6Prog:FK:=⟨157,[.c 2 (some 1)],
 .seq (.reg [oJ 2 (.alloc [.nils])])
 (.seq (.seq (.reg [oM 10 0,
   oJ 11 (.call ab [(.t 10),(.c (.p (.int .i64 8)))]),
   oJ 12 (.bin .eql (.t 11) (.c (.p (.int .i64 0))))])
 (.cond (.t 12)
  (.seq (.reg [oM 13 0,
    oJ 14 (.call jK [(.t 13)]),
    oS 2 14])
  (.ret))
  (.skip)))
 (.seq (.reg [oM 15 0,
   oJ 16 (.call cw [(.t 15)]),
   oJ 17 (.call er [(.t 16)]),
   oJ 3 (.alloc [.nils]),
   oS 3 17])
 (.seq (.seq (.reg [oM 18 0,
   oJ 19 (.bsl 1 [(.p (.int .i64 0))] 4 [(0,1,(.c (.p (.int .i64 2)))),(1,1,(.c (.p (.int .i64 4)))),(2,1,(.c (.p (.int .i64 1)))),(3,1,(.c (.p (.int .i64 0))))]),
   oJ 20 (.call al [(.t 18),(.t 19)]),
   oM 4 20])
 (.blk 0 (.loop (.seq (.seq (.reg [oM 21 4,
   oJ 22 (.bin .gtr (.t 21) (.c (.p (.int .i64 0))))])
 (.cond (.t 22)
  (.skip)
  (.exit 0)))
 (.seq (.blk 1 (.seq (.reg [oF 25 0 3,
   oM 27 0,
   oF 28 0 3,
   oL 26 25,
   oL 29 28,
   oJ 30 (.len false (.t 29)),
   oJ 31 (.call ab [(.t 27),(.t 30)]),
   ⟨none,none,.chk none 25 26⟩,
   oJ 32 (.idxS 3 (.t 26) (.t 31)),
   oM 5 32])
 (.seq (.reg [oM 33 5,
   oN 34 33,
   oF 35 2 34,
   oL 36 35,
   oJ 37 (.len false (.t 36)),
   oJ 38 (.bin .gtr (.t 37) (.c (.p (.int .i64 0))))])
 (.cond (.t 38)
  (.seq (.reg [oM 39 5,
    oN 40 39,
    oF 41 2 40,
    oM 43 0,
    oM 44 5,
    oN 45 44,
    oF 46 2 45,
    oL 42 41,
    oL 47 46,
    oJ 48 (.len false (.t 47)),
    oJ 49 (.call ab [(.t 43),(.t 48)]),
    ⟨none,none,.chk none 41 42⟩,
    oJ 50 (.idxS 5 (.t 42) (.t 49)),
    oM 6 50])
  (.seq (.reg [oM 51 6,
    oN 52 51,
    oF 53 0 52,
    oL 54 53,
    oJ 55 (.bin .eql (.t 54) (.c (.p (.int .i64 5)))),
    oM 56 55,
    ⟨(some 57),some (56,false),.mov (.t 6)⟩,
    ⟨(some 58),some (56,false),.nilck (.t 57)⟩,
    ⟨(some 59),some (56,false),.fldA 0 (.t 58)⟩,
    ⟨(some 60),some (56,false),.ld none (.t 59)⟩,
    ⟨(some 61),some (56,false),.bin .eql (.t 60) (.c (.p (.int .i64 3)))⟩,
    oJ 62 (.pick (.t 56) (.c (.p (.bool true))) (.t 61)),
    oM 63 62,
    ⟨(some 64),some (63,false),.mov (.t 0)⟩,
    ⟨(some 65),some (63,false),.call ab [(.t 64),(.c (.p (.int .i64 3)))]⟩,
    ⟨(some 66),some (63,false),.bin .eql (.t 65) (.c (.p (.int .i64 0)))⟩,
    ⟨(some 67),some (63,false),.mov (.t 66)⟩,
    ⟨(some 68),some (67,true),.mov (.t 6)⟩,
    ⟨(some 69),some (67,true),.nilck (.t 68)⟩,
    ⟨(some 70),some (67,true),.fldA 0 (.t 69)⟩,
    ⟨(some 71),some (67,true),.ld none (.t 70)⟩,
    ⟨(some 72),some (67,true),.bin .neq (.t 71) (.c (.p (.int .i64 8)))⟩,
    ⟨(some 73),some (63,false),.pick (.t 67) (.t 72) (.c (.p (.bool false)))⟩,
    ⟨(some 74),some (63,false),.mov (.t 73)⟩,
    ⟨(some 75),some (74,true),.mov (.t 6)⟩,
    ⟨(some 76),some (74,true),.nilck (.t 75)⟩,
    ⟨(some 77),some (74,true),.fldA 0 (.t 76)⟩,
    ⟨(some 78),some (74,true),.ld none (.t 77)⟩,
    ⟨(some 79),some (74,true),.bin .neq (.t 78) (.c (.p (.int .i64 6)))⟩,
    ⟨(some 80),some (63,false),.pick (.t 74) (.t 79) (.c (.p (.bool false)))⟩,
    oJ 81 (.pick (.t 63) (.c (.p (.bool true))) (.t 80))])
  (.cond (.t 81)
   (.reg [oM 82 6,
     oN 83 82,
     oF 84 2 83,
     oM 86 0,
     oJ 87 (.bslP 1 [(.p (.int .i64 0))] 3 [(0,1,(.c (.p (.int .i64 0)))),(1,1,(.c (.p (.int .i64 1)))),(2,1,(.c (.p (.int .i64 5))))]),
     oL 85 84,
     oJ 88 (.call al [(.t 86),(.t 87)]),
     ⟨none,none,.chk none 84 85⟩,
     oJ 89 (.call bc [(.t 88)]),
     ⟨none,none,.chk none 84 85⟩,
     oJ 90 (.idxS 4 (.t 85) (.c (.p (.int .i64 0)))),
     ⟨none,none,.st 4 (.t 90) (.t 89)⟩])
   (.skip))))
  (.skip)))))
 (.reg [oM 23 4,
   oJ 24 (.bin .sub (.t 23) (.c (.p (.int .i64 1)))),
   oM 4 24]))))))
 (.seq (.seq (.reg [oM 91 0,
   oJ 92 (.call ab [(.t 91),(.c (.p (.int .i64 3)))]),
   oJ 93 (.bin .eql (.t 92) (.c (.p (.int .i64 0))))])
 (.cond (.t 93)
  (.seq (.reg [oF 94 0 3,
    oL 95 94,
    oF 96 0 3,
    oL 97 96,
    oJ 98 (.len false (.t 97)),
    oJ 99 (.bin .sub (.t 98) (.c (.p (.int .i64 1)))),
    oJ 100 (.idxS 3 (.t 95) (.t 99)),
    oM 7 100])
  (.seq (.reg [oM 101 0,
    oM 102 7,
    oN 103 102,
    oF 104 2 103,
    oL 105 104,
    oJ 106 (.len false (.t 105)),
    oJ 107 (.bin .add (.t 106) (.c (.p (.int .i64 1)))),
    oJ 108 (.call ab [(.t 101),(.t 107)]),
    oM 8 108])
  (.seq (.reg [oM 109 0,
    oJ 110 (.bsl 1 [(.p (.int .i64 0))] 3 [(0,1,(.c (.p (.int .i64 7)))),(1,1,(.c (.p (.int .i64 6)))),(2,1,(.c (.p (.int .i64 5))))]),
    oJ 111 (.call al [(.t 109),(.t 110)]),
    oM 112 0,
    oJ 113 (.call ab [(.t 112),(.c (.p (.int .i64 2)))]),
    oM 114 0,
    oJ 115 (.call ab [(.t 114),(.c (.p (.int .i64 2)))]),
    oJ 116 (.bin .mul (.t 113) (.t 115)),
    oJ 117 (.call bc [(.t 116)]),
    oJ 118 (.bsl 4 [(.p (.int .i64 0)),(.p (.int .i64 0)),(.p (.str [])),.nils] 1 [(0,4,(.t 117))]),
    oJ 119 (.bld [(.p (.int .i64 0)),(.p (.str [])),.nils,.nils,.nils] [(0,1,(.t 111)),(2,1,(.t 118))]),
    oJ 9 (.alloc [(.p (.int .i64 0)),(.p (.str [])),.nils,.nils,.nils]),
    ⟨none,none,.st 5 (.t 9) (.t 119)⟩])
  (.seq (.seq (.reg [oF 120 0 9,
    oL 121 120,
    oJ 122 (.bin .neq (.t 121) (.c (.p (.int .i64 7))))])
  (.cond (.t 122)
   (.seq (.reg [oJ 123 (.call bc [(.c (.p (.int .i64 9)))]),
     oJ 124 (.bsl 4 [(.p (.int .i64 0)),(.p (.int .i64 0)),(.p (.str [])),.nils] 1 [(0,4,(.t 123))]),
     oJ 125 (.bld [(.p (.int .i64 0)),(.p (.str [])),.nils,.nils,.nils] [(0,1,(.c (.p (.int .i64 3)))),(2,1,(.t 124))]),
     oJ 126 (.bsl 5 [(.p (.int .i64 0)),(.p (.str [])),.nils,.nils,.nils] 1 [(0,5,(.t 125))]),
     oF 127 3 9,
     oS 127 126])
   (.seq (.reg [oF 128 0 9,
     oL 129 128,
     oJ 130 (.bin .eql (.t 129) (.c (.p (.int .i64 6))))])
   (.cond (.t 130)
    (.reg [oF 131 2 9,
      oL 132 131,
      oJ 133 (.call bc [(.c (.p (.int .i64 0)))]),
      ⟨none,none,.chk none 131 132⟩,
      oJ 134 (.idxS 4 (.t 132) (.c (.p (.int .i64 0)))),
      ⟨none,none,.st 4 (.t 134) (.t 133)⟩])
    (.skip))))
   (.skip)))
  (.reg [oM 135 7,
    oM 137 7,
    oN 138 137,
    oF 139 2 138,
    oM 141 8,
    oM 147 7,
    oN 148 147,
    oF 149 2 148,
    oM 151 8,
    oL 140 139,
    oJ 142 (.slS 5 (.t 140) none (some (.t 141))),
    oJ 144 (.ld (some 5) (.t 9)),
    oJ 145 (.bslP 5 [(.p (.int .i64 0)),(.p (.str [])),.nils,.nils,.nils] 1 [(0,5,(.t 144))]),
    oL 150 149,
    oJ 152 (.slS 5 (.t 150) (some (.t 151)) none),
    oJ 136 (.bsl 5 [(.p (.int .i64 0)),(.p (.str [])),.nils,.nils,.nils] 0 []),
    ⟨none,none,.chk none 139 140⟩,
    ⟨none,none,.chk (some 5) 9 144⟩,
    ⟨none,none,.chk none 149 150⟩,
    oJ 143 (.app 5 96 (.t 136) (.t 142)),
    ⟨none,none,.chk (some 5) 9 144⟩,
    ⟨none,none,.chk none 149 150⟩,
    oJ 146 (.app 5 96 (.t 143) (.t 145)),
    ⟨none,none,.chk none 149 150⟩,
    oJ 153 (.app 5 96 (.t 146) (.t 152)),
    oN 154 135,
    oF 155 2 154,
    oS 155 153])))))
  (.skip)))
 (.seq (.reg [oJ 156 (.ld (some 1) (.t 3)),
   oS 2 156])
 (.ret))))))⟩
theorem yE:ah Tryz.prog jz=some F_spec_l6Prog:=by kernel_rfl
def kw:FK:=⟨24,[.c 2 (some 1)],
 .seq (.reg [oJ 2 (.alloc [.nils])])
 (.seq (.reg [oM 7 0,
   oJ 8 (.call iT [(.t 7)]),
   oM 3 8])
 (.seq (.reg [oM 9 3,
   oJ 10 (.call jz [(.t 9)]),
   oJ 4 (.alloc [.nils]),
   oS 4 10])
 (.seq (.reg [oJ 12 (.ld (some 1) (.t 4)),
   oJ 13 (.call bY [(.t 12)]),
   oM 11 13,
   oJ 14 (.ext 0 (.t 11)),
   oJ 15 (.ext 1 (.t 11)),
   oJ 5 (.alloc [.nils]),
   oS 5 14,
   oM 6 15])
 (.seq (.seq (.reg [oM 16 6,
   oM 17 16,
   ⟨(some 18),some (17,true),.mov (.t 3)⟩,
   ⟨(some 19),some (17,true),.call ab [(.t 18),(.c (.p (.int .i64 2)))]⟩,
   ⟨(some 20),some (17,true),.bin .eql (.t 19) (.c (.p (.int .i64 0)))⟩,
   oJ 21 (.pick (.t 17) (.t 20) (.c (.p (.bool false))))])
 (.cond (.t 21)
  (.seq (.reg [oJ 22 (.ld (some 1) (.t 5)),
    oS 2 22])
  (.ret))
  (.skip)))
 (.seq (.reg [oJ 23 (.ld (some 1) (.t 4)),
   oS 2 23])
 (.ret))))))⟩
theorem qr:ah Tryz.prog gq=some kw:=by kernel_rfl
def lX:FK:=⟨46,[.t 2],
 .seq (.reg [oJ 2 (.mov (.c (.p (.bool false))))])
 (.seq (.seq (.reg [oM 9 0,
   oJ 10 (.len false (.t 9)),
   oJ 11 (.bin .gtr (.t 10) (.c (.p (.int .i64 1048576))))])
 (.cond (.t 11)
  (.seq (.reg [oJ 2 (.mov (.c (.p (.bool true))))])
  (.ret))
  (.skip)))
 (.seq (.reg [oM 12 0,
   oJ 13 (.call gq [(.t 12)]),
   oJ 3 (.alloc [.nils]),
   oS 3 13])
 (.seq (.reg [oJ 14 (.ld (some 1) (.t 3)),
   oJ 15 (.call kg [(.t 14)]),
   oM 4 15])
 (.seq (.seq (.reg [oM 16 4,
   oJ 17 (.ld (some 1) (.t 3)),
   oJ 18 (.call kj [(.t 17)]),
   oJ 19 (.beq true (.t 16) (.t 18))])
 (.cond (.t 19)
  (.seq (.reg [oJ 2 (.mov (.c (.p (.bool false))))])
  (.ret))
  (.skip)))
 (.seq (.reg [oJ 21 (.ld (some 1) (.t 3)),
   oJ 22 (.call bP [(.t 21)]),
   oM 20 22,
   oJ 23 (.ext 0 (.t 20)),
   oJ 24 (.ext 1 (.t 20)),
   oJ 5 (.alloc [.nils]),
   oS 5 23,
   oM 6 24])
 (.seq (.reg [oJ 26 (.ld (some 1) (.t 3)),
   oJ 27 (.call bz [(.t 26)]),
   oM 25 27,
   oJ 28 (.ext 0 (.t 25)),
   oJ 29 (.ext 1 (.t 25)),
   oJ 7 (.alloc [.nils]),
   oS 7 28,
   oM 8 29])
 (.seq (.reg [oM 30 4,
   oM 31 6,
   oM 32 31,
   ⟨(some 33),some (32,true),.mov (.t 8)⟩,
   oJ 34 (.pick (.t 32) (.t 33) (.c (.p (.bool false)))),
   oM 35 34,
   ⟨(some 36),some (35,true),.ld (some 1) (.t 5)⟩,
   ⟨(some 37),some (35,true),.ld (some 1) (.t 3)⟩,
   ⟨(some 38),some (35,true),.call bI [(.t 36),(.t 37)]⟩,
   oJ 39 (.pick (.t 35) (.t 38) (.c (.p (.bool false)))),
   oM 40 39,
   ⟨(some 41),some (40,true),.ld (some 1) (.t 7)⟩,
   ⟨(some 42),some (40,true),.ld (some 1) (.t 3)⟩,
   ⟨(some 43),some (40,true),.call bI [(.t 41),(.t 42)]⟩,
   oJ 44 (.pick (.t 40) (.t 43) (.c (.p (.bool false)))),
   oJ 45 (.beq false (.t 30) (.t 44)),
   oM 2 45])
 (.ret))))))))⟩
theorem sS:ah Tryz.prog mB=some lX:=by kernel_rfl
def my:FK:=⟨10,[.c 2 (some 1),.t 3],
 .seq (.reg [oJ 1 (.box 1 (.t 0)),
  oJ 2 (.alloc [.nils]),
  oJ 3 (.mov (.c (.p (.bool false))))])
 (.seq (.seq (.reg [oJ 4 (.ld (some 1) (.t 1)),
   oJ 5 (.call jH [(.t 4)]),
   oJ 6 (.not (.t 5))])
 (.cond (.t 6)
  (.seq (.reg [oJ 7 (.bld [.nils] []),
    oS 2 7,
    oJ 3 (.mov (.c (.p (.bool false))))])
  (.ret))
  (.skip)))
 (.seq (.reg [oJ 8 (.ld (some 1) (.t 1)),
   oJ 9 (.call cx [(.t 8),(.c (.p (.bool true)))]),
   oS 2 9,
   oJ 3 (.mov (.c (.p (.bool true))))])
 (.ret)))⟩
theorem tf:ah Tryz.prog fJ=some my:=by kernel_rfl
def jh:FK:=⟨6,[.c 2 (some 1)],
 .seq (.reg [oJ 2 (.alloc [.nils])])
 (.seq (.reg [oM 3 0,
   oJ 4 (.call iT [(.t 3)]),
   oJ 5 (.call jz [(.t 4)]),
   oS 2 5])
 (.ret))⟩
theorem oy:ah Tryz.prog fH=some jh:=by kernel_rfl
def lP:FK:=⟨102,[.t 2],
 .seq (.reg [oJ 2 (.mov (.c (.p (.bool false))))])
 (.seq (.seq (.reg [oM 18 0,
   oJ 19 (.len false (.t 18)),
   oJ 20 (.bin .gtr (.t 19) (.c (.p (.int .i64 1048576))))])
 (.cond (.t 20)
  (.seq (.reg [oJ 2 (.mov (.c (.p (.bool true))))])
  (.ret))
  (.skip)))
 (.seq (.reg [oM 21 0,
   oJ 22 (.call fH [(.t 21)]),
   oJ 3 (.alloc [.nils]),
   oS 3 22])
 (.seq (.reg [oJ 24 (.ld (some 1) (.t 3)),
   oJ 25 (.call bz [(.t 24)]),
   oM 23 25,
   oJ 26 (.ext 0 (.t 23)),
   oJ 27 (.ext 1 (.t 23)),
   oJ 4 (.alloc [.nils]),
   oS 4 26,
   oM 5 27])
 (.seq (.reg [oJ 29 (.ld (some 1) (.t 3)),
   oJ 30 (.call fJ [(.t 29)]),
   oM 28 30,
   oJ 31 (.ext 0 (.t 28)),
   oJ 32 (.ext 1 (.t 28)),
   oJ 6 (.alloc [.nils]),
   oS 6 31,
   oM 7 32])
 (.seq (.seq (.reg [oM 33 5,
   oM 34 7,
   oJ 35 (.beq true (.t 33) (.t 34)),
   oM 36 35,
   ⟨(some 37),some (36,false),.ld (some 1) (.t 4)⟩,
   ⟨(some 38),some (36,false),.ld (some 1) (.t 6)⟩,
   ⟨(some 39),some (36,false),.call cK [(.t 37),(.t 38)]⟩,
   ⟨(some 40),some (36,false),.not (.t 39)⟩,
   oJ 41 (.pick (.t 36) (.c (.p (.bool true))) (.t 40)),
   oM 42 41,
   ⟨(some 43),some (42,false),.mov (.t 5)⟩,
   ⟨(some 44),some (42,false),.not (.t 43)⟩,
   oJ 45 (.pick (.t 42) (.c (.p (.bool true))) (.t 44))])
 (.cond (.t 45)
  (.seq (.reg [oM 46 5,
    oM 47 7,
    oJ 48 (.beq false (.t 46) (.t 47)),
    oM 49 48,
    ⟨(some 50),some (49,true),.ld (some 1) (.t 4)⟩,
    ⟨(some 51),some (49,true),.ld (some 1) (.t 6)⟩,
    ⟨(some 52),some (49,true),.call cK [(.t 50),(.t 51)]⟩,
    oJ 53 (.pick (.t 49) (.t 52) (.c (.p (.bool false)))),
    oM 2 53])
  (.ret))
  (.skip)))
 (.seq (.reg [oJ 55 (.ld (some 1) (.t 4)),
   oJ 56 (.call bz [(.t 55)]),
   oM 54 56,
   oJ 57 (.ext 0 (.t 54)),
   oJ 58 (.ext 1 (.t 54)),
   oJ 8 (.alloc [.nils]),
   oS 8 57,
   oM 9 58])
 (.seq (.reg [oJ 60 (.ld (some 1) (.t 4)),
   oJ 61 (.call bP [(.t 60)]),
   oM 59 61,
   oJ 62 (.ext 0 (.t 59)),
   oJ 63 (.ext 1 (.t 59)),
   oJ 10 (.alloc [.nils]),
   oS 10 62,
   oM 11 63])
 (.seq (.reg [oJ 65 (.ld (some 1) (.t 3)),
   oJ 66 (.call bP [(.t 65)]),
   oM 64 66,
   oJ 67 (.ext 0 (.t 64)),
   oJ 68 (.ext 1 (.t 64)),
   oJ 12 (.alloc [.nils]),
   oS 12 67,
   oM 13 68])
 (.seq (.reg [oJ 70 (.ld (some 1) (.t 12)),
   oJ 71 (.call bz [(.t 70)]),
   oM 69 71,
   oJ 72 (.ext 0 (.t 69)),
   oJ 73 (.ext 1 (.t 69)),
   oJ 14 (.alloc [.nils]),
   oS 14 72,
   oM 15 73])
 (.seq (.reg [oJ 75 (.ld (some 1) (.t 10)),
   oJ 76 (.call bz [(.t 75)]),
   oM 74 76,
   oJ 77 (.ext 0 (.t 74)),
   oJ 78 (.ext 1 (.t 74)),
   oJ 16 (.alloc [.nils]),
   oS 16 77,
   oM 17 78])
 (.seq (.reg [oM 79 9,
   oM 80 79,
   ⟨(some 81),some (80,true),.mov (.t 11)⟩,
   oJ 82 (.pick (.t 80) (.t 81) (.c (.p (.bool false)))),
   oM 83 82,
   ⟨(some 84),some (83,true),.mov (.t 13)⟩,
   oJ 85 (.pick (.t 83) (.t 84) (.c (.p (.bool false)))),
   oM 86 85,
   ⟨(some 87),some (86,true),.mov (.t 15)⟩,
   oJ 88 (.pick (.t 86) (.t 87) (.c (.p (.bool false)))),
   oM 89 88,
   ⟨(some 90),some (89,true),.mov (.t 17)⟩,
   oJ 91 (.pick (.t 89) (.t 90) (.c (.p (.bool false)))),
   oM 92 91,
   ⟨(some 93),some (92,true),.ld (some 1) (.t 8)⟩,
   ⟨(some 94),some (92,true),.ld (some 1) (.t 4)⟩,
   ⟨(some 95),some (92,true),.call bI [(.t 93),(.t 94)]⟩,
   oJ 96 (.pick (.t 92) (.t 95) (.c (.p (.bool false)))),
   oM 97 96,
   ⟨(some 98),some (97,true),.ld (some 1) (.t 14)⟩,
   ⟨(some 99),some (97,true),.ld (some 1) (.t 16)⟩,
   ⟨(some 100),some (97,true),.call bI [(.t 98),(.t 99)]⟩,
   oJ 101 (.pick (.t 97) (.t 100) (.c (.p (.bool false)))),
   oM 2 101])
 (.ret))))))))))))⟩
theorem su:ah Tryz.prog mj=some lP:=by kernel_rfl
end Go.Proofs.YtaopbokndkdieaaGreatDoor
