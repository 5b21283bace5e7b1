/-
  Contracts and lemmas that the card needs, part 4.
-/
import Derived.Test.YthfklclcofcpiaaGreatDoorCq3
import Derived.Test.YthfklclcofcpiaaGreatDoorRows
namespace Go.Proofs.YthfklclcofcpiaaGreatDoor
open Go Go.Aw
set_option maxRecDepth 100000
abbrev gG:FuncId:=49
abbrev gZ:FuncId:=121
abbrev dV:FuncId:=96
abbrev ia:FuncId:=70
abbrev cu:FuncId:=50
abbrev jW:FuncId:=27
abbrev lE:FuncId:=14
abbrev ep:FuncId:=5
abbrev cT:FuncId:=56
abbrev dA:FuncId:=126
abbrev bG:FuncId:=108
abbrev dz:FuncId:=80
abbrev bn:FuncId:=57
abbrev fG:FuncId:=32
abbrev fZ:FuncId:=17
abbrev bA:FuncId:=7
abbrev ic:FuncId:=71
abbrev jA:FuncId:=138
abbrev iV:FuncId:=134
abbrev lw:FuncId:=122
abbrev fp:FuncId:=135
abbrev lG:FuncId:=123
abbrev bY:FuncId:=97
abbrev gP:FuncId:=136
abbrev gM:FuncId:=141
abbrev ff:FuncId:=139
abbrev fV:FuncId:=140
abbrev ef:FuncId:=137
abbrev hZ:FuncId:=124
abbrev bF:FuncId:=98
abbrev mM:FuncId:=72
abbrev dS:FuncId:=99
abbrev lR:FuncId:=73
abbrev eN:FuncId:=51
abbrev jS:FuncId:=74
abbrev bg:FuncId:=75
abbrev de:FuncId:=100
abbrev hY:FuncId:=101
abbrev dL:FuncId:=76
abbrev dK:FuncId:=103
abbrev cg:FuncId:=102
abbrev bS:FuncId:=77
abbrev jX:FuncId:=52
abbrev eO:FuncId:=28
abbrev kx:FuncId:=15
abbrev gO:FuncId:=78
abbrev cY:FuncId:=53
abbrev kz:FuncId:=29
abbrev bX:FuncId:=54
abbrev bE:FuncId:=30
abbrev cm:FuncId:=105
abbrev dm:FuncId:=104
abbrev lD:FuncId:=125
abbrev dD:FuncId:=106
abbrev eY:FuncId:=107
abbrev gN:FuncId:=79
abbrev hU:FuncId:=55
abbrev bp:FuncId:=31
abbrev fh:FuncId:=16
abbrev dJ:FuncId:=6
abbrev dE:FuncId:=81
abbrev eC:FuncId:=127
abbrev eE:FuncId:=109
abbrev dH:FuncId:=128
abbrev cM:FuncId:=111
abbrev cF:FuncId:=110
abbrev bW:FuncId:=82
abbrev cz:FuncId:=112
abbrev bP:FuncId:=83
abbrev bO:FuncId:=129
abbrev bt:FuncId:=113
abbrev fq:FuncId:=130
abbrev kE:FuncId:=132
abbrev jx:FuncId:=133
abbrev fm:FuncId:=120
abbrev eb:FuncId:=93
abbrev gW:FuncId:=115
abbrev cd:FuncId:=114
abbrev cn:FuncId:=85
abbrev fR:FuncId:=116
abbrev eu:FuncId:=117
abbrev jo:FuncId:=86
abbrev bc:FuncId:=84
abbrev eJ:FuncId:=58
abbrev cr:FuncId:=87
abbrev fd:FuncId:=88
abbrev jP:FuncId:=59
abbrev bR:FuncId:=60
abbrev cI:FuncId:=61
abbrev iI:FuncId:=94
abbrev bL:FuncId:=90
abbrev bw:FuncId:=118
abbrev cQ:FuncId:=89
abbrev bi:FuncId:=62
abbrev eM:FuncId:=33
abbrev nj:FuncId:=18
abbrev cw:FuncId:=38
abbrev bM:FuncId:=35
abbrev aV:FuncId:=25
abbrev bj:FuncId:=37
abbrev co:FuncId:=36
abbrev aC:FuncId:=34
abbrev dF:FuncId:=40
abbrev da:FuncId:=39
abbrev dQ:FuncId:=19
abbrev fO:FuncId:=41
abbrev aX:FuncId:=20
abbrev bN:FuncId:=8
abbrev gw:FuncId:=63
abbrev gR:FuncId:=131
abbrev dY:FuncId:=119
abbrev gS:FuncId:=91
abbrev cX:FuncId:=64
abbrev jJ:FuncId:=42
abbrev lO:FuncId:=21
abbrev cb:FuncId:=9
abbrev cG:FuncId:=43
abbrev dk:FuncId:=44
abbrev ec:FuncId:=65
abbrev cR:FuncId:=45
abbrev iZ:FuncId:=22
abbrev dp:FuncId:=10
abbrev fw:FuncId:=46
abbrev eq:FuncId:=66
abbrev cZ:FuncId:=47
abbrev jb:FuncId:=23
abbrev dj:FuncId:=11
abbrev fe:FuncId:=3
@[reducible] def qc(a:Nat)(b:Option (Nat × Bool))(c:AI):CO:=⟨some a,b,c⟩
@[reducible] def qd(a:Nat)(b:AI):CO:=qc a none b
@[reducible] def qf(a:Nat)(b:AOp):CO:=qd a (.mov b)
@[reducible] def qg(a:List CO)(b:AK):AK:= .seq (.reg a) b
@[reducible] def qh(a b:Nat):CO:=qf a (.t b)
@[reducible] def qi(a:IntKind)(b:Int):AV:= .p (.int a b)
@[reducible] def qj(a:Int):AV:=qi .i64 a
@[reducible] def qk(a b:Nat):AI:= .fldA a (.t b)
@[reducible] def ql(a:Option Nat)(b:Nat):AI:= .ld a (.t b)
@[reducible] def qm(a:Int):AOp:= .c (qj a)
@[reducible] def qn(a:Nat)(b:Nat × Bool)(c:AI):CO:=qc a (some b) c
@[reducible] def qo(a:BinOp)(b:Nat)(c:AOp):AI:= .bin a (.t b) c
@[reducible] def qp(a:Nat)(b c:AK):AK:= .cond (.t a) b c
@[reducible] def qq(a:Nat)(b:Option Nat)(c:Nat):CO:=qd a (ql b c)
@[reducible] def qr:PV:= .bool false
@[reducible] def qt(a:Nat)(b:BinOp)(c:Nat)(d:AOp):CO:=qd a (qo b c d)
@[reducible] def qu(a:Nat)(b:FuncId)(c:List AOp):CO:=qd a (.call b c)
@[reducible] def qv(a b c:Nat):CO:=qd a (qk b c)
@[reducible] def qw(a b:Nat):CO:=qq a none b
@[reducible] def qx(a:List CO)(b c:AK):AK:= .seq (qg a b) c
@[reducible] def qy(a:PV):AOp:= .c (.p a)
@[reducible] def qz(a:List CO):AK:=qg a .ret
@[reducible] def qA(a:Nat)(b:BinOp)(c:Nat)(d:Int):CO:=qt a b c (qm d)
@[reducible] def qB(a:Nat)(b:Int):CO:=qf a (qm b)
@[reducible] def qC:AOp:=qy qr
@[reducible] def qD(a:Nat)(b:AK):AK:=qp a b .skip
@[reducible] def qE(a b:Nat)(c:AOp):AI:= .idxS a (.t b) c
@[reducible] def qF(a:Option (Nat × Bool))(b:AI):CO:=⟨none,a,b⟩
@[reducible] def qG(a b c:Nat):CO:=qq a (some b) c
@[reducible] def qH(a:AOp):AI:= .len false a
@[reducible] def qI(a:Nat)(b c:AOp):AI:= .pick (.t a) b c
@[reducible] def qJ(a b:Nat)(c:Bool)(d:AI):CO:=qn a (b,c) d
@[reducible] def qK(a b:Nat)(c:AI):CO:=qJ a b true c
@[reducible] def qL(a b:Nat)(c:AI):CO:=qJ a b false c
@[reducible] def qM(a:AI):CO:=qF none a
@[reducible] def qN(a:Nat)(b c:AOp):CO:=qM (.st a b c)
@[reducible] def qO(a:Nat)(b:AK):AK:= .blk a (.loop b)
@[reducible] def qP:PV:= .bool true
@[reducible] def qQ:PV:= .str []
@[reducible] def qR(a:Nat)(b:List CO):AK:=qD a (qz b)
@[reducible] def qS(a:Nat)(b c:AK):AK:= .seq (.blk a b) c
@[reducible] def qT(a b:List CO)(c:AK):AK:=qg a (qg b c)
@[reducible] def qU(a b:Nat)(c:AOp):CO:=qN a (.t b) c
@[reducible] def qV(a b c:Nat):CO:=qU a b (.t c)
@[reducible] def qW(a:Nat)(b:AK)(c:Nat):AK:=qp a b (.exit c)
@[reducible] def qX(a:Nat):AI:=qH (.t a)
@[reducible] def qY(a:Nat)(b:BinOp)(c d:Nat):CO:=qt a b c (.t d)
@[reducible] def qZ(a b c:Nat)(d:AOp):CO:=qd a (qE b c d)
@[reducible] def q6(a:Nat)(b:List AV):CO:=qd a (.alloc b)
@[reducible] def q7(a b c d:Nat):CO:=qZ a b c (.t d)
@[reducible] def q8(a b:Nat):AI:= .box a (.t b)
@[reducible] def q9(a:Nat)(b:AK)(c:List CO):AK:=qS a b (.reg c)
@[reducible] def wa(a b:Nat):CO:=qd a (qX b)
@[reducible] def wb(a b:Nat)(c:Int):CO:=qA a .add b c
@[reducible] def wc(a:Nat):AI:=ql none a
@[reducible] def wd(a:Nat):AI:= .not (.t a)
@[reducible] def we:AV:=qj 0
@[reducible] def wg(a b:Nat)(c d:AOp):CO:=qd a (qI b c d)
@[reducible] def wh(a b:Nat):AK:=qW a .skip b
@[reducible] def wj:AV:= .p qQ
@[reducible] def wl(a:Nat):AI:= .mov (.t a)
@[reducible] def wm(a:Nat):CO:=qf a qC
@[reducible] def wn(a:List CO)(b:Nat)(c:List CO)(d:AK):AK:=qx a (qR b c) d
@[reducible] def wo:AOp:=qy qP
@[reducible] def wq(a:Nat):CO:=qh a 0
@[reducible] def wt(a:Nat):CO:=qh a 1
@[reducible] def wu(a b:Nat)(c:Int):CO:=qA a .eql b c
@[reducible] def wv(a b c:Nat):CO:=qY a .lss b c
@[reducible] def ww(a b c:Nat):CO:=qd a (q8 b c)
@[reducible] def wx(a b:Nat):AI:= .ext a (.t b)
@[reducible] def wy(a:List CO)(b:Nat)(c d:AK):AK:=qx a (qO b c) d
@[reducible] def wz(a:Nat):CO:=qB a 0
@[reducible] def wA(a:Nat):AI:= .nilck (.t a)
@[reducible] def wB:CO:=wm 4
@[reducible] def wD(a:BinOp)(b:Nat)(c:Int):AI:=qo a b (qm c)
@[reducible] def wE(a b c:Nat):CO:=qK a b (wc c)
@[reducible] def wF(a:List CO)(b:Nat)(c:AK)(d:List CO):AK:=wy a b c (qz d)
@[reducible] def wG(a b c d:Nat):CO:=qK a b (qk c d)
@[reducible] def wH(a:Nat):CO:=qh a 5
@[reducible] def wI(a:List CO)(b c:Nat)(d:AK):AK:=qx a (wh b c) d
@[reducible] def wJ(a b c:Nat):CO:=qd a (wx b c)
@[reducible] def wK(a b:Nat):CO:=qv a 0 b
@[reducible] def wL(a:List CO)(b c d:Nat)(e:AK)(f:List CO):AK:=wI a b c (q9 d e f)
@[reducible] def wM(a:Nat)(b:AOp):List AOp:=[.t a,b]
@[reducible] def wN(a:Nat)(b:FuncId)(c:Nat)(d:AOp):CO:=qu a b (wM c d)
@[reducible] def wP(a:Nat)(b:FuncId)(c d:Nat):CO:=wN a b c (.t d)
@[reducible] def wQ(a b c:Nat)(d:AOp):CO:=wg a b (.t c) d
@[reducible] def wR:RV:= .t 4
@[reducible] def wS(a:Nat):List AOp:=[.t a]
@[reducible] def wT(a:Nat)(b:FuncId)(c:Nat):CO:=qu a b (wS c)
@[reducible] def wU(a b:Nat):CO:=qd a (wd b)
@[reducible] def wV:CO:=wz 4
@[reducible] def wW(a b:Nat)(c:List AV)(d:Nat)(e:List (Nat × Nat × AOp)):CO:=qd a (.bsl b c d e)
@[reducible] def wX:AOp:= .c .nils
@[reducible] def wY(a:CO)(b c:Nat):List CO:=[a,qh b c]
@[reducible] def wZ(a b:Nat)(c:AOp)(d:Nat):CO:=wg a b c (.t d)
@[reducible] def w6(a:Option Nat)(b c:Nat):CO:=qM (.chk a b c)
@[reducible] def w7(a b:Nat):CO:=wb a b 1
@[reducible] def w8(a b:Nat)(c:Int):CO:=qA a .lss b c
@[reducible] def w9(a b c:Nat):CO:=qL a b (wc c)
@[reducible] def xa(a:BinOp)(b:Nat)(c:AOp):AI:= .bins a (.t b) c
@[reducible] def xb(a b c d:Nat):CO:=qL a b (qk c d)
@[reducible] def xc(a b:List CO)(c:Nat)(d:List CO)(e:AK):AK:=qg a (wn b c d e)
@[reducible] def xd:RV:= .t 2
@[reducible] def xe(a b:List CO):AK:=qg a (qz b)
@[reducible] def xf(a:List CO)(b:Nat)(c:List CO):AK:=qg a (qR b c)
@[reducible] def xg(a b:Nat)(c:BinOp)(d:Nat)(e:Int):CO:=qK a b (wD c d e)
@[reducible] def xh(a b c:Nat):CO:=qL a b (wl c)
@[reducible] def xi(a:List CO)(b:Nat)(c:List CO)(d e f:Nat)(g:AK)(h i:List CO):AK:=wF a b (wL c d e f g h) i
@[reducible] def xj(a b:Nat):CO:=qd a (wA b)
@[reducible] def xk(a b:Nat):CO:=qv a 2 b
@[reducible] def xl(a b:Nat):CO:=qV 1 a b
@[reducible] def xm(a:List CO)(b c:AK):AK:=qg a (.seq b c)
@[reducible] def xn(a b:CO)(c d:Nat):List CO:=[a,b,qh c d]
@[reducible] def xo(a:CO)(b c d e:Nat):List CO:=xn a (w7 b c) d e
@[reducible] def xp(a b c:Nat):CO:=wQ a b c qC
@[reducible] def xq:CO:=wm 2
@[reducible] def xr(a b:Nat):CO:=w6 none a b
@[reducible] def xt(a:List CO)(b:Nat)(c d:AK):AK:=qg a (qp b c d)
@[reducible] def xu(a b:Nat):CO:=qv a 3 b
@[reducible] def xv:AOp:=qm 0
@[reducible] def xw(a:Nat):CO:=qB a (-1)
@[reducible] def xx:CO:=xw 4
@[reducible] def xy(a:List CO)(b:Nat)(c:List CO)(d e f:Nat)(g:AK)(h:CO)(i j k l:Nat)(m:List CO):AK:=xi a b c d e f g (xo h i j k l) m
@[reducible] def xz(a b:Nat)(c:FuncId)(d:List AOp):CO:=qK a b (.call c d)
@[reducible] def xA:CO:=wz 5
@[reducible] def xB(a b:Nat):RV:= .c a (some b)
@[reducible] def xC(a b c:Nat):CO:=qK a b (wl c)
@[reducible] def xD(a b c:Nat):CO:=wZ a b wo c
@[reducible] def xE:List CO:=[wB]
@[reducible] def xF:List RV:=[wR]
@[reducible] def xG(a b:Nat):CO:=ww a b 0
@[reducible] def xH(a b c:Nat)(d:AOp):AI:= .app a b (.t c) d
@[reducible] def xI(a b:Nat)(c:AOp):CO:=wN a bR b c
@[reducible] def xJ(a b:Nat):CO:=wT a cG b
@[reducible] def xK(a:List AOp):AI:= .call ic a
@[reducible] def xL(a:Nat):CO:=qh a 4
@[reducible] def xM(a:Nat)(b:List AOp):AI:= .callv (.t a) b
@[reducible] def xN(a b:Nat):CO:=qG a 4 b
@[reducible] def xO(a:Nat):CO:=qh a 3
@[reducible] def xP(a:Nat)(b:List CO):AK:=qD a (.reg b)
@[reducible] def xQ:CO:=wq 12
@[reducible] def xR:List AV:=[.nils]
@[reducible] def xS(a:List UInt8):AOp:=qy (.str a)
@[reducible] def xT(a b:Nat)(c:Int)(d e:Nat):List CO:=wY (wu a b c) d e
@[reducible] def xU(a b:Nat):CO:=qv a 1 b
def gA:FK:=⟨28,xF,qT [wV] [wt 6,wq 7,wa 8 7,qY 9 .sub 6 8,qh 1 9] (wn [wt 10,w8 11 10 0] 11 [xx] (xy [xA] 0 [wH 12,wq 13,wa 14 13,wv 15 12 14] 15 0 1 (qT [wt 18,wq 19,wH 20,q7 21 1 19 20,qw 22 21,qd 23 (.len true (.t 22)),qY 24 .sub 18 23,qh 1 24] [wt 25,w8 26 25 0] (qR 26 [xx])) (wH 16) 17 16 5 17 (wY (wt 27) 4 27)))⟩
theorem sD:ae Tryz.prog gG=some gA:=by kernel_rfl
def kq:FK:=⟨19,xF,qT [xG 2 4,wV] [wt 5,xk 6 2,qw 7 6,qd 8 (.len true (.t 7)),qY 9 .sub 5 8,qh 1 9] (wn [wt 10,w8 11 10 0] 11 [xx] (xc [xu 12 2,qw 13 12,wt 14,wP 15 dV 13 14,qh 1 15] [wt 16,w8 17 16 0] 17 [xx] (qz (wY (wt 18) 4 18))))⟩
theorem yt:ae Tryz.prog gZ=some kq:=by kernel_rfl
def jg:FK:=⟨27,xF,qT [wV] [wt 6,wq 7,wa 8 7,qY 9 .sub 6 8,qh 1 9] (wn [wt 10,w8 11 10 0] 11 [xx] (xy [xA] 0 [wH 12,wq 13,wa 14 13,wv 15 12 14] 15 0 1 (qT [wq 18,wH 19,q7 20 4 18 19,xN 21 20,wt 22,wP 23 gZ 21 22,qh 1 23] [wt 24,w8 25 24 0] (qR 25 [xx])) (wH 16) 17 16 5 17 (wY (wt 26) 4 26)))⟩
theorem ve:ae Tryz.prog dV=some jg:=by kernel_rfl
def kb:FK:=⟨31,xF,qT [xG 2 5,wV] [wt 5,xU 6 2,qw 7 6,qd 8 (.len true (.t 7)),qY 9 .sub 5 8,qh 1 9] (wn [wt 10,w8 11 10 0] 11 [xx] (xc [xk 12 2,qw 13 12,wt 14,wP 15 dV 13 14,qh 1 15] [wt 16,w8 17 16 0] 17 [xx] (xc [xu 18 2,qw 19 18,wt 20,wP 21 cu 19 20,qh 1 21] [wt 22,w8 23 22 0] 23 [xx] (xc [qv 24 4 2,qw 25 24,wt 26,wP 27 cu 25 26,qh 1 27] [wt 28,w8 29 28 0] 29 [xx] (qz (wY (wt 30) 4 30))))))⟩
theorem yA:ae Tryz.prog ia=some kb:=by kernel_rfl
def jk:FK:=⟨27,xF,qT [wV] [wt 6,wq 7,wa 8 7,qY 9 .sub 6 8,qh 1 9] (wn [wt 10,w8 11 10 0] 11 [xx] (xy [xA] 0 [wH 12,wq 13,wa 14 13,wv 15 12 14] 15 0 1 (qT [wq 18,wH 19,q7 20 5 18 19,qG 21 5 20,wt 22,wP 23 ia 21 22,qh 1 23] [wt 24,w8 25 24 0] (qR 25 [xx])) (wH 16) 17 16 5 17 (wY (wt 26) 4 26)))⟩
theorem ya:ae Tryz.prog cu=some jk:=by kernel_rfl
def mX:FK:=⟨25,xF,qT [xG 2 3,wV] [wt 5,wK 6 2,qw 7 6,qd 8 (.len true (.t 7)),qY 9 .sub 5 8,qh 1 9] (wn [wt 10,w8 11 10 0] 11 [xx] (xc [xU 12 2,qw 13 12,wt 14,wP 15 gG 13 14,qh 1 15] [wt 16,w8 17 16 0] 17 [xx] (xc [xk 18 2,qw 19 18,wt 20,wP 21 cu 19 20,qh 1 21] [wt 22,w8 23 22 0] 23 [xx] (qz (wY (wt 24) 4 24)))))⟩
theorem BZ:ae Tryz.prog jW=some mX:=by kernel_rfl
def lJ:FK:=⟨27,xF,qT [wV] [wt 6,wq 7,wa 8 7,qY 9 .sub 6 8,qh 1 9] (wn [wt 10,w8 11 10 0] 11 [xx] (xy [xA] 0 [wH 12,wq 13,wa 14 13,wv 15 12 14] 15 0 1 (qT [wq 18,wH 19,q7 20 3 18 19,qG 21 3 20,wt 22,wP 23 jW 21 22,qh 1 23] [wt 24,w8 25 24 0] (qR 25 [xx])) (wH 16) 17 16 5 17 (wY (wt 26) 4 26)))⟩
theorem Ae:ae Tryz.prog lE=some lJ:=by kernel_rfl
def kN:FK:=⟨12,xF,qT [xG 2 1,wV] [wK 5 2,qw 6 5,wt 7,wP 8 lE 6 7,qh 1 8] (wn [wt 9,w8 10 9 0] 10 [xx] (qz (wY (wt 11) 4 11)))⟩
theorem sj:ae Tryz.prog ep=some kN:=by kernel_rfl
def lf:FK:=⟨22,[xd],qT [qf 2 wX] [wq 5,wa 6 5,qd 7 (.mks 1 16 [wj] (.t 6) (.t 6)),qh 3 7] (xy [wV] 0 [xL 8,wq 9,wa 10 9,wv 11 8 10] 11 0 1 (.reg [xO 14,xL 15,wq 16,xL 17,q7 18 1 16 17,qw 19 18,q7 20 1 14 15,xl 20 19]) (xL 12) 13 12 4 13 (wY (xO 21) 2 21))⟩
theorem rR:ae Tryz.prog cT=some lf:=by kernel_rfl
def kD:FK:=⟨18,[xB 2 4],qT [xG 1 4,q6 2 [we,we,wj,.nils]] [q6 3 [we,we,wj,.nils]] (qT [wK 4 1,qw 5 4,wK 6 3,xl 6 5] [xU 7 1,qw 8 7,xU 9 3,xl 9 8] (qT [xk 10 1,qw 11 10,xk 12 3,xl 12 11] [xu 13 1,qw 14 13,wT 15 bG 14,xu 16 3,xl 16 15] (qz [xN 17 3,qV 4 2 17])))⟩
theorem oC:ae Tryz.prog dA=some kD:=by kernel_rfl
def iW:FK:=⟨23,[xd],qT [qf 2 wX] [wq 5,wa 6 5,qd 7 (.mks 4 56 [we,we,wj,.nils] (.t 6) (.t 6)),qh 3 7] (xy [wV] 0 [xL 8,wq 9,wa 10 9,wv 11 8 10] 11 0 1 (.reg [xO 14,xL 15,wq 16,xL 17,q7 18 4 16 17,xN 19 18,wT 20 dA 19,q7 21 4 14 15,qV 4 21 20]) (xL 12) 13 12 4 13 (wY (xO 22) 2 22))⟩
theorem mT:ae Tryz.prog bG=some iW:=by kernel_rfl
def kh:FK:=⟨23,[xB 2 5],qT [xG 1 5,q6 2 [we,wj,.nils,.nils,.nils]] [q6 3 [we,wj,.nils,.nils,.nils]] (qT [wK 4 1,qw 5 4,wK 6 3,xl 6 5] [xU 7 1,qw 8 7,xU 9 3,xl 9 8] (qT [xk 10 1,qw 11 10,wT 12 bG 11,xk 13 3,xl 13 12] [xu 14 1,qw 15 14,wT 16 bn 15,xu 17 3,xl 17 16] (xe [qv 18 4 1,qw 19 18,wT 20 bn 19,qv 21 4 3,xl 21 20] [qG 22 5 3,qV 5 2 22])))⟩
theorem og:ae Tryz.prog dz=some kh:=by kernel_rfl
def ji:FK:=⟨23,[xd],qT [qf 2 wX] [wq 5,wa 6 5,qd 7 (.mks 5 96 [we,wj,.nils,.nils,.nils] (.t 6) (.t 6)),qh 3 7] (xy [wV] 0 [xL 8,wq 9,wa 10 9,wv 11 8 10] 11 0 1 (.reg [xO 14,xL 15,wq 16,xL 17,q7 18 5 16 17,qG 19 5 18,wT 20 dz 19,q7 21 5 14 15,qV 5 21 20]) (xL 12) 13 12 4 13 (wY (xO 22) 2 22))⟩
theorem mu:ae Tryz.prog bn=some ji:=by kernel_rfl
def mt:FK:=⟨16,[xB 2 3],qT [xG 1 3,q6 2 [wj,.nils,.nils]] [q6 3 [wj,.nils,.nils]] (qT [wK 4 1,qw 5 4,wK 6 3,xl 6 5] [xU 7 1,qw 8 7,wT 9 cT 8,xU 10 3,xl 10 9] (xe [xk 11 1,qw 12 11,wT 13 bn 12,xk 14 3,xl 14 13] [qG 15 3 3,qV 3 2 15]))⟩
theorem sX:ae Tryz.prog fG=some mt:=by kernel_rfl
def lz:FK:=⟨23,[xd],qT [qf 2 wX] [wq 5,wa 6 5,qd 7 (.mks 3 64 [wj,.nils,.nils] (.t 6) (.t 6)),qh 3 7] (xy [wV] 0 [xL 8,wq 9,wa 10 9,wv 11 8 10] 11 0 1 (.reg [xO 14,xL 15,wq 16,xL 17,q7 18 3 16 17,qG 19 3 18,wT 20 fG 19,q7 21 3 14 15,qV 3 21 20]) (xL 12) 13 12 4 13 (wY (xO 22) 2 22))⟩
theorem pQ:ae Tryz.prog fZ=some lz:=by kernel_rfl
def gC:FK:=⟨9,[xB 2 1],qT [xG 1 1,q6 2 xR] [q6 3 xR] (xe [wK 4 1,qw 5 4,wT 6 fZ 5,wK 7 3,xl 7 6] [qG 8 1 3,xl 2 8])⟩
theorem kZ:ae Tryz.prog bA=some gC:=by kernel_rfl
def mC:FK:=⟨15,[.t 6],xe [wm 6] [wq 7,wt 8,qY 9 .geq 7 8,qh 10 9,xC 11 10 0,xC 12 10 2,qK 13 10 (qo .leq 11 (.t 12)),xp 14 10 13,qh 6 14]⟩
theorem BY:ae Tryz.prog ic=some mC:=by kernel_rfl
def no:FK:=⟨18,xF,qg [wV] (xy [xA] 0 [wH 6,wq 7,qd 8 (.len true (.t 7)),wv 9 6 8] 9 0 1 (xf [xQ,wH 13,qd 14 (.idxStr (.t 12) (.t 13)),wt 15,qY 16 .eql 14 15] 16 (wY (wH 17) 4 17)) (wH 10) 11 10 5 11 [xx])⟩
theorem uu:ae Tryz.prog jA=some no:=by kernel_rfl
def mK:FK:=⟨28,[xd],qg [wz 2] (qS 0 (xt [wq 4,qt 5 .geq 4 (.c (qi .u8 97)),wH 6,xC 7 6 0,qK 8 6 (qo .leq 7 (.c (qi .u8 122))),xp 9 6 8,qh 3 9] 3 (qz [qB 2 1]) (xt [wq 11,qt 12 .geq 11 (.c (qi .u8 48)),qh 13 12,xC 14 13 0,qK 15 13 (qo .leq 14 (.c (qi .u8 57))),xp 16 13 15,qh 10 16] 10 (qz [qB 2 2]) (xt [wq 18,qu 19 jA [xS [40,41,123,125,59,44,43,45,42,47,37,60,61,38,33,64],.t 18],qA 20 .geq 19 0,qh 17 20] 17 (qz [qB 2 3]) (xf [wq 22,qt 23 .eql 22 (.c (qi .u8 32)),qh 24 23,xh 25 24 0,qL 26 24 (qo .eql 25 (.c (qi .u8 10))),xD 27 24 26,qh 21 27] 21 [qB 2 4])))) (qz [wz 2]))⟩
theorem vT:ae Tryz.prog iV=some mK:=by kernel_rfl
def rj:FK:=⟨21,xF,qg xE (xy [xA] 0 [wH 6,wq 7,qd 8 (.len true (.t 7)),wv 9 6 8] 9 0 1 (xf [xQ,wH 13,qd 14 (.idxStr (.t 12) (.t 13)),wT 15 iV 14,wt 16,qY 17 .neq 15 16] 17 xE) (wH 10) 11 10 5 11 [wq 18,qd 19 (.len true (.t 18)),qA 20 .gtr 19 0,qh 4 20])⟩
theorem zY:ae Tryz.prog lw=some rj:=by kernel_rfl
def lW:FK:=⟨2,[.t 0],xe [qf 0 wX] [wW 1 1 [wj] 9 [(0,1,xS [102,110]),(1,1,xS [108,101,116]),(2,1,xS [115,97,121]),(3,1,xS [112,117,116]),(4,1,xS [105,102]),(5,1,xS [101,108,115,101]),(6,1,xS [108,111,111,112]),(7,1,xS [98,97,99,107]),(8,1,xS [100,111])],wt 0]⟩
theorem tH:ae Tryz.prog fp=some lW:=by kernel_rfl
def pJ:FK:=⟨18,[xd],qT [xq] [qu 5 fp [],wH 3] (xy [wV] 0 [xL 6,xO 7,wa 8 7,wv 9 6 8] 9 0 1 (xf [xO 12,xL 13,q7 14 1 12 13,qw 15 14,wq 16,qd 17 (xa .eql 15 (.t 16))] 17 [qf 2 wo]) (xL 10) 11 10 4 11 [xq])⟩
theorem As:ae Tryz.prog lG=some pJ:=by kernel_rfl
def oF:FK:=⟨15,[xd],xe [xq] [wq 3,wN 4 lw 3 (qm 1),xL 5,xC 6 5 0,qK 7 5 (.len true (.t 6)),xg 8 5 .leq 7 4,xp 9 5 8,qh 10 9,xC 11 10 0,xz 12 10 lG (wS 11),qK 13 10 (wd 12),xp 14 10 13,qh 2 14]⟩
theorem yD:ae Tryz.prog bY=some oF:=by kernel_rfl
def ke:FK:=⟨5,[xd],xc [wz 2] [wq 3,wu 4 3 4] 4 [qB 2 2] (qz [qB 2 1])⟩
theorem yl:ae Tryz.prog gP=some ke:=by kernel_rfl
def cN:FK:=⟨13,[xd,.t 3],qg [wz 2,wz 3] (qx [wq 4] (.blk 0 (qx (xT 6 4 1 5 6) (qp 5 .skip (.reg (xT 7 4 2 5 7))) (qp 5 (qz [wz 2,wz 3]) (qx (xT 9 4 11 8 9) (qp 8 .skip (.reg (xT 10 4 12 8 10))) (qp 8 (qz [qB 2 1,qB 3 1]) (xf (xT 12 4 13 11 12) 11 [wz 2,qB 3 3])))))) (qz [qB 2 2,qB 3 2]))⟩
theorem yh:ae Tryz.prog gM=some cN:=by kernel_rfl
def gL:FK:=⟨86,xF,qT [xG 2 4,wB] [wK 10 2,qw 11 10,wT 12 gM 11,qh 9 12,wJ 13 0 9,wJ 14 1 9,qh 5 13,qh 6 14] (wn [wt 15,w8 16 15 1,qh 17 16,xb 18 17 0 2,w9 19 17 18,qL 20 17 (xK [.t 19,qm 1,qm 13]),qL 21 17 (wd 20),xD 22 17 21,qh 23 22,xb 24 23 3 2,w9 25 23 24,qL 26 23 (qX 25),xh 27 23 5,xh 28 23 6,qL 29 23 (xK [.t 26,.t 27,.t 28]),qL 30 23 (wd 29),xD 31 23 30] 31 xE (xc [wK 32 2,qw 33 32,wu 34 33 2,qh 35 34,xb 36 35 0 2,w9 37 35 36,qL 38 35 (wD .eql 37 13),xD 39 35 38,qh 7 39] [qh 40 7,xk 41 2,qw 42 41,wT 43 bY 42,qd 44 (.beq true (.t 40) (.t 43)),qh 45 44,xh 46 45 7,qL 47 45 (wd 46),xh 48 45 47,wG 49 48 2 2,wE 50 48 49,qK 51 48 (xa .neq 50 (qy qQ)),qL 52 45 (qI 48 (.t 51) qC),xD 53 45 52,qh 54 53,xb 55 54 1 2,w9 56 54 55,qL 57 54 (xK [.t 56,xv,qm 255]),qL 58 54 (wd 57),xD 59 54 58,qh 60 59,xb 61 60 0 2,w9 62 60 61,qL 63 60 (wD .neq 62 1),xh 64 60 63,wG 65 64 1 2,wE 66 64 65,xg 67 64 .neq 66 0,qL 68 60 (qI 64 (.t 67) qC),xD 69 60 68] 69 xE (xy [wz 8] 0 [qh 70 8,xu 71 2,qw 72 71,wa 73 72,wv 74 70 73] 74 0 1 (xf [xu 77 2,qw 78 77,qh 79 8,q7 80 4 78 79,xN 81 80,wt 82,qA 83 .sub 82 1,wP 84 ff 81 83,wU 85 84] 85 xE) (qh 75 8) 76 75 8 76 [qf 4 wo])))⟩
theorem oD:ae Tryz.prog ff=some gL:=by kernel_rfl
def nb:FK:=⟨21,[xd],qT [xG 1 4,wz 2] [qB 3 1] (xy [wV] 0 [xL 5,xu 6 1,qw 7 6,wa 8 7,wv 9 5 8] 9 0 1 (.reg [xO 12,xu 13 1,qw 14 13,xL 15,q7 16 4 14 15,xN 17 16,wT 18 fV 17,qY 19 .add 12 18,qh 3 19]) (xL 10) 11 10 4 11 (wY (xO 20) 2 20))⟩
theorem vV:ae Tryz.prog fV=some nb:=by kernel_rfl
def kU:FK:=⟨10,[xd],xe [xG 1 4,xq] [xN 3 1,wN 4 ff 3 (qm 6),xL 5,qK 6 5 (ql (some 4) 1),xz 7 5 fV (wS 6),xg 8 5 .leq 7 30,xp 9 5 8,qh 2 9]⟩
theorem sQ:ae Tryz.prog ef=some kU:=by kernel_rfl
def gU:FK:=⟨108,xF,xc [xG 2 5,wB] [wt 7,w8 8 7 1,qh 9 8,xb 10 9 0 2,w9 11 9 10,qL 12 9 (xK [.t 11,qm 1,qm 8]),qL 13 9 (wd 12),xD 14 9 13,qh 15 14,xb 16 15 2 2,xb 19 15 0 2,w9 17 15 16,qL 18 15 (qX 17),w9 20 15 19,qL 21 15 (.qcall gP (wS 20)),qL 22 15 (qo .neq 18 (.t 21)),xD 23 15 22] 23 xE (xc [wK 24 2,qw 25 24,wu 26 25 1,qh 27 26,xb 28 27 0 2,w9 29 27 28,qL 30 27 (wD .eql 29 2),xD 31 27 30,qh 5 31] [wH 32,xU 33 2,qw 34 33,wT 35 bY 34,qd 36 (.beq true (.t 32) (.t 35)),qh 37 36,xh 38 37 5,qL 39 37 (wd 38),xh 40 37 39,wG 41 40 1 2,wE 42 40 41,qK 43 40 (xa .neq 42 (qy qQ)),qL 44 37 (qI 40 (.t 43) qC),xD 45 37 44] 45 xE (wy [wz 6] 0 (wL [qh 46 6,xk 47 2,qw 48 47,wa 49 48,wv 50 46 49] 50 0 1 (xf [xk 53 2,qw 54 53,qh 55 6,q7 56 4 54 55,xN 57 56,wT 58 ef 57,wU 59 58] 59 xE) (xo (qh 51 6) 52 51 6 52)) (wn [wK 60 2,qw 61 60,wu 62 61 8,qh 63 62,wG 64 63 2 2,wE 65 63 64,qK 66 63 (qE 4 65 xv),wG 67 63 0 66,wE 68 63 67,xg 69 63 .neq 68 13,xp 70 63 69] 70 xE (wn [qv 71 4 2,qw 72 71,wa 73 72,qA 74 .gtr 73 0,qh 75 74,wG 76 75 0 2,wE 77 75 76,xg 78 75 .neq 77 5,xp 79 75 78,qh 80 79,xb 81 80 3 2,w9 82 80 81,qL 83 80 (qX 82),qL 84 80 (wD .gtr 83 0),xh 85 80 84,wG 86 85 0 2,wE 87 85 86,xg 88 85 .neq 87 5,qL 89 80 (qI 85 (.t 88) qC),xh 90 80 89,wG 91 90 0 2,wE 92 90 91,xg 93 90 .neq 92 6,qL 94 80 (qI 90 (.t 93) qC),xD 95 80 94] 95 xE (qz [xu 96 2,qw 97 96,wt 98,qA 99 .sub 98 1,wP 100 bF 97 99,qh 101 100,wG 102 101 4 2,wE 103 101 102,xC 104 101 1,xg 105 101 .sub 104 1,xz 106 101 bF (wM 103 (.t 105)),xp 107 101 106,qh 4 107])))))⟩
theorem oM:ae Tryz.prog hZ=some gU:=by kernel_rfl
def mL:FK:=⟨19,xF,qg xE (xy [xA] 0 [wH 6,wq 7,wa 8 7,wv 9 6 8] 9 0 1 (xf [xQ,wH 13,q7 14 5 12 13,qG 15 5 14,wt 16,wP 17 hZ 15 16,wU 18 17] 18 xE) (wH 10) 11 10 5 11 [qf 4 wo])⟩
theorem uM:ae Tryz.prog bF=some mL:=by kernel_rfl
def tg:FK:=⟨32,[xd],qg [xG 1 3,xq] (xy [wz 3] 0 [xO 4,xU 5 1,qw 6 5,wa 7 6,wv 8 4 7] 8 0 1 (xf [xU 11 1,qw 12 11,xO 13,q7 14 1 12 13,qw 15 14,wT 16 bY 15,wU 17 16] 17 [xq]) (xO 9) 10 9 3 10 [wK 18 1,qw 19 18,wT 20 bY 19,qh 21 20,wG 22 21 1 1,wE 23 21 22,qK 24 21 (qX 23),xg 25 21 .leq 24 3,xp 26 21 25,qh 27 26,wG 28 27 2 1,wE 29 27 28,xz 30 27 bF (wM 29 (qm 4)),xp 31 27 30,qh 2 31])⟩
theorem Bc:ae Tryz.prog mM=some tg:=by kernel_rfl
def jh:FK:=⟨29,[xd],qT [wz 2] (xn (wq 5) (wa 6 5) 3 6) (xy [wV] 0 [xL 7,wq 8,wa 9 8,wv 10 7 9] 10 0 1 (.reg [xO 13,wq 14,xL 15,q7 16 5 14 15,xu 17 16,wq 21,xL 22,q7 23 5 21 22,qv 24 4 23,qw 18 17,qw 25 24,wT 19 dS 18,xr 24 25,qY 20 .add 13 19,wT 26 dS 25,qY 27 .add 20 26,qh 3 27]) (xL 11) 12 11 4 12 (wY (xO 28) 2 28))⟩
theorem mF:ae Tryz.prog dS=some jh:=by kernel_rfl
def pE:FK:=⟨22,[xd],qT [xG 1 1,wz 2] [wz 3] (xy [wV] 0 [xL 5,wK 6 1,qw 7 6,wa 8 7,wv 9 5 8] 9 0 1 (.reg [xO 12,wK 13 1,qw 14 13,xL 15,q7 16 3 14 15,xk 17 16,qw 18 17,wT 19 dS 18,qY 20 .add 12 19,qh 3 20]) (xL 10) 11 10 4 11 (wY (xO 21) 2 21))⟩
theorem zK:ae Tryz.prog lR=some pE:=by kernel_rfl
def iC:FK:=⟨26,[xd],xc [xG 1 1,xq] [wK 4 1,qw 5 4,wa 6 5,qu 7 ic [.t 6,qm 1,qm 4],wU 8 7] 8 [xq] (xy [wz 3] 0 [xO 9,wK 10 1,qw 11 10,wa 12 11,wv 13 9 12] 13 0 1 (xf [wK 16 1,qw 17 16,xO 18,q7 19 3 17 18,qG 20 3 19,wT 21 mM 20,wU 22 21] 22 [xq]) (xO 14) 15 14 3 15 [qG 23 1 1,wT 24 lR 23,qA 25 .leq 24 40,qh 2 25])⟩
theorem nQ:ae Tryz.prog eN=some iC:=by kernel_rfl
def tB:FK:=⟨22,xF,qg [xG 2 1,wV] (xy [xA] 0 [wH 6,wK 7 2,qw 8 7,wa 9 8,wv 10 6 9] 10 0 1 (xf [wK 13 2,qw 14 13,wH 15,q7 16 3 14 15,wK 17 16,qw 18 17,wt 19,qd 20 (xa .eql 18 (.t 19))] 20 (wY (wH 21) 4 21)) (wH 11) 12 11 5 12 [xx])⟩
theorem Cd:ae Tryz.prog jS=some tB:=by kernel_rfl
def fC:FK:=⟨13,[],qg [wq 4,xj 5 4,qv 6 4 5,qw 7 6,wu 8 7 0] (xP 8 [wq 9,wt 10,xj 11 9,qv 12 4 11,xl 12 10])⟩
theorem oV:ae Tryz.prog bg=some fC:=by kernel_rfl
def fz:FK:=⟨27,xF,qg [wV] (xi [wq 6,xj 7 6,xk 8 7,qw 9 8,wa 10 9,qA 11 .sub 10 1,qh 5 11] 0 [wH 12,qA 13 .geq 12 0] 13 0 1 (xf [wq 16,xj 17 16,xk 18 17,qw 19 18,wH 20,q7 21 3 19 20,wK 22 21,qw 23 22,wt 24,qd 25 (xa .eql 23 (.t 24))] 25 (wY (wH 26) 4 26)) (xn (wH 14) (qA 15 .sub 14 1) 5 15) [xx])⟩
theorem py:ae Tryz.prog de=some fz:=by kernel_rfl
def oJ:FK:=⟨11,[xd],qT [qf 2 (qy qQ)] [wq 4,qA 5 .rem 4 26,wH 3] (qz [xO 6,xO 7,w7 8 7,qd 9 (.slStr (xS [97,98,99,100,101,102,103,104,105,106,107,108,109,110,111,112,113,114,115,116,117,118,119,120,121,122]) (some (.t 6)) (some (.t 8))),qd 10 (.bins .add (xS [118]) (.t 9)),qh 2 10])⟩
theorem yK:ae Tryz.prog hY=some oJ:=by kernel_rfl
def fN:AK:=qT [qf 6 (qy qQ)] [wq 8,wt 9,wP 10 de 8 9,qh 7 10] (.cut (qg [qh 11 7,qA 12 .geq 11 0,qh 13 12,xC 14 13 0,qK 15 13 (wA 14),wG 16 13 2 15,wE 17 13 16,xC 18 13 7,qK 19 13 (qE 3 17 (.t 18)),wG 20 13 2 19,wE 21 13 20,xC 22 13 2,qK 23 13 (qo .eql 21 (.t 22)),xp 24 13 23] (xP 24 [wq 25,wN 26 bg 25 (qm 2)])) (qT [wq 27,wq 28,xj 29 28,xk 30 29,wt 32,wq 33,xj 34 33,xu 35 34,qh 37 2,qw 31 30,qw 36 35,qd 38 (.bld [wj,we,we] [(0,1,.t 32),(1,1,.t 36),(2,1,.t 37)]),qd 39 (.bslP 3 [wj,we,we] 1 [(0,3,.t 38)]),qd 40 (xH 3 32 31 (.t 39)),xj 41 27,xk 42 41,xl 42 40] [wq 43,wq 44,xj 45 44,xu 46 45,qw 47 46,w7 48 47,xj 49 43,xu 50 49,xl 50 48] (qz [wq 51,xj 52 51,xu 53 52,qw 54 53,qA 55 .sub 54 1,wT 56 hY 55,qh 6 56])))
def fU:FK:=⟨57,[.t 6],(AK.whole fN)⟩
theorem pA:ae Tryz.prog dL=some fU:=by kernel_rfl
def jI:FK:=⟨23,xF,qT [qf 4 (qy qQ)] [wq 6,wt 7,wP 8 de 6 7,qh 5 8] (qx [wH 9,w8 10 9 0] (qD 10 (xe [wq 11,wN 12 bg 11 (qm 3)] (wY (wt 13) 4 13))) (qz [wq 14,xj 15 14,xk 16 15,qw 17 16,wH 18,q7 19 3 17 18,xU 20 19,qw 21 20,wT 22 hY 21,qh 4 22]))⟩
theorem pW:ae Tryz.prog dK=some jI:=by kernel_rfl
def fx:AK:=qg [ww 3 4 1,q6 4 [we,we,wj,.nils]] (.cut (qg [wK 8 3,qw 9 8,wu 10 9 2] (xP 10 [wq 11,xk 12 3,qw 13 12,wP 14 dK 11 13,xk 15 3,xl 15 14])) (.cut (qg [wK 16 3,qw 17 16,wu 18 17 13] (qD 18 (qT [wq 19,xj 20 19,wK 21 20,xk 23 3,qG 22 1 21,qw 24 23,wP 25 jS 22 24,qh 5 25] [wH 26,w8 27 26 0,qh 28 27,xh 29 28 5,xh 30 28 0,qL 31 28 (wA 30),xb 32 28 1 31,w9 33 28 32,qL 34 28 (qo .geq 29 (.t 33)),xD 35 28 34] (qp 35 (.reg [wq 36,wN 37 bg 36 (qm 4)]) (qg [wq 38,xj 39 38,wK 40 39,wK 41 40,wH 43,xu 48 3,qw 42 41,q7 44 3 42 43,xU 45 44,qw 46 45,wa 47 46,qw 49 48,wa 50 49,qY 51 .neq 47 50] (xP 51 [wq 52,wN 53 bg 52 (qm 5)])))))) (qg (wY (wW 54 4 [we,we,wj,.nils] 0 []) 6 54) (wy [wz 7] 0 (wL [qh 55 7,xu 56 3,qw 57 56,wa 58 57,wv 59 55 58] 59 0 1 (.reg [qh 62 6,wq 63,xu 64 3,qw 65 64,qh 66 7,q7 67 4 65 66,xN 68 67,wP 69 cg 63 68,wW 70 4 [we,we,wj,.nils] 1 [(0,4,.t 69)],qd 71 (xH 4 56 62 (.t 70)),qh 6 71]) (xo (qh 60 7) 61 60 7 61)) (xe [qh 72 6,xu 73 3,xl 73 72] [xN 74 3,qV 4 4 74])))))
def ft:FK:=⟨75,[xB 4 4],(AK.whole fx)⟩
theorem pc:ae Tryz.prog cg=some ft:=by kernel_rfl
def eD:AK:=qT [qf 6 wX] (wY (wW 13 5 [we,wj,.nils,.nils,.nils] 0 []) 7 13) (qg [wq 14,xj 15 14,xk 16 15,qw 17 16,wa 18 17,qh 8 18] (wy [wz 9] 0 (wL [qh 19 9,wt 20,wa 21 20,wv 22 19 21] 22 0 1 (qT [wt 25,qh 26 9,q7 27 5 25 26,qG 28 5 27,q6 10 [we,wj,.nils,.nils,.nils],qV 5 10 28] (wY (wW 29 4 [we,we,wj,.nils] 0 []) 11 29) (wy [wz 12] 2 (wL [qh 30 12,xk 31 10,qw 32 31,wa 33 32,wv 34 30 33] 34 2 3 (.reg [qh 37 11,wq 38,xk 39 10,qw 40 39,qh 41 12,q7 42 4 40 41,xN 43 42,wP 44 cg 38 43,wW 45 4 [we,we,wj,.nils] 1 [(0,4,.t 44)],qd 46 (xH 4 56 37 (.t 45)),qh 11 46]) (xo (qh 35 12) 36 35 12 36)) (.cut (.reg [qh 47 11,xk 48 10,xl 48 47]) (.cut (qg [wK 49 10,qw 50 49,wu 51 50 1] (xP 51 [wq 52,xU 53 10,qw 54 53,qh 55 2,qu 56 dL [.t 52,.t 54,.t 55],xU 57 10,xl 57 56])) (.cut (qg [wK 58 10,qw 59 58,wu 60 59 2] (xP 60 [wq 61,xU 62 10,qw 63 62,wP 64 dK 61 63,xU 65 10,xl 65 64])) (qT [wq 66,xu 67 10,qw 68 67,qh 69 2,w7 70 69,qu 71 bS [.t 66,.t 68,.t 70],xu 72 10,xl 72 71] [wq 73,qv 74 4 10,qw 75 74,qh 76 2,w7 77 76,qu 78 bS [.t 73,.t 75,.t 77],qv 79 4 10,xl 79 78] (.reg [qh 80 7,qG 81 5 10,wW 82 5 [we,wj,.nils,.nils,.nils] 1 [(0,5,.t 81)],qd 83 (xH 5 96 80 (.t 82)),qh 7 83]))))))) (xo (qh 23 9) 24 23 9 24)) (.cut (qg [qh 84 2,qA 85 .gtr 84 0] (xP 85 [wq 86,wq 87,xj 88 87,xk 89 88,qw 90 89,qh 91 8,qd 92 (.slS 3 (.t 90) none (some (.t 91))),xj 93 86,xk 94 93,xl 94 92])) (qz (wY (qh 95 7) 6 95)))))
def eF:FK:=⟨96,[.t 6],(AK.whole eD)⟩
theorem nZ:ae Tryz.prog bS=some eF:=by kernel_rfl
def nc:AK:=qT [xG 2 1,q6 4 [wj,.nils,.nils],xA,wz 6] [qG 11 1 2,wt 12,qd 13 (.bld [.nils,we,.nils,we,we] [(0,1,.t 11),(1,1,.t 12)]),ww 14 5 13,qh 7 14] (.cut (.reg [wK 15 2,qw 16 15,wt 17,q7 18 3 16 17,qG 19 3 18,q6 8 [wj,.nils,.nils],qV 3 8 19]) (.cut (qg [qG 20 1 2,wK 21 8,qw 22 21,wP 23 jS 20 22,wt 24,qY 25 .neq 23 24] (xP 25 [qh 26 7,wN 27 bg 26 (qm 2)])) (qg (wY (wW 28 1 [wj] 0 []) 9 28) (wy [wz 10] 0 (wL [qh 29 10,xU 30 8,qw 31 30,wa 32 31,wv 33 29 32] 33 0 1 (.reg [qh 36 9,qh 37 7,xU 38 8,qw 39 38,qh 40 10,q7 41 1 39 40,qw 42 41,qu 43 dL [.t 37,.t 42,xv],wW 44 1 [wj] 1 [(0,1,.t 43)],qd 45 (xH 1 16 36 (.t 44)),qh 9 45]) (xo (qh 34 10) 35 34 10 35)) (qT [qh 46 9,xU 47 8,xl 47 46] [qh 48 7,xk 49 8,qw 50 49,qu 51 bS [.t 48,.t 50,xv],xk 52 8,xl 52 51] (qz [qh 54 7,xj 55 54,qv 56 4 55,qh 58 7,xj 59 58,xu 60 59,qG 53 3 8,qw 57 56,qw 61 60,qV 3 4 53,xr 56 57,xr 60 61,qh 5 57,qh 6 61]))))))
def ml:FK:=⟨62,[xB 4 3,.t 5,.t 6],(AK.whole nc)⟩
theorem Bi:ae Tryz.prog jX=some ml:=by kernel_rfl
def iE:FK:=⟨27,[xd],xc [xG 1 1,wz 2] [qG 7 1 1,wT 8 eN 7,wU 9 8] 9 [qB 2 1] (xy [wz 3] 0 [xO 10,wK 11 1,qw 12 11,wa 13 12,wv 14 10 13] 14 0 1 (qT [qG 18 1 1,xO 19,wP 20 jX 18 19,qh 17 20,wJ 21 0 17,wJ 22 1 17,wJ 23 2 17,q6 4 [wj,.nils,.nils],qV 3 4 21,qh 5 22,qh 6 23] [wH 24,qA 25 .neq 24 0] (qR 25 (wY (wH 26) 2 26))) (xO 15) 16 15 3 16 [wz 2])⟩
theorem oa:ae Tryz.prog eO=some iE:=by kernel_rfl
def ou:FK:=⟨6,[xd],xe [xG 1 1,xq] [qG 3 1 1,wT 4 eO 3,wu 5 4 0,wH 2]⟩
theorem yj:ae Tryz.prog kx=some ou:=by kernel_rfl
def oh:FK:=⟨25,[xB 2 4],qT [xG 1 4,q6 2 [we,we,wj,.nils]] [wW 5 4 [we,we,wj,.nils] 0 [],wH 3] (wy [wV] 0 (wL [xL 6,xu 7 1,qw 8 7,wa 9 8,wv 10 6 9] 10 0 1 (.reg [xO 13,xu 14 1,qw 15 14,xL 16,q7 17 4 15 16,xN 18 17,wT 19 gO 18,wW 20 4 [we,we,wj,.nils] 1 [(0,4,.t 19)],qd 21 (xH 4 56 13 (.t 20)),qh 3 21]) (xo (xL 11) 12 11 4 12)) (xe [xO 22,xu 23 1,xl 23 22] [xN 24 1,qV 4 2 24]))⟩
theorem yE:ae Tryz.prog gO=some oh:=by kernel_rfl
def mR:FK:=⟨52,[xd],qT [qf 2 wX] (wY (wW 8 5 [we,wj,.nils,.nils,.nils] 0 []) 3 8) (xy [wV] 0 [xL 9,wq 10,wa 11 10,wv 12 9 11] 12 0 1 (qT [wq 15,xL 16,q7 17 5 15 16,qG 18 5 17,q6 5 [we,wj,.nils,.nils,.nils],qV 5 5 18] (wY (wW 19 4 [we,we,wj,.nils] 0 []) 6 19) (wy [wz 7] 2 (wL [qh 20 7,xk 21 5,qw 22 21,wa 23 22,wv 24 20 23] 24 2 3 (.reg [qh 27 6,xk 28 5,qw 29 28,qh 30 7,q7 31 4 29 30,xN 32 31,wT 33 gO 32,wW 34 4 [we,we,wj,.nils] 1 [(0,4,.t 33)],qd 35 (xH 4 56 27 (.t 34)),qh 6 35]) (xo (qh 25 7) 26 25 7 26)) (.reg [xO 36,wK 37 5,xU 39 5,qh 41 6,xu 42 5,qv 45 4 5,qw 38 37,qw 40 39,qw 43 42,qw 46 45,wT 44 cY 43,xr 37 38,xr 39 40,xr 45 46,wT 47 cY 46,xr 37 38,xr 39 40,qd 48 (.bld [we,wj,.nils,.nils,.nils] [(0,1,.t 38),(1,1,.t 40),(2,1,.t 41),(3,1,.t 44),(4,1,.t 47)]),wW 49 5 [we,wj,.nils,.nils,.nils] 1 [(0,5,.t 48)],qd 50 (xH 5 96 36 (.t 49)),qh 3 50]))) (xL 13) 14 13 4 14 (wY (xO 51) 2 51))⟩
theorem ux:ae Tryz.prog cY=some mR:=by kernel_rfl
def oy:FK:=⟨35,[xB 2 1],qT [xG 1 1,q6 2 xR] [qd 6 (.bld xR []),q6 3 xR,xl 3 6] (xy [wV] 0 [xL 7,wK 8 1,qw 9 8,wa 10 9,wv 11 7 10] 11 0 1 (qg [wK 14 1,qw 15 14,xL 16,q7 17 3 15 16,qG 18 3 17,q6 5 [wj,.nils,.nils],qV 3 5 18] (.reg [wK 19 3,wK 21 5,xU 24 5,xk 27 5,qw 20 19,qw 22 21,qw 25 24,qw 28 27,wW 23 1 [wj] 0 [],xr 19 20,xr 21 22,xr 24 25,xr 27 28,qd 26 (xH 1 16 23 (.t 25)),xr 19 20,xr 21 22,xr 27 28,wT 29 cY 28,xr 19 20,xr 21 22,qd 30 (.bld [wj,.nils,.nils] [(0,1,.t 22),(1,1,.t 26),(2,1,.t 29)]),wW 31 3 [wj,.nils,.nils] 1 [(0,3,.t 30)],xr 19 20,qd 32 (xH 3 64 20 (.t 31)),wK 33 3,xl 33 32])) (xL 12) 13 12 4 13 [qG 34 1 3,xl 2 34])⟩
theorem yv:ae Tryz.prog kz=some oy:=by kernel_rfl
def mh:FK:=⟨14,xF,xe [xG 2 4,wB] [wK 5 2,qw 6 5,wu 7 6 1,qh 8 7,wG 9 8 1 2,wE 10 8 9,xC 11 8 1,qK 12 8 (qo .eql 10 (.t 11)),xp 13 8 12,qh 4 13]⟩
theorem BA:ae Tryz.prog bX=some mh:=by kernel_rfl
def ki:AK:=qT [qf 2 wX] (wY (wW 7 5 [we,wj,.nils,.nils,.nils] 0 []) 3 7) (xy [wV] 0 [xL 8,wq 9,wa 10 9,wv 11 8 10] 11 0 1 (qT [wq 14,xL 15,q7 16 5 14 15,qG 17 5 16,q6 5 [we,wj,.nils,.nils,.nils],qV 5 5 17] [xk 18 5,qw 19 18,qZ 20 4 19 xv,xN 21 20,q6 6 [we,we,wj,.nils],qV 4 6 21] (qT [xu 22 5,qw 23 22,wT 24 bE 23,xu 25 5,xl 25 24] [qv 26 4 5,qw 27 26,wT 28 bE 27,qv 29 4 5,xl 29 28] (.cut (qg [wK 30 5,qw 31 30,wu 32 31 6,qh 33 32,qK 34 33 (ql (some 4) 6),xz 35 33 bX (wM 34 xv),xp 36 33 35] (qD 36 (.exit 1))) (.cut (qg [wK 37 5,qw 38 37,wu 39 38 5,qh 40 39,wG 41 40 0 6,wE 42 40 41,xg 43 40 .eql 42 1,xp 44 40 43] (qD 44 (xt [xU 45 6,qw 46 45,qA 47 .neq 46 0] 47 (.reg [wW 48 5 [we,wj,.nils,.nils,.nils] 0 [],qv 49 4 5,xl 49 48]) (.reg [wW 50 5 [we,wj,.nils,.nils,.nils] 0 [],xu 51 5,xl 51 50])))) (qT [xO 52,qG 53 5 5,wW 54 5 [we,wj,.nils,.nils,.nils] 1 [(0,5,.t 53)],qd 55 (xH 5 96 52 (.t 54)),qh 3 55] [wK 56 5,qw 57 56,wu 58 57 7] (qD 58 (.exit 0))))))) (xL 12) 13 12 4 13 (wY (xO 59) 2 59))
def kC:FK:=⟨60,[xd],(AK.whole ki)⟩
theorem yN:ae Tryz.prog bE=some kC:=by kernel_rfl
def mN:FK:=⟨4,[xd],xc [wz 2] [wq 3] 3 [qB 2 1] (qz [wz 2])⟩
theorem vn:ae Tryz.prog cm=some mN:=by kernel_rfl
def rr:FK:=⟨5,[xB 2 4],xe [q6 2 [we,we,wj,.nils]] [wq 3,qd 4 (.bld [we,we,wj,.nils] [(0,1,qm 1),(1,1,.t 3)]),qV 4 2 4]⟩
theorem Af:ae Tryz.prog dm=some rr:=by kernel_rfl
def rk:FK:=⟨50,[.t 6,.t 7],qg [wz 6,wz 7] (qx [wq 8] (.blk 0 (xt (xT 10 8 3 9 10) 9 (qz [wt 11,qh 12 2,qY 13 .add 11 12,qA 14 .rem 13 256,qh 6 14,wz 7]) (xt (xT 16 8 4 15 16) 15 (qz [wt 17,qh 18 2,qY 19 .sub 17 18,wb 20 19 256,qA 21 .rem 20 256,qh 6 21,wz 7]) (xt (xT 23 8 5 22 23) 22 (qz [wt 24,qh 25 2,qY 26 .mul 24 25,qA 27 .rem 26 256,qh 6 27,wz 7]) (xt (xT 29 8 8 28 29) 28 (qz [wt 30,qh 31 2,wv 32 30 31,wT 33 cm 32,qh 6 33,wz 7]) (xf (xT 35 8 9 34 35) 34 [wt 36,qh 37 2,qY 38 .eql 36 37,wT 39 cm 38,qh 6 39,wz 7])))))) (wn [qh 40 2,wu 41 40 0] 41 [wz 6,qB 7 1] (wn [wq 42,wu 43 42 6] 43 [wt 44,qh 45 2,qY 46 .quo 44 45,qh 6 46,wz 7] (qz [wt 47,qh 48 2,qY 49 .rem 47 48,qh 6 49,wz 7]))))⟩
theorem zG:ae Tryz.prog lD=some rk:=by kernel_rfl
def kG:FK:=⟨92,[.t 6,.t 7],qg [xG 3 4,wz 6,wz 7] (qx [wK 12 3,qw 13 12] (.blk 0 (xt (xT 15 13 1 14 15) 14 (qz [xU 16 3,qw 17 16,qh 6 17,wz 7]) (qg (xT 19 13 2 18 19) (qD 18 (qg [wz 8] (qO 1 (wL [qh 20 8,wt 21,wa 22 21,wv 23 20 22] 23 1 2 (xf [wt 26,qh 27 8,q7 28 1 26 27,xk 30 3,qw 29 28,qw 31 30,qd 32 (xa .eql 29 (.t 31))] 32 [qh 33 2,qh 34 8,q7 35 1 33 34,qw 36 35,qh 6 36,wz 7]) (xo (qh 24 8) 25 24 8 25)))))))) (xc [xu 38 3,qw 39 38,qZ 40 4 39 xv,xN 41 40,wt 42,qh 43 2,qu 44 dD [.t 41,.t 42,.t 43],qh 37 44,wJ 45 0 37,wJ 46 1 37,qh 9 45,qh 10 46] [qh 47 10,qA 48 .neq 47 0] 48 (xn (qh 49 10) (wz 6) 7 49) (wn [wK 50 3,qw 51 50,wu 52 51 11] 52 [qh 53 9,wu 54 53 0,wT 55 cm 54,qh 56 10,qh 6 55,qh 7 56] (wn [wK 57 3,qw 58 57,wu 59 58 10,qh 60 59,xC 61 60 9,xg 62 60 .eql 61 0,xp 63 60 62] 63 (xn (qh 64 10) (wz 6) 7 64) (xc [xu 66 3,qw 67 66,qZ 68 4 67 (qm 1),xN 69 68,wt 70,qh 71 2,qu 72 dD [.t 69,.t 70,.t 71],qh 65 72,wJ 73 0 65,wJ 74 1 65,qh 11 73,qh 10 74] [qh 75 10,qA 76 .neq 75 0] 76 (xn (qh 77 10) (wz 6) 7 77) (wn [wK 78 3,qw 79 78,wu 80 79 10] 80 [qh 81 11,qA 82 .neq 81 0,wT 83 cm 82,qh 84 10,qh 6 83,qh 7 84] (qz [wK 85 3,qw 86 85,qh 87 9,qh 88 11,qu 89 lD [.t 86,.t 87,.t 88],wJ 90 0 89,wJ 91 1 89,qh 6 90,qh 7 91])))))))⟩
theorem oe:ae Tryz.prog dD=some kG:=by kernel_rfl
def eU:AK:=xc [xG 1 4,xq] [wK 4 1,qw 5 4,wu 6 5 12,qh 7 6,xb 8 7 0 1,w9 9 7 8,qL 10 7 (wD .eql 9 13),xD 11 7 10] 11 [xq] (.cut (xf [wK 12 1,qw 13 12,wu 14 13 6,qh 15 14,xb 16 15 0 1,w9 17 15 16,qL 18 15 (wD .eql 17 7),xD 19 15 18,qh 20 19,wG 21 20 3 1,wE 22 20 21,qK 23 20 (qE 4 22 (qm 1)),wG 24 20 0 23,wE 25 20 24,xg 26 20 .neq 25 1,xC 27 20 26,xb 28 27 3 1,w9 29 27 28,qL 30 27 (qE 4 29 (qm 1)),xb 31 27 1 30,w9 32 27 31,qL 33 27 (wD .eql 32 0),qK 34 20 (qI 27 wo (.t 33)),xp 35 20 34] 35 [xq]) (xy [wz 3] 0 [xO 36,xu 37 1,qw 38 37,wa 39 38,wv 40 36 39] 40 0 1 (xf [xu 43 1,qw 44 43,xO 45,q7 46 4 44 45,xN 47 46,wT 48 eY 47,wU 49 48] 49 [xq]) (xO 41) 42 41 3 42 [qf 2 wo]))
def eZ:FK:=⟨50,[xd],(AK.whole eU)⟩
theorem ym:ae Tryz.prog eY=some eZ:=by kernel_rfl
def bD:AK:=qg [xG 1 4,q6 2 [we,we,wj,.nils]] (qx [xu 8 1,qw 9 8,wa 10 9,wu 11 10 1,qh 12 11,wG 13 12 0 1,wE 14 12 13,xg 15 12 .eql 14 11,xp 16 12 15] (qD 16 (xc [xu 17 1,qw 18 17,qZ 19 4 18 xv,xN 20 19,q6 3 [we,we,wj,.nils],qV 4 3 20] [wK 21 3,qw 22 21,wu 23 22 1] 23 [xU 24 3,qw 25 24,wu 26 25 0,wT 27 cm 26,wT 28 dm 27,qV 4 2 28] (wn [wK 29 3,qw 30 29,wu 31 30 11,qh 32 31,wG 33 32 3 3,wE 34 32 33,qK 35 32 (qE 4 34 xv),wG 36 32 0 35,wE 37 32 36,xg 38 32 .eql 37 11,xp 39 32 38] 39 [xu 40 3,qw 41 40,qZ 42 4 41 xv,xN 43 42,qV 4 2 43] (qz [xN 44 1,qV 4 2 44])))) (wn [wK 45 1,qw 46 45,qu 47 ic [.t 46,qm 3,qm 10],wU 48 47] 48 [xN 49 1,qV 4 2 49] (qT [xu 50 1,qw 51 50,qZ 52 4 51 xv,xN 53 52,q6 4 [we,we,wj,.nils],qV 4 4 53] [xu 54 1,qw 55 54,qZ 56 4 55 (qm 1),xN 57 56,q6 5 [we,we,wj,.nils],qV 4 5 57] (.cut (qg [wK 58 4,qw 59 58,wu 60 59 1,qh 61 60,wG 62 61 0 5,wE 63 61 62,xg 64 61 .eql 63 1,xp 65 61 64] (qD 65 (qT [xN 67 1,qu 68 dD [.t 67,wX,wX],qh 66 68,wJ 69 0 66,wJ 70 1 66,qh 6 69,qh 7 70] [qh 71 7,wu 72 71 0] (qR 72 [qh 73 6,wT 74 dm 73,qV 4 2 74])))) (qS 0 (xt [wK 76 1,qw 77 76,wu 78 77 10,qh 79 78,qK 80 79 (ql (some 4) 4),xz 81 79 bX (wM 80 xv),xp 82 79 81,qh 75 82] 75 (qz [qu 83 dm [xv],qV 4 2 83]) (qx [xN 85 5,wN 86 bX 85 xv,qh 87 86,wG 88 87 0 1,wE 89 87 88,xg 90 87 .eql 89 3,xC 91 87 90,xb 92 91 0 1,w9 93 91 92,qL 94 91 (wD .eql 93 4),qK 95 87 (qI 91 wo (.t 94)),xp 96 87 95,qh 84 96] (qp 84 .skip (.reg [xN 97 5,wN 98 bX 97 (qm 1),qh 99 98,wG 100 99 0 1,wE 101 99 100,xg 102 99 .eql 101 5,xC 103 99 102,xb 104 103 0 1,w9 105 103 104,qL 106 103 (wD .eql 105 6),qK 107 99 (qI 103 wo (.t 106)),xp 108 99 107,qh 84 108])) (qp 84 (qz [xN 109 4,qV 4 2 109]) (qx [xN 111 4,wN 112 bX 111 xv,qh 113 112,wG 114 113 0 1,wE 115 113 114,xg 116 113 .eql 115 3,xp 117 113 116,qh 110 117] (qp 110 .skip (.reg [xN 118 4,wN 119 bX 118 (qm 1),qh 120 119,wG 121 120 0 1,wE 122 120 121,xg 123 120 .eql 122 5,xp 124 120 123,qh 110 124])) (qp 110 (qz [xN 125 5,qV 4 2 125]) (xf [wK 127 1,qw 128 127,wu 129 128 5,qh 130 129,qK 131 130 (ql (some 4) 5),xz 132 130 bX (wM 131 xv),xC 133 130 132,qK 134 133 (ql (some 4) 4),xz 135 133 eY (wS 134),qK 136 130 (qI 133 (.t 135) qC),xC 137 130 136,qL 138 137 (ql (some 4) 4),qL 139 137 (.call bX (wM 138 xv)),xh 140 137 139,qK 141 140 (ql (some 4) 5),xz 142 140 eY (wS 141),qL 143 137 (qI 140 (.t 142) qC),qK 144 130 (qI 137 wo (.t 143)),xp 145 130 144,qh 126 145] 126 [qu 146 dm [xv],qV 4 2 146])))))) (qz [xN 147 1,qV 4 2 147]))))))
def bC:FK:=⟨148,[xB 2 4],(AK.whole bD)⟩
theorem yd:ae Tryz.prog gN=some bC:=by kernel_rfl
def kw:AK:=qT [xG 1 4,q6 2 [we,we,wj,.nils]] [wW 5 4 [we,we,wj,.nils] 0 [],wH 3] (wy [wV] 0 (wL [xL 6,xu 7 1,qw 8 7,wa 9 8,wv 10 6 9] 10 0 1 (.reg [xO 13,xu 14 1,qw 15 14,xL 16,q7 17 4 15 16,xN 18 17,wT 19 hU 18,wW 20 4 [we,we,wj,.nils] 1 [(0,4,.t 19)],qd 21 (xH 4 56 13 (.t 20)),qh 3 21]) (xo (xL 11) 12 11 4 12)) (.cut (.reg [xO 22,xu 23 1,xl 23 22]) (qz [xN 24 1,wT 25 gN 24,qV 4 2 25])))
def ky:FK:=⟨26,[xB 2 4],(AK.whole kw)⟩
theorem yy:ae Tryz.prog hU=some ky:=by kernel_rfl
def iX:AK:=qT [qf 2 wX] (wY (wW 8 5 [we,wj,.nils,.nils,.nils] 0 []) 3 8) (xy [wV] 0 [xL 9,wq 10,wa 11 10,wv 12 9 11] 12 0 1 (qT [wq 15,xL 16,q7 17 5 15 16,qG 18 5 17,q6 5 [we,wj,.nils,.nils,.nils],qV 5 5 18] (wY (wW 19 4 [we,we,wj,.nils] 0 []) 6 19) (wy [wz 7] 2 (wL [qh 20 7,xk 21 5,qw 22 21,wa 23 22,wv 24 20 23] 24 2 3 (.reg [qh 27 6,xk 28 5,qw 29 28,qh 30 7,q7 31 4 29 30,xN 32 31,wT 33 hU 32,wW 34 4 [we,we,wj,.nils] 1 [(0,4,.t 33)],qd 35 (xH 4 56 27 (.t 34)),qh 6 35]) (xo (qh 25 7) 26 25 7 26)) (.cut (.reg [qh 36 6,xk 37 5,xl 37 36]) (qT [xu 38 5,qw 39 38,wT 40 bp 39,xu 41 5,xl 41 40] [qv 42 4 5,qw 43 42,wT 44 bp 43,qv 45 4 5,xl 45 44] (.reg [xO 46,qG 47 5 5,wW 48 5 [we,wj,.nils,.nils,.nils] 1 [(0,5,.t 47)],qd 49 (xH 5 96 46 (.t 48)),qh 3 49]))))) (xL 13) 14 13 4 14 (wY (xO 50) 2 50))
def ju:FK:=⟨51,[xd],(AK.whole iX)⟩
theorem vl:ae Tryz.prog bp=some ju:=by kernel_rfl
def om:FK:=⟨42,[xB 4 1],qT [xG 2 1,q6 4 xR] [qG 7 1 2,wT 8 kz 7,q6 5 xR,xl 5 8] (xy [wz 6] 0 [qh 9 6,wK 10 5,qw 11 10,wa 12 11,wv 13 9 12] 13 0 1 (xt [wt 16] 16 (.reg [wK 17 5,qh 19 6,wK 20 5,qh 22 6,qw 18 17,qw 21 20,q7 23 3 21 22,xk 24 23,qw 25 24,wT 26 bE 25,xr 17 18,q7 27 3 18 19,xk 28 27,xl 28 26]) (.reg [wK 29 5,qh 31 6,wK 32 5,qh 34 6,qw 30 29,qw 33 32,q7 35 3 33 34,xk 36 35,qw 37 36,wT 38 bp 37,xr 29 30,q7 39 3 30 31,xk 40 39,xl 40 38])) (qh 14 6) 15 14 6 15 [qG 41 1 5,xl 4 41])⟩
theorem yH:ae Tryz.prog fh=some om:=by kernel_rfl
def jM:FK:=⟨10,[xB 2 1,.t 3],xc [xG 1 1,q6 2 xR,wm 3] [qG 4 1 1,wT 5 kx 4,wU 6 5] 6 [qd 7 (.bld xR []),xl 2 7,wm 3] (qz [qG 8 1 1,wN 9 fh 8 wo,xl 2 9,qf 3 wo])⟩
theorem rz:ae Tryz.prog dJ=some jM:=by kernel_rfl
def kB:FK:=⟨15,[.t 6],xe [wm 6] [wt 7,wq 8,qY 9 .leq 7 8,qh 10 9,xC 11 10 0,xC 12 10 2,qK 13 10 (qo .leq 11 (.t 12)),xp 14 10 13,qh 6 14]⟩
theorem yf:ae Tryz.prog dE=some kB:=by kernel_rfl
def iG:FK:=⟨21,[.t 6],qg [wz 6] (wF [wq 9,qd 10 (.rngS (.t 9))] 0 (xm [qd 11 (.nxtS (.t 10)),wJ 12 0 11] (wh 12 0) (.blk 1 (qT [wJ 13 1 11,wJ 14 2 11,qh 7 13,qh 8 14] [wt 15,qh 16 8,qd 17 (xM 15 (wS 16)),qh 18 2,qd 19 (.beq false (.t 17) (.t 18))] (qR 19 (wY (qh 20 7) 6 20))))) [xw 6])⟩
theorem nN:ae Tryz.prog eC=some iG:=by kernel_rfl
def iF:FK:=⟨8,xF,xe [wV] [wq 5,wt 6,qu 7 eC [.t 5,.t 6,wo],qh 4 7]⟩
theorem nR:ae Tryz.prog eE=some iF:=by kernel_rfl
def gh:FK:=⟨19,xF,qg [wV] (wF [wq 6,wa 7 6,wz 8] 0 (xm [wv 9 8 7] (wh 9 0) (q9 1 (qT (wY (qh 10 8) 5 10) [wt 11,xQ,wH 13,q7 14 1 12 13,qw 15 14,qd 16 (xa .eql 11 (.t 15))] (qR 16 (wY (wH 17) 4 17))) (wY (w7 18 8) 8 18))) [xx])⟩
theorem mb:ae Tryz.prog dH=some gh:=by kernel_rfl
def eX:FK:=⟨9,xF,xe xE [wq 5,wt 6,wP 7 dH 5 6,qA 8 .geq 7 0,qh 4 8]⟩
theorem kF:ae Tryz.prog cM=some eX:=by kernel_rfl
def lT:FK:=⟨9,[xd],xe [xq] [wq 3,qt 4 .lss 3 (.c (qi .i32 97)),xL 5,xh 6 5 0,qL 7 5 (qo .gtr 6 (.c (qi .i32 122))),xD 8 5 7,qh 2 8]⟩
theorem tI:ae Tryz.prog cF=some lT:=by kernel_rfl
def oP:FK:=⟨17,[xd],xe [xq] [wq 3,qd 4 (.len true (.t 3)),qu 5 dE [.t 4,qm 1,qm 4],wH 6,xC 7 6 0,xz 8 6 eE (wM 7 (.c (.fn (.func cF) []))),xg 9 6 .lss 8 0,xp 10 6 9,qh 11 10,qK 12 11 (.slA 9 1 (.c (.gp 0 0)) none none),xC 13 11 0,xz 14 11 cM (wM 12 (.t 13)),qK 15 11 (wd 14),xp 16 11 15,qh 2 16]⟩
theorem yw:ae Tryz.prog bW=some oP:=by kernel_rfl
def ex:FK:=⟨19,xF,qg [wV] (wF [wq 6,wa 7 6,wz 8] 0 (xm [wv 9 8 7] (wh 9 0) (q9 1 (qT (wY (qh 10 8) 5 10) [wt 11,xQ,wH 13,q7 14 1 12 13,qw 15 14,qd 16 (xM 11 (wS 15))] (qR 16 (wY (wH 17) 4 17))) (wY (w7 18 8) 8 18))) [xx])⟩
theorem jF:ae Tryz.prog cz=some ex:=by kernel_rfl
def dv:FK:=⟨9,xF,xe xE [wq 5,wt 6,wP 7 cz 5 6,qA 8 .geq 7 0,qh 4 8]⟩
theorem io:ae Tryz.prog bP=some dv:=by kernel_rfl
def du:FK:=⟨19,xF,qg [wV] (wF [wq 6,wa 7 6,wz 8] 0 (xm [wv 9 8 7] (wh 9 0) (q9 1 (qT (wY (qh 10 8) 5 10) [wt 11,xQ,wH 13,q7 14 5 12 13,qG 15 5 14,qd 16 (xM 11 (wS 15))] (qR 16 (wY (wH 17) 4 17))) (wY (w7 18 8) 8 18))) [xx])⟩
theorem iA:ae Tryz.prog bO=some du:=by kernel_rfl
def cP:FK:=⟨9,xF,xe xE [wq 5,wt 6,wP 7 bO 5 6,qA 8 .geq 7 0,qh 4 8]⟩
theorem gd:ae Tryz.prog bt=some cP:=by kernel_rfl
def aY:FK:=⟨20,[xd,.t 3,wR,.t 5],qg [wz 2,wm 3,wB,wm 5] (qx [wq 6] (.blk 0 (qx (xT 8 6 1 7 8) (qp 7 .skip (.reg (xT 9 6 2 7 9))) (qp 7 (qz [qB 2 1,qf 3 wo,wB,wm 5]) (qx (xT 11 6 3 10 11) (qp 10 .skip (xt (xT 12 6 7 10 12) 10 .skip (.reg (xT 13 6 8 10 13)))) (qp 10 (qz [qB 2 1,wm 3,wB,wm 5]) (xt (xT 15 6 4 14 15) 14 (qz [qB 2 2,wm 3,wB,wm 5]) (xt (xT 17 6 5 16 17) 16 (qz [qB 2 1,wm 3,qf 4 wo,qf 5 wo]) (xf (xT 19 6 6 18 19) 18 [qB 2 1,wm 3,qf 4 wo,wm 5])))))))) (qz [xw 2,wm 3,wB,wm 5]))⟩
theorem tL:ae Tryz.prog fq=some aY:=by kernel_rfl
def oc:FK:=⟨5,[xd],xe [xq] (xn (wq 3) (qu 4 dE [.t 3,xv,qm 255]) 2 4)⟩
theorem yG:ae Tryz.prog kE=some oc:=by kernel_rfl
def dZ:FK:=⟨20,[xd],qg [wz 2] (qS 0 (xt [qd 4 (.ld none (.c (.gp 1 0))),wq 5,qd 6 (.lk 0 (.agg [wj,we]) false (.t 4) (.t 5)),qd 7 (.fldv 1 none (.t 6)),qA 8 .gtr 7 0,qh 3 8] 3 (qz [qd 9 (.ld none (.c (.gp 1 0))),wq 10,qd 11 (.lk 0 (.agg [wj,we]) false (.t 9) (.t 10)),qd 12 (.fldv 1 none (.t 11)),qh 2 12]) (xf [wq 14,wu 15 14 11,qh 16 15,xh 17 16 0,qL 18 16 (wD .eql 17 12),xD 19 16 18,qh 13 19] 13 [qB 2 5])) (qz [qB 2 6]))⟩
theorem uX:ae Tryz.prog jx=some dZ:=by kernel_rfl
def iy:AK:=qT [xG 2 4,wV,xA,wm 6] [wz 7,wz 8] (.cut (.blk 0 (xt [wK 17 2,qw 18 17,wu 19 18 1,qh 16 19] 16 (xf [xU 20 2,qw 21 20,wT 22 kE 21,wU 23 22,qh 24 23,xb 25 24 2 2,w9 26 24 25,qL 27 24 (xa .neq 26 (qy qQ)),xD 28 24 27] 28 [wV,xA,wm 6]) (xt [wK 30 2,qw 31 30,wu 32 31 2,qh 29 32] 29 (xf [xk 33 2,qw 34 33,wT 35 bW 34,wU 36 35,qh 37 36,xb 38 37 1 2,w9 39 37 38,qL 40 37 (wD .neq 39 0),xD 41 37 40] 41 [wV,xA,wm 6]) (xt [wK 43 2,qw 44 43,wu 45 44 13,qh 42 45] 42 (qT [qB 8 3] [xk 46 2,qw 47 46,wT 48 bW 47,wU 49 48,qh 50 49,xb 51 50 1 2,w9 52 50 51,qL 53 50 (wD .neq 52 0),xD 54 50 53] (qR 54 [wV,xA,wm 6])) (xt [qd 56 (.ld none (.c (.gp 1 0))),wK 57 2,qw 58 57,qd 59 (.lk 0 (.agg [wj,we]) false (.t 56) (.t 58)),qd 60 (.fldv 1 none (.t 59)),qA 61 .gtr 60 0,qh 55 61] 55 (.reg [qB 7 2,qB 8 2]) (xt [wK 63 2,qw 64 63,wu 65 64 11,qh 66 65,xb 67 66 0 2,w9 68 66 67,qL 69 66 (wD .eql 68 12),xD 70 66 69,qh 62 70] 62 (.reg [qB 7 1,qB 8 1]) (qz [wV,xA,wm 6]))))))) (.cut (xf [wK 71 2,qw 72 71,wT 73 jx 72,w8 74 73 6,qh 75 74,wG 76 75 1 2,wE 77 75 76,xg 78 75 .neq 77 0,xC 79 75 78,xb 80 79 2 2,w9 81 79 80,qL 82 79 (xa .neq 81 (qy qQ)),qK 83 75 (qI 79 wo (.t 82)),xp 84 75 83,qh 85 84,xb 86 85 3 2,w9 87 85 86,qL 88 85 (qX 87),xh 89 85 7,xh 90 85 8,qL 91 85 (.call dE [.t 88,.t 89,.t 90]),qL 92 85 (wd 91),xD 93 85 92,qh 94 93,xh 95 94 1,qL 96 94 (wD .lss 95 1),xD 97 94 96] 97 [wV,xA,wm 6]) (qg [qB 9 1,qB 10 1] (wF [xu 98 2,qw 99 98,wa 100 99,wz 101] 1 (xm [wv 102 101 100] (wh 102 1) (q9 2 (qT [q7 103 4 99 101,xN 104 103,q6 12 [we,we,wj,.nils],qV 4 12 104] [xN 106 12,wt 107,qA 108 .sub 107 1,wP 109 fm 106 108,qh 105 109,wJ 110 0 105,wJ 111 1 105,wJ 112 2 105,qh 13 110,qh 14 111,qh 15 112] (wn [qh 113 15,wU 114 113] 114 [wV,xA,wm 6] (qg [qh 115 9,qh 116 13,qY 117 .add 115 116,qh 9 117] (.reg [qh 118 10,qh 119 14,w7 120 119,qd 121 (.mx (.t 118) (.t 120)),qh 10 121])))) (wY (w7 122 101) 101 122))) [qh 123 9,qh 124 10,qh 125 9,qA 126 .leq 125 30,qh 4 123,qh 5 124,qh 6 126]))))
def iz:FK:=⟨127,[wR,.t 5,.t 6],(AK.whole iy)⟩
theorem tP:ae Tryz.prog fm=some iz:=by kernel_rfl
def ln:FK:=⟨13,[xd],qT [xG 1 4,xq] [xN 7 1,wN 8 fm 7 (qm 6),qh 6 8,wJ 9 0 6,wJ 10 1 6,wJ 11 2 6,qh 3 9,qh 4 10,qh 5 11] (qz (wY (wH 12) 2 12))⟩
theorem sA:ae Tryz.prog eb=some ln:=by kernel_rfl
def gT:FK:=⟨91,xF,qT [xG 2 5,wB] [wK 12 2,qw 13 12,wT 14 fq 13,qh 11 14,wJ 15 0 11,wJ 16 1 11,wJ 17 2 11,wJ 18 3 11,qh 5 15,qh 6 16,qh 7 17,qh 8 18] (qS 0 (qx (xn (wt 20) (qA 21 .gtr 20 4) 19 21) (qp 19 .skip (xt [xk 22 2,qw 23 22,wa 24 23,wH 25,qY 26 .neq 24 25,qh 19 26] 19 .skip (xt [qh 27 6,qh 28 27,wG 29 28 1 2,wE 30 28 29,xz 31 28 bW (wS 30),qK 32 28 (wd 31),xp 33 28 32,qh 19 33] 19 .skip (xt [qh 34 6,wU 35 34,qh 36 35,wG 37 36 1 2,wE 38 36 37,qK 39 36 (xa .neq 38 (qy qQ)),xp 40 36 39,qh 19 40] 19 .skip (xt [qh 41 7,wU 42 41,qh 43 42,wG 44 43 3 2,wE 45 43 44,qK 46 43 (qX 45),xg 47 43 .gtr 46 0,xp 48 43 47,qh 19 48] 19 .skip (xt [qh 49 8,wU 50 49,qh 51 50,wG 52 51 4 2,wE 53 51 52,qK 54 51 (qX 53),xg 55 51 .gtr 54 0,xp 56 51 55,qh 19 56] 19 .skip (.reg [wK 57 2,qw 58 57,wu 59 58 8,qh 60 59,wG 61 60 2 2,wE 62 60 61,qK 63 60 (qE 4 62 xv),wG 64 60 0 63,wE 65 60 64,xg 66 60 .neq 65 13,xp 67 60 66,qh 19 67]))))))) (qR 19 xE)) (wF [xk 68 2,qw 69 68,wa 70 69,wz 71] 1 (xm [wv 72 71 70] (wh 72 1) (q9 2 (qT [q7 73 4 69 71,xN 74 73,q6 10 [we,we,wj,.nils],qV 4 10 74] [xN 75 10,wT 76 eb 75,wU 77 76] (qR 77 xE)) (wY (w7 78 71) 71 78))) [xu 79 2,qw 80 79,wt 81,w7 82 81,wP 83 cn 80 82,qh 84 83,wG 85 84 4 2,wE 86 84 85,xC 87 84 1,xg 88 84 .add 87 1,xz 89 84 cn (wM 86 (.t 88)),xp 90 84 89,qh 4 90]))⟩
theorem oL:ae Tryz.prog gW=some gT:=by kernel_rfl
def kO:FK:=⟨8,[.t 3],xe [xG 2 5,wm 3] [qG 4 5 2,qw 5 1,wP 6 gW 4 5,wU 7 6,qh 3 7]⟩
theorem sf:ae Tryz.prog cd=some kO:=by kernel_rfl
def mQ:FK:=⟨9,xF,xe [ww 3 1 1,wB] [wq 5,qd 6 (.mkf (.func cd) (wS 3)),wP 7 bt 5 6,wU 8 7,qh 4 8]⟩
theorem vq:ae Tryz.prog cn=some mQ:=by kernel_rfl
def pT:FK:=⟨31,[],qg [wq 8,wa 9 8,wz 10] (qO 0 (xm [wv 11 10 9] (wh 11 0) (q9 1 (qT [q7 12 5 8 10,qG 13 5 12,q6 7 [we,wj,.nils,.nils,.nils],qV 5 7 13] [qh 14 2,qG 15 5 7,wt 16,qd 17 (xM 14 (wM 15 (.t 16)))] (qg [xu 18 7,qw 19 18,wt 20,w7 21 20,qh 22 2,qu 23 fR [.t 19,.t 21,.t 22]] (.reg [qv 24 4 7,qw 25 24,wt 26,w7 27 26,qh 28 2,qu 29 fR [.t 25,.t 27,.t 28]]))) (wY (w7 30 10) 10 30))))⟩
theorem AD:ae Tryz.prog fR=some pT:=by kernel_rfl
def kR:FK:=⟨11,[],qT [xG 4 5] [qw 6 2,w7 7 6,xl 2 7] (.reg [qw 8 3,wt 9,qd 10 (.mx (.t 8) (.t 9)),xl 3 10])⟩
theorem sg:ae Tryz.prog eu=some kR:=by kernel_rfl
def ni:FK:=⟨20,[.c 2 none,.c 3 none],qg [xG 1 1,q6 2 [we],q6 3 [we]] (wF [wK 6 1,qw 7 6,wa 8 7,wz 9] 0 (xm [wv 10 9 8] (wh 10 0) (q9 1 (qg [q7 11 3 7 9,qG 12 3 11,q6 5 [wj,.nils,.nils],qV 3 5 12] (.reg [xk 13 5,qw 14 13,qd 15 (.mkf (.func eu) (wM 2 (.t 3))),qu 16 fR [.t 14,qm 1,.t 15]])) (wY (w7 17 9) 9 17))) [qw 18 2,qw 19 3,xl 2 18,xr 3 19,xl 3 19])⟩
theorem uA:ae Tryz.prog jo=some ni:=by kernel_rfl
def gk:FK:=⟨6,[xd],xe [xq] [wq 3,wT 4 bW 3,wU 5 4,wH 2]⟩
theorem ma:ae Tryz.prog bc=some gk:=by kernel_rfl
def iD:FK:=⟨48,[xd],xc [xG 1 1,xq] [wK 7 1,qw 8 7,wa 9 8,qu 10 dE [.t 9,qm 1,qm 4],wU 11 10] 11 [xq] (wy [wK 12 1,qw 13 12,wa 14 13,wz 15] 0 (xm [wv 16 15 14] (wh 16 0) (q9 1 (qT [q7 17 3 13 15,qG 18 3 17,q6 4 [wj,.nils,.nils],qV 3 4 18] [wK 19 4,qw 20 19,wT 21 bW 20,wU 22 21,qh 23 22,xb 24 23 1 4,w9 25 23 24,qL 26 23 (qX 25),qL 27 23 (wD .gtr 26 3),xD 28 23 27,qh 29 28,xb 30 29 1 4,w9 31 29 30,qL 32 29 (.call bP (wM 31 (.c (.fn (.func bc) [])))),xD 33 29 32,qh 34 33,xb 35 34 2 4,w9 36 34 35,qL 37 34 (.call cn (wM 36 (qm 1))),qL 38 34 (wd 37),xD 39 34 38] (qR 39 [xq])) (wY (w7 40 15) 15 40))) (xe [qG 42 1 1,wT 43 jo 42,qh 41 43,wJ 44 0 41,wJ 45 1 41,qh 5 44,qh 6 45] (xn (wH 46) (qA 47 .leq 46 40) 2 47)))⟩
theorem nM:ae Tryz.prog eJ=some iD:=by kernel_rfl
def dR:FK:=⟨19,xF,qg [wV] (wF [wq 6,wa 7 6,wz 8] 0 (xm [wv 9 8 7] (wh 9 0) (q9 1 (qT (wY (qh 10 8) 5 10) [wt 11,xQ,wH 13,q7 14 3 12 13,qG 15 3 14,qd 16 (xM 11 (wS 15))] (qR 16 (wY (wH 17) 4 17))) (wY (w7 18 8) 8 18))) [xx])⟩
theorem jw:ae Tryz.prog cr=some dR:=by kernel_rfl
def od:FK:=⟨8,[.t 3],xe [xG 2 3,wm 3] [wK 4 2,qw 5 4,qw 6 1,qd 7 (xa .eql 5 (.t 6)),qh 3 7]⟩
theorem yc:ae Tryz.prog fd=some od:=by kernel_rfl
def tj:FK:=⟨9,xF,xe [xG 2 1,ww 3 1 1,wV] [wK 5 2,qw 6 5,qd 7 (.mkf (.func fd) (wS 3)),wP 8 cr 6 7,qh 4 8]⟩
theorem AT:ae Tryz.prog jP=some tj:=by kernel_rfl
def eK:FK:=⟨13,[],qg [wq 4,xj 5 4,xk 6 5,qw 7 6,wu 8 7 0] (xP 8 [wq 9,wt 10,xj 11 9,xk 12 11,xl 12 10])⟩
theorem nY:ae Tryz.prog bR=some eK:=by kernel_rfl
def fP:FK:=⟨7,[xd],xe [qf 2 (.c .nilp)] [qd 3 .mkm,wq 4,qd 5 (.bld [.nilm,.nilp] [(0,1,.t 3),(1,1,.t 4)]),ww 6 2 5,qh 2 6]⟩
theorem pD:ae Tryz.prog cI=some fP:=by kernel_rfl
def rb:FK:=⟨20,[],qT [xG 2 4] [wt 6,xN 7 2,qd 8 (xM 6 (wS 7))] (qg [xu 9 2,qw 10 9,wa 11 10,wz 12] (qO 0 (xm [wv 13 12 11] (wh 13 0) (q9 1 (qg [q7 14 4 10 12,xN 15 14,q6 5 [we,we,wj,.nils],qV 4 5 15] (.reg [xN 16 5,wt 17,wP 18 iI 16 17])) (wY (w7 19 12) 12 19)))))⟩
theorem zU:ae Tryz.prog iI=some rb:=by kernel_rfl
def jR:FK:=⟨25,[wR,.t 5],xm [wV,wm 5] (qO 0 (wL [wq 8,qd 9 (.pnil 0 true (.t 8))] 9 0 1 (qT [wq 15,xj 16 15,wK 17 16,qw 18 17,wt 19,qd 20 (.lk 1 we true (.t 18) (.t 19)),qh 14 20,wJ 21 0 14,wJ 22 1 14,qh 6 21,qh 7 22] [qh 23 7] (qR 23 [qh 24 6,qh 4 24,qf 5 wo])) [wq 10,xj 11 10,xU 12 11,qw 13 12,qh 0 13])) (qz [wV,wm 5])⟩
theorem rq:ae Tryz.prog bL=some jR:=by kernel_rfl
def gi:FK:=⟨58,[],qT [xG 3 4] [wK 7 3,qw 8 7] (.blk 0 (xt (xT 10 8 2 9 10) 9 (qT [qw 12 1,xk 13 3,qw 14 13,wP 15 bL 12 14,qh 11 15,wJ 16 0 11,wJ 17 1 11,qh 4 16,qh 5 17] [wH 18,wU 19 18] (xP 19 [qw 20 2,xI 21 20 (qm 3)])) (qg (xT 23 8 13 22 23) (qD 22 (qT [xk 35 3,qw 24 2,xj 25 24,wK 26 25,wK 27 26,qw 28 27,qw 29 2,xj 30 29,xU 31 30,qw 32 31,qd 33 (.slS 3 (.t 28) none (some (.t 32))),qd 34 (.bld xR [(0,1,.t 33)]),qw 36 35,wP 37 jP 34 36,qh 6 37] [qh 38 6,w8 39 38 0] (qp 39 (.reg [qw 40 2,xI 41 40 (qm 4)]) (qg [qh 47 6,xu 52 3,qw 42 2,xj 43 42,wK 44 43,wK 45 44,qw 46 45,q7 48 3 46 47,xU 49 48,qw 50 49,wa 51 50,qw 53 52,wa 54 53,qY 55 .neq 51 54] (xP 55 [qw 56 2,xI 57 56 (qm 5)]))))))))⟩
theorem lY:ae Tryz.prog bw=some gi:=by kernel_rfl
def eQ:FK:=⟨9,[],qg [xG 3 1,ww 4 4 1,ww 5 1 2] (.reg [xN 6 4,qd 7 (.mkf (.func bw) (wM 5 (.t 3))),wP 8 iI 6 7])⟩
theorem nV:ae Tryz.prog cQ=some eQ:=by kernel_rfl
def dU:AK:=qg [wt 14,wa 15 14,wz 16] (qO 0 (xm [wv 17 16 15] (wh 17 0) (q9 1 (qg [q7 18 5 14 16,qG 19 5 18,q6 7 [we,wj,.nils,.nils,.nils],qV 5 7 19] (wy [xk 20 7,qw 21 20,wa 22 21,wz 23] 2 (xm [wv 24 23 22] (wh 24 2) (q9 3 (qg [q7 25 4 21 23,xN 26 25,q6 9 [we,we,wj,.nils],qV 4 9 26] (.reg [wq 27,xN 28 9,qh 29 2,qu 30 cQ [.t 27,.t 28,.t 29]])) (wY (w7 31 23) 23 31))) (.cut (qg [wK 32 7,qw 33 32] (.blk 4 (xt (xT 35 33 1 34 35) 34 (qx [qh 37 2,xj 38 37,wK 39 38,xU 41 7,qw 40 39,qw 42 41,qd 43 (.lk 1 we true (.t 40) (.t 42)),qh 36 43,wJ 44 0 36,wJ 45 1 36,qh 10 44,qh 11 45] (qg [qh 46 11] (xP 46 [wq 47,xI 48 47 (qm 2)])) (.reg [qh 49 2,xj 50 49,wK 51 50,xU 53 7,qw 52 51,qw 54 53,qM (.mup 1 (.t 52) (.t 54) xv)])) (qg (xT 56 33 2 55 56) (qD 55 (qT [qh 58 2,xU 59 7,qw 60 59,wP 61 bL 58 60,qh 57 61,wJ 62 0 57,wJ 63 1 57,qh 12 62,qh 13 63] [qh 64 13,wU 65 64] (xP 65 [wq 66,xI 67 66 (qm 3)]))))))) (qg [wK 68 7,qw 69 68,wu 70 69 5,qh 71 70,xb 72 71 0 7,w9 73 71 72,qL 74 71 (wD .eql 73 6),xD 75 71 74] (qD 75 (qg [wq 76,xu 77 7,qh 79 2,qw 78 77,wT 80 cI 79,xr 77 78,qu 81 bi [.t 76,.t 78,.t 80]] (.reg [wq 82,qv 83 4 7,qh 85 2,qw 84 83,wT 86 cI 85,xr 83 84,qu 87 bi [.t 82,.t 84,.t 86]]))))))) (wY (w7 88 16) 16 88))))
def dX:FK:=⟨89,[],(AK.whole dU)⟩
theorem mP:ae Tryz.prog bi=some dX:=by kernel_rfl
def eL:AK:=xc [xG 1 1,wz 2] [qG 11 1 1,wT 12 eJ 11,wU 13 12] 13 [qB 2 1] (qg [qG 14 1 1,qd 15 (.bld [.nils,we,we] [(0,1,.t 14)]),ww 16 3 15,qh 3 16] (wF [wK 17 1,qw 18 17,wa 19 18,wz 20] 0 (xm [wv 21 20 19] (wh 21 0) (q9 1 (qT [qh 22 20,q7 23 3 18 20,qG 24 3 23,q6 5 [wj,.nils,.nils],qh 4 22,qV 3 5 24] [xO 25,xL 26,xj 27 25,xU 28 27,xl 28 26] (.cut (qg [qG 29 1 1,wK 30 5,qw 31 30,wP 32 jP 29 31,xL 33,wv 34 32 33] (xP 34 [xO 35,xI 36 35 (qm 2)])) (qg (wY (qu 37 cI [.c .nilp]) 6 37) (wy [xU 38 5,qw 39 38,wa 40 39,wz 41] 2 (xm [wv 42 41 40] (wh 42 2) (q9 3 (qg (xn (q7 43 1 39 41) (qw 44 43) 8 44) (qx [qh 46 6,xj 47 46,wK 48 47,qw 49 48,qh 50 8,qd 51 (.lk 1 we true (.t 49) (.t 50)),qh 45 51,wJ 52 0 45,wJ 53 1 45,qh 9 52,qh 10 53] (qg [qh 54 10] (xP 54 [xO 55,xI 56 55 (qm 2)])) (.reg [qh 57 6,xj 58 57,wK 59 58,qw 60 59,qh 61 8,qM (.mup 1 (.t 60) (.t 61) xv)]))) (wY (w7 62 41) 41 62))) (.reg [xO 63,xk 64 5,qw 65 64,qh 66 6,qu 67 bi [.t 63,.t 65,.t 66]]))))) (wY (w7 68 20) 20 68))) [xO 69,xj 70 69,xk 71 70,qw 72 71,qh 2 72]))
def eB:FK:=⟨73,[xd],(AK.whole eL)⟩
theorem nP:ae Tryz.prog eM=some eB:=by kernel_rfl
def sY:FK:=⟨6,[xd],xe [xG 1 1,xq] [qG 3 1 1,wT 4 eM 3,wu 5 4 0,wH 2]⟩
theorem BI:ae Tryz.prog nj=some sY:=by kernel_rfl
def gl:FK:=⟨22,xF,qT [qf 4 wX] [qf 5 wX] (wF [wq 8,wa 9 8,wz 10] 0 (xm [wv 11 10 9] (wh 11 0) (q9 1 (qg [q7 12 3 8 10,qG 13 3 12,q6 7 [wj,.nils,.nils],qV 3 7 13] (.reg [wH 14,wt 15,qG 16 3 7,qd 17 (xM 15 (wS 16)),wW 18 3 [wj,.nils,.nils] 1 [(0,3,.t 17)],qd 19 (xH 3 64 14 (.t 18)),qh 5 19])) (wY (w7 20 10) 10 20))) (wY (wH 21) 4 21))⟩
theorem mc:ae Tryz.prog cw=some gl:=by kernel_rfl
def fH:FK:=⟨22,xF,qT [qf 4 wX] [qf 5 wX] (wF [wq 8,wa 9 8,wz 10] 0 (xm [wv 11 10 9] (wh 11 0) (q9 1 (qg [q7 12 5 8 10,qG 13 5 12,q6 7 [we,wj,.nils,.nils,.nils],qV 5 7 13] (.reg [wH 14,wt 15,qG 16 5 7,qd 17 (xM 15 (wS 16)),wW 18 5 [we,wj,.nils,.nils,.nils] 1 [(0,5,.t 17)],qd 19 (xH 5 96 14 (.t 18)),qh 5 19])) (wY (w7 20 10) 10 20))) (wY (wH 21) 4 21))⟩
theorem kL:ae Tryz.prog bM=some fH:=by kernel_rfl
def fK:FK:=⟨22,xF,qT [qf 4 wX] [qf 5 wX] (wF [wq 8,wa 9 8,wz 10] 0 (xm [wv 11 10 9] (wh 11 0) (q9 1 (qg [q7 12 4 8 10,xN 13 12,q6 7 [we,we,wj,.nils],qV 4 7 13] (.reg [wH 14,wt 15,xN 16 7,qd 17 (xM 15 (wS 16)),wW 18 4 [we,we,wj,.nils] 1 [(0,4,.t 17)],qd 19 (xH 4 56 14 (.t 18)),qh 5 19])) (wY (w7 20 10) 10 20))) (wY (wH 21) 4 21))⟩
theorem lu:ae Tryz.prog aV=some fK:=by kernel_rfl
def lp:FK:=⟨8,[xB 2 4],qT [xG 1 4,q6 2 [we,we,wj,.nils]] [xu 3 1,qw 4 3,wN 5 aV 4 (.c (.fn (.func bj) [])),xu 6 1,xl 6 5] (qz [xN 7 1,qV 4 2 7])⟩
theorem sB:ae Tryz.prog bj=some lp:=by kernel_rfl
def jr:FK:=⟨19,[xB 3 5],qT [xG 2 5,q6 3 [we,wj,.nils,.nils,.nils]] [xk 4 2,qw 5 4,wN 6 aV 5 (.c (.fn (.func bj) [])),xk 7 2,xl 7 6] (qT [qw 8 1,xu 9 2,qw 10 9,qd 11 (xM 8 (wS 10)),xu 12 2,xl 12 11] [qw 13 1,qv 14 4 2,qw 15 14,qd 16 (xM 13 (wS 15)),qv 17 4 2,xl 17 16] (qz [qG 18 5 2,qV 5 3 18]))⟩
theorem pm:ae Tryz.prog co=some jr:=by kernel_rfl
def kY:FK:=⟨10,xF,xe [qf 4 wX] [wq 6,qd 7 (.mkf (.func co) (wS 2)),qw 5 1,wP 8 bM 6 7,xr 1 5,qd 9 (xM 5 (wS 8)),qh 4 9]⟩
theorem sG:ae Tryz.prog aC=some kY:=by kernel_rfl
def gf:FK:=⟨8,[xd],xc [qf 2 wX] [wq 3,qd 4 (.snil false (.t 3))] 4 [qf 2 wX] (qz [wW 5 1 [wj] 0 [],wq 6,qd 7 (xH 1 16 5 (.t 6)),qh 2 7])⟩
theorem me:ae Tryz.prog dF=some gf:=by kernel_rfl
def kX:FK:=⟨14,[xB 3 3],qT [xG 2 3,q6 3 [wj,.nils,.nils]] [xU 4 2,qw 5 4,wT 6 dF 5,xU 7 2,xl 7 6] (xe [qw 8 1,xk 9 2,qw 10 9,qd 11 (xM 8 (wS 10)),xk 12 2,xl 12 11] [qG 13 3 2,qV 3 3 13])⟩
theorem sy:ae Tryz.prog da=some kX:=by kernel_rfl
def mm:FK:=⟨12,[xB 4 1],qT [xG 2 1,ww 3 1 1,q6 4 xR] [q6 5 [.nilf]] (xe [qd 6 (.mkf (.func aC) (wM 3 (.t 5))),xl 5 6] [wK 7 2,qw 8 7,qd 9 (.mkf (.func da) (wS 5)),wP 10 cw 8 9,qd 11 (.bld xR [(0,1,.t 10)]),xl 4 11])⟩
theorem uy:ae Tryz.prog dQ=some mm:=by kernel_rfl
def lH:FK:=⟨14,xF,xe [xG 2 4,wB] [wK 5 2,qw 6 5,wu 7 6 1,qh 8 7,wG 9 8 1 2,wE 10 8 9,xC 11 8 1,qK 12 8 (qo .eql 10 (.t 11)),xp 13 8 12,qh 4 13]⟩
theorem Az:ae Tryz.prog fO=some lH:=by kernel_rfl
def dr:AK:=qT [qf 2 wX] [qf 3 wX] (wF [wq 6,wa 7 6,wz 8] 0 (xm [wv 9 8 7] (wh 9 0) (q9 1 (qg [q7 10 5 6 8,qG 11 5 10,q6 5 [we,wj,.nils,.nils,.nils],qV 5 5 11] (.cut (.blk 2 (xt [wK 13 5,qw 14 13,wu 15 14 6,qh 16 15,wG 17 16 2 5,wE 18 16 17,qK 19 16 (qE 4 18 xv),qK 20 16 (ql (some 4) 19),xz 21 16 fO (wM 20 xv),xp 22 16 21,qh 12 22] 12 (.exit 1) (xt [wK 24 5,qw 25 24,wu 26 25 5,qh 27 26,wG 28 27 2 5,wE 29 27 28,qK 30 27 (qE 4 29 xv),qK 31 27 (ql (some 4) 30),xz 32 27 fO (wM 31 xv),xp 33 27 32,qh 23 33] 23 (.reg [xu 34 5,qU 1 34 wX]) (qg [wK 36 5,qw 37 36,wu 38 37 5,qh 39 38,wG 40 39 2 5,wE 41 39 40,qK 42 39 (qE 4 41 xv),wG 43 39 0 42,wE 44 39 43,xg 45 39 .eql 44 1,xp 46 39 45,qh 35 46] (xP 35 [qv 47 4 5,qU 1 47 wX]))))) (qT [xO 48,qG 49 5 5,wW 50 5 [we,wj,.nils,.nils,.nils] 1 [(0,5,.t 49)],qd 51 (xH 5 96 48 (.t 50)),qh 3 51] [wK 52 5,qw 53 52,wu 54 53 7] (qD 54 (.exit 0))))) (wY (w7 55 8) 8 55))) (wY (xO 56) 2 56))
def dt:FK:=⟨57,[xd],(AK.whole dr)⟩
theorem im:ae Tryz.prog aX=some dt:=by kernel_rfl
def jV:FK:=⟨10,[xB 2 1,.t 3],xc [xG 1 1,q6 2 xR,wm 3] [qG 4 1 1,wT 5 nj 4,wU 6 5] 6 [qd 7 (.bld xR []),xl 2 7,wm 3] (qz [qG 8 1 1,wN 9 dQ 8 (.c (.fn (.func aX) [])),xl 2 9,qf 3 wo])⟩
theorem pS:ae Tryz.prog bN=some jV:=by kernel_rfl
def kW:FK:=⟨26,xF,xc xE [wq 6,wa 7 6,wt 8,wa 9 8,qY 10 .neq 7 9] 10 xE (xy [xA] 0 [wH 11,xQ,wa 13 12,wv 14 11 13] 14 0 1 (xf [wq 17,wH 18,q7 19 1 17 18,wt 21,wH 22,q7 23 1 21 22,qw 20 19,qw 24 23,qd 25 (xa .neq 20 (.t 24))] 25 xE) (wH 15) 16 15 5 16 [qf 4 wo])⟩
theorem rS:ae Tryz.prog gw=some kW:=by kernel_rfl
def oI:FK:=⟨26,xF,xc [xG 2 4,ww 3 4 1,wB] [wK 5 2,qw 6 5,wK 7 3,qw 8 7,qY 9 .neq 6 8] 9 xE (wn [xU 10 2,qw 11 10,xU 12 3,qw 13 12,qY 14 .neq 11 13] 14 xE (wn [xk 15 2,qw 16 15,xk 17 3,qw 18 17,qd 19 (xa .neq 16 (.t 18))] 19 xE (wn [xu 20 2,qw 21 20,xu 22 3,qw 23 22,wP 24 dY 21 23,wU 25 24] 25 xE (qz [qf 4 wo]))))⟩
theorem yq:ae Tryz.prog gR=some oI:=by kernel_rfl
def mH:FK:=⟨27,xF,xc xE [wq 6,wa 7 6,wt 8,wa 9 8,qY 10 .neq 7 9] 10 xE (xy [xA] 0 [wH 11,xQ,wa 13 12,wv 14 11 13] 14 0 1 (xf [wq 17,wH 18,q7 19 4 17 18,wt 21,wH 22,q7 23 4 21 22,xN 20 19,xN 24 23,wP 25 gR 20 24,wU 26 25] 26 xE) (wH 15) 16 15 5 16 [qf 4 wo])⟩
theorem yb:ae Tryz.prog dY=some mH:=by kernel_rfl
def oH:FK:=⟨33,xF,xc [xG 2 5,ww 3 5 1,wB] [wK 5 2,qw 6 5,wK 7 3,qw 8 7,qY 9 .neq 6 8] 9 xE (wn [xU 10 2,qw 11 10,xU 12 3,qw 13 12,qd 14 (xa .neq 11 (.t 13))] 14 xE (wn [xk 15 2,qw 16 15,xk 17 3,qw 18 17,wP 19 dY 16 18,wU 20 19] 20 xE (wn [xu 21 2,qw 22 21,xu 23 3,qw 24 23,wP 25 cX 22 24,wU 26 25] 26 xE (wn [qv 27 4 2,qw 28 27,qv 29 4 3,qw 30 29,wP 31 cX 28 30,wU 32 31] 32 xE (qz [qf 4 wo])))))⟩
theorem yB:ae Tryz.prog gS=some oH:=by kernel_rfl
def mD:FK:=⟨27,xF,xc xE [wq 6,wa 7 6,wt 8,wa 9 8,qY 10 .neq 7 9] 10 xE (xy [xA] 0 [wH 11,xQ,wa 13 12,wv 14 11 13] 14 0 1 (xf [wq 17,wH 18,q7 19 5 17 18,wt 21,wH 22,q7 23 5 21 22,qG 20 5 19,qG 24 5 23,wP 25 gS 20 24,wU 26 25] 26 xE) (wH 15) 16 15 5 16 [qf 4 wo])⟩
theorem vf:ae Tryz.prog cX=some mD:=by kernel_rfl
def ty:FK:=⟨22,xF,xc [xG 2 3,ww 3 3 1,wB] [wK 5 2,qw 6 5,wK 7 3,qw 8 7,qd 9 (xa .neq 6 (.t 8))] 9 xE (wn [xU 10 2,qw 11 10,xU 12 3,qw 13 12,wP 14 gw 11 13,wU 15 14] 15 xE (wn [xk 16 2,qw 17 16,xk 18 3,qw 19 18,wP 20 cX 17 19,wU 21 20] 21 xE (qz [qf 4 wo])))⟩
theorem Cb:ae Tryz.prog jJ=some ty:=by kernel_rfl
def pz:FK:=⟨27,xF,xc xE [wq 6,wa 7 6,wt 8,wa 9 8,qY 10 .neq 7 9] 10 xE (xy [xA] 0 [wH 11,xQ,wa 13 12,wv 14 11 13] 14 0 1 (xf [wq 17,wH 18,q7 19 3 17 18,wt 21,wH 22,q7 23 3 21 22,qG 20 3 19,qG 24 3 23,wP 25 jJ 20 24,wU 26 25] 26 xE) (wH 15) 16 15 5 16 [qf 4 wo])⟩
theorem zE:ae Tryz.prog lO=some pz:=by kernel_rfl
def ll:FK:=⟨11,xF,xc [xG 2 1,ww 3 1 1,wB] [wK 5 2,qw 6 5,wK 7 3,qw 8 7,wP 9 lO 6 8,wU 10 9] 10 xE (qz [qf 4 wo])⟩
theorem sh:ae Tryz.prog cb=some ll:=by kernel_rfl
def iu:FK:=⟨20,[xd],xc [qf 2 (qy qQ)] [wq 4,qA 5 .leq 4 0] 5 [qf 2 (xS [109,48])] (xm [qf 3 (qy qQ)] (qO 0 (wI [wq 6,qA 7 .gtr 6 0] 7 0 (.blk 1 (qg [wq 8,qA 9 .rem 8 10,qd 10 (.bin .add (qm 48) (.t 9)),qd 11 (.conv .u8 (.t 10)),wW 12 1 [qi .u8 0] 1 [(0,1,.t 11)],qd 13 (.btos (.t 12)),xO 14,qd 15 (xa .add 13 (.t 14)),qh 3 15] (.reg (xn (wq 16) (qA 17 .quo 16 10) 0 17)))))) (qz (xn (xO 18) (qd 19 (.bins .add (xS [109]) (.t 18))) 2 19)))⟩
theorem tK:ae Tryz.prog cG=some iu:=by kernel_rfl
def di:FK:=⟨20,xF,qg [wV] (xy [xA] 0 [wH 6,wq 7,wa 8 7,wv 9 6 8] 9 0 1 (qg [xQ,wH 13,wt 14,xJ 15 14,q7 16 1 12 13,xl 16 15] (.reg (xo (wt 17) 18 17 1 18))) (wH 10) 11 10 5 11 (wY (wt 19) 4 19))⟩
theorem dh:ae Tryz.prog dk=some di:=by kernel_rfl
def ee:FK:=⟨42,xF,qg [wV] (xy [xA] 0 [wH 6,wq 7,wa 8 7,wv 9 6 8] 9 0 1 (qT [xQ,wH 13,wt 14,q7 15 4 12 13,wK 16 15,xl 16 14] (xo (wt 17) 18 17 1 18) (qT [wq 19,wH 20,wt 21,q7 22 4 19 20,xU 23 22,xl 23 21] (xo (wt 24) 25 24 1 25) (qT [wq 26,wH 27,wt 28,xJ 29 28,q7 30 4 26 27,xk 31 30,xl 31 29] (xo (wt 32) 33 32 1 33) (.reg [wq 34,wH 35,q7 36 4 34 35,xu 37 36,qw 38 37,wt 39,wP 40 ec 38 39,qh 1 40])))) (wH 10) 11 10 5 11 (wY (wt 41) 4 41))⟩
theorem gH:ae Tryz.prog ec=some ee:=by kernel_rfl
def eh:FK:=⟨49,xF,qg [wV] (xy [xA] 0 [wH 6,wq 7,wa 8 7,wv 9 6 8] 9 0 1 (qT [xQ,wH 13,wt 14,q7 15 5 12 13,wK 16 15,xl 16 14] (xo (wt 17) 18 17 1 18) (qT [wq 19,wH 20,wt 21,xJ 22 21,q7 23 5 19 20,xU 24 23,xl 24 22] (xo (wt 25) 26 25 1 26) (qT [wq 27,wH 28,q7 29 5 27 28,xk 30 29,qw 31 30,wt 32,wP 33 ec 31 32,qh 1 33] [wq 34,wH 35,q7 36 5 34 35,xu 37 36,qw 38 37,wt 39,wP 40 cR 38 39,qh 1 40] (.reg [wq 41,wH 42,q7 43 5 41 42,qv 44 4 43,qw 45 44,wt 46,wP 47 cR 45 46,qh 1 47])))) (wH 10) 11 10 5 11 (wY (wt 48) 4 48))⟩
theorem gm:ae Tryz.prog cR=some eh:=by kernel_rfl
def fT:FK:=⟨35,xF,qg [wV] (xy [xA] 0 [wH 6,wq 7,wa 8 7,wv 9 6 8] 9 0 1 (qT [xQ,wH 13,wt 14,xJ 15 14,q7 16 3 12 13,wK 17 16,xl 17 15] (xo (wt 18) 19 18 1 19) (qg [wq 20,wH 21,q7 22 3 20 21,xU 23 22,qw 24 23,wt 25,wP 26 dk 24 25,qh 1 26] (.reg [wq 27,wH 28,q7 29 3 27 28,xk 30 29,qw 31 30,wt 32,wP 33 cR 31 32,qh 1 33]))) (wH 10) 11 10 5 11 (wY (wt 34) 4 34))⟩
theorem jj:ae Tryz.prog iZ=some fT:=by kernel_rfl
def jE:FK:=⟨10,xF,qT [xG 2 1,wV] [wK 5 2,qw 6 5,wt 7,wP 8 iZ 6 7,qh 1 8] (qz (wY (wt 9) 4 9))⟩
theorem pg:ae Tryz.prog dp=some jE:=by kernel_rfl
def jv:FK:=⟨22,xF,qg [wV] (xy [xA] 0 [wH 6,wq 7,wa 8 7,wv 9 6 8] 9 0 1 (wn [xQ,wH 13,q7 14 1 12 13,wt 16,qw 15 14,xJ 17 16,xr 14 15,qd 18 (xa .neq 15 (.t 17))] 18 [xx] (.reg (xo (wt 19) 20 19 1 20))) (wH 10) 11 10 5 11 (wY (wt 21) 4 21))⟩
theorem oY:ae Tryz.prog fw=some jv:=by kernel_rfl
def kS:FK:=⟨50,xF,qg [wV] (xy [xA] 0 [wH 6,wq 7,wa 8 7,wv 9 6 8] 9 0 1 (wn [xQ,wH 13,q7 14 4 12 13,wK 15 14,qw 16 15,wt 17,qY 18 .neq 16 17] 18 [xx] (xc (xo (wt 19) 20 19 1 20) [wq 21,wH 22,q7 23 4 21 22,xU 24 23,qw 25 24,wt 26,qY 27 .neq 25 26] 27 [xx] (xc (xo (wt 28) 29 28 1 29) [wq 30,wH 31,q7 32 4 30 31,xk 33 32,wt 35,qw 34 33,xJ 36 35,xr 33 34,qd 37 (xa .neq 34 (.t 36))] 37 [xx] (qT (xo (wt 38) 39 38 1 39) [wq 40,wH 41,q7 42 4 40 41,xu 43 42,qw 44 43,wt 45,wP 46 eq 44 45,qh 1 46] (xf [wt 47,w8 48 47 0] 48 [xx]))))) (wH 10) 11 10 5 11 (wY (wt 49) 4 49))⟩
theorem rU:ae Tryz.prog eq=some kS:=by kernel_rfl
def lc:FK:=⟨59,xF,qg [wV] (xy [xA] 0 [wH 6,wq 7,wa 8 7,wv 9 6 8] 9 0 1 (wn [xQ,wH 13,q7 14 5 12 13,wK 15 14,qw 16 15,wt 17,qY 18 .neq 16 17] 18 [xx] (xc (xo (wt 19) 20 19 1 20) [wq 21,wH 22,q7 23 5 21 22,xU 24 23,wt 26,qw 25 24,xJ 27 26,xr 24 25,qd 28 (xa .neq 25 (.t 27))] 28 [xx] (qT (xo (wt 29) 30 29 1 30) [wq 31,wH 32,q7 33 5 31 32,xk 34 33,qw 35 34,wt 36,wP 37 eq 35 36,qh 1 37] (wn [wt 38,w8 39 38 0] 39 [xx] (xc [wq 40,wH 41,q7 42 5 40 41,xu 43 42,qw 44 43,wt 45,wP 46 cZ 44 45,qh 1 46] [wt 47,w8 48 47 0] 48 [xx] (qT [wq 49,wH 50,q7 51 5 49 50,qv 52 4 51,qw 53 52,wt 54,wP 55 cZ 53 54,qh 1 55] [wt 56,w8 57 56 0] (qR 57 [xx]))))))) (wH 10) 11 10 5 11 (wY (wt 58) 4 58))⟩
theorem sT:ae Tryz.prog cZ=some lc:=by kernel_rfl
def mr:FK:=⟨41,xF,qg [wV] (xy [xA] 0 [wH 6,wq 7,wa 8 7,wv 9 6 8] 9 0 1 (wn [xQ,wH 13,q7 14 3 12 13,wK 15 14,wt 17,qw 16 15,xJ 18 17,xr 15 16,qd 19 (xa .neq 16 (.t 18))] 19 [xx] (qT (xo (wt 20) 21 20 1 21) [wq 22,wH 23,q7 24 3 22 23,xU 25 24,qw 26 25,wt 27,wP 28 fw 26 27,qh 1 28] (wn [wt 29,w8 30 29 0] 30 [xx] (qT [wq 31,wH 32,q7 33 3 31 32,xk 34 33,qw 35 34,wt 36,wP 37 cZ 35 36,qh 1 37] [wt 38,w8 39 38 0] (qR 39 [xx]))))) (wH 10) 11 10 5 11 (wY (wt 40) 4 40))⟩
theorem ui:ae Tryz.prog jb=some mr:=by kernel_rfl
def je:FK:=⟨12,xF,qT [xG 2 1,wV] [wK 5 2,qw 6 5,wt 7,wP 8 jb 6 7,qh 1 8] (wn [wt 9,w8 10 9 0] 10 [xx] (qz (wY (wt 11) 4 11)))⟩
theorem ph:ae Tryz.prog dj=some je:=by kernel_rfl
def eS:FK:=⟨96,[xd],qT [xG 1 1,xq] [qB 3 1048576] (xc [qG 14 1 1,xO 15,wP 16 ep 14 15,qh 3 16] [xO 17,w8 18 17 0] 18 [qf 2 wo] (qT [qG 20 1 1,wT 21 bA 20,wT 22 dJ 21,qh 19 22,wJ 23 0 19,wJ 24 1 19,q6 4 xR,xl 4 23,qh 5 24] [qG 25 1 1,wT 26 bA 25,q6 6 xR,xl 6 26] (xc [qG 28 1 6,wT 29 bN 28,qh 27 29,wJ 30 0 27,wJ 31 1 27,q6 7 xR,xl 7 30,qh 8 31] [qG 32 1 7,qG 33 1 4,wP 34 cb 32 33,wU 35 34,qh 36 35,xh 37 36 8,xh 38 36 5,qL 39 36 (.beq true (.t 37) (.t 38)),xD 40 36 39] 40 [xq] (wn [qG 41 1 6,qG 42 1 1,wT 43 bA 42,w6 (some 1) 6 41,wP 44 cb 41 43,wU 45 44] 45 [xq] (qT [qB 9 1] [qG 46 1 6,qh 47 9,wP 48 dp 46 47,qh 9 48] (wn [qh 49 9,w8 50 49 0,qh 51 50,qL 52 51 (ql (some 1) 7),qL 53 51 (ql (some 1) 4),qL 54 51 (.call cb (wM 52 (.t 53))),qL 55 51 (wd 54),xD 56 51 55,qh 57 56,xh 58 57 8,xh 59 57 5,qL 60 57 (.beq true (.t 58) (.t 59)),xD 61 57 60] 61 [xq] (qT [qB 10 1] [qG 62 1 7,qh 63 10,wP 64 dp 62 63,qh 10 64] (qT [qB 11 1] [qG 65 1 7,qh 66 11,wP 67 dj 65 66,qh 11 67] (wn [qh 68 11,w8 69 68 0] 69 [xq] (wn [qh 70 11,qh 71 10,qY 72 .neq 70 71] 72 [xq] (xc [qG 74 1 1,wT 75 bA 74,wT 76 bN 75,qh 73 76,wJ 77 0 73,wJ 78 1 73,q6 12 xR,xl 12 77,qh 13 78] [qG 79 1 12,qG 80 1 4,wP 81 cb 79 80,wU 82 81,qh 83 82,xh 84 83 13,xh 85 83 5,qL 86 83 (.beq true (.t 84) (.t 85)),xD 87 83 86] 87 [xq] (qT [qB 11 1] [qG 88 1 7,qh 89 11,wP 90 dj 88 89,qh 11 90] (wn [qh 91 11,w8 92 91 0] 92 [xq] (wn [qh 93 11,qh 94 10,qY 95 .neq 93 94] 95 [xq] (qz [qf 2 wo])))))))))))))))⟩
theorem kg:ae Tryz.prog fe=some eS:=by kernel_rfl
end Go.Proofs.YthfklclcofcpiaaGreatDoor
