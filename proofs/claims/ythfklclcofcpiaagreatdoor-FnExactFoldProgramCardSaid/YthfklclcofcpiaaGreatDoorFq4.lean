/-
  Contracts and lemmas that the card needs, part 4.
-/
import Derived.Test.YthfklclcofcpiaaGreatDoorFq3
import Derived.Test.YthfklclcofcpiaaGreatDoorRows
namespace Go.Proofs.YthfklclcofcpiaaGreatDoor
open Go Go.Aw
set_option maxRecDepth 100000
abbrev gX:FuncId:=49
abbrev ig:FuncId:=121
abbrev eh:FuncId:=96
abbrev iw:FuncId:=70
abbrev cA:FuncId:=50
abbrev kw:FuncId:=27
abbrev mj:FuncId:=14
abbrev eM:FuncId:=5
abbrev dq:FuncId:=56
abbrev dQ:FuncId:=126
abbrev bQ:FuncId:=108
abbrev dP:FuncId:=80
abbrev bu:FuncId:=57
abbrev fZ:FuncId:=32
abbrev gu:FuncId:=17
abbrev bL:FuncId:=7
abbrev iz:FuncId:=71
abbrev jn:FuncId:=138
abbrev jT:FuncId:=134
abbrev lV:FuncId:=122
abbrev fK:FuncId:=135
abbrev mb:FuncId:=123
abbrev cn:FuncId:=97
abbrev ia:FuncId:=136
abbrev il:FuncId:=141
abbrev fy:FuncId:=139
abbrev gd:FuncId:=140
abbrev eL:FuncId:=137
abbrev ik:FuncId:=124
abbrev bU:FuncId:=98
abbrev mY:FuncId:=72
abbrev eE:FuncId:=99
abbrev lZ:FuncId:=73
abbrev fb:FuncId:=51
abbrev kj:FuncId:=74
abbrev bn:FuncId:=75
abbrev dA:FuncId:=100
abbrev iu:FuncId:=101
abbrev dZ:FuncId:=76
abbrev ef:FuncId:=103
abbrev cF:FuncId:=102
abbrev ce:FuncId:=77
abbrev kh:FuncId:=52
abbrev fg:FuncId:=28
abbrev kV:FuncId:=15
abbrev ic:FuncId:=78
abbrev dk:FuncId:=53
abbrev kO:FuncId:=29
abbrev cm:FuncId:=54
abbrev bP:FuncId:=30
abbrev cy:FuncId:=105
abbrev dE:FuncId:=104
abbrev mc:FuncId:=125
abbrev dS:FuncId:=106
abbrev fG:FuncId:=107
abbrev ip:FuncId:=79
abbrev hZ:FuncId:=55
abbrev bz:FuncId:=31
abbrev fx:FuncId:=16
abbrev dV:FuncId:=81
abbrev eZ:FuncId:=127
abbrev fh:FuncId:=109
abbrev dY:FuncId:=128
abbrev cY:FuncId:=111
abbrev cQ:FuncId:=110
abbrev co:FuncId:=82
abbrev cN:FuncId:=112
abbrev bY:FuncId:=83
abbrev bZ:FuncId:=129
abbrev bF:FuncId:=113
abbrev fL:FuncId:=130
abbrev kG:FuncId:=132
abbrev jS:FuncId:=133
abbrev fJ:FuncId:=120
abbrev dj:FuncId:=93
abbrev iv:FuncId:=115
abbrev cu:FuncId:=114
abbrev cx:FuncId:=85
abbrev gi:FuncId:=116
abbrev eQ:FuncId:=117
abbrev jU:FuncId:=86
abbrev bl:FuncId:=84
abbrev fj:FuncId:=58
abbrev cD:FuncId:=87
abbrev fI:FuncId:=88
abbrev kB:FuncId:=59
abbrev cd:FuncId:=60
abbrev cR:FuncId:=61
abbrev eO:FuncId:=94
abbrev bX:FuncId:=90
abbrev bH:FuncId:=118
abbrev dc:FuncId:=89
abbrev bq:FuncId:=62
abbrev fq:FuncId:=33
abbrev nk:FuncId:=18
abbrev cG:FuncId:=38
abbrev bW:FuncId:=35
abbrev aG:FuncId:=25
abbrev bp:FuncId:=37
abbrev cz:FuncId:=36
abbrev aH:FuncId:=34
abbrev dX:FuncId:=40
abbrev dp:FuncId:=39
abbrev ey:FuncId:=19
abbrev iZ:FuncId:=41
abbrev gY:FuncId:=63
abbrev io:FuncId:=131
abbrev eB:FuncId:=119
abbrev iq:FuncId:=91
abbrev du:FuncId:=64
abbrev kf:FuncId:=42
abbrev lX:FuncId:=21
abbrev cr:FuncId:=9
abbrev cP:FuncId:=43
abbrev dD:FuncId:=44
abbrev eJ:FuncId:=65
abbrev di:FuncId:=45
abbrev jQ:FuncId:=22
abbrev dF:FuncId:=10
abbrev fO:FuncId:=46
abbrev eK:FuncId:=66
abbrev dg:FuncId:=47
abbrev jk:FuncId:=23
abbrev dB:FuncId:=11
abbrev dH:FuncId:=12
abbrev jy:FuncId:=92
abbrev gw:FuncId:=67
abbrev bS:FuncId:=68
abbrev cS:FuncId:=95
abbrev ca:FuncId:=69
abbrev iI:FuncId:=48
abbrev dx:FuncId:=26
abbrev aL:FuncId:=24
abbrev bK:FuncId:=13
abbrev eX:FuncId:=4
@[reducible] def qc(a:Nat)(b:Option (Nat × Bool))(c:AI):CO:=⟨some a,b,c⟩
@[reducible] def qd(a:Nat)(b:AI):CO:=qc a none b
@[reducible] def qf(a:Nat)(b:AOp):CO:=qd a (.mov b)
@[reducible] def qg(a:List CO)(b:AK):AK:= .seq (.reg a) b
@[reducible] def qh(a b:Nat):CO:=qf a (.t b)
@[reducible] def qi(a:IntKind)(b:Int):AV:= .p (.int a b)
@[reducible] def qj(a:Int):AV:=qi .i64 a
@[reducible] def qk(a:Option Nat)(b:Nat):AI:= .ld a (.t b)
@[reducible] def ql(a b:Nat):AI:= .fldA a (.t b)
@[reducible] def qm(a:Int):AOp:= .c (qj a)
@[reducible] def qn(a:Nat)(b:Nat × Bool)(c:AI):CO:=qc a (some b) c
@[reducible] def qo(a:BinOp)(b:Nat)(c:AOp):AI:= .bin a (.t b) c
@[reducible] def qp(a:Nat)(b c:AK):AK:= .cond (.t a) b c
@[reducible] def qq(a:Nat)(b:Option Nat)(c:Nat):CO:=qd a (qk b c)
@[reducible] def qr(a:Bool):AV:= .p (.bool a)
@[reducible] def qt(a:Nat)(b:BinOp)(c:Nat)(d:AOp):CO:=qd a (qo b c d)
@[reducible] def qu(a:Nat)(b:FuncId)(c:List AOp):CO:=qd a (.call b c)
@[reducible] def qv(a b c:Nat):CO:=qd a (ql b c)
@[reducible] def qw:AV:=qr false
@[reducible] def qx(a b:Nat):CO:=qq a none b
@[reducible] def qy(a:List CO)(b c:AK):AK:= .seq (qg a b) c
@[reducible] def qz(a:List CO):AK:=qg a .ret
@[reducible] def qA(a:Option (Nat × Bool))(b:AI):CO:=⟨none,a,b⟩
@[reducible] def qB(a:Nat)(b:BinOp)(c:Nat)(d:Int):CO:=qt a b c (qm d)
@[reducible] def qC(a:AI):CO:=qA none a
@[reducible] def qD(a b c:Nat):CO:=qq a (some b) c
@[reducible] def qE(a:Nat)(b:Int):CO:=qf a (qm b)
@[reducible] def qF(a:Nat)(b:AK):AK:=qp a b .skip
@[reducible] def qG:AOp:= .c qw
@[reducible] def qH(a b:Nat)(c:AOp):AI:= .idxS a (.t b) c
@[reducible] def qI(a:Nat)(b c:AOp):AI:= .pick (.t a) b c
@[reducible] def qJ(a b:Nat)(c:Bool)(d:AI):CO:=qn a (b,c) d
@[reducible] def qK(a b:Nat)(c:AI):CO:=qJ a b true c
@[reducible] def qL(a b:Nat)(c:AI):CO:=qJ a b false c
@[reducible] def qM(a:Nat)(b c:AOp):CO:=qC (.st a b c)
@[reducible] def qN(a:AOp):AI:= .len false a
@[reducible] def qO(a:List UInt8):AV:= .p (.str a)
@[reducible] def qP(a b:Nat)(c:AOp):CO:=qM a (.t b) c
@[reducible] def qQ(a b c:Nat):CO:=qP a b (.t c)
@[reducible] def qR(a:Nat)(b:List CO):AK:=qF a (qz b)
@[reducible] def qS(a:Nat)(b:AK):AK:= .blk a (.loop b)
@[reducible] def qT(a b:List CO)(c:AK):AK:=qg a (qg b c)
@[reducible] def qU(a:Nat)(b c:AK):AK:= .seq (.blk a b) c
@[reducible] def qV(a:Nat)(b:List AV):CO:=qd a (.alloc b)
@[reducible] def qW:AV:=qr true
@[reducible] def qX(a:Nat)(b:BinOp)(c d:Nat):CO:=qt a b c (.t d)
@[reducible] def qY(a:Nat):AI:=qN (.t a)
@[reducible] def qZ(a:Nat)(b:AK)(c:Nat):AK:=qp a b (.exit c)
@[reducible] def q6(a b c:Nat)(d:AOp):CO:=qd a (qH b c d)
@[reducible] def q7(a:Option Nat)(b c:Nat):CO:=qC (.chk a b c)
@[reducible] def q8:AV:=qO []
@[reducible] def q9:AV:=qj 0
@[reducible] def wa(a:Nat):AI:=qk none a
@[reducible] def wb(a b:Nat):AI:= .box a (.t b)
@[reducible] def wc(a b c d:Nat):CO:=q6 a b c (.t d)
@[reducible] def wd(a b:Nat)(c d:AOp):CO:=qd a (qI b c d)
@[reducible] def we(a b:Nat):CO:=qd a (qY b)
@[reducible] def wg(a:Nat)(b:AK)(c:List CO):AK:=qU a b (.reg c)
@[reducible] def wh(a b:Nat)(c:Int):CO:=qB a .eql b c
@[reducible] def wj(a b:Nat)(c:Int):CO:=qB a .add b c
@[reducible] def wl(a:Nat):AI:= .not (.t a)
@[reducible] def wm(a:Nat):AI:= .mov (.t a)
@[reducible] def wn(a b:Nat):AK:=qZ a .skip b
@[reducible] def wo:AOp:= .c qW
@[reducible] def wq(a:List CO)(b:Nat)(c:List CO)(d:AK):AK:=qy a (qR b c) d
@[reducible] def wt(a:Nat):CO:=qf a qG
@[reducible] def wu(a:Nat):CO:=qh a 1
@[reducible] def wv(a b:Nat):AI:= .ext a (.t b)
@[reducible] def ww(a:Nat):CO:=qh a 0
@[reducible] def wx(a b c:Nat):CO:=qd a (wb b c)
@[reducible] def wy(a b c:Nat):CO:=qX a .lss b c
@[reducible] def wz(a:BinOp)(b:Nat)(c:Int):AI:=qo a b (qm c)
@[reducible] def wA(a:Nat):CO:=qE a 0
@[reducible] def wB(a:List CO)(b:Nat)(c d:AK):AK:=qy a (qS b c) d
@[reducible] def wD(a b c:Nat):CO:=qK a b (wa c)
@[reducible] def wE(a b:Nat):CO:=q7 none a b
@[reducible] def wF(a:Nat):AI:= .nilck (.t a)
@[reducible] def wG(a b c d:Nat):CO:=qK a b (ql c d)
@[reducible] def wH:CO:=wt 4
@[reducible] def wI(a b c:Nat)(d:AOp):CO:=wd a b (.t c) d
@[reducible] def wJ(a:Nat)(b:AOp):List AOp:=[.t a,b]
@[reducible] def wK(a:Nat)(b:FuncId)(c:Nat)(d:AOp):CO:=qu a b (wJ c d)
@[reducible] def wL(a:Nat)(b:FuncId)(c d:Nat):CO:=wK a b c (.t d)
@[reducible] def wM(a b c:Nat):CO:=qd a (wv b c)
@[reducible] def wN(a:Nat):CO:=qh a 5
@[reducible] def wP:Option Nat:=some 4
@[reducible] def wQ(a:List CO)(b:Nat)(c:AK)(d:List CO):AK:=wB a b c (qz d)
@[reducible] def wR(a:Nat):List AOp:=[.t a]
@[reducible] def wS(a:Nat)(b:FuncId)(c:Nat):CO:=qu a b (wR c)
@[reducible] def wT(a:List CO)(b c:Nat)(d:AK):AK:=qy a (wn b c) d
@[reducible] def wU(a b:Nat):CO:=qv a 0 b
@[reducible] def wV(a:CO)(b c:Nat):List CO:=[a,qh b c]
@[reducible] def wW(a:List CO)(b c d:Nat)(e:AK)(f:List CO):AK:=wT a b c (wg d e f)
@[reducible] def wX:RV:= .t 4
@[reducible] def wY(a b:Nat):CO:=qd a (wl b)
@[reducible] def wZ(a:List CO)(b:Nat)(c d:AK):AK:=qg a (qp b c d)
@[reducible] def w6(a b:Nat)(c:AOp):CO:=wK a iZ b c
@[reducible] def w7(a:List CO)(b:Nat)(c:List CO):AK:=qg a (qR b c)
@[reducible] def w8(a b:Nat)(c:AOp)(d:Nat):CO:=wd a b c (.t d)
@[reducible] def w9:CO:=wA 4
@[reducible] def xa(a b c:Nat):CO:=qL a b (wa c)
@[reducible] def xb(a b:Nat)(c:BinOp)(d:Nat)(e:Int):CO:=qK a b (wz c d e)
@[reducible] def xc(a b:List CO)(c:OT):OT:= .one a (.one b c)
@[reducible] def xd(a b:Nat)(c:List AV)(d:Nat)(e:List (Nat × Nat × AOp)):CO:=qd a (.bsl b c d e)
@[reducible] def xe(a b c d:Nat):CO:=qL a b (ql c d)
@[reducible] def xf:AOp:=qm 0
@[reducible] def xg(a b:Nat)(c:Int)(d e:Nat):List CO:=wV (wh a b c) d e
@[reducible] def xh(a b:Nat):CO:=qD a 4 b
@[reducible] def xi(a b:Nat):CO:=wj a b 1
@[reducible] def xj(a b:List CO)(c:Nat)(d:List CO)(e:AK):AK:=qg a (wq b c d e)
@[reducible] def xk(a b:Nat)(c:Int):CO:=qB a .lss b c
@[reducible] def xl:AOp:= .c .nils
@[reducible] def xm:RV:= .t 2
@[reducible] def xn(a:BinOp)(b:Nat)(c:AOp):AI:= .bins a (.t b) c
@[reducible] def xo(a b:List CO):AK:=qg a (qz b)
@[reducible] def xp(a b c:Nat):CO:=wI a b c qG
@[reducible] def xq(a b c:Nat):CO:=qL a b (wm c)
@[reducible] def xr(a b:Nat):CO:=qv a 3 b
@[reducible] def xt(a:List CO)(b:Nat)(c:List CO)(d e f:Nat)(g:AK)(h i:List CO):AK:=wQ a b (wW c d e f g h) i
@[reducible] def xu(a b:Nat):CO:=qQ 1 a b
@[reducible] def xv(a b:Nat):CO:=qv a 2 b
@[reducible] def xw(a b:Nat):CO:=qd a (wF b)
@[reducible] def xx(a b:CO)(c d:Nat):List CO:=[a,b,qh c d]
@[reducible] def xy(a:CO)(b c d e:Nat):List CO:=xx a (xi b c) d e
@[reducible] def xz(a:Nat)(b:List AOp):AI:= .callv (.t a) b
@[reducible] def xA:CO:=wt 2
@[reducible] def xB(a:List CO)(b c:AK):AK:=qg a (.seq b c)
@[reducible] def xC(a b:Nat)(c:FuncId)(d:List AOp):CO:=qK a b (.call c d)
@[reducible] def xD(a b c:Nat):CO:=qK a b (wm c)
@[reducible] def xE(a b c:Nat):CO:=w8 a b wo c
@[reducible] def xF(a:List CO)(b c:OT):OT:= .alt (.one a b) c
@[reducible] def xG(a:Nat):CO:=qE a (-1)
@[reducible] def xH:CO:=xG 4
@[reducible] def xI(a:List CO)(b:Nat)(c:List CO)(d e f:Nat)(g:AK)(h:CO)(i j k l:Nat)(m:List CO):AK:=xt a b c d e f g (xy h i j k l) m
@[reducible] def xJ(a b:Nat):CO:=wx a b 0
@[reducible] def xK:CO:=wA 5
@[reducible] def xL(a b:Nat):CO:=qQ 4 a b
@[reducible] def xM:List CO:=[wH]
@[reducible] def xN:List RV:=[wX]
@[reducible] def xO:AOp:=qm 1
@[reducible] def xP(a b:Nat)(c:AOp):CO:=wK a cd b c
@[reducible] def xQ(a b:Nat):CO:=wS a cP b
@[reducible] def xR(a:List AOp):AI:= .call iz a
@[reducible] def xS(a:List CO)(b:Nat)(c:AK):AK:=qg a (qF b c)
@[reducible] def xT(a:Nat):CO:=qh a 4
@[reducible] def xU(a:Nat):CO:=qh a 3
@[reducible] def xV(a b c:Nat)(d:AOp):AI:= .app a b (.t c) d
@[reducible] def xW(a b:List CO):AK:=qg a (.reg b)
@[reducible] def xX(a b:Nat):CO:=qv a 1 b
@[reducible] def xY:CO:=ww 12
@[reducible] def xZ(a b:Nat)(c:BinOp)(d:Nat)(e:Int):CO:=qL a b (wz c d e)
@[reducible] def x4(a:List CO)(b:Nat)(c:AK)(d:List CO)(e:Nat)(f g:AK):AK:=wZ a b c (wZ d e f g)
@[reducible] def x5:List AV:=[.nils]
@[reducible] def x6(a:Nat):CO:=qf a wo
def gU:FK:=⟨28,xN,qT [w9] [wu 6,ww 7,we 8 7,qX 9 .sub 6 8,qh 1 9] (wq [wu 10,xk 11 10 0] 11 [xH] (xI [xK] 0 [wN 12,ww 13,we 14 13,wy 15 12 14] 15 0 1 (qT [wu 18,ww 19,wN 20,wc 21 1 19 20,qx 22 21,qd 23 (.len true (.t 22)),qX 24 .sub 18 23,qh 1 24] [wu 25,xk 26 25 0] (qR 26 [xH])) (wN 16) 17 16 5 17 (wV (wu 27) 4 27)))⟩
theorem tr:ag Tryz.prog gX=some gU:=by kernel_rfl
def kX:FK:=⟨19,xN,qT [xJ 2 4,w9] [wu 5,xv 6 2,qx 7 6,qd 8 (.len true (.t 7)),qX 9 .sub 5 8,qh 1 9] (wq [wu 10,xk 11 10 0] 11 [xH] (xj [xr 12 2,qx 13 12,wu 14,wL 15 eh 13 14,qh 1 15] [wu 16,xk 17 16 0] 17 [xH] (qz (wV (wu 18) 4 18))))⟩
theorem yZ:ag Tryz.prog ig=some kX:=by kernel_rfl
def jX:FK:=⟨27,xN,qT [w9] [wu 6,ww 7,we 8 7,qX 9 .sub 6 8,qh 1 9] (wq [wu 10,xk 11 10 0] 11 [xH] (xI [xK] 0 [wN 12,ww 13,we 14 13,wy 15 12 14] 15 0 1 (qT [ww 18,wN 19,wc 20 4 18 19,xh 21 20,wu 22,wL 23 ig 21 22,qh 1 23] [wu 24,xk 25 24 0] (qR 25 [xH])) (wN 16) 17 16 5 17 (wV (wu 26) 4 26)))⟩
theorem uR:ag Tryz.prog eh=some jX:=by kernel_rfl
def kF:FK:=⟨31,xN,qT [xJ 2 5,w9] [wu 5,xX 6 2,qx 7 6,qd 8 (.len true (.t 7)),qX 9 .sub 5 8,qh 1 9] (wq [wu 10,xk 11 10 0] 11 [xH] (xj [xv 12 2,qx 13 12,wu 14,wL 15 eh 13 14,qh 1 15] [wu 16,xk 17 16 0] 17 [xH] (xj [xr 18 2,qx 19 18,wu 20,wL 21 cA 19 20,qh 1 21] [wu 22,xk 23 22 0] 23 [xH] (xj [qv 24 4 2,qx 25 24,wu 26,wL 27 cA 25 26,qh 1 27] [wu 28,xk 29 28 0] 29 [xH] (qz (wV (wu 30) 4 30))))))⟩
theorem zn:ag Tryz.prog iw=some kF:=by kernel_rfl
def jD:FK:=⟨27,xN,qT [w9] [wu 6,ww 7,we 8 7,qX 9 .sub 6 8,qh 1 9] (wq [wu 10,xk 11 10 0] 11 [xH] (xI [xK] 0 [wN 12,ww 13,we 14 13,wy 15 12 14] 15 0 1 (qT [ww 18,wN 19,wc 20 5 18 19,qD 21 5 20,wu 22,wL 23 iw 21 22,qh 1 23] [wu 24,xk 25 24 0] (qR 25 [xH])) (wN 16) 17 16 5 17 (wV (wu 26) 4 26)))⟩
theorem vj:ag Tryz.prog cA=some jD:=by kernel_rfl
def nc:FK:=⟨25,xN,qT [xJ 2 3,w9] [wu 5,wU 6 2,qx 7 6,qd 8 (.len true (.t 7)),qX 9 .sub 5 8,qh 1 9] (wq [wu 10,xk 11 10 0] 11 [xH] (xj [xX 12 2,qx 13 12,wu 14,wL 15 gX 13 14,qh 1 15] [wu 16,xk 17 16 0] 17 [xH] (xj [xv 18 2,qx 19 18,wu 20,wL 21 cA 19 20,qh 1 21] [wu 22,xk 23 22 0] 23 [xH] (qz (wV (wu 24) 4 24)))))⟩
theorem De:ag Tryz.prog kw=some nc:=by kernel_rfl
def lY:FK:=⟨27,xN,qT [w9] [wu 6,ww 7,we 8 7,qX 9 .sub 6 8,qh 1 9] (wq [wu 10,xk 11 10 0] 11 [xH] (xI [xK] 0 [wN 12,ww 13,we 14 13,wy 15 12 14] 15 0 1 (qT [ww 18,wN 19,wc 20 3 18 19,qD 21 3 20,wu 22,wL 23 kw 21 22,qh 1 23] [wu 24,xk 25 24 0] (qR 25 [xH])) (wN 16) 17 16 5 17 (wV (wu 26) 4 26)))⟩
theorem AS:ag Tryz.prog mj=some lY:=by kernel_rfl
def lO:FK:=⟨12,xN,qT [xJ 2 1,w9] [wU 5 2,qx 6 5,wu 7,wL 8 mj 6 7,qh 1 8] (wq [wu 9,xk 10 9 0] 10 [xH] (qz (wV (wu 11) 4 11)))⟩
theorem sY:ag Tryz.prog eM=some lO:=by kernel_rfl
def lG:FK:=⟨22,[xm],qT [qf 2 xl] [ww 5,we 6 5,qd 7 (.mks 1 16 [q8] (.t 6) (.t 6)),qh 3 7] (xI [w9] 0 [xT 8,ww 9,we 10 9,wy 11 8 10] 11 0 1 (.reg [xU 14,xT 15,ww 16,xT 17,wc 18 1 16 17,qx 19 18,wc 20 1 14 15,xu 20 19]) (xT 12) 13 12 4 13 (wV (xU 21) 2 21))⟩
theorem sR:ag Tryz.prog dq=some lG:=by kernel_rfl
def kY:FK:=⟨18,[.c 2 wP],qT [xJ 1 4,qV 2 [q9,q9,q8,.nils]] [qV 3 [q9,q9,q8,.nils]] (qT [wU 4 1,qx 5 4,wU 6 3,xu 6 5] [xX 7 1,qx 8 7,xX 9 3,xu 9 8] (qT [xv 10 1,qx 11 10,xv 12 3,xu 12 11] [xr 13 1,qx 14 13,wS 15 bQ 14,xr 16 3,xu 16 15] (qz [xh 17 3,xL 2 17])))⟩
theorem oV:ag Tryz.prog dQ=some kY:=by kernel_rfl
def jv:FK:=⟨23,[xm],qT [qf 2 xl] [ww 5,we 6 5,qd 7 (.mks 4 56 [q9,q9,q8,.nils] (.t 6) (.t 6)),qh 3 7] (xI [w9] 0 [xT 8,ww 9,we 10 9,wy 11 8 10] 11 0 1 (.reg [xU 14,xT 15,ww 16,xT 17,wc 18 4 16 17,xh 19 18,wS 20 dQ 19,wc 21 4 14 15,xL 21 20]) (xT 12) 13 12 4 13 (wV (xU 22) 2 22))⟩
theorem ny:ag Tryz.prog bQ=some jv:=by kernel_rfl
def kP:FK:=⟨23,[.c 2 (some 5)],qT [xJ 1 5,qV 2 [q9,q8,.nils,.nils,.nils]] [qV 3 [q9,q8,.nils,.nils,.nils]] (qT [wU 4 1,qx 5 4,wU 6 3,xu 6 5] [xX 7 1,qx 8 7,xX 9 3,xu 9 8] (qT [xv 10 1,qx 11 10,wS 12 bQ 11,xv 13 3,xu 13 12] [xr 14 1,qx 15 14,wS 16 bu 15,xr 17 3,xu 17 16] (xo [qv 18 4 1,qx 19 18,wS 20 bu 19,qv 21 4 3,xu 21 20] [qD 22 5 3,qQ 5 2 22])))⟩
theorem pk:ag Tryz.prog dP=some kP:=by kernel_rfl
def jK:FK:=⟨23,[xm],qT [qf 2 xl] [ww 5,we 6 5,qd 7 (.mks 5 96 [q9,q8,.nils,.nils,.nils] (.t 6) (.t 6)),qh 3 7] (xI [w9] 0 [xT 8,ww 9,we 10 9,wy 11 8 10] 11 0 1 (.reg [xU 14,xT 15,ww 16,xT 17,wc 18 5 16 17,qD 19 5 18,wS 20 dP 19,wc 21 5 14 15,qQ 5 21 20]) (xT 12) 13 12 4 13 (wV (xU 22) 2 22))⟩
theorem mP:ag Tryz.prog bu=some jK:=by kernel_rfl
def mV:FK:=⟨16,[.c 2 (some 3)],qT [xJ 1 3,qV 2 [q8,.nils,.nils]] [qV 3 [q8,.nils,.nils]] (qT [wU 4 1,qx 5 4,wU 6 3,xu 6 5] [xX 7 1,qx 8 7,wS 9 dq 8,xX 10 3,xu 10 9] (xo [xv 11 1,qx 12 11,wS 13 bu 12,xv 14 3,xu 14 13] [qD 15 3 3,qQ 3 2 15]))⟩
theorem ue:ag Tryz.prog fZ=some mV:=by kernel_rfl
def mv:FK:=⟨23,[xm],qT [qf 2 xl] [ww 5,we 6 5,qd 7 (.mks 3 64 [q8,.nils,.nils] (.t 6) (.t 6)),qh 3 7] (xI [w9] 0 [xT 8,ww 9,we 10 9,wy 11 8 10] 11 0 1 (.reg [xU 14,xT 15,ww 16,xT 17,wc 18 3 16 17,qD 19 3 18,wS 20 fZ 19,wc 21 3 14 15,qQ 3 21 20]) (xT 12) 13 12 4 13 (wV (xU 22) 2 22))⟩
theorem sD:ag Tryz.prog gu=some mv:=by kernel_rfl
def gN:FK:=⟨9,[.c 2 (some 1)],qT [xJ 1 1,qV 2 x5] [qV 3 x5] (xo [wU 4 1,qx 5 4,wS 6 gu 5,wU 7 3,xu 7 6] [qD 8 1 3,xu 2 8])⟩
theorem ln:ag Tryz.prog bL=some gN:=by kernel_rfl
def nL:FK:=⟨15,[.t 6],xo [wt 6] [ww 7,wu 8,qX 9 .geq 7 8,qh 10 9,xD 11 10 0,xD 12 10 2,qK 13 10 (qo .leq 11 (.t 12)),xp 14 10 13,qh 6 14]⟩
theorem BM:ag Tryz.prog iz=some nL:=by kernel_rfl
def nv:FK:=⟨18,xN,qg [w9] (xI [xK] 0 [wN 6,ww 7,qd 8 (.len true (.t 7)),wy 9 6 8] 9 0 1 (w7 [xY,wN 13,qd 14 (.idxStr (.t 12) (.t 13)),wu 15,qX 16 .eql 14 15] 16 (wV (wN 17) 4 17)) (wN 10) 11 10 5 11 [xH])⟩
theorem uX:ag Tryz.prog jn=some nv:=by kernel_rfl
def mT:FK:=⟨28,[xm],qg [wA 2] (qU 0 (x4 [ww 4,qt 5 .geq 4 (.c (qi .u8 97)),wN 6,xD 7 6 0,qK 8 6 (qo .leq 7 (.c (qi .u8 122))),xp 9 6 8,qh 3 9] 3 (qz [qE 2 1]) [ww 11,qt 12 .geq 11 (.c (qi .u8 48)),qh 13 12,xD 14 13 0,qK 15 13 (qo .leq 14 (.c (qi .u8 57))),xp 16 13 15,qh 10 16] 10 (qz [qE 2 2]) (wZ [ww 18,qu 19 jn [.c (qO [40,41,123,125,59,44,43,45,42,47,37,60,61,38,33,64]),.t 18],qB 20 .geq 19 0,qh 17 20] 17 (qz [qE 2 3]) (w7 [ww 22,qt 23 .eql 22 (.c (qi .u8 32)),qh 24 23,xq 25 24 0,qL 26 24 (qo .eql 25 (.c (qi .u8 10))),xE 27 24 26,qh 21 27] 21 [qE 2 4]))) (qz [wA 2]))⟩
theorem yL:ag Tryz.prog jT=some mT:=by kernel_rfl
def rP:FK:=⟨21,xN,qg xM (xI [xK] 0 [wN 6,ww 7,qd 8 (.len true (.t 7)),wy 9 6 8] 9 0 1 (w7 [xY,wN 13,qd 14 (.idxStr (.t 12) (.t 13)),wS 15 jT 14,wu 16,qX 17 .neq 15 16] 17 xM) (wN 10) 11 10 5 11 [ww 18,qd 19 (.len true (.t 18)),qB 20 .gtr 19 0,qh 4 20])⟩
theorem Bx:ag Tryz.prog lV=some rP:=by kernel_rfl
def my:FK:=⟨2,[.t 0],xo [qf 0 xl] [xd 1 1 [q8] 9 [(0,1,.c (qO [102,110])),(1,1,.c (qO [108,101,116])),(2,1,.c (qO [115,97,121])),(3,1,.c (qO [112,117,116])),(4,1,.c (qO [105,102])),(5,1,.c (qO [101,108,115,101])),(6,1,.c (qO [108,111,111,112])),(7,1,.c (qO [98,97,99,107])),(8,1,.c (qO [100,111]))],wu 0]⟩
theorem uq:ag Tryz.prog fK=some my:=by kernel_rfl
def sv:FK:=⟨18,[xm],qT [xA] [qu 5 fK [],wN 3] (xI [w9] 0 [xT 6,xU 7,we 8 7,wy 9 6 8] 9 0 1 (w7 [xU 12,xT 13,wc 14 1 12 13,qx 15 14,ww 16,qd 17 (xn .eql 15 (.t 16))] 17 [x6 2]) (xT 10) 11 10 4 11 [xA])⟩
theorem Bm:ag Tryz.prog mb=some sv:=by kernel_rfl
def py:FK:=⟨15,[xm],xo [xA] [ww 3,wK 4 lV 3 xO,xT 5,xD 6 5 0,qK 7 5 (.len true (.t 6)),xb 8 5 .leq 7 4,xp 9 5 8,qh 10 9,xD 11 10 0,xC 12 10 mb (wR 11),qK 13 10 (wl 12),xp 14 10 13,qh 2 14]⟩
theorem zA:ag Tryz.prog cn=some py:=by kernel_rfl
def kM:FK:=⟨5,[xm],xj [wA 2] [ww 3,wh 4 3 4] 4 [qE 2 2] (qz [qE 2 1])⟩
theorem yX:ag Tryz.prog ia=some kM:=by kernel_rfl
def cZ:FK:=⟨13,[xm,.t 3],qg [wA 2,wA 3] (qy [ww 4] (.blk 0 (qy (xg 6 4 1 5 6) (qp 5 .skip (.reg (xg 7 4 2 5 7))) (qp 5 (qz [wA 2,wA 3]) (qy (xg 9 4 11 8 9) (qp 8 .skip (.reg (xg 10 4 12 8 10))) (qp 8 (qz [qE 2 1,qE 3 1]) (w7 (xg 12 4 13 11 12) 11 [wA 2,qE 3 3])))))) (qz [qE 2 2,qE 3 2]))⟩
theorem zy:ag Tryz.prog il=some cZ:=by kernel_rfl
def ir:FK:=⟨86,xN,qT [xJ 2 4,wH] [wU 10 2,qx 11 10,wS 12 il 11,qh 9 12,wM 13 0 9,wM 14 1 9,qh 5 13,qh 6 14] (wq [wu 15,xk 16 15 1,qh 17 16,xe 18 17 0 2,xa 19 17 18,qL 20 17 (xR [.t 19,xO,qm 13]),qL 21 17 (wl 20),xE 22 17 21,qh 23 22,xe 24 23 3 2,xa 25 23 24,qL 26 23 (qY 25),xq 27 23 5,xq 28 23 6,qL 29 23 (xR [.t 26,.t 27,.t 28]),qL 30 23 (wl 29),xE 31 23 30] 31 xM (xj [wU 32 2,qx 33 32,wh 34 33 2,qh 35 34,xe 36 35 0 2,xa 37 35 36,xZ 38 35 .eql 37 13,xE 39 35 38,qh 7 39] [qh 40 7,xv 41 2,qx 42 41,wS 43 cn 42,qd 44 (.beq true (.t 40) (.t 43)),qh 45 44,xq 46 45 7,qL 47 45 (wl 46),xq 48 45 47,wG 49 48 2 2,wD 50 48 49,qK 51 48 (xn .neq 50 (.c q8)),qL 52 45 (qI 48 (.t 51) qG),xE 53 45 52,qh 54 53,xe 55 54 1 2,xa 56 54 55,qL 57 54 (xR [.t 56,xf,qm 255]),qL 58 54 (wl 57),xE 59 54 58,qh 60 59,xe 61 60 0 2,xa 62 60 61,xZ 63 60 .neq 62 1,xq 64 60 63,wG 65 64 1 2,wD 66 64 65,xb 67 64 .neq 66 0,qL 68 60 (qI 64 (.t 67) qG),xE 69 60 68] 69 xM (xI [wA 8] 0 [qh 70 8,xr 71 2,qx 72 71,we 73 72,wy 74 70 73] 74 0 1 (w7 [xr 77 2,qx 78 77,qh 79 8,wc 80 4 78 79,xh 81 80,wu 82,qB 83 .sub 82 1,wL 84 fy 81 83,wY 85 84] 85 xM) (qh 75 8) 76 75 8 76 [x6 4])))⟩
theorem px:ag Tryz.prog fy=some ir:=by kernel_rfl
def nb:FK:=⟨21,[xm],qT [xJ 1 4,wA 2] [qE 3 1] (xI [w9] 0 [xT 5,xr 6 1,qx 7 6,we 8 7,wy 9 5 8] 9 0 1 (.reg [xU 12,xr 13 1,qx 14 13,xT 15,wc 16 4 14 15,xh 17 16,wS 18 gd 17,qX 19 .add 12 18,qh 3 19]) (xT 10) 11 10 4 11 (wV (xU 20) 2 20))⟩
theorem vD:ag Tryz.prog gd=some nb:=by kernel_rfl
def lP:FK:=⟨10,[xm],xo [xJ 1 4,xA] [xh 3 1,wK 4 fy 3 (qm 6),xT 5,qK 6 5 (qk wP 1),xC 7 5 gd (wR 6),xb 8 5 .leq 7 30,xp 9 5 8,qh 2 9]⟩
theorem tk:ag Tryz.prog eL=some lP:=by kernel_rfl
def im:FK:=⟨108,xN,xj [xJ 2 5,wH] [wu 7,xk 8 7 1,qh 9 8,xe 10 9 0 2,xa 11 9 10,qL 12 9 (xR [.t 11,xO,qm 8]),qL 13 9 (wl 12),xE 14 9 13,qh 15 14,xe 16 15 2 2,xe 19 15 0 2,xa 17 15 16,qL 18 15 (qY 17),xa 20 15 19,qL 21 15 (.qcall ia (wR 20)),qL 22 15 (qo .neq 18 (.t 21)),xE 23 15 22] 23 xM (xj [wU 24 2,qx 25 24,wh 26 25 1,qh 27 26,xe 28 27 0 2,xa 29 27 28,xZ 30 27 .eql 29 2,xE 31 27 30,qh 5 31] [wN 32,xX 33 2,qx 34 33,wS 35 cn 34,qd 36 (.beq true (.t 32) (.t 35)),qh 37 36,xq 38 37 5,qL 39 37 (wl 38),xq 40 37 39,wG 41 40 1 2,wD 42 40 41,qK 43 40 (xn .neq 42 (.c q8)),qL 44 37 (qI 40 (.t 43) qG),xE 45 37 44] 45 xM (wB [wA 6] 0 (wW [qh 46 6,xv 47 2,qx 48 47,we 49 48,wy 50 46 49] 50 0 1 (w7 [xv 53 2,qx 54 53,qh 55 6,wc 56 4 54 55,xh 57 56,wS 58 eL 57,wY 59 58] 59 xM) (xy (qh 51 6) 52 51 6 52)) (wq [wU 60 2,qx 61 60,wh 62 61 8,qh 63 62,wG 64 63 2 2,wD 65 63 64,qK 66 63 (qH 4 65 xf),wG 67 63 0 66,wD 68 63 67,xb 69 63 .neq 68 13,xp 70 63 69] 70 xM (wq [qv 71 4 2,qx 72 71,we 73 72,qB 74 .gtr 73 0,qh 75 74,wG 76 75 0 2,wD 77 75 76,xb 78 75 .neq 77 5,xp 79 75 78,qh 80 79,xe 81 80 3 2,xa 82 80 81,qL 83 80 (qY 82),xZ 84 80 .gtr 83 0,xq 85 80 84,wG 86 85 0 2,wD 87 85 86,xb 88 85 .neq 87 5,qL 89 80 (qI 85 (.t 88) qG),xq 90 80 89,wG 91 90 0 2,wD 92 90 91,xb 93 90 .neq 92 6,qL 94 80 (qI 90 (.t 93) qG),xE 95 80 94] 95 xM (qz [xr 96 2,qx 97 96,wu 98,qB 99 .sub 98 1,wL 100 bU 97 99,qh 101 100,wG 102 101 4 2,wD 103 101 102,xD 104 101 1,xb 105 101 .sub 104 1,xC 106 101 bU (wJ 103 (.t 105)),xp 107 101 106,qh 4 107])))))⟩
theorem oT:ag Tryz.prog ik=some im:=by kernel_rfl
def nj:FK:=⟨19,xN,qg xM (xI [xK] 0 [wN 6,ww 7,we 8 7,wy 9 6 8] 9 0 1 (w7 [xY,wN 13,wc 14 5 12 13,qD 15 5 14,wu 16,wL 17 ik 15 16,wY 18 17] 18 xM) (wN 10) 11 10 5 11 [x6 4])⟩
theorem vH:ag Tryz.prog bU=some nj:=by kernel_rfl
def ug:FK:=⟨32,[xm],qg [xJ 1 3,xA] (xI [wA 3] 0 [xU 4,xX 5 1,qx 6 5,we 7 6,wy 8 4 7] 8 0 1 (w7 [xX 11 1,qx 12 11,xU 13,wc 14 1 12 13,qx 15 14,wS 16 cn 15,wY 17 16] 17 [xA]) (xU 9) 10 9 3 10 [wU 18 1,qx 19 18,wS 20 cn 19,qh 21 20,wG 22 21 1 1,wD 23 21 22,qK 24 21 (qY 23),xb 25 21 .leq 24 3,xp 26 21 25,qh 27 26,wG 28 27 2 1,wD 29 27 28,xC 30 27 bU (wJ 29 (qm 4)),xp 31 27 30,qh 2 31])⟩
theorem DD:ag Tryz.prog mY=some ug:=by kernel_rfl
def jq:FK:=⟨29,[xm],qT [wA 2] (xx (ww 5) (we 6 5) 3 6) (xI [w9] 0 [xT 7,ww 8,we 9 8,wy 10 7 9] 10 0 1 (.reg [xU 13,ww 14,xT 15,wc 16 5 14 15,xr 17 16,ww 21,xT 22,wc 23 5 21 22,qv 24 4 23,qx 18 17,qx 25 24,wS 19 eE 18,wE 24 25,qX 20 .add 13 19,wS 26 eE 25,qX 27 .add 20 26,qh 3 27]) (xT 11) 12 11 4 12 (wV (xU 28) 2 28))⟩
theorem mZ:ag Tryz.prog eE=some jq:=by kernel_rfl
def rW:FK:=⟨22,[xm],qT [xJ 1 1,wA 2] [wA 3] (xI [w9] 0 [xT 5,wU 6 1,qx 7 6,we 8 7,wy 9 5 8] 9 0 1 (.reg [xU 12,wU 13 1,qx 14 13,xT 15,wc 16 3 14 15,xv 17 16,qx 18 17,wS 19 eE 18,qX 20 .add 12 19,qh 3 20]) (xT 10) 11 10 4 11 (wV (xU 21) 2 21))⟩
theorem AA:ag Tryz.prog lZ=some rW:=by kernel_rfl
def iO:FK:=⟨26,[xm],xj [xJ 1 1,xA] [wU 4 1,qx 5 4,we 6 5,qu 7 iz [.t 6,xO,qm 4],wY 8 7] 8 [xA] (xI [wA 3] 0 [xU 9,wU 10 1,qx 11 10,we 12 11,wy 13 9 12] 13 0 1 (w7 [wU 16 1,qx 17 16,xU 18,wc 19 3 17 18,qD 20 3 19,wS 21 mY 20,wY 22 21] 22 [xA]) (xU 14) 15 14 3 15 [qD 23 1 1,wS 24 lZ 23,qB 25 .leq 24 40,qh 2 25])⟩
theorem oO:ag Tryz.prog fb=some iO:=by kernel_rfl
def tH:FK:=⟨22,xN,qg [xJ 2 1,w9] (xI [xK] 0 [wN 6,wU 7 2,qx 8 7,we 9 8,wy 10 6 9] 10 0 1 (w7 [wU 13 2,qx 14 13,wN 15,wc 16 3 14 15,wU 17 16,qx 18 17,wu 19,qd 20 (xn .eql 18 (.t 19))] 20 (wV (wN 21) 4 21)) (wN 11) 12 11 5 12 [xH])⟩
theorem Cd:ag Tryz.prog kj=some tH:=by kernel_rfl
def fQ:FK:=⟨13,[],xS [ww 4,xw 5 4,qv 6 4 5,qx 7 6,wh 8 7 0] 8 (.reg [ww 9,wu 10,xw 11 9,qv 12 4 11,xu 12 10])⟩
theorem pK:ag Tryz.prog bn=some fQ:=by kernel_rfl
def fP:FK:=⟨27,xN,qg [w9] (xt [ww 6,xw 7 6,xv 8 7,qx 9 8,we 10 9,qB 11 .sub 10 1,qh 5 11] 0 [wN 12,qB 13 .geq 12 0] 13 0 1 (w7 [ww 16,xw 17 16,xv 18 17,qx 19 18,wN 20,wc 21 3 19 20,wU 22 21,qx 23 22,wu 24,qd 25 (xn .eql 23 (.t 24))] 25 (wV (wN 26) 4 26)) (xx (wN 14) (qB 15 .sub 14 1) 5 15) [xH])⟩
theorem pL:ag Tryz.prog dA=some fP:=by kernel_rfl
def pf:FK:=⟨11,[xm],qT [qf 2 (.c q8)] [ww 4,qB 5 .rem 4 26,wN 3] (qz [xU 6,xU 7,xi 8 7,qd 9 (.slStr (.c (qO [97,98,99,100,101,102,103,104,105,106,107,108,109,110,111,112,113,114,115,116,117,118,119,120,121,122])) (some (.t 6)) (some (.t 8))),qd 10 (.bins .add (.c (qO [118])) (.t 9)),qh 2 10])⟩
theorem zu:ag Tryz.prog iu=some pf:=by kernel_rfl
def gb:AK:=qT [qf 6 (.c q8)] [ww 8,wu 9,wL 10 dA 8 9,qh 7 10] (.cut (xS [qh 11 7,qB 12 .geq 11 0,qh 13 12,xD 14 13 0,qK 15 13 (wF 14),wG 16 13 2 15,wD 17 13 16,xD 18 13 7,qK 19 13 (qH 3 17 (.t 18)),wG 20 13 2 19,wD 21 13 20,xD 22 13 2,qK 23 13 (qo .eql 21 (.t 22)),xp 24 13 23] 24 (.reg [ww 25,wK 26 bn 25 (qm 2)])) (qT [ww 27,ww 28,xw 29 28,xv 30 29,wu 32,ww 33,xw 34 33,xr 35 34,qh 37 2,qx 31 30,qx 36 35,qd 38 (.bld [q8,q9,q9] [(0,1,.t 32),(1,1,.t 36),(2,1,.t 37)]),qd 39 (.bslP 3 [q8,q9,q9] 1 [(0,3,.t 38)]),qd 40 (xV 3 32 31 (.t 39)),xw 41 27,xv 42 41,xu 42 40] [ww 43,ww 44,xw 45 44,xr 46 45,qx 47 46,xi 48 47,xw 49 43,xr 50 49,xu 50 48] (qz [ww 51,xw 52 51,xr 53 52,qx 54 53,qB 55 .sub 54 1,wS 56 iu 55,qh 6 56])))
def gx:FK:=⟨57,[.t 6],(AK.whole gb)⟩
theorem ri:ag Tryz.prog dZ=some gx:=by kernel_rfl
def kg:FK:=⟨23,xN,qT [qf 4 (.c q8)] [ww 6,wu 7,wL 8 dA 6 7,qh 5 8] (qy [wN 9,xk 10 9 0] (qF 10 (xo [ww 11,wK 12 bn 11 (qm 3)] (wV (wu 13) 4 13))) (qz [ww 14,xw 15 14,xv 16 15,qx 17 16,wN 18,wc 19 3 17 18,xX 20 19,qx 21 20,wS 22 iu 21,qh 4 22]))⟩
theorem sc:ag Tryz.prog ef=some kg:=by kernel_rfl
def fS:AK:=qg [wx 3 4 1,qV 4 [q9,q9,q8,.nils]] (.cut (xS [wU 8 3,qx 9 8,wh 10 9 2] 10 (.reg [ww 11,xv 12 3,qx 13 12,wL 14 ef 11 13,xv 15 3,xu 15 14])) (.cut (xS [wU 16 3,qx 17 16,wh 18 17 13] 18 (qT [ww 19,xw 20 19,wU 21 20,xv 23 3,qD 22 1 21,qx 24 23,wL 25 kj 22 24,qh 5 25] [wN 26,xk 27 26 0,qh 28 27,xq 29 28 5,xq 30 28 0,qL 31 28 (wF 30),xe 32 28 1 31,xa 33 28 32,qL 34 28 (qo .geq 29 (.t 33)),xE 35 28 34] (qp 35 (.reg [ww 36,wK 37 bn 36 (qm 4)]) (xS [ww 38,xw 39 38,wU 40 39,wU 41 40,wN 43,xr 48 3,qx 42 41,wc 44 3 42 43,xX 45 44,qx 46 45,we 47 46,qx 49 48,we 50 49,qX 51 .neq 47 50] 51 (.reg [ww 52,wK 53 bn 52 (qm 5)]))))) (qg (wV (xd 54 4 [q9,q9,q8,.nils] 0 []) 6 54) (wB [wA 7] 0 (wW [qh 55 7,xr 56 3,qx 57 56,we 58 57,wy 59 55 58] 59 0 1 (.reg [qh 62 6,ww 63,xr 64 3,qx 65 64,qh 66 7,wc 67 4 65 66,xh 68 67,wL 69 cF 63 68,xd 70 4 [q9,q9,q8,.nils] 1 [(0,4,.t 69)],qd 71 (xV 4 56 62 (.t 70)),qh 6 71]) (xy (qh 60 7) 61 60 7 61)) (xo [qh 72 6,xr 73 3,xu 73 72] [xh 74 3,xL 4 74])))))
def fR:FK:=⟨75,[.c 4 wP],(AK.whole fS)⟩
theorem pQ:ag Tryz.prog cF=some fR:=by kernel_rfl
def fd:AK:=qT [qf 6 xl] (wV (xd 13 5 [q9,q8,.nils,.nils,.nils] 0 []) 7 13) (qg [ww 14,xw 15 14,xv 16 15,qx 17 16,we 18 17,qh 8 18] (wB [wA 9] 0 (wW [qh 19 9,wu 20,we 21 20,wy 22 19 21] 22 0 1 (qT [wu 25,qh 26 9,wc 27 5 25 26,qD 28 5 27,qV 10 [q9,q8,.nils,.nils,.nils],qQ 5 10 28] (wV (xd 29 4 [q9,q9,q8,.nils] 0 []) 11 29) (wB [wA 12] 2 (wW [qh 30 12,xv 31 10,qx 32 31,we 33 32,wy 34 30 33] 34 2 3 (.reg [qh 37 11,ww 38,xv 39 10,qx 40 39,qh 41 12,wc 42 4 40 41,xh 43 42,wL 44 cF 38 43,xd 45 4 [q9,q9,q8,.nils] 1 [(0,4,.t 44)],qd 46 (xV 4 56 37 (.t 45)),qh 11 46]) (xy (qh 35 12) 36 35 12 36)) (.cut (.reg [qh 47 11,xv 48 10,xu 48 47]) (.cut (xS [wU 49 10,qx 50 49,wh 51 50 1] 51 (.reg [ww 52,xX 53 10,qx 54 53,qh 55 2,qu 56 dZ [.t 52,.t 54,.t 55],xX 57 10,xu 57 56])) (.cut (xS [wU 58 10,qx 59 58,wh 60 59 2] 60 (.reg [ww 61,xX 62 10,qx 63 62,wL 64 ef 61 63,xX 65 10,xu 65 64])) (qT [ww 66,xr 67 10,qx 68 67,qh 69 2,xi 70 69,qu 71 ce [.t 66,.t 68,.t 70],xr 72 10,xu 72 71] [ww 73,qv 74 4 10,qx 75 74,qh 76 2,xi 77 76,qu 78 ce [.t 73,.t 75,.t 77],qv 79 4 10,xu 79 78] (.reg [qh 80 7,qD 81 5 10,xd 82 5 [q9,q8,.nils,.nils,.nils] 1 [(0,5,.t 81)],qd 83 (xV 5 96 80 (.t 82)),qh 7 83]))))))) (xy (qh 23 9) 24 23 9 24)) (.cut (xS [qh 84 2,qB 85 .gtr 84 0] 85 (.reg [ww 86,ww 87,xw 88 87,xv 89 88,qx 90 89,qh 91 8,qd 92 (.slS 3 (.t 90) none (some (.t 91))),xw 93 86,xv 94 93,xu 94 92])) (qz (wV (qh 95 7) 6 95)))))
def fk:FK:=⟨96,[.t 6],(AK.whole fd)⟩
theorem oG:ag Tryz.prog ce=some fk:=by kernel_rfl
def nJ:AK:=qT [xJ 2 1,qV 4 [q8,.nils,.nils],xK,wA 6] [qD 11 1 2,wu 12,qd 13 (.bld [.nils,q9,.nils,q9,q9] [(0,1,.t 11),(1,1,.t 12)]),wx 14 5 13,qh 7 14] (.cut (.reg [wU 15 2,qx 16 15,wu 17,wc 18 3 16 17,qD 19 3 18,qV 8 [q8,.nils,.nils],qQ 3 8 19]) (.cut (xS [qD 20 1 2,wU 21 8,qx 22 21,wL 23 kj 20 22,wu 24,qX 25 .neq 23 24] 25 (.reg [qh 26 7,wK 27 bn 26 (qm 2)])) (qg (wV (xd 28 1 [q8] 0 []) 9 28) (wB [wA 10] 0 (wW [qh 29 10,xX 30 8,qx 31 30,we 32 31,wy 33 29 32] 33 0 1 (.reg [qh 36 9,qh 37 7,xX 38 8,qx 39 38,qh 40 10,wc 41 1 39 40,qx 42 41,qu 43 dZ [.t 37,.t 42,xf],xd 44 1 [q8] 1 [(0,1,.t 43)],qd 45 (xV 1 16 36 (.t 44)),qh 9 45]) (xy (qh 34 10) 35 34 10 35)) (qT [qh 46 9,xX 47 8,xu 47 46] [qh 48 7,xv 49 8,qx 50 49,qu 51 ce [.t 48,.t 50,xf],xv 52 8,xu 52 51] (qz [qh 54 7,xw 55 54,qv 56 4 55,qh 58 7,xw 59 58,xr 60 59,qD 53 3 8,qx 57 56,qx 61 60,qQ 3 4 53,wE 56 57,wE 60 61,qh 5 57,qh 6 61]))))))
def nr:FK:=⟨62,[.c 4 (some 3),.t 5,.t 6],(AK.whole nJ)⟩
theorem BV:ag Tryz.prog kh=some nr:=by kernel_rfl
def iT:FK:=⟨27,[xm],xj [xJ 1 1,wA 2] [qD 7 1 1,wS 8 fb 7,wY 9 8] 9 [qE 2 1] (xI [wA 3] 0 [xU 10,wU 11 1,qx 12 11,we 13 12,wy 14 10 13] 14 0 1 (qT [qD 18 1 1,xU 19,wL 20 kh 18 19,qh 17 20,wM 21 0 17,wM 22 1 17,wM 23 2 17,qV 4 [q8,.nils,.nils],qQ 3 4 21,qh 5 22,qh 6 23] [wN 24,qB 25 .neq 24 0] (qR 25 (wV (wN 26) 2 26))) (xU 15) 16 15 3 16 [wA 2])⟩
theorem oD:ag Tryz.prog fg=some iT:=by kernel_rfl
def pu:FK:=⟨6,[xm],xo [xJ 1 1,xA] [qD 3 1 1,wS 4 fg 3,wh 5 4 0,wN 2]⟩
theorem za:ag Tryz.prog kV=some pu:=by kernel_rfl
def pr:FK:=⟨25,[.c 2 wP],qT [xJ 1 4,qV 2 [q9,q9,q8,.nils]] [xd 5 4 [q9,q9,q8,.nils] 0 [],wN 3] (wB [w9] 0 (wW [xT 6,xr 7 1,qx 8 7,we 9 8,wy 10 6 9] 10 0 1 (.reg [xU 13,xr 14 1,qx 15 14,xT 16,wc 17 4 15 16,xh 18 17,wS 19 ic 18,xd 20 4 [q9,q9,q8,.nils] 1 [(0,4,.t 19)],qd 21 (xV 4 56 13 (.t 20)),qh 3 21]) (xy (xT 11) 12 11 4 12)) (xo [xU 22,xr 23 1,xu 23 22] [xh 24 1,xL 2 24]))⟩
theorem zK:ag Tryz.prog ic=some pr:=by kernel_rfl
def np:FK:=⟨52,[xm],qT [qf 2 xl] (wV (xd 8 5 [q9,q8,.nils,.nils,.nils] 0 []) 3 8) (xI [w9] 0 [xT 9,ww 10,we 11 10,wy 12 9 11] 12 0 1 (qT [ww 15,xT 16,wc 17 5 15 16,qD 18 5 17,qV 5 [q9,q8,.nils,.nils,.nils],qQ 5 5 18] (wV (xd 19 4 [q9,q9,q8,.nils] 0 []) 6 19) (wB [wA 7] 2 (wW [qh 20 7,xv 21 5,qx 22 21,we 23 22,wy 24 20 23] 24 2 3 (.reg [qh 27 6,xv 28 5,qx 29 28,qh 30 7,wc 31 4 29 30,xh 32 31,wS 33 ic 32,xd 34 4 [q9,q9,q8,.nils] 1 [(0,4,.t 33)],qd 35 (xV 4 56 27 (.t 34)),qh 6 35]) (xy (qh 25 7) 26 25 7 26)) (.reg [xU 36,wU 37 5,xX 39 5,qh 41 6,xr 42 5,qv 45 4 5,qx 38 37,qx 40 39,qx 43 42,qx 46 45,wS 44 dk 43,wE 37 38,wE 39 40,wE 45 46,wS 47 dk 46,wE 37 38,wE 39 40,qd 48 (.bld [q9,q8,.nils,.nils,.nils] [(0,1,.t 38),(1,1,.t 40),(2,1,.t 41),(3,1,.t 44),(4,1,.t 47)]),xd 49 5 [q9,q8,.nils,.nils,.nils] 1 [(0,5,.t 48)],qd 50 (xV 5 96 36 (.t 49)),qh 3 50]))) (xT 13) 14 13 4 14 (wV (xU 51) 2 51))⟩
theorem vq:ag Tryz.prog dk=some np:=by kernel_rfl
def oQ:FK:=⟨35,[.c 2 (some 1)],qT [xJ 1 1,qV 2 x5] [qd 6 (.bld x5 []),qV 3 x5,xu 3 6] (xI [w9] 0 [xT 7,wU 8 1,qx 9 8,we 10 9,wy 11 7 10] 11 0 1 (xW [wU 14 1,qx 15 14,xT 16,wc 17 3 15 16,qD 18 3 17,qV 5 [q8,.nils,.nils],qQ 3 5 18] [wU 19 3,wU 21 5,xX 24 5,xv 27 5,qx 20 19,qx 22 21,qx 25 24,qx 28 27,xd 23 1 [q8] 0 [],wE 19 20,wE 21 22,wE 24 25,wE 27 28,qd 26 (xV 1 16 23 (.t 25)),wE 19 20,wE 21 22,wE 27 28,wS 29 dk 28,wE 19 20,wE 21 22,qd 30 (.bld [q8,.nils,.nils] [(0,1,.t 22),(1,1,.t 26),(2,1,.t 29)]),xd 31 3 [q8,.nils,.nils] 1 [(0,3,.t 30)],wE 19 20,qd 32 (xV 3 64 20 (.t 31)),wU 33 3,xu 33 32]) (xT 12) 13 12 4 13 [qD 34 1 3,xu 2 34])⟩
theorem zB:ag Tryz.prog kO=some oQ:=by kernel_rfl
def mR:FK:=⟨14,xN,xo [xJ 2 4,wH] [wU 5 2,qx 6 5,wh 7 6 1,qh 8 7,wG 9 8 1 2,wD 10 8 9,xD 11 8 1,qK 12 8 (qo .eql 10 (.t 11)),xp 13 8 12,qh 4 13]⟩
theorem Ce:ag Tryz.prog cm=some mR:=by kernel_rfl
def kJ:AK:=qT [qf 2 xl] (wV (xd 7 5 [q9,q8,.nils,.nils,.nils] 0 []) 3 7) (xI [w9] 0 [xT 8,ww 9,we 10 9,wy 11 8 10] 11 0 1 (qT [ww 14,xT 15,wc 16 5 14 15,qD 17 5 16,qV 5 [q9,q8,.nils,.nils,.nils],qQ 5 5 17] [xv 18 5,qx 19 18,q6 20 4 19 xf,xh 21 20,qV 6 [q9,q9,q8,.nils],xL 6 21] (qT [xr 22 5,qx 23 22,wS 24 bP 23,xr 25 5,xu 25 24] [qv 26 4 5,qx 27 26,wS 28 bP 27,qv 29 4 5,xu 29 28] (.cut (xS [wU 30 5,qx 31 30,wh 32 31 6,qh 33 32,qK 34 33 (qk wP 6),xC 35 33 cm (wJ 34 xf),xp 36 33 35] 36 (.exit 1)) (.cut (xS [wU 37 5,qx 38 37,wh 39 38 5,qh 40 39,wG 41 40 0 6,wD 42 40 41,xb 43 40 .eql 42 1,xp 44 40 43] 44 (wZ [xX 45 6,qx 46 45,qB 47 .neq 46 0] 47 (.reg [xd 48 5 [q9,q8,.nils,.nils,.nils] 0 [],qv 49 4 5,xu 49 48]) (.reg [xd 50 5 [q9,q8,.nils,.nils,.nils] 0 [],xr 51 5,xu 51 50]))) (qT [xU 52,qD 53 5 5,xd 54 5 [q9,q8,.nils,.nils,.nils] 1 [(0,5,.t 53)],qd 55 (xV 5 96 52 (.t 54)),qh 3 55] [wU 56 5,qx 57 56,wh 58 57 7] (qF 58 (.exit 0))))))) (xT 12) 13 12 4 13 (wV (xU 59) 2 59))
def kT:FK:=⟨60,[xm],(AK.whole kJ)⟩
theorem zd:ag Tryz.prog bP=some kT:=by kernel_rfl
def nH:FK:=⟨4,[xm],xj [wA 2] [ww 3] 3 [qE 2 1] (qz [wA 2])⟩
theorem yG:ag Tryz.prog cy=some nH:=by kernel_rfl
def se:FK:=⟨5,[.c 2 wP],xo [qV 2 [q9,q9,q8,.nils]] [ww 3,qd 4 (.bld [q9,q9,q8,.nils] [(0,1,xO),(1,1,.t 3)]),xL 2 4]⟩
theorem Bj:ag Tryz.prog dE=some se:=by kernel_rfl
def rQ:FK:=⟨50,[.t 6,.t 7],qg [wA 6,wA 7] (qy [ww 8] (.blk 0 (x4 (xg 10 8 3 9 10) 9 (qz [wu 11,qh 12 2,qX 13 .add 11 12,qB 14 .rem 13 256,qh 6 14,wA 7]) (xg 16 8 4 15 16) 15 (qz [wu 17,qh 18 2,qX 19 .sub 17 18,wj 20 19 256,qB 21 .rem 20 256,qh 6 21,wA 7]) (x4 (xg 23 8 5 22 23) 22 (qz [wu 24,qh 25 2,qX 26 .mul 24 25,qB 27 .rem 26 256,qh 6 27,wA 7]) (xg 29 8 8 28 29) 28 (qz [wu 30,qh 31 2,wy 32 30 31,wS 33 cy 32,qh 6 33,wA 7]) (w7 (xg 35 8 9 34 35) 34 [wu 36,qh 37 2,qX 38 .eql 36 37,wS 39 cy 38,qh 6 39,wA 7])))) (wq [qh 40 2,wh 41 40 0] 41 [wA 6,qE 7 1] (wq [ww 42,wh 43 42 6] 43 [wu 44,qh 45 2,qX 46 .quo 44 45,qh 6 46,wA 7] (qz [wu 47,qh 48 2,qX 49 .rem 47 48,qh 6 49,wA 7]))))⟩
theorem Bs:ag Tryz.prog mc=some rQ:=by kernel_rfl
def kH:FK:=⟨92,[.t 6,.t 7],qg [xJ 3 4,wA 6,wA 7] (qy [wU 12 3,qx 13 12] (.blk 0 (wZ (xg 15 13 1 14 15) 14 (qz [xX 16 3,qx 17 16,qh 6 17,wA 7]) (xS (xg 19 13 2 18 19) 18 (qg [wA 8] (qS 1 (wW [qh 20 8,wu 21,we 22 21,wy 23 20 22] 23 1 2 (w7 [wu 26,qh 27 8,wc 28 1 26 27,xv 30 3,qx 29 28,qx 31 30,qd 32 (xn .eql 29 (.t 31))] 32 [qh 33 2,qh 34 8,wc 35 1 33 34,qx 36 35,qh 6 36,wA 7]) (xy (qh 24 8) 25 24 8 25))))))) (xj [xr 38 3,qx 39 38,q6 40 4 39 xf,xh 41 40,wu 42,qh 43 2,qu 44 dS [.t 41,.t 42,.t 43],qh 37 44,wM 45 0 37,wM 46 1 37,qh 9 45,qh 10 46] [qh 47 10,qB 48 .neq 47 0] 48 (xx (qh 49 10) (wA 6) 7 49) (wq [wU 50 3,qx 51 50,wh 52 51 11] 52 [qh 53 9,wh 54 53 0,wS 55 cy 54,qh 56 10,qh 6 55,qh 7 56] (wq [wU 57 3,qx 58 57,wh 59 58 10,qh 60 59,xD 61 60 9,xb 62 60 .eql 61 0,xp 63 60 62] 63 (xx (qh 64 10) (wA 6) 7 64) (xj [xr 66 3,qx 67 66,q6 68 4 67 xO,xh 69 68,wu 70,qh 71 2,qu 72 dS [.t 69,.t 70,.t 71],qh 65 72,wM 73 0 65,wM 74 1 65,qh 11 73,qh 10 74] [qh 75 10,qB 76 .neq 75 0] 76 (xx (qh 77 10) (wA 6) 7 77) (wq [wU 78 3,qx 79 78,wh 80 79 10] 80 [qh 81 11,qB 82 .neq 81 0,wS 83 cy 82,qh 84 10,qh 6 83,qh 7 84] (qz [wU 85 3,qx 86 85,qh 87 9,qh 88 11,qu 89 mc [.t 86,.t 87,.t 88],wM 90 0 89,wM 91 1 89,qh 6 90,qh 7 91])))))))⟩
theorem oR:ag Tryz.prog dS=some kH:=by kernel_rfl
def fC:AK:=xj [xJ 1 4,xA] [wU 4 1,qx 5 4,wh 6 5 12,qh 7 6,xe 8 7 0 1,xa 9 7 8,xZ 10 7 .eql 9 13,xE 11 7 10] 11 [xA] (.cut (w7 [wU 12 1,qx 13 12,wh 14 13 6,qh 15 14,xe 16 15 0 1,xa 17 15 16,xZ 18 15 .eql 17 7,xE 19 15 18,qh 20 19,wG 21 20 3 1,wD 22 20 21,qK 23 20 (qH 4 22 xO),wG 24 20 0 23,wD 25 20 24,xb 26 20 .neq 25 1,xD 27 20 26,xe 28 27 3 1,xa 29 27 28,qL 30 27 (qH 4 29 xO),xe 31 27 1 30,xa 32 27 31,xZ 33 27 .eql 32 0,qK 34 20 (qI 27 wo (.t 33)),xp 35 20 34] 35 [xA]) (xI [wA 3] 0 [xU 36,xr 37 1,qx 38 37,we 39 38,wy 40 36 39] 40 0 1 (w7 [xr 43 1,qx 44 43,xU 45,wc 46 4 44 45,xh 47 46,wS 48 fG 47,wY 49 48] 49 [xA]) (xU 41) 42 41 3 42 [x6 2]))
def fu:FK:=⟨50,[xm],(AK.whole fC)⟩
theorem zf:ag Tryz.prog fG=some fu:=by kernel_rfl
def bN:AK:=qg [xJ 1 4,qV 2 [q9,q9,q8,.nils]] (qy [xr 8 1,qx 9 8,we 10 9,wh 11 10 1,qh 12 11,wG 13 12 0 1,wD 14 12 13,xb 15 12 .eql 14 11,xp 16 12 15] (qF 16 (xj [xr 17 1,qx 18 17,q6 19 4 18 xf,xh 20 19,qV 3 [q9,q9,q8,.nils],xL 3 20] [wU 21 3,qx 22 21,wh 23 22 1] 23 [xX 24 3,qx 25 24,wh 26 25 0,wS 27 cy 26,wS 28 dE 27,xL 2 28] (wq [wU 29 3,qx 30 29,wh 31 30 11,qh 32 31,wG 33 32 3 3,wD 34 32 33,qK 35 32 (qH 4 34 xf),wG 36 32 0 35,wD 37 32 36,xb 38 32 .eql 37 11,xp 39 32 38] 39 [xr 40 3,qx 41 40,q6 42 4 41 xf,xh 43 42,xL 2 43] (qz [xh 44 1,xL 2 44])))) (wq [wU 45 1,qx 46 45,qu 47 iz [.t 46,qm 3,qm 10],wY 48 47] 48 [xh 49 1,xL 2 49] (qT [xr 50 1,qx 51 50,q6 52 4 51 xf,xh 53 52,qV 4 [q9,q9,q8,.nils],xL 4 53] [xr 54 1,qx 55 54,q6 56 4 55 xO,xh 57 56,qV 5 [q9,q9,q8,.nils],xL 5 57] (.cut (xS [wU 58 4,qx 59 58,wh 60 59 1,qh 61 60,wG 62 61 0 5,wD 63 61 62,xb 64 61 .eql 63 1,xp 65 61 64] 65 (qT [xh 67 1,qu 68 dS [.t 67,xl,xl],qh 66 68,wM 69 0 66,wM 70 1 66,qh 6 69,qh 7 70] [qh 71 7,wh 72 71 0] (qR 72 [qh 73 6,wS 74 dE 73,xL 2 74]))) (qU 0 (wZ [wU 76 1,qx 77 76,wh 78 77 10,qh 79 78,qK 80 79 (qk wP 4),xC 81 79 cm (wJ 80 xf),xp 82 79 81,qh 75 82] 75 (qz [qu 83 dE [xf],xL 2 83]) (qy [xh 85 5,wK 86 cm 85 xf,qh 87 86,wG 88 87 0 1,wD 89 87 88,xb 90 87 .eql 89 3,xD 91 87 90,xe 92 91 0 1,xa 93 91 92,xZ 94 91 .eql 93 4,qK 95 87 (qI 91 wo (.t 94)),xp 96 87 95,qh 84 96] (qp 84 .skip (.reg [xh 97 5,wK 98 cm 97 xO,qh 99 98,wG 100 99 0 1,wD 101 99 100,xb 102 99 .eql 101 5,xD 103 99 102,xe 104 103 0 1,xa 105 103 104,xZ 106 103 .eql 105 6,qK 107 99 (qI 103 wo (.t 106)),xp 108 99 107,qh 84 108])) (qp 84 (qz [xh 109 4,xL 2 109]) (qy [xh 111 4,wK 112 cm 111 xf,qh 113 112,wG 114 113 0 1,wD 115 113 114,xb 116 113 .eql 115 3,xp 117 113 116,qh 110 117] (qp 110 .skip (.reg [xh 118 4,wK 119 cm 118 xO,qh 120 119,wG 121 120 0 1,wD 122 120 121,xb 123 120 .eql 122 5,xp 124 120 123,qh 110 124])) (qp 110 (qz [xh 125 5,xL 2 125]) (w7 [wU 127 1,qx 128 127,wh 129 128 5,qh 130 129,qK 131 130 (qk wP 5),xC 132 130 cm (wJ 131 xf),xD 133 130 132,qK 134 133 (qk wP 4),xC 135 133 fG (wR 134),qK 136 130 (qI 133 (.t 135) qG),xD 137 130 136,qL 138 137 (qk wP 4),qL 139 137 (.call cm (wJ 138 xf)),xq 140 137 139,qK 141 140 (qk wP 5),xC 142 140 fG (wR 141),qL 143 137 (qI 140 (.t 142) qG),qK 144 130 (qI 137 wo (.t 143)),xp 145 130 144,qh 126 145] 126 [qu 146 dE [xf],xL 2 146])))))) (qz [xh 147 1,xL 2 147]))))))
def bO:FK:=⟨148,[.c 2 wP],(AK.whole bN)⟩
theorem zr:ag Tryz.prog ip=some bO:=by kernel_rfl
def kI:AK:=qT [xJ 1 4,qV 2 [q9,q9,q8,.nils]] [xd 5 4 [q9,q9,q8,.nils] 0 [],wN 3] (wB [w9] 0 (wW [xT 6,xr 7 1,qx 8 7,we 9 8,wy 10 6 9] 10 0 1 (.reg [xU 13,xr 14 1,qx 15 14,xT 16,wc 17 4 15 16,xh 18 17,wS 19 hZ 18,xd 20 4 [q9,q9,q8,.nils] 1 [(0,4,.t 19)],qd 21 (xV 4 56 13 (.t 20)),qh 3 21]) (xy (xT 11) 12 11 4 12)) (.cut (.reg [xU 22,xr 23 1,xu 23 22]) (qz [xh 24 1,wS 25 ip 24,xL 2 25])))
def kL:FK:=⟨26,[.c 2 wP],(AK.whole kI)⟩
theorem zx:ag Tryz.prog hZ=some kL:=by kernel_rfl
def jm:AK:=qT [qf 2 xl] (wV (xd 8 5 [q9,q8,.nils,.nils,.nils] 0 []) 3 8) (xI [w9] 0 [xT 9,ww 10,we 11 10,wy 12 9 11] 12 0 1 (qT [ww 15,xT 16,wc 17 5 15 16,qD 18 5 17,qV 5 [q9,q8,.nils,.nils,.nils],qQ 5 5 18] (wV (xd 19 4 [q9,q9,q8,.nils] 0 []) 6 19) (wB [wA 7] 2 (wW [qh 20 7,xv 21 5,qx 22 21,we 23 22,wy 24 20 23] 24 2 3 (.reg [qh 27 6,xv 28 5,qx 29 28,qh 30 7,wc 31 4 29 30,xh 32 31,wS 33 hZ 32,xd 34 4 [q9,q9,q8,.nils] 1 [(0,4,.t 33)],qd 35 (xV 4 56 27 (.t 34)),qh 6 35]) (xy (qh 25 7) 26 25 7 26)) (.cut (.reg [qh 36 6,xv 37 5,xu 37 36]) (qT [xr 38 5,qx 39 38,wS 40 bz 39,xr 41 5,xu 41 40] [qv 42 4 5,qx 43 42,wS 44 bz 43,qv 45 4 5,xu 45 44] (.reg [xU 46,qD 47 5 5,xd 48 5 [q9,q8,.nils,.nils,.nils] 1 [(0,5,.t 47)],qd 49 (xV 5 96 46 (.t 48)),qh 3 49]))))) (xT 13) 14 13 4 14 (wV (xU 50) 2 50))
def jW:FK:=⟨51,[xm],(AK.whole jm)⟩
theorem vr:ag Tryz.prog bz=some jW:=by kernel_rfl
def pA:FK:=⟨42,[.c 4 (some 1)],qT [xJ 2 1,qV 4 x5] [qD 7 1 2,wS 8 kO 7,qV 5 x5,xu 5 8] (xI [wA 6] 0 [qh 9 6,wU 10 5,qx 11 10,we 12 11,wy 13 9 12] 13 0 1 (wZ [wu 16] 16 (.reg [wU 17 5,qh 19 6,wU 20 5,qh 22 6,qx 18 17,qx 21 20,wc 23 3 21 22,xv 24 23,qx 25 24,wS 26 bP 25,wE 17 18,wc 27 3 18 19,xv 28 27,xu 28 26]) (.reg [wU 29 5,qh 31 6,wU 32 5,qh 34 6,qx 30 29,qx 33 32,wc 35 3 33 34,xv 36 35,qx 37 36,wS 38 bz 37,wE 29 30,wc 39 3 30 31,xv 40 39,xu 40 38])) (qh 14 6) 15 14 6 15 [qD 41 1 5,xu 4 41])⟩
theorem zG:ag Tryz.prog fx=some pA:=by kernel_rfl
def kK:FK:=⟨15,[.t 6],xo [wt 6] [wu 7,ww 8,qX 9 .leq 7 8,qh 10 9,xD 11 10 0,xD 12 10 2,qK 13 10 (qo .leq 11 (.t 12)),xp 14 10 13,qh 6 14]⟩
theorem zb:ag Tryz.prog dV=some kK:=by kernel_rfl
def iQ:FK:=⟨21,[.t 6],qg [wA 6] (wQ [ww 9,qd 10 (.rngS (.t 9))] 0 (xB [qd 11 (.nxtS (.t 10)),wM 12 0 11] (wn 12 0) (.blk 1 (qT [wM 13 1 11,wM 14 2 11,qh 7 13,qh 8 14] [wu 15,qh 16 8,qd 17 (xz 15 (wR 16)),qh 18 2,qd 19 (.beq false (.t 17) (.t 18))] (qR 19 (wV (qh 20 7) 6 20))))) [xG 6])⟩
theorem oy:ag Tryz.prog eZ=some iQ:=by kernel_rfl
def iR:FK:=⟨8,xN,xo [w9] [ww 5,wu 6,qu 7 eZ [.t 5,.t 6,wo],qh 4 7]⟩
theorem oC:ag Tryz.prog fh=some iR:=by kernel_rfl
def gH:FK:=⟨19,xN,qg [w9] (wQ [ww 6,we 7 6,wA 8] 0 (xB [wy 9 8 7] (wn 9 0) (wg 1 (qT (wV (qh 10 8) 5 10) [wu 11,xY,wN 13,wc 14 1 12 13,qx 15 14,qd 16 (xn .eql 11 (.t 15))] (qR 16 (wV (wN 17) 4 17))) (wV (xi 18 8) 8 18))) [xH])⟩
theorem mN:ag Tryz.prog dY=some gH:=by kernel_rfl
def fz:FK:=⟨9,xN,xo xM [ww 5,wu 6,wL 7 dY 5 6,qB 8 .geq 7 0,qh 4 8]⟩
theorem kU:ag Tryz.prog cY=some fz:=by kernel_rfl
def mF:FK:=⟨9,[xm],xo [xA] [ww 3,qt 4 .lss 3 (.c (qi .i32 97)),xT 5,xq 6 5 0,qL 7 5 (qo .gtr 6 (.c (qi .i32 122))),xE 8 5 7,qh 2 8]⟩
theorem uv:ag Tryz.prog cQ=some mF:=by kernel_rfl
def pc:FK:=⟨17,[xm],xo [xA] [ww 3,qd 4 (.len true (.t 3)),qu 5 dV [.t 4,xO,qm 4],wN 6,xD 7 6 0,xC 8 6 fh (wJ 7 (.c (.fn (.func cQ) []))),xb 9 6 .lss 8 0,xp 10 6 9,qh 11 10,qK 12 11 (.slA 9 1 (.c (.gp 0 0)) none none),xD 13 11 0,xC 14 11 cY (wJ 12 (.t 13)),qK 15 11 (wl 14),xp 16 11 15,qh 2 16]⟩
theorem yV:ag Tryz.prog co=some pc:=by kernel_rfl
def eV:FK:=⟨19,xN,qg [w9] (wQ [ww 6,we 7 6,wA 8] 0 (xB [wy 9 8 7] (wn 9 0) (wg 1 (qT (wV (qh 10 8) 5 10) [wu 11,xY,wN 13,wc 14 1 12 13,qx 15 14,qd 16 (xz 11 (wR 15))] (qR 16 (wV (wN 17) 4 17))) (wV (xi 18 8) 8 18))) [xH])⟩
theorem ke:ag Tryz.prog cN=some eV:=by kernel_rfl
def dN:FK:=⟨9,xN,xo xM [ww 5,wu 6,wL 7 cN 5 6,qB 8 .geq 7 0,qh 4 8]⟩
theorem iF:ag Tryz.prog bY=some dN:=by kernel_rfl
def dI:FK:=⟨19,xN,qg [w9] (wQ [ww 6,we 7 6,wA 8] 0 (xB [wy 9 8 7] (wn 9 0) (wg 1 (qT (wV (qh 10 8) 5 10) [wu 11,xY,wN 13,wc 14 5 12 13,qD 15 5 14,qd 16 (xz 11 (wR 15))] (qR 16 (wV (wN 17) 4 17))) (wV (xi 18 8) 8 18))) [xH])⟩
theorem iM:ag Tryz.prog bZ=some dI:=by kernel_rfl
def db:FK:=⟨9,xN,xo xM [ww 5,wu 6,wL 7 bZ 5 6,qB 8 .geq 7 0,qh 4 8]⟩
theorem gz:ag Tryz.prog bF=some db:=by kernel_rfl
def bk:FK:=⟨20,[xm,.t 3,wX,.t 5],qg [wA 2,wt 3,wH,wt 5] (qy [ww 6] (.blk 0 (qy (xg 8 6 1 7 8) (qp 7 .skip (.reg (xg 9 6 2 7 9))) (qp 7 (qz [qE 2 1,x6 3,wH,wt 5]) (qy (xg 11 6 3 10 11) (qp 10 .skip (wZ (xg 12 6 7 10 12) 10 .skip (.reg (xg 13 6 8 10 13)))) (qp 10 (qz [qE 2 1,wt 3,wH,wt 5]) (x4 (xg 15 6 4 14 15) 14 (qz [qE 2 2,wt 3,wH,wt 5]) (xg 17 6 5 16 17) 16 (qz [qE 2 1,wt 3,x6 4,x6 5]) (w7 (xg 19 6 6 18 19) 18 [qE 2 1,wt 3,x6 4,wt 5]))))))) (qz [xG 2,wt 3,wH,wt 5]))⟩
theorem uA:ag Tryz.prog fL=some bk:=by kernel_rfl
def pm:FK:=⟨5,[xm],xo [xA] (xx (ww 3) (qu 4 dV [.t 3,xf,qm 255]) 2 4)⟩
theorem zH:ag Tryz.prog kG=some pm:=by kernel_rfl
def eq:FK:=⟨20,[xm],qg [wA 2] (qU 0 (wZ [qd 4 (.ld none (.c (.gp 1 0))),ww 5,qd 6 (.lk 0 (.agg [q8,q9]) false (.t 4) (.t 5)),qd 7 (.fldv 1 none (.t 6)),qB 8 .gtr 7 0,qh 3 8] 3 (qz [qd 9 (.ld none (.c (.gp 1 0))),ww 10,qd 11 (.lk 0 (.agg [q8,q9]) false (.t 9) (.t 10)),qd 12 (.fldv 1 none (.t 11)),qh 2 12]) (w7 [ww 14,wh 15 14 11,qh 16 15,xq 17 16 0,xZ 18 16 .eql 17 12,xE 19 16 18,qh 13 19] 13 [qE 2 5])) (qz [qE 2 6]))⟩
theorem yJ:ag Tryz.prog jS=some eq:=by kernel_rfl
def iN:AK:=qT [xJ 2 4,w9,xK,wt 6] [wA 7,wA 8] (.cut (.blk 0 (x4 [wU 17 2,qx 18 17,wh 19 18 1,qh 16 19] 16 (w7 [xX 20 2,qx 21 20,wS 22 kG 21,wY 23 22,qh 24 23,xe 25 24 2 2,xa 26 24 25,qL 27 24 (xn .neq 26 (.c q8)),xE 28 24 27] 28 [w9,xK,wt 6]) [wU 30 2,qx 31 30,wh 32 31 2,qh 29 32] 29 (w7 [xv 33 2,qx 34 33,wS 35 co 34,wY 36 35,qh 37 36,xe 38 37 1 2,xa 39 37 38,xZ 40 37 .neq 39 0,xE 41 37 40] 41 [w9,xK,wt 6]) (x4 [wU 43 2,qx 44 43,wh 45 44 13,qh 42 45] 42 (qT [qE 8 3] [xv 46 2,qx 47 46,wS 48 co 47,wY 49 48,qh 50 49,xe 51 50 1 2,xa 52 50 51,xZ 53 50 .neq 52 0,xE 54 50 53] (qR 54 [w9,xK,wt 6])) [qd 56 (.ld none (.c (.gp 1 0))),wU 57 2,qx 58 57,qd 59 (.lk 0 (.agg [q8,q9]) false (.t 56) (.t 58)),qd 60 (.fldv 1 none (.t 59)),qB 61 .gtr 60 0,qh 55 61] 55 (.reg [qE 7 2,qE 8 2]) (wZ [wU 63 2,qx 64 63,wh 65 64 11,qh 66 65,xe 67 66 0 2,xa 68 66 67,xZ 69 66 .eql 68 12,xE 70 66 69,qh 62 70] 62 (.reg [qE 7 1,qE 8 1]) (qz [w9,xK,wt 6]))))) (.cut (w7 [wU 71 2,qx 72 71,wS 73 jS 72,xk 74 73 6,qh 75 74,wG 76 75 1 2,wD 77 75 76,xb 78 75 .neq 77 0,xD 79 75 78,xe 80 79 2 2,xa 81 79 80,qL 82 79 (xn .neq 81 (.c q8)),qK 83 75 (qI 79 wo (.t 82)),xp 84 75 83,qh 85 84,xe 86 85 3 2,xa 87 85 86,qL 88 85 (qY 87),xq 89 85 7,xq 90 85 8,qL 91 85 (.call dV [.t 88,.t 89,.t 90]),qL 92 85 (wl 91),xE 93 85 92,qh 94 93,xq 95 94 1,xZ 96 94 .lss 95 1,xE 97 94 96] 97 [w9,xK,wt 6]) (qg [qE 9 1,qE 10 1] (wQ [xr 98 2,qx 99 98,we 100 99,wA 101] 1 (xB [wy 102 101 100] (wn 102 1) (wg 2 (qT [wc 103 4 99 101,xh 104 103,qV 12 [q9,q9,q8,.nils],xL 12 104] [xh 106 12,wu 107,qB 108 .sub 107 1,wL 109 fJ 106 108,qh 105 109,wM 110 0 105,wM 111 1 105,wM 112 2 105,qh 13 110,qh 14 111,qh 15 112] (wq [qh 113 15,wY 114 113] 114 [w9,xK,wt 6] (xW [qh 115 9,qh 116 13,qX 117 .add 115 116,qh 9 117] [qh 118 10,qh 119 14,xi 120 119,qd 121 (.mx (.t 118) (.t 120)),qh 10 121]))) (wV (xi 122 101) 101 122))) [qh 123 9,qh 124 10,qh 125 9,qB 126 .leq 125 30,qh 4 123,qh 5 124,qh 6 126]))))
def iL:FK:=⟨127,[wX,.t 5,.t 6],(AK.whole iN)⟩
theorem uy:ag Tryz.prog fJ=some iL:=by kernel_rfl
def lU:FK:=⟨13,[xm],qT [xJ 1 4,xA] [xh 7 1,wK 8 fJ 7 (qm 6),qh 6 8,wM 9 0 6,wM 10 1 6,wM 11 2 6,qh 3 9,qh 4 10,qh 5 11] (qz (wV (wN 12) 2 12))⟩
theorem sJ:ag Tryz.prog dj=some lU:=by kernel_rfl
def ib:FK:=⟨91,xN,qT [xJ 2 5,wH] [wU 12 2,qx 13 12,wS 14 fL 13,qh 11 14,wM 15 0 11,wM 16 1 11,wM 17 2 11,wM 18 3 11,qh 5 15,qh 6 16,qh 7 17,qh 8 18] (qU 0 (qy (xx (wu 20) (qB 21 .gtr 20 4) 19 21) (qp 19 .skip (x4 [xv 22 2,qx 23 22,we 24 23,wN 25,qX 26 .neq 24 25,qh 19 26] 19 .skip [qh 27 6,qh 28 27,wG 29 28 1 2,wD 30 28 29,xC 31 28 co (wR 30),qK 32 28 (wl 31),xp 33 28 32,qh 19 33] 19 .skip (x4 [qh 34 6,wY 35 34,qh 36 35,wG 37 36 1 2,wD 38 36 37,qK 39 36 (xn .neq 38 (.c q8)),xp 40 36 39,qh 19 40] 19 .skip [qh 41 7,wY 42 41,qh 43 42,wG 44 43 3 2,wD 45 43 44,qK 46 43 (qY 45),xb 47 43 .gtr 46 0,xp 48 43 47,qh 19 48] 19 .skip (wZ [qh 49 8,wY 50 49,qh 51 50,wG 52 51 4 2,wD 53 51 52,qK 54 51 (qY 53),xb 55 51 .gtr 54 0,xp 56 51 55,qh 19 56] 19 .skip (.reg [wU 57 2,qx 58 57,wh 59 58 8,qh 60 59,wG 61 60 2 2,wD 62 60 61,qK 63 60 (qH 4 62 xf),wG 64 60 0 63,wD 65 60 64,xb 66 60 .neq 65 13,xp 67 60 66,qh 19 67]))))) (qR 19 xM)) (wQ [xv 68 2,qx 69 68,we 70 69,wA 71] 1 (xB [wy 72 71 70] (wn 72 1) (wg 2 (qT [wc 73 4 69 71,xh 74 73,qV 10 [q9,q9,q8,.nils],xL 10 74] [xh 75 10,wS 76 dj 75,wY 77 76] (qR 77 xM)) (wV (xi 78 71) 71 78))) [xr 79 2,qx 80 79,wu 81,xi 82 81,wL 83 cx 80 82,qh 84 83,wG 85 84 4 2,wD 86 84 85,xD 87 84 1,xb 88 84 .add 87 1,xC 89 84 cx (wJ 86 (.t 88)),xp 90 84 89,qh 4 90]))⟩
theorem pj:ag Tryz.prog iv=some ib:=by kernel_rfl
def lw:FK:=⟨8,[.t 3],xo [xJ 2 5,wt 3] [qD 4 5 2,qx 5 1,wL 6 iv 4 5,wY 7 6,qh 3 7]⟩
theorem sN:ag Tryz.prog cu=some lw:=by kernel_rfl
def nK:FK:=⟨9,xN,xo [wx 3 1 1,wH] [ww 5,qd 6 (.mkf (.func cu) (wR 3)),wL 7 bF 5 6,wY 8 7,qh 4 8]⟩
theorem yg:ag Tryz.prog cx=some nK:=by kernel_rfl
def rY:FK:=⟨31,[],qg [ww 8,we 9 8,wA 10] (qS 0 (xB [wy 11 10 9] (wn 11 0) (wg 1 (qT [wc 12 5 8 10,qD 13 5 12,qV 7 [q9,q8,.nils,.nils,.nils],qQ 5 7 13] [qh 14 2,qD 15 5 7,wu 16,qd 17 (xz 14 (wJ 15 (.t 16)))] (xW [xr 18 7,qx 19 18,wu 20,xi 21 20,qh 22 2,qu 23 gi [.t 19,.t 21,.t 22]] [qv 24 4 7,qx 25 24,wu 26,xi 27 26,qh 28 2,qu 29 gi [.t 25,.t 27,.t 28]])) (wV (xi 30 10) 10 30))))⟩
theorem Bn:ag Tryz.prog gi=some rY:=by kernel_rfl
def lI:FK:=⟨11,[],qT [xJ 4 5] [qx 6 2,xi 7 6,xu 2 7] (.reg [qx 8 3,wu 9,qd 10 (.mx (.t 8) (.t 9)),xu 3 10])⟩
theorem sX:ag Tryz.prog eQ=some lI:=by kernel_rfl
def ng:FK:=⟨20,[.c 2 none,.c 3 none],qg [xJ 1 1,qV 2 [q9],qV 3 [q9]] (wQ [wU 6 1,qx 7 6,we 8 7,wA 9] 0 (xB [wy 10 9 8] (wn 10 0) (wg 1 (xW [wc 11 3 7 9,qD 12 3 11,qV 5 [q8,.nils,.nils],qQ 3 5 12] [xv 13 5,qx 14 13,qd 15 (.mkf (.func eQ) (wJ 2 (.t 3))),qu 16 gi [.t 14,xO,.t 15]]) (wV (xi 17 9) 9 17))) [qx 18 2,qx 19 3,xu 2 18,wE 3 19,xu 3 19])⟩
theorem vN:ag Tryz.prog jU=some ng:=by kernel_rfl
def gE:FK:=⟨6,[xm],xo [xA] [ww 3,wS 4 co 3,wY 5 4,wN 2]⟩
theorem mM:ag Tryz.prog bl=some gE:=by kernel_rfl
def iP:FK:=⟨48,[xm],xj [xJ 1 1,xA] [wU 7 1,qx 8 7,we 9 8,qu 10 dV [.t 9,xO,qm 4],wY 11 10] 11 [xA] (wB [wU 12 1,qx 13 12,we 14 13,wA 15] 0 (xB [wy 16 15 14] (wn 16 0) (wg 1 (qT [wc 17 3 13 15,qD 18 3 17,qV 4 [q8,.nils,.nils],qQ 3 4 18] [wU 19 4,qx 20 19,wS 21 co 20,wY 22 21,qh 23 22,xe 24 23 1 4,xa 25 23 24,qL 26 23 (qY 25),xZ 27 23 .gtr 26 3,xE 28 23 27,qh 29 28,xe 30 29 1 4,xa 31 29 30,qL 32 29 (.call bY (wJ 31 (.c (.fn (.func bl) [])))),xE 33 29 32,qh 34 33,xe 35 34 2 4,xa 36 34 35,qL 37 34 (.call cx (wJ 36 xO)),qL 38 34 (wl 37),xE 39 34 38] (qR 39 [xA])) (wV (xi 40 15) 15 40))) (xo [qD 42 1 1,wS 43 jU 42,qh 41 43,wM 44 0 41,wM 45 1 41,qh 5 44,qh 6 45] (xx (wN 46) (qB 47 .leq 46 40) 2 47)))⟩
theorem oM:ag Tryz.prog fj=some iP:=by kernel_rfl
def ex:FK:=⟨19,xN,qg [w9] (wQ [ww 6,we 7 6,wA 8] 0 (xB [wy 9 8 7] (wn 9 0) (wg 1 (qT (wV (qh 10 8) 5 10) [wu 11,xY,wN 13,wc 14 3 12 13,qD 15 3 14,qd 16 (xz 11 (wR 15))] (qR 16 (wV (wN 17) 4 17))) (wV (xi 18 8) 8 18))) [xH])⟩
theorem jA:ag Tryz.prog cD=some ex:=by kernel_rfl
def pp:FK:=⟨8,[.t 3],xo [xJ 2 3,wt 3] [wU 4 2,qx 5 4,qx 6 1,qd 7 (xn .eql 5 (.t 6)),qh 3 7]⟩
theorem zJ:ag Tryz.prog fI=some pp:=by kernel_rfl
def uj:FK:=⟨9,xN,xo [xJ 2 1,wx 3 1 1,w9] [wU 5 2,qx 6 5,qd 7 (.mkf (.func fI) (wR 3)),wL 8 cD 6 7,qh 4 8]⟩
theorem Cx:ag Tryz.prog kB=some uj:=by kernel_rfl
def fp:FK:=⟨13,[],xS [ww 4,xw 5 4,xv 6 5,qx 7 6,wh 8 7 0] 8 (.reg [ww 9,wu 10,xw 11 9,xv 12 11,xu 12 10])⟩
theorem oP:ag Tryz.prog cd=some fp:=by kernel_rfl
def gv:FK:=⟨7,[xm],xo [qf 2 (.c .nilp)] [qd 3 .mkm,ww 4,qd 5 (.bld [.nilm,.nilp] [(0,1,.t 3),(1,1,.t 4)]),wx 6 2 5,qh 2 6]⟩
theorem sA:ag Tryz.prog cR=some gv:=by kernel_rfl
def mg:FK:=⟨20,[],qT [xJ 2 4] [wu 6,xh 7 2,qd 8 (xz 6 (wR 7))] (qg [xr 9 2,qx 10 9,we 11 10,wA 12] (qS 0 (xB [wy 13 12 11] (wn 13 0) (wg 1 (xW [wc 14 4 10 12,xh 15 14,qV 5 [q9,q9,q8,.nils],xL 5 15] [xh 16 5,wu 17,wL 18 eO 16 17]) (wV (xi 19 12) 12 19)))))⟩
theorem rI:ag Tryz.prog eO=some mg:=by kernel_rfl
def kA:FK:=⟨25,[wX,.t 5],xB [w9,wt 5] (qS 0 (wW [ww 8,qd 9 (.pnil 0 true (.t 8))] 9 0 1 (qT [ww 15,xw 16 15,wU 17 16,qx 18 17,wu 19,qd 20 (.lk 1 q9 true (.t 18) (.t 19)),qh 14 20,wM 21 0 14,wM 22 1 14,qh 6 21,qh 7 22] [qh 23 7] (qR 23 [qh 24 6,qh 4 24,x6 5])) [ww 10,xw 11 10,xX 12 11,qx 13 12,qh 0 13])) (qz [w9,wt 5])⟩
theorem rJ:ag Tryz.prog bX=some kA:=by kernel_rfl
def gG:FK:=⟨58,[],qT [xJ 3 4] [wU 7 3,qx 8 7] (.blk 0 (wZ (xg 10 8 2 9 10) 9 (qT [qx 12 1,xv 13 3,qx 14 13,wL 15 bX 12 14,qh 11 15,wM 16 0 11,wM 17 1 11,qh 4 16,qh 5 17] [wN 18,wY 19 18] (qF 19 (.reg [qx 20 2,xP 21 20 (qm 3)]))) (xS (xg 23 8 13 22 23) 22 (qT [xv 35 3,qx 24 2,xw 25 24,wU 26 25,wU 27 26,qx 28 27,qx 29 2,xw 30 29,xX 31 30,qx 32 31,qd 33 (.slS 3 (.t 28) none (some (.t 32))),qd 34 (.bld x5 [(0,1,.t 33)]),qx 36 35,wL 37 kB 34 36,qh 6 37] [qh 38 6,xk 39 38 0] (qp 39 (.reg [qx 40 2,xP 41 40 (qm 4)]) (xS [qh 47 6,xr 52 3,qx 42 2,xw 43 42,wU 44 43,wU 45 44,qx 46 45,wc 48 3 46 47,xX 49 48,qx 50 49,we 51 50,qx 53 52,we 54 53,qX 55 .neq 51 54] 55 (.reg [qx 56 2,xP 57 56 (qm 5)])))))))⟩
theorem mL:ag Tryz.prog bH=some gG:=by kernel_rfl
def fc:FK:=⟨9,[],xW [xJ 3 1,wx 4 4 1,wx 5 1 2] [xh 6 4,qd 7 (.mkf (.func bH) (wJ 5 (.t 3))),wL 8 eO 6 7]⟩
theorem oz:ag Tryz.prog dc=some fc:=by kernel_rfl
def er:AK:=qg [wu 14,we 15 14,wA 16] (qS 0 (xB [wy 17 16 15] (wn 17 0) (wg 1 (qg [wc 18 5 14 16,qD 19 5 18,qV 7 [q9,q8,.nils,.nils,.nils],qQ 5 7 19] (wB [xv 20 7,qx 21 20,we 22 21,wA 23] 2 (xB [wy 24 23 22] (wn 24 2) (wg 3 (xW [wc 25 4 21 23,xh 26 25,qV 9 [q9,q9,q8,.nils],xL 9 26] [ww 27,xh 28 9,qh 29 2,qu 30 dc [.t 27,.t 28,.t 29]]) (wV (xi 31 23) 23 31))) (.cut (qg [wU 32 7,qx 33 32] (.blk 4 (wZ (xg 35 33 1 34 35) 34 (qy [qh 37 2,xw 38 37,wU 39 38,xX 41 7,qx 40 39,qx 42 41,qd 43 (.lk 1 q9 true (.t 40) (.t 42)),qh 36 43,wM 44 0 36,wM 45 1 36,qh 10 44,qh 11 45] (xS [qh 46 11] 46 (.reg [ww 47,xP 48 47 (qm 2)])) (.reg [qh 49 2,xw 50 49,wU 51 50,xX 53 7,qx 52 51,qx 54 53,qC (.mup 1 (.t 52) (.t 54) xf)])) (xS (xg 56 33 2 55 56) 55 (qT [qh 58 2,xX 59 7,qx 60 59,wL 61 bX 58 60,qh 57 61,wM 62 0 57,wM 63 1 57,qh 12 62,qh 13 63] [qh 64 13,wY 65 64] (qF 65 (.reg [ww 66,xP 67 66 (qm 3)]))))))) (xS [wU 68 7,qx 69 68,wh 70 69 5,qh 71 70,xe 72 71 0 7,xa 73 71 72,xZ 74 71 .eql 73 6,xE 75 71 74] 75 (xW [ww 76,xr 77 7,qh 79 2,qx 78 77,wS 80 cR 79,wE 77 78,qu 81 bq [.t 76,.t 78,.t 80]] [ww 82,qv 83 4 7,qh 85 2,qx 84 83,wS 86 cR 85,wE 83 84,qu 87 bq [.t 82,.t 84,.t 86]]))))) (wV (xi 88 16) 16 88))))
def eF:FK:=⟨89,[],(AK.whole er)⟩
theorem nN:ag Tryz.prog bq=some eF:=by kernel_rfl
def ff:AK:=xj [xJ 1 1,wA 2] [qD 11 1 1,wS 12 fj 11,wY 13 12] 13 [qE 2 1] (qg [qD 14 1 1,qd 15 (.bld [.nils,q9,q9] [(0,1,.t 14)]),wx 16 3 15,qh 3 16] (wQ [wU 17 1,qx 18 17,we 19 18,wA 20] 0 (xB [wy 21 20 19] (wn 21 0) (wg 1 (qT [qh 22 20,wc 23 3 18 20,qD 24 3 23,qV 5 [q8,.nils,.nils],qh 4 22,qQ 3 5 24] [xU 25,xT 26,xw 27 25,xX 28 27,xu 28 26] (.cut (xS [qD 29 1 1,wU 30 5,qx 31 30,wL 32 kB 29 31,xT 33,wy 34 32 33] 34 (.reg [xU 35,xP 36 35 (qm 2)])) (qg (wV (qu 37 cR [.c .nilp]) 6 37) (wB [xX 38 5,qx 39 38,we 40 39,wA 41] 2 (xB [wy 42 41 40] (wn 42 2) (wg 3 (qg (xx (wc 43 1 39 41) (qx 44 43) 8 44) (qy [qh 46 6,xw 47 46,wU 48 47,qx 49 48,qh 50 8,qd 51 (.lk 1 q9 true (.t 49) (.t 50)),qh 45 51,wM 52 0 45,wM 53 1 45,qh 9 52,qh 10 53] (xS [qh 54 10] 54 (.reg [xU 55,xP 56 55 (qm 2)])) (.reg [qh 57 6,xw 58 57,wU 59 58,qx 60 59,qh 61 8,qC (.mup 1 (.t 60) (.t 61) xf)]))) (wV (xi 62 41) 41 62))) (.reg [xU 63,xv 64 5,qx 65 64,qh 66 6,qu 67 bq [.t 63,.t 65,.t 66]]))))) (wV (xi 68 20) 20 68))) [xU 69,xw 70 69,xv 71 70,qx 72 71,qh 2 72]))
def eY:FK:=⟨73,[xm],(AK.whole ff)⟩
theorem ox:ag Tryz.prog fq=some eY:=by kernel_rfl
def tK:FK:=⟨6,[xm],xo [xJ 1 1,xA] [qD 3 1 1,wS 4 fq 3,wh 5 4 0,wN 2]⟩
theorem Cg:ag Tryz.prog nk=some tK:=by kernel_rfl
def gB:FK:=⟨22,xN,qT [qf 4 xl] [qf 5 xl] (wQ [ww 8,we 9 8,wA 10] 0 (xB [wy 11 10 9] (wn 11 0) (wg 1 (xW [wc 12 3 8 10,qD 13 3 12,qV 7 [q8,.nils,.nils],qQ 3 7 13] [wN 14,wu 15,qD 16 3 7,qd 17 (xz 15 (wR 16)),xd 18 3 [q8,.nils,.nils] 1 [(0,3,.t 17)],qd 19 (xV 3 64 14 (.t 18)),qh 5 19]) (wV (xi 20 10) 10 20))) (wV (wN 21) 4 21))⟩
theorem mJ:ag Tryz.prog cG=some gB:=by kernel_rfl
def fW:FK:=⟨22,xN,qT [qf 4 xl] [qf 5 xl] (wQ [ww 8,we 9 8,wA 10] 0 (xB [wy 11 10 9] (wn 11 0) (wg 1 (xW [wc 12 5 8 10,qD 13 5 12,qV 7 [q9,q8,.nils,.nils,.nils],qQ 5 7 13] [wN 14,wu 15,qD 16 5 7,qd 17 (xz 15 (wR 16)),xd 18 5 [q9,q8,.nils,.nils,.nils] 1 [(0,5,.t 17)],qd 19 (xV 5 96 14 (.t 18)),qh 5 19]) (wV (xi 20 10) 10 20))) (wV (wN 21) 4 21))⟩
theorem lu:ag Tryz.prog bW=some fW:=by kernel_rfl
def fY:FK:=⟨22,xN,qT [qf 4 xl] [qf 5 xl] (wQ [ww 8,we 9 8,wA 10] 0 (xB [wy 11 10 9] (wn 11 0) (wg 1 (xW [wc 12 4 8 10,xh 13 12,qV 7 [q9,q9,q8,.nils],xL 7 13] [wN 14,wu 15,xh 16 7,qd 17 (xz 15 (wR 16)),xd 18 4 [q9,q9,q8,.nils] 1 [(0,4,.t 17)],qd 19 (xV 4 56 14 (.t 18)),qh 5 19]) (wV (xi 20 10) 10 20))) (wV (wN 21) 4 21))⟩
theorem lB:ag Tryz.prog aG=some fY:=by kernel_rfl
def lQ:FK:=⟨8,[.c 2 wP],qT [xJ 1 4,qV 2 [q9,q9,q8,.nils]] [xr 3 1,qx 4 3,wK 5 aG 4 (.c (.fn (.func bp) [])),xr 6 1,xu 6 5] (qz [xh 7 1,xL 2 7])⟩
theorem sT:ag Tryz.prog bp=some lQ:=by kernel_rfl
def jl:FK:=⟨19,[.c 3 (some 5)],qT [xJ 2 5,qV 3 [q9,q8,.nils,.nils,.nils]] [xv 4 2,qx 5 4,wK 6 aG 5 (.c (.fn (.func bp) [])),xv 7 2,xu 7 6] (qT [qx 8 1,xr 9 2,qx 10 9,qd 11 (xz 8 (wR 10)),xr 12 2,xu 12 11] [qx 13 1,qv 14 4 2,qx 15 14,qd 16 (xz 13 (wR 15)),qv 17 4 2,xu 17 16] (qz [qD 18 5 2,qQ 5 3 18]))⟩
theorem rc:ag Tryz.prog cz=some jl:=by kernel_rfl
def lT:FK:=⟨10,xN,xo [qf 4 xl] [ww 6,qd 7 (.mkf (.func cz) (wR 2)),qx 5 1,wL 8 bW 6 7,wE 1 5,qd 9 (xz 5 (wR 8)),qh 4 9]⟩
theorem td:ag Tryz.prog aH=some lT:=by kernel_rfl
def gD:FK:=⟨8,[xm],xj [qf 2 xl] [ww 3,qd 4 (.snil false (.t 3))] 4 [qf 2 xl] (qz [xd 5 1 [q8] 0 [],ww 6,qd 7 (xV 1 16 5 (.t 6)),qh 2 7])⟩
theorem mH:ag Tryz.prog dX=some gD:=by kernel_rfl
def lH:FK:=⟨14,[.c 3 (some 3)],qT [xJ 2 3,qV 3 [q8,.nils,.nils]] [xX 4 2,qx 5 4,wS 6 dX 5,xX 7 2,xu 7 6] (xo [qx 8 1,xv 9 2,qx 10 9,qd 11 (xz 8 (wR 10)),xv 12 2,xu 12 11] [qD 13 3 2,qQ 3 3 13])⟩
theorem sL:ag Tryz.prog dp=some lH:=by kernel_rfl
def nG:FK:=⟨12,[.c 4 (some 1)],qT [xJ 2 1,wx 3 1 1,qV 4 x5] [qV 5 [.nilf]] (xo [qd 6 (.mkf (.func aH) (wJ 3 (.t 5))),xu 5 6] [wU 7 2,qx 8 7,qd 9 (.mkf (.func dp) (wR 5)),wL 10 cG 8 9,qd 11 (.bld x5 [(0,1,.t 10)]),xu 4 11])⟩
theorem ym:ag Tryz.prog ey=some nG:=by kernel_rfl
def mo:FK:=⟨14,xN,xo [xJ 2 4,wH] [wU 5 2,qx 6 5,wh 7 6 1,qh 8 7,wG 9 8 1 2,wD 10 8 9,xD 11 8 1,qK 12 8 (qo .eql 10 (.t 11)),xp 13 8 12,qh 4 13]⟩
theorem Bl:ag Tryz.prog iZ=some mo:=by kernel_rfl
def lN:FK:=⟨26,xN,xj xM [ww 6,we 7 6,wu 8,we 9 8,qX 10 .neq 7 9] 10 xM (xI [xK] 0 [wN 11,xY,we 13 12,wy 14 11 13] 14 0 1 (w7 [ww 17,wN 18,wc 19 1 17 18,wu 21,wN 22,wc 23 1 21 22,qx 20 19,qx 24 23,qd 25 (xn .neq 20 (.t 24))] 25 xM) (wN 15) 16 15 5 16 [x6 4])⟩
theorem tc:ag Tryz.prog gY=some lN:=by kernel_rfl
def oZ:FK:=⟨26,xN,xj [xJ 2 4,wx 3 4 1,wH] [wU 5 2,qx 6 5,wU 7 3,qx 8 7,qX 9 .neq 6 8] 9 xM (wq [xX 10 2,qx 11 10,xX 12 3,qx 13 12,qX 14 .neq 11 13] 14 xM (wq [xv 15 2,qx 16 15,xv 17 3,qx 18 17,qd 19 (xn .neq 16 (.t 18))] 19 xM (wq [xr 20 2,qx 21 20,xr 22 3,qx 23 22,wL 24 eB 21 23,wY 25 24] 25 xM (qz [x6 4]))))⟩
theorem zE:ag Tryz.prog io=some oZ:=by kernel_rfl
def nM:FK:=⟨27,xN,xj xM [ww 6,we 7 6,wu 8,we 9 8,qX 10 .neq 7 9] 10 xM (xI [xK] 0 [wN 11,xY,we 13 12,wy 14 11 13] 14 0 1 (w7 [ww 17,wN 18,wc 19 4 17 18,wu 21,wN 22,wc 23 4 21 22,xh 20 19,xh 24 23,wL 25 io 20 24,wY 26 25] 26 xM) (wN 15) 16 15 5 16 [x6 4])⟩
theorem yi:ag Tryz.prog eB=some nM:=by kernel_rfl
def oS:FK:=⟨33,xN,xj [xJ 2 5,wx 3 5 1,wH] [wU 5 2,qx 6 5,wU 7 3,qx 8 7,qX 9 .neq 6 8] 9 xM (wq [xX 10 2,qx 11 10,xX 12 3,qx 13 12,qd 14 (xn .neq 11 (.t 13))] 14 xM (wq [xv 15 2,qx 16 15,xv 17 3,qx 18 17,wL 19 eB 16 18,wY 20 19] 20 xM (wq [xr 21 2,qx 22 21,xr 23 3,qx 24 23,wL 25 du 22 24,wY 26 25] 26 xM (wq [qv 27 4 2,qx 28 27,qv 29 4 3,qx 30 29,wL 31 du 28 30,wY 32 31] 32 xM (qz [x6 4])))))⟩
theorem zg:ag Tryz.prog iq=some oS:=by kernel_rfl
def nw:FK:=⟨27,xN,xj xM [ww 6,we 7 6,wu 8,we 9 8,qX 10 .neq 7 9] 10 xM (xI [xK] 0 [wN 11,xY,we 13 12,wy 14 11 13] 14 0 1 (w7 [ww 17,wN 18,wc 19 5 17 18,wu 21,wN 22,wc 23 5 21 22,qD 20 5 19,qD 24 5 23,wL 25 iq 20 24,wY 26 25] 26 xM) (wN 15) 16 15 5 16 [x6 4])⟩
theorem yB:ag Tryz.prog du=some nw:=by kernel_rfl
def tU:FK:=⟨22,xN,xj [xJ 2 3,wx 3 3 1,wH] [wU 5 2,qx 6 5,wU 7 3,qx 8 7,qd 9 (xn .neq 6 (.t 8))] 9 xM (wq [xX 10 2,qx 11 10,xX 12 3,qx 13 12,wL 14 gY 11 13,wY 15 14] 15 xM (wq [xv 16 2,qx 17 16,xv 18 3,qx 19 18,wL 20 du 17 19,wY 21 20] 21 xM (qz [x6 4])))⟩
theorem Cu:ag Tryz.prog kf=some tU:=by kernel_rfl
def ro:FK:=⟨27,xN,xj xM [ww 6,we 7 6,wu 8,we 9 8,qX 10 .neq 7 9] 10 xM (xI [xK] 0 [wN 11,xY,we 13 12,wy 14 11 13] 14 0 1 (w7 [ww 17,wN 18,wc 19 3 17 18,wu 21,wN 22,wc 23 3 21 22,qD 20 3 19,qD 24 3 23,wL 25 kf 20 24,wY 26 25] 26 xM) (wN 15) 16 15 5 16 [x6 4])⟩
theorem Bu:ag Tryz.prog lX=some ro:=by kernel_rfl
def lE:FK:=⟨11,xN,xj [xJ 2 1,wx 3 1 1,wH] [wU 5 2,qx 6 5,wU 7 3,qx 8 7,wL 9 lX 6 8,wY 10 9] 10 xM (qz [x6 4])⟩
theorem sI:ag Tryz.prog cr=some lE:=by kernel_rfl
def iJ:FK:=⟨20,[xm],xj [qf 2 (.c q8)] [ww 4,qB 5 .leq 4 0] 5 [qf 2 (.c (qO [109,48]))] (xB [qf 3 (.c q8)] (qS 0 (wT [ww 6,qB 7 .gtr 6 0] 7 0 (.blk 1 (xW [ww 8,qB 9 .rem 8 10,qd 10 (.bin .add (qm 48) (.t 9)),qd 11 (.conv .u8 (.t 10)),xd 12 1 [qi .u8 0] 1 [(0,1,.t 11)],qd 13 (.btos (.t 12)),xU 14,qd 15 (xn .add 13 (.t 14)),qh 3 15] (xx (ww 16) (qB 17 .quo 16 10) 0 17))))) (qz (xx (xU 18) (qd 19 (.bins .add (.c (qO [109])) (.t 18))) 2 19)))⟩
theorem um:ag Tryz.prog cP=some iJ:=by kernel_rfl
def dC:FK:=⟨20,xN,qg [w9] (xI [xK] 0 [wN 6,ww 7,we 8 7,wy 9 6 8] 9 0 1 (xW [xY,wN 13,wu 14,xQ 15 14,wc 16 1 12 13,xu 16 15] (xy (wu 17) 18 17 1 18)) (wN 10) 11 10 5 11 (wV (wu 19) 4 19))⟩
theorem dG:ag Tryz.prog dD=some dC:=by kernel_rfl
def eG:FK:=⟨42,xN,qg [w9] (xI [xK] 0 [wN 6,ww 7,we 8 7,wy 9 6 8] 9 0 1 (qT [xY,wN 13,wu 14,wc 15 4 12 13,wU 16 15,xu 16 14] (xy (wu 17) 18 17 1 18) (qT [ww 19,wN 20,wu 21,wc 22 4 19 20,xX 23 22,xu 23 21] (xy (wu 24) 25 24 1 25) (qT [ww 26,wN 27,wu 28,xQ 29 28,wc 30 4 26 27,xv 31 30,xu 31 29] (xy (wu 32) 33 32 1 33) (.reg [ww 34,wN 35,wc 36 4 34 35,xr 37 36,qx 38 37,wu 39,wL 40 eJ 38 39,qh 1 40])))) (wN 10) 11 10 5 11 (wV (wu 41) 4 41))⟩
theorem gI:ag Tryz.prog eJ=some eG:=by kernel_rfl
def eI:FK:=⟨49,xN,qg [w9] (xI [xK] 0 [wN 6,ww 7,we 8 7,wy 9 6 8] 9 0 1 (qT [xY,wN 13,wu 14,wc 15 5 12 13,wU 16 15,xu 16 14] (xy (wu 17) 18 17 1 18) (qT [ww 19,wN 20,wu 21,xQ 22 21,wc 23 5 19 20,xX 24 23,xu 24 22] (xy (wu 25) 26 25 1 26) (qT [ww 27,wN 28,wc 29 5 27 28,xv 30 29,qx 31 30,wu 32,wL 33 eJ 31 32,qh 1 33] [ww 34,wN 35,wc 36 5 34 35,xr 37 36,qx 38 37,wu 39,wL 40 di 38 39,qh 1 40] (.reg [ww 41,wN 42,wc 43 5 41 42,qv 44 4 43,qx 45 44,wu 46,wL 47 di 45 46,qh 1 47])))) (wN 10) 11 10 5 11 (wV (wu 48) 4 48))⟩
theorem hY:ag Tryz.prog di=some eI:=by kernel_rfl
def gh:FK:=⟨35,xN,qg [w9] (xI [xK] 0 [wN 6,ww 7,we 8 7,wy 9 6 8] 9 0 1 (qT [xY,wN 13,wu 14,xQ 15 14,wc 16 3 12 13,wU 17 16,xu 17 15] (xy (wu 18) 19 18 1 19) (xW [ww 20,wN 21,wc 22 3 20 21,xX 23 22,qx 24 23,wu 25,wL 26 dD 24 25,qh 1 26] [ww 27,wN 28,wc 29 3 27 28,xv 30 29,qx 31 30,wu 32,wL 33 di 31 32,qh 1 33])) (wN 10) 11 10 5 11 (wV (wu 34) 4 34))⟩
theorem jN:ag Tryz.prog jQ=some gh:=by kernel_rfl
def jH:FK:=⟨10,xN,qT [xJ 2 1,w9] [wU 5 2,qx 6 5,wu 7,wL 8 jQ 6 7,qh 1 8] (qz (wV (wu 9) 4 9))⟩
theorem pV:ag Tryz.prog dF=some jH:=by kernel_rfl
def jw:FK:=⟨22,xN,qg [w9] (xI [xK] 0 [wN 6,ww 7,we 8 7,wy 9 6 8] 9 0 1 (wq [xY,wN 13,wc 14 1 12 13,wu 16,qx 15 14,xQ 17 16,wE 14 15,qd 18 (xn .neq 15 (.t 17))] 18 [xH] (.reg (xy (wu 19) 20 19 1 20))) (wN 10) 11 10 5 11 (wV (wu 21) 4 21))⟩
theorem pN:ag Tryz.prog fO=some jw:=by kernel_rfl
def lA:FK:=⟨50,xN,qg [w9] (xI [xK] 0 [wN 6,ww 7,we 8 7,wy 9 6 8] 9 0 1 (wq [xY,wN 13,wc 14 4 12 13,wU 15 14,qx 16 15,wu 17,qX 18 .neq 16 17] 18 [xH] (xj (xy (wu 19) 20 19 1 20) [ww 21,wN 22,wc 23 4 21 22,xX 24 23,qx 25 24,wu 26,qX 27 .neq 25 26] 27 [xH] (xj (xy (wu 28) 29 28 1 29) [ww 30,wN 31,wc 32 4 30 31,xv 33 32,wu 35,qx 34 33,xQ 36 35,wE 33 34,qd 37 (xn .neq 34 (.t 36))] 37 [xH] (qT (xy (wu 38) 39 38 1 39) [ww 40,wN 41,wc 42 4 40 41,xr 43 42,qx 44 43,wu 45,wL 46 eK 44 45,qh 1 46] (w7 [wu 47,xk 48 47 0] 48 [xH]))))) (wN 10) 11 10 5 11 (wV (wu 49) 4 49))⟩
theorem sG:ag Tryz.prog eK=some lA:=by kernel_rfl
def lm:FK:=⟨59,xN,qg [w9] (xI [xK] 0 [wN 6,ww 7,we 8 7,wy 9 6 8] 9 0 1 (wq [xY,wN 13,wc 14 5 12 13,wU 15 14,qx 16 15,wu 17,qX 18 .neq 16 17] 18 [xH] (xj (xy (wu 19) 20 19 1 20) [ww 21,wN 22,wc 23 5 21 22,xX 24 23,wu 26,qx 25 24,xQ 27 26,wE 24 25,qd 28 (xn .neq 25 (.t 27))] 28 [xH] (qT (xy (wu 29) 30 29 1 30) [ww 31,wN 32,wc 33 5 31 32,xv 34 33,qx 35 34,wu 36,wL 37 eK 35 36,qh 1 37] (wq [wu 38,xk 39 38 0] 39 [xH] (xj [ww 40,wN 41,wc 42 5 40 41,xr 43 42,qx 44 43,wu 45,wL 46 dg 44 45,qh 1 46] [wu 47,xk 48 47 0] 48 [xH] (qT [ww 49,wN 50,wc 51 5 49 50,qv 52 4 51,qx 53 52,wu 54,wL 55 dg 53 54,qh 1 55] [wu 56,xk 57 56 0] (qR 57 [xH]))))))) (wN 10) 11 10 5 11 (wV (wu 58) 4 58))⟩
theorem sW:ag Tryz.prog dg=some lm:=by kernel_rfl
def nD:FK:=⟨41,xN,qg [w9] (xI [xK] 0 [wN 6,ww 7,we 8 7,wy 9 6 8] 9 0 1 (wq [xY,wN 13,wc 14 3 12 13,wU 15 14,wu 17,qx 16 15,xQ 18 17,wE 15 16,qd 19 (xn .neq 16 (.t 18))] 19 [xH] (qT (xy (wu 20) 21 20 1 21) [ww 22,wN 23,wc 24 3 22 23,xX 25 24,qx 26 25,wu 27,wL 28 fO 26 27,qh 1 28] (wq [wu 29,xk 30 29 0] 30 [xH] (qT [ww 31,wN 32,wc 33 3 31 32,xv 34 33,qx 35 34,wu 36,wL 37 dg 35 36,qh 1 37] [wu 38,xk 39 38 0] (qR 39 [xH]))))) (wN 10) 11 10 5 11 (wV (wu 40) 4 40))⟩
theorem ya:ag Tryz.prog jk=some nD:=by kernel_rfl
def jP:FK:=⟨12,xN,qT [xJ 2 1,w9] [wU 5 2,qx 6 5,wu 7,wL 8 jk 6 7,qh 1 8] (wq [wu 9,xk 10 9 0] 10 [xH] (qz (wV (wu 11) 4 11)))⟩
theorem pU:ag Tryz.prog dB=some jP:=by kernel_rfl
def jC:FK:=⟨10,[.c 2 (some 1),.t 3],xj [xJ 1 1,qV 2 x5,wt 3] [qD 4 1 1,wS 5 kV 4,wY 6 5] 6 [qd 7 (.bld x5 []),xu 2 7,wt 3] (qz [qD 8 1 1,wK 9 fx 8 qG,xu 2 9,x6 3])⟩
theorem re:ag Tryz.prog dH=some jC:=by kernel_rfl
def mO:FK:=⟨4,[xm],xj [wA 2] [ww 3] 3 [qE 2 1] (qz [wA 2])⟩
theorem yb:ag Tryz.prog jy=some mO:=by kernel_rfl
def mf:FK:=⟨70,[.t 6,.t 7],qT [wA 6,wt 7] [qf 8 (.c (.fn (.func jy) []))] (qy [ww 9] (.blk 0 (x4 (xg 11 9 3 10 11) 10 (qz [wu 12,qh 13 2,qX 14 .add 12 13,qB 15 .rem 14 256,qh 6 15,x6 7]) (xg 17 9 4 16 17) 16 (qz [wu 18,qh 19 2,qX 20 .sub 18 19,wj 21 20 256,qB 22 .rem 21 256,qh 6 22,x6 7]) (wZ (xg 24 9 5 23 24) 23 (qz [wu 25,qh 26 2,qX 27 .mul 25 26,qB 28 .rem 27 256,qh 6 28,x6 7]) (qy (xg 30 9 6 29 30) (qp 29 .skip (.reg (xg 31 9 7 29 31))) (qp 29 (wq [qh 32 2,wh 33 32 0] 33 [wA 6,wt 7] (wq [ww 34,wh 35 34 6] 35 [wu 36,qh 37 2,qX 38 .quo 36 37,qh 6 38,x6 7] (qz [wu 39,qh 40 2,qX 41 .rem 39 40,qh 6 41,x6 7]))) (x4 (xg 43 9 8 42 43) 42 (qz [qh 44 8,wu 45,qh 46 2,wy 47 45 46,qd 48 (xz 44 (wR 47)),qh 6 48,x6 7]) (xg 50 9 9 49 50) 49 (qz [qh 51 8,wu 52,qh 53 2,qX 54 .eql 52 53,qd 55 (xz 51 (wR 54)),qh 6 55,x6 7]) (w7 (xg 57 9 10 56 57) 56 [qh 58 8,wu 59,qB 60 .neq 59 0,qh 61 60,xD 62 61 2,xb 63 61 .neq 62 0,xp 64 61 63,qd 65 (xz 58 (wR 64)),qh 6 65,x6 7]))))))) (qz [qh 66 8,wu 67,wh 68 67 0,qd 69 (xz 66 (wR 68)),qh 6 69,x6 7]))⟩
theorem rF:ag Tryz.prog gw=some mf:=by kernel_rfl
def nt:FK:=⟨5,[.c 2 wP],xo [qV 2 [q9,q9,q8,.nils]] [ww 3,qd 4 (.bld [q9,q9,q8,.nils] [(0,1,xO),(1,1,.t 3)]),xL 2 4]⟩
theorem yS:ag Tryz.prog bS=some nt:=by kernel_rfl
def bf:FK:=⟨40,[],xW [xJ 2 4] [qx 3 1,xU 4,wG 5 4 0 2,wD 6 4 5,xb 7 4 .neq 6 12,xp 8 4 7,qh 9 8,wG 10 9 0 2,wD 11 9 10,xb 12 9 .neq 11 13,xp 13 9 12,qh 14 13,wG 15 14 0 2,wD 16 14 15,xb 17 14 .neq 16 6,xD 18 14 17,wG 19 18 0 2,wD 20 18 19,xb 21 18 .neq 20 7,qK 22 14 (qI 18 (.t 21) qG),xD 23 14 22,xe 24 23 3 2,xa 25 23 24,qL 26 23 (qH 4 25 xO),xe 27 23 0 26,xa 28 23 27,xZ 29 23 .eql 28 1,xq 30 23 29,wG 31 30 3 2,wD 32 30 31,qK 33 30 (qH 4 32 xO),wG 34 30 1 33,wD 35 30 34,xb 36 30 .neq 35 0,qL 37 23 (qI 30 (.t 36) qG),qK 38 14 (qI 23 wo (.t 37)),xp 39 14 38,xu 1 39]⟩
theorem rr:ag Tryz.prog cS=some bf:=by kernel_rfl
def mw:FK:=⟨11,[xm],qT [xJ 1 4,xA] [xh 4 1,wS 5 dj 4,qV 3 [qw],xu 3 5] (qy [qx 6 3] (qF 6 (.reg [xh 7 1,qd 8 (.mkf (.func cS) (wR 3)),wL 9 eO 7 8])) (qz (wV (qx 10 3) 2 10)))⟩
theorem uw:ag Tryz.prog ca=some mw:=by kernel_rfl
def bm:FK:=⟨122,[.c 2 wP],xj [xJ 1 4,qV 2 [q9,q9,q8,.nils]] [xr 7 1,qx 8 7,we 9 8,wh 10 9 0,qh 11 10,xe 12 11 0 1,xa 13 11 12,xZ 14 11 .eql 13 13,xE 15 11 14,qh 16 15,xe 17 16 0 1,xa 18 16 17,xZ 19 16 .eql 18 12,xE 20 16 19] 20 [xh 21 1,xL 2 21] (.seq (.ot (xc [] [xr 22 1] (xc [xr 26 1] [xr 28 1] (xc [qx 23 22] [q6 24 4 23 xf] (xc [xh 25 24] [qx 27 26] (xc [qx 29 28] [we 30 29] (xc [qB 31 .sub 30 1] [wc 32 4 27 31] (.one [xh 33 32] (xF [qV 3 [q9,q9,q8,.nils],wE 22 23,q7 wP 24 25,wE 26 27,wE 28 29,q7 wP 32 33] (xF [qV 4 [q9,q9,q8,.nils],wE 22 23,q7 wP 24 25,wE 26 27,wE 28 29,q7 wP 32 33] (xF [xL 3 25,wE 26 27,wE 28 29,q7 wP 32 33] (xF [xL 4 33] .done .tru) .tru) .tru) (xF [qV 4 [q9,q9,q8,.nils],wE 22 23,q7 wP 24 25,wE 26 27,wE 28 29,q7 wP 32 33] (xF [qV 3 [q9,q9,q8,.nils],wE 22 23,q7 wP 24 25,wE 26 27,wE 28 29,q7 wP 32 33] (xF [xL 3 25,wE 26 27,wE 28 29,q7 wP 32 33] (xF [xL 4 33] .done .tru) .tru) .tru) .tru)))))))))) (qy [wU 34 3,qx 35 34,wh 36 35 1,qh 37 36,wG 38 37 0 4,wD 39 37 38,xb 40 37 .eql 39 1,xp 41 37 40] (qF 41 (qT [wU 43 1,qx 44 43,xX 45 3,qx 46 45,xX 47 4,qx 48 47,qu 49 gw [.t 44,.t 46,.t 48],qh 42 49,wM 50 0 42,wM 51 1 42,qh 5 50,qh 6 51] [qh 52 6] (qR 52 [wN 53,wS 54 bS 53,xL 2 54]))) (qy [wU 55 1,qx 56 55] (.blk 0 (x4 (xg 58 56 11 57 58) 57 (w7 [wU 59 3,qx 60 59,wh 61 60 11,qh 62 61,wG 63 62 3 3,wD 64 62 63,qK 65 62 (qH 4 64 xf),wG 66 62 0 65,wD 67 62 66,xb 68 62 .eql 67 11,xp 69 62 68] 69 [xr 70 3,qx 71 70,q6 72 4 71 xf,xh 73 72,xL 2 73]) (xg 75 56 10 74 75) 74 (w7 [xh 76 3,w6 77 76 xf] 77 [qu 78 bS [xf],xL 2 78]) (x4 (xg 80 56 3 79 80) 79 (wq [xh 81 4,w6 82 81 xf] 82 [xh 83 3,xL 2 83] (w7 [xh 84 3,w6 85 84 xf] 85 [xh 86 4,xL 2 86])) (xg 88 56 4 87 88) 87 (w7 [xh 89 4,w6 90 89 xf] 90 [xh 91 3,xL 2 91]) (wZ (xg 93 56 5 92 93) 92 (.blk 1 (x4 (xx (xh 95 4) (w6 96 95 xO) 94 96) 94 (qz [xh 97 3,xL 2 97]) (xx (xh 99 3) (w6 100 99 xO) 98 100) 98 (qz [xh 101 4,xL 2 101]) (qy [xh 103 4,w6 104 103 xf,qh 105 104,qK 106 105 (qk wP 3),xC 107 105 ca (wR 106),xp 108 105 107,qh 102 108] (qp 102 .skip (.reg [xh 109 3,w6 110 109 xf,qh 111 110,qK 112 111 (qk wP 4),xC 113 111 ca (wR 112),xp 114 111 113,qh 102 114])) (qR 102 [qu 115 bS [xf],xL 2 115])))) (xS (xg 117 56 6 116 117) 116 (w7 [xh 118 4,w6 119 118 xO] 119 [xh 120 3,xL 2 120])))))) (qz [xh 121 1,xL 2 121]))))⟩
theorem mD:ag Tryz.prog iI=some bm:=by kernel_rfl
def tQ:FK:=⟨9,[.c 2 wP],qT [xJ 1 4,qV 2 [q9,q9,q8,.nils]] [xr 3 1,qx 4 3,wK 5 aG 4 (.c (.fn (.func dx) [])),xr 6 1,xu 6 5] (qz [xh 7 1,wS 8 iI 7,xL 2 8])⟩
theorem Du:ag Tryz.prog dx=some tQ:=by kernel_rfl
def cT:FK:=⟨21,[xm],qg [qf 2 xl] (wQ [ww 4,we 5 4,wA 6] 0 (xB [wy 7 6 5] (wn 7 0) (wg 1 (xW (wV (qh 8 6) 3 8) [ww 9,xU 10,ww 11,xU 12,wc 13 5 11 12,xv 14 13,qx 15 14,wK 16 aG 15 (.c (.fn (.func dx) [])),wc 17 5 9 10,xv 18 17,xu 18 16]) (wV (xi 19 6) 6 19))) (wV (ww 20) 2 20))⟩
theorem eu:ag Tryz.prog aL=some cT:=by kernel_rfl
def jM:FK:=⟨10,[.c 2 (some 1),.t 3],xj [xJ 1 1,qV 2 x5,wt 3] [qD 4 1 1,wS 5 nk 4,wY 6 5] 6 [qd 7 (.bld x5 []),xu 2 7,wt 3] (qz [qD 8 1 1,wK 9 ey 8 (.c (.fn (.func aL) [])),xu 2 9,x6 3])⟩
theorem pS:ag Tryz.prog bK=some jM:=by kernel_rfl
def eU:FK:=⟨96,[xm],qT [xJ 1 1,xA] [qE 3 1048576] (xj [qD 14 1 1,xU 15,wL 16 eM 14 15,qh 3 16] [xU 17,xk 18 17 0] 18 [x6 2] (qT [qD 20 1 1,wS 21 bL 20,wS 22 dH 21,qh 19 22,wM 23 0 19,wM 24 1 19,qV 4 x5,xu 4 23,qh 5 24] [qD 25 1 1,wS 26 bL 25,qV 6 x5,xu 6 26] (xj [qD 28 1 6,wS 29 bK 28,qh 27 29,wM 30 0 27,wM 31 1 27,qV 7 x5,xu 7 30,qh 8 31] [qD 32 1 7,qD 33 1 4,wL 34 cr 32 33,wY 35 34,qh 36 35,xq 37 36 8,xq 38 36 5,qL 39 36 (.beq true (.t 37) (.t 38)),xE 40 36 39] 40 [xA] (wq [qD 41 1 6,qD 42 1 1,wS 43 bL 42,q7 (some 1) 6 41,wL 44 cr 41 43,wY 45 44] 45 [xA] (qT [qE 9 1] [qD 46 1 6,qh 47 9,wL 48 dF 46 47,qh 9 48] (wq [qh 49 9,xk 50 49 0,qh 51 50,qL 52 51 (qk (some 1) 7),qL 53 51 (qk (some 1) 4),qL 54 51 (.call cr (wJ 52 (.t 53))),qL 55 51 (wl 54),xE 56 51 55,qh 57 56,xq 58 57 8,xq 59 57 5,qL 60 57 (.beq true (.t 58) (.t 59)),xE 61 57 60] 61 [xA] (qT [qE 10 1] [qD 62 1 7,qh 63 10,wL 64 dF 62 63,qh 10 64] (qT [qE 11 1] [qD 65 1 7,qh 66 11,wL 67 dB 65 66,qh 11 67] (wq [qh 68 11,xk 69 68 0] 69 [xA] (wq [qh 70 11,qh 71 10,qX 72 .neq 70 71] 72 [xA] (xj [qD 74 1 1,wS 75 bL 74,wS 76 bK 75,qh 73 76,wM 77 0 73,wM 78 1 73,qV 12 x5,xu 12 77,qh 13 78] [qD 79 1 12,qD 80 1 4,wL 81 cr 79 80,wY 82 81,qh 83 82,xq 84 83 13,xq 85 83 5,qL 86 83 (.beq true (.t 84) (.t 85)),xE 87 83 86] 87 [xA] (qT [qE 11 1] [qD 88 1 7,qh 89 11,wL 90 dB 88 89,qh 11 90] (wq [qh 91 11,xk 92 91 0] 92 [xA] (wq [qh 93 11,qh 94 10,qX 95 .neq 93 94] 95 [xA] (qz [x6 2])))))))))))))))⟩
theorem ka:ag Tryz.prog eX=some eU:=by kernel_rfl
end Go.Proofs.YthfklclcofcpiaaGreatDoor
