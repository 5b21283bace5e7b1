/-
  Contracts and lemmas that the card needs, part 4.
-/
import Derived.Test.YtghpabfdmbdpfaaGreatDoorKb3
import Derived.Test.YtghpabfdmbdpfaaGreatDoorRows
namespace Go.Proofs.YtghpabfdmbdpfaaGreatDoor
open Go Go.Aw
set_option maxRecDepth 100000
abbrev fK:FuncId:=27
abbrev ki:FuncId:=198
abbrev jT:FuncId:=192
abbrev mB:FuncId:=174
abbrev fq:FuncId:=193
abbrev mS:FuncId:=175
abbrev ce:FuncId:=146
abbrev iw:FuncId:=194
abbrev il:FuncId:=202
abbrev ff:FuncId:=199
abbrev gh:FuncId:=200
abbrev ec:FuncId:=195
abbrev iG:FuncId:=176
abbrev bM:FuncId:=147
abbrev oe:FuncId:=109
abbrev dT:FuncId:=148
abbrev mz:FuncId:=110
abbrev eJ:FuncId:=72
abbrev iQ:FuncId:=149
abbrev bj:FuncId:=150
abbrev dm:FuncId:=177
abbrev iq:FuncId:=178
abbrev dI:FuncId:=151
abbrev dH:FuncId:=180
abbrev cu:FuncId:=179
abbrev bT:FuncId:=152
abbrev le:FuncId:=111
abbrev eY:FuncId:=73
abbrev ll:FuncId:=52
abbrev cQ:FuncId:=25
abbrev eL:FuncId:=187
abbrev eQ:FuncId:=160
abbrev dA:FuncId:=40
abbrev cN:FuncId:=162
abbrev cK:FuncId:=161
abbrev cf:FuncId:=126
abbrev cG:FuncId:=163
abbrev bQ:FuncId:=127
abbrev bR:FuncId:=188
abbrev bD:FuncId:=164
abbrev ft:FuncId:=189
abbrev iz:FuncId:=141
abbrev jW:FuncId:=201
abbrev fp:FuncId:=197
abbrev ed:FuncId:=190
abbrev iB:FuncId:=166
abbrev cm:FuncId:=165
abbrev co:FuncId:=129
abbrev er:FuncId:=38
abbrev ef:FuncId:=167
abbrev jL:FuncId:=130
abbrev bg:FuncId:=128
abbrev eO:FuncId:=85
abbrev cx:FuncId:=131
abbrev fh:FuncId:=132
abbrev iO:FuncId:=86
abbrev bZ:FuncId:=87
abbrev aU:FuncId:=64
abbrev jw:FuncId:=168
abbrev aT:FuncId:=93
abbrev bE:FuncId:=169
abbrev cT:FuncId:=133
abbrev bm:FuncId:=88
abbrev eB:FuncId:=62
abbrev nE:FuncId:=43
abbrev bP:FuncId:=45
abbrev hZ:FuncId:=96
abbrev iF:FuncId:=97
abbrev dq:FuncId:=135
abbrev aZ:FuncId:=98
abbrev cb:FuncId:=136
abbrev bH:FuncId:=100
abbrev fv:FuncId:=170
abbrev dD:FuncId:=143
abbrev gq:FuncId:=103
abbrev bC:FuncId:=95
abbrev iU:FuncId:=99
abbrev jx:FuncId:=138
abbrev kW:FuncId:=140
abbrev jP:FuncId:=142
abbrev db:FuncId:=137
abbrev jR:FuncId:=139
abbrev mQ:FuncId:=102
abbrev jc:FuncId:=101
abbrev iW:FuncId:=104
abbrev lC:FuncId:=69
abbrev eb:FuncId:=58
abbrev eg:FuncId:=48
abbrev dE:FuncId:=63
abbrev je:FuncId:=44
abbrev aQ:FuncId:=65
abbrev eS:FuncId:=67
abbrev eX:FuncId:=94
abbrev aS:FuncId:=92
abbrev dZ:FuncId:=68
abbrev dG:FuncId:=90
abbrev dj:FuncId:=134
abbrev aW:FuncId:=89
abbrev cW:FuncId:=91
abbrev bf:FuncId:=66
abbrev gm:FuncId:=47
abbrev cD:FuncId:=46
abbrev bX:FuncId:=23
abbrev fG:FuncId:=10
abbrev jV:FuncId:=153
abbrev fg:FuncId:=112
abbrev cr:FuncId:=113
abbrev bz:FuncId:=117
abbrev bI:FuncId:=116
abbrev cg:FuncId:=115
abbrev ee:FuncId:=183
abbrev ic:FuncId:=196
abbrev be:FuncId:=182
abbrev gk:FuncId:=181
abbrev gt:FuncId:=154
abbrev bk:FuncId:=114
abbrev kO:FuncId:=74
abbrev iD:FuncId:=53
abbrev ip:FuncId:=120
abbrev fQ:FuncId:=155
abbrev lD:FuncId:=156
abbrev mW:FuncId:=118
abbrev gn:FuncId:=119
abbrev kq:FuncId:=75
abbrev eh:FuncId:=54
abbrev ca:FuncId:=26
abbrev fA:FuncId:=11
abbrev gN:FuncId:=76
abbrev ig:FuncId:=184
abbrev dU:FuncId:=157
abbrev ij:FuncId:=121
abbrev cz:FuncId:=77
abbrev kZ:FuncId:=55
abbrev mN:FuncId:=29
abbrev ck:FuncId:=13
abbrev ep:FuncId:=78
abbrev io:FuncId:=185
abbrev da:FuncId:=158
abbrev ik:FuncId:=122
abbrev cy:FuncId:=79
abbrev kX:FuncId:=56
abbrev jv:FuncId:=30
abbrev bp:FuncId:=14
abbrev gX:FuncId:=80
abbrev ir:FuncId:=186
abbrev dN:FuncId:=159
abbrev iv:FuncId:=123
abbrev dd:FuncId:=81
abbrev kJ:FuncId:=57
abbrev mL:FuncId:=31
abbrev eq:FuncId:=15
abbrev ew:FuncId:=4
abbrev iZ:FuncId:=32
abbrev gL:FuncId:=16
abbrev iY:FuncId:=33
abbrev ie:FuncId:=17
abbrev fI:FuncId:=5
@[reducible] def qa(a:Nat)(b:Option (Nat × Bool))(c:AI):CO:=⟨some a,b,c⟩
@[reducible] def qb(a:Nat)(b:AI):CO:=qa a none b
@[reducible] def qc(a:Nat)(b:AOp):CO:=qb a (.mov b)
@[reducible] def qd(a:List CO)(b:AK):AK:= .seq (.reg a) b
@[reducible] def qe(a b:Nat):CO:=qc a (.t b)
@[reducible] def qf(a:IntKind)(b:Int):AV:= .p (.int a b)
@[reducible] def qg(a:Int):AV:=qf .i64 a
@[reducible] def qh(a b:Nat):AI:= .fldA a (.t b)
@[reducible] def qi(a:Option Nat)(b:Nat):AI:= .ld a (.t b)
@[reducible] def qj(a:Int):AOp:= .c (qg a)
@[reducible] def qk(a:Nat)(b:Nat × Bool)(c:AI):CO:=qa a (some b) c
@[reducible] def ql(a:BinOp)(b:Nat)(c:AOp):AI:= .bin a (.t b) c
@[reducible] def qm(a:Nat)(b:Option Nat)(c:Nat):CO:=qb a (qi b c)
@[reducible] def qn(a:Bool):AV:= .p (.bool a)
@[reducible] def qo(a:Nat)(b c:AK):AK:= .cond (.t a) b c
@[reducible] def qp(a:Nat)(b:FuncId)(c:List AOp):CO:=qb a (.call b c)
@[reducible] def qq(a b:Nat):CO:=qm a none b
@[reducible] def qt(a b c:Nat):CO:=qb a (qh b c)
@[reducible] def qu(a:Nat)(b:BinOp)(c:Nat)(d:AOp):CO:=qb a (ql b c d)
@[reducible] def qv:AV:=qn false
@[reducible] def qw(a:List CO):AK:=qd a .ret
@[reducible] def qx(a:List CO)(b c:AK):AK:= .seq (qd a b) c
@[reducible] def qy(a:Nat)(b:BinOp)(c:Nat)(d:Int):CO:=qu a b c (qj d)
@[reducible] def qz(a:Nat)(b:Int):CO:=qc a (qj b)
@[reducible] def qA(a:AOp):AI:= .len false a
@[reducible] def qB:AOp:= .c qv
@[reducible] def qC(a b:Nat)(c:Bool)(d:AI):CO:=qk a (b,c) d
@[reducible] def qD(a b:Nat)(c:AI):CO:=qC a b false c
@[reducible] def qF(a b:Nat)(c:AI):CO:=qC a b true c
@[reducible] def qG(a b c:Nat):CO:=qm a (some b) c
@[reducible] def qH(a:Nat)(b:AK):AK:=qo a b .skip
@[reducible] def qI(a b:Nat)(c:AOp):AI:= .idxS a (.t b) c
@[reducible] def qJ(a:Nat)(b c:AOp):AI:= .pick (.t a) b c
@[reducible] def qK(a:Option (Nat × Bool))(b:AI):CO:=⟨none,a,b⟩
@[reducible] def qL(a b:List CO)(c:AK):AK:=qd a (qd b c)
@[reducible] def qM(a:Nat):AI:= .nilck (.t a)
@[reducible] def qN(a:Nat)(b:AK):AK:= .blk a (.loop b)
@[reducible] def qO(a:AI):CO:=qK none a
@[reducible] def qP(a:Nat):AI:=qA (.t a)
@[reducible] def qQ(a:Nat)(b c:AK):AK:= .seq (.blk a b) c
@[reducible] def qR(a:Nat):AI:= .not (.t a)
@[reducible] def qS:AV:=qg 0
@[reducible] def qT(a:Nat)(b:List CO):AK:=qH a (qw b)
@[reducible] def qU(a:Nat)(b c:AOp):CO:=qO (.st a b c)
@[reducible] def qV(a b:Nat):AI:= .box a (.t b)
@[reducible] def qW:AV:=qn true
@[reducible] def qX(a b:Nat):CO:=qb a (qP b)
@[reducible] def qY(a:Nat)(b:AK)(c:Nat):AK:=qo a b (.exit c)
@[reducible] def qZ(a:Nat)(b:BinOp)(c d:Nat):CO:=qu a b c (.t d)
@[reducible] def q6(a:Nat):AI:=qi none a
@[reducible] def q7(a b:Nat)(c:AOp):CO:=qU a (.t b) c
@[reducible] def q8(a b c:Nat):CO:=q7 a b (.t c)
@[reducible] def q9(a b c:Nat)(d:AOp):CO:=qb a (qI b c d)
@[reducible] def wa(a:Nat)(b:AK)(c:List CO):AK:=qQ a b (.reg c)
@[reducible] def wb(a:Nat)(b:List AV):CO:=qb a (.alloc b)
@[reducible] def wd(a b c d:Nat):CO:=q9 a b c (.t d)
@[reducible] def we(a b:Nat)(c d:AOp):CO:=qb a (qJ b c d)
@[reducible] def wg(a b:Nat)(c:Int):CO:=qy a .add b c
@[reducible] def wh(a:Nat):CO:=qc a qB
@[reducible] def wj(a:List UInt8):AV:= .p (.str a)
@[reducible] def wl(a b c:Nat):CO:=qb a (qV b c)
@[reducible] def wm(a:Nat):AI:= .mov (.t a)
@[reducible] def wn(a:Nat):CO:=qe a 0
@[reducible] def wo:AOp:= .c qW
@[reducible] def wq(a b:Nat):AK:=qY a .skip b
@[reducible] def wt(a b:Nat):CO:=qb a (qM b)
@[reducible] def wu(a b:Nat)(c:Int):CO:=qy a .eql b c
@[reducible] def wv(a:List CO)(b:AK)(c:List CO):AK:=qx a b (qw c)
@[reducible] def ww(a b c:Nat):CO:=qZ a .lss b c
@[reducible] def wx:AOp:=qj 0
@[reducible] def wy(a:Nat):CO:=qz a 0
@[reducible] def wz:CO:=wh 4
@[reducible] def wA(a b:Nat):AI:= .ext a (.t b)
@[reducible] def wB(a b:Nat):CO:=qb a (qR b)
@[reducible] def wD:AV:=wj []
@[reducible] def wE(a b:Nat)(c:List AV)(d:Nat)(e:List (Nat × Nat × AOp)):CO:=qb a (.bsl b c d e)
@[reducible] def wF(a b:Nat)(c:AOp)(d:Nat):CO:=we a b c (.t d)
@[reducible] def wG(a b c:Nat):CO:=qD a b (q6 c)
@[reducible] def wH(a b c:Nat):CO:=qF a b (q6 c)
@[reducible] def wI(a:CO)(b c:Nat):List CO:=[a,qe b c]
@[reducible] def wJ(a:Nat):List AOp:=[.t a]
@[reducible] def wK(a:Nat)(b:FuncId)(c:Nat):CO:=qp a b (wJ c)
@[reducible] def wL(a b c d:Nat):CO:=qD a b (qh c d)
@[reducible] def wM(a:Nat):CO:=qe a 1
@[reducible] def wN(a b c d:Nat):CO:=qF a b (qh c d)
@[reducible] def wP(a b:Nat):CO:=qt a 0 b
@[reducible] def wQ(a:Nat)(b:AOp):List AOp:=[.t a,b]
@[reducible] def wR(a:Nat)(b:FuncId)(c:Nat)(d:AOp):CO:=qp a b (wQ c d)
@[reducible] def wS(a:Nat)(b:FuncId)(c d:Nat):CO:=wR a b c (.t d)
@[reducible] def wT(a:Nat):List RV:=[.t a]
@[reducible] def wU(a:Nat):CO:=qe a 5
@[reducible] def wV(a:List CO)(b:Nat)(c:AK)(d:List CO):AK:=wv a (qN b c) d
@[reducible] def wW(a b:Nat)(c:Int)(d e:Nat):List CO:=wI (wu a b c) d e
@[reducible] def wX:List RV:=wT 4
@[reducible] def wY(a:List CO)(b c:Nat)(d:AK):AK:=qx a (wq b c) d
@[reducible] def wZ(a:Nat)(b:AK)(c:List CO)(d:AK):AK:=qo a b (qd c d)
@[reducible] def w6(a:List CO)(b:Nat)(c:List CO)(d:AK):AK:=qx a (qT b c) d
@[reducible] def w7(a b:List CO):AK:=qd a (qw b)
@[reducible] def w8(a b c:Nat):CO:=qb a (wA b c)
@[reducible] def w9(a:Option Nat)(b c:Nat):CO:=qO (.chk a b c)
@[reducible] def xa:AOp:=qj 1
@[reducible] def xb(a:List CO)(b c d:Nat)(e:AK)(f:List CO):AK:=wY a b c (wa d e f)
@[reducible] def xc(a b c:Nat):CO:=qD a b (wm c)
@[reducible] def xd(a b:Nat)(c:FuncId)(d:List AOp):CO:=qD a b (.call c d)
@[reducible] def xe(a:Nat)(b:List AOp):CO:=qp a cg b
@[reducible] def xf:CO:=wy 4
@[reducible] def xg:List RV:=wT 2
@[reducible] def xh(a:List CO)(b c:AK):AK:=qd a (.seq b c)
@[reducible] def xi(a b c:Nat)(d:AOp):CO:=we a b (.t c) d
@[reducible] def xj(a b:Nat):CO:=wg a b 1
@[reducible] def xk(a b:Nat):CO:=qt a 2 b
@[reducible] def xl(a b:Nat):CO:=qt a 1 b
@[reducible] def xm(a b:Nat)(c:BinOp)(d:Nat)(e:AOp):CO:=qF a b (ql c d e)
@[reducible] def xn(a:Nat)(b:List AOp):CO:=qp a eS b
@[reducible] def xo(a b c:Nat):CO:=wF a b wo c
@[reducible] def xp(a b:Nat):CO:=wK a cr b
@[reducible] def xq(a:List CO)(b:Nat)(c:List CO):AK:=qd a (qT b c)
@[reducible] def xr(a:Nat)(b:List AOp):CO:=qp a bz b
@[reducible] def xt:AOp:= .c .nils
@[reducible] def xu(a:Nat)(b:List AV)(c:List (Nat × Nat × AOp)):CO:=qb a (.bld b c)
@[reducible] def xv(a:Nat):CO:=qe a 4
@[reducible] def xw(a b:Nat):CO:=q8 1 a b
@[reducible] def xx(a b c:Nat):Nat × Nat × AOp:=(a,b,.t c)
@[reducible] def xy(a b:Nat):CO:=w9 none a b
@[reducible] def xz(a:Nat)(b:List AOp):CO:=qp a dZ b
@[reducible] def xA:CO:=wh 2
@[reducible] def xB(a b:Nat):CO:=wl a b 0
@[reducible] def xC(a:Nat)(b:List AOp):CO:=qp a cQ b
@[reducible] def xD:CO:=wy 2
@[reducible] def xE(a b:Nat)(c:BinOp)(d:Nat)(e:AOp):CO:=qD a b (ql c d e)
@[reducible] def xF:List CO:=[wz]
@[reducible] def xG(a b:Nat):Nat × Nat × AOp:=xx a 1 b
@[reducible] def xH(a b:Nat):CO:=wK a bI b
@[reducible] def xI(a:BinOp)(b:Nat)(c:AOp):AI:= .bins a (.t b) c
@[reducible] def xJ(a:FuncId)(b:List AOp):AI:= .mkf (.func a) b
@[reducible] def xK(a b:Nat)(c:Int):CO:=qy a .lss b c
@[reducible] def xL(a b c:Nat):CO:=qD a b (qR c)
@[reducible] def xM(a b:CO)(c d:Nat):List CO:=[a,b,qe c d]
@[reducible] def xN(a:CO)(b c d e:Nat):List CO:=xM a (xj b c) d e
@[reducible] def xO(a:List CO)(b c d:Nat)(e:AK)(f:CO)(g h i j:Nat):AK:=xb a b c d e (xN f g h i j)
@[reducible] def xP(a:List CO)(b c:Nat)(d:AK):AK:=xh a (wq b c) d
@[reducible] def xQ(a b:List CO)(c:Nat)(d:List CO)(e:AK):AK:=qd a (w6 b c d e)
@[reducible] def xR(a b:Nat)(c:List AOp):CO:=xd a b fK c
@[reducible] def xS(a:Nat)(b:List AOp):AI:= .callv (.t a) b
@[reducible] def xT(a b c d:Nat):List CO:=wI (xj a b) c d
@[reducible] def xU(a:Nat)(b:Int):List CO:=[qz a b]
@[reducible] def xV(a b c:AK):AK:= .cut a (.cut b c)
@[reducible] def xW(a:Nat)(b:AK)(c d:Nat)(e:Int)(f g:Nat)(h:AK):AK:=wZ a b (wW c d e f g) h
@[reducible] def xX(a:Nat)(b:List CO):AK:=qH a (.reg b)
@[reducible] def xY(a b c:Nat):CO:=xi a b c qB
@[reducible] def xZ(a:Nat):List CO:=xU a (-1)
@[reducible] def x4:List CO:=xZ 4
@[reducible] def x6:CO:=wn 12
@[reducible] def x7(a:Nat):CO:=qe a 3
@[reducible] def x8(a:Nat)(b c:AOp):List AOp:=[.t a,b,c]
@[reducible] def x9(a:Nat)(b:AOp)(c:Nat):List AOp:=x8 a b (.t c)
@[reducible] def ya(a b:Nat)(c:AOp):CO:=wR a bZ b c
@[reducible] def yb:List AV:=[.nils]
@[reducible] def yc(a:Nat):CO:=qe a 6
@[reducible] def ye(a:List CO)(b c d:Nat)(e:AK)(f:List CO):AK:=xP a b c (wa d e f)
@[reducible] def yf(a b:Nat):CO:=qt a 3 b
@[reducible] def yg(a:Nat)(b:List AOp):CO:=qp a fK b
@[reducible] def yh:CO:=wy 5
@[reducible] def yi(a:Nat):CO:=qe a 8
@[reducible] def yj(a b c:Nat):CO:=qF a b (wm c)
@[reducible] def yk(a b c d:List CO)(e:AK):AK:=qL a b (qL c d e)
@[reducible] def yl(a b c:Nat)(d:AOp):AI:= .app a b (.t c) d
@[reducible] def ym(a:Nat)(b:AOp)(c:Int):List AOp:=x8 a b (qj c)
@[reducible] def yn(a b:Nat)(c:Int):CO:=qy a .sub b c
@[reducible] def yp:CO:=wh 6
@[reducible] def yq(a b:Nat):CO:=qG a 1 b
@[reducible] def yr(a b:List CO):AK:=qd a (.reg b)
@[reducible] def yt(a b:List CO)(c:Nat)(d:AK)(e:List CO):AK:=qd a (wV b c d e)
@[reducible] def yu(a:Nat):CO:=qe a 10
def ox:FK:=⟨15,wT 6,w7 [yp] [wn 7,wM 8,qZ 9 .geq 7 8,qe 10 9,yj 11 10 0,yj 12 10 2,xm 13 10 .leq 11 (.t 12),xY 14 10 13,qe 6 14]⟩
theorem DI:al Tryz.prog fK=some ox:=by kernel_rfl
def oC:FK:=⟨18,wX,yt [xf] [yh] 0 (xO [wU 6,wn 7,qb 8 (.len true (.t 7)),ww 9 6 8] 9 0 1 (xq [x6,wU 13,qb 14 (.idxStr (.t 12) (.t 13)),wM 15,qZ 16 .eql 14 15] 16 (wI (wU 17) 4 17)) (wU 10) 11 10 5 11) x4⟩
theorem yE:al Tryz.prog ki=some oC:=by kernel_rfl
def nU:FK:=⟨28,xg,qd [xD] (qQ 0 (qd [wn 4,qu 5 .geq 4 (.c (qf .u8 97)),wU 6,yj 7 6 0,xm 8 6 .leq 7 (.c (qf .u8 122)),xY 9 6 8,qe 3 9] (wZ 3 (qw (xU 2 1)) [wn 11,qu 12 .geq 11 (.c (qf .u8 48)),qe 13 12,yj 14 13 0,xm 15 13 .leq 14 (.c (qf .u8 57)),xY 16 13 15,qe 10 16] (wZ 10 (qw (xU 2 2)) [wn 18,qp 19 ki [.c (wj [40,41,123,125,59,44,43,45,42,47,37,60,61,38,33,64]),.t 18],qy 20 .geq 19 0,qe 17 20] (wZ 17 (qw (xU 2 3)) [wn 22,qu 23 .eql 22 (.c (qf .u8 32)),qe 24 23,xc 25 24 0,xE 26 24 .eql 25 (.c (qf .u8 10)),xo 27 24 26,qe 21 27] (qT 21 (xU 2 4)))))) (qw [xD]))⟩
theorem vZ:al Tryz.prog jT=some nU:=by kernel_rfl
def sH:FK:=⟨21,wX,yt xF [yh] 0 (xO [wU 6,wn 7,qb 8 (.len true (.t 7)),ww 9 6 8] 9 0 1 (xq [x6,wU 13,qb 14 (.idxStr (.t 12) (.t 13)),wK 15 jT 14,wM 16,qZ 17 .neq 15 16] 17 xF) (wU 10) 11 10 5 11) [wn 18,qb 19 (.len true (.t 18)),qy 20 .gtr 19 0,qe 4 20]⟩
theorem Cp:al Tryz.prog mB=some sH:=by kernel_rfl
def nh:FK:=⟨2,wT 0,w7 [qc 0 xt] (wI (wE 1 1 [wD] 9 [(0,1,.c (wj [102,110])),(1,1,.c (wj [108,101,116])),(2,1,.c (wj [115,97,121])),(3,1,.c (wj [112,117,116])),(4,1,.c (wj [105,102])),(5,1,.c (wj [101,108,115,101])),(6,1,.c (wj [108,111,111,112])),(7,1,.c (wj [98,97,99,107])),(8,1,.c (wj [100,111]))]) 0 1)⟩
theorem uS:al Tryz.prog fq=some nh:=by kernel_rfl
def si:FK:=⟨18,xg,qL [xA] (wI (qp 5 fq []) 3 5) (wV [xf] 0 (xO [xv 6,x7 7,qX 8 7,ww 9 6 8] 9 0 1 (xq [x7 12,xv 13,wd 14 1 12 13,qq 15 14,wn 16,qb 17 (xI .eql 15 (.t 16))] 17 [qc 2 wo]) (xv 10) 11 10 4 11) [xA])⟩
theorem BM:al Tryz.prog mS=some si:=by kernel_rfl
def rb:FK:=⟨15,xg,w7 [xA] [wn 3,wR 4 mB 3 xa,xv 5,yj 6 5 0,qF 7 5 (.len true (.t 6)),xm 8 5 .leq 7 (qj 4),xY 9 5 8,qe 10 9,yj 11 10 0,qF 12 10 (.call mS (wJ 11)),qF 13 10 (qR 12),xY 14 10 13,qe 2 14]⟩
theorem Az:al Tryz.prog ce=some rb:=by kernel_rfl
def lG:FK:=⟨5,xg,qd [xD] (wv [wn 3,wu 4 3 4] (qT 4 (xU 2 2)) (xU 2 1))⟩
theorem AG:al Tryz.prog iw=some lG:=by kernel_rfl
def cR:FK:=⟨13,[.t 2,.t 3],qd [xD,wy 3] (wv [wn 4] (.blk 0 (qx (wW 6 4 1 5 6) (qo 5 .skip (.reg (wW 7 4 2 5 7))) (qo 5 (qw [xD,wy 3]) (qx (wW 9 4 11 8 9) (qo 8 .skip (.reg (wW 10 4 12 8 10))) (xW 8 (qw [qz 2 1,qz 3 1]) 12 4 13 11 12 (qT 11 [xD,qz 3 3])))))) [qz 2 2,qz 3 2])⟩
theorem AB:al Tryz.prog il=some cR:=by kernel_rfl
def iy:FK:=⟨86,wX,qL [xB 2 4,wz] [wP 10 2,qq 11 10,wK 12 il 11,qe 9 12,w8 13 0 9,w8 14 1 9,qe 5 13,qe 6 14] (w6 [wM 15,xK 16 15 1,qe 17 16,wL 18 17 0 2,wG 19 17 18,xR 20 17 (ym 19 xa 13),xL 21 17 20,xo 22 17 21,qe 23 22,wL 24 23 3 2,wG 25 23 24,qD 26 23 (qP 25),xc 27 23 5,xc 28 23 6,xR 29 23 (x9 26 (.t 27) 28),xL 30 23 29,xo 31 23 30] 31 xF (xQ [wP 32 2,qq 33 32,wu 34 33 2,qe 35 34,wL 36 35 0 2,wG 37 35 36,xE 38 35 .eql 37 (qj 13),xo 39 35 38,qe 7 39] [qe 40 7,xk 41 2,qq 42 41,wK 43 ce 42,qb 44 (.beq true (.t 40) (.t 43)),qe 45 44,xc 46 45 7,xL 47 45 46,xc 48 45 47,wN 49 48 2 2,wH 50 48 49,qF 51 48 (xI .neq 50 (.c wD)),qD 52 45 (qJ 48 (.t 51) qB),xo 53 45 52,qe 54 53,wL 55 54 1 2,wG 56 54 55,xR 57 54 (ym 56 wx 255),xL 58 54 57,xo 59 54 58,qe 60 59,wL 61 60 0 2,wG 62 60 61,xE 63 60 .neq 62 xa,xc 64 60 63,wN 65 64 1 2,wH 66 64 65,xm 67 64 .neq 66 wx,qD 68 60 (qJ 64 (.t 67) qB),xo 69 60 68] 69 xF (wV [wy 8] 0 (xO [yi 70,yf 71 2,qq 72 71,qX 73 72,ww 74 70 73] 74 0 1 (xq [yf 77 2,qq 78 77,yi 79,wd 80 4 78 79,qG 81 4 80,wM 82,yn 83 82 1,wS 84 ff 81 83,wB 85 84] 85 xF) (yi 75) 76 75 8 76) [qc 4 wo])))⟩
theorem pT:al Tryz.prog ff=some iy:=by kernel_rfl
def nQ:FK:=⟨21,xg,qL [xB 1 4,xD] (xU 3 1) (wV [xf] 0 (xO [xv 5,yf 6 1,qq 7 6,qX 8 7,ww 9 5 8] 9 0 1 (.reg [x7 12,yf 13 1,qq 14 13,xv 15,wd 16 4 14 15,qG 17 4 16,wK 18 gh 17,qZ 19 .add 12 18,qe 3 19]) (xv 10) 11 10 4 11) (wI (x7 20) 2 20))⟩
theorem zx:al Tryz.prog gh=some nQ:=by kernel_rfl
def lQ:FK:=⟨10,xg,w7 [xB 1 4,xA] [qG 3 4 1,wR 4 ff 3 (qj 6),xv 5,qF 6 5 (qi (some 4) 1),qF 7 5 (.call gh (wJ 6)),xm 8 5 .leq 7 (qj 30),xY 9 5 8,qe 2 9]⟩
theorem tK:al Tryz.prog ec=some lQ:=by kernel_rfl
def im:FK:=⟨108,wX,xQ [xB 2 5,wz] [wM 7,xK 8 7 1,yi 9,wL 10 9 0 2,wG 11 9 10,xR 12 9 (ym 11 xa 8),xL 13 9 12,xo 14 9 13,qe 15 14,wL 16 15 2 2,wL 19 15 0 2,wG 17 15 16,qD 18 15 (qP 17),wG 20 15 19,qD 21 15 (.qcall iw (wJ 20)),xE 22 15 .neq 18 (.t 21),xo 23 15 22] 23 xF (xQ [wP 24 2,qq 25 24,wu 26 25 1,qe 27 26,wL 28 27 0 2,wG 29 27 28,xE 30 27 .eql 29 (qj 2),xo 31 27 30,qe 5 31] [wU 32,xl 33 2,qq 34 33,wK 35 ce 34,qb 36 (.beq true (.t 32) (.t 35)),qe 37 36,xc 38 37 5,xL 39 37 38,xc 40 37 39,wN 41 40 1 2,wH 42 40 41,qF 43 40 (xI .neq 42 (.c wD)),qD 44 37 (qJ 40 (.t 43) qB),xo 45 37 44] 45 xF (qx [wy 6] (qN 0 (xO [yc 46,xk 47 2,qq 48 47,qX 49 48,ww 50 46 49] 50 0 1 (xq [xk 53 2,qq 54 53,yc 55,wd 56 4 54 55,qG 57 4 56,wK 58 ec 57,wB 59 58] 59 xF) (yc 51) 52 51 6 52)) (w6 [wP 60 2,qq 61 60,wu 62 61 8,qe 63 62,wN 64 63 2 2,wH 65 63 64,qF 66 63 (qI 4 65 wx),wN 67 63 0 66,wH 68 63 67,xm 69 63 .neq 68 (qj 13),xY 70 63 69] 70 xF (wv [qt 71 4 2,qq 72 71,qX 73 72,qy 74 .gtr 73 0,qe 75 74,wN 76 75 0 2,wH 77 75 76,xm 78 75 .neq 77 (qj 5),xY 79 75 78,qe 80 79,wL 81 80 3 2,wG 82 80 81,qD 83 80 (qP 82),xE 84 80 .gtr 83 wx,xc 85 80 84,wN 86 85 0 2,wH 87 85 86,xm 88 85 .neq 87 (qj 5),qD 89 80 (qJ 85 (.t 88) qB),xc 90 80 89,wN 91 90 0 2,wH 92 90 91,xm 93 90 .neq 92 (qj 6),qD 94 80 (qJ 90 (.t 93) qB),xo 95 80 94] (qT 95 xF) [yf 96 2,qq 97 96,wM 98,yn 99 98 1,wS 100 bM 97 99,qe 101 100,wN 102 101 4 2,wH 103 101 102,yj 104 101 1,xm 105 101 .sub 104 xa,qF 106 101 (.call bM (wQ 103 (.t 105))),xY 107 101 106,qe 4 107]))))⟩
theorem pJ:al Tryz.prog iG=some im:=by kernel_rfl
def oa:FK:=⟨19,wX,yt xF [yh] 0 (xO [wU 6,wn 7,qX 8 7,ww 9 6 8] 9 0 1 (xq [x6,wU 13,wd 14 5 12 13,qG 15 5 14,wM 16,wS 17 iG 15 16,wB 18 17] 18 xF) (wU 10) 11 10 5 11) [qc 4 wo]⟩
theorem zX:al Tryz.prog bM=some oa:=by kernel_rfl
def uF:FK:=⟨32,xg,yt [xB 1 3,xA] [wy 3] 0 (xO [x7 4,xl 5 1,qq 6 5,qX 7 6,ww 8 4 7] 8 0 1 (xq [xl 11 1,qq 12 11,x7 13,wd 14 1 12 13,qq 15 14,wK 16 ce 15,wB 17 16] 17 [xA]) (x7 9) 10 9 3 10) [wP 18 1,qq 19 18,wK 20 ce 19,qe 21 20,wN 22 21 1 1,wH 23 21 22,qF 24 21 (qP 23),xm 25 21 .leq 24 (qj 3),xY 26 21 25,qe 27 26,wN 28 27 2 1,wH 29 27 28,qF 30 27 (.call bM (wQ 29 (qj 4))),xY 31 27 30,qe 2 31]⟩
theorem Dv:al Tryz.prog oe=some uF:=by kernel_rfl
def kj:FK:=⟨29,xg,qL [xD] (xM (wn 5) (qX 6 5) 3 6) (wV [xf] 0 (xO [xv 7,wn 8,qX 9 8,ww 10 7 9] 10 0 1 (.reg [x7 13,wn 14,xv 15,wd 16 5 14 15,yf 17 16,wn 21,xv 22,wd 23 5 21 22,qt 24 4 23,qq 18 17,qq 25 24,wK 19 dT 18,xy 24 25,qZ 20 .add 13 19,wK 26 dT 25,qZ 27 .add 20 26,qe 3 27]) (xv 11) 12 11 4 12) (wI (x7 28) 2 28))⟩
theorem nV:al Tryz.prog dT=some kj:=by kernel_rfl
def sx:FK:=⟨22,xg,qL [xB 1 1,xD] [wy 3] (wV [xf] 0 (xO [xv 5,wP 6 1,qq 7 6,qX 8 7,ww 9 5 8] 9 0 1 (.reg [x7 12,wP 13 1,qq 14 13,xv 15,wd 16 3 14 15,xk 17 16,qq 18 17,wK 19 dT 18,qZ 20 .add 12 19,qe 3 20]) (xv 10) 11 10 4 11) (wI (x7 21) 2 21))⟩
theorem Cm:al Tryz.prog mz=some sx:=by kernel_rfl
def ji:FK:=⟨26,xg,xQ [xB 1 1,xA] [wP 4 1,qq 5 4,qX 6 5,yg 7 (ym 6 xa 4),wB 8 7] 8 [xA] (wV [wy 3] 0 (xO [x7 9,wP 10 1,qq 11 10,qX 12 11,ww 13 9 12] 13 0 1 (xq [wP 16 1,qq 17 16,x7 18,wd 19 3 17 18,qG 20 3 19,wK 21 oe 20,wB 22 21] 22 [xA]) (x7 14) 15 14 3 15) [yq 23 1,wK 24 mz 23,qy 25 .leq 24 40,qe 2 25])⟩
theorem pA:al Tryz.prog eJ=some ji:=by kernel_rfl
def uB:FK:=⟨22,wX,yt [xB 2 1,xf] [yh] 0 (xO [wU 6,wP 7 2,qq 8 7,qX 9 8,ww 10 6 9] 10 0 1 (xq [wP 13 2,qq 14 13,wU 15,wd 16 3 14 15,wP 17 16,qq 18 17,wM 19,qb 20 (xI .eql 18 (.t 19))] 20 (wI (wU 21) 4 21)) (wU 11) 12 11 5 12) x4⟩
theorem DL:al Tryz.prog iQ=some uB:=by kernel_rfl
def fB:FK:=⟨13,[],qd [wn 4,wt 5 4,qt 6 4 5,qq 7 6,wu 8 7 0] (xX 8 [wn 9,wM 10,wt 11 9,qt 12 4 11,xw 12 10])⟩
theorem rM:al Tryz.prog bj=some fB:=by kernel_rfl
def fx:FK:=⟨27,wX,yt [xf] [wn 6,wt 7 6,xk 8 7,qq 9 8,qX 10 9,yn 11 10 1,qe 5 11] 0 (xb [wU 12,qy 13 .geq 12 0] 13 0 1 (xq [wn 16,wt 17 16,xk 18 17,qq 19 18,wU 20,wd 21 3 19 20,wP 22 21,qq 23 22,wM 24,qb 25 (xI .eql 23 (.t 24))] 25 (wI (wU 26) 4 26)) (xM (wU 14) (yn 15 14 1) 5 15)) x4⟩
theorem rN:al Tryz.prog dm=some fx:=by kernel_rfl
def pG:FK:=⟨11,xg,qL [qc 2 (.c wD)] [wn 4,qy 5 .rem 4 26,wU 3] (qw [x7 6,x7 7,xj 8 7,qb 9 (.slStr (.c (wj [97,98,99,100,101,102,103,104,105,106,107,108,109,110,111,112,113,114,115,116,117,118,119,120,121,122])) (some (.t 6)) (some (.t 8))),qb 10 (.bins .add (.c (wj [118])) (.t 9)),yu 2])⟩
theorem Av:al Tryz.prog iq=some pG:=by kernel_rfl
def fT:AK:=qL [qc 6 (.c wD)] [wn 8,wM 9,wS 10 dm 8 9,yu 7] (.cut (qd [qe 11 7,qy 12 .geq 11 0,qe 13 12,yj 14 13 0,qF 15 13 (qM 14),wN 16 13 2 15,wH 17 13 16,yj 18 13 7,qF 19 13 (qI 3 17 (.t 18)),wN 20 13 2 19,wH 21 13 20,yj 22 13 2,xm 23 13 .eql 21 (.t 22),xY 24 13 23] (xX 24 [wn 25,wR 26 bj 25 (qj 2)])) (qL [wn 27,wn 28,wt 29 28,xk 30 29,wM 32,wn 33,wt 34 33,yf 35 34,qe 37 2,qq 31 30,qq 36 35,xu 38 [wD,qS,qS] [xG 0 32,xG 1 36,xG 2 37],qb 39 (.bslP 3 [wD,qS,qS] 1 [xx 0 3 38]),qb 40 (yl 3 32 31 (.t 39)),wt 41 27,xk 42 41,xw 42 40] [wn 43,wn 44,wt 45 44,yf 46 45,qq 47 46,xj 48 47,wt 49 43,yf 50 49,xw 50 48] (qw [wn 51,wt 52 51,yf 53 52,qq 54 53,yn 55 54 1,wK 56 iq 55,qe 6 56])))
def fW:FK:=⟨57,wT 6,(AK.whole fT)⟩
theorem rP:al Tryz.prog dI=some fW:=by kernel_rfl
def kY:FK:=⟨23,wX,qL [qc 4 (.c wD)] [wn 6,wM 7,wS 8 dm 6 7,yi 5] (wv [wU 9,xK 10 9 0] (qH 10 (w7 [wn 11,wR 12 bj 11 (qj 3)] (wI (wM 13) 4 13))) [wn 14,wt 15 14,xk 16 15,qq 17 16,wU 18,wd 19 3 17 18,xl 20 19,qq 21 20,wK 22 iq 21,qe 4 22])⟩
theorem sy:al Tryz.prog dH=some kY:=by kernel_rfl
def fw:AK:=qd [wl 3 4 1,wb 4 [qS,qS,wD,.nils]] (xV (qd [wP 8 3,qq 9 8,wu 10 9 2] (xX 10 [wn 11,xk 12 3,qq 13 12,wS 14 dH 11 13,xk 15 3,xw 15 14])) (qd [wP 16 3,qq 17 16,wu 18 17 13] (qH 18 (qL [wn 19,wt 20 19,wP 21 20,xk 23 3,yq 22 21,qq 24 23,wS 25 iQ 22 24,qe 5 25] [wU 26,xK 27 26 0,qe 28 27,xc 29 28 5,xc 30 28 0,qD 31 28 (qM 30),wL 32 28 1 31,wG 33 28 32,xE 34 28 .geq 29 (.t 33),xo 35 28 34] (wZ 35 (.reg [wn 36,wR 37 bj 36 (qj 4)]) [wn 38,wt 39 38,wP 40 39,wP 41 40,wU 43,yf 48 3,qq 42 41,wd 44 3 42 43,xl 45 44,qq 46 45,qX 47 46,qq 49 48,qX 50 49,qZ 51 .neq 47 50] (xX 51 [wn 52,wR 53 bj 52 (qj 5)]))))) (qd (wI (wE 54 4 [qS,qS,wD,.nils] 0 []) 6 54) (qx [wy 7] (qN 0 (xO [qe 55 7,yf 56 3,qq 57 56,qX 58 57,ww 59 55 58] 59 0 1 (.reg [yc 62,wn 63,yf 64 3,qq 65 64,qe 66 7,wd 67 4 65 66,qG 68 4 67,wS 69 cu 63 68,wE 70 4 [qS,qS,wD,.nils] 1 [xx 0 4 69],qb 71 (yl 4 56 62 (.t 70)),qe 6 71]) (qe 60 7) 61 60 7 61)) (w7 [yc 72,yf 73 3,xw 73 72] [qG 74 4 3,q8 4 4 74]))))
def fC:FK:=⟨75,[.c 4 (some 4)],(AK.whole fw)⟩
theorem rJ:al Tryz.prog cu=some fC:=by kernel_rfl
def eE:AK:=qL [qc 6 xt] (wI (wE 13 5 [qS,wD,.nils,.nils,.nils] 0 []) 7 13) (qd [wn 14,wt 15 14,xk 16 15,qq 17 16,qX 18 17,qe 8 18] (qx [wy 9] (qN 0 (xO [qe 19 9,wM 20,qX 21 20,ww 22 19 21] 22 0 1 (qL [wM 25,qe 26 9,wd 27 5 25 26,qG 28 5 27,wb 10 [qS,wD,.nils,.nils,.nils],q8 5 10 28] (wI (wE 29 4 [qS,qS,wD,.nils] 0 []) 11 29) (qx [wy 12] (qN 2 (xO [qe 30 12,xk 31 10,qq 32 31,qX 33 32,ww 34 30 33] 34 2 3 (.reg [qe 37 11,wn 38,xk 39 10,qq 40 39,qe 41 12,wd 42 4 40 41,qG 43 4 42,wS 44 cu 38 43,wE 45 4 [qS,qS,wD,.nils] 1 [xx 0 4 44],qb 46 (yl 4 56 37 (.t 45)),qe 11 46]) (qe 35 12) 36 35 12 36)) (xV (.reg [qe 47 11,xk 48 10,xw 48 47]) (qd [wP 49 10,qq 50 49,wu 51 50 1] (xX 51 [wn 52,xl 53 10,qq 54 53,qe 55 2,qp 56 dI (x9 52 (.t 54) 55),xl 57 10,xw 57 56])) (.cut (qd [wP 58 10,qq 59 58,wu 60 59 2] (xX 60 [wn 61,xl 62 10,qq 63 62,wS 64 dH 61 63,xl 65 10,xw 65 64])) (qL [wn 66,yf 67 10,qq 68 67,qe 69 2,xj 70 69,qp 71 bT (x9 66 (.t 68) 70),yf 72 10,xw 72 71] [wn 73,qt 74 4 10,qq 75 74,qe 76 2,xj 77 76,qp 78 bT (x9 73 (.t 75) 77),qt 79 4 10,xw 79 78] (.reg [qe 80 7,qG 81 5 10,wE 82 5 [qS,wD,.nils,.nils,.nils] 1 [xx 0 5 81],qb 83 (yl 5 96 80 (.t 82)),qe 7 83])))))) (qe 23 9) 24 23 9 24)) (.cut (qd [qe 84 2,qy 85 .gtr 84 0] (xX 85 [wn 86,wn 87,wt 88 87,xk 89 88,qq 90 89,yi 91,qb 92 (.slS 3 (.t 90) none (some (.t 91))),wt 93 86,xk 94 93,xw 94 92])) (qw (wI (qe 95 7) 6 95)))))
def eV:FK:=⟨96,wT 6,(AK.whole eE)⟩
theorem pu:al Tryz.prog bT=some eV:=by kernel_rfl
def om:AK:=qL [xB 2 1,wb 4 [wD,.nils,.nils],yh,wy 6] [yq 11 2,wM 12,xu 13 [.nils,qS,.nils,qS,qS] [xG 0 11,xG 1 12],wl 14 5 13,qe 7 14] (xV (.reg [wP 15 2,qq 16 15,wM 17,wd 18 3 16 17,qG 19 3 18,wb 8 [wD,.nils,.nils],q8 3 8 19]) (qd [yq 20 2,wP 21 8,qq 22 21,wS 23 iQ 20 22,wM 24,qZ 25 .neq 23 24] (xX 25 [qe 26 7,wR 27 bj 26 (qj 2)])) (qd (wI (wE 28 1 [wD] 0 []) 9 28) (qx [wy 10] (qN 0 (xO [yu 29,xl 30 8,qq 31 30,qX 32 31,ww 33 29 32] 33 0 1 (.reg [qe 36 9,qe 37 7,xl 38 8,qq 39 38,yu 40,wd 41 1 39 40,qq 42 41,qp 43 dI (x8 37 (.t 42) wx),wE 44 1 [wD] 1 [xG 0 43],qb 45 (yl 1 16 36 (.t 44)),qe 9 45]) (yu 34) 35 34 10 35)) (qL [qe 46 9,xl 47 8,xw 47 46] [qe 48 7,xk 49 8,qq 50 49,qp 51 bT (x8 48 (.t 50) wx),xk 52 8,xw 52 51] (qw [qe 54 7,wt 55 54,qt 56 4 55,qe 58 7,wt 59 58,yf 60 59,qG 53 3 8,qq 57 56,qq 61 60,q8 3 4 53,xy 56 57,xy 60 61,qe 5 57,qe 6 61])))))
def oq:FK:=⟨62,[.c 4 (some 3),.t 5,.t 6],(AK.whole om)⟩
theorem Ee:al Tryz.prog le=some oq:=by kernel_rfl
def jr:FK:=⟨27,xg,xQ [xB 1 1,xD] [yq 7 1,wK 8 eJ 7,wB 9 8] 9 (xU 2 1) (wV [wy 3] 0 (xO [x7 10,wP 11 1,qq 12 11,qX 13 12,ww 14 10 13] 14 0 1 (qL [yq 18 1,x7 19,wS 20 le 18 19,qe 17 20,w8 21 0 17,w8 22 1 17,w8 23 2 17,wb 4 [wD,.nils,.nils],q8 3 4 21,qe 5 22,qe 6 23] [wU 24,qy 25 .neq 24 0] (qT 25 (wI (wU 26) 2 26))) (x7 15) 16 15 3 16) [xD])⟩
theorem pB:al Tryz.prog eY=some jr:=by kernel_rfl
def ra:FK:=⟨6,xg,w7 [xB 1 1,xA] [yq 3 1,wK 4 eY 3,wu 5 4 0,wU 2]⟩
theorem Aq:al Tryz.prog ll=some ra:=by kernel_rfl
def lz:FK:=⟨15,wT 6,w7 [yp] [wM 7,wn 8,qZ 9 .leq 7 8,qe 10 9,yj 11 10 0,yj 12 10 2,xm 13 10 .leq 11 (.t 12),xY 14 10 13,qe 6 14]⟩
theorem Am:al Tryz.prog cQ=some lz:=by kernel_rfl
def jk:FK:=⟨21,wT 6,yt [wy 6] [wn 9,qb 10 (.rngS (.t 9))] 0 (xP [qb 11 (.nxtS (.t 10)),w8 12 0 11] 12 0 (.blk 1 (qL [w8 13 1 11,w8 14 2 11,qe 7 13,qe 8 14] [wM 15,yi 16,qb 17 (xS 15 (wJ 16)),qe 18 2,qb 19 (.beq false (.t 17) (.t 18))] (qT 19 (wI (qe 20 7) 6 20))))) (xZ 6)⟩
theorem pE:al Tryz.prog eL=some jk:=by kernel_rfl
def jm:FK:=⟨8,wX,w7 [xf] [wn 5,wM 6,qp 7 eL (x8 5 (.t 6) wo),qe 4 7]⟩
theorem pp:al Tryz.prog eQ=some jm:=by kernel_rfl
def gE:FK:=⟨19,wX,yt [xf] [wn 6,qX 7 6,wy 8] 0 (ye [ww 9 8 7] 9 0 1 (qL (wI (yi 10) 5 10) [wM 11,x6,wU 13,wd 14 1 12 13,qq 15 14,qb 16 (xI .eql 11 (.t 15))] (qT 16 (wI (wU 17) 4 17))) (xT 18 8 8 18)) x4⟩
theorem nw:al Tryz.prog dA=some gE:=by kernel_rfl
def fe:FK:=⟨9,wX,w7 xF [wn 5,wM 6,wS 7 dA 5 6,qy 8 .geq 7 0,yi 4]⟩
theorem lf:al Tryz.prog cN=some fe:=by kernel_rfl
def na:FK:=⟨9,xg,w7 [xA] [wn 3,qu 4 .lss 3 (.c (qf .i32 97)),xv 5,xc 6 5 0,xE 7 5 .gtr 6 (.c (qf .i32 122)),xo 8 5 7,yi 2]⟩
theorem uW:al Tryz.prog cK=some na:=by kernel_rfl
def rd:FK:=⟨17,xg,w7 [xA] [wn 3,qb 4 (.len true (.t 3)),xC 5 (ym 4 xa 4),wU 6,yj 7 6 0,qF 8 6 (.call eQ (wQ 7 (.c (.fn (.func cK) [])))),xm 9 6 .lss 8 wx,xY 10 6 9,yu 11,qF 12 11 (.slA 9 1 (.c (.gp 0 0)) none none),yj 13 11 0,qF 14 11 (.call cN (wQ 12 (.t 13))),qF 15 11 (qR 14),xY 16 11 15,qe 2 16]⟩
theorem Ag:al Tryz.prog cf=some rd:=by kernel_rfl
def ey:FK:=⟨19,wX,yt [xf] [wn 6,qX 7 6,wy 8] 0 (ye [ww 9 8 7] 9 0 1 (qL (wI (yi 10) 5 10) [wM 11,x6,wU 13,wd 14 1 12 13,qq 15 14,qb 16 (xS 11 (wJ 15))] (qT 16 (wI (wU 17) 4 17))) (xT 18 8 8 18)) x4⟩
theorem kH:al Tryz.prog cG=some ey:=by kernel_rfl
def dv:FK:=⟨9,wX,w7 xF [wn 5,wM 6,wS 7 cG 5 6,qy 8 .geq 7 0,yi 4]⟩
theorem jb:al Tryz.prog bQ=some dv:=by kernel_rfl
def dt:FK:=⟨19,wX,yt [xf] [wn 6,qX 7 6,wy 8] 0 (ye [ww 9 8 7] 9 0 1 (qL (wI (yi 10) 5 10) [wM 11,x6,wU 13,wd 14 5 12 13,qG 15 5 14,qb 16 (xS 11 (wJ 15))] (qT 16 (wI (wU 17) 4 17))) (xT 18 8 8 18)) x4⟩
theorem iV:al Tryz.prog bR=some dt:=by kernel_rfl
def cS:FK:=⟨9,wX,w7 xF [wn 5,wM 6,wS 7 bR 5 6,qy 8 .geq 7 0,yi 4]⟩
theorem gw:al Tryz.prog bD=some cS:=by kernel_rfl
def aX:FK:=⟨20,[.t 2,.t 3,.t 4,.t 5],qd [xD,wh 3,wz,wh 5] (wv [wn 6] (.blk 0 (qx (wW 8 6 1 7 8) (qo 7 .skip (.reg (wW 9 6 2 7 9))) (qo 7 (qw [qz 2 1,qc 3 wo,wz,wh 5]) (qx (wW 11 6 3 10 11) (xW 10 .skip 12 6 7 10 12 (qo 10 .skip (.reg (wW 13 6 8 10 13)))) (xW 10 (qw [qz 2 1,wh 3,wz,wh 5]) 15 6 4 14 15 (xW 14 (qw [qz 2 2,wh 3,wz,wh 5]) 17 6 5 16 17 (xW 16 (qw [qz 2 1,wh 3,qc 4 wo,qc 5 wo]) 19 6 6 18 19 (qT 18 [qz 2 1,wh 3,qc 4 wo,wh 5])))))))) [qz 2 (-1),wh 3,wz,wh 5])⟩
theorem uR:al Tryz.prog ft=some aX:=by kernel_rfl
def pO:FK:=⟨5,xg,w7 [xA] [wn 3,xC 4 (ym 3 wx 255),xv 2]⟩
theorem AF:al Tryz.prog iz=some pO:=by kernel_rfl
def dP:FK:=⟨20,xg,qd [xD] (qQ 0 (qd [qb 4 (.ld none (.c (.gp 1 0))),wn 5,qb 6 (.lk 0 (.agg [wD,qS]) false (.t 4) (.t 5)),qb 7 (.fldv 1 none (.t 6)),qy 8 .gtr 7 0,yi 3] (wZ 3 (qw [qb 9 (.ld none (.c (.gp 1 0))),wn 10,qb 11 (.lk 0 (.agg [wD,qS]) false (.t 9) (.t 10)),qb 12 (.fldv 1 none (.t 11)),qe 2 12]) [wn 14,wu 15 14 11,qe 16 15,xc 17 16 0,xE 18 16 .eql 17 (qj 12),xo 19 16 18,qe 13 19] (qT 13 (xU 2 5)))) (qw (xU 2 6)))⟩
theorem zS:al Tryz.prog jW=some dP:=by kernel_rfl
def iT:AK:=qL [xB 2 4,xf,yh,yp] [wy 7,wy 8] (xV (.blk 0 (qd [wP 17 2,qq 18 17,wu 19 18 1,qe 16 19] (wZ 16 (xq [xl 20 2,qq 21 20,wK 22 iz 21,wB 23 22,qe 24 23,wL 25 24 2 2,wG 26 24 25,qD 27 24 (xI .neq 26 (.c wD)),xo 28 24 27] 28 [xf,yh,yp]) [wP 30 2,qq 31 30,wu 32 31 2,qe 29 32] (wZ 29 (xq [xk 33 2,qq 34 33,wK 35 cf 34,wB 36 35,qe 37 36,wL 38 37 1 2,wG 39 37 38,xE 40 37 .neq 39 wx,xo 41 37 40] 41 [xf,yh,yp]) [wP 43 2,qq 44 43,wu 45 44 13,qe 42 45] (wZ 42 (qL (xU 8 3) [xk 46 2,qq 47 46,wK 48 cf 47,wB 49 48,qe 50 49,wL 51 50 1 2,wG 52 50 51,xE 53 50 .neq 52 wx,xo 54 50 53] (qT 54 [xf,yh,yp])) [qb 56 (.ld none (.c (.gp 1 0))),wP 57 2,qq 58 57,qb 59 (.lk 0 (.agg [wD,qS]) false (.t 56) (.t 58)),qb 60 (.fldv 1 none (.t 59)),qy 61 .gtr 60 0,qe 55 61] (wZ 55 (.reg [qz 7 2,qz 8 2]) [wP 63 2,qq 64 63,wu 65 64 11,qe 66 65,wL 67 66 0 2,wG 68 66 67,xE 69 66 .eql 68 (qj 12),xo 70 66 69,qe 62 70] (qo 62 (.reg [qz 7 1,qz 8 1]) (qw [xf,yh,yp])))))))) (xq [wP 71 2,qq 72 71,wK 73 jW 72,xK 74 73 6,qe 75 74,wN 76 75 1 2,wH 77 75 76,xm 78 75 .neq 77 wx,yj 79 75 78,wL 80 79 2 2,wG 81 79 80,qD 82 79 (xI .neq 81 (.c wD)),qF 83 75 (qJ 79 wo (.t 82)),xY 84 75 83,qe 85 84,wL 86 85 3 2,wG 87 85 86,qD 88 85 (qP 87),xc 89 85 7,xc 90 85 8,xd 91 85 cQ (x9 88 (.t 89) 90),xL 92 85 91,xo 93 85 92,qe 94 93,xc 95 94 1,xE 96 94 .lss 95 xa,xo 97 94 96] 97 [xf,yh,yp]) (yt [qz 9 1,qz 10 1] [yf 98 2,qq 99 98,qX 100 99,wy 101] 1 (ye [ww 102 101 100] 102 1 2 (qL [wd 103 4 99 101,qG 104 4 103,wb 12 [qS,qS,wD,.nils],q8 4 12 104] [qG 106 4 12,wM 107,yn 108 107 1,wS 109 fp 106 108,qe 105 109,w8 110 0 105,w8 111 1 105,w8 112 2 105,qe 13 110,qe 14 111,qe 15 112] (w6 [qe 113 15,wB 114 113] 114 [xf,yh,yp] (yr [qe 115 9,qe 116 13,qZ 117 .add 115 116,qe 9 117] [yu 118,qe 119 14,xj 120 119,qb 121 (.mx (.t 118) (.t 120)),qe 10 121]))) (xT 122 101 101 122)) [qe 123 9,yu 124,qe 125 9,qy 126 .leq 125 30,qe 4 123,qe 5 124,qe 6 126]))
def jf:FK:=⟨127,[.t 4,.t 5,.t 6],(AK.whole iT)⟩
theorem uO:al Tryz.prog fp=some jf:=by kernel_rfl
def mg:FK:=⟨13,xg,qL [xB 1 4,xA] [qG 7 4 1,wR 8 fp 7 (qj 6),yi 6,w8 9 0 6,w8 10 1 6,w8 11 2 6,qe 3 9,yu 4,qe 5 11] (qw (wI (wU 12) 2 12))⟩
theorem tZ:al Tryz.prog ed=some mg:=by kernel_rfl
def iu:FK:=⟨91,wX,qL [xB 2 5,wz] [wP 12 2,qq 13 12,wK 14 ft 13,qe 11 14,w8 15 0 11,w8 16 1 11,w8 17 2 11,w8 18 3 11,qe 5 15,qe 6 16,qe 7 17,qe 8 18] (qQ 0 (qx (xM (wM 20) (qy 21 .gtr 20 4) 19 21) (wZ 19 .skip [xk 22 2,qq 23 22,qX 24 23,wU 25,qZ 26 .neq 24 25,qe 19 26] (wZ 19 .skip [yc 27,qe 28 27,wN 29 28 1 2,wH 30 28 29,qF 31 28 (.call cf (wJ 30)),qF 32 28 (qR 31),xY 33 28 32,qe 19 33] (wZ 19 .skip [yc 34,wB 35 34,qe 36 35,wN 37 36 1 2,wH 38 36 37,qF 39 36 (xI .neq 38 (.c wD)),xY 40 36 39,qe 19 40] (wZ 19 .skip [qe 41 7,wB 42 41,qe 43 42,wN 44 43 3 2,wH 45 43 44,qF 46 43 (qP 45),xm 47 43 .gtr 46 wx,xY 48 43 47,qe 19 48] (wZ 19 .skip [yi 49,wB 50 49,qe 51 50,wN 52 51 4 2,wH 53 51 52,qF 54 51 (qP 53),xm 55 51 .gtr 54 wx,xY 56 51 55,qe 19 56] (qo 19 .skip (.reg [wP 57 2,qq 58 57,wu 59 58 8,qe 60 59,wN 61 60 2 2,wH 62 60 61,qF 63 60 (qI 4 62 wx),wN 64 60 0 63,wH 65 60 64,xm 66 60 .neq 65 (qj 13),xY 67 60 66,qe 19 67]))))))) (qT 19 xF)) (wV [xk 68 2,qq 69 68,qX 70 69,wy 71] 1 (ye [ww 72 71 70] 72 1 2 (qL [wd 73 4 69 71,qG 74 4 73,wb 10 [qS,qS,wD,.nils],q8 4 10 74] [qG 75 4 10,wK 76 ed 75,wB 77 76] (qT 77 xF)) (xT 78 71 71 78)) [yf 79 2,qq 80 79,wM 81,xj 82 81,wS 83 co 80 82,qe 84 83,wN 85 84 4 2,wH 86 84 85,yj 87 84 1,xm 88 84 .add 87 xa,qF 89 84 (.call co (wQ 86 (.t 88))),xY 90 84 89,qe 4 90]))⟩
theorem pN:al Tryz.prog iB=some iu:=by kernel_rfl
def md:FK:=⟨8,wT 3,w7 [xB 2 5,wh 3] [qG 4 5 2,qq 5 1,wS 6 iB 4 5,wB 7 6,qe 3 7]⟩
theorem tP:al Tryz.prog cm=some md:=by kernel_rfl
def nI:FK:=⟨9,wX,w7 [wl 3 1 1,wz] [wn 5,qb 6 (xJ cm (wJ 3)),wS 7 bD 5 6,wB 8 7,yi 4]⟩
theorem yN:al Tryz.prog co=some nI:=by kernel_rfl
def sa:FK:=⟨31,[],qd [wn 8,qX 9 8,wy 10] (qN 0 (ye [ww 11 10 9] 11 0 1 (qL [wd 12 5 8 10,qG 13 5 12,wb 7 [qS,wD,.nils,.nils,.nils],q8 5 7 13] [qe 14 2,qG 15 5 7,wM 16,qb 17 (xS 14 (wQ 15 (.t 16)))] (yr [yf 18 7,qq 19 18,wM 20,xj 21 20,qe 22 2,qp 23 er (x9 19 (.t 21) 22)] [qt 24 4 7,qq 25 24,wM 26,xj 27 26,qe 28 2,qp 29 er (x9 25 (.t 27) 28)])) (xT 30 10 10 30)))⟩
theorem Ci:al Tryz.prog er=some sa:=by kernel_rfl
def lM:FK:=⟨11,[],qL [xB 4 5] [qq 6 2,xj 7 6,xw 2 7] (.reg [qq 8 3,wM 9,qb 10 (.mx (.t 8) (.t 9)),xw 3 10])⟩
theorem tf:al Tryz.prog ef=some lM:=by kernel_rfl
def oA:FK:=⟨20,[.c 2 none,.c 3 none],yt [xB 1 1,wb 2 [qS],wb 3 [qS]] [wP 6 1,qq 7 6,qX 8 7,wy 9] 0 (ye [ww 10 9 8] 10 0 1 (yr [wd 11 3 7 9,qG 12 3 11,wb 5 [wD,.nils,.nils],q8 3 5 12] [xk 13 5,qq 14 13,qb 15 (xJ ef (wQ 2 (.t 3))),qp 16 er (x9 14 xa 15)]) (xT 17 9 9 17)) [qq 18 2,qq 19 3,xw 2 18,xy 3 19,xw 3 19]⟩
theorem yy:al Tryz.prog jL=some oA:=by kernel_rfl
def gx:FK:=⟨6,xg,w7 [xA] [wn 3,wK 4 cf 3,wB 5 4,wU 2]⟩
theorem nv:al Tryz.prog bg=some gx:=by kernel_rfl
def jp:FK:=⟨48,xg,xQ [xB 1 1,xA] [wP 7 1,qq 8 7,qX 9 8,xC 10 (ym 9 xa 4),wB 11 10] 11 [xA] (qx [wP 12 1,qq 13 12,qX 14 13,wy 15] (qN 0 (ye [ww 16 15 14] 16 0 1 (qL [wd 17 3 13 15,qG 18 3 17,wb 4 [wD,.nils,.nils],q8 3 4 18] [wP 19 4,qq 20 19,wK 21 cf 20,wB 22 21,qe 23 22,wL 24 23 1 4,wG 25 23 24,qD 26 23 (qP 25),xE 27 23 .gtr 26 (qj 3),xo 28 23 27,qe 29 28,wL 30 29 1 4,wG 31 29 30,xd 32 29 bQ (wQ 31 (.c (.fn (.func bg) []))),xo 33 29 32,qe 34 33,wL 35 34 2 4,wG 36 34 35,xd 37 34 co (wQ 36 xa),xL 38 34 37,xo 39 34 38] (qT 39 [xA])) (xT 40 15 15 40))) (w7 [yq 42 1,wK 43 jL 42,qe 41 43,w8 44 0 41,w8 45 1 41,qe 5 44,qe 6 45] (xM (wU 46) (qy 47 .leq 46 40) 2 47)))⟩
theorem pw:al Tryz.prog eO=some jp:=by kernel_rfl
def dQ:FK:=⟨19,wX,yt [xf] [wn 6,qX 7 6,wy 8] 0 (ye [ww 9 8 7] 9 0 1 (qL (wI (yi 10) 5 10) [wM 11,x6,wU 13,wd 14 3 12 13,qG 15 3 14,qb 16 (xS 11 (wJ 15))] (qT 16 (wI (wU 17) 4 17))) (xT 18 8 8 18)) x4⟩
theorem kf:al Tryz.prog cx=some dQ:=by kernel_rfl
def pM:FK:=⟨8,wT 3,w7 [xB 2 3,wh 3] [wP 4 2,qq 5 4,qq 6 1,qb 7 (xI .eql 5 (.t 6)),qe 3 7]⟩
theorem Af:al Tryz.prog fh=some pM:=by kernel_rfl
def uA:FK:=⟨9,wX,w7 [xB 2 1,wl 3 1 1,xf] [wP 5 2,qq 6 5,qb 7 (xJ fh (wJ 3)),wS 8 cx 6 7,yi 4]⟩
theorem Dk:al Tryz.prog iO=some uA:=by kernel_rfl
def eN:FK:=⟨13,[],qd [wn 4,wt 5 4,xk 6 5,qq 7 6,wu 8 7 0] (xX 8 [wn 9,wM 10,wt 11 9,xk 12 11,xw 12 10])⟩
theorem pz:al Tryz.prog bZ=some eN:=by kernel_rfl
def gb:FK:=⟨7,xg,w7 [qc 2 (.c .nilp)] [qb 3 .mkm,wn 4,xu 5 [.nilm,.nilp] [xG 0 3,xG 1 4],wl 6 2 5,yc 2]⟩
theorem rW:al Tryz.prog aU=some gb:=by kernel_rfl
def sO:FK:=⟨20,[],qL [xB 2 4] [wM 6,qG 7 4 2,qb 8 (xS 6 (wJ 7))] (qd [yf 9 2,qq 10 9,qX 11 10,wy 12] (qN 0 (ye [ww 13 12 11] 13 0 1 (yr [wd 14 4 10 12,qG 15 4 14,wb 5 [qS,qS,wD,.nils],q8 4 5 15] [qG 16 4 5,wM 17,wS 18 jw 16 17]) (xT 19 12 12 19))))⟩
theorem Cf:al Tryz.prog jw=some sO:=by kernel_rfl
def fS:FK:=⟨25,[.t 4,.t 5],xh [xf,wh 5] (qN 0 (xb [wn 8,qb 9 (.pnil 0 true (.t 8))] 9 0 1 (qL [wn 15,wt 16 15,wP 17 16,qq 18 17,wM 19,qb 20 (.lk 1 qS true (.t 18) (.t 19)),qe 14 20,w8 21 0 14,w8 22 1 14,qe 6 21,qe 7 22] [qe 23 7] (qT 23 [yc 24,qe 4 24,qc 5 wo])) [wn 10,wt 11 10,xl 12 11,qq 13 12,qe 0 13])) (qw [xf,wh 5])⟩
theorem kL:al Tryz.prog aT=some fS:=by kernel_rfl
def gy:FK:=⟨58,[],qL [xB 3 4] [wP 7 3,qq 8 7] (.blk 0 (qd (wW 10 8 2 9 10) (xW 9 (qL [qq 12 1,xk 13 3,qq 14 13,wS 15 aT 12 14,qe 11 15,w8 16 0 11,w8 17 1 11,qe 4 16,qe 5 17] [wU 18,wB 19 18] (xX 19 [qq 20 2,ya 21 20 (qj 3)])) 23 8 13 22 23 (qH 22 (qL [xk 35 3,qq 24 2,wt 25 24,wP 26 25,wP 27 26,qq 28 27,qq 29 2,wt 30 29,xl 31 30,qq 32 31,qb 33 (.slS 3 (.t 28) none (some (.t 32))),xu 34 yb [xG 0 33],qq 36 35,wS 37 iO 34 36,qe 6 37] [yc 38,xK 39 38 0] (wZ 39 (.reg [qq 40 2,ya 41 40 (qj 4)]) [yc 47,yf 52 3,qq 42 2,wt 43 42,wP 44 43,wP 45 44,qq 46 45,wd 48 3 46 47,xl 49 48,qq 50 49,qX 51 50,qq 53 52,qX 54 53,qZ 55 .neq 51 54] (xX 55 [qq 56 2,ya 57 56 (qj 5)])))))))⟩
theorem nu:al Tryz.prog bE=some gy:=by kernel_rfl
def eD:FK:=⟨9,[],yr [xB 3 1,wl 4 4 1,wl 5 1 2] [qG 6 4 4,qb 7 (xJ bE (wQ 5 (.t 3))),wS 8 jw 6 7]⟩
theorem pm:al Tryz.prog cT=some eD:=by kernel_rfl
def dM:AK:=qd [wM 14,qX 15 14,wy 16] (qN 0 (ye [ww 17 16 15] 17 0 1 (qd [wd 18 5 14 16,qG 19 5 18,wb 7 [qS,wD,.nils,.nils,.nils],q8 5 7 19] (qx [xk 20 7,qq 21 20,qX 22 21,wy 23] (qN 2 (ye [ww 24 23 22] 24 2 3 (yr [wd 25 4 21 23,qG 26 4 25,wb 9 [qS,qS,wD,.nils],q8 4 9 26] [wn 27,qG 28 4 9,qe 29 2,qp 30 cT (x9 27 (.t 28) 29)]) (xT 31 23 23 31))) (.cut (qd [wP 32 7,qq 33 32] (.blk 4 (qd (wW 35 33 1 34 35) (xW 34 (qx [qe 37 2,wt 38 37,wP 39 38,xl 41 7,qq 40 39,qq 42 41,qb 43 (.lk 1 qS true (.t 40) (.t 42)),qe 36 43,w8 44 0 36,w8 45 1 36,qe 10 44,qe 11 45] (qd [qe 46 11] (xX 46 [wn 47,ya 48 47 (qj 2)])) (.reg [qe 49 2,wt 50 49,wP 51 50,xl 53 7,qq 52 51,qq 54 53,qO (.mup 1 (.t 52) (.t 54) wx)])) 56 33 2 55 56 (qH 55 (qL [qe 58 2,xl 59 7,qq 60 59,wS 61 aT 58 60,qe 57 61,w8 62 0 57,w8 63 1 57,qe 12 62,qe 13 63] [qe 64 13,wB 65 64] (xX 65 [wn 66,ya 67 66 (qj 3)]))))))) (qd [wP 68 7,qq 69 68,wu 70 69 5,qe 71 70,wL 72 71 0 7,wG 73 71 72,xE 74 71 .eql 73 (qj 6),xo 75 71 74] (qH 75 (yr [wn 76,yf 77 7,qe 79 2,qq 78 77,wK 80 aU 79,xy 77 78,qp 81 bm (x9 76 (.t 78) 80)] [wn 82,qt 83 4 7,qe 85 2,qq 84 83,wK 86 aU 85,xy 83 84,qp 87 bm (x9 82 (.t 84) 86)])))))) (xT 88 16 16 88)))
def dY:FK:=⟨89,[],(AK.whole dM)⟩
theorem ou:al Tryz.prog bm=some dY:=by kernel_rfl
def eG:AK:=xQ [xB 1 1,xD] [yq 11 1,wK 12 eO 11,wB 13 12] 13 (xU 2 1) (yt [yq 14 1,xu 15 [.nils,qS,qS] [xG 0 14],wl 16 3 15,qe 3 16] [wP 17 1,qq 18 17,qX 19 18,wy 20] 0 (ye [ww 21 20 19] 21 0 1 (qL [qe 22 20,wd 23 3 18 20,qG 24 3 23,wb 5 [wD,.nils,.nils],qe 4 22,q8 3 5 24] [x7 25,xv 26,wt 27 25,xl 28 27,xw 28 26] (.cut (qd [yq 29 1,wP 30 5,qq 31 30,wS 32 iO 29 31,xv 33,ww 34 32 33] (xX 34 [x7 35,ya 36 35 (qj 2)])) (qd (wI (qp 37 aU [.c .nilp]) 6 37) (qx [xl 38 5,qq 39 38,qX 40 39,wy 41] (qN 2 (ye [ww 42 41 40] 42 2 3 (qd (xM (wd 43 1 39 41) (qq 44 43) 8 44) (qx [yc 46,wt 47 46,wP 48 47,qq 49 48,yi 50,qb 51 (.lk 1 qS true (.t 49) (.t 50)),qe 45 51,w8 52 0 45,w8 53 1 45,qe 9 52,qe 10 53] (qd [yu 54] (xX 54 [x7 55,ya 56 55 (qj 2)])) (.reg [yc 57,wt 58 57,wP 59 58,qq 60 59,yi 61,qO (.mup 1 (.t 60) (.t 61) wx)]))) (xT 62 41 41 62))) (.reg [x7 63,xk 64 5,qq 65 64,yc 66,qp 67 bm (x9 63 (.t 65) 66)]))))) (xT 68 20 20 68)) [x7 69,wt 70 69,xk 71 70,qq 72 71,qe 2 72])
def eF:FK:=⟨73,xg,(AK.whole eG)⟩
theorem pF:al Tryz.prog eB=some eF:=by kernel_rfl
def ul:FK:=⟨6,xg,w7 [xB 1 1,xA] [yq 3 1,wK 4 eB 3,wu 5 4 0,wU 2]⟩
theorem CX:al Tryz.prog nE=some ul:=by kernel_rfl
def fL:FK:=⟨22,wX,qL [qc 4 xt] [qc 5 xt] (wV [wn 8,qX 9 8,wy 10] 0 (ye [ww 11 10 9] 11 0 1 (yr [wd 12 3 8 10,qG 13 3 12,wb 7 [wD,.nils,.nils],q8 3 7 13] [wU 14,wM 15,qG 16 3 7,qb 17 (xS 15 (wJ 16)),wE 18 3 [qS,qS,.nils] 1 [xx 0 3 17],qb 19 (yl 3 40 14 (.t 18)),qe 5 19]) (xT 20 10 10 20)) (wI (wU 21) 4 21))⟩
theorem mf:al Tryz.prog bP=some fL:=by kernel_rfl
def cY:FK:=⟨10,xg,qd [xD] (wv [wn 3] (.blk 0 (qd (wW 5 3 1 4 5) (xW 4 (qw (xU 2 1)) 7 3 2 6 7 (xW 6 (qw (xU 2 2)) 9 3 3 8 9 (qT 8 [xD]))))) (xZ 2))⟩
theorem tO:al Tryz.prog hZ=some cY:=by kernel_rfl
def lE:FK:=⟨9,xg,w7 [xA] [wn 3,wu 4 3 2,xv 5,xc 6 5 0,xE 7 5 .eql 6 (qj 3),xo 8 5 7,yi 2]⟩
theorem Ai:al Tryz.prog iF=some lE:=by kernel_rfl
def gu:FK:=⟨19,wX,yt [xf] [wn 6,qX 7 6,wy 8] 0 (ye [ww 9 8 7] 9 0 1 (qL (wI (yi 10) 5 10) [wM 11,x6,wU 13,wd 14 1 12 13,qq 15 14,qb 16 (xS 11 (wJ 15))] (qT 16 (wI (wU 17) 4 17))) (xT 18 8 8 18)) x4⟩
theorem mK:al Tryz.prog dq=some gu:=by kernel_rfl
def eA:FK:=⟨9,wX,w7 xF [wn 5,wM 6,wS 7 dq 5 6,qy 8 .geq 7 0,yi 4]⟩
theorem kD:al Tryz.prog aZ=some eA:=by kernel_rfl
def dJ:FK:=⟨19,wX,yt [xf] [wn 6,qX 7 6,wy 8] 0 (ye [ww 9 8 7] 9 0 1 (qL (wI (yi 10) 5 10) [wM 11,x6,wU 13,wd 14 4 12 13,qG 15 4 14,qb 16 (xS 11 (wJ 15))] (qT 16 (wI (wU 17) 4 17))) (xT 18 8 8 18)) x4⟩
theorem jz:al Tryz.prog cb=some dJ:=by kernel_rfl
def dc:FK:=⟨9,wX,w7 xF [wn 5,wM 6,wS 7 cb 5 6,qy 8 .geq 7 0,yi 4]⟩
theorem gV:al Tryz.prog bH=some dc:=by kernel_rfl
def kh:FK:=⟨19,wX,yt [xf] [wn 6,qX 7 6,wy 8] 0 (ye [ww 9 8 7] 9 0 1 (qL (wI (yi 10) 5 10) [wM 11,x6,wU 13,wd 14 1 12 13,qq 15 14,qZ 16 .eql 11 15] (qT 16 (wI (wU 17) 4 17))) (xT 18 8 8 18)) x4⟩
theorem rp:al Tryz.prog fv=some kh:=by kernel_rfl
def gD:FK:=⟨9,wX,w7 xF [wn 5,wM 6,wS 7 fv 5 6,qy 8 .geq 7 0,yi 4]⟩
theorem np:al Tryz.prog dD=some gD:=by kernel_rfl
def nB:FK:=⟨33,wX,qL [xB 2 3,qc 4 xt] [qc 5 xt] (w6 [wM 8,xk 9 2,qq 10 9,qX 11 10,yn 12 11 1,xC 13 (x9 8 wx 12),wB 14 13] 14 [qc 4 xt] (wV [xk 15 2,qq 16 15,qX 17 16,wy 18] 0 (ye [ww 19 18 17] 19 0 1 (qL [qe 20 18,wd 21 5 16 18,qG 22 5 21,wb 7 [.nils,.nils,qS,qS,.nils],qe 6 20,q8 5 7 22] [qt 23 4 7,qq 24 23,wM 25,wS 26 dD 24 25] (xX 26 [wU 27,yc 28,wE 29 1 [qS] 1 [xG 0 28],qb 30 (yl 1 8 27 (.t 29)),qe 5 30])) (xT 31 18 18 31)) (wI (wU 32) 4 32)))⟩
theorem vR:al Tryz.prog gq=some nB:=by kernel_rfl
def mZ:FK:=⟨9,wT 3,w7 [wh 3] [wn 4,xl 5 1,qq 6 5,yn 7 6 1,xC 8 (x9 4 wx 7),yi 3]⟩
theorem uU:al Tryz.prog bC=some mZ:=by kernel_rfl
def ng:FK:=⟨11,wT 3,w7 [wh 3] [wn 4,xk 5 1,qq 6 5,qX 7 6,yn 8 7 1,xC 9 (x9 4 xa 8),wB 10 9,yu 3]⟩
theorem uN:al Tryz.prog iU=some ng:=by kernel_rfl
def sU:FK:=⟨5,xg,w7 [xA] [wn 3,xC 4 (ym 3 xa 14),xv 2]⟩
theorem Ch:al Tryz.prog jx=some sU:=by kernel_rfl
def uo:FK:=⟨13,xg,w7 [xA] [wn 3,wK 4 jx 3,xv 5,yj 6 5 0,xm 7 5 .neq 6 (qj 12),xY 8 5 7,yi 9,yj 10 9 0,xm 11 9 .neq 10 (qj 13),xY 12 9 11,qe 2 12]⟩
theorem Ej:al Tryz.prog kW=some uo:=by kernel_rfl
def cw:FK:=⟨11,xg,qd [xD] (wv [wn 3] (.blk 0 (qd (wW 5 3 1 4 5) (qo 4 (qw [xD]) (qx (wW 7 3 2 6 7) (xW 6 .skip 8 3 10 6 8 (xW 6 .skip 9 3 11 6 9 (qo 6 .skip (.reg (wW 10 3 13 6 10))))) (qT 6 (xU 2 1)))))) (xU 2 2))⟩
theorem vS:al Tryz.prog jP=some cw:=by kernel_rfl
def nW:FK:=⟨9,wT 3,w7 [wh 3] [wn 4,xl 5 1,qq 6 5,yn 7 6 1,xC 8 (x9 4 wx 7),yi 3]⟩
theorem zB:al Tryz.prog db=some nW:=by kernel_rfl
def ov:FK:=⟨8,wT 3,w7 [wh 3] [qq 4 1,wn 5,qb 6 (xS 4 (wJ 5)),wB 7 6,qe 3 7]⟩
theorem yB:al Tryz.prog jR=some ov:=by kernel_rfl
def mJ:AK:=qL [xB 3 1,wl 5 4 2,yp] [wP 9 3,qq 10 9,wM 11,wd 12 3 10 11,qG 13 3 12,wb 7 [qS,qS,.nils],q8 3 7 13] (qd [qb 14 (xJ db (wJ 7)),wb 8 [.nilf],xw 8 14] (xV (xq [wP 15 5,qq 16 15,wK 17 jx 16,wB 18 17,qe 19 18,wL 20 19 2 5,wG 21 19 20,qD 22 19 (xJ jR (wJ 8)),xd 23 19 aZ (wQ 21 (.t 22)),xo 24 19 23] 24 [yp]) (xq [wP 25 5,qq 26 25,wK 27 kW 26,qe 28 27,wH 29 28 8,wN 30 28 1 5,wH 31 28 30,qF 32 28 (xS 29 (wJ 31)),qF 33 28 (qR 32),xY 34 28 33,qe 35 34,wL 36 35 0 5,wG 37 35 36,xd 38 35 kW (wJ 37),xL 39 35 38,xc 40 35 39,wN 41 40 1 5,wH 42 40 41,xm 43 40 .neq 42 (qj (-1)),qD 44 35 (qJ 40 (.t 43) qB),xo 45 35 44] 45 [yp]) (wv [wP 46 5,qq 47 46] (.blk 0 (qd (wW 49 47 1 48 49) (xW 48 (qw [xk 50 5,qq 51 50,qX 52 51,wu 53 52 0,qe 54 53,wN 55 54 3 5,wH 56 54 55,qF 57 54 (.call iz (wJ 56)),xY 58 54 57,qe 6 58]) 60 47 14 59 60 (qT 59 [yf 61 5,wM 63,yn 64 63 1,qq 62 61,xC 65 (x9 62 wx 64),qe 66 65,wN 67 66 2 5,wN 70 66 0 3,wN 72 66 3 5,wH 68 66 67,qF 69 66 (qP 68),wH 71 66 70,wH 73 66 72,qF 74 66 (qI 3 71 (.t 73)),wN 75 66 0 74,wH 76 66 75,xm 77 66 .eql 69 (.t 76),xY 78 66 77,qe 6 78])))) [yf 79 5,qq 80 79,wu 81 80 0,qe 82 81,wN 83 82 2 5,wN 86 82 0 5,wH 84 82 83,qF 85 82 (qP 84),wH 87 82 86,qF 88 82 (.qcall jP (wJ 87)),xm 89 82 .eql 85 (.t 88),xY 90 82 89,qe 6 90])))
def mE:FK:=⟨91,wT 6,(AK.whole mJ)⟩
theorem BH:al Tryz.prog mQ=some mE:=by kernel_rfl
def nk:FK:=⟨10,wX,w7 [xB 3 4,wz] [yq 5 1,qq 6 2,qG 7 4 3,qp 8 mQ (x9 5 (.t 6) 7),wB 9 8,qe 4 9]⟩
theorem uZ:al Tryz.prog jc=some nk:=by kernel_rfl
def nb:FK:=⟨8,wT 3,w7 [wh 3] [qq 4 1,wn 5,qb 6 (xS 4 (wJ 5)),wB 7 6,qe 3 7]⟩
theorem vc:al Tryz.prog iW=some nb:=by kernel_rfl
def ln:AK:=qL [xB 2 1,wl 3 1 1,wz] [wP 12 2,qq 13 12,qq 14 3,wd 15 3 13 14,qG 16 3 15,wb 5 [qS,qS,.nils],q8 3 5 16] (.cut (xq [xl 17 5,qq 18 17,xC 19 (ym 18 wx 300),wB 20 19,qe 21 20,wL 22 21 0 5,wG 23 21 22,wL 24 21 1 5,wG 25 21 24,qD 26 21 (.mn (qj 3) (.t 25)),xd 27 21 cQ (x9 23 wx 26),xL 28 21 27,xo 29 21 28,qe 30 29,wL 31 30 2 5,wG 32 30 31,qD 33 30 (qP 32),xd 34 30 cQ (ym 33 xa 160),xL 35 30 34,xo 36 30 35] 36 xF) (yt [qb 37 (xJ bC (wJ 5)),wb 6 [.nilf],xw 6 37] [xk 38 5,qq 39 38,qX 40 39,wy 41] 0 (ye [ww 42 41 40] 42 0 1 (qd [qe 43 41,wd 44 5 39 41,qG 45 5 44,wb 8 [.nils,.nils,qS,qS,.nils],qe 7 43,q8 5 8 45] (xV (xq [qt 46 4 8,xk 49 8,qq 47 46,qX 48 47,qq 50 49,wK 51 hZ 50,xy 46 47,qZ 52 .neq 48 51,qe 53 52,wL 54 53 2 8,wG 55 53 54,xd 56 53 iF (wJ 55),xc 57 53 56,wN 59 57 3 8,wH 58 57 6,wH 60 57 59,qF 61 57 (xS 58 (wJ 60)),qF 62 57 (qR 61),qD 63 53 (qJ 57 (.t 62) qB),xo 64 53 63,qe 65 64,wL 66 65 2 8,wG 67 65 66,xd 68 65 iF (wJ 67),xL 69 65 68,xc 70 65 69,wN 71 70 3 8,wH 72 70 71,xm 73 70 .neq 72 wx,qD 74 65 (qJ 70 (.t 73) qB),xo 75 65 74] 75 xF) (xq [qt 76 4 8,qq 77 76,qb 78 (xJ iU (wJ 5)),wS 79 aZ 77 78,qe 80 79,wL 81 80 1 8,wG 82 80 81,qD 83 80 (xJ jc (wQ 2 (.t 3))),xd 84 80 bH (wQ 82 (.t 83)),xo 85 80 84] 85 xF) (.cut (.reg [qG 86 3 5,qe 87 7,wS 88 gq 86 87,qX 89 88,qe 9 89]) (qd [wP 90 8,qq 91 90,qX 92 91,wy 93] (qN 2 (ye [ww 94 93 92] 94 2 3 (qL [wd 95 2 91 93,qG 96 2 95,wb 11 [qS,.nils],q8 2 11 96] [qe 97 7,wu 98 97 0,qe 99 98,wG 100 99 6,wL 101 99 0 11,wG 102 99 101,qD 103 99 (xS 100 (wJ 102)),xL 104 99 103,xo 105 99 104,qe 106 105,wL 107 106 1 11,wG 108 106 107,qD 109 106 (qP 108),xc 110 106 9,xE 111 106 .neq 109 (.t 110),xo 112 106 111,qe 113 112,wL 114 113 1 11,wG 115 113 114,qD 116 113 (xJ iW (wJ 6)),xd 117 113 aZ (wQ 115 (.t 116)),xo 118 113 117] (qT 118 xF)) (xT 119 93 93 119))))))) (xT 120 41 41 120)) [qc 4 wo]))
def lh:FK:=⟨121,wX,(AK.whole ln)⟩
theorem Ap:al Tryz.prog lC=some lh:=by kernel_rfl
def mv:FK:=⟨24,xg,qL [xB 1 3,xD] [wy 3] (wV [xk 6 1,qq 7 6,qX 8 7,wy 9] 0 (ye [ww 10 9 8] 10 0 1 (yr [wd 11 5 7 9,qG 12 5 11,wb 5 [.nils,.nils,qS,qS,.nils],q8 5 5 12] [x7 13,wP 14 5,qq 15 14,qX 16 15,xl 17 5,qq 18 17,qX 19 18,qZ 20 .add 16 19,qZ 21 .add 13 20,qe 3 21]) (xT 22 9 9 22)) (wI (x7 23) 2 23))⟩
theorem tN:al Tryz.prog eb=some mv:=by kernel_rfl
def lO:FK:=⟨30,xg,xQ [xB 1 1,xA] [wP 6 1,qq 7 6,qX 8 7,xC 9 (ym 8 xa 4),wB 10 9] 10 [xA] (yt [wy 3] [wP 11 1,qq 12 11,qX 13 12,wy 14] 0 (ye [ww 15 14 13] 15 0 1 (xQ [qe 16 14,wd 17 3 12 14,qG 18 3 17,wb 5 [qS,qS,.nils],qe 4 16,q8 3 5 18] [yq 19 1,xv 20,wS 21 lC 19 20,wB 22 21] 22 [xA] (.reg [x7 23,qG 24 3 5,wK 25 eb 24,qZ 26 .add 23 25,qe 3 26])) (xT 27 14 14 27)) (xM (x7 28) (qy 29 .leq 28 800) 2 29))⟩
theorem tu:al Tryz.prog eg=some lO:=by kernel_rfl
def fU:FK:=⟨10,[],qL [xB 3 5] [wP 5 3,qq 6 5,wu 7 6 1] (xX 7 [qq 8 2,xj 9 8,xw 2 9])⟩
theorem sj:al Tryz.prog dE=some fU:=by kernel_rfl
def mX:FK:=⟨12,xg,qL [xB 1 3,xD] [xl 4 1,qq 5 4,qX 6 5,wb 3 [qS],xw 3 6] (w7 [xk 7 1,qq 8 7,qb 9 (xJ dE (wJ 3)),qp 10 er (x9 8 xa 9)] (wI (qq 11 3) 2 11))⟩
theorem ve:al Tryz.prog je=some mX:=by kernel_rfl
def dW:FK:=⟨24,[.t 4],
 .seq (.reg [⟨(some 4),none,.mov (.c (.p (.int .i64 0)))⟩])
 (.seq (.reg [⟨(some 6),none,.mov (.t 0)⟩,
   ⟨(some 7),none,.nilck (.t 6)⟩,
   ⟨(some 8),none,.fldA 1 (.t 7)⟩,
   ⟨(some 9),none,.fldA 2 (.t 8)⟩,
   ⟨(some 10),none,.ld none (.t 9)⟩,
   ⟨(some 11),none,.len false (.t 10)⟩,
   ⟨(some 5),none,.mov (.t 11)⟩])
 (.seq (.reg [⟨(some 12),none,.mov (.t 0)⟩,
   ⟨(some 13),none,.mov (.t 0)⟩,
   ⟨(some 14),none,.nilck (.t 13)⟩,
   ⟨(some 15),none,.fldA 1 (.t 14)⟩,
   ⟨(some 16),none,.fldA 2 (.t 15)⟩,
   ⟨(some 17),none,.ld none (.t 16)⟩,
   ⟨(some 18),none,.mov (.t 1)⟩,
   ⟨(some 19),none,.appz 5 88 [.nils,.nils,(.p (.int .i64 0)),(.p (.int .i64 0)),.nils] (.t 17) (.t 18)⟩,
   ⟨(some 20),none,.nilck (.t 12)⟩,
   ⟨(some 21),none,.fldA 1 (.t 20)⟩,
   ⟨(some 22),none,.fldA 2 (.t 21)⟩,
   ⟨none,none,.st 1 (.t 22) (.t 19)⟩])
 (.seq (.reg [⟨(some 23),none,.mov (.t 5)⟩,
   ⟨(some 4),none,.mov (.t 23)⟩])
 (.ret))))⟩
theorem iR:al Tryz.prog aQ=some dW:=by kernel_rfl
def jg:FK:=⟨37,[],qL [wn 11,wt 12 11,xl 13 12,xk 14 13,wn 16,wt 17 16,qt 18 4 17,qq 15 14,qq 19 18,wd 20 5 15 19,qe 10 20] [yu 21,yu 22,yu 23,wM 24,qe 25 2,xv 26,wt 27 21,xk 28 27,xw 28 24,wt 29 22,yf 30 29,xw 30 25,wt 31 23,qt 32 4 31,xw 32 26] (.reg [wn 33,x7 34,wt 35 33,qt 36 4 35,xw 36 34])⟩
theorem pq:al Tryz.prog eS=some jg:=by kernel_rfl
def jj:FK:=⟨18,xg,qL [xD] [wn 3,wt 4 3,xl 5 4,xl 6 5,qq 7 6,xj 8 7,wt 9 3,xl 10 9,xl 11 10,xw 11 8] (qw [x6,wt 13 12,xl 14 13,xl 15 14,qq 16 15,yn 17 16 1,qe 2 17])⟩
theorem px:al Tryz.prog eX=some jj:=by kernel_rfl
def eM:FK:=⟨25,[],qL [wl 3 4 1] [wn 5,wt 6 5,xl 7 6,xk 8 7,wn 10,wt 11 10,qt 12 4 11,qq 9 8,qq 13 12,wd 14 5 9 13,qe 4 14] (.reg [xv 15,xv 16,wt 17 16,xl 18 17,qq 19 18,qG 20 4 3,wE 21 4 [qS,qS,.nils,qS] 1 [xx 0 4 20],xy 18 19,qb 22 (yl 4 48 19 (.t 21)),wt 23 15,xl 24 23,xw 24 22])⟩
theorem pi:al Tryz.prog aS=some eM:=by kernel_rfl
def iI:FK:=⟨20,wT 8,qL [wy 8] (xM (wn 10) (wK 11 eX 10) 9 11) (w7 [x6,wM 13,qe 14 9,x7 15,qe 16 2,xu 17 [qS,qS,.nils,qS] [xG 0 13,xG 1 14,xG 2 15,xG 3 16],wS 18 aS 12 17] (wI (qe 19 9) 8 19))⟩
theorem nD:al Tryz.prog dZ=some iI:=by kernel_rfl
def lb:FK:=⟨22,wX,qL [qc 4 xt] [qc 5 xt] (wV [wn 8,qX 9 8,wy 10] 0 (ye [ww 11 10 9] 11 0 1 (yr [wd 12 4 8 10,qG 13 4 12,wb 7 [qS,qS,wD,.nils],q8 4 7 13] [wU 14,wM 15,qG 16 4 7,qb 17 (xS 15 (wJ 16)),wE 18 1 [qS] 1 [xG 0 17],qb 19 (yl 1 8 14 (.t 18)),qe 5 19]) (xT 20 10 10 20)) (wI (wU 21) 4 21))⟩
theorem rT:al Tryz.prog dG=some lb:=by kernel_rfl
def fY:FK:=⟨9,wX,w7 [xB 3 4,xf] [qq 5 1,qG 6 4 3,qq 7 2,qp 8 aW (x9 5 (.t 6) 7),yi 4]⟩
theorem mO:al Tryz.prog dj=some fY:=by kernel_rfl
def bO:FK:=⟨112,wT 6,qd [xB 3 1,wl 4 4 1,wl 5 1 2,wy 6] (qx [wP 15 4,qq 16 15] (.blk 0 (qd (wW 18 16 1 17 18) (xW 17 (qw [qq 19 3,xl 20 4,qq 21 20,xz 22 [.t 19,xa,.t 21,xt],qe 6 22]) 24 16 2 23 24 (xW 23 (w7 [qq 26 5,xk 27 4,qq 28 27,wS 29 aT 26 28,qe 25 29,w8 30 0 25,w8 31 1 25,qe 7 30,qe 8 31] (wI (qe 32 7) 6 32)) 34 16 10 33 34 (qH 33 (yk [yf 36 4,qq 35 3,qq 37 36,q9 38 4 37 wx,qG 39 4 38,qq 40 5,qp 41 aW (x9 35 (.t 39) 40),qe 9 41] (xM (qq 42 3) (xz 43 [.t 42,xa,wx,xt]) 10 43) (xM (qq 44 3) (wR 45 aQ 44 (qj 2)) 11 45) [qq 46 3,qe 47 9,qe 48 11,qe 49 11,qe 50 11,xj 51 50,wE 52 1 [qS] 2 [xG 0 49,xG 1 51],xn 53 [.t 46,qj 2,.t 47,.t 48,.t 52]] (yk [yf 55 4,qq 54 3,qq 56 55,q9 57 4 56 xa,qG 58 4 57,qq 59 5,qp 60 aW (x9 54 (.t 58) 59),qe 12 60] [qq 61 3,qe 62 12,wE 63 1 [qS] 1 [xG 0 62],xz 64 [.t 61,qj 10,wx,.t 63],qe 13 64] [qq 65 3,yu 66,qe 67 13,wE 68 1 [qS] 1 [xG 0 67],xu 69 [qS,qS,.nils,qS] [(0,1,qj 10),xG 1 66,xG 2 68,(3,1,wx)],wS 70 aS 65 69] [qq 71 3,qe 72 11,xj 73 72,qe 74 11,xj 75 74,wE 76 1 [qS] 1 [xG 0 75],xn 77 [.t 71,xa,wx,.t 73,.t 76]] (qw (wI (yu 78) 6 78))))))))) (qd [yf 79 4,qq 80 79,qb 81 (xJ dj (wQ 3 (.t 5))),wS 82 dG 80 81,qe 14 82] (wv [wP 83 4,qq 84 83] (.blk 1 (qd (wW 86 84 11 85 86) (xW 85 (qw [qq 87 3,qe 88 14,xz 89 [.t 87,qj 10,wx,.t 88],qe 6 89]) 91 84 12 90 91 (xW 90 (qw [qq 92 3,qe 93 14,xz 94 [.t 92,qj 11,wx,.t 93],qe 6 94]) 96 84 13 95 96 (qT 95 [xk 102 4,qe 105 14,qq 97 3,qq 98 3,wt 99 98,wP 100 99,yq 101 100,qq 103 102,wS 104 iO 101 103,xy 3 97,xz 106 [.t 97,qj 14,.t 104,.t 105],qe 6 106]))))) [qq 107 3,wP 108 4,qq 109 108,qe 110 14,xz 111 [.t 107,.t 109,wx,.t 110],qe 6 111])))⟩
theorem oO:al Tryz.prog aW=some bO:=by kernel_rfl
def fH:FK:=⟨9,wX,w7 [xB 3 4,xf] [qq 5 1,qG 6 4 3,qq 7 2,qp 8 aW (x9 5 (.t 6) 7),yi 4]⟩
theorem mt:al Tryz.prog cW=some fH:=by kernel_rfl
def gA:FK:=⟨176,[],qL [xB 4 1,wl 6 1 2] [wM 16,qX 17 16,wy 18] (qN 0 (ye [ww 19 18 17] 19 0 1 (qd [wd 20 5 16 18,qG 21 5 20,wb 9 [qS,wD,.nils,.nils,.nils],q8 5 9 21] (qx [wP 22 9,qq 23 22,wu 24 23 6] (qH 24 (yk (xM (qq 25 4) (wR 26 aQ 25 (qj 3)) 10 26) [qq 27 4,yu 28,yu 29,wE 30 1 [qS] 1 [xG 0 29],xn 31 [.t 27,xa,wx,.t 28,.t 30]] [xk 33 9,qq 32 4,qq 34 33,q9 35 4 34 wx,qG 36 4 35,qq 37 6,qp 38 aW (x9 32 (.t 36) 37),qe 11 38] [qq 39 4,qe 40 11,yu 41,xj 42 41,yu 43,xj 44 43,yu 45,wg 46 45 2,wE 47 1 [qS] 2 [xG 0 44,xG 1 46],xn 48 [.t 39,qj 2,.t 40,.t 42,.t 47]] (qL [yf 50 9,x7 54,qq 49 4,qq 51 50,qq 52 6,wK 53 aU 52,xy 4 49,xy 50 51,qp 55 bf [.t 49,.t 51,.t 53,.t 54]] [qq 56 4,yu 57,wg 58 57 2,yu 59,wE 60 1 [qS] 1 [xG 0 59],xn 61 [.t 56,xa,wx,.t 58,.t 60]] (.exit 1)))) (qL [xk 62 9,qq 63 62,qb 64 (xJ cW (wQ 4 (.t 6))),wS 65 dG 63 64,qe 12 65] [wP 66 9,qq 67 66] (.blk 2 (qd (wW 69 67 1 68 69) (xW 68 (qL [xl 74 9,x7 76,wt 77 76,wP 78 77,qq 70 6,wt 71 70,wP 72 71,qq 73 72,qq 75 74,qq 79 78,qO (.mup 1 (.t 73) (.t 75) (.t 79))] [x7 80,wt 81 80,wP 82 81,qq 83 82,xj 84 83,wt 85 80,wP 86 85,xw 86 84] (.reg [xl 92 9,qe 95 12,qq 87 4,qq 88 6,wt 89 88,wP 90 89,qq 91 90,qq 93 92,qb 94 (.lk 1 qS false (.t 91) (.t 93)),xu 96 [qS,qS,.nils,qS] [(0,1,qj 2),xG 1 94,xG 2 95,(3,1,wx)],wS 97 aS 87 96])) 99 67 2 98 99 (xW 98 (yr [qq 101 6,xl 102 9,qq 103 102,wS 104 aT 101 103,qe 100 104,w8 105 0 100,w8 106 1 100,qe 13 105,qe 14 106] [qq 107 4,qe 108 13,qe 109 12,xu 110 [qS,qS,.nils,qS] [(0,1,qj 2),xG 1 108,xG 2 109,(3,1,wx)],wS 111 aS 107 110]) 113 67 3 112 113 (xW 112 (.reg [qq 114 4,qe 115 12,xu 116 [qS,qS,.nils,qS] [(0,1,qj 13),(1,1,qj (-1)),xG 2 115,(3,1,wx)],wS 117 aS 114 116]) 119 67 4 118 119 (xW 118 (.reg [qq 120 4,qe 121 12,xu 122 [qS,qS,.nils,qS] [(0,1,qj 12),(1,1,qj (-1)),xG 2 121,(3,1,wx)],wS 123 aS 120 122]) 125 67 5 124 125 (xW 124 (yk (xM (qq 126 4) (wR 127 aQ 126 (qj 3)) 15 127) [qe 129 12,q9 130 1 129 wx,qe 132 15,qe 133 15,qe 134 15,xj 135 134,qb 136 (.bslP 1 [qS] 2 [xG 0 133,xG 1 135]),qq 128 4,qq 131 130,xn 137 [.t 128,qj 2,.t 131,.t 132,.t 136]] [yf 139 9,x7 143,qq 138 4,qq 140 139,qq 141 6,wK 142 aU 141,xy 4 138,xy 139 140,qp 144 bf [.t 138,.t 140,.t 142,.t 143]] [qq 145 4,qe 146 15,xj 147 146,qe 148 15,wg 149 148 2,wE 150 1 [qS] 1 [xG 0 149],xn 151 [.t 145,xa,wx,.t 147,.t 150]] (yr [qt 153 4 9,x7 157,qq 152 4,qq 154 153,qq 155 6,wK 156 aU 155,xy 4 152,xy 153 154,qp 158 bf [.t 152,.t 154,.t 156,.t 157]] [qq 159 4,qe 160 15,wg 161 160 2,qe 162 15,wg 163 162 2,wE 164 1 [qS] 1 [xG 0 163],xn 165 [.t 159,xa,wx,.t 161,.t 164]])) 167 67 7 166 167 (xX 166 [qe 169 12,q9 170 1 169 wx,qq 168 4,qq 171 170,qq 172 4,wR 173 aQ 172 xa,xy 4 168,xy 170 171,xn 174 [.t 168,qj 3,.t 171,.t 173,xt]]))))))))))) (xT 175 18 18 175)))⟩
theorem nt:al Tryz.prog bf=some gA:=by kernel_rfl
def nP:FK:=⟨65,[.c 4 (some 3)],yk [xB 2 1,wl 3 3 1,wb 4 [qS,qS,.nils]] [yq 9 2,xu 10 [.nils,qS,qS,.nils,qS] [xG 0 9],wl 11 5 10,qe 5 11] [wU 12,wU 13,xl 14 3,qq 15 14,qX 16 15,qG 17 3 3,wK 18 je 17,xy 14 15,wt 19 12,xl 20 19,wP 21 20,xw 21 16,wt 22 13,xl 23 22,xl 24 23,xw 24 18] (wI (qp 25 aU [.c .nilp]) 6 25) (qx [xl 26 3,qq 27 26,qX 28 27,wy 29] (qN 0 (ye [ww 30 29 28] 30 0 1 (yr [qe 31 29,wd 32 1 27 29,qq 33 32,qe 7 31,qe 8 33] [yc 34,wt 35 34,wP 36 35,qq 37 36,yi 38,qe 39 7,qO (.mup 1 (.t 37) (.t 38) (.t 39))]) (xT 40 29 29 40))) (qL [wU 41,wR 42 aQ 41 xa] [wU 43,xk 44 3,qq 45 44,yc 46,xl 47 3,qq 48 47,qX 49 48,xu 50 [qS] [xG 0 49],wl 51 1 50,qp 52 bf [.t 43,.t 45,.t 46,.t 51]] (w7 [wU 53,wU 54,wU 56,wt 57 56,qt 58 4 57,qq 59 58,xz 55 [.t 54,xa,wx,xt],xy 58 59,xn 60 [.t 53,qj 3,.t 55,.t 59,xt]] [wU 61,wt 62 61,xl 63 62,qG 64 3 63,q8 3 4 64])))⟩
theorem zO:al Tryz.prog gm=some nP:=by kernel_rfl
def gC:FK:=⟨7,[.c 3 (some 3)],w7 [xB 2 3,wb 3 [qS,qS,.nils]] [yq 4 1,qG 5 3 2,wS 6 gm 4 5,q8 3 3 6]⟩
theorem nq:al Tryz.prog cD=some gC:=by kernel_rfl
def jh:FK:=⟨19,[.c 2 (some 1),.t 3],xQ [xB 1 1,wb 2 yb,wh 3] [yq 5 1,wK 6 nE 5,wB 7 6] 7 [xu 8 yb [],xw 2 8,wh 3] (qd [wP 9 1,qq 10 9,qb 11 (xJ cD (wJ 1)),wS 12 bP 10 11,xu 13 yb [xG 0 12],wb 4 yb,xw 4 13] (wv [yq 14 4,wK 15 eg 14,wB 16 15] (qT 16 [xu 17 yb [],xw 2 17,wh 3]) [yq 18 4,xw 2 18,qc 3 wo]))⟩
theorem pj:al Tryz.prog bX=some jh:=by kernel_rfl
def kz:FK:=⟨30,wX,qL [xB 2 1,xf] [yq 8 2,wK 9 bX 8,qe 7 9,w8 10 0 7,w8 11 1 7,wb 5 yb,xw 5 10,qe 6 11] (wv [yc 12,wB 13 12,qe 14 13,xc 15 14 1,wL 16 14 0 5,wG 17 14 16,qD 18 14 (qP 17),xE 19 14 .sub 18 xa,xd 20 14 cQ (x9 15 wx 19),xL 21 14 20,xo 22 14 21] (qT 22 x4) [wP 23 5,qq 24 23,wM 25,wd 26 3 24 25,xk 27 26,qq 28 27,qX 29 28,qe 4 29])⟩
theorem rD:al Tryz.prog fG=some kz:=by kernel_rfl
def oz:FK:=⟨4,xg,qd [xD] (wv [wn 3] (qT 3 (xU 2 1)) [xD])⟩
theorem zq:al Tryz.prog jV=some oz:=by kernel_rfl
def lg:FK:=⟨35,xg,qL [xD] [wy 3] (wV [xf] 0 (xO [xv 5,wn 6,qX 7 6,ww 8 5 7] 8 0 1 (.reg [x7 11,x6,xv 13,wd 14 5 12 13,wP 15 14,wn 20,xv 21,wd 22 5 20 21,yf 23 22,wn 27,xv 28,wd 29 5 27 28,qt 30 4 29,qq 16 15,wu 17 16 1,qq 24 23,qq 31 30,wK 18 jV 17,xy 23 24,xy 30 31,qZ 19 .add 11 18,wK 25 fg 24,xy 30 31,qZ 26 .add 19 25,wK 32 fg 31,qZ 33 .add 26 32,qe 3 33]) (xv 9) 10 9 4 10) (wI (x7 34) 2 34))⟩
theorem pP:al Tryz.prog fg=some lg:=by kernel_rfl
def fz:FK:=⟨25,xg,qL [xD] [wn 3,wn 4,wt 5 4,xl 6 5,xk 7 6,qq 8 7,wE 9 2 [qS,.nils] 0 [],wE 10 4 [qS,qS,.nils,qS] 0 [],wE 11 1 [qS] 0 [],xu 12 [.nils,.nils,qS,qS,.nils] [xG 0 9,xG 1 10,xG 4 11],wE 13 5 [.nils,.nils,qS,qS,.nils] 1 [xx 0 5 12],qb 14 (yl 5 88 8 (.t 13)),wt 15 3,xl 16 15,xk 17 16,xw 17 14] (qw [wn 18,wt 19 18,xl 20 19,xk 21 20,qq 22 21,qX 23 22,yn 24 23 1,qe 2 24])⟩
theorem kg:al Tryz.prog cr=some fz:=by kernel_rfl
def kR:FK:=⟨37,[],yk [wn 11,wt 12 11,xl 13 12,xk 14 13,wn 16,wt 17 16,qt 18 4 17,qq 15 14,qq 19 18,wd 20 5 15 19,qe 10 20] [yu 21,wM 22,wt 23 21,xk 24 23,xw 24 22] [yu 25,qe 26 2,wt 27 25,yf 28 27,xw 28 26] [yu 29,x7 30,wt 31 29,qt 32 4 31,xw 32 30] (.reg [wn 33,xv 34,wt 35 33,qt 36 4 35,xw 36 34])⟩
theorem sk:al Tryz.prog bz=some kR:=by kernel_rfl
def kc:FK:=⟨19,xg,qL [xD] [wn 3,wn 4,wt 5 4,xl 6 5,xl 7 6,qq 8 7,xj 9 8,wt 10 3,xl 11 10,xl 12 11,xw 12 9] (qw [wn 13,wt 14 13,xl 15 14,xl 16 15,qq 17 16,yn 18 17 1,qe 2 18])⟩
theorem rL:al Tryz.prog bI=some kc:=by kernel_rfl
def gF:FK:=⟨37,wT 10,qL [wy 10] [x6,wt 13 12,xl 14 13,xk 15 14,wn 17,wt 18 17,qt 19 4 18,qq 16 15,qq 20 19,wd 21 5 16 20,qe 11 21] (w7 [qe 22 11,qe 23 11,wt 24 23,xl 25 24,qq 26 25,wM 27,qe 28 2,xv 29,x7 30,xu 31 [qS,qS,.nils,qS] [xG 0 27,xG 1 28,xG 2 29,xG 3 30],wE 32 4 [qS,qS,.nils,qS] 1 [xx 0 4 31],qb 33 (yl 4 48 26 (.t 32)),wt 34 22,xl 35 34,xw 35 33] (wI (qe 36 2) 10 36))⟩
theorem tJ:al Tryz.prog cg=some gF:=by kernel_rfl
def gJ:FK:=⟨34,wX,yt [xf] [wn 6,wt 7 6,qt 8 5 7,qq 9 8,qX 10 9,yn 11 10 1,qe 5 11] 0 (xb [wU 12,qy 13 .geq 12 0] 13 0 1 (xq [wn 16,wt 17 16,qt 18 5 17,qq 19 18,wU 20,wd 21 3 19 20,wP 22 21,qq 23 22,wM 24,qb 25 (xI .eql 23 (.t 24))] 25 [wn 26,wt 27 26,qt 28 5 27,qq 29 28,wU 30,wd 31 3 29 30,xl 32 31,qq 33 32,qe 4 33]) (xM (wU 14) (yn 15 14 1) 5 15)) x4⟩
theorem tI:al Tryz.prog ee=some gJ:=by kernel_rfl
def mm:FK:=⟨56,wX,yk [wl 3 4 1,xf] [wn 11,yf 12 3,qq 13 12,q9 14 4 13 wx,qG 15 4 14,wS 16 be 11 15,qe 5 16] [wn 17,wn 18,xH 19 18,wE 20 1 [qS] 0 [],xe 21 [.t 17,xa,.t 19,wx,.t 20],qe 6 21] (xM (wn 22) (xp 23 22) 7 23) (yk (xM (wn 24) (xp 25 24) 8 25) [wn 26,wU 27,qe 28 7,yi 29,wE 30 1 [qS] 2 [xG 0 28,xG 1 29],qe 31 7,xr 32 [.t 26,qj 2,.t 27,.t 30,.t 31]] [wn 33,yf 34 3,qq 35 34,q9 36 4 35 xa,qG 37 4 36,wS 38 be 33 37,qe 9 38] [wn 39,wn 40,xH 41 40,qe 42 9,wE 43 1 [qS] 1 [xG 0 42],xe 44 [.t 39,qj 10,.t 41,wx,.t 43],qe 10 44] (qL [wn 45,yc 46,yu 47,wE 48 1 [qS] 1 [xG 0 47],xe 49 [.t 45,qj 10,.t 46,wx,.t 48]] [wn 50,yi 51,wE 52 1 [qS] 1 [xG 0 51],yi 53,xr 54 [.t 50,xa,wx,.t 52,.t 53]] (qw (wI (yc 55) 4 55))))⟩
theorem tG:al Tryz.prog ic=some mm:=by kernel_rfl
def cL:FK:=⟨84,wX,qd [wl 3 4 1,xf] (qx [wP 7 3,qq 8 7] (.blk 0 (qd (wW 10 8 1 9 10) (xW 9 (qw [wn 11,x6,xl 14 3,qb 16 (.bslP 1 [qS] 0 []),qq 15 14,xH 13 12,xy 14 15,xe 17 [.t 11,xa,.t 13,.t 15,.t 16],qe 4 17]) 19 8 2 18 19 (xW 18 (qw [wn 20,xk 21 3,qq 22 21,wS 23 ee 20 22,qe 4 23]) 25 8 10 24 25 (qT 24 [wn 26,qG 27 4 3,wS 28 ic 26 27,qe 4 28]))))) (qd (wI (wE 29 1 [qS] 0 []) 5 29) (qx [wy 6] (qN 1 (xO [yc 30,yf 31 3,qq 32 31,qX 33 32,ww 34 30 33] 34 1 2 (.reg [wU 37,wn 38,yf 39 3,qq 40 39,yc 41,wd 42 4 40 41,qG 43 4 42,wS 44 be 38 43,wE 45 1 [qS] 1 [xG 0 44],qb 46 (yl 1 8 37 (.t 45)),qe 5 46]) (yc 35) 36 35 6 36)) (wv [wP 47 3,qq 48 47] (.blk 3 (qd (wW 50 48 11 49 50) (xW 49 (qw [wn 51,wn 52,xH 53 52,wU 54,xe 55 [.t 51,qj 10,.t 53,wx,.t 54],qe 4 55]) 57 48 12 56 57 (xW 56 (qw [wn 58,wn 59,xH 60 59,wU 61,xe 62 [.t 58,qj 11,.t 60,wx,.t 61],qe 4 62]) 64 48 13 63 64 (qT 63 [wn 65,wn 66,wn 68,wt 69 68,wP 70 69,xk 72 3,wU 75,yq 71 70,qq 73 72,xH 67 66,w9 (some 1) 70 71,xy 72 73,wS 74 iQ 71 73,xe 76 [.t 65,qj 14,.t 67,.t 74,.t 75],qe 4 76]))))) [wn 77,wP 78 3,wn 80,wU 82,qq 79 78,xH 81 80,xy 78 79,xe 83 [.t 77,.t 79,.t 81,wx,.t 82],qe 4 83]))))⟩
theorem sv:al Tryz.prog be=some cL:=by kernel_rfl
def kM:FK:=⟨41,[],yk [wl 3 5 1] (xM (wn 8) (xp 9 8) 4 9) (xM (wn 10) (xp 11 10) 5 11) (xM x6 (xp 13 12) 6 13) (yk [wn 14,xv 15,wE 16 1 [qS] 1 [xG 0 15],xv 17,xr 18 [.t 14,xa,wx,.t 16,.t 17]] [wn 19,xk 20 3,qq 21 20,q9 22 4 21 wx,qG 23 4 22,wS 24 be 19 23,qe 7 24] [wn 25,qe 26 7,wU 27,yc 28,wE 29 1 [qS] 2 [xG 0 27,xG 1 28],wU 30,xr 31 [.t 25,qj 2,.t 26,.t 29,.t 30]] [wn 32,yf 33 3,qq 34 33,wS 35 bk 32 34] (.reg [wn 36,xv 37,wE 38 1 [qS] 1 [xG 0 37],yc 39,xr 40 [.t 36,xa,wx,.t 38,.t 39]]))⟩
theorem sF:al Tryz.prog gk=some kM:=by kernel_rfl
def fO:FK:=⟨132,[],xQ [wl 3 5 1] [wP 9 3,qq 10 9,wu 11 10 6] 11 [x6,qG 13 5 3,wS 14 gk 12 13] (qd (wI (wE 15 1 [qS] 0 []) 4 15) (qx [yh] (qN 0 (xO [wU 16,xk 17 3,qq 18 17,qX 19 18,ww 20 16 19] 20 0 1 (.reg [xv 23,wn 24,xk 25 3,qq 26 25,wU 27,wd 28 4 26 27,qG 29 4 28,wS 30 be 24 29,wE 31 1 [qS] 1 [xG 0 30],qb 32 (yl 1 8 23 (.t 31)),qe 4 32]) (wU 21) 22 21 5 22)) (qd [wP 33 3,qq 34 33] (.blk 2 (qd (wW 36 34 1 35 36) (xW 35 (qL [wn 37,wn 38,wt 39 38,qt 40 6 39,qq 41 40,xv 42,xe 43 [.t 37,qj 2,.t 41,wx,.t 42]] [wn 44,wn 45,wt 46 45,qt 47 5 46,xl 49 3,wn 51,wt 52 51,qt 53 6 52,qq 48 47,qq 50 49,qq 54 53,xu 55 [wD,qS,qS] [xG 0 50,xG 1 54,(2,1,wx)],qb 56 (.bslP 3 [wD,qS,qS] 1 [xx 0 3 55]),qb 57 (yl 3 32 48 (.t 56)),wt 58 44,qt 59 5 58,xw 59 57] (.reg [wn 60,wn 61,wt 62 61,qt 63 6 62,qq 64 63,xj 65 64,wt 66 60,qt 67 6 66,xw 67 65])) 69 34 2 68 69 (xW 68 (.reg [wn 70,wn 71,xl 72 3,qq 73 72,wS 74 ee 71 73,xv 75,xe 76 [.t 70,qj 2,.t 74,wx,.t 75]]) 78 34 3 77 78 (xW 77 (.reg [wn 79,xv 80,xe 81 [.t 79,qj 13,qj (-1),wx,.t 80]]) 83 34 4 82 83 (xW 82 (.reg [wn 84,xv 85,xe 86 [.t 84,qj 12,qj (-1),wx,.t 85]]) 88 34 7 87 88 (xW 87 (.reg [wn 89,xv 90,q9 91 1 90 wx,qb 93 (.bslP 1 [qS] 0 []),wn 94,qq 92 91,xp 95 94,xy 91 92,xr 96 [.t 89,qj 3,.t 92,.t 93,.t 95]]) 98 34 5 97 98 (qH 97 (yk (xM (wn 99) (xp 100 99) 6 100) (xM (wn 101) (xp 102 101) 7 102) (xM (wn 103) (xp 104 103) 8 104) [wn 105,xv 106,q9 107 1 106 wx,qq 108 107,yc 109,qe 110 7,wE 111 1 [qS] 2 [xG 0 109,xG 1 110],yc 112,xr 113 [.t 105,qj 2,.t 108,.t 111,.t 112]] (qL [wn 114,yf 115 3,qq 116 115,wS 117 bk 114 116] [wn 118,yi 119,wE 120 1 [qS] 1 [xG 0 119],qe 121 7,xr 122 [.t 118,xa,wx,.t 120,.t 121]] (yr [wn 123,qt 124 4 3,qq 125 124,wS 126 bk 123 125] [wn 127,yi 128,wE 129 1 [qS] 1 [xG 0 128],yi 130,xr 131 [.t 127,xa,wx,.t 129,.t 130]]))))))))))))))⟩
theorem rY:al Tryz.prog gt=some fO:=by kernel_rfl
def fE:FK:=⟨32,[],qd [wn 6,wt 7 6,qt 8 5 7,qq 9 8,qX 10 9,yu 4] (qx [yh] (qN 0 (xO [wU 11,wM 12,qX 13 12,ww 14 11 13] 14 0 1 (.reg [wn 17,wM 18,wU 19,wd 20 5 18 19,qG 21 5 20,wS 22 gt 17 21]) (wU 15) 16 15 5 16)) (.reg [wn 23,wn 24,wt 25 24,qt 26 5 25,qq 27 26,xv 28,qb 29 (.slS 3 (.t 27) none (some (.t 28))),wt 30 23,qt 31 5 30,xw 31 29]))⟩
theorem rE:al Tryz.prog bk=some fE:=by kernel_rfl
def ug:FK:=⟨80,[.c 4 (some 3)],yk [xB 2 1,wb 4 [qS,qS,.nils]] [wP 9 2,qq 10 9,wM 11,wd 12 3 10 11,qG 13 3 12,wb 5 [wD,.nils,.nils],q8 3 5 13] [yq 14 2,xl 15 5,qq 16 15,qX 17 16,xu 18 [.nils,qS,qS,.nils,qS,.nils,qS,.nils] [xG 0 14,xG 6 17],wl 19 8 18,qe 6 19] [yc 20,xl 21 5,qq 22 21,qX 23 22,wt 24 20,xl 25 24,wP 26 25,xw 26 23] (qd [yc 27,xl 28 5,xk 31 5,qq 29 28,qX 30 29,qq 32 31,wK 33 fg 32,xy 28 29,qZ 34 .add 30 33,wt 35 27,xl 36 35,xl 37 36,xw 37 34] (qx [wy 7] (qN 0 (xO [qe 38 7,xl 39 5,qq 40 39,qX 41 40,ww 42 38 41] 42 0 1 (.reg [yc 45,yc 46,wt 47 46,qt 48 5 47,xl 50 5,qe 52 7,qe 55 7,qq 49 48,qq 51 50,wd 53 1 51 52,qq 54 53,xu 56 [wD,qS,qS] [xG 0 54,xG 1 55,(2,1,wx)],qb 57 (.bslP 3 [wD,qS,qS] 1 [xx 0 3 56]),qb 58 (yl 3 32 49 (.t 57)),wt 59 45,qt 60 5 59,xw 60 58]) (qe 43 7) 44 43 7 44)) (yk [yc 61,xp 62 61] [yc 63,xk 64 5,qq 65 64,wS 66 bk 63 65] [yc 67,yc 68,xH 69 68,wE 70 1 [qS] 0 [],xe 71 [.t 67,xa,.t 69,wx,.t 70],qe 8 71] [yc 72,yi 73,wE 74 1 [qS] 0 [],xr 75 [.t 72,qj 3,.t 73,.t 74,wx]] (qw [yc 76,wt 77 76,xl 78 77,qG 79 3 78,q8 3 4 79]))))⟩
theorem Dn:al Tryz.prog kO=some ug:=by kernel_rfl
def pU:FK:=⟨22,[.c 2 (some 1)],qL [xB 1 1,wb 2 yb] [xu 5 yb [],wb 3 yb,xw 3 5] (wV [xf] 0 (xO [xv 6,wP 7 1,qq 8 7,qX 9 8,ww 10 6 9] 10 0 1 (.reg [wP 13 3,xv 16,qq 14 13,yq 15 1,wS 17 kO 15 16,xy 13 14,qb 18 (.bslP 3 [qS,qS,.nils] 1 [xx 0 3 17]),qb 19 (yl 3 40 14 (.t 18)),wP 20 3,xw 20 19]) (xv 11) 12 11 4 12) [yq 21 3,xw 2 21])⟩
theorem Ao:al Tryz.prog iD=some pU:=by kernel_rfl
def pX:FK:=⟨21,wX,yt [xB 2 3,wz] [yh] 0 (xO [wU 6,wM 7,qX 8 7,ww 9 6 8] 9 0 1 (xq [wM 12,wU 13,wd 14 1 12 13,xl 16 2,qq 15 14,qq 17 16,yn 18 17 1,yg 19 (x9 15 wx 18),wB 20 19] 20 xF) (wU 10) 11 10 5 11) [qc 4 wo]⟩
theorem AQ:al Tryz.prog ip=some pX:=by kernel_rfl
def oF:FK:=⟨13,xg,w7 [xA] [wn 3,yg 4 (ym 3 xa 14),xv 5,yj 6 5 0,xm 7 5 .neq 6 (qj 12),xY 8 5 7,yi 9,yj 10 9 0,xm 11 9 .neq 10 (qj 13),xY 12 9 11,qe 2 12]⟩
theorem zf:al Tryz.prog fQ=some oF:=by kernel_rfl
def cP:FK:=⟨28,xg,qd [xD] (qQ 0 (qd [wn 4,wu 5 4 1,wU 3] (wZ 3 (qw [xD]) [wn 7,wu 8 7 2,yi 9,xc 10 9 0,xE 11 9 .eql 10 (qj 10),xo 12 9 11,qe 13 12,xc 14 13 0,xE 15 13 .eql 14 (qj 11),xo 16 13 15,qe 17 16,xc 18 17 0,xE 19 17 .eql 18 (qj 13),xo 20 17 19,qe 6 20] (wZ 6 (qw (xU 2 1)) [wn 22,yg 23 (ym 22 (qj 3) 9),qe 24 23,xc 25 24 0,xE 26 24 .eql 25 (qj 12),xo 27 24 26,qe 21 27] (qT 21 (xU 2 2))))) (qw (xZ 2)))⟩
theorem AR:al Tryz.prog lD=some cP:=by kernel_rfl
def sY:FK:=⟨88,wT 6,qL [xB 3 1,wl 5 4 2,yp] [wP 8 3,qq 9 8,wM 10,wd 11 3 9 10,qG 12 3 11,wb 7 [qS,qS,.nils],q8 3 7 12] (w6 [wP 13 5,qq 14 13,yg 15 (ym 14 xa 14),wB 16 15,qe 17 16,qD 18 17 (qi (some 3) 7),wL 19 17 2 5,wG 20 17 19,xd 21 17 ip (wQ 18 (.t 20)),xL 22 17 21,xo 23 17 22] 23 [yp] (w6 [wP 24 5,xl 27 5,xl 29 7,qq 25 24,qq 28 27,qq 30 29,yn 31 30 1,wK 26 fQ 25,xy 27 28,xy 29 30,yg 32 (x9 28 wx 31),qb 33 (.beq true (.t 26) (.t 32)),qe 34 33,wL 35 34 0 5,wG 36 34 35,xd 37 34 fQ (wJ 36),xL 38 34 37,xc 39 34 38,wN 40 39 1 5,wH 41 39 40,xm 42 39 .neq 41 (qj (-1)),qD 43 34 (qJ 39 (.t 42) qB),xo 44 34 43] 44 [yp] (wv [wP 45 5,qq 46 45,wu 47 46 14] (qT 47 [yf 48 5,wM 50,yn 51 50 1,qq 49 48,yg 52 (x9 49 wx 51),qe 53 52,wN 54 53 2 5,wN 57 53 0 3,wN 59 53 3 5,wH 55 53 54,qF 56 53 (qP 55),wH 58 53 57,wH 60 53 59,qF 61 53 (qI 3 58 (.t 60)),wN 62 53 0 61,wH 63 53 62,xm 64 53 .eql 56 (.t 63),xY 65 53 64,qe 6 65]) [xk 66 5,wP 69 5,qq 67 66,qX 68 67,qq 70 69,wK 71 lD 70,xy 66 67,qZ 72 .eql 68 71,qe 73 72,wN 74 73 3 5,wH 75 73 74,qF 76 73 (.call fK (ym 75 wx 255)),xY 77 73 76,qe 78 77,wN 79 78 3 5,wH 80 78 79,xm 81 78 .eql 80 wx,yj 82 78 81,wL 83 82 0 5,wG 84 82 83,xE 85 82 .eql 84 xa,qF 86 78 (qJ 82 wo (.t 85)),xY 87 78 86,qe 6 87])))⟩
theorem Cq:al Tryz.prog mW=some sY:=by kernel_rfl
def nJ:FK:=⟨43,wX,qL [xB 2 3,qc 4 xt] (wI (wE 8 1 [qS] 0 []) 5 8) (wV [wy 6] 0 (xO [yc 9,xk 10 2,qq 11 10,qX 12 11,ww 13 9 12] 13 0 1 (qd [wy 7] (qN 2 (xO [qe 16 7,xk 17 2,qq 18 17,yc 19,wd 20 5 18 19,qt 21 4 20,qq 22 21,qX 23 22,ww 24 16 23] 24 2 3 (qd [xk 27 2,qq 28 27,yc 29,wd 30 5 28 29,qt 31 4 30,qq 32 31,qe 33 7,wd 34 1 32 33,qq 35 34,wM 36,qZ 37 .eql 35 36] (qH 37 (qd [wU 38,yc 39,wE 40 1 [qS] 1 [xG 0 39],qb 41 (yl 1 8 38 (.t 40)),qe 5 41] (.exit 2)))) (qe 25 7) 26 25 7 26))) (yc 14) 15 14 6 15) (wI (wU 42) 4 42))⟩
theorem zI:al Tryz.prog gn=some nJ:=by kernel_rfl
def ky:AK:=yk [xB 3 1,yp] [wP 14 3,qq 15 14,wM 16,wd 17 3 15 16,qG 18 3 17,wb 7 [qS,qS,.nils],q8 3 7 18] [xk 19 7,qq 20 19,qe 21 2,wd 22 5 20 21,qG 23 5 22,wb 8 [.nils,.nils,qS,qS,.nils],q8 5 8 23] (xU 9 1) (xV (qd [xk 24 8,qq 25 24] (.blk 0 (qd (wW 27 25 1 26 27) (xW 26 (xq [yf 28 8,qq 29 28,qy 30 .neq 29 0] 30 [yp]) 32 25 2 31 32 (xW 31 (.reg (xU 9 2)) 34 25 3 33 34 (qo 33 (.reg [wy 9]) (qw [yp]))))))) (xq [qt 35 4 8,qq 36 35,qX 37 36,qe 38 9,qZ 39 .neq 37 38,qe 40 39,wL 41 40 2 8,wG 42 40 41,xE 43 40 .neq 42 xa,xc 44 40 43,wN 45 44 3 8,wH 46 44 45,wN 47 44 1 7,wH 48 44 47,xm 49 44 .sub 48 xa,qF 50 44 (.call fK (x9 46 wx 49)),qF 51 44 (qR 50),qD 52 40 (qJ 44 (.t 51) qB),xo 53 40 52] 53 [yp]) (xV (qd [wy 10] (qN 1 (xO [yu 54,qt 55 4 8,qq 56 55,qX 57 56,ww 58 54 57] 58 1 2 (xq [qt 61 4 8,yu 63,xk 66 7,qq 62 61,wd 64 1 62 63,qq 65 64,qq 67 66,qX 68 67,yn 69 68 1,yg 70 (x9 65 xa 69),wB 71 70] 71 [yp]) (yu 59) 60 59 10 60))) (qd [wy 11] (qN 3 (xO [qe 72 11,xl 73 8,qq 74 73,qX 75 74,ww 76 72 75] 76 3 4 (xq [wM 80,xl 81 8,qe 83 11,yq 79 3,qq 82 81,wd 84 4 82 83,qG 85 4 84,qp 86 mW (x9 79 (.t 80) 85),wB 87 86] 87 [yp]) (qe 77 11) 78 77 11 78))) (qd [qG 88 3 7,qe 89 2,wS 90 gn 88 89,qe 12 90] (.cut (qd [wy 13] (qN 5 (xO [qe 91 13,wP 92 8,qq 93 92,qX 94 93,ww 95 91 94] 95 5 6 (xq [qe 98 2,wu 99 98 0,qe 100 99,wL 101 100 0 8,xc 103 100 13,xc 108 100 12,qD 109 100 (qP 108),wG 102 100 101,qD 104 100 (qI 2 102 (.t 103)),wL 105 100 1 104,wG 106 100 105,qD 107 100 (qP 106),xE 110 100 .neq 107 (.t 109),xo 111 100 110,qe 112 111,wL 114 112 0 8,xc 116 112 13,qD 113 112 (qi (some 3) 7),wG 115 112 114,qD 117 112 (qI 2 115 (.t 116)),wL 118 112 1 117,wG 119 112 118,xd 120 112 ip (wQ 113 (.t 119)),xL 121 112 120,xo 122 112 121,qe 123 122,wL 124 123 0 8,xc 126 123 13,wL 130 123 1 7,wG 125 123 124,qD 127 123 (qI 2 125 (.t 126)),wL 128 123 0 127,wG 129 123 128,wG 131 123 130,xE 132 123 .sub 131 xa,xR 133 123 (x9 129 wx 132),xL 134 123 133,xo 135 123 134] 135 [yp]) (qe 96 13) 97 96 13 97))) (qw [qc 6 wo])))))
def ka:FK:=⟨136,wT 6,(AK.whole ky)⟩
theorem zM:al Tryz.prog kq=some ka:=by kernel_rfl
def lS:FK:=⟨76,xg,xQ [xB 1 1,xA] [wP 7 1,qq 8 7,qX 9 8,yg 10 (ym 9 xa 4),wB 11 10] 11 [xA] (yt [wy 3] [xf] 0 (xO [xv 12,wP 13 1,qq 14 13,qX 15 14,ww 16 12 15] 16 0 1 (xQ [wP 19 1,qq 20 19,xv 21,wd 22 3 20 21,qG 23 3 22,wb 5 [qS,qS,.nils],q8 3 5 23] [wP 24 5,qq 25 24,yg 26 (ym 25 wx 3),wB 27 26,qe 28 27,wL 29 28 1 5,wG 30 28 29,wL 31 28 0 5,wG 32 28 31,xR 33 28 (ym 30 (.t 32) 300),xL 34 28 33,xo 35 28 34,qe 36 35,wL 37 36 2 5,wG 38 36 37,qD 39 36 (qP 38),xR 40 36 (ym 39 xa 160),xL 41 36 40,xo 42 36 41] 42 [xA] (qd [wy 6] (qN 2 (xO [yc 43,xk 44 5,qq 45 44,qX 46 45,ww 47 43 46] 47 2 3 (qL [x7 50,xk 51 5,yc 53,xk 59 5,yc 61,qq 52 51,wd 54 5 52 53,xl 55 54,qq 56 55,qX 57 56,qZ 58 .add 50 57,qq 60 59,wd 62 5 60 61,wP 63 62,qq 64 63,qX 65 64,qZ 66 .add 58 65,qe 3 66] [x7 67,qy 68 .gtr 67 800,qe 69 68,qD 70 69 (qi (some 1) 1),xc 71 69 4,xc 72 69 6,xd 73 69 kq (x9 70 (.t 71) 72),xL 74 69 73,xo 75 69 74] (qT 75 [xA])) (yc 48) 49 48 6 49)))) (xv 17) 18 17 4 18) [qc 2 wo])⟩
theorem tM:al Tryz.prog eh=some lS:=by kernel_rfl
def jl:FK:=⟨16,[.c 2 (some 1),.t 3],xQ [xB 1 1,wb 2 yb,wh 3] [yq 5 1,wK 6 ll 5,wB 7 6] 7 [xu 8 yb [],xw 2 8,wh 3] (qd [yq 9 1,wK 10 iD 9,wb 4 yb,xw 4 10] (wv [yq 11 4,wK 12 eh 11,wB 13 12] (qT 13 [xu 14 yb [],xw 2 14,wh 3]) [yq 15 4,xw 2 15,qc 3 wo]))⟩
theorem pn:al Tryz.prog ca=some jl:=by kernel_rfl
def jH:FK:=⟨30,wX,qL [xB 2 1,xf] [yq 8 2,wK 9 ca 8,qe 7 9,w8 10 0 7,w8 11 1 7,wb 5 yb,xw 5 10,qe 6 11] (wv [yc 12,wB 13 12,qe 14 13,xc 15 14 1,wL 16 14 0 5,wG 17 14 16,qD 18 14 (qP 17),xE 19 14 .sub 18 xa,xR 20 14 (x9 15 wx 19),xL 21 14 20,xo 22 14 21] (qT 22 x4) [wP 23 5,qq 24 23,wM 25,wd 26 3 24 25,xk 27 26,qq 28 27,qX 29 28,qe 4 29])⟩
theorem ru:al Tryz.prog fA=some jH:=by kernel_rfl
def gY:FK:=⟨28,wX,qL [xf] [wM 6,wn 7,qX 8 7,qZ 9 .sub 6 8,qe 1 9] (w6 [wM 10,xK 11 10 0] 11 x4 (wV [yh] 0 (xO [wU 12,wn 13,qX 14 13,ww 15 12 14] 15 0 1 (qL [wM 18,wn 19,wU 20,wd 21 1 19 20,qq 22 21,qb 23 (.len true (.t 22)),qZ 24 .sub 18 23,qe 1 24] [wM 25,xK 26 25 0] (qT 26 x4)) (wU 16) 17 16 5 17) (wI (wM 27) 4 27)))⟩
theorem tj:al Tryz.prog gN=some gY:=by kernel_rfl
def lB:FK:=⟨19,wX,qL [xB 2 4,xf] [wM 5,xk 6 2,qq 7 6,qb 8 (.len true (.t 7)),qZ 9 .sub 5 8,qe 1 9] (w6 [wM 10,xK 11 10 0] 11 x4 (qd [yf 12 2,qq 13 12,wM 14,wS 15 dU 13 14,qe 1 15] (wv [wM 16,xK 17 16 0] (qT 17 x4) (wI (wM 18) 4 18))))⟩
theorem AJ:al Tryz.prog ig=some lB:=by kernel_rfl
def kx:FK:=⟨27,wX,qL [xf] [wM 6,wn 7,qX 8 7,qZ 9 .sub 6 8,qe 1 9] (w6 [wM 10,xK 11 10 0] 11 x4 (wV [yh] 0 (xO [wU 12,wn 13,qX 14 13,ww 15 12 14] 15 0 1 (qL [wn 18,wU 19,wd 20 4 18 19,qG 21 4 20,wM 22,wS 23 ig 21 22,qe 1 23] [wM 24,xK 25 24 0] (qT 25 x4)) (wU 16) 17 16 5 17) (wI (wM 26) 4 26)))⟩
theorem yF:al Tryz.prog dU=some kx:=by kernel_rfl
def lu:FK:=⟨31,wX,qL [xB 2 5,xf] [wM 5,xl 6 2,qq 7 6,qb 8 (.len true (.t 7)),qZ 9 .sub 5 8,qe 1 9] (w6 [wM 10,xK 11 10 0] 11 x4 (xQ [xk 12 2,qq 13 12,wM 14,wS 15 dU 13 14,qe 1 15] [wM 16,xK 17 16 0] 17 x4 (xQ [yf 18 2,qq 19 18,wM 20,wS 21 cz 19 20,qe 1 21] [wM 22,xK 23 22 0] 23 x4 (qd [qt 24 4 2,qq 25 24,wM 26,wS 27 cz 25 26,qe 1 27] (wv [wM 28,xK 29 28 0] (qT 29 x4) (wI (wM 30) 4 30))))))⟩
theorem AE:al Tryz.prog ij=some lu:=by kernel_rfl
def ku:FK:=⟨27,wX,qL [xf] [wM 6,wn 7,qX 8 7,qZ 9 .sub 6 8,qe 1 9] (w6 [wM 10,xK 11 10 0] 11 x4 (wV [yh] 0 (xO [wU 12,wn 13,qX 14 13,ww 15 12 14] 15 0 1 (qL [wn 18,wU 19,wd 20 5 18 19,qG 21 5 20,wM 22,wS 23 ij 21 22,qe 1 23] [wM 24,xK 25 24 0] (qT 25 x4)) (wU 16) 17 16 5 17) (wI (wM 26) 4 26)))⟩
theorem za:al Tryz.prog cz=some ku:=by kernel_rfl
def oJ:FK:=⟨25,wX,qL [xB 2 3,xf] [wM 5,wP 6 2,qq 7 6,qb 8 (.len true (.t 7)),qZ 9 .sub 5 8,qe 1 9] (w6 [wM 10,xK 11 10 0] 11 x4 (xQ [xl 12 2,qq 13 12,wM 14,wS 15 gN 13 14,qe 1 15] [wM 16,xK 17 16 0] 17 x4 (qd [xk 18 2,qq 19 18,wM 20,wS 21 cz 19 20,qe 1 21] (wv [wM 22,xK 23 22 0] (qT 23 x4) (wI (wM 24) 4 24)))))⟩
theorem EC:al Tryz.prog kZ=some oJ:=by kernel_rfl
def mR:FK:=⟨27,wX,qL [xf] [wM 6,wn 7,qX 8 7,qZ 9 .sub 6 8,qe 1 9] (w6 [wM 10,xK 11 10 0] 11 x4 (wV [yh] 0 (xO [wU 12,wn 13,qX 14 13,ww 15 12 14] 15 0 1 (qL [wn 18,wU 19,wd 20 3 18 19,qG 21 3 20,wM 22,wS 23 kZ 21 22,qe 1 23] [wM 24,xK 25 24 0] (qT 25 x4)) (wU 16) 17 16 5 17) (wI (wM 26) 4 26)))⟩
theorem Cv:al Tryz.prog mN=some mR:=by kernel_rfl
def mj:FK:=⟨12,wX,qL [xB 2 1,xf] [wP 5 2,qq 6 5,wM 7,wS 8 mN 6 7,yi 1] (wv [wM 9,xK 10 9 0] (qT 10 x4) (wI (wM 11) 4 11))⟩
theorem tW:al Tryz.prog ck=some mj:=by kernel_rfl
def lX:FK:=⟨22,xg,qL [qc 2 xt] [wn 5,qX 6 5,qb 7 (.mks 1 16 [wD] (.t 6) (.t 6)),qe 3 7] (wV [xf] 0 (xO [xv 8,wn 9,qX 10 9,ww 11 8 10] 11 0 1 (.reg [x7 14,xv 15,wn 16,xv 17,wd 18 1 16 17,qq 19 18,wd 20 1 14 15,xw 20 19]) (xv 12) 13 12 4 13) (wI (x7 21) 2 21))⟩
theorem tU:al Tryz.prog ep=some lX:=by kernel_rfl
def pI:FK:=⟨18,[.c 2 (some 4)],yk [xB 1 4,wb 2 [qS,qS,wD,.nils]] [wb 3 [qS,qS,wD,.nils]] [wP 4 1,qq 5 4,wP 6 3,xw 6 5] [xl 7 1,qq 8 7,xl 9 3,xw 9 8] (qL [xk 10 1,qq 11 10,xk 12 3,xw 12 11] [yf 13 1,qq 14 13,wK 15 da 14,yf 16 3,xw 16 15] (qw [qG 17 4 3,q8 4 2 17]))⟩
theorem At:al Tryz.prog io=some pI:=by kernel_rfl
def oo:FK:=⟨23,xg,qL [qc 2 xt] [wn 5,qX 6 5,qb 7 (.mks 4 56 [qS,qS,wD,.nils] (.t 6) (.t 6)),qe 3 7] (wV [xf] 0 (xO [xv 8,wn 9,qX 10 9,ww 11 8 10] 11 0 1 (.reg [x7 14,xv 15,wn 16,xv 17,wd 18 4 16 17,qG 19 4 18,wK 20 io 19,wd 21 4 14 15,q8 4 21 20]) (xv 12) 13 12 4 13) (wI (x7 22) 2 22))⟩
theorem zZ:al Tryz.prog da=some oo:=by kernel_rfl
def pV:FK:=⟨23,[.c 2 (some 5)],yk [xB 1 5,wb 2 [qS,wD,.nils,.nils,.nils]] [wb 3 [qS,wD,.nils,.nils,.nils]] [wP 4 1,qq 5 4,wP 6 3,xw 6 5] [xl 7 1,qq 8 7,xl 9 3,xw 9 8] (qL [xk 10 1,qq 11 10,wK 12 da 11,xk 13 3,xw 13 12] [yf 14 1,qq 15 14,wK 16 cy 15,yf 17 3,xw 17 16] (w7 [qt 18 4 1,qq 19 18,wK 20 cy 19,qt 21 4 3,xw 21 20] [qG 22 5 3,q8 5 2 22]))⟩
theorem Ah:al Tryz.prog ik=some pV:=by kernel_rfl
def nC:FK:=⟨23,xg,qL [qc 2 xt] [wn 5,qX 6 5,qb 7 (.mks 5 96 [qS,wD,.nils,.nils,.nils] (.t 6) (.t 6)),qe 3 7] (wV [xf] 0 (xO [xv 8,wn 9,qX 10 9,ww 11 8 10] 11 0 1 (.reg [x7 14,xv 15,wn 16,xv 17,wd 18 5 16 17,qG 19 5 18,wK 20 ik 19,wd 21 5 14 15,q8 5 21 20]) (xv 12) 13 12 4 13) (wI (x7 22) 2 22))⟩
theorem vK:al Tryz.prog cy=some nC:=by kernel_rfl
def us:FK:=⟨16,[.c 2 (some 3)],yk [xB 1 3,wb 2 [wD,.nils,.nils]] [wb 3 [wD,.nils,.nils]] [wP 4 1,qq 5 4,wP 6 3,xw 6 5] [xl 7 1,qq 8 7,wK 9 ep 8,xl 10 3,xw 10 9] (w7 [xk 11 1,qq 12 11,wK 13 cy 12,xk 14 3,xw 14 13] [qG 15 3 3,q8 3 2 15])⟩
theorem CP:al Tryz.prog kX=some us:=by kernel_rfl
def sQ:FK:=⟨23,xg,qL [qc 2 xt] [wn 5,qX 6 5,qb 7 (.mks 3 64 [wD,.nils,.nils] (.t 6) (.t 6)),qe 3 7] (wV [xf] 0 (xO [xv 8,wn 9,qX 10 9,ww 11 8 10] 11 0 1 (.reg [x7 14,xv 15,wn 16,xv 17,wd 18 3 16 17,qG 19 3 18,wK 20 kX 19,wd 21 3 14 15,q8 3 21 20]) (xv 12) 13 12 4 13) (wI (x7 22) 2 22))⟩
theorem Ca:al Tryz.prog jv=some sQ:=by kernel_rfl
def lW:FK:=⟨9,[.c 2 (some 1)],qL [xB 1 1,wb 2 yb] [wb 3 yb] (w7 [wP 4 1,qq 5 4,wK 6 jv 5,wP 7 3,xw 7 6] [yq 8 3,xw 2 8])⟩
theorem tA:al Tryz.prog bp=some lW:=by kernel_rfl
def mw:FK:=⟨26,wX,xQ xF [wn 6,qX 7 6,wM 8,qX 9 8,qZ 10 .neq 7 9] 10 xF (wV [yh] 0 (xO [wU 11,x6,qX 13 12,ww 14 11 13] 14 0 1 (xq [wn 17,wU 18,wd 19 1 17 18,wM 21,wU 22,wd 23 1 21 22,qq 20 19,qq 24 23,qb 25 (xI .neq 20 (.t 24))] 25 xF) (wU 15) 16 15 5 16) [qc 4 wo])⟩
theorem tV:al Tryz.prog gX=some mw:=by kernel_rfl
def pQ:FK:=⟨26,wX,xQ [xB 2 4,wl 3 4 1,wz] [wP 5 2,qq 6 5,wP 7 3,qq 8 7,qZ 9 .neq 6 8] 9 xF (w6 [xl 10 2,qq 11 10,xl 12 3,qq 13 12,qZ 14 .neq 11 13] 14 xF (w6 [xk 15 2,qq 16 15,xk 17 3,qq 18 17,qb 19 (xI .neq 16 (.t 18))] 19 xF (wv [yf 20 2,qq 21 20,yf 22 3,qq 23 22,wS 24 dN 21 23,wB 25 24] (qT 25 xF) [qc 4 wo])))⟩
theorem Au:al Tryz.prog ir=some pQ:=by kernel_rfl
def ny:FK:=⟨27,wX,xQ xF [wn 6,qX 7 6,wM 8,qX 9 8,qZ 10 .neq 7 9] 10 xF (wV [yh] 0 (xO [wU 11,x6,qX 13 12,ww 14 11 13] 14 0 1 (xq [wn 17,wU 18,wd 19 4 17 18,wM 21,wU 22,wd 23 4 21 22,qG 20 4 19,qG 24 4 23,wS 25 ir 20 24,wB 26 25] 26 xF) (wU 15) 16 15 5 16) [qc 4 wo])⟩
theorem vO:al Tryz.prog dN=some ny:=by kernel_rfl
def pR:FK:=⟨33,wX,xQ [xB 2 5,wl 3 5 1,wz] [wP 5 2,qq 6 5,wP 7 3,qq 8 7,qZ 9 .neq 6 8] 9 xF (w6 [xl 10 2,qq 11 10,xl 12 3,qq 13 12,qb 14 (xI .neq 11 (.t 13))] 14 xF (w6 [xk 15 2,qq 16 15,xk 17 3,qq 18 17,wS 19 dN 16 18,wB 20 19] 20 xF (w6 [yf 21 2,qq 22 21,yf 23 3,qq 24 23,wS 25 dd 22 24,wB 26 25] 26 xF (wv [qt 27 4 2,qq 28 27,qt 29 4 3,qq 30 29,wS 31 dd 28 30,wB 32 31] (qT 32 xF) [qc 4 wo]))))⟩
theorem AL:al Tryz.prog iv=some pR:=by kernel_rfl
def og:FK:=⟨27,wX,xQ xF [wn 6,qX 7 6,wM 8,qX 9 8,qZ 10 .neq 7 9] 10 xF (wV [yh] 0 (xO [wU 11,x6,qX 13 12,ww 14 11 13] 14 0 1 (xq [wn 17,wU 18,wd 19 5 17 18,wM 21,wU 22,wd 23 5 21 22,qG 20 5 19,qG 24 5 23,wS 25 iv 20 24,wB 26 25] 26 xF) (wU 15) 16 15 5 16) [qc 4 wo])⟩
theorem ze:al Tryz.prog dd=some og:=by kernel_rfl
def uI:FK:=⟨22,wX,xQ [xB 2 3,wl 3 3 1,wz] [wP 5 2,qq 6 5,wP 7 3,qq 8 7,qb 9 (xI .neq 6 (.t 8))] 9 xF (w6 [xl 10 2,qq 11 10,xl 12 3,qq 13 12,wS 14 gX 11 13,wB 15 14] 15 xF (wv [xk 16 2,qq 17 16,xk 18 3,qq 19 18,wS 20 dd 17 19,wB 21 20] (qT 21 xF) [qc 4 wo]))⟩
theorem CT:al Tryz.prog kJ=some uI:=by kernel_rfl
def sD:FK:=⟨27,wX,xQ xF [wn 6,qX 7 6,wM 8,qX 9 8,qZ 10 .neq 7 9] 10 xF (wV [yh] 0 (xO [wU 11,x6,qX 13 12,ww 14 11 13] 14 0 1 (xq [wn 17,wU 18,wd 19 3 17 18,wM 21,wU 22,wd 23 3 21 22,qG 20 3 19,qG 24 3 23,wS 25 kJ 20 24,wB 26 25] 26 xF) (wU 15) 16 15 5 16) [qc 4 wo])⟩
theorem Ce:al Tryz.prog mL=some sD:=by kernel_rfl
def lN:FK:=⟨11,wX,qd [xB 2 1,wl 3 1 1,wz] (wv [wP 5 2,qq 6 5,wP 7 3,qq 8 7,wS 9 mL 6 8,wB 10 9] (qT 10 xF) [qc 4 wo])⟩
theorem tQ:al Tryz.prog eq=some lN:=by kernel_rfl
def ex:FK:=⟨31,wX,qL [xB 2 1,wz] (xU 5 1048576) (xQ [yq 9 2,wU 10,wS 11 ck 9 10,qe 5 11] [wU 12,xK 13 12 0] 13 [qc 4 wo] (qL [yq 14 2,wK 15 bp 14,wM 16,wS 17 fA 15 16,qe 6 17] [yq 18 2,wK 19 bp 18,wb 7 yb,xw 7 19] (xQ [yq 20 7,wM 21,wS 22 fG 20 21,qe 8 22] [yi 23,yc 24,qZ 25 .neq 23 24] 25 xF (wv [yq 26 7,yq 27 2,wK 28 bp 27,w9 (some 1) 7 26,wS 29 eq 26 28,wB 30 29] (qT 30 xF) [qc 4 wo]))))⟩
theorem kF:al Tryz.prog ew=some ex:=by kernel_rfl
def nj:FK:=⟨53,xg,xQ [xB 1 1,xD] [yq 6 1,wK 7 eh 6,wB 8 7] 8 (xZ 2) (yt [wy 3] [xf] 0 (xO [xv 9,wP 10 1,qq 11 10,qX 12 11,ww 13 9 12] 13 0 1 (qd [yh] (qN 2 (xO [wU 16,wP 17 1,qq 18 17,xv 19,wd 20 3 18 19,xk 21 20,qq 22 21,qX 23 22,ww 24 16 23] 24 2 3 (.reg [x7 27,wP 28 1,xv 30,wU 34,wP 40 1,xv 42,wU 46,qq 29 28,wd 31 3 29 30,xk 32 31,qq 33 32,wd 35 5 33 34,xl 36 35,qq 37 36,qX 38 37,qZ 39 .add 27 38,qq 41 40,wd 43 3 41 42,xk 44 43,qq 45 44,wd 47 5 45 46,wP 48 47,qq 49 48,qX 50 49,qZ 51 .add 39 50,qe 3 51]) (wU 25) 26 25 5 26))) (xv 14) 15 14 4 15) (wI (x7 52) 2 52))⟩
theorem uY:al Tryz.prog iZ=some nj:=by kernel_rfl
def lH:FK:=⟨14,xg,qL [xB 1 1,xD] [yq 6 1,wK 7 ca 6,qe 5 7,w8 8 0 5,w8 9 1 5,wb 3 yb,xw 3 8,qe 4 9] (wv [xv 10,wB 11 10] (qT 11 (xZ 2)) (xM (yq 12 3) (wK 13 iZ 12) 2 13))⟩
theorem th:al Tryz.prog gL=some lH:=by kernel_rfl
def mY:FK:=⟨22,xg,xQ [xB 1 1,xD] [yq 6 1,wK 7 eg 6,wB 8 7] 8 (xZ 2) (yt [wy 3] [wP 9 1,qq 10 9,qX 11 10,wy 12] 0 (ye [ww 13 12 11] 13 0 1 (yr [wd 14 3 10 12,qG 15 3 14,wb 5 [qS,qS,.nils],q8 3 5 15] [x7 16,qG 17 3 5,wK 18 eb 17,qZ 19 .add 16 18,qe 3 19]) (xT 20 12 12 20)) (wI (x7 21) 2 21))⟩
theorem uQ:al Tryz.prog iY=some mY:=by kernel_rfl
def mo:FK:=⟨14,xg,qL [xB 1 1,xD] [yq 6 1,wK 7 bX 6,qe 5 7,w8 8 0 5,w8 9 1 5,wb 3 yb,xw 3 8,qe 4 9] (wv [xv 10,wB 11 10] (qT 11 (xZ 2)) (xM (yq 12 3) (wK 13 iY 12) 2 13))⟩
theorem tC:al Tryz.prog ie=some mo:=by kernel_rfl
def fJ:FK:=⟨27,xg,qL [xB 1 1,xA] (xU 3 1048576) (xQ [yq 7 1,x7 8,wS 9 ck 7 8,qe 3 9] [x7 10,xK 11 10 0] 11 [qc 2 wo] (qL [yq 12 1,wK 13 bp 12,wK 14 gL 13,qe 4 14] [yq 15 1,wK 16 bp 15,wb 5 yb,xw 5 16] (xQ (xM (yq 17 5) (wK 18 ie 17) 6 18) [yc 19,xv 20,qZ 21 .neq 19 20] 21 [xA] (wv [yq 22 5,yq 23 1,wK 24 bp 23,w9 (some 1) 5 22,wS 25 eq 22 24,wB 26 25] (qT 26 [xA]) [qc 2 wo]))))⟩
theorem ma:al Tryz.prog fI=some fJ:=by kernel_rfl
end Go.Proofs.YtghpabfdmbdpfaaGreatDoor
