/-
  Contracts and lemmas that the card needs, part 4.
-/
import Derived.Test.YtghpabfdmbdpfaaGreatDoorKa3
import Derived.Test.YtghpabfdmbdpfaaGreatDoorRows
namespace Go.Proofs.YtghpabfdmbdpfaaGreatDoor
open Go Go.Aw
set_option maxRecDepth 100000
abbrev fE:FuncId:=27
abbrev jZ:FuncId:=198
abbrev ka:FuncId:=192
abbrev mA:FuncId:=174
abbrev fh:FuncId:=193
abbrev mO:FuncId:=175
abbrev bZ:FuncId:=146
abbrev ic:FuncId:=194
abbrev im:FuncId:=202
abbrev eV:FuncId:=199
abbrev fZ:FuncId:=200
abbrev eh:FuncId:=195
abbrev io:FuncId:=176
abbrev bL:FuncId:=147
abbrev np:FuncId:=109
abbrev dN:FuncId:=148
abbrev mH:FuncId:=110
abbrev eN:FuncId:=72
abbrev iJ:FuncId:=149
abbrev bk:FuncId:=150
abbrev dg:FuncId:=177
abbrev iz:FuncId:=178
abbrev dE:FuncId:=151
abbrev dB:FuncId:=180
abbrev cm:FuncId:=179
abbrev bS:FuncId:=152
abbrev kJ:FuncId:=111
abbrev eM:FuncId:=73
abbrev kW:FuncId:=52
abbrev du:FuncId:=25
abbrev eD:FuncId:=187
abbrev eE:FuncId:=160
abbrev dx:FuncId:=40
abbrev cK:FuncId:=162
abbrev cF:FuncId:=161
abbrev ca:FuncId:=126
abbrev cD:FuncId:=163
abbrev bO:FuncId:=127
abbrev bP:FuncId:=188
abbrev bB:FuncId:=164
abbrev fj:FuncId:=189
abbrev iy:FuncId:=141
abbrev jQ:FuncId:=201
abbrev fk:FuncId:=197
abbrev dY:FuncId:=190
abbrev iq:FuncId:=166
abbrev cd:FuncId:=165
abbrev ce:FuncId:=129
abbrev dZ:FuncId:=38
abbrev ef:FuncId:=167
abbrev jM:FuncId:=130
abbrev bf:FuncId:=128
abbrev eQ:FuncId:=85
abbrev co:FuncId:=131
abbrev eZ:FuncId:=132
abbrev iF:FuncId:=86
abbrev bT:FuncId:=87
abbrev aU:FuncId:=64
abbrev ju:FuncId:=168
abbrev aT:FuncId:=93
abbrev bC:FuncId:=169
abbrev cP:FuncId:=133
abbrev bn:FuncId:=88
abbrev eO:FuncId:=62
abbrev oz:FuncId:=43
abbrev bN:FuncId:=45
abbrev gV:FuncId:=96
abbrev ie:FuncId:=97
abbrev dk:FuncId:=135
abbrev aZ:FuncId:=98
abbrev bX:FuncId:=136
abbrev bG:FuncId:=100
abbrev fu:FuncId:=170
abbrev dz:FuncId:=143
abbrev gi:FuncId:=103
abbrev bA:FuncId:=95
abbrev iL:FuncId:=99
abbrev js:FuncId:=138
abbrev kH:FuncId:=140
abbrev kh:FuncId:=142
abbrev cV:FuncId:=137
abbrev jA:FuncId:=139
abbrev my:FuncId:=102
abbrev iN:FuncId:=101
abbrev iV:FuncId:=104
abbrev lq:FuncId:=69
abbrev eb:FuncId:=58
abbrev ee:FuncId:=48
abbrev dD:FuncId:=63
abbrev iP:FuncId:=44
abbrev aR:FuncId:=65
abbrev eJ:FuncId:=67
abbrev eL:FuncId:=94
abbrev aS:FuncId:=92
abbrev dR:FuncId:=68
abbrev dC:FuncId:=90
abbrev dj:FuncId:=134
abbrev aW:FuncId:=89
abbrev da:FuncId:=91
abbrev bg:FuncId:=66
abbrev fM:FuncId:=47
abbrev cx:FuncId:=46
abbrev cN:FuncId:=23
abbrev jE:FuncId:=153
abbrev eY:FuncId:=112
abbrev ck:FuncId:=113
abbrev br:FuncId:=117
abbrev bE:FuncId:=116
abbrev cb:FuncId:=115
abbrev ec:FuncId:=183
abbrev gR:FuncId:=196
abbrev be:FuncId:=182
abbrev fX:FuncId:=181
abbrev fR:FuncId:=154
abbrev bj:FuncId:=114
abbrev kD:FuncId:=74
abbrev ip:FuncId:=53
abbrev ib:FuncId:=120
abbrev fW:FuncId:=155
abbrev lu:FuncId:=156
abbrev mK:FuncId:=118
abbrev gb:FuncId:=119
abbrev jW:FuncId:=75
abbrev ed:FuncId:=54
abbrev cQ:FuncId:=26
abbrev gE:FuncId:=76
abbrev iv:FuncId:=184
abbrev dL:FuncId:=157
abbrev iw:FuncId:=121
abbrev cn:FuncId:=77
abbrev kA:FuncId:=55
abbrev mt:FuncId:=29
abbrev eg:FuncId:=13
abbrev ep:FuncId:=78
abbrev hZ:FuncId:=185
abbrev cT:FuncId:=158
abbrev ig:FuncId:=122
abbrev cr:FuncId:=79
abbrev kS:FuncId:=56
abbrev jq:FuncId:=30
abbrev cY:FuncId:=14
abbrev gP:FuncId:=80
abbrev gY:FuncId:=186
abbrev dX:FuncId:=159
abbrev il:FuncId:=123
abbrev cX:FuncId:=81
abbrev kN:FuncId:=57
abbrev mJ:FuncId:=31
abbrev gA:FuncId:=15
abbrev iM:FuncId:=32
abbrev gX:FuncId:=16
abbrev iY:FuncId:=33
abbrev gU:FuncId:=17
abbrev fH:FuncId:=5
@[reducible] def qa(a:Nat)(b:Option (Nat × Bool))(c:AI):CO:=⟨some a,b,c⟩
@[reducible] def qb(a:Nat)(b:AI):CO:=qa a none b
@[reducible] def qc(a:Nat)(b:AOp):CO:=qb a (.mov b)
@[reducible] def qd(a:List CO)(b:AK):AK:= .seq (.reg a) b
@[reducible] def qe(a b:Nat):CO:=qc a (.t b)
@[reducible] def qf(a:IntKind)(b:Int):AV:= .p (.int a b)
@[reducible] def qg(a:Int):AV:=qf .i64 a
@[reducible] def qh(a b:Nat):AI:= .fldA a (.t b)
@[reducible] def qi(a:Option Nat)(b:Nat):AI:= .ld a (.t b)
@[reducible] def qj(a:Int):AOp:= .c (qg a)
@[reducible] def qk(a:Nat)(b:Nat × Bool)(c:AI):CO:=qa a (some b) c
@[reducible] def ql(a:BinOp)(b:Nat)(c:AOp):AI:= .bin a (.t b) c
@[reducible] def qm(a:Nat)(b:Option Nat)(c:Nat):CO:=qb a (qi b c)
@[reducible] def qn(a:Bool):AV:= .p (.bool a)
@[reducible] def qo(a:Nat)(b c:AK):AK:= .cond (.t a) b c
@[reducible] def qp(a:Nat)(b:FuncId)(c:List AOp):CO:=qb a (.call b c)
@[reducible] def qq(a b:Nat):CO:=qm a none b
@[reducible] def qt(a b c:Nat):CO:=qb a (qh b c)
@[reducible] def qu(a:Nat)(b:BinOp)(c:Nat)(d:AOp):CO:=qb a (ql b c d)
@[reducible] def qv:AV:=qn false
@[reducible] def qw(a:List CO):AK:=qd a .ret
@[reducible] def qx(a:List CO)(b c:AK):AK:= .seq (qd a b) c
@[reducible] def qy(a:Nat)(b:BinOp)(c:Nat)(d:Int):CO:=qu a b c (qj d)
@[reducible] def qz(a:Nat)(b:Int):CO:=qc a (qj b)
@[reducible] def qA(a:AOp):AI:= .len false a
@[reducible] def qB:AOp:= .c qv
@[reducible] def qC(a b:Nat)(c:Bool)(d:AI):CO:=qk a (b,c) d
@[reducible] def qD(a b:Nat)(c:AI):CO:=qC a b false c
@[reducible] def qF(a b:Nat)(c:AI):CO:=qC a b true c
@[reducible] def qG(a b:Nat)(c:AOp):AI:= .idxS a (.t b) c
@[reducible] def qH(a:Nat)(b:AK):AK:=qo a b .skip
@[reducible] def qI(a b c:Nat):CO:=qm a (some b) c
@[reducible] def qJ(a:Nat)(b c:AOp):AI:= .pick (.t a) b c
@[reducible] def qK(a:Option (Nat × Bool))(b:AI):CO:=⟨none,a,b⟩
@[reducible] def qL(a b:List CO)(c:AK):AK:=qd a (qd b c)
@[reducible] def qM(a:Nat):AI:= .nilck (.t a)
@[reducible] def qN(a:Nat)(b:AK):AK:= .blk a (.loop b)
@[reducible] def qO(a:AI):CO:=qK none a
@[reducible] def qP(a:Nat):AI:=qA (.t a)
@[reducible] def qQ(a:Nat)(b c:AK):AK:= .seq (.blk a b) c
@[reducible] def qR:AV:=qg 0
@[reducible] def qS(a:Nat)(b c:AOp):CO:=qO (.st a b c)
@[reducible] def qT(a:Nat):AI:= .not (.t a)
@[reducible] def qU(a:Nat)(b:List CO):AK:=qH a (qw b)
@[reducible] def qV(a b:Nat):AI:= .box a (.t b)
@[reducible] def qW(a b:Nat):CO:=qb a (qP b)
@[reducible] def qX:AV:=qn true
@[reducible] def qY(a:Nat)(b:AK)(c:Nat):AK:=qo a b (.exit c)
@[reducible] def qZ(a:Nat)(b:BinOp)(c d:Nat):CO:=qu a b c (.t d)
@[reducible] def q6(a:Nat):AI:=qi none a
@[reducible] def q7(a b:Nat)(c:AOp):CO:=qS a (.t b) c
@[reducible] def q8(a b c:Nat):CO:=q7 a b (.t c)
@[reducible] def q9(a b c:Nat)(d:AOp):CO:=qb a (qG b c d)
@[reducible] def wa(a:Nat)(b:AK)(c:List CO):AK:=qQ a b (.reg c)
@[reducible] def wb(a b:Nat)(c:Int):CO:=qy a .add b c
@[reducible] def wd(a b c d:Nat):CO:=q9 a b c (.t d)
@[reducible] def we(a:Nat)(b:List AV):CO:=qb a (.alloc b)
@[reducible] def wg(a b:Nat)(c d:AOp):CO:=qb a (qJ b c d)
@[reducible] def wh(a:List UInt8):AV:= .p (.str a)
@[reducible] def wj(a:Nat):CO:=qc a qB
@[reducible] def wl(a:Nat):CO:=qe a 0
@[reducible] def wm(a b:Nat):AK:=qY a .skip b
@[reducible] def wn(a b c:Nat):CO:=qb a (qV b c)
@[reducible] def wo(a:Nat):AI:= .mov (.t a)
@[reducible] def wq:AOp:= .c qX
@[reducible] def wt(a b:Nat):CO:=qb a (qM b)
@[reducible] def wu(a b:Nat)(c:Int):CO:=qy a .eql b c
@[reducible] def wv(a:List CO)(b:AK)(c:List CO):AK:=qx a b (qw c)
@[reducible] def ww(a b c:Nat):CO:=qZ a .lss b c
@[reducible] def wx(a:Nat):CO:=qz a 0
@[reducible] def wy:AOp:=qj 0
@[reducible] def wz:CO:=wj 4
@[reducible] def wA(a b:Nat):CO:=qb a (qT b)
@[reducible] def wB(a b:Nat):AI:= .ext a (.t b)
@[reducible] def wD:AV:=wh []
@[reducible] def wE(a b:Nat)(c:List AV)(d:Nat)(e:List (Nat × Nat × AOp)):CO:=qb a (.bsl b c d e)
@[reducible] def wF(a b c:Nat):CO:=qF a b (q6 c)
@[reducible] def wG(a b:Nat)(c:AOp)(d:Nat):CO:=wg a b c (.t d)
@[reducible] def wH(a:CO)(b c:Nat):List CO:=[a,qe b c]
@[reducible] def wI(a b c:Nat):CO:=qD a b (q6 c)
@[reducible] def wJ(a:Nat):List AOp:=[.t a]
@[reducible] def wK(a:Nat)(b:FuncId)(c:Nat):CO:=qp a b (wJ c)
@[reducible] def wL(a b c d:Nat):CO:=qF a b (qh c d)
@[reducible] def wM(a b c d:Nat):CO:=qD a b (qh c d)
@[reducible] def wN(a:Nat):CO:=qe a 1
@[reducible] def wP(a b:Nat):CO:=qt a 0 b
@[reducible] def wQ(a:Nat)(b:AOp):List AOp:=[.t a,b]
@[reducible] def wR(a:Nat)(b:FuncId)(c:Nat)(d:AOp):CO:=qp a b (wQ c d)
@[reducible] def wS(a:Nat)(b:FuncId)(c d:Nat):CO:=wR a b c (.t d)
@[reducible] def wT(a:List CO)(b:Nat)(c:AK)(d:List CO):AK:=wv a (qN b c) d
@[reducible] def wU(a b:Nat)(c:Int)(d e:Nat):List CO:=wH (wu a b c) d e
@[reducible] def wV(a:Nat):CO:=qe a 5
@[reducible] def wW(a:Nat):List RV:=[.t a]
@[reducible] def wX(a:List CO)(b c:Nat)(d:AK):AK:=qx a (wm b c) d
@[reducible] def wY(a:Nat)(b:AK)(c:List CO)(d:AK):AK:=qo a b (qd c d)
@[reducible] def wZ(a b:List CO):AK:=qd a (qw b)
@[reducible] def w6(a:List CO)(b:Nat)(c:List CO)(d:AK):AK:=qx a (qU b c) d
@[reducible] def w7:List RV:=wW 4
@[reducible] def w8(a:List CO)(b c d:Nat)(e:AK)(f:List CO):AK:=wX a b c (wa d e f)
@[reducible] def w9(a:Option Nat)(b c:Nat):CO:=qO (.chk a b c)
@[reducible] def xa:AOp:=qj 1
@[reducible] def xb(a b c:Nat):CO:=qb a (wB b c)
@[reducible] def xc(a b c:Nat):CO:=qD a b (wo c)
@[reducible] def xd(a:Nat)(b:List AOp):CO:=qp a cb b
@[reducible] def xe:List RV:=wW 2
@[reducible] def xf(a:List CO)(b c:AK):AK:=qd a (.seq b c)
@[reducible] def xg:CO:=wx 4
@[reducible] def xh(a b c:Nat)(d:AOp):CO:=wg a b (.t c) d
@[reducible] def xi(a b:Nat):CO:=wb a b 1
@[reducible] def xj(a b:Nat)(c:FuncId)(d:List AOp):CO:=qD a b (.call c d)
@[reducible] def xk(a b:Nat):CO:=qt a 1 b
@[reducible] def xl(a b:Nat)(c:BinOp)(d:Nat)(e:AOp):CO:=qF a b (ql c d e)
@[reducible] def xm(a b:Nat):CO:=qt a 2 b
@[reducible] def xn(a:Nat)(b:List AOp):CO:=qp a eJ b
@[reducible] def xo(a b c:Nat):CO:=wG a b wq c
@[reducible] def xp(a b:Nat):CO:=wK a ck b
@[reducible] def xq(a:List CO)(b:Nat)(c:List CO):AK:=qd a (qU b c)
@[reducible] def xr(a:Nat)(b:List AOp):CO:=qp a br b
@[reducible] def xt:AOp:= .c .nils
@[reducible] def xu(a:Nat)(b:List AV)(c:List (Nat × Nat × AOp)):CO:=qb a (.bld b c)
@[reducible] def xv(a:Nat):CO:=qe a 4
@[reducible] def xw(a b c:Nat):Nat × Nat × AOp:=(a,b,.t c)
@[reducible] def xx(a b:Nat):CO:=w9 none a b
@[reducible] def xy(a:Nat)(b:List AOp):CO:=qp a dR b
@[reducible] def xz(a b:Nat):CO:=q8 1 a b
@[reducible] def xA:CO:=wj 2
@[reducible] def xB(a:Nat)(b:List AOp):CO:=qp a du b
@[reducible] def xC:CO:=wx 2
@[reducible] def xD(a b:Nat):Nat × Nat × AOp:=xw a 1 b
@[reducible] def xE(a b:Nat):CO:=wn a b 0
@[reducible] def xF(a b:Nat):CO:=wK a bE b
@[reducible] def xG:List CO:=[wz]
@[reducible] def xH(a:BinOp)(b:Nat)(c:AOp):AI:= .bins a (.t b) c
@[reducible] def xI(a:FuncId)(b:List AOp):AI:= .mkf (.func a) b
@[reducible] def xJ(a b:CO)(c d:Nat):List CO:=[a,b,qe c d]
@[reducible] def xK(a:CO)(b c d e:Nat):List CO:=xJ a (xi b c) d e
@[reducible] def xL(a:List CO)(b c d:Nat)(e:AK)(f:CO)(g h i j:Nat):AK:=w8 a b c d e (xK f g h i j)
@[reducible] def xM(a:List CO)(b c:Nat)(d:AK):AK:=xf a (wm b c) d
@[reducible] def xN(a b:Nat)(c:BinOp)(d:Nat)(e:AOp):CO:=qD a b (ql c d e)
@[reducible] def xO(a:Nat)(b:List AOp):AI:= .callv (.t a) b
@[reducible] def xP(a b:Nat)(c:Int):CO:=qy a .lss b c
@[reducible] def xQ(a b c d:Nat):List CO:=wH (xi a b) c d
@[reducible] def xR(a b c:AK):AK:= .cut a (.cut b c)
@[reducible] def xS(a:Nat)(b:AK)(c d:Nat)(e:Int)(f g:Nat)(h:AK):AK:=wY a b (wU c d e f g) h
@[reducible] def xT(a b c:Nat):CO:=qD a b (qT c)
@[reducible] def xU(a:Nat)(b:List CO):AK:=qH a (.reg b)
@[reducible] def xV(a b c:Nat):CO:=xh a b c qB
@[reducible] def xW(a b:List CO)(c:Nat)(d:List CO)(e:AK):AK:=qd a (w6 b c d e)
@[reducible] def xX:CO:=wl 12
@[reducible] def xY(a:Nat)(b:Int):List CO:=[qz a b]
@[reducible] def xZ(a:Nat):CO:=qe a 3
@[reducible] def x4(a b:Nat)(c:List AOp):CO:=xj a b fE c
@[reducible] def x6(a b:Nat)(c:AOp):CO:=wR a bT b c
@[reducible] def x7(a:Nat):List CO:=xY a (-1)
@[reducible] def x8:List CO:=x7 4
@[reducible] def x9(a:List CO)(b c d:Nat)(e:AK)(f:List CO):AK:=xM a b c (wa d e f)
@[reducible] def ya(a:Nat)(b c:AOp):List AOp:=[.t a,b,c]
@[reducible] def yb(a:Nat)(b:AOp)(c:Nat):List AOp:=ya a b (.t c)
@[reducible] def yc(a b:Nat):CO:=qt a 3 b
@[reducible] def ye(a:Nat)(b:List AOp):CO:=qp a fE b
@[reducible] def yf:CO:=wx 5
@[reducible] def yg(a:Nat):CO:=qe a 6
@[reducible] def yh(a b c:Nat):CO:=qF a b (wo c)
@[reducible] def yi(a:Nat):CO:=qe a 8
@[reducible] def yj(a b c d:List CO)(e:AK):AK:=qL a b (qL c d e)
@[reducible] def yk(a b c:Nat)(d:AOp):AI:= .app a b (.t c) d
@[reducible] def yl(a:Nat)(b:AOp)(c:Int):List AOp:=ya a b (qj c)
@[reducible] def ym(a b:Nat)(c:Int):CO:=qy a .sub b c
@[reducible] def yn:List AV:=[.nils]
@[reducible] def yp:CO:=wj 6
@[reducible] def yq(a b:List CO):AK:=qd a (.reg b)
@[reducible] def yr(a b:List CO)(c:Nat)(d:AK)(e:List CO):AK:=qd a (wT b c d e)
@[reducible] def yt(a:Nat):CO:=qe a 10
def oB:FK:=⟨15,wW 6,wZ [yp] [wl 7,wN 8,qZ 9 .geq 7 8,qe 10 9,yh 11 10 0,yh 12 10 2,xl 13 10 .leq 11 (.t 12),xV 14 10 13,qe 6 14]⟩
theorem DU:al Tryz.prog fE=some oB:=by kernel_rfl
def nY:FK:=⟨18,w7,yr [xg] [yf] 0 (xL [wV 6,wl 7,qb 8 (.len true (.t 7)),ww 9 6 8] 9 0 1 (xq [xX,wV 13,qb 14 (.idxStr (.t 12) (.t 13)),wN 15,qZ 16 .eql 14 15] 16 (wH (wV 17) 4 17)) (wV 10) 11 10 5 11) x8⟩
theorem vR:al Tryz.prog jZ=some nY:=by kernel_rfl
def oA:FK:=⟨28,xe,qd [xC] (qQ 0 (qd [wl 4,qu 5 .geq 4 (.c (qf .u8 97)),wV 6,yh 7 6 0,xl 8 6 .leq 7 (.c (qf .u8 122)),xV 9 6 8,qe 3 9] (wY 3 (qw (xY 2 1)) [wl 11,qu 12 .geq 11 (.c (qf .u8 48)),qe 13 12,yh 14 13 0,xl 15 13 .leq 14 (.c (qf .u8 57)),xV 16 13 15,qe 10 16] (wY 10 (qw (xY 2 2)) [wl 18,qp 19 jZ [.c (wh [40,41,123,125,59,44,43,45,42,47,37,60,61,38,33,64]),.t 18],qy 20 .geq 19 0,qe 17 20] (wY 17 (qw (xY 2 3)) [wl 22,qu 23 .eql 22 (.c (qf .u8 32)),qe 24 23,xc 25 24 0,xN 26 24 .eql 25 (.c (qf .u8 10)),xo 27 24 26,qe 21 27] (qU 21 (xY 2 4)))))) (qw [xC]))⟩
theorem za:al Tryz.prog ka=some oA:=by kernel_rfl
def sv:FK:=⟨21,w7,yr xG [yf] 0 (xL [wV 6,wl 7,qb 8 (.len true (.t 7)),ww 9 6 8] 9 0 1 (xq [xX,wV 13,qb 14 (.idxStr (.t 12) (.t 13)),wK 15 ka 14,wN 16,qZ 17 .neq 15 16] 17 xG) (wV 10) 11 10 5 11) [wl 18,qb 19 (.len true (.t 18)),qy 20 .gtr 19 0,qe 4 20]⟩
theorem Br:al Tryz.prog mA=some sv:=by kernel_rfl
def mT:FK:=⟨2,wW 0,wZ [qc 0 xt] (wH (wE 1 1 [wD] 9 [(0,1,.c (wh [102,110])),(1,1,.c (wh [108,101,116])),(2,1,.c (wh [115,97,121])),(3,1,.c (wh [112,117,116])),(4,1,.c (wh [105,102])),(5,1,.c (wh [101,108,115,101])),(6,1,.c (wh [108,111,111,112])),(7,1,.c (wh [98,97,99,107])),(8,1,.c (wh [100,111]))]) 0 1)⟩
theorem uA:al Tryz.prog fh=some mT:=by kernel_rfl
def rF:FK:=⟨18,xe,qL [xA] (wH (qp 5 fh []) 3 5) (wT [xg] 0 (xL [xv 6,xZ 7,qW 8 7,ww 9 6 8] 9 0 1 (xq [xZ 12,xv 13,wd 14 1 12 13,qq 15 14,wl 16,qb 17 (xH .eql 15 (.t 16))] 17 [qc 2 wq]) (xv 10) 11 10 4 11) [xA])⟩
theorem BF:al Tryz.prog mO=some rF:=by kernel_rfl
def pD:FK:=⟨15,xe,wZ [xA] [wl 3,wR 4 mA 3 xa,xv 5,yh 6 5 0,qF 7 5 (.len true (.t 6)),xl 8 5 .leq 7 (qj 4),xV 9 5 8,qe 10 9,yh 11 10 0,qF 12 10 (.call mO (wJ 11)),qF 13 10 (qT 12),xV 14 10 13,qe 2 14]⟩
theorem Ak:al Tryz.prog bZ=some pD:=by kernel_rfl
def kZ:FK:=⟨5,xe,qd [xC] (wv [wl 3,wu 4 3 4] (qU 4 (xY 2 2)) (xY 2 1))⟩
theorem zT:al Tryz.prog ic=some kZ:=by kernel_rfl
def cL:FK:=⟨13,[.t 2,.t 3],qd [xC,wx 3] (wv [wl 4] (.blk 0 (qx (wU 6 4 1 5 6) (qo 5 .skip (.reg (wU 7 4 2 5 7))) (qo 5 (qw [xC,wx 3]) (qx (wU 9 4 11 8 9) (qo 8 .skip (.reg (wU 10 4 12 8 10))) (xS 8 (qw [qz 2 1,qz 3 1]) 12 4 13 11 12 (qU 11 [xC,qz 3 3])))))) [qz 2 2,qz 3 2])⟩
theorem Al:al Tryz.prog im=some cL:=by kernel_rfl
def ij:FK:=⟨86,w7,qL [xE 2 4,wz] [wP 10 2,qq 11 10,wK 12 im 11,qe 9 12,xb 13 0 9,xb 14 1 9,qe 5 13,qe 6 14] (w6 [wN 15,xP 16 15 1,qe 17 16,wM 18 17 0 2,wI 19 17 18,x4 20 17 (yl 19 xa 13),xT 21 17 20,xo 22 17 21,qe 23 22,wM 24 23 3 2,wI 25 23 24,qD 26 23 (qP 25),xc 27 23 5,xc 28 23 6,x4 29 23 (yb 26 (.t 27) 28),xT 30 23 29,xo 31 23 30] 31 xG (xW [wP 32 2,qq 33 32,wu 34 33 2,qe 35 34,wM 36 35 0 2,wI 37 35 36,xN 38 35 .eql 37 (qj 13),xo 39 35 38,qe 7 39] [qe 40 7,xm 41 2,qq 42 41,wK 43 bZ 42,qb 44 (.beq true (.t 40) (.t 43)),qe 45 44,xc 46 45 7,xT 47 45 46,xc 48 45 47,wL 49 48 2 2,wF 50 48 49,qF 51 48 (xH .neq 50 (.c wD)),qD 52 45 (qJ 48 (.t 51) qB),xo 53 45 52,qe 54 53,wM 55 54 1 2,wI 56 54 55,x4 57 54 (yl 56 wy 255),xT 58 54 57,xo 59 54 58,qe 60 59,wM 61 60 0 2,wI 62 60 61,xN 63 60 .neq 62 xa,xc 64 60 63,wL 65 64 1 2,wF 66 64 65,xl 67 64 .neq 66 wy,qD 68 60 (qJ 64 (.t 67) qB),xo 69 60 68] 69 xG (wT [wx 8] 0 (xL [yi 70,yc 71 2,qq 72 71,qW 73 72,ww 74 70 73] 74 0 1 (xq [yc 77 2,qq 78 77,yi 79,wd 80 4 78 79,qI 81 4 80,wN 82,ym 83 82 1,wS 84 eV 81 83,wA 85 84] 85 xG) (yi 75) 76 75 8 76) [qc 4 wq])))⟩
theorem pE:al Tryz.prog eV=some ij:=by kernel_rfl
def oh:FK:=⟨21,xe,qL [xE 1 4,xC] (xY 3 1) (wT [xg] 0 (xL [xv 5,yc 6 1,qq 7 6,qW 8 7,ww 9 5 8] 9 0 1 (.reg [xZ 12,yc 13 1,qq 14 13,xv 15,wd 16 4 14 15,qI 17 4 16,wK 18 fZ 17,qZ 19 .add 12 18,qe 3 19]) (xv 10) 11 10 4 11) (wH (xZ 20) 2 20))⟩
theorem vS:al Tryz.prog fZ=some oh:=by kernel_rfl
def lX:FK:=⟨10,xe,wZ [xE 1 4,xA] [qI 3 4 1,wR 4 eV 3 (qj 6),xv 5,qF 6 5 (qi (some 4) 1),qF 7 5 (.call fZ (wJ 6)),xl 8 5 .leq 7 (qj 30),xV 9 5 8,qe 2 9]⟩
theorem sS:al Tryz.prog eh=some lX:=by kernel_rfl
def ir:FK:=⟨108,w7,xW [xE 2 5,wz] [wN 7,xP 8 7 1,yi 9,wM 10 9 0 2,wI 11 9 10,x4 12 9 (yl 11 xa 8),xT 13 9 12,xo 14 9 13,qe 15 14,wM 16 15 2 2,wM 19 15 0 2,wI 17 15 16,qD 18 15 (qP 17),wI 20 15 19,qD 21 15 (.qcall ic (wJ 20)),xN 22 15 .neq 18 (.t 21),xo 23 15 22] 23 xG (xW [wP 24 2,qq 25 24,wu 26 25 1,qe 27 26,wM 28 27 0 2,wI 29 27 28,xN 30 27 .eql 29 (qj 2),xo 31 27 30,qe 5 31] [wV 32,xk 33 2,qq 34 33,wK 35 bZ 34,qb 36 (.beq true (.t 32) (.t 35)),qe 37 36,xc 38 37 5,xT 39 37 38,xc 40 37 39,wL 41 40 1 2,wF 42 40 41,qF 43 40 (xH .neq 42 (.c wD)),qD 44 37 (qJ 40 (.t 43) qB),xo 45 37 44] 45 xG (qx [wx 6] (qN 0 (xL [yg 46,xm 47 2,qq 48 47,qW 49 48,ww 50 46 49] 50 0 1 (xq [xm 53 2,qq 54 53,yg 55,wd 56 4 54 55,qI 57 4 56,wK 58 eh 57,wA 59 58] 59 xG) (yg 51) 52 51 6 52)) (w6 [wP 60 2,qq 61 60,wu 62 61 8,qe 63 62,wL 64 63 2 2,wF 65 63 64,qF 66 63 (qG 4 65 wy),wL 67 63 0 66,wF 68 63 67,xl 69 63 .neq 68 (qj 13),xV 70 63 69] 70 xG (wv [qt 71 4 2,qq 72 71,qW 73 72,qy 74 .gtr 73 0,qe 75 74,wL 76 75 0 2,wF 77 75 76,xl 78 75 .neq 77 (qj 5),xV 79 75 78,qe 80 79,wM 81 80 3 2,wI 82 80 81,qD 83 80 (qP 82),xN 84 80 .gtr 83 wy,xc 85 80 84,wL 86 85 0 2,wF 87 85 86,xl 88 85 .neq 87 (qj 5),qD 89 80 (qJ 85 (.t 88) qB),xc 90 80 89,wL 91 90 0 2,wF 92 90 91,xl 93 90 .neq 92 (qj 6),qD 94 80 (qJ 90 (.t 93) qB),xo 95 80 94] (qU 95 xG) [yc 96 2,qq 97 96,wN 98,ym 99 98 1,wS 100 bL 97 99,qe 101 100,wL 102 101 4 2,wF 103 101 102,yh 104 101 1,xl 105 101 .sub 104 xa,qF 106 101 (.call bL (wQ 103 (.t 105))),xV 107 101 106,qe 4 107]))))⟩
theorem pH:al Tryz.prog io=some ir:=by kernel_rfl
def nX:FK:=⟨19,w7,yr xG [yf] 0 (xL [wV 6,wl 7,qW 8 7,ww 9 6 8] 9 0 1 (xq [xX,wV 13,wd 14 5 12 13,qI 15 5 14,wN 16,wS 17 io 15 16,wA 18 17] 18 xG) (wV 10) 11 10 5 11) [qc 4 wq]⟩
theorem zk:al Tryz.prog bL=some nX:=by kernel_rfl
def tS:FK:=⟨32,xe,yr [xE 1 3,xA] [wx 3] 0 (xL [xZ 4,xk 5 1,qq 6 5,qW 7 6,ww 8 4 7] 8 0 1 (xq [xk 11 1,qq 12 11,xZ 13,wd 14 1 12 13,qq 15 14,wK 16 bZ 15,wA 17 16] 17 [xA]) (xZ 9) 10 9 3 10) [wP 18 1,qq 19 18,wK 20 bZ 19,qe 21 20,wL 22 21 1 1,wF 23 21 22,qF 24 21 (qP 23),xl 25 21 .leq 24 (qj 3),xV 26 21 25,qe 27 26,wL 28 27 2 1,wF 29 27 28,qF 30 27 (.call bL (wQ 29 (qj 4))),xV 31 27 30,qe 2 31]⟩
theorem DP:al Tryz.prog np=some tS:=by kernel_rfl
def jC:FK:=⟨29,xe,qL [xC] (xJ (wl 5) (qW 6 5) 3 6) (wT [xg] 0 (xL [xv 7,wl 8,qW 9 8,ww 10 7 9] 10 0 1 (.reg [xZ 13,wl 14,xv 15,wd 16 5 14 15,yc 17 16,wl 21,xv 22,wd 23 5 21 22,qt 24 4 23,qq 18 17,qq 25 24,wK 19 dN 18,xx 24 25,qZ 20 .add 13 19,wK 26 dN 25,qZ 27 .add 20 26,qe 3 27]) (xv 11) 12 11 4 12) (wH (xZ 28) 2 28))⟩
theorem nI:al Tryz.prog dN=some jC:=by kernel_rfl
def sC:FK:=⟨22,xe,qL [xE 1 1,xC] [wx 3] (wT [xg] 0 (xL [xv 5,wP 6 1,qq 7 6,qW 8 7,ww 9 5 8] 9 0 1 (.reg [xZ 12,wP 13 1,qq 14 13,xv 15,wd 16 3 14 15,xm 17 16,qq 18 17,wK 19 dN 18,qZ 20 .add 12 19,qe 3 20]) (xv 10) 11 10 4 11) (wH (xZ 21) 2 21))⟩
theorem BJ:al Tryz.prog mH=some sC:=by kernel_rfl
def jh:FK:=⟨26,xe,xW [xE 1 1,xA] [wP 4 1,qq 5 4,qW 6 5,ye 7 (yl 6 xa 4),wA 8 7] 8 [xA] (wT [wx 3] 0 (xL [xZ 9,wP 10 1,qq 11 10,qW 12 11,ww 13 9 12] 13 0 1 (xq [wP 16 1,qq 17 16,xZ 18,wd 19 3 17 18,qI 20 3 19,wK 21 np 20,wA 22 21] 22 [xA]) (xZ 14) 15 14 3 15) [qI 23 1 1,wK 24 mH 23,qy 25 .leq 24 40,qe 2 25])⟩
theorem oX:al Tryz.prog eN=some jh:=by kernel_rfl
def tR:FK:=⟨22,w7,yr [xE 2 1,xg] [yf] 0 (xL [wV 6,wP 7 2,qq 8 7,qW 9 8,ww 10 6 9] 10 0 1 (xq [wP 13 2,qq 14 13,wV 15,wd 16 3 14 15,wP 17 16,qq 18 17,wN 19,qb 20 (xH .eql 18 (.t 19))] 20 (wH (wV 21) 4 21)) (wV 11) 12 11 5 12) x8⟩
theorem CG:al Tryz.prog iJ=some tR:=by kernel_rfl
def fB:FK:=⟨13,[],qd [wl 4,wt 5 4,qt 6 4 5,qq 7 6,wu 8 7 0] (xU 8 [wl 9,wN 10,wt 11 9,qt 12 4 11,xz 12 10])⟩
theorem rq:al Tryz.prog bk=some fB:=by kernel_rfl
def fw:FK:=⟨27,w7,yr [xg] [wl 6,wt 7 6,xm 8 7,qq 9 8,qW 10 9,ym 11 10 1,qe 5 11] 0 (w8 [wV 12,qy 13 .geq 12 0] 13 0 1 (xq [wl 16,wt 17 16,xm 18 17,qq 19 18,wV 20,wd 21 3 19 20,wP 22 21,qq 23 22,wN 24,qb 25 (xH .eql 23 (.t 24))] 25 (wH (wV 26) 4 26)) (xJ (wV 14) (ym 15 14 1) 5 15)) x8⟩
theorem rh:al Tryz.prog dg=some fw:=by kernel_rfl
def pz:FK:=⟨11,xe,qL [qc 2 (.c wD)] [wl 4,qy 5 .rem 4 26,wV 3] (qw [xZ 6,xZ 7,xi 8 7,qb 9 (.slStr (.c (wh [97,98,99,100,101,102,103,104,105,106,107,108,109,110,111,112,113,114,115,116,117,118,119,120,121,122])) (some (.t 6)) (some (.t 8))),qb 10 (.bins .add (.c (wh [118])) (.t 9)),yt 2])⟩
theorem An:al Tryz.prog iz=some pz:=by kernel_rfl
def fP:AK:=qL [qc 6 (.c wD)] [wl 8,wN 9,wS 10 dg 8 9,yt 7] (.cut (qd [qe 11 7,qy 12 .geq 11 0,qe 13 12,yh 14 13 0,qF 15 13 (qM 14),wL 16 13 2 15,wF 17 13 16,yh 18 13 7,qF 19 13 (qG 3 17 (.t 18)),wL 20 13 2 19,wF 21 13 20,yh 22 13 2,xl 23 13 .eql 21 (.t 22),xV 24 13 23] (xU 24 [wl 25,wR 26 bk 25 (qj 2)])) (qL [wl 27,wl 28,wt 29 28,xm 30 29,wN 32,wl 33,wt 34 33,yc 35 34,qe 37 2,qq 31 30,qq 36 35,xu 38 [wD,qR,qR] [xD 0 32,xD 1 36,xD 2 37],qb 39 (.bslP 3 [wD,qR,qR] 1 [xw 0 3 38]),qb 40 (yk 3 32 31 (.t 39)),wt 41 27,xm 42 41,xz 42 40] [wl 43,wl 44,wt 45 44,yc 46 45,qq 47 46,xi 48 47,wt 49 43,yc 50 49,xz 50 48] (qw [wl 51,wt 52 51,yc 53 52,qq 54 53,ym 55 54 1,wK 56 iz 55,qe 6 56])))
def fQ:FK:=⟨57,wW 6,(AK.whole fP)⟩
theorem si:al Tryz.prog dE=some fQ:=by kernel_rfl
def kM:FK:=⟨23,w7,qL [qc 4 (.c wD)] [wl 6,wN 7,wS 8 dg 6 7,yi 5] (wv [wV 9,xP 10 9 0] (qH 10 (wZ [wl 11,wR 12 bk 11 (qj 3)] (wH (wN 13) 4 13))) [wl 14,wt 15 14,xm 16 15,qq 17 16,wV 18,wd 19 3 17 18,xk 20 19,qq 21 20,wK 22 iz 21,qe 4 22])⟩
theorem sA:al Tryz.prog dB=some kM:=by kernel_rfl
def fz:AK:=qd [wn 3 4 1,we 4 [qR,qR,wD,.nils]] (xR (qd [wP 8 3,qq 9 8,wu 10 9 2] (xU 10 [wl 11,xm 12 3,qq 13 12,wS 14 dB 11 13,xm 15 3,xz 15 14])) (qd [wP 16 3,qq 17 16,wu 18 17 13] (qH 18 (qL [wl 19,wt 20 19,wP 21 20,xm 23 3,qI 22 1 21,qq 24 23,wS 25 iJ 22 24,qe 5 25] [wV 26,xP 27 26 0,qe 28 27,xc 29 28 5,xc 30 28 0,qD 31 28 (qM 30),wM 32 28 1 31,wI 33 28 32,xN 34 28 .geq 29 (.t 33),xo 35 28 34] (wY 35 (.reg [wl 36,wR 37 bk 36 (qj 4)]) [wl 38,wt 39 38,wP 40 39,wP 41 40,wV 43,yc 48 3,qq 42 41,wd 44 3 42 43,xk 45 44,qq 46 45,qW 47 46,qq 49 48,qW 50 49,qZ 51 .neq 47 50] (xU 51 [wl 52,wR 53 bk 52 (qj 5)]))))) (qd (wH (wE 54 4 [qR,qR,wD,.nils] 0 []) 6 54) (qx [wx 7] (qN 0 (xL [qe 55 7,yc 56 3,qq 57 56,qW 58 57,ww 59 55 58] 59 0 1 (.reg [yg 62,wl 63,yc 64 3,qq 65 64,qe 66 7,wd 67 4 65 66,qI 68 4 67,wS 69 cm 63 68,wE 70 4 [qR,qR,wD,.nils] 1 [xw 0 4 69],qb 71 (yk 4 56 62 (.t 70)),qe 6 71]) (qe 60 7) 61 60 7 61)) (wZ [yg 72,yc 73 3,xz 73 72] [qI 74 4 3,q8 4 4 74]))))
def ft:FK:=⟨75,[.c 4 (some 4)],(AK.whole fz)⟩
theorem rB:al Tryz.prog cm=some ft:=by kernel_rfl
def ex:AK:=qL [qc 6 xt] (wH (wE 13 5 [qR,wD,.nils,.nils,.nils] 0 []) 7 13) (qd [wl 14,wt 15 14,xm 16 15,qq 17 16,qW 18 17,qe 8 18] (qx [wx 9] (qN 0 (xL [qe 19 9,wN 20,qW 21 20,ww 22 19 21] 22 0 1 (qL [wN 25,qe 26 9,wd 27 5 25 26,qI 28 5 27,we 10 [qR,wD,.nils,.nils,.nils],q8 5 10 28] (wH (wE 29 4 [qR,qR,wD,.nils] 0 []) 11 29) (qx [wx 12] (qN 2 (xL [qe 30 12,xm 31 10,qq 32 31,qW 33 32,ww 34 30 33] 34 2 3 (.reg [qe 37 11,wl 38,xm 39 10,qq 40 39,qe 41 12,wd 42 4 40 41,qI 43 4 42,wS 44 cm 38 43,wE 45 4 [qR,qR,wD,.nils] 1 [xw 0 4 44],qb 46 (yk 4 56 37 (.t 45)),qe 11 46]) (qe 35 12) 36 35 12 36)) (xR (.reg [qe 47 11,xm 48 10,xz 48 47]) (qd [wP 49 10,qq 50 49,wu 51 50 1] (xU 51 [wl 52,xk 53 10,qq 54 53,qe 55 2,qp 56 dE (yb 52 (.t 54) 55),xk 57 10,xz 57 56])) (.cut (qd [wP 58 10,qq 59 58,wu 60 59 2] (xU 60 [wl 61,xk 62 10,qq 63 62,wS 64 dB 61 63,xk 65 10,xz 65 64])) (qL [wl 66,yc 67 10,qq 68 67,qe 69 2,xi 70 69,qp 71 bS (yb 66 (.t 68) 70),yc 72 10,xz 72 71] [wl 73,qt 74 4 10,qq 75 74,qe 76 2,xi 77 76,qp 78 bS (yb 73 (.t 75) 77),qt 79 4 10,xz 79 78] (.reg [qe 80 7,qI 81 5 10,wE 82 5 [qR,wD,.nils,.nils,.nils] 1 [xw 0 5 81],qb 83 (yk 5 96 80 (.t 82)),qe 7 83])))))) (qe 23 9) 24 23 9 24)) (.cut (qd [qe 84 2,qy 85 .gtr 84 0] (xU 85 [wl 86,wl 87,wt 88 87,xm 89 88,qq 90 89,yi 91,qb 92 (.slS 3 (.t 90) none (some (.t 91))),wt 93 86,xm 94 93,xz 94 92])) (qw (wH (qe 95 7) 6 95)))))
def eI:FK:=⟨96,wW 6,(AK.whole ex)⟩
theorem oY:al Tryz.prog bS=some eI:=by kernel_rfl
def nq:AK:=qL [xE 2 1,we 4 [wD,.nils,.nils],yf,wx 6] [qI 11 1 2,wN 12,xu 13 [.nils,qR,.nils,qR,qR] [xD 0 11,xD 1 12],wn 14 5 13,qe 7 14] (xR (.reg [wP 15 2,qq 16 15,wN 17,wd 18 3 16 17,qI 19 3 18,we 8 [wD,.nils,.nils],q8 3 8 19]) (qd [qI 20 1 2,wP 21 8,qq 22 21,wS 23 iJ 20 22,wN 24,qZ 25 .neq 23 24] (xU 25 [qe 26 7,wR 27 bk 26 (qj 2)])) (qd (wH (wE 28 1 [wD] 0 []) 9 28) (qx [wx 10] (qN 0 (xL [yt 29,xk 30 8,qq 31 30,qW 32 31,ww 33 29 32] 33 0 1 (.reg [qe 36 9,qe 37 7,xk 38 8,qq 39 38,yt 40,wd 41 1 39 40,qq 42 41,qp 43 dE (ya 37 (.t 42) wy),wE 44 1 [wD] 1 [xD 0 43],qb 45 (yk 1 16 36 (.t 44)),qe 9 45]) (yt 34) 35 34 10 35)) (qL [qe 46 9,xk 47 8,xz 47 46] [qe 48 7,xm 49 8,qq 50 49,qp 51 bS (ya 48 (.t 50) wy),xm 52 8,xz 52 51] (qw [qe 54 7,wt 55 54,qt 56 4 55,qe 58 7,wt 59 58,yc 60 59,qI 53 3 8,qq 57 56,qq 61 60,q8 3 4 53,xx 56 57,xx 60 61,qe 5 57,qe 6 61])))))
def oq:FK:=⟨62,[.c 4 (some 3),.t 5,.t 6],(AK.whole nq)⟩
theorem Di:al Tryz.prog kJ=some oq:=by kernel_rfl
def ji:FK:=⟨27,xe,xW [xE 1 1,xC] [qI 7 1 1,wK 8 eN 7,wA 9 8] 9 (xY 2 1) (wT [wx 3] 0 (xL [xZ 10,wP 11 1,qq 12 11,qW 13 12,ww 14 10 13] 14 0 1 (qL [qI 18 1 1,xZ 19,wS 20 kJ 18 19,qe 17 20,xb 21 0 17,xb 22 1 17,xb 23 2 17,we 4 [wD,.nils,.nils],q8 3 4 21,qe 5 22,qe 6 23] [wV 24,qy 25 .neq 24 0] (qU 25 (wH (wV 26) 2 26))) (xZ 15) 16 15 3 16) [xC])⟩
theorem pn:al Tryz.prog eM=some ji:=by kernel_rfl
def pK:FK:=⟨6,xe,wZ [xE 1 1,xA] [qI 3 1 1,wK 4 eM 3,wu 5 4 0,wV 2]⟩
theorem Ah:al Tryz.prog kW=some pK:=by kernel_rfl
def lc:FK:=⟨15,wW 6,wZ [yp] [wN 7,wl 8,qZ 9 .leq 7 8,qe 10 9,yh 11 10 0,yh 12 10 2,xl 13 10 .leq 11 (.t 12),xV 14 10 13,qe 6 14]⟩
theorem zZ:al Tryz.prog du=some lc:=by kernel_rfl
def jd:FK:=⟨21,wW 6,yr [wx 6] [wl 9,qb 10 (.rngS (.t 9))] 0 (xM [qb 11 (.nxtS (.t 10)),xb 12 0 11] 12 0 (.blk 1 (qL [xb 13 1 11,xb 14 2 11,qe 7 13,qe 8 14] [wN 15,yi 16,qb 17 (xO 15 (wJ 16)),qe 18 2,qb 19 (.beq false (.t 17) (.t 18))] (qU 19 (wH (qe 20 7) 6 20))))) (x7 6)⟩
theorem oV:al Tryz.prog eD=some jd:=by kernel_rfl
def jc:FK:=⟨8,w7,wZ [xg] [wl 5,wN 6,qp 7 eD (ya 5 (.t 6) wq),qe 4 7]⟩
theorem pi:al Tryz.prog eE=some jc:=by kernel_rfl
def gx:FK:=⟨19,w7,yr [xg] [wl 6,qW 7 6,wx 8] 0 (x9 [ww 9 8 7] 9 0 1 (qL (wH (yi 10) 5 10) [wN 11,xX,wV 13,wd 14 1 12 13,qq 15 14,qb 16 (xH .eql 11 (.t 15))] (qU 16 (wH (wV 17) 4 17))) (xQ 18 8 8 18)) x8⟩
theorem nj:al Tryz.prog dx=some gx:=by kernel_rfl
def fb:FK:=⟨9,w7,wZ xG [wl 5,wN 6,wS 7 dx 5 6,qy 8 .geq 7 0,yi 4]⟩
theorem kX:al Tryz.prog cK=some fb:=by kernel_rfl
def mV:FK:=⟨9,xe,wZ [xA] [wl 3,qu 4 .lss 3 (.c (qf .i32 97)),xv 5,xc 6 5 0,xN 7 5 .gtr 6 (.c (qf .i32 122)),xo 8 5 7,yi 2]⟩
theorem ux:al Tryz.prog cF=some mV:=by kernel_rfl
def pR:FK:=⟨17,xe,wZ [xA] [wl 3,qb 4 (.len true (.t 3)),xB 5 (yl 4 xa 4),wV 6,yh 7 6 0,qF 8 6 (.call eE (wQ 7 (.c (.fn (.func cF) [])))),xl 9 6 .lss 8 wy,xV 10 6 9,yt 11,qF 12 11 (.slA 9 1 (.c (.gp 0 0)) none none),yh 13 11 0,qF 14 11 (.call cK (wQ 12 (.t 13))),qF 15 11 (qT 14),xV 16 11 15,qe 2 16]⟩
theorem Ae:al Tryz.prog ca=some pR:=by kernel_rfl
def ew:FK:=⟨19,w7,yr [xg] [wl 6,qW 7 6,wx 8] 0 (x9 [ww 9 8 7] 9 0 1 (qL (wH (yi 10) 5 10) [wN 11,xX,wV 13,wd 14 1 12 13,qq 15 14,qb 16 (xO 11 (wJ 15))] (qU 16 (wH (wV 17) 4 17))) (xQ 18 8 8 18)) x8⟩
theorem ky:al Tryz.prog cD=some ew:=by kernel_rfl
def dp:FK:=⟨9,w7,wZ xG [wl 5,wN 6,wS 7 cD 5 6,qy 8 .geq 7 0,yi 4]⟩
theorem iU:al Tryz.prog bO=some dp:=by kernel_rfl
def dm:FK:=⟨19,w7,yr [xg] [wl 6,qW 7 6,wx 8] 0 (x9 [ww 9 8 7] 9 0 1 (qL (wH (yi 10) 5 10) [wN 11,xX,wV 13,wd 14 5 12 13,qI 15 5 14,qb 16 (xO 11 (wJ 15))] (qU 16 (wH (wV 17) 4 17))) (xQ 18 8 8 18)) x8⟩
theorem iQ:al Tryz.prog bP=some dm:=by kernel_rfl
def cM:FK:=⟨9,w7,wZ xG [wl 5,wN 6,wS 7 bP 5 6,qy 8 .geq 7 0,yi 4]⟩
theorem gm:al Tryz.prog bB=some cM:=by kernel_rfl
def aX:FK:=⟨20,[.t 2,.t 3,.t 4,.t 5],qd [xC,wj 3,wz,wj 5] (wv [wl 6] (.blk 0 (qx (wU 8 6 1 7 8) (qo 7 .skip (.reg (wU 9 6 2 7 9))) (qo 7 (qw [qz 2 1,qc 3 wq,wz,wj 5]) (qx (wU 11 6 3 10 11) (xS 10 .skip 12 6 7 10 12 (qo 10 .skip (.reg (wU 13 6 8 10 13)))) (xS 10 (qw [qz 2 1,wj 3,wz,wj 5]) 15 6 4 14 15 (xS 14 (qw [qz 2 2,wj 3,wz,wj 5]) 17 6 5 16 17 (xS 16 (qw [qz 2 1,wj 3,qc 4 wq,qc 5 wq]) 19 6 6 18 19 (qU 18 [qz 2 1,wj 3,qc 4 wq,wj 5])))))))) [qz 2 (-1),wj 3,wz,wj 5])⟩
theorem uM:al Tryz.prog fj=some aX:=by kernel_rfl
def pB:FK:=⟨5,xe,wZ [xA] [wl 3,xB 4 (yl 3 wy 255),xv 2]⟩
theorem zV:al Tryz.prog iy=some pB:=by kernel_rfl
def dS:FK:=⟨20,xe,qd [xC] (qQ 0 (qd [qb 4 (.ld none (.c (.gp 1 0))),wl 5,qb 6 (.lk 0 (.agg [wD,qR]) false (.t 4) (.t 5)),qb 7 (.fldv 1 none (.t 6)),qy 8 .gtr 7 0,yi 3] (wY 3 (qw [qb 9 (.ld none (.c (.gp 1 0))),wl 10,qb 11 (.lk 0 (.agg [wD,qR]) false (.t 9) (.t 10)),qb 12 (.fldv 1 none (.t 11)),qe 2 12]) [wl 14,wu 15 14 11,qe 16 15,xc 17 16 0,xN 18 16 .eql 17 (qj 12),xo 19 16 18,qe 13 19] (qU 13 (xY 2 5)))) (qw (xY 2 6)))⟩
theorem zB:al Tryz.prog jQ=some dS:=by kernel_rfl
def iW:AK:=qL [xE 2 4,xg,yf,yp] [wx 7,wx 8] (xR (.blk 0 (qd [wP 17 2,qq 18 17,wu 19 18 1,qe 16 19] (wY 16 (xq [xk 20 2,qq 21 20,wK 22 iy 21,wA 23 22,qe 24 23,wM 25 24 2 2,wI 26 24 25,qD 27 24 (xH .neq 26 (.c wD)),xo 28 24 27] 28 [xg,yf,yp]) [wP 30 2,qq 31 30,wu 32 31 2,qe 29 32] (wY 29 (xq [xm 33 2,qq 34 33,wK 35 ca 34,wA 36 35,qe 37 36,wM 38 37 1 2,wI 39 37 38,xN 40 37 .neq 39 wy,xo 41 37 40] 41 [xg,yf,yp]) [wP 43 2,qq 44 43,wu 45 44 13,qe 42 45] (wY 42 (qL (xY 8 3) [xm 46 2,qq 47 46,wK 48 ca 47,wA 49 48,qe 50 49,wM 51 50 1 2,wI 52 50 51,xN 53 50 .neq 52 wy,xo 54 50 53] (qU 54 [xg,yf,yp])) [qb 56 (.ld none (.c (.gp 1 0))),wP 57 2,qq 58 57,qb 59 (.lk 0 (.agg [wD,qR]) false (.t 56) (.t 58)),qb 60 (.fldv 1 none (.t 59)),qy 61 .gtr 60 0,qe 55 61] (wY 55 (.reg [qz 7 2,qz 8 2]) [wP 63 2,qq 64 63,wu 65 64 11,qe 66 65,wM 67 66 0 2,wI 68 66 67,xN 69 66 .eql 68 (qj 12),xo 70 66 69,qe 62 70] (qo 62 (.reg [qz 7 1,qz 8 1]) (qw [xg,yf,yp])))))))) (xq [wP 71 2,qq 72 71,wK 73 jQ 72,xP 74 73 6,qe 75 74,wL 76 75 1 2,wF 77 75 76,xl 78 75 .neq 77 wy,yh 79 75 78,wM 80 79 2 2,wI 81 79 80,qD 82 79 (xH .neq 81 (.c wD)),qF 83 75 (qJ 79 wq (.t 82)),xV 84 75 83,qe 85 84,wM 86 85 3 2,wI 87 85 86,qD 88 85 (qP 87),xc 89 85 7,xc 90 85 8,xj 91 85 du (yb 88 (.t 89) 90),xT 92 85 91,xo 93 85 92,qe 94 93,xc 95 94 1,xN 96 94 .lss 95 xa,xo 97 94 96] 97 [xg,yf,yp]) (yr [qz 9 1,qz 10 1] [yc 98 2,qq 99 98,qW 100 99,wx 101] 1 (x9 [ww 102 101 100] 102 1 2 (qL [wd 103 4 99 101,qI 104 4 103,we 12 [qR,qR,wD,.nils],q8 4 12 104] [qI 106 4 12,wN 107,ym 108 107 1,wS 109 fk 106 108,qe 105 109,xb 110 0 105,xb 111 1 105,xb 112 2 105,qe 13 110,qe 14 111,qe 15 112] (w6 [qe 113 15,wA 114 113] 114 [xg,yf,yp] (yq [qe 115 9,qe 116 13,qZ 117 .add 115 116,qe 9 117] [yt 118,qe 119 14,xi 120 119,qb 121 (.mx (.t 118) (.t 120)),qe 10 121]))) (xQ 122 101 101 122)) [qe 123 9,yt 124,qe 125 9,qy 126 .leq 125 30,qe 4 123,qe 5 124,qe 6 126]))
def iS:FK:=⟨127,[.t 4,.t 5,.t 6],(AK.whole iW)⟩
theorem uL:al Tryz.prog fk=some iS:=by kernel_rfl
def lK:FK:=⟨13,xe,qL [xE 1 4,xA] [qI 7 4 1,wR 8 fk 7 (qj 6),yi 6,xb 9 0 6,xb 10 1 6,xb 11 2 6,qe 3 9,yt 4,qe 5 11] (qw (wH (wV 12) 2 12))⟩
theorem tA:al Tryz.prog dY=some lK:=by kernel_rfl
def ik:FK:=⟨91,w7,qL [xE 2 5,wz] [wP 12 2,qq 13 12,wK 14 fj 13,qe 11 14,xb 15 0 11,xb 16 1 11,xb 17 2 11,xb 18 3 11,qe 5 15,qe 6 16,qe 7 17,qe 8 18] (qQ 0 (qx (xJ (wN 20) (qy 21 .gtr 20 4) 19 21) (wY 19 .skip [xm 22 2,qq 23 22,qW 24 23,wV 25,qZ 26 .neq 24 25,qe 19 26] (wY 19 .skip [yg 27,qe 28 27,wL 29 28 1 2,wF 30 28 29,qF 31 28 (.call ca (wJ 30)),qF 32 28 (qT 31),xV 33 28 32,qe 19 33] (wY 19 .skip [yg 34,wA 35 34,qe 36 35,wL 37 36 1 2,wF 38 36 37,qF 39 36 (xH .neq 38 (.c wD)),xV 40 36 39,qe 19 40] (wY 19 .skip [qe 41 7,wA 42 41,qe 43 42,wL 44 43 3 2,wF 45 43 44,qF 46 43 (qP 45),xl 47 43 .gtr 46 wy,xV 48 43 47,qe 19 48] (wY 19 .skip [yi 49,wA 50 49,qe 51 50,wL 52 51 4 2,wF 53 51 52,qF 54 51 (qP 53),xl 55 51 .gtr 54 wy,xV 56 51 55,qe 19 56] (qo 19 .skip (.reg [wP 57 2,qq 58 57,wu 59 58 8,qe 60 59,wL 61 60 2 2,wF 62 60 61,qF 63 60 (qG 4 62 wy),wL 64 60 0 63,wF 65 60 64,xl 66 60 .neq 65 (qj 13),xV 67 60 66,qe 19 67]))))))) (qU 19 xG)) (wT [xm 68 2,qq 69 68,qW 70 69,wx 71] 1 (x9 [ww 72 71 70] 72 1 2 (qL [wd 73 4 69 71,qI 74 4 73,we 10 [qR,qR,wD,.nils],q8 4 10 74] [qI 75 4 10,wK 76 dY 75,wA 77 76] (qU 77 xG)) (xQ 78 71 71 78)) [yc 79 2,qq 80 79,wN 81,xi 82 81,wS 83 ce 80 82,qe 84 83,wL 85 84 4 2,wF 86 84 85,yh 87 84 1,xl 88 84 .add 87 xa,qF 89 84 (.call ce (wQ 86 (.t 88))),xV 90 84 89,qe 4 90]))⟩
theorem pw:al Tryz.prog iq=some ik:=by kernel_rfl
def lY:FK:=⟨8,wW 3,wZ [xE 2 5,wj 3] [qI 4 5 2,qq 5 1,wS 6 iq 4 5,wA 7 6,qe 3 7]⟩
theorem sU:al Tryz.prog cd=some lY:=by kernel_rfl
def oo:FK:=⟨9,w7,wZ [wn 3 1 1,wz] [wl 5,qb 6 (xI cd (wJ 3)),wS 7 bB 5 6,wA 8 7,yi 4]⟩
theorem vQ:al Tryz.prog ce=some oo:=by kernel_rfl
def rQ:FK:=⟨31,[],qd [wl 8,qW 9 8,wx 10] (qN 0 (x9 [ww 11 10 9] 11 0 1 (qL [wd 12 5 8 10,qI 13 5 12,we 7 [qR,wD,.nils,.nils,.nils],q8 5 7 13] [qe 14 2,qI 15 5 7,wN 16,qb 17 (xO 14 (wQ 15 (.t 16)))] (yq [yc 18 7,qq 19 18,wN 20,xi 21 20,qe 22 2,qp 23 dZ (yb 19 (.t 21) 22)] [qt 24 4 7,qq 25 24,wN 26,xi 27 26,qe 28 2,qp 29 dZ (yb 25 (.t 27) 28)])) (xQ 30 10 10 30)))⟩
theorem Ce:al Tryz.prog dZ=some rQ:=by kernel_rfl
def lS:FK:=⟨11,[],qL [xE 4 5] [qq 6 2,xi 7 6,xz 2 7] (.reg [qq 8 3,wN 9,qb 10 (.mx (.t 8) (.t 9)),xz 3 10])⟩
theorem tj:al Tryz.prog ef=some lS:=by kernel_rfl
def od:FK:=⟨20,[.c 2 none,.c 3 none],yr [xE 1 1,we 2 [qR],we 3 [qR]] [wP 6 1,qq 7 6,qW 8 7,wx 9] 0 (x9 [ww 10 9 8] 10 0 1 (yq [wd 11 3 7 9,qI 12 3 11,we 5 [wD,.nils,.nils],q8 3 5 12] [xm 13 5,qq 14 13,qb 15 (xI ef (wQ 2 (.t 3))),qp 16 dZ (yb 14 xa 15)]) (xQ 17 9 9 17)) [qq 18 2,qq 19 3,xz 2 18,xx 3 19,xz 3 19]⟩
theorem zf:al Tryz.prog jM=some od:=by kernel_rfl
def gu:FK:=⟨6,xe,wZ [xA] [wl 3,wK 4 ca 3,wA 5 4,wV 2]⟩
theorem nn:al Tryz.prog bf=some gu:=by kernel_rfl
def jl:FK:=⟨48,xe,xW [xE 1 1,xA] [wP 7 1,qq 8 7,qW 9 8,xB 10 (yl 9 xa 4),wA 11 10] 11 [xA] (qx [wP 12 1,qq 13 12,qW 14 13,wx 15] (qN 0 (x9 [ww 16 15 14] 16 0 1 (qL [wd 17 3 13 15,qI 18 3 17,we 4 [wD,.nils,.nils],q8 3 4 18] [wP 19 4,qq 20 19,wK 21 ca 20,wA 22 21,qe 23 22,wM 24 23 1 4,wI 25 23 24,qD 26 23 (qP 25),xN 27 23 .gtr 26 (qj 3),xo 28 23 27,qe 29 28,wM 30 29 1 4,wI 31 29 30,xj 32 29 bO (wQ 31 (.c (.fn (.func bf) []))),xo 33 29 32,qe 34 33,wM 35 34 2 4,wI 36 34 35,xj 37 34 ce (wQ 36 xa),xT 38 34 37,xo 39 34 38] (qU 39 [xA])) (xQ 40 15 15 40))) (wZ [qI 42 1 1,wK 43 jM 42,qe 41 43,xb 44 0 41,xb 45 1 41,qe 5 44,qe 6 45] (xJ (wV 46) (qy 47 .leq 46 40) 2 47)))⟩
theorem oU:al Tryz.prog eQ=some jl:=by kernel_rfl
def dU:FK:=⟨19,w7,yr [xg] [wl 6,qW 7 6,wx 8] 0 (x9 [ww 9 8 7] 9 0 1 (qL (wH (yi 10) 5 10) [wN 11,xX,wV 13,wd 14 3 12 13,qI 15 3 14,qb 16 (xO 11 (wJ 15))] (qU 16 (wH (wV 17) 4 17))) (xQ 18 8 8 18)) x8⟩
theorem jF:al Tryz.prog co=some dU:=by kernel_rfl
def pA:FK:=⟨8,wW 3,wZ [xE 2 3,wj 3] [wP 4 2,qq 5 4,qq 6 1,qb 7 (xH .eql 5 (.t 6)),qe 3 7]⟩
theorem zQ:al Tryz.prog eZ=some pA:=by kernel_rfl
def ug:FK:=⟨9,w7,wZ [xE 2 1,wn 3 1 1,xg] [wP 5 2,qq 6 5,qb 7 (xI eZ (wJ 3)),wS 8 co 6 7,yi 4]⟩
theorem CW:al Tryz.prog iF=some ug:=by kernel_rfl
def ey:FK:=⟨13,[],qd [wl 4,wt 5 4,xm 6 5,qq 7 6,wu 8 7 0] (xU 8 [wl 9,wN 10,wt 11 9,xm 12 11,xz 12 10])⟩
theorem pg:al Tryz.prog bT=some ey:=by kernel_rfl
def fS:FK:=⟨7,xe,wZ [qc 2 (.c .nilp)] [qb 3 .mkm,wl 4,xu 5 [.nilm,.nilp] [xD 0 3,xD 1 4],wn 6 2 5,yg 2]⟩
theorem rM:al Tryz.prog aU=some fS:=by kernel_rfl
def rD:FK:=⟨20,[],qL [xE 2 4] [wN 6,qI 7 4 2,qb 8 (xO 6 (wJ 7))] (qd [yc 9 2,qq 10 9,qW 11 10,wx 12] (qN 0 (x9 [ww 13 12 11] 13 0 1 (yq [wd 14 4 10 12,qI 15 4 14,we 5 [qR,qR,wD,.nils],q8 4 5 15] [qI 16 4 5,wN 17,wS 18 ju 16 17]) (xQ 19 12 12 19))))⟩
theorem Bv:al Tryz.prog ju=some rD:=by kernel_rfl
def fV:FK:=⟨25,[.t 4,.t 5],xf [xg,wj 5] (qN 0 (w8 [wl 8,qb 9 (.pnil 0 true (.t 8))] 9 0 1 (qL [wl 15,wt 16 15,wP 17 16,qq 18 17,wN 19,qb 20 (.lk 1 qR true (.t 18) (.t 19)),qe 14 20,xb 21 0 14,xb 22 1 14,qe 6 21,qe 7 22] [qe 23 7] (qU 23 [yg 24,qe 4 24,qc 5 wq])) [wl 10,wt 11 10,xk 12 11,qq 13 12,qe 0 13])) (qw [xg,wj 5])⟩
theorem kz:al Tryz.prog aT=some fV:=by kernel_rfl
def gv:FK:=⟨58,[],qL [xE 3 4] [wP 7 3,qq 8 7] (.blk 0 (qd (wU 10 8 2 9 10) (xS 9 (qL [qq 12 1,xm 13 3,qq 14 13,wS 15 aT 12 14,qe 11 15,xb 16 0 11,xb 17 1 11,qe 4 16,qe 5 17] [wV 18,wA 19 18] (xU 19 [qq 20 2,x6 21 20 (qj 3)])) 23 8 13 22 23 (qH 22 (qL [xm 35 3,qq 24 2,wt 25 24,wP 26 25,wP 27 26,qq 28 27,qq 29 2,wt 30 29,xk 31 30,qq 32 31,qb 33 (.slS 3 (.t 28) none (some (.t 32))),xu 34 yn [xD 0 33],qq 36 35,wS 37 iF 34 36,qe 6 37] [yg 38,xP 39 38 0] (wY 39 (.reg [qq 40 2,x6 41 40 (qj 4)]) [yg 47,yc 52 3,qq 42 2,wt 43 42,wP 44 43,wP 45 44,qq 46 45,wd 48 3 46 47,xk 49 48,qq 50 49,qW 51 50,qq 53 52,qW 54 53,qZ 55 .neq 51 54] (xU 55 [qq 56 2,x6 57 56 (qj 5)])))))))⟩
theorem nh:al Tryz.prog bC=some gv:=by kernel_rfl
def eC:FK:=⟨9,[],yq [xE 3 1,wn 4 4 1,wn 5 1 2] [qI 6 4 4,qb 7 (xI bC (wQ 5 (.t 3))),wS 8 ju 6 7]⟩
theorem pp:al Tryz.prog cP=some eC:=by kernel_rfl
def dW:AK:=qd [wN 14,qW 15 14,wx 16] (qN 0 (x9 [ww 17 16 15] 17 0 1 (qd [wd 18 5 14 16,qI 19 5 18,we 7 [qR,wD,.nils,.nils,.nils],q8 5 7 19] (qx [xm 20 7,qq 21 20,qW 22 21,wx 23] (qN 2 (x9 [ww 24 23 22] 24 2 3 (yq [wd 25 4 21 23,qI 26 4 25,we 9 [qR,qR,wD,.nils],q8 4 9 26] [wl 27,qI 28 4 9,qe 29 2,qp 30 cP (yb 27 (.t 28) 29)]) (xQ 31 23 23 31))) (.cut (qd [wP 32 7,qq 33 32] (.blk 4 (qd (wU 35 33 1 34 35) (xS 34 (qx [qe 37 2,wt 38 37,wP 39 38,xk 41 7,qq 40 39,qq 42 41,qb 43 (.lk 1 qR true (.t 40) (.t 42)),qe 36 43,xb 44 0 36,xb 45 1 36,qe 10 44,qe 11 45] (qd [qe 46 11] (xU 46 [wl 47,x6 48 47 (qj 2)])) (.reg [qe 49 2,wt 50 49,wP 51 50,xk 53 7,qq 52 51,qq 54 53,qO (.mup 1 (.t 52) (.t 54) wy)])) 56 33 2 55 56 (qH 55 (qL [qe 58 2,xk 59 7,qq 60 59,wS 61 aT 58 60,qe 57 61,xb 62 0 57,xb 63 1 57,qe 12 62,qe 13 63] [qe 64 13,wA 65 64] (xU 65 [wl 66,x6 67 66 (qj 3)]))))))) (qd [wP 68 7,qq 69 68,wu 70 69 5,qe 71 70,wM 72 71 0 7,wI 73 71 72,xN 74 71 .eql 73 (qj 6),xo 75 71 74] (qH 75 (yq [wl 76,yc 77 7,qe 79 2,qq 78 77,wK 80 aU 79,xx 77 78,qp 81 bn (yb 76 (.t 78) 80)] [wl 82,qt 83 4 7,qe 85 2,qq 84 83,wK 86 aU 85,xx 83 84,qp 87 bn (yb 82 (.t 84) 86)])))))) (xQ 88 16 16 88)))
def dJ:FK:=⟨89,[],(AK.whole dW)⟩
theorem nz:al Tryz.prog bn=some dJ:=by kernel_rfl
def eB:AK:=xW [xE 1 1,xC] [qI 11 1 1,wK 12 eQ 11,wA 13 12] 13 (xY 2 1) (yr [qI 14 1 1,xu 15 [.nils,qR,qR] [xD 0 14],wn 16 3 15,qe 3 16] [wP 17 1,qq 18 17,qW 19 18,wx 20] 0 (x9 [ww 21 20 19] 21 0 1 (qL [qe 22 20,wd 23 3 18 20,qI 24 3 23,we 5 [wD,.nils,.nils],qe 4 22,q8 3 5 24] [xZ 25,xv 26,wt 27 25,xk 28 27,xz 28 26] (.cut (qd [qI 29 1 1,wP 30 5,qq 31 30,wS 32 iF 29 31,xv 33,ww 34 32 33] (xU 34 [xZ 35,x6 36 35 (qj 2)])) (qd (wH (qp 37 aU [.c .nilp]) 6 37) (qx [xk 38 5,qq 39 38,qW 40 39,wx 41] (qN 2 (x9 [ww 42 41 40] 42 2 3 (qd (xJ (wd 43 1 39 41) (qq 44 43) 8 44) (qx [yg 46,wt 47 46,wP 48 47,qq 49 48,yi 50,qb 51 (.lk 1 qR true (.t 49) (.t 50)),qe 45 51,xb 52 0 45,xb 53 1 45,qe 9 52,qe 10 53] (qd [yt 54] (xU 54 [xZ 55,x6 56 55 (qj 2)])) (.reg [yg 57,wt 58 57,wP 59 58,qq 60 59,yi 61,qO (.mup 1 (.t 60) (.t 61) wy)]))) (xQ 62 41 41 62))) (.reg [xZ 63,xm 64 5,qq 65 64,yg 66,qp 67 bn (yb 63 (.t 65) 66)]))))) (xQ 68 20 20 68)) [xZ 69,wt 70 69,xm 71 70,qq 72 71,qe 2 72])
def eU:FK:=⟨73,xe,(AK.whole eB)⟩
theorem pq:al Tryz.prog eO=some eU:=by kernel_rfl
def ut:FK:=⟨6,xe,wZ [xE 1 1,xA] [qI 3 1 1,wK 4 eO 3,wu 5 4 0,wV 2]⟩
theorem Dj:al Tryz.prog oz=some ut:=by kernel_rfl
def fI:FK:=⟨22,w7,qL [qc 4 xt] [qc 5 xt] (wT [wl 8,qW 9 8,wx 10] 0 (x9 [ww 11 10 9] 11 0 1 (yq [wd 12 3 8 10,qI 13 3 12,we 7 [wD,.nils,.nils],q8 3 7 13] [wV 14,wN 15,qI 16 3 7,qb 17 (xO 15 (wJ 16)),wE 18 3 [qR,qR,.nils] 1 [xw 0 3 17],qb 19 (yk 3 40 14 (.t 18)),qe 5 19]) (xQ 20 10 10 20)) (wH (wV 21) 4 21))⟩
theorem mf:al Tryz.prog bN=some fI:=by kernel_rfl
def cZ:FK:=⟨10,xe,qd [xC] (wv [wl 3] (.blk 0 (qd (wU 5 3 1 4 5) (xS 4 (qw (xY 2 1)) 7 3 2 6 7 (xS 6 (qw (xY 2 2)) 9 3 3 8 9 (qU 8 [xC]))))) (x7 2))⟩
theorem tf:al Tryz.prog gV=some cZ:=by kernel_rfl
def lm:FK:=⟨9,xe,wZ [xA] [wl 3,wu 4 3 2,xv 5,xc 6 5 0,xN 7 5 .eql 6 (qj 3),xo 8 5 7,yi 2]⟩
theorem Af:al Tryz.prog ie=some lm:=by kernel_rfl
def gk:FK:=⟨19,w7,yr [xg] [wl 6,qW 7 6,wx 8] 0 (x9 [ww 9 8 7] 9 0 1 (qL (wH (yi 10) 5 10) [wN 11,xX,wV 13,wd 14 1 12 13,qq 15 14,qb 16 (xO 11 (wJ 15))] (qU 16 (wH (wV 17) 4 17))) (xQ 18 8 8 18)) x8⟩
theorem mC:al Tryz.prog dk=some gk:=by kernel_rfl
def er:FK:=⟨9,w7,wZ xG [wl 5,wN 6,wS 7 dk 5 6,qy 8 .geq 7 0,yi 4]⟩
theorem kw:al Tryz.prog aZ=some er:=by kernel_rfl
def dG:FK:=⟨19,w7,yr [xg] [wl 6,qW 7 6,wx 8] 0 (x9 [ww 9 8 7] 9 0 1 (qL (wH (yi 10) 5 10) [wN 11,xX,wV 13,wd 14 4 12 13,qI 15 4 14,qb 16 (xO 11 (wJ 15))] (qU 16 (wH (wV 17) 4 17))) (xQ 18 8 8 18)) x8⟩
theorem jp:al Tryz.prog bX=some dG:=by kernel_rfl
def cU:FK:=⟨9,w7,wZ xG [wl 5,wN 6,wS 7 bX 5 6,qy 8 .geq 7 0,yi 4]⟩
theorem gG:al Tryz.prog bG=some cU:=by kernel_rfl
def jV:FK:=⟨19,w7,yr [xg] [wl 6,qW 7 6,wx 8] 0 (x9 [ww 9 8 7] 9 0 1 (qL (wH (yi 10) 5 10) [wN 11,xX,wV 13,wd 14 1 12 13,qq 15 14,qZ 16 .eql 11 15] (qU 16 (wH (wV 17) 4 17))) (xQ 18 8 8 18)) x8⟩
theorem pW:al Tryz.prog fu=some jV:=by kernel_rfl
def gt:FK:=⟨9,w7,wZ xG [wl 5,wN 6,wS 7 fu 5 6,qy 8 .geq 7 0,yi 4]⟩
theorem ni:al Tryz.prog dz=some gt:=by kernel_rfl
def ny:FK:=⟨33,w7,qL [xE 2 3,qc 4 xt] [qc 5 xt] (w6 [wN 8,xm 9 2,qq 10 9,qW 11 10,ym 12 11 1,xB 13 (yb 8 wy 12),wA 14 13] 14 [qc 4 xt] (wT [xm 15 2,qq 16 15,qW 17 16,wx 18] 0 (x9 [ww 19 18 17] 19 0 1 (qL [qe 20 18,wd 21 5 16 18,qI 22 5 21,we 7 [.nils,.nils,qR,qR,.nils],qe 6 20,q8 5 7 22] [qt 23 4 7,qq 24 23,wN 25,wS 26 dz 24 25] (xU 26 [wV 27,yg 28,wE 29 1 [qR] 1 [xD 0 28],qb 30 (yk 1 8 27 (.t 29)),qe 5 30])) (xQ 31 18 18 31)) (wH (wV 32) 4 32)))⟩
theorem vZ:al Tryz.prog gi=some ny:=by kernel_rfl
def mU:FK:=⟨9,wW 3,wZ [wj 3] [wl 4,xk 5 1,qq 6 5,ym 7 6 1,xB 8 (yb 4 wy 7),yi 3]⟩
theorem uB:al Tryz.prog bA=some mU:=by kernel_rfl
def mQ:FK:=⟨11,wW 3,wZ [wj 3] [wl 4,xm 5 1,qq 6 5,qW 7 6,ym 8 7 1,xB 9 (yb 4 xa 8),wA 10 9,yt 3]⟩
theorem uG:al Tryz.prog iL=some mQ:=by kernel_rfl
def sf:FK:=⟨5,xe,wZ [xA] [wl 3,xB 4 (yl 3 xa 14),xv 2]⟩
theorem BE:al Tryz.prog js=some sf:=by kernel_rfl
def tT:FK:=⟨13,xe,wZ [xA] [wl 3,wK 4 js 3,xv 5,yh 6 5 0,xl 7 5 .neq 6 (qj 12),xV 8 5 7,yi 9,yh 10 9 0,xl 11 9 .neq 10 (qj 13),xV 12 9 11,qe 2 12]⟩
theorem Dr:al Tryz.prog kH=some tT:=by kernel_rfl
def cw:FK:=⟨11,xe,qd [xC] (wv [wl 3] (.blk 0 (qd (wU 5 3 1 4 5) (qo 4 (qw [xC]) (qx (wU 7 3 2 6 7) (xS 6 .skip 8 3 10 6 8 (xS 6 .skip 9 3 11 6 9 (qo 6 .skip (.reg (wU 10 3 13 6 10))))) (qU 6 (xY 2 1)))))) (xY 2 2))⟩
theorem vD:al Tryz.prog kh=some cw:=by kernel_rfl
def oe:FK:=⟨9,wW 3,wZ [wj 3] [wl 4,xk 5 1,qq 6 5,ym 7 6 1,xB 8 (yb 4 wy 7),yi 3]⟩
theorem yz:al Tryz.prog cV=some oe:=by kernel_rfl
def nC:FK:=⟨8,wW 3,wZ [wj 3] [qq 4 1,wl 5,qb 6 (xO 4 (wJ 5)),wA 7 6,qe 3 7]⟩
theorem yZ:al Tryz.prog jA=some nC:=by kernel_rfl
def mM:AK:=qL [xE 3 1,wn 5 4 2,yp] [wP 9 3,qq 10 9,wN 11,wd 12 3 10 11,qI 13 3 12,we 7 [qR,qR,.nils],q8 3 7 13] (qd [qb 14 (xI cV (wJ 7)),we 8 [.nilf],xz 8 14] (xR (xq [wP 15 5,qq 16 15,wK 17 js 16,wA 18 17,qe 19 18,wM 20 19 2 5,wI 21 19 20,qD 22 19 (xI jA (wJ 8)),xj 23 19 aZ (wQ 21 (.t 22)),xo 24 19 23] 24 [yp]) (xq [wP 25 5,qq 26 25,wK 27 kH 26,qe 28 27,wF 29 28 8,wL 30 28 1 5,wF 31 28 30,qF 32 28 (xO 29 (wJ 31)),qF 33 28 (qT 32),xV 34 28 33,qe 35 34,wM 36 35 0 5,wI 37 35 36,xj 38 35 kH (wJ 37),xT 39 35 38,xc 40 35 39,wL 41 40 1 5,wF 42 40 41,xl 43 40 .neq 42 (qj (-1)),qD 44 35 (qJ 40 (.t 43) qB),xo 45 35 44] 45 [yp]) (wv [wP 46 5,qq 47 46] (.blk 0 (qd (wU 49 47 1 48 49) (xS 48 (qw [xm 50 5,qq 51 50,qW 52 51,wu 53 52 0,qe 54 53,wL 55 54 3 5,wF 56 54 55,qF 57 54 (.call iy (wJ 56)),xV 58 54 57,qe 6 58]) 60 47 14 59 60 (qU 59 [yc 61 5,wN 63,ym 64 63 1,qq 62 61,xB 65 (yb 62 wy 64),qe 66 65,wL 67 66 2 5,wL 70 66 0 3,wL 72 66 3 5,wF 68 66 67,qF 69 66 (qP 68),wF 71 66 70,wF 73 66 72,qF 74 66 (qG 3 71 (.t 73)),wL 75 66 0 74,wF 76 66 75,xl 77 66 .eql 69 (.t 76),xV 78 66 77,qe 6 78])))) [yc 79 5,qq 80 79,wu 81 80 0,qe 82 81,wL 83 82 2 5,wL 86 82 0 5,wF 84 82 83,qF 85 82 (qP 84),wF 87 82 86,qF 88 82 (.qcall kh (wJ 87)),xl 89 82 .eql 85 (.t 88),xV 90 82 89,qe 6 90])))
def mE:FK:=⟨91,wW 6,(AK.whole mM)⟩
theorem Ca:al Tryz.prog my=some mE:=by kernel_rfl
def mY:FK:=⟨10,w7,wZ [xE 3 4,wz] [qI 5 1 1,qq 6 2,qI 7 4 3,qp 8 my (yb 5 (.t 6) 7),wA 9 8,qe 4 9]⟩
theorem uH:al Tryz.prog iN=some mY:=by kernel_rfl
def mW:FK:=⟨8,wW 3,wZ [wj 3] [qq 4 1,wl 5,qb 6 (xO 4 (wJ 5)),wA 7 6,qe 3 7]⟩
theorem uN:al Tryz.prog iV=some mW:=by kernel_rfl
def lf:AK:=qL [xE 2 1,wn 3 1 1,wz] [wP 12 2,qq 13 12,qq 14 3,wd 15 3 13 14,qI 16 3 15,we 5 [qR,qR,.nils],q8 3 5 16] (.cut (xq [xk 17 5,qq 18 17,xB 19 (yl 18 wy 300),wA 20 19,qe 21 20,wM 22 21 0 5,wI 23 21 22,wM 24 21 1 5,wI 25 21 24,qD 26 21 (.mn (qj 3) (.t 25)),xj 27 21 du (yb 23 wy 26),xT 28 21 27,xo 29 21 28,qe 30 29,wM 31 30 2 5,wI 32 30 31,qD 33 30 (qP 32),xj 34 30 du (yl 33 xa 160),xT 35 30 34,xo 36 30 35] 36 xG) (yr [qb 37 (xI bA (wJ 5)),we 6 [.nilf],xz 6 37] [xm 38 5,qq 39 38,qW 40 39,wx 41] 0 (x9 [ww 42 41 40] 42 0 1 (qd [qe 43 41,wd 44 5 39 41,qI 45 5 44,we 8 [.nils,.nils,qR,qR,.nils],qe 7 43,q8 5 8 45] (xR (xq [qt 46 4 8,xm 49 8,qq 47 46,qW 48 47,qq 50 49,wK 51 gV 50,xx 46 47,qZ 52 .neq 48 51,qe 53 52,wM 54 53 2 8,wI 55 53 54,xj 56 53 ie (wJ 55),xc 57 53 56,wL 59 57 3 8,wF 58 57 6,wF 60 57 59,qF 61 57 (xO 58 (wJ 60)),qF 62 57 (qT 61),qD 63 53 (qJ 57 (.t 62) qB),xo 64 53 63,qe 65 64,wM 66 65 2 8,wI 67 65 66,xj 68 65 ie (wJ 67),xT 69 65 68,xc 70 65 69,wL 71 70 3 8,wF 72 70 71,xl 73 70 .neq 72 wy,qD 74 65 (qJ 70 (.t 73) qB),xo 75 65 74] 75 xG) (xq [qt 76 4 8,qq 77 76,qb 78 (xI iL (wJ 5)),wS 79 aZ 77 78,qe 80 79,wM 81 80 1 8,wI 82 80 81,qD 83 80 (xI iN (wQ 2 (.t 3))),xj 84 80 bG (wQ 82 (.t 83)),xo 85 80 84] 85 xG) (.cut (.reg [qI 86 3 5,qe 87 7,wS 88 gi 86 87,qW 89 88,qe 9 89]) (qd [wP 90 8,qq 91 90,qW 92 91,wx 93] (qN 2 (x9 [ww 94 93 92] 94 2 3 (qL [wd 95 2 91 93,qI 96 2 95,we 11 [qR,.nils],q8 2 11 96] [qe 97 7,wu 98 97 0,qe 99 98,wI 100 99 6,wM 101 99 0 11,wI 102 99 101,qD 103 99 (xO 100 (wJ 102)),xT 104 99 103,xo 105 99 104,qe 106 105,wM 107 106 1 11,wI 108 106 107,qD 109 106 (qP 108),xc 110 106 9,xN 111 106 .neq 109 (.t 110),xo 112 106 111,qe 113 112,wM 114 113 1 11,wI 115 113 114,qD 116 113 (xI iV (wJ 6)),xj 117 113 aZ (wQ 115 (.t 116)),xo 118 113 117] (qU 118 xG)) (xQ 119 93 93 119))))))) (xQ 120 41 41 120)) [qc 4 wq]))
def ll:FK:=⟨121,w7,(AK.whole lf)⟩
theorem Ap:al Tryz.prog lq=some ll:=by kernel_rfl
def lM:FK:=⟨24,xe,qL [xE 1 3,xC] [wx 3] (wT [xm 6 1,qq 7 6,qW 8 7,wx 9] 0 (x9 [ww 10 9 8] 10 0 1 (yq [wd 11 5 7 9,qI 12 5 11,we 5 [.nils,.nils,qR,qR,.nils],q8 5 5 12] [xZ 13,wP 14 5,qq 15 14,qW 16 15,xk 17 5,qq 18 17,qW 19 18,qZ 20 .add 16 19,qZ 21 .add 13 20,qe 3 21]) (xQ 22 9 9 22)) (wH (xZ 23) 2 23))⟩
theorem tm:al Tryz.prog eb=some lM:=by kernel_rfl
def lz:FK:=⟨30,xe,xW [xE 1 1,xA] [wP 6 1,qq 7 6,qW 8 7,xB 9 (yl 8 xa 4),wA 10 9] 10 [xA] (yr [wx 3] [wP 11 1,qq 12 11,qW 13 12,wx 14] 0 (x9 [ww 15 14 13] 15 0 1 (xW [qe 16 14,wd 17 3 12 14,qI 18 3 17,we 5 [qR,qR,.nils],qe 4 16,q8 3 5 18] [qI 19 1 1,xv 20,wS 21 lq 19 20,wA 22 21] 22 [xA] (.reg [xZ 23,qI 24 3 5,wK 25 eb 24,qZ 26 .add 23 25,qe 3 26])) (xQ 27 14 14 27)) (xJ (xZ 28) (qy 29 .leq 28 800) 2 29))⟩
theorem tu:al Tryz.prog ee=some lz:=by kernel_rfl
def fT:FK:=⟨10,[],qL [xE 3 5] [wP 5 3,qq 6 5,wu 7 6 1] (xU 7 [qq 8 2,xi 9 8,xz 2 9])⟩
theorem rW:al Tryz.prog dD=some fT:=by kernel_rfl
def mS:FK:=⟨12,xe,qL [xE 1 3,xC] [xk 4 1,qq 5 4,qW 6 5,we 3 [qR],xz 3 6] (wZ [xm 7 1,qq 8 7,qb 9 (xI dD (wJ 3)),qp 10 dZ (yb 8 xa 9)] (wH (qq 11 3) 2 11))⟩
theorem uE:al Tryz.prog iP=some mS:=by kernel_rfl
def dO:FK:=⟨24,[.t 4],
 .seq (.reg [⟨(some 4),none,.mov (.c (.p (.int .i64 0)))⟩])
 (.seq (.reg [⟨(some 6),none,.mov (.t 0)⟩,
   ⟨(some 7),none,.nilck (.t 6)⟩,
   ⟨(some 8),none,.fldA 1 (.t 7)⟩,
   ⟨(some 9),none,.fldA 2 (.t 8)⟩,
   ⟨(some 10),none,.ld none (.t 9)⟩,
   ⟨(some 11),none,.len false (.t 10)⟩,
   ⟨(some 5),none,.mov (.t 11)⟩])
 (.seq (.reg [⟨(some 12),none,.mov (.t 0)⟩,
   ⟨(some 13),none,.mov (.t 0)⟩,
   ⟨(some 14),none,.nilck (.t 13)⟩,
   ⟨(some 15),none,.fldA 1 (.t 14)⟩,
   ⟨(some 16),none,.fldA 2 (.t 15)⟩,
   ⟨(some 17),none,.ld none (.t 16)⟩,
   ⟨(some 18),none,.mov (.t 1)⟩,
   ⟨(some 19),none,.appz 5 88 [.nils,.nils,(.p (.int .i64 0)),(.p (.int .i64 0)),.nils] (.t 17) (.t 18)⟩,
   ⟨(some 20),none,.nilck (.t 12)⟩,
   ⟨(some 21),none,.fldA 1 (.t 20)⟩,
   ⟨(some 22),none,.fldA 2 (.t 21)⟩,
   ⟨none,none,.st 1 (.t 22) (.t 19)⟩])
 (.seq (.reg [⟨(some 23),none,.mov (.t 5)⟩,
   ⟨(some 4),none,.mov (.t 23)⟩])
 (.ret))))⟩
theorem iB:al Tryz.prog aR=some dO:=by kernel_rfl
def jj:FK:=⟨37,[],qL [wl 11,wt 12 11,xk 13 12,xm 14 13,wl 16,wt 17 16,qt 18 4 17,qq 15 14,qq 19 18,wd 20 5 15 19,qe 10 20] [yt 21,yt 22,yt 23,wN 24,qe 25 2,xv 26,wt 27 21,xm 28 27,xz 28 24,wt 29 22,yc 30 29,xz 30 25,wt 31 23,qt 32 4 31,xz 32 26] (.reg [wl 33,xZ 34,wt 35 33,qt 36 4 35,xz 36 34])⟩
theorem po:al Tryz.prog eJ=some jj:=by kernel_rfl
def jb:FK:=⟨18,xe,qL [xC] [wl 3,wt 4 3,xk 5 4,xk 6 5,qq 7 6,xi 8 7,wt 9 3,xk 10 9,xk 11 10,xz 11 8] (qw [xX,wt 13 12,xk 14 13,xk 15 14,qq 16 15,ym 17 16 1,qe 2 17])⟩
theorem pf:al Tryz.prog eL=some jb:=by kernel_rfl
def eA:FK:=⟨25,[],qL [wn 3 4 1] [wl 5,wt 6 5,xk 7 6,xm 8 7,wl 10,wt 11 10,qt 12 4 11,qq 9 8,qq 13 12,wd 14 5 9 13,qe 4 14] (.reg [xv 15,xv 16,wt 17 16,xk 18 17,qq 19 18,qI 20 4 3,wE 21 4 [qR,qR,.nils,qR] 1 [xw 0 4 20],xx 18 19,qb 22 (yk 4 48 19 (.t 21)),wt 23 15,xk 24 23,xz 24 22])⟩
theorem oT:al Tryz.prog aS=some eA:=by kernel_rfl
def iK:FK:=⟨20,wW 8,qL [wx 8] (xJ (wl 10) (wK 11 eL 10) 9 11) (wZ [xX,wN 13,qe 14 9,xZ 15,qe 16 2,xu 17 [qR,qR,.nils,qR] [xD 0 13,xD 1 14,xD 2 15,xD 3 16],wS 18 aS 12 17] (wH (qe 19 9) 8 19))⟩
theorem nr:al Tryz.prog dR=some iK:=by kernel_rfl
def kF:FK:=⟨22,w7,qL [qc 4 xt] [qc 5 xt] (wT [wl 8,qW 9 8,wx 10] 0 (x9 [ww 11 10 9] 11 0 1 (yq [wd 12 4 8 10,qI 13 4 12,we 7 [qR,qR,wD,.nils],q8 4 7 13] [wV 14,wN 15,qI 16 4 7,qb 17 (xO 15 (wJ 16)),wE 18 1 [qR] 1 [xD 0 17],qb 19 (yk 1 8 14 (.t 18)),qe 5 19]) (xQ 20 10 10 20)) (wH (wV 21) 4 21))⟩
theorem sJ:al Tryz.prog dC=some kF:=by kernel_rfl
def fK:FK:=⟨9,w7,wZ [xE 3 4,xg] [qq 5 1,qI 6 4 3,qq 7 2,qp 8 aW (yb 5 (.t 6) 7),yi 4]⟩
theorem mu:al Tryz.prog dj=some fK:=by kernel_rfl
def bJ:FK:=⟨112,wW 6,qd [xE 3 1,wn 4 4 1,wn 5 1 2,wx 6] (qx [wP 15 4,qq 16 15] (.blk 0 (qd (wU 18 16 1 17 18) (xS 17 (qw [qq 19 3,xk 20 4,qq 21 20,xy 22 [.t 19,xa,.t 21,xt],qe 6 22]) 24 16 2 23 24 (xS 23 (wZ [qq 26 5,xm 27 4,qq 28 27,wS 29 aT 26 28,qe 25 29,xb 30 0 25,xb 31 1 25,qe 7 30,qe 8 31] (wH (qe 32 7) 6 32)) 34 16 10 33 34 (qH 33 (yj [yc 36 4,qq 35 3,qq 37 36,q9 38 4 37 wy,qI 39 4 38,qq 40 5,qp 41 aW (yb 35 (.t 39) 40),qe 9 41] (xJ (qq 42 3) (xy 43 [.t 42,xa,wy,xt]) 10 43) (xJ (qq 44 3) (wR 45 aR 44 (qj 2)) 11 45) [qq 46 3,qe 47 9,qe 48 11,qe 49 11,qe 50 11,xi 51 50,wE 52 1 [qR] 2 [xD 0 49,xD 1 51],xn 53 [.t 46,qj 2,.t 47,.t 48,.t 52]] (yj [yc 55 4,qq 54 3,qq 56 55,q9 57 4 56 xa,qI 58 4 57,qq 59 5,qp 60 aW (yb 54 (.t 58) 59),qe 12 60] [qq 61 3,qe 62 12,wE 63 1 [qR] 1 [xD 0 62],xy 64 [.t 61,qj 10,wy,.t 63],qe 13 64] [qq 65 3,yt 66,qe 67 13,wE 68 1 [qR] 1 [xD 0 67],xu 69 [qR,qR,.nils,qR] [(0,1,qj 10),xD 1 66,xD 2 68,(3,1,wy)],wS 70 aS 65 69] [qq 71 3,qe 72 11,xi 73 72,qe 74 11,xi 75 74,wE 76 1 [qR] 1 [xD 0 75],xn 77 [.t 71,xa,wy,.t 73,.t 76]] (qw (wH (yt 78) 6 78))))))))) (qd [yc 79 4,qq 80 79,qb 81 (xI dj (wQ 3 (.t 5))),wS 82 dC 80 81,qe 14 82] (wv [wP 83 4,qq 84 83] (.blk 1 (qd (wU 86 84 11 85 86) (xS 85 (qw [qq 87 3,qe 88 14,xy 89 [.t 87,qj 10,wy,.t 88],qe 6 89]) 91 84 12 90 91 (xS 90 (qw [qq 92 3,qe 93 14,xy 94 [.t 92,qj 11,wy,.t 93],qe 6 94]) 96 84 13 95 96 (qU 95 [xm 102 4,qe 105 14,qq 97 3,qq 98 3,wt 99 98,wP 100 99,qI 101 1 100,qq 103 102,wS 104 iF 101 103,xx 3 97,xy 106 [.t 97,qj 14,.t 104,.t 105],qe 6 106]))))) [qq 107 3,wP 108 4,qq 109 108,qe 110 14,xy 111 [.t 107,.t 109,wy,.t 110],qe 6 111])))⟩
theorem nW:al Tryz.prog aW=some bJ:=by kernel_rfl
def fG:FK:=⟨9,w7,wZ [xE 3 4,xg] [qq 5 1,qI 6 4 3,qq 7 2,qp 8 aW (yb 5 (.t 6) 7),yi 4]⟩
theorem mh:al Tryz.prog da=some fG:=by kernel_rfl
def gw:FK:=⟨176,[],qL [xE 4 1,wn 6 1 2] [wN 16,qW 17 16,wx 18] (qN 0 (x9 [ww 19 18 17] 19 0 1 (qd [wd 20 5 16 18,qI 21 5 20,we 9 [qR,wD,.nils,.nils,.nils],q8 5 9 21] (qx [wP 22 9,qq 23 22,wu 24 23 6] (qH 24 (yj (xJ (qq 25 4) (wR 26 aR 25 (qj 3)) 10 26) [qq 27 4,yt 28,yt 29,wE 30 1 [qR] 1 [xD 0 29],xn 31 [.t 27,xa,wy,.t 28,.t 30]] [xm 33 9,qq 32 4,qq 34 33,q9 35 4 34 wy,qI 36 4 35,qq 37 6,qp 38 aW (yb 32 (.t 36) 37),qe 11 38] [qq 39 4,qe 40 11,yt 41,xi 42 41,yt 43,xi 44 43,yt 45,wb 46 45 2,wE 47 1 [qR] 2 [xD 0 44,xD 1 46],xn 48 [.t 39,qj 2,.t 40,.t 42,.t 47]] (qL [yc 50 9,xZ 54,qq 49 4,qq 51 50,qq 52 6,wK 53 aU 52,xx 4 49,xx 50 51,qp 55 bg [.t 49,.t 51,.t 53,.t 54]] [qq 56 4,yt 57,wb 58 57 2,yt 59,wE 60 1 [qR] 1 [xD 0 59],xn 61 [.t 56,xa,wy,.t 58,.t 60]] (.exit 1)))) (qL [xm 62 9,qq 63 62,qb 64 (xI da (wQ 4 (.t 6))),wS 65 dC 63 64,qe 12 65] [wP 66 9,qq 67 66] (.blk 2 (qd (wU 69 67 1 68 69) (xS 68 (qL [xk 74 9,xZ 76,wt 77 76,wP 78 77,qq 70 6,wt 71 70,wP 72 71,qq 73 72,qq 75 74,qq 79 78,qO (.mup 1 (.t 73) (.t 75) (.t 79))] [xZ 80,wt 81 80,wP 82 81,qq 83 82,xi 84 83,wt 85 80,wP 86 85,xz 86 84] (.reg [xk 92 9,qe 95 12,qq 87 4,qq 88 6,wt 89 88,wP 90 89,qq 91 90,qq 93 92,qb 94 (.lk 1 qR false (.t 91) (.t 93)),xu 96 [qR,qR,.nils,qR] [(0,1,qj 2),xD 1 94,xD 2 95,(3,1,wy)],wS 97 aS 87 96])) 99 67 2 98 99 (xS 98 (yq [qq 101 6,xk 102 9,qq 103 102,wS 104 aT 101 103,qe 100 104,xb 105 0 100,xb 106 1 100,qe 13 105,qe 14 106] [qq 107 4,qe 108 13,qe 109 12,xu 110 [qR,qR,.nils,qR] [(0,1,qj 2),xD 1 108,xD 2 109,(3,1,wy)],wS 111 aS 107 110]) 113 67 3 112 113 (xS 112 (.reg [qq 114 4,qe 115 12,xu 116 [qR,qR,.nils,qR] [(0,1,qj 13),(1,1,qj (-1)),xD 2 115,(3,1,wy)],wS 117 aS 114 116]) 119 67 4 118 119 (xS 118 (.reg [qq 120 4,qe 121 12,xu 122 [qR,qR,.nils,qR] [(0,1,qj 12),(1,1,qj (-1)),xD 2 121,(3,1,wy)],wS 123 aS 120 122]) 125 67 5 124 125 (xS 124 (yj (xJ (qq 126 4) (wR 127 aR 126 (qj 3)) 15 127) [qe 129 12,q9 130 1 129 wy,qe 132 15,qe 133 15,qe 134 15,xi 135 134,qb 136 (.bslP 1 [qR] 2 [xD 0 133,xD 1 135]),qq 128 4,qq 131 130,xn 137 [.t 128,qj 2,.t 131,.t 132,.t 136]] [yc 139 9,xZ 143,qq 138 4,qq 140 139,qq 141 6,wK 142 aU 141,xx 4 138,xx 139 140,qp 144 bg [.t 138,.t 140,.t 142,.t 143]] [qq 145 4,qe 146 15,xi 147 146,qe 148 15,wb 149 148 2,wE 150 1 [qR] 1 [xD 0 149],xn 151 [.t 145,xa,wy,.t 147,.t 150]] (yq [qt 153 4 9,xZ 157,qq 152 4,qq 154 153,qq 155 6,wK 156 aU 155,xx 4 152,xx 153 154,qp 158 bg [.t 152,.t 154,.t 156,.t 157]] [qq 159 4,qe 160 15,wb 161 160 2,qe 162 15,wb 163 162 2,wE 164 1 [qR] 1 [xD 0 163],xn 165 [.t 159,xa,wy,.t 161,.t 164]])) 167 67 7 166 167 (xU 166 [qe 169 12,q9 170 1 169 wy,qq 168 4,qq 171 170,qq 172 4,wR 173 aR 172 xa,xx 4 168,xx 170 171,xn 174 [.t 168,qj 3,.t 171,.t 173,xt]]))))))))))) (xQ 175 18 18 175)))⟩
theorem na:al Tryz.prog bg=some gw:=by kernel_rfl
def nw:FK:=⟨65,[.c 4 (some 3)],yj [xE 2 1,wn 3 3 1,we 4 [qR,qR,.nils]] [qI 9 1 2,xu 10 [.nils,qR,qR,.nils,qR] [xD 0 9],wn 11 5 10,qe 5 11] [wV 12,wV 13,xk 14 3,qq 15 14,qW 16 15,qI 17 3 3,wK 18 iP 17,xx 14 15,wt 19 12,xk 20 19,wP 21 20,xz 21 16,wt 22 13,xk 23 22,xk 24 23,xz 24 18] (wH (qp 25 aU [.c .nilp]) 6 25) (qx [xk 26 3,qq 27 26,qW 28 27,wx 29] (qN 0 (x9 [ww 30 29 28] 30 0 1 (yq [qe 31 29,wd 32 1 27 29,qq 33 32,qe 7 31,qe 8 33] [yg 34,wt 35 34,wP 36 35,qq 37 36,yi 38,qe 39 7,qO (.mup 1 (.t 37) (.t 38) (.t 39))]) (xQ 40 29 29 40))) (qL [wV 41,wR 42 aR 41 xa] [wV 43,xm 44 3,qq 45 44,yg 46,xk 47 3,qq 48 47,qW 49 48,xu 50 [qR] [xD 0 49],wn 51 1 50,qp 52 bg [.t 43,.t 45,.t 46,.t 51]] (wZ [wV 53,wV 54,wV 56,wt 57 56,qt 58 4 57,qq 59 58,xy 55 [.t 54,xa,wy,xt],xx 58 59,xn 60 [.t 53,qj 3,.t 55,.t 59,xt]] [wV 61,wt 62 61,xk 63 62,qI 64 3 63,q8 3 4 64])))⟩
theorem vI:al Tryz.prog fM=some nw:=by kernel_rfl
def gy:FK:=⟨7,[.c 3 (some 3)],wZ [xE 2 3,we 3 [qR,qR,.nils]] [qI 4 1 1,qI 5 3 2,wS 6 fM 4 5,q8 3 3 6]⟩
theorem nb:al Tryz.prog cx=some gy:=by kernel_rfl
def jk:FK:=⟨19,[.c 2 (some 1),.t 3],xW [xE 1 1,we 2 yn,wj 3] [qI 5 1 1,wK 6 oz 5,wA 7 6] 7 [xu 8 yn [],xz 2 8,wj 3] (qd [wP 9 1,qq 10 9,qb 11 (xI cx (wJ 1)),wS 12 bN 10 11,xu 13 yn [xD 0 12],we 4 yn,xz 4 13] (wv [qI 14 1 4,wK 15 ee 14,wA 16 15] (qU 16 [xu 17 yn [],xz 2 17,wj 3]) [qI 18 1 4,xz 2 18,qc 3 wq]))⟩
theorem pm:al Tryz.prog cN=some jk:=by kernel_rfl
def nt:FK:=⟨4,xe,qd [xC] (wv [wl 3] (qU 3 (xY 2 1)) [xC])⟩
theorem vh:al Tryz.prog jE=some nt:=by kernel_rfl
def ln:FK:=⟨35,xe,qL [xC] [wx 3] (wT [xg] 0 (xL [xv 5,wl 6,qW 7 6,ww 8 5 7] 8 0 1 (.reg [xZ 11,xX,xv 13,wd 14 5 12 13,wP 15 14,wl 20,xv 21,wd 22 5 20 21,yc 23 22,wl 27,xv 28,wd 29 5 27 28,qt 30 4 29,qq 16 15,wu 17 16 1,qq 24 23,qq 31 30,wK 18 jE 17,xx 23 24,xx 30 31,qZ 19 .add 11 18,wK 25 eY 24,xx 30 31,qZ 26 .add 19 25,wK 32 eY 31,qZ 33 .add 26 32,qe 3 33]) (xv 9) 10 9 4 10) (wH (xZ 34) 2 34))⟩
theorem py:al Tryz.prog eY=some ln:=by kernel_rfl
def fq:FK:=⟨25,xe,qL [xC] [wl 3,wl 4,wt 5 4,xk 6 5,xm 7 6,qq 8 7,wE 9 2 [qR,.nils] 0 [],wE 10 4 [qR,qR,.nils,qR] 0 [],wE 11 1 [qR] 0 [],xu 12 [.nils,.nils,qR,qR,.nils] [xD 0 9,xD 1 10,xD 4 11],wE 13 5 [.nils,.nils,qR,qR,.nils] 1 [xw 0 5 12],qb 14 (yk 5 88 8 (.t 13)),wt 15 3,xk 16 15,xm 17 16,xz 17 14] (qw [wl 18,wt 19 18,xk 20 19,xm 21 20,qq 22 21,qW 23 22,ym 24 23 1,qe 2 24])⟩
theorem jY:al Tryz.prog ck=some fq:=by kernel_rfl
def kG:FK:=⟨37,[],yj [wl 11,wt 12 11,xk 13 12,xm 14 13,wl 16,wt 17 16,qt 18 4 17,qq 15 14,qq 19 18,wd 20 5 15 19,qe 10 20] [yt 21,wN 22,wt 23 21,xm 24 23,xz 24 22] [yt 25,qe 26 2,wt 27 25,yc 28 27,xz 28 26] [yt 29,xZ 30,wt 31 29,qt 32 4 31,xz 32 30] (.reg [wl 33,xv 34,wt 35 33,qt 36 4 35,xz 36 34])⟩
theorem rE:al Tryz.prog br=some kG:=by kernel_rfl
def jD:FK:=⟨19,xe,qL [xC] [wl 3,wl 4,wt 5 4,xk 6 5,xk 7 6,qq 8 7,xi 9 8,wt 10 3,xk 11 10,xk 12 11,xz 12 9] (qw [wl 13,wt 14 13,xk 15 14,xk 16 15,qq 17 16,ym 18 17 1,qe 2 18])⟩
theorem rj:al Tryz.prog bE=some jD:=by kernel_rfl
def gN:FK:=⟨37,wW 10,qL [wx 10] [xX,wt 13 12,xk 14 13,xm 15 14,wl 17,wt 18 17,qt 19 4 18,qq 16 15,qq 20 19,wd 21 5 16 20,qe 11 21] (wZ [qe 22 11,qe 23 11,wt 24 23,xk 25 24,qq 26 25,wN 27,qe 28 2,xv 29,xZ 30,xu 31 [qR,qR,.nils,qR] [xD 0 27,xD 1 28,xD 2 29,xD 3 30],wE 32 4 [qR,qR,.nils,qR] 1 [xw 0 4 31],qb 33 (yk 4 48 26 (.t 32)),wt 34 22,xk 35 34,xz 35 33] (wH (qe 36 2) 10 36))⟩
theorem tH:al Tryz.prog cb=some gN:=by kernel_rfl
def gW:FK:=⟨34,w7,yr [xg] [wl 6,wt 7 6,qt 8 5 7,qq 9 8,qW 10 9,ym 11 10 1,qe 5 11] 0 (w8 [wV 12,qy 13 .geq 12 0] 13 0 1 (xq [wl 16,wt 17 16,qt 18 5 17,qq 19 18,wV 20,wd 21 3 19 20,wP 22 21,qq 23 22,wN 24,qb 25 (xH .eql 23 (.t 24))] 25 [wl 26,wt 27 26,qt 28 5 27,qq 29 28,wV 30,wd 31 3 29 30,xk 32 31,qq 33 32,qe 4 33]) (xJ (wV 14) (ym 15 14 1) 5 15)) x8⟩
theorem tF:al Tryz.prog ec=some gW:=by kernel_rfl
def lE:FK:=⟨56,w7,yj [wn 3 4 1,xg] [wl 11,yc 12 3,qq 13 12,q9 14 4 13 wy,qI 15 4 14,wS 16 be 11 15,qe 5 16] [wl 17,wl 18,xF 19 18,wE 20 1 [qR] 0 [],xd 21 [.t 17,xa,.t 19,wy,.t 20],qe 6 21] (xJ (wl 22) (xp 23 22) 7 23) (yj (xJ (wl 24) (xp 25 24) 8 25) [wl 26,wV 27,qe 28 7,yi 29,wE 30 1 [qR] 2 [xD 0 28,xD 1 29],qe 31 7,xr 32 [.t 26,qj 2,.t 27,.t 30,.t 31]] [wl 33,yc 34 3,qq 35 34,q9 36 4 35 xa,qI 37 4 36,wS 38 be 33 37,qe 9 38] [wl 39,wl 40,xF 41 40,qe 42 9,wE 43 1 [qR] 1 [xD 0 42],xd 44 [.t 39,qj 10,.t 41,wy,.t 43],qe 10 44] (qL [wl 45,yg 46,yt 47,wE 48 1 [qR] 1 [xD 0 47],xd 49 [.t 45,qj 10,.t 46,wy,.t 48]] [wl 50,yi 51,wE 52 1 [qR] 1 [xD 0 51],yi 53,xr 54 [.t 50,xa,wy,.t 52,.t 53]] (qw (wH (yg 55) 4 55))))⟩
theorem tE:al Tryz.prog gR=some lE:=by kernel_rfl
def cH:FK:=⟨84,w7,qd [wn 3 4 1,xg] (qx [wP 7 3,qq 8 7] (.blk 0 (qd (wU 10 8 1 9 10) (xS 9 (qw [wl 11,xX,xk 14 3,qb 16 (.bslP 1 [qR] 0 []),qq 15 14,xF 13 12,xx 14 15,xd 17 [.t 11,xa,.t 13,.t 15,.t 16],qe 4 17]) 19 8 2 18 19 (xS 18 (qw [wl 20,xm 21 3,qq 22 21,wS 23 ec 20 22,qe 4 23]) 25 8 10 24 25 (qU 24 [wl 26,qI 27 4 3,wS 28 gR 26 27,qe 4 28]))))) (qd (wH (wE 29 1 [qR] 0 []) 5 29) (qx [wx 6] (qN 1 (xL [yg 30,yc 31 3,qq 32 31,qW 33 32,ww 34 30 33] 34 1 2 (.reg [wV 37,wl 38,yc 39 3,qq 40 39,yg 41,wd 42 4 40 41,qI 43 4 42,wS 44 be 38 43,wE 45 1 [qR] 1 [xD 0 44],qb 46 (yk 1 8 37 (.t 45)),qe 5 46]) (yg 35) 36 35 6 36)) (wv [wP 47 3,qq 48 47] (.blk 3 (qd (wU 50 48 11 49 50) (xS 49 (qw [wl 51,wl 52,xF 53 52,wV 54,xd 55 [.t 51,qj 10,.t 53,wy,.t 54],qe 4 55]) 57 48 12 56 57 (xS 56 (qw [wl 58,wl 59,xF 60 59,wV 61,xd 62 [.t 58,qj 11,.t 60,wy,.t 61],qe 4 62]) 64 48 13 63 64 (qU 63 [wl 65,wl 66,wl 68,wt 69 68,wP 70 69,xm 72 3,wV 75,qI 71 1 70,qq 73 72,xF 67 66,w9 (some 1) 70 71,xx 72 73,wS 74 iJ 71 73,xd 76 [.t 65,qj 14,.t 67,.t 74,.t 75],qe 4 76]))))) [wl 77,wP 78 3,wl 80,wV 82,qq 79 78,xF 81 80,xx 78 79,xd 83 [.t 77,.t 79,.t 81,wy,.t 82],qe 4 83]))))⟩
theorem sE:al Tryz.prog be=some cH:=by kernel_rfl
def kP:FK:=⟨41,[],yj [wn 3 5 1] (xJ (wl 8) (xp 9 8) 4 9) (xJ (wl 10) (xp 11 10) 5 11) (xJ xX (xp 13 12) 6 13) (yj [wl 14,xv 15,wE 16 1 [qR] 1 [xD 0 15],xv 17,xr 18 [.t 14,xa,wy,.t 16,.t 17]] [wl 19,xm 20 3,qq 21 20,q9 22 4 21 wy,qI 23 4 22,wS 24 be 19 23,qe 7 24] [wl 25,qe 26 7,wV 27,yg 28,wE 29 1 [qR] 2 [xD 0 27,xD 1 28],wV 30,xr 31 [.t 25,qj 2,.t 26,.t 29,.t 30]] [wl 32,yc 33 3,qq 34 33,wS 35 bj 32 34] (.reg [wl 36,xv 37,wE 38 1 [qR] 1 [xD 0 37],yg 39,xr 40 [.t 36,xa,wy,.t 38,.t 39]]))⟩
theorem rI:al Tryz.prog fX=some kP:=by kernel_rfl
def fL:FK:=⟨132,[],xW [wn 3 5 1] [wP 9 3,qq 10 9,wu 11 10 6] 11 [xX,qI 13 5 3,wS 14 fX 12 13] (qd (wH (wE 15 1 [qR] 0 []) 4 15) (qx [yf] (qN 0 (xL [wV 16,xm 17 3,qq 18 17,qW 19 18,ww 20 16 19] 20 0 1 (.reg [xv 23,wl 24,xm 25 3,qq 26 25,wV 27,wd 28 4 26 27,qI 29 4 28,wS 30 be 24 29,wE 31 1 [qR] 1 [xD 0 30],qb 32 (yk 1 8 23 (.t 31)),qe 4 32]) (wV 21) 22 21 5 22)) (qd [wP 33 3,qq 34 33] (.blk 2 (qd (wU 36 34 1 35 36) (xS 35 (qL [wl 37,wl 38,wt 39 38,qt 40 6 39,qq 41 40,xv 42,xd 43 [.t 37,qj 2,.t 41,wy,.t 42]] [wl 44,wl 45,wt 46 45,qt 47 5 46,xk 49 3,wl 51,wt 52 51,qt 53 6 52,qq 48 47,qq 50 49,qq 54 53,xu 55 [wD,qR,qR] [xD 0 50,xD 1 54,(2,1,wy)],qb 56 (.bslP 3 [wD,qR,qR] 1 [xw 0 3 55]),qb 57 (yk 3 32 48 (.t 56)),wt 58 44,qt 59 5 58,xz 59 57] (.reg [wl 60,wl 61,wt 62 61,qt 63 6 62,qq 64 63,xi 65 64,wt 66 60,qt 67 6 66,xz 67 65])) 69 34 2 68 69 (xS 68 (.reg [wl 70,wl 71,xk 72 3,qq 73 72,wS 74 ec 71 73,xv 75,xd 76 [.t 70,qj 2,.t 74,wy,.t 75]]) 78 34 3 77 78 (xS 77 (.reg [wl 79,xv 80,xd 81 [.t 79,qj 13,qj (-1),wy,.t 80]]) 83 34 4 82 83 (xS 82 (.reg [wl 84,xv 85,xd 86 [.t 84,qj 12,qj (-1),wy,.t 85]]) 88 34 7 87 88 (xS 87 (.reg [wl 89,xv 90,q9 91 1 90 wy,qb 93 (.bslP 1 [qR] 0 []),wl 94,qq 92 91,xp 95 94,xx 91 92,xr 96 [.t 89,qj 3,.t 92,.t 93,.t 95]]) 98 34 5 97 98 (qH 97 (yj (xJ (wl 99) (xp 100 99) 6 100) (xJ (wl 101) (xp 102 101) 7 102) (xJ (wl 103) (xp 104 103) 8 104) [wl 105,xv 106,q9 107 1 106 wy,qq 108 107,yg 109,qe 110 7,wE 111 1 [qR] 2 [xD 0 109,xD 1 110],yg 112,xr 113 [.t 105,qj 2,.t 108,.t 111,.t 112]] (qL [wl 114,yc 115 3,qq 116 115,wS 117 bj 114 116] [wl 118,yi 119,wE 120 1 [qR] 1 [xD 0 119],qe 121 7,xr 122 [.t 118,xa,wy,.t 120,.t 121]] (yq [wl 123,qt 124 4 3,qq 125 124,wS 126 bj 123 125] [wl 127,yi 128,wE 129 1 [qR] 1 [xD 0 128],yi 130,xr 131 [.t 127,xa,wy,.t 129,.t 130]]))))))))))))))⟩
theorem sB:al Tryz.prog fR=some fL:=by kernel_rfl
def fp:FK:=⟨32,[],qd [wl 6,wt 7 6,qt 8 5 7,qq 9 8,qW 10 9,yt 4] (qx [yf] (qN 0 (xL [wV 11,wN 12,qW 13 12,ww 14 11 13] 14 0 1 (.reg [wl 17,wN 18,wV 19,wd 20 5 18 19,qI 21 5 20,wS 22 fR 17 21]) (wV 15) 16 15 5 16)) (.reg [wl 23,wl 24,wt 25 24,qt 26 5 25,qq 27 26,xv 28,qb 29 (.slS 3 (.t 27) none (some (.t 28))),wt 30 23,qt 31 5 30,xz 31 29]))⟩
theorem rz:al Tryz.prog bj=some fp:=by kernel_rfl
def tO:FK:=⟨80,[.c 4 (some 3)],yj [xE 2 1,we 4 [qR,qR,.nils]] [wP 9 2,qq 10 9,wN 11,wd 12 3 10 11,qI 13 3 12,we 5 [wD,.nils,.nils],q8 3 5 13] [qI 14 1 2,xk 15 5,qq 16 15,qW 17 16,xu 18 [.nils,qR,qR,.nils,qR,.nils,qR,.nils] [xD 0 14,xD 6 17],wn 19 8 18,qe 6 19] [yg 20,xk 21 5,qq 22 21,qW 23 22,wt 24 20,xk 25 24,wP 26 25,xz 26 23] (qd [yg 27,xk 28 5,xm 31 5,qq 29 28,qW 30 29,qq 32 31,wK 33 eY 32,xx 28 29,qZ 34 .add 30 33,wt 35 27,xk 36 35,xk 37 36,xz 37 34] (qx [wx 7] (qN 0 (xL [qe 38 7,xk 39 5,qq 40 39,qW 41 40,ww 42 38 41] 42 0 1 (.reg [yg 45,yg 46,wt 47 46,qt 48 5 47,xk 50 5,qe 52 7,qe 55 7,qq 49 48,qq 51 50,wd 53 1 51 52,qq 54 53,xu 56 [wD,qR,qR] [xD 0 54,xD 1 55,(2,1,wy)],qb 57 (.bslP 3 [wD,qR,qR] 1 [xw 0 3 56]),qb 58 (yk 3 32 49 (.t 57)),wt 59 45,qt 60 5 59,xz 60 58]) (qe 43 7) 44 43 7 44)) (yj [yg 61,xp 62 61] [yg 63,xm 64 5,qq 65 64,wS 66 bj 63 65] [yg 67,yg 68,xF 69 68,wE 70 1 [qR] 0 [],xd 71 [.t 67,xa,.t 69,wy,.t 70],qe 8 71] [yg 72,yi 73,wE 74 1 [qR] 0 [],xr 75 [.t 72,qj 3,.t 73,.t 74,wy]] (qw [yg 76,wt 77 76,xk 78 77,qI 79 3 78,q8 3 4 79]))))⟩
theorem Dl:al Tryz.prog kD=some tO:=by kernel_rfl
def pJ:FK:=⟨22,[.c 2 (some 1)],qL [xE 1 1,we 2 yn] [xu 5 yn [],we 3 yn,xz 3 5] (wT [xg] 0 (xL [xv 6,wP 7 1,qq 8 7,qW 9 8,ww 10 6 9] 10 0 1 (.reg [wP 13 3,xv 16,qq 14 13,qI 15 1 1,wS 17 kD 15 16,xx 13 14,qb 18 (.bslP 3 [qR,qR,.nils] 1 [xw 0 3 17]),qb 19 (yk 3 40 14 (.t 18)),wP 20 3,xz 20 19]) (xv 11) 12 11 4 12) [qI 21 1 3,xz 2 21])⟩
theorem Ag:al Tryz.prog ip=some pJ:=by kernel_rfl
def pV:FK:=⟨21,w7,yr [xE 2 3,wz] [yf] 0 (xL [wV 6,wN 7,qW 8 7,ww 9 6 8] 9 0 1 (xq [wN 12,wV 13,wd 14 1 12 13,xk 16 2,qq 15 14,qq 17 16,ym 18 17 1,ye 19 (yb 15 wy 18),wA 20 19] 20 xG) (wV 10) 11 10 5 11) [qc 4 wq]⟩
theorem zX:al Tryz.prog ib=some pV:=by kernel_rfl
def nH:FK:=⟨13,xe,wZ [xA] [wl 3,ye 4 (yl 3 xa 14),xv 5,yh 6 5 0,xl 7 5 .neq 6 (qj 12),xV 8 5 7,yi 9,yh 10 9 0,xl 11 9 .neq 10 (qj 13),xV 12 9 11,qe 2 12]⟩
theorem vP:al Tryz.prog fW=some nH:=by kernel_rfl
def cJ:FK:=⟨28,xe,qd [xC] (qQ 0 (qd [wl 4,wu 5 4 1,wV 3] (wY 3 (qw [xC]) [wl 7,wu 8 7 2,yi 9,xc 10 9 0,xN 11 9 .eql 10 (qj 10),xo 12 9 11,qe 13 12,xc 14 13 0,xN 15 13 .eql 14 (qj 11),xo 16 13 15,qe 17 16,xc 18 17 0,xN 19 17 .eql 18 (qj 13),xo 20 17 19,qe 6 20] (wY 6 (qw (xY 2 1)) [wl 22,ye 23 (yl 22 (qj 3) 9),qe 24 23,xc 25 24 0,xN 26 24 .eql 25 (qj 12),xo 27 24 26,qe 21 27] (qU 21 (xY 2 2))))) (qw (x7 2)))⟩
theorem Aq:al Tryz.prog lu=some cJ:=by kernel_rfl
def rH:FK:=⟨88,wW 6,qL [xE 3 1,wn 5 4 2,yp] [wP 8 3,qq 9 8,wN 10,wd 11 3 9 10,qI 12 3 11,we 7 [qR,qR,.nils],q8 3 7 12] (w6 [wP 13 5,qq 14 13,ye 15 (yl 14 xa 14),wA 16 15,qe 17 16,qD 18 17 (qi (some 3) 7),wM 19 17 2 5,wI 20 17 19,xj 21 17 ib (wQ 18 (.t 20)),xT 22 17 21,xo 23 17 22] 23 [yp] (w6 [wP 24 5,xk 27 5,xk 29 7,qq 25 24,qq 28 27,qq 30 29,ym 31 30 1,wK 26 fW 25,xx 27 28,xx 29 30,ye 32 (yb 28 wy 31),qb 33 (.beq true (.t 26) (.t 32)),qe 34 33,wM 35 34 0 5,wI 36 34 35,xj 37 34 fW (wJ 36),xT 38 34 37,xc 39 34 38,wL 40 39 1 5,wF 41 39 40,xl 42 39 .neq 41 (qj (-1)),qD 43 34 (qJ 39 (.t 42) qB),xo 44 34 43] 44 [yp] (wv [wP 45 5,qq 46 45,wu 47 46 14] (qU 47 [yc 48 5,wN 50,ym 51 50 1,qq 49 48,ye 52 (yb 49 wy 51),qe 53 52,wL 54 53 2 5,wL 57 53 0 3,wL 59 53 3 5,wF 55 53 54,qF 56 53 (qP 55),wF 58 53 57,wF 60 53 59,qF 61 53 (qG 3 58 (.t 60)),wL 62 53 0 61,wF 63 53 62,xl 64 53 .eql 56 (.t 63),xV 65 53 64,qe 6 65]) [xm 66 5,wP 69 5,qq 67 66,qW 68 67,qq 70 69,wK 71 lu 70,xx 66 67,qZ 72 .eql 68 71,qe 73 72,wL 74 73 3 5,wF 75 73 74,qF 76 73 (.call fE (yl 75 wy 255)),xV 77 73 76,qe 78 77,wL 79 78 3 5,wF 80 78 79,xl 81 78 .eql 80 wy,yh 82 78 81,wM 83 82 0 5,wI 84 82 83,xN 85 82 .eql 84 xa,qF 86 78 (qJ 82 wq (.t 85)),xV 87 78 86,qe 6 87])))⟩
theorem Bm:al Tryz.prog mK=some rH:=by kernel_rfl
def nZ:FK:=⟨43,w7,qL [xE 2 3,qc 4 xt] (wH (wE 8 1 [qR] 0 []) 5 8) (wT [wx 6] 0 (xL [yg 9,xm 10 2,qq 11 10,qW 12 11,ww 13 9 12] 13 0 1 (qd [wx 7] (qN 2 (xL [qe 16 7,xm 17 2,qq 18 17,yg 19,wd 20 5 18 19,qt 21 4 20,qq 22 21,qW 23 22,ww 24 16 23] 24 2 3 (qd [xm 27 2,qq 28 27,yg 29,wd 30 5 28 29,qt 31 4 30,qq 32 31,qe 33 7,wd 34 1 32 33,qq 35 34,wN 36,qZ 37 .eql 35 36] (qH 37 (qd [wV 38,yg 39,wE 40 1 [qR] 1 [xD 0 39],qb 41 (yk 1 8 38 (.t 40)),qe 5 41] (.exit 2)))) (qe 25 7) 26 25 7 26))) (yg 14) 15 14 6 15) (wH (wV 42) 4 42))⟩
theorem vV:al Tryz.prog gb=some nZ:=by kernel_rfl
def kb:AK:=yj [xE 3 1,yp] [wP 14 3,qq 15 14,wN 16,wd 17 3 15 16,qI 18 3 17,we 7 [qR,qR,.nils],q8 3 7 18] [xm 19 7,qq 20 19,qe 21 2,wd 22 5 20 21,qI 23 5 22,we 8 [.nils,.nils,qR,qR,.nils],q8 5 8 23] (xY 9 1) (xR (qd [xm 24 8,qq 25 24] (.blk 0 (qd (wU 27 25 1 26 27) (xS 26 (xq [yc 28 8,qq 29 28,qy 30 .neq 29 0] 30 [yp]) 32 25 2 31 32 (xS 31 (.reg (xY 9 2)) 34 25 3 33 34 (qo 33 (.reg [wx 9]) (qw [yp]))))))) (xq [qt 35 4 8,qq 36 35,qW 37 36,qe 38 9,qZ 39 .neq 37 38,qe 40 39,wM 41 40 2 8,wI 42 40 41,xN 43 40 .neq 42 xa,xc 44 40 43,wL 45 44 3 8,wF 46 44 45,wL 47 44 1 7,wF 48 44 47,xl 49 44 .sub 48 xa,qF 50 44 (.call fE (yb 46 wy 49)),qF 51 44 (qT 50),qD 52 40 (qJ 44 (.t 51) qB),xo 53 40 52] 53 [yp]) (xR (qd [wx 10] (qN 1 (xL [yt 54,qt 55 4 8,qq 56 55,qW 57 56,ww 58 54 57] 58 1 2 (xq [qt 61 4 8,yt 63,xm 66 7,qq 62 61,wd 64 1 62 63,qq 65 64,qq 67 66,qW 68 67,ym 69 68 1,ye 70 (yb 65 xa 69),wA 71 70] 71 [yp]) (yt 59) 60 59 10 60))) (qd [wx 11] (qN 3 (xL [qe 72 11,xk 73 8,qq 74 73,qW 75 74,ww 76 72 75] 76 3 4 (xq [wN 80,xk 81 8,qe 83 11,qI 79 1 3,qq 82 81,wd 84 4 82 83,qI 85 4 84,qp 86 mK (yb 79 (.t 80) 85),wA 87 86] 87 [yp]) (qe 77 11) 78 77 11 78))) (qd [qI 88 3 7,qe 89 2,wS 90 gb 88 89,qe 12 90] (.cut (qd [wx 13] (qN 5 (xL [qe 91 13,wP 92 8,qq 93 92,qW 94 93,ww 95 91 94] 95 5 6 (xq [qe 98 2,wu 99 98 0,qe 100 99,wM 101 100 0 8,xc 103 100 13,xc 108 100 12,qD 109 100 (qP 108),wI 102 100 101,qD 104 100 (qG 2 102 (.t 103)),wM 105 100 1 104,wI 106 100 105,qD 107 100 (qP 106),xN 110 100 .neq 107 (.t 109),xo 111 100 110,qe 112 111,wM 114 112 0 8,xc 116 112 13,qD 113 112 (qi (some 3) 7),wI 115 112 114,qD 117 112 (qG 2 115 (.t 116)),wM 118 112 1 117,wI 119 112 118,xj 120 112 ib (wQ 113 (.t 119)),xT 121 112 120,xo 122 112 121,qe 123 122,wM 124 123 0 8,xc 126 123 13,wM 130 123 1 7,wI 125 123 124,qD 127 123 (qG 2 125 (.t 126)),wM 128 123 0 127,wI 129 123 128,wI 131 123 130,xN 132 123 .sub 131 xa,x4 133 123 (yb 129 wy 132),xT 134 123 133,xo 135 123 134] 135 [yp]) (qe 96 13) 97 96 13 97))) (qw [qc 6 wq])))))
def ko:FK:=⟨136,wW 6,(AK.whole kb)⟩
theorem yP:al Tryz.prog jW=some ko:=by kernel_rfl
def lI:FK:=⟨76,xe,xW [xE 1 1,xA] [wP 7 1,qq 8 7,qW 9 8,ye 10 (yl 9 xa 4),wA 11 10] 11 [xA] (yr [wx 3] [xg] 0 (xL [xv 12,wP 13 1,qq 14 13,qW 15 14,ww 16 12 15] 16 0 1 (xW [wP 19 1,qq 20 19,xv 21,wd 22 3 20 21,qI 23 3 22,we 5 [qR,qR,.nils],q8 3 5 23] [wP 24 5,qq 25 24,ye 26 (yl 25 wy 3),wA 27 26,qe 28 27,wM 29 28 1 5,wI 30 28 29,wM 31 28 0 5,wI 32 28 31,x4 33 28 (yl 30 (.t 32) 300),xT 34 28 33,xo 35 28 34,qe 36 35,wM 37 36 2 5,wI 38 36 37,qD 39 36 (qP 38),x4 40 36 (yl 39 xa 160),xT 41 36 40,xo 42 36 41] 42 [xA] (qd [wx 6] (qN 2 (xL [yg 43,xm 44 5,qq 45 44,qW 46 45,ww 47 43 46] 47 2 3 (qL [xZ 50,xm 51 5,yg 53,xm 59 5,yg 61,qq 52 51,wd 54 5 52 53,xk 55 54,qq 56 55,qW 57 56,qZ 58 .add 50 57,qq 60 59,wd 62 5 60 61,wP 63 62,qq 64 63,qW 65 64,qZ 66 .add 58 65,qe 3 66] [xZ 67,qy 68 .gtr 67 800,qe 69 68,qD 70 69 (qi (some 1) 1),xc 71 69 4,xc 72 69 6,xj 73 69 jW (yb 70 (.t 71) 72),xT 74 69 73,xo 75 69 74] (qU 75 [xA])) (yg 48) 49 48 6 49)))) (xv 17) 18 17 4 18) [qc 2 wq])⟩
theorem tc:al Tryz.prog ed=some lI:=by kernel_rfl
def jg:FK:=⟨16,[.c 2 (some 1),.t 3],xW [xE 1 1,we 2 yn,wj 3] [qI 5 1 1,wK 6 kW 5,wA 7 6] 7 [xu 8 yn [],xz 2 8,wj 3] (qd [qI 9 1 1,wK 10 ip 9,we 4 yn,xz 4 10] (wv [qI 11 1 4,wK 12 ed 11,wA 13 12] (qU 13 [xu 14 yn [],xz 2 14,wj 3]) [qI 15 1 4,xz 2 15,qc 3 wq]))⟩
theorem pk:al Tryz.prog cQ=some jg:=by kernel_rfl
def gz:FK:=⟨28,w7,qL [xg] [wN 6,wl 7,qW 8 7,qZ 9 .sub 6 8,qe 1 9] (w6 [wN 10,xP 11 10 0] 11 x8 (wT [yf] 0 (xL [wV 12,wl 13,qW 14 13,ww 15 12 14] 15 0 1 (qL [wN 18,wl 19,wV 20,wd 21 1 19 20,qq 22 21,qb 23 (.len true (.t 22)),qZ 24 .sub 18 23,qe 1 24] [wN 25,xP 26 25 0] (qU 26 x8)) (wV 16) 17 16 5 17) (wH (wN 27) 4 27)))⟩
theorem sO:al Tryz.prog gE=some gz:=by kernel_rfl
def lv:FK:=⟨19,w7,qL [xE 2 4,xg] [wN 5,xm 6 2,qq 7 6,qb 8 (.len true (.t 7)),qZ 9 .sub 5 8,qe 1 9] (w6 [wN 10,xP 11 10 0] 11 x8 (qd [yc 12 2,qq 13 12,wN 14,wS 15 dL 13 14,qe 1 15] (wv [wN 16,xP 17 16 0] (qU 17 x8) (wH (wN 18) 4 18))))⟩
theorem Am:al Tryz.prog iv=some lv:=by kernel_rfl
def jR:FK:=⟨27,w7,qL [xg] [wN 6,wl 7,qW 8 7,qZ 9 .sub 6 8,qe 1 9] (w6 [wN 10,xP 11 10 0] 11 x8 (wT [yf] 0 (xL [wV 12,wl 13,qW 14 13,ww 15 12 14] 15 0 1 (qL [wl 18,wV 19,wd 20 4 18 19,qI 21 4 20,wN 22,wS 23 iv 21 22,qe 1 23] [wN 24,xP 25 24 0] (qU 25 x8)) (wV 16) 17 16 5 17) (wH (wN 26) 4 26)))⟩
theorem zn:al Tryz.prog dL=some jR:=by kernel_rfl
def le:FK:=⟨31,w7,qL [xE 2 5,xg] [wN 5,xk 6 2,qq 7 6,qb 8 (.len true (.t 7)),qZ 9 .sub 5 8,qe 1 9] (w6 [wN 10,xP 11 10 0] 11 x8 (xW [xm 12 2,qq 13 12,wN 14,wS 15 dL 13 14,qe 1 15] [wN 16,xP 17 16 0] 17 x8 (xW [yc 18 2,qq 19 18,wN 20,wS 21 cn 19 20,qe 1 21] [wN 22,xP 23 22 0] 23 x8 (qd [qt 24 4 2,qq 25 24,wN 26,wS 27 cn 25 26,qe 1 27] (wv [wN 28,xP 29 28 0] (qU 29 x8) (wH (wN 30) 4 30))))))⟩
theorem zW:al Tryz.prog iw=some le:=by kernel_rfl
def kq:FK:=⟨27,w7,qL [xg] [wN 6,wl 7,qW 8 7,qZ 9 .sub 6 8,qe 1 9] (w6 [wN 10,xP 11 10 0] 11 x8 (wT [yf] 0 (xL [wV 12,wl 13,qW 14 13,ww 15 12 14] 15 0 1 (qL [wl 18,wV 19,wd 20 5 18 19,qI 21 5 20,wN 22,wS 23 iw 21 22,qe 1 23] [wN 24,xP 25 24 0] (qU 25 x8)) (wV 16) 17 16 5 17) (wH (wN 26) 4 26)))⟩
theorem yH:al Tryz.prog cn=some kq:=by kernel_rfl
def nV:FK:=⟨25,w7,qL [xE 2 3,xg] [wN 5,wP 6 2,qq 7 6,qb 8 (.len true (.t 7)),qZ 9 .sub 5 8,qe 1 9] (w6 [wN 10,xP 11 10 0] 11 x8 (xW [xk 12 2,qq 13 12,wN 14,wS 15 gE 13 14,qe 1 15] [wN 16,xP 17 16 0] 17 x8 (qd [xm 18 2,qq 19 18,wN 20,wS 21 cn 19 20,qe 1 21] (wv [wN 22,xP 23 22 0] (qU 23 x8) (wH (wN 24) 4 24)))))⟩
theorem Ee:al Tryz.prog kA=some nV:=by kernel_rfl
def mz:FK:=⟨27,w7,qL [xg] [wN 6,wl 7,qW 8 7,qZ 9 .sub 6 8,qe 1 9] (w6 [wN 10,xP 11 10 0] 11 x8 (wT [yf] 0 (xL [wV 12,wl 13,qW 14 13,ww 15 12 14] 15 0 1 (qL [wl 18,wV 19,wd 20 3 18 19,qI 21 3 20,wN 22,wS 23 kA 21 22,qe 1 23] [wN 24,xP 25 24 0] (qU 25 x8)) (wV 16) 17 16 5 17) (wH (wN 26) 4 26)))⟩
theorem Cg:al Tryz.prog mt=some mz:=by kernel_rfl
def lH:FK:=⟨12,w7,qL [xE 2 1,xg] [wP 5 2,qq 6 5,wN 7,wS 8 mt 6 7,yi 1] (wv [wN 9,xP 10 9 0] (qU 10 x8) (wH (wN 11) 4 11))⟩
theorem sY:al Tryz.prog eg=some lH:=by kernel_rfl
def ma:FK:=⟨22,xe,qL [qc 2 xt] [wl 5,qW 6 5,qb 7 (.mks 1 16 [wD] (.t 6) (.t 6)),qe 3 7] (wT [xg] 0 (xL [xv 8,wl 9,qW 10 9,ww 11 8 10] 11 0 1 (.reg [xZ 14,xv 15,wl 16,xv 17,wd 18 1 16 17,qq 19 18,wd 20 1 14 15,xz 20 19]) (xv 12) 13 12 4 13) (wH (xZ 21) 2 21))⟩
theorem tL:al Tryz.prog ep=some ma:=by kernel_rfl
def pT:FK:=⟨18,[.c 2 (some 4)],yj [xE 1 4,we 2 [qR,qR,wD,.nils]] [we 3 [qR,qR,wD,.nils]] [wP 4 1,qq 5 4,wP 6 3,xz 6 5] [xk 7 1,qq 8 7,xk 9 3,xz 9 8] (qL [xm 10 1,qq 11 10,xm 12 3,xz 12 11] [yc 13 1,qq 14 13,wK 15 cT 14,yc 16 3,xz 16 15] (qw [qI 17 4 3,q8 4 2 17]))⟩
theorem Ab:al Tryz.prog hZ=some pT:=by kernel_rfl
def nS:FK:=⟨23,xe,qL [qc 2 xt] [wl 5,qW 6 5,qb 7 (.mks 4 56 [qR,qR,wD,.nils] (.t 6) (.t 6)),qe 3 7] (wT [xg] 0 (xL [xv 8,wl 9,qW 10 9,ww 11 8 10] 11 0 1 (.reg [xZ 14,xv 15,wl 16,xv 17,wd 18 4 16 17,qI 19 4 18,wK 20 hZ 19,wd 21 4 14 15,q8 4 21 20]) (xv 12) 13 12 4 13) (wH (xZ 22) 2 22))⟩
theorem vY:al Tryz.prog cT=some nS:=by kernel_rfl
def pN:FK:=⟨23,[.c 2 (some 5)],yj [xE 1 5,we 2 [qR,wD,.nils,.nils,.nils]] [we 3 [qR,wD,.nils,.nils,.nils]] [wP 4 1,qq 5 4,wP 6 3,xz 6 5] [xk 7 1,qq 8 7,xk 9 3,xz 9 8] (qL [xm 10 1,qq 11 10,wK 12 cT 11,xm 13 3,xz 13 12] [yc 14 1,qq 15 14,wK 16 cr 15,yc 17 3,xz 17 16] (wZ [qt 18 4 1,qq 19 18,wK 20 cr 19,qt 21 4 3,xz 21 20] [qI 22 5 3,q8 5 2 22]))⟩
theorem zY:al Tryz.prog ig=some pN:=by kernel_rfl
def ox:FK:=⟨23,xe,qL [qc 2 xt] [wl 5,qW 6 5,qb 7 (.mks 5 96 [qR,wD,.nils,.nils,.nils] (.t 6) (.t 6)),qe 3 7] (wT [xg] 0 (xL [xv 8,wl 9,qW 10 9,ww 11 8 10] 11 0 1 (.reg [xZ 14,xv 15,wl 16,xv 17,wd 18 5 16 17,qI 19 5 18,wK 20 ig 19,wd 21 5 14 15,q8 5 21 20]) (xv 12) 13 12 4 13) (wH (xZ 22) 2 22))⟩
theorem yx:al Tryz.prog cr=some ox:=by kernel_rfl
def uo:FK:=⟨16,[.c 2 (some 3)],yj [xE 1 3,we 2 [wD,.nils,.nils]] [we 3 [wD,.nils,.nils]] [wP 4 1,qq 5 4,wP 6 3,xz 6 5] [xk 7 1,qq 8 7,wK 9 ep 8,xk 10 3,xz 10 9] (wZ [xm 11 1,qq 12 11,wK 13 cr 12,xm 14 3,xz 14 13] [qI 15 3 3,q8 3 2 15])⟩
theorem CM:al Tryz.prog kS=some uo:=by kernel_rfl
def sa:FK:=⟨23,xe,qL [qc 2 xt] [wl 5,qW 6 5,qb 7 (.mks 3 64 [wD,.nils,.nils] (.t 6) (.t 6)),qe 3 7] (wT [xg] 0 (xL [xv 8,wl 9,qW 10 9,ww 11 8 10] 11 0 1 (.reg [xZ 14,xv 15,wl 16,xv 17,wd 18 3 16 17,qI 19 3 18,wK 20 kS 19,wd 21 3 14 15,q8 3 21 20]) (xv 12) 13 12 4 13) (wH (xZ 22) 2 22))⟩
theorem Bt:al Tryz.prog jq=some sa:=by kernel_rfl
def lQ:FK:=⟨9,[.c 2 (some 1)],qL [xE 1 1,we 2 yn] [we 3 yn] (wZ [wP 4 1,qq 5 4,wK 6 jq 5,wP 7 3,xz 7 6] [qI 8 1 3,xz 2 8])⟩
theorem td:al Tryz.prog cY=some lQ:=by kernel_rfl
def lV:FK:=⟨26,w7,xW xG [wl 6,qW 7 6,wN 8,qW 9 8,qZ 10 .neq 7 9] 10 xG (wT [yf] 0 (xL [wV 11,xX,qW 13 12,ww 14 11 13] 14 0 1 (xq [wl 17,wV 18,wd 19 1 17 18,wN 21,wV 22,wd 23 1 21 22,qq 20 19,qq 24 23,qb 25 (xH .neq 20 (.t 24))] 25 xG) (wV 15) 16 15 5 16) [qc 4 wq])⟩
theorem tk:al Tryz.prog gP=some lV:=by kernel_rfl
def pF:FK:=⟨26,w7,xW [xE 2 4,wn 3 4 1,wz] [wP 5 2,qq 6 5,wP 7 3,qq 8 7,qZ 9 .neq 6 8] 9 xG (w6 [xk 10 2,qq 11 10,xk 12 3,qq 13 12,qZ 14 .neq 11 13] 14 xG (w6 [xm 15 2,qq 16 15,xm 17 3,qq 18 17,qb 19 (xH .neq 16 (.t 18))] 19 xG (wv [yc 20 2,qq 21 20,yc 22 3,qq 23 22,wS 24 dX 21 23,wA 25 24] (qU 25 xG) [qc 4 wq])))⟩
theorem zR:al Tryz.prog gY=some pF:=by kernel_rfl
def oC:FK:=⟨27,w7,xW xG [wl 6,qW 7 6,wN 8,qW 9 8,qZ 10 .neq 7 9] 10 xG (wT [yf] 0 (xL [wV 11,xX,qW 13 12,ww 14 11 13] 14 0 1 (xq [wl 17,wV 18,wd 19 4 17 18,wN 21,wV 22,wd 23 4 21 22,qI 20 4 19,qI 24 4 23,wS 25 gY 20 24,wA 26 25] 26 xG) (wV 15) 16 15 5 16) [qc 4 wq])⟩
theorem yM:al Tryz.prog dX=some oC:=by kernel_rfl
def pu:FK:=⟨33,w7,xW [xE 2 5,wn 3 5 1,wz] [wP 5 2,qq 6 5,wP 7 3,qq 8 7,qZ 9 .neq 6 8] 9 xG (w6 [xk 10 2,qq 11 10,xk 12 3,qq 13 12,qb 14 (xH .neq 11 (.t 13))] 14 xG (w6 [xm 15 2,qq 16 15,xm 17 3,qq 18 17,wS 19 dX 16 18,wA 20 19] 20 xG (w6 [yc 21 2,qq 22 21,yc 23 3,qq 24 23,wS 25 cX 22 24,wA 26 25] 26 xG (wv [qt 27 4 2,qq 28 27,qt 29 4 3,qq 30 29,wS 31 cX 28 30,wA 32 31] (qU 32 xG) [qc 4 wq]))))⟩
theorem zU:al Tryz.prog il=some pu:=by kernel_rfl
def og:FK:=⟨27,w7,xW xG [wl 6,qW 7 6,wN 8,qW 9 8,qZ 10 .neq 7 9] 10 xG (wT [yf] 0 (xL [wV 11,xX,qW 13 12,ww 14 11 13] 14 0 1 (xq [wl 17,wV 18,wd 19 5 17 18,wN 21,wV 22,wd 23 5 21 22,qI 20 5 19,qI 24 5 23,wS 25 il 20 24,wA 26 25] 26 xG) (wV 15) 16 15 5 16) [qc 4 wq])⟩
theorem yW:al Tryz.prog cX=some og:=by kernel_rfl
def uk:FK:=⟨22,w7,xW [xE 2 3,wn 3 3 1,wz] [wP 5 2,qq 6 5,wP 7 3,qq 8 7,qb 9 (xH .neq 6 (.t 8))] 9 xG (w6 [xk 10 2,qq 11 10,xk 12 3,qq 13 12,wS 14 gP 11 13,wA 15 14] 15 xG (wv [xm 16 2,qq 17 16,xm 18 3,qq 19 18,wS 20 cX 17 19,wA 21 20] (qU 21 xG) [qc 4 wq]))⟩
theorem Dx:al Tryz.prog kN=some uk:=by kernel_rfl
def sx:FK:=⟨27,w7,xW xG [wl 6,qW 7 6,wN 8,qW 9 8,qZ 10 .neq 7 9] 10 xG (wT [yf] 0 (xL [wV 11,xX,qW 13 12,ww 14 11 13] 14 0 1 (xq [wl 17,wV 18,wd 19 3 17 18,wN 21,wV 22,wd 23 3 21 22,qI 20 3 19,qI 24 3 23,wS 25 kN 20 24,wA 26 25] 26 xG) (wV 15) 16 15 5 16) [qc 4 wq])⟩
theorem BN:al Tryz.prog mJ=some sx:=by kernel_rfl
def lR:FK:=⟨11,w7,qd [xE 2 1,wn 3 1 1,wz] (wv [wP 5 2,qq 6 5,wP 7 3,qq 8 7,wS 9 mJ 6 8,wA 10 9] (qU 10 xG) [qc 4 wq])⟩
theorem tB:al Tryz.prog gA=some lR:=by kernel_rfl
def mX:FK:=⟨53,xe,xW [xE 1 1,xC] [qI 6 1 1,wK 7 ed 6,wA 8 7] 8 (x7 2) (yr [wx 3] [xg] 0 (xL [xv 9,wP 10 1,qq 11 10,qW 12 11,ww 13 9 12] 13 0 1 (qd [yf] (qN 2 (xL [wV 16,wP 17 1,qq 18 17,xv 19,wd 20 3 18 19,xm 21 20,qq 22 21,qW 23 22,ww 24 16 23] 24 2 3 (.reg [xZ 27,wP 28 1,xv 30,wV 34,wP 40 1,xv 42,wV 46,qq 29 28,wd 31 3 29 30,xm 32 31,qq 33 32,wd 35 5 33 34,xk 36 35,qq 37 36,qW 38 37,qZ 39 .add 27 38,qq 41 40,wd 43 3 41 42,xm 44 43,qq 45 44,wd 47 5 45 46,wP 48 47,qq 49 48,qW 50 49,qZ 51 .add 39 50,qe 3 51]) (wV 25) 26 25 5 26))) (xv 14) 15 14 4 15) (wH (xZ 52) 2 52))⟩
theorem uz:al Tryz.prog iM=some mX:=by kernel_rfl
def lU:FK:=⟨14,xe,qL [xE 1 1,xC] [qI 6 1 1,wK 7 cQ 6,qe 5 7,xb 8 0 5,xb 9 1 5,we 3 yn,xz 3 8,qe 4 9] (wv [xv 10,wA 11 10] (qU 11 (x7 2)) (xJ (qI 12 1 3) (wK 13 iM 12) 2 13))⟩
theorem sM:al Tryz.prog gX=some lU:=by kernel_rfl
def mZ:FK:=⟨22,xe,xW [xE 1 1,xC] [qI 6 1 1,wK 7 ee 6,wA 8 7] 8 (x7 2) (yr [wx 3] [wP 9 1,qq 10 9,qW 11 10,wx 12] 0 (x9 [ww 13 12 11] 13 0 1 (yq [wd 14 3 10 12,qI 15 3 14,we 5 [qR,qR,.nils],q8 3 5 15] [xZ 16,qI 17 3 5,wK 18 eb 17,qZ 19 .add 16 18,qe 3 19]) (xQ 20 12 12 20)) (wH (xZ 21) 2 21))⟩
theorem uJ:al Tryz.prog iY=some mZ:=by kernel_rfl
def lD:FK:=⟨14,xe,qL [xE 1 1,xC] [qI 6 1 1,wK 7 cN 6,qe 5 7,xb 8 0 5,xb 9 1 5,we 3 yn,xz 3 8,qe 4 9] (wv [xv 10,wA 11 10] (qU 11 (x7 2)) (xJ (qI 12 1 3) (wK 13 iY 12) 2 13))⟩
theorem tr:al Tryz.prog gU=some lD:=by kernel_rfl
def fC:FK:=⟨27,xe,qL [xE 1 1,xA] (xY 3 1048576) (xW [qI 7 1 1,xZ 8,wS 9 eg 7 8,qe 3 9] [xZ 10,xP 11 10 0] 11 [qc 2 wq] (qL [qI 12 1 1,wK 13 cY 12,wK 14 gX 13,qe 4 14] [qI 15 1 1,wK 16 cY 15,we 5 yn,xz 5 16] (xW (xJ (qI 17 1 5) (wK 18 gU 17) 6 18) [yg 19,xv 20,qZ 21 .neq 19 20] 21 [xA] (wv [qI 22 1 5,qI 23 1 1,wK 24 cY 23,w9 (some 1) 5 22,wS 25 gA 22 24,wA 26 25] (qU 26 [xA]) [qc 2 wq]))))⟩
theorem lA:al Tryz.prog fH=some fC:=by kernel_rfl
end Go.Proofs.YtghpabfdmbdpfaaGreatDoor
