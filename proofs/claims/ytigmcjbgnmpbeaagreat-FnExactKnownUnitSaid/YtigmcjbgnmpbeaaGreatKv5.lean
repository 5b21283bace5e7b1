/-
  Contracts and lemmas that the card needs, part 5.
-/
import Derived.Test.YtigmcjbgnmpbeaaGreatKv4
import Derived.Test.YtigmcjbgnmpbeaaGreatRows
namespace Go.Proofs.YtigmcjbgnmpbeaaGreat
open Go Go.Aw
set_option maxRecDepth 100000
abbrev ej:FuncId:=178
abbrev jv:FuncId:=238
abbrev lJ:FuncId:=176
abbrev jC:FuncId:=239
abbrev lG:FuncId:=177
abbrev gf:FuncId:=115
abbrev iP:FuncId:=57
abbrev ie:FuncId:=30
abbrev jO:FuncId:=14
abbrev gY:FuncId:=5
abbrev ey:FuncId:=203
abbrev jA:FuncId:=255
abbrev lA:FuncId:=201
abbrev jz:FuncId:=256
abbrev lK:FuncId:=202
abbrev ft:FuncId:=131
abbrev iz:FuncId:=60
abbrev gU:FuncId:=33
abbrev kh:FuncId:=16
abbrev cg:FuncId:=7
abbrev cJ:FuncId:=90
abbrev gV:FuncId:=160
abbrev bR:FuncId:=99
abbrev lC:FuncId:=222
abbrev nu:FuncId:=159
abbrev aS:FuncId:=94
abbrev kQ:FuncId:=91
abbrev bL:FuncId:=48
abbrev bm:FuncId:=179
abbrev ca:FuncId:=116
abbrev lD:FuncId:=180
abbrev fT:FuncId:=117
abbrev gd:FuncId:=118
abbrev db:FuncId:=181
abbrev iO:FuncId:=119
abbrev nk:FuncId:=58
abbrev iH:FuncId:=31
abbrev jY:FuncId:=240
abbrev bY:FuncId:=245
abbrev gz:FuncId:=241
abbrev gQ:FuncId:=182
abbrev jc:FuncId:=183
abbrev cM:FuncId:=163
abbrev jm:FuncId:=162
abbrev fK:FuncId:=121
abbrev fV:FuncId:=120
abbrev lX:FuncId:=93
abbrev zJ:FuncId:=92
abbrev lx:FuncId:=292
abbrev BI:FuncId:=122
abbrev vL:FuncId:=123
abbrev fa:FuncId:=277
abbrev kq:FuncId:=278
abbrev cP:FuncId:=279
abbrev bQ:FuncId:=190
abbrev mV:FuncId:=296
abbrev pH:FuncId:=293
abbrev fb:FuncId:=280
abbrev bi:FuncId:=281
abbrev dv:FuncId:=249
abbrev ni:FuncId:=189
abbrev kw:FuncId:=191
abbrev gZ:FuncId:=124
abbrev zK:FuncId:=125
abbrev zu:FuncId:=126
abbrev BS:FuncId:=127
abbrev Bv:FuncId:=128
abbrev AB:FuncId:=129
abbrev zr:FuncId:=130
abbrev jZ:FuncId:=59
abbrev fC:FuncId:=32
abbrev fA:FuncId:=15
abbrev gR:FuncId:=6
abbrev dg:FuncId:=61
abbrev gN:FuncId:=133
abbrev eA:FuncId:=73
abbrev cN:FuncId:=144
abbrev aF:FuncId:=71
abbrev bG:FuncId:=204
abbrev bu:FuncId:=135
abbrev eY:FuncId:=212
abbrev bq:FuncId:=143
abbrev bg:FuncId:=70
abbrev bn:FuncId:=132
abbrev iN:FuncId:=134
abbrev jx:FuncId:=155
abbrev iu:FuncId:=78
abbrev ef:FuncId:=207
abbrev kD:FuncId:=208
abbrev cD:FuncId:=205
abbrev kx:FuncId:=206
abbrev mY:FuncId:=137
abbrev iC:FuncId:=136
abbrev iX:FuncId:=138
abbrev lH:FuncId:=62
abbrev gD:FuncId:=63
abbrev dJ:FuncId:=34
abbrev bF:FuncId:=64
abbrev bp:FuncId:=35
abbrev bw:FuncId:=257
abbrev bf:FuncId:=209
abbrev fe:FuncId:=211
abbrev dT:FuncId:=210
abbrev dF:FuncId:=139
abbrev aL:FuncId:=140
abbrev dk:FuncId:=65
abbrev ep:FuncId:=42
abbrev bZ:FuncId:=66
abbrev dZ:FuncId:=141
abbrev cK:FuncId:=67
abbrev eP:FuncId:=142
abbrev dq:FuncId:=69
abbrev aV:FuncId:=68
abbrev cu:FuncId:=72
abbrev fR:FuncId:=37
abbrev fz:FuncId:=36
abbrev iA:FuncId:=17
abbrev cB:FuncId:=19
abbrev gI:FuncId:=18
abbrev uo:FuncId:=213
abbrev fU:FuncId:=214
abbrev iF:FuncId:=145
abbrev aR:FuncId:=74
abbrev gH:FuncId:=147
abbrev cw:FuncId:=146
abbrev dt:FuncId:=79
abbrev kH:FuncId:=285
abbrev fv:FuncId:=258
abbrev jy:FuncId:=216
abbrev cU:FuncId:=215
abbrev gC:FuncId:=148
abbrev cy:FuncId:=149
abbrev eV:FuncId:=75
abbrev fG:FuncId:=38
abbrev cn:FuncId:=39
abbrev ch:FuncId:=76
abbrev cR:FuncId:=150
abbrev cT:FuncId:=152
abbrev aP:FuncId:=154
abbrev eN:FuncId:=151
abbrev eE:FuncId:=153
abbrev bB:FuncId:=77
abbrev bJ:FuncId:=40
abbrev eH:FuncId:=80
abbrev eh:FuncId:=43
abbrev cV:FuncId:=218
abbrev lY:FuncId:=157
abbrev tW:FuncId:=166
abbrev pB:FuncId:=217
abbrev oV:FuncId:=156
abbrev gJ:FuncId:=82
abbrev lR:FuncId:=81
abbrev cL:FuncId:=44
abbrev aD:FuncId:=41
abbrev dO:FuncId:=20
abbrev bI:FuncId:=8
abbrev ec:FuncId:=221
abbrev jq:FuncId:=259
abbrev lV:FuncId:=219
abbrev jl:FuncId:=260
abbrev lu:FuncId:=220
abbrev fW:FuncId:=158
abbrev iG:FuncId:=83
abbrev ib:FuncId:=45
abbrev kB:FuncId:=21
abbrev dh:FuncId:=9
abbrev bX:FuncId:=86
abbrev iE:FuncId:=84
abbrev iY:FuncId:=85
abbrev fZ:FuncId:=46
abbrev gx:FuncId:=22
abbrev eK:FuncId:=10
abbrev cZ:FuncId:=89
abbrev iS:FuncId:=87
abbrev iT:FuncId:=88
abbrev fM:FuncId:=47
abbrev gL:FuncId:=23
abbrev eJ:FuncId:=11
abbrev fk:FuncId:=3
@[reducible] def qa(a:Nat)(b:Option (Nat × Bool))(c:AI):CO:=⟨some a,b,c⟩
@[reducible] def qb(a:Nat)(b:AI):CO:=qa a none b
@[reducible] def qe(a:Nat)(b:AOp):CO:=qb a (.mov b)
@[reducible] def qf(a:List CO)(b:AK):AK:= .seq (.reg a) b
@[reducible] def qg(a b:Nat):CO:=qe a (.t b)
@[reducible] def qh(a:IntKind)(b:Int):AV:= .p (.int a b)
@[reducible] def qj(a:Int):AV:=qh .i64 a
@[reducible] def qk(a:Option Nat)(b:Nat):AI:= .ld a (.t b)
@[reducible] def ql(a b:Nat):AI:= .fldA a (.t b)
@[reducible] def qm(a:BinOp)(b:Nat)(c:AOp):AI:= .bin a (.t b) c
@[reducible] def qn(a:Nat)(b:Option Nat)(c:Nat):CO:=qb a (qk b c)
@[reducible] def qo(a:Nat)(b:Nat × Bool)(c:AI):CO:=qa a (some b) c
@[reducible] def qp(a:Int):AOp:= .c (qj a)
@[reducible] def qq(a:Nat)(b c:AK):AK:= .cond (.t a) b c
@[reducible] def qr(a b:Nat):CO:=qn a none b
@[reducible] def qu(a:Option (Nat × Bool))(b:AI):CO:=⟨none,a,b⟩
@[reducible] def qv(a b:Nat)(c:AOp):AI:= .idxS a (.t b) c
@[reducible] def qw(a:Nat)(b:BinOp)(c:Nat)(d:AOp):CO:=qb a (qm b c d)
@[reducible] def qx(a:Bool):AV:= .p (.bool a)
@[reducible] def qy(a b c:Nat):CO:=qb a (ql b c)
@[reducible] def qz(a:AI):CO:=qu none a
@[reducible] def qA(a:Nat)(b:FuncId)(c:List AOp):CO:=qb a (.call b c)
@[reducible] def qB(a:List CO)(b c:AK):AK:= .seq (qf a b) c
@[reducible] def qC(a:List CO):AK:=qf a .ret
@[reducible] def qD:AV:=qx false
@[reducible] def qE(a:Option Nat)(b c:Nat):CO:=qz (.chk a b c)
@[reducible] def qF(a:AOp):AI:= .len false a
@[reducible] def qG(a b c:Nat):AI:=qv a b (.t c)
@[reducible] def qH(a:Nat)(b:BinOp)(c:Nat)(d:Int):CO:=qw a b c (qp d)
@[reducible] def qI:AV:=qj 0
@[reducible] def qJ(a:Nat)(b:Int):CO:=qe a (qp b)
@[reducible] def qK(a b c d:Nat):CO:=qb a (qG b c d)
@[reducible] def qL(a b c:Nat):CO:=qn a (some b) c
@[reducible] def qM(a:List CO)(b c:OT):OT:= .alt (.one a b) c
@[reducible] def qN(a:Nat)(b c:AOp):CO:=qz (.st a b c)
@[reducible] def qO(a:Nat)(b:AK):AK:= .blk a (.loop b)
@[reducible] def qP(a:Nat)(b:AV):CO:=qe a (.c b)
@[reducible] def qQ(a:Nat)(b c:AK):AK:= .seq (.blk a b) c
@[reducible] def qR(a:Nat)(b:AK):AK:=qq a b .skip
@[reducible] def qS(a b:Nat)(c:AOp):CO:=qN a (.t b) c
@[reducible] def qT(a:Nat)(b:BinOp)(c d:Nat):CO:=qw a b c (.t d)
@[reducible] def qU(a:Nat)(b:AK)(c:Nat):AK:=qq a b (.exit c)
@[reducible] def qV(a b:Nat)(c:Bool)(d:AI):CO:=qo a (b,c) d
@[reducible] def qW(a b:Nat)(c:AI):CO:=qV a b true c
@[reducible] def qX(a b:Nat)(c:AI):CO:=qV a b false c
@[reducible] def qY(a:Nat):AI:=qF (.t a)
@[reducible] def qZ(a:Nat)(b:List AV):CO:=qb a (.alloc b)
@[reducible] def q9(a b:List CO)(c:AK):AK:=qf a (qf b c)
@[reducible] def wa(a b c:Nat):CO:=qS a b (.t c)
@[reducible] def wb(a:Nat):AI:= .nilck (.t a)
@[reducible] def wc(a b:Nat):CO:=qE none a b
@[reducible] def wd(a b:Nat):CO:=qb a (qY b)
@[reducible] def wg(a:Nat)(b:AK)(c:List CO):AK:=qQ a b (.reg c)
@[reducible] def wh(a:Nat)(b:List CO):AK:=qR a (qC b)
@[reducible] def wj(a b:Nat):AK:=qU a .skip b
@[reducible] def wn(a:Nat):AI:= .mov (.t a)
@[reducible] def ws(a:Nat)(b c:AOp):AI:= .pick (.t a) b c
@[reducible] def wt(a b:Nat)(c:Int):CO:=qH a .add b c
@[reducible] def wu(a b:Nat):AI:= .box a (.t b)
@[reducible] def wv:AV:=qx true
@[reducible] def ww(a b c:Nat):CO:=qT a .lss b c
@[reducible] def wx(a:List CO)(b:OT):OT:=qM a b .tru
@[reducible] def wz(a b:Nat)(c:List AV)(d:Nat)(e:List (Nat × Nat × AOp)):CO:=qb a (.bsl b c d e)
@[reducible] def wA(a:Nat):AI:=qk none a
@[reducible] def wB(a:Nat):AI:= .not (.t a)
@[reducible] def wC(a:List CO)(b:AK)(c:List CO):AK:=qB a b (qC c)
@[reducible] def wD(a b c:Nat):CO:=qb a (wu b c)
@[reducible] def wF(a:Nat):CO:=qg a 1
@[reducible] def wG(a:Nat):CO:=qg a 0
@[reducible] def wH(a b:Nat):CO:=qb a (wb b)
@[reducible] def wI(a:Nat):CO:=qP a qD
@[reducible] def wJ:Option Nat:=some 3
@[reducible] def wK(a:Nat)(b:List CO)(c d:AK):AK:=qO a (qB b c d)
@[reducible] def wL(a:Nat):CO:=qJ a 0
@[reducible] def wM(a:Nat)(b:List CO)(c d:Nat)(e:AK):AK:=wK a b (wj c d) e
@[reducible] def wN(a b c:Nat)(d:AOp):AI:= .app a b (.t c) d
@[reducible] def wO(a b:Nat)(c d:AOp):CO:=qb a (ws b c d)
@[reducible] def wP(a b c:Nat):CO:=qW a b (wA c)
@[reducible] def wQ(a:Nat)(b:List CO)(c d e:Nat)(f:AK)(g:List CO):AK:=wM a b c d (wg e f g)
@[reducible] def wR(a:Nat):CO:=qg a 5
@[reducible] def wS(a b:Nat)(c:Int):CO:=qH a .eql b c
@[reducible] def wU(a:CO)(b c:Nat):List CO:=[a,qg b c]
@[reducible] def wV(a:List CO)(b c:AK):AK:=qf a (.seq b c)
@[reducible] def wW(a b:List CO)(c:OT):OT:= .one a (.one b c)
@[reducible] def wX(a b c:Nat):Nat × Nat × AOp:=(a,b,.t c)
@[reducible] def wY:AOp:= .c wv
@[reducible] def wZ(a:List CO)(b:Nat)(c:List CO)(d:AK):AK:=qB a (wh b c) d
@[reducible] def w4(a:Nat):List AOp:=[.t a]
@[reducible] def w5(a:Nat)(b:FuncId)(c:Nat):CO:=qA a b (w4 c)
@[reducible] def w6:RV:= .t 4
@[reducible] def w7(a b:List CO)(c:OT):OT:=wx a (wx b c)
@[reducible] def w8(a b:Nat):CO:=qy a 0 b
@[reducible] def w9(a b:Nat):CO:=qb a (wB b)
@[reducible] def xa(a b c:Nat):CO:=qW a b (wn c)
@[reducible] def xb(a b:Nat):CO:=wt a b 1
@[reducible] def xc(a b c d:Nat):AI:=wN a b c (.t d)
@[reducible] def xd(a b:Nat):CO:=qy a 2 b
@[reducible] def xe(a b c d e:Nat):CO:=qb a (xc b c d e)
@[reducible] def xf:AOp:= .c qD
@[reducible] def xg(a b:Nat):Nat × Nat × AOp:=wX a 1 b
@[reducible] def xh(a:Nat)(b:List AV)(c:List (Nat × Nat × AOp)):CO:=qb a (.bld b c)
@[reducible] def xi(a b:CO)(c d:Nat):List CO:=[a,b,qg c d]
@[reducible] def xj(a:CO)(b c d e:Nat):List CO:=xi a (xb b c) d e
@[reducible] def xk(a:Nat)(b:List CO)(c d e:Nat)(f:AK)(g:CO)(h i j k:Nat):AK:=wQ a b c d e f (xj g h i j k)
@[reducible] def xm(a:Nat):CO:=qP a .nils
@[reducible] def xn(a b:List CO)(c:AK)(d:List CO):AK:=qf a (wC b c d)
@[reducible] def xp(a:Nat):List CO:=[wL a]
@[reducible] def xr:AOp:=qp 0
@[reducible] def xt(a:Nat)(b:AOp):List AOp:=[.t a,b]
@[reducible] def xu(a b:Nat):List AOp:=xt a (.t b)
@[reducible] def xv(a:Nat)(b:FuncId)(c d:Nat):CO:=qA a b (xu c d)
@[reducible] def xy(a b:List CO):AK:=qf a (qC b)
@[reducible] def xz(a b c:Nat):CO:=qK a 1 b c
@[reducible] def xA(a b c:Nat):CO:=qX a b (wn c)
@[reducible] def xB(a b:Nat):AI:= .ext a (.t b)
@[reducible] def xC(a:Nat)(b:List AOp):AI:= .callv (.t a) b
@[reducible] def xD:CO:=wI 4
@[reducible] def xE(a b c d:Nat):CO:=qW a b (ql c d)
@[reducible] def xF(a:List CO)(b:Nat)(c d:AK):AK:=qf a (qq b c d)
@[reducible] def xG(a b:Nat)(c:AOp)(d:Nat):CO:=wO a b c (.t d)
@[reducible] def xH(a b:Nat):CO:=wa 1 a b
@[reducible] def xI(a:Nat):CO:=qg a 3
@[reducible] def xJ(a:Nat)(b:List CO)(c d:AK):AK:=qO a (wV b c d)
@[reducible] def xK(a b c d:Nat):List CO:=wU (xb a b) c d
@[reducible] def xL(a b:Nat):CO:=qy a 1 b
@[reducible] def xM:RV:= .t 2
@[reducible] def xN(a:List CO)(b c:AK):AK:= .cut (qf a b) c
@[reducible] def xO(a:Nat)(b:List CO)(c d:Nat)(e:AK):AK:=xJ a b (wj c d) e
@[reducible] def xP:List AV:=[.nils]
@[reducible] def xQ(a b c:Nat):CO:=qX a b (wA c)
@[reducible] def xR(a b:Nat):CO:=qL a 3 b
@[reducible] def xS(a:Nat)(b:AK)(c d e f:Nat):AK:=wg a b (xK c d e f)
@[reducible] def xT(a:Nat)(b:List CO)(c d e:Nat)(f:AK)(g h i j k l:Nat):AK:=xk a b c d e f (qg g h) i j k l
@[reducible] def xU:CO:=wI 2
@[reducible] def xV(a:Nat):CO:=qJ a (-1)
@[reducible] def xW:CO:=xV 4
@[reducible] def xX(a b c:Nat)(d:AOp):CO:=wO a b (.t c) d
@[reducible] def xY(a b:Nat)(c:List AV)(d:Nat)(e:AOp):AI:= .mks a b c (.t d) e
@[reducible] def xZ:List CO:=xp 4
@[reducible] def x7(a b:Nat):CO:=qE wJ a b
@[reducible] def x8(a:Nat)(b:List CO)(c d e:Nat)(f:AK)(g h i j:Nat):AK:=xO a b c d (xS e f g h i j)
@[reducible] def x9(a:List CO)(b:Nat)(c:List CO):AK:=qf a (wh b c)
@[reducible] def ya(a b c:Nat):CO:=qb a (xB b c)
@[reducible] def yb(a b:Nat):CO:=wD a b 0
@[reducible] def yc(a:Nat):CO:=qg a 4
@[reducible] def yd(a b c d:Nat):CO:=qX a b (ql c d)
@[reducible] def ye(a:Nat):CO:=qg a 8
@[reducible] def yf(a b:List CO):AK:=qf a (.reg b)
@[reducible] def yg(a:Nat)(b:List AOp):CO:=qA a dg b
@[reducible] def yh(a b c:Nat):CO:=qT a .neq b c
@[reducible] def yj:List RV:=[w6]
@[reducible] def yk(a:List CO)(b:Nat)(c:List CO)(d:AK):AK:=xF a b (qC c) d
@[reducible] def ym(a b:Nat)(c:FuncId)(d:List AOp):CO:=qX a b (.call c d)
@[reducible] def yn(a:CO)(b:OT):OT:= .one [a] b
@[reducible] def yp(a:FuncId)(b:List AOp):AI:= .mkf (.func a) b
@[reducible] def yr(a b:Nat)(c:Int):CO:=qH a .lss b c
@[reducible] def yt(a:Nat):CO:=qg a 7
@[reducible] def yu:CO:=wG 12
@[reducible] def yv(a:List CO)(b:AK)(c:CO)(d e:Nat):AK:=wC a b (wU c d e)
@[reducible] def yw(a b:List CO)(c:Nat)(d:List CO)(e:AK):AK:=qf a (wZ b c d e)
@[reducible] def yx(a:Nat)(b:List AOp):CO:=qA a cJ b
@[reducible] def yy(a b c:Nat):CO:=xG a b wY c
@[reducible] def yz(a b:Nat)(c:BinOp)(d:Nat)(e:AOp):CO:=qW a b (qm c d e)
@[reducible] def yA:List CO:=xp 5
@[reducible] def yB(a:Nat):CO:=qg a 6
@[reducible] def yC(a b c:Nat):CO:=qK a 5 b c
@[reducible] def yD(a:Nat)(b:List CO):AK:=qR a (.reg b)
@[reducible] def yE(a b:Nat)(c:Int)(d e:Nat):List CO:=wU (wS a b c) d e
@[reducible] def yF(a b:Nat)(c:List AV)(d:Nat):CO:=wz a b c d []
@[reducible] def yG(a:Nat):CO:=qg a 10
@[reducible] def yH(a b:Nat)(c:CO):List CO:=[yb a b,c]
@[reducible] def yI(a b:Nat)(c:CO)(d:List CO)(e:AK):AK:=q9 (yH a b c) d e
@[reducible] def yJ:AOp:=qp 1
@[reducible] def yK(a b:Nat)(c:List AV)(d e:Nat):AI:=xY a b c d (.t e)
@[reducible] def yL(a:Nat):CO:=wc a 10
@[reducible] def yM:CO:=yL 9
@[reducible] def yN(a:Nat):CO:=wc 11 a
@[reducible] def yO:CO:=yN 12
@[reducible] def yP:List CO:=[xW]
@[reducible] def yQ(a:Nat):CO:=x7 1 a
@[reducible] def yR(a b c:Nat)(d:List AV)(e f:Nat):CO:=qb a (yK b c d e f)
@[reducible] def yS:List RV:=[xM]
@[reducible] def yU:List AV:=[qI]
@[reducible] def yV(a:Nat):CO:=qg 6 a
@[reducible] def yW(a:Nat):CO:=qg a 2
@[reducible] def yX(a b:Nat):AI:=xC a (w4 b)
@[reducible] def yY(a b c:Nat):CO:=xX a b c xf
@[reducible] def yZ:CO:=wR 13
@[reducible] def y9(a:Nat):CO:=qP a wv
@[reducible] def za(a b c d e:Nat):CO:=qW a b (qG c d e)
@[reducible] def zb(a:Nat)(b c:AOp):List AOp:=[.t a,b,c]
@[reducible] def zd(a:Nat)(b:AOp)(c:Nat):List AOp:=zb a b (.t c)
@[reducible] def ze(a b c:Nat):List AOp:=zd a (.t b) c
@[reducible] def zf:List CO:=[xD]
def lI:FK:=⟨12,yj,q9 xZ [wF 5,wG 6,wd 7 6,qT 8 .sub 5 7,ye 1] (yv [wF 9,yr 10 9 0] (wh 10 yP) (wF 11) 4 11)⟩
theorem Db:af Tryz.prog ej=some lI:=by kernel_rfl
def uD:FK:=⟨12,yj,yI 2 2 (wL 4) [xL 5 2,qr 6 5,wF 7,xv 8 ej 6 7,ye 1] (yv [wF 9,yr 10 9 0] (wh 10 yP) (wF 11) 4 11)⟩
theorem EO:af Tryz.prog jv=some uD:=by kernel_rfl
def lq:FK:=⟨27,yj,q9 xZ [wF 6,wG 7,wd 8 7,qT 9 .sub 6 8,qg 1 9] (wZ [wF 10,yr 11 10 0] 11 yP (yv yA (xk 0 [wR 12,wG 13,wd 14 13,ww 15 12 14] 15 0 1 (q9 [wG 18,wR 19,qK 20 2 18 19,qL 21 2 20,wF 22,xv 23 jv 21 22,qg 1 23] [wF 24,yr 25 24 0] (wh 25 yP)) (wR 16) 17 16 5 17) (wF 26) 4 26))⟩
theorem CY:af Tryz.prog lJ=some lq:=by kernel_rfl
def uC:FK:=⟨12,yj,yI 2 4 (wL 4) [xd 5 2,qr 6 5,wF 7,xv 8 ej 6 7,ye 1] (yv [wF 9,yr 10 9 0] (wh 10 yP) (wF 11) 4 11)⟩
theorem EI:af Tryz.prog jC=some uC:=by kernel_rfl
def ly:FK:=⟨27,yj,q9 xZ [wF 6,wG 7,wd 8 7,qT 9 .sub 6 8,qg 1 9] (wZ [wF 10,yr 11 10 0] 11 yP (yv yA (xk 0 [wR 12,wG 13,wd 14 13,ww 15 12 14] 15 0 1 (q9 [wG 18,wR 19,qK 20 4 18 19,qL 21 4 20,wF 22,xv 23 jC 21 22,qg 1 23] [wF 24,yr 25 24 0] (wh 25 yP)) (wR 16) 17 16 5 17) (wF 26) 4 26))⟩
theorem Cv:af Tryz.prog lG=some ly:=by kernel_rfl
def pq:FK:=⟨24,yj,yI 2 5 (wL 4) [w8 5 2,qr 6 5,wF 7,xv 8 lJ 6 7,ye 1] (wZ [wF 9,yr 10 9 0] 10 yP (yw [xL 11 2,qr 12 11,wF 13,xv 14 lG 12 13,qg 1 14] [wF 15,yr 16 15 0] 16 yP (xn [qy 17 4 2,qr 18 17,wF 19,xv 20 ej 18 19,qg 1 20] [wF 21,yr 22 21 0] (wh 22 yP) (wU (wF 23) 4 23))))⟩
theorem BF:af Tryz.prog gf=some pq:=by kernel_rfl
def jb:FK:=⟨27,yj,q9 xZ [wF 6,wG 7,wd 8 7,qT 9 .sub 6 8,qg 1 9] (wZ [wF 10,yr 11 10 0] 11 yP (yv yA (xk 0 [wR 12,wG 13,wd 14 13,ww 15 12 14] 15 0 1 (q9 [wG 18,wR 19,yC 20 18 19,qL 21 5 20,wF 22,xv 23 gf 21 22,qg 1 23] [wF 24,yr 25 24 0] (wh 25 yP)) (wR 16) 17 16 5 17) (wF 26) 4 26))⟩
theorem zR:af Tryz.prog iP=some jb:=by kernel_rfl
def sr:FK:=⟨12,yj,yI 2 3 (wL 4) [xd 5 2,qr 6 5,wF 7,xv 8 iP 6 7,ye 1] (yv [wF 9,yr 10 9 0] (wh 10 yP) (wF 11) 4 11)⟩
theorem CI:af Tryz.prog ie=some sr:=by kernel_rfl
def jU:FK:=⟨27,yj,q9 xZ [wF 6,wG 7,wd 8 7,qT 9 .sub 6 8,qg 1 9] (wZ [wF 10,yr 11 10 0] 11 yP (yv yA (xk 0 [wR 12,wG 13,wd 14 13,ww 15 12 14] 15 0 1 (q9 [wG 18,wR 19,qK 20 3 18 19,xR 21 20,wF 22,xv 23 ie 21 22,qg 1 23] [wF 24,yr 25 24 0] (wh 25 yP)) (wR 16) 17 16 5 17) (wF 26) 4 26))⟩
theorem Ce:af Tryz.prog jO=some jU:=by kernel_rfl
def so:FK:=⟨12,yj,yI 2 1 (wL 4) [w8 5 2,qr 6 5,wF 7,xv 8 jO 6 7,ye 1] (yv [wF 9,yr 10 9 0] (wh 10 yP) (wF 11) 4 11)⟩
theorem Dg:af Tryz.prog gY=some so:=by kernel_rfl
def rN:FK:=⟨22,yS,q9 [xm 2] [wG 5,wd 6 5,yR 7 1 8 yU 6 6,yt 3] (yv xZ (xT 0 [yc 8,wG 9,wd 10 9,ww 11 8 10] 11 0 1 (.reg [xI 14,yc 15,wG 16,yc 17,xz 18 16 17,qr 19 18,xz 20 14 15,xH 20 19]) 12 4 13 12 4 13) (xI 21) 2 21)⟩
theorem CU:af Tryz.prog ey=some rN:=by kernel_rfl
def uH:FK:=⟨12,[.c 2 (some 2)],yI 1 2 (qZ 2 [qI,.nils]) [qZ 3 [qI,.nils]] (q9 [w8 4 1,qr 5 4,w8 6 3,xH 6 5] [xL 7 1,qr 8 7,w5 9 ey 8,xL 10 3,xH 10 9] (qC [qL 11 2 3,wa 2 2 11]))⟩
theorem EG:af Tryz.prog jA=some uH:=by kernel_rfl
def rM:FK:=⟨23,yS,q9 [xm 2] [wG 5,wd 6 5,yR 7 2 32 [qI,.nils] 6 6,yt 3] (yv xZ (xT 0 [yc 8,wG 9,wd 10 9,ww 11 8 10] 11 0 1 (.reg [xI 14,yc 15,wG 16,yc 17,qK 18 2 16 17,qL 19 2 18,w5 20 jA 19,qK 21 2 14 15,wa 2 21 20]) 12 4 13 12 4 13) (xI 22) 2 22)⟩
theorem CG:af Tryz.prog lA=some rM:=by kernel_rfl
def uh:FK:=⟨18,[.c 2 (some 4)],yI 1 4 (qZ 2 [qI,qI,.nils,qI]) [qZ 3 [qI,qI,.nils,qI]] (q9 [w8 4 1,qr 5 4,w8 6 3,xH 6 5] [xL 7 1,qr 8 7,xL 9 3,xH 9 8] (q9 [xd 10 1,qr 11 10,w5 12 ey 11,xd 13 3,xH 13 12] [qy 14 3 1,qr 15 14,qy 16 3 3,xH 16 15] (qC [qL 17 4 3,wa 4 2 17])))⟩
theorem Ec:af Tryz.prog jz=some uh:=by kernel_rfl
def sf:FK:=⟨23,yS,q9 [xm 2] [wG 5,wd 6 5,yR 7 4 48 [qI,qI,.nils,qI] 6 6,yt 3] (yv xZ (xT 0 [yc 8,wG 9,wd 10 9,ww 11 8 10] 11 0 1 (.reg [xI 14,yc 15,wG 16,yc 17,qK 18 4 16 17,qL 19 4 18,w5 20 jz 19,qK 21 4 14 15,wa 4 21 20]) 12 4 13 12 4 13) (xI 22) 2 22)⟩
theorem Dc:af Tryz.prog lK=some sf:=by kernel_rfl
def po:FK:=⟨23,[.c 2 (some 5)],yI 1 5 (qZ 2 [.nils,.nils,qI,qI,.nils]) [qZ 3 [.nils,.nils,qI,qI,.nils]] (q9 [w8 4 1,qr 5 4,w5 6 lA 5,w8 7 3,xH 7 6] [xL 8 1,qr 9 8,w5 10 lK 9,xL 11 3,xH 11 10] (q9 [xd 12 1,qr 13 12,xd 14 3,xH 14 13] [qy 15 3 1,qr 16 15,qy 17 3 3,xH 17 16] (xy [qy 18 4 1,qr 19 18,w5 20 ey 19,qy 21 4 3,xH 21 20] [qL 22 5 3,wa 5 2 22])))⟩
theorem BQ:af Tryz.prog ft=some po:=by kernel_rfl
def oa:FK:=⟨23,yS,q9 [xm 2] [wG 5,wd 6 5,yR 7 5 88 [.nils,.nils,qI,qI,.nils] 6 6,yt 3] (yv xZ (xT 0 [yc 8,wG 9,wd 10 9,ww 11 8 10] 11 0 1 (.reg [xI 14,yc 15,wG 16,yc 17,yC 18 16 17,qL 19 5 18,w5 20 ft 19,yC 21 14 15,wa 5 21 20]) 12 4 13 12 4 13) (xI 22) 2 22)⟩
theorem zO:af Tryz.prog iz=some oa:=by kernel_rfl
def rT:FK:=⟨15,[.c 2 wJ],yI 1 3 (qZ 2 [qI,qI,.nils]) [qZ 3 [qI,qI,.nils]] (q9 [w8 4 1,qr 5 4,w8 6 3,xH 6 5] [xL 7 1,qr 8 7,xL 9 3,xH 9 8] (xy [xd 10 1,qr 11 10,w5 12 iz 11,xd 13 3,xH 13 12] [xR 14 3,wa 3 2 14]))⟩
theorem CB:af Tryz.prog gU=some rT:=by kernel_rfl
def pG:FK:=⟨23,yS,q9 [xm 2] [wG 5,wd 6 5,yR 7 3 40 [qI,qI,.nils] 6 6,yt 3] (yv xZ (xT 0 [yc 8,wG 9,wd 10 9,ww 11 8 10] 11 0 1 (.reg [xI 14,yc 15,wG 16,yc 17,qK 18 3 16 17,xR 19 18,w5 20 gU 19,qK 21 3 14 15,wa 3 21 20]) 12 4 13 12 4 13) (xI 22) 2 22)⟩
theorem Bu:af Tryz.prog kh=some pG:=by kernel_rfl
def sj:FK:=⟨9,[.c 2 (some 1)],yI 1 1 (qZ 2 xP) [qZ 3 xP] (xy [w8 4 1,qr 5 4,w5 6 kh 5,w8 7 3,xH 7 6] [qL 8 1 3,xH 2 8])⟩
theorem De:af Tryz.prog cg=some sj:=by kernel_rfl
def pX:FK:=⟨15,[.t 6],xy [wI 6] [wG 7,wF 8,qT 9 .geq 7 8,qg 10 9,xa 11 10 0,xa 12 10 2,yz 13 10 .leq 11 (.t 12),yY 14 10 13,yV 14]⟩
theorem GW:af Tryz.prog cJ=some pX:=by kernel_rfl
def sh:FK:=⟨21,yj,xn (yH 2 3 xD) yA (xk 0 [wR 6,wF 7,wd 8 7,ww 9 6 8] 9 0 1 (x9 [wF 12,yZ,xz 14 12 13,xL 16 2,qr 15 14,qr 17 16,qH 18 .sub 17 1,yx 19 (zd 15 xr 18),w9 20 19] 20 zf) (wR 10) 11 10 5 11) [y9 4]⟩
theorem CR:af Tryz.prog gV=some sh:=by kernel_rfl
def oJ:FK:=⟨13,yS,xy [xU] [wG 3,yx 4 (zb 3 yJ (qp 14)),yc 5,xa 6 5 0,yz 7 5 .neq 6 (qp 12),yY 8 5 7,ye 9,xa 10 9 0,yz 11 9 .neq 10 (qp 13),yY 12 9 11,qg 2 12]⟩
theorem Bs:af Tryz.prog bR=some oJ:=by kernel_rfl
def ck:FK:=⟨28,yS,qf (xp 2) (qQ 0 (yk [wG 4,wS 5 4 1,wR 3] 3 (xp 2) (yk [wG 7,wS 8 7 2,ye 9,xA 10 9 0,qX 11 9 (qm .eql 10 (qp 10)),yy 12 9 11,qg 13 12,xA 14 13 0,qX 15 13 (qm .eql 14 (qp 11)),yy 16 13 15,qg 17 16,xA 18 17 0,qX 19 17 (qm .eql 18 (qp 13)),yy 20 17 19,yV 20] 6 [qJ 2 1] (x9 [wG 22,yx 23 (zb 22 (qp 3) (qp 9)),qg 24 23,xA 25 24 0,qX 26 24 (qm .eql 25 (qp 12)),yy 27 24 26,qg 21 27] 21 [qJ 2 2]))) (qC [xV 2]))⟩
theorem Da:af Tryz.prog lC=some ck:=by kernel_rfl
def tN:FK:=⟨88,[.t 6],q9 [yb 3 1,wD 5 4 2,wI 6] [w8 8 3,qr 9 8,wF 10,qK 11 3 9 10,xR 12 11,qZ 7 [qI,qI,.nils],wa 3 7 12] (wZ [w8 13 5,qr 14 13,yx 15 (zb 14 yJ (qp 14)),w9 16 15,qg 17 16,qX 18 17 (qk wJ 7),yd 19 17 2 5,xQ 20 17 19,ym 21 17 gV (xu 18 20),qX 22 17 (wB 21),yy 23 17 22] 23 [wI 6] (wZ [w8 24 5,xL 27 5,xL 29 7,qr 25 24,qr 28 27,qr 30 29,qH 31 .sub 30 1,w5 26 bR 25,wc 27 28,wc 29 30,yx 32 (zd 28 xr 31),qb 33 (.beq true (.t 26) (.t 32)),qg 34 33,yd 35 34 0 5,xQ 36 34 35,ym 37 34 bR (w4 36),qX 38 34 (wB 37),xA 39 34 38,xE 40 39 1 5,wP 41 39 40,yz 42 39 .neq 41 (qp (-1)),qX 43 34 (ws 39 (.t 42) xf),yy 44 34 43] 44 [wI 6] (wC [w8 45 5,qr 46 45,wS 47 46 14] (wh 47 [qy 48 3 5,wF 50,qH 51 .sub 50 1,qr 49 48,yx 52 (zd 49 xr 51),qg 53 52,xE 54 53 2 5,xE 57 53 0 3,xE 59 53 3 5,wP 55 53 54,qW 56 53 (qY 55),wP 58 53 57,wP 60 53 59,za 61 53 3 58 60,xE 62 53 0 61,wP 63 53 62,yz 64 53 .eql 56 (.t 63),yY 65 53 64,yV 65]) [xd 66 5,w8 69 5,qr 67 66,wd 68 67,qr 70 69,w5 71 lC 70,wc 66 67,qT 72 .eql 68 71,qg 73 72,xE 74 73 3 5,wP 75 73 74,qW 76 73 (.call cJ (zb 75 xr (qp 255))),yY 77 73 76,qg 78 77,xE 79 78 3 5,wP 80 78 79,yz 81 78 .eql 80 xr,xa 82 78 81,yd 83 82 0 5,xQ 84 82 83,qX 85 82 (qm .eql 84 yJ),qW 86 78 (ws 82 wY (.t 85)),yY 87 78 86,yV 87])))⟩
theorem Ei:af Tryz.prog nu=some tN:=by kernel_rfl
def oI:FK:=⟨43,yj,yI 2 3 (xm 4) (wU (yF 8 1 yU 0) 5 8) (yv (xp 6) (xT 0 [yB 9,xd 10 2,qr 11 10,wd 12 11,ww 13 9 12] 13 0 1 (qf (xp 7) (xT 2 [yt 16,xd 17 2,qr 18 17,yB 19,yC 20 18 19,qy 21 4 20,qr 22 21,wd 23 22,ww 24 16 23] 24 2 3 (qf [xd 27 2,qr 28 27,yB 29,yC 30 28 29,qy 31 4 30,qr 32 31,yt 33,xz 34 32 33,qr 35 34,wF 36,qT 37 .eql 35 36] (qR 37 (qf [wR 38,yB 39,wz 40 1 yU 1 [xg 0 39],xe 41 1 8 38 40,qg 5 41] (.exit 2)))) 25 7 26 25 7 26)) 14 6 15 14 6 15) (wR 42) 4 42)⟩
theorem pS:af Tryz.prog aS=some oI:=by kernel_rfl
def kE:AK:=yI 3 1 (wI 6) [w8 14 3,qr 15 14,wF 16,qK 17 3 15 16,xR 18 17,qZ 7 [qI,qI,.nils],wa 3 7 18] (q9 [xd 19 7,qr 20 19,yW 21,yC 22 20 21,qL 23 5 22,qZ 8 [.nils,.nils,qI,qI,.nils],wa 5 8 23] [qJ 9 1] (xN [xd 24 8,qr 25 24] (.blk 0 (xF (yE 27 25 1 26 27) 26 (x9 [qy 28 3 8,qr 29 28,qH 30 .neq 29 0] 30 [wI 6]) (xF (yE 32 25 2 31 32) 31 (.reg [qJ 9 2]) (xF (yE 34 25 3 33 34) 33 (.reg (xp 9)) (qC [wI 6]))))) (xN [qy 35 4 8,qr 36 35,wd 37 36,qg 38 9,yh 39 37 38,qg 40 39,yd 41 40 2 8,xQ 42 40 41,qX 43 40 (qm .neq 42 yJ),xA 44 40 43,xE 45 44 3 8,wP 46 44 45,xE 47 44 1 7,wP 48 44 47,yz 49 44 .sub 48 yJ,qW 50 44 (.call cJ (zd 46 xr 49)),qW 51 44 (wB 50),qX 52 40 (ws 44 (.t 51) xf),yy 53 40 52] (wh 53 [wI 6]) (xN (xp 10) (xT 1 [yG 54,qy 55 4 8,qr 56 55,wd 57 56,ww 58 54 57] 58 1 2 (x9 [qy 61 4 8,yG 63,xd 66 7,qr 62 61,xz 64 62 63,qr 65 64,qr 67 66,wd 68 67,qH 69 .sub 68 1,yx 70 (zd 65 yJ 69),w9 71 70] 71 [wI 6]) 59 10 60 59 10 60) (xN (xp 11) (xT 3 [qg 72 11,xL 73 8,qr 74 73,wd 75 74,ww 76 72 75] 76 3 4 (x9 [wF 80,xL 81 8,qg 83 11,qL 79 1 3,qr 82 81,qK 84 4 82 83,qL 85 4 84,qA 86 nu (ze 79 80 85),w9 87 86] 87 [wI 6]) 77 11 78 77 11 78) (qf [xR 88 7,yW 89,xv 90 aS 88 89,qg 12 90] (xN (xp 13) (xT 5 [qg 91 13,w8 92 8,qr 93 92,wd 94 93,ww 95 91 94] 95 5 6 (x9 [yW 98,wS 99 98 0,qg 100 99,yd 101 100 0 8,xA 103 100 13,xA 108 100 12,qX 109 100 (qY 108),xQ 102 100 101,qX 104 100 (qG 2 102 103),yd 105 100 1 104,xQ 106 100 105,qX 107 100 (qY 106),qX 110 100 (qm .neq 107 (.t 109)),yy 111 100 110,qg 112 111,yd 114 112 0 8,xA 116 112 13,qX 113 112 (qk wJ 7),xQ 115 112 114,qX 117 112 (qG 2 115 116),yd 118 112 1 117,xQ 119 112 118,ym 120 112 gV (xu 113 119),qX 121 112 (wB 120),yy 122 112 121,qg 123 122,yd 124 123 0 8,xA 126 123 13,yd 130 123 1 7,xQ 125 123 124,qX 127 123 (qG 2 125 126),yd 128 123 0 127,xQ 129 123 128,xQ 131 123 130,qX 132 123 (qm .sub 131 yJ),ym 133 123 cJ (zd 129 xr 132),qX 134 123 (wB 133),yy 135 123 134] 135 [wI 6]) 96 13 97 96 13 97) (qC [y9 6]))))))))
def kC:FK:=⟨136,[.t 6],(AK.whole kE)⟩
theorem Bm:af Tryz.prog kQ=some kC:=by kernel_rfl
def mg:FK:=⟨76,yS,yw (yH 1 1 xU) [w8 7 1,qr 8 7,wd 9 8,yx 10 (zb 9 yJ (qp 4)),w9 11 10] 11 [xU] (xn (xp 3) xZ (xT 0 [yc 12,w8 13 1,qr 14 13,wd 15 14,ww 16 12 15] 16 0 1 (yw [w8 19 1,qr 20 19,yc 21,qK 22 3 20 21,xR 23 22,qZ 5 [qI,qI,.nils],wa 3 5 23] [w8 24 5,qr 25 24,yx 26 (zb 25 xr (qp 3)),w9 27 26,qg 28 27,yd 29 28 1 5,xQ 30 28 29,yd 31 28 0 5,xQ 32 28 31,ym 33 28 cJ (zb 30 (.t 32) (qp 300)),qX 34 28 (wB 33),yy 35 28 34,qg 36 35,yd 37 36 2 5,xQ 38 36 37,qX 39 36 (qY 38),ym 40 36 cJ (zb 39 yJ (qp 160)),qX 41 36 (wB 40),yy 42 36 41] 42 [xU] (qf (xp 6) (xT 2 [yB 43,xd 44 5,qr 45 44,wd 46 45,ww 47 43 46] 47 2 3 (q9 [xI 50,xd 51 5,yB 53,xd 59 5,yB 61,qr 52 51,yC 54 52 53,xL 55 54,qr 56 55,wd 57 56,qT 58 .add 50 57,qr 60 59,yC 62 60 61,w8 63 62,qr 64 63,wd 65 64,qT 66 .add 58 65,qg 3 66] [xI 67,qH 68 .gtr 67 800,qg 69 68,qX 70 69 (qk (some 1) 1),xA 71 69 4,xA 72 69 6,ym 73 69 kQ (ze 70 71 72),qX 74 69 (wB 73),yy 75 69 74] (wh 75 [xU])) 48 6 49 48 6 49))) 17 4 18 17 4 18) [y9 2])⟩
theorem uK:af Tryz.prog bL=some mg:=by kernel_rfl
def nP:FK:=⟨54,[.t 8],yI 4 3 (xm 8) [yW 10,wF 11,xz 12 10 11,qS 1 12 wY] (wC (xp 9) (xT 0 [qg 13 9,xd 14 4,qr 15 14,wF 16,yC 17 15 16,qy 18 4 17,qr 19 18,wd 20 19,ww 21 13 20] 21 0 1 (qf [yW 24,xd 25 4,qr 26 25,wF 27,yC 28 26 27,qy 29 4 28,qr 30 29,qg 31 9,xz 32 30 31,qr 33 32,xz 34 24 33,qr 35 34,w9 36 35] (yD 36 [xd 38 4,wF 40,qg 44 9,yW 47,xI 48,xR 37 4,qr 39 38,yC 41 39 40,qy 42 4 41,qr 43 42,xz 45 43 44,qr 46 45,qA 49 bm [.t 37,.t 46,.t 47,.t 48],qg 3 49])) 22 9 23 22 9 23) [xI 50,wF 51,wz 52 1 yU 1 [xg 0 51],xe 53 1 8 50 52,qg 8 53])⟩
theorem zP:af Tryz.prog bm=some nP:=by kernel_rfl
def iU:AK:=qf (yH 1 3 (xm 2)) (.cut (.ot (wW [] [xd 7 1] (wW [xR 6 1] [qr 8 7] (yn (wd 9 8) (qM [yR 10 1 1 [qD] 9 9,yQ 6] (w7 [yF 11 1 yU 0,yQ 6,wc 7 8] [qA 12 bm [.t 6,xr,.t 10,.t 11]] (yn (qg 3 12) .done)) (w7 [yF 11 1 yU 0,yQ 6,wc 7 8] [yR 10 1 1 [qD] 9 9,yQ 6] (wx [qA 12 bm [.t 6,xr,.t 10,.t 11]] (yn (qg 3 12) .done)))))))) (xn (wU (yF 13 1 yU 0) 4 13) [xI 14,wd 15 14,qH 16 .sub 15 1,qg 5 16] (wQ 0 [wR 17,qH 18 .geq 17 0] 18 0 1 (.reg [yc 21,xI 22,wR 23,xz 24 22 23,qr 25 24,wz 26 1 yU 1 [xg 0 25],xe 27 1 8 21 26,qg 4 27]) (xi (wR 19) (qH 20 .sub 19 1) 5 20)) (wU (yc 28) 2 28)))
def iB:FK:=⟨29,yS,(AK.whole iU)⟩
theorem zU:af Tryz.prog ca=some iB:=by kernel_rfl
def rU:FK:=⟨8,yS,xn (yH 1 4 (wL 2)) [w8 3 1,qr 4 3,w5 5 bR 4] (wh 5 (xi (xL 6 1) (qr 7 6) 2 7)) [xV 2]⟩
theorem CT:af Tryz.prog lD=some rU:=by kernel_rfl
def oM:FK:=⟨87,yS,yI 1 3 (xm 2) [xL 9 1,qr 10 9,yR 11 1 24 xP 10 10,qg 3 11] (yv xZ (xT 0 [yc 12,xd 13 1,qr 14 13,wd 15 14,ww 16 12 15] 16 0 1 (qB yA (xk 2 [wR 19,xd 20 1,qr 21 20,yc 22,yC 23 21 22,w8 24 23,qr 25 24,wd 26 25,ww 27 19 26] 27 2 3 (yf [xd 30 1,qr 31 30,yc 32,yC 33 31 32,w8 34 33,qr 35 34,wR 36,qK 37 2 35 36,w8 38 37,qr 39 38,yV 39] [xI 40,yB 41,xI 42,yB 43,xz 44 42 43,qr 45 44,yc 46,wz 47 1 yU 2 [xg 0 46,(1,1,qp (-1))],wz 48 1 xP 1 [xg 0 47],xe 49 1 24 45 48,xz 50 40 41,xH 50 49]) (wR 28) 29 28 5 29) (qf (xp 7) (xT 4 [yt 51,xd 52 1,qr 53 52,yc 54,yC 55 53 54,xL 56 55,qr 57 56,wd 58 57,ww 59 51 58] 59 4 5 (q9 [xd 62 1,qr 63 62,yc 64,yC 65 63 64,xL 66 65,qr 67 66,yt 68,qK 69 4 67 68,qL 70 4 69,w5 71 lD 70,qg 8 71] [ye 72,qH 73 .geq 72 0] (yD 73 [xI 74,ye 75,xI 76,ye 77,xz 78 76 77,qr 79 78,yc 80,yt 81,wz 82 1 yU 2 [xg 0 80,xg 1 81],wz 83 1 xP 1 [xg 0 82],xe 84 1 24 79 83,xz 85 74 75,xH 85 84])) 60 7 61 60 7 61))) 17 4 18 17 4 18) (xI 86) 2 86)⟩
theorem Bh:af Tryz.prog fT=some oM:=by kernel_rfl
def jS:AK:=yI 1 3 (xm 2) [xd 10 1,qr 11 10,wd 12 11,qg 3 12] (q9 (wU (yF 13 1 xP 0) 4 13) (xi (xI 14) (yR 15 1 1 [qD] 14 14) 5 15) (xn [xR 16 1,wR 17,yF 18 1 yU 0,qA 19 bm [.t 16,xr,.t 17,.t 18]] (xp 6) (xT 0 [yB 20,xI 21,ww 22 20 21] 22 0 1 (q9 (xi (xI 25) (yR 26 1 1 [qD] 25 25) 7 26) [yt 27,yB 28,xz 29 27 28,qS 1 29 wY] (.cut (xF [yB 30,qH 31 .neq 30 0] 31 (yf [xR 32 1,yt 33,yF 34 1 yU 0,qA 35 bm [.t 32,xr,.t 33,.t 34]] [yt 36,yB 37,xz 38 36 37,qS 1 38 xf]) (.reg [yt 39,yB 40,xz 41 39 40,qS 1 41 xf])) (qf (xi (xI 42) (yR 43 1 1 [qD] 42 42) 8 43) (qB (xp 9) (xT 2 [qg 44 9,xI 45,ww 46 44 45] 46 2 3 (.reg [ye 49,qg 50 9,wR 51,yB 52,xz 53 51 52,qr 54 53,qg 55 54,xa 56 55 5,xa 57 55 9,za 58 55 1 56 57,wP 59 55 58,yY 60 55 59,qg 61 60,xa 62 61 7,xa 63 61 9,za 64 61 1 62 63,wP 65 61 64,qW 66 61 (wB 65),yY 67 61 66,xz 68 49 50,xH 68 67]) 47 9 48 47 9 48) (.reg [yc 69,ye 70,wz 71 1 xP 1 [xg 0 70],xe 72 1 24 69 71,qg 4 72]))))) 23 6 24 23 6 24) (wU (yc 73) 2 73)))
def jV:FK:=⟨74,yS,(AK.whole jS)⟩
theorem BT:af Tryz.prog gd=some jV:=by kernel_rfl
def cX:FK:=⟨49,[.t 12],yw (yH 6 3 (wI 12)) [xI 14,w8 15 6,qr 16 15,ww 17 14 16] 17 [y9 12] (wZ [wF 18,xI 19,xz 20 18 19,qr 21 20,wd 22 21,wS 23 22 0] 23 [wI 12] (xn [wF 24,xI 25,xz 26 24 25,qr 27 26,qb 28 (qv 1 27 xr),qr 29 28,qg 13 29] [qg 30 13,qb 31 (qv 1 30 xr),qr 32 31,yc 33,qT 34 .eql 32 33] (wh 34 [qg 35 13,qb 36 (qv 1 35 yJ),qr 37 36,wR 38,ww 39 37 38,qg 12 39]) [yW 40,qg 41 13,qb 42 (qv 1 41 xr),qr 43 42,xz 44 40 43,qr 45 44,yc 46,xz 47 45 46,qr 48 47,qg 12 48]))⟩
theorem zI:af Tryz.prog db=some cX:=by kernel_rfl
def iV:AK:=yI 4 3 (wI 8) [xd 15 4,qr 16 15,xI 17,yC 18 16 17,qL 19 5 18,qZ 9 [.nils,.nils,qI,qI,.nils],wa 5 9 19] (qf [xR 20 4,xI 21,xv 22 aS 20 21,qg 10 22] (xN (xp 11) (xT 0 [qg 23 11,w8 24 9,qr 25 24,wd 26 25,ww 27 23 26] 27 0 1 (qf (xp 12) (xT 2 [qg 30 12,yG 31,wd 32 31,ww 33 30 32] 33 2 3 (x9 [wF 37,yW 38,w8 39 9,qg 41 11,qg 45 12,yG 48,qg 49 12,xz 50 48 49,xd 52 4,yG 54,qg 55 12,xz 56 54 55,xR 36 4,qr 40 39,qK 42 2 40 41,xL 43 42,qr 44 43,xz 46 44 45,qr 47 46,qr 51 50,qr 53 52,qr 57 56,yC 58 53 57,xL 59 58,qr 60 59,wd 61 60,qA 62 db [.t 36,.t 37,.t 38,.t 47,.t 51,.t 61],w9 63 62] 63 [wI 8]) 34 12 35 34 12 35)) 28 11 29 28 11 29) (xN (xp 13) (xT 4 [qg 64 13,xL 65 9,qr 66 65,wd 67 66,ww 68 64 67] 68 4 5 (qf (xp 14) (xT 6 [qg 71 14,xL 72 9,qr 73 72,qg 74 13,qK 75 4 73 74,xd 76 75,qr 77 76,wd 78 77,ww 79 71 78] 79 6 7 (x9 [wF 83,yW 84,xL 85 9,qg 87 13,qg 91 14,xI 94,qg 95 13,xR 82 4,qr 86 85,qK 88 4 86 87,xd 89 88,qr 90 89,xz 92 90 91,qr 93 92,qA 96 db [.t 82,.t 83,.t 84,.t 93,.t 94,.t 95],w9 97 96] 97 [wI 8]) 80 14 81 80 14 81)) 69 13 70 69 13 70) (qC [xd 98 9,qr 99 98,wS 100 99 1,qg 101 100,qX 102 101 (qk wJ 4),xA 103 101 1,xA 104 101 2,yd 105 101 3 9,xQ 106 101 105,xA 107 101 3,yd 108 101 1 9,xQ 109 101 108,qX 110 101 (qY 109),ym 111 101 db [.t 102,.t 103,.t 104,.t 106,.t 107,.t 110],yy 112 101 111,qg 8 112]))))
def iJ:FK:=⟨113,[.t 8],(AK.whole iV)⟩
theorem zM:af Tryz.prog iO=some iJ:=by kernel_rfl
def uA:FK:=⟨57,yS,yw (yH 1 3 xU) [xd 10 1,xR 7 1,qr 11 10,wd 12 11,w5 8 ca 7,wc 10 11,wd 9 8,yh 13 9 12] 13 [xU] (qf (xi (xR 14 1) (w5 15 fT 14) 3 15) (qB xZ (xT 0 [yc 16,xL 17 1,qr 18 17,ww 19 16 18] 19 0 1 (x9 [xI 22,yc 23,xz 24 22 23,qr 25 24,wd 26 25,qH 27 .gtr 26 1,qg 28 27,xA 29 28 4,yd 30 28 0 1,xQ 31 28 30,qX 32 28 (qm .lss 29 (.t 31)),xA 33 28 32,xa 34 33 3,xa 35 33 4,za 36 33 1 34 35,wP 37 33 36,qW 38 33 (qY 37),yz 39 33 .gtr 38 xr,qX 40 28 (ws 33 (.t 39) xf),yy 41 28 40] 41 [xU]) 20 4 21 20 4 21) (xn (xi (xR 42 1) (w5 43 gd 42) 5 43) (xp 6) (xT 2 [yB 44,xd 45 1,qr 46 45,wd 47 46,ww 48 44 47] 48 2 3 (x9 [xR 51 1,xI 52,wR 53,yB 54,qA 55 iO [.t 51,.t 52,.t 53,.t 54],w9 56 55] 56 [xU]) 49 6 50 49 6 50) [y9 2])))⟩
theorem EC:af Tryz.prog nk=some uA:=by kernel_rfl
def oq:FK:=⟨24,yS,xn (yH 1 1 xU) (xp 3) (xk 0 [xI 4,w8 5 1,qr 6 5,wd 7 6,ww 8 4 7,ye 9,qW 10 9 (qk (some 1) 1),qW 11 9 (.call bL (w4 10)),yY 12 9 11] 12 0 1 (x9 [w8 15 1,qr 16 15,xI 17,qK 18 3 16 17,xR 19 18,w5 20 nk 19,w9 21 20] 21 [xU]) (xI 13) 14 13 3 14) (xi (qL 22 1 1) (w5 23 bL 22) 2 23)⟩
theorem zG:af Tryz.prog iH=some oq:=by kernel_rfl
def pM:FK:=⟨42,yS,xn (yH 1 3 xU) (xp 3) (xk 0 [xI 5,xd 6 1,qr 7 6,wd 8 7,ww 9 5 8] 9 0 1 (qf xZ (xT 2 [yc 12,xd 13 1,qr 14 13,xI 15,yC 16 14 15,qy 17 4 16,qr 18 17,wd 19 18,ww 20 12 19] 20 2 3 (x9 [xd 23 1,xI 25,yc 29,xd 32 1,qr 24 23,yC 26 24 25,qy 27 4 26,qr 28 27,xz 30 28 29,qr 31 30,qr 33 32,wd 34 33,qH 35 .sub 34 1,yx 36 (zd 31 xr 35),w9 37 36] 37 [xU]) 21 4 22 21 4 22)) (xI 10) 11 10 3 11) [xd 38 1,qr 39 38,wd 40 39,qH 41 .gtr 40 0,qg 2 41]⟩
theorem Bd:af Tryz.prog jY=some pM:=by kernel_rfl
def oh:FK:=⟨47,yj,q9 [xm 4] yA (.seq (wM 0 [wR 7,wG 8,wd 9 8,ww 10 7 9,yG 11,xa 12 11 0,xa 13 11 5,za 14 11 1 12 13,wP 15 11 14,xa 16 11 1,yz 17 11 .lss 15 (.t 16),yY 18 11 17] 18 0 (.blk 1 (.reg (xj (wR 19) 20 19 5 20)))) (wZ [wR 21,wG 22,wd 23 22,ww 24 21 23,qg 25 24,xa 26 25 0,xa 27 25 5,za 28 25 1 26 27,wP 29 25 28,xa 30 25 1,yz 31 25 .eql 29 (.t 30),yY 32 25 31] 32 (wU (wG 33) 4 33) (xy [yF 34 1 yU 0,wG 35,wR 36,qb 37 (.slS 1 (.t 35) none (some (.t 36))),xe 38 1 8 34 37,yV 38] [yB 39,wF 40,wG 43,wR 44,qb 45 (.slS 1 (.t 43) (some (.t 44)) none),wz 41 1 yU 1 [xg 0 40],xe 42 1 8 39 41,xe 46 1 8 42 45,qg 4 46])))⟩
theorem zs:af Tryz.prog bY=some oh:=by kernel_rfl
def mq:FK:=⟨19,yS,q9 [xm 2] [yF 5 1 yU 0,wR 3] (yv xZ (xT 0 [yc 6,wG 7,wd 8 7,ww 9 6 8] 9 0 1 (.reg [xI 12,wG 13,yc 14,xz 15 13 14,qr 16 15,xv 17 bY 12 16,qg 3 17]) 10 4 11 10 4 11) (xI 18) 2 18)⟩
theorem vD:af Tryz.prog gz=some mq:=by kernel_rfl
def md:FK:=⟨10,yS,xn (yH 1 3 (xm 2)) [xR 3 1,w5 4 jY 3,w9 5 4] (wh 5 (wU (yF 6 1 yU 0) 2 6)) [xR 7 1,w5 8 ca 7,w5 9 gz 8,qg 2 9]⟩
theorem vC:af Tryz.prog gQ=some md:=by kernel_rfl
def oo:FK:=⟨32,yj,q9 [xm 4] (xi (wG 8) (yR 9 1 8 yU 8 8) 5 9) (qB (xp 6) (xT 0 [yB 10,wG 11,ww 12 10 11] 12 0 1 (.reg [wR 15,yB 16,xz 17 15 16,qS 1 17 (qp (-1))]) 13 6 14 13 6 14) (yv (xp 7) (xT 2 [yt 18,wF 19,wd 20 19,ww 21 18 20] 21 2 3 (.reg [wR 24,wF 25,yt 26,xz 27 25 26,qr 28 27,yt 29,xz 30 24 28,xH 30 29]) 22 7 23 22 7 23) (wR 31) 4 31))⟩
theorem zF:af Tryz.prog jc=some oo:=by kernel_rfl
def eX:AK:=qf (yH 1 5 (qZ 2 [.nils,.nils,qI,qI,.nils])) (.cut (.ot (wW [qP 3 .any] [xd 9 1] (wW [qy 11 3 1] [qy 14 4 1] (wW [qr 10 9] [qr 12 11] (yn (qr 15 14) (qM [yF 7 2 [qI,.nils] 0,yM,yO,wc 14 15] (qM [yF 8 4 [qI,qI,.nils,qI] 0,yM,yO,wc 14 15] (w7 [yF 13 1 yU 0,yM,yO,wc 14 15] [xe 16 1 8 13 15,yM,yO] (yn (xh 17 [.nils,.nils,qI,qI,.nils] [xg 0 7,xg 1 8,xg 2 10,xg 3 12,xg 4 16]) (w7 [qZ 3 [.nils,.nils,qI,qI,.nils]] [wa 5 3 17] .done))) (wx [yF 13 1 yU 0,yM,yO,wc 14 15] (qM [yF 8 4 [qI,qI,.nils,qI] 0,yM,yO,wc 14 15] (wx [xe 16 1 8 13 15,yM,yO] (yn (xh 17 [.nils,.nils,qI,qI,.nils] [xg 0 7,xg 1 8,xg 2 10,xg 3 12,xg 4 16]) (w7 [qZ 3 [.nils,.nils,qI,qI,.nils]] [wa 5 3 17] .done))) (w7 [xe 16 1 8 13 15,yM,yO] [yF 8 4 [qI,qI,.nils,qI] 0,yM,yO,wc 14 15] (yn (xh 17 [.nils,.nils,qI,qI,.nils] [xg 0 7,xg 1 8,xg 2 10,xg 3 12,xg 4 16]) (w7 [qZ 3 [.nils,.nils,qI,qI,.nils]] [wa 5 3 17] .done)))))) (qM [yF 8 4 [qI,qI,.nils,qI] 0,yM,yO,wc 14 15] (qM [yF 7 2 [qI,.nils] 0,yM,yO,wc 14 15] (w7 [yF 13 1 yU 0,yM,yO,wc 14 15] [xe 16 1 8 13 15,yM,yO] (yn (xh 17 [.nils,.nils,qI,qI,.nils] [xg 0 7,xg 1 8,xg 2 10,xg 3 12,xg 4 16]) (w7 [qZ 3 [.nils,.nils,qI,qI,.nils]] [wa 5 3 17] .done))) (wx [yF 13 1 yU 0,yM,yO,wc 14 15] (qM [yF 7 2 [qI,.nils] 0,yM,yO,wc 14 15] (wx [xe 16 1 8 13 15,yM,yO] (yn (xh 17 [.nils,.nils,qI,qI,.nils] [xg 0 7,xg 1 8,xg 2 10,xg 3 12,xg 4 16]) (w7 [qZ 3 [.nils,.nils,qI,qI,.nils]] [wa 5 3 17] .done))) (w7 [xe 16 1 8 13 15,yM,yO] [yF 7 2 [qI,.nils] 0,yM,yO,wc 14 15] (yn (xh 17 [.nils,.nils,qI,qI,.nils] [xg 0 7,xg 1 8,xg 2 10,xg 3 12,xg 4 16]) (w7 [qZ 3 [.nils,.nils,qI,qI,.nils]] [wa 5 3 17] .done)))))) (wx [yF 13 1 yU 0,yM,yO,wc 14 15] (qM [yF 7 2 [qI,.nils] 0,yM,yO,wc 14 15] (qM [yF 8 4 [qI,qI,.nils,qI] 0,yM,yO,wc 14 15] (wx [xe 16 1 8 13 15,yM,yO] (yn (xh 17 [.nils,.nils,qI,qI,.nils] [xg 0 7,xg 1 8,xg 2 10,xg 3 12,xg 4 16]) (w7 [qZ 3 [.nils,.nils,qI,qI,.nils]] [wa 5 3 17] .done))) (w7 [xe 16 1 8 13 15,yM,yO] [yF 8 4 [qI,qI,.nils,qI] 0,yM,yO,wc 14 15] (yn (xh 17 [.nils,.nils,qI,qI,.nils] [xg 0 7,xg 1 8,xg 2 10,xg 3 12,xg 4 16]) (w7 [qZ 3 [.nils,.nils,qI,qI,.nils]] [wa 5 3 17] .done)))) (qM [yF 8 4 [qI,qI,.nils,qI] 0,yM,yO,wc 14 15] (qM [yF 7 2 [qI,.nils] 0,yM,yO,wc 14 15] (wx [xe 16 1 8 13 15,yM,yO] (yn (xh 17 [.nils,.nils,qI,qI,.nils] [xg 0 7,xg 1 8,xg 2 10,xg 3 12,xg 4 16]) (w7 [qZ 3 [.nils,.nils,qI,qI,.nils]] [wa 5 3 17] .done))) (w7 [xe 16 1 8 13 15,yM,yO] [yF 7 2 [qI,.nils] 0,yM,yO,wc 14 15] (yn (xh 17 [.nils,.nils,qI,qI,.nils] [xg 0 7,xg 1 8,xg 2 10,xg 3 12,xg 4 16]) (w7 [qZ 3 [.nils,.nils,qI,qI,.nils]] [wa 5 3 17] .done)))) (wx [xe 16 1 8 13 15,yM,yO] (qM [yF 7 2 [qI,.nils] 0,yM,yO,wc 14 15] (wx [yF 8 4 [qI,qI,.nils,qI] 0,yM,yO,wc 14 15] (yn (xh 17 [.nils,.nils,qI,qI,.nils] [xg 0 7,xg 1 8,xg 2 10,xg 3 12,xg 4 16]) (w7 [qZ 3 [.nils,.nils,qI,qI,.nils]] [wa 5 3 17] .done))) (w7 [yF 8 4 [qI,qI,.nils,qI] 0,yM,yO,wc 14 15] [yF 7 2 [qI,.nils] 0,yM,yO,wc 14 15] (yn (xh 17 [.nils,.nils,qI,qI,.nils] [xg 0 7,xg 1 8,xg 2 10,xg 3 12,xg 4 16]) (w7 [qZ 3 [.nils,.nils,qI,qI,.nils]] [wa 5 3 17] .done))))))))))))))) (xN xZ (xT 0 [yc 18,w8 19 1,qr 20 19,wd 21 20,ww 22 18 21] 22 0 1 (.reg [w8 25 3,w8 27 1,yc 29,w8 34 1,yc 36,qr 26 25,qr 28 27,qK 30 2 28 29,w8 31 30,qr 32 31,qr 35 34,qK 37 2 35 36,xL 38 37,qr 39 38,yF 33 1 yU 0,wc 25 26,wc 27 28,wc 31 32,wc 34 35,wc 38 39,xe 40 1 8 33 39,wc 25 26,wc 27 28,wc 31 32,xh 41 [qI,.nils] [xg 0 32,xg 1 40],wz 42 2 [qI,.nils] 1 [wX 0 2 41],wc 25 26,xe 43 2 32 26 42,w8 44 3,xH 44 43]) 23 4 24 23 4 24) (wC yA (xk 2 [wR 45,xL 46 1,qr 47 46,wd 48 47,ww 49 45 48] 49 2 3 (yf [xL 52 1,qr 53 52,wR 54,qK 55 4 53 54,qL 56 4 55,qZ 6 [qI,qI,.nils,qI],wa 4 6 56] [xL 57 3,w8 59 6,xL 61 6,xd 64 6,qy 67 3 6,qr 58 57,qr 60 59,qr 62 61,qr 65 64,qr 68 67,yF 63 1 yU 0,wc 57 58,wc 59 60,wc 61 62,wc 64 65,wc 67 68,xe 66 1 8 63 65,wc 57 58,wc 59 60,wc 61 62,wc 67 68,xh 69 [qI,qI,.nils,qI] [xg 0 60,xg 1 62,xg 2 66,xg 3 68],wz 70 4 [qI,qI,.nils,qI] 1 [wX 0 4 69],wc 57 58,xe 71 4 48 58 70,xL 72 3,xH 72 71]) (wR 50) 51 50 5 51) [qL 73 5 3,wa 5 2 73])))
def eU:FK:=⟨74,[.c 2 (some 5)],(AK.whole eX)⟩
theorem sE:af Tryz.prog cM=some eU:=by kernel_rfl
def uw:FK:=⟨19,yj,xn xZ yA (xk 0 [wR 6,wG 7,wd 8 7,ww 9 6 8] 9 0 1 (x9 [yu,yZ,xz 14 12 13,qr 15 14,wF 16,qT 17 .eql 15 16] 17 (wU (wR 18) 4 18)) (wR 10) 11 10 5 11) yP⟩
theorem EY:af Tryz.prog jm=some uw:=by kernel_rfl
def jW:AK:=yI 2 3 (qZ 4 [qI,qI,.nils]) [xd 16 2,qr 17 16,wd 18 17,wF 19,xv 20 jc 18 19,qg 5 20] (qf [w8 21 2,qr 22 21,xL 23 2,qr 24 23,xh 25 [qI,qI,.nils] [xg 0 22,xg 1 24],qZ 6 [qI,qI,.nils],wa 3 6 25] (xN (xp 7) (xT 0 [yt 26,wF 27,wd 28 27,ww 29 26 28] 29 0 1 (qf [qP 8 .any,xd 32 2,wF 34,yt 35,xz 36 34 35,qr 33 32,qr 37 36,yC 38 33 37,qL 39 5 38,w5 40 cM 39,qZ 8 [.nils,.nils,qI,qI,.nils],wa 5 8 40] (xN (xp 9) (xT 2 [qg 41 9,qy 42 4 8,qr 43 42,wd 44 43,ww 45 41 44] 45 2 3 (.reg [qy 48 4 8,qg 50 9,wR 51,qy 52 4 8,qg 54 9,qr 49 48,qr 53 52,xz 55 53 54,qr 56 55,xz 57 51 56,qr 58 57,xz 59 49 50,xH 59 58]) 46 9 47 46 9 47) (.reg [xd 60 6,qr 61 60,qL 62 5 8,wz 63 5 [.nils,.nils,qI,qI,.nils] 1 [wX 0 5 62],xe 64 5 88 61 63,xd 65 6,xH 65 64]))) 30 7 31 30 7 31) (wC (xp 10) (xT 4 [yG 66,wF 67,wd 68 67,ww 69 66 68] 69 4 5 (q9 [wF 73,yG 74,xz 75 73 74,xR 72 2,qr 76 75,xv 77 aS 72 76,qg 11 77] [xR 78 6,yG 79,xv 80 aS 78 79,qg 12 80] (qf (xp 13) (xT 6 [qg 81 13,xd 82 6,qr 83 82,yG 84,yC 85 83 84,w8 86 85,qr 87 86,wd 88 87,ww 89 81 88] 89 6 7 (qf (wU (yF 92 1 yU 0) 14 92) (qB (xp 15) (xT 8 [qg 93 15,qg 94 12,wd 95 94,ww 96 93 95] 96 8 9 (.reg [qg 99 14,xd 100 6,yG 102,qg 106 13,qg 110 11,wF 111,qg 112 12,qg 113 15,xz 114 112 113,qr 101 100,yC 103 101 102,w8 104 103,qr 105 104,qK 107 2 105 106,xL 108 107,qr 109 108,qr 115 114,xz 116 111 115,qr 117 116,xv 118 jm 110 117,wc 100 101,wc 104 105,wc 108 109,xz 119 109 118,qr 120 119,wz 121 1 yU 1 [xg 0 120],xe 122 1 8 99 121,qg 14 122]) 97 15 98 97 15 98) (.reg [xd 123 6,qr 124 123,yG 125,yC 126 124 125,w8 127 126,qr 128 127,qg 129 13,qg 130 14,qK 131 2 128 129,xL 132 131,xH 132 130]))) 90 13 91 90 13 91))) 70 10 71 70 10 71) [xR 133 6,wa 3 4 133])))
def jQ:FK:=⟨134,[.c 4 wJ],(AK.whole jW)⟩
theorem Cj:af Tryz.prog fK=some jQ:=by kernel_rfl
def py:FK:=⟨7,[.c 2 wJ],xy (yH 1 3 (qZ 2 [qI,qI,.nils])) [xR 3 1,xR 4 1,w5 5 gQ 4,yQ 3,xv 6 fK 3 5,wa 3 2 6]⟩
theorem BU:af Tryz.prog fV=some py:=by kernel_rfl
def rP:FK:=⟨29,[.c 2 wJ],yI 1 3 (qZ 2 [qI,qI,.nils]) [w8 5 1,qr 6 5,xL 7 1,qr 8 7,xh 9 [qI,qI,.nils] [xg 0 6,xg 1 8],qZ 3 [qI,qI,.nils],wa 3 3 9] (wC xZ (xT 0 [yc 10,xd 11 1,qr 12 11,wd 13 12,ww 14 10 13] 14 0 1 (.reg [xd 17 3,xd 19 1,yc 21,qr 18 17,qr 20 19,yC 22 20 21,qL 23 5 22,w5 24 cM 23,wc 17 18,wz 25 5 [.nils,.nils,qI,qI,.nils] 1 [wX 0 5 24],wc 17 18,xe 26 5 88 18 25,xd 27 3,xH 27 26]) 15 4 16 15 4 16) [xR 28 3,wa 3 2 28])⟩
theorem Cy:af Tryz.prog lX=some rP:=by kernel_rfl
def rO:FK:=⟨5,yS,xy [xU] (xi (wG 3) (yx 4 (zb 3 yJ (qp 10))) 2 4)⟩
theorem Dn:af Tryz.prog lx=some rO:=by kernel_rfl
def kK:FK:=⟨44,[.t 8],xn [wD 5 3 1,wI 8] (xp 9) (xT 0 [qg 10 9,xd 11 5,qr 12 11,yW 13,yC 14 12 13,qy 15 4 14,qr 16 15,wd 17 16,ww 18 10 17] 18 0 1 (x9 [xd 21 5,qr 22 21,yW 23,yC 24 22 23,qy 25 4 24,qr 26 25,qg 27 9,xz 28 26 27,qr 29 28,xI 30,qT 31 .eql 29 30,qg 32 31,xa 33 32 0,qW 34 32 (wb 33),xE 35 32 2 34,wP 36 32 35,xa 37 32 2,za 38 32 1 36 37,wP 39 32 38,xa 40 32 9,za 41 32 1 39 40,wP 42 32 41,yY 43 32 42] 43 [y9 8]) 19 9 20 19 9 20) [wI 8]⟩
theorem sI:af Tryz.prog fa=some kK:=by kernel_rfl
def dI:FK:=⟨18,yj,qf xZ (qQ 0 (yk (xi (wG 6) (wS 7 6 (-2)) 5 7) 5 (wU (wF 8) 4 8) (x9 [wF 10,wS 11 10 (-2),qg 12 11,xA 13 12 0,xA 14 12 1,qX 15 12 (qm .eql 13 (.t 14)),yy 16 12 15,qg 9 16] 9 (wU (wG 17) 4 17))) (qC yP))⟩
theorem BX:af Tryz.prog kq=some dI:=by kernel_rfl
def eZ:FK:=⟨25,[],qf [wG 6,wH 7 6,w8 8 7,qr 9 8,wF 10,xz 11 9 10,qr 12 11,yW 13,yh 14 12 13] (qR 14 (yf [wG 15,wH 16 15,w8 17 16,qr 18 17,wF 19,yW 20,xz 21 18 19,xH 21 20] [wG 22,wH 23 22,qy 24 3 23,qS 1 24 wY]))⟩
theorem th:af Tryz.prog cP=some eZ:=by kernel_rfl
def pC:FK:=⟨4,yS,xn (xp 2) [wG 3] (wh 3 [qJ 2 1]) (xp 2)⟩
theorem Ax:af Tryz.prog bQ=some pC:=by kernel_rfl
def ui:FK:=⟨50,[.t 6,.t 7],qf [wL 6,wL 7] (qB [wG 8] (.blk 0 (yk (yE 10 8 3 9 10) 9 [wF 11,yW 12,qT 13 .add 11 12,qH 14 .rem 13 256,yV 14,wL 7] (yk (yE 16 8 4 15 16) 15 [wF 17,yW 18,qT 19 .sub 17 18,wt 20 19 256,qH 21 .rem 20 256,yV 21,wL 7] (yk (yE 23 8 5 22 23) 22 [wF 24,yW 25,qT 26 .mul 24 25,qH 27 .rem 26 256,yV 27,wL 7] (yk (yE 29 8 8 28 29) 28 [wF 30,yW 31,ww 32 30 31,w5 33 bQ 32,yV 33,wL 7] (x9 (yE 35 8 9 34 35) 34 [wF 36,yW 37,qT 38 .eql 36 37,w5 39 bQ 38,yV 39,wL 7])))))) (wZ [yW 40,wS 41 40 0] 41 [wL 6,qJ 7 1] (wC [wG 42,wS 43 42 6] (wh 43 [wF 44,yW 45,qT 46 .quo 44 45,yV 46,wL 7]) [wF 47,yW 48,qT 49 .rem 47 48,yV 49,wL 7])))⟩
theorem Et:af Tryz.prog mV=some ui:=by kernel_rfl
def pA:FK:=⟨24,[.t 6,.t 7],xn [wL 6,wL 7] [wG 8] (.blk 0 (qB (yE 10 8 1 9 10) (qq 9 .skip (.reg (yE 11 8 2 9 11))) (qq 9 (qC [wF 12,yV 12,wL 7]) (x9 (yE 14 8 10 13 14) 13 [wF 15,wS 16 15 0,w5 17 bQ 16,yV 17,wL 7])))) [wG 18,wF 19,yW 20,qA 21 mV (ze 18 19 20),ya 22 0 21,ya 23 1 21,yV 22,qg 7 23]⟩
theorem FD:af Tryz.prog pH=some pA:=by kernel_rfl
def bN:FK:=⟨86,yj,qf [wD 3 4 1,wL 4] (qQ 0 (yk [w8 11 3,qr 12 11,wS 13 12 1,qg 10 13] 10 (xi (qy 14 3 3) (qr 15 14) 4 15) (yk [w8 17 3,qr 18 17,wS 19 18 2,qg 16 19] 16 [wG 20,wH 21 20,w8 22 21,xd 24 3,qr 23 22,qr 25 24,qb 26 (qv 1 25 xr),qr 27 26,xz 28 23 27,qr 29 28,qg 4 29] (x9 [w8 31 3,qr 32 31,w5 33 lx 32,w9 34 33,qg 30 34] 30 yP))) (q9 [wI 5] (wU (wz 35 1 yU 2 [(0,1,xr),(1,1,xr)]) 6 35) (qB (xp 7) (xT 1 [yt 36,xd 37 3,qr 38 37,wd 39 38,ww 40 36 39] 40 1 2 (yw [yB 43,yt 44,wG 45,wH 46 45,w8 47 46,xd 49 3,yt 51,qr 48 47,qr 50 49,xz 52 50 51,qr 53 52,xz 54 48 53,qr 55 54,xz 56 43 44,xH 56 55] [yB 57,yt 58,xz 59 57 58,qr 60 59,wS 61 60 (-1)] 61 yP (.reg [wR 62,qg 63 62,xA 64 63 6,xA 65 63 7,qX 66 63 (qG 1 64 65),xQ 67 63 66,qX 68 63 (qm .eql 67 (qp (-2))),yy 69 63 68,qg 5 69])) 41 7 42 41 7 42) (wZ [wR 70] 70 [qJ 4 (-2)] (xn [w8 72 3,yB 74,qb 75 (qv 1 74 xr),yB 77,qb 78 (qv 1 77 yJ),qr 73 72,qr 76 75,qr 79 78,qA 80 pH (ze 73 76 79),qg 71 80,ya 81 0 71,ya 82 1 71,qg 8 81,qg 9 82] [qg 83 9,qH 84 .neq 83 0] (wh 84 yP) (wU (ye 85) 4 85))))))⟩
theorem tf:af Tryz.prog fb=some bN:=by kernel_rfl
def dY:FK:=⟨45,[],q9 [wD 5 3 1] [wG 8,wH 9 8,xd 10 9,qr 11 10,yW 12,xz 13 11 12,qr 14 13,xI 15,xz 16 14 15,qr 17 16,w9 18 17] (qR 18 (q9 [wG 19,wH 20 19,xd 21 20,qr 22 21,yW 23,xz 24 22 23,qr 25 24,xI 26,xz 27 25 26,qS 1 27 wY] [wG 28,wH 29 28,xL 30 29,xd 32 5,yW 34,xI 38,qr 31 30,qr 33 32,yC 35 33 34,qy 36 4 35,qr 37 36,xz 39 37 38,qr 40 39,xz 41 31 40,qS 1 41 wY] (.reg [wG 42,wH 43 42,qy 44 3 43,qS 1 44 wY])))⟩
theorem rF:af Tryz.prog bi=some dY:=by kernel_rfl
def dw:AK:=q9 [wD 4 3 1] [xd 12 4,qr 13 12,yW 14,yC 15 13 14,qL 16 5 15,qZ 6 [.nils,.nils,qI,qI,.nils],wa 5 6 16] (qf [xR 17 4,yW 18,xv 19 aS 17 18,qg 7 19] (xN (xp 8) (xT 0 [ye 20,w8 21 6,qr 22 21,wd 23 22,ww 24 20 23] 24 0 1 (qf [qJ 9 (-2)] (qB (xp 10) (xT 2 [yG 27,yt 28,wd 29 28,ww 30 27 29] 30 2 3 (qf [wG 33,yt 35,yG 36,xz 37 35 36,yW 39,xR 34 4,qr 38 37,qA 40 fa [.t 33,.t 34,.t 38,.t 39]] (yD 40 [qg 41 9,wG 42,wH 43 42,w8 44 43,w8 46 6,ye 48,yG 52,qr 45 44,qr 47 46,qK 49 2 47 48,xL 50 49,qr 51 50,xz 53 51 52,qr 54 53,xz 55 45 54,qr 56 55,xv 57 kq 41 56,qg 9 57])) 31 10 32 31 10 32) (.reg [wG 58,w8 59 6,qr 60 59,ye 61,qK 62 2 60 61,w8 63 62,qr 64 63,qg 65 9,qA 66 cP (ze 58 64 65)]))) 25 8 26 25 8 26) (xN (xp 11) (xT 4 [qg 67 11,xL 68 6,qr 69 68,wd 70 69,ww 71 67 70] 71 4 5 (qf [xL 74 6,qr 75 74,qg 76 11,qK 77 4 75 76,w8 78 77,qr 79 78,w5 80 bR 79] (yD 80 [wG 81,xL 82 6,qg 84 11,wG 88,xL 89 6,qg 91 11,qr 83 82,qK 85 4 83 84,xL 86 85,qr 87 86,qr 90 89,qK 92 4 90 91,qL 93 4 92,xv 94 fb 88 93,wc 82 83,wc 86 87,qA 95 cP (ze 81 87 94)])) 72 11 73 72 11 73) (.blk 6 (xF [xd 97 6,qr 98 97,wS 99 98 1,qg 96 99] 96 (.reg [wG 100,xR 101 4,yW 102,qA 103 bi [.t 100,.t 101,.t 102,xr]]) (xF [xd 105 6,qr 106 105,wS 107 106 2,qg 108 107,xa 109 108 0,qW 110 108 (wb 109),xE 111 108 0 110,xE 113 108 3 6,wP 112 108 111,wP 114 108 113,za 115 108 1 112 114,wP 116 108 115,yz 117 108 .eql 116 (qp (-1)),yY 118 108 117,qg 104 118] 104 (yf [wG 119,xR 120 4,yW 121,qA 122 bi [.t 119,.t 120,.t 121,xr]] [wG 123,xR 124 4,yW 125,qA 126 bi [.t 123,.t 124,.t 125,yJ]]) (qf [xd 128 6,qr 129 128,wS 130 129 2,qg 131 130,xa 132 131 0,qW 133 131 (wb 132),xE 134 131 0 133,xE 136 131 3 6,wP 135 131 134,wP 137 131 136,za 138 131 1 135 137,wP 139 131 138,yz 140 131 .geq 139 xr,yY 141 131 140,qg 127 141] (yD 127 [wG 142,yW 144,wG 145,wH 146 145,w8 147 146,qy 149 3 6,xR 143 4,qr 148 147,qr 150 149,xz 151 148 150,qr 152 151,wS 153 152 0,w5 154 bQ 153,x7 4 143,qA 155 bi [.t 142,.t 143,.t 144,.t 154]]))))))))
def dG:FK:=⟨156,[],(AK.whole dw)⟩
theorem oO:af Tryz.prog dv=some dG:=by kernel_rfl
def nK:AK:=yI 1 3 (qP 2 .nilp) [xd 7 1,qr 8 7,wd 9 8,yR 10 1 1 [qD] 9 9,xh 11 [.nils,.nils,.nils,qD] [xg 1 10,(3,1,wY)],wD 12 4 11,qg 3 12] (xN xZ (xT 0 [yc 13,xL 14 1,qr 15 14,ww 16 13 15] 16 0 1 (xF [yc 19,w8 20 1,qr 21 20,ww 22 19 21] 22 (.reg [xI 23,xI 24,wH 25 24,w8 26 25,qr 27 26,wz 28 1 yU 1 [(0,1,qp (-1))],xe 29 1 8 27 28,wH 30 23,w8 31 30,xH 31 29]) (.reg [xI 32,xI 33,wH 34 33,w8 35 34,qr 36 35,wz 37 1 yU 1 [(0,1,qp (-2))],xe 38 1 8 36 37,wH 39 32,w8 40 39,xH 40 38])) 17 4 18 17 4 18) (xN yA (xk 2 [wR 41,xd 42 1,qr 43 42,wd 44 43,ww 45 41 44] 45 2 3 (.reg [xI 48,xI 49,wH 50 49,xd 51 50,xd 53 1,wR 55,qr 52 51,qr 54 53,yC 56 54 55,qy 57 4 56,qr 58 57,wd 59 58,yR 60 1 1 [qD] 59 59,wc 51 52,wz 61 1 xP 1 [xg 0 60],wc 51 52,xe 62 1 24 52 61,wH 63 48,xd 64 63,xH 64 62]) (wR 46) 47 46 5 47) (wV [xI 65,wH 66 65,xL 67 66,qr 68 67,qb 69 (qv 1 68 xr),qS 1 69 wY] (wM 4 [xI 70,wH 71 70,qy 72 3 71,qr 73 72] 73 4 (.blk 5 (q9 [xI 74,wH 75 74,qy 76 3 75,qS 1 76 xf] (xp 6) (xT 6 [yB 77,xd 78 1,qr 79 78,wd 80 79,ww 81 77 80] 81 6 7 (qf [xI 84,wH 85 84,xL 86 85,qr 87 86,yB 88,xz 89 87 88,qr 90 89] (yD 90 [xI 91,xR 92 1,yB 93,qA 94 dv (ze 91 92 93)])) 82 6 83 82 6 83)))) (qC (wU (xI 95) 2 95)))))
def ny:FK:=⟨96,yS,(AK.whole nK)⟩
theorem EA:af Tryz.prog ni=some ny:=by kernel_rfl
def pe:FK:=⟨74,[],q9 [yb 3 3] [xR 11 3,yW 12,xv 13 aS 11 12,yV 13] (q9 [wF 14,wH 15 14,xR 16 15,yW 17,xv 18 aS 16 17,qg 7 18] (xp 8) (xT 0 [ye 19,wF 20,wH 21 20,xd 22 21,qr 23 22,yW 24,yC 25 23 24,w8 26 25,qr 27 26,wd 28 27,ww 29 19 28] 29 0 1 (qf (wU (yF 32 1 yU 0) 9 32) (qB (xp 10) (xT 2 [yG 33,yt 34,wd 35 34,ww 36 33 35] 36 2 3 (.reg [qg 39 9,wF 40,wH 41 40,xd 42 41,yW 44,ye 48,yB 52,yt 53,yG 54,xz 55 53 54,qr 43 42,yC 45 43 44,w8 46 45,qr 47 46,qK 49 2 47 48,xL 50 49,qr 51 50,qr 56 55,xv 57 jm 52 56,wc 42 43,wc 46 47,wc 50 51,xz 58 51 57,qr 59 58,wz 60 1 yU 1 [xg 0 59],xe 61 1 8 39 60,qg 9 61]) 37 10 38 37 10 38) (.reg [wF 62,wH 63 62,xd 64 63,qr 65 64,yW 66,yC 67 65 66,w8 68 67,qr 69 68,ye 70,qg 71 9,qK 72 2 69 70,xL 73 72,xH 73 71]))) 30 8 31 30 8 31))⟩
theorem BN:af Tryz.prog kw=some pe:=by kernel_rfl
def lT:AK:=yI 1 3 (qZ 2 [qI,qI,.nils]) (xi (xR 15 1) (w5 16 ni 15) 3 16) (qf [xR 17 1,w5 18 lX 17,qZ 4 [qI,qI,.nils],wa 3 4 18] (xN yA (xk 0 [wR 19,xd 20 4,qr 21 20,wd 22 21,ww 23 19 22] 23 0 1 (q9 [xd 26 4,qr 27 26,wR 28,yC 29 27 28,yV 29] [yB 30,wH 31 30,xd 32 31,qr 33 32,wS 34 33 2,qg 35 34,xa 36 35 3,qW 37 35 (wb 36),xE 38 35 0 37,xa 40 35 6,qW 41 35 (wb 40),xE 42 35 3 41,wP 39 35 38,wP 43 35 42,za 44 35 1 39 43,wP 45 35 44,yz 46 35 .geq 45 xr,yY 47 35 46] (qR 47 (q9 [yB 48,wH 49 48,xd 50 49,qS 1 50 yJ] [yB 51,yB 52,wH 53 52,qy 54 4 53,xI 56,wH 57 56,w8 58 57,yB 60,wH 61 60,qy 62 3 61,qr 55 54,qr 59 58,qr 63 62,xz 64 59 63,qr 65 64,wS 66 65 0,w5 67 bQ 66,wc 54 55,xz 68 55 67,qr 69 68,wz 70 1 yU 1 [xg 0 69],wH 71 51,qy 72 4 71,xH 72 70] (.reg [yB 73,wH 74 73,qy 75 3 74,qS 1 75 xr])))) (wR 24) 25 24 5 25) (xN (xp 7) (xT 2 [yt 76,xd 77 4,qr 78 77,wd 79 78,ww 80 76 79] 80 2 3 (.reg [xR 83 1,yt 84,qA 85 kw (ze 83 4 84)]) 81 7 82 81 7 82) (xN (xp 8) (xT 4 [ye 86,xd 87 4,qr 88 87,wd 89 88,ww 90 86 89] 90 4 5 (q9 [xd 93 4,qr 94 93,ye 95,yC 96 94 95,qg 9 96] (wU (yF 97 2 [qI,.nils] 0) 10 97) (qf (wU (yF 98 4 [qI,qI,.nils,qI] 0) 11 98) (xN (xp 12) (xT 6 [qg 99 12,qg 100 9,wH 101 100,w8 102 101,qr 103 102,wd 104 103,ww 105 99 104] 105 6 7 (q9 [xI 108,wH 109 108,w8 110 109,qg 112 9,wH 113 112,w8 114 113,qg 116 12,qr 111 110,qr 115 114,qK 117 2 115 116,w8 118 117,qr 119 118,xz 120 111 119,qr 121 120,qg 13 121] [qg 122 13,qH 123 .geq 122 0] (qq 123 (.reg [qg 124 11,qg 125 9,wH 126 125,w8 127 126,qr 128 127,qg 129 12,qK 130 2 128 129,w8 131 130,qr 132 131,yF 133 1 yU 0,qg 134 13,xh 135 [qI,qI,.nils,qI] [(0,1,yJ),xg 1 132,xg 2 133,xg 3 134],wz 136 4 [qI,qI,.nils,qI] 1 [wX 0 4 135],xe 137 4 48 124 136,qg 11 137]) (.reg [yG 138,qg 139 9,wH 140 139,w8 141 140,qr 142 141,qg 143 12,qK 144 2 142 143,qL 145 2 144,wz 146 2 [qI,.nils] 1 [wX 0 2 145],xe 147 2 32 138 146,qg 10 147]))) 106 12 107 106 12 107) (xN (xp 14) (xT 8 [qg 148 14,qg 149 9,wH 150 149,xL 151 150,qr 152 151,wd 153 152,ww 154 148 153] 154 8 9 (qf [qg 157 9,wH 158 157,xL 159 158,qg 161 14,qr 160 159,qK 162 4 160 161,w8 163 162,qr 164 163,w5 165 bR 164,qg 166 165,xa 167 166 3,qW 168 166 (wb 167),xE 169 166 0 168,xa 171 166 9,qW 172 166 (wb 171),xE 173 166 1 172,xa 175 166 14,wP 170 166 169,wP 174 166 173,za 176 166 4 174 175,xE 177 166 1 176,wP 178 166 177,za 179 166 1 170 178,wP 180 166 179,yz 181 166 .geq 180 xr,yY 182 166 181] (yD 182 [qg 183 9,wH 184 183,xL 185 184,qg 187 14,qg 188 9,wH 189 188,xL 190 189,qg 192 14,xI 197,wH 198 197,w8 199 198,qg 201 9,wH 202 201,xL 203 202,qg 205 14,qr 186 185,qr 191 190,qK 193 4 191 192,xL 194 193,qr 195 194,qr 200 199,qr 204 203,qK 206 4 204 205,xL 207 206,qr 208 207,xz 209 200 208,qr 210 209,yF 196 1 yU 0,wc 185 186,wc 190 191,wc 194 195,wc 199 200,wc 203 204,wc 207 208,wc 209 210,xh 211 [qI,qI,.nils,qI] [(0,1,yJ),xg 1 195,xg 2 196,xg 3 210],qK 212 4 186 187,wa 4 212 211])) 155 14 156 155 14 156) (yf [qg 213 9,yG 214,wH 215 213,w8 216 215,xH 216 214] [qg 217 9,qg 218 11,qg 219 9,wH 220 219,xL 221 220,qr 222 221,xe 223 4 48 218 222,wH 224 217,xL 225 224,xH 225 223]))))) 91 8 92 91 8 92) (qC [xR 226 4,w5 227 fV 226,wa 3 2 227])))))
def lM:FK:=⟨228,[.c 2 wJ],(AK.whole lT)⟩
theorem Dj:af Tryz.prog gZ=some lM:=by kernel_rfl
def oY:FK:=⟨54,[.c 4 wJ],xn (yH 2 3 (qZ 4 [qI,qI,.nils])) [wF 5] (.blk 0 (yk (wU (qb 7 (.bins .eql (.t 5) (.c (.p (.str [114,101,97,99,104]))))) 6 7) 6 [xR 8 2,w5 9 fV 8,wa 3 4 9] (yk (wU (qb 11 (.bins .eql (.t 5) (.c (.p (.str [111,114,100,101,114]))))) 10 11) 10 [xR 12 2,xR 13 2,w5 14 ca 13,x7 2 12,xv 15 fK 12 14,wa 3 4 15] (yk (wU (qb 17 (.bins .eql (.t 5) (.c (.p (.str [115,112,108,105,116]))))) 16 17) 16 [xR 18 2,w5 19 zJ 18,wa 3 4 19] (yk (wU (qb 21 (.bins .eql (.t 5) (.c (.p (.str [105,100,108,101]))))) 20 21) 20 [xR 22 2,w5 23 BI 22,wa 3 4 23] (yk (wU (qb 25 (.bins .eql (.t 5) (.c (.p (.str [115,105,110,103,108,101]))))) 24 25) 24 [xR 26 2,w5 27 vL 26,wa 3 4 27] (yk (wU (qb 29 (.bins .eql (.t 5) (.c (.p (.str [107,110,111,119,110]))))) 28 29) 28 [xR 30 2,w5 31 gZ 30,wa 3 4 31] (yk (wU (qb 33 (.bins .eql (.t 5) (.c (.p (.str [115,104,97,114,101]))))) 32 33) 32 [xR 34 2,w5 35 zK 34,wa 3 4 35] (yk (wU (qb 37 (.bins .eql (.t 5) (.c (.p (.str [104,111,105,115,116]))))) 36 37) 36 [xR 38 2,w5 39 zu 38,wa 3 4 39] (yk (wU (qb 41 (.bins .eql (.t 5) (.c (.p (.str [101,118,101,110]))))) 40 41) 40 [xR 42 2,w5 43 BS 42,wa 3 4 43] (yk (wU (qb 45 (.bins .eql (.t 5) (.c (.p (.str [115,107,105,112]))))) 44 45) 44 [xR 46 2,w5 47 Bv 46,wa 3 4 47] (x9 (wU (qb 49 (.bins .eql (.t 5) (.c (.p (.str [106,111,105,110]))))) 48 49) 48 [xR 50 2,w5 51 AB 50,wa 3 4 51])))))))))))) [xR 52 2,w5 53 zr 52,wa 3 4 53]⟩
theorem BG:af Tryz.prog jZ=some oY:=by kernel_rfl
def pN:FK:=⟨37,[.c 4 (some 1),.t 5],yw [yb 2 1,qZ 4 xP,wI 5] [qL 8 1 2,w5 9 bL 8,w9 10 9] 10 [xh 11 xP [],xH 4 11,wI 5] (qf [xh 12 xP [],qZ 6 xP,xH 6 12] (qB (xp 7) (xT 0 [yt 13,w8 14 2,qr 15 14,wd 16 15,ww 17 13 16] 17 0 1 (.reg [w8 20 6,w8 22 2,yt 24,wF 27,qr 21 20,qr 23 22,qK 25 3 23 24,xR 26 25,xv 28 jZ 26 27,wc 20 21,wz 29 3 [qI,qI,.nils] 1 [wX 0 3 28],wc 20 21,xe 30 3 40 21 29,w8 31 6,xH 31 30]) 18 7 19 18 7 19) (wC [qL 32 1 6,w5 33 bL 32,w9 34 33] (wh 34 [xh 35 xP [],xH 4 35,wI 5]) [qL 36 1 6,xH 4 36,y9 5])))⟩
theorem Cn:af Tryz.prog fC=some pN:=by kernel_rfl
def kL:FK:=⟨15,[.c 4 (some 1),.t 5],xn [yb 2 1,qZ 4 xP,wI 5] [qL 6 1 2,w5 7 iH 6,w9 8 7] (wh 8 [xh 9 xP [],xH 4 9,wI 5]) [qL 10 1 2,wF 11,xv 12 fC 10 11,ya 13 0 12,ya 14 1 12,xH 4 13,qg 5 14]⟩
theorem oG:af Tryz.prog fA=some kL:=by kernel_rfl
def mN:FK:=⟨8,[.c 2 (some 1),.t 3],xy [yb 1 1,qZ 2 xP,wI 3] [qL 4 1 1,qA 5 fA (xt 4 (.c (.p (.str [107,110,111,119,110])))),ya 6 0 5,ya 7 1 5,xH 2 6,yt 3]⟩
theorem vn:af Tryz.prog gR=some mN:=by kernel_rfl
def lz:FK:=⟨15,[.t 6],xy [wI 6] [wF 7,wG 8,qT 9 .leq 7 8,qg 10 9,xa 11 10 0,xa 12 10 2,yz 13 10 .leq 11 (.t 12),yY 14 10 13,yV 14]⟩
theorem CH:af Tryz.prog dg=some lz:=by kernel_rfl
def cx:FK:=⟨10,yS,xn (xp 2) [wG 3] (.blk 0 (yk [wS 5 3 1,wR 4] 4 [qJ 2 1] (yk (yE 7 3 2 6 7) 6 [qJ 2 2] (x9 (yE 9 3 3 8 9) 8 (xp 2))))) [xV 2]⟩
theorem vG:af Tryz.prog gN=some cx:=by kernel_rfl
def lv:FK:=⟨9,yS,xy [xU] [wG 3,wS 4 3 2,yc 5,xA 6 5 0,qX 7 5 (qm .eql 6 (qp 3)),yy 8 5 7,ye 2]⟩
theorem Cx:af Tryz.prog eA=some lv:=by kernel_rfl
def fL:FK:=⟨19,yj,xn xZ [wG 6,wd 7 6,wL 8] (x8 0 [ww 9 8 7] 9 0 1 (q9 (wU (ye 10) 5 10) [wF 11,yu,yZ,xz 14 12 13,qr 15 14,qb 16 (yX 11 15)] (wh 16 (wU (wR 17) 4 17))) 18 8 8 18) yP⟩
theorem nn:af Tryz.prog cN=some fL:=by kernel_rfl
def dV:FK:=⟨9,yj,xy zf [wG 5,wF 6,xv 7 cN 5 6,qH 8 .geq 7 0,ye 4]⟩
theorem kT:af Tryz.prog aF=some dV:=by kernel_rfl
def dr:FK:=⟨19,yj,xn xZ [wG 6,wd 7 6,wL 8] (x8 0 [ww 9 8 7] 9 0 1 (q9 (wU (ye 10) 5 10) [wF 11,yu,yZ,qK 14 4 12 13,qL 15 4 14,qb 16 (yX 11 15)] (wh 16 (wU (wR 17) 4 17))) 18 8 8 18) yP⟩
theorem jt:af Tryz.prog bG=some dr:=by kernel_rfl
def cA:FK:=⟨9,yj,xy zf [wG 5,wF 6,xv 7 bG 5 6,qH 8 .geq 7 0,ye 4]⟩
theorem gO:af Tryz.prog bu=some cA:=by kernel_rfl
def kG:FK:=⟨19,yj,xn xZ [wG 6,wd 7 6,wL 8] (x8 0 [ww 9 8 7] 9 0 1 (q9 (wU (ye 10) 5 10) [wF 11,yu,yZ,xz 14 12 13,qr 15 14,qT 16 .eql 11 15] (wh 16 (wU (wR 17) 4 17))) 18 8 8 18) yP⟩
theorem sD:af Tryz.prog eY=some kG:=by kernel_rfl
def gu:FK:=⟨9,yj,xy zf [wG 5,wF 6,xv 7 eY 5 6,qH 8 .geq 7 0,ye 4]⟩
theorem oz:af Tryz.prog bq=some gu:=by kernel_rfl
def pI:FK:=⟨33,yj,yI 2 3 (xm 4) [xm 5] (wZ [wF 8,xd 9 2,qr 10 9,wd 11 10,qH 12 .sub 11 1,yg 13 (zd 8 xr 12),w9 14 13] 14 [xm 4] (yv [xd 15 2,qr 16 15,wd 17 16,wL 18] (x8 0 [ww 19 18 17] 19 0 1 (q9 [qg 20 18,yC 21 16 18,qL 22 5 21,qZ 7 [.nils,.nils,qI,qI,.nils],yV 20,wa 5 7 22] [qy 23 4 7,qr 24 23,wF 25,xv 26 bq 24 25] (yD 26 [wR 27,yB 28,wz 29 1 yU 1 [xg 0 28],xe 30 1 8 27 29,qg 5 30])) 31 18 18 31) (wR 32) 4 32))⟩
theorem pJ:af Tryz.prog bg=some pI:=by kernel_rfl
def ov:FK:=⟨9,[.t 3],xy [wI 3] [wG 4,xL 5 1,qr 6 5,qH 7 .sub 6 1,yg 8 (zd 4 xr 7),ye 3]⟩
theorem zZ:af Tryz.prog bn=some ov:=by kernel_rfl
def nM:FK:=⟨11,[.t 3],xy [wI 3] [wG 4,xd 5 1,qr 6 5,wd 7 6,qH 8 .sub 7 1,yg 9 (zd 4 yJ 8),w9 10 9,yG 3]⟩
theorem zx:af Tryz.prog iN=some nM:=by kernel_rfl
def tP:FK:=⟨5,yS,xy [xU] (xi (wG 3) (yg 4 (zb 3 yJ (qp 14))) 2 4)⟩
theorem Ew:af Tryz.prog jx=some tP:=by kernel_rfl
def vW:FK:=⟨13,yS,xy [xU] [wG 3,w5 4 jx 3,yc 5,xa 6 5 0,yz 7 5 .neq 6 (qp 12),yY 8 5 7,ye 9,xa 10 9 0,yz 11 9 .neq 10 (qp 13),yY 12 9 11,qg 2 12]⟩
theorem Hk:af Tryz.prog iu=some vW:=by kernel_rfl
def rS:FK:=⟨5,yS,xy [xU] (xi (wG 3) (yg 4 (zb 3 xr (qp 255))) 2 4)⟩
theorem CE:af Tryz.prog ef=some rS:=by kernel_rfl
def bO:FK:=⟨11,yS,xn (xp 2) [wG 3] (.blk 0 (yk [wS 5 3 1,wR 4] 4 (xp 2) (qB (yE 7 3 2 6 7) (qq 6 .skip (xF (yE 8 3 10 6 8) 6 .skip (xF (yE 9 3 11 6 9) 6 .skip (.reg (yE 10 3 13 6 10))))) (wh 6 [qJ 2 1])))) [qJ 2 2]⟩
theorem Cc:af Tryz.prog kD=some bO:=by kernel_rfl
def pz:FK:=⟨9,[.t 3],xy [wI 3] [wG 4,xL 5 1,qr 6 5,qH 7 .sub 6 1,yg 8 (zd 4 xr 7),ye 3]⟩
theorem BO:af Tryz.prog cD=some pz:=by kernel_rfl
def pO:FK:=⟨8,[.t 3],xy [wI 3] [qr 4 1,wG 5,qb 6 (yX 4 5),w9 7 6,yt 3]⟩
theorem Br:af Tryz.prog kx=some pO:=by kernel_rfl
def nG:AK:=q9 [yb 3 1,wD 5 4 2,wI 6] [w8 9 3,qr 10 9,wF 11,qK 12 3 10 11,xR 13 12,qZ 7 [qI,qI,.nils],wa 3 7 13] (qf [qb 14 (yp cD (w4 7)),qZ 8 [.nilf],xH 8 14] (xN [w8 15 5,qr 16 15,w5 17 jx 16,w9 18 17,qg 19 18,yd 20 19 2 5,xQ 21 19 20,qX 22 19 (yp kx (w4 8)),ym 23 19 aF (xu 21 22),yy 24 19 23] (wh 24 [wI 6]) (xN [w8 25 5,qr 26 25,w5 27 iu 26,qg 28 27,wP 29 28 8,xE 30 28 1 5,wP 31 28 30,qW 32 28 (yX 29 31),qW 33 28 (wB 32),yY 34 28 33,qg 35 34,yd 36 35 0 5,xQ 37 35 36,ym 38 35 iu (w4 37),qX 39 35 (wB 38),xA 40 35 39,xE 41 40 1 5,wP 42 40 41,yz 43 40 .neq 42 (qp (-1)),qX 44 35 (ws 40 (.t 43) xf),yy 45 35 44] (wh 45 [wI 6]) (wC [w8 46 5,qr 47 46] (.blk 0 (yk (yE 49 47 1 48 49) 48 [xd 50 5,qr 51 50,wd 52 51,wS 53 52 0,qg 54 53,xE 55 54 3 5,wP 56 54 55,qW 57 54 (.call ef (w4 56)),yY 58 54 57,yV 58] (x9 (yE 60 47 14 59 60) 59 [qy 61 3 5,wF 63,qH 64 .sub 63 1,qr 62 61,yg 65 (zd 62 xr 64),qg 66 65,xE 67 66 2 5,xE 70 66 0 3,xE 72 66 3 5,wP 68 66 67,qW 69 66 (qY 68),wP 71 66 70,wP 73 66 72,za 74 66 3 71 73,xE 75 66 0 74,wP 76 66 75,yz 77 66 .eql 69 (.t 76),yY 78 66 77,yV 78]))) [qy 79 3 5,qr 80 79,wS 81 80 0,qg 82 81,xE 83 82 2 5,xE 86 82 0 5,wP 84 82 83,qW 85 82 (qY 84),wP 87 82 86,qW 88 82 (.qcall kD (w4 87)),yz 89 82 .eql 85 (.t 88),yY 90 82 89,yV 90]))))
def nJ:FK:=⟨91,[.t 6],(AK.whole nG)⟩
theorem Eb:af Tryz.prog mY=some nJ:=by kernel_rfl
def nQ:FK:=⟨10,yj,xy (yH 3 4 xD) [qL 5 1 1,qr 6 2,qL 7 4 3,qA 8 mY (ze 5 6 7),w9 9 8,qg 4 9]⟩
theorem zQ:af Tryz.prog iC=some nQ:=by kernel_rfl
def nY:FK:=⟨8,[.t 3],xy [wI 3] [qr 4 1,wG 5,qb 6 (yX 4 5),w9 7 6,yt 3]⟩
theorem Aa:af Tryz.prog iX=some nY:=by kernel_rfl
def lU:AK:=q9 [yb 2 1,wD 3 1 1,xD] [w8 12 2,qr 13 12,qr 14 3,qK 15 3 13 14,xR 16 15,qZ 5 [qI,qI,.nils],wa 3 5 16] (xN [xL 17 5,qr 18 17,yg 19 (zb 18 xr (qp 300)),w9 20 19,qg 21 20,yd 22 21 0 5,xQ 23 21 22,yd 24 21 1 5,xQ 25 21 24,qX 26 21 (.mn (qp 3) (.t 25)),ym 27 21 dg (zd 23 xr 26),qX 28 21 (wB 27),yy 29 21 28,qg 30 29,yd 31 30 2 5,xQ 32 30 31,qX 33 30 (qY 32),ym 34 30 dg (zb 33 yJ (qp 160)),qX 35 30 (wB 34),yy 36 30 35] (wh 36 zf) (xn [qb 37 (yp bn (w4 5)),qZ 6 [.nilf],xH 6 37] [xd 38 5,qr 39 38,wd 40 39,wL 41] (x8 0 [ww 42 41 40] 42 0 1 (qf [qg 43 41,yC 44 39 41,qL 45 5 44,qZ 8 [.nils,.nils,qI,qI,.nils],qg 7 43,wa 5 8 45] (xN [qy 46 4 8,xd 49 8,qr 47 46,wd 48 47,qr 50 49,w5 51 gN 50,wc 46 47,yh 52 48 51,qg 53 52,yd 54 53 2 8,xQ 55 53 54,ym 56 53 eA (w4 55),xA 57 53 56,xE 59 57 3 8,wP 58 57 6,wP 60 57 59,qW 61 57 (yX 58 60),qW 62 57 (wB 61),qX 63 53 (ws 57 (.t 62) xf),yy 64 53 63,qg 65 64,yd 66 65 2 8,xQ 67 65 66,ym 68 65 eA (w4 67),qX 69 65 (wB 68),xA 70 65 69,xE 71 70 3 8,wP 72 70 71,yz 73 70 .neq 72 xr,qX 74 65 (ws 70 (.t 73) xf),yy 75 65 74] (wh 75 zf) (xN [qy 76 4 8,qr 77 76,qb 78 (yp iN (w4 5)),xv 79 aF 77 78,qg 80 79,yd 81 80 1 8,xQ 82 80 81,qX 83 80 (yp iC (xu 2 3)),ym 84 80 bu (xu 82 83),yy 85 80 84] (wh 85 zf) (.cut (.reg [xR 86 5,yt 87,xv 88 bg 86 87,wd 89 88,qg 9 89]) (qf [w8 90 8,qr 91 90,wd 92 91,wL 93] (x8 2 [ww 94 93 92] 94 2 3 (q9 [qK 95 2 91 93,qL 96 2 95,qZ 11 [qI,.nils],wa 2 11 96] [yt 97,wS 98 97 0,qg 99 98,xQ 100 99 6,yd 101 99 0 11,xQ 102 99 101,qX 103 99 (yX 100 102),qX 104 99 (wB 103),yy 105 99 104,qg 106 105,yd 107 106 1 11,xQ 108 106 107,qX 109 106 (qY 108),xA 110 106 9,qX 111 106 (qm .neq 109 (.t 110)),yy 112 106 111,qg 113 112,yd 114 113 1 11,xQ 115 113 114,qX 116 113 (yp iX (w4 6)),ym 117 113 aF (xu 115 116),yy 118 113 117] (wh 118 zf)) 119 93 93 119)))))) 120 41 41 120) [y9 4]))
def lP:FK:=⟨121,yj,(AK.whole lU)⟩
theorem CQ:af Tryz.prog lH=some lP:=by kernel_rfl
def mv:FK:=⟨24,yS,yI 1 3 (wL 2) (xp 3) (yv [xd 6 1,qr 7 6,wd 8 7,wL 9] (x8 0 [ww 10 9 8] 10 0 1 (yf [yC 11 7 9,qL 12 5 11,qZ 5 [.nils,.nils,qI,qI,.nils],wa 5 5 12] [xI 13,w8 14 5,qr 15 14,wd 16 15,xL 17 5,qr 18 17,wd 19 18,qT 20 .add 16 19,qT 21 .add 13 20,qg 3 21]) 22 9 9 22) (xI 23) 2 23)⟩
theorem vB:af Tryz.prog gD=some mv:=by kernel_rfl
def mK:FK:=⟨30,yS,yw (yH 1 1 xU) [w8 6 1,qr 7 6,wd 8 7,yg 9 (zb 8 yJ (qp 4)),w9 10 9] 10 [xU] (xn (xp 3) [w8 11 1,qr 12 11,wd 13 12,wL 14] (x8 0 [ww 15 14 13] 15 0 1 (yw [qg 16 14,qK 17 3 12 14,xR 18 17,qZ 5 [qI,qI,.nils],qg 4 16,wa 3 5 18] [qL 19 1 1,yc 20,xv 21 lH 19 20,w9 22 21] 22 [xU] (.reg [xI 23,xR 24 5,w5 25 gD 24,qT 26 .add 23 25,qg 3 26])) 27 14 14 27) (xi (xI 28) (qH 29 .leq 28 800) 2 29))⟩
theorem uM:af Tryz.prog dJ=some mK:=by kernel_rfl
def cY:FK:=⟨19,yj,xn xZ [wG 6,wd 7 6,wL 8] (x8 0 [ww 9 8 7] 9 0 1 (q9 (wU (ye 10) 5 10) [wF 11,yu,yZ,qK 14 3 12 13,xR 15 14,qb 16 (yX 11 15)] (wh 16 (wU (wR 17) 4 17))) 18 8 8 18) yP⟩
theorem ja:af Tryz.prog bF=some cY:=by kernel_rfl
def co:FK:=⟨9,yj,xy zf [wG 5,wF 6,xv 7 bF 5 6,qH 8 .geq 7 0,ye 4]⟩
theorem gn:af Tryz.prog bp=some co:=by kernel_rfl
def cG:FK:=⟨19,yj,xn xZ [wG 6,wd 7 6,wL 8] (x8 0 [ww 9 8 7] 9 0 1 (q9 (wU (ye 10) 5 10) [wF 11,yu,yZ,yC 14 12 13,qL 15 5 14,qb 16 (yX 11 15)] (wh 16 (wU (wR 17) 4 17))) 18 8 8 18) yP⟩
theorem iy:af Tryz.prog bw=some cG:=by kernel_rfl
def ce:FK:=⟨9,yj,xy zf [wG 5,wF 6,xv 7 bw 5 6,qH 8 .geq 7 0,ye 4]⟩
theorem fF:af Tryz.prog bf=some ce:=by kernel_rfl
def ki:FK:=⟨11,[.t 3],xy [wI 3] [wG 4,xd 5 1,qr 6 5,wd 7 6,qH 8 .sub 7 1,yg 9 (zd 4 xr 8),w9 10 9,yG 3]⟩
theorem sZ:af Tryz.prog fe=some ki:=by kernel_rfl
def mw:FK:=⟨8,[.t 3],xy (yH 2 5 (wI 3)) [qy 4 4 2,qr 5 4,qb 6 (yp fe (w4 1)),xv 7 aF 5 6,yt 3]⟩
theorem vH:af Tryz.prog dT=some mw:=by kernel_rfl
def kf:FK:=⟨14,yS,xy (yH 1 3 xU) [xd 3 1,qr 4 3,wd 5 4,qH 6 .gtr 5 0,yB 7,xE 8 7 2 1,wP 9 7 8,qW 10 7 (yp dT (w4 1)),qW 11 7 (.call bf (xu 9 10)),qW 12 7 (wB 11),yY 13 7 12,qg 2 13]⟩
theorem Ci:af Tryz.prog dF=some kf:=by kernel_rfl
def gv:FK:=⟨48,yj,yI 2 3 (xm 4) [xd 8 2,qr 9 8,wd 10 9,yR 11 1 1 [qD] 10 10,qg 5 11] (wV (wU (wz 12 1 yU 1 [(0,1,xr)]) 6 12) (wM 0 [yB 13,wd 14 13,qH 15 .gtr 14 0] 15 0 (.blk 1 (q9 [yB 16,yB 17,wd 18 17,qH 19 .sub 18 1,xz 20 16 19,qr 21 20,qg 7 21] [yB 22,yB 23,wd 24 23,qH 25 .sub 24 1,qb 26 (.slS 1 (.t 22) none (some (.t 25))),yV 26] (qB [yt 27,wF 28,qT 29 .eql 27 28,qg 30 29,xA 31 30 5,xA 32 30 7,qX 33 30 (qG 1 31 32),xQ 34 30 33,yy 35 30 34] (qR 35 (.exit 1)) (yf [wR 36,yt 37,xz 38 36 37,qS 1 38 wY] [yB 39,xd 40 2,qr 41 40,yt 42,yC 43 41 42,qy 44 4 43,qr 45 44,xe 46 1 8 39 45,yV 46]))))) (qC (wU (wR 47) 4 47)))⟩
theorem oD:af Tryz.prog aL=some gv:=by kernel_rfl
def gW:FK:=⟨71,yS,yw (yH 1 3 (qP 2 .nilp)) [xR 8 1,w5 9 dF 8,w9 10 9] 10 [qP 2 .nilp] (xn [xR 11 1,xR 12 1,qA 13 aL (xt 12 (qp (-1))),yQ 11,xh 14 [qI,qI,.nils,.nils,.nils] [wX 0 3 11,xg 4 13],wD 15 5 14,qg 3 15] [xd 16 1,qr 17 16,wd 18 17,wL 19] (x8 0 [ww 20 19 18] 20 0 1 (q9 (wU (qg 21 19) 4 21) [xd 22 1,qr 23 22,wd 24 23,yR 25 1 1 [qD] 24 24,qg 5 25] (qB [xI 26,wH 27 26,qy 28 4 27,qr 29 28,yc 30,xz 31 29 30,qr 32 31] (qR 32 (q9 [xR 33 1,yc 34,xv 35 aL 33 34,yV 35] [wR 36,wd 37 36,wL 38] (x8 2 [ww 39 38 37] 39 2 3 (yf (wU (qg 40 38) 7 40) [wR 41,yt 42,xI 43,wH 44 43,qy 45 4 44,qr 46 45,yt 47,xz 48 46 47,qr 49 48,qg 50 49,xa 51 50 6,xa 52 50 7,za 53 50 1 51 52,wP 54 50 53,qW 55 50 (wB 54),yY 56 50 55,xz 57 41 42,xH 57 56]) 58 38 38 58))) (.reg [xI 59,xI 60,wH 61 60,qy 62 3 61,qr 63 62,wR 64,wz 65 1 xP 1 [xg 0 64],xe 66 1 24 63 65,wH 67 59,qy 68 3 67,xH 68 66]))) 69 19 19 69) (wU (xI 70) 2 70))⟩
theorem rQ:af Tryz.prog dk=some gW:=by kernel_rfl
def sy:FK:=⟨9,yS,xn (yH 1 4 (wL 2)) [w8 3 1,qr 4 3,w5 5 iu 4,w9 6 5] (wh 6 [xV 2]) (xi (xL 7 1) (qr 8 7) 2 8)⟩
theorem CN:af Tryz.prog ep=some sy:=by kernel_rfl
def og:FK:=⟨70,yS,yI 1 3 (xm 2) [xL 11 1,qr 12 11,yR 13 1 24 xP 12 12,qg 3 13] (yv [xd 14 1,qr 15 14,wd 16 15,wL 17] (x8 0 [ww 18 17 16] 18 0 1 (qf [qg 19 17,yC 20 15 17,qL 21 5 20,qZ 5 [.nils,.nils,qI,qI,.nils],qg 4 19,wa 5 5 21] (qB [w8 22 5,qr 23 22,wd 24 23,wL 25] (x8 2 [ww 26 25 24] 26 2 3 (yf [qK 27 2 23 25,qL 28 2 27,qZ 7 [qI,.nils],wa 2 7 28] [xI 29,w8 30 7,xI 32,w8 33 7,yc 37,xh 38 [qI,qI] [xg 0 37,(1,1,qp (-1))],qb 39 (.bslP 2 [qI,qI] 1 [wX 0 2 38]),qr 31 30,qr 34 33,xz 35 32 34,qr 36 35,xe 40 2 16 36 39,wc 30 31,xz 41 29 31,xH 41 40]) 42 25 25 42) (qf [xL 43 5,qr 44 43,wd 45 44,wL 46] (x8 4 [ww 47 46 45] 47 4 5 (q9 [qg 48 46,qK 49 4 44 46,qL 50 4 49,qZ 9 [qI,qI,.nils,qI],qg 8 48,wa 4 9 50] (xi (qL 51 4 9) (w5 52 ep 51) 10 52) (qf [yG 53,qH 54 .geq 53 0] (yD 54 [xI 55,yG 56,xI 57,yG 58,xz 59 57 58,qr 60 59,yc 61,ye 62,xh 63 [qI,qI] [xg 0 61,xg 1 62],wz 64 2 [qI,qI] 1 [wX 0 2 63],xe 65 2 16 60 64,xz 66 55 56,xH 66 65]))) 67 46 46 67)))) 68 17 17 68) (xI 69) 2 69)⟩
theorem zB:af Tryz.prog bZ=some og:=by kernel_rfl
def jk:FK:=⟨19,yj,xn xZ [wG 6,wd 7 6,wL 8] (x8 0 [ww 9 8 7] 9 0 1 (q9 (wU (ye 10) 5 10) [wF 11,yu,yZ,xz 14 12 13,qr 15 14,qb 16 (.beq false (.t 11) (.t 15))] (wh 16 (wU (wR 17) 4 17))) 18 8 8 18) yP⟩
theorem rD:af Tryz.prog dZ=some jk:=by kernel_rfl
def gg:FK:=⟨9,yj,xy zf [wG 5,wF 6,xv 7 dZ 5 6,qH 8 .geq 7 0,ye 4]⟩
theorem nz:af Tryz.prog cK=some gg:=by kernel_rfl
def iW:FK:=⟨26,yj,xy zf [wG 5,qb 6 (.pnil 0 true (.t 5)),yB 7,xa 8 7 1,xa 9 7 0,qW 10 7 (wb 9),xE 11 7 4 10,wP 12 7 11,qW 13 7 (qY 12),yz 14 7 .sub 13 yJ,qW 15 7 (.call dg (zd 8 xr 14)),yY 16 7 15,qg 17 16,xa 18 17 0,qW 19 17 (wb 18),xE 20 17 4 19,wP 21 17 20,xa 22 17 1,za 23 17 1 21 22,wP 24 17 23,yY 25 17 24,qg 4 25]⟩
theorem Ab:af Tryz.prog eP=some iW:=by kernel_rfl
def dn:FK:=⟨27,[.t 6],xy [wI 6] [wG 7,wF 8,xv 9 eP 7 8,qg 10 9,xa 11 10 0,xa 12 10 2,qW 13 10 (.call eP (xu 11 12)),yY 14 10 13,qg 15 14,xa 16 15 0,qW 17 15 (wb 16),xE 18 15 3 17,wP 19 15 18,xa 20 15 1,za 21 15 1 19 20,wP 22 15 21,xa 23 15 2,za 24 15 1 22 23,wP 25 15 24,yY 26 15 25,yV 26]⟩
theorem oC:af Tryz.prog dq=some dn:=by kernel_rfl
def bj:FK:=⟨65,[.t 9],xn [wI 9] [wG 10,w8 11 3,qr 12 11,ww 13 10 12] (wh 13 [y9 9]) [wG 15,qr 14 4,xz 16 14 15,qr 17 16,wd 18 17,qH 19 .gtr 18 0,qg 20 19,xa 22 20 0,xa 28 20 1,wP 21 20 4,za 23 20 1 21 22,wP 24 20 23,qW 25 20 (qv 2 24 xr),xE 26 20 0 25,wP 27 20 26,yz 29 20 .eql 27 (.t 28),xa 30 20 29,xa 32 30 0,xa 38 30 2,wP 31 30 4,za 33 30 1 31 32,wP 34 30 33,qW 35 30 (qv 2 34 xr),xE 36 30 1 35,wP 37 30 36,yz 39 30 .lss 37 (.t 38),qW 40 20 (ws 30 (.t 39) xf),xa 41 20 40,xA 43 41 0,xA 49 41 1,xQ 42 41 4,qX 44 41 (qG 1 42 43),xQ 45 41 44,qX 46 41 (qv 2 45 xr),yd 47 41 0 46,xQ 48 41 47,qX 50 41 (qm .neq 48 (.t 49)),xA 51 41 50,xa 54 51 0,xa 60 51 1,wP 52 51 5,wP 53 51 4,za 55 51 1 53 54,wP 56 51 55,qW 57 51 (qv 2 56 xr),xE 58 51 0 57,wP 59 51 58,qW 61 51 (.call dq (ze 52 59 60)),qX 62 41 (ws 51 (.t 61) xf),qW 63 20 (ws 41 wY (.t 62)),yY 64 20 63,qg 9 64]⟩
theorem rG:af Tryz.prog aV=some bj:=by kernel_rfl
def ji:FK:=⟨12,[.t 5],xy [wI 5] [qr 6 1,wG 7,qr 8 2,qr 9 3,qb 10 (xC 6 (ze 7 8 9)),w9 11 10,qg 5 11]⟩
theorem rL:af Tryz.prog cu=some ji:=by kernel_rfl
def fX:AK:=qf (yH 1 3 xU) (.cut (.ot (wW [qP 3 .any] [xR 17 1] (yn (xR 19 1) (qM [w5 18 dk 17,yQ 19] (qM [w5 20 bZ 19] (w7 [qZ 4 xP,yQ 17,yQ 19] [qZ 3 [.nilp]] (w7 [xH 3 18] [xH 4 20] .done)) (w7 [qZ 4 xP,yQ 17,yQ 19] [w5 20 bZ 19] (w7 [qZ 3 [.nilp]] [xH 3 18] (wx [xH 4 20] .done)))) (w7 [qZ 4 xP,yQ 17,yQ 19] [w5 18 dk 17,yQ 19] (w7 [w5 20 bZ 19] [qZ 3 [.nilp]] (w7 [xH 3 18] [xH 4 20] .done))))))) (wZ [qr 21 3,wH 22 21,qy 23 4 22,qr 24 23,qA 25 cK (xt 24 xf)] 25 [xU] (qB [qr 26 4,wd 27 26,wL 28] (x8 0 [ww 29 28 27] 29 0 1 (q9 [qg 30 28,xz 31 26 28,qr 32 31,qg 5 30,yV 32] [yB 33,wd 34 33,qH 35 .gtr 34 1,qg 36 35,xA 37 36 5,yd 38 36 0 1,xQ 39 36 38,qX 40 36 (qm .lss 37 (.t 39)),xA 41 36 40,xa 42 41 6,qW 43 41 (qY 42),yz 44 41 .gtr 43 xr,qX 45 36 (ws 41 (.t 44) xf),yy 46 36 45] (wh 46 [xU])) 47 28 28 47) (xn [qb 48 (yp aV (ze 1 4 3)),qZ 7 [.nilf],xH 7 48] [xd 49 1,qr 50 49,wd 51 50,wL 52] (x8 2 [ww 53 52 51] 53 2 3 (q9 [qg 54 52,yC 55 50 52,qL 56 5 55,qZ 8 yU,qZ 9 [.nils,.nils,qI,qI,.nils],xH 8 54,wa 5 9 56] [xR 57 1,qr 58 8,xv 59 bg 57 58,qg 10 59] (qB [w8 60 9,qr 61 60,wd 62 61,wL 63] (x8 4 [ww 64 63 62] 64 4 5 (q9 [qK 65 2 61 63,qL 66 2 65,qZ 12 [qI,.nils],wa 2 12 66] [xL 67 12,qr 68 67,wd 69 68,wL 70] (x8 6 [ww 71 70 69] 71 6 7 (q9 [qg 72 70,xz 73 68 70,qr 74 73,qg 13 72,qg 14 74] [qg 76 14,yG 77,qg 78 13,xz 79 77 78,xd 81 1,yG 83,qg 84 13,xz 85 83 84,qr 75 7,qr 80 79,qr 82 81,qr 86 85,yC 87 82 86,xL 88 87,qr 89 88,wd 90 89,qb 91 (xC 75 (ze 76 80 90)),w9 92 91] (wh 92 [xU])) 93 70 70 93)) 94 63 63 94) (qB [xL 95 9,qr 96 95,wd 97 96,wL 98] (x8 8 [ww 99 98 97] 99 8 9 (q9 [qg 100 98,qK 101 4 96 98,qL 102 4 101,qZ 15 yU,qZ 16 [qI,qI,.nils,qI],xH 15 100,wa 4 16 102] [xd 103 16,qr 104 103,qb 105 (yp cu (ze 7 8 15)),xv 106 aF 104 105] (wh 106 [xU])) 107 98 98 107) (x9 [xd 108 9,qr 109 108,w5 110 eA 109,qg 111 110,wP 112 111 7,xE 113 111 3 9,wP 114 111 113,wP 115 111 8,xE 116 111 1 9,wP 117 111 116,qW 118 111 (qY 117),qW 119 111 (xC 112 (ze 114 115 118)),qW 120 111 (wB 119),yY 121 111 120] 121 [xU])))) 122 52 52 122) [y9 2]))))
def fY:FK:=⟨123,yS,(AK.whole fX)⟩
theorem tB:af Tryz.prog fR=some fY:=by kernel_rfl
def kW:FK:=⟨6,yS,xy (yH 1 3 xU) [xR 3 1,w5 4 fR 3,w9 5 4,wR 2]⟩
theorem uG:af Tryz.prog fz=some kW:=by kernel_rfl
def oc:FK:=⟨11,yS,xy (yH 1 1 xU) [qL 3 1 1,w5 4 dJ 3,yc 5,xE 6 5 0 1,wP 7 5 6,qW 8 5 (.call bp (xt 7 (.c (.fn (.func fz) [])))),qW 9 5 (wB 8),yY 10 5 9,yG 2]⟩
theorem zN:af Tryz.prog iA=some oc:=by kernel_rfl
def fj:FK:=⟨22,yj,q9 [xm 4] [xm 5] (yv [wG 8,wd 9 8,wL 10] (x8 0 [ww 11 10 9] 11 0 1 (yf [qK 12 3 8 10,xR 13 12,qZ 7 [qI,qI,.nils],wa 3 7 13] [wR 14,wF 15,xR 16 7,qb 17 (yX 15 16),wz 18 3 [qI,qI,.nils] 1 [wX 0 3 17],xe 19 3 40 14 18,qg 5 19]) 20 10 10 20) (wR 21) 4 21)⟩
theorem mE:af Tryz.prog cB=some fj:=by kernel_rfl
def mc:FK:=⟨15,[.c 4 (some 1),.t 5],xn [yb 2 1,qZ 4 xP,wI 5] [wF 6,w9 7 6,yt 8,qX 9 8 (qk (some 1) 2),ym 10 8 dJ (w4 9),qX 11 8 (wB 10),yy 12 8 11] (wh 12 [xh 13 xP [],xH 4 13,wI 5]) [qL 14 1 2,xH 4 14,y9 5]⟩
theorem vc:af Tryz.prog gI=some mc:=by kernel_rfl
def lm:FK:=⟨51,[w6,.t 5],q9 [qP 4 (qh .u64 0),qP 5 (qh .u64 0)] (xi (wG 14) (qw 15 .and 14 (.c (qh .u64 4294967295))) 6 15) (q9 (xi (wG 16) (qw 17 .shr 16 (.c (qh .u64 32))) 7 17) (xi (wF 18) (qw 19 .and 18 (.c (qh .u64 4294967295))) 8 19) (q9 (xi (wF 20) (qw 21 .shr 20 (.c (qh .u64 32))) 9 21) [yB 22,ye 23,qT 24 .mul 22 23,qg 10 24] (q9 [yt 25,ye 26,qT 27 .mul 25 26,yG 28,qw 29 .shr 28 (.c (qh .u64 32)),qT 30 .add 27 29,qg 11 30] (xi (qg 31 11) (qw 32 .and 31 (.c (qh .u64 4294967295))) 12 32) (q9 (xi (qg 33 11) (qw 34 .shr 33 (.c (qh .u64 32))) 13 34) [qg 35 12,yB 36,qg 37 9,qT 38 .mul 36 37,qT 39 .add 35 38,qg 12 39] (xy [yt 40,qg 41 9,qT 42 .mul 40 41,qg 43 13,qT 44 .add 42 43,qg 45 12,qw 46 .shr 45 (.c (qh .u64 32)),qT 47 .add 44 46,qg 4 47] [wG 48,wF 49,qT 50 .mul 48 49,qg 5 50])))))⟩
theorem ty:af Tryz.prog fU=some lm:=by kernel_rfl
def ox:FK:=⟨30,[w6,.t 5],wV [qP 4 (qh .u64 0),qP 5 (qh .u64 0)] (.cond xf (xy [wG 11,qb 12 (.conv .u32 (.t 11)),wF 13,qb 14 (.conv .u32 (.t 13)),xv 15 uo 12 14,qg 10 15,ya 16 0 10,ya 17 1 10,yV 16,qg 7 17] [yB 18,qb 19 (.conv .u64 (.t 18)),yt 20,qb 21 (.conv .u64 (.t 20)),qg 4 19,qg 5 21]) .skip) (xy [wG 23,wF 24,xv 25 fU 23 24,qg 22 25,ya 26 0 22,ya 27 1 22,qg 8 26,qg 9 27] [ye 28,qg 29 9,qg 4 28,qg 5 29])⟩
theorem zo:af Tryz.prog iF=some ox:=by kernel_rfl
def jf:FK:=⟨48,yj,qf [xm 4] (qB [wF 9,yr 10 9 0] (yD 10 [qb 11 .bad,qz .bad]) (qf [wG 13,wd 14 13,qb 15 (.conv .u64 (.t 14)),wF 16,qb 17 (.conv .u64 (.t 16)),xv 18 iF 15 17,qg 12 18,ya 19 0 12,ya 20 1 12,qg 5 19,yV 20] (qB [wR 21,qw 22 .gtr 21 (.c (qh .u64 0)),qg 23 22,xA 24 23 6,qX 25 23 (qm .gtr 24 (.c (qh .u64 9223372036854775807))),yy 26 23 25] (yD 26 [qb 27 .bad,qz .bad]) (q9 [yB 28,qb 29 (.conv .i64 (.t 28)),yR 30 1 8 yU 29 29,qg 7 30] [yt 31,wG 32,qb 33 (.copy 1 (.t 31) (.t 32)),qg 8 33] (.seq (wM 0 [ye 34,yt 35,wd 36 35,ww 37 34 36] 37 0 (.blk 1 (.reg [ye 38,yt 39,ye 40,qb 41 (.slS 1 (.t 39) (some (.t 40)) none),yt 42,ye 43,qb 44 (.slS 1 (.t 42) none (some (.t 43))),qb 45 (.copy 1 (.t 41) (.t 44)),qT 46 .add 38 45,qg 8 46]))) (qC (wU (yt 47) 4 47)))))))⟩
theorem rI:af Tryz.prog aR=some jf:=by kernel_rfl
def mr:FK:=⟨55,[.t 8],
 .seq (.reg [⟨(some 7),none,.box 2 (.t 3)⟩,
  ⟨(some 8),none,.mov (.c (.p (.int .i64 0)))⟩])
 (.seq (.reg [⟨(some 9),none,.mov (.c (.p (.int .i64 (-2))))⟩])
 (.seq (.seq (.reg [⟨(some 13),none,.fldA 1 (.t 7)⟩,
   ⟨(some 14),none,.ld none (.t 13)⟩,
   ⟨(some 15),none,.len false (.t 14)⟩,
   ⟨(some 16),none,.mov (.c (.p (.int .i64 0)))⟩])
 (.blk 0 (.loop (.seq (.reg [⟨(some 17),none,.bin .lss (.t 16) (.t 15)⟩])
 (.seq (.cond (.t 17)
  (.skip)
  (.exit 0))
 (.seq (.blk 1 (.seq (.reg [⟨(some 18),none,.mov (.t 16)⟩,
   ⟨(some 19),none,.idxS 1 (.t 14) (.t 16)⟩,
   ⟨(some 20),none,.ld none (.t 19)⟩,
   ⟨(some 10),none,.mov (.t 18)⟩,
   ⟨(some 11),none,.mov (.t 20)⟩])
 (.seq (.reg [⟨(some 21),none,.mov (.t 0)⟩,
   ⟨(some 22),none,.nilck (.t 21)⟩,
   ⟨(some 23),none,.fldA 3 (.t 22)⟩,
   ⟨(some 24),none,.ld none (.t 23)⟩,
   ⟨(some 25),none,.mov (.t 11)⟩,
   ⟨(some 26),none,.idxS 1 (.t 24) (.t 25)⟩,
   ⟨(some 27),none,.ld none (.t 26)⟩,
   ⟨(some 12),none,.mov (.t 27)⟩])
 (.blk 2 (.seq (.reg [⟨(some 29),none,.mov (.t 0)⟩,
   ⟨(some 30),none,.nilck (.t 29)⟩,
   ⟨(some 31),none,.fldA 5 (.t 30)⟩,
   ⟨(some 33),none,.mov (.t 2)⟩,
   ⟨(some 34),none,.mov (.t 10)⟩,
   ⟨(some 35),none,.idxS 1 (.t 33) (.t 34)⟩,
   ⟨(some 37),none,.mov (.t 1)⟩,
   ⟨(some 32),none,.ld none (.t 31)⟩,
   ⟨(some 36),none,.ld none (.t 35)⟩,
   ⟨(some 38),none,.bld [(.p (.int .i64 0)),(.p (.int .i64 0))] [(0,1,(.t 36)),(1,1,(.t 37))]⟩,
   ⟨(some 39),none,.lk2 (.p (.bool false)) false (.t 32) (.t 38)⟩,
   ⟨(some 40),none,.not (.t 39)⟩,
   ⟨(some 41),none,.mov (.t 40)⟩,
   ⟨(some 42),(some (41,false)),.mov (.t 12)⟩,
   ⟨(some 43),(some (41,false)),.bin .eql (.t 42) (.c (.p (.int .i64 (-2))))⟩,
   ⟨(some 44),none,.pick (.t 41) (.c (.p (.bool true))) (.t 43)⟩,
   ⟨(some 28),none,.mov (.t 44)⟩])
 (.cond (.t 28)
  (.skip)
  (.seq (.reg [⟨(some 46),none,.mov (.t 9)⟩,
    ⟨(some 47),none,.bin .eql (.t 46) (.c (.p (.int .i64 (-2))))⟩,
    ⟨(some 45),none,.mov (.t 47)⟩])
  (.cond (.t 45)
   (.reg [⟨(some 48),none,.mov (.t 12)⟩,
     ⟨(some 9),none,.mov (.t 48)⟩])
   (.seq (.reg [⟨(some 50),none,.mov (.t 9)⟩,
     ⟨(some 51),none,.mov (.t 12)⟩,
     ⟨(some 52),none,.bin .neq (.t 50) (.t 51)⟩,
     ⟨(some 49),none,.mov (.t 52)⟩])
   (.cond (.t 49)
    (.reg [⟨(some 9),none,.mov (.c (.p (.int .i64 (-1))))⟩])
    (.skip)))))))))))
 (.reg [⟨(some 53),none,.bin .add (.t 16) (.c (.p (.int .i64 1)))⟩,
   ⟨(some 16),none,.mov (.t 53)⟩])))))))
 (.seq (.reg [⟨(some 54),none,.mov (.t 9)⟩,
   ⟨(some 8),none,.mov (.t 54)⟩])
 (.ret))))⟩
theorem uJ:af Tryz.prog gH=some mr:=by kernel_rfl
def jj:FK:=⟨25,[.t 6],q9 [wI 6] [wG 8,wH 9 8,qy 10 3 9,qr 11 10,wF 12,xz 13 11 12,qr 14 13,qg 7 14] (xy [wG 15,wH 16 15,qy 17 3 16,qr 18 17,wF 19,yW 20,xz 21 18 19,xH 21 20] [yt 22,yW 23,yh 24 22 23,yV 24])⟩
theorem rJ:af Tryz.prog cw=some jj:=by kernel_rfl
def kX:FK:=⟨22,yj,q9 [xm 4] [xm 5] (yv [wG 8,wd 9 8,wL 10] (x8 0 [ww 11 10 9] 11 0 1 (yf (xi (xz 12 8 10) (qr 13 12) 7 13) [wR 14,wF 15,yt 16,qb 17 (yX 15 16),wz 18 1 yU 1 [xg 0 17],xe 19 1 8 14 18,qg 5 19]) 20 10 10 20) (wR 21) 4 21)⟩
theorem ua:af Tryz.prog dt=some kX:=by kernel_rfl
def oW:FK:=⟨4,yS,xn (xp 2) [wG 3] (wh 3 [qJ 2 1]) (xp 2)⟩
theorem Ct:af Tryz.prog kH=some oW:=by kernel_rfl
def nC:FK:=⟨70,[.t 6,.t 7],q9 [wL 6,wI 7] [qP 8 (.fn (.func kH) [])] (wC [wG 9] (.blk 0 (yk (yE 11 9 3 10 11) 10 [wF 12,yW 13,qT 14 .add 12 13,qH 15 .rem 14 256,yV 15,y9 7] (yk (yE 17 9 4 16 17) 16 [wF 18,yW 19,qT 20 .sub 18 19,wt 21 20 256,qH 22 .rem 21 256,yV 22,y9 7] (yk (yE 24 9 5 23 24) 23 [wF 25,yW 26,qT 27 .mul 25 26,qH 28 .rem 27 256,yV 28,y9 7] (qB (yE 30 9 6 29 30) (qq 29 .skip (.reg (yE 31 9 7 29 31))) (qq 29 (wZ [yW 32,wS 33 32 0] 33 [wL 6,wI 7] (wC [wG 34,wS 35 34 6] (wh 35 [wF 36,yW 37,qT 38 .quo 36 37,yV 38,y9 7]) [wF 39,yW 40,qT 41 .rem 39 40,yV 41,y9 7])) (yk (yE 43 9 8 42 43) 42 [ye 44,wF 45,yW 46,ww 47 45 46,qb 48 (yX 44 47),yV 48,y9 7] (yk (yE 50 9 9 49 50) 49 [ye 51,wF 52,yW 53,qT 54 .eql 52 53,qb 55 (yX 51 54),yV 55,y9 7] (x9 (yE 57 9 10 56 57) 56 [ye 58,wF 59,qH 60 .neq 59 0,qg 61 60,xa 62 61 2,yz 63 61 .neq 62 xr,yY 64 61 63,qb 65 (yX 58 64),yV 65,y9 7]))))))))) [ye 66,wF 67,wS 68 67 0,qb 69 (yX 66 68),yV 69,y9 7])⟩
theorem tO:af Tryz.prog fv=some nC:=by kernel_rfl
def nj:FK:=⟨48,[.t 6,.t 7],yw [wL 6,wL 7] [wF 12,w5 13 ef 12,w9 14 13,qg 15 14,xA 16 15 2,ym 17 15 ef (w4 16),qX 18 15 (wB 17),yy 19 15 18] 19 [xV 6,xV 7] (qQ 0 (qB (xi (wG 21) (wS 22 21 1) 20 22) (qq 20 .skip (.reg (xi (wG 23) (wS 24 23 2) 20 24))) (qq 20 (qC [wF 25,yV 25,wL 7]) (xF (xi (wG 27) (wS 28 27 10) 26 28) 26 (xy [wF 30,qA 31 fv [qp 11,.t 30,xr],qg 29 31,ya 32 0 29,ya 33 1 29,qg 8 32,qg 9 33] [ye 34,yV 34,wL 7]) (qf (xi (wG 36) (yg 37 (zb 36 (qp 3) (qp 9))) 35 37) (qR 35 (xn [wG 39,wF 40,yW 41,qA 42 fv (ze 39 40 41),qg 38 42,ya 43 0 38,ya 44 1 38,qg 10 43,qg 11 44] [qg 45 11,w9 46 45] (wh 46 [wL 6,qJ 7 1]) [yG 47,yV 47,wL 7])))))) (qC [xV 6,xV 7]))⟩
theorem Eu:af Tryz.prog jy=some nj:=by kernel_rfl
def kr:FK:=⟨11,[.t 3],xy (xp 3) [qr 4 1,wH 5 4,qy 6 3 5,qr 7 6,wG 8,xz 9 7 8,qr 10 9,yG 3]⟩
theorem sY:af Tryz.prog cU=some kr:=by kernel_rfl
def bK:FK:=⟨63,yj,qf [yb 2 1,wD 3 4 1,wL 4] (qQ 0 (yk [w8 9 3,qr 10 9,wS 11 10 1,qg 8 11] 8 (xi (qy 12 3 3) (qr 13 12) 4 13) (yk [w8 15 3,qr 16 15,wS 17 16 2,qg 14 17] 14 [xd 22 3,qr 18 2,wH 19 18,qy 20 3 19,qr 21 20,qr 23 22,qb 24 (qv 1 23 xr),qr 25 24,xz 26 21 25,qr 27 26,qg 4 27] (qB [w8 29 3,qr 30 29,wS 31 30 11,qg 28 31] (qq 28 .skip (.reg [w8 32 3,qr 33 32,wS 34 33 14,qg 28 34])) (wh 28 yP)))) (qf [xd 35 3,qr 36 35,qb 37 (yp cU (w4 2)),xv 38 dt 36 37,qg 5 38] (qQ 1 (yk (xi (wR 40) (qA 41 bq (xt 40 (qp (-1)))) 39 41) 39 yP (x9 (xi (wR 43) (qA 44 bq (xt 43 (qp (-2)))) 42 44) 42 [qJ 4 (-2)])) (xn [w8 46 3,wR 48,qb 49 (qv 1 48 xr),wR 51,wR 52,wd 53 52,qH 54 .sub 53 1,xz 55 51 54,qr 47 46,qr 50 49,qr 56 55,qA 57 jy (ze 47 50 56),qg 45 57,ya 58 0 45,ya 59 1 45,yV 58,qg 7 59] [yt 60,qH 61 .neq 60 0] (wh 61 yP) (wU (yB 62) 4 62)))))⟩
theorem uQ:af Tryz.prog gC=some bK:=by kernel_rfl
def gy:FK:=⟨28,[.t 6],
 .seq (.reg [⟨(some 6),none,.mov (.c (.p (.bool false)))⟩])
 (.seq (.seq (.reg [⟨(some 7),none,.mov (.t 0)⟩,
   ⟨(some 8),none,.nilck (.t 7)⟩,
   ⟨(some 9),none,.fldA 5 (.t 8)⟩,
   ⟨(some 10),none,.ld none (.t 9)⟩,
   ⟨(some 11),none,.mov (.t 1)⟩,
   ⟨(some 12),none,.mov (.t 2)⟩,
   ⟨(some 13),none,.bld [(.p (.int .i64 0)),(.p (.int .i64 0))] [(0,1,(.t 11)),(1,1,(.t 12))]⟩,
   ⟨(some 14),none,.lk2 (.p (.bool false)) false (.t 10) (.t 13)⟩])
 (.cond (.t 14)
  (.seq (.reg [⟨(some 6),none,.mov (.c (.p (.bool false)))⟩])
  (.ret))
  (.skip)))
 (.seq (.reg [⟨(some 15),none,.mov (.t 0)⟩,
   ⟨(some 16),none,.nilck (.t 15)⟩,
   ⟨(some 17),none,.fldA 5 (.t 16)⟩,
   ⟨(some 18),none,.ld none (.t 17)⟩,
   ⟨(some 19),none,.mov (.t 1)⟩,
   ⟨(some 20),none,.mov (.t 2)⟩,
   ⟨(some 21),none,.bld [(.p (.int .i64 0)),(.p (.int .i64 0))] [(0,1,(.t 19)),(1,1,(.t 20))]⟩,
   ⟨none,none,.mup2 (.t 18) (.t 21) (.c (.p (.bool true)))⟩])
 (.seq (.reg [⟨(some 22),none,.mov (.t 0)⟩,
   ⟨(some 23),none,.nilck (.t 22)⟩,
   ⟨(some 24),none,.fldA 4 (.t 23)⟩,
   ⟨(some 25),none,.ld none (.t 24)⟩,
   ⟨(some 26),none,.mov (.t 2)⟩,
   ⟨(some 27),none,.idxS 1 (.t 25) (.t 26)⟩,
   ⟨none,none,.st 1 (.t 27) (.c (.p (.bool true)))⟩])
 (.seq (.reg [⟨(some 6),none,.mov (.c (.p (.bool true)))⟩])
 (.ret)))))⟩
theorem vg:af Tryz.prog cy=some gy:=by kernel_rfl
def ku:FK:=⟨158,yS,q9 [xU] [wI 3] (yv [yu,wH 13 12,w8 14 13,xd 15 14,qr 16 15,wd 17 16,wL 18] (x8 0 [ww 19 18 17] 19 0 1 (qf [qg 20 18,yC 21 16 18,qL 22 5 21,qZ 5 [.nils,.nils,qI,qI,.nils],qg 4 20,wa 5 5 22] (qB [wG 23,wH 24 23,qy 25 4 24,qr 26 25,yc 27,xz 28 26 27,qr 29 28,w9 30 29] (qR 30 (.exit 1)) (qf [wG 31,wH 32 31,w8 33 32,xR 34 33,yc 35,xv 36 bg 34 35,yV 36] (qB [w8 37 5,qr 38 37,wd 39 38,wL 40] (x8 2 [ww 41 40 39] 41 2 3 (yf [qK 42 2 38 40,qL 43 2 42,qZ 8 [qI,.nils],wa 2 8 43] [wG 44,w8 45 8,wG 47,yc 48,yB 49,qr 46 45,qL 50 2 8,qA 51 gH [.t 47,.t 48,.t 49,.t 50],wc 45 46,qA 52 cw (ze 44 46 51),qg 53 52,xA 54 53 3,yy 55 53 54,qg 3 55]) 56 40 40 56) (qB [xL 57 5,qr 58 57,wd 59 58,wL 60] (x8 4 [ww 61 60 59] 61 4 5 (q9 [qK 62 4 58 60,qL 63 4 62,qZ 10 [qI,qI,.nils,qI],wa 4 10 63] (xi (qL 64 4 10) (w5 65 ep 64) 11 65) (qf [qg 66 11,qH 67 .geq 66 0] (yD 67 [wG 68,qg 69 11,wG 70,qL 71 4 10,xv 72 gC 70 71,qA 73 cw (ze 68 69 72),qg 74 73,xA 75 74 3,yy 76 74 75,qg 3 76]))) 77 60 60 77) (.blk 6 (xF [xd 79 5,qr 80 79,wS 81 80 1,qg 78 81] 78 (.reg [wG 82,yc 83,qy 84 4 5,qr 85 84,qb 86 (qv 1 85 xr),qr 87 86,qA 88 cy (ze 82 83 87),qg 89 88,xA 90 89 3,yy 91 89 90,qg 3 91]) (qf [xd 93 5,qr 94 93,wS 95 94 2,qg 96 95,xa 97 96 0,qW 98 96 (wb 97),xE 99 96 3 98,xE 101 96 3 5,wP 100 96 99,wP 102 96 101,za 103 96 1 100 102,wP 104 96 103,yz 105 96 .neq 104 (qp (-2)),yY 106 96 105,qg 92 106] (qR 92 (qB [wG 107,wH 108 107,qy 109 3 108,qy 111 3 5,qr 110 109,qr 112 111,xz 113 110 112,qr 114 113,qH 115 .neq 114 0] (yD 115 [wG 116,yc 117,qy 118 4 5,qr 119 118,qb 120 (qv 1 119 xr),qr 121 120,qA 122 cy (ze 116 117 121),qg 123 122,xA 124 123 3,yy 125 123 124,qg 3 125]) (qf [wG 126,wH 127 126,qy 128 3 127,qy 130 3 5,qr 129 128,qr 131 130,xz 132 129 131,qr 133 132,wS 134 133 0,qg 135 134,xA 136 135 0,qX 137 135 (wb 136),yd 138 135 3 137,yd 140 135 3 5,xQ 139 135 138,xQ 141 135 140,qX 142 135 (qG 1 139 141),xQ 143 135 142,qX 144 135 (qm .eql 143 (qp (-1))),yy 145 135 144] (yD 145 [wG 146,yc 147,qy 148 4 5,qr 149 148,qb 150 (qv 1 149 yJ),qr 151 150,qA 152 cy (ze 146 147 151),qg 153 152,xA 154 153 3,yy 155 153 154,qg 3 155])))))))))))) 156 18 18 156) (xI 157) 2 157)⟩
theorem tm:af Tryz.prog eV=some ku:=by kernel_rfl
def jR:AK:=qf (yH 1 3 (qP 2 .nilp)) (.cut (.ot (wW [] [qb 6 (.bslP 1 yU 1 [(0,1,qp (-2))])] (wW [xL 7 1] [xd 10 1] (wW [xR 5 1] [qr 8 7] (wW [qr 11 10] [wd 12 11] (qM [xv 9 aR 6 8,yQ 5,wc 10 11] (qM [yR 13 1 1 [qD] 12 12,yQ 5,wc 7 8] (wx [qb 14 .mkm,yQ 5,wc 7 8,wc 10 11] (yn (xh 15 [qI,qI,.nils,.nils,.nils,.nilm] [wX 0 3 5,xg 3 9,xg 4 13,xg 5 14]) (wx [wD 16 6 15] (yn (qg 3 16) .done)))) (w7 [qb 14 .mkm,yQ 5,wc 7 8,wc 10 11] [yR 13 1 1 [qD] 12 12,yQ 5,wc 7 8] (yn (xh 15 [qI,qI,.nils,.nils,.nils,.nilm] [wX 0 3 5,xg 3 9,xg 4 13,xg 5 14]) (wx [wD 16 6 15] (yn (qg 3 16) .done))))) (qM [yR 13 1 1 [qD] 12 12,yQ 5,wc 7 8] (qM [xv 9 aR 6 8,yQ 5,wc 10 11] (wx [qb 14 .mkm,yQ 5,wc 7 8,wc 10 11] (yn (xh 15 [qI,qI,.nils,.nils,.nils,.nilm] [wX 0 3 5,xg 3 9,xg 4 13,xg 5 14]) (wx [wD 16 6 15] (yn (qg 3 16) .done)))) (w7 [qb 14 .mkm,yQ 5,wc 7 8,wc 10 11] [xv 9 aR 6 8,yQ 5,wc 10 11] (yn (xh 15 [qI,qI,.nils,.nils,.nils,.nilm] [wX 0 3 5,xg 3 9,xg 4 13,xg 5 14]) (wx [wD 16 6 15] (yn (qg 3 16) .done))))) (wx [qb 14 .mkm,yQ 5,wc 7 8,wc 10 11] (qM [xv 9 aR 6 8,yQ 5,wc 10 11] (wx [yR 13 1 1 [qD] 12 12,yQ 5,wc 7 8] (yn (xh 15 [qI,qI,.nils,.nils,.nils,.nilm] [wX 0 3 5,xg 3 9,xg 4 13,xg 5 14]) (wx [wD 16 6 15] (yn (qg 3 16) .done)))) (w7 [yR 13 1 1 [qD] 12 12,yQ 5,wc 7 8] [xv 9 aR 6 8,yQ 5,wc 10 11] (yn (xh 15 [qI,qI,.nils,.nils,.nils,.nilm] [wX 0 3 5,xg 3 9,xg 4 13,xg 5 14]) (wx [wD 16 6 15] (yn (qg 3 16) .done))))))))))))) (qB [w8 17 1,qr 18 17,wL 19] (x8 0 [ww 20 19 18] 20 0 1 (yf (wU (qg 21 19) 4 21) [xI 22,wH 23 22,qy 24 3 23,qr 25 24,yc 26,xz 27 25 26,qS 1 27 (qp (-1))]) 28 19 19 28) (wV [xI 29,wH 30 29,qy 31 4 30,qr 32 31,qb 33 (qv 1 32 xr),qS 1 33 wY] (wM 2 [xI 34,w5 35 eV 34] 35 2 (.blk 3 .skip)) (qC (wU (xI 36) 2 36)))))
def kj:FK:=⟨37,yS,(AK.whole jR)⟩
theorem BZ:af Tryz.prog fG=some kj:=by kernel_rfl
def rX:FK:=⟨63,yS,yI 1 3 (xm 2) [xd 12 1,qr 13 12,wd 14 13,yR 15 1 24 xP 14 14,qg 3 15] (yv [xd 16 1,qr 17 16,wd 18 17,wL 19] (x8 0 [ww 20 19 18] 20 0 1 (q9 [qg 21 19,yC 22 17 19,qL 23 5 22,qZ 5 [.nils,.nils,qI,qI,.nils],qg 4 21,wa 5 5 23] [xR 24 1,yc 25,xv 26 bg 24 25,yV 26] (qf [w8 27 5,qr 28 27,wd 29 28,wL 30] (x8 2 [ww 31 30 29] 31 2 3 (q9 [qK 32 2 28 30,qL 33 2 32,qZ 8 [qI,.nils],wa 2 8 33] (wU (qb 34 .mkm) 9 34) (qB [yB 35,wd 36 35,wL 37] (x8 4 [ww 38 37 36] 38 4 5 (yf [qg 39 37,xz 40 35 37,qr 41 40,qg 10 39,qg 11 41] [qg 42 9,qg 43 11,xL 44 8,qr 45 44,yG 46,xz 47 45 46,qr 48 47,qz (.mup 0 (.t 42) (.t 43) (.t 48))]) 49 37 37 49) (.reg [xI 50,yc 51,xI 52,yc 53,xz 54 52 53,qr 55 54,qg 56 9,wz 57 1 [.nilm] 1 [xg 0 56],xe 58 1 8 55 57,xz 59 50 51,xH 59 58]))) 60 30 30 60))) 61 19 19 61) (xI 62) 2 62)⟩
theorem CX:af Tryz.prog cn=some rX:=by kernel_rfl
def eC:FK:=⟨22,yj,q9 [xm 4] [xm 5] (yv [wG 8,wd 9 8,wL 10] (x8 0 [ww 11 10 9] 11 0 1 (yf [yC 12 8 10,qL 13 5 12,qZ 7 [.nils,.nils,qI,qI,.nils],wa 5 7 13] [wR 14,wF 15,qL 16 5 7,qb 17 (yX 15 16),wz 18 5 [.nils,.nils,qI,qI,.nils] 1 [wX 0 5 17],xe 19 5 88 14 18,qg 5 19]) 20 10 10 20) (wR 21) 4 21)⟩
theorem lB:af Tryz.prog ch=some eC:=by kernel_rfl
def fB:FK:=⟨22,yj,q9 [xm 4] [xm 5] (yv [wG 8,wd 9 8,wL 10] (x8 0 [ww 11 10 9] 11 0 1 (yf [qK 12 2 8 10,qL 13 2 12,qZ 7 [qI,.nils],wa 2 7 13] [wR 14,wF 15,qL 16 2 7,qb 17 (yX 15 16),wz 18 2 [qI,.nils] 1 [wX 0 2 17],xe 19 2 32 14 18,qg 5 19]) 20 10 10 20) (wR 21) 4 21)⟩
theorem nL:af Tryz.prog cR=some fB:=by kernel_rfl
def fN:FK:=⟨22,yj,q9 [xm 4] [xm 5] (yv [wG 8,wd 9 8,wL 10] (x8 0 [ww 11 10 9] 11 0 1 (yf [qK 12 4 8 10,qL 13 4 12,qZ 7 [qI,qI,.nils,qI],wa 4 7 13] [wR 14,wF 15,qL 16 4 7,qb 17 (yX 15 16),wz 18 4 [qI,qI,.nils,qI] 1 [wX 0 4 17],xe 19 4 48 14 18,qg 5 19]) 20 10 10 20) (wR 21) 4 21)⟩
theorem mX:af Tryz.prog cT=some fN:=by kernel_rfl
def eT:FK:=⟨8,yS,xn [xm 2] [wG 3,qb 4 (.snil false (.t 3))] (wh 4 [xm 2]) [yF 5 1 yU 0,wG 6,xe 7 1 8 5 6,yt 2]⟩
theorem jM:af Tryz.prog aP=some eT:=by kernel_rfl
def nS:FK:=⟨9,[.c 2 (some 2)],xy (yH 1 2 (qZ 2 [qI,.nils])) [w8 3 1,xL 5 1,qr 4 3,qr 6 5,w5 7 aP 6,wc 3 4,xh 8 [qI,.nils] [xg 0 4,xg 1 7],wa 2 2 8]⟩
theorem zp:af Tryz.prog eN=some nS:=by kernel_rfl
def od:FK:=⟨8,[.c 2 (some 4)],yI 1 4 (qZ 2 [qI,qI,.nils,qI]) [xd 3 1,qr 4 3,w5 5 aP 4,xd 6 1,xH 6 5] (qC [qL 7 4 1,wa 4 2 7])⟩
theorem zY:af Tryz.prog eE=some od:=by kernel_rfl
def kY:FK:=⟨16,[.c 2 (some 5)],yI 1 5 (qZ 2 [.nils,.nils,qI,qI,.nils]) [w8 3 1,qr 4 3,qA 5 cR (xt 4 (.c (.fn (.func eN) []))),w8 6 1,xH 6 5] (q9 [xL 7 1,qr 8 7,qA 9 cT (xt 8 (.c (.fn (.func eE) []))),xL 10 1,xH 10 9] [qy 11 4 1,qr 12 11,w5 13 aP 12,qy 14 4 1,xH 14 13] (qC [qL 15 5 1,wa 5 2 15]))⟩
theorem tI:af Tryz.prog bB=some kY:=by kernel_rfl
def mJ:FK:=⟨8,[.c 2 wJ],yI 1 3 (qZ 2 [qI,qI,.nils]) [xd 3 1,qr 4 3,qA 5 ch (xt 4 (.c (.fn (.func bB) []))),xd 6 1,xH 6 5] (qC [xR 7 1,wa 3 2 7])⟩
theorem ve:af Tryz.prog bJ=some mJ:=by kernel_rfl
def iR:FK:=⟨7,[.t 3],xy (xp 3) [qr 4 1,wG 5,qb 6 (.lk 0 qI false (.t 4) (.t 5)),yB 3]⟩
theorem zw:af Tryz.prog eH=some iR:=by kernel_rfl
def rR:FK:=⟨47,[],qf [wG 8,wH 9 8,xd 10 9,qr 11 10,wd 12 11,wL 13] (x8 0 [ww 14 13 12] 14 0 1 (q9 (wU (qg 15 13) 4 15) [wG 16,wH 17 16,xR 18 17,yc 19,xv 20 bg 18 19,qg 5 20] (qf [wF 21,yc 22,xz 23 21 22,qr 24 23,wd 25 24,wL 26] (x8 2 [ww 27 26 25] 27 2 3 (yf [qg 28 26,xz 29 24 26,qr 30 29,qZ 7 [.nilm],yV 28,xH 7 30] [wG 31,wH 32 31,xd 33 32,yc 35,yB 39,wR 40,qb 41 (yp eH (w4 7)),qr 34 33,yC 36 34 35,w8 37 36,qr 38 37,xv 42 dt 40 41,wc 33 34,wc 37 38,qK 43 2 38 39,xL 44 43,xH 44 42]) 45 26 26 45))) 46 13 13 46)⟩
theorem CW:af Tryz.prog eh=some rR:=by kernel_rfl
def nZ:FK:=⟨35,[],qf [qr 8 1,wG 9,xz 10 8 9,qS 1 10 wY] (qB [xd 11 2,qr 12 11,wG 13,yC 14 12 13,qy 15 4 14,qr 16 15,wd 17 16,wL 18] (x8 0 [ww 19 18 17] 19 0 1 (q9 (xi (xz 20 16 18) (qr 21 20) 7 21) [qr 22 1,yt 23,xz 24 22 23,qr 25 24,w9 26 25] (yD 26 [qr 27 3,yt 28,qb 29 (yX 27 28)])) 30 18 18 30) (.reg [qr 31 4,wG 32,wz 33 1 yU 1 [xg 0 32],xe 34 1 8 31 33,xH 4 34]))⟩
theorem zy:af Tryz.prog cV=some nZ:=by kernel_rfl
def sv:FK:=⟨14,yS,yI 1 3 (xm 2) [qZ 3 xP] (q9 [xd 6 1,qr 7 6,wd 8 7,yR 9 1 1 [qD] 8 8,qZ 4 xP,xH 4 9] [qZ 5 [.nilf]] (q9 [qb 10 (yp cV [.t 4,.t 1,.t 5,.t 3]),xH 5 10] [qr 11 5,qb 12 (xC 11 [xr])] (qC (wU (qr 13 3) 2 13))))⟩
theorem Dk:af Tryz.prog lY=some sv:=by kernel_rfl
def vT:FK:=⟨10,yS,q9 [xm 2] [wG 4,w5 5 aP 4,wR 3] (xy [xI 6,w5 7 tW 6] (xi (xI 8) (w5 9 pB 8) 2 9))⟩
theorem GJ:af Tryz.prog oV=some vT:=by kernel_rfl
def mu:FK:=⟨9,yS,xn (yH 1 3 (xm 2)) [xR 3 1,w5 4 dF 3,w9 5 4] (wh 5 [xm 2]) [xR 6 1,w5 7 lY 6,w5 8 oV 7,ye 2]⟩
theorem vv:af Tryz.prog gJ=some mu:=by kernel_rfl
def lF:FK:=⟨122,[.c 4 (some 3)],
 .seq (.reg [⟨(some 2),none,.box 3 (.t 0)⟩,
  ⟨(some 4),none,.alloc [(.p (.int .i64 0)),(.p (.int .i64 0)),.nils]⟩])
 (.seq (.reg [⟨(some 23),none,.mkm⟩,
   ⟨(some 5),none,.mov (.t 23)⟩])
 (.seq (.seq (.reg [⟨(some 24),none,.mov (.t 1)⟩,
   ⟨(some 25),none,.len false (.t 24)⟩,
   ⟨(some 26),none,.mov (.c (.p (.int .i64 0)))⟩])
 (.blk 0 (.loop (.seq (.reg [⟨(some 27),none,.bin .lss (.t 26) (.t 25)⟩])
 (.seq (.cond (.t 27)
  (.skip)
  (.exit 0))
 (.seq (.blk 1 (.seq (.reg [⟨(some 28),none,.mov (.t 26)⟩,
   ⟨(some 29),none,.idxS 1 (.t 24) (.t 26)⟩,
   ⟨(some 30),none,.ld none (.t 29)⟩,
   ⟨(some 6),none,.mov (.t 28)⟩,
   ⟨(some 7),none,.mov (.t 30)⟩])
 (.reg [⟨(some 31),none,.mov (.t 5)⟩,
   ⟨(some 32),none,.mov (.t 7)⟩,
   ⟨(some 33),none,.mov (.t 6)⟩,
   ⟨none,none,.mup 0 (.t 31) (.t 32) (.t 33)⟩])))
 (.reg [⟨(some 34),none,.bin .add (.t 26) (.c (.p (.int .i64 1)))⟩,
   ⟨(some 26),none,.mov (.t 34)⟩])))))))
 (.seq (.reg [⟨(some 35),none,.ld (some 3) (.t 2)⟩,
   ⟨(some 36),none,.call cn [(.t 35)]⟩,
   ⟨(some 8),none,.mov (.t 36)⟩])
 (.seq (.reg [⟨(some 37),none,.fldA 0 (.t 2)⟩,
   ⟨(some 38),none,.ld none (.t 37)⟩,
   ⟨(some 39),none,.fldA 1 (.t 2)⟩,
   ⟨(some 40),none,.ld none (.t 39)⟩,
   ⟨(some 41),none,.bld [(.p (.int .i64 0)),(.p (.int .i64 0)),.nils] [(0,1,(.t 38)),(1,1,(.t 40))]⟩,
   ⟨(some 9),none,.alloc [(.p (.int .i64 0)),(.p (.int .i64 0)),.nils]⟩,
   ⟨none,none,.st 3 (.t 9) (.t 41)⟩])
 (.seq (.reg [⟨(some 42),none,.mov (.t 1)⟩,
   ⟨(some 43),none,.len false (.t 42)⟩,
   ⟨(some 44),none,.mks 1 24 [.nils] (.t 43) (.t 43)⟩,
   ⟨(some 10),none,.mov (.t 44)⟩])
 (.seq (.seq (.reg [⟨(some 45),none,.mov (.t 1)⟩,
   ⟨(some 46),none,.len false (.t 45)⟩,
   ⟨(some 47),none,.mov (.c (.p (.int .i64 0)))⟩])
 (.blk 2 (.loop (.seq (.reg [⟨(some 48),none,.bin .lss (.t 47) (.t 46)⟩])
 (.seq (.cond (.t 48)
  (.skip)
  (.exit 2))
 (.seq (.blk 3 (.seq (.reg [⟨(some 49),none,.mov (.t 47)⟩,
   ⟨(some 50),none,.idxS 1 (.t 45) (.t 47)⟩,
   ⟨(some 51),none,.ld none (.t 50)⟩,
   ⟨(some 11),none,.mov (.t 49)⟩,
   ⟨(some 12),none,.mov (.t 51)⟩])
 (.seq (.reg [⟨(some 52),none,.fldA 2 (.t 2)⟩,
   ⟨(some 53),none,.ld none (.t 52)⟩,
   ⟨(some 54),none,.mov (.t 12)⟩,
   ⟨(some 55),none,.idxS 5 (.t 53) (.t 54)⟩,
   ⟨(some 56),none,.ld (some 5) (.t 55)⟩,
   ⟨(some 57),none,.call bB [(.t 56)]⟩,
   ⟨(some 13),none,.alloc [.nils,.nils,(.p (.int .i64 0)),(.p (.int .i64 0)),.nils]⟩,
   ⟨none,none,.st 5 (.t 13) (.t 57)⟩])
 (.seq (.seq (.reg [⟨(some 58),none,.fldA 4 (.t 13)⟩,
   ⟨(some 59),none,.ld none (.t 58)⟩,
   ⟨(some 60),none,.len false (.t 59)⟩,
   ⟨(some 61),none,.mov (.c (.p (.int .i64 0)))⟩])
 (.blk 4 (.loop (.seq (.reg [⟨(some 62),none,.bin .lss (.t 61) (.t 60)⟩])
 (.seq (.cond (.t 62)
  (.skip)
  (.exit 4))
 (.seq (.blk 5 (.seq (.reg [⟨(some 63),none,.mov (.t 61)⟩,
   ⟨(some 64),none,.idxS 1 (.t 59) (.t 61)⟩,
   ⟨(some 65),none,.ld none (.t 64)⟩,
   ⟨(some 14),none,.mov (.t 63)⟩,
   ⟨(some 15),none,.mov (.t 65)⟩])
 (.reg [⟨(some 66),none,.fldA 4 (.t 13)⟩,
   ⟨(some 67),none,.ld none (.t 66)⟩,
   ⟨(some 68),none,.mov (.t 14)⟩,
   ⟨(some 69),none,.mov (.t 5)⟩,
   ⟨(some 70),none,.mov (.t 15)⟩,
   ⟨(some 71),none,.lk 0 (.p (.int .i64 0)) false (.t 69) (.t 70)⟩,
   ⟨(some 72),none,.idxS 1 (.t 67) (.t 68)⟩,
   ⟨none,none,.st 1 (.t 72) (.t 71)⟩])))
 (.reg [⟨(some 73),none,.bin .add (.t 61) (.c (.p (.int .i64 1)))⟩,
   ⟨(some 61),none,.mov (.t 73)⟩])))))))
 (.seq (.seq (.reg [⟨(some 74),none,.mov (.t 8)⟩,
   ⟨(some 75),none,.mov (.t 12)⟩,
   ⟨(some 76),none,.idxS 1 (.t 74) (.t 75)⟩,
   ⟨(some 77),none,.ld none (.t 76)⟩,
   ⟨(some 78),none,.len false (.t 77)⟩,
   ⟨(some 79),none,.mov (.c (.p (.int .i64 0)))⟩])
 (.blk 6 (.loop (.seq (.reg [⟨(some 80),none,.bin .lss (.t 79) (.t 78)⟩])
 (.seq (.cond (.t 80)
  (.skip)
  (.exit 6))
 (.seq (.blk 7 (.seq (.reg [⟨(some 81),none,.idxS 1 (.t 77) (.t 79)⟩,
   ⟨(some 82),none,.ld none (.t 81)⟩,
   ⟨(some 17),none,.mov (.t 82)⟩])
 (.seq (.reg [⟨(some 83),none,.mkm⟩,
   ⟨(some 18),none,.mov (.t 83)⟩])
 (.seq (.rng [⟨(some 84),none,.mov (.t 17)⟩] (.t 84) 85 86 87 88 8 9 [⟨(some 89),none,.ext 0 (.t 88)⟩,
   ⟨(some 90),none,.ext 1 (.t 88)⟩,
   ⟨(some 19),none,.mov (.t 89)⟩,
   ⟨(some 20),none,.mov (.t 90)⟩]
 (.seq (.reg [⟨(some 92),none,.mov (.t 5)⟩,
   ⟨(some 93),none,.mov (.t 19)⟩,
   ⟨(some 94),none,.lk 0 (.p (.int .i64 0)) true (.t 92) (.t 93)⟩,
   ⟨(some 91),none,.mov (.t 94)⟩,
   ⟨(some 95),none,.ext 0 (.t 91)⟩,
   ⟨(some 96),none,.ext 1 (.t 91)⟩,
   ⟨(some 21),none,.mov (.t 95)⟩,
   ⟨(some 22),none,.mov (.t 96)⟩])
 (.seq (.reg [⟨(some 97),none,.mov (.t 22)⟩])
 (.cond (.t 97)
  (.reg [⟨(some 98),none,.mov (.t 18)⟩,
    ⟨(some 99),none,.mov (.t 21)⟩,
    ⟨(some 100),none,.mov (.t 20)⟩,
    ⟨none,none,.mup 0 (.t 98) (.t 99) (.t 100)⟩])
  (.skip)))))
 (.reg [⟨(some 101),none,.mov (.t 10)⟩,
   ⟨(some 102),none,.mov (.t 11)⟩,
   ⟨(some 103),none,.mov (.t 10)⟩,
   ⟨(some 104),none,.mov (.t 11)⟩,
   ⟨(some 105),none,.idxS 1 (.t 103) (.t 104)⟩,
   ⟨(some 106),none,.ld none (.t 105)⟩,
   ⟨(some 107),none,.mov (.t 18)⟩,
   ⟨(some 108),none,.bsl 1 [.nilm] 1 [(0,1,(.t 107))]⟩,
   ⟨(some 109),none,.app 1 8 (.t 106) (.t 108)⟩,
   ⟨(some 110),none,.idxS 1 (.t 101) (.t 102)⟩,
   ⟨none,none,.st 1 (.t 110) (.t 109)⟩])))))
 (.reg [⟨(some 111),none,.bin .add (.t 79) (.c (.p (.int .i64 1)))⟩,
   ⟨(some 79),none,.mov (.t 111)⟩])))))))
 (.reg [⟨(some 112),none,.fldA 2 (.t 9)⟩,
   ⟨(some 113),none,.ld none (.t 112)⟩,
   ⟨(some 114),none,.ld (some 5) (.t 13)⟩,
   ⟨(some 115),none,.bsl 5 [.nils,.nils,(.p (.int .i64 0)),(.p (.int .i64 0)),.nils] 1 [(0,5,(.t 114))]⟩,
   ⟨(some 116),none,.app 5 88 (.t 113) (.t 115)⟩,
   ⟨(some 117),none,.fldA 2 (.t 9)⟩,
   ⟨none,none,.st 1 (.t 117) (.t 116)⟩]))))))
 (.reg [⟨(some 118),none,.bin .add (.t 47) (.c (.p (.int .i64 1)))⟩,
   ⟨(some 47),none,.mov (.t 118)⟩])))))))
 (.seq (.reg [⟨(some 119),none,.mov (.t 10)⟩,
   ⟨(some 120),none,.call eh [(.t 9),(.t 119)]⟩])
 (.seq (.reg [⟨(some 121),none,.ld (some 3) (.t 9)⟩,
   ⟨none,none,.st 3 (.t 4) (.t 121)⟩])
 (.ret)))))))))⟩
theorem Do:af Tryz.prog lR=some lF:=by kernel_rfl
def kz:FK:=⟨7,[.c 2 wJ],xy (yH 1 3 (qZ 2 [qI,qI,.nils])) [xR 3 1,xR 4 1,w5 5 gJ 4,yQ 3,xv 6 lR 3 5,wa 3 2 6]⟩
theorem sT:af Tryz.prog cL=some kz:=by kernel_rfl
def jX:FK:=⟨22,[.c 3 (some 4),w6],xy [qZ 3 [qI,qI,.nils,qI],xD] [wG 5,wG 10,wG 18,qr 6 1,wH 7 6,qy 8 3 7,qr 9 8,xz 11 9 10,qr 12 11,xh 13 [qI,qI,.nils,qI] [(0,1,yJ),xg 1 5,xg 3 12],qr 14 1,wH 15 14,qy 16 3 15,qr 17 16,xz 19 17 18,qr 20 19,qH 21 .geq 20 0,wa 4 3 13,wc 1 14,wc 16 17,wc 19 20,qg 4 21]⟩
theorem td:af Tryz.prog aD=some jX:=by kernel_rfl
def gP:AK:=qf (yH 1 3 (qZ 2 [qI,qI,.nils])) (.cut (.ot (wW [qP 3 .any] [xR 22 1] (wW [xR 24 1] [xR 26 1] (qM [w5 23 fG 22,yQ 24,yQ 26] (qM [w5 25 cn 24,yQ 26] (qM [w5 27 bJ 26] (w7 [qZ 5 [qI,qI,.nils],yQ 22,yQ 24,yQ 26] [qZ 3 [.nilp]] (wx [xH 3 23] (yn (qg 4 25) (wx [wa 3 5 27] .done)))) (w7 [qZ 5 [qI,qI,.nils],yQ 22,yQ 24,yQ 26] [w5 27 bJ 26] (w7 [qZ 3 [.nilp]] [xH 3 23] (yn (qg 4 25) (wx [wa 3 5 27] .done))))) (w7 [qZ 5 [qI,qI,.nils],yQ 22,yQ 24,yQ 26] [w5 25 cn 24,yQ 26] (w7 [w5 27 bJ 26] [qZ 3 [.nilp]] (wx [xH 3 23] (yn (qg 4 25) (wx [wa 3 5 27] .done)))))) (w7 [qZ 5 [qI,qI,.nils],yQ 22,yQ 24,yQ 26] [w5 23 fG 22,yQ 24,yQ 26] (w7 [w5 25 cn 24,yQ 26] [w5 27 bJ 26] (w7 [qZ 3 [.nilp]] [xH 3 23] (yn (qg 4 25) (wx [wa 3 5 27] .done))))))))) (qf (wU (qb 28 (yp aD (w4 3))) 6 28) (qB [xd 29 5,qr 30 29,wd 31 30,wL 32] (x8 0 [ww 33 32 31] 33 0 1 (q9 (wU (qg 34 32) 7 34) [xd 35 5,qr 36 35,yt 37,yC 38 36 37,qg 8 38] (xN [ye 39,wH 40 39,xd 41 40,qr 42 41,wS 43 42 2,qg 44 43,xa 49 44 8,qW 50 44 (wb 49),xE 51 44 3 50,wP 45 44 3,qW 46 44 (wb 45),xE 47 44 3 46,wP 48 44 47,wP 52 44 51,za 53 44 1 48 52,wP 54 44 53,yz 55 44 .geq 54 xr,yY 56 44 55] (qR 56 (qf [ye 57,wH 58 57,qy 59 4 58,qr 60 59,qb 61 (qv 1 60 xr),qr 62 61,qg 9 62] (qB [ye 67,wH 68 67,qy 69 3 68,qr 63 3,wH 64 63,qy 65 3 64,qr 66 65,qr 70 69,xz 71 66 70,qr 72 71,wS 73 72 0] (yD 73 [ye 74,wH 75 74,qy 76 4 75,qr 77 76,qb 78 (qv 1 77 yJ),qr 79 78,qg 9 79]) (.reg [ye 80,ye 81,ye 82,qg 83 9,wz 84 1 yU 1 [xg 0 83],wH 85 80,xd 86 85,qS 1 86 yJ,wH 87 81,qy 88 3 87,qS 1 88 xr,wH 89 82,qy 90 4 89,xH 90 84])))) (q9 [xm 10] [xm 11] (qf [xm 12] (xN [ye 91,wH 92 91,w8 93 92,qr 94 93,wd 95 94,wL 96] (x8 2 [ww 97 96 95] 97 2 3 (q9 [qg 98 96,qK 99 2 94 96,qL 100 2 99,qZ 14 [qI,.nils],qg 13 98,wa 2 14 100] [yB 102,w8 103 14,qr 104 103,qb 105 (yX 102 104),qg 101 105,ya 106 0 101,ya 107 1 101,qZ 15 [qI,qI,.nils,qI],wa 4 15 106,qg 16 107] (xF [qg 108 16] 108 (.reg [yG 109,qL 110 4 15,wz 111 4 [qI,qI,.nils,qI] 1 [wX 0 4 110],xe 112 4 48 109 111,qg 10 112]) (.ot (wW [] [qg 113 11] (wW [qg 117 12] [yc 118] (wW [yt 119] [xz 120 118 119] (wW [qg 122 13] [qL 114 2 14] (wW [qr 121 120] [xz 123 121 122] (yn (qr 124 123) (qM [wz 115 2 [qI,.nils] 1 [wX 0 2 114],wc 120 121,wc 123 124] (qM [xe 116 2 32 113 115,wc 120 121,wc 123 124] (w7 [wz 125 1 [.nilm] 1 [xg 0 124],qE (some 2) 14 114] [xe 126 1 8 117 125] (wW [qg 11 116] [qg 12 126] .done)) (w7 [wz 125 1 [.nilm] 1 [xg 0 124],qE (some 2) 14 114] [xe 116 2 32 113 115,wc 120 121,wc 123 124] (wx [xe 126 1 8 117 125] (wW [qg 11 116] [qg 12 126] .done)))) (w7 [wz 125 1 [.nilm] 1 [xg 0 124],qE (some 2) 14 114] [wz 115 2 [qI,.nils] 1 [wX 0 2 114],wc 120 121,wc 123 124] (w7 [xe 116 2 32 113 115,wc 120 121,wc 123 124] [xe 126 1 8 117 125] (wW [qg 11 116] [qg 12 126] .done))))))))))))) 127 96 96 127) (xN [ye 128,wH 129 128,xL 130 129,qr 131 130,wd 132 131,wL 133] (x8 4 [ww 134 133 132] 134 4 5 (q9 [qg 135 133,qK 136 4 131 133,qL 137 4 136,qZ 18 [qI,qI,.nils,qI],qg 17 135,wa 4 18 137] (xi (qL 138 4 18) (w5 139 ep 138) 19 139) (qf [qg 140 19,qH 141 .geq 140 0] (qR 141 (q9 [yB 143,qg 144 19,qb 145 (yX 143 144),qg 142 145,ya 146 0 142,ya 147 1 142,qZ 20 [qI,qI,.nils,qI],wa 4 20 146,qg 21 147] [qg 148 21] (yD 148 [ye 149,wH 150 149,xL 151 150,qg 153 17,qr 152 151,qL 154 4 20,qK 155 4 152 153,wa 4 155 154]))))) 156 133 133 156) (.reg [ye 157,ye 158,yc 159,yt 160,qg 161 11,yG 162,ye 163,wH 164 163,xL 165 164,qr 166 165,xe 167 4 48 162 166,qg 168 12,wH 169 157,w8 170 169,xH 170 161,wH 171 158,xL 172 171,xH 172 167,xz 173 159 160,xH 173 168]))))))) 174 32 32 174) (xy [yc 175,xv 176 eh 5 175] [xR 177 5,w5 178 cL 177,wa 3 2 178]))))
def gM:FK:=⟨179,[.c 2 wJ],(AK.whole gP)⟩
theorem uZ:af Tryz.prog dO=some gM:=by kernel_rfl
def mz:FK:=⟨15,[.c 2 (some 1),.t 3],xn [yb 1 1,qZ 2 xP,wI 3] [qL 4 1 1,w5 5 iA 4,w9 6 5] (wh 6 [xh 7 xP [],xH 2 7,wI 3]) [w8 8 1,qr 9 8,qA 10 cB (xt 9 (.c (.fn (.func dO) []))),xh 11 xP [xg 0 10],qA 12 gI (xt 11 wY),ya 13 0 12,ya 14 1 12,xH 2 13,qg 3 14]⟩
theorem vI:af Tryz.prog bI=some mz:=by kernel_rfl
def sk:FK:=⟨26,yj,yw zf [wG 6,wd 7 6,wF 8,wd 9 8,yh 10 7 9] 10 zf (wC yA (xk 0 [wR 11,yu,wd 13 12,ww 14 11 13] 14 0 1 (x9 [wG 17,wR 18,xz 19 17 18,wF 21,wR 22,xz 23 21 22,qr 20 19,qr 24 23,yh 25 20 24] 25 zf) (wR 15) 16 15 5 16) [y9 4])⟩
theorem CD:af Tryz.prog ec=some sk:=by kernel_rfl
def uk:FK:=⟨16,yj,yw [yb 2 2,wD 3 2 1,xD] [w8 5 2,qr 6 5,w8 7 3,qr 8 7,yh 9 6 8] 9 zf (wC [xL 10 2,qr 11 10,xL 12 3,qr 13 12,xv 14 ec 11 13,w9 15 14] (wh 15 zf) [y9 4])⟩
theorem Em:af Tryz.prog jq=some uk:=by kernel_rfl
def sa:FK:=⟨27,yj,yw zf [wG 6,wd 7 6,wF 8,wd 9 8,yh 10 7 9] 10 zf (wC yA (xk 0 [wR 11,yu,wd 13 12,ww 14 11 13] 14 0 1 (x9 [wG 17,wR 18,qK 19 2 17 18,wF 21,wR 22,qK 23 2 21 22,qL 20 2 19,qL 24 2 23,xv 25 jq 20 24,w9 26 25] 26 zf) (wR 15) 16 15 5 16) [y9 4])⟩
theorem CJ:af Tryz.prog lV=some sa:=by kernel_rfl
def tq:FK:=⟨26,yj,yw [yb 2 4,wD 3 4 1,xD] [w8 5 2,qr 6 5,w8 7 3,qr 8 7,yh 9 6 8] 9 zf (wZ [xL 10 2,qr 11 10,xL 12 3,qr 13 12,yh 14 11 13] 14 zf (wZ [xd 15 2,qr 16 15,xd 17 3,qr 18 17,xv 19 ec 16 18,w9 20 19] 20 zf (wC [qy 21 3 2,qr 22 21,qy 23 3 3,qr 24 23,yh 25 22 24] (wh 25 zf) [y9 4])))⟩
theorem Ek:af Tryz.prog jl=some tq:=by kernel_rfl
def sg:FK:=⟨27,yj,yw zf [wG 6,wd 7 6,wF 8,wd 9 8,yh 10 7 9] 10 zf (wC yA (xk 0 [wR 11,yu,wd 13 12,ww 14 11 13] 14 0 1 (x9 [wG 17,wR 18,qK 19 4 17 18,wF 21,wR 22,qK 23 4 21 22,qL 20 4 19,qL 24 4 23,xv 25 jl 20 24,w9 26 25] 26 zf) (wR 15) 16 15 5 16) [y9 4])⟩
theorem CA:af Tryz.prog lu=some sg:=by kernel_rfl
def pL:FK:=⟨33,yj,yw [yb 2 5,wD 3 5 1,xD] [w8 5 2,qr 6 5,w8 7 3,qr 8 7,xv 9 lV 6 8,w9 10 9] 10 zf (wZ [xL 11 2,qr 12 11,xL 13 3,qr 14 13,xv 15 lu 12 14,w9 16 15] 16 zf (wZ [xd 17 2,qr 18 17,xd 19 3,qr 20 19,yh 21 18 20] 21 zf (wZ [qy 22 3 2,qr 23 22,qy 24 3 3,qr 25 24,yh 26 23 25] 26 zf (wC [qy 27 4 2,qr 28 27,qy 29 4 3,qr 30 29,xv 31 ec 28 30,w9 32 31] (wh 32 zf) [y9 4]))))⟩
theorem Be:af Tryz.prog fW=some pL:=by kernel_rfl
def oe:FK:=⟨27,yj,yw zf [wG 6,wd 7 6,wF 8,wd 9 8,yh 10 7 9] 10 zf (wC yA (xk 0 [wR 11,yu,wd 13 12,ww 14 11 13] 14 0 1 (x9 [wG 17,wR 18,yC 19 17 18,wF 21,wR 22,yC 23 21 22,qL 20 5 19,qL 24 5 23,xv 25 fW 20 24,w9 26 25] 26 zf) (wR 15) 16 15 5 16) [y9 4])⟩
theorem zW:af Tryz.prog iG=some oe:=by kernel_rfl
def sx:FK:=⟨21,yj,yw [yb 2 3,wD 3 3 1,xD] [w8 5 2,qr 6 5,w8 7 3,qr 8 7,yh 9 6 8] 9 zf (wZ [xL 10 2,qr 11 10,xL 12 3,qr 13 12,yh 14 11 13] 14 zf (wC [xd 15 2,qr 16 15,xd 17 3,qr 18 17,xv 19 iG 16 18,w9 20 19] (wh 20 zf) [y9 4]))⟩
theorem CC:af Tryz.prog ib=some sx:=by kernel_rfl
def pQ:FK:=⟨27,yj,yw zf [wG 6,wd 7 6,wF 8,wd 9 8,yh 10 7 9] 10 zf (wC yA (xk 0 [wR 11,yu,wd 13 12,ww 14 11 13] 14 0 1 (x9 [wG 17,wR 18,qK 19 3 17 18,wF 21,wR 22,qK 23 3 21 22,xR 20 19,xR 24 23,xv 25 ib 20 24,w9 26 25] 26 zf) (wR 15) 16 15 5 16) [y9 4])⟩
theorem Ay:af Tryz.prog kB=some pQ:=by kernel_rfl
def sC:FK:=⟨11,yj,xn [yb 2 1,wD 3 1 1,xD] [w8 5 2,qr 6 5,w8 7 3,qr 8 7,xv 9 kB 6 8,w9 10 9] (wh 10 zf) [y9 4]⟩
theorem Cz:af Tryz.prog dh=some sC:=by kernel_rfl
def eQ:FK:=⟨19,yj,xn xZ yA (xk 0 [wR 6,wG 7,wd 8 7,ww 9 6 8] 9 0 1 (yf [yu,yZ,wF 14,xz 15 12 13,xH 15 14] (xj (wF 16) 17 16 1 17)) (wR 10) 11 10 5 11) (wU (wF 18) 4 18)⟩
theorem eO:af Tryz.prog bX=some eQ:=by kernel_rfl
def eL:FK:=⟨27,yj,xn xZ yA (xk 0 [wR 6,wG 7,wd 8 7,ww 9 6 8] 9 0 1 (q9 [yu,yZ,wF 14,qK 15 2 12 13,w8 16 15,xH 16 14] (xj (wF 17) 18 17 1 18) (.reg [wG 19,wR 20,qK 21 2 19 20,xL 22 21,qr 23 22,wF 24,xv 25 bX 23 24,qg 1 25])) (wR 10) 11 10 5 11) (wU (wF 26) 4 26)⟩
theorem iD:af Tryz.prog iE=some eL:=by kernel_rfl
def eR:FK:=⟨41,yj,xn xZ yA (xk 0 [wR 6,wG 7,wd 8 7,ww 9 6 8] 9 0 1 (q9 [yu,yZ,wF 14,qK 15 4 12 13,w8 16 15,xH 16 14] (xj (wF 17) 18 17 1 18) (q9 [wG 19,wR 20,wF 21,qK 22 4 19 20,xL 23 22,xH 23 21] (xj (wF 24) 25 24 1 25) (q9 [wG 26,wR 27,qK 28 4 26 27,xd 29 28,qr 30 29,wF 31,xv 32 bX 30 31,qg 1 32] [wG 33,wR 34,wF 35,qK 36 4 33 34,qy 37 3 36,xH 37 35] (.reg (xj (wF 38) 39 38 1 39))))) (wR 10) 11 10 5 11) (wU (wF 40) 4 40)⟩
theorem iK:af Tryz.prog iY=some eR:=by kernel_rfl
def du:FK:=⟨48,yj,xn xZ yA (xk 0 [wR 6,wG 7,wd 8 7,ww 9 6 8] 9 0 1 (q9 [yu,yZ,yC 14 12 13,w8 15 14,qr 16 15,wF 17,xv 18 iE 16 17,qg 1 18] [wG 19,wR 20,yC 21 19 20,xL 22 21,qr 23 22,wF 24,xv 25 iY 23 24,qg 1 25] (q9 [wG 26,wR 27,wF 28,yC 29 26 27,xd 30 29,xH 30 28] (xj (wF 31) 32 31 1 32) (q9 [wG 33,wR 34,wF 35,yC 36 33 34,qy 37 3 36,xH 37 35] (xj (wF 38) 39 38 1 39) (.reg [wG 40,wR 41,yC 42 40 41,qy 43 4 42,qr 44 43,wF 45,xv 46 bX 44 45,qg 1 46])))) (wR 10) 11 10 5 11) (wU (wF 47) 4 47)⟩
theorem fE:af Tryz.prog fZ=some du:=by kernel_rfl
def dS:FK:=⟨34,yj,xn xZ yA (xk 0 [wR 6,wG 7,wd 8 7,ww 9 6 8] 9 0 1 (q9 [yu,yZ,wF 14,qK 15 3 12 13,w8 16 15,xH 16 14] (xj (wF 17) 18 17 1 18) (q9 [wG 19,wR 20,wF 21,qK 22 3 19 20,xL 23 22,xH 23 21] (xj (wF 24) 25 24 1 25) (.reg [wG 26,wR 27,qK 28 3 26 27,xd 29 28,qr 30 29,wF 31,xv 32 fZ 30 31,qg 1 32]))) (wR 10) 11 10 5 11) (wU (wF 33) 4 33)⟩
theorem gG:af Tryz.prog gx=some dS:=by kernel_rfl
def nU:FK:=⟨10,yj,yI 2 1 (wL 4) [w8 5 2,qr 6 5,wF 7,xv 8 gx 6 7,ye 1] (qC (wU (wF 9) 4 9))⟩
theorem zL:af Tryz.prog eK=some nU:=by kernel_rfl
def nX:FK:=⟨21,yj,xn xZ yA (xk 0 [wR 6,wG 7,wd 8 7,ww 9 6 8] 9 0 1 (wZ [yu,yZ,xz 14 12 13,qr 15 14,wF 16,yh 17 15 16] 17 yP (.reg (xj (wF 18) 19 18 1 19))) (wR 10) 11 10 5 11) (wU (wF 20) 4 20)⟩
theorem zH:af Tryz.prog cZ=some nX:=by kernel_rfl
def nV:FK:=⟨31,yj,xn xZ yA (xk 0 [wR 6,wG 7,wd 8 7,ww 9 6 8] 9 0 1 (wZ [yu,yZ,qK 14 2 12 13,w8 15 14,qr 16 15,wF 17,yh 18 16 17] 18 yP (q9 (xj (wF 19) 20 19 1 20) [wG 21,wR 22,qK 23 2 21 22,xL 24 23,qr 25 24,wF 26,xv 27 cZ 25 26,qg 1 27] (x9 [wF 28,yr 29 28 0] 29 yP))) (wR 10) 11 10 5 11) (wU (wF 30) 4 30)⟩
theorem zS:af Tryz.prog iS=some nV:=by kernel_rfl
def nN:FK:=⟨49,yj,xn xZ yA (xk 0 [wR 6,wG 7,wd 8 7,ww 9 6 8] 9 0 1 (wZ [yu,yZ,qK 14 4 12 13,w8 15 14,qr 16 15,wF 17,yh 18 16 17] 18 yP (yw (xj (wF 19) 20 19 1 20) [wG 21,wR 22,qK 23 4 21 22,xL 24 23,qr 25 24,wF 26,yh 27 25 26] 27 yP (q9 (xj (wF 28) 29 28 1 29) [wG 30,wR 31,qK 32 4 30 31,xd 33 32,qr 34 33,wF 35,xv 36 cZ 34 35,qg 1 36] (wZ [wF 37,yr 38 37 0] 38 yP (wZ [wG 39,wR 40,qK 41 4 39 40,qy 42 3 41,qr 43 42,wF 44,yh 45 43 44] 45 yP (.reg (xj (wF 46) 47 46 1 47))))))) (wR 10) 11 10 5 11) (wU (wF 48) 4 48)⟩
theorem zX:af Tryz.prog iT=some nN:=by kernel_rfl
def lg:FK:=⟨58,yj,xn xZ yA (xk 0 [wR 6,wG 7,wd 8 7,ww 9 6 8] 9 0 1 (yw [yu,yZ,yC 14 12 13,w8 15 14,qr 16 15,wF 17,xv 18 iS 16 17,qg 1 18] [wF 19,yr 20 19 0] 20 yP (yw [wG 21,wR 22,yC 23 21 22,xL 24 23,qr 25 24,wF 26,xv 27 iT 25 26,qg 1 27] [wF 28,yr 29 28 0] 29 yP (wZ [wG 30,wR 31,yC 32 30 31,xd 33 32,qr 34 33,wF 35,yh 36 34 35] 36 yP (yw (xj (wF 37) 38 37 1 38) [wG 39,wR 40,yC 41 39 40,qy 42 3 41,qr 43 42,wF 44,yh 45 43 44] 45 yP (q9 (xj (wF 46) 47 46 1 47) [wG 48,wR 49,yC 50 48 49,qy 51 4 50,qr 52 51,wF 53,xv 54 cZ 52 53,qg 1 54] (x9 [wF 55,yr 56 55 0] 56 yP)))))) (wR 10) 11 10 5 11) (wU (wF 57) 4 57)⟩
theorem tw:af Tryz.prog fM=some lg:=by kernel_rfl
def mO:FK:=⟨40,yj,xn xZ yA (xk 0 [wR 6,wG 7,wd 8 7,ww 9 6 8] 9 0 1 (wZ [yu,yZ,qK 14 3 12 13,w8 15 14,qr 16 15,wF 17,yh 18 16 17] 18 yP (yw (xj (wF 19) 20 19 1 20) [wG 21,wR 22,qK 23 3 21 22,xL 24 23,qr 25 24,wF 26,yh 27 25 26] 27 yP (q9 (xj (wF 28) 29 28 1 29) [wG 30,wR 31,qK 32 3 30 31,xd 33 32,qr 34 33,wF 35,xv 36 fM 34 35,qg 1 36] (x9 [wF 37,yr 38 37 0] 38 yP)))) (wR 10) 11 10 5 11) (wU (wF 39) 4 39)⟩
theorem uU:af Tryz.prog gL=some mO:=by kernel_rfl
def nW:FK:=⟨12,yj,yI 2 1 (wL 4) [w8 5 2,qr 6 5,wF 7,xv 8 gL 6 7,ye 1] (yv [wF 9,yr 10 9 0] (wh 10 yP) (wF 11) 4 11)⟩
theorem zV:af Tryz.prog eJ=some nW:=by kernel_rfl
def fg:FK:=⟨96,yS,yI 1 1 xU [qJ 3 1048576] (yw [qL 14 1 1,xI 15,xv 16 gY 14 15,qg 3 16] [xI 17,yr 18 17 0] 18 [y9 2] (q9 [qL 20 1 1,w5 21 cg 20,w5 22 gR 21,qg 19 22,ya 23 0 19,ya 24 1 19,qZ 4 xP,xH 4 23,qg 5 24] [qL 25 1 1,w5 26 cg 25,qZ 6 xP,xH 6 26] (yw [qL 28 1 6,w5 29 bI 28,qg 27 29,ya 30 0 27,ya 31 1 27,qZ 7 xP,xH 7 30,qg 8 31] [qL 32 1 7,qL 33 1 4,xv 34 dh 32 33,w9 35 34,qg 36 35,xA 37 36 8,xA 38 36 5,qX 39 36 (.beq true (.t 37) (.t 38)),yy 40 36 39] 40 [xU] (wZ [qL 41 1 6,qL 42 1 1,w5 43 cg 42,qE (some 1) 6 41,xv 44 dh 41 43,w9 45 44] 45 [xU] (q9 [qJ 9 1] [qL 46 1 6,qg 47 9,xv 48 eK 46 47,qg 9 48] (wZ [qg 49 9,yr 50 49 0,qg 51 50,qX 52 51 (qk (some 1) 7),qX 53 51 (qk (some 1) 4),ym 54 51 dh (xu 52 53),qX 55 51 (wB 54),yy 56 51 55,qg 57 56,xA 58 57 8,xA 59 57 5,qX 60 57 (.beq true (.t 58) (.t 59)),yy 61 57 60] 61 [xU] (q9 [qJ 10 1] [qL 62 1 7,yG 63,xv 64 eK 62 63,qg 10 64] (q9 [qJ 11 1] [qL 65 1 7,qg 66 11,xv 67 eJ 65 66,qg 11 67] (wZ [qg 68 11,yr 69 68 0] 69 [xU] (wZ [qg 70 11,yG 71,yh 72 70 71] 72 [xU] (yw [qL 74 1 1,w5 75 cg 74,w5 76 bI 75,qg 73 76,ya 77 0 73,ya 78 1 73,qZ 12 xP,xH 12 77,qg 13 78] [qL 79 1 12,qL 80 1 4,xv 81 dh 79 80,w9 82 81,qg 83 82,xA 84 83 13,xA 85 83 5,qX 86 83 (.beq true (.t 84) (.t 85)),yy 87 83 86] 87 [xU] (q9 [qJ 11 1] [qL 88 1 7,qg 89 11,xv 90 eJ 88 89,qg 11 90] (wZ [qg 91 11,yr 92 91 0] 92 [xU] (wC [qg 93 11,yG 94,yh 95 93 94] (wh 95 [xU]) [y9 2]))))))))))))))⟩
theorem mQ:af Tryz.prog fk=some fg:=by kernel_rfl
end Go.Proofs.YtigmcjbgnmpbeaaGreat
