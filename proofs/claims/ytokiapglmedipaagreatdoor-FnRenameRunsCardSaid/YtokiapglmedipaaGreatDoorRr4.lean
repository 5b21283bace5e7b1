/-
  Contracts and lemmas that the card needs, part 4.
-/
import Derived.Test.YtokiapglmedipaaGreatDoorRr3
import Derived.Test.YtokiapglmedipaaGreatDoorRows
namespace Go.Proofs.YtokiapglmedipaaGreatDoor
open Go Go.Aw
set_option maxRecDepth 100000
abbrev lh:FuncId:=56
abbrev mM:FuncId:=239
abbrev mC:FuncId:=235
abbrev pJ:FuncId:=221
abbrev ic:FuncId:=236
abbrev pN:FuncId:=222
abbrev dd:FuncId:=195
abbrev kI:FuncId:=237
abbrev kJ:FuncId:=242
abbrev gW:FuncId:=240
abbrev iQ:FuncId:=241
abbrev gk:FuncId:=238
abbrev kw:FuncId:=223
abbrev cD:FuncId:=196
abbrev sD:FuncId:=164
abbrev fY:FuncId:=197
abbrev pt:FuncId:=165
abbrev eb:FuncId:=114
abbrev kO:FuncId:=199
abbrev bK:FuncId:=200
abbrev fb:FuncId:=224
abbrev kK:FuncId:=225
abbrev fM:FuncId:=201
abbrev fH:FuncId:=227
abbrev dq:FuncId:=226
abbrev cQ:FuncId:=202
abbrev nI:FuncId:=169
abbrev gx:FuncId:=119
abbrev oa:FuncId:=70
abbrev lA:FuncId:=101
abbrev ox:FuncId:=50
abbrev cJ:FuncId:=184
abbrev fP:FuncId:=150
abbrev mj:FuncId:=186
abbrev fG:FuncId:=208
abbrev eJ:FuncId:=209
abbrev pz:FuncId:=210
abbrev bp:FuncId:=185
abbrev jt:FuncId:=187
abbrev jq:FuncId:=151
abbrev aP:FuncId:=102
abbrev nw:FuncId:=51
abbrev de:FuncId:=57
abbrev gC:FuncId:=172
abbrev gL:FuncId:=122
abbrev fD:FuncId:=173
abbrev dK:FuncId:=124
abbrev dE:FuncId:=123
abbrev dc:FuncId:=75
abbrev dA:FuncId:=125
abbrev cP:FuncId:=76
abbrev cN:FuncId:=174
abbrev ck:FuncId:=126
abbrev gY:FuncId:=175
abbrev kD:FuncId:=156
abbrev mD:FuncId:=228
abbrev ia:FuncId:=203
abbrev gq:FuncId:=176
abbrev kM:FuncId:=128
abbrev dk:FuncId:=127
abbrev dr:FuncId:=78
abbrev gh:FuncId:=129
abbrev gi:FuncId:=130
abbrev mY:FuncId:=79
abbrev bG:FuncId:=77
abbrev gH:FuncId:=37
abbrev bs:FuncId:=80
abbrev gR:FuncId:=81
abbrev lm:FuncId:=39
abbrev cY:FuncId:=72
abbrev bF:FuncId:=73
abbrev ml:FuncId:=170
abbrev bq:FuncId:=121
abbrev cn:FuncId:=171
abbrev dV:FuncId:=120
abbrev bN:FuncId:=74
abbrev gG:FuncId:=36
abbrev kR:FuncId:=68
abbrev eU:FuncId:=189
abbrev dC:FuncId:=154
abbrev dg:FuncId:=155
abbrev mw:FuncId:=104
abbrev oe:FuncId:=53
abbrev bv:FuncId:=157
abbrev ua:FuncId:=105
abbrev ff:FuncId:=108
abbrev nC:FuncId:=212
abbrev dU:FuncId:=190
abbrev gl:FuncId:=215
abbrev mz:FuncId:=205
abbrev iU:FuncId:=180
abbrev ec:FuncId:=216
abbrev cd:FuncId:=213
abbrev ji:FuncId:=214
abbrev gO:FuncId:=191
abbrev bt:FuncId:=158
abbrev ed:FuncId:=107
abbrev dY:FuncId:=106
abbrev fI:FuncId:=54
abbrev bZ:FuncId:=20
abbrev bE:FuncId:=21
abbrev mB:FuncId:=60
abbrev be:FuncId:=62
abbrev dh:FuncId:=65
abbrev dD:FuncId:=117
abbrev dN:FuncId:=198
abbrev bf:FuncId:=194
abbrev jn:FuncId:=163
abbrev iz:FuncId:=234
abbrev eq:FuncId:=218
abbrev fL:FuncId:=219
abbrev iX:FuncId:=220
abbrev jH:FuncId:=193
abbrev bm:FuncId:=162
abbrev ij:FuncId:=113
abbrev dM:FuncId:=61
abbrev iT:FuncId:=167
abbrev nZ:FuncId:=166
abbrev nX:FuncId:=115
abbrev kx:FuncId:=168
abbrev eB:FuncId:=118
abbrev oo:FuncId:=116
abbrev oq:FuncId:=63
abbrev sE:FuncId:=64
abbrev fz:FuncId:=29
abbrev ky:FuncId:=66
abbrev eV:FuncId:=30
abbrev eS:FuncId:=67
abbrev ik:FuncId:=31
abbrev cH:FuncId:=82
abbrev dw:FuncId:=85
abbrev fJ:FuncId:=131
abbrev hZ:FuncId:=84
abbrev cZ:FuncId:=83
abbrev dF:FuncId:=87
abbrev cK:FuncId:=133
abbrev aX:FuncId:=98
abbrev cU:FuncId:=132
abbrev dW:FuncId:=89
abbrev dy:FuncId:=177
abbrev cX:FuncId:=136
abbrev cy:FuncId:=135
abbrev bX:FuncId:=134
abbrev bQ:FuncId:=90
abbrev cx:FuncId:=88
abbrev bW:FuncId:=86
abbrev dH:FuncId:=40
abbrev kr:FuncId:=41
abbrev ma:FuncId:=10
@[reducible] def qa(a:Nat)(b:Option (Nat × Bool))(c:AI):CO:=⟨some a,b,c⟩
@[reducible] def qb(a:Nat)(b:AI):CO:=qa a none b
@[reducible] def qd(a:Nat)(b:AOp):CO:=qb a (.mov b)
@[reducible] def qe(a:List CO)(b:AK):AK:= .seq (.reg a) b
@[reducible] def qf(a:IntKind)(b:Int):AV:= .p (.int a b)
@[reducible] def qg(a b:Nat):CO:=qd a (.t b)
@[reducible] def qh(a:Int):AV:=qf .i64 a
@[reducible] def qi(a b:Nat):AI:= .fldA a (.t b)
@[reducible] def qj(a:Option Nat)(b:Nat):AI:= .ld a (.t b)
@[reducible] def qk(a:Int):AOp:= .c (qh a)
@[reducible] def ql(a:BinOp)(b:Nat)(c:AOp):AI:= .bin a (.t b) c
@[reducible] def qm(a:Nat)(b:Nat × Bool)(c:AI):CO:=qa a (some b) c
@[reducible] def qn(a:Nat)(b:Option Nat)(c:Nat):CO:=qb a (qj b c)
@[reducible] def qo(a:Nat)(b:FuncId)(c:List AOp):CO:=qb a (.call b c)
@[reducible] def qp(a:Nat)(b c:AK):AK:= .cond (.t a) b c
@[reducible] def qq(a b c:Nat):CO:=qb a (qi b c)
@[reducible] def qr(a b:Nat):CO:=qn a none b
@[reducible] def qt(a:Bool):AV:= .p (.bool a)
@[reducible] def qu(a:Nat)(b:BinOp)(c:Nat)(d:AOp):CO:=qb a (ql b c d)
@[reducible] def qv(a:List UInt8):AV:= .p (.str a)
@[reducible] def qw(a:Option (Nat × Bool))(b:AI):CO:=⟨none,a,b⟩
@[reducible] def qx(a:Nat):AI:= .nilck (.t a)
@[reducible] def qy(a:Nat)(b:BinOp)(c:Nat)(d:Int):CO:=qu a b c (qk d)
@[reducible] def qz:AV:=qt false
@[reducible] def qA(a:List CO):AK:=qe a .ret
@[reducible] def qB(a:AI):CO:=qw none a
@[reducible] def qC(a:List CO)(b:Nat)(c d:AK):AK:=qe a (qp b c d)
@[reducible] def qD:AV:=qh 0
@[reducible] def qF(a:Nat)(b c:AOp):CO:=qB (.st a b c)
@[reducible] def qG:AV:=qv []
@[reducible] def qH(a b c:Nat):CO:=qn a (some b) c
@[reducible] def qI(a:AOp):AI:= .len false a
@[reducible] def qJ(a b:Nat)(c:Bool)(d:AI):CO:=qm a (b,c) d
@[reducible] def qK(a b:Nat)(c:AI):CO:=qJ a b true c
@[reducible] def qL(a b:Nat)(c:AI):CO:=qJ a b false c
@[reducible] def qM(a:List CO)(b c:AK):AK:=qe a (.seq b c)
@[reducible] def qN(a b:Nat)(c:AOp):CO:=qF a (.t b) c
@[reducible] def qO(a:Nat)(b:Int):CO:=qd a (qk b)
@[reducible] def qQ(a b c:Nat):CO:=qN a b (.t c)
@[reducible] def qS(a:List CO)(b:Nat)(c:AK):AK:=qC a b c .skip
@[reducible] def qT(a:Nat)(b:AV):CO:=qd a (.c b)
@[reducible] def qU(a:Nat)(b c:AOp):AI:= .pick (.t a) b c
@[reducible] def qV(a b:Nat):CO:=qb a (qx b)
@[reducible] def qW(a b:Nat)(c:AOp):AI:= .idxS a (.t b) c
@[reducible] def qX(a:Nat)(b:List AV):CO:=qb a (.alloc b)
@[reducible] def qY(a b:Nat)(c:List AV)(d:Nat)(e:List (Nat × Nat × AOp)):CO:=qb a (.bsl b c d e)
@[reducible] def qZ(a:Nat):CO:=qg a 0
@[reducible] def wa(a:Nat)(b:AK):AK:= .blk a (.loop b)
@[reducible] def wb(a b:Nat)(c:Int):CO:=qy a .eql b c
@[reducible] def wc(a:AK)(b:List CO):AK:= .seq a (.reg b)
@[reducible] def wd(a:Nat):AI:=qI (.t a)
@[reducible] def we(a b:Nat):AI:= .box a (.t b)
@[reducible] def wg:AV:=qt true
@[reducible] def wh(a:Option Nat)(b c:Nat):CO:=qB (.chk a b c)
@[reducible] def wj(a:Nat):AI:=qj none a
@[reducible] def wl(a:List CO)(b:Nat)(c:List CO):AK:=qS a b (qA c)
@[reducible] def wm(a b:Nat)(c d:AOp):CO:=qb a (qU b c d)
@[reducible] def wn(a:Nat):AI:= .not (.t a)
@[reducible] def wo(a:Nat)(b:BinOp)(c d:Nat):CO:=qu a b c (.t d)
@[reducible] def wq(a b:Nat):CO:=qb a (wd b)
@[reducible] def ws(a:Nat)(b:List AV)(c:List (Nat × Nat × AOp)):CO:=qb a (.bld b c)
@[reducible] def wt(a:Nat):AI:= .mov (.t a)
@[reducible] def wu(a b c:Nat)(d:AOp):CO:=qb a (qW b c d)
@[reducible] def ww(a b:Nat):AI:= .ext a (.t b)
@[reducible] def wx(a:Nat)(b:AK)(c:List CO):AK:=wc (.blk a b) c
@[reducible] def wy(a:Nat)(b:List AOp):CO:=qo a be b
@[reducible] def wz(a b c:Nat):CO:=qb a (we b c)
@[reducible] def wA:AK:= .exit 0
@[reducible] def wB(a b c d:Nat):CO:=wu a b c (.t d)
@[reducible] def wD(a:Nat)(b:AOp):List AOp:=[.t a,b]
@[reducible] def wE(a:Nat)(b:FuncId)(c:Nat)(d:AOp):CO:=qo a b (wD c d)
@[reducible] def wF(a:Nat)(b:FuncId)(c d:Nat):CO:=wE a b c (.t d)
@[reducible] def wG(a b:Nat)(c:Int):CO:=qy a .add b c
@[reducible] def wH(a b c:Nat)(d:AOp):AI:= .app a b (.t c) d
@[reducible] def wI(a:Nat):CO:=qT a qz
@[reducible] def wJ(a b c:Nat):Nat × Nat × AOp:=(a,b,.t c)
@[reducible] def wK:AOp:= .c qz
@[reducible] def wL(a:List CO)(b:Nat)(c:AK):AK:=qC a b .skip c
@[reducible] def wM(a b:List CO):AK:=qe a (qA b)
@[reducible] def wN(a:List CO)(b:Nat)(c d:AK):AK:= .seq (wL a b c) d
@[reducible] def wP(a b c:Nat):CO:=qb a (ww b c)
@[reducible] def wQ(a b c:Nat):CO:=qK a b (wj c)
@[reducible] def wR(a:List CO)(b:Nat)(c:AK):AK:=qe a (wa b c)
@[reducible] def wS(a b c d:Nat):CO:=qK a b (qi c d)
@[reducible] def wT(a b:Nat):CO:=qq a 0 b
@[reducible] def wU(a:CO)(b c:Nat):List CO:=[a,qg b c]
@[reducible] def wV(a b:Nat)(c:Int)(d e:Nat):List CO:=wU (wb a b c) d e
@[reducible] def wW(a:List UInt8):AOp:= .c (qv a)
@[reducible] def wX(a b:Nat):CO:=wh none a b
@[reducible] def wY(a:Nat):CO:=qO a 0
@[reducible] def wZ(a:List CO)(b:AK)(c:List CO):AK:=qM a b (qA c)
@[reducible] def xa(a b c:Nat):CO:=wo a .lss b c
@[reducible] def xb:AOp:= .c wg
@[reducible] def xc(a b c:Nat):CO:=wF a dh b c
@[reducible] def xd(a:BinOp)(b:Nat)(c:Int):AI:=ql a b (qk c)
@[reducible] def xe(a b c:Nat)(d:AOp):CO:=wm a b (.t c) d
@[reducible] def xf(a b c d:Nat):AI:=wH a b c (.t d)
@[reducible] def xg(a b c d e:Nat):CO:=qb a (xf b c d e)
@[reducible] def xh(a:Nat):CO:=qg a 1
@[reducible] def xi(a b:Nat)(c:Int):Nat × Nat × AOp:=(a,b,qk c)
@[reducible] def xj(a:Nat)(b:Int):Nat × Nat × AOp:=xi a 1 b
@[reducible] def xk(a b:Nat)(c:AOp)(d:Nat):CO:=wm a b c (.t d)
@[reducible] def xm:CO:=wI 4
@[reducible] def xn(a b:Nat):CO:=qQ 1 a b
@[reducible] def xo(a:List CO)(b:Nat)(c:List CO):AK:=qS a b (.reg c)
@[reducible] def xp:RV:= .t 4
@[reducible] def xq(a:Nat):List AOp:=[.t a]
@[reducible] def xr(a:Nat)(b:FuncId)(c:Nat):CO:=qo a b (xq c)
@[reducible] def xt(a:Nat):CO:=qg a 5
@[reducible] def xu(a b:Nat):Nat × Nat × AOp:=wJ a 1 b
@[reducible] def xv(a b:Nat):CO:=qb a (wn b)
@[reducible] def xw(a b:Nat):CO:=qq a 2 b
@[reducible] def xx(a b:Nat)(c:Int)(d e f:Nat)(g h:AK):AK:=qC (wV a b c d e) f g h
@[reducible] def xy(a b:List CO)(c:AK):AK:=qe a (qe b c)
@[reducible] def xz(a:Nat):CO:=qg a 2
@[reducible] def xA(a b:Nat):RV:= .c a (some b)
@[reducible] def xB(a b c:Nat):CO:=qL a b (wj c)
@[reducible] def xC(a b c:Nat):CO:=qL a b (wt c)
@[reducible] def xD(a b c d:Nat):CO:=qL a b (qi c d)
@[reducible] def xE(a:Nat)(b:AK):AK:=qp a .skip b
@[reducible] def xF(a:Nat)(b c:AOp):List AOp:=[.t a,b,c]
@[reducible] def xG(a:Nat)(b:FuncId)(c:Nat)(d e:AOp):CO:=qo a b (xF c d e)
@[reducible] def xH(a:Nat)(b:FuncId)(c d:Nat)(e:AOp):CO:=xG a b c (.t d) e
@[reducible] def xI(a:Nat)(b:FuncId)(c d e:Nat):CO:=xH a b c d (.t e)
@[reducible] def xJ(a:FuncId)(b:Nat)(c:AOp):AI:= .call a (wD b c)
@[reducible] def xK(a:List CO)(b:Nat)(c:AK)(d:Nat)(e:AK)(f:List CO):AK:=wN a b c (wx d e f)
@[reducible] def xL(a b:List CO):AK:=qe a (.reg b)
@[reducible] def xM:RV:= .t 2
@[reducible] def xN(a b:Nat):CO:=qq a 1 b
@[reducible] def xO(a b:Nat)(c:Int):CO:=qy a .sub b c
@[reducible] def xP(a b c:Nat):CO:=wF a dD b c
@[reducible] def xQ(a b c d:Nat):CO:=xI a cd b c d
@[reducible] def xR(a b c:Nat):CO:=xe a b c wK
@[reducible] def xS(a b c:Nat):CO:=qK a b (wt c)
@[reducible] def xT(a b:Nat)(c:BinOp)(d:Nat)(e:Int):CO:=qK a b (xd c d e)
@[reducible] def xU(a b:Nat)(c:List AV)(d:Nat)(e:List (Nat × Nat × AOp)):CO:=qb a (.bslP b c d e)
@[reducible] def xV(a:AK)(b:List CO):AK:= .seq a (qA b)
@[reducible] def xW(a b:Nat):CO:=qq a 3 b
@[reducible] def xX(a:List CO)(b:Nat)(c:List CO)(d:Nat)(e:AK)(f:Nat)(g:AK)(h:List CO):AK:=wR a b (xK c d e f g h)
@[reducible] def xY:CO:=wY 4
@[reducible] def xZ(a b c:Nat):CO:=xk a b xb c
@[reducible] def x7(a:Nat)(b:FuncId)(c:Nat)(d:Int):CO:=wE a b c (qk d)
@[reducible] def x8(a b:Nat):CO:=wG a b 1
@[reducible] def x9(a:Nat):CO:=qg 6 a
@[reducible] def ya(a:List AOp):AI:= .call lh a
@[reducible] def yb(a b:Nat):CO:=qH a 4 b
@[reducible] def yc(a:Nat)(b:List AOp):AI:= .callv (.t a) b
@[reducible] def yd(a:Nat):CO:=qg a 8
@[reducible] def ye(a:Nat):CO:=qT a .nils
@[reducible] def yf(a b:Nat)(c:Int):CO:=x7 a jn b c
@[reducible] def yg:List AV:=[.nils]
@[reducible] def yh(a:Nat):CO:=qg a 7
@[reducible] def yi:AOp:=qk 0
@[reducible] def yj(a b:Nat)(c:Int):CO:=x7 a cY b c
@[reducible] def yk(a b:Nat):Nat × Nat × AOp:=wJ 0 a b
@[reducible] def yl(a b:Nat)(c:AOp):CO:=wy a (wD b c)
@[reducible] def ym(a:List CO)(b:Nat)(c d:AK):AK:=qM a (xE b c) d
@[reducible] def yn(a b:List CO)(c:Nat)(d:List CO)(e:AK):AK:=qM a (wl b c d) e
@[reducible] def yp:CO:=wI 2
@[reducible] def yq(a:BinOp)(b:Nat)(c:AOp):AI:= .bins a (.t b) c
@[reducible] def yr(a b c:Nat):CO:=wh (some a) b c
@[reducible] def yt:List RV:=[xp]
@[reducible] def yu(a b:Nat)(c:Int):CO:=qy a .gtr b c
@[reducible] def yv(a:Int):Nat × Nat × AOp:=xj 0 a
@[reducible] def yw(a b c d:Nat):List CO:=wU (x8 a b) c d
@[reducible] def yx(a b:Nat):List (Nat × Nat × AOp):=[yk a b]
@[reducible] def yy(a b:Nat)(c:List AV)(d e f:Nat):CO:=qY a b c d (yx e f)
@[reducible] def yz(a:Nat):CO:=qg 4 a
@[reducible] def yA(a b:Nat):CO:=wz a b 0
@[reducible] def yB(a b c d:Nat):CO:=xI a bp b c d
@[reducible] def yC(a:List CO)(b:Nat)(c:List CO)(d:Nat)(e f:AK):AK:=wR a b (ym c d e f)
def sg:FK:=⟨15,[.t 6],wM [wI 6] [qZ 7,xh 8,wo 9 .geq 7 8,qg 10 9,xS 11 10 0,xS 12 10 2,qK 13 10 (ql .leq 11 (.t 12)),xR 14 10 13,x9 14]⟩
theorem Hk:ag Tryz.prog lh=some sg:=by kernel_rfl
def sJ:FK:=⟨18,yt,wZ [xY] (xX [wY 5] 0 [xt 6,qZ 7,qb 8 (.len true (.t 7)),xa 9 6 8] 9 wA 1 (wl [qZ 12,xt 13,qb 14 (.idxStr (.t 12) (.t 13)),xh 15,wo 16 .eql 14 15] 16 (wU (xt 17) 4 17)) [xt 10,x8 11 10,qg 5 11]) [qO 4 (-1)]⟩
theorem BD:ag Tryz.prog mM=some sJ:=by kernel_rfl
def sh:FK:=⟨28,[xM],wZ [wY 2] (.blk 0 (qC [qZ 4,qu 5 .geq 4 (.c (qf .u8 97)),xt 6,xS 7 6 0,qK 8 6 (ql .leq 7 (.c (qf .u8 122))),xR 9 6 8,qg 3 9] 3 (qA [qO 2 1]) (qC [qZ 11,qu 12 .geq 11 (.c (qf .u8 48)),qg 13 12,xS 14 13 0,qK 15 13 (ql .leq 14 (.c (qf .u8 57))),xR 16 13 15,qg 10 16] 10 (qA [qO 2 2]) (qC [qZ 18,qo 19 mM [wW [40,41,123,125,59,44,43,45,42,47,37,60,61,38,33,64],.t 18],qy 20 .geq 19 0,qg 17 20] 17 (qA [qO 2 3]) (wl [qZ 22,qu 23 .eql 22 (.c (qf .u8 32)),qg 24 23,xC 25 24 0,qL 26 24 (ql .eql 25 (.c (qf .u8 10))),xZ 27 24 26,qg 21 27] 21 [qO 2 4]))))) [wY 2]⟩
theorem Dn:ag Tryz.prog mC=some sh:=by kernel_rfl
def vt:FK:=⟨21,yt,wZ [xm] (xX [wY 5] 0 [xt 6,qZ 7,qb 8 (.len true (.t 7)),xa 9 6 8] 9 wA 1 (wl [qZ 12,xt 13,qb 14 (.idxStr (.t 12) (.t 13)),xr 15 mC 14,xh 16,wo 17 .neq 15 16] 17 [xm]) [xt 10,x8 11 10,qg 5 11]) [qZ 18,qb 19 (.len true (.t 18)),yu 20 19 0,yz 20]⟩
theorem FV:ag Tryz.prog pJ=some vt:=by kernel_rfl
def ra:FK:=⟨2,[.t 0],wM [ye 0] (wU (qY 1 1 [qG] 9 [(0,1,wW [102,110]),(1,1,wW [108,101,116]),(2,1,wW [115,97,121]),(3,1,wW [112,117,116]),(4,1,wW [105,102]),(5,1,wW [101,108,115,101]),(6,1,wW [108,111,111,112]),(7,1,wW [98,97,99,107]),(8,1,wW [100,111])]) 0 1)⟩
theorem AB:ag Tryz.prog ic=some ra:=by kernel_rfl
def vZ:FK:=⟨18,[xM],qe [yp] (wZ (wU (qo 5 ic []) 3 5) (xX [xY] 0 [x9 4,qg 7 3,wq 8 7,xa 9 6 8] 9 wA 1 (wl [qg 12 3,qg 13 4,wB 14 1 12 13,qr 15 14,qZ 16,qb 17 (yq .eql 15 (.t 16))] 17 [qT 2 wg]) [qg 10 4,x8 11 10,yz 11]) [yp])⟩
theorem Fb:ag Tryz.prog pN=some vZ:=by kernel_rfl
def tV:FK:=⟨15,[xM],wM [yp] [qZ 3,x7 4 pJ 3 1,qg 5 4,xS 6 5 0,qK 7 5 (.len true (.t 6)),xT 8 5 .leq 7 4,xR 9 5 8,qg 10 9,xS 11 10 0,qK 12 10 (.call pN (xq 11)),qK 13 10 (wn 12),xR 14 10 13,qg 2 14]⟩
theorem Dz:ag Tryz.prog dd=some tV:=by kernel_rfl
def ou:FK:=⟨5,[xM],wZ [wY 2] (wl [qZ 3,wb 4 3 4] 4 [qO 2 2]) [qO 2 1]⟩
theorem DI:ag Tryz.prog kI=some ou:=by kernel_rfl
def dO:FK:=⟨13,[xM,.t 3],wZ [wY 2,wY 3] (qe [qZ 4] (.blk 0 (wN (wV 6 4 1 5 6) 5 (.reg (wV 7 4 2 5 7)) (qp 5 (qA [wY 2,wY 3]) (wN (wV 9 4 11 8 9) 8 (.reg (wV 10 4 12 8 10)) (qp 8 (qA [qO 2 1,qO 3 1]) (wl (wV 12 4 13 11 12) 11 [wY 2,qO 3 3]))))))) [qO 2 2,qO 3 2]⟩
theorem DX:ag Tryz.prog kJ=some dO:=by kernel_rfl
def kz:FK:=⟨86,yt,qe [yA 2 4,xm] (yn [wT 10 2,qr 11 10,xr 12 kJ 11,qg 9 12,wP 13 0 9,wP 14 1 9,qg 5 13,x9 14] [xh 15,qy 16 .lss 15 1,qg 17 16,xD 18 17 0 2,xB 19 17 18,qL 20 17 (ya (xF 19 (qk 1) (qk 13))),qL 21 17 (wn 20),xZ 22 17 21,qg 23 22,xD 24 23 3 2,xB 25 23 24,qL 26 23 (wd 25),xC 27 23 5,xC 28 23 6,qL 29 23 (ya (xF 26 (.t 27) (.t 28))),qL 30 23 (wn 29),xZ 31 23 30] 31 [xm] (yn [wT 32 2,qr 33 32,wb 34 33 2,qg 35 34,xD 36 35 0 2,xB 37 35 36,qL 38 35 (xd .eql 37 13),xZ 39 35 38,qg 7 39] [yh 40,xw 41 2,qr 42 41,xr 43 dd 42,qb 44 (.beq true (.t 40) (.t 43)),qg 45 44,xC 46 45 7,qL 47 45 (wn 46),xC 48 45 47,wS 49 48 2 2,wQ 50 48 49,qK 51 48 (yq .neq 50 (.c qG)),qL 52 45 (qU 48 (.t 51) wK),xZ 53 45 52,qg 54 53,xD 55 54 1 2,xB 56 54 55,qL 57 54 (ya (xF 56 yi (qk 255))),qL 58 54 (wn 57),xZ 59 54 58,qg 60 59,xD 61 60 0 2,xB 62 60 61,qL 63 60 (xd .neq 62 1),xC 64 60 63,wS 65 64 1 2,wQ 66 64 65,xT 67 64 .neq 66 0,qL 68 60 (qU 64 (.t 67) wK),xZ 69 60 68] 69 [xm] (xV (xX [wY 8] 0 [yd 70,xW 71 2,qr 72 71,wq 73 72,xa 74 70 73] 74 wA 1 (wl [xW 77 2,qr 78 77,yd 79,wB 80 4 78 79,yb 81 80,xh 82,xO 83 82 1,wF 84 gW 81 83,xv 85 84] 85 [xm]) [yd 75,x8 76 75,qg 8 76]) [qT 4 wg])))⟩
theorem tO:ag Tryz.prog gW=some kz:=by kernel_rfl
def rQ:FK:=⟨21,[xM],qe [yA 1 4,wY 2] (wZ [qO 3 1] (xX [xY] 0 [qg 5 4,xW 6 1,qr 7 6,wq 8 7,xa 9 5 8] 9 wA 1 (.reg [qg 12 3,xW 13 1,qr 14 13,qg 15 4,wB 16 4 14 15,yb 17 16,xr 18 iQ 17,wo 19 .add 12 18,qg 3 19]) [qg 10 4,x8 11 10,yz 11]) (wU (qg 20 3) 2 20))⟩
theorem CZ:ag Tryz.prog iQ=some rQ:=by kernel_rfl
def pc:FK:=⟨10,[xM],wM [yA 1 4,yp] [yb 3 1,x7 4 gW 3 6,qg 5 4,qK 6 5 (qj (some 4) 1),qK 7 5 (.call iQ (xq 6)),xT 8 5 .leq 7 30,xR 9 5 8,qg 2 9]⟩
theorem zO:ag Tryz.prog gk=some pc:=by kernel_rfl
def kH:FK:=⟨108,yt,yn [yA 2 5,xm] [xh 7,qy 8 .lss 7 1,yd 9,xD 10 9 0 2,xB 11 9 10,qL 12 9 (ya (xF 11 (qk 1) (qk 8))),qL 13 9 (wn 12),xZ 14 9 13,qg 15 14,xD 16 15 2 2,xD 19 15 0 2,xB 17 15 16,qL 18 15 (wd 17),xB 20 15 19,qL 21 15 (.qcall kI (xq 20)),qL 22 15 (ql .neq 18 (.t 21)),xZ 23 15 22] 23 [xm] (yn [wT 24 2,qr 25 24,wb 26 25 1,qg 27 26,xD 28 27 0 2,xB 29 27 28,qL 30 27 (xd .eql 29 2),xZ 31 27 30,qg 5 31] [xt 32,xN 33 2,qr 34 33,xr 35 dd 34,qb 36 (.beq true (.t 32) (.t 35)),qg 37 36,xC 38 37 5,qL 39 37 (wn 38),xC 40 37 39,wS 41 40 1 2,wQ 42 40 41,qK 43 40 (yq .neq 42 (.c qG)),qL 44 37 (qU 40 (.t 43) wK),xZ 45 37 44] 45 [xm] (.seq (xX [wY 6] 0 [qg 46 6,xw 47 2,qr 48 47,wq 49 48,xa 50 46 49] 50 wA 1 (wl [xw 53 2,qr 54 53,qg 55 6,wB 56 4 54 55,yb 57 56,xr 58 gk 57,xv 59 58] 59 [xm]) [qg 51 6,x8 52 51,x9 52]) (.seq (wl [wT 60 2,qr 61 60,wb 62 61 8,qg 63 62,wS 64 63 2 2,wQ 65 63 64,qK 66 63 (qW 4 65 yi),wS 67 63 0 66,wQ 68 63 67,xT 69 63 .neq 68 13,xR 70 63 69] 70 [xm]) (xV (wl [qq 71 4 2,qr 72 71,wq 73 72,yu 74 73 0,qg 75 74,wS 76 75 0 2,wQ 77 75 76,xT 78 75 .neq 77 5,xR 79 75 78,qg 80 79,xD 81 80 3 2,xB 82 80 81,qL 83 80 (wd 82),qL 84 80 (xd .gtr 83 0),xC 85 80 84,wS 86 85 0 2,wQ 87 85 86,xT 88 85 .neq 87 5,qL 89 80 (qU 85 (.t 88) wK),xC 90 80 89,wS 91 90 0 2,wQ 92 90 91,xT 93 90 .neq 92 6,qL 94 80 (qU 90 (.t 93) wK),xZ 95 80 94] 95 [xm]) [xW 96 2,qr 97 96,xh 98,xO 99 98 1,wF 100 cD 97 99,qg 101 100,wS 102 101 4 2,wQ 103 101 102,xS 104 101 1,xT 105 101 .sub 104 1,qK 106 101 (xJ cD 103 (.t 105)),xR 107 101 106,yz 107]))))⟩
theorem tQ:ag Tryz.prog kw=some kH:=by kernel_rfl
def rq:FK:=⟨19,yt,wZ [xm] (xX [wY 5] 0 [xt 6,qZ 7,wq 8 7,xa 9 6 8] 9 wA 1 (wl [qZ 12,xt 13,wB 14 5 12 13,qH 15 5 14,xh 16,wF 17 kw 15 16,xv 18 17] 18 [xm]) [xt 10,x8 11 10,qg 5 11]) [qT 4 wg]⟩
theorem BS:ag Tryz.prog cD=some rq:=by kernel_rfl
def Ae:FK:=⟨32,[xM],wZ [yA 1 3,yp] (xX [wY 3] 0 [yz 3,xN 5 1,qr 6 5,wq 7 6,xa 8 4 7] 8 wA 1 (wl [xN 11 1,qr 12 11,qg 13 3,wB 14 1 12 13,qr 15 14,xr 16 dd 15,xv 17 16] 17 [yp]) [qg 9 3,x8 10 9,qg 3 10]) [wT 18 1,qr 19 18,xr 20 dd 19,qg 21 20,wS 22 21 1 1,wQ 23 21 22,qK 24 21 (wd 23),xT 25 21 .leq 24 3,xR 26 21 25,qg 27 26,wS 28 27 2 1,wQ 29 27 28,qK 30 27 (xJ cD 29 (qk 4)),xR 31 27 30,qg 2 31]⟩
theorem Hv:ag Tryz.prog sD=some Ae:=by kernel_rfl
def mF:FK:=⟨29,[xM],qe [wY 2] (wZ [qZ 5,wq 6 5,qg 3 6] (xX [xY] 0 [qg 7 4,qZ 8,wq 9 8,xa 10 7 9] 10 wA 1 (.reg [qg 13 3,qZ 14,qg 15 4,wB 16 5 14 15,xW 17 16,qZ 21,qg 22 4,wB 23 5 21 22,qq 24 4 23,qr 18 17,qr 25 24,xr 19 fY 18,wX 24 25,wo 20 .add 13 19,xr 26 fY 25,wo 27 .add 20 26,qg 3 27]) [qg 11 4,x8 12 11,yz 12]) (wU (qg 28 3) 2 28))⟩
theorem sC:ag Tryz.prog fY=some mF:=by kernel_rfl
def ze:FK:=⟨22,[xM],qe [yA 1 1,wY 2] (wZ [wY 3] (xX [xY] 0 [qg 5 4,wT 6 1,qr 7 6,wq 8 7,xa 9 5 8] 9 wA 1 (.reg [qg 12 3,wT 13 1,qr 14 13,qg 15 4,wB 16 3 14 15,xw 17 16,qr 18 17,xr 19 fY 18,wo 20 .add 12 19,qg 3 20]) [qg 10 4,x8 11 10,yz 11]) (wU (qg 21 3) 2 21))⟩
theorem FG:ag Tryz.prog pt=some ze:=by kernel_rfl
def lU:FK:=⟨26,[xM],yn [yA 1 1,yp] [wT 4 1,qr 5 4,wq 6 5,xG 7 lh 6 (qk 1) (qk 4),xv 8 7] 8 [yp] (xV (xX [wY 3] 0 [qg 9 3,wT 10 1,qr 11 10,wq 12 11,xa 13 9 12] 13 wA 1 (wl [wT 16 1,qr 17 16,qg 18 3,wB 19 3 17 18,qH 20 3 19,xr 21 sD 20,xv 22 21] 22 [yp]) [qg 14 3,x8 15 14,qg 3 15]) [qH 23 1 1,xr 24 pt 23,qy 25 .leq 24 40,qg 2 25])⟩
theorem tq:ag Tryz.prog eb=some lU:=by kernel_rfl
def Ah:FK:=⟨22,yt,wZ [yA 2 1,xY] (xX [wY 5] 0 [xt 6,wT 7 2,qr 8 7,wq 9 8,xa 10 6 9] 10 wA 1 (wl [wT 13 2,qr 14 13,xt 15,wB 16 3 14 15,wT 17 16,qr 18 17,xh 19,qb 20 (yq .eql 18 (.t 19))] 20 (wU (xt 21) 4 21)) [xt 11,x8 12 11,qg 5 12]) [qO 4 (-1)]⟩
theorem GP:ag Tryz.prog kO=some Ah:=by kernel_rfl
def iy:FK:=⟨13,[],xo [qZ 4,qV 5 4,qq 6 4 5,qr 7 6,wb 8 7 0] 8 [qZ 9,xh 10,qV 11 9,qq 12 4 11,xn 12 10]⟩
theorem uM:ag Tryz.prog bK=some iy:=by kernel_rfl
def ip:FK:=⟨27,yt,wZ [xY] (xX [qZ 6,qV 7 6,xw 8 7,qr 9 8,wq 10 9,xO 11 10 1,qg 5 11] 0 [xt 12,qy 13 .geq 12 0] 13 wA 1 (wl [qZ 16,qV 17 16,xw 18 17,qr 19 18,xt 20,wB 21 3 19 20,wT 22 21,qr 23 22,xh 24,qb 25 (yq .eql 23 (.t 24))] 25 (wU (xt 26) 4 26)) [xt 14,xO 15 14 1,qg 5 15]) [qO 4 (-1)]⟩
theorem uE:ag Tryz.prog fb=some ip:=by kernel_rfl
def ue:FK:=⟨11,[xM],qe [qT 2 qG] (wM [qZ 4,qy 5 .rem 4 26,xt 3] [x9 3,qg 7 3,x8 8 7,qb 9 (.slStr (wW [97,98,99,100,101,102,103,104,105,106,107,108,109,110,111,112,113,114,115,116,117,118,119,120,121,122]) (some (.t 6)) (some (.t 8))),qb 10 (.bins .add (wW [118]) (.t 9)),qg 2 10])⟩
theorem DB:ag Tryz.prog kK=some ue:=by kernel_rfl
def iV:AK:=xy [qT 6 qG] [qZ 8,xh 9,wF 10 fb 8 9,qg 7 10] (.cut (xo [yh 11,qy 12 .geq 11 0,qg 13 12,xS 14 13 0,qK 15 13 (qx 14),wS 16 13 2 15,wQ 17 13 16,xS 18 13 7,qK 19 13 (qW 3 17 (.t 18)),wS 20 13 2 19,wQ 21 13 20,xS 22 13 2,qK 23 13 (ql .eql 21 (.t 22)),xR 24 13 23] 24 [qZ 25,x7 26 bK 25 2]) (qe [qZ 27,qZ 28,qV 29 28,xw 30 29,xh 32,qZ 33,qV 34 33,xW 35 34,xz 37,qr 31 30,qr 36 35,ws 38 [qG,qD,qD] [xu 0 32,xu 1 36,xu 2 37],xU 39 3 [qG,qD,qD] 1 (yx 3 38),xg 40 3 32 31 39,qV 41 27,xw 42 41,xn 42 40] (wM [qZ 43,qZ 44,qV 45 44,xW 46 45,qr 47 46,x8 48 47,qV 49 43,xW 50 49,xn 50 48] [qZ 51,qV 52 51,xW 53 52,qr 54 53,xO 55 54 1,xr 56 kK 55,x9 56])))
def jC:FK:=⟨57,[.t 6],(AK.whole iV)⟩
theorem vO:ag Tryz.prog fM=some jC:=by kernel_rfl
def nW:FK:=⟨23,yt,qe [qT 4 qG] (wZ [qZ 6,xh 7,wF 8 fb 6 7,yd 5] (qS [xt 9,qy 10 .lss 9 0] 10 (wM [qZ 11,x7 12 bK 11 3] (wU (xh 13) 4 13))) [qZ 14,qV 15 14,xw 16 15,qr 17 16,xt 18,wB 19 3 17 18,xN 20 19,qr 21 20,xr 22 kK 21,yz 22])⟩
theorem vW:ag Tryz.prog fH=some nW:=by kernel_rfl
def iw:AK:=qe [wz 3 4 1,qX 4 [qD,qD,qG,.nils]] (.cut (xo [wT 8 3,qr 9 8,wb 10 9 2] 10 [qZ 11,xw 12 3,qr 13 12,wF 14 fH 11 13,xw 15 3,xn 15 14]) (.cut (qS [wT 16 3,qr 17 16,wb 18 17 13] 18 (qe [qZ 19,qV 20 19,wT 21 20,xw 23 3,qH 22 1 21,qr 24 23,wF 25 kO 22 24,qg 5 25] (qC [xt 26,qy 27 .lss 26 0,qg 28 27,xC 29 28 5,xC 30 28 0,qL 31 28 (qx 30),xD 32 28 1 31,xB 33 28 32,qL 34 28 (ql .geq 29 (.t 33)),xZ 35 28 34] 35 (.reg [qZ 36,x7 37 bK 36 4]) (xo [qZ 38,qV 39 38,wT 40 39,wT 41 40,xt 43,xW 48 3,qr 42 41,wB 44 3 42 43,xN 45 44,qr 46 45,wq 47 46,qr 49 48,wq 50 49,wo 51 .neq 47 50] 51 [qZ 52,x7 53 bK 52 5])))) (qM (wU (qY 54 4 [qD,qD,qG,.nils] 0 []) 6 54) (xX [wY 7] 0 [yh 55,xW 56 3,qr 57 56,wq 58 57,xa 59 55 58] 59 wA 1 (.reg [qg 62 6,qZ 63,xW 64 3,qr 65 64,yh 66,wB 67 4 65 66,yb 68 67,wF 69 dq 63 68,yy 70 4 [qD,qD,qG,.nils] 1 4 69,xg 71 4 56 62 70,x9 71]) [yh 60,x8 61 60,qg 7 61]) (wM [qg 72 6,xW 73 3,xn 73 72] [yb 74 3,qQ 4 4 74]))))
def ir:FK:=⟨75,[xA 4 4],(AK.whole iw)⟩
theorem uI:ag Tryz.prog dq=some ir:=by kernel_rfl
def gM:AK:=xy [ye 6] (wU (qY 13 5 [qD,qG,.nils,.nils,.nils] 0 []) 7 13) (qM [qZ 14,qV 15 14,xw 16 15,qr 17 16,wq 18 17,qg 8 18] (xX [wY 9] 0 [qg 19 9,xh 20,wq 21 20,xa 22 19 21] 22 wA 1 (qe [xh 25,qg 26 9,wB 27 5 25 26,qH 28 5 27,qX 10 [qD,qG,.nils,.nils,.nils],qQ 5 10 28] (qM (wU (qY 29 4 [qD,qD,qG,.nils] 0 []) 11 29) (xX [wY 12] 2 [qg 30 12,xw 31 10,qr 32 31,wq 33 32,xa 34 30 33] 34 (.exit 2) 3 (.reg [qg 37 11,qZ 38,xw 39 10,qr 40 39,qg 41 12,wB 42 4 40 41,yb 43 42,wF 44 dq 38 43,yy 45 4 [qD,qD,qG,.nils] 1 4 44,xg 46 4 56 37 45,qg 11 46]) [qg 35 12,x8 36 35,qg 12 36]) (.cut (.reg [qg 47 11,xw 48 10,xn 48 47]) (.cut (xo [wT 49 10,qr 50 49,wb 51 50 1] 51 [qZ 52,xN 53 10,qr 54 53,xz 55,xI 56 fM 52 54 55,xN 57 10,xn 57 56]) (.cut (xo [wT 58 10,qr 59 58,wb 60 59 2] 60 [qZ 61,xN 62 10,qr 63 62,wF 64 fH 61 63,xN 65 10,xn 65 64]) (xy [qZ 66,xW 67 10,qr 68 67,xz 69,x8 70 69,xI 71 cQ 66 68 70,xW 72 10,xn 72 71] [qZ 73,qq 74 4 10,qr 75 74,xz 76,x8 77 76,xI 78 cQ 73 75 77,qq 79 4 10,xn 79 78] (.reg [yh 80,qH 81 5 10,yy 82 5 [qD,qG,.nils,.nils,.nils] 1 5 81,xg 83 5 96 80 82,qg 7 83]))))))) [qg 23 9,x8 24 23,qg 9 24]) (.cut (xo [xz 84,yu 85 84 0] 85 [qZ 86,qZ 87,qV 88 87,xw 89 88,qr 90 89,yd 91,qb 92 (.slS 3 (.t 90) none (some (.t 91))),qV 93 86,xw 94 93,xn 94 92]) (qA (wU (yh 95) 6 95))))
def gA:FK:=⟨96,[.t 6],(AK.whole gM)⟩
theorem tz:ag Tryz.prog cQ=some gA:=by kernel_rfl
def si:AK:=xy [yA 2 1,qX 4 [qG,.nils,.nils],wY 5,wY 6] [qH 11 1 2,xh 12,ws 13 [.nils,qD,.nils,qD,qD] [xu 0 11,xu 1 12],wz 14 5 13,qg 7 14] (.cut (.reg [wT 15 2,qr 16 15,xh 17,wB 18 3 16 17,qH 19 3 18,qX 8 [qG,.nils,.nils],qQ 3 8 19]) (.cut (xo [qH 20 1 2,wT 21 8,qr 22 21,wF 23 kO 20 22,xh 24,wo 25 .neq 23 24] 25 [yh 26,x7 27 bK 26 2]) (qM (wU (qY 28 1 [qG] 0 []) 9 28) (xX [wY 10] 0 [qg 29 10,xN 30 8,qr 31 30,wq 32 31,xa 33 29 32] 33 wA 1 (.reg [qg 36 9,yh 37,xN 38 8,qr 39 38,qg 40 10,wB 41 1 39 40,qr 42 41,xH 43 fM 37 42 yi,qY 44 1 [qG] 1 [xu 0 43],xg 45 1 16 36 44,qg 9 45]) [qg 34 10,x8 35 34,qg 10 35]) (qe [qg 46 9,xN 47 8,xn 47 46] (wM [yh 48,xw 49 8,qr 50 49,xH 51 cQ 48 50 yi,xw 52 8,xn 52 51] [yh 54,qV 55 54,qq 56 4 55,yh 58,qV 59 58,xW 60 59,qH 53 3 8,qr 57 56,qr 61 60,qQ 3 4 53,wX 56 57,wX 60 61,qg 5 57,x9 61])))))
def sb:FK:=⟨62,[xA 4 3,.t 5,.t 6],(AK.whole si)⟩
theorem Iv:ag Tryz.prog nI=some sb:=by kernel_rfl
def lN:FK:=⟨27,[xM],yn [yA 1 1,wY 2] [qH 7 1 1,xr 8 eb 7,xv 9 8] 9 [qO 2 1] (xV (xX [wY 3] 0 [qg 10 3,wT 11 1,qr 12 11,wq 13 12,xa 14 10 13] 14 wA 1 (qe [qH 18 1 1,qg 19 3,wF 20 nI 18 19,qg 17 20,wP 21 0 17,wP 22 1 17,wP 23 2 17,qX 4 [qG,.nils,.nils],qQ 3 4 21,qg 5 22,x9 23] (wl [xt 24,qy 25 .neq 24 0] 25 (wU (xt 26) 2 26))) [qg 15 3,x8 16 15,qg 3 16]) [wY 2])⟩
theorem tu:ag Tryz.prog gx=some lN:=by kernel_rfl
def tW:FK:=⟨6,[xM],wM [yA 1 1,yp] [qH 3 1 1,xr 4 gx 3,wb 5 4 0,xt 2]⟩
theorem Ec:ag Tryz.prog oa=some tW:=by kernel_rfl
def rd:FK:=⟨16,[xM],wZ [yp] (xX [wY 3] 0 [yz 3,qZ 5,wq 6 5,xa 7 4 6] 7 wA 1 (wl [qZ 10,qg 11 3,wB 12 1 10 11,qr 13 12,xG 14 lh 13 yi (qk 255),xv 15 14] 15 [yp]) [qg 8 3,x8 9 8,qg 3 9]) [qT 2 wg]⟩
theorem AH:ag Tryz.prog lA=some rd:=by kernel_rfl
def uy:FK:=⟨26,yt,wM [yA 2 1,xm] [qH 5 1 2,xr 6 oa 5,qg 7 6,xS 8 7 1,qK 9 7 (.call lA (xq 8)),xR 10 7 9,qg 11 10,xS 12 11 1,qK 13 11 (wd 12),wS 14 11 0 2,wQ 15 11 14,wS 16 11 0 2,wQ 17 11 16,qK 18 11 (wd 17),xT 19 11 .sub 18 1,qK 20 11 (qW 3 15 (.t 19)),wS 21 11 1 20,wQ 22 11 21,qK 23 11 (wd 22),qK 24 11 (ql .eql 13 (.t 23)),xR 25 11 24,yz 25]⟩
theorem Ea:ag Tryz.prog ox=some uy:=by kernel_rfl
def jw:FK:=⟨17,[],qS [qZ 4,qV 5 4,qq 6 6 5,qr 7 6,xv 8 7] 8 (xL [qZ 9,xh 10,qV 11 9,xN 12 11,xN 13 12,xn 13 10] [qZ 14,qV 15 14,qq 16 6 15,qN 1 16 xb])⟩
theorem yQ:ag Tryz.prog cJ=some jw:=by kernel_rfl
def jj:FK:=⟨17,[],wc (wl [qZ 2,qV 3 2,qq 4 5 3,qr 5 4,wb 6 5 0] 6 [qZ 7,x7 8 cJ 7 3]) [qZ 9,qZ 10,qV 11 10,qq 12 5 11,qr 13 12,xO 14 13 1,qV 15 9,qq 16 5 15,xn 16 14]⟩
theorem vI:ag Tryz.prog fP=some jj:=by kernel_rfl
def vr:FK:=⟨20,yt,wZ [xY] (xX [qZ 6,wq 7 6,xO 8 7 1,yd 5] 0 [xt 9,qy 10 .geq 9 0] 10 wA 1 (wl [qZ 13,xt 14,wB 15 1 13 14,qr 16 15,xh 17,qb 18 (yq .eql 16 (.t 17))] 18 (wU (xt 19) 4 19)) [xt 11,xO 12 11 1,qg 5 12]) [qO 4 (-1)]⟩
theorem FP:ag Tryz.prog mj=some vr:=by kernel_rfl
def nJ:FK:=⟨67,[.t 6],xy [wz 4 4 1,wY 6] [qT 7 .any,qZ 10,qV 11 10,wT 12 11,wT 13 12,qZ 15,qV 16 15,wT 17 16,xw 19 4,qr 14 13,qH 18 1 17,qr 20 19,wF 21 kO 18 20,wX 13 14,wB 22 3 14 21,qH 23 3 22,qX 7 [qG,.nils,.nils],qQ 3 7 23] (qM [qY 24 1 [qG] 0 [],xN 25 7,qr 26 25,xg 27 1 16 24 26,ws 28 [.nils,.nils,qz,qD] [xu 0 27],wz 29 4 28,qg 8 29] (xX [wY 9] 0 [qg 30 9,xW 31 4,qr 32 31,wq 33 32,xa 34 30 33] 34 wA 1 (.reg [yd 37,yd 38,qV 39 38,xN 40 39,qZ 42,xW 43 4,qg 45 9,xz 48,qr 41 40,qr 44 43,wB 46 4 44 45,yb 47 46,yB 49 42 47 48,wX 40 41,xU 50 1 [qD] 1 [xu 0 49],xg 51 1 8 41 50,qV 52 37,xN 53 52,xn 53 51]) [qg 35 9,x8 36 35,qg 9 36]) (wZ [qZ 54,xw 55 7,qr 56 55,yd 57,xI 58 aP 54 56 57] (wl [qZ 59,qV 60 59,qq 61 6 60,qr 62 61] 62 [wY 6]) [yd 63,qV 64 63,xW 65 64,qr 66 65,x9 66]))⟩
theorem yO:ag Tryz.prog fG=some nJ:=by kernel_rfl
def sA:FK:=⟨4,[xM],wZ [wY 2] (wl [qZ 3] 3 [qO 2 1]) [wY 2]⟩
theorem CV:ag Tryz.prog eJ=some sA:=by kernel_rfl
def vF:FK:=⟨50,[.t 6,.t 7],qM [wY 6,wY 7] (qe [qZ 8] (.blk 0 (xx 10 8 3 9 10 9 (qA [xh 11,xz 12,wo 13 .add 11 12,qy 14 .rem 13 256,x9 14,wY 7]) (xx 16 8 4 15 16 15 (qA [xh 17,xz 18,wo 19 .sub 17 18,wG 20 19 256,qy 21 .rem 20 256,x9 21,wY 7]) (xx 23 8 5 22 23 22 (qA [xh 24,xz 25,wo 26 .mul 24 25,qy 27 .rem 26 256,x9 27,wY 7]) (xx 29 8 8 28 29 28 (qA [xh 30,xz 31,xa 32 30 31,xr 33 eJ 32,x9 33,wY 7]) (wl (wV 35 8 9 34 35) 34 [xh 36,xz 37,wo 38 .eql 36 37,xr 39 eJ 38,x9 39,wY 7]))))))) (.seq (wl [xz 40,wb 41 40 0] 41 [wY 6,qO 7 1]) (xV (wl [qZ 42,wb 43 42 6] 43 [xh 44,xz 45,wo 46 .quo 44 45,x9 46,wY 7]) [xh 47,xz 48,wo 49 .rem 47 48,x9 49,wY 7]))⟩
theorem Gh:ag Tryz.prog pz=some vF:=by kernel_rfl
def aG:FK:=⟨108,[.t 6],yn [wz 4 4 1,wY 6] [qZ 11,qV 12 11,qq 13 6 12,qr 14 13] 14 [wY 6] (.seq (qe [wT 15 4,qr 16 15] (.blk 0 (xx 18 16 1 17 18 17 (qA [xN 19 4,qr 20 19,x9 20]) (xx 22 16 2 21 22 21 (qA [xz 23,qV 24 23,xN 25 24,xz 27,qV 28 27,wT 29 28,xw 31 4,qr 26 25,qr 30 29,qr 32 31,wF 33 mj 30 32,wX 25 26,wB 34 1 26 33,qr 35 34,x9 35]) (wl (wV 37 16 13 36 37) 36 [qZ 38,yb 39 4,xz 40,xI 41 fG 38 39 40,x9 41]))))) (qM [qZ 42,xW 43 4,qr 44 43,wu 45 4 44 yi,yb 46 45,xz 47,yB 48 42 46 47,qg 7 48] (qe [wT 49 4,qr 50 49] (.blk 1 (xx 52 50 11 51 52 51 (qA [yh 53,wb 54 53 0,xr 55 eJ 54,x9 55]) (xx 57 50 12 56 57 56 (xV (qS [yh 58,qy 59 .geq 58 16] 59 (wM [qZ 60,x7 61 cJ 60 2] [wY 6])) [qZ 62,qV 63 62,xN 64 63,xW 65 64,qr 66 65,yh 67,wB 68 1 66 67,qr 69 68,x9 69]) (qS (wV 71 50 10 70 71) 70 (xV (wl [yh 72,wb 73 72 0] 73 [wY 6]) [qZ 74,xW 75 4,qr 76 75,wu 77 4 76 (qk 1),yb 78 77,xz 79,yB 80 74 78 79,qy 81 .neq 80 0,xr 82 eJ 81,x9 82])))))) (yn [qZ 83,xW 84 4,qr 85 84,wu 86 4 85 (qk 1),yb 87 86,xz 88,yB 89 83 87 88,qg 8 89] [qZ 90,qV 91 90,qq 92 6 91,qr 93 92] 93 [wY 6] (wZ [wT 95 4,qr 96 95,yh 97,yd 98,xI 99 pz 96 97 98,qg 94 99,wP 100 0 94,wP 101 1 94,qg 9 100,qg 10 101] (xo [qg 102 10,qy 103 .neq 102 0] 103 [qZ 104,qg 105 10,wF 106 cJ 104 105]) (wU (qg 107 9) 6 107)))))⟩
theorem jv:ag Tryz.prog bp=some aG:=by kernel_rfl
def nD:FK:=⟨41,[],wR [wz 5 5 1] 0 (wN [xz 8,qy 9 .neq 8 0,qg 10 9,xS 11 10 0,qK 12 10 (qx 11),wS 13 10 6 12,wQ 14 10 13,qK 15 10 (wn 14),xR 16 10 15] 16 wA (.blk 1 (qM [qZ 17,xW 18 5,qr 19 18,qg 20 3,xI 21 aP 17 19 20] (qS [qZ 22,qV 23 22,qq 24 6 23,qr 25 24,qg 26 25,xC 27 26 3,qL 28 26 (qx 27),xD 29 26 2 28,xB 30 26 29,xZ 31 26 30] 31 .ret) (xL [qZ 32,xr 33 fP 32] [qZ 34,xw 35 5,qr 36 35,wu 37 4 36 yi,yb 38 37,qg 39 3,yB 40 34 38 39,qg 2 40]))))⟩
theorem vJ:ag Tryz.prog jt=some nD:=by kernel_rfl
def nO:FK:=⟨127,[],xy [wz 4 5 1] [qZ 8,xw 9 4,qr 10 9,wu 11 4 10 yi,yb 12 11,xz 13,yB 14 8 12 13,x9 14] (qM [wY 7] (xo [wT 15 4,qr 16 15,wb 17 16 4] 17 [qZ 18,xw 19 4,qr 20 19,wu 21 4 20 (qk 1),yb 22 21,xz 23,yB 24 18 22 23,qg 7 24]) (.seq (qS [qZ 25,qV 26 25,qq 27 6 26,qr 28 27] 28 .ret) (qe [wT 29 4,qr 30 29] (.blk 0 (xx 32 30 1 31 32 31 (xL [xz 33,xz 34,qV 35 34,wT 36 35,xN 38 4,qr 37 36,qr 39 38,xU 40 1 [qG] 1 [xu 0 39],xg 41 1 16 37 40,qV 42 33,wT 43 42,xn 43 41] [xz 44,xz 45,qV 46 45,xN 47 46,qr 48 47,qg 49 6,qY 50 1 [qD] 1 [xu 0 49],xg 51 1 8 48 50,qV 52 44,xN 53 52,xn 53 51]) (xx 55 30 2 54 55 54 (.reg [xz 56,qV 57 56,xN 58 57,xz 60,qV 61 60,wT 62 61,xN 64 4,qg 67 6,qr 59 58,qr 63 62,qr 65 64,wF 66 mj 63 65,wX 58 59,wB 68 1 59 66,xn 68 67]) (xx 70 30 3 69 70 69 (.reg [qZ 71,qZ 72,qV 73 72,xN 74 73,wT 75 74,qr 76 75,qg 77 6,qY 78 1 [qD] 1 [xu 0 77],xg 79 1 8 76 78,qV 80 71,xN 81 80,wT 82 81,xn 82 79]) (xx 84 30 4 83 84 83 (wc (wl [qg 85 6,qy 86 .geq 85 16] 86 [qZ 87,x7 88 cJ 87 2]) [qZ 89,qV 90 89,xN 91 90,xW 92 91,qr 93 92,qg 94 6,yh 95,wB 96 1 93 94,xn 96 95]) (xx 98 30 5 97 98 97 (qC [qg 99 6,qy 100 .neq 99 0] 100 (.reg [qZ 101,xW 102 4,qr 103 102,xz 104,xI 105 aP 101 103 104]) (.reg [qZ 106,qq 107 4 4,qr 108 107,xz 109,xI 110 aP 106 108 109])) (xx 112 30 6 111 112 111 (.reg [qZ 113,qH 114 5 4,qg 115 6,xz 116,qo 117 jt [.t 113,.t 114,.t 115,.t 116]]) (qS (wV 119 30 7 118 119) 118 (xL [xz 120,qV 121 120,xw 122 121,qN 1 122 xb] [xz 123,qg 124 6,qV 125 123,xW 126 125,xn 126 124]))))))))))))⟩
theorem yD:ag Tryz.prog jq=some nO:=by kernel_rfl
def io:FK:=⟨65,[],qM [xz 8,qV 9 8,wT 10 9,qr 11 10,wq 12 11,x9 12] (xX [wY 7] 0 [yh 13,xh 14,wq 15 14,xa 16 13 15,qg 17 16,xS 18 17 0,qK 19 17 (qx 18),wS 20 17 6 19,wQ 21 17 20,qK 22 17 (wn 21),xR 23 17 22,qg 24 23,xS 25 24 2,qK 26 24 (qx 25),wS 27 24 2 26,wQ 28 24 27,qK 29 24 (wn 28),xR 30 24 29] 30 wA 1 (qe [qZ 33,xr 34 fP 33] (xo [qZ 35,qV 36 35,qq 37 6 36,qr 38 37,xv 39 38] 39 [qZ 40,xh 41,yh 42,wB 43 5 41 42,qH 44 5 43,xz 45,xI 46 jq 40 44 45])) [yh 31,x8 32 31,qg 7 32]) (xL [xz 47,xz 48,qV 49 48,wT 50 49,qr 51 50,qg 52 6,qb 53 (.slS 1 (.t 51) none (some (.t 52))),qV 54 47,wT 55 54,xn 55 53] [xz 56,xz 57,qV 58 57,xN 59 58,qr 60 59,qg 61 6,qb 62 (.slS 1 (.t 60) none (some (.t 61))),qV 63 56,xN 64 63,xn 64 62])⟩
theorem mT:ag Tryz.prog aP=some io:=by kernel_rfl
def Av:FK:=⟨61,[xA 6 4,.t 7],qM [yA 3 1,qX 6 [.nils,qD,qD,.nils],wY 7] (.ot (.one [] (.one [xz 12] (.one [qH 11 1 3] (.alt (.one [qY 13 1 [qD] 0 [],yr 1 3 11] (.alt (.one [qb 14 (.mks 1 8 [qD] (qk 16) (qk 16)),yr 1 3 11] (.one [ws 15 [.nils,qD,qD,.nils] [xu 0 13,xu 3 14]] (.one [ws 16 [.nils,.nils,qD,qD,.nils,qD,qz] [xu 0 11,xu 5 12,wJ 1 4 15]] (.alt (.one [wz 17 7 16] (.one [qg 8 17] .done)) .tru)))) .tru)) (.alt (.one [qb 14 (.mks 1 8 [qD] (qk 16) (qk 16)),yr 1 3 11] (.alt (.one [qY 13 1 [qD] 0 [],yr 1 3 11] (.one [ws 15 [.nils,qD,qD,.nils] [xu 0 13,xu 3 14]] (.one [ws 16 [.nils,.nils,qD,qD,.nils,qD,qz] [xu 0 11,xu 5 12,wJ 1 4 15]] (.alt (.one [wz 17 7 16] (.one [qg 8 17] .done)) .tru)))) .tru)) .tru)))))) (xy [wT 18 3,qr 19 18,wT 20 3,qr 21 20,wq 22 21,xO 23 22 1,wB 24 3 19 23,qH 25 3 24,qX 9 [qG,.nils,.nils],qQ 3 9 25] [qY 26 1 [qG] 0 [],xN 27 9,qr 28 27,xg 29 1 16 26 28,qY 30 1 [qD] 0 [],xh 31,xg 32 1 8 30 31,ws 33 [.nils,.nils,qz,qD] [xu 0 29,xu 1 32],wz 34 4 33,qg 10 34] (wZ [yd 35,xw 36 9,qr 37 36,qg 38 10,xI 39 aP 35 37 38] (xo [yd 40,qV 41 40,qq 42 6 41,qr 43 42,xv 44 43] 44 [yd 45,qg 46 10,qV 47 46,xW 48 47,qr 49 48,qV 50 45,xN 51 50,xw 52 51,xn 52 49]) [yd 53,qV 54 53,xN 55 54,yd 57,qV 58 57,qq 59 5 58,yb 56 55,qr 60 59,qQ 4 6 56,wX 59 60,qg 7 60]))⟩
theorem HC:ag Tryz.prog nw=some Av:=by kernel_rfl
def oD:FK:=⟨15,[.t 6],wM [wI 6] [xh 7,qZ 8,wo 9 .leq 7 8,qg 10 9,xS 11 10 0,xS 12 10 2,qK 13 10 (ql .leq 11 (.t 12)),xR 14 10 13,x9 14]⟩
theorem DF:ag Tryz.prog de=some oD:=by kernel_rfl
def lO:FK:=⟨21,[.t 6],wZ [wY 6] (yC [qZ 9,qb 10 (.rngS (.t 9))] 0 [qb 11 (.nxtS (.t 10)),wP 12 0 11] 12 wA (.blk 1 (qe [wP 13 1 11,wP 14 2 11,qg 7 13,qg 8 14] (wl [xh 15,yd 16,qb 17 (yc 15 (xq 16)),xz 18,qb 19 (.beq false (.t 17) (.t 18))] 19 (wU (yh 20) 6 20))))) [qO 6 (-1)]⟩
theorem tK:ag Tryz.prog gC=some lO:=by kernel_rfl
def lS:FK:=⟨8,yt,wM [xY] [qZ 5,xh 6,xH 7 gC 5 6 xb,yh 4]⟩
theorem tn:ag Tryz.prog gL=some lS:=by kernel_rfl
def jQ:FK:=⟨19,yt,wZ [xY] (yC [qZ 6,wq 7 6,wY 8] 0 [xa 9 8 7] 9 wA (wx 1 (qe (wU (yd 10) 5 10) (wl [xh 11,qZ 12,xt 13,wB 14 1 12 13,qr 15 14,qb 16 (yq .eql 11 (.t 15))] 16 (wU (xt 17) 4 17))) (yw 18 8 8 18))) [qO 4 (-1)]⟩
theorem rk:ag Tryz.prog fD=some jQ:=by kernel_rfl
def gS:FK:=⟨9,yt,wM [xm] [qZ 5,xh 6,wF 7 fD 5 6,qy 8 .geq 7 0,yd 4]⟩
theorem oc:ag Tryz.prog dK=some gS:=by kernel_rfl
def rf:FK:=⟨9,[xM],wM [yp] [qZ 3,qu 4 .lss 3 (.c (qf .i32 97)),qg 5 4,xC 6 5 0,qL 7 5 (ql .gtr 6 (.c (qf .i32 122))),xZ 8 5 7,yd 2]⟩
theorem AQ:ag Tryz.prog dE=some rf:=by kernel_rfl
def tM:FK:=⟨17,[xM],wM [yp] [qZ 3,qb 4 (.len true (.t 3)),xG 5 de 4 (qk 1) (qk 4),xt 6,xS 7 6 0,qK 8 6 (xJ gL 7 (.c (.fn (.func dE) []))),xT 9 6 .lss 8 0,xR 10 6 9,qg 11 10,qK 12 11 (.slA 9 1 (.c (.gp 1 0)) none none),xS 13 11 0,qK 14 11 (xJ dK 12 (.t 13)),qK 15 11 (wn 14),xR 16 11 15,qg 2 16]⟩
theorem DO:ag Tryz.prog dc=some tM:=by kernel_rfl
def gr:FK:=⟨19,yt,wZ [xY] (yC [qZ 6,wq 7 6,wY 8] 0 [xa 9 8 7] 9 wA (wx 1 (qe (wU (yd 10) 5 10) (wl [xh 11,qZ 12,xt 13,wB 14 1 12 13,qr 15 14,qb 16 (yc 11 (xq 15))] 16 (wU (xt 17) 4 17))) (yw 18 8 8 18))) [qO 4 (-1)]⟩
theorem no:ag Tryz.prog dA=some gr:=by kernel_rfl
def fk:FK:=⟨9,yt,wM [xm] [qZ 5,xh 6,wF 7 dA 5 6,qy 8 .geq 7 0,yd 4]⟩
theorem lI:ag Tryz.prog cP=some fk:=by kernel_rfl
def fp:FK:=⟨19,yt,wZ [xY] (yC [qZ 6,wq 7 6,wY 8] 0 [xa 9 8 7] 9 wA (wx 1 (qe (wU (yd 10) 5 10) (wl [xh 11,qZ 12,xt 13,wB 14 5 12 13,qH 15 5 14,qb 16 (yc 11 (xq 15))] 16 (wU (xt 17) 4 17))) (yw 18 8 8 18))) [qO 4 (-1)]⟩
theorem lC:ag Tryz.prog cN=some fp:=by kernel_rfl
def dP:FK:=⟨9,yt,wM [xm] [qZ 5,xh 6,wF 7 cN 5 6,qy 8 .geq 7 0,yd 4]⟩
theorem jK:ag Tryz.prog ck=some dP:=by kernel_rfl
def bw:FK:=⟨20,[xM,.t 3,xp,.t 5],wZ [wY 2,wI 3,xm,wI 5] (qe [qZ 6] (.blk 0 (wN (wV 8 6 1 7 8) 7 (.reg (wV 9 6 2 7 9)) (qp 7 (qA [qO 2 1,qT 3 wg,xm,wI 5]) (wN (wV 11 6 3 10 11) 10 (wL (wV 12 6 7 10 12) 10 (.reg (wV 13 6 8 10 13))) (qp 10 (qA [qO 2 1,wI 3,xm,wI 5]) (xx 15 6 4 14 15 14 (qA [qO 2 2,wI 3,xm,wI 5]) (xx 17 6 5 16 17 16 (qA [qO 2 1,wI 3,qT 4 wg,qT 5 wg]) (wl (wV 19 6 6 18 19) 18 [qO 2 1,wI 3,qT 4 wg,wI 5]))))))))) [qO 2 (-1),wI 3,xm,wI 5]⟩
theorem AL:ag Tryz.prog gY=some bw:=by kernel_rfl
def tT:FK:=⟨5,[xM],wM [yp] [qZ 3,xG 4 de 3 yi (qk 255),qg 2 4]⟩
theorem DY:ag Tryz.prog kD=some tT:=by kernel_rfl
def gg:FK:=⟨20,[xM],wZ [wY 2] (.blk 0 (qC [qb 4 (.ld none (.c (.gp 2 0))),qZ 5,qb 6 (.lk 0 (.agg [qG,qD]) false (.t 4) (.t 5)),qb 7 (.fldv 1 none (.t 6)),yu 8 7 0,yd 3] 3 (qA [qb 9 (.ld none (.c (.gp 2 0))),qZ 10,qb 11 (.lk 0 (.agg [qG,qD]) false (.t 9) (.t 10)),qb 12 (.fldv 1 none (.t 11)),qg 2 12]) (wl [qZ 14,wb 15 14 11,qg 16 15,xC 17 16 0,qL 18 16 (xd .eql 17 12),xZ 19 16 18,qg 13 19] 13 [qO 2 5]))) [qO 2 6]⟩
theorem Dm:ag Tryz.prog mD=some gg:=by kernel_rfl
def lK:AK:=xy [yA 2 4,xY,wY 5,wI 6] [wY 7,wY 8] (.cut (.blk 0 (qC [wT 17 2,qr 18 17,wb 19 18 1,qg 16 19] 16 (wl [xN 20 2,qr 21 20,xr 22 kD 21,xv 23 22,qg 24 23,xD 25 24 2 2,xB 26 24 25,qL 27 24 (yq .neq 26 (.c qG)),xZ 28 24 27] 28 [xY,wY 5,wI 6]) (qC [wT 30 2,qr 31 30,wb 32 31 2,qg 29 32] 29 (wl [xw 33 2,qr 34 33,xr 35 dc 34,xv 36 35,qg 37 36,xD 38 37 1 2,xB 39 37 38,qL 40 37 (xd .neq 39 0),xZ 41 37 40] 41 [xY,wY 5,wI 6]) (qC [wT 43 2,qr 44 43,wb 45 44 13,qg 42 45] 42 (qe [qO 8 3] (wl [xw 46 2,qr 47 46,xr 48 dc 47,xv 49 48,qg 50 49,xD 51 50 1 2,xB 52 50 51,qL 53 50 (xd .neq 52 0),xZ 54 50 53] 54 [xY,wY 5,wI 6])) (qC [qb 56 (.ld none (.c (.gp 2 0))),wT 57 2,qr 58 57,qb 59 (.lk 0 (.agg [qG,qD]) false (.t 56) (.t 58)),qb 60 (.fldv 1 none (.t 59)),yu 61 60 0,qg 55 61] 55 (.reg [qO 7 2,qO 8 2]) (qC [wT 63 2,qr 64 63,wb 65 64 11,qg 66 65,xD 67 66 0 2,xB 68 66 67,qL 69 66 (xd .eql 68 12),xZ 70 66 69,qg 62 70] 62 (.reg [qO 7 1,qO 8 1]) (qA [xY,wY 5,wI 6]))))))) (.cut (wl [wT 71 2,qr 72 71,xr 73 mD 72,qy 74 .lss 73 6,qg 75 74,wS 76 75 1 2,wQ 77 75 76,xT 78 75 .neq 77 0,xS 79 75 78,xD 80 79 2 2,xB 81 79 80,qL 82 79 (yq .neq 81 (.c qG)),qK 83 75 (qU 79 xb (.t 82)),xR 84 75 83,qg 85 84,xD 86 85 3 2,xB 87 85 86,qL 88 85 (wd 87),xC 89 85 7,xC 90 85 8,qL 91 85 (.call de (xF 88 (.t 89) (.t 90))),qL 92 85 (wn 91),xZ 93 85 92,qg 94 93,xC 95 94 1,qL 96 94 (xd .lss 95 1),xZ 97 94 96] 97 [xY,wY 5,wI 6]) (wZ [qO 9 1,qO 10 1] (yC [xW 98 2,qr 99 98,wq 100 99,wY 101] 1 [xa 102 101 100] 102 (.exit 1) (wx 2 (qe [wB 103 4 99 101,yb 104 103,qX 12 [qD,qD,qG,.nils],qQ 4 12 104] (yn [yb 106 12,xh 107,xO 108 107 1,wF 109 ia 106 108,qg 105 109,wP 110 0 105,wP 111 1 105,wP 112 2 105,qg 13 110,qg 14 111,qg 15 112] [qg 113 15,xv 114 113] 114 [xY,wY 5,wI 6] (xL [qg 115 9,qg 116 13,wo 117 .add 115 116,qg 9 117] [qg 118 10,qg 119 14,x8 120 119,qb 121 (.mx (.t 118) (.t 120)),qg 10 121]))) (yw 122 101 101 122))) [qg 123 9,qg 124 10,qg 125 9,qy 126 .leq 125 30,yz 123,qg 5 124,x9 126])))
def lD:FK:=⟨127,[xp,.t 5,.t 6],(AK.whole lK)⟩
theorem AM:ag Tryz.prog ia=some lD:=by kernel_rfl
def oL:FK:=⟨13,[xM],qe [yA 1 4,yp] (wM [yb 7 1,x7 8 ia 7 6,x9 8,wP 9 0 6,wP 10 1 6,wP 11 2 6,qg 3 9,yz 10,qg 5 11] (wU (xt 12) 2 12))⟩
theorem zQ:ag Tryz.prog gq=some oL:=by kernel_rfl
def kC:FK:=⟨91,yt,qe [yA 2 5,xm] (qM [wT 12 2,qr 13 12,xr 14 gY 13,qg 11 14,wP 15 0 11,wP 16 1 11,wP 17 2 11,wP 18 3 11,qg 5 15,x9 16,qg 7 17,qg 8 18] (.blk 0 (wN [xh 20,yu 21 20 4,qg 19 21] 19 (wL [xw 22 2,qr 23 22,wq 24 23,xt 25,wo 26 .neq 24 25,qg 19 26] 19 (wL [qg 27 6,qg 28 27,wS 29 28 1 2,wQ 30 28 29,qK 31 28 (.call dc (xq 30)),qK 32 28 (wn 31),xR 33 28 32,qg 19 33] 19 (wL [qg 34 6,xv 35 34,qg 36 35,wS 37 36 1 2,wQ 38 36 37,qK 39 36 (yq .neq 38 (.c qG)),xR 40 36 39,qg 19 40] 19 (wL [yh 41,xv 42 41,qg 43 42,wS 44 43 3 2,wQ 45 43 44,qK 46 43 (wd 45),xT 47 43 .gtr 46 0,xR 48 43 47,qg 19 48] 19 (wL [yd 49,xv 50 49,qg 51 50,wS 52 51 4 2,wQ 53 51 52,qK 54 51 (wd 53),xT 55 51 .gtr 54 0,xR 56 51 55,qg 19 56] 19 (.reg [wT 57 2,qr 58 57,wb 59 58 8,qg 60 59,wS 61 60 2 2,wQ 62 60 61,qK 63 60 (qW 4 62 yi),wS 64 60 0 63,wQ 65 60 64,xT 66 60 .neq 65 13,xR 67 60 66,qg 19 67])))))) (qp 19 (qA [xm]) .skip))) (xV (yC [xw 68 2,qr 69 68,wq 70 69,wY 71] 1 [xa 72 71 70] 72 (.exit 1) (wx 2 (qe [wB 73 4 69 71,yb 74 73,qX 10 [qD,qD,qG,.nils],qQ 4 10 74] (wl [yb 75 10,xr 76 gq 75,xv 77 76] 77 [xm])) (yw 78 71 71 78))) [xW 79 2,qr 80 79,xh 81,x8 82 81,wF 83 dr 80 82,qg 84 83,wS 85 84 4 2,wQ 86 84 85,xS 87 84 1,xT 88 84 .add 87 1,qK 89 84 (xJ dr 86 (.t 88)),xR 90 84 89,yz 90]))⟩
theorem um:ag Tryz.prog kM=some kC:=by kernel_rfl
def pa:FK:=⟨8,[.t 3],wM [yA 2 5,wI 3] [qH 4 5 2,qr 5 1,wF 6 kM 4 5,xv 7 6,yh 3]⟩
theorem zZ:ag Tryz.prog dk=some pa:=by kernel_rfl
def rC:FK:=⟨9,yt,wM [wz 3 1 1,xm] [qZ 5,qb 6 (.mkf (.func dk) (xq 3)),wF 7 ck 5 6,xv 8 7,yd 4]⟩
theorem Ds:ag Tryz.prog dr=some rC:=by kernel_rfl
def yY:FK:=⟨31,[],yC [qZ 8,wq 9 8,wY 10] 0 [xa 11 10 9] 11 wA (wx 1 (xy [wB 12 5 8 10,qH 13 5 12,qX 7 [qD,qG,.nils,.nils,.nils],qQ 5 7 13] [xz 14,qH 15 5 7,xh 16,qb 17 (yc 14 (wD 15 (.t 16)))] (xL [xW 18 7,qr 19 18,xh 20,x8 21 20,xz 22,xI 23 gh 19 21 22] [qq 24 4 7,qr 25 24,xh 26,x8 27 26,xz 28,xI 29 gh 25 27 28])) (yw 30 10 10 30))⟩
theorem Fq:ag Tryz.prog gh=some yY:=by kernel_rfl
def oU:FK:=⟨11,[],xy [yA 4 5] [qr 6 2,x8 7 6,xn 2 7] (.reg [qr 8 3,xh 9,qb 10 (.mx (.t 8) (.t 9)),xn 3 10])⟩
theorem zR:ag Tryz.prog gi=some oU:=by kernel_rfl
def rZ:FK:=⟨20,[.c 2 none,.c 3 none],wZ [yA 1 1,qX 2 [qD],qX 3 [qD]] (yC [wT 6 1,qr 7 6,wq 8 7,wY 9] 0 [xa 10 9 8] 10 wA (wx 1 (xL [wB 11 3 7 9,qH 12 3 11,qX 5 [qG,.nils,.nils],qQ 3 5 12] [xw 13 5,qr 14 13,qb 15 (.mkf (.func gi) (wD 2 (.t 3))),xG 16 gh 14 (qk 1) (.t 15)]) (yw 17 9 9 17))) [qr 18 2,qr 19 3,xn 2 18,wX 3 19,xn 3 19]⟩
theorem BT:ag Tryz.prog mY=some rZ:=by kernel_rfl
def jX:FK:=⟨6,[xM],wM [yp] [qZ 3,xr 4 dc 3,xv 5 4,xt 2]⟩
theorem rm:ag Tryz.prog bG=some jX:=by kernel_rfl
def mc:FK:=⟨48,[xM],yn [yA 1 1,yp] [wT 7 1,qr 8 7,wq 9 8,xG 10 de 9 (qk 1) (qk 4),xv 11 10] 11 [yp] (.seq (yC [wT 12 1,qr 13 12,wq 14 13,wY 15] 0 [xa 16 15 14] 16 wA (wx 1 (qe [wB 17 3 13 15,qH 18 3 17,qX 4 [qG,.nils,.nils],qQ 3 4 18] (wl [wT 19 4,qr 20 19,xr 21 dc 20,xv 22 21,qg 23 22,xD 24 23 1 4,xB 25 23 24,qL 26 23 (wd 25),qL 27 23 (xd .gtr 26 3),xZ 28 23 27,qg 29 28,xD 30 29 1 4,xB 31 29 30,qL 32 29 (xJ cP 31 (.c (.fn (.func bG) []))),xZ 33 29 32,qg 34 33,xD 35 34 2 4,xB 36 34 35,qL 37 34 (xJ dr 36 (qk 1)),qL 38 34 (wn 37),xZ 39 34 38] 39 [yp])) (yw 40 15 15 40))) (wM [qH 42 1 1,xr 43 mY 42,qg 41 43,wP 44 0 41,wP 45 1 41,qg 5 44,x9 45] [xt 46,qy 47 .leq 46 40,qg 2 47]))⟩
theorem tv:ag Tryz.prog gH=some mc:=by kernel_rfl
def dv:FK:=⟨19,yt,wZ [xY] (yC [qZ 6,wq 7 6,wY 8] 0 [xa 9 8 7] 9 wA (wx 1 (qe (wU (yd 10) 5 10) (wl [xh 11,qZ 12,xt 13,wB 14 3 12 13,qH 15 3 14,qb 16 (yc 11 (xq 15))] 16 (wU (xt 17) 4 17))) (yw 18 8 8 18))) [qO 4 (-1)]⟩
theorem fQ:ag Tryz.prog bs=some dv:=by kernel_rfl
def tZ:FK:=⟨8,[.t 3],wM [yA 2 3,wI 3] [wT 4 2,qr 5 4,qr 6 1,qb 7 (yq .eql 5 (.t 6)),yh 3]⟩
theorem DC:ag Tryz.prog gR=some tZ:=by kernel_rfl
def Ao:FK:=⟨9,yt,wM [yA 2 1,wz 3 1 1,xY] [wT 5 2,qr 6 5,qb 7 (.mkf (.func gR) (xq 3)),wF 8 bs 6 7,yd 4]⟩
theorem HQ:ag Tryz.prog lm=some Ao:=by kernel_rfl
def gD:FK:=⟨13,[],xo [qZ 4,qV 5 4,xw 6 5,qr 7 6,wb 8 7 0] 8 [qZ 9,xh 10,qV 11 9,xw 12 11,xn 12 10]⟩
theorem tt:ag Tryz.prog cY=some gD:=by kernel_rfl
def jf:FK:=⟨7,[xM],wM [qT 2 .nilp] [qb 3 .mkm,qZ 4,ws 5 [.nilm,.nilp] [xu 0 3,xu 1 4],wz 6 2 5,qg 2 6]⟩
theorem vH:ag Tryz.prog bF=some jf:=by kernel_rfl
def vC:FK:=⟨20,[],xy [yA 2 4] [xh 6,yb 7 2,qb 8 (yc 6 (xq 7))] (yC [xW 9 2,qr 10 9,wq 11 10,wY 12] 0 [xa 13 12 11] 13 wA (wx 1 (xL [wB 14 4 10 12,yb 15 14,qX 5 [qD,qD,qG,.nils],qQ 4 5 15] [yb 16 5,xh 17,wF 18 ml 16 17]) (yw 19 12 12 19)))⟩
theorem Fp:ag Tryz.prog ml=some vC:=by kernel_rfl
def nU:FK:=⟨25,[xp,.t 5],wZ [xY,wI 5] (wa 0 (xK [qZ 8,qb 9 (.pnil 0 true (.t 8))] 9 wA 1 (qe [qZ 15,qV 16 15,wT 17 16,qr 18 17,xh 19,qb 20 (.lk 1 qD true (.t 18) (.t 19)),qg 14 20,wP 21 0 14,wP 22 1 14,x9 21,qg 7 22] (wl [yh 23] 23 [qg 24 6,yz 24,qT 5 wg])) [qZ 10,qV 11 10,xN 12 11,qr 13 12,qg 0 13])) [xY,wI 5]⟩
theorem yP:ag Tryz.prog bq=some nU:=by kernel_rfl
def jU:FK:=⟨58,[],xy [yA 3 4] [wT 7 3,qr 8 7] (.blk 0 (xx 10 8 2 9 10 9 (qe [qr 12 1,xw 13 3,qr 14 13,wF 15 bq 12 14,qg 11 15,wP 16 0 11,wP 17 1 11,yz 16,qg 5 17] (xo [xt 18,xv 19 18] 19 [qr 20 2,yj 21 20 3])) (qS (wV 23 8 13 22 23) 22 (qe [xw 35 3,qr 24 2,qV 25 24,wT 26 25,wT 27 26,qr 28 27,qr 29 2,qV 30 29,xN 31 30,qr 32 31,qb 33 (.slS 3 (.t 28) none (some (.t 32))),ws 34 yg [xu 0 33],qr 36 35,wF 37 lm 34 36,x9 37] (qC [qg 38 6,qy 39 .lss 38 0] 39 (.reg [qr 40 2,yj 41 40 4]) (xo [qg 47 6,xW 52 3,qr 42 2,qV 43 42,wT 44 43,wT 45 44,qr 46 45,wB 48 3 46 47,xN 49 48,qr 50 49,wq 51 50,qr 53 52,wq 54 53,wo 55 .neq 51 54] 55 [qr 56 2,yj 57 56 5]))))))⟩
theorem rj:ag Tryz.prog cn=some jU:=by kernel_rfl
def gy:FK:=⟨9,[],xL [yA 3 1,wz 4 4 1,wz 5 1 2] [yb 6 4,qb 7 (.mkf (.func cn) (wD 5 (.t 3))),wF 8 ml 6 7]⟩
theorem tG:ag Tryz.prog dV=some gy:=by kernel_rfl
def fW:AK:=yC [xh 14,wq 15 14,wY 16] 0 [xa 17 16 15] 17 wA (wx 1 (qM [wB 18 5 14 16,qH 19 5 18,qX 7 [qD,qG,.nils,.nils,.nils],qQ 5 7 19] (yC [xw 20 7,qr 21 20,wq 22 21,wY 23] 2 [xa 24 23 22] 24 (.exit 2) (wx 3 (xL [wB 25 4 21 23,yb 26 25,qX 9 [qD,qD,qG,.nils],qQ 4 9 26] [qZ 27,yb 28 9,xz 29,xI 30 dV 27 28 29]) (yw 31 23 23 31))) (.cut (qe [wT 32 7,qr 33 32] (.blk 4 (xx 35 33 1 34 35 34 (wc (qe [xz 37,qV 38 37,wT 39 38,xN 41 7,qr 40 39,qr 42 41,qb 43 (.lk 1 qD true (.t 40) (.t 42)),qg 36 43,wP 44 0 36,wP 45 1 36,qg 10 44,qg 11 45] (xo [qg 46 11] 46 [qZ 47,yj 48 47 2])) [xz 49,qV 50 49,wT 51 50,xN 53 7,qr 52 51,qr 54 53,qB (.mup 1 (.t 52) (.t 54) yi)]) (qS (wV 56 33 2 55 56) 55 (qe [xz 58,xN 59 7,qr 60 59,wF 61 bq 58 60,qg 57 61,wP 62 0 57,wP 63 1 57,qg 12 62,qg 13 63] (xo [qg 64 13,xv 65 64] 65 [qZ 66,yj 67 66 3])))))) (qS [wT 68 7,qr 69 68,wb 70 69 5,qg 71 70,xD 72 71 0 7,xB 73 71 72,qL 74 71 (xd .eql 73 6),xZ 75 71 74] 75 (xL [qZ 76,xW 77 7,xz 79,qr 78 77,xr 80 bF 79,wX 77 78,xI 81 bN 76 78 80] [qZ 82,qq 83 4 7,xz 85,qr 84 83,xr 86 bF 85,wX 83 84,xI 87 bN 82 84 86])))) (yw 88 16 16 88))
def fV:FK:=⟨89,[],(AK.whole fW)⟩
theorem sw:ag Tryz.prog bN=some fV:=by kernel_rfl
def gF:AK:=yn [yA 1 1,wY 2] [qH 11 1 1,xr 12 gH 11,xv 13 12] 13 [qO 2 1] (wZ [qH 14 1 1,ws 15 [.nils,qD,qD] [xu 0 14],wz 16 3 15,qg 3 16] (yC [wT 17 1,qr 18 17,wq 19 18,wY 20] 0 [xa 21 20 19] 21 wA (wx 1 (xy [qg 22 20,wB 23 3 18 20,qH 24 3 23,qX 5 [qG,.nils,.nils],yz 22,qQ 3 5 24] [qg 25 3,qg 26 4,qV 27 25,xN 28 27,xn 28 26] (.cut (xo [qH 29 1 1,wT 30 5,qr 31 30,wF 32 lm 29 31,qg 33 4,xa 34 32 33] 34 [qg 35 3,yj 36 35 2]) (qM (wU (qo 37 bF [.c .nilp]) 6 37) (yC [xN 38 5,qr 39 38,wq 40 39,wY 41] 2 [xa 42 41 40] 42 (.exit 2) (wx 3 (qM [wB 43 1 39 41,qr 44 43,qg 8 44] (qe [qg 46 6,qV 47 46,wT 48 47,qr 49 48,yd 50,qb 51 (.lk 1 qD true (.t 49) (.t 50)),qg 45 51,wP 52 0 45,wP 53 1 45,qg 9 52,qg 10 53] (xo [qg 54 10] 54 [qg 55 3,yj 56 55 2])) (.reg [qg 57 6,qV 58 57,wT 59 58,qr 60 59,yd 61,qB (.mup 1 (.t 60) (.t 61) yi)])) (yw 62 41 41 62))) (.reg [qg 63 3,xw 64 5,qr 65 64,qg 66 6,xI 67 bN 63 65 66])))) (yw 68 20 20 68))) [qg 69 3,qV 70 69,xw 71 70,qr 72 71,qg 2 72])
def gI:FK:=⟨73,[xM],(AK.whole gF)⟩
theorem tj:ag Tryz.prog gG=some gI:=by kernel_rfl
def Au:FK:=⟨6,[xM],wM [yA 1 1,yp] [qH 3 1 1,xr 4 gG 3,wb 5 4 0,xt 2]⟩
theorem Hw:ag Tryz.prog kR=some Au:=by kernel_rfl
def jE:FK:=⟨19,yt,wZ [xY] (yC [qZ 6,wq 7 6,wY 8] 0 [xa 9 8 7] 9 wA (wx 1 (qe (wU (yd 10) 5 10) (wl [xh 11,qZ 12,xt 13,wB 14 1 12 13,qr 15 14,qb 16 (yc 11 (xq 15))] 16 (wU (xt 17) 4 17))) (yw 18 8 8 18))) [qO 4 (-1)]⟩
theorem pO:ag Tryz.prog eU=some jE:=by kernel_rfl
def gv:FK:=⟨9,yt,wM [xm] [qZ 5,xh 6,wF 7 eU 5 6,qy 8 .geq 7 0,yd 4]⟩
theorem nq:ag Tryz.prog dC=some gv:=by kernel_rfl
def ph:FK:=⟨6,[xM],wM [yp] [qZ 3,xr 4 kD 3,xv 5 4,xt 2]⟩
theorem zu:ag Tryz.prog dg=some ph:=by kernel_rfl
def mU:FK:=⟨14,yt,wM [xm] [qZ 5,wq 6 5,xh 7,wo 8 .eql 6 7,yd 9,xS 10 9 0,qK 11 9 (xJ dC 10 (.c (.fn (.func dg) []))),qK 12 9 (wn 11),xR 13 9 12,yz 13]⟩
theorem CX:ag Tryz.prog mw=some mU:=by kernel_rfl
def uh:FK:=⟨21,yt,wM [yA 2 1,xm] [qH 5 1 2,xr 6 kR 5,qg 7 6,xS 8 7 1,wS 9 7 0 2,wQ 10 7 9,wS 11 7 0 2,wQ 12 7 11,qK 13 7 (wd 12),xT 14 7 .sub 13 1,qK 15 7 (qW 3 10 (.t 14)),wS 16 7 1 15,wQ 17 7 16,qK 18 7 (wd 17),qK 19 7 (xJ mw 8 (.t 18)),xR 20 7 19,yz 20]⟩
theorem DV:ag Tryz.prog oe=some uh:=by kernel_rfl
def mX:FK:=⟨8,[xM],wZ [ye 2] (wl [qZ 3,qb 4 (.snil false (.t 3))] 4 [ye 2]) [qY 5 1 [qD] 0 [],qZ 6,xg 7 1 8 5 6,yh 2]⟩
theorem uW:ag Tryz.prog ff=some mX:=by kernel_rfl
def gB:FK:=⟨19,[],wc (xo [qZ 2,qV 3 2,xw 4 3,qZ 6,qV 7 6,xN 8 7,qr 5 4,qr 9 8,wo 10 .eql 5 9] 10 [qo 11 nC [qk 3]]) [qZ 12,qV 13 12,xw 14 13,qr 15 14,x8 16 15,qV 17 12,xw 18 17,xn 18 16]⟩
theorem tx:ag Tryz.prog dU=some gB:=by kernel_rfl
def pg:FK:=⟨28,yt,wZ [qT 4 .nilp] (wa 0 (xK [qZ 7,qV 8 7,xN 9 8,qr 10 9,qb 11 (.pnil 0 true (.t 10))] 11 wA 1 (qe [qZ 17,qV 18 17,wT 19 18,qr 20 19,xh 21,qb 22 (.lk 1 qD true (.t 20) (.t 21)),qg 16 22,wP 23 0 16,wP 24 1 16,qg 5 23,x9 24] (wl [qg 25 6] 25 (wU (qZ 26) 4 26))) [qZ 12,qV 13 12,xN 14 13,qr 15 14,qg 0 15])) (wU (qZ 27) 4 27)⟩
theorem zU:ag Tryz.prog gl=some pg:=by kernel_rfl
def sH:FK:=⟨4,[xM],wZ [wY 2] (wl [qZ 3] 3 [qO 2 1]) [wY 2]⟩
theorem By:ag Tryz.prog mz=some sH:=by kernel_rfl
def py:FK:=⟨70,[.t 6,.t 7],qe [wY 6,wI 7] (wZ [qT 8 (.fn (.func mz) [])] (qe [qZ 9] (.blk 0 (xx 11 9 3 10 11 10 (qA [xh 12,xz 13,wo 14 .add 12 13,qy 15 .rem 14 256,x9 15,qT 7 wg]) (xx 17 9 4 16 17 16 (qA [xh 18,xz 19,wo 20 .sub 18 19,wG 21 20 256,qy 22 .rem 21 256,x9 22,qT 7 wg]) (xx 24 9 5 23 24 23 (qA [xh 25,xz 26,wo 27 .mul 25 26,qy 28 .rem 27 256,x9 28,qT 7 wg]) (wN (wV 30 9 6 29 30) 29 (.reg (wV 31 9 7 29 31)) (qp 29 (.seq (wl [xz 32,wb 33 32 0] 33 [wY 6,wI 7]) (xV (wl [qZ 34,wb 35 34 6] 35 [xh 36,xz 37,wo 38 .quo 36 37,x9 38,qT 7 wg]) [xh 39,xz 40,wo 41 .rem 39 40,x9 41,qT 7 wg])) (xx 43 9 8 42 43 42 (qA [yd 44,xh 45,xz 46,xa 47 45 46,qb 48 (yc 44 (xq 47)),x9 48,qT 7 wg]) (xx 50 9 9 49 50 49 (qA [yd 51,xh 52,xz 53,wo 54 .eql 52 53,qb 55 (yc 51 (xq 54)),x9 55,qT 7 wg]) (wl (wV 57 9 10 56 57) 56 [yd 58,xh 59,qy 60 .neq 59 0,qg 61 60,xS 62 61 2,xT 63 61 .neq 62 0,xR 64 61 63,qb 65 (yc 58 (xq 64)),x9 65,qT 7 wg])))))))))) [yd 66,xh 67,wb 68 67 0,qb 69 (yc 66 (xq 68)),x9 69,qT 7 wg])⟩
theorem vX:ag Tryz.prog iU=some py:=by kernel_rfl
def gw:FK:=⟨13,yt,wZ [qT 4 .nilp] (xo [xh 5,qy 6 .geq 5 16] 6 [qo 7 nC [qk 2]]) [qZ 8,xh 9,qV 10 8,qq 11 4 10,qb 12 (.idxA 16 1 (.t 11) (.t 9)),yz 12]⟩
theorem tJ:ag Tryz.prog ec=some gw:=by kernel_rfl
def aw:FK:=⟨126,[.t 6],qM [wz 4 4 1,wY 6] (qe [wT 16 4,qr 17 16] (.blk 0 (xx 19 17 1 18 19 18 (qA [xN 20 4,qr 21 20,x9 21]) (xx 23 17 2 22 23 22 (qA [xz 24,xw 25 4,xw 31 4,qr 26 25,qr 32 31,wF 27 gl 24 26,wX 31 32,qV 28 27,wT 29 28,qr 30 29,qb 33 (.lk 1 qD false (.t 30) (.t 32)),x9 33]) (xx 35 17 10 34 35 34 (.seq (wl [qZ 36,xW 37 4,qr 38 37,wu 39 4 38 yi,yb 40 39,xz 41,xQ 42 36 40 41,wb 43 42 0] 43 [wY 6]) (wM [qZ 45,xW 46 4,qr 47 46,wu 48 4 47 (qk 1),yb 49 48,xz 50,xQ 51 45 49 50,qo 52 iU [qk 10,qk 1,.t 51],qg 44 52,wP 53 0 44,wP 54 1 44,qg 7 53,qg 8 54] (wU (yh 55) 6 55))) (xx 57 17 12 56 57 56 (qA [qZ 58,qZ 59,xW 60 4,qr 61 60,wu 62 4 61 yi,yb 63 62,xz 64,xQ 65 59 63 64,wF 66 ec 58 65,qV 67 66,qr 68 67,x9 68]) (qS (wV 70 17 13 69 70) 69 (wZ [ye 9] (yC [xW 71 4,qr 72 71,wq 73 72,wY 74] 1 [xa 75 74 73] 75 (.exit 1) (wx 2 (xL [wB 76 4 72 74,yb 77 76,qX 11 [qD,qD,qG,.nils],qQ 4 11 77] [qg 78 9,qZ 79,yb 80 11,xz 81,xQ 82 79 80 81,qY 83 1 [qD] 1 [xu 0 82],xg 84 1 8 78 83,qg 9 84]) (yw 85 74 74 85))) [qZ 86,qZ 87,qV 88 87,wT 89 88,xw 91 4,qg 94 9,qH 90 1 89,qr 92 91,wF 93 lm 90 92,xI 95 ed 86 93 94,x9 95])))))))) (qM [qZ 96,xW 97 4,qr 98 97,wu 99 4 98 yi,yb 100 99,xz 101,xQ 102 96 100 101,qg 12 102,wY 13] (xo [xW 103 4,qr 104 103,wq 105 104,yu 106 105 1] 106 [qZ 107,xW 108 4,qr 109 108,wu 110 4 109 (qk 1),yb 111 110,xz 112,xQ 113 107 111 112,qg 13 113]) (wZ [wT 115 4,qr 116 115,qg 117 12,qg 118 13,xI 119 iU 116 117 118,qg 114 119,wP 120 0 114,wP 121 1 114,qg 14 120,qg 15 121] (xo [qg 122 15,xv 123 122] 123 [qo 124 nC [qk 1]]) (wU (qg 125 14) 6 125)))⟩
theorem lT:ag Tryz.prog cd=some aw:=by kernel_rfl
def vL:FK:=⟨7,[xM],wM [qT 2 .nilp] [qb 3 .mkm,qZ 4,ws 5 [.nilm,.nilp] [xu 0 3,xu 1 4],wz 6 2 5,qg 2 6]⟩
theorem EQ:ag Tryz.prog ji=some vL:=by kernel_rfl
def gE:FK:=⟨109,[.t 6],qM [wz 4 5 1,qT 6 .nilp] (qS [wT 10 4,qr 11 10,wb 12 11 6] 12 (xV (wa 0 (wN [qZ 13,xw 14 4,qr 15 14,wu 16 4 15 yi,yb 17 16,xz 18,xQ 19 13 17 18,qy 20 .neq 19 0] 20 wA (.blk 1 (wc (qe [qZ 21,xW 22 4,xz 24,qr 23 22,xr 25 ji 24,wX 22 23,xI 26 bt 21 23 25,qg 7 26] (wl [yh 27,qb 28 (.pnil 0 true (.t 27))] 28 (wU (yh 29) 6 29))) [qZ 30,xr 31 dU 30])))) [qT 6 .nilp])) (wZ [qZ 32,xw 33 4,qr 34 33,wu 35 4 34 yi,yb 36 35,xz 37,xQ 38 32 36 37,qg 8 38] (qe [wT 39 4,qr 40 39] (.blk 2 (xx 42 40 1 41 42 41 (.reg [xz 43,qV 44 43,wT 45 44,xN 47 4,yd 49,qr 46 45,qr 48 47,qB (.mup 1 (.t 46) (.t 48) (.t 49))]) (xx 51 40 2 50 51 50 (.reg [xz 52,xN 53 4,xN 59 4,yd 61,qr 54 53,qr 60 59,wF 55 gl 52 54,wX 59 60,qV 56 55,wT 57 56,qr 58 57,qB (.mup 1 (.t 58) (.t 60) (.t 61))]) (xx 63 40 3 62 63 62 (.reg [qZ 64,qZ 65,qV 66 65,xW 67 66,qr 68 67,yd 69,qY 70 1 [qD] 1 [xu 0 69],xg 71 1 8 68 70,qV 72 64,xW 73 72,xn 73 71]) (xx 75 40 4 74 75 74 (xL [qZ 76,xw 77 4,qr 78 77,wu 79 4 78 (qk 1),yb 80 79,xz 81,xQ 82 76 80 81,qg 9 82] [qZ 83,yd 84,wF 85 ec 83 84,qg 86 9,qV 87 85,xn 87 86]) (xx 89 40 5 88 89 88 (xV (wl [yd 90,qy 91 .neq 90 0] 91 [qZ 92,xW 93 4,xz 95,qr 94 93,xr 96 ji 95,wX 93 94,xI 97 bt 92 94 96,x9 97]) [qZ 98,qq 99 4 4,xz 101,qr 100 99,xr 102 ji 101,wX 99 100,xI 103 bt 98 100 102,x9 103]) (wl (wV 105 40 7 104 105) 104 [yd 106,ws 107 [qD] [xu 0 106],wz 108 1 107,x9 108])))))))) [qT 6 .nilp])⟩
theorem mb:ag Tryz.prog gO=some gE:=by kernel_rfl
def lg:FK:=⟨26,[.t 6],wZ [qT 6 .nilp] (yC [xh 10,wq 11 10,wY 12] 0 [xa 13 12 11] 13 wA (wx 1 (xy [wB 14 5 10 12,qH 15 5 14,qX 8 [qD,qG,.nils,.nils,.nils],qQ 5 8 15] [qZ 16,xr 17 dU 16] (qe [qZ 18,qH 19 5 8,xz 20,xI 21 gO 18 19 20,qg 9 21] (wl [qg 22 9,qb 23 (.pnil 0 true (.t 22))] 23 (wU (qg 24 9) 6 24)))) (yw 25 12 12 25))) [qT 6 .nilp]⟩
theorem rI:ag Tryz.prog bt=some lg:=by kernel_rfl
def lX:FK:=⟨57,[.t 6],qe [wY 6] (qM [qb 11 .mkm,ws 12 [.nilm,.nilp] [xu 0 11],wz 13 2 12,qg 7 13] (yC [qZ 14,qV 15 14,wT 16 15,wT 17 16,qr 18 17,xh 19,wB 20 3 18 19,xN 21 20,qr 22 21,wq 23 22,wY 24] 0 [xa 25 24 23] 25 wA (wx 1 (xL [qg 26 24,wB 27 1 22 24,qr 28 27,qg 8 26,qg 9 28] [yh 29,qV 30 29,wT 31 30,qg 33 9,xz 34,yd 35,wB 36 1 34 35,qr 32 31,qr 37 36,qB (.mup 1 (.t 32) (.t 33) (.t 37))]) (yw 38 24 24 38))) (xV (qe [qZ 39,qZ 40,qV 41 40,wT 42 41,wT 43 42,qr 44 43,xh 45,wB 46 3 44 45,xw 47 46,qr 48 47,yh 49,xI 50 bt 39 48 49,qg 10 50] (wl [qg 51 10,qb 52 (.pnil 0 true (.t 51))] 52 [qg 53 10,qV 54 53,wT 55 54,qr 56 55,x9 56])) [wY 6]))⟩
theorem tp:ag Tryz.prog ed=some lX:=by kernel_rfl
def lP:FK:=⟨12,[],.reg [qr 4 0,wT 5 1,qr 6 5,wq 7 6,xO 8 7 1,qr 9 2,xI 10 ed 4 8 9,xw 11 3,xn 11 10]⟩
theorem tm:ag Tryz.prog dY=some lP:=by kernel_rfl
def jh:AK:=xy [yA 3 1,wz 4 1 1,qX 6 [.nils,qD,qD,.nils],wY 7] [qH 10 1 3,xz 11,ws 12 [.nils,qD,qD,.nils,qD,qD,qD,qD,qD,qD,qD,qD,qD,qD,qD,qD,qD,qD,qD,qD] [xu 0 10,xu 1 11],wz 13 20 12,qX 8 [.nilp],xn 8 13] (qe [qX 9 [.nils,qD,qD,.nils]] (.cut (.reg [qb 14 (.mkf (.func dY) [.t 8,.t 3,.t 4,.t 9]),xr 15 ua 14,xN 16 9,xn 16 15]) (wM [qr 17 8,qV 18 17,xW 19 18,qr 20 19,wT 26 9,qr 21 8,qV 22 21,qq 23 4 22,qb 24 (.slA 16 1 (.t 23) none none),xr 25 ff 24,wX 8 17,wX 19 20,xn 26 20,xW 27 9,xn 27 25] [yb 28 9,qr 29 8,qV 30 29,xw 31 30,qr 32 31,qQ 4 6 28,wX 8 29,wX 31 32,qg 7 32])))
def jm:FK:=⟨33,[xA 6 4,.t 7],(AK.whole jh)⟩
theorem yG:ag Tryz.prog fI=some jm:=by kernel_rfl
def jy:FK:=⟨28,[xA 6 4,.t 7],yn [yA 3 1,qX 6 [.nils,qD,qD,.nils],wI 7] [qH 10 1 3,xh 11,wF 12 ox 10 11,xv 13 12,qg 14 13,xC 15 14 2,qL 16 14 (ya (xF 15 yi (qk 4000))),qL 17 14 (wn 16),xZ 18 14 17] 18 [ws 19 [.nils,qD,qD,.nils] [],qQ 4 6 19,wI 7] (wM [qH 21 1 3,xh 22,xz 23,xI 24 nw 21 22 23,qg 20 24,wP 25 0 20,wP 26 1 20,qX 8 [.nils,qD,qD,.nils],qQ 4 8 25,qg 9 26] [yb 27 8,qQ 4 6 27,qT 7 wg])⟩
theorem ny:ag Tryz.prog bZ=some jy:=by kernel_rfl
def iZ:FK:=⟨28,[xA 6 4,.t 7],yn [yA 3 1,qX 6 [.nils,qD,qD,.nils],wI 7] [qH 10 1 3,xh 11,wF 12 oe 10 11,xv 13 12,qg 14 13,xC 15 14 2,qL 16 14 (.call de (xF 15 yi (qk 4000))),qL 17 14 (wn 16),xZ 18 14 17] 18 [ws 19 [.nils,qD,qD,.nils] [],qQ 4 6 19,wI 7] (wM [qH 21 1 3,xh 22,xz 23,xI 24 fI 21 22 23,qg 20 24,wP 25 0 20,wP 26 1 20,qX 8 [.nils,qD,qD,.nils],qQ 4 8 25,qg 9 26] [yb 27 8,qQ 4 6 27,qT 7 wg])⟩
theorem nH:ag Tryz.prog bE=some iZ:=by kernel_rfl
def sF:FK:=⟨11,[xM],wZ [qT 2 .nilp] (xo [qZ 3,wq 4 3,yu 5 4 2000] 5 [qZ 6,qb 7 (.slS 1 (.t 6) none (some (qk 2000))),yh 0]) [qZ 8,ws 9 [.nils,qD] [xu 0 8],wz 10 2 9,qg 2 10]⟩
theorem CU:ag Tryz.prog mB=some sF:=by kernel_rfl
def fK:FK:=⟨99,yt,qe [xY] (yn [qZ 7,qZ 8,qV 9 8,xN 10 9,qr 11 10,x8 12 11,qV 13 7,xN 14 13,xn 14 12] [xh 15,qy 16 .lss 15 1,qg 17 16,xC 18 17 0,qL 19 17 (qx 18),xD 20 17 0 19,xB 21 17 20,qL 22 17 (wd 21),qL 23 17 (xd .eql 22 0),xZ 24 17 23] 24 [xY] (yn [qZ 25,qV 26 25,xN 27 26,qr 28 27,xO 29 28 1,qg 5 29] [xt 30,qZ 31,qV 32 31,wT 33 32,qr 34 33,wq 35 34,xa 36 30 35] 36 [qZ 37,qV 38 37,wT 39 38,qr 40 39,xt 41,wB 42 1 40 41,qr 43 42,qb 44 (.conv .i64 (.t 43)),xh 45,wo 46 .rem 44 45,yz 46] (qe [qZ 47,qV 48 47,wT 49 48,xt 51,qZ 52,qV 53 52,wT 54 53,qZ 62,qV 63 62,wT 64 63,xt 66,qy 67 .mul 66 7,wG 68 67 3,qZ 69,qV 70 69,wT 71 70,xt 80,qy 81 .mul 80 29,xt 83,qZ 84,qV 85 84,wT 86 85,qr 50 49,qr 55 54,wq 56 55,wo 57 .rem 51 56,wB 58 1 50 57,qr 59 58,qb 60 (.conv .i64 (.t 59)),qy 61 .mul 60 131,qr 65 64,qr 72 71,wq 73 72,wo 74 .rem 68 73,wB 75 1 65 74,qr 76 75,qb 77 (.conv .i64 (.t 76)),qy 78 .mul 77 1117,wo 79 .add 61 78,wo 82 .add 79 81,qr 87 86,wq 88 87,wo 89 .quo 83 88,qy 90 .mul 89 53,wo 91 .add 82 90,x9 91] (wM [qg 92 6,qg 93 6,qy 94 .quo 93 64,wo 95 .xor 92 94,x9 95] [qg 96 6,xh 97,wo 98 .rem 96 97,yz 98]))))⟩
theorem yV:ag Tryz.prog be=some fK:=by kernel_rfl
def kj:FK:=⟨12,yt,wM [xY] [xh 5,qZ 6,xh 7,wq 8 7,yl 9 6 (.t 8),wB 10 1 5 9,qr 11 10,yz 11]⟩
theorem pf:ag Tryz.prog dh=some kj:=by kernel_rfl
def lE:FK:=⟨12,yt,wM [qT 4 qG] [xh 5,qZ 6,xh 7,wq 8 7,yl 9 6 (.t 8),wB 10 1 5 9,qr 11 10,yz 11]⟩
theorem rb:ag Tryz.prog dD=some lE:=by kernel_rfl
def gU:FK:=⟨21,[xA 4 4],wZ [qX 4 [qD,qD,qG,.nils]] (wl [xh 5,wq 6 5,wb 7 6 0,yh 8,xC 9 8 0,qL 10 8 (xJ be 9 (qk 3)),qL 11 8 (xd .eql 10 0),xZ 12 8 11] 12 [qZ 13,qY 14 1 [qD] 10 [yv 0,xj 1 1,xj 2 2,xj 3 3,xj 4 5,xj 5 7,xj 6 15,xj 7 16,xj 8 100,xj 9 255],xc 15 13 14,ws 16 [qD,qD,qG,.nils] [yv 1,xu 1 15],qQ 4 4 16]) [qZ 17,xh 18,xP 19 17 18,ws 20 [qD,qD,qG,.nils] [yv 2,xu 2 19],qQ 4 4 20]⟩
theorem tX:ag Tryz.prog dN=some gU:=by kernel_rfl
def fv:FK:=⟨47,[xA 6 4],yn [qX 6 [qD,qD,qG,.nils]] [xz 8,qy 9 .lss 8 2,qg 10 9,xC 11 10 0,qL 12 10 (xJ be 11 (qk 4)),qL 13 10 (xd .eql 12 0),xZ 14 10 13] 14 [qZ 15,xh 16,wF 17 dN 15 16,qQ 4 6 17] (.seq (wl [qZ 18,yl 19 18 (qk 7),wb 20 19 0] 20 [qZ 21,qY 22 1 [qD] 3 [yv 11,xj 1 12,xj 2 11],xc 23 21 22,qZ 24,xh 25,xz 26,xO 27 26 1,xI 28 bf 24 25 27,yy 29 4 [qD,qD,qG,.nils] 1 4 28,ws 30 [qD,qD,qG,.nils] [xu 0 23,xu 3 29],qQ 4 6 30]) (wM [qZ 31,qY 32 1 [qD] 9 [yv 3,xj 1 3,xj 2 4,xj 3 5,xj 4 6,xj 5 7,xj 6 8,xj 7 9,xj 8 10],xc 33 31 32,qg 7 33] [yh 34,qZ 35,xh 36,xz 37,xO 38 37 1,xI 39 bf 35 36 38,qZ 40,xh 41,xz 42,xO 43 42 1,xI 44 bf 40 41 43,qY 45 4 [qD,qD,qG,.nils] 2 [yk 4 39,wJ 4 4 44],ws 46 [qD,qD,qG,.nils] [xu 0 34,xu 3 45],qQ 4 6 46]))⟩
theorem od:ag Tryz.prog bf=some fv:=by kernel_rfl
def nG:FK:=⟨99,[xA 4 4],qe [qX 4 [qD,qD,qG,.nils]] (yn [qT 5 .any,qZ 9,qV 10 9,wT 11 10,qZ 13,qV 14 13,xw 15 14,xh 17,qr 12 11,qr 16 15,xI 18 bf 12 16 17,qX 5 [qD,qD,qG,.nils],qQ 4 5 18] [qZ 19,qV 20 19,xN 21 20,qr 22 21,wq 23 22,wb 24 23 0,qg 25 24,xC 26 25 0,qL 27 25 (qx 26),xD 28 25 0 27,xB 29 25 28,qL 30 25 (xJ be 29 (qk 4)),qL 31 25 (xd .gtr 30 0),xZ 32 25 31] 32 [yb 33 5,qQ 4 4 33] (qe [qT 6 .any,qZ 34,qV 35 34,xN 36 35,qZ 38,qV 39 38,wT 40 39,qZ 42,qV 43 42,xN 44 43,qr 37 36,qr 41 40,qr 45 44,wq 46 45,yl 47 41 (.t 46),wX 36 37,wB 48 3 37 47,qH 49 3 48,qX 6 [qG,.nils,.nils],qQ 3 6 49] (qM [wT 50 6,qr 51 50,ws 52 [qD,qD,qG,.nils] [yv 13,xu 2 51],qX 7 [qD,qD,qG,.nils],qQ 4 7 52] (xX [wY 8] 0 [yd 53,xN 54 6,qr 55 54,wq 56 55,xa 57 53 56] 57 wA 1 (.reg [xW 60 7,qZ 62,qV 63 62,wT 64 63,qZ 66,qV 67 66,xw 68 67,qr 61 60,qr 65 64,qr 69 68,xH 70 bf 65 69 (qk 2),wX 60 61,xU 71 4 [qD,qD,qG,.nils] 1 (yx 4 70),xg 72 4 56 61 71,xW 73 7,xn 73 72]) [yd 58,x8 59 58,qg 8 59]) (xV (wl [qZ 74,qV 75 74,wT 76 75,qr 77 76,yl 78 77 (qk 2),wb 79 78 0] 79 [yb 80 7,qQ 4 4 80]) [qZ 81,qV 82 81,wT 83 82,xU 85 1 [qD] 4 [yv 3,xj 1 4,xj 2 8,xj 3 10],qZ 88,qV 89 88,wT 90 89,qZ 92,qV 93 92,xw 94 93,qr 84 83,yb 87 7,qr 91 90,qr 95 94,xc 86 84 85,yr 4 7 87,wX 90 91,wX 94 95,xH 96 bf 91 95 (qk 2),yr 4 7 87,qY 97 4 [qD,qD,qG,.nils] 2 [yk 4 87,wJ 4 4 96],ws 98 [qD,qD,qG,.nils] [xu 0 86,xu 3 97],qQ 4 4 98]))))⟩
theorem vY:ag Tryz.prog jn=some nG:=by kernel_rfl
def mO:FK:=⟨46,[xM],qe [qT 2 qG] (wZ [qZ 3,qZ 4,qV 5 4,xW 6 5,qr 7 6,x8 8 7,qV 9 3,xW 10 9,xn 10 8] (wl [qZ 11,qV 12 11,wT 13 12,qr 14 13,yl 15 14 (qk 9),wb 16 15 0,qg 17 16,xS 18 17 0,qK 19 17 (qx 18),wS 20 17 2 19,wQ 21 17 20,qK 22 17 (wd 21),xT 23 17 .gtr 22 0,xR 24 17 23] 24 [qZ 25,qV 26 25,wT 27 26,qZ 29,qV 30 29,xw 31 30,qr 28 27,qr 32 31,xP 33 28 32,qg 2 33]) [qZ 34,qV 35 34,xW 36 35,qZ 39,qV 40 39,xW 41 40,qr 37 36,qy 38 .rem 37 24,qr 42 41,qy 43 .rem 42 24,x8 44 43,qb 45 (.slStr (wW [97,98,99,100,101,103,104,105,106,107,108,109,110,112,113,114,115,116,117,118,119,120,121,122]) (some (.t 38)) (some (.t 44))),qg 2 45])⟩
theorem uS:ag Tryz.prog iz=some mO:=by kernel_rfl
def ko:FK:=⟨24,[xA 4 5],xy [wz 3 4 1,qX 4 [qD,qG,.nils,.nils,.nils]] [qZ 6,xr 7 iz 6,yh 5] (wM [qZ 8,qY 9 1 [qG] 0 [],qZ 10,qV 11 10,xw 12 11,qr 13 12,xg 14 1 16 9 13,xt 15,qY 16 1 [qG] 1 [xu 0 15],xg 17 1 16 14 16,qV 18 8,xw 19 18,xn 19 17] [xt 20,yb 21 3,yy 22 4 [qD,qD,qG,.nils] 1 4 21,ws 23 [qD,qG,.nils,.nils,.nils] [yv 1,xu 1 20,xu 2 22],qQ 5 4 23])⟩
theorem oV:ag Tryz.prog eq=some ko:=by kernel_rfl
def nK:FK:=⟨14,[xA 2 4],wM [qX 2 [qD,qD,qG,.nils]] [qZ 3,qZ 5,qV 6 5,wT 7 6,xU 9 1 [qD] 6 [yv 16,xj 1 16,xj 2 16,xj 3 8,xj 4 17,xj 5 0],qr 8 7,yf 4 3 2,wX 7 8,xc 10 8 9,ws 11 [qD,qD,qG,.nils] [yv 1,xu 1 10],qY 12 4 [qD,qD,qG,.nils] 2 [yk 4 4,wJ 4 4 11],ws 13 [qD,qD,qG,.nils] [yv 7,xu 3 12],qQ 4 2 13]⟩
theorem vD:ag Tryz.prog fL=some nK:=by kernel_rfl
def jd:AK:=xy [ye 4] [qZ 9,qZ 10,qV 11 10,wT 12 11,qr 13 12,qY 14 1 [qD] 5 [yv 2,xj 1 3,xj 2 1,xj 3 0,xj 4 5],xc 15 13 14,ws 16 [qD,qD,qG,.nils] [yv 1,xu 1 15],wF 17 eq 9 16,qX 5 [qD,qG,.nils,.nils,.nils],qQ 5 5 17] (xy [xN 18 5,qr 19 18,ws 20 [qD,qD,qG,.nils] [yv 2,xu 2 19],qX 6 [qD,qD,qG,.nils],qQ 4 6 20] [qZ 21,xh 22,xO 23 22 1,wF 24 bm 21 23,qg 7 24] (qe [xN 25 5,qr 26 25,yb 27 6,ws 28 [qD,qD,qG,.nils] [yv 1,xj 1 1],qY 29 4 [qD,qD,qG,.nils] 2 [yk 4 27,wJ 4 4 28],ws 30 [qD,qD,qG,.nils] [yv 4,xu 3 29],yy 31 4 [qD,qD,qG,.nils] 1 4 30,ws 32 [qD,qG,.nils,.nils,.nils] [yv 2,xu 1 26,xu 2 31],qX 8 [qD,qG,.nils,.nils,.nils],qQ 5 8 32] (.cut (.reg [qZ 33,qZ 34,qV 35 34,qq 36 4 35,qr 37 36,xO 38 37 2,qV 39 33,qq 40 4 39,xn 40 38]) (qA [yh 44,qH 41 5 5,yb 42 6,xU 43 4 [qD,qD,qG,.nils] 1 (yx 4 42),qH 45 5 8,xU 46 5 [qD,qG,.nils,.nils,.nils] 1 (yx 5 45),xg 47 5 96 44 46,yr 5 5 41,yr 4 6 42,ws 48 [qD,qG,.nils,.nils,.nils] [yv 6,xu 2 43,xu 3 47],qY 49 5 [qD,qG,.nils,.nils,.nils] 2 [yk 5 41,wJ 5 5 48],yz 49]))))
def jI:FK:=⟨50,yt,(AK.whole jd)⟩
theorem vh:ag Tryz.prog iX=some jI:=by kernel_rfl
def nt:FK:=⟨128,yt,xy [ye 4] [qZ 7,qZ 8,qV 9 8,qq 10 4 9,qr 11 10,xO 12 11 1,qV 13 7,qq 14 4 13,xn 14 12] (wZ [qZ 15,qV 16 15,wT 17 16,qr 18 17,yl 19 18 (qk 13),qg 5 19] (.blk 0 (qC [xt 21,qy 22 .lss 21 3,qg 23 22,xS 24 23 0,qK 25 23 (qx 24),wS 26 23 2 25,wQ 27 23 26,qK 28 23 (wd 27),xT 29 23 .gtr 28 0,xR 30 23 29,qg 20 30] 20 (qA [qZ 31,qV 32 31,wT 33 32,qZ 35,qV 36 35,xw 37 36,qZ 40,qr 34 33,qr 38 37,xP 39 34 38,yf 41 40 3,yy 42 4 [qD,qD,qG,.nils] 1 4 41,ws 43 [qD,qG,.nils,.nils,.nils] [yv 2,xu 1 39,xu 2 42],yy 44 5 [qD,qG,.nils,.nils,.nils] 1 5 43,yz 44]) (qC [xt 46,qy 47 .lss 46 5,qg 45 47] 45 (qA [qZ 48,qZ 49,yf 50 49 3,wF 51 eq 48 50,yy 52 5 [qD,qG,.nils,.nils,.nils] 1 5 51,yz 52]) (qC [xt 54,qy 55 .lss 54 7,qg 56 55,xC 57 56 1,qL 58 56 (xd .lss 57 2),xZ 59 56 58,qg 53 59] 53 (qA [qZ 60,yf 61 60 3,yy 62 4 [qD,qD,qG,.nils] 1 4 61,ws 63 [qD,qG,.nils,.nils,.nils] [yv 3,xu 2 62],yy 64 5 [qD,qG,.nils,.nils,.nils] 1 5 63,yz 64]) (qC [xt 66,wb 67 66 7,qg 65 67] 65 (qA [qZ 68,xr 69 fL 68,qZ 70,yf 71 70 2,qY 72 4 [qD,qD,qG,.nils] 2 [yk 4 69,wJ 4 4 71],ws 73 [qD,qG,.nils,.nils,.nils] [yv 4,xu 2 72],yy 74 5 [qD,qG,.nils,.nils,.nils] 1 5 73,yz 74]) (qC [xt 76,wb 77 76 8,qg 75 77] 75 (qA [qZ 78,xr 79 fL 78,yy 80 4 [qD,qD,qG,.nils] 1 4 79,ws 81 [qD,qD,qG,.nils] [yv 12,xu 3 80],yy 82 4 [qD,qD,qG,.nils] 1 4 81,ws 83 [qD,qG,.nils,.nils,.nils] [yv 3,xu 2 82],yy 84 5 [qD,qG,.nils,.nils,.nils] 1 5 83,yz 84]) (qC [xt 86,qy 87 .lss 86 11,qg 85 87] 85 (wZ [qZ 88,yf 89 88 3,yy 90 4 [qD,qD,qG,.nils] 1 4 89,qZ 91,xh 92,xO 93 92 1,wF 94 bm 91 93,ws 95 [qD,qG,.nils,.nils,.nils] [yv 5,xu 2 90,xu 3 94],qX 6 [qD,qG,.nils,.nils,.nils],qQ 5 6 95] (xo [qZ 96,qV 97 96,wT 98 97,qr 99 98,yl 100 99 (qk 2),wb 101 100 0] 101 [qZ 102,xh 103,xO 104 103 1,wF 105 bm 102 104,qq 106 4 6,xn 106 105]) [qH 107 5 6,yy 108 5 [qD,qG,.nils,.nils,.nils] 1 5 107,yz 108]) (wl [xt 110,wb 111 110 11,qg 112 111,xS 113 112 0,qK 114 112 (qx 113),wS 115 112 0 114,wQ 116 112 115,qK 117 112 (xJ be 116 (qk 3)),xT 118 112 .eql 117 0,xR 119 112 118,qg 109 119] 109 [qZ 120,yf 121 120 2,yy 122 4 [qD,qD,qG,.nils] 1 4 121,ws 123 [qD,qG,.nils,.nils,.nils] [yv 7,xu 2 122],yy 124 5 [qD,qG,.nils,.nils,.nils] 1 5 123,yz 124])))))))) [qZ 125,xh 126,wF 127 iX 125 126,yz 127])⟩
theorem zk:ag Tryz.prog jH=some nt:=by kernel_rfl
def nb:FK:=⟨40,yt,xy [ye 4] [qZ 8,qV 9 8,xw 10 9,qr 11 10,qg 5 11] (qM (wU (qY 12 5 [qD,qG,.nils,.nils,.nils] 0 []) 6 12) (xX [qZ 13,qV 14 13,wT 15 14,qr 16 15,qY 17 1 [qD] 4 [yv 2,xj 1 3,xj 2 1,xj 3 4],xc 18 16 17,qg 7 18] 0 [yh 19,yu 20 19 0,qg 21 20,xS 22 21 0,qK 23 21 (qx 22),wS 24 21 4 23,wQ 25 21 24,xT 26 21 .gtr 25 0,xR 27 21 26] 27 wA 1 (.reg [qg 30 6,qZ 31,xh 32,wF 33 jH 31 32,xg 34 5 96 30 33,x9 34]) [yh 28,xO 29 28 1,qg 7 29]) (wM [qZ 35,xt 36,qV 37 35,xw 38 37,xn 38 36] (wU (qg 39 6) 4 39)))⟩
theorem uY:ag Tryz.prog bm=some nb:=by kernel_rfl
def lF:AK:=xy [qX 6 [qG,.nils,.nils]] [qZ 8,qY 9 1 [qG] 3 [(0,1,wW [97]),(1,1,wW [98]),(2,1,wW [99])],xz 10,qb 11 (.slS 1 (.t 9) none (some (.t 10))),qV 12 8,xw 13 12,xn 13 11] (qe [qZ 14,xz 15,xO 16 15 1,qV 17 14,xW 18 17,xn 18 16] (.cut (.reg [xh 19,qY 20 1 [qG] 0 [],qZ 21,qV 22 21,xw 23 22,qr 24 23,xg 25 1 16 20 24,ws 26 [qG,.nils,.nils] [xu 0 19,xu 1 25],qX 7 [qG,.nils,.nils],qQ 3 7 26]) (wZ [qZ 27,x7 28 bm 27 3,xw 29 7,xn 29 28] (qS [qZ 30,qV 31 30,qq 32 4 31,qr 33 32,yu 34 33 0,qg 35 34,xS 36 35 0,qK 37 35 (qx 36),wS 38 35 0 37,wQ 39 35 38,qK 40 35 (xJ be 39 (qk 4)),xT 41 35 .gtr 40 0,xR 42 35 41] 42 (xL [qZ 43,qZ 44,qV 45 44,qq 46 4 45,qr 47 46,xO 48 47 1,qV 49 43,qq 50 4 49,xn 50 48] [xw 51 7,qZ 53,qr 52 51,yf 54 53 2,wX 51 52,xU 55 4 [qD,qD,qG,.nils] 1 (yx 4 54),ws 56 [qD,qG,.nils,.nils,.nils] [yv 7,xu 2 55],xU 57 5 [qD,qG,.nils,.nils,.nils] 1 (yx 5 56),xg 58 5 96 52 57,xw 59 7,xn 59 58])) [qH 60 3 7,qQ 3 6 60])))
def lH:FK:=⟨61,[xA 6 3],(AK.whole lF)⟩
theorem AN:ag Tryz.prog ij=some lH:=by kernel_rfl
def tP:FK:=⟨69,[xA 2 1],qe [qX 2 yg] (qM [qZ 8,qZ 9,qY 10 1 [qD] 4 [yv 14,xj 1 20,xj 2 8,xj 3 26],xc 11 9 10,ws 12 [.nilp,.nils,.nils,qD,qD] [xu 0 8,xu 4 11],wz 13 5 12,qg 3 13] (xX [qZ 14,qY 15 1 [qD] 4 [yv 0,xj 1 1,xj 2 1,xj 3 2],xc 16 14 15,yz 16] 0 [qg 17 4,yu 18 17 0] 18 wA 1 (xL [qT 5 .any,qg 21 3,xU 22 1 [qG] 3 [(0,1,wW [102]),(1,1,wW [103]),(2,1,wW [104])],qg 23 3,qV 24 23,xN 25 24,qZ 30,qr 26 25,wq 27 26,wB 28 1 22 27,qr 29 28,yl 31 30 (qk 3),wX 25 26,wX 28 29,xI 32 ij 21 29 31,qX 5 [qG,.nils,.nils],qQ 3 5 32] [qg 33 3,qg 34 3,qV 35 34,xN 36 35,qr 37 36,qH 38 3 5,xU 39 3 [qG,.nils,.nils] 1 (yx 3 38),xg 40 3 64 37 39,qV 41 33,xN 42 41,xn 42 40]) [qg 19 4,xO 20 19 1,yz 20]) (qe [qg 43 3,qZ 44,qY 45 1 [qD] 4 [yv 0,xj 1 1,xj 2 2,xj 3 1],xc 46 44 45,xG 47 ij 43 (wW [109]) (.t 46),qX 6 [qG,.nils,.nils],qQ 3 6 47] (wZ [qT 7 .any,qg 49 3,qV 50 49,xN 51 50,qr 52 51,qH 54 3 6,xU 55 3 [qG,.nils,.nils] 1 (yx 3 54),qY 48 3 [qG,.nils,.nils] 0 [],wX 51 52,yr 3 6 54,xg 53 3 64 48 52,yr 3 6 54,xg 56 3 64 53 55,ws 57 yg [xu 0 56],qX 7 yg,xn 7 57] (wl [qH 58 1 7,xr 59 eb 58,xv 60 59] 60 [ws 61 [qD,qD,qG,.nils] [yv 1,xj 1 1],yy 62 4 [qD,qD,qG,.nils] 1 4 61,ws 63 [qD,qG,.nils,.nils,.nils] [yv 3,xu 2 62],yy 64 5 [qD,qG,.nils,.nils,.nils] 1 5 63,ws 65 [qG,.nils,.nils] [(0,1,wW [109]),xu 2 64],yy 66 3 [qG,.nils,.nils] 1 3 65,ws 67 yg [xu 0 66],xn 2 67]) [qH 68 1 7,xn 2 68])))⟩
theorem DA:ag Tryz.prog dM=some tP:=by kernel_rfl
def yE:FK:=⟨42,[xA 4 4],qe [qX 4 [qD,qD,qG,.nils]] (yn [qZ 8,qY 9 1 [qG] 4 [(0,1,wW [97]),(1,1,wW [98]),(2,1,wW [120]),(3,1,wW [103,111])],xh 10,xI 11 bf 8 9 10,qX 5 [qD,qD,qG,.nils],qQ 4 5 11] [qZ 12,yl 13 12 (qk 3),yu 14 13 0] 14 [yb 15 5,qQ 4 4 15] (qM [qZ 16,qY 17 1 [qG] 3 [(0,1,wW [102]),(1,1,wW [103]),(2,1,wW [97])],xP 18 16 17,ws 19 [qD,qD,qG,.nils] [yv 13,xu 2 18],qX 6 [qD,qD,qG,.nils],qQ 4 6 19] (xX [qZ 20,yl 21 20 (qk 4),qg 7 21] 0 [yh 22,yu 23 22 0] 23 wA 1 (.reg [xW 26 6,qZ 28,xU 29 1 [qG] 2 [(0,1,wW [97]),(1,1,wW [98])],qr 27 26,xH 30 bf 28 29 (qk 2),wX 26 27,xU 31 4 [qD,qD,qG,.nils] 1 (yx 4 30),xg 32 4 56 27 31,xW 33 6,xn 33 32]) [yh 24,xO 25 24 1,qg 7 25]) (xV (wl [qZ 34,yl 35 34 (qk 2),wb 36 35 0] 36 [yb 37 6,qQ 4 4 37]) [yb 38 5,yb 39 6,qY 40 4 [qD,qD,qG,.nils] 2 [yk 4 38,wJ 4 4 39],ws 41 [qD,qD,qG,.nils] [yv 3,xu 3 40],qQ 4 4 41])))⟩
theorem Fz:ag Tryz.prog iT=some yE:=by kernel_rfl
def uk:FK:=⟨40,[xA 2 4],qe [qX 2 [qD,qD,qG,.nils]] (wZ [qZ 4,x7 5 iT 4 4,qX 3 [qD,qD,qG,.nils],qQ 4 3 5] (qe [qZ 6,yl 7 6 (qk 20)] (.blk 0 (xx 9 7 0 8 9 8 (.reg [qZ 10,qY 11 1 [qD] 3 [yv (-1),xj 1 256,xj 2 3],xc 12 10 11,xN 13 3,xn 13 12]) (xx 15 7 1 14 15 14 (.reg [qZ 16,qY 17 1 [qG] 5 [(0,1,.c qG),(1,1,wW [100,111]),(2,1,wW [65]),(3,1,wW [97,98,99,100,101]),(4,1,wW [113])],xP 18 16 17,xw 19 3,xn 19 18]) (xx 21 7 2 20 21 20 (.reg [qZ 22,qY 23 1 [qD] 5 [yv 0,xj 1 14,xj 2 (-1),xj 3 5,xj 4 11],xc 24 22 23,wT 25 3,xn 25 24]) (xx 27 7 3 26 27 26 (.reg [xW 28 3,qZ 30,qr 29 28,wE 31 dN 30 (.c .nils),wX 28 29,xU 32 4 [qD,qD,qG,.nils] 1 (yx 4 31),xg 33 4 56 29 32,xW 34 3,xn 34 33]) (xo (wV 36 7 4 35 36) 35 [qZ 37,x7 38 iT 37 7,qQ 4 3 38]))))))) [yb 39 3,qQ 4 2 39])⟩
theorem Ed:ag Tryz.prog nZ=some uk:=by kernel_rfl
def oC:AK:=xy [qX 2 yg] [qZ 9,xr 10 dM 9,qX 3 yg,xn 3 10] (qe [wT 11 3,qr 12 11,wT 13 3,qr 14 13,wq 15 14,xO 16 15 1,wB 17 3 12 16,qH 18 3 17,qX 4 [qG,.nils,.nils],qQ 3 4 18] (.cut (qe [qZ 19,yl 20 19 (qk 32)] (.blk 0 (xx 22 20 0 21 22 21 (.reg [qZ 23,qY 24 1 [qG] 4 [(0,1,wW [102]),(1,1,wW [100,111]),(2,1,.c qG),(3,1,wW [103])],xP 25 23 24,wT 26 4,xn 26 25]) (xx 28 20 1 27 28 27 (.reg [qY 29 1 [qG] 0 [],xN 30 4,qr 31 30,xg 32 1 16 29 31,qZ 33,qY 34 1 [qG] 3 [(0,1,wW [97]),(1,1,wW [120]),(2,1,wW [105,102])],xP 35 33 34,qY 36 1 [qG] 1 [xu 0 35],xg 37 1 16 32 36,xN 38 4,xn 38 37]) (xx 40 20 2 39 40 39 (.reg [qY 41 5 [qD,qG,.nils,.nils,.nils] 0 [],xw 42 4,qr 43 42,xg 44 5 96 41 43,qZ 45,xr 46 nZ 45,yy 47 4 [qD,qD,qG,.nils] 1 4 46,ws 48 [qD,qG,.nils,.nils,.nils] [yv 3,xu 2 47],yy 49 5 [qD,qG,.nils,.nils,.nils] 1 5 48,xg 50 5 96 44 49,xw 51 4,xn 51 50]) (xx 53 20 3 52 53 52 (.reg [qY 54 5 [qD,qG,.nils,.nils,.nils] 0 [],xw 55 4,qr 56 55,xg 57 5 96 54 56,qZ 58,yl 59 58 (qk 10),qZ 60,qY 61 1 [qG] 3 [(0,1,.c qG),(1,1,wW [97]),(2,1,wW [122,122])],xP 62 60 61,qZ 63,x7 64 iT 63 2,yy 65 4 [qD,qD,qG,.nils] 1 4 64,ws 66 [qD,qG,.nils,.nils,.nils] [xu 0 59,xu 1 62,xu 2 65],yy 67 5 [qD,qG,.nils,.nils,.nils] 1 5 66,xg 68 5 96 57 67,xw 69 4,xn 69 68]) (xx 71 20 4 70 71 70 (qe [ws 72 [qD,qD,qG,.nils] [yv 1],yy 73 4 [qD,qD,qG,.nils] 1 4 72,ws 74 [qD,qG,.nils,.nils,.nils] [yv 6,xu 2 73],qX 5 [qD,qG,.nils,.nils,.nils],qQ 5 5 74] (.cut (xX [qZ 75,yl 76 75 (qk 5),x9 76] 1 [qg 77 6,yu 78 77 0] 78 (.exit 1) 2 (.reg [qZ 81,xU 82 1 [qD] 2 [yv 5,xj 1 6],xw 84 5,qr 85 84,qH 86 5 5,xU 87 5 [qD,qG,.nils,.nils,.nils] 1 (yx 5 86),xc 83 81 82,wX 84 85,yr 5 5 86,ws 88 [qD,qG,.nils,.nils,.nils] [xu 0 83,xu 2 85,xu 3 87],qQ 5 5 88]) [qg 79 6,xO 80 79 1,x9 80]) (.reg [xw 90 4,qr 91 90,qH 93 5 5,xU 94 5 [qD,qG,.nils,.nils,.nils] 1 (yx 5 93),qY 89 5 [qD,qG,.nils,.nils,.nils] 0 [],wX 90 91,yr 5 5 93,xg 92 5 96 89 91,yr 5 5 93,xg 95 5 96 92 94,xw 96 4,xn 96 95]))) (xx 98 20 5 97 98 97 (qA [ws 99 yg [],xn 2 99]) (xx 101 20 6 100 101 100 (xX [qZ 102,qY 103 1 [qD] 3 [yv 20,xj 1 40,xj 2 41],xc 104 102 103,qg 7 104] 3 [yh 105,yu 106 105 0] 106 (.exit 3) 4 (.reg [qY 109 5 [qD,qG,.nils,.nils,.nils] 0 [],xw 110 4,qr 111 110,xg 112 5 96 109 111,yh 113,ws 114 [qD,qD,qG,.nils] [yv 1,xu 1 113],yy 115 4 [qD,qD,qG,.nils] 1 4 114,ws 116 [qD,qG,.nils,.nils,.nils] [yv 3,xu 2 115],yy 117 5 [qD,qG,.nils,.nils,.nils] 1 5 116,xg 118 5 96 112 117,xw 119 4,xn 119 118]) [yh 107,xO 108 107 1,qg 7 108]) (wl (wV 121 20 7 120 121) 120 [wT 123 3,wT 126 3,qr 124 123,qr 127 126,wu 128 3 127 yi,qH 129 3 128,xU 130 3 [qG,.nils,.nils] 1 (yx 3 129),qY 122 3 [qG,.nils,.nils] 0 [],wX 123 124,wX 126 127,yr 3 128 129,xg 125 3 64 122 124,wX 126 127,yr 3 128 129,xg 131 3 64 125 130,ws 132 yg [xu 0 131],xn 2 132])))))))))) (qe [qY 133 3 [qG,.nils,.nils] 0 [],wT 134 3,qr 135 134,xg 136 3 64 133 135,qg 8 136] (wM [yd 137,yd 138,wq 139 138,xO 140 139 1,qH 141 3 4,wB 142 3 137 140,qQ 3 142 141] [yd 143,ws 144 yg [xu 0 143],xn 2 144]))))
def og:FK:=⟨145,[xA 2 1],(AK.whole oC)⟩
theorem DJ:ag Tryz.prog nX=some og:=by kernel_rfl
def ug:FK:=⟨25,[xA 2 4],qe [yA 1 4,qX 2 [qD,qD,qG,.nils]] (qM (wU (qY 5 4 [qD,qD,qG,.nils] 0 []) 3 5) (xX [xY] 0 [x9 4,xW 7 1,qr 8 7,wq 9 8,xa 10 6 9] 10 wA 1 (.reg [qg 13 3,xW 14 1,qr 15 14,qg 16 4,wB 17 4 15 16,yb 18 17,xr 19 kx 18,yy 20 4 [qD,qD,qG,.nils] 1 4 19,xg 21 4 56 13 20,qg 3 21]) [qg 11 4,x8 12 11,yz 12]) (wM [qg 22 3,xW 23 1,xn 23 22] [yb 24 1,qQ 4 2 24]))⟩
theorem DN:ag Tryz.prog kx=some ug:=by kernel_rfl
def rt:FK:=⟨52,[xM],qe [ye 2] (wZ (wU (qY 8 5 [qD,qG,.nils,.nils,.nils] 0 []) 3 8) (xX [xY] 0 [qg 9 4,qZ 10,wq 11 10,xa 12 9 11] 12 wA 1 (qe [qZ 15,qg 16 4,wB 17 5 15 16,qH 18 5 17,qX 5 [qD,qG,.nils,.nils,.nils],qQ 5 5 18] (qM (wU (qY 19 4 [qD,qD,qG,.nils] 0 []) 6 19) (xX [wY 7] 2 [yh 20,xw 21 5,qr 22 21,wq 23 22,xa 24 20 23] 24 (.exit 2) 3 (.reg [qg 27 6,xw 28 5,qr 29 28,yh 30,wB 31 4 29 30,yb 32 31,xr 33 kx 32,yy 34 4 [qD,qD,qG,.nils] 1 4 33,xg 35 4 56 27 34,x9 35]) [yh 25,x8 26 25,qg 7 26]) (.reg [qg 36 3,wT 37 5,xN 39 5,qg 41 6,xW 42 5,qq 45 4 5,qr 38 37,qr 40 39,qr 43 42,qr 46 45,xr 44 eB 43,wX 37 38,wX 39 40,wX 45 46,xr 47 eB 46,wX 37 38,wX 39 40,ws 48 [qD,qG,.nils,.nils,.nils] [xu 0 38,xu 1 40,xu 2 41,xu 3 44,xu 4 47],yy 49 5 [qD,qG,.nils,.nils,.nils] 1 5 48,xg 50 5 96 36 49,qg 3 50]))) [qg 13 4,x8 14 13,yz 14]) (wU (qg 51 3) 2 51))⟩
theorem BC:ag Tryz.prog eB=some rt:=by kernel_rfl
def uf:FK:=⟨35,[xA 2 1],qe [yA 1 1,qX 2 yg] (wZ [ws 6 yg [],qX 3 yg,xn 3 6] (xX [xY] 0 [qg 7 4,wT 8 1,qr 9 8,wq 10 9,xa 11 7 10] 11 wA 1 (xL [wT 14 1,qr 15 14,qg 16 4,wB 17 3 15 16,qH 18 3 17,qX 5 [qG,.nils,.nils],qQ 3 5 18] [wT 19 3,wT 21 5,xN 24 5,xw 27 5,qr 20 19,qr 22 21,qr 25 24,qr 28 27,qY 23 1 [qG] 0 [],wX 19 20,wX 21 22,wX 24 25,wX 27 28,xg 26 1 16 23 25,wX 19 20,wX 21 22,wX 27 28,xr 29 eB 28,wX 19 20,wX 21 22,ws 30 [qG,.nils,.nils] [xu 0 22,xu 1 26,xu 2 29],yy 31 3 [qG,.nils,.nils] 1 3 30,wX 19 20,xg 32 3 64 20 31,wT 33 3,xn 33 32]) [qg 12 4,x8 13 12,yz 13]) [qH 34 1 3,xn 2 34])⟩
theorem DQ:ag Tryz.prog oo=some uf:=by kernel_rfl
def ux:FK:=⟨104,[xA 2 1],qe [qX 2 yg] (yn [qZ 7,xr 8 dM 7,qX 3 yg,xn 3 8] [qZ 9,yl 10 9 (qk 5),yu 11 10 2] 11 [qH 12 1 3,xn 2 12] (.seq (wl [qZ 13,yl 14 13 (qk 6),wb 15 14 0] 15 [qZ 16,xr 17 nX 16,xn 2 17]) (qe [qH 18 1 3,xr 19 oo 18,xn 3 19] (yn [wT 20 3,qZ 22,wT 23 3,qr 21 20,qr 24 23,wq 25 24,yl 26 22 (.t 25),wX 20 21,wB 27 3 21 26,yz 27] [qg 28 4,qV 29 28,xw 30 29,qr 31 30,wq 32 31,wb 33 32 0] 33 [qH 34 1 3,xn 2 34] (qe [qg 35 4,qV 36 35,xw 37 36,qZ 39,qg 40 4,qV 41 40,xw 42 41,qr 38 37,qr 43 42,wq 44 43,yl 45 39 (.t 44),wX 37 38,wB 46 5 38 45,qg 5 46] (qM [qZ 47,qY 48 1 [qG] 5 [(0,1,wW [122,122]),(1,1,wW [97]),(2,1,wW [98]),(3,1,wW [99]),(4,1,wW [100])],xP 49 47 48,ws 50 [qD,qD,qG,.nils] [yv 2,xu 2 49],qX 6 [qD,qD,qG,.nils],qQ 4 6 50] (qe [qZ 51,yl 52 51 (qk 4)] (.blk 0 (xx 54 52 0 53 54 53 (.reg [qZ 55,qY 56 1 [qG] 4 [(0,1,wW [102]),(1,1,wW [103]),(2,1,wW [109]),(3,1,wW [113])],xP 57 55 56,ws 58 [qD,qD,qG,.nils] [yv 1,xj 1 1],yy 59 4 [qD,qD,qG,.nils] 1 4 58,ws 60 [qD,qD,qG,.nils] [yv 13,xu 2 57,xu 3 59],qQ 4 6 60]) (xx 62 52 1 61 62 61 (xV (xo [xt 63,qV 64 63,xN 65 64,qr 66 65,qb 67 (yq .neq 66 (.c qG))] 67 [xt 68,qZ 69,qY 70 1 [qG] 5 [(0,1,wW [97]),(1,1,wW [98]),(2,1,wW [122,122]),(3,1,wW [99]),(4,1,wW [100])],xP 71 69 70,qV 72 68,xN 73 72,xn 73 71]) [qH 74 1 3,xn 2 74]) (qS (wV 76 52 2 75 76) 75 (wM [qg 77 4,qg 78 4,qV 79 78,xw 80 79,qg 82 4,qV 83 82,xw 84 83,qr 81 80,qr 85 84,qb 86 (.slS 5 (.t 85) none (some (qk 1))),xr 87 eB 86,wX 80 81,xg 88 5 96 81 87,qV 89 77,xw 90 89,xn 90 88] [qH 91 1 3,xn 2 91])))))) (xV (xo [xt 92,qV 93 92,wT 94 93,qr 95 94,qy 96 .neq 95 8] 96 [xt 97,qV 98 97,xw 99 98,qr 100 99,yb 101 6,wu 102 4 100 yi,qQ 4 102 101]) [qH 103 1 3,xn 2 103])))))))⟩
theorem Dv:ag Tryz.prog oq=some ux:=by kernel_rfl
def sG:AK:=xy [wz 3 1 1,ye 4] (wU (qY 8 1 [qD] 0 []) 5 8) (qe [wY 6] (.cut (xo [wT 9 3,qr 10 9,wq 11 10,yu 12 11 0] 12 [wT 13 3,qr 14 13,wT 15 3,qr 16 15,wq 17 16,xO 18 17 1,wB 19 3 14 18,xN 20 19,qr 21 20,wq 22 21,x9 22]) (.cut (xX [wY 7] 0 [yh 23,qg 24 6,xa 25 23 24] 25 wA 1 (.reg [xt 28,qZ 29,qZ 30,yl 31 30 (qk 256),qY 32 1 [qD] 8 [yv 0,xj 1 1,xj 2 2,xj 3 3,xj 4 7,xj 5 16,xj 6 255,xu 7 31],xc 33 29 32,qY 34 1 [qD] 1 [xu 0 33],xg 35 1 8 28 34,qg 5 35]) [yh 26,x8 27 26,qg 7 27]) (xV (qe [qZ 36,yl 37 36 (qk 40)] (.blk 2 (xx 39 37 0 38 39 38 (.reg [xt 40,qY 41 1 [qD] 1 [yv 0],xg 42 1 8 40 41,qg 5 42]) (qS (wV 44 37 1 43 44) 43 (xo [xt 45,wq 46 45,yu 47 46 0] 47 [xt 48,qZ 49,qY 50 1 [qD] 2 [yv (-1),xj 1 256],xc 51 49 50,wu 52 1 48 yi,xn 52 51]))))) (wU (xt 53) 4 53)))))
def se:FK:=⟨54,yt,(AK.whole sG)⟩
theorem HN:ag Tryz.prog sE=some se:=by kernel_rfl
def jP:FK:=⟨23,[xA 2 1,.t 3,xp],xy [qX 2 yg,ye 3,xY] [qZ 7,xr 8 mB 7,yd 5] (wZ [xt 9,xr 10 dM 9,qX 6 yg,xn 6 10] (xo [xt 11,yl 12 11 (qk 12),wb 13 12 0] 13 [xt 14,xr 15 oq 14,xn 6 15]) [xt 17,xt 20,xU 21 1 [qD] 10 [yv 400,xj 1 400,xj 2 1000,xj 3 20,xj 4 5,xj 5 1,xj 6 0,xj 7 4000,xj 8 (-1),xj 9 4001],qH 16 1 6,qH 18 1 6,wF 19 sE 17 18,yr 1 6 16,xc 22 20 21,yr 1 6 16,xn 2 16,qg 3 19,yz 22])⟩
theorem rg:ag Tryz.prog fz=some jP:=by kernel_rfl
def tU:FK:=⟨26,yt,yn [xm] [qZ 6,wq 7 6,xh 8,wq 9 8,wo 10 .neq 7 9] 10 [xm] (xV (xX [wY 5] 0 [xt 11,qZ 12,wq 13 12,xa 14 11 13] 14 wA 1 (wl [qZ 17,xt 18,wB 19 1 17 18,xh 21,xt 22,wB 23 1 21 22,qr 20 19,qr 24 23,wo 25 .neq 20 24] 25 [xm]) [xt 15,x8 16 15,qg 5 16]) [qT 4 wg])⟩
theorem DW:ag Tryz.prog ky=some tU:=by kernel_rfl
def mW:FK:=⟨31,yt,wM [yA 2 4,wz 3 4 1,xm] [wT 5 2,qr 6 5,wT 7 3,qr 8 7,wF 9 ky 6 8,qg 10 9,wS 11 10 1 2,wQ 12 10 11,wS 13 10 1 3,wQ 14 10 13,qK 15 10 (ql .eql 12 (.t 14)),xR 16 10 15,qg 17 16,wS 18 17 2 2,wQ 19 17 18,wS 20 17 2 3,wQ 21 17 20,qK 22 17 (ql .eql 19 (.t 21)),xR 23 17 22,qg 24 23,wS 25 24 3 2,wQ 26 24 25,wS 27 24 3 3,wQ 28 24 27,qK 29 24 (xJ ky 26 (.t 28)),xR 30 24 29,yz 30]⟩
theorem vb:ag Tryz.prog eV=some mW:=by kernel_rfl
def mP:FK:=⟨26,yt,yn [xm] [qZ 6,wq 7 6,xh 8,wq 9 8,wo 10 .neq 7 9] 10 [xm] (xV (yC [qZ 11,wq 12 11,wY 13] 0 [xa 14 13 12] 14 wA (wx 1 (qe (wU (qg 15 13) 5 15) (wl [qZ 16,xt 17,wB 18 1 16 17,xh 20,xt 21,wB 22 1 20 21,qr 19 18,qr 23 22,wo 24 .neq 19 23] 24 [xm])) (yw 25 13 13 25))) [qT 4 wg])⟩
theorem uC:ag Tryz.prog eS=some mP:=by kernel_rfl
def mV:FK:=⟨31,yt,wM [yA 2 4,wz 3 4 1,xm] [wT 5 2,qr 6 5,wT 7 3,qr 8 7,wF 9 eS 6 8,qg 10 9,wS 11 10 1 2,wQ 12 10 11,wS 13 10 1 3,wQ 14 10 13,qK 15 10 (ql .eql 12 (.t 14)),xR 16 10 15,qg 17 16,wS 18 17 2 2,wQ 19 17 18,wS 20 17 2 3,wQ 21 17 20,qK 22 17 (ql .eql 19 (.t 21)),xR 23 17 22,qg 24 23,wS 25 24 3 2,wQ 26 24 25,wS 27 24 3 3,wQ 28 24 27,qK 29 24 (xJ eS 26 (.t 28)),xR 30 24 29,yz 30]⟩
theorem uA:ag Tryz.prog ik=some mV:=by kernel_rfl
def eO:FK:=⟨9,yt,wM [xm] [qZ 5,xh 6,wF 7 bs 5 6,qy 8 .geq 7 0,yd 4]⟩
theorem kP:ag Tryz.prog cH=some eO:=by kernel_rfl
def jY:FK:=⟨22,yt,qe [ye 4] (wZ [ye 5] (yC [qZ 8,wq 9 8,wY 10] 0 [xa 11 10 9] 11 wA (wx 1 (xL [wB 12 3 8 10,qH 13 3 12,qX 7 [qG,.nils,.nils],qQ 3 7 13] [xt 14,xh 15,qH 16 3 7,qb 17 (yc 15 (xq 16)),yy 18 3 [qG,.nils,.nils] 1 3 17,xg 19 3 64 14 18,qg 5 19]) (yw 20 10 10 20))) (wU (xt 21) 4 21))⟩
theorem rn:ag Tryz.prog dw=some jY:=by kernel_rfl
def jo:FK:=⟨10,[],qe [yA 3 5] (xo [wT 5 3,qr 6 5,wb 7 6 1] 7 [qr 8 2,x8 9 8,xn 2 9])⟩
theorem vu:ag Tryz.prog fJ=some jo:=by kernel_rfl
def re:FK:=⟨12,[xM],xy [yA 1 3,wY 2] [xN 4 1,qr 5 4,wq 6 5,qX 3 [qD],xn 3 6] (wM [xw 7 1,qr 8 7,qb 9 (.mkf (.func fJ) (xq 3)),xG 10 gh 8 (qk 1) (.t 9)] (wU (qr 11 3) 2 11))⟩
theorem Az:ag Tryz.prog hZ=some re:=by kernel_rfl
def jp:FK:=⟨6,[xM],wM [yA 1 3,yp] [qH 3 3 1,xr 4 hZ 3,yu 5 4 26,xt 2]⟩
theorem pw:ag Tryz.prog cZ=some jp:=by kernel_rfl
def lr:FK:=⟨22,yt,qe [ye 4] (wZ [ye 5] (yC [qZ 8,wq 9 8,wY 10] 0 [xa 11 10 9] 11 wA (wx 1 (xL [wB 12 1 8 10,qr 13 12,qg 7 13] [xt 14,xh 15,yh 16,qb 17 (yc 15 (xq 16)),qY 18 1 [qG] 1 [xu 0 17],xg 19 1 16 14 18,qg 5 19]) (yw 20 10 10 20))) (wU (xt 21) 4 21))⟩
theorem rR:ag Tryz.prog dF=some lr:=by kernel_rfl
def iF:FK:=⟨22,yt,qe [ye 4] (wZ [ye 5] (yC [qZ 8,wq 9 8,wY 10] 0 [xa 11 10 9] 11 wA (wx 1 (xL [wB 12 5 8 10,qH 13 5 12,qX 7 [qD,qG,.nils,.nils,.nils],qQ 5 7 13] [xt 14,xh 15,qH 16 5 7,qb 17 (yc 15 (xq 16)),yy 18 5 [qD,qG,.nils,.nils,.nils] 1 5 17,xg 19 5 96 14 18,qg 5 19]) (yw 20 10 10 20))) (wU (xt 21) 4 21))⟩
theorem po:ag Tryz.prog cK=some iF:=by kernel_rfl
def iE:FK:=⟨22,yt,qe [ye 4] (wZ [ye 5] (yC [qZ 8,wq 9 8,wY 10] 0 [xa 11 10 9] 11 wA (wx 1 (xL [wB 12 4 8 10,yb 13 12,qX 7 [qD,qD,qG,.nils],qQ 4 7 13] [xt 14,xh 15,yb 16 7,qb 17 (yc 15 (xq 16)),yy 18 4 [qD,qD,qG,.nils] 1 4 17,xg 19 4 56 14 18,qg 5 19]) (yw 20 10 10 20))) (wU (xt 21) 4 21))⟩
theorem pq:ag Tryz.prog aX=some iE:=by kernel_rfl
def md:FK:=⟨10,yt,wM [qT 4 qG] [xh 5,qb 6 (.bin .add (qk 97) (.t 5)),qb 7 (.conv .i32 (.t 6)),qb 8 (.strB (.t 7)),qb 9 (.bins .add (wW [118]) (.t 8)),yz 9]⟩
theorem tD:ag Tryz.prog cU=some md:=by kernel_rfl
def lQ:FK:=⟨30,[.t 6],xy [qT 6 qG] [xh 7,qV 8 7,wT 9 8,xz 11,qZ 12,qV 13 12,wT 14 13,qr 10 9,qr 15 14,qB (.mup 1 (.t 10) (.t 11) (.t 15))] (wM [qZ 16,qV 17 16,wT 18 17,qr 19 18,x8 20 19,qV 21 16,wT 22 21,xn 22 20] [qZ 23,qZ 24,qV 25 24,wT 26 25,qr 27 26,xO 28 27 1,wF 29 cU 23 28,x9 29])⟩
theorem ty:ag Tryz.prog dW=some lQ:=by kernel_rfl
def jT:FK:=⟨9,[xA 4 4],wM [yA 3 4,qX 4 [qD,qD,qG,.nils]] [qr 5 1,yb 6 3,qr 7 2,xI 8 cX 5 6 7,qQ 4 4 8]⟩
theorem rh:ag Tryz.prog dy=some jT:=by kernel_rfl
def ee:AK:=qe [yA 3 1,wz 4 4 1,wz 5 1 2,qX 6 [qD,qD,qG,.nils]] (.cut (qS [wT 9 4,qr 10 9,wb 11 10 2] 11 (xL [qr 13 5,xw 14 4,qr 15 14,wF 16 bq 13 15,qg 12 16,wP 17 0 12,wP 18 1 12,qg 7 17,qg 8 18] [qr 19 3,yh 20,wF 21 cU 19 20,xw 22 4,xn 22 21])) (wM [xW 23 4,qr 24 23,qb 25 (.mkf (.func dy) (wD 3 (.t 5))),wF 26 aX 24 25,xW 27 4,xn 27 26] [yb 28 4,qQ 4 6 28]))
def ef:FK:=⟨29,[xA 6 4],(AK.whole ee)⟩
theorem to:ag Tryz.prog cX=some ef:=by kernel_rfl
def gP:FK:=⟨9,[xA 4 4],wM [yA 3 4,qX 4 [qD,qD,qG,.nils]] [qr 5 1,yb 6 3,qr 7 2,xI 8 cX 5 6 7,qQ 4 4 8]⟩
theorem ow:ag Tryz.prog cy=some gP:=by kernel_rfl
def fg:AK:=xy [yA 3 5,qX 4 [qD,qG,.nils,.nils,.nils]] [xw 7 3,qr 8 7,qb 9 (.mkf (.func cy) (wD 1 (.t 2))),wF 10 aX 8 9,xw 11 3,xn 11 10] (.cut (qe [wT 12 3,qr 13 12] (.blk 0 (xx 15 13 1 14 15 14 (.reg [qr 16 1,qr 17 2,xN 18 3,qr 19 18,xI 20 dW 16 17 19,xN 21 3,xn 21 20]) (qS (wV 23 13 2 22 23) 22 (xL [qr 25 2,xN 26 3,qr 27 26,wF 28 bq 25 27,qg 24 28,wP 29 0 24,wP 30 1 24,qg 5 29,x9 30] [qr 31 1,xt 32,wF 33 cU 31 32,xN 34 3,xn 34 33]))))) (qe [xW 36 3,qr 35 1,qr 37 36,qr 38 2,xr 39 bF 38,wX 1 35,wX 36 37,xI 40 bQ 35 37 39,xW 41 3,xn 41 40] (wM [qq 43 4 3,qr 42 1,qr 44 43,qr 45 2,xr 46 bF 45,wX 1 42,wX 43 44,xI 47 bQ 42 44 46,qq 48 4 3,xn 48 47] [qH 49 5 3,qQ 5 4 49])))
def fc:FK:=⟨50,[xA 4 5],(AK.whole fg)⟩
theorem pH:ag Tryz.prog bX=some fc:=by kernel_rfl
def kV:FK:=⟨10,[.t 6],wM [yA 3 1,wz 5 1 2,ye 6] [xh 7,qb 8 (.mkf (.func bX) (wD 3 (.t 5))),wF 9 cK 7 8,x9 9]⟩
theorem rp:ag Tryz.prog bQ=some kV:=by kernel_rfl
def gT:FK:=⟨9,yt,wM [qT 4 qG] [qr 5 1,qr 6 2,qZ 7,xI 8 dW 5 6 7,yd 4]⟩
theorem oy:ag Tryz.prog cx=some gT:=by kernel_rfl
def jr:FK:=⟨20,[xA 2 3],xy [yA 1 3,qX 2 [qG,.nils,.nils]] [ws 5 [qD] [],wz 6 1 5,qo 7 bF [.c .nilp],qX 3 [.nilp],qX 4 [.nilp],xn 3 6,xn 4 7] (qe [xN 8 1,qr 9 8,qb 10 (.mkf (.func cx) (wD 3 (.t 4))),wF 11 dF 9 10,xN 12 1,xn 12 11] (wM [qr 13 3,xw 14 1,qr 15 14,qr 16 4,xI 17 bQ 13 15 16,xw 18 1,xn 18 17] [qH 19 3 1,qQ 3 2 19]))⟩
theorem pB:ag Tryz.prog bW=some jr:=by kernel_rfl
def kY:FK:=⟨17,[xA 2 1,.t 3],wZ [yA 1 1,qX 2 yg,wI 3] (wl [qH 4 1 1,xr 5 kR 4,xv 6 5,qg 7 6,xD 8 7 0 1,xB 9 7 8,qL 10 7 (xJ cH 9 (.c (.fn (.func cZ) []))),xZ 11 7 10] 11 [ws 12 yg [],xn 2 12,wI 3]) [wT 13 1,qr 14 13,wE 15 dw 14 (.c (.fn (.func bW) [])),ws 16 yg [xu 0 15],xn 2 16,qT 3 wg]⟩
theorem rV:ag Tryz.prog dH=some kY:=by kernel_rfl
def oZ:FK:=⟨23,yt,wZ [yA 2 1,xY] (wl [qH 5 1 2,xr 6 kR 5,xv 7 6,yh 8,xC 9 8 1,xD 10 8 0 2,xB 11 8 10,qL 12 8 (wd 11),qL 13 8 (xd .sub 12 1),qL 14 8 (.call de (xF 9 yi (.t 13))),qL 15 8 (wn 14),xZ 16 8 15] 16 [qO 4 (-1)]) [wT 17 2,qr 18 17,xh 19,wB 20 3 18 19,qH 21 3 20,xr 22 hZ 21,yz 22]⟩
theorem zK:ag Tryz.prog kr=some oZ:=by kernel_rfl
def lY:FK:=⟨87,[xM],yn [yp] [qZ 14,wq 15 14,yu 16 15 1048576] 16 [qT 2 wg] (xy [qZ 18,xr 19 fz 18,qg 17 19,wP 20 0 17,wP 21 1 17,wP 22 2 17,qX 3 yg,xn 3 20,yz 21,qg 5 22] [qH 24 1 3,qg 25 4,xt 26,xI 27 bE 24 25 26,qg 23 27,wP 28 0 23,wP 29 1 23,qX 6 [.nils,qD,qD,.nils],qQ 4 6 28,qg 7 29] (yn [qH 31 1 3,qg 32 4,xt 33,xI 34 bZ 31 32 33,qg 30 34,wP 35 0 30,wP 36 1 30,qX 8 [.nils,qD,qD,.nils],qQ 4 8 35,qg 9 36] [yh 37,qg 38 9,qb 39 (.beq true (.t 37) (.t 38)),qg 40 39,qL 41 40 (qj (some 4) 6),qL 42 40 (qj (some 4) 8),qL 43 40 (xJ eV 41 (.t 42)),qL 44 40 (wn 43),xZ 45 40 44,qg 46 45,xC 47 46 7,qL 48 46 (wn 47),xZ 49 46 48] 49 [yh 50,qg 51 9,qb 52 (.beq false (.t 50) (.t 51)),qg 53 52,qK 54 53 (qj (some 4) 6),qK 55 53 (qj (some 4) 8),qK 56 53 (xJ eV 54 (.t 55)),xR 57 53 56,qg 2 57] (yn [qH 59 1 3,xr 60 dH 59,qg 58 60,wP 61 0 58,wP 62 1 58,qX 10 yg,xn 10 61,qg 11 62] [qg 63 11,xv 64 63] 64 [qH 65 1 3,x7 66 kr 65 0,yu 67 66 26,qg 68 67,xD 69 68 0 3,xB 70 68 69,qL 71 68 (wd 70),qL 72 68 (xd .gtr 71 1),xZ 73 68 72,qg 2 73] (wM [qH 75 1 10,qg 76 4,xt 77,xI 78 bE 75 76 77,qg 74 78,wP 79 0 74,wP 80 1 74,qX 12 [.nils,qD,qD,.nils],qQ 4 12 79,qg 13 80] [qg 81 13,qg 82 81,qK 83 82 (qj (some 4) 12),qK 84 82 (qj (some 4) 6),qK 85 82 (xJ ik 83 (.t 84)),xR 86 82 85,qg 2 86]))))⟩
theorem tC:ag Tryz.prog ma=some lY:=by kernel_rfl
end Go.Proofs.YtokiapglmedipaaGreatDoor
