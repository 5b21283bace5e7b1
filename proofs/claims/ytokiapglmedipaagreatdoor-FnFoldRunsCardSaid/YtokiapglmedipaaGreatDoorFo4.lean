/-
  Contracts and lemmas that the card needs, part 4.
-/
import Derived.Test.YtokiapglmedipaaGreatDoorFo3
import Derived.Test.YtokiapglmedipaaGreatDoorRows
namespace Go.Proofs.YtokiapglmedipaaGreatDoor
open Go Go.Aw
set_option maxRecDepth 100000
abbrev kO:FuncId:=56
abbrev nj:FuncId:=239
abbrev mu:FuncId:=235
abbrev pD:FuncId:=221
abbrev iB:FuncId:=236
abbrev pT:FuncId:=222
abbrev dq:FuncId:=195
abbrev kE:FuncId:=237
abbrev kJ:FuncId:=242
abbrev ir:FuncId:=240
abbrev jr:FuncId:=241
abbrev gt:FuncId:=238
abbrev kB:FuncId:=223
abbrev cT:FuncId:=196
abbrev sg:FuncId:=164
abbrev gg:FuncId:=197
abbrev pP:FuncId:=165
abbrev eF:FuncId:=114
abbrev nU:FuncId:=199
abbrev bQ:FuncId:=200
abbrev fk:FuncId:=224
abbrev kG:FuncId:=225
abbrev fM:FuncId:=201
abbrev fP:FuncId:=227
abbrev dF:FuncId:=226
abbrev dg:FuncId:=202
abbrev nH:FuncId:=169
abbrev gH:FuncId:=119
abbrev kD:FuncId:=70
abbrev dI:FuncId:=209
abbrev pE:FuncId:=210
abbrev ef:FuncId:=57
abbrev gQ:FuncId:=172
abbrev gL:FuncId:=122
abbrev fK:FuncId:=173
abbrev eu:FuncId:=124
abbrev dV:FuncId:=123
abbrev dt:FuncId:=75
abbrev dQ:FuncId:=125
abbrev db:FuncId:=76
abbrev da:FuncId:=174
abbrev cx:FuncId:=126
abbrev iD:FuncId:=175
abbrev kz:FuncId:=156
abbrev mI:FuncId:=228
abbrev iu:FuncId:=203
abbrev fa:FuncId:=176
abbrev kL:FuncId:=128
abbrev dx:FuncId:=127
abbrev dE:FuncId:=78
abbrev jp:FuncId:=129
abbrev gw:FuncId:=130
abbrev ju:FuncId:=79
abbrev bH:FuncId:=77
abbrev eJ:FuncId:=37
abbrev dz:FuncId:=80
abbrev ia:FuncId:=81
abbrev la:FuncId:=39
abbrev dj:FuncId:=72
abbrev ec:FuncId:=73
abbrev gv:FuncId:=170
abbrev cX:FuncId:=121
abbrev cz:FuncId:=171
abbrev eS:FuncId:=120
abbrev bT:FuncId:=74
abbrev eQ:FuncId:=36
abbrev kP:FuncId:=68
abbrev fq:FuncId:=189
abbrev dR:FuncId:=154
abbrev dw:FuncId:=155
abbrev mH:FuncId:=104
abbrev ow:FuncId:=53
abbrev bx:FuncId:=157
abbrev uh:FuncId:=105
abbrev bP:FuncId:=108
abbrev nP:FuncId:=212
abbrev eD:FuncId:=190
abbrev gz:FuncId:=215
abbrev mv:FuncId:=205
abbrev gC:FuncId:=180
abbrev eK:FuncId:=216
abbrev cr:FuncId:=213
abbrev jg:FuncId:=214
abbrev gI:FuncId:=191
abbrev bv:FuncId:=158
abbrev eE:FuncId:=107
abbrev eG:FuncId:=106
abbrev fS:FuncId:=54
abbrev ee:FuncId:=21
abbrev je:FuncId:=60
abbrev bi:FuncId:=62
abbrev cG:FuncId:=65
abbrev dT:FuncId:=117
abbrev eq:FuncId:=198
abbrev bg:FuncId:=194
abbrev jj:FuncId:=163
abbrev iP:FuncId:=234
abbrev eZ:FuncId:=218
abbrev fT:FuncId:=219
abbrev jy:FuncId:=220
abbrev jv:FuncId:=193
abbrev bl:FuncId:=162
abbrev iA:FuncId:=113
abbrev dr:FuncId:=61
abbrev jL:FuncId:=167
abbrev nZ:FuncId:=166
abbrev oh:FuncId:=115
abbrev kN:FuncId:=168
abbrev dG:FuncId:=118
abbrev fC:FuncId:=116
abbrev oD:FuncId:=63
abbrev fm:FuncId:=67
abbrev iI:FuncId:=31
abbrev gf:FuncId:=69
abbrev gy:FuncId:=33
abbrev iv:FuncId:=71
abbrev ku:FuncId:=34
abbrev gu:FuncId:=38
abbrev cy:FuncId:=85
abbrev bR:FuncId:=133
abbrev aW:FuncId:=98
abbrev cd:FuncId:=137
abbrev kM:FuncId:=91
abbrev jS:FuncId:=42
abbrev cI:FuncId:=140
abbrev dM:FuncId:=139
abbrev aO:FuncId:=138
abbrev dO:FuncId:=142
abbrev eV:FuncId:=141
abbrev gq:FuncId:=92
abbrev ca:FuncId:=143
abbrev dp:FuncId:=178
abbrev cL:FuncId:=144
abbrev fH:FuncId:=229
abbrev iq:FuncId:=230
abbrev kK:FuncId:=204
abbrev kH:FuncId:=179
abbrev cf:FuncId:=145
abbrev ij:FuncId:=94
abbrev mM:FuncId:=95
abbrev iy:FuncId:=146
abbrev eb:FuncId:=96
abbrev eI:FuncId:=45
abbrev fg:FuncId:=46
abbrev eU:FuncId:=181
abbrev dX:FuncId:=206
abbrev iw:FuncId:=182
abbrev iz:FuncId:=147
abbrev iV:FuncId:=99
abbrev aS:FuncId:=97
abbrev dB:FuncId:=47
abbrev fj:FuncId:=48
abbrev nJ:FuncId:=12
@[reducible] def qa(a:Nat)(b:Option (Nat × Bool))(c:AI):CO:=⟨some a,b,c⟩
@[reducible] def qb(a:Nat)(b:AI):CO:=qa a none b
@[reducible] def qd(a:Nat)(b:AOp):CO:=qb a (.mov b)
@[reducible] def qe(a:List CO)(b:AK):AK:= .seq (.reg a) b
@[reducible] def qf(a:IntKind)(b:Int):AV:= .p (.int a b)
@[reducible] def qg(a b:Nat):CO:=qd a (.t b)
@[reducible] def qh(a:Int):AV:=qf .i64 a
@[reducible] def qi(a b:Nat):AI:= .fldA a (.t b)
@[reducible] def qj(a:Option Nat)(b:Nat):AI:= .ld a (.t b)
@[reducible] def qk(a:Nat)(b:Nat × Bool)(c:AI):CO:=qa a (some b) c
@[reducible] def ql(a:Int):AOp:= .c (qh a)
@[reducible] def qm(a:BinOp)(b:Nat)(c:AOp):AI:= .bin a (.t b) c
@[reducible] def qn(a:Nat)(b:Option Nat)(c:Nat):CO:=qb a (qj b c)
@[reducible] def qo(a:Nat)(b c:AK):AK:= .cond (.t a) b c
@[reducible] def qp(a:Nat)(b:FuncId)(c:List AOp):CO:=qb a (.call b c)
@[reducible] def qq(a:Bool):AV:= .p (.bool a)
@[reducible] def qr(a b c:Nat):CO:=qb a (qi b c)
@[reducible] def qt(a:Nat)(b:BinOp)(c:Nat)(d:AOp):CO:=qb a (qm b c d)
@[reducible] def qu(a b:Nat):CO:=qn a none b
@[reducible] def qv(a:List UInt8):AV:= .p (.str a)
@[reducible] def qw(a:Option (Nat × Bool))(b:AI):CO:=⟨none,a,b⟩
@[reducible] def qx:AV:=qq false
@[reducible] def qy(a:AI):CO:=qw none a
@[reducible] def qz(a:Nat)(b:BinOp)(c:Nat)(d:Int):CO:=qt a b c (ql d)
@[reducible] def qA(a:List CO):AK:=qe a .ret
@[reducible] def qB(a:List CO)(b:Nat)(c d:AK):AK:=qe a (qo b c d)
@[reducible] def qC:AV:=qh 0
@[reducible] def qD(a:Nat)(b c:AOp):CO:=qy (.st a b c)
@[reducible] def qF(a b:Nat)(c:Bool)(d:AI):CO:=qk a (b,c) d
@[reducible] def qG(a b:Nat)(c:AI):CO:=qF a b false c
@[reducible] def qH(a b:Nat)(c:AI):CO:=qF a b true c
@[reducible] def qI(a b c:Nat):CO:=qn a (some b) c
@[reducible] def qJ(a:Nat):AI:= .nilck (.t a)
@[reducible] def qK:AV:=qv []
@[reducible] def qL(a:Nat)(b c:AOp):AI:= .pick (.t a) b c
@[reducible] def qM(a b:Nat)(c:AOp):AI:= .idxS a (.t b) c
@[reducible] def qN(a:AOp):AI:= .len false a
@[reducible] def qO(a b:Nat)(c:AOp):CO:=qD a (.t b) c
@[reducible] def qQ(a b c:Nat):CO:=qO a b (.t c)
@[reducible] def qS:AOp:= .c qx
@[reducible] def qT(a:List CO)(b:Nat)(c:AK):AK:=qB a b c .skip
@[reducible] def qU(a:List CO)(b c:AK):AK:=qe a (.seq b c)
@[reducible] def qV(a:Nat)(b:Int):CO:=qd a (ql b)
@[reducible] def qW(a:Nat)(b:List AV):CO:=qb a (.alloc b)
@[reducible] def qX(a b:Nat)(c:List AV)(d:Nat)(e:List (Nat × Nat × AOp)):CO:=qb a (.bsl b c d e)
@[reducible] def qY(a:Nat)(b:AK):AK:= .blk a (.loop b)
@[reducible] def qZ(a:Nat):AI:=qj none a
@[reducible] def q8(a:Option Nat)(b c:Nat):CO:=qy (.chk a b c)
@[reducible] def q9(a:Nat):AI:=qN (.t a)
@[reducible] def wa(a:AK)(b:List CO):AK:= .seq a (.reg b)
@[reducible] def wb:AV:=qq true
@[reducible] def wc(a b:Nat)(c:Int):CO:=qz a .eql b c
@[reducible] def wd(a:Nat):AI:= .mov (.t a)
@[reducible] def we(a b:Nat):CO:=qb a (qJ b)
@[reducible] def wg(a:List CO)(b:Nat)(c:List CO):AK:=qT a b (qA c)
@[reducible] def wh(a b:Nat)(c d:AOp):CO:=qb a (qL b c d)
@[reducible] def wj(a:Nat):CO:=qg a 0
@[reducible] def wl(a b c:Nat)(d:AOp):CO:=qb a (qM b c d)
@[reducible] def wm(a b:Nat):CO:=qb a (q9 b)
@[reducible] def wn(a:Nat)(b:BinOp)(c d:Nat):CO:=qt a b c (.t d)
@[reducible] def wo(a b:Nat):AI:= .box a (.t b)
@[reducible] def wq(a:Nat)(b:AK)(c:List CO):AK:=wa (.blk a b) c
@[reducible] def ws(a:Nat):AI:= .not (.t a)
@[reducible] def wt(a b c d:Nat):CO:=wl a b c (.t d)
@[reducible] def wu(a:Nat)(b:List AOp):CO:=qp a bi b
@[reducible] def wv:AOp:= .c wb
@[reducible] def ww(a:Nat)(b:List AV)(c:List (Nat × Nat × AOp)):CO:=qb a (.bld b c)
@[reducible] def wx:AK:= .exit 0
@[reducible] def wy(a b:Nat):AI:= .ext a (.t b)
@[reducible] def wz(a b:Nat)(c:Int):CO:=qz a .add b c
@[reducible] def wA(a:BinOp)(b:Nat)(c:Int):AI:=qm a b (ql c)
@[reducible] def wB(a b:Nat):CO:=q8 none a b
@[reducible] def wD(a b c:Nat):CO:=qb a (wo b c)
@[reducible] def wE(a:List CO)(b:Nat)(c d e:AK):AK:= .seq (qB a b c d) e
@[reducible] def wF(a:Nat)(b:AOp):List AOp:=[.t a,b]
@[reducible] def wG(a:Nat)(b:FuncId)(c:Nat)(d:AOp):CO:=qp a b (wF c d)
@[reducible] def wH(a:Nat)(b:FuncId)(c d:Nat):CO:=wG a b c (.t d)
@[reducible] def wI(a:Nat):CO:=qd a qS
@[reducible] def wJ(a b c:Nat):CO:=qH a b (qZ c)
@[reducible] def wK(a b c d:Nat):CO:=qH a b (qi c d)
@[reducible] def wL(a b c:Nat)(d:AOp):AI:= .app a b (.t c) d
@[reducible] def wM(a:List CO)(b:Nat)(c:AK):AK:=qe a (qY b c)
@[reducible] def wN(a b:Nat):CO:=qr a 0 b
@[reducible] def wP(a b c:Nat):Nat × Nat × AOp:=(a,b,.t c)
@[reducible] def wQ(a:List CO)(b:Nat)(c d:AK):AK:=wE a b .skip c d
@[reducible] def wR(a b c:Nat):CO:=wn a .lss b c
@[reducible] def wS(a b c:Nat)(d:AOp):CO:=wh a b (.t c) d
@[reducible] def wT(a b c:Nat):CO:=qb a (wy b c)
@[reducible] def wU(a b c:Nat):CO:=qG a b (qZ c)
@[reducible] def wV(a b c d:Nat):CO:=qG a b (qi c d)
@[reducible] def wW(a b:List CO):AK:=qe a (qA b)
@[reducible] def wY(a:Nat):CO:=qV a 0
@[reducible] def wZ(a:CO)(b c:Nat):List CO:=[a,qg b c]
@[reducible] def xa(a b:Nat)(c:Int)(d e:Nat):List CO:=wZ (wc a b c) d e
@[reducible] def xb(a:List CO)(b:AK)(c:List CO):AK:=qU a b (qA c)
@[reducible] def xc(a b:Nat)(c:AOp)(d:Nat):CO:=wh a b c (.t d)
@[reducible] def xd(a:Nat):List AOp:=[.t a]
@[reducible] def xe(a:Nat)(b:FuncId)(c:Nat):CO:=qp a b (xd c)
@[reducible] def xf(a:List UInt8):AOp:= .c (qv a)
@[reducible] def xg(a b c:Nat):CO:=qG a b (wd c)
@[reducible] def xh(a b c:Nat):CO:=wH a cG b c
@[reducible] def xi:CO:=wI 4
@[reducible] def xj:Option Nat:=some 4
@[reducible] def xk(a b c d:Nat):AI:=wL a b c (.t d)
@[reducible] def xm:AOp:= .c .nils
@[reducible] def xn:AOp:=ql 0
@[reducible] def xo(a b c d e:Nat):CO:=qb a (xk b c d e)
@[reducible] def xp(a b:Nat)(c:BinOp)(d:Nat)(e:Int):CO:=qH a b (wA c d e)
@[reducible] def xq(a:Nat):CO:=qg a 1
@[reducible] def xr(a b:Nat)(c:Int):Nat × Nat × AOp:=(a,b,ql c)
@[reducible] def xt(a:Nat)(b:Int):Nat × Nat × AOp:=xr a 1 b
@[reducible] def xu(a b:Nat):CO:=qQ 1 a b
@[reducible] def xv(a b:Nat):CO:=qr a 2 b
@[reducible] def xw(a:Nat):CO:=qg a 5
@[reducible] def xx(a b:Nat):CO:=qb a (ws b)
@[reducible] def xy(a:FuncId)(b:Nat)(c:AOp):AI:= .call a (wF b c)
@[reducible] def xz(a:List CO)(b:Nat)(c:AK)(d:Nat)(e:AK)(f:List CO):AK:=wQ a b c (wq d e f)
@[reducible] def xA(a:Nat):List RV:=[.t a]
@[reducible] def xB(a b:Nat):CO:=qI a 4 b
@[reducible] def xC(a b:List CO)(c:AK):AK:=qe a (qe b c)
@[reducible] def xD(a b:Nat):Nat × Nat × AOp:=wP 0 a b
@[reducible] def xE(a b c:Nat):CO:=wS a b c qS
@[reducible] def xF(a:AK)(b:List CO):AK:= .seq a (qA b)
@[reducible] def xG(a:Nat)(b:AK):AK:=qo a .skip b
@[reducible] def xH(a:List CO)(b:Nat)(c:AK)(d:List CO)(e:Nat)(f g:AK):AK:=qB a b c (qB d e f g)
@[reducible] def xI:List AV:=[.nils]
@[reducible] def xJ:List RV:=xA 4
@[reducible] def xK:List RV:=xA 2
@[reducible] def xL(a b c:Nat):CO:=qH a b (wd c)
@[reducible] def xM(a:List CO)(b:Nat)(c:List CO)(d:Nat)(e:AK)(f:Nat)(g:AK)(h:List CO):AK:=wM a b (xz c d e f g h)
@[reducible] def xN(a b:Nat):CO:=qr a 3 b
@[reducible] def xO(a:List CO)(b:Nat)(c:List CO):AK:=qT a b (.reg c)
@[reducible] def xP(a b c:Nat):CO:=xc a b wv c
@[reducible] def xQ(a:Nat)(b:List AOp):CO:=qp a cr b
@[reducible] def xR(a b:Nat):CO:=wz a b 1
@[reducible] def xS(a b c:Nat):CO:=wH a dT b c
@[reducible] def xT(a:Nat)(b:List AOp):AI:= .callv (.t a) b
@[reducible] def xU(a b:Nat)(c:Int):CO:=qz a .sub b c
@[reducible] def xV(a b:Nat):CO:=qQ 4 a b
@[reducible] def xW(a b:Nat):List (Nat × Nat × AOp):=[xD a b]
@[reducible] def xX(a b:Nat)(c:List AV)(d e f:Nat):CO:=qX a b c d (xW e f)
@[reducible] def xY(a:Nat)(b:FuncId)(c:Nat)(d:Int):CO:=wG a b c (ql d)
@[reducible] def xZ(a b:List CO)(c:Nat)(d:List CO)(e:AK):AK:=qU a (wg b c d) e
@[reducible] def x7:CO:=wY 4
@[reducible] def x8(a:BinOp)(b:Nat)(c:AOp):AI:= .bins a (.t b) c
@[reducible] def x9(a b:Nat)(c:List AV)(d:Nat)(e:List (Nat × Nat × AOp)):CO:=qb a (.bslP b c d e)
@[reducible] def ya(a:Nat):CO:=qg 6 a
@[reducible] def yb(a b:Nat)(c:AOp):CO:=wu a (wF b c)
@[reducible] def yc(a b:Nat)(c:BinOp)(d:Nat)(e:Int):CO:=qG a b (wA c d e)
@[reducible] def yd(a:List CO)(b:AK):AK:= .cut (.reg a) b
@[reducible] def ye(a:List CO)(b:Nat)(c d:AK):AK:=qU a (xG b c) d
@[reducible] def yf(a:Nat):CO:=qg a 2
@[reducible] def yg(a b:Nat):Nat × Nat × AOp:=wP a 1 b
@[reducible] def yh(a b:Nat)(c:Int):CO:=xY a jj b c
@[reducible] def yi(a b:List CO):AK:=qe a (.reg b)
@[reducible] def yj(a:Nat):CO:=qg 4 a
@[reducible] def yk:CO:=wI 2
@[reducible] def yl(a:Nat)(b c:AOp):List AOp:=[.t a,b,c]
@[reducible] def ym(a b:Nat)(c:AOp):List AOp:=yl a (.t b) c
@[reducible] def yn(a b c:Nat):List AOp:=ym a b (.t c)
@[reducible] def yp(a:Nat)(b:FuncId)(c d e:Nat):CO:=qp a b (yn c d e)
@[reducible] def yq(a b:Nat):CO:=qr a 1 b
@[reducible] def yr(a b c d:Nat):List CO:=wZ (xR a b) c d
@[reducible] def yt(a b:Nat)(c:Int):CO:=xY a dj b c
@[reducible] def yu(a:List AOp):AI:= .call kO a
@[reducible] def yv(a:List CO)(b:Nat)(c:List CO)(d:Nat)(e f:AK):AK:=wM a b (ye c d e f)
@[reducible] def yw(a b:Nat):CO:=wD a b 0
@[reducible] def yx(a:Nat):CO:=qg a 7
@[reducible] def yy:Option Nat:=some 1
@[reducible] def yz(a:Nat)(b:AK)(c d e f:Nat):AK:=wq a b (yr c d e f)
@[reducible] def yA(a:Nat):CO:=qg a 6
@[reducible] def yB(a:Nat):CO:=qg a 3
@[reducible] def yC(a:Int):Nat × Nat × AOp:=xt 0 a
@[reducible] def yD:List CO:=[xi]
@[reducible] def yE(a:Nat)(b:AOp):List CO:=[qd a b]
@[reducible] def yF(a b c:Nat):CO:=qG a b (ws c)
@[reducible] def yG(a:Nat):CO:=qg a 4
@[reducible] def yH(a:Nat):CO:=qg a 8
def sf:FK:=⟨15,xA 6,wW [wI 6] [wj 7,xq 8,wn 9 .geq 7 8,qg 10 9,xL 11 10 0,xL 12 10 2,qH 13 10 (qm .leq 11 (.t 12)),xE 14 10 13,ya 14]⟩
theorem Hx:af Tryz.prog kO=some sf:=by kernel_rfl
def rV:FK:=⟨18,xJ,xb [x7] (xM [wY 5] 0 [xw 6,wj 7,qb 8 (.len true (.t 7)),wR 9 6 8] 9 wx 1 (wg [wj 12,xw 13,qb 14 (.idxStr (.t 12) (.t 13)),xq 15,wn 16 .eql 14 15] 16 (wZ (xw 17) 4 17)) [xw 10,xR 11 10,qg 5 11]) [qV 4 (-1)]⟩
theorem CF:af Tryz.prog nj=some rV:=by kernel_rfl
def rt:FK:=⟨28,xK,xb [wY 2] (.blk 0 (xH [wj 4,qt 5 .geq 4 (.c (qf .u8 97)),xw 6,xL 7 6 0,qH 8 6 (qm .leq 7 (.c (qf .u8 122))),xE 9 6 8,qg 3 9] 3 (qA [qV 2 1]) [wj 11,qt 12 .geq 11 (.c (qf .u8 48)),qg 13 12,xL 14 13 0,qH 15 13 (qm .leq 14 (.c (qf .u8 57))),xE 16 13 15,qg 10 16] 10 (qA [qV 2 2]) (qB [wj 18,qp 19 nj [xf [40,41,123,125,59,44,43,45,42,47,37,60,61,38,33,64],.t 18],qz 20 .geq 19 0,qg 17 20] 17 (qA [qV 2 3]) (wg [wj 22,qt 23 .eql 22 (.c (qf .u8 32)),qg 24 23,xg 25 24 0,qG 26 24 (qm .eql 25 (.c (qf .u8 10))),xP 27 24 26,qg 21 27] 21 [qV 2 4])))) [wY 2]⟩
theorem CS:af Tryz.prog mu=some rt:=by kernel_rfl
def yL:FK:=⟨21,xJ,xb yD (xM [wY 5] 0 [xw 6,wj 7,qb 8 (.len true (.t 7)),wR 9 6 8] 9 wx 1 (wg [wj 12,xw 13,qb 14 (.idxStr (.t 12) (.t 13)),xe 15 mu 14,xq 16,wn 17 .neq 15 16] 17 yD) [xw 10,xR 11 10,qg 5 11]) [wj 18,qb 19 (.len true (.t 18)),qz 20 .gtr 19 0,yj 20]⟩
theorem Gm:af Tryz.prog pD=some yL:=by kernel_rfl
def rd:FK:=⟨2,xA 0,wW (yE 0 xm) (wZ (qX 1 1 [qK] 9 [(0,1,xf [102,110]),(1,1,xf [108,101,116]),(2,1,xf [115,97,121]),(3,1,xf [112,117,116]),(4,1,xf [105,102]),(5,1,xf [101,108,115,101]),(6,1,xf [108,111,111,112]),(7,1,xf [98,97,99,107]),(8,1,xf [100,111])]) 0 1)⟩
theorem Bx:af Tryz.prog iB=some rd:=by kernel_rfl
def zC:FK:=⟨18,xK,qe [yk] (xb (wZ (qp 5 iB []) 3 5) (xM [x7] 0 [ya 4,yB 7,wm 8 7,wR 9 6 8] 9 wx 1 (wg [yB 12,yG 13,wt 14 1 12 13,qu 15 14,wj 16,qb 17 (x8 .eql 15 (.t 16))] 17 (yE 2 wv)) [yG 10,xR 11 10,yj 11]) [yk])⟩
theorem GP:af Tryz.prog pT=some zC:=by kernel_rfl
def ur:FK:=⟨15,xK,wW [yk] [wj 3,xY 4 pD 3 1,yG 5,xL 6 5 0,qH 7 5 (.len true (.t 6)),xp 8 5 .leq 7 4,xE 9 5 8,qg 10 9,xL 11 10 0,qH 12 10 (.call pT (xd 11)),qH 13 10 (ws 12),xE 14 10 13,qg 2 14]⟩
theorem EM:af Tryz.prog dq=some ur:=by kernel_rfl
def oa:FK:=⟨5,xK,xb [wY 2] (wg [wj 3,wc 4 3 4] 4 [qV 2 2]) [qV 2 1]⟩
theorem EL:af Tryz.prog kE=some oa:=by kernel_rfl
def ew:FK:=⟨13,[.t 2,.t 3],xb [wY 2,wY 3] (qe [wj 4] (.blk 0 (wQ (xa 6 4 1 5 6) 5 (.reg (xa 7 4 2 5 7)) (qo 5 (qA [wY 2,wY 3]) (wQ (xa 9 4 11 8 9) 8 (.reg (xa 10 4 12 8 10)) (qo 8 (qA [qV 2 1,qV 3 1]) (wg (xa 12 4 13 11 12) 11 [wY 2,qV 3 3]))))))) [qV 2 2,qV 3 2]⟩
theorem Eg:af Tryz.prog kJ=some ew:=by kernel_rfl
def kF:FK:=⟨86,xJ,qe [yw 2 4,xi] (xZ [wN 10 2,qu 11 10,xe 12 kJ 11,qg 9 12,wT 13 0 9,wT 14 1 9,qg 5 13,ya 14] [xq 15,qz 16 .lss 15 1,qg 17 16,wV 18 17 0 2,wU 19 17 18,qG 20 17 (yu (yl 19 (ql 1) (ql 13))),yF 21 17 20,xP 22 17 21,qg 23 22,wV 24 23 3 2,wU 25 23 24,qG 26 23 (q9 25),xg 27 23 5,xg 28 23 6,qG 29 23 (yu (yn 26 27 28)),yF 30 23 29,xP 31 23 30] 31 yD (xZ [wN 32 2,qu 33 32,wc 34 33 2,qg 35 34,wV 36 35 0 2,wU 37 35 36,yc 38 35 .eql 37 13,xP 39 35 38,qg 7 39] [yx 40,xv 41 2,qu 42 41,xe 43 dq 42,qb 44 (.beq true (.t 40) (.t 43)),qg 45 44,xg 46 45 7,yF 47 45 46,xg 48 45 47,wK 49 48 2 2,wJ 50 48 49,qH 51 48 (x8 .neq 50 (.c qK)),qG 52 45 (qL 48 (.t 51) qS),xP 53 45 52,qg 54 53,wV 55 54 1 2,wU 56 54 55,qG 57 54 (yu (yl 56 xn (ql 255))),yF 58 54 57,xP 59 54 58,qg 60 59,wV 61 60 0 2,wU 62 60 61,yc 63 60 .neq 62 1,xg 64 60 63,wK 65 64 1 2,wJ 66 64 65,xp 67 64 .neq 66 0,qG 68 60 (qL 64 (.t 67) qS),xP 69 60 68] 69 yD (xF (xM [wY 8] 0 [yH 70,xN 71 2,qu 72 71,wm 73 72,wR 74 70 73] 74 wx 1 (wg [xN 77 2,qu 78 77,yH 79,wt 80 4 78 79,xB 81 80,xq 82,xU 83 82 1,wH 84 ir 81 83,xx 85 84] 85 yD) [yH 75,xR 76 75,qg 8 76]) (yE 4 wv))))⟩
theorem ug:af Tryz.prog ir=some kF:=by kernel_rfl
def rE:FK:=⟨21,xK,qe [yw 1 4,wY 2] (xb [qV 3 1] (xM [x7] 0 [yG 5,xN 6 1,qu 7 6,wm 8 7,wR 9 5 8] 9 wx 1 (.reg [yB 12,xN 13 1,qu 14 13,yG 15,wt 16 4 14 15,xB 17 16,xe 18 jr 17,wn 19 .add 12 18,qg 3 19]) [yG 10,xR 11 10,yj 11]) (wZ (yB 20) 2 20))⟩
theorem CM:af Tryz.prog jr=some rE:=by kernel_rfl
def oY:FK:=⟨10,xK,wW [yw 1 4,yk] [xB 3 1,xY 4 ir 3 6,yG 5,qH 6 5 (qj xj 1),qH 7 5 (.call jr (xd 6)),xp 8 5 .leq 7 30,xE 9 5 8,qg 2 9]⟩
theorem Au:af Tryz.prog gt=some oY:=by kernel_rfl
def kC:FK:=⟨108,xJ,xZ [yw 2 5,xi] [xq 7,qz 8 .lss 7 1,yH 9,wV 10 9 0 2,wU 11 9 10,qG 12 9 (yu (yl 11 (ql 1) (ql 8))),yF 13 9 12,xP 14 9 13,qg 15 14,wV 16 15 2 2,wV 19 15 0 2,wU 17 15 16,qG 18 15 (q9 17),wU 20 15 19,qG 21 15 (.qcall kE (xd 20)),qG 22 15 (qm .neq 18 (.t 21)),xP 23 15 22] 23 yD (xZ [wN 24 2,qu 25 24,wc 26 25 1,qg 27 26,wV 28 27 0 2,wU 29 27 28,yc 30 27 .eql 29 2,xP 31 27 30,qg 5 31] [xw 32,yq 33 2,qu 34 33,xe 35 dq 34,qb 36 (.beq true (.t 32) (.t 35)),qg 37 36,xg 38 37 5,yF 39 37 38,xg 40 37 39,wK 41 40 1 2,wJ 42 40 41,qH 43 40 (x8 .neq 42 (.c qK)),qG 44 37 (qL 40 (.t 43) qS),xP 45 37 44] 45 yD (.seq (xM [wY 6] 0 [yA 46,xv 47 2,qu 48 47,wm 49 48,wR 50 46 49] 50 wx 1 (wg [xv 53 2,qu 54 53,yA 55,wt 56 4 54 55,xB 57 56,xe 58 gt 57,xx 59 58] 59 yD) [yA 51,xR 52 51,ya 52]) (.seq (wg [wN 60 2,qu 61 60,wc 62 61 8,qg 63 62,wK 64 63 2 2,wJ 65 63 64,qH 66 63 (qM 4 65 xn),wK 67 63 0 66,wJ 68 63 67,xp 69 63 .neq 68 13,xE 70 63 69] 70 yD) (xF (wg [qr 71 4 2,qu 72 71,wm 73 72,qz 74 .gtr 73 0,qg 75 74,wK 76 75 0 2,wJ 77 75 76,xp 78 75 .neq 77 5,xE 79 75 78,qg 80 79,wV 81 80 3 2,wU 82 80 81,qG 83 80 (q9 82),yc 84 80 .gtr 83 0,xg 85 80 84,wK 86 85 0 2,wJ 87 85 86,xp 88 85 .neq 87 5,qG 89 80 (qL 85 (.t 88) qS),xg 90 80 89,wK 91 90 0 2,wJ 92 90 91,xp 93 90 .neq 92 6,qG 94 80 (qL 90 (.t 93) qS),xP 95 80 94] 95 yD) [xN 96 2,qu 97 96,xq 98,xU 99 98 1,wH 100 cT 97 99,qg 101 100,wK 102 101 4 2,wJ 103 101 102,xL 104 101 1,xp 105 101 .sub 104 1,qH 106 101 (xy cT 103 (.t 105)),xE 107 101 106,yj 107]))))⟩
theorem tR:af Tryz.prog kB=some kC:=by kernel_rfl
def sa:FK:=⟨19,xJ,xb yD (xM [wY 5] 0 [xw 6,wj 7,wm 8 7,wR 9 6 8] 9 wx 1 (wg [wj 12,xw 13,wt 14 5 12 13,qI 15 5 14,xq 16,wH 17 kB 15 16,xx 18 17] 18 yD) [xw 10,xR 11 10,qg 5 11]) (yE 4 wv)⟩
theorem Ch:af Tryz.prog cT=some sa:=by kernel_rfl
def AU:FK:=⟨32,xK,xb [yw 1 3,yk] (xM [wY 3] 0 [yj 3,yq 5 1,qu 6 5,wm 7 6,wR 8 4 7] 8 wx 1 (wg [yq 11 1,qu 12 11,yB 13,wt 14 1 12 13,qu 15 14,xe 16 dq 15,xx 17 16] 17 [yk]) [yB 9,xR 10 9,qg 3 10]) [wN 18 1,qu 19 18,xe 20 dq 19,qg 21 20,wK 22 21 1 1,wJ 23 21 22,qH 24 21 (q9 23),xp 25 21 .leq 24 3,xE 26 21 25,qg 27 26,wK 28 27 2 1,wJ 29 27 28,qH 30 27 (xy cT 29 (ql 4)),xE 31 27 30,qg 2 31]⟩
theorem Hl:af Tryz.prog sg=some AU:=by kernel_rfl
def mP:FK:=⟨29,xK,qe [wY 2] (xb [wj 5,wm 6 5,yA 3] (xM [x7] 0 [yG 7,wj 8,wm 9 8,wR 10 7 9] 10 wx 1 (.reg [yB 13,wj 14,yG 15,wt 16 5 14 15,xN 17 16,wj 21,yG 22,wt 23 5 21 22,qr 24 4 23,qu 18 17,qu 25 24,xe 19 gg 18,wB 24 25,wn 20 .add 13 19,xe 26 gg 25,wn 27 .add 20 26,qg 3 27]) [yG 11,xR 12 11,yj 12]) (wZ (yB 28) 2 28))⟩
theorem rQ:af Tryz.prog gg=some mP:=by kernel_rfl
def yP:FK:=⟨22,xK,qe [yw 1 1,wY 2] (xb [wY 3] (xM [x7] 0 [yG 5,wN 6 1,qu 7 6,wm 8 7,wR 9 5 8] 9 wx 1 (.reg [yB 12,wN 13 1,qu 14 13,yG 15,wt 16 3 14 15,xv 17 16,qu 18 17,xe 19 gg 18,wn 20 .add 12 19,qg 3 20]) [yG 10,xR 11 10,yj 11]) (wZ (yB 21) 2 21))⟩
theorem Gk:af Tryz.prog pP=some yP:=by kernel_rfl
def lS:FK:=⟨26,xK,xZ [yw 1 1,yk] [wN 4 1,qu 5 4,wm 6 5,qp 7 kO (yl 6 (ql 1) (ql 4)),xx 8 7] 8 [yk] (xF (xM [wY 3] 0 [yB 9,wN 10 1,qu 11 10,wm 12 11,wR 13 9 12] 13 wx 1 (wg [wN 16 1,qu 17 16,yB 18,wt 19 3 17 18,qI 20 3 19,xe 21 sg 20,xx 22 21] 22 [yk]) [yB 14,xR 15 14,qg 3 15]) [qI 23 1 1,xe 24 pP 23,qz 25 .leq 24 40,qg 2 25])⟩
theorem tD:af Tryz.prog eF=some lS:=by kernel_rfl
def AM:FK:=⟨22,xJ,xb [yw 2 1,x7] (xM [wY 5] 0 [xw 6,wN 7 2,qu 8 7,wm 9 8,wR 10 6 9] 10 wx 1 (wg [wN 13 2,qu 14 13,xw 15,wt 16 3 14 15,wN 17 16,qu 18 17,xq 19,qb 20 (x8 .eql 18 (.t 19))] 20 (wZ (xw 21) 4 21)) [xw 11,xR 12 11,qg 5 12]) [qV 4 (-1)]⟩
theorem GT:af Tryz.prog nU=some AM:=by kernel_rfl
def iR:FK:=⟨13,[],xO [wj 4,we 5 4,qr 6 4 5,qu 7 6,wc 8 7 0] 8 [wj 9,xq 10,we 11 9,qr 12 4 11,xu 12 10]⟩
theorem uH:af Tryz.prog bQ=some iR:=by kernel_rfl
def iG:FK:=⟨27,xJ,xb [x7] (xM [wj 6,we 7 6,xv 8 7,qu 9 8,wm 10 9,xU 11 10 1,qg 5 11] 0 [xw 12,qz 13 .geq 12 0] 13 wx 1 (wg [wj 16,we 17 16,xv 18 17,qu 19 18,xw 20,wt 21 3 19 20,wN 22 21,qu 23 22,xq 24,qb 25 (x8 .eql 23 (.t 24))] 25 (wZ (xw 26) 4 26)) [xw 14,xU 15 14 1,qg 5 15]) [qV 4 (-1)]⟩
theorem vq:af Tryz.prog fk=some iG:=by kernel_rfl
def tT:FK:=⟨11,xK,qe (yE 2 (.c qK)) (wW [wj 4,qz 5 .rem 4 26,xw 3] [ya 3,yB 7,xR 8 7,qb 9 (.slStr (xf [97,98,99,100,101,102,103,104,105,106,107,108,109,110,111,112,113,114,115,116,117,118,119,120,121,122]) (some (.t 6)) (some (.t 8))),qb 10 (.bins .add (xf [118]) (.t 9)),qg 2 10])⟩
theorem Ey:af Tryz.prog kG=some tT:=by kernel_rfl
def jx:AK:=xC (yE 6 (.c qK)) [wj 8,xq 9,wH 10 fk 8 9,qg 7 10] (.cut (xO [yx 11,qz 12 .geq 11 0,qg 13 12,xL 14 13 0,qH 15 13 (qJ 14),wK 16 13 2 15,wJ 17 13 16,xL 18 13 7,qH 19 13 (qM 3 17 (.t 18)),wK 20 13 2 19,wJ 21 13 20,xL 22 13 2,qH 23 13 (qm .eql 21 (.t 22)),xE 24 13 23] 24 [wj 25,xY 26 bQ 25 2]) (qe [wj 27,wj 28,we 29 28,xv 30 29,xq 32,wj 33,we 34 33,xN 35 34,yf 37,qu 31 30,qu 36 35,ww 38 [qK,qC,qC] [xD 1 32,yg 1 36,yg 2 37],x9 39 3 [qK,qC,qC] 1 (xW 3 38),xo 40 3 32 31 39,we 41 27,xv 42 41,xu 42 40] (wW [wj 43,wj 44,we 45 44,xN 46 45,qu 47 46,xR 48 47,we 49 43,xN 50 49,xu 50 48] [wj 51,we 52 51,xN 53 52,qu 54 53,xU 55 54 1,xe 56 kG 55,ya 56])))
def jA:FK:=⟨57,xA 6,(AK.whole jx)⟩
theorem vR:af Tryz.prog fM=some jA:=by kernel_rfl
def nq:FK:=⟨23,xJ,qe (yE 4 (.c qK)) (xb [wj 6,xq 7,wH 8 fk 6 7,yH 5] (qT [xw 9,qz 10 .lss 9 0] 10 (wW [wj 11,xY 12 bQ 11 3] (wZ (xq 13) 4 13))) [wj 14,we 15 14,xv 16 15,qu 17 16,xw 18,wt 19 3 17 18,yq 20 19,qu 21 20,xe 22 kG 21,yj 22])⟩
theorem yV:af Tryz.prog fP=some nq:=by kernel_rfl
def iO:AK:=qe [wD 3 4 1,qW 4 [qC,qC,qK,.nils]] (.cut (xO [wN 8 3,qu 9 8,wc 10 9 2] 10 [wj 11,xv 12 3,qu 13 12,wH 14 fP 11 13,xv 15 3,xu 15 14]) (.cut (qT [wN 16 3,qu 17 16,wc 18 17 13] 18 (qe [wj 19,we 20 19,wN 21 20,xv 23 3,qI 22 1 21,qu 24 23,wH 25 nU 22 24,qg 5 25] (qB [xw 26,qz 27 .lss 26 0,qg 28 27,xg 29 28 5,xg 30 28 0,qG 31 28 (qJ 30),wV 32 28 1 31,wU 33 28 32,qG 34 28 (qm .geq 29 (.t 33)),xP 35 28 34] 35 (.reg [wj 36,xY 37 bQ 36 4]) (xO [wj 38,we 39 38,wN 40 39,wN 41 40,xw 43,xN 48 3,qu 42 41,wt 44 3 42 43,yq 45 44,qu 46 45,wm 47 46,qu 49 48,wm 50 49,wn 51 .neq 47 50] 51 [wj 52,xY 53 bQ 52 5])))) (qU (wZ (qX 54 4 [qC,qC,qK,.nils] 0 []) 6 54) (xM [wY 7] 0 [yx 55,xN 56 3,qu 57 56,wm 58 57,wR 59 55 58] 59 wx 1 (.reg [yA 62,wj 63,xN 64 3,qu 65 64,yx 66,wt 67 4 65 66,xB 68 67,wH 69 dF 63 68,xX 70 4 [qC,qC,qK,.nils] 1 4 69,xo 71 4 56 62 70,ya 71]) [yx 60,xR 61 60,qg 7 61]) (wW [yA 72,xN 73 3,xu 73 72] [xB 74 3,xV 4 74]))))
def iH:FK:=⟨75,[.c 4 xj],(AK.whole iO)⟩
theorem uL:af Tryz.prog dF=some iH:=by kernel_rfl
def gM:AK:=xC (yE 6 xm) (wZ (qX 13 5 [qC,qK,.nils,.nils,.nils] 0 []) 7 13) (qU [wj 14,we 15 14,xv 16 15,qu 17 16,wm 18 17,qg 8 18] (xM [wY 9] 0 [qg 19 9,xq 20,wm 21 20,wR 22 19 21] 22 wx 1 (qe [xq 25,qg 26 9,wt 27 5 25 26,qI 28 5 27,qW 10 [qC,qK,.nils,.nils,.nils],qQ 5 10 28] (qU (wZ (qX 29 4 [qC,qC,qK,.nils] 0 []) 11 29) (xM [wY 12] 2 [qg 30 12,xv 31 10,qu 32 31,wm 33 32,wR 34 30 33] 34 (.exit 2) 3 (.reg [qg 37 11,wj 38,xv 39 10,qu 40 39,qg 41 12,wt 42 4 40 41,xB 43 42,wH 44 dF 38 43,xX 45 4 [qC,qC,qK,.nils] 1 4 44,xo 46 4 56 37 45,qg 11 46]) [qg 35 12,xR 36 35,qg 12 36]) (yd [qg 47 11,xv 48 10,xu 48 47] (.cut (xO [wN 49 10,qu 50 49,wc 51 50 1] 51 [wj 52,yq 53 10,qu 54 53,yf 55,yp 56 fM 52 54 55,yq 57 10,xu 57 56]) (.cut (xO [wN 58 10,qu 59 58,wc 60 59 2] 60 [wj 61,yq 62 10,qu 63 62,wH 64 fP 61 63,yq 65 10,xu 65 64]) (xC [wj 66,xN 67 10,qu 68 67,yf 69,xR 70 69,yp 71 dg 66 68 70,xN 72 10,xu 72 71] [wj 73,qr 74 4 10,qu 75 74,yf 76,xR 77 76,yp 78 dg 73 75 77,qr 79 4 10,xu 79 78] (.reg [yx 80,qI 81 5 10,xX 82 5 [qC,qK,.nils,.nils,.nils] 1 5 81,xo 83 5 96 80 82,qg 7 83]))))))) [qg 23 9,xR 24 23,qg 9 24]) (.cut (xO [yf 84,qz 85 .gtr 84 0] 85 [wj 86,wj 87,we 88 87,xv 89 88,qu 90 89,yH 91,qb 92 (.slS 3 (.t 90) none (some (.t 91))),we 93 86,xv 94 93,xu 94 92]) (qA (wZ (yx 95) 6 95))))
def gP:FK:=⟨96,xA 6,(AK.whole gM)⟩
theorem ty:af Tryz.prog dg=some gP:=by kernel_rfl
def sB:AK:=xC [yw 2 1,qW 4 [qK,.nils,.nils],wY 5,wY 6] [qI 11 1 2,xq 12,ww 13 [.nils,qC,.nils,qC,qC] [xD 1 11,yg 1 12],wD 14 5 13,qg 7 14] (yd [wN 15 2,qu 16 15,xq 17,wt 18 3 16 17,qI 19 3 18,qW 8 [qK,.nils,.nils],qQ 3 8 19] (.cut (xO [qI 20 1 2,wN 21 8,qu 22 21,wH 23 nU 20 22,xq 24,wn 25 .neq 23 24] 25 [yx 26,xY 27 bQ 26 2]) (qU (wZ (qX 28 1 [qK] 0 []) 9 28) (xM [wY 10] 0 [qg 29 10,yq 30 8,qu 31 30,wm 32 31,wR 33 29 32] 33 wx 1 (.reg [qg 36 9,yx 37,yq 38 8,qu 39 38,qg 40 10,wt 41 1 39 40,qu 42 41,qp 43 fM (ym 37 42 xn),xX 44 1 [qK] 1 1 43,xo 45 1 16 36 44,qg 9 45]) [qg 34 10,xR 35 34,qg 10 35]) (qe [qg 46 9,yq 47 8,xu 47 46] (wW [yx 48,xv 49 8,qu 50 49,qp 51 dg (ym 48 50 xn),xv 52 8,xu 52 51] [yx 54,we 55 54,qr 56 4 55,yx 58,we 59 58,xN 60 59,qI 53 3 8,qu 57 56,qu 61 60,qQ 3 4 53,wB 56 57,wB 60 61,qg 5 57,ya 61])))))
def sk:FK:=⟨62,[.c 4 (some 3),.t 5,.t 6],(AK.whole sB)⟩
theorem IR:af Tryz.prog nH=some sk:=by kernel_rfl
def lM:FK:=⟨27,xK,xZ [yw 1 1,wY 2] [qI 7 1 1,xe 8 eF 7,xx 9 8] 9 [qV 2 1] (xF (xM [wY 3] 0 [yB 10,wN 11 1,qu 12 11,wm 13 12,wR 14 10 13] 14 wx 1 (qe [qI 18 1 1,yB 19,wH 20 nH 18 19,qg 17 20,wT 21 0 17,wT 22 1 17,wT 23 2 17,qW 4 [qK,.nils,.nils],qQ 3 4 21,qg 5 22,ya 23] (wg [xw 24,qz 25 .neq 24 0] 25 (wZ (xw 26) 2 26))) [yB 15,xR 16 15,qg 3 16]) [wY 2])⟩
theorem tu:af Tryz.prog gH=some lM:=by kernel_rfl
def uo:FK:=⟨6,xK,wW [yw 1 1,yk] [qI 3 1 1,xe 4 gH 3,wc 5 4 0,xw 2]⟩
theorem DZ:af Tryz.prog kD=some uo:=by kernel_rfl
def rZ:FK:=⟨4,xK,xb [wY 2] (wg [wj 3] 3 [qV 2 1]) [wY 2]⟩
theorem Ce:af Tryz.prog dI=some rZ:=by kernel_rfl
def zK:FK:=⟨50,[.t 6,.t 7],qU [wY 6,wY 7] (qe [wj 8] (.blk 0 (xH (xa 10 8 3 9 10) 9 (qA [xq 11,yf 12,wn 13 .add 11 12,qz 14 .rem 13 256,ya 14,wY 7]) (xa 16 8 4 15 16) 15 (qA [xq 17,yf 18,wn 19 .sub 17 18,wz 20 19 256,qz 21 .rem 20 256,ya 21,wY 7]) (xH (xa 23 8 5 22 23) 22 (qA [xq 24,yf 25,wn 26 .mul 24 25,qz 27 .rem 26 256,ya 27,wY 7]) (xa 29 8 8 28 29) 28 (qA [xq 30,yf 31,wR 32 30 31,xe 33 dI 32,ya 33,wY 7]) (wg (xa 35 8 9 34 35) 34 [xq 36,yf 37,wn 38 .eql 36 37,xe 39 dI 38,ya 39,wY 7]))))) (.seq (wg [yf 40,wc 41 40 0] 41 [wY 6,qV 7 1]) (xF (wg [wj 42,wc 43 42 6] 43 [xq 44,yf 45,wn 46 .quo 44 45,ya 46,wY 7]) [xq 47,yf 48,wn 49 .rem 47 48,ya 49,wY 7]))⟩
theorem GJ:af Tryz.prog pE=some zK:=by kernel_rfl
def ou:FK:=⟨15,xA 6,wW [wI 6] [xq 7,wj 8,wn 9 .leq 7 8,qg 10 9,xL 11 10 0,xL 12 10 2,qH 13 10 (qm .leq 11 (.t 12)),xE 14 10 13,ya 14]⟩
theorem EK:af Tryz.prog ef=some ou:=by kernel_rfl
def lU:FK:=⟨21,xA 6,xb [wY 6] (yv [wj 9,qb 10 (.rngS (.t 9))] 0 [qb 11 (.nxtS (.t 10)),wT 12 0 11] 12 wx (.blk 1 (qe [wT 13 1 11,wT 14 2 11,qg 7 13,qg 8 14] (wg [xq 15,yH 16,qb 17 (xT 15 (xd 16)),yf 18,qb 19 (.beq false (.t 17) (.t 18))] 19 (wZ (yx 20) 6 20))))) [qV 6 (-1)]⟩
theorem tE:af Tryz.prog gQ=some lU:=by kernel_rfl
def lQ:FK:=⟨8,xJ,wW [x7] [wj 5,xq 6,qp 7 gQ (ym 5 6 wv),yj 7]⟩
theorem tL:af Tryz.prog gL=some lQ:=by kernel_rfl
def jT:FK:=⟨19,xJ,xb [x7] (yv [wj 6,wm 7 6,wY 8] 0 [wR 9 8 7] 9 wx (yz 1 (qe (wZ (yH 10) 5 10) (wg [xq 11,wj 12,xw 13,wt 14 1 12 13,qu 15 14,qb 16 (x8 .eql 11 (.t 15))] 16 (wZ (xw 17) 4 17))) 18 8 8 18)) [qV 4 (-1)]⟩
theorem rk:af Tryz.prog fK=some jT:=by kernel_rfl
def gZ:FK:=⟨9,xJ,wW yD [wj 5,xq 6,wH 7 fK 5 6,qz 8 .geq 7 0,yj 8]⟩
theorem od:af Tryz.prog eu=some gZ:=by kernel_rfl
def pY:FK:=⟨9,xK,wW [yk] [wj 3,qt 4 .lss 3 (.c (qf .i32 97)),yG 5,xg 6 5 0,qG 7 5 (qm .gtr 6 (.c (qf .i32 122))),xP 8 5 7,yH 2]⟩
theorem Bm:af Tryz.prog dV=some pY:=by kernel_rfl
def tV:FK:=⟨17,xK,wW [yk] [wj 3,qb 4 (.len true (.t 3)),qp 5 ef (yl 4 (ql 1) (ql 4)),xw 6,xL 7 6 0,qH 8 6 (xy gL 7 (.c (.fn (.func dV) []))),xp 9 6 .lss 8 0,xE 10 6 9,qg 11 10,qH 12 11 (.slA 9 1 (.c (.gp 1 0)) none none),xL 13 11 0,qH 14 11 (xy eu 12 (.t 13)),qH 15 11 (ws 14),xE 16 11 15,qg 2 16]⟩
theorem Ep:af Tryz.prog dt=some tV:=by kernel_rfl
def gE:FK:=⟨19,xJ,xb [x7] (yv [wj 6,wm 7 6,wY 8] 0 [wR 9 8 7] 9 wx (yz 1 (qe (wZ (yH 10) 5 10) (wg [xq 11,wj 12,xw 13,wt 14 1 12 13,qu 15 14,qb 16 (xT 11 (xd 15))] 16 (wZ (xw 17) 4 17))) 18 8 8 18)) [qV 4 (-1)]⟩
theorem nk:af Tryz.prog dQ=some gE:=by kernel_rfl
def fv:FK:=⟨9,xJ,wW yD [wj 5,xq 6,wH 7 dQ 5 6,qz 8 .geq 7 0,yj 8]⟩
theorem ln:af Tryz.prog db=some fv:=by kernel_rfl
def fx:FK:=⟨19,xJ,xb [x7] (yv [wj 6,wm 7 6,wY 8] 0 [wR 9 8 7] 9 wx (yz 1 (qe (wZ (yH 10) 5 10) (wg [xq 11,wj 12,xw 13,wt 14 5 12 13,qI 15 5 14,qb 16 (xT 11 (xd 15))] 16 (wZ (xw 17) 4 17))) 18 8 8 18)) [qV 4 (-1)]⟩
theorem lC:af Tryz.prog da=some fx:=by kernel_rfl
def ey:FK:=⟨9,xJ,wW yD [wj 5,xq 6,wH 7 da 5 6,qz 8 .geq 7 0,yj 8]⟩
theorem jN:af Tryz.prog cx=some ey:=by kernel_rfl
def bw:FK:=⟨20,[.t 2,.t 3,.t 4,.t 5],xb [wY 2,wI 3,xi,wI 5] (qe [wj 6] (.blk 0 (wQ (xa 8 6 1 7 8) 7 (.reg (xa 9 6 2 7 9)) (qo 7 (qA [qV 2 1,qd 3 wv,xi,wI 5]) (wQ (xa 11 6 3 10 11) 10 (qB (xa 12 6 7 10 12) 10 .skip (.reg (xa 13 6 8 10 13))) (qo 10 (qA [qV 2 1,wI 3,xi,wI 5]) (xH (xa 15 6 4 14 15) 14 (qA [qV 2 2,wI 3,xi,wI 5]) (xa 17 6 5 16 17) 16 (qA [qV 2 1,wI 3,qd 4 wv,qd 5 wv]) (wg (xa 19 6 6 18 19) 18 [qV 2 1,wI 3,qd 4 wv,wI 5])))))))) [qV 2 (-1),wI 3,xi,wI 5]⟩
theorem BB:af Tryz.prog iD=some bw:=by kernel_rfl
def uz:FK:=⟨5,xK,wW [yk] [wj 3,qp 4 ef (yl 3 xn (ql 255)),yG 2]⟩
theorem ED:af Tryz.prog kz=some uz:=by kernel_rfl
def fZ:FK:=⟨20,xK,xb [wY 2] (.blk 0 (qB [qb 4 (.ld none (.c (.gp 2 0))),wj 5,qb 6 (.lk 0 (.agg [qK,qC]) false (.t 4) (.t 5)),qb 7 (.fldv 1 none (.t 6)),qz 8 .gtr 7 0,yH 3] 3 (qA [qb 9 (.ld none (.c (.gp 2 0))),wj 10,qb 11 (.lk 0 (.agg [qK,qC]) false (.t 9) (.t 10)),qb 12 (.fldv 1 none (.t 11)),qg 2 12]) (wg [wj 14,wc 15 14 11,qg 16 15,xg 17 16 0,yc 18 16 .eql 17 12,xP 19 16 18,qg 13 19] 13 [qV 2 5]))) [qV 2 6]⟩
theorem Dz:af Tryz.prog mI=some fZ:=by kernel_rfl
def lu:AK:=xC [yw 2 4,x7,wY 5,wI 6] [wY 7,wY 8] (.cut (.blk 0 (xH [wN 17 2,qu 18 17,wc 19 18 1,qg 16 19] 16 (wg [yq 20 2,qu 21 20,xe 22 kz 21,xx 23 22,qg 24 23,wV 25 24 2 2,wU 26 24 25,qG 27 24 (x8 .neq 26 (.c qK)),xP 28 24 27] 28 [x7,wY 5,wI 6]) [wN 30 2,qu 31 30,wc 32 31 2,qg 29 32] 29 (wg [xv 33 2,qu 34 33,xe 35 dt 34,xx 36 35,qg 37 36,wV 38 37 1 2,wU 39 37 38,yc 40 37 .neq 39 0,xP 41 37 40] 41 [x7,wY 5,wI 6]) (xH [wN 43 2,qu 44 43,wc 45 44 13,qg 42 45] 42 (qe [qV 8 3] (wg [xv 46 2,qu 47 46,xe 48 dt 47,xx 49 48,qg 50 49,wV 51 50 1 2,wU 52 50 51,yc 53 50 .neq 52 0,xP 54 50 53] 54 [x7,wY 5,wI 6])) [qb 56 (.ld none (.c (.gp 2 0))),wN 57 2,qu 58 57,qb 59 (.lk 0 (.agg [qK,qC]) false (.t 56) (.t 58)),qb 60 (.fldv 1 none (.t 59)),qz 61 .gtr 60 0,qg 55 61] 55 (.reg [qV 7 2,qV 8 2]) (qB [wN 63 2,qu 64 63,wc 65 64 11,qg 66 65,wV 67 66 0 2,wU 68 66 67,yc 69 66 .eql 68 12,xP 70 66 69,qg 62 70] 62 (.reg [qV 7 1,qV 8 1]) (qA [x7,wY 5,wI 6]))))) (.cut (wg [wN 71 2,qu 72 71,xe 73 mI 72,qz 74 .lss 73 6,qg 75 74,wK 76 75 1 2,wJ 77 75 76,xp 78 75 .neq 77 0,xL 79 75 78,wV 80 79 2 2,wU 81 79 80,qG 82 79 (x8 .neq 81 (.c qK)),qH 83 75 (qL 79 wv (.t 82)),xE 84 75 83,qg 85 84,wV 86 85 3 2,wU 87 85 86,qG 88 85 (q9 87),xg 89 85 7,xg 90 85 8,qG 91 85 (.call ef (yn 88 89 90)),yF 92 85 91,xP 93 85 92,qg 94 93,xg 95 94 1,yc 96 94 .lss 95 1,xP 97 94 96] 97 [x7,wY 5,wI 6]) (xb [qV 9 1,qV 10 1] (yv [xN 98 2,qu 99 98,wm 100 99,wY 101] 1 [wR 102 101 100] 102 (.exit 1) (yz 2 (qe [wt 103 4 99 101,xB 104 103,qW 12 [qC,qC,qK,.nils],xV 12 104] (xZ [xB 106 12,xq 107,xU 108 107 1,wH 109 iu 106 108,qg 105 109,wT 110 0 105,wT 111 1 105,wT 112 2 105,qg 13 110,qg 14 111,qg 15 112] [qg 113 15,xx 114 113] 114 [x7,wY 5,wI 6] (yi [qg 115 9,qg 116 13,wn 117 .add 115 116,qg 9 117] [qg 118 10,qg 119 14,xR 120 119,qb 121 (.mx (.t 118) (.t 120)),qg 10 121]))) 122 101 101 122)) [qg 123 9,qg 124 10,qg 125 9,qz 126 .leq 125 30,yj 123,qg 5 124,ya 126])))
def lG:FK:=⟨127,[.t 4,.t 5,.t 6],(AK.whole lu)⟩
theorem BD:af Tryz.prog iu=some lG:=by kernel_rfl
def oZ:FK:=⟨13,xK,qe [yw 1 4,yk] (wW [xB 7 1,xY 8 iu 7 6,ya 8,wT 9 0 6,wT 10 1 6,wT 11 2 6,qg 3 9,yj 10,qg 5 11] (wZ (xw 12) 2 12))⟩
theorem Ac:af Tryz.prog fa=some oZ:=by kernel_rfl
def kI:FK:=⟨91,xJ,qe [yw 2 5,xi] (qU [wN 12 2,qu 13 12,xe 14 iD 13,qg 11 14,wT 15 0 11,wT 16 1 11,wT 17 2 11,wT 18 3 11,qg 5 15,ya 16,qg 7 17,qg 8 18] (.blk 0 (wQ [xq 20,qz 21 .gtr 20 4,qg 19 21] 19 (xH [xv 22 2,qu 23 22,wm 24 23,xw 25,wn 26 .neq 24 25,qg 19 26] 19 .skip [yA 27,qg 28 27,wK 29 28 1 2,wJ 30 28 29,qH 31 28 (.call dt (xd 30)),qH 32 28 (ws 31),xE 33 28 32,qg 19 33] 19 .skip (xH [yA 34,xx 35 34,qg 36 35,wK 37 36 1 2,wJ 38 36 37,qH 39 36 (x8 .neq 38 (.c qK)),xE 40 36 39,qg 19 40] 19 .skip [yx 41,xx 42 41,qg 43 42,wK 44 43 3 2,wJ 45 43 44,qH 46 43 (q9 45),xp 47 43 .gtr 46 0,xE 48 43 47,qg 19 48] 19 .skip (qB [yH 49,xx 50 49,qg 51 50,wK 52 51 4 2,wJ 53 51 52,qH 54 51 (q9 53),xp 55 51 .gtr 54 0,xE 56 51 55,qg 19 56] 19 .skip (.reg [wN 57 2,qu 58 57,wc 59 58 8,qg 60 59,wK 61 60 2 2,wJ 62 60 61,qH 63 60 (qM 4 62 xn),wK 64 60 0 63,wJ 65 60 64,xp 66 60 .neq 65 13,xE 67 60 66,qg 19 67])))) (qo 19 (qA yD) .skip))) (xF (yv [xv 68 2,qu 69 68,wm 70 69,wY 71] 1 [wR 72 71 70] 72 (.exit 1) (yz 2 (qe [wt 73 4 69 71,xB 74 73,qW 10 [qC,qC,qK,.nils],xV 10 74] (wg [xB 75 10,xe 76 fa 75,xx 77 76] 77 yD)) 78 71 71 78)) [xN 79 2,qu 80 79,xq 81,xR 82 81,wH 83 dE 80 82,qg 84 83,wK 85 84 4 2,wJ 86 84 85,xL 87 84 1,xp 88 84 .add 87 1,qH 89 84 (xy dE 86 (.t 88)),xE 90 84 89,yj 90]))⟩
theorem tO:af Tryz.prog kL=some kI:=by kernel_rfl
def pa:FK:=⟨8,xA 3,wW [yw 2 5,wI 3] [qI 4 5 2,qu 5 1,wH 6 kL 4 5,xx 7 6,yx 3]⟩
theorem Az:af Tryz.prog dx=some pa:=by kernel_rfl
def sj:FK:=⟨9,xJ,wW [wD 3 1 1,xi] [wj 5,qb 6 (.mkf (.func dx) (xd 3)),wH 7 cx 5 6,xx 8 7,yj 8]⟩
theorem DS:af Tryz.prog dE=some sj:=by kernel_rfl
def zH:FK:=⟨31,[],yv [wj 8,wm 9 8,wY 10] 0 [wR 11 10 9] 11 wx (yz 1 (xC [wt 12 5 8 10,qI 13 5 12,qW 7 [qC,qK,.nils,.nils,.nils],qQ 5 7 13] [yf 14,qI 15 5 7,xq 16,qb 17 (xT 14 (wF 15 (.t 16)))] (yi [xN 18 7,qu 19 18,xq 20,xR 21 20,yf 22,yp 23 jp 19 21 22] [qr 24 4 7,qu 25 24,xq 26,xR 27 26,yf 28,yp 29 jp 25 27 28])) 30 10 10 30)⟩
theorem Gd:af Tryz.prog jp=some zH:=by kernel_rfl
def pj:FK:=⟨11,[],xC [yw 4 5] [qu 6 2,xR 7 6,xu 2 7] (.reg [qu 8 3,xq 9,qb 10 (.mx (.t 8) (.t 9)),xu 3 10])⟩
theorem Ar:af Tryz.prog gw=some pj:=by kernel_rfl
def rM:FK:=⟨20,[.c 2 none,.c 3 none],xb [yw 1 1,qW 2 [qC],qW 3 [qC]] (yv [wN 6 1,qu 7 6,wm 8 7,wY 9] 0 [wR 10 9 8] 10 wx (yz 1 (yi [wt 11 3 7 9,qI 12 3 11,qW 5 [qK,.nils,.nils],qQ 3 5 12] [xv 13 5,qu 14 13,qb 15 (.mkf (.func gw) (wF 2 (.t 3))),qp 16 jp (yl 14 (ql 1) (.t 15))]) 17 9 9 17)) [qu 18 2,qu 19 3,xu 2 18,wB 3 19,xu 3 19]⟩
theorem Dx:af Tryz.prog ju=some rM:=by kernel_rfl
def ka:FK:=⟨6,xK,wW [yk] [wj 3,xe 4 dt 3,xx 5 4,xw 2]⟩
theorem rj:af Tryz.prog bH=some ka:=by kernel_rfl
def lN:FK:=⟨48,xK,xZ [yw 1 1,yk] [wN 7 1,qu 8 7,wm 9 8,qp 10 ef (yl 9 (ql 1) (ql 4)),xx 11 10] 11 [yk] (.seq (yv [wN 12 1,qu 13 12,wm 14 13,wY 15] 0 [wR 16 15 14] 16 wx (yz 1 (qe [wt 17 3 13 15,qI 18 3 17,qW 4 [qK,.nils,.nils],qQ 3 4 18] (wg [wN 19 4,qu 20 19,xe 21 dt 20,xx 22 21,qg 23 22,wV 24 23 1 4,wU 25 23 24,qG 26 23 (q9 25),yc 27 23 .gtr 26 3,xP 28 23 27,qg 29 28,wV 30 29 1 4,wU 31 29 30,qG 32 29 (xy db 31 (.c (.fn (.func bH) []))),xP 33 29 32,qg 34 33,wV 35 34 2 4,wU 36 34 35,qG 37 34 (xy dE 36 (ql 1)),yF 38 34 37,xP 39 34 38] 39 [yk])) 40 15 15 40)) (wW [qI 42 1 1,xe 43 ju 42,qg 41 43,wT 44 0 41,wT 45 1 41,qg 5 44,ya 45] [xw 46,qz 47 .leq 46 40,qg 2 47]))⟩
theorem tJ:af Tryz.prog eJ=some lN:=by kernel_rfl
def gl:FK:=⟨19,xJ,xb [x7] (yv [wj 6,wm 7 6,wY 8] 0 [wR 9 8 7] 9 wx (yz 1 (qe (wZ (yH 10) 5 10) (wg [xq 11,wj 12,xw 13,wt 14 3 12 13,qI 15 3 14,qb 16 (xT 11 (xd 15))] 16 (wZ (xw 17) 4 17))) 18 8 8 18)) [qV 4 (-1)]⟩
theorem mG:af Tryz.prog dz=some gl:=by kernel_rfl
def ut:FK:=⟨8,xA 3,wW [yw 2 3,wI 3] [wN 4 2,qu 5 4,qu 6 1,qb 7 (x8 .eql 5 (.t 6)),yx 3]⟩
theorem EJ:af Tryz.prog ia=some ut:=by kernel_rfl
def Bh:FK:=⟨9,xJ,wW [yw 2 1,wD 3 1 1,x7] [wN 5 2,qu 6 5,qb 7 (.mkf (.func ia) (xd 3)),wH 8 dz 6 7,yj 8]⟩
theorem Hv:af Tryz.prog la=some Bh:=by kernel_rfl
def gR:FK:=⟨13,[],xO [wj 4,we 5 4,xv 6 5,qu 7 6,wc 8 7 0] 8 [wj 9,xq 10,we 11 9,xv 12 11,xu 12 10]⟩
theorem tI:af Tryz.prog dj=some gR:=by kernel_rfl
def jo:FK:=⟨7,xK,wW (yE 2 (.c .nilp)) [qb 3 .mkm,wj 4,ww 5 [.nilm,.nilp] [xD 1 3,yg 1 4],wD 6 2 5,yA 2]⟩
theorem vH:af Tryz.prog ec=some jo:=by kernel_rfl
def pG:FK:=⟨20,[],xC [yw 2 4] [xq 6,xB 7 2,qb 8 (xT 6 (xd 7))] (yv [xN 9 2,qu 10 9,wm 11 10,wY 12] 0 [wR 13 12 11] 13 wx (yz 1 (yi [wt 14 4 10 12,xB 15 14,qW 5 [qC,qC,qK,.nils],xV 5 15] [xB 16 5,xq 17,wH 18 gv 16 17]) 19 12 12 19))⟩
theorem vT:af Tryz.prog gv=some pG:=by kernel_rfl
def nC:FK:=⟨25,[.t 4,.t 5],xb [x7,wI 5] (qY 0 (xz [wj 8,qb 9 (.pnil 0 true (.t 8))] 9 wx 1 (qe [wj 15,we 16 15,wN 17 16,qu 18 17,xq 19,qb 20 (.lk 1 qC true (.t 18) (.t 19)),qg 14 20,wT 21 0 14,wT 22 1 14,ya 21,qg 7 22] (wg [yx 23] 23 [yA 24,yj 24,qd 5 wv])) [wj 10,we 11 10,yq 12 11,qu 13 12,qg 0 13])) [x7,wI 5]⟩
theorem zx:af Tryz.prog cX=some nC:=by kernel_rfl
def ke:FK:=⟨58,[],xC [yw 3 4] [wN 7 3,qu 8 7] (.blk 0 (qB (xa 10 8 2 9 10) 9 (qe [qu 12 1,xv 13 3,qu 14 13,wH 15 cX 12 14,qg 11 15,wT 16 0 11,wT 17 1 11,yj 16,qg 5 17] (xO [xw 18,xx 19 18] 19 [qu 20 2,yt 21 20 3])) (qT (xa 23 8 13 22 23) 22 (qe [xv 35 3,qu 24 2,we 25 24,wN 26 25,wN 27 26,qu 28 27,qu 29 2,we 30 29,yq 31 30,qu 32 31,qb 33 (.slS 3 (.t 28) none (some (.t 32))),ww 34 xI (xW 1 33),qu 36 35,wH 37 la 34 36,ya 37] (qB [yA 38,qz 39 .lss 38 0] 39 (.reg [qu 40 2,yt 41 40 4]) (xO [yA 47,xN 52 3,qu 42 2,we 43 42,wN 44 43,wN 45 44,qu 46 45,wt 48 3 46 47,yq 49 48,qu 50 49,wm 51 50,qu 53 52,wm 54 53,wn 55 .neq 51 54] 55 [qu 56 2,yt 57 56 5]))))))⟩
theorem rm:af Tryz.prog cz=some ke:=by kernel_rfl
def gW:FK:=⟨9,[],yi [yw 3 1,wD 4 4 1,wD 5 1 2] [xB 6 4,qb 7 (.mkf (.func cz) (wF 5 (.t 3))),wH 8 gv 6 7]⟩
theorem tq:af Tryz.prog eS=some gW:=by kernel_rfl
def ga:AK:=yv [xq 14,wm 15 14,wY 16] 0 [wR 17 16 15] 17 wx (yz 1 (qU [wt 18 5 14 16,qI 19 5 18,qW 7 [qC,qK,.nils,.nils,.nils],qQ 5 7 19] (yv [xv 20 7,qu 21 20,wm 22 21,wY 23] 2 [wR 24 23 22] 24 (.exit 2) (yz 3 (yi [wt 25 4 21 23,xB 26 25,qW 9 [qC,qC,qK,.nils],xV 9 26] [wj 27,xB 28 9,yf 29,yp 30 eS 27 28 29]) 31 23 23 31)) (.cut (qe [wN 32 7,qu 33 32] (.blk 4 (qB (xa 35 33 1 34 35) 34 (wa (qe [yf 37,we 38 37,wN 39 38,yq 41 7,qu 40 39,qu 42 41,qb 43 (.lk 1 qC true (.t 40) (.t 42)),qg 36 43,wT 44 0 36,wT 45 1 36,qg 10 44,qg 11 45] (xO [qg 46 11] 46 [wj 47,yt 48 47 2])) [yf 49,we 50 49,wN 51 50,yq 53 7,qu 52 51,qu 54 53,qy (.mup 1 (.t 52) (.t 54) xn)]) (qT (xa 56 33 2 55 56) 55 (qe [yf 58,yq 59 7,qu 60 59,wH 61 cX 58 60,qg 57 61,wT 62 0 57,wT 63 1 57,qg 12 62,qg 13 63] (xO [qg 64 13,xx 65 64] 65 [wj 66,yt 67 66 3])))))) (qT [wN 68 7,qu 69 68,wc 70 69 5,qg 71 70,wV 72 71 0 7,wU 73 71 72,yc 74 71 .eql 73 6,xP 75 71 74] 75 (yi [wj 76,xN 77 7,yf 79,qu 78 77,xe 80 ec 79,wB 77 78,yp 81 bT 76 78 80] [wj 82,qr 83 4 7,yf 85,qu 84 83,xe 86 ec 85,wB 83 84,yp 87 bT 82 84 86])))) 88 16 16 88)
def gk:FK:=⟨89,[],(AK.whole ga)⟩
theorem rR:af Tryz.prog bT=some gk:=by kernel_rfl
def gN:AK:=xZ [yw 1 1,wY 2] [qI 11 1 1,xe 12 eJ 11,xx 13 12] 13 [qV 2 1] (xb [qI 14 1 1,ww 15 [.nils,qC,qC] (xW 1 14),wD 16 3 15,qg 3 16] (yv [wN 17 1,qu 18 17,wm 19 18,wY 20] 0 [wR 21 20 19] 21 wx (yz 1 (xC [qg 22 20,wt 23 3 18 20,qI 24 3 23,qW 5 [qK,.nils,.nils],yj 22,qQ 3 5 24] [yB 25,yG 26,we 27 25,yq 28 27,xu 28 26] (.cut (xO [qI 29 1 1,wN 30 5,qu 31 30,wH 32 la 29 31,yG 33,wR 34 32 33] 34 [yB 35,yt 36 35 2]) (qU (wZ (qp 37 ec [.c .nilp]) 6 37) (yv [yq 38 5,qu 39 38,wm 40 39,wY 41] 2 [wR 42 41 40] 42 (.exit 2) (yz 3 (qU [wt 43 1 39 41,qu 44 43,qg 8 44] (qe [yA 46,we 47 46,wN 48 47,qu 49 48,yH 50,qb 51 (.lk 1 qC true (.t 49) (.t 50)),qg 45 51,wT 52 0 45,wT 53 1 45,qg 9 52,qg 10 53] (xO [qg 54 10] 54 [yB 55,yt 56 55 2])) (.reg [yA 57,we 58 57,wN 59 58,qu 60 59,yH 61,qy (.mup 1 (.t 60) (.t 61) xn)])) 62 41 41 62)) (.reg [yB 63,xv 64 5,qu 65 64,yA 66,yp 67 bT 63 65 66])))) 68 20 20 68)) [yB 69,we 70 69,xv 71 70,qu 72 71,qg 2 72])
def gO:FK:=⟨73,xK,(AK.whole gN)⟩
theorem tH:af Tryz.prog eQ=some gO:=by kernel_rfl
def Bf:FK:=⟨6,xK,wW [yw 1 1,yk] [qI 3 1 1,xe 4 eQ 3,wc 5 4 0,xw 2]⟩
theorem IO:af Tryz.prog kP=some Bf:=by kernel_rfl
def jI:FK:=⟨19,xJ,xb [x7] (yv [wj 6,wm 7 6,wY 8] 0 [wR 9 8 7] 9 wx (yz 1 (qe (wZ (yH 10) 5 10) (wg [xq 11,wj 12,xw 13,wt 14 1 12 13,qu 15 14,qb 16 (xT 11 (xd 15))] 16 (wZ (xw 17) 4 17))) 18 8 8 18)) [qV 4 (-1)]⟩
theorem pH:af Tryz.prog fq=some jI:=by kernel_rfl
def gG:FK:=⟨9,xJ,wW yD [wj 5,xq 6,wH 7 fq 5 6,qz 8 .geq 7 0,yj 8]⟩
theorem no:af Tryz.prog dR=some gG:=by kernel_rfl
def oI:FK:=⟨6,xK,wW [yk] [wj 3,xe 4 kz 3,xx 5 4,xw 2]⟩
theorem zZ:af Tryz.prog dw=some oI:=by kernel_rfl
def mR:FK:=⟨14,xJ,wW yD [wj 5,wm 6 5,xq 7,wn 8 .eql 6 7,yH 9,xL 10 9 0,qH 11 9 (xy dR 10 (.c (.fn (.func dw) []))),qH 12 9 (ws 11),xE 13 9 12,yj 13]⟩
theorem DN:af Tryz.prog mH=some mR:=by kernel_rfl
def ua:FK:=⟨21,xJ,wW [yw 2 1,xi] [qI 5 1 2,xe 6 kP 5,yA 7,xL 8 7 1,wK 9 7 0 2,wJ 10 7 9,wK 11 7 0 2,wJ 12 7 11,qH 13 7 (q9 12),xp 14 7 .sub 13 1,qH 15 7 (qM 3 10 (.t 14)),wK 16 7 1 15,wJ 17 7 16,qH 18 7 (q9 17),qH 19 7 (xy mH 8 (.t 18)),xE 20 7 19,yj 20]⟩
theorem EH:af Tryz.prog ow=some ua:=by kernel_rfl
def iS:FK:=⟨8,xK,xb (yE 2 xm) (wg [wj 3,qb 4 (.snil false (.t 3))] 4 (yE 2 xm)) [qX 5 1 [qC] 0 [],wj 6,xo 7 1 8 5 6,yx 2]⟩
theorem mQ:af Tryz.prog bP=some iS:=by kernel_rfl
def gJ:FK:=⟨19,[],wa (xO [wj 2,we 3 2,xv 4 3,wj 6,we 7 6,yq 8 7,qu 5 4,qu 9 8,wn 10 .eql 5 9] 10 [qp 11 nP [ql 3]]) [wj 12,we 13 12,xv 14 13,qu 15 14,xR 16 15,we 17 12,xv 18 17,xu 18 16]⟩
theorem tK:af Tryz.prog eD=some gJ:=by kernel_rfl
def pg:FK:=⟨28,xJ,xb (yE 4 (.c .nilp)) (qY 0 (xz [wj 7,we 8 7,yq 9 8,qu 10 9,qb 11 (.pnil 0 true (.t 10))] 11 wx 1 (qe [wj 17,we 18 17,wN 19 18,qu 20 19,xq 21,qb 22 (.lk 1 qC true (.t 20) (.t 21)),qg 16 22,wT 23 0 16,wT 24 1 16,qg 5 23,ya 24] (wg [yA 25] 25 (wZ (wj 26) 4 26))) [wj 12,we 13 12,yq 14 13,qu 15 14,qg 0 15])) (wZ (wj 27) 4 27)⟩
theorem zS:af Tryz.prog gz=some pg:=by kernel_rfl
def si:FK:=⟨4,xK,xb [wY 2] (wg [wj 3] 3 [qV 2 1]) [wY 2]⟩
theorem Db:af Tryz.prog mv=some si:=by kernel_rfl
def pJ:FK:=⟨70,[.t 6,.t 7],qe [wY 6,wI 7] (xb (yE 8 (.c (.fn (.func mv) []))) (qe [wj 9] (.blk 0 (xH (xa 11 9 3 10 11) 10 (qA [xq 12,yf 13,wn 14 .add 12 13,qz 15 .rem 14 256,ya 15,qd 7 wv]) (xa 17 9 4 16 17) 16 (qA [xq 18,yf 19,wn 20 .sub 18 19,wz 21 20 256,qz 22 .rem 21 256,ya 22,qd 7 wv]) (qB (xa 24 9 5 23 24) 23 (qA [xq 25,yf 26,wn 27 .mul 25 26,qz 28 .rem 27 256,ya 28,qd 7 wv]) (wQ (xa 30 9 6 29 30) 29 (.reg (xa 31 9 7 29 31)) (qo 29 (.seq (wg [yf 32,wc 33 32 0] 33 [wY 6,wI 7]) (xF (wg [wj 34,wc 35 34 6] 35 [xq 36,yf 37,wn 38 .quo 36 37,ya 38,qd 7 wv]) [xq 39,yf 40,wn 41 .rem 39 40,ya 41,qd 7 wv])) (xH (xa 43 9 8 42 43) 42 (qA [yH 44,xq 45,yf 46,wR 47 45 46,qb 48 (xT 44 (xd 47)),ya 48,qd 7 wv]) (xa 50 9 9 49 50) 49 (qA [yH 51,xq 52,yf 53,wn 54 .eql 52 53,qb 55 (xT 51 (xd 54)),ya 55,qd 7 wv]) (wg (xa 57 9 10 56 57) 56 [yH 58,xq 59,qz 60 .neq 59 0,qg 61 60,xL 62 61 2,xp 63 61 .neq 62 0,xE 64 61 63,qb 65 (xT 58 (xd 64)),ya 65,qd 7 wv])))))))) [yH 66,xq 67,wc 68 67 0,qb 69 (xT 66 (xd 68)),ya 69,qd 7 wv])⟩
theorem zi:af Tryz.prog gC=some pJ:=by kernel_rfl
def gX:FK:=⟨13,xJ,xb (yE 4 (.c .nilp)) (xO [xq 5,qz 6 .geq 5 16] 6 [qp 7 nP [ql 2]]) [wj 8,xq 9,we 10 8,qr 11 4 10,qb 12 (.idxA 16 1 (.t 11) (.t 9)),yj 12]⟩
theorem tp:af Tryz.prog eK=some gX:=by kernel_rfl
def ay:FK:=⟨126,xA 6,qU [wD 4 4 1,wY 6] (qe [wN 16 4,qu 17 16] (.blk 0 (xH (xa 19 17 1 18 19) 18 (qA [yq 20 4,qu 21 20,ya 21]) (xa 23 17 2 22 23) 22 (qA [yf 24,xv 25 4,xv 31 4,qu 26 25,qu 32 31,wH 27 gz 24 26,wB 31 32,we 28 27,wN 29 28,qu 30 29,qb 33 (.lk 1 qC false (.t 30) (.t 32)),ya 33]) (xH (xa 35 17 10 34 35) 34 (.seq (wg [wj 36,xN 37 4,qu 38 37,wl 39 4 38 xn,xB 40 39,yf 41,xQ 42 (yn 36 40 41),wc 43 42 0] 43 [wY 6]) (wW [wj 45,xN 46 4,qu 47 46,wl 48 4 47 (ql 1),xB 49 48,yf 50,xQ 51 (yn 45 49 50),qp 52 gC [ql 10,ql 1,.t 51],qg 44 52,wT 53 0 44,wT 54 1 44,qg 7 53,qg 8 54] (wZ (yx 55) 6 55))) (xa 57 17 12 56 57) 56 (qA [wj 58,wj 59,xN 60 4,qu 61 60,wl 62 4 61 xn,xB 63 62,yf 64,xQ 65 (yn 59 63 64),wH 66 eK 58 65,we 67 66,qu 68 67,ya 68]) (qT (xa 70 17 13 69 70) 69 (xb (yE 9 xm) (yv [xN 71 4,qu 72 71,wm 73 72,wY 74] 1 [wR 75 74 73] 75 (.exit 1) (yz 2 (yi [wt 76 4 72 74,xB 77 76,qW 11 [qC,qC,qK,.nils],xV 11 77] [qg 78 9,wj 79,xB 80 11,yf 81,xQ 82 (yn 79 80 81),xX 83 1 [qC] 1 1 82,xo 84 1 8 78 83,qg 9 84]) 85 74 74 85)) [wj 86,wj 87,we 88 87,wN 89 88,xv 91 4,qg 94 9,qI 90 1 89,qu 92 91,wH 93 la 90 92,yp 95 eE 86 93 94,ya 95])))))) (qU [wj 96,xN 97 4,qu 98 97,wl 99 4 98 xn,xB 100 99,yf 101,xQ 102 (yn 96 100 101),qg 12 102,wY 13] (xO [xN 103 4,qu 104 103,wm 105 104,qz 106 .gtr 105 1] 106 [wj 107,xN 108 4,qu 109 108,wl 110 4 109 (ql 1),xB 111 110,yf 112,xQ 113 (yn 107 111 112),qg 13 113]) (xb [wN 115 4,qu 116 115,qg 117 12,qg 118 13,yp 119 gC 116 117 118,qg 114 119,wT 120 0 114,wT 121 1 114,qg 14 120,qg 15 121] (xO [qg 122 15,xx 123 122] 123 [qp 124 nP [ql 1]]) (wZ (qg 125 14) 6 125)))⟩
theorem lL:af Tryz.prog cr=some ay:=by kernel_rfl
def zG:FK:=⟨7,xK,wW (yE 2 (.c .nilp)) [qb 3 .mkm,wj 4,ww 5 [.nilm,.nilp] [xD 1 3,yg 1 4],wD 6 2 5,yA 2]⟩
theorem Gr:af Tryz.prog jg=some zG:=by kernel_rfl
def gT:FK:=⟨109,xA 6,qU [wD 4 5 1,qd 6 (.c .nilp)] (qT [wN 10 4,qu 11 10,wc 12 11 6] 12 (xF (qY 0 (wQ [wj 13,xv 14 4,qu 15 14,wl 16 4 15 xn,xB 17 16,yf 18,xQ 19 (yn 13 17 18),qz 20 .neq 19 0] 20 wx (.blk 1 (wa (qe [wj 21,xN 22 4,yf 24,qu 23 22,xe 25 jg 24,wB 22 23,yp 26 bv 21 23 25,qg 7 26] (wg [yx 27,qb 28 (.pnil 0 true (.t 27))] 28 (wZ (yx 29) 6 29))) [wj 30,xe 31 eD 30])))) (yE 6 (.c .nilp)))) (xb [wj 32,xv 33 4,qu 34 33,wl 35 4 34 xn,xB 36 35,yf 37,xQ 38 (yn 32 36 37),qg 8 38] (qe [wN 39 4,qu 40 39] (.blk 2 (xH (xa 42 40 1 41 42) 41 (.reg [yf 43,we 44 43,wN 45 44,yq 47 4,yH 49,qu 46 45,qu 48 47,qy (.mup 1 (.t 46) (.t 48) (.t 49))]) (xa 51 40 2 50 51) 50 (.reg [yf 52,yq 53 4,yq 59 4,yH 61,qu 54 53,qu 60 59,wH 55 gz 52 54,wB 59 60,we 56 55,wN 57 56,qu 58 57,qy (.mup 1 (.t 58) (.t 60) (.t 61))]) (xH (xa 63 40 3 62 63) 62 (.reg [wj 64,wj 65,we 66 65,xN 67 66,qu 68 67,yH 69,xX 70 1 [qC] 1 1 69,xo 71 1 8 68 70,we 72 64,xN 73 72,xu 73 71]) (xa 75 40 4 74 75) 74 (yi [wj 76,xv 77 4,qu 78 77,wl 79 4 78 (ql 1),xB 80 79,yf 81,xQ 82 (yn 76 80 81),qg 9 82] [wj 83,yH 84,wH 85 eK 83 84,qg 86 9,we 87 85,xu 87 86]) (qB (xa 89 40 5 88 89) 88 (xF (wg [yH 90,qz 91 .neq 90 0] 91 [wj 92,xN 93 4,yf 95,qu 94 93,xe 96 jg 95,wB 93 94,yp 97 bv 92 94 96,ya 97]) [wj 98,qr 99 4 4,yf 101,qu 100 99,xe 102 jg 101,wB 99 100,yp 103 bv 98 100 102,ya 103]) (wg (xa 105 40 7 104 105) 104 [yH 106,ww 107 [qC] (xW 1 106),wD 108 1 107,ya 108])))))) (yE 6 (.c .nilp)))⟩
theorem lV:af Tryz.prog gI=some gT:=by kernel_rfl
def lh:FK:=⟨26,xA 6,xb (yE 6 (.c .nilp)) (yv [xq 10,wm 11 10,wY 12] 0 [wR 13 12 11] 13 wx (yz 1 (xC [wt 14 5 10 12,qI 15 5 14,qW 8 [qC,qK,.nils,.nils,.nils],qQ 5 8 15] [wj 16,xe 17 eD 16] (qe [wj 18,qI 19 5 8,yf 20,yp 21 gI 18 19 20,qg 9 21] (wg [qg 22 9,qb 23 (.pnil 0 true (.t 22))] 23 (wZ (qg 24 9) 6 24)))) 25 12 12 25)) (yE 6 (.c .nilp))⟩
theorem sw:af Tryz.prog bv=some lh:=by kernel_rfl
def lK:FK:=⟨57,xA 6,qe [wY 6] (qU [qb 11 .mkm,ww 12 [.nilm,.nilp] (xW 1 11),wD 13 2 12,qg 7 13] (yv [wj 14,we 15 14,wN 16 15,wN 17 16,qu 18 17,xq 19,wt 20 3 18 19,yq 21 20,qu 22 21,wm 23 22,wY 24] 0 [wR 25 24 23] 25 wx (yz 1 (yi [qg 26 24,wt 27 1 22 24,qu 28 27,qg 8 26,qg 9 28] [yx 29,we 30 29,wN 31 30,qg 33 9,yf 34,yH 35,wt 36 1 34 35,qu 32 31,qu 37 36,qy (.mup 1 (.t 32) (.t 33) (.t 37))]) 38 24 24 38)) (xF (qe [wj 39,wj 40,we 41 40,wN 42 41,wN 43 42,qu 44 43,xq 45,wt 46 3 44 45,xv 47 46,qu 48 47,yx 49,yp 50 bv 39 48 49,qg 10 50] (wg [qg 51 10,qb 52 (.pnil 0 true (.t 51))] 52 [qg 53 10,we 54 53,wN 55 54,qu 56 55,ya 56])) [wY 6]))⟩
theorem tz:af Tryz.prog eE=some lK:=by kernel_rfl
def lR:FK:=⟨12,[],.reg [qu 4 0,wN 5 1,qu 6 5,wm 7 6,xU 8 7 1,qu 9 2,yp 10 eE 4 8 9,xv 11 3,xu 11 10]⟩
theorem tC:af Tryz.prog eG=some lR:=by kernel_rfl
def jh:AK:=xC [yw 3 1,wD 4 1 1,qW 6 [.nils,qC,qC,.nils],wY 7] [qI 10 1 3,yf 11,ww 12 [.nils,qC,qC,.nils,qC,qC,qC,qC,qC,qC,qC,qC,qC,qC,qC,qC,qC,qC,qC,qC] [xD 1 10,yg 1 11],wD 13 20 12,qW 8 [.nilp],xu 8 13] (qe [qW 9 [.nils,qC,qC,.nils]] (yd [qb 14 (.mkf (.func eG) [.t 8,.t 3,.t 4,.t 9]),xe 15 uh 14,yq 16 9,xu 16 15] (wW [qu 17 8,we 18 17,xN 19 18,qu 20 19,wN 26 9,qu 21 8,we 22 21,qr 23 4 22,qb 24 (.slA 16 1 (.t 23) none none),xe 25 bP 24,wB 8 17,wB 19 20,xu 26 20,xN 27 9,xu 27 25] [xB 28 9,qu 29 8,we 30 29,xv 31 30,qu 32 31,xV 6 28,wB 8 29,wB 31 32,qg 7 32])))
def jK:FK:=⟨33,[.c 6 xj,.t 7],(AK.whole jh)⟩
theorem zf:af Tryz.prog fS=some jK:=by kernel_rfl
def nK:FK:=⟨28,[.c 6 xj,.t 7],xZ [yw 3 1,qW 6 [.nils,qC,qC,.nils],wI 7] [qI 10 1 3,xq 11,wH 12 ow 10 11,xx 13 12,qg 14 13,xg 15 14 2,qG 16 14 (.call ef (yl 15 xn (ql 4000))),yF 17 14 16,xP 18 14 17] 18 [ww 19 [.nils,qC,qC,.nils] [],xV 6 19,wI 7] (wW [qI 21 1 3,xq 22,yf 23,yp 24 fS 21 22 23,qg 20 24,wT 25 0 20,wT 26 1 20,qW 8 [.nils,qC,qC,.nils],xV 8 25,qg 9 26] [xB 27 8,xV 6 27,qd 7 wv])⟩
theorem yX:af Tryz.prog ee=some nK:=by kernel_rfl
def rx:FK:=⟨11,xK,xb (yE 2 (.c .nilp)) (xO [wj 3,wm 4 3,qz 5 .gtr 4 2000] 5 [wj 6,qb 7 (.slS 1 (.t 6) none (some (ql 2000))),yx 0]) [wj 8,ww 9 [.nils,qC] (xW 1 8),wD 10 2 9,qg 2 10]⟩
theorem Dy:af Tryz.prog je=some rx:=by kernel_rfl
def fU:FK:=⟨99,xJ,qe [x7] (xZ [wj 7,wj 8,we 9 8,yq 10 9,qu 11 10,xR 12 11,we 13 7,yq 14 13,xu 14 12] [xq 15,qz 16 .lss 15 1,qg 17 16,xg 18 17 0,qG 19 17 (qJ 18),wV 20 17 0 19,wU 21 17 20,qG 22 17 (q9 21),yc 23 17 .eql 22 0,xP 24 17 23] 24 [x7] (xZ [wj 25,we 26 25,yq 27 26,qu 28 27,xU 29 28 1,qg 5 29] [xw 30,wj 31,we 32 31,wN 33 32,qu 34 33,wm 35 34,wR 36 30 35] 36 [wj 37,we 38 37,wN 39 38,qu 40 39,xw 41,wt 42 1 40 41,qu 43 42,qb 44 (.conv .i64 (.t 43)),xq 45,wn 46 .rem 44 45,yj 46] (qe [wj 47,we 48 47,wN 49 48,xw 51,wj 52,we 53 52,wN 54 53,wj 62,we 63 62,wN 64 63,xw 66,qz 67 .mul 66 7,wz 68 67 3,wj 69,we 70 69,wN 71 70,xw 80,qz 81 .mul 80 29,xw 83,wj 84,we 85 84,wN 86 85,qu 50 49,qu 55 54,wm 56 55,wn 57 .rem 51 56,wt 58 1 50 57,qu 59 58,qb 60 (.conv .i64 (.t 59)),qz 61 .mul 60 131,qu 65 64,qu 72 71,wm 73 72,wn 74 .rem 68 73,wt 75 1 65 74,qu 76 75,qb 77 (.conv .i64 (.t 76)),qz 78 .mul 77 1117,wn 79 .add 61 78,wn 82 .add 79 81,qu 87 86,wm 88 87,wn 89 .quo 83 88,qz 90 .mul 89 53,wn 91 .add 82 90,ya 91] (wW [yA 92,yA 93,qz 94 .quo 93 64,wn 95 .xor 92 94,ya 95] [yA 96,xq 97,wn 98 .rem 96 97,yj 98]))))⟩
theorem vC:af Tryz.prog bi=some fU:=by kernel_rfl
def kr:FK:=⟨12,xJ,wW [x7] [xq 5,wj 6,xq 7,wm 8 7,yb 9 6 (.t 8),wt 10 1 5 9,qu 11 10,yj 11]⟩
theorem pq:af Tryz.prog cG=some kr:=by kernel_rfl
def lv:FK:=⟨12,xJ,wW (yE 4 (.c qK)) [xq 5,wj 6,xq 7,wm 8 7,yb 9 6 (.t 8),wt 10 1 5 9,qu 11 10,yj 11]⟩
theorem pZ:af Tryz.prog dT=some lv:=by kernel_rfl
def ib:FK:=⟨21,[.c 4 xj],xb [qW 4 [qC,qC,qK,.nils]] (wg [xq 5,wm 6 5,wc 7 6 0,yx 8,xg 9 8 0,qG 10 8 (xy bi 9 (ql 3)),yc 11 8 .eql 10 0,xP 12 8 11] 12 [wj 13,qX 14 1 [qC] 10 [(0,1,xn),xt 1 1,xt 2 2,xt 3 3,xt 4 5,xt 5 7,xt 6 15,xt 7 16,xt 8 100,xt 9 255],xh 15 13 14,ww 16 [qC,qC,qK,.nils] [yC 1,yg 1 15],xV 4 16]) [wj 17,xq 18,xS 19 17 18,ww 20 [qC,qC,qK,.nils] [yC 2,yg 2 19],xV 4 20]⟩
theorem tQ:af Tryz.prog eq=some ib:=by kernel_rfl
def fG:FK:=⟨47,[.c 6 xj],xZ [qW 6 [qC,qC,qK,.nils]] [yf 8,qz 9 .lss 8 2,qg 10 9,xg 11 10 0,qG 12 10 (xy bi 11 (ql 4)),yc 13 10 .eql 12 0,xP 14 10 13] 14 [wj 15,xq 16,wH 17 eq 15 16,xV 6 17] (.seq (wg [wj 18,yb 19 18 (ql 7),wc 20 19 0] 20 [wj 21,qX 22 1 [qC] 3 [yC 11,xt 1 12,xt 2 11],xh 23 21 22,wj 24,xq 25,yf 26,xU 27 26 1,yp 28 bg 24 25 27,xX 29 4 [qC,qC,qK,.nils] 1 4 28,ww 30 [qC,qC,qK,.nils] [xD 1 23,yg 3 29],xV 6 30]) (wW [wj 31,qX 32 1 [qC] 9 [yC 3,xt 1 3,xt 2 4,xt 3 5,xt 4 6,xt 5 7,xt 6 8,xt 7 9,xt 8 10],xh 33 31 32,qg 7 33] [yx 34,wj 35,xq 36,yf 37,xU 38 37 1,yp 39 bg 35 36 38,wj 40,xq 41,yf 42,xU 43 42 1,yp 44 bg 40 41 43,qX 45 4 [qC,qC,qK,.nils] 2 [xD 4 39,wP 4 4 44],ww 46 [qC,qC,qK,.nils] [xD 1 34,yg 3 45],xV 6 46]))⟩
theorem oH:af Tryz.prog bg=some fG:=by kernel_rfl
def nv:FK:=⟨99,[.c 4 xj],qe [qW 4 [qC,qC,qK,.nils]] (xZ [qd 5 (.c .any),wj 9,we 10 9,wN 11 10,wj 13,we 14 13,xv 15 14,xq 17,qu 12 11,qu 16 15,yp 18 bg 12 16 17,qW 5 [qC,qC,qK,.nils],xV 5 18] [wj 19,we 20 19,yq 21 20,qu 22 21,wm 23 22,wc 24 23 0,qg 25 24,xg 26 25 0,qG 27 25 (qJ 26),wV 28 25 0 27,wU 29 25 28,qG 30 25 (xy bi 29 (ql 4)),yc 31 25 .gtr 30 0,xP 32 25 31] 32 [xB 33 5,xV 4 33] (qe [qd 6 (.c .any),wj 34,we 35 34,yq 36 35,wj 38,we 39 38,wN 40 39,wj 42,we 43 42,yq 44 43,qu 37 36,qu 41 40,qu 45 44,wm 46 45,yb 47 41 (.t 46),wB 36 37,wt 48 3 37 47,qI 49 3 48,qW 6 [qK,.nils,.nils],qQ 3 6 49] (qU [wN 50 6,qu 51 50,ww 52 [qC,qC,qK,.nils] [yC 13,yg 2 51],qW 7 [qC,qC,qK,.nils],xV 7 52] (xM [wY 8] 0 [yH 53,yq 54 6,qu 55 54,wm 56 55,wR 57 53 56] 57 wx 1 (.reg [xN 60 7,wj 62,we 63 62,wN 64 63,wj 66,we 67 66,xv 68 67,qu 61 60,qu 65 64,qu 69 68,qp 70 bg (ym 65 69 (ql 2)),wB 60 61,x9 71 4 [qC,qC,qK,.nils] 1 (xW 4 70),xo 72 4 56 61 71,xN 73 7,xu 73 72]) [yH 58,xR 59 58,qg 8 59]) (xF (wg [wj 74,we 75 74,wN 76 75,qu 77 76,yb 78 77 (ql 2),wc 79 78 0] 79 [xB 80 7,xV 4 80]) [wj 81,we 82 81,wN 83 82,x9 85 1 [qC] 4 [yC 3,xt 1 4,xt 2 8,xt 3 10],wj 88,we 89 88,wN 90 89,wj 92,we 93 92,xv 94 93,qu 84 83,xB 87 7,qu 91 90,qu 95 94,xh 86 84 85,q8 xj 7 87,wB 90 91,wB 94 95,qp 96 bg (ym 91 95 (ql 2)),q8 xj 7 87,qX 97 4 [qC,qC,qK,.nils] 2 [xD 4 87,wP 4 4 96],ww 98 [qC,qC,qK,.nils] [xD 1 86,yg 3 97],xV 4 98]))))⟩
theorem zq:af Tryz.prog jj=some nv:=by kernel_rfl
def mT:FK:=⟨46,xK,qe (yE 2 (.c qK)) (xb [wj 3,wj 4,we 5 4,xN 6 5,qu 7 6,xR 8 7,we 9 3,xN 10 9,xu 10 8] (wg [wj 11,we 12 11,wN 13 12,qu 14 13,yb 15 14 (ql 9),wc 16 15 0,qg 17 16,xL 18 17 0,qH 19 17 (qJ 18),wK 20 17 2 19,wJ 21 17 20,qH 22 17 (q9 21),xp 23 17 .gtr 22 0,xE 24 17 23] 24 [wj 25,we 26 25,wN 27 26,wj 29,we 30 29,xv 31 30,qu 28 27,qu 32 31,xS 33 28 32,qg 2 33]) [wj 34,we 35 34,xN 36 35,wj 39,we 40 39,xN 41 40,qu 37 36,qz 38 .rem 37 24,qu 42 41,qz 43 .rem 42 24,xR 44 43,qb 45 (.slStr (xf [97,98,99,100,101,103,104,105,106,107,108,109,110,112,113,114,115,116,117,118,119,120,121,122]) (some (.t 38)) (some (.t 44))),qg 2 45])⟩
theorem vl:af Tryz.prog iP=some mT:=by kernel_rfl
def ki:FK:=⟨24,[.c 4 (some 5)],xC [wD 3 4 1,qW 4 [qC,qK,.nils,.nils,.nils]] [wj 6,xe 7 iP 6,yx 5] (wW [wj 8,qX 9 1 [qK] 0 [],wj 10,we 11 10,xv 12 11,qu 13 12,xo 14 1 16 9 13,xw 15,xX 16 1 [qK] 1 1 15,xo 17 1 16 14 16,we 18 8,xv 19 18,xu 19 17] [xw 20,xB 21 3,xX 22 4 [qC,qC,qK,.nils] 1 4 21,ww 23 [qC,qK,.nils,.nils,.nils] [yC 1,yg 1 20,yg 2 22],qQ 5 4 23])⟩
theorem px:af Tryz.prog eZ=some ki:=by kernel_rfl
def nu:FK:=⟨14,[.c 2 xj],wW [qW 2 [qC,qC,qK,.nils]] [wj 3,wj 5,we 6 5,wN 7 6,x9 9 1 [qC] 6 [yC 16,xt 1 16,xt 2 16,xt 3 8,xt 4 17,(5,1,xn)],qu 8 7,yh 4 3 2,wB 7 8,xh 10 8 9,ww 11 [qC,qC,qK,.nils] [yC 1,yg 1 10],qX 12 4 [qC,qC,qK,.nils] 2 [xD 4 4,wP 4 4 11],ww 13 [qC,qC,qK,.nils] [yC 7,yg 3 12],xV 2 13]⟩
theorem yI:af Tryz.prog fT=some nu:=by kernel_rfl
def jd:AK:=xC (yE 4 xm) [wj 9,wj 10,we 11 10,wN 12 11,qu 13 12,qX 14 1 [qC] 5 [yC 2,xt 1 3,xt 2 1,(3,1,xn),xt 4 5],xh 15 13 14,ww 16 [qC,qC,qK,.nils] [yC 1,yg 1 15],wH 17 eZ 9 16,qW 5 [qC,qK,.nils,.nils,.nils],qQ 5 5 17] (xC [yq 18 5,qu 19 18,ww 20 [qC,qC,qK,.nils] [yC 2,yg 2 19],qW 6 [qC,qC,qK,.nils],xV 6 20] [wj 21,xq 22,xU 23 22 1,wH 24 bl 21 23,qg 7 24] (qe [yq 25 5,qu 26 25,xB 27 6,ww 28 [qC,qC,qK,.nils] [yC 1,xt 1 1],qX 29 4 [qC,qC,qK,.nils] 2 [xD 4 27,wP 4 4 28],ww 30 [qC,qC,qK,.nils] [yC 4,yg 3 29],xX 31 4 [qC,qC,qK,.nils] 1 4 30,ww 32 [qC,qK,.nils,.nils,.nils] [yC 2,yg 1 26,yg 2 31],qW 8 [qC,qK,.nils,.nils,.nils],qQ 5 8 32] (yd [wj 33,wj 34,we 35 34,qr 36 4 35,qu 37 36,xU 38 37 2,we 39 33,qr 40 4 39,xu 40 38] (qA [yx 44,qI 41 5 5,xB 42 6,x9 43 4 [qC,qC,qK,.nils] 1 (xW 4 42),qI 45 5 8,x9 46 5 [qC,qK,.nils,.nils,.nils] 1 (xW 5 45),xo 47 5 96 44 46,q8 (some 5) 5 41,q8 xj 6 42,ww 48 [qC,qK,.nils,.nils,.nils] [yC 6,yg 2 43,yg 3 47],qX 49 5 [qC,qK,.nils,.nils,.nils] 2 [xD 5 41,wP 5 5 48],yj 49]))))
def jw:FK:=⟨50,xJ,(AK.whole jd)⟩
theorem zp:af Tryz.prog jy=some jw:=by kernel_rfl
def nS:FK:=⟨128,xJ,xC (yE 4 xm) [wj 7,wj 8,we 9 8,qr 10 4 9,qu 11 10,xU 12 11 1,we 13 7,qr 14 4 13,xu 14 12] (xb [wj 15,we 16 15,wN 17 16,qu 18 17,yb 19 18 (ql 13),qg 5 19] (.blk 0 (xH [xw 21,qz 22 .lss 21 3,qg 23 22,xL 24 23 0,qH 25 23 (qJ 24),wK 26 23 2 25,wJ 27 23 26,qH 28 23 (q9 27),xp 29 23 .gtr 28 0,xE 30 23 29,qg 20 30] 20 (qA [wj 31,we 32 31,wN 33 32,wj 35,we 36 35,xv 37 36,wj 40,qu 34 33,qu 38 37,xS 39 34 38,yh 41 40 3,xX 42 4 [qC,qC,qK,.nils] 1 4 41,ww 43 [qC,qK,.nils,.nils,.nils] [yC 2,yg 1 39,yg 2 42],xX 44 5 [qC,qK,.nils,.nils,.nils] 1 5 43,yj 44]) [xw 46,qz 47 .lss 46 5,qg 45 47] 45 (qA [wj 48,wj 49,yh 50 49 3,wH 51 eZ 48 50,xX 52 5 [qC,qK,.nils,.nils,.nils] 1 5 51,yj 52]) (xH [xw 54,qz 55 .lss 54 7,qg 56 55,xg 57 56 1,yc 58 56 .lss 57 2,xP 59 56 58,qg 53 59] 53 (qA [wj 60,yh 61 60 3,xX 62 4 [qC,qC,qK,.nils] 1 4 61,ww 63 [qC,qK,.nils,.nils,.nils] [yC 3,yg 2 62],xX 64 5 [qC,qK,.nils,.nils,.nils] 1 5 63,yj 64]) [xw 66,wc 67 66 7,qg 65 67] 65 (qA [wj 68,xe 69 fT 68,wj 70,yh 71 70 2,qX 72 4 [qC,qC,qK,.nils] 2 [xD 4 69,wP 4 4 71],ww 73 [qC,qK,.nils,.nils,.nils] [yC 4,yg 2 72],xX 74 5 [qC,qK,.nils,.nils,.nils] 1 5 73,yj 74]) (xH [xw 76,wc 77 76 8,qg 75 77] 75 (qA [wj 78,xe 79 fT 78,xX 80 4 [qC,qC,qK,.nils] 1 4 79,ww 81 [qC,qC,qK,.nils] [yC 12,yg 3 80],xX 82 4 [qC,qC,qK,.nils] 1 4 81,ww 83 [qC,qK,.nils,.nils,.nils] [yC 3,yg 2 82],xX 84 5 [qC,qK,.nils,.nils,.nils] 1 5 83,yj 84]) [xw 86,qz 87 .lss 86 11,qg 85 87] 85 (xb [wj 88,yh 89 88 3,xX 90 4 [qC,qC,qK,.nils] 1 4 89,wj 91,xq 92,xU 93 92 1,wH 94 bl 91 93,ww 95 [qC,qK,.nils,.nils,.nils] [yC 5,yg 2 90,yg 3 94],qW 6 [qC,qK,.nils,.nils,.nils],qQ 5 6 95] (xO [wj 96,we 97 96,wN 98 97,qu 99 98,yb 100 99 (ql 2),wc 101 100 0] 101 [wj 102,xq 103,xU 104 103 1,wH 105 bl 102 104,qr 106 4 6,xu 106 105]) [qI 107 5 6,xX 108 5 [qC,qK,.nils,.nils,.nils] 1 5 107,yj 108]) (wg [xw 110,wc 111 110 11,qg 112 111,xL 113 112 0,qH 114 112 (qJ 113),wK 115 112 0 114,wJ 116 112 115,qH 117 112 (xy bi 116 (ql 3)),xp 118 112 .eql 117 0,xE 119 112 118,qg 109 119] 109 [wj 120,yh 121 120 2,xX 122 4 [qC,qC,qK,.nils] 1 4 121,ww 123 [qC,qK,.nils,.nils,.nils] [yC 7,yg 2 122],xX 124 5 [qC,qK,.nils,.nils,.nils] 1 5 123,yj 124]))))) [wj 125,xq 126,wH 127 jy 125 126,yj 127])⟩
theorem yZ:af Tryz.prog jv=some nS:=by kernel_rfl
def mr:FK:=⟨40,xJ,xC (yE 4 xm) [wj 8,we 9 8,xv 10 9,qu 11 10,qg 5 11] (qU (wZ (qX 12 5 [qC,qK,.nils,.nils,.nils] 0 []) 6 12) (xM [wj 13,we 14 13,wN 15 14,qu 16 15,qX 17 1 [qC] 4 [yC 2,xt 1 3,xt 2 1,xt 3 4],xh 18 16 17,qg 7 18] 0 [yx 19,qz 20 .gtr 19 0,qg 21 20,xL 22 21 0,qH 23 21 (qJ 22),wK 24 21 4 23,wJ 25 21 24,xp 26 21 .gtr 25 0,xE 27 21 26] 27 wx 1 (.reg [yA 30,wj 31,xq 32,wH 33 jv 31 32,xo 34 5 96 30 33,ya 34]) [yx 28,xU 29 28 1,qg 7 29]) (wW [wj 35,xw 36,we 37 35,xv 38 37,xu 38 36] (wZ (yA 39) 4 39)))⟩
theorem uZ:af Tryz.prog bl=some mr:=by kernel_rfl
def lE:AK:=xC [qW 6 [qK,.nils,.nils]] [wj 8,qX 9 1 [qK] 3 [(0,1,xf [97]),(1,1,xf [98]),(2,1,xf [99])],yf 10,qb 11 (.slS 1 (.t 9) none (some (.t 10))),we 12 8,xv 13 12,xu 13 11] (qe [wj 14,yf 15,xU 16 15 1,we 17 14,xN 18 17,xu 18 16] (yd [xq 19,qX 20 1 [qK] 0 [],wj 21,we 22 21,xv 23 22,qu 24 23,xo 25 1 16 20 24,ww 26 [qK,.nils,.nils] [xD 1 19,yg 1 25],qW 7 [qK,.nils,.nils],qQ 3 7 26] (xb [wj 27,xY 28 bl 27 3,xv 29 7,xu 29 28] (qT [wj 30,we 31 30,qr 32 4 31,qu 33 32,qz 34 .gtr 33 0,qg 35 34,xL 36 35 0,qH 37 35 (qJ 36),wK 38 35 0 37,wJ 39 35 38,qH 40 35 (xy bi 39 (ql 4)),xp 41 35 .gtr 40 0,xE 42 35 41] 42 (yi [wj 43,wj 44,we 45 44,qr 46 4 45,qu 47 46,xU 48 47 1,we 49 43,qr 50 4 49,xu 50 48] [xv 51 7,wj 53,qu 52 51,yh 54 53 2,wB 51 52,x9 55 4 [qC,qC,qK,.nils] 1 (xW 4 54),ww 56 [qC,qK,.nils,.nils,.nils] [yC 7,yg 2 55],x9 57 5 [qC,qK,.nils,.nils,.nils] 1 (xW 5 56),xo 58 5 96 52 57,xv 59 7,xu 59 58])) [qI 60 3 7,qQ 3 6 60])))
def lq:FK:=⟨61,[.c 6 (some 3)],(AK.whole lE)⟩
theorem BF:af Tryz.prog iA=some lq:=by kernel_rfl
def uk:FK:=⟨69,[.c 2 yy],qe [qW 2 xI] (qU [wj 8,wj 9,qX 10 1 [qC] 4 [yC 14,xt 1 20,xt 2 8,xt 3 26],xh 11 9 10,ww 12 [.nilp,.nils,.nils,qC,qC] [xD 1 8,yg 4 11],wD 13 5 12,qg 3 13] (xM [wj 14,qX 15 1 [qC] 4 [(0,1,xn),xt 1 1,xt 2 1,xt 3 2],xh 16 14 15,yj 16] 0 [yG 17,qz 18 .gtr 17 0] 18 wx 1 (yi [qd 5 (.c .any),yB 21,x9 22 1 [qK] 3 [(0,1,xf [102]),(1,1,xf [103]),(2,1,xf [104])],yB 23,we 24 23,yq 25 24,wj 30,qu 26 25,wm 27 26,wt 28 1 22 27,qu 29 28,yb 31 30 (ql 3),wB 25 26,wB 28 29,yp 32 iA 21 29 31,qW 5 [qK,.nils,.nils],qQ 3 5 32] [yB 33,yB 34,we 35 34,yq 36 35,qu 37 36,qI 38 3 5,x9 39 3 [qK,.nils,.nils] 1 (xW 3 38),xo 40 3 64 37 39,we 41 33,yq 42 41,xu 42 40]) [yG 19,xU 20 19 1,yj 20]) (qe [yB 43,wj 44,qX 45 1 [qC] 4 [(0,1,xn),xt 1 1,xt 2 2,xt 3 1],xh 46 44 45,qp 47 iA (yl 43 (xf [109]) (.t 46)),qW 6 [qK,.nils,.nils],qQ 3 6 47] (xb [qd 7 (.c .any),yB 49,we 50 49,yq 51 50,qu 52 51,qI 54 3 6,x9 55 3 [qK,.nils,.nils] 1 (xW 3 54),qX 48 3 [qK,.nils,.nils] 0 [],wB 51 52,q8 (some 3) 6 54,xo 53 3 64 48 52,q8 (some 3) 6 54,xo 56 3 64 53 55,ww 57 xI (xW 1 56),qW 7 xI,xu 7 57] (wg [qI 58 1 7,xe 59 eF 58,xx 60 59] 60 [ww 61 [qC,qC,qK,.nils] [yC 1,xt 1 1],xX 62 4 [qC,qC,qK,.nils] 1 4 61,ww 63 [qC,qK,.nils,.nils,.nils] [yC 3,yg 2 62],xX 64 5 [qC,qK,.nils,.nils,.nils] 1 5 63,ww 65 [qK,.nils,.nils] [(0,1,xf [109]),yg 2 64],xX 66 3 [qK,.nils,.nils] 1 3 65,ww 67 xI (xW 1 66),xu 2 67]) [qI 68 1 7,xu 2 68])))⟩
theorem Eu:af Tryz.prog dr=some uk:=by kernel_rfl
def zj:FK:=⟨42,[.c 4 xj],qe [qW 4 [qC,qC,qK,.nils]] (xZ [wj 8,qX 9 1 [qK] 4 [(0,1,xf [97]),(1,1,xf [98]),(2,1,xf [120]),(3,1,xf [103,111])],xq 10,yp 11 bg 8 9 10,qW 5 [qC,qC,qK,.nils],xV 5 11] [wj 12,yb 13 12 (ql 3),qz 14 .gtr 13 0] 14 [xB 15 5,xV 4 15] (qU [wj 16,qX 17 1 [qK] 3 [(0,1,xf [102]),(1,1,xf [103]),(2,1,xf [97])],xS 18 16 17,ww 19 [qC,qC,qK,.nils] [yC 13,yg 2 18],qW 6 [qC,qC,qK,.nils],xV 6 19] (xM [wj 20,yb 21 20 (ql 4),qg 7 21] 0 [yx 22,qz 23 .gtr 22 0] 23 wx 1 (.reg [xN 26 6,wj 28,x9 29 1 [qK] 2 [(0,1,xf [97]),(1,1,xf [98])],qu 27 26,qp 30 bg (ym 28 29 (ql 2)),wB 26 27,x9 31 4 [qC,qC,qK,.nils] 1 (xW 4 30),xo 32 4 56 27 31,xN 33 6,xu 33 32]) [yx 24,xU 25 24 1,qg 7 25]) (xF (wg [wj 34,yb 35 34 (ql 2),wc 36 35 0] 36 [xB 37 6,xV 4 37]) [xB 38 5,xB 39 6,qX 40 4 [qC,qC,qK,.nils] 2 [xD 4 38,wP 4 4 39],ww 41 [qC,qC,qK,.nils] [yC 3,yg 3 40],xV 4 41])))⟩
theorem FI:af Tryz.prog jL=some zj:=by kernel_rfl
def uu:FK:=⟨40,[.c 2 xj],qe [qW 2 [qC,qC,qK,.nils]] (xb [wj 4,xY 5 jL 4 4,qW 3 [qC,qC,qK,.nils],xV 3 5] (qe [wj 6,yb 7 6 (ql 20)] (.blk 0 (xH (xa 9 7 0 8 9) 8 (.reg [wj 10,qX 11 1 [qC] 3 [yC (-1),xt 1 256,xt 2 3],xh 12 10 11,yq 13 3,xu 13 12]) (xa 15 7 1 14 15) 14 (.reg [wj 16,qX 17 1 [qK] 5 [(0,1,.c qK),(1,1,xf [100,111]),(2,1,xf [65]),(3,1,xf [97,98,99,100,101]),(4,1,xf [113])],xS 18 16 17,xv 19 3,xu 19 18]) (xH (xa 21 7 2 20 21) 20 (.reg [wj 22,qX 23 1 [qC] 5 [(0,1,xn),xt 1 14,xt 2 (-1),xt 3 5,xt 4 11],xh 24 22 23,wN 25 3,xu 25 24]) (xa 27 7 3 26 27) 26 (.reg [xN 28 3,wj 30,qu 29 28,wG 31 eq 30 xm,wB 28 29,x9 32 4 [qC,qC,qK,.nils] 1 (xW 4 31),xo 33 4 56 29 32,xN 34 3,xu 34 33]) (xO (xa 36 7 4 35 36) 35 [wj 37,xY 38 jL 37 7,xV 3 38]))))) [xB 39 3,xV 2 39])⟩
theorem EB:af Tryz.prog nZ=some uu:=by kernel_rfl
def oC:AK:=xC [qW 2 xI] [wj 9,xe 10 dr 9,qW 3 xI,xu 3 10] (qe [wN 11 3,qu 12 11,wN 13 3,qu 14 13,wm 15 14,xU 16 15 1,wt 17 3 12 16,qI 18 3 17,qW 4 [qK,.nils,.nils],qQ 3 4 18] (.cut (qe [wj 19,yb 20 19 (ql 32)] (.blk 0 (xH (xa 22 20 0 21 22) 21 (.reg [wj 23,qX 24 1 [qK] 4 [(0,1,xf [102]),(1,1,xf [100,111]),(2,1,.c qK),(3,1,xf [103])],xS 25 23 24,wN 26 4,xu 26 25]) (xa 28 20 1 27 28) 27 (.reg [qX 29 1 [qK] 0 [],yq 30 4,qu 31 30,xo 32 1 16 29 31,wj 33,qX 34 1 [qK] 3 [(0,1,xf [97]),(1,1,xf [120]),(2,1,xf [105,102])],xS 35 33 34,xX 36 1 [qK] 1 1 35,xo 37 1 16 32 36,yq 38 4,xu 38 37]) (xH (xa 40 20 2 39 40) 39 (.reg [qX 41 5 [qC,qK,.nils,.nils,.nils] 0 [],xv 42 4,qu 43 42,xo 44 5 96 41 43,wj 45,xe 46 nZ 45,xX 47 4 [qC,qC,qK,.nils] 1 4 46,ww 48 [qC,qK,.nils,.nils,.nils] [yC 3,yg 2 47],xX 49 5 [qC,qK,.nils,.nils,.nils] 1 5 48,xo 50 5 96 44 49,xv 51 4,xu 51 50]) (xa 53 20 3 52 53) 52 (.reg [qX 54 5 [qC,qK,.nils,.nils,.nils] 0 [],xv 55 4,qu 56 55,xo 57 5 96 54 56,wj 58,yb 59 58 (ql 10),wj 60,qX 61 1 [qK] 3 [(0,1,.c qK),(1,1,xf [97]),(2,1,xf [122,122])],xS 62 60 61,wj 63,xY 64 jL 63 2,xX 65 4 [qC,qC,qK,.nils] 1 4 64,ww 66 [qC,qK,.nils,.nils,.nils] [xD 1 59,yg 1 62,yg 2 65],xX 67 5 [qC,qK,.nils,.nils,.nils] 1 5 66,xo 68 5 96 57 67,xv 69 4,xu 69 68]) (xH (xa 71 20 4 70 71) 70 (qe [ww 72 [qC,qC,qK,.nils] [yC 1],xX 73 4 [qC,qC,qK,.nils] 1 4 72,ww 74 [qC,qK,.nils,.nils,.nils] [yC 6,yg 2 73],qW 5 [qC,qK,.nils,.nils,.nils],qQ 5 5 74] (.cut (xM [wj 75,yb 76 75 (ql 5),ya 76] 1 [yA 77,qz 78 .gtr 77 0] 78 (.exit 1) 2 (.reg [wj 81,x9 82 1 [qC] 2 [yC 5,xt 1 6],xv 84 5,qu 85 84,qI 86 5 5,x9 87 5 [qC,qK,.nils,.nils,.nils] 1 (xW 5 86),xh 83 81 82,wB 84 85,q8 (some 5) 5 86,ww 88 [qC,qK,.nils,.nils,.nils] [xD 1 83,yg 2 85,yg 3 87],qQ 5 5 88]) [yA 79,xU 80 79 1,ya 80]) (.reg [xv 90 4,qu 91 90,qI 93 5 5,x9 94 5 [qC,qK,.nils,.nils,.nils] 1 (xW 5 93),qX 89 5 [qC,qK,.nils,.nils,.nils] 0 [],wB 90 91,q8 (some 5) 5 93,xo 92 5 96 89 91,q8 (some 5) 5 93,xo 95 5 96 92 94,xv 96 4,xu 96 95]))) (xa 98 20 5 97 98) 97 (qA [ww 99 xI [],xu 2 99]) (qB (xa 101 20 6 100 101) 100 (xM [wj 102,qX 103 1 [qC] 3 [yC 20,xt 1 40,xt 2 41],xh 104 102 103,qg 7 104] 3 [yx 105,qz 106 .gtr 105 0] 106 (.exit 3) 4 (.reg [qX 109 5 [qC,qK,.nils,.nils,.nils] 0 [],xv 110 4,qu 111 110,xo 112 5 96 109 111,yx 113,ww 114 [qC,qC,qK,.nils] [yC 1,yg 1 113],xX 115 4 [qC,qC,qK,.nils] 1 4 114,ww 116 [qC,qK,.nils,.nils,.nils] [yC 3,yg 2 115],xX 117 5 [qC,qK,.nils,.nils,.nils] 1 5 116,xo 118 5 96 112 117,xv 119 4,xu 119 118]) [yx 107,xU 108 107 1,qg 7 108]) (wg (xa 121 20 7 120 121) 120 [wN 123 3,wN 126 3,qu 124 123,qu 127 126,wl 128 3 127 xn,qI 129 3 128,x9 130 3 [qK,.nils,.nils] 1 (xW 3 129),qX 122 3 [qK,.nils,.nils] 0 [],wB 123 124,wB 126 127,q8 (some 3) 128 129,xo 125 3 64 122 124,wB 126 127,q8 (some 3) 128 129,xo 131 3 64 125 130,ww 132 xI (xW 1 131),xu 2 132]))))))) (qe [qX 133 3 [qK,.nils,.nils] 0 [],wN 134 3,qu 135 134,xo 136 3 64 133 135,qg 8 136] (wW [yH 137,yH 138,wm 139 138,xU 140 139 1,qI 141 3 4,wt 142 3 137 140,qQ 3 142 141] [yH 143,ww 144 xI (xW 1 143),xu 2 144]))))
def ox:FK:=⟨145,[.c 2 yy],(AK.whole oC)⟩
theorem Eh:af Tryz.prog oh=some ox:=by kernel_rfl
def uA:FK:=⟨25,[.c 2 xj],qe [yw 1 4,qW 2 [qC,qC,qK,.nils]] (qU (wZ (qX 5 4 [qC,qC,qK,.nils] 0 []) 3 5) (xM [x7] 0 [ya 4,xN 7 1,qu 8 7,wm 9 8,wR 10 6 9] 10 wx 1 (.reg [yB 13,xN 14 1,qu 15 14,yG 16,wt 17 4 15 16,xB 18 17,xe 19 kN 18,xX 20 4 [qC,qC,qK,.nils] 1 4 19,xo 21 4 56 13 20,qg 3 21]) [yG 11,xR 12 11,yj 12]) (wW [yB 22,xN 23 1,xu 23 22] [xB 24 1,xV 2 24]))⟩
theorem Er:af Tryz.prog kN=some uA:=by kernel_rfl
def rJ:FK:=⟨52,xK,qe (yE 2 xm) (xb (wZ (qX 8 5 [qC,qK,.nils,.nils,.nils] 0 []) 3 8) (xM [x7] 0 [yG 9,wj 10,wm 11 10,wR 12 9 11] 12 wx 1 (qe [wj 15,yG 16,wt 17 5 15 16,qI 18 5 17,qW 5 [qC,qK,.nils,.nils,.nils],qQ 5 5 18] (qU (wZ (qX 19 4 [qC,qC,qK,.nils] 0 []) 6 19) (xM [wY 7] 2 [yx 20,xv 21 5,qu 22 21,wm 23 22,wR 24 20 23] 24 (.exit 2) 3 (.reg [yA 27,xv 28 5,qu 29 28,yx 30,wt 31 4 29 30,xB 32 31,xe 33 kN 32,xX 34 4 [qC,qC,qK,.nils] 1 4 33,xo 35 4 56 27 34,ya 35]) [yx 25,xR 26 25,qg 7 26]) (.reg [yB 36,wN 37 5,yq 39 5,yA 41,xN 42 5,qr 45 4 5,qu 38 37,qu 40 39,qu 43 42,qu 46 45,xe 44 dG 43,wB 37 38,wB 39 40,wB 45 46,xe 47 dG 46,wB 37 38,wB 39 40,ww 48 [qC,qK,.nils,.nils,.nils] [xD 1 38,yg 1 40,yg 2 41,yg 3 44,yg 4 47],xX 49 5 [qC,qK,.nils,.nils,.nils] 1 5 48,xo 50 5 96 36 49,qg 3 50]))) [yG 13,xR 14 13,yj 14]) (wZ (yB 51) 2 51))⟩
theorem Ct:af Tryz.prog dG=some rJ:=by kernel_rfl
def ov:FK:=⟨35,[.c 2 yy],qe [yw 1 1,qW 2 xI] (xb [ww 6 xI [],qW 3 xI,xu 3 6] (xM [x7] 0 [yG 7,wN 8 1,qu 9 8,wm 10 9,wR 11 7 10] 11 wx 1 (yi [wN 14 1,qu 15 14,yG 16,wt 17 3 15 16,qI 18 3 17,qW 5 [qK,.nils,.nils],qQ 3 5 18] [wN 19 3,wN 21 5,yq 24 5,xv 27 5,qu 20 19,qu 22 21,qu 25 24,qu 28 27,qX 23 1 [qK] 0 [],wB 19 20,wB 21 22,wB 24 25,wB 27 28,xo 26 1 16 23 25,wB 19 20,wB 21 22,wB 27 28,xe 29 dG 28,wB 19 20,wB 21 22,ww 30 [qK,.nils,.nils] [xD 1 22,yg 1 26,yg 2 29],xX 31 3 [qK,.nils,.nils] 1 3 30,wB 19 20,xo 32 3 64 20 31,wN 33 3,xu 33 32]) [yG 12,xR 13 12,yj 13]) [qI 34 1 3,xu 2 34])⟩
theorem uf:af Tryz.prog fC=some ov:=by kernel_rfl
def tW:FK:=⟨104,[.c 2 yy],qe [qW 2 xI] (xZ [wj 7,xe 8 dr 7,qW 3 xI,xu 3 8] [wj 9,yb 10 9 (ql 5),qz 11 .gtr 10 2] 11 [qI 12 1 3,xu 2 12] (.seq (wg [wj 13,yb 14 13 (ql 6),wc 15 14 0] 15 [wj 16,xe 17 oh 16,xu 2 17]) (qe [qI 18 1 3,xe 19 fC 18,xu 3 19] (xZ [wN 20 3,wj 22,wN 23 3,qu 21 20,qu 24 23,wm 25 24,yb 26 22 (.t 25),wB 20 21,wt 27 3 21 26,yj 27] [yG 28,we 29 28,xv 30 29,qu 31 30,wm 32 31,wc 33 32 0] 33 [qI 34 1 3,xu 2 34] (qe [yG 35,we 36 35,xv 37 36,wj 39,yG 40,we 41 40,xv 42 41,qu 38 37,qu 43 42,wm 44 43,yb 45 39 (.t 44),wB 37 38,wt 46 5 38 45,qg 5 46] (qU [wj 47,qX 48 1 [qK] 5 [(0,1,xf [122,122]),(1,1,xf [97]),(2,1,xf [98]),(3,1,xf [99]),(4,1,xf [100])],xS 49 47 48,ww 50 [qC,qC,qK,.nils] [yC 2,yg 2 49],qW 6 [qC,qC,qK,.nils],xV 6 50] (qe [wj 51,yb 52 51 (ql 4)] (.blk 0 (xH (xa 54 52 0 53 54) 53 (.reg [wj 55,qX 56 1 [qK] 4 [(0,1,xf [102]),(1,1,xf [103]),(2,1,xf [109]),(3,1,xf [113])],xS 57 55 56,ww 58 [qC,qC,qK,.nils] [yC 1,xt 1 1],xX 59 4 [qC,qC,qK,.nils] 1 4 58,ww 60 [qC,qC,qK,.nils] [yC 13,yg 2 57,yg 3 59],xV 6 60]) (xa 62 52 1 61 62) 61 (xF (xO [xw 63,we 64 63,yq 65 64,qu 66 65,qb 67 (x8 .neq 66 (.c qK))] 67 [xw 68,wj 69,qX 70 1 [qK] 5 [(0,1,xf [97]),(1,1,xf [98]),(2,1,xf [122,122]),(3,1,xf [99]),(4,1,xf [100])],xS 71 69 70,we 72 68,yq 73 72,xu 73 71]) [qI 74 1 3,xu 2 74]) (qT (xa 76 52 2 75 76) 75 (wW [yG 77,yG 78,we 79 78,xv 80 79,yG 82,we 83 82,xv 84 83,qu 81 80,qu 85 84,qb 86 (.slS 5 (.t 85) none (some (ql 1))),xe 87 dG 86,wB 80 81,xo 88 5 96 81 87,we 89 77,xv 90 89,xu 90 88] [qI 91 1 3,xu 2 91]))))) (xF (xO [xw 92,we 93 92,wN 94 93,qu 95 94,qz 96 .neq 95 8] 96 [xw 97,we 98 97,xv 99 98,qu 100 99,xB 101 6,wl 102 4 100 xn,xV 102 101]) [qI 103 1 3,xu 2 103])))))))⟩
theorem Eb:af Tryz.prog oD=some tW:=by kernel_rfl
def mJ:FK:=⟨26,xJ,xZ yD [wj 6,wm 7 6,xq 8,wm 9 8,wn 10 .neq 7 9] 10 yD (xF (yv [wj 11,wm 12 11,wY 13] 0 [wR 14 13 12] 14 wx (yz 1 (qe (wZ (qg 15 13) 5 15) (wg [wj 16,xw 17,wt 18 1 16 17,xq 20,xw 21,wt 22 1 20 21,qu 19 18,qu 23 22,wn 24 .neq 19 23] 24 yD)) 25 13 13 25)) (yE 4 wv))⟩
theorem uW:af Tryz.prog fm=some mJ:=by kernel_rfl
def mZ:FK:=⟨31,xJ,wW [yw 2 4,wD 3 4 1,xi] [wN 5 2,qu 6 5,wN 7 3,qu 8 7,wH 9 fm 6 8,qg 10 9,wK 11 10 1 2,wJ 12 10 11,wK 13 10 1 3,wJ 14 10 13,qH 15 10 (qm .eql 12 (.t 14)),xE 16 10 15,qg 17 16,wK 18 17 2 2,wJ 19 17 18,wK 20 17 2 3,wJ 21 17 20,qH 22 17 (qm .eql 19 (.t 21)),xE 23 17 22,qg 24 23,wK 25 24 3 2,wJ 26 24 25,wK 27 24 3 3,wJ 28 24 27,qH 29 24 (xy fm 26 (.t 28)),xE 30 24 29,yj 30]⟩
theorem uT:af Tryz.prog iI=some mZ:=by kernel_rfl
def jt:AK:=qe (yE 2 xm) (xb (yE 3 xm) (yv [qb 6 (.ld (some 9) (.c (.gp 0 0))),wY 7] 0 [qz 8 .lss 7 3] 8 wx (yz 1 (yd [qb 9 (.idxV 3 3 (some 3) (.t 6) (.t 7)),qW 5 [qC,qC,qC],qQ 3 5 9] (.reg [yB 10,wj 11,qb 12 (.slA 3 1 (.t 5) none (some (.t 11))),xe 13 bP 12,xX 14 1 xI 1 1 13,xo 15 1 24 10 14,qg 3 15])) 16 7 7 16)) (wZ (yB 17) 2 17))
def jm:FK:=⟨18,xK,(AK.whole jt)⟩
theorem rC:af Tryz.prog gf=some jm:=by kernel_rfl
def py:FK:=⟨17,xK,xb [yw 1 1,qd 2 xm] (wg [qI 3 1 1,xe 4 kP 3,xx 5 4] 5 (yE 2 xm)) [wN 6 1,qu 7 6,wN 8 1,qu 9 8,wm 10 9,xU 11 10 1,wt 12 3 7 11,yq 13 12,qu 14 13,wm 15 14,xe 16 gf 15,qg 2 16]⟩
theorem zO:af Tryz.prog gy=some py:=by kernel_rfl
def lH:AK:=qe (yE 2 xm) (yd [qX 6 1 [qC] 3 [(0,1,xn),(1,1,xn),(2,1,xn)],qX 7 1 [qC] 3 [yC 1,xt 1 2,xt 2 3],qX 8 1 [qC] 3 [yC 255,xt 1 16,xt 2 7],qX 9 1 xI 3 [xD 1 6,yg 1 7,yg 2 8],qg 3 9] (xb (wZ (qX 10 1 xI 0 []) 4 10) (xM [wY 5] 0 [xw 11,yB 12,wm 13 12,wR 14 11 13] 14 wx 1 (.reg [yG 17,qX 18 1 [qC] 0 [],yB 19,xw 20,wt 21 1 19 20,qu 22 21,wj 23,qb 24 (.slS 1 (.t 22) none (some (.t 23))),xo 25 1 8 18 24,xX 26 1 xI 1 1 25,xo 27 1 24 17 26,yj 27]) [xw 15,xR 16 15,qg 5 16]) (wZ (yG 28) 2 28)))
def lJ:FK:=⟨29,xK,(AK.whole lH)⟩
theorem Bv:af Tryz.prog iv=some lJ:=by kernel_rfl
def pu:FK:=⟨20,xK,xZ [yw 1 1,qd 2 xm] [qI 4 1 1,xe 5 kD 4,xx 6 5] 6 (wZ (qX 7 1 xI 0 []) 2 7) (wW [wN 8 1,qu 9 8,wN 10 1,qu 11 10,wm 12 11,xU 13 12 1,wt 14 3 9 13,yq 15 14,qu 16 15,wm 17 16,qg 3 17] [yB 18,xe 19 iv 18,qg 2 19])⟩
theorem An:af Tryz.prog ku=some pu:=by kernel_rfl
def oM:FK:=⟨14,xK,xZ [yw 1 1,wY 2] [qI 5 1 1,xe 6 eJ 5,xx 7 6] 7 [qV 2 (-1)] (wW [qI 9 1 1,xe 10 ju 9,qg 8 10,wT 11 0 8,wT 12 1 8,qg 3 11,yj 12] (wZ (yB 13) 2 13))⟩
theorem As:af Tryz.prog gu=some oM:=by kernel_rfl
def jU:FK:=⟨22,xJ,qe (yE 4 xm) (xb (yE 5 xm) (yv [wj 8,wm 9 8,wY 10] 0 [wR 11 10 9] 11 wx (yz 1 (yi [wt 12 3 8 10,qI 13 3 12,qW 7 [qK,.nils,.nils],qQ 3 7 13] [xw 14,xq 15,qI 16 3 7,qb 17 (xT 15 (xd 16)),xX 18 3 [qK,.nils,.nils] 1 3 17,xo 19 3 64 14 18,qg 5 19]) 20 10 10 20)) (wZ (xw 21) 4 21))⟩
theorem ro:af Tryz.prog cy=some jU:=by kernel_rfl
def iX:FK:=⟨22,xJ,qe (yE 4 xm) (xb (yE 5 xm) (yv [wj 8,wm 9 8,wY 10] 0 [wR 11 10 9] 11 wx (yz 1 (yi [wt 12 5 8 10,qI 13 5 12,qW 7 [qC,qK,.nils,.nils,.nils],qQ 5 7 13] [xw 14,xq 15,qI 16 5 7,qb 17 (xT 15 (xd 16)),xX 18 5 [qC,qK,.nils,.nils,.nils] 1 5 17,xo 19 5 96 14 18,qg 5 19]) 20 10 10 20)) (wZ (xw 21) 4 21))⟩
theorem oX:af Tryz.prog bR=some iX:=by kernel_rfl
def iT:FK:=⟨22,xJ,qe (yE 4 xm) (xb (yE 5 xm) (yv [wj 8,wm 9 8,wY 10] 0 [wR 11 10 9] 11 wx (yz 1 (yi [wt 12 4 8 10,xB 13 12,qW 7 [qC,qC,qK,.nils],xV 7 13] [xw 14,xq 15,xB 16 7,qb 17 (xT 15 (xd 16)),xX 18 4 [qC,qC,qK,.nils] 1 4 17,xo 19 4 56 14 18,qg 5 19]) 20 10 10 20)) (wZ (xw 21) 4 21))⟩
theorem oT:af Tryz.prog aW=some iT:=by kernel_rfl
def yJ:FK:=⟨5,[.c 2 xj],wW [qW 2 [qC,qC,qK,.nils]] [wj 3,ww 4 [qC,qC,qK,.nils] [yC 1,yg 1 3],xV 2 4]⟩
theorem GC:af Tryz.prog cd=some yJ:=by kernel_rfl
def oe:AK:=xZ [qW 2 xI] [wj 10,yb 11 10 (ql 8),wc 12 11 0] 12 [wj 13,xe 14 oD 13,xu 2 14] (qU [wj 15,xe 16 dr 15,xe 17 fC 16,qW 3 xI,xu 3 17] (xM [wj 18,qX 19 1 [qC] 4 [yC 2,xt 1 4,xt 2 1,(3,1,xn)],xh 20 18 19,yj 20] 0 [yG 21,qz 22 .gtr 21 0] 22 wx 1 (qe [wN 25 3,wj 27,wN 28 3,qu 26 25,qu 29 28,wm 30 29,yb 31 27 (.t 30),wB 25 26,wt 32 3 26 31,qg 5 32] (qT [xw 33,we 34 33,xv 35 34,qu 36 35,wm 37 36,qz 38 .gtr 37 0] 38 (qe [xw 39,we 40 39,xv 41 40,wj 43,xw 44,we 45 44,xv 46 45,qu 42 41,qu 47 46,wm 48 47,yb 49 43 (.t 48),wB 41 42,wt 50 5 42 49,ya 50] (xO [yA 51,we 52 51,wN 53 52,qu 54 53,wc 55 54 5,qg 56 55,xg 57 56 6,qG 58 56 (qJ 57),wV 59 56 0 58,wU 60 56 59,yc 61 56 .eql 60 3,xP 62 56 61,qg 63 62,xg 64 63 0,qG 65 63 (xy bi 64 (ql 3)),yc 66 63 .eql 65 0,xg 67 63 66,xL 68 67 6,qH 69 67 (qJ 68),wK 70 67 0 69,wJ 71 67 70,xp 72 67 .neq 71 8,qG 73 63 (qL 67 (.t 72) qS),xg 74 63 73,xL 75 74 6,qH 76 74 (qJ 75),wK 77 74 0 76,wJ 78 74 77,xp 79 74 .neq 78 6,qG 80 63 (qL 74 (.t 79) qS),xP 81 63 80] 81 [yA 82,we 83 82,xv 84 83,wj 86,x9 87 1 [qC] 3 [(0,1,xn),xt 1 1,xt 2 5],qu 85 84,xh 88 86 87,wB 84 85,xe 89 cd 88,wB 84 85,wl 90 4 85 xn,xV 90 89])))) [yG 23,xU 24 23 1,yj 24]) (xF (qT [wj 91,yb 92 91 (ql 3),wc 93 92 0] 93 (xC [wN 94 3,qu 95 94,wN 96 3,qu 97 96,wm 98 97,xU 99 98 1,wt 100 3 95 99,qg 7 100] [wj 101,yx 102,we 103 102,xv 104 103,qu 105 104,wm 106 105,xR 107 106,yb 108 101 (.t 107),qg 8 108] (qe [wj 109,qX 110 1 [qC] 3 [yC 7,xt 1 6,xt 2 5],xh 111 109 110,wj 112,yb 113 112 (ql 2),wj 114,yb 115 114 (ql 2),wn 116 .mul 113 115,xe 117 cd 116,xX 118 4 [qC,qC,qK,.nils] 1 4 117,ww 119 [qC,qK,.nils,.nils,.nils] [xD 1 111,yg 2 118],qW 9 [qC,qK,.nils,.nils,.nils],qQ 5 9 119] (.cut (qT [wN 120 9,qu 121 120,qz 122 .neq 121 7] 122 (qe [qp 123 cd [ql 9],xX 124 4 [qC,qC,qK,.nils] 1 4 123,ww 125 [qC,qK,.nils,.nils,.nils] [yC 3,yg 2 124],xX 126 5 [qC,qK,.nils,.nils,.nils] 1 5 125,xN 127 9,xu 127 126] (xO [wN 128 9,qu 129 128,wc 130 129 6] 130 [xv 131 9,qu 132 131,qp 133 cd [xn],wB 131 132,wl 134 4 132 xn,xV 134 133]))) (.reg [yx 135,yx 137,we 138 137,xv 139 138,yH 141,yx 147,we 148 147,xv 149 148,yH 151,qu 140 139,qb 142 (.slS 5 (.t 140) none (some (.t 141))),qI 144 5 9,x9 145 5 [qC,qK,.nils,.nils,.nils] 1 (xW 5 144),qu 150 149,qb 152 (.slS 5 (.t 150) (some (.t 151)) none),qX 136 5 [qC,qK,.nils,.nils,.nils] 0 [],wB 139 140,q8 (some 5) 9 144,wB 149 150,xo 143 5 96 136 142,q8 (some 5) 9 144,wB 149 150,xo 146 5 96 143 145,wB 149 150,xo 153 5 96 146 152,we 154 135,xv 155 154,xu 155 153]))))) [qI 156 1 3,xu 2 156]))
def oF:FK:=⟨157,[.c 2 yy],(AK.whole oe)⟩
theorem Ef:af Tryz.prog kM=some oF:=by kernel_rfl
def jW:FK:=⟨6,[.c 2 yy],wW [qW 2 xI] [wj 3,xe 4 je 3,xe 5 kM 4,xu 2 5]⟩
theorem rg:af Tryz.prog jS=some jW:=by kernel_rfl
def oV:FK:=⟨8,[.c 2 xj],qe [yw 1 4,qW 2 [qC,qC,qK,.nils]] (wW [xN 3 1,qu 4 3,wG 5 aW 4 (.c (.fn (.func cI) [])),xN 6 1,xu 6 5] [xB 7 1,xV 2 7])⟩
theorem zX:af Tryz.prog cI=some oV:=by kernel_rfl
def mO:FK:=⟨19,[.c 3 (some 5)],xC [yw 2 5,qW 3 [qC,qK,.nils,.nils,.nils]] [xv 4 2,qu 5 4,wG 6 aW 5 (.c (.fn (.func cI) [])),xv 7 2,xu 7 6] (qe [qu 8 1,xN 9 2,qu 10 9,qb 11 (xT 8 (xd 10)),xN 12 2,xu 12 11] (wW [qu 13 1,qr 14 4 2,qu 15 14,qb 16 (xT 13 (xd 15)),qr 17 4 2,xu 17 16] [qI 18 5 2,qQ 5 3 18]))⟩
theorem vv:af Tryz.prog dM=some mO:=by kernel_rfl
def pi:FK:=⟨10,xJ,wW (yE 4 xm) [wj 6,qb 7 (.mkf (.func dM) (xd 2)),qu 5 1,wH 8 bR 6 7,wB 1 5,qb 9 (xT 5 (xd 8)),yj 9]⟩
theorem Ad:af Tryz.prog aO=some pi:=by kernel_rfl
def jZ:FK:=⟨8,xK,xb (yE 2 xm) (wg [wj 3,qb 4 (.snil false (.t 3))] 4 (yE 2 xm)) [qX 5 1 [qK] 0 [],wj 6,xo 7 1 16 5 6,yx 2]⟩
theorem re:af Tryz.prog dO=some jZ:=by kernel_rfl
def oL:FK:=⟨14,[.c 3 (some 3)],xC [yw 2 3,qW 3 [qK,.nils,.nils]] [yq 4 2,qu 5 4,xe 6 dO 5,yq 7 2,xu 7 6] (wW [qu 8 1,xv 9 2,qu 10 9,qb 11 (xT 8 (xd 10)),xv 12 2,xu 12 11] [qI 13 3 2,qQ 3 3 13])⟩
theorem Aj:af Tryz.prog eV=some oL:=by kernel_rfl
def rz:FK:=⟨12,[.c 4 yy],xC [yw 2 1,wD 3 1 1,qW 4 xI] [qW 5 [.nilf]] (wW [qb 6 (.mkf (.func aO) (wF 3 (.t 5))),xu 5 6] [wN 7 2,qu 8 7,qb 9 (.mkf (.func eV) (xd 5)),wH 10 cy 8 9,ww 11 xI (xW 1 10),xu 4 11])⟩
theorem CG:af Tryz.prog gq=some rz:=by kernel_rfl
def pK:FK:=⟨14,xJ,wW [yw 2 4,xi] [wN 5 2,qu 6 5,wc 7 6 1,yx 8,wK 9 8 1 2,wJ 10 8 9,xL 11 8 1,qH 12 8 (qm .eql 10 (.t 11)),xE 13 8 12,yj 13]⟩
theorem GG:af Tryz.prog ca=some pK:=by kernel_rfl
def rD:FK:=⟨14,xJ,wW [yw 2 4,xi] [wN 5 2,qu 6 5,wc 7 6 1,yx 8,wK 9 8 1 2,wJ 10 8 9,xL 11 8 1,qH 12 8 (qm .eql 10 (.t 11)),xE 13 8 12,yj 13]⟩
theorem Ht:af Tryz.prog dp=some rD:=by kernel_rfl
def oq:AK:=qe (yE 2 xm) (xb (wZ (qX 7 5 [qC,qK,.nils,.nils,.nils] 0 []) 3 7) (xM [x7] 0 [yG 8,wj 9,wm 10 9,wR 11 8 10] 11 wx 1 (xC [wj 14,yG 15,wt 16 5 14 15,qI 17 5 16,qW 5 [qC,qK,.nils,.nils,.nils],qQ 5 5 17] [xv 18 5,qu 19 18,wl 20 4 19 xn,xB 21 20,qW 6 [qC,qC,qK,.nils],xV 6 21] (xC [xN 22 5,qu 23 22,xe 24 cL 23,xN 25 5,xu 25 24] [qr 26 4 5,qu 27 26,xe 28 cL 27,qr 29 4 5,xu 29 28] (.cut (qT [wN 30 5,qu 31 30,wc 32 31 6,qg 33 32,qH 34 33 (qj xj 6),qH 35 33 (xy dp 34 xn),xE 36 33 35] 36 (.exit 1)) (.cut (qT [wN 37 5,qu 38 37,wc 39 38 5,qg 40 39,wK 41 40 0 6,wJ 42 40 41,xp 43 40 .eql 42 1,xE 44 40 43] 44 (qB [yq 45 6,qu 46 45,qz 47 .neq 46 0] 47 (.reg [qX 48 5 [qC,qK,.nils,.nils,.nils] 0 [],qr 49 4 5,xu 49 48]) (.reg [qX 50 5 [qC,qK,.nils,.nils,.nils] 0 [],xN 51 5,xu 51 50]))) (qe [yB 52,qI 53 5 5,xX 54 5 [qC,qK,.nils,.nils,.nils] 1 5 53,xo 55 5 96 52 54,qg 3 55] (qT [wN 56 5,qu 57 56,wc 58 57 7] 58 wx)))))) [yG 12,xR 13 12,yj 13]) (wZ (yB 59) 2 59))
def oG:FK:=⟨60,xK,(AK.whole oq)⟩
theorem Ea:af Tryz.prog cL=some oG:=by kernel_rfl
def oz:FK:=⟨92,[.t 6,.t 7],qU [yw 3 4,wY 6,wY 7] (qe [wN 12 3,qu 13 12] (.blk 0 (qB (xa 15 13 1 14 15) 14 (qA [yq 16 3,qu 17 16,ya 17,wY 7]) (qT (xa 19 13 2 18 19) 18 (xM [wY 8] 1 [yH 20,xq 21,wm 22 21,wR 23 20 22] 23 (.exit 1) 2 (wg [xq 26,yH 27,wt 28 1 26 27,xv 30 3,qu 29 28,qu 31 30,qb 32 (x8 .eql 29 (.t 31))] 32 [yf 33,yH 34,wt 35 1 33 34,qu 36 35,ya 36,wY 7]) [yH 24,xR 25 24,qg 8 25]))))) (xZ [xN 38 3,qu 39 38,wl 40 4 39 xn,xB 41 40,xq 42,yf 43,yp 44 fH 41 42 43,qg 37 44,wT 45 0 37,wT 46 1 37,qg 9 45,qg 10 46] [qg 47 10,qz 48 .neq 47 0] 48 [qg 49 10,wY 6,qg 7 49] (.seq (wg [wN 50 3,qu 51 50,wc 52 51 11] 52 [qg 53 9,wc 54 53 0,xe 55 dI 54,qg 56 10,ya 55,qg 7 56]) (.seq (wg [wN 57 3,qu 58 57,wc 59 58 10,qg 60 59,xL 61 60 9,xp 62 60 .eql 61 0,xE 63 60 62] 63 [qg 64 10,wY 6,qg 7 64]) (xZ [xN 66 3,qu 67 66,wl 68 4 67 (ql 1),xB 69 68,xq 70,yf 71,yp 72 fH 69 70 71,qg 65 72,wT 73 0 65,wT 74 1 65,qg 11 73,qg 10 74] [qg 75 10,qz 76 .neq 75 0] 76 [qg 77 10,wY 6,qg 7 77] (xF (wg [wN 78 3,qu 79 78,wc 80 79 10] 80 [qg 81 11,qz 82 .neq 81 0,xe 83 dI 82,qg 84 10,ya 83,qg 7 84]) [wN 85 3,qu 86 85,qg 87 9,qg 88 11,yp 89 pE 86 87 88,wT 90 0 89,wT 91 1 89,ya 90,qg 7 91])))))⟩
theorem uj:af Tryz.prog fH=some oz:=by kernel_rfl
def ip:AK:=xZ [yw 1 4,yk] [wN 4 1,qu 5 4,wc 6 5 12,yA 7,wV 8 7 0 1,wU 9 7 8,yc 10 7 .eql 9 13,xP 11 7 10] 11 [yk] (.cut (wg [wN 12 1,qu 13 12,wc 14 13 6,qg 15 14,wV 16 15 0 1,wU 17 15 16,yc 18 15 .eql 17 7,xP 19 15 18,qg 20 19,wK 21 20 3 1,wJ 22 20 21,qH 23 20 (qM 4 22 (ql 1)),wK 24 20 0 23,wJ 25 20 24,xp 26 20 .neq 25 1,xL 27 20 26,wV 28 27 3 1,wU 29 27 28,qG 30 27 (qM 4 29 (ql 1)),wV 31 27 1 30,wU 32 27 31,yc 33 27 .eql 32 0,qH 34 20 (qL 27 wv (.t 33)),xE 35 20 34] 35 [yk]) (xF (xM [wY 3] 0 [yB 36,xN 37 1,qu 38 37,wm 39 38,wR 40 36 39] 40 wx 1 (wg [xN 43 1,qu 44 43,yB 45,wt 46 4 44 45,xB 47 46,xe 48 iq 47,xx 49 48] 49 [yk]) [yB 41,xR 42 41,qg 3 42]) (yE 2 wv)))
def ic:FK:=⟨50,xK,(AK.whole ip)⟩
theorem EA:af Tryz.prog iq=some ic:=by kernel_rfl
def cJ:AK:=qU [yw 1 4,qW 2 [qC,qC,qK,.nils]] (qT [xN 8 1,qu 9 8,wm 10 9,wc 11 10 1,qg 12 11,wK 13 12 0 1,wJ 14 12 13,xp 15 12 .eql 14 11,xE 16 12 15] 16 (xZ [xN 17 1,qu 18 17,wl 19 4 18 xn,xB 20 19,qW 3 [qC,qC,qK,.nils],xV 3 20] [wN 21 3,qu 22 21,wc 23 22 1] 23 [yq 24 3,qu 25 24,wc 26 25 0,xe 27 dI 26,xe 28 cd 27,xV 2 28] (xF (wg [wN 29 3,qu 30 29,wc 31 30 11,qg 32 31,wK 33 32 3 3,wJ 34 32 33,qH 35 32 (qM 4 34 xn),wK 36 32 0 35,wJ 37 32 36,xp 38 32 .eql 37 11,xE 39 32 38] 39 [xN 40 3,qu 41 40,wl 42 4 41 xn,xB 43 42,xV 2 43]) [xB 44 1,xV 2 44]))) (.seq (wg [wN 45 1,qu 46 45,qp 47 kO (yl 46 (ql 3) (ql 10)),xx 48 47] 48 [xB 49 1,xV 2 49]) (xC [xN 50 1,qu 51 50,wl 52 4 51 xn,xB 53 52,qW 4 [qC,qC,qK,.nils],xV 4 53] [xN 54 1,qu 55 54,wl 56 4 55 (ql 1),xB 57 56,qW 5 [qC,qC,qK,.nils],xV 5 57] (.cut (qT [wN 58 4,qu 59 58,wc 60 59 1,qg 61 60,wK 62 61 0 5,wJ 63 61 62,xp 64 61 .eql 63 1,xE 65 61 64] 65 (qe [xB 67 1,qp 68 fH (yl 67 xm xm),qg 66 68,wT 69 0 66,wT 70 1 66,ya 69,qg 7 70] (wg [yx 71,wc 72 71 0] 72 [yA 73,xe 74 cd 73,xV 2 74]))) (xF (.blk 0 (qB [wN 76 1,qu 77 76,wc 78 77 10,qg 79 78,qH 80 79 (qj xj 4),qH 81 79 (xy dp 80 xn),xE 82 79 81,qg 75 82] 75 (qA [qp 83 cd [xn],xV 2 83]) (wQ [xB 85 5,wG 86 dp 85 xn,qg 87 86,wK 88 87 0 1,wJ 89 87 88,xp 90 87 .eql 89 3,xL 91 87 90,wV 92 91 0 1,wU 93 91 92,yc 94 91 .eql 93 4,qH 95 87 (qL 91 wv (.t 94)),xE 96 87 95,qg 84 96] 84 (.reg [xB 97 5,xY 98 dp 97 1,qg 99 98,wK 100 99 0 1,wJ 101 99 100,xp 102 99 .eql 101 5,xL 103 99 102,wV 104 103 0 1,wU 105 103 104,yc 106 103 .eql 105 6,qH 107 99 (qL 103 wv (.t 106)),xE 108 99 107,qg 84 108]) (qo 84 (qA [xB 109 4,xV 2 109]) (wQ [xB 111 4,wG 112 dp 111 xn,qg 113 112,wK 114 113 0 1,wJ 115 113 114,xp 116 113 .eql 115 3,xE 117 113 116,qg 110 117] 110 (.reg [xB 118 4,xY 119 dp 118 1,qg 120 119,wK 121 120 0 1,wJ 122 120 121,xp 123 120 .eql 122 5,xE 124 120 123,qg 110 124]) (qo 110 (qA [xB 125 5,xV 2 125]) (wg [wN 127 1,qu 128 127,wc 129 128 5,qg 130 129,qH 131 130 (qj xj 5),qH 132 130 (xy dp 131 xn),xL 133 130 132,qH 134 133 (qj xj 4),qH 135 133 (.call iq (xd 134)),qH 136 130 (qL 133 (.t 135) qS),xL 137 130 136,qG 138 137 (qj xj 4),qG 139 137 (xy dp 138 xn),xg 140 137 139,qH 141 140 (qj xj 5),qH 142 140 (.call iq (xd 141)),qG 143 137 (qL 140 (.t 142) qS),qH 144 130 (qL 137 wv (.t 143)),xE 145 130 144,qg 126 145] 126 [qp 146 cd [xn],xV 2 146]))))))) [xB 147 1,xV 2 147]))))
def cK:FK:=⟨148,[.c 2 xj],(AK.whole cJ)⟩
theorem DY:af Tryz.prog kK=some cK:=by kernel_rfl
def og:AK:=qe [yw 1 4,qW 2 [qC,qC,qK,.nils]] (qU (wZ (qX 5 4 [qC,qC,qK,.nils] 0 []) 3 5) (xM [x7] 0 [ya 4,xN 7 1,qu 8 7,wm 9 8,wR 10 6 9] 10 wx 1 (.reg [yB 13,xN 14 1,qu 15 14,yG 16,wt 17 4 15 16,xB 18 17,xe 19 kH 18,xX 20 4 [qC,qC,qK,.nils] 1 4 19,xo 21 4 56 13 20,qg 3 21]) [yG 11,xR 12 11,yj 12]) (yd [yB 22,xN 23 1,xu 23 22] (qA [xB 24 1,xe 25 kK 24,xV 2 25])))
def oo:FK:=⟨26,[.c 2 xj],(AK.whole og)⟩
theorem Ee:af Tryz.prog kH=some oo:=by kernel_rfl
def mW:AK:=qe (yE 2 xm) (xb (wZ (qX 8 5 [qC,qK,.nils,.nils,.nils] 0 []) 3 8) (xM [x7] 0 [yG 9,wj 10,wm 11 10,wR 12 9 11] 12 wx 1 (qe [wj 15,yG 16,wt 17 5 15 16,qI 18 5 17,qW 5 [qC,qK,.nils,.nils,.nils],qQ 5 5 18] (qU (wZ (qX 19 4 [qC,qC,qK,.nils] 0 []) 6 19) (xM [wY 7] 2 [yx 20,xv 21 5,qu 22 21,wm 23 22,wR 24 20 23] 24 (.exit 2) 3 (.reg [yA 27,xv 28 5,qu 29 28,yx 30,wt 31 4 29 30,xB 32 31,xe 33 kH 32,xX 34 4 [qC,qC,qK,.nils] 1 4 33,xo 35 4 56 27 34,ya 35]) [yx 25,xR 26 25,qg 7 26]) (yd [yA 36,xv 37 5,xu 37 36] (xC [xN 38 5,qu 39 38,xe 40 cf 39,xN 41 5,xu 41 40] [qr 42 4 5,qu 43 42,xe 44 cf 43,qr 45 4 5,xu 45 44] (.reg [yB 46,qI 47 5 5,xX 48 5 [qC,qK,.nils,.nils,.nils] 1 5 47,xo 49 5 96 46 48,qg 3 49]))))) [yG 13,xR 14 13,yj 14]) (wZ (yB 50) 2 50))
def mz:FK:=⟨51,xK,(AK.whole mW)⟩
theorem Cl:af Tryz.prog cf=some mz:=by kernel_rfl
def tY:FK:=⟨42,[.c 4 yy],qe [yw 2 1,qW 4 xI] (xb [qI 7 1 2,xe 8 fC 7,qW 5 xI,xu 5 8] (xM [wY 6] 0 [yA 9,wN 10 5,qu 11 10,wm 12 11,wR 13 9 12] 13 wx 1 (qB [xq 16] 16 (.reg [wN 17 5,yA 19,wN 20 5,yA 22,qu 18 17,qu 21 20,wt 23 3 21 22,xv 24 23,qu 25 24,xe 26 cL 25,wB 17 18,wt 27 3 18 19,xv 28 27,xu 28 26]) (.reg [wN 29 5,yA 31,wN 32 5,yA 34,qu 30 29,qu 33 32,wt 35 3 33 34,xv 36 35,qu 37 36,xe 38 cf 37,wB 29 30,wt 39 3 30 31,xv 40 39,xu 40 38])) [yA 14,xR 15 14,ya 15]) [qI 41 1 5,xu 4 41])⟩
theorem Ez:af Tryz.prog ij=some tY:=by kernel_rfl
def mF:FK:=⟨26,xJ,xZ yD [wj 6,wm 7 6,xq 8,wm 9 8,wn 10 .neq 7 9] 10 yD (xF (xM [wY 5] 0 [xw 11,wj 12,wm 13 12,wR 14 11 13] 14 wx 1 (wg [wj 17,xw 18,wt 19 1 17 18,xq 21,xw 22,wt 23 1 21 22,qu 20 19,qu 24 23,qb 25 (x8 .neq 20 (.t 24))] 25 yD) [xw 15,xR 16 15,qg 5 16]) (yE 4 wv))⟩
theorem DC:af Tryz.prog mM=some mF:=by kernel_rfl
def dU:FK:=⟨53,xJ,xZ [yw 2 4,wD 3 4 1,xi] [wN 6 2,qu 7 6,wN 8 3,qu 9 8,wn 10 .neq 7 9,qg 11 10,wV 12 11 1 2,wU 13 11 12,wV 14 11 1 3,wU 15 11 14,qG 16 11 (qm .neq 13 (.t 15)),xP 17 11 16,qg 18 17,wV 19 18 2 2,wU 20 18 19,wV 21 18 2 3,wU 22 18 21,qG 23 18 (x8 .neq 20 (.t 22)),xP 24 18 23,qg 25 24,wV 26 25 3 2,wU 27 25 26,qG 28 25 (q9 27),wV 29 25 3 3,wU 30 25 29,qG 31 25 (q9 30),qG 32 25 (qm .neq 28 (.t 31)),xP 33 25 32] 33 yD (xF (xM [wY 5] 0 [xw 34,xN 35 2,qu 36 35,wm 37 36,wR 38 34 37] 38 wx 1 (wg [xN 41 2,xw 43,xN 46 3,xw 48,qu 42 41,wt 44 4 42 43,xB 45 44,qu 47 46,wt 49 4 47 48,xB 50 49,wH 51 iy 45 50,xx 52 51] 52 yD) [xw 39,xR 40 39,qg 5 40]) (yE 4 wv))⟩
theorem Bz:af Tryz.prog iy=some dU:=by kernel_rfl
def jG:FK:=⟨111,xJ,xZ yD [wj 7,wm 8 7,xq 9,wm 10 9,wn 11 .neq 8 10] 11 yD (xF (xM [wY 5] 0 [xw 12,wj 13,wm 14 13,wR 15 12 14] 15 wx 1 (.seq (wg [wj 18,xw 19,wt 20 5 18 19,wN 21 20,xq 23,xw 24,wt 25 5 23 24,wN 26 25,qu 22 21,qu 27 26,wn 28 .neq 22 27,qg 29 28,xg 30 29 0,xg 31 29 5,qG 32 29 (qM 5 30 (.t 31)),wV 33 29 1 32,xg 35 29 1,xg 36 29 5,qG 37 29 (qM 5 35 (.t 36)),wV 38 29 1 37,wU 34 29 33,wU 39 29 38,qG 40 29 (x8 .neq 34 (.t 39)),xP 41 29 40,qg 42 41,xg 43 42 0,xg 44 42 5,qG 45 42 (qM 5 43 (.t 44)),wV 46 42 2 45,xg 49 42 1,xg 50 42 5,qG 51 42 (qM 5 49 (.t 50)),wV 52 42 2 51,wU 47 42 46,qG 48 42 (q9 47),wU 53 42 52,qG 54 42 (q9 53),qG 55 42 (qm .neq 48 (.t 54)),xP 56 42 55] 56 yD) (.seq (xM [wY 6] 2 [yA 57,wj 58,xw 59,wt 60 5 58 59,xv 61 60,qu 62 61,wm 63 62,wR 64 57 63] 64 (.exit 2) 3 (wg [wj 67,xw 68,wt 69 5 67 68,xv 70 69,yA 72,xq 75,xw 76,wt 77 5 75 76,xv 78 77,yA 80,qu 71 70,wt 73 4 71 72,xB 74 73,qu 79 78,wt 81 4 79 80,xB 82 81,wH 83 iy 74 82,xx 84 83] 84 yD) [yA 65,xR 66 65,ya 66]) (wg [wj 85,xw 86,wt 87 5 85 86,xN 88 87,xq 90,xw 91,wt 92 5 90 91,xN 93 92,qu 89 88,qu 94 93,wH 95 eb 89 94,xx 96 95,qg 97 96,xg 98 97 0,xg 99 97 5,qG 100 97 (qM 5 98 (.t 99)),wV 101 97 4 100,xg 103 97 1,xg 104 97 5,qG 105 97 (qM 5 103 (.t 104)),wV 106 97 4 105,wU 102 97 101,wU 107 97 106,qG 108 97 (xy eb 102 (.t 107)),yF 109 97 108,xP 110 97 109] 110 yD))) [xw 16,xR 17 16,qg 5 17]) (yE 4 wv))⟩
theorem vA:af Tryz.prog eb=some jG:=by kernel_rfl
def gS:FK:=⟨65,xJ,xZ [yw 2 1,wD 3 1 1,xi] [wN 6 2,qu 7 6,wm 8 7,wN 9 3,qu 10 9,wm 11 10,wn 12 .neq 8 11] 12 yD (xF (xM [wY 5] 0 [xw 13,wN 14 2,qu 15 14,wm 16 15,wR 17 13 16] 17 wx 1 (wg [wN 20 2,xw 22,wN 26 3,xw 28,qu 21 20,wt 23 3 21 22,wN 24 23,qu 25 24,qu 27 26,wt 29 3 27 28,wN 30 29,qu 31 30,qb 32 (x8 .neq 25 (.t 31)),qg 33 32,wV 34 33 0 2,xg 36 33 5,wV 40 33 0 3,xg 42 33 5,wU 35 33 34,qG 37 33 (qM 3 35 (.t 36)),wV 38 33 1 37,wU 39 33 38,wU 41 33 40,qG 43 33 (qM 3 41 (.t 42)),wV 44 33 1 43,wU 45 33 44,qG 46 33 (xy mM 39 (.t 45)),yF 47 33 46,xP 48 33 47,qg 49 48,wV 50 49 0 2,xg 52 49 5,wV 56 49 0 3,xg 58 49 5,wU 51 49 50,qG 53 49 (qM 3 51 (.t 52)),wV 54 49 2 53,wU 55 49 54,wU 57 49 56,qG 59 49 (qM 3 57 (.t 58)),wV 60 49 2 59,wU 61 49 60,qG 62 49 (xy eb 55 (.t 61)),yF 63 49 62,xP 64 49 63] 64 yD) [xw 18,xR 19 18,qg 5 19]) (yE 4 wv))⟩
theorem tt:af Tryz.prog eI=some gS:=by kernel_rfl
def jc:FK:=⟨6,[.c 2 yy],wW [qW 2 xI] [wj 3,xe 4 je 3,xe 5 kM 4,xu 2 5]⟩
theorem pM:af Tryz.prog fg=some jc:=by kernel_rfl
def sy:FK:=⟨5,[.c 2 xj],wW [qW 2 [qC,qC,qK,.nils]] [wj 3,ww 4 [qC,qC,qK,.nils] [yC 1,yg 1 3],xV 2 4]⟩
theorem Cy:af Tryz.prog eU=some sy:=by kernel_rfl
def bq:FK:=⟨40,[],yi [yw 2 4] [qu 3 1,yj 3,wK 5 4 0 2,wJ 6 4 5,xp 7 4 .neq 6 12,xE 8 4 7,yH 9,wK 10 9 0 2,wJ 11 9 10,xp 12 9 .neq 11 13,xE 13 9 12,qg 14 13,wK 15 14 0 2,wJ 16 14 15,xp 17 14 .neq 16 6,xL 18 14 17,wK 19 18 0 2,wJ 20 18 19,xp 21 18 .neq 20 7,qH 22 14 (qL 18 (.t 21) qS),xL 23 14 22,wV 24 23 3 2,wU 25 23 24,qG 26 23 (qM 4 25 (ql 1)),wV 27 23 0 26,wU 28 23 27,yc 29 23 .eql 28 1,xg 30 23 29,wK 31 30 3 2,wJ 32 30 31,qH 33 30 (qM 4 32 (ql 1)),wK 34 30 1 33,wJ 35 30 34,xp 36 30 .neq 35 0,qG 37 23 (qL 30 (.t 36) qS),qH 38 14 (qL 23 wv (.t 37)),xE 39 14 38,xu 1 39]⟩
theorem yY:af Tryz.prog dX=some bq:=by kernel_rfl
def pW:FK:=⟨11,xK,qe [yw 1 4,yk] (xb [xB 4 1,xe 5 fa 4,qW 3 [qx],xu 3 5] (xO [qu 6 3] 6 [xB 7 1,qb 8 (.mkf (.func dX) (xd 3)),wH 9 gv 7 8]) (wZ (qu 10 3) 2 10))⟩
theorem By:af Tryz.prog iw=some pW:=by kernel_rfl
def bK:AK:=xZ [yw 1 4,qW 2 [qC,qC,qK,.nils]] [xN 7 1,qu 8 7,wm 9 8,wc 10 9 0,qg 11 10,wV 12 11 0 1,wU 13 11 12,yc 14 11 .eql 13 13,xP 15 11 14,qg 16 15,wV 17 16 0 1,wU 18 16 17,yc 19 16 .eql 18 12,xP 20 16 19] 20 [xB 21 1,xV 2 21] (.cut (.ot (.one [] (.one [xN 22 1] (.one [xN 26 1] (.one [xN 28 1] (.one [qu 23 22] (.one [wl 24 4 23 xn] (.one [xB 25 24] (.one [qu 27 26] (.one [qu 29 28] (.one [wm 30 29] (.one [xU 31 30 1] (.one [wt 32 4 27 31] (.one [xB 33 32] (.alt (.one [qW 3 [qC,qC,qK,.nils],wB 22 23,q8 xj 24 25,wB 26 27,wB 28 29,q8 xj 32 33] (.alt (.one [qW 4 [qC,qC,qK,.nils],wB 22 23,q8 xj 24 25,wB 26 27,wB 28 29,q8 xj 32 33] (.alt (.one [xV 3 25,wB 26 27,wB 28 29,q8 xj 32 33] (.alt (.one [xV 4 33] .done) .tru)) .tru)) .tru)) (.alt (.one [qW 4 [qC,qC,qK,.nils],wB 22 23,q8 xj 24 25,wB 26 27,wB 28 29,q8 xj 32 33] (.alt (.one [qW 3 [qC,qC,qK,.nils],wB 22 23,q8 xj 24 25,wB 26 27,wB 28 29,q8 xj 32 33] (.alt (.one [xV 3 25,wB 26 27,wB 28 29,q8 xj 32 33] (.alt (.one [xV 4 33] .done) .tru)) .tru)) .tru)) .tru)))))))))))))))) (.cut (qT [wN 34 3,qu 35 34,wc 36 35 1,qg 37 36,wK 38 37 0 4,wJ 39 37 38,xp 40 37 .eql 39 1,xE 41 37 40] 41 (qe [wN 43 1,qu 44 43,yq 45 3,qu 46 45,yq 47 4,qu 48 47,yp 49 gC 44 46 48,qg 42 49,wT 50 0 42,wT 51 1 42,qg 5 50,ya 51] (wg [yA 52] 52 [xw 53,xe 54 eU 53,xV 2 54]))) (xF (qe [wN 55 1,qu 56 55] (.blk 0 (xH (xa 58 56 11 57 58) 57 (wg [wN 59 3,qu 60 59,wc 61 60 11,qg 62 61,wK 63 62 3 3,wJ 64 62 63,qH 65 62 (qM 4 64 xn),wK 66 62 0 65,wJ 67 62 66,xp 68 62 .eql 67 11,xE 69 62 68] 69 [xN 70 3,qu 71 70,wl 72 4 71 xn,xB 73 72,xV 2 73]) (xa 75 56 10 74 75) 74 (wg [xB 76 3,wG 77 ca 76 xn] 77 [qp 78 eU [xn],xV 2 78]) (xH (xa 80 56 3 79 80) 79 (.seq (wg [xB 81 4,wG 82 ca 81 xn] 82 [xB 83 3,xV 2 83]) (wg [xB 84 3,wG 85 ca 84 xn] 85 [xB 86 4,xV 2 86])) (xa 88 56 4 87 88) 87 (wg [xB 89 4,wG 90 ca 89 xn] 90 [xB 91 3,xV 2 91]) (qB (xa 93 56 5 92 93) 92 (.blk 1 (xH [xB 95 4,xY 96 ca 95 1,qg 94 96] 94 (qA [xB 97 3,xV 2 97]) [xB 99 3,xY 100 ca 99 1,qg 98 100] 98 (qA [xB 101 4,xV 2 101]) (wQ [xB 103 4,wG 104 ca 103 xn,qg 105 104,qH 106 105 (qj xj 3),qH 107 105 (.call iw (xd 106)),xE 108 105 107,qg 102 108] 102 (.reg [xB 109 3,wG 110 ca 109 xn,qg 111 110,qH 112 111 (qj xj 4),qH 113 111 (.call iw (xd 112)),xE 114 111 113,qg 102 114]) (qo 102 (qA [qp 115 eU [xn],xV 2 115]) .skip)))) (qT (xa 117 56 6 116 117) 116 (wg [xB 118 4,xY 119 ca 118 1] 119 [xB 120 3,xV 2 120]))))))) [xB 121 1,xV 2 121])))
def bL:FK:=⟨122,[.c 2 xj],(AK.whole bK)⟩
theorem Bn:af Tryz.prog iz=some bL:=by kernel_rfl
def Bc:FK:=⟨9,[.c 2 xj],qe [yw 1 4,qW 2 [qC,qC,qK,.nils]] (wW [xN 3 1,qu 4 3,wG 5 aW 4 (.c (.fn (.func iV) [])),xN 6 1,xu 6 5] [xB 7 1,xe 8 iz 7,xV 2 8])⟩
theorem Hq:af Tryz.prog iV=some Bc:=by kernel_rfl
def gn:FK:=⟨21,xK,xb (yE 2 xm) (yv [wj 4,wm 5 4,wY 6] 0 [wR 7 6 5] 7 wx (yz 1 (yi (wZ (yA 8) 3 8) [wj 9,yB 10,wj 11,yB 12,wt 13 5 11 12,xv 14 13,qu 15 14,wG 16 aW 15 (.c (.fn (.func iV) [])),wt 17 5 9 10,xv 18 17,xu 18 16]) 19 6 6 19)) (wZ (wj 20) 2 20)⟩
theorem kV:af Tryz.prog aS=some gn:=by kernel_rfl
def iQ:FK:=⟨10,[.c 2 yy,.t 3],xb [yw 1 1,qW 2 xI,wI 3] (wg [qI 4 1 1,xe 5 kP 4,xx 6 5] 6 [ww 7 xI [],xu 2 7,wI 3]) [qI 8 1 1,wG 9 gq 8 (.c (.fn (.func aS) [])),xu 2 9,qd 3 wv]⟩
theorem mE:af Tryz.prog dB=some iQ:=by kernel_rfl
def nh:FK:=⟨10,[.c 2 yy,.t 3],xb [yw 1 1,qW 2 xI,wI 3] (wg [qI 4 1 1,xe 5 kD 4,xx 6 5] 6 [ww 7 xI [],xu 2 7,wI 3]) [qI 8 1 1,wG 9 ij 8 qS,xu 2 9,qd 3 wv]⟩
theorem uO:af Tryz.prog fj=some nh:=by kernel_rfl
def nG:FK:=⟨103,xK,xZ [yk] [wj 16,wm 17 16,qz 18 .gtr 17 1048576] 18 (yE 2 wv) (xC [wj 19,xe 20 fg 19,qW 3 xI,xu 3 20] [qI 22 1 3,xe 23 dB 22,qg 21 23,wT 24 0 21,wT 25 1 21,qW 4 xI,xu 4 24,qg 5 25] (xZ [qI 27 1 3,xe 28 fj 27,qg 26 28,wT 29 0 26,wT 30 1 26,qW 6 xI,xu 6 29,qg 7 30] [xw 31,yx 32,qb 33 (.beq true (.t 31) (.t 32)),qg 34 33,qG 35 34 (qj yy 4),qG 36 34 (qj yy 6),qG 37 34 (xy eI 35 (.t 36)),yF 38 34 37,xP 39 34 38,qg 40 39,xg 41 40 5,yF 42 40 41,xP 43 40 42] 43 [xw 44,yx 45,qb 46 (.beq false (.t 44) (.t 45)),qg 47 46,qH 48 47 (qj yy 4),qH 49 47 (qj yy 6),qH 50 47 (xy eI 48 (.t 49)),xE 51 47 50,qg 2 51] (xF (yv [qI 52 1 3,xe 53 gy 52,wm 54 53,wY 55] 0 [wR 56 55 54] 56 wx (yz 1 (qe [wt 57 1 53 55,qu 58 57,qg 9 58] (yv [qX 59 1 [qC] 4 [(0,1,xn),xt 1 7,xt 2 50,xt 3 600],wm 60 59,wY 61] 2 [wR 62 61 60] 62 (.exit 2) (yz 3 (xC [wt 63 1 59 61,qu 64 63,qg 11 64] [qI 66 1 3,qg 67 9,qg 68 11,yp 69 ee 66 67 68,qg 65 69,wT 70 0 65,wT 71 1 65,qW 12 [.nils,qC,qC,.nils],xV 12 70,qg 13 71] (qe [qI 73 1 4,qg 74 9,qg 75 11,yp 76 ee 73 74 75,qg 72 76,wT 77 0 72,wT 78 1 72,qW 14 [.nils,qC,qC,.nils],xV 14 77,qg 15 78] (wg [qg 79 13,xx 80 79,qg 81 80,xg 82 81 15,yF 83 81 82,xP 84 81 83,qg 85 84,qG 86 85 (qj xj 12),qG 87 85 (qj xj 14),qG 88 85 (xy iI 86 (.t 87)),yF 89 85 88,xP 90 85 89] 90 [yk]))) 91 61 61 91))) 92 55 55 92)) [qI 93 1 4,xe 94 eQ 93,wc 95 94 0,qg 96 95,qH 97 96 (qj yy 4),qH 98 96 (.qcall gu (xd 97)),qH 99 96 (qj yy 3),qH 100 96 (.call gu (xd 99)),qH 101 96 (qm .eql 98 (.t 100)),xE 102 96 101,qg 2 102])))⟩
theorem vO:af Tryz.prog nJ=some nG:=by kernel_rfl
end Go.Proofs.YtokiapglmedipaaGreatDoor
