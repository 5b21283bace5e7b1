/-
  Contracts and lemmas that the card needs, part 4.
-/
import Derived.Test.YtokiapglmedipaaGreatDoorIn3
import Derived.Test.YtokiapglmedipaaGreatDoorRows
namespace Go.Proofs.YtokiapglmedipaaGreatDoor
open Go Go.Aw
set_option maxRecDepth 100000
abbrev jx:FuncId:=56
abbrev lA:FuncId:=239
abbrev kZ:FuncId:=235
abbrev nq:FuncId:=221
abbrev fW:FuncId:=236
abbrev nu:FuncId:=222
abbrev cx:FuncId:=195
abbrev iV:FuncId:=237
abbrev iY:FuncId:=242
abbrev fQ:FuncId:=240
abbrev gL:FuncId:=241
abbrev eO:FuncId:=238
abbrev jf:FuncId:=223
abbrev bY:FuncId:=196
abbrev oU:FuncId:=164
abbrev eI:FuncId:=197
abbrev nK:FuncId:=165
abbrev dp:FuncId:=114
abbrev js:FuncId:=199
abbrev bu:FuncId:=200
abbrev dG:FuncId:=224
abbrev iZ:FuncId:=225
abbrev ep:FuncId:=201
abbrev ec:FuncId:=227
abbrev cF:FuncId:=226
abbrev cu:FuncId:=202
abbrev mg:FuncId:=169
abbrev fH:FuncId:=119
abbrev jd:FuncId:=70
abbrev jT:FuncId:=101
abbrev mF:FuncId:=50
abbrev bZ:FuncId:=184
abbrev ef:FuncId:=150
abbrev kq:FuncId:=186
abbrev dZ:FuncId:=208
abbrev dC:FuncId:=209
abbrev nO:FuncId:=210
abbrev bg:FuncId:=185
abbrev ig:FuncId:=187
abbrev io:FuncId:=151
abbrev aK:FuncId:=102
abbrev lY:FuncId:=51
abbrev cZ:FuncId:=57
abbrev fp:FuncId:=172
abbrev fk:FuncId:=122
abbrev dY:FuncId:=173
abbrev da:FuncId:=124
abbrev cT:FuncId:=123
abbrev cy:FuncId:=75
abbrev cM:FuncId:=125
abbrev ce:FuncId:=76
abbrev cb:FuncId:=174
abbrev bN:FuncId:=126
abbrev fU:FuncId:=175
abbrev iX:FuncId:=156
abbrev lv:FuncId:=228
abbrev gb:FuncId:=203
abbrev eN:FuncId:=176
abbrev jh:FuncId:=128
abbrev cA:FuncId:=127
abbrev cG:FuncId:=78
abbrev gA:FuncId:=129
abbrev eV:FuncId:=130
abbrev kS:FuncId:=79
abbrev br:FuncId:=77
abbrev fC:FuncId:=37
abbrev cK:FuncId:=80
abbrev fT:FuncId:=81
abbrev jr:FuncId:=39
abbrev cg:FuncId:=72
abbrev cY:FuncId:=73
abbrev kr:FuncId:=170
abbrev ca:FuncId:=121
abbrev bP:FuncId:=171
abbrev du:FuncId:=120
abbrev bz:FuncId:=74
abbrev dk:FuncId:=36
abbrev lX:FuncId:=68
abbrev dJ:FuncId:=189
abbrev cP:FuncId:=154
abbrev cz:FuncId:=155
abbrev kT:FuncId:=104
abbrev mB:FuncId:=53
abbrev bl:FuncId:=157
abbrev sb:FuncId:=105
abbrev bw:FuncId:=108
abbrev mj:FuncId:=212
abbrev dt:FuncId:=190
abbrev eU:FuncId:=215
abbrev kG:FuncId:=205
abbrev iy:FuncId:=180
abbrev dr:FuncId:=216
abbrev bL:FuncId:=213
abbrev ib:FuncId:=214
abbrev fG:FuncId:=191
abbrev bi:FuncId:=158
abbrev dq:FuncId:=107
abbrev dm:FuncId:=106
abbrev eb:FuncId:=54
abbrev ed:FuncId:=20
abbrev eu:FuncId:=21
abbrev kP:FuncId:=60
abbrev bf:FuncId:=62
abbrev cC:FuncId:=65
abbrev cS:FuncId:=117
abbrev db:FuncId:=198
abbrev aS:FuncId:=194
abbrev ir:FuncId:=163
abbrev gm:FuncId:=234
abbrev dE:FuncId:=218
abbrev ee:FuncId:=219
abbrev ie:FuncId:=220
abbrev ia:FuncId:=193
abbrev aT:FuncId:=162
abbrev fY:FuncId:=113
abbrev dV:FuncId:=61
abbrev gH:FuncId:=167
abbrev mr:FuncId:=166
abbrev mt:FuncId:=115
abbrev ji:FuncId:=168
abbrev dy:FuncId:=118
abbrev mD:FuncId:=116
abbrev mG:FuncId:=63
abbrev my:FuncId:=35
abbrev je:FuncId:=66
abbrev gt:FuncId:=30
abbrev lb:FuncId:=67
abbrev eA:FuncId:=32
abbrev eG:FuncId:=69
abbrev eS:FuncId:=33
abbrev fV:FuncId:=71
abbrev fb:FuncId:=34
abbrev nW:FuncId:=7
@[reducible] def qa(a:Nat)(b:Option (Nat × Bool))(c:AI):CO:=⟨some a,b,c⟩
@[reducible] def qb(a:Nat)(b:AI):CO:=qa a none b
@[reducible] def qd(a:Nat)(b:AOp):CO:=qb a (.mov b)
@[reducible] def qe(a:List CO)(b:AK):AK:= .seq (.reg a) b
@[reducible] def qf(a:IntKind)(b:Int):AV:= .p (.int a b)
@[reducible] def qg(a b:Nat):CO:=qd a (.t b)
@[reducible] def qh(a:Int):AV:=qf .i64 a
@[reducible] def qi(a b:Nat):AI:= .fldA a (.t b)
@[reducible] def qj(a:Int):AOp:= .c (qh a)
@[reducible] def qk(a:Option Nat)(b:Nat):AI:= .ld a (.t b)
@[reducible] def ql(a:BinOp)(b:Nat)(c:AOp):AI:= .bin a (.t b) c
@[reducible] def qm(a:Nat)(b:Nat × Bool)(c:AI):CO:=qa a (some b) c
@[reducible] def qn(a:Nat)(b:Option Nat)(c:Nat):CO:=qb a (qk b c)
@[reducible] def qo(a:Nat)(b c:AK):AK:= .cond (.t a) b c
@[reducible] def qp(a:Nat)(b:FuncId)(c:List AOp):CO:=qb a (.call b c)
@[reducible] def qq(a b c:Nat):CO:=qb a (qi b c)
@[reducible] def qr(a:Bool):AV:= .p (.bool a)
@[reducible] def qt(a:Nat)(b:BinOp)(c:Nat)(d:AOp):CO:=qb a (ql b c d)
@[reducible] def qu(a b:Nat):CO:=qn a none b
@[reducible] def qv(a:List UInt8):AV:= .p (.str a)
@[reducible] def qw(a:Nat):AI:= .nilck (.t a)
@[reducible] def qx(a:Nat)(b:BinOp)(c:Nat)(d:Int):CO:=qt a b c (qj d)
@[reducible] def qy(a:Option (Nat × Bool))(b:AI):CO:=⟨none,a,b⟩
@[reducible] def qz:AV:=qr false
@[reducible] def qA(a:List CO):AK:=qe a .ret
@[reducible] def qB(a:List CO)(b:Nat)(c d:AK):AK:=qe a (qo b c d)
@[reducible] def qC:AV:=qh 0
@[reducible] def qD(a:AI):CO:=qy none a
@[reducible] def qF:AV:=qv []
@[reducible] def qG(a:AOp):AI:= .len false a
@[reducible] def qH(a:Nat)(b c:AOp):CO:=qD (.st a b c)
@[reducible] def qI(a:List CO)(b c:AK):AK:=qe a (.seq b c)
@[reducible] def qJ(a b c:Nat):CO:=qn a (some b) c
@[reducible] def qK(a b:Nat)(c:Bool)(d:AI):CO:=qm a (b,c) d
@[reducible] def qL(a b:Nat)(c:AI):CO:=qK a b true c
@[reducible] def qM(a b:Nat)(c:AI):CO:=qK a b false c
@[reducible] def qN(a:Nat)(b:Int):CO:=qd a (qj b)
@[reducible] def qO(a:List CO)(b:Nat)(c:AK):AK:=qB a b c .skip
@[reducible] def qQ(a:Nat)(b:AV):CO:=qd a (.c b)
@[reducible] def qS(a:Nat)(b c:AOp):AI:= .pick (.t a) b c
@[reducible] def qT(a b:Nat)(c:AOp):AI:= .idxS a (.t b) c
@[reducible] def qU(a b:Nat):CO:=qb a (qw b)
@[reducible] def qV(a b:Nat)(c:AOp):CO:=qH a (.t b) c
@[reducible] def qW(a b c:Nat):CO:=qV a b (.t c)
@[reducible] def qX(a b:Nat)(c:List AV)(d:Nat)(e:List (Nat × Nat × AOp)):CO:=qb a (.bsl b c d e)
@[reducible] def qY(a:Nat)(b:AK):AK:= .blk a (.loop b)
@[reducible] def qZ(a:Nat):CO:=qg a 0
@[reducible] def wa(a:Nat)(b:List AV):CO:=qb a (.alloc b)
@[reducible] def wb(a:Nat):AI:=qG (.t a)
@[reducible] def wc(a:AK)(b:List CO):AK:= .seq a (.reg b)
@[reducible] def wd(a b:Nat)(c:Int):CO:=qx a .eql b c
@[reducible] def we:AV:=qr true
@[reducible] def wg(a:List CO)(b:Nat)(c:List CO):AK:=qO a b (qA c)
@[reducible] def wh(a b:Nat):CO:=qb a (wb b)
@[reducible] def wj(a:Nat)(b:BinOp)(c d:Nat):CO:=qt a b c (.t d)
@[reducible] def wl(a:Nat):AI:= .mov (.t a)
@[reducible] def wm(a:Nat):AI:= .not (.t a)
@[reducible] def wn(a:Option Nat)(b c:Nat):CO:=qD (.chk a b c)
@[reducible] def wo(a b c:Nat)(d:AOp):CO:=qb a (qT b c d)
@[reducible] def wq(a:Nat):AI:=qk none a
@[reducible] def ws(a b:Nat)(c d:AOp):CO:=qb a (qS b c d)
@[reducible] def wt(a b:Nat):AI:= .box a (.t b)
@[reducible] def wu(a:Nat)(b:List AV)(c:List (Nat × Nat × AOp)):CO:=qb a (.bld b c)
@[reducible] def ww(a:Nat)(b:AK)(c:List CO):AK:=wc (.blk a b) c
@[reducible] def wx(a b c d:Nat):CO:=wo a b c (.t d)
@[reducible] def wy:AK:= .exit 0
@[reducible] def wz(a:Nat)(b:List AOp):CO:=qp a bf b
@[reducible] def wA(a b:Nat):AI:= .ext a (.t b)
@[reducible] def wB(a b:Nat)(c:Int):CO:=qx a .add b c
@[reducible] def wD(a:Nat):CO:=qQ a qz
@[reducible] def wE(a b c:Nat):Nat × Nat × AOp:=(a,b,.t c)
@[reducible] def wF(a b c:Nat)(d:AOp):AI:= .app a b (.t c) d
@[reducible] def wG(a b c:Nat):CO:=qb a (wt b c)
@[reducible] def wH(a:List CO)(b:Nat)(c:AK):AK:=qB a b .skip c
@[reducible] def wI(a:List CO)(b:Nat)(c d:AK):AK:= .seq (wH a b c) d
@[reducible] def wJ:AOp:= .c qz
@[reducible] def wK(a:Nat)(b:AOp):List AOp:=[.t a,b]
@[reducible] def wL(a:Nat)(b:FuncId)(c:Nat)(d:AOp):CO:=qp a b (wK c d)
@[reducible] def wM(a:Nat)(b:FuncId)(c d:Nat):CO:=wL a b c (.t d)
@[reducible] def wN(a:List CO)(b:Nat)(c:AK):AK:=qe a (qY b c)
@[reducible] def wP(a:List UInt8):AOp:= .c (qv a)
@[reducible] def wQ(a b c:Nat):CO:=qL a b (wq c)
@[reducible] def wR(a:Nat):CO:=qN a 0
@[reducible] def wS(a:CO)(b c:Nat):List CO:=[a,qg b c]
@[reducible] def wT(a b:Nat)(c:Int)(d e:Nat):List CO:=wS (wd a b c) d e
@[reducible] def wU(a b:Nat):CO:=qq a 0 b
@[reducible] def wV(a b c d:Nat):CO:=qL a b (qi c d)
@[reducible] def wW:AOp:= .c we
@[reducible] def wX(a b:Nat):CO:=wn none a b
@[reducible] def wY(a:List CO)(b:AK)(c:List CO):AK:=qI a b (qA c)
@[reducible] def wZ(a b c:Nat):CO:=wj a .lss b c
@[reducible] def xa(a:BinOp)(b:Nat)(c:Int):AI:=ql a b (qj c)
@[reducible] def xb(a b:List CO):AK:=qe a (qA b)
@[reducible] def xc(a b c:Nat):CO:=qb a (wA b c)
@[reducible] def xd(a b c d:Nat):AI:=wF a b c (.t d)
@[reducible] def xe(a:Nat):CO:=qg a 1
@[reducible] def xf(a b:Nat)(c:AOp)(d:Nat):CO:=ws a b c (.t d)
@[reducible] def xg(a b c d e:Nat):CO:=qb a (xd b c d e)
@[reducible] def xh(a b c:Nat)(d:AOp):CO:=ws a b (.t c) d
@[reducible] def xi:CO:=wD 4
@[reducible] def xj(a b c:Nat):CO:=wM a cC b c
@[reducible] def xk(a b:Nat)(c:Int):Nat × Nat × AOp:=(a,b,qj c)
@[reducible] def xm(a:Nat)(b:Int):Nat × Nat × AOp:=xk a 1 b
@[reducible] def xn(a b:Nat):Nat × Nat × AOp:=wE a 1 b
@[reducible] def xo(a b:Nat):CO:=qb a (wm b)
@[reducible] def xp(a:Nat):List AOp:=[.t a]
@[reducible] def xq(a:Nat)(b:FuncId)(c:Nat):CO:=qp a b (xp c)
@[reducible] def xr(a b:Nat)(c:Int)(d e f:Nat)(g h:AK):AK:=qB (wT a b c d e) f g h
@[reducible] def xt(a:List CO)(b:Nat)(c:List CO):AK:=qO a b (.reg c)
@[reducible] def xu(a b:Nat):CO:=qq a 2 b
@[reducible] def xv(a:Nat):List RV:=[.t a]
@[reducible] def xw(a:Nat):CO:=qg a 5
@[reducible] def xx(a b c:Nat):CO:=qM a b (wl c)
@[reducible] def xy(a:Nat):CO:=qg a 2
@[reducible] def xz(a b:Nat):CO:=qW 1 a b
@[reducible] def xA(a b c:Nat):CO:=qM a b (wq c)
@[reducible] def xB(a:Nat)(b:AK):AK:=qo a .skip b
@[reducible] def xC(a:List CO)(b:Nat)(c:AK)(d:Nat)(e:AK)(f:List CO):AK:=wI a b c (ww d e f)
@[reducible] def xD(a:Nat)(b:List AOp):CO:=qp a bL b
@[reducible] def xE:List RV:=xv 4
@[reducible] def xF:List RV:=xv 2
@[reducible] def xG(a b c d:Nat):CO:=qM a b (qi c d)
@[reducible] def xH(a b:Nat)(c:Int):CO:=qx a .sub b c
@[reducible] def xI(a b c:Nat):CO:=wM a cS b c
@[reducible] def xJ(a b:List CO)(c:AK):AK:=qe a (qe b c)
@[reducible] def xK(a b:Nat)(c:BinOp)(d:Nat)(e:Int):CO:=qL a b (xa c d e)
@[reducible] def xL(a b:Nat):CO:=qq a 1 b
@[reducible] def xM(a b c:Nat):CO:=qL a b (wl c)
@[reducible] def xN(a:Nat)(b c:AOp):List AOp:=[.t a,b,c]
@[reducible] def xO(a b:Nat)(c:AOp):List AOp:=xN a (.t b) c
@[reducible] def xP(a b c:Nat):List AOp:=xO a b (.t c)
@[reducible] def xQ(a:Nat)(b:FuncId)(c d e:Nat):CO:=qp a b (xP c d e)
@[reducible] def xR(a:AK)(b:List CO):AK:= .seq a (qA b)
@[reducible] def xS(a:List CO)(b:Nat)(c:List CO)(d:Nat)(e:AK)(f:Nat)(g:AK)(h:List CO):AK:=wN a b (xC c d e f g h)
@[reducible] def xT(a b c:Nat):CO:=xf a b wW c
@[reducible] def xU(a b:Nat):CO:=qq a 3 b
@[reducible] def xV(a b:Nat)(c:List AV)(d:Nat)(e:List (Nat × Nat × AOp)):CO:=qb a (.bslP b c d e)
@[reducible] def xW(a:Nat)(b:FuncId)(c:Nat)(d:Int):CO:=wL a b c (qj d)
@[reducible] def xX(a b:Nat):RV:= .c a (some b)
@[reducible] def xY(a b c:Nat):CO:=xh a b c wJ
@[reducible] def xZ:CO:=wR 4
@[reducible] def x7(a b:Nat):CO:=wB a b 1
@[reducible] def x8(a:FuncId)(b:Nat)(c:AOp):AI:= .call a (wK b c)
@[reducible] def x9(a:Nat):CO:=qg 6 a
@[reducible] def ya(a:List AOp):AI:= .call jx a
@[reducible] def yb(a b:Nat)(c:Int):CO:=xW a ir b c
@[reducible] def yc(a b:List CO):AK:=qe a (.reg b)
@[reducible] def yd:List AV:=[.nils]
@[reducible] def ye(a:Nat):CO:=qg a 8
@[reducible] def yf(a b:Nat):CO:=qJ a 4 b
@[reducible] def yg:CO:=wD 2
@[reducible] def yh(a b:Nat)(c:Int):CO:=xW a cg b c
@[reducible] def yi(a b:List CO)(c:Nat)(d:List CO)(e:AK):AK:=qI a (wg b c d) e
@[reducible] def yj(a:Nat):CO:=qg a 7
@[reducible] def yk(a:List CO)(b:AK):AK:= .cut (.reg a) b
@[reducible] def yl(a:BinOp)(b:Nat)(c:AOp):AI:= .bins a (.t b) c
@[reducible] def ym:AOp:=qj 0
@[reducible] def yn(a b:Nat):Nat × Nat × AOp:=wE 0 a b
@[reducible] def yp(a:List CO)(b:Nat)(c d:AK):AK:=qI a (xB b c) d
@[reducible] def yq(a:Int):Nat × Nat × AOp:=xm 0 a
@[reducible] def yr(a b c d:Nat):List CO:=wS (x7 a b) c d
@[reducible] def yt(a b c d:Nat):CO:=xQ a bg b c d
def oo:FK:=⟨15,xv 6,xb [wD 6] [qZ 7,xe 8,wj 9 .geq 7 8,qg 10 9,xM 11 10 0,xM 12 10 2,qL 13 10 (ql .leq 11 (.t 12)),xY 14 10 13,x9 14]⟩
theorem Ej:ag Tryz.prog jx=some oo:=by kernel_rfl
def pn:FK:=⟨18,xE,wY [xZ] (xS [wR 5] 0 [xw 6,qZ 7,qb 8 (.len true (.t 7)),wZ 9 6 8] 9 wy 1 (wg [qZ 12,xw 13,qb 14 (.idxStr (.t 12) (.t 13)),xe 15,wj 16 .eql 14 15] 16 (wS (xw 17) 4 17)) [xw 10,x7 11 10,qg 5 11]) [qN 4 (-1)]⟩
theorem AT:ag Tryz.prog lA=some pn:=by kernel_rfl
def oO:FK:=⟨28,xF,wY [wR 2] (.blk 0 (qB [qZ 4,qt 5 .geq 4 (.c (qf .u8 97)),xw 6,xM 7 6 0,qL 8 6 (ql .leq 7 (.c (qf .u8 122))),xY 9 6 8,qg 3 9] 3 (qA [qN 2 1]) (qB [qZ 11,qt 12 .geq 11 (.c (qf .u8 48)),qg 13 12,xM 14 13 0,qL 15 13 (ql .leq 14 (.c (qf .u8 57))),xY 16 13 15,qg 10 16] 10 (qA [qN 2 2]) (qB [qZ 18,qp 19 lA [wP [40,41,123,125,59,44,43,45,42,47,37,60,61,38,33,64],.t 18],qx 20 .geq 19 0,qg 17 20] 17 (qA [qN 2 3]) (wg [qZ 22,qt 23 .eql 22 (.c (qf .u8 32)),qg 24 23,xx 25 24 0,qM 26 24 (ql .eql 25 (.c (qf .u8 10))),xT 27 24 26,qg 21 27] 21 [qN 2 4]))))) [wR 2]⟩
theorem zK:ag Tryz.prog kZ=some oO:=by kernel_rfl
def tt:FK:=⟨21,xE,wY [xi] (xS [wR 5] 0 [xw 6,qZ 7,qb 8 (.len true (.t 7)),wZ 9 6 8] 9 wy 1 (wg [qZ 12,xw 13,qb 14 (.idxStr (.t 12) (.t 13)),xq 15 kZ 14,xe 16,wj 17 .neq 15 16] 17 [xi]) [xw 10,x7 11 10,qg 5 11]) [qZ 18,qb 19 (.len true (.t 18)),qx 20 .gtr 19 0,qg 4 20]⟩
theorem Di:ag Tryz.prog nq=some tt:=by kernel_rfl
def nV:FK:=⟨2,xv 0,xb [qQ 0 .nils] (wS (qX 1 1 [qF] 9 [(0,1,wP [102,110]),(1,1,wP [108,101,116]),(2,1,wP [115,97,121]),(3,1,wP [112,117,116]),(4,1,wP [105,102]),(5,1,wP [101,108,115,101]),(6,1,wP [108,111,111,112]),(7,1,wP [98,97,99,107]),(8,1,wP [100,111])]) 0 1)⟩
theorem vY:ag Tryz.prog fW=some nV:=by kernel_rfl
def tC:FK:=⟨18,xF,qe [yg] (wY (wS (qp 5 fW []) 3 5) (xS [xZ] 0 [x9 4,qg 7 3,wh 8 7,wZ 9 6 8] 9 wy 1 (wg [qg 12 3,qg 13 4,wx 14 1 12 13,qu 15 14,qZ 16,qb 17 (yl .eql 15 (.t 16))] 17 [qQ 2 we]) [qg 10 4,x7 11 10,qg 4 11]) [yg])⟩
theorem Dx:ag Tryz.prog nu=some tC:=by kernel_rfl
def rJ:FK:=⟨15,xF,xb [yg] [qZ 3,xW 4 nq 3 1,qg 5 4,xM 6 5 0,qL 7 5 (.len true (.t 6)),xK 8 5 .leq 7 4,xY 9 5 8,qg 10 9,xM 11 10 0,qL 12 10 (.call nu (xp 11)),qL 13 10 (wm 12),xY 14 10 13,qg 2 14]⟩
theorem Bg:ag Tryz.prog cx=some rJ:=by kernel_rfl
def mJ:FK:=⟨5,xF,wY [wR 2] (wg [qZ 3,wd 4 3 4] 4 [qN 2 2]) [qN 2 1]⟩
theorem Bv:ag Tryz.prog iV=some mJ:=by kernel_rfl
def dc:FK:=⟨13,[.t 2,.t 3],wY [wR 2,wR 3] (qe [qZ 4] (.blk 0 (wI (wT 6 4 1 5 6) 5 (.reg (wT 7 4 2 5 7)) (qo 5 (qA [wR 2,wR 3]) (wI (wT 9 4 11 8 9) 8 (.reg (wT 10 4 12 8 10)) (qo 8 (qA [qN 2 1,qN 3 1]) (wg (wT 12 4 13 11 12) 11 [wR 2,qN 3 3]))))))) [qN 2 2,qN 3 2]⟩
theorem Bq:ag Tryz.prog iY=some dc:=by kernel_rfl
def iW:FK:=⟨86,xE,qe [wG 2 4 0,xi] (yi [wU 10 2,qu 11 10,xq 12 iY 11,qg 9 12,xc 13 0 9,xc 14 1 9,qg 5 13,x9 14] [xe 15,qx 16 .lss 15 1,qg 17 16,xG 18 17 0 2,xA 19 17 18,qM 20 17 (ya (xN 19 (qj 1) (qj 13))),qM 21 17 (wm 20),xT 22 17 21,qg 23 22,xG 24 23 3 2,xA 25 23 24,qM 26 23 (wb 25),xx 27 23 5,xx 28 23 6,qM 29 23 (ya (xP 26 27 28)),qM 30 23 (wm 29),xT 31 23 30] 31 [xi] (yi [wU 32 2,qu 33 32,wd 34 33 2,qg 35 34,xG 36 35 0 2,xA 37 35 36,qM 38 35 (xa .eql 37 13),xT 39 35 38,qg 7 39] [yj 40,xu 41 2,qu 42 41,xq 43 cx 42,qb 44 (.beq true (.t 40) (.t 43)),qg 45 44,xx 46 45 7,qM 47 45 (wm 46),xx 48 45 47,wV 49 48 2 2,wQ 50 48 49,qL 51 48 (yl .neq 50 (.c qF)),qM 52 45 (qS 48 (.t 51) wJ),xT 53 45 52,qg 54 53,xG 55 54 1 2,xA 56 54 55,qM 57 54 (ya (xN 56 ym (qj 255))),qM 58 54 (wm 57),xT 59 54 58,qg 60 59,xG 61 60 0 2,xA 62 60 61,qM 63 60 (xa .neq 62 1),xx 64 60 63,wV 65 64 1 2,wQ 66 64 65,xK 67 64 .neq 66 0,qM 68 60 (qS 64 (.t 67) wJ),xT 69 60 68] 69 [xi] (xR (xS [wR 8] 0 [ye 70,xU 71 2,qu 72 71,wh 73 72,wZ 74 70 73] 74 wy 1 (wg [xU 77 2,qu 78 77,ye 79,wx 80 4 78 79,yf 81 80,xe 82,xH 83 82 1,wM 84 fQ 81 83,xo 85 84] 85 [xi]) [ye 75,x7 76 75,qg 8 76]) [qQ 4 we])))⟩
theorem rZ:ag Tryz.prog fQ=some iW:=by kernel_rfl
def pr:FK:=⟨21,xF,qe [wG 1 4 0,wR 2] (wY [qN 3 1] (xS [xZ] 0 [qg 5 4,xU 6 1,qu 7 6,wh 8 7,wZ 9 5 8] 9 wy 1 (.reg [qg 12 3,xU 13 1,qu 14 13,qg 15 4,wx 16 4 14 15,yf 17 16,xq 18 gL 17,wj 19 .add 12 18,qg 3 19]) [qg 10 4,x7 11 10,qg 4 11]) (wS (qg 20 3) 2 20))⟩
theorem Aj:ag Tryz.prog gL=some pr:=by kernel_rfl
def mR:FK:=⟨10,xF,xb [wG 1 4 0,yg] [yf 3 1,xW 4 fQ 3 6,qg 5 4,qL 6 5 (qk (some 4) 1),qL 7 5 (.call gL (xp 6)),xK 8 5 .leq 7 30,xY 9 5 8,qg 2 9]⟩
theorem uK:ag Tryz.prog eO=some mR:=by kernel_rfl
def jg:FK:=⟨108,xE,yi [wG 2 5 0,xi] [xe 7,qx 8 .lss 7 1,ye 9,xG 10 9 0 2,xA 11 9 10,qM 12 9 (ya (xN 11 (qj 1) (qj 8))),qM 13 9 (wm 12),xT 14 9 13,qg 15 14,xG 16 15 2 2,xG 19 15 0 2,xA 17 15 16,qM 18 15 (wb 17),xA 20 15 19,qM 21 15 (.qcall iV (xp 20)),qM 22 15 (ql .neq 18 (.t 21)),xT 23 15 22] 23 [xi] (yi [wU 24 2,qu 25 24,wd 26 25 1,qg 27 26,xG 28 27 0 2,xA 29 27 28,qM 30 27 (xa .eql 29 2),xT 31 27 30,qg 5 31] [xw 32,xL 33 2,qu 34 33,xq 35 cx 34,qb 36 (.beq true (.t 32) (.t 35)),qg 37 36,xx 38 37 5,qM 39 37 (wm 38),xx 40 37 39,wV 41 40 1 2,wQ 42 40 41,qL 43 40 (yl .neq 42 (.c qF)),qM 44 37 (qS 40 (.t 43) wJ),xT 45 37 44] 45 [xi] (.seq (xS [wR 6] 0 [qg 46 6,xu 47 2,qu 48 47,wh 49 48,wZ 50 46 49] 50 wy 1 (wg [xu 53 2,qu 54 53,qg 55 6,wx 56 4 54 55,yf 57 56,xq 58 eO 57,xo 59 58] 59 [xi]) [qg 51 6,x7 52 51,x9 52]) (.seq (wg [wU 60 2,qu 61 60,wd 62 61 8,qg 63 62,wV 64 63 2 2,wQ 65 63 64,qL 66 63 (qT 4 65 ym),wV 67 63 0 66,wQ 68 63 67,xK 69 63 .neq 68 13,xY 70 63 69] 70 [xi]) (xR (wg [qq 71 4 2,qu 72 71,wh 73 72,qx 74 .gtr 73 0,qg 75 74,wV 76 75 0 2,wQ 77 75 76,xK 78 75 .neq 77 5,xY 79 75 78,qg 80 79,xG 81 80 3 2,xA 82 80 81,qM 83 80 (wb 82),qM 84 80 (xa .gtr 83 0),xx 85 80 84,wV 86 85 0 2,wQ 87 85 86,xK 88 85 .neq 87 5,qM 89 80 (qS 85 (.t 88) wJ),xx 90 80 89,wV 91 90 0 2,wQ 92 90 91,xK 93 90 .neq 92 6,qM 94 80 (qS 90 (.t 93) wJ),xT 95 80 94] 95 [xi]) [xU 96 2,qu 97 96,xe 98,xH 99 98 1,wM 100 bY 97 99,qg 101 100,wV 102 101 4 2,wQ 103 101 102,xM 104 101 1,xK 105 101 .sub 104 1,qL 106 101 (x8 bY 103 (.t 105)),xY 107 101 106,qg 4 107]))))⟩
theorem sa:ag Tryz.prog jf=some jg:=by kernel_rfl
def oF:FK:=⟨19,xE,wY [xi] (xS [wR 5] 0 [xw 6,qZ 7,wh 8 7,wZ 9 6 8] 9 wy 1 (wg [qZ 12,xw 13,wx 14 5 12 13,qJ 15 5 14,xe 16,wM 17 jf 15 16,xo 18 17] 18 [xi]) [xw 10,x7 11 10,qg 5 11]) [qQ 4 we]⟩
theorem Ag:ag Tryz.prog bY=some oF:=by kernel_rfl
def vF:FK:=⟨32,xF,wY [wG 1 3 0,yg] (xS [wR 3] 0 [qg 4 3,xL 5 1,qu 6 5,wh 7 6,wZ 8 4 7] 8 wy 1 (wg [xL 11 1,qu 12 11,qg 13 3,wx 14 1 12 13,qu 15 14,xq 16 cx 15,xo 17 16] 17 [yg]) [qg 9 3,x7 10 9,qg 3 10]) [wU 18 1,qu 19 18,xq 20 cx 19,qg 21 20,wV 22 21 1 1,wQ 23 21 22,qL 24 21 (wb 23),xK 25 21 .leq 24 3,xY 26 21 25,qg 27 26,wV 28 27 2 1,wQ 29 27 28,qL 30 27 (x8 bY 29 (qj 4)),xY 31 27 30,qg 2 31]⟩
theorem Fq:ag Tryz.prog oU=some vF:=by kernel_rfl
def lq:FK:=⟨29,xF,qe [wR 2] (wY [qZ 5,wh 6 5,qg 3 6] (xS [xZ] 0 [qg 7 4,qZ 8,wh 9 8,wZ 10 7 9] 10 wy 1 (.reg [qg 13 3,qZ 14,qg 15 4,wx 16 5 14 15,xU 17 16,qZ 21,qg 22 4,wx 23 5 21 22,qq 24 4 23,qu 18 17,qu 25 24,xq 19 eI 18,wX 24 25,wj 20 .add 13 19,xq 26 eI 25,wj 27 .add 20 26,qg 3 27]) [qg 11 4,x7 12 11,qg 4 12]) (wS (qg 28 3) 2 28))⟩
theorem oL:ag Tryz.prog eI=some lq:=by kernel_rfl
def uj:FK:=⟨22,xF,qe [wG 1 1 0,wR 2] (wY [wR 3] (xS [xZ] 0 [qg 5 4,wU 6 1,qu 7 6,wh 8 7,wZ 9 5 8] 9 wy 1 (.reg [qg 12 3,wU 13 1,qu 14 13,qg 15 4,wx 16 3 14 15,xu 17 16,qu 18 17,xq 19 eI 18,wj 20 .add 12 19,qg 3 20]) [qg 10 4,x7 11 10,qg 4 11]) (wS (qg 21 3) 2 21))⟩
theorem Dn:ag Tryz.prog nK=some uj:=by kernel_rfl
def ki:FK:=⟨26,xF,yi [wG 1 1 0,yg] [wU 4 1,qu 5 4,wh 6 5,qp 7 jx (xN 6 (qj 1) (qj 4)),xo 8 7] 8 [yg] (xR (xS [wR 3] 0 [qg 9 3,wU 10 1,qu 11 10,wh 12 11,wZ 13 9 12] 13 wy 1 (wg [wU 16 1,qu 17 16,qg 18 3,wx 19 3 17 18,qJ 20 3 19,xq 21 oU 20,xo 22 21] 22 [yg]) [qg 14 3,x7 15 14,qg 3 15]) [qJ 23 1 1,xq 24 nK 23,qx 25 .leq 24 40,qg 2 25])⟩
theorem rk:ag Tryz.prog dp=some ki:=by kernel_rfl
def vJ:FK:=⟨22,xE,wY [wG 2 1 0,xZ] (xS [wR 5] 0 [xw 6,wU 7 2,qu 8 7,wh 9 8,wZ 10 6 9] 10 wy 1 (wg [wU 13 2,qu 14 13,xw 15,wx 16 3 14 15,wU 17 16,qu 18 17,xe 19,qb 20 (yl .eql 18 (.t 19))] 20 (wS (xw 21) 4 21)) [xw 11,x7 12 11,qg 5 12]) [qN 4 (-1)]⟩
theorem Eu:ag Tryz.prog js=some vJ:=by kernel_rfl
def gf:FK:=⟨13,[],xt [qZ 4,qU 5 4,qq 6 4 5,qu 7 6,wd 8 7 0] 8 [qZ 9,xe 10,qU 11 9,qq 12 4 11,xz 12 10]⟩
theorem sH:ag Tryz.prog bu=some gf:=by kernel_rfl
def gr:FK:=⟨27,xE,wY [xZ] (xS [qZ 6,qU 7 6,xu 8 7,qu 9 8,wh 10 9,xH 11 10 1,qg 5 11] 0 [xw 12,qx 13 .geq 12 0] 13 wy 1 (wg [qZ 16,qU 17 16,xu 18 17,qu 19 18,xw 20,wx 21 3 19 20,wU 22 21,qu 23 22,xe 24,qb 25 (yl .eql 23 (.t 24))] 25 (wS (xw 26) 4 26)) [xw 14,xH 15 14 1,qg 5 15]) [qN 4 (-1)]⟩
theorem sD:ag Tryz.prog dG=some gr:=by kernel_rfl
def rv:FK:=⟨11,xF,qe [qQ 2 qF] (xb [qZ 4,qx 5 .rem 4 26,xw 3] [x9 3,qg 7 3,x7 8 7,qb 9 (.slStr (wP [97,98,99,100,101,102,103,104,105,106,107,108,109,110,111,112,113,114,115,116,117,118,119,120,121,122]) (some (.t 6)) (some (.t 8))),qb 10 (.bins .add (wP [118]) (.t 9)),qg 2 10])⟩
theorem Br:ag Tryz.prog iZ=some rv:=by kernel_rfl
def gD:AK:=xJ [qQ 6 qF] [qZ 8,xe 9,wM 10 dG 8 9,qg 7 10] (.cut (xt [yj 11,qx 12 .geq 11 0,qg 13 12,xM 14 13 0,qL 15 13 (qw 14),wV 16 13 2 15,wQ 17 13 16,xM 18 13 7,qL 19 13 (qT 3 17 (.t 18)),wV 20 13 2 19,wQ 21 13 20,xM 22 13 2,qL 23 13 (ql .eql 21 (.t 22)),xY 24 13 23] 24 [qZ 25,xW 26 bu 25 2]) (qe [qZ 27,qZ 28,qU 29 28,xu 30 29,xe 32,qZ 33,qU 34 33,xU 35 34,xy 37,qu 31 30,qu 36 35,wu 38 [qF,qC,qC] [xn 0 32,xn 1 36,xn 2 37],xV 39 3 [qF,qC,qC] 1 [yn 3 38],xg 40 3 32 31 39,qU 41 27,xu 42 41,xz 42 40] (xb [qZ 43,qZ 44,qU 45 44,xU 46 45,qu 47 46,x7 48 47,qU 49 43,xU 50 49,xz 50 48] [qZ 51,qU 52 51,xU 53 52,qu 54 53,xH 55 54 1,xq 56 iZ 55,x9 56])))
def gR:FK:=⟨57,xv 6,(AK.whole gD)⟩
theorem sX:ag Tryz.prog ep=some gR:=by kernel_rfl
def lK:FK:=⟨23,xE,qe [qQ 4 qF] (wY [qZ 6,xe 7,wM 8 dG 6 7,ye 5] (qO [xw 9,qx 10 .lss 9 0] 10 (xb [qZ 11,xW 12 bu 11 3] (wS (xe 13) 4 13))) [qZ 14,qU 15 14,xu 16 15,qu 17 16,xw 18,wx 19 3 17 18,xL 20 19,qu 21 20,xq 22 iZ 21,qg 4 22])⟩
theorem tT:ag Tryz.prog ec=some lK:=by kernel_rfl
def gl:AK:=qe [wG 3 4 1,wa 4 [qC,qC,qF,.nils]] (.cut (xt [wU 8 3,qu 9 8,wd 10 9 2] 10 [qZ 11,xu 12 3,qu 13 12,wM 14 ec 11 13,xu 15 3,xz 15 14]) (.cut (qO [wU 16 3,qu 17 16,wd 18 17 13] 18 (qe [qZ 19,qU 20 19,wU 21 20,xu 23 3,qJ 22 1 21,qu 24 23,wM 25 js 22 24,qg 5 25] (qB [xw 26,qx 27 .lss 26 0,qg 28 27,xx 29 28 5,xx 30 28 0,qM 31 28 (qw 30),xG 32 28 1 31,xA 33 28 32,qM 34 28 (ql .geq 29 (.t 33)),xT 35 28 34] 35 (.reg [qZ 36,xW 37 bu 36 4]) (xt [qZ 38,qU 39 38,wU 40 39,wU 41 40,xw 43,xU 48 3,qu 42 41,wx 44 3 42 43,xL 45 44,qu 46 45,wh 47 46,qu 49 48,wh 50 49,wj 51 .neq 47 50] 51 [qZ 52,xW 53 bu 52 5])))) (qI (wS (qX 54 4 [qC,qC,qF,.nils] 0 []) 6 54) (xS [wR 7] 0 [yj 55,xU 56 3,qu 57 56,wh 58 57,wZ 59 55 58] 59 wy 1 (.reg [qg 62 6,qZ 63,xU 64 3,qu 65 64,yj 66,wx 67 4 65 66,yf 68 67,wM 69 cF 63 68,qX 70 4 [qC,qC,qF,.nils] 1 [yn 4 69],xg 71 4 56 62 70,x9 71]) [yj 60,x7 61 60,qg 7 61]) (xb [qg 72 6,xU 73 3,xz 73 72] [yf 74 3,qW 4 4 74]))))
def gn:FK:=⟨75,[xX 4 4],(AK.whole gl)⟩
theorem sj:ag Tryz.prog cF=some gn:=by kernel_rfl
def fz:AK:=xJ [qQ 6 .nils] (wS (qX 13 5 [qC,qF,.nils,.nils,.nils] 0 []) 7 13) (qI [qZ 14,qU 15 14,xu 16 15,qu 17 16,wh 18 17,qg 8 18] (xS [wR 9] 0 [qg 19 9,xe 20,wh 21 20,wZ 22 19 21] 22 wy 1 (qe [xe 25,qg 26 9,wx 27 5 25 26,qJ 28 5 27,wa 10 [qC,qF,.nils,.nils,.nils],qW 5 10 28] (qI (wS (qX 29 4 [qC,qC,qF,.nils] 0 []) 11 29) (xS [wR 12] 2 [qg 30 12,xu 31 10,qu 32 31,wh 33 32,wZ 34 30 33] 34 (.exit 2) 3 (.reg [qg 37 11,qZ 38,xu 39 10,qu 40 39,qg 41 12,wx 42 4 40 41,yf 43 42,wM 44 cF 38 43,qX 45 4 [qC,qC,qF,.nils] 1 [yn 4 44],xg 46 4 56 37 45,qg 11 46]) [qg 35 12,x7 36 35,qg 12 36]) (yk [qg 47 11,xu 48 10,xz 48 47] (.cut (xt [wU 49 10,qu 50 49,wd 51 50 1] 51 [qZ 52,xL 53 10,qu 54 53,xy 55,xQ 56 ep 52 54 55,xL 57 10,xz 57 56]) (.cut (xt [wU 58 10,qu 59 58,wd 60 59 2] 60 [qZ 61,xL 62 10,qu 63 62,wM 64 ec 61 63,xL 65 10,xz 65 64]) (xJ [qZ 66,xU 67 10,qu 68 67,xy 69,x7 70 69,xQ 71 cu 66 68 70,xU 72 10,xz 72 71] [qZ 73,qq 74 4 10,qu 75 74,xy 76,x7 77 76,xQ 78 cu 73 75 77,qq 79 4 10,xz 79 78] (.reg [yj 80,qJ 81 5 10,qX 82 5 [qC,qF,.nils,.nils,.nils] 1 [yn 5 81],xg 83 5 96 80 82,qg 7 83]))))))) [qg 23 9,x7 24 23,qg 9 24]) (.cut (xt [xy 84,qx 85 .gtr 84 0] 85 [qZ 86,qZ 87,qU 88 87,xu 89 88,qu 90 89,ye 91,qb 92 (.slS 3 (.t 90) none (some (.t 91))),qU 93 86,xu 94 93,xz 94 92]) (qA (wS (yj 95) 6 95))))
def fj:FK:=⟨96,xv 6,(AK.whole fz)⟩
theorem ro:ag Tryz.prog cu=some fj:=by kernel_rfl
def px:AK:=xJ [wG 2 1 0,wa 4 [qF,.nils,.nils],wR 5,wR 6] [qJ 11 1 2,xe 12,wu 13 [.nils,qC,.nils,qC,qC] [xn 0 11,xn 1 12],wG 14 5 13,qg 7 14] (yk [wU 15 2,qu 16 15,xe 17,wx 18 3 16 17,qJ 19 3 18,wa 8 [qF,.nils,.nils],qW 3 8 19] (.cut (xt [qJ 20 1 2,wU 21 8,qu 22 21,wM 23 js 20 22,xe 24,wj 25 .neq 23 24] 25 [yj 26,xW 27 bu 26 2]) (qI (wS (qX 28 1 [qF] 0 []) 9 28) (xS [wR 10] 0 [qg 29 10,xL 30 8,qu 31 30,wh 32 31,wZ 33 29 32] 33 wy 1 (.reg [qg 36 9,yj 37,xL 38 8,qu 39 38,qg 40 10,wx 41 1 39 40,qu 42 41,qp 43 ep (xO 37 42 ym),qX 44 1 [qF] 1 [xn 0 43],xg 45 1 16 36 44,qg 9 45]) [qg 34 10,x7 35 34,qg 10 35]) (qe [qg 46 9,xL 47 8,xz 47 46] (xb [yj 48,xu 49 8,qu 50 49,qp 51 cu (xO 48 50 ym),xu 52 8,xz 52 51] [yj 54,qU 55 54,qq 56 4 55,yj 58,qU 59 58,xU 60 59,qJ 53 3 8,qu 57 56,qu 61 60,qW 3 4 53,wX 56 57,wX 60 61,qg 5 57,x9 61])))))
def pg:FK:=⟨62,[xX 4 3,.t 5,.t 6],(AK.whole px)⟩
theorem Ed:ag Tryz.prog mg=some pg:=by kernel_rfl
def jZ:FK:=⟨27,xF,yi [wG 1 1 0,wR 2] [qJ 7 1 1,xq 8 dp 7,xo 9 8] 9 [qN 2 1] (xR (xS [wR 3] 0 [qg 10 3,wU 11 1,qu 12 11,wh 13 12,wZ 14 10 13] 14 wy 1 (qe [qJ 18 1 1,qg 19 3,wM 20 mg 18 19,qg 17 20,xc 21 0 17,xc 22 1 17,xc 23 2 17,wa 4 [qF,.nils,.nils],qW 3 4 21,qg 5 22,x9 23] (wg [xw 24,qx 25 .neq 24 0] 25 (wS (xw 26) 2 26))) [qg 15 3,x7 16 15,qg 3 16]) [wR 2])⟩
theorem rt:ag Tryz.prog fH=some jZ:=by kernel_rfl
def rO:FK:=⟨6,xF,xb [wG 1 1 0,yg] [qJ 3 1 1,xq 4 fH 3,wd 5 4 0,xw 2]⟩
theorem Bj:ag Tryz.prog jd=some rO:=by kernel_rfl
def nZ:FK:=⟨16,xF,wY [yg] (xS [wR 3] 0 [qg 4 3,qZ 5,wh 6 5,wZ 7 4 6] 7 wy 1 (wg [qZ 10,qg 11 3,wx 12 1 10 11,qu 13 12,qp 14 jx (xN 13 ym (qj 255)),xo 15 14] 15 [yg]) [qg 8 3,x7 9 8,qg 3 9]) [qQ 2 we]⟩
theorem vU:ag Tryz.prog jT=some nZ:=by kernel_rfl
def rE:FK:=⟨26,xE,xb [wG 2 1 0,xi] [qJ 5 1 2,xq 6 jd 5,qg 7 6,xM 8 7 1,qL 9 7 (.call jT (xp 8)),xY 10 7 9,qg 11 10,xM 12 11 1,qL 13 11 (wb 12),wV 14 11 0 2,wQ 15 11 14,wV 16 11 0 2,wQ 17 11 16,qL 18 11 (wb 17),xK 19 11 .sub 18 1,qL 20 11 (qT 3 15 (.t 19)),wV 21 11 1 20,wQ 22 11 21,qL 23 11 (wb 22),qL 24 11 (ql .eql 13 (.t 23)),xY 25 11 24,qg 4 25]⟩
theorem Bt:ag Tryz.prog mF=some rE:=by kernel_rfl
def ik:FK:=⟨17,[],qO [qZ 4,qU 5 4,qq 6 6 5,qu 7 6,xo 8 7] 8 (yc [qZ 9,xe 10,qU 11 9,xL 12 11,xL 13 12,xz 13 10] [qZ 14,qU 15 14,qq 16 6 15,qV 1 16 wW])⟩
theorem uo:ag Tryz.prog bZ=some ik:=by kernel_rfl
def gZ:FK:=⟨17,[],wc (wg [qZ 2,qU 3 2,qq 4 5 3,qu 5 4,wd 6 5 0] 6 [qZ 7,xW 8 bZ 7 3]) [qZ 9,qZ 10,qU 11 10,qq 12 5 11,qu 13 12,xH 14 13 1,qU 15 9,qq 16 5 15,xz 16 14]⟩
theorem ui:ag Tryz.prog ef=some gZ:=by kernel_rfl
def tY:FK:=⟨20,xE,wY [xZ] (xS [qZ 6,wh 7 6,xH 8 7 1,ye 5] 0 [xw 9,qx 10 .geq 9 0] 10 wy 1 (wg [qZ 13,xw 14,wx 15 1 13 14,qu 16 15,xe 17,qb 18 (yl .eql 16 (.t 17))] 18 (wS (xw 19) 4 19)) [xw 11,xH 12 11 1,qg 5 12]) [qN 4 (-1)]⟩
theorem DA:ag Tryz.prog kq=some tY:=by kernel_rfl
def lO:FK:=⟨67,xv 6,xJ [wG 4 4 1,wR 6] [qQ 7 .any,qZ 10,qU 11 10,wU 12 11,wU 13 12,qZ 15,qU 16 15,wU 17 16,xu 19 4,qu 14 13,qJ 18 1 17,qu 20 19,wM 21 js 18 20,wX 13 14,wx 22 3 14 21,qJ 23 3 22,wa 7 [qF,.nils,.nils],qW 3 7 23] (qI [qX 24 1 [qF] 0 [],xL 25 7,qu 26 25,xg 27 1 16 24 26,wu 28 [.nils,.nils,qz,qC] [xn 0 27],wG 29 4 28,qg 8 29] (xS [wR 9] 0 [qg 30 9,xU 31 4,qu 32 31,wh 33 32,wZ 34 30 33] 34 wy 1 (.reg [ye 37,ye 38,qU 39 38,xL 40 39,qZ 42,xU 43 4,qg 45 9,xy 48,qu 41 40,qu 44 43,wx 46 4 44 45,yf 47 46,yt 49 42 47 48,wX 40 41,xV 50 1 [qC] 1 [xn 0 49],xg 51 1 8 41 50,qU 52 37,xL 53 52,xz 53 51]) [qg 35 9,x7 36 35,qg 9 36]) (wY [qZ 54,xu 55 7,qu 56 55,ye 57,xQ 58 aK 54 56 57] (wg [qZ 59,qU 60 59,qq 61 6 60,qu 62 61] 62 [wR 6]) [ye 63,qU 64 63,xU 65 64,qu 66 65,x9 66]))⟩
theorem tw:ag Tryz.prog dZ=some lO:=by kernel_rfl
def pf:FK:=⟨4,xF,wY [wR 2] (wg [qZ 3] 3 [qN 2 1]) [wR 2]⟩
theorem zT:ag Tryz.prog dC=some pf:=by kernel_rfl
def tR:FK:=⟨50,[.t 6,.t 7],qI [wR 6,wR 7] (qe [qZ 8] (.blk 0 (xr 10 8 3 9 10 9 (qA [xe 11,xy 12,wj 13 .add 11 12,qx 14 .rem 13 256,x9 14,wR 7]) (xr 16 8 4 15 16 15 (qA [xe 17,xy 18,wj 19 .sub 17 18,wB 20 19 256,qx 21 .rem 20 256,x9 21,wR 7]) (xr 23 8 5 22 23 22 (qA [xe 24,xy 25,wj 26 .mul 24 25,qx 27 .rem 26 256,x9 27,wR 7]) (xr 29 8 8 28 29 28 (qA [xe 30,xy 31,wZ 32 30 31,xq 33 dC 32,x9 33,wR 7]) (wg (wT 35 8 9 34 35) 34 [xe 36,xy 37,wj 38 .eql 36 37,xq 39 dC 38,x9 39,wR 7]))))))) (.seq (wg [xy 40,wd 41 40 0] 41 [wR 6,qN 7 1]) (xR (wg [qZ 42,wd 43 42 6] 43 [xe 44,xy 45,wj 46 .quo 44 45,x9 46,wR 7]) [xe 47,xy 48,wj 49 .rem 47 48,x9 49,wR 7]))⟩
theorem CK:ag Tryz.prog nO=some tR:=by kernel_rfl
def aC:FK:=⟨108,xv 6,yi [wG 4 4 1,wR 6] [qZ 11,qU 12 11,qq 13 6 12,qu 14 13] 14 [wR 6] (.seq (qe [wU 15 4,qu 16 15] (.blk 0 (xr 18 16 1 17 18 17 (qA [xL 19 4,qu 20 19,x9 20]) (xr 22 16 2 21 22 21 (qA [xy 23,qU 24 23,xL 25 24,xy 27,qU 28 27,wU 29 28,xu 31 4,qu 26 25,qu 30 29,qu 32 31,wM 33 kq 30 32,wX 25 26,wx 34 1 26 33,qu 35 34,x9 35]) (wg (wT 37 16 13 36 37) 36 [qZ 38,yf 39 4,xy 40,xQ 41 dZ 38 39 40,x9 41]))))) (qI [qZ 42,xU 43 4,qu 44 43,wo 45 4 44 ym,yf 46 45,xy 47,yt 48 42 46 47,qg 7 48] (qe [wU 49 4,qu 50 49] (.blk 1 (xr 52 50 11 51 52 51 (qA [yj 53,wd 54 53 0,xq 55 dC 54,x9 55]) (xr 57 50 12 56 57 56 (xR (qO [yj 58,qx 59 .geq 58 16] 59 (xb [qZ 60,xW 61 bZ 60 2] [wR 6])) [qZ 62,qU 63 62,xL 64 63,xU 65 64,qu 66 65,yj 67,wx 68 1 66 67,qu 69 68,x9 69]) (qO (wT 71 50 10 70 71) 70 (xR (wg [yj 72,wd 73 72 0] 73 [wR 6]) [qZ 74,xU 75 4,qu 76 75,wo 77 4 76 (qj 1),yf 78 77,xy 79,yt 80 74 78 79,qx 81 .neq 80 0,xq 82 dC 81,x9 82])))))) (yi [qZ 83,xU 84 4,qu 85 84,wo 86 4 85 (qj 1),yf 87 86,xy 88,yt 89 83 87 88,qg 8 89] [qZ 90,qU 91 90,qq 92 6 91,qu 93 92] 93 [wR 6] (wY [wU 95 4,qu 96 95,yj 97,ye 98,xQ 99 nO 96 97 98,qg 94 99,xc 100 0 94,xc 101 1 94,qg 9 100,qg 10 101] (xt [qg 102 10,qx 103 .neq 102 0] 103 [qZ 104,qg 105 10,wM 106 bZ 104 105]) (wS (qg 107 9) 6 107)))))⟩
theorem ip:ag Tryz.prog bg=some aC:=by kernel_rfl
def lI:FK:=⟨41,[],wN [wG 5 5 1] 0 (wI [xy 8,qx 9 .neq 8 0,qg 10 9,xM 11 10 0,qL 12 10 (qw 11),wV 13 10 6 12,wQ 14 10 13,qL 15 10 (wm 14),xY 16 10 15] 16 wy (.blk 1 (qI [qZ 17,xU 18 5,qu 19 18,qg 20 3,xQ 21 aK 17 19 20] (qO [qZ 22,qU 23 22,qq 24 6 23,qu 25 24,qg 26 25,xx 27 26 3,qM 28 26 (qw 27),xG 29 26 2 28,xA 30 26 29,xT 31 26 30] 31 .ret) (yc [qZ 32,xq 33 ef 32] [qZ 34,xu 35 5,qu 36 35,wo 37 4 36 ym,yf 38 37,qg 39 3,yt 40 34 38 39,qg 2 40]))))⟩
theorem td:ag Tryz.prog ig=some lI:=by kernel_rfl
def lG:FK:=⟨127,[],xJ [wG 4 5 1] [qZ 8,xu 9 4,qu 10 9,wo 11 4 10 ym,yf 12 11,xy 13,yt 14 8 12 13,x9 14] (qI [wR 7] (xt [wU 15 4,qu 16 15,wd 17 16 4] 17 [qZ 18,xu 19 4,qu 20 19,wo 21 4 20 (qj 1),yf 22 21,xy 23,yt 24 18 22 23,qg 7 24]) (.seq (qO [qZ 25,qU 26 25,qq 27 6 26,qu 28 27] 28 .ret) (qe [wU 29 4,qu 30 29] (.blk 0 (xr 32 30 1 31 32 31 (yc [xy 33,xy 34,qU 35 34,wU 36 35,xL 38 4,qu 37 36,qu 39 38,xV 40 1 [qF] 1 [xn 0 39],xg 41 1 16 37 40,qU 42 33,wU 43 42,xz 43 41] [xy 44,xy 45,qU 46 45,xL 47 46,qu 48 47,qg 49 6,qX 50 1 [qC] 1 [xn 0 49],xg 51 1 8 48 50,qU 52 44,xL 53 52,xz 53 51]) (xr 55 30 2 54 55 54 (.reg [xy 56,qU 57 56,xL 58 57,xy 60,qU 61 60,wU 62 61,xL 64 4,qg 67 6,qu 59 58,qu 63 62,qu 65 64,wM 66 kq 63 65,wX 58 59,wx 68 1 59 66,xz 68 67]) (xr 70 30 3 69 70 69 (.reg [qZ 71,qZ 72,qU 73 72,xL 74 73,wU 75 74,qu 76 75,qg 77 6,qX 78 1 [qC] 1 [xn 0 77],xg 79 1 8 76 78,qU 80 71,xL 81 80,wU 82 81,xz 82 79]) (xr 84 30 4 83 84 83 (wc (wg [qg 85 6,qx 86 .geq 85 16] 86 [qZ 87,xW 88 bZ 87 2]) [qZ 89,qU 90 89,xL 91 90,xU 92 91,qu 93 92,qg 94 6,yj 95,wx 96 1 93 94,xz 96 95]) (xr 98 30 5 97 98 97 (qB [qg 99 6,qx 100 .neq 99 0] 100 (.reg [qZ 101,xU 102 4,qu 103 102,xy 104,xQ 105 aK 101 103 104]) (.reg [qZ 106,qq 107 4 4,qu 108 107,xy 109,xQ 110 aK 106 108 109])) (xr 112 30 6 111 112 111 (.reg [qZ 113,qJ 114 5 4,qg 115 6,xy 116,qp 117 ig [.t 113,.t 114,.t 115,.t 116]]) (qO (wT 119 30 7 118 119) 118 (yc [xy 120,qU 121 120,xu 122 121,qV 1 122 wW] [xy 123,qg 124 6,qU 125 123,xU 126 125,xz 126 124]))))))))))))⟩
theorem ug:ag Tryz.prog io=some lG:=by kernel_rfl
def gg:FK:=⟨65,[],qI [xy 8,qU 9 8,wU 10 9,qu 11 10,wh 12 11,x9 12] (xS [wR 7] 0 [yj 13,xe 14,wh 15 14,wZ 16 13 15,qg 17 16,xM 18 17 0,qL 19 17 (qw 18),wV 20 17 6 19,wQ 21 17 20,qL 22 17 (wm 21),xY 23 17 22,qg 24 23,xM 25 24 2,qL 26 24 (qw 25),wV 27 24 2 26,wQ 28 24 27,qL 29 24 (wm 28),xY 30 24 29] 30 wy 1 (qe [qZ 33,xq 34 ef 33] (xt [qZ 35,qU 36 35,qq 37 6 36,qu 38 37,xo 39 38] 39 [qZ 40,xe 41,yj 42,wx 43 5 41 42,qJ 44 5 43,xy 45,xQ 46 io 40 44 45])) [yj 31,x7 32 31,qg 7 32]) (yc [xy 47,xy 48,qU 49 48,wU 50 49,qu 51 50,qg 52 6,qb 53 (.slS 1 (.t 51) none (some (.t 52))),qU 54 47,wU 55 54,xz 55 53] [xy 56,xy 57,qU 58 57,xL 59 58,qu 60 59,qg 61 6,qb 62 (.slS 1 (.t 60) none (some (.t 61))),qU 63 56,xL 64 63,xz 64 62])⟩
theorem lh:ag Tryz.prog aK=some gg:=by kernel_rfl
def vI:FK:=⟨61,[xX 6 4,.t 7],qI [wG 3 1 0,wa 6 [.nils,qC,qC,.nils],wR 7] (.ot (.one [] (.one [xy 12] (.one [qJ 11 1 3] (.alt (.one [qX 13 1 [qC] 0 [],wn (some 1) 3 11] (.alt (.one [qb 14 (.mks 1 8 [qC] (qj 16) (qj 16)),wn (some 1) 3 11] (.one [wu 15 [.nils,qC,qC,.nils] [xn 0 13,xn 3 14]] (.one [wu 16 [.nils,.nils,qC,qC,.nils,qC,qz] [xn 0 11,xn 5 12,wE 1 4 15]] (.alt (.one [wG 17 7 16] (.one [qg 8 17] .done)) .tru)))) .tru)) (.alt (.one [qb 14 (.mks 1 8 [qC] (qj 16) (qj 16)),wn (some 1) 3 11] (.alt (.one [qX 13 1 [qC] 0 [],wn (some 1) 3 11] (.one [wu 15 [.nils,qC,qC,.nils] [xn 0 13,xn 3 14]] (.one [wu 16 [.nils,.nils,qC,qC,.nils,qC,qz] [xn 0 11,xn 5 12,wE 1 4 15]] (.alt (.one [wG 17 7 16] (.one [qg 8 17] .done)) .tru)))) .tru)) .tru)))))) (xJ [wU 18 3,qu 19 18,wU 20 3,qu 21 20,wh 22 21,xH 23 22 1,wx 24 3 19 23,qJ 25 3 24,wa 9 [qF,.nils,.nils],qW 3 9 25] [qX 26 1 [qF] 0 [],xL 27 9,qu 28 27,xg 29 1 16 26 28,qX 30 1 [qC] 0 [],xe 31,xg 32 1 8 30 31,wu 33 [.nils,.nils,qz,qC] [xn 0 29,xn 1 32],wG 34 4 33,qg 10 34] (wY [ye 35,xu 36 9,qu 37 36,qg 38 10,xQ 39 aK 35 37 38] (xt [ye 40,qU 41 40,qq 42 6 41,qu 43 42,xo 44 43] 44 [ye 45,qg 46 10,qU 47 46,xU 48 47,qu 49 48,qU 50 45,xL 51 50,xu 52 51,xz 52 49]) [ye 53,qU 54 53,xL 55 54,ye 57,qU 58 57,qq 59 5 58,yf 56 55,qu 60 59,qW 4 6 56,wX 59 60,qg 7 60]))⟩
theorem EA:ag Tryz.prog lY=some vI:=by kernel_rfl
def mo:FK:=⟨15,xv 6,xb [wD 6] [xe 7,qZ 8,wj 9 .leq 7 8,qg 10 9,xM 11 10 0,xM 12 10 2,qL 13 10 (ql .leq 11 (.t 12)),xY 14 10 13,x9 14]⟩
theorem Be:ag Tryz.prog cZ=some mo:=by kernel_rfl
def kb:FK:=⟨21,xv 6,wY [wR 6] (wN [qZ 9,qb 10 (.rngS (.t 9))] 0 (yp [qb 11 (.nxtS (.t 10)),xc 12 0 11] 12 wy (.blk 1 (qe [xc 13 1 11,xc 14 2 11,qg 7 13,qg 8 14] (wg [xe 15,ye 16,qb 17 (.callv (.t 15) (xp 16)),xy 18,qb 19 (.beq false (.t 17) (.t 18))] 19 (wS (yj 20) 6 20)))))) [qN 6 (-1)]⟩
theorem rg:ag Tryz.prog fp=some kb:=by kernel_rfl
def kh:FK:=⟨8,xE,xb [xZ] [qZ 5,xe 6,qp 7 fp (xO 5 6 wW),yj 4]⟩
theorem rm:ag Tryz.prog fk=some kh:=by kernel_rfl
def iG:FK:=⟨19,xE,wY [xZ] (wN [qZ 6,wh 7 6,wR 8] 0 (yp [wZ 9 8 7] 9 wy (ww 1 (qe (wS (ye 10) 5 10) (wg [xe 11,qZ 12,xw 13,wx 14 1 12 13,qu 15 14,qb 16 (yl .eql 11 (.t 15))] 16 (wS (xw 17) 4 17))) (yr 18 8 8 18)))) [qN 4 (-1)]⟩
theorem og:ag Tryz.prog dY=some iG:=by kernel_rfl
def fL:FK:=⟨9,xE,xb [xi] [qZ 5,xe 6,wM 7 dY 5 6,qx 8 .geq 7 0,ye 4]⟩
theorem mv:ag Tryz.prog da=some fL:=by kernel_rfl
def nX:FK:=⟨9,xF,xb [yg] [qZ 3,qt 4 .lss 3 (.c (qf .i32 97)),qg 5 4,xx 6 5 0,qM 7 5 (ql .gtr 6 (.c (qf .i32 122))),xT 8 5 7,ye 2]⟩
theorem yC:ag Tryz.prog cT=some nX:=by kernel_rfl
def rP:FK:=⟨17,xF,xb [yg] [qZ 3,qb 4 (.len true (.t 3)),qp 5 cZ (xN 4 (qj 1) (qj 4)),xw 6,xM 7 6 0,qL 8 6 (x8 fk 7 (.c (.fn (.func cT) []))),xK 9 6 .lss 8 0,xY 10 6 9,qg 11 10,qL 12 11 (.slA 9 1 (.c (.gp 1 0)) none none),xM 13 11 0,qL 14 11 (x8 da 12 (.t 13)),qL 15 11 (wm 14),xY 16 11 15,qg 2 16]⟩
theorem BC:ag Tryz.prog cy=some rP:=by kernel_rfl
def fc:FK:=⟨19,xE,wY [xZ] (wN [qZ 6,wh 7 6,wR 8] 0 (yp [wZ 9 8 7] 9 wy (ww 1 (qe (wS (ye 10) 5 10) (wg [xe 11,qZ 12,xw 13,wx 14 1 12 13,qu 15 14,qb 16 (.callv (.t 11) (xp 15))] 16 (wS (xw 17) 4 17))) (yr 18 8 8 18)))) [qN 4 (-1)]⟩
theorem lE:ag Tryz.prog cM=some fc:=by kernel_rfl
def dO:FK:=⟨9,xE,xb [xi] [qZ 5,xe 6,wM 7 cM 5 6,qx 8 .geq 7 0,ye 4]⟩
theorem jI:ag Tryz.prog ce=some dO:=by kernel_rfl
def dT:FK:=⟨19,xE,wY [xZ] (wN [qZ 6,wh 7 6,wR 8] 0 (yp [wZ 9 8 7] 9 wy (ww 1 (qe (wS (ye 10) 5 10) (wg [xe 11,qZ 12,xw 13,wx 14 5 12 13,qJ 15 5 14,qb 16 (.callv (.t 11) (xp 15))] 16 (wS (xw 17) 4 17))) (yr 18 8 8 18)))) [qN 4 (-1)]⟩
theorem jL:ag Tryz.prog cb=some dT:=by kernel_rfl
def de:FK:=⟨9,xE,xb [xi] [qZ 5,xe 6,wM 7 cb 5 6,qx 8 .geq 7 0,ye 4]⟩
theorem iD:ag Tryz.prog bN=some de:=by kernel_rfl
def bj:FK:=⟨20,[.t 2,.t 3,.t 4,.t 5],wY [wR 2,wD 3,xi,wD 5] (qe [qZ 6] (.blk 0 (wI (wT 8 6 1 7 8) 7 (.reg (wT 9 6 2 7 9)) (qo 7 (qA [qN 2 1,qQ 3 we,xi,wD 5]) (wI (wT 11 6 3 10 11) 10 (wH (wT 12 6 7 10 12) 10 (.reg (wT 13 6 8 10 13))) (qo 10 (qA [qN 2 1,wD 3,xi,wD 5]) (xr 15 6 4 14 15 14 (qA [qN 2 2,wD 3,xi,wD 5]) (xr 17 6 5 16 17 16 (qA [qN 2 1,wD 3,qQ 4 we,qQ 5 we]) (wg (wT 19 6 6 18 19) 18 [qN 2 1,wD 3,qQ 4 we,wD 5]))))))))) [qN 2 (-1),wD 3,xi,wD 5]⟩
theorem yw:ag Tryz.prog fU=some bj:=by kernel_rfl
def rD:FK:=⟨5,xF,xb [yg] [qZ 3,qp 4 cZ (xN 3 ym (qj 255)),qg 2 4]⟩
theorem Bs:ag Tryz.prog iX=some rD:=by kernel_rfl
def ey:FK:=⟨20,xF,wY [wR 2] (.blk 0 (qB [qb 4 (.ld none (.c (.gp 2 0))),qZ 5,qb 6 (.lk 0 (.agg [qF,qC]) false (.t 4) (.t 5)),qb 7 (.fldv 1 none (.t 6)),qx 8 .gtr 7 0,ye 3] 3 (qA [qb 9 (.ld none (.c (.gp 2 0))),qZ 10,qb 11 (.lk 0 (.agg [qF,qC]) false (.t 9) (.t 10)),qb 12 (.fldv 1 none (.t 11)),qg 2 12]) (wg [qZ 14,wd 15 14 11,qg 16 15,xx 17 16 0,qM 18 16 (xa .eql 17 12),xT 19 16 18,qg 13 19] 13 [qN 2 5]))) [qN 2 6]⟩
theorem zz:ag Tryz.prog lv=some ey:=by kernel_rfl
def jE:AK:=xJ [wG 2 4 0,xZ,wR 5,wD 6] [wR 7,wR 8] (.cut (.blk 0 (qB [wU 17 2,qu 18 17,wd 19 18 1,qg 16 19] 16 (wg [xL 20 2,qu 21 20,xq 22 iX 21,xo 23 22,qg 24 23,xG 25 24 2 2,xA 26 24 25,qM 27 24 (yl .neq 26 (.c qF)),xT 28 24 27] 28 [xZ,wR 5,wD 6]) (qB [wU 30 2,qu 31 30,wd 32 31 2,qg 29 32] 29 (wg [xu 33 2,qu 34 33,xq 35 cy 34,xo 36 35,qg 37 36,xG 38 37 1 2,xA 39 37 38,qM 40 37 (xa .neq 39 0),xT 41 37 40] 41 [xZ,wR 5,wD 6]) (qB [wU 43 2,qu 44 43,wd 45 44 13,qg 42 45] 42 (qe [qN 8 3] (wg [xu 46 2,qu 47 46,xq 48 cy 47,xo 49 48,qg 50 49,xG 51 50 1 2,xA 52 50 51,qM 53 50 (xa .neq 52 0),xT 54 50 53] 54 [xZ,wR 5,wD 6])) (qB [qb 56 (.ld none (.c (.gp 2 0))),wU 57 2,qu 58 57,qb 59 (.lk 0 (.agg [qF,qC]) false (.t 56) (.t 58)),qb 60 (.fldv 1 none (.t 59)),qx 61 .gtr 60 0,qg 55 61] 55 (.reg [qN 7 2,qN 8 2]) (qB [wU 63 2,qu 64 63,wd 65 64 11,qg 66 65,xG 67 66 0 2,xA 68 66 67,qM 69 66 (xa .eql 68 12),xT 70 66 69,qg 62 70] 62 (.reg [qN 7 1,qN 8 1]) (qA [xZ,wR 5,wD 6]))))))) (.cut (wg [wU 71 2,qu 72 71,xq 73 lv 72,qx 74 .lss 73 6,qg 75 74,wV 76 75 1 2,wQ 77 75 76,xK 78 75 .neq 77 0,xM 79 75 78,xG 80 79 2 2,xA 81 79 80,qM 82 79 (yl .neq 81 (.c qF)),qL 83 75 (qS 79 wW (.t 82)),xY 84 75 83,qg 85 84,xG 86 85 3 2,xA 87 85 86,qM 88 85 (wb 87),xx 89 85 7,xx 90 85 8,qM 91 85 (.call cZ (xP 88 89 90)),qM 92 85 (wm 91),xT 93 85 92,qg 94 93,xx 95 94 1,qM 96 94 (xa .lss 95 1),xT 97 94 96] 97 [xZ,wR 5,wD 6]) (wY [qN 9 1,qN 10 1] (wN [xU 98 2,qu 99 98,wh 100 99,wR 101] 1 (yp [wZ 102 101 100] 102 (.exit 1) (ww 2 (qe [wx 103 4 99 101,yf 104 103,wa 12 [qC,qC,qF,.nils],qW 4 12 104] (yi [yf 106 12,xe 107,xH 108 107 1,wM 109 gb 106 108,qg 105 109,xc 110 0 105,xc 111 1 105,xc 112 2 105,qg 13 110,qg 14 111,qg 15 112] [qg 113 15,xo 114 113] 114 [xZ,wR 5,wD 6] (yc [qg 115 9,qg 116 13,wj 117 .add 115 116,qg 9 117] [qg 118 10,qg 119 14,x7 120 119,qb 121 (.mx (.t 118) (.t 120)),qg 10 121]))) (yr 122 101 101 122)))) [qg 123 9,qg 124 10,qg 125 9,qx 126 .leq 125 30,qg 4 123,qg 5 124,x9 126])))
def jz:FK:=⟨127,[.t 4,.t 5,.t 6],(AK.whole jE)⟩
theorem yB:ag Tryz.prog gb=some jz:=by kernel_rfl
def mV:FK:=⟨13,xF,qe [wG 1 4 0,yg] (xb [yf 7 1,xW 8 gb 7 6,x9 8,xc 9 0 6,xc 10 1 6,xc 11 2 6,qg 3 9,qg 4 10,qg 5 11] (wS (xw 12) 2 12))⟩
theorem vo:ag Tryz.prog eN=some mV:=by kernel_rfl
def ja:FK:=⟨91,xE,qe [wG 2 5 0,xi] (qI [wU 12 2,qu 13 12,xq 14 fU 13,qg 11 14,xc 15 0 11,xc 16 1 11,xc 17 2 11,xc 18 3 11,qg 5 15,x9 16,qg 7 17,qg 8 18] (.blk 0 (wI [xe 20,qx 21 .gtr 20 4,qg 19 21] 19 (wH [xu 22 2,qu 23 22,wh 24 23,xw 25,wj 26 .neq 24 25,qg 19 26] 19 (wH [qg 27 6,qg 28 27,wV 29 28 1 2,wQ 30 28 29,qL 31 28 (.call cy (xp 30)),qL 32 28 (wm 31),xY 33 28 32,qg 19 33] 19 (wH [qg 34 6,xo 35 34,qg 36 35,wV 37 36 1 2,wQ 38 36 37,qL 39 36 (yl .neq 38 (.c qF)),xY 40 36 39,qg 19 40] 19 (wH [yj 41,xo 42 41,qg 43 42,wV 44 43 3 2,wQ 45 43 44,qL 46 43 (wb 45),xK 47 43 .gtr 46 0,xY 48 43 47,qg 19 48] 19 (wH [ye 49,xo 50 49,qg 51 50,wV 52 51 4 2,wQ 53 51 52,qL 54 51 (wb 53),xK 55 51 .gtr 54 0,xY 56 51 55,qg 19 56] 19 (.reg [wU 57 2,qu 58 57,wd 59 58 8,qg 60 59,wV 61 60 2 2,wQ 62 60 61,qL 63 60 (qT 4 62 ym),wV 64 60 0 63,wQ 65 60 64,xK 66 60 .neq 65 13,xY 67 60 66,qg 19 67])))))) (qo 19 (qA [xi]) .skip))) (xR (wN [xu 68 2,qu 69 68,wh 70 69,wR 71] 1 (yp [wZ 72 71 70] 72 (.exit 1) (ww 2 (qe [wx 73 4 69 71,yf 74 73,wa 10 [qC,qC,qF,.nils],qW 4 10 74] (wg [yf 75 10,xq 76 eN 75,xo 77 76] 77 [xi])) (yr 78 71 71 78)))) [xU 79 2,qu 80 79,xe 81,x7 82 81,wM 83 cG 80 82,qg 84 83,wV 85 84 4 2,wQ 86 84 85,xM 87 84 1,xK 88 84 .add 87 1,qL 89 84 (x8 cG 86 (.t 88)),xY 90 84 89,qg 4 90]))⟩
theorem rW:ag Tryz.prog jh=some ja:=by kernel_rfl
def mM:FK:=⟨8,xv 3,xb [wG 2 5 0,wD 3] [qJ 4 5 2,qu 5 1,wM 6 jh 4 5,xo 7 6,yj 3]⟩
theorem vq:ag Tryz.prog cA=some mM:=by kernel_rfl
def oz:FK:=⟨9,xE,xb [wG 3 1 1,xi] [qZ 5,qb 6 (.mkf (.func cA) (xp 3)),wM 7 bN 5 6,xo 8 7,ye 4]⟩
theorem AM:ag Tryz.prog cG=some oz:=by kernel_rfl
def tV:FK:=⟨31,[],wN [qZ 8,wh 9 8,wR 10] 0 (yp [wZ 11 10 9] 11 wy (ww 1 (xJ [wx 12 5 8 10,qJ 13 5 12,wa 7 [qC,qF,.nils,.nils,.nils],qW 5 7 13] [xy 14,qJ 15 5 7,xe 16,qb 17 (.callv (.t 14) (wK 15 (.t 16)))] (yc [xU 18 7,qu 19 18,xe 20,x7 21 20,xy 22,xQ 23 gA 19 21 22] [qq 24 4 7,qu 25 24,xe 26,x7 27 26,xy 28,xQ 29 gA 25 27 28])) (yr 30 10 10 30)))⟩
theorem Dr:ag Tryz.prog gA=some tV:=by kernel_rfl
def mK:FK:=⟨11,[],xJ [wG 4 5 0] [qu 6 2,x7 7 6,xz 2 7] (.reg [qu 8 3,xe 9,qb 10 (.mx (.t 8) (.t 9)),xz 3 10])⟩
theorem uF:ag Tryz.prog eV=some mK:=by kernel_rfl
def oI:FK:=⟨20,[.c 2 none,.c 3 none],wY [wG 1 1 0,wa 2 [qC],wa 3 [qC]] (wN [wU 6 1,qu 7 6,wh 8 7,wR 9] 0 (yp [wZ 10 9 8] 10 wy (ww 1 (yc [wx 11 3 7 9,qJ 12 3 11,wa 5 [qF,.nils,.nils],qW 3 5 12] [xu 13 5,qu 14 13,qb 15 (.mkf (.func eV) (wK 2 (.t 3))),qp 16 gA (xN 14 (qj 1) (.t 15))]) (yr 17 9 9 17)))) [qu 18 2,qu 19 3,xz 2 18,wX 3 19,xz 3 19]⟩
theorem Aq:ag Tryz.prog kS=some oI:=by kernel_rfl
def iH:FK:=⟨6,xF,xb [yg] [qZ 3,xq 4 cy 3,xo 5 4,xw 2]⟩
theorem oa:ag Tryz.prog br=some iH:=by kernel_rfl
def kg:FK:=⟨48,xF,yi [wG 1 1 0,yg] [wU 7 1,qu 8 7,wh 9 8,qp 10 cZ (xN 9 (qj 1) (qj 4)),xo 11 10] 11 [yg] (.seq (wN [wU 12 1,qu 13 12,wh 14 13,wR 15] 0 (yp [wZ 16 15 14] 16 wy (ww 1 (qe [wx 17 3 13 15,qJ 18 3 17,wa 4 [qF,.nils,.nils],qW 3 4 18] (wg [wU 19 4,qu 20 19,xq 21 cy 20,xo 22 21,qg 23 22,xG 24 23 1 4,xA 25 23 24,qM 26 23 (wb 25),qM 27 23 (xa .gtr 26 3),xT 28 23 27,qg 29 28,xG 30 29 1 4,xA 31 29 30,qM 32 29 (x8 ce 31 (.c (.fn (.func br) []))),xT 33 29 32,qg 34 33,xG 35 34 2 4,xA 36 34 35,qM 37 34 (x8 cG 36 (qj 1)),qM 38 34 (wm 37),xT 39 34 38] 39 [yg])) (yr 40 15 15 40)))) (xb [qJ 42 1 1,xq 43 kS 42,qg 41 43,xc 44 0 41,xc 45 1 41,qg 5 44,x9 45] [xw 46,qx 47 .leq 46 40,qg 2 47]))⟩
theorem ra:ag Tryz.prog fC=some kg:=by kernel_rfl
def eB:FK:=⟨19,xE,wY [xZ] (wN [qZ 6,wh 7 6,wR 8] 0 (yp [wZ 9 8 7] 9 wy (ww 1 (qe (wS (ye 10) 5 10) (wg [xe 11,qZ 12,xw 13,wx 14 3 12 13,qJ 15 3 14,qb 16 (.callv (.t 11) (xp 15))] 16 (wS (xw 17) 4 17))) (yr 18 8 8 18)))) [qN 4 (-1)]⟩
theorem lw:ag Tryz.prog cK=some eB:=by kernel_rfl
def rI:FK:=⟨8,xv 3,xb [wG 2 3 0,wD 3] [wU 4 2,qu 5 4,qu 6 1,qb 7 (yl .eql 5 (.t 6)),yj 3]⟩
theorem BE:ag Tryz.prog fT=some rI:=by kernel_rfl
def vT:FK:=⟨9,xE,xb [wG 2 1 0,wG 3 1 1,xZ] [wU 5 2,qu 6 5,qb 7 (.mkf (.func fT) (xp 3)),wM 8 cK 6 7,ye 4]⟩
theorem EY:ag Tryz.prog jr=some vT:=by kernel_rfl
def fI:FK:=⟨13,[],xt [qZ 4,qU 5 4,xu 6 5,qu 7 6,wd 8 7 0] 8 [qZ 9,xe 10,qU 11 9,xu 12 11,xz 12 10]⟩
theorem rn:ag Tryz.prog cg=some fI:=by kernel_rfl
def iq:FK:=⟨7,xF,xb [qQ 2 .nilp] [qb 3 .mkm,qZ 4,wu 5 [.nilm,.nilp] [xn 0 3,xn 1 4],wG 6 2 5,qg 2 6]⟩
theorem tc:ag Tryz.prog cY=some iq:=by kernel_rfl
def tk:FK:=⟨20,[],xJ [wG 2 4 0] [xe 6,yf 7 2,qb 8 (.callv (.t 6) (xp 7))] (wN [xU 9 2,qu 10 9,wh 11 10,wR 12] 0 (yp [wZ 13 12 11] 13 wy (ww 1 (yc [wx 14 4 10 12,yf 15 14,wa 5 [qC,qC,qF,.nils],qW 4 5 15] [yf 16 5,xe 17,wM 18 kr 16 17]) (yr 19 12 12 19))))⟩
theorem Cr:ag Tryz.prog kr=some tk:=by kernel_rfl
def md:FK:=⟨25,[.t 4,.t 5],wY [xZ,wD 5] (qY 0 (xC [qZ 8,qb 9 (.pnil 0 true (.t 8))] 9 wy 1 (qe [qZ 15,qU 16 15,wU 17 16,qu 18 17,xe 19,qb 20 (.lk 1 qC true (.t 18) (.t 19)),qg 14 20,xc 21 0 14,xc 22 1 14,x9 21,qg 7 22] (wg [yj 23] 23 [qg 24 6,qg 4 24,qQ 5 we])) [qZ 10,qU 11 10,xL 12 11,qu 13 12,qg 0 13])) [xZ,wD 5]⟩
theorem tK:ag Tryz.prog ca=some md:=by kernel_rfl
def iI:FK:=⟨58,[],xJ [wG 3 4 0] [wU 7 3,qu 8 7] (.blk 0 (xr 10 8 2 9 10 9 (qe [qu 12 1,xu 13 3,qu 14 13,wM 15 ca 12 14,qg 11 15,xc 16 0 11,xc 17 1 11,qg 4 16,qg 5 17] (xt [xw 18,xo 19 18] 19 [qu 20 2,yh 21 20 3])) (qO (wT 23 8 13 22 23) 22 (qe [xu 35 3,qu 24 2,qU 25 24,wU 26 25,wU 27 26,qu 28 27,qu 29 2,qU 30 29,xL 31 30,qu 32 31,qb 33 (.slS 3 (.t 28) none (some (.t 32))),wu 34 yd [xn 0 33],qu 36 35,wM 37 jr 34 36,x9 37] (qB [qg 38 6,qx 39 .lss 38 0] 39 (.reg [qu 40 2,yh 41 40 4]) (xt [qg 47 6,xU 52 3,qu 42 2,qU 43 42,wU 44 43,wU 45 44,qu 46 45,wx 48 3 46 47,xL 49 48,qu 50 49,wh 51 50,qu 53 52,wh 54 53,wj 55 .neq 51 54] 55 [qu 56 2,yh 57 56 5]))))))⟩
theorem oe:ag Tryz.prog bP=some iI:=by kernel_rfl
def fy:FK:=⟨9,[],yc [wG 3 1 0,wG 4 4 1,wG 5 1 2] [yf 6 4,qb 7 (.mkf (.func bP) (wK 5 (.t 3))),wM 8 kr 6 7]⟩
theorem rj:ag Tryz.prog du=some fy:=by kernel_rfl
def eF:AK:=wN [xe 14,wh 15 14,wR 16] 0 (yp [wZ 17 16 15] 17 wy (ww 1 (qI [wx 18 5 14 16,qJ 19 5 18,wa 7 [qC,qF,.nils,.nils,.nils],qW 5 7 19] (wN [xu 20 7,qu 21 20,wh 22 21,wR 23] 2 (yp [wZ 24 23 22] 24 (.exit 2) (ww 3 (yc [wx 25 4 21 23,yf 26 25,wa 9 [qC,qC,qF,.nils],qW 4 9 26] [qZ 27,yf 28 9,xy 29,xQ 30 du 27 28 29]) (yr 31 23 23 31)))) (.cut (qe [wU 32 7,qu 33 32] (.blk 4 (xr 35 33 1 34 35 34 (wc (qe [xy 37,qU 38 37,wU 39 38,xL 41 7,qu 40 39,qu 42 41,qb 43 (.lk 1 qC true (.t 40) (.t 42)),qg 36 43,xc 44 0 36,xc 45 1 36,qg 10 44,qg 11 45] (xt [qg 46 11] 46 [qZ 47,yh 48 47 2])) [xy 49,qU 50 49,wU 51 50,xL 53 7,qu 52 51,qu 54 53,qD (.mup 1 (.t 52) (.t 54) ym)]) (qO (wT 56 33 2 55 56) 55 (qe [xy 58,xL 59 7,qu 60 59,wM 61 ca 58 60,qg 57 61,xc 62 0 57,xc 63 1 57,qg 12 62,qg 13 63] (xt [qg 64 13,xo 65 64] 65 [qZ 66,yh 67 66 3])))))) (qO [wU 68 7,qu 69 68,wd 70 69 5,qg 71 70,xG 72 71 0 7,xA 73 71 72,qM 74 71 (xa .eql 73 6),xT 75 71 74] 75 (yc [qZ 76,xU 77 7,xy 79,qu 78 77,xq 80 cY 79,wX 77 78,xQ 81 bz 76 78 80] [qZ 82,qq 83 4 7,xy 85,qu 84 83,xq 86 cY 85,wX 83 84,xQ 87 bz 82 84 86])))) (yr 88 16 16 88)))
def eM:FK:=⟨89,[],(AK.whole eF)⟩
theorem oy:ag Tryz.prog bz=some eM:=by kernel_rfl
def fD:AK:=yi [wG 1 1 0,wR 2] [qJ 11 1 1,xq 12 fC 11,xo 13 12] 13 [qN 2 1] (wY [qJ 14 1 1,wu 15 [.nils,qC,qC] [xn 0 14],wG 16 3 15,qg 3 16] (wN [wU 17 1,qu 18 17,wh 19 18,wR 20] 0 (yp [wZ 21 20 19] 21 wy (ww 1 (xJ [qg 22 20,wx 23 3 18 20,qJ 24 3 23,wa 5 [qF,.nils,.nils],qg 4 22,qW 3 5 24] [qg 25 3,qg 26 4,qU 27 25,xL 28 27,xz 28 26] (.cut (xt [qJ 29 1 1,wU 30 5,qu 31 30,wM 32 jr 29 31,qg 33 4,wZ 34 32 33] 34 [qg 35 3,yh 36 35 2]) (qI (wS (qp 37 cY [.c .nilp]) 6 37) (wN [xL 38 5,qu 39 38,wh 40 39,wR 41] 2 (yp [wZ 42 41 40] 42 (.exit 2) (ww 3 (qI [wx 43 1 39 41,qu 44 43,qg 8 44] (qe [qg 46 6,qU 47 46,wU 48 47,qu 49 48,ye 50,qb 51 (.lk 1 qC true (.t 49) (.t 50)),qg 45 51,xc 52 0 45,xc 53 1 45,qg 9 52,qg 10 53] (xt [qg 54 10] 54 [qg 55 3,yh 56 55 2])) (.reg [qg 57 6,qU 58 57,wU 59 58,qu 60 59,ye 61,qD (.mup 1 (.t 60) (.t 61) ym)])) (yr 62 41 41 62)))) (.reg [qg 63 3,xu 64 5,qu 65 64,qg 66 6,xQ 67 bz 63 65 66])))) (yr 68 20 20 68)))) [qg 69 3,qU 70 69,xu 71 70,qu 72 71,qg 2 72])
def ft:FK:=⟨73,xF,(AK.whole fD)⟩
theorem rd:ag Tryz.prog dk=some ft:=by kernel_rfl
def vK:FK:=⟨6,xF,xb [wG 1 1 0,yg] [qJ 3 1 1,xq 4 dk 3,wd 5 4 0,xw 2]⟩
theorem EF:ag Tryz.prog lX=some vK:=by kernel_rfl
def gY:FK:=⟨19,xE,wY [xZ] (wN [qZ 6,wh 7 6,wR 8] 0 (yp [wZ 9 8 7] 9 wy (ww 1 (qe (wS (ye 10) 5 10) (wg [xe 11,qZ 12,xw 13,wx 14 1 12 13,qu 15 14,qb 16 (.callv (.t 11) (xp 15))] 16 (wS (xw 17) 4 17))) (yr 18 8 8 18)))) [qN 4 (-1)]⟩
theorem nM:ag Tryz.prog dJ=some gY:=by kernel_rfl
def fe:FK:=⟨9,xE,xb [xi] [qZ 5,xe 6,wM 7 dJ 5 6,qx 8 .geq 7 0,ye 4]⟩
theorem lF:ag Tryz.prog cP=some fe:=by kernel_rfl
def ni:FK:=⟨6,xF,xb [yg] [qZ 3,xq 4 iX 3,xo 5 4,xw 2]⟩
theorem uH:ag Tryz.prog cz=some ni:=by kernel_rfl
def kI:FK:=⟨14,xE,xb [xi] [qZ 5,wh 6 5,xe 7,wj 8 .eql 6 7,ye 9,xM 10 9 0,qL 11 9 (x8 cP 10 (.c (.fn (.func cz) []))),qL 12 9 (wm 11),xY 13 9 12,qg 4 13]⟩
theorem zw:ag Tryz.prog kT=some kI:=by kernel_rfl
def rC:FK:=⟨21,xE,xb [wG 2 1 0,xi] [qJ 5 1 2,xq 6 lX 5,qg 7 6,xM 8 7 1,wV 9 7 0 2,wQ 10 7 9,wV 11 7 0 2,wQ 12 7 11,qL 13 7 (wb 12),xK 14 7 .sub 13 1,qL 15 7 (qT 3 10 (.t 14)),wV 16 7 1 15,wQ 17 7 16,qL 18 7 (wb 17),qL 19 7 (x8 kT 8 (.t 18)),xY 20 7 19,qg 4 20]⟩
theorem Bp:ag Tryz.prog mB=some rC:=by kernel_rfl
def gh:FK:=⟨8,xF,wY [qQ 2 .nils] (wg [qZ 3,qb 4 (.snil false (.t 3))] 4 [qQ 2 .nils]) [qX 5 1 [qC] 0 [],qZ 6,xg 7 1 8 5 6,yj 2]⟩
theorem lC:ag Tryz.prog bw=some gh:=by kernel_rfl
def fh:FK:=⟨19,[],wc (xt [qZ 2,qU 3 2,xu 4 3,qZ 6,qU 7 6,xL 8 7,qu 5 4,qu 9 8,wj 10 .eql 5 9] 10 [qp 11 mj [qj 3]]) [qZ 12,qU 13 12,xu 14 13,qu 15 14,x7 16 15,qU 17 12,xu 18 17,xz 18 16]⟩
theorem rp:ag Tryz.prog dt=some fh:=by kernel_rfl
def mQ:FK:=⟨28,xE,wY [qQ 4 .nilp] (qY 0 (xC [qZ 7,qU 8 7,xL 9 8,qu 10 9,qb 11 (.pnil 0 true (.t 10))] 11 wy 1 (qe [qZ 17,qU 18 17,wU 19 18,qu 20 19,xe 21,qb 22 (.lk 1 qC true (.t 20) (.t 21)),qg 16 22,xc 23 0 16,xc 24 1 16,qg 5 23,x9 24] (wg [qg 25 6] 25 (wS (qZ 26) 4 26))) [qZ 12,qU 13 12,xL 14 13,qu 15 14,qg 0 15])) (wS (qZ 27) 4 27)⟩
theorem uz:ag Tryz.prog eU=some mQ:=by kernel_rfl
def oT:FK:=⟨4,xF,wY [wR 2] (wg [qZ 3] 3 [qN 2 1]) [wR 2]⟩
theorem zS:ag Tryz.prog kG=some oT:=by kernel_rfl
def nt:FK:=⟨70,[.t 6,.t 7],qe [wR 6,wD 7] (wY [qQ 8 (.fn (.func kG) [])] (qe [qZ 9] (.blk 0 (xr 11 9 3 10 11 10 (qA [xe 12,xy 13,wj 14 .add 12 13,qx 15 .rem 14 256,x9 15,qQ 7 we]) (xr 17 9 4 16 17 16 (qA [xe 18,xy 19,wj 20 .sub 18 19,wB 21 20 256,qx 22 .rem 21 256,x9 22,qQ 7 we]) (xr 24 9 5 23 24 23 (qA [xe 25,xy 26,wj 27 .mul 25 26,qx 28 .rem 27 256,x9 28,qQ 7 we]) (wI (wT 30 9 6 29 30) 29 (.reg (wT 31 9 7 29 31)) (qo 29 (.seq (wg [xy 32,wd 33 32 0] 33 [wR 6,wD 7]) (xR (wg [qZ 34,wd 35 34 6] 35 [xe 36,xy 37,wj 38 .quo 36 37,x9 38,qQ 7 we]) [xe 39,xy 40,wj 41 .rem 39 40,x9 41,qQ 7 we])) (xr 43 9 8 42 43 42 (qA [ye 44,xe 45,xy 46,wZ 47 45 46,qb 48 (.callv (.t 44) (xp 47)),x9 48,qQ 7 we]) (xr 50 9 9 49 50 49 (qA [ye 51,xe 52,xy 53,wj 54 .eql 52 53,qb 55 (.callv (.t 51) (xp 54)),x9 55,qQ 7 we]) (wg (wT 57 9 10 56 57) 56 [ye 58,xe 59,qx 60 .neq 59 0,qg 61 60,xM 62 61 2,xK 63 61 .neq 62 0,xY 64 61 63,qb 65 (.callv (.t 58) (xp 64)),x9 65,qQ 7 we])))))))))) [ye 66,xe 67,wd 68 67 0,qb 69 (.callv (.t 66) (xp 68)),x9 69,qQ 7 we])⟩
theorem tX:ag Tryz.prog iy=some nt:=by kernel_rfl
def fw:FK:=⟨13,xE,wY [qQ 4 .nilp] (xt [xe 5,qx 6 .geq 5 16] 6 [qp 7 mj [qj 2]]) [qZ 8,xe 9,qU 10 8,qq 11 4 10,qb 12 (.idxA 16 1 (.t 11) (.t 9)),qg 4 12]⟩
theorem pY:ag Tryz.prog dr=some fw:=by kernel_rfl
def an:FK:=⟨126,xv 6,qI [wG 4 4 1,wR 6] (qe [wU 16 4,qu 17 16] (.blk 0 (xr 19 17 1 18 19 18 (qA [xL 20 4,qu 21 20,x9 21]) (xr 23 17 2 22 23 22 (qA [xy 24,xu 25 4,xu 31 4,qu 26 25,qu 32 31,wM 27 eU 24 26,wX 31 32,qU 28 27,wU 29 28,qu 30 29,qb 33 (.lk 1 qC false (.t 30) (.t 32)),x9 33]) (xr 35 17 10 34 35 34 (.seq (wg [qZ 36,xU 37 4,qu 38 37,wo 39 4 38 ym,yf 40 39,xy 41,xD 42 (xP 36 40 41),wd 43 42 0] 43 [wR 6]) (xb [qZ 45,xU 46 4,qu 47 46,wo 48 4 47 (qj 1),yf 49 48,xy 50,xD 51 (xP 45 49 50),qp 52 iy [qj 10,qj 1,.t 51],qg 44 52,xc 53 0 44,xc 54 1 44,qg 7 53,qg 8 54] (wS (yj 55) 6 55))) (xr 57 17 12 56 57 56 (qA [qZ 58,qZ 59,xU 60 4,qu 61 60,wo 62 4 61 ym,yf 63 62,xy 64,xD 65 (xP 59 63 64),wM 66 dr 58 65,qU 67 66,qu 68 67,x9 68]) (qO (wT 70 17 13 69 70) 69 (wY [qQ 9 .nils] (wN [xU 71 4,qu 72 71,wh 73 72,wR 74] 1 (yp [wZ 75 74 73] 75 (.exit 1) (ww 2 (yc [wx 76 4 72 74,yf 77 76,wa 11 [qC,qC,qF,.nils],qW 4 11 77] [qg 78 9,qZ 79,yf 80 11,xy 81,xD 82 (xP 79 80 81),qX 83 1 [qC] 1 [xn 0 82],xg 84 1 8 78 83,qg 9 84]) (yr 85 74 74 85)))) [qZ 86,qZ 87,qU 88 87,wU 89 88,xu 91 4,qg 94 9,qJ 90 1 89,qu 92 91,wM 93 jr 90 92,xQ 95 dq 86 93 94,x9 95])))))))) (qI [qZ 96,xU 97 4,qu 98 97,wo 99 4 98 ym,yf 100 99,xy 101,xD 102 (xP 96 100 101),qg 12 102,wR 13] (xt [xU 103 4,qu 104 103,wh 105 104,qx 106 .gtr 105 1] 106 [qZ 107,xU 108 4,qu 109 108,wo 110 4 109 (qj 1),yf 111 110,xy 112,xD 113 (xP 107 111 112),qg 13 113]) (wY [wU 115 4,qu 116 115,qg 117 12,qg 118 13,xQ 119 iy 116 117 118,qg 114 119,xc 120 0 114,xc 121 1 114,qg 14 120,qg 15 121] (xt [qg 122 15,xo 123 122] 123 [qp 124 mj [qj 1]]) (wS (qg 125 14) 6 125)))⟩
theorem ka:ag Tryz.prog bL=some an:=by kernel_rfl
def tz:FK:=⟨7,xF,xb [qQ 2 .nilp] [qb 3 .mkm,qZ 4,wu 5 [.nilm,.nilp] [xn 0 3,xn 1 4],wG 6 2 5,qg 2 6]⟩
theorem Ds:ag Tryz.prog ib=some tz:=by kernel_rfl
def fx:FK:=⟨109,xv 6,qI [wG 4 5 1,qQ 6 .nilp] (qO [wU 10 4,qu 11 10,wd 12 11 6] 12 (xR (qY 0 (wI [qZ 13,xu 14 4,qu 15 14,wo 16 4 15 ym,yf 17 16,xy 18,xD 19 (xP 13 17 18),qx 20 .neq 19 0] 20 wy (.blk 1 (wc (qe [qZ 21,xU 22 4,xy 24,qu 23 22,xq 25 ib 24,wX 22 23,xQ 26 bi 21 23 25,qg 7 26] (wg [yj 27,qb 28 (.pnil 0 true (.t 27))] 28 (wS (yj 29) 6 29))) [qZ 30,xq 31 dt 30])))) [qQ 6 .nilp])) (wY [qZ 32,xu 33 4,qu 34 33,wo 35 4 34 ym,yf 36 35,xy 37,xD 38 (xP 32 36 37),qg 8 38] (qe [wU 39 4,qu 40 39] (.blk 2 (xr 42 40 1 41 42 41 (.reg [xy 43,qU 44 43,wU 45 44,xL 47 4,ye 49,qu 46 45,qu 48 47,qD (.mup 1 (.t 46) (.t 48) (.t 49))]) (xr 51 40 2 50 51 50 (.reg [xy 52,xL 53 4,xL 59 4,ye 61,qu 54 53,qu 60 59,wM 55 eU 52 54,wX 59 60,qU 56 55,wU 57 56,qu 58 57,qD (.mup 1 (.t 58) (.t 60) (.t 61))]) (xr 63 40 3 62 63 62 (.reg [qZ 64,qZ 65,qU 66 65,xU 67 66,qu 68 67,ye 69,qX 70 1 [qC] 1 [xn 0 69],xg 71 1 8 68 70,qU 72 64,xU 73 72,xz 73 71]) (xr 75 40 4 74 75 74 (yc [qZ 76,xu 77 4,qu 78 77,wo 79 4 78 (qj 1),yf 80 79,xy 81,xD 82 (xP 76 80 81),qg 9 82] [qZ 83,ye 84,wM 85 dr 83 84,qg 86 9,qU 87 85,xz 87 86]) (xr 89 40 5 88 89 88 (xR (wg [ye 90,qx 91 .neq 90 0] 91 [qZ 92,xU 93 4,xy 95,qu 94 93,xq 96 ib 95,wX 93 94,xQ 97 bi 92 94 96,x9 97]) [qZ 98,qq 99 4 4,xy 101,qu 100 99,xq 102 ib 101,wX 99 100,xQ 103 bi 98 100 102,x9 103]) (wg (wT 105 40 7 104 105) 104 [ye 106,wu 107 [qC] [xn 0 106],wG 108 1 107,x9 108])))))))) [qQ 6 .nilp])⟩
theorem kf:ag Tryz.prog fG=some fx:=by kernel_rfl
def jn:FK:=⟨26,xv 6,wY [qQ 6 .nilp] (wN [xe 10,wh 11 10,wR 12] 0 (yp [wZ 13 12 11] 13 wy (ww 1 (xJ [wx 14 5 10 12,qJ 15 5 14,wa 8 [qC,qF,.nils,.nils,.nils],qW 5 8 15] [qZ 16,xq 17 dt 16] (qe [qZ 18,qJ 19 5 8,xy 20,xQ 21 fG 18 19 20,qg 9 21] (wg [qg 22 9,qb 23 (.pnil 0 true (.t 22))] 23 (wS (qg 24 9) 6 24)))) (yr 25 12 12 25)))) [qQ 6 .nilp]⟩
theorem pz:ag Tryz.prog bi=some jn:=by kernel_rfl
def kn:FK:=⟨57,xv 6,qe [wR 6] (qI [qb 11 .mkm,wu 12 [.nilm,.nilp] [xn 0 11],wG 13 2 12,qg 7 13] (wN [qZ 14,qU 15 14,wU 16 15,wU 17 16,qu 18 17,xe 19,wx 20 3 18 19,xL 21 20,qu 22 21,wh 23 22,wR 24] 0 (yp [wZ 25 24 23] 25 wy (ww 1 (yc [qg 26 24,wx 27 1 22 24,qu 28 27,qg 8 26,qg 9 28] [yj 29,qU 30 29,wU 31 30,qg 33 9,xy 34,ye 35,wx 36 1 34 35,qu 32 31,qu 37 36,qD (.mup 1 (.t 32) (.t 33) (.t 37))]) (yr 38 24 24 38)))) (xR (qe [qZ 39,qZ 40,qU 41 40,wU 42 41,wU 43 42,qu 44 43,xe 45,wx 46 3 44 45,xu 47 46,qu 48 47,yj 49,xQ 50 bi 39 48 49,qg 10 50] (wg [qg 51 10,qb 52 (.pnil 0 true (.t 51))] 52 [qg 53 10,qU 54 53,wU 55 54,qu 56 55,x9 56])) [wR 6]))⟩
theorem rf:ag Tryz.prog dq=some kn:=by kernel_rfl
def kj:FK:=⟨12,[],.reg [qu 4 0,wU 5 1,qu 6 5,wh 7 6,xH 8 7 1,qu 9 2,xQ 10 dq 4 8 9,xu 11 3,xz 11 10]⟩
theorem rc:ag Tryz.prog dm=some kj:=by kernel_rfl
def iv:AK:=xJ [wG 3 1 0,wG 4 1 1,wa 6 [.nils,qC,qC,.nils],wR 7] [qJ 10 1 3,xy 11,wu 12 [.nils,qC,qC,.nils,qC,qC,qC,qC,qC,qC,qC,qC,qC,qC,qC,qC,qC,qC,qC,qC] [xn 0 10,xn 1 11],wG 13 20 12,wa 8 [.nilp],xz 8 13] (qe [wa 9 [.nils,qC,qC,.nils]] (yk [qb 14 (.mkf (.func dm) [.t 8,.t 3,.t 4,.t 9]),xq 15 sb 14,xL 16 9,xz 16 15] (xb [qu 17 8,qU 18 17,xU 19 18,qu 20 19,wU 26 9,qu 21 8,qU 22 21,qq 23 4 22,qb 24 (.slA 16 1 (.t 23) none none),xq 25 bw 24,wX 8 17,wX 19 20,xz 26 20,xU 27 9,xz 27 25] [yf 28 9,qu 29 8,qU 30 29,xu 31 30,qu 32 31,qW 4 6 28,wX 8 29,wX 31 32,qg 7 32])))
def gC:FK:=⟨33,[xX 6 4,.t 7],(AK.whole iv)⟩
theorem te:ag Tryz.prog eb=some gC:=by kernel_rfl
def lP:FK:=⟨28,[xX 6 4,.t 7],yi [wG 3 1 0,wa 6 [.nils,qC,qC,.nils],wD 7] [qJ 10 1 3,xe 11,wM 12 mF 10 11,xo 13 12,qg 14 13,xx 15 14 2,qM 16 14 (ya (xN 15 ym (qj 4000))),qM 17 14 (wm 16),xT 18 14 17] 18 [wu 19 [.nils,qC,qC,.nils] [],qW 4 6 19,wD 7] (xb [qJ 21 1 3,xe 22,xy 23,xQ 24 lY 21 22 23,qg 20 24,xc 25 0 20,xc 26 1 20,wa 8 [.nils,qC,qC,.nils],qW 4 8 25,qg 9 26] [yf 27 8,qW 4 6 27,qQ 7 we])⟩
theorem sW:ag Tryz.prog ed=some lP:=by kernel_rfl
def lM:FK:=⟨28,[xX 6 4,.t 7],yi [wG 3 1 0,wa 6 [.nils,qC,qC,.nils],wD 7] [qJ 10 1 3,xe 11,wM 12 mB 10 11,xo 13 12,qg 14 13,xx 15 14 2,qM 16 14 (.call cZ (xN 15 ym (qj 4000))),qM 17 14 (wm 16),xT 18 14 17] 18 [wu 19 [.nils,qC,qC,.nils] [],qW 4 6 19,wD 7] (xb [qJ 21 1 3,xe 22,xy 23,xQ 24 eb 21 22 23,qg 20 24,xc 25 0 20,xc 26 1 20,wa 8 [.nils,qC,qC,.nils],qW 4 8 25,qg 9 26] [yf 27 8,qW 4 6 27,qQ 7 we])⟩
theorem ta:ag Tryz.prog eu=some lM:=by kernel_rfl
def pq:FK:=⟨11,xF,wY [qQ 2 .nilp] (xt [qZ 3,wh 4 3,qx 5 .gtr 4 2000] 5 [qZ 6,qb 7 (.slS 1 (.t 6) none (some (qj 2000))),yj 0]) [qZ 8,wu 9 [.nils,qC] [xn 0 8],wG 10 2 9,qg 2 10]⟩
theorem Ai:ag Tryz.prog kP=some pq:=by kernel_rfl
def eq:FK:=⟨99,xE,qe [xZ] (yi [qZ 7,qZ 8,qU 9 8,xL 10 9,qu 11 10,x7 12 11,qU 13 7,xL 14 13,xz 14 12] [xe 15,qx 16 .lss 15 1,qg 17 16,xx 18 17 0,qM 19 17 (qw 18),xG 20 17 0 19,xA 21 17 20,qM 22 17 (wb 21),qM 23 17 (xa .eql 22 0),xT 24 17 23] 24 [xZ] (yi [qZ 25,qU 26 25,xL 27 26,qu 28 27,xH 29 28 1,qg 5 29] [xw 30,qZ 31,qU 32 31,wU 33 32,qu 34 33,wh 35 34,wZ 36 30 35] 36 [qZ 37,qU 38 37,wU 39 38,qu 40 39,xw 41,wx 42 1 40 41,qu 43 42,qb 44 (.conv .i64 (.t 43)),xe 45,wj 46 .rem 44 45,qg 4 46] (qe [qZ 47,qU 48 47,wU 49 48,xw 51,qZ 52,qU 53 52,wU 54 53,qZ 62,qU 63 62,wU 64 63,xw 66,qx 67 .mul 66 7,wB 68 67 3,qZ 69,qU 70 69,wU 71 70,xw 80,qx 81 .mul 80 29,xw 83,qZ 84,qU 85 84,wU 86 85,qu 50 49,qu 55 54,wh 56 55,wj 57 .rem 51 56,wx 58 1 50 57,qu 59 58,qb 60 (.conv .i64 (.t 59)),qx 61 .mul 60 131,qu 65 64,qu 72 71,wh 73 72,wj 74 .rem 68 73,wx 75 1 65 74,qu 76 75,qb 77 (.conv .i64 (.t 76)),qx 78 .mul 77 1117,wj 79 .add 61 78,wj 82 .add 79 81,qu 87 86,wh 88 87,wj 89 .quo 83 88,qx 90 .mul 89 53,wj 91 .add 82 90,x9 91] (xb [qg 92 6,qg 93 6,qx 94 .quo 93 64,wj 95 .xor 92 94,x9 95] [qg 96 6,xe 97,wj 98 .rem 96 97,qg 4 98]))))⟩
theorem tI:ag Tryz.prog bf=some eq:=by kernel_rfl
def iQ:FK:=⟨12,xE,xb [xZ] [xe 5,qZ 6,xe 7,wh 8 7,wz 9 (wK 6 (.t 8)),wx 10 1 5 9,qu 11 10,qg 4 11]⟩
theorem mY:ag Tryz.prog cC=some iQ:=by kernel_rfl
def jD:FK:=⟨12,xE,xb [qQ 4 qF] [xe 5,qZ 6,xe 7,wh 8 7,wz 9 (wK 6 (.t 8)),wx 10 1 5 9,qu 11 10,qg 4 11]⟩
theorem nT:ag Tryz.prog cS=some jD:=by kernel_rfl
def fO:FK:=⟨21,[xX 4 4],wY [wa 4 [qC,qC,qF,.nils]] (wg [xe 5,wh 6 5,wd 7 6 0,yj 8,xx 9 8 0,qM 10 8 (x8 bf 9 (qj 3)),qM 11 8 (xa .eql 10 0),xT 12 8 11] 12 [qZ 13,qX 14 1 [qC] 10 [yq 0,xm 1 1,xm 2 2,xm 3 3,xm 4 5,xm 5 7,xm 6 15,xm 7 16,xm 8 100,xm 9 255],xj 15 13 14,wu 16 [qC,qC,qF,.nils] [yq 1,xn 1 15],qW 4 4 16]) [qZ 17,xe 18,xI 19 17 18,wu 20 [qC,qC,qF,.nils] [yq 2,xn 2 19],qW 4 4 20]⟩
theorem rH:ag Tryz.prog db=some fO:=by kernel_rfl
def dU:FK:=⟨47,[xX 6 4],yi [wa 6 [qC,qC,qF,.nils]] [xy 8,qx 9 .lss 8 2,qg 10 9,xx 11 10 0,qM 12 10 (x8 bf 11 (qj 4)),qM 13 10 (xa .eql 12 0),xT 14 10 13] 14 [qZ 15,xe 16,wM 17 db 15 16,qW 4 6 17] (.seq (wg [qZ 18,wz 19 (wK 18 (qj 7)),wd 20 19 0] 20 [qZ 21,qX 22 1 [qC] 3 [yq 11,xm 1 12,xm 2 11],xj 23 21 22,qZ 24,xe 25,xy 26,xH 27 26 1,xQ 28 aS 24 25 27,qX 29 4 [qC,qC,qF,.nils] 1 [yn 4 28],wu 30 [qC,qC,qF,.nils] [xn 0 23,xn 3 29],qW 4 6 30]) (xb [qZ 31,qX 32 1 [qC] 9 [yq 3,xm 1 3,xm 2 4,xm 3 5,xm 4 6,xm 5 7,xm 6 8,xm 7 9,xm 8 10],xj 33 31 32,qg 7 33] [yj 34,qZ 35,xe 36,xy 37,xH 38 37 1,xQ 39 aS 35 36 38,qZ 40,xe 41,xy 42,xH 43 42 1,xQ 44 aS 40 41 43,qX 45 4 [qC,qC,qF,.nils] 2 [yn 4 39,wE 4 4 44],wu 46 [qC,qC,qF,.nils] [xn 0 34,xn 3 45],qW 4 6 46]))⟩
theorem mE:ag Tryz.prog aS=some dU:=by kernel_rfl
def mh:FK:=⟨99,[xX 4 4],qe [wa 4 [qC,qC,qF,.nils]] (yi [qQ 5 .any,qZ 9,qU 10 9,wU 11 10,qZ 13,qU 14 13,xu 15 14,xe 17,qu 12 11,qu 16 15,xQ 18 aS 12 16 17,wa 5 [qC,qC,qF,.nils],qW 4 5 18] [qZ 19,qU 20 19,xL 21 20,qu 22 21,wh 23 22,wd 24 23 0,qg 25 24,xx 26 25 0,qM 27 25 (qw 26),xG 28 25 0 27,xA 29 25 28,qM 30 25 (x8 bf 29 (qj 4)),qM 31 25 (xa .gtr 30 0),xT 32 25 31] 32 [yf 33 5,qW 4 4 33] (qe [qQ 6 .any,qZ 34,qU 35 34,xL 36 35,qZ 38,qU 39 38,wU 40 39,qZ 42,qU 43 42,xL 44 43,qu 37 36,qu 41 40,qu 45 44,wh 46 45,wz 47 (wK 41 (.t 46)),wX 36 37,wx 48 3 37 47,qJ 49 3 48,wa 6 [qF,.nils,.nils],qW 3 6 49] (qI [wU 50 6,qu 51 50,wu 52 [qC,qC,qF,.nils] [yq 13,xn 2 51],wa 7 [qC,qC,qF,.nils],qW 4 7 52] (xS [wR 8] 0 [ye 53,xL 54 6,qu 55 54,wh 56 55,wZ 57 53 56] 57 wy 1 (.reg [xU 60 7,qZ 62,qU 63 62,wU 64 63,qZ 66,qU 67 66,xu 68 67,qu 61 60,qu 65 64,qu 69 68,qp 70 aS (xO 65 69 (qj 2)),wX 60 61,xV 71 4 [qC,qC,qF,.nils] 1 [yn 4 70],xg 72 4 56 61 71,xU 73 7,xz 73 72]) [ye 58,x7 59 58,qg 8 59]) (xR (wg [qZ 74,qU 75 74,wU 76 75,qu 77 76,wz 78 (wK 77 (qj 2)),wd 79 78 0] 79 [yf 80 7,qW 4 4 80]) [qZ 81,qU 82 81,wU 83 82,xV 85 1 [qC] 4 [yq 3,xm 1 4,xm 2 8,xm 3 10],qZ 88,qU 89 88,wU 90 89,qZ 92,qU 93 92,xu 94 93,qu 84 83,yf 87 7,qu 91 90,qu 95 94,xj 86 84 85,wn (some 4) 7 87,wX 90 91,wX 94 95,qp 96 aS (xO 91 95 (qj 2)),wn (some 4) 7 87,qX 97 4 [qC,qC,qF,.nils] 2 [yn 4 87,wE 4 4 96],wu 98 [qC,qC,qF,.nils] [xn 0 86,xn 3 97],qW 4 4 98]))))⟩
theorem tu:ag Tryz.prog ir=some mh:=by kernel_rfl
def kR:FK:=⟨46,xF,qe [qQ 2 qF] (wY [qZ 3,qZ 4,qU 5 4,xU 6 5,qu 7 6,x7 8 7,qU 9 3,xU 10 9,xz 10 8] (wg [qZ 11,qU 12 11,wU 13 12,qu 14 13,wz 15 (wK 14 (qj 9)),wd 16 15 0,qg 17 16,xM 18 17 0,qL 19 17 (qw 18),wV 20 17 2 19,wQ 21 17 20,qL 22 17 (wb 21),xK 23 17 .gtr 22 0,xY 24 17 23] 24 [qZ 25,qU 26 25,wU 27 26,qZ 29,qU 30 29,xu 31 30,qu 28 27,qu 32 31,xI 33 28 32,qg 2 33]) [qZ 34,qU 35 34,xU 36 35,qZ 39,qU 40 39,xU 41 40,qu 37 36,qx 38 .rem 37 24,qu 42 41,qx 43 .rem 42 24,x7 44 43,qb 45 (.slStr (wP [97,98,99,100,101,103,104,105,106,107,108,109,110,112,113,114,115,116,117,118,119,120,121,122]) (some (.t 38)) (some (.t 44))),qg 2 45])⟩
theorem sB:ag Tryz.prog gm=some kR:=by kernel_rfl
def iU:FK:=⟨24,[xX 4 5],xJ [wG 3 4 1,wa 4 [qC,qF,.nils,.nils,.nils]] [qZ 6,xq 7 gm 6,yj 5] (xb [qZ 8,qX 9 1 [qF] 0 [],qZ 10,qU 11 10,xu 12 11,qu 13 12,xg 14 1 16 9 13,xw 15,qX 16 1 [qF] 1 [xn 0 15],xg 17 1 16 14 16,qU 18 8,xu 19 18,xz 19 17] [xw 20,yf 21 3,qX 22 4 [qC,qC,qF,.nils] 1 [yn 4 21],wu 23 [qC,qF,.nils,.nils,.nils] [yq 1,xn 1 20,xn 2 22],qW 5 4 23])⟩
theorem mP:ag Tryz.prog dE=some iU:=by kernel_rfl
def lL:FK:=⟨14,[xX 2 4],xb [wa 2 [qC,qC,qF,.nils]] [qZ 3,qZ 5,qU 6 5,wU 7 6,xV 9 1 [qC] 6 [yq 16,xm 1 16,xm 2 16,xm 3 8,xm 4 17,xm 5 0],qu 8 7,yb 4 3 2,wX 7 8,xj 10 8 9,wu 11 [qC,qC,qF,.nils] [yq 1,xn 1 10],qX 12 4 [qC,qC,qF,.nils] 2 [yn 4 4,wE 4 4 11],wu 13 [qC,qC,qF,.nils] [yq 7,xn 3 12],qW 4 2 13]⟩
theorem tL:ag Tryz.prog ee=some lL:=by kernel_rfl
def gN:AK:=xJ [qQ 4 .nils] [qZ 9,qZ 10,qU 11 10,wU 12 11,qu 13 12,qX 14 1 [qC] 5 [yq 2,xm 1 3,xm 2 1,xm 3 0,xm 4 5],xj 15 13 14,wu 16 [qC,qC,qF,.nils] [yq 1,xn 1 15],wM 17 dE 9 16,wa 5 [qC,qF,.nils,.nils,.nils],qW 5 5 17] (xJ [xL 18 5,qu 19 18,wu 20 [qC,qC,qF,.nils] [yq 2,xn 2 19],wa 6 [qC,qC,qF,.nils],qW 4 6 20] [qZ 21,xe 22,xH 23 22 1,wM 24 aT 21 23,qg 7 24] (qe [xL 25 5,qu 26 25,yf 27 6,wu 28 [qC,qC,qF,.nils] [yq 1,xm 1 1],qX 29 4 [qC,qC,qF,.nils] 2 [yn 4 27,wE 4 4 28],wu 30 [qC,qC,qF,.nils] [yq 4,xn 3 29],qX 31 4 [qC,qC,qF,.nils] 1 [yn 4 30],wu 32 [qC,qF,.nils,.nils,.nils] [yq 2,xn 1 26,xn 2 31],wa 8 [qC,qF,.nils,.nils,.nils],qW 5 8 32] (yk [qZ 33,qZ 34,qU 35 34,qq 36 4 35,qu 37 36,xH 38 37 2,qU 39 33,qq 40 4 39,xz 40 38] (qA [yj 44,qJ 41 5 5,yf 42 6,xV 43 4 [qC,qC,qF,.nils] 1 [yn 4 42],qJ 45 5 8,xV 46 5 [qC,qF,.nils,.nils,.nils] 1 [yn 5 45],xg 47 5 96 44 46,wn (some 5) 5 41,wn (some 4) 6 42,wu 48 [qC,qF,.nils,.nils,.nils] [yq 6,xn 2 43,xn 3 47],qX 49 5 [qC,qF,.nils,.nils,.nils] 2 [yn 5 41,wE 5 5 48],qg 4 49]))))
def ij:FK:=⟨50,xE,(AK.whole gN)⟩
theorem th:ag Tryz.prog ie=some ij:=by kernel_rfl
def lU:FK:=⟨128,xE,xJ [qQ 4 .nils] [qZ 7,qZ 8,qU 9 8,qq 10 4 9,qu 11 10,xH 12 11 1,qU 13 7,qq 14 4 13,xz 14 12] (wY [qZ 15,qU 16 15,wU 17 16,qu 18 17,wz 19 (wK 18 (qj 13)),qg 5 19] (.blk 0 (qB [xw 21,qx 22 .lss 21 3,qg 23 22,xM 24 23 0,qL 25 23 (qw 24),wV 26 23 2 25,wQ 27 23 26,qL 28 23 (wb 27),xK 29 23 .gtr 28 0,xY 30 23 29,qg 20 30] 20 (qA [qZ 31,qU 32 31,wU 33 32,qZ 35,qU 36 35,xu 37 36,qZ 40,qu 34 33,qu 38 37,xI 39 34 38,yb 41 40 3,qX 42 4 [qC,qC,qF,.nils] 1 [yn 4 41],wu 43 [qC,qF,.nils,.nils,.nils] [yq 2,xn 1 39,xn 2 42],qX 44 5 [qC,qF,.nils,.nils,.nils] 1 [yn 5 43],qg 4 44]) (qB [xw 46,qx 47 .lss 46 5,qg 45 47] 45 (qA [qZ 48,qZ 49,yb 50 49 3,wM 51 dE 48 50,qX 52 5 [qC,qF,.nils,.nils,.nils] 1 [yn 5 51],qg 4 52]) (qB [xw 54,qx 55 .lss 54 7,qg 56 55,xx 57 56 1,qM 58 56 (xa .lss 57 2),xT 59 56 58,qg 53 59] 53 (qA [qZ 60,yb 61 60 3,qX 62 4 [qC,qC,qF,.nils] 1 [yn 4 61],wu 63 [qC,qF,.nils,.nils,.nils] [yq 3,xn 2 62],qX 64 5 [qC,qF,.nils,.nils,.nils] 1 [yn 5 63],qg 4 64]) (qB [xw 66,wd 67 66 7,qg 65 67] 65 (qA [qZ 68,xq 69 ee 68,qZ 70,yb 71 70 2,qX 72 4 [qC,qC,qF,.nils] 2 [yn 4 69,wE 4 4 71],wu 73 [qC,qF,.nils,.nils,.nils] [yq 4,xn 2 72],qX 74 5 [qC,qF,.nils,.nils,.nils] 1 [yn 5 73],qg 4 74]) (qB [xw 76,wd 77 76 8,qg 75 77] 75 (qA [qZ 78,xq 79 ee 78,qX 80 4 [qC,qC,qF,.nils] 1 [yn 4 79],wu 81 [qC,qC,qF,.nils] [yq 12,xn 3 80],qX 82 4 [qC,qC,qF,.nils] 1 [yn 4 81],wu 83 [qC,qF,.nils,.nils,.nils] [yq 3,xn 2 82],qX 84 5 [qC,qF,.nils,.nils,.nils] 1 [yn 5 83],qg 4 84]) (qB [xw 86,qx 87 .lss 86 11,qg 85 87] 85 (wY [qZ 88,yb 89 88 3,qX 90 4 [qC,qC,qF,.nils] 1 [yn 4 89],qZ 91,xe 92,xH 93 92 1,wM 94 aT 91 93,wu 95 [qC,qF,.nils,.nils,.nils] [yq 5,xn 2 90,xn 3 94],wa 6 [qC,qF,.nils,.nils,.nils],qW 5 6 95] (xt [qZ 96,qU 97 96,wU 98 97,qu 99 98,wz 100 (wK 99 (qj 2)),wd 101 100 0] 101 [qZ 102,xe 103,xH 104 103 1,wM 105 aT 102 104,qq 106 4 6,xz 106 105]) [qJ 107 5 6,qX 108 5 [qC,qF,.nils,.nils,.nils] 1 [yn 5 107],qg 4 108]) (wg [xw 110,wd 111 110 11,qg 112 111,xM 113 112 0,qL 114 112 (qw 113),wV 115 112 0 114,wQ 116 112 115,qL 117 112 (x8 bf 116 (qj 3)),xK 118 112 .eql 117 0,xY 119 112 118,qg 109 119] 109 [qZ 120,yb 121 120 2,qX 122 4 [qC,qC,qF,.nils] 1 [yn 4 121],wu 123 [qC,qF,.nils,.nils,.nils] [yq 7,xn 2 122],qX 124 5 [qC,qF,.nils,.nils,.nils] 1 [yn 5 123],qg 4 124])))))))) [qZ 125,xe 126,wM 127 ie 125 126,qg 4 127])⟩
theorem tx:ag Tryz.prog ia=some lU:=by kernel_rfl
def ll:FK:=⟨40,xE,xJ [qQ 4 .nils] [qZ 8,qU 9 8,xu 10 9,qu 11 10,qg 5 11] (qI (wS (qX 12 5 [qC,qF,.nils,.nils,.nils] 0 []) 6 12) (xS [qZ 13,qU 14 13,wU 15 14,qu 16 15,qX 17 1 [qC] 4 [yq 2,xm 1 3,xm 2 1,xm 3 4],xj 18 16 17,qg 7 18] 0 [yj 19,qx 20 .gtr 19 0,qg 21 20,xM 22 21 0,qL 23 21 (qw 22),wV 24 21 4 23,wQ 25 21 24,xK 26 21 .gtr 25 0,xY 27 21 26] 27 wy 1 (.reg [qg 30 6,qZ 31,xe 32,wM 33 ia 31 32,xg 34 5 96 30 33,x9 34]) [yj 28,xH 29 28 1,qg 7 29]) (xb [qZ 35,xw 36,qU 37 35,xu 38 37,xz 38 36] (wS (qg 39 6) 4 39)))⟩
theorem sI:ag Tryz.prog aT=some ll:=by kernel_rfl
def jY:AK:=xJ [wa 6 [qF,.nils,.nils]] [qZ 8,qX 9 1 [qF] 3 [(0,1,wP [97]),(1,1,wP [98]),(2,1,wP [99])],xy 10,qb 11 (.slS 1 (.t 9) none (some (.t 10))),qU 12 8,xu 13 12,xz 13 11] (qe [qZ 14,xy 15,xH 16 15 1,qU 17 14,xU 18 17,xz 18 16] (yk [xe 19,qX 20 1 [qF] 0 [],qZ 21,qU 22 21,xu 23 22,qu 24 23,xg 25 1 16 20 24,wu 26 [qF,.nils,.nils] [xn 0 19,xn 1 25],wa 7 [qF,.nils,.nils],qW 3 7 26] (wY [qZ 27,xW 28 aT 27 3,xu 29 7,xz 29 28] (qO [qZ 30,qU 31 30,qq 32 4 31,qu 33 32,qx 34 .gtr 33 0,qg 35 34,xM 36 35 0,qL 37 35 (qw 36),wV 38 35 0 37,wQ 39 35 38,qL 40 35 (x8 bf 39 (qj 4)),xK 41 35 .gtr 40 0,xY 42 35 41] 42 (yc [qZ 43,qZ 44,qU 45 44,qq 46 4 45,qu 47 46,xH 48 47 1,qU 49 43,qq 50 4 49,xz 50 48] [xu 51 7,qZ 53,qu 52 51,yb 54 53 2,wX 51 52,xV 55 4 [qC,qC,qF,.nils] 1 [yn 4 54],wu 56 [qC,qF,.nils,.nils,.nils] [yq 7,xn 2 55],xV 57 5 [qC,qF,.nils,.nils,.nils] 1 [yn 5 56],xg 58 5 96 52 57,xu 59 7,xz 59 58])) [qJ 60 3 7,qW 3 6 60])))
def jJ:FK:=⟨61,[xX 6 3],(AK.whole jY)⟩
theorem yG:ag Tryz.prog fY=some jJ:=by kernel_rfl
def rz:FK:=⟨69,[xX 2 1],qe [wa 2 yd] (qI [qZ 8,qZ 9,qX 10 1 [qC] 4 [yq 14,xm 1 20,xm 2 8,xm 3 26],xj 11 9 10,wu 12 [.nilp,.nils,.nils,qC,qC] [xn 0 8,xn 4 11],wG 13 5 12,qg 3 13] (xS [qZ 14,qX 15 1 [qC] 4 [yq 0,xm 1 1,xm 2 1,xm 3 2],xj 16 14 15,qg 4 16] 0 [qg 17 4,qx 18 .gtr 17 0] 18 wy 1 (yc [qQ 5 .any,qg 21 3,xV 22 1 [qF] 3 [(0,1,wP [102]),(1,1,wP [103]),(2,1,wP [104])],qg 23 3,qU 24 23,xL 25 24,qZ 30,qu 26 25,wh 27 26,wx 28 1 22 27,qu 29 28,wz 31 (wK 30 (qj 3)),wX 25 26,wX 28 29,xQ 32 fY 21 29 31,wa 5 [qF,.nils,.nils],qW 3 5 32] [qg 33 3,qg 34 3,qU 35 34,xL 36 35,qu 37 36,qJ 38 3 5,xV 39 3 [qF,.nils,.nils] 1 [yn 3 38],xg 40 3 64 37 39,qU 41 33,xL 42 41,xz 42 40]) [qg 19 4,xH 20 19 1,qg 4 20]) (qe [qg 43 3,qZ 44,qX 45 1 [qC] 4 [yq 0,xm 1 1,xm 2 2,xm 3 1],xj 46 44 45,qp 47 fY (xN 43 (wP [109]) (.t 46)),wa 6 [qF,.nils,.nils],qW 3 6 47] (wY [qQ 7 .any,qg 49 3,qU 50 49,xL 51 50,qu 52 51,qJ 54 3 6,xV 55 3 [qF,.nils,.nils] 1 [yn 3 54],qX 48 3 [qF,.nils,.nils] 0 [],wX 51 52,wn (some 3) 6 54,xg 53 3 64 48 52,wn (some 3) 6 54,xg 56 3 64 53 55,wu 57 yd [xn 0 56],wa 7 yd,xz 7 57] (wg [qJ 58 1 7,xq 59 dp 58,xo 60 59] 60 [wu 61 [qC,qC,qF,.nils] [yq 1,xm 1 1],qX 62 4 [qC,qC,qF,.nils] 1 [yn 4 61],wu 63 [qC,qF,.nils,.nils,.nils] [yq 3,xn 2 62],qX 64 5 [qC,qF,.nils,.nils,.nils] 1 [yn 5 63],wu 65 [qF,.nils,.nils] [(0,1,wP [109]),xn 2 64],qX 66 3 [qF,.nils,.nils] 1 [yn 3 65],wu 67 yd [xn 0 66],xz 2 67]) [qJ 68 1 7,xz 2 68])))⟩
theorem Bu:ag Tryz.prog dV=some rz:=by kernel_rfl
def tM:FK:=⟨42,[xX 4 4],qe [wa 4 [qC,qC,qF,.nils]] (yi [qZ 8,qX 9 1 [qF] 4 [(0,1,wP [97]),(1,1,wP [98]),(2,1,wP [120]),(3,1,wP [103,111])],xe 10,xQ 11 aS 8 9 10,wa 5 [qC,qC,qF,.nils],qW 4 5 11] [qZ 12,wz 13 (wK 12 (qj 3)),qx 14 .gtr 13 0] 14 [yf 15 5,qW 4 4 15] (qI [qZ 16,qX 17 1 [qF] 3 [(0,1,wP [102]),(1,1,wP [103]),(2,1,wP [97])],xI 18 16 17,wu 19 [qC,qC,qF,.nils] [yq 13,xn 2 18],wa 6 [qC,qC,qF,.nils],qW 4 6 19] (xS [qZ 20,wz 21 (wK 20 (qj 4)),qg 7 21] 0 [yj 22,qx 23 .gtr 22 0] 23 wy 1 (.reg [xU 26 6,qZ 28,xV 29 1 [qF] 2 [(0,1,wP [97]),(1,1,wP [98])],qu 27 26,qp 30 aS (xO 28 29 (qj 2)),wX 26 27,xV 31 4 [qC,qC,qF,.nils] 1 [yn 4 30],xg 32 4 56 27 31,xU 33 6,xz 33 32]) [yj 24,xH 25 24 1,qg 7 25]) (xR (wg [qZ 34,wz 35 (wK 34 (qj 2)),wd 36 35 0] 36 [yf 37 6,qW 4 4 37]) [yf 38 5,yf 39 6,qX 40 4 [qC,qC,qF,.nils] 2 [yn 4 38,wE 4 4 39],wu 41 [qC,qC,qF,.nils] [yq 3,xn 3 40],qW 4 4 41])))⟩
theorem CC:ag Tryz.prog gH=some tM:=by kernel_rfl
def rx:FK:=⟨40,[xX 2 4],qe [wa 2 [qC,qC,qF,.nils]] (wY [qZ 4,xW 5 gH 4 4,wa 3 [qC,qC,qF,.nils],qW 4 3 5] (qe [qZ 6,wz 7 (wK 6 (qj 20))] (.blk 0 (xr 9 7 0 8 9 8 (.reg [qZ 10,qX 11 1 [qC] 3 [yq (-1),xm 1 256,xm 2 3],xj 12 10 11,xL 13 3,xz 13 12]) (xr 15 7 1 14 15 14 (.reg [qZ 16,qX 17 1 [qF] 5 [(0,1,.c qF),(1,1,wP [100,111]),(2,1,wP [65]),(3,1,wP [97,98,99,100,101]),(4,1,wP [113])],xI 18 16 17,xu 19 3,xz 19 18]) (xr 21 7 2 20 21 20 (.reg [qZ 22,qX 23 1 [qC] 5 [yq 0,xm 1 14,xm 2 (-1),xm 3 5,xm 4 11],xj 24 22 23,wU 25 3,xz 25 24]) (xr 27 7 3 26 27 26 (.reg [xU 28 3,qZ 30,qu 29 28,wL 31 db 30 (.c .nils),wX 28 29,xV 32 4 [qC,qC,qF,.nils] 1 [yn 4 31],xg 33 4 56 29 32,xU 34 3,xz 34 33]) (xt (wT 36 7 4 35 36) 35 [qZ 37,xW 38 gH 37 7,qW 4 3 38]))))))) [yf 39 3,qW 4 2 39])⟩
theorem Bm:ag Tryz.prog mr=some rx:=by kernel_rfl
def ml:AK:=xJ [wa 2 yd] [qZ 9,xq 10 dV 9,wa 3 yd,xz 3 10] (qe [wU 11 3,qu 12 11,wU 13 3,qu 14 13,wh 15 14,xH 16 15 1,wx 17 3 12 16,qJ 18 3 17,wa 4 [qF,.nils,.nils],qW 3 4 18] (.cut (qe [qZ 19,wz 20 (wK 19 (qj 32))] (.blk 0 (xr 22 20 0 21 22 21 (.reg [qZ 23,qX 24 1 [qF] 4 [(0,1,wP [102]),(1,1,wP [100,111]),(2,1,.c qF),(3,1,wP [103])],xI 25 23 24,wU 26 4,xz 26 25]) (xr 28 20 1 27 28 27 (.reg [qX 29 1 [qF] 0 [],xL 30 4,qu 31 30,xg 32 1 16 29 31,qZ 33,qX 34 1 [qF] 3 [(0,1,wP [97]),(1,1,wP [120]),(2,1,wP [105,102])],xI 35 33 34,qX 36 1 [qF] 1 [xn 0 35],xg 37 1 16 32 36,xL 38 4,xz 38 37]) (xr 40 20 2 39 40 39 (.reg [qX 41 5 [qC,qF,.nils,.nils,.nils] 0 [],xu 42 4,qu 43 42,xg 44 5 96 41 43,qZ 45,xq 46 mr 45,qX 47 4 [qC,qC,qF,.nils] 1 [yn 4 46],wu 48 [qC,qF,.nils,.nils,.nils] [yq 3,xn 2 47],qX 49 5 [qC,qF,.nils,.nils,.nils] 1 [yn 5 48],xg 50 5 96 44 49,xu 51 4,xz 51 50]) (xr 53 20 3 52 53 52 (.reg [qX 54 5 [qC,qF,.nils,.nils,.nils] 0 [],xu 55 4,qu 56 55,xg 57 5 96 54 56,qZ 58,wz 59 (wK 58 (qj 10)),qZ 60,qX 61 1 [qF] 3 [(0,1,.c qF),(1,1,wP [97]),(2,1,wP [122,122])],xI 62 60 61,qZ 63,xW 64 gH 63 2,qX 65 4 [qC,qC,qF,.nils] 1 [yn 4 64],wu 66 [qC,qF,.nils,.nils,.nils] [xn 0 59,xn 1 62,xn 2 65],qX 67 5 [qC,qF,.nils,.nils,.nils] 1 [yn 5 66],xg 68 5 96 57 67,xu 69 4,xz 69 68]) (xr 71 20 4 70 71 70 (qe [wu 72 [qC,qC,qF,.nils] [yq 1],qX 73 4 [qC,qC,qF,.nils] 1 [yn 4 72],wu 74 [qC,qF,.nils,.nils,.nils] [yq 6,xn 2 73],wa 5 [qC,qF,.nils,.nils,.nils],qW 5 5 74] (.cut (xS [qZ 75,wz 76 (wK 75 (qj 5)),x9 76] 1 [qg 77 6,qx 78 .gtr 77 0] 78 (.exit 1) 2 (.reg [qZ 81,xV 82 1 [qC] 2 [yq 5,xm 1 6],xu 84 5,qu 85 84,qJ 86 5 5,xV 87 5 [qC,qF,.nils,.nils,.nils] 1 [yn 5 86],xj 83 81 82,wX 84 85,wn (some 5) 5 86,wu 88 [qC,qF,.nils,.nils,.nils] [xn 0 83,xn 2 85,xn 3 87],qW 5 5 88]) [qg 79 6,xH 80 79 1,x9 80]) (.reg [xu 90 4,qu 91 90,qJ 93 5 5,xV 94 5 [qC,qF,.nils,.nils,.nils] 1 [yn 5 93],qX 89 5 [qC,qF,.nils,.nils,.nils] 0 [],wX 90 91,wn (some 5) 5 93,xg 92 5 96 89 91,wn (some 5) 5 93,xg 95 5 96 92 94,xu 96 4,xz 96 95]))) (xr 98 20 5 97 98 97 (qA [wu 99 yd [],xz 2 99]) (xr 101 20 6 100 101 100 (xS [qZ 102,qX 103 1 [qC] 3 [yq 20,xm 1 40,xm 2 41],xj 104 102 103,qg 7 104] 3 [yj 105,qx 106 .gtr 105 0] 106 (.exit 3) 4 (.reg [qX 109 5 [qC,qF,.nils,.nils,.nils] 0 [],xu 110 4,qu 111 110,xg 112 5 96 109 111,yj 113,wu 114 [qC,qC,qF,.nils] [yq 1,xn 1 113],qX 115 4 [qC,qC,qF,.nils] 1 [yn 4 114],wu 116 [qC,qF,.nils,.nils,.nils] [yq 3,xn 2 115],qX 117 5 [qC,qF,.nils,.nils,.nils] 1 [yn 5 116],xg 118 5 96 112 117,xu 119 4,xz 119 118]) [yj 107,xH 108 107 1,qg 7 108]) (wg (wT 121 20 7 120 121) 120 [wU 123 3,wU 126 3,qu 124 123,qu 127 126,wo 128 3 127 ym,qJ 129 3 128,xV 130 3 [qF,.nils,.nils] 1 [yn 3 129],qX 122 3 [qF,.nils,.nils] 0 [],wX 123 124,wX 126 127,wn (some 3) 128 129,xg 125 3 64 122 124,wX 126 127,wn (some 3) 128 129,xg 131 3 64 125 130,wu 132 yd [xn 0 131],xz 2 132])))))))))) (qe [qX 133 3 [qF,.nils,.nils] 0 [],wU 134 3,qu 135 134,xg 136 3 64 133 135,qg 8 136] (xb [ye 137,ye 138,wh 139 138,xH 140 139 1,qJ 141 3 4,wx 142 3 137 140,qW 3 142 141] [ye 143,wu 144 yd [xn 0 143],xz 2 144]))))
def mH:FK:=⟨145,[xX 2 1],(AK.whole ml)⟩
theorem Bn:ag Tryz.prog mt=some mH:=by kernel_rfl
def sg:FK:=⟨25,[xX 2 4],qe [wG 1 4 0,wa 2 [qC,qC,qF,.nils]] (qI (wS (qX 5 4 [qC,qC,qF,.nils] 0 []) 3 5) (xS [xZ] 0 [x9 4,xU 7 1,qu 8 7,wh 9 8,wZ 10 6 9] 10 wy 1 (.reg [qg 13 3,xU 14 1,qu 15 14,qg 16 4,wx 17 4 15 16,yf 18 17,xq 19 ji 18,qX 20 4 [qC,qC,qF,.nils] 1 [yn 4 19],xg 21 4 56 13 20,qg 3 21]) [qg 11 4,x7 12 11,qg 4 12]) (xb [qg 22 3,xU 23 1,xz 23 22] [yf 24 1,qW 4 2 24]))⟩
theorem By:ag Tryz.prog ji=some sg:=by kernel_rfl
def pk:FK:=⟨52,xF,qe [qQ 2 .nils] (wY (wS (qX 8 5 [qC,qF,.nils,.nils,.nils] 0 []) 3 8) (xS [xZ] 0 [qg 9 4,qZ 10,wh 11 10,wZ 12 9 11] 12 wy 1 (qe [qZ 15,qg 16 4,wx 17 5 15 16,qJ 18 5 17,wa 5 [qC,qF,.nils,.nils,.nils],qW 5 5 18] (qI (wS (qX 19 4 [qC,qC,qF,.nils] 0 []) 6 19) (xS [wR 7] 2 [yj 20,xu 21 5,qu 22 21,wh 23 22,wZ 24 20 23] 24 (.exit 2) 3 (.reg [qg 27 6,xu 28 5,qu 29 28,yj 30,wx 31 4 29 30,yf 32 31,xq 33 ji 32,qX 34 4 [qC,qC,qF,.nils] 1 [yn 4 33],xg 35 4 56 27 34,x9 35]) [yj 25,x7 26 25,qg 7 26]) (.reg [qg 36 3,wU 37 5,xL 39 5,qg 41 6,xU 42 5,qq 45 4 5,qu 38 37,qu 40 39,qu 43 42,qu 46 45,xq 44 dy 43,wX 37 38,wX 39 40,wX 45 46,xq 47 dy 46,wX 37 38,wX 39 40,wu 48 [qC,qF,.nils,.nils,.nils] [xn 0 38,xn 1 40,xn 2 41,xn 3 44,xn 4 47],qX 49 5 [qC,qF,.nils,.nils,.nils] 1 [yn 5 48],xg 50 5 96 36 49,qg 3 50]))) [qg 13 4,x7 14 13,qg 4 14]) (wS (qg 51 3) 2 51))⟩
theorem Ac:ag Tryz.prog dy=some pk:=by kernel_rfl
def rA:FK:=⟨35,[xX 2 1],qe [wG 1 1 0,wa 2 yd] (wY [wu 6 yd [],wa 3 yd,xz 3 6] (xS [xZ] 0 [qg 7 4,wU 8 1,qu 9 8,wh 10 9,wZ 11 7 10] 11 wy 1 (yc [wU 14 1,qu 15 14,qg 16 4,wx 17 3 15 16,qJ 18 3 17,wa 5 [qF,.nils,.nils],qW 3 5 18] [wU 19 3,wU 21 5,xL 24 5,xu 27 5,qu 20 19,qu 22 21,qu 25 24,qu 28 27,qX 23 1 [qF] 0 [],wX 19 20,wX 21 22,wX 24 25,wX 27 28,xg 26 1 16 23 25,wX 19 20,wX 21 22,wX 27 28,xq 29 dy 28,wX 19 20,wX 21 22,wu 30 [qF,.nils,.nils] [xn 0 22,xn 1 26,xn 2 29],qX 31 3 [qF,.nils,.nils] 1 [yn 3 30],wX 19 20,xg 32 3 64 20 31,wU 33 3,xz 33 32]) [qg 12 4,x7 13 12,qg 4 13]) [qJ 34 1 3,xz 2 34])⟩
theorem Bw:ag Tryz.prog mD=some rA:=by kernel_rfl
def rR:FK:=⟨104,[xX 2 1],qe [wa 2 yd] (yi [qZ 7,xq 8 dV 7,wa 3 yd,xz 3 8] [qZ 9,wz 10 (wK 9 (qj 5)),qx 11 .gtr 10 2] 11 [qJ 12 1 3,xz 2 12] (.seq (wg [qZ 13,wz 14 (wK 13 (qj 6)),wd 15 14 0] 15 [qZ 16,xq 17 mt 16,xz 2 17]) (qe [qJ 18 1 3,xq 19 mD 18,xz 3 19] (yi [wU 20 3,qZ 22,wU 23 3,qu 21 20,qu 24 23,wh 25 24,wz 26 (wK 22 (.t 25)),wX 20 21,wx 27 3 21 26,qg 4 27] [qg 28 4,qU 29 28,xu 30 29,qu 31 30,wh 32 31,wd 33 32 0] 33 [qJ 34 1 3,xz 2 34] (qe [qg 35 4,qU 36 35,xu 37 36,qZ 39,qg 40 4,qU 41 40,xu 42 41,qu 38 37,qu 43 42,wh 44 43,wz 45 (wK 39 (.t 44)),wX 37 38,wx 46 5 38 45,qg 5 46] (qI [qZ 47,qX 48 1 [qF] 5 [(0,1,wP [122,122]),(1,1,wP [97]),(2,1,wP [98]),(3,1,wP [99]),(4,1,wP [100])],xI 49 47 48,wu 50 [qC,qC,qF,.nils] [yq 2,xn 2 49],wa 6 [qC,qC,qF,.nils],qW 4 6 50] (qe [qZ 51,wz 52 (wK 51 (qj 4))] (.blk 0 (xr 54 52 0 53 54 53 (.reg [qZ 55,qX 56 1 [qF] 4 [(0,1,wP [102]),(1,1,wP [103]),(2,1,wP [109]),(3,1,wP [113])],xI 57 55 56,wu 58 [qC,qC,qF,.nils] [yq 1,xm 1 1],qX 59 4 [qC,qC,qF,.nils] 1 [yn 4 58],wu 60 [qC,qC,qF,.nils] [yq 13,xn 2 57,xn 3 59],qW 4 6 60]) (xr 62 52 1 61 62 61 (xR (xt [xw 63,qU 64 63,xL 65 64,qu 66 65,qb 67 (yl .neq 66 (.c qF))] 67 [xw 68,qZ 69,qX 70 1 [qF] 5 [(0,1,wP [97]),(1,1,wP [98]),(2,1,wP [122,122]),(3,1,wP [99]),(4,1,wP [100])],xI 71 69 70,qU 72 68,xL 73 72,xz 73 71]) [qJ 74 1 3,xz 2 74]) (qO (wT 76 52 2 75 76) 75 (xb [qg 77 4,qg 78 4,qU 79 78,xu 80 79,qg 82 4,qU 83 82,xu 84 83,qu 81 80,qu 85 84,qb 86 (.slS 5 (.t 85) none (some (qj 1))),xq 87 dy 86,wX 80 81,xg 88 5 96 81 87,qU 89 77,xu 90 89,xz 90 88] [qJ 91 1 3,xz 2 91])))))) (xR (xt [xw 92,qU 93 92,wU 94 93,qu 95 94,qx 96 .neq 95 8] 96 [xw 97,qU 98 97,xu 99 98,qu 100 99,yf 101 6,wo 102 4 100 ym,qW 4 102 101]) [qJ 103 1 3,xz 2 103])))))))⟩
theorem BG:ag Tryz.prog mG=some rR:=by kernel_rfl
def rM:FK:=⟨29,xE,wY [xi] (wN [qZ 6,wh 7 6,xe 8,wh 9 8,qb 10 (.mn (.t 7) (.t 9)),wR 11] 0 (yp [wZ 12 11 10] 12 wy (ww 1 (qe (wS (qg 13 11) 5 13) (wg [qZ 14,xw 15,wx 16 1 14 15,xe 18,xw 19,wx 20 1 18 19,qu 17 16,qu 21 20,wj 22 .neq 17 21] 22 [xi])) (yr 23 11 11 23)))) [qZ 24,wh 25 24,xe 26,wh 27 26,wj 28 .eql 25 27,qg 4 28]⟩
theorem Bi:ag Tryz.prog my=some rM:=by kernel_rfl
def rN:FK:=⟨26,xE,yi [xi] [qZ 6,wh 7 6,xe 8,wh 9 8,wj 10 .neq 7 9] 10 [xi] (xR (xS [wR 5] 0 [xw 11,qZ 12,wh 13 12,wZ 14 11 13] 14 wy 1 (wg [qZ 17,xw 18,wx 19 1 17 18,xe 21,xw 22,wx 23 1 21 22,qu 20 19,qu 24 23,wj 25 .neq 20 24] 25 [xi]) [xw 15,x7 16 15,qg 5 16]) [qQ 4 we])⟩
theorem AZ:ag Tryz.prog je=some rN:=by kernel_rfl
def kY:FK:=⟨31,xE,xb [wG 2 4 0,wG 3 4 1,xi] [wU 5 2,qu 6 5,wU 7 3,qu 8 7,wM 9 je 6 8,qg 10 9,wV 11 10 1 2,wQ 12 10 11,wV 13 10 1 3,wQ 14 10 13,qL 15 10 (ql .eql 12 (.t 14)),xY 16 10 15,qg 17 16,wV 18 17 2 2,wQ 19 17 18,wV 20 17 2 3,wQ 21 17 20,qL 22 17 (ql .eql 19 (.t 21)),xY 23 17 22,qg 24 23,wV 25 24 3 2,wQ 26 24 25,wV 27 24 3 3,wQ 28 24 27,qL 29 24 (x8 je 26 (.t 28)),xY 30 24 29,qg 4 30]⟩
theorem sS:ag Tryz.prog gt=some kY:=by kernel_rfl
def kO:FK:=⟨26,xE,yi [xi] [qZ 6,wh 7 6,xe 8,wh 9 8,wj 10 .neq 7 9] 10 [xi] (xR (wN [qZ 11,wh 12 11,wR 13] 0 (yp [wZ 14 13 12] 14 wy (ww 1 (qe (wS (qg 15 13) 5 15) (wg [qZ 16,xw 17,wx 18 1 16 17,xe 20,xw 21,wx 22 1 20 21,qu 19 18,qu 23 22,wj 24 .neq 19 23] 24 [xi])) (yr 25 13 13 25)))) [qQ 4 we])⟩
theorem sr:ag Tryz.prog lb=some kO:=by kernel_rfl
def jp:FK:=⟨6,[xX 2 1],xb [wa 2 yd] [qZ 3,xq 4 kP 3,xq 5 mG 4,xz 2 5]⟩
theorem ow:ag Tryz.prog eA=some jp:=by kernel_rfl
def gB:AK:=qe [qQ 2 .nils] (wY [qQ 3 .nils] (wN [qb 6 (.ld (some 9) (.c (.gp 0 0))),wR 7] 0 (yp [qx 8 .lss 7 3] 8 wy (ww 1 (yk [qb 9 (.idxV 3 3 (some 3) (.t 6) (.t 7)),wa 5 [qC,qC,qC],qW 3 5 9] (.reg [qg 10 3,qZ 11,qb 12 (.slA 3 1 (.t 5) none (some (.t 11))),xq 13 bw 12,qX 14 1 yd 1 [xn 0 13],xg 15 1 24 10 14,qg 3 15])) (yr 16 7 7 16)))) (wS (qg 17 3) 2 17))
def im:FK:=⟨18,xF,(AK.whole gB)⟩
theorem pj:ag Tryz.prog eG=some im:=by kernel_rfl
def mO:FK:=⟨17,xF,wY [wG 1 1 0,qQ 2 .nils] (wg [qJ 3 1 1,xq 4 lX 3,xo 5 4] 5 [qQ 2 .nils]) [wU 6 1,qu 7 6,wU 8 1,qu 9 8,wh 10 9,xH 11 10 1,wx 12 3 7 11,xL 13 12,qu 14 13,wh 15 14,xq 16 eG 15,qg 2 16]⟩
theorem vg:ag Tryz.prog eS=some mO:=by kernel_rfl
def jU:AK:=qe [qQ 2 .nils] (yk [qX 6 1 [qC] 3 [yq 0,xm 1 0,xm 2 0],qX 7 1 [qC] 3 [yq 1,xm 1 2,xm 2 3],qX 8 1 [qC] 3 [yq 255,xm 1 16,xm 2 7],qX 9 1 yd 3 [xn 0 6,xn 1 7,xn 2 8],qg 3 9] (wY (wS (qX 10 1 yd 0 []) 4 10) (xS [wR 5] 0 [xw 11,qg 12 3,wh 13 12,wZ 14 11 13] 14 wy 1 (.reg [qg 17 4,qX 18 1 [qC] 0 [],qg 19 3,xw 20,wx 21 1 19 20,qu 22 21,qZ 23,qb 24 (.slS 1 (.t 22) none (some (.t 23))),xg 25 1 8 18 24,qX 26 1 yd 1 [xn 0 25],xg 27 1 24 17 26,qg 4 27]) [xw 15,x7 16 15,qg 5 16]) (wS (qg 28 4) 2 28)))
def jH:FK:=⟨29,xF,(AK.whole jU)⟩
theorem vX:ag Tryz.prog fV=some jH:=by kernel_rfl
def mN:FK:=⟨20,xF,yi [wG 1 1 0,qQ 2 .nils] [qJ 4 1 1,xq 5 jd 4,xo 6 5] 6 (wS (qX 7 1 yd 0 []) 2 7) (xb [wU 8 1,qu 9 8,wU 10 1,qu 11 10,wh 12 11,xH 13 12 1,wx 14 3 9 13,xL 15 14,qu 16 15,wh 17 16,qg 3 17] [qg 18 3,xq 19 fV 18,qg 2 19])⟩
theorem uG:ag Tryz.prog fb=some mN:=by kernel_rfl
def nY:FK:=⟨91,xF,yi [yg] [qZ 12,wh 13 12,qx 14 .gtr 13 1048576] 14 [qQ 2 we] (xJ [qZ 15,xq 16 eA 15,wa 3 yd,xz 3 16] [qJ 17 1 3,xq 18 eS 17,qg 4 18] (yi [qJ 19 1 3,xq 20 fb 19,qg 5 20] [qg 21 4,wh 22 21,xw 23,wh 24 23,wj 25 .neq 22 24] 25 [yg] (xR (wN [qg 26 4,wh 27 26,wR 28] 0 (yp [wZ 29 28 27] 29 wy (ww 1 (xJ [qg 30 28,wx 31 1 26 28,qu 32 31,x9 30,qg 7 32] [qJ 34 1 3,yj 35,qp 36 eu (xO 34 35 (qj 200)),qg 33 36,xc 37 0 33,xc 38 1 33,wa 8 [.nils,qC,qC,.nils],qW 4 8 37,qg 9 38] (yi [qQ 10 .any,xw 41,qg 42 6,wx 43 1 41 42,qJ 40 1 3,qu 44 43,qp 45 ed (xO 40 44 (qj 200)),qg 39 45,xc 46 0 39,xc 47 1 39,wa 10 [.nils,qC,qC,.nils],qW 4 10 46,qg 11 47] [yj 48,xw 49,qg 50 6,wx 51 1 49 50,qu 52 51,wM 53 my 48 52,xo 54 53,qg 55 54,xx 56 55 9,qM 57 55 (wm 56),xT 58 55 57,qg 59 58,xx 60 59 11,qM 61 59 (wm 60),xT 62 59 61,qg 63 62,qM 64 63 (qk (some 4) 8),qM 65 63 (qk (some 4) 10),qM 66 63 (x8 gt 64 (.t 65)),qM 67 63 (wm 66),xT 68 63 67] 68 [yg] (wg [xU 69 8,qu 70 69,wh 71 70,qx 72 .neq 71 16,qg 73 72,xG 74 73 1 8,xA 75 73 74,qM 76 73 (xa .neq 75 0),xx 77 73 76,wV 78 77 2 8,wQ 79 77 78,xK 80 77 .neq 79 0,qM 81 73 (qS 77 (.t 80) wJ),xT 82 73 81] 82 [yg]))) (yr 83 28 28 83)))) [qg 84 4,wh 85 84,wd 86 85 3,qJ 87 1 3,xq 88 dk 87,wd 89 88 0,qb 90 (.beq false (.t 86) (.t 89)),qg 2 90])))⟩
theorem yx:ag Tryz.prog nW=some nY:=by kernel_rfl
end Go.Proofs.YtokiapglmedipaaGreatDoor
