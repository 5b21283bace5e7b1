/-
  Contracts and lemmas that the card needs, part 4.
-/
import Derived.Test.YtokiapglmedipaaGreatDoorFl3
import Derived.Test.YtokiapglmedipaaGreatDoorRows
namespace Go.Proofs.YtokiapglmedipaaGreatDoor
open Go Go.Aw
set_option maxRecDepth 100000
abbrev jr:FuncId:=56
abbrev kC:FuncId:=239
abbrev kX:FuncId:=235
abbrev nD:FuncId:=221
abbrev fL:FuncId:=236
abbrev nj:FuncId:=222
abbrev cw:FuncId:=195
abbrev iZ:FuncId:=237
abbrev iS:FuncId:=242
abbrev fz:FuncId:=240
abbrev gN:FuncId:=241
abbrev eJ:FuncId:=238
abbrev iR:FuncId:=223
abbrev bT:FuncId:=196
abbrev oc:FuncId:=164
abbrev eI:FuncId:=197
abbrev nz:FuncId:=165
abbrev dw:FuncId:=114
abbrev jh:FuncId:=199
abbrev bu:FuncId:=200
abbrev dJ:FuncId:=224
abbrev ja:FuncId:=225
abbrev ee:FuncId:=201
abbrev ef:FuncId:=227
abbrev cF:FuncId:=226
abbrev cf:FuncId:=202
abbrev lC:FuncId:=169
abbrev eV:FuncId:=119
abbrev mB:FuncId:=70
abbrev ju:FuncId:=101
abbrev iY:FuncId:=50
abbrev bX:FuncId:=184
abbrev ep:FuncId:=150
abbrev ka:FuncId:=186
abbrev ed:FuncId:=208
abbrev dC:FuncId:=209
abbrev nu:FuncId:=210
abbrev aZ:FuncId:=185
abbrev gY:FuncId:=187
abbrev gT:FuncId:=151
abbrev aJ:FuncId:=102
abbrev jd:FuncId:=51
abbrev dU:FuncId:=14
abbrev dc:FuncId:=57
abbrev fy:FuncId:=172
abbrev fk:FuncId:=122
abbrev dZ:FuncId:=173
abbrev de:FuncId:=124
abbrev cP:FuncId:=123
abbrev cu:FuncId:=75
abbrev cK:FuncId:=125
abbrev cb:FuncId:=76
abbrev cd:FuncId:=174
abbrev bK:FuncId:=126
abbrev fT:FuncId:=175
abbrev iQ:FuncId:=156
abbrev kP:FuncId:=228
abbrev fM:FuncId:=203
abbrev eL:FuncId:=176
abbrev jb:FuncId:=128
abbrev cy:FuncId:=127
abbrev cA:FuncId:=78
abbrev gB:FuncId:=129
abbrev eO:FuncId:=130
abbrev la:FuncId:=79
abbrev br:FuncId:=77
abbrev fa:FuncId:=37
abbrev cH:FuncId:=80
abbrev fJ:FuncId:=81
abbrev jo:FuncId:=39
abbrev cg:FuncId:=72
abbrev cU:FuncId:=73
abbrev ke:FuncId:=170
abbrev bY:FuncId:=121
abbrev bO:FuncId:=171
abbrev du:FuncId:=120
abbrev bx:FuncId:=74
abbrev fj:FuncId:=36
abbrev nX:FuncId:=68
abbrev dG:FuncId:=189
abbrev cJ:FuncId:=154
abbrev cx:FuncId:=155
abbrev lb:FuncId:=104
abbrev iV:FuncId:=53
abbrev bj:FuncId:=157
abbrev rD:FuncId:=105
abbrev dI:FuncId:=108
abbrev lI:FuncId:=212
abbrev dp:FuncId:=190
abbrev eM:FuncId:=215
abbrev kx:FuncId:=205
abbrev gU:FuncId:=180
abbrev dr:FuncId:=216
abbrev bJ:FuncId:=213
abbrev gE:FuncId:=214
abbrev fg:FuncId:=191
abbrev be:FuncId:=158
abbrev dt:FuncId:=107
abbrev dv:FuncId:=106
abbrev cT:FuncId:=54
abbrev fG:FuncId:=17
abbrev gy:FuncId:=20
abbrev cW:FuncId:=21
abbrev kR:FuncId:=60
abbrev aT:FuncId:=62
abbrev cz:FuncId:=65
abbrev cN:FuncId:=117
abbrev di:FuncId:=198
abbrev aS:FuncId:=194
abbrev gA:FuncId:=163
abbrev fZ:FuncId:=234
abbrev dy:FuncId:=218
abbrev eq:FuncId:=219
abbrev gP:FuncId:=220
abbrev gv:FuncId:=193
abbrev aW:FuncId:=162
abbrev fP:FuncId:=113
abbrev dg:FuncId:=61
abbrev gI:FuncId:=167
abbrev mr:FuncId:=166
abbrev md:FuncId:=115
abbrev iX:FuncId:=168
abbrev dB:FuncId:=118
abbrev mw:FuncId:=116
abbrev mf:FuncId:=63
abbrev og:FuncId:=64
abbrev ec:FuncId:=29
abbrev gH:FuncId:=27
abbrev mj:FuncId:=35
abbrev jE:FuncId:=28
abbrev ry:FuncId:=5
abbrev ku:FuncId:=67
@[reducible] def qa(a:Nat)(b:Option (Nat × Bool))(c:AI):CO:=⟨some a,b,c⟩
@[reducible] def qb(a:Nat)(b:AI):CO:=qa a none b
@[reducible] def qd(a:Nat)(b:AOp):CO:=qb a (.mov b)
@[reducible] def qe(a:List CO)(b:AK):AK:= .seq (.reg a) b
@[reducible] def qf(a:IntKind)(b:Int):AV:= .p (.int a b)
@[reducible] def qg(a b:Nat):CO:=qd a (.t b)
@[reducible] def qh(a:Int):AV:=qf .i64 a
@[reducible] def qi(a b:Nat):AI:= .fldA a (.t b)
@[reducible] def qj(a:Int):AOp:= .c (qh a)
@[reducible] def qk(a:Option Nat)(b:Nat):AI:= .ld a (.t b)
@[reducible] def ql(a:BinOp)(b:Nat)(c:AOp):AI:= .bin a (.t b) c
@[reducible] def qm(a:Nat)(b:Nat × Bool)(c:AI):CO:=qa a (some b) c
@[reducible] def qn(a:Nat)(b:Option Nat)(c:Nat):CO:=qb a (qk b c)
@[reducible] def qo(a:Nat)(b c:AK):AK:= .cond (.t a) b c
@[reducible] def qp(a:Nat)(b:FuncId)(c:List AOp):CO:=qb a (.call b c)
@[reducible] def qq(a b c:Nat):CO:=qb a (qi b c)
@[reducible] def qr(a:Nat)(b:BinOp)(c:Nat)(d:AOp):CO:=qb a (ql b c d)
@[reducible] def qt(a:Bool):AV:= .p (.bool a)
@[reducible] def qu(a b:Nat):CO:=qn a none b
@[reducible] def qv(a:List UInt8):AV:= .p (.str a)
@[reducible] def qw(a:Nat):AI:= .nilck (.t a)
@[reducible] def qx(a:Nat)(b:BinOp)(c:Nat)(d:Int):CO:=qr a b c (qj d)
@[reducible] def qy(a:Option (Nat × Bool))(b:AI):CO:=⟨none,a,b⟩
@[reducible] def qz:AV:=qt false
@[reducible] def qA(a:List CO):AK:=qe a .ret
@[reducible] def qB(a:List CO)(b:Nat)(c d:AK):AK:=qe a (qo b c d)
@[reducible] def qC:AV:=qh 0
@[reducible] def qD(a:AI):CO:=qy none a
@[reducible] def qF:AV:=qv []
@[reducible] def qG(a:Nat)(b c:AOp):CO:=qD (.st a b c)
@[reducible] def qH(a b c:Nat):CO:=qn a (some b) c
@[reducible] def qI(a:AOp):AI:= .len false a
@[reducible] def qJ(a:Nat)(b:Int):CO:=qd a (qj b)
@[reducible] def qK(a:List CO)(b c:AK):AK:=qe a (.seq b c)
@[reducible] def qL(a:List CO)(b:Nat)(c:AK):AK:=qB a b c .skip
@[reducible] def qM(a b:Nat)(c:Bool)(d:AI):CO:=qm a (b,c) d
@[reducible] def qN(a b:Nat)(c:AI):CO:=qM a b true c
@[reducible] def qO(a b:Nat)(c:AI):CO:=qM a b false c
@[reducible] def qQ(a:Nat)(b c:AOp):AI:= .pick (.t a) b c
@[reducible] def qS:AOp:= .c qz
@[reducible] def qT(a b:Nat)(c:AOp):CO:=qG a (.t b) c
@[reducible] def qU(a b c:Nat):CO:=qT a b (.t c)
@[reducible] def qV(a b:Nat):CO:=qb a (qw b)
@[reducible] def qW(a b:Nat)(c:AOp):AI:= .idxS a (.t b) c
@[reducible] def qX(a b:Nat)(c:List AV)(d:Nat)(e:List (Nat × Nat × AOp)):CO:=qb a (.bsl b c d e)
@[reducible] def qY(a:Nat)(b:List AV):CO:=qb a (.alloc b)
@[reducible] def qZ(a:Nat):CO:=qg a 0
@[reducible] def wa(a:Nat)(b:AK):AK:= .blk a (.loop b)
@[reducible] def wb(a b:Nat)(c:Int):CO:=qx a .eql b c
@[reducible] def wc(a:Nat):AI:=qI (.t a)
@[reducible] def wd(a:AK)(b:List CO):AK:= .seq a (.reg b)
@[reducible] def we:AV:=qt true
@[reducible] def wg(a:List CO)(b:Nat)(c:List CO):AK:=qL a b (qA c)
@[reducible] def wh(a:Nat):AI:= .mov (.t a)
@[reducible] def wj(a:Option Nat)(b c:Nat):CO:=qD (.chk a b c)
@[reducible] def wl(a:Nat)(b:BinOp)(c d:Nat):CO:=qr a b c (.t d)
@[reducible] def wm(a b:Nat)(c d:AOp):CO:=qb a (qQ b c d)
@[reducible] def wn(a b:Nat):CO:=qb a (wc b)
@[reducible] def wo(a:Nat):AI:= .not (.t a)
@[reducible] def wq(a:Nat):AI:=qk none a
@[reducible] def ws(a:Nat)(b:List AV)(c:List (Nat × Nat × AOp)):CO:=qb a (.bld b c)
@[reducible] def wt(a b:Nat):AI:= .box a (.t b)
@[reducible] def wu(a b c:Nat)(d:AOp):CO:=qb a (qW b c d)
@[reducible] def ww(a b:Nat):AI:= .ext a (.t b)
@[reducible] def wx(a:Nat)(b:List AOp):CO:=qp a aT b
@[reducible] def wy(a:Nat)(b:AK)(c:List CO):AK:=wd (.blk a b) c
@[reducible] def wz:AOp:= .c we
@[reducible] def wA:AK:= .exit 0
@[reducible] def wB(a b c d:Nat):CO:=wu a b c (.t d)
@[reducible] def wD(a b c:Nat):Nat × Nat × AOp:=(a,b,.t c)
@[reducible] def wE(a b:Nat)(c:Int):CO:=qx a .add b c
@[reducible] def wF(a b c:Nat)(d:AOp):AI:= .app a b (.t c) d
@[reducible] def wG(a:Nat)(b:AOp):List AOp:=[.t a,b]
@[reducible] def wH(a:Nat)(b:FuncId)(c:Nat)(d:AOp):CO:=qp a b (wG c d)
@[reducible] def wI(a:Nat)(b:FuncId)(c d:Nat):CO:=wH a b c (.t d)
@[reducible] def wJ(a b c:Nat):CO:=qb a (wt b c)
@[reducible] def wK(a:Nat):CO:=qd a qS
@[reducible] def wL(a:List CO)(b:Nat)(c:AK):AK:=qB a b .skip c
@[reducible] def wM(a:List CO)(b:Nat)(c d:AK):AK:= .seq (wL a b c) d
@[reducible] def wN(a b c:Nat):CO:=qb a (ww b c)
@[reducible] def wP(a:BinOp)(b:Nat)(c:Int):AI:=ql a b (qj c)
@[reducible] def wQ(a:List UInt8):AOp:= .c (qv a)
@[reducible] def wR(a:List CO)(b:Nat)(c:AK):AK:=qe a (wa b c)
@[reducible] def wS(a:Nat):CO:=qJ a 0
@[reducible] def wT(a:CO)(b c:Nat):List CO:=[a,qg b c]
@[reducible] def wU(a b:Nat)(c:Int)(d e:Nat):List CO:=wT (wb a b c) d e
@[reducible] def wV(a b:Nat):CO:=qq a 0 b
@[reducible] def wW(a b c:Nat):CO:=wI a cz b c
@[reducible] def wX(a b:Nat):CO:=wj none a b
@[reducible] def wY(a:List CO)(b:AK)(c:List CO):AK:=qK a b (qA c)
@[reducible] def wZ(a b c:Nat):CO:=qN a b (wq c)
@[reducible] def xa(a b c d:Nat):CO:=qN a b (qi c d)
@[reducible] def xb(a b c:Nat):CO:=wl a .lss b c
@[reducible] def xc(a b:List CO):AK:=qe a (qA b)
@[reducible] def xd(a b:Nat)(c:Int):Nat × Nat × AOp:=(a,b,qj c)
@[reducible] def xe(a:Nat)(b:Int):Nat × Nat × AOp:=xd a 1 b
@[reducible] def xf(a:Nat):CO:=qg a 1
@[reducible] def xg(a b c:Nat)(d:AOp):CO:=wm a b (.t c) d
@[reducible] def xh(a b c d:Nat):AI:=wF a b c (.t d)
@[reducible] def xi(a b:Nat)(c:AOp)(d:Nat):CO:=wm a b c (.t d)
@[reducible] def xj(a b c d e:Nat):CO:=qb a (xh b c d e)
@[reducible] def xk:CO:=wK 4
@[reducible] def xm(a:List CO)(b:Nat)(c:List CO):AK:=qL a b (.reg c)
@[reducible] def xn(a b:Nat):CO:=qb a (wo b)
@[reducible] def xo(a b:Nat):Nat × Nat × AOp:=wD a 1 b
@[reducible] def xp(a b:Nat)(c:Int)(d e f:Nat)(g h:AK):AK:=qB (wU a b c d e) f g h
@[reducible] def xq(a:Nat):CO:=qg a 5
@[reducible] def xr(a:Nat):List AOp:=[.t a]
@[reducible] def xt(a:Nat)(b:FuncId)(c:Nat):CO:=qp a b (xr c)
@[reducible] def xu:RV:= .t 4
@[reducible] def xv(a b:Nat):CO:=qq a 2 b
@[reducible] def xw(a b:Nat):CO:=qU 1 a b
@[reducible] def xx(a:Nat):CO:=qg a 2
@[reducible] def xy(a b c:Nat):CO:=qO a b (wh c)
@[reducible] def xz(a b c:Nat):CO:=qN a b (wh c)
@[reducible] def xA(a b c:Nat):CO:=qO a b (wq c)
@[reducible] def xB(a:Nat)(b:AV):CO:=qd a (.c b)
@[reducible] def xC(a:Nat)(b:List AOp):CO:=qp a bJ b
@[reducible] def xD(a b c d:Nat):CO:=qO a b (qi c d)
@[reducible] def xE(a b:Nat)(c:BinOp)(d:Nat)(e:Int):CO:=qN a b (wP c d e)
@[reducible] def xF(a:List CO)(b:Nat)(c:AK)(d:Nat)(e:AK)(f:List CO):AK:=wM a b c (wy d e f)
@[reducible] def xG(a b:Nat)(c:Int):CO:=qx a .sub b c
@[reducible] def xH(a b:List CO)(c:AK):AK:=qe a (qe b c)
@[reducible] def xI(a b c:Nat):CO:=wI a cN b c
@[reducible] def xJ:RV:= .t 2
@[reducible] def xK(a:Nat)(b:AK):AK:=qo a .skip b
@[reducible] def xL(a b:Nat):CO:=qq a 1 b
@[reducible] def xM(a:Nat)(b c:AOp):List AOp:=[.t a,b,c]
@[reducible] def xN(a b:Nat)(c:AOp):List AOp:=xM a (.t b) c
@[reducible] def xO(a b c:Nat):List AOp:=xN a b (.t c)
@[reducible] def xP(a:Nat)(b:FuncId)(c d e:Nat):CO:=qp a b (xO c d e)
@[reducible] def xQ:CO:=wS 4
@[reducible] def xR(a b:Nat)(c:List AV)(d:Nat)(e:List (Nat × Nat × AOp)):CO:=qb a (.bslP b c d e)
@[reducible] def xS(a b:Nat):RV:= .c a (some b)
@[reducible] def xT(a b c:Nat):CO:=xg a b c qS
@[reducible] def xU(a:List CO)(b:Nat)(c:List CO)(d:Nat)(e:AK)(f:Nat)(g:AK)(h:List CO):AK:=wR a b (xF c d e f g h)
@[reducible] def xV(a:Nat)(b:FuncId)(c:Nat)(d:Int):CO:=wH a b c (qj d)
@[reducible] def xW(a:AK)(b:List CO):AK:= .seq a (qA b)
@[reducible] def xX(a:Nat):CO:=qg 6 a
@[reducible] def xY(a b c:Nat):CO:=xi a b wz c
@[reducible] def xZ(a b:Nat):CO:=qq a 3 b
@[reducible] def x7(a:FuncId)(b:Nat)(c:AOp):AI:= .call a (wG b c)
@[reducible] def x8(a:List AOp):AI:= .call jr a
@[reducible] def x9(a b:Nat):CO:=wE a b 1
@[reducible] def ya(a b:Nat)(c:Int):CO:=xV a gA b c
@[reducible] def yb(a b:List CO):AK:=qe a (.reg b)
@[reducible] def yc(a:Nat):CO:=qg a 8
@[reducible] def yd(a b:Nat):CO:=qH a 4 b
@[reducible] def ye(a b:Nat)(c:Int):CO:=xV a cg b c
@[reducible] def yf(a b:List CO)(c:Nat)(d:List CO)(e:AK):AK:=qK a (wg b c d) e
@[reducible] def yg(a:Nat):CO:=qg a 7
@[reducible] def yh:AOp:=qj 0
@[reducible] def yi:List AV:=[.nils]
@[reducible] def yj(a b:Nat)(c:AOp):CO:=wx a (wG b c)
@[reducible] def yk(a:BinOp)(b:Nat)(c:AOp):AI:= .bins a (.t b) c
@[reducible] def yl(a b c:Nat):CO:=wj (some a) b c
@[reducible] def ym(a b:Nat):Nat × Nat × AOp:=wD 0 a b
@[reducible] def yn(a:Int):Nat × Nat × AOp:=xe 0 a
@[reducible] def yp:CO:=wK 2
@[reducible] def yq(a:Nat):CO:=qg a 6
@[reducible] def yr(a b c d:Nat):CO:=xP a aZ b c d
def pc:FK:=⟨15,[.t 6],xc [wK 6] [qZ 7,xf 8,wl 9 .geq 7 8,qg 10 9,xz 11 10 0,xz 12 10 2,qN 13 10 (ql .leq 11 (.t 12)),xT 14 10 13,xX 14]⟩
theorem EX:ag Tryz.prog jr=some pc:=by kernel_rfl
def oV:FK:=⟨18,[xu],wY [xQ] (xU [wS 5] 0 [xq 6,qZ 7,qb 8 (.len true (.t 7)),xb 9 6 8] 9 wA 1 (wg [qZ 12,xq 13,qb 14 (.idxStr (.t 12) (.t 13)),xf 15,wl 16 .eql 14 15] 16 (wT (xq 17) 4 17)) [xq 10,x9 11 10,qg 5 11]) [qJ 4 (-1)]⟩
theorem yY:ag Tryz.prog kC=some oV:=by kernel_rfl
def oy:FK:=⟨28,[xJ],wY [wS 2] (.blk 0 (qB [qZ 4,qr 5 .geq 4 (.c (qf .u8 97)),xq 6,xz 7 6 0,qN 8 6 (ql .leq 7 (.c (qf .u8 122))),xT 9 6 8,qg 3 9] 3 (qA [qJ 2 1]) (qB [qZ 11,qr 12 .geq 11 (.c (qf .u8 48)),qg 13 12,xz 14 13 0,qN 15 13 (ql .leq 14 (.c (qf .u8 57))),xT 16 13 15,qg 10 16] 10 (qA [qJ 2 2]) (qB [qZ 18,qp 19 kC [wQ [40,41,123,125,59,44,43,45,42,47,37,60,61,38,33,64],.t 18],qx 20 .geq 19 0,qg 17 20] 17 (qA [qJ 2 3]) (wg [qZ 22,qr 23 .eql 22 (.c (qf .u8 32)),qg 24 23,xy 25 24 0,qO 26 24 (ql .eql 25 (.c (qf .u8 10))),xY 27 24 26,qg 21 27] 21 [qJ 2 4]))))) [wS 2]⟩
theorem zY:ag Tryz.prog kX=some oy:=by kernel_rfl
def um:FK:=⟨21,[xu],wY [xk] (xU [wS 5] 0 [xq 6,qZ 7,qb 8 (.len true (.t 7)),xb 9 6 8] 9 wA 1 (wg [qZ 12,xq 13,qb 14 (.idxStr (.t 12) (.t 13)),xt 15 kX 14,xf 16,wl 17 .neq 15 16] 17 [xk]) [xq 10,x9 11 10,qg 5 11]) [qZ 18,qb 19 (.len true (.t 18)),qx 20 .gtr 19 0,qg 4 20]⟩
theorem Cy:ag Tryz.prog nD=some um:=by kernel_rfl
def nI:FK:=⟨2,[.t 0],xc [xB 0 .nils] (wT (qX 1 1 [qF] 9 [(0,1,wQ [102,110]),(1,1,wQ [108,101,116]),(2,1,wQ [115,97,121]),(3,1,wQ [112,117,116]),(4,1,wQ [105,102]),(5,1,wQ [101,108,115,101]),(6,1,wQ [108,111,111,112]),(7,1,wQ [98,97,99,107]),(8,1,wQ [100,111])]) 0 1)⟩
theorem vR:ag Tryz.prog fL=some nI:=by kernel_rfl
def tG:FK:=⟨18,[xJ],qe [yp] (wY (wT (qp 5 fL []) 3 5) (xU [xQ] 0 [xX 4,qg 7 3,wn 8 7,xb 9 6 8] 9 wA 1 (wg [qg 12 3,qg 13 4,wB 14 1 12 13,qu 15 14,qZ 16,qb 17 (yk .eql 15 (.t 16))] 17 [qd 2 wz]) [qg 10 4,x9 11 10,qg 4 11]) [yp])⟩
theorem CC:ag Tryz.prog nj=some tG:=by kernel_rfl
def rp:FK:=⟨15,[xJ],xc [yp] [qZ 3,xV 4 nD 3 1,qg 5 4,xz 6 5 0,qN 7 5 (.len true (.t 6)),xE 8 5 .leq 7 4,xT 9 5 8,qg 10 9,xz 11 10 0,qN 12 10 (.call nj (xr 11)),qN 13 10 (wo 12),xT 14 10 13,qg 2 14]⟩
theorem AH:ag Tryz.prog cw=some rp:=by kernel_rfl
def mb:FK:=⟨5,[xJ],wY [wS 2] (wg [qZ 3,wb 4 3 4] 4 [qJ 2 2]) [qJ 2 1]⟩
theorem AL:ag Tryz.prog iZ=some mb:=by kernel_rfl
def dh:FK:=⟨13,[xJ,.t 3],wY [wS 2,wS 3] (qe [qZ 4] (.blk 0 (wM (wU 6 4 1 5 6) 5 (.reg (wU 7 4 2 5 7)) (qo 5 (qA [wS 2,wS 3]) (wM (wU 9 4 11 8 9) 8 (.reg (wU 10 4 12 8 10)) (qo 8 (qA [qJ 2 1,qJ 3 1]) (wg (wU 12 4 13 11 12) 11 [wS 2,qJ 3 3]))))))) [qJ 2 2,qJ 3 2]⟩
theorem AE:ag Tryz.prog iS=some dh:=by kernel_rfl
def iU:FK:=⟨86,[xu],qe [wJ 2 4 0,xk] (yf [wV 10 2,qu 11 10,xt 12 iS 11,qg 9 12,wN 13 0 9,wN 14 1 9,qg 5 13,xX 14] [xf 15,qx 16 .lss 15 1,qg 17 16,xD 18 17 0 2,xA 19 17 18,qO 20 17 (x8 (xM 19 (qj 1) (qj 13))),qO 21 17 (wo 20),xY 22 17 21,qg 23 22,xD 24 23 3 2,xA 25 23 24,qO 26 23 (wc 25),xy 27 23 5,xy 28 23 6,qO 29 23 (x8 (xO 26 27 28)),qO 30 23 (wo 29),xY 31 23 30] 31 [xk] (yf [wV 32 2,qu 33 32,wb 34 33 2,qg 35 34,xD 36 35 0 2,xA 37 35 36,qO 38 35 (wP .eql 37 13),xY 39 35 38,qg 7 39] [yg 40,xv 41 2,qu 42 41,xt 43 cw 42,qb 44 (.beq true (.t 40) (.t 43)),qg 45 44,xy 46 45 7,qO 47 45 (wo 46),xy 48 45 47,xa 49 48 2 2,wZ 50 48 49,qN 51 48 (yk .neq 50 (.c qF)),qO 52 45 (qQ 48 (.t 51) qS),xY 53 45 52,qg 54 53,xD 55 54 1 2,xA 56 54 55,qO 57 54 (x8 (xM 56 yh (qj 255))),qO 58 54 (wo 57),xY 59 54 58,qg 60 59,xD 61 60 0 2,xA 62 60 61,qO 63 60 (wP .neq 62 1),xy 64 60 63,xa 65 64 1 2,wZ 66 64 65,xE 67 64 .neq 66 0,qO 68 60 (qQ 64 (.t 67) qS),xY 69 60 68] 69 [xk] (xW (xU [wS 8] 0 [yc 70,xZ 71 2,qu 72 71,wn 73 72,xb 74 70 73] 74 wA 1 (wg [xZ 77 2,qu 78 77,yc 79,wB 80 4 78 79,yd 81 80,xf 82,xG 83 82 1,wI 84 fz 81 83,xn 85 84] 85 [xk]) [yc 75,x9 76 75,qg 8 76]) [qd 4 wz])))⟩
theorem rA:ag Tryz.prog fz=some iU:=by kernel_rfl
def nT:FK:=⟨21,[xJ],qe [wJ 1 4 0,wS 2] (wY [qJ 3 1] (xU [xQ] 0 [qg 5 4,xZ 6 1,qu 7 6,wn 8 7,xb 9 5 8] 9 wA 1 (.reg [qg 12 3,xZ 13 1,qu 14 13,qg 15 4,wB 16 4 14 15,yd 17 16,xt 18 gN 17,wl 19 .add 12 18,qg 3 19]) [qg 10 4,x9 11 10,qg 4 11]) (wT (qg 20 3) 2 20))⟩
theorem zV:ag Tryz.prog gN=some nT:=by kernel_rfl
def mG:FK:=⟨10,[xJ],xc [wJ 1 4 0,yp] [yd 3 1,xV 4 fz 3 6,qg 5 4,qN 6 5 (qk (some 4) 1),qN 7 5 (.call gN (xr 6)),xE 8 5 .leq 7 30,xT 9 5 8,qg 2 9]⟩
theorem uW:ag Tryz.prog eJ=some mG:=by kernel_rfl
def iP:FK:=⟨108,[xu],yf [wJ 2 5 0,xk] [xf 7,qx 8 .lss 7 1,yc 9,xD 10 9 0 2,xA 11 9 10,qO 12 9 (x8 (xM 11 (qj 1) (qj 8))),qO 13 9 (wo 12),xY 14 9 13,qg 15 14,xD 16 15 2 2,xD 19 15 0 2,xA 17 15 16,qO 18 15 (wc 17),xA 20 15 19,qO 21 15 (.qcall iZ (xr 20)),qO 22 15 (ql .neq 18 (.t 21)),xY 23 15 22] 23 [xk] (yf [wV 24 2,qu 25 24,wb 26 25 1,qg 27 26,xD 28 27 0 2,xA 29 27 28,qO 30 27 (wP .eql 29 2),xY 31 27 30,qg 5 31] [xq 32,xL 33 2,qu 34 33,xt 35 cw 34,qb 36 (.beq true (.t 32) (.t 35)),qg 37 36,xy 38 37 5,qO 39 37 (wo 38),xy 40 37 39,xa 41 40 1 2,wZ 42 40 41,qN 43 40 (yk .neq 42 (.c qF)),qO 44 37 (qQ 40 (.t 43) qS),xY 45 37 44] 45 [xk] (.seq (xU [wS 6] 0 [yq 46,xv 47 2,qu 48 47,wn 49 48,xb 50 46 49] 50 wA 1 (wg [xv 53 2,qu 54 53,yq 55,wB 56 4 54 55,yd 57 56,xt 58 eJ 57,xn 59 58] 59 [xk]) [yq 51,x9 52 51,xX 52]) (.seq (wg [wV 60 2,qu 61 60,wb 62 61 8,qg 63 62,xa 64 63 2 2,wZ 65 63 64,qN 66 63 (qW 4 65 yh),xa 67 63 0 66,wZ 68 63 67,xE 69 63 .neq 68 13,xT 70 63 69] 70 [xk]) (xW (wg [qq 71 4 2,qu 72 71,wn 73 72,qx 74 .gtr 73 0,qg 75 74,xa 76 75 0 2,wZ 77 75 76,xE 78 75 .neq 77 5,xT 79 75 78,qg 80 79,xD 81 80 3 2,xA 82 80 81,qO 83 80 (wc 82),qO 84 80 (wP .gtr 83 0),xy 85 80 84,xa 86 85 0 2,wZ 87 85 86,xE 88 85 .neq 87 5,qO 89 80 (qQ 85 (.t 88) qS),xy 90 80 89,xa 91 90 0 2,wZ 92 90 91,xE 93 90 .neq 92 6,qO 94 80 (qQ 90 (.t 93) qS),xY 95 80 94] 95 [xk]) [xZ 96 2,qu 97 96,xf 98,xG 99 98 1,wI 100 bT 97 99,qg 101 100,xa 102 101 4 2,wZ 103 101 102,xz 104 101 1,xE 105 101 .sub 104 1,qN 106 101 (x7 bT 103 (.t 105)),xT 107 101 106,qg 4 107]))))⟩
theorem ri:ag Tryz.prog iR=some iP:=by kernel_rfl
def oF:FK:=⟨19,[xu],wY [xk] (xU [wS 5] 0 [xq 6,qZ 7,wn 8 7,xb 9 6 8] 9 wA 1 (wg [qZ 12,xq 13,wB 14 5 12 13,qH 15 5 14,xf 16,wI 17 iR 15 16,xn 18 17] 18 [xk]) [xq 10,x9 11 10,qg 5 11]) [qd 4 wz]⟩
theorem zn:ag Tryz.prog bT=some oF:=by kernel_rfl
def vr:FK:=⟨32,[xJ],wY [wJ 1 3 0,yp] (xU [wS 3] 0 [qg 4 3,xL 5 1,qu 6 5,wn 7 6,xb 8 4 7] 8 wA 1 (wg [xL 11 1,qu 12 11,qg 13 3,wB 14 1 12 13,qu 15 14,xt 16 cw 15,xn 17 16] 17 [yp]) [qg 9 3,x9 10 9,qg 3 10]) [wV 18 1,qu 19 18,xt 20 cw 19,qg 21 20,xa 22 21 1 1,wZ 23 21 22,qN 24 21 (wc 23),xE 25 21 .leq 24 3,xT 26 21 25,qg 27 26,xa 28 27 2 1,wZ 29 27 28,qN 30 27 (x7 bT 29 (qj 4)),xT 31 27 30,qg 2 31]⟩
theorem Ey:ag Tryz.prog oc=some vr:=by kernel_rfl
def ky:FK:=⟨29,[xJ],qe [wS 2] (wY [qZ 5,wn 6 5,yq 3] (xU [xQ] 0 [qg 7 4,qZ 8,wn 9 8,xb 10 7 9] 10 wA 1 (.reg [qg 13 3,qZ 14,qg 15 4,wB 16 5 14 15,xZ 17 16,qZ 21,qg 22 4,wB 23 5 21 22,qq 24 4 23,qu 18 17,qu 25 24,xt 19 eI 18,wX 24 25,wl 20 .add 13 19,xt 26 eI 25,wl 27 .add 20 26,qg 3 27]) [qg 11 4,x9 12 11,qg 4 12]) (wT (qg 28 3) 2 28))⟩
theorem oM:ag Tryz.prog eI=some ky:=by kernel_rfl
def tC:FK:=⟨22,[xJ],qe [wJ 1 1 0,wS 2] (wY [wS 3] (xU [xQ] 0 [qg 5 4,wV 6 1,qu 7 6,wn 8 7,xb 9 5 8] 9 wA 1 (.reg [qg 12 3,wV 13 1,qu 14 13,qg 15 4,wB 16 3 14 15,xv 17 16,qu 18 17,xt 19 eI 18,wl 20 .add 12 19,qg 3 20]) [qg 10 4,x9 11 10,qg 4 11]) (wT (qg 21 3) 2 21))⟩
theorem Cg:ag Tryz.prog nz=some tC:=by kernel_rfl
def jJ:FK:=⟨26,[xJ],yf [wJ 1 1 0,yp] [wV 4 1,qu 5 4,wn 6 5,qp 7 jr (xM 6 (qj 1) (qj 4)),xn 8 7] 8 [yp] (xW (xU [wS 3] 0 [qg 9 3,wV 10 1,qu 11 10,wn 12 11,xb 13 9 12] 13 wA 1 (wg [wV 16 1,qu 17 16,qg 18 3,wB 19 3 17 18,qH 20 3 19,xt 21 oc 20,xn 22 21] 22 [yp]) [qg 14 3,x9 15 14,qg 3 15]) [qH 23 1 1,xt 24 nz 23,qx 25 .leq 24 40,qg 2 25])⟩
theorem pN:ag Tryz.prog dw=some jJ:=by kernel_rfl
def vF:FK:=⟨22,[xu],wY [wJ 2 1 0,xQ] (xU [wS 5] 0 [xq 6,wV 7 2,qu 8 7,wn 9 8,xb 10 6 9] 10 wA 1 (wg [wV 13 2,qu 14 13,xq 15,wB 16 3 14 15,wV 17 16,qu 18 17,xf 19,qb 20 (yk .eql 18 (.t 19))] 20 (wT (xq 21) 4 21)) [xq 11,x9 12 11,qg 5 12]) [qJ 4 (-1)]⟩
theorem Ds:ag Tryz.prog jh=some vF:=by kernel_rfl
def fV:FK:=⟨13,[],xm [qZ 4,qV 5 4,qq 6 4 5,qu 7 6,wb 8 7 0] 8 [qZ 9,xf 10,qV 11 9,qq 12 4 11,xw 12 10]⟩
theorem sL:ag Tryz.prog bu=some fV:=by kernel_rfl
def ga:FK:=⟨27,[xu],wY [xQ] (xU [qZ 6,qV 7 6,xv 8 7,qu 9 8,wn 10 9,xG 11 10 1,qg 5 11] 0 [xq 12,qx 13 .geq 12 0] 13 wA 1 (wg [qZ 16,qV 17 16,xv 18 17,qu 19 18,xq 20,wB 21 3 19 20,wV 22 21,qu 23 22,xf 24,qb 25 (yk .eql 23 (.t 24))] 25 (wT (xq 26) 4 26)) [xq 14,xG 15 14 1,qg 5 15]) [qJ 4 (-1)]⟩
theorem sE:ag Tryz.prog dJ=some ga:=by kernel_rfl
def rR:FK:=⟨11,[xJ],qe [xB 2 qF] (xc [qZ 4,qx 5 .rem 4 26,xq 3] [xX 3,qg 7 3,x9 8 7,qb 9 (.slStr (wQ [97,98,99,100,101,102,103,104,105,106,107,108,109,110,111,112,113,114,115,116,117,118,119,120,121,122]) (some (.t 6)) (some (.t 8))),qb 10 (.bins .add (wQ [118]) (.t 9)),qg 2 10])⟩
theorem AR:ag Tryz.prog ja=some rR:=by kernel_rfl
def hZ:AK:=xH [xB 6 qF] [qZ 8,xf 9,wI 10 dJ 8 9,qg 7 10] (.cut (xm [yg 11,qx 12 .geq 11 0,qg 13 12,xz 14 13 0,qN 15 13 (qw 14),xa 16 13 2 15,wZ 17 13 16,xz 18 13 7,qN 19 13 (qW 3 17 (.t 18)),xa 20 13 2 19,wZ 21 13 20,xz 22 13 2,qN 23 13 (ql .eql 21 (.t 22)),xT 24 13 23] 24 [qZ 25,xV 26 bu 25 2]) (qe [qZ 27,qZ 28,qV 29 28,xv 30 29,xf 32,qZ 33,qV 34 33,xZ 35 34,xx 37,qu 31 30,qu 36 35,ws 38 [qF,qC,qC] [xo 0 32,xo 1 36,xo 2 37],xR 39 3 [qF,qC,qC] 1 [ym 3 38],xj 40 3 32 31 39,qV 41 27,xv 42 41,xw 42 40] (xc [qZ 43,qZ 44,qV 45 44,xZ 46 45,qu 47 46,x9 48 47,qV 49 43,xZ 50 49,xw 50 48] [qZ 51,qV 52 51,xZ 53 52,qu 54 53,xG 55 54 1,xt 56 ja 55,xX 56])))
def gu:FK:=⟨57,[.t 6],(AK.whole hZ)⟩
theorem ue:ag Tryz.prog ee=some gu:=by kernel_rfl
def lK:FK:=⟨23,[xu],qe [xB 4 qF] (wY [qZ 6,xf 7,wI 8 dJ 6 7,yc 5] (qL [xq 9,qx 10 .lss 9 0] 10 (xc [qZ 11,xV 12 bu 11 3] (wT (xf 13) 4 13))) [qZ 14,qV 15 14,xv 16 15,qu 17 16,xq 18,wB 19 3 17 18,xL 20 19,qu 21 20,xt 22 ja 21,qg 4 22])⟩
theorem sW:ag Tryz.prog ef=some lK:=by kernel_rfl
def gi:AK:=qe [wJ 3 4 1,qY 4 [qC,qC,qF,.nils]] (.cut (xm [wV 8 3,qu 9 8,wb 10 9 2] 10 [qZ 11,xv 12 3,qu 13 12,wI 14 ef 11 13,xv 15 3,xw 15 14]) (.cut (qL [wV 16 3,qu 17 16,wb 18 17 13] 18 (qe [qZ 19,qV 20 19,wV 21 20,xv 23 3,qH 22 1 21,qu 24 23,wI 25 jh 22 24,qg 5 25] (qB [xq 26,qx 27 .lss 26 0,qg 28 27,xy 29 28 5,xy 30 28 0,qO 31 28 (qw 30),xD 32 28 1 31,xA 33 28 32,qO 34 28 (ql .geq 29 (.t 33)),xY 35 28 34] 35 (.reg [qZ 36,xV 37 bu 36 4]) (xm [qZ 38,qV 39 38,wV 40 39,wV 41 40,xq 43,xZ 48 3,qu 42 41,wB 44 3 42 43,xL 45 44,qu 46 45,wn 47 46,qu 49 48,wn 50 49,wl 51 .neq 47 50] 51 [qZ 52,xV 53 bu 52 5])))) (qK (wT (qX 54 4 [qC,qC,qF,.nils] 0 []) 6 54) (xU [wS 7] 0 [yg 55,xZ 56 3,qu 57 56,wn 58 57,xb 59 55 58] 59 wA 1 (.reg [yq 62,qZ 63,xZ 64 3,qu 65 64,yg 66,wB 67 4 65 66,yd 68 67,wI 69 cF 63 68,qX 70 4 [qC,qC,qF,.nils] 1 [ym 4 69],xj 71 4 56 62 70,xX 71]) [yg 60,x9 61 60,qg 7 61]) (xc [yq 72,xZ 73 3,xw 73 72] [yd 74 3,qU 4 4 74]))))
def gg:FK:=⟨75,[xS 4 4],(AK.whole gi)⟩
theorem sf:ag Tryz.prog cF=some gg:=by kernel_rfl
def fe:AK:=xH [xB 6 .nils] (wT (qX 13 5 [qC,qF,.nils,.nils,.nils] 0 []) 7 13) (qK [qZ 14,qV 15 14,xv 16 15,qu 17 16,wn 18 17,qg 8 18] (xU [wS 9] 0 [qg 19 9,xf 20,wn 21 20,xb 22 19 21] 22 wA 1 (qe [xf 25,qg 26 9,wB 27 5 25 26,qH 28 5 27,qY 10 [qC,qF,.nils,.nils,.nils],qU 5 10 28] (qK (wT (qX 29 4 [qC,qC,qF,.nils] 0 []) 11 29) (xU [wS 12] 2 [qg 30 12,xv 31 10,qu 32 31,wn 33 32,xb 34 30 33] 34 (.exit 2) 3 (.reg [qg 37 11,qZ 38,xv 39 10,qu 40 39,qg 41 12,wB 42 4 40 41,yd 43 42,wI 44 cF 38 43,qX 45 4 [qC,qC,qF,.nils] 1 [ym 4 44],xj 46 4 56 37 45,qg 11 46]) [qg 35 12,x9 36 35,qg 12 36]) (.cut (.reg [qg 47 11,xv 48 10,xw 48 47]) (.cut (xm [wV 49 10,qu 50 49,wb 51 50 1] 51 [qZ 52,xL 53 10,qu 54 53,xx 55,xP 56 ee 52 54 55,xL 57 10,xw 57 56]) (.cut (xm [wV 58 10,qu 59 58,wb 60 59 2] 60 [qZ 61,xL 62 10,qu 63 62,wI 64 ef 61 63,xL 65 10,xw 65 64]) (xH [qZ 66,xZ 67 10,qu 68 67,xx 69,x9 70 69,xP 71 cf 66 68 70,xZ 72 10,xw 72 71] [qZ 73,qq 74 4 10,qu 75 74,xx 76,x9 77 76,xP 78 cf 73 75 77,qq 79 4 10,xw 79 78] (.reg [yg 80,qH 81 5 10,qX 82 5 [qC,qF,.nils,.nils,.nils] 1 [ym 5 81],xj 83 5 96 80 82,qg 7 83]))))))) [qg 23 9,x9 24 23,qg 9 24]) (.cut (xm [xx 84,qx 85 .gtr 84 0] 85 [qZ 86,qZ 87,qV 88 87,xv 89 88,qu 90 89,yc 91,qb 92 (.slS 3 (.t 90) none (some (.t 91))),qV 93 86,xv 94 93,xw 94 92]) (qA (wT (yg 95) 6 95))))
def fw:FK:=⟨96,[.t 6],(AK.whole fe)⟩
theorem pQ:ag Tryz.prog cf=some fw:=by kernel_rfl
def oe:AK:=xH [wJ 2 1 0,qY 4 [qF,.nils,.nils],wS 5,wS 6] [qH 11 1 2,xf 12,ws 13 [.nils,qC,.nils,qC,qC] [xo 0 11,xo 1 12],wJ 14 5 13,qg 7 14] (.cut (.reg [wV 15 2,qu 16 15,xf 17,wB 18 3 16 17,qH 19 3 18,qY 8 [qF,.nils,.nils],qU 3 8 19]) (.cut (xm [qH 20 1 2,wV 21 8,qu 22 21,wI 23 jh 20 22,xf 24,wl 25 .neq 23 24] 25 [yg 26,xV 27 bu 26 2]) (qK (wT (qX 28 1 [qF] 0 []) 9 28) (xU [wS 10] 0 [qg 29 10,xL 30 8,qu 31 30,wn 32 31,xb 33 29 32] 33 wA 1 (.reg [qg 36 9,yg 37,xL 38 8,qu 39 38,qg 40 10,wB 41 1 39 40,qu 42 41,qp 43 ee (xN 37 42 yh),qX 44 1 [qF] 1 [xo 0 43],xj 45 1 16 36 44,qg 9 45]) [qg 34 10,x9 35 34,qg 10 35]) (qe [qg 46 9,xL 47 8,xw 47 46] (xc [yg 48,xv 49 8,qu 50 49,qp 51 cf (xN 48 50 yh),xv 52 8,xw 52 51] [yg 54,qV 55 54,qq 56 4 55,yg 58,qV 59 58,xZ 60 59,qH 53 3 8,qu 57 56,qu 61 60,qU 3 4 53,wX 56 57,wX 60 61,qg 5 57,xX 61])))))
def ow:FK:=⟨62,[xS 4 3,.t 5,.t 6],(AK.whole oe)⟩
theorem EV:ag Tryz.prog lC=some ow:=by kernel_rfl
def jZ:FK:=⟨27,[xJ],yf [wJ 1 1 0,wS 2] [qH 7 1 1,xt 8 dw 7,xn 9 8] 9 [qJ 2 1] (xW (xU [wS 3] 0 [qg 10 3,wV 11 1,qu 12 11,wn 13 12,xb 14 10 13] 14 wA 1 (qe [qH 18 1 1,qg 19 3,wI 20 lC 18 19,qg 17 20,wN 21 0 17,wN 22 1 17,wN 23 2 17,qY 4 [qF,.nils,.nils],qU 3 4 21,qg 5 22,xX 23] (wg [xq 24,qx 25 .neq 24 0] 25 (wT (xq 26) 2 26))) [qg 15 3,x9 16 15,qg 3 16]) [wS 2])⟩
theorem pJ:ag Tryz.prog eV=some jZ:=by kernel_rfl
def rj:FK:=⟨6,[xJ],xc [wJ 1 1 0,yp] [qH 3 1 1,xt 4 eV 3,wb 5 4 0,xq 2]⟩
theorem AY:ag Tryz.prog mB=some rj:=by kernel_rfl
def nK:FK:=⟨16,[xJ],wY [yp] (xU [wS 3] 0 [qg 4 3,qZ 5,wn 6 5,xb 7 4 6] 7 wA 1 (wg [qZ 10,qg 11 3,wB 12 1 10 11,qu 13 12,qp 14 jr (xM 13 yh (qj 255)),xn 15 14] 15 [yp]) [qg 8 3,x9 9 8,qg 3 9]) [qd 2 wz]⟩
theorem yt:ag Tryz.prog ju=some nK:=by kernel_rfl
def rH:FK:=⟨26,[xu],xc [wJ 2 1 0,xk] [qH 5 1 2,xt 6 mB 5,yq 7,xz 8 7 1,qN 9 7 (.call ju (xr 8)),xT 10 7 9,qg 11 10,xz 12 11 1,qN 13 11 (wc 12),xa 14 11 0 2,wZ 15 11 14,xa 16 11 0 2,wZ 17 11 16,qN 18 11 (wc 17),xE 19 11 .sub 18 1,qN 20 11 (qW 3 15 (.t 19)),xa 21 11 1 20,wZ 22 11 21,qN 23 11 (wc 22),qN 24 11 (ql .eql 13 (.t 23)),xT 25 11 24,qg 4 25]⟩
theorem Bl:ag Tryz.prog iY=some rH:=by kernel_rfl
def gM:FK:=⟨17,[],qL [qZ 4,qV 5 4,qq 6 6 5,qu 7 6,xn 8 7] 8 (yb [qZ 9,xf 10,qV 11 9,xL 12 11,xL 13 12,xw 13 10] [qZ 14,qV 15 14,qq 16 6 15,qT 1 16 wz])⟩
theorem tH:ag Tryz.prog bX=some gM:=by kernel_rfl
def gw:FK:=⟨17,[],wd (wg [qZ 2,qV 3 2,qq 4 5 3,qu 5 4,wb 6 5 0] 6 [qZ 7,xV 8 bX 7 3]) [qZ 9,qZ 10,qV 11 10,qq 12 5 11,qu 13 12,xG 14 13 1,qV 15 9,qq 16 5 15,xw 16 14]⟩
theorem tu:ag Tryz.prog ep=some gw:=by kernel_rfl
def tk:FK:=⟨20,[xu],wY [xQ] (xU [qZ 6,wn 7 6,xG 8 7 1,yc 5] 0 [xq 9,qx 10 .geq 9 0] 10 wA 1 (wg [qZ 13,xq 14,wB 15 1 13 14,qu 16 15,xf 17,qb 18 (yk .eql 16 (.t 17))] 18 (wT (xq 19) 4 19)) [xq 11,xG 12 11 1,qg 5 12]) [qJ 4 (-1)]⟩
theorem CD:ag Tryz.prog ka=some tk:=by kernel_rfl
def lW:FK:=⟨67,[.t 6],xH [wJ 4 4 1,wS 6] [xB 7 .any,qZ 10,qV 11 10,wV 12 11,wV 13 12,qZ 15,qV 16 15,wV 17 16,xv 19 4,qu 14 13,qH 18 1 17,qu 20 19,wI 21 jh 18 20,wX 13 14,wB 22 3 14 21,qH 23 3 22,qY 7 [qF,.nils,.nils],qU 3 7 23] (qK [qX 24 1 [qF] 0 [],xL 25 7,qu 26 25,xj 27 1 16 24 26,ws 28 [.nils,.nils,qz,qC] [xo 0 27],wJ 29 4 28,qg 8 29] (xU [wS 9] 0 [qg 30 9,xZ 31 4,qu 32 31,wn 33 32,xb 34 30 33] 34 wA 1 (.reg [yc 37,yc 38,qV 39 38,xL 40 39,qZ 42,xZ 43 4,qg 45 9,xx 48,qu 41 40,qu 44 43,wB 46 4 44 45,yd 47 46,yr 49 42 47 48,wX 40 41,xR 50 1 [qC] 1 [xo 0 49],xj 51 1 8 41 50,qV 52 37,xL 53 52,xw 53 51]) [qg 35 9,x9 36 35,qg 9 36]) (wY [qZ 54,xv 55 7,qu 56 55,yc 57,xP 58 aJ 54 56 57] (wg [qZ 59,qV 60 59,qq 61 6 60,qu 62 61] 62 [wS 6]) [yc 63,qV 64 63,xZ 65 64,qu 66 65,xX 66]))⟩
theorem tf:ag Tryz.prog ed=some lW:=by kernel_rfl
def oo:FK:=⟨4,[xJ],wY [wS 2] (wg [qZ 3] 3 [qJ 2 1]) [wS 2]⟩
theorem zE:ag Tryz.prog dC=some oo:=by kernel_rfl
def tw:FK:=⟨50,[.t 6,.t 7],qK [wS 6,wS 7] (qe [qZ 8] (.blk 0 (xp 10 8 3 9 10 9 (qA [xf 11,xx 12,wl 13 .add 11 12,qx 14 .rem 13 256,xX 14,wS 7]) (xp 16 8 4 15 16 15 (qA [xf 17,xx 18,wl 19 .sub 17 18,wE 20 19 256,qx 21 .rem 20 256,xX 21,wS 7]) (xp 23 8 5 22 23 22 (qA [xf 24,xx 25,wl 26 .mul 24 25,qx 27 .rem 26 256,xX 27,wS 7]) (xp 29 8 8 28 29 28 (qA [xf 30,xx 31,xb 32 30 31,xt 33 dC 32,xX 33,wS 7]) (wg (wU 35 8 9 34 35) 34 [xf 36,xx 37,wl 38 .eql 36 37,xt 39 dC 38,xX 39,wS 7]))))))) (.seq (wg [xx 40,wb 41 40 0] 41 [wS 6,qJ 7 1]) (xW (wg [qZ 42,wb 43 42 6] 43 [xf 44,xx 45,wl 46 .quo 44 45,xX 46,wS 7]) [xf 47,xx 48,wl 49 .rem 47 48,xX 49,wS 7]))⟩
theorem CM:ag Tryz.prog nu=some tw:=by kernel_rfl
def aC:FK:=⟨108,[.t 6],yf [wJ 4 4 1,wS 6] [qZ 11,qV 12 11,qq 13 6 12,qu 14 13] 14 [wS 6] (.seq (qe [wV 15 4,qu 16 15] (.blk 0 (xp 18 16 1 17 18 17 (qA [xL 19 4,qu 20 19,xX 20]) (xp 22 16 2 21 22 21 (qA [xx 23,qV 24 23,xL 25 24,xx 27,qV 28 27,wV 29 28,xv 31 4,qu 26 25,qu 30 29,qu 32 31,wI 33 ka 30 32,wX 25 26,wB 34 1 26 33,qu 35 34,xX 35]) (wg (wU 37 16 13 36 37) 36 [qZ 38,yd 39 4,xx 40,xP 41 ed 38 39 40,xX 41]))))) (qK [qZ 42,xZ 43 4,qu 44 43,wu 45 4 44 yh,yd 46 45,xx 47,yr 48 42 46 47,qg 7 48] (qe [wV 49 4,qu 50 49] (.blk 1 (xp 52 50 11 51 52 51 (qA [yg 53,wb 54 53 0,xt 55 dC 54,xX 55]) (xp 57 50 12 56 57 56 (xW (qL [yg 58,qx 59 .geq 58 16] 59 (xc [qZ 60,xV 61 bX 60 2] [wS 6])) [qZ 62,qV 63 62,xL 64 63,xZ 65 64,qu 66 65,yg 67,wB 68 1 66 67,qu 69 68,xX 69]) (qL (wU 71 50 10 70 71) 70 (xW (wg [yg 72,wb 73 72 0] 73 [wS 6]) [qZ 74,xZ 75 4,qu 76 75,wu 77 4 76 (qj 1),yd 78 77,xx 79,yr 80 74 78 79,qx 81 .neq 80 0,xt 82 dC 81,xX 82])))))) (yf [qZ 83,xZ 84 4,qu 85 84,wu 86 4 85 (qj 1),yd 87 86,xx 88,yr 89 83 87 88,qg 8 89] [qZ 90,qV 91 90,qq 92 6 91,qu 93 92] 93 [wS 6] (wY [wV 95 4,qu 96 95,yg 97,yc 98,xP 99 nu 96 97 98,qg 94 99,wN 100 0 94,wN 101 1 94,qg 9 100,qg 10 101] (xm [qg 102 10,qx 103 .neq 102 0] 103 [qZ 104,qg 105 10,wI 106 bX 104 105]) (wT (qg 107 9) 6 107)))))⟩
theorem gL:ag Tryz.prog aZ=some aC:=by kernel_rfl
def lG:FK:=⟨41,[],wR [wJ 5 5 1] 0 (wM [xx 8,qx 9 .neq 8 0,qg 10 9,xz 11 10 0,qN 12 10 (qw 11),xa 13 10 6 12,wZ 14 10 13,qN 15 10 (wo 14),xT 16 10 15] 16 wA (.blk 1 (qK [qZ 17,xZ 18 5,qu 19 18,qg 20 3,xP 21 aJ 17 19 20] (qL [qZ 22,qV 23 22,qq 24 6 23,qu 25 24,qg 26 25,xy 27 26 3,qO 28 26 (qw 27),xD 29 26 2 28,xA 30 26 29,xY 31 26 30] 31 .ret) (yb [qZ 32,xt 33 ep 32] [qZ 34,xv 35 5,qu 36 35,wu 37 4 36 yh,yd 38 37,qg 39 3,yr 40 34 38 39,qg 2 40]))))⟩
theorem tL:ag Tryz.prog gY=some lG:=by kernel_rfl
def lr:FK:=⟨127,[],xH [wJ 4 5 1] [qZ 8,xv 9 4,qu 10 9,wu 11 4 10 yh,yd 12 11,xx 13,yr 14 8 12 13,xX 14] (qK [wS 7] (xm [wV 15 4,qu 16 15,wb 17 16 4] 17 [qZ 18,xv 19 4,qu 20 19,wu 21 4 20 (qj 1),yd 22 21,xx 23,yr 24 18 22 23,qg 7 24]) (.seq (qL [qZ 25,qV 26 25,qq 27 6 26,qu 28 27] 28 .ret) (qe [wV 29 4,qu 30 29] (.blk 0 (xp 32 30 1 31 32 31 (yb [xx 33,xx 34,qV 35 34,wV 36 35,xL 38 4,qu 37 36,qu 39 38,xR 40 1 [qF] 1 [xo 0 39],xj 41 1 16 37 40,qV 42 33,wV 43 42,xw 43 41] [xx 44,xx 45,qV 46 45,xL 47 46,qu 48 47,yq 49,qX 50 1 [qC] 1 [xo 0 49],xj 51 1 8 48 50,qV 52 44,xL 53 52,xw 53 51]) (xp 55 30 2 54 55 54 (.reg [xx 56,qV 57 56,xL 58 57,xx 60,qV 61 60,wV 62 61,xL 64 4,yq 67,qu 59 58,qu 63 62,qu 65 64,wI 66 ka 63 65,wX 58 59,wB 68 1 59 66,xw 68 67]) (xp 70 30 3 69 70 69 (.reg [qZ 71,qZ 72,qV 73 72,xL 74 73,wV 75 74,qu 76 75,yq 77,qX 78 1 [qC] 1 [xo 0 77],xj 79 1 8 76 78,qV 80 71,xL 81 80,wV 82 81,xw 82 79]) (xp 84 30 4 83 84 83 (wd (wg [yq 85,qx 86 .geq 85 16] 86 [qZ 87,xV 88 bX 87 2]) [qZ 89,qV 90 89,xL 91 90,xZ 92 91,qu 93 92,yq 94,yg 95,wB 96 1 93 94,xw 96 95]) (xp 98 30 5 97 98 97 (qB [yq 99,qx 100 .neq 99 0] 100 (.reg [qZ 101,xZ 102 4,qu 103 102,xx 104,xP 105 aJ 101 103 104]) (.reg [qZ 106,qq 107 4 4,qu 108 107,xx 109,xP 110 aJ 106 108 109])) (xp 112 30 6 111 112 111 (.reg [qZ 113,qH 114 5 4,yq 115,xx 116,qp 117 gY [.t 113,.t 114,.t 115,.t 116]]) (qL (wU 119 30 7 118 119) 118 (yb [xx 120,qV 121 120,xv 122 121,qT 1 122 wz] [xx 123,yq 124,qV 125 123,xZ 126 125,xw 126 124]))))))))))))⟩
theorem tQ:ag Tryz.prog gT=some lr:=by kernel_rfl
def gb:FK:=⟨65,[],qK [xx 8,qV 9 8,wV 10 9,qu 11 10,wn 12 11,xX 12] (xU [wS 7] 0 [yg 13,xf 14,wn 15 14,xb 16 13 15,qg 17 16,xz 18 17 0,qN 19 17 (qw 18),xa 20 17 6 19,wZ 21 17 20,qN 22 17 (wo 21),xT 23 17 22,qg 24 23,xz 25 24 2,qN 26 24 (qw 25),xa 27 24 2 26,wZ 28 24 27,qN 29 24 (wo 28),xT 30 24 29] 30 wA 1 (qe [qZ 33,xt 34 ep 33] (xm [qZ 35,qV 36 35,qq 37 6 36,qu 38 37,xn 39 38] 39 [qZ 40,xf 41,yg 42,wB 43 5 41 42,qH 44 5 43,xx 45,xP 46 gT 40 44 45])) [yg 31,x9 32 31,qg 7 32]) (yb [xx 47,xx 48,qV 49 48,wV 50 49,qu 51 50,yq 52,qb 53 (.slS 1 (.t 51) none (some (.t 52))),qV 54 47,wV 55 54,xw 55 53] [xx 56,xx 57,qV 58 57,xL 59 58,qu 60 59,yq 61,qb 62 (.slS 1 (.t 60) none (some (.t 61))),qV 63 56,xL 64 63,xw 64 62])⟩
theorem kT:ag Tryz.prog aJ=some gb:=by kernel_rfl
def vo:FK:=⟨61,[xS 6 4,.t 7],qK [wJ 3 1 0,qY 6 [.nils,qC,qC,.nils],wS 7] (.ot (.one [] (.one [xx 12] (.one [qH 11 1 3] (.alt (.one [qX 13 1 [qC] 0 [],yl 1 3 11] (.alt (.one [qb 14 (.mks 1 8 [qC] (qj 16) (qj 16)),yl 1 3 11] (.one [ws 15 [.nils,qC,qC,.nils] [xo 0 13,xo 3 14]] (.one [ws 16 [.nils,.nils,qC,qC,.nils,qC,qz] [xo 0 11,xo 5 12,wD 1 4 15]] (.alt (.one [wJ 17 7 16] (.one [qg 8 17] .done)) .tru)))) .tru)) (.alt (.one [qb 14 (.mks 1 8 [qC] (qj 16) (qj 16)),yl 1 3 11] (.alt (.one [qX 13 1 [qC] 0 [],yl 1 3 11] (.one [ws 15 [.nils,qC,qC,.nils] [xo 0 13,xo 3 14]] (.one [ws 16 [.nils,.nils,qC,qC,.nils,qC,qz] [xo 0 11,xo 5 12,wD 1 4 15]] (.alt (.one [wJ 17 7 16] (.one [qg 8 17] .done)) .tru)))) .tru)) .tru)))))) (xH [wV 18 3,qu 19 18,wV 20 3,qu 21 20,wn 22 21,xG 23 22 1,wB 24 3 19 23,qH 25 3 24,qY 9 [qF,.nils,.nils],qU 3 9 25] [qX 26 1 [qF] 0 [],xL 27 9,qu 28 27,xj 29 1 16 26 28,qX 30 1 [qC] 0 [],xf 31,xj 32 1 8 30 31,ws 33 [.nils,.nils,qz,qC] [xo 0 29,xo 1 32],wJ 34 4 33,qg 10 34] (wY [yc 35,xv 36 9,qu 37 36,qg 38 10,xP 39 aJ 35 37 38] (xm [yc 40,qV 41 40,qq 42 6 41,qu 43 42,xn 44 43] 44 [yc 45,qg 46 10,qV 47 46,xZ 48 47,qu 49 48,qV 50 45,xL 51 50,xv 52 51,xw 52 49]) [yc 53,qV 54 53,xL 55 54,yc 57,qV 58 57,qq 59 5 58,yd 56 55,qu 60 59,qU 4 6 56,wX 59 60,qg 7 60]))⟩
theorem ER:ag Tryz.prog jd=some vo:=by kernel_rfl
def mc:FK:=⟨22,[xu],yf [wJ 2 1 0,xQ] [qH 7 1 2,xf 8,wI 9 iY 7 8,xn 10 9] 10 [qJ 4 (-1)] (wY [qH 12 1 2,xf 13,qp 14 jd (xN 12 13 (qj 4000)),qg 11 14,wN 15 0 11,wN 16 1 11,qY 5 [.nils,qC,qC,.nils],qU 4 5 15,xX 16] (wg [xL 17 5,qu 18 17,wb 19 18 3] 19 [qJ 4 (-1)]) [yq 20,qb 21 (.bin .sub (qj 4000) (.t 20)),qg 4 21])⟩
theorem rP:ag Tryz.prog dU=some mc:=by kernel_rfl
def me:FK:=⟨15,[.t 6],xc [wK 6] [xf 7,qZ 8,wl 9 .leq 7 8,qg 10 9,xz 11 10 0,xz 12 10 2,qN 13 10 (ql .leq 11 (.t 12)),xT 14 10 13,xX 14]⟩
theorem Bb:ag Tryz.prog dc=some me:=by kernel_rfl
def jO:FK:=⟨21,[.t 6],wY [wS 6] (wR [qZ 9,qb 10 (.rngS (.t 9))] 0 (qK [qb 11 (.nxtS (.t 10)),wN 12 0 11] (xK 12 wA) (.blk 1 (qe [wN 13 1 11,wN 14 2 11,qg 7 13,qg 8 14] (wg [xf 15,yc 16,qb 17 (.callv (.t 15) (xr 16)),xx 18,qb 19 (.beq false (.t 17) (.t 18))] 19 (wT (yg 20) 6 20)))))) [qJ 6 (-1)]⟩
theorem pT:ag Tryz.prog fy=some jO:=by kernel_rfl
def jQ:FK:=⟨8,[xu],xc [xQ] [qZ 5,xf 6,qp 7 fy (xN 5 6 wz),yg 4]⟩
theorem pH:ag Tryz.prog fk=some jQ:=by kernel_rfl
def iw:FK:=⟨19,[xu],wY [xQ] (wR [qZ 6,wn 7 6,wS 8] 0 (qK [xb 9 8 7] (xK 9 wA) (wy 1 (qe (wT (yc 10) 5 10) (wg [xf 11,qZ 12,xq 13,wB 14 1 12 13,qu 15 14,qb 16 (yk .eql 11 (.t 15))] 16 (wT (xq 17) 4 17))) (wT (x9 18 8) 8 18)))) [qJ 4 (-1)]⟩
theorem nP:ag Tryz.prog dZ=some iw:=by kernel_rfl
def fD:FK:=⟨9,[xu],xc [xk] [qZ 5,xf 6,wI 7 dZ 5 6,qx 8 .geq 7 0,yc 4]⟩
theorem mu:ag Tryz.prog de=some fD:=by kernel_rfl
def nJ:FK:=⟨9,[xJ],xc [yp] [qZ 3,qr 4 .lss 3 (.c (qf .i32 97)),qg 5 4,xy 6 5 0,qO 7 5 (ql .gtr 6 (.c (qf .i32 122))),xY 8 5 7,yc 2]⟩
theorem vT:ag Tryz.prog cP=some nJ:=by kernel_rfl
def rM:FK:=⟨17,[xJ],xc [yp] [qZ 3,qb 4 (.len true (.t 3)),qp 5 dc (xM 4 (qj 1) (qj 4)),xq 6,xz 7 6 0,qN 8 6 (x7 fk 7 (.c (.fn (.func cP) []))),xE 9 6 .lss 8 0,xT 10 6 9,qg 11 10,qN 12 11 (.slA 9 1 (.c (.gp 1 0)) none none),xz 13 11 0,qN 14 11 (x7 de 12 (.t 13)),qN 15 11 (wo 14),xT 16 11 15,qg 2 16]⟩
theorem AS:ag Tryz.prog cu=some rM:=by kernel_rfl
def eU:FK:=⟨19,[xu],wY [xQ] (wR [qZ 6,wn 7 6,wS 8] 0 (qK [xb 9 8 7] (xK 9 wA) (wy 1 (qe (wT (yc 10) 5 10) (wg [xf 11,qZ 12,xq 13,wB 14 1 12 13,qu 15 14,qb 16 (.callv (.t 11) (xr 15))] 16 (wT (xq 17) 4 17))) (wT (x9 18 8) 8 18)))) [qJ 4 (-1)]⟩
theorem lm:ag Tryz.prog cK=some eU:=by kernel_rfl
def dQ:FK:=⟨9,[xu],xc [xk] [qZ 5,xf 6,wI 7 cK 5 6,qx 8 .geq 7 0,yc 4]⟩
theorem jA:ag Tryz.prog cb=some dQ:=by kernel_rfl
def dS:FK:=⟨19,[xu],wY [xQ] (wR [qZ 6,wn 7 6,wS 8] 0 (qK [xb 9 8 7] (xK 9 wA) (wy 1 (qe (wT (yc 10) 5 10) (wg [xf 11,qZ 12,xq 13,wB 14 5 12 13,qH 15 5 14,qb 16 (.callv (.t 11) (xr 15))] 16 (wT (xq 17) 4 17))) (wT (x9 18 8) 8 18)))) [qJ 4 (-1)]⟩
theorem jH:ag Tryz.prog cd=some dS:=by kernel_rfl
def dj:FK:=⟨9,[xu],xc [xk] [qZ 5,xf 6,wI 7 cd 5 6,qx 8 .geq 7 0,yc 4]⟩
theorem iq:ag Tryz.prog bK=some dj:=by kernel_rfl
def bl:FK:=⟨20,[xJ,.t 3,xu,.t 5],wY [wS 2,wK 3,xk,wK 5] (qe [qZ 6] (.blk 0 (wM (wU 8 6 1 7 8) 7 (.reg (wU 9 6 2 7 9)) (qo 7 (qA [qJ 2 1,qd 3 wz,xk,wK 5]) (wM (wU 11 6 3 10 11) 10 (wL (wU 12 6 7 10 12) 10 (.reg (wU 13 6 8 10 13))) (qo 10 (qA [qJ 2 1,wK 3,xk,wK 5]) (xp 15 6 4 14 15 14 (qA [qJ 2 2,wK 3,xk,wK 5]) (xp 17 6 5 16 17 16 (qA [qJ 2 1,wK 3,qd 4 wz,qd 5 wz]) (wg (wU 19 6 6 18 19) 18 [qJ 2 1,wK 3,qd 4 wz,wK 5]))))))))) [qJ 2 (-1),wK 3,xk,wK 5]⟩
theorem yv:ag Tryz.prog fT=some bl:=by kernel_rfl
def rL:FK:=⟨5,[xJ],xc [yp] [qZ 3,qp 4 dc (xM 3 yh (qj 255)),qg 2 4]⟩
theorem Bp:ag Tryz.prog iQ=some rL:=by kernel_rfl
def ew:FK:=⟨20,[xJ],wY [wS 2] (.blk 0 (qB [qb 4 (.ld none (.c (.gp 2 0))),qZ 5,qb 6 (.lk 0 (.agg [qF,qC]) false (.t 4) (.t 5)),qb 7 (.fldv 1 none (.t 6)),qx 8 .gtr 7 0,yc 3] 3 (qA [qb 9 (.ld none (.c (.gp 2 0))),qZ 10,qb 11 (.lk 0 (.agg [qF,qC]) false (.t 9) (.t 10)),qb 12 (.fldv 1 none (.t 11)),qg 2 12]) (wg [qZ 14,wb 15 14 11,qg 16 15,xy 17 16 0,qO 18 16 (wP .eql 17 12),xY 19 16 18,qg 13 19] 13 [qJ 2 5]))) [qJ 2 6]⟩
theorem zl:ag Tryz.prog kP=some ew:=by kernel_rfl
def js:AK:=xH [wJ 2 4 0,xQ,wS 5,wK 6] [wS 7,wS 8] (.cut (.blk 0 (qB [wV 17 2,qu 18 17,wb 19 18 1,qg 16 19] 16 (wg [xL 20 2,qu 21 20,xt 22 iQ 21,xn 23 22,qg 24 23,xD 25 24 2 2,xA 26 24 25,qO 27 24 (yk .neq 26 (.c qF)),xY 28 24 27] 28 [xQ,wS 5,wK 6]) (qB [wV 30 2,qu 31 30,wb 32 31 2,qg 29 32] 29 (wg [xv 33 2,qu 34 33,xt 35 cu 34,xn 36 35,qg 37 36,xD 38 37 1 2,xA 39 37 38,qO 40 37 (wP .neq 39 0),xY 41 37 40] 41 [xQ,wS 5,wK 6]) (qB [wV 43 2,qu 44 43,wb 45 44 13,qg 42 45] 42 (qe [qJ 8 3] (wg [xv 46 2,qu 47 46,xt 48 cu 47,xn 49 48,qg 50 49,xD 51 50 1 2,xA 52 50 51,qO 53 50 (wP .neq 52 0),xY 54 50 53] 54 [xQ,wS 5,wK 6])) (qB [qb 56 (.ld none (.c (.gp 2 0))),wV 57 2,qu 58 57,qb 59 (.lk 0 (.agg [qF,qC]) false (.t 56) (.t 58)),qb 60 (.fldv 1 none (.t 59)),qx 61 .gtr 60 0,qg 55 61] 55 (.reg [qJ 7 2,qJ 8 2]) (qB [wV 63 2,qu 64 63,wb 65 64 11,qg 66 65,xD 67 66 0 2,xA 68 66 67,qO 69 66 (wP .eql 68 12),xY 70 66 69,qg 62 70] 62 (.reg [qJ 7 1,qJ 8 1]) (qA [xQ,wS 5,wK 6]))))))) (.cut (wg [wV 71 2,qu 72 71,xt 73 kP 72,qx 74 .lss 73 6,qg 75 74,xa 76 75 1 2,wZ 77 75 76,xE 78 75 .neq 77 0,xz 79 75 78,xD 80 79 2 2,xA 81 79 80,qO 82 79 (yk .neq 81 (.c qF)),qN 83 75 (qQ 79 wz (.t 82)),xT 84 75 83,qg 85 84,xD 86 85 3 2,xA 87 85 86,qO 88 85 (wc 87),xy 89 85 7,xy 90 85 8,qO 91 85 (.call dc (xO 88 89 90)),qO 92 85 (wo 91),xY 93 85 92,qg 94 93,xy 95 94 1,qO 96 94 (wP .lss 95 1),xY 97 94 96] 97 [xQ,wS 5,wK 6]) (wY [qJ 9 1,qJ 10 1] (wR [xZ 98 2,qu 99 98,wn 100 99,wS 101] 1 (qK [xb 102 101 100] (xK 102 (.exit 1)) (wy 2 (qe [wB 103 4 99 101,yd 104 103,qY 12 [qC,qC,qF,.nils],qU 4 12 104] (yf [yd 106 12,xf 107,xG 108 107 1,wI 109 fM 106 108,qg 105 109,wN 110 0 105,wN 111 1 105,wN 112 2 105,qg 13 110,qg 14 111,qg 15 112] [qg 113 15,xn 114 113] 114 [xQ,wS 5,wK 6] (yb [qg 115 9,qg 116 13,wl 117 .add 115 116,qg 9 117] [qg 118 10,qg 119 14,x9 120 119,qb 121 (.mx (.t 118) (.t 120)),qg 10 121]))) (wT (x9 122 101) 101 122)))) [qg 123 9,qg 124 10,qg 125 9,qx 126 .leq 125 30,qg 4 123,qg 5 124,xX 126])))
def jt:FK:=⟨127,[xu,.t 5,.t 6],(AK.whole js)⟩
theorem vU:ag Tryz.prog fM=some jt:=by kernel_rfl
def mH:FK:=⟨13,[xJ],qe [wJ 1 4 0,yp] (xc [yd 7 1,xV 8 fM 7 6,xX 8,wN 9 0 6,wN 10 1 6,wN 11 2 6,qg 3 9,qg 4 10,qg 5 11] (wT (xq 12) 2 12))⟩
theorem uZ:ag Tryz.prog eL=some mH:=by kernel_rfl
def iW:FK:=⟨91,[xu],qe [wJ 2 5 0,xk] (qK [wV 12 2,qu 13 12,xt 14 fT 13,qg 11 14,wN 15 0 11,wN 16 1 11,wN 17 2 11,wN 18 3 11,qg 5 15,xX 16,qg 7 17,qg 8 18] (.blk 0 (wM [xf 20,qx 21 .gtr 20 4,qg 19 21] 19 (wL [xv 22 2,qu 23 22,wn 24 23,xq 25,wl 26 .neq 24 25,qg 19 26] 19 (wL [yq 27,qg 28 27,xa 29 28 1 2,wZ 30 28 29,qN 31 28 (.call cu (xr 30)),qN 32 28 (wo 31),xT 33 28 32,qg 19 33] 19 (wL [yq 34,xn 35 34,qg 36 35,xa 37 36 1 2,wZ 38 36 37,qN 39 36 (yk .neq 38 (.c qF)),xT 40 36 39,qg 19 40] 19 (wL [yg 41,xn 42 41,qg 43 42,xa 44 43 3 2,wZ 45 43 44,qN 46 43 (wc 45),xE 47 43 .gtr 46 0,xT 48 43 47,qg 19 48] 19 (wL [yc 49,xn 50 49,qg 51 50,xa 52 51 4 2,wZ 53 51 52,qN 54 51 (wc 53),xE 55 51 .gtr 54 0,xT 56 51 55,qg 19 56] 19 (.reg [wV 57 2,qu 58 57,wb 59 58 8,qg 60 59,xa 61 60 2 2,wZ 62 60 61,qN 63 60 (qW 4 62 yh),xa 64 60 0 63,wZ 65 60 64,xE 66 60 .neq 65 13,xT 67 60 66,qg 19 67])))))) (qo 19 (qA [xk]) .skip))) (xW (wR [xv 68 2,qu 69 68,wn 70 69,wS 71] 1 (qK [xb 72 71 70] (xK 72 (.exit 1)) (wy 2 (qe [wB 73 4 69 71,yd 74 73,qY 10 [qC,qC,qF,.nils],qU 4 10 74] (wg [yd 75 10,xt 76 eL 75,xn 77 76] 77 [xk])) (wT (x9 78 71) 71 78)))) [xZ 79 2,qu 80 79,xf 81,x9 82 81,wI 83 cA 80 82,qg 84 83,xa 85 84 4 2,wZ 86 84 85,xz 87 84 1,xE 88 84 .add 87 1,qN 89 84 (x7 cA 86 (.t 88)),xT 90 84 89,qg 4 90]))⟩
theorem ru:ag Tryz.prog jb=some iW:=by kernel_rfl
def mE:FK:=⟨8,[.t 3],xc [wJ 2 5 0,wK 3] [qH 4 5 2,qu 5 1,wI 6 jb 4 5,xn 7 6,yg 3]⟩
theorem uu:ag Tryz.prog cy=some mE:=by kernel_rfl
def od:FK:=⟨9,[xu],xc [wJ 3 1 1,xk] [qZ 5,qb 6 (.mkf (.func cy) (xr 3)),wI 7 bK 5 6,xn 8 7,yc 4]⟩
theorem zd:ag Tryz.prog cA=some od:=by kernel_rfl
def tp:FK:=⟨31,[],wR [qZ 8,wn 9 8,wS 10] 0 (qK [xb 11 10 9] (xK 11 wA) (wy 1 (xH [wB 12 5 8 10,qH 13 5 12,qY 7 [qC,qF,.nils,.nils,.nils],qU 5 7 13] [xx 14,qH 15 5 7,xf 16,qb 17 (.callv (.t 14) (wG 15 (.t 16)))] (yb [xZ 18 7,qu 19 18,xf 20,x9 21 20,xx 22,xP 23 gB 19 21 22] [qq 24 4 7,qu 25 24,xf 26,x9 27 26,xx 28,xP 29 gB 25 27 28])) (wT (x9 30 10) 10 30)))⟩
theorem Di:ag Tryz.prog gB=some tp:=by kernel_rfl
def mQ:FK:=⟨11,[],xH [wJ 4 5 0] [qu 6 2,x9 7 6,xw 2 7] (.reg [qu 8 3,xf 9,qb 10 (.mx (.t 8) (.t 9)),xw 3 10])⟩
theorem uY:ag Tryz.prog eO=some mQ:=by kernel_rfl
def oH:FK:=⟨20,[.c 2 none,.c 3 none],wY [wJ 1 1 0,qY 2 [qC],qY 3 [qC]] (wR [wV 6 1,qu 7 6,wn 8 7,wS 9] 0 (qK [xb 10 9 8] (xK 10 wA) (wy 1 (yb [wB 11 3 7 9,qH 12 3 11,qY 5 [qF,.nils,.nils],qU 3 5 12] [xv 13 5,qu 14 13,qb 15 (.mkf (.func eO) (wG 2 (.t 3))),qp 16 gB (xM 14 (qj 1) (.t 15))]) (wT (x9 17 9) 9 17)))) [qu 18 2,qu 19 3,xw 2 18,wX 3 19,xw 3 19]⟩
theorem zp:ag Tryz.prog la=some oH:=by kernel_rfl
def iB:FK:=⟨6,[xJ],xc [yp] [qZ 3,xt 4 cu 3,xn 5 4,xq 2]⟩
theorem nQ:ag Tryz.prog br=some iB:=by kernel_rfl
def jY:FK:=⟨48,[xJ],yf [wJ 1 1 0,yp] [wV 7 1,qu 8 7,wn 9 8,qp 10 dc (xM 9 (qj 1) (qj 4)),xn 11 10] 11 [yp] (.seq (wR [wV 12 1,qu 13 12,wn 14 13,wS 15] 0 (qK [xb 16 15 14] (xK 16 wA) (wy 1 (qe [wB 17 3 13 15,qH 18 3 17,qY 4 [qF,.nils,.nils],qU 3 4 18] (wg [wV 19 4,qu 20 19,xt 21 cu 20,xn 22 21,qg 23 22,xD 24 23 1 4,xA 25 23 24,qO 26 23 (wc 25),qO 27 23 (wP .gtr 26 3),xY 28 23 27,qg 29 28,xD 30 29 1 4,xA 31 29 30,qO 32 29 (x7 cb 31 (.c (.fn (.func br) []))),xY 33 29 32,qg 34 33,xD 35 34 2 4,xA 36 34 35,qO 37 34 (x7 cA 36 (qj 1)),qO 38 34 (wo 37),xY 39 34 38] 39 [yp])) (wT (x9 40 15) 15 40)))) (xc [qH 42 1 1,xt 43 la 42,qg 41 43,wN 44 0 41,wN 45 1 41,qg 5 44,xX 45] [xq 46,qx 47 .leq 46 40,qg 2 47]))⟩
theorem pM:ag Tryz.prog fa=some jY:=by kernel_rfl
def eC:FK:=⟨19,[xu],wY [xQ] (wR [qZ 6,wn 7 6,wS 8] 0 (qK [xb 9 8 7] (xK 9 wA) (wy 1 (qe (wT (yc 10) 5 10) (wg [xf 11,qZ 12,xq 13,wB 14 3 12 13,qH 15 3 14,qb 16 (.callv (.t 11) (xr 15))] 16 (wT (xq 17) 4 17))) (wT (x9 18 8) 8 18)))) [qJ 4 (-1)]⟩
theorem kq:ag Tryz.prog cH=some eC:=by kernel_rfl
def rq:FK:=⟨8,[.t 3],xc [wJ 2 3 0,wK 3] [wV 4 2,qu 5 4,qu 6 1,qb 7 (yk .eql 5 (.t 6)),yg 3]⟩
theorem Bg:ag Tryz.prog fJ=some rq:=by kernel_rfl
def vC:FK:=⟨9,[xu],xc [wJ 2 1 0,wJ 3 1 1,xQ] [wV 5 2,qu 6 5,qb 7 (.mkf (.func fJ) (xr 3)),wI 8 cH 6 7,yc 4]⟩
theorem DC:ag Tryz.prog jo=some vC:=by kernel_rfl
def fb:FK:=⟨13,[],xm [qZ 4,qV 5 4,xv 6 5,qu 7 6,wb 8 7 0] 8 [qZ 9,xf 10,qV 11 9,xv 12 11,xw 12 10]⟩
theorem pX:ag Tryz.prog cg=some fb:=by kernel_rfl
def ib:FK:=⟨7,[xJ],xc [xB 2 .nilp] [qb 3 .mkm,qZ 4,ws 5 [.nilm,.nilp] [xo 0 3,xo 1 4],wJ 6 2 5,yq 2]⟩
theorem sZ:ag Tryz.prog cU=some ib:=by kernel_rfl
def tU:FK:=⟨20,[],xH [wJ 2 4 0] [xf 6,yd 7 2,qb 8 (.callv (.t 6) (xr 7))] (wR [xZ 9 2,qu 10 9,wn 11 10,wS 12] 0 (qK [xb 13 12 11] (xK 13 wA) (wy 1 (yb [wB 14 4 10 12,yd 15 14,qY 5 [qC,qC,qF,.nils],qU 4 5 15] [yd 16 5,xf 17,wI 18 ke 16 17]) (wT (x9 19 12) 12 19))))⟩
theorem CG:ag Tryz.prog ke=some tU:=by kernel_rfl
def lY:FK:=⟨25,[xu,.t 5],wY [xQ,wK 5] (wa 0 (xF [qZ 8,qb 9 (.pnil 0 true (.t 8))] 9 wA 1 (qe [qZ 15,qV 16 15,wV 17 16,qu 18 17,xf 19,qb 20 (.lk 1 qC true (.t 18) (.t 19)),qg 14 20,wN 21 0 14,wN 22 1 14,xX 21,qg 7 22] (wg [yg 23] 23 [yq 24,qg 4 24,qd 5 wz])) [qZ 10,qV 11 10,xL 12 11,qu 13 12,qg 0 13])) [xQ,wK 5]⟩
theorem tM:ag Tryz.prog bY=some lY:=by kernel_rfl
def iv:FK:=⟨58,[],xH [wJ 3 4 0] [wV 7 3,qu 8 7] (.blk 0 (xp 10 8 2 9 10 9 (qe [qu 12 1,xv 13 3,qu 14 13,wI 15 bY 12 14,qg 11 15,wN 16 0 11,wN 17 1 11,qg 4 16,qg 5 17] (xm [xq 18,xn 19 18] 19 [qu 20 2,ye 21 20 3])) (qL (wU 23 8 13 22 23) 22 (qe [xv 35 3,qu 24 2,qV 25 24,wV 26 25,wV 27 26,qu 28 27,qu 29 2,qV 30 29,xL 31 30,qu 32 31,qb 33 (.slS 3 (.t 28) none (some (.t 32))),ws 34 yi [xo 0 33],qu 36 35,wI 37 jo 34 36,xX 37] (qB [yq 38,qx 39 .lss 38 0] 39 (.reg [qu 40 2,ye 41 40 4]) (xm [yq 47,xZ 52 3,qu 42 2,qV 43 42,wV 44 43,wV 45 44,qu 46 45,wB 48 3 46 47,xL 49 48,qu 50 49,wn 51 50,qu 53 52,wn 54 53,wl 55 .neq 51 54] 55 [qu 56 2,ye 57 56 5]))))))⟩
theorem nL:ag Tryz.prog bO=some iv:=by kernel_rfl
def fh:FK:=⟨9,[],yb [wJ 3 1 0,wJ 4 4 1,wJ 5 1 2] [yd 6 4,qb 7 (.mkf (.func bO) (wG 5 (.t 3))),wI 8 ke 6 7]⟩
theorem pP:ag Tryz.prog du=some fh:=by kernel_rfl
def eF:AK:=wR [xf 14,wn 15 14,wS 16] 0 (qK [xb 17 16 15] (xK 17 wA) (wy 1 (qK [wB 18 5 14 16,qH 19 5 18,qY 7 [qC,qF,.nils,.nils,.nils],qU 5 7 19] (wR [xv 20 7,qu 21 20,wn 22 21,wS 23] 2 (qK [xb 24 23 22] (xK 24 (.exit 2)) (wy 3 (yb [wB 25 4 21 23,yd 26 25,qY 9 [qC,qC,qF,.nils],qU 4 9 26] [qZ 27,yd 28 9,xx 29,xP 30 du 27 28 29]) (wT (x9 31 23) 23 31)))) (.cut (qe [wV 32 7,qu 33 32] (.blk 4 (xp 35 33 1 34 35 34 (wd (qe [xx 37,qV 38 37,wV 39 38,xL 41 7,qu 40 39,qu 42 41,qb 43 (.lk 1 qC true (.t 40) (.t 42)),qg 36 43,wN 44 0 36,wN 45 1 36,qg 10 44,qg 11 45] (xm [qg 46 11] 46 [qZ 47,ye 48 47 2])) [xx 49,qV 50 49,wV 51 50,xL 53 7,qu 52 51,qu 54 53,qD (.mup 1 (.t 52) (.t 54) yh)]) (qL (wU 56 33 2 55 56) 55 (qe [xx 58,xL 59 7,qu 60 59,wI 61 bY 58 60,qg 57 61,wN 62 0 57,wN 63 1 57,qg 12 62,qg 13 63] (xm [qg 64 13,xn 65 64] 65 [qZ 66,ye 67 66 3])))))) (qL [wV 68 7,qu 69 68,wb 70 69 5,qg 71 70,xD 72 71 0 7,xA 73 71 72,qO 74 71 (wP .eql 73 6),xY 75 71 74] 75 (yb [qZ 76,xZ 77 7,xx 79,qu 78 77,xt 80 cU 79,wX 77 78,xP 81 bx 76 78 80] [qZ 82,qq 83 4 7,xx 85,qu 84 83,xt 86 cU 85,wX 83 84,xP 87 bx 82 84 86])))) (wT (x9 88 16) 16 88)))
def eA:FK:=⟨89,[],(AK.whole eF)⟩
theorem pf:ag Tryz.prog bx=some eA:=by kernel_rfl
def fc:AK:=yf [wJ 1 1 0,wS 2] [qH 11 1 1,xt 12 fa 11,xn 13 12] 13 [qJ 2 1] (wY [qH 14 1 1,ws 15 [.nils,qC,qC] [xo 0 14],wJ 16 3 15,qg 3 16] (wR [wV 17 1,qu 18 17,wn 19 18,wS 20] 0 (qK [xb 21 20 19] (xK 21 wA) (wy 1 (xH [qg 22 20,wB 23 3 18 20,qH 24 3 23,qY 5 [qF,.nils,.nils],qg 4 22,qU 3 5 24] [qg 25 3,qg 26 4,qV 27 25,xL 28 27,xw 28 26] (.cut (xm [qH 29 1 1,wV 30 5,qu 31 30,wI 32 jo 29 31,qg 33 4,xb 34 32 33] 34 [qg 35 3,ye 36 35 2]) (qK (wT (qp 37 cU [.c .nilp]) 6 37) (wR [xL 38 5,qu 39 38,wn 40 39,wS 41] 2 (qK [xb 42 41 40] (xK 42 (.exit 2)) (wy 3 (qK [wB 43 1 39 41,qu 44 43,qg 8 44] (qe [yq 46,qV 47 46,wV 48 47,qu 49 48,yc 50,qb 51 (.lk 1 qC true (.t 49) (.t 50)),qg 45 51,wN 52 0 45,wN 53 1 45,qg 9 52,qg 10 53] (xm [qg 54 10] 54 [qg 55 3,ye 56 55 2])) (.reg [yq 57,qV 58 57,wV 59 58,qu 60 59,yc 61,qD (.mup 1 (.t 60) (.t 61) yh)])) (wT (x9 62 41) 41 62)))) (.reg [qg 63 3,xv 64 5,qu 65 64,yq 66,xP 67 bx 63 65 66])))) (wT (x9 68 20) 20 68)))) [qg 69 3,qV 70 69,xv 71 70,qu 72 71,qg 2 72])
def fv:FK:=⟨73,[xJ],(AK.whole fc)⟩
theorem pI:ag Tryz.prog fj=some fv:=by kernel_rfl
def vj:FK:=⟨6,[xJ],xc [wJ 1 1 0,yp] [qH 3 1 1,xt 4 fj 3,wb 5 4 0,xq 2]⟩
theorem Es:ag Tryz.prog nX=some vj:=by kernel_rfl
def gG:FK:=⟨19,[xu],wY [xQ] (wR [qZ 6,wn 7 6,wS 8] 0 (qK [xb 9 8 7] (xK 9 wA) (wy 1 (qe (wT (yc 10) 5 10) (wg [xf 11,qZ 12,xq 13,wB 14 1 12 13,qu 15 14,qb 16 (.callv (.t 11) (xr 15))] 16 (wT (xq 17) 4 17))) (wT (x9 18 8) 8 18)))) [qJ 4 (-1)]⟩
theorem nr:ag Tryz.prog dG=some gG:=by kernel_rfl
def eQ:FK:=⟨9,[xu],xc [xk] [qZ 5,xf 6,wI 7 dG 5 6,qx 8 .geq 7 0,yc 4]⟩
theorem lq:ag Tryz.prog cJ=some eQ:=by kernel_rfl
def mJ:FK:=⟨6,[xJ],xc [yp] [qZ 3,xt 4 iQ 3,xn 5 4,xq 2]⟩
theorem ve:ag Tryz.prog cx=some mJ:=by kernel_rfl
def lh:FK:=⟨14,[xu],xc [xk] [qZ 5,wn 6 5,xf 7,wl 8 .eql 6 7,yc 9,xz 10 9 0,qN 11 9 (x7 cJ 10 (.c (.fn (.func cx) []))),qN 12 9 (wo 11),xT 13 9 12,qg 4 13]⟩
theorem zs:ag Tryz.prog lb=some lh:=by kernel_rfl
def rQ:FK:=⟨21,[xu],xc [wJ 2 1 0,xk] [qH 5 1 2,xt 6 nX 5,yq 7,xz 8 7 1,xa 9 7 0 2,wZ 10 7 9,xa 11 7 0 2,wZ 12 7 11,qN 13 7 (wc 12),xE 14 7 .sub 13 1,qN 15 7 (qW 3 10 (.t 14)),xa 16 7 1 15,wZ 17 7 16,qN 18 7 (wc 17),qN 19 7 (x7 lb 8 (.t 18)),xT 20 7 19,qg 4 20]⟩
theorem AQ:ag Tryz.prog iV=some rQ:=by kernel_rfl
def kG:FK:=⟨8,[xJ],wY [xB 2 .nils] (wg [qZ 3,qb 4 (.snil false (.t 3))] 4 [xB 2 .nils]) [qX 5 1 [qC] 0 [],qZ 6,xj 7 1 8 5 6,yg 2]⟩
theorem sh:ag Tryz.prog dI=some kG:=by kernel_rfl
def ft:FK:=⟨19,[],wd (xm [qZ 2,qV 3 2,xv 4 3,qZ 6,qV 7 6,xL 8 7,qu 5 4,qu 9 8,wl 10 .eql 5 9] 10 [qp 11 lI [qj 3]]) [qZ 12,qV 13 12,xv 14 13,qu 15 14,x9 16 15,qV 17 12,xv 18 17,xw 18 16]⟩
theorem ra:ag Tryz.prog dp=some ft:=by kernel_rfl
def mD:FK:=⟨28,[xu],wY [xB 4 .nilp] (wa 0 (xF [qZ 7,qV 8 7,xL 9 8,qu 10 9,qb 11 (.pnil 0 true (.t 10))] 11 wA 1 (qe [qZ 17,qV 18 17,wV 19 18,qu 20 19,xf 21,qb 22 (.lk 1 qC true (.t 20) (.t 21)),qg 16 22,wN 23 0 16,wN 24 1 16,qg 5 23,xX 24] (wg [yq 25] 25 (wT (qZ 26) 4 26))) [qZ 12,qV 13 12,xL 14 13,qu 15 14,qg 0 15])) (wT (qZ 27) 4 27)⟩
theorem vh:ag Tryz.prog eM=some mD:=by kernel_rfl
def oX:FK:=⟨4,[xJ],wY [wS 2] (wg [qZ 3] 3 [qJ 2 1]) [wS 2]⟩
theorem Ab:ag Tryz.prog kx=some oX:=by kernel_rfl
def no:FK:=⟨70,[.t 6,.t 7],qe [wS 6,wK 7] (wY [xB 8 (.fn (.func kx) [])] (qe [qZ 9] (.blk 0 (xp 11 9 3 10 11 10 (qA [xf 12,xx 13,wl 14 .add 12 13,qx 15 .rem 14 256,xX 15,qd 7 wz]) (xp 17 9 4 16 17 16 (qA [xf 18,xx 19,wl 20 .sub 18 19,wE 21 20 256,qx 22 .rem 21 256,xX 22,qd 7 wz]) (xp 24 9 5 23 24 23 (qA [xf 25,xx 26,wl 27 .mul 25 26,qx 28 .rem 27 256,xX 28,qd 7 wz]) (wM (wU 30 9 6 29 30) 29 (.reg (wU 31 9 7 29 31)) (qo 29 (.seq (wg [xx 32,wb 33 32 0] 33 [wS 6,wK 7]) (xW (wg [qZ 34,wb 35 34 6] 35 [xf 36,xx 37,wl 38 .quo 36 37,xX 38,qd 7 wz]) [xf 39,xx 40,wl 41 .rem 39 40,xX 41,qd 7 wz])) (xp 43 9 8 42 43 42 (qA [yc 44,xf 45,xx 46,xb 47 45 46,qb 48 (.callv (.t 44) (xr 47)),xX 48,qd 7 wz]) (xp 50 9 9 49 50 49 (qA [yc 51,xf 52,xx 53,wl 54 .eql 52 53,qb 55 (.callv (.t 51) (xr 54)),xX 55,qd 7 wz]) (wg (wU 57 9 10 56 57) 56 [yc 58,xf 59,qx 60 .neq 59 0,qg 61 60,xz 62 61 2,xE 63 61 .neq 62 0,xT 64 61 63,qb 65 (.callv (.t 58) (xr 64)),xX 65,qd 7 wz])))))))))) [yc 66,xf 67,wb 68 67 0,qb 69 (.callv (.t 66) (xr 68)),xX 69,qd 7 wz])⟩
theorem sX:ag Tryz.prog gU=some no:=by kernel_rfl
def fx:FK:=⟨13,[xu],wY [xB 4 .nilp] (xm [xf 5,qx 6 .geq 5 16] 6 [qp 7 lI [qj 2]]) [qZ 8,xf 9,qV 10 8,qq 11 4 10,qb 12 (.idxA 16 1 (.t 11) (.t 9)),qg 4 12]⟩
theorem pO:ag Tryz.prog dr=some fx:=by kernel_rfl
def an:FK:=⟨126,[.t 6],qK [wJ 4 4 1,wS 6] (qe [wV 16 4,qu 17 16] (.blk 0 (xp 19 17 1 18 19 18 (qA [xL 20 4,qu 21 20,xX 21]) (xp 23 17 2 22 23 22 (qA [xx 24,xv 25 4,xv 31 4,qu 26 25,qu 32 31,wI 27 eM 24 26,wX 31 32,qV 28 27,wV 29 28,qu 30 29,qb 33 (.lk 1 qC false (.t 30) (.t 32)),xX 33]) (xp 35 17 10 34 35 34 (.seq (wg [qZ 36,xZ 37 4,qu 38 37,wu 39 4 38 yh,yd 40 39,xx 41,xC 42 (xO 36 40 41),wb 43 42 0] 43 [wS 6]) (xc [qZ 45,xZ 46 4,qu 47 46,wu 48 4 47 (qj 1),yd 49 48,xx 50,xC 51 (xO 45 49 50),qp 52 gU [qj 10,qj 1,.t 51],qg 44 52,wN 53 0 44,wN 54 1 44,qg 7 53,qg 8 54] (wT (yg 55) 6 55))) (xp 57 17 12 56 57 56 (qA [qZ 58,qZ 59,xZ 60 4,qu 61 60,wu 62 4 61 yh,yd 63 62,xx 64,xC 65 (xO 59 63 64),wI 66 dr 58 65,qV 67 66,qu 68 67,xX 68]) (qL (wU 70 17 13 69 70) 69 (wY [xB 9 .nils] (wR [xZ 71 4,qu 72 71,wn 73 72,wS 74] 1 (qK [xb 75 74 73] (xK 75 (.exit 1)) (wy 2 (yb [wB 76 4 72 74,yd 77 76,qY 11 [qC,qC,qF,.nils],qU 4 11 77] [qg 78 9,qZ 79,yd 80 11,xx 81,xC 82 (xO 79 80 81),qX 83 1 [qC] 1 [xo 0 82],xj 84 1 8 78 83,qg 9 84]) (wT (x9 85 74) 74 85)))) [qZ 86,qZ 87,qV 88 87,wV 89 88,xv 91 4,qg 94 9,qH 90 1 89,qu 92 91,wI 93 jo 90 92,xP 95 dt 86 93 94,xX 95])))))))) (qK [qZ 96,xZ 97 4,qu 98 97,wu 99 4 98 yh,yd 100 99,xx 101,xC 102 (xO 96 100 101),qg 12 102,wS 13] (xm [xZ 103 4,qu 104 103,wn 105 104,qx 106 .gtr 105 1] 106 [qZ 107,xZ 108 4,qu 109 108,wu 110 4 109 (qj 1),yd 111 110,xx 112,xC 113 (xO 107 111 112),qg 13 113]) (wY [wV 115 4,qu 116 115,qg 117 12,qg 118 13,xP 119 gU 116 117 118,qg 114 119,wN 120 0 114,wN 121 1 114,qg 14 120,qg 15 121] (xm [qg 122 15,xn 123 122] 123 [qp 124 lI [qj 1]]) (wT (qg 125 14) 6 125)))⟩
theorem jT:ag Tryz.prog bJ=some an:=by kernel_rfl
def tZ:FK:=⟨7,[xJ],xc [xB 2 .nilp] [qb 3 .mkm,qZ 4,ws 5 [.nilm,.nilp] [xo 0 3,xo 1 4],wJ 6 2 5,yq 2]⟩
theorem BZ:ag Tryz.prog gE=some tZ:=by kernel_rfl
def ff:FK:=⟨109,[.t 6],qK [wJ 4 5 1,xB 6 .nilp] (qL [wV 10 4,qu 11 10,wb 12 11 6] 12 (xW (wa 0 (wM [qZ 13,xv 14 4,qu 15 14,wu 16 4 15 yh,yd 17 16,xx 18,xC 19 (xO 13 17 18),qx 20 .neq 19 0] 20 wA (.blk 1 (wd (qe [qZ 21,xZ 22 4,xx 24,qu 23 22,xt 25 gE 24,wX 22 23,xP 26 be 21 23 25,qg 7 26] (wg [yg 27,qb 28 (.pnil 0 true (.t 27))] 28 (wT (yg 29) 6 29))) [qZ 30,xt 31 dp 30])))) [xB 6 .nilp])) (wY [qZ 32,xv 33 4,qu 34 33,wu 35 4 34 yh,yd 36 35,xx 37,xC 38 (xO 32 36 37),qg 8 38] (qe [wV 39 4,qu 40 39] (.blk 2 (xp 42 40 1 41 42 41 (.reg [xx 43,qV 44 43,wV 45 44,xL 47 4,yc 49,qu 46 45,qu 48 47,qD (.mup 1 (.t 46) (.t 48) (.t 49))]) (xp 51 40 2 50 51 50 (.reg [xx 52,xL 53 4,xL 59 4,yc 61,qu 54 53,qu 60 59,wI 55 eM 52 54,wX 59 60,qV 56 55,wV 57 56,qu 58 57,qD (.mup 1 (.t 58) (.t 60) (.t 61))]) (xp 63 40 3 62 63 62 (.reg [qZ 64,qZ 65,qV 66 65,xZ 67 66,qu 68 67,yc 69,qX 70 1 [qC] 1 [xo 0 69],xj 71 1 8 68 70,qV 72 64,xZ 73 72,xw 73 71]) (xp 75 40 4 74 75 74 (yb [qZ 76,xv 77 4,qu 78 77,wu 79 4 78 (qj 1),yd 80 79,xx 81,xC 82 (xO 76 80 81),qg 9 82] [qZ 83,yc 84,wI 85 dr 83 84,qg 86 9,qV 87 85,xw 87 86]) (xp 89 40 5 88 89 88 (xW (wg [yc 90,qx 91 .neq 90 0] 91 [qZ 92,xZ 93 4,xx 95,qu 94 93,xt 96 gE 95,wX 93 94,xP 97 be 92 94 96,xX 97]) [qZ 98,qq 99 4 4,xx 101,qu 100 99,xt 102 gE 101,wX 99 100,xP 103 be 98 100 102,xX 103]) (wg (wU 105 40 7 104 105) 104 [yc 106,ws 107 [qC] [xo 0 106],wJ 108 1 107,xX 108])))))))) [xB 6 .nilp])⟩
theorem jX:ag Tryz.prog fg=some ff:=by kernel_rfl
def jg:FK:=⟨26,[.t 6],wY [xB 6 .nilp] (wR [xf 10,wn 11 10,wS 12] 0 (qK [xb 13 12 11] (xK 13 wA) (wy 1 (xH [wB 14 5 10 12,qH 15 5 14,qY 8 [qC,qF,.nils,.nils,.nils],qU 5 8 15] [qZ 16,xt 17 dp 16] (qe [qZ 18,qH 19 5 8,xx 20,xP 21 fg 18 19 20,qg 9 21] (wg [qg 22 9,qb 23 (.pnil 0 true (.t 22))] 23 (wT (qg 24 9) 6 24)))) (wT (x9 25 12) 12 25)))) [xB 6 .nilp]⟩
theorem oD:ag Tryz.prog be=some jg:=by kernel_rfl
def jL:FK:=⟨57,[.t 6],qe [wS 6] (qK [qb 11 .mkm,ws 12 [.nilm,.nilp] [xo 0 11],wJ 13 2 12,qg 7 13] (wR [qZ 14,qV 15 14,wV 16 15,wV 17 16,qu 18 17,xf 19,wB 20 3 18 19,xL 21 20,qu 22 21,wn 23 22,wS 24] 0 (qK [xb 25 24 23] (xK 25 wA) (wy 1 (yb [qg 26 24,wB 27 1 22 24,qu 28 27,qg 8 26,qg 9 28] [yg 29,qV 30 29,wV 31 30,qg 33 9,xx 34,yc 35,wB 36 1 34 35,qu 32 31,qu 37 36,qD (.mup 1 (.t 32) (.t 33) (.t 37))]) (wT (x9 38 24) 24 38)))) (xW (qe [qZ 39,qZ 40,qV 41 40,wV 42 41,wV 43 42,qu 44 43,xf 45,wB 46 3 44 45,xv 47 46,qu 48 47,yg 49,xP 50 be 39 48 49,qg 10 50] (wg [qg 51 10,qb 52 (.pnil 0 true (.t 51))] 52 [qg 53 10,qV 54 53,wV 55 54,qu 56 55,xX 56])) [wS 6]))⟩
theorem rd:ag Tryz.prog dt=some jL:=by kernel_rfl
def jP:FK:=⟨12,[],.reg [qu 4 0,wV 5 1,qu 6 5,wn 7 6,xG 8 7 1,qu 9 2,xP 10 dt 4 8 9,xv 11 3,xw 11 10]⟩
theorem pY:ag Tryz.prog dv=some jP:=by kernel_rfl
def ij:AK:=xH [wJ 3 1 0,wJ 4 1 1,qY 6 [.nils,qC,qC,.nils],wS 7] [qH 10 1 3,xx 11,ws 12 [.nils,qC,qC,.nils,qC,qC,qC,qC,qC,qC,qC,qC,qC,qC,qC,qC,qC,qC,qC,qC] [xo 0 10,xo 1 11],wJ 13 20 12,qY 8 [.nilp],xw 8 13] (qe [qY 9 [.nils,qC,qC,.nils]] (.cut (.reg [qb 14 (.mkf (.func dv) [.t 8,.t 3,.t 4,.t 9]),xt 15 rD 14,xL 16 9,xw 16 15]) (xc [qu 17 8,qV 18 17,xZ 19 18,qu 20 19,wV 26 9,qu 21 8,qV 22 21,qq 23 4 22,qb 24 (.slA 16 1 (.t 23) none none),xt 25 dI 24,wX 8 17,wX 19 20,xw 26 20,xZ 27 9,xw 27 25] [yd 28 9,qu 29 8,qV 30 29,xv 31 30,qu 32 31,qU 4 6 28,wX 8 29,wX 31 32,qg 7 32])))
def gS:FK:=⟨33,[xS 6 4,.t 7],(AK.whole ij)⟩
theorem sR:ag Tryz.prog cT=some gS:=by kernel_rfl
def my:FK:=⟨21,[xu],yf [wJ 2 1 0,xQ] [qH 7 1 2,xf 8,wI 9 iV 7 8,xn 10 9] 10 [qJ 4 (-1)] (wY [qH 12 1 2,xf 13,qp 14 cT (xN 12 13 (qj 4000)),qg 11 14,wN 15 0 11,wN 16 1 11,qY 5 [.nils,qC,qC,.nils],qU 4 5 15,xX 16] (wg [xL 17 5,qu 18 17,wb 19 18 3] 19 [qJ 4 (-1)]) (wT (yq 20) 4 20))⟩
theorem rv:ag Tryz.prog fG=some my:=by kernel_rfl
def lX:FK:=⟨28,[xS 6 4,.t 7],yf [wJ 3 1 0,qY 6 [.nils,qC,qC,.nils],wK 7] [qH 10 1 3,xf 11,wI 12 iY 10 11,xn 13 12,qg 14 13,xy 15 14 2,qO 16 14 (x8 (xM 15 yh (qj 4000))),qO 17 14 (wo 16),xY 18 14 17] 18 [ws 19 [.nils,qC,qC,.nils] [],qU 4 6 19,wK 7] (xc [qH 21 1 3,xf 22,xx 23,xP 24 jd 21 22 23,qg 20 24,wN 25 0 20,wN 26 1 20,qY 8 [.nils,qC,qC,.nils],qU 4 8 25,qg 9 26] [yd 27 8,qU 4 6 27,qd 7 wz])⟩
theorem tt:ag Tryz.prog gy=some lX:=by kernel_rfl
def lE:FK:=⟨28,[xS 6 4,.t 7],yf [wJ 3 1 0,qY 6 [.nils,qC,qC,.nils],wK 7] [qH 10 1 3,xf 11,wI 12 iV 10 11,xn 13 12,qg 14 13,xy 15 14 2,qO 16 14 (.call dc (xM 15 yh (qj 4000))),qO 17 14 (wo 16),xY 18 14 17] 18 [ws 19 [.nils,qC,qC,.nils] [],qU 4 6 19,wK 7] (xc [qH 21 1 3,xf 22,xx 23,xP 24 cT 21 22 23,qg 20 24,wN 25 0 20,wN 26 1 20,qY 8 [.nils,qC,qC,.nils],qU 4 8 25,qg 9 26] [yd 27 8,qU 4 6 27,qd 7 wz])⟩
theorem ua:ag Tryz.prog cW=some lE:=by kernel_rfl
def oU:FK:=⟨11,[xJ],wY [xB 2 .nilp] (xm [qZ 3,wn 4 3,qx 5 .gtr 4 2000] 5 [qZ 6,qb 7 (.slS 1 (.t 6) none (some (qj 2000))),yg 0]) [qZ 8,ws 9 [.nils,qC] [xo 0 8],wJ 10 2 9,qg 2 10]⟩
theorem zD:ag Tryz.prog kR=some oU:=by kernel_rfl
def eu:FK:=⟨99,[xu],qe [xQ] (yf [qZ 7,qZ 8,qV 9 8,xL 10 9,qu 11 10,x9 12 11,qV 13 7,xL 14 13,xw 14 12] [xf 15,qx 16 .lss 15 1,qg 17 16,xy 18 17 0,qO 19 17 (qw 18),xD 20 17 0 19,xA 21 17 20,qO 22 17 (wc 21),qO 23 17 (wP .eql 22 0),xY 24 17 23] 24 [xQ] (yf [qZ 25,qV 26 25,xL 27 26,qu 28 27,xG 29 28 1,qg 5 29] [xq 30,qZ 31,qV 32 31,wV 33 32,qu 34 33,wn 35 34,xb 36 30 35] 36 [qZ 37,qV 38 37,wV 39 38,qu 40 39,xq 41,wB 42 1 40 41,qu 43 42,qb 44 (.conv .i64 (.t 43)),xf 45,wl 46 .rem 44 45,qg 4 46] (qe [qZ 47,qV 48 47,wV 49 48,xq 51,qZ 52,qV 53 52,wV 54 53,qZ 62,qV 63 62,wV 64 63,xq 66,qx 67 .mul 66 7,wE 68 67 3,qZ 69,qV 70 69,wV 71 70,xq 80,qx 81 .mul 80 29,xq 83,qZ 84,qV 85 84,wV 86 85,qu 50 49,qu 55 54,wn 56 55,wl 57 .rem 51 56,wB 58 1 50 57,qu 59 58,qb 60 (.conv .i64 (.t 59)),qx 61 .mul 60 131,qu 65 64,qu 72 71,wn 73 72,wl 74 .rem 68 73,wB 75 1 65 74,qu 76 75,qb 77 (.conv .i64 (.t 76)),qx 78 .mul 77 1117,wl 79 .add 61 78,wl 82 .add 79 81,qu 87 86,wn 88 87,wl 89 .quo 83 88,qx 90 .mul 89 53,wl 91 .add 82 90,xX 91] (xc [yq 92,yq 93,qx 94 .quo 93 64,wl 95 .xor 92 94,xX 95] [yq 96,xf 97,wl 98 .rem 96 97,qg 4 98]))))⟩
theorem tm:ag Tryz.prog aT=some eu:=by kernel_rfl
def iN:FK:=⟨12,[xu],xc [xQ] [xf 5,qZ 6,xf 7,wn 8 7,yj 9 6 (.t 8),wB 10 1 5 9,qu 11 10,qg 4 11]⟩
theorem mI:ag Tryz.prog cz=some iN:=by kernel_rfl
def jv:FK:=⟨12,[xu],xc [xB 4 qF] [xf 5,qZ 6,xf 7,wn 8 7,yj 9 6 (.t 8),wB 10 1 5 9,qu 11 10,qg 4 11]⟩
theorem nH:ag Tryz.prog cN=some jv:=by kernel_rfl
def fI:FK:=⟨21,[xS 4 4],wY [qY 4 [qC,qC,qF,.nils]] (wg [xf 5,wn 6 5,wb 7 6 0,yg 8,xy 9 8 0,qO 10 8 (x7 aT 9 (qj 3)),qO 11 8 (wP .eql 10 0),xY 12 8 11] 12 [qZ 13,qX 14 1 [qC] 10 [yn 0,xe 1 1,xe 2 2,xe 3 3,xe 4 5,xe 5 7,xe 6 15,xe 7 16,xe 8 100,xe 9 255],wW 15 13 14,ws 16 [qC,qC,qF,.nils] [yn 1,xo 1 15],qU 4 4 16]) [qZ 17,xf 18,xI 19 17 18,ws 20 [qC,qC,qF,.nils] [yn 2,xo 2 19],qU 4 4 20]⟩
theorem rI:ag Tryz.prog di=some fI:=by kernel_rfl
def dW:FK:=⟨47,[xS 6 4],yf [qY 6 [qC,qC,qF,.nils]] [xx 8,qx 9 .lss 8 2,qg 10 9,xy 11 10 0,qO 12 10 (x7 aT 11 (qj 4)),qO 13 10 (wP .eql 12 0),xY 14 10 13] 14 [qZ 15,xf 16,wI 17 di 15 16,qU 4 6 17] (.seq (wg [qZ 18,yj 19 18 (qj 7),wb 20 19 0] 20 [qZ 21,qX 22 1 [qC] 3 [yn 11,xe 1 12,xe 2 11],wW 23 21 22,qZ 24,xf 25,xx 26,xG 27 26 1,xP 28 aS 24 25 27,qX 29 4 [qC,qC,qF,.nils] 1 [ym 4 28],ws 30 [qC,qC,qF,.nils] [xo 0 23,xo 3 29],qU 4 6 30]) (xc [qZ 31,qX 32 1 [qC] 9 [yn 3,xe 1 3,xe 2 4,xe 3 5,xe 4 6,xe 5 7,xe 6 8,xe 7 9,xe 8 10],wW 33 31 32,qg 7 33] [yg 34,qZ 35,xf 36,xx 37,xG 38 37 1,xP 39 aS 35 36 38,qZ 40,xf 41,xx 42,xG 43 42 1,xP 44 aS 40 41 43,qX 45 4 [qC,qC,qF,.nils] 2 [ym 4 39,wD 4 4 44],ws 46 [qC,qC,qF,.nils] [xo 0 34,xo 3 45],qU 4 6 46]))⟩
theorem mg:ag Tryz.prog aS=some dW:=by kernel_rfl
def lH:FK:=⟨99,[xS 4 4],qe [qY 4 [qC,qC,qF,.nils]] (yf [xB 5 .any,qZ 9,qV 10 9,wV 11 10,qZ 13,qV 14 13,xv 15 14,xf 17,qu 12 11,qu 16 15,xP 18 aS 12 16 17,qY 5 [qC,qC,qF,.nils],qU 4 5 18] [qZ 19,qV 20 19,xL 21 20,qu 22 21,wn 23 22,wb 24 23 0,qg 25 24,xy 26 25 0,qO 27 25 (qw 26),xD 28 25 0 27,xA 29 25 28,qO 30 25 (x7 aT 29 (qj 4)),qO 31 25 (wP .gtr 30 0),xY 32 25 31] 32 [yd 33 5,qU 4 4 33] (qe [xB 6 .any,qZ 34,qV 35 34,xL 36 35,qZ 38,qV 39 38,wV 40 39,qZ 42,qV 43 42,xL 44 43,qu 37 36,qu 41 40,qu 45 44,wn 46 45,yj 47 41 (.t 46),wX 36 37,wB 48 3 37 47,qH 49 3 48,qY 6 [qF,.nils,.nils],qU 3 6 49] (qK [wV 50 6,qu 51 50,ws 52 [qC,qC,qF,.nils] [yn 13,xo 2 51],qY 7 [qC,qC,qF,.nils],qU 4 7 52] (xU [wS 8] 0 [yc 53,xL 54 6,qu 55 54,wn 56 55,xb 57 53 56] 57 wA 1 (.reg [xZ 60 7,qZ 62,qV 63 62,wV 64 63,qZ 66,qV 67 66,xv 68 67,qu 61 60,qu 65 64,qu 69 68,qp 70 aS (xN 65 69 (qj 2)),wX 60 61,xR 71 4 [qC,qC,qF,.nils] 1 [ym 4 70],xj 72 4 56 61 71,xZ 73 7,xw 73 72]) [yc 58,x9 59 58,qg 8 59]) (xW (wg [qZ 74,qV 75 74,wV 76 75,qu 77 76,yj 78 77 (qj 2),wb 79 78 0] 79 [yd 80 7,qU 4 4 80]) [qZ 81,qV 82 81,wV 83 82,xR 85 1 [qC] 4 [yn 3,xe 1 4,xe 2 8,xe 3 10],qZ 88,qV 89 88,wV 90 89,qZ 92,qV 93 92,xv 94 93,qu 84 83,yd 87 7,qu 91 90,qu 95 94,wW 86 84 85,yl 4 7 87,wX 90 91,wX 94 95,qp 96 aS (xN 91 95 (qj 2)),yl 4 7 87,qX 97 4 [qC,qC,qF,.nils] 2 [ym 4 87,wD 4 4 96],ws 98 [qC,qC,qF,.nils] [xo 0 86,xo 3 97],qU 4 4 98]))))⟩
theorem sO:ag Tryz.prog gA=some lH:=by kernel_rfl
def kJ:FK:=⟨46,[xJ],qe [xB 2 qF] (wY [qZ 3,qZ 4,qV 5 4,xZ 6 5,qu 7 6,x9 8 7,qV 9 3,xZ 10 9,xw 10 8] (wg [qZ 11,qV 12 11,wV 13 12,qu 14 13,yj 15 14 (qj 9),wb 16 15 0,qg 17 16,xz 18 17 0,qN 19 17 (qw 18),xa 20 17 2 19,wZ 21 17 20,qN 22 17 (wc 21),xE 23 17 .gtr 22 0,xT 24 17 23] 24 [qZ 25,qV 26 25,wV 27 26,qZ 29,qV 30 29,xv 31 30,qu 28 27,qu 32 31,xI 33 28 32,qg 2 33]) [qZ 34,qV 35 34,xZ 36 35,qZ 39,qV 40 39,xZ 41 40,qu 37 36,qx 38 .rem 37 24,qu 42 41,qx 43 .rem 42 24,x9 44 43,qb 45 (.slStr (wQ [97,98,99,100,101,103,104,105,106,107,108,109,110,112,113,114,115,116,117,118,119,120,121,122]) (some (.t 38)) (some (.t 44))),qg 2 45])⟩
theorem sB:ag Tryz.prog fZ=some kJ:=by kernel_rfl
def iO:FK:=⟨24,[xS 4 5],xH [wJ 3 4 1,qY 4 [qC,qF,.nils,.nils,.nils]] [qZ 6,xt 7 fZ 6,yg 5] (xc [qZ 8,qX 9 1 [qF] 0 [],qZ 10,qV 11 10,xv 12 11,qu 13 12,xj 14 1 16 9 13,xq 15,qX 16 1 [qF] 1 [xo 0 15],xj 17 1 16 14 16,qV 18 8,xv 19 18,xw 19 17] [xq 20,yd 21 3,qX 22 4 [qC,qC,qF,.nils] 1 [ym 4 21],ws 23 [qC,qF,.nils,.nils,.nils] [yn 1,xo 1 20,xo 2 22],qU 5 4 23])⟩
theorem mO:ag Tryz.prog dy=some iO:=by kernel_rfl
def lz:FK:=⟨14,[xS 2 4],xc [qY 2 [qC,qC,qF,.nils]] [qZ 3,qZ 5,qV 6 5,wV 7 6,xR 9 1 [qC] 6 [yn 16,xe 1 16,xe 2 16,xe 3 8,xe 4 17,xe 5 0],qu 8 7,ya 4 3 2,wX 7 8,wW 10 8 9,ws 11 [qC,qC,qF,.nils] [yn 1,xo 1 10],qX 12 4 [qC,qC,qF,.nils] 2 [ym 4 4,wD 4 4 11],ws 13 [qC,qC,qF,.nils] [yn 7,xo 3 12],qU 4 2 13]⟩
theorem ui:ag Tryz.prog eq=some lz:=by kernel_rfl
def ic:AK:=xH [xB 4 .nils] [qZ 9,qZ 10,qV 11 10,wV 12 11,qu 13 12,qX 14 1 [qC] 5 [yn 2,xe 1 3,xe 2 1,xe 3 0,xe 4 5],wW 15 13 14,ws 16 [qC,qC,qF,.nils] [yn 1,xo 1 15],wI 17 dy 9 16,qY 5 [qC,qF,.nils,.nils,.nils],qU 5 5 17] (xH [xL 18 5,qu 19 18,ws 20 [qC,qC,qF,.nils] [yn 2,xo 2 19],qY 6 [qC,qC,qF,.nils],qU 4 6 20] [qZ 21,xf 22,xG 23 22 1,wI 24 aW 21 23,qg 7 24] (qe [xL 25 5,qu 26 25,yd 27 6,ws 28 [qC,qC,qF,.nils] [yn 1,xe 1 1],qX 29 4 [qC,qC,qF,.nils] 2 [ym 4 27,wD 4 4 28],ws 30 [qC,qC,qF,.nils] [yn 4,xo 3 29],qX 31 4 [qC,qC,qF,.nils] 1 [ym 4 30],ws 32 [qC,qF,.nils,.nils,.nils] [yn 2,xo 1 26,xo 2 31],qY 8 [qC,qF,.nils,.nils,.nils],qU 5 8 32] (.cut (.reg [qZ 33,qZ 34,qV 35 34,qq 36 4 35,qu 37 36,xG 38 37 2,qV 39 33,qq 40 4 39,xw 40 38]) (qA [yg 44,qH 41 5 5,yd 42 6,xR 43 4 [qC,qC,qF,.nils] 1 [ym 4 42],qH 45 5 8,xR 46 5 [qC,qF,.nils,.nils,.nils] 1 [ym 5 45],xj 47 5 96 44 46,yl 5 5 41,yl 4 6 42,ws 48 [qC,qF,.nils,.nils,.nils] [yn 6,xo 2 43,xo 3 47],qX 49 5 [qC,qF,.nils,.nils,.nils] 2 [ym 5 41,wD 5 5 48],qg 4 49]))))
def gD:FK:=⟨50,[xu],(AK.whole ic)⟩
theorem ta:ag Tryz.prog gP=some gD:=by kernel_rfl
def lA:FK:=⟨128,[xu],xH [xB 4 .nils] [qZ 7,qZ 8,qV 9 8,qq 10 4 9,qu 11 10,xG 12 11 1,qV 13 7,qq 14 4 13,xw 14 12] (wY [qZ 15,qV 16 15,wV 17 16,qu 18 17,yj 19 18 (qj 13),qg 5 19] (.blk 0 (qB [xq 21,qx 22 .lss 21 3,qg 23 22,xz 24 23 0,qN 25 23 (qw 24),xa 26 23 2 25,wZ 27 23 26,qN 28 23 (wc 27),xE 29 23 .gtr 28 0,xT 30 23 29,qg 20 30] 20 (qA [qZ 31,qV 32 31,wV 33 32,qZ 35,qV 36 35,xv 37 36,qZ 40,qu 34 33,qu 38 37,xI 39 34 38,ya 41 40 3,qX 42 4 [qC,qC,qF,.nils] 1 [ym 4 41],ws 43 [qC,qF,.nils,.nils,.nils] [yn 2,xo 1 39,xo 2 42],qX 44 5 [qC,qF,.nils,.nils,.nils] 1 [ym 5 43],qg 4 44]) (qB [xq 46,qx 47 .lss 46 5,qg 45 47] 45 (qA [qZ 48,qZ 49,ya 50 49 3,wI 51 dy 48 50,qX 52 5 [qC,qF,.nils,.nils,.nils] 1 [ym 5 51],qg 4 52]) (qB [xq 54,qx 55 .lss 54 7,qg 56 55,xy 57 56 1,qO 58 56 (wP .lss 57 2),xY 59 56 58,qg 53 59] 53 (qA [qZ 60,ya 61 60 3,qX 62 4 [qC,qC,qF,.nils] 1 [ym 4 61],ws 63 [qC,qF,.nils,.nils,.nils] [yn 3,xo 2 62],qX 64 5 [qC,qF,.nils,.nils,.nils] 1 [ym 5 63],qg 4 64]) (qB [xq 66,wb 67 66 7,qg 65 67] 65 (qA [qZ 68,xt 69 eq 68,qZ 70,ya 71 70 2,qX 72 4 [qC,qC,qF,.nils] 2 [ym 4 69,wD 4 4 71],ws 73 [qC,qF,.nils,.nils,.nils] [yn 4,xo 2 72],qX 74 5 [qC,qF,.nils,.nils,.nils] 1 [ym 5 73],qg 4 74]) (qB [xq 76,wb 77 76 8,qg 75 77] 75 (qA [qZ 78,xt 79 eq 78,qX 80 4 [qC,qC,qF,.nils] 1 [ym 4 79],ws 81 [qC,qC,qF,.nils] [yn 12,xo 3 80],qX 82 4 [qC,qC,qF,.nils] 1 [ym 4 81],ws 83 [qC,qF,.nils,.nils,.nils] [yn 3,xo 2 82],qX 84 5 [qC,qF,.nils,.nils,.nils] 1 [ym 5 83],qg 4 84]) (qB [xq 86,qx 87 .lss 86 11,qg 85 87] 85 (wY [qZ 88,ya 89 88 3,qX 90 4 [qC,qC,qF,.nils] 1 [ym 4 89],qZ 91,xf 92,xG 93 92 1,wI 94 aW 91 93,ws 95 [qC,qF,.nils,.nils,.nils] [yn 5,xo 2 90,xo 3 94],qY 6 [qC,qF,.nils,.nils,.nils],qU 5 6 95] (xm [qZ 96,qV 97 96,wV 98 97,qu 99 98,yj 100 99 (qj 2),wb 101 100 0] 101 [qZ 102,xf 103,xG 104 103 1,wI 105 aW 102 104,qq 106 4 6,xw 106 105]) [qH 107 5 6,qX 108 5 [qC,qF,.nils,.nils,.nils] 1 [ym 5 107],qg 4 108]) (wg [xq 110,wb 111 110 11,qg 112 111,xz 113 112 0,qN 114 112 (qw 113),xa 115 112 0 114,wZ 116 112 115,qN 117 112 (x7 aT 116 (qj 3)),xE 118 112 .eql 117 0,xT 119 112 118,qg 109 119] 109 [qZ 120,ya 121 120 2,qX 122 4 [qC,qC,qF,.nils] 1 [ym 4 121],ws 123 [qC,qF,.nils,.nils,.nils] [yn 7,xo 2 122],qX 124 5 [qC,qF,.nils,.nils,.nils] 1 [ym 5 123],qg 4 124])))))))) [qZ 125,xf 126,wI 127 gP 125 126,qg 4 127])⟩
theorem tE:ag Tryz.prog gv=some lA:=by kernel_rfl
def kQ:FK:=⟨40,[xu],xH [xB 4 .nils] [qZ 8,qV 9 8,xv 10 9,qu 11 10,qg 5 11] (qK (wT (qX 12 5 [qC,qF,.nils,.nils,.nils] 0 []) 6 12) (xU [qZ 13,qV 14 13,wV 15 14,qu 16 15,qX 17 1 [qC] 4 [yn 2,xe 1 3,xe 2 1,xe 3 4],wW 18 16 17,qg 7 18] 0 [yg 19,qx 20 .gtr 19 0,qg 21 20,xz 22 21 0,qN 23 21 (qw 22),xa 24 21 4 23,wZ 25 21 24,xE 26 21 .gtr 25 0,xT 27 21 26] 27 wA 1 (.reg [yq 30,qZ 31,xf 32,wI 33 gv 31 32,xj 34 5 96 30 33,xX 34]) [yg 28,xG 29 28 1,qg 7 29]) (xc [qZ 35,xq 36,qV 37 35,xv 38 37,xw 38 36] (wT (yq 39) 4 39)))⟩
theorem sy:ag Tryz.prog aW=some kQ:=by kernel_rfl
def jI:AK:=xH [qY 6 [qF,.nils,.nils]] [qZ 8,qX 9 1 [qF] 3 [(0,1,wQ [97]),(1,1,wQ [98]),(2,1,wQ [99])],xx 10,qb 11 (.slS 1 (.t 9) none (some (.t 10))),qV 12 8,xv 13 12,xw 13 11] (qe [qZ 14,xx 15,xG 16 15 1,qV 17 14,xZ 18 17,xw 18 16] (.cut (.reg [xf 19,qX 20 1 [qF] 0 [],qZ 21,qV 22 21,xv 23 22,qu 24 23,xj 25 1 16 20 24,ws 26 [qF,.nils,.nils] [xo 0 19,xo 1 25],qY 7 [qF,.nils,.nils],qU 3 7 26]) (wY [qZ 27,xV 28 aW 27 3,xv 29 7,xw 29 28] (qL [qZ 30,qV 31 30,qq 32 4 31,qu 33 32,qx 34 .gtr 33 0,qg 35 34,xz 36 35 0,qN 37 35 (qw 36),xa 38 35 0 37,wZ 39 35 38,qN 40 35 (x7 aT 39 (qj 4)),xE 41 35 .gtr 40 0,xT 42 35 41] 42 (yb [qZ 43,qZ 44,qV 45 44,qq 46 4 45,qu 47 46,xG 48 47 1,qV 49 43,qq 50 4 49,xw 50 48] [xv 51 7,qZ 53,qu 52 51,ya 54 53 2,wX 51 52,xR 55 4 [qC,qC,qF,.nils] 1 [ym 4 54],ws 56 [qC,qF,.nils,.nils,.nils] [yn 7,xo 2 55],xR 57 5 [qC,qF,.nils,.nils,.nils] 1 [ym 5 56],xj 58 5 96 52 57,xv 59 7,xw 59 58])) [qH 60 3 7,qU 3 6 60])))
def jw:FK:=⟨61,[xS 6 3],(AK.whole jI)⟩
theorem vP:ag Tryz.prog fP=some jw:=by kernel_rfl
def rt:FK:=⟨69,[xS 2 1],qe [qY 2 yi] (qK [qZ 8,qZ 9,qX 10 1 [qC] 4 [yn 14,xe 1 20,xe 2 8,xe 3 26],wW 11 9 10,ws 12 [.nilp,.nils,.nils,qC,qC] [xo 0 8,xo 4 11],wJ 13 5 12,qg 3 13] (xU [qZ 14,qX 15 1 [qC] 4 [yn 0,xe 1 1,xe 2 1,xe 3 2],wW 16 14 15,qg 4 16] 0 [qg 17 4,qx 18 .gtr 17 0] 18 wA 1 (yb [xB 5 .any,qg 21 3,xR 22 1 [qF] 3 [(0,1,wQ [102]),(1,1,wQ [103]),(2,1,wQ [104])],qg 23 3,qV 24 23,xL 25 24,qZ 30,qu 26 25,wn 27 26,wB 28 1 22 27,qu 29 28,yj 31 30 (qj 3),wX 25 26,wX 28 29,xP 32 fP 21 29 31,qY 5 [qF,.nils,.nils],qU 3 5 32] [qg 33 3,qg 34 3,qV 35 34,xL 36 35,qu 37 36,qH 38 3 5,xR 39 3 [qF,.nils,.nils] 1 [ym 3 38],xj 40 3 64 37 39,qV 41 33,xL 42 41,xw 42 40]) [qg 19 4,xG 20 19 1,qg 4 20]) (qe [qg 43 3,qZ 44,qX 45 1 [qC] 4 [yn 0,xe 1 1,xe 2 2,xe 3 1],wW 46 44 45,qp 47 fP (xM 43 (wQ [109]) (.t 46)),qY 6 [qF,.nils,.nils],qU 3 6 47] (wY [xB 7 .any,qg 49 3,qV 50 49,xL 51 50,qu 52 51,qH 54 3 6,xR 55 3 [qF,.nils,.nils] 1 [ym 3 54],qX 48 3 [qF,.nils,.nils] 0 [],wX 51 52,yl 3 6 54,xj 53 3 64 48 52,yl 3 6 54,xj 56 3 64 53 55,ws 57 yi [xo 0 56],qY 7 yi,xw 7 57] (wg [qH 58 1 7,xt 59 dw 58,xn 60 59] 60 [ws 61 [qC,qC,qF,.nils] [yn 1,xe 1 1],qX 62 4 [qC,qC,qF,.nils] 1 [ym 4 61],ws 63 [qC,qF,.nils,.nils,.nils] [yn 3,xo 2 62],qX 64 5 [qC,qF,.nils,.nils,.nils] 1 [ym 5 63],ws 65 [qF,.nils,.nils] [(0,1,wQ [109]),xo 2 64],qX 66 3 [qF,.nils,.nils] 1 [ym 3 65],ws 67 yi [xo 0 66],xw 2 67]) [qH 68 1 7,xw 2 68])))⟩
theorem AU:ag Tryz.prog dg=some rt:=by kernel_rfl
def tr:FK:=⟨42,[xS 4 4],qe [qY 4 [qC,qC,qF,.nils]] (yf [qZ 8,qX 9 1 [qF] 4 [(0,1,wQ [97]),(1,1,wQ [98]),(2,1,wQ [120]),(3,1,wQ [103,111])],xf 10,xP 11 aS 8 9 10,qY 5 [qC,qC,qF,.nils],qU 4 5 11] [qZ 12,yj 13 12 (qj 3),qx 14 .gtr 13 0] 14 [yd 15 5,qU 4 4 15] (qK [qZ 16,qX 17 1 [qF] 3 [(0,1,wQ [102]),(1,1,wQ [103]),(2,1,wQ [97])],xI 18 16 17,ws 19 [qC,qC,qF,.nils] [yn 13,xo 2 18],qY 6 [qC,qC,qF,.nils],qU 4 6 19] (xU [qZ 20,yj 21 20 (qj 4),qg 7 21] 0 [yg 22,qx 23 .gtr 22 0] 23 wA 1 (.reg [xZ 26 6,qZ 28,xR 29 1 [qF] 2 [(0,1,wQ [97]),(1,1,wQ [98])],qu 27 26,qp 30 aS (xN 28 29 (qj 2)),wX 26 27,xR 31 4 [qC,qC,qF,.nils] 1 [ym 4 30],xj 32 4 56 27 31,xZ 33 6,xw 33 32]) [yg 24,xG 25 24 1,qg 7 25]) (xW (wg [qZ 34,yj 35 34 (qj 2),wb 36 35 0] 36 [yd 37 6,qU 4 4 37]) [yd 38 5,yd 39 6,qX 40 4 [qC,qC,qF,.nils] 2 [ym 4 38,wD 4 4 39],ws 41 [qC,qC,qF,.nils] [yn 3,xo 3 40],qU 4 4 41])))⟩
theorem De:ag Tryz.prog gI=some tr:=by kernel_rfl
def rE:FK:=⟨40,[xS 2 4],qe [qY 2 [qC,qC,qF,.nils]] (wY [qZ 4,xV 5 gI 4 4,qY 3 [qC,qC,qF,.nils],qU 4 3 5] (qe [qZ 6,yj 7 6 (qj 20)] (.blk 0 (xp 9 7 0 8 9 8 (.reg [qZ 10,qX 11 1 [qC] 3 [yn (-1),xe 1 256,xe 2 3],wW 12 10 11,xL 13 3,xw 13 12]) (xp 15 7 1 14 15 14 (.reg [qZ 16,qX 17 1 [qF] 5 [(0,1,.c qF),(1,1,wQ [100,111]),(2,1,wQ [65]),(3,1,wQ [97,98,99,100,101]),(4,1,wQ [113])],xI 18 16 17,xv 19 3,xw 19 18]) (xp 21 7 2 20 21 20 (.reg [qZ 22,qX 23 1 [qC] 5 [yn 0,xe 1 14,xe 2 (-1),xe 3 5,xe 4 11],wW 24 22 23,wV 25 3,xw 25 24]) (xp 27 7 3 26 27 26 (.reg [xZ 28 3,qZ 30,qu 29 28,wH 31 di 30 (.c .nils),wX 28 29,xR 32 4 [qC,qC,qF,.nils] 1 [ym 4 31],xj 33 4 56 29 32,xZ 34 3,xw 34 33]) (xm (wU 36 7 4 35 36) 35 [qZ 37,xV 38 gI 37 7,qU 4 3 38]))))))) [yd 39 3,qU 4 2 39])⟩
theorem AG:ag Tryz.prog mr=some rE:=by kernel_rfl
def mo:AK:=xH [qY 2 yi] [qZ 9,xt 10 dg 9,qY 3 yi,xw 3 10] (qe [wV 11 3,qu 12 11,wV 13 3,qu 14 13,wn 15 14,xG 16 15 1,wB 17 3 12 16,qH 18 3 17,qY 4 [qF,.nils,.nils],qU 3 4 18] (.cut (qe [qZ 19,yj 20 19 (qj 32)] (.blk 0 (xp 22 20 0 21 22 21 (.reg [qZ 23,qX 24 1 [qF] 4 [(0,1,wQ [102]),(1,1,wQ [100,111]),(2,1,.c qF),(3,1,wQ [103])],xI 25 23 24,wV 26 4,xw 26 25]) (xp 28 20 1 27 28 27 (.reg [qX 29 1 [qF] 0 [],xL 30 4,qu 31 30,xj 32 1 16 29 31,qZ 33,qX 34 1 [qF] 3 [(0,1,wQ [97]),(1,1,wQ [120]),(2,1,wQ [105,102])],xI 35 33 34,qX 36 1 [qF] 1 [xo 0 35],xj 37 1 16 32 36,xL 38 4,xw 38 37]) (xp 40 20 2 39 40 39 (.reg [qX 41 5 [qC,qF,.nils,.nils,.nils] 0 [],xv 42 4,qu 43 42,xj 44 5 96 41 43,qZ 45,xt 46 mr 45,qX 47 4 [qC,qC,qF,.nils] 1 [ym 4 46],ws 48 [qC,qF,.nils,.nils,.nils] [yn 3,xo 2 47],qX 49 5 [qC,qF,.nils,.nils,.nils] 1 [ym 5 48],xj 50 5 96 44 49,xv 51 4,xw 51 50]) (xp 53 20 3 52 53 52 (.reg [qX 54 5 [qC,qF,.nils,.nils,.nils] 0 [],xv 55 4,qu 56 55,xj 57 5 96 54 56,qZ 58,yj 59 58 (qj 10),qZ 60,qX 61 1 [qF] 3 [(0,1,.c qF),(1,1,wQ [97]),(2,1,wQ [122,122])],xI 62 60 61,qZ 63,xV 64 gI 63 2,qX 65 4 [qC,qC,qF,.nils] 1 [ym 4 64],ws 66 [qC,qF,.nils,.nils,.nils] [xo 0 59,xo 1 62,xo 2 65],qX 67 5 [qC,qF,.nils,.nils,.nils] 1 [ym 5 66],xj 68 5 96 57 67,xv 69 4,xw 69 68]) (xp 71 20 4 70 71 70 (qe [ws 72 [qC,qC,qF,.nils] [yn 1],qX 73 4 [qC,qC,qF,.nils] 1 [ym 4 72],ws 74 [qC,qF,.nils,.nils,.nils] [yn 6,xo 2 73],qY 5 [qC,qF,.nils,.nils,.nils],qU 5 5 74] (.cut (xU [qZ 75,yj 76 75 (qj 5),xX 76] 1 [yq 77,qx 78 .gtr 77 0] 78 (.exit 1) 2 (.reg [qZ 81,xR 82 1 [qC] 2 [yn 5,xe 1 6],xv 84 5,qu 85 84,qH 86 5 5,xR 87 5 [qC,qF,.nils,.nils,.nils] 1 [ym 5 86],wW 83 81 82,wX 84 85,yl 5 5 86,ws 88 [qC,qF,.nils,.nils,.nils] [xo 0 83,xo 2 85,xo 3 87],qU 5 5 88]) [yq 79,xG 80 79 1,xX 80]) (.reg [xv 90 4,qu 91 90,qH 93 5 5,xR 94 5 [qC,qF,.nils,.nils,.nils] 1 [ym 5 93],qX 89 5 [qC,qF,.nils,.nils,.nils] 0 [],wX 90 91,yl 5 5 93,xj 92 5 96 89 91,yl 5 5 93,xj 95 5 96 92 94,xv 96 4,xw 96 95]))) (xp 98 20 5 97 98 97 (qA [ws 99 yi [],xw 2 99]) (xp 101 20 6 100 101 100 (xU [qZ 102,qX 103 1 [qC] 3 [yn 20,xe 1 40,xe 2 41],wW 104 102 103,qg 7 104] 3 [yg 105,qx 106 .gtr 105 0] 106 (.exit 3) 4 (.reg [qX 109 5 [qC,qF,.nils,.nils,.nils] 0 [],xv 110 4,qu 111 110,xj 112 5 96 109 111,yg 113,ws 114 [qC,qC,qF,.nils] [yn 1,xo 1 113],qX 115 4 [qC,qC,qF,.nils] 1 [ym 4 114],ws 116 [qC,qF,.nils,.nils,.nils] [yn 3,xo 2 115],qX 117 5 [qC,qF,.nils,.nils,.nils] 1 [ym 5 116],xj 118 5 96 112 117,xv 119 4,xw 119 118]) [yg 107,xG 108 107 1,qg 7 108]) (wg (wU 121 20 7 120 121) 120 [wV 123 3,wV 126 3,qu 124 123,qu 127 126,wu 128 3 127 yh,qH 129 3 128,xR 130 3 [qF,.nils,.nils] 1 [ym 3 129],qX 122 3 [qF,.nils,.nils] 0 [],wX 123 124,wX 126 127,yl 3 128 129,xj 125 3 64 122 124,wX 126 127,yl 3 128 129,xj 131 3 64 125 130,ws 132 yi [xo 0 131],xw 2 132])))))))))) (qe [qX 133 3 [qF,.nils,.nils] 0 [],wV 134 3,qu 135 134,xj 136 3 64 133 135,qg 8 136] (xc [yc 137,yc 138,wn 139 138,xG 140 139 1,qH 141 3 4,wB 142 3 137 140,qU 3 142 141] [yc 143,ws 144 yi [xo 0 143],xw 2 144]))))
def mA:FK:=⟨145,[xS 2 1],(AK.whole mo)⟩
theorem Ba:ag Tryz.prog md=some mA:=by kernel_rfl
def rU:FK:=⟨25,[xS 2 4],qe [wJ 1 4 0,qY 2 [qC,qC,qF,.nils]] (qK (wT (qX 5 4 [qC,qC,qF,.nils] 0 []) 3 5) (xU [xQ] 0 [xX 4,xZ 7 1,qu 8 7,wn 9 8,xb 10 6 9] 10 wA 1 (.reg [qg 13 3,xZ 14 1,qu 15 14,qg 16 4,wB 17 4 15 16,yd 18 17,xt 19 iX 18,qX 20 4 [qC,qC,qF,.nils] 1 [ym 4 19],xj 21 4 56 13 20,qg 3 21]) [qg 11 4,x9 12 11,qg 4 12]) (xc [qg 22 3,xZ 23 1,xw 23 22] [yd 24 1,qU 4 2 24]))⟩
theorem Bh:ag Tryz.prog iX=some rU:=by kernel_rfl
def oQ:FK:=⟨52,[xJ],qe [xB 2 .nils] (wY (wT (qX 8 5 [qC,qF,.nils,.nils,.nils] 0 []) 3 8) (xU [xQ] 0 [qg 9 4,qZ 10,wn 11 10,xb 12 9 11] 12 wA 1 (qe [qZ 15,qg 16 4,wB 17 5 15 16,qH 18 5 17,qY 5 [qC,qF,.nils,.nils,.nils],qU 5 5 18] (qK (wT (qX 19 4 [qC,qC,qF,.nils] 0 []) 6 19) (xU [wS 7] 2 [yg 20,xv 21 5,qu 22 21,wn 23 22,xb 24 20 23] 24 (.exit 2) 3 (.reg [yq 27,xv 28 5,qu 29 28,yg 30,wB 31 4 29 30,yd 32 31,xt 33 iX 32,qX 34 4 [qC,qC,qF,.nils] 1 [ym 4 33],xj 35 4 56 27 34,xX 35]) [yg 25,x9 26 25,qg 7 26]) (.reg [qg 36 3,wV 37 5,xL 39 5,yq 41,xZ 42 5,qq 45 4 5,qu 38 37,qu 40 39,qu 43 42,qu 46 45,xt 44 dB 43,wX 37 38,wX 39 40,wX 45 46,xt 47 dB 46,wX 37 38,wX 39 40,ws 48 [qC,qF,.nils,.nils,.nils] [xo 0 38,xo 1 40,xo 2 41,xo 3 44,xo 4 47],qX 49 5 [qC,qF,.nils,.nils,.nils] 1 [ym 5 48],xj 50 5 96 36 49,qg 3 50]))) [qg 13 4,x9 14 13,qg 4 14]) (wT (qg 51 3) 2 51))⟩
theorem zb:ag Tryz.prog dB=some oQ:=by kernel_rfl
def rk:FK:=⟨35,[xS 2 1],qe [wJ 1 1 0,qY 2 yi] (wY [ws 6 yi [],qY 3 yi,xw 3 6] (xU [xQ] 0 [qg 7 4,wV 8 1,qu 9 8,wn 10 9,xb 11 7 10] 11 wA 1 (yb [wV 14 1,qu 15 14,qg 16 4,wB 17 3 15 16,qH 18 3 17,qY 5 [qF,.nils,.nils],qU 3 5 18] [wV 19 3,wV 21 5,xL 24 5,xv 27 5,qu 20 19,qu 22 21,qu 25 24,qu 28 27,qX 23 1 [qF] 0 [],wX 19 20,wX 21 22,wX 24 25,wX 27 28,xj 26 1 16 23 25,wX 19 20,wX 21 22,wX 27 28,xt 29 dB 28,wX 19 20,wX 21 22,ws 30 [qF,.nils,.nils] [xo 0 22,xo 1 26,xo 2 29],qX 31 3 [qF,.nils,.nils] 1 [ym 3 30],wX 19 20,xj 32 3 64 20 31,wV 33 3,xw 33 32]) [qg 12 4,x9 13 12,qg 4 13]) [qH 34 1 3,xw 2 34])⟩
theorem Bn:ag Tryz.prog mw=some rk:=by kernel_rfl
def rN:FK:=⟨104,[xS 2 1],qe [qY 2 yi] (yf [qZ 7,xt 8 dg 7,qY 3 yi,xw 3 8] [qZ 9,yj 10 9 (qj 5),qx 11 .gtr 10 2] 11 [qH 12 1 3,xw 2 12] (.seq (wg [qZ 13,yj 14 13 (qj 6),wb 15 14 0] 15 [qZ 16,xt 17 md 16,xw 2 17]) (qe [qH 18 1 3,xt 19 mw 18,xw 3 19] (yf [wV 20 3,qZ 22,wV 23 3,qu 21 20,qu 24 23,wn 25 24,yj 26 22 (.t 25),wX 20 21,wB 27 3 21 26,qg 4 27] [qg 28 4,qV 29 28,xv 30 29,qu 31 30,wn 32 31,wb 33 32 0] 33 [qH 34 1 3,xw 2 34] (qe [qg 35 4,qV 36 35,xv 37 36,qZ 39,qg 40 4,qV 41 40,xv 42 41,qu 38 37,qu 43 42,wn 44 43,yj 45 39 (.t 44),wX 37 38,wB 46 5 38 45,qg 5 46] (qK [qZ 47,qX 48 1 [qF] 5 [(0,1,wQ [122,122]),(1,1,wQ [97]),(2,1,wQ [98]),(3,1,wQ [99]),(4,1,wQ [100])],xI 49 47 48,ws 50 [qC,qC,qF,.nils] [yn 2,xo 2 49],qY 6 [qC,qC,qF,.nils],qU 4 6 50] (qe [qZ 51,yj 52 51 (qj 4)] (.blk 0 (xp 54 52 0 53 54 53 (.reg [qZ 55,qX 56 1 [qF] 4 [(0,1,wQ [102]),(1,1,wQ [103]),(2,1,wQ [109]),(3,1,wQ [113])],xI 57 55 56,ws 58 [qC,qC,qF,.nils] [yn 1,xe 1 1],qX 59 4 [qC,qC,qF,.nils] 1 [ym 4 58],ws 60 [qC,qC,qF,.nils] [yn 13,xo 2 57,xo 3 59],qU 4 6 60]) (xp 62 52 1 61 62 61 (xW (xm [xq 63,qV 64 63,xL 65 64,qu 66 65,qb 67 (yk .neq 66 (.c qF))] 67 [xq 68,qZ 69,qX 70 1 [qF] 5 [(0,1,wQ [97]),(1,1,wQ [98]),(2,1,wQ [122,122]),(3,1,wQ [99]),(4,1,wQ [100])],xI 71 69 70,qV 72 68,xL 73 72,xw 73 71]) [qH 74 1 3,xw 2 74]) (qL (wU 76 52 2 75 76) 75 (xc [qg 77 4,qg 78 4,qV 79 78,xv 80 79,qg 82 4,qV 83 82,xv 84 83,qu 81 80,qu 85 84,qb 86 (.slS 5 (.t 85) none (some (qj 1))),xt 87 dB 86,wX 80 81,xj 88 5 96 81 87,qV 89 77,xv 90 89,xw 90 88] [qH 91 1 3,xw 2 91])))))) (xW (xm [xq 92,qV 93 92,wV 94 93,qu 95 94,qx 96 .neq 95 8] 96 [xq 97,qV 98 97,xv 99 98,qu 100 99,yd 101 6,wu 102 4 100 yh,qU 4 102 101]) [qH 103 1 3,xw 2 103])))))))⟩
theorem Bi:ag Tryz.prog mf=some rN:=by kernel_rfl
def pj:AK:=xH [wJ 3 1 1,xB 4 .nils] (wT (qX 8 1 [qC] 0 []) 5 8) (qe [wS 6] (.cut (xm [wV 9 3,qu 10 9,wn 11 10,qx 12 .gtr 11 0] 12 [wV 13 3,qu 14 13,wV 15 3,qu 16 15,wn 17 16,xG 18 17 1,wB 19 3 14 18,xL 20 19,qu 21 20,wn 22 21,xX 22]) (.cut (xU [wS 7] 0 [yg 23,yq 24,xb 25 23 24] 25 wA 1 (.reg [xq 28,qZ 29,qZ 30,yj 31 30 (qj 256),qX 32 1 [qC] 8 [yn 0,xe 1 1,xe 2 2,xe 3 3,xe 4 7,xe 5 16,xe 6 255,xo 7 31],wW 33 29 32,qX 34 1 [qC] 1 [xo 0 33],xj 35 1 8 28 34,qg 5 35]) [yg 26,x9 27 26,qg 7 27]) (xW (qe [qZ 36,yj 37 36 (qj 40)] (.blk 2 (xp 39 37 0 38 39 38 (.reg [xq 40,qX 41 1 [qC] 1 [yn 0],xj 42 1 8 40 41,qg 5 42]) (qL (wU 44 37 1 43 44) 43 (xm [xq 45,wn 46 45,qx 47 .gtr 46 0] 47 [xq 48,qZ 49,qX 50 1 [qC] 2 [yn (-1),xe 1 256],wW 51 49 50,wu 52 1 48 yh,xw 52 51]))))) (wT (xq 53) 4 53)))))
def nV:FK:=⟨54,[xu],(AK.whole pj)⟩
theorem Dt:ag Tryz.prog og=some nV:=by kernel_rfl
def iA:FK:=⟨23,[xS 2 1,.t 3,xu],xH [qY 2 yi,xB 3 .nils,xQ] [qZ 7,xt 8 kR 7,yc 5] (wY [xq 9,xt 10 dg 9,qY 6 yi,xw 6 10] (xm [xq 11,yj 12 11 (qj 12),wb 13 12 0] 13 [xq 14,xt 15 mf 14,xw 6 15]) [xq 17,xq 20,xR 21 1 [qC] 10 [yn 400,xe 1 400,xe 2 1000,xe 3 20,xe 4 5,xe 5 1,xe 6 0,xe 7 4000,xe 8 (-1),xe 9 4001],qH 16 1 6,qH 18 1 6,wI 19 og 17 18,yl 1 6 16,wW 22 20 21,yl 1 6 16,xw 2 16,qg 3 19,qg 4 22])⟩
theorem nO:ag Tryz.prog ec=some iA:=by kernel_rfl
def lD:FK:=⟨15,[xS 2 1,.t 3],qe [qY 2 yi,xB 3 .nils] (xc [qZ 8,xt 9 ec 8,qg 7 9,wN 10 0 7,wN 11 1 7,wN 12 2 7,qY 4 yi,xw 4 10,qg 5 11,xX 12] [qH 13 1 4,xq 14,xw 2 13,qg 3 14])⟩
theorem tJ:ag Tryz.prog gH=some lD:=by kernel_rfl
def ro:FK:=⟨29,[xu],wY [xk] (wR [qZ 6,wn 7 6,xf 8,wn 9 8,qb 10 (.mn (.t 7) (.t 9)),wS 11] 0 (qK [xb 12 11 10] (xK 12 wA) (wy 1 (qe (wT (qg 13 11) 5 13) (wg [qZ 14,xq 15,wB 16 1 14 15,xf 18,xq 19,wB 20 1 18 19,qu 17 16,qu 21 20,wl 22 .neq 17 21] 22 [xk])) (wT (x9 23 11) 11 23)))) [qZ 24,wn 25 24,xf 26,wn 27 26,wl 28 .eql 25 27,qg 4 28]⟩
theorem AM:ag Tryz.prog mj=some ro:=by kernel_rfl
def nG:FK:=⟨18,[xu],xc [xk] [xf 5,wn 6 5,qZ 7,wn 8 7,wl 9 .leq 6 8,qg 10 9,xz 11 10 0,xz 12 10 1,qN 13 10 (wc 12),qN 14 10 (.slS 1 (.t 11) none (some (.t 13))),xz 15 10 1,qN 16 10 (x7 mj 14 (.t 15)),xT 17 10 16,qg 4 17]⟩
theorem vZ:ag Tryz.prog jE=some nG:=by kernel_rfl
def rh:FK:=⟨84,[xJ],yf [yp] [qZ 10,wn 11 10,qx 12 .gtr 11 1048576] 12 [qd 2 wz] (qe [qZ 14,xt 15 gH 14,qg 13 15,wN 16 0 13,wN 17 1 13,qY 3 yi,xw 3 16,qg 4 17] (yf [qH 18 1 3,qg 19 4,wI 20 fG 18 19,qg 5 20] [xq 21,qH 22 1 3,qg 23 4,wI 24 dU 22 23,wl 25 .neq 21 24,qg 26 25,xy 27 26 5,qO 28 26 (wP .lss 27 0),xY 29 26 28] 29 [xq 30,qH 31 1 3,qg 32 4,wI 33 dU 31 32,wl 34 .eql 30 33,qg 35 34,xz 36 35 5,xE 37 35 .eql 36 (-1),xT 38 35 37,qg 2 38] (yf [qH 40 1 3,qg 41 4,xq 42,xP 43 cW 40 41 42,qg 39 43,wN 44 0 39,wN 45 1 39,qY 6 [.nils,qC,qC,.nils],qU 4 6 44,qg 7 45] [yg 46,xn 47 46,qg 48 47,xD 49 48 1 6,xA 50 48 49,qO 51 48 (wP .eql 50 3),xY 52 48 51,qg 53 52,xy 54 53 5,qO 55 53 (wP .eql 54 0),xY 56 53 55] 56 [yg 57,qg 58 57,xa 59 58 1 6,wZ 60 58 59,xE 61 58 .neq 60 3,xT 62 58 61,qg 2 62] (xc [qH 64 1 3,qg 65 4,xq 66,xG 67 66 1,xP 68 cW 64 65 67,qg 63 68,wN 69 0 63,wN 70 1 63,qY 8 [.nils,qC,qC,.nils],qU 4 8 69,qg 9 70] [qg 71 9,qg 72 71,xa 73 72 1 8,wZ 74 72 73,xE 75 72 .eql 74 3,xT 76 72 75,qg 77 76,xa 78 77 0 6,wZ 79 77 78,xa 80 77 0 8,wZ 81 77 80,qN 82 77 (x7 jE 79 (.t 81)),xT 83 77 82,qg 2 83]))))⟩
theorem AF:ag Tryz.prog ry=some rh:=by kernel_rfl
def kO:FK:=⟨26,[xu],yf [xk] [qZ 6,wn 7 6,xf 8,wn 9 8,wl 10 .neq 7 9] 10 [xk] (xW (wR [qZ 11,wn 12 11,wS 13] 0 (qK [xb 14 13 12] (xK 14 wA) (wy 1 (qe (wT (qg 15 13) 5 15) (wg [qZ 16,xq 17,wB 18 1 16 17,xf 20,xq 21,wB 22 1 20 21,qu 19 18,qu 23 22,wl 24 .neq 19 23] 24 [xk])) (wT (x9 25 13) 13 25)))) [qd 4 wz])⟩
theorem si:ag Tryz.prog ku=some kO:=by kernel_rfl
end Go.Proofs.YtokiapglmedipaaGreatDoor
