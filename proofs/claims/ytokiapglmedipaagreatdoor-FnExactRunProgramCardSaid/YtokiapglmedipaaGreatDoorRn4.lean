/-
  Contracts and lemmas that the card needs, part 4.
-/
import Derived.Test.YtokiapglmedipaaGreatDoorRn3
import Derived.Test.YtokiapglmedipaaGreatDoorRows
namespace Go.Proofs.YtokiapglmedipaaGreatDoor
open Go Go.Aw
set_option maxRecDepth 100000
abbrev ib:FuncId:=148
abbrev iK:FuncId:=231
abbrev ee:FuncId:=207
abbrev iB:FuncId:=183
abbrev cu:FuncId:=149
abbrev lg:FuncId:=100
abbrev nr:FuncId:=49
abbrev dk:FuncId:=13
abbrev dp:FuncId:=152
abbrev dQ:FuncId:=232
abbrev bP:FuncId:=211
abbrev dS:FuncId:=188
abbrev bw:FuncId:=153
abbrev gd:FuncId:=103
abbrev gC:FuncId:=52
abbrev bK:FuncId:=15
abbrev cf:FuncId:=16
abbrev iX:FuncId:=56
abbrev kf:FuncId:=239
abbrev jU:FuncId:=235
abbrev nh:FuncId:=221
abbrev fO:FuncId:=236
abbrev mQ:FuncId:=222
abbrev ck:FuncId:=195
abbrev iM:FuncId:=237
abbrev iJ:FuncId:=242
abbrev fF:FuncId:=240
abbrev gl:FuncId:=241
abbrev eO:FuncId:=238
abbrev iF:FuncId:=223
abbrev bQ:FuncId:=196
abbrev nV:FuncId:=164
abbrev eE:FuncId:=197
abbrev na:FuncId:=165
abbrev eY:FuncId:=114
abbrev iQ:FuncId:=199
abbrev bm:FuncId:=200
abbrev dI:FuncId:=224
abbrev iD:FuncId:=225
abbrev dY:FuncId:=201
abbrev dZ:FuncId:=227
abbrev cr:FuncId:=226
abbrev bZ:FuncId:=202
abbrev lm:FuncId:=169
abbrev fc:FuncId:=119
abbrev lW:FuncId:=70
abbrev jg:FuncId:=101
abbrev lP:FuncId:=50
abbrev bU:FuncId:=184
abbrev dX:FuncId:=150
abbrev jA:FuncId:=186
abbrev dW:FuncId:=208
abbrev dq:FuncId:=209
abbrev nq:FuncId:=210
abbrev aU:FuncId:=185
abbrev gJ:FuncId:=187
abbrev gH:FuncId:=151
abbrev aI:FuncId:=102
abbrev lJ:FuncId:=51
abbrev cS:FuncId:=57
abbrev fw:FuncId:=172
abbrev fd:FuncId:=122
abbrev dV:FuncId:=173
abbrev cQ:FuncId:=124
abbrev cH:FuncId:=123
abbrev cg:FuncId:=75
abbrev cF:FuncId:=125
abbrev bW:FuncId:=76
abbrev bX:FuncId:=174
abbrev bE:FuncId:=126
abbrev fM:FuncId:=175
abbrev iE:FuncId:=156
abbrev ki:FuncId:=228
abbrev fL:FuncId:=203
abbrev eK:FuncId:=176
abbrev iN:FuncId:=128
abbrev cn:FuncId:=127
abbrev cz:FuncId:=78
abbrev gr:FuncId:=129
abbrev eL:FuncId:=130
abbrev kX:FuncId:=79
abbrev bi:FuncId:=77
abbrev fy:FuncId:=37
abbrev cx:FuncId:=80
abbrev fE:FuncId:=81
abbrev iR:FuncId:=39
abbrev cd:FuncId:=72
abbrev cL:FuncId:=73
abbrev jE:FuncId:=170
abbrev bS:FuncId:=121
abbrev bI:FuncId:=171
abbrev di:FuncId:=120
abbrev br:FuncId:=74
abbrev fq:FuncId:=36
abbrev ow:FuncId:=68
abbrev dH:FuncId:=189
abbrev cD:FuncId:=154
abbrev cm:FuncId:=155
abbrev kx:FuncId:=104
abbrev md:FuncId:=53
abbrev aZ:FuncId:=157
abbrev re:FuncId:=105
abbrev dG:FuncId:=108
abbrev lz:FuncId:=212
abbrev dg:FuncId:=190
abbrev eM:FuncId:=215
abbrev jT:FuncId:=205
abbrev gx:FuncId:=180
abbrev dh:FuncId:=216
abbrev bB:FuncId:=213
abbrev gM:FuncId:=214
abbrev fj:FuncId:=191
abbrev aW:FuncId:=158
abbrev dj:FuncId:=107
abbrev dd:FuncId:=106
abbrev gA:FuncId:=54
abbrev ik:FuncId:=159
abbrev iL:FuncId:=233
abbrev ey:FuncId:=217
abbrev iG:FuncId:=192
abbrev dv:FuncId:=160
abbrev lr:FuncId:=109
abbrev mP:FuncId:=55
abbrev iv:FuncId:=18
abbrev fC:FuncId:=19
abbrev bT:FuncId:=20
abbrev bh:FuncId:=21
abbrev du:FuncId:=22
abbrev bl:FuncId:=110
abbrev dD:FuncId:=111
abbrev eJ:FuncId:=161
abbrev dr:FuncId:=112
abbrev kj:FuncId:=58
abbrev fT:FuncId:=23
abbrev cJ:FuncId:=24
abbrev fW:FuncId:=25
abbrev fN:FuncId:=59
abbrev dF:FuncId:=26
abbrev cZ:FuncId:=4
@[reducible] def qa(a:Nat)(b:Option (Nat × Bool))(c:AI):CO:=⟨some a,b,c⟩
@[reducible] def qb(a:Nat)(b:AI):CO:=qa a none b
@[reducible] def qd(a:Nat)(b:AOp):CO:=qb a (.mov b)
@[reducible] def qe(a:List CO)(b:AK):AK:= .seq (.reg a) b
@[reducible] def qf(a b:Nat):CO:=qd a (.t b)
@[reducible] def qg(a:IntKind)(b:Int):AV:= .p (.int a b)
@[reducible] def qh(a:Int):AV:=qg .i64 a
@[reducible] def qi(a b:Nat):AI:= .fldA a (.t b)
@[reducible] def qj(a:Option Nat)(b:Nat):AI:= .ld a (.t b)
@[reducible] def qk(a:Int):AOp:= .c (qh a)
@[reducible] def ql(a:BinOp)(b:Nat)(c:AOp):AI:= .bin a (.t b) c
@[reducible] def qm(a:Nat)(b:Nat × Bool)(c:AI):CO:=qa a (some b) c
@[reducible] def qn(a:Nat)(b c:AK):AK:= .cond (.t a) b c
@[reducible] def qo(a:Nat)(b:Option Nat)(c:Nat):CO:=qb a (qj b c)
@[reducible] def qp(a:Bool):AV:= .p (.bool a)
@[reducible] def qq(a:Nat)(b:FuncId)(c:List AOp):CO:=qb a (.call b c)
@[reducible] def qr(a:Nat)(b:BinOp)(c:Nat)(d:AOp):CO:=qb a (ql b c d)
@[reducible] def qt(a b c:Nat):CO:=qb a (qi b c)
@[reducible] def qu(a b:Nat):CO:=qo a none b
@[reducible] def qv:AV:=qp false
@[reducible] def qw(a:List CO)(b c:AK):AK:= .seq (qe a b) c
@[reducible] def qx(a:List CO):AK:=qe a .ret
@[reducible] def qy(a:Nat)(b:BinOp)(c:Nat)(d:Int):CO:=qr a b c (qk d)
@[reducible] def qz(a:Nat)(b:Int):CO:=qd a (qk b)
@[reducible] def qC(a:Nat)(b:AK):AK:=qn a b .skip
@[reducible] def qD(a:Nat)(b:AV):CO:=qd a (.c b)
@[reducible] def qF(a:AOp):AI:= .len false a
@[reducible] def qG(a:Nat):AI:= .nilck (.t a)
@[reducible] def qH(a b:Nat)(c:AOp):AI:= .idxS a (.t b) c
@[reducible] def qI(a b c:Nat):CO:=qo a (some b) c
@[reducible] def qJ(a:Option (Nat × Bool))(b:AI):CO:=⟨none,a,b⟩
@[reducible] def qK(a b:Nat)(c:Bool)(d:AI):CO:=qm a (b,c) d
@[reducible] def qL(a b:Nat)(c:AI):CO:=qK a b false c
@[reducible] def qM(a b:Nat)(c:AI):CO:=qK a b true c
@[reducible] def qN(a:Nat)(b c:AOp):AI:= .pick (.t a) b c
@[reducible] def qO(a:Nat)(b:List CO):AK:=qC a (qx b)
@[reducible] def qQ(a:Nat)(b:AK):AK:= .blk a (.loop b)
@[reducible] def qS(a:AI):CO:=qJ none a
@[reducible] def qT(a:Nat)(b c:AOp):CO:=qS (.st a b c)
@[reducible] def qU(a:Nat)(b c:AK):AK:= .seq (.blk a b) c
@[reducible] def qV(a b:List CO)(c:AK):AK:=qe a (qe b c)
@[reducible] def qW(a:Nat):AI:=qF (.t a)
@[reducible] def qX:AV:=qp true
@[reducible] def qY(a:Nat)(b:BinOp)(c d:Nat):CO:=qr a b c (.t d)
@[reducible] def qZ(a b:Nat):AI:= .box a (.t b)
@[reducible] def wa(a:Nat):AI:= .not (.t a)
@[reducible] def wb(a:Nat)(b:AK)(c:Nat):AK:=qn a b (.exit c)
@[reducible] def wc(a b c:Nat)(d:AOp):CO:=qb a (qH b c d)
@[reducible] def wd(a:List UInt8):AV:= .p (.str a)
@[reducible] def we:AV:=qh 0
@[reducible] def wg(a b:Nat)(c:AOp):CO:=qT a (.t b) c
@[reducible] def wh(a b c:Nat):CO:=wg a b (.t c)
@[reducible] def wj(a:Nat):CO:=qf a 0
@[reducible] def wl(a b:Nat):CO:=qb a (qW b)
@[reducible] def wm(a b:Nat):CO:=qb a (qG b)
@[reducible] def wn(a b c d:Nat):CO:=wc a b c (.t d)
@[reducible] def wo(a:Nat)(b:AK)(c:List CO):AK:=qU a b (.reg c)
@[reducible] def wq(a:Nat):CO:=qD a qv
@[reducible] def wt(a b:Nat)(c:Int):CO:=qy a .eql b c
@[reducible] def wu(a:Nat):AI:= .mov (.t a)
@[reducible] def ww(a b:Nat):AK:=wb a .skip b
@[reducible] def wx(a b:Nat)(c:Int):CO:=qy a .add b c
@[reducible] def wy(a b:List CO)(c d:AK):AK:=qe a (qw b c d)
@[reducible] def wz(a b:Nat)(c d:AOp):CO:=qb a (qN b c d)
@[reducible] def wA(a:Nat):AI:=qj none a
@[reducible] def wB(a b c:Nat):CO:=qb a (qZ b c)
@[reducible] def wD(a b:Nat):AI:= .ext a (.t b)
@[reducible] def wE(a:Nat):CO:=qf a 1
@[reducible] def wF(a:Nat)(b:List AV):CO:=qb a (.alloc b)
@[reducible] def wG:CO:=wq 4
@[reducible] def wH(a:Nat):CO:=qz a 0
@[reducible] def wI(a b c:Nat):CO:=qY a .lss b c
@[reducible] def wJ:AV:=wd []
@[reducible] def wK(a b:Nat):CO:=qb a (wa b)
@[reducible] def wL(a b c:Nat):CO:=qb a (wD b c)
@[reducible] def wM:AOp:= .c qv
@[reducible] def wN(a:CO)(b c:Nat):List CO:=[a,qf b c]
@[reducible] def wP(a b:Nat)(c:Int)(d e:Nat):List CO:=wN (wt a b c) d e
@[reducible] def wQ:AOp:= .c qX
@[reducible] def wR:RV:= .t 4
@[reducible] def wS(a b:Nat):CO:=qt a 0 b
@[reducible] def wT(a:Nat)(b:AK)(c:List CO)(d:AK):AK:=qn a b (qe c d)
@[reducible] def wU(a:Nat)(b:AOp):List AOp:=[.t a,b]
@[reducible] def wV(a:Nat)(b:FuncId)(c:Nat)(d:AOp):CO:=qq a b (wU c d)
@[reducible] def wW(a:Nat)(b:FuncId)(c d:Nat):CO:=wV a b c (.t d)
@[reducible] def wX(a:Nat)(b:List CO)(c d:AK):AK:=qQ a (qw b c d)
@[reducible] def wY(a:Nat):CO:=qf a 5
@[reducible] def wZ(a:Nat)(b:List CO)(c d:Nat)(e:AK):AK:=wX a b (ww c d) e
@[reducible] def w6(a b c:Nat):CO:=qM a b (wA c)
@[reducible] def w7(a b c d:Nat):CO:=qM a b (qi c d)
@[reducible] def w8(a:BinOp)(b:Nat)(c:Int):AI:=ql a b (qk c)
@[reducible] def w9(a:List CO)(b:Nat)(c:List CO)(d:AK):AK:=qw a (qO b c) d
@[reducible] def xa(a b:Nat)(c:AOp)(d:Nat):CO:=wz a b c (.t d)
@[reducible] def xb(a:Nat)(b:List CO)(c d e:Nat)(f:AK)(g:List CO):AK:=wZ a b c d (wo e f g)
@[reducible] def xc:CO:=wH 4
@[reducible] def xd(a b:List CO)(c:AK)(d:List CO):AK:=wy a b c (qx d)
@[reducible] def xe(a:Nat):List AOp:=[.t a]
@[reducible] def xf(a:Nat)(b:FuncId)(c:Nat):CO:=qq a b (xe c)
@[reducible] def xg(a b:List CO):AK:=qe a (qx b)
@[reducible] def xh(a b c:Nat)(d:AOp):CO:=wz a b (.t c) d
@[reducible] def xi(a:Nat):CO:=qf a 2
@[reducible] def xj(a b c:Nat):CO:=qL a b (wu c)
@[reducible] def xk(a:Option Nat)(b c:Nat):CO:=qS (.chk a b c)
@[reducible] def xm(a b:Nat):CO:=wx a b 1
@[reducible] def xn(a:Nat)(b:List AOp):CO:=qq a bB b
@[reducible] def xo:RV:= .t 2
@[reducible] def xp(a:List CO)(b c:AK):AK:=qe a (.seq b c)
@[reducible] def xq(a b:Nat):CO:=qt a 2 b
@[reducible] def xr(a:Nat)(b:List CO):AK:=qC a (.reg b)
@[reducible] def xt(a b:Nat)(c:Int):CO:=qy a .lss b c
@[reducible] def xu(a b c:Nat):CO:=qL a b (wA c)
@[reducible] def xv(a b c d:Nat):CO:=qL a b (qi c d)
@[reducible] def xw(a b:Nat):CO:=qt a 1 b
@[reducible] def xx(a:BinOp)(b:Nat)(c:AOp):AI:= .bins a (.t b) c
@[reducible] def xy(a b:Nat):CO:=qt a 3 b
@[reducible] def xz(a:List CO)(b:Nat)(c:List CO):AK:=qe a (qO b c)
@[reducible] def xA:List CO:=[wG]
@[reducible] def xB(a:Nat)(b:AK)(c d:Nat)(e:Int)(f g:Nat)(h:AK):AK:=wT a b (wP c d e f g) h
@[reducible] def xC(a:List CO)(b:AK)(c:List CO):AK:=qw a b (qx c)
@[reducible] def xD(a b:Nat):CO:=wh 1 a b
@[reducible] def xE(a:List AOp):AI:= .call iX a
@[reducible] def xF(a b:List CO):AK:=qe a (.reg b)
@[reducible] def xG(a:Nat)(b c:AOp):List AOp:=[.t a,b,c]
@[reducible] def xH(a b:Nat)(c:AOp):List AOp:=xG a (.t b) c
@[reducible] def xI(a b c:Nat):List AOp:=xH a b (.t c)
@[reducible] def xJ(a:Nat)(b:FuncId)(c d e:Nat):CO:=qq a b (xI c d e)
@[reducible] def xK:List RV:=[wR]
@[reducible] def xL(a b c:Nat):CO:=xa a b wQ c
@[reducible] def xM(a b c:Nat):CO:=qM a b (wu c)
@[reducible] def xN:CO:=wH 5
@[reducible] def xO(a b:Nat)(c:BinOp)(d:Nat)(e:Int):CO:=qM a b (w8 c d e)
@[reducible] def xP(a:Nat):CO:=qf a 8
@[reducible] def xQ(a b:Nat)(c:List AV)(d:Nat)(e:List (Nat × Nat × AOp)):CO:=qb a (.bsl b c d e)
@[reducible] def xR(a b:CO)(c d:Nat):List CO:=[a,b,qf c d]
@[reducible] def xS(a:CO)(b c d e:Nat):List CO:=xR a (xm b c) d e
@[reducible] def xT(a:Nat)(b:List CO)(c d e:Nat)(f:AK)(g:CO)(h i j k:Nat):AK:=xb a b c d e f (xS g h i j k)
@[reducible] def xU:CO:=wj 12
@[reducible] def xV(a b:Nat)(c:AOp):CO:=wV a cd b c
@[reducible] def xW(a b:List CO)(c:Nat)(d:List CO)(e:AK):AK:=wy a b (qO c d) e
@[reducible] def xX(a b:Nat):CO:=qI a 4 b
@[reducible] def xY(a b c:Nat):CO:=xh a b c wM
@[reducible] def xZ(a:Nat)(b:List AV)(c:List (Nat × Nat × AOp)):CO:=qb a (.bld b c)
@[reducible] def x4(a:Nat):CO:=qD a qX
@[reducible] def x5(a b:Nat):CO:=wB a b 0
@[reducible] def x6(a:Nat):CO:=qf 6 a
@[reducible] def x7(a:Nat):CO:=qz a (-1)
@[reducible] def x8:CO:=x7 4
@[reducible] def x9:CO:=wq 2
@[reducible] def ya:AOp:=qk 0
@[reducible] def yb(a b c d:Nat):CO:=xJ a aU b c d
def im:FK:=⟨28,xK,qV [xc] [wE 6,wj 7,wl 8 7,qY 9 .sub 6 8,qf 1 9] (w9 [wE 10,xt 11 10 0] 11 [x8] (xC [xN] (xT 0 [wY 12,wj 13,wl 14 13,wI 15 12 14] 15 0 1 (qV [wE 18,wj 19,wY 20,wn 21 1 19 20,qu 22 21,qb 23 (.len true (.t 22)),qY 24 .sub 18 23,qf 1 24] [wE 25,xt 26 25 0] (qO 26 [x8])) (wY 16) 17 16 5 17) (wN (wE 27) 4 27)))⟩
theorem ux:ae Tryz.prog ib=some im:=by kernel_rfl
def lX:FK:=⟨19,xK,qV [x5 2 4,xc] [wE 5,xq 6 2,qu 7 6,qb 8 (.len true (.t 7)),qY 9 .sub 5 8,qf 1 9] (w9 [wE 10,xt 11 10 0] 11 [x8] (xd [xy 12 2,qu 13 12,wE 14,wW 15 ee 13 14,qf 1 15] [wE 16,xt 17 16 0] (qO 17 [x8]) (wN (wE 18) 4 18)))⟩
theorem An:ae Tryz.prog iK=some lX:=by kernel_rfl
def kI:FK:=⟨27,xK,qV [xc] [wE 6,wj 7,wl 8 7,qY 9 .sub 6 8,qf 1 9] (w9 [wE 10,xt 11 10 0] 11 [x8] (xC [xN] (xT 0 [wY 12,wj 13,wl 14 13,wI 15 12 14] 15 0 1 (qV [wj 18,wY 19,wn 20 4 18 19,xX 21 20,wE 22,wW 23 iK 21 22,qf 1 23] [wE 24,xt 25 24 0] (qO 25 [x8])) (wY 16) 17 16 5 17) (wN (wE 26) 4 26)))⟩
theorem zf:ae Tryz.prog ee=some kI:=by kernel_rfl
def ma:FK:=⟨31,xK,qV [x5 2 5,xc] [wE 5,xw 6 2,qu 7 6,qb 8 (.len true (.t 7)),qY 9 .sub 5 8,qf 1 9] (w9 [wE 10,xt 11 10 0] 11 [x8] (xW [xq 12 2,qu 13 12,wE 14,wW 15 ee 13 14,qf 1 15] [wE 16,xt 17 16 0] 17 [x8] (xW [xy 18 2,qu 19 18,wE 20,wW 21 cu 19 20,qf 1 21] [wE 22,xt 23 22 0] 23 [x8] (xd [qt 24 4 2,qu 25 24,wE 26,wW 27 cu 25 26,qf 1 27] [wE 28,xt 29 28 0] (qO 29 [x8]) (wN (wE 30) 4 30)))))⟩
theorem Ao:ae Tryz.prog iB=some ma:=by kernel_rfl
def kG:FK:=⟨27,xK,qV [xc] [wE 6,wj 7,wl 8 7,qY 9 .sub 6 8,qf 1 9] (w9 [wE 10,xt 11 10 0] 11 [x8] (xC [xN] (xT 0 [wY 12,wj 13,wl 14 13,wI 15 12 14] 15 0 1 (qV [wj 18,wY 19,wn 20 5 18 19,qI 21 5 20,wE 22,wW 23 iB 21 22,qf 1 23] [wE 24,xt 25 24 0] (qO 25 [x8])) (wY 16) 17 16 5 17) (wN (wE 26) 4 26)))⟩
theorem yP:ae Tryz.prog cu=some kG:=by kernel_rfl
def oc:FK:=⟨25,xK,qV [x5 2 3,xc] [wE 5,wS 6 2,qu 7 6,qb 8 (.len true (.t 7)),qY 9 .sub 5 8,qf 1 9] (w9 [wE 10,xt 11 10 0] 11 [x8] (xW [xw 12 2,qu 13 12,wE 14,wW 15 ib 13 14,qf 1 15] [wE 16,xt 17 16 0] 17 [x8] (xd [xq 18 2,qu 19 18,wE 20,wW 21 cu 19 20,qf 1 21] [wE 22,xt 23 22 0] (qO 23 [x8]) (wN (wE 24) 4 24))))⟩
theorem DH:ae Tryz.prog lg=some oc:=by kernel_rfl
def mY:FK:=⟨27,xK,qV [xc] [wE 6,wj 7,wl 8 7,qY 9 .sub 6 8,qf 1 9] (w9 [wE 10,xt 11 10 0] 11 [x8] (xC [xN] (xT 0 [wY 12,wj 13,wl 14 13,wI 15 12 14] 15 0 1 (qV [wj 18,wY 19,wn 20 3 18 19,qI 21 3 20,wE 22,wW 23 lg 21 22,qf 1 23] [wE 24,xt 25 24 0] (qO 25 [x8])) (wY 16) 17 16 5 17) (wN (wE 26) 4 26)))⟩
theorem Cq:ae Tryz.prog nr=some mY:=by kernel_rfl
def mo:FK:=⟨12,xK,qV [x5 2 1,xc] [wS 5 2,qu 6 5,wE 7,wW 8 nr 6 7,xP 1] (w9 [wE 9,xt 10 9 0] 10 [x8] (qx (wN (wE 11) 4 11)))⟩
theorem ui:ae Tryz.prog dk=some mo:=by kernel_rfl
def ml:FK:=⟨22,[xo],qV [qD 2 .nils] [wj 5,wl 6 5,qb 7 (.mks 1 16 [wJ] (.t 6) (.t 6)),qf 3 7] (xC [xc] (xT 0 [qf 8 4,wj 9,wl 10 9,wI 11 8 10] 11 0 1 (.reg [qf 14 3,qf 15 4,wj 16,qf 17 4,wn 18 1 16 17,qu 19 18,wn 20 1 14 15,xD 20 19]) (qf 12 4) 13 12 4 13) (wN (qf 21 3) 2 21))⟩
theorem uN:ae Tryz.prog dp=some ml:=by kernel_rfl
def lZ:FK:=⟨18,[.c 2 (some 4)],qV [x5 1 4,wF 2 [we,we,wJ,.nils]] [wF 3 [we,we,wJ,.nils]] (qV [wS 4 1,qu 5 4,wS 6 3,xD 6 5] [xw 7 1,qu 8 7,xw 9 3,xD 9 8] (qV [xq 10 1,qu 11 10,xq 12 3,xD 12 11] [xy 13 1,qu 14 13,xf 15 bP 14,xy 16 3,xD 16 15] (qx [xX 17 3,wh 4 2 17])))⟩
theorem rd:ae Tryz.prog dQ=some lZ:=by kernel_rfl
def jP:FK:=⟨23,[xo],qV [qD 2 .nils] [wj 5,wl 6 5,qb 7 (.mks 4 56 [we,we,wJ,.nils] (.t 6) (.t 6)),qf 3 7] (xC [xc] (xT 0 [qf 8 4,wj 9,wl 10 9,wI 11 8 10] 11 0 1 (.reg [qf 14 3,qf 15 4,wj 16,qf 17 4,wn 18 4 16 17,xX 19 18,xf 20 dQ 19,wn 21 4 14 15,wh 4 21 20]) (qf 12 4) 13 12 4 13) (wN (qf 22 3) 2 22))⟩
theorem ou:ae Tryz.prog bP=some jP:=by kernel_rfl
def lT:FK:=⟨23,[.c 2 (some 5)],qV [x5 1 5,wF 2 [we,wJ,.nils,.nils,.nils]] [wF 3 [we,wJ,.nils,.nils,.nils]] (qV [wS 4 1,qu 5 4,wS 6 3,xD 6 5] [xw 7 1,qu 8 7,xw 9 3,xD 9 8] (qV [xq 10 1,qu 11 10,xf 12 bP 11,xq 13 3,xD 13 12] [xy 14 1,qu 15 14,xf 16 bw 15,xy 17 3,xD 17 16] (xg [qt 18 4 1,qu 19 18,xf 20 bw 19,qt 21 4 3,xD 21 20] [qI 22 5 3,wh 5 2 22])))⟩
theorem rm:ae Tryz.prog dS=some lT:=by kernel_rfl
def kJ:FK:=⟨23,[xo],qV [qD 2 .nils] [wj 5,wl 6 5,qb 7 (.mks 5 96 [we,wJ,.nils,.nils,.nils] (.t 6) (.t 6)),qf 3 7] (xC [xc] (xT 0 [qf 8 4,wj 9,wl 10 9,wI 11 8 10] 11 0 1 (.reg [qf 14 3,qf 15 4,wj 16,qf 17 4,wn 18 5 16 17,qI 19 5 18,xf 20 dS 19,wn 21 5 14 15,wh 5 21 20]) (qf 12 4) 13 12 4 13) (wN (qf 22 3) 2 22))⟩
theorem oS:ae Tryz.prog bw=some kJ:=by kernel_rfl
def oN:FK:=⟨16,[.c 2 (some 3)],qV [x5 1 3,wF 2 [wJ,.nils,.nils]] [wF 3 [wJ,.nils,.nils]] (qV [wS 4 1,qu 5 4,wS 6 3,xD 6 5] [xw 7 1,qu 8 7,xf 9 dp 8,xw 10 3,xD 10 9] (xg [xq 11 1,qu 12 11,xf 13 bw 12,xq 14 3,xD 14 13] [qI 15 3 3,wh 3 2 15]))⟩
theorem vp:ae Tryz.prog gd=some oN:=by kernel_rfl
def mS:FK:=⟨23,[xo],qV [qD 2 .nils] [wj 5,wl 6 5,qb 7 (.mks 3 64 [wJ,.nils,.nils] (.t 6) (.t 6)),qf 3 7] (xC [xc] (xT 0 [qf 8 4,wj 9,wl 10 9,wI 11 8 10] 11 0 1 (.reg [qf 14 3,qf 15 4,wj 16,qf 17 4,wn 18 3 16 17,qI 19 3 18,xf 20 gd 19,wn 21 3 14 15,wh 3 21 20]) (qf 12 4) 13 12 4 13) (wN (qf 22 3) 2 22))⟩
theorem sV:ae Tryz.prog gC=some mS:=by kernel_rfl
def io:FK:=⟨9,[.c 2 (some 1)],qV [x5 1 1,wF 2 [.nils]] [wF 3 [.nils]] (xg [wS 4 1,qu 5 4,xf 6 gC 5,wS 7 3,xD 7 6] [qI 8 1 3,xD 2 8])⟩
theorem mr:ae Tryz.prog bK=some io:=by kernel_rfl
def rc:FK:=⟨22,[xo],qV [qD 2 .nils] [wj 5,wl 6 5,qb 7 (.mks 1 8 [we] (.t 6) (.t 6)),qf 3 7] (xC [xc] (xT 0 [qf 8 4,wj 9,wl 10 9,wI 11 8 10] 11 0 1 (.reg [qf 14 3,qf 15 4,wj 16,qf 17 4,wn 18 1 16 17,qu 19 18,wn 20 1 14 15,xD 20 19]) (qf 12 4) 13 12 4 13) (wN (qf 21 3) 2 21))⟩
theorem Aq:ae Tryz.prog cf=some rc:=by kernel_rfl
def oR:FK:=⟨15,[.t 6],xg [wq 6] [wj 7,wE 8,qY 9 .geq 7 8,qf 10 9,xM 11 10 0,xM 12 10 2,qM 13 10 (ql .leq 11 (.t 12)),xY 14 10 13,x6 14]⟩
theorem DD:ae Tryz.prog iX=some oR:=by kernel_rfl
def nZ:FK:=⟨18,xK,xd [xc] [xN] (xT 0 [wY 6,wj 7,qb 8 (.len true (.t 7)),wI 9 6 8] 9 0 1 (xz [xU,wY 13,qb 14 (.idxStr (.t 12) (.t 13)),wE 15,qY 16 .eql 14 15] 16 (wN (wY 17) 4 17)) (wY 10) 11 10 5 11) [x8]⟩
theorem zz:ae Tryz.prog kf=some nZ:=by kernel_rfl
def oF:FK:=⟨28,[xo],qe [wH 2] (qU 0 (qe [wj 4,qr 5 .geq 4 (.c (qg .u8 97)),wY 6,xM 7 6 0,qM 8 6 (ql .leq 7 (.c (qg .u8 122))),xY 9 6 8,qf 3 9] (wT 3 (qx [qz 2 1]) [wj 11,qr 12 .geq 11 (.c (qg .u8 48)),qf 13 12,xM 14 13 0,qM 15 13 (ql .leq 14 (.c (qg .u8 57))),xY 16 13 15,qf 10 16] (wT 10 (qx [qz 2 2]) [wj 18,qq 19 kf [.c (wd [40,41,123,125,59,44,43,45,42,47,37,60,61,38,33,64]),.t 18],qy 20 .geq 19 0,qf 17 20] (wT 17 (qx [qz 2 3]) [wj 22,qr 23 .eql 22 (.c (qg .u8 32)),qf 24 23,xj 25 24 0,qL 26 24 (ql .eql 25 (.c (qg .u8 10))),xL 27 24 26,qf 21 27] (qO 21 [qz 2 4]))))) (qx [wH 2]))⟩
theorem yw:ae Tryz.prog jU=some oF:=by kernel_rfl
def sS:FK:=⟨21,xK,xd xA [xN] (xT 0 [wY 6,wj 7,qb 8 (.len true (.t 7)),wI 9 6 8] 9 0 1 (xz [xU,wY 13,qb 14 (.idxStr (.t 12) (.t 13)),xf 15 jU 14,wE 16,qY 17 .neq 15 16] 17 xA) (wY 10) 11 10 5 11) [wj 18,qb 19 (.len true (.t 18)),qy 20 .gtr 19 0,qf 4 20]⟩
theorem Co:ae Tryz.prog nh=some sS:=by kernel_rfl
def nB:FK:=⟨2,[.t 0],xg [qD 0 .nils] [xQ 1 1 [wJ] 9 [(0,1,.c (wd [102,110])),(1,1,.c (wd [108,101,116])),(2,1,.c (wd [115,97,121])),(3,1,.c (wd [112,117,116])),(4,1,.c (wd [105,102])),(5,1,.c (wd [101,108,115,101])),(6,1,.c (wd [108,111,111,112])),(7,1,.c (wd [98,97,99,107])),(8,1,.c (wd [100,111]))],wE 0]⟩
theorem vU:ae Tryz.prog fO=some nB:=by kernel_rfl
def tk:FK:=⟨18,[xo],qV [x9] (wN (qq 5 fO []) 3 5) (xC [xc] (xT 0 [x6 4,qf 7 3,wl 8 7,wI 9 6 8] 9 0 1 (xz [qf 12 3,qf 13 4,wn 14 1 12 13,qu 15 14,wj 16,qb 17 (xx .eql 15 (.t 16))] 17 [x4 2]) (qf 10 4) 11 10 4 11) [x9])⟩
theorem CN:ae Tryz.prog mQ=some tk:=by kernel_rfl
def rJ:FK:=⟨15,[xo],xg [x9] [wj 3,wV 4 nh 3 (qk 1),qf 5 4,xM 6 5 0,qM 7 5 (.len true (.t 6)),xO 8 5 .leq 7 4,xY 9 5 8,qf 10 9,xM 11 10 0,qM 12 10 (.call mQ (xe 11)),qM 13 10 (wa 12),xY 14 10 13,qf 2 14]⟩
theorem Ak:ae Tryz.prog ck=some rJ:=by kernel_rfl
def lU:FK:=⟨5,[xo],xd [wH 2] [wj 3,wt 4 3 4] (qO 4 [qz 2 2]) [qz 2 1]⟩
theorem AL:ae Tryz.prog iM=some lU:=by kernel_rfl
def cT:FK:=⟨13,[xo,.t 3],xd [wH 2,wH 3] [wj 4] (.blk 0 (qw (wP 6 4 1 5 6) (qn 5 .skip (.reg (wP 7 4 2 5 7))) (qn 5 (qx [wH 2,wH 3]) (qw (wP 9 4 11 8 9) (qn 8 .skip (.reg (wP 10 4 12 8 10))) (xB 8 (qx [qz 2 1,qz 3 1]) 12 4 13 11 12 (qO 11 [wH 2,qz 3 3])))))) [qz 2 2,qz 3 2]⟩
theorem Bc:ae Tryz.prog iJ=some cT:=by kernel_rfl
def iO:FK:=⟨86,xK,qV [x5 2 4,wG] [wS 10 2,qu 11 10,xf 12 iJ 11,qf 9 12,wL 13 0 9,wL 14 1 9,qf 5 13,x6 14] (w9 [wE 15,xt 16 15 1,qf 17 16,xv 18 17 0 2,xu 19 17 18,qL 20 17 (xE (xG 19 (qk 1) (qk 13))),qL 21 17 (wa 20),xL 22 17 21,qf 23 22,xv 24 23 3 2,xu 25 23 24,qL 26 23 (qW 25),xj 27 23 5,xj 28 23 6,qL 29 23 (xE (xI 26 27 28)),qL 30 23 (wa 29),xL 31 23 30] 31 xA (xW [wS 32 2,qu 33 32,wt 34 33 2,qf 35 34,xv 36 35 0 2,xu 37 35 36,qL 38 35 (w8 .eql 37 13),xL 39 35 38,qf 7 39] [qf 40 7,xq 41 2,qu 42 41,xf 43 ck 42,qb 44 (.beq true (.t 40) (.t 43)),qf 45 44,xj 46 45 7,qL 47 45 (wa 46),xj 48 45 47,w7 49 48 2 2,w6 50 48 49,qM 51 48 (xx .neq 50 (.c wJ)),qL 52 45 (qN 48 (.t 51) wM),xL 53 45 52,qf 54 53,xv 55 54 1 2,xu 56 54 55,qL 57 54 (xE (xG 56 ya (qk 255))),qL 58 54 (wa 57),xL 59 54 58,qf 60 59,xv 61 60 0 2,xu 62 60 61,qL 63 60 (w8 .neq 62 1),xj 64 60 63,w7 65 64 1 2,w6 66 64 65,xO 67 64 .neq 66 0,qL 68 60 (qN 64 (.t 67) wM),xL 69 60 68] 69 xA (xC [wH 8] (xT 0 [xP 70,xy 71 2,qu 72 71,wl 73 72,wI 74 70 73] 74 0 1 (xz [xy 77 2,qu 78 77,xP 79,wn 80 4 78 79,xX 81 80,wE 82,qy 83 .sub 82 1,wW 84 fF 81 83,wK 85 84] 85 xA) (xP 75) 76 75 8 76) [x4 4])))⟩
theorem rG:ae Tryz.prog fF=some iO:=by kernel_rfl
def oY:FK:=⟨21,[xo],qV [x5 1 4,wH 2] [qz 3 1] (xC [xc] (xT 0 [qf 5 4,xy 6 1,qu 7 6,wl 8 7,wI 9 5 8] 9 0 1 (.reg [qf 12 3,xy 13 1,qu 14 13,qf 15 4,wn 16 4 14 15,xX 17 16,xf 18 gl 17,qY 19 .add 12 18,qf 3 19]) (qf 10 4) 11 10 4 11) (wN (qf 20 3) 2 20))⟩
theorem zU:ae Tryz.prog gl=some oY:=by kernel_rfl
def mu:FK:=⟨10,[xo],xg [x5 1 4,x9] [xX 3 1,wV 4 fF 3 (qk 6),qf 5 4,qM 6 5 (qj (some 4) 1),qM 7 5 (.call gl (xe 6)),xO 8 5 .leq 7 30,xY 9 5 8,qf 2 9]⟩
theorem tU:ae Tryz.prog eO=some mu:=by kernel_rfl
def iH:FK:=⟨108,xK,xW [x5 2 5,wG] [wE 7,xt 8 7 1,xP 9,xv 10 9 0 2,xu 11 9 10,qL 12 9 (xE (xG 11 (qk 1) (qk 8))),qL 13 9 (wa 12),xL 14 9 13,qf 15 14,xv 16 15 2 2,xv 19 15 0 2,xu 17 15 16,qL 18 15 (qW 17),xu 20 15 19,qL 21 15 (.qcall iM (xe 20)),qL 22 15 (ql .neq 18 (.t 21)),xL 23 15 22] 23 xA (xW [wS 24 2,qu 25 24,wt 26 25 1,qf 27 26,xv 28 27 0 2,xu 29 27 28,qL 30 27 (w8 .eql 29 2),xL 31 27 30,qf 5 31] [wY 32,xw 33 2,qu 34 33,xf 35 ck 34,qb 36 (.beq true (.t 32) (.t 35)),qf 37 36,xj 38 37 5,qL 39 37 (wa 38),xj 40 37 39,w7 41 40 1 2,w6 42 40 41,qM 43 40 (xx .neq 42 (.c wJ)),qL 44 37 (qN 40 (.t 43) wM),xL 45 37 44] 45 xA (qw [wH 6] (xT 0 [qf 46 6,xq 47 2,qu 48 47,wl 49 48,wI 50 46 49] 50 0 1 (xz [xq 53 2,qu 54 53,qf 55 6,wn 56 4 54 55,xX 57 56,xf 58 eO 57,wK 59 58] 59 xA) (qf 51 6) 52 51 6 52) (w9 [wS 60 2,qu 61 60,wt 62 61 8,qf 63 62,w7 64 63 2 2,w6 65 63 64,qM 66 63 (qH 4 65 ya),w7 67 63 0 66,w6 68 63 67,xO 69 63 .neq 68 13,xY 70 63 69] 70 xA (w9 [qt 71 4 2,qu 72 71,wl 73 72,qy 74 .gtr 73 0,qf 75 74,w7 76 75 0 2,w6 77 75 76,xO 78 75 .neq 77 5,xY 79 75 78,qf 80 79,xv 81 80 3 2,xu 82 80 81,qL 83 80 (qW 82),qL 84 80 (w8 .gtr 83 0),xj 85 80 84,w7 86 85 0 2,w6 87 85 86,xO 88 85 .neq 87 5,qL 89 80 (qN 85 (.t 88) wM),xj 90 80 89,w7 91 90 0 2,w6 92 90 91,xO 93 90 .neq 92 6,qL 94 80 (qN 90 (.t 93) wM),xL 95 80 94] 95 xA (qx [xy 96 2,qu 97 96,wE 98,qy 99 .sub 98 1,wW 100 bQ 97 99,qf 101 100,w7 102 101 4 2,w6 103 101 102,xM 104 101 1,xO 105 101 .sub 104 1,qM 106 101 (.call bQ (wU 103 (.t 105))),xY 107 101 106,qf 4 107])))))⟩
theorem rp:ae Tryz.prog iF=some iH:=by kernel_rfl
def oL:FK:=⟨19,xK,xd xA [xN] (xT 0 [wY 6,wj 7,wl 8 7,wI 9 6 8] 9 0 1 (xz [xU,wY 13,wn 14 5 12 13,qI 15 5 14,wE 16,wW 17 iF 15 16,wK 18 17] 18 xA) (wY 10) 11 10 5 11) [x4 4]⟩
theorem yq:ae Tryz.prog bQ=some oL:=by kernel_rfl
def vo:FK:=⟨32,[xo],xd [x5 1 3,x9] [wH 3] (xT 0 [qf 4 3,xw 5 1,qu 6 5,wl 7 6,wI 8 4 7] 8 0 1 (xz [xw 11 1,qu 12 11,qf 13 3,wn 14 1 12 13,qu 15 14,xf 16 ck 15,wK 17 16] 17 [x9]) (qf 9 3) 10 9 3 10) [wS 18 1,qu 19 18,xf 20 ck 19,qf 21 20,w7 22 21 1 1,w6 23 21 22,qM 24 21 (qW 23),xO 25 21 .leq 24 3,xY 26 21 25,qf 27 26,w7 28 27 2 1,w6 29 27 28,qM 30 27 (.call bQ (wU 29 (qk 4))),xY 31 27 30,qf 2 31]⟩
theorem EG:ae Tryz.prog nV=some vo:=by kernel_rfl
def kV:FK:=⟨29,[xo],qV [wH 2] (xR (wj 5) (wl 6 5) 3 6) (xC [xc] (xT 0 [qf 7 4,wj 8,wl 9 8,wI 10 7 9] 10 0 1 (.reg [qf 13 3,wj 14,qf 15 4,wn 16 5 14 15,xy 17 16,wj 21,qf 22 4,wn 23 5 21 22,qt 24 4 23,qu 18 17,qu 25 24,xf 19 eE 18,xk none 24 25,qY 20 .add 13 19,xf 26 eE 25,qY 27 .add 20 26,qf 3 27]) (qf 11 4) 12 11 4 12) (wN (qf 28 3) 2 28))⟩
theorem ox:ae Tryz.prog eE=some kV:=by kernel_rfl
def tq:FK:=⟨22,[xo],qV [x5 1 1,wH 2] [wH 3] (xC [xc] (xT 0 [qf 5 4,wS 6 1,qu 7 6,wl 8 7,wI 9 5 8] 9 0 1 (.reg [qf 12 3,wS 13 1,qu 14 13,qf 15 4,wn 16 3 14 15,xq 17 16,qu 18 17,xf 19 eE 18,qY 20 .add 12 19,qf 3 20]) (qf 10 4) 11 10 4 11) (wN (qf 21 3) 2 21))⟩
theorem CA:ae Tryz.prog na=some tq:=by kernel_rfl
def jz:FK:=⟨26,[xo],xW [x5 1 1,x9] [wS 4 1,qu 5 4,wl 6 5,qq 7 iX (xG 6 (qk 1) (qk 4)),wK 8 7] 8 [x9] (xC [wH 3] (xT 0 [qf 9 3,wS 10 1,qu 11 10,wl 12 11,wI 13 9 12] 13 0 1 (xz [wS 16 1,qu 17 16,qf 18 3,wn 19 3 17 18,qI 20 3 19,xf 21 nV 20,wK 22 21] 22 [x9]) (qf 14 3) 15 14 3 15) [qI 23 1 1,xf 24 na 23,qy 25 .leq 24 40,qf 2 25])⟩
theorem pP:ae Tryz.prog eY=some jz:=by kernel_rfl
def ve:FK:=⟨22,xK,xd [x5 2 1,xc] [xN] (xT 0 [wY 6,wS 7 2,qu 8 7,wl 9 8,wI 10 6 9] 10 0 1 (xz [wS 13 2,qu 14 13,wY 15,wn 16 3 14 15,wS 17 16,qu 18 17,wE 19,qb 20 (xx .eql 18 (.t 19))] 20 (wN (wY 21) 4 21)) (wY 11) 12 11 5 12) [x8]⟩
theorem Ds:ae Tryz.prog iQ=some ve:=by kernel_rfl
def fV:FK:=⟨13,[],qe [wj 4,wm 5 4,qt 6 4 5,qu 7 6,wt 8 7 0] (xr 8 [wj 9,wE 10,wm 11 9,qt 12 4 11,xD 12 10])⟩
theorem rV:ae Tryz.prog bm=some fV:=by kernel_rfl
def fY:FK:=⟨27,xK,xd [xc] [wj 6,wm 7 6,xq 8 7,qu 9 8,wl 10 9,qy 11 .sub 10 1,qf 5 11] (xb 0 [wY 12,qy 13 .geq 12 0] 13 0 1 (xz [wj 16,wm 17 16,xq 18 17,qu 19 18,wY 20,wn 21 3 19 20,wS 22 21,qu 23 22,wE 24,qb 25 (xx .eql 23 (.t 24))] 25 (wN (wY 26) 4 26)) (xR (wY 14) (qy 15 .sub 14 1) 5 15)) [x8]⟩
theorem sj:ae Tryz.prog dI=some fY:=by kernel_rfl
def rn:FK:=⟨11,[xo],qV [qD 2 wJ] [wj 4,qy 5 .rem 4 26,wY 3] (qx [x6 3,qf 7 3,xm 8 7,qb 9 (.slStr (.c (wd [97,98,99,100,101,102,103,104,105,106,107,108,109,110,111,112,113,114,115,116,117,118,119,120,121,122])) (some (.t 6)) (some (.t 8))),qb 10 (.bins .add (.c (wd [118])) (.t 9)),qf 2 10])⟩
theorem Bb:ae Tryz.prog iD=some rn:=by kernel_rfl
def gO:AK:=qV [qD 6 wJ] [wj 8,wE 9,wW 10 dI 8 9,qf 7 10] (.cut (qe [qf 11 7,qy 12 .geq 11 0,qf 13 12,xM 14 13 0,qM 15 13 (qG 14),w7 16 13 2 15,w6 17 13 16,xM 18 13 7,qM 19 13 (qH 3 17 (.t 18)),w7 20 13 2 19,w6 21 13 20,xM 22 13 2,qM 23 13 (ql .eql 21 (.t 22)),xY 24 13 23] (xr 24 [wj 25,wV 26 bm 25 (qk 2)])) (qV [wj 27,wj 28,wm 29 28,xq 30 29,wE 32,wj 33,wm 34 33,xy 35 34,xi 37,qu 31 30,qu 36 35,xZ 38 [wJ,we,we] [(0,1,.t 32),(1,1,.t 36),(2,1,.t 37)],qb 39 (.bslP 3 [wJ,we,we] 1 [(0,3,.t 38)]),qb 40 (.app 3 32 (.t 31) (.t 39)),wm 41 27,xq 42 41,xD 42 40] [wj 43,wj 44,wm 45 44,xy 46 45,qu 47 46,xm 48 47,wm 49 43,xy 50 49,xD 50 48] (qx [wj 51,wm 52 51,xy 53 52,qu 54 53,qy 55 .sub 54 1,xf 56 iD 55,x6 56])))
def gv:FK:=⟨57,[.t 6],(AK.whole gO)⟩
theorem sL:ae Tryz.prog dY=some gv:=by kernel_rfl
def lN:FK:=⟨23,xK,qV [qD 4 wJ] [wj 6,wE 7,wW 8 dI 6 7,xP 5] (xC [wY 9,xt 10 9 0] (qC 10 (xg [wj 11,wV 12 bm 11 (qk 3)] (wN (wE 13) 4 13))) [wj 14,wm 15 14,xq 16 15,qu 17 16,wY 18,wn 19 3 17 18,xw 20 19,qu 21 20,xf 22 iD 21,qf 4 22])⟩
theorem tx:ae Tryz.prog dZ=some lN:=by kernel_rfl
def fS:AK:=qe [wB 3 4 1,wF 4 [we,we,wJ,.nils]] (.cut (qe [wS 8 3,qu 9 8,wt 10 9 2] (xr 10 [wj 11,xq 12 3,qu 13 12,wW 14 dZ 11 13,xq 15 3,xD 15 14])) (.cut (qe [wS 16 3,qu 17 16,wt 18 17 13] (qC 18 (qV [wj 19,wm 20 19,wS 21 20,xq 23 3,qI 22 1 21,qu 24 23,wW 25 iQ 22 24,qf 5 25] [wY 26,xt 27 26 0,qf 28 27,xj 29 28 5,xj 30 28 0,qL 31 28 (qG 30),xv 32 28 1 31,xu 33 28 32,qL 34 28 (ql .geq 29 (.t 33)),xL 35 28 34] (wT 35 (.reg [wj 36,wV 37 bm 36 (qk 4)]) [wj 38,wm 39 38,wS 40 39,wS 41 40,wY 43,xy 48 3,qu 42 41,wn 44 3 42 43,xw 45 44,qu 46 45,wl 47 46,qu 49 48,wl 50 49,qY 51 .neq 47 50] (xr 51 [wj 52,wV 53 bm 52 (qk 5)]))))) (wy (wN (xQ 54 4 [we,we,wJ,.nils] 0 []) 6 54) [wH 7] (xT 0 [qf 55 7,xy 56 3,qu 57 56,wl 58 57,wI 59 55 58] 59 0 1 (.reg [qf 62 6,wj 63,xy 64 3,qu 65 64,qf 66 7,wn 67 4 65 66,xX 68 67,wW 69 cr 63 68,xQ 70 4 [we,we,wJ,.nils] 1 [(0,4,.t 69)],qb 71 (.app 4 56 (.t 62) (.t 70)),x6 71]) (qf 60 7) 61 60 7 61) (xg [qf 72 6,xy 73 3,xD 73 72] [xX 74 3,wh 4 4 74]))))
def fQ:FK:=⟨75,[.c 4 (some 4)],(AK.whole fS)⟩
theorem sw:ae Tryz.prog cr=some fQ:=by kernel_rfl
def fh:AK:=qV [qD 6 .nils] (wN (xQ 13 5 [we,wJ,.nils,.nils,.nils] 0 []) 7 13) (wy [wj 14,wm 15 14,xq 16 15,qu 17 16,wl 18 17,qf 8 18] [wH 9] (xT 0 [qf 19 9,wE 20,wl 21 20,wI 22 19 21] 22 0 1 (qV [wE 25,qf 26 9,wn 27 5 25 26,qI 28 5 27,wF 10 [we,wJ,.nils,.nils,.nils],wh 5 10 28] (wN (xQ 29 4 [we,we,wJ,.nils] 0 []) 11 29) (qw [wH 12] (xT 2 [qf 30 12,xq 31 10,qu 32 31,wl 33 32,wI 34 30 33] 34 2 3 (.reg [qf 37 11,wj 38,xq 39 10,qu 40 39,qf 41 12,wn 42 4 40 41,xX 43 42,wW 44 cr 38 43,xQ 45 4 [we,we,wJ,.nils] 1 [(0,4,.t 44)],qb 46 (.app 4 56 (.t 37) (.t 45)),qf 11 46]) (qf 35 12) 36 35 12 36) (.cut (.reg [qf 47 11,xq 48 10,xD 48 47]) (.cut (qe [wS 49 10,qu 50 49,wt 51 50 1] (xr 51 [wj 52,xw 53 10,qu 54 53,xi 55,xJ 56 dY 52 54 55,xw 57 10,xD 57 56])) (.cut (qe [wS 58 10,qu 59 58,wt 60 59 2] (xr 60 [wj 61,xw 62 10,qu 63 62,wW 64 dZ 61 63,xw 65 10,xD 65 64])) (qV [wj 66,xy 67 10,qu 68 67,xi 69,xm 70 69,xJ 71 bZ 66 68 70,xy 72 10,xD 72 71] [wj 73,qt 74 4 10,qu 75 74,xi 76,xm 77 76,xJ 78 bZ 73 75 77,qt 79 4 10,xD 79 78] (.reg [qf 80 7,qI 81 5 10,xQ 82 5 [we,wJ,.nils,.nils,.nils] 1 [(0,5,.t 81)],qb 83 (.app 5 96 (.t 80) (.t 82)),qf 7 83]))))))) (qf 23 9) 24 23 9 24) (.cut (qe [xi 84,qy 85 .gtr 84 0] (xr 85 [wj 86,wj 87,wm 88 87,xq 89 88,qu 90 89,xP 91,qb 92 (.slS 3 (.t 90) none (some (.t 91))),wm 93 86,xq 94 93,xD 94 92])) (qx (wN (qf 95 7) 6 95))))
def fe:FK:=⟨96,[.t 6],(AK.whole fh)⟩
theorem pO:ae Tryz.prog bZ=some fe:=by kernel_rfl
def oz:AK:=qV [x5 2 1,wF 4 [wJ,.nils,.nils],xN,wH 6] [qI 11 1 2,wE 12,xZ 13 [.nils,we,.nils,we,we] [(0,1,.t 11),(1,1,.t 12)],wB 14 5 13,qf 7 14] (.cut (.reg [wS 15 2,qu 16 15,wE 17,wn 18 3 16 17,qI 19 3 18,wF 8 [wJ,.nils,.nils],wh 3 8 19]) (.cut (qe [qI 20 1 2,wS 21 8,qu 22 21,wW 23 iQ 20 22,wE 24,qY 25 .neq 23 24] (xr 25 [qf 26 7,wV 27 bm 26 (qk 2)])) (wy (wN (xQ 28 1 [wJ] 0 []) 9 28) [wH 10] (xT 0 [qf 29 10,xw 30 8,qu 31 30,wl 32 31,wI 33 29 32] 33 0 1 (.reg [qf 36 9,qf 37 7,xw 38 8,qu 39 38,qf 40 10,wn 41 1 39 40,qu 42 41,qq 43 dY (xH 37 42 ya),xQ 44 1 [wJ] 1 [(0,1,.t 43)],qb 45 (.app 1 16 (.t 36) (.t 44)),qf 9 45]) (qf 34 10) 35 34 10 35) (qV [qf 46 9,xw 47 8,xD 47 46] [qf 48 7,xq 49 8,qu 50 49,qq 51 bZ (xH 48 50 ya),xq 52 8,xD 52 51] (qx [qf 54 7,wm 55 54,qt 56 4 55,qf 58 7,wm 59 58,xy 60 59,qI 53 3 8,qu 57 56,qu 61 60,wh 3 4 53,xk none 56 57,xk none 60 61,qf 5 57,x6 61])))))
def nY:FK:=⟨62,[.c 4 (some 3),.t 5,.t 6],(AK.whole oz)⟩
theorem ED:ae Tryz.prog lm=some nY:=by kernel_rfl
def jy:FK:=⟨27,[xo],xW [x5 1 1,wH 2] [qI 7 1 1,xf 8 eY 7,wK 9 8] 9 [qz 2 1] (xC [wH 3] (xT 0 [qf 10 3,wS 11 1,qu 12 11,wl 13 12,wI 14 10 13] 14 0 1 (qV [qI 18 1 1,qf 19 3,wW 20 lm 18 19,qf 17 20,wL 21 0 17,wL 22 1 17,wL 23 2 17,wF 4 [wJ,.nils,.nils],wh 3 4 21,qf 5 22,x6 23] [wY 24,qy 25 .neq 24 0] (qO 25 (wN (wY 26) 2 26))) (qf 15 3) 16 15 3 16) [wH 2])⟩
theorem pz:ae Tryz.prog fc=some jy:=by kernel_rfl
def ro:FK:=⟨6,[xo],xg [x5 1 1,x9] [qI 3 1 1,xf 4 fc 3,wt 5 4 0,wY 2]⟩
theorem AZ:ae Tryz.prog lW=some ro:=by kernel_rfl
def nz:FK:=⟨16,[xo],xd [x9] [wH 3] (xT 0 [qf 4 3,wj 5,wl 6 5,wI 7 4 6] 7 0 1 (xz [wj 10,qf 11 3,wn 12 1 10 11,qu 13 12,qq 14 iX (xG 13 ya (qk 255)),wK 15 14] 15 [x9]) (qf 8 3) 9 8 3 9) [x4 2]⟩
theorem vK:ae Tryz.prog jg=some nz:=by kernel_rfl
def rF:FK:=⟨26,xK,xg [x5 2 1,wG] [qI 5 1 2,xf 6 lW 5,qf 7 6,xM 8 7 1,qM 9 7 (.call jg (xe 8)),xY 10 7 9,qf 11 10,xM 12 11 1,qM 13 11 (qW 12),w7 14 11 0 2,w6 15 11 14,w7 16 11 0 2,w6 17 11 16,qM 18 11 (qW 17),xO 19 11 .sub 18 1,qM 20 11 (qH 3 15 (.t 19)),w7 21 11 1 20,w6 22 11 21,qM 23 11 (qW 22),qM 24 11 (ql .eql 13 (.t 23)),xY 25 11 24,qf 4 25]⟩
theorem Au:ae Tryz.prog lP=some rF:=by kernel_rfl
def gI:FK:=⟨17,[],qe [wj 4,wm 5 4,qt 6 6 5,qu 7 6,wK 8 7] (qC 8 (xF [wj 9,wE 10,wm 11 9,xw 12 11,xw 13 12,xD 13 10] [wj 14,wm 15 14,qt 16 6 15,wg 1 16 wQ]))⟩
theorem tL:ae Tryz.prog bU=some gI:=by kernel_rfl
def gG:FK:=⟨17,[],w9 [wj 2,wm 3 2,qt 4 5 3,qu 5 4,wt 6 5 0] 6 [wj 7,wV 8 bU 7 (qk 3)] (.reg [wj 9,wj 10,wm 11 10,qt 12 5 11,qu 13 12,qy 14 .sub 13 1,wm 15 9,qt 16 5 15,xD 16 14])⟩
theorem tm:ae Tryz.prog dX=some gG:=by kernel_rfl
def sD:FK:=⟨20,xK,xd [xc] [wj 6,wl 7 6,qy 8 .sub 7 1,xP 5] (xb 0 [wY 9,qy 10 .geq 9 0] 10 0 1 (xz [wj 13,wY 14,wn 15 1 13 14,qu 16 15,wE 17,qb 18 (xx .eql 16 (.t 17))] 18 (wN (wY 19) 4 19)) (xR (wY 11) (qy 12 .sub 11 1) 5 12)) [x8]⟩
theorem BX:ae Tryz.prog jA=some sD:=by kernel_rfl
def ll:FK:=⟨67,[.t 6],qV [wB 4 4 1,wH 6] [qD 7 .any,wj 10,wm 11 10,wS 12 11,wS 13 12,wj 15,wm 16 15,wS 17 16,xq 19 4,qu 14 13,qI 18 1 17,qu 20 19,wW 21 iQ 18 20,xk none 13 14,wn 22 3 14 21,qI 23 3 22,wF 7 [wJ,.nils,.nils],wh 3 7 23] (wy [xQ 24 1 [wJ] 0 [],xw 25 7,qu 26 25,qb 27 (.app 1 16 (.t 24) (.t 26)),xZ 28 [.nils,.nils,qv,we] [(0,1,.t 27)],wB 29 4 28,qf 8 29] [wH 9] (xT 0 [qf 30 9,xy 31 4,qu 32 31,wl 33 32,wI 34 30 33] 34 0 1 (.reg [xP 37,xP 38,wm 39 38,xw 40 39,wj 42,xy 43 4,qf 45 9,xi 48,qu 41 40,qu 44 43,wn 46 4 44 45,xX 47 46,yb 49 42 47 48,xk none 40 41,qb 50 (.bslP 1 [we] 1 [(0,1,.t 49)]),qb 51 (.app 1 8 (.t 41) (.t 50)),wm 52 37,xw 53 52,xD 53 51]) (qf 35 9) 36 35 9 36) (xd [wj 54,xq 55 7,qu 56 55,xP 57,xJ 58 aI 54 56 57] [wj 59,wm 60 59,qt 61 6 60,qu 62 61] (qO 62 [wH 6]) [xP 63,wm 64 63,xy 65 64,qu 66 65,x6 66]))⟩
theorem tD:ae Tryz.prog dW=some ll:=by kernel_rfl
def oD:FK:=⟨4,[xo],xd [wH 2] [wj 3] (qO 3 [qz 2 1]) [wH 2]⟩
theorem yR:ae Tryz.prog dq=some oD:=by kernel_rfl
def tv:FK:=⟨50,[.t 6,.t 7],wy [wH 6,wH 7] [wj 8] (.blk 0 (qe (wP 10 8 3 9 10) (xB 9 (qx [wE 11,xi 12,qY 13 .add 11 12,qy 14 .rem 13 256,x6 14,wH 7]) 16 8 4 15 16 (xB 15 (qx [wE 17,xi 18,qY 19 .sub 17 18,wx 20 19 256,qy 21 .rem 20 256,x6 21,wH 7]) 23 8 5 22 23 (xB 22 (qx [wE 24,xi 25,qY 26 .mul 24 25,qy 27 .rem 26 256,x6 27,wH 7]) 29 8 8 28 29 (xB 28 (qx [wE 30,xi 31,wI 32 30 31,xf 33 dq 32,x6 33,wH 7]) 35 8 9 34 35 (qO 34 [wE 36,xi 37,qY 38 .eql 36 37,xf 39 dq 38,x6 39,wH 7]))))))) (w9 [xi 40,wt 41 40 0] 41 [wH 6,qz 7 1] (w9 [wj 42,wt 43 42 6] 43 [wE 44,xi 45,qY 46 .quo 44 45,x6 46,wH 7] (qx [wE 47,xi 48,qY 49 .rem 47 48,x6 49,wH 7])))⟩
theorem CJ:ae Tryz.prog nq=some tv:=by kernel_rfl
def aA:FK:=⟨108,[.t 6],xW [wB 4 4 1,wH 6] [wj 11,wm 12 11,qt 13 6 12,qu 14 13] 14 [wH 6] (qw [wS 15 4,qu 16 15] (.blk 0 (qe (wP 18 16 1 17 18) (xB 17 (qx (xR (xw 19 4) (qu 20 19) 6 20)) 22 16 2 21 22 (xB 21 (qx [xi 23,wm 24 23,xw 25 24,xi 27,wm 28 27,wS 29 28,xq 31 4,qu 26 25,qu 30 29,qu 32 31,wW 33 jA 30 32,xk none 25 26,wn 34 1 26 33,qu 35 34,x6 35]) 37 16 13 36 37 (qO 36 [wj 38,xX 39 4,xi 40,xJ 41 dW 38 39 40,x6 41]))))) (wy [wj 42,xy 43 4,qu 44 43,wc 45 4 44 ya,xX 46 45,xi 47,yb 48 42 46 47,qf 7 48] [wS 49 4,qu 50 49] (.blk 1 (qe (wP 52 50 11 51 52) (xB 51 (qx [qf 53 7,wt 54 53 0,xf 55 dq 54,x6 55]) 57 50 12 56 57 (xB 56 (xC [qf 58 7,qy 59 .geq 58 16] (qC 59 (xg [wj 60,wV 61 bU 60 (qk 2)] [wH 6])) [wj 62,wm 63 62,xw 64 63,xy 65 64,qu 66 65,qf 67 7,wn 68 1 66 67,qu 69 68,x6 69]) 71 50 10 70 71 (qC 70 (w9 [qf 72 7,wt 73 72 0] 73 [wH 6] (qx [wj 74,xy 75 4,qu 76 75,wc 77 4 76 (qk 1),xX 78 77,xi 79,yb 80 74 78 79,qy 81 .neq 80 0,xf 82 dq 81,x6 82]))))))) (xW [wj 83,xy 84 4,qu 85 84,wc 86 4 85 (qk 1),xX 87 86,xi 88,yb 89 83 87 88,qf 8 89] [wj 90,wm 91 90,qt 92 6 91,qu 93 92] 93 [wH 6] (xd [wS 95 4,qu 96 95,qf 97 7,xP 98,xJ 99 nq 96 97 98,qf 94 99,wL 100 0 94,wL 101 1 94,qf 9 100,qf 10 101] [qf 102 10,qy 103 .neq 102 0] (xr 103 [wj 104,qf 105 10,wW 106 bU 104 105]) (wN (qf 107 9) 6 107)))))⟩
theorem gL:ae Tryz.prog aU=some aA:=by kernel_rfl
def lf:FK:=⟨41,[],qe [wB 5 5 1] (wZ 0 [xi 8,qy 9 .neq 8 0,qf 10 9,xM 11 10 0,qM 12 10 (qG 11),w7 13 10 6 12,w6 14 10 13,qM 15 10 (wa 14),xY 16 10 15] 16 0 (.blk 1 (wy [wj 17,xy 18 5,qu 19 18,qf 20 3,xJ 21 aI 17 19 20] [wj 22,wm 23 22,qt 24 6 23,qu 25 24,qf 26 25,xj 27 26 3,qL 28 26 (qG 27),xv 29 26 2 28,xu 30 26 29,xL 31 26 30] (qC 31 .ret) (xF [wj 32,xf 33 dX 32] [wj 34,xq 35 5,qu 36 35,wc 37 4 36 ya,xX 38 37,qf 39 3,yb 40 34 38 39,qf 2 40]))))⟩
theorem te:ae Tryz.prog gJ=some lf:=by kernel_rfl
def lK:FK:=⟨127,[],qV [wB 4 5 1] [wj 8,xq 9 4,qu 10 9,wc 11 4 10 ya,xX 12 11,xi 13,yb 14 8 12 13,x6 14] (wy [wH 7] [wS 15 4,qu 16 15,wt 17 16 4] (xr 17 [wj 18,xq 19 4,qu 20 19,wc 21 4 20 (qk 1),xX 22 21,xi 23,yb 24 18 22 23,qf 7 24]) (qw [wj 25,wm 26 25,qt 27 6 26,qu 28 27] (qC 28 .ret) (qe [wS 29 4,qu 30 29] (.blk 0 (qe (wP 32 30 1 31 32) (xB 31 (xF [xi 33,xi 34,wm 35 34,wS 36 35,xw 38 4,qu 37 36,qu 39 38,qb 40 (.bslP 1 [wJ] 1 [(0,1,.t 39)]),qb 41 (.app 1 16 (.t 37) (.t 40)),wm 42 33,wS 43 42,xD 43 41] [xi 44,xi 45,wm 46 45,xw 47 46,qu 48 47,qf 49 6,xQ 50 1 [we] 1 [(0,1,.t 49)],qb 51 (.app 1 8 (.t 48) (.t 50)),wm 52 44,xw 53 52,xD 53 51]) 55 30 2 54 55 (xB 54 (.reg [xi 56,wm 57 56,xw 58 57,xi 60,wm 61 60,wS 62 61,xw 64 4,qf 67 6,qu 59 58,qu 63 62,qu 65 64,wW 66 jA 63 65,xk none 58 59,wn 68 1 59 66,xD 68 67]) 70 30 3 69 70 (xB 69 (.reg [wj 71,wj 72,wm 73 72,xw 74 73,wS 75 74,qu 76 75,qf 77 6,xQ 78 1 [we] 1 [(0,1,.t 77)],qb 79 (.app 1 8 (.t 76) (.t 78)),wm 80 71,xw 81 80,wS 82 81,xD 82 79]) 84 30 4 83 84 (xB 83 (w9 [qf 85 6,qy 86 .geq 85 16] 86 [wj 87,wV 88 bU 87 (qk 2)] (.reg [wj 89,wm 90 89,xw 91 90,xy 92 91,qu 93 92,qf 94 6,qf 95 7,wn 96 1 93 94,xD 96 95])) 98 30 5 97 98 (xB 97 (qe [qf 99 6,qy 100 .neq 99 0] (qn 100 (.reg [wj 101,xy 102 4,qu 103 102,xi 104,xJ 105 aI 101 103 104]) (.reg [wj 106,qt 107 4 4,qu 108 107,xi 109,xJ 110 aI 106 108 109]))) 112 30 6 111 112 (xB 111 (.reg [wj 113,qI 114 5 4,qf 115 6,xi 116,qq 117 gJ [.t 113,.t 114,.t 115,.t 116]]) 119 30 7 118 119 (qC 118 (xF [xi 120,wm 121 120,xq 122 121,wg 1 122 wQ] [xi 123,qf 124 6,wm 125 123,xy 126 125,xD 126 124])))))))))))))⟩
theorem tH:ae Tryz.prog gH=some lK:=by kernel_rfl
def fX:FK:=⟨65,[],wy [xi 8,wm 9 8,wS 10 9,qu 11 10,wl 12 11,x6 12] [wH 7] (xT 0 [qf 13 7,wE 14,wl 15 14,wI 16 13 15,qf 17 16,xM 18 17 0,qM 19 17 (qG 18),w7 20 17 6 19,w6 21 17 20,qM 22 17 (wa 21),xY 23 17 22,qf 24 23,xM 25 24 2,qM 26 24 (qG 25),w7 27 24 2 26,w6 28 24 27,qM 29 24 (wa 28),xY 30 24 29] 30 0 1 (qV [wj 33,xf 34 dX 33] [wj 35,wm 36 35,qt 37 6 36,qu 38 37,wK 39 38] (xr 39 [wj 40,wE 41,qf 42 7,wn 43 5 41 42,qI 44 5 43,xi 45,xJ 46 gH 40 44 45])) (qf 31 7) 32 31 7 32) (xF [xi 47,xi 48,wm 49 48,wS 50 49,qu 51 50,qf 52 6,qb 53 (.slS 1 (.t 51) none (some (.t 52))),wm 54 47,wS 55 54,xD 55 53] [xi 56,xi 57,wm 58 57,xw 59 58,qu 60 59,qf 61 6,qb 62 (.slS 1 (.t 60) none (some (.t 61))),wm 63 56,xw 64 63,xD 64 62])⟩
theorem kR:ae Tryz.prog aI=some fX:=by kernel_rfl
def vw:FK:=⟨61,[.c 6 (some 4),.t 7],xp [x5 3 1,wF 6 [.nils,we,we,.nils],wH 7] (.ot (.one [] (.one [xi 12] (.one [qI 11 1 3] (.alt (.one [xQ 13 1 [we] 0 [],xk (some 1) 3 11] (.alt (.one [qb 14 (.mks 1 8 [we] (qk 16) (qk 16)),xk (some 1) 3 11] (.one [xZ 15 [.nils,we,we,.nils] [(0,1,.t 13),(3,1,.t 14)]] (.one [xZ 16 [.nils,.nils,we,we,.nils,we,qv] [(0,1,.t 11),(5,1,.t 12),(1,4,.t 15)]] (.alt (.one [wB 17 7 16] (.one [qf 8 17] .done)) .tru)))) .tru)) (.alt (.one [qb 14 (.mks 1 8 [we] (qk 16) (qk 16)),xk (some 1) 3 11] (.alt (.one [xQ 13 1 [we] 0 [],xk (some 1) 3 11] (.one [xZ 15 [.nils,we,we,.nils] [(0,1,.t 13),(3,1,.t 14)]] (.one [xZ 16 [.nils,.nils,we,we,.nils,we,qv] [(0,1,.t 11),(5,1,.t 12),(1,4,.t 15)]] (.alt (.one [wB 17 7 16] (.one [qf 8 17] .done)) .tru)))) .tru)) .tru)))))) (qV [wS 18 3,qu 19 18,wS 20 3,qu 21 20,wl 22 21,qy 23 .sub 22 1,wn 24 3 19 23,qI 25 3 24,wF 9 [wJ,.nils,.nils],wh 3 9 25] [xQ 26 1 [wJ] 0 [],xw 27 9,qu 28 27,qb 29 (.app 1 16 (.t 26) (.t 28)),xQ 30 1 [we] 0 [],wE 31,qb 32 (.app 1 8 (.t 30) (.t 31)),xZ 33 [.nils,.nils,qv,we] [(0,1,.t 29),(1,1,.t 32)],wB 34 4 33,qf 10 34] (xd [xP 35,xq 36 9,qu 37 36,qf 38 10,xJ 39 aI 35 37 38] [xP 40,wm 41 40,qt 42 6 41,qu 43 42,wK 44 43] (xr 44 [xP 45,qf 46 10,wm 47 46,xy 48 47,qu 49 48,wm 50 45,xw 51 50,xq 52 51,xD 52 49]) [xP 53,wm 54 53,xw 55 54,xP 57,wm 58 57,qt 59 5 58,xX 56 55,qu 60 59,wh 4 6 56,xk none 59 60,qf 7 60]))⟩
theorem Dp:ae Tryz.prog lJ=some vw:=by kernel_rfl
def mc:FK:=⟨15,[.t 6],xg [wq 6] [wE 7,wj 8,qY 9 .leq 7 8,qf 10 9,xM 11 10 0,xM 12 10 2,qM 13 10 (ql .leq 11 (.t 12)),xY 14 10 13,x6 14]⟩
theorem Ba:ae Tryz.prog cS=some mc:=by kernel_rfl
def jq:FK:=⟨21,[.t 6],xd [wH 6] [wj 9,qb 10 (.rngS (.t 9))] (qQ 0 (xp [qb 11 (.nxtS (.t 10)),wL 12 0 11] (ww 12 0) (.blk 1 (qV [wL 13 1 11,wL 14 2 11,qf 7 13,qf 8 14] [wE 15,xP 16,qb 17 (.callv (.t 15) (xe 16)),xi 18,qb 19 (.beq false (.t 17) (.t 18))] (qO 19 (wN (qf 20 7) 6 20)))))) [x7 6]⟩
theorem pX:ae Tryz.prog fw=some jq:=by kernel_rfl
def jv:FK:=⟨8,xK,xg [xc] [wj 5,wE 6,qq 7 fw (xH 5 6 wQ),qf 4 7]⟩
theorem pL:ae Tryz.prog fd=some jv:=by kernel_rfl
def gY:FK:=⟨19,xK,xd [xc] [wj 6,wl 7 6,wH 8] (qQ 0 (xp [wI 9 8 7] (ww 9 0) (wo 1 (qV (wN (xP 10) 5 10) [wE 11,xU,wY 13,wn 14 1 12 13,qu 15 14,qb 16 (xx .eql 11 (.t 15))] (qO 16 (wN (wY 17) 4 17))) (wN (xm 18 8) 8 18)))) [x8]⟩
theorem nH:ae Tryz.prog dV=some gY:=by kernel_rfl
def fD:FK:=⟨9,xK,xg xA [wj 5,wE 6,wW 7 dV 5 6,qy 8 .geq 7 0,xP 4]⟩
theorem me:ae Tryz.prog cQ=some fD:=by kernel_rfl
def nw:FK:=⟨9,[xo],xg [x9] [wj 3,qr 4 .lss 3 (.c (qg .i32 97)),qf 5 4,xj 6 5 0,qL 7 5 (ql .gtr 6 (.c (qg .i32 122))),xL 8 5 7,xP 2]⟩
theorem vG:ae Tryz.prog cH=some nw:=by kernel_rfl
def rb:FK:=⟨17,[xo],xg [x9] [wj 3,qb 4 (.len true (.t 3)),qq 5 cS (xG 4 (qk 1) (qk 4)),wY 6,xM 7 6 0,qM 8 6 (.call fd (wU 7 (.c (.fn (.func cH) [])))),xO 9 6 .lss 8 0,xY 10 6 9,qf 11 10,qM 12 11 (.slA 9 1 (.c (.gp 1 0)) none none),xM 13 11 0,qM 14 11 (.call cQ (wU 12 (.t 13))),qM 15 11 (wa 14),xY 16 11 15,qf 2 16]⟩
theorem AE:ae Tryz.prog cg=some rb:=by kernel_rfl
def eV:FK:=⟨19,xK,xd [xc] [wj 6,wl 7 6,wH 8] (qQ 0 (xp [wI 9 8 7] (ww 9 0) (wo 1 (qV (wN (xP 10) 5 10) [wE 11,xU,wY 13,wn 14 1 12 13,qu 15 14,qb 16 (.callv (.t 11) (xe 15))] (qO 16 (wN (wY 17) 4 17))) (wN (xm 18 8) 8 18)))) [x8]⟩
theorem kZ:ae Tryz.prog cF=some eV:=by kernel_rfl
def dN:FK:=⟨9,xK,xg xA [wj 5,wE 6,wW 7 cF 5 6,qy 8 .geq 7 0,xP 4]⟩
theorem jj:ae Tryz.prog bW=some dN:=by kernel_rfl
def dL:FK:=⟨19,xK,xd [xc] [wj 6,wl 7 6,wH 8] (qQ 0 (xp [wI 9 8 7] (ww 9 0) (wo 1 (qV (wN (xP 10) 5 10) [wE 11,xU,wY 13,wn 14 5 12 13,qI 15 5 14,qb 16 (.callv (.t 11) (xe 15))] (qO 16 (wN (wY 17) 4 17))) (wN (xm 18 8) 8 18)))) [x8]⟩
theorem ji:ae Tryz.prog bX=some dL:=by kernel_rfl
def da:FK:=⟨9,xK,xg xA [wj 5,wE 6,wW 7 bX 5 6,qy 8 .geq 7 0,xP 4]⟩
theorem gT:ae Tryz.prog bE=some da:=by kernel_rfl
def aY:FK:=⟨20,[xo,.t 3,wR,.t 5],xd [wH 2,wq 3,wG,wq 5] [wj 6] (.blk 0 (qw (wP 8 6 1 7 8) (qn 7 .skip (.reg (wP 9 6 2 7 9))) (qn 7 (qx [qz 2 1,x4 3,wG,wq 5]) (qw (wP 11 6 3 10 11) (xB 10 .skip 12 6 7 10 12 (qn 10 .skip (.reg (wP 13 6 8 10 13)))) (xB 10 (qx [qz 2 1,wq 3,wG,wq 5]) 15 6 4 14 15 (xB 14 (qx [qz 2 2,wq 3,wG,wq 5]) 17 6 5 16 17 (xB 16 (qx [qz 2 1,wq 3,x4 4,x4 5]) 19 6 6 18 19 (qO 18 [qz 2 1,wq 3,x4 4,wq 5])))))))) [x7 2,wq 3,wG,wq 5]⟩
theorem vO:ae Tryz.prog fM=some aY:=by kernel_rfl
def rH:FK:=⟨5,[xo],xg [x9] (xR (wj 3) (qq 4 cS (xG 3 ya (qk 255))) 2 4)⟩
theorem Av:ae Tryz.prog iE=some rH:=by kernel_rfl
def ef:FK:=⟨20,[xo],qe [wH 2] (qU 0 (qe [qb 4 (.ld none (.c (.gp 2 0))),wj 5,qb 6 (.lk 0 (.agg [wJ,we]) false (.t 4) (.t 5)),qb 7 (.fldv 1 none (.t 6)),qy 8 .gtr 7 0,xP 3] (wT 3 (qx [qb 9 (.ld none (.c (.gp 2 0))),wj 10,qb 11 (.lk 0 (.agg [wJ,we]) false (.t 9) (.t 10)),qb 12 (.fldv 1 none (.t 11)),qf 2 12]) [wj 14,wt 15 14 11,qf 16 15,xj 17 16 0,qL 18 16 (w8 .eql 17 12),xL 19 16 18,qf 13 19] (qO 13 [qz 2 5]))) (qx [qz 2 6]))⟩
theorem zD:ae Tryz.prog ki=some ef:=by kernel_rfl
def ja:AK:=qV [x5 2 4,xc,xN,wq 6] [wH 7,wH 8] (.cut (.blk 0 (qe [wS 17 2,qu 18 17,wt 19 18 1,qf 16 19] (wT 16 (xz [xw 20 2,qu 21 20,xf 22 iE 21,wK 23 22,qf 24 23,xv 25 24 2 2,xu 26 24 25,qL 27 24 (xx .neq 26 (.c wJ)),xL 28 24 27] 28 [xc,xN,wq 6]) [wS 30 2,qu 31 30,wt 32 31 2,qf 29 32] (wT 29 (xz [xq 33 2,qu 34 33,xf 35 cg 34,wK 36 35,qf 37 36,xv 38 37 1 2,xu 39 37 38,qL 40 37 (w8 .neq 39 0),xL 41 37 40] 41 [xc,xN,wq 6]) [wS 43 2,qu 44 43,wt 45 44 13,qf 42 45] (wT 42 (qV [qz 8 3] [xq 46 2,qu 47 46,xf 48 cg 47,wK 49 48,qf 50 49,xv 51 50 1 2,xu 52 50 51,qL 53 50 (w8 .neq 52 0),xL 54 50 53] (qO 54 [xc,xN,wq 6])) [qb 56 (.ld none (.c (.gp 2 0))),wS 57 2,qu 58 57,qb 59 (.lk 0 (.agg [wJ,we]) false (.t 56) (.t 58)),qb 60 (.fldv 1 none (.t 59)),qy 61 .gtr 60 0,qf 55 61] (wT 55 (.reg [qz 7 2,qz 8 2]) [wS 63 2,qu 64 63,wt 65 64 11,qf 66 65,xv 67 66 0 2,xu 68 66 67,qL 69 66 (w8 .eql 68 12),xL 70 66 69,qf 62 70] (qn 62 (.reg [qz 7 1,qz 8 1]) (qx [xc,xN,wq 6])))))))) (.cut (xz [wS 71 2,qu 72 71,xf 73 ki 72,xt 74 73 6,qf 75 74,w7 76 75 1 2,w6 77 75 76,xO 78 75 .neq 77 0,xM 79 75 78,xv 80 79 2 2,xu 81 79 80,qL 82 79 (xx .neq 81 (.c wJ)),qM 83 75 (qN 79 wQ (.t 82)),xY 84 75 83,qf 85 84,xv 86 85 3 2,xu 87 85 86,qL 88 85 (qW 87),xj 89 85 7,xj 90 85 8,qL 91 85 (.call cS (xI 88 89 90)),qL 92 85 (wa 91),xL 93 85 92,qf 94 93,xj 95 94 1,qL 96 94 (w8 .lss 95 1),xL 97 94 96] 97 [xc,xN,wq 6]) (xd [qz 9 1,qz 10 1] [xy 98 2,qu 99 98,wl 100 99,wH 101] (qQ 1 (xp [wI 102 101 100] (ww 102 1) (wo 2 (qV [wn 103 4 99 101,xX 104 103,wF 12 [we,we,wJ,.nils],wh 4 12 104] [xX 106 12,wE 107,qy 108 .sub 107 1,wW 109 fL 106 108,qf 105 109,wL 110 0 105,wL 111 1 105,wL 112 2 105,qf 13 110,qf 14 111,qf 15 112] (w9 [qf 113 15,wK 114 113] 114 [xc,xN,wq 6] (xF [qf 115 9,qf 116 13,qY 117 .add 115 116,qf 9 117] [qf 118 10,qf 119 14,xm 120 119,qb 121 (.mx (.t 118) (.t 120)),qf 10 121]))) (wN (xm 122 101) 101 122)))) [qf 123 9,qf 124 10,qf 125 9,qy 126 .leq 125 30,qf 4 123,qf 5 124,x6 126])))
def jd:FK:=⟨127,[wR,.t 5,.t 6],(AK.whole ja)⟩
theorem vR:ae Tryz.prog fL=some jd:=by kernel_rfl
def mz:FK:=⟨13,[xo],qV [x5 1 4,x9] [xX 7 1,wV 8 fL 7 (qk 6),xP 6,wL 9 0 6,wL 10 1 6,wL 11 2 6,qf 3 9,qf 4 10,qf 5 11] (qx (wN (wY 12) 2 12))⟩
theorem ug:ae Tryz.prog eK=some mz:=by kernel_rfl
def iC:FK:=⟨91,xK,qV [x5 2 5,wG] [wS 12 2,qu 13 12,xf 14 fM 13,qf 11 14,wL 15 0 11,wL 16 1 11,wL 17 2 11,wL 18 3 11,qf 5 15,x6 16,qf 7 17,qf 8 18] (qU 0 (qw (xR (wE 20) (qy 21 .gtr 20 4) 19 21) (wT 19 .skip [xq 22 2,qu 23 22,wl 24 23,wY 25,qY 26 .neq 24 25,qf 19 26] (wT 19 .skip [qf 27 6,qf 28 27,w7 29 28 1 2,w6 30 28 29,qM 31 28 (.call cg (xe 30)),qM 32 28 (wa 31),xY 33 28 32,qf 19 33] (wT 19 .skip [qf 34 6,wK 35 34,qf 36 35,w7 37 36 1 2,w6 38 36 37,qM 39 36 (xx .neq 38 (.c wJ)),xY 40 36 39,qf 19 40] (wT 19 .skip [qf 41 7,wK 42 41,qf 43 42,w7 44 43 3 2,w6 45 43 44,qM 46 43 (qW 45),xO 47 43 .gtr 46 0,xY 48 43 47,qf 19 48] (wT 19 .skip [xP 49,wK 50 49,qf 51 50,w7 52 51 4 2,w6 53 51 52,qM 54 51 (qW 53),xO 55 51 .gtr 54 0,xY 56 51 55,qf 19 56] (qn 19 .skip (.reg [wS 57 2,qu 58 57,wt 59 58 8,qf 60 59,w7 61 60 2 2,w6 62 60 61,qM 63 60 (qH 4 62 ya),w7 64 60 0 63,w6 65 60 64,xO 66 60 .neq 65 13,xY 67 60 66,qf 19 67]))))))) (qO 19 xA)) (xC [xq 68 2,qu 69 68,wl 70 69,wH 71] (qQ 1 (xp [wI 72 71 70] (ww 72 1) (wo 2 (qV [wn 73 4 69 71,xX 74 73,wF 10 [we,we,wJ,.nils],wh 4 10 74] [xX 75 10,xf 76 eK 75,wK 77 76] (qO 77 xA)) (wN (xm 78 71) 71 78)))) [xy 79 2,qu 80 79,wE 81,xm 82 81,wW 83 cz 80 82,qf 84 83,w7 85 84 4 2,w6 86 84 85,xM 87 84 1,xO 88 84 .add 87 1,qM 89 84 (.call cz (wU 86 (.t 88))),xY 90 84 89,qf 4 90]))⟩
theorem rC:ae Tryz.prog iN=some iC:=by kernel_rfl
def mJ:FK:=⟨8,[.t 3],xg [x5 2 5,wq 3] [qI 4 5 2,qu 5 1,wW 6 iN 4 5,wK 7 6,qf 3 7]⟩
theorem uf:ae Tryz.prog cn=some mJ:=by kernel_rfl
def nW:FK:=⟨9,xK,xg [wB 3 1 1,wG] [wj 5,qb 6 (.mkf (.func cn) (xe 3)),wW 7 bE 5 6,wK 8 7,xP 4]⟩
theorem zW:ae Tryz.prog cz=some nW:=by kernel_rfl
def to:FK:=⟨31,[],qe [wj 8,wl 9 8,wH 10] (qQ 0 (xp [wI 11 10 9] (ww 11 0) (wo 1 (qV [wn 12 5 8 10,qI 13 5 12,wF 7 [we,wJ,.nils,.nils,.nils],wh 5 7 13] [xi 14,qI 15 5 7,wE 16,qb 17 (.callv (.t 14) (wU 15 (.t 16)))] (xF [xy 18 7,qu 19 18,wE 20,xm 21 20,xi 22,xJ 23 gr 19 21 22] [qt 24 4 7,qu 25 24,wE 26,xm 27 26,xi 28,xJ 29 gr 25 27 28])) (wN (xm 30 10) 10 30))))⟩
theorem BY:ae Tryz.prog gr=some to:=by kernel_rfl
def mL:FK:=⟨11,[],qV [x5 4 5] [qu 6 2,xm 7 6,xD 2 7] (.reg [qu 8 3,wE 9,qb 10 (.mx (.t 8) (.t 9)),xD 3 10])⟩
theorem uC:ae Tryz.prog eL=some mL:=by kernel_rfl
def nQ:FK:=⟨20,[.c 2 none,.c 3 none],xd [x5 1 1,wF 2 [we],wF 3 [we]] [wS 6 1,qu 7 6,wl 8 7,wH 9] (qQ 0 (xp [wI 10 9 8] (ww 10 0) (wo 1 (xF [wn 11 3 7 9,qI 12 3 11,wF 5 [wJ,.nils,.nils],wh 3 5 12] [xq 13 5,qu 14 13,qb 15 (.mkf (.func eL) (wU 2 (.t 3))),qq 16 gr (xG 14 (qk 1) (.t 15))]) (wN (xm 17 9) 9 17)))) [qu 18 2,qu 19 3,xD 2 18,xk none 3 19,xD 3 19]⟩
theorem zi:ae Tryz.prog kX=some nQ:=by kernel_rfl
def hU:FK:=⟨6,[xo],xg [x9] [wj 3,xf 4 cg 3,wK 5 4,wY 2]⟩
theorem nF:ae Tryz.prog bi=some hU:=by kernel_rfl
def jt:FK:=⟨48,[xo],xW [x5 1 1,x9] [wS 7 1,qu 8 7,wl 9 8,qq 10 cS (xG 9 (qk 1) (qk 4)),wK 11 10] 11 [x9] (qw [wS 12 1,qu 13 12,wl 14 13,wH 15] (qQ 0 (xp [wI 16 15 14] (ww 16 0) (wo 1 (qV [wn 17 3 13 15,qI 18 3 17,wF 4 [wJ,.nils,.nils],wh 3 4 18] [wS 19 4,qu 20 19,xf 21 cg 20,wK 22 21,qf 23 22,xv 24 23 1 4,xu 25 23 24,qL 26 23 (qW 25),qL 27 23 (w8 .gtr 26 3),xL 28 23 27,qf 29 28,xv 30 29 1 4,xu 31 29 30,qL 32 29 (.call bW (wU 31 (.c (.fn (.func bi) [])))),xL 33 29 32,qf 34 33,xv 35 34 2 4,xu 36 34 35,qL 37 34 (.call cz (wU 36 (qk 1))),qL 38 34 (wa 37),xL 39 34 38] (qO 39 [x9])) (wN (xm 40 15) 15 40)))) (xg [qI 42 1 1,xf 43 kX 42,qf 41 43,wL 44 0 41,wL 45 1 41,qf 5 44,x6 45] (xR (wY 46) (qy 47 .leq 46 40) 2 47)))⟩
theorem py:ae Tryz.prog fy=some jt:=by kernel_rfl
def eC:FK:=⟨19,xK,xd [xc] [wj 6,wl 7 6,wH 8] (qQ 0 (xp [wI 9 8 7] (ww 9 0) (wo 1 (qV (wN (xP 10) 5 10) [wE 11,xU,wY 13,wn 14 3 12 13,qI 15 3 14,qb 16 (.callv (.t 11) (xe 15))] (qO 16 (wN (wY 17) 4 17))) (wN (xm 18 8) 8 18)))) [x8]⟩
theorem kb:ae Tryz.prog cx=some eC:=by kernel_rfl
def pZ:FK:=⟨8,[.t 3],xg [x5 2 3,wq 3] [wS 4 2,qu 5 4,qu 6 1,qb 7 (xx .eql 5 (.t 6)),qf 3 7]⟩
theorem AQ:ae Tryz.prog fE=some pZ:=by kernel_rfl
def vA:FK:=⟨9,xK,xg [x5 2 1,wB 3 1 1,xc] [wS 5 2,qu 6 5,qb 7 (.mkf (.func fE) (xe 3)),wW 8 cx 6 7,xP 4]⟩
theorem DO:ae Tryz.prog iR=some vA:=by kernel_rfl
def ft:FK:=⟨13,[],qe [wj 4,wm 5 4,xq 6 5,qu 7 6,wt 8 7 0] (xr 8 [wj 9,wE 10,wm 11 9,xq 12 11,xD 12 10])⟩
theorem pM:ae Tryz.prog cd=some ft:=by kernel_rfl
def gD:FK:=⟨7,[xo],xg [qD 2 .nilp] [qb 3 .mkm,wj 4,xZ 5 [.nilm,.nilp] [(0,1,.t 3),(1,1,.t 4)],wB 6 2 5,qf 2 6]⟩
theorem sZ:ae Tryz.prog cL=some gD:=by kernel_rfl
def tG:FK:=⟨20,[],qV [x5 2 4] [wE 6,xX 7 2,qb 8 (.callv (.t 6) (xe 7))] (qe [xy 9 2,qu 10 9,wl 11 10,wH 12] (qQ 0 (xp [wI 13 12 11] (ww 13 0) (wo 1 (xF [wn 14 4 10 12,xX 15 14,wF 5 [we,we,wJ,.nils],wh 4 5 15] [xX 16 5,wE 17,wW 18 jE 16 17]) (wN (xm 19 12) 12 19)))))⟩
theorem Cv:ae Tryz.prog jE=some tG:=by kernel_rfl
def lw:FK:=⟨25,[wR,.t 5],xp [xc,wq 5] (xb 0 [wj 8,qb 9 (.pnil 0 true (.t 8))] 9 0 1 (qV [wj 15,wm 16 15,wS 17 16,qu 18 17,wE 19,qb 20 (.lk 1 we true (.t 18) (.t 19)),qf 14 20,wL 21 0 14,wL 22 1 14,x6 21,qf 7 22] [qf 23 7] (qO 23 [qf 24 6,qf 4 24,x4 5])) [wj 10,wm 11 10,xw 12 11,qu 13 12,qf 0 13]) (qx [xc,wq 5])⟩
theorem tf:ae Tryz.prog bS=some lw:=by kernel_rfl
def gW:FK:=⟨58,[],qV [x5 3 4] [wS 7 3,qu 8 7] (.blk 0 (qe (wP 10 8 2 9 10) (xB 9 (qV [qu 12 1,xq 13 3,qu 14 13,wW 15 bS 12 14,qf 11 15,wL 16 0 11,wL 17 1 11,qf 4 16,qf 5 17] [wY 18,wK 19 18] (xr 19 [qu 20 2,xV 21 20 (qk 3)])) 23 8 13 22 23 (qC 22 (qV [xq 35 3,qu 24 2,wm 25 24,wS 26 25,wS 27 26,qu 28 27,qu 29 2,wm 30 29,xw 31 30,qu 32 31,qb 33 (.slS 3 (.t 28) none (some (.t 32))),xZ 34 [.nils] [(0,1,.t 33)],qu 36 35,wW 37 iR 34 36,x6 37] [qf 38 6,xt 39 38 0] (wT 39 (.reg [qu 40 2,xV 41 40 (qk 4)]) [qf 47 6,xy 52 3,qu 42 2,wm 43 42,wS 44 43,wS 45 44,qu 46 45,wn 48 3 46 47,xw 49 48,qu 50 49,wl 51 50,qu 53 52,wl 54 53,qY 55 .neq 51 54] (xr 55 [qu 56 2,xV 57 56 (qk 5)])))))))⟩
theorem nC:ae Tryz.prog bI=some gW:=by kernel_rfl
def fb:FK:=⟨9,[],xF [x5 3 1,wB 4 4 1,wB 5 1 2] [xX 6 4,qb 7 (.mkf (.func bI) (wU 5 (.t 3))),wW 8 jE 6 7]⟩
theorem pD:ae Tryz.prog di=some fb:=by kernel_rfl
def ec:AK:=qe [wE 14,wl 15 14,wH 16] (qQ 0 (xp [wI 17 16 15] (ww 17 0) (wo 1 (wy [wn 18 5 14 16,qI 19 5 18,wF 7 [we,wJ,.nils,.nils,.nils],wh 5 7 19] [xq 20 7,qu 21 20,wl 22 21,wH 23] (qQ 2 (xp [wI 24 23 22] (ww 24 2) (wo 3 (xF [wn 25 4 21 23,xX 26 25,wF 9 [we,we,wJ,.nils],wh 4 9 26] [wj 27,xX 28 9,xi 29,xJ 30 di 27 28 29]) (wN (xm 31 23) 23 31)))) (.cut (qe [wS 32 7,qu 33 32] (.blk 4 (qe (wP 35 33 1 34 35) (xB 34 (qw [xi 37,wm 38 37,wS 39 38,xw 41 7,qu 40 39,qu 42 41,qb 43 (.lk 1 we true (.t 40) (.t 42)),qf 36 43,wL 44 0 36,wL 45 1 36,qf 10 44,qf 11 45] (qe [qf 46 11] (xr 46 [wj 47,xV 48 47 (qk 2)])) (.reg [xi 49,wm 50 49,wS 51 50,xw 53 7,qu 52 51,qu 54 53,qS (.mup 1 (.t 52) (.t 54) ya)])) 56 33 2 55 56 (qC 55 (qV [xi 58,xw 59 7,qu 60 59,wW 61 bS 58 60,qf 57 61,wL 62 0 57,wL 63 1 57,qf 12 62,qf 13 63] [qf 64 13,wK 65 64] (xr 65 [wj 66,xV 67 66 (qk 3)]))))))) (qe [wS 68 7,qu 69 68,wt 70 69 5,qf 71 70,xv 72 71 0 7,xu 73 71 72,qL 74 71 (w8 .eql 73 6),xL 75 71 74] (qC 75 (xF [wj 76,xy 77 7,xi 79,qu 78 77,xf 80 cL 79,xk none 77 78,xJ 81 br 76 78 80] [wj 82,qt 83 4 7,xi 85,qu 84 83,xf 86 cL 85,xk none 83 84,xJ 87 br 82 84 86]))))) (wN (xm 88 16) 16 88))))
def eu:FK:=⟨89,[],(AK.whole ec)⟩
theorem oJ:ae Tryz.prog br=some eu:=by kernel_rfl
def eZ:AK:=xW [x5 1 1,wH 2] [qI 11 1 1,xf 12 fy 11,wK 13 12] 13 [qz 2 1] (xd [qI 14 1 1,xZ 15 [.nils,we,we] [(0,1,.t 14)],wB 16 3 15,qf 3 16] [wS 17 1,qu 18 17,wl 19 18,wH 20] (qQ 0 (xp [wI 21 20 19] (ww 21 0) (wo 1 (qV [qf 22 20,wn 23 3 18 20,qI 24 3 23,wF 5 [wJ,.nils,.nils],qf 4 22,wh 3 5 24] [qf 25 3,qf 26 4,wm 27 25,xw 28 27,xD 28 26] (.cut (qe [qI 29 1 1,wS 30 5,qu 31 30,wW 32 iR 29 31,qf 33 4,wI 34 32 33] (xr 34 [qf 35 3,xV 36 35 (qk 2)])) (wy (wN (qq 37 cL [.c .nilp]) 6 37) [xw 38 5,qu 39 38,wl 40 39,wH 41] (qQ 2 (xp [wI 42 41 40] (ww 42 2) (wo 3 (wy (xR (wn 43 1 39 41) (qu 44 43) 8 44) [qf 46 6,wm 47 46,wS 48 47,qu 49 48,xP 50,qb 51 (.lk 1 we true (.t 49) (.t 50)),qf 45 51,wL 52 0 45,wL 53 1 45,qf 9 52,qf 10 53] (qe [qf 54 10] (xr 54 [qf 55 3,xV 56 55 (qk 2)])) (.reg [qf 57 6,wm 58 57,wS 59 58,qu 60 59,xP 61,qS (.mup 1 (.t 60) (.t 61) ya)])) (wN (xm 62 41) 41 62)))) (.reg [qf 63 3,xq 64 5,qu 65 64,qf 66 6,xJ 67 br 63 65 66])))) (wN (xm 68 20) 20 68)))) [qf 69 3,wm 70 69,xq 71 70,qu 72 71,qf 2 72])
def fx:FK:=⟨73,[xo],(AK.whole eZ)⟩
theorem pE:ae Tryz.prog fq=some fx:=by kernel_rfl
def vC:FK:=⟨6,[xo],xg [x5 1 1,x9] [qI 3 1 1,xf 4 fq 3,wt 5 4 0,wY 2]⟩
theorem DU:ae Tryz.prog ow=some vC:=by kernel_rfl
def gh:FK:=⟨19,xK,xd [xc] [wj 6,wl 7 6,wH 8] (qQ 0 (xp [wI 9 8 7] (ww 9 0) (wo 1 (qV (wN (xP 10) 5 10) [wE 11,xU,wY 13,wn 14 1 12 13,qu 15 14,qb 16 (.callv (.t 11) (xe 15))] (qO 16 (wN (wY 17) 4 17))) (wN (xm 18 8) 8 18)))) [x8]⟩
theorem mT:ae Tryz.prog dH=some gh:=by kernel_rfl
def eU:FK:=⟨9,xK,xg xA [wj 5,wE 6,wW 7 dH 5 6,qy 8 .geq 7 0,xP 4]⟩
theorem kY:ae Tryz.prog cD=some eU:=by kernel_rfl
def mf:FK:=⟨6,[xo],xg [x9] [wj 3,xf 4 iE 3,wK 5 4,wY 2]⟩
theorem tZ:ae Tryz.prog cm=some mf:=by kernel_rfl
def ke:FK:=⟨14,xK,xg xA [wj 5,wl 6 5,wE 7,qY 8 .eql 6 7,xP 9,xM 10 9 0,qM 11 9 (.call cD (wU 10 (.c (.fn (.func cm) [])))),qM 12 9 (wa 11),xY 13 9 12,qf 4 13]⟩
theorem zs:ae Tryz.prog kx=some ke:=by kernel_rfl
def rk:FK:=⟨21,xK,xg [x5 2 1,wG] [qI 5 1 2,xf 6 ow 5,qf 7 6,xM 8 7 1,w7 9 7 0 2,w6 10 7 9,w7 11 7 0 2,w6 12 7 11,qM 13 7 (qW 12),xO 14 7 .sub 13 1,qM 15 7 (qH 3 10 (.t 14)),w7 16 7 1 15,w6 17 7 16,qM 18 7 (qW 17),qM 19 7 (.call kx (wU 8 (.t 18))),xY 20 7 19,qf 4 20]⟩
theorem Ay:ae Tryz.prog md=some rk:=by kernel_rfl
def jX:FK:=⟨8,[xo],xd [qD 2 .nils] [wj 3,qb 4 (.snil false (.t 3))] (qO 4 [qD 2 .nils]) [xQ 5 1 [we] 0 [],wj 6,qb 7 (.app 1 8 (.t 5) (.t 6)),qf 2 7]⟩
theorem su:ae Tryz.prog dG=some jX:=by kernel_rfl
def ff:FK:=⟨19,[],qw [wj 2,wm 3 2,xq 4 3,wj 6,wm 7 6,xw 8 7,qu 5 4,qu 9 8,qY 10 .eql 5 9] (xr 10 [qq 11 lz [qk 3]]) (.reg [xU,wm 13 12,xq 14 13,qu 15 14,xm 16 15,wm 17 12,xq 18 17,xD 18 16])⟩
theorem px:ae Tryz.prog dg=some ff:=by kernel_rfl
def mN:FK:=⟨28,xK,xp [qD 4 .nilp] (xb 0 [wj 7,wm 8 7,xw 9 8,qu 10 9,qb 11 (.pnil 0 true (.t 10))] 11 0 1 (qV [wj 17,wm 18 17,wS 19 18,qu 20 19,wE 21,qb 22 (.lk 1 we true (.t 20) (.t 21)),qf 16 22,wL 23 0 16,wL 24 1 16,qf 5 23,x6 24] [qf 25 6] (qO 25 (wN (wj 26) 4 26))) [xU,wm 13 12,xw 14 13,qu 15 14,qf 0 15]) (qx (wN (wj 27) 4 27))⟩
theorem uL:ae Tryz.prog eM=some mN:=by kernel_rfl
def oo:FK:=⟨4,[xo],xd [wH 2] [wj 3] (qO 3 [qz 2 1]) [wH 2]⟩
theorem zB:ae Tryz.prog jT=some oo:=by kernel_rfl
def nk:FK:=⟨70,[.t 6,.t 7],qV [wH 6,wq 7] [qD 8 (.fn (.func jT) [])] (xC [wj 9] (.blk 0 (qe (wP 11 9 3 10 11) (xB 10 (qx [wE 12,xi 13,qY 14 .add 12 13,qy 15 .rem 14 256,x6 15,x4 7]) 17 9 4 16 17 (xB 16 (qx [wE 18,xi 19,qY 20 .sub 18 19,wx 21 20 256,qy 22 .rem 21 256,x6 22,x4 7]) 24 9 5 23 24 (qn 23 (qx [wE 25,xi 26,qY 27 .mul 25 26,qy 28 .rem 27 256,x6 28,x4 7]) (qw (wP 30 9 6 29 30) (qn 29 .skip (.reg (wP 31 9 7 29 31))) (xB 29 (w9 [xi 32,wt 33 32 0] 33 [wH 6,wq 7] (w9 [wj 34,wt 35 34 6] 35 [wE 36,xi 37,qY 38 .quo 36 37,x6 38,x4 7] (qx [wE 39,xi 40,qY 41 .rem 39 40,x6 41,x4 7]))) 43 9 8 42 43 (xB 42 (qx [xP 44,wE 45,xi 46,wI 47 45 46,qb 48 (.callv (.t 44) (xe 47)),x6 48,x4 7]) 50 9 9 49 50 (xB 49 (qx [xP 51,wE 52,xi 53,qY 54 .eql 52 53,qb 55 (.callv (.t 51) (xe 54)),x6 55,x4 7]) 57 9 10 56 57 (qO 56 [xP 58,wE 59,qy 60 .neq 59 0,qf 61 60,xM 62 61 2,xO 63 61 .neq 62 0,xY 64 61 63,qb 65 (.callv (.t 58) (xe 64)),x6 65,x4 7])))))))))) [xP 66,wE 67,wt 68 67 0,qb 69 (.callv (.t 66) (xe 68)),x6 69,x4 7])⟩
theorem tt:ae Tryz.prog gx=some nk:=by kernel_rfl
def fk:FK:=⟨13,xK,xd [qD 4 .nilp] [wE 5,qy 6 .geq 5 16] (xr 6 [qq 7 lz [qk 2]]) [wj 8,wE 9,wm 10 8,qt 11 4 10,qb 12 (.idxA 16 1 (.t 11) (.t 9)),qf 4 12]⟩
theorem pG:ae Tryz.prog dh=some fk:=by kernel_rfl
def am:FK:=⟨126,[.t 6],wy [wB 4 4 1,wH 6] [wS 16 4,qu 17 16] (.blk 0 (qe (wP 19 17 1 18 19) (xB 18 (qx (xR (xw 20 4) (qu 21 20) 6 21)) 23 17 2 22 23 (xB 22 (qx [xi 24,xq 25 4,xq 31 4,qu 26 25,qu 32 31,wW 27 eM 24 26,xk none 31 32,wm 28 27,wS 29 28,qu 30 29,qb 33 (.lk 1 we false (.t 30) (.t 32)),x6 33]) 35 17 10 34 35 (xB 34 (w9 [wj 36,xy 37 4,qu 38 37,wc 39 4 38 ya,xX 40 39,xi 41,xn 42 (xI 36 40 41),wt 43 42 0] 43 [wH 6] (xg [wj 45,xy 46 4,qu 47 46,wc 48 4 47 (qk 1),xX 49 48,xi 50,xn 51 (xI 45 49 50),qq 52 gx [qk 10,qk 1,.t 51],qf 44 52,wL 53 0 44,wL 54 1 44,qf 7 53,qf 8 54] (wN (qf 55 7) 6 55))) 57 17 12 56 57 (xB 56 (qx [wj 58,wj 59,xy 60 4,qu 61 60,wc 62 4 61 ya,xX 63 62,xi 64,xn 65 (xI 59 63 64),wW 66 dh 58 65,wm 67 66,qu 68 67,x6 68]) 70 17 13 69 70 (qC 69 (xd [qD 9 .nils] [xy 71 4,qu 72 71,wl 73 72,wH 74] (qQ 1 (xp [wI 75 74 73] (ww 75 1) (wo 2 (xF [wn 76 4 72 74,xX 77 76,wF 11 [we,we,wJ,.nils],wh 4 11 77] [qf 78 9,wj 79,xX 80 11,xi 81,xn 82 (xI 79 80 81),xQ 83 1 [we] 1 [(0,1,.t 82)],qb 84 (.app 1 8 (.t 78) (.t 83)),qf 9 84]) (wN (xm 85 74) 74 85)))) [wj 86,wj 87,wm 88 87,wS 89 88,xq 91 4,qf 94 9,qI 90 1 89,qu 92 91,wW 93 iR 90 92,xJ 95 dj 86 93 94,x6 95])))))))) (wy [wj 96,xy 97 4,qu 98 97,wc 99 4 98 ya,xX 100 99,xi 101,xn 102 (xI 96 100 101),qf 12 102,wH 13] [xy 103 4,qu 104 103,wl 105 104,qy 106 .gtr 105 1] (xr 106 [wj 107,xy 108 4,qu 109 108,wc 110 4 109 (qk 1),xX 111 110,xi 112,xn 113 (xI 107 111 112),qf 13 113]) (xd [wS 115 4,qu 116 115,qf 117 12,qf 118 13,xJ 119 gx 116 117 118,qf 114 119,wL 120 0 114,wL 121 1 114,qf 14 120,qf 15 121] [qf 122 15,wK 123 122] (xr 123 [qq 124 lz [qk 1]]) (wN (qf 125 14) 6 125)))⟩
theorem ju:ae Tryz.prog bB=some am:=by kernel_rfl
def th:FK:=⟨7,[xo],xg [qD 2 .nilp] [qb 3 .mkm,wj 4,xZ 5 [.nilm,.nilp] [(0,1,.t 3),(1,1,.t 4)],wB 6 2 5,qf 2 6]⟩
theorem Cl:ae Tryz.prog gM=some th:=by kernel_rfl
def fp:FK:=⟨109,[.t 6],wy [wB 4 5 1,qD 6 .nilp] [wS 10 4,qu 11 10,wt 12 11 6] (qC 12 (.seq (wZ 0 [wj 13,xq 14 4,qu 15 14,wc 16 4 15 ya,xX 17 16,xi 18,xn 19 (xI 13 17 18),qy 20 .neq 19 0] 20 0 (.blk 1 (qw [wj 21,xy 22 4,xi 24,qu 23 22,xf 25 gM 24,xk none 22 23,xJ 26 aW 21 23 25,qf 7 26] (xz [qf 27 7,qb 28 (.pnil 0 true (.t 27))] 28 (wN (qf 29 7) 6 29)) (.reg [wj 30,xf 31 dg 30])))) (qx [qD 6 .nilp]))) (xd [wj 32,xq 33 4,qu 34 33,wc 35 4 34 ya,xX 36 35,xi 37,xn 38 (xI 32 36 37),qf 8 38] [wS 39 4,qu 40 39] (.blk 2 (qe (wP 42 40 1 41 42) (xB 41 (.reg [xi 43,wm 44 43,wS 45 44,xw 47 4,xP 49,qu 46 45,qu 48 47,qS (.mup 1 (.t 46) (.t 48) (.t 49))]) 51 40 2 50 51 (xB 50 (.reg [xi 52,xw 53 4,xw 59 4,xP 61,qu 54 53,qu 60 59,wW 55 eM 52 54,xk none 59 60,wm 56 55,wS 57 56,qu 58 57,qS (.mup 1 (.t 58) (.t 60) (.t 61))]) 63 40 3 62 63 (xB 62 (.reg [wj 64,wj 65,wm 66 65,xy 67 66,qu 68 67,xP 69,xQ 70 1 [we] 1 [(0,1,.t 69)],qb 71 (.app 1 8 (.t 68) (.t 70)),wm 72 64,xy 73 72,xD 73 71]) 75 40 4 74 75 (xB 74 (xF [wj 76,xq 77 4,qu 78 77,wc 79 4 78 (qk 1),xX 80 79,xi 81,xn 82 (xI 76 80 81),qf 9 82] [wj 83,xP 84,wW 85 dh 83 84,qf 86 9,wm 87 85,xD 87 86]) 89 40 5 88 89 (xB 88 (w9 [xP 90,qy 91 .neq 90 0] 91 [wj 92,xy 93 4,xi 95,qu 94 93,xf 96 gM 95,xk none 93 94,xJ 97 aW 92 94 96,x6 97] (qx [wj 98,qt 99 4 4,xi 101,qu 100 99,xf 102 gM 101,xk none 99 100,xJ 103 aW 98 100 102,x6 103])) 105 40 7 104 105 (qO 104 [xP 106,xZ 107 [we] [(0,1,.t 106)],wB 108 1 107,x6 108])))))))) [qD 6 .nilp])⟩
theorem jp:ae Tryz.prog fj=some fp:=by kernel_rfl
def iU:FK:=⟨26,[.t 6],xd [qD 6 .nilp] [wE 10,wl 11 10,wH 12] (qQ 0 (xp [wI 13 12 11] (ww 13 0) (wo 1 (qV [wn 14 5 10 12,qI 15 5 14,wF 8 [we,wJ,.nils,.nils,.nils],wh 5 8 15] [wj 16,xf 17 dg 16] (qV [wj 18,qI 19 5 8,xi 20,xJ 21 fj 18 19 20,qf 9 21] [qf 22 9,qb 23 (.pnil 0 true (.t 22))] (qO 23 (wN (qf 24 9) 6 24)))) (wN (xm 25 12) 12 25)))) [qD 6 .nilp]⟩
theorem oM:ae Tryz.prog aW=some iU:=by kernel_rfl
def jr:FK:=⟨57,[.t 6],qV [wH 6] [qb 11 .mkm,xZ 12 [.nilm,.nilp] [(0,1,.t 11)],wB 13 2 12,qf 7 13] (qw [wj 14,wm 15 14,wS 16 15,wS 17 16,qu 18 17,wE 19,wn 20 3 18 19,xw 21 20,qu 22 21,wl 23 22,wH 24] (qQ 0 (xp [wI 25 24 23] (ww 25 0) (wo 1 (xF [qf 26 24,wn 27 1 22 24,qu 28 27,qf 8 26,qf 9 28] [qf 29 7,wm 30 29,wS 31 30,qf 33 9,xi 34,xP 35,wn 36 1 34 35,qu 32 31,qu 37 36,qS (.mup 1 (.t 32) (.t 33) (.t 37))]) (wN (xm 38 24) 24 38)))) (xC [wj 39,wj 40,wm 41 40,wS 42 41,wS 43 42,qu 44 43,wE 45,wn 46 3 44 45,xq 47 46,qu 48 47,qf 49 7,xJ 50 aW 39 48 49,qf 10 50] (xz [qf 51 10,qb 52 (.pnil 0 true (.t 51))] 52 [qf 53 10,wm 54 53,wS 55 54,qu 56 55,x6 56]) [wH 6]))⟩
theorem pN:ae Tryz.prog dj=some jr:=by kernel_rfl
def jw:FK:=⟨12,[],.reg [qu 4 0,wS 5 1,qu 6 5,wl 7 6,qy 8 .sub 7 1,qu 9 2,xJ 10 dj 4 8 9,xq 11 3,xD 11 10]⟩
theorem pQ:ae Tryz.prog dd=some jw:=by kernel_rfl
def gn:AK:=qV [x5 3 1,wB 4 1 1,wF 6 [.nils,we,we,.nils],wH 7] [qI 10 1 3,xi 11,xZ 12 [.nils,we,we,.nils,we,we,we,we,we,we,we,we,we,we,we,we,we,we,we,we] [(0,1,.t 10),(1,1,.t 11)],wB 13 20 12,wF 8 [.nilp],xD 8 13] (qe [wF 9 [.nils,we,we,.nils]] (.cut (.reg [qb 14 (.mkf (.func dd) [.t 8,.t 3,.t 4,.t 9]),xf 15 re 14,xw 16 9,xD 16 15]) (xg [qu 17 8,wm 18 17,xy 19 18,qu 20 19,wS 26 9,qu 21 8,wm 22 21,qt 23 4 22,qb 24 (.slA 16 1 (.t 23) none none),xf 25 dG 24,xk none 8 17,xk none 19 20,xD 26 20,xy 27 9,xD 27 25] [xX 28 9,qu 29 8,wm 30 29,xq 31 30,qu 32 31,wh 4 6 28,xk none 8 29,xk none 31 32,qf 7 32])))
def gi:FK:=⟨33,[.c 6 (some 4),.t 7],(AK.whole gn)⟩
theorem sR:ae Tryz.prog gA=some gi:=by kernel_rfl
def mF:FK:=⟨26,xK,xW xA [wj 6,wl 7 6,wE 8,wl 9 8,qY 10 .neq 7 9] 10 xA (xC [xN] (xT 0 [wY 11,xU,wl 13 12,wI 14 11 13] 14 0 1 (xz [wj 17,wY 18,wn 19 1 17 18,wE 21,wY 22,wn 23 1 21 22,qu 20 19,qu 24 23,qb 25 (xx .neq 20 (.t 24))] 25 xA) (wY 15) 16 15 5 16) [x4 4])⟩
theorem uz:ae Tryz.prog ik=some mF:=by kernel_rfl
def rq:FK:=⟨26,xK,xW [x5 2 4,wB 3 4 1,wG] [wS 5 2,qu 6 5,wS 7 3,qu 8 7,qY 9 .neq 6 8] 9 xA (w9 [xw 10 2,qu 11 10,xw 12 3,qu 13 12,qY 14 .neq 11 13] 14 xA (w9 [xq 15 2,qu 16 15,xq 17 3,qu 18 17,qb 19 (xx .neq 16 (.t 18))] 19 xA (w9 [xy 20 2,qu 21 20,xy 22 3,qu 23 22,wW 24 ey 21 23,wK 25 24] 25 xA (qx [x4 4]))))⟩
theorem AH:ae Tryz.prog iL=some rq:=by kernel_rfl
def oy:FK:=⟨27,xK,xW xA [wj 6,wl 7 6,wE 8,wl 9 8,qY 10 .neq 7 9] 10 xA (xC [xN] (xT 0 [wY 11,xU,wl 13 12,wI 14 11 13] 14 0 1 (xz [wj 17,wY 18,wn 19 4 17 18,wE 21,wY 22,wn 23 4 21 22,xX 20 19,xX 24 23,wW 25 iL 20 24,wK 26 25] 26 xA) (wY 15) 16 15 5 16) [x4 4])⟩
theorem zY:ae Tryz.prog ey=some oy:=by kernel_rfl
def ra:FK:=⟨33,xK,xW [x5 2 5,wB 3 5 1,wG] [wS 5 2,qu 6 5,wS 7 3,qu 8 7,qY 9 .neq 6 8] 9 xA (w9 [xw 10 2,qu 11 10,xw 12 3,qu 13 12,qb 14 (xx .neq 11 (.t 13))] 14 xA (w9 [xq 15 2,qu 16 15,xq 17 3,qu 18 17,wW 19 ey 16 18,wK 20 19] 20 xA (w9 [xy 21 2,qu 22 21,xy 23 3,qu 24 23,wW 25 dv 22 24,wK 26 25] 26 xA (w9 [qt 27 4 2,qu 28 27,qt 29 4 3,qu 30 29,wW 31 dv 28 30,wK 32 31] 32 xA (qx [x4 4])))))⟩
theorem AG:ae Tryz.prog iG=some ra:=by kernel_rfl
def nU:FK:=⟨27,xK,xW xA [wj 6,wl 7 6,wE 8,wl 9 8,qY 10 .neq 7 9] 10 xA (xC [xN] (xT 0 [wY 11,xU,wl 13 12,wI 14 11 13] 14 0 1 (xz [wj 17,wY 18,wn 19 5 17 18,wE 21,wY 22,wn 23 5 21 22,qI 20 5 19,qI 24 5 23,wW 25 iG 20 24,wK 26 25] 26 xA) (wY 15) 16 15 5 16) [x4 4])⟩
theorem yx:ae Tryz.prog dv=some nU:=by kernel_rfl
def vu:FK:=⟨22,xK,xW [x5 2 3,wB 3 3 1,wG] [wS 5 2,qu 6 5,wS 7 3,qu 8 7,qb 9 (xx .neq 6 (.t 8))] 9 xA (w9 [xw 10 2,qu 11 10,xw 12 3,qu 13 12,wW 14 ik 11 13,wK 15 14] 15 xA (w9 [xq 16 2,qu 17 16,xq 18 3,qu 19 18,wW 20 dv 17 19,wK 21 20] 21 xA (qx [x4 4])))⟩
theorem Do:ae Tryz.prog lr=some vu:=by kernel_rfl
def sN:FK:=⟨27,xK,xW xA [wj 6,wl 7 6,wE 8,wl 9 8,qY 10 .neq 7 9] 10 xA (xC [xN] (xT 0 [wY 11,xU,wl 13 12,wI 14 11 13] 14 0 1 (xz [wj 17,wY 18,wn 19 3 17 18,wE 21,wY 22,wn 23 3 21 22,qI 20 3 19,qI 24 3 23,wW 25 lr 20 24,wK 26 25] 26 xA) (wY 15) 16 15 5 16) [x4 4])⟩
theorem CY:ae Tryz.prog mP=some sN:=by kernel_rfl
def mj:FK:=⟨11,xK,xd [x5 2 1,wB 3 1 1,wG] [wS 5 2,qu 6 5,wS 7 3,qu 8 7,wW 9 mP 6 8,wK 10 9] (qO 10 xA) [x4 4]⟩
theorem tT:ae Tryz.prog iv=some mj:=by kernel_rfl
def ry:FK:=⟨26,xK,xW xA [wj 6,wl 7 6,wE 8,wl 9 8,qY 10 .neq 7 9] 10 xA (xC [xN] (xT 0 [wY 11,xU,wl 13 12,wI 14 11 13] 14 0 1 (xz [wj 17,wY 18,wn 19 1 17 18,wE 21,wY 22,wn 23 1 21 22,qu 20 19,qu 24 23,qY 25 .neq 20 24] 25 xA) (wY 15) 16 15 5 16) [x4 4])⟩
theorem AD:ae Tryz.prog fC=some ry:=by kernel_rfl
def gw:FK:=⟨28,[.c 6 (some 4),.t 7],xW [x5 3 1,wF 6 [.nils,we,we,.nils],wq 7] [qI 10 1 3,wE 11,wW 12 lP 10 11,wK 13 12,qf 14 13,xj 15 14 2,qL 16 14 (xE (xG 15 ya (qk 4000))),qL 17 14 (wa 16),xL 18 14 17] 18 [xZ 19 [.nils,we,we,.nils] [],wh 4 6 19,wq 7] (xg [qI 21 1 3,wE 22,xi 23,xJ 24 lJ 21 22 23,qf 20 24,wL 25 0 20,wL 26 1 20,wF 8 [.nils,we,we,.nils],wh 4 8 25,qf 9 26] [xX 27 8,wh 4 6 27,x4 7])⟩
theorem lv:ae Tryz.prog bT=some gw:=by kernel_rfl
def gR:FK:=⟨28,[.c 6 (some 4),.t 7],xW [x5 3 1,wF 6 [.nils,we,we,.nils],wq 7] [qI 10 1 3,wE 11,wW 12 md 10 11,wK 13 12,qf 14 13,xj 15 14 2,qL 16 14 (.call cS (xG 15 ya (qk 4000))),qL 17 14 (wa 16),xL 18 14 17] 18 [xZ 19 [.nils,we,we,.nils] [],wh 4 6 19,wq 7] (xg [qI 21 1 3,wE 22,xi 23,xJ 24 gA 21 22 23,qf 20 24,wL 25 0 20,wL 26 1 20,wF 8 [.nils,we,we,.nils],wh 4 8 25,qf 9 26] [xX 27 8,wh 4 6 27,x4 7])⟩
theorem lF:ae Tryz.prog bh=some gR:=by kernel_rfl
def mw:FK:=⟨27,xK,xW [x5 2 4,wB 3 4 1,wG] [wS 5 2,qu 6 5,wS 7 3,qu 8 7,wW 9 fC 6 8,wK 10 9] 10 xA (w9 [xw 11 2,qu 12 11,xw 13 3,qu 14 13,qY 15 .neq 12 14] 15 xA (w9 [xq 16 2,qu 17 16,xq 18 3,qu 19 18,qY 20 .neq 17 19] 20 xA (w9 [xy 21 2,qu 22 21,xy 23 3,qu 24 23,wW 25 fC 22 24,wK 26 25] 26 xA (qx [x4 4]))))⟩
theorem um:ae Tryz.prog du=some mw:=by kernel_rfl
def jh:FK:=⟨20,[xo],xW [qD 2 wJ] [wj 4,qy 5 .leq 4 0] 5 [qD 2 (wd [109,48])] (xp [qD 3 wJ] (wZ 0 [wj 6,qy 7 .gtr 6 0] 7 0 (.blk 1 (xF [wj 8,qy 9 .rem 8 10,qb 10 (.bin .add (qk 48) (.t 9)),qb 11 (.conv .u8 (.t 10)),xQ 12 1 [qg .u8 0] 1 [(0,1,.t 11)],qb 13 (.btos (.t 12)),qf 14 3,qb 15 (xx .add 13 (.t 14)),qf 3 15] (xR (wj 16) (qy 17 .quo 16 10) 0 17)))) (qx (xR (qf 18 3) (qb 19 (.bins .add (.c (wd [109])) (.t 18))) 2 19)))⟩
theorem vQ:ae Tryz.prog bl=some jh:=by kernel_rfl
def dB:FK:=⟨20,xK,xd [xc] [xN] (xT 0 [wY 6,wj 7,wl 8 7,wI 9 6 8] 9 0 1 (xF [xU,wY 13,wE 14,xf 15 bl 14,wn 16 1 12 13,xD 16 15] (xS (wE 17) 18 17 1 18)) (wY 10) 11 10 5 11) (wN (wE 19) 4 19)⟩
theorem dz:ae Tryz.prog dD=some dB:=by kernel_rfl
def eQ:FK:=⟨42,xK,xd [xc] [xN] (xT 0 [wY 6,wj 7,wl 8 7,wI 9 6 8] 9 0 1 (qV [xU,wY 13,wE 14,wn 15 4 12 13,wS 16 15,xD 16 14] (xS (wE 17) 18 17 1 18) (qV [wj 19,wY 20,wE 21,wn 22 4 19 20,xw 23 22,xD 23 21] (xS (wE 24) 25 24 1 25) (qV [wj 26,wY 27,wE 28,xf 29 bl 28,wn 30 4 26 27,xq 31 30,xD 31 29] (xS (wE 32) 33 32 1 33) (.reg [wj 34,wY 35,wn 36 4 34 35,xy 37 36,qu 38 37,wE 39,wW 40 eJ 38 39,qf 1 40])))) (wY 10) 11 10 5 11) (wN (wE 41) 4 41)⟩
theorem ig:ae Tryz.prog eJ=some eQ:=by kernel_rfl
def eN:FK:=⟨49,xK,xd [xc] [xN] (xT 0 [wY 6,wj 7,wl 8 7,wI 9 6 8] 9 0 1 (qV [xU,wY 13,wE 14,wn 15 5 12 13,wS 16 15,xD 16 14] (xS (wE 17) 18 17 1 18) (qV [wj 19,wY 20,wE 21,xf 22 bl 21,wn 23 5 19 20,xw 24 23,xD 24 22] (xS (wE 25) 26 25 1 26) (qV [wj 27,wY 28,wn 29 5 27 28,xq 30 29,qu 31 30,wE 32,wW 33 eJ 31 32,qf 1 33] [wj 34,wY 35,wn 36 5 34 35,xy 37 36,qu 38 37,wE 39,wW 40 dr 38 39,qf 1 40] (.reg [wj 41,wY 42,wn 43 5 41 42,qt 44 4 43,qu 45 44,wE 46,wW 47 dr 45 46,qf 1 47])))) (wY 10) 11 10 5 11) (wN (wE 48) 4 48)⟩
theorem ir:ae Tryz.prog dr=some eN:=by kernel_rfl
def gQ:FK:=⟨35,xK,xd [xc] [xN] (xT 0 [wY 6,wj 7,wl 8 7,wI 9 6 8] 9 0 1 (qV [xU,wY 13,wE 14,xf 15 bl 14,wn 16 3 12 13,wS 17 16,xD 17 15] (xS (wE 18) 19 18 1 19) (xF [wj 20,wY 21,wn 22 3 20 21,xw 23 22,qu 24 23,wE 25,wW 26 dD 24 25,qf 1 26] [wj 27,wY 28,wn 29 3 27 28,xq 30 29,qu 31 30,wE 32,wW 33 dr 31 32,qf 1 33])) (wY 10) 11 10 5 11) (wN (wE 34) 4 34)⟩
theorem kH:ae Tryz.prog kj=some gQ:=by kernel_rfl
def kK:FK:=⟨10,xK,qV [x5 2 1,xc] [wS 5 2,qu 6 5,wE 7,wW 8 kj 6 7,xP 1] (qx (wN (wE 9) 4 9))⟩
theorem rY:ae Tryz.prog fT=some kK:=by kernel_rfl
def fK:FK:=⟨19,xK,xd [xc] [xN] (xT 0 [wY 6,wj 7,wl 8 7,wI 9 6 8] 9 0 1 (xF [xU,wY 13,wE 14,wn 15 1 12 13,xD 15 14] (xS (wE 16) 17 16 1 17)) (wY 10) 11 10 5 11) (wN (wE 18) 4 18)⟩
theorem fJ:ae Tryz.prog cJ=some fK:=by kernel_rfl
def kn:FK:=⟨14,xK,qV [x5 2 4,xc] [wS 5 2,qu 6 5,wE 7,wW 8 cJ 6 7,xP 1] (xg [xy 9 2,qu 10 9,wE 11,wW 12 cJ 10 11,qf 1 12] (wN (wE 13) 4 13))⟩
theorem sk:ae Tryz.prog fW=some kn:=by kernel_rfl
def nA:FK:=⟨21,xK,xd [xc] [xN] (xT 0 [wY 6,wj 7,wl 8 7,wI 9 6 8] 9 0 1 (w9 [xU,wY 13,wn 14 1 12 13,qu 15 14,wE 16,qY 17 .neq 15 16] 17 [x8] (.reg (xS (wE 18) 19 18 1 19))) (wY 10) 11 10 5 11) (wN (wE 20) 4 20)⟩
theorem vI:ae Tryz.prog fN=some nA:=by kernel_rfl
def ky:FK:=⟨18,xK,qV [x5 2 4,xc] [wS 5 2,qu 6 5,wE 7,wW 8 fN 6 7,xP 1] (w9 [wE 9,xt 10 9 0] 10 [x8] (xd [xy 11 2,qu 12 11,wE 13,wW 14 fN 12 13,qf 1 14] [wE 15,xt 16 15 0] (qO 16 [x8]) (wN (wE 17) 4 17)))⟩
theorem sm:ae Tryz.prog dF=some ky:=by kernel_rfl
def bM:FK:=⟨122,[.t 6],xW [x5 3 1,wq 6] [wE 19,wl 20 19,qy 21 .gtr 20 1048576] 21 [x4 6] (qV [qz 7 1048576] [qI 22 1 3,qf 23 7,wW 24 dk 22 23,qf 7 24] (w9 [qf 25 7,xt 26 25 0] 26 [x4 6] (qV [qI 28 1 3,xf 29 bK 28,wE 30,xf 31 cf 30,xi 32,xJ 33 bT 29 31 32,qf 27 33,wL 34 0 27,wL 35 1 27,wF 8 [.nils,we,we,.nils],wh 4 8 34,qf 9 35] [qI 36 1 3,xf 37 bK 36,wF 10 [.nils],xD 10 37] (qV (xR (wE 38) (xf 39 cf 38) 11 39) [qI 41 1 10,qf 42 11,xi 43,xJ 44 bh 41 42 43,qf 40 44,wL 45 0 40,wL 46 1 40,wF 12 [.nils,we,we,.nils],wh 4 12 45,qf 13 46] (w9 [xX 47 12,xX 48 8,wW 49 du 47 48,wK 50 49,qf 51 50,xj 52 51 13,xj 53 51 9,qL 54 51 (.beq true (.t 52) (.t 53)),xL 55 51 54] 55 [wq 6] (w9 [qI 56 1 10,qI 57 1 3,xf 58 bK 57,xk (some 1) 10 56,wW 59 iv 56 58,wK 60 59] 60 [wq 6] (w9 [qf 61 11,wE 62,xf 63 cf 62,wW 64 fC 61 63,wK 65 64] 65 [wq 6] (qV [qz 14 1] [qI 66 1 10,qf 67 14,wW 68 fT 66 67,qf 14 68] (xW [qf 69 11,qf 70 14,wW 71 cJ 69 70,qf 14 71] [qf 72 14,xt 73 72 0,qf 74 73,qL 75 74 (qj (some 4) 12),qL 76 74 (qj (some 4) 8),qL 77 74 (.call du (wU 75 (.t 76))),qL 78 74 (wa 77),xL 79 74 78,qf 80 79,xj 81 80 13,xj 82 80 9,qL 83 80 (.beq true (.t 81) (.t 82)),xL 84 80 83] 84 [wq 6] (qV [qz 15 1] [xX 85 12,qf 86 15,wW 87 fW 85 86,qf 15 87] (qV [qz 16 1] [xX 88 12,qf 89 16,wW 90 dF 88 89,qf 16 90] (w9 [qf 91 16,xt 92 91 0] 92 [wq 6] (w9 [qf 93 16,qf 94 15,qY 95 .neq 93 94] 95 [wq 6] (xW [qI 97 1 3,xf 98 bK 97,wE 99,xf 100 cf 99,xi 101,xJ 102 bh 98 100 101,qf 96 102,wL 103 0 96,wL 104 1 96,wF 17 [.nils,we,we,.nils],wh 4 17 103,qf 18 104] [xX 105 17,xX 106 8,wW 107 du 105 106,wK 108 107,qf 109 108,xj 110 109 18,xj 111 109 9,qL 112 109 (.beq true (.t 110) (.t 111)),xL 113 109 112] 113 [wq 6] (qV [qz 16 1] [xX 114 12,qf 115 16,wW 116 dF 114 115,qf 16 116] (w9 [qf 117 16,xt 118 117 0] 118 [wq 6] (w9 [qf 119 16,qf 120 15,qY 121 .neq 119 120] 121 [wq 6] (qx [x4 6]))))))))))))))))))⟩
theorem cW:ae Tryz.prog cZ=some bM:=by kernel_rfl
end Go.Proofs.YtokiapglmedipaaGreatDoor
