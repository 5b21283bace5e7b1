/-
  Contracts and lemmas that the card needs, part 4.
-/
import Derived.Test.YtokiapglmedipaaGreatDoorWr3
import Derived.Test.YtokiapglmedipaaGreatDoorRows
namespace Go.Proofs.YtokiapglmedipaaGreatDoor
open Go Go.Aw
set_option maxRecDepth 100000
abbrev js:FuncId:=56
abbrev ll:FuncId:=239
abbrev la:FuncId:=235
abbrev no:FuncId:=221
abbrev fZ:FuncId:=236
abbrev nO:FuncId:=222
abbrev cC:FuncId:=195
abbrev jd:FuncId:=237
abbrev jp:FuncId:=242
abbrev fT:FuncId:=240
abbrev gV:FuncId:=241
abbrev fc:FuncId:=238
abbrev jn:FuncId:=223
abbrev bY:FuncId:=196
abbrev oy:FuncId:=164
abbrev eK:FuncId:=197
abbrev nH:FuncId:=165
abbrev dw:FuncId:=114
abbrev jt:FuncId:=199
abbrev bz:FuncId:=200
abbrev dQ:FuncId:=224
abbrev ja:FuncId:=225
abbrev eD:FuncId:=201
abbrev eB:FuncId:=227
abbrev cI:FuncId:=226
abbrev cw:FuncId:=202
abbrev lO:FuncId:=169
abbrev fH:FuncId:=119
abbrev mA:FuncId:=70
abbrev jH:FuncId:=101
abbrev jo:FuncId:=50
abbrev cb:FuncId:=184
abbrev ey:FuncId:=150
abbrev kq:FuncId:=186
abbrev eC:FuncId:=208
abbrev dD:FuncId:=209
abbrev nG:FuncId:=210
abbrev bi:FuncId:=185
abbrev ig:FuncId:=187
abbrev ie:FuncId:=151
abbrev aK:FuncId:=102
abbrev jC:FuncId:=51
abbrev eb:FuncId:=14
abbrev dk:FuncId:=57
abbrev fy:FuncId:=172
abbrev fJ:FuncId:=122
abbrev eu:FuncId:=173
abbrev dj:FuncId:=124
abbrev cY:FuncId:=123
abbrev cA:FuncId:=75
abbrev cW:FuncId:=125
abbrev cm:FuncId:=76
abbrev ce:FuncId:=174
abbrev bP:FuncId:=126
abbrev gd:FuncId:=175
abbrev jf:FuncId:=156
abbrev kP:FuncId:=228
abbrev gg:FuncId:=203
abbrev eZ:FuncId:=176
abbrev ji:FuncId:=128
abbrev cF:FuncId:=127
abbrev cK:FuncId:=78
abbrev gJ:FuncId:=129
abbrev eV:FuncId:=130
abbrev lh:FuncId:=79
abbrev bx:FuncId:=77
abbrev dA:FuncId:=37
abbrev cP:FuncId:=80
abbrev fU:FuncId:=81
abbrev gA:FuncId:=39
abbrev cn:FuncId:=72
abbrev de:FuncId:=73
abbrev ku:FuncId:=170
abbrev cd:FuncId:=121
abbrev bS:FuncId:=171
abbrev dv:FuncId:=120
abbrev bB:FuncId:=74
abbrev fq:FuncId:=36
abbrev ox:FuncId:=68
abbrev dO:FuncId:=189
abbrev cT:FuncId:=154
abbrev cD:FuncId:=155
abbrev kS:FuncId:=104
abbrev je:FuncId:=53
abbrev bq:FuncId:=157
abbrev rH:FuncId:=105
abbrev dK:FuncId:=108
abbrev mf:FuncId:=212
abbrev dx:FuncId:=190
abbrev fa:FuncId:=215
abbrev lv:FuncId:=205
abbrev iy:FuncId:=180
abbrev dz:FuncId:=216
abbrev bN:FuncId:=213
abbrev gM:FuncId:=214
abbrev fp:FuncId:=191
abbrev bp:FuncId:=158
abbrev dC:FuncId:=107
abbrev dB:FuncId:=106
abbrev dd:FuncId:=54
abbrev dZ:FuncId:=17
abbrev ir:FuncId:=20
abbrev dc:FuncId:=21
abbrev kO:FuncId:=60
abbrev aT:FuncId:=62
abbrev cG:FuncId:=65
abbrev cX:FuncId:=117
abbrev dp:FuncId:=198
abbrev aU:FuncId:=194
abbrev gO:FuncId:=163
abbrev gr:FuncId:=234
abbrev dH:FuncId:=218
abbrev eE:FuncId:=219
abbrev gW:FuncId:=220
abbrev io:FuncId:=193
abbrev aZ:FuncId:=162
abbrev gb:FuncId:=113
abbrev dm:FuncId:=61
abbrev gL:FuncId:=167
abbrev mH:FuncId:=166
abbrev mD:FuncId:=115
abbrev jb:FuncId:=168
abbrev dI:FuncId:=118
abbrev mJ:FuncId:=116
abbrev mI:FuncId:=63
abbrev oO:FuncId:=64
abbrev ef:FuncId:=29
abbrev iq:FuncId:=27
abbrev dP:FuncId:=67
abbrev gl:FuncId:=31
abbrev na:FuncId:=9
@[reducible] def qa(a:Nat)(b:Option (Nat × Bool))(c:AI):CO:=⟨some a,b,c⟩
@[reducible] def qb(a:Nat)(b:AI):CO:=qa a none b
@[reducible] def qd(a:Nat)(b:AOp):CO:=qb a (.mov b)
@[reducible] def qe(a:List CO)(b:AK):AK:= .seq (.reg a) b
@[reducible] def qf(a:IntKind)(b:Int):AV:= .p (.int a b)
@[reducible] def qg(a b:Nat):CO:=qd a (.t b)
@[reducible] def qh(a:Int):AV:=qf .i64 a
@[reducible] def qi(a b:Nat):AI:= .fldA a (.t b)
@[reducible] def qj(a:Int):AOp:= .c (qh a)
@[reducible] def qk(a:Option Nat)(b:Nat):AI:= .ld a (.t b)
@[reducible] def ql(a:BinOp)(b:Nat)(c:AOp):AI:= .bin a (.t b) c
@[reducible] def qm(a:Nat)(b:Nat × Bool)(c:AI):CO:=qa a (some b) c
@[reducible] def qn(a:Nat)(b:Option Nat)(c:Nat):CO:=qb a (qk b c)
@[reducible] def qo(a:Nat)(b c:AK):AK:= .cond (.t a) b c
@[reducible] def qp(a:Nat)(b:FuncId)(c:List AOp):CO:=qb a (.call b c)
@[reducible] def qq(a b c:Nat):CO:=qb a (qi b c)
@[reducible] def qr(a:Nat)(b:BinOp)(c:Nat)(d:AOp):CO:=qb a (ql b c d)
@[reducible] def qt(a:Bool):AV:= .p (.bool a)
@[reducible] def qu(a:List UInt8):AV:= .p (.str a)
@[reducible] def qv(a b:Nat):CO:=qn a none b
@[reducible] def qw(a:Nat):AI:= .nilck (.t a)
@[reducible] def qx(a:Option (Nat × Bool))(b:AI):CO:=⟨none,a,b⟩
@[reducible] def qy(a:Nat)(b:BinOp)(c:Nat)(d:Int):CO:=qr a b c (qj d)
@[reducible] def qz:AV:=qt false
@[reducible] def qA(a:List CO):AK:=qe a .ret
@[reducible] def qB:AV:=qh 0
@[reducible] def qC(a:List CO)(b:Nat)(c d:AK):AK:=qe a (qo b c d)
@[reducible] def qD(a:AI):CO:=qx none a
@[reducible] def qF:AV:=qu []
@[reducible] def qG(a:Nat)(b c:AOp):CO:=qD (.st a b c)
@[reducible] def qH(a b c:Nat):CO:=qn a (some b) c
@[reducible] def qI(a:Nat)(b:Int):CO:=qd a (qj b)
@[reducible] def qJ(a b:Nat)(c:Bool)(d:AI):CO:=qm a (b,c) d
@[reducible] def qK(a b:Nat)(c:AI):CO:=qJ a b true c
@[reducible] def qL(a b:Nat)(c:AI):CO:=qJ a b false c
@[reducible] def qM(a:AOp):AI:= .len false a
@[reducible] def qN(a:List CO)(b c:AK):AK:=qe a (.seq b c)
@[reducible] def qO(a:List CO)(b:Nat)(c:AK):AK:=qC a b c .skip
@[reducible] def qQ(a:Nat)(b c:AOp):AI:= .pick (.t a) b c
@[reducible] def qS(a b:Nat)(c:AOp):CO:=qG a (.t b) c
@[reducible] def qT(a b c:Nat):CO:=qS a b (.t c)
@[reducible] def qU:AOp:= .c qz
@[reducible] def qV(a b:Nat):CO:=qb a (qw b)
@[reducible] def qW(a b:Nat)(c:AOp):AI:= .idxS a (.t b) c
@[reducible] def qX(a b:Nat)(c:List AV)(d:Nat)(e:List (Nat × Nat × AOp)):CO:=qb a (.bsl b c d e)
@[reducible] def qY(a:Nat)(b:List AV):CO:=qb a (.alloc b)
@[reducible] def qZ(a:Nat):CO:=qg a 0
@[reducible] def wa(a:Nat)(b:AK):AK:= .blk a (.loop b)
@[reducible] def wb(a b:Nat)(c:Int):CO:=qy a .eql b c
@[reducible] def wc(a:AK)(b:List CO):AK:= .seq a (.reg b)
@[reducible] def wd(a:Nat):AI:=qM (.t a)
@[reducible] def we:AV:=qt true
@[reducible] def wg(a:Option Nat)(b c:Nat):CO:=qD (.chk a b c)
@[reducible] def wh(a:List CO)(b:Nat)(c:List CO):AK:=qO a b (qA c)
@[reducible] def wj(a:Nat):AI:= .mov (.t a)
@[reducible] def wl(a:Nat)(b:List AV)(c:List (Nat × Nat × AOp)):CO:=qb a (.bld b c)
@[reducible] def wm(a b:Nat)(c d:AOp):CO:=qb a (qQ b c d)
@[reducible] def wn(a b:Nat):AI:= .box a (.t b)
@[reducible] def wo(a:Nat):AI:=qk none a
@[reducible] def wq(a:Nat):AI:= .not (.t a)
@[reducible] def ws(a:Nat)(b:BinOp)(c d:Nat):CO:=qr a b c (.t d)
@[reducible] def wt(a b:Nat):CO:=qb a (wd b)
@[reducible] def wu(a b c:Nat)(d:AOp):CO:=qb a (qW b c d)
@[reducible] def ww(a b:Nat):AI:= .ext a (.t b)
@[reducible] def wx(a:Nat)(b:List AOp):CO:=qp a aT b
@[reducible] def wy(a:Nat)(b:AK)(c:List CO):AK:=wc (.blk a b) c
@[reducible] def wz:AOp:= .c we
@[reducible] def wA:AK:= .exit 0
@[reducible] def wB(a b c d:Nat):CO:=wu a b c (.t d)
@[reducible] def wD(a b c:Nat):Nat × Nat × AOp:=(a,b,.t c)
@[reducible] def wE(a b c:Nat)(d:AOp):AI:= .app a b (.t c) d
@[reducible] def wF(a b:Nat)(c:Int):CO:=qy a .add b c
@[reducible] def wG(a b c:Nat):CO:=qb a (wn b c)
@[reducible] def wH(a:Nat)(b:AOp):List AOp:=[.t a,b]
@[reducible] def wI(a:Nat)(b:FuncId)(c:Nat)(d:AOp):CO:=qp a b (wH c d)
@[reducible] def wJ(a:Nat)(b:FuncId)(c d:Nat):CO:=wI a b c (.t d)
@[reducible] def wK(a:Nat):CO:=qd a qU
@[reducible] def wL(a:List CO)(b:Nat)(c:AK):AK:=qC a b .skip c
@[reducible] def wM(a:List CO)(b:Nat)(c d:AK):AK:= .seq (wL a b c) d
@[reducible] def wN(a b c:Nat):CO:=qb a (ww b c)
@[reducible] def wP(a:List UInt8):AOp:= .c (qu a)
@[reducible] def wQ(a b:Nat):CO:=qq a 0 b
@[reducible] def wR(a:List CO)(b:Nat)(c:AK):AK:=qe a (wa b c)
@[reducible] def wS(a:BinOp)(b:Nat)(c:Int):AI:=ql a b (qj c)
@[reducible] def wT(a:Nat):CO:=qI a 0
@[reducible] def wU(a b c:Nat):CO:=qK a b (wo c)
@[reducible] def wV(a:CO)(b c:Nat):List CO:=[a,qg b c]
@[reducible] def wW(a b:Nat)(c:Int)(d e:Nat):List CO:=wV (wb a b c) d e
@[reducible] def wX(a b:Nat):CO:=wg none a b
@[reducible] def wY(a b c d:Nat):CO:=qK a b (qi c d)
@[reducible] def wZ(a b c:Nat):CO:=wJ a cG b c
@[reducible] def xa(a:List CO)(b:AK)(c:List CO):AK:=qN a b (qA c)
@[reducible] def xb(a b c:Nat):CO:=ws a .lss b c
@[reducible] def xc(a b:List CO):AK:=qe a (qA b)
@[reducible] def xd(a b:Nat)(c:Int):Nat × Nat × AOp:=(a,b,qj c)
@[reducible] def xe(a:Nat)(b:Int):Nat × Nat × AOp:=xd a 1 b
@[reducible] def xf(a b c d:Nat):AI:=wE a b c (.t d)
@[reducible] def xg(a b c:Nat)(d:AOp):CO:=wm a b (.t c) d
@[reducible] def xh(a b c d e:Nat):CO:=qb a (xf b c d e)
@[reducible] def xi(a b:Nat)(c:AOp)(d:Nat):CO:=wm a b c (.t d)
@[reducible] def xj(a:Nat):CO:=qg a 1
@[reducible] def xk(a b:Nat):Nat × Nat × AOp:=wD a 1 b
@[reducible] def xm(a:List CO)(b:Nat)(c:List CO):AK:=qO a b (.reg c)
@[reducible] def xn(a b:Nat):CO:=qb a (wq b)
@[reducible] def xo:CO:=wK 4
@[reducible] def xp(a b:Nat)(c:Int)(d e f:Nat)(g h:AK):AK:=qC (wW a b c d e) f g h
@[reducible] def xq(a:Nat):List AOp:=[.t a]
@[reducible] def xr(a:Nat)(b:FuncId)(c:Nat):CO:=qp a b (xq c)
@[reducible] def xt(a b:Nat):CO:=qT 1 a b
@[reducible] def xu(a:Nat):CO:=qg a 5
@[reducible] def xv(a b:Nat):CO:=qq a 2 b
@[reducible] def xw:RV:= .t 4
@[reducible] def xx(a:Nat):CO:=qg a 2
@[reducible] def xy(a b c:Nat):CO:=qL a b (wj c)
@[reducible] def xz(a:Nat)(b:AV):CO:=qd a (.c b)
@[reducible] def xA(a b c:Nat):CO:=qL a b (wo c)
@[reducible] def xB(a:Nat)(b:List AOp):CO:=qp a bN b
@[reducible] def xC(a b c:Nat):CO:=qK a b (wj c)
@[reducible] def xD(a b:List CO)(c:AK):AK:=qe a (qe b c)
@[reducible] def xE(a b c d:Nat):CO:=qL a b (qi c d)
@[reducible] def xF(a:List CO)(b:Nat)(c:AK)(d:Nat)(e:AK)(f:List CO):AK:=wM a b c (wy d e f)
@[reducible] def xG(a b:Nat)(c:Int):CO:=qy a .sub b c
@[reducible] def xH(a b c:Nat):CO:=wJ a cX b c
@[reducible] def xI(a b:Nat):CO:=qq a 1 b
@[reducible] def xJ:RV:= .t 2
@[reducible] def xK(a b:Nat)(c:List AV)(d:Nat)(e:List (Nat × Nat × AOp)):CO:=qb a (.bslP b c d e)
@[reducible] def xL(a:Nat)(b:AK):AK:=qo a .skip b
@[reducible] def xM(a b:Nat)(c:BinOp)(d:Nat)(e:Int):CO:=qK a b (wS c d e)
@[reducible] def xN(a:Nat)(b c:AOp):List AOp:=[.t a,b,c]
@[reducible] def xO(a b:Nat)(c:AOp):List AOp:=xN a (.t b) c
@[reducible] def xP(a b c:Nat):List AOp:=xO a b (.t c)
@[reducible] def xQ(a:Nat)(b:FuncId)(c d e:Nat):CO:=qp a b (xP c d e)
@[reducible] def xR(a:FuncId)(b:Nat)(c:AOp):AI:= .call a (wH b c)
@[reducible] def xS:CO:=wT 4
@[reducible] def xT(a b c:Nat):CO:=xg a b c qU
@[reducible] def xU(a b:Nat):RV:= .c a (some b)
@[reducible] def xV(a b:Nat):CO:=qq a 3 b
@[reducible] def xW(a b c:Nat):CO:=xi a b wz c
@[reducible] def xX(a:List CO)(b:Nat)(c:List CO)(d:Nat)(e:AK)(f:Nat)(g:AK)(h:List CO):AK:=wR a b (xF c d e f g h)
@[reducible] def xY(a:Nat)(b:FuncId)(c:Nat)(d:Int):CO:=wI a b c (qj d)
@[reducible] def xZ(a:AK)(b:List CO):AK:= .seq a (qA b)
@[reducible] def x7(a:Nat):CO:=qg 6 a
@[reducible] def x8(a b:Nat):CO:=wF a b 1
@[reducible] def x9(a:List AOp):AI:= .call js a
@[reducible] def ya(a b:List CO):AK:=qe a (.reg b)
@[reducible] def yb(a b c:Nat):CO:=wg (some a) b c
@[reducible] def yc(a b:Nat)(c:Int):CO:=xY a gO b c
@[reducible] def yd:List AV:=[.nils]
@[reducible] def ye(a:Nat):CO:=qg a 8
@[reducible] def yf(a b:Nat):CO:=qH a 4 b
@[reducible] def yg(a b:Nat)(c:Int):CO:=xY a cn b c
@[reducible] def yh(a b:Nat):Nat × Nat × AOp:=wD 0 a b
@[reducible] def yi:AOp:=qj 0
@[reducible] def yj(a:Int):Nat × Nat × AOp:=xe 0 a
@[reducible] def yk(a b:Nat)(c:AOp):CO:=wx a (wH b c)
@[reducible] def yl(a:Nat):CO:=qg a 7
@[reducible] def ym(a:List CO)(b:AK):AK:= .cut (.reg a) b
@[reducible] def yn(a b:List CO)(c:Nat)(d:List CO)(e:AK):AK:=qN a (wh b c d) e
@[reducible] def yp(a:BinOp)(b:Nat)(c:AOp):AI:= .bins a (.t b) c
@[reducible] def yq:CO:=wK 2
@[reducible] def yr(a b:Nat):List (Nat × Nat × AOp):=[yh a b]
@[reducible] def yt(a b:Nat)(c:List AV)(d e f:Nat):CO:=qX a b c d (yr e f)
@[reducible] def yu(a b:Nat)(c:BinOp)(d:Nat)(e:Int):CO:=qL a b (wS c d e)
@[reducible] def yv(a b:Nat)(c:List UInt8):Nat × Nat × AOp:=(a,b,wP c)
@[reducible] def yw(a:Nat)(b:List UInt8):Nat × Nat × AOp:=yv a 1 b
@[reducible] def yx(a:Nat):CO:=qg a 6
@[reducible] def yy(a b c d:Nat):CO:=xQ a bi b c d
def oY:FK:=⟨15,[.t 6],xc [wK 6] [qZ 7,xj 8,ws 9 .geq 7 8,qg 10 9,xC 11 10 0,xC 12 10 2,qK 13 10 (ql .leq 11 (.t 12)),xT 14 10 13,x7 14]⟩
theorem FA:ag Tryz.prog js=some oY:=by kernel_rfl
def pq:FK:=⟨18,[xw],xa [xS] (xX [wT 5] 0 [xu 6,qZ 7,qb 8 (.len true (.t 7)),xb 9 6 8] 9 wA 1 (wh [qZ 12,xu 13,qb 14 (.idxStr (.t 12) (.t 13)),xj 15,ws 16 .eql 14 15] 16 (wV (xu 17) 4 17)) [xu 10,x8 11 10,qg 5 11]) [qI 4 (-1)]⟩
theorem zQ:ag Tryz.prog ll=some pq:=by kernel_rfl
def pg:FK:=⟨28,[xJ],xa [wT 2] (.blk 0 (qC [qZ 4,qr 5 .geq 4 (.c (qf .u8 97)),xu 6,xC 7 6 0,qK 8 6 (ql .leq 7 (.c (qf .u8 122))),xT 9 6 8,qg 3 9] 3 (qA [qI 2 1]) (qC [qZ 11,qr 12 .geq 11 (.c (qf .u8 48)),qg 13 12,xC 14 13 0,qK 15 13 (ql .leq 14 (.c (qf .u8 57))),xT 16 13 15,qg 10 16] 10 (qA [qI 2 2]) (qC [qZ 18,qp 19 ll [wP [40,41,123,125,59,44,43,45,42,47,37,60,61,38,33,64],.t 18],qy 20 .geq 19 0,qg 17 20] 17 (qA [qI 2 3]) (wh [qZ 22,qr 23 .eql 22 (.c (qf .u8 32)),qg 24 23,xy 25 24 0,qL 26 24 (ql .eql 25 (.c (qf .u8 10))),xW 27 24 26,qg 21 27] 21 [qI 2 4]))))) [wT 2]⟩
theorem Au:ag Tryz.prog la=some pg:=by kernel_rfl
def uk:FK:=⟨21,[xw],xa [xo] (xX [wT 5] 0 [xu 6,qZ 7,qb 8 (.len true (.t 7)),xb 9 6 8] 9 wA 1 (wh [qZ 12,xu 13,qb 14 (.idxStr (.t 12) (.t 13)),xr 15 la 14,xj 16,ws 17 .neq 15 16] 17 [xo]) [xu 10,x8 11 10,qg 5 11]) [qZ 18,qb 19 (.len true (.t 18)),qy 20 .gtr 19 0,qg 4 20]⟩
theorem CE:ag Tryz.prog no=some uk:=by kernel_rfl
def nQ:FK:=⟨2,[.t 0],xc [xz 0 .nils] (wV (qX 1 1 [qF] 9 [yw 0 [102,110],yw 1 [108,101,116],yw 2 [115,97,121],yw 3 [112,117,116],yw 4 [105,102],yw 5 [101,108,115,101],yw 6 [108,111,111,112],yw 7 [98,97,99,107],yw 8 [100,111]]) 0 1)⟩
theorem yM:ag Tryz.prog fZ=some nQ:=by kernel_rfl
def tc:FK:=⟨18,[xJ],qe [yq] (xa (wV (qp 5 fZ []) 3 5) (xX [xS] 0 [x7 4,qg 7 3,wt 8 7,xb 9 6 8] 9 wA 1 (wh [qg 12 3,qg 13 4,wB 14 1 12 13,qv 15 14,qZ 16,qb 17 (yp .eql 15 (.t 16))] 17 [qd 2 wz]) [qg 10 4,x8 11 10,qg 4 11]) [yq])⟩
theorem Ds:ag Tryz.prog nO=some tc:=by kernel_rfl
def si:FK:=⟨15,[xJ],xc [yq] [qZ 3,xY 4 no 3 1,qg 5 4,xC 6 5 0,qK 7 5 (.len true (.t 6)),xM 8 5 .leq 7 4,xT 9 5 8,qg 10 9,xC 11 10 0,qK 12 10 (.call nO (xq 11)),qK 13 10 (wq 12),xT 14 10 13,qg 2 14]⟩
theorem BJ:ag Tryz.prog cC=some si:=by kernel_rfl
def mN:FK:=⟨5,[xJ],xa [wT 2] (wh [qZ 3,wb 4 3 4] 4 [qI 2 2]) [qI 2 1]⟩
theorem Br:ag Tryz.prog jd=some mN:=by kernel_rfl
def dg:FK:=⟨13,[xJ,.t 3],xa [wT 2,wT 3] (qe [qZ 4] (.blk 0 (wM (wW 6 4 1 5 6) 5 (.reg (wW 7 4 2 5 7)) (qo 5 (qA [wT 2,wT 3]) (wM (wW 9 4 11 8 9) 8 (.reg (wW 10 4 12 8 10)) (qo 8 (qA [qI 2 1,qI 3 1]) (wh (wW 12 4 13 11 12) 11 [wT 2,qI 3 3]))))))) [qI 2 2,qI 3 2]⟩
theorem By:ag Tryz.prog jp=some dg:=by kernel_rfl
def jk:FK:=⟨86,[xw],qe [wG 2 4 0,xo] (yn [wQ 10 2,qv 11 10,xr 12 jp 11,qg 9 12,wN 13 0 9,wN 14 1 9,qg 5 13,x7 14] [xj 15,qy 16 .lss 15 1,qg 17 16,xE 18 17 0 2,xA 19 17 18,qL 20 17 (x9 (xN 19 (qj 1) (qj 13))),qL 21 17 (wq 20),xW 22 17 21,qg 23 22,xE 24 23 3 2,xA 25 23 24,qL 26 23 (wd 25),xy 27 23 5,xy 28 23 6,qL 29 23 (x9 (xP 26 27 28)),qL 30 23 (wq 29),xW 31 23 30] 31 [xo] (yn [wQ 32 2,qv 33 32,wb 34 33 2,qg 35 34,xE 36 35 0 2,xA 37 35 36,yu 38 35 .eql 37 13,xW 39 35 38,qg 7 39] [yl 40,xv 41 2,qv 42 41,xr 43 cC 42,qb 44 (.beq true (.t 40) (.t 43)),qg 45 44,xy 46 45 7,qL 47 45 (wq 46),xy 48 45 47,wY 49 48 2 2,wU 50 48 49,qK 51 48 (yp .neq 50 (.c qF)),qL 52 45 (qQ 48 (.t 51) qU),xW 53 45 52,qg 54 53,xE 55 54 1 2,xA 56 54 55,qL 57 54 (x9 (xN 56 yi (qj 255))),qL 58 54 (wq 57),xW 59 54 58,qg 60 59,xE 61 60 0 2,xA 62 60 61,yu 63 60 .neq 62 1,xy 64 60 63,wY 65 64 1 2,wU 66 64 65,xM 67 64 .neq 66 0,qL 68 60 (qQ 64 (.t 67) qU),xW 69 60 68] 69 [xo] (xZ (xX [wT 8] 0 [ye 70,xV 71 2,qv 72 71,wt 73 72,xb 74 70 73] 74 wA 1 (wh [xV 77 2,qv 78 77,ye 79,wB 80 4 78 79,yf 81 80,xj 82,xG 83 82 1,wJ 84 fT 81 83,xn 85 84] 85 [xo]) [ye 75,x8 76 75,qg 8 76]) [qd 4 wz])))⟩
theorem sh:ag Tryz.prog fT=some jk:=by kernel_rfl
def ph:FK:=⟨21,[xJ],qe [wG 1 4 0,wT 2] (xa [qI 3 1] (xX [xS] 0 [qg 5 4,xV 6 1,qv 7 6,wt 8 7,xb 9 5 8] 9 wA 1 (.reg [qg 12 3,xV 13 1,qv 14 13,qg 15 4,wB 16 4 14 15,yf 17 16,xr 18 gV 17,ws 19 .add 12 18,qg 3 19]) [qg 10 4,x8 11 10,qg 4 11]) (wV (qg 20 3) 2 20))⟩
theorem zF:ag Tryz.prog gV=some ph:=by kernel_rfl
def mR:FK:=⟨10,[xJ],xc [wG 1 4 0,yq] [yf 3 1,xY 4 fT 3 6,qg 5 4,qK 6 5 (qk (some 4) 1),qK 7 5 (.call gV (xq 6)),xM 8 5 .leq 7 30,xT 9 5 8,qg 2 9]⟩
theorem vj:ag Tryz.prog fc=some mR:=by kernel_rfl
def jm:FK:=⟨108,[xw],yn [wG 2 5 0,xo] [xj 7,qy 8 .lss 7 1,ye 9,xE 10 9 0 2,xA 11 9 10,qL 12 9 (x9 (xN 11 (qj 1) (qj 8))),qL 13 9 (wq 12),xW 14 9 13,qg 15 14,xE 16 15 2 2,xE 19 15 0 2,xA 17 15 16,qL 18 15 (wd 17),xA 20 15 19,qL 21 15 (.qcall jd (xq 20)),qL 22 15 (ql .neq 18 (.t 21)),xW 23 15 22] 23 [xo] (yn [wQ 24 2,qv 25 24,wb 26 25 1,qg 27 26,xE 28 27 0 2,xA 29 27 28,yu 30 27 .eql 29 2,xW 31 27 30,qg 5 31] [xu 32,xI 33 2,qv 34 33,xr 35 cC 34,qb 36 (.beq true (.t 32) (.t 35)),qg 37 36,xy 38 37 5,qL 39 37 (wq 38),xy 40 37 39,wY 41 40 1 2,wU 42 40 41,qK 43 40 (yp .neq 42 (.c qF)),qL 44 37 (qQ 40 (.t 43) qU),xW 45 37 44] 45 [xo] (.seq (xX [wT 6] 0 [yx 46,xv 47 2,qv 48 47,wt 49 48,xb 50 46 49] 50 wA 1 (wh [xv 53 2,qv 54 53,yx 55,wB 56 4 54 55,yf 57 56,xr 58 fc 57,xn 59 58] 59 [xo]) [yx 51,x8 52 51,x7 52]) (.seq (wh [wQ 60 2,qv 61 60,wb 62 61 8,qg 63 62,wY 64 63 2 2,wU 65 63 64,qK 66 63 (qW 4 65 yi),wY 67 63 0 66,wU 68 63 67,xM 69 63 .neq 68 13,xT 70 63 69] 70 [xo]) (xZ (wh [qq 71 4 2,qv 72 71,wt 73 72,qy 74 .gtr 73 0,qg 75 74,wY 76 75 0 2,wU 77 75 76,xM 78 75 .neq 77 5,xT 79 75 78,qg 80 79,xE 81 80 3 2,xA 82 80 81,qL 83 80 (wd 82),yu 84 80 .gtr 83 0,xy 85 80 84,wY 86 85 0 2,wU 87 85 86,xM 88 85 .neq 87 5,qL 89 80 (qQ 85 (.t 88) qU),xy 90 80 89,wY 91 90 0 2,wU 92 90 91,xM 93 90 .neq 92 6,qL 94 80 (qQ 90 (.t 93) qU),xW 95 80 94] 95 [xo]) [xV 96 2,qv 97 96,xj 98,xG 99 98 1,wJ 100 bY 97 99,qg 101 100,wY 102 101 4 2,wU 103 101 102,xC 104 101 1,xM 105 101 .sub 104 1,qK 106 101 (xR bY 103 (.t 105)),xT 107 101 106,qg 4 107]))))⟩
theorem se:ag Tryz.prog jn=some jm:=by kernel_rfl
def oG:FK:=⟨19,[xw],xa [xo] (xX [wT 5] 0 [xu 6,qZ 7,wt 8 7,xb 9 6 8] 9 wA 1 (wh [qZ 12,xu 13,wB 14 5 12 13,qH 15 5 14,xj 16,wJ 17 jn 15 16,xn 18 17] 18 [xo]) [xu 10,x8 11 10,qg 5 11]) [qd 4 wz]⟩
theorem zO:ag Tryz.prog bY=some oG:=by kernel_rfl
def vI:FK:=⟨32,[xJ],xa [wG 1 3 0,yq] (xX [wT 3] 0 [qg 4 3,xI 5 1,qv 6 5,wt 7 6,xb 8 4 7] 8 wA 1 (wh [xI 11 1,qv 12 11,qg 13 3,wB 14 1 12 13,qv 15 14,xr 16 cC 15,xn 17 16] 17 [yq]) [qg 9 3,x8 10 9,qg 3 10]) [wQ 18 1,qv 19 18,xr 20 cC 19,qg 21 20,wY 22 21 1 1,wU 23 21 22,qK 24 21 (wd 23),xM 25 21 .leq 24 3,xT 26 21 25,qg 27 26,wY 28 27 2 1,wU 29 27 28,qK 30 27 (xR bY 29 (qj 4)),xT 31 27 30,qg 2 31]⟩
theorem Fi:ag Tryz.prog oy=some vI:=by kernel_rfl
def lE:FK:=⟨29,[xJ],qe [wT 2] (xa [qZ 5,wt 6 5,yx 3] (xX [xS] 0 [qg 7 4,qZ 8,wt 9 8,xb 10 7 9] 10 wA 1 (.reg [qg 13 3,qZ 14,qg 15 4,wB 16 5 14 15,xV 17 16,qZ 21,qg 22 4,wB 23 5 21 22,qq 24 4 23,qv 18 17,qv 25 24,xr 19 eK 18,wX 24 25,ws 20 .add 13 19,xr 26 eK 25,ws 27 .add 20 26,qg 3 27]) [qg 11 4,x8 12 11,qg 4 12]) (wV (qg 28 3) 2 28))⟩
theorem oH:ag Tryz.prog eK=some lE:=by kernel_rfl
def tD:FK:=⟨22,[xJ],qe [wG 1 1 0,wT 2] (xa [wT 3] (xX [xS] 0 [qg 5 4,wQ 6 1,qv 7 6,wt 8 7,xb 9 5 8] 9 wA 1 (.reg [qg 12 3,wQ 13 1,qv 14 13,qg 15 4,wB 16 3 14 15,xv 17 16,qv 18 17,xr 19 eK 18,ws 20 .add 12 19,qg 3 20]) [qg 10 4,x8 11 10,qg 4 11]) (wV (qg 21 3) 2 21))⟩
theorem DA:ag Tryz.prog nH=some tD:=by kernel_rfl
def kb:FK:=⟨26,[xJ],yn [wG 1 1 0,yq] [wQ 4 1,qv 5 4,wt 6 5,qp 7 js (xN 6 (qj 1) (qj 4)),xn 8 7] 8 [yq] (xZ (xX [wT 3] 0 [qg 9 3,wQ 10 1,qv 11 10,wt 12 11,xb 13 9 12] 13 wA 1 (wh [wQ 16 1,qv 17 16,qg 18 3,wB 19 3 17 18,qH 20 3 19,xr 21 oy 20,xn 22 21] 22 [yq]) [qg 14 3,x8 15 14,qg 3 15]) [qH 23 1 1,xr 24 nH 23,qy 25 .leq 24 40,qg 2 25])⟩
theorem rv:ag Tryz.prog dw=some kb:=by kernel_rfl
def vJ:FK:=⟨22,[xw],xa [wG 2 1 0,xS] (xX [wT 5] 0 [xu 6,wQ 7 2,qv 8 7,wt 9 8,xb 10 6 9] 10 wA 1 (wh [wQ 13 2,qv 14 13,xu 15,wB 16 3 14 15,wQ 17 16,qv 18 17,xj 19,qb 20 (yp .eql 18 (.t 19))] 20 (wV (xu 21) 4 21)) [xu 11,x8 12 11,qg 5 12]) [qI 4 (-1)]⟩
theorem EX:ag Tryz.prog jt=some vJ:=by kernel_rfl
def gy:FK:=⟨13,[],xm [qZ 4,qV 5 4,qq 6 4 5,qv 7 6,wb 8 7 0] 8 [qZ 9,xj 10,qV 11 9,qq 12 4 11,xt 12 10]⟩
theorem sr:ag Tryz.prog bz=some gy:=by kernel_rfl
def gh:FK:=⟨27,[xw],xa [xS] (xX [qZ 6,qV 7 6,xv 8 7,qv 9 8,wt 10 9,xG 11 10 1,qg 5 11] 0 [xu 12,qy 13 .geq 12 0] 13 wA 1 (wh [qZ 16,qV 17 16,xv 18 17,qv 19 18,xu 20,wB 21 3 19 20,wQ 22 21,qv 23 22,xj 24,qb 25 (yp .eql 23 (.t 24))] 25 (wV (xu 26) 4 26)) [xu 14,xG 15 14 1,qg 5 15]) [qI 4 (-1)]⟩
theorem sA:ag Tryz.prog dQ=some gh:=by kernel_rfl
def ry:FK:=⟨11,[xJ],qe [xz 2 qF] (xc [qZ 4,qy 5 .rem 4 26,xu 3] [x7 3,qg 7 3,x8 8 7,qb 9 (.slStr (wP [97,98,99,100,101,102,103,104,105,106,107,108,109,110,111,112,113,114,115,116,117,118,119,120,121,122]) (some (.t 6)) (some (.t 8))),qb 10 (.bins .add (wP [118]) (.t 9)),qg 2 10])⟩
theorem Bu:ag Tryz.prog ja=some ry:=by kernel_rfl
def iu:AK:=xD [xz 6 qF] [qZ 8,xj 9,wJ 10 dQ 8 9,qg 7 10] (.cut (xm [yl 11,qy 12 .geq 11 0,qg 13 12,xC 14 13 0,qK 15 13 (qw 14),wY 16 13 2 15,wU 17 13 16,xC 18 13 7,qK 19 13 (qW 3 17 (.t 18)),wY 20 13 2 19,wU 21 13 20,xC 22 13 2,qK 23 13 (ql .eql 21 (.t 22)),xT 24 13 23] 24 [qZ 25,xY 26 bz 25 2]) (qe [qZ 27,qZ 28,qV 29 28,xv 30 29,xj 32,qZ 33,qV 34 33,xV 35 34,xx 37,qv 31 30,qv 36 35,wl 38 [qF,qB,qB] [xk 0 32,xk 1 36,xk 2 37],xK 39 3 [qF,qB,qB] 1 (yr 3 38),xh 40 3 32 31 39,qV 41 27,xv 42 41,xt 42 40] (xc [qZ 43,qZ 44,qV 45 44,xV 46 45,qv 47 46,x8 48 47,qV 49 43,xV 50 49,xt 50 48] [qZ 51,qV 52 51,xV 53 52,qv 54 53,xG 55 54 1,xr 56 ja 55,x7 56])))
def iv:FK:=⟨57,[.t 6],(AK.whole iu)⟩
theorem ty:ag Tryz.prog eD=some iv:=by kernel_rfl
def ma:FK:=⟨23,[xw],qe [xz 4 qF] (xa [qZ 6,xj 7,wJ 8 dQ 6 7,ye 5] (qO [xu 9,qy 10 .lss 9 0] 10 (xc [qZ 11,xY 12 bz 11 3] (wV (xj 13) 4 13))) [qZ 14,qV 15 14,xv 16 15,qv 17 16,xu 18,wB 19 3 17 18,xI 20 19,qv 21 20,xr 22 ja 21,qg 4 22])⟩
theorem ua:ag Tryz.prog eB=some ma:=by kernel_rfl
def gn:AK:=qe [wG 3 4 1,qY 4 [qB,qB,qF,.nils]] (.cut (xm [wQ 8 3,qv 9 8,wb 10 9 2] 10 [qZ 11,xv 12 3,qv 13 12,wJ 14 eB 11 13,xv 15 3,xt 15 14]) (.cut (qO [wQ 16 3,qv 17 16,wb 18 17 13] 18 (qe [qZ 19,qV 20 19,wQ 21 20,xv 23 3,qH 22 1 21,qv 24 23,wJ 25 jt 22 24,qg 5 25] (qC [xu 26,qy 27 .lss 26 0,qg 28 27,xy 29 28 5,xy 30 28 0,qL 31 28 (qw 30),xE 32 28 1 31,xA 33 28 32,qL 34 28 (ql .geq 29 (.t 33)),xW 35 28 34] 35 (.reg [qZ 36,xY 37 bz 36 4]) (xm [qZ 38,qV 39 38,wQ 40 39,wQ 41 40,xu 43,xV 48 3,qv 42 41,wB 44 3 42 43,xI 45 44,qv 46 45,wt 47 46,qv 49 48,wt 50 49,ws 51 .neq 47 50] 51 [qZ 52,xY 53 bz 52 5])))) (qN (wV (qX 54 4 [qB,qB,qF,.nils] 0 []) 6 54) (xX [wT 7] 0 [yl 55,xV 56 3,qv 57 56,wt 58 57,xb 59 55 58] 59 wA 1 (.reg [yx 62,qZ 63,xV 64 3,qv 65 64,yl 66,wB 67 4 65 66,yf 68 67,wJ 69 cI 63 68,yt 70 4 [qB,qB,qF,.nils] 1 4 69,xh 71 4 56 62 70,x7 71]) [yl 60,x8 61 60,qg 7 61]) (xc [yx 72,xV 73 3,xt 73 72] [yf 74 3,qT 4 4 74]))))
def gi:FK:=⟨75,[xU 4 4],(AK.whole gn)⟩
theorem sP:ag Tryz.prog cI=some gi:=by kernel_rfl
def fx:AK:=xD [xz 6 .nils] (wV (qX 13 5 [qB,qF,.nils,.nils,.nils] 0 []) 7 13) (qN [qZ 14,qV 15 14,xv 16 15,qv 17 16,wt 18 17,qg 8 18] (xX [wT 9] 0 [qg 19 9,xj 20,wt 21 20,xb 22 19 21] 22 wA 1 (qe [xj 25,qg 26 9,wB 27 5 25 26,qH 28 5 27,qY 10 [qB,qF,.nils,.nils,.nils],qT 5 10 28] (qN (wV (qX 29 4 [qB,qB,qF,.nils] 0 []) 11 29) (xX [wT 12] 2 [qg 30 12,xv 31 10,qv 32 31,wt 33 32,xb 34 30 33] 34 (.exit 2) 3 (.reg [qg 37 11,qZ 38,xv 39 10,qv 40 39,qg 41 12,wB 42 4 40 41,yf 43 42,wJ 44 cI 38 43,yt 45 4 [qB,qB,qF,.nils] 1 4 44,xh 46 4 56 37 45,qg 11 46]) [qg 35 12,x8 36 35,qg 12 36]) (ym [qg 47 11,xv 48 10,xt 48 47] (.cut (xm [wQ 49 10,qv 50 49,wb 51 50 1] 51 [qZ 52,xI 53 10,qv 54 53,xx 55,xQ 56 eD 52 54 55,xI 57 10,xt 57 56]) (.cut (xm [wQ 58 10,qv 59 58,wb 60 59 2] 60 [qZ 61,xI 62 10,qv 63 62,wJ 64 eB 61 63,xI 65 10,xt 65 64]) (xD [qZ 66,xV 67 10,qv 68 67,xx 69,x8 70 69,xQ 71 cw 66 68 70,xV 72 10,xt 72 71] [qZ 73,qq 74 4 10,qv 75 74,xx 76,x8 77 76,xQ 78 cw 73 75 77,qq 79 4 10,xt 79 78] (.reg [yl 80,qH 81 5 10,yt 82 5 [qB,qF,.nils,.nils,.nils] 1 5 81,xh 83 5 96 80 82,qg 7 83]))))))) [qg 23 9,x8 24 23,qg 9 24]) (.cut (xm [xx 84,qy 85 .gtr 84 0] 85 [qZ 86,qZ 87,qV 88 87,xv 89 88,qv 90 89,ye 91,qb 92 (.slS 3 (.t 90) none (some (.t 91))),qV 93 86,xv 94 93,xt 94 92]) (qA (wV (yl 95) 6 95))))
def ft:FK:=⟨96,[.t 6],(AK.whole fx)⟩
theorem rn:ag Tryz.prog cw=some ft:=by kernel_rfl
def oD:AK:=xD [wG 2 1 0,qY 4 [qF,.nils,.nils],wT 5,wT 6] [qH 11 1 2,xj 12,wl 13 [.nils,qB,.nils,qB,qB] [xk 0 11,xk 1 12],wG 14 5 13,qg 7 14] (ym [wQ 15 2,qv 16 15,xj 17,wB 18 3 16 17,qH 19 3 18,qY 8 [qF,.nils,.nils],qT 3 8 19] (.cut (xm [qH 20 1 2,wQ 21 8,qv 22 21,wJ 23 jt 20 22,xj 24,ws 25 .neq 23 24] 25 [yl 26,xY 27 bz 26 2]) (qN (wV (qX 28 1 [qF] 0 []) 9 28) (xX [wT 10] 0 [qg 29 10,xI 30 8,qv 31 30,wt 32 31,xb 33 29 32] 33 wA 1 (.reg [qg 36 9,yl 37,xI 38 8,qv 39 38,qg 40 10,wB 41 1 39 40,qv 42 41,qp 43 eD (xO 37 42 yi),qX 44 1 [qF] 1 [xk 0 43],xh 45 1 16 36 44,qg 9 45]) [qg 34 10,x8 35 34,qg 10 35]) (qe [qg 46 9,xI 47 8,xt 47 46] (xc [yl 48,xv 49 8,qv 50 49,qp 51 cw (xO 48 50 yi),xv 52 8,xt 52 51] [yl 54,qV 55 54,qq 56 4 55,yl 58,qV 59 58,xV 60 59,qH 53 3 8,qv 57 56,qv 61 60,qT 3 4 53,wX 56 57,wX 60 61,qg 5 57,x7 61])))))
def oM:FK:=⟨62,[xU 4 3,.t 5,.t 6],(AK.whole oD)⟩
theorem EA:ag Tryz.prog lO=some oM:=by kernel_rfl
def kh:FK:=⟨27,[xJ],yn [wG 1 1 0,wT 2] [qH 7 1 1,xr 8 dw 7,xn 9 8] 9 [qI 2 1] (xZ (xX [wT 3] 0 [qg 10 3,wQ 11 1,qv 12 11,wt 13 12,xb 14 10 13] 14 wA 1 (qe [qH 18 1 1,qg 19 3,wJ 20 lO 18 19,qg 17 20,wN 21 0 17,wN 22 1 17,wN 23 2 17,qY 4 [qF,.nils,.nils],qT 3 4 21,qg 5 22,x7 23] (wh [xu 24,qy 25 .neq 24 0] 25 (wV (xu 26) 2 26))) [qg 15 3,x8 16 15,qg 3 16]) [wT 2])⟩
theorem rh:ag Tryz.prog fH=some kh:=by kernel_rfl
def rA:FK:=⟨6,[xJ],xc [wG 1 1 0,yq] [qH 3 1 1,xr 4 fH 3,wb 5 4 0,xu 2]⟩
theorem Bs:ag Tryz.prog mA=some rA:=by kernel_rfl
def nP:FK:=⟨16,[xJ],xa [yq] (xX [wT 3] 0 [qg 4 3,qZ 5,wt 6 5,xb 7 4 6] 7 wA 1 (wh [qZ 10,qg 11 3,wB 12 1 10 11,qv 13 12,qp 14 js (xN 13 yi (qj 255)),xn 15 14] 15 [yq]) [qg 8 3,x8 9 8,qg 3 9]) [qd 2 wz]⟩
theorem yE:ag Tryz.prog jH=some nP:=by kernel_rfl
def rM:FK:=⟨26,[xw],xc [wG 2 1 0,xo] [qH 5 1 2,xr 6 mA 5,yx 7,xC 8 7 1,qK 9 7 (.call jH (xq 8)),xT 10 7 9,qg 11 10,xC 12 11 1,qK 13 11 (wd 12),wY 14 11 0 2,wU 15 11 14,wY 16 11 0 2,wU 17 11 16,qK 18 11 (wd 17),xM 19 11 .sub 18 1,qK 20 11 (qW 3 15 (.t 19)),wY 21 11 1 20,wU 22 11 21,qK 23 11 (wd 22),qK 24 11 (ql .eql 13 (.t 23)),xT 25 11 24,qg 4 25]⟩
theorem Bh:ag Tryz.prog jo=some rM:=by kernel_rfl
def iz:FK:=⟨17,[],qO [qZ 4,qV 5 4,qq 6 6 5,qv 7 6,xn 8 7] 8 (ya [qZ 9,xj 10,qV 11 9,xI 12 11,xI 13 12,xt 13 10] [qZ 14,qV 15 14,qq 16 6 15,qS 1 16 wz])⟩
theorem tt:ag Tryz.prog cb=some iz:=by kernel_rfl
def gF:FK:=⟨17,[],wc (wh [qZ 2,qV 3 2,qq 4 5 3,qv 5 4,wb 6 5 0] 6 [qZ 7,xY 8 cb 7 3]) [qZ 9,qZ 10,qV 11 10,qq 12 5 11,qv 13 12,xG 14 13 1,qV 15 9,qq 16 5 15,xt 16 14]⟩
theorem tk:ag Tryz.prog ey=some gF:=by kernel_rfl
def tz:FK:=⟨20,[xw],xa [xS] (xX [qZ 6,wt 7 6,xG 8 7 1,ye 5] 0 [xu 9,qy 10 .geq 9 0] 10 wA 1 (wh [qZ 13,xu 14,wB 15 1 13 14,qv 16 15,xj 17,qb 18 (yp .eql 16 (.t 17))] 18 (wV (xu 19) 4 19)) [xu 11,xG 12 11 1,qg 5 12]) [qI 4 (-1)]⟩
theorem CS:ag Tryz.prog kq=some tz:=by kernel_rfl
def lS:FK:=⟨67,[.t 6],xD [wG 4 4 1,wT 6] [xz 7 .any,qZ 10,qV 11 10,wQ 12 11,wQ 13 12,qZ 15,qV 16 15,wQ 17 16,xv 19 4,qv 14 13,qH 18 1 17,qv 20 19,wJ 21 jt 18 20,wX 13 14,wB 22 3 14 21,qH 23 3 22,qY 7 [qF,.nils,.nils],qT 3 7 23] (qN [qX 24 1 [qF] 0 [],xI 25 7,qv 26 25,xh 27 1 16 24 26,wl 28 [.nils,.nils,qz,qB] [xk 0 27],wG 29 4 28,qg 8 29] (xX [wT 9] 0 [qg 30 9,xV 31 4,qv 32 31,wt 33 32,xb 34 30 33] 34 wA 1 (.reg [ye 37,ye 38,qV 39 38,xI 40 39,qZ 42,xV 43 4,qg 45 9,xx 48,qv 41 40,qv 44 43,wB 46 4 44 45,yf 47 46,yy 49 42 47 48,wX 40 41,xK 50 1 [qB] 1 [xk 0 49],xh 51 1 8 41 50,qV 52 37,xI 53 52,xt 53 51]) [qg 35 9,x8 36 35,qg 9 36]) (xa [qZ 54,xv 55 7,qv 56 55,ye 57,xQ 58 aK 54 56 57] (wh [qZ 59,qV 60 59,qq 61 6 60,qv 62 61] 62 [wT 6]) [ye 63,qV 64 63,xV 65 64,qv 66 65,x7 66]))⟩
theorem tU:ag Tryz.prog eC=some lS:=by kernel_rfl
def oQ:FK:=⟨4,[xJ],xa [wT 2] (wh [qZ 3] 3 [qI 2 1]) [wT 2]⟩
theorem zR:ag Tryz.prog dD=some oQ:=by kernel_rfl
def ug:FK:=⟨50,[.t 6,.t 7],qN [wT 6,wT 7] (qe [qZ 8] (.blk 0 (xp 10 8 3 9 10 9 (qA [xj 11,xx 12,ws 13 .add 11 12,qy 14 .rem 13 256,x7 14,wT 7]) (xp 16 8 4 15 16 15 (qA [xj 17,xx 18,ws 19 .sub 17 18,wF 20 19 256,qy 21 .rem 20 256,x7 21,wT 7]) (xp 23 8 5 22 23 22 (qA [xj 24,xx 25,ws 26 .mul 24 25,qy 27 .rem 26 256,x7 27,wT 7]) (xp 29 8 8 28 29 28 (qA [xj 30,xx 31,xb 32 30 31,xr 33 dD 32,x7 33,wT 7]) (wh (wW 35 8 9 34 35) 34 [xj 36,xx 37,ws 38 .eql 36 37,xr 39 dD 38,x7 39,wT 7]))))))) (.seq (wh [xx 40,wb 41 40 0] 41 [wT 6,qI 7 1]) (xZ (wh [qZ 42,wb 43 42 6] 43 [xj 44,xx 45,ws 46 .quo 44 45,x7 46,wT 7]) [xj 47,xx 48,ws 49 .rem 47 48,x7 49,wT 7]))⟩
theorem DF:ag Tryz.prog nG=some ug:=by kernel_rfl
def aD:FK:=⟨108,[.t 6],yn [wG 4 4 1,wT 6] [qZ 11,qV 12 11,qq 13 6 12,qv 14 13] 14 [wT 6] (.seq (qe [wQ 15 4,qv 16 15] (.blk 0 (xp 18 16 1 17 18 17 (qA [xI 19 4,qv 20 19,x7 20]) (xp 22 16 2 21 22 21 (qA [xx 23,qV 24 23,xI 25 24,xx 27,qV 28 27,wQ 29 28,xv 31 4,qv 26 25,qv 30 29,qv 32 31,wJ 33 kq 30 32,wX 25 26,wB 34 1 26 33,qv 35 34,x7 35]) (wh (wW 37 16 13 36 37) 36 [qZ 38,yf 39 4,xx 40,xQ 41 eC 38 39 40,x7 41]))))) (qN [qZ 42,xV 43 4,qv 44 43,wu 45 4 44 yi,yf 46 45,xx 47,yy 48 42 46 47,qg 7 48] (qe [wQ 49 4,qv 50 49] (.blk 1 (xp 52 50 11 51 52 51 (qA [yl 53,wb 54 53 0,xr 55 dD 54,x7 55]) (xp 57 50 12 56 57 56 (xZ (qO [yl 58,qy 59 .geq 58 16] 59 (xc [qZ 60,xY 61 cb 60 2] [wT 6])) [qZ 62,qV 63 62,xI 64 63,xV 65 64,qv 66 65,yl 67,wB 68 1 66 67,qv 69 68,x7 69]) (qO (wW 71 50 10 70 71) 70 (xZ (wh [yl 72,wb 73 72 0] 73 [wT 6]) [qZ 74,xV 75 4,qv 76 75,wu 77 4 76 (qj 1),yf 78 77,xx 79,yy 80 74 78 79,qy 81 .neq 80 0,xr 82 dD 81,x7 82])))))) (yn [qZ 83,xV 84 4,qv 85 84,wu 86 4 85 (qj 1),yf 87 86,xx 88,yy 89 83 87 88,qg 8 89] [qZ 90,qV 91 90,qq 92 6 91,qv 93 92] 93 [wT 6] (xa [wQ 95 4,qv 96 95,yl 97,ye 98,xQ 99 nG 96 97 98,qg 94 99,wN 100 0 94,wN 101 1 94,qg 9 100,qg 10 101] (xm [qg 102 10,qy 103 .neq 102 0] 103 [qZ 104,qg 105 10,wJ 106 cb 104 105]) (wV (qg 107 9) 6 107)))))⟩
theorem gG:ag Tryz.prog bi=some aD:=by kernel_rfl
def lQ:FK:=⟨41,[],wR [wG 5 5 1] 0 (wM [xx 8,qy 9 .neq 8 0,qg 10 9,xC 11 10 0,qK 12 10 (qw 11),wY 13 10 6 12,wU 14 10 13,qK 15 10 (wq 14),xT 16 10 15] 16 wA (.blk 1 (qN [qZ 17,xV 18 5,qv 19 18,qg 20 3,xQ 21 aK 17 19 20] (qO [qZ 22,qV 23 22,qq 24 6 23,qv 25 24,qg 26 25,xy 27 26 3,qL 28 26 (qw 27),xE 29 26 2 28,xA 30 26 29,xW 31 26 30] 31 .ret) (ya [qZ 32,xr 33 ey 32] [qZ 34,xv 35 5,qv 36 35,wu 37 4 36 yi,yf 38 37,qg 39 3,yy 40 34 38 39,qg 2 40]))))⟩
theorem uE:ag Tryz.prog ig=some lQ:=by kernel_rfl
def md:FK:=⟨127,[],xD [wG 4 5 1] [qZ 8,xv 9 4,qv 10 9,wu 11 4 10 yi,yf 12 11,xx 13,yy 14 8 12 13,x7 14] (qN [wT 7] (xm [wQ 15 4,qv 16 15,wb 17 16 4] 17 [qZ 18,xv 19 4,qv 20 19,wu 21 4 20 (qj 1),yf 22 21,xx 23,yy 24 18 22 23,qg 7 24]) (.seq (qO [qZ 25,qV 26 25,qq 27 6 26,qv 28 27] 28 .ret) (qe [wQ 29 4,qv 30 29] (.blk 0 (xp 32 30 1 31 32 31 (ya [xx 33,xx 34,qV 35 34,wQ 36 35,xI 38 4,qv 37 36,qv 39 38,xK 40 1 [qF] 1 [xk 0 39],xh 41 1 16 37 40,qV 42 33,wQ 43 42,xt 43 41] [xx 44,xx 45,qV 46 45,xI 47 46,qv 48 47,yx 49,qX 50 1 [qB] 1 [xk 0 49],xh 51 1 8 48 50,qV 52 44,xI 53 52,xt 53 51]) (xp 55 30 2 54 55 54 (.reg [xx 56,qV 57 56,xI 58 57,xx 60,qV 61 60,wQ 62 61,xI 64 4,yx 67,qv 59 58,qv 63 62,qv 65 64,wJ 66 kq 63 65,wX 58 59,wB 68 1 59 66,xt 68 67]) (xp 70 30 3 69 70 69 (.reg [qZ 71,qZ 72,qV 73 72,xI 74 73,wQ 75 74,qv 76 75,yx 77,qX 78 1 [qB] 1 [xk 0 77],xh 79 1 8 76 78,qV 80 71,xI 81 80,wQ 82 81,xt 82 79]) (xp 84 30 4 83 84 83 (wc (wh [yx 85,qy 86 .geq 85 16] 86 [qZ 87,xY 88 cb 87 2]) [qZ 89,qV 90 89,xI 91 90,xV 92 91,qv 93 92,yx 94,yl 95,wB 96 1 93 94,xt 96 95]) (xp 98 30 5 97 98 97 (qC [yx 99,qy 100 .neq 99 0] 100 (.reg [qZ 101,xV 102 4,qv 103 102,xx 104,xQ 105 aK 101 103 104]) (.reg [qZ 106,qq 107 4 4,qv 108 107,xx 109,xQ 110 aK 106 108 109])) (xp 112 30 6 111 112 111 (.reg [qZ 113,qH 114 5 4,yx 115,xx 116,qp 117 ig [.t 113,.t 114,.t 115,.t 116]]) (qO (wW 119 30 7 118 119) 118 (ya [xx 120,qV 121 120,xv 122 121,qS 1 122 wz] [xx 123,yx 124,qV 125 123,xV 126 125,xt 126 124]))))))))))))⟩
theorem tS:ag Tryz.prog ie=some md:=by kernel_rfl
def gk:FK:=⟨65,[],qN [xx 8,qV 9 8,wQ 10 9,qv 11 10,wt 12 11,x7 12] (xX [wT 7] 0 [yl 13,xj 14,wt 15 14,xb 16 13 15,qg 17 16,xC 18 17 0,qK 19 17 (qw 18),wY 20 17 6 19,wU 21 17 20,qK 22 17 (wq 21),xT 23 17 22,qg 24 23,xC 25 24 2,qK 26 24 (qw 25),wY 27 24 2 26,wU 28 24 27,qK 29 24 (wq 28),xT 30 24 29] 30 wA 1 (qe [qZ 33,xr 34 ey 33] (xm [qZ 35,qV 36 35,qq 37 6 36,qv 38 37,xn 39 38] 39 [qZ 40,xj 41,yl 42,wB 43 5 41 42,qH 44 5 43,xx 45,xQ 46 ie 40 44 45])) [yl 31,x8 32 31,qg 7 32]) (ya [xx 47,xx 48,qV 49 48,wQ 50 49,qv 51 50,yx 52,qb 53 (.slS 1 (.t 51) none (some (.t 52))),qV 54 47,wQ 55 54,xt 55 53] [xx 56,xx 57,qV 58 57,xI 59 58,qv 60 59,yx 61,qb 62 (.slS 1 (.t 60) none (some (.t 61))),qV 63 56,xI 64 63,xt 64 62])⟩
theorem lm:ag Tryz.prog aK=some gk:=by kernel_rfl
def vW:FK:=⟨61,[xU 6 4,.t 7],qN [wG 3 1 0,qY 6 [.nils,qB,qB,.nils],wT 7] (.ot (.one [] (.one [xx 12] (.one [qH 11 1 3] (.alt (.one [qX 13 1 [qB] 0 [],yb 1 3 11] (.alt (.one [qb 14 (.mks 1 8 [qB] (qj 16) (qj 16)),yb 1 3 11] (.one [wl 15 [.nils,qB,qB,.nils] [xk 0 13,xk 3 14]] (.one [wl 16 [.nils,.nils,qB,qB,.nils,qB,qz] [xk 0 11,xk 5 12,wD 1 4 15]] (.alt (.one [wG 17 7 16] (.one [qg 8 17] .done)) .tru)))) .tru)) (.alt (.one [qb 14 (.mks 1 8 [qB] (qj 16) (qj 16)),yb 1 3 11] (.alt (.one [qX 13 1 [qB] 0 [],yb 1 3 11] (.one [wl 15 [.nils,qB,qB,.nils] [xk 0 13,xk 3 14]] (.one [wl 16 [.nils,.nils,qB,qB,.nils,qB,qz] [xk 0 11,xk 5 12,wD 1 4 15]] (.alt (.one [wG 17 7 16] (.one [qg 8 17] .done)) .tru)))) .tru)) .tru)))))) (xD [wQ 18 3,qv 19 18,wQ 20 3,qv 21 20,wt 22 21,xG 23 22 1,wB 24 3 19 23,qH 25 3 24,qY 9 [qF,.nils,.nils],qT 3 9 25] [qX 26 1 [qF] 0 [],xI 27 9,qv 28 27,xh 29 1 16 26 28,qX 30 1 [qB] 0 [],xj 31,xh 32 1 8 30 31,wl 33 [.nils,.nils,qz,qB] [xk 0 29,xk 1 32],wG 34 4 33,qg 10 34] (xa [ye 35,xv 36 9,qv 37 36,qg 38 10,xQ 39 aK 35 37 38] (xm [ye 40,qV 41 40,qq 42 6 41,qv 43 42,xn 44 43] 44 [ye 45,qg 46 10,qV 47 46,xV 48 47,qv 49 48,qV 50 45,xI 51 50,xv 52 51,xt 52 49]) [ye 53,qV 54 53,xI 55 54,ye 57,qV 58 57,qq 59 5 58,yf 56 55,qv 60 59,qT 4 6 56,wX 59 60,qg 7 60]))⟩
theorem Fa:ag Tryz.prog jC=some vW:=by kernel_rfl
def mM:FK:=⟨22,[xw],yn [wG 2 1 0,xS] [qH 7 1 2,xj 8,wJ 9 jo 7 8,xn 10 9] 10 [qI 4 (-1)] (xa [qH 12 1 2,xj 13,qp 14 jC (xO 12 13 (qj 4000)),qg 11 14,wN 15 0 11,wN 16 1 11,qY 5 [.nils,qB,qB,.nils],qT 4 5 15,x7 16] (wh [xI 17 5,qv 18 17,wb 19 18 3] 19 [qI 4 (-1)]) [yx 20,qb 21 (.bin .sub (qj 4000) (.t 20)),qg 4 21])⟩
theorem sg:ag Tryz.prog eb=some mM:=by kernel_rfl
def mE:FK:=⟨15,[.t 6],xc [wK 6] [xj 7,qZ 8,ws 9 .leq 7 8,qg 10 9,xC 11 10 0,xC 12 10 2,qK 13 10 (ql .leq 11 (.t 12)),xT 14 10 13,x7 14]⟩
theorem BE:ag Tryz.prog dk=some mE:=by kernel_rfl
def ka:FK:=⟨21,[.t 6],xa [wT 6] (wR [qZ 9,qb 10 (.rngS (.t 9))] 0 (qN [qb 11 (.nxtS (.t 10)),wN 12 0 11] (xL 12 wA) (.blk 1 (qe [wN 13 1 11,wN 14 2 11,qg 7 13,qg 8 14] (wh [xj 15,ye 16,qb 17 (.callv (.t 15) (xq 16)),xx 18,qb 19 (.beq false (.t 17) (.t 18))] 19 (wV (yl 20) 6 20)))))) [qI 6 (-1)]⟩
theorem ra:ag Tryz.prog fy=some ka:=by kernel_rfl
def ke:FK:=⟨8,[xw],xc [xS] [qZ 5,xj 6,qp 7 fy (xO 5 6 wz),yl 4]⟩
theorem re:ag Tryz.prog fJ=some ke:=by kernel_rfl
def iH:FK:=⟨19,[xw],xa [xS] (wR [qZ 6,wt 7 6,wT 8] 0 (qN [xb 9 8 7] (xL 9 wA) (wy 1 (qe (wV (ye 10) 5 10) (wh [xj 11,qZ 12,xu 13,wB 14 1 12 13,qv 15 14,qb 16 (yp .eql 11 (.t 15))] 16 (wV (xu 17) 4 17))) (wV (x8 18 8) 8 18)))) [qI 4 (-1)]⟩
theorem nW:ag Tryz.prog eu=some iH:=by kernel_rfl
def fL:FK:=⟨9,[xw],xc [xo] [qZ 5,xj 6,wJ 7 eu 5 6,qy 8 .geq 7 0,ye 4]⟩
theorem mG:ag Tryz.prog dj=some fL:=by kernel_rfl
def nS:FK:=⟨9,[xJ],xc [yq] [qZ 3,qr 4 .lss 3 (.c (qf .i32 97)),qg 5 4,xy 6 5 0,qL 7 5 (ql .gtr 6 (.c (qf .i32 122))),xW 8 5 7,ye 2]⟩
theorem yG:ag Tryz.prog cY=some nS:=by kernel_rfl
def rG:FK:=⟨17,[xJ],xc [yq] [qZ 3,qb 4 (.len true (.t 3)),qp 5 dk (xN 4 (qj 1) (qj 4)),xu 6,xC 7 6 0,qK 8 6 (xR fJ 7 (.c (.fn (.func cY) []))),xM 9 6 .lss 8 0,xT 10 6 9,qg 11 10,qK 12 11 (.slA 9 1 (.c (.gp 1 0)) none none),xC 13 11 0,qK 14 11 (xR dj 12 (.t 13)),qK 15 11 (wq 14),xT 16 11 15,qg 2 16]⟩
theorem BG:ag Tryz.prog cA=some rG:=by kernel_rfl
def ff:FK:=⟨19,[xw],xa [xS] (wR [qZ 6,wt 7 6,wT 8] 0 (qN [xb 9 8 7] (xL 9 wA) (wy 1 (qe (wV (ye 10) 5 10) (wh [xj 11,qZ 12,xu 13,wB 14 1 12 13,qv 15 14,qb 16 (.callv (.t 11) (xq 15))] 16 (wV (xu 17) 4 17))) (wV (x8 18 8) 8 18)))) [qI 4 (-1)]⟩
theorem lK:ag Tryz.prog cW=some ff:=by kernel_rfl
def dS:FK:=⟨9,[xw],xc [xo] [qZ 5,xj 6,wJ 7 cW 5 6,qy 8 .geq 7 0,ye 4]⟩
theorem jJ:ag Tryz.prog cm=some dS:=by kernel_rfl
def dV:FK:=⟨19,[xw],xa [xS] (wR [qZ 6,wt 7 6,wT 8] 0 (qN [xb 9 8 7] (xL 9 wA) (wy 1 (qe (wV (ye 10) 5 10) (wh [xj 11,qZ 12,xu 13,wB 14 5 12 13,qH 15 5 14,qb 16 (.callv (.t 11) (xq 15))] 16 (wV (xu 17) 4 17))) (wV (x8 18 8) 8 18)))) [qI 4 (-1)]⟩
theorem jI:ag Tryz.prog ce=some dV:=by kernel_rfl
def dq:FK:=⟨9,[xw],xc [xo] [qZ 5,xj 6,wJ 7 ce 5 6,qy 8 .geq 7 0,ye 4]⟩
theorem iA:ag Tryz.prog bP=some dq:=by kernel_rfl
def br:FK:=⟨20,[xJ,.t 3,xw,.t 5],xa [wT 2,wK 3,xo,wK 5] (qe [qZ 6] (.blk 0 (wM (wW 8 6 1 7 8) 7 (.reg (wW 9 6 2 7 9)) (qo 7 (qA [qI 2 1,qd 3 wz,xo,wK 5]) (wM (wW 11 6 3 10 11) 10 (wL (wW 12 6 7 10 12) 10 (.reg (wW 13 6 8 10 13))) (qo 10 (qA [qI 2 1,wK 3,xo,wK 5]) (xp 15 6 4 14 15 14 (qA [qI 2 2,wK 3,xo,wK 5]) (xp 17 6 5 16 17 16 (qA [qI 2 1,wK 3,qd 4 wz,qd 5 wz]) (wh (wW 19 6 6 18 19) 18 [qI 2 1,wK 3,qd 4 wz,wK 5]))))))))) [qI 2 (-1),wK 3,xo,wK 5]⟩
theorem yI:ag Tryz.prog gd=some br:=by kernel_rfl
def rI:FK:=⟨5,[xJ],xc [yq] [qZ 3,qp 4 dk (xN 3 yi (qj 255)),qg 2 4]⟩
theorem BD:ag Tryz.prog jf=some rI:=by kernel_rfl
def eN:FK:=⟨20,[xJ],xa [wT 2] (.blk 0 (qC [qb 4 (.ld none (.c (.gp 2 0))),qZ 5,qb 6 (.lk 0 (.agg [qF,qB]) false (.t 4) (.t 5)),qb 7 (.fldv 1 none (.t 6)),qy 8 .gtr 7 0,ye 3] 3 (qA [qb 9 (.ld none (.c (.gp 2 0))),qZ 10,qb 11 (.lk 0 (.agg [qF,qB]) false (.t 9) (.t 10)),qb 12 (.fldv 1 none (.t 11)),qg 2 12]) (wh [qZ 14,wb 15 14 11,qg 16 15,xy 17 16 0,yu 18 16 .eql 17 12,xW 19 16 18,qg 13 19] 13 [qI 2 5]))) [qI 2 6]⟩
theorem zj:ag Tryz.prog kP=some eN:=by kernel_rfl
def jP:AK:=xD [wG 2 4 0,xS,wT 5,wK 6] [wT 7,wT 8] (.cut (.blk 0 (qC [wQ 17 2,qv 18 17,wb 19 18 1,qg 16 19] 16 (wh [xI 20 2,qv 21 20,xr 22 jf 21,xn 23 22,qg 24 23,xE 25 24 2 2,xA 26 24 25,qL 27 24 (yp .neq 26 (.c qF)),xW 28 24 27] 28 [xS,wT 5,wK 6]) (qC [wQ 30 2,qv 31 30,wb 32 31 2,qg 29 32] 29 (wh [xv 33 2,qv 34 33,xr 35 cA 34,xn 36 35,qg 37 36,xE 38 37 1 2,xA 39 37 38,yu 40 37 .neq 39 0,xW 41 37 40] 41 [xS,wT 5,wK 6]) (qC [wQ 43 2,qv 44 43,wb 45 44 13,qg 42 45] 42 (qe [qI 8 3] (wh [xv 46 2,qv 47 46,xr 48 cA 47,xn 49 48,qg 50 49,xE 51 50 1 2,xA 52 50 51,yu 53 50 .neq 52 0,xW 54 50 53] 54 [xS,wT 5,wK 6])) (qC [qb 56 (.ld none (.c (.gp 2 0))),wQ 57 2,qv 58 57,qb 59 (.lk 0 (.agg [qF,qB]) false (.t 56) (.t 58)),qb 60 (.fldv 1 none (.t 59)),qy 61 .gtr 60 0,qg 55 61] 55 (.reg [qI 7 2,qI 8 2]) (qC [wQ 63 2,qv 64 63,wb 65 64 11,qg 66 65,xE 67 66 0 2,xA 68 66 67,yu 69 66 .eql 68 12,xW 70 66 69,qg 62 70] 62 (.reg [qI 7 1,qI 8 1]) (qA [xS,wT 5,wK 6]))))))) (.cut (wh [wQ 71 2,qv 72 71,xr 73 kP 72,qy 74 .lss 73 6,qg 75 74,wY 76 75 1 2,wU 77 75 76,xM 78 75 .neq 77 0,xC 79 75 78,xE 80 79 2 2,xA 81 79 80,qL 82 79 (yp .neq 81 (.c qF)),qK 83 75 (qQ 79 wz (.t 82)),xT 84 75 83,qg 85 84,xE 86 85 3 2,xA 87 85 86,qL 88 85 (wd 87),xy 89 85 7,xy 90 85 8,qL 91 85 (.call dk (xP 88 89 90)),qL 92 85 (wq 91),xW 93 85 92,qg 94 93,xy 95 94 1,yu 96 94 .lss 95 1,xW 97 94 96] 97 [xS,wT 5,wK 6]) (xa [qI 9 1,qI 10 1] (wR [xV 98 2,qv 99 98,wt 100 99,wT 101] 1 (qN [xb 102 101 100] (xL 102 (.exit 1)) (wy 2 (qe [wB 103 4 99 101,yf 104 103,qY 12 [qB,qB,qF,.nils],qT 4 12 104] (yn [yf 106 12,xj 107,xG 108 107 1,wJ 109 gg 106 108,qg 105 109,wN 110 0 105,wN 111 1 105,wN 112 2 105,qg 13 110,qg 14 111,qg 15 112] [qg 113 15,xn 114 113] 114 [xS,wT 5,wK 6] (ya [qg 115 9,qg 116 13,ws 117 .add 115 116,qg 9 117] [qg 118 10,qg 119 14,x8 120 119,qb 121 (.mx (.t 118) (.t 120)),qg 10 121]))) (wV (x8 122 101) 101 122)))) [qg 123 9,qg 124 10,qg 125 9,qy 126 .leq 125 30,qg 4 123,qg 5 124,x7 126])))
def jT:FK:=⟨127,[xw,.t 5,.t 6],(AK.whole jP)⟩
theorem yN:ag Tryz.prog gg=some jT:=by kernel_rfl
def mU:FK:=⟨13,[xJ],qe [wG 1 4 0,yq] (xc [yf 7 1,xY 8 gg 7 6,x7 8,wN 9 0 6,wN 10 1 6,wN 11 2 6,qg 3 9,qg 4 10,qg 5 11] (wV (xu 12) 2 12))⟩
theorem ve:ag Tryz.prog eZ=some mU:=by kernel_rfl
def jg:FK:=⟨91,[xw],qe [wG 2 5 0,xo] (qN [wQ 12 2,qv 13 12,xr 14 gd 13,qg 11 14,wN 15 0 11,wN 16 1 11,wN 17 2 11,wN 18 3 11,qg 5 15,x7 16,qg 7 17,qg 8 18] (.blk 0 (wM [xj 20,qy 21 .gtr 20 4,qg 19 21] 19 (wL [xv 22 2,qv 23 22,wt 24 23,xu 25,ws 26 .neq 24 25,qg 19 26] 19 (wL [yx 27,qg 28 27,wY 29 28 1 2,wU 30 28 29,qK 31 28 (.call cA (xq 30)),qK 32 28 (wq 31),xT 33 28 32,qg 19 33] 19 (wL [yx 34,xn 35 34,qg 36 35,wY 37 36 1 2,wU 38 36 37,qK 39 36 (yp .neq 38 (.c qF)),xT 40 36 39,qg 19 40] 19 (wL [yl 41,xn 42 41,qg 43 42,wY 44 43 3 2,wU 45 43 44,qK 46 43 (wd 45),xM 47 43 .gtr 46 0,xT 48 43 47,qg 19 48] 19 (wL [ye 49,xn 50 49,qg 51 50,wY 52 51 4 2,wU 53 51 52,qK 54 51 (wd 53),xM 55 51 .gtr 54 0,xT 56 51 55,qg 19 56] 19 (.reg [wQ 57 2,qv 58 57,wb 59 58 8,qg 60 59,wY 61 60 2 2,wU 62 60 61,qK 63 60 (qW 4 62 yi),wY 64 60 0 63,wU 65 60 64,xM 66 60 .neq 65 13,xT 67 60 66,qg 19 67])))))) (qo 19 (qA [xo]) .skip))) (xZ (wR [xv 68 2,qv 69 68,wt 70 69,wT 71] 1 (qN [xb 72 71 70] (xL 72 (.exit 1)) (wy 2 (qe [wB 73 4 69 71,yf 74 73,qY 10 [qB,qB,qF,.nils],qT 4 10 74] (wh [yf 75 10,xr 76 eZ 75,xn 77 76] 77 [xo])) (wV (x8 78 71) 71 78)))) [xV 79 2,qv 80 79,xj 81,x8 82 81,wJ 83 cK 80 82,qg 84 83,wY 85 84 4 2,wU 86 84 85,xC 87 84 1,xM 88 84 .add 87 1,qK 89 84 (xR cK 86 (.t 88)),xT 90 84 89,qg 4 90]))⟩
theorem rZ:ag Tryz.prog ji=some jg:=by kernel_rfl
def nb:FK:=⟨8,[.t 3],xc [wG 2 5 0,wK 3] [qH 4 5 2,qv 5 1,wJ 6 ji 4 5,xn 7 6,yl 3]⟩
theorem vv:ag Tryz.prog cF=some nb:=by kernel_rfl
def oU:FK:=⟨9,[xw],xc [wG 3 1 1,xo] [qZ 5,qb 6 (.mkf (.func cF) (xq 3)),wJ 7 bP 5 6,xn 8 7,ye 4]⟩
theorem Ad:ag Tryz.prog cK=some oU:=by kernel_rfl
def tK:FK:=⟨31,[],wR [qZ 8,wt 9 8,wT 10] 0 (qN [xb 11 10 9] (xL 11 wA) (wy 1 (xD [wB 12 5 8 10,qH 13 5 12,qY 7 [qB,qF,.nils,.nils,.nils],qT 5 7 13] [xx 14,qH 15 5 7,xj 16,qb 17 (.callv (.t 14) (wH 15 (.t 16)))] (ya [xV 18 7,qv 19 18,xj 20,x8 21 20,xx 22,xQ 23 gJ 19 21 22] [qq 24 4 7,qv 25 24,xj 26,x8 27 26,xx 28,xQ 29 gJ 25 27 28])) (wV (x8 30 10) 10 30)))⟩
theorem Cu:ag Tryz.prog gJ=some tK:=by kernel_rfl
def mS:FK:=⟨11,[],xD [wG 4 5 0] [qv 6 2,x8 7 6,xt 2 7] (.reg [qv 8 3,xj 9,qb 10 (.mx (.t 8) (.t 9)),xt 3 10])⟩
theorem uS:ag Tryz.prog eV=some mS:=by kernel_rfl
def oL:FK:=⟨20,[.c 2 none,.c 3 none],xa [wG 1 1 0,qY 2 [qB],qY 3 [qB]] (wR [wQ 6 1,qv 7 6,wt 8 7,wT 9] 0 (qN [xb 10 9 8] (xL 10 wA) (wy 1 (ya [wB 11 3 7 9,qH 12 3 11,qY 5 [qF,.nils,.nils],qT 3 5 12] [xv 13 5,qv 14 13,qb 15 (.mkf (.func eV) (wH 2 (.t 3))),qp 16 gJ (xN 14 (qj 1) (.t 15))]) (wV (x8 17 9) 9 17)))) [qv 18 2,qv 19 3,xt 2 18,wX 3 19,xt 3 19]⟩
theorem zr:ag Tryz.prog lh=some oL:=by kernel_rfl
def iI:FK:=⟨6,[xJ],xc [yq] [qZ 3,xr 4 cA 3,xn 5 4,xu 2]⟩
theorem nV:ag Tryz.prog bx=some iI:=by kernel_rfl
def kj:FK:=⟨48,[xJ],yn [wG 1 1 0,yq] [wQ 7 1,qv 8 7,wt 9 8,qp 10 dk (xN 9 (qj 1) (qj 4)),xn 11 10] 11 [yq] (.seq (wR [wQ 12 1,qv 13 12,wt 14 13,wT 15] 0 (qN [xb 16 15 14] (xL 16 wA) (wy 1 (qe [wB 17 3 13 15,qH 18 3 17,qY 4 [qF,.nils,.nils],qT 3 4 18] (wh [wQ 19 4,qv 20 19,xr 21 cA 20,xn 22 21,qg 23 22,xE 24 23 1 4,xA 25 23 24,qL 26 23 (wd 25),yu 27 23 .gtr 26 3,xW 28 23 27,qg 29 28,xE 30 29 1 4,xA 31 29 30,qL 32 29 (xR cm 31 (.c (.fn (.func bx) []))),xW 33 29 32,qg 34 33,xE 35 34 2 4,xA 36 34 35,qL 37 34 (xR cK 36 (qj 1)),qL 38 34 (wq 37),xW 39 34 38] 39 [yq])) (wV (x8 40 15) 15 40)))) (xc [qH 42 1 1,xr 43 lh 42,qg 41 43,wN 44 0 41,wN 45 1 41,qg 5 44,x7 45] [xu 46,qy 47 .leq 46 40,qg 2 47]))⟩
theorem rk:ag Tryz.prog dA=some kj:=by kernel_rfl
def eU:FK:=⟨19,[xw],xa [xS] (wR [qZ 6,wt 7 6,wT 8] 0 (qN [xb 9 8 7] (xL 9 wA) (wy 1 (qe (wV (ye 10) 5 10) (wh [xj 11,qZ 12,xu 13,wB 14 3 12 13,qH 15 3 14,qb 16 (.callv (.t 11) (xq 15))] 16 (wV (xu 17) 4 17))) (wV (x8 18 8) 8 18)))) [qI 4 (-1)]⟩
theorem kM:ag Tryz.prog cP=some eU:=by kernel_rfl
def sa:FK:=⟨8,[.t 3],xc [wG 2 3 0,wK 3] [wQ 4 2,qv 5 4,qv 6 1,qb 7 (yp .eql 5 (.t 6)),yl 3]⟩
theorem BF:ag Tryz.prog fU=some sa:=by kernel_rfl
def vO:FK:=⟨9,[xw],xc [wG 2 1 0,wG 3 1 1,xS] [wQ 5 2,qv 6 5,qb 7 (.mkf (.func fU) (xq 3)),wJ 8 cP 6 7,ye 4]⟩
theorem Fm:ag Tryz.prog gA=some vO:=by kernel_rfl
def fD:FK:=⟨13,[],xm [qZ 4,qV 5 4,xv 6 5,qv 7 6,wb 8 7 0] 8 [qZ 9,xj 10,qV 11 9,xv 12 11,xt 12 10]⟩
theorem rm:ag Tryz.prog cn=some fD:=by kernel_rfl
def gZ:FK:=⟨7,[xJ],xc [xz 2 .nilp] [qb 3 .mkm,qZ 4,wl 5 [.nilm,.nilp] [xk 0 3,xk 1 4],wG 6 2 5,yx 2]⟩
theorem tJ:ag Tryz.prog de=some gZ:=by kernel_rfl
def te:FK:=⟨20,[],xD [wG 2 4 0] [xj 6,yf 7 2,qb 8 (.callv (.t 6) (xq 7))] (wR [xV 9 2,qv 10 9,wt 11 10,wT 12] 0 (qN [xb 13 12 11] (xL 13 wA) (wy 1 (ya [wB 14 4 10 12,yf 15 14,qY 5 [qB,qB,qF,.nils],qT 4 5 15] [yf 16 5,xj 17,wJ 18 ku 16 17]) (wV (x8 19 12) 12 19))))⟩
theorem Dy:ag Tryz.prog ku=some te:=by kernel_rfl
def mb:FK:=⟨25,[xw,.t 5],xa [xS,wK 5] (wa 0 (xF [qZ 8,qb 9 (.pnil 0 true (.t 8))] 9 wA 1 (qe [qZ 15,qV 16 15,wQ 17 16,qv 18 17,xj 19,qb 20 (.lk 1 qB true (.t 18) (.t 19)),qg 14 20,wN 21 0 14,wN 22 1 14,x7 21,qg 7 22] (wh [yl 23] 23 [yx 24,qg 4 24,qd 5 wz])) [qZ 10,qV 11 10,xI 12 11,qv 13 12,qg 0 13])) [xS,wK 5]⟩
theorem tx:ag Tryz.prog cd=some mb:=by kernel_rfl
def iD:FK:=⟨58,[],xD [wG 3 4 0] [wQ 7 3,qv 8 7] (.blk 0 (xp 10 8 2 9 10 9 (qe [qv 12 1,xv 13 3,qv 14 13,wJ 15 cd 12 14,qg 11 15,wN 16 0 11,wN 17 1 11,qg 4 16,qg 5 17] (xm [xu 18,xn 19 18] 19 [qv 20 2,yg 21 20 3])) (qO (wW 23 8 13 22 23) 22 (qe [xv 35 3,qv 24 2,qV 25 24,wQ 26 25,wQ 27 26,qv 28 27,qv 29 2,qV 30 29,xI 31 30,qv 32 31,qb 33 (.slS 3 (.t 28) none (some (.t 32))),wl 34 yd [xk 0 33],qv 36 35,wJ 37 gA 34 36,x7 37] (qC [yx 38,qy 39 .lss 38 0] 39 (.reg [qv 40 2,yg 41 40 4]) (xm [yx 47,xV 52 3,qv 42 2,qV 43 42,wQ 44 43,wQ 45 44,qv 46 45,wB 48 3 46 47,xI 49 48,qv 50 49,wt 51 50,qv 53 52,wt 54 53,ws 55 .neq 51 54] 55 [qv 56 2,yg 57 56 5]))))))⟩
theorem od:ag Tryz.prog bS=some iD:=by kernel_rfl
def fK:FK:=⟨9,[],ya [wG 3 1 0,wG 4 4 1,wG 5 1 2] [yf 6 4,qb 7 (.mkf (.func bS) (wH 5 (.t 3))),wJ 8 ku 6 7]⟩
theorem ru:ag Tryz.prog dv=some fK:=by kernel_rfl
def eG:AK:=wR [xj 14,wt 15 14,wT 16] 0 (qN [xb 17 16 15] (xL 17 wA) (wy 1 (qN [wB 18 5 14 16,qH 19 5 18,qY 7 [qB,qF,.nils,.nils,.nils],qT 5 7 19] (wR [xv 20 7,qv 21 20,wt 22 21,wT 23] 2 (qN [xb 24 23 22] (xL 24 (.exit 2)) (wy 3 (ya [wB 25 4 21 23,yf 26 25,qY 9 [qB,qB,qF,.nils],qT 4 9 26] [qZ 27,yf 28 9,xx 29,xQ 30 dv 27 28 29]) (wV (x8 31 23) 23 31)))) (.cut (qe [wQ 32 7,qv 33 32] (.blk 4 (xp 35 33 1 34 35 34 (wc (qe [xx 37,qV 38 37,wQ 39 38,xI 41 7,qv 40 39,qv 42 41,qb 43 (.lk 1 qB true (.t 40) (.t 42)),qg 36 43,wN 44 0 36,wN 45 1 36,qg 10 44,qg 11 45] (xm [qg 46 11] 46 [qZ 47,yg 48 47 2])) [xx 49,qV 50 49,wQ 51 50,xI 53 7,qv 52 51,qv 54 53,qD (.mup 1 (.t 52) (.t 54) yi)]) (qO (wW 56 33 2 55 56) 55 (qe [xx 58,xI 59 7,qv 60 59,wJ 61 cd 58 60,qg 57 61,wN 62 0 57,wN 63 1 57,qg 12 62,qg 13 63] (xm [qg 64 13,xn 65 64] 65 [qZ 66,yg 67 66 3])))))) (qO [wQ 68 7,qv 69 68,wb 70 69 5,qg 71 70,xE 72 71 0 7,xA 73 71 72,yu 74 71 .eql 73 6,xW 75 71 74] 75 (ya [qZ 76,xV 77 7,xx 79,qv 78 77,xr 80 de 79,wX 77 78,xQ 81 bB 76 78 80] [qZ 82,qq 83 4 7,xx 85,qv 84 83,xr 86 de 85,wX 83 84,xQ 87 bB 82 84 86])))) (wV (x8 88 16) 16 88)))
def eQ:FK:=⟨89,[],(AK.whole eG)⟩
theorem po:ag Tryz.prog bB=some eQ:=by kernel_rfl
def fj:AK:=yn [wG 1 1 0,wT 2] [qH 11 1 1,xr 12 dA 11,xn 13 12] 13 [qI 2 1] (xa [qH 14 1 1,wl 15 [.nils,qB,qB] [xk 0 14],wG 16 3 15,qg 3 16] (wR [wQ 17 1,qv 18 17,wt 19 18,wT 20] 0 (qN [xb 21 20 19] (xL 21 wA) (wy 1 (xD [qg 22 20,wB 23 3 18 20,qH 24 3 23,qY 5 [qF,.nils,.nils],qg 4 22,qT 3 5 24] [qg 25 3,qg 26 4,qV 27 25,xI 28 27,xt 28 26] (.cut (xm [qH 29 1 1,wQ 30 5,qv 31 30,wJ 32 gA 29 31,qg 33 4,xb 34 32 33] 34 [qg 35 3,yg 36 35 2]) (qN (wV (qp 37 de [.c .nilp]) 6 37) (wR [xI 38 5,qv 39 38,wt 40 39,wT 41] 2 (qN [xb 42 41 40] (xL 42 (.exit 2)) (wy 3 (qN [wB 43 1 39 41,qv 44 43,qg 8 44] (qe [yx 46,qV 47 46,wQ 48 47,qv 49 48,ye 50,qb 51 (.lk 1 qB true (.t 49) (.t 50)),qg 45 51,wN 52 0 45,wN 53 1 45,qg 9 52,qg 10 53] (xm [qg 54 10] 54 [qg 55 3,yg 56 55 2])) (.reg [yx 57,qV 58 57,wQ 59 58,qv 60 59,ye 61,qD (.mup 1 (.t 60) (.t 61) yi)])) (wV (x8 62 41) 41 62)))) (.reg [qg 63 3,xv 64 5,qv 65 64,yx 66,xQ 67 bB 63 65 66])))) (wV (x8 68 20) 20 68)))) [qg 69 3,qV 70 69,xv 71 70,qv 72 71,qg 2 72])
def fI:FK:=⟨73,[xJ],(AK.whole fj)⟩
theorem rp:ag Tryz.prog fq=some fI:=by kernel_rfl
def vP:FK:=⟨6,[xJ],xc [wG 1 1 0,yq] [qH 3 1 1,xr 4 fq 3,wb 5 4 0,xu 2]⟩
theorem Ey:ag Tryz.prog ox=some vP:=by kernel_rfl
def gN:FK:=⟨19,[xw],xa [xS] (wR [qZ 6,wt 7 6,wT 8] 0 (qN [xb 9 8 7] (xL 9 wA) (wy 1 (qe (wV (ye 10) 5 10) (wh [xj 11,qZ 12,xu 13,wB 14 1 12 13,qv 15 14,qb 16 (.callv (.t 11) (xq 15))] 16 (wV (xu 17) 4 17))) (wV (x8 18 8) 8 18)))) [qI 4 (-1)]⟩
theorem nr:ag Tryz.prog dO=some gN:=by kernel_rfl
def fh:FK:=⟨9,[xw],xc [xo] [qZ 5,xj 6,wJ 7 dO 5 6,qy 8 .geq 7 0,ye 4]⟩
theorem lJ:ag Tryz.prog cT=some fh:=by kernel_rfl
def nh:FK:=⟨6,[xJ],xc [yq] [qZ 3,xr 4 jf 3,xn 5 4,xu 2]⟩
theorem uL:ag Tryz.prog cD=some nh:=by kernel_rfl
def kQ:FK:=⟨14,[xw],xc [xo] [qZ 5,wt 6 5,xj 7,ws 8 .eql 6 7,ye 9,xC 10 9 0,qK 11 9 (xR cT 10 (.c (.fn (.func cD) []))),qK 12 9 (wq 11),xT 13 9 12,qg 4 13]⟩
theorem zi:ag Tryz.prog kS=some kQ:=by kernel_rfl
def rV:FK:=⟨21,[xw],xc [wG 2 1 0,xo] [qH 5 1 2,xr 6 ox 5,yx 7,xC 8 7 1,wY 9 7 0 2,wU 10 7 9,wY 11 7 0 2,wU 12 7 11,qK 13 7 (wd 12),xM 14 7 .sub 13 1,qK 15 7 (qW 3 10 (.t 14)),wY 16 7 1 15,wU 17 7 16,qK 18 7 (wd 17),qK 19 7 (xR kS 8 (.t 18)),xT 20 7 19,qg 4 20]⟩
theorem BI:ag Tryz.prog je=some rV:=by kernel_rfl
def kY:FK:=⟨8,[xJ],xa [xz 2 .nils] (wh [qZ 3,qb 4 (.snil false (.t 3))] 4 [xz 2 .nils]) [qX 5 1 [qB] 0 [],qZ 6,xh 7 1 8 5 6,yl 2]⟩
theorem sJ:ag Tryz.prog dK=some kY:=by kernel_rfl
def fC:FK:=⟨19,[],wc (xm [qZ 2,qV 3 2,xv 4 3,qZ 6,qV 7 6,xI 8 7,qv 5 4,qv 9 8,ws 10 .eql 5 9] 10 [qp 11 mf [qj 3]]) [qZ 12,qV 13 12,xv 14 13,qv 15 14,x8 16 15,qV 17 12,xv 18 17,xt 18 16]⟩
theorem rc:ag Tryz.prog dx=some fC:=by kernel_rfl
def mZ:FK:=⟨28,[xw],xa [xz 4 .nilp] (wa 0 (xF [qZ 7,qV 8 7,xI 9 8,qv 10 9,qb 11 (.pnil 0 true (.t 10))] 11 wA 1 (qe [qZ 17,qV 18 17,wQ 19 18,qv 20 19,xj 21,qb 22 (.lk 1 qB true (.t 20) (.t 21)),qg 16 22,wN 23 0 16,wN 24 1 16,qg 5 23,x7 24] (wh [yx 25] 25 (wV (qZ 26) 4 26))) [qZ 12,qV 13 12,xI 14 13,qv 15 14,qg 0 15])) (wV (qZ 27) 4 27)⟩
theorem vC:ag Tryz.prog fa=some mZ:=by kernel_rfl
def pr:FK:=⟨4,[xJ],xa [wT 2] (wh [qZ 3] 3 [qI 2 1]) [wT 2]⟩
theorem Aq:ag Tryz.prog lv=some pr:=by kernel_rfl
def nL:FK:=⟨70,[.t 6,.t 7],qe [wT 6,wK 7] (xa [xz 8 (.fn (.func lv) [])] (qe [qZ 9] (.blk 0 (xp 11 9 3 10 11 10 (qA [xj 12,xx 13,ws 14 .add 12 13,qy 15 .rem 14 256,x7 15,qd 7 wz]) (xp 17 9 4 16 17 16 (qA [xj 18,xx 19,ws 20 .sub 18 19,wF 21 20 256,qy 22 .rem 21 256,x7 22,qd 7 wz]) (xp 24 9 5 23 24 23 (qA [xj 25,xx 26,ws 27 .mul 25 26,qy 28 .rem 27 256,x7 28,qd 7 wz]) (wM (wW 30 9 6 29 30) 29 (.reg (wW 31 9 7 29 31)) (qo 29 (.seq (wh [xx 32,wb 33 32 0] 33 [wT 6,wK 7]) (xZ (wh [qZ 34,wb 35 34 6] 35 [xj 36,xx 37,ws 38 .quo 36 37,x7 38,qd 7 wz]) [xj 39,xx 40,ws 41 .rem 39 40,x7 41,qd 7 wz])) (xp 43 9 8 42 43 42 (qA [ye 44,xj 45,xx 46,xb 47 45 46,qb 48 (.callv (.t 44) (xq 47)),x7 48,qd 7 wz]) (xp 50 9 9 49 50 49 (qA [ye 51,xj 52,xx 53,ws 54 .eql 52 53,qb 55 (.callv (.t 51) (xq 54)),x7 55,qd 7 wz]) (wh (wW 57 9 10 56 57) 56 [ye 58,xj 59,qy 60 .neq 59 0,qg 61 60,xC 62 61 2,xM 63 61 .neq 62 0,xT 64 61 63,qb 65 (.callv (.t 58) (xq 64)),x7 65,qd 7 wz])))))))))) [ye 66,xj 67,wb 68 67 0,qb 69 (.callv (.t 66) (xq 68)),x7 69,qd 7 wz])⟩
theorem uz:ag Tryz.prog iy=some nL:=by kernel_rfl
def fw:FK:=⟨13,[xw],xa [xz 4 .nilp] (xm [xj 5,qy 6 .geq 5 16] 6 [qp 7 mf [qj 2]]) [qZ 8,xj 9,qV 10 8,qq 11 4 10,qb 12 (.idxA 16 1 (.t 11) (.t 9)),qg 4 12]⟩
theorem ri:ag Tryz.prog dz=some fw:=by kernel_rfl
def aw:FK:=⟨126,[.t 6],qN [wG 4 4 1,wT 6] (qe [wQ 16 4,qv 17 16] (.blk 0 (xp 19 17 1 18 19 18 (qA [xI 20 4,qv 21 20,x7 21]) (xp 23 17 2 22 23 22 (qA [xx 24,xv 25 4,xv 31 4,qv 26 25,qv 32 31,wJ 27 fa 24 26,wX 31 32,qV 28 27,wQ 29 28,qv 30 29,qb 33 (.lk 1 qB false (.t 30) (.t 32)),x7 33]) (xp 35 17 10 34 35 34 (.seq (wh [qZ 36,xV 37 4,qv 38 37,wu 39 4 38 yi,yf 40 39,xx 41,xB 42 (xP 36 40 41),wb 43 42 0] 43 [wT 6]) (xc [qZ 45,xV 46 4,qv 47 46,wu 48 4 47 (qj 1),yf 49 48,xx 50,xB 51 (xP 45 49 50),qp 52 iy [qj 10,qj 1,.t 51],qg 44 52,wN 53 0 44,wN 54 1 44,qg 7 53,qg 8 54] (wV (yl 55) 6 55))) (xp 57 17 12 56 57 56 (qA [qZ 58,qZ 59,xV 60 4,qv 61 60,wu 62 4 61 yi,yf 63 62,xx 64,xB 65 (xP 59 63 64),wJ 66 dz 58 65,qV 67 66,qv 68 67,x7 68]) (qO (wW 70 17 13 69 70) 69 (xa [xz 9 .nils] (wR [xV 71 4,qv 72 71,wt 73 72,wT 74] 1 (qN [xb 75 74 73] (xL 75 (.exit 1)) (wy 2 (ya [wB 76 4 72 74,yf 77 76,qY 11 [qB,qB,qF,.nils],qT 4 11 77] [qg 78 9,qZ 79,yf 80 11,xx 81,xB 82 (xP 79 80 81),qX 83 1 [qB] 1 [xk 0 82],xh 84 1 8 78 83,qg 9 84]) (wV (x8 85 74) 74 85)))) [qZ 86,qZ 87,qV 88 87,wQ 89 88,xv 91 4,qg 94 9,qH 90 1 89,qv 92 91,wJ 93 gA 90 92,xQ 95 dC 86 93 94,x7 95])))))))) (qN [qZ 96,xV 97 4,qv 98 97,wu 99 4 98 yi,yf 100 99,xx 101,xB 102 (xP 96 100 101),qg 12 102,wT 13] (xm [xV 103 4,qv 104 103,wt 105 104,qy 106 .gtr 105 1] 106 [qZ 107,xV 108 4,qv 109 108,wu 110 4 109 (qj 1),yf 111 110,xx 112,xB 113 (xP 107 111 112),qg 13 113]) (xa [wQ 115 4,qv 116 115,qg 117 12,qg 118 13,xQ 119 iy 116 117 118,qg 114 119,wN 120 0 114,wN 121 1 114,qg 14 120,qg 15 121] (xm [qg 122 15,xn 123 122] 123 [qp 124 mf [qj 1]]) (wV (qg 125 14) 6 125)))⟩
theorem kg:ag Tryz.prog bN=some aw:=by kernel_rfl
def uB:FK:=⟨7,[xJ],xc [xz 2 .nilp] [qb 3 .mkm,qZ 4,wl 5 [.nilm,.nilp] [xk 0 3,xk 1 4],wG 6 2 5,yx 2]⟩
theorem Cv:ag Tryz.prog gM=some uB:=by kernel_rfl
def fv:FK:=⟨109,[.t 6],qN [wG 4 5 1,xz 6 .nilp] (qO [wQ 10 4,qv 11 10,wb 12 11 6] 12 (xZ (wa 0 (wM [qZ 13,xv 14 4,qv 15 14,wu 16 4 15 yi,yf 17 16,xx 18,xB 19 (xP 13 17 18),qy 20 .neq 19 0] 20 wA (.blk 1 (wc (qe [qZ 21,xV 22 4,xx 24,qv 23 22,xr 25 gM 24,wX 22 23,xQ 26 bp 21 23 25,qg 7 26] (wh [yl 27,qb 28 (.pnil 0 true (.t 27))] 28 (wV (yl 29) 6 29))) [qZ 30,xr 31 dx 30])))) [xz 6 .nilp])) (xa [qZ 32,xv 33 4,qv 34 33,wu 35 4 34 yi,yf 36 35,xx 37,xB 38 (xP 32 36 37),qg 8 38] (qe [wQ 39 4,qv 40 39] (.blk 2 (xp 42 40 1 41 42 41 (.reg [xx 43,qV 44 43,wQ 45 44,xI 47 4,ye 49,qv 46 45,qv 48 47,qD (.mup 1 (.t 46) (.t 48) (.t 49))]) (xp 51 40 2 50 51 50 (.reg [xx 52,xI 53 4,xI 59 4,ye 61,qv 54 53,qv 60 59,wJ 55 fa 52 54,wX 59 60,qV 56 55,wQ 57 56,qv 58 57,qD (.mup 1 (.t 58) (.t 60) (.t 61))]) (xp 63 40 3 62 63 62 (.reg [qZ 64,qZ 65,qV 66 65,xV 67 66,qv 68 67,ye 69,qX 70 1 [qB] 1 [xk 0 69],xh 71 1 8 68 70,qV 72 64,xV 73 72,xt 73 71]) (xp 75 40 4 74 75 74 (ya [qZ 76,xv 77 4,qv 78 77,wu 79 4 78 (qj 1),yf 80 79,xx 81,xB 82 (xP 76 80 81),qg 9 82] [qZ 83,ye 84,wJ 85 dz 83 84,qg 86 9,qV 87 85,xt 87 86]) (xp 89 40 5 88 89 88 (xZ (wh [ye 90,qy 91 .neq 90 0] 91 [qZ 92,xV 93 4,xx 95,qv 94 93,xr 96 gM 95,wX 93 94,xQ 97 bp 92 94 96,x7 97]) [qZ 98,qq 99 4 4,xx 101,qv 100 99,xr 102 gM 101,wX 99 100,xQ 103 bp 98 100 102,x7 103]) (wh (wW 105 40 7 104 105) 104 [ye 106,wl 107 [qB] [xk 0 106],wG 108 1 107,x7 108])))))))) [xz 6 .nilp])⟩
theorem kn:ag Tryz.prog fp=some fv:=by kernel_rfl
def jA:FK:=⟨26,[.t 6],xa [xz 6 .nilp] (wR [xj 10,wt 11 10,wT 12] 0 (qN [xb 13 12 11] (xL 13 wA) (wy 1 (xD [wB 14 5 10 12,qH 15 5 14,qY 8 [qB,qF,.nils,.nils,.nils],qT 5 8 15] [qZ 16,xr 17 dx 16] (qe [qZ 18,qH 19 5 8,xx 20,xQ 21 fp 18 19 20,qg 9 21] (wh [qg 22 9,qb 23 (.pnil 0 true (.t 22))] 23 (wV (qg 24 9) 6 24)))) (wV (x8 25 12) 12 25)))) [xz 6 .nilp]⟩
theorem oh:ag Tryz.prog bp=some jA:=by kernel_rfl
def jZ:FK:=⟨57,[.t 6],qe [wT 6] (qN [qb 11 .mkm,wl 12 [.nilm,.nilp] [xk 0 11],wG 13 2 12,qg 7 13] (wR [qZ 14,qV 15 14,wQ 16 15,wQ 17 16,qv 18 17,xj 19,wB 20 3 18 19,xI 21 20,qv 22 21,wt 23 22,wT 24] 0 (qN [xb 25 24 23] (xL 25 wA) (wy 1 (ya [qg 26 24,wB 27 1 22 24,qv 28 27,qg 8 26,qg 9 28] [yl 29,qV 30 29,wQ 31 30,qg 33 9,xx 34,ye 35,wB 36 1 34 35,qv 32 31,qv 37 36,qD (.mup 1 (.t 32) (.t 33) (.t 37))]) (wV (x8 38 24) 24 38)))) (xZ (qe [qZ 39,qZ 40,qV 41 40,wQ 42 41,wQ 43 42,qv 44 43,xj 45,wB 46 3 44 45,xv 47 46,qv 48 47,yl 49,xQ 50 bp 39 48 49,qg 10 50] (wh [qg 51 10,qb 52 (.pnil 0 true (.t 51))] 52 [qg 53 10,qV 54 53,wQ 55 54,qv 56 55,x7 56])) [wT 6]))⟩
theorem rj:ag Tryz.prog dC=some jZ:=by kernel_rfl
def kf:FK:=⟨12,[],.reg [qv 4 0,wQ 5 1,qv 6 5,wt 7 6,xG 8 7 1,qv 9 2,xQ 10 dC 4 8 9,xv 11 3,xt 11 10]⟩
theorem rf:ag Tryz.prog dB=some kf:=by kernel_rfl
def iw:AK:=xD [wG 3 1 0,wG 4 1 1,qY 6 [.nils,qB,qB,.nils],wT 7] [qH 10 1 3,xx 11,wl 12 [.nils,qB,qB,.nils,qB,qB,qB,qB,qB,qB,qB,qB,qB,qB,qB,qB,qB,qB,qB,qB] [xk 0 10,xk 1 11],wG 13 20 12,qY 8 [.nilp],xt 8 13] (qe [qY 9 [.nils,qB,qB,.nils]] (ym [qb 14 (.mkf (.func dB) [.t 8,.t 3,.t 4,.t 9]),xr 15 rH 14,xI 16 9,xt 16 15] (xc [qv 17 8,qV 18 17,xV 19 18,qv 20 19,wQ 26 9,qv 21 8,qV 22 21,qq 23 4 22,qb 24 (.slA 16 1 (.t 23) none none),xr 25 dK 24,wX 8 17,wX 19 20,xt 26 20,xV 27 9,xt 27 25] [yf 28 9,qv 29 8,qV 30 29,xv 31 30,qv 32 31,qT 4 6 28,wX 8 29,wX 31 32,qg 7 32])))
def gU:FK:=⟨33,[xU 6 4,.t 7],(AK.whole iw)⟩
theorem tG:ag Tryz.prog dd=some gU:=by kernel_rfl
def mu:FK:=⟨21,[xw],yn [wG 2 1 0,xS] [qH 7 1 2,xj 8,wJ 9 je 7 8,xn 10 9] 10 [qI 4 (-1)] (xa [qH 12 1 2,xj 13,qp 14 dd (xO 12 13 (qj 4000)),qg 11 14,wN 15 0 11,wN 16 1 11,qY 5 [.nils,qB,qB,.nils],qT 4 5 15,x7 16] (wh [xI 17 5,qv 18 17,wb 19 18 3] 19 [qI 4 (-1)]) (wV (yx 20) 4 20))⟩
theorem rR:ag Tryz.prog dZ=some mu:=by kernel_rfl
def mc:FK:=⟨28,[xU 6 4,.t 7],yn [wG 3 1 0,qY 6 [.nils,qB,qB,.nils],wK 7] [qH 10 1 3,xj 11,wJ 12 jo 10 11,xn 13 12,qg 14 13,xy 15 14 2,qL 16 14 (x9 (xN 15 yi (qj 4000))),qL 17 14 (wq 16),xW 18 14 17] 18 [wl 19 [.nils,qB,qB,.nils] [],qT 4 6 19,wK 7] (xc [qH 21 1 3,xj 22,xx 23,xQ 24 jC 21 22 23,qg 20 24,wN 25 0 20,wN 26 1 20,qY 8 [.nils,qB,qB,.nils],qT 4 8 25,qg 9 26] [yf 27 8,qT 4 6 27,qd 7 wz])⟩
theorem tL:ag Tryz.prog ir=some mc:=by kernel_rfl
def me:FK:=⟨28,[xU 6 4,.t 7],yn [wG 3 1 0,qY 6 [.nils,qB,qB,.nils],wK 7] [qH 10 1 3,xj 11,wJ 12 je 10 11,xn 13 12,qg 14 13,xy 15 14 2,qL 16 14 (.call dk (xN 15 yi (qj 4000))),qL 17 14 (wq 16),xW 18 14 17] 18 [wl 19 [.nils,qB,qB,.nils] [],qT 4 6 19,wK 7] (xc [qH 21 1 3,xj 22,xx 23,xQ 24 dd 21 22 23,qg 20 24,wN 25 0 20,wN 26 1 20,qY 8 [.nils,qB,qB,.nils],qT 4 8 25,qg 9 26] [yf 27 8,qT 4 6 27,qd 7 wz])⟩
theorem tw:ag Tryz.prog dc=some me:=by kernel_rfl
def oV:FK:=⟨11,[xJ],xa [xz 2 .nilp] (xm [qZ 3,wt 4 3,qy 5 .gtr 4 2000] 5 [qZ 6,qb 7 (.slS 1 (.t 6) none (some (qj 2000))),yl 0]) [qZ 8,wl 9 [.nils,qB] [xk 0 8],wG 10 2 9,qg 2 10]⟩
theorem Be:ag Tryz.prog kO=some oV:=by kernel_rfl
def eA:FK:=⟨99,[xw],qe [xS] (yn [qZ 7,qZ 8,qV 9 8,xI 10 9,qv 11 10,x8 12 11,qV 13 7,xI 14 13,xt 14 12] [xj 15,qy 16 .lss 15 1,qg 17 16,xy 18 17 0,qL 19 17 (qw 18),xE 20 17 0 19,xA 21 17 20,qL 22 17 (wd 21),yu 23 17 .eql 22 0,xW 24 17 23] 24 [xS] (yn [qZ 25,qV 26 25,xI 27 26,qv 28 27,xG 29 28 1,qg 5 29] [xu 30,qZ 31,qV 32 31,wQ 33 32,qv 34 33,wt 35 34,xb 36 30 35] 36 [qZ 37,qV 38 37,wQ 39 38,qv 40 39,xu 41,wB 42 1 40 41,qv 43 42,qb 44 (.conv .i64 (.t 43)),xj 45,ws 46 .rem 44 45,qg 4 46] (qe [qZ 47,qV 48 47,wQ 49 48,xu 51,qZ 52,qV 53 52,wQ 54 53,qZ 62,qV 63 62,wQ 64 63,xu 66,qy 67 .mul 66 7,wF 68 67 3,qZ 69,qV 70 69,wQ 71 70,xu 80,qy 81 .mul 80 29,xu 83,qZ 84,qV 85 84,wQ 86 85,qv 50 49,qv 55 54,wt 56 55,ws 57 .rem 51 56,wB 58 1 50 57,qv 59 58,qb 60 (.conv .i64 (.t 59)),qy 61 .mul 60 131,qv 65 64,qv 72 71,wt 73 72,ws 74 .rem 68 73,wB 75 1 65 74,qv 76 75,qb 77 (.conv .i64 (.t 76)),qy 78 .mul 77 1117,ws 79 .add 61 78,ws 82 .add 79 81,qv 87 86,wt 88 87,ws 89 .quo 83 88,qy 90 .mul 89 53,ws 91 .add 82 90,x7 91] (xc [yx 92,yx 93,qy 94 .quo 93 64,ws 95 .xor 92 94,x7 95] [yx 96,xj 97,ws 98 .rem 96 97,qg 4 98]))))⟩
theorem uu:ag Tryz.prog aT=some eA:=by kernel_rfl
def iZ:FK:=⟨12,[xw],xc [xS] [xj 5,qZ 6,xj 7,wt 8 7,yk 9 6 (.t 8),wB 10 1 5 9,qv 11 10,qg 4 11]⟩
theorem ni:ag Tryz.prog cG=some iZ:=by kernel_rfl
def jE:FK:=⟨12,[xw],xc [xz 4 qF] [xj 5,qZ 6,xj 7,wt 8 7,yk 9 6 (.t 8),wB 10 1 5 9,qv 11 10,qg 4 11]⟩
theorem nT:ag Tryz.prog cX=some jE:=by kernel_rfl
def fS:FK:=⟨21,[xU 4 4],xa [qY 4 [qB,qB,qF,.nils]] (wh [xj 5,wt 6 5,wb 7 6 0,yl 8,xy 9 8 0,qL 10 8 (xR aT 9 (qj 3)),yu 11 8 .eql 10 0,xW 12 8 11] 12 [qZ 13,qX 14 1 [qB] 10 [yj 0,xe 1 1,xe 2 2,xe 3 3,xe 4 5,xe 5 7,xe 6 15,xe 7 16,xe 8 100,xe 9 255],wZ 15 13 14,wl 16 [qB,qB,qF,.nils] [yj 1,xk 1 15],qT 4 4 16]) [qZ 17,xj 18,xH 19 17 18,wl 20 [qB,qB,qF,.nils] [yj 2,xk 2 19],qT 4 4 20]⟩
theorem rU:ag Tryz.prog dp=some fS:=by kernel_rfl
def ee:FK:=⟨47,[xU 6 4],yn [qY 6 [qB,qB,qF,.nils]] [xx 8,qy 9 .lss 8 2,qg 10 9,xy 11 10 0,qL 12 10 (xR aT 11 (qj 4)),yu 13 10 .eql 12 0,xW 14 10 13] 14 [qZ 15,xj 16,wJ 17 dp 15 16,qT 4 6 17] (.seq (wh [qZ 18,yk 19 18 (qj 7),wb 20 19 0] 20 [qZ 21,qX 22 1 [qB] 3 [yj 11,xe 1 12,xe 2 11],wZ 23 21 22,qZ 24,xj 25,xx 26,xG 27 26 1,xQ 28 aU 24 25 27,yt 29 4 [qB,qB,qF,.nils] 1 4 28,wl 30 [qB,qB,qF,.nils] [xk 0 23,xk 3 29],qT 4 6 30]) (xc [qZ 31,qX 32 1 [qB] 9 [yj 3,xe 1 3,xe 2 4,xe 3 5,xe 4 6,xe 5 7,xe 6 8,xe 7 9,xe 8 10],wZ 33 31 32,qg 7 33] [yl 34,qZ 35,xj 36,xx 37,xG 38 37 1,xQ 39 aU 35 36 38,qZ 40,xj 41,xx 42,xG 43 42 1,xQ 44 aU 40 41 43,qX 45 4 [qB,qB,qF,.nils] 2 [yh 4 39,wD 4 4 44],wl 46 [qB,qB,qF,.nils] [xk 0 34,xk 3 45],qT 4 6 46]))⟩
theorem mz:ag Tryz.prog aU=some ee:=by kernel_rfl
def mt:FK:=⟨99,[xU 4 4],qe [qY 4 [qB,qB,qF,.nils]] (yn [xz 5 .any,qZ 9,qV 10 9,wQ 11 10,qZ 13,qV 14 13,xv 15 14,xj 17,qv 12 11,qv 16 15,xQ 18 aU 12 16 17,qY 5 [qB,qB,qF,.nils],qT 4 5 18] [qZ 19,qV 20 19,xI 21 20,qv 22 21,wt 23 22,wb 24 23 0,qg 25 24,xy 26 25 0,qL 27 25 (qw 26),xE 28 25 0 27,xA 29 25 28,qL 30 25 (xR aT 29 (qj 4)),yu 31 25 .gtr 30 0,xW 32 25 31] 32 [yf 33 5,qT 4 4 33] (qe [xz 6 .any,qZ 34,qV 35 34,xI 36 35,qZ 38,qV 39 38,wQ 40 39,qZ 42,qV 43 42,xI 44 43,qv 37 36,qv 41 40,qv 45 44,wt 46 45,yk 47 41 (.t 46),wX 36 37,wB 48 3 37 47,qH 49 3 48,qY 6 [qF,.nils,.nils],qT 3 6 49] (qN [wQ 50 6,qv 51 50,wl 52 [qB,qB,qF,.nils] [yj 13,xk 2 51],qY 7 [qB,qB,qF,.nils],qT 4 7 52] (xX [wT 8] 0 [ye 53,xI 54 6,qv 55 54,wt 56 55,xb 57 53 56] 57 wA 1 (.reg [xV 60 7,qZ 62,qV 63 62,wQ 64 63,qZ 66,qV 67 66,xv 68 67,qv 61 60,qv 65 64,qv 69 68,qp 70 aU (xO 65 69 (qj 2)),wX 60 61,xK 71 4 [qB,qB,qF,.nils] 1 (yr 4 70),xh 72 4 56 61 71,xV 73 7,xt 73 72]) [ye 58,x8 59 58,qg 8 59]) (xZ (wh [qZ 74,qV 75 74,wQ 76 75,qv 77 76,yk 78 77 (qj 2),wb 79 78 0] 79 [yf 80 7,qT 4 4 80]) [qZ 81,qV 82 81,wQ 83 82,xK 85 1 [qB] 4 [yj 3,xe 1 4,xe 2 8,xe 3 10],qZ 88,qV 89 88,wQ 90 89,qZ 92,qV 93 92,xv 94 93,qv 84 83,yf 87 7,qv 91 90,qv 95 94,wZ 86 84 85,yb 4 7 87,wX 90 91,wX 94 95,qp 96 aU (xO 91 95 (qj 2)),yb 4 7 87,qX 97 4 [qB,qB,qF,.nils] 2 [yh 4 87,wD 4 4 96],wl 98 [qB,qB,qF,.nils] [xk 0 86,xk 3 97],qT 4 4 98]))))⟩
theorem tW:ag Tryz.prog gO=some mt:=by kernel_rfl
def kI:FK:=⟨46,[xJ],qe [xz 2 qF] (xa [qZ 3,qZ 4,qV 5 4,xV 6 5,qv 7 6,x8 8 7,qV 9 3,xV 10 9,xt 10 8] (wh [qZ 11,qV 12 11,wQ 13 12,qv 14 13,yk 15 14 (qj 9),wb 16 15 0,qg 17 16,xC 18 17 0,qK 19 17 (qw 18),wY 20 17 2 19,wU 21 17 20,qK 22 17 (wd 21),xM 23 17 .gtr 22 0,xT 24 17 23] 24 [qZ 25,qV 26 25,wQ 27 26,qZ 29,qV 30 29,xv 31 30,qv 28 27,qv 32 31,xH 33 28 32,qg 2 33]) [qZ 34,qV 35 34,xV 36 35,qZ 39,qV 40 39,xV 41 40,qv 37 36,qy 38 .rem 37 24,qv 42 41,qy 43 .rem 42 24,x8 44 43,qb 45 (.slStr (wP [97,98,99,100,101,103,104,105,106,107,108,109,110,112,113,114,115,116,117,118,119,120,121,122]) (some (.t 38)) (some (.t 44))),qg 2 45])⟩
theorem sL:ag Tryz.prog gr=some kI:=by kernel_rfl
def iO:FK:=⟨24,[xU 4 5],xD [wG 3 4 1,qY 4 [qB,qF,.nils,.nils,.nils]] [qZ 6,xr 7 gr 6,yl 5] (xc [qZ 8,qX 9 1 [qF] 0 [],qZ 10,qV 11 10,xv 12 11,qv 13 12,xh 14 1 16 9 13,xu 15,qX 16 1 [qF] 1 [xk 0 15],xh 17 1 16 14 16,qV 18 8,xv 19 18,xt 19 17] [xu 20,yf 21 3,yt 22 4 [qB,qB,qF,.nils] 1 4 21,wl 23 [qB,qF,.nils,.nils,.nils] [yj 1,xk 1 20,xk 2 22],qT 5 4 23])⟩
theorem mV:ag Tryz.prog dH=some iO:=by kernel_rfl
def lT:FK:=⟨14,[xU 2 4],xc [qY 2 [qB,qB,qF,.nils]] [qZ 3,qZ 5,qV 6 5,wQ 7 6,xK 9 1 [qB] 6 [yj 16,xe 1 16,xe 2 16,xe 3 8,xe 4 17,xe 5 0],qv 8 7,yc 4 3 2,wX 7 8,wZ 10 8 9,wl 11 [qB,qB,qF,.nils] [yj 1,xk 1 10],qX 12 4 [qB,qB,qF,.nils] 2 [yh 4 4,wD 4 4 11],wl 13 [qB,qB,qF,.nils] [yj 7,xk 3 12],qT 4 2 13]⟩
theorem tn:ag Tryz.prog eE=some lT:=by kernel_rfl
def gY:AK:=xD [xz 4 .nils] [qZ 9,qZ 10,qV 11 10,wQ 12 11,qv 13 12,qX 14 1 [qB] 5 [yj 2,xe 1 3,xe 2 1,xe 3 0,xe 4 5],wZ 15 13 14,wl 16 [qB,qB,qF,.nils] [yj 1,xk 1 15],wJ 17 dH 9 16,qY 5 [qB,qF,.nils,.nils,.nils],qT 5 5 17] (xD [xI 18 5,qv 19 18,wl 20 [qB,qB,qF,.nils] [yj 2,xk 2 19],qY 6 [qB,qB,qF,.nils],qT 4 6 20] [qZ 21,xj 22,xG 23 22 1,wJ 24 aZ 21 23,qg 7 24] (qe [xI 25 5,qv 26 25,yf 27 6,wl 28 [qB,qB,qF,.nils] [yj 1,xe 1 1],qX 29 4 [qB,qB,qF,.nils] 2 [yh 4 27,wD 4 4 28],wl 30 [qB,qB,qF,.nils] [yj 4,xk 3 29],yt 31 4 [qB,qB,qF,.nils] 1 4 30,wl 32 [qB,qF,.nils,.nils,.nils] [yj 2,xk 1 26,xk 2 31],qY 8 [qB,qF,.nils,.nils,.nils],qT 5 8 32] (ym [qZ 33,qZ 34,qV 35 34,qq 36 4 35,qv 37 36,xG 38 37 2,qV 39 33,qq 40 4 39,xt 40 38] (qA [yl 44,qH 41 5 5,yf 42 6,xK 43 4 [qB,qB,qF,.nils] 1 (yr 4 42),qH 45 5 8,xK 46 5 [qB,qF,.nils,.nils,.nils] 1 (yr 5 45),xh 47 5 96 44 46,yb 5 5 41,yb 4 6 42,wl 48 [qB,qF,.nils,.nils,.nils] [yj 6,xk 2 43,xk 3 47],qX 49 5 [qB,qF,.nils,.nils,.nils] 2 [yh 5 41,wD 5 5 48],qg 4 49]))))
def gR:FK:=⟨50,[xw],(AK.whole gY)⟩
theorem uo:ag Tryz.prog gW=some gR:=by kernel_rfl
def lP:FK:=⟨128,[xw],xD [xz 4 .nils] [qZ 7,qZ 8,qV 9 8,qq 10 4 9,qv 11 10,xG 12 11 1,qV 13 7,qq 14 4 13,xt 14 12] (xa [qZ 15,qV 16 15,wQ 17 16,qv 18 17,yk 19 18 (qj 13),qg 5 19] (.blk 0 (qC [xu 21,qy 22 .lss 21 3,qg 23 22,xC 24 23 0,qK 25 23 (qw 24),wY 26 23 2 25,wU 27 23 26,qK 28 23 (wd 27),xM 29 23 .gtr 28 0,xT 30 23 29,qg 20 30] 20 (qA [qZ 31,qV 32 31,wQ 33 32,qZ 35,qV 36 35,xv 37 36,qZ 40,qv 34 33,qv 38 37,xH 39 34 38,yc 41 40 3,yt 42 4 [qB,qB,qF,.nils] 1 4 41,wl 43 [qB,qF,.nils,.nils,.nils] [yj 2,xk 1 39,xk 2 42],yt 44 5 [qB,qF,.nils,.nils,.nils] 1 5 43,qg 4 44]) (qC [xu 46,qy 47 .lss 46 5,qg 45 47] 45 (qA [qZ 48,qZ 49,yc 50 49 3,wJ 51 dH 48 50,yt 52 5 [qB,qF,.nils,.nils,.nils] 1 5 51,qg 4 52]) (qC [xu 54,qy 55 .lss 54 7,qg 56 55,xy 57 56 1,yu 58 56 .lss 57 2,xW 59 56 58,qg 53 59] 53 (qA [qZ 60,yc 61 60 3,yt 62 4 [qB,qB,qF,.nils] 1 4 61,wl 63 [qB,qF,.nils,.nils,.nils] [yj 3,xk 2 62],yt 64 5 [qB,qF,.nils,.nils,.nils] 1 5 63,qg 4 64]) (qC [xu 66,wb 67 66 7,qg 65 67] 65 (qA [qZ 68,xr 69 eE 68,qZ 70,yc 71 70 2,qX 72 4 [qB,qB,qF,.nils] 2 [yh 4 69,wD 4 4 71],wl 73 [qB,qF,.nils,.nils,.nils] [yj 4,xk 2 72],yt 74 5 [qB,qF,.nils,.nils,.nils] 1 5 73,qg 4 74]) (qC [xu 76,wb 77 76 8,qg 75 77] 75 (qA [qZ 78,xr 79 eE 78,yt 80 4 [qB,qB,qF,.nils] 1 4 79,wl 81 [qB,qB,qF,.nils] [yj 12,xk 3 80],yt 82 4 [qB,qB,qF,.nils] 1 4 81,wl 83 [qB,qF,.nils,.nils,.nils] [yj 3,xk 2 82],yt 84 5 [qB,qF,.nils,.nils,.nils] 1 5 83,qg 4 84]) (qC [xu 86,qy 87 .lss 86 11,qg 85 87] 85 (xa [qZ 88,yc 89 88 3,yt 90 4 [qB,qB,qF,.nils] 1 4 89,qZ 91,xj 92,xG 93 92 1,wJ 94 aZ 91 93,wl 95 [qB,qF,.nils,.nils,.nils] [yj 5,xk 2 90,xk 3 94],qY 6 [qB,qF,.nils,.nils,.nils],qT 5 6 95] (xm [qZ 96,qV 97 96,wQ 98 97,qv 99 98,yk 100 99 (qj 2),wb 101 100 0] 101 [qZ 102,xj 103,xG 104 103 1,wJ 105 aZ 102 104,qq 106 4 6,xt 106 105]) [qH 107 5 6,yt 108 5 [qB,qF,.nils,.nils,.nils] 1 5 107,qg 4 108]) (wh [xu 110,wb 111 110 11,qg 112 111,xC 113 112 0,qK 114 112 (qw 113),wY 115 112 0 114,wU 116 112 115,qK 117 112 (xR aT 116 (qj 3)),xM 118 112 .eql 117 0,xT 119 112 118,qg 109 119] 109 [qZ 120,yc 121 120 2,yt 122 4 [qB,qB,qF,.nils] 1 4 121,wl 123 [qB,qF,.nils,.nils,.nils] [yj 7,xk 2 122],yt 124 5 [qB,qF,.nils,.nils,.nils] 1 5 123,qg 4 124])))))))) [qZ 125,xj 126,wJ 127 gW 125 126,qg 4 127])⟩
theorem tI:ag Tryz.prog io=some lP:=by kernel_rfl
def lz:FK:=⟨40,[xw],xD [xz 4 .nils] [qZ 8,qV 9 8,xv 10 9,qv 11 10,qg 5 11] (qN (wV (qX 12 5 [qB,qF,.nils,.nils,.nils] 0 []) 6 12) (xX [qZ 13,qV 14 13,wQ 15 14,qv 16 15,qX 17 1 [qB] 4 [yj 2,xe 1 3,xe 2 1,xe 3 4],wZ 18 16 17,qg 7 18] 0 [yl 19,qy 20 .gtr 19 0,qg 21 20,xC 22 21 0,qK 23 21 (qw 22),wY 24 21 4 23,wU 25 21 24,xM 26 21 .gtr 25 0,xT 27 21 26] 27 wA 1 (.reg [yx 30,qZ 31,xj 32,wJ 33 io 31 32,xh 34 5 96 30 33,x7 34]) [yl 28,xG 29 28 1,qg 7 29]) (xc [qZ 35,xu 36,qV 37 35,xv 38 37,xt 38 36] (wV (yx 39) 4 39)))⟩
theorem sU:ag Tryz.prog aZ=some lz:=by kernel_rfl
def jX:AK:=xD [qY 6 [qF,.nils,.nils]] [qZ 8,qX 9 1 [qF] 3 [yw 0 [97],yw 1 [98],yw 2 [99]],xx 10,qb 11 (.slS 1 (.t 9) none (some (.t 10))),qV 12 8,xv 13 12,xt 13 11] (qe [qZ 14,xx 15,xG 16 15 1,qV 17 14,xV 18 17,xt 18 16] (ym [xj 19,qX 20 1 [qF] 0 [],qZ 21,qV 22 21,xv 23 22,qv 24 23,xh 25 1 16 20 24,wl 26 [qF,.nils,.nils] [xk 0 19,xk 1 25],qY 7 [qF,.nils,.nils],qT 3 7 26] (xa [qZ 27,xY 28 aZ 27 3,xv 29 7,xt 29 28] (qO [qZ 30,qV 31 30,qq 32 4 31,qv 33 32,qy 34 .gtr 33 0,qg 35 34,xC 36 35 0,qK 37 35 (qw 36),wY 38 35 0 37,wU 39 35 38,qK 40 35 (xR aT 39 (qj 4)),xM 41 35 .gtr 40 0,xT 42 35 41] 42 (ya [qZ 43,qZ 44,qV 45 44,qq 46 4 45,qv 47 46,xG 48 47 1,qV 49 43,qq 50 4 49,xt 50 48] [xv 51 7,qZ 53,qv 52 51,yc 54 53 2,wX 51 52,xK 55 4 [qB,qB,qF,.nils] 1 (yr 4 54),wl 56 [qB,qF,.nils,.nils,.nils] [yj 7,xk 2 55],xK 57 5 [qB,qF,.nils,.nils,.nils] 1 (yr 5 56),xh 58 5 96 52 57,xv 59 7,xt 59 58])) [qH 60 3 7,qT 3 6 60])))
def jO:FK:=⟨61,[xU 6 3],(AK.whole jX)⟩
theorem yL:ag Tryz.prog gb=some jO:=by kernel_rfl
def rE:FK:=⟨69,[xU 2 1],qe [qY 2 yd] (qN [qZ 8,qZ 9,qX 10 1 [qB] 4 [yj 14,xe 1 20,xe 2 8,xe 3 26],wZ 11 9 10,wl 12 [.nilp,.nils,.nils,qB,qB] [xk 0 8,xk 4 11],wG 13 5 12,qg 3 13] (xX [qZ 14,qX 15 1 [qB] 4 [yj 0,xe 1 1,xe 2 1,xe 3 2],wZ 16 14 15,qg 4 16] 0 [qg 17 4,qy 18 .gtr 17 0] 18 wA 1 (ya [xz 5 .any,qg 21 3,xK 22 1 [qF] 3 [yw 0 [102],yw 1 [103],yw 2 [104]],qg 23 3,qV 24 23,xI 25 24,qZ 30,qv 26 25,wt 27 26,wB 28 1 22 27,qv 29 28,yk 31 30 (qj 3),wX 25 26,wX 28 29,xQ 32 gb 21 29 31,qY 5 [qF,.nils,.nils],qT 3 5 32] [qg 33 3,qg 34 3,qV 35 34,xI 36 35,qv 37 36,qH 38 3 5,xK 39 3 [qF,.nils,.nils] 1 (yr 3 38),xh 40 3 64 37 39,qV 41 33,xI 42 41,xt 42 40]) [qg 19 4,xG 20 19 1,qg 4 20]) (qe [qg 43 3,qZ 44,qX 45 1 [qB] 4 [yj 0,xe 1 1,xe 2 2,xe 3 1],wZ 46 44 45,qp 47 gb (xN 43 (wP [109]) (.t 46)),qY 6 [qF,.nils,.nils],qT 3 6 47] (xa [xz 7 .any,qg 49 3,qV 50 49,xI 51 50,qv 52 51,qH 54 3 6,xK 55 3 [qF,.nils,.nils] 1 (yr 3 54),qX 48 3 [qF,.nils,.nils] 0 [],wX 51 52,yb 3 6 54,xh 53 3 64 48 52,yb 3 6 54,xh 56 3 64 53 55,wl 57 yd [xk 0 56],qY 7 yd,xt 7 57] (wh [qH 58 1 7,xr 59 dw 58,xn 60 59] 60 [wl 61 [qB,qB,qF,.nils] [yj 1,xe 1 1],yt 62 4 [qB,qB,qF,.nils] 1 4 61,wl 63 [qB,qF,.nils,.nils,.nils] [yj 3,xk 2 62],yt 64 5 [qB,qF,.nils,.nils,.nils] 1 5 63,wl 65 [qF,.nils,.nils] [yw 0 [109],xk 2 64],yt 66 3 [qF,.nils,.nils] 1 3 65,wl 67 yd [xk 0 66],xt 2 67]) [qH 68 1 7,xt 2 68])))⟩
theorem Bz:ag Tryz.prog dm=some rE:=by kernel_rfl
def tT:FK:=⟨42,[xU 4 4],qe [qY 4 [qB,qB,qF,.nils]] (yn [qZ 8,qX 9 1 [qF] 4 [yw 0 [97],yw 1 [98],yw 2 [120],yw 3 [103,111]],xj 10,xQ 11 aU 8 9 10,qY 5 [qB,qB,qF,.nils],qT 4 5 11] [qZ 12,yk 13 12 (qj 3),qy 14 .gtr 13 0] 14 [yf 15 5,qT 4 4 15] (qN [qZ 16,qX 17 1 [qF] 3 [yw 0 [102],yw 1 [103],yw 2 [97]],xH 18 16 17,wl 19 [qB,qB,qF,.nils] [yj 13,xk 2 18],qY 6 [qB,qB,qF,.nils],qT 4 6 19] (xX [qZ 20,yk 21 20 (qj 4),qg 7 21] 0 [yl 22,qy 23 .gtr 22 0] 23 wA 1 (.reg [xV 26 6,qZ 28,xK 29 1 [qF] 2 [yw 0 [97],yw 1 [98]],qv 27 26,qp 30 aU (xO 28 29 (qj 2)),wX 26 27,xK 31 4 [qB,qB,qF,.nils] 1 (yr 4 30),xh 32 4 56 27 31,xV 33 6,xt 33 32]) [yl 24,xG 25 24 1,qg 7 25]) (xZ (wh [qZ 34,yk 35 34 (qj 2),wb 36 35 0] 36 [yf 37 6,qT 4 4 37]) [yf 38 5,yf 39 6,qX 40 4 [qB,qB,qF,.nils] 2 [yh 4 38,wD 4 4 39],wl 41 [qB,qB,qF,.nils] [yj 3,xk 3 40],qT 4 4 41])))⟩
theorem Dp:ag Tryz.prog gL=some tT:=by kernel_rfl
def sk:FK:=⟨40,[xU 2 4],qe [qY 2 [qB,qB,qF,.nils]] (xa [qZ 4,xY 5 gL 4 4,qY 3 [qB,qB,qF,.nils],qT 4 3 5] (qe [qZ 6,yk 7 6 (qj 20)] (.blk 0 (xp 9 7 0 8 9 8 (.reg [qZ 10,qX 11 1 [qB] 3 [yj (-1),xe 1 256,xe 2 3],wZ 12 10 11,xI 13 3,xt 13 12]) (xp 15 7 1 14 15 14 (.reg [qZ 16,qX 17 1 [qF] 5 [(0,1,.c qF),yw 1 [100,111],yw 2 [65],yw 3 [97,98,99,100,101],yw 4 [113]],xH 18 16 17,xv 19 3,xt 19 18]) (xp 21 7 2 20 21 20 (.reg [qZ 22,qX 23 1 [qB] 5 [yj 0,xe 1 14,xe 2 (-1),xe 3 5,xe 4 11],wZ 24 22 23,wQ 25 3,xt 25 24]) (xp 27 7 3 26 27 26 (.reg [xV 28 3,qZ 30,qv 29 28,wI 31 dp 30 (.c .nils),wX 28 29,xK 32 4 [qB,qB,qF,.nils] 1 (yr 4 31),xh 33 4 56 29 32,xV 34 3,xt 34 33]) (xm (wW 36 7 4 35 36) 35 [qZ 37,xY 38 gL 37 7,qT 4 3 38]))))))) [yf 39 3,qT 4 2 39])⟩
theorem BK:ag Tryz.prog mH=some sk:=by kernel_rfl
def my:AK:=xD [qY 2 yd] [qZ 9,xr 10 dm 9,qY 3 yd,xt 3 10] (qe [wQ 11 3,qv 12 11,wQ 13 3,qv 14 13,wt 15 14,xG 16 15 1,wB 17 3 12 16,qH 18 3 17,qY 4 [qF,.nils,.nils],qT 3 4 18] (.cut (qe [qZ 19,yk 20 19 (qj 32)] (.blk 0 (xp 22 20 0 21 22 21 (.reg [qZ 23,qX 24 1 [qF] 4 [yw 0 [102],yw 1 [100,111],(2,1,.c qF),yw 3 [103]],xH 25 23 24,wQ 26 4,xt 26 25]) (xp 28 20 1 27 28 27 (.reg [qX 29 1 [qF] 0 [],xI 30 4,qv 31 30,xh 32 1 16 29 31,qZ 33,qX 34 1 [qF] 3 [yw 0 [97],yw 1 [120],yw 2 [105,102]],xH 35 33 34,qX 36 1 [qF] 1 [xk 0 35],xh 37 1 16 32 36,xI 38 4,xt 38 37]) (xp 40 20 2 39 40 39 (.reg [qX 41 5 [qB,qF,.nils,.nils,.nils] 0 [],xv 42 4,qv 43 42,xh 44 5 96 41 43,qZ 45,xr 46 mH 45,yt 47 4 [qB,qB,qF,.nils] 1 4 46,wl 48 [qB,qF,.nils,.nils,.nils] [yj 3,xk 2 47],yt 49 5 [qB,qF,.nils,.nils,.nils] 1 5 48,xh 50 5 96 44 49,xv 51 4,xt 51 50]) (xp 53 20 3 52 53 52 (.reg [qX 54 5 [qB,qF,.nils,.nils,.nils] 0 [],xv 55 4,qv 56 55,xh 57 5 96 54 56,qZ 58,yk 59 58 (qj 10),qZ 60,qX 61 1 [qF] 3 [(0,1,.c qF),yw 1 [97],yw 2 [122,122]],xH 62 60 61,qZ 63,xY 64 gL 63 2,yt 65 4 [qB,qB,qF,.nils] 1 4 64,wl 66 [qB,qF,.nils,.nils,.nils] [xk 0 59,xk 1 62,xk 2 65],yt 67 5 [qB,qF,.nils,.nils,.nils] 1 5 66,xh 68 5 96 57 67,xv 69 4,xt 69 68]) (xp 71 20 4 70 71 70 (qe [wl 72 [qB,qB,qF,.nils] [yj 1],yt 73 4 [qB,qB,qF,.nils] 1 4 72,wl 74 [qB,qF,.nils,.nils,.nils] [yj 6,xk 2 73],qY 5 [qB,qF,.nils,.nils,.nils],qT 5 5 74] (.cut (xX [qZ 75,yk 76 75 (qj 5),x7 76] 1 [yx 77,qy 78 .gtr 77 0] 78 (.exit 1) 2 (.reg [qZ 81,xK 82 1 [qB] 2 [yj 5,xe 1 6],xv 84 5,qv 85 84,qH 86 5 5,xK 87 5 [qB,qF,.nils,.nils,.nils] 1 (yr 5 86),wZ 83 81 82,wX 84 85,yb 5 5 86,wl 88 [qB,qF,.nils,.nils,.nils] [xk 0 83,xk 2 85,xk 3 87],qT 5 5 88]) [yx 79,xG 80 79 1,x7 80]) (.reg [xv 90 4,qv 91 90,qH 93 5 5,xK 94 5 [qB,qF,.nils,.nils,.nils] 1 (yr 5 93),qX 89 5 [qB,qF,.nils,.nils,.nils] 0 [],wX 90 91,yb 5 5 93,xh 92 5 96 89 91,yb 5 5 93,xh 95 5 96 92 94,xv 96 4,xt 96 95]))) (xp 98 20 5 97 98 97 (qA [wl 99 yd [],xt 2 99]) (xp 101 20 6 100 101 100 (xX [qZ 102,qX 103 1 [qB] 3 [yj 20,xe 1 40,xe 2 41],wZ 104 102 103,qg 7 104] 3 [yl 105,qy 106 .gtr 105 0] 106 (.exit 3) 4 (.reg [qX 109 5 [qB,qF,.nils,.nils,.nils] 0 [],xv 110 4,qv 111 110,xh 112 5 96 109 111,yl 113,wl 114 [qB,qB,qF,.nils] [yj 1,xk 1 113],yt 115 4 [qB,qB,qF,.nils] 1 4 114,wl 116 [qB,qF,.nils,.nils,.nils] [yj 3,xk 2 115],yt 117 5 [qB,qF,.nils,.nils,.nils] 1 5 116,xh 118 5 96 112 117,xv 119 4,xt 119 118]) [yl 107,xG 108 107 1,qg 7 108]) (wh (wW 121 20 7 120 121) 120 [wQ 123 3,wQ 126 3,qv 124 123,qv 127 126,wu 128 3 127 yi,qH 129 3 128,xK 130 3 [qF,.nils,.nils] 1 (yr 3 129),qX 122 3 [qF,.nils,.nils] 0 [],wX 123 124,wX 126 127,yb 3 128 129,xh 125 3 64 122 124,wX 126 127,yb 3 128 129,xh 131 3 64 125 130,wl 132 yd [xk 0 131],xt 2 132])))))))))) (qe [qX 133 3 [qF,.nils,.nils] 0 [],wQ 134 3,qv 135 134,xh 136 3 64 133 135,qg 8 136] (xc [ye 137,ye 138,wt 139 138,xG 140 139 1,qH 141 3 4,wB 142 3 137 140,qT 3 142 141] [ye 143,wl 144 yd [xk 0 143],xt 2 144]))))
def mw:FK:=⟨145,[xU 2 1],(AK.whole my)⟩
theorem BB:ag Tryz.prog mD=some mw:=by kernel_rfl
def rY:FK:=⟨25,[xU 2 4],qe [wG 1 4 0,qY 2 [qB,qB,qF,.nils]] (qN (wV (qX 5 4 [qB,qB,qF,.nils] 0 []) 3 5) (xX [xS] 0 [x7 4,xV 7 1,qv 8 7,wt 9 8,xb 10 6 9] 10 wA 1 (.reg [qg 13 3,xV 14 1,qv 15 14,qg 16 4,wB 17 4 15 16,yf 18 17,xr 19 jb 18,yt 20 4 [qB,qB,qF,.nils] 1 4 19,xh 21 4 56 13 20,qg 3 21]) [qg 11 4,x8 12 11,qg 4 12]) (xc [qg 22 3,xV 23 1,xt 23 22] [yf 24 1,qT 4 2 24]))⟩
theorem Bm:ag Tryz.prog jb=some rY:=by kernel_rfl
def pi:FK:=⟨52,[xJ],qe [xz 2 .nils] (xa (wV (qX 8 5 [qB,qF,.nils,.nils,.nils] 0 []) 3 8) (xX [xS] 0 [qg 9 4,qZ 10,wt 11 10,xb 12 9 11] 12 wA 1 (qe [qZ 15,qg 16 4,wB 17 5 15 16,qH 18 5 17,qY 5 [qB,qF,.nils,.nils,.nils],qT 5 5 18] (qN (wV (qX 19 4 [qB,qB,qF,.nils] 0 []) 6 19) (xX [wT 7] 2 [yl 20,xv 21 5,qv 22 21,wt 23 22,xb 24 20 23] 24 (.exit 2) 3 (.reg [yx 27,xv 28 5,qv 29 28,yl 30,wB 31 4 29 30,yf 32 31,xr 33 jb 32,yt 34 4 [qB,qB,qF,.nils] 1 4 33,xh 35 4 56 27 34,x7 35]) [yl 25,x8 26 25,qg 7 26]) (.reg [qg 36 3,wQ 37 5,xI 39 5,yx 41,xV 42 5,qq 45 4 5,qv 38 37,qv 40 39,qv 43 42,qv 46 45,xr 44 dI 43,wX 37 38,wX 39 40,wX 45 46,xr 47 dI 46,wX 37 38,wX 39 40,wl 48 [qB,qF,.nils,.nils,.nils] [xk 0 38,xk 1 40,xk 2 41,xk 3 44,xk 4 47],yt 49 5 [qB,qF,.nils,.nils,.nils] 1 5 48,xh 50 5 96 36 49,qg 3 50]))) [qg 13 4,x8 14 13,qg 4 14]) (wV (qg 51 3) 2 51))⟩
theorem zl:ag Tryz.prog dI=some pi:=by kernel_rfl
def rO:FK:=⟨35,[xU 2 1],qe [wG 1 1 0,qY 2 yd] (xa [wl 6 yd [],qY 3 yd,xt 3 6] (xX [xS] 0 [qg 7 4,wQ 8 1,qv 9 8,wt 10 9,xb 11 7 10] 11 wA 1 (ya [wQ 14 1,qv 15 14,qg 16 4,wB 17 3 15 16,qH 18 3 17,qY 5 [qF,.nils,.nils],qT 3 5 18] [wQ 19 3,wQ 21 5,xI 24 5,xv 27 5,qv 20 19,qv 22 21,qv 25 24,qv 28 27,qX 23 1 [qF] 0 [],wX 19 20,wX 21 22,wX 24 25,wX 27 28,xh 26 1 16 23 25,wX 19 20,wX 21 22,wX 27 28,xr 29 dI 28,wX 19 20,wX 21 22,wl 30 [qF,.nils,.nils] [xk 0 22,xk 1 26,xk 2 29],yt 31 3 [qF,.nils,.nils] 1 3 30,wX 19 20,xh 32 3 64 20 31,wQ 33 3,xt 33 32]) [qg 12 4,x8 13 12,qg 4 13]) [qH 34 1 3,xt 2 34])⟩
theorem Bv:ag Tryz.prog mJ=some rO:=by kernel_rfl
def sj:FK:=⟨104,[xU 2 1],qe [qY 2 yd] (yn [qZ 7,xr 8 dm 7,qY 3 yd,xt 3 8] [qZ 9,yk 10 9 (qj 5),qy 11 .gtr 10 2] 11 [qH 12 1 3,xt 2 12] (.seq (wh [qZ 13,yk 14 13 (qj 6),wb 15 14 0] 15 [qZ 16,xr 17 mD 16,xt 2 17]) (qe [qH 18 1 3,xr 19 mJ 18,xt 3 19] (yn [wQ 20 3,qZ 22,wQ 23 3,qv 21 20,qv 24 23,wt 25 24,yk 26 22 (.t 25),wX 20 21,wB 27 3 21 26,qg 4 27] [qg 28 4,qV 29 28,xv 30 29,qv 31 30,wt 32 31,wb 33 32 0] 33 [qH 34 1 3,xt 2 34] (qe [qg 35 4,qV 36 35,xv 37 36,qZ 39,qg 40 4,qV 41 40,xv 42 41,qv 38 37,qv 43 42,wt 44 43,yk 45 39 (.t 44),wX 37 38,wB 46 5 38 45,qg 5 46] (qN [qZ 47,qX 48 1 [qF] 5 [yw 0 [122,122],yw 1 [97],yw 2 [98],yw 3 [99],yw 4 [100]],xH 49 47 48,wl 50 [qB,qB,qF,.nils] [yj 2,xk 2 49],qY 6 [qB,qB,qF,.nils],qT 4 6 50] (qe [qZ 51,yk 52 51 (qj 4)] (.blk 0 (xp 54 52 0 53 54 53 (.reg [qZ 55,qX 56 1 [qF] 4 [yw 0 [102],yw 1 [103],yw 2 [109],yw 3 [113]],xH 57 55 56,wl 58 [qB,qB,qF,.nils] [yj 1,xe 1 1],yt 59 4 [qB,qB,qF,.nils] 1 4 58,wl 60 [qB,qB,qF,.nils] [yj 13,xk 2 57,xk 3 59],qT 4 6 60]) (xp 62 52 1 61 62 61 (xZ (xm [xu 63,qV 64 63,xI 65 64,qv 66 65,qb 67 (yp .neq 66 (.c qF))] 67 [xu 68,qZ 69,qX 70 1 [qF] 5 [yw 0 [97],yw 1 [98],yw 2 [122,122],yw 3 [99],yw 4 [100]],xH 71 69 70,qV 72 68,xI 73 72,xt 73 71]) [qH 74 1 3,xt 2 74]) (qO (wW 76 52 2 75 76) 75 (xc [qg 77 4,qg 78 4,qV 79 78,xv 80 79,qg 82 4,qV 83 82,xv 84 83,qv 81 80,qv 85 84,qb 86 (.slS 5 (.t 85) none (some (qj 1))),xr 87 dI 86,wX 80 81,xh 88 5 96 81 87,qV 89 77,xv 90 89,xt 90 88] [qH 91 1 3,xt 2 91])))))) (xZ (xm [xu 92,qV 93 92,wQ 94 93,qv 95 94,qy 96 .neq 95 8] 96 [xu 97,qV 98 97,xv 99 98,qv 100 99,yf 101 6,wu 102 4 100 yi,qT 4 102 101]) [qH 103 1 3,xt 2 103])))))))⟩
theorem BL:ag Tryz.prog mI=some sj:=by kernel_rfl
def oz:AK:=xD [wG 3 1 1,xz 4 .nils] (wV (qX 8 1 [qB] 0 []) 5 8) (qe [wT 6] (.cut (xm [wQ 9 3,qv 10 9,wt 11 10,qy 12 .gtr 11 0] 12 [wQ 13 3,qv 14 13,wQ 15 3,qv 16 15,wt 17 16,xG 18 17 1,wB 19 3 14 18,xI 20 19,qv 21 20,wt 22 21,x7 22]) (.cut (xX [wT 7] 0 [yl 23,yx 24,xb 25 23 24] 25 wA 1 (.reg [xu 28,qZ 29,qZ 30,yk 31 30 (qj 256),qX 32 1 [qB] 8 [yj 0,xe 1 1,xe 2 2,xe 3 3,xe 4 7,xe 5 16,xe 6 255,xk 7 31],wZ 33 29 32,qX 34 1 [qB] 1 [xk 0 33],xh 35 1 8 28 34,qg 5 35]) [yl 26,x8 27 26,qg 7 27]) (xZ (qe [qZ 36,yk 37 36 (qj 40)] (.blk 2 (xp 39 37 0 38 39 38 (.reg [xu 40,qX 41 1 [qB] 1 [yj 0],xh 42 1 8 40 41,qg 5 42]) (qO (wW 44 37 1 43 44) 43 (xm [xu 45,wt 46 45,qy 47 .gtr 46 0] 47 [xu 48,qZ 49,qX 50 1 [qB] 2 [yj (-1),xe 1 256],wZ 51 49 50,wu 52 1 48 yi,xt 52 51]))))) (wV (xu 53) 4 53)))))
def pk:FK:=⟨54,[xw],(AK.whole oz)⟩
theorem Ew:ag Tryz.prog oO=some pk:=by kernel_rfl
def iF:FK:=⟨23,[xU 2 1,.t 3,xw],xD [qY 2 yd,xz 3 .nils,xS] [qZ 7,xr 8 kO 7,ye 5] (xa [xu 9,xr 10 dm 9,qY 6 yd,xt 6 10] (xm [xu 11,yk 12 11 (qj 12),wb 13 12 0] 13 [xu 14,xr 15 mI 14,xt 6 15]) [xu 17,xu 20,xK 21 1 [qB] 10 [yj 400,xe 1 400,xe 2 1000,xe 3 20,xe 4 5,xe 5 1,xe 6 0,xe 7 4000,xe 8 (-1),xe 9 4001],qH 16 1 6,qH 18 1 6,wJ 19 oO 17 18,yb 1 6 16,wZ 22 20 21,yb 1 6 16,xt 2 16,qg 3 19,qg 4 22])⟩
theorem oc:ag Tryz.prog ef=some iF:=by kernel_rfl
def lW:FK:=⟨15,[xU 2 1,.t 3],qe [qY 2 yd,xz 3 .nils] (xc [qZ 8,xr 9 ef 8,qg 7 9,wN 10 0 7,wN 11 1 7,wN 12 2 7,qY 4 yd,xt 4 10,qg 5 11,x7 12] [qH 13 1 4,xu 14,xt 2 13,qg 3 14])⟩
theorem uA:ag Tryz.prog iq=some lW:=by kernel_rfl
def lg:FK:=⟨26,[xw],yn [xo] [qZ 6,wt 7 6,xj 8,wt 9 8,ws 10 .neq 7 9] 10 [xo] (xZ (wR [qZ 11,wt 12 11,wT 13] 0 (qN [xb 14 13 12] (xL 14 wA) (wy 1 (qe (wV (qg 15 13) 5 15) (wh [qZ 16,xu 17,wB 18 1 16 17,xj 20,xu 21,wB 22 1 20 21,qv 19 18,qv 23 22,ws 24 .neq 19 23] 24 [xo])) (wV (x8 25 13) 13 25)))) [qd 4 wz])⟩
theorem sV:ag Tryz.prog dP=some lg:=by kernel_rfl
def kL:FK:=⟨31,[xw],xc [wG 2 4 0,wG 3 4 1,xo] [wQ 5 2,qv 6 5,wQ 7 3,qv 8 7,wJ 9 dP 6 8,qg 10 9,wY 11 10 1 2,wU 12 10 11,wY 13 10 1 3,wU 14 10 13,qK 15 10 (ql .eql 12 (.t 14)),xT 16 10 15,qg 17 16,wY 18 17 2 2,wU 19 17 18,wY 20 17 2 3,wU 21 17 20,qK 22 17 (ql .eql 19 (.t 21)),xT 23 17 22,qg 24 23,wY 25 24 3 2,wU 26 24 25,wY 27 24 3 3,wU 28 24 27,qK 29 24 (xR dP 26 (.t 28)),xT 30 24 29,qg 4 30]⟩
theorem sX:ag Tryz.prog gl=some kL:=by kernel_rfl
def iJ:AK:=yn [yq] [qZ 16,wt 17 16,qy 18 .gtr 17 1048576] 18 [qd 2 wz] (qe [qZ 20,xr 21 iq 20,qg 19 21,wN 22 0 19,wN 23 1 19,qY 3 yd,xt 3 22,qg 4 23] (yn [qH 24 1 3,qg 25 4,wJ 26 dZ 24 25,qg 5 26] [xu 27,qH 28 1 3,qg 29 4,wJ 30 eb 28 29,ws 31 .neq 27 30,qg 32 31,xy 33 32 5,yu 34 32 .lss 33 0,xW 35 32 34,qg 36 35,xE 37 36 0 3,xA 38 36 37,qL 39 36 (wd 38),yu 40 36 .eql 39 4,xW 41 36 40,qg 42 41,qL 43 42 (qk (some 1) 3),qL 44 42 (xR gA 43 (wP [119])),yu 45 42 .geq 44 0,xW 46 42 45] 46 [xu 47,qH 48 1 3,qg 49 4,wJ 50 eb 48 49,ws 51 .eql 47 50,qg 2 51] (xD [wQ 52 3,qv 53 52,wQ 54 3,qv 55 54,wt 56 55,xG 57 56 1,wB 58 3 53 57,qH 59 3 58,qY 6 [qF,.nils,.nils],qT 3 6 59] [wQ 60 6,qv 61 60,wl 62 [qB,qB,qF,.nils] [yj 13,xk 2 61],qY 7 [qB,qB,qF,.nils],qT 4 7 62] (.cut (wR [xI 63 6,qv 64 63,wt 65 64,wT 66] 0 (qN [xb 67 66 65] (xL 67 wA) (wy 1 (ya [wB 68 1 64 66,qv 69 68,qg 9 69] [xV 70 7,qv 71 70,qg 72 9,wl 73 [qB,qB,qF,.nils] [yj 2,xk 2 72],yt 74 4 [qB,qB,qF,.nils] 1 4 73,xh 75 4 56 71 74,xV 76 7,xt 76 75]) (wV (x8 77 66) 66 77)))) (ym [xI 78 6,qv 79 78,yf 80 7,yt 81 4 [qB,qB,qF,.nils] 1 4 80,wl 82 [qB,qF,.nils,.nils,.nils] [yj 7,xk 2 81],yt 83 5 [qB,qF,.nils,.nils,.nils] 1 5 82,wl 84 [qF,.nils,.nils] [yw 0 [119],xk 1 79,xk 2 83],qY 10 [qF,.nils,.nils],qT 3 10 84] (ym [xz 11 .any,wQ 86 3,qv 87 86,qH 89 3 10,xK 90 3 [qF,.nils,.nils] 1 (yr 3 89),qX 85 3 [qF,.nils,.nils] 0 [],wX 86 87,yb 3 10 89,xh 88 3 64 85 87,yb 3 10 89,xh 91 3 64 88 90,wl 92 yd [xk 0 91],qY 11 yd,xt 11 92] (.seq (wh [qH 93 1 11,xr 94 dA 93,xn 95 94,qg 96 95,xy 97 96 5,yu 98 96 .eql 97 4000,xW 99 96 98] 99 [qd 2 wz]) (qe [qH 101 1 3,qg 102 4,xu 103,xQ 104 dc 101 102 103,qg 100 104,wN 105 0 100,wN 106 1 100,qY 12 [.nils,qB,qB,.nils],qT 4 12 105,qg 13 106] (xc [qH 108 1 11,qg 109 4,xu 110,x8 111 110,xQ 112 dc 108 109 111,qg 107 112,wN 113 0 107,wN 114 1 107,qY 14 [.nils,qB,qB,.nils],qT 4 14 113,qg 15 114] [qg 115 13,qg 116 115,xC 117 116 15,xT 118 116 117,qg 119 118,qK 120 119 (qk (some 4) 14),qK 121 119 (qk (some 4) 12),qK 122 119 (xR gl 120 (.t 121)),xT 123 119 122,qg 124 123,qK 125 124 (qk (some 1) 11),xC 126 124 4,qK 127 124 (xR dZ 125 (.t 126)),xC 128 124 5,xM 129 124 .add 128 1,qK 130 124 (ql .eql 127 (.t 129)),xT 131 124 130,qg 2 131])))))))))
def iX:FK:=⟨132,[xJ],(AK.whole iJ)⟩
theorem uP:ag Tryz.prog na=some iX:=by kernel_rfl
end Go.Proofs.YtokiapglmedipaaGreatDoor
