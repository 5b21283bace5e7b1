/-
  Contracts and lemmas that the card needs, part 4.
-/
import Derived.Test.YtokiapglmedipaaGreatDoorCj3
import Derived.Test.YtokiapglmedipaaGreatDoorRows
namespace Go.Proofs.YtokiapglmedipaaGreatDoor
open Go Go.Aw
set_option maxRecDepth 100000
abbrev lz:FuncId:=56
abbrev nQ:FuncId:=239
abbrev nL:FuncId:=235
abbrev rm:FuncId:=221
abbrev iT:FuncId:=236
abbrev ru:FuncId:=222
abbrev dG:FuncId:=195
abbrev kX:FuncId:=237
abbrev kU:FuncId:=242
abbrev iL:FuncId:=240
abbrev jI:FuncId:=241
abbrev gP:FuncId:=238
abbrev lh:FuncId:=223
abbrev dd:FuncId:=196
abbrev sB:FuncId:=164
abbrev gH:FuncId:=197
abbrev rk:FuncId:=165
abbrev eZ:FuncId:=114
abbrev ox:FuncId:=199
abbrev bY:FuncId:=200
abbrev fG:FuncId:=224
abbrev lc:FuncId:=225
abbrev gn:FuncId:=201
abbrev gg:FuncId:=227
abbrev dO:FuncId:=226
abbrev dy:FuncId:=202
abbrev oc:FuncId:=169
abbrev ir:FuncId:=119
abbrev iE:FuncId:=70
abbrev dR:FuncId:=209
abbrev rC:FuncId:=210
abbrev eL:FuncId:=57
abbrev iq:FuncId:=172
abbrev im:FuncId:=122
abbrev gb:FuncId:=173
abbrev eM:FuncId:=124
abbrev eq:FuncId:=123
abbrev dE:FuncId:=75
abbrev ef:FuncId:=125
abbrev dp:FuncId:=76
abbrev dk:FuncId:=174
abbrev cF:FuncId:=126
abbrev iQ:FuncId:=175
abbrev lb:FuncId:=156
abbrev nq:FuncId:=228
abbrev iP:FuncId:=203
abbrev fv:FuncId:=176
abbrev kY:FuncId:=128
abbrev dK:FuncId:=127
abbrev dU:FuncId:=78
abbrev jN:FuncId:=129
abbrev gS:FuncId:=130
abbrev jJ:FuncId:=79
abbrev bQ:FuncId:=77
abbrev fa:FuncId:=37
abbrev dW:FuncId:=80
abbrev iD:FuncId:=81
abbrev lq:FuncId:=39
abbrev dw:FuncId:=72
abbrev eE:FuncId:=73
abbrev gR:FuncId:=170
abbrev di:FuncId:=121
abbrev cJ:FuncId:=171
abbrev ff:FuncId:=120
abbrev cg:FuncId:=74
abbrev dz:FuncId:=36
abbrev jo:FuncId:=68
abbrev fJ:FuncId:=189
abbrev ed:FuncId:=154
abbrev dN:FuncId:=155
abbrev nU:FuncId:=104
abbrev kW:FuncId:=53
abbrev bH:FuncId:=157
abbrev vg:FuncId:=105
abbrev bX:FuncId:=108
abbrev og:FuncId:=212
abbrev fg:FuncId:=190
abbrev gN:FuncId:=215
abbrev mQ:FuncId:=205
abbrev gM:FuncId:=180
abbrev fc:FuncId:=216
abbrev cC:FuncId:=213
abbrev ki:FuncId:=214
abbrev iu:FuncId:=191
abbrev bD:FuncId:=158
abbrev fh:FuncId:=107
abbrev fb:FuncId:=106
abbrev eA:FuncId:=54
abbrev iJ:FuncId:=17
abbrev cy:FuncId:=21
abbrev ke:FuncId:=60
abbrev bp:FuncId:=62
abbrev cR:FuncId:=65
abbrev ew:FuncId:=117
abbrev eI:FuncId:=198
abbrev bn:FuncId:=194
abbrev jQ:FuncId:=163
abbrev jd:FuncId:=234
abbrev ft:FuncId:=218
abbrev gm:FuncId:=219
abbrev jF:FuncId:=220
abbrev kg:FuncId:=193
abbrev bs:FuncId:=162
abbrev iS:FuncId:=113
abbrev dF:FuncId:=61
abbrev jA:FuncId:=167
abbrev pr:FuncId:=166
abbrev pm:FuncId:=115
abbrev ln:FuncId:=168
abbrev dT:FuncId:=118
abbrev fT:FuncId:=116
abbrev pj:FuncId:=63
abbrev fz:FuncId:=67
abbrev fH:FuncId:=31
abbrev gE:FuncId:=69
abbrev fk:FuncId:=33
abbrev iR:FuncId:=71
abbrev kR:FuncId:=34
abbrev dJ:FuncId:=38
abbrev bP:FuncId:=85
abbrev bf:FuncId:=133
abbrev bc:FuncId:=98
abbrev cz:FuncId:=137
abbrev la:FuncId:=91
abbrev ga:FuncId:=42
abbrev cQ:FuncId:=140
abbrev bZ:FuncId:=139
abbrev aI:FuncId:=138
abbrev dY:FuncId:=142
abbrev cN:FuncId:=141
abbrev cA:FuncId:=92
abbrev jV:FuncId:=143
abbrev bj:FuncId:=93
abbrev eF:FuncId:=43
abbrev dH:FuncId:=178
abbrev cX:FuncId:=144
abbrev fW:FuncId:=229
abbrev iI:FuncId:=230
abbrev lm:FuncId:=204
abbrev ll:FuncId:=179
abbrev cw:FuncId:=145
abbrev eJ:FuncId:=94
abbrev gh:FuncId:=44
abbrev mP:FuncId:=95
abbrev iX:FuncId:=146
abbrev eB:FuncId:=96
abbrev cD:FuncId:=45
abbrev pG:FuncId:=11
abbrev fC:FuncId:=46
abbrev fj:FuncId:=181
abbrev eC:FuncId:=206
abbrev iW:FuncId:=182
abbrev iV:FuncId:=147
abbrev js:FuncId:=99
abbrev aW:FuncId:=97
abbrev dQ:FuncId:=47
abbrev fL:FuncId:=48
abbrev oO:FuncId:=12
abbrev qa(a:Nat)(b:Option (Nat × Bool))(c:AI):CO:=⟨some a,b,c⟩
abbrev qb(a:Nat)(b:AI):CO:=qa a none b
abbrev qd(a:Nat)(b:AOp):CO:=qb a (.mov b)
abbrev qe(a:List CO)(b:AK):AK:= .seq (.reg a) b
abbrev qf(a:IntKind)(b:Int):AV:= .p (.int a b)
abbrev qg(a b:Nat):CO:=qd a (.t b)
abbrev qh(a:Int):AV:=qf .i64 a
abbrev qi(a:Nat)(b:Nat × Bool)(c:AI):CO:=qa a (some b) c
abbrev qj(a b:Nat):AI:= .fldA a (.t b)
abbrev qk(a:Option Nat)(b:Nat):AI:= .ld a (.t b)
abbrev ql(a:Int):AOp:= .c (qh a)
abbrev qm(a:BinOp)(b:Nat)(c:AOp):AI:= .bin a (.t b) c
abbrev qn(a:Nat)(b:Option Nat)(c:Nat):CO:=qb a (qk b c)
abbrev qo(a:Nat)(b c:AK):AK:= .cond (.t a) b c
abbrev qp(a:Nat)(b:FuncId)(c:List AOp):CO:=qb a (.call b c)
abbrev qq(a:Bool):AV:= .p (.bool a)
abbrev qr(a b c:Nat):CO:=qb a (qj b c)
abbrev qt(a:Nat)(b:BinOp)(c:Nat)(d:AOp):CO:=qb a (qm b c d)
abbrev qu(a b:Nat):CO:=qn a none b
abbrev qv(a:List UInt8):AV:= .p (.str a)
abbrev qw(a:Option (Nat × Bool))(b:AI):CO:=⟨none,a,b⟩
abbrev qx:AV:=qq false
abbrev qy(a:AI):CO:=qw none a
abbrev qz(a:List CO):AK:=qe a .ret
abbrev qA(a:Nat)(b:BinOp)(c:Nat)(d:Int):CO:=qt a b c (ql d)
abbrev qB(a:List CO)(b:Nat)(c d:AK):AK:=qe a (qo b c d)
abbrev qC:AV:=qh 0
abbrev qD(a b c:Nat):CO:=qn a (some b) c
abbrev qF(a b:Nat)(c:Bool)(d:AI):CO:=qi a (b,c) d
abbrev qG(a b:Nat)(c:AI):CO:=qF a b false c
abbrev qH(a b:Nat)(c:AI):CO:=qF a b true c
abbrev qI(a:Nat)(b c:AOp):CO:=qy (.st a b c)
abbrev qJ(a:Nat)(b c:AOp):AI:= .pick (.t a) b c
abbrev qK(a:Nat):AI:= .nilck (.t a)
abbrev qL:AV:=qv []
abbrev qM(a b:Nat)(c:AOp):AI:= .idxS a (.t b) c
abbrev qN(a b:Nat)(c:AOp):CO:=qI a (.t b) c
abbrev qO(a b c:Nat):CO:=qN a b (.t c)
abbrev qQ(a:AOp):AI:= .len false a
abbrev qS:AOp:= .c qx
abbrev qT(a:List CO)(b:Nat)(c:AK):AK:=qB a b c .skip
abbrev qU(a:List CO)(b c:AK):AK:=qe a (.seq b c)
abbrev qV:AOp:=ql 0
abbrev qW(a:Nat)(b:List AV):CO:=qb a (.alloc b)
abbrev qX(a b:Nat)(c:List AV)(d:Nat)(e:List (Nat × Nat × AOp)):CO:=qb a (.bsl b c d e)
abbrev qY(a:Nat)(b:AK):AK:= .blk a (.loop b)
abbrev qZ:AV:=qq true
abbrev q8(a:Nat):AI:=qk none a
abbrev q9(a:Nat):AI:= .mov (.t a)
abbrev wa(a:Nat):AI:=qQ (.t a)
abbrev wb(a:AK)(b:List CO):AK:= .seq a (.reg b)
abbrev wc(a b:Nat)(c:Int):CO:=qA a .eql b c
abbrev wd(a:Option Nat)(b c:Nat):CO:=qy (.chk a b c)
abbrev we(a b:Nat)(c d:AOp):CO:=qb a (qJ b c d)
abbrev wg(a:List CO)(b:Nat)(c:List CO):AK:=qT a b (qz c)
abbrev wh(a b:Nat):CO:=qb a (qK b)
abbrev wj(a:Nat):CO:=qg a 0
abbrev wl(a b c:Nat)(d:AOp):CO:=qb a (qM b c d)
abbrev wm(a b:Nat):CO:=qb a (wa b)
abbrev wn(a b:Nat):AI:= .box a (.t b)
abbrev wo(a:Nat)(b:BinOp)(c d:Nat):CO:=qt a b c (.t d)
abbrev wq(a:Nat):AI:= .not (.t a)
abbrev ws:AOp:= .c qZ
abbrev wt(a:Nat)(b:AK)(c:List CO):AK:=wb (.blk a b) c
abbrev wu(a b:Nat):AI:= .ext a (.t b)
abbrev wv(a b c d:Nat):CO:=wl a b c (.t d)
abbrev ww(a:Nat)(b:List AOp):CO:=qp a bp b
abbrev wx(a:Nat)(b:List AV)(c:List (Nat × Nat × AOp)):CO:=qb a (.bld b c)
abbrev wy:AK:= .exit 0
abbrev wz(a:Nat):CO:=qd a qV
abbrev wA(a b:Nat)(c:Int):CO:=qA a .add b c
abbrev wB(a b c:Nat):CO:=qb a (wn b c)
abbrev wD(a:Nat):CO:=qd a qS
abbrev wE(a:Nat)(b:AOp):List AOp:=[.t a,b]
abbrev wF(a:Nat)(b:FuncId)(c:Nat)(d:AOp):CO:=qp a b (wE c d)
abbrev wG(a:Nat)(b:FuncId)(c d:Nat):CO:=wF a b c (.t d)
abbrev wH(a b c:Nat):CO:=qH a b (q8 c)
abbrev wI(a b:Nat):CO:=wd none a b
abbrev wJ(a b c d:Nat):CO:=qH a b (qj c d)
abbrev wK(a:List CO)(b:Nat)(c d e:AK):AK:= .seq (qB a b c d) e
abbrev wL(a:List CO)(b:Nat)(c:AK):AK:=qe a (qY b c)
abbrev wM(a b c:Nat):CO:=qb a (wu b c)
abbrev wN(a b c:Nat)(d:AOp):AI:= .app a b (.t c) d
abbrev wP(a b c:Nat)(d:AOp):CO:=we a b (.t c) d
abbrev wQ:AOp:=ql 1
abbrev wR(a b:Nat):CO:=qr a 0 b
abbrev wS(a b c:Nat):CO:=wo a .lss b c
abbrev wT(a b c:Nat):Nat × Nat × AOp:=(a,b,.t c)
abbrev wU(a:List CO)(b:Nat)(c d:AK):AK:=wK a b .skip c d
abbrev wV(a:List CO)(b:AK)(c:List CO):AK:=qU a b (qz c)
abbrev wW(a b c:Nat):CO:=qG a b (q8 c)
abbrev wY(a b:Nat)(c:AOp)(d:Nat):CO:=we a b c (.t d)
abbrev wZ(a b c d:Nat):CO:=qG a b (qj c d)
abbrev xa(a:CO)(b c:Nat):List CO:=[a,qg b c]
abbrev xb(a b:Nat)(c:Int)(d e:Nat):List CO:=xa (wc a b c) d e
abbrev xc(a:Nat):List AOp:=[.t a]
abbrev xd(a:Nat)(b:FuncId)(c:Nat):CO:=qp a b (xc c)
abbrev xe(a b c:Nat):CO:=qG a b (q9 c)
abbrev xf(a b:Nat)(c:BinOp)(d:Nat)(e:AOp):CO:=qH a b (qm c d e)
abbrev xg(a b:List CO):AK:=qe a (qz b)
abbrev xh(a:List UInt8):AOp:= .c (qv a)
abbrev xi:AOp:= .c .nils
abbrev xj:Option Nat:=some 4
abbrev xk(a b c:Nat):CO:=wG a cR b c
abbrev xm:CO:=wD 4
abbrev xn(a b c d:Nat):AI:=wN a b c (.t d)
abbrev xo(a:FuncId)(b:Nat)(c:AOp):AI:= .call a (wE b c)
abbrev xp(a b c d e:Nat):CO:=qb a (xn b c d e)
abbrev xq(a b:Nat):CO:=qb a (wq b)
abbrev xr(a b:Nat):CO:=qO 1 a b
abbrev xt(a:Nat):CO:=qg a 1
abbrev xu(a:Nat):CO:=qg a 5
abbrev xv:List AV:=[.nils]
abbrev xw(a b:Nat):CO:=qr a 2 b
abbrev xx(a b:List CO)(c:AK):AK:=qe a (qe b c)
abbrev xy(a b c:Nat):CO:=wP a b c qS
abbrev xz(a:Nat):List RV:=[.t a]
abbrev xA(a:List CO)(b:Nat)(c:AK)(d:Nat)(e:AK)(f:List CO):AK:=wU a b c (wt d e f)
abbrev xB(a b:Nat):CO:=qD a 4 b
abbrev xC(a:Nat)(b:AK):AK:=qo a .skip b
abbrev xD(a:AK)(b:List CO):AK:= .seq a (qz b)
abbrev xE(a b:Nat):Nat × Nat × AOp:=wT 0 a b
abbrev xF:List RV:=xz 2
abbrev xG(a:List CO)(b:Nat)(c:AK)(d:List CO)(e:Nat)(f g:AK):AK:=qB a b c (qB d e f g)
abbrev xH(a b c:Nat):CO:=qH a b (q9 c)
abbrev xI:List RV:=xz 4
abbrev xJ(a b c:Nat):CO:=wY a b ws c
abbrev xK(a:List CO)(b:Nat)(c:List CO):AK:=qT a b (.reg c)
abbrev xL(a:List CO)(b:Nat)(c:List CO)(d:Nat)(e:AK)(f:Nat)(g:AK)(h:List CO):AK:=wL a b (xA c d e f g h)
abbrev xM(a b:Nat):CO:=qr a 3 b
abbrev xN(a b:Nat)(c:BinOp)(d:Nat)(e:AOp):CO:=qG a b (qm c d e)
abbrev xO:AOp:=ql 2
abbrev xP:AOp:=ql 3
abbrev xQ(a b:List CO)(c:Nat)(d:List CO)(e:AK):AK:=qU a (wg b c d) e
abbrev xR(a b:Nat):CO:=wA a b 1
abbrev xS(a:Nat)(b:List AOp):CO:=qp a cC b
abbrev xT(a:Nat)(b:AOp):List CO:=[qd a b]
abbrev xU:Option Nat:=some 1
abbrev xV(a b:Nat):CO:=qO 4 a b
abbrev xW(a b c:Nat):CO:=wG a ew b c
abbrev xX(a:Nat)(b:List AOp):AI:= .callv (.t a) b
abbrev xY(a b:Nat):List (Nat × Nat × AOp):=[xE a b]
abbrev xZ(a b:Nat)(c:List AV)(d e f:Nat):CO:=qX a b c d (xY e f)
abbrev x7(a b:Nat)(c:Int):CO:=qA a .sub b c
abbrev x8:CO:=wz 4
abbrev x9(a:BinOp)(b:Nat)(c:AOp):AI:= .bins a (.t b) c
abbrev ya(a b:Nat)(c:List AV)(d:Nat)(e:List (Nat × Nat × AOp)):CO:=qb a (.bslP b c d e)
abbrev yb(a:List CO)(b:Nat)(c d:AK):AK:=qU a (xC b c) d
abbrev yc(a:Nat):CO:=qg 6 a
abbrev yd:CO:=wD 2
abbrev ye(a b:Nat)(c:AOp):CO:=ww a (wE b c)
abbrev yf(a b c d:Nat):List CO:=xa (xR a b) c d
abbrev yg(a:List CO)(b:AK):AK:= .cut (.reg a) b
abbrev yh(a:Nat)(b c:AOp):List AOp:=[.t a,b,c]
abbrev yi(a b:Nat)(c:AOp):List AOp:=yh a (.t b) c
abbrev yj(a b c:Nat):List AOp:=yi a b (.t c)
abbrev yk(a:Nat)(b:FuncId)(c d e:Nat):CO:=qp a b (yj c d e)
abbrev yl(a:Nat):CO:=qg a 2
abbrev ym(a b:Nat):Nat × Nat × AOp:=wT a 1 b
abbrev yn(a:List CO)(b:Nat)(c:List CO)(d:Nat)(e f:AK):AK:=wL a b (yb c d e f)
abbrev yp(a b:Nat):CO:=qr a 1 b
abbrev yq(a b:Nat)(c:Int):Nat × Nat × AOp:=(a,b,ql c)
abbrev yr(a:Nat)(b:Int):Nat × Nat × AOp:=yq a 1 b
abbrev yt(a b:Nat)(c:AOp):CO:=wF a jQ b c
abbrev yu(a b:List CO):AK:=qe a (.reg b)
abbrev yv(a:Nat):CO:=qg 4 a
abbrev yw(a b:Nat):CO:=wB a b 0
abbrev yx(a:Nat)(b:AK)(c d e f:Nat):AK:=wt a b (yf c d e f)
abbrev yy(a b c:Nat):CO:=qG a b (wq c)
abbrev yz(a:Nat):CO:=qg a 7
abbrev yA(a b:Nat)(c:AOp):CO:=wF a dw b c
abbrev yB(a b:Nat):CO:=qD a 1 b
abbrev yC(a:List AOp):AI:= .call lz a
abbrev yD(a:Nat):CO:=qg a 3
abbrev yE(a:Nat):CO:=qg a 6
abbrev yF:List CO:=[xm]
abbrev yG(a b:Nat)(c:Int):CO:=qA a .gtr b c
abbrev yH(a b:Nat)(c:AOp):CO:=wF a jV b c
abbrev yI(a:Nat):CO:=qg a 4
abbrev yJ(a:Nat):CO:=qg a 8
def sY:FK:=⟨15,xz 6,xg [wD 6] [wj 7,xt 8,wo 9 .geq 7 8,qg 10 9,xH 11 10 0,xH 12 10 2,xf 13 10 .leq 11 (.t 12),xy 14 10 13,yc 14]⟩
theorem KK:af Tryz.prog lz=some sY:=by kernel_rfl
def sN:FK:=⟨18,xI,wV [x8] (xL [wz 5] 0 [xu 6,wj 7,qb 8 (.len true (.t 7)),wS 9 6 8] 9 wy 1 (wg [wj 12,xu 13,qb 14 (.idxStr (.t 12) (.t 13)),xt 15,wo 16 .eql 14 15] 16 (xa (xu 17) 4 17)) [xu 10,xR 11 10,qg 5 11]) (xT 4 (ql (-1)))⟩
theorem DV:af Tryz.prog nQ=some sN:=by kernel_rfl
def tj:FK:=⟨28,xF,wV [wz 2] (.blk 0 (xG [wj 4,qt 5 .geq 4 (.c (qf .u8 97)),xu 6,xH 7 6 0,xf 8 6 .leq 7 (.c (qf .u8 122)),xy 9 6 8,qg 3 9] 3 (qz (xT 2 wQ)) [wj 11,qt 12 .geq 11 (.c (qf .u8 48)),qg 13 12,xH 14 13 0,xf 15 13 .leq 14 (.c (qf .u8 57)),xy 16 13 15,qg 10 16] 10 (qz (xT 2 xO)) (qB [wj 18,qp 19 nQ [xh [40,41,123,125,59,44,43,45,42,47,37,60,61,38,33,64],.t 18],qA 20 .geq 19 0,qg 17 20] 17 (qz (xT 2 xP)) (wg [wj 22,qt 23 .eql 22 (.c (qf .u8 32)),qg 24 23,xe 25 24 0,xN 26 24 .eql 25 (.c (qf .u8 10)),xJ 27 24 26,qg 21 27] 21 (xT 2 (ql 4)))))) [wz 2]⟩
theorem DJ:af Tryz.prog nL=some tj:=by kernel_rfl
def zp:FK:=⟨21,xI,wV yF (xL [wz 5] 0 [xu 6,wj 7,qb 8 (.len true (.t 7)),wS 9 6 8] 9 wy 1 (wg [wj 12,xu 13,qb 14 (.idxStr (.t 12) (.t 13)),xd 15 nL 14,xt 16,wo 17 .neq 15 16] 17 yF) [xu 10,xR 11 10,qg 5 11]) [wj 18,qb 19 (.len true (.t 18)),yG 20 19 0,yv 20]⟩
theorem Id:af Tryz.prog rm=some zp:=by kernel_rfl
def rP:FK:=⟨2,xz 0,xg (xT 0 xi) (xa (qX 1 1 [qL] 9 [(0,1,xh [102,110]),(1,1,xh [108,101,116]),(2,1,xh [115,97,121]),(3,1,xh [112,117,116]),(4,1,xh [105,102]),(5,1,xh [101,108,115,101]),(6,1,xh [108,111,111,112]),(7,1,xh [98,97,99,107]),(8,1,xh [100,111])]) 0 1)⟩
theorem Cb:af Tryz.prog iT=some rP:=by kernel_rfl
def zz:FK:=⟨18,xF,qe [yd] (wV (xa (qp 5 iT []) 3 5) (xL [x8] 0 [yc 4,yD 7,wm 8 7,wS 9 6 8] 9 wy 1 (wg [yD 12,yI 13,wv 14 1 12 13,qu 15 14,wj 16,qb 17 (x9 .eql 15 (.t 16))] 17 (xT 2 ws)) [yI 10,xR 11 10,yv 11]) [yd])⟩
theorem Hb:af Tryz.prog ru=some zz:=by kernel_rfl
def uO:FK:=⟨15,xF,xg [yd] [wj 3,wF 4 rm 3 wQ,yI 5,xH 6 5 0,qH 7 5 (.len true (.t 6)),xf 8 5 .leq 7 (ql 4),xy 9 5 8,qg 10 9,xH 11 10 0,qH 12 10 (.call ru (xc 11)),qH 13 10 (wq 12),xy 14 10 13,qg 2 14]⟩
theorem FM:af Tryz.prog dG=some uO:=by kernel_rfl
def px:FK:=⟨5,xF,wV [wz 2] (wg [wj 3,wc 4 3 4] 4 (xT 2 xO)) (xT 2 wQ)⟩
theorem EZ:af Tryz.prog kX=some px:=by kernel_rfl
def eK:FK:=⟨13,[.t 2,.t 3],wV [wz 2,wz 3] (qe [wj 4] (.blk 0 (wU (xb 6 4 1 5 6) 5 (.reg (xb 7 4 2 5 7)) (qo 5 (qz [wz 2,wz 3]) (wU (xb 9 4 11 8 9) 8 (.reg (xb 10 4 12 8 10)) (qo 8 (qz [qd 2 wQ,qd 3 wQ]) (wg (xb 12 4 13 11 12) 11 [wz 2,qd 3 xP]))))))) [qd 2 xO,qd 3 xO]⟩
theorem Fs:af Tryz.prog kU=some eK:=by kernel_rfl
def kZ:FK:=⟨86,xI,qe [yw 2 4,xm] (xQ [wR 10 2,qu 11 10,xd 12 kU 11,qg 9 12,wM 13 0 9,wM 14 1 9,qg 5 13,yc 14] [xt 15,qA 16 .lss 15 1,qg 17 16,wZ 18 17 0 2,wW 19 17 18,qG 20 17 (yC (yh 19 wQ (ql 13))),yy 21 17 20,xJ 22 17 21,qg 23 22,wZ 24 23 3 2,wW 25 23 24,qG 26 23 (wa 25),xe 27 23 5,xe 28 23 6,qG 29 23 (yC (yj 26 27 28)),yy 30 23 29,xJ 31 23 30] 31 yF (xQ [wR 32 2,qu 33 32,wc 34 33 2,qg 35 34,wZ 36 35 0 2,wW 37 35 36,xN 38 35 .eql 37 (ql 13),xJ 39 35 38,qg 7 39] [yz 40,xw 41 2,qu 42 41,xd 43 dG 42,qb 44 (.beq true (.t 40) (.t 43)),qg 45 44,xe 46 45 7,yy 47 45 46,xe 48 45 47,wJ 49 48 2 2,wH 50 48 49,qH 51 48 (x9 .neq 50 (.c qL)),qG 52 45 (qJ 48 (.t 51) qS),xJ 53 45 52,qg 54 53,wZ 55 54 1 2,wW 56 54 55,qG 57 54 (yC (yh 56 qV (ql 255))),yy 58 54 57,xJ 59 54 58,qg 60 59,wZ 61 60 0 2,wW 62 60 61,xN 63 60 .neq 62 wQ,xe 64 60 63,wJ 65 64 1 2,wH 66 64 65,xf 67 64 .neq 66 qV,qG 68 60 (qJ 64 (.t 67) qS),xJ 69 60 68] 69 yF (xD (xL [wz 8] 0 [yJ 70,xM 71 2,qu 72 71,wm 73 72,wS 74 70 73] 74 wy 1 (wg [xM 77 2,qu 78 77,yJ 79,wv 80 4 78 79,xB 81 80,xt 82,x7 83 82 1,wG 84 iL 81 83,xq 85 84] 85 yF) [yJ 75,xR 76 75,qg 8 76]) (xT 4 ws))))⟩
theorem uK:af Tryz.prog iL=some kZ:=by kernel_rfl
def sV:FK:=⟨21,xF,qe [yw 1 4,wz 2] (wV (xT 3 wQ) (xL [x8] 0 [yI 5,xM 6 1,qu 7 6,wm 8 7,wS 9 5 8] 9 wy 1 (.reg [yD 12,xM 13 1,qu 14 13,yI 15,wv 16 4 14 15,xB 17 16,xd 18 jI 17,wo 19 .add 12 18,qg 3 19]) [yI 10,xR 11 10,yv 11]) (xa (yD 20) 2 20))⟩
theorem EW:af Tryz.prog jI=some sV:=by kernel_rfl
def pS:FK:=⟨10,xF,xg [yw 1 4,yd] [xB 3 1,wF 4 iL 3 (ql 6),yI 5,qH 6 5 (qk xj 1),qH 7 5 (.call jI (xc 6)),xf 8 5 .leq 7 (ql 30),xy 9 5 8,qg 2 9]⟩
theorem Bb:af Tryz.prog gP=some pS:=by kernel_rfl
def kT:FK:=⟨108,xI,xQ [yw 2 5,xm] [xt 7,qA 8 .lss 7 1,yJ 9,wZ 10 9 0 2,wW 11 9 10,qG 12 9 (yC (yh 11 wQ (ql 8))),yy 13 9 12,xJ 14 9 13,qg 15 14,wZ 16 15 2 2,wZ 19 15 0 2,wW 17 15 16,qG 18 15 (wa 17),wW 20 15 19,qG 21 15 (.qcall kX (xc 20)),xN 22 15 .neq 18 (.t 21),xJ 23 15 22] 23 yF (xQ [wR 24 2,qu 25 24,wc 26 25 1,qg 27 26,wZ 28 27 0 2,wW 29 27 28,xN 30 27 .eql 29 xO,xJ 31 27 30,qg 5 31] [xu 32,yp 33 2,qu 34 33,xd 35 dG 34,qb 36 (.beq true (.t 32) (.t 35)),qg 37 36,xe 38 37 5,yy 39 37 38,xe 40 37 39,wJ 41 40 1 2,wH 42 40 41,qH 43 40 (x9 .neq 42 (.c qL)),qG 44 37 (qJ 40 (.t 43) qS),xJ 45 37 44] 45 yF (.seq (xL [wz 6] 0 [yE 46,xw 47 2,qu 48 47,wm 49 48,wS 50 46 49] 50 wy 1 (wg [xw 53 2,qu 54 53,yE 55,wv 56 4 54 55,xB 57 56,xd 58 gP 57,xq 59 58] 59 yF) [yE 51,xR 52 51,yc 52]) (.seq (wg [wR 60 2,qu 61 60,wc 62 61 8,qg 63 62,wJ 64 63 2 2,wH 65 63 64,qH 66 63 (qM 4 65 qV),wJ 67 63 0 66,wH 68 63 67,xf 69 63 .neq 68 (ql 13),xy 70 63 69] 70 yF) (xD (wg [qr 71 4 2,qu 72 71,wm 73 72,yG 74 73 0,qg 75 74,wJ 76 75 0 2,wH 77 75 76,xf 78 75 .neq 77 (ql 5),xy 79 75 78,qg 80 79,wZ 81 80 3 2,wW 82 80 81,qG 83 80 (wa 82),xN 84 80 .gtr 83 qV,xe 85 80 84,wJ 86 85 0 2,wH 87 85 86,xf 88 85 .neq 87 (ql 5),qG 89 80 (qJ 85 (.t 88) qS),xe 90 80 89,wJ 91 90 0 2,wH 92 90 91,xf 93 90 .neq 92 (ql 6),qG 94 80 (qJ 90 (.t 93) qS),xJ 95 80 94] 95 yF) [xM 96 2,qu 97 96,xt 98,x7 99 98 1,wG 100 dd 97 99,qg 101 100,wJ 102 101 4 2,wH 103 101 102,xH 104 101 1,xf 105 101 .sub 104 wQ,qH 106 101 (xo dd 103 (.t 105)),xy 107 101 106,yv 107]))))⟩
theorem uN:af Tryz.prog lh=some kT:=by kernel_rfl
def sI:FK:=⟨19,xI,wV yF (xL [wz 5] 0 [xu 6,wj 7,wm 8 7,wS 9 6 8] 9 wy 1 (wg [wj 12,xu 13,wv 14 5 12 13,qD 15 5 14,xt 16,wG 17 lh 15 16,xq 18 17] 18 yF) [xu 10,xR 11 10,qg 5 11]) (xT 4 ws)⟩
theorem Ea:af Tryz.prog dd=some sI:=by kernel_rfl
def BO:FK:=⟨32,xF,wV [yw 1 3,yd] (xL [wz 3] 0 [yv 3,yp 5 1,qu 6 5,wm 7 6,wS 8 4 7] 8 wy 1 (wg [yp 11 1,qu 12 11,yD 13,wv 14 1 12 13,qu 15 14,xd 16 dG 15,xq 17 16] 17 [yd]) [yD 9,xR 10 9,qg 3 10]) [wR 18 1,qu 19 18,xd 20 dG 19,qg 21 20,wJ 22 21 1 1,wH 23 21 22,qH 24 21 (wa 23),xf 25 21 .leq 24 xP,xy 26 21 25,qg 27 26,wJ 28 27 2 1,wH 29 27 28,qH 30 27 (xo dd 29 (ql 4)),xy 31 27 30,qg 2 31]⟩
theorem JX:af Tryz.prog sB=some BO:=by kernel_rfl
def nw:FK:=⟨29,xF,qe [wz 2] (wV [wj 5,wm 6 5,yE 3] (xL [x8] 0 [yI 7,wj 8,wm 9 8,wS 10 7 9] 10 wy 1 (.reg [yD 13,wj 14,yI 15,wv 16 5 14 15,xM 17 16,wj 21,yI 22,wv 23 5 21 22,qr 24 4 23,qu 18 17,qu 25 24,xd 19 gH 18,wI 24 25,wo 20 .add 13 19,xd 26 gH 25,wo 27 .add 20 26,qg 3 27]) [yI 11,xR 12 11,yv 12]) (xa (yD 28) 2 28))⟩
theorem sk:af Tryz.prog gH=some nw:=by kernel_rfl
def Ab:FK:=⟨22,xF,qe [yw 1 1,wz 2] (wV [wz 3] (xL [x8] 0 [yI 5,wR 6 1,qu 7 6,wm 8 7,wS 9 5 8] 9 wy 1 (.reg [yD 12,wR 13 1,qu 14 13,yI 15,wv 16 3 14 15,xw 17 16,qu 18 17,xd 19 gH 18,wo 20 .add 12 19,qg 3 20]) [yI 10,xR 11 10,yv 11]) (xa (yD 21) 2 21))⟩
theorem Ih:af Tryz.prog rk=some Ab:=by kernel_rfl
def mr:FK:=⟨26,xF,xQ [yw 1 1,yd] [wR 4 1,qu 5 4,wm 6 5,qp 7 lz (yh 6 wQ (ql 4)),xq 8 7] 8 [yd] (xD (xL [wz 3] 0 [yD 9,wR 10 1,qu 11 10,wm 12 11,wS 13 9 12] 13 wy 1 (wg [wR 16 1,qu 17 16,yD 18,wv 19 3 17 18,qD 20 3 19,xd 21 sB 20,xq 22 21] 22 [yd]) [yD 14,xR 15 14,qg 3 15]) [yB 23 1,xd 24 rk 23,qA 25 .leq 24 40,qg 2 25])⟩
theorem ug:af Tryz.prog eZ=some mr:=by kernel_rfl
def BQ:FK:=⟨22,xI,wV [yw 2 1,x8] (xL [wz 5] 0 [xu 6,wR 7 2,qu 8 7,wm 9 8,wS 10 6 9] 10 wy 1 (wg [wR 13 2,qu 14 13,xu 15,wv 16 3 14 15,wR 17 16,qu 18 17,xt 19,qb 20 (x9 .eql 18 (.t 19))] 20 (xa (xu 21) 4 21)) [xu 11,xR 12 11,qg 5 12]) (xT 4 (ql (-1)))⟩
theorem Jg:af Tryz.prog ox=some BQ:=by kernel_rfl
def jj:FK:=⟨13,[],xK [wj 4,wh 5 4,qr 6 4 5,qu 7 6,wc 8 7 0] 8 [wj 9,xt 10,wh 11 9,qr 12 4 11,xr 12 10]⟩
theorem vS:af Tryz.prog bY=some jj:=by kernel_rfl
def ji:FK:=⟨27,xI,wV [x8] (xL [wj 6,wh 7 6,xw 8 7,qu 9 8,wm 10 9,x7 11 10 1,qg 5 11] 0 [xu 12,qA 13 .geq 12 0] 13 wy 1 (wg [wj 16,wh 17 16,xw 18 17,qu 19 18,xu 20,wv 21 3 19 20,wR 22 21,qu 23 22,xt 24,qb 25 (x9 .eql 23 (.t 24))] 25 (xa (xu 26) 4 26)) [xu 14,x7 15 14 1,qg 5 15]) (xT 4 (ql (-1)))⟩
theorem vM:af Tryz.prog fG=some ji:=by kernel_rfl
def uZ:FK:=⟨11,xF,qe (xT 2 (.c qL)) (xg [wj 4,qA 5 .rem 4 26,xu 3] [yc 3,yD 7,xR 8 7,qb 9 (.slStr (xh [97,98,99,100,101,102,103,104,105,106,107,108,109,110,111,112,113,114,115,116,117,118,119,120,121,122]) (some (.t 6)) (some (.t 8))),qb 10 (.bins .add (xh [118]) (.t 9)),qg 2 10])⟩
theorem Ff:af Tryz.prog lc=some uZ:=by kernel_rfl
def jK:AK:=xx (xT 6 (.c qL)) [wj 8,xt 9,wG 10 fG 8 9,qg 7 10] (.cut (xK [yz 11,qA 12 .geq 11 0,qg 13 12,xH 14 13 0,qH 15 13 (qK 14),wJ 16 13 2 15,wH 17 13 16,xH 18 13 7,qH 19 13 (qM 3 17 (.t 18)),wJ 20 13 2 19,wH 21 13 20,xH 22 13 2,xf 23 13 .eql 21 (.t 22),xy 24 13 23] 24 [wj 25,wF 26 bY 25 xO]) (qe [wj 27,wj 28,wh 29 28,xw 30 29,xt 32,wj 33,wh 34 33,xM 35 34,yl 37,qu 31 30,qu 36 35,wx 38 [qL,qC,qC] [xE 1 32,ym 1 36,ym 2 37],ya 39 3 [qL,qC,qC] 1 (xY 3 38),xp 40 3 32 31 39,wh 41 27,xw 42 41,xr 42 40] (xg [wj 43,wj 44,wh 45 44,xM 46 45,qu 47 46,xR 48 47,wh 49 43,xM 50 49,xr 50 48] [wj 51,wh 52 51,xM 53 52,qu 54 53,x7 55 54 1,xd 56 lc 55,yc 56])))
def kh:FK:=⟨57,xz 6,(AK.whole jK)⟩
theorem zl:af Tryz.prog gn=some kh:=by kernel_rfl
def oG:FK:=⟨23,xI,qe (xT 4 (.c qL)) (wV [wj 6,xt 7,wG 8 fG 6 7,yJ 5] (qT [xu 9,qA 10 .lss 9 0] 10 (xg [wj 11,wF 12 bY 11 xP] (xa (xt 13) 4 13))) [wj 14,wh 15 14,xw 16 15,qu 17 16,xu 18,wv 19 3 17 18,yp 20 19,qu 21 20,xd 22 lc 21,yv 22])⟩
theorem yZ:af Tryz.prog gg=some oG:=by kernel_rfl
def jb:AK:=qe [wB 3 4 1,qW 4 [qC,qC,qL,.nils]] (.cut (xK [wR 8 3,qu 9 8,wc 10 9 2] 10 [wj 11,xw 12 3,qu 13 12,wG 14 gg 11 13,xw 15 3,xr 15 14]) (.cut (qT [wR 16 3,qu 17 16,wc 18 17 13] 18 (qe [wj 19,wh 20 19,wR 21 20,xw 23 3,yB 22 21,qu 24 23,wG 25 ox 22 24,qg 5 25] (qB [xu 26,qA 27 .lss 26 0,qg 28 27,xe 29 28 5,xe 30 28 0,qG 31 28 (qK 30),wZ 32 28 1 31,wW 33 28 32,xN 34 28 .geq 29 (.t 33),xJ 35 28 34] 35 (.reg [wj 36,wF 37 bY 36 (ql 4)]) (xK [wj 38,wh 39 38,wR 40 39,wR 41 40,xu 43,xM 48 3,qu 42 41,wv 44 3 42 43,yp 45 44,qu 46 45,wm 47 46,qu 49 48,wm 50 49,wo 51 .neq 47 50] 51 [wj 52,wF 53 bY 52 (ql 5)])))) (qU (xa (qX 54 4 [qC,qC,qL,.nils] 0 []) 6 54) (xL [wz 7] 0 [yz 55,xM 56 3,qu 57 56,wm 58 57,wS 59 55 58] 59 wy 1 (.reg [yE 62,wj 63,xM 64 3,qu 65 64,yz 66,wv 67 4 65 66,xB 68 67,wG 69 dO 63 68,xZ 70 4 [qC,qC,qL,.nils] 1 4 69,xp 71 4 56 62 70,yc 71]) [yz 60,xR 61 60,qg 7 61]) (xg [yE 72,xM 73 3,xr 73 72] [xB 74 3,xV 4 74]))))
def jh:FK:=⟨75,[.c 4 xj],(AK.whole jb)⟩
theorem yT:af Tryz.prog dO=some jh:=by kernel_rfl
def ib:AK:=xx (xT 6 xi) (xa (qX 13 5 [qC,qL,.nils,.nils,.nils] 0 []) 7 13) (qU [wj 14,wh 15 14,xw 16 15,qu 17 16,wm 18 17,qg 8 18] (xL [wz 9] 0 [qg 19 9,xt 20,wm 21 20,wS 22 19 21] 22 wy 1 (qe [xt 25,qg 26 9,wv 27 5 25 26,qD 28 5 27,qW 10 [qC,qL,.nils,.nils,.nils],qO 5 10 28] (qU (xa (qX 29 4 [qC,qC,qL,.nils] 0 []) 11 29) (xL [wz 12] 2 [qg 30 12,xw 31 10,qu 32 31,wm 33 32,wS 34 30 33] 34 (.exit 2) 3 (.reg [qg 37 11,wj 38,xw 39 10,qu 40 39,qg 41 12,wv 42 4 40 41,xB 43 42,wG 44 dO 38 43,xZ 45 4 [qC,qC,qL,.nils] 1 4 44,xp 46 4 56 37 45,qg 11 46]) [qg 35 12,xR 36 35,qg 12 36]) (yg [qg 47 11,xw 48 10,xr 48 47] (.cut (xK [wR 49 10,qu 50 49,wc 51 50 1] 51 [wj 52,yp 53 10,qu 54 53,yl 55,yk 56 gn 52 54 55,yp 57 10,xr 57 56]) (.cut (xK [wR 58 10,qu 59 58,wc 60 59 2] 60 [wj 61,yp 62 10,qu 63 62,wG 64 gg 61 63,yp 65 10,xr 65 64]) (xx [wj 66,xM 67 10,qu 68 67,yl 69,xR 70 69,yk 71 dy 66 68 70,xM 72 10,xr 72 71] [wj 73,qr 74 4 10,qu 75 74,yl 76,xR 77 76,yk 78 dy 73 75 77,qr 79 4 10,xr 79 78] (.reg [yz 80,qD 81 5 10,xZ 82 5 [qC,qL,.nils,.nils,.nils] 1 5 81,xp 83 5 96 80 82,qg 7 83]))))))) [qg 23 9,xR 24 23,qg 9 24]) (.cut (xK [yl 84,yG 85 84 0] 85 [wj 86,wj 87,wh 88 87,xw 89 88,qu 90 89,yJ 91,qb 92 (.slS 3 (.t 90) none (some (.t 91))),wh 93 86,xw 94 93,xr 94 92]) (qz (xa (yz 95) 6 95))))
def ia:FK:=⟨96,xz 6,(AK.whole ib)⟩
theorem ut:af Tryz.prog dy=some ia:=by kernel_rfl
def tr:AK:=xx [yw 2 1,qW 4 [qL,.nils,.nils],wz 5,wz 6] [yB 11 2,xt 12,wx 13 [.nils,qC,.nils,qC,qC] [xE 1 11,ym 1 12],wB 14 5 13,qg 7 14] (yg [wR 15 2,qu 16 15,xt 17,wv 18 3 16 17,qD 19 3 18,qW 8 [qL,.nils,.nils],qO 3 8 19] (.cut (xK [yB 20 2,wR 21 8,qu 22 21,wG 23 ox 20 22,xt 24,wo 25 .neq 23 24] 25 [yz 26,wF 27 bY 26 xO]) (qU (xa (qX 28 1 [qL] 0 []) 9 28) (xL [wz 10] 0 [qg 29 10,yp 30 8,qu 31 30,wm 32 31,wS 33 29 32] 33 wy 1 (.reg [qg 36 9,yz 37,yp 38 8,qu 39 38,qg 40 10,wv 41 1 39 40,qu 42 41,qp 43 gn (yi 37 42 qV),xZ 44 1 [qL] 1 1 43,xp 45 1 16 36 44,qg 9 45]) [qg 34 10,xR 35 34,qg 10 35]) (qe [qg 46 9,yp 47 8,xr 47 46] (xg [yz 48,xw 49 8,qu 50 49,qp 51 dy (yi 48 50 qV),xw 52 8,xr 52 51] [yz 54,wh 55 54,qr 56 4 55,yz 58,wh 59 58,xM 60 59,qD 53 3 8,qu 57 56,qu 61 60,qO 3 4 53,wI 56 57,wI 60 61,qg 5 57,yc 61])))))
def sC:FK:=⟨62,[.c 4 (some 3),.t 5,.t 6],(AK.whole tr)⟩
theorem Jy:af Tryz.prog oc=some sC:=by kernel_rfl
def mA:FK:=⟨27,xF,xQ [yw 1 1,wz 2] [yB 7 1,xd 8 eZ 7,xq 9 8] 9 (xT 2 wQ) (xD (xL [wz 3] 0 [yD 10,wR 11 1,qu 12 11,wm 13 12,wS 14 10 13] 14 wy 1 (qe [yB 18 1,yD 19,wG 20 oc 18 19,qg 17 20,wM 21 0 17,wM 22 1 17,wM 23 2 17,qW 4 [qL,.nils,.nils],qO 3 4 21,qg 5 22,yc 23] (wg [xu 24,qA 25 .neq 24 0] 25 (xa (xu 26) 2 26))) [yD 15,xR 16 15,qg 3 16]) [wz 2])⟩
theorem uo:af Tryz.prog ir=some mA:=by kernel_rfl
def vt:FK:=⟨6,xF,xg [yw 1 1,yd] [yB 3 1,xd 4 ir 3,wc 5 4 0,xu 2]⟩
theorem Fm:af Tryz.prog iE=some vt:=by kernel_rfl
def sA:FK:=⟨4,xF,wV [wz 2] (wg [wj 3] 3 (xT 2 wQ)) [wz 2]⟩
theorem EX:af Tryz.prog dR=some sA:=by kernel_rfl
def Aa:FK:=⟨50,[.t 6,.t 7],qU [wz 6,wz 7] (qe [wj 8] (.blk 0 (xG (xb 10 8 3 9 10) 9 (qz [xt 11,yl 12,wo 13 .add 11 12,qA 14 .rem 13 256,yc 14,wz 7]) (xb 16 8 4 15 16) 15 (qz [xt 17,yl 18,wo 19 .sub 17 18,wA 20 19 256,qA 21 .rem 20 256,yc 21,wz 7]) (xG (xb 23 8 5 22 23) 22 (qz [xt 24,yl 25,wo 26 .mul 24 25,qA 27 .rem 26 256,yc 27,wz 7]) (xb 29 8 8 28 29) 28 (qz [xt 30,yl 31,wS 32 30 31,xd 33 dR 32,yc 33,wz 7]) (wg (xb 35 8 9 34 35) 34 [xt 36,yl 37,wo 38 .eql 36 37,xd 39 dR 38,yc 39,wz 7]))))) (.seq (wg [yl 40,wc 41 40 0] 41 [wz 6,qd 7 wQ]) (xD (wg [wj 42,wc 43 42 6] 43 [xt 44,yl 45,wo 46 .quo 44 45,yc 46,wz 7]) [xt 47,yl 48,wo 49 .rem 47 48,yc 49,wz 7]))⟩
theorem Is:af Tryz.prog rC=some Aa:=by kernel_rfl
def pq:FK:=⟨15,xz 6,xg [wD 6] [xt 7,wj 8,wo 9 .leq 7 8,qg 10 9,xH 11 10 0,xH 12 10 2,xf 13 10 .leq 11 (.t 12),xy 14 10 13,yc 14]⟩
theorem Fk:af Tryz.prog eL=some pq:=by kernel_rfl
def mu:FK:=⟨21,xz 6,wV [wz 6] (yn [wj 9,qb 10 (.rngS (.t 9))] 0 [qb 11 (.nxtS (.t 10)),wM 12 0 11] 12 wy (.blk 1 (qe [wM 13 1 11,wM 14 2 11,qg 7 13,qg 8 14] (wg [xt 15,yJ 16,qb 17 (xX 15 (xc 16)),yl 18,qb 19 (.beq false (.t 17) (.t 18))] 19 (xa (yz 20) 6 20))))) (xT 6 (ql (-1)))⟩
theorem uu:af Tryz.prog iq=some mu:=by kernel_rfl
def mz:FK:=⟨8,xI,xg [x8] [wj 5,xt 6,qp 7 iq (yi 5 6 ws),yv 7]⟩
theorem ux:af Tryz.prog im=some mz:=by kernel_rfl
def kD:FK:=⟨19,xI,wV [x8] (yn [wj 6,wm 7 6,wz 8] 0 [wS 9 8 7] 9 wy (yx 1 (qe (xa (yJ 10) 5 10) (wg [xt 11,wj 12,xu 13,wv 14 1 12 13,qu 15 14,qb 16 (x9 .eql 11 (.t 15))] 16 (xa (xu 17) 4 17))) 18 8 8 18)) (xT 4 (ql (-1)))⟩
theorem rY:af Tryz.prog gb=some kD:=by kernel_rfl
def iF:FK:=⟨9,xI,xg yF [wj 5,xt 6,wG 7 gb 5 6,qA 8 .geq 7 0,yv 8]⟩
theorem ph:af Tryz.prog eM=some iF:=by kernel_rfl
def rN:FK:=⟨9,xF,xg [yd] [wj 3,qt 4 .lss 3 (.c (qf .i32 97)),yI 5,xe 6 5 0,xN 7 5 .gtr 6 (.c (qf .i32 122)),xJ 8 5 7,yJ 2]⟩
theorem Cr:af Tryz.prog eq=some rN:=by kernel_rfl
def vh:FK:=⟨17,xF,xg [yd] [wj 3,qb 4 (.len true (.t 3)),qp 5 eL (yh 4 wQ (ql 4)),xu 6,xH 7 6 0,qH 8 6 (xo im 7 (.c (.fn (.func eq) []))),xf 9 6 .lss 8 qV,xy 10 6 9,qg 11 10,qH 12 11 (.slA 9 1 (.c (.gp 1 0)) none none),xH 13 11 0,qH 14 11 (xo eM 12 (.t 13)),qH 15 11 (wq 14),xy 16 11 15,qg 2 16]⟩
theorem FD:af Tryz.prog dE=some vh:=by kernel_rfl
def gX:FK:=⟨19,xI,wV [x8] (yn [wj 6,wm 7 6,wz 8] 0 [wS 9 8 7] 9 wy (yx 1 (qe (xa (yJ 10) 5 10) (wg [xt 11,wj 12,xu 13,wv 14 1 12 13,qu 15 14,qb 16 (xX 11 (xc 15))] 16 (xa (xu 17) 4 17))) 18 8 8 18)) (xT 4 (ql (-1)))⟩
theorem nV:af Tryz.prog ef=some gX:=by kernel_rfl
def fO:FK:=⟨9,xI,xg yF [wj 5,xt 6,wG 7 ef 5 6,qA 8 .geq 7 0,yv 8]⟩
theorem lU:af Tryz.prog dp=some fO:=by kernel_rfl
def fM:FK:=⟨19,xI,wV [x8] (yn [wj 6,wm 7 6,wz 8] 0 [wS 9 8 7] 9 wy (yx 1 (qe (xa (yJ 10) 5 10) (wg [xt 11,wj 12,xu 13,wv 14 5 12 13,qD 15 5 14,qb 16 (xX 11 (xc 15))] 16 (xa (xu 17) 4 17))) 18 8 8 18)) (xT 4 (ql (-1)))⟩
theorem mc:af Tryz.prog dk=some fM:=by kernel_rfl
def eS:FK:=⟨9,xI,xg yF [wj 5,xt 6,wG 7 dk 5 6,qA 8 .geq 7 0,yv 8]⟩
theorem kr:af Tryz.prog cF=some eS:=by kernel_rfl
def bI:FK:=⟨20,[.t 2,.t 3,.t 4,.t 5],wV [wz 2,wD 3,xm,wD 5] (qe [wj 6] (.blk 0 (wU (xb 8 6 1 7 8) 7 (.reg (xb 9 6 2 7 9)) (qo 7 (qz [qd 2 wQ,qd 3 ws,xm,wD 5]) (wU (xb 11 6 3 10 11) 10 (qB (xb 12 6 7 10 12) 10 .skip (.reg (xb 13 6 8 10 13))) (qo 10 (qz [qd 2 wQ,wD 3,xm,wD 5]) (xG (xb 15 6 4 14 15) 14 (qz [qd 2 xO,wD 3,xm,wD 5]) (xb 17 6 5 16 17) 16 (qz [qd 2 wQ,wD 3,qd 4 ws,qd 5 ws]) (wg (xb 19 6 6 18 19) 18 [qd 2 wQ,wD 3,qd 4 ws,wD 5])))))))) [qd 2 (ql (-1)),wD 3,xm,wD 5]⟩
theorem Cq:af Tryz.prog iQ=some bI:=by kernel_rfl
def vl:FK:=⟨5,xF,xg [yd] [wj 3,qp 4 eL (yh 3 qV (ql 255)),yI 2]⟩
theorem Ft:af Tryz.prog lb=some vl:=by kernel_rfl
def gw:FK:=⟨20,xF,wV [wz 2] (.blk 0 (qB [qb 4 (.ld none (.c (.gp 2 0))),wj 5,qb 6 (.lk 0 (.agg [qL,qC]) false (.t 4) (.t 5)),qb 7 (.fldv 1 none (.t 6)),yG 8 7 0,yJ 3] 3 (qz [qb 9 (.ld none (.c (.gp 2 0))),wj 10,qb 11 (.lk 0 (.agg [qL,qC]) false (.t 9) (.t 10)),qb 12 (.fldv 1 none (.t 11)),qg 2 12]) (wg [wj 14,wc 15 14 11,qg 16 15,xe 17 16 0,xN 18 16 .eql 17 (ql 12),xJ 19 16 18,qg 13 19] 13 (xT 2 (ql 5))))) (xT 2 (ql 6))⟩
theorem EK:af Tryz.prog nq=some gw:=by kernel_rfl
def md:AK:=xx [yw 2 4,x8,wz 5,wD 6] [wz 7,wz 8] (.cut (.blk 0 (xG [wR 17 2,qu 18 17,wc 19 18 1,qg 16 19] 16 (wg [yp 20 2,qu 21 20,xd 22 lb 21,xq 23 22,qg 24 23,wZ 25 24 2 2,wW 26 24 25,qG 27 24 (x9 .neq 26 (.c qL)),xJ 28 24 27] 28 [x8,wz 5,wD 6]) [wR 30 2,qu 31 30,wc 32 31 2,qg 29 32] 29 (wg [xw 33 2,qu 34 33,xd 35 dE 34,xq 36 35,qg 37 36,wZ 38 37 1 2,wW 39 37 38,xN 40 37 .neq 39 qV,xJ 41 37 40] 41 [x8,wz 5,wD 6]) (xG [wR 43 2,qu 44 43,wc 45 44 13,qg 42 45] 42 (qe (xT 8 xP) (wg [xw 46 2,qu 47 46,xd 48 dE 47,xq 49 48,qg 50 49,wZ 51 50 1 2,wW 52 50 51,xN 53 50 .neq 52 qV,xJ 54 50 53] 54 [x8,wz 5,wD 6])) [qb 56 (.ld none (.c (.gp 2 0))),wR 57 2,qu 58 57,qb 59 (.lk 0 (.agg [qL,qC]) false (.t 56) (.t 58)),qb 60 (.fldv 1 none (.t 59)),yG 61 60 0,qg 55 61] 55 (.reg [qd 7 xO,qd 8 xO]) (qB [wR 63 2,qu 64 63,wc 65 64 11,qg 66 65,wZ 67 66 0 2,wW 68 66 67,xN 69 66 .eql 68 (ql 12),xJ 70 66 69,qg 62 70] 62 (.reg [qd 7 wQ,qd 8 wQ]) (qz [x8,wz 5,wD 6]))))) (.cut (wg [wR 71 2,qu 72 71,xd 73 nq 72,qA 74 .lss 73 6,qg 75 74,wJ 76 75 1 2,wH 77 75 76,xf 78 75 .neq 77 qV,xH 79 75 78,wZ 80 79 2 2,wW 81 79 80,qG 82 79 (x9 .neq 81 (.c qL)),qH 83 75 (qJ 79 ws (.t 82)),xy 84 75 83,qg 85 84,wZ 86 85 3 2,wW 87 85 86,qG 88 85 (wa 87),xe 89 85 7,xe 90 85 8,qG 91 85 (.call eL (yj 88 89 90)),yy 92 85 91,xJ 93 85 92,qg 94 93,xe 95 94 1,xN 96 94 .lss 95 wQ,xJ 97 94 96] 97 [x8,wz 5,wD 6]) (wV [qd 9 wQ,qd 10 wQ] (yn [xM 98 2,qu 99 98,wm 100 99,wz 101] 1 [wS 102 101 100] 102 (.exit 1) (yx 2 (qe [wv 103 4 99 101,xB 104 103,qW 12 [qC,qC,qL,.nils],xV 12 104] (xQ [xB 106 12,xt 107,x7 108 107 1,wG 109 iP 106 108,qg 105 109,wM 110 0 105,wM 111 1 105,wM 112 2 105,qg 13 110,qg 14 111,qg 15 112] [qg 113 15,xq 114 113] 114 [x8,wz 5,wD 6] (yu [qg 115 9,qg 116 13,wo 117 .add 115 116,qg 9 117] [qg 118 10,qg 119 14,xR 120 119,qb 121 (.mx (.t 118) (.t 120)),qg 10 121]))) 122 101 101 122)) [qg 123 9,qg 124 10,qg 125 9,qA 126 .leq 125 30,yv 123,qg 5 124,yc 126])))
def lX:FK:=⟨127,[.t 4,.t 5,.t 6],(AK.whole md)⟩
theorem Cy:af Tryz.prog iP=some lX:=by kernel_rfl
def pK:FK:=⟨13,xF,qe [yw 1 4,yd] (xg [xB 7 1,wF 8 iP 7 (ql 6),yc 8,wM 9 0 6,wM 10 1 6,wM 11 2 6,qg 3 9,yv 10,qg 5 11] (xa (xu 12) 2 12))⟩
theorem Ba:af Tryz.prog fv=some pK:=by kernel_rfl
def lg:FK:=⟨91,xI,qe [yw 2 5,xm] (qU [wR 12 2,qu 13 12,xd 14 iQ 13,qg 11 14,wM 15 0 11,wM 16 1 11,wM 17 2 11,wM 18 3 11,qg 5 15,yc 16,qg 7 17,qg 8 18] (.blk 0 (wU [xt 20,yG 21 20 4,qg 19 21] 19 (xG [xw 22 2,qu 23 22,wm 24 23,xu 25,wo 26 .neq 24 25,qg 19 26] 19 .skip [yE 27,qg 28 27,wJ 29 28 1 2,wH 30 28 29,qH 31 28 (.call dE (xc 30)),qH 32 28 (wq 31),xy 33 28 32,qg 19 33] 19 .skip (xG [yE 34,xq 35 34,qg 36 35,wJ 37 36 1 2,wH 38 36 37,qH 39 36 (x9 .neq 38 (.c qL)),xy 40 36 39,qg 19 40] 19 .skip [yz 41,xq 42 41,qg 43 42,wJ 44 43 3 2,wH 45 43 44,qH 46 43 (wa 45),xf 47 43 .gtr 46 qV,xy 48 43 47,qg 19 48] 19 .skip (qB [yJ 49,xq 50 49,qg 51 50,wJ 52 51 4 2,wH 53 51 52,qH 54 51 (wa 53),xf 55 51 .gtr 54 qV,xy 56 51 55,qg 19 56] 19 .skip (.reg [wR 57 2,qu 58 57,wc 59 58 8,qg 60 59,wJ 61 60 2 2,wH 62 60 61,qH 63 60 (qM 4 62 qV),wJ 64 60 0 63,wH 65 60 64,xf 66 60 .neq 65 (ql 13),xy 67 60 66,qg 19 67])))) (qo 19 (qz yF) .skip))) (xD (yn [xw 68 2,qu 69 68,wm 70 69,wz 71] 1 [wS 72 71 70] 72 (.exit 1) (yx 2 (qe [wv 73 4 69 71,xB 74 73,qW 10 [qC,qC,qL,.nils],xV 10 74] (wg [xB 75 10,xd 76 fv 75,xq 77 76] 77 yF)) 78 71 71 78)) [xM 79 2,qu 80 79,xt 81,xR 82 81,wG 83 dU 80 82,qg 84 83,wJ 85 84 4 2,wH 86 84 85,xH 87 84 1,xf 88 84 .add 87 wQ,qH 89 84 (xo dU 86 (.t 88)),xy 90 84 89,yv 90]))⟩
theorem uE:af Tryz.prog kY=some lg:=by kernel_rfl
def pE:FK:=⟨8,xz 3,xg [yw 2 5,wD 3] [qD 4 5 2,qu 5 1,wG 6 kY 4 5,xq 7 6,yz 3]⟩
theorem Bi:af Tryz.prog dK=some pE:=by kernel_rfl
def sh:FK:=⟨9,xI,xg [wB 3 1 1,xm] [wj 5,qb 6 (.mkf (.func dK) (xc 3)),wG 7 cF 5 6,xq 8 7,yv 8]⟩
theorem DA:af Tryz.prog dU=some sh:=by kernel_rfl
def As:FK:=⟨31,[],yn [wj 8,wm 9 8,wz 10] 0 [wS 11 10 9] 11 wy (yx 1 (xx [wv 12 5 8 10,qD 13 5 12,qW 7 [qC,qL,.nils,.nils,.nils],qO 5 7 13] [yl 14,qD 15 5 7,xt 16,qb 17 (xX 14 (wE 15 (.t 16)))] (yu [xM 18 7,qu 19 18,xt 20,xR 21 20,yl 22,yk 23 jN 19 21 22] [qr 24 4 7,qu 25 24,xt 26,xR 27 26,yl 28,yk 29 jN 25 27 28])) 30 10 10 30)⟩
theorem Ha:af Tryz.prog jN=some As:=by kernel_rfl
def pD:FK:=⟨11,[],xx [yw 4 5] [qu 6 2,xR 7 6,xr 2 7] (.reg [qu 8 3,xt 9,qb 10 (.mx (.t 8) (.t 9)),xr 3 10])⟩
theorem AH:af Tryz.prog gS=some pD:=by kernel_rfl
def sq:FK:=⟨20,[.c 2 none,.c 3 none],wV [yw 1 1,qW 2 [qC],qW 3 [qC]] (yn [wR 6 1,qu 7 6,wm 8 7,wz 9] 0 [wS 10 9 8] 10 wy (yx 1 (yu [wv 11 3 7 9,qD 12 3 11,qW 5 [qL,.nils,.nils],qO 3 5 12] [xw 13 5,qu 14 13,qb 15 (.mkf (.func gS) (wE 2 (.t 3))),qp 16 jN (yh 14 wQ (.t 15))]) 17 9 9 17)) [qu 18 2,qu 19 3,xr 2 18,wI 3 19,xr 3 19]⟩
theorem El:af Tryz.prog jJ=some sq:=by kernel_rfl
def ky:FK:=⟨6,xF,xg [yd] [wj 3,xd 4 dE 3,xq 5 4,xu 2]⟩
theorem rU:af Tryz.prog bQ=some ky:=by kernel_rfl
def mw:FK:=⟨48,xF,xQ [yw 1 1,yd] [wR 7 1,qu 8 7,wm 9 8,qp 10 eL (yh 9 wQ (ql 4)),xq 11 10] 11 [yd] (.seq (yn [wR 12 1,qu 13 12,wm 14 13,wz 15] 0 [wS 16 15 14] 16 wy (yx 1 (qe [wv 17 3 13 15,qD 18 3 17,qW 4 [qL,.nils,.nils],qO 3 4 18] (wg [wR 19 4,qu 20 19,xd 21 dE 20,xq 22 21,qg 23 22,wZ 24 23 1 4,wW 25 23 24,qG 26 23 (wa 25),xN 27 23 .gtr 26 xP,xJ 28 23 27,qg 29 28,wZ 30 29 1 4,wW 31 29 30,qG 32 29 (xo dp 31 (.c (.fn (.func bQ) []))),xJ 33 29 32,qg 34 33,wZ 35 34 2 4,wW 36 34 35,qG 37 34 (xo dU 36 wQ),yy 38 34 37,xJ 39 34 38] 39 [yd])) 40 15 15 40)) (xg [yB 42 1,xd 43 jJ 42,qg 41 43,wM 44 0 41,wM 45 1 41,qg 5 44,yc 45] [xu 46,qA 47 .leq 46 40,qg 2 47]))⟩
theorem um:af Tryz.prog fa=some mw:=by kernel_rfl
def gt:FK:=⟨19,xI,wV [x8] (yn [wj 6,wm 7 6,wz 8] 0 [wS 9 8 7] 9 wy (yx 1 (qe (xa (yJ 10) 5 10) (wg [xt 11,wj 12,xu 13,wv 14 3 12 13,qD 15 3 14,qb 16 (xX 11 (xc 15))] 16 (xa (xu 17) 4 17))) 18 8 8 18)) (xT 4 (ql (-1)))⟩
theorem nj:af Tryz.prog dW=some gt:=by kernel_rfl
def vf:FK:=⟨8,xz 3,xg [yw 2 3,wD 3] [wR 4 2,qu 5 4,qu 6 1,qb 7 (x9 .eql 5 (.t 6)),yz 3]⟩
theorem Fz:af Tryz.prog iD=some vf:=by kernel_rfl
def BJ:FK:=⟨9,xI,xg [yw 2 1,wB 3 1 1,x8] [wR 5 2,qu 6 5,qb 7 (.mkf (.func iD) (xc 3)),wG 8 dW 6 7,yv 8]⟩
theorem Iv:af Tryz.prog lq=some BJ:=by kernel_rfl
def iv:FK:=⟨13,[],xK [wj 4,wh 5 4,xw 6 5,qu 7 6,wc 8 7 0] 8 [wj 9,xt 10,wh 11 9,xw 12 11,xr 12 10]⟩
theorem uf:af Tryz.prog dw=some iv:=by kernel_rfl
def jU:FK:=⟨7,xF,xg (xT 2 (.c .nilp)) [qb 3 .mkm,wj 4,wx 5 [.nilm,.nilp] [xE 1 3,ym 1 4],wB 6 2 5,yE 2]⟩
theorem Au:af Tryz.prog eE=some jU:=by kernel_rfl
def rG:FK:=⟨20,[],xx [yw 2 4] [xt 6,xB 7 2,qb 8 (xX 6 (xc 7))] (yn [xM 9 2,qu 10 9,wm 11 10,wz 12] 0 [wS 13 12 11] 13 wy (yx 1 (yu [wv 14 4 10 12,xB 15 14,qW 5 [qC,qC,qL,.nils],xV 5 15] [xB 16 5,xt 17,wG 18 gR 16 17]) 19 12 12 19))⟩
theorem zQ:af Tryz.prog gR=some rG:=by kernel_rfl
def ov:FK:=⟨25,[.t 4,.t 5],wV [x8,wD 5] (qY 0 (xA [wj 8,qb 9 (.pnil 0 true (.t 8))] 9 wy 1 (qe [wj 15,wh 16 15,wR 17 16,qu 18 17,xt 19,qb 20 (.lk 1 qC true (.t 18) (.t 19)),qg 14 20,wM 21 0 14,wM 22 1 14,yc 21,qg 7 22] (wg [yz 23] 23 [yE 24,yv 24,qd 5 ws])) [wj 10,wh 11 10,yp 12 11,qu 13 12,qg 0 13])) [x8,wD 5]⟩
theorem zI:af Tryz.prog di=some ov:=by kernel_rfl
def kx:FK:=⟨58,[],xx [yw 3 4] [wR 7 3,qu 8 7] (.blk 0 (qB (xb 10 8 2 9 10) 9 (qe [qu 12 1,xw 13 3,qu 14 13,wG 15 di 12 14,qg 11 15,wM 16 0 11,wM 17 1 11,yv 16,qg 5 17] (xK [xu 18,xq 19 18] 19 [qu 20 2,yA 21 20 xP])) (qT (xb 23 8 13 22 23) 22 (qe [xw 35 3,qu 24 2,wh 25 24,wR 26 25,wR 27 26,qu 28 27,qu 29 2,wh 30 29,yp 31 30,qu 32 31,qb 33 (.slS 3 (.t 28) none (some (.t 32))),wx 34 xv (xY 1 33),qu 36 35,wG 37 lq 34 36,yc 37] (qB [yE 38,qA 39 .lss 38 0] 39 (.reg [qu 40 2,yA 41 40 (ql 4)]) (xK [yE 47,xM 52 3,qu 42 2,wh 43 42,wR 44 43,wR 45 44,qu 46 45,wv 48 3 46 47,yp 49 48,qu 50 49,wm 51 50,qu 53 52,wm 54 53,wo 55 .neq 51 54] 55 [qu 56 2,yA 57 56 (ql 5)]))))))⟩
theorem sa:af Tryz.prog cJ=some kx:=by kernel_rfl
def ip:FK:=⟨9,[],yu [yw 3 1,wB 4 4 1,wB 5 1 2] [xB 6 4,qb 7 (.mkf (.func cJ) (wE 5 (.t 3))),wG 8 gR 6 7]⟩
theorem uk:af Tryz.prog ff=some ip:=by kernel_rfl
def gv:AK:=yn [xt 14,wm 15 14,wz 16] 0 [wS 17 16 15] 17 wy (yx 1 (qU [wv 18 5 14 16,qD 19 5 18,qW 7 [qC,qL,.nils,.nils,.nils],qO 5 7 19] (yn [xw 20 7,qu 21 20,wm 22 21,wz 23] 2 [wS 24 23 22] 24 (.exit 2) (yx 3 (yu [wv 25 4 21 23,xB 26 25,qW 9 [qC,qC,qL,.nils],xV 9 26] [wj 27,xB 28 9,yl 29,yk 30 ff 27 28 29]) 31 23 23 31)) (.cut (qe [wR 32 7,qu 33 32] (.blk 4 (qB (xb 35 33 1 34 35) 34 (wb (qe [yl 37,wh 38 37,wR 39 38,yp 41 7,qu 40 39,qu 42 41,qb 43 (.lk 1 qC true (.t 40) (.t 42)),qg 36 43,wM 44 0 36,wM 45 1 36,qg 10 44,qg 11 45] (xK [qg 46 11] 46 [wj 47,yA 48 47 xO])) [yl 49,wh 50 49,wR 51 50,yp 53 7,qu 52 51,qu 54 53,qy (.mup 1 (.t 52) (.t 54) qV)]) (qT (xb 56 33 2 55 56) 55 (qe [yl 58,yp 59 7,qu 60 59,wG 61 di 58 60,qg 57 61,wM 62 0 57,wM 63 1 57,qg 12 62,qg 13 63] (xK [qg 64 13,xq 65 64] 65 [wj 66,yA 67 66 xP])))))) (qT [wR 68 7,qu 69 68,wc 70 69 5,qg 71 70,wZ 72 71 0 7,wW 73 71 72,xN 74 71 .eql 73 (ql 6),xJ 75 71 74] 75 (yu [wj 76,xM 77 7,yl 79,qu 78 77,xd 80 eE 79,wI 77 78,yk 81 cg 76 78 80] [wj 82,qr 83 4 7,yl 85,qu 84 83,xd 86 eE 85,wI 83 84,yk 87 cg 82 84 86])))) 88 16 16 88)
def gu:FK:=⟨89,[],(AK.whole gv)⟩
theorem sx:af Tryz.prog cg=some gu:=by kernel_rfl
def gZ:AK:=xQ [yw 1 1,wz 2] [yB 11 1,xd 12 fa 11,xq 13 12] 13 (xT 2 wQ) (wV [yB 14 1,wx 15 [.nils,qC,qC] (xY 1 14),wB 16 3 15,qg 3 16] (yn [wR 17 1,qu 18 17,wm 19 18,wz 20] 0 [wS 21 20 19] 21 wy (yx 1 (xx [qg 22 20,wv 23 3 18 20,qD 24 3 23,qW 5 [qL,.nils,.nils],yv 22,qO 3 5 24] [yD 25,yI 26,wh 27 25,yp 28 27,xr 28 26] (.cut (xK [yB 29 1,wR 30 5,qu 31 30,wG 32 lq 29 31,yI 33,wS 34 32 33] 34 [yD 35,yA 36 35 xO]) (qU (xa (qp 37 eE [.c .nilp]) 6 37) (yn [yp 38 5,qu 39 38,wm 40 39,wz 41] 2 [wS 42 41 40] 42 (.exit 2) (yx 3 (qU [wv 43 1 39 41,qu 44 43,qg 8 44] (qe [yE 46,wh 47 46,wR 48 47,qu 49 48,yJ 50,qb 51 (.lk 1 qC true (.t 49) (.t 50)),qg 45 51,wM 52 0 45,wM 53 1 45,qg 9 52,qg 10 53] (xK [qg 54 10] 54 [yD 55,yA 56 55 xO])) (.reg [yE 57,wh 58 57,wR 59 58,qu 60 59,yJ 61,qy (.mup 1 (.t 60) (.t 61) qV)])) 62 41 41 62)) (.reg [yD 63,xw 64 5,qu 65 64,yE 66,yk 67 cg 63 65 66])))) 68 20 20 68)) [yD 69,wh 70 69,xw 71 70,qu 72 71,qg 2 72])
def ie:FK:=⟨73,xF,(AK.whole gZ)⟩
theorem uj:af Tryz.prog dz=some ie:=by kernel_rfl
def BY:FK:=⟨6,xF,xg [yw 1 1,yd] [yB 3 1,xd 4 dz 3,wc 5 4 0,xu 2]⟩
theorem JU:af Tryz.prog jo=some BY:=by kernel_rfl
def jX:FK:=⟨19,xI,wV [x8] (yn [wj 6,wm 7 6,wz 8] 0 [wS 9 8 7] 9 wy (yx 1 (qe (xa (yJ 10) 5 10) (wg [xt 11,wj 12,xu 13,wv 14 1 12 13,qu 15 14,qb 16 (xX 11 (xc 15))] 16 (xa (xu 17) 4 17))) 18 8 8 18)) (xT 4 (ql (-1)))⟩
theorem rh:af Tryz.prog fJ=some jX:=by kernel_rfl
def gW:FK:=⟨9,xI,xg yF [wj 5,xt 6,wG 7 fJ 5 6,qA 8 .geq 7 0,yv 8]⟩
theorem nW:af Tryz.prog ed=some gW:=by kernel_rfl
def pL:FK:=⟨6,xF,xg [yd] [wj 3,xd 4 lb 3,xq 5 4,xu 2]⟩
theorem AQ:af Tryz.prog dN=some pL:=by kernel_rfl
def mW:FK:=⟨14,xI,xg yF [wj 5,wm 6 5,xt 7,wo 8 .eql 6 7,yJ 9,xH 10 9 0,qH 11 9 (xo ed 10 (.c (.fn (.func dN) []))),qH 12 9 (wq 11),xy 13 9 12,yv 13]⟩
theorem DB:af Tryz.prog nU=some mW:=by kernel_rfl
def vr:FK:=⟨21,xI,xg [yw 2 1,xm] [yB 5 2,xd 6 jo 5,yE 7,xH 8 7 1,wJ 9 7 0 2,wH 10 7 9,wJ 11 7 0 2,wH 12 7 11,qH 13 7 (wa 12),xf 14 7 .sub 13 wQ,qH 15 7 (qM 3 10 (.t 14)),wJ 16 7 1 15,wH 17 7 16,qH 18 7 (wa 17),qH 19 7 (xo nU 8 (.t 18)),xy 20 7 19,yv 20]⟩
theorem FL:af Tryz.prog kW=some vr:=by kernel_rfl
def iZ:FK:=⟨8,xF,wV (xT 2 xi) (wg [wj 3,qb 4 (.snil false (.t 3))] 4 (xT 2 xi)) [qX 5 1 [qC] 0 [],wj 6,xp 7 1 8 5 6,yz 2]⟩
theorem na:af Tryz.prog bX=some iZ:=by kernel_rfl
def iw:FK:=⟨19,[],wb (xK [wj 2,wh 3 2,xw 4 3,wj 6,wh 7 6,yp 8 7,qu 5 4,qu 9 8,wo 10 .eql 5 9] 10 [qp 11 og [xP]]) [wj 12,wh 13 12,xw 14 13,qu 15 14,xR 16 15,wh 17 12,xw 18 17,xr 18 16]⟩
theorem ur:af Tryz.prog fg=some iw:=by kernel_rfl
def pJ:FK:=⟨28,xI,wV (xT 4 (.c .nilp)) (qY 0 (xA [wj 7,wh 8 7,yp 9 8,qu 10 9,qb 11 (.pnil 0 true (.t 10))] 11 wy 1 (qe [wj 17,wh 18 17,wR 19 18,qu 20 19,xt 21,qb 22 (.lk 1 qC true (.t 20) (.t 21)),qg 16 22,wM 23 0 16,wM 24 1 16,qg 5 23,yc 24] (wg [yE 25] 25 (xa (wj 26) 4 26))) [wj 12,wh 13 12,yp 14 13,qu 15 14,qg 0 15])) (xa (wj 27) 4 27)⟩
theorem Bf:af Tryz.prog gN=some pJ:=by kernel_rfl
def sM:FK:=⟨4,xF,wV [wz 2] (wg [wj 3] 3 (xT 2 wQ)) [wz 2]⟩
theorem DZ:af Tryz.prog mQ=some sM:=by kernel_rfl
def rp:FK:=⟨70,[.t 6,.t 7],qe [wz 6,wD 7] (wV (xT 8 (.c (.fn (.func mQ) []))) (qe [wj 9] (.blk 0 (xG (xb 11 9 3 10 11) 10 (qz [xt 12,yl 13,wo 14 .add 12 13,qA 15 .rem 14 256,yc 15,qd 7 ws]) (xb 17 9 4 16 17) 16 (qz [xt 18,yl 19,wo 20 .sub 18 19,wA 21 20 256,qA 22 .rem 21 256,yc 22,qd 7 ws]) (qB (xb 24 9 5 23 24) 23 (qz [xt 25,yl 26,wo 27 .mul 25 26,qA 28 .rem 27 256,yc 28,qd 7 ws]) (wU (xb 30 9 6 29 30) 29 (.reg (xb 31 9 7 29 31)) (qo 29 (.seq (wg [yl 32,wc 33 32 0] 33 [wz 6,wD 7]) (xD (wg [wj 34,wc 35 34 6] 35 [xt 36,yl 37,wo 38 .quo 36 37,yc 38,qd 7 ws]) [xt 39,yl 40,wo 41 .rem 39 40,yc 41,qd 7 ws])) (xG (xb 43 9 8 42 43) 42 (qz [yJ 44,xt 45,yl 46,wS 47 45 46,qb 48 (xX 44 (xc 47)),yc 48,qd 7 ws]) (xb 50 9 9 49 50) 49 (qz [yJ 51,xt 52,yl 53,wo 54 .eql 52 53,qb 55 (xX 51 (xc 54)),yc 55,qd 7 ws]) (wg (xb 57 9 10 56 57) 56 [yJ 58,xt 59,qA 60 .neq 59 0,qg 61 60,xH 62 61 2,xf 63 61 .neq 62 qV,xy 64 61 63,qb 65 (xX 58 (xc 64)),yc 65,qd 7 ws])))))))) [yJ 66,xt 67,wc 68 67 0,qb 69 (xX 66 (xc 68)),yc 69,qd 7 ws])⟩
theorem zH:af Tryz.prog gM=some rp:=by kernel_rfl
def ij:FK:=⟨13,xI,wV (xT 4 (.c .nilp)) (xK [xt 5,qA 6 .geq 5 16] 6 [qp 7 og [xO]]) [wj 8,xt 9,wh 10 8,qr 11 4 10,qb 12 (.idxA 16 1 (.t 11) (.t 9)),yv 12]⟩
theorem tZ:af Tryz.prog fc=some ij:=by kernel_rfl
def aC:FK:=⟨126,xz 6,qU [wB 4 4 1,wz 6] (qe [wR 16 4,qu 17 16] (.blk 0 (xG (xb 19 17 1 18 19) 18 (qz [yp 20 4,qu 21 20,yc 21]) (xb 23 17 2 22 23) 22 (qz [yl 24,xw 25 4,xw 31 4,qu 26 25,qu 32 31,wG 27 gN 24 26,wI 31 32,wh 28 27,wR 29 28,qu 30 29,qb 33 (.lk 1 qC false (.t 30) (.t 32)),yc 33]) (xG (xb 35 17 10 34 35) 34 (.seq (wg [wj 36,xM 37 4,qu 38 37,wl 39 4 38 qV,xB 40 39,yl 41,xS 42 (yj 36 40 41),wc 43 42 0] 43 [wz 6]) (xg [wj 45,xM 46 4,qu 47 46,wl 48 4 47 wQ,xB 49 48,yl 50,xS 51 (yj 45 49 50),qp 52 gM [ql 10,wQ,.t 51],qg 44 52,wM 53 0 44,wM 54 1 44,qg 7 53,qg 8 54] (xa (yz 55) 6 55))) (xb 57 17 12 56 57) 56 (qz [wj 58,wj 59,xM 60 4,qu 61 60,wl 62 4 61 qV,xB 63 62,yl 64,xS 65 (yj 59 63 64),wG 66 fc 58 65,wh 67 66,qu 68 67,yc 68]) (qT (xb 70 17 13 69 70) 69 (wV (xT 9 xi) (yn [xM 71 4,qu 72 71,wm 73 72,wz 74] 1 [wS 75 74 73] 75 (.exit 1) (yx 2 (yu [wv 76 4 72 74,xB 77 76,qW 11 [qC,qC,qL,.nils],xV 11 77] [qg 78 9,wj 79,xB 80 11,yl 81,xS 82 (yj 79 80 81),xZ 83 1 [qC] 1 1 82,xp 84 1 8 78 83,qg 9 84]) 85 74 74 85)) [wj 86,wj 87,wh 88 87,wR 89 88,xw 91 4,qg 94 9,yB 90 89,qu 92 91,wG 93 lq 90 92,yk 95 fh 86 93 94,yc 95])))))) (qU [wj 96,xM 97 4,qu 98 97,wl 99 4 98 qV,xB 100 99,yl 101,xS 102 (yj 96 100 101),qg 12 102,wz 13] (xK [xM 103 4,qu 104 103,wm 105 104,yG 106 105 1] 106 [wj 107,xM 108 4,qu 109 108,wl 110 4 109 wQ,xB 111 110,yl 112,xS 113 (yj 107 111 112),qg 13 113]) (wV [wR 115 4,qu 116 115,qg 117 12,qg 118 13,yk 119 gM 116 117 118,qg 114 119,wM 120 0 114,wM 121 1 114,qg 14 120,qg 15 121] (xK [qg 122 15,xq 123 122] 123 [qp 124 og [wQ]]) (xa (qg 125 14) 6 125)))⟩
theorem mo:af Tryz.prog cC=some aC:=by kernel_rfl
def yY:FK:=⟨7,xF,xg (xT 2 (.c .nilp)) [qb 3 .mkm,wj 4,wx 5 [.nilm,.nilp] [xE 1 3,ym 1 4],wB 6 2 5,yE 2]⟩
theorem GL:af Tryz.prog ki=some yY:=by kernel_rfl
def ic:FK:=⟨109,xz 6,qU [wB 4 5 1,qd 6 (.c .nilp)] (qT [wR 10 4,qu 11 10,wc 12 11 6] 12 (xD (qY 0 (wU [wj 13,xw 14 4,qu 15 14,wl 16 4 15 qV,xB 17 16,yl 18,xS 19 (yj 13 17 18),qA 20 .neq 19 0] 20 wy (.blk 1 (wb (qe [wj 21,xM 22 4,yl 24,qu 23 22,xd 25 ki 24,wI 22 23,yk 26 bD 21 23 25,qg 7 26] (wg [yz 27,qb 28 (.pnil 0 true (.t 27))] 28 (xa (yz 29) 6 29))) [wj 30,xd 31 fg 30])))) (xT 6 (.c .nilp)))) (wV [wj 32,xw 33 4,qu 34 33,wl 35 4 34 qV,xB 36 35,yl 37,xS 38 (yj 32 36 37),qg 8 38] (qe [wR 39 4,qu 40 39] (.blk 2 (xG (xb 42 40 1 41 42) 41 (.reg [yl 43,wh 44 43,wR 45 44,yp 47 4,yJ 49,qu 46 45,qu 48 47,qy (.mup 1 (.t 46) (.t 48) (.t 49))]) (xb 51 40 2 50 51) 50 (.reg [yl 52,yp 53 4,yp 59 4,yJ 61,qu 54 53,qu 60 59,wG 55 gN 52 54,wI 59 60,wh 56 55,wR 57 56,qu 58 57,qy (.mup 1 (.t 58) (.t 60) (.t 61))]) (xG (xb 63 40 3 62 63) 62 (.reg [wj 64,wj 65,wh 66 65,xM 67 66,qu 68 67,yJ 69,xZ 70 1 [qC] 1 1 69,xp 71 1 8 68 70,wh 72 64,xM 73 72,xr 73 71]) (xb 75 40 4 74 75) 74 (yu [wj 76,xw 77 4,qu 78 77,wl 79 4 78 wQ,xB 80 79,yl 81,xS 82 (yj 76 80 81),qg 9 82] [wj 83,yJ 84,wG 85 fc 83 84,qg 86 9,wh 87 85,xr 87 86]) (qB (xb 89 40 5 88 89) 88 (xD (wg [yJ 90,qA 91 .neq 90 0] 91 [wj 92,xM 93 4,yl 95,qu 94 93,xd 96 ki 95,wI 93 94,yk 97 bD 92 94 96,yc 97]) [wj 98,qr 99 4 4,yl 101,qu 100 99,xd 102 ki 101,wI 99 100,yk 103 bD 98 100 102,yc 103]) (wg (xb 105 40 7 104 105) 104 [yJ 106,wx 107 [qC] (xY 1 106),wB 108 1 107,yc 108])))))) (xT 6 (.c .nilp)))⟩
theorem mt:af Tryz.prog iu=some ic:=by kernel_rfl
def lE:FK:=⟨26,xz 6,wV (xT 6 (.c .nilp)) (yn [xt 10,wm 11 10,wz 12] 0 [wS 13 12 11] 13 wy (yx 1 (xx [wv 14 5 10 12,qD 15 5 14,qW 8 [qC,qL,.nils,.nils,.nils],qO 5 8 15] [wj 16,xd 17 fg 16] (qe [wj 18,qD 19 5 8,yl 20,yk 21 iu 18 19 20,qg 9 21] (wg [qg 22 9,qb 23 (.pnil 0 true (.t 22))] 23 (xa (qg 24 9) 6 24)))) 25 12 12 25)) (xT 6 (.c .nilp))⟩
theorem td:af Tryz.prog bD=some lE:=by kernel_rfl
def my:FK:=⟨57,xz 6,qe [wz 6] (qU [qb 11 .mkm,wx 12 [.nilm,.nilp] (xY 1 11),wB 13 2 12,qg 7 13] (yn [wj 14,wh 15 14,wR 16 15,wR 17 16,qu 18 17,xt 19,wv 20 3 18 19,yp 21 20,qu 22 21,wm 23 22,wz 24] 0 [wS 25 24 23] 25 wy (yx 1 (yu [qg 26 24,wv 27 1 22 24,qu 28 27,qg 8 26,qg 9 28] [yz 29,wh 30 29,wR 31 30,qg 33 9,yl 34,yJ 35,wv 36 1 34 35,qu 32 31,qu 37 36,qy (.mup 1 (.t 32) (.t 33) (.t 37))]) 38 24 24 38)) (xD (qe [wj 39,wj 40,wh 41 40,wR 42 41,wR 43 42,qu 44 43,xt 45,wv 46 3 44 45,xw 47 46,qu 48 47,yz 49,yk 50 bD 39 48 49,qg 10 50] (wg [qg 51 10,qb 52 (.pnil 0 true (.t 51))] 52 [qg 53 10,wh 54 53,wR 55 54,qu 56 55,yc 56])) [wz 6]))⟩
theorem ua:af Tryz.prog fh=some my:=by kernel_rfl
def ml:FK:=⟨12,[],.reg [qu 4 0,wR 5 1,qu 6 5,wm 7 6,x7 8 7 1,qu 9 2,yk 10 fh 4 8 9,xw 11 3,xr 11 10]⟩
theorem uw:af Tryz.prog fb=some ml:=by kernel_rfl
def jR:AK:=xx [yw 3 1,wB 4 1 1,qW 6 [.nils,qC,qC,.nils],wz 7] [yB 10 3,yl 11,wx 12 [.nils,qC,qC,.nils,qC,qC,qC,qC,qC,qC,qC,qC,qC,qC,qC,qC,qC,qC,qC,qC] [xE 1 10,ym 1 11],wB 13 20 12,qW 8 [.nilp],xr 8 13] (qe [qW 9 [.nils,qC,qC,.nils]] (yg [qb 14 (.mkf (.func fb) [.t 8,.t 3,.t 4,.t 9]),xd 15 vg 14,yp 16 9,xr 16 15] (xg [qu 17 8,wh 18 17,xM 19 18,qu 20 19,wR 26 9,qu 21 8,wh 22 21,qr 23 4 22,qb 24 (.slA 16 1 (.t 23) none none),xd 25 bX 24,wI 8 17,wI 19 20,xr 26 20,xM 27 9,xr 27 25] [xB 28 9,qu 29 8,wh 30 29,xw 31 30,qu 32 31,xV 6 28,wI 8 29,wI 31 32,qg 7 32])))
def jW:FK:=⟨33,[.c 6 xj,.t 7],(AK.whole jR)⟩
theorem zd:af Tryz.prog eA=some jW:=by kernel_rfl
def uW:FK:=⟨21,xI,xQ [yw 2 1,x8] [yB 7 2,xt 8,wG 9 kW 7 8,xq 10 9] 10 (xT 4 (ql (-1))) (wV [yB 12 2,xt 13,qp 14 eA (yi 12 13 (ql 4000)),qg 11 14,wM 15 0 11,wM 16 1 11,qW 5 [.nils,qC,qC,.nils],xV 5 15,yc 16] (wg [yp 17 5,qu 18 17,wc 19 18 3] 19 (xT 4 (ql (-1)))) (xa (yE 20) 4 20))⟩
theorem Fb:af Tryz.prog iJ=some uW:=by kernel_rfl
def oL:FK:=⟨28,[.c 6 xj,.t 7],xQ [yw 3 1,qW 6 [.nils,qC,qC,.nils],wD 7] [yB 10 3,xt 11,wG 12 kW 10 11,xq 13 12,qg 14 13,xe 15 14 2,qG 16 14 (.call eL (yh 15 qV (ql 4000))),yy 17 14 16,xJ 18 14 17] 18 [wx 19 [.nils,qC,qC,.nils] [],xV 6 19,wD 7] (xg [yB 21 3,xt 22,yl 23,yk 24 eA 21 22 23,qg 20 24,wM 25 0 20,wM 26 1 20,qW 8 [.nils,qC,qC,.nils],xV 8 25,qg 9 26] [xB 27 8,xV 6 27,qd 7 ws])⟩
theorem zM:af Tryz.prog cy=some oL:=by kernel_rfl
def sO:FK:=⟨11,xF,wV (xT 2 (.c .nilp)) (xK [wj 3,wm 4 3,yG 5 4 2000] 5 [wj 6,qb 7 (.slS 1 (.t 6) none (some (ql 2000))),yz 0]) [wj 8,wx 9 [.nils,qC] (xY 1 8),wB 10 2 9,qg 2 10]⟩
theorem DH:af Tryz.prog ke=some sO:=by kernel_rfl
def gi:FK:=⟨99,xI,qe [x8] (xQ [wj 7,wj 8,wh 9 8,yp 10 9,qu 11 10,xR 12 11,wh 13 7,yp 14 13,xr 14 12] [xt 15,qA 16 .lss 15 1,qg 17 16,xe 18 17 0,qG 19 17 (qK 18),wZ 20 17 0 19,wW 21 17 20,qG 22 17 (wa 21),xN 23 17 .eql 22 qV,xJ 24 17 23] 24 [x8] (xQ [wj 25,wh 26 25,yp 27 26,qu 28 27,x7 29 28 1,qg 5 29] [xu 30,wj 31,wh 32 31,wR 33 32,qu 34 33,wm 35 34,wS 36 30 35] 36 [wj 37,wh 38 37,wR 39 38,qu 40 39,xu 41,wv 42 1 40 41,qu 43 42,qb 44 (.conv .i64 (.t 43)),xt 45,wo 46 .rem 44 45,yv 46] (qe [wj 47,wh 48 47,wR 49 48,xu 51,wj 52,wh 53 52,wR 54 53,wj 62,wh 63 62,wR 64 63,xu 66,qA 67 .mul 66 7,wA 68 67 3,wj 69,wh 70 69,wR 71 70,xu 80,qA 81 .mul 80 29,xu 83,wj 84,wh 85 84,wR 86 85,qu 50 49,qu 55 54,wm 56 55,wo 57 .rem 51 56,wv 58 1 50 57,qu 59 58,qb 60 (.conv .i64 (.t 59)),qA 61 .mul 60 131,qu 65 64,qu 72 71,wm 73 72,wo 74 .rem 68 73,wv 75 1 65 74,qu 76 75,qb 77 (.conv .i64 (.t 76)),qA 78 .mul 77 1117,wo 79 .add 61 78,wo 82 .add 79 81,qu 87 86,wm 88 87,wo 89 .quo 83 88,qA 90 .mul 89 53,wo 91 .add 82 90,yc 91] (xg [yE 92,yE 93,qA 94 .quo 93 64,wo 95 .xor 92 94,yc 95] [yE 96,xt 97,wo 98 .rem 96 97,yv 98]))))⟩
theorem zY:af Tryz.prog bp=some gi:=by kernel_rfl
def kP:FK:=⟨12,xI,xg [x8] [xt 5,wj 6,xt 7,wm 8 7,ye 9 6 (.t 8),wv 10 1 5 9,qu 11 10,yv 11]⟩
theorem rb:af Tryz.prog cR=some kP:=by kernel_rfl
def lO:FK:=⟨12,xI,xg (xT 4 (.c qL)) [xt 5,wj 6,xt 7,wm 8 7,ye 9 6 (.t 8),wv 10 1 5 9,qu 11 10,yv 11]⟩
theorem rJ:af Tryz.prog ew=some lO:=by kernel_rfl
def iH:FK:=⟨21,[.c 4 xj],wV [qW 4 [qC,qC,qL,.nils]] (wg [xt 5,wm 6 5,wc 7 6 0,yz 8,xe 9 8 0,qG 10 8 (xo bp 9 xP),xN 11 8 .eql 10 qV,xJ 12 8 11] 12 [wj 13,qX 14 1 [qC] 10 [(0,1,qV),(1,1,wQ),(2,1,xO),(3,1,xP),yr 4 5,yr 5 7,yr 6 15,yr 7 16,yr 8 100,yr 9 255],xk 15 13 14,wx 16 [qC,qC,qL,.nils] [(0,1,wQ),ym 1 15],xV 4 16]) [wj 17,xt 18,xW 19 17 18,wx 20 [qC,qC,qL,.nils] [(0,1,xO),ym 2 19],xV 4 20]⟩
theorem uS:af Tryz.prog eI=some iH:=by kernel_rfl
def fZ:FK:=⟨47,[.c 6 xj],xQ [qW 6 [qC,qC,qL,.nils]] [yl 8,qA 9 .lss 8 2,qg 10 9,xe 11 10 0,qG 12 10 (xo bp 11 (ql 4)),xN 13 10 .eql 12 qV,xJ 14 10 13] 14 [wj 15,xt 16,wG 17 eI 15 16,xV 6 17] (.seq (wg [wj 18,ye 19 18 (ql 7),wc 20 19 0] 20 [wj 21,qX 22 1 [qC] 3 [yr 0 11,yr 1 12,yr 2 11],xk 23 21 22,wj 24,xt 25,yl 26,x7 27 26 1,yk 28 bn 24 25 27,xZ 29 4 [qC,qC,qL,.nils] 1 4 28,wx 30 [qC,qC,qL,.nils] [xE 1 23,ym 3 29],xV 6 30]) (xg [wj 31,qX 32 1 [qC] 9 [(0,1,xP),(1,1,xP),yr 2 4,yr 3 5,yr 4 6,yr 5 7,yr 6 8,yr 7 9,yr 8 10],xk 33 31 32,qg 7 33] [yz 34,wj 35,xt 36,yl 37,x7 38 37 1,yk 39 bn 35 36 38,wj 40,xt 41,yl 42,x7 43 42 1,yk 44 bn 40 41 43,qX 45 4 [qC,qC,qL,.nils] 2 [xE 4 39,wT 4 4 44],wx 46 [qC,qC,qL,.nils] [xE 1 34,ym 3 45],xV 6 46]))⟩
theorem oX:af Tryz.prog bn=some fZ:=by kernel_rfl
def od:FK:=⟨99,[.c 4 xj],qe [qW 4 [qC,qC,qL,.nils]] (xQ [qd 5 (.c .any),wj 9,wh 10 9,wR 11 10,wj 13,wh 14 13,xw 15 14,xt 17,qu 12 11,qu 16 15,yk 18 bn 12 16 17,qW 5 [qC,qC,qL,.nils],xV 5 18] [wj 19,wh 20 19,yp 21 20,qu 22 21,wm 23 22,wc 24 23 0,qg 25 24,xe 26 25 0,qG 27 25 (qK 26),wZ 28 25 0 27,wW 29 25 28,qG 30 25 (xo bp 29 (ql 4)),xN 31 25 .gtr 30 qV,xJ 32 25 31] 32 [xB 33 5,xV 4 33] (qe [qd 6 (.c .any),wj 34,wh 35 34,yp 36 35,wj 38,wh 39 38,wR 40 39,wj 42,wh 43 42,yp 44 43,qu 37 36,qu 41 40,qu 45 44,wm 46 45,ye 47 41 (.t 46),wI 36 37,wv 48 3 37 47,qD 49 3 48,qW 6 [qL,.nils,.nils],qO 3 6 49] (qU [wR 50 6,qu 51 50,wx 52 [qC,qC,qL,.nils] [yr 0 13,ym 2 51],qW 7 [qC,qC,qL,.nils],xV 7 52] (xL [wz 8] 0 [yJ 53,yp 54 6,qu 55 54,wm 56 55,wS 57 53 56] 57 wy 1 (.reg [xM 60 7,wj 62,wh 63 62,wR 64 63,wj 66,wh 67 66,xw 68 67,qu 61 60,qu 65 64,qu 69 68,qp 70 bn (yi 65 69 xO),wI 60 61,ya 71 4 [qC,qC,qL,.nils] 1 (xY 4 70),xp 72 4 56 61 71,xM 73 7,xr 73 72]) [yJ 58,xR 59 58,qg 8 59]) (xD (wg [wj 74,wh 75 74,wR 76 75,qu 77 76,ye 78 77 xO,wc 79 78 0] 79 [xB 80 7,xV 4 80]) [wj 81,wh 82 81,wR 83 82,ya 85 1 [qC] 4 [(0,1,xP),yr 1 4,yr 2 8,yr 3 10],wj 88,wh 89 88,wR 90 89,wj 92,wh 93 92,xw 94 93,qu 84 83,xB 87 7,qu 91 90,qu 95 94,xk 86 84 85,wd xj 7 87,wI 90 91,wI 94 95,qp 96 bn (yi 91 95 xO),wd xj 7 87,qX 97 4 [qC,qC,qL,.nils] 2 [xE 4 87,wT 4 4 96],wx 98 [qC,qC,qL,.nils] [xE 1 86,ym 3 97],xV 4 98]))))⟩
theorem zS:af Tryz.prog jQ=some od:=by kernel_rfl
def nh:FK:=⟨46,xF,qe (xT 2 (.c qL)) (wV [wj 3,wj 4,wh 5 4,xM 6 5,qu 7 6,xR 8 7,wh 9 3,xM 10 9,xr 10 8] (wg [wj 11,wh 12 11,wR 13 12,qu 14 13,ye 15 14 (ql 9),wc 16 15 0,qg 17 16,xH 18 17 0,qH 19 17 (qK 18),wJ 20 17 2 19,wH 21 17 20,qH 22 17 (wa 21),xf 23 17 .gtr 22 qV,xy 24 17 23] 24 [wj 25,wh 26 25,wR 27 26,wj 29,wh 30 29,xw 31 30,qu 28 27,qu 32 31,xW 33 28 32,qg 2 33]) [wj 34,wh 35 34,xM 36 35,wj 39,wh 40 39,xM 41 40,qu 37 36,qA 38 .rem 37 24,qu 42 41,qA 43 .rem 42 24,xR 44 43,qb 45 (.slStr (xh [97,98,99,100,101,103,104,105,106,107,108,109,110,112,113,114,115,116,117,118,119,120,121,122]) (some (.t 38)) (some (.t 44))),qg 2 45])⟩
theorem vU:af Tryz.prog jd=some nh:=by kernel_rfl
def kJ:FK:=⟨24,[.c 4 (some 5)],xx [wB 3 4 1,qW 4 [qC,qL,.nils,.nils,.nils]] [wj 6,xd 7 jd 6,yz 5] (xg [wj 8,qX 9 1 [qL] 0 [],wj 10,wh 11 10,xw 12 11,qu 13 12,xp 14 1 16 9 13,xu 15,xZ 16 1 [qL] 1 1 15,xp 17 1 16 14 16,wh 18 8,xw 19 18,xr 19 17] [xu 20,xB 21 3,xZ 22 4 [qC,qC,qL,.nils] 1 4 21,wx 23 [qC,qL,.nils,.nils,.nils] [(0,1,wQ),ym 1 20,ym 2 22],qO 5 4 23])⟩
theorem rc:af Tryz.prog ft=some kJ:=by kernel_rfl
def ou:FK:=⟨14,[.c 2 xj],xg [qW 2 [qC,qC,qL,.nils]] [wj 3,wj 5,wh 6 5,wR 7 6,ya 9 1 [qC] 6 [yr 0 16,yr 1 16,yr 2 16,yr 3 8,yr 4 17,(5,1,qV)],qu 8 7,yt 4 3 xO,wI 7 8,xk 10 8 9,wx 11 [qC,qC,qL,.nils] [(0,1,wQ),ym 1 10],qX 12 4 [qC,qC,qL,.nils] 2 [xE 4 4,wT 4 4 11],wx 13 [qC,qC,qL,.nils] [yr 0 7,ym 3 12],xV 2 13]⟩
theorem Ah:af Tryz.prog gm=some ou:=by kernel_rfl
def kb:AK:=xx (xT 4 xi) [wj 9,wj 10,wh 11 10,wR 12 11,qu 13 12,qX 14 1 [qC] 5 [(0,1,xO),(1,1,xP),(2,1,wQ),(3,1,qV),yr 4 5],xk 15 13 14,wx 16 [qC,qC,qL,.nils] [(0,1,wQ),ym 1 15],wG 17 ft 9 16,qW 5 [qC,qL,.nils,.nils,.nils],qO 5 5 17] (xx [yp 18 5,qu 19 18,wx 20 [qC,qC,qL,.nils] [(0,1,xO),ym 2 19],qW 6 [qC,qC,qL,.nils],xV 6 20] [wj 21,xt 22,x7 23 22 1,wG 24 bs 21 23,qg 7 24] (qe [yp 25 5,qu 26 25,xB 27 6,wx 28 [qC,qC,qL,.nils] [(0,1,wQ),(1,1,wQ)],qX 29 4 [qC,qC,qL,.nils] 2 [xE 4 27,wT 4 4 28],wx 30 [qC,qC,qL,.nils] [yr 0 4,ym 3 29],xZ 31 4 [qC,qC,qL,.nils] 1 4 30,wx 32 [qC,qL,.nils,.nils,.nils] [(0,1,xO),ym 1 26,ym 2 31],qW 8 [qC,qL,.nils,.nils,.nils],qO 5 8 32] (yg [wj 33,wj 34,wh 35 34,qr 36 4 35,qu 37 36,x7 38 37 2,wh 39 33,qr 40 4 39,xr 40 38] (qz [yz 44,qD 41 5 5,xB 42 6,ya 43 4 [qC,qC,qL,.nils] 1 (xY 4 42),qD 45 5 8,ya 46 5 [qC,qL,.nils,.nils,.nils] 1 (xY 5 45),xp 47 5 96 44 46,wd (some 5) 5 41,wd xj 6 42,wx 48 [qC,qL,.nils,.nils,.nils] [yr 0 6,ym 2 43,ym 3 47],qX 49 5 [qC,qL,.nils,.nils,.nils] 2 [xE 5 41,wT 5 5 48],yv 49]))))
def jL:FK:=⟨50,xI,(AK.whole kb)⟩
theorem zs:af Tryz.prog jF=some jL:=by kernel_rfl
def oD:FK:=⟨128,xI,xx (xT 4 xi) [wj 7,wj 8,wh 9 8,qr 10 4 9,qu 11 10,x7 12 11 1,wh 13 7,qr 14 4 13,xr 14 12] (wV [wj 15,wh 16 15,wR 17 16,qu 18 17,ye 19 18 (ql 13),qg 5 19] (.blk 0 (xG [xu 21,qA 22 .lss 21 3,qg 23 22,xH 24 23 0,qH 25 23 (qK 24),wJ 26 23 2 25,wH 27 23 26,qH 28 23 (wa 27),xf 29 23 .gtr 28 qV,xy 30 23 29,qg 20 30] 20 (qz [wj 31,wh 32 31,wR 33 32,wj 35,wh 36 35,xw 37 36,wj 40,qu 34 33,qu 38 37,xW 39 34 38,yt 41 40 xP,xZ 42 4 [qC,qC,qL,.nils] 1 4 41,wx 43 [qC,qL,.nils,.nils,.nils] [(0,1,xO),ym 1 39,ym 2 42],xZ 44 5 [qC,qL,.nils,.nils,.nils] 1 5 43,yv 44]) [xu 46,qA 47 .lss 46 5,qg 45 47] 45 (qz [wj 48,wj 49,yt 50 49 xP,wG 51 ft 48 50,xZ 52 5 [qC,qL,.nils,.nils,.nils] 1 5 51,yv 52]) (xG [xu 54,qA 55 .lss 54 7,qg 56 55,xe 57 56 1,xN 58 56 .lss 57 xO,xJ 59 56 58,qg 53 59] 53 (qz [wj 60,yt 61 60 xP,xZ 62 4 [qC,qC,qL,.nils] 1 4 61,wx 63 [qC,qL,.nils,.nils,.nils] [(0,1,xP),ym 2 62],xZ 64 5 [qC,qL,.nils,.nils,.nils] 1 5 63,yv 64]) [xu 66,wc 67 66 7,qg 65 67] 65 (qz [wj 68,xd 69 gm 68,wj 70,yt 71 70 xO,qX 72 4 [qC,qC,qL,.nils] 2 [xE 4 69,wT 4 4 71],wx 73 [qC,qL,.nils,.nils,.nils] [yr 0 4,ym 2 72],xZ 74 5 [qC,qL,.nils,.nils,.nils] 1 5 73,yv 74]) (xG [xu 76,wc 77 76 8,qg 75 77] 75 (qz [wj 78,xd 79 gm 78,xZ 80 4 [qC,qC,qL,.nils] 1 4 79,wx 81 [qC,qC,qL,.nils] [yr 0 12,ym 3 80],xZ 82 4 [qC,qC,qL,.nils] 1 4 81,wx 83 [qC,qL,.nils,.nils,.nils] [(0,1,xP),ym 2 82],xZ 84 5 [qC,qL,.nils,.nils,.nils] 1 5 83,yv 84]) [xu 86,qA 87 .lss 86 11,qg 85 87] 85 (wV [wj 88,yt 89 88 xP,xZ 90 4 [qC,qC,qL,.nils] 1 4 89,wj 91,xt 92,x7 93 92 1,wG 94 bs 91 93,wx 95 [qC,qL,.nils,.nils,.nils] [yr 0 5,ym 2 90,ym 3 94],qW 6 [qC,qL,.nils,.nils,.nils],qO 5 6 95] (xK [wj 96,wh 97 96,wR 98 97,qu 99 98,ye 100 99 xO,wc 101 100 0] 101 [wj 102,xt 103,x7 104 103 1,wG 105 bs 102 104,qr 106 4 6,xr 106 105]) [qD 107 5 6,xZ 108 5 [qC,qL,.nils,.nils,.nils] 1 5 107,yv 108]) (wg [xu 110,wc 111 110 11,qg 112 111,xH 113 112 0,qH 114 112 (qK 113),wJ 115 112 0 114,wH 116 112 115,qH 117 112 (xo bp 116 xP),xf 118 112 .eql 117 qV,xy 119 112 118,qg 109 119] 109 [wj 120,yt 121 120 xO,xZ 122 4 [qC,qC,qL,.nils] 1 4 121,wx 123 [qC,qL,.nils,.nils,.nils] [yr 0 7,ym 2 122],xZ 124 5 [qC,qL,.nils,.nils,.nils] 1 5 123,yv 124]))))) [wj 125,xt 126,wG 127 jF 125 126,yv 127])⟩
theorem zk:af Tryz.prog kg=some oD:=by kernel_rfl
def mV:FK:=⟨40,xI,xx (xT 4 xi) [wj 8,wh 9 8,xw 10 9,qu 11 10,qg 5 11] (qU (xa (qX 12 5 [qC,qL,.nils,.nils,.nils] 0 []) 6 12) (xL [wj 13,wh 14 13,wR 15 14,qu 16 15,qX 17 1 [qC] 4 [(0,1,xO),(1,1,xP),(2,1,wQ),yr 3 4],xk 18 16 17,qg 7 18] 0 [yz 19,yG 20 19 0,qg 21 20,xH 22 21 0,qH 23 21 (qK 22),wJ 24 21 4 23,wH 25 21 24,xf 26 21 .gtr 25 qV,xy 27 21 26] 27 wy 1 (.reg [yE 30,wj 31,xt 32,wG 33 kg 31 32,xp 34 5 96 30 33,yc 34]) [yz 28,x7 29 28 1,qg 7 29]) (xg [wj 35,xu 36,wh 37 35,xw 38 37,xr 38 36] (xa (yE 39) 4 39)))⟩
theorem yX:af Tryz.prog bs=some mV:=by kernel_rfl
def lS:AK:=xx [qW 6 [qL,.nils,.nils]] [wj 8,qX 9 1 [qL] 3 [(0,1,xh [97]),(1,1,xh [98]),(2,1,xh [99])],yl 10,qb 11 (.slS 1 (.t 9) none (some (.t 10))),wh 12 8,xw 13 12,xr 13 11] (qe [wj 14,yl 15,x7 16 15 1,wh 17 14,xM 18 17,xr 18 16] (yg [xt 19,qX 20 1 [qL] 0 [],wj 21,wh 22 21,xw 23 22,qu 24 23,xp 25 1 16 20 24,wx 26 [qL,.nils,.nils] [xE 1 19,ym 1 25],qW 7 [qL,.nils,.nils],qO 3 7 26] (wV [wj 27,wF 28 bs 27 xP,xw 29 7,xr 29 28] (qT [wj 30,wh 31 30,qr 32 4 31,qu 33 32,yG 34 33 0,qg 35 34,xH 36 35 0,qH 37 35 (qK 36),wJ 38 35 0 37,wH 39 35 38,qH 40 35 (xo bp 39 (ql 4)),xf 41 35 .gtr 40 qV,xy 42 35 41] 42 (yu [wj 43,wj 44,wh 45 44,qr 46 4 45,qu 47 46,x7 48 47 1,wh 49 43,qr 50 4 49,xr 50 48] [xw 51 7,wj 53,qu 52 51,yt 54 53 xO,wI 51 52,ya 55 4 [qC,qC,qL,.nils] 1 (xY 4 54),wx 56 [qC,qL,.nils,.nils,.nils] [yr 0 7,ym 2 55],ya 57 5 [qC,qL,.nils,.nils,.nils] 1 (xY 5 56),xp 58 5 96 52 57,xw 59 7,xr 59 58])) [qD 60 3 7,qO 3 6 60])))
def lW:FK:=⟨61,[.c 6 (some 3)],(AK.whole lS)⟩
theorem Cp:af Tryz.prog iS=some lW:=by kernel_rfl
def uL:FK:=⟨69,[.c 2 xU],qe [qW 2 xv] (qU [wj 8,wj 9,qX 10 1 [qC] 4 [yr 0 14,yr 1 20,yr 2 8,yr 3 26],xk 11 9 10,wx 12 [.nilp,.nils,.nils,qC,qC] [xE 1 8,ym 4 11],wB 13 5 12,qg 3 13] (xL [wj 14,qX 15 1 [qC] 4 [(0,1,qV),(1,1,wQ),(2,1,wQ),(3,1,xO)],xk 16 14 15,yv 16] 0 [yI 17,yG 18 17 0] 18 wy 1 (yu [qd 5 (.c .any),yD 21,ya 22 1 [qL] 3 [(0,1,xh [102]),(1,1,xh [103]),(2,1,xh [104])],yD 23,wh 24 23,yp 25 24,wj 30,qu 26 25,wm 27 26,wv 28 1 22 27,qu 29 28,ye 31 30 xP,wI 25 26,wI 28 29,yk 32 iS 21 29 31,qW 5 [qL,.nils,.nils],qO 3 5 32] [yD 33,yD 34,wh 35 34,yp 36 35,qu 37 36,qD 38 3 5,ya 39 3 [qL,.nils,.nils] 1 (xY 3 38),xp 40 3 64 37 39,wh 41 33,yp 42 41,xr 42 40]) [yI 19,x7 20 19 1,yv 20]) (qe [yD 43,wj 44,qX 45 1 [qC] 4 [(0,1,qV),(1,1,wQ),(2,1,xO),(3,1,wQ)],xk 46 44 45,qp 47 iS (yh 43 (xh [109]) (.t 46)),qW 6 [qL,.nils,.nils],qO 3 6 47] (wV [qd 7 (.c .any),yD 49,wh 50 49,yp 51 50,qu 52 51,qD 54 3 6,ya 55 3 [qL,.nils,.nils] 1 (xY 3 54),qX 48 3 [qL,.nils,.nils] 0 [],wI 51 52,wd (some 3) 6 54,xp 53 3 64 48 52,wd (some 3) 6 54,xp 56 3 64 53 55,wx 57 xv (xY 1 56),qW 7 xv,xr 7 57] (wg [yB 58 7,xd 59 eZ 58,xq 60 59] 60 [wx 61 [qC,qC,qL,.nils] [(0,1,wQ),(1,1,wQ)],xZ 62 4 [qC,qC,qL,.nils] 1 4 61,wx 63 [qC,qL,.nils,.nils,.nils] [(0,1,xP),ym 2 62],xZ 64 5 [qC,qL,.nils,.nils,.nils] 1 5 63,wx 65 [qL,.nils,.nils] [(0,1,xh [109]),ym 2 64],xZ 66 3 [qL,.nils,.nils] 1 3 65,wx 67 xv (xY 1 66),xr 2 67]) [yB 68 7,xr 2 68])))⟩
theorem Fp:af Tryz.prog dF=some uL:=by kernel_rfl
def Av:FK:=⟨42,[.c 4 xj],qe [qW 4 [qC,qC,qL,.nils]] (xQ [wj 8,qX 9 1 [qL] 4 [(0,1,xh [97]),(1,1,xh [98]),(2,1,xh [120]),(3,1,xh [103,111])],xt 10,yk 11 bn 8 9 10,qW 5 [qC,qC,qL,.nils],xV 5 11] [wj 12,ye 13 12 xP,yG 14 13 0] 14 [xB 15 5,xV 4 15] (qU [wj 16,qX 17 1 [qL] 3 [(0,1,xh [102]),(1,1,xh [103]),(2,1,xh [97])],xW 18 16 17,wx 19 [qC,qC,qL,.nils] [yr 0 13,ym 2 18],qW 6 [qC,qC,qL,.nils],xV 6 19] (xL [wj 20,ye 21 20 (ql 4),qg 7 21] 0 [yz 22,yG 23 22 0] 23 wy 1 (.reg [xM 26 6,wj 28,ya 29 1 [qL] 2 [(0,1,xh [97]),(1,1,xh [98])],qu 27 26,qp 30 bn (yi 28 29 xO),wI 26 27,ya 31 4 [qC,qC,qL,.nils] 1 (xY 4 30),xp 32 4 56 27 31,xM 33 6,xr 33 32]) [yz 24,x7 25 24 1,qg 7 25]) (xD (wg [wj 34,ye 35 34 xO,wc 36 35 0] 36 [xB 37 6,xV 4 37]) [xB 38 5,xB 39 6,qX 40 4 [qC,qC,qL,.nils] 2 [xE 4 38,wT 4 4 39],wx 41 [qC,qC,qL,.nils] [(0,1,xP),ym 3 40],xV 4 41])))⟩
theorem HS:af Tryz.prog jA=some Av:=by kernel_rfl
def uQ:FK:=⟨40,[.c 2 xj],qe [qW 2 [qC,qC,qL,.nils]] (wV [wj 4,wF 5 jA 4 (ql 4),qW 3 [qC,qC,qL,.nils],xV 3 5] (qe [wj 6,ye 7 6 (ql 20)] (.blk 0 (xG (xb 9 7 0 8 9) 8 (.reg [wj 10,qX 11 1 [qC] 3 [yr 0 (-1),yr 1 256,(2,1,xP)],xk 12 10 11,yp 13 3,xr 13 12]) (xb 15 7 1 14 15) 14 (.reg [wj 16,qX 17 1 [qL] 5 [(0,1,.c qL),(1,1,xh [100,111]),(2,1,xh [65]),(3,1,xh [97,98,99,100,101]),(4,1,xh [113])],xW 18 16 17,xw 19 3,xr 19 18]) (xG (xb 21 7 2 20 21) 20 (.reg [wj 22,qX 23 1 [qC] 5 [(0,1,qV),yr 1 14,yr 2 (-1),yr 3 5,yr 4 11],xk 24 22 23,wR 25 3,xr 25 24]) (xb 27 7 3 26 27) 26 (.reg [xM 28 3,wj 30,qu 29 28,wF 31 eI 30 xi,wI 28 29,ya 32 4 [qC,qC,qL,.nils] 1 (xY 4 31),xp 33 4 56 29 32,xM 34 3,xr 34 33]) (xK (xb 36 7 4 35 36) 35 [wj 37,wF 38 jA 37 (ql 7),xV 3 38]))))) [xB 39 3,xV 2 39])⟩
theorem Fj:af Tryz.prog pr=some uQ:=by kernel_rfl
def pa:AK:=xx [qW 2 xv] [wj 9,xd 10 dF 9,qW 3 xv,xr 3 10] (qe [wR 11 3,qu 12 11,wR 13 3,qu 14 13,wm 15 14,x7 16 15 1,wv 17 3 12 16,qD 18 3 17,qW 4 [qL,.nils,.nils],qO 3 4 18] (.cut (qe [wj 19,ye 20 19 (ql 32)] (.blk 0 (xG (xb 22 20 0 21 22) 21 (.reg [wj 23,qX 24 1 [qL] 4 [(0,1,xh [102]),(1,1,xh [100,111]),(2,1,.c qL),(3,1,xh [103])],xW 25 23 24,wR 26 4,xr 26 25]) (xb 28 20 1 27 28) 27 (.reg [qX 29 1 [qL] 0 [],yp 30 4,qu 31 30,xp 32 1 16 29 31,wj 33,qX 34 1 [qL] 3 [(0,1,xh [97]),(1,1,xh [120]),(2,1,xh [105,102])],xW 35 33 34,xZ 36 1 [qL] 1 1 35,xp 37 1 16 32 36,yp 38 4,xr 38 37]) (xG (xb 40 20 2 39 40) 39 (.reg [qX 41 5 [qC,qL,.nils,.nils,.nils] 0 [],xw 42 4,qu 43 42,xp 44 5 96 41 43,wj 45,xd 46 pr 45,xZ 47 4 [qC,qC,qL,.nils] 1 4 46,wx 48 [qC,qL,.nils,.nils,.nils] [(0,1,xP),ym 2 47],xZ 49 5 [qC,qL,.nils,.nils,.nils] 1 5 48,xp 50 5 96 44 49,xw 51 4,xr 51 50]) (xb 53 20 3 52 53) 52 (.reg [qX 54 5 [qC,qL,.nils,.nils,.nils] 0 [],xw 55 4,qu 56 55,xp 57 5 96 54 56,wj 58,ye 59 58 (ql 10),wj 60,qX 61 1 [qL] 3 [(0,1,.c qL),(1,1,xh [97]),(2,1,xh [122,122])],xW 62 60 61,wj 63,wF 64 jA 63 xO,xZ 65 4 [qC,qC,qL,.nils] 1 4 64,wx 66 [qC,qL,.nils,.nils,.nils] [xE 1 59,ym 1 62,ym 2 65],xZ 67 5 [qC,qL,.nils,.nils,.nils] 1 5 66,xp 68 5 96 57 67,xw 69 4,xr 69 68]) (xG (xb 71 20 4 70 71) 70 (qe [wx 72 [qC,qC,qL,.nils] [(0,1,wQ)],xZ 73 4 [qC,qC,qL,.nils] 1 4 72,wx 74 [qC,qL,.nils,.nils,.nils] [yr 0 6,ym 2 73],qW 5 [qC,qL,.nils,.nils,.nils],qO 5 5 74] (.cut (xL [wj 75,ye 76 75 (ql 5),yc 76] 1 [yE 77,yG 78 77 0] 78 (.exit 1) 2 (.reg [wj 81,ya 82 1 [qC] 2 [yr 0 5,yr 1 6],xw 84 5,qu 85 84,qD 86 5 5,ya 87 5 [qC,qL,.nils,.nils,.nils] 1 (xY 5 86),xk 83 81 82,wI 84 85,wd (some 5) 5 86,wx 88 [qC,qL,.nils,.nils,.nils] [xE 1 83,ym 2 85,ym 3 87],qO 5 5 88]) [yE 79,x7 80 79 1,yc 80]) (.reg [xw 90 4,qu 91 90,qD 93 5 5,ya 94 5 [qC,qL,.nils,.nils,.nils] 1 (xY 5 93),qX 89 5 [qC,qL,.nils,.nils,.nils] 0 [],wI 90 91,wd (some 5) 5 93,xp 92 5 96 89 91,wd (some 5) 5 93,xp 95 5 96 92 94,xw 96 4,xr 96 95]))) (xb 98 20 5 97 98) 97 (qz [wx 99 xv [],xr 2 99]) (qB (xb 101 20 6 100 101) 100 (xL [wj 102,qX 103 1 [qC] 3 [yr 0 20,yr 1 40,yr 2 41],xk 104 102 103,qg 7 104] 3 [yz 105,yG 106 105 0] 106 (.exit 3) 4 (.reg [qX 109 5 [qC,qL,.nils,.nils,.nils] 0 [],xw 110 4,qu 111 110,xp 112 5 96 109 111,yz 113,wx 114 [qC,qC,qL,.nils] [(0,1,wQ),ym 1 113],xZ 115 4 [qC,qC,qL,.nils] 1 4 114,wx 116 [qC,qL,.nils,.nils,.nils] [(0,1,xP),ym 2 115],xZ 117 5 [qC,qL,.nils,.nils,.nils] 1 5 116,xp 118 5 96 112 117,xw 119 4,xr 119 118]) [yz 107,x7 108 107 1,qg 7 108]) (wg (xb 121 20 7 120 121) 120 [wR 123 3,wR 126 3,qu 124 123,qu 127 126,wl 128 3 127 qV,qD 129 3 128,ya 130 3 [qL,.nils,.nils] 1 (xY 3 129),qX 122 3 [qL,.nils,.nils] 0 [],wI 123 124,wI 126 127,wd (some 3) 128 129,xp 125 3 64 122 124,wI 126 127,wd (some 3) 128 129,xp 131 3 64 125 130,wx 132 xv (xY 1 131),xr 2 132]))))))) (qe [qX 133 3 [qL,.nils,.nils] 0 [],wR 134 3,qu 135 134,xp 136 3 64 133 135,qg 8 136] (xg [yJ 137,yJ 138,wm 139 138,x7 140 139 1,qD 141 3 4,wv 142 3 137 140,qO 3 142 141] [yJ 143,wx 144 xv (xY 1 143),xr 2 144]))))
def po:FK:=⟨145,[.c 2 xU],(AK.whole pa)⟩
theorem FJ:af Tryz.prog pm=some po:=by kernel_rfl
def uU:FK:=⟨25,[.c 2 xj],qe [yw 1 4,qW 2 [qC,qC,qL,.nils]] (qU (xa (qX 5 4 [qC,qC,qL,.nils] 0 []) 3 5) (xL [x8] 0 [yc 4,xM 7 1,qu 8 7,wm 9 8,wS 10 6 9] 10 wy 1 (.reg [yD 13,xM 14 1,qu 15 14,yI 16,wv 17 4 15 16,xB 18 17,xd 19 ln 18,xZ 20 4 [qC,qC,qL,.nils] 1 4 19,xp 21 4 56 13 20,qg 3 21]) [yI 11,xR 12 11,yv 12]) (xg [yD 22,xM 23 1,xr 23 22] [xB 24 1,xV 2 24]))⟩
theorem Fc:af Tryz.prog ln=some uU:=by kernel_rfl
def tk:FK:=⟨52,xF,qe (xT 2 xi) (wV (xa (qX 8 5 [qC,qL,.nils,.nils,.nils] 0 []) 3 8) (xL [x8] 0 [yI 9,wj 10,wm 11 10,wS 12 9 11] 12 wy 1 (qe [wj 15,yI 16,wv 17 5 15 16,qD 18 5 17,qW 5 [qC,qL,.nils,.nils,.nils],qO 5 5 18] (qU (xa (qX 19 4 [qC,qC,qL,.nils] 0 []) 6 19) (xL [wz 7] 2 [yz 20,xw 21 5,qu 22 21,wm 23 22,wS 24 20 23] 24 (.exit 2) 3 (.reg [yE 27,xw 28 5,qu 29 28,yz 30,wv 31 4 29 30,xB 32 31,xd 33 ln 32,xZ 34 4 [qC,qC,qL,.nils] 1 4 33,xp 35 4 56 27 34,yc 35]) [yz 25,xR 26 25,qg 7 26]) (.reg [yD 36,wR 37 5,yp 39 5,yE 41,xM 42 5,qr 45 4 5,qu 38 37,qu 40 39,qu 43 42,qu 46 45,xd 44 dT 43,wI 37 38,wI 39 40,wI 45 46,xd 47 dT 46,wI 37 38,wI 39 40,wx 48 [qC,qL,.nils,.nils,.nils] [xE 1 38,ym 1 40,ym 2 41,ym 3 44,ym 4 47],xZ 49 5 [qC,qL,.nils,.nils,.nils] 1 5 48,xp 50 5 96 36 49,qg 3 50]))) [yI 13,xR 14 13,yv 14]) (xa (yD 51) 2 51))⟩
theorem DF:af Tryz.prog dT=some tk:=by kernel_rfl
def pc:FK:=⟨35,[.c 2 xU],qe [yw 1 1,qW 2 xv] (wV [wx 6 xv [],qW 3 xv,xr 3 6] (xL [x8] 0 [yI 7,wR 8 1,qu 9 8,wm 10 9,wS 11 7 10] 11 wy 1 (yu [wR 14 1,qu 15 14,yI 16,wv 17 3 15 16,qD 18 3 17,qW 5 [qL,.nils,.nils],qO 3 5 18] [wR 19 3,wR 21 5,yp 24 5,xw 27 5,qu 20 19,qu 22 21,qu 25 24,qu 28 27,qX 23 1 [qL] 0 [],wI 19 20,wI 21 22,wI 24 25,wI 27 28,xp 26 1 16 23 25,wI 19 20,wI 21 22,wI 27 28,xd 29 dT 28,wI 19 20,wI 21 22,wx 30 [qL,.nils,.nils] [xE 1 22,ym 1 26,ym 2 29],xZ 31 3 [qL,.nils,.nils] 1 3 30,wI 19 20,xp 32 3 64 20 31,wR 33 3,xr 33 32]) [yI 12,xR 13 12,yv 13]) [yB 34 3,xr 2 34])⟩
theorem uY:af Tryz.prog fT=some pc:=by kernel_rfl
def vp:FK:=⟨104,[.c 2 xU],qe [qW 2 xv] (xQ [wj 7,xd 8 dF 7,qW 3 xv,xr 3 8] [wj 9,ye 10 9 (ql 5),yG 11 10 2] 11 [yB 12 3,xr 2 12] (.seq (wg [wj 13,ye 14 13 (ql 6),wc 15 14 0] 15 [wj 16,xd 17 pm 16,xr 2 17]) (qe [yB 18 3,xd 19 fT 18,xr 3 19] (xQ [wR 20 3,wj 22,wR 23 3,qu 21 20,qu 24 23,wm 25 24,ye 26 22 (.t 25),wI 20 21,wv 27 3 21 26,yv 27] [yI 28,wh 29 28,xw 30 29,qu 31 30,wm 32 31,wc 33 32 0] 33 [yB 34 3,xr 2 34] (qe [yI 35,wh 36 35,xw 37 36,wj 39,yI 40,wh 41 40,xw 42 41,qu 38 37,qu 43 42,wm 44 43,ye 45 39 (.t 44),wI 37 38,wv 46 5 38 45,qg 5 46] (qU [wj 47,qX 48 1 [qL] 5 [(0,1,xh [122,122]),(1,1,xh [97]),(2,1,xh [98]),(3,1,xh [99]),(4,1,xh [100])],xW 49 47 48,wx 50 [qC,qC,qL,.nils] [(0,1,xO),ym 2 49],qW 6 [qC,qC,qL,.nils],xV 6 50] (qe [wj 51,ye 52 51 (ql 4)] (.blk 0 (xG (xb 54 52 0 53 54) 53 (.reg [wj 55,qX 56 1 [qL] 4 [(0,1,xh [102]),(1,1,xh [103]),(2,1,xh [109]),(3,1,xh [113])],xW 57 55 56,wx 58 [qC,qC,qL,.nils] [(0,1,wQ),(1,1,wQ)],xZ 59 4 [qC,qC,qL,.nils] 1 4 58,wx 60 [qC,qC,qL,.nils] [yr 0 13,ym 2 57,ym 3 59],xV 6 60]) (xb 62 52 1 61 62) 61 (xD (xK [xu 63,wh 64 63,yp 65 64,qu 66 65,qb 67 (x9 .neq 66 (.c qL))] 67 [xu 68,wj 69,qX 70 1 [qL] 5 [(0,1,xh [97]),(1,1,xh [98]),(2,1,xh [122,122]),(3,1,xh [99]),(4,1,xh [100])],xW 71 69 70,wh 72 68,yp 73 72,xr 73 71]) [yB 74 3,xr 2 74]) (qT (xb 76 52 2 75 76) 75 (xg [yI 77,yI 78,wh 79 78,xw 80 79,yI 82,wh 83 82,xw 84 83,qu 81 80,qu 85 84,qb 86 (.slS 5 (.t 85) none (some wQ)),xd 87 dT 86,wI 80 81,xp 88 5 96 81 87,wh 89 77,xw 90 89,xr 90 88] [yB 91 3,xr 2 91]))))) (xD (xK [xu 92,wh 93 92,wR 94 93,qu 95 94,qA 96 .neq 95 8] 96 [xu 97,wh 98 97,xw 99 98,qu 100 99,xB 101 6,wl 102 4 100 qV,xV 102 101]) [yB 103 3,xr 2 103])))))))⟩
theorem FH:af Tryz.prog pj=some vp:=by kernel_rfl
def mM:FK:=⟨26,xI,xQ yF [wj 6,wm 7 6,xt 8,wm 9 8,wo 10 .neq 7 9] 10 yF (xD (yn [wj 11,wm 12 11,wz 13] 0 [wS 14 13 12] 14 wy (yx 1 (qe (xa (qg 15 13) 5 15) (wg [wj 16,xu 17,wv 18 1 16 17,xt 20,xu 21,wv 22 1 20 21,qu 19 18,qu 23 22,wo 24 .neq 19 23] 24 yF)) 25 13 13 25)) (xT 4 ws))⟩
theorem vC:af Tryz.prog fz=some mM:=by kernel_rfl
def nk:FK:=⟨31,xI,xg [yw 2 4,wB 3 4 1,xm] [wR 5 2,qu 6 5,wR 7 3,qu 8 7,wG 9 fz 6 8,qg 10 9,wJ 11 10 1 2,wH 12 10 11,wJ 13 10 1 3,wH 14 10 13,xf 15 10 .eql 12 (.t 14),xy 16 10 15,qg 17 16,wJ 18 17 2 2,wH 19 17 18,wJ 20 17 2 3,wH 21 17 20,xf 22 17 .eql 19 (.t 21),xy 23 17 22,qg 24 23,wJ 25 24 3 2,wH 26 24 25,wJ 27 24 3 3,wH 28 24 27,qH 29 24 (xo fz 26 (.t 28)),xy 30 24 29,yv 30]⟩
theorem vR:af Tryz.prog fH=some nk:=by kernel_rfl
def jO:AK:=qe (xT 2 xi) (wV (xT 3 xi) (yn [qb 6 (.ld (some 9) (.c (.gp 0 0))),wz 7] 0 [qA 8 .lss 7 3] 8 wy (yx 1 (yg [qb 9 (.idxV 3 3 (some 3) (.t 6) (.t 7)),qW 5 [qC,qC,qC],qO 3 5 9] (.reg [yD 10,wj 11,qb 12 (.slA 3 1 (.t 5) none (some (.t 11))),xd 13 bX 12,xZ 14 1 xv 1 1 13,xp 15 1 24 10 14,qg 3 15])) 16 7 7 16)) (xa (yD 17) 2 17))
def jy:FK:=⟨18,xF,(AK.whole jO)⟩
theorem tn:af Tryz.prog gE=some jy:=by kernel_rfl
def pY:FK:=⟨17,xF,wV [yw 1 1,qd 2 xi] (wg [yB 3 1,xd 4 jo 3,xq 5 4] 5 (xT 2 xi)) [wR 6 1,qu 7 6,wR 8 1,qu 9 8,wm 10 9,x7 11 10 1,wv 12 3 7 11,yp 13 12,qu 14 13,wm 15 14,xd 16 gE 15,qg 2 16]⟩
theorem Bs:af Tryz.prog fk=some pY:=by kernel_rfl
def ma:AK:=qe (xT 2 xi) (yg [qX 6 1 [qC] 3 [(0,1,qV),(1,1,qV),(2,1,qV)],qX 7 1 [qC] 3 [(0,1,wQ),(1,1,xO),(2,1,xP)],qX 8 1 [qC] 3 [yr 0 255,yr 1 16,yr 2 7],qX 9 1 xv 3 [xE 1 6,ym 1 7,ym 2 8],qg 3 9] (wV (xa (qX 10 1 xv 0 []) 4 10) (xL [wz 5] 0 [xu 11,yD 12,wm 13 12,wS 14 11 13] 14 wy 1 (.reg [yI 17,qX 18 1 [qC] 0 [],yD 19,xu 20,wv 21 1 19 20,qu 22 21,wj 23,qb 24 (.slS 1 (.t 22) none (some (.t 23))),xp 25 1 8 18 24,xZ 26 1 xv 1 1 25,xp 27 1 24 17 26,yv 27]) [xu 15,xR 16 15,qg 5 16]) (xa (yI 28) 2 28)))
def me:FK:=⟨29,xF,(AK.whole ma)⟩
theorem Cj:af Tryz.prog iR=some me:=by kernel_rfl
def rf:FK:=⟨20,xF,xQ [yw 1 1,qd 2 xi] [yB 4 1,xd 5 iE 4,xq 6 5] 6 (xa (qX 7 1 xv 0 []) 2 7) (xg [wR 8 1,qu 9 8,wR 10 1,qu 11 10,wm 12 11,x7 13 12 1,wv 14 3 9 13,yp 15 14,qu 16 15,wm 17 16,qg 3 17] [yD 18,xd 19 iR 18,qg 2 19])⟩
theorem AY:af Tryz.prog kR=some rf:=by kernel_rfl
def pN:FK:=⟨14,xF,xQ [yw 1 1,wz 2] [yB 5 1,xd 6 fa 5,xq 7 6] 7 (xT 2 (ql (-1))) (xg [yB 9 1,xd 10 jJ 9,qg 8 10,wM 11 0 8,wM 12 1 8,qg 3 11,yv 12] (xa (yD 13) 2 13))⟩
theorem Bt:af Tryz.prog dJ=some pN:=by kernel_rfl
def kw:FK:=⟨22,xI,qe (xT 4 xi) (wV (xT 5 xi) (yn [wj 8,wm 9 8,wz 10] 0 [wS 11 10 9] 11 wy (yx 1 (yu [wv 12 3 8 10,qD 13 3 12,qW 7 [qL,.nils,.nils],qO 3 7 13] [xu 14,xt 15,qD 16 3 7,qb 17 (xX 15 (xc 16)),xZ 18 3 [qL,.nils,.nils] 1 3 17,xp 19 3 64 14 18,qg 5 19]) 20 10 10 20)) (xa (xu 21) 4 21))⟩
theorem rT:af Tryz.prog bP=some kw:=by kernel_rfl
def fm:FK:=⟨22,xI,qe (xT 4 xi) (wV (xT 5 xi) (yn [wj 8,wm 9 8,wz 10] 0 [wS 11 10 9] 11 wy (yx 1 (yu [wv 12 5 8 10,qD 13 5 12,qW 7 [qC,qL,.nils,.nils,.nils],qO 5 7 13] [xu 14,xt 15,qD 16 5 7,qb 17 (xX 15 (xc 16)),xZ 18 5 [qC,qL,.nils,.nils,.nils] 1 5 17,xp 19 5 96 14 18,qg 5 19]) 20 10 10 20)) (xa (xu 21) 4 21))⟩
theorem jm:af Tryz.prog bf=some fm:=by kernel_rfl
def jq:FK:=⟨22,xI,qe (xT 4 xi) (wV (xT 5 xi) (yn [wj 8,wm 9 8,wz 10] 0 [wS 11 10 9] 11 wy (yx 1 (yu [wv 12 4 8 10,xB 13 12,qW 7 [qC,qC,qL,.nils],xV 7 13] [xu 14,xt 15,xB 16 7,qb 17 (xX 15 (xc 16)),xZ 18 4 [qC,qC,qL,.nils] 1 4 17,xp 19 4 56 14 18,qg 5 19]) 20 10 10 20)) (xa (xu 21) 4 21))⟩
theorem pI:af Tryz.prog bc=some jq:=by kernel_rfl
def zt:FK:=⟨5,[.c 2 xj],xg [qW 2 [qC,qC,qL,.nils]] [wj 3,wx 4 [qC,qC,qL,.nils] [(0,1,wQ),ym 1 3],xV 2 4]⟩
theorem GV:af Tryz.prog cz=some zt:=by kernel_rfl
def oZ:AK:=xQ [qW 2 xv] [wj 10,ye 11 10 (ql 8),wc 12 11 0] 12 [wj 13,xd 14 pj 13,xr 2 14] (qU [wj 15,xd 16 dF 15,xd 17 fT 16,qW 3 xv,xr 3 17] (xL [wj 18,qX 19 1 [qC] 4 [(0,1,xO),yr 1 4,(2,1,wQ),(3,1,qV)],xk 20 18 19,yv 20] 0 [yI 21,yG 22 21 0] 22 wy 1 (qe [wR 25 3,wj 27,wR 28 3,qu 26 25,qu 29 28,wm 30 29,ye 31 27 (.t 30),wI 25 26,wv 32 3 26 31,qg 5 32] (qT [xu 33,wh 34 33,xw 35 34,qu 36 35,wm 37 36,yG 38 37 0] 38 (qe [xu 39,wh 40 39,xw 41 40,wj 43,xu 44,wh 45 44,xw 46 45,qu 42 41,qu 47 46,wm 48 47,ye 49 43 (.t 48),wI 41 42,wv 50 5 42 49,yc 50] (xK [yE 51,wh 52 51,wR 53 52,qu 54 53,wc 55 54 5,qg 56 55,xe 57 56 6,qG 58 56 (qK 57),wZ 59 56 0 58,wW 60 56 59,xN 61 56 .eql 60 xP,xJ 62 56 61,qg 63 62,xe 64 63 0,qG 65 63 (xo bp 64 xP),xN 66 63 .eql 65 qV,xe 67 63 66,xH 68 67 6,qH 69 67 (qK 68),wJ 70 67 0 69,wH 71 67 70,xf 72 67 .neq 71 (ql 8),qG 73 63 (qJ 67 (.t 72) qS),xe 74 63 73,xH 75 74 6,qH 76 74 (qK 75),wJ 77 74 0 76,wH 78 74 77,xf 79 74 .neq 78 (ql 6),qG 80 63 (qJ 74 (.t 79) qS),xJ 81 63 80] 81 [yE 82,wh 83 82,xw 84 83,wj 86,ya 87 1 [qC] 3 [(0,1,qV),(1,1,wQ),yr 2 5],qu 85 84,xk 88 86 87,wI 84 85,xd 89 cz 88,wI 84 85,wl 90 4 85 qV,xV 90 89])))) [yI 23,x7 24 23 1,yv 24]) (xD (qT [wj 91,ye 92 91 xP,wc 93 92 0] 93 (xx [wR 94 3,qu 95 94,wR 96 3,qu 97 96,wm 98 97,x7 99 98 1,wv 100 3 95 99,qg 7 100] [wj 101,yz 102,wh 103 102,xw 104 103,qu 105 104,wm 106 105,xR 107 106,ye 108 101 (.t 107),qg 8 108] (qe [wj 109,qX 110 1 [qC] 3 [yr 0 7,yr 1 6,yr 2 5],xk 111 109 110,wj 112,ye 113 112 xO,wj 114,ye 115 114 xO,wo 116 .mul 113 115,xd 117 cz 116,xZ 118 4 [qC,qC,qL,.nils] 1 4 117,wx 119 [qC,qL,.nils,.nils,.nils] [xE 1 111,ym 2 118],qW 9 [qC,qL,.nils,.nils,.nils],qO 5 9 119] (.cut (qT [wR 120 9,qu 121 120,qA 122 .neq 121 7] 122 (qe [qp 123 cz [ql 9],xZ 124 4 [qC,qC,qL,.nils] 1 4 123,wx 125 [qC,qL,.nils,.nils,.nils] [(0,1,xP),ym 2 124],xZ 126 5 [qC,qL,.nils,.nils,.nils] 1 5 125,xM 127 9,xr 127 126] (xK [wR 128 9,qu 129 128,wc 130 129 6] 130 [xw 131 9,qu 132 131,qp 133 cz [qV],wI 131 132,wl 134 4 132 qV,xV 134 133]))) (.reg [yz 135,yz 137,wh 138 137,xw 139 138,yJ 141,yz 147,wh 148 147,xw 149 148,yJ 151,qu 140 139,qb 142 (.slS 5 (.t 140) none (some (.t 141))),qD 144 5 9,ya 145 5 [qC,qL,.nils,.nils,.nils] 1 (xY 5 144),qu 150 149,qb 152 (.slS 5 (.t 150) (some (.t 151)) none),qX 136 5 [qC,qL,.nils,.nils,.nils] 0 [],wI 139 140,wd (some 5) 9 144,wI 149 150,xp 143 5 96 136 142,wd (some 5) 9 144,wI 149 150,xp 146 5 96 143 145,wI 149 150,xp 153 5 96 146 152,wh 154 135,xw 155 154,xr 155 153]))))) [yB 156 3,xr 2 156]))
def pn:FK:=⟨157,[.c 2 xU],(AK.whole oZ)⟩
theorem Fh:af Tryz.prog la=some pn:=by kernel_rfl
def kF:FK:=⟨6,[.c 2 xU],xg [qW 2 xv] [wj 3,xd 4 ke 3,xd 5 la 4,xr 2 5]⟩
theorem rW:af Tryz.prog ga=some kF:=by kernel_rfl
def pz:FK:=⟨8,[.c 2 xj],qe [yw 1 4,qW 2 [qC,qC,qL,.nils]] (xg [xM 3 1,qu 4 3,wF 5 bc 4 (.c (.fn (.func cQ) [])),xM 6 1,xr 6 5] [xB 7 1,xV 2 7])⟩
theorem Bg:af Tryz.prog cQ=some pz:=by kernel_rfl
def nO:FK:=⟨19,[.c 3 (some 5)],xx [yw 2 5,qW 3 [qC,qL,.nils,.nils,.nils]] [xw 4 2,qu 5 4,wF 6 bc 5 (.c (.fn (.func cQ) [])),xw 7 2,xr 7 6] (qe [qu 8 1,xM 9 2,qu 10 9,qb 11 (xX 8 (xc 10)),xM 12 2,xr 12 11] (xg [qu 13 1,qr 14 4 2,qu 15 14,qb 16 (xX 13 (xc 15)),qr 17 4 2,xr 17 16] [qD 18 5 2,qO 5 3 18]))⟩
theorem yL:af Tryz.prog bZ=some nO:=by kernel_rfl
def kM:FK:=⟨10,xI,xg (xT 4 xi) [wj 6,qb 7 (.mkf (.func bZ) (xc 2)),qu 5 1,wG 8 bf 6 7,wI 1 5,qb 9 (xX 5 (xc 8)),yv 9]⟩
theorem pU:af Tryz.prog aI=some kM:=by kernel_rfl
def kE:FK:=⟨8,xF,wV (xT 2 xi) (wg [wj 3,qb 4 (.snil false (.t 3))] 4 (xT 2 xi)) [qX 5 1 [qL] 0 [],wj 6,xp 7 1 16 5 6,yz 2]⟩
theorem rV:af Tryz.prog dY=some kE:=by kernel_rfl
def pH:FK:=⟨14,[.c 3 (some 3)],xx [yw 2 3,qW 3 [qL,.nils,.nils]] [yp 4 2,qu 5 4,xd 6 dY 5,yp 7 2,xr 7 6] (xg [qu 8 1,xw 9 2,qu 10 9,qb 11 (xX 8 (xc 10)),xw 12 2,xr 12 11] [qD 13 3 2,qO 3 3 13])⟩
theorem AZ:af Tryz.prog cN=some pH:=by kernel_rfl
def no:FK:=⟨12,[.c 4 xU],xx [yw 2 1,wB 3 1 1,qW 4 xv] [qW 5 [.nilf]] (xg [qb 6 (.mkf (.func aI) (wE 3 (.t 5))),xr 5 6] [wR 7 2,qu 8 7,qb 9 (.mkf (.func cN) (xc 5)),wG 10 bP 8 9,wx 11 xv (xY 1 10),xr 4 11])⟩
theorem tq:af Tryz.prog cA=some no:=by kernel_rfl
def rq:FK:=⟨14,xI,xg [yw 2 4,xm] [wR 5 2,qu 6 5,wc 7 6 1,yz 8,wJ 9 8 1 2,wH 10 8 9,xH 11 8 1,xf 12 8 .eql 10 (.t 11),xy 13 8 12,yv 13]⟩
theorem GK:af Tryz.prog jV=some rq:=by kernel_rfl
def mg:AK:=qe (xT 2 xi) (wV (xT 3 xi) (yn [wj 6,wm 7 6,wz 8] 0 [wS 9 8 7] 9 wy (yx 1 (qe [wv 10 5 6 8,qD 11 5 10,qW 5 [qC,qL,.nils,.nils,.nils],qO 5 5 11] (.cut (.blk 2 (xG [wR 13 5,qu 14 13,wc 15 14 6,qg 16 15,wJ 17 16 2 5,wH 18 16 17,qH 19 16 (qM 4 18 qV),qH 20 16 (qk xj 19),qH 21 16 (xo jV 20 qV),xy 22 16 21,qg 12 22] 12 (.exit 1) [wR 24 5,qu 25 24,wc 26 25 5,qg 27 26,wJ 28 27 2 5,wH 29 27 28,qH 30 27 (qM 4 29 qV),qH 31 27 (qk xj 30),qH 32 27 (xo jV 31 qV),xy 33 27 32,qg 23 33] 23 (.reg [xM 34 5,qN 1 34 xi]) (xK [wR 36 5,qu 37 36,wc 38 37 5,qg 39 38,wJ 40 39 2 5,wH 41 39 40,qH 42 39 (qM 4 41 qV),wJ 43 39 0 42,wH 44 39 43,xf 45 39 .eql 44 wQ,xy 46 39 45,qg 35 46] 35 [qr 47 4 5,qN 1 47 xi]))) (qe [yD 48,qD 49 5 5,xZ 50 5 [qC,qL,.nils,.nils,.nils] 1 5 49,xp 51 5 96 48 50,qg 3 51] (qT [wR 52 5,qu 53 52,wc 54 53 7] 54 wy)))) 55 8 8 55)) (xa (yD 56) 2 56))
def lQ:FK:=⟨57,xF,(AK.whole mg)⟩
theorem Cx:af Tryz.prog bj=some lQ:=by kernel_rfl
def jE:FK:=⟨10,[.c 2 xU,.t 3],wV [yw 1 1,qW 2 xv,wD 3] (wg [yB 4 1,xd 5 jo 4,xq 6 5] 6 [wx 7 xv [],xr 2 7,wD 3]) [yB 8 1,wF 9 cA 8 (.c (.fn (.func bj) [])),xr 2 9,qd 3 ws]⟩
theorem oy:af Tryz.prog eF=some jE:=by kernel_rfl
def ta:FK:=⟨14,xI,xg [yw 2 4,xm] [wR 5 2,qu 6 5,wc 7 6 1,yz 8,wJ 9 8 1 2,wH 10 8 9,xH 11 8 1,xf 12 8 .eql 10 (.t 11),xy 13 8 12,yv 13]⟩
theorem Jz:af Tryz.prog dH=some ta:=by kernel_rfl
def oY:AK:=qe (xT 2 xi) (wV (xa (qX 7 5 [qC,qL,.nils,.nils,.nils] 0 []) 3 7) (xL [x8] 0 [yI 8,wj 9,wm 10 9,wS 11 8 10] 11 wy 1 (xx [wj 14,yI 15,wv 16 5 14 15,qD 17 5 16,qW 5 [qC,qL,.nils,.nils,.nils],qO 5 5 17] [xw 18 5,qu 19 18,wl 20 4 19 qV,xB 21 20,qW 6 [qC,qC,qL,.nils],xV 6 21] (xx [xM 22 5,qu 23 22,xd 24 cX 23,xM 25 5,xr 25 24] [qr 26 4 5,qu 27 26,xd 28 cX 27,qr 29 4 5,xr 29 28] (.cut (qT [wR 30 5,qu 31 30,wc 32 31 6,qg 33 32,qH 34 33 (qk xj 6),qH 35 33 (xo dH 34 qV),xy 36 33 35] 36 (.exit 1)) (.cut (qT [wR 37 5,qu 38 37,wc 39 38 5,qg 40 39,wJ 41 40 0 6,wH 42 40 41,xf 43 40 .eql 42 wQ,xy 44 40 43] 44 (qB [yp 45 6,qu 46 45,qA 47 .neq 46 0] 47 (.reg [qX 48 5 [qC,qL,.nils,.nils,.nils] 0 [],qr 49 4 5,xr 49 48]) (.reg [qX 50 5 [qC,qL,.nils,.nils,.nils] 0 [],xM 51 5,xr 51 50]))) (qe [yD 52,qD 53 5 5,xZ 54 5 [qC,qL,.nils,.nils,.nils] 1 5 53,xp 55 5 96 52 54,qg 3 55] (qT [wR 56 5,qu 57 56,wc 58 57 7] 58 wy)))))) [yI 12,xR 13 12,yv 13]) (xa (yD 59) 2 59))
def pk:FK:=⟨60,xF,(AK.whole oY)⟩
theorem FE:af Tryz.prog cX=some pk:=by kernel_rfl
def pi:FK:=⟨92,[.t 6,.t 7],qU [yw 3 4,wz 6,wz 7] (qe [wR 12 3,qu 13 12] (.blk 0 (qB (xb 15 13 1 14 15) 14 (qz [yp 16 3,qu 17 16,yc 17,wz 7]) (qT (xb 19 13 2 18 19) 18 (xL [wz 8] 1 [yJ 20,xt 21,wm 22 21,wS 23 20 22] 23 (.exit 1) 2 (wg [xt 26,yJ 27,wv 28 1 26 27,xw 30 3,qu 29 28,qu 31 30,qb 32 (x9 .eql 29 (.t 31))] 32 [yl 33,yJ 34,wv 35 1 33 34,qu 36 35,yc 36,wz 7]) [yJ 24,xR 25 24,qg 8 25]))))) (xQ [xM 38 3,qu 39 38,wl 40 4 39 qV,xB 41 40,xt 42,yl 43,yk 44 fW 41 42 43,qg 37 44,wM 45 0 37,wM 46 1 37,qg 9 45,qg 10 46] [qg 47 10,qA 48 .neq 47 0] 48 [qg 49 10,wz 6,qg 7 49] (.seq (wg [wR 50 3,qu 51 50,wc 52 51 11] 52 [qg 53 9,wc 54 53 0,xd 55 dR 54,qg 56 10,yc 55,qg 7 56]) (.seq (wg [wR 57 3,qu 58 57,wc 59 58 10,qg 60 59,xH 61 60 9,xf 62 60 .eql 61 qV,xy 63 60 62] 63 [qg 64 10,wz 6,qg 7 64]) (xQ [xM 66 3,qu 67 66,wl 68 4 67 wQ,xB 69 68,xt 70,yl 71,yk 72 fW 69 70 71,qg 65 72,wM 73 0 65,wM 74 1 65,qg 11 73,qg 10 74] [qg 75 10,qA 76 .neq 75 0] 76 [qg 77 10,wz 6,qg 7 77] (xD (wg [wR 78 3,qu 79 78,wc 80 79 10] 80 [qg 81 11,qA 82 .neq 81 0,xd 83 dR 82,qg 84 10,yc 83,qg 7 84]) [wR 85 3,qu 86 85,qg 87 9,qg 88 11,yk 89 rC 86 87 88,wM 90 0 89,wM 91 1 89,yc 90,qg 7 91])))))⟩
theorem uH:af Tryz.prog fW=some pi:=by kernel_rfl
def iC:AK:=xQ [yw 1 4,yd] [wR 4 1,qu 5 4,wc 6 5 12,yE 7,wZ 8 7 0 1,wW 9 7 8,xN 10 7 .eql 9 (ql 13),xJ 11 7 10] 11 [yd] (.cut (wg [wR 12 1,qu 13 12,wc 14 13 6,qg 15 14,wZ 16 15 0 1,wW 17 15 16,xN 18 15 .eql 17 (ql 7),xJ 19 15 18,qg 20 19,wJ 21 20 3 1,wH 22 20 21,qH 23 20 (qM 4 22 wQ),wJ 24 20 0 23,wH 25 20 24,xf 26 20 .neq 25 wQ,xH 27 20 26,wZ 28 27 3 1,wW 29 27 28,qG 30 27 (qM 4 29 wQ),wZ 31 27 1 30,wW 32 27 31,xN 33 27 .eql 32 qV,qH 34 20 (qJ 27 ws (.t 33)),xy 35 20 34] 35 [yd]) (xD (xL [wz 3] 0 [yD 36,xM 37 1,qu 38 37,wm 39 38,wS 40 36 39] 40 wy 1 (wg [xM 43 1,qu 44 43,yD 45,wv 46 4 44 45,xB 47 46,xd 48 iI 47,xq 49 48] 49 [yd]) [yD 41,xR 42 41,qg 3 42]) (xT 2 ws)))
def iN:FK:=⟨50,xF,(AK.whole iC)⟩
theorem Fq:af Tryz.prog iI=some iN:=by kernel_rfl
def cY:AK:=qU [yw 1 4,qW 2 [qC,qC,qL,.nils]] (qT [xM 8 1,qu 9 8,wm 10 9,wc 11 10 1,qg 12 11,wJ 13 12 0 1,wH 14 12 13,xf 15 12 .eql 14 (ql 11),xy 16 12 15] 16 (xQ [xM 17 1,qu 18 17,wl 19 4 18 qV,xB 20 19,qW 3 [qC,qC,qL,.nils],xV 3 20] [wR 21 3,qu 22 21,wc 23 22 1] 23 [yp 24 3,qu 25 24,wc 26 25 0,xd 27 dR 26,xd 28 cz 27,xV 2 28] (xD (wg [wR 29 3,qu 30 29,wc 31 30 11,qg 32 31,wJ 33 32 3 3,wH 34 32 33,qH 35 32 (qM 4 34 qV),wJ 36 32 0 35,wH 37 32 36,xf 38 32 .eql 37 (ql 11),xy 39 32 38] 39 [xM 40 3,qu 41 40,wl 42 4 41 qV,xB 43 42,xV 2 43]) [xB 44 1,xV 2 44]))) (.seq (wg [wR 45 1,qu 46 45,qp 47 lz (yh 46 xP (ql 10)),xq 48 47] 48 [xB 49 1,xV 2 49]) (xx [xM 50 1,qu 51 50,wl 52 4 51 qV,xB 53 52,qW 4 [qC,qC,qL,.nils],xV 4 53] [xM 54 1,qu 55 54,wl 56 4 55 wQ,xB 57 56,qW 5 [qC,qC,qL,.nils],xV 5 57] (.cut (qT [wR 58 4,qu 59 58,wc 60 59 1,qg 61 60,wJ 62 61 0 5,wH 63 61 62,xf 64 61 .eql 63 wQ,xy 65 61 64] 65 (qe [xB 67 1,qp 68 fW (yh 67 xi xi),qg 66 68,wM 69 0 66,wM 70 1 66,yc 69,qg 7 70] (wg [yz 71,wc 72 71 0] 72 [yE 73,xd 74 cz 73,xV 2 74]))) (xD (.blk 0 (qB [wR 76 1,qu 77 76,wc 78 77 10,qg 79 78,qH 80 79 (qk xj 4),qH 81 79 (xo dH 80 qV),xy 82 79 81,qg 75 82] 75 (qz [qp 83 cz [qV],xV 2 83]) (wU [xB 85 5,wF 86 dH 85 qV,qg 87 86,wJ 88 87 0 1,wH 89 87 88,xf 90 87 .eql 89 xP,xH 91 87 90,wZ 92 91 0 1,wW 93 91 92,xN 94 91 .eql 93 (ql 4),qH 95 87 (qJ 91 ws (.t 94)),xy 96 87 95,qg 84 96] 84 (.reg [xB 97 5,wF 98 dH 97 wQ,qg 99 98,wJ 100 99 0 1,wH 101 99 100,xf 102 99 .eql 101 (ql 5),xH 103 99 102,wZ 104 103 0 1,wW 105 103 104,xN 106 103 .eql 105 (ql 6),qH 107 99 (qJ 103 ws (.t 106)),xy 108 99 107,qg 84 108]) (qo 84 (qz [xB 109 4,xV 2 109]) (wU [xB 111 4,wF 112 dH 111 qV,qg 113 112,wJ 114 113 0 1,wH 115 113 114,xf 116 113 .eql 115 xP,xy 117 113 116,qg 110 117] 110 (.reg [xB 118 4,wF 119 dH 118 wQ,qg 120 119,wJ 121 120 0 1,wH 122 120 121,xf 123 120 .eql 122 (ql 5),xy 124 120 123,qg 110 124]) (qo 110 (qz [xB 125 5,xV 2 125]) (wg [wR 127 1,qu 128 127,wc 129 128 5,qg 130 129,qH 131 130 (qk xj 5),qH 132 130 (xo dH 131 qV),xH 133 130 132,qH 134 133 (qk xj 4),qH 135 133 (.call iI (xc 134)),qH 136 130 (qJ 133 (.t 135) qS),xH 137 130 136,qG 138 137 (qk xj 4),qG 139 137 (xo dH 138 qV),xe 140 137 139,qH 141 140 (qk xj 5),qH 142 140 (.call iI (xc 141)),qG 143 137 (qJ 140 (.t 142) qS),qH 144 130 (qJ 137 ws (.t 143)),xy 145 130 144,qg 126 145] 126 [qp 146 cz [qV],xV 2 146]))))))) [xB 147 1,xV 2 147]))))
def cW:FK:=⟨148,[.c 2 xj],(AK.whole cY)⟩
theorem Fl:af Tryz.prog lm=some cW:=by kernel_rfl
def pf:AK:=qe [yw 1 4,qW 2 [qC,qC,qL,.nils]] (qU (xa (qX 5 4 [qC,qC,qL,.nils] 0 []) 3 5) (xL [x8] 0 [yc 4,xM 7 1,qu 8 7,wm 9 8,wS 10 6 9] 10 wy 1 (.reg [yD 13,xM 14 1,qu 15 14,yI 16,wv 17 4 15 16,xB 18 17,xd 19 ll 18,xZ 20 4 [qC,qC,qL,.nils] 1 4 19,xp 21 4 56 13 20,qg 3 21]) [yI 11,xR 12 11,yv 12]) (yg [yD 22,xM 23 1,xr 23 22] (qz [xB 24 1,xd 25 lm 24,xV 2 25])))
def pg:FK:=⟨26,[.c 2 xj],(AK.whole pf)⟩
theorem FA:af Tryz.prog ll=some pg:=by kernel_rfl
def mS:AK:=qe (xT 2 xi) (wV (xa (qX 8 5 [qC,qL,.nils,.nils,.nils] 0 []) 3 8) (xL [x8] 0 [yI 9,wj 10,wm 11 10,wS 12 9 11] 12 wy 1 (qe [wj 15,yI 16,wv 17 5 15 16,qD 18 5 17,qW 5 [qC,qL,.nils,.nils,.nils],qO 5 5 18] (qU (xa (qX 19 4 [qC,qC,qL,.nils] 0 []) 6 19) (xL [wz 7] 2 [yz 20,xw 21 5,qu 22 21,wm 23 22,wS 24 20 23] 24 (.exit 2) 3 (.reg [yE 27,xw 28 5,qu 29 28,yz 30,wv 31 4 29 30,xB 32 31,xd 33 ll 32,xZ 34 4 [qC,qC,qL,.nils] 1 4 33,xp 35 4 56 27 34,yc 35]) [yz 25,xR 26 25,qg 7 26]) (yg [yE 36,xw 37 5,xr 37 36] (xx [xM 38 5,qu 39 38,xd 40 cw 39,xM 41 5,xr 41 40] [qr 42 4 5,qu 43 42,xd 44 cw 43,qr 45 4 5,xr 45 44] (.reg [yD 46,qD 47 5 5,xZ 48 5 [qC,qL,.nils,.nils,.nils] 1 5 47,xp 49 5 96 46 48,qg 3 49]))))) [yI 13,xR 14 13,yv 14]) (xa (yD 50) 2 50))
def mU:FK:=⟨51,xF,(AK.whole mS)⟩
theorem EO:af Tryz.prog cw=some mU:=by kernel_rfl
def vu:FK:=⟨42,[.c 4 xU],qe [yw 2 1,qW 4 xv] (wV [yB 7 2,xd 8 fT 7,qW 5 xv,xr 5 8] (xL [wz 6] 0 [yE 9,wR 10 5,qu 11 10,wm 12 11,wS 13 9 12] 13 wy 1 (qB [xt 16] 16 (.reg [wR 17 5,yE 19,wR 20 5,yE 22,qu 18 17,qu 21 20,wv 23 3 21 22,xw 24 23,qu 25 24,xd 26 cX 25,wI 17 18,wv 27 3 18 19,xw 28 27,xr 28 26]) (.reg [wR 29 5,yE 31,wR 32 5,yE 34,qu 30 29,qu 33 32,wv 35 3 33 34,xw 36 35,qu 37 36,xd 38 cw 37,wI 29 30,wv 39 3 30 31,xw 40 39,xr 40 38])) [yE 14,xR 15 14,yc 15]) [yB 41 5,xr 4 41])⟩
theorem FN:af Tryz.prog eJ=some vu:=by kernel_rfl
def oh:FK:=⟨10,[.c 2 xU,.t 3],wV [yw 1 1,qW 2 xv,wD 3] (wg [yB 4 1,xd 5 iE 4,xq 6 5] 6 [wx 7 xv [],xr 2 7,wD 3]) [yB 8 1,wF 9 eJ 8 ws,xr 2 9,qd 3 ws]⟩
theorem Ar:af Tryz.prog gh=some oh:=by kernel_rfl
def nr:FK:=⟨26,xI,xQ yF [wj 6,wm 7 6,xt 8,wm 9 8,wo 10 .neq 7 9] 10 yF (xD (xL [wz 5] 0 [xu 11,wj 12,wm 13 12,wS 14 11 13] 14 wy 1 (wg [wj 17,xu 18,wv 19 1 17 18,xt 21,xu 22,wv 23 1 21 22,qu 20 19,qu 24 23,qb 25 (x9 .neq 20 (.t 24))] 25 yF) [xu 15,xR 16 15,qg 5 16]) (xT 4 ws))⟩
theorem EG:af Tryz.prog mP=some nr:=by kernel_rfl
def ep:FK:=⟨53,xI,xQ [yw 2 4,wB 3 4 1,xm] [wR 6 2,qu 7 6,wR 8 3,qu 9 8,wo 10 .neq 7 9,qg 11 10,wZ 12 11 1 2,wW 13 11 12,wZ 14 11 1 3,wW 15 11 14,xN 16 11 .neq 13 (.t 15),xJ 17 11 16,qg 18 17,wZ 19 18 2 2,wW 20 18 19,wZ 21 18 2 3,wW 22 18 21,qG 23 18 (x9 .neq 20 (.t 22)),xJ 24 18 23,qg 25 24,wZ 26 25 3 2,wW 27 25 26,qG 28 25 (wa 27),wZ 29 25 3 3,wW 30 25 29,qG 31 25 (wa 30),xN 32 25 .neq 28 (.t 31),xJ 33 25 32] 33 yF (xD (xL [wz 5] 0 [xu 34,xM 35 2,qu 36 35,wm 37 36,wS 38 34 37] 38 wy 1 (wg [xM 41 2,xu 43,xM 46 3,xu 48,qu 42 41,wv 44 4 42 43,xB 45 44,qu 47 46,wv 49 4 47 48,xB 50 49,wG 51 iX 45 50,xq 52 51] 52 yF) [xu 39,xR 40 39,qg 5 40]) (xT 4 ws))⟩
theorem Cm:af Tryz.prog iX=some ep:=by kernel_rfl
def jP:FK:=⟨111,xI,xQ yF [wj 7,wm 8 7,xt 9,wm 10 9,wo 11 .neq 8 10] 11 yF (xD (xL [wz 5] 0 [xu 12,wj 13,wm 14 13,wS 15 12 14] 15 wy 1 (.seq (wg [wj 18,xu 19,wv 20 5 18 19,wR 21 20,xt 23,xu 24,wv 25 5 23 24,wR 26 25,qu 22 21,qu 27 26,wo 28 .neq 22 27,qg 29 28,xe 30 29 0,xe 31 29 5,qG 32 29 (qM 5 30 (.t 31)),wZ 33 29 1 32,xe 35 29 1,xe 36 29 5,qG 37 29 (qM 5 35 (.t 36)),wZ 38 29 1 37,wW 34 29 33,wW 39 29 38,qG 40 29 (x9 .neq 34 (.t 39)),xJ 41 29 40,qg 42 41,xe 43 42 0,xe 44 42 5,qG 45 42 (qM 5 43 (.t 44)),wZ 46 42 2 45,xe 49 42 1,xe 50 42 5,qG 51 42 (qM 5 49 (.t 50)),wZ 52 42 2 51,wW 47 42 46,qG 48 42 (wa 47),wW 53 42 52,qG 54 42 (wa 53),xN 55 42 .neq 48 (.t 54),xJ 56 42 55] 56 yF) (.seq (xL [wz 6] 2 [yE 57,wj 58,xu 59,wv 60 5 58 59,xw 61 60,qu 62 61,wm 63 62,wS 64 57 63] 64 (.exit 2) 3 (wg [wj 67,xu 68,wv 69 5 67 68,xw 70 69,yE 72,xt 75,xu 76,wv 77 5 75 76,xw 78 77,yE 80,qu 71 70,wv 73 4 71 72,xB 74 73,qu 79 78,wv 81 4 79 80,xB 82 81,wG 83 iX 74 82,xq 84 83] 84 yF) [yE 65,xR 66 65,yc 66]) (wg [wj 85,xu 86,wv 87 5 85 86,xM 88 87,xt 90,xu 91,wv 92 5 90 91,xM 93 92,qu 89 88,qu 94 93,wG 95 eB 89 94,xq 96 95,qg 97 96,xe 98 97 0,xe 99 97 5,qG 100 97 (qM 5 98 (.t 99)),wZ 101 97 4 100,xe 103 97 1,xe 104 97 5,qG 105 97 (qM 5 103 (.t 104)),wZ 106 97 4 105,wW 102 97 101,wW 107 97 106,qG 108 97 (xo eB 102 (.t 107)),yy 109 97 108,xJ 110 97 109] 110 yF))) [xu 16,xR 17 16,qg 5 17]) (xT 4 ws))⟩
theorem ze:af Tryz.prog eB=some jP:=by kernel_rfl
def io:FK:=⟨65,xI,xQ [yw 2 1,wB 3 1 1,xm] [wR 6 2,qu 7 6,wm 8 7,wR 9 3,qu 10 9,wm 11 10,wo 12 .neq 8 11] 12 yF (xD (xL [wz 5] 0 [xu 13,wR 14 2,qu 15 14,wm 16 15,wS 17 13 16] 17 wy 1 (wg [wR 20 2,xu 22,wR 26 3,xu 28,qu 21 20,wv 23 3 21 22,wR 24 23,qu 25 24,qu 27 26,wv 29 3 27 28,wR 30 29,qu 31 30,qb 32 (x9 .neq 25 (.t 31)),qg 33 32,wZ 34 33 0 2,xe 36 33 5,wZ 40 33 0 3,xe 42 33 5,wW 35 33 34,qG 37 33 (qM 3 35 (.t 36)),wZ 38 33 1 37,wW 39 33 38,wW 41 33 40,qG 43 33 (qM 3 41 (.t 42)),wZ 44 33 1 43,wW 45 33 44,qG 46 33 (xo mP 39 (.t 45)),yy 47 33 46,xJ 48 33 47,qg 49 48,wZ 50 49 0 2,xe 52 49 5,wZ 56 49 0 3,xe 58 49 5,wW 51 49 50,qG 53 49 (qM 3 51 (.t 52)),wZ 54 49 2 53,wW 55 49 54,wW 57 49 56,qG 59 49 (qM 3 57 (.t 58)),wZ 60 49 2 59,wW 61 49 60,qG 62 49 (xo eB 55 (.t 61)),yy 63 49 62,xJ 64 49 63] 64 yF) [xu 18,xR 19 18,qg 5 19]) (xT 4 ws))⟩
theorem uC:af Tryz.prog cD=some io:=by kernel_rfl
def pX:FK:=⟨115,xF,xQ [yd] [wj 16,wm 17 16,yG 18 17 1048576] 18 (xT 2 ws) (xx [wj 19,xd 20 ga 19,qW 3 xv,xr 3 20] [yB 22 3,xd 23 eF 22,qg 21 23,wM 24 0 21,wM 25 1 21,qW 4 xv,xr 4 24,qg 5 25] (xQ [yB 27 3,xd 28 gh 27,qg 26 28,wM 29 0 26,wM 30 1 26,qW 6 xv,xr 6 29,qg 7 30] [xu 31,yz 32,qb 33 (.beq true (.t 31) (.t 32)),qg 34 33,qG 35 34 (qk xU 4),qG 36 34 (qk xU 6),qG 37 34 (xo cD 35 (.t 36)),yy 38 34 37,xJ 39 34 38,qg 40 39,xe 41 40 5,yy 42 40 41,xJ 43 40 42] 43 [xu 44,yz 45,qb 46 (.beq false (.t 44) (.t 45)),qg 47 46,qH 48 47 (qk xU 4),qH 49 47 (qk xU 6),qH 50 47 (xo cD 48 (.t 49)),xy 51 47 50,qg 2 51] (xD (yn [yB 52 3,xd 53 fk 52,wm 54 53,wz 55] 0 [wS 56 55 54] 56 wy (yx 1 (xx [wv 57 1 53 55,qu 58 57,qg 9 58] [yB 59 3,qg 60 9,wG 61 iJ 59 60,qg 10 61] (xQ [yB 62 4,qg 63 9,wG 64 iJ 62 63,qg 11 64] [qg 65 10,qA 66 .geq 65 0,qg 67 66,xH 68 67 11,xf 69 67 .lss 68 qV,xH 70 67 69,xe 71 70 11,xe 72 70 10,xN 73 70 .gtr 71 (.t 72),qH 74 67 (qJ 70 ws (.t 73)),xy 75 67 74] 75 [yd] (xx [yB 77 3,qg 78 9,qp 79 cy (yi 77 78 (ql 4000)),qg 76 79,wM 80 0 76,wM 81 1 76,qW 12 [.nils,qC,qC,.nils],xV 12 80,qg 13 81] [yB 83 4,qg 84 9,qp 85 cy (yi 83 84 (ql 4000)),qg 82 85,wM 86 0 82,wM 87 1 82,qW 14 [.nils,qC,qC,.nils],xV 14 86,qg 15 87] (wg [qg 88 13,xq 89 88,qg 90 89,xe 91 90 15,yy 92 90 91,xJ 93 90 92,qg 94 93,xe 95 94 10,xN 96 94 .geq 95 qV,xe 97 94 96,qH 98 97 (qk xj 12),qH 99 97 (qk xj 14),qH 100 97 (xo fH 98 (.t 99)),qH 101 97 (wq 100),qG 102 94 (qJ 97 (.t 101) qS),xJ 103 94 102] 103 [yd])))) 104 55 55 104)) [yB 105 4,xd 106 dz 105,wc 107 106 0,qg 108 107,qH 109 108 (qk xU 4),qH 110 108 (.qcall dJ (xc 109)),qH 111 108 (qk xU 3),qH 112 108 (.call dJ (xc 111)),xf 113 108 .leq 110 (.t 112),xy 114 108 113,qg 2 114])))⟩
theorem Bj:af Tryz.prog pG=some pX:=by kernel_rfl
def jH:FK:=⟨6,[.c 2 xU],xg [qW 2 xv] [wj 3,xd 4 ke 3,xd 5 la 4,xr 2 5]⟩
theorem ry:af Tryz.prog fC=some jH:=by kernel_rfl
def tp:FK:=⟨5,[.c 2 xj],xg [qW 2 [qC,qC,qL,.nils]] [wj 3,wx 4 [qC,qC,qL,.nils] [(0,1,wQ),ym 1 3],xV 2 4]⟩
theorem EV:af Tryz.prog fj=some tp:=by kernel_rfl
def bw:FK:=⟨40,[],yu [yw 2 4] [qu 3 1,yv 3,wJ 5 4 0 2,wH 6 4 5,xf 7 4 .neq 6 (ql 12),xy 8 4 7,yJ 9,wJ 10 9 0 2,wH 11 9 10,xf 12 9 .neq 11 (ql 13),xy 13 9 12,qg 14 13,wJ 15 14 0 2,wH 16 14 15,xf 17 14 .neq 16 (ql 6),xH 18 14 17,wJ 19 18 0 2,wH 20 18 19,xf 21 18 .neq 20 (ql 7),qH 22 14 (qJ 18 (.t 21) qS),xH 23 14 22,wZ 24 23 3 2,wW 25 23 24,qG 26 23 (qM 4 25 wQ),wZ 27 23 0 26,wW 28 23 27,xN 29 23 .eql 28 wQ,xe 30 23 29,wJ 31 30 3 2,wH 32 30 31,qH 33 30 (qM 4 32 wQ),wJ 34 30 1 33,wH 35 30 34,xf 36 30 .neq 35 qV,qG 37 23 (qJ 30 (.t 36) qS),qH 38 14 (qJ 23 ws (.t 37)),xy 39 14 38,xr 1 39]⟩
theorem Al:af Tryz.prog eC=some bw:=by kernel_rfl
def rM:FK:=⟨11,xF,qe [yw 1 4,yd] (wV [xB 4 1,xd 5 fv 4,qW 3 [qx],xr 3 5] (xK [qu 6 3] 6 [xB 7 1,qb 8 (.mkf (.func eC) (xc 3)),wG 9 gR 7 8]) (xa (qu 10 3) 2 10))⟩
theorem Cw:af Tryz.prog iW=some rM:=by kernel_rfl
def bS:AK:=xQ [yw 1 4,qW 2 [qC,qC,qL,.nils]] [xM 7 1,qu 8 7,wm 9 8,wc 10 9 0,qg 11 10,wZ 12 11 0 1,wW 13 11 12,xN 14 11 .eql 13 (ql 13),xJ 15 11 14,qg 16 15,wZ 17 16 0 1,wW 18 16 17,xN 19 16 .eql 18 (ql 12),xJ 20 16 19] 20 [xB 21 1,xV 2 21] (.cut (.ot (.one [] (.one [xM 22 1] (.one [xM 26 1] (.one [xM 28 1] (.one [qu 23 22] (.one [wl 24 4 23 qV] (.one [xB 25 24] (.one [qu 27 26] (.one [qu 29 28] (.one [wm 30 29] (.one [x7 31 30 1] (.one [wv 32 4 27 31] (.one [xB 33 32] (.alt (.one [qW 3 [qC,qC,qL,.nils],wI 22 23,wd xj 24 25,wI 26 27,wI 28 29,wd xj 32 33] (.alt (.one [qW 4 [qC,qC,qL,.nils],wI 22 23,wd xj 24 25,wI 26 27,wI 28 29,wd xj 32 33] (.alt (.one [xV 3 25,wI 26 27,wI 28 29,wd xj 32 33] (.alt (.one [xV 4 33] .done) .tru)) .tru)) .tru)) (.alt (.one [qW 4 [qC,qC,qL,.nils],wI 22 23,wd xj 24 25,wI 26 27,wI 28 29,wd xj 32 33] (.alt (.one [qW 3 [qC,qC,qL,.nils],wI 22 23,wd xj 24 25,wI 26 27,wI 28 29,wd xj 32 33] (.alt (.one [xV 3 25,wI 26 27,wI 28 29,wd xj 32 33] (.alt (.one [xV 4 33] .done) .tru)) .tru)) .tru)) .tru)))))))))))))))) (.cut (qT [wR 34 3,qu 35 34,wc 36 35 1,qg 37 36,wJ 38 37 0 4,wH 39 37 38,xf 40 37 .eql 39 wQ,xy 41 37 40] 41 (qe [wR 43 1,qu 44 43,yp 45 3,qu 46 45,yp 47 4,qu 48 47,yk 49 gM 44 46 48,qg 42 49,wM 50 0 42,wM 51 1 42,qg 5 50,yc 51] (wg [yE 52] 52 [xu 53,xd 54 fj 53,xV 2 54]))) (xD (qe [wR 55 1,qu 56 55] (.blk 0 (xG (xb 58 56 11 57 58) 57 (wg [wR 59 3,qu 60 59,wc 61 60 11,qg 62 61,wJ 63 62 3 3,wH 64 62 63,qH 65 62 (qM 4 64 qV),wJ 66 62 0 65,wH 67 62 66,xf 68 62 .eql 67 (ql 11),xy 69 62 68] 69 [xM 70 3,qu 71 70,wl 72 4 71 qV,xB 73 72,xV 2 73]) (xb 75 56 10 74 75) 74 (wg [xB 76 3,yH 77 76 qV] 77 [qp 78 fj [qV],xV 2 78]) (xG (xb 80 56 3 79 80) 79 (.seq (wg [xB 81 4,yH 82 81 qV] 82 [xB 83 3,xV 2 83]) (wg [xB 84 3,yH 85 84 qV] 85 [xB 86 4,xV 2 86])) (xb 88 56 4 87 88) 87 (wg [xB 89 4,yH 90 89 qV] 90 [xB 91 3,xV 2 91]) (qB (xb 93 56 5 92 93) 92 (.blk 1 (xG [xB 95 4,yH 96 95 wQ,qg 94 96] 94 (qz [xB 97 3,xV 2 97]) [xB 99 3,yH 100 99 wQ,qg 98 100] 98 (qz [xB 101 4,xV 2 101]) (wU [xB 103 4,yH 104 103 qV,qg 105 104,qH 106 105 (qk xj 3),qH 107 105 (.call iW (xc 106)),xy 108 105 107,qg 102 108] 102 (.reg [xB 109 3,yH 110 109 qV,qg 111 110,qH 112 111 (qk xj 4),qH 113 111 (.call iW (xc 112)),xy 114 111 113,qg 102 114]) (qo 102 (qz [qp 115 fj [qV],xV 2 115]) .skip)))) (qT (xb 117 56 6 116 117) 116 (wg [xB 118 4,yH 119 118 wQ] 119 [xB 120 3,xV 2 120]))))))) [xB 121 1,xV 2 121])))
def bU:FK:=⟨122,[.c 2 xj],(AK.whole bS)⟩
theorem Cz:af Tryz.prog iV=some bU:=by kernel_rfl
def BK:FK:=⟨9,[.c 2 xj],qe [yw 1 4,qW 2 [qC,qC,qL,.nils]] (xg [xM 3 1,qu 4 3,wF 5 bc 4 (.c (.fn (.func js) [])),xM 6 1,xr 6 5] [xB 7 1,xd 8 iV 7,xV 2 8])⟩
theorem Jo:af Tryz.prog js=some BK:=by kernel_rfl
def gx:FK:=⟨21,xF,wV (xT 2 xi) (yn [wj 4,wm 5 4,wz 6] 0 [wS 7 6 5] 7 wy (yx 1 (yu (xa (yE 8) 3 8) [wj 9,yD 10,wj 11,yD 12,wv 13 5 11 12,xw 14 13,qu 15 14,wF 16 bc 15 (.c (.fn (.func js) [])),wv 17 5 9 10,xw 18 17,xr 18 16]) 19 6 6 19)) (xa (wj 20) 2 20)⟩
theorem lC:af Tryz.prog aW=some gx:=by kernel_rfl
def iY:FK:=⟨10,[.c 2 xU,.t 3],wV [yw 1 1,qW 2 xv,wD 3] (wg [yB 4 1,xd 5 jo 4,xq 6 5] 6 [wx 7 xv [],xr 2 7,wD 3]) [yB 8 1,wF 9 cA 8 (.c (.fn (.func aW) [])),xr 2 9,qd 3 ws]⟩
theorem nt:af Tryz.prog dQ=some iY:=by kernel_rfl
def nG:FK:=⟨10,[.c 2 xU,.t 3],wV [yw 1 1,qW 2 xv,wD 3] (wg [yB 4 1,xd 5 iE 4,xq 6 5] 6 [wx 7 xv [],xr 2 7,wD 3]) [yB 8 1,wF 9 eJ 8 qS,xr 2 9,qd 3 ws]⟩
theorem yU:af Tryz.prog fL=some nG:=by kernel_rfl
def oF:FK:=⟨103,xF,xQ [yd] [wj 16,wm 17 16,yG 18 17 1048576] 18 (xT 2 ws) (xx [wj 19,xd 20 fC 19,qW 3 xv,xr 3 20] [yB 22 3,xd 23 dQ 22,qg 21 23,wM 24 0 21,wM 25 1 21,qW 4 xv,xr 4 24,qg 5 25] (xQ [yB 27 3,xd 28 fL 27,qg 26 28,wM 29 0 26,wM 30 1 26,qW 6 xv,xr 6 29,qg 7 30] [xu 31,yz 32,qb 33 (.beq true (.t 31) (.t 32)),qg 34 33,qG 35 34 (qk xU 4),qG 36 34 (qk xU 6),qG 37 34 (xo cD 35 (.t 36)),yy 38 34 37,xJ 39 34 38,qg 40 39,xe 41 40 5,yy 42 40 41,xJ 43 40 42] 43 [xu 44,yz 45,qb 46 (.beq false (.t 44) (.t 45)),qg 47 46,qH 48 47 (qk xU 4),qH 49 47 (qk xU 6),qH 50 47 (xo cD 48 (.t 49)),xy 51 47 50,qg 2 51] (xD (yn [yB 52 3,xd 53 fk 52,wm 54 53,wz 55] 0 [wS 56 55 54] 56 wy (yx 1 (qe [wv 57 1 53 55,qu 58 57,qg 9 58] (yn [qX 59 1 [qC] 4 [(0,1,qV),yr 1 7,yr 2 50,yr 3 600],wm 60 59,wz 61] 2 [wS 62 61 60] 62 (.exit 2) (yx 3 (xx [wv 63 1 59 61,qu 64 63,qg 11 64] [yB 66 3,qg 67 9,qg 68 11,yk 69 cy 66 67 68,qg 65 69,wM 70 0 65,wM 71 1 65,qW 12 [.nils,qC,qC,.nils],xV 12 70,qg 13 71] (qe [yB 73 4,qg 74 9,qg 75 11,yk 76 cy 73 74 75,qg 72 76,wM 77 0 72,wM 78 1 72,qW 14 [.nils,qC,qC,.nils],xV 14 77,qg 15 78] (wg [qg 79 13,xq 80 79,qg 81 80,xe 82 81 15,yy 83 81 82,xJ 84 81 83,qg 85 84,qG 86 85 (qk xj 12),qG 87 85 (qk xj 14),qG 88 85 (xo fH 86 (.t 87)),yy 89 85 88,xJ 90 85 89] 90 [yd]))) 91 61 61 91))) 92 55 55 92)) [yB 93 4,xd 94 dz 93,wc 95 94 0,qg 96 95,qH 97 96 (qk xU 4),qH 98 96 (.qcall dJ (xc 97)),qH 99 96 (qk xU 3),qH 100 96 (.call dJ (xc 99)),xf 101 96 .eql 98 (.t 100),xy 102 96 101,qg 2 102])))⟩
theorem zJ:af Tryz.prog oO=some oF:=by kernel_rfl
end Go.Proofs.YtokiapglmedipaaGreatDoor
