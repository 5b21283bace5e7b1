/-
  Contracts and lemmas that the card needs, part 4.
-/
import Derived.Test.YtokiapglmedipaaGreatDoorMf3
import Derived.Test.YtokiapglmedipaaGreatDoorRows
namespace Go.Proofs.YtokiapglmedipaaGreatDoor
open Go Go.Aw
set_option maxRecDepth 100000
abbrev js:FuncId:=56
abbrev lg:FuncId:=239
abbrev kQ:FuncId:=235
abbrev nq:FuncId:=221
abbrev fW:FuncId:=236
abbrev nK:FuncId:=222
abbrev cy:FuncId:=195
abbrev jg:FuncId:=237
abbrev jh:FuncId:=242
abbrev fH:FuncId:=240
abbrev ip:FuncId:=241
abbrev eV:FuncId:=238
abbrev je:FuncId:=223
abbrev bY:FuncId:=196
abbrev oQ:FuncId:=164
abbrev eK:FuncId:=197
abbrev nH:FuncId:=165
abbrev dy:FuncId:=114
abbrev jq:FuncId:=199
abbrev bw:FuncId:=200
abbrev dP:FuncId:=224
abbrev iX:FuncId:=225
abbrev eq:FuncId:=201
abbrev eB:FuncId:=227
abbrev cD:FuncId:=226
abbrev ck:FuncId:=202
abbrev lT:FuncId:=169
abbrev ff:FuncId:=119
abbrev mv:FuncId:=70
abbrev jG:FuncId:=101
abbrev ji:FuncId:=50
abbrev bZ:FuncId:=184
abbrev eA:FuncId:=150
abbrev kr:FuncId:=186
abbrev eu:FuncId:=208
abbrev dE:FuncId:=209
abbrev nJ:FuncId:=210
abbrev bf:FuncId:=185
abbrev gz:FuncId:=187
abbrev gL:FuncId:=151
abbrev aK:FuncId:=102
abbrev jw:FuncId:=51
abbrev ed:FuncId:=14
abbrev de:FuncId:=57
abbrev fq:FuncId:=172
abbrev fD:FuncId:=122
abbrev ep:FuncId:=173
abbrev dk:FuncId:=124
abbrev cU:FuncId:=123
abbrev cx:FuncId:=75
abbrev cM:FuncId:=125
abbrev cf:FuncId:=76
abbrev ce:FuncId:=174
abbrev bN:FuncId:=126
abbrev fQ:FuncId:=175
abbrev iZ:FuncId:=156
abbrev kz:FuncId:=228
abbrev fT:FuncId:=203
abbrev eU:FuncId:=176
abbrev jb:FuncId:=128
abbrev cA:FuncId:=127
abbrev cJ:FuncId:=78
abbrev gX:FuncId:=129
abbrev eS:FuncId:=130
abbrev kY:FuncId:=79
abbrev bs:FuncId:=77
abbrev fv:FuncId:=37
abbrev cI:FuncId:=80
abbrev fP:FuncId:=81
abbrev jp:FuncId:=39
abbrev cu:FuncId:=72
abbrev cW:FuncId:=73
abbrev kn:FuncId:=170
abbrev ca:FuncId:=121
abbrev bP:FuncId:=171
abbrev dv:FuncId:=120
abbrev bz:FuncId:=74
abbrev fg:FuncId:=36
abbrev pu:FuncId:=68
abbrev dJ:FuncId:=189
abbrev cQ:FuncId:=154
abbrev cC:FuncId:=155
abbrev kC:FuncId:=104
abbrev jf:FuncId:=53
abbrev bp:FuncId:=157
abbrev rv:FuncId:=105
abbrev dN:FuncId:=108
abbrev lS:FuncId:=212
abbrev dz:FuncId:=190
abbrev eO:FuncId:=215
abbrev lv:FuncId:=205
abbrev gM:FuncId:=180
abbrev du:FuncId:=216
abbrev bL:FuncId:=213
abbrev gO:FuncId:=214
abbrev fh:FuncId:=191
abbrev bl:FuncId:=158
abbrev dt:FuncId:=107
abbrev dx:FuncId:=106
abbrev dd:FuncId:=54
abbrev fO:FuncId:=17
abbrev bH:FuncId:=20
abbrev aT:FuncId:=21
abbrev lm:FuncId:=60
abbrev aS:FuncId:=62
abbrev cz:FuncId:=65
abbrev cT:FuncId:=117
abbrev dj:FuncId:=198
abbrev aW:FuncId:=194
abbrev ig:FuncId:=163
abbrev gk:FuncId:=234
abbrev dA:FuncId:=218
abbrev ew:FuncId:=219
abbrev ib:FuncId:=220
abbrev gQ:FuncId:=193
abbrev aZ:FuncId:=162
abbrev fV:FuncId:=113
abbrev dh:FuncId:=61
abbrev ia:FuncId:=167
abbrev mF:FuncId:=166
abbrev mH:FuncId:=115
abbrev jd:FuncId:=168
abbrev dD:FuncId:=118
abbrev mt:FuncId:=116
abbrev mG:FuncId:=63
abbrev og:FuncId:=64
abbrev cK:FuncId:=29
abbrev ij:FuncId:=27
abbrev mI:FuncId:=35
abbrev fY:FuncId:=28
abbrev sj:FuncId:=5
abbrev iW:FuncId:=66
abbrev dL:FuncId:=30
abbrev dM:FuncId:=67
abbrev gf:FuncId:=31
abbrev lH:FuncId:=6
@[reducible] def qa(a:Nat)(b:Option (Nat × Bool))(c:AI):CO:=⟨some a,b,c⟩
@[reducible] def qb(a:Nat)(b:AI):CO:=qa a none b
@[reducible] def qd(a:Nat)(b:AOp):CO:=qb a (.mov b)
@[reducible] def qe(a:List CO)(b:AK):AK:= .seq (.reg a) b
@[reducible] def qf(a:IntKind)(b:Int):AV:= .p (.int a b)
@[reducible] def qg(a b:Nat):CO:=qd a (.t b)
@[reducible] def qh(a:Int):AV:=qf .i64 a
@[reducible] def qi(a b:Nat):AI:= .fldA a (.t b)
@[reducible] def qj(a:Int):AOp:= .c (qh a)
@[reducible] def qk(a:Option Nat)(b:Nat):AI:= .ld a (.t b)
@[reducible] def ql(a:Nat)(b:Nat × Bool)(c:AI):CO:=qa a (some b) c
@[reducible] def qm(a:BinOp)(b:Nat)(c:AOp):AI:= .bin a (.t b) c
@[reducible] def qn(a:Nat)(b:Option Nat)(c:Nat):CO:=qb a (qk b c)
@[reducible] def qo(a:Nat)(b c:AK):AK:= .cond (.t a) b c
@[reducible] def qp(a:Nat)(b:FuncId)(c:List AOp):CO:=qb a (.call b c)
@[reducible] def qq(a:Bool):AV:= .p (.bool a)
@[reducible] def qr(a b c:Nat):CO:=qb a (qi b c)
@[reducible] def qt(a:Nat)(b:BinOp)(c:Nat)(d:AOp):CO:=qb a (qm b c d)
@[reducible] def qu(a b:Nat):CO:=qn a none b
@[reducible] def qv(a:List UInt8):AV:= .p (.str a)
@[reducible] def qw(a:Nat):AI:= .nilck (.t a)
@[reducible] def qx(a:Nat)(b:BinOp)(c:Nat)(d:Int):CO:=qt a b c (qj d)
@[reducible] def qy:AV:=qq false
@[reducible] def qz(a:Option (Nat × Bool))(b:AI):CO:=⟨none,a,b⟩
@[reducible] def qA(a:List CO):AK:=qe a .ret
@[reducible] def qB(a:List CO)(b:Nat)(c d:AK):AK:=qe a (qo b c d)
@[reducible] def qC:AV:=qh 0
@[reducible] def qD(a:AI):CO:=qz none a
@[reducible] def qF:AV:=qv []
@[reducible] def qG(a:Nat)(b c:AOp):CO:=qD (.st a b c)
@[reducible] def qH(a b:Nat)(c:Bool)(d:AI):CO:=ql a (b,c) d
@[reducible] def qI(a b:Nat)(c:AI):CO:=qH a b true c
@[reducible] def qJ(a b:Nat)(c:AI):CO:=qH a b false c
@[reducible] def qK(a b c:Nat):CO:=qn a (some b) c
@[reducible] def qL(a:AOp):AI:= .len false a
@[reducible] def qM(a:Nat)(b c:AOp):AI:= .pick (.t a) b c
@[reducible] def qN(a:List CO)(b c:AK):AK:=qe a (.seq b c)
@[reducible] def qO(a:List CO)(b:Nat)(c:AK):AK:=qB a b c .skip
@[reducible] def qQ(a:Nat)(b:Int):CO:=qd a (qj b)
@[reducible] def qS:AOp:= .c qy
@[reducible] def qT(a b:Nat)(c:AOp):CO:=qG a (.t b) c
@[reducible] def qU(a b c:Nat):CO:=qT a b (.t c)
@[reducible] def qV(a b:Nat):CO:=qb a (qw b)
@[reducible] def qW(a b:Nat)(c:AOp):AI:= .idxS a (.t b) c
@[reducible] def qX(a:Nat)(b:List AV):CO:=qb a (.alloc b)
@[reducible] def qY(a b:Nat)(c:List AV)(d:Nat)(e:List (Nat × Nat × AOp)):CO:=qb a (.bsl b c d e)
@[reducible] def qZ(a:Nat):CO:=qg a 0
@[reducible] def wa(a:Nat)(b:AK):AK:= .blk a (.loop b)
@[reducible] def wb(a:Nat):AI:=qL (.t a)
@[reducible] def wc(a b:Nat)(c:Int):CO:=qx a .eql b c
@[reducible] def wd(a:AK)(b:List CO):AK:= .seq a (.reg b)
@[reducible] def we:AV:=qq true
@[reducible] def wg(a:Nat):AI:=qk none a
@[reducible] def wh(a:List CO)(b:Nat)(c:List CO):AK:=qO a b (qA c)
@[reducible] def wj(a b:Nat)(c d:AOp):CO:=qb a (qM b c d)
@[reducible] def wl(a:Nat):AI:= .mov (.t a)
@[reducible] def wm(a:Option Nat)(b c:Nat):CO:=qD (.chk a b c)
@[reducible] def wn(a:Nat)(b:BinOp)(c d:Nat):CO:=qt a b c (.t d)
@[reducible] def wo(a b:Nat):AI:= .ext a (.t b)
@[reducible] def wq(a b:Nat):CO:=qb a (wb b)
@[reducible] def ws(a b:Nat):AI:= .box a (.t b)
@[reducible] def wt(a:Nat):AI:= .not (.t a)
@[reducible] def wu(a:Nat)(b:List AV)(c:List (Nat × Nat × AOp)):CO:=qb a (.bld b c)
@[reducible] def ww(a b c:Nat)(d:AOp):CO:=qb a (qW b c d)
@[reducible] def wx(a:Nat)(b:List AOp):CO:=qp a aS b
@[reducible] def wy(a:Nat)(b:AK)(c:List CO):AK:=wd (.blk a b) c
@[reducible] def wz:AOp:= .c we
@[reducible] def wA:AK:= .exit 0
@[reducible] def wB(a b c d:Nat):CO:=ww a b c (.t d)
@[reducible] def wD(a b c:Nat):CO:=qb a (wo b c)
@[reducible] def wE(a b c:Nat):CO:=qI a b (wg c)
@[reducible] def wF(a b c:Nat):CO:=qb a (ws b c)
@[reducible] def wG(a b c d:Nat):CO:=qI a b (qi c d)
@[reducible] def wH(a:Nat)(b:AOp):List AOp:=[.t a,b]
@[reducible] def wI(a:Nat)(b:FuncId)(c:Nat)(d:AOp):CO:=qp a b (wH c d)
@[reducible] def wJ(a:Nat)(b:FuncId)(c d:Nat):CO:=wI a b c (.t d)
@[reducible] def wK(a:Nat):CO:=qd a qS
@[reducible] def wL(a b:Nat)(c:Int):CO:=qx a .add b c
@[reducible] def wM(a b c:Nat):Nat × Nat × AOp:=(a,b,.t c)
@[reducible] def wN(a b c:Nat)(d:AOp):AI:= .app a b (.t c) d
@[reducible] def wP(a:List CO)(b:Nat)(c:AK):AK:=qB a b .skip c
@[reducible] def wQ(a:List CO)(b:Nat)(c d:AK):AK:= .seq (wP a b c) d
@[reducible] def wR(a:BinOp)(b:Nat)(c:Int):AI:=qm a b (qj c)
@[reducible] def wS(a:List CO)(b:Nat)(c:AK):AK:=qe a (wa b c)
@[reducible] def wT(a:List UInt8):AOp:= .c (qv a)
@[reducible] def wU(a b c:Nat)(d:AOp):CO:=wj a b (.t c) d
@[reducible] def wV(a:Nat):CO:=qQ a 0
@[reducible] def wW(a b:Nat):CO:=qr a 0 b
@[reducible] def wX(a:CO)(b c:Nat):List CO:=[a,qg b c]
@[reducible] def wY(a b:Nat)(c:Int)(d e:Nat):List CO:=wX (wc a b c) d e
@[reducible] def wZ(a:List CO)(b:AK)(c:List CO):AK:=qN a b (qA c)
@[reducible] def xa(a b c:Nat):CO:=wJ a cz b c
@[reducible] def xb(a b:Nat):CO:=wm none a b
@[reducible] def xc(a b:List CO):AK:=qe a (qA b)
@[reducible] def xd(a b c:Nat):CO:=wn a .lss b c
@[reducible] def xe(a:Nat):CO:=qg a 1
@[reducible] def xf(a b:Nat)(c:Int):Nat × Nat × AOp:=(a,b,qj c)
@[reducible] def xg(a:Nat)(b:Int):Nat × Nat × AOp:=xf a 1 b
@[reducible] def xh(a b:Nat)(c:AOp)(d:Nat):CO:=wj a b c (.t d)
@[reducible] def xi:CO:=wK 4
@[reducible] def xj(a b c d:Nat):AI:=wN a b c (.t d)
@[reducible] def xk(a b c d e:Nat):CO:=qb a (xj b c d e)
@[reducible] def xm(a:List CO)(b:Nat)(c:List CO):AK:=qO a b (.reg c)
@[reducible] def xn(a b:Nat):CO:=qb a (wt b)
@[reducible] def xo(a b:Nat):Nat × Nat × AOp:=wM a 1 b
@[reducible] def xp(a:Nat):CO:=qg a 5
@[reducible] def xq:RV:= .t 4
@[reducible] def xr(a b:Nat)(c:Int)(d e f:Nat)(g h:AK):AK:=qB (wY a b c d e) f g h
@[reducible] def xt(a:Nat):List AOp:=[.t a]
@[reducible] def xu(a:Nat)(b:FuncId)(c:Nat):CO:=qp a b (xt c)
@[reducible] def xv(a b:Nat):CO:=qU 1 a b
@[reducible] def xw(a b:Nat):CO:=qr a 2 b
@[reducible] def xx(a:FuncId)(b:Nat)(c:AOp):AI:= .call a (wH b c)
@[reducible] def xy(a b c:Nat):CO:=qJ a b (wl c)
@[reducible] def xz(a:Nat):CO:=qg a 2
@[reducible] def xA(a b c:Nat):CO:=wU a b c qS
@[reducible] def xB(a b c:Nat):CO:=qI a b (wl c)
@[reducible] def xC(a b c:Nat):CO:=qJ a b (wg c)
@[reducible] def xD(a b:Nat)(c:BinOp)(d:Nat)(e:Int):CO:=qI a b (wR c d e)
@[reducible] def xE(a:List CO)(b:Nat)(c:AK)(d:Nat)(e:AK)(f:List CO):AK:=wQ a b c (wy d e f)
@[reducible] def xF(a:Nat)(b:AV):CO:=qd a (.c b)
@[reducible] def xG(a:Nat)(b:List AOp):CO:=qp a bL b
@[reducible] def xH(a b:List CO)(c:AK):AK:=qe a (qe b c)
@[reducible] def xI(a b c d:Nat):CO:=qJ a b (qi c d)
@[reducible] def xJ:RV:= .t 2
@[reducible] def xK(a b:Nat)(c:Int):CO:=qx a .sub b c
@[reducible] def xL(a b c:Nat):CO:=wJ a cT b c
@[reducible] def xM(a:Nat)(b c:AOp):List AOp:=[.t a,b,c]
@[reducible] def xN(a b:Nat)(c:AOp):List AOp:=xM a (.t b) c
@[reducible] def xO(a b c:Nat):List AOp:=xN a b (.t c)
@[reducible] def xP(a:Nat)(b:FuncId)(c d e:Nat):CO:=qp a b (xO c d e)
@[reducible] def xQ(a b:Nat):CO:=qr a 1 b
@[reducible] def xR(a:Nat)(b:AK):AK:=qo a .skip b
@[reducible] def xS:CO:=wV 4
@[reducible] def xT(a b:Nat)(c:List AV)(d:Nat)(e:List (Nat × Nat × AOp)):CO:=qb a (.bslP b c d e)
@[reducible] def xU(a:AK)(b:List CO):AK:= .seq a (qA b)
@[reducible] def xV:Option Nat:=some 4
@[reducible] def xW(a:List CO)(b:Nat)(c:List CO)(d:Nat)(e:AK)(f:Nat)(g:AK)(h:List CO):AK:=wS a b (xE c d e f g h)
@[reducible] def xX(a b c:Nat):CO:=xh a b wz c
@[reducible] def xY(a:Nat)(b:FuncId)(c:Nat)(d:Int):CO:=wI a b c (qj d)
@[reducible] def xZ(a:Nat):CO:=qg 6 a
@[reducible] def x7(a b:Nat):CO:=qr a 3 b
@[reducible] def x8(a b:List CO)(c:Nat)(d:List CO)(e:AK):AK:=qN a (wh b c d) e
@[reducible] def x9(a b:Nat):CO:=wL a b 1
@[reducible] def ya(a:List AOp):AI:= .call js a
@[reducible] def yb(a b:Nat)(c:Int):CO:=xY a ig b c
@[reducible] def yc(a b:List CO):AK:=qe a (.reg b)
@[reducible] def yd(a:Nat):CO:=qg a 8
@[reducible] def ye(a:Nat):CO:=qg a 7
@[reducible] def yf(a b:Nat):CO:=qK a 4 b
@[reducible] def yg(a b:Nat)(c:Int):CO:=xY a cu b c
@[reducible] def yh:List AV:=[.nils]
@[reducible] def yi:AOp:=qj 0
@[reducible] def yj(a b:Nat)(c:AOp):CO:=wx a (wH b c)
@[reducible] def yk:CO:=wK 2
@[reducible] def yl(a:BinOp)(b:Nat)(c:AOp):AI:= .bins a (.t b) c
@[reducible] def ym(a b:Nat):Nat × Nat × AOp:=wM 0 a b
@[reducible] def yn(a:Int):Nat × Nat × AOp:=xg 0 a
@[reducible] def yp(a:Nat):CO:=qg 4 a
@[reducible] def yq(a b:Nat)(c:Int):CO:=qx a .gtr b c
@[reducible] def yr:List RV:=[xq]
@[reducible] def yt(a:Nat):CO:=qg a 6
@[reducible] def yu(a b c d:Nat):CO:=xP a bf b c d
def oD:FK:=⟨15,[.t 6],xc [wK 6] [qZ 7,xe 8,wn 9 .geq 7 8,qg 10 9,xB 11 10 0,xB 12 10 2,qI 13 10 (qm .leq 11 (.t 12)),xA 14 10 13,xZ 14]⟩
theorem Fz:af Tryz.prog js=some oD:=by kernel_rfl
def py:FK:=⟨18,yr,wZ [xS] (xW [wV 5] 0 [xp 6,qZ 7,qb 8 (.len true (.t 7)),xd 9 6 8] 9 wA 1 (wh [qZ 12,xp 13,qb 14 (.idxStr (.t 12) (.t 13)),xe 15,wn 16 .eql 14 15] 16 (wX (xp 17) 4 17)) [xp 10,x9 11 10,qg 5 11]) [qQ 4 (-1)]⟩
theorem AY:af Tryz.prog lg=some py:=by kernel_rfl
def pA:FK:=⟨28,[xJ],wZ [wV 2] (.blk 0 (qB [qZ 4,qt 5 .geq 4 (.c (qf .u8 97)),xp 6,xB 7 6 0,qI 8 6 (qm .leq 7 (.c (qf .u8 122))),xA 9 6 8,qg 3 9] 3 (qA [qQ 2 1]) (qB [qZ 11,qt 12 .geq 11 (.c (qf .u8 48)),qg 13 12,xB 14 13 0,qI 15 13 (qm .leq 14 (.c (qf .u8 57))),xA 16 13 15,qg 10 16] 10 (qA [qQ 2 2]) (qB [qZ 18,qp 19 lg [wT [40,41,123,125,59,44,43,45,42,47,37,60,61,38,33,64],.t 18],qx 20 .geq 19 0,qg 17 20] 17 (qA [qQ 2 3]) (wh [qZ 22,qt 23 .eql 22 (.c (qf .u8 32)),qg 24 23,xy 25 24 0,qJ 26 24 (qm .eql 25 (.c (qf .u8 10))),xX 27 24 26,qg 21 27] 21 [qQ 2 4]))))) [wV 2]⟩
theorem zJ:af Tryz.prog kQ=some pA:=by kernel_rfl
def ud:FK:=⟨21,yr,wZ [xi] (xW [wV 5] 0 [xp 6,qZ 7,qb 8 (.len true (.t 7)),xd 9 6 8] 9 wA 1 (wh [qZ 12,xp 13,qb 14 (.idxStr (.t 12) (.t 13)),xu 15 kQ 14,xe 16,wn 17 .neq 15 16] 17 [xi]) [xp 10,x9 11 10,qg 5 11]) [qZ 18,qb 19 (.len true (.t 18)),yq 20 19 0,yp 20]⟩
theorem Ds:af Tryz.prog nq=some ud:=by kernel_rfl
def nW:FK:=⟨2,[.t 0],xc [xF 0 .nils] (wX (qY 1 1 [qF] 9 [(0,1,wT [102,110]),(1,1,wT [108,101,116]),(2,1,wT [115,97,121]),(3,1,wT [112,117,116]),(4,1,wT [105,102]),(5,1,wT [101,108,115,101]),(6,1,wT [108,111,111,112]),(7,1,wT [98,97,99,107]),(8,1,wT [100,111])]) 0 1)⟩
theorem yK:af Tryz.prog fW=some nW:=by kernel_rfl
def tO:FK:=⟨18,[xJ],qe [yk] (wZ (wX (qp 5 fW []) 3 5) (xW [xS] 0 [xZ 4,qg 7 3,wq 8 7,xd 9 6 8] 9 wA 1 (wh [qg 12 3,qg 13 4,wB 14 1 12 13,qu 15 14,qZ 16,qb 17 (yl .eql 15 (.t 16))] 17 [qd 2 wz]) [qg 10 4,x9 11 10,yp 11]) [yk])⟩
theorem DC:af Tryz.prog nK=some tO:=by kernel_rfl
def sq:FK:=⟨15,[xJ],xc [yk] [qZ 3,xY 4 nq 3 1,qg 5 4,xB 6 5 0,qI 7 5 (.len true (.t 6)),xD 8 5 .leq 7 4,xA 9 5 8,qg 10 9,xB 11 10 0,qI 12 10 (.call nK (xt 11)),qI 13 10 (wt 12),xA 14 10 13,qg 2 14]⟩
theorem Bi:af Tryz.prog cy=some sq:=by kernel_rfl
def mz:FK:=⟨5,[xJ],wZ [wV 2] (wh [qZ 3,wc 4 3 4] 4 [qQ 2 2]) [qQ 2 1]⟩
theorem BD:af Tryz.prog jg=some mz:=by kernel_rfl
def di:FK:=⟨13,[xJ,.t 3],wZ [wV 2,wV 3] (qe [qZ 4] (.blk 0 (wQ (wY 6 4 1 5 6) 5 (.reg (wY 7 4 2 5 7)) (qo 5 (qA [wV 2,wV 3]) (wQ (wY 9 4 11 8 9) 8 (.reg (wY 10 4 12 8 10)) (qo 8 (qA [qQ 2 1,qQ 3 1]) (wh (wY 12 4 13 11 12) 11 [wV 2,qQ 3 3]))))))) [qQ 2 2,qQ 3 2]⟩
theorem BI:af Tryz.prog jh=some di:=by kernel_rfl
def iV:FK:=⟨86,yr,qe [wF 2 4 0,xi] (x8 [wW 10 2,qu 11 10,xu 12 jh 11,qg 9 12,wD 13 0 9,wD 14 1 9,qg 5 13,xZ 14] [xe 15,qx 16 .lss 15 1,qg 17 16,xI 18 17 0 2,xC 19 17 18,qJ 20 17 (ya (xM 19 (qj 1) (qj 13))),qJ 21 17 (wt 20),xX 22 17 21,qg 23 22,xI 24 23 3 2,xC 25 23 24,qJ 26 23 (wb 25),xy 27 23 5,xy 28 23 6,qJ 29 23 (ya (xO 26 27 28)),qJ 30 23 (wt 29),xX 31 23 30] 31 [xi] (x8 [wW 32 2,qu 33 32,wc 34 33 2,qg 35 34,xI 36 35 0 2,xC 37 35 36,qJ 38 35 (wR .eql 37 13),xX 39 35 38,qg 7 39] [ye 40,xw 41 2,qu 42 41,xu 43 cy 42,qb 44 (.beq true (.t 40) (.t 43)),qg 45 44,xy 46 45 7,qJ 47 45 (wt 46),xy 48 45 47,wG 49 48 2 2,wE 50 48 49,qI 51 48 (yl .neq 50 (.c qF)),qJ 52 45 (qM 48 (.t 51) qS),xX 53 45 52,qg 54 53,xI 55 54 1 2,xC 56 54 55,qJ 57 54 (ya (xM 56 yi (qj 255))),qJ 58 54 (wt 57),xX 59 54 58,qg 60 59,xI 61 60 0 2,xC 62 60 61,qJ 63 60 (wR .neq 62 1),xy 64 60 63,wG 65 64 1 2,wE 66 64 65,xD 67 64 .neq 66 0,qJ 68 60 (qM 64 (.t 67) qS),xX 69 60 68] 69 [xi] (xU (xW [wV 8] 0 [yd 70,x7 71 2,qu 72 71,wq 73 72,xd 74 70 73] 74 wA 1 (wh [x7 77 2,qu 78 77,yd 79,wB 80 4 78 79,yf 81 80,xe 82,xK 83 82 1,wJ 84 fH 81 83,xn 85 84] 85 [xi]) [yd 75,x9 76 75,qg 8 76]) [qd 4 wz])))⟩
theorem sa:af Tryz.prog fH=some iV:=by kernel_rfl
def ov:FK:=⟨21,[xJ],qe [wF 1 4 0,wV 2] (wZ [qQ 3 1] (xW [xS] 0 [qg 5 4,x7 6 1,qu 7 6,wq 8 7,xd 9 5 8] 9 wA 1 (.reg [qg 12 3,x7 13 1,qu 14 13,qg 15 4,wB 16 4 14 15,yf 17 16,xu 18 ip 17,wn 19 .add 12 18,qg 3 19]) [qg 10 4,x9 11 10,yp 11]) (wX (qg 20 3) 2 20))⟩
theorem Af:af Tryz.prog ip=some ov:=by kernel_rfl
def mQ:FK:=⟨10,[xJ],xc [wF 1 4 0,yk] [yf 3 1,xY 4 fH 3 6,qg 5 4,qI 6 5 (qk xV 1),qI 7 5 (.call ip (xt 6)),xD 8 5 .leq 7 30,xA 9 5 8,qg 2 9]⟩
theorem uK:af Tryz.prog eV=some mQ:=by kernel_rfl
def jj:FK:=⟨108,yr,x8 [wF 2 5 0,xi] [xe 7,qx 8 .lss 7 1,yd 9,xI 10 9 0 2,xC 11 9 10,qJ 12 9 (ya (xM 11 (qj 1) (qj 8))),qJ 13 9 (wt 12),xX 14 9 13,qg 15 14,xI 16 15 2 2,xI 19 15 0 2,xC 17 15 16,qJ 18 15 (wb 17),xC 20 15 19,qJ 21 15 (.qcall jg (xt 20)),qJ 22 15 (qm .neq 18 (.t 21)),xX 23 15 22] 23 [xi] (x8 [wW 24 2,qu 25 24,wc 26 25 1,qg 27 26,xI 28 27 0 2,xC 29 27 28,qJ 30 27 (wR .eql 29 2),xX 31 27 30,qg 5 31] [xp 32,xQ 33 2,qu 34 33,xu 35 cy 34,qb 36 (.beq true (.t 32) (.t 35)),qg 37 36,xy 38 37 5,qJ 39 37 (wt 38),xy 40 37 39,wG 41 40 1 2,wE 42 40 41,qI 43 40 (yl .neq 42 (.c qF)),qJ 44 37 (qM 40 (.t 43) qS),xX 45 37 44] 45 [xi] (.seq (xW [wV 6] 0 [yt 46,xw 47 2,qu 48 47,wq 49 48,xd 50 46 49] 50 wA 1 (wh [xw 53 2,qu 54 53,yt 55,wB 56 4 54 55,yf 57 56,xu 58 eV 57,xn 59 58] 59 [xi]) [yt 51,x9 52 51,xZ 52]) (.seq (wh [wW 60 2,qu 61 60,wc 62 61 8,qg 63 62,wG 64 63 2 2,wE 65 63 64,qI 66 63 (qW 4 65 yi),wG 67 63 0 66,wE 68 63 67,xD 69 63 .neq 68 13,xA 70 63 69] 70 [xi]) (xU (wh [qr 71 4 2,qu 72 71,wq 73 72,yq 74 73 0,qg 75 74,wG 76 75 0 2,wE 77 75 76,xD 78 75 .neq 77 5,xA 79 75 78,qg 80 79,xI 81 80 3 2,xC 82 80 81,qJ 83 80 (wb 82),qJ 84 80 (wR .gtr 83 0),xy 85 80 84,wG 86 85 0 2,wE 87 85 86,xD 88 85 .neq 87 5,qJ 89 80 (qM 85 (.t 88) qS),xy 90 80 89,wG 91 90 0 2,wE 92 90 91,xD 93 90 .neq 92 6,qJ 94 80 (qM 90 (.t 93) qS),xX 95 80 94] 95 [xi]) [x7 96 2,qu 97 96,xe 98,xK 99 98 1,wJ 100 bY 97 99,qg 101 100,wG 102 101 4 2,wE 103 101 102,xB 104 101 1,xD 105 101 .sub 104 1,qI 106 101 (xx bY 103 (.t 105)),xA 107 101 106,yp 107]))))⟩
theorem rV:af Tryz.prog je=some jj:=by kernel_rfl
def pi:FK:=⟨19,yr,wZ [xi] (xW [wV 5] 0 [xp 6,qZ 7,wq 8 7,xd 9 6 8] 9 wA 1 (wh [qZ 12,xp 13,wB 14 5 12 13,qK 15 5 14,xe 16,wJ 17 je 15 16,xn 18 17] 18 [xi]) [xp 10,x9 11 10,qg 5 11]) [qd 4 wz]⟩
theorem AE:af Tryz.prog bY=some pi:=by kernel_rfl
def vL:FK:=⟨32,[xJ],wZ [wF 1 3 0,yk] (xW [wV 3] 0 [yp 3,xQ 5 1,qu 6 5,wq 7 6,xd 8 4 7] 8 wA 1 (wh [xQ 11 1,qu 12 11,qg 13 3,wB 14 1 12 13,qu 15 14,xu 16 cy 15,xn 17 16] 17 [yk]) [qg 9 3,x9 10 9,qg 3 10]) [wW 18 1,qu 19 18,xu 20 cy 19,qg 21 20,wG 22 21 1 1,wE 23 21 22,qI 24 21 (wb 23),xD 25 21 .leq 24 3,xA 26 21 25,qg 27 26,wG 28 27 2 1,wE 29 27 28,qI 30 27 (xx bY 29 (qj 4)),xA 31 27 30,qg 2 31]⟩
theorem DU:af Tryz.prog oQ=some vL:=by kernel_rfl
def kL:FK:=⟨29,[xJ],qe [wV 2] (wZ [qZ 5,wq 6 5,yt 3] (xW [xS] 0 [qg 7 4,qZ 8,wq 9 8,xd 10 7 9] 10 wA 1 (.reg [qg 13 3,qZ 14,qg 15 4,wB 16 5 14 15,x7 17 16,qZ 21,qg 22 4,wB 23 5 21 22,qr 24 4 23,qu 18 17,qu 25 24,xu 19 eK 18,xb 24 25,wn 20 .add 13 19,xu 26 eK 25,wn 27 .add 20 26,qg 3 27]) [qg 11 4,x9 12 11,yp 12]) (wX (qg 28 3) 2 28))⟩
theorem oJ:af Tryz.prog eK=some kL:=by kernel_rfl
def tz:FK:=⟨22,[xJ],qe [wF 1 1 0,wV 2] (wZ [wV 3] (xW [xS] 0 [qg 5 4,wW 6 1,qu 7 6,wq 8 7,xd 9 5 8] 9 wA 1 (.reg [qg 12 3,wW 13 1,qu 14 13,qg 15 4,wB 16 3 14 15,xw 17 16,qu 18 17,xu 19 eK 18,wn 20 .add 12 19,qg 3 20]) [qg 10 4,x9 11 10,yp 11]) (wX (qg 21 3) 2 21))⟩
theorem CS:af Tryz.prog nH=some tz:=by kernel_rfl
def kg:FK:=⟨26,[xJ],x8 [wF 1 1 0,yk] [wW 4 1,qu 5 4,wq 6 5,qp 7 js (xM 6 (qj 1) (qj 4)),xn 8 7] 8 [yk] (xU (xW [wV 3] 0 [qg 9 3,wW 10 1,qu 11 10,wq 12 11,xd 13 9 12] 13 wA 1 (wh [wW 16 1,qu 17 16,qg 18 3,wB 19 3 17 18,qK 20 3 19,xu 21 oQ 20,xn 22 21] 22 [yk]) [qg 14 3,x9 15 14,qg 3 15]) [qK 23 1 1,xu 24 nH 23,qx 25 .leq 24 40,qg 2 25])⟩
theorem re:af Tryz.prog dy=some kg:=by kernel_rfl
def vK:FK:=⟨22,yr,wZ [wF 2 1 0,xS] (xW [wV 5] 0 [xp 6,wW 7 2,qu 8 7,wq 9 8,xd 10 6 9] 10 wA 1 (wh [wW 13 2,qu 14 13,xp 15,wB 16 3 14 15,wW 17 16,qu 18 17,xe 19,qb 20 (yl .eql 18 (.t 19))] 20 (wX (xp 21) 4 21)) [xp 11,x9 12 11,qg 5 12]) [qQ 4 (-1)]⟩
theorem EQ:af Tryz.prog jq=some vK:=by kernel_rfl
def ga:FK:=⟨13,[],xm [qZ 4,qV 5 4,qr 6 4 5,qu 7 6,wc 8 7 0] 8 [qZ 9,xe 10,qV 11 9,qr 12 4 11,xv 12 10]⟩
theorem sT:af Tryz.prog bw=some ga:=by kernel_rfl
def gb:FK:=⟨27,yr,wZ [xS] (xW [qZ 6,qV 7 6,xw 8 7,qu 9 8,wq 10 9,xK 11 10 1,qg 5 11] 0 [xp 12,qx 13 .geq 12 0] 13 wA 1 (wh [qZ 16,qV 17 16,xw 18 17,qu 19 18,xp 20,wB 21 3 19 20,wW 22 21,qu 23 22,xe 24,qb 25 (yl .eql 23 (.t 24))] 25 (wX (xp 26) 4 26)) [xp 14,xK 15 14 1,qg 5 15]) [qQ 4 (-1)]⟩
theorem sW:af Tryz.prog dP=some gb:=by kernel_rfl
def rN:FK:=⟨11,[xJ],qe [xF 2 qF] (xc [qZ 4,qx 5 .rem 4 26,xp 3] [xZ 3,qg 7 3,x9 8 7,qb 9 (.slStr (wT [97,98,99,100,101,102,103,104,105,106,107,108,109,110,111,112,113,114,115,116,117,118,119,120,121,122]) (some (.t 6)) (some (.t 8))),qb 10 (.bins .add (wT [118]) (.t 9)),qg 2 10])⟩
theorem BF:af Tryz.prog iX=some rN:=by kernel_rfl
def iu:AK:=xH [xF 6 qF] [qZ 8,xe 9,wJ 10 dP 8 9,qg 7 10] (.cut (xm [ye 11,qx 12 .geq 11 0,qg 13 12,xB 14 13 0,qI 15 13 (qw 14),wG 16 13 2 15,wE 17 13 16,xB 18 13 7,qI 19 13 (qW 3 17 (.t 18)),wG 20 13 2 19,wE 21 13 20,xB 22 13 2,qI 23 13 (qm .eql 21 (.t 22)),xA 24 13 23] 24 [qZ 25,xY 26 bw 25 2]) (qe [qZ 27,qZ 28,qV 29 28,xw 30 29,xe 32,qZ 33,qV 34 33,x7 35 34,xz 37,qu 31 30,qu 36 35,wu 38 [qF,qC,qC] [xo 0 32,xo 1 36,xo 2 37],xT 39 3 [qF,qC,qC] 1 [ym 3 38],xk 40 3 32 31 39,qV 41 27,xw 42 41,xv 42 40] (xc [qZ 43,qZ 44,qV 45 44,x7 46 45,qu 47 46,x9 48 47,qV 49 43,x7 50 49,xv 50 48] [qZ 51,qV 52 51,x7 53 52,qu 54 53,xK 55 54 1,xu 56 iX 55,xZ 56])))
def ie:FK:=⟨57,[.t 6],(AK.whole iu)⟩
theorem uy:af Tryz.prog eq=some ie:=by kernel_rfl
def lZ:FK:=⟨23,yr,qe [xF 4 qF] (wZ [qZ 6,xe 7,wJ 8 dP 6 7,yd 5] (qO [xp 9,qx 10 .lss 9 0] 10 (xc [qZ 11,xY 12 bw 11 3] (wX (xe 13) 4 13))) [qZ 14,qV 15 14,xw 16 15,qu 17 16,xp 18,wB 19 3 17 18,xQ 20 19,qu 21 20,xu 22 iX 21,yp 22])⟩
theorem uE:af Tryz.prog eB=some lZ:=by kernel_rfl
def gq:AK:=qe [wF 3 4 1,qX 4 [qC,qC,qF,.nils]] (.cut (xm [wW 8 3,qu 9 8,wc 10 9 2] 10 [qZ 11,xw 12 3,qu 13 12,wJ 14 eB 11 13,xw 15 3,xv 15 14]) (.cut (qO [wW 16 3,qu 17 16,wc 18 17 13] 18 (qe [qZ 19,qV 20 19,wW 21 20,xw 23 3,qK 22 1 21,qu 24 23,wJ 25 jq 22 24,qg 5 25] (qB [xp 26,qx 27 .lss 26 0,qg 28 27,xy 29 28 5,xy 30 28 0,qJ 31 28 (qw 30),xI 32 28 1 31,xC 33 28 32,qJ 34 28 (qm .geq 29 (.t 33)),xX 35 28 34] 35 (.reg [qZ 36,xY 37 bw 36 4]) (xm [qZ 38,qV 39 38,wW 40 39,wW 41 40,xp 43,x7 48 3,qu 42 41,wB 44 3 42 43,xQ 45 44,qu 46 45,wq 47 46,qu 49 48,wq 50 49,wn 51 .neq 47 50] 51 [qZ 52,xY 53 bw 52 5])))) (qN (wX (qY 54 4 [qC,qC,qF,.nils] 0 []) 6 54) (xW [wV 7] 0 [ye 55,x7 56 3,qu 57 56,wq 58 57,xd 59 55 58] 59 wA 1 (.reg [yt 62,qZ 63,x7 64 3,qu 65 64,ye 66,wB 67 4 65 66,yf 68 67,wJ 69 cD 63 68,qY 70 4 [qC,qC,qF,.nils] 1 [ym 4 69],xk 71 4 56 62 70,xZ 71]) [ye 60,x9 61 60,qg 7 61]) (xc [yt 72,x7 73 3,xv 73 72] [yf 74 3,qU 4 4 74]))))
def gr:FK:=⟨75,[.c 4 xV],(AK.whole gq)⟩
theorem sY:af Tryz.prog cD=some gr:=by kernel_rfl
def fj:AK:=xH [xF 6 .nils] (wX (qY 13 5 [qC,qF,.nils,.nils,.nils] 0 []) 7 13) (qN [qZ 14,qV 15 14,xw 16 15,qu 17 16,wq 18 17,qg 8 18] (xW [wV 9] 0 [qg 19 9,xe 20,wq 21 20,xd 22 19 21] 22 wA 1 (qe [xe 25,qg 26 9,wB 27 5 25 26,qK 28 5 27,qX 10 [qC,qF,.nils,.nils,.nils],qU 5 10 28] (qN (wX (qY 29 4 [qC,qC,qF,.nils] 0 []) 11 29) (xW [wV 12] 2 [qg 30 12,xw 31 10,qu 32 31,wq 33 32,xd 34 30 33] 34 (.exit 2) 3 (.reg [qg 37 11,qZ 38,xw 39 10,qu 40 39,qg 41 12,wB 42 4 40 41,yf 43 42,wJ 44 cD 38 43,qY 45 4 [qC,qC,qF,.nils] 1 [ym 4 44],xk 46 4 56 37 45,qg 11 46]) [qg 35 12,x9 36 35,qg 12 36]) (.cut (.reg [qg 47 11,xw 48 10,xv 48 47]) (.cut (xm [wW 49 10,qu 50 49,wc 51 50 1] 51 [qZ 52,xQ 53 10,qu 54 53,xz 55,xP 56 eq 52 54 55,xQ 57 10,xv 57 56]) (.cut (xm [wW 58 10,qu 59 58,wc 60 59 2] 60 [qZ 61,xQ 62 10,qu 63 62,wJ 64 eB 61 63,xQ 65 10,xv 65 64]) (xH [qZ 66,x7 67 10,qu 68 67,xz 69,x9 70 69,xP 71 ck 66 68 70,x7 72 10,xv 72 71] [qZ 73,qr 74 4 10,qu 75 74,xz 76,x9 77 76,xP 78 ck 73 75 77,qr 79 4 10,xv 79 78] (.reg [ye 80,qK 81 5 10,qY 82 5 [qC,qF,.nils,.nils,.nils] 1 [ym 5 81],xk 83 5 96 80 82,qg 7 83]))))))) [qg 23 9,x9 24 23,qg 9 24]) (.cut (xm [xz 84,yq 85 84 0] 85 [qZ 86,qZ 87,qV 88 87,xw 89 88,qu 90 89,yd 91,qb 92 (.slS 3 (.t 90) none (some (.t 91))),qV 93 86,xw 94 93,xv 94 92]) (qA (wX (ye 95) 6 95))))
def fk:FK:=⟨96,[.t 6],(AK.whole fj)⟩
theorem pY:af Tryz.prog ck=some fk:=by kernel_rfl
def pg:AK:=xH [wF 2 1 0,qX 4 [qF,.nils,.nils],wV 5,wV 6] [qK 11 1 2,xe 12,wu 13 [.nils,qC,.nils,qC,qC] [xo 0 11,xo 1 12],wF 14 5 13,qg 7 14] (.cut (.reg [wW 15 2,qu 16 15,xe 17,wB 18 3 16 17,qK 19 3 18,qX 8 [qF,.nils,.nils],qU 3 8 19]) (.cut (xm [qK 20 1 2,wW 21 8,qu 22 21,wJ 23 jq 20 22,xe 24,wn 25 .neq 23 24] 25 [ye 26,xY 27 bw 26 2]) (qN (wX (qY 28 1 [qF] 0 []) 9 28) (xW [wV 10] 0 [qg 29 10,xQ 30 8,qu 31 30,wq 32 31,xd 33 29 32] 33 wA 1 (.reg [qg 36 9,ye 37,xQ 38 8,qu 39 38,qg 40 10,wB 41 1 39 40,qu 42 41,qp 43 eq (xN 37 42 yi),qY 44 1 [qF] 1 [xo 0 43],xk 45 1 16 36 44,qg 9 45]) [qg 34 10,x9 35 34,qg 10 35]) (qe [qg 46 9,xQ 47 8,xv 47 46] (xc [ye 48,xw 49 8,qu 50 49,qp 51 ck (xN 48 50 yi),xw 52 8,xv 52 51] [ye 54,qV 55 54,qr 56 4 55,ye 58,qV 59 58,x7 60 59,qK 53 3 8,qu 57 56,qu 61 60,qU 3 4 53,xb 56 57,xb 60 61,qg 5 57,xZ 61])))))
def oH:FK:=⟨62,[.c 4 (some 3),.t 5,.t 6],(AK.whole pg)⟩
theorem Fa:af Tryz.prog lT=some oH:=by kernel_rfl
def jX:FK:=⟨27,[xJ],x8 [wF 1 1 0,wV 2] [qK 7 1 1,xu 8 dy 7,xn 9 8] 9 [qQ 2 1] (xU (xW [wV 3] 0 [qg 10 3,wW 11 1,qu 12 11,wq 13 12,xd 14 10 13] 14 wA 1 (qe [qK 18 1 1,qg 19 3,wJ 20 lT 18 19,qg 17 20,wD 21 0 17,wD 22 1 17,wD 23 2 17,qX 4 [qF,.nils,.nils],qU 3 4 21,qg 5 22,xZ 23] (wh [xp 24,qx 25 .neq 24 0] 25 (wX (xp 26) 2 26))) [qg 15 3,x9 16 15,qg 3 16]) [wV 2])⟩
theorem pZ:af Tryz.prog ff=some jX:=by kernel_rfl
def rO:FK:=⟨6,[xJ],xc [wF 1 1 0,yk] [qK 3 1 1,xu 4 ff 3,wc 5 4 0,xp 2]⟩
theorem Bj:af Tryz.prog mv=some rO:=by kernel_rfl
def nX:FK:=⟨16,[xJ],wZ [yk] (xW [wV 3] 0 [yp 3,qZ 5,wq 6 5,xd 7 4 6] 7 wA 1 (wh [qZ 10,qg 11 3,wB 12 1 10 11,qu 13 12,qp 14 js (xM 13 yi (qj 255)),xn 15 14] 15 [yk]) [qg 8 3,x9 9 8,qg 3 9]) [qd 2 wz]⟩
theorem yz:af Tryz.prog jG=some nX:=by kernel_rfl
def rD:FK:=⟨26,yr,xc [wF 2 1 0,xi] [qK 5 1 2,xu 6 mv 5,yt 7,xB 8 7 1,qI 9 7 (.call jG (xt 8)),xA 10 7 9,qg 11 10,xB 12 11 1,qI 13 11 (wb 12),wG 14 11 0 2,wE 15 11 14,wG 16 11 0 2,wE 17 11 16,qI 18 11 (wb 17),xD 19 11 .sub 18 1,qI 20 11 (qW 3 15 (.t 19)),wG 21 11 1 20,wE 22 11 21,qI 23 11 (wb 22),qI 24 11 (qm .eql 13 (.t 23)),xA 25 11 24,yp 25]⟩
theorem Bc:af Tryz.prog ji=some rD:=by kernel_rfl
def gF:FK:=⟨17,[],qO [qZ 4,qV 5 4,qr 6 6 5,qu 7 6,xn 8 7] 8 (yc [qZ 9,xe 10,qV 11 9,xQ 12 11,xQ 13 12,xv 13 10] [qZ 14,qV 15 14,qr 16 6 15,qT 1 16 wz])⟩
theorem tn:af Tryz.prog bZ=some gF:=by kernel_rfl
def gN:FK:=⟨17,[],wd (wh [qZ 2,qV 3 2,qr 4 5 3,qu 5 4,wc 6 5 0] 6 [qZ 7,xY 8 bZ 7 3]) [qZ 9,qZ 10,qV 11 10,qr 12 5 11,qu 13 12,xK 14 13 1,qV 15 9,qr 16 5 15,xv 16 14]⟩
theorem tj:af Tryz.prog eA=some gN:=by kernel_rfl
def tJ:FK:=⟨20,yr,wZ [xS] (xW [qZ 6,wq 7 6,xK 8 7 1,yd 5] 0 [xp 9,qx 10 .geq 9 0] 10 wA 1 (wh [qZ 13,xp 14,wB 15 1 13 14,qu 16 15,xe 17,qb 18 (yl .eql 16 (.t 17))] 18 (wX (xp 19) 4 19)) [xp 11,xK 12 11 1,qg 5 12]) [qQ 4 (-1)]⟩
theorem CA:af Tryz.prog kr=some tJ:=by kernel_rfl
def lU:FK:=⟨67,[.t 6],xH [wF 4 4 1,wV 6] [xF 7 .any,qZ 10,qV 11 10,wW 12 11,wW 13 12,qZ 15,qV 16 15,wW 17 16,xw 19 4,qu 14 13,qK 18 1 17,qu 20 19,wJ 21 jq 18 20,xb 13 14,wB 22 3 14 21,qK 23 3 22,qX 7 [qF,.nils,.nils],qU 3 7 23] (qN [qY 24 1 [qF] 0 [],xQ 25 7,qu 26 25,xk 27 1 16 24 26,wu 28 [.nils,.nils,qy,qC] [xo 0 27],wF 29 4 28,qg 8 29] (xW [wV 9] 0 [qg 30 9,x7 31 4,qu 32 31,wq 33 32,xd 34 30 33] 34 wA 1 (.reg [yd 37,yd 38,qV 39 38,xQ 40 39,qZ 42,x7 43 4,qg 45 9,xz 48,qu 41 40,qu 44 43,wB 46 4 44 45,yf 47 46,yu 49 42 47 48,xb 40 41,xT 50 1 [qC] 1 [xo 0 49],xk 51 1 8 41 50,qV 52 37,xQ 53 52,xv 53 51]) [qg 35 9,x9 36 35,qg 9 36]) (wZ [qZ 54,xw 55 7,qu 56 55,yd 57,xP 58 aK 54 56 57] (wh [qZ 59,qV 60 59,qr 61 6 60,qu 62 61] 62 [wV 6]) [yd 63,qV 64 63,x7 65 64,qu 66 65,xZ 66]))⟩
theorem tV:af Tryz.prog eu=some lU:=by kernel_rfl
def oh:FK:=⟨4,[xJ],wZ [wV 2] (wh [qZ 3] 3 [qQ 2 1]) [wV 2]⟩
theorem zx:af Tryz.prog dE=some oh:=by kernel_rfl
def uk:FK:=⟨50,[.t 6,.t 7],qN [wV 6,wV 7] (qe [qZ 8] (.blk 0 (xr 10 8 3 9 10 9 (qA [xe 11,xz 12,wn 13 .add 11 12,qx 14 .rem 13 256,xZ 14,wV 7]) (xr 16 8 4 15 16 15 (qA [xe 17,xz 18,wn 19 .sub 17 18,wL 20 19 256,qx 21 .rem 20 256,xZ 21,wV 7]) (xr 23 8 5 22 23 22 (qA [xe 24,xz 25,wn 26 .mul 24 25,qx 27 .rem 26 256,xZ 27,wV 7]) (xr 29 8 8 28 29 28 (qA [xe 30,xz 31,xd 32 30 31,xu 33 dE 32,xZ 33,wV 7]) (wh (wY 35 8 9 34 35) 34 [xe 36,xz 37,wn 38 .eql 36 37,xu 39 dE 38,xZ 39,wV 7]))))))) (.seq (wh [xz 40,wc 41 40 0] 41 [wV 6,qQ 7 1]) (xU (wh [qZ 42,wc 43 42 6] 43 [xe 44,xz 45,wn 46 .quo 44 45,xZ 46,wV 7]) [xe 47,xz 48,wn 49 .rem 47 48,xZ 49,wV 7]))⟩
theorem Dc:af Tryz.prog nJ=some uk:=by kernel_rfl
def aC:FK:=⟨108,[.t 6],x8 [wF 4 4 1,wV 6] [qZ 11,qV 12 11,qr 13 6 12,qu 14 13] 14 [wV 6] (.seq (qe [wW 15 4,qu 16 15] (.blk 0 (xr 18 16 1 17 18 17 (qA [xQ 19 4,qu 20 19,xZ 20]) (xr 22 16 2 21 22 21 (qA [xz 23,qV 24 23,xQ 25 24,xz 27,qV 28 27,wW 29 28,xw 31 4,qu 26 25,qu 30 29,qu 32 31,wJ 33 kr 30 32,xb 25 26,wB 34 1 26 33,qu 35 34,xZ 35]) (wh (wY 37 16 13 36 37) 36 [qZ 38,yf 39 4,xz 40,xP 41 eu 38 39 40,xZ 41]))))) (qN [qZ 42,x7 43 4,qu 44 43,ww 45 4 44 yi,yf 46 45,xz 47,yu 48 42 46 47,qg 7 48] (qe [wW 49 4,qu 50 49] (.blk 1 (xr 52 50 11 51 52 51 (qA [ye 53,wc 54 53 0,xu 55 dE 54,xZ 55]) (xr 57 50 12 56 57 56 (xU (qO [ye 58,qx 59 .geq 58 16] 59 (xc [qZ 60,xY 61 bZ 60 2] [wV 6])) [qZ 62,qV 63 62,xQ 64 63,x7 65 64,qu 66 65,ye 67,wB 68 1 66 67,qu 69 68,xZ 69]) (qO (wY 71 50 10 70 71) 70 (xU (wh [ye 72,wc 73 72 0] 73 [wV 6]) [qZ 74,x7 75 4,qu 76 75,ww 77 4 76 (qj 1),yf 78 77,xz 79,yu 80 74 78 79,qx 81 .neq 80 0,xu 82 dE 81,xZ 82])))))) (x8 [qZ 83,x7 84 4,qu 85 84,ww 86 4 85 (qj 1),yf 87 86,xz 88,yu 89 83 87 88,qg 8 89] [qZ 90,qV 91 90,qr 92 6 91,qu 93 92] 93 [wV 6] (wZ [wW 95 4,qu 96 95,ye 97,yd 98,xP 99 nJ 96 97 98,qg 94 99,wD 100 0 94,wD 101 1 94,qg 9 100,qg 10 101] (xm [qg 102 10,qx 103 .neq 102 0] 103 [qZ 104,qg 105 10,wJ 106 bZ 104 105]) (wX (qg 107 9) 6 107)))))⟩
theorem gC:af Tryz.prog bf=some aC:=by kernel_rfl
def lI:FK:=⟨41,[],wS [wF 5 5 1] 0 (wQ [xz 8,qx 9 .neq 8 0,qg 10 9,xB 11 10 0,qI 12 10 (qw 11),wG 13 10 6 12,wE 14 10 13,qI 15 10 (wt 14),xA 16 10 15] 16 wA (.blk 1 (qN [qZ 17,x7 18 5,qu 19 18,qg 20 3,xP 21 aK 17 19 20] (qO [qZ 22,qV 23 22,qr 24 6 23,qu 25 24,qg 26 25,xy 27 26 3,qJ 28 26 (qw 27),xI 29 26 2 28,xC 30 26 29,xX 31 26 30] 31 .ret) (yc [qZ 32,xu 33 eA 32] [qZ 34,xw 35 5,qu 36 35,ww 37 4 36 yi,yf 38 37,qg 39 3,yu 40 34 38 39,qg 2 40]))))⟩
theorem tc:af Tryz.prog gz=some lI:=by kernel_rfl
def lW:FK:=⟨127,[],xH [wF 4 5 1] [qZ 8,xw 9 4,qu 10 9,ww 11 4 10 yi,yf 12 11,xz 13,yu 14 8 12 13,xZ 14] (qN [wV 7] (xm [wW 15 4,qu 16 15,wc 17 16 4] 17 [qZ 18,xw 19 4,qu 20 19,ww 21 4 20 (qj 1),yf 22 21,xz 23,yu 24 18 22 23,qg 7 24]) (.seq (qO [qZ 25,qV 26 25,qr 27 6 26,qu 28 27] 28 .ret) (qe [wW 29 4,qu 30 29] (.blk 0 (xr 32 30 1 31 32 31 (yc [xz 33,xz 34,qV 35 34,wW 36 35,xQ 38 4,qu 37 36,qu 39 38,xT 40 1 [qF] 1 [xo 0 39],xk 41 1 16 37 40,qV 42 33,wW 43 42,xv 43 41] [xz 44,xz 45,qV 46 45,xQ 47 46,qu 48 47,yt 49,qY 50 1 [qC] 1 [xo 0 49],xk 51 1 8 48 50,qV 52 44,xQ 53 52,xv 53 51]) (xr 55 30 2 54 55 54 (.reg [xz 56,qV 57 56,xQ 58 57,xz 60,qV 61 60,wW 62 61,xQ 64 4,yt 67,qu 59 58,qu 63 62,qu 65 64,wJ 66 kr 63 65,xb 58 59,wB 68 1 59 66,xv 68 67]) (xr 70 30 3 69 70 69 (.reg [qZ 71,qZ 72,qV 73 72,xQ 74 73,wW 75 74,qu 76 75,yt 77,qY 78 1 [qC] 1 [xo 0 77],xk 79 1 8 76 78,qV 80 71,xQ 81 80,wW 82 81,xv 82 79]) (xr 84 30 4 83 84 83 (wd (wh [yt 85,qx 86 .geq 85 16] 86 [qZ 87,xY 88 bZ 87 2]) [qZ 89,qV 90 89,xQ 91 90,x7 92 91,qu 93 92,yt 94,ye 95,wB 96 1 93 94,xv 96 95]) (xr 98 30 5 97 98 97 (qB [yt 99,qx 100 .neq 99 0] 100 (.reg [qZ 101,x7 102 4,qu 103 102,xz 104,xP 105 aK 101 103 104]) (.reg [qZ 106,qr 107 4 4,qu 108 107,xz 109,xP 110 aK 106 108 109])) (xr 112 30 6 111 112 111 (.reg [qZ 113,qK 114 5 4,yt 115,xz 116,qp 117 gz [.t 113,.t 114,.t 115,.t 116]]) (qO (wY 119 30 7 118 119) 118 (yc [xz 120,qV 121 120,xw 122 121,qT 1 122 wz] [xz 123,yt 124,qV 125 123,x7 126 125,xv 126 124]))))))))))))⟩
theorem tv:af Tryz.prog gL=some lW:=by kernel_rfl
def gd:FK:=⟨65,[],qN [xz 8,qV 9 8,wW 10 9,qu 11 10,wq 12 11,xZ 12] (xW [wV 7] 0 [ye 13,xe 14,wq 15 14,xd 16 13 15,qg 17 16,xB 18 17 0,qI 19 17 (qw 18),wG 20 17 6 19,wE 21 17 20,qI 22 17 (wt 21),xA 23 17 22,qg 24 23,xB 25 24 2,qI 26 24 (qw 25),wG 27 24 2 26,wE 28 24 27,qI 29 24 (wt 28),xA 30 24 29] 30 wA 1 (qe [qZ 33,xu 34 eA 33] (xm [qZ 35,qV 36 35,qr 37 6 36,qu 38 37,xn 39 38] 39 [qZ 40,xe 41,ye 42,wB 43 5 41 42,qK 44 5 43,xz 45,xP 46 gL 40 44 45])) [ye 31,x9 32 31,qg 7 32]) (yc [xz 47,xz 48,qV 49 48,wW 50 49,qu 51 50,yt 52,qb 53 (.slS 1 (.t 51) none (some (.t 52))),qV 54 47,wW 55 54,xv 55 53] [xz 56,xz 57,qV 58 57,xQ 59 58,qu 60 59,yt 61,qb 62 (.slS 1 (.t 60) none (some (.t 61))),qV 63 56,xQ 64 63,xv 64 62])⟩
theorem lA:af Tryz.prog aK=some gd:=by kernel_rfl
def vX:FK:=⟨61,[.c 6 xV,.t 7],qN [wF 3 1 0,qX 6 [.nils,qC,qC,.nils],wV 7] (.ot (.one [] (.one [xz 12] (.one [qK 11 1 3] (.alt (.one [qY 13 1 [qC] 0 [],wm (some 1) 3 11] (.alt (.one [qb 14 (.mks 1 8 [qC] (qj 16) (qj 16)),wm (some 1) 3 11] (.one [wu 15 [.nils,qC,qC,.nils] [xo 0 13,xo 3 14]] (.one [wu 16 [.nils,.nils,qC,qC,.nils,qC,qy] [xo 0 11,xo 5 12,wM 1 4 15]] (.alt (.one [wF 17 7 16] (.one [qg 8 17] .done)) .tru)))) .tru)) (.alt (.one [qb 14 (.mks 1 8 [qC] (qj 16) (qj 16)),wm (some 1) 3 11] (.alt (.one [qY 13 1 [qC] 0 [],wm (some 1) 3 11] (.one [wu 15 [.nils,qC,qC,.nils] [xo 0 13,xo 3 14]] (.one [wu 16 [.nils,.nils,qC,qC,.nils,qC,qy] [xo 0 11,xo 5 12,wM 1 4 15]] (.alt (.one [wF 17 7 16] (.one [qg 8 17] .done)) .tru)))) .tru)) .tru)))))) (xH [wW 18 3,qu 19 18,wW 20 3,qu 21 20,wq 22 21,xK 23 22 1,wB 24 3 19 23,qK 25 3 24,qX 9 [qF,.nils,.nils],qU 3 9 25] [qY 26 1 [qF] 0 [],xQ 27 9,qu 28 27,xk 29 1 16 26 28,qY 30 1 [qC] 0 [],xe 31,xk 32 1 8 30 31,wu 33 [.nils,.nils,qy,qC] [xo 0 29,xo 1 32],wF 34 4 33,qg 10 34] (wZ [yd 35,xw 36 9,qu 37 36,qg 38 10,xP 39 aK 35 37 38] (xm [yd 40,qV 41 40,qr 42 6 41,qu 43 42,xn 44 43] 44 [yd 45,qg 46 10,qV 47 46,x7 48 47,qu 49 48,qV 50 45,xQ 51 50,xw 52 51,xv 52 49]) [yd 53,qV 54 53,xQ 55 54,yd 57,qV 58 57,qr 59 5 58,yf 56 55,qu 60 59,qU 4 6 56,xb 59 60,qg 7 60]))⟩
theorem Es:af Tryz.prog jw=some vX:=by kernel_rfl
def mr:FK:=⟨22,yr,x8 [wF 2 1 0,xS] [qK 7 1 2,xe 8,wJ 9 ji 7 8,xn 10 9] 10 [qQ 4 (-1)] (wZ [qK 12 1 2,xe 13,qp 14 jw (xN 12 13 (qj 4000)),qg 11 14,wD 15 0 11,wD 16 1 11,qX 5 [.nils,qC,qC,.nils],qU 4 5 15,xZ 16] (wh [xQ 17 5,qu 18 17,wc 19 18 3] 19 [qQ 4 (-1)]) [yt 20,qb 21 (.bin .sub (qj 4000) (.t 20)),yp 21])⟩
theorem sf:af Tryz.prog ed=some mr:=by kernel_rfl
def mM:FK:=⟨15,[.t 6],xc [wK 6] [xe 7,qZ 8,wn 9 .leq 7 8,qg 10 9,xB 11 10 0,xB 12 10 2,qI 13 10 (qm .leq 11 (.t 12)),xA 14 10 13,xZ 14]⟩
theorem Bv:af Tryz.prog de=some mM:=by kernel_rfl
def ke:FK:=⟨21,[.t 6],wZ [wV 6] (wS [qZ 9,qb 10 (.rngS (.t 9))] 0 (qN [qb 11 (.nxtS (.t 10)),wD 12 0 11] (xR 12 wA) (.blk 1 (qe [wD 13 1 11,wD 14 2 11,qg 7 13,qg 8 14] (wh [xe 15,yd 16,qb 17 (.callv (.t 15) (xt 16)),xz 18,qb 19 (.beq false (.t 17) (.t 18))] 19 (wX (ye 20) 6 20)))))) [qQ 6 (-1)]⟩
theorem rq:af Tryz.prog fq=some ke:=by kernel_rfl
def kf:FK:=⟨8,yr,xc [xS] [qZ 5,xe 6,qp 7 fq (xN 5 6 wz),ye 4]⟩
theorem rf:af Tryz.prog fD=some kf:=by kernel_rfl
def iF:FK:=⟨19,yr,wZ [xS] (wS [qZ 6,wq 7 6,wV 8] 0 (qN [xd 9 8 7] (xR 9 wA) (wy 1 (qe (wX (yd 10) 5 10) (wh [xe 11,qZ 12,xp 13,wB 14 1 12 13,qu 15 14,qb 16 (yl .eql 11 (.t 15))] 16 (wX (xp 17) 4 17))) (wX (x9 18 8) 8 18)))) [qQ 4 (-1)]⟩
theorem od:af Tryz.prog ep=some iF:=by kernel_rfl
def fM:FK:=⟨9,yr,xc [xi] [qZ 5,xe 6,wJ 7 ep 5 6,qx 8 .geq 7 0,yd 4]⟩
theorem mB:af Tryz.prog dk=some fM:=by kernel_rfl
def nS:FK:=⟨9,[xJ],xc [yk] [qZ 3,qt 4 .lss 3 (.c (qf .i32 97)),qg 5 4,xy 6 5 0,qJ 7 5 (qm .gtr 6 (.c (qf .i32 122))),xX 8 5 7,yd 2]⟩
theorem yG:af Tryz.prog cU=some nS:=by kernel_rfl
def sk:FK:=⟨17,[xJ],xc [yk] [qZ 3,qb 4 (.len true (.t 3)),qp 5 de (xM 4 (qj 1) (qj 4)),xp 6,xB 7 6 0,qI 8 6 (xx fD 7 (.c (.fn (.func cU) []))),xD 9 6 .lss 8 0,xA 10 6 9,qg 11 10,qI 12 11 (.slA 9 1 (.c (.gp 1 0)) none none),xB 13 11 0,qI 14 11 (xx dk 12 (.t 13)),qI 15 11 (wt 14),xA 16 11 15,qg 2 16]⟩
theorem Bm:af Tryz.prog cx=some sk:=by kernel_rfl
def fb:FK:=⟨19,yr,wZ [xS] (wS [qZ 6,wq 7 6,wV 8] 0 (qN [xd 9 8 7] (xR 9 wA) (wy 1 (qe (wX (yd 10) 5 10) (wh [xe 11,qZ 12,xp 13,wB 14 1 12 13,qu 15 14,qb 16 (.callv (.t 11) (xt 15))] 16 (wX (xp 17) 4 17))) (wX (x9 18 8) 8 18)))) [qQ 4 (-1)]⟩
theorem lF:af Tryz.prog cM=some fb:=by kernel_rfl
def dY:FK:=⟨9,yr,xc [xi] [qZ 5,xe 6,wJ 7 cM 5 6,qx 8 .geq 7 0,yd 4]⟩
theorem jD:af Tryz.prog cf=some dY:=by kernel_rfl
def dV:FK:=⟨19,yr,wZ [xS] (wS [qZ 6,wq 7 6,wV 8] 0 (qN [xd 9 8 7] (xR 9 wA) (wy 1 (qe (wX (yd 10) 5 10) (wh [xe 11,qZ 12,xp 13,wB 14 5 12 13,qK 15 5 14,qb 16 (.callv (.t 11) (xt 15))] 16 (wX (xp 17) 4 17))) (wX (x9 18 8) 8 18)))) [qQ 4 (-1)]⟩
theorem jz:af Tryz.prog ce=some dV:=by kernel_rfl
def dp:FK:=⟨9,yr,xc [xi] [qZ 5,xe 6,wJ 7 ce 5 6,qx 8 .geq 7 0,yd 4]⟩
theorem iB:af Tryz.prog bN=some dp:=by kernel_rfl
def bn:FK:=⟨20,[xJ,.t 3,xq,.t 5],wZ [wV 2,wK 3,xi,wK 5] (qe [qZ 6] (.blk 0 (wQ (wY 8 6 1 7 8) 7 (.reg (wY 9 6 2 7 9)) (qo 7 (qA [qQ 2 1,qd 3 wz,xi,wK 5]) (wQ (wY 11 6 3 10 11) 10 (wP (wY 12 6 7 10 12) 10 (.reg (wY 13 6 8 10 13))) (qo 10 (qA [qQ 2 1,wK 3,xi,wK 5]) (xr 15 6 4 14 15 14 (qA [qQ 2 2,wK 3,xi,wK 5]) (xr 17 6 5 16 17 16 (qA [qQ 2 1,wK 3,qd 4 wz,qd 5 wz]) (wh (wY 19 6 6 18 19) 18 [qQ 2 1,wK 3,qd 4 wz,wK 5]))))))))) [qQ 2 (-1),wK 3,xi,wK 5]⟩
theorem yy:af Tryz.prog fQ=some bn:=by kernel_rfl
def rH:FK:=⟨5,[xJ],xc [yk] [qZ 3,qp 4 de (xM 3 yi (qj 255)),qg 2 4]⟩
theorem BB:af Tryz.prog iZ=some rH:=by kernel_rfl
def eM:FK:=⟨20,[xJ],wZ [wV 2] (.blk 0 (qB [qb 4 (.ld none (.c (.gp 2 0))),qZ 5,qb 6 (.lk 0 (.agg [qF,qC]) false (.t 4) (.t 5)),qb 7 (.fldv 1 none (.t 6)),yq 8 7 0,yd 3] 3 (qA [qb 9 (.ld none (.c (.gp 2 0))),qZ 10,qb 11 (.lk 0 (.agg [qF,qC]) false (.t 9) (.t 10)),qb 12 (.fldv 1 none (.t 11)),qg 2 12]) (wh [qZ 14,wc 15 14 11,qg 16 15,xy 17 16 0,qJ 18 16 (wR .eql 17 12),xX 19 16 18,qg 13 19] 13 [qQ 2 5]))) [qQ 2 6]⟩
theorem zq:af Tryz.prog kz=some eM:=by kernel_rfl
def jA:AK:=xH [wF 2 4 0,xS,wV 5,wK 6] [wV 7,wV 8] (.cut (.blk 0 (qB [wW 17 2,qu 18 17,wc 19 18 1,qg 16 19] 16 (wh [xQ 20 2,qu 21 20,xu 22 iZ 21,xn 23 22,qg 24 23,xI 25 24 2 2,xC 26 24 25,qJ 27 24 (yl .neq 26 (.c qF)),xX 28 24 27] 28 [xS,wV 5,wK 6]) (qB [wW 30 2,qu 31 30,wc 32 31 2,qg 29 32] 29 (wh [xw 33 2,qu 34 33,xu 35 cx 34,xn 36 35,qg 37 36,xI 38 37 1 2,xC 39 37 38,qJ 40 37 (wR .neq 39 0),xX 41 37 40] 41 [xS,wV 5,wK 6]) (qB [wW 43 2,qu 44 43,wc 45 44 13,qg 42 45] 42 (qe [qQ 8 3] (wh [xw 46 2,qu 47 46,xu 48 cx 47,xn 49 48,qg 50 49,xI 51 50 1 2,xC 52 50 51,qJ 53 50 (wR .neq 52 0),xX 54 50 53] 54 [xS,wV 5,wK 6])) (qB [qb 56 (.ld none (.c (.gp 2 0))),wW 57 2,qu 58 57,qb 59 (.lk 0 (.agg [qF,qC]) false (.t 56) (.t 58)),qb 60 (.fldv 1 none (.t 59)),yq 61 60 0,qg 55 61] 55 (.reg [qQ 7 2,qQ 8 2]) (qB [wW 63 2,qu 64 63,wc 65 64 11,qg 66 65,xI 67 66 0 2,xC 68 66 67,qJ 69 66 (wR .eql 68 12),xX 70 66 69,qg 62 70] 62 (.reg [qQ 7 1,qQ 8 1]) (qA [xS,wV 5,wK 6]))))))) (.cut (wh [wW 71 2,qu 72 71,xu 73 kz 72,qx 74 .lss 73 6,qg 75 74,wG 76 75 1 2,wE 77 75 76,xD 78 75 .neq 77 0,xB 79 75 78,xI 80 79 2 2,xC 81 79 80,qJ 82 79 (yl .neq 81 (.c qF)),qI 83 75 (qM 79 wz (.t 82)),xA 84 75 83,qg 85 84,xI 86 85 3 2,xC 87 85 86,qJ 88 85 (wb 87),xy 89 85 7,xy 90 85 8,qJ 91 85 (.call de (xO 88 89 90)),qJ 92 85 (wt 91),xX 93 85 92,qg 94 93,xy 95 94 1,qJ 96 94 (wR .lss 95 1),xX 97 94 96] 97 [xS,wV 5,wK 6]) (wZ [qQ 9 1,qQ 10 1] (wS [x7 98 2,qu 99 98,wq 100 99,wV 101] 1 (qN [xd 102 101 100] (xR 102 (.exit 1)) (wy 2 (qe [wB 103 4 99 101,yf 104 103,qX 12 [qC,qC,qF,.nils],qU 4 12 104] (x8 [yf 106 12,xe 107,xK 108 107 1,wJ 109 fT 106 108,qg 105 109,wD 110 0 105,wD 111 1 105,wD 112 2 105,qg 13 110,qg 14 111,qg 15 112] [qg 113 15,xn 114 113] 114 [xS,wV 5,wK 6] (yc [qg 115 9,qg 116 13,wn 117 .add 115 116,qg 9 117] [qg 118 10,qg 119 14,x9 120 119,qb 121 (.mx (.t 118) (.t 120)),qg 10 121]))) (wX (x9 122 101) 101 122)))) [qg 123 9,qg 124 10,qg 125 9,qx 126 .leq 125 30,yp 123,qg 5 124,xZ 126])))
def jK:FK:=⟨127,[xq,.t 5,.t 6],(AK.whole jA)⟩
theorem yB:af Tryz.prog fT=some jK:=by kernel_rfl
def mR:FK:=⟨13,[xJ],qe [wF 1 4 0,yk] (xc [yf 7 1,xY 8 fT 7 6,xZ 8,wD 9 0 6,wD 10 1 6,wD 11 2 6,qg 3 9,yp 10,qg 5 11] (wX (xp 12) 2 12))⟩
theorem uY:af Tryz.prog eU=some mR:=by kernel_rfl
def ja:FK:=⟨91,yr,qe [wF 2 5 0,xi] (qN [wW 12 2,qu 13 12,xu 14 fQ 13,qg 11 14,wD 15 0 11,wD 16 1 11,wD 17 2 11,wD 18 3 11,qg 5 15,xZ 16,qg 7 17,qg 8 18] (.blk 0 (wQ [xe 20,yq 21 20 4,qg 19 21] 19 (wP [xw 22 2,qu 23 22,wq 24 23,xp 25,wn 26 .neq 24 25,qg 19 26] 19 (wP [yt 27,qg 28 27,wG 29 28 1 2,wE 30 28 29,qI 31 28 (.call cx (xt 30)),qI 32 28 (wt 31),xA 33 28 32,qg 19 33] 19 (wP [yt 34,xn 35 34,qg 36 35,wG 37 36 1 2,wE 38 36 37,qI 39 36 (yl .neq 38 (.c qF)),xA 40 36 39,qg 19 40] 19 (wP [ye 41,xn 42 41,qg 43 42,wG 44 43 3 2,wE 45 43 44,qI 46 43 (wb 45),xD 47 43 .gtr 46 0,xA 48 43 47,qg 19 48] 19 (wP [yd 49,xn 50 49,qg 51 50,wG 52 51 4 2,wE 53 51 52,qI 54 51 (wb 53),xD 55 51 .gtr 54 0,xA 56 51 55,qg 19 56] 19 (.reg [wW 57 2,qu 58 57,wc 59 58 8,qg 60 59,wG 61 60 2 2,wE 62 60 61,qI 63 60 (qW 4 62 yi),wG 64 60 0 63,wE 65 60 64,xD 66 60 .neq 65 13,xA 67 60 66,qg 19 67])))))) (qo 19 (qA [xi]) .skip))) (xU (wS [xw 68 2,qu 69 68,wq 70 69,wV 71] 1 (qN [xd 72 71 70] (xR 72 (.exit 1)) (wy 2 (qe [wB 73 4 69 71,yf 74 73,qX 10 [qC,qC,qF,.nils],qU 4 10 74] (wh [yf 75 10,xu 76 eU 75,xn 77 76] 77 [xi])) (wX (x9 78 71) 71 78)))) [x7 79 2,qu 80 79,xe 81,x9 82 81,wJ 83 cJ 80 82,qg 84 83,wG 85 84 4 2,wE 86 84 85,xB 87 84 1,xD 88 84 .add 87 1,qI 89 84 (xx cJ 86 (.t 88)),xA 90 84 89,yp 90]))⟩
theorem rZ:af Tryz.prog jb=some ja:=by kernel_rfl
def mV:FK:=⟨8,[.t 3],xc [wF 2 5 0,wK 3] [qK 4 5 2,qu 5 1,wJ 6 jb 4 5,xn 7 6,ye 3]⟩
theorem vq:af Tryz.prog cA=some mV:=by kernel_rfl
def pm:FK:=⟨9,yr,xc [wF 3 1 1,xi] [qZ 5,qb 6 (.mkf (.func cA) (xt 3)),wJ 7 bN 5 6,xn 8 7,yd 4]⟩
theorem za:af Tryz.prog cJ=some pm:=by kernel_rfl
def uh:FK:=⟨31,[],wS [qZ 8,wq 9 8,wV 10] 0 (qN [xd 11 10 9] (xR 11 wA) (wy 1 (xH [wB 12 5 8 10,qK 13 5 12,qX 7 [qC,qF,.nils,.nils,.nils],qU 5 7 13] [xz 14,qK 15 5 7,xe 16,qb 17 (.callv (.t 14) (wH 15 (.t 16)))] (yc [x7 18 7,qu 19 18,xe 20,x9 21 20,xz 22,xP 23 gX 19 21 22] [qr 24 4 7,qu 25 24,xe 26,x9 27 26,xz 28,xP 29 gX 25 27 28])) (wX (x9 30 10) 10 30)))⟩
theorem CJ:af Tryz.prog gX=some uh:=by kernel_rfl
def no:FK:=⟨11,[],xH [wF 4 5 0] [qu 6 2,x9 7 6,xv 2 7] (.reg [qu 8 3,xe 9,qb 10 (.mx (.t 8) (.t 9)),xv 3 10])⟩
theorem vj:af Tryz.prog eS=some no:=by kernel_rfl
def ou:FK:=⟨20,[.c 2 none,.c 3 none],wZ [wF 1 1 0,qX 2 [qC],qX 3 [qC]] (wS [wW 6 1,qu 7 6,wq 8 7,wV 9] 0 (qN [xd 10 9 8] (xR 10 wA) (wy 1 (yc [wB 11 3 7 9,qK 12 3 11,qX 5 [qF,.nils,.nils],qU 3 5 12] [xw 13 5,qu 14 13,qb 15 (.mkf (.func eS) (wH 2 (.t 3))),qp 16 gX (xM 14 (qj 1) (.t 15))]) (wX (x9 17 9) 9 17)))) [qu 18 2,qu 19 3,xv 2 18,xb 3 19,xv 3 19]⟩
theorem Ae:af Tryz.prog kY=some ou:=by kernel_rfl
def iD:FK:=⟨6,[xJ],xc [yk] [qZ 3,xu 4 cx 3,xn 5 4,xp 2]⟩
theorem oe:af Tryz.prog bs=some iD:=by kernel_rfl
def kb:FK:=⟨48,[xJ],x8 [wF 1 1 0,yk] [wW 7 1,qu 8 7,wq 9 8,qp 10 de (xM 9 (qj 1) (qj 4)),xn 11 10] 11 [yk] (.seq (wS [wW 12 1,qu 13 12,wq 14 13,wV 15] 0 (qN [xd 16 15 14] (xR 16 wA) (wy 1 (qe [wB 17 3 13 15,qK 18 3 17,qX 4 [qF,.nils,.nils],qU 3 4 18] (wh [wW 19 4,qu 20 19,xu 21 cx 20,xn 22 21,qg 23 22,xI 24 23 1 4,xC 25 23 24,qJ 26 23 (wb 25),qJ 27 23 (wR .gtr 26 3),xX 28 23 27,qg 29 28,xI 30 29 1 4,xC 31 29 30,qJ 32 29 (xx cf 31 (.c (.fn (.func bs) []))),xX 33 29 32,qg 34 33,xI 35 34 2 4,xC 36 34 35,qJ 37 34 (xx cJ 36 (qj 1)),qJ 38 34 (wt 37),xX 39 34 38] 39 [yk])) (wX (x9 40 15) 15 40)))) (xc [qK 42 1 1,xu 43 kY 42,qg 41 43,wD 44 0 41,wD 45 1 41,qg 5 44,xZ 45] [xp 46,qx 47 .leq 46 40,qg 2 47]))⟩
theorem rm:af Tryz.prog fv=some kb:=by kernel_rfl
def eE:FK:=⟨19,yr,wZ [xS] (wS [qZ 6,wq 7 6,wV 8] 0 (qN [xd 9 8 7] (xR 9 wA) (wy 1 (qe (wX (yd 10) 5 10) (wh [xe 11,qZ 12,xp 13,wB 14 3 12 13,qK 15 3 14,qb 16 (.callv (.t 11) (xt 15))] 16 (wX (xp 17) 4 17))) (wX (x9 18 8) 8 18)))) [qQ 4 (-1)]⟩
theorem lz:af Tryz.prog cI=some eE:=by kernel_rfl
def ru:FK:=⟨8,[.t 3],xc [wF 2 3 0,wK 3] [wW 4 2,qu 5 4,qu 6 1,qb 7 (yl .eql 5 (.t 6)),ye 3]⟩
theorem Bh:af Tryz.prog fP=some ru:=by kernel_rfl
def vY:FK:=⟨9,yr,xc [wF 2 1 0,wF 3 1 1,xS] [wW 5 2,qu 6 5,qb 7 (.mkf (.func fP) (xt 3)),wJ 8 cI 6 7,yd 4]⟩
theorem ET:af Tryz.prog jp=some vY:=by kernel_rfl
def fw:FK:=⟨13,[],xm [qZ 4,qV 5 4,xw 6 5,qu 7 6,wc 8 7 0] 8 [qZ 9,xe 10,qV 11 9,xw 12 11,xv 12 10]⟩
theorem rj:af Tryz.prog cu=some fw:=by kernel_rfl
def gE:FK:=⟨7,[xJ],xc [xF 2 .nilp] [qb 3 .mkm,qZ 4,wu 5 [.nilm,.nilp] [xo 0 3,xo 1 4],wF 6 2 5,yt 2]⟩
theorem uB:af Tryz.prog cW=some gE:=by kernel_rfl
def tx:FK:=⟨20,[],xH [wF 2 4 0] [xe 6,yf 7 2,qb 8 (.callv (.t 6) (xt 7))] (wS [x7 9 2,qu 10 9,wq 11 10,wV 12] 0 (qN [xd 13 12 11] (xR 13 wA) (wy 1 (yc [wB 14 4 10 12,yf 15 14,qX 5 [qC,qC,qF,.nils],qU 4 5 15] [yf 16 5,xe 17,wJ 18 kn 16 17]) (wX (x9 19 12) 12 19))))⟩
theorem CT:af Tryz.prog kn=some tx:=by kernel_rfl
def lM:FK:=⟨25,[xq,.t 5],wZ [xS,wK 5] (wa 0 (xE [qZ 8,qb 9 (.pnil 0 true (.t 8))] 9 wA 1 (qe [qZ 15,qV 16 15,wW 17 16,qu 18 17,xe 19,qb 20 (.lk 1 qC true (.t 18) (.t 19)),qg 14 20,wD 21 0 14,wD 22 1 14,xZ 21,qg 7 22] (wh [ye 23] 23 [yt 24,yp 24,qd 5 wz])) [qZ 10,qV 11 10,xQ 12 11,qu 13 12,qg 0 13])) [xS,wK 5]⟩
theorem ur:af Tryz.prog ca=some lM:=by kernel_rfl
def iG:FK:=⟨58,[],xH [wF 3 4 0] [wW 7 3,qu 8 7] (.blk 0 (xr 10 8 2 9 10 9 (qe [qu 12 1,xw 13 3,qu 14 13,wJ 15 ca 12 14,qg 11 15,wD 16 0 11,wD 17 1 11,yp 16,qg 5 17] (xm [xp 18,xn 19 18] 19 [qu 20 2,yg 21 20 3])) (qO (wY 23 8 13 22 23) 22 (qe [xw 35 3,qu 24 2,qV 25 24,wW 26 25,wW 27 26,qu 28 27,qu 29 2,qV 30 29,xQ 31 30,qu 32 31,qb 33 (.slS 3 (.t 28) none (some (.t 32))),wu 34 yh [xo 0 33],qu 36 35,wJ 37 jp 34 36,xZ 37] (qB [yt 38,qx 39 .lss 38 0] 39 (.reg [qu 40 2,yg 41 40 4]) (xm [yt 47,x7 52 3,qu 42 2,qV 43 42,wW 44 43,wW 45 44,qu 46 45,wB 48 3 46 47,xQ 49 48,qu 50 49,wq 51 50,qu 53 52,wq 54 53,wn 55 .neq 51 54] 55 [qu 56 2,yg 57 56 5]))))))⟩
theorem nY:af Tryz.prog bP=some iG:=by kernel_rfl
def fe:FK:=⟨9,[],yc [wF 3 1 0,wF 4 4 1,wF 5 1 2] [yf 6 4,qb 7 (.mkf (.func bP) (wH 5 (.t 3))),wJ 8 kn 6 7]⟩
theorem rp:af Tryz.prog dv=some fe:=by kernel_rfl
def eL:AK:=wS [xe 14,wq 15 14,wV 16] 0 (qN [xd 17 16 15] (xR 17 wA) (wy 1 (qN [wB 18 5 14 16,qK 19 5 18,qX 7 [qC,qF,.nils,.nils,.nils],qU 5 7 19] (wS [xw 20 7,qu 21 20,wq 22 21,wV 23] 2 (qN [xd 24 23 22] (xR 24 (.exit 2)) (wy 3 (yc [wB 25 4 21 23,yf 26 25,qX 9 [qC,qC,qF,.nils],qU 4 9 26] [qZ 27,yf 28 9,xz 29,xP 30 dv 27 28 29]) (wX (x9 31 23) 23 31)))) (.cut (qe [wW 32 7,qu 33 32] (.blk 4 (xr 35 33 1 34 35 34 (wd (qe [xz 37,qV 38 37,wW 39 38,xQ 41 7,qu 40 39,qu 42 41,qb 43 (.lk 1 qC true (.t 40) (.t 42)),qg 36 43,wD 44 0 36,wD 45 1 36,qg 10 44,qg 11 45] (xm [qg 46 11] 46 [qZ 47,yg 48 47 2])) [xz 49,qV 50 49,wW 51 50,xQ 53 7,qu 52 51,qu 54 53,qD (.mup 1 (.t 52) (.t 54) yi)]) (qO (wY 56 33 2 55 56) 55 (qe [xz 58,xQ 59 7,qu 60 59,wJ 61 ca 58 60,qg 57 61,wD 62 0 57,wD 63 1 57,qg 12 62,qg 13 63] (xm [qg 64 13,xn 65 64] 65 [qZ 66,yg 67 66 3])))))) (qO [wW 68 7,qu 69 68,wc 70 69 5,qg 71 70,xI 72 71 0 7,xC 73 71 72,qJ 74 71 (wR .eql 73 6),xX 75 71 74] 75 (yc [qZ 76,x7 77 7,xz 79,qu 78 77,xu 80 cW 79,xb 77 78,xP 81 bz 76 78 80] [qZ 82,qr 83 4 7,xz 85,qu 84 83,xu 86 cW 85,xb 83 84,xP 87 bz 82 84 86])))) (wX (x9 88 16) 16 88)))
def eG:FK:=⟨89,[],(AK.whole eL)⟩
theorem oV:af Tryz.prog bz=some eG:=by kernel_rfl
def fx:AK:=x8 [wF 1 1 0,wV 2] [qK 11 1 1,xu 12 fv 11,xn 13 12] 13 [qQ 2 1] (wZ [qK 14 1 1,wu 15 [.nils,qC,qC] [xo 0 14],wF 16 3 15,qg 3 16] (wS [wW 17 1,qu 18 17,wq 19 18,wV 20] 0 (qN [xd 21 20 19] (xR 21 wA) (wy 1 (xH [qg 22 20,wB 23 3 18 20,qK 24 3 23,qX 5 [qF,.nils,.nils],yp 22,qU 3 5 24] [qg 25 3,qg 26 4,qV 27 25,xQ 28 27,xv 28 26] (.cut (xm [qK 29 1 1,wW 30 5,qu 31 30,wJ 32 jp 29 31,qg 33 4,xd 34 32 33] 34 [qg 35 3,yg 36 35 2]) (qN (wX (qp 37 cW [.c .nilp]) 6 37) (wS [xQ 38 5,qu 39 38,wq 40 39,wV 41] 2 (qN [xd 42 41 40] (xR 42 (.exit 2)) (wy 3 (qN [wB 43 1 39 41,qu 44 43,qg 8 44] (qe [yt 46,qV 47 46,wW 48 47,qu 49 48,yd 50,qb 51 (.lk 1 qC true (.t 49) (.t 50)),qg 45 51,wD 52 0 45,wD 53 1 45,qg 9 52,qg 10 53] (xm [qg 54 10] 54 [qg 55 3,yg 56 55 2])) (.reg [yt 57,qV 58 57,wW 59 58,qu 60 59,yd 61,qD (.mup 1 (.t 60) (.t 61) yi)])) (wX (x9 62 41) 41 62)))) (.reg [qg 63 3,xw 64 5,qu 65 64,yt 66,xP 67 bz 63 65 66])))) (wX (x9 68 20) 20 68)))) [qg 69 3,qV 70 69,xw 71 70,qu 72 71,qg 2 72])
def fG:FK:=⟨73,[xJ],(AK.whole fx)⟩
theorem rk:af Tryz.prog fg=some fG:=by kernel_rfl
def vO:FK:=⟨6,[xJ],xc [wF 1 1 0,yk] [qK 3 1 1,xu 4 fg 3,wc 5 4 0,xp 2]⟩
theorem DN:af Tryz.prog pu=some vO:=by kernel_rfl
def gT:FK:=⟨19,yr,wZ [xS] (wS [qZ 6,wq 7 6,wV 8] 0 (qN [xd 9 8 7] (xR 9 wA) (wy 1 (qe (wX (yd 10) 5 10) (wh [xe 11,qZ 12,xp 13,wB 14 1 12 13,qu 15 14,qb 16 (.callv (.t 11) (xt 15))] 16 (wX (xp 17) 4 17))) (wX (x9 18 8) 8 18)))) [qQ 4 (-1)]⟩
theorem nv:af Tryz.prog dJ=some gT:=by kernel_rfl
def fa:FK:=⟨9,yr,xc [xi] [qZ 5,xe 6,wJ 7 dJ 5 6,qx 8 .geq 7 0,yd 4]⟩
theorem lE:af Tryz.prog cQ=some fa:=by kernel_rfl
def ng:FK:=⟨6,[xJ],xc [yk] [qZ 3,xu 4 iZ 3,xn 5 4,xp 2]⟩
theorem vf:af Tryz.prog cC=some ng:=by kernel_rfl
def kX:FK:=⟨14,yr,xc [xi] [qZ 5,wq 6 5,xe 7,wn 8 .eql 6 7,yd 9,xB 10 9 0,qI 11 9 (xx cQ 10 (.c (.fn (.func cC) []))),qI 12 9 (wt 11),xA 13 9 12,yp 13]⟩
theorem Az:af Tryz.prog kC=some kX:=by kernel_rfl
def rI:FK:=⟨21,yr,xc [wF 2 1 0,xi] [qK 5 1 2,xu 6 pu 5,yt 7,xB 8 7 1,wG 9 7 0 2,wE 10 7 9,wG 11 7 0 2,wE 12 7 11,qI 13 7 (wb 12),xD 14 7 .sub 13 1,qI 15 7 (qW 3 10 (.t 14)),wG 16 7 1 15,wE 17 7 16,qI 18 7 (wb 17),qI 19 7 (xx kC 8 (.t 18)),xA 20 7 19,yp 20]⟩
theorem Bx:af Tryz.prog jf=some rI:=by kernel_rfl
def lD:FK:=⟨8,[xJ],wZ [xF 2 .nils] (wh [qZ 3,qb 4 (.snil false (.t 3))] 4 [xF 2 .nils]) [qY 5 1 [qC] 0 [],qZ 6,xk 7 1 8 5 6,ye 2]⟩
theorem sL:af Tryz.prog dN=some lD:=by kernel_rfl
def fp:FK:=⟨19,[],wd (xm [qZ 2,qV 3 2,xw 4 3,qZ 6,qV 7 6,xQ 8 7,qu 5 4,qu 9 8,wn 10 .eql 5 9] 10 [qp 11 lS [qj 3]]) [qZ 12,qV 13 12,xw 14 13,qu 15 14,x9 16 15,qV 17 12,xw 18 17,xv 18 16]⟩
theorem rt:af Tryz.prog dz=some fp:=by kernel_rfl
def ni:FK:=⟨28,yr,wZ [xF 4 .nilp] (wa 0 (xE [qZ 7,qV 8 7,xQ 9 8,qu 10 9,qb 11 (.pnil 0 true (.t 10))] 11 wA 1 (qe [qZ 17,qV 18 17,wW 19 18,qu 20 19,xe 21,qb 22 (.lk 1 qC true (.t 20) (.t 21)),qg 16 22,wD 23 0 16,wD 24 1 16,qg 5 23,xZ 24] (wh [yt 25] 25 (wX (qZ 26) 4 26))) [qZ 12,qV 13 12,xQ 14 13,qu 15 14,qg 0 15])) (wX (qZ 27) 4 27)⟩
theorem uS:af Tryz.prog eO=some ni:=by kernel_rfl
def pw:FK:=⟨4,[xJ],wZ [wV 2] (wh [qZ 3] 3 [qQ 2 1]) [wV 2]⟩
theorem Ar:af Tryz.prog lv=some pw:=by kernel_rfl
def nL:FK:=⟨70,[.t 6,.t 7],qe [wV 6,wK 7] (wZ [xF 8 (.fn (.func lv) [])] (qe [qZ 9] (.blk 0 (xr 11 9 3 10 11 10 (qA [xe 12,xz 13,wn 14 .add 12 13,qx 15 .rem 14 256,xZ 15,qd 7 wz]) (xr 17 9 4 16 17 16 (qA [xe 18,xz 19,wn 20 .sub 18 19,wL 21 20 256,qx 22 .rem 21 256,xZ 22,qd 7 wz]) (xr 24 9 5 23 24 23 (qA [xe 25,xz 26,wn 27 .mul 25 26,qx 28 .rem 27 256,xZ 28,qd 7 wz]) (wQ (wY 30 9 6 29 30) 29 (.reg (wY 31 9 7 29 31)) (qo 29 (.seq (wh [xz 32,wc 33 32 0] 33 [wV 6,wK 7]) (xU (wh [qZ 34,wc 35 34 6] 35 [xe 36,xz 37,wn 38 .quo 36 37,xZ 38,qd 7 wz]) [xe 39,xz 40,wn 41 .rem 39 40,xZ 41,qd 7 wz])) (xr 43 9 8 42 43 42 (qA [yd 44,xe 45,xz 46,xd 47 45 46,qb 48 (.callv (.t 44) (xt 47)),xZ 48,qd 7 wz]) (xr 50 9 9 49 50 49 (qA [yd 51,xe 52,xz 53,wn 54 .eql 52 53,qb 55 (.callv (.t 51) (xt 54)),xZ 55,qd 7 wz]) (wh (wY 57 9 10 56 57) 56 [yd 58,xe 59,qx 60 .neq 59 0,qg 61 60,xB 62 61 2,xD 63 61 .neq 62 0,xA 64 61 63,qb 65 (.callv (.t 58) (xt 64)),xZ 65,qd 7 wz])))))))))) [yd 66,xe 67,wc 68 67 0,qb 69 (.callv (.t 66) (xt 68)),xZ 69,qd 7 wz])⟩
theorem uo:af Tryz.prog gM=some nL:=by kernel_rfl
def ft:FK:=⟨13,yr,wZ [xF 4 .nilp] (xm [xe 5,qx 6 .geq 5 16] 6 [qp 7 lS [qj 2]]) [qZ 8,xe 9,qV 10 8,qr 11 4 10,qb 12 (.idxA 16 1 (.t 11) (.t 9)),yp 12]⟩
theorem rb:af Tryz.prog du=some ft:=by kernel_rfl
def an:FK:=⟨126,[.t 6],qN [wF 4 4 1,wV 6] (qe [wW 16 4,qu 17 16] (.blk 0 (xr 19 17 1 18 19 18 (qA [xQ 20 4,qu 21 20,xZ 21]) (xr 23 17 2 22 23 22 (qA [xz 24,xw 25 4,xw 31 4,qu 26 25,qu 32 31,wJ 27 eO 24 26,xb 31 32,qV 28 27,wW 29 28,qu 30 29,qb 33 (.lk 1 qC false (.t 30) (.t 32)),xZ 33]) (xr 35 17 10 34 35 34 (.seq (wh [qZ 36,x7 37 4,qu 38 37,ww 39 4 38 yi,yf 40 39,xz 41,xG 42 (xO 36 40 41),wc 43 42 0] 43 [wV 6]) (xc [qZ 45,x7 46 4,qu 47 46,ww 48 4 47 (qj 1),yf 49 48,xz 50,xG 51 (xO 45 49 50),qp 52 gM [qj 10,qj 1,.t 51],qg 44 52,wD 53 0 44,wD 54 1 44,qg 7 53,qg 8 54] (wX (ye 55) 6 55))) (xr 57 17 12 56 57 56 (qA [qZ 58,qZ 59,x7 60 4,qu 61 60,ww 62 4 61 yi,yf 63 62,xz 64,xG 65 (xO 59 63 64),wJ 66 du 58 65,qV 67 66,qu 68 67,xZ 68]) (qO (wY 70 17 13 69 70) 69 (wZ [xF 9 .nils] (wS [x7 71 4,qu 72 71,wq 73 72,wV 74] 1 (qN [xd 75 74 73] (xR 75 (.exit 1)) (wy 2 (yc [wB 76 4 72 74,yf 77 76,qX 11 [qC,qC,qF,.nils],qU 4 11 77] [qg 78 9,qZ 79,yf 80 11,xz 81,xG 82 (xO 79 80 81),qY 83 1 [qC] 1 [xo 0 82],xk 84 1 8 78 83,qg 9 84]) (wX (x9 85 74) 74 85)))) [qZ 86,qZ 87,qV 88 87,wW 89 88,xw 91 4,qg 94 9,qK 90 1 89,qu 92 91,wJ 93 jp 90 92,xP 95 dt 86 93 94,xZ 95])))))))) (qN [qZ 96,x7 97 4,qu 98 97,ww 99 4 98 yi,yf 100 99,xz 101,xG 102 (xO 96 100 101),qg 12 102,wV 13] (xm [x7 103 4,qu 104 103,wq 105 104,yq 106 105 1] 106 [qZ 107,x7 108 4,qu 109 108,ww 110 4 109 (qj 1),yf 111 110,xz 112,xG 113 (xO 107 111 112),qg 13 113]) (wZ [wW 115 4,qu 116 115,qg 117 12,qg 118 13,xP 119 gM 116 117 118,qg 114 119,wD 120 0 114,wD 121 1 114,qg 14 120,qg 15 121] (xm [qg 122 15,xn 123 122] 123 [qp 124 lS [qj 1]]) (wX (qg 125 14) 6 125)))⟩
theorem ka:af Tryz.prog bL=some an:=by kernel_rfl
def ut:FK:=⟨7,[xJ],xc [xF 2 .nilp] [qb 3 .mkm,qZ 4,wu 5 [.nilm,.nilp] [xo 0 3,xo 1 4],wF 6 2 5,yt 2]⟩
theorem CQ:af Tryz.prog gO=some ut:=by kernel_rfl
def fy:FK:=⟨109,[.t 6],qN [wF 4 5 1,xF 6 .nilp] (qO [wW 10 4,qu 11 10,wc 12 11 6] 12 (xU (wa 0 (wQ [qZ 13,xw 14 4,qu 15 14,ww 16 4 15 yi,yf 17 16,xz 18,xG 19 (xO 13 17 18),qx 20 .neq 19 0] 20 wA (.blk 1 (wd (qe [qZ 21,x7 22 4,xz 24,qu 23 22,xu 25 gO 24,xb 22 23,xP 26 bl 21 23 25,qg 7 26] (wh [ye 27,qb 28 (.pnil 0 true (.t 27))] 28 (wX (ye 29) 6 29))) [qZ 30,xu 31 dz 30])))) [xF 6 .nilp])) (wZ [qZ 32,xw 33 4,qu 34 33,ww 35 4 34 yi,yf 36 35,xz 37,xG 38 (xO 32 36 37),qg 8 38] (qe [wW 39 4,qu 40 39] (.blk 2 (xr 42 40 1 41 42 41 (.reg [xz 43,qV 44 43,wW 45 44,xQ 47 4,yd 49,qu 46 45,qu 48 47,qD (.mup 1 (.t 46) (.t 48) (.t 49))]) (xr 51 40 2 50 51 50 (.reg [xz 52,xQ 53 4,xQ 59 4,yd 61,qu 54 53,qu 60 59,wJ 55 eO 52 54,xb 59 60,qV 56 55,wW 57 56,qu 58 57,qD (.mup 1 (.t 58) (.t 60) (.t 61))]) (xr 63 40 3 62 63 62 (.reg [qZ 64,qZ 65,qV 66 65,x7 67 66,qu 68 67,yd 69,qY 70 1 [qC] 1 [xo 0 69],xk 71 1 8 68 70,qV 72 64,x7 73 72,xv 73 71]) (xr 75 40 4 74 75 74 (yc [qZ 76,xw 77 4,qu 78 77,ww 79 4 78 (qj 1),yf 80 79,xz 81,xG 82 (xO 76 80 81),qg 9 82] [qZ 83,yd 84,wJ 85 du 83 84,qg 86 9,qV 87 85,xv 87 86]) (xr 89 40 5 88 89 88 (xU (wh [yd 90,qx 91 .neq 90 0] 91 [qZ 92,x7 93 4,xz 95,qu 94 93,xu 96 gO 95,xb 93 94,xP 97 bl 92 94 96,xZ 97]) [qZ 98,qr 99 4 4,xz 101,qu 100 99,xu 102 gO 101,xb 99 100,xP 103 bl 98 100 102,xZ 103]) (wh (wY 105 40 7 104 105) 104 [yd 106,wu 107 [qC] [xo 0 106],wF 108 1 107,xZ 108])))))))) [xF 6 .nilp])⟩
theorem kh:af Tryz.prog fh=some fy:=by kernel_rfl
def jx:FK:=⟨26,[.t 6],wZ [xF 6 .nilp] (wS [xe 10,wq 11 10,wV 12] 0 (qN [xd 13 12 11] (xR 13 wA) (wy 1 (xH [wB 14 5 10 12,qK 15 5 14,qX 8 [qC,qF,.nils,.nils,.nils],qU 5 8 15] [qZ 16,xu 17 dz 16] (qe [qZ 18,qK 19 5 8,xz 20,xP 21 fh 18 19 20,qg 9 21] (wh [qg 22 9,qb 23 (.pnil 0 true (.t 22))] 23 (wX (qg 24 9) 6 24)))) (wX (x9 25 12) 12 25)))) [xF 6 .nilp]⟩
theorem ow:af Tryz.prog bl=some jx:=by kernel_rfl
def jY:FK:=⟨57,[.t 6],qe [wV 6] (qN [qb 11 .mkm,wu 12 [.nilm,.nilp] [xo 0 11],wF 13 2 12,qg 7 13] (wS [qZ 14,qV 15 14,wW 16 15,wW 17 16,qu 18 17,xe 19,wB 20 3 18 19,xQ 21 20,qu 22 21,wq 23 22,wV 24] 0 (qN [xd 25 24 23] (xR 25 wA) (wy 1 (yc [qg 26 24,wB 27 1 22 24,qu 28 27,qg 8 26,qg 9 28] [ye 29,qV 30 29,wW 31 30,qg 33 9,xz 34,yd 35,wB 36 1 34 35,qu 32 31,qu 37 36,qD (.mup 1 (.t 32) (.t 33) (.t 37))]) (wX (x9 38 24) 24 38)))) (xU (qe [qZ 39,qZ 40,qV 41 40,wW 42 41,wW 43 42,qu 44 43,xe 45,wB 46 3 44 45,xw 47 46,qu 48 47,ye 49,xP 50 bl 39 48 49,qg 10 50] (wh [qg 51 10,qb 52 (.pnil 0 true (.t 51))] 52 [qg 53 10,qV 54 53,wW 55 54,qu 56 55,xZ 56])) [wV 6]))⟩
theorem ro:af Tryz.prog dt=some jY:=by kernel_rfl
def jZ:FK:=⟨12,[],.reg [qu 4 0,wW 5 1,qu 6 5,wq 7 6,xK 8 7 1,qu 9 2,xP 10 dt 4 8 9,xw 11 3,xv 11 10]⟩
theorem ri:af Tryz.prog dx=some jZ:=by kernel_rfl
def gA:AK:=xH [wF 3 1 0,wF 4 1 1,qX 6 [.nils,qC,qC,.nils],wV 7] [qK 10 1 3,xz 11,wu 12 [.nils,qC,qC,.nils,qC,qC,qC,qC,qC,qC,qC,qC,qC,qC,qC,qC,qC,qC,qC,qC] [xo 0 10,xo 1 11],wF 13 20 12,qX 8 [.nilp],xv 8 13] (qe [qX 9 [.nils,qC,qC,.nils]] (.cut (.reg [qb 14 (.mkf (.func dx) [.t 8,.t 3,.t 4,.t 9]),xu 15 rv 14,xQ 16 9,xv 16 15]) (xc [qu 17 8,qV 18 17,x7 19 18,qu 20 19,wW 26 9,qu 21 8,qV 22 21,qr 23 4 22,qb 24 (.slA 16 1 (.t 23) none none),xu 25 dN 24,xb 8 17,xb 19 20,xv 26 20,x7 27 9,xv 27 25] [yf 28 9,qu 29 8,qV 30 29,xw 31 30,qu 32 31,qU 4 6 28,xb 8 29,xb 31 32,qg 7 32])))
def hZ:FK:=⟨33,[.c 6 xV,.t 7],(AK.whole gA)⟩
theorem ug:af Tryz.prog dd=some hZ:=by kernel_rfl
def my:FK:=⟨21,yr,x8 [wF 2 1 0,xS] [qK 7 1 2,xe 8,wJ 9 jf 7 8,xn 10 9] 10 [qQ 4 (-1)] (wZ [qK 12 1 2,xe 13,qp 14 dd (xN 12 13 (qj 4000)),qg 11 14,wD 15 0 11,wD 16 1 11,qX 5 [.nils,qC,qC,.nils],qU 4 5 15,xZ 16] (wh [xQ 17 5,qu 18 17,wc 19 18 3] 19 [qQ 4 (-1)]) (wX (yt 20) 4 20))⟩
theorem rG:af Tryz.prog fO=some my:=by kernel_rfl
def iy:FK:=⟨28,[.c 6 xV,.t 7],x8 [wF 3 1 0,qX 6 [.nils,qC,qC,.nils],wK 7] [qK 10 1 3,xe 11,wJ 12 ji 10 11,xn 13 12,qg 14 13,xy 15 14 2,qJ 16 14 (ya (xM 15 yi (qj 4000))),qJ 17 14 (wt 16),xX 18 14 17] 18 [wu 19 [.nils,qC,qC,.nils] [],qU 4 6 19,wK 7] (xc [qK 21 1 3,xe 22,xz 23,xP 24 jw 21 22 23,qg 20 24,wD 25 0 20,wD 26 1 20,qX 8 [.nils,qC,qC,.nils],qU 4 8 25,qg 9 26] [yf 27 8,qU 4 6 27,qd 7 wz])⟩
theorem lX:af Tryz.prog bH=some iy:=by kernel_rfl
def gP:FK:=⟨28,[.c 6 xV,.t 7],x8 [wF 3 1 0,qX 6 [.nils,qC,qC,.nils],wK 7] [qK 10 1 3,xe 11,wJ 12 jf 10 11,xn 13 12,qg 14 13,xy 15 14 2,qJ 16 14 (.call de (xM 15 yi (qj 4000))),qJ 17 14 (wt 16),xX 18 14 17] 18 [wu 19 [.nils,qC,qC,.nils] [],qU 4 6 19,wK 7] (xc [qK 21 1 3,xe 22,xz 23,xP 24 dd 21 22 23,qg 20 24,wD 25 0 20,wD 26 1 20,qX 8 [.nils,qC,qC,.nils],qU 4 8 25,qg 9 26] [yf 27 8,qU 4 6 27,qd 7 wz])⟩
theorem lO:af Tryz.prog aT=some gP:=by kernel_rfl
def pc:FK:=⟨11,[xJ],wZ [xF 2 .nilp] (xm [qZ 3,wq 4 3,yq 5 4 2000] 5 [qZ 6,qb 7 (.slS 1 (.t 6) none (some (qj 2000))),ye 0]) [qZ 8,wu 9 [.nils,qC] [xo 0 8],wF 10 2 9,qg 2 10]⟩
theorem zG:af Tryz.prog lm=some pc:=by kernel_rfl
def ey:FK:=⟨99,yr,qe [xS] (x8 [qZ 7,qZ 8,qV 9 8,xQ 10 9,qu 11 10,x9 12 11,qV 13 7,xQ 14 13,xv 14 12] [xe 15,qx 16 .lss 15 1,qg 17 16,xy 18 17 0,qJ 19 17 (qw 18),xI 20 17 0 19,xC 21 17 20,qJ 22 17 (wb 21),qJ 23 17 (wR .eql 22 0),xX 24 17 23] 24 [xS] (x8 [qZ 25,qV 26 25,xQ 27 26,qu 28 27,xK 29 28 1,qg 5 29] [xp 30,qZ 31,qV 32 31,wW 33 32,qu 34 33,wq 35 34,xd 36 30 35] 36 [qZ 37,qV 38 37,wW 39 38,qu 40 39,xp 41,wB 42 1 40 41,qu 43 42,qb 44 (.conv .i64 (.t 43)),xe 45,wn 46 .rem 44 45,yp 46] (qe [qZ 47,qV 48 47,wW 49 48,xp 51,qZ 52,qV 53 52,wW 54 53,qZ 62,qV 63 62,wW 64 63,xp 66,qx 67 .mul 66 7,wL 68 67 3,qZ 69,qV 70 69,wW 71 70,xp 80,qx 81 .mul 80 29,xp 83,qZ 84,qV 85 84,wW 86 85,qu 50 49,qu 55 54,wq 56 55,wn 57 .rem 51 56,wB 58 1 50 57,qu 59 58,qb 60 (.conv .i64 (.t 59)),qx 61 .mul 60 131,qu 65 64,qu 72 71,wq 73 72,wn 74 .rem 68 73,wB 75 1 65 74,qu 76 75,qb 77 (.conv .i64 (.t 76)),qx 78 .mul 77 1117,wn 79 .add 61 78,wn 82 .add 79 81,qu 87 86,wq 88 87,wn 89 .quo 83 88,qx 90 .mul 89 53,wn 91 .add 82 90,xZ 91] (xc [yt 92,yt 93,qx 94 .quo 93 64,wn 95 .xor 92 94,xZ 95] [yt 96,xe 97,wn 98 .rem 96 97,yp 98]))))⟩
theorem uF:af Tryz.prog aS=some ey:=by kernel_rfl
def iK:FK:=⟨12,yr,xc [xS] [xe 5,qZ 6,xe 7,wq 8 7,yj 9 6 (.t 8),wB 10 1 5 9,qu 11 10,yp 11]⟩
theorem nk:af Tryz.prog cz=some iK:=by kernel_rfl
def jH:FK:=⟨12,yr,xc [xF 4 qF] [xe 5,qZ 6,xe 7,wq 8 7,yj 9 6 (.t 8),wB 10 1 5 9,qu 11 10,yp 11]⟩
theorem nU:af Tryz.prog cT=some jH:=by kernel_rfl
def fJ:FK:=⟨21,[.c 4 xV],wZ [qX 4 [qC,qC,qF,.nils]] (wh [xe 5,wq 6 5,wc 7 6 0,ye 8,xy 9 8 0,qJ 10 8 (xx aS 9 (qj 3)),qJ 11 8 (wR .eql 10 0),xX 12 8 11] 12 [qZ 13,qY 14 1 [qC] 10 [yn 0,xg 1 1,xg 2 2,xg 3 3,xg 4 5,xg 5 7,xg 6 15,xg 7 16,xg 8 100,xg 9 255],xa 15 13 14,wu 16 [qC,qC,qF,.nils] [yn 1,xo 1 15],qU 4 4 16]) [qZ 17,xe 18,xL 19 17 18,wu 20 [qC,qC,qF,.nils] [yn 2,xo 2 19],qU 4 4 20]⟩
theorem rP:af Tryz.prog dj=some fJ:=by kernel_rfl
def ec:FK:=⟨47,[.c 6 xV],x8 [qX 6 [qC,qC,qF,.nils]] [xz 8,qx 9 .lss 8 2,qg 10 9,xy 11 10 0,qJ 12 10 (xx aS 11 (qj 4)),qJ 13 10 (wR .eql 12 0),xX 14 10 13] 14 [qZ 15,xe 16,wJ 17 dj 15 16,qU 4 6 17] (.seq (wh [qZ 18,yj 19 18 (qj 7),wc 20 19 0] 20 [qZ 21,qY 22 1 [qC] 3 [yn 11,xg 1 12,xg 2 11],xa 23 21 22,qZ 24,xe 25,xz 26,xK 27 26 1,xP 28 aW 24 25 27,qY 29 4 [qC,qC,qF,.nils] 1 [ym 4 28],wu 30 [qC,qC,qF,.nils] [xo 0 23,xo 3 29],qU 4 6 30]) (xc [qZ 31,qY 32 1 [qC] 9 [yn 3,xg 1 3,xg 2 4,xg 3 5,xg 4 6,xg 5 7,xg 6 8,xg 7 9,xg 8 10],xa 33 31 32,qg 7 33] [ye 34,qZ 35,xe 36,xz 37,xK 38 37 1,xP 39 aW 35 36 38,qZ 40,xe 41,xz 42,xK 43 42 1,xP 44 aW 40 41 43,qY 45 4 [qC,qC,qF,.nils] 2 [ym 4 39,wM 4 4 44],wu 46 [qC,qC,qF,.nils] [xo 0 34,xo 3 45],qU 4 6 46]))⟩
theorem mL:af Tryz.prog aW=some ec:=by kernel_rfl
def me:FK:=⟨99,[.c 4 xV],qe [qX 4 [qC,qC,qF,.nils]] (x8 [xF 5 .any,qZ 9,qV 10 9,wW 11 10,qZ 13,qV 14 13,xw 15 14,xe 17,qu 12 11,qu 16 15,xP 18 aW 12 16 17,qX 5 [qC,qC,qF,.nils],qU 4 5 18] [qZ 19,qV 20 19,xQ 21 20,qu 22 21,wq 23 22,wc 24 23 0,qg 25 24,xy 26 25 0,qJ 27 25 (qw 26),xI 28 25 0 27,xC 29 25 28,qJ 30 25 (xx aS 29 (qj 4)),qJ 31 25 (wR .gtr 30 0),xX 32 25 31] 32 [yf 33 5,qU 4 4 33] (qe [xF 6 .any,qZ 34,qV 35 34,xQ 36 35,qZ 38,qV 39 38,wW 40 39,qZ 42,qV 43 42,xQ 44 43,qu 37 36,qu 41 40,qu 45 44,wq 46 45,yj 47 41 (.t 46),xb 36 37,wB 48 3 37 47,qK 49 3 48,qX 6 [qF,.nils,.nils],qU 3 6 49] (qN [wW 50 6,qu 51 50,wu 52 [qC,qC,qF,.nils] [yn 13,xo 2 51],qX 7 [qC,qC,qF,.nils],qU 4 7 52] (xW [wV 8] 0 [yd 53,xQ 54 6,qu 55 54,wq 56 55,xd 57 53 56] 57 wA 1 (.reg [x7 60 7,qZ 62,qV 63 62,wW 64 63,qZ 66,qV 67 66,xw 68 67,qu 61 60,qu 65 64,qu 69 68,qp 70 aW (xN 65 69 (qj 2)),xb 60 61,xT 71 4 [qC,qC,qF,.nils] 1 [ym 4 70],xk 72 4 56 61 71,x7 73 7,xv 73 72]) [yd 58,x9 59 58,qg 8 59]) (xU (wh [qZ 74,qV 75 74,wW 76 75,qu 77 76,yj 78 77 (qj 2),wc 79 78 0] 79 [yf 80 7,qU 4 4 80]) [qZ 81,qV 82 81,wW 83 82,xT 85 1 [qC] 4 [yn 3,xg 1 4,xg 2 8,xg 3 10],qZ 88,qV 89 88,wW 90 89,qZ 92,qV 93 92,xw 94 93,qu 84 83,yf 87 7,qu 91 90,qu 95 94,xa 86 84 85,wm xV 7 87,xb 90 91,xb 94 95,qp 96 aW (xN 91 95 (qj 2)),wm xV 7 87,qY 97 4 [qC,qC,qF,.nils] 2 [ym 4 87,wM 4 4 96],wu 98 [qC,qC,qF,.nils] [xo 0 86,xo 3 97],qU 4 4 98]))))⟩
theorem ua:af Tryz.prog ig=some me:=by kernel_rfl
def kI:FK:=⟨46,[xJ],qe [xF 2 qF] (wZ [qZ 3,qZ 4,qV 5 4,x7 6 5,qu 7 6,x9 8 7,qV 9 3,x7 10 9,xv 10 8] (wh [qZ 11,qV 12 11,wW 13 12,qu 14 13,yj 15 14 (qj 9),wc 16 15 0,qg 17 16,xB 18 17 0,qI 19 17 (qw 18),wG 20 17 2 19,wE 21 17 20,qI 22 17 (wb 21),xD 23 17 .gtr 22 0,xA 24 17 23] 24 [qZ 25,qV 26 25,wW 27 26,qZ 29,qV 30 29,xw 31 30,qu 28 27,qu 32 31,xL 33 28 32,qg 2 33]) [qZ 34,qV 35 34,x7 36 35,qZ 39,qV 40 39,x7 41 40,qu 37 36,qx 38 .rem 37 24,qu 42 41,qx 43 .rem 42 24,x9 44 43,qb 45 (.slStr (wT [97,98,99,100,101,103,104,105,106,107,108,109,110,112,113,114,115,116,117,118,119,120,121,122]) (some (.t 38)) (some (.t 44))),qg 2 45])⟩
theorem sE:af Tryz.prog gk=some kI:=by kernel_rfl
def iI:FK:=⟨24,[.c 4 (some 5)],xH [wF 3 4 1,qX 4 [qC,qF,.nils,.nils,.nils]] [qZ 6,xu 7 gk 6,ye 5] (xc [qZ 8,qY 9 1 [qF] 0 [],qZ 10,qV 11 10,xw 12 11,qu 13 12,xk 14 1 16 9 13,xp 15,qY 16 1 [qF] 1 [xo 0 15],xk 17 1 16 14 16,qV 18 8,xw 19 18,xv 19 17] [xp 20,yf 21 3,qY 22 4 [qC,qC,qF,.nils] 1 [ym 4 21],wu 23 [qC,qF,.nils,.nils,.nils] [yn 1,xo 1 20,xo 2 22],qU 5 4 23])⟩
theorem nb:af Tryz.prog dA=some iI:=by kernel_rfl
def lG:FK:=⟨14,[.c 2 xV],xc [qX 2 [qC,qC,qF,.nils]] [qZ 3,qZ 5,qV 6 5,wW 7 6,xT 9 1 [qC] 6 [yn 16,xg 1 16,xg 2 16,xg 3 8,xg 4 17,xg 5 0],qu 8 7,yb 4 3 2,xb 7 8,xa 10 8 9,wu 11 [qC,qC,qF,.nils] [yn 1,xo 1 10],qY 12 4 [qC,qC,qF,.nils] 2 [ym 4 4,wM 4 4 11],wu 13 [qC,qC,qF,.nils] [yn 7,xo 3 12],qU 4 2 13]⟩
theorem tQ:af Tryz.prog ew=some lG:=by kernel_rfl
def gU:AK:=xH [xF 4 .nils] [qZ 9,qZ 10,qV 11 10,wW 12 11,qu 13 12,qY 14 1 [qC] 5 [yn 2,xg 1 3,xg 2 1,xg 3 0,xg 4 5],xa 15 13 14,wu 16 [qC,qC,qF,.nils] [yn 1,xo 1 15],wJ 17 dA 9 16,qX 5 [qC,qF,.nils,.nils,.nils],qU 5 5 17] (xH [xQ 18 5,qu 19 18,wu 20 [qC,qC,qF,.nils] [yn 2,xo 2 19],qX 6 [qC,qC,qF,.nils],qU 4 6 20] [qZ 21,xe 22,xK 23 22 1,wJ 24 aZ 21 23,qg 7 24] (qe [xQ 25 5,qu 26 25,yf 27 6,wu 28 [qC,qC,qF,.nils] [yn 1,xg 1 1],qY 29 4 [qC,qC,qF,.nils] 2 [ym 4 27,wM 4 4 28],wu 30 [qC,qC,qF,.nils] [yn 4,xo 3 29],qY 31 4 [qC,qC,qF,.nils] 1 [ym 4 30],wu 32 [qC,qF,.nils,.nils,.nils] [yn 2,xo 1 26,xo 2 31],qX 8 [qC,qF,.nils,.nils,.nils],qU 5 8 32] (.cut (.reg [qZ 33,qZ 34,qV 35 34,qr 36 4 35,qu 37 36,xK 38 37 2,qV 39 33,qr 40 4 39,xv 40 38]) (qA [ye 44,qK 41 5 5,yf 42 6,xT 43 4 [qC,qC,qF,.nils] 1 [ym 4 42],qK 45 5 8,xT 46 5 [qC,qF,.nils,.nils,.nils] 1 [ym 5 45],xk 47 5 96 44 46,wm (some 5) 5 41,wm xV 6 42,wu 48 [qC,qF,.nils,.nils,.nils] [yn 6,xo 2 43,xo 3 47],qY 49 5 [qC,qF,.nils,.nils,.nils] 2 [ym 5 41,wM 5 5 48],yp 49]))))
def gD:FK:=⟨50,yr,(AK.whole gU)⟩
theorem ui:af Tryz.prog ib=some gD:=by kernel_rfl
def ml:FK:=⟨128,yr,xH [xF 4 .nils] [qZ 7,qZ 8,qV 9 8,qr 10 4 9,qu 11 10,xK 12 11 1,qV 13 7,qr 14 4 13,xv 14 12] (wZ [qZ 15,qV 16 15,wW 17 16,qu 18 17,yj 19 18 (qj 13),qg 5 19] (.blk 0 (qB [xp 21,qx 22 .lss 21 3,qg 23 22,xB 24 23 0,qI 25 23 (qw 24),wG 26 23 2 25,wE 27 23 26,qI 28 23 (wb 27),xD 29 23 .gtr 28 0,xA 30 23 29,qg 20 30] 20 (qA [qZ 31,qV 32 31,wW 33 32,qZ 35,qV 36 35,xw 37 36,qZ 40,qu 34 33,qu 38 37,xL 39 34 38,yb 41 40 3,qY 42 4 [qC,qC,qF,.nils] 1 [ym 4 41],wu 43 [qC,qF,.nils,.nils,.nils] [yn 2,xo 1 39,xo 2 42],qY 44 5 [qC,qF,.nils,.nils,.nils] 1 [ym 5 43],yp 44]) (qB [xp 46,qx 47 .lss 46 5,qg 45 47] 45 (qA [qZ 48,qZ 49,yb 50 49 3,wJ 51 dA 48 50,qY 52 5 [qC,qF,.nils,.nils,.nils] 1 [ym 5 51],yp 52]) (qB [xp 54,qx 55 .lss 54 7,qg 56 55,xy 57 56 1,qJ 58 56 (wR .lss 57 2),xX 59 56 58,qg 53 59] 53 (qA [qZ 60,yb 61 60 3,qY 62 4 [qC,qC,qF,.nils] 1 [ym 4 61],wu 63 [qC,qF,.nils,.nils,.nils] [yn 3,xo 2 62],qY 64 5 [qC,qF,.nils,.nils,.nils] 1 [ym 5 63],yp 64]) (qB [xp 66,wc 67 66 7,qg 65 67] 65 (qA [qZ 68,xu 69 ew 68,qZ 70,yb 71 70 2,qY 72 4 [qC,qC,qF,.nils] 2 [ym 4 69,wM 4 4 71],wu 73 [qC,qF,.nils,.nils,.nils] [yn 4,xo 2 72],qY 74 5 [qC,qF,.nils,.nils,.nils] 1 [ym 5 73],yp 74]) (qB [xp 76,wc 77 76 8,qg 75 77] 75 (qA [qZ 78,xu 79 ew 78,qY 80 4 [qC,qC,qF,.nils] 1 [ym 4 79],wu 81 [qC,qC,qF,.nils] [yn 12,xo 3 80],qY 82 4 [qC,qC,qF,.nils] 1 [ym 4 81],wu 83 [qC,qF,.nils,.nils,.nils] [yn 3,xo 2 82],qY 84 5 [qC,qF,.nils,.nils,.nils] 1 [ym 5 83],yp 84]) (qB [xp 86,qx 87 .lss 86 11,qg 85 87] 85 (wZ [qZ 88,yb 89 88 3,qY 90 4 [qC,qC,qF,.nils] 1 [ym 4 89],qZ 91,xe 92,xK 93 92 1,wJ 94 aZ 91 93,wu 95 [qC,qF,.nils,.nils,.nils] [yn 5,xo 2 90,xo 3 94],qX 6 [qC,qF,.nils,.nils,.nils],qU 5 6 95] (xm [qZ 96,qV 97 96,wW 98 97,qu 99 98,yj 100 99 (qj 2),wc 101 100 0] 101 [qZ 102,xe 103,xK 104 103 1,wJ 105 aZ 102 104,qr 106 4 6,xv 106 105]) [qK 107 5 6,qY 108 5 [qC,qF,.nils,.nils,.nils] 1 [ym 5 107],yp 108]) (wh [xp 110,wc 111 110 11,qg 112 111,xB 113 112 0,qI 114 112 (qw 113),wG 115 112 0 114,wE 116 112 115,qI 117 112 (xx aS 116 (qj 3)),xD 118 112 .eql 117 0,xA 119 112 118,qg 109 119] 109 [qZ 120,yb 121 120 2,qY 122 4 [qC,qC,qF,.nils] 1 [ym 4 121],wu 123 [qC,qF,.nils,.nils,.nils] [yn 7,xo 2 122],qY 124 5 [qC,qF,.nils,.nils,.nils] 1 [ym 5 123],yp 124])))))))) [qZ 125,xe 126,wJ 127 ib 125 126,yp 127])⟩
theorem tU:af Tryz.prog gQ=some ml:=by kernel_rfl
def ll:FK:=⟨40,yr,xH [xF 4 .nils] [qZ 8,qV 9 8,xw 10 9,qu 11 10,qg 5 11] (qN (wX (qY 12 5 [qC,qF,.nils,.nils,.nils] 0 []) 6 12) (xW [qZ 13,qV 14 13,wW 15 14,qu 16 15,qY 17 1 [qC] 4 [yn 2,xg 1 3,xg 2 1,xg 3 4],xa 18 16 17,qg 7 18] 0 [ye 19,yq 20 19 0,qg 21 20,xB 22 21 0,qI 23 21 (qw 22),wG 24 21 4 23,wE 25 21 24,xD 26 21 .gtr 25 0,xA 27 21 26] 27 wA 1 (.reg [yt 30,qZ 31,xe 32,wJ 33 gQ 31 32,xk 34 5 96 30 33,xZ 34]) [ye 28,xK 29 28 1,qg 7 29]) (xc [qZ 35,xp 36,qV 37 35,xw 38 37,xv 38 36] (wX (yt 39) 4 39)))⟩
theorem sA:af Tryz.prog aZ=some ll:=by kernel_rfl
def jI:AK:=xH [qX 6 [qF,.nils,.nils]] [qZ 8,qY 9 1 [qF] 3 [(0,1,wT [97]),(1,1,wT [98]),(2,1,wT [99])],xz 10,qb 11 (.slS 1 (.t 9) none (some (.t 10))),qV 12 8,xw 13 12,xv 13 11] (qe [qZ 14,xz 15,xK 16 15 1,qV 17 14,x7 18 17,xv 18 16] (.cut (.reg [xe 19,qY 20 1 [qF] 0 [],qZ 21,qV 22 21,xw 23 22,qu 24 23,xk 25 1 16 20 24,wu 26 [qF,.nils,.nils] [xo 0 19,xo 1 25],qX 7 [qF,.nils,.nils],qU 3 7 26]) (wZ [qZ 27,xY 28 aZ 27 3,xw 29 7,xv 29 28] (qO [qZ 30,qV 31 30,qr 32 4 31,qu 33 32,yq 34 33 0,qg 35 34,xB 36 35 0,qI 37 35 (qw 36),wG 38 35 0 37,wE 39 35 38,qI 40 35 (xx aS 39 (qj 4)),xD 41 35 .gtr 40 0,xA 42 35 41] 42 (yc [qZ 43,qZ 44,qV 45 44,qr 46 4 45,qu 47 46,xK 48 47 1,qV 49 43,qr 50 4 49,xv 50 48] [xw 51 7,qZ 53,qu 52 51,yb 54 53 2,xb 51 52,xT 55 4 [qC,qC,qF,.nils] 1 [ym 4 54],wu 56 [qC,qF,.nils,.nils,.nils] [yn 7,xo 2 55],xT 57 5 [qC,qF,.nils,.nils,.nils] 1 [ym 5 56],xk 58 5 96 52 57,xw 59 7,xv 59 58])) [qK 60 3 7,qU 3 6 60])))
def jP:FK:=⟨61,[.c 6 (some 3)],(AK.whole jI)⟩
theorem yD:af Tryz.prog fV=some jP:=by kernel_rfl
def rW:FK:=⟨69,[.c 2 (some 1)],qe [qX 2 yh] (qN [qZ 8,qZ 9,qY 10 1 [qC] 4 [yn 14,xg 1 20,xg 2 8,xg 3 26],xa 11 9 10,wu 12 [.nilp,.nils,.nils,qC,qC] [xo 0 8,xo 4 11],wF 13 5 12,qg 3 13] (xW [qZ 14,qY 15 1 [qC] 4 [yn 0,xg 1 1,xg 2 1,xg 3 2],xa 16 14 15,yp 16] 0 [qg 17 4,yq 18 17 0] 18 wA 1 (yc [xF 5 .any,qg 21 3,xT 22 1 [qF] 3 [(0,1,wT [102]),(1,1,wT [103]),(2,1,wT [104])],qg 23 3,qV 24 23,xQ 25 24,qZ 30,qu 26 25,wq 27 26,wB 28 1 22 27,qu 29 28,yj 31 30 (qj 3),xb 25 26,xb 28 29,xP 32 fV 21 29 31,qX 5 [qF,.nils,.nils],qU 3 5 32] [qg 33 3,qg 34 3,qV 35 34,xQ 36 35,qu 37 36,qK 38 3 5,xT 39 3 [qF,.nils,.nils] 1 [ym 3 38],xk 40 3 64 37 39,qV 41 33,xQ 42 41,xv 42 40]) [qg 19 4,xK 20 19 1,yp 20]) (qe [qg 43 3,qZ 44,qY 45 1 [qC] 4 [yn 0,xg 1 1,xg 2 2,xg 3 1],xa 46 44 45,qp 47 fV (xM 43 (wT [109]) (.t 46)),qX 6 [qF,.nils,.nils],qU 3 6 47] (wZ [xF 7 .any,qg 49 3,qV 50 49,xQ 51 50,qu 52 51,qK 54 3 6,xT 55 3 [qF,.nils,.nils] 1 [ym 3 54],qY 48 3 [qF,.nils,.nils] 0 [],xb 51 52,wm (some 3) 6 54,xk 53 3 64 48 52,wm (some 3) 6 54,xk 56 3 64 53 55,wu 57 yh [xo 0 56],qX 7 yh,xv 7 57] (wh [qK 58 1 7,xu 59 dy 58,xn 60 59] 60 [wu 61 [qC,qC,qF,.nils] [yn 1,xg 1 1],qY 62 4 [qC,qC,qF,.nils] 1 [ym 4 61],wu 63 [qC,qF,.nils,.nils,.nils] [yn 3,xo 2 62],qY 64 5 [qC,qF,.nils,.nils,.nils] 1 [ym 5 63],wu 65 [qF,.nils,.nils] [(0,1,wT [109]),xo 2 64],qY 66 3 [qF,.nils,.nils] 1 [ym 3 65],wu 67 yh [xo 0 66],xv 2 67]) [qK 68 1 7,xv 2 68])))⟩
theorem Bl:af Tryz.prog dh=some rW:=by kernel_rfl
def tR:FK:=⟨42,[.c 4 xV],qe [qX 4 [qC,qC,qF,.nils]] (x8 [qZ 8,qY 9 1 [qF] 4 [(0,1,wT [97]),(1,1,wT [98]),(2,1,wT [120]),(3,1,wT [103,111])],xe 10,xP 11 aW 8 9 10,qX 5 [qC,qC,qF,.nils],qU 4 5 11] [qZ 12,yj 13 12 (qj 3),yq 14 13 0] 14 [yf 15 5,qU 4 4 15] (qN [qZ 16,qY 17 1 [qF] 3 [(0,1,wT [102]),(1,1,wT [103]),(2,1,wT [97])],xL 18 16 17,wu 19 [qC,qC,qF,.nils] [yn 13,xo 2 18],qX 6 [qC,qC,qF,.nils],qU 4 6 19] (xW [qZ 20,yj 21 20 (qj 4),qg 7 21] 0 [ye 22,yq 23 22 0] 23 wA 1 (.reg [x7 26 6,qZ 28,xT 29 1 [qF] 2 [(0,1,wT [97]),(1,1,wT [98])],qu 27 26,qp 30 aW (xN 28 29 (qj 2)),xb 26 27,xT 31 4 [qC,qC,qF,.nils] 1 [ym 4 30],xk 32 4 56 27 31,x7 33 6,xv 33 32]) [ye 24,xK 25 24 1,qg 7 25]) (xU (wh [qZ 34,yj 35 34 (qj 2),wc 36 35 0] 36 [yf 37 6,qU 4 4 37]) [yf 38 5,yf 39 6,qY 40 4 [qC,qC,qF,.nils] 2 [ym 4 38,wM 4 4 39],wu 41 [qC,qC,qF,.nils] [yn 3,xo 3 40],qU 4 4 41])))⟩
theorem Dt:af Tryz.prog ia=some tR:=by kernel_rfl
def sb:FK:=⟨40,[.c 2 xV],qe [qX 2 [qC,qC,qF,.nils]] (wZ [qZ 4,xY 5 ia 4 4,qX 3 [qC,qC,qF,.nils],qU 4 3 5] (qe [qZ 6,yj 7 6 (qj 20)] (.blk 0 (xr 9 7 0 8 9 8 (.reg [qZ 10,qY 11 1 [qC] 3 [yn (-1),xg 1 256,xg 2 3],xa 12 10 11,xQ 13 3,xv 13 12]) (xr 15 7 1 14 15 14 (.reg [qZ 16,qY 17 1 [qF] 5 [(0,1,.c qF),(1,1,wT [100,111]),(2,1,wT [65]),(3,1,wT [97,98,99,100,101]),(4,1,wT [113])],xL 18 16 17,xw 19 3,xv 19 18]) (xr 21 7 2 20 21 20 (.reg [qZ 22,qY 23 1 [qC] 5 [yn 0,xg 1 14,xg 2 (-1),xg 3 5,xg 4 11],xa 24 22 23,wW 25 3,xv 25 24]) (xr 27 7 3 26 27 26 (.reg [x7 28 3,qZ 30,qu 29 28,wI 31 dj 30 (.c .nils),xb 28 29,xT 32 4 [qC,qC,qF,.nils] 1 [ym 4 31],xk 33 4 56 29 32,x7 34 3,xv 34 33]) (xm (wY 36 7 4 35 36) 35 [qZ 37,xY 38 ia 37 7,qU 4 3 38]))))))) [yf 39 3,qU 4 2 39])⟩
theorem BK:af Tryz.prog mF=some sb:=by kernel_rfl
def mK:AK:=xH [qX 2 yh] [qZ 9,xu 10 dh 9,qX 3 yh,xv 3 10] (qe [wW 11 3,qu 12 11,wW 13 3,qu 14 13,wq 15 14,xK 16 15 1,wB 17 3 12 16,qK 18 3 17,qX 4 [qF,.nils,.nils],qU 3 4 18] (.cut (qe [qZ 19,yj 20 19 (qj 32)] (.blk 0 (xr 22 20 0 21 22 21 (.reg [qZ 23,qY 24 1 [qF] 4 [(0,1,wT [102]),(1,1,wT [100,111]),(2,1,.c qF),(3,1,wT [103])],xL 25 23 24,wW 26 4,xv 26 25]) (xr 28 20 1 27 28 27 (.reg [qY 29 1 [qF] 0 [],xQ 30 4,qu 31 30,xk 32 1 16 29 31,qZ 33,qY 34 1 [qF] 3 [(0,1,wT [97]),(1,1,wT [120]),(2,1,wT [105,102])],xL 35 33 34,qY 36 1 [qF] 1 [xo 0 35],xk 37 1 16 32 36,xQ 38 4,xv 38 37]) (xr 40 20 2 39 40 39 (.reg [qY 41 5 [qC,qF,.nils,.nils,.nils] 0 [],xw 42 4,qu 43 42,xk 44 5 96 41 43,qZ 45,xu 46 mF 45,qY 47 4 [qC,qC,qF,.nils] 1 [ym 4 46],wu 48 [qC,qF,.nils,.nils,.nils] [yn 3,xo 2 47],qY 49 5 [qC,qF,.nils,.nils,.nils] 1 [ym 5 48],xk 50 5 96 44 49,xw 51 4,xv 51 50]) (xr 53 20 3 52 53 52 (.reg [qY 54 5 [qC,qF,.nils,.nils,.nils] 0 [],xw 55 4,qu 56 55,xk 57 5 96 54 56,qZ 58,yj 59 58 (qj 10),qZ 60,qY 61 1 [qF] 3 [(0,1,.c qF),(1,1,wT [97]),(2,1,wT [122,122])],xL 62 60 61,qZ 63,xY 64 ia 63 2,qY 65 4 [qC,qC,qF,.nils] 1 [ym 4 64],wu 66 [qC,qF,.nils,.nils,.nils] [xo 0 59,xo 1 62,xo 2 65],qY 67 5 [qC,qF,.nils,.nils,.nils] 1 [ym 5 66],xk 68 5 96 57 67,xw 69 4,xv 69 68]) (xr 71 20 4 70 71 70 (qe [wu 72 [qC,qC,qF,.nils] [yn 1],qY 73 4 [qC,qC,qF,.nils] 1 [ym 4 72],wu 74 [qC,qF,.nils,.nils,.nils] [yn 6,xo 2 73],qX 5 [qC,qF,.nils,.nils,.nils],qU 5 5 74] (.cut (xW [qZ 75,yj 76 75 (qj 5),xZ 76] 1 [yt 77,yq 78 77 0] 78 (.exit 1) 2 (.reg [qZ 81,xT 82 1 [qC] 2 [yn 5,xg 1 6],xw 84 5,qu 85 84,qK 86 5 5,xT 87 5 [qC,qF,.nils,.nils,.nils] 1 [ym 5 86],xa 83 81 82,xb 84 85,wm (some 5) 5 86,wu 88 [qC,qF,.nils,.nils,.nils] [xo 0 83,xo 2 85,xo 3 87],qU 5 5 88]) [yt 79,xK 80 79 1,xZ 80]) (.reg [xw 90 4,qu 91 90,qK 93 5 5,xT 94 5 [qC,qF,.nils,.nils,.nils] 1 [ym 5 93],qY 89 5 [qC,qF,.nils,.nils,.nils] 0 [],xb 90 91,wm (some 5) 5 93,xk 92 5 96 89 91,wm (some 5) 5 93,xk 95 5 96 92 94,xw 96 4,xv 96 95]))) (xr 98 20 5 97 98 97 (qA [wu 99 yh [],xv 2 99]) (xr 101 20 6 100 101 100 (xW [qZ 102,qY 103 1 [qC] 3 [yn 20,xg 1 40,xg 2 41],xa 104 102 103,qg 7 104] 3 [ye 105,yq 106 105 0] 106 (.exit 3) 4 (.reg [qY 109 5 [qC,qF,.nils,.nils,.nils] 0 [],xw 110 4,qu 111 110,xk 112 5 96 109 111,ye 113,wu 114 [qC,qC,qF,.nils] [yn 1,xo 1 113],qY 115 4 [qC,qC,qF,.nils] 1 [ym 4 114],wu 116 [qC,qF,.nils,.nils,.nils] [yn 3,xo 2 115],qY 117 5 [qC,qF,.nils,.nils,.nils] 1 [ym 5 116],xk 118 5 96 112 117,xw 119 4,xv 119 118]) [ye 107,xK 108 107 1,qg 7 108]) (wh (wY 121 20 7 120 121) 120 [wW 123 3,wW 126 3,qu 124 123,qu 127 126,ww 128 3 127 yi,qK 129 3 128,xT 130 3 [qF,.nils,.nils] 1 [ym 3 129],qY 122 3 [qF,.nils,.nils] 0 [],xb 123 124,xb 126 127,wm (some 3) 128 129,xk 125 3 64 122 124,xb 126 127,wm (some 3) 128 129,xk 131 3 64 125 130,wu 132 yh [xo 0 131],xv 2 132])))))))))) (qe [qY 133 3 [qF,.nils,.nils] 0 [],wW 134 3,qu 135 134,xk 136 3 64 133 135,qg 8 136] (xc [yd 137,yd 138,wq 139 138,xK 140 139 1,qK 141 3 4,wB 142 3 137 140,qU 3 142 141] [yd 143,wu 144 yh [xo 0 143],xv 2 144]))))
def mD:FK:=⟨145,[.c 2 (some 1)],(AK.whole mK)⟩
theorem Bb:af Tryz.prog mH=some mD:=by kernel_rfl
def sg:FK:=⟨25,[.c 2 xV],qe [wF 1 4 0,qX 2 [qC,qC,qF,.nils]] (qN (wX (qY 5 4 [qC,qC,qF,.nils] 0 []) 3 5) (xW [xS] 0 [xZ 4,x7 7 1,qu 8 7,wq 9 8,xd 10 6 9] 10 wA 1 (.reg [qg 13 3,x7 14 1,qu 15 14,qg 16 4,wB 17 4 15 16,yf 18 17,xu 19 jd 18,qY 20 4 [qC,qC,qF,.nils] 1 [ym 4 19],xk 21 4 56 13 20,qg 3 21]) [qg 11 4,x9 12 11,yp 12]) (xc [qg 22 3,x7 23 1,xv 23 22] [yf 24 1,qU 4 2 24]))⟩
theorem Bt:af Tryz.prog jd=some sg:=by kernel_rfl
def pr:FK:=⟨52,[xJ],qe [xF 2 .nils] (wZ (wX (qY 8 5 [qC,qF,.nils,.nils,.nils] 0 []) 3 8) (xW [xS] 0 [qg 9 4,qZ 10,wq 11 10,xd 12 9 11] 12 wA 1 (qe [qZ 15,qg 16 4,wB 17 5 15 16,qK 18 5 17,qX 5 [qC,qF,.nils,.nils,.nils],qU 5 5 18] (qN (wX (qY 19 4 [qC,qC,qF,.nils] 0 []) 6 19) (xW [wV 7] 2 [ye 20,xw 21 5,qu 22 21,wq 23 22,xd 24 20 23] 24 (.exit 2) 3 (.reg [yt 27,xw 28 5,qu 29 28,ye 30,wB 31 4 29 30,yf 32 31,xu 33 jd 32,qY 34 4 [qC,qC,qF,.nils] 1 [ym 4 33],xk 35 4 56 27 34,xZ 35]) [ye 25,x9 26 25,qg 7 26]) (.reg [qg 36 3,wW 37 5,xQ 39 5,yt 41,x7 42 5,qr 45 4 5,qu 38 37,qu 40 39,qu 43 42,qu 46 45,xu 44 dD 43,xb 37 38,xb 39 40,xb 45 46,xu 47 dD 46,xb 37 38,xb 39 40,wu 48 [qC,qF,.nils,.nils,.nils] [xo 0 38,xo 1 40,xo 2 41,xo 3 44,xo 4 47],qY 49 5 [qC,qF,.nils,.nils,.nils] 1 [ym 5 48],xk 50 5 96 36 49,qg 3 50]))) [qg 13 4,x9 14 13,yp 14]) (wX (qg 51 3) 2 51))⟩
theorem Aj:af Tryz.prog dD=some pr:=by kernel_rfl
def rQ:FK:=⟨35,[.c 2 (some 1)],qe [wF 1 1 0,qX 2 yh] (wZ [wu 6 yh [],qX 3 yh,xv 3 6] (xW [xS] 0 [qg 7 4,wW 8 1,qu 9 8,wq 10 9,xd 11 7 10] 11 wA 1 (yc [wW 14 1,qu 15 14,qg 16 4,wB 17 3 15 16,qK 18 3 17,qX 5 [qF,.nils,.nils],qU 3 5 18] [wW 19 3,wW 21 5,xQ 24 5,xw 27 5,qu 20 19,qu 22 21,qu 25 24,qu 28 27,qY 23 1 [qF] 0 [],xb 19 20,xb 21 22,xb 24 25,xb 27 28,xk 26 1 16 23 25,xb 19 20,xb 21 22,xb 27 28,xu 29 dD 28,xb 19 20,xb 21 22,wu 30 [qF,.nils,.nils] [xo 0 22,xo 1 26,xo 2 29],qY 31 3 [qF,.nils,.nils] 1 [ym 3 30],xb 19 20,xk 32 3 64 20 31,wW 33 3,xv 33 32]) [qg 12 4,x9 13 12,yp 13]) [qK 34 1 3,xv 2 34])⟩
theorem Bz:af Tryz.prog mt=some rQ:=by kernel_rfl
def rz:FK:=⟨104,[.c 2 (some 1)],qe [qX 2 yh] (x8 [qZ 7,xu 8 dh 7,qX 3 yh,xv 3 8] [qZ 9,yj 10 9 (qj 5),yq 11 10 2] 11 [qK 12 1 3,xv 2 12] (.seq (wh [qZ 13,yj 14 13 (qj 6),wc 15 14 0] 15 [qZ 16,xu 17 mH 16,xv 2 17]) (qe [qK 18 1 3,xu 19 mt 18,xv 3 19] (x8 [wW 20 3,qZ 22,wW 23 3,qu 21 20,qu 24 23,wq 25 24,yj 26 22 (.t 25),xb 20 21,wB 27 3 21 26,yp 27] [qg 28 4,qV 29 28,xw 30 29,qu 31 30,wq 32 31,wc 33 32 0] 33 [qK 34 1 3,xv 2 34] (qe [qg 35 4,qV 36 35,xw 37 36,qZ 39,qg 40 4,qV 41 40,xw 42 41,qu 38 37,qu 43 42,wq 44 43,yj 45 39 (.t 44),xb 37 38,wB 46 5 38 45,qg 5 46] (qN [qZ 47,qY 48 1 [qF] 5 [(0,1,wT [122,122]),(1,1,wT [97]),(2,1,wT [98]),(3,1,wT [99]),(4,1,wT [100])],xL 49 47 48,wu 50 [qC,qC,qF,.nils] [yn 2,xo 2 49],qX 6 [qC,qC,qF,.nils],qU 4 6 50] (qe [qZ 51,yj 52 51 (qj 4)] (.blk 0 (xr 54 52 0 53 54 53 (.reg [qZ 55,qY 56 1 [qF] 4 [(0,1,wT [102]),(1,1,wT [103]),(2,1,wT [109]),(3,1,wT [113])],xL 57 55 56,wu 58 [qC,qC,qF,.nils] [yn 1,xg 1 1],qY 59 4 [qC,qC,qF,.nils] 1 [ym 4 58],wu 60 [qC,qC,qF,.nils] [yn 13,xo 2 57,xo 3 59],qU 4 6 60]) (xr 62 52 1 61 62 61 (xU (xm [xp 63,qV 64 63,xQ 65 64,qu 66 65,qb 67 (yl .neq 66 (.c qF))] 67 [xp 68,qZ 69,qY 70 1 [qF] 5 [(0,1,wT [97]),(1,1,wT [98]),(2,1,wT [122,122]),(3,1,wT [99]),(4,1,wT [100])],xL 71 69 70,qV 72 68,xQ 73 72,xv 73 71]) [qK 74 1 3,xv 2 74]) (qO (wY 76 52 2 75 76) 75 (xc [qg 77 4,qg 78 4,qV 79 78,xw 80 79,qg 82 4,qV 83 82,xw 84 83,qu 81 80,qu 85 84,qb 86 (.slS 5 (.t 85) none (some (qj 1))),xu 87 dD 86,xb 80 81,xk 88 5 96 81 87,qV 89 77,xw 90 89,xv 90 88] [qK 91 1 3,xv 2 91])))))) (xU (xm [xp 92,qV 93 92,wW 94 93,qu 95 94,qx 96 .neq 95 8] 96 [xp 97,qV 98 97,xw 99 98,qu 100 99,yf 101 6,ww 102 4 100 yi,qU 4 102 101]) [qK 103 1 3,xv 2 103])))))))⟩
theorem Bg:af Tryz.prog mG=some rz:=by kernel_rfl
def pt:AK:=xH [wF 3 1 1,xF 4 .nils] (wX (qY 8 1 [qC] 0 []) 5 8) (qe [wV 6] (.cut (xm [wW 9 3,qu 10 9,wq 11 10,yq 12 11 0] 12 [wW 13 3,qu 14 13,wW 15 3,qu 16 15,wq 17 16,xK 18 17 1,wB 19 3 14 18,xQ 20 19,qu 21 20,wq 22 21,xZ 22]) (.cut (xW [wV 7] 0 [ye 23,yt 24,xd 25 23 24] 25 wA 1 (.reg [xp 28,qZ 29,qZ 30,yj 31 30 (qj 256),qY 32 1 [qC] 8 [yn 0,xg 1 1,xg 2 2,xg 3 3,xg 4 7,xg 5 16,xg 6 255,xo 7 31],xa 33 29 32,qY 34 1 [qC] 1 [xo 0 33],xk 35 1 8 28 34,qg 5 35]) [ye 26,x9 27 26,qg 7 27]) (xU (qe [qZ 36,yj 37 36 (qj 40)] (.blk 2 (xr 39 37 0 38 39 38 (.reg [xp 40,qY 41 1 [qC] 1 [yn 0],xk 42 1 8 40 41,qg 5 42]) (qO (wY 44 37 1 43 44) 43 (xm [xp 45,wq 46 45,yq 47 46 0] 47 [xp 48,qZ 49,qY 50 1 [qC] 2 [yn (-1),xg 1 256],xa 51 49 50,ww 52 1 48 yi,xv 52 51]))))) (wX (xp 53) 4 53)))))
def oz:FK:=⟨54,yr,(AK.whole pt)⟩
theorem Fp:af Tryz.prog og=some oz:=by kernel_rfl
def iH:FK:=⟨23,[.c 2 (some 1),.t 3,xq],xH [qX 2 yh,xF 3 .nils,xS] [qZ 7,xu 8 lm 7,yd 5] (wZ [xp 9,xu 10 dh 9,qX 6 yh,xv 6 10] (xm [xp 11,yj 12 11 (qj 12),wc 13 12 0] 13 [xp 14,xu 15 mG 14,xv 6 15]) [xp 17,xp 20,xT 21 1 [qC] 10 [yn 400,xg 1 400,xg 2 1000,xg 3 20,xg 4 5,xg 5 1,xg 6 0,xg 7 4000,xg 8 (-1),xg 9 4001],qK 16 1 6,qK 18 1 6,wJ 19 og 17 18,wm (some 1) 6 16,xa 22 20 21,wm (some 1) 6 16,xv 2 16,qg 3 19,yp 22])⟩
theorem oa:af Tryz.prog cK=some iH:=by kernel_rfl
def lN:FK:=⟨15,[.c 2 (some 1),.t 3],qe [qX 2 yh,xF 3 .nils] (xc [qZ 8,xu 9 cK 8,qg 7 9,wD 10 0 7,wD 11 1 7,wD 12 2 7,qX 4 yh,xv 4 10,qg 5 11,xZ 12] [qK 13 1 4,xp 14,xv 2 13,qg 3 14])⟩
theorem to:af Tryz.prog ij=some lN:=by kernel_rfl
def rM:FK:=⟨29,yr,wZ [xi] (wS [qZ 6,wq 7 6,xe 8,wq 9 8,qb 10 (.mn (.t 7) (.t 9)),wV 11] 0 (qN [xd 12 11 10] (xR 12 wA) (wy 1 (qe (wX (qg 13 11) 5 13) (wh [qZ 14,xp 15,wB 16 1 14 15,xe 18,xp 19,wB 20 1 18 19,qu 17 16,qu 21 20,wn 22 .neq 17 21] 22 [xi])) (wX (x9 23 11) 11 23)))) [qZ 24,wq 25 24,xe 26,wq 27 26,wn 28 .eql 25 27,yp 28]⟩
theorem BL:af Tryz.prog mI=some rM:=by kernel_rfl
def nT:FK:=⟨18,yr,xc [xi] [xe 5,wq 6 5,qZ 7,wq 8 7,wn 9 .leq 6 8,qg 10 9,xB 11 10 0,xB 12 10 1,qI 13 10 (wb 12),qI 14 10 (.slS 1 (.t 11) none (some (.t 13))),xB 15 10 1,qI 16 10 (xx mI 14 (.t 15)),xA 17 10 16,yp 17]⟩
theorem yC:af Tryz.prog fY=some nT:=by kernel_rfl
def rR:FK:=⟨84,[xJ],x8 [yk] [qZ 10,wq 11 10,yq 12 11 1048576] 12 [qd 2 wz] (qe [qZ 14,xu 15 ij 14,qg 13 15,wD 16 0 13,wD 17 1 13,qX 3 yh,xv 3 16,yp 17] (x8 [qK 18 1 3,qg 19 4,wJ 20 fO 18 19,qg 5 20] [xp 21,qK 22 1 3,qg 23 4,wJ 24 ed 22 23,wn 25 .neq 21 24,qg 26 25,xy 27 26 5,qJ 28 26 (wR .lss 27 0),xX 29 26 28] 29 [xp 30,qK 31 1 3,qg 32 4,wJ 33 ed 31 32,wn 34 .eql 30 33,qg 35 34,xB 36 35 5,xD 37 35 .eql 36 (-1),xA 38 35 37,qg 2 38] (x8 [qK 40 1 3,qg 41 4,xp 42,xP 43 aT 40 41 42,qg 39 43,wD 44 0 39,wD 45 1 39,qX 6 [.nils,qC,qC,.nils],qU 4 6 44,qg 7 45] [ye 46,xn 47 46,qg 48 47,xI 49 48 1 6,xC 50 48 49,qJ 51 48 (wR .eql 50 3),xX 52 48 51,qg 53 52,xy 54 53 5,qJ 55 53 (wR .eql 54 0),xX 56 53 55] 56 [ye 57,qg 58 57,wG 59 58 1 6,wE 60 58 59,xD 61 58 .neq 60 3,xA 62 58 61,qg 2 62] (xc [qK 64 1 3,qg 65 4,xp 66,xK 67 66 1,xP 68 aT 64 65 67,qg 63 68,wD 69 0 63,wD 70 1 63,qX 8 [.nils,qC,qC,.nils],qU 4 8 69,qg 9 70] [qg 71 9,qg 72 71,wG 73 72 1 8,wE 74 72 73,xD 75 72 .eql 74 3,xA 76 72 75,qg 77 76,wG 78 77 0 6,wE 79 77 78,wG 80 77 0 8,wE 81 77 80,qI 82 77 (xx fY 79 (.t 81)),xA 83 77 82,qg 2 83]))))⟩
theorem BJ:af Tryz.prog sj=some rR:=by kernel_rfl
def rL:FK:=⟨26,yr,x8 [xi] [qZ 6,wq 7 6,xe 8,wq 9 8,wn 10 .neq 7 9] 10 [xi] (xU (xW [wV 5] 0 [xp 11,qZ 12,wq 13 12,xd 14 11 13] 14 wA 1 (wh [qZ 17,xp 18,wB 19 1 17 18,xe 21,xp 22,wB 23 1 21 22,qu 20 19,qu 24 23,wn 25 .neq 20 24] 25 [xi]) [xp 15,x9 16 15,qg 5 16]) [qd 4 wz])⟩
theorem BG:af Tryz.prog iW=some rL:=by kernel_rfl
def lb:FK:=⟨31,yr,xc [wF 2 4 0,wF 3 4 1,xi] [wW 5 2,qu 6 5,wW 7 3,qu 8 7,wJ 9 iW 6 8,qg 10 9,wG 11 10 1 2,wE 12 10 11,wG 13 10 1 3,wE 14 10 13,qI 15 10 (qm .eql 12 (.t 14)),xA 16 10 15,qg 17 16,wG 18 17 2 2,wE 19 17 18,wG 20 17 2 3,wE 21 17 20,qI 22 17 (qm .eql 19 (.t 21)),xA 23 17 22,qg 24 23,wG 25 24 3 2,wE 26 24 25,wG 27 24 3 3,wE 28 24 27,qI 29 24 (xx iW 26 (.t 28)),xA 30 24 29,yp 30]⟩
theorem sr:af Tryz.prog dL=some lb:=by kernel_rfl
def kR:FK:=⟨26,yr,x8 [xi] [qZ 6,wq 7 6,xe 8,wq 9 8,wn 10 .neq 7 9] 10 [xi] (xU (wS [qZ 11,wq 12 11,wV 13] 0 (qN [xd 14 13 12] (xR 14 wA) (wy 1 (qe (wX (qg 15 13) 5 15) (wh [qZ 16,xp 17,wB 18 1 16 17,xe 20,xp 21,wB 22 1 20 21,qu 19 18,qu 23 22,wn 24 .neq 19 23] 24 [xi])) (wX (x9 25 13) 13 25)))) [qd 4 wz])⟩
theorem sG:af Tryz.prog dM=some kR:=by kernel_rfl
def kT:FK:=⟨31,yr,xc [wF 2 4 0,wF 3 4 1,xi] [wW 5 2,qu 6 5,wW 7 3,qu 8 7,wJ 9 dM 6 8,qg 10 9,wG 11 10 1 2,wE 12 10 11,wG 13 10 1 3,wE 14 10 13,qI 15 10 (qm .eql 12 (.t 14)),xA 16 10 15,qg 17 16,wG 18 17 2 2,wE 19 17 18,wG 20 17 2 3,wE 21 17 20,qI 22 17 (qm .eql 19 (.t 21)),xA 23 17 22,qg 24 23,wG 25 24 3 2,wE 26 24 25,wG 27 24 3 3,wE 28 24 27,qI 29 24 (xx dM 26 (.t 28)),xA 30 24 29,yp 30]⟩
theorem sV:af Tryz.prog gf=some kT:=by kernel_rfl
def mg:FK:=⟨84,[xJ],x8 [yk] [qZ 12,wq 13 12,yq 14 13 1048576] 14 [qd 2 wz] (xH [qZ 16,xu 17 cK 16,qg 15 17,wD 18 0 15,wD 19 1 15,wD 20 2 15,qX 3 yh,xv 3 18,yp 19,qg 5 20] [qK 22 1 3,qg 23 4,xp 24,xP 25 aT 22 23 24,qg 21 25,wD 26 0 21,wD 27 1 21,qX 6 [.nils,qC,qC,.nils],qU 4 6 26,qg 7 27] (x8 [qK 29 1 3,qg 30 4,xp 31,xP 32 bH 29 30 31,qg 28 32,wD 33 0 28,wD 34 1 28,qX 8 [.nils,qC,qC,.nils],qU 4 8 33,qg 9 34] [ye 35,qg 36 9,qb 37 (.beq true (.t 35) (.t 36)),qg 38 37,qJ 39 38 (qk xV 6),qJ 40 38 (qk xV 8),qJ 41 38 (xx dL 39 (.t 40)),qJ 42 38 (wt 41),xX 43 38 42,qg 44 43,xy 45 44 7,qJ 46 44 (wt 45),xX 47 44 46] 47 [ye 48,qg 49 9,qb 50 (.beq false (.t 48) (.t 49)),qg 51 50,qI 52 51 (qk xV 6),qI 53 51 (qk xV 8),qI 54 51 (xx dL 52 (.t 53)),xA 55 51 54,qg 2 55] (wZ [qK 57 1 3,qg 58 4,qp 59 aT (xN 57 58 (qj 4000)),qg 56 59,wD 60 0 56,wD 61 1 56,qX 10 [.nils,qC,qC,.nils],qU 4 10 60,qg 11 61] (wh [xQ 62 6,qu 63 62,qx 64 .neq 63 3] 64 [qg 65 11,qg 66 65,qI 67 66 (qk xV 10),qI 68 66 (qk xV 6),qI 69 66 (xx gf 67 (.t 68)),xA 70 66 69,qg 2 70]) [qg 71 11,qg 72 71,wG 73 72 2 6,wE 74 72 73,xD 75 72 .eql 74 0,xA 76 72 75,qg 77 76,wG 78 77 0 10,wE 79 77 78,wG 80 77 0 6,wE 81 77 80,qI 82 77 (xx fY 79 (.t 81)),xA 83 77 82,qg 2 83])))⟩
theorem tg:af Tryz.prog lH=some mg:=by kernel_rfl
end Go.Proofs.YtokiapglmedipaaGreatDoor
