/-
  Contracts and lemmas that the card needs, part 4.
-/
import Derived.Test.YtokiapglmedipaaGreatDoorSf3
import Derived.Test.YtokiapglmedipaaGreatDoorRows
namespace Go.Proofs.YtokiapglmedipaaGreatDoor
open Go Go.Aw
set_option maxRecDepth 100000
abbrev jt:FuncId:=56
abbrev kM:FuncId:=239
abbrev kG:FuncId:=235
abbrev nG:FuncId:=221
abbrev fU:FuncId:=236
abbrev nr:FuncId:=222
abbrev cA:FuncId:=195
abbrev jm:FuncId:=237
abbrev jf:FuncId:=242
abbrev fS:FuncId:=240
abbrev gF:FuncId:=241
abbrev eV:FuncId:=238
abbrev jd:FuncId:=223
abbrev bX:FuncId:=196
abbrev ou:FuncId:=164
abbrev eI:FuncId:=197
abbrev nK:FuncId:=165
abbrev dy:FuncId:=114
abbrev jq:FuncId:=199
abbrev bA:FuncId:=200
abbrev dL:FuncId:=224
abbrev jk:FuncId:=225
abbrev eA:FuncId:=201
abbrev ew:FuncId:=227
abbrev cQ:FuncId:=226
abbrev cx:FuncId:=202
abbrev mb:FuncId:=169
abbrev fj:FuncId:=119
abbrev mG:FuncId:=70
abbrev jG:FuncId:=101
abbrev mE:FuncId:=50
abbrev cd:FuncId:=184
abbrev eq:FuncId:=150
abbrev ko:FuncId:=186
abbrev ey:FuncId:=208
abbrev dH:FuncId:=209
abbrev nF:FuncId:=210
abbrev bf:FuncId:=185
abbrev im:FuncId:=187
abbrev gA:FuncId:=151
abbrev aL:FuncId:=102
abbrev lW:FuncId:=51
abbrev dm:FuncId:=57
abbrev fC:FuncId:=172
abbrev ft:FuncId:=122
abbrev ed:FuncId:=173
abbrev dj:FuncId:=124
abbrev cZ:FuncId:=123
abbrev cz:FuncId:=75
abbrev cX:FuncId:=125
abbrev ck:FuncId:=76
abbrev cm:FuncId:=174
abbrev bP:FuncId:=126
abbrev fX:FuncId:=175
abbrev ja:FuncId:=156
abbrev lm:FuncId:=228
abbrev fZ:FuncId:=203
abbrev eS:FuncId:=176
abbrev iY:FuncId:=128
abbrev cD:FuncId:=127
abbrev cJ:FuncId:=78
abbrev iy:FuncId:=129
abbrev eZ:FuncId:=130
abbrev gM:FuncId:=79
abbrev bw:FuncId:=77
abbrev cr:FuncId:=37
abbrev cH:FuncId:=80
abbrev fT:FuncId:=81
abbrev jx:FuncId:=39
abbrev cu:FuncId:=72
abbrev da:FuncId:=73
abbrev kn:FuncId:=170
abbrev ce:FuncId:=121
abbrev bR:FuncId:=171
abbrev dv:FuncId:=120
abbrev bG:FuncId:=74
abbrev fw:FuncId:=36
abbrev oD:FuncId:=68
abbrev dO:FuncId:=189
abbrev cU:FuncId:=154
abbrev cC:FuncId:=155
abbrev lh:FuncId:=104
abbrev mr:FuncId:=53
abbrev bp:FuncId:=157
abbrev ry:FuncId:=105
abbrev dK:FuncId:=108
abbrev lT:FuncId:=212
abbrev dw:FuncId:=190
abbrev eQ:FuncId:=215
abbrev kO:FuncId:=205
abbrev gP:FuncId:=180
abbrev du:FuncId:=216
abbrev bO:FuncId:=213
abbrev gZ:FuncId:=214
abbrev fp:FuncId:=191
abbrev bl:FuncId:=158
abbrev dx:FuncId:=107
abbrev dz:FuncId:=106
abbrev eB:FuncId:=54
abbrev bK:FuncId:=20
abbrev bu:FuncId:=21
abbrev kV:FuncId:=60
abbrev aW:FuncId:=62
abbrev cG:FuncId:=65
abbrev cY:FuncId:=117
abbrev dg:FuncId:=198
abbrev aT:FuncId:=194
abbrev gR:FuncId:=163
abbrev gd:FuncId:=234
abbrev dA:FuncId:=218
abbrev ep:FuncId:=219
abbrev gV:FuncId:=220
abbrev gS:FuncId:=193
abbrev bc:FuncId:=162
abbrev fY:FuncId:=113
abbrev dh:FuncId:=61
abbrev gB:FuncId:=167
abbrev mC:FuncId:=166
abbrev mH:FuncId:=115
abbrev iZ:FuncId:=168
abbrev dD:FuncId:=118
abbrev mM:FuncId:=116
abbrev mF:FuncId:=63
abbrev pf:FuncId:=64
abbrev ef:FuncId:=29
abbrev jg:FuncId:=35
abbrev je:FuncId:=66
abbrev dJ:FuncId:=30
abbrev kJ:FuncId:=67
abbrev iR:FuncId:=38
abbrev mc:FuncId:=8
@[reducible] def qa(a:Nat)(b:Option (Nat × Bool))(c:AI):CO:=⟨some a,b,c⟩
@[reducible] def qb(a:Nat)(b:AI):CO:=qa a none b
@[reducible] def qd(a:Nat)(b:AOp):CO:=qb a (.mov b)
@[reducible] def qe(a:List CO)(b:AK):AK:= .seq (.reg a) b
@[reducible] def qf(a:IntKind)(b:Int):AV:= .p (.int a b)
@[reducible] def qg(a b:Nat):CO:=qd a (.t b)
@[reducible] def qh(a:Int):AV:=qf .i64 a
@[reducible] def qi(a b:Nat):AI:= .fldA a (.t b)
@[reducible] def qj(a:Int):AOp:= .c (qh a)
@[reducible] def qk(a:Option Nat)(b:Nat):AI:= .ld a (.t b)
@[reducible] def ql(a:Nat)(b:Nat × Bool)(c:AI):CO:=qa a (some b) c
@[reducible] def qm(a:BinOp)(b:Nat)(c:AOp):AI:= .bin a (.t b) c
@[reducible] def qn(a:Nat)(b:Option Nat)(c:Nat):CO:=qb a (qk b c)
@[reducible] def qo(a:Nat)(b c:AK):AK:= .cond (.t a) b c
@[reducible] def qp(a:Nat)(b:FuncId)(c:List AOp):CO:=qb a (.call b c)
@[reducible] def qq(a b c:Nat):CO:=qb a (qi b c)
@[reducible] def qr(a:Bool):AV:= .p (.bool a)
@[reducible] def qt(a:Nat)(b:BinOp)(c:Nat)(d:AOp):CO:=qb a (qm b c d)
@[reducible] def qu(a b:Nat):CO:=qn a none b
@[reducible] def qv(a:List UInt8):AV:= .p (.str a)
@[reducible] def qw(a:Nat):AI:= .nilck (.t a)
@[reducible] def qx(a:Nat)(b:BinOp)(c:Nat)(d:Int):CO:=qt a b c (qj d)
@[reducible] def qy(a:Option (Nat × Bool))(b:AI):CO:=⟨none,a,b⟩
@[reducible] def qz:AV:=qr false
@[reducible] def qA(a:List CO):AK:=qe a .ret
@[reducible] def qB(a:List CO)(b:Nat)(c d:AK):AK:=qe a (qo b c d)
@[reducible] def qC:AV:=qh 0
@[reducible] def qD(a:AI):CO:=qy none a
@[reducible] def qF:AV:=qv []
@[reducible] def qG(a:Nat)(b c:AOp):CO:=qD (.st a b c)
@[reducible] def qH(a b c:Nat):CO:=qn a (some b) c
@[reducible] def qI(a b:Nat)(c:Bool)(d:AI):CO:=ql a (b,c) d
@[reducible] def qJ(a b:Nat)(c:AI):CO:=qI a b true c
@[reducible] def qK(a b:Nat)(c:AI):CO:=qI a b false c
@[reducible] def qL(a:AOp):AI:= .len false a
@[reducible] def qM(a:Nat)(b:Int):CO:=qd a (qj b)
@[reducible] def qN(a:Nat)(b c:AOp):AI:= .pick (.t a) b c
@[reducible] def qO(a:List CO)(b c:AK):AK:=qe a (.seq b c)
@[reducible] def qQ(a:List CO)(b:Nat)(c:AK):AK:=qB a b c .skip
@[reducible] def qS:AOp:= .c qz
@[reducible] def qT(a b:Nat)(c:AOp):CO:=qG a (.t b) c
@[reducible] def qU(a b:Nat)(c:AOp):AI:= .idxS a (.t b) c
@[reducible] def qV(a b c:Nat):CO:=qT a b (.t c)
@[reducible] def qW(a b:Nat):CO:=qb a (qw b)
@[reducible] def qX(a b:Nat)(c:List AV)(d:Nat)(e:List (Nat × Nat × AOp)):CO:=qb a (.bsl b c d e)
@[reducible] def qY(a:Nat)(b:List AV):CO:=qb a (.alloc b)
@[reducible] def qZ(a:Nat):CO:=qg a 0
@[reducible] def wa(a:Nat)(b:AK):AK:= .blk a (.loop b)
@[reducible] def wb(a b:Nat)(c:Int):CO:=qx a .eql b c
@[reducible] def wc(a:Nat):AI:=qL (.t a)
@[reducible] def wd(a:AK)(b:List CO):AK:= .seq a (.reg b)
@[reducible] def we:AV:=qr true
@[reducible] def wg(a:Nat):AI:=qk none a
@[reducible] def wh(a:Option Nat)(b c:Nat):CO:=qD (.chk a b c)
@[reducible] def wj(a:List CO)(b:Nat)(c:List CO):AK:=qQ a b (qA c)
@[reducible] def wl(a b:Nat)(c d:AOp):CO:=qb a (qN b c d)
@[reducible] def wm(a b:Nat):CO:=qb a (wc b)
@[reducible] def wn(a:Nat)(b:List AV)(c:List (Nat × Nat × AOp)):CO:=qb a (.bld b c)
@[reducible] def wo(a:Nat)(b:BinOp)(c d:Nat):CO:=qt a b c (.t d)
@[reducible] def wq(a:Nat):AI:= .mov (.t a)
@[reducible] def ws(a:Nat):AI:= .not (.t a)
@[reducible] def wt(a b:Nat):AI:= .box a (.t b)
@[reducible] def wu(a b c:Nat)(d:AOp):CO:=qb a (qU b c d)
@[reducible] def ww(a:Nat)(b:List AOp):CO:=qp a aW b
@[reducible] def wx(a b:Nat):AI:= .ext a (.t b)
@[reducible] def wy(a:Nat)(b:AK)(c:List CO):AK:=wd (.blk a b) c
@[reducible] def wz:AOp:= .c we
@[reducible] def wA:AK:= .exit 0
@[reducible] def wB(a b c d:Nat):CO:=wu a b c (.t d)
@[reducible] def wD(a b c:Nat)(d:AOp):AI:= .app a b (.t c) d
@[reducible] def wE(a b c:Nat):Nat × Nat × AOp:=(a,b,.t c)
@[reducible] def wF(a b:Nat)(c:Int):CO:=qx a .add b c
@[reducible] def wG(a b c:Nat):CO:=qJ a b (wg c)
@[reducible] def wH(a:Nat):CO:=qd a qS
@[reducible] def wI(a b c:Nat):CO:=qb a (wt b c)
@[reducible] def wJ(a b c d:Nat):CO:=qJ a b (qi c d)
@[reducible] def wK(a:Nat)(b:AOp):List AOp:=[.t a,b]
@[reducible] def wL(a:Nat)(b:FuncId)(c:Nat)(d:AOp):CO:=qp a b (wK c d)
@[reducible] def wM(a:Nat)(b:FuncId)(c d:Nat):CO:=wL a b c (.t d)
@[reducible] def wN(a:List CO)(b:Nat)(c:AK):AK:=qB a b .skip c
@[reducible] def wP(a:List CO)(b:Nat)(c d:AK):AK:= .seq (wN a b c) d
@[reducible] def wQ(a:List CO)(b:Nat)(c:AK):AK:=qe a (wa b c)
@[reducible] def wR(a b c:Nat):CO:=qb a (wx b c)
@[reducible] def wS(a:List UInt8):AOp:= .c (qv a)
@[reducible] def wT(a b:Nat):CO:=qq a 0 b
@[reducible] def wU(a:Nat):CO:=qM a 0
@[reducible] def wV(a:CO)(b c:Nat):List CO:=[a,qg b c]
@[reducible] def wW(a b:Nat)(c:Int)(d e:Nat):List CO:=wV (wb a b c) d e
@[reducible] def wX(a b:Nat):CO:=wh none a b
@[reducible] def wY(a:BinOp)(b:Nat)(c:Int):AI:=qm a b (qj c)
@[reducible] def wZ(a b c:Nat):CO:=wM a cG b c
@[reducible] def xa(a b c:Nat):CO:=wo a .lss b c
@[reducible] def xb(a:List CO)(b:AK)(c:List CO):AK:=qO a b (qA c)
@[reducible] def xc(a b c:Nat)(d:AOp):CO:=wl a b (.t c) d
@[reducible] def xd(a b:List CO):AK:=qe a (qA b)
@[reducible] def xe(a b:Nat)(c:Int):Nat × Nat × AOp:=(a,b,qj c)
@[reducible] def xf(a:Nat)(b:Int):Nat × Nat × AOp:=xe a 1 b
@[reducible] def xg(a b c d:Nat):AI:=wD a b c (.t d)
@[reducible] def xh(a b c d e:Nat):CO:=qb a (xg b c d e)
@[reducible] def xi(a:Nat):CO:=qg a 1
@[reducible] def xj(a b:Nat)(c:AOp)(d:Nat):CO:=wl a b c (.t d)
@[reducible] def xk:CO:=wH 4
@[reducible] def xm(a:List CO)(b:Nat)(c:List CO):AK:=qQ a b (.reg c)
@[reducible] def xn(a b:Nat):Nat × Nat × AOp:=wE a 1 b
@[reducible] def xo(a b:Nat):CO:=qb a (ws b)
@[reducible] def xp(a:Nat):List AOp:=[.t a]
@[reducible] def xq(a:Nat)(b:FuncId)(c:Nat):CO:=qp a b (xp c)
@[reducible] def xr(a:Nat):CO:=qg a 5
@[reducible] def xt(a b:Nat)(c:Int)(d e f:Nat)(g h:AK):AK:=qB (wW a b c d e) f g h
@[reducible] def xu(a b:Nat):CO:=qq a 2 b
@[reducible] def xv(a b:Nat):CO:=qV 1 a b
@[reducible] def xw:RV:= .t 4
@[reducible] def xx(a:Nat):CO:=qg a 2
@[reducible] def xy(a b c:Nat):CO:=qK a b (wq c)
@[reducible] def xz(a b:List CO)(c:AK):AK:=qe a (qe b c)
@[reducible] def xA(a:List CO)(b:Nat)(c:AK)(d:Nat)(e:AK)(f:List CO):AK:=wP a b c (wy d e f)
@[reducible] def xB(a:Nat)(b:AV):CO:=qd a (.c b)
@[reducible] def xC(a:Nat)(b:List AOp):CO:=qp a bO b
@[reducible] def xD(a b c:Nat):CO:=qK a b (wg c)
@[reducible] def xE:RV:= .t 2
@[reducible] def xF(a b:Nat)(c:Int):CO:=qx a .sub b c
@[reducible] def xG(a:FuncId)(b:Nat)(c:AOp):AI:= .call a (wK b c)
@[reducible] def xH(a b c:Nat):CO:=wM a cY b c
@[reducible] def xI(a b c:Nat):CO:=xc a b c qS
@[reducible] def xJ(a b c d:Nat):CO:=qK a b (qi c d)
@[reducible] def xK(a b:Nat)(c:BinOp)(d:Nat)(e:Int):CO:=qJ a b (wY c d e)
@[reducible] def xL(a b:Nat)(c:List AV)(d:Nat)(e:List (Nat × Nat × AOp)):CO:=qb a (.bslP b c d e)
@[reducible] def xM(a:Nat)(b:AK):AK:=qo a .skip b
@[reducible] def xN(a b c:Nat):CO:=qJ a b (wq c)
@[reducible] def xO(a:Nat)(b c:AOp):List AOp:=[.t a,b,c]
@[reducible] def xP(a b:Nat)(c:AOp):List AOp:=xO a (.t b) c
@[reducible] def xQ(a b c:Nat):List AOp:=xP a b (.t c)
@[reducible] def xR(a:Nat)(b:FuncId)(c d e:Nat):CO:=qp a b (xQ c d e)
@[reducible] def xS(a b:Nat):CO:=qq a 1 b
@[reducible] def xT(a:AK)(b:List CO):AK:= .seq a (qA b)
@[reducible] def xU(a:List CO)(b:Nat)(c:List CO)(d:Nat)(e:AK)(f:Nat)(g:AK)(h:List CO):AK:=wQ a b (xA c d e f g h)
@[reducible] def xV:CO:=wU 4
@[reducible] def xW(a:Nat)(b:FuncId)(c:Nat)(d:Int):CO:=wL a b c (qj d)
@[reducible] def xX(a b:Nat):RV:= .c a (some b)
@[reducible] def xY(a b c:Nat):CO:=xj a b wz c
@[reducible] def xZ(a b:Nat):CO:=qq a 3 b
@[reducible] def x7(a b:Nat):CO:=wF a b 1
@[reducible] def x8(a:Nat):CO:=qg 6 a
@[reducible] def x9(a:List AOp):AI:= .call jt a
@[reducible] def ya(a b c:Nat):CO:=wh (some a) b c
@[reducible] def yb(a b:Nat)(c:Int):CO:=xW a gR b c
@[reducible] def yc(a b:List CO):AK:=qe a (.reg b)
@[reducible] def yd(a:Nat):CO:=qg a 8
@[reducible] def ye(a b:Nat):CO:=qH a 4 b
@[reducible] def yf:AOp:=qj 0
@[reducible] def yg(a b:Nat)(c:Int):CO:=xW a cu b c
@[reducible] def yh(a:Nat):CO:=qg a 7
@[reducible] def yi(a b:Nat):Nat × Nat × AOp:=wE 0 a b
@[reducible] def yj:List AV:=[.nils]
@[reducible] def yk(a b:Nat)(c:AOp):CO:=ww a (wK b c)
@[reducible] def yl(a:Int):Nat × Nat × AOp:=xf 0 a
@[reducible] def ym(a:List CO)(b:AK):AK:= .cut (.reg a) b
@[reducible] def yn(a b:List CO)(c:Nat)(d:List CO)(e:AK):AK:=qO a (wj b c d) e
@[reducible] def yp(a:BinOp)(b:Nat)(c:AOp):AI:= .bins a (.t b) c
@[reducible] def yq:CO:=wH 2
@[reducible] def yr(a b:Nat):List (Nat × Nat × AOp):=[yi a b]
@[reducible] def yt(a b:Nat)(c:List AV)(d e f:Nat):CO:=qX a b c d (yr e f)
@[reducible] def yu(a b c d:Nat):CO:=xR a bf b c d
def pw:FK:=⟨15,[.t 6],xd [wH 6] [qZ 7,xi 8,wo 9 .geq 7 8,qg 10 9,xN 11 10 0,xN 12 10 2,qJ 13 10 (qm .leq 11 (.t 12)),xI 14 10 13,x8 14]⟩
theorem EA:ag Tryz.prog jt=some pw:=by kernel_rfl
def om:FK:=⟨18,[xw],xb [xV] (xU [wU 5] 0 [xr 6,qZ 7,qb 8 (.len true (.t 7)),xa 9 6 8] 9 wA 1 (wj [qZ 12,xr 13,qb 14 (.idxStr (.t 12) (.t 13)),xi 15,wo 16 .eql 14 15] 16 (wV (xr 17) 4 17)) [xr 10,x7 11 10,qg 5 11]) [qM 4 (-1)]⟩
theorem zT:ag Tryz.prog kM=some om:=by kernel_rfl
def po:FK:=⟨28,[xE],xb [wU 2] (.blk 0 (qB [qZ 4,qt 5 .geq 4 (.c (qf .u8 97)),xr 6,xN 7 6 0,qJ 8 6 (qm .leq 7 (.c (qf .u8 122))),xI 9 6 8,qg 3 9] 3 (qA [qM 2 1]) (qB [qZ 11,qt 12 .geq 11 (.c (qf .u8 48)),qg 13 12,xN 14 13 0,qJ 15 13 (qm .leq 14 (.c (qf .u8 57))),xI 16 13 15,qg 10 16] 10 (qA [qM 2 2]) (qB [qZ 18,qp 19 kM [wS [40,41,123,125,59,44,43,45,42,47,37,60,61,38,33,64],.t 18],qx 20 .geq 19 0,qg 17 20] 17 (qA [qM 2 3]) (wj [qZ 22,qt 23 .eql 22 (.c (qf .u8 32)),qg 24 23,xy 25 24 0,qK 26 24 (qm .eql 25 (.c (qf .u8 10))),xY 27 24 26,qg 21 27] 21 [qM 2 4]))))) [wU 2]⟩
theorem zu:ag Tryz.prog kG=some po:=by kernel_rfl
def tn:FK:=⟨21,[xw],xb [xk] (xU [wU 5] 0 [xr 6,qZ 7,qb 8 (.len true (.t 7)),xa 9 6 8] 9 wA 1 (wj [qZ 12,xr 13,qb 14 (.idxStr (.t 12) (.t 13)),xq 15 kG 14,xi 16,wo 17 .neq 15 16] 17 [xk]) [xr 10,x7 11 10,qg 5 11]) [qZ 18,qb 19 (.len true (.t 18)),qx 20 .gtr 19 0,qg 4 20]⟩
theorem CY:ag Tryz.prog nG=some tn:=by kernel_rfl
def nV:FK:=⟨2,[.t 0],xd [xB 0 .nils] (wV (qX 1 1 [qF] 9 [(0,1,wS [102,110]),(1,1,wS [108,101,116]),(2,1,wS [115,97,121]),(3,1,wS [112,117,116]),(4,1,wS [105,102]),(5,1,wS [101,108,115,101]),(6,1,wS [108,111,111,112]),(7,1,wS [98,97,99,107]),(8,1,wS [100,111])]) 0 1)⟩
theorem yz:ag Tryz.prog fU=some nV:=by kernel_rfl
def tZ:FK:=⟨18,[xE],qe [yq] (xb (wV (qp 5 fU []) 3 5) (xU [xV] 0 [x8 4,qg 7 3,wm 8 7,xa 9 6 8] 9 wA 1 (wj [qg 12 3,qg 13 4,wB 14 1 12 13,qu 15 14,qZ 16,qb 17 (yp .eql 15 (.t 16))] 17 [qd 2 wz]) [qg 10 4,x7 11 10,qg 4 11]) [yq])⟩
theorem Ck:ag Tryz.prog nr=some tZ:=by kernel_rfl
def rz:FK:=⟨15,[xE],xd [yq] [qZ 3,xW 4 nG 3 1,qg 5 4,xN 6 5 0,qJ 7 5 (.len true (.t 6)),xK 8 5 .leq 7 4,xI 9 5 8,qg 10 9,xN 11 10 0,qJ 12 10 (.call nr (xp 11)),qJ 13 10 (ws 12),xI 14 10 13,qg 2 14]⟩
theorem Bb:ag Tryz.prog cA=some rz:=by kernel_rfl
def mA:FK:=⟨5,[xE],xb [wU 2] (wj [qZ 3,wb 4 3 4] 4 [qM 2 2]) [qM 2 1]⟩
theorem Bt:ag Tryz.prog jm=some mA:=by kernel_rfl
def de:FK:=⟨13,[xE,.t 3],xb [wU 2,wU 3] (qe [qZ 4] (.blk 0 (wP (wW 6 4 1 5 6) 5 (.reg (wW 7 4 2 5 7)) (qo 5 (qA [wU 2,wU 3]) (wP (wW 9 4 11 8 9) 8 (.reg (wW 10 4 12 8 10)) (qo 8 (qA [qM 2 1,qM 3 1]) (wj (wW 12 4 13 11 12) 11 [wU 2,qM 3 3]))))))) [qM 2 2,qM 3 2]⟩
theorem Bm:ag Tryz.prog jf=some de:=by kernel_rfl
def ji:FK:=⟨86,[xw],qe [wI 2 4 0,xk] (yn [wT 10 2,qu 11 10,xq 12 jf 11,qg 9 12,wR 13 0 9,wR 14 1 9,qg 5 13,x8 14] [xi 15,qx 16 .lss 15 1,qg 17 16,xJ 18 17 0 2,xD 19 17 18,qK 20 17 (x9 (xO 19 (qj 1) (qj 13))),qK 21 17 (ws 20),xY 22 17 21,qg 23 22,xJ 24 23 3 2,xD 25 23 24,qK 26 23 (wc 25),xy 27 23 5,xy 28 23 6,qK 29 23 (x9 (xQ 26 27 28)),qK 30 23 (ws 29),xY 31 23 30] 31 [xk] (yn [wT 32 2,qu 33 32,wb 34 33 2,qg 35 34,xJ 36 35 0 2,xD 37 35 36,qK 38 35 (wY .eql 37 13),xY 39 35 38,qg 7 39] [yh 40,xu 41 2,qu 42 41,xq 43 cA 42,qb 44 (.beq true (.t 40) (.t 43)),qg 45 44,xy 46 45 7,qK 47 45 (ws 46),xy 48 45 47,wJ 49 48 2 2,wG 50 48 49,qJ 51 48 (yp .neq 50 (.c qF)),qK 52 45 (qN 48 (.t 51) qS),xY 53 45 52,qg 54 53,xJ 55 54 1 2,xD 56 54 55,qK 57 54 (x9 (xO 56 yf (qj 255))),qK 58 54 (ws 57),xY 59 54 58,qg 60 59,xJ 61 60 0 2,xD 62 60 61,qK 63 60 (wY .neq 62 1),xy 64 60 63,wJ 65 64 1 2,wG 66 64 65,xK 67 64 .neq 66 0,qK 68 60 (qN 64 (.t 67) qS),xY 69 60 68] 69 [xk] (xT (xU [wU 8] 0 [yd 70,xZ 71 2,qu 72 71,wm 73 72,xa 74 70 73] 74 wA 1 (wj [xZ 77 2,qu 78 77,yd 79,wB 80 4 78 79,ye 81 80,xi 82,xF 83 82 1,wM 84 fS 81 83,xo 85 84] 85 [xk]) [yd 75,x7 76 75,qg 8 76]) [qd 4 wz])))⟩
theorem se:ag Tryz.prog fS=some ji:=by kernel_rfl
def oh:FK:=⟨21,[xE],qe [wI 1 4 0,wU 2] (xb [qM 3 1] (xU [xV] 0 [qg 5 4,xZ 6 1,qu 7 6,wm 8 7,xa 9 5 8] 9 wA 1 (.reg [qg 12 3,xZ 13 1,qu 14 13,qg 15 4,wB 16 4 14 15,ye 17 16,xq 18 gF 17,wo 19 .add 12 18,qg 3 19]) [qg 10 4,x7 11 10,qg 4 11]) (wV (qg 20 3) 2 20))⟩
theorem zp:ag Tryz.prog gF=some oh:=by kernel_rfl
def mR:FK:=⟨10,[xE],xd [wI 1 4 0,yq] [ye 3 1,xW 4 fS 3 6,qg 5 4,qJ 6 5 (qk (some 4) 1),qJ 7 5 (.call gF (xp 6)),xK 8 5 .leq 7 30,xI 9 5 8,qg 2 9]⟩
theorem uJ:ag Tryz.prog eV=some mR:=by kernel_rfl
def jh:FK:=⟨108,[xw],yn [wI 2 5 0,xk] [xi 7,qx 8 .lss 7 1,yd 9,xJ 10 9 0 2,xD 11 9 10,qK 12 9 (x9 (xO 11 (qj 1) (qj 8))),qK 13 9 (ws 12),xY 14 9 13,qg 15 14,xJ 16 15 2 2,xJ 19 15 0 2,xD 17 15 16,qK 18 15 (wc 17),xD 20 15 19,qK 21 15 (.qcall jm (xp 20)),qK 22 15 (qm .neq 18 (.t 21)),xY 23 15 22] 23 [xk] (yn [wT 24 2,qu 25 24,wb 26 25 1,qg 27 26,xJ 28 27 0 2,xD 29 27 28,qK 30 27 (wY .eql 29 2),xY 31 27 30,qg 5 31] [xr 32,xS 33 2,qu 34 33,xq 35 cA 34,qb 36 (.beq true (.t 32) (.t 35)),qg 37 36,xy 38 37 5,qK 39 37 (ws 38),xy 40 37 39,wJ 41 40 1 2,wG 42 40 41,qJ 43 40 (yp .neq 42 (.c qF)),qK 44 37 (qN 40 (.t 43) qS),xY 45 37 44] 45 [xk] (.seq (xU [wU 6] 0 [qg 46 6,xu 47 2,qu 48 47,wm 49 48,xa 50 46 49] 50 wA 1 (wj [xu 53 2,qu 54 53,qg 55 6,wB 56 4 54 55,ye 57 56,xq 58 eV 57,xo 59 58] 59 [xk]) [qg 51 6,x7 52 51,x8 52]) (.seq (wj [wT 60 2,qu 61 60,wb 62 61 8,qg 63 62,wJ 64 63 2 2,wG 65 63 64,qJ 66 63 (qU 4 65 yf),wJ 67 63 0 66,wG 68 63 67,xK 69 63 .neq 68 13,xI 70 63 69] 70 [xk]) (xT (wj [qq 71 4 2,qu 72 71,wm 73 72,qx 74 .gtr 73 0,qg 75 74,wJ 76 75 0 2,wG 77 75 76,xK 78 75 .neq 77 5,xI 79 75 78,qg 80 79,xJ 81 80 3 2,xD 82 80 81,qK 83 80 (wc 82),qK 84 80 (wY .gtr 83 0),xy 85 80 84,wJ 86 85 0 2,wG 87 85 86,xK 88 85 .neq 87 5,qK 89 80 (qN 85 (.t 88) qS),xy 90 80 89,wJ 91 90 0 2,wG 92 90 91,xK 93 90 .neq 92 6,qK 94 80 (qN 90 (.t 93) qS),xY 95 80 94] 95 [xk]) [xZ 96 2,qu 97 96,xi 98,xF 99 98 1,wM 100 bX 97 99,qg 101 100,wJ 102 101 4 2,wG 103 101 102,xN 104 101 1,xK 105 101 .sub 104 1,qJ 106 101 (xG bX 103 (.t 105)),xI 107 101 106,qg 4 107]))))⟩
theorem rt:ag Tryz.prog jd=some jh:=by kernel_rfl
def ph:FK:=⟨19,[xw],xb [xk] (xU [wU 5] 0 [xr 6,qZ 7,wm 8 7,xa 9 6 8] 9 wA 1 (wj [qZ 12,xr 13,wB 14 5 12 13,qH 15 5 14,xi 16,wM 17 jd 15 16,xo 18 17] 18 [xk]) [xr 10,x7 11 10,qg 5 11]) [qd 4 wz]⟩
theorem zk:ag Tryz.prog bX=some ph:=by kernel_rfl
def vv:FK:=⟨32,[xE],xb [wI 1 3 0,yq] (xU [wU 3] 0 [qg 4 3,xS 5 1,qu 6 5,wm 7 6,xa 8 4 7] 8 wA 1 (wj [xS 11 1,qu 12 11,qg 13 3,wB 14 1 12 13,qu 15 14,xq 16 cA 15,xo 17 16] 17 [yq]) [qg 9 3,x7 10 9,qg 3 10]) [wT 18 1,qu 19 18,xq 20 cA 19,qg 21 20,wJ 22 21 1 1,wG 23 21 22,qJ 24 21 (wc 23),xK 25 21 .leq 24 3,xI 26 21 25,qg 27 26,wJ 28 27 2 1,wG 29 27 28,qJ 30 27 (xG bX 29 (qj 4)),xI 31 27 30,qg 2 31]⟩
theorem Fp:ag Tryz.prog ou=some vv:=by kernel_rfl
def kX:FK:=⟨29,[xE],qe [wU 2] (xb [qZ 5,wm 6 5,qg 3 6] (xU [xV] 0 [qg 7 4,qZ 8,wm 9 8,xa 10 7 9] 10 wA 1 (.reg [qg 13 3,qZ 14,qg 15 4,wB 16 5 14 15,xZ 17 16,qZ 21,qg 22 4,wB 23 5 21 22,qq 24 4 23,qu 18 17,qu 25 24,xq 19 eI 18,wX 24 25,wo 20 .add 13 19,xq 26 eI 25,wo 27 .add 20 26,qg 3 27]) [qg 11 4,x7 12 11,qg 4 12]) (wV (qg 28 3) 2 28))⟩
theorem pn:ag Tryz.prog eI=some kX:=by kernel_rfl
def tT:FK:=⟨22,[xE],qe [wI 1 1 0,wU 2] (xb [wU 3] (xU [xV] 0 [qg 5 4,wT 6 1,qu 7 6,wm 8 7,xa 9 5 8] 9 wA 1 (.reg [qg 12 3,wT 13 1,qu 14 13,qg 15 4,wB 16 3 14 15,xu 17 16,qu 18 17,xq 19 eI 18,wo 20 .add 12 19,qg 3 20]) [qg 10 4,x7 11 10,qg 4 11]) (wV (qg 21 3) 2 21))⟩
theorem Dq:ag Tryz.prog nK=some tT:=by kernel_rfl
def jY:FK:=⟨26,[xE],yn [wI 1 1 0,yq] [wT 4 1,qu 5 4,wm 6 5,qp 7 jt (xO 6 (qj 1) (qj 4)),xo 8 7] 8 [yq] (xT (xU [wU 3] 0 [qg 9 3,wT 10 1,qu 11 10,wm 12 11,xa 13 9 12] 13 wA 1 (wj [wT 16 1,qu 17 16,qg 18 3,wB 19 3 17 18,qH 20 3 19,xq 21 ou 20,xo 22 21] 22 [yq]) [qg 14 3,x7 15 14,qg 3 15]) [qH 23 1 1,xq 24 nK 23,qx 25 .leq 24 40,qg 2 25])⟩
theorem rb:ag Tryz.prog dy=some jY:=by kernel_rfl
def vC:FK:=⟨22,[xw],xb [wI 2 1 0,xV] (xU [wU 5] 0 [xr 6,wT 7 2,qu 8 7,wm 9 8,xa 10 6 9] 10 wA 1 (wj [wT 13 2,qu 14 13,xr 15,wB 16 3 14 15,wT 17 16,qu 18 17,xi 19,qb 20 (yp .eql 18 (.t 19))] 20 (wV (xr 21) 4 21)) [xr 11,x7 12 11,qg 5 12]) [qM 4 (-1)]⟩
theorem Ea:ag Tryz.prog jq=some vC:=by kernel_rfl
def gg:FK:=⟨13,[],xm [qZ 4,qW 5 4,qq 6 4 5,qu 7 6,wb 8 7 0] 8 [qZ 9,xi 10,qW 11 9,qq 12 4 11,xv 12 10]⟩
theorem sG:ag Tryz.prog bA=some gg:=by kernel_rfl
def gh:FK:=⟨27,[xw],xb [xV] (xU [qZ 6,qW 7 6,xu 8 7,qu 9 8,wm 10 9,xF 11 10 1,qg 5 11] 0 [xr 12,qx 13 .geq 12 0] 13 wA 1 (wj [qZ 16,qW 17 16,xu 18 17,qu 19 18,xr 20,wB 21 3 19 20,wT 22 21,qu 23 22,xi 24,qb 25 (yp .eql 23 (.t 24))] 25 (wV (xr 26) 4 26)) [xr 14,xF 15 14 1,qg 5 15]) [qM 4 (-1)]⟩
theorem sh:ag Tryz.prog dL=some gh:=by kernel_rfl
def rY:FK:=⟨11,[xE],qe [xB 2 qF] (xd [qZ 4,qx 5 .rem 4 26,xr 3] [x8 3,qg 7 3,x7 8 7,qb 9 (.slStr (wS [97,98,99,100,101,102,103,104,105,106,107,108,109,110,111,112,113,114,115,116,117,118,119,120,121,122]) (some (.t 6)) (some (.t 8))),qb 10 (.bins .add (wS [118]) (.t 9)),qg 2 10])⟩
theorem Bu:ag Tryz.prog jk=some rY:=by kernel_rfl
def gG:AK:=xz [xB 6 qF] [qZ 8,xi 9,wM 10 dL 8 9,qg 7 10] (.cut (xm [yh 11,qx 12 .geq 11 0,qg 13 12,xN 14 13 0,qJ 15 13 (qw 14),wJ 16 13 2 15,wG 17 13 16,xN 18 13 7,qJ 19 13 (qU 3 17 (.t 18)),wJ 20 13 2 19,wG 21 13 20,xN 22 13 2,qJ 23 13 (qm .eql 21 (.t 22)),xI 24 13 23] 24 [qZ 25,xW 26 bA 25 2]) (qe [qZ 27,qZ 28,qW 29 28,xu 30 29,xi 32,qZ 33,qW 34 33,xZ 35 34,xx 37,qu 31 30,qu 36 35,wn 38 [qF,qC,qC] [xn 0 32,xn 1 36,xn 2 37],xL 39 3 [qF,qC,qC] 1 (yr 3 38),xh 40 3 32 31 39,qW 41 27,xu 42 41,xv 42 40] (xd [qZ 43,qZ 44,qW 45 44,xZ 46 45,qu 47 46,x7 48 47,qW 49 43,xZ 50 49,xv 50 48] [qZ 51,qW 52 51,xZ 53 52,qu 54 53,xF 55 54 1,xq 56 jk 55,x8 56])))
def gO:FK:=⟨57,[.t 6],(AK.whole gG)⟩
theorem sY:ag Tryz.prog eA=some gO:=by kernel_rfl
def lZ:FK:=⟨23,[xw],qe [xB 4 qF] (xb [qZ 6,xi 7,wM 8 dL 6 7,yd 5] (qQ [xr 9,qx 10 .lss 9 0] 10 (xd [qZ 11,xW 12 bA 11 3] (wV (xi 13) 4 13))) [qZ 14,qW 15 14,xu 16 15,qu 17 16,xr 18,wB 19 3 17 18,xS 20 19,qu 21 20,xq 22 jk 21,qg 4 22])⟩
theorem tk:ag Tryz.prog ew=some lZ:=by kernel_rfl
def gb:AK:=qe [wI 3 4 1,qY 4 [qC,qC,qF,.nils]] (.cut (xm [wT 8 3,qu 9 8,wb 10 9 2] 10 [qZ 11,xu 12 3,qu 13 12,wM 14 ew 11 13,xu 15 3,xv 15 14]) (.cut (qQ [wT 16 3,qu 17 16,wb 18 17 13] 18 (qe [qZ 19,qW 20 19,wT 21 20,xu 23 3,qH 22 1 21,qu 24 23,wM 25 jq 22 24,qg 5 25] (qB [xr 26,qx 27 .lss 26 0,qg 28 27,xy 29 28 5,xy 30 28 0,qK 31 28 (qw 30),xJ 32 28 1 31,xD 33 28 32,qK 34 28 (qm .geq 29 (.t 33)),xY 35 28 34] 35 (.reg [qZ 36,xW 37 bA 36 4]) (xm [qZ 38,qW 39 38,wT 40 39,wT 41 40,xr 43,xZ 48 3,qu 42 41,wB 44 3 42 43,xS 45 44,qu 46 45,wm 47 46,qu 49 48,wm 50 49,wo 51 .neq 47 50] 51 [qZ 52,xW 53 bA 52 5])))) (qO (wV (qX 54 4 [qC,qC,qF,.nils] 0 []) 6 54) (xU [wU 7] 0 [yh 55,xZ 56 3,qu 57 56,wm 58 57,xa 59 55 58] 59 wA 1 (.reg [qg 62 6,qZ 63,xZ 64 3,qu 65 64,yh 66,wB 67 4 65 66,ye 68 67,wM 69 cQ 63 68,yt 70 4 [qC,qC,qF,.nils] 1 4 69,xh 71 4 56 62 70,x8 71]) [yh 60,x7 61 60,qg 7 61]) (xd [qg 72 6,xZ 73 3,xv 73 72] [ye 74 3,qV 4 4 74]))))
def gi:FK:=⟨75,[xX 4 4],(AK.whole gb)⟩
theorem si:ag Tryz.prog cQ=some gi:=by kernel_rfl
def fq:AK:=xz [xB 6 .nils] (wV (qX 13 5 [qC,qF,.nils,.nils,.nils] 0 []) 7 13) (qO [qZ 14,qW 15 14,xu 16 15,qu 17 16,wm 18 17,qg 8 18] (xU [wU 9] 0 [qg 19 9,xi 20,wm 21 20,xa 22 19 21] 22 wA 1 (qe [xi 25,qg 26 9,wB 27 5 25 26,qH 28 5 27,qY 10 [qC,qF,.nils,.nils,.nils],qV 5 10 28] (qO (wV (qX 29 4 [qC,qC,qF,.nils] 0 []) 11 29) (xU [wU 12] 2 [qg 30 12,xu 31 10,qu 32 31,wm 33 32,xa 34 30 33] 34 (.exit 2) 3 (.reg [qg 37 11,qZ 38,xu 39 10,qu 40 39,qg 41 12,wB 42 4 40 41,ye 43 42,wM 44 cQ 38 43,yt 45 4 [qC,qC,qF,.nils] 1 4 44,xh 46 4 56 37 45,qg 11 46]) [qg 35 12,x7 36 35,qg 12 36]) (ym [qg 47 11,xu 48 10,xv 48 47] (.cut (xm [wT 49 10,qu 50 49,wb 51 50 1] 51 [qZ 52,xS 53 10,qu 54 53,xx 55,xR 56 eA 52 54 55,xS 57 10,xv 57 56]) (.cut (xm [wT 58 10,qu 59 58,wb 60 59 2] 60 [qZ 61,xS 62 10,qu 63 62,wM 64 ew 61 63,xS 65 10,xv 65 64]) (xz [qZ 66,xZ 67 10,qu 68 67,xx 69,x7 70 69,xR 71 cx 66 68 70,xZ 72 10,xv 72 71] [qZ 73,qq 74 4 10,qu 75 74,xx 76,x7 77 76,xR 78 cx 73 75 77,qq 79 4 10,xv 79 78] (.reg [yh 80,qH 81 5 10,yt 82 5 [qC,qF,.nils,.nils,.nils] 1 5 81,xh 83 5 96 80 82,qg 7 83]))))))) [qg 23 9,x7 24 23,qg 9 24]) (.cut (xm [xx 84,qx 85 .gtr 84 0] 85 [qZ 86,qZ 87,qW 88 87,xu 89 88,qu 90 89,yd 91,qb 92 (.slS 3 (.t 90) none (some (.t 91))),qW 93 86,xu 94 93,xv 94 92]) (qA (wV (yh 95) 6 95))))
def fG:FK:=⟨96,[.t 6],(AK.whole fq)⟩
theorem pY:ag Tryz.prog cx=some fG:=by kernel_rfl
def ov:AK:=xz [wI 2 1 0,qY 4 [qF,.nils,.nils],wU 5,wU 6] [qH 11 1 2,xi 12,wn 13 [.nils,qC,.nils,qC,qC] [xn 0 11,xn 1 12],wI 14 5 13,qg 7 14] (ym [wT 15 2,qu 16 15,xi 17,wB 18 3 16 17,qH 19 3 18,qY 8 [qF,.nils,.nils],qV 3 8 19] (.cut (xm [qH 20 1 2,wT 21 8,qu 22 21,wM 23 jq 20 22,xi 24,wo 25 .neq 23 24] 25 [yh 26,xW 27 bA 26 2]) (qO (wV (qX 28 1 [qF] 0 []) 9 28) (xU [wU 10] 0 [qg 29 10,xS 30 8,qu 31 30,wm 32 31,xa 33 29 32] 33 wA 1 (.reg [qg 36 9,yh 37,xS 38 8,qu 39 38,qg 40 10,wB 41 1 39 40,qu 42 41,qp 43 eA (xP 37 42 yf),qX 44 1 [qF] 1 [xn 0 43],xh 45 1 16 36 44,qg 9 45]) [qg 34 10,x7 35 34,qg 10 35]) (qe [qg 46 9,xS 47 8,xv 47 46] (xd [yh 48,xu 49 8,qu 50 49,qp 51 cx (xP 48 50 yf),xu 52 8,xv 52 51] [yh 54,qW 55 54,qq 56 4 55,yh 58,qW 59 58,xZ 60 59,qH 53 3 8,qu 57 56,qu 61 60,qV 3 4 53,wX 56 57,wX 60 61,qg 5 57,x8 61])))))
def ow:FK:=⟨62,[xX 4 3,.t 5,.t 6],(AK.whole ov)⟩
theorem El:ag Tryz.prog mb=some ow:=by kernel_rfl
def ka:FK:=⟨27,[xE],yn [wI 1 1 0,wU 2] [qH 7 1 1,xq 8 dy 7,xo 9 8] 9 [qM 2 1] (xT (xU [wU 3] 0 [qg 10 3,wT 11 1,qu 12 11,wm 13 12,xa 14 10 13] 14 wA 1 (qe [qH 18 1 1,qg 19 3,wM 20 mb 18 19,qg 17 20,wR 21 0 17,wR 22 1 17,wR 23 2 17,qY 4 [qF,.nils,.nils],qV 3 4 21,qg 5 22,x8 23] (wj [xr 24,qx 25 .neq 24 0] 25 (wV (xr 26) 2 26))) [qg 15 3,x7 16 15,qg 3 16]) [wU 2])⟩
theorem re:ag Tryz.prog fj=some ka:=by kernel_rfl
def rH:FK:=⟨6,[xE],xd [wI 1 1 0,yq] [qH 3 1 1,xq 4 fj 3,wb 5 4 0,xr 2]⟩
theorem Bx:ag Tryz.prog mG=some rH:=by kernel_rfl
def nQ:FK:=⟨16,[xE],xb [yq] (xU [wU 3] 0 [qg 4 3,qZ 5,wm 6 5,xa 7 4 6] 7 wA 1 (wj [qZ 10,qg 11 3,wB 12 1 10 11,qu 13 12,qp 14 jt (xO 13 yf (qj 255)),xo 15 14] 15 [yq]) [qg 8 3,x7 9 8,qg 3 9]) [qd 2 wz]⟩
theorem yv:ag Tryz.prog jG=some nQ:=by kernel_rfl
def rO:FK:=⟨26,[xw],xd [wI 2 1 0,xk] [qH 5 1 2,xq 6 mG 5,qg 7 6,xN 8 7 1,qJ 9 7 (.call jG (xp 8)),xI 10 7 9,qg 11 10,xN 12 11 1,qJ 13 11 (wc 12),wJ 14 11 0 2,wG 15 11 14,wJ 16 11 0 2,wG 17 11 16,qJ 18 11 (wc 17),xK 19 11 .sub 18 1,qJ 20 11 (qU 3 15 (.t 19)),wJ 21 11 1 20,wG 22 11 21,qJ 23 11 (wc 22),qJ 24 11 (qm .eql 13 (.t 23)),xI 25 11 24,qg 4 25]⟩
theorem Bq:ag Tryz.prog mE=some rO:=by kernel_rfl
def gY:FK:=⟨17,[],qQ [qZ 4,qW 5 4,qq 6 6 5,qu 7 6,xo 8 7] 8 (yc [qZ 9,xi 10,qW 11 9,xS 12 11,xS 13 12,xv 13 10] [qZ 14,qW 15 14,qq 16 6 15,qT 1 16 wz])⟩
theorem sT:ag Tryz.prog cd=some gY:=by kernel_rfl
def gE:FK:=⟨17,[],wd (wj [qZ 2,qW 3 2,qq 4 5 3,qu 5 4,wb 6 5 0] 6 [qZ 7,xW 8 cd 7 3]) [qZ 9,qZ 10,qW 11 10,qq 12 5 11,qu 13 12,xF 14 13 1,qW 15 9,qq 16 5 15,xv 16 14]⟩
theorem ut:ag Tryz.prog eq=some gE:=by kernel_rfl
def ur:FK:=⟨20,[xw],xb [xV] (xU [qZ 6,wm 7 6,xF 8 7 1,yd 5] 0 [xr 9,qx 10 .geq 9 0] 10 wA 1 (wj [qZ 13,xr 14,wB 15 1 13 14,qu 16 15,xi 17,qb 18 (yp .eql 16 (.t 17))] 18 (wV (xr 19) 4 19)) [xr 11,xF 12 11 1,qg 5 12]) [qM 4 (-1)]⟩
theorem CK:ag Tryz.prog ko=some ur:=by kernel_rfl
def lI:FK:=⟨67,[.t 6],xz [wI 4 4 1,wU 6] [xB 7 .any,qZ 10,qW 11 10,wT 12 11,wT 13 12,qZ 15,qW 16 15,wT 17 16,xu 19 4,qu 14 13,qH 18 1 17,qu 20 19,wM 21 jq 18 20,wX 13 14,wB 22 3 14 21,qH 23 3 22,qY 7 [qF,.nils,.nils],qV 3 7 23] (qO [qX 24 1 [qF] 0 [],xS 25 7,qu 26 25,xh 27 1 16 24 26,wn 28 [.nils,.nils,qz,qC] [xn 0 27],wI 29 4 28,qg 8 29] (xU [wU 9] 0 [qg 30 9,xZ 31 4,qu 32 31,wm 33 32,xa 34 30 33] 34 wA 1 (.reg [yd 37,yd 38,qW 39 38,xS 40 39,qZ 42,xZ 43 4,qg 45 9,xx 48,qu 41 40,qu 44 43,wB 46 4 44 45,ye 47 46,yu 49 42 47 48,wX 40 41,xL 50 1 [qC] 1 [xn 0 49],xh 51 1 8 41 50,qW 52 37,xS 53 52,xv 53 51]) [qg 35 9,x7 36 35,qg 9 36]) (xb [qZ 54,xu 55 7,qu 56 55,yd 57,xR 58 aL 54 56 57] (wj [qZ 59,qW 60 59,qq 61 6 60,qu 62 61] 62 [wU 6]) [yd 63,qW 64 63,xZ 65 64,qu 66 65,x8 66]))⟩
theorem tO:ag Tryz.prog ey=some lI:=by kernel_rfl
def oO:FK:=⟨4,[xE],xb [wU 2] (wj [qZ 3] 3 [qM 2 1]) [wU 2]⟩
theorem AL:ag Tryz.prog dH=some oO:=by kernel_rfl
def ta:FK:=⟨50,[.t 6,.t 7],qO [wU 6,wU 7] (qe [qZ 8] (.blk 0 (xt 10 8 3 9 10 9 (qA [xi 11,xx 12,wo 13 .add 11 12,qx 14 .rem 13 256,x8 14,wU 7]) (xt 16 8 4 15 16 15 (qA [xi 17,xx 18,wo 19 .sub 17 18,wF 20 19 256,qx 21 .rem 20 256,x8 21,wU 7]) (xt 23 8 5 22 23 22 (qA [xi 24,xx 25,wo 26 .mul 24 25,qx 27 .rem 26 256,x8 27,wU 7]) (xt 29 8 8 28 29 28 (qA [xi 30,xx 31,xa 32 30 31,xq 33 dH 32,x8 33,wU 7]) (wj (wW 35 8 9 34 35) 34 [xi 36,xx 37,wo 38 .eql 36 37,xq 39 dH 38,x8 39,wU 7]))))))) (.seq (wj [xx 40,wb 41 40 0] 41 [wU 6,qM 7 1]) (xT (wj [qZ 42,wb 43 42 6] 43 [xi 44,xx 45,wo 46 .quo 44 45,x8 46,wU 7]) [xi 47,xx 48,wo 49 .rem 47 48,x8 49,wU 7]))⟩
theorem CF:ag Tryz.prog nF=some ta:=by kernel_rfl
def aD:FK:=⟨108,[.t 6],yn [wI 4 4 1,wU 6] [qZ 11,qW 12 11,qq 13 6 12,qu 14 13] 14 [wU 6] (.seq (qe [wT 15 4,qu 16 15] (.blk 0 (xt 18 16 1 17 18 17 (qA [xS 19 4,qu 20 19,x8 20]) (xt 22 16 2 21 22 21 (qA [xx 23,qW 24 23,xS 25 24,xx 27,qW 28 27,wT 29 28,xu 31 4,qu 26 25,qu 30 29,qu 32 31,wM 33 ko 30 32,wX 25 26,wB 34 1 26 33,qu 35 34,x8 35]) (wj (wW 37 16 13 36 37) 36 [qZ 38,ye 39 4,xx 40,xR 41 ey 38 39 40,x8 41]))))) (qO [qZ 42,xZ 43 4,qu 44 43,wu 45 4 44 yf,ye 46 45,xx 47,yu 48 42 46 47,qg 7 48] (qe [wT 49 4,qu 50 49] (.blk 1 (xt 52 50 11 51 52 51 (qA [yh 53,wb 54 53 0,xq 55 dH 54,x8 55]) (xt 57 50 12 56 57 56 (xT (qQ [yh 58,qx 59 .geq 58 16] 59 (xd [qZ 60,xW 61 cd 60 2] [wU 6])) [qZ 62,qW 63 62,xS 64 63,xZ 65 64,qu 66 65,yh 67,wB 68 1 66 67,qu 69 68,x8 69]) (qQ (wW 71 50 10 70 71) 70 (xT (wj [yh 72,wb 73 72 0] 73 [wU 6]) [qZ 74,xZ 75 4,qu 76 75,wu 77 4 76 (qj 1),ye 78 77,xx 79,yu 80 74 78 79,qx 81 .neq 80 0,xq 82 dH 81,x8 82])))))) (yn [qZ 83,xZ 84 4,qu 85 84,wu 86 4 85 (qj 1),ye 87 86,xx 88,yu 89 83 87 88,qg 8 89] [qZ 90,qW 91 90,qq 92 6 91,qu 93 92] 93 [wU 6] (xb [wT 95 4,qu 96 95,yh 97,yd 98,xR 99 nF 96 97 98,qg 94 99,wR 100 0 94,wR 101 1 94,qg 9 100,qg 10 101] (xm [qg 102 10,qx 103 .neq 102 0] 103 [qZ 104,qg 105 10,wM 106 cd 104 105]) (wV (qg 107 9) 6 107)))))⟩
theorem iu:ag Tryz.prog bf=some aD:=by kernel_rfl
def lN:FK:=⟨41,[],wQ [wI 5 5 1] 0 (wP [xx 8,qx 9 .neq 8 0,qg 10 9,xN 11 10 0,qJ 12 10 (qw 11),wJ 13 10 6 12,wG 14 10 13,qJ 15 10 (ws 14),xI 16 10 15] 16 wA (.blk 1 (qO [qZ 17,xZ 18 5,qu 19 18,qg 20 3,xR 21 aL 17 19 20] (qQ [qZ 22,qW 23 22,qq 24 6 23,qu 25 24,qg 26 25,xy 27 26 3,qK 28 26 (qw 27),xJ 29 26 2 28,xD 30 26 29,xY 31 26 30] 31 .ret) (yc [qZ 32,xq 33 eq 32] [qZ 34,xu 35 5,qu 36 35,wu 37 4 36 yf,ye 38 37,qg 39 3,yu 40 34 38 39,qg 2 40]))))⟩
theorem tz:ag Tryz.prog im=some lN:=by kernel_rfl
def mg:FK:=⟨127,[],xz [wI 4 5 1] [qZ 8,xu 9 4,qu 10 9,wu 11 4 10 yf,ye 12 11,xx 13,yu 14 8 12 13,x8 14] (qO [wU 7] (xm [wT 15 4,qu 16 15,wb 17 16 4] 17 [qZ 18,xu 19 4,qu 20 19,wu 21 4 20 (qj 1),ye 22 21,xx 23,yu 24 18 22 23,qg 7 24]) (.seq (qQ [qZ 25,qW 26 25,qq 27 6 26,qu 28 27] 28 .ret) (qe [wT 29 4,qu 30 29] (.blk 0 (xt 32 30 1 31 32 31 (yc [xx 33,xx 34,qW 35 34,wT 36 35,xS 38 4,qu 37 36,qu 39 38,xL 40 1 [qF] 1 [xn 0 39],xh 41 1 16 37 40,qW 42 33,wT 43 42,xv 43 41] [xx 44,xx 45,qW 46 45,xS 47 46,qu 48 47,qg 49 6,qX 50 1 [qC] 1 [xn 0 49],xh 51 1 8 48 50,qW 52 44,xS 53 52,xv 53 51]) (xt 55 30 2 54 55 54 (.reg [xx 56,qW 57 56,xS 58 57,xx 60,qW 61 60,wT 62 61,xS 64 4,qg 67 6,qu 59 58,qu 63 62,qu 65 64,wM 66 ko 63 65,wX 58 59,wB 68 1 59 66,xv 68 67]) (xt 70 30 3 69 70 69 (.reg [qZ 71,qZ 72,qW 73 72,xS 74 73,wT 75 74,qu 76 75,qg 77 6,qX 78 1 [qC] 1 [xn 0 77],xh 79 1 8 76 78,qW 80 71,xS 81 80,wT 82 81,xv 82 79]) (xt 84 30 4 83 84 83 (wd (wj [qg 85 6,qx 86 .geq 85 16] 86 [qZ 87,xW 88 cd 87 2]) [qZ 89,qW 90 89,xS 91 90,xZ 92 91,qu 93 92,qg 94 6,yh 95,wB 96 1 93 94,xv 96 95]) (xt 98 30 5 97 98 97 (qB [qg 99 6,qx 100 .neq 99 0] 100 (.reg [qZ 101,xZ 102 4,qu 103 102,xx 104,xR 105 aL 101 103 104]) (.reg [qZ 106,qq 107 4 4,qu 108 107,xx 109,xR 110 aL 106 108 109])) (xt 112 30 6 111 112 111 (.reg [qZ 113,qH 114 5 4,qg 115 6,xx 116,qp 117 im [.t 113,.t 114,.t 115,.t 116]]) (qQ (wW 119 30 7 118 119) 118 (yc [xx 120,qW 121 120,xu 122 121,qT 1 122 wz] [xx 123,qg 124 6,qW 125 123,xZ 126 125,xv 126 124]))))))))))))⟩
theorem ui:ag Tryz.prog gA=some mg:=by kernel_rfl
def gm:FK:=⟨65,[],qO [xx 8,qW 9 8,wT 10 9,qu 11 10,wm 12 11,x8 12] (xU [wU 7] 0 [yh 13,xi 14,wm 15 14,xa 16 13 15,qg 17 16,xN 18 17 0,qJ 19 17 (qw 18),wJ 20 17 6 19,wG 21 17 20,qJ 22 17 (ws 21),xI 23 17 22,qg 24 23,xN 25 24 2,qJ 26 24 (qw 25),wJ 27 24 2 26,wG 28 24 27,qJ 29 24 (ws 28),xI 30 24 29] 30 wA 1 (qe [qZ 33,xq 34 eq 33] (xm [qZ 35,qW 36 35,qq 37 6 36,qu 38 37,xo 39 38] 39 [qZ 40,xi 41,yh 42,wB 43 5 41 42,qH 44 5 43,xx 45,xR 46 gA 40 44 45])) [yh 31,x7 32 31,qg 7 32]) (yc [xx 47,xx 48,qW 49 48,wT 50 49,qu 51 50,qg 52 6,qb 53 (.slS 1 (.t 51) none (some (.t 52))),qW 54 47,wT 55 54,xv 55 53] [xx 56,xx 57,qW 58 57,xS 59 58,qu 60 59,qg 61 6,qb 62 (.slS 1 (.t 60) none (some (.t 61))),qW 63 56,xS 64 63,xv 64 62])⟩
theorem kL:ag Tryz.prog aL=some gm:=by kernel_rfl
def vA:FK:=⟨61,[xX 6 4,.t 7],qO [wI 3 1 0,qY 6 [.nils,qC,qC,.nils],wU 7] (.ot (.one [] (.one [xx 12] (.one [qH 11 1 3] (.alt (.one [qX 13 1 [qC] 0 [],ya 1 3 11] (.alt (.one [qb 14 (.mks 1 8 [qC] (qj 16) (qj 16)),ya 1 3 11] (.one [wn 15 [.nils,qC,qC,.nils] [xn 0 13,xn 3 14]] (.one [wn 16 [.nils,.nils,qC,qC,.nils,qC,qz] [xn 0 11,xn 5 12,wE 1 4 15]] (.alt (.one [wI 17 7 16] (.one [qg 8 17] .done)) .tru)))) .tru)) (.alt (.one [qb 14 (.mks 1 8 [qC] (qj 16) (qj 16)),ya 1 3 11] (.alt (.one [qX 13 1 [qC] 0 [],ya 1 3 11] (.one [wn 15 [.nils,qC,qC,.nils] [xn 0 13,xn 3 14]] (.one [wn 16 [.nils,.nils,qC,qC,.nils,qC,qz] [xn 0 11,xn 5 12,wE 1 4 15]] (.alt (.one [wI 17 7 16] (.one [qg 8 17] .done)) .tru)))) .tru)) .tru)))))) (xz [wT 18 3,qu 19 18,wT 20 3,qu 21 20,wm 22 21,xF 23 22 1,wB 24 3 19 23,qH 25 3 24,qY 9 [qF,.nils,.nils],qV 3 9 25] [qX 26 1 [qF] 0 [],xS 27 9,qu 28 27,xh 29 1 16 26 28,qX 30 1 [qC] 0 [],xi 31,xh 32 1 8 30 31,wn 33 [.nils,.nils,qz,qC] [xn 0 29,xn 1 32],wI 34 4 33,qg 10 34] (xb [yd 35,xu 36 9,qu 37 36,qg 38 10,xR 39 aL 35 37 38] (xm [yd 40,qW 41 40,qq 42 6 41,qu 43 42,xo 44 43] 44 [yd 45,qg 46 10,qW 47 46,xZ 48 47,qu 49 48,qW 50 45,xS 51 50,xu 52 51,xv 52 49]) [yd 53,qW 54 53,xS 55 54,yd 57,qW 58 57,qq 59 5 58,ye 56 55,qu 60 59,qV 4 6 56,wX 59 60,qg 7 60]))⟩
theorem EM:ag Tryz.prog lW=some vA:=by kernel_rfl
def mu:FK:=⟨15,[.t 6],xd [wH 6] [xi 7,qZ 8,wo 9 .leq 7 8,qg 10 9,xN 11 10 0,xN 12 10 2,qJ 13 10 (qm .leq 11 (.t 12)),xI 14 10 13,x8 14]⟩
theorem AT:ag Tryz.prog dm=some mu:=by kernel_rfl
def kb:FK:=⟨21,[.t 6],xb [wU 6] (wQ [qZ 9,qb 10 (.rngS (.t 9))] 0 (qO [qb 11 (.nxtS (.t 10)),wR 12 0 11] (xM 12 wA) (.blk 1 (qe [wR 13 1 11,wR 14 2 11,qg 7 13,qg 8 14] (wj [xi 15,yd 16,qb 17 (.callv (.t 15) (xp 16)),xx 18,qb 19 (.beq false (.t 17) (.t 18))] 19 (wV (yh 20) 6 20)))))) [qM 6 (-1)]⟩
theorem rm:ag Tryz.prog fC=some kb:=by kernel_rfl
def ki:FK:=⟨8,[xw],xd [xV] [qZ 5,xi 6,qp 7 fC (xP 5 6 wz),yh 4]⟩
theorem rh:ag Tryz.prog ft=some ki:=by kernel_rfl
def iH:FK:=⟨19,[xw],xb [xV] (wQ [qZ 6,wm 7 6,wU 8] 0 (qO [xa 9 8 7] (xM 9 wA) (wy 1 (qe (wV (yd 10) 5 10) (wj [xi 11,qZ 12,xr 13,wB 14 1 12 13,qu 15 14,qb 16 (yp .eql 11 (.t 15))] 16 (wV (xr 17) 4 17))) (wV (x7 18 8) 8 18)))) [qM 4 (-1)]⟩
theorem oa:ag Tryz.prog ed=some iH:=by kernel_rfl
def fL:FK:=⟨9,[xw],xd [xk] [qZ 5,xi 6,wM 7 ed 5 6,qx 8 .geq 7 0,yd 4]⟩
theorem mD:ag Tryz.prog dj=some fL:=by kernel_rfl
def nT:FK:=⟨9,[xE],xd [yq] [qZ 3,qt 4 .lss 3 (.c (qf .i32 97)),qg 5 4,xy 6 5 0,qK 7 5 (qm .gtr 6 (.c (qf .i32 122))),xY 8 5 7,yd 2]⟩
theorem vT:ag Tryz.prog cZ=some nT:=by kernel_rfl
def sa:FK:=⟨17,[xE],xd [yq] [qZ 3,qb 4 (.len true (.t 3)),qp 5 dm (xO 4 (qj 1) (qj 4)),xr 6,xN 7 6 0,qJ 8 6 (xG ft 7 (.c (.fn (.func cZ) []))),xK 9 6 .lss 8 0,xI 10 6 9,qg 11 10,qJ 12 11 (.slA 9 1 (.c (.gp 1 0)) none none),xN 13 11 0,qJ 14 11 (xG dj 12 (.t 13)),qJ 15 11 (ws 14),xI 16 11 15,qg 2 16]⟩
theorem Bw:ag Tryz.prog cz=some sa:=by kernel_rfl
def ff:FK:=⟨19,[xw],xb [xV] (wQ [qZ 6,wm 7 6,wU 8] 0 (qO [xa 9 8 7] (xM 9 wA) (wy 1 (qe (wV (yd 10) 5 10) (wj [xi 11,qZ 12,xr 13,wB 14 1 12 13,qu 15 14,qb 16 (.callv (.t 11) (xp 15))] 16 (wV (xr 17) 4 17))) (wV (x7 18 8) 8 18)))) [qM 4 (-1)]⟩
theorem lG:ag Tryz.prog cX=some ff:=by kernel_rfl
def dU:FK:=⟨9,[xw],xd [xk] [qZ 5,xi 6,wM 7 cX 5 6,qx 8 .geq 7 0,yd 4]⟩
theorem jA:ag Tryz.prog ck=some dU:=by kernel_rfl
def dX:FK:=⟨19,[xw],xb [xV] (wQ [qZ 6,wm 7 6,wU 8] 0 (qO [xa 9 8 7] (xM 9 wA) (wy 1 (qe (wV (yd 10) 5 10) (wj [xi 11,qZ 12,xr 13,wB 14 5 12 13,qH 15 5 14,qb 16 (.callv (.t 11) (xp 15))] 16 (wV (xr 17) 4 17))) (wV (x7 18 8) 8 18)))) [qM 4 (-1)]⟩
theorem jL:ag Tryz.prog cm=some dX:=by kernel_rfl
def dp:FK:=⟨9,[xw],xd [xk] [qZ 5,xi 6,wM 7 cm 5 6,qx 8 .geq 7 0,yd 4]⟩
theorem iB:ag Tryz.prog bP=some dp:=by kernel_rfl
def bn:FK:=⟨20,[xE,.t 3,xw,.t 5],xb [wU 2,wH 3,xk,wH 5] (qe [qZ 6] (.blk 0 (wP (wW 8 6 1 7 8) 7 (.reg (wW 9 6 2 7 9)) (qo 7 (qA [qM 2 1,qd 3 wz,xk,wH 5]) (wP (wW 11 6 3 10 11) 10 (wN (wW 12 6 7 10 12) 10 (.reg (wW 13 6 8 10 13))) (qo 10 (qA [qM 2 1,wH 3,xk,wH 5]) (xt 15 6 4 14 15 14 (qA [qM 2 2,wH 3,xk,wH 5]) (xt 17 6 5 16 17 16 (qA [qM 2 1,wH 3,qd 4 wz,qd 5 wz]) (wj (wW 19 6 6 18 19) 18 [qM 2 1,wH 3,qd 4 wz,wH 5]))))))))) [qM 2 (-1),wH 3,xk,wH 5]⟩
theorem vW:ag Tryz.prog fX=some bn:=by kernel_rfl
def rU:FK:=⟨5,[xE],xd [yq] [qZ 3,qp 4 dm (xO 3 yf (qj 255)),qg 2 4]⟩
theorem Bc:ag Tryz.prog ja=some rU:=by kernel_rfl
def eC:FK:=⟨20,[xE],xb [wU 2] (.blk 0 (qB [qb 4 (.ld none (.c (.gp 2 0))),qZ 5,qb 6 (.lk 0 (.agg [qF,qC]) false (.t 4) (.t 5)),qb 7 (.fldv 1 none (.t 6)),qx 8 .gtr 7 0,yd 3] 3 (qA [qb 9 (.ld none (.c (.gp 2 0))),qZ 10,qb 11 (.lk 0 (.agg [qF,qC]) false (.t 9) (.t 10)),qb 12 (.fldv 1 none (.t 11)),qg 2 12]) (wj [qZ 14,wb 15 14 11,qg 16 15,xy 17 16 0,qK 18 16 (wY .eql 17 12),xY 19 16 18,qg 13 19] 13 [qM 2 5]))) [qM 2 6]⟩
theorem zz:ag Tryz.prog lm=some eC:=by kernel_rfl
def jE:AK:=xz [wI 2 4 0,xV,wU 5,wH 6] [wU 7,wU 8] (.cut (.blk 0 (qB [wT 17 2,qu 18 17,wb 19 18 1,qg 16 19] 16 (wj [xS 20 2,qu 21 20,xq 22 ja 21,xo 23 22,qg 24 23,xJ 25 24 2 2,xD 26 24 25,qK 27 24 (yp .neq 26 (.c qF)),xY 28 24 27] 28 [xV,wU 5,wH 6]) (qB [wT 30 2,qu 31 30,wb 32 31 2,qg 29 32] 29 (wj [xu 33 2,qu 34 33,xq 35 cz 34,xo 36 35,qg 37 36,xJ 38 37 1 2,xD 39 37 38,qK 40 37 (wY .neq 39 0),xY 41 37 40] 41 [xV,wU 5,wH 6]) (qB [wT 43 2,qu 44 43,wb 45 44 13,qg 42 45] 42 (qe [qM 8 3] (wj [xu 46 2,qu 47 46,xq 48 cz 47,xo 49 48,qg 50 49,xJ 51 50 1 2,xD 52 50 51,qK 53 50 (wY .neq 52 0),xY 54 50 53] 54 [xV,wU 5,wH 6])) (qB [qb 56 (.ld none (.c (.gp 2 0))),wT 57 2,qu 58 57,qb 59 (.lk 0 (.agg [qF,qC]) false (.t 56) (.t 58)),qb 60 (.fldv 1 none (.t 59)),qx 61 .gtr 60 0,qg 55 61] 55 (.reg [qM 7 2,qM 8 2]) (qB [wT 63 2,qu 64 63,wb 65 64 11,qg 66 65,xJ 67 66 0 2,xD 68 66 67,qK 69 66 (wY .eql 68 12),xY 70 66 69,qg 62 70] 62 (.reg [qM 7 1,qM 8 1]) (qA [xV,wU 5,wH 6]))))))) (.cut (wj [wT 71 2,qu 72 71,xq 73 lm 72,qx 74 .lss 73 6,qg 75 74,wJ 76 75 1 2,wG 77 75 76,xK 78 75 .neq 77 0,xN 79 75 78,xJ 80 79 2 2,xD 81 79 80,qK 82 79 (yp .neq 81 (.c qF)),qJ 83 75 (qN 79 wz (.t 82)),xI 84 75 83,qg 85 84,xJ 86 85 3 2,xD 87 85 86,qK 88 85 (wc 87),xy 89 85 7,xy 90 85 8,qK 91 85 (.call dm (xQ 88 89 90)),qK 92 85 (ws 91),xY 93 85 92,qg 94 93,xy 95 94 1,qK 96 94 (wY .lss 95 1),xY 97 94 96] 97 [xV,wU 5,wH 6]) (xb [qM 9 1,qM 10 1] (wQ [xZ 98 2,qu 99 98,wm 100 99,wU 101] 1 (qO [xa 102 101 100] (xM 102 (.exit 1)) (wy 2 (qe [wB 103 4 99 101,ye 104 103,qY 12 [qC,qC,qF,.nils],qV 4 12 104] (yn [ye 106 12,xi 107,xF 108 107 1,wM 109 fZ 106 108,qg 105 109,wR 110 0 105,wR 111 1 105,wR 112 2 105,qg 13 110,qg 14 111,qg 15 112] [qg 113 15,xo 114 113] 114 [xV,wU 5,wH 6] (yc [qg 115 9,qg 116 13,wo 117 .add 115 116,qg 9 117] [qg 118 10,qg 119 14,x7 120 119,qb 121 (.mx (.t 118) (.t 120)),qg 10 121]))) (wV (x7 122 101) 101 122)))) [qg 123 9,qg 124 10,qg 125 9,qx 126 .leq 125 30,qg 4 123,qg 5 124,x8 126])))
def jP:FK:=⟨127,[xw,.t 5,.t 6],(AK.whole jE)⟩
theorem yD:ag Tryz.prog fZ=some jP:=by kernel_rfl
def mU:FK:=⟨13,[xE],qe [wI 1 4 0,yq] (xd [ye 7 1,xW 8 fZ 7 6,x8 8,wR 9 0 6,wR 10 1 6,wR 11 2 6,qg 3 9,qg 4 10,qg 5 11] (wV (xr 12) 2 12))⟩
theorem uB:ag Tryz.prog eS=some mU:=by kernel_rfl
def jb:FK:=⟨91,[xw],qe [wI 2 5 0,xk] (qO [wT 12 2,qu 13 12,xq 14 fX 13,qg 11 14,wR 15 0 11,wR 16 1 11,wR 17 2 11,wR 18 3 11,qg 5 15,x8 16,qg 7 17,qg 8 18] (.blk 0 (wP [xi 20,qx 21 .gtr 20 4,qg 19 21] 19 (wN [xu 22 2,qu 23 22,wm 24 23,xr 25,wo 26 .neq 24 25,qg 19 26] 19 (wN [qg 27 6,qg 28 27,wJ 29 28 1 2,wG 30 28 29,qJ 31 28 (.call cz (xp 30)),qJ 32 28 (ws 31),xI 33 28 32,qg 19 33] 19 (wN [qg 34 6,xo 35 34,qg 36 35,wJ 37 36 1 2,wG 38 36 37,qJ 39 36 (yp .neq 38 (.c qF)),xI 40 36 39,qg 19 40] 19 (wN [yh 41,xo 42 41,qg 43 42,wJ 44 43 3 2,wG 45 43 44,qJ 46 43 (wc 45),xK 47 43 .gtr 46 0,xI 48 43 47,qg 19 48] 19 (wN [yd 49,xo 50 49,qg 51 50,wJ 52 51 4 2,wG 53 51 52,qJ 54 51 (wc 53),xK 55 51 .gtr 54 0,xI 56 51 55,qg 19 56] 19 (.reg [wT 57 2,qu 58 57,wb 59 58 8,qg 60 59,wJ 61 60 2 2,wG 62 60 61,qJ 63 60 (qU 4 62 yf),wJ 64 60 0 63,wG 65 60 64,xK 66 60 .neq 65 13,xI 67 60 66,qg 19 67])))))) (qo 19 (qA [xk]) .skip))) (xT (wQ [xu 68 2,qu 69 68,wm 70 69,wU 71] 1 (qO [xa 72 71 70] (xM 72 (.exit 1)) (wy 2 (qe [wB 73 4 69 71,ye 74 73,qY 10 [qC,qC,qF,.nils],qV 4 10 74] (wj [ye 75 10,xq 76 eS 75,xo 77 76] 77 [xk])) (wV (x7 78 71) 71 78)))) [xZ 79 2,qu 80 79,xi 81,x7 82 81,wM 83 cJ 80 82,qg 84 83,wJ 85 84 4 2,wG 86 84 85,xN 87 84 1,xK 88 84 .add 87 1,qJ 89 84 (xG cJ 86 (.t 88)),xI 90 84 89,qg 4 90]))⟩
theorem rq:ag Tryz.prog iY=some jb:=by kernel_rfl
def mX:FK:=⟨8,[.t 3],xd [wI 2 5 0,wH 3] [qH 4 5 2,qu 5 1,wM 6 iY 4 5,xo 7 6,yh 3]⟩
theorem uu:ag Tryz.prog cD=some mX:=by kernel_rfl
def oX:FK:=⟨9,[xw],xd [wI 3 1 1,xk] [qZ 5,qb 6 (.mkf (.func cD) (xp 3)),wM 7 bP 5 6,xo 8 7,yd 4]⟩
theorem Al:ag Tryz.prog cJ=some oX:=by kernel_rfl
def tr:FK:=⟨31,[],wQ [qZ 8,wm 9 8,wU 10] 0 (qO [xa 11 10 9] (xM 11 wA) (wy 1 (xz [wB 12 5 8 10,qH 13 5 12,qY 7 [qC,qF,.nils,.nils,.nils],qV 5 7 13] [xx 14,qH 15 5 7,xi 16,qb 17 (.callv (.t 14) (wK 15 (.t 16)))] (yc [xZ 18 7,qu 19 18,xi 20,x7 21 20,xx 22,xR 23 iy 19 21 22] [qq 24 4 7,qu 25 24,xi 26,x7 27 26,xx 28,xR 29 iy 25 27 28])) (wV (x7 30 10) 10 30)))⟩
theorem Cl:ag Tryz.prog iy=some tr:=by kernel_rfl
def mO:FK:=⟨11,[],xz [wI 4 5 0] [qu 6 2,x7 7 6,xv 2 7] (.reg [qu 8 3,xi 9,qb 10 (.mx (.t 8) (.t 9)),xv 3 10])⟩
theorem uK:ag Tryz.prog eZ=some mO:=by kernel_rfl
def oz:FK:=⟨20,[.c 2 none,.c 3 none],xb [wI 1 1 0,qY 2 [qC],qY 3 [qC]] (wQ [wT 6 1,qu 7 6,wm 8 7,wU 9] 0 (qO [xa 10 9 8] (xM 10 wA) (wy 1 (yc [wB 11 3 7 9,qH 12 3 11,qY 5 [qF,.nils,.nils],qV 3 5 12] [xu 13 5,qu 14 13,qb 15 (.mkf (.func eZ) (wK 2 (.t 3))),qp 16 iy (xO 14 (qj 1) (.t 15))]) (wV (x7 17 9) 9 17)))) [qu 18 2,qu 19 3,xv 2 18,wX 3 19,xv 3 19]⟩
theorem Ai:ag Tryz.prog gM=some oz:=by kernel_rfl
def iI:FK:=⟨6,[xE],xd [yq] [qZ 3,xq 4 cz 3,xo 5 4,xr 2]⟩
theorem nX:ag Tryz.prog bw=some iI:=by kernel_rfl
def kf:FK:=⟨48,[xE],yn [wI 1 1 0,yq] [wT 7 1,qu 8 7,wm 9 8,qp 10 dm (xO 9 (qj 1) (qj 4)),xo 11 10] 11 [yq] (.seq (wQ [wT 12 1,qu 13 12,wm 14 13,wU 15] 0 (qO [xa 16 15 14] (xM 16 wA) (wy 1 (qe [wB 17 3 13 15,qH 18 3 17,qY 4 [qF,.nils,.nils],qV 3 4 18] (wj [wT 19 4,qu 20 19,xq 21 cz 20,xo 22 21,qg 23 22,xJ 24 23 1 4,xD 25 23 24,qK 26 23 (wc 25),qK 27 23 (wY .gtr 26 3),xY 28 23 27,qg 29 28,xJ 30 29 1 4,xD 31 29 30,qK 32 29 (xG ck 31 (.c (.fn (.func bw) []))),xY 33 29 32,qg 34 33,xJ 35 34 2 4,xD 36 34 35,qK 37 34 (xG cJ 36 (qj 1)),qK 38 34 (ws 37),xY 39 34 38] 39 [yq])) (wV (x7 40 15) 15 40)))) (xd [qH 42 1 1,xq 43 gM 42,qg 41 43,wR 44 0 41,wR 45 1 41,qg 5 44,x8 45] [xr 46,qx 47 .leq 46 40,qg 2 47]))⟩
theorem ri:ag Tryz.prog cr=some kf:=by kernel_rfl
def eE:FK:=⟨19,[xw],xb [xV] (wQ [qZ 6,wm 7 6,wU 8] 0 (qO [xa 9 8 7] (xM 9 wA) (wy 1 (qe (wV (yd 10) 5 10) (wj [xi 11,qZ 12,xr 13,wB 14 3 12 13,qH 15 3 14,qb 16 (.callv (.t 11) (xp 15))] 16 (wV (xr 17) 4 17))) (wV (x7 18 8) 8 18)))) [qM 4 (-1)]⟩
theorem lD:ag Tryz.prog cH=some eE:=by kernel_rfl
def rZ:FK:=⟨8,[.t 3],xd [wI 2 3 0,wH 3] [wT 4 2,qu 5 4,qu 6 1,qb 7 (yp .eql 5 (.t 6)),yh 3]⟩
theorem Bz:ag Tryz.prog fT=some rZ:=by kernel_rfl
def vK:FK:=⟨9,[xw],xd [wI 2 1 0,wI 3 1 1,xV] [wT 5 2,qu 6 5,qb 7 (.mkf (.func fT) (xp 3)),wM 8 cH 6 7,yd 4]⟩
theorem EY:ag Tryz.prog jx=some vK:=by kernel_rfl
def fg:FK:=⟨13,[],xm [qZ 4,qW 5 4,xu 6 5,qu 7 6,wb 8 7 0] 8 [qZ 9,xi 10,qW 11 9,xu 12 11,xv 12 10]⟩
theorem pZ:ag Tryz.prog cu=some fg:=by kernel_rfl
def ic:FK:=⟨7,[xE],xd [xB 2 .nilp] [qb 3 .mkm,qZ 4,wn 5 [.nilm,.nilp] [xn 0 3,xn 1 4],wI 6 2 5,qg 2 6]⟩
theorem tj:ag Tryz.prog da=some ic:=by kernel_rfl
def th:FK:=⟨20,[],xz [wI 2 4 0] [xi 6,ye 7 2,qb 8 (.callv (.t 6) (xp 7))] (wQ [xZ 9 2,qu 10 9,wm 11 10,wU 12] 0 (qO [xa 13 12 11] (xM 13 wA) (wy 1 (yc [wB 14 4 10 12,ye 15 14,qY 5 [qC,qC,qF,.nils],qV 4 5 15] [ye 16 5,xi 17,wM 18 kn 16 17]) (wV (x7 19 12) 12 19))))⟩
theorem CJ:ag Tryz.prog kn=some th:=by kernel_rfl
def lL:FK:=⟨25,[xw,.t 5],xb [xV,wH 5] (wa 0 (xA [qZ 8,qb 9 (.pnil 0 true (.t 8))] 9 wA 1 (qe [qZ 15,qW 16 15,wT 17 16,qu 18 17,xi 19,qb 20 (.lk 1 qC true (.t 18) (.t 19)),qg 14 20,wR 21 0 14,wR 22 1 14,x8 21,qg 7 22] (wj [yh 23] 23 [qg 24 6,qg 4 24,qd 5 wz])) [qZ 10,qW 11 10,xS 12 11,qu 13 12,qg 0 13])) [xV,wH 5]⟩
theorem tM:ag Tryz.prog ce=some lL:=by kernel_rfl
def iG:FK:=⟨58,[],xz [wI 3 4 0] [wT 7 3,qu 8 7] (.blk 0 (xt 10 8 2 9 10 9 (qe [qu 12 1,xu 13 3,qu 14 13,wM 15 ce 12 14,qg 11 15,wR 16 0 11,wR 17 1 11,qg 4 16,qg 5 17] (xm [xr 18,xo 19 18] 19 [qu 20 2,yg 21 20 3])) (qQ (wW 23 8 13 22 23) 22 (qe [xu 35 3,qu 24 2,qW 25 24,wT 26 25,wT 27 26,qu 28 27,qu 29 2,qW 30 29,xS 31 30,qu 32 31,qb 33 (.slS 3 (.t 28) none (some (.t 32))),wn 34 yj [xn 0 33],qu 36 35,wM 37 jx 34 36,x8 37] (qB [qg 38 6,qx 39 .lss 38 0] 39 (.reg [qu 40 2,yg 41 40 4]) (xm [qg 47 6,xZ 52 3,qu 42 2,qW 43 42,wT 44 43,wT 45 44,qu 46 45,wB 48 3 46 47,xS 49 48,qu 50 49,wm 51 50,qu 53 52,wm 54 53,wo 55 .neq 51 54] 55 [qu 56 2,yg 57 56 5]))))))⟩
theorem od:ag Tryz.prog bR=some iG:=by kernel_rfl
def fk:FK:=⟨9,[],yc [wI 3 1 0,wI 4 4 1,wI 5 1 2] [ye 6 4,qb 7 (.mkf (.func bR) (wK 5 (.t 3))),wM 8 kn 6 7]⟩
theorem rd:ag Tryz.prog dv=some fk:=by kernel_rfl
def eM:AK:=wQ [xi 14,wm 15 14,wU 16] 0 (qO [xa 17 16 15] (xM 17 wA) (wy 1 (qO [wB 18 5 14 16,qH 19 5 18,qY 7 [qC,qF,.nils,.nils,.nils],qV 5 7 19] (wQ [xu 20 7,qu 21 20,wm 22 21,wU 23] 2 (qO [xa 24 23 22] (xM 24 (.exit 2)) (wy 3 (yc [wB 25 4 21 23,ye 26 25,qY 9 [qC,qC,qF,.nils],qV 4 9 26] [qZ 27,ye 28 9,xx 29,xR 30 dv 27 28 29]) (wV (x7 31 23) 23 31)))) (.cut (qe [wT 32 7,qu 33 32] (.blk 4 (xt 35 33 1 34 35 34 (wd (qe [xx 37,qW 38 37,wT 39 38,xS 41 7,qu 40 39,qu 42 41,qb 43 (.lk 1 qC true (.t 40) (.t 42)),qg 36 43,wR 44 0 36,wR 45 1 36,qg 10 44,qg 11 45] (xm [qg 46 11] 46 [qZ 47,yg 48 47 2])) [xx 49,qW 50 49,wT 51 50,xS 53 7,qu 52 51,qu 54 53,qD (.mup 1 (.t 52) (.t 54) yf)]) (qQ (wW 56 33 2 55 56) 55 (qe [xx 58,xS 59 7,qu 60 59,wM 61 ce 58 60,qg 57 61,wR 62 0 57,wR 63 1 57,qg 12 62,qg 13 63] (xm [qg 64 13,xo 65 64] 65 [qZ 66,yg 67 66 3])))))) (qQ [wT 68 7,qu 69 68,wb 70 69 5,qg 71 70,xJ 72 71 0 7,xD 73 71 72,qK 74 71 (wY .eql 73 6),xY 75 71 74] 75 (yc [qZ 76,xZ 77 7,xx 79,qu 78 77,xq 80 da 79,wX 77 78,xR 81 bG 76 78 80] [qZ 82,qq 83 4 7,xx 85,qu 84 83,xq 86 da 85,wX 83 84,xR 87 bG 82 84 86])))) (wV (x7 88 16) 16 88)))
def eO:FK:=⟨89,[],(AK.whole eM)⟩
theorem pu:ag Tryz.prog bG=some eO:=by kernel_rfl
def fI:AK:=yn [wI 1 1 0,wU 2] [qH 11 1 1,xq 12 cr 11,xo 13 12] 13 [qM 2 1] (xb [qH 14 1 1,wn 15 [.nils,qC,qC] [xn 0 14],wI 16 3 15,qg 3 16] (wQ [wT 17 1,qu 18 17,wm 19 18,wU 20] 0 (qO [xa 21 20 19] (xM 21 wA) (wy 1 (xz [qg 22 20,wB 23 3 18 20,qH 24 3 23,qY 5 [qF,.nils,.nils],qg 4 22,qV 3 5 24] [qg 25 3,qg 26 4,qW 27 25,xS 28 27,xv 28 26] (.cut (xm [qH 29 1 1,wT 30 5,qu 31 30,wM 32 jx 29 31,qg 33 4,xa 34 32 33] 34 [qg 35 3,yg 36 35 2]) (qO (wV (qp 37 da [.c .nilp]) 6 37) (wQ [xS 38 5,qu 39 38,wm 40 39,wU 41] 2 (qO [xa 42 41 40] (xM 42 (.exit 2)) (wy 3 (qO [wB 43 1 39 41,qu 44 43,qg 8 44] (qe [qg 46 6,qW 47 46,wT 48 47,qu 49 48,yd 50,qb 51 (.lk 1 qC true (.t 49) (.t 50)),qg 45 51,wR 52 0 45,wR 53 1 45,qg 9 52,qg 10 53] (xm [qg 54 10] 54 [qg 55 3,yg 56 55 2])) (.reg [qg 57 6,qW 58 57,wT 59 58,qu 60 59,yd 61,qD (.mup 1 (.t 60) (.t 61) yf)])) (wV (x7 62 41) 41 62)))) (.reg [qg 63 3,xu 64 5,qu 65 64,qg 66 6,xR 67 bG 63 65 66])))) (wV (x7 68 20) 20 68)))) [qg 69 3,qW 70 69,xu 71 70,qu 72 71,qg 2 72])
def fD:FK:=⟨73,[xE],(AK.whole fI)⟩
theorem pU:ag Tryz.prog fw=some fD:=by kernel_rfl
def vQ:FK:=⟨6,[xE],xd [wI 1 1 0,yq] [qH 3 1 1,xq 4 fw 3,wb 5 4 0,xr 2]⟩
theorem Ep:ag Tryz.prog oD=some vQ:=by kernel_rfl
def ib:FK:=⟨19,[xw],xb [xV] (wQ [qZ 6,wm 7 6,wU 8] 0 (qO [xa 9 8 7] (xM 9 wA) (wy 1 (qe (wV (yd 10) 5 10) (wj [xi 11,qZ 12,xr 13,wB 14 1 12 13,qu 15 14,qb 16 (.callv (.t 11) (xp 15))] 16 (wV (xr 17) 4 17))) (wV (x7 18 8) 8 18)))) [qM 4 (-1)]⟩
theorem nw:ag Tryz.prog dO=some ib:=by kernel_rfl
def fc:FK:=⟨9,[xw],xd [xk] [qZ 5,xi 6,wM 7 dO 5 6,qx 8 .geq 7 0,yd 4]⟩
theorem lF:ag Tryz.prog cU=some fc:=by kernel_rfl
def mY:FK:=⟨6,[xE],xd [yq] [qZ 3,xq 4 ja 3,xo 5 4,xr 2]⟩
theorem uS:ag Tryz.prog cC=some mY:=by kernel_rfl
def kQ:FK:=⟨14,[xw],xd [xk] [qZ 5,wm 6 5,xi 7,wo 8 .eql 6 7,yd 9,xN 10 9 0,qJ 11 9 (xG cU 10 (.c (.fn (.func cC) []))),qJ 12 9 (ws 11),xI 13 9 12,qg 4 13]⟩
theorem zx:ag Tryz.prog lh=some kQ:=by kernel_rfl
def rD:FK:=⟨21,[xw],xd [wI 2 1 0,xk] [qH 5 1 2,xq 6 oD 5,qg 7 6,xN 8 7 1,wJ 9 7 0 2,wG 10 7 9,wJ 11 7 0 2,wG 12 7 11,qJ 13 7 (wc 12),xK 14 7 .sub 13 1,qJ 15 7 (qU 3 10 (.t 14)),wJ 16 7 1 15,wG 17 7 16,qJ 18 7 (wc 17),qJ 19 7 (xG lh 8 (.t 18)),xI 20 7 19,qg 4 20]⟩
theorem Bg:ag Tryz.prog mr=some rD:=by kernel_rfl
def kK:FK:=⟨8,[xE],xb [xB 2 .nils] (wj [qZ 3,qb 4 (.snil false (.t 3))] 4 [xB 2 .nils]) [qX 5 1 [qC] 0 [],qZ 6,xh 7 1 8 5 6,yh 2]⟩
theorem sf:ag Tryz.prog dK=some kK:=by kernel_rfl
def fx:FK:=⟨19,[],wd (xm [qZ 2,qW 3 2,xu 4 3,qZ 6,qW 7 6,xS 8 7,qu 5 4,qu 9 8,wo 10 .eql 5 9] 10 [qp 11 lT [qj 3]]) [qZ 12,qW 13 12,xu 14 13,qu 15 14,x7 16 15,qW 17 12,xu 18 17,xv 18 16]⟩
theorem ra:ag Tryz.prog dw=some fx:=by kernel_rfl
def nj:FK:=⟨28,[xw],xb [xB 4 .nilp] (wa 0 (xA [qZ 7,qW 8 7,xS 9 8,qu 10 9,qb 11 (.pnil 0 true (.t 10))] 11 wA 1 (qe [qZ 17,qW 18 17,wT 19 18,qu 20 19,xi 21,qb 22 (.lk 1 qC true (.t 20) (.t 21)),qg 16 22,wR 23 0 16,wR 24 1 16,qg 5 23,x8 24] (wj [qg 25 6] 25 (wV (qZ 26) 4 26))) [qZ 12,qW 13 12,xS 14 13,qu 15 14,qg 0 15])) (wV (qZ 27) 4 27)⟩
theorem uQ:ag Tryz.prog eQ=some nj:=by kernel_rfl
def oZ:FK:=⟨4,[xE],xb [wU 2] (wj [qZ 3] 3 [qM 2 1]) [wU 2]⟩
theorem yY:ag Tryz.prog kO=some oZ:=by kernel_rfl
def nH:FK:=⟨70,[.t 6,.t 7],qe [wU 6,wH 7] (xb [xB 8 (.fn (.func kO) [])] (qe [qZ 9] (.blk 0 (xt 11 9 3 10 11 10 (qA [xi 12,xx 13,wo 14 .add 12 13,qx 15 .rem 14 256,x8 15,qd 7 wz]) (xt 17 9 4 16 17 16 (qA [xi 18,xx 19,wo 20 .sub 18 19,wF 21 20 256,qx 22 .rem 21 256,x8 22,qd 7 wz]) (xt 24 9 5 23 24 23 (qA [xi 25,xx 26,wo 27 .mul 25 26,qx 28 .rem 27 256,x8 28,qd 7 wz]) (wP (wW 30 9 6 29 30) 29 (.reg (wW 31 9 7 29 31)) (qo 29 (.seq (wj [xx 32,wb 33 32 0] 33 [wU 6,wH 7]) (xT (wj [qZ 34,wb 35 34 6] 35 [xi 36,xx 37,wo 38 .quo 36 37,x8 38,qd 7 wz]) [xi 39,xx 40,wo 41 .rem 39 40,x8 41,qd 7 wz])) (xt 43 9 8 42 43 42 (qA [yd 44,xi 45,xx 46,xa 47 45 46,qb 48 (.callv (.t 44) (xp 47)),x8 48,qd 7 wz]) (xt 50 9 9 49 50 49 (qA [yd 51,xi 52,xx 53,wo 54 .eql 52 53,qb 55 (.callv (.t 51) (xp 54)),x8 55,qd 7 wz]) (wj (wW 57 9 10 56 57) 56 [yd 58,xi 59,qx 60 .neq 59 0,qg 61 60,xN 62 61 2,xK 63 61 .neq 62 0,xI 64 61 63,qb 65 (.callv (.t 58) (xp 64)),x8 65,qd 7 wz])))))))))) [yd 66,xi 67,wb 68 67 0,qb 69 (.callv (.t 66) (xp 68)),x8 69,qd 7 wz])⟩
theorem tf:ag Tryz.prog gP=some nH:=by kernel_rfl
def fh:FK:=⟨13,[xw],xb [xB 4 .nilp] (xm [xi 5,qx 6 .geq 5 16] 6 [qp 7 lT [qj 2]]) [qZ 8,xi 9,qW 10 8,qq 11 4 10,qb 12 (.idxA 16 1 (.t 11) (.t 9)),qg 4 12]⟩
theorem rc:ag Tryz.prog du=some fh:=by kernel_rfl
def an:FK:=⟨126,[.t 6],qO [wI 4 4 1,wU 6] (qe [wT 16 4,qu 17 16] (.blk 0 (xt 19 17 1 18 19 18 (qA [xS 20 4,qu 21 20,x8 21]) (xt 23 17 2 22 23 22 (qA [xx 24,xu 25 4,xu 31 4,qu 26 25,qu 32 31,wM 27 eQ 24 26,wX 31 32,qW 28 27,wT 29 28,qu 30 29,qb 33 (.lk 1 qC false (.t 30) (.t 32)),x8 33]) (xt 35 17 10 34 35 34 (.seq (wj [qZ 36,xZ 37 4,qu 38 37,wu 39 4 38 yf,ye 40 39,xx 41,xC 42 (xQ 36 40 41),wb 43 42 0] 43 [wU 6]) (xd [qZ 45,xZ 46 4,qu 47 46,wu 48 4 47 (qj 1),ye 49 48,xx 50,xC 51 (xQ 45 49 50),qp 52 gP [qj 10,qj 1,.t 51],qg 44 52,wR 53 0 44,wR 54 1 44,qg 7 53,qg 8 54] (wV (yh 55) 6 55))) (xt 57 17 12 56 57 56 (qA [qZ 58,qZ 59,xZ 60 4,qu 61 60,wu 62 4 61 yf,ye 63 62,xx 64,xC 65 (xQ 59 63 64),wM 66 du 58 65,qW 67 66,qu 68 67,x8 68]) (qQ (wW 70 17 13 69 70) 69 (xb [xB 9 .nils] (wQ [xZ 71 4,qu 72 71,wm 73 72,wU 74] 1 (qO [xa 75 74 73] (xM 75 (.exit 1)) (wy 2 (yc [wB 76 4 72 74,ye 77 76,qY 11 [qC,qC,qF,.nils],qV 4 11 77] [qg 78 9,qZ 79,ye 80 11,xx 81,xC 82 (xQ 79 80 81),qX 83 1 [qC] 1 [xn 0 82],xh 84 1 8 78 83,qg 9 84]) (wV (x7 85 74) 74 85)))) [qZ 86,qZ 87,qW 88 87,wT 89 88,xu 91 4,qg 94 9,qH 90 1 89,qu 92 91,wM 93 jx 90 92,xR 95 dx 86 93 94,x8 95])))))))) (qO [qZ 96,xZ 97 4,qu 98 97,wu 99 4 98 yf,ye 100 99,xx 101,xC 102 (xQ 96 100 101),qg 12 102,wU 13] (xm [xZ 103 4,qu 104 103,wm 105 104,qx 106 .gtr 105 1] 106 [qZ 107,xZ 108 4,qu 109 108,wu 110 4 109 (qj 1),ye 111 110,xx 112,xC 113 (xQ 107 111 112),qg 13 113]) (xb [wT 115 4,qu 116 115,qg 117 12,qg 118 13,xR 119 gP 116 117 118,qg 114 119,wR 120 0 114,wR 121 1 114,qg 14 120,qg 15 121] (xm [qg 122 15,xo 123 122] 123 [qp 124 lT [qj 1]]) (wV (qg 125 14) 6 125)))⟩
theorem ke:ag Tryz.prog bO=some an:=by kernel_rfl
def tX:FK:=⟨7,[xE],xd [xB 2 .nilp] [qb 3 .mkm,qZ 4,wn 5 [.nilm,.nilp] [xn 0 3,xn 1 4],wI 6 2 5,qg 2 6]⟩
theorem Dc:ag Tryz.prog gZ=some tX:=by kernel_rfl
def fz:FK:=⟨109,[.t 6],qO [wI 4 5 1,xB 6 .nilp] (qQ [wT 10 4,qu 11 10,wb 12 11 6] 12 (xT (wa 0 (wP [qZ 13,xu 14 4,qu 15 14,wu 16 4 15 yf,ye 17 16,xx 18,xC 19 (xQ 13 17 18),qx 20 .neq 19 0] 20 wA (.blk 1 (wd (qe [qZ 21,xZ 22 4,xx 24,qu 23 22,xq 25 gZ 24,wX 22 23,xR 26 bl 21 23 25,qg 7 26] (wj [yh 27,qb 28 (.pnil 0 true (.t 27))] 28 (wV (yh 29) 6 29))) [qZ 30,xq 31 dw 30])))) [xB 6 .nilp])) (xb [qZ 32,xu 33 4,qu 34 33,wu 35 4 34 yf,ye 36 35,xx 37,xC 38 (xQ 32 36 37),qg 8 38] (qe [wT 39 4,qu 40 39] (.blk 2 (xt 42 40 1 41 42 41 (.reg [xx 43,qW 44 43,wT 45 44,xS 47 4,yd 49,qu 46 45,qu 48 47,qD (.mup 1 (.t 46) (.t 48) (.t 49))]) (xt 51 40 2 50 51 50 (.reg [xx 52,xS 53 4,xS 59 4,yd 61,qu 54 53,qu 60 59,wM 55 eQ 52 54,wX 59 60,qW 56 55,wT 57 56,qu 58 57,qD (.mup 1 (.t 58) (.t 60) (.t 61))]) (xt 63 40 3 62 63 62 (.reg [qZ 64,qZ 65,qW 66 65,xZ 67 66,qu 68 67,yd 69,qX 70 1 [qC] 1 [xn 0 69],xh 71 1 8 68 70,qW 72 64,xZ 73 72,xv 73 71]) (xt 75 40 4 74 75 74 (yc [qZ 76,xu 77 4,qu 78 77,wu 79 4 78 (qj 1),ye 80 79,xx 81,xC 82 (xQ 76 80 81),qg 9 82] [qZ 83,yd 84,wM 85 du 83 84,qg 86 9,qW 87 85,xv 87 86]) (xt 89 40 5 88 89 88 (xT (wj [yd 90,qx 91 .neq 90 0] 91 [qZ 92,xZ 93 4,xx 95,qu 94 93,xq 96 gZ 95,wX 93 94,xR 97 bl 92 94 96,x8 97]) [qZ 98,qq 99 4 4,xx 101,qu 100 99,xq 102 gZ 101,wX 99 100,xR 103 bl 98 100 102,x8 103]) (wj (wW 105 40 7 104 105) 104 [yd 106,wn 107 [qC] [xn 0 106],wI 108 1 107,x8 108])))))))) [xB 6 .nilp])⟩
theorem kh:ag Tryz.prog fp=some fz:=by kernel_rfl
def jv:FK:=⟨26,[.t 6],xb [xB 6 .nilp] (wQ [xi 10,wm 11 10,wU 12] 0 (qO [xa 13 12 11] (xM 13 wA) (wy 1 (xz [wB 14 5 10 12,qH 15 5 14,qY 8 [qC,qF,.nils,.nils,.nils],qV 5 8 15] [qZ 16,xq 17 dw 16] (qe [qZ 18,qH 19 5 8,xx 20,xR 21 fp 18 19 20,qg 9 21] (wj [qg 22 9,qb 23 (.pnil 0 true (.t 22))] 23 (wV (qg 24 9) 6 24)))) (wV (x7 25 12) 12 25)))) [xB 6 .nilp]⟩
theorem oV:ag Tryz.prog bl=some jv:=by kernel_rfl
def kg:FK:=⟨57,[.t 6],qe [wU 6] (qO [qb 11 .mkm,wn 12 [.nilm,.nilp] [xn 0 11],wI 13 2 12,qg 7 13] (wQ [qZ 14,qW 15 14,wT 16 15,wT 17 16,qu 18 17,xi 19,wB 20 3 18 19,xS 21 20,qu 22 21,wm 23 22,wU 24] 0 (qO [xa 25 24 23] (xM 25 wA) (wy 1 (yc [qg 26 24,wB 27 1 22 24,qu 28 27,qg 8 26,qg 9 28] [yh 29,qW 30 29,wT 31 30,qg 33 9,xx 34,yd 35,wB 36 1 34 35,qu 32 31,qu 37 36,qD (.mup 1 (.t 32) (.t 33) (.t 37))]) (wV (x7 38 24) 24 38)))) (xT (qe [qZ 39,qZ 40,qW 41 40,wT 42 41,wT 43 42,qu 44 43,xi 45,wB 46 3 44 45,xu 47 46,qu 48 47,yh 49,xR 50 bl 39 48 49,qg 10 50] (wj [qg 51 10,qb 52 (.pnil 0 true (.t 51))] 52 [qg 53 10,qW 54 53,wT 55 54,qu 56 55,x8 56])) [wU 6]))⟩
theorem rk:ag Tryz.prog dx=some kg:=by kernel_rfl
def jZ:FK:=⟨12,[],.reg [qu 4 0,wT 5 1,qu 6 5,wm 7 6,xF 8 7 1,qu 9 2,xR 10 dx 4 8 9,xu 11 3,xv 11 10]⟩
theorem ro:ag Tryz.prog dz=some jZ:=by kernel_rfl
def gU:AK:=xz [wI 3 1 0,wI 4 1 1,qY 6 [.nils,qC,qC,.nils],wU 7] [qH 10 1 3,xx 11,wn 12 [.nils,qC,qC,.nils,qC,qC,qC,qC,qC,qC,qC,qC,qC,qC,qC,qC,qC,qC,qC,qC] [xn 0 10,xn 1 11],wI 13 20 12,qY 8 [.nilp],xv 8 13] (qe [qY 9 [.nils,qC,qC,.nils]] (ym [qb 14 (.mkf (.func dz) [.t 8,.t 3,.t 4,.t 9]),xq 15 ry 14,xS 16 9,xv 16 15] (xd [qu 17 8,qW 18 17,xZ 19 18,qu 20 19,wT 26 9,qu 21 8,qW 22 21,qq 23 4 22,qb 24 (.slA 16 1 (.t 23) none none),xq 25 dK 24,wX 8 17,wX 19 20,xv 26 20,xZ 27 9,xv 27 25] [ye 28 9,qu 29 8,qW 30 29,xu 31 30,qu 32 31,qV 4 6 28,wX 8 29,wX 31 32,qg 7 32])))
def gW:FK:=⟨33,[xX 6 4,.t 7],(AK.whole gU)⟩
theorem tP:ag Tryz.prog eB=some gW:=by kernel_rfl
def gT:FK:=⟨28,[xX 6 4,.t 7],yn [wI 3 1 0,qY 6 [.nils,qC,qC,.nils],wH 7] [qH 10 1 3,xi 11,wM 12 mE 10 11,xo 13 12,qg 14 13,xy 15 14 2,qK 16 14 (x9 (xO 15 yf (qj 4000))),qK 17 14 (ws 16),xY 18 14 17] 18 [wn 19 [.nils,qC,qC,.nils] [],qV 4 6 19,wH 7] (xd [qH 21 1 3,xi 22,xx 23,xR 24 lW 21 22 23,qg 20 24,wR 25 0 20,wR 26 1 20,qY 8 [.nils,qC,qC,.nils],qV 4 8 25,qg 9 26] [ye 27 8,qV 4 6 27,qd 7 wz])⟩
theorem ma:ag Tryz.prog bK=some gT:=by kernel_rfl
def gH:FK:=⟨28,[xX 6 4,.t 7],yn [wI 3 1 0,qY 6 [.nils,qC,qC,.nils],wH 7] [qH 10 1 3,xi 11,wM 12 mr 10 11,xo 13 12,qg 14 13,xy 15 14 2,qK 16 14 (.call dm (xO 15 yf (qj 4000))),qK 17 14 (ws 16),xY 18 14 17] 18 [wn 19 [.nils,qC,qC,.nils] [],qV 4 6 19,wH 7] (xd [qH 21 1 3,xi 22,xx 23,xR 24 eB 21 22 23,qg 20 24,wR 25 0 20,wR 26 1 20,qY 8 [.nils,qC,qC,.nils],qV 4 8 25,qg 9 26] [ye 27 8,qV 4 6 27,qd 7 wz])⟩
theorem lP:ag Tryz.prog bu=some gH:=by kernel_rfl
def pq:FK:=⟨11,[xE],xb [xB 2 .nilp] (xm [qZ 3,wm 4 3,qx 5 .gtr 4 2000] 5 [qZ 6,qb 7 (.slS 1 (.t 6) none (some (qj 2000))),yh 0]) [qZ 8,wn 9 [.nils,qC] [xn 0 8],wI 10 2 9,qg 2 10]⟩
theorem zO:ag Tryz.prog kV=some pq:=by kernel_rfl
def eu:FK:=⟨99,[xw],qe [xV] (yn [qZ 7,qZ 8,qW 9 8,xS 10 9,qu 11 10,x7 12 11,qW 13 7,xS 14 13,xv 14 12] [xi 15,qx 16 .lss 15 1,qg 17 16,xy 18 17 0,qK 19 17 (qw 18),xJ 20 17 0 19,xD 21 17 20,qK 22 17 (wc 21),qK 23 17 (wY .eql 22 0),xY 24 17 23] 24 [xV] (yn [qZ 25,qW 26 25,xS 27 26,qu 28 27,xF 29 28 1,qg 5 29] [xr 30,qZ 31,qW 32 31,wT 33 32,qu 34 33,wm 35 34,xa 36 30 35] 36 [qZ 37,qW 38 37,wT 39 38,qu 40 39,xr 41,wB 42 1 40 41,qu 43 42,qb 44 (.conv .i64 (.t 43)),xi 45,wo 46 .rem 44 45,qg 4 46] (qe [qZ 47,qW 48 47,wT 49 48,xr 51,qZ 52,qW 53 52,wT 54 53,qZ 62,qW 63 62,wT 64 63,xr 66,qx 67 .mul 66 7,wF 68 67 3,qZ 69,qW 70 69,wT 71 70,xr 80,qx 81 .mul 80 29,xr 83,qZ 84,qW 85 84,wT 86 85,qu 50 49,qu 55 54,wm 56 55,wo 57 .rem 51 56,wB 58 1 50 57,qu 59 58,qb 60 (.conv .i64 (.t 59)),qx 61 .mul 60 131,qu 65 64,qu 72 71,wm 73 72,wo 74 .rem 68 73,wB 75 1 65 74,qu 76 75,qb 77 (.conv .i64 (.t 76)),qx 78 .mul 77 1117,wo 79 .add 61 78,wo 82 .add 79 81,qu 87 86,wm 88 87,wo 89 .quo 83 88,qx 90 .mul 89 53,wo 91 .add 82 90,x8 91] (xd [qg 92 6,qg 93 6,qx 94 .quo 93 64,wo 95 .xor 92 94,x8 95] [qg 96 6,xi 97,wo 98 .rem 96 97,qg 4 98]))))⟩
theorem ud:ag Tryz.prog aW=some eu:=by kernel_rfl
def iX:FK:=⟨12,[xw],xd [xV] [xi 5,qZ 6,xi 7,wm 8 7,yk 9 6 (.t 8),wB 10 1 5 9,qu 11 10,qg 4 11]⟩
theorem mS:ag Tryz.prog cG=some iX:=by kernel_rfl
def jD:FK:=⟨12,[xw],xd [xB 4 qF] [xi 5,qZ 6,xi 7,wm 8 7,yk 9 6 (.t 8),wB 10 1 5 9,qu 11 10,qg 4 11]⟩
theorem nU:ag Tryz.prog cY=some jD:=by kernel_rfl
def fK:FK:=⟨21,[xX 4 4],xb [qY 4 [qC,qC,qF,.nils]] (wj [xi 5,wm 6 5,wb 7 6 0,yh 8,xy 9 8 0,qK 10 8 (xG aW 9 (qj 3)),qK 11 8 (wY .eql 10 0),xY 12 8 11] 12 [qZ 13,qX 14 1 [qC] 10 [yl 0,xf 1 1,xf 2 2,xf 3 3,xf 4 5,xf 5 7,xf 6 15,xf 7 16,xf 8 100,xf 9 255],wZ 15 13 14,wn 16 [qC,qC,qF,.nils] [yl 1,xn 1 15],qV 4 4 16]) [qZ 17,xi 18,xH 19 17 18,wn 20 [qC,qC,qF,.nils] [yl 2,xn 2 19],qV 4 4 20]⟩
theorem rV:ag Tryz.prog dg=some fK:=by kernel_rfl
def dY:FK:=⟨47,[xX 6 4],yn [qY 6 [qC,qC,qF,.nils]] [xx 8,qx 9 .lss 8 2,qg 10 9,xy 11 10 0,qK 12 10 (xG aW 11 (qj 4)),qK 13 10 (wY .eql 12 0),xY 14 10 13] 14 [qZ 15,xi 16,wM 17 dg 15 16,qV 4 6 17] (.seq (wj [qZ 18,yk 19 18 (qj 7),wb 20 19 0] 20 [qZ 21,qX 22 1 [qC] 3 [yl 11,xf 1 12,xf 2 11],wZ 23 21 22,qZ 24,xi 25,xx 26,xF 27 26 1,xR 28 aT 24 25 27,yt 29 4 [qC,qC,qF,.nils] 1 4 28,wn 30 [qC,qC,qF,.nils] [xn 0 23,xn 3 29],qV 4 6 30]) (xd [qZ 31,qX 32 1 [qC] 9 [yl 3,xf 1 3,xf 2 4,xf 3 5,xf 4 6,xf 5 7,xf 6 8,xf 7 9,xf 8 10],wZ 33 31 32,qg 7 33] [yh 34,qZ 35,xi 36,xx 37,xF 38 37 1,xR 39 aT 35 36 38,qZ 40,xi 41,xx 42,xF 43 42 1,xR 44 aT 40 41 43,qX 45 4 [qC,qC,qF,.nils] 2 [yi 4 39,wE 4 4 44],wn 46 [qC,qC,qF,.nils] [xn 0 34,xn 3 45],qV 4 6 46]))⟩
theorem mL:ag Tryz.prog aT=some dY:=by kernel_rfl
def lY:FK:=⟨99,[xX 4 4],qe [qY 4 [qC,qC,qF,.nils]] (yn [xB 5 .any,qZ 9,qW 10 9,wT 11 10,qZ 13,qW 14 13,xu 15 14,xi 17,qu 12 11,qu 16 15,xR 18 aT 12 16 17,qY 5 [qC,qC,qF,.nils],qV 4 5 18] [qZ 19,qW 20 19,xS 21 20,qu 22 21,wm 23 22,wb 24 23 0,qg 25 24,xy 26 25 0,qK 27 25 (qw 26),xJ 28 25 0 27,xD 29 25 28,qK 30 25 (xG aW 29 (qj 4)),qK 31 25 (wY .gtr 30 0),xY 32 25 31] 32 [ye 33 5,qV 4 4 33] (qe [xB 6 .any,qZ 34,qW 35 34,xS 36 35,qZ 38,qW 39 38,wT 40 39,qZ 42,qW 43 42,xS 44 43,qu 37 36,qu 41 40,qu 45 44,wm 46 45,yk 47 41 (.t 46),wX 36 37,wB 48 3 37 47,qH 49 3 48,qY 6 [qF,.nils,.nils],qV 3 6 49] (qO [wT 50 6,qu 51 50,wn 52 [qC,qC,qF,.nils] [yl 13,xn 2 51],qY 7 [qC,qC,qF,.nils],qV 4 7 52] (xU [wU 8] 0 [yd 53,xS 54 6,qu 55 54,wm 56 55,xa 57 53 56] 57 wA 1 (.reg [xZ 60 7,qZ 62,qW 63 62,wT 64 63,qZ 66,qW 67 66,xu 68 67,qu 61 60,qu 65 64,qu 69 68,qp 70 aT (xP 65 69 (qj 2)),wX 60 61,xL 71 4 [qC,qC,qF,.nils] 1 (yr 4 70),xh 72 4 56 61 71,xZ 73 7,xv 73 72]) [yd 58,x7 59 58,qg 8 59]) (xT (wj [qZ 74,qW 75 74,wT 76 75,qu 77 76,yk 78 77 (qj 2),wb 79 78 0] 79 [ye 80 7,qV 4 4 80]) [qZ 81,qW 82 81,wT 83 82,xL 85 1 [qC] 4 [yl 3,xf 1 4,xf 2 8,xf 3 10],qZ 88,qW 89 88,wT 90 89,qZ 92,qW 93 92,xu 94 93,qu 84 83,ye 87 7,qu 91 90,qu 95 94,wZ 86 84 85,ya 4 7 87,wX 90 91,wX 94 95,qp 96 aT (xP 91 95 (qj 2)),ya 4 7 87,qX 97 4 [qC,qC,qF,.nils] 2 [yi 4 87,wE 4 4 96],wn 98 [qC,qC,qF,.nils] [xn 0 86,xn 3 97],qV 4 4 98]))))⟩
theorem tJ:ag Tryz.prog gR=some lY:=by kernel_rfl
def kI:FK:=⟨46,[xE],qe [xB 2 qF] (xb [qZ 3,qZ 4,qW 5 4,xZ 6 5,qu 7 6,x7 8 7,qW 9 3,xZ 10 9,xv 10 8] (wj [qZ 11,qW 12 11,wT 13 12,qu 14 13,yk 15 14 (qj 9),wb 16 15 0,qg 17 16,xN 18 17 0,qJ 19 17 (qw 18),wJ 20 17 2 19,wG 21 17 20,qJ 22 17 (wc 21),xK 23 17 .gtr 22 0,xI 24 17 23] 24 [qZ 25,qW 26 25,wT 27 26,qZ 29,qW 30 29,xu 31 30,qu 28 27,qu 32 31,xH 33 28 32,qg 2 33]) [qZ 34,qW 35 34,xZ 36 35,qZ 39,qW 40 39,xZ 41 40,qu 37 36,qx 38 .rem 37 24,qu 42 41,qx 43 .rem 42 24,x7 44 43,qb 45 (.slStr (wS [97,98,99,100,101,103,104,105,106,107,108,109,110,112,113,114,115,116,117,118,119,120,121,122]) (some (.t 38)) (some (.t 44))),qg 2 45])⟩
theorem sN:ag Tryz.prog gd=some kI:=by kernel_rfl
def iP:FK:=⟨24,[xX 4 5],xz [wI 3 4 1,qY 4 [qC,qF,.nils,.nils,.nils]] [qZ 6,xq 7 gd 6,yh 5] (xd [qZ 8,qX 9 1 [qF] 0 [],qZ 10,qW 11 10,xu 12 11,qu 13 12,xh 14 1 16 9 13,xr 15,qX 16 1 [qF] 1 [xn 0 15],xh 17 1 16 14 16,qW 18 8,xu 19 18,xv 19 17] [xr 20,ye 21 3,yt 22 4 [qC,qC,qF,.nils] 1 4 21,wn 23 [qC,qF,.nils,.nils,.nils] [yl 1,xn 1 20,xn 2 22],qV 5 4 23])⟩
theorem mW:ag Tryz.prog dA=some iP:=by kernel_rfl
def mh:FK:=⟨14,[xX 2 4],xd [qY 2 [qC,qC,qF,.nils]] [qZ 3,qZ 5,qW 6 5,wT 7 6,xL 9 1 [qC] 6 [yl 16,xf 1 16,xf 2 16,xf 3 8,xf 4 17,xf 5 0],qu 8 7,yb 4 3 2,wX 7 8,wZ 10 8 9,wn 11 [qC,qC,qF,.nils] [yl 1,xn 1 10],qX 12 4 [qC,qC,qF,.nils] 2 [yi 4 4,wE 4 4 11],wn 13 [qC,qC,qF,.nils] [yl 7,xn 3 12],qV 4 2 13]⟩
theorem uh:ag Tryz.prog ep=some mh:=by kernel_rfl
def ip:AK:=xz [xB 4 .nils] [qZ 9,qZ 10,qW 11 10,wT 12 11,qu 13 12,qX 14 1 [qC] 5 [yl 2,xf 1 3,xf 2 1,xf 3 0,xf 4 5],wZ 15 13 14,wn 16 [qC,qC,qF,.nils] [yl 1,xn 1 15],wM 17 dA 9 16,qY 5 [qC,qF,.nils,.nils,.nils],qV 5 5 17] (xz [xS 18 5,qu 19 18,wn 20 [qC,qC,qF,.nils] [yl 2,xn 2 19],qY 6 [qC,qC,qF,.nils],qV 4 6 20] [qZ 21,xi 22,xF 23 22 1,wM 24 bc 21 23,qg 7 24] (qe [xS 25 5,qu 26 25,ye 27 6,wn 28 [qC,qC,qF,.nils] [yl 1,xf 1 1],qX 29 4 [qC,qC,qF,.nils] 2 [yi 4 27,wE 4 4 28],wn 30 [qC,qC,qF,.nils] [yl 4,xn 3 29],yt 31 4 [qC,qC,qF,.nils] 1 4 30,wn 32 [qC,qF,.nils,.nils,.nils] [yl 2,xn 1 26,xn 2 31],qY 8 [qC,qF,.nils,.nils,.nils],qV 5 8 32] (ym [qZ 33,qZ 34,qW 35 34,qq 36 4 35,qu 37 36,xF 38 37 2,qW 39 33,qq 40 4 39,xv 40 38] (qA [yh 44,qH 41 5 5,ye 42 6,xL 43 4 [qC,qC,qF,.nils] 1 (yr 4 42),qH 45 5 8,xL 46 5 [qC,qF,.nils,.nils,.nils] 1 (yr 5 45),xh 47 5 96 44 46,ya 5 5 41,ya 4 6 42,wn 48 [qC,qF,.nils,.nils,.nils] [yl 6,xn 2 43,xn 3 47],qX 49 5 [qC,qF,.nils,.nils,.nils] 2 [yi 5 41,wE 5 5 48],qg 4 49]))))
def iv:FK:=⟨50,[xw],(AK.whole ip)⟩
theorem tm:ag Tryz.prog gV=some iv:=by kernel_rfl
def mo:FK:=⟨128,[xw],xz [xB 4 .nils] [qZ 7,qZ 8,qW 9 8,qq 10 4 9,qu 11 10,xF 12 11 1,qW 13 7,qq 14 4 13,xv 14 12] (xb [qZ 15,qW 16 15,wT 17 16,qu 18 17,yk 19 18 (qj 13),qg 5 19] (.blk 0 (qB [xr 21,qx 22 .lss 21 3,qg 23 22,xN 24 23 0,qJ 25 23 (qw 24),wJ 26 23 2 25,wG 27 23 26,qJ 28 23 (wc 27),xK 29 23 .gtr 28 0,xI 30 23 29,qg 20 30] 20 (qA [qZ 31,qW 32 31,wT 33 32,qZ 35,qW 36 35,xu 37 36,qZ 40,qu 34 33,qu 38 37,xH 39 34 38,yb 41 40 3,yt 42 4 [qC,qC,qF,.nils] 1 4 41,wn 43 [qC,qF,.nils,.nils,.nils] [yl 2,xn 1 39,xn 2 42],yt 44 5 [qC,qF,.nils,.nils,.nils] 1 5 43,qg 4 44]) (qB [xr 46,qx 47 .lss 46 5,qg 45 47] 45 (qA [qZ 48,qZ 49,yb 50 49 3,wM 51 dA 48 50,yt 52 5 [qC,qF,.nils,.nils,.nils] 1 5 51,qg 4 52]) (qB [xr 54,qx 55 .lss 54 7,qg 56 55,xy 57 56 1,qK 58 56 (wY .lss 57 2),xY 59 56 58,qg 53 59] 53 (qA [qZ 60,yb 61 60 3,yt 62 4 [qC,qC,qF,.nils] 1 4 61,wn 63 [qC,qF,.nils,.nils,.nils] [yl 3,xn 2 62],yt 64 5 [qC,qF,.nils,.nils,.nils] 1 5 63,qg 4 64]) (qB [xr 66,wb 67 66 7,qg 65 67] 65 (qA [qZ 68,xq 69 ep 68,qZ 70,yb 71 70 2,qX 72 4 [qC,qC,qF,.nils] 2 [yi 4 69,wE 4 4 71],wn 73 [qC,qF,.nils,.nils,.nils] [yl 4,xn 2 72],yt 74 5 [qC,qF,.nils,.nils,.nils] 1 5 73,qg 4 74]) (qB [xr 76,wb 77 76 8,qg 75 77] 75 (qA [qZ 78,xq 79 ep 78,yt 80 4 [qC,qC,qF,.nils] 1 4 79,wn 81 [qC,qC,qF,.nils] [yl 12,xn 3 80],yt 82 4 [qC,qC,qF,.nils] 1 4 81,wn 83 [qC,qF,.nils,.nils,.nils] [yl 3,xn 2 82],yt 84 5 [qC,qF,.nils,.nils,.nils] 1 5 83,qg 4 84]) (qB [xr 86,qx 87 .lss 86 11,qg 85 87] 85 (xb [qZ 88,yb 89 88 3,yt 90 4 [qC,qC,qF,.nils] 1 4 89,qZ 91,xi 92,xF 93 92 1,wM 94 bc 91 93,wn 95 [qC,qF,.nils,.nils,.nils] [yl 5,xn 2 90,xn 3 94],qY 6 [qC,qF,.nils,.nils,.nils],qV 5 6 95] (xm [qZ 96,qW 97 96,wT 98 97,qu 99 98,yk 100 99 (qj 2),wb 101 100 0] 101 [qZ 102,xi 103,xF 104 103 1,wM 105 bc 102 104,qq 106 4 6,xv 106 105]) [qH 107 5 6,yt 108 5 [qC,qF,.nils,.nils,.nils] 1 5 107,qg 4 108]) (wj [xr 110,wb 111 110 11,qg 112 111,xN 113 112 0,qJ 114 112 (qw 113),wJ 115 112 0 114,wG 116 112 115,qJ 117 112 (xG aW 116 (qj 3)),xK 118 112 .eql 117 0,xI 119 112 118,qg 109 119] 109 [qZ 120,yb 121 120 2,yt 122 4 [qC,qC,qF,.nils] 1 4 121,wn 123 [qC,qF,.nils,.nils,.nils] [yl 7,xn 2 122],yt 124 5 [qC,qF,.nils,.nils,.nils] 1 5 123,qg 4 124])))))))) [qZ 125,xi 126,wM 127 gV 125 126,qg 4 127])⟩
theorem uj:ag Tryz.prog gS=some mo:=by kernel_rfl
def kP:FK:=⟨40,[xw],xz [xB 4 .nils] [qZ 8,qW 9 8,xu 10 9,qu 11 10,qg 5 11] (qO (wV (qX 12 5 [qC,qF,.nils,.nils,.nils] 0 []) 6 12) (xU [qZ 13,qW 14 13,wT 15 14,qu 16 15,qX 17 1 [qC] 4 [yl 2,xf 1 3,xf 2 1,xf 3 4],wZ 18 16 17,qg 7 18] 0 [yh 19,qx 20 .gtr 19 0,qg 21 20,xN 22 21 0,qJ 23 21 (qw 22),wJ 24 21 4 23,wG 25 21 24,xK 26 21 .gtr 25 0,xI 27 21 26] 27 wA 1 (.reg [qg 30 6,qZ 31,xi 32,wM 33 gS 31 32,xh 34 5 96 30 33,x8 34]) [yh 28,xF 29 28 1,qg 7 29]) (xd [qZ 35,xr 36,qW 37 35,xu 38 37,xv 38 36] (wV (qg 39 6) 4 39)))⟩
theorem sr:ag Tryz.prog bc=some kP:=by kernel_rfl
def jU:AK:=xz [qY 6 [qF,.nils,.nils]] [qZ 8,qX 9 1 [qF] 3 [(0,1,wS [97]),(1,1,wS [98]),(2,1,wS [99])],xx 10,qb 11 (.slS 1 (.t 9) none (some (.t 10))),qW 12 8,xu 13 12,xv 13 11] (qe [qZ 14,xx 15,xF 16 15 1,qW 17 14,xZ 18 17,xv 18 16] (ym [xi 19,qX 20 1 [qF] 0 [],qZ 21,qW 22 21,xu 23 22,qu 24 23,xh 25 1 16 20 24,wn 26 [qF,.nils,.nils] [xn 0 19,xn 1 25],qY 7 [qF,.nils,.nils],qV 3 7 26] (xb [qZ 27,xW 28 bc 27 3,xu 29 7,xv 29 28] (qQ [qZ 30,qW 31 30,qq 32 4 31,qu 33 32,qx 34 .gtr 33 0,qg 35 34,xN 36 35 0,qJ 37 35 (qw 36),wJ 38 35 0 37,wG 39 35 38,qJ 40 35 (xG aW 39 (qj 4)),xK 41 35 .gtr 40 0,xI 42 35 41] 42 (yc [qZ 43,qZ 44,qW 45 44,qq 46 4 45,qu 47 46,xF 48 47 1,qW 49 43,qq 50 4 49,xv 50 48] [xu 51 7,qZ 53,qu 52 51,yb 54 53 2,wX 51 52,xL 55 4 [qC,qC,qF,.nils] 1 (yr 4 54),wn 56 [qC,qF,.nils,.nils,.nils] [yl 7,xn 2 55],xL 57 5 [qC,qF,.nils,.nils,.nils] 1 (yr 5 56),xh 58 5 96 52 57,xu 59 7,xv 59 58])) [qH 60 3 7,qV 3 6 60])))
def jQ:FK:=⟨61,[xX 6 3],(AK.whole jU)⟩
theorem vZ:ag Tryz.prog fY=some jQ:=by kernel_rfl
def rC:FK:=⟨69,[xX 2 1],qe [qY 2 yj] (qO [qZ 8,qZ 9,qX 10 1 [qC] 4 [yl 14,xf 1 20,xf 2 8,xf 3 26],wZ 11 9 10,wn 12 [.nilp,.nils,.nils,qC,qC] [xn 0 8,xn 4 11],wI 13 5 12,qg 3 13] (xU [qZ 14,qX 15 1 [qC] 4 [yl 0,xf 1 1,xf 2 1,xf 3 2],wZ 16 14 15,qg 4 16] 0 [qg 17 4,qx 18 .gtr 17 0] 18 wA 1 (yc [xB 5 .any,qg 21 3,xL 22 1 [qF] 3 [(0,1,wS [102]),(1,1,wS [103]),(2,1,wS [104])],qg 23 3,qW 24 23,xS 25 24,qZ 30,qu 26 25,wm 27 26,wB 28 1 22 27,qu 29 28,yk 31 30 (qj 3),wX 25 26,wX 28 29,xR 32 fY 21 29 31,qY 5 [qF,.nils,.nils],qV 3 5 32] [qg 33 3,qg 34 3,qW 35 34,xS 36 35,qu 37 36,qH 38 3 5,xL 39 3 [qF,.nils,.nils] 1 (yr 3 38),xh 40 3 64 37 39,qW 41 33,xS 42 41,xv 42 40]) [qg 19 4,xF 20 19 1,qg 4 20]) (qe [qg 43 3,qZ 44,qX 45 1 [qC] 4 [yl 0,xf 1 1,xf 2 2,xf 3 1],wZ 46 44 45,qp 47 fY (xO 43 (wS [109]) (.t 46)),qY 6 [qF,.nils,.nils],qV 3 6 47] (xb [xB 7 .any,qg 49 3,qW 50 49,xS 51 50,qu 52 51,qH 54 3 6,xL 55 3 [qF,.nils,.nils] 1 (yr 3 54),qX 48 3 [qF,.nils,.nils] 0 [],wX 51 52,ya 3 6 54,xh 53 3 64 48 52,ya 3 6 54,xh 56 3 64 53 55,wn 57 yj [xn 0 56],qY 7 yj,xv 7 57] (wj [qH 58 1 7,xq 59 dy 58,xo 60 59] 60 [wn 61 [qC,qC,qF,.nils] [yl 1,xf 1 1],yt 62 4 [qC,qC,qF,.nils] 1 4 61,wn 63 [qC,qF,.nils,.nils,.nils] [yl 3,xn 2 62],yt 64 5 [qC,qF,.nils,.nils,.nils] 1 5 63,wn 65 [qF,.nils,.nils] [(0,1,wS [109]),xn 2 64],yt 66 3 [qF,.nils,.nils] 1 3 65,wn 67 yj [xn 0 66],xv 2 67]) [qH 68 1 7,xv 2 68])))⟩
theorem Bv:ag Tryz.prog dh=some rC:=by kernel_rfl
def tD:FK:=⟨42,[xX 4 4],qe [qY 4 [qC,qC,qF,.nils]] (yn [qZ 8,qX 9 1 [qF] 4 [(0,1,wS [97]),(1,1,wS [98]),(2,1,wS [120]),(3,1,wS [103,111])],xi 10,xR 11 aT 8 9 10,qY 5 [qC,qC,qF,.nils],qV 4 5 11] [qZ 12,yk 13 12 (qj 3),qx 14 .gtr 13 0] 14 [ye 15 5,qV 4 4 15] (qO [qZ 16,qX 17 1 [qF] 3 [(0,1,wS [102]),(1,1,wS [103]),(2,1,wS [97])],xH 18 16 17,wn 19 [qC,qC,qF,.nils] [yl 13,xn 2 18],qY 6 [qC,qC,qF,.nils],qV 4 6 19] (xU [qZ 20,yk 21 20 (qj 4),qg 7 21] 0 [yh 22,qx 23 .gtr 22 0] 23 wA 1 (.reg [xZ 26 6,qZ 28,xL 29 1 [qF] 2 [(0,1,wS [97]),(1,1,wS [98])],qu 27 26,qp 30 aT (xP 28 29 (qj 2)),wX 26 27,xL 31 4 [qC,qC,qF,.nils] 1 (yr 4 30),xh 32 4 56 27 31,xZ 33 6,xv 33 32]) [yh 24,xF 25 24 1,qg 7 25]) (xT (wj [qZ 34,yk 35 34 (qj 2),wb 36 35 0] 36 [ye 37 6,qV 4 4 37]) [ye 38 5,ye 39 6,qX 40 4 [qC,qC,qF,.nils] 2 [yi 4 38,wE 4 4 39],wn 41 [qC,qC,qF,.nils] [yl 3,xn 3 40],qV 4 4 41])))⟩
theorem Dm:ag Tryz.prog gB=some tD:=by kernel_rfl
def rv:FK:=⟨40,[xX 2 4],qe [qY 2 [qC,qC,qF,.nils]] (xb [qZ 4,xW 5 gB 4 4,qY 3 [qC,qC,qF,.nils],qV 4 3 5] (qe [qZ 6,yk 7 6 (qj 20)] (.blk 0 (xt 9 7 0 8 9 8 (.reg [qZ 10,qX 11 1 [qC] 3 [yl (-1),xf 1 256,xf 2 3],wZ 12 10 11,xS 13 3,xv 13 12]) (xt 15 7 1 14 15 14 (.reg [qZ 16,qX 17 1 [qF] 5 [(0,1,.c qF),(1,1,wS [100,111]),(2,1,wS [65]),(3,1,wS [97,98,99,100,101]),(4,1,wS [113])],xH 18 16 17,xu 19 3,xv 19 18]) (xt 21 7 2 20 21 20 (.reg [qZ 22,qX 23 1 [qC] 5 [yl 0,xf 1 14,xf 2 (-1),xf 3 5,xf 4 11],wZ 24 22 23,wT 25 3,xv 25 24]) (xt 27 7 3 26 27 26 (.reg [xZ 28 3,qZ 30,qu 29 28,wL 31 dg 30 (.c .nils),wX 28 29,xL 32 4 [qC,qC,qF,.nils] 1 (yr 4 31),xh 33 4 56 29 32,xZ 34 3,xv 34 33]) (xm (wW 36 7 4 35 36) 35 [qZ 37,xW 38 gB 37 7,qV 4 3 38]))))))) [ye 39 3,qV 4 2 39])⟩
theorem Bj:ag Tryz.prog mC=some rv:=by kernel_rfl
def mJ:AK:=xz [qY 2 yj] [qZ 9,xq 10 dh 9,qY 3 yj,xv 3 10] (qe [wT 11 3,qu 12 11,wT 13 3,qu 14 13,wm 15 14,xF 16 15 1,wB 17 3 12 16,qH 18 3 17,qY 4 [qF,.nils,.nils],qV 3 4 18] (.cut (qe [qZ 19,yk 20 19 (qj 32)] (.blk 0 (xt 22 20 0 21 22 21 (.reg [qZ 23,qX 24 1 [qF] 4 [(0,1,wS [102]),(1,1,wS [100,111]),(2,1,.c qF),(3,1,wS [103])],xH 25 23 24,wT 26 4,xv 26 25]) (xt 28 20 1 27 28 27 (.reg [qX 29 1 [qF] 0 [],xS 30 4,qu 31 30,xh 32 1 16 29 31,qZ 33,qX 34 1 [qF] 3 [(0,1,wS [97]),(1,1,wS [120]),(2,1,wS [105,102])],xH 35 33 34,qX 36 1 [qF] 1 [xn 0 35],xh 37 1 16 32 36,xS 38 4,xv 38 37]) (xt 40 20 2 39 40 39 (.reg [qX 41 5 [qC,qF,.nils,.nils,.nils] 0 [],xu 42 4,qu 43 42,xh 44 5 96 41 43,qZ 45,xq 46 mC 45,yt 47 4 [qC,qC,qF,.nils] 1 4 46,wn 48 [qC,qF,.nils,.nils,.nils] [yl 3,xn 2 47],yt 49 5 [qC,qF,.nils,.nils,.nils] 1 5 48,xh 50 5 96 44 49,xu 51 4,xv 51 50]) (xt 53 20 3 52 53 52 (.reg [qX 54 5 [qC,qF,.nils,.nils,.nils] 0 [],xu 55 4,qu 56 55,xh 57 5 96 54 56,qZ 58,yk 59 58 (qj 10),qZ 60,qX 61 1 [qF] 3 [(0,1,.c qF),(1,1,wS [97]),(2,1,wS [122,122])],xH 62 60 61,qZ 63,xW 64 gB 63 2,yt 65 4 [qC,qC,qF,.nils] 1 4 64,wn 66 [qC,qF,.nils,.nils,.nils] [xn 0 59,xn 1 62,xn 2 65],yt 67 5 [qC,qF,.nils,.nils,.nils] 1 5 66,xh 68 5 96 57 67,xu 69 4,xv 69 68]) (xt 71 20 4 70 71 70 (qe [wn 72 [qC,qC,qF,.nils] [yl 1],yt 73 4 [qC,qC,qF,.nils] 1 4 72,wn 74 [qC,qF,.nils,.nils,.nils] [yl 6,xn 2 73],qY 5 [qC,qF,.nils,.nils,.nils],qV 5 5 74] (.cut (xU [qZ 75,yk 76 75 (qj 5),x8 76] 1 [qg 77 6,qx 78 .gtr 77 0] 78 (.exit 1) 2 (.reg [qZ 81,xL 82 1 [qC] 2 [yl 5,xf 1 6],xu 84 5,qu 85 84,qH 86 5 5,xL 87 5 [qC,qF,.nils,.nils,.nils] 1 (yr 5 86),wZ 83 81 82,wX 84 85,ya 5 5 86,wn 88 [qC,qF,.nils,.nils,.nils] [xn 0 83,xn 2 85,xn 3 87],qV 5 5 88]) [qg 79 6,xF 80 79 1,x8 80]) (.reg [xu 90 4,qu 91 90,qH 93 5 5,xL 94 5 [qC,qF,.nils,.nils,.nils] 1 (yr 5 93),qX 89 5 [qC,qF,.nils,.nils,.nils] 0 [],wX 90 91,ya 5 5 93,xh 92 5 96 89 91,ya 5 5 93,xh 95 5 96 92 94,xu 96 4,xv 96 95]))) (xt 98 20 5 97 98 97 (qA [wn 99 yj [],xv 2 99]) (xt 101 20 6 100 101 100 (xU [qZ 102,qX 103 1 [qC] 3 [yl 20,xf 1 40,xf 2 41],wZ 104 102 103,qg 7 104] 3 [yh 105,qx 106 .gtr 105 0] 106 (.exit 3) 4 (.reg [qX 109 5 [qC,qF,.nils,.nils,.nils] 0 [],xu 110 4,qu 111 110,xh 112 5 96 109 111,yh 113,wn 114 [qC,qC,qF,.nils] [yl 1,xn 1 113],yt 115 4 [qC,qC,qF,.nils] 1 4 114,wn 116 [qC,qF,.nils,.nils,.nils] [yl 3,xn 2 115],yt 117 5 [qC,qF,.nils,.nils,.nils] 1 5 116,xh 118 5 96 112 117,xu 119 4,xv 119 118]) [yh 107,xF 108 107 1,qg 7 108]) (wj (wW 121 20 7 120 121) 120 [wT 123 3,wT 126 3,qu 124 123,qu 127 126,wu 128 3 127 yf,qH 129 3 128,xL 130 3 [qF,.nils,.nils] 1 (yr 3 129),qX 122 3 [qF,.nils,.nils] 0 [],wX 123 124,wX 126 127,ya 3 128 129,xh 125 3 64 122 124,wX 126 127,ya 3 128 129,xh 131 3 64 125 130,wn 132 yj [xn 0 131],xv 2 132])))))))))) (qe [qX 133 3 [qF,.nils,.nils] 0 [],wT 134 3,qu 135 134,xh 136 3 64 133 135,qg 8 136] (xd [yd 137,yd 138,wm 139 138,xF 140 139 1,qH 141 3 4,wB 142 3 137 140,qV 3 142 141] [yd 143,wn 144 yj [xn 0 143],xv 2 144]))))
def my:FK:=⟨145,[xX 2 1],(AK.whole mJ)⟩
theorem Bf:ag Tryz.prog mH=some my:=by kernel_rfl
def rx:FK:=⟨25,[xX 2 4],qe [wI 1 4 0,qY 2 [qC,qC,qF,.nils]] (qO (wV (qX 5 4 [qC,qC,qF,.nils] 0 []) 3 5) (xU [xV] 0 [x8 4,xZ 7 1,qu 8 7,wm 9 8,xa 10 6 9] 10 wA 1 (.reg [qg 13 3,xZ 14 1,qu 15 14,qg 16 4,wB 17 4 15 16,ye 18 17,xq 19 iZ 18,yt 20 4 [qC,qC,qF,.nils] 1 4 19,xh 21 4 56 13 20,qg 3 21]) [qg 11 4,x7 12 11,qg 4 12]) (xd [qg 22 3,xZ 23 1,xv 23 22] [ye 24 1,qV 4 2 24]))⟩
theorem By:ag Tryz.prog iZ=some rx:=by kernel_rfl
def oT:FK:=⟨52,[xE],qe [xB 2 .nils] (xb (wV (qX 8 5 [qC,qF,.nils,.nils,.nils] 0 []) 3 8) (xU [xV] 0 [qg 9 4,qZ 10,wm 11 10,xa 12 9 11] 12 wA 1 (qe [qZ 15,qg 16 4,wB 17 5 15 16,qH 18 5 17,qY 5 [qC,qF,.nils,.nils,.nils],qV 5 5 18] (qO (wV (qX 19 4 [qC,qC,qF,.nils] 0 []) 6 19) (xU [wU 7] 2 [yh 20,xu 21 5,qu 22 21,wm 23 22,xa 24 20 23] 24 (.exit 2) 3 (.reg [qg 27 6,xu 28 5,qu 29 28,yh 30,wB 31 4 29 30,ye 32 31,xq 33 iZ 32,yt 34 4 [qC,qC,qF,.nils] 1 4 33,xh 35 4 56 27 34,x8 35]) [yh 25,x7 26 25,qg 7 26]) (.reg [qg 36 3,wT 37 5,xS 39 5,qg 41 6,xZ 42 5,qq 45 4 5,qu 38 37,qu 40 39,qu 43 42,qu 46 45,xq 44 dD 43,wX 37 38,wX 39 40,wX 45 46,xq 47 dD 46,wX 37 38,wX 39 40,wn 48 [qC,qF,.nils,.nils,.nils] [xn 0 38,xn 1 40,xn 2 41,xn 3 44,xn 4 47],yt 49 5 [qC,qF,.nils,.nils,.nils] 1 5 48,xh 50 5 96 36 49,qg 3 50]))) [qg 13 4,x7 14 13,qg 4 14]) (wV (qg 51 3) 2 51))⟩
theorem Ax:ag Tryz.prog dD=some oT:=by kernel_rfl
def ru:FK:=⟨35,[xX 2 1],qe [wI 1 1 0,qY 2 yj] (xb [wn 6 yj [],qY 3 yj,xv 3 6] (xU [xV] 0 [qg 7 4,wT 8 1,qu 9 8,wm 10 9,xa 11 7 10] 11 wA 1 (yc [wT 14 1,qu 15 14,qg 16 4,wB 17 3 15 16,qH 18 3 17,qY 5 [qF,.nils,.nils],qV 3 5 18] [wT 19 3,wT 21 5,xS 24 5,xu 27 5,qu 20 19,qu 22 21,qu 25 24,qu 28 27,qX 23 1 [qF] 0 [],wX 19 20,wX 21 22,wX 24 25,wX 27 28,xh 26 1 16 23 25,wX 19 20,wX 21 22,wX 27 28,xq 29 dD 28,wX 19 20,wX 21 22,wn 30 [qF,.nils,.nils] [xn 0 22,xn 1 26,xn 2 29],yt 31 3 [qF,.nils,.nils] 1 3 30,wX 19 20,xh 32 3 64 20 31,wT 33 3,xv 33 32]) [qg 12 4,x7 13 12,qg 4 13]) [qH 34 1 3,xv 2 34])⟩
theorem AN:ag Tryz.prog mM=some ru:=by kernel_rfl
def rN:FK:=⟨104,[xX 2 1],qe [qY 2 yj] (yn [qZ 7,xq 8 dh 7,qY 3 yj,xv 3 8] [qZ 9,yk 10 9 (qj 5),qx 11 .gtr 10 2] 11 [qH 12 1 3,xv 2 12] (.seq (wj [qZ 13,yk 14 13 (qj 6),wb 15 14 0] 15 [qZ 16,xq 17 mH 16,xv 2 17]) (qe [qH 18 1 3,xq 19 mM 18,xv 3 19] (yn [wT 20 3,qZ 22,wT 23 3,qu 21 20,qu 24 23,wm 25 24,yk 26 22 (.t 25),wX 20 21,wB 27 3 21 26,qg 4 27] [qg 28 4,qW 29 28,xu 30 29,qu 31 30,wm 32 31,wb 33 32 0] 33 [qH 34 1 3,xv 2 34] (qe [qg 35 4,qW 36 35,xu 37 36,qZ 39,qg 40 4,qW 41 40,xu 42 41,qu 38 37,qu 43 42,wm 44 43,yk 45 39 (.t 44),wX 37 38,wB 46 5 38 45,qg 5 46] (qO [qZ 47,qX 48 1 [qF] 5 [(0,1,wS [122,122]),(1,1,wS [97]),(2,1,wS [98]),(3,1,wS [99]),(4,1,wS [100])],xH 49 47 48,wn 50 [qC,qC,qF,.nils] [yl 2,xn 2 49],qY 6 [qC,qC,qF,.nils],qV 4 6 50] (qe [qZ 51,yk 52 51 (qj 4)] (.blk 0 (xt 54 52 0 53 54 53 (.reg [qZ 55,qX 56 1 [qF] 4 [(0,1,wS [102]),(1,1,wS [103]),(2,1,wS [109]),(3,1,wS [113])],xH 57 55 56,wn 58 [qC,qC,qF,.nils] [yl 1,xf 1 1],yt 59 4 [qC,qC,qF,.nils] 1 4 58,wn 60 [qC,qC,qF,.nils] [yl 13,xn 2 57,xn 3 59],qV 4 6 60]) (xt 62 52 1 61 62 61 (xT (xm [xr 63,qW 64 63,xS 65 64,qu 66 65,qb 67 (yp .neq 66 (.c qF))] 67 [xr 68,qZ 69,qX 70 1 [qF] 5 [(0,1,wS [97]),(1,1,wS [98]),(2,1,wS [122,122]),(3,1,wS [99]),(4,1,wS [100])],xH 71 69 70,qW 72 68,xS 73 72,xv 73 71]) [qH 74 1 3,xv 2 74]) (qQ (wW 76 52 2 75 76) 75 (xd [qg 77 4,qg 78 4,qW 79 78,xu 80 79,qg 82 4,qW 83 82,xu 84 83,qu 81 80,qu 85 84,qb 86 (.slS 5 (.t 85) none (some (qj 1))),xq 87 dD 86,wX 80 81,xh 88 5 96 81 87,qW 89 77,xu 90 89,xv 90 88] [qH 91 1 3,xv 2 91])))))) (xT (xm [xr 92,qW 93 92,wT 94 93,qu 95 94,qx 96 .neq 95 8] 96 [xr 97,qW 98 97,xu 99 98,qu 100 99,ye 101 6,wu 102 4 100 yf,qV 4 102 101]) [qH 103 1 3,xv 2 103])))))))⟩
theorem Be:ag Tryz.prog mF=some rN:=by kernel_rfl
def oH:AK:=xz [wI 3 1 1,xB 4 .nils] (wV (qX 8 1 [qC] 0 []) 5 8) (qe [wU 6] (.cut (xm [wT 9 3,qu 10 9,wm 11 10,qx 12 .gtr 11 0] 12 [wT 13 3,qu 14 13,wT 15 3,qu 16 15,wm 17 16,xF 18 17 1,wB 19 3 14 18,xS 20 19,qu 21 20,wm 22 21,x8 22]) (.cut (xU [wU 7] 0 [yh 23,qg 24 6,xa 25 23 24] 25 wA 1 (.reg [xr 28,qZ 29,qZ 30,yk 31 30 (qj 256),qX 32 1 [qC] 8 [yl 0,xf 1 1,xf 2 2,xf 3 3,xf 4 7,xf 5 16,xf 6 255,xn 7 31],wZ 33 29 32,qX 34 1 [qC] 1 [xn 0 33],xh 35 1 8 28 34,qg 5 35]) [yh 26,x7 27 26,qg 7 27]) (xT (qe [qZ 36,yk 37 36 (qj 40)] (.blk 2 (xt 39 37 0 38 39 38 (.reg [xr 40,qX 41 1 [qC] 1 [yl 0],xh 42 1 8 40 41,qg 5 42]) (qQ (wW 44 37 1 43 44) 43 (xm [xr 45,wm 46 45,qx 47 .gtr 46 0] 47 [xr 48,qZ 49,qX 50 1 [qC] 2 [yl (-1),xf 1 256],wZ 51 49 50,wu 52 1 48 yf,xv 52 51]))))) (wV (xr 53) 4 53)))))
def pj:FK:=⟨54,[xw],(AK.whole oH)⟩
theorem Er:ag Tryz.prog pf=some pj:=by kernel_rfl
def iF:FK:=⟨23,[xX 2 1,.t 3,xw],xz [qY 2 yj,xB 3 .nils,xV] [qZ 7,xq 8 kV 7,yd 5] (xb [xr 9,xq 10 dh 9,qY 6 yj,xv 6 10] (xm [xr 11,yk 12 11 (qj 12),wb 13 12 0] 13 [xr 14,xq 15 mF 14,xv 6 15]) [xr 17,xr 20,xL 21 1 [qC] 10 [yl 400,xf 1 400,xf 2 1000,xf 3 20,xf 4 5,xf 5 1,xf 6 0,xf 7 4000,xf 8 (-1),xf 9 4001],qH 16 1 6,qH 18 1 6,wM 19 pf 17 18,ya 1 6 16,wZ 22 20 21,ya 1 6 16,xv 2 16,qg 3 19,qg 4 22])⟩
theorem nY:ag Tryz.prog ef=some iF:=by kernel_rfl
def rI:FK:=⟨29,[xw],xb [xk] (wQ [qZ 6,wm 7 6,xi 8,wm 9 8,qb 10 (.mn (.t 7) (.t 9)),wU 11] 0 (qO [xa 12 11 10] (xM 12 wA) (wy 1 (qe (wV (qg 13 11) 5 13) (wj [qZ 14,xr 15,wB 16 1 14 15,xi 18,xr 19,wB 20 1 18 19,qu 17 16,qu 21 20,wo 22 .neq 17 21] 22 [xk])) (wV (x7 23 11) 11 23)))) [qZ 24,wm 25 24,xi 26,wm 27 26,wo 28 .eql 25 27,qg 4 28]⟩
theorem Ba:ag Tryz.prog jg=some rI:=by kernel_rfl
def rL:FK:=⟨26,[xw],yn [xk] [qZ 6,wm 7 6,xi 8,wm 9 8,wo 10 .neq 7 9] 10 [xk] (xT (xU [wU 5] 0 [xr 11,qZ 12,wm 13 12,xa 14 11 13] 14 wA 1 (wj [qZ 17,xr 18,wB 19 1 17 18,xi 21,xr 22,wB 23 1 21 22,qu 20 19,qu 24 23,wo 25 .neq 20 24] 25 [xk]) [xr 15,x7 16 15,qg 5 16]) [qd 4 wz])⟩
theorem AR:ag Tryz.prog je=some rL:=by kernel_rfl
def ll:FK:=⟨31,[xw],xd [wI 2 4 0,wI 3 4 1,xk] [wT 5 2,qu 6 5,wT 7 3,qu 8 7,wM 9 je 6 8,qg 10 9,wJ 11 10 1 2,wG 12 10 11,wJ 13 10 1 3,wG 14 10 13,qJ 15 10 (qm .eql 12 (.t 14)),xI 16 10 15,qg 17 16,wJ 18 17 2 2,wG 19 17 18,wJ 20 17 2 3,wG 21 17 20,qJ 22 17 (qm .eql 19 (.t 21)),xI 23 17 22,qg 24 23,wJ 25 24 3 2,wG 26 24 25,wJ 27 24 3 3,wG 28 24 27,qJ 29 24 (xG je 26 (.t 28)),xI 30 24 29,qg 4 30]⟩
theorem sM:ag Tryz.prog dJ=some ll:=by kernel_rfl
def kT:FK:=⟨26,[xw],yn [xk] [qZ 6,wm 7 6,xi 8,wm 9 8,wo 10 .neq 7 9] 10 [xk] (xT (wQ [qZ 11,wm 12 11,wU 13] 0 (qO [xa 14 13 12] (xM 14 wA) (wy 1 (qe (wV (qg 15 13) 5 15) (wj [qZ 16,xr 17,wB 18 1 16 17,xi 20,xr 21,wB 22 1 20 21,qu 19 18,qu 23 22,wo 24 .neq 19 23] 24 [xk])) (wV (x7 25 13) 13 25)))) [qd 4 wz])⟩
theorem sw:ag Tryz.prog kJ=some kT:=by kernel_rfl
def mZ:FK:=⟨14,[xE],yn [wI 1 1 0,wU 2] [qH 5 1 1,xq 6 cr 5,xo 7 6] 7 [qM 2 (-1)] (xd [qH 9 1 1,xq 10 gM 9,qg 8 10,wR 11 0 8,wR 12 1 8,qg 3 11,qg 4 12] (wV (qg 13 3) 2 13))⟩
theorem uY:ag Tryz.prog iR=some mZ:=by kernel_rfl
def gD:AK:=yn [yq] [qZ 15,wm 16 15,qx 17 .gtr 16 1048576] 17 [qd 2 wz] (xz [qZ 19,xq 20 ef 19,qg 18 20,wR 21 0 18,wR 22 1 18,wR 23 2 18,qY 3 yj,xv 3 21,qg 4 22,qg 5 23] [qH 25 1 3,qg 26 4,xr 27,xR 28 bu 25 26 27,qg 24 28,wR 29 0 24,wR 30 1 24,qY 6 [.nils,qC,qC,.nils],qV 4 6 29,qg 7 30] (yn [qH 32 1 3,qg 33 4,xr 34,xR 35 bK 32 33 34,qg 31 35,wR 36 0 31,wR 37 1 31,qY 8 [.nils,qC,qC,.nils],qV 4 8 36,qg 9 37] [yh 38,qg 39 9,qb 40 (.beq true (.t 38) (.t 39)),qg 41 40,qK 42 41 (qk (some 4) 6),qK 43 41 (qk (some 4) 8),qK 44 41 (xG dJ 42 (.t 43)),qK 45 41 (ws 44),xY 46 41 45,qg 47 46,xy 48 47 7,qK 49 47 (ws 48),xY 50 47 49,qg 51 50,xy 52 51 5,qK 53 51 (wY .eql 52 4000),xY 54 51 53] 54 [yh 55,qg 56 9,qb 57 (.beq false (.t 55) (.t 56)),qg 58 57,qJ 59 58 (qk (some 4) 6),qJ 60 58 (qk (some 4) 8),qJ 61 58 (xG dJ 59 (.t 60)),xI 62 58 61,qg 2 62] (xz [wT 63 3,qu 64 63,wm 65 64,xF 66 65 1,qg 10 66] [wT 67 3,qu 68 67,qg 69 10,wB 70 3 68 69,qH 71 3 70,qY 11 [qF,.nils,.nils],qV 3 11 71] (ym [wn 72 [qC,qC,qF,.nils] [yl 1,xf 1 77],yt 73 4 [qC,qC,qF,.nils] 1 4 72,wn 74 [qC,qF,.nils,.nils,.nils] [yl 3,xn 2 73],yt 75 5 [qC,qF,.nils,.nils,.nils] 1 5 74,xu 76 11,qu 77 76,xh 78 5 96 75 77,xu 79 11,xv 79 78] (ym [xB 12 .any,wT 81 3,qg 83 10,qu 82 81,qb 84 (.slS 3 (.t 82) none (some (.t 83))),qH 86 3 11,xL 87 3 [qF,.nils,.nils] 1 (yr 3 86),qX 80 3 [qF,.nils,.nils] 0 [],wX 81 82,ya 3 11 86,xh 85 3 64 80 84,ya 3 11 86,xh 88 3 64 85 87,wn 89 yj [xn 0 88],qY 12 yj,xv 12 89] (.seq (wj [qH 90 1 12,xq 91 cr 90,xo 92 91] 92 [qH 93 1 3,xq 94 iR 93,wb 95 94 40,qg 2 95]) (xd [qH 97 1 12,qg 98 4,xr 99,x7 100 99,xR 101 bu 97 98 100,qg 96 101,wR 102 0 96,wR 103 1 96,qY 13 [.nils,qC,qC,.nils],qV 4 13 102,qg 14 103] [qg 104 14,qg 105 104,wJ 106 105 0 13,wG 107 105 106,qJ 108 105 (wc 107),xK 109 105 .gtr 108 0,xI 110 105 109,qg 111 110,wJ 112 111 0 13,wG 113 111 112,qJ 114 111 (qU 1 113 yf),wG 115 111 114,xK 116 111 .eql 115 77,xI 117 111 116,qg 118 117,wJ 119 118 0 13,wJ 122 118 0 6,wG 120 118 119,qJ 121 118 (.slS 1 (.t 120) (some (qj 1)) none),wG 123 118 122,qJ 124 118 (xG jg 121 (.t 123)),xI 125 118 124,qg 126 125,wJ 127 126 1 13,wJ 129 126 1 6,wG 128 126 127,wG 130 126 129,qJ 131 126 (qm .eql 128 (.t 130)),xI 132 126 131,qg 133 132,wJ 134 133 2 13,wJ 136 133 2 6,wG 135 133 134,wG 137 133 136,qJ 138 133 (qm .eql 135 (.t 137)),xI 139 133 138,qg 140 139,wJ 141 140 3 13,wJ 143 140 3 6,wG 142 140 141,wG 144 140 143,qJ 145 140 (xG jg 142 (.t 144)),xI 146 140 145,qg 2 146])))))))
def gL:FK:=⟨147,[xE],(AK.whole gD)⟩
theorem ug:ag Tryz.prog mc=some gL:=by kernel_rfl
end Go.Proofs.YtokiapglmedipaaGreatDoor
