/-
  Contracts and lemmas that the card needs, part 4.
-/
import Derived.Test.YtghpabfdmbdpfaaGreatDoorKe3
import Derived.Test.YtghpabfdmbdpfaaGreatDoorRows
namespace Go.Proofs.YtghpabfdmbdpfaaGreatDoor
open Go Go.Aw
set_option maxRecDepth 100000
abbrev fO:FuncId:=27
abbrev jQ:FuncId:=198
abbrev kr:FuncId:=192
abbrev mT:FuncId:=174
abbrev fx:FuncId:=193
abbrev mX:FuncId:=175
abbrev cb:FuncId:=146
abbrev iE:FuncId:=194
abbrev im:FuncId:=202
abbrev fc:FuncId:=199
abbrev gn:FuncId:=200
abbrev ef:FuncId:=195
abbrev iG:FuncId:=176
abbrev bL:FuncId:=147
abbrev oG:FuncId:=109
abbrev dZ:FuncId:=148
abbrev mQ:FuncId:=110
abbrev eJ:FuncId:=72
abbrev iU:FuncId:=149
abbrev bm:FuncId:=150
abbrev dr:FuncId:=177
abbrev iB:FuncId:=178
abbrev dI:FuncId:=151
abbrev dM:FuncId:=180
abbrev cm:FuncId:=179
abbrev bX:FuncId:=152
abbrev kZ:FuncId:=111
abbrev eE:FuncId:=73
abbrev lM:FuncId:=52
abbrev cP:FuncId:=25
abbrev eI:FuncId:=187
abbrev eZ:FuncId:=160
abbrev cz:FuncId:=40
abbrev cS:FuncId:=162
abbrev cJ:FuncId:=161
abbrev ca:FuncId:=126
abbrev cF:FuncId:=163
abbrev bS:FuncId:=127
abbrev bT:FuncId:=188
abbrev bB:FuncId:=164
abbrev ft:FuncId:=189
abbrev iy:FuncId:=141
abbrev kH:FuncId:=201
abbrev fv:FuncId:=197
abbrev eu:FuncId:=190
abbrev iA:FuncId:=166
abbrev cd:FuncId:=165
abbrev cg:FuncId:=129
abbrev cK:FuncId:=38
abbrev eq:FuncId:=167
abbrev ko:FuncId:=130
abbrev bi:FuncId:=128
abbrev eG:FuncId:=85
abbrev cu:FuncId:=131
abbrev fq:FuncId:=132
abbrev iI:FuncId:=86
abbrev bV:FuncId:=87
abbrev aV:FuncId:=64
abbrev jD:FuncId:=168
abbrev aW:FuncId:=93
abbrev bD:FuncId:=169
abbrev cW:FuncId:=133
abbrev bq:FuncId:=88
abbrev eD:FuncId:=62
abbrev oe:FuncId:=43
abbrev bO:FuncId:=45
abbrev ic:FuncId:=96
abbrev iH:FuncId:=97
abbrev dq:FuncId:=135
abbrev bg:FuncId:=98
abbrev bZ:FuncId:=136
abbrev bG:FuncId:=100
abbrev fJ:FuncId:=170
abbrev dG:FuncId:=143
abbrev fQ:FuncId:=103
abbrev bA:FuncId:=95
abbrev iZ:FuncId:=99
abbrev jw:FuncId:=138
abbrev ll:FuncId:=140
abbrev kF:FuncId:=142
abbrev dd:FuncId:=137
abbrev kw:FuncId:=139
abbrev mY:FuncId:=102
abbrev iY:FuncId:=101
abbrev jb:FuncId:=104
abbrev lL:FuncId:=69
abbrev gG:FuncId:=58
abbrev gU:FuncId:=48
abbrev dK:FuncId:=63
abbrev jf:FuncId:=44
abbrev aT:FuncId:=65
abbrev eX:FuncId:=67
abbrev eS:FuncId:=94
abbrev aU:FuncId:=92
abbrev dS:FuncId:=68
abbrev dJ:FuncId:=90
abbrev du:FuncId:=134
abbrev aX:FuncId:=89
abbrev dj:FuncId:=91
abbrev bj:FuncId:=66
abbrev fW:FuncId:=47
abbrev cB:FuncId:=46
abbrev cV:FuncId:=23
abbrev kA:FuncId:=153
abbrev fd:FuncId:=112
abbrev cf:FuncId:=113
abbrev bu:FuncId:=117
abbrev bF:FuncId:=116
abbrev ce:FuncId:=115
abbrev er:FuncId:=183
abbrev ij:FuncId:=196
abbrev bh:FuncId:=182
abbrev fP:FuncId:=181
abbrev gt:FuncId:=154
abbrev bn:FuncId:=114
abbrev lh:FuncId:=74
abbrev ik:FuncId:=53
abbrev iF:FuncId:=120
abbrev fY:FuncId:=155
abbrev lA:FuncId:=156
abbrev mE:FuncId:=118
abbrev gh:FuncId:=119
abbrev jR:FuncId:=75
abbrev gL:FuncId:=54
abbrev cX:FuncId:=26
abbrev gY:FuncId:=76
abbrev iz:FuncId:=184
abbrev dO:FuncId:=157
abbrev il:FuncId:=121
abbrev cx:FuncId:=77
abbrev kV:FuncId:=55
abbrev mM:FuncId:=29
abbrev ep:FuncId:=13
abbrev eh:FuncId:=78
abbrev ip:FuncId:=185
abbrev dg:FuncId:=158
abbrev iu:FuncId:=122
abbrev co:FuncId:=79
abbrev lc:FuncId:=56
abbrev jy:FuncId:=30
abbrev db:FuncId:=14
abbrev gS:FuncId:=80
abbrev iD:FuncId:=186
abbrev dP:FuncId:=159
abbrev io:FuncId:=123
abbrev di:FuncId:=81
abbrev kR:FuncId:=57
abbrev mC:FuncId:=31
abbrev ie:FuncId:=15
abbrev ec:FuncId:=36
abbrev lu:FuncId:=19
abbrev dH:FuncId:=37
abbrev iW:FuncId:=39
abbrev lJ:FuncId:=20
abbrev iQ:FuncId:=7
@[reducible] def qa(a:Nat)(b:Option (Nat × Bool))(c:AI):CO:=⟨some a,b,c⟩
@[reducible] def qb(a:Nat)(b:AI):CO:=qa a none b
@[reducible] def qc(a:Nat)(b:AOp):CO:=qb a (.mov b)
@[reducible] def qd(a:List CO)(b:AK):AK:= .seq (.reg a) b
@[reducible] def qe(a b:Nat):CO:=qc a (.t b)
@[reducible] def qf(a:IntKind)(b:Int):AV:= .p (.int a b)
@[reducible] def qg(a:Int):AV:=qf .i64 a
@[reducible] def qh(a b:Nat):AI:= .fldA a (.t b)
@[reducible] def qi(a:Option Nat)(b:Nat):AI:= .ld a (.t b)
@[reducible] def qj(a:Int):AOp:= .c (qg a)
@[reducible] def qk(a:Nat)(b:Nat × Bool)(c:AI):CO:=qa a (some b) c
@[reducible] def ql(a:BinOp)(b:Nat)(c:AOp):AI:= .bin a (.t b) c
@[reducible] def qm(a:Nat)(b:Option Nat)(c:Nat):CO:=qb a (qi b c)
@[reducible] def qn(a:Bool):AV:= .p (.bool a)
@[reducible] def qo(a:Nat)(b c:AK):AK:= .cond (.t a) b c
@[reducible] def qp(a:Nat)(b:FuncId)(c:List AOp):CO:=qb a (.call b c)
@[reducible] def qq(a b:Nat):CO:=qm a none b
@[reducible] def qt(a b c:Nat):CO:=qb a (qh b c)
@[reducible] def qu(a:Nat)(b:BinOp)(c:Nat)(d:AOp):CO:=qb a (ql b c d)
@[reducible] def qv:AV:=qn false
@[reducible] def qw(a:List CO):AK:=qd a .ret
@[reducible] def qx(a:List CO)(b c:AK):AK:= .seq (qd a b) c
@[reducible] def qy(a:Nat)(b:BinOp)(c:Nat)(d:Int):CO:=qu a b c (qj d)
@[reducible] def qz(a:AOp):AI:= .len false a
@[reducible] def qA(a:Nat)(b:Int):CO:=qc a (qj b)
@[reducible] def qB:AOp:= .c qv
@[reducible] def qC(a b:Nat)(c:Bool)(d:AI):CO:=qk a (b,c) d
@[reducible] def qD(a b:Nat)(c:AI):CO:=qC a b false c
@[reducible] def qF(a b:Nat)(c:AI):CO:=qC a b true c
@[reducible] def qG(a b:Nat)(c:AOp):AI:= .idxS a (.t b) c
@[reducible] def qH(a:Nat)(b:AK):AK:=qo a b .skip
@[reducible] def qI(a:Nat)(b c:AOp):AI:= .pick (.t a) b c
@[reducible] def qJ(a:Option (Nat × Bool))(b:AI):CO:=⟨none,a,b⟩
@[reducible] def qK(a b c:Nat):CO:=qm a (some b) c
@[reducible] def qL(a b:List CO)(c:AK):AK:=qd a (qd b c)
@[reducible] def qM(a:Nat):AI:= .nilck (.t a)
@[reducible] def qN(a:AI):CO:=qJ none a
@[reducible] def qO(a:Nat)(b:AK):AK:= .blk a (.loop b)
@[reducible] def qP(a:Nat):AI:=qz (.t a)
@[reducible] def qQ(a:Nat)(b c:AK):AK:= .seq (.blk a b) c
@[reducible] def qR:AV:=qg 0
@[reducible] def qS(a:Nat)(b c:AOp):CO:=qN (.st a b c)
@[reducible] def qT(a:Nat):AI:= .not (.t a)
@[reducible] def qU(a:Nat)(b:List CO):AK:=qH a (qw b)
@[reducible] def qV(a b:Nat):AI:= .box a (.t b)
@[reducible] def qW:AV:=qn true
@[reducible] def qX(a b:Nat):CO:=qb a (qP b)
@[reducible] def qY(a:Nat)(b:AK)(c:Nat):AK:=qo a b (.exit c)
@[reducible] def qZ(a:Nat):AI:=qi none a
@[reducible] def q6(a:Nat)(b:BinOp)(c d:Nat):CO:=qu a b c (.t d)
@[reducible] def q7(a b:Nat)(c:AOp):CO:=qS a (.t b) c
@[reducible] def q8(a b c:Nat):CO:=q7 a b (.t c)
@[reducible] def q9(a b c:Nat)(d:AOp):CO:=qb a (qG b c d)
@[reducible] def wa(a:Nat)(b:AK)(c:List CO):AK:=qQ a b (.reg c)
@[reducible] def wb(a:List UInt8):AV:= .p (.str a)
@[reducible] def wd(a b c d:Nat):CO:=q9 a b c (.t d)
@[reducible] def we(a b:Nat)(c d:AOp):CO:=qb a (qI b c d)
@[reducible] def wg(a:Nat)(b:List AV):CO:=qb a (.alloc b)
@[reducible] def wh(a b:Nat)(c:Int):CO:=qy a .add b c
@[reducible] def wj(a:Nat):CO:=qc a qB
@[reducible] def wl(a:Nat):CO:=qe a 0
@[reducible] def wm(a:Nat):AI:= .mov (.t a)
@[reducible] def wn:AOp:= .c qW
@[reducible] def wo(a b:Nat):AK:=qY a .skip b
@[reducible] def wq(a b c:Nat):CO:=qb a (qV b c)
@[reducible] def wt(a b:Nat)(c:Int):CO:=qy a .eql b c
@[reducible] def wu(a b:Nat):CO:=qb a (qM b)
@[reducible] def wv(a:List CO)(b:AK)(c:List CO):AK:=qx a b (qw c)
@[reducible] def ww(a b c:Nat):CO:=q6 a .lss b c
@[reducible] def wx:AOp:=qj 0
@[reducible] def wy(a:Nat):CO:=qA a 0
@[reducible] def wz:CO:=wj 4
@[reducible] def wA(a b:Nat)(c:List AV)(d:Nat)(e:List (Nat × Nat × AOp)):CO:=qb a (.bsl b c d e)
@[reducible] def wB:AV:=wb []
@[reducible] def wD(a b:Nat):AI:= .ext a (.t b)
@[reducible] def wE(a b:Nat):CO:=qb a (qT b)
@[reducible] def wF(a b:Nat)(c:AOp)(d:Nat):CO:=we a b c (.t d)
@[reducible] def wG(a b c:Nat):CO:=qD a b (qZ c)
@[reducible] def wH(a b c:Nat):CO:=qF a b (qZ c)
@[reducible] def wI(a:Nat):CO:=qe a 1
@[reducible] def wJ(a:CO)(b c:Nat):List CO:=[a,qe b c]
@[reducible] def wK(a b c d:Nat):CO:=qD a b (qh c d)
@[reducible] def wL(a b c d:Nat):CO:=qF a b (qh c d)
@[reducible] def wM(a:Option Nat)(b c:Nat):CO:=qN (.chk a b c)
@[reducible] def wN(a:Nat)(b:AOp):List AOp:=[.t a,b]
@[reducible] def wP(a:Nat)(b:FuncId)(c:Nat)(d:AOp):CO:=qp a b (wN c d)
@[reducible] def wQ(a:Nat)(b:FuncId)(c d:Nat):CO:=wP a b c (.t d)
@[reducible] def wR(a b:Nat):CO:=qt a 0 b
@[reducible] def wS(a:Nat):List AOp:=[.t a]
@[reducible] def wT(a:Nat)(b:FuncId)(c:Nat):CO:=qp a b (wS c)
@[reducible] def wU(a:Nat):CO:=qe a 5
@[reducible] def wV(a:List CO)(b:Nat)(c:AK)(d:List CO):AK:=wv a (qO b c) d
@[reducible] def wW(a b:Nat)(c:Int)(d e:Nat):List CO:=wJ (wt a b c) d e
@[reducible] def wX(a:Nat):List RV:=[.t a]
@[reducible] def wY(a:List CO)(b c:Nat)(d:AK):AK:=qx a (wo b c) d
@[reducible] def wZ(a:Nat)(b:AK)(c:List CO)(d:AK):AK:=qo a b (qd c d)
@[reducible] def w6(a b:List CO):AK:=qd a (qw b)
@[reducible] def w7(a:List CO)(b:Nat)(c:List CO)(d:AK):AK:=qx a (qU b c) d
@[reducible] def w8:List RV:=wX 4
@[reducible] def w9:AOp:=qj 1
@[reducible] def xa(a:List CO)(b c d:Nat)(e:AK)(f:List CO):AK:=wY a b c (wa d e f)
@[reducible] def xb(a b c:Nat):CO:=qD a b (wm c)
@[reducible] def xc(a b c:Nat):CO:=qb a (wD b c)
@[reducible] def xd(a b:Nat)(c:FuncId)(d:List AOp):CO:=qD a b (.call c d)
@[reducible] def xe(a:Nat)(b:List AOp):CO:=qp a ce b
@[reducible] def xf(a b:Nat):CO:=qt a 1 b
@[reducible] def xg(a b c:Nat)(d:AOp):CO:=we a b (.t c) d
@[reducible] def xh:CO:=wy 4
@[reducible] def xi(a b:Nat):CO:=wh a b 1
@[reducible] def xj(a:List CO)(b c:AK):AK:=qd a (.seq b c)
@[reducible] def xk(a b:Nat)(c:BinOp)(d:Nat)(e:AOp):CO:=qF a b (ql c d e)
@[reducible] def xl:List RV:=wX 2
@[reducible] def xm(a b:Nat):CO:=wM none a b
@[reducible] def xn(a b:Nat):CO:=qt a 2 b
@[reducible] def xo:AOp:= .c .nils
@[reducible] def xp(a:Nat)(b:List AOp):CO:=qp a eX b
@[reducible] def xq(a b c:Nat):CO:=wF a b wn c
@[reducible] def xr(a:List CO)(b:Nat)(c:List CO):AK:=qd a (qU b c)
@[reducible] def xt(a b:Nat):CO:=wT a cf b
@[reducible] def xu(a:Nat)(b:List AOp):CO:=qp a bu b
@[reducible] def xv(a b c:Nat):Nat × Nat × AOp:=(a,b,.t c)
@[reducible] def xw(a:Nat)(b:List AV)(c:List (Nat × Nat × AOp)):CO:=qb a (.bld b c)
@[reducible] def xx(a b:Nat):CO:=q8 1 a b
@[reducible] def xy(a:Nat)(b:List AOp):CO:=qp a dS b
@[reducible] def xz(a:Nat)(b:List AOp):CO:=qp a cP b
@[reducible] def xA(a:FuncId)(b:List AOp):AI:= .mkf (.func a) b
@[reducible] def xB(a b:Nat):Nat × Nat × AOp:=xv a 1 b
@[reducible] def xC(a:Nat):CO:=qe a 4
@[reducible] def xD(a:BinOp)(b:Nat)(c:AOp):AI:= .bins a (.t b) c
@[reducible] def xE(a b:Nat)(c:BinOp)(d:Nat)(e:AOp):CO:=qD a b (ql c d e)
@[reducible] def xF(a:Nat)(b:List CO):AK:=qH a (.reg b)
@[reducible] def xG(a b:Nat):CO:=wT a bF b
@[reducible] def xH:List CO:=[wz]
@[reducible] def xI(a b:Nat):CO:=wq a b 0
@[reducible] def xJ(a:Nat):List CO:=[wy a]
@[reducible] def xK:CO:=wj 2
@[reducible] def xL(a b c:Nat):CO:=qD a b (qT c)
@[reducible] def xM(a b c:Nat)(d:AOp):AI:= .app a b (.t c) d
@[reducible] def xN(a b:Nat)(c:List AOp):CO:=xd a b fO c
@[reducible] def xO(a:Nat)(b:List AOp):AI:= .callv (.t a) b
@[reducible] def xP(a b:Nat)(c:Int):CO:=qy a .lss b c
@[reducible] def xQ(a:List CO)(b:Nat)(c:List CO)(d e f:Nat)(g:AK)(h i:List CO):AK:=wV a b (xa c d e f g h) i
@[reducible] def xR(a:List CO)(b c:Nat)(d:AK):AK:=xj a (wo b c) d
@[reducible] def xS(a b:CO)(c d:Nat):List CO:=[a,b,qe c d]
@[reducible] def xT(a:CO)(b c d e:Nat):List CO:=xS a (xi b c) d e
@[reducible] def xU(a:Nat)(b c:AOp):List AOp:=[.t a,b,c]
@[reducible] def xV(a:Nat)(b:AOp)(c:Nat):List AOp:=xU a b (.t c)
@[reducible] def xW(a b c:AK):AK:= .cut a (.cut b c)
@[reducible] def xX:CO:=wl 12
@[reducible] def xY(a:Nat)(b:AK)(c d:Nat)(e:Int)(f g:Nat)(h:AK):AK:=wZ a b (wW c d e f g) h
@[reducible] def xZ(a b c d:Nat):List CO:=wJ (xi a b) c d
@[reducible] def x4(a b c:Nat):CO:=xg a b c qB
@[reducible] def x6(a b:Nat)(c:AOp):CO:=wP a bV b c
@[reducible] def x7(a:Nat)(b:Int):List CO:=[qA a b]
@[reducible] def x8(a:Nat):CO:=qe a 10
@[reducible] def x9:CO:=wj 6
@[reducible] def ya(a:Nat):CO:=qe a 8
@[reducible] def yb(a b:Nat):CO:=qt a 3 b
@[reducible] def yc(a:Nat):List CO:=x7 a (-1)
@[reducible] def ye:List CO:=yc 4
@[reducible] def yf(a:Nat)(b:List AOp):CO:=qp a fO b
@[reducible] def yg(a b:List CO)(c:Nat)(d:List CO)(e:AK):AK:=qd a (w7 b c d e)
@[reducible] def yh(a:List CO)(b c d:Nat)(e:AK)(f:List CO):AK:=xR a b c (wa d e f)
@[reducible] def yi(a b c:Nat):CO:=qF a b (wm c)
@[reducible] def yj(a:Nat):CO:=qe a 6
@[reducible] def yk:List AV:=[.nils]
@[reducible] def yl(a:Nat):CO:=qe a 3
@[reducible] def ym(a b c d:List CO)(e:AK):AK:=qL a b (qL c d e)
@[reducible] def yn(a:Nat)(b:AOp)(c:Int):List AOp:=xU a b (qj c)
@[reducible] def yp(a b c:Nat):List AOp:=xV a (.t b) c
@[reducible] def yq(a b:Nat)(c:Int):CO:=qy a .sub b c
def oh:FK:=⟨15,wX 6,w6 [x9] [wl 7,wI 8,q6 9 .geq 7 8,qe 10 9,yi 11 10 0,yi 12 10 2,xk 13 10 .leq 11 (.t 12),x4 14 10 13,qe 6 14]⟩
theorem CI:al Tryz.prog fO=some oh:=by kernel_rfl
def oL:FK:=⟨18,w8,qd [xh] (xQ (xJ 5) 0 [wU 6,wl 7,qb 8 (.len true (.t 7)),ww 9 6 8] 9 0 1 (xr [xX,wU 13,qb 14 (.idxStr (.t 12) (.t 13)),wI 15,q6 16 .eql 14 15] 16 (wJ (wU 17) 4 17)) (xT (wU 10) 11 10 5 11) ye)⟩
theorem vQ:al Tryz.prog jQ=some oL:=by kernel_rfl
def oI:FK:=⟨28,xl,qd (xJ 2) (qQ 0 (qd [wl 4,qu 5 .geq 4 (.c (qf .u8 97)),wU 6,yi 7 6 0,xk 8 6 .leq 7 (.c (qf .u8 122)),x4 9 6 8,qe 3 9] (wZ 3 (qw (x7 2 1)) [wl 11,qu 12 .geq 11 (.c (qf .u8 48)),qe 13 12,yi 14 13 0,xk 15 13 .leq 14 (.c (qf .u8 57)),x4 16 13 15,qe 10 16] (wZ 10 (qw (x7 2 2)) [wl 18,qp 19 jQ [.c (wb [40,41,123,125,59,44,43,45,42,47,37,60,61,38,33,64]),.t 18],qy 20 .geq 19 0,qe 17 20] (wZ 17 (qw (x7 2 3)) [wl 22,qu 23 .eql 22 (.c (qf .u8 32)),qe 24 23,xb 25 24 0,xE 26 24 .eql 25 (.c (qf .u8 10)),xq 27 24 26,qe 21 27] (qU 21 (x7 2 4)))))) (qw (xJ 2)))⟩
theorem zR:al Tryz.prog kr=some oI:=by kernel_rfl
def rW:FK:=⟨21,w8,qd xH (xQ (xJ 5) 0 [wU 6,wl 7,qb 8 (.len true (.t 7)),ww 9 6 8] 9 0 1 (xr [xX,wU 13,qb 14 (.idxStr (.t 12) (.t 13)),wT 15 kr 14,wI 16,q6 17 .neq 15 16] 17 xH) (xT (wU 10) 11 10 5 11) [wl 18,qb 19 (.len true (.t 18)),qy 20 .gtr 19 0,qe 4 20])⟩
theorem Ci:al Tryz.prog mT=some rW:=by kernel_rfl
def nj:FK:=⟨2,wX 0,w6 [qc 0 xo] [wA 1 1 [wB] 9 [(0,1,.c (wb [102,110])),(1,1,.c (wb [108,101,116])),(2,1,.c (wb [115,97,121])),(3,1,.c (wb [112,117,116])),(4,1,.c (wb [105,102])),(5,1,.c (wb [101,108,115,101])),(6,1,.c (wb [108,111,111,112])),(7,1,.c (wb [98,97,99,107])),(8,1,.c (wb [100,111]))],wI 0]⟩
theorem uY:al Tryz.prog fx=some nj:=by kernel_rfl
def rT:FK:=⟨18,xl,qL [xK] (wJ (qp 5 fx []) 3 5) (xQ [xh] 0 [xC 6,yl 7,qX 8 7,ww 9 6 8] 9 0 1 (xr [yl 12,xC 13,wd 14 1 12 13,qq 15 14,wl 16,qb 17 (xD .eql 15 (.t 16))] 17 [qc 2 wn]) (xT (xC 10) 11 10 4 11) [xK])⟩
theorem BD:al Tryz.prog mX=some rT:=by kernel_rfl
def pI:FK:=⟨15,xl,w6 [xK] [wl 3,wP 4 mT 3 w9,xC 5,yi 6 5 0,qF 7 5 (.len true (.t 6)),xk 8 5 .leq 7 (qj 4),x4 9 5 8,qe 10 9,yi 11 10 0,qF 12 10 (.call mX (wS 11)),qF 13 10 (qT 12),x4 14 10 13,qe 2 14]⟩
theorem AF:al Tryz.prog cb=some pI:=by kernel_rfl
def lC:FK:=⟨5,xl,qd (xJ 2) (wv [wl 3,wt 4 3 4] (qU 4 (x7 2 2)) (x7 2 1))⟩
theorem Af:al Tryz.prog iE=some lC:=by kernel_rfl
def cQ:FK:=⟨13,[.t 2,.t 3],qd [wy 2,wy 3] (wv [wl 4] (.blk 0 (qx (wW 6 4 1 5 6) (qo 5 .skip (.reg (wW 7 4 2 5 7))) (qo 5 (qw [wy 2,wy 3]) (qx (wW 9 4 11 8 9) (qo 8 .skip (.reg (wW 10 4 12 8 10))) (xY 8 (qw [qA 2 1,qA 3 1]) 12 4 13 11 12 (qU 11 [wy 2,qA 3 3])))))) [qA 2 2,qA 3 2])⟩
theorem Az:al Tryz.prog im=some cQ:=by kernel_rfl
def iC:FK:=⟨86,w8,qL [xI 2 4,wz] [wR 10 2,qq 11 10,wT 12 im 11,qe 9 12,xc 13 0 9,xc 14 1 9,qe 5 13,qe 6 14] (w7 [wI 15,xP 16 15 1,qe 17 16,wK 18 17 0 2,wG 19 17 18,xN 20 17 (yn 19 w9 13),xL 21 17 20,xq 22 17 21,qe 23 22,wK 24 23 3 2,wG 25 23 24,qD 26 23 (qP 25),xb 27 23 5,xb 28 23 6,xN 29 23 (yp 26 27 28),xL 30 23 29,xq 31 23 30] 31 xH (yg [wR 32 2,qq 33 32,wt 34 33 2,qe 35 34,wK 36 35 0 2,wG 37 35 36,xE 38 35 .eql 37 (qj 13),xq 39 35 38,qe 7 39] [qe 40 7,xn 41 2,qq 42 41,wT 43 cb 42,qb 44 (.beq true (.t 40) (.t 43)),qe 45 44,xb 46 45 7,xL 47 45 46,xb 48 45 47,wL 49 48 2 2,wH 50 48 49,qF 51 48 (xD .neq 50 (.c wB)),qD 52 45 (qI 48 (.t 51) qB),xq 53 45 52,qe 54 53,wK 55 54 1 2,wG 56 54 55,xN 57 54 (yn 56 wx 255),xL 58 54 57,xq 59 54 58,qe 60 59,wK 61 60 0 2,wG 62 60 61,xE 63 60 .neq 62 w9,xb 64 60 63,wL 65 64 1 2,wH 66 64 65,xk 67 64 .neq 66 wx,qD 68 60 (qI 64 (.t 67) qB),xq 69 60 68] 69 xH (xQ (xJ 8) 0 [ya 70,yb 71 2,qq 72 71,qX 73 72,ww 74 70 73] 74 0 1 (xr [yb 77 2,qq 78 77,ya 79,wd 80 4 78 79,qK 81 4 80,wI 82,yq 83 82 1,wQ 84 fc 81 83,wE 85 84] 85 xH) (xT (ya 75) 76 75 8 76) [qc 4 wn])))⟩
theorem pO:al Tryz.prog fc=some iC:=by kernel_rfl
def nD:FK:=⟨21,xl,qL [xI 1 4,wy 2] (x7 3 1) (xQ [xh] 0 [xC 5,yb 6 1,qq 7 6,qX 8 7,ww 9 5 8] 9 0 1 (.reg [yl 12,yb 13 1,qq 14 13,xC 15,wd 16 4 14 15,qK 17 4 16,wT 18 gn 17,q6 19 .add 12 18,qe 3 19]) (xT (xC 10) 11 10 4 11) (wJ (yl 20) 2 20))⟩
theorem zE:al Tryz.prog gn=some nD:=by kernel_rfl
def mr:FK:=⟨10,xl,w6 [xI 1 4,xK] [qK 3 4 1,wP 4 fc 3 (qj 6),xC 5,qF 6 5 (qi (some 4) 1),qF 7 5 (.call gn (wS 6)),xk 8 5 .leq 7 (qj 30),x4 9 5 8,qe 2 9]⟩
theorem tK:al Tryz.prog ef=some mr:=by kernel_rfl
def iw:FK:=⟨108,w8,yg [xI 2 5,wz] [wI 7,xP 8 7 1,ya 9,wK 10 9 0 2,wG 11 9 10,xN 12 9 (yn 11 w9 8),xL 13 9 12,xq 14 9 13,qe 15 14,wK 16 15 2 2,wK 19 15 0 2,wG 17 15 16,qD 18 15 (qP 17),wG 20 15 19,qD 21 15 (.qcall iE (wS 20)),xE 22 15 .neq 18 (.t 21),xq 23 15 22] 23 xH (yg [wR 24 2,qq 25 24,wt 26 25 1,qe 27 26,wK 28 27 0 2,wG 29 27 28,xE 30 27 .eql 29 (qj 2),xq 31 27 30,qe 5 31] [wU 32,xf 33 2,qq 34 33,wT 35 cb 34,qb 36 (.beq true (.t 32) (.t 35)),qe 37 36,xb 38 37 5,xL 39 37 38,xb 40 37 39,wL 41 40 1 2,wH 42 40 41,qF 43 40 (xD .neq 42 (.c wB)),qD 44 37 (qI 40 (.t 43) qB),xq 45 37 44] 45 xH (qx (xJ 6) (qO 0 (xa [yj 46,xn 47 2,qq 48 47,qX 49 48,ww 50 46 49] 50 0 1 (xr [xn 53 2,qq 54 53,yj 55,wd 56 4 54 55,qK 57 4 56,wT 58 ef 57,wE 59 58] 59 xH) (xT (yj 51) 52 51 6 52))) (w7 [wR 60 2,qq 61 60,wt 62 61 8,qe 63 62,wL 64 63 2 2,wH 65 63 64,qF 66 63 (qG 4 65 wx),wL 67 63 0 66,wH 68 63 67,xk 69 63 .neq 68 (qj 13),x4 70 63 69] 70 xH (wv [qt 71 4 2,qq 72 71,qX 73 72,qy 74 .gtr 73 0,qe 75 74,wL 76 75 0 2,wH 77 75 76,xk 78 75 .neq 77 (qj 5),x4 79 75 78,qe 80 79,wK 81 80 3 2,wG 82 80 81,qD 83 80 (qP 82),xE 84 80 .gtr 83 wx,xb 85 80 84,wL 86 85 0 2,wH 87 85 86,xk 88 85 .neq 87 (qj 5),qD 89 80 (qI 85 (.t 88) qB),xb 90 80 89,wL 91 90 0 2,wH 92 90 91,xk 93 90 .neq 92 (qj 6),qD 94 80 (qI 90 (.t 93) qB),xq 95 80 94] (qU 95 xH) [yb 96 2,qq 97 96,wI 98,yq 99 98 1,wQ 100 bL 97 99,qe 101 100,wL 102 101 4 2,wH 103 101 102,yi 104 101 1,xk 105 101 .sub 104 w9,qF 106 101 (.call bL (wN 103 (.t 105))),x4 107 101 106,qe 4 107]))))⟩
theorem ra:al Tryz.prog iG=some iw:=by kernel_rfl
def nP:FK:=⟨19,w8,qd xH (xQ (xJ 5) 0 [wU 6,wl 7,qX 8 7,ww 9 6 8] 9 0 1 (xr [xX,wU 13,wd 14 5 12 13,qK 15 5 14,wI 16,wQ 17 iG 15 16,wE 18 17] 18 xH) (xT (wU 10) 11 10 5 11) [qc 4 wn])⟩
theorem zg:al Tryz.prog bL=some nP:=by kernel_rfl
def uA:FK:=⟨32,xl,qd [xI 1 3,xK] (xQ (xJ 3) 0 [yl 4,xf 5 1,qq 6 5,qX 7 6,ww 8 4 7] 8 0 1 (xr [xf 11 1,qq 12 11,yl 13,wd 14 1 12 13,qq 15 14,wT 16 cb 15,wE 17 16] 17 [xK]) (xT (yl 9) 10 9 3 10) [wR 18 1,qq 19 18,wT 20 cb 19,qe 21 20,wL 22 21 1 1,wH 23 21 22,qF 24 21 (qP 23),xk 25 21 .leq 24 (qj 3),x4 26 21 25,qe 27 26,wL 28 27 2 1,wH 29 27 28,qF 30 27 (.call bL (wN 29 (qj 4))),x4 31 27 30,qe 2 31])⟩
theorem CV:al Tryz.prog oG=some uA:=by kernel_rfl
def kq:FK:=⟨29,xl,qL (xJ 2) (xS (wl 5) (qX 6 5) 3 6) (xQ [xh] 0 [xC 7,wl 8,qX 9 8,ww 10 7 9] 10 0 1 (.reg [yl 13,wl 14,xC 15,wd 16 5 14 15,yb 17 16,wl 21,xC 22,wd 23 5 21 22,qt 24 4 23,qq 18 17,qq 25 24,wT 19 dZ 18,xm 24 25,q6 20 .add 13 19,wT 26 dZ 25,q6 27 .add 20 26,qe 3 27]) (xT (xC 11) 12 11 4 12) (wJ (yl 28) 2 28))⟩
theorem oR:al Tryz.prog dZ=some kq:=by kernel_rfl
def tc:FK:=⟨22,xl,qL [xI 1 1,wy 2] (xJ 3) (xQ [xh] 0 [xC 5,wR 6 1,qq 7 6,qX 8 7,ww 9 5 8] 9 0 1 (.reg [yl 12,wR 13 1,qq 14 13,xC 15,wd 16 3 14 15,xn 17 16,qq 18 17,wT 19 dZ 18,q6 20 .add 12 19,qe 3 20]) (xT (xC 10) 11 10 4 11) (wJ (yl 21) 2 21))⟩
theorem BY:al Tryz.prog mQ=some tc:=by kernel_rfl
def jr:FK:=⟨26,xl,yg [xI 1 1,xK] [wR 4 1,qq 5 4,qX 6 5,yf 7 (yn 6 w9 4),wE 8 7] 8 [xK] (xQ (xJ 3) 0 [yl 9,wR 10 1,qq 11 10,qX 12 11,ww 13 9 12] 13 0 1 (xr [wR 16 1,qq 17 16,yl 18,wd 19 3 17 18,qK 20 3 19,wT 21 oG 20,wE 22 21] 22 [xK]) (xT (yl 14) 15 14 3 15) [qK 23 1 1,wT 24 mQ 23,qy 25 .leq 24 40,qe 2 25])⟩
theorem pE:al Tryz.prog eJ=some jr:=by kernel_rfl
def uj:FK:=⟨22,w8,qd [xI 2 1,xh] (xQ (xJ 5) 0 [wU 6,wR 7 2,qq 8 7,qX 9 8,ww 10 6 9] 10 0 1 (xr [wR 13 2,qq 14 13,wU 15,wd 16 3 14 15,wR 17 16,qq 18 17,wI 19,qb 20 (xD .eql 18 (.t 19))] 20 (wJ (wU 21) 4 21)) (xT (wU 11) 12 11 5 12) ye)⟩
theorem Ef:al Tryz.prog iU=some uj:=by kernel_rfl
def fG:FK:=⟨13,[],qd [wl 4,wu 5 4,qt 6 4 5,qq 7 6,wt 8 7 0] (xF 8 [wl 9,wI 10,wu 11 9,qt 12 4 11,xx 12 10])⟩
theorem rm:al Tryz.prog bm=some fG:=by kernel_rfl
def fz:FK:=⟨27,w8,qd [xh] (xQ [wl 6,wu 7 6,xn 8 7,qq 9 8,qX 10 9,yq 11 10 1,qe 5 11] 0 [wU 12,qy 13 .geq 12 0] 13 0 1 (xr [wl 16,wu 17 16,xn 18 17,qq 19 18,wU 20,wd 21 3 19 20,wR 22 21,qq 23 22,wI 24,qb 25 (xD .eql 23 (.t 24))] 25 (wJ (wU 26) 4 26)) (xS (wU 14) (yq 15 14 1) 5 15) ye)⟩
theorem rk:al Tryz.prog dr=some fz:=by kernel_rfl
def rd:FK:=⟨11,xl,qL [qc 2 (.c wB)] [wl 4,qy 5 .rem 4 26,wU 3] (qw [yl 6,yl 7,xi 8 7,qb 9 (.slStr (.c (wb [97,98,99,100,101,102,103,104,105,106,107,108,109,110,111,112,113,114,115,116,117,118,119,120,121,122])) (some (.t 6)) (some (.t 8))),qb 10 (.bins .add (.c (wb [118])) (.t 9)),x8 2])⟩
theorem Ak:al Tryz.prog iB=some rd:=by kernel_rfl
def gb:AK:=qL [qc 6 (.c wB)] [wl 8,wI 9,wQ 10 dr 8 9,x8 7] (.cut (qd [qe 11 7,qy 12 .geq 11 0,qe 13 12,yi 14 13 0,qF 15 13 (qM 14),wL 16 13 2 15,wH 17 13 16,yi 18 13 7,qF 19 13 (qG 3 17 (.t 18)),wL 20 13 2 19,wH 21 13 20,yi 22 13 2,xk 23 13 .eql 21 (.t 22),x4 24 13 23] (xF 24 [wl 25,wP 26 bm 25 (qj 2)])) (qL [wl 27,wl 28,wu 29 28,xn 30 29,wI 32,wl 33,wu 34 33,yb 35 34,qe 37 2,qq 31 30,qq 36 35,xw 38 [wB,qR,qR] [xB 0 32,xB 1 36,xB 2 37],qb 39 (.bslP 3 [wB,qR,qR] 1 [xv 0 3 38]),qb 40 (xM 3 32 31 (.t 39)),wu 41 27,xn 42 41,xx 42 40] [wl 43,wl 44,wu 45 44,yb 46 45,qq 47 46,xi 48 47,wu 49 43,yb 50 49,xx 50 48] (qw [wl 51,wu 52 51,yb 53 52,qq 54 53,yq 55 54 1,wT 56 iB 55,qe 6 56])))
def gg:FK:=⟨57,wX 6,(AK.whole gb)⟩
theorem sO:al Tryz.prog dI=some gg:=by kernel_rfl
def lg:FK:=⟨23,w8,qL [qc 4 (.c wB)] [wl 6,wI 7,wQ 8 dr 6 7,ya 5] (wv [wU 9,xP 10 9 0] (qH 10 (w6 [wl 11,wP 12 bm 11 (qj 3)] (wJ (wI 13) 4 13))) [wl 14,wu 15 14,xn 16 15,qq 17 16,wU 18,wd 19 3 17 18,xf 20 19,qq 21 20,wT 22 iB 21,qe 4 22])⟩
theorem rY:al Tryz.prog dM=some lg:=by kernel_rfl
def fA:AK:=qd [wq 3 4 1,wg 4 [qR,qR,wB,.nils]] (xW (qd [wR 8 3,qq 9 8,wt 10 9 2] (xF 10 [wl 11,xn 12 3,qq 13 12,wQ 14 dM 11 13,xn 15 3,xx 15 14])) (qd [wR 16 3,qq 17 16,wt 18 17 13] (qH 18 (qL [wl 19,wu 20 19,wR 21 20,xn 23 3,qK 22 1 21,qq 24 23,wQ 25 iU 22 24,qe 5 25] [wU 26,xP 27 26 0,qe 28 27,xb 29 28 5,xb 30 28 0,qD 31 28 (qM 30),wK 32 28 1 31,wG 33 28 32,xE 34 28 .geq 29 (.t 33),xq 35 28 34] (wZ 35 (.reg [wl 36,wP 37 bm 36 (qj 4)]) [wl 38,wu 39 38,wR 40 39,wR 41 40,wU 43,yb 48 3,qq 42 41,wd 44 3 42 43,xf 45 44,qq 46 45,qX 47 46,qq 49 48,qX 50 49,q6 51 .neq 47 50] (xF 51 [wl 52,wP 53 bm 52 (qj 5)]))))) (qd (wJ (wA 54 4 [qR,qR,wB,.nils] 0 []) 6 54) (qx (xJ 7) (qO 0 (xa [qe 55 7,yb 56 3,qq 57 56,qX 58 57,ww 59 55 58] 59 0 1 (.reg [yj 62,wl 63,yb 64 3,qq 65 64,qe 66 7,wd 67 4 65 66,qK 68 4 67,wQ 69 cm 63 68,wA 70 4 [qR,qR,wB,.nils] 1 [xv 0 4 69],qb 71 (xM 4 56 62 (.t 70)),qe 6 71]) (xT (qe 60 7) 61 60 7 61))) (w6 [yj 72,yb 73 3,xx 73 72] [qK 74 4 3,q8 4 4 74]))))
def fF:FK:=⟨75,[.c 4 (some 4)],(AK.whole fA)⟩
theorem rG:al Tryz.prog cm=some fF:=by kernel_rfl
def eO:AK:=qL [qc 6 xo] (wJ (wA 13 5 [qR,wB,.nils,.nils,.nils] 0 []) 7 13) (qd [wl 14,wu 15 14,xn 16 15,qq 17 16,qX 18 17,qe 8 18] (qx (xJ 9) (qO 0 (xa [qe 19 9,wI 20,qX 21 20,ww 22 19 21] 22 0 1 (qL [wI 25,qe 26 9,wd 27 5 25 26,qK 28 5 27,wg 10 [qR,wB,.nils,.nils,.nils],q8 5 10 28] (wJ (wA 29 4 [qR,qR,wB,.nils] 0 []) 11 29) (qx (xJ 12) (qO 2 (xa [qe 30 12,xn 31 10,qq 32 31,qX 33 32,ww 34 30 33] 34 2 3 (.reg [qe 37 11,wl 38,xn 39 10,qq 40 39,qe 41 12,wd 42 4 40 41,qK 43 4 42,wQ 44 cm 38 43,wA 45 4 [qR,qR,wB,.nils] 1 [xv 0 4 44],qb 46 (xM 4 56 37 (.t 45)),qe 11 46]) (xT (qe 35 12) 36 35 12 36))) (xW (.reg [qe 47 11,xn 48 10,xx 48 47]) (qd [wR 49 10,qq 50 49,wt 51 50 1] (xF 51 [wl 52,xf 53 10,qq 54 53,qe 55 2,qp 56 dI (yp 52 54 55),xf 57 10,xx 57 56])) (.cut (qd [wR 58 10,qq 59 58,wt 60 59 2] (xF 60 [wl 61,xf 62 10,qq 63 62,wQ 64 dM 61 63,xf 65 10,xx 65 64])) (qL [wl 66,yb 67 10,qq 68 67,qe 69 2,xi 70 69,qp 71 bX (yp 66 68 70),yb 72 10,xx 72 71] [wl 73,qt 74 4 10,qq 75 74,qe 76 2,xi 77 76,qp 78 bX (yp 73 75 77),qt 79 4 10,xx 79 78] (.reg [qe 80 7,qK 81 5 10,wA 82 5 [qR,wB,.nils,.nils,.nils] 1 [xv 0 5 81],qb 83 (xM 5 96 80 (.t 82)),qe 7 83])))))) (xT (qe 23 9) 24 23 9 24))) (.cut (qd [qe 84 2,qy 85 .gtr 84 0] (xF 85 [wl 86,wl 87,wu 88 87,xn 89 88,qq 90 89,ya 91,qb 92 (.slS 3 (.t 90) none (some (.t 91))),wu 93 86,xn 94 93,xx 94 92])) (qw (wJ (qe 95 7) 6 95)))))
def eL:FK:=⟨96,wX 6,(AK.whole eO)⟩
theorem pn:al Tryz.prog bX=some eL:=by kernel_rfl
def oF:AK:=qL [xI 2 1,wg 4 [wB,.nils,.nils],wy 5,wy 6] [qK 11 1 2,wI 12,xw 13 [.nils,qR,.nils,qR,qR] [xB 0 11,xB 1 12],wq 14 5 13,qe 7 14] (xW (.reg [wR 15 2,qq 16 15,wI 17,wd 18 3 16 17,qK 19 3 18,wg 8 [wB,.nils,.nils],q8 3 8 19]) (qd [qK 20 1 2,wR 21 8,qq 22 21,wQ 23 iU 20 22,wI 24,q6 25 .neq 23 24] (xF 25 [qe 26 7,wP 27 bm 26 (qj 2)])) (qd (wJ (wA 28 1 [wB] 0 []) 9 28) (qx (xJ 10) (qO 0 (xa [x8 29,xf 30 8,qq 31 30,qX 32 31,ww 33 29 32] 33 0 1 (.reg [qe 36 9,qe 37 7,xf 38 8,qq 39 38,x8 40,wd 41 1 39 40,qq 42 41,qp 43 dI (xU 37 (.t 42) wx),wA 44 1 [wB] 1 [xB 0 43],qb 45 (xM 1 16 36 (.t 44)),qe 9 45]) (xT (x8 34) 35 34 10 35))) (qL [qe 46 9,xf 47 8,xx 47 46] [qe 48 7,xn 49 8,qq 50 49,qp 51 bX (xU 48 (.t 50) wx),xn 52 8,xx 52 51] (qw [qe 54 7,wu 55 54,qt 56 4 55,qe 58 7,wu 59 58,yb 60 59,qK 53 3 8,qq 57 56,qq 61 60,q8 3 4 53,xm 56 57,xm 60 61,qe 5 57,qe 6 61])))))
def oQ:FK:=⟨62,[.c 4 (some 3),.t 5,.t 6],(AK.whole oF)⟩
theorem CA:al Tryz.prog kZ=some oQ:=by kernel_rfl
def jn:FK:=⟨27,xl,yg [xI 1 1,wy 2] [qK 7 1 1,wT 8 eJ 7,wE 9 8] 9 (x7 2 1) (xQ (xJ 3) 0 [yl 10,wR 11 1,qq 12 11,qX 13 12,ww 14 10 13] 14 0 1 (qL [qK 18 1 1,yl 19,wQ 20 kZ 18 19,qe 17 20,xc 21 0 17,xc 22 1 17,xc 23 2 17,wg 4 [wB,.nils,.nils],q8 3 4 21,qe 5 22,qe 6 23] [wU 24,qy 25 .neq 24 0] (qU 25 (wJ (wU 26) 2 26))) (xT (yl 15) 16 15 3 16) (xJ 2))⟩
theorem pG:al Tryz.prog eE=some jn:=by kernel_rfl
def pV:FK:=⟨6,xl,w6 [xI 1 1,xK] [qK 3 1 1,wT 4 eE 3,wt 5 4 0,wU 2]⟩
theorem Ae:al Tryz.prog lM=some pV:=by kernel_rfl
def lF:FK:=⟨15,wX 6,w6 [x9] [wI 7,wl 8,q6 9 .leq 7 8,qe 10 9,yi 11 10 0,yi 12 10 2,xk 13 10 .leq 11 (.t 12),x4 14 10 13,qe 6 14]⟩
theorem Aj:al Tryz.prog cP=some lF:=by kernel_rfl
def jl:FK:=⟨21,wX 6,qd (xJ 6) (wV [wl 9,qb 10 (.rngS (.t 9))] 0 (xR [qb 11 (.nxtS (.t 10)),xc 12 0 11] 12 0 (.blk 1 (qL [xc 13 1 11,xc 14 2 11,qe 7 13,qe 8 14] [wI 15,ya 16,qb 17 (xO 15 (wS 16)),qe 18 2,qb 19 (.beq false (.t 17) (.t 18))] (qU 19 (wJ (qe 20 7) 6 20))))) (yc 6))⟩
theorem pF:al Tryz.prog eI=some jl:=by kernel_rfl
def jt:FK:=⟨8,w8,w6 [xh] [wl 5,wI 6,qp 7 eI (xU 5 (.t 6) wn),qe 4 7]⟩
theorem pw:al Tryz.prog eZ=some jt:=by kernel_rfl
def gw:FK:=⟨19,w8,qd [xh] (wV [wl 6,qX 7 6,wy 8] 0 (yh [ww 9 8 7] 9 0 1 (qL (wJ (ya 10) 5 10) [wI 11,xX,wU 13,wd 14 1 12 13,qq 15 14,qb 16 (xD .eql 11 (.t 15))] (qU 16 (wJ (wU 17) 4 17))) (xZ 18 8 8 18)) ye)⟩
theorem nr:al Tryz.prog cz=some gw:=by kernel_rfl
def fj:FK:=⟨9,w8,w6 xH [wl 5,wI 6,wQ 7 cz 5 6,qy 8 .geq 7 0,ya 4]⟩
theorem lB:al Tryz.prog cS=some fj:=by kernel_rfl
def no:FK:=⟨9,xl,w6 [xK] [wl 3,qu 4 .lss 3 (.c (qf .i32 97)),xC 5,xb 6 5 0,xE 7 5 .gtr 6 (.c (qf .i32 122)),xq 8 5 7,ya 2]⟩
theorem uW:al Tryz.prog cJ=some no:=by kernel_rfl
def pH:FK:=⟨17,xl,w6 [xK] [wl 3,qb 4 (.len true (.t 3)),xz 5 (yn 4 w9 4),wU 6,yi 7 6 0,qF 8 6 (.call eZ (wN 7 (.c (.fn (.func cJ) [])))),xk 9 6 .lss 8 wx,x4 10 6 9,x8 11,qF 12 11 (.slA 9 1 (.c (.gp 0 0)) none none),yi 13 11 0,qF 14 11 (.call cS (wN 12 (.t 13))),qF 15 11 (qT 14),x4 16 11 15,qe 2 16]⟩
theorem Au:al Tryz.prog ca=some pH:=by kernel_rfl
def eB:FK:=⟨19,w8,qd [xh] (wV [wl 6,qX 7 6,wy 8] 0 (yh [ww 9 8 7] 9 0 1 (qL (wJ (ya 10) 5 10) [wI 11,xX,wU 13,wd 14 1 12 13,qq 15 14,qb 16 (xO 11 (wS 15))] (qU 16 (wJ (wU 17) 4 17))) (xZ 18 8 8 18)) ye)⟩
theorem kI:al Tryz.prog cF=some eB:=by kernel_rfl
def dz:FK:=⟨9,w8,w6 xH [wl 5,wI 6,wQ 7 cF 5 6,qy 8 .geq 7 0,ya 4]⟩
theorem jh:al Tryz.prog bS=some dz:=by kernel_rfl
def dB:FK:=⟨19,w8,qd [xh] (wV [wl 6,qX 7 6,wy 8] 0 (yh [ww 9 8 7] 9 0 1 (qL (wJ (ya 10) 5 10) [wI 11,xX,wU 13,wd 14 5 12 13,qK 15 5 14,qb 16 (xO 11 (wS 15))] (qU 16 (wJ (wU 17) 4 17))) (xZ 18 8 8 18)) ye)⟩
theorem iX:al Tryz.prog bT=some dB:=by kernel_rfl
def cT:FK:=⟨9,w8,w6 xH [wl 5,wI 6,wQ 7 bT 5 6,qy 8 .geq 7 0,ya 4]⟩
theorem gv:al Tryz.prog bB=some cT:=by kernel_rfl
def bc:FK:=⟨20,[.t 2,.t 3,.t 4,.t 5],qd [wy 2,wj 3,wz,wj 5] (wv [wl 6] (.blk 0 (qx (wW 8 6 1 7 8) (qo 7 .skip (.reg (wW 9 6 2 7 9))) (qo 7 (qw [qA 2 1,qc 3 wn,wz,wj 5]) (qx (wW 11 6 3 10 11) (xY 10 .skip 12 6 7 10 12 (qo 10 .skip (.reg (wW 13 6 8 10 13)))) (xY 10 (qw [qA 2 1,wj 3,wz,wj 5]) 15 6 4 14 15 (xY 14 (qw [qA 2 2,wj 3,wz,wj 5]) 17 6 5 16 17 (xY 16 (qw [qA 2 1,wj 3,qc 4 wn,qc 5 wn]) 19 6 6 18 19 (qU 18 [qA 2 1,wj 3,qc 4 wn,wj 5])))))))) [qA 2 (-1),wj 3,wz,wj 5])⟩
theorem uO:al Tryz.prog ft=some bc:=by kernel_rfl
def pK:FK:=⟨5,xl,w6 [xK] [wl 3,xz 4 (yn 3 wx 255),xC 2]⟩
theorem AA:al Tryz.prog iy=some pK:=by kernel_rfl
def dQ:FK:=⟨20,xl,qd (xJ 2) (qQ 0 (qd [qb 4 (.ld none (.c (.gp 1 0))),wl 5,qb 6 (.lk 0 (.agg [wB,qR]) false (.t 4) (.t 5)),qb 7 (.fldv 1 none (.t 6)),qy 8 .gtr 7 0,ya 3] (wZ 3 (qw [qb 9 (.ld none (.c (.gp 1 0))),wl 10,qb 11 (.lk 0 (.agg [wB,qR]) false (.t 9) (.t 10)),qb 12 (.fldv 1 none (.t 11)),qe 2 12]) [wl 14,wt 15 14 11,qe 16 15,xb 17 16 0,xE 18 16 .eql 17 (qj 12),xq 19 16 18,qe 13 19] (qU 13 (x7 2 5)))) (qw (x7 2 6)))⟩
theorem zu:al Tryz.prog kH=some dQ:=by kernel_rfl
def je:AK:=qL [xI 2 4,xh,wy 5,x9] [wy 7,wy 8] (xW (.blk 0 (qd [wR 17 2,qq 18 17,wt 19 18 1,qe 16 19] (wZ 16 (xr [xf 20 2,qq 21 20,wT 22 iy 21,wE 23 22,qe 24 23,wK 25 24 2 2,wG 26 24 25,qD 27 24 (xD .neq 26 (.c wB)),xq 28 24 27] 28 [xh,wy 5,x9]) [wR 30 2,qq 31 30,wt 32 31 2,qe 29 32] (wZ 29 (xr [xn 33 2,qq 34 33,wT 35 ca 34,wE 36 35,qe 37 36,wK 38 37 1 2,wG 39 37 38,xE 40 37 .neq 39 wx,xq 41 37 40] 41 [xh,wy 5,x9]) [wR 43 2,qq 44 43,wt 45 44 13,qe 42 45] (wZ 42 (qL (x7 8 3) [xn 46 2,qq 47 46,wT 48 ca 47,wE 49 48,qe 50 49,wK 51 50 1 2,wG 52 50 51,xE 53 50 .neq 52 wx,xq 54 50 53] (qU 54 [xh,wy 5,x9])) [qb 56 (.ld none (.c (.gp 1 0))),wR 57 2,qq 58 57,qb 59 (.lk 0 (.agg [wB,qR]) false (.t 56) (.t 58)),qb 60 (.fldv 1 none (.t 59)),qy 61 .gtr 60 0,qe 55 61] (wZ 55 (.reg [qA 7 2,qA 8 2]) [wR 63 2,qq 64 63,wt 65 64 11,qe 66 65,wK 67 66 0 2,wG 68 66 67,xE 69 66 .eql 68 (qj 12),xq 70 66 69,qe 62 70] (qo 62 (.reg [qA 7 1,qA 8 1]) (qw [xh,wy 5,x9])))))))) (xr [wR 71 2,qq 72 71,wT 73 kH 72,xP 74 73 6,qe 75 74,wL 76 75 1 2,wH 77 75 76,xk 78 75 .neq 77 wx,yi 79 75 78,wK 80 79 2 2,wG 81 79 80,qD 82 79 (xD .neq 81 (.c wB)),qF 83 75 (qI 79 wn (.t 82)),x4 84 75 83,qe 85 84,wK 86 85 3 2,wG 87 85 86,qD 88 85 (qP 87),xb 89 85 7,xb 90 85 8,xd 91 85 cP (yp 88 89 90),xL 92 85 91,xq 93 85 92,qe 94 93,xb 95 94 1,xE 96 94 .lss 95 w9,xq 97 94 96] 97 [xh,wy 5,x9]) (qd [qA 9 1,qA 10 1] (wV [yb 98 2,qq 99 98,qX 100 99,wy 101] 1 (yh [ww 102 101 100] 102 1 2 (qL [wd 103 4 99 101,qK 104 4 103,wg 12 [qR,qR,wB,.nils],q8 4 12 104] [qK 106 4 12,wI 107,yq 108 107 1,wQ 109 fv 106 108,qe 105 109,xc 110 0 105,xc 111 1 105,xc 112 2 105,qe 13 110,qe 14 111,qe 15 112] (w7 [qe 113 15,wE 114 113] 114 [xh,wy 5,x9] (qd [qe 115 9,qe 116 13,q6 117 .add 115 116,qe 9 117] (.reg [x8 118,qe 119 14,xi 120 119,qb 121 (.mx (.t 118) (.t 120)),qe 10 121])))) (xZ 122 101 101 122)) [qe 123 9,x8 124,qe 125 9,qy 126 .leq 125 30,qe 4 123,qe 5 124,qe 6 126])))
def jg:FK:=⟨127,[.t 4,.t 5,.t 6],(AK.whole je)⟩
theorem uJ:al Tryz.prog fv=some jg:=by kernel_rfl
def lV:FK:=⟨13,xl,qL [xI 1 4,xK] [qK 7 4 1,wP 8 fv 7 (qj 6),ya 6,xc 9 0 6,xc 10 1 6,xc 11 2 6,qe 3 9,x8 4,qe 5 11] (qw (wJ (wU 12) 2 12))⟩
theorem tC:al Tryz.prog eu=some lV:=by kernel_rfl
def ir:FK:=⟨91,w8,qL [xI 2 5,wz] [wR 12 2,qq 13 12,wT 14 ft 13,qe 11 14,xc 15 0 11,xc 16 1 11,xc 17 2 11,xc 18 3 11,qe 5 15,qe 6 16,qe 7 17,qe 8 18] (qQ 0 (qx (xS (wI 20) (qy 21 .gtr 20 4) 19 21) (wZ 19 .skip [xn 22 2,qq 23 22,qX 24 23,wU 25,q6 26 .neq 24 25,qe 19 26] (wZ 19 .skip [yj 27,qe 28 27,wL 29 28 1 2,wH 30 28 29,qF 31 28 (.call ca (wS 30)),qF 32 28 (qT 31),x4 33 28 32,qe 19 33] (wZ 19 .skip [yj 34,wE 35 34,qe 36 35,wL 37 36 1 2,wH 38 36 37,qF 39 36 (xD .neq 38 (.c wB)),x4 40 36 39,qe 19 40] (wZ 19 .skip [qe 41 7,wE 42 41,qe 43 42,wL 44 43 3 2,wH 45 43 44,qF 46 43 (qP 45),xk 47 43 .gtr 46 wx,x4 48 43 47,qe 19 48] (wZ 19 .skip [ya 49,wE 50 49,qe 51 50,wL 52 51 4 2,wH 53 51 52,qF 54 51 (qP 53),xk 55 51 .gtr 54 wx,x4 56 51 55,qe 19 56] (qo 19 .skip (.reg [wR 57 2,qq 58 57,wt 59 58 8,qe 60 59,wL 61 60 2 2,wH 62 60 61,qF 63 60 (qG 4 62 wx),wL 64 60 0 63,wH 65 60 64,xk 66 60 .neq 65 (qj 13),x4 67 60 66,qe 19 67]))))))) (qU 19 xH)) (wV [xn 68 2,qq 69 68,qX 70 69,wy 71] 1 (yh [ww 72 71 70] 72 1 2 (qL [wd 73 4 69 71,qK 74 4 73,wg 10 [qR,qR,wB,.nils],q8 4 10 74] [qK 75 4 10,wT 76 eu 75,wE 77 76] (qU 77 xH)) (xZ 78 71 71 78)) [yb 79 2,qq 80 79,wI 81,xi 82 81,wQ 83 cg 80 82,qe 84 83,wL 85 84 4 2,wH 86 84 85,yi 87 84 1,xk 88 84 .add 87 w9,qF 89 84 (.call cg (wN 86 (.t 88))),x4 90 84 89,qe 4 90]))⟩
theorem pR:al Tryz.prog iA=some ir:=by kernel_rfl
def lW:FK:=⟨8,wX 3,w6 [xI 2 5,wj 3] [qK 4 5 2,qq 5 1,wQ 6 iA 4 5,wE 7 6,qe 3 7]⟩
theorem tk:al Tryz.prog cd=some lW:=by kernel_rfl
def ox:FK:=⟨9,w8,w6 [wq 3 1 1,wz] [wl 5,qb 6 (xA cd (wS 3)),wQ 7 bB 5 6,wE 8 7,ya 4]⟩
theorem Ac:al Tryz.prog cg=some ox:=by kernel_rfl
def mD:FK:=⟨31,[],qd [wl 8,qX 9 8,wy 10] (qO 0 (yh [ww 11 10 9] 11 0 1 (qL [wd 12 5 8 10,qK 13 5 12,wg 7 [qR,wB,.nils,.nils,.nils],q8 5 7 13] [qe 14 2,qK 15 5 7,wI 16,qb 17 (xO 14 (wN 15 (.t 16)))] (qd [yb 18 7,qq 19 18,wI 20,xi 21 20,qe 22 2,qp 23 cK (yp 19 21 22)] (.reg [qt 24 4 7,qq 25 24,wI 26,xi 27 26,qe 28 2,qp 29 cK (yp 25 27 28)]))) (xZ 30 10 10 30)))⟩
theorem sI:al Tryz.prog cK=some mD:=by kernel_rfl
def lY:FK:=⟨11,[],qL [xI 4 5] [qq 6 2,xi 7 6,xx 2 7] (.reg [qq 8 3,wI 9,qb 10 (.mx (.t 8) (.t 9)),xx 3 10])⟩
theorem tT:al Tryz.prog eq=some lY:=by kernel_rfl
def nI:FK:=⟨20,[.c 2 none,.c 3 none],qd [xI 1 1,wg 2 [qR],wg 3 [qR]] (wV [wR 6 1,qq 7 6,qX 8 7,wy 9] 0 (yh [ww 10 9 8] 10 0 1 (qd [wd 11 3 7 9,qK 12 3 11,wg 5 [wB,.nils,.nils],q8 3 5 12] (.reg [xn 13 5,qq 14 13,qb 15 (xA eq (wN 2 (.t 3))),qp 16 cK (xV 14 w9 15)])) (xZ 17 9 9 17)) [qq 18 2,qq 19 3,xx 2 18,xm 3 19,xx 3 19])⟩
theorem zl:al Tryz.prog ko=some nI:=by kernel_rfl
def gC:FK:=⟨6,xl,w6 [xK] [wl 3,wT 4 ca 3,wE 5 4,wU 2]⟩
theorem nB:al Tryz.prog bi=some gC:=by kernel_rfl
def jq:FK:=⟨48,xl,yg [xI 1 1,xK] [wR 7 1,qq 8 7,qX 9 8,xz 10 (yn 9 w9 4),wE 11 10] 11 [xK] (qx [wR 12 1,qq 13 12,qX 14 13,wy 15] (qO 0 (yh [ww 16 15 14] 16 0 1 (qL [wd 17 3 13 15,qK 18 3 17,wg 4 [wB,.nils,.nils],q8 3 4 18] [wR 19 4,qq 20 19,wT 21 ca 20,wE 22 21,qe 23 22,wK 24 23 1 4,wG 25 23 24,qD 26 23 (qP 25),xE 27 23 .gtr 26 (qj 3),xq 28 23 27,qe 29 28,wK 30 29 1 4,wG 31 29 30,xd 32 29 bS (wN 31 (.c (.fn (.func bi) []))),xq 33 29 32,qe 34 33,wK 35 34 2 4,wG 36 34 35,xd 37 34 cg (wN 36 w9),xL 38 34 37,xq 39 34 38] (qU 39 [xK])) (xZ 40 15 15 40))) (w6 [qK 42 1 1,wT 43 ko 42,qe 41 43,xc 44 0 41,xc 45 1 41,qe 5 44,qe 6 45] (xS (wU 46) (qy 47 .leq 46 40) 2 47)))⟩
theorem pt:al Tryz.prog eG=some jq:=by kernel_rfl
def dX:FK:=⟨19,w8,qd [xh] (wV [wl 6,qX 7 6,wy 8] 0 (yh [ww 9 8 7] 9 0 1 (qL (wJ (ya 10) 5 10) [wI 11,xX,wU 13,wd 14 3 12 13,qK 15 3 14,qb 16 (xO 11 (wS 15))] (qU 16 (wJ (wU 17) 4 17))) (xZ 18 8 8 18)) ye)⟩
theorem jU:al Tryz.prog cu=some dX:=by kernel_rfl
def pM:FK:=⟨8,wX 3,w6 [xI 2 3,wj 3] [wR 4 2,qq 5 4,qq 6 1,qb 7 (xD .eql 5 (.t 6)),qe 3 7]⟩
theorem AM:al Tryz.prog fq=some pM:=by kernel_rfl
def uz:FK:=⟨9,w8,w6 [xI 2 1,wq 3 1 1,xh] [wR 5 2,qq 6 5,qb 7 (xA fq (wS 3)),wQ 8 cu 6 7,ya 4]⟩
theorem Di:al Tryz.prog iI=some uz:=by kernel_rfl
def eM:FK:=⟨13,[],qd [wl 4,wu 5 4,xn 6 5,qq 7 6,wt 8 7 0] (xF 8 [wl 9,wI 10,wu 11 9,xn 12 11,xx 12 10])⟩
theorem pA:al Tryz.prog bV=some eM:=by kernel_rfl
def gf:FK:=⟨7,xl,w6 [qc 2 (.c .nilp)] [qb 3 .mkm,wl 4,xw 5 [.nilm,.nilp] [xB 0 3,xB 1 4],wq 6 2 5,yj 2]⟩
theorem rU:al Tryz.prog aV=some gf:=by kernel_rfl
def rS:FK:=⟨20,[],qL [xI 2 4] [wI 6,qK 7 4 2,qb 8 (xO 6 (wS 7))] (qd [yb 9 2,qq 10 9,qX 11 10,wy 12] (qO 0 (yh [ww 13 12 11] 13 0 1 (qd [wd 14 4 10 12,qK 15 4 14,wg 5 [qR,qR,wB,.nils],q8 4 5 15] (.reg [qK 16 4 5,wI 17,wQ 18 jD 16 17])) (xZ 19 12 12 19))))⟩
theorem BG:al Tryz.prog jD=some rS:=by kernel_rfl
def fS:FK:=⟨25,[.t 4,.t 5],xj [xh,wj 5] (qO 0 (xa [wl 8,qb 9 (.pnil 0 true (.t 8))] 9 0 1 (qL [wl 15,wu 16 15,wR 17 16,qq 18 17,wI 19,qb 20 (.lk 1 qR true (.t 18) (.t 19)),qe 14 20,xc 21 0 14,xc 22 1 14,qe 6 21,qe 7 22] [qe 23 7] (qU 23 [yj 24,qe 4 24,qc 5 wn])) [wl 10,wu 11 10,xf 12 11,qq 13 12,qe 0 13])) (qw [xh,wj 5])⟩
theorem kW:al Tryz.prog aW=some fS:=by kernel_rfl
def gx:FK:=⟨58,[],qL [xI 3 4] [wR 7 3,qq 8 7] (.blk 0 (qd (wW 10 8 2 9 10) (xY 9 (qL [qq 12 1,xn 13 3,qq 14 13,wQ 15 aW 12 14,qe 11 15,xc 16 0 11,xc 17 1 11,qe 4 16,qe 5 17] [wU 18,wE 19 18] (xF 19 [qq 20 2,x6 21 20 (qj 3)])) 23 8 13 22 23 (qH 22 (qL [xn 35 3,qq 24 2,wu 25 24,wR 26 25,wR 27 26,qq 28 27,qq 29 2,wu 30 29,xf 31 30,qq 32 31,qb 33 (.slS 3 (.t 28) none (some (.t 32))),xw 34 yk [xB 0 33],qq 36 35,wQ 37 iI 34 36,qe 6 37] [yj 38,xP 39 38 0] (wZ 39 (.reg [qq 40 2,x6 41 40 (qj 4)]) [yj 47,yb 52 3,qq 42 2,wu 43 42,wR 44 43,wR 45 44,qq 46 45,wd 48 3 46 47,xf 49 48,qq 50 49,qX 51 50,qq 53 52,qX 54 53,q6 55 .neq 51 54] (xF 55 [qq 56 2,x6 57 56 (qj 5)])))))))⟩
theorem nt:al Tryz.prog bD=some gx:=by kernel_rfl
def eN:FK:=⟨9,[],qd [xI 3 1,wq 4 4 1,wq 5 1 2] (.reg [qK 6 4 4,qb 7 (xA bD (wN 5 (.t 3))),wQ 8 jD 6 7])⟩
theorem pB:al Tryz.prog cW=some eN:=by kernel_rfl
def dR:AK:=qd [wI 14,qX 15 14,wy 16] (qO 0 (yh [ww 17 16 15] 17 0 1 (qd [wd 18 5 14 16,qK 19 5 18,wg 7 [qR,wB,.nils,.nils,.nils],q8 5 7 19] (qx [xn 20 7,qq 21 20,qX 22 21,wy 23] (qO 2 (yh [ww 24 23 22] 24 2 3 (qd [wd 25 4 21 23,qK 26 4 25,wg 9 [qR,qR,wB,.nils],q8 4 9 26] (.reg [wl 27,qK 28 4 9,qe 29 2,qp 30 cW (yp 27 28 29)])) (xZ 31 23 23 31))) (.cut (qd [wR 32 7,qq 33 32] (.blk 4 (qd (wW 35 33 1 34 35) (xY 34 (qx [qe 37 2,wu 38 37,wR 39 38,xf 41 7,qq 40 39,qq 42 41,qb 43 (.lk 1 qR true (.t 40) (.t 42)),qe 36 43,xc 44 0 36,xc 45 1 36,qe 10 44,qe 11 45] (qd [qe 46 11] (xF 46 [wl 47,x6 48 47 (qj 2)])) (.reg [qe 49 2,wu 50 49,wR 51 50,xf 53 7,qq 52 51,qq 54 53,qN (.mup 1 (.t 52) (.t 54) wx)])) 56 33 2 55 56 (qH 55 (qL [qe 58 2,xf 59 7,qq 60 59,wQ 61 aW 58 60,qe 57 61,xc 62 0 57,xc 63 1 57,qe 12 62,qe 13 63] [qe 64 13,wE 65 64] (xF 65 [wl 66,x6 67 66 (qj 3)]))))))) (qd [wR 68 7,qq 69 68,wt 70 69 5,qe 71 70,wK 72 71 0 7,wG 73 71 72,xE 74 71 .eql 73 (qj 6),xq 75 71 74] (qH 75 (qd [wl 76,yb 77 7,qe 79 2,qq 78 77,wT 80 aV 79,xm 77 78,qp 81 bq (yp 76 78 80)] (.reg [wl 82,qt 83 4 7,qe 85 2,qq 84 83,wT 86 aV 85,xm 83 84,qp 87 bq (yp 82 84 86)]))))))) (xZ 88 16 16 88)))
def ed:FK:=⟨89,[],(AK.whole dR)⟩
theorem nU:al Tryz.prog bq=some ed:=by kernel_rfl
def eQ:AK:=yg [xI 1 1,wy 2] [qK 11 1 1,wT 12 eG 11,wE 13 12] 13 (x7 2 1) (qd [qK 14 1 1,xw 15 [.nils,qR,qR] [xB 0 14],wq 16 3 15,qe 3 16] (wV [wR 17 1,qq 18 17,qX 19 18,wy 20] 0 (yh [ww 21 20 19] 21 0 1 (qL [qe 22 20,wd 23 3 18 20,qK 24 3 23,wg 5 [wB,.nils,.nils],qe 4 22,q8 3 5 24] [yl 25,xC 26,wu 27 25,xf 28 27,xx 28 26] (.cut (qd [qK 29 1 1,wR 30 5,qq 31 30,wQ 32 iI 29 31,xC 33,ww 34 32 33] (xF 34 [yl 35,x6 36 35 (qj 2)])) (qd (wJ (qp 37 aV [.c .nilp]) 6 37) (qx [xf 38 5,qq 39 38,qX 40 39,wy 41] (qO 2 (yh [ww 42 41 40] 42 2 3 (qd (xS (wd 43 1 39 41) (qq 44 43) 8 44) (qx [yj 46,wu 47 46,wR 48 47,qq 49 48,ya 50,qb 51 (.lk 1 qR true (.t 49) (.t 50)),qe 45 51,xc 52 0 45,xc 53 1 45,qe 9 52,qe 10 53] (qd [x8 54] (xF 54 [yl 55,x6 56 55 (qj 2)])) (.reg [yj 57,wu 58 57,wR 59 58,qq 60 59,ya 61,qN (.mup 1 (.t 60) (.t 61) wx)]))) (xZ 62 41 41 62))) (.reg [yl 63,xn 64 5,qq 65 64,yj 66,qp 67 bq (yp 63 65 66)]))))) (xZ 68 20 20 68)) [yl 69,wu 70 69,xn 71 70,qq 72 71,qe 2 72]))
def fb:FK:=⟨73,xl,(AK.whole eQ)⟩
theorem px:al Tryz.prog eD=some fb:=by kernel_rfl
def ug:FK:=⟨6,xl,w6 [xI 1 1,xK] [qK 3 1 1,wT 4 eD 3,wt 5 4 0,wU 2]⟩
theorem Cz:al Tryz.prog oe=some ug:=by kernel_rfl
def fL:FK:=⟨22,w8,qL [qc 4 xo] [qc 5 xo] (wV [wl 8,qX 9 8,wy 10] 0 (yh [ww 11 10 9] 11 0 1 (qd [wd 12 3 8 10,qK 13 3 12,wg 7 [wB,.nils,.nils],q8 3 7 13] (.reg [wU 14,wI 15,qK 16 3 7,qb 17 (xO 15 (wS 16)),wA 18 3 [qR,qR,.nils] 1 [xv 0 3 17],qb 19 (xM 3 40 14 (.t 18)),qe 5 19])) (xZ 20 10 10 20)) (wJ (wU 21) 4 21))⟩
theorem lR:al Tryz.prog bO=some fL:=by kernel_rfl
def dh:FK:=⟨10,xl,qd (xJ 2) (wv [wl 3] (.blk 0 (qd (wW 5 3 1 4 5) (xY 4 (qw (x7 2 1)) 7 3 2 6 7 (xY 6 (qw (x7 2 2)) 9 3 3 8 9 (qU 8 (xJ 2)))))) (yc 2))⟩
theorem tu:al Tryz.prog ic=some dh:=by kernel_rfl
def lw:FK:=⟨9,xl,w6 [xK] [wl 3,wt 4 3 2,xC 5,xb 6 5 0,xE 7 5 .eql 6 (qj 3),xq 8 5 7,ya 2]⟩
theorem Ah:al Tryz.prog iH=some lw:=by kernel_rfl
def gk:FK:=⟨19,w8,qd [xh] (wV [wl 6,qX 7 6,wy 8] 0 (yh [ww 9 8 7] 9 0 1 (qL (wJ (ya 10) 5 10) [wI 11,xX,wU 13,wd 14 1 12 13,qq 15 14,qb 16 (xO 11 (wS 15))] (qU 16 (wJ (wU 17) 4 17))) (xZ 18 8 8 18)) ye)⟩
theorem mB:al Tryz.prog dq=some gk:=by kernel_rfl
def ex:FK:=⟨9,w8,w6 xH [wl 5,wI 6,wQ 7 dq 5 6,qy 8 .geq 7 0,ya 4]⟩
theorem kL:al Tryz.prog bg=some ex:=by kernel_rfl
def dL:FK:=⟨19,w8,qd [xh] (wV [wl 6,qX 7 6,wy 8] 0 (yh [ww 9 8 7] 9 0 1 (qL (wJ (ya 10) 5 10) [wI 11,xX,wU 13,wd 14 4 12 13,qK 15 4 14,qb 16 (xO 11 (wS 15))] (qU 16 (wJ (wU 17) 4 17))) (xZ 18 8 8 18)) ye)⟩
theorem jE:al Tryz.prog bZ=some dL:=by kernel_rfl
def de:FK:=⟨9,w8,w6 xH [wl 5,wI 6,wQ 7 bZ 5 6,qy 8 .geq 7 0,ya 4]⟩
theorem gH:al Tryz.prog bG=some de:=by kernel_rfl
def ky:FK:=⟨19,w8,qd [xh] (wV [wl 6,qX 7 6,wy 8] 0 (yh [ww 9 8 7] 9 0 1 (qL (wJ (ya 10) 5 10) [wI 11,xX,wU 13,wd 14 1 12 13,qq 15 14,q6 16 .eql 11 15] (qU 16 (wJ (wU 17) 4 17))) (xZ 18 8 8 18)) ye)⟩
theorem rp:al Tryz.prog fJ=some ky:=by kernel_rfl
def gz:FK:=⟨9,w8,w6 xH [wl 5,wI 6,wQ 7 fJ 5 6,qy 8 .geq 7 0,ya 4]⟩
theorem ny:al Tryz.prog dG=some gz:=by kernel_rfl
def oJ:FK:=⟨33,w8,qL [xI 2 3,qc 4 xo] [qc 5 xo] (w7 [wI 8,xn 9 2,qq 10 9,qX 11 10,yq 12 11 1,xz 13 (xV 8 wx 12),wE 14 13] 14 [qc 4 xo] (wV [xn 15 2,qq 16 15,qX 17 16,wy 18] 0 (yh [ww 19 18 17] 19 0 1 (qL [qe 20 18,wd 21 5 16 18,qK 22 5 21,wg 7 [.nils,.nils,qR,qR,.nils],qe 6 20,q8 5 7 22] [qt 23 4 7,qq 24 23,wI 25,wQ 26 dG 24 25] (xF 26 [wU 27,yj 28,wA 29 1 [qR] 1 [xB 0 28],qb 30 (xM 1 8 27 (.t 29)),qe 5 30])) (xZ 31 18 18 31)) (wJ (wU 32) 4 32)))⟩
theorem zM:al Tryz.prog fQ=some oJ:=by kernel_rfl
def nn:FK:=⟨9,wX 3,w6 [wj 3] [wl 4,xf 5 1,qq 6 5,yq 7 6 1,xz 8 (xV 4 wx 7),ya 3]⟩
theorem uV:al Tryz.prog bA=some nn:=by kernel_rfl
def nk:FK:=⟨11,wX 3,w6 [wj 3] [wl 4,xn 5 1,qq 6 5,qX 7 6,yq 8 7 1,xz 9 (xV 4 w9 8),wE 10 9,x8 3]⟩
theorem uI:al Tryz.prog iZ=some nk:=by kernel_rfl
def sR:FK:=⟨5,xl,w6 [xK] [wl 3,xz 4 (yn 3 w9 14),xC 2]⟩
theorem BK:al Tryz.prog jw=some sR:=by kernel_rfl
def uF:FK:=⟨13,xl,w6 [xK] [wl 3,wT 4 jw 3,xC 5,yi 6 5 0,xk 7 5 .neq 6 (qj 12),x4 8 5 7,ya 9,yi 10 9 0,xk 11 9 .neq 10 (qj 13),x4 12 9 11,qe 2 12]⟩
theorem Ds:al Tryz.prog ll=some uF:=by kernel_rfl
def cr:FK:=⟨11,xl,qd (xJ 2) (wv [wl 3] (.blk 0 (qd (wW 5 3 1 4 5) (qo 4 (qw (xJ 2)) (qx (wW 7 3 2 6 7) (xY 6 .skip 8 3 10 6 8 (xY 6 .skip 9 3 11 6 9 (qo 6 .skip (.reg (wW 10 3 13 6 10))))) (qU 6 (x7 2 1)))))) (x7 2 2))⟩
theorem zF:al Tryz.prog kF=some cr:=by kernel_rfl
def oP:FK:=⟨9,wX 3,w6 [wj 3] [wl 4,xf 5 1,qq 6 5,yq 7 6 1,xz 8 (xV 4 wx 7),ya 3]⟩
theorem zy:al Tryz.prog dd=some oP:=by kernel_rfl
def oD:FK:=⟨8,wX 3,w6 [wj 3] [qq 4 1,wl 5,qb 6 (xO 4 (wS 5)),wE 7 6,qe 3 7]⟩
theorem yY:al Tryz.prog kw=some oD:=by kernel_rfl
def mK:AK:=qL [xI 3 1,wq 5 4 2,x9] [wR 9 3,qq 10 9,wI 11,wd 12 3 10 11,qK 13 3 12,wg 7 [qR,qR,.nils],q8 3 7 13] (qd [qb 14 (xA dd (wS 7)),wg 8 [.nilf],xx 8 14] (xW (xr [wR 15 5,qq 16 15,wT 17 jw 16,wE 18 17,qe 19 18,wK 20 19 2 5,wG 21 19 20,qD 22 19 (xA kw (wS 8)),xd 23 19 bg (wN 21 (.t 22)),xq 24 19 23] 24 [x9]) (xr [wR 25 5,qq 26 25,wT 27 ll 26,qe 28 27,wH 29 28 8,wL 30 28 1 5,wH 31 28 30,qF 32 28 (xO 29 (wS 31)),qF 33 28 (qT 32),x4 34 28 33,qe 35 34,wK 36 35 0 5,wG 37 35 36,xd 38 35 ll (wS 37),xL 39 35 38,xb 40 35 39,wL 41 40 1 5,wH 42 40 41,xk 43 40 .neq 42 (qj (-1)),qD 44 35 (qI 40 (.t 43) qB),xq 45 35 44] 45 [x9]) (wv [wR 46 5,qq 47 46] (.blk 0 (qd (wW 49 47 1 48 49) (xY 48 (qw [xn 50 5,qq 51 50,qX 52 51,wt 53 52 0,qe 54 53,wL 55 54 3 5,wH 56 54 55,qF 57 54 (.call iy (wS 56)),x4 58 54 57,qe 6 58]) 60 47 14 59 60 (qU 59 [yb 61 5,wI 63,yq 64 63 1,qq 62 61,xz 65 (xV 62 wx 64),qe 66 65,wL 67 66 2 5,wL 70 66 0 3,wL 72 66 3 5,wH 68 66 67,qF 69 66 (qP 68),wH 71 66 70,wH 73 66 72,qF 74 66 (qG 3 71 (.t 73)),wL 75 66 0 74,wH 76 66 75,xk 77 66 .eql 69 (.t 76),x4 78 66 77,qe 6 78])))) [yb 79 5,qq 80 79,wt 81 80 0,qe 82 81,wL 83 82 2 5,wL 86 82 0 5,wH 84 82 83,qF 85 82 (qP 84),wH 87 82 86,qF 88 82 (.qcall kF (wS 87)),xk 89 82 .eql 85 (.t 88),x4 90 82 89,qe 6 90])))
def na:FK:=⟨91,wX 6,(AK.whole mK)⟩
theorem BT:al Tryz.prog mY=some na:=by kernel_rfl
def nh:FK:=⟨10,w8,w6 [xI 3 4,wz] [qK 5 1 1,qq 6 2,qK 7 4 3,qp 8 mY (yp 5 6 7),wE 9 8,qe 4 9]⟩
theorem uT:al Tryz.prog iY=some nh:=by kernel_rfl
def ng:FK:=⟨8,wX 3,w6 [wj 3] [qq 4 1,wl 5,qb 6 (xO 4 (wS 5)),wE 7 6,qe 3 7]⟩
theorem uQ:al Tryz.prog jb=some ng:=by kernel_rfl
def lI:AK:=qL [xI 2 1,wq 3 1 1,wz] [wR 12 2,qq 13 12,qq 14 3,wd 15 3 13 14,qK 16 3 15,wg 5 [qR,qR,.nils],q8 3 5 16] (.cut (xr [xf 17 5,qq 18 17,xz 19 (yn 18 wx 300),wE 20 19,qe 21 20,wK 22 21 0 5,wG 23 21 22,wK 24 21 1 5,wG 25 21 24,qD 26 21 (.mn (qj 3) (.t 25)),xd 27 21 cP (xV 23 wx 26),xL 28 21 27,xq 29 21 28,qe 30 29,wK 31 30 2 5,wG 32 30 31,qD 33 30 (qP 32),xd 34 30 cP (yn 33 w9 160),xL 35 30 34,xq 36 30 35] 36 xH) (qd [qb 37 (xA bA (wS 5)),wg 6 [.nilf],xx 6 37] (wV [xn 38 5,qq 39 38,qX 40 39,wy 41] 0 (yh [ww 42 41 40] 42 0 1 (qd [qe 43 41,wd 44 5 39 41,qK 45 5 44,wg 8 [.nils,.nils,qR,qR,.nils],qe 7 43,q8 5 8 45] (xW (xr [qt 46 4 8,xn 49 8,qq 47 46,qX 48 47,qq 50 49,wT 51 ic 50,xm 46 47,q6 52 .neq 48 51,qe 53 52,wK 54 53 2 8,wG 55 53 54,xd 56 53 iH (wS 55),xb 57 53 56,wL 59 57 3 8,wH 58 57 6,wH 60 57 59,qF 61 57 (xO 58 (wS 60)),qF 62 57 (qT 61),qD 63 53 (qI 57 (.t 62) qB),xq 64 53 63,qe 65 64,wK 66 65 2 8,wG 67 65 66,xd 68 65 iH (wS 67),xL 69 65 68,xb 70 65 69,wL 71 70 3 8,wH 72 70 71,xk 73 70 .neq 72 wx,qD 74 65 (qI 70 (.t 73) qB),xq 75 65 74] 75 xH) (xr [qt 76 4 8,qq 77 76,qb 78 (xA iZ (wS 5)),wQ 79 bg 77 78,qe 80 79,wK 81 80 1 8,wG 82 80 81,qD 83 80 (xA iY (wN 2 (.t 3))),xd 84 80 bG (wN 82 (.t 83)),xq 85 80 84] 85 xH) (.cut (.reg [qK 86 3 5,qe 87 7,wQ 88 fQ 86 87,qX 89 88,qe 9 89]) (qd [wR 90 8,qq 91 90,qX 92 91,wy 93] (qO 2 (yh [ww 94 93 92] 94 2 3 (qL [wd 95 2 91 93,qK 96 2 95,wg 11 [qR,.nils],q8 2 11 96] [qe 97 7,wt 98 97 0,qe 99 98,wG 100 99 6,wK 101 99 0 11,wG 102 99 101,qD 103 99 (xO 100 (wS 102)),xL 104 99 103,xq 105 99 104,qe 106 105,wK 107 106 1 11,wG 108 106 107,qD 109 106 (qP 108),xb 110 106 9,xE 111 106 .neq 109 (.t 110),xq 112 106 111,qe 113 112,wK 114 113 1 11,wG 115 113 114,qD 116 113 (xA jb (wS 6)),xd 117 113 bg (wN 115 (.t 116)),xq 118 113 117] (qU 118 xH)) (xZ 119 93 93 119))))))) (xZ 120 41 41 120)) [qc 4 wn])))
def lN:FK:=⟨121,w8,(AK.whole lI)⟩
theorem Ai:al Tryz.prog lL=some lN:=by kernel_rfl
def mo:FK:=⟨24,xl,qL [xI 1 3,wy 2] (xJ 3) (wV [xn 6 1,qq 7 6,qX 8 7,wy 9] 0 (yh [ww 10 9 8] 10 0 1 (qd [wd 11 5 7 9,qK 12 5 11,wg 5 [.nils,.nils,qR,qR,.nils],q8 5 5 12] (.reg [yl 13,wR 14 5,qq 15 14,qX 16 15,xf 17 5,qq 18 17,qX 19 18,q6 20 .add 16 19,q6 21 .add 13 20,qe 3 21])) (xZ 22 9 9 22)) (wJ (yl 23) 2 23))⟩
theorem tM:al Tryz.prog gG=some mo:=by kernel_rfl
def lU:FK:=⟨30,xl,yg [xI 1 1,xK] [wR 6 1,qq 7 6,qX 8 7,xz 9 (yn 8 w9 4),wE 10 9] 10 [xK] (qd (xJ 3) (wV [wR 11 1,qq 12 11,qX 13 12,wy 14] 0 (yh [ww 15 14 13] 15 0 1 (yg [qe 16 14,wd 17 3 12 14,qK 18 3 17,wg 5 [qR,qR,.nils],qe 4 16,q8 3 5 18] [qK 19 1 1,xC 20,wQ 21 lL 19 20,wE 22 21] 22 [xK] (.reg [yl 23,qK 24 3 5,wT 25 gG 24,q6 26 .add 23 25,qe 3 26])) (xZ 27 14 14 27)) (xS (yl 28) (qy 29 .leq 28 800) 2 29)))⟩
theorem tt:al Tryz.prog gU=some lU:=by kernel_rfl
def fR:FK:=⟨10,[],qL [xI 3 5] [wR 5 3,qq 6 5,wt 7 6 1] (xF 7 [qq 8 2,xi 9 8,xx 2 9])⟩
theorem sq:al Tryz.prog dK=some fR:=by kernel_rfl
def ni:FK:=⟨12,xl,qL [xI 1 3,wy 2] [xf 4 1,qq 5 4,qX 6 5,wg 3 [qR],xx 3 6] (w6 [xn 7 1,qq 8 7,qb 9 (xA dK (wS 3)),qp 10 cK (xV 8 w9 9)] (wJ (qq 11 3) 2 11))⟩
theorem uS:al Tryz.prog jf=some ni:=by kernel_rfl
def dT:FK:=⟨24,[.t 4],
 .seq (.reg [⟨(some 4),none,.mov (.c (.p (.int .i64 0)))⟩])
 (.seq (.reg [⟨(some 6),none,.mov (.t 0)⟩,
   ⟨(some 7),none,.nilck (.t 6)⟩,
   ⟨(some 8),none,.fldA 1 (.t 7)⟩,
   ⟨(some 9),none,.fldA 2 (.t 8)⟩,
   ⟨(some 10),none,.ld none (.t 9)⟩,
   ⟨(some 11),none,.len false (.t 10)⟩,
   ⟨(some 5),none,.mov (.t 11)⟩])
 (.seq (.reg [⟨(some 12),none,.mov (.t 0)⟩,
   ⟨(some 13),none,.mov (.t 0)⟩,
   ⟨(some 14),none,.nilck (.t 13)⟩,
   ⟨(some 15),none,.fldA 1 (.t 14)⟩,
   ⟨(some 16),none,.fldA 2 (.t 15)⟩,
   ⟨(some 17),none,.ld none (.t 16)⟩,
   ⟨(some 18),none,.mov (.t 1)⟩,
   ⟨(some 19),none,.appz 5 88 [.nils,.nils,(.p (.int .i64 0)),(.p (.int .i64 0)),.nils] (.t 17) (.t 18)⟩,
   ⟨(some 20),none,.nilck (.t 12)⟩,
   ⟨(some 21),none,.fldA 1 (.t 20)⟩,
   ⟨(some 22),none,.fldA 2 (.t 21)⟩,
   ⟨none,none,.st 1 (.t 22) (.t 19)⟩])
 (.seq (.reg [⟨(some 23),none,.mov (.t 5)⟩,
   ⟨(some 4),none,.mov (.t 23)⟩])
 (.ret))))⟩
theorem iP:al Tryz.prog aT=some dT:=by kernel_rfl
def js:FK:=⟨37,[],qL [wl 11,wu 12 11,xf 13 12,xn 14 13,wl 16,wu 17 16,qt 18 4 17,qq 15 14,qq 19 18,wd 20 5 15 19,qe 10 20] [x8 21,x8 22,x8 23,wI 24,qe 25 2,xC 26,wu 27 21,xn 28 27,xx 28 24,wu 29 22,yb 30 29,xx 30 25,wu 31 23,qt 32 4 31,xx 32 26] (.reg [wl 33,yl 34,wu 35 33,qt 36 4 35,xx 36 34])⟩
theorem pk:al Tryz.prog eX=some js:=by kernel_rfl
def jk:FK:=⟨18,xl,qL (xJ 2) [wl 3,wu 4 3,xf 5 4,xf 6 5,qq 7 6,xi 8 7,wu 9 3,xf 10 9,xf 11 10,xx 11 8] (qw [xX,wu 13 12,xf 14 13,xf 15 14,qq 16 15,yq 17 16 1,qe 2 17])⟩
theorem pz:al Tryz.prog eS=some jk:=by kernel_rfl
def eY:FK:=⟨25,[],qL [wq 3 4 1] [wl 5,wu 6 5,xf 7 6,xn 8 7,wl 10,wu 11 10,qt 12 4 11,qq 9 8,qq 13 12,wd 14 5 9 13,qe 4 14] (.reg [xC 15,xC 16,wu 17 16,xf 18 17,qq 19 18,qK 20 4 3,wA 21 4 [qR,qR,.nils,qR] 1 [xv 0 4 20],xm 18 19,qb 22 (xM 4 48 19 (.t 21)),wu 23 15,xf 24 23,xx 24 22])⟩
theorem po:al Tryz.prog aU=some eY:=by kernel_rfl
def iO:FK:=⟨20,wX 8,qL (xJ 8) (xS (wl 10) (wT 11 eS 10) 9 11) (w6 [xX,wI 13,qe 14 9,yl 15,qe 16 2,xw 17 [qR,qR,.nils,qR] [xB 0 13,xB 1 14,xB 2 15,xB 3 16],wQ 18 aU 12 17] (wJ (qe 19 9) 8 19))⟩
theorem nG:al Tryz.prog dS=some iO:=by kernel_rfl
def kT:FK:=⟨22,w8,qL [qc 4 xo] [qc 5 xo] (wV [wl 8,qX 9 8,wy 10] 0 (yh [ww 11 10 9] 11 0 1 (qd [wd 12 4 8 10,qK 13 4 12,wg 7 [qR,qR,wB,.nils],q8 4 7 13] (.reg [wU 14,wI 15,qK 16 4 7,qb 17 (xO 15 (wS 16)),wA 18 1 [qR] 1 [xB 0 17],qb 19 (xM 1 8 14 (.t 18)),qe 5 19])) (xZ 20 10 10 20)) (wJ (wU 21) 4 21))⟩
theorem sr:al Tryz.prog dJ=some kT:=by kernel_rfl
def gi:FK:=⟨9,w8,w6 [xI 3 4,xh] [qq 5 1,qK 6 4 3,qq 7 2,qp 8 aX (yp 5 6 7),ya 4]⟩
theorem mW:al Tryz.prog du=some gi:=by kernel_rfl
def bM:FK:=⟨112,wX 6,qd [xI 3 1,wq 4 4 1,wq 5 1 2,wy 6] (qx [wR 15 4,qq 16 15] (.blk 0 (qd (wW 18 16 1 17 18) (xY 17 (qw [qq 19 3,xf 20 4,qq 21 20,xy 22 [.t 19,w9,.t 21,xo],qe 6 22]) 24 16 2 23 24 (xY 23 (w6 [qq 26 5,xn 27 4,qq 28 27,wQ 29 aW 26 28,qe 25 29,xc 30 0 25,xc 31 1 25,qe 7 30,qe 8 31] (wJ (qe 32 7) 6 32)) 34 16 10 33 34 (qH 33 (ym [yb 36 4,qq 35 3,qq 37 36,q9 38 4 37 wx,qK 39 4 38,qq 40 5,qp 41 aX (yp 35 39 40),qe 9 41] (xS (qq 42 3) (xy 43 [.t 42,w9,wx,xo]) 10 43) (xS (qq 44 3) (wP 45 aT 44 (qj 2)) 11 45) [qq 46 3,qe 47 9,qe 48 11,qe 49 11,qe 50 11,xi 51 50,wA 52 1 [qR] 2 [xB 0 49,xB 1 51],xp 53 [.t 46,qj 2,.t 47,.t 48,.t 52]] (ym [yb 55 4,qq 54 3,qq 56 55,q9 57 4 56 w9,qK 58 4 57,qq 59 5,qp 60 aX (yp 54 58 59),qe 12 60] [qq 61 3,qe 62 12,wA 63 1 [qR] 1 [xB 0 62],xy 64 [.t 61,qj 10,wx,.t 63],qe 13 64] [qq 65 3,x8 66,qe 67 13,wA 68 1 [qR] 1 [xB 0 67],xw 69 [qR,qR,.nils,qR] [(0,1,qj 10),xB 1 66,xB 2 68,(3,1,wx)],wQ 70 aU 65 69] [qq 71 3,qe 72 11,xi 73 72,qe 74 11,xi 75 74,wA 76 1 [qR] 1 [xB 0 75],xp 77 [.t 71,w9,wx,.t 73,.t 76]] (qw (wJ (x8 78) 6 78))))))))) (qd [yb 79 4,qq 80 79,qb 81 (xA du (wN 3 (.t 5))),wQ 82 dJ 80 81,qe 14 82] (wv [wR 83 4,qq 84 83] (.blk 1 (qd (wW 86 84 11 85 86) (xY 85 (qw [qq 87 3,qe 88 14,xy 89 [.t 87,qj 10,wx,.t 88],qe 6 89]) 91 84 12 90 91 (xY 90 (qw [qq 92 3,qe 93 14,xy 94 [.t 92,qj 11,wx,.t 93],qe 6 94]) 96 84 13 95 96 (qU 95 [xn 102 4,qe 105 14,qq 97 3,qq 98 3,wu 99 98,wR 100 99,qK 101 1 100,qq 103 102,wQ 104 iI 101 103,xm 3 97,xy 106 [.t 97,qj 14,.t 104,.t 105],qe 6 106]))))) [qq 107 3,wR 108 4,qq 109 108,qe 110 14,xy 111 [.t 107,.t 109,wx,.t 110],qe 6 111])))⟩
theorem oy:al Tryz.prog aX=some bM:=by kernel_rfl
def fK:FK:=⟨9,w8,w6 [xI 3 4,xh] [qq 5 1,qK 6 4 3,qq 7 2,qp 8 aX (yp 5 6 7),ya 4]⟩
theorem mg:al Tryz.prog dj=some fK:=by kernel_rfl
def gB:FK:=⟨176,[],qL [xI 4 1,wq 6 1 2] [wI 16,qX 17 16,wy 18] (qO 0 (yh [ww 19 18 17] 19 0 1 (qd [wd 20 5 16 18,qK 21 5 20,wg 9 [qR,wB,.nils,.nils,.nils],q8 5 9 21] (qx [wR 22 9,qq 23 22,wt 24 23 6] (qH 24 (ym (xS (qq 25 4) (wP 26 aT 25 (qj 3)) 10 26) [qq 27 4,x8 28,x8 29,wA 30 1 [qR] 1 [xB 0 29],xp 31 [.t 27,w9,wx,.t 28,.t 30]] [xn 33 9,qq 32 4,qq 34 33,q9 35 4 34 wx,qK 36 4 35,qq 37 6,qp 38 aX (yp 32 36 37),qe 11 38] [qq 39 4,qe 40 11,x8 41,xi 42 41,x8 43,xi 44 43,x8 45,wh 46 45 2,wA 47 1 [qR] 2 [xB 0 44,xB 1 46],xp 48 [.t 39,qj 2,.t 40,.t 42,.t 47]] (qL [yb 50 9,yl 54,qq 49 4,qq 51 50,qq 52 6,wT 53 aV 52,xm 4 49,xm 50 51,qp 55 bj [.t 49,.t 51,.t 53,.t 54]] [qq 56 4,x8 57,wh 58 57 2,x8 59,wA 60 1 [qR] 1 [xB 0 59],xp 61 [.t 56,w9,wx,.t 58,.t 60]] (.exit 1)))) (qL [xn 62 9,qq 63 62,qb 64 (xA dj (wN 4 (.t 6))),wQ 65 dJ 63 64,qe 12 65] [wR 66 9,qq 67 66] (.blk 2 (qd (wW 69 67 1 68 69) (xY 68 (qL [xf 74 9,yl 76,wu 77 76,wR 78 77,qq 70 6,wu 71 70,wR 72 71,qq 73 72,qq 75 74,qq 79 78,qN (.mup 1 (.t 73) (.t 75) (.t 79))] [yl 80,wu 81 80,wR 82 81,qq 83 82,xi 84 83,wu 85 80,wR 86 85,xx 86 84] (.reg [xf 92 9,qe 95 12,qq 87 4,qq 88 6,wu 89 88,wR 90 89,qq 91 90,qq 93 92,qb 94 (.lk 1 qR false (.t 91) (.t 93)),xw 96 [qR,qR,.nils,qR] [(0,1,qj 2),xB 1 94,xB 2 95,(3,1,wx)],wQ 97 aU 87 96])) 99 67 2 98 99 (xY 98 (qd [qq 101 6,xf 102 9,qq 103 102,wQ 104 aW 101 103,qe 100 104,xc 105 0 100,xc 106 1 100,qe 13 105,qe 14 106] (.reg [qq 107 4,qe 108 13,qe 109 12,xw 110 [qR,qR,.nils,qR] [(0,1,qj 2),xB 1 108,xB 2 109,(3,1,wx)],wQ 111 aU 107 110])) 113 67 3 112 113 (xY 112 (.reg [qq 114 4,qe 115 12,xw 116 [qR,qR,.nils,qR] [(0,1,qj 13),(1,1,qj (-1)),xB 2 115,(3,1,wx)],wQ 117 aU 114 116]) 119 67 4 118 119 (xY 118 (.reg [qq 120 4,qe 121 12,xw 122 [qR,qR,.nils,qR] [(0,1,qj 12),(1,1,qj (-1)),xB 2 121,(3,1,wx)],wQ 123 aU 120 122]) 125 67 5 124 125 (xY 124 (ym (xS (qq 126 4) (wP 127 aT 126 (qj 3)) 15 127) [qe 129 12,q9 130 1 129 wx,qe 132 15,qe 133 15,qe 134 15,xi 135 134,qb 136 (.bslP 1 [qR] 2 [xB 0 133,xB 1 135]),qq 128 4,qq 131 130,xp 137 [.t 128,qj 2,.t 131,.t 132,.t 136]] [yb 139 9,yl 143,qq 138 4,qq 140 139,qq 141 6,wT 142 aV 141,xm 4 138,xm 139 140,qp 144 bj [.t 138,.t 140,.t 142,.t 143]] [qq 145 4,qe 146 15,xi 147 146,qe 148 15,wh 149 148 2,wA 150 1 [qR] 1 [xB 0 149],xp 151 [.t 145,w9,wx,.t 147,.t 150]] (qd [qt 153 4 9,yl 157,qq 152 4,qq 154 153,qq 155 6,wT 156 aV 155,xm 4 152,xm 153 154,qp 158 bj [.t 152,.t 154,.t 156,.t 157]] (.reg [qq 159 4,qe 160 15,wh 161 160 2,qe 162 15,wh 163 162 2,wA 164 1 [qR] 1 [xB 0 163],xp 165 [.t 159,w9,wx,.t 161,.t 164]]))) 167 67 7 166 167 (xF 166 [qe 169 12,q9 170 1 169 wx,qq 168 4,qq 171 170,qq 172 4,wP 173 aT 172 w9,xm 4 168,xm 170 171,xp 174 [.t 168,qj 3,.t 171,.t 173,xo]]))))))))))) (xZ 175 18 18 175)))⟩
theorem nz:al Tryz.prog bj=some gB:=by kernel_rfl
def nN:FK:=⟨65,[.c 4 (some 3)],ym [xI 2 1,wq 3 3 1,wg 4 [qR,qR,.nils]] [qK 9 1 2,xw 10 [.nils,qR,qR,.nils,qR] [xB 0 9],wq 11 5 10,qe 5 11] [wU 12,wU 13,xf 14 3,qq 15 14,qX 16 15,qK 17 3 3,wT 18 jf 17,xm 14 15,wu 19 12,xf 20 19,wR 21 20,xx 21 16,wu 22 13,xf 23 22,xf 24 23,xx 24 18] (wJ (qp 25 aV [.c .nilp]) 6 25) (qx [xf 26 3,qq 27 26,qX 28 27,wy 29] (qO 0 (yh [ww 30 29 28] 30 0 1 (qd [qe 31 29,wd 32 1 27 29,qq 33 32,qe 7 31,qe 8 33] (.reg [yj 34,wu 35 34,wR 36 35,qq 37 36,ya 38,qe 39 7,qN (.mup 1 (.t 37) (.t 38) (.t 39))])) (xZ 40 29 29 40))) (qL [wU 41,wP 42 aT 41 w9] [wU 43,xn 44 3,qq 45 44,yj 46,xf 47 3,qq 48 47,qX 49 48,xw 50 [qR] [xB 0 49],wq 51 1 50,qp 52 bj [.t 43,.t 45,.t 46,.t 51]] (w6 [wU 53,wU 54,wU 56,wu 57 56,qt 58 4 57,qq 59 58,xy 55 [.t 54,w9,wx,xo],xm 58 59,xp 60 [.t 53,qj 3,.t 55,.t 59,xo]] [wU 61,wu 62 61,xf 63 62,qK 64 3 63,q8 3 4 64])))⟩
theorem zn:al Tryz.prog fW=some nN:=by kernel_rfl
def gD:FK:=⟨7,[.c 3 (some 3)],w6 [xI 2 3,wg 3 [qR,qR,.nils]] [qK 4 1 1,qK 5 3 2,wQ 6 fW 4 5,q8 3 3 6]⟩
theorem nA:al Tryz.prog cB=some gD:=by kernel_rfl
def jm:FK:=⟨19,[.c 2 (some 1),.t 3],yg [xI 1 1,wg 2 yk,wj 3] [qK 5 1 1,wT 6 oe 5,wE 7 6] 7 [xw 8 yk [],xx 2 8,wj 3] (qd [wR 9 1,qq 10 9,qb 11 (xA cB (wS 1)),wQ 12 bO 10 11,xw 13 yk [xB 0 12],wg 4 yk,xx 4 13] (wv [qK 14 1 4,wT 15 gU 14,wE 16 15] (qU 16 [xw 17 yk [],xx 2 17,wj 3]) [qK 18 1 4,xx 2 18,qc 3 wn]))⟩
theorem pD:al Tryz.prog cV=some jm:=by kernel_rfl
def nH:FK:=⟨4,xl,qd (xJ 2) (wv [wl 3] (qU 3 (x7 2 1)) (xJ 2))⟩
theorem vV:al Tryz.prog kA=some nH:=by kernel_rfl
def lD:FK:=⟨35,xl,qL (xJ 2) (xJ 3) (xQ [xh] 0 [xC 5,wl 6,qX 7 6,ww 8 5 7] 8 0 1 (.reg [yl 11,xX,xC 13,wd 14 5 12 13,wR 15 14,wl 20,xC 21,wd 22 5 20 21,yb 23 22,wl 27,xC 28,wd 29 5 27 28,qt 30 4 29,qq 16 15,wt 17 16 1,qq 24 23,qq 31 30,wT 18 kA 17,xm 23 24,xm 30 31,q6 19 .add 11 18,wT 25 fd 24,xm 30 31,q6 26 .add 19 25,wT 32 fd 31,q6 33 .add 26 32,qe 3 33]) (xT (xC 9) 10 9 4 10) (wJ (yl 34) 2 34))⟩
theorem rh:al Tryz.prog fd=some lD:=by kernel_rfl
def fH:FK:=⟨25,xl,qL (xJ 2) [wl 3,wl 4,wu 5 4,xf 6 5,xn 7 6,qq 8 7,wA 9 2 [qR,.nils] 0 [],wA 10 4 [qR,qR,.nils,qR] 0 [],wA 11 1 [qR] 0 [],xw 12 [.nils,.nils,qR,qR,.nils] [xB 0 9,xB 1 10,xB 4 11],wA 13 5 [.nils,.nils,qR,qR,.nils] 1 [xv 0 5 12],qb 14 (xM 5 88 8 (.t 13)),wu 15 3,xf 16 15,xn 17 16,xx 17 14] (qw [wl 18,wu 19 18,xf 20 19,xn 21 20,qq 22 21,qX 23 22,yq 24 23 1,qe 2 24])⟩
theorem ke:al Tryz.prog cf=some fH:=by kernel_rfl
def kS:FK:=⟨37,[],ym [wl 11,wu 12 11,xf 13 12,xn 14 13,wl 16,wu 17 16,qt 18 4 17,qq 15 14,qq 19 18,wd 20 5 15 19,qe 10 20] [x8 21,wI 22,wu 23 21,xn 24 23,xx 24 22] [x8 25,qe 26 2,wu 27 25,yb 28 27,xx 28 26] [x8 29,yl 30,wu 31 29,qt 32 4 31,xx 32 30] (.reg [wl 33,xC 34,wu 35 33,qt 36 4 35,xx 36 34])⟩
theorem sx:al Tryz.prog bu=some kS:=by kernel_rfl
def kg:FK:=⟨19,xl,qL (xJ 2) [wl 3,wl 4,wu 5 4,xf 6 5,xf 7 6,qq 8 7,xi 9 8,wu 10 3,xf 11 10,xf 12 11,xx 12 9] (qw [wl 13,wu 14 13,xf 15 14,xf 16 15,qq 17 16,yq 18 17 1,qe 2 18])⟩
theorem rM:al Tryz.prog bF=some kg:=by kernel_rfl
def gX:FK:=⟨37,wX 10,qL (xJ 10) [xX,wu 13 12,xf 14 13,xn 15 14,wl 17,wu 18 17,qt 19 4 18,qq 16 15,qq 20 19,wd 21 5 16 20,qe 11 21] (w6 [qe 22 11,qe 23 11,wu 24 23,xf 25 24,qq 26 25,wI 27,qe 28 2,xC 29,yl 30,xw 31 [qR,qR,.nils,qR] [xB 0 27,xB 1 28,xB 2 29,xB 3 30],wA 32 4 [qR,qR,.nils,qR] 1 [xv 0 4 31],qb 33 (xM 4 48 26 (.t 32)),wu 34 22,xf 35 34,xx 35 33] (wJ (qe 36 2) 10 36))⟩
theorem ue:al Tryz.prog ce=some gX:=by kernel_rfl
def gZ:FK:=⟨34,w8,qd [xh] (xQ [wl 6,wu 7 6,qt 8 5 7,qq 9 8,qX 10 9,yq 11 10 1,qe 5 11] 0 [wU 12,qy 13 .geq 12 0] 13 0 1 (xr [wl 16,wu 17 16,qt 18 5 17,qq 19 18,wU 20,wd 21 3 19 20,wR 22 21,qq 23 22,wI 24,qb 25 (xD .eql 23 (.t 24))] 25 [wl 26,wu 27 26,qt 28 5 27,qq 29 28,wU 30,wd 31 3 29 30,xf 32 31,qq 33 32,qe 4 33]) (xS (wU 14) (yq 15 14 1) 5 15) ye)⟩
theorem ti:al Tryz.prog er=some gZ:=by kernel_rfl
def mz:FK:=⟨56,w8,ym [wq 3 4 1,xh] [wl 11,yb 12 3,qq 13 12,q9 14 4 13 wx,qK 15 4 14,wQ 16 bh 11 15,qe 5 16] [wl 17,wl 18,xG 19 18,wA 20 1 [qR] 0 [],xe 21 [.t 17,w9,.t 19,wx,.t 20],qe 6 21] (xS (wl 22) (xt 23 22) 7 23) (ym (xS (wl 24) (xt 25 24) 8 25) [wl 26,wU 27,qe 28 7,ya 29,wA 30 1 [qR] 2 [xB 0 28,xB 1 29],qe 31 7,xu 32 [.t 26,qj 2,.t 27,.t 30,.t 31]] [wl 33,yb 34 3,qq 35 34,q9 36 4 35 w9,qK 37 4 36,wQ 38 bh 33 37,qe 9 38] [wl 39,wl 40,xG 41 40,qe 42 9,wA 43 1 [qR] 1 [xB 0 42],xe 44 [.t 39,qj 10,.t 41,wx,.t 43],qe 10 44] (qL [wl 45,yj 46,x8 47,wA 48 1 [qR] 1 [xB 0 47],xe 49 [.t 45,qj 10,.t 46,wx,.t 48]] [wl 50,ya 51,wA 52 1 [qR] 1 [xB 0 51],ya 53,xu 54 [.t 50,w9,wx,.t 52,.t 53]] (qw (wJ (yj 55) 4 55))))⟩
theorem tB:al Tryz.prog ij=some mz:=by kernel_rfl
def cL:FK:=⟨84,w8,qd [wq 3 4 1,xh] (qx [wR 7 3,qq 8 7] (.blk 0 (qd (wW 10 8 1 9 10) (xY 9 (qw [wl 11,xX,xf 14 3,qb 16 (.bslP 1 [qR] 0 []),qq 15 14,xG 13 12,xm 14 15,xe 17 [.t 11,w9,.t 13,.t 15,.t 16],qe 4 17]) 19 8 2 18 19 (xY 18 (qw [wl 20,xn 21 3,qq 22 21,wQ 23 er 20 22,qe 4 23]) 25 8 10 24 25 (qU 24 [wl 26,qK 27 4 3,wQ 28 ij 26 27,qe 4 28]))))) (qd (wJ (wA 29 1 [qR] 0 []) 5 29) (qx (xJ 6) (qO 1 (xa [yj 30,yb 31 3,qq 32 31,qX 33 32,ww 34 30 33] 34 1 2 (.reg [wU 37,wl 38,yb 39 3,qq 40 39,yj 41,wd 42 4 40 41,qK 43 4 42,wQ 44 bh 38 43,wA 45 1 [qR] 1 [xB 0 44],qb 46 (xM 1 8 37 (.t 45)),qe 5 46]) (xT (yj 35) 36 35 6 36))) (wv [wR 47 3,qq 48 47] (.blk 3 (qd (wW 50 48 11 49 50) (xY 49 (qw [wl 51,wl 52,xG 53 52,wU 54,xe 55 [.t 51,qj 10,.t 53,wx,.t 54],qe 4 55]) 57 48 12 56 57 (xY 56 (qw [wl 58,wl 59,xG 60 59,wU 61,xe 62 [.t 58,qj 11,.t 60,wx,.t 61],qe 4 62]) 64 48 13 63 64 (qU 63 [wl 65,wl 66,wl 68,wu 69 68,wR 70 69,xn 72 3,wU 75,qK 71 1 70,qq 73 72,xG 67 66,wM (some 1) 70 71,xm 72 73,wQ 74 iU 71 73,xe 76 [.t 65,qj 14,.t 67,.t 74,.t 75],qe 4 76]))))) [wl 77,wR 78 3,wl 80,wU 82,qq 79 78,xG 81 80,xm 78 79,xe 83 [.t 77,.t 79,.t 81,wx,.t 82],qe 4 83]))))⟩
theorem sM:al Tryz.prog bh=some cL:=by kernel_rfl
def lf:FK:=⟨41,[],ym [wq 3 5 1] (xS (wl 8) (xt 9 8) 4 9) (xS (wl 10) (xt 11 10) 5 11) (xS xX (xt 13 12) 6 13) (ym [wl 14,xC 15,wA 16 1 [qR] 1 [xB 0 15],xC 17,xu 18 [.t 14,w9,wx,.t 16,.t 17]] [wl 19,xn 20 3,qq 21 20,q9 22 4 21 wx,qK 23 4 22,wQ 24 bh 19 23,qe 7 24] [wl 25,qe 26 7,wU 27,yj 28,wA 29 1 [qR] 2 [xB 0 27,xB 1 28],wU 30,xu 31 [.t 25,qj 2,.t 26,.t 29,.t 30]] [wl 32,yb 33 3,qq 34 33,wQ 35 bn 32 34] (.reg [wl 36,xC 37,wA 38 1 [qR] 1 [xB 0 37],yj 39,xu 40 [.t 36,w9,wx,.t 38,.t 39]]))⟩
theorem sg:al Tryz.prog fP=some lf:=by kernel_rfl
def gd:FK:=⟨132,[],yg [wq 3 5 1] [wR 9 3,qq 10 9,wt 11 10 6] 11 [xX,qK 13 5 3,wQ 14 fP 12 13] (qd (wJ (wA 15 1 [qR] 0 []) 4 15) (qx (xJ 5) (qO 0 (xa [wU 16,xn 17 3,qq 18 17,qX 19 18,ww 20 16 19] 20 0 1 (.reg [xC 23,wl 24,xn 25 3,qq 26 25,wU 27,wd 28 4 26 27,qK 29 4 28,wQ 30 bh 24 29,wA 31 1 [qR] 1 [xB 0 30],qb 32 (xM 1 8 23 (.t 31)),qe 4 32]) (xT (wU 21) 22 21 5 22))) (qd [wR 33 3,qq 34 33] (.blk 2 (qd (wW 36 34 1 35 36) (xY 35 (qL [wl 37,wl 38,wu 39 38,qt 40 6 39,qq 41 40,xC 42,xe 43 [.t 37,qj 2,.t 41,wx,.t 42]] [wl 44,wl 45,wu 46 45,qt 47 5 46,xf 49 3,wl 51,wu 52 51,qt 53 6 52,qq 48 47,qq 50 49,qq 54 53,xw 55 [wB,qR,qR] [xB 0 50,xB 1 54,(2,1,wx)],qb 56 (.bslP 3 [wB,qR,qR] 1 [xv 0 3 55]),qb 57 (xM 3 32 48 (.t 56)),wu 58 44,qt 59 5 58,xx 59 57] (.reg [wl 60,wl 61,wu 62 61,qt 63 6 62,qq 64 63,xi 65 64,wu 66 60,qt 67 6 66,xx 67 65])) 69 34 2 68 69 (xY 68 (.reg [wl 70,wl 71,xf 72 3,qq 73 72,wQ 74 er 71 73,xC 75,xe 76 [.t 70,qj 2,.t 74,wx,.t 75]]) 78 34 3 77 78 (xY 77 (.reg [wl 79,xC 80,xe 81 [.t 79,qj 13,qj (-1),wx,.t 80]]) 83 34 4 82 83 (xY 82 (.reg [wl 84,xC 85,xe 86 [.t 84,qj 12,qj (-1),wx,.t 85]]) 88 34 7 87 88 (xY 87 (.reg [wl 89,xC 90,q9 91 1 90 wx,qb 93 (.bslP 1 [qR] 0 []),wl 94,qq 92 91,xt 95 94,xm 91 92,xu 96 [.t 89,qj 3,.t 92,.t 93,.t 95]]) 98 34 5 97 98 (qH 97 (ym (xS (wl 99) (xt 100 99) 6 100) (xS (wl 101) (xt 102 101) 7 102) (xS (wl 103) (xt 104 103) 8 104) [wl 105,xC 106,q9 107 1 106 wx,qq 108 107,yj 109,qe 110 7,wA 111 1 [qR] 2 [xB 0 109,xB 1 110],yj 112,xu 113 [.t 105,qj 2,.t 108,.t 111,.t 112]] (qL [wl 114,yb 115 3,qq 116 115,wQ 117 bn 114 116] [wl 118,ya 119,wA 120 1 [qR] 1 [xB 0 119],qe 121 7,xu 122 [.t 118,w9,wx,.t 120,.t 121]] (qd [wl 123,qt 124 4 3,qq 125 124,wQ 126 bn 123 125] (.reg [wl 127,ya 128,wA 129 1 [qR] 1 [xB 0 128],ya 130,xu 131 [.t 127,w9,wx,.t 129,.t 130]])))))))))))))))⟩
theorem sS:al Tryz.prog gt=some gd:=by kernel_rfl
def fB:FK:=⟨32,[],qd [wl 6,wu 7 6,qt 8 5 7,qq 9 8,qX 10 9,x8 4] (qx (xJ 5) (qO 0 (xa [wU 11,wI 12,qX 13 12,ww 14 11 13] 14 0 1 (.reg [wl 17,wI 18,wU 19,wd 20 5 18 19,qK 21 5 20,wQ 22 gt 17 21]) (xT (wU 15) 16 15 5 16))) (.reg [wl 23,wl 24,wu 25 24,qt 26 5 25,qq 27 26,xC 28,qb 29 (.slS 3 (.t 27) none (some (.t 28))),wu 30 23,qt 31 5 30,xx 31 29]))⟩
theorem rP:al Tryz.prog bn=some fB:=by kernel_rfl
def ur:FK:=⟨80,[.c 4 (some 3)],ym [xI 2 1,wg 4 [qR,qR,.nils]] [wR 9 2,qq 10 9,wI 11,wd 12 3 10 11,qK 13 3 12,wg 5 [wB,.nils,.nils],q8 3 5 13] [qK 14 1 2,xf 15 5,qq 16 15,qX 17 16,xw 18 [.nils,qR,qR,.nils,qR,.nils,qR,.nils] [xB 0 14,xB 6 17],wq 19 8 18,qe 6 19] [yj 20,xf 21 5,qq 22 21,qX 23 22,wu 24 20,xf 25 24,wR 26 25,xx 26 23] (qd [yj 27,xf 28 5,xn 31 5,qq 29 28,qX 30 29,qq 32 31,wT 33 fd 32,xm 28 29,q6 34 .add 30 33,wu 35 27,xf 36 35,xf 37 36,xx 37 34] (qx (xJ 7) (qO 0 (xa [qe 38 7,xf 39 5,qq 40 39,qX 41 40,ww 42 38 41] 42 0 1 (.reg [yj 45,yj 46,wu 47 46,qt 48 5 47,xf 50 5,qe 52 7,qe 55 7,qq 49 48,qq 51 50,wd 53 1 51 52,qq 54 53,xw 56 [wB,qR,qR] [xB 0 54,xB 1 55,(2,1,wx)],qb 57 (.bslP 3 [wB,qR,qR] 1 [xv 0 3 56]),qb 58 (xM 3 32 49 (.t 57)),wu 59 45,qt 60 5 59,xx 60 58]) (xT (qe 43 7) 44 43 7 44))) (ym [yj 61,xt 62 61] [yj 63,xn 64 5,qq 65 64,wQ 66 bn 63 65] [yj 67,yj 68,xG 69 68,wA 70 1 [qR] 0 [],xe 71 [.t 67,w9,.t 69,wx,.t 70],qe 8 71] [yj 72,ya 73,wA 74 1 [qR] 0 [],xu 75 [.t 72,qj 3,.t 73,.t 74,wx]] (qw [yj 76,wu 77 76,xf 78 77,qK 79 3 78,q8 3 4 79]))))⟩
theorem EA:al Tryz.prog lh=some ur:=by kernel_rfl
def pZ:FK:=⟨22,[.c 2 (some 1)],qL [xI 1 1,wg 2 yk] [xw 5 yk [],wg 3 yk,xx 3 5] (xQ [xh] 0 [xC 6,wR 7 1,qq 8 7,qX 9 8,ww 10 6 9] 10 0 1 (.reg [wR 13 3,xC 16,qq 14 13,qK 15 1 1,wQ 17 lh 15 16,xm 13 14,qb 18 (.bslP 3 [qR,qR,.nils] 1 [xv 0 3 17]),qb 19 (xM 3 40 14 (.t 18)),wR 20 3,xx 20 19]) (xT (xC 11) 12 11 4 12) [qK 21 1 3,xx 2 21])⟩
theorem AD:al Tryz.prog ik=some pZ:=by kernel_rfl
def rc:FK:=⟨21,w8,qd [xI 2 3,wz] (xQ (xJ 5) 0 [wU 6,wI 7,qX 8 7,ww 9 6 8] 9 0 1 (xr [wI 12,wU 13,wd 14 1 12 13,xf 16 2,qq 15 14,qq 17 16,yq 18 17 1,yf 19 (xV 15 wx 18),wE 20 19] 20 xH) (xT (wU 10) 11 10 5 11) [qc 4 wn])⟩
theorem AP:al Tryz.prog iF=some rc:=by kernel_rfl
def oo:FK:=⟨13,xl,w6 [xK] [wl 3,yf 4 (yn 3 w9 14),xC 5,yi 6 5 0,xk 7 5 .neq 6 (qj 12),x4 8 5 7,ya 9,yi 10 9 0,xk 11 9 .neq 10 (qj 13),x4 12 9 11,qe 2 12]⟩
theorem zH:al Tryz.prog fY=some oo:=by kernel_rfl
def cR:FK:=⟨28,xl,qd (xJ 2) (qQ 0 (qd [wl 4,wt 5 4 1,wU 3] (wZ 3 (qw (xJ 2)) [wl 7,wt 8 7 2,ya 9,xb 10 9 0,xE 11 9 .eql 10 (qj 10),xq 12 9 11,qe 13 12,xb 14 13 0,xE 15 13 .eql 14 (qj 11),xq 16 13 15,qe 17 16,xb 18 17 0,xE 19 17 .eql 18 (qj 13),xq 20 17 19,qe 6 20] (wZ 6 (qw (x7 2 1)) [wl 22,yf 23 (yn 22 (qj 3) 9),qe 24 23,xb 25 24 0,xE 26 24 .eql 25 (qj 12),xq 27 24 26,qe 21 27] (qU 21 (x7 2 2))))) (qw (yc 2)))⟩
theorem AJ:al Tryz.prog lA=some cR:=by kernel_rfl
def sC:FK:=⟨88,wX 6,qL [xI 3 1,wq 5 4 2,x9] [wR 8 3,qq 9 8,wI 10,wd 11 3 9 10,qK 12 3 11,wg 7 [qR,qR,.nils],q8 3 7 12] (w7 [wR 13 5,qq 14 13,yf 15 (yn 14 w9 14),wE 16 15,qe 17 16,qD 18 17 (qi (some 3) 7),wK 19 17 2 5,wG 20 17 19,xd 21 17 iF (wN 18 (.t 20)),xL 22 17 21,xq 23 17 22] 23 [x9] (w7 [wR 24 5,xf 27 5,xf 29 7,qq 25 24,qq 28 27,qq 30 29,yq 31 30 1,wT 26 fY 25,xm 27 28,xm 29 30,yf 32 (xV 28 wx 31),qb 33 (.beq true (.t 26) (.t 32)),qe 34 33,wK 35 34 0 5,wG 36 34 35,xd 37 34 fY (wS 36),xL 38 34 37,xb 39 34 38,wL 40 39 1 5,wH 41 39 40,xk 42 39 .neq 41 (qj (-1)),qD 43 34 (qI 39 (.t 42) qB),xq 44 34 43] 44 [x9] (wv [wR 45 5,qq 46 45,wt 47 46 14] (qU 47 [yb 48 5,wI 50,yq 51 50 1,qq 49 48,yf 52 (xV 49 wx 51),qe 53 52,wL 54 53 2 5,wL 57 53 0 3,wL 59 53 3 5,wH 55 53 54,qF 56 53 (qP 55),wH 58 53 57,wH 60 53 59,qF 61 53 (qG 3 58 (.t 60)),wL 62 53 0 61,wH 63 53 62,xk 64 53 .eql 56 (.t 63),x4 65 53 64,qe 6 65]) [xn 66 5,wR 69 5,qq 67 66,qX 68 67,qq 70 69,wT 71 lA 70,xm 66 67,q6 72 .eql 68 71,qe 73 72,wL 74 73 3 5,wH 75 73 74,qF 76 73 (.call fO (yn 75 wx 255)),x4 77 73 76,qe 78 77,wL 79 78 3 5,wH 80 78 79,xk 81 78 .eql 80 wx,yi 82 78 81,wK 83 82 0 5,wG 84 82 83,xE 85 82 .eql 84 w9,qF 86 78 (qI 82 wn (.t 85)),x4 87 78 86,qe 6 87])))⟩
theorem Ce:al Tryz.prog mE=some sC:=by kernel_rfl
def nM:FK:=⟨43,w8,qL [xI 2 3,qc 4 xo] (wJ (wA 8 1 [qR] 0 []) 5 8) (xQ (xJ 6) 0 [yj 9,xn 10 2,qq 11 10,qX 12 11,ww 13 9 12] 13 0 1 (qd (xJ 7) (qO 2 (xa [qe 16 7,xn 17 2,qq 18 17,yj 19,wd 20 5 18 19,qt 21 4 20,qq 22 21,qX 23 22,ww 24 16 23] 24 2 3 (qd [xn 27 2,qq 28 27,yj 29,wd 30 5 28 29,qt 31 4 30,qq 32 31,qe 33 7,wd 34 1 32 33,qq 35 34,wI 36,q6 37 .eql 35 36] (qH 37 (qd [wU 38,yj 39,wA 40 1 [qR] 1 [xB 0 39],qb 41 (xM 1 8 38 (.t 40)),qe 5 41] (.exit 2)))) (xT (qe 25 7) 26 25 7 26)))) (xT (yj 14) 15 14 6 15) (wJ (wU 42) 4 42))⟩
theorem yZ:al Tryz.prog gh=some nM:=by kernel_rfl
def jS:AK:=ym [xI 3 1,x9] [wR 14 3,qq 15 14,wI 16,wd 17 3 15 16,qK 18 3 17,wg 7 [qR,qR,.nils],q8 3 7 18] [xn 19 7,qq 20 19,qe 21 2,wd 22 5 20 21,qK 23 5 22,wg 8 [.nils,.nils,qR,qR,.nils],q8 5 8 23] (x7 9 1) (xW (qd [xn 24 8,qq 25 24] (.blk 0 (qd (wW 27 25 1 26 27) (xY 26 (xr [yb 28 8,qq 29 28,qy 30 .neq 29 0] 30 [x9]) 32 25 2 31 32 (xY 31 (.reg (x7 9 2)) 34 25 3 33 34 (qo 33 (.reg (xJ 9)) (qw [x9]))))))) (xr [qt 35 4 8,qq 36 35,qX 37 36,qe 38 9,q6 39 .neq 37 38,qe 40 39,wK 41 40 2 8,wG 42 40 41,xE 43 40 .neq 42 w9,xb 44 40 43,wL 45 44 3 8,wH 46 44 45,wL 47 44 1 7,wH 48 44 47,xk 49 44 .sub 48 w9,qF 50 44 (.call fO (xV 46 wx 49)),qF 51 44 (qT 50),qD 52 40 (qI 44 (.t 51) qB),xq 53 40 52] 53 [x9]) (xW (qd (xJ 10) (qO 1 (xa [x8 54,qt 55 4 8,qq 56 55,qX 57 56,ww 58 54 57] 58 1 2 (xr [qt 61 4 8,x8 63,xn 66 7,qq 62 61,wd 64 1 62 63,qq 65 64,qq 67 66,qX 68 67,yq 69 68 1,yf 70 (xV 65 w9 69),wE 71 70] 71 [x9]) (xT (x8 59) 60 59 10 60)))) (qd (xJ 11) (qO 3 (xa [qe 72 11,xf 73 8,qq 74 73,qX 75 74,ww 76 72 75] 76 3 4 (xr [wI 80,xf 81 8,qe 83 11,qK 79 1 3,qq 82 81,wd 84 4 82 83,qK 85 4 84,qp 86 mE (yp 79 80 85),wE 87 86] 87 [x9]) (xT (qe 77 11) 78 77 11 78)))) (qd [qK 88 3 7,qe 89 2,wQ 90 gh 88 89,qe 12 90] (.cut (qd (xJ 13) (qO 5 (xa [qe 91 13,wR 92 8,qq 93 92,qX 94 93,ww 95 91 94] 95 5 6 (xr [qe 98 2,wt 99 98 0,qe 100 99,wK 101 100 0 8,xb 103 100 13,xb 108 100 12,qD 109 100 (qP 108),wG 102 100 101,qD 104 100 (qG 2 102 (.t 103)),wK 105 100 1 104,wG 106 100 105,qD 107 100 (qP 106),xE 110 100 .neq 107 (.t 109),xq 111 100 110,qe 112 111,wK 114 112 0 8,xb 116 112 13,qD 113 112 (qi (some 3) 7),wG 115 112 114,qD 117 112 (qG 2 115 (.t 116)),wK 118 112 1 117,wG 119 112 118,xd 120 112 iF (wN 113 (.t 119)),xL 121 112 120,xq 122 112 121,qe 123 122,wK 124 123 0 8,xb 126 123 13,wK 130 123 1 7,wG 125 123 124,qD 127 123 (qG 2 125 (.t 126)),wK 128 123 0 127,wG 129 123 128,wG 131 123 130,xE 132 123 .sub 131 w9,xN 133 123 (xV 129 wx 132),xL 134 123 133,xq 135 123 134] 135 [x9]) (xT (qe 96 13) 97 96 13 97)))) (qw [qc 6 wn])))))
def jO:FK:=⟨136,wX 6,(AK.whole jS)⟩
theorem yQ:al Tryz.prog jR=some jO:=by kernel_rfl
def mw:FK:=⟨76,xl,yg [xI 1 1,xK] [wR 7 1,qq 8 7,qX 9 8,yf 10 (yn 9 w9 4),wE 11 10] 11 [xK] (qd (xJ 3) (xQ [xh] 0 [xC 12,wR 13 1,qq 14 13,qX 15 14,ww 16 12 15] 16 0 1 (yg [wR 19 1,qq 20 19,xC 21,wd 22 3 20 21,qK 23 3 22,wg 5 [qR,qR,.nils],q8 3 5 23] [wR 24 5,qq 25 24,yf 26 (yn 25 wx 3),wE 27 26,qe 28 27,wK 29 28 1 5,wG 30 28 29,wK 31 28 0 5,wG 32 28 31,xN 33 28 (yn 30 (.t 32) 300),xL 34 28 33,xq 35 28 34,qe 36 35,wK 37 36 2 5,wG 38 36 37,qD 39 36 (qP 38),xN 40 36 (yn 39 w9 160),xL 41 36 40,xq 42 36 41] 42 [xK] (qd (xJ 6) (qO 2 (xa [yj 43,xn 44 5,qq 45 44,qX 46 45,ww 47 43 46] 47 2 3 (qL [yl 50,xn 51 5,yj 53,xn 59 5,yj 61,qq 52 51,wd 54 5 52 53,xf 55 54,qq 56 55,qX 57 56,q6 58 .add 50 57,qq 60 59,wd 62 5 60 61,wR 63 62,qq 64 63,qX 65 64,q6 66 .add 58 65,qe 3 66] [yl 67,qy 68 .gtr 67 800,qe 69 68,qD 70 69 (qi (some 1) 1),xb 71 69 4,xb 72 69 6,xd 73 69 jR (yp 70 71 72),xL 74 69 73,xq 75 69 74] (qU 75 [xK])) (xT (yj 48) 49 48 6 49))))) (xT (xC 17) 18 17 4 18) [qc 2 wn]))⟩
theorem th:al Tryz.prog gL=some mw:=by kernel_rfl
def jp:FK:=⟨16,[.c 2 (some 1),.t 3],yg [xI 1 1,wg 2 yk,wj 3] [qK 5 1 1,wT 6 lM 5,wE 7 6] 7 [xw 8 yk [],xx 2 8,wj 3] (qd [qK 9 1 1,wT 10 ik 9,wg 4 yk,xx 4 10] (wv [qK 11 1 4,wT 12 gL 11,wE 13 12] (qU 13 [xw 14 yk [],xx 2 14,wj 3]) [qK 15 1 4,xx 2 15,qc 3 wn]))⟩
theorem pj:al Tryz.prog cX=some jp:=by kernel_rfl
def gN:FK:=⟨28,w8,qL [xh] [wI 6,wl 7,qX 8 7,q6 9 .sub 6 8,qe 1 9] (w7 [wI 10,xP 11 10 0] 11 ye (xQ (xJ 5) 0 [wU 12,wl 13,qX 14 13,ww 15 12 14] 15 0 1 (qL [wI 18,wl 19,wU 20,wd 21 1 19 20,qq 22 21,qb 23 (.len true (.t 22)),q6 24 .sub 18 23,qe 1 24] [wI 25,xP 26 25 0] (qU 26 ye)) (xT (wU 16) 17 16 5 17) (wJ (wI 27) 4 27)))⟩
theorem tP:al Tryz.prog gY=some gN:=by kernel_rfl
def lq:FK:=⟨19,w8,qL [xI 2 4,xh] [wI 5,xn 6 2,qq 7 6,qb 8 (.len true (.t 7)),q6 9 .sub 5 8,qe 1 9] (w7 [wI 10,xP 11 10 0] 11 ye (qd [yb 12 2,qq 13 12,wI 14,wQ 15 dO 13 14,qe 1 15] (wv [wI 16,xP 17 16 0] (qU 17 ye) (wJ (wI 18) 4 18))))⟩
theorem Ay:al Tryz.prog iz=some lq:=by kernel_rfl
def jZ:FK:=⟨27,w8,qL [xh] [wI 6,wl 7,qX 8 7,q6 9 .sub 6 8,qe 1 9] (w7 [wI 10,xP 11 10 0] 11 ye (xQ (xJ 5) 0 [wU 12,wl 13,qX 14 13,ww 15 12 14] 15 0 1 (qL [wl 18,wU 19,wd 20 4 18 19,qK 21 4 20,wI 22,wQ 23 iz 21 22,qe 1 23] [wI 24,xP 25 24 0] (qU 25 ye)) (xT (wU 16) 17 16 5 17) (wJ (wI 26) 4 26)))⟩
theorem yz:al Tryz.prog dO=some jZ:=by kernel_rfl
def lm:FK:=⟨31,w8,qL [xI 2 5,xh] [wI 5,xf 6 2,qq 7 6,qb 8 (.len true (.t 7)),q6 9 .sub 5 8,qe 1 9] (w7 [wI 10,xP 11 10 0] 11 ye (yg [xn 12 2,qq 13 12,wI 14,wQ 15 dO 13 14,qe 1 15] [wI 16,xP 17 16 0] 17 ye (yg [yb 18 2,qq 19 18,wI 20,wQ 21 cx 19 20,qe 1 21] [wI 22,xP 23 22 0] 23 ye (qd [qt 24 4 2,qq 25 24,wI 26,wQ 27 cx 25 26,qe 1 27] (wv [wI 28,xP 29 28 0] (qU 29 ye) (wJ (wI 30) 4 30))))))⟩
theorem AB:al Tryz.prog il=some lm:=by kernel_rfl
def jN:FK:=⟨27,w8,qL [xh] [wI 6,wl 7,qX 8 7,q6 9 .sub 6 8,qe 1 9] (w7 [wI 10,xP 11 10 0] 11 ye (xQ (xJ 5) 0 [wU 12,wl 13,qX 14 13,ww 15 12 14] 15 0 1 (qL [wl 18,wU 19,wd 20 5 18 19,qK 21 5 20,wI 22,wQ 23 il 21 22,qe 1 23] [wI 24,xP 25 24 0] (qU 25 ye)) (xT (wU 16) 17 16 5 17) (wJ (wI 26) 4 26)))⟩
theorem zN:al Tryz.prog cx=some jN:=by kernel_rfl
def nX:FK:=⟨25,w8,qL [xI 2 3,xh] [wI 5,wR 6 2,qq 7 6,qb 8 (.len true (.t 7)),q6 9 .sub 5 8,qe 1 9] (w7 [wI 10,xP 11 10 0] 11 ye (yg [xf 12 2,qq 13 12,wI 14,wQ 15 gY 13 14,qe 1 15] [wI 16,xP 17 16 0] 17 ye (qd [xn 18 2,qq 19 18,wI 20,wQ 21 cx 19 20,qe 1 21] (wv [wI 22,xP 23 22 0] (qU 23 ye) (wJ (wI 24) 4 24)))))⟩
theorem Cv:al Tryz.prog kV=some nX:=by kernel_rfl
def mA:FK:=⟨27,w8,qL [xh] [wI 6,wl 7,qX 8 7,q6 9 .sub 6 8,qe 1 9] (w7 [wI 10,xP 11 10 0] 11 ye (xQ (xJ 5) 0 [wU 12,wl 13,qX 14 13,ww 15 12 14] 15 0 1 (qL [wl 18,wU 19,wd 20 3 18 19,qK 21 3 20,wI 22,wQ 23 kV 21 22,qe 1 23] [wI 24,xP 25 24 0] (qU 25 ye)) (xT (wU 16) 17 16 5 17) (wJ (wI 26) 4 26)))⟩
theorem Ct:al Tryz.prog mM=some mA:=by kernel_rfl
def mh:FK:=⟨12,w8,qL [xI 2 1,xh] [wR 5 2,qq 6 5,wI 7,wQ 8 mM 6 7,ya 1] (wv [wI 9,xP 10 9 0] (qU 10 ye) (wJ (wI 11) 4 11))⟩
theorem tr:al Tryz.prog ep=some mh:=by kernel_rfl
def mb:FK:=⟨22,xl,qL [qc 2 xo] [wl 5,qX 6 5,qb 7 (.mks 1 16 [wB] (.t 6) (.t 6)),qe 3 7] (xQ [xh] 0 [xC 8,wl 9,qX 10 9,ww 11 8 10] 11 0 1 (.reg [yl 14,xC 15,wl 16,xC 17,wd 18 1 16 17,qq 19 18,wd 20 1 14 15,xx 20 19]) (xT (xC 12) 13 12 4 13) (wJ (yl 21) 2 21))⟩
theorem tm:al Tryz.prog eh=some mb:=by kernel_rfl
def rg:FK:=⟨18,[.c 2 (some 4)],ym [xI 1 4,wg 2 [qR,qR,wB,.nils]] [wg 3 [qR,qR,wB,.nils]] [wR 4 1,qq 5 4,wR 6 3,xx 6 5] [xf 7 1,qq 8 7,xf 9 3,xx 9 8] (qL [xn 10 1,qq 11 10,xn 12 3,xx 12 11] [yb 13 1,qq 14 13,wT 15 dg 14,yb 16 3,xx 16 15] (qw [qK 17 4 3,q8 4 2 17]))⟩
theorem Ap:al Tryz.prog ip=some rg:=by kernel_rfl
def nY:FK:=⟨23,xl,qL [qc 2 xo] [wl 5,qX 6 5,qb 7 (.mks 4 56 [qR,qR,wB,.nils] (.t 6) (.t 6)),qe 3 7] (xQ [xh] 0 [xC 8,wl 9,qX 10 9,ww 11 8 10] 11 0 1 (.reg [yl 14,xC 15,wl 16,xC 17,wd 18 4 16 17,qK 19 4 18,wT 20 ip 19,wd 21 4 14 15,q8 4 21 20]) (xT (xC 12) 13 12 4 13) (wJ (yl 22) 2 22))⟩
theorem vZ:al Tryz.prog dg=some nY:=by kernel_rfl
def pQ:FK:=⟨23,[.c 2 (some 5)],ym [xI 1 5,wg 2 [qR,wB,.nils,.nils,.nils]] [wg 3 [qR,wB,.nils,.nils,.nils]] [wR 4 1,qq 5 4,wR 6 3,xx 6 5] [xf 7 1,qq 8 7,xf 9 3,xx 9 8] (qL [xn 10 1,qq 11 10,wT 12 dg 11,xn 13 3,xx 13 12] [yb 14 1,qq 15 14,wT 16 co 15,yb 17 3,xx 17 16] (w6 [qt 18 4 1,qq 19 18,wT 20 co 19,qt 21 4 3,xx 21 20] [qK 22 5 3,q8 5 2 22]))⟩
theorem Av:al Tryz.prog iu=some pQ:=by kernel_rfl
def oA:FK:=⟨23,xl,qL [qc 2 xo] [wl 5,qX 6 5,qb 7 (.mks 5 96 [qR,wB,.nils,.nils,.nils] (.t 6) (.t 6)),qe 3 7] (xQ [xh] 0 [xC 8,wl 9,qX 10 9,ww 11 8 10] 11 0 1 (.reg [yl 14,xC 15,wl 16,xC 17,wd 18 5 16 17,qK 19 5 18,wT 20 iu 19,wd 21 5 14 15,q8 5 21 20]) (xT (xC 12) 13 12 4 13) (wJ (yl 22) 2 22))⟩
theorem vG:al Tryz.prog co=some oA:=by kernel_rfl
def uf:FK:=⟨16,[.c 2 (some 3)],ym [xI 1 3,wg 2 [wB,.nils,.nils]] [wg 3 [wB,.nils,.nils]] [wR 4 1,qq 5 4,wR 6 3,xx 6 5] [xf 7 1,qq 8 7,wT 9 eh 8,xf 10 3,xx 10 9] (w6 [xn 11 1,qq 12 11,wT 13 co 12,xn 14 3,xx 14 13] [qK 15 3 3,q8 3 2 15])⟩
theorem Dz:al Tryz.prog lc=some uf:=by kernel_rfl
def sL:FK:=⟨23,xl,qL [qc 2 xo] [wl 5,qX 6 5,qb 7 (.mks 3 64 [wB,.nils,.nils] (.t 6) (.t 6)),qe 3 7] (xQ [xh] 0 [xC 8,wl 9,qX 10 9,ww 11 8 10] 11 0 1 (.reg [yl 14,xC 15,wl 16,xC 17,wd 18 3 16 17,qK 19 3 18,wT 20 lc 19,wd 21 3 14 15,q8 3 21 20]) (xT (xC 12) 13 12 4 13) (wJ (yl 22) 2 22))⟩
theorem BZ:al Tryz.prog jy=some sL:=by kernel_rfl
def lS:FK:=⟨9,[.c 2 (some 1)],qL [xI 1 1,wg 2 yk] [wg 3 yk] (w6 [wR 4 1,qq 5 4,wT 6 jy 5,wR 7 3,xx 7 6] [qK 8 1 3,xx 2 8])⟩
theorem tO:al Tryz.prog db=some lS:=by kernel_rfl
def mv:FK:=⟨26,w8,yg xH [wl 6,qX 7 6,wI 8,qX 9 8,q6 10 .neq 7 9] 10 xH (xQ (xJ 5) 0 [wU 11,xX,qX 13 12,ww 14 11 13] 14 0 1 (xr [wl 17,wU 18,wd 19 1 17 18,wI 21,wU 22,wd 23 1 21 22,qq 20 19,qq 24 23,qb 25 (xD .neq 20 (.t 24))] 25 xH) (xT (wU 15) 16 15 5 16) [qc 4 wn])⟩
theorem tR:al Tryz.prog gS=some mv:=by kernel_rfl
def pS:FK:=⟨26,w8,yg [xI 2 4,wq 3 4 1,wz] [wR 5 2,qq 6 5,wR 7 3,qq 8 7,q6 9 .neq 6 8] 9 xH (w7 [xf 10 2,qq 11 10,xf 12 3,qq 13 12,q6 14 .neq 11 13] 14 xH (w7 [xn 15 2,qq 16 15,xn 17 3,qq 18 17,qb 19 (xD .neq 16 (.t 18))] 19 xH (wv [yb 20 2,qq 21 20,yb 22 3,qq 23 22,wQ 24 dP 21 23,wE 25 24] (qU 25 xH) [qc 4 wn])))⟩
theorem Am:al Tryz.prog iD=some pS:=by kernel_rfl
def nK:FK:=⟨27,w8,yg xH [wl 6,qX 7 6,wI 8,qX 9 8,q6 10 .neq 7 9] 10 xH (xQ (xJ 5) 0 [wU 11,xX,qX 13 12,ww 14 11 13] 14 0 1 (xr [wl 17,wU 18,wd 19 4 17 18,wI 21,wU 22,wd 23 4 21 22,qK 20 4 19,qK 24 4 23,wQ 25 iD 20 24,wE 26 25] 26 xH) (xT (wU 15) 16 15 5 16) [qc 4 wn])⟩
theorem zJ:al Tryz.prog dP=some nK:=by kernel_rfl
def rj:FK:=⟨33,w8,yg [xI 2 5,wq 3 5 1,wz] [wR 5 2,qq 6 5,wR 7 3,qq 8 7,q6 9 .neq 6 8] 9 xH (w7 [xf 10 2,qq 11 10,xf 12 3,qq 13 12,qb 14 (xD .neq 11 (.t 13))] 14 xH (w7 [xn 15 2,qq 16 15,xn 17 3,qq 18 17,wQ 19 dP 16 18,wE 20 19] 20 xH (w7 [yb 21 2,qq 22 21,yb 23 3,qq 24 23,wQ 25 di 22 24,wE 26 25] 26 xH (wv [qt 27 4 2,qq 28 27,qt 29 4 3,qq 30 29,wQ 31 di 28 30,wE 32 31] (qU 32 xH) [qc 4 wn]))))⟩
theorem AL:al Tryz.prog io=some rj:=by kernel_rfl
def nS:FK:=⟨27,w8,yg xH [wl 6,qX 7 6,wI 8,qX 9 8,q6 10 .neq 7 9] 10 xH (xQ (xJ 5) 0 [wU 11,xX,qX 13 12,ww 14 11 13] 14 0 1 (xr [wl 17,wU 18,wd 19 5 17 18,wI 21,wU 22,wd 23 5 21 22,qK 20 5 19,qK 24 5 23,wQ 25 io 20 24,wE 26 25] 26 xH) (xT (wU 15) 16 15 5 16) [qc 4 wn])⟩
theorem zQ:al Tryz.prog di=some nS:=by kernel_rfl
def uv:FK:=⟨22,w8,yg [xI 2 3,wq 3 3 1,wz] [wR 5 2,qq 6 5,wR 7 3,qq 8 7,qb 9 (xD .neq 6 (.t 8))] 9 xH (w7 [xf 10 2,qq 11 10,xf 12 3,qq 13 12,wQ 14 gS 11 13,wE 15 14] 15 xH (wv [xn 16 2,qq 17 16,xn 18 3,qq 19 18,wQ 20 di 17 19,wE 21 20] (qU 21 xH) [qc 4 wn]))⟩
theorem DV:al Tryz.prog kR=some uv:=by kernel_rfl
def sD:FK:=⟨27,w8,yg xH [wl 6,qX 7 6,wI 8,qX 9 8,q6 10 .neq 7 9] 10 xH (xQ (xJ 5) 0 [wU 11,xX,qX 13 12,ww 14 11 13] 14 0 1 (xr [wl 17,wU 18,wd 19 3 17 18,wI 21,wU 22,wd 23 3 21 22,qK 20 3 19,qK 24 3 23,wQ 25 kR 20 24,wE 26 25] 26 xH) (xT (wU 15) 16 15 5 16) [qc 4 wn])⟩
theorem BP:al Tryz.prog mC=some sD:=by kernel_rfl
def lO:FK:=⟨11,w8,qd [xI 2 1,wq 3 1 1,wz] (wv [wR 5 2,qq 6 5,wR 7 3,qq 8 7,wQ 9 mC 6 8,wE 10 9] (qU 10 xH) [qc 4 wn])⟩
theorem tL:al Tryz.prog ie=some lO:=by kernel_rfl
def oC:FK:=⟨40,w8,qd [qc 4 xo] (xQ (xJ 5) 0 [wU 6,wl 7,qX 8 7,ww 9 6 8] 9 0 1 (qx [xX,wU 13,wd 14 5 12 13,wR 15 14,qq 16 15,wt 17 16 1] (xF 17 [wI 18,wl 19,wU 20,wd 21 5 19 20,xf 22 21,qq 23 22,wA 24 1 [wB] 1 [xB 0 23],qb 25 (xM 1 16 18 (.t 24)),qe 1 25]) (.reg [wl 26,wU 27,wd 28 5 26 27,qt 29 4 28,wl 31,wU 32,wd 33 5 31 32,yb 34 33,wI 36,qq 30 29,qq 35 34,wQ 37 ec 35 36,xm 29 30,wQ 38 ec 30 37,qe 1 38])) (xT (wU 10) 11 10 5 11) (wJ (wI 39) 4 39))⟩
theorem yW:al Tryz.prog ec=some oC:=by kernel_rfl
def pY:FK:=⟨55,wX 6,qL [xI 3 1,wy 6] [qK 12 1 3,wT 13 cX 12,qe 11 13,xc 14 0 11,xc 15 1 11,wg 7 yk,xx 7 14,qe 8 15] (w7 [ya 16,wE 17 16,qe 18 17,xb 19 18 1,wK 20 18 0 3,wG 21 18 20,qD 22 18 (qP 21),xE 23 18 .sub 22 w9,xN 24 18 (xV 19 wx 23),xL 25 18 24,xq 26 18 25] 26 (yc 6) (qd [wR 27 3,wI 29,wR 34 3,wI 36,qq 28 27,wd 30 3 28 29,xn 31 30,qq 32 31,qq 35 34,wd 37 3 35 36,xf 38 37,qq 39 38,wA 33 1 [wB] 0 [],xm 27 28,xm 31 32,xm 34 35,xm 38 39,qb 40 (xM 1 16 33 (.t 39)),xm 27 28,xm 31 32,wQ 41 ec 32 40,qe 9 41] (xQ (xJ 10) 0 [x8 42,qe 43 9,qX 44 43,ww 45 42 44] 45 0 1 (xr [qe 48 9,x8 49,wd 50 1 48 49,qq 51 50,qe 52 2,qb 53 (xD .eql 51 (.t 52))] 53 (wJ (x8 54) 6 54)) (xT (x8 46) 47 46 10 47) (yc 6))))⟩
theorem Aq:al Tryz.prog lu=some pY:=by kernel_rfl
def gE:FK:=⟨8,xl,qd [qc 2 xo] (wv [wl 3,qb 4 (.snil false (.t 3))] (qU 4 [qc 2 xo]) [wA 5 1 [wB] 0 [],wl 6,qb 7 (xM 1 16 5 (.t 6)),qe 2 7])⟩
theorem nC:al Tryz.prog dH=some gE:=by kernel_rfl
def fy:FK:=⟨13,[],qL [xI 3 5] [wR 5 3,qq 6 5,wt 7 6 1] (xF 7 [qq 8 2,xf 9 3,qq 10 9,wA 11 1 [wB] 1 [xB 0 10],qb 12 (xM 1 16 8 (.t 11)),xx 2 12])⟩
theorem uX:al Tryz.prog iW=some fy:=by kernel_rfl
def re:FK:=⟨44,wX 6,qL [xI 3 1,wy 6] [qK 11 1 3,wT 12 cV 11,qe 10 12,xc 13 0 10,xc 14 1 10,wg 7 yk,xx 7 13,qe 8 14] (w7 [ya 15,wE 16 15,qe 17 16,xb 18 17 1,wK 19 17 0 7,wG 20 17 19,qD 21 17 (qP 20),xE 22 17 .sub 21 w9,xd 23 17 cP (xV 18 wx 22),xL 24 17 23,xq 25 17 24] 25 (yc 6) (qL [wR 26 3,qq 27 26,wI 28,wd 29 3 27 28,xf 30 29,qq 31 30,wT 32 dH 31,wg 9 yk,xx 9 32] [wR 33 3,qq 34 33,wI 35,wd 36 3 34 35,xn 37 36,qq 38 37,qb 39 (xA iW (wS 9)),qp 40 cK (xV 38 w9 39)] (qw [qq 41 9,qe 42 2,wQ 43 cz 41 42,qe 6 43])))⟩
theorem Ad:al Tryz.prog lJ=some re:=by kernel_rfl
def iR:FK:=⟨38,wX 6,yg [xI 3 1,x9] [qe 11 2,qb 12 (.len true (.t 11)),qy 13 .gtr 12 1048576] 13 [qc 6 wn] (qL (x7 7 1048576) [qK 14 1 3,qe 15 7,wQ 16 ep 14 15,qe 7 16] (w7 [qe 17 7,xP 18 17 0] 18 [qc 6 wn] (qL [qK 19 1 3,wT 20 db 19,wI 21,qe 22 2,qp 23 lu (yp 20 21 22),qe 8 23] [qK 24 1 3,wT 25 db 24,wg 9 yk,xx 9 25] (yg [qK 26 1 9,wI 27,qe 28 2,qp 29 lJ (yp 26 27 28),qe 10 29] [x8 30,ya 31,q6 32 .neq 30 31] 32 [x9] (wv [qK 33 1 9,qK 34 1 3,wT 35 db 34,wM (some 1) 9 33,wQ 36 ie 33 35,wE 37 36] (qU 37 [x9]) [qc 6 wn])))))⟩
theorem oz:al Tryz.prog iQ=some iR:=by kernel_rfl
end Go.Proofs.YtghpabfdmbdpfaaGreatDoor
