/-
  Contracts and lemmas that the card needs, part 4.
-/
import Derived.Test.YtghpabfdmbdpfaaGreatDoorKc3
import Derived.Test.YtghpabfdmbdpfaaGreatDoorRows
namespace Go.Proofs.YtghpabfdmbdpfaaGreatDoor
open Go Go.Aw
set_option maxRecDepth 100000
abbrev me:FuncId:=35
abbrev aP:FuncId:=49
abbrev cP:FuncId:=41
abbrev dk:FuncId:=42
abbrev dy:FuncId:=124
abbrev bc:FuncId:=125
abbrev ip:FuncId:=108
abbrev gR:FuncId:=191
abbrev dP:FuncId:=171
abbrev eM:FuncId:=172
abbrev iD:FuncId:=173
abbrev iT:FuncId:=145
abbrev bh:FuncId:=107
abbrev gE:FuncId:=71
abbrev bt:FuncId:=27
abbrev lM:FuncId:=198
abbrev lI:FuncId:=192
abbrev oT:FuncId:=174
abbrev gD:FuncId:=193
abbrev oO:FuncId:=175
abbrev cN:FuncId:=146
abbrev jJ:FuncId:=194
abbrev jE:FuncId:=202
abbrev gk:FuncId:=199
abbrev ij:FuncId:=200
abbrev fy:FuncId:=195
abbrev jN:FuncId:=176
abbrev cu:FuncId:=147
abbrev rn:FuncId:=109
abbrev ft:FuncId:=148
abbrev oV:FuncId:=110
abbrev dF:FuncId:=72
abbrev dw:FuncId:=51
abbrev iw:FuncId:=83
abbrev ng:FuncId:=82
abbrev nj:FuncId:=59
abbrev jF:FuncId:=84
abbrev dU:FuncId:=61
abbrev nw:FuncId:=60
abbrev nr:FuncId:=34
abbrev kb:FuncId:=149
abbrev bL:FuncId:=150
abbrev dY:FuncId:=177
abbrev jK:FuncId:=178
abbrev eN:FuncId:=151
abbrev eV:FuncId:=180
abbrev cS:FuncId:=179
abbrev cD:FuncId:=152
abbrev mJ:FuncId:=111
abbrev fX:FuncId:=73
abbrev jD:FuncId:=52
abbrev kW:FuncId:=106
abbrev eY:FuncId:=144
abbrev fe:FuncId:=105
abbrev gC:FuncId:=70
abbrev gx:FuncId:=50
abbrev gd:FuncId:=24
abbrev ee:FuncId:=9
abbrev aS:FuncId:=25
abbrev fM:FuncId:=187
abbrev gb:FuncId:=160
abbrev eG:FuncId:=40
abbrev dx:FuncId:=162
abbrev dm:FuncId:=161
abbrev cM:FuncId:=126
abbrev dg:FuncId:=163
abbrev cy:FuncId:=127
abbrev cA:FuncId:=188
abbrev ca:FuncId:=164
abbrev gB:FuncId:=189
abbrev jC:FuncId:=141
abbrev lU:FuncId:=201
abbrev gy:FuncId:=197
abbrev fx:FuncId:=190
abbrev jM:FuncId:=166
abbrev cR:FuncId:=165
abbrev cU:FuncId:=129
abbrev fw:FuncId:=38
abbrev fv:FuncId:=167
abbrev lZ:FuncId:=130
abbrev bE:FuncId:=128
abbrev fY:FuncId:=85
abbrev cY:FuncId:=131
abbrev gv:FuncId:=132
abbrev jT:FuncId:=86
abbrev cH:FuncId:=87
abbrev bn:FuncId:=64
abbrev kX:FuncId:=168
abbrev bp:FuncId:=93
abbrev cd:FuncId:=169
abbrev dG:FuncId:=133
abbrev bP:FuncId:=88
abbrev gf:FuncId:=62
abbrev re:FuncId:=43
abbrev cx:FuncId:=45
abbrev jm:FuncId:=96
abbrev jP:FuncId:=97
abbrev eb:FuncId:=135
abbrev bB:FuncId:=98
abbrev cL:FuncId:=136
abbrev ck:FuncId:=100
abbrev gH:FuncId:=170
abbrev eI:FuncId:=143
abbrev iv:FuncId:=103
abbrev bZ:FuncId:=95
abbrev kG:FuncId:=99
abbrev kV:FuncId:=138
abbrev mw:FuncId:=140
abbrev ln:FuncId:=142
abbrev dI:FuncId:=137
abbrev lS:FuncId:=139
abbrev oF:FuncId:=102
abbrev ko:FuncId:=101
abbrev kx:FuncId:=104
abbrev na:FuncId:=69
abbrev jk:FuncId:=58
abbrev jr:FuncId:=48
abbrev eQ:FuncId:=63
abbrev ky:FuncId:=44
abbrev be:FuncId:=65
abbrev fI:FuncId:=67
abbrev ga:FuncId:=94
abbrev bl:FuncId:=92
abbrev eZ:FuncId:=68
abbrev eO:FuncId:=90
abbrev dW:FuncId:=134
abbrev bw:FuncId:=89
abbrev dM:FuncId:=91
abbrev bF:FuncId:=66
abbrev iO:FuncId:=47
abbrev da:FuncId:=46
abbrev dH:FuncId:=23
abbrev gF:FuncId:=10
abbrev mh:FuncId:=153
abbrev gi:FuncId:=112
abbrev cW:FuncId:=113
abbrev bR:FuncId:=117
abbrev cg:FuncId:=116
abbrev cQ:FuncId:=115
abbrev fz:FuncId:=183
abbrev jj:FuncId:=196
abbrev bC:FuncId:=182
abbrev iN:FuncId:=181
abbrev ie:FuncId:=154
abbrev bM:FuncId:=114
abbrev mE:FuncId:=74
abbrev jG:FuncId:=53
abbrev jI:FuncId:=120
abbrev iu:FuncId:=155
abbrev mY:FuncId:=156
abbrev oC:FuncId:=118
abbrev iz:FuncId:=119
abbrev lw:FuncId:=75
abbrev jz:FuncId:=54
abbrev dE:FuncId:=26
abbrev dX:FuncId:=11
abbrev jR:FuncId:=28
abbrev dt:FuncId:=12
abbrev jS:FuncId:=3
@[reducible] def qa(a:Nat)(b:Option (Nat × Bool))(c:AI):CO:=⟨some a,b,c⟩
@[reducible] def qb(a:Nat)(b:AI):CO:=qa a none b
@[reducible] def qc(a:Nat)(b:AOp):CO:=qb a (.mov b)
@[reducible] def qd(a:List CO)(b:AK):AK:= .seq (.reg a) b
@[reducible] def qe(a:IntKind)(b:Int):AV:= .p (.int a b)
@[reducible] def qf(a b:Nat):CO:=qc a (.t b)
@[reducible] def qg(a:Int):AV:=qe .i64 a
@[reducible] def qh(a b:Nat):AI:= .fldA a (.t b)
@[reducible] def qi(a:Int):AOp:= .c (qg a)
@[reducible] def qj(a:Option Nat)(b:Nat):AI:= .ld a (.t b)
@[reducible] def qk(a:Nat)(b:Nat × Bool)(c:AI):CO:=qa a (some b) c
@[reducible] def ql(a:BinOp)(b:Nat)(c:AOp):AI:= .bin a (.t b) c
@[reducible] def qm(a:Nat)(b:Option Nat)(c:Nat):CO:=qb a (qj b c)
@[reducible] def qn(a:Nat)(b:FuncId)(c:List AOp):CO:=qb a (.call b c)
@[reducible] def qo(a:Nat)(b c:AK):AK:= .cond (.t a) b c
@[reducible] def qp(a b c:Nat):CO:=qb a (qh b c)
@[reducible] def qq(a b:Nat):CO:=qm a none b
@[reducible] def qt(a:Bool):AV:= .p (.bool a)
@[reducible] def qu(a:Nat)(b:BinOp)(c:Nat)(d:AOp):CO:=qb a (ql b c d)
@[reducible] def qv(a:List UInt8):AV:= .p (.str a)
@[reducible] def qw(a:Nat)(b:BinOp)(c:Nat)(d:Int):CO:=qu a b c (qi d)
@[reducible] def qx(a:Option (Nat × Bool))(b:AI):CO:=⟨none,a,b⟩
@[reducible] def qy:AV:=qt false
@[reducible] def qz:AV:=qg 0
@[reducible] def qA(a:List CO):AK:=qd a .ret
@[reducible] def qB(a:Nat):AI:= .nilck (.t a)
@[reducible] def qC(a:List CO)(b c:AK):AK:= .seq (qd a b) c
@[reducible] def qD(a:AI):CO:=qx none a
@[reducible] def qF(a:AOp):AI:= .len false a
@[reducible] def qG(a b:Nat)(c:Bool)(d:AI):CO:=qk a (b,c) d
@[reducible] def qH(a b:Nat)(c:AI):CO:=qG a b false c
@[reducible] def qI(a b:Nat)(c:AI):CO:=qG a b true c
@[reducible] def qJ(a b c:Nat):CO:=qm a (some b) c
@[reducible] def qK(a:Nat)(b c:AOp):CO:=qD (.st a b c)
@[reducible] def qL(a:Nat)(b:Int):CO:=qc a (qi b)
@[reducible] def qM(a:Nat)(b c:AOp):AI:= .pick (.t a) b c
@[reducible] def qN:AV:=qv []
@[reducible] def qO(a b:Nat)(c:AOp):AI:= .idxS a (.t b) c
@[reducible] def qP:AOp:= .c qy
@[reducible] def qQ(a b:Nat)(c:AOp):CO:=qK a (.t b) c
@[reducible] def qR(a b c:Nat):CO:=qQ a b (.t c)
@[reducible] def qS(a:Nat)(b:AK):AK:=qo a b .skip
@[reducible] def qT(a b:Nat)(c:List AV)(d:Nat)(e:List (Nat × Nat × AOp)):CO:=qb a (.bsl b c d e)
@[reducible] def qU(a b:List CO)(c:AK):AK:=qd a (qd b c)
@[reducible] def qV(a:Nat)(b:AK):AK:= .blk a (.loop b)
@[reducible] def qW(a:Nat)(b:List AV):CO:=qb a (.alloc b)
@[reducible] def qX(a:Nat):AI:=qF (.t a)
@[reducible] def qY(a:Nat)(b c:AK):AK:= .seq (.blk a b) c
@[reducible] def qZ(a b:Nat):CO:=qb a (qB b)
@[reducible] def q6(a:Nat):CO:=qf a 0
@[reducible] def q7(a:Nat)(b:AK)(c:Nat):AK:=qo a b (.exit c)
@[reducible] def q8(a b:Nat):CO:=qb a (qX b)
@[reducible] def q9(a:Nat):AI:=qj none a
@[reducible] def wa:AV:=qt true
@[reducible] def wb(a:Nat):AI:= .not (.t a)
@[reducible] def wd(a b:Nat)(c:Int):CO:=qw a .eql b c
@[reducible] def we(a b:Nat):AI:= .box a (.t b)
@[reducible] def wg(a:Nat)(b:BinOp)(c d:Nat):CO:=qu a b c (.t d)
@[reducible] def wh(a:Nat):AI:= .mov (.t a)
@[reducible] def wj(a b:Nat)(c d:AOp):CO:=qb a (qM b c d)
@[reducible] def wl(a b c:Nat)(d:AOp):CO:=qb a (qO b c d)
@[reducible] def wm(a:Nat)(b:AK)(c:List CO):AK:=qY a b (.reg c)
@[reducible] def wn(a:Nat)(b:List CO):AK:=qS a (qA b)
@[reducible] def wo(a:Option Nat)(b c:Nat):CO:=qD (.chk a b c)
@[reducible] def wq(a b:Nat)(c:Int):CO:=qw a .add b c
@[reducible] def ws(a b c d:Nat):CO:=wl a b c (.t d)
@[reducible] def wt(a:Nat)(b:List AV)(c:List (Nat × Nat × AOp)):CO:=qb a (.bld b c)
@[reducible] def wu(a b:Nat):AK:=q7 a .skip b
@[reducible] def wv:AOp:= .c wa
@[reducible] def ww:AOp:=qi 0
@[reducible] def wx(a b c:Nat):CO:=qb a (we b c)
@[reducible] def wy(a b c:Nat):Nat × Nat × AOp:=(a,b,.t c)
@[reducible] def wz(a:Nat):CO:=qc a qP
@[reducible] def wA(a:Nat)(b:AOp):List AOp:=[.t a,b]
@[reducible] def wB(a:Nat)(b:FuncId)(c:Nat)(d:AOp):CO:=qn a b (wA c d)
@[reducible] def wD(a:Nat)(b:FuncId)(c d:Nat):CO:=wB a b c (.t d)
@[reducible] def wE(a:List CO)(b:AK)(c:List CO):AK:=qC a b (qA c)
@[reducible] def wF(a b c:Nat):CO:=wg a .lss b c
@[reducible] def wG(a:Nat)(b:AK)(c:List CO)(d:AK):AK:=qo a b (qd c d)
@[reducible] def wH(a b c:Nat)(d:AOp):AI:= .app a b (.t c) d
@[reducible] def wI(a b:Nat):CO:=wo none a b
@[reducible] def wJ(a b:Nat):AI:= .ext a (.t b)
@[reducible] def wK(a:Nat):CO:=qL a 0
@[reducible] def wL(a b:Nat)(c:AOp)(d:Nat):CO:=wj a b c (.t d)
@[reducible] def wM(a:CO)(b c:Nat):List CO:=[a,qf b c]
@[reducible] def wN(a b:Nat)(c:Int)(d e:Nat):List CO:=wM (wd a b c) d e
@[reducible] def wP:AOp:=qi 1
@[reducible] def wQ(a b c:Nat):CO:=qI a b (q9 c)
@[reducible] def wR(a b:Nat):CO:=qp a 0 b
@[reducible] def wS(a b c:Nat):CO:=qH a b (q9 c)
@[reducible] def wT(a b c d:Nat):CO:=qI a b (qh c d)
@[reducible] def wU(a b c d:Nat):CO:=qH a b (qh c d)
@[reducible] def wV(a:List UInt8):AOp:= .c (qv a)
@[reducible] def wW(a:Nat):List AOp:=[.t a]
@[reducible] def wX(a:Nat)(b:FuncId)(c:Nat):CO:=qn a b (wW c)
@[reducible] def wY(a b:Nat):Nat × Nat × AOp:=wy a 1 b
@[reducible] def wZ(a b:Nat)(c:AOp):CO:=wB a aP b c
@[reducible] def xa(a b:List CO):AK:=qd a (qA b)
@[reducible] def xb(a b:Nat):CO:=qb a (wb b)
@[reducible] def xc(a b c:Nat):CO:=qH a b (wh c)
@[reducible] def xd(a:Nat):CO:=qf a 5
@[reducible] def xe(a:Nat)(b:List CO)(c d:AK):AK:=qV a (qC b c d)
@[reducible] def xf(a:Nat)(b:List CO)(c d:Nat)(e:AK):AK:=xe a b (wu c d) e
@[reducible] def xg(a b:Nat)(c:FuncId)(d:List AOp):CO:=qH a b (.call c d)
@[reducible] def xh(a b:Nat):CO:=qp a 2 b
@[reducible] def xi(a b c d:Nat):AI:=wH a b c (.t d)
@[reducible] def xj(a b c:Nat)(d:AOp):CO:=wj a b (.t c) d
@[reducible] def xk(a:Nat):List RV:=[.t a]
@[reducible] def xl(a b c:Nat):CO:=wD a cP b c
@[reducible] def xm(a:Nat)(b:List CO)(c d e:Nat)(f:AK)(g:List CO):AK:=xf a b c d (wm e f g)
@[reducible] def xn(a b c:Nat):CO:=qb a (wJ b c)
@[reducible] def xo(a b c d e:Nat):CO:=qb a (xi b c d e)
@[reducible] def xp(a b:Nat)(c:BinOp)(d:Nat)(e:AOp):CO:=qI a b (ql c d e)
@[reducible] def xq(a:Nat):CO:=qf a 1
@[reducible] def xr(a b:Nat):CO:=qR 1 a b
@[reducible] def xt:CO:=wz 4
@[reducible] def xu(a:List CO)(b c:AK):AK:=qd a (.seq b c)
@[reducible] def xv:List RV:=xk 4
@[reducible] def xw(a b:Nat)(c:Int):CO:=qw a .sub b c
@[reducible] def xx(a:Nat)(b:List AOp):CO:=qn a cQ b
@[reducible] def xy(a b:Nat):CO:=qp a 1 b
@[reducible] def xz(a b:Nat):CO:=wq a b 1
@[reducible] def xA(a b c:Nat):CO:=wL a b wv c
@[reducible] def xB:AOp:= .c .nils
@[reducible] def xC(a:List CO)(b c:AK):AK:= .cut (qd a b) c
@[reducible] def xD:List RV:=xk 2
@[reducible] def xE(a:Nat)(b:AK)(c d:Nat)(e:Int)(f g:Nat)(h:AK):AK:=wG a b (wN c d e f g) h
@[reducible] def xF(a:Nat)(b:List CO):AK:=qS a (.reg b)
@[reducible] def xG(a:Nat):List CO:=[wK a]
@[reducible] def xH(a:Nat)(b:List AOp):CO:=qn a fI b
@[reducible] def xI(a b:List CO)(c:AK)(d:List CO):AK:=qd a (wE b c d)
@[reducible] def xJ:AOp:=qi 2
@[reducible] def xK(a b:Nat)(c:List AV)(d:Nat)(e:List (Nat × Nat × AOp)):CO:=qb a (.bslP b c d e)
@[reducible] def xL:List AV:=[.nils]
@[reducible] def xM(a b:Nat)(c:BinOp)(d:Nat)(e:AOp):CO:=qH a b (ql c d e)
@[reducible] def xN(a b:Nat):CO:=wX a cW b
@[reducible] def xO(a:Nat)(b:List AOp):CO:=qn a bR b
@[reducible] def xP:AOp:=qi 3
@[reducible] def xQ(a b:CO)(c d:Nat):List CO:=[a,b,qf c d]
@[reducible] def xR(a:Nat)(b:List CO)(c d e:Nat)(f:AK)(g h:CO)(i j:Nat):AK:=xm a b c d e f (xQ g h i j)
@[reducible] def xS(a:Nat)(b:List CO)(c d e:Nat)(f:AK)(g:CO)(h i j k:Nat):AK:=xR a b c d e f g (xz h i) j k
@[reducible] def xT(a b:Nat):RV:= .c a (some b)
@[reducible] def xU(a b c:Nat):CO:=wD a dk b c
@[reducible] def xV(a:Nat):CO:=qf a 4
@[reducible] def xW(a b:List CO)(c d:AK):AK:=qd a (qC b c d)
@[reducible] def xX(a:Nat)(b:List AOp):CO:=qn a eZ b
@[reducible] def xY(a b c:Nat):CO:=qI a b (wh c)
@[reducible] def xZ(a b c:Nat):CO:=xj a b c qP
@[reducible] def x7(a:Nat):CO:=qf a 6
@[reducible] def x8(a:Nat)(b c:AOp):List AOp:=[.t a,b,c]
@[reducible] def x9(a:Nat)(b:FuncId)(c:Nat)(d e:AOp):CO:=qn a b (x8 c d e)
@[reducible] def ya(a:Nat)(b:FuncId)(c:Nat)(d:AOp)(e:Nat):CO:=x9 a b c d (.t e)
@[reducible] def yb(a b:Nat)(c:List AOp):CO:=xg a b bt c
@[reducible] def yc(a:Nat)(b:List CO)(c d:AK):AK:=qV a (xu b c d)
@[reducible] def ye:CO:=wz 2
@[reducible] def yf(a b c:Nat):CO:=qH a b (wb c)
@[reducible] def yg(a b c d:Nat):List CO:=wM (xz a b) c d
@[reducible] def yh(a b:Nat):CO:=wX a cg b
@[reducible] def yi(a:Nat):CO:=qf a 7
@[reducible] def yj(a:Nat)(b:List CO)(c d:Nat)(e:AK):AK:=yc a b (wu c d) e
@[reducible] def yk(a:FuncId)(b:List AOp):AI:= .mkf (.func a) b
@[reducible] def yl(a b:Nat):CO:=qp a 3 b
@[reducible] def ym(a b:List CO):AK:=qd a (.reg b)
@[reducible] def yn(a:Nat)(b:List AOp):AI:= .callv (.t a) b
@[reducible] def yp:List AV:=[qz]
@[reducible] def yq(a b:Nat)(c:FuncId)(d:List AOp):CO:=qI a b (.call c d)
@[reducible] def yr(a:Nat):Nat × Nat × AOp:=wY 0 a
@[reducible] def yt(a:Nat)(b:AK)(c d e f:Nat):AK:=wm a b (yg c d e f)
@[reducible] def yu(a b c:Nat)(d:List (Nat × Nat × AOp)):CO:=qT a b yp c d
@[reducible] def yv(a b:Nat):Nat × Nat × AOp:=wy 0 a b
@[reducible] def yw(a b:Nat)(c:AOp):CO:=wB a ip b c
@[reducible] def yx(a:Nat):CO:=qf a 3
@[reducible] def yy(a b:Nat):CO:=qJ a 4 b
@[reducible] def yz(a:Nat)(b:CO):AK:=wn a [b]
@[reducible] def yA(a b:Nat):CO:=wx a b 0
@[reducible] def yB(a:BinOp)(b:Nat)(c:AOp):AI:= .bins a (.t b) c
@[reducible] def yE(a b:Nat)(c:AOp):CO:=wB a cH b c
@[reducible] def yF(a:Nat):CO:=qf a 8
@[reducible] def yG(a b:Nat)(c:Int):Nat × Nat × AOp:=(a,b,qi c)
@[reducible] def yH(a:Nat)(b:Int):Nat × Nat × AOp:=yG a 1 b
@[reducible] def yI(a b:AV):List AV:=[a,b,.nils]
@[reducible] def yJ(a:AV):List AV:=yI a .nils
@[reducible] def yK:List AV:=yJ qN
@[reducible] def yM:List CO:=xG 4
@[reducible] def yN(a b:Nat):List (Nat × Nat × AOp):=[yv a b]
@[reducible] def yO(a b:Nat)(c:List AV)(d e f:Nat):CO:=qT a b c d (yN e f)
@[reducible] def yP:CO:=q6 12
@[reducible] def yQ(a:Nat):CO:=qf a 10
@[reducible] def yR(a:Nat)(b:List CO)(c:AK):AK:= .blk a (qd b c)
@[reducible] def yS:CO:=wz 6
@[reducible] def yT(a:Nat)(b:List CO)(c d e:Nat)(f:AK)(g h i j:Nat):AK:=yj a b c d (yt e f g h i j)
def rf:FK:=⟨11,xD,xI [qc 2 (.c .nilp)] [q6 3,q8 4 3,qw 5 .gtr 4 2000] (xF 5 (xQ (q6 6) (qb 7 (.slS 1 (.t 6) none (some (qi 2000)))) 0 7)) [q6 8,wt 9 [.nils,qz] [yr 8],wx 10 2 9,yQ 2]⟩
theorem Cn:am Tryz.prog me=some rf:=by kernel_rfl
def eL:FK:=⟨99,xv,qU yM [q6 7,q6 8,qZ 9 8,xy 10 9,qq 11 10,xz 12 11,qZ 13 7,xy 14 13,xr 14 12] (qC [xq 15,qw 16 .lss 15 1,qf 17 16,xc 18 17 0,qH 19 17 (qB 18),wU 20 17 0 19,wS 21 17 20,qH 22 17 (qX 21),xM 23 17 .eql 22 ww,xA 24 17 23] (wn 24 yM) (xW [q6 25,qZ 26 25,xy 27 26,qq 28 27,xw 29 28 1,qf 5 29] [xd 30,q6 31,qZ 32 31,wR 33 32,qq 34 33,q8 35 34,wF 36 30 35] (wn 36 [q6 37,qZ 38 37,wR 39 38,qq 40 39,xd 41,ws 42 1 40 41,qq 43 42,qb 44 (.conv .i64 (.t 43)),xq 45,wg 46 .rem 44 45,qf 4 46]) (qU [q6 47,qZ 48 47,wR 49 48,xd 51,q6 52,qZ 53 52,wR 54 53,q6 62,qZ 63 62,wR 64 63,xd 66,qw 67 .mul 66 7,wq 68 67 3,q6 69,qZ 70 69,wR 71 70,xd 80,qw 81 .mul 80 29,xd 83,q6 84,qZ 85 84,wR 86 85,qq 50 49,qq 55 54,q8 56 55,wg 57 .rem 51 56,ws 58 1 50 57,qq 59 58,qb 60 (.conv .i64 (.t 59)),qw 61 .mul 60 131,qq 65 64,qq 72 71,q8 73 72,wg 74 .rem 68 73,ws 75 1 65 74,qq 76 75,qb 77 (.conv .i64 (.t 76)),qw 78 .mul 77 1117,wg 79 .add 61 78,wg 82 .add 79 81,qq 87 86,q8 88 87,wg 89 .quo 83 88,qw 90 .mul 89 53,wg 91 .add 82 90,qf 6 91] [x7 92,x7 93,qw 94 .quo 93 64,wg 95 .xor 92 94,qf 6 95] (qA [x7 96,xq 97,wg 98 .rem 96 97,qf 4 98]))))⟩
theorem uq:am Tryz.prog aP=some eL:=by kernel_rfl
def jw:FK:=⟨12,xv,xa yM [xq 5,q6 6,xq 7,q8 8 7,wD 9 aP 6 8,ws 10 1 5 9,qq 11 10,qf 4 11]⟩
theorem nF:am Tryz.prog cP=some jw:=by kernel_rfl
def kr:FK:=⟨12,xv,xa [qc 4 (.c qN)] [xq 5,q6 6,xq 7,q8 8 7,wD 9 aP 6 8,ws 10 1 5 9,qq 11 10,qf 4 11]⟩
theorem pm:am Tryz.prog dk=some kr:=by kernel_rfl
def gt:FK:=⟨21,[xT 4 4],xI [qW 4 [qz,qz,qN,.nils]] [xq 5,q8 6 5,wd 7 6 0,yi 8,xc 9 8 0,xg 10 8 aP (wA 9 xP),xM 11 8 .eql 10 ww,xA 12 8 11] (wn 12 [q6 13,yu 14 1 10 [(0,1,ww),(1,1,wP),(2,1,xJ),(3,1,xP),yH 4 5,yH 5 7,yH 6 15,yH 7 16,yH 8 100,yH 9 255],xl 15 13 14,wt 16 [qz,qz,qN,.nils] [(0,1,wP),wY 1 15],qR 4 4 16]) [q6 17,xq 18,xU 19 17 18,wt 20 [qz,qz,qN,.nils] [(0,1,xJ),wY 2 19],qR 4 4 20]⟩
theorem sF:am Tryz.prog dy=some gt:=by kernel_rfl
def eB:FK:=⟨47,[xT 6 4],xW [qW 6 [qz,qz,qN,.nils]] [qf 8 2,qw 9 .lss 8 2,qf 10 9,xc 11 10 0,xg 12 10 aP (wA 11 (qi 4)),xM 13 10 .eql 12 ww,xA 14 10 13] (wn 14 [q6 15,xq 16,wD 17 dy 15 16,qR 4 6 17]) (qC [q6 18,wZ 19 18 (qi 7),wd 20 19 0] (wn 20 [q6 21,yu 22 1 3 [yH 0 11,yH 1 12,yH 2 11],xl 23 21 22,q6 24,xq 25,qf 26 2,xw 27 26 1,ya 28 bc 24 (.t 25) 27,yO 29 4 [qz,qz,qN,.nils] 1 4 28,wt 30 [qz,qz,qN,.nils] [yr 23,wY 3 29],qR 4 6 30]) (xa [q6 31,yu 32 1 9 [(0,1,xP),(1,1,xP),yH 2 4,yH 3 5,yH 4 6,yH 5 7,yH 6 8,yH 7 9,yH 8 10],xl 33 31 32,qf 7 33] [yi 34,q6 35,xq 36,qf 37 2,xw 38 37 1,ya 39 bc 35 (.t 36) 38,q6 40,xq 41,qf 42 2,xw 43 42 1,ya 44 bc 40 (.t 41) 43,qT 45 4 [qz,qz,qN,.nils] 2 [yv 4 39,wy 4 4 44],wt 46 [qz,qz,qN,.nils] [yr 34,wY 3 45],qR 4 6 46]))⟩
theorem no:am Tryz.prog bc=some eB:=by kernel_rfl
def mP:FK:=⟨99,[xT 4 4],qU [qW 4 [qz,qz,qN,.nils]] [qc 5 (.c .any),q6 9,qZ 10 9,wR 11 10,q6 13,qZ 14 13,xh 15 14,xq 17,qq 12 11,qq 16 15,ya 18 bc 12 (.t 16) 17,qW 5 [qz,qz,qN,.nils],qR 4 5 18] (qC [q6 19,qZ 20 19,xy 21 20,qq 22 21,q8 23 22,wd 24 23 0,qf 25 24,xc 26 25 0,qH 27 25 (qB 26),wU 28 25 0 27,wS 29 25 28,xg 30 25 aP (wA 29 (qi 4)),xM 31 25 .gtr 30 ww,xA 32 25 31] (wn 32 [yy 33 5,qR 4 4 33]) (qU [qc 6 (.c .any),q6 34,qZ 35 34,xy 36 35,q6 38,qZ 39 38,wR 40 39,q6 42,qZ 43 42,xy 44 43,qq 37 36,qq 41 40,qq 45 44,q8 46 45,wD 47 aP 41 46,wI 36 37,ws 48 3 37 47,qJ 49 3 48,qW 6 yK,qR 3 6 49] [wR 50 6,qq 51 50,wt 52 [qz,qz,qN,.nils] [yH 0 13,wY 2 51],qW 7 [qz,qz,qN,.nils],qR 4 7 52] (qC (xG 8) (xS 0 [yF 53,xy 54 6,qq 55 54,q8 56 55,wF 57 53 56] 57 0 1 (.reg [yl 60 7,q6 62,qZ 63 62,wR 64 63,q6 66,qZ 67 66,xh 68 67,qq 61 60,qq 65 64,qq 69 68,x9 70 bc 65 (.t 69) xJ,wI 60 61,xK 71 4 [qz,qz,qN,.nils] 1 (yN 4 70),xo 72 4 56 61 71,yl 73 7,xr 73 72]) (yF 58) 59 58 8 59) (wE [q6 74,qZ 75 74,wR 76 75,qq 77 76,wZ 78 77 xJ,wd 79 78 0] (wn 79 [yy 80 7,qR 4 4 80]) [q6 81,qZ 82 81,wR 83 82,xK 85 1 yp 4 [(0,1,xP),yH 1 4,yH 2 8,yH 3 10],q6 88,qZ 89 88,wR 90 89,q6 92,qZ 93 92,xh 94 93,qq 84 83,yy 87 7,qq 91 90,qq 95 94,xl 86 84 85,wo (some 4) 7 87,wI 90 91,wI 94 95,x9 96 bc 91 (.t 95) xJ,wo (some 4) 7 87,qT 97 4 [qz,qz,qN,.nils] 2 [yv 4 87,wy 4 4 96],wt 98 [qz,qz,qN,.nils] [yr 86,wY 3 97],qR 4 4 98]))))⟩
theorem uw:am Tryz.prog ip=some mP:=by kernel_rfl
def lX:FK:=⟨46,xD,qU [qc 2 (.c qN)] [q6 3,q6 4,qZ 5 4,yl 6 5,qq 7 6,xz 8 7,qZ 9 3,yl 10 9,xr 10 8] (wE [q6 11,qZ 12 11,wR 13 12,qq 14 13,wZ 15 14 (qi 9),wd 16 15 0,qf 17 16,xY 18 17 0,qI 19 17 (qB 18),wT 20 17 2 19,wQ 21 17 20,qI 22 17 (qX 21),xp 23 17 .gtr 22 ww,xZ 24 17 23] (wn 24 [q6 25,qZ 26 25,wR 27 26,q6 29,qZ 30 29,xh 31 30,qq 28 27,qq 32 31,xU 33 28 32,qf 2 33]) [q6 34,qZ 35 34,yl 36 35,q6 39,qZ 40 39,yl 41 40,qq 37 36,qw 38 .rem 37 24,qq 42 41,qw 43 .rem 42 24,xz 44 43,qb 45 (.slStr (wV [97,98,99,100,101,103,104,105,106,107,108,109,110,112,113,114,115,116,117,118,119,120,121,122]) (some (.t 38)) (some (.t 44))),qf 2 45])⟩
theorem tk:am Tryz.prog gR=some lX:=by kernel_rfl
def jg:FK:=⟨24,[xT 4 5],qU [wx 3 4 1,qW 4 [qz,qN,.nils,.nils,.nils]] (xQ (q6 6) (wX 7 gR 6) 5 7) (xa [q6 8,qT 9 1 [qN] 0 [],q6 10,qZ 11 10,xh 12 11,qq 13 12,xo 14 1 16 9 13,xd 15,qT 16 1 [qN] 1 [yr 15],xo 17 1 16 14 16,qZ 18 8,xh 19 18,xr 19 17] [xd 20,yy 21 3,yO 22 4 [qz,qz,qN,.nils] 1 4 21,wt 23 [qz,qN,.nils,.nils,.nils] [(0,1,wP),wY 1 20,wY 2 22],qR 5 4 23])⟩
theorem nT:am Tryz.prog dP=some jg:=by kernel_rfl
def mN:FK:=⟨14,[xT 2 4],xa [qW 2 [qz,qz,qN,.nils]] [q6 3,q6 5,qZ 6 5,wR 7 6,xK 9 1 yp 6 [yH 0 16,yH 1 16,yH 2 16,yH 3 8,yH 4 17,(5,1,ww)],qq 8 7,yw 4 3 xJ,wI 7 8,xl 10 8 9,wt 11 [qz,qz,qN,.nils] [(0,1,wP),wY 1 10],qT 12 4 [qz,qz,qN,.nils] 2 [yv 4 4,wy 4 4 11],wt 13 [qz,qz,qN,.nils] [yH 0 7,wY 3 12],qR 4 2 13]⟩
theorem uZ:am Tryz.prog eM=some mN:=by kernel_rfl
def iP:AK:=qU [qc 4 xB] [q6 9,q6 10,qZ 11 10,wR 12 11,qq 13 12,yu 14 1 5 [(0,1,xJ),(1,1,xP),(2,1,wP),(3,1,ww),yH 4 5],xl 15 13 14,wt 16 [qz,qz,qN,.nils] [(0,1,wP),wY 1 15],wD 17 dP 9 16,qW 5 [qz,qN,.nils,.nils,.nils],qR 5 5 17] (qU [xy 18 5,qq 19 18,wt 20 [qz,qz,qN,.nils] [(0,1,xJ),wY 2 19],qW 6 [qz,qz,qN,.nils],qR 4 6 20] [q6 21,xq 22,xw 23 22 1,wD 24 bh 21 23,qf 7 24] (qd [xy 25 5,qq 26 25,yy 27 6,wt 28 [qz,qz,qN,.nils] [(0,1,wP),(1,1,wP)],qT 29 4 [qz,qz,qN,.nils] 2 [yv 4 27,wy 4 4 28],wt 30 [qz,qz,qN,.nils] [yH 0 4,wY 3 29],yO 31 4 [qz,qz,qN,.nils] 1 4 30,wt 32 [qz,qN,.nils,.nils,.nils] [(0,1,xJ),wY 1 26,wY 2 31],qW 8 [qz,qN,.nils,.nils,.nils],qR 5 8 32] (.cut (.reg [q6 33,q6 34,qZ 35 34,qp 36 4 35,qq 37 36,xw 38 37 2,qZ 39 33,qp 40 4 39,xr 40 38]) (qA [yi 44,qJ 41 5 5,yy 42 6,xK 43 4 [qz,qz,qN,.nils] 1 (yN 4 42),qJ 45 5 8,xK 46 5 [qz,qN,.nils,.nils,.nils] 1 (yN 5 45),xo 47 5 96 44 46,wo (some 5) 5 41,wo (some 4) 6 42,wt 48 [qz,qN,.nils,.nils,.nils] [yH 0 6,wY 2 43,wY 3 47],qT 49 5 [qz,qN,.nils,.nils,.nils] 2 [yv 5 41,wy 5 5 48],qf 4 49]))))
def iS:FK:=⟨50,xv,(AK.whole iP)⟩
theorem uC:am Tryz.prog iD=some iS:=by kernel_rfl
def mR:FK:=⟨128,xv,qU [qc 4 xB] [q6 7,q6 8,qZ 9 8,qp 10 4 9,qq 11 10,xw 12 11 1,qZ 13 7,qp 14 4 13,xr 14 12] (qd [q6 15,qZ 16 15,wR 17 16,qq 18 17,wZ 19 18 (qi 13),qf 5 19] (qY 0 (qd [xd 21,qw 22 .lss 21 3,qf 23 22,xY 24 23 0,qI 25 23 (qB 24),wT 26 23 2 25,wQ 27 23 26,qI 28 23 (qX 27),xp 29 23 .gtr 28 ww,xZ 30 23 29,qf 20 30] (wG 20 (qA [q6 31,qZ 32 31,wR 33 32,q6 35,qZ 36 35,xh 37 36,q6 40,qq 34 33,qq 38 37,xU 39 34 38,yw 41 40 xP,yO 42 4 [qz,qz,qN,.nils] 1 4 41,wt 43 [qz,qN,.nils,.nils,.nils] [(0,1,xJ),wY 1 39,wY 2 42],yO 44 5 [qz,qN,.nils,.nils,.nils] 1 5 43,qf 4 44]) (xQ (xd 46) (qw 47 .lss 46 5) 45 47) (wG 45 (qA [q6 48,q6 49,yw 50 49 xP,wD 51 dP 48 50,yO 52 5 [qz,qN,.nils,.nils,.nils] 1 5 51,qf 4 52]) [xd 54,qw 55 .lss 54 7,qf 56 55,xc 57 56 1,xM 58 56 .lss 57 xJ,xA 59 56 58,qf 53 59] (wG 53 (qA [q6 60,yw 61 60 xP,yO 62 4 [qz,qz,qN,.nils] 1 4 61,wt 63 [qz,qN,.nils,.nils,.nils] [(0,1,xP),wY 2 62],yO 64 5 [qz,qN,.nils,.nils,.nils] 1 5 63,qf 4 64]) (xQ (xd 66) (wd 67 66 7) 65 67) (wG 65 (qA [q6 68,wX 69 eM 68,q6 70,yw 71 70 xJ,qT 72 4 [qz,qz,qN,.nils] 2 [yv 4 69,wy 4 4 71],wt 73 [qz,qN,.nils,.nils,.nils] [yH 0 4,wY 2 72],yO 74 5 [qz,qN,.nils,.nils,.nils] 1 5 73,qf 4 74]) (xQ (xd 76) (wd 77 76 8) 75 77) (wG 75 (qA [q6 78,wX 79 eM 78,yO 80 4 [qz,qz,qN,.nils] 1 4 79,wt 81 [qz,qz,qN,.nils] [yH 0 12,wY 3 80],yO 82 4 [qz,qz,qN,.nils] 1 4 81,wt 83 [qz,qN,.nils,.nils,.nils] [(0,1,xP),wY 2 82],yO 84 5 [qz,qN,.nils,.nils,.nils] 1 5 83,qf 4 84]) (xQ (xd 86) (qw 87 .lss 86 11) 85 87) (wG 85 (xI [q6 88,yw 89 88 xP,yO 90 4 [qz,qz,qN,.nils] 1 4 89,q6 91,xq 92,xw 93 92 1,wD 94 bh 91 93,wt 95 [qz,qN,.nils,.nils,.nils] [yH 0 5,wY 2 90,wY 3 94],qW 6 [qz,qN,.nils,.nils,.nils],qR 5 6 95] [q6 96,qZ 97 96,wR 98 97,qq 99 98,wZ 100 99 xJ,wd 101 100 0] (xF 101 [q6 102,xq 103,xw 104 103 1,wD 105 bh 102 104,qp 106 4 6,xr 106 105]) (xQ (qJ 107 5 6) (yO 108 5 [qz,qN,.nils,.nils,.nils] 1 5 107) 4 108)) [xd 110,wd 111 110 11,qf 112 111,xY 113 112 0,qI 114 112 (qB 113),wT 115 112 0 114,wQ 116 112 115,yq 117 112 aP (wA 116 xP),xp 118 112 .eql 117 ww,xZ 119 112 118,qf 109 119] (wn 109 [q6 120,yw 121 120 xJ,yO 122 4 [qz,qz,qN,.nils] 1 4 121,wt 123 [qz,qN,.nils,.nils,.nils] [yH 0 7,wY 2 122],yO 124 5 [qz,qN,.nils,.nils,.nils] 1 5 123,qf 4 124])))))))) (qA [q6 125,xq 126,wD 127 iD 125 126,qf 4 127])))⟩
theorem ua:am Tryz.prog iT=some mR:=by kernel_rfl
def lO:FK:=⟨40,xv,qU [qc 4 xB] [q6 8,qZ 9 8,xh 10 9,qq 11 10,qf 5 11] (xW (wM (qT 12 5 [qz,qN,.nils,.nils,.nils] 0 []) 6 12) [q6 13,qZ 14 13,wR 15 14,qq 16 15,yu 17 1 4 [(0,1,xJ),(1,1,xP),(2,1,wP),yH 3 4],xl 18 16 17,qf 7 18] (xR 0 [yi 19,qw 20 .gtr 19 0,qf 21 20,xY 22 21 0,qI 23 21 (qB 22),wT 24 21 4 23,wQ 25 21 24,xp 26 21 .gtr 25 ww,xZ 27 21 26] 27 0 1 (.reg [x7 30,q6 31,xq 32,wD 33 iT 31 32,xo 34 5 96 30 33,qf 6 34]) (yi 28) (xw 29 28 1) 7 29) (xa [q6 35,xd 36,qZ 37 35,xh 38 37,xr 38 36] (wM (x7 39) 4 39)))⟩
theorem tP:am Tryz.prog bh=some lO:=by kernel_rfl
def kw:AK:=qU [qW 6 yK] [q6 8,qT 9 1 [qN] 3 [(0,1,wV [97]),(1,1,wV [98]),(2,1,wV [99])],qf 10 2,qb 11 (.slS 1 (.t 9) none (some (.t 10))),qZ 12 8,xh 13 12,xr 13 11] (qd [q6 14,qf 15 2,xw 16 15 1,qZ 17 14,yl 18 17,xr 18 16] (.cut (.reg [xq 19,qT 20 1 [qN] 0 [],q6 21,qZ 22 21,xh 23 22,qq 24 23,xo 25 1 16 20 24,wt 26 yK [yr 19,wY 1 25],qW 7 yK,qR 3 7 26]) (xI [q6 27,wB 28 bh 27 xP,xh 29 7,xr 29 28] [q6 30,qZ 31 30,qp 32 4 31,qq 33 32,qw 34 .gtr 33 0,qf 35 34,xY 36 35 0,qI 37 35 (qB 36),wT 38 35 0 37,wQ 39 35 38,yq 40 35 aP (wA 39 (qi 4)),xp 41 35 .gtr 40 ww,xZ 42 35 41] (qS 42 (ym [q6 43,q6 44,qZ 45 44,qp 46 4 45,qq 47 46,xw 48 47 1,qZ 49 43,qp 50 4 49,xr 50 48] [xh 51 7,q6 53,qq 52 51,yw 54 53 xJ,wI 51 52,xK 55 4 [qz,qz,qN,.nils] 1 (yN 4 54),wt 56 [qz,qN,.nils,.nils,.nils] [yH 0 7,wY 2 55],xK 57 5 [qz,qN,.nils,.nils,.nils] 1 (yN 5 56),xo 58 5 96 52 57,xh 59 7,xr 59 58])) [qJ 60 3 7,qR 3 6 60])))
def kD:FK:=⟨61,[xT 6 3],(AK.whole kw)⟩
theorem zG:am Tryz.prog gE=some kD:=by kernel_rfl
def pG:FK:=⟨15,xk 6,xa [yS] [q6 7,xq 8,wg 9 .geq 7 8,qf 10 9,xY 11 10 0,xY 12 10 2,xp 13 10 .leq 11 (.t 12),xZ 14 10 13,qf 6 14]⟩
theorem GI:am Tryz.prog bt=some pG:=by kernel_rfl
def ra:FK:=⟨18,xv,xI yM (xG 5) (xS 0 [xd 6,q6 7,qb 8 (.len true (.t 7)),wF 9 6 8] 9 0 1 (qd [yP,xd 13,qb 14 (.idxStr (.t 12) (.t 13)),xq 15,wg 16 .eql 14 15] (wn 16 (wM (xd 17) 4 17))) (xd 10) 11 10 5 11) [qL 4 (-1)]⟩
theorem BA:am Tryz.prog lM=some ra:=by kernel_rfl
def pN:FK:=⟨28,xD,qd (xG 2) (qY 0 (qd [q6 4,qu 5 .geq 4 (.c (qe .u8 97)),xd 6,xY 7 6 0,xp 8 6 .leq 7 (.c (qe .u8 122)),xZ 9 6 8,qf 3 9] (wG 3 (qA [qL 2 1]) [q6 11,qu 12 .geq 11 (.c (qe .u8 48)),qf 13 12,xY 14 13 0,xp 15 13 .leq 14 (.c (qe .u8 57)),xZ 16 13 15,qf 10 16] (wG 10 (qA [qL 2 2]) [q6 18,qn 19 lM [wV [40,41,123,125,59,44,43,45,42,47,37,60,61,38,33,64],.t 18],qw 20 .geq 19 0,qf 17 20] (wG 17 (qA [qL 2 3]) [q6 22,qu 23 .eql 22 (.c (qe .u8 32)),qf 24 23,xc 25 24 0,xM 26 24 .eql 25 (.c (qe .u8 10)),xA 27 24 26,qf 21 27] (yz 21 (qL 2 4)))))) (qA (xG 2)))⟩
theorem CG:am Tryz.prog lI=some pN:=by kernel_rfl
def tZ:FK:=⟨21,xv,xI [xt] (xG 5) (xS 0 [xd 6,q6 7,qb 8 (.len true (.t 7)),wF 9 6 8] 9 0 1 (qd [yP,xd 13,qb 14 (.idxStr (.t 12) (.t 13)),wX 15 lI 14,xq 16,wg 17 .neq 15 16] (yz 17 xt)) (xd 10) 11 10 5 11) [q6 18,qb 19 (.len true (.t 18)),qw 20 .gtr 19 0,qf 4 20]⟩
theorem Fm:am Tryz.prog oT=some tZ:=by kernel_rfl
def ph:FK:=⟨2,xk 0,xa [qc 0 xB] (wM (qT 1 1 [qN] 9 [(0,1,wV [102,110]),(1,1,wV [108,101,116]),(2,1,wV [115,97,121]),(3,1,wV [112,117,116]),(4,1,wV [105,102]),(5,1,wV [101,108,115,101]),(6,1,wV [108,111,111,112]),(7,1,wV [98,97,99,107]),(8,1,wV [100,111])]) 0 1)⟩
theorem zM:am Tryz.prog gD=some ph:=by kernel_rfl
def uJ:FK:=⟨18,xD,qU [ye] (wM (qn 5 gD []) 3 5) (wE yM (xS 0 [xV 6,yx 7,q8 8 7,wF 9 6 8] 9 0 1 (qd [yx 12,xV 13,ws 14 1 12 13,qq 15 14,q6 16,qb 17 (yB .eql 15 (.t 16))] (yz 17 (qc 2 wv))) (xV 10) 11 10 4 11) [ye])⟩
theorem Ek:am Tryz.prog oO=some uJ:=by kernel_rfl
def sN:FK:=⟨15,xD,xa [ye] [q6 3,wB 4 oT 3 wP,xV 5,xY 6 5 0,qI 7 5 (.len true (.t 6)),xp 8 5 .leq 7 (qi 4),xZ 9 5 8,qf 10 9,xY 11 10 0,yq 12 10 oO (wW 11),qI 13 10 (wb 12),xZ 14 10 13,qf 2 14]⟩
theorem CP:am Tryz.prog cN=some sN:=by kernel_rfl
def mU:FK:=⟨5,xD,xI (xG 2) [q6 3,wd 4 3 4] (yz 4 (qL 2 2)) [qL 2 1]⟩
theorem CW:am Tryz.prog jJ=some mU:=by kernel_rfl
def dz:FK:=⟨13,[.t 2,.t 3],xI [wK 2,wK 3] [q6 4] (.blk 0 (qC (wN 6 4 1 5 6) (qo 5 .skip (.reg (wN 7 4 2 5 7))) (qo 5 (qA [wK 2,wK 3]) (qC (wN 9 4 11 8 9) (qo 8 .skip (.reg (wN 10 4 12 8 10))) (xE 8 (qA [qL 2 1,qL 3 1]) 12 4 13 11 12 (wn 11 [wK 2,qL 3 3])))))) [qL 2 2,qL 3 2]⟩
theorem CT:am Tryz.prog jE=some dz:=by kernel_rfl
def jH:FK:=⟨86,xv,qU [yA 2 4,xt] [wR 10 2,qq 11 10,wX 12 jE 11,qf 9 12,xn 13 0 9,xn 14 1 9,qf 5 13,qf 6 14] (qC [xq 15,qw 16 .lss 15 1,qf 17 16,wU 18 17 0 2,wS 19 17 18,yb 20 17 (x8 19 wP (qi 13)),yf 21 17 20,xA 22 17 21,qf 23 22,wU 24 23 3 2,wS 25 23 24,qH 26 23 (qX 25),xc 27 23 5,xc 28 23 6,yb 29 23 (x8 26 (.t 27) (.t 28)),yf 30 23 29,xA 31 23 30] (yz 31 xt) (xW [wR 32 2,qq 33 32,wd 34 33 2,qf 35 34,wU 36 35 0 2,wS 37 35 36,xM 38 35 .eql 37 (qi 13),xA 39 35 38,qf 7 39] [yi 40,xh 41 2,qq 42 41,wX 43 cN 42,qb 44 (.beq true (.t 40) (.t 43)),qf 45 44,xc 46 45 7,yf 47 45 46,xc 48 45 47,wT 49 48 2 2,wQ 50 48 49,qI 51 48 (yB .neq 50 (.c qN)),qH 52 45 (qM 48 (.t 51) qP),xA 53 45 52,qf 54 53,wU 55 54 1 2,wS 56 54 55,yb 57 54 (x8 56 ww (qi 255)),yf 58 54 57,xA 59 54 58,qf 60 59,wU 61 60 0 2,wS 62 60 61,xM 63 60 .neq 62 wP,xc 64 60 63,wT 65 64 1 2,wQ 66 64 65,xp 67 64 .neq 66 ww,qH 68 60 (qM 64 (.t 67) qP),xA 69 60 68] (yz 69 xt) (wE (xG 8) (xS 0 [yF 70,yl 71 2,qq 72 71,q8 73 72,wF 74 70 73] 74 0 1 (qd [yl 77 2,qq 78 77,yF 79,ws 80 4 78 79,yy 81 80,xq 82,xw 83 82 1,wD 84 gk 81 83,xb 85 84] (yz 85 xt)) (yF 75) 76 75 8 76) [qc 4 wv])))⟩
theorem sy:am Tryz.prog gk=some jH:=by kernel_rfl
def pT:FK:=⟨21,xD,qU [yA 1 4,wK 2] [qL 3 1] (wE yM (xS 0 [xV 5,yl 6 1,qq 7 6,q8 8 7,wF 9 5 8] 9 0 1 (.reg [yx 12,yl 13 1,qq 14 13,xV 15,ws 16 4 14 15,yy 17 16,wX 18 ij 17,wg 19 .add 12 18,qf 3 19]) (xV 10) 11 10 4 11) (wM (yx 20) 2 20))⟩
theorem AQ:am Tryz.prog ij=some pT:=by kernel_rfl
def nL:FK:=⟨10,xD,xa [yA 1 4,ye] [yy 3 1,wB 4 gk 3 (qi 6),xV 5,qI 6 5 (qj (some 4) 1),yq 7 5 ij (wW 6),xp 8 5 .leq 7 (qi 30),xZ 9 5 8,qf 2 9]⟩
theorem vu:am Tryz.prog fy=some nL:=by kernel_rfl
def jO:FK:=⟨108,xv,xW [yA 2 5,xt] [xq 7,qw 8 .lss 7 1,yF 9,wU 10 9 0 2,wS 11 9 10,yb 12 9 (x8 11 wP (qi 8)),yf 13 9 12,xA 14 9 13,qf 15 14,wU 16 15 2 2,wU 19 15 0 2,wS 17 15 16,qH 18 15 (qX 17),wS 20 15 19,qH 21 15 (.qcall jJ (wW 20)),xM 22 15 .neq 18 (.t 21),xA 23 15 22] (yz 23 xt) (xW [wR 24 2,qq 25 24,wd 26 25 1,qf 27 26,wU 28 27 0 2,wS 29 27 28,xM 30 27 .eql 29 xJ,xA 31 27 30,qf 5 31] [xd 32,xy 33 2,qq 34 33,wX 35 cN 34,qb 36 (.beq true (.t 32) (.t 35)),qf 37 36,xc 38 37 5,yf 39 37 38,xc 40 37 39,wT 41 40 1 2,wQ 42 40 41,qI 43 40 (yB .neq 42 (.c qN)),qH 44 37 (qM 40 (.t 43) qP),xA 45 37 44] (yz 45 xt) (qC (xG 6) (xS 0 [x7 46,xh 47 2,qq 48 47,q8 49 48,wF 50 46 49] 50 0 1 (qd [xh 53 2,qq 54 53,x7 55,ws 56 4 54 55,yy 57 56,wX 58 fy 57,xb 59 58] (yz 59 xt)) (x7 51) 52 51 6 52) (qC [wR 60 2,qq 61 60,wd 62 61 8,qf 63 62,wT 64 63 2 2,wQ 65 63 64,qI 66 63 (qO 4 65 ww),wT 67 63 0 66,wQ 68 63 67,xp 69 63 .neq 68 (qi 13),xZ 70 63 69] (yz 70 xt) (wE [qp 71 4 2,qq 72 71,q8 73 72,qw 74 .gtr 73 0,qf 75 74,wT 76 75 0 2,wQ 77 75 76,xp 78 75 .neq 77 (qi 5),xZ 79 75 78,qf 80 79,wU 81 80 3 2,wS 82 80 81,qH 83 80 (qX 82),xM 84 80 .gtr 83 ww,xc 85 80 84,wT 86 85 0 2,wQ 87 85 86,xp 88 85 .neq 87 (qi 5),qH 89 80 (qM 85 (.t 88) qP),xc 90 80 89,wT 91 90 0 2,wQ 92 90 91,xp 93 90 .neq 92 (qi 6),qH 94 80 (qM 90 (.t 93) qP),xA 95 80 94] (yz 95 xt) [yl 96 2,qq 97 96,xq 98,xw 99 98 1,wD 100 cu 97 99,qf 101 100,wT 102 101 4 2,wQ 103 101 102,xY 104 101 1,xp 105 101 .sub 104 wP,yq 106 101 cu (wA 103 (.t 105)),xZ 107 101 106,qf 4 107]))))⟩
theorem sR:am Tryz.prog jN=some jO:=by kernel_rfl
def pz:FK:=⟨19,xv,xI [xt] (xG 5) (xS 0 [xd 6,q6 7,q8 8 7,wF 9 6 8] 9 0 1 (qd [yP,xd 13,ws 14 5 12 13,qJ 15 5 14,xq 16,wD 17 jN 15 16,xb 18 17] (yz 18 xt)) (xd 10) 11 10 5 11) [qc 4 wv]⟩
theorem CC:am Tryz.prog cu=some pz:=by kernel_rfl
def zn:FK:=⟨32,xD,xI [yA 1 3,ye] (xG 3) (xS 0 [yx 4,xy 5 1,qq 6 5,q8 7 6,wF 8 4 7] 8 0 1 (qd [xy 11 1,qq 12 11,yx 13,ws 14 1 12 13,qq 15 14,wX 16 cN 15,xb 17 16] (yz 17 ye)) (yx 9) 10 9 3 10) [wR 18 1,qq 19 18,wX 20 cN 19,qf 21 20,wT 22 21 1 1,wQ 23 21 22,qI 24 21 (qX 23),xp 25 21 .leq 24 xP,xZ 26 21 25,qf 27 26,wT 28 27 2 1,wQ 29 27 28,yq 30 27 cu (wA 29 (qi 4)),xZ 31 27 30,qf 2 31]⟩
theorem He:am Tryz.prog rn=some zn:=by kernel_rfl
def mj:FK:=⟨29,xD,qU (xG 2) (xQ (q6 5) (q8 6 5) 3 6) (wE yM (xS 0 [xV 7,q6 8,q8 9 8,wF 10 7 9] 10 0 1 (.reg [yx 13,q6 14,xV 15,ws 16 5 14 15,yl 17 16,q6 21,xV 22,ws 23 5 21 22,qp 24 4 23,qq 18 17,qq 25 24,wX 19 ft 18,wI 24 25,wg 20 .add 13 19,wX 26 ft 25,wg 27 .add 20 26,qf 3 27]) (xV 11) 12 11 4 12) (wM (yx 28) 2 28))⟩
theorem pB:am Tryz.prog ft=some mj:=by kernel_rfl
def uQ:FK:=⟨22,xD,qU [yA 1 1,wK 2] (xG 3) (wE yM (xS 0 [xV 5,wR 6 1,qq 7 6,q8 8 7,wF 9 5 8] 9 0 1 (.reg [yx 12,wR 13 1,qq 14 13,xV 15,ws 16 3 14 15,xh 17 16,qq 18 17,wX 19 ft 18,wg 20 .add 12 19,qf 3 20]) (xV 10) 11 10 4 11) (wM (yx 21) 2 21))⟩
theorem Fe:am Tryz.prog oV=some uQ:=by kernel_rfl
def kP:FK:=⟨26,xD,xW [yA 1 1,ye] [wR 4 1,qq 5 4,q8 6 5,x9 7 bt 6 wP (qi 4),xb 8 7] (yz 8 ye) (wE (xG 3) (xS 0 [yx 9,wR 10 1,qq 11 10,q8 12 11,wF 13 9 12] 13 0 1 (qd [wR 16 1,qq 17 16,yx 18,ws 19 3 17 18,qJ 20 3 19,wX 21 rn 20,xb 22 21] (yz 22 ye)) (yx 14) 15 14 3 15) [qJ 23 1 1,wX 24 oV 23,qw 25 .leq 24 40,qf 2 25])⟩
theorem si:am Tryz.prog dF=some kP:=by kernel_rfl
def sI:FK:=⟨69,[xT 2 1],qU [qW 2 xL] [q6 8,q6 9,yu 10 1 4 [yH 0 14,yH 1 20,yH 2 8,yH 3 26],xl 11 9 10,wt 12 [.nilp,.nils,.nils,qz,qz] [yr 8,wY 4 11],wx 13 5 12,qf 3 13] (qC [q6 14,yu 15 1 4 [(0,1,ww),(1,1,wP),(2,1,wP),(3,1,xJ)],xl 16 14 15,qf 4 16] (xR 0 [xV 17,qw 18 .gtr 17 0] 18 0 1 (ym [qc 5 (.c .any),yx 21,xK 22 1 [qN] 3 [(0,1,wV [102]),(1,1,wV [103]),(2,1,wV [104])],yx 23,qZ 24 23,xy 25 24,q6 30,qq 26 25,q8 27 26,ws 28 1 22 27,qq 29 28,wZ 31 30 xP,wI 25 26,wI 28 29,ya 32 gE 21 (.t 29) 31,qW 5 yK,qR 3 5 32] [yx 33,yx 34,qZ 35 34,xy 36 35,qq 37 36,qJ 38 3 5,xK 39 3 yK 1 (yN 3 38),xo 40 3 64 37 39,qZ 41 33,xy 42 41,xr 42 40]) (xV 19) (xw 20 19 1) 4 20) (qU [yx 43,q6 44,yu 45 1 4 [(0,1,ww),(1,1,wP),(2,1,xJ),(3,1,wP)],xl 46 44 45,ya 47 gE 43 (wV [109]) 46,qW 6 yK,qR 3 6 47] [qc 7 (.c .any),yx 49,qZ 50 49,xy 51 50,qq 52 51,qJ 54 3 6,xK 55 3 yK 1 (yN 3 54),qT 48 3 yK 0 [],wI 51 52,wo (some 3) 6 54,xo 53 3 64 48 52,wo (some 3) 6 54,xo 56 3 64 53 55,wt 57 xL [yr 56],qW 7 xL,xr 7 57] (wE [qJ 58 1 7,wX 59 dF 58,xb 60 59] (wn 60 [wt 61 [qz,qz,qN,.nils] [(0,1,wP),(1,1,wP)],yO 62 4 [qz,qz,qN,.nils] 1 4 61,wt 63 [qz,qN,.nils,.nils,.nils] [(0,1,xP),wY 2 62],yO 64 5 [qz,qN,.nils,.nils,.nils] 1 5 63,wt 65 yK [(0,1,wV [109]),wY 2 64],yO 66 3 yK 1 3 65,wt 67 xL [yr 66],xr 2 67]) [qJ 68 1 7,xr 2 68])))⟩
theorem Do:am Tryz.prog dw=some sI:=by kernel_rfl
def uy:FK:=⟨42,[xT 4 4],qU [qW 4 [qz,qz,qN,.nils]] [q6 8,qT 9 1 [qN] 4 [(0,1,wV [97]),(1,1,wV [98]),(2,1,wV [120]),(3,1,wV [103,111])],xq 10,ya 11 bc 8 (.t 9) 10,qW 5 [qz,qz,qN,.nils],qR 4 5 11] (qC [yP,wZ 13 12 xP,qw 14 .gtr 13 0] (wn 14 [yy 15 5,qR 4 4 15]) (xW [q6 16,qT 17 1 [qN] 3 [(0,1,wV [102]),(1,1,wV [103]),(2,1,wV [97])],xU 18 16 17,wt 19 [qz,qz,qN,.nils] [yH 0 13,wY 2 18],qW 6 [qz,qz,qN,.nils],qR 4 6 19] (xQ (q6 20) (wZ 21 20 (qi 4)) 7 21) (xR 0 [yi 22,qw 23 .gtr 22 0] 23 0 1 (.reg [yl 26 6,q6 28,xK 29 1 [qN] 2 [(0,1,wV [97]),(1,1,wV [98])],qq 27 26,x9 30 bc 28 (.t 29) xJ,wI 26 27,xK 31 4 [qz,qz,qN,.nils] 1 (yN 4 30),xo 32 4 56 27 31,yl 33 6,xr 33 32]) (yi 24) (xw 25 24 1) 7 25) (wE [q6 34,wZ 35 34 xJ,wd 36 35 0] (wn 36 [yy 37 6,qR 4 4 37]) [yy 38 5,yy 39 6,qT 40 4 [qz,qz,qN,.nils] 2 [yv 4 38,wy 4 4 39],wt 41 [qz,qz,qN,.nils] [(0,1,xP),wY 3 40],qR 4 4 41])))⟩
theorem EL:am Tryz.prog iw=some uy:=by kernel_rfl
def sx:FK:=⟨40,[xT 2 4],qU [qW 2 [qz,qz,qN,.nils]] [q6 4,wB 5 iw 4 (qi 4),qW 3 [qz,qz,qN,.nils],qR 4 3 5] (wE [q6 6,wZ 7 6 (qi 20)] (yR 0 (wN 9 7 0 8 9) (xE 8 (.reg [q6 10,yu 11 1 3 [yH 0 (-1),yH 1 256,(2,1,xP)],xl 12 10 11,xy 13 3,xr 13 12]) 15 7 1 14 15 (xE 14 (.reg [q6 16,qT 17 1 [qN] 5 [(0,1,.c qN),(1,1,wV [100,111]),(2,1,wV [65]),(3,1,wV [97,98,99,100,101]),(4,1,wV [113])],xU 18 16 17,xh 19 3,xr 19 18]) 21 7 2 20 21 (xE 20 (.reg [q6 22,yu 23 1 5 [(0,1,ww),yH 1 14,yH 2 (-1),yH 3 5,yH 4 11],xl 24 22 23,wR 25 3,xr 25 24]) 27 7 3 26 27 (xE 26 (.reg [yl 28 3,q6 30,qq 29 28,wB 31 dy 30 xB,wI 28 29,xK 32 4 [qz,qz,qN,.nils] 1 (yN 4 31),xo 33 4 56 29 32,yl 34 3,xr 34 33]) 36 7 4 35 36 (xF 35 [q6 37,wB 38 iw 37 (qi 7),qR 4 3 38])))))) [yy 39 3,qR 4 2 39])⟩
theorem CN:am Tryz.prog ng=some sx:=by kernel_rfl
def nh:AK:=qU [qW 2 xL] [q6 9,wX 10 dw 9,qW 3 xL,xr 3 10] (qd [wR 11 3,qq 12 11,wR 13 3,qq 14 13,q8 15 14,xw 16 15 1,ws 17 3 12 16,qJ 18 3 17,qW 4 yK,qR 3 4 18] (xC [q6 19,wZ 20 19 (qi 32)] (yR 0 (wN 22 20 0 21 22) (xE 21 (.reg [q6 23,qT 24 1 [qN] 4 [(0,1,wV [102]),(1,1,wV [100,111]),(2,1,.c qN),(3,1,wV [103])],xU 25 23 24,wR 26 4,xr 26 25]) 28 20 1 27 28 (xE 27 (.reg [qT 29 1 [qN] 0 [],xy 30 4,qq 31 30,xo 32 1 16 29 31,q6 33,qT 34 1 [qN] 3 [(0,1,wV [97]),(1,1,wV [120]),(2,1,wV [105,102])],xU 35 33 34,qT 36 1 [qN] 1 [yr 35],xo 37 1 16 32 36,xy 38 4,xr 38 37]) 40 20 2 39 40 (xE 39 (.reg [qT 41 5 [qz,qN,.nils,.nils,.nils] 0 [],xh 42 4,qq 43 42,xo 44 5 96 41 43,q6 45,wX 46 ng 45,yO 47 4 [qz,qz,qN,.nils] 1 4 46,wt 48 [qz,qN,.nils,.nils,.nils] [(0,1,xP),wY 2 47],yO 49 5 [qz,qN,.nils,.nils,.nils] 1 5 48,xo 50 5 96 44 49,xh 51 4,xr 51 50]) 53 20 3 52 53 (xE 52 (.reg [qT 54 5 [qz,qN,.nils,.nils,.nils] 0 [],xh 55 4,qq 56 55,xo 57 5 96 54 56,q6 58,wZ 59 58 (qi 10),q6 60,qT 61 1 [qN] 3 [(0,1,.c qN),(1,1,wV [97]),(2,1,wV [122,122])],xU 62 60 61,q6 63,wB 64 iw 63 xJ,yO 65 4 [qz,qz,qN,.nils] 1 4 64,wt 66 [qz,qN,.nils,.nils,.nils] [yr 59,wY 1 62,wY 2 65],yO 67 5 [qz,qN,.nils,.nils,.nils] 1 5 66,xo 68 5 96 57 67,xh 69 4,xr 69 68]) 71 20 4 70 71 (xE 70 (qd [wt 72 [qz,qz,qN,.nils] [(0,1,wP)],yO 73 4 [qz,qz,qN,.nils] 1 4 72,wt 74 [qz,qN,.nils,.nils,.nils] [yH 0 6,wY 2 73],qW 5 [qz,qN,.nils,.nils,.nils],qR 5 5 74] (xC (xQ (q6 75) (wZ 76 75 (qi 5)) 6 76) (xR 1 [x7 77,qw 78 .gtr 77 0] 78 1 2 (.reg [q6 81,xK 82 1 yp 2 [yH 0 5,yH 1 6],xh 84 5,qq 85 84,qJ 86 5 5,xK 87 5 [qz,qN,.nils,.nils,.nils] 1 (yN 5 86),xl 83 81 82,wI 84 85,wo (some 5) 5 86,wt 88 [qz,qN,.nils,.nils,.nils] [yr 83,wY 2 85,wY 3 87],qR 5 5 88]) (x7 79) (xw 80 79 1) 6 80) (.reg [xh 90 4,qq 91 90,qJ 93 5 5,xK 94 5 [qz,qN,.nils,.nils,.nils] 1 (yN 5 93),qT 89 5 [qz,qN,.nils,.nils,.nils] 0 [],wI 90 91,wo (some 5) 5 93,xo 92 5 96 89 91,wo (some 5) 5 93,xo 95 5 96 92 94,xh 96 4,xr 96 95]))) 98 20 5 97 98 (xE 97 (qA [wt 99 xL [],xr 2 99]) 101 20 6 100 101 (xE 100 (qd [q6 102,yu 103 1 3 [yH 0 20,yH 1 40,yH 2 41],xl 104 102 103,qf 7 104] (xR 3 [yi 105,qw 106 .gtr 105 0] 106 3 4 (.reg [qT 109 5 [qz,qN,.nils,.nils,.nils] 0 [],xh 110 4,qq 111 110,xo 112 5 96 109 111,yi 113,wt 114 [qz,qz,qN,.nils] [(0,1,wP),wY 1 113],yO 115 4 [qz,qz,qN,.nils] 1 4 114,wt 116 [qz,qN,.nils,.nils,.nils] [(0,1,xP),wY 2 115],yO 117 5 [qz,qN,.nils,.nils,.nils] 1 5 116,xo 118 5 96 112 117,xh 119 4,xr 119 118]) (yi 107) (xw 108 107 1) 7 108)) 121 20 7 120 121 (wn 120 [wR 123 3,wR 126 3,qq 124 123,qq 127 126,wl 128 3 127 ww,qJ 129 3 128,xK 130 3 yK 1 (yN 3 129),qT 122 3 yK 0 [],wI 123 124,wI 126 127,wo (some 3) 128 129,xo 125 3 64 122 124,wI 126 127,wo (some 3) 128 129,xo 131 3 64 125 130,wt 132 xL [yr 131],xr 2 132]))))))))) (qU [qT 133 3 yK 0 [],wR 134 3,qq 135 134,xo 136 3 64 133 135,qf 8 136] [yF 137,yF 138,q8 139 138,xw 140 139 1,qJ 141 3 4,ws 142 3 137 140,qR 3 142 141] (qA [yF 143,wt 144 xL [yr 143],xr 2 144]))))
def mV:FK:=⟨145,[xT 2 1],(AK.whole nh)⟩
theorem Dc:am Tryz.prog nj=some mV:=by kernel_rfl
def sG:FK:=⟨25,[xT 2 4],qU [yA 1 4,qW 2 [qz,qz,qN,.nils]] (wM (qT 5 4 [qz,qz,qN,.nils] 0 []) 3 5) (qC yM (xS 0 [xV 6,yl 7 1,qq 8 7,q8 9 8,wF 10 6 9] 10 0 1 (.reg [yx 13,yl 14 1,qq 15 14,xV 16,ws 17 4 15 16,yy 18 17,wX 19 jF 18,yO 20 4 [qz,qz,qN,.nils] 1 4 19,xo 21 4 56 13 20,qf 3 21]) (xV 11) 12 11 4 12) (xa [yx 22,yl 23 1,xr 23 22] [yy 24 1,qR 4 2 24]))⟩
theorem CX:am Tryz.prog jF=some sG:=by kernel_rfl
def rp:FK:=⟨52,xD,qU [qc 2 xB] (wM (qT 8 5 [qz,qN,.nils,.nils,.nils] 0 []) 3 8) (wE yM (xS 0 [xV 9,q6 10,q8 11 10,wF 12 9 11] 12 0 1 (qU [q6 15,xV 16,ws 17 5 15 16,qJ 18 5 17,qW 5 [qz,qN,.nils,.nils,.nils],qR 5 5 18] (wM (qT 19 4 [qz,qz,qN,.nils] 0 []) 6 19) (qC (xG 7) (xS 2 [yi 20,xh 21 5,qq 22 21,q8 23 22,wF 24 20 23] 24 2 3 (.reg [x7 27,xh 28 5,qq 29 28,yi 30,ws 31 4 29 30,yy 32 31,wX 33 jF 32,yO 34 4 [qz,qz,qN,.nils] 1 4 33,xo 35 4 56 27 34,qf 6 35]) (yi 25) 26 25 7 26) (.reg [yx 36,wR 37 5,xy 39 5,x7 41,yl 42 5,qp 45 4 5,qq 38 37,qq 40 39,qq 43 42,qq 46 45,wX 44 dU 43,wI 37 38,wI 39 40,wI 45 46,wX 47 dU 46,wI 37 38,wI 39 40,wt 48 [qz,qN,.nils,.nils,.nils] [yr 38,wY 1 40,wY 2 41,wY 3 44,wY 4 47],yO 49 5 [qz,qN,.nils,.nils,.nils] 1 5 48,xo 50 5 96 36 49,qf 3 50]))) (xV 13) 14 13 4 14) (wM (yx 51) 2 51))⟩
theorem AT:am Tryz.prog dU=some rp:=by kernel_rfl
def sQ:FK:=⟨35,[xT 2 1],qU [yA 1 1,qW 2 xL] [wt 6 xL [],qW 3 xL,xr 3 6] (wE yM (xS 0 [xV 7,wR 8 1,qq 9 8,q8 10 9,wF 11 7 10] 11 0 1 (ym [wR 14 1,qq 15 14,xV 16,ws 17 3 15 16,qJ 18 3 17,qW 5 yK,qR 3 5 18] [wR 19 3,wR 21 5,xy 24 5,xh 27 5,qq 20 19,qq 22 21,qq 25 24,qq 28 27,qT 23 1 [qN] 0 [],wI 19 20,wI 21 22,wI 24 25,wI 27 28,xo 26 1 16 23 25,wI 19 20,wI 21 22,wI 27 28,wX 29 dU 28,wI 19 20,wI 21 22,wt 30 yK [yr 22,wY 1 26,wY 2 29],yO 31 3 yK 1 3 30,wI 19 20,xo 32 3 64 20 31,wR 33 3,xr 33 32]) (xV 12) 13 12 4 13) [qJ 34 1 3,xr 2 34])⟩
theorem CZ:am Tryz.prog nw=some sQ:=by kernel_rfl
def sY:FK:=⟨104,[xT 2 1],qU [qW 2 xL] [q6 7,wX 8 dw 7,qW 3 xL,xr 3 8] (qC [q6 9,wZ 10 9 (qi 5),qw 11 .gtr 10 2] (wn 11 [qJ 12 1 3,xr 2 12]) (qC [q6 13,wZ 14 13 (qi 6),wd 15 14 0] (wn 15 [q6 16,wX 17 nj 16,xr 2 17]) (qU [qJ 18 1 3,wX 19 nw 18,xr 3 19] [wR 20 3,q6 22,wR 23 3,qq 21 20,qq 24 23,q8 25 24,wD 26 aP 22 25,wI 20 21,ws 27 3 21 26,qf 4 27] (qC [xV 28,qZ 29 28,xh 30 29,qq 31 30,q8 32 31,wd 33 32 0] (wn 33 [qJ 34 1 3,xr 2 34]) (qU [xV 35,qZ 36 35,xh 37 36,q6 39,xV 40,qZ 41 40,xh 42 41,qq 38 37,qq 43 42,q8 44 43,wD 45 aP 39 44,wI 37 38,ws 46 5 38 45,qf 5 46] [q6 47,qT 48 1 [qN] 5 [(0,1,wV [122,122]),(1,1,wV [97]),(2,1,wV [98]),(3,1,wV [99]),(4,1,wV [100])],xU 49 47 48,wt 50 [qz,qz,qN,.nils] [(0,1,xJ),wY 2 49],qW 6 [qz,qz,qN,.nils],qR 4 6 50] (qC [q6 51,wZ 52 51 (qi 4)] (yR 0 (wN 54 52 0 53 54) (xE 53 (.reg [q6 55,qT 56 1 [qN] 4 [(0,1,wV [102]),(1,1,wV [103]),(2,1,wV [109]),(3,1,wV [113])],xU 57 55 56,wt 58 [qz,qz,qN,.nils] [(0,1,wP),(1,1,wP)],yO 59 4 [qz,qz,qN,.nils] 1 4 58,wt 60 [qz,qz,qN,.nils] [yH 0 13,wY 2 57,wY 3 59],qR 4 6 60]) 62 52 1 61 62 (xE 61 (wE [xd 63,qZ 64 63,xy 65 64,qq 66 65,qb 67 (yB .neq 66 (.c qN))] (xF 67 [xd 68,q6 69,qT 70 1 [qN] 5 [(0,1,wV [97]),(1,1,wV [98]),(2,1,wV [122,122]),(3,1,wV [99]),(4,1,wV [100])],xU 71 69 70,qZ 72 68,xy 73 72,xr 73 71]) [qJ 74 1 3,xr 2 74]) 76 52 2 75 76 (qS 75 (xa [xV 77,xV 78,qZ 79 78,xh 80 79,xV 82,qZ 83 82,xh 84 83,qq 81 80,qq 85 84,qb 86 (.slS 5 (.t 85) none (some wP)),wX 87 dU 86,wI 80 81,xo 88 5 96 81 87,qZ 89 77,xh 90 89,xr 90 88] [qJ 91 1 3,xr 2 91]))))) (wE [xd 92,qZ 93 92,wR 94 93,qq 95 94,qw 96 .neq 95 8] (xF 96 [xd 97,qZ 98 97,xh 99 98,qq 100 99,yy 101 6,wl 102 4 100 ww,qR 4 102 101]) [qJ 103 1 3,xr 2 103])))))))⟩
theorem Di:am Tryz.prog nr=some sY:=by kernel_rfl
def zl:FK:=⟨22,xv,xI [yA 2 1,wK 4] (xG 5) (xS 0 [xd 6,wR 7 2,qq 8 7,q8 9 8,wF 10 6 9] 10 0 1 (qd [wR 13 2,qq 14 13,xd 15,ws 16 3 14 15,wR 17 16,qq 18 17,xq 19,qb 20 (yB .eql 18 (.t 19))] (wn 20 (wM (xd 21) 4 21))) (xd 11) 12 11 5 12) [qL 4 (-1)]⟩
theorem FV:am Tryz.prog kb=some zl:=by kernel_rfl
def gL:FK:=⟨13,[],qd [q6 4,qZ 5 4,qp 6 4 5,qq 7 6,wd 8 7 0] (xF 8 [q6 9,xq 10,qZ 11 9,qp 12 4 11,xr 12 10])⟩
theorem tQ:am Tryz.prog bL=some gL:=by kernel_rfl
def gG:FK:=⟨27,xv,xI yM [q6 6,qZ 7 6,xh 8 7,qq 9 8,q8 10 9,xw 11 10 1,qf 5 11] (xR 0 [xd 12,qw 13 .geq 12 0] 13 0 1 (qd [q6 16,qZ 17 16,xh 18 17,qq 19 18,xd 20,ws 21 3 19 20,wR 22 21,qq 23 22,xq 24,qb 25 (yB .eql 23 (.t 24))] (wn 25 (wM (xd 26) 4 26))) (xd 14) (xw 15 14 1) 5 15) [qL 4 (-1)]⟩
theorem tx:am Tryz.prog dY=some gG:=by kernel_rfl
def sM:FK:=⟨11,xD,qU [qc 2 (.c qN)] [q6 4,qw 5 .rem 4 26,xd 3] (qA [yx 6,yx 7,xz 8 7,qb 9 (.slStr (wV [97,98,99,100,101,102,103,104,105,106,107,108,109,110,111,112,113,114,115,116,117,118,119,120,121,122]) (some (.t 6)) (some (.t 8))),qb 10 (.bins .add (wV [118]) (.t 9)),yQ 2])⟩
theorem Dp:am Tryz.prog jK=some sM:=by kernel_rfl
def iq:AK:=qU [qc 6 (.c qN)] [q6 8,xq 9,wD 10 dY 8 9,yQ 7] (xC [yi 11,qw 12 .geq 11 0,qf 13 12,xY 14 13 0,qI 15 13 (qB 14),wT 16 13 2 15,wQ 17 13 16,xY 18 13 7,qI 19 13 (qO 3 17 (.t 18)),wT 20 13 2 19,wQ 21 13 20,xY 22 13 2,xp 23 13 .eql 21 (.t 22),xZ 24 13 23] (xF 24 [q6 25,wB 26 bL 25 xJ]) (qU [q6 27,q6 28,qZ 29 28,xh 30 29,xq 32,q6 33,qZ 34 33,yl 35 34,qf 37 2,qq 31 30,qq 36 35,wt 38 [qN,qz,qz] [yr 32,wY 1 36,wY 2 37],xK 39 3 [qN,qz,qz] 1 (yN 3 38),xo 40 3 32 31 39,qZ 41 27,xh 42 41,xr 42 40] [q6 43,q6 44,qZ 45 44,yl 46 45,qq 47 46,xz 48 47,qZ 49 43,yl 50 49,xr 50 48] (qA [q6 51,qZ 52 51,yl 53 52,qq 54 53,xw 55 54 1,wX 56 jK 55,qf 6 56])))
def iL:FK:=⟨57,xk 6,(AK.whole iq)⟩
theorem ul:am Tryz.prog eN=some iL:=by kernel_rfl
def my:FK:=⟨23,xv,qU [qc 4 (.c qN)] [q6 6,xq 7,wD 8 dY 6 7,yF 5] (wE [xd 9,qw 10 .lss 9 0] (qS 10 (xa [q6 11,wB 12 bL 11 xP] (wM (xq 13) 4 13))) [q6 14,qZ 15 14,xh 16 15,qq 17 16,xd 18,ws 19 3 17 18,xy 20 19,qq 21 20,wX 22 jK 21,qf 4 22])⟩
theorem tT:am Tryz.prog eV=some my:=by kernel_rfl
def gT:AK:=qd [wx 3 4 1,qW 4 [qz,qz,qN,.nils]] (xC [wR 8 3,qq 9 8,wd 10 9 2] (xF 10 [q6 11,xh 12 3,qq 13 12,wD 14 eV 11 13,xh 15 3,xr 15 14]) (xC [wR 16 3,qq 17 16,wd 18 17 13] (qS 18 (qU [q6 19,qZ 20 19,wR 21 20,xh 23 3,qJ 22 1 21,qq 24 23,wD 25 kb 22 24,qf 5 25] [xd 26,qw 27 .lss 26 0,qf 28 27,xc 29 28 5,xc 30 28 0,qH 31 28 (qB 30),wU 32 28 1 31,wS 33 28 32,xM 34 28 .geq 29 (.t 33),xA 35 28 34] (wG 35 (.reg [q6 36,wB 37 bL 36 (qi 4)]) [q6 38,qZ 39 38,wR 40 39,wR 41 40,xd 43,yl 48 3,qq 42 41,ws 44 3 42 43,xy 45 44,qq 46 45,q8 47 46,qq 49 48,q8 50 49,wg 51 .neq 47 50] (xF 51 [q6 52,wB 53 bL 52 (qi 5)])))) (xW (wM (qT 54 4 [qz,qz,qN,.nils] 0 []) 6 54) (xG 7) (xS 0 [yi 55,yl 56 3,qq 57 56,q8 58 57,wF 59 55 58] 59 0 1 (.reg [x7 62,q6 63,yl 64 3,qq 65 64,yi 66,ws 67 4 65 66,yy 68 67,wD 69 cS 63 68,yO 70 4 [qz,qz,qN,.nils] 1 4 69,xo 71 4 56 62 70,qf 6 71]) (yi 60) 61 60 7 61) (xa [x7 72,yl 73 3,xr 73 72] [yy 74 3,qR 4 4 74]))))
def gS:FK:=⟨75,[xT 4 4],(AK.whole gT)⟩
theorem tC:am Tryz.prog cS=some gS:=by kernel_rfl
def fK:AK:=qU [qc 6 xB] (wM (qT 13 5 [qz,qN,.nils,.nils,.nils] 0 []) 7 13) (xW [q6 14,qZ 15 14,xh 16 15,qq 17 16,q8 18 17,qf 8 18] (xG 9) (xS 0 [qf 19 9,xq 20,q8 21 20,wF 22 19 21] 22 0 1 (qU [xq 25,qf 26 9,ws 27 5 25 26,qJ 28 5 27,qW 10 [qz,qN,.nils,.nils,.nils],qR 5 10 28] (wM (qT 29 4 [qz,qz,qN,.nils] 0 []) 11 29) (qC (xG 12) (xS 2 [qf 30 12,xh 31 10,qq 32 31,q8 33 32,wF 34 30 33] 34 2 3 (.reg [qf 37 11,q6 38,xh 39 10,qq 40 39,qf 41 12,ws 42 4 40 41,yy 43 42,wD 44 cS 38 43,yO 45 4 [qz,qz,qN,.nils] 1 4 44,xo 46 4 56 37 45,qf 11 46]) (qf 35 12) 36 35 12 36) (.cut (.reg [qf 47 11,xh 48 10,xr 48 47]) (xC [wR 49 10,qq 50 49,wd 51 50 1] (xF 51 [q6 52,xy 53 10,qq 54 53,qf 55 2,ya 56 eN 52 (.t 54) 55,xy 57 10,xr 57 56]) (xC [wR 58 10,qq 59 58,wd 60 59 2] (xF 60 [q6 61,xy 62 10,qq 63 62,wD 64 eV 61 63,xy 65 10,xr 65 64]) (qU [q6 66,yl 67 10,qq 68 67,qf 69 2,xz 70 69,ya 71 cD 66 (.t 68) 70,yl 72 10,xr 72 71] [q6 73,qp 74 4 10,qq 75 74,qf 76 2,xz 77 76,ya 78 cD 73 (.t 75) 77,qp 79 4 10,xr 79 78] (.reg [yi 80,qJ 81 5 10,yO 82 5 [qz,qN,.nils,.nils,.nils] 1 5 81,xo 83 5 96 80 82,qf 7 83]))))))) (qf 23 9) 24 23 9 24) (xC [qf 84 2,qw 85 .gtr 84 0] (xF 85 [q6 86,q6 87,qZ 88 87,xh 89 88,qq 90 89,yF 91,qb 92 (.slS 3 (.t 90) none (some (.t 91))),qZ 93 86,xh 94 93,xr 94 92]) (qA (wM (yi 95) 6 95))))
def fL:FK:=⟨96,xk 6,(AK.whole fK)⟩
theorem rU:am Tryz.prog cD=some fL:=by kernel_rfl
def ry:AK:=qU [yA 2 1,qW 4 yK,wK 5,wK 6] [qJ 11 1 2,xq 12,wt 13 [.nils,qz,.nils,qz,qz] [yr 11,wY 1 12],wx 14 5 13,qf 7 14] (.cut (.reg [wR 15 2,qq 16 15,xq 17,ws 18 3 16 17,qJ 19 3 18,qW 8 yK,qR 3 8 19]) (xC [qJ 20 1 2,wR 21 8,qq 22 21,wD 23 kb 20 22,xq 24,wg 25 .neq 23 24] (xF 25 [yi 26,wB 27 bL 26 xJ]) (xW (wM (qT 28 1 [qN] 0 []) 9 28) (xG 10) (xS 0 [yQ 29,xy 30 8,qq 31 30,q8 32 31,wF 33 29 32] 33 0 1 (.reg [qf 36 9,yi 37,xy 38 8,qq 39 38,yQ 40,ws 41 1 39 40,qq 42 41,x9 43 eN 37 (.t 42) ww,qT 44 1 [qN] 1 [yr 43],xo 45 1 16 36 44,qf 9 45]) (yQ 34) 35 34 10 35) (qU [qf 46 9,xy 47 8,xr 47 46] [yi 48,xh 49 8,qq 50 49,x9 51 cD 48 (.t 50) ww,xh 52 8,xr 52 51] (qA [yi 54,qZ 55 54,qp 56 4 55,yi 58,qZ 59 58,yl 60 59,qJ 53 3 8,qq 57 56,qq 61 60,qR 3 4 53,wI 56 57,wI 60 61,qf 5 57,qf 6 61])))))
def pJ:FK:=⟨62,[xT 4 3,.t 5,.t 6],(AK.whole ry)⟩
theorem Gp:am Tryz.prog mJ=some pJ:=by kernel_rfl
def kK:FK:=⟨27,xD,xW [yA 1 1,wK 2] [qJ 7 1 1,wX 8 dF 7,xb 9 8] (yz 9 (qL 2 1)) (wE (xG 3) (xS 0 [yx 10,wR 11 1,qq 12 11,q8 13 12,wF 14 10 13] 14 0 1 (qU [qJ 18 1 1,yx 19,wD 20 mJ 18 19,qf 17 20,xn 21 0 17,xn 22 1 17,xn 23 2 17,qW 4 yK,qR 3 4 21,qf 5 22,qf 6 23] [xd 24,qw 25 .neq 24 0] (wn 25 (wM (xd 26) 2 26))) (yx 15) 16 15 3 16) (xG 2))⟩
theorem sv:am Tryz.prog fX=some kK:=by kernel_rfl
def sw:FK:=⟨6,xD,xa [yA 1 1,ye] [qJ 3 1 1,wX 4 fX 3,wd 5 4 0,xd 2]⟩
theorem CV:am Tryz.prog jD=some sw:=by kernel_rfl
def vf:FK:=⟨18,xv,xI [xt] (xG 5) (xS 0 [xd 6,q6 7,q8 8 7,wF 9 6 8] 9 0 1 (qd [yP,xd 13,ws 14 1 12 13,qq 15 14,xq 16,qb 17 (yB .eql 15 (.t 16))] (yz 17 (qc 4 wv))) (xd 10) 11 10 5 11) [xt]⟩
theorem EY:am Tryz.prog kW=some vf:=by kernel_rfl
def lQ:AK:=qd [yA 3 4,qc 6 xB] (xC [wR 8 3,qq 9 8,xq 10,wg 11 .eql 9 10,qf 12 11,xY 13 12 2,wT 14 12 2 3,wQ 15 12 14,yq 16 12 kW (wA 13 (.t 15)),qI 17 12 (wb 16),xZ 18 12 17] (xF 18 [qf 19 2,xh 20 3,qq 21 20,qT 22 1 [qN] 1 [yr 21],xo 23 1 16 19 22,qf 2 23]) (wE (xG 7) (xS 0 [yi 24,yl 25 3,qq 26 25,q8 27 26,wF 28 24 27] 28 0 1 (.reg [yl 31 3,qq 32 31,yi 33,ws 34 4 32 33,yy 35 34,xq 36,qf 37 2,ya 38 eY 35 (.t 36) 37,qf 2 38]) (yi 29) 30 29 7 30) (wM (qf 39 2) 6 39)))
def lP:FK:=⟨40,xk 6,(AK.whole lQ)⟩
theorem BB:am Tryz.prog eY=some lP:=by kernel_rfl
def pQ:FK:=⟨47,xv,xI [qc 4 xB] (xG 5) (xS 0 [xd 7,q6 8,q8 9 8,wF 10 7 9] 10 0 1 (qC (xG 6) (xS 2 [x7 13,q6 14,xd 15,ws 16 5 14 15,xh 17 16,qq 18 17,q8 19 18,wF 20 13 19] 20 2 3 (.reg [q6 23,xd 24,ws 25 5 23 24,xh 26 25,qq 27 26,x7 28,ws 29 4 27 28,yy 30 29,xq 31,ya 32 eY 30 (qi 13) 31,qf 1 32]) (x7 21) 22 21 6 22) (.reg [q6 33,xd 34,ws 35 5 33 34,qp 36 4 35,q6 38,xd 39,ws 40 5 38 39,yl 41 40,xq 43,qq 37 36,qq 42 41,wD 44 fe 42 43,wI 36 37,wD 45 fe 37 44,qf 1 45])) (xd 11) 12 11 5 12) (wM (xq 46) 4 46)⟩
theorem AR:am Tryz.prog fe=some pQ:=by kernel_rfl
def pc:FK:=⟨35,xv,qU [yA 2 1,qc 4 xB] [wR 8 2,qq 9 8,xq 10,ws 11 3 9 10,xh 12 11,qq 13 12,qT 14 1 [qN] 0 [],wD 15 fe 13 14,qf 5 15] (xI (wM (yu 16 1 0 []) 6 16) (xG 7) (xS 0 [yi 17,xq 18,wF 19 17 18] 19 0 1 (qd [xd 22,wR 23 2,qq 24 23,yi 25,ws 26 3 24 25,wR 27 26,qq 28 27,wD 29 kW 22 28] (xF 29 [x7 30,yi 31,yu 32 1 1 [yr 31],xo 33 1 8 30 32,qf 6 33])) (yi 20) 21 20 7 21) (wM (x7 34) 4 34))⟩
theorem zH:am Tryz.prog gC=some pc:=by kernel_rfl
def kj:FK:=⟨21,xv,xI [yA 2 1,qc 4 xB] [qJ 5 1 2,wX 6 jD 5,xb 7 6,yi 8,xc 9 8 1,wU 10 8 0 2,wS 11 8 10,qH 12 8 (qX 11),xM 13 8 .sub 12 wP,yb 14 8 (x8 9 ww (.t 13)),yf 15 8 14,xA 16 8 15] (wn 16 (wM (yu 17 1 0 []) 4 17)) [qJ 18 1 2,xq 19,wD 20 gC 18 19,qf 4 20]⟩
theorem pk:am Tryz.prog gx=some kj:=by kernel_rfl
def fT:AK:=qU [qW 2 xL,wK 3] (xQ (q6 8) (wX 9 me 8) 4 9) (qd [xV 10,wX 11 nr 10,qW 5 xL,xr 5 11] (xC (xG 6) (xS 0 [x7 12,qw 13 .lss 12 6,qf 14 13,xY 15 14 4,yq 16 14 aP (wA 15 (qi 8)),xp 17 14 .gtr 16 ww,xZ 18 14 17] 18 0 1 (xC [wR 21 5,qq 22 21,q8 23 22,xw 24 23 1,qf 7 24] (xR 2 [yi 25,qw 26 .gtr 25 0] 26 2 3 (qd [qJ 29 1 5,yi 30,wD 31 gx 29 30,q8 32 31,qw 33 .gtr 32 0] (wn 33 [qJ 34 1 5,yi 35,xr 2 34,qf 3 35])) (yi 27) (xw 28 27 1) 7 28) (.reg [xV 36,wX 37 dw 36,xr 5 37])) (x7 19) 20 19 6 20) (qA [xV 39,wR 40 5,wR 44 5,qJ 38 1 5,qq 41 40,q8 42 41,xw 43 42 1,qq 45 44,q8 46 45,xK 47 1 yp 5 [yr 43,(1,1,ww),(2,1,wP),yH 3 (-1),wY 4 46],xl 48 39 47,wo (some 1) 5 38,xr 2 38,qf 3 48])))
def fS:FK:=⟨49,[xT 2 1,.t 3],(AK.whole fT)⟩
theorem sq:am Tryz.prog gd=some fS:=by kernel_rfl
def iH:FK:=⟨8,[xT 2 1,.t 3],xa [qW 2 xL,wK 3] [q6 4,wX 5 gd 4,xn 6 0 5,xn 7 1 5,xr 2 6,yi 3]⟩
theorem oJ:am Tryz.prog ee=some iH:=by kernel_rfl
def nz:FK:=⟨15,xk 6,xa [yS] [xq 7,q6 8,wg 9 .leq 7 8,qf 10 9,xY 11 10 0,xY 12 10 2,xp 13 10 .leq 11 (.t 12),xZ 14 10 13,qf 6 14]⟩
theorem CU:am Tryz.prog aS=some nz:=by kernel_rfl
def kM:FK:=⟨21,xk 6,xI (xG 6) [q6 9,qb 10 (.rngS (.t 9))] (yj 0 [qb 11 (.nxtS (.t 10)),xn 12 0 11] 12 0 (.blk 1 (qU [xn 13 1 11,xn 14 2 11,qf 7 13,qf 8 14] [xq 15,yF 16,qb 17 (yn 15 (wW 16)),qf 18 2,qb 19 (.beq false (.t 17) (.t 18))] (wn 19 (wM (yi 20) 6 20))))) [qL 6 (-1)]⟩
theorem rY:am Tryz.prog fM=some kM:=by kernel_rfl
def kL:FK:=⟨8,xv,xa yM [q6 5,xq 6,x9 7 fM 5 (.t 6) wv,yi 4]⟩
theorem su:am Tryz.prog gb=some kL:=by kernel_rfl
def iY:FK:=⟨19,xv,xI yM [q6 6,q8 7 6,wK 8] (yT 0 [wF 9 8 7] 9 0 1 (qU (wM (yF 10) 5 10) [xq 11,yP,xd 13,ws 14 1 12 13,qq 15 14,qb 16 (yB .eql 11 (.t 15))] (wn 16 (wM (xd 17) 4 17))) 18 8 8 18) [qL 4 (-1)]⟩
theorem pt:am Tryz.prog eG=some iY:=by kernel_rfl
def gu:FK:=⟨9,xv,xa [xt] [q6 5,xq 6,wD 7 eG 5 6,qw 8 .geq 7 0,yF 4]⟩
theorem nq:am Tryz.prog dx=some gu:=by kernel_rfl
def pi:FK:=⟨9,xD,xa [ye] [q6 3,qu 4 .lss 3 (.c (qe .i32 97)),xV 5,xc 6 5 0,xM 7 5 .gtr 6 (.c (qe .i32 122)),xA 8 5 7,yF 2]⟩
theorem zR:am Tryz.prog dm=some pi:=by kernel_rfl
def sW:FK:=⟨17,xD,xa [ye] [q6 3,qb 4 (.len true (.t 3)),x9 5 aS 4 wP (qi 4),xd 6,xY 7 6 0,yq 8 6 gb (wA 7 (.c (.fn (.func dm) []))),xp 9 6 .lss 8 ww,xZ 10 6 9,yQ 11,qI 12 11 (.slA 9 1 (.c (.gp 0 0)) none none),xY 13 11 0,yq 14 11 dx (wA 12 (.t 13)),qI 15 11 (wb 14),xZ 16 11 15,qf 2 16]⟩
theorem Dj:am Tryz.prog cM=some sW:=by kernel_rfl
def fH:FK:=⟨19,xv,xI yM [q6 6,q8 7 6,wK 8] (yT 0 [wF 9 8 7] 9 0 1 (qU (wM (yF 10) 5 10) [xq 11,yP,xd 13,ws 14 1 12 13,qq 15 14,qb 16 (yn 11 (wW 15))] (wn 16 (wM (xd 17) 4 17))) 18 8 8 18) [qL 4 (-1)]⟩
theorem mt:am Tryz.prog dg=some fH:=by kernel_rfl
def eq:FK:=⟨9,xv,xa [xt] [q6 5,xq 6,wD 7 dg 5 6,qw 8 .geq 7 0,yF 4]⟩
theorem kq:am Tryz.prog cy=some eq:=by kernel_rfl
def ew:FK:=⟨19,xv,xI yM [q6 6,q8 7 6,wK 8] (yT 0 [wF 9 8 7] 9 0 1 (qU (wM (yF 10) 5 10) [xq 11,yP,xd 13,ws 14 5 12 13,qJ 15 5 14,qb 16 (yn 11 (wW 15))] (wn 16 (wM (xd 17) 4 17))) 18 8 8 18) [qL 4 (-1)]⟩
theorem kH:am Tryz.prog cA=some ew:=by kernel_rfl
def dB:FK:=⟨9,xv,xa [xt] [q6 5,xq 6,wD 7 cA 5 6,qw 8 .geq 7 0,yF 4]⟩
theorem iX:am Tryz.prog ca=some dB:=by kernel_rfl
def bA:FK:=⟨20,[.t 2,.t 3,.t 4,.t 5],xI [wK 2,wz 3,xt,wz 5] [q6 6] (.blk 0 (qC (wN 8 6 1 7 8) (qo 7 .skip (.reg (wN 9 6 2 7 9))) (qo 7 (qA [qL 2 1,qc 3 wv,xt,wz 5]) (qC (wN 11 6 3 10 11) (xE 10 .skip 12 6 7 10 12 (qo 10 .skip (.reg (wN 13 6 8 10 13)))) (xE 10 (qA [qL 2 1,wz 3,xt,wz 5]) 15 6 4 14 15 (xE 14 (qA [qL 2 2,wz 3,xt,wz 5]) 17 6 5 16 17 (xE 16 (qA [qL 2 1,wz 3,qc 4 wv,qc 5 wv]) 19 6 6 18 19 (wn 18 [qL 2 1,wz 3,qc 4 wv,wz 5])))))))) [qL 2 (-1),wz 3,xt,wz 5]⟩
theorem zK:am Tryz.prog gB=some bA:=by kernel_rfl
def sA:FK:=⟨5,xD,xa [ye] (xQ (q6 3) (x9 4 aS 3 ww (qi 255)) 2 4)⟩
theorem Db:am Tryz.prog jC=some sA:=by kernel_rfl
def fg:FK:=⟨20,xD,qd (xG 2) (qY 0 (qd [qb 4 (.ld none (.c (.gp 1 0))),q6 5,qb 6 (.lk 0 (.agg [qN,qz]) false (.t 4) (.t 5)),qb 7 (.fldv 1 none (.t 6)),qw 8 .gtr 7 0,yF 3] (wG 3 (qA [qb 9 (.ld none (.c (.gp 1 0))),q6 10,qb 11 (.lk 0 (.agg [qN,qz]) false (.t 9) (.t 10)),qb 12 (.fldv 1 none (.t 11)),qf 2 12]) [q6 14,wd 15 14 11,qf 16 15,xc 17 16 0,xM 18 16 .eql 17 (qi 12),xA 19 16 18,qf 13 19] (yz 13 (qL 2 5)))) (qA [qL 2 6]))⟩
theorem Au:am Tryz.prog lU=some fg:=by kernel_rfl
def kz:AK:=qU [yA 2 4,wK 4,wK 5,yS] [wK 7,wK 8] (.cut (yR 0 [wR 17 2,qq 18 17,wd 19 18 1,qf 16 19] (wG 16 (qd [xy 20 2,qq 21 20,wX 22 jC 21,xb 23 22,qf 24 23,wU 25 24 2 2,wS 26 24 25,qH 27 24 (yB .neq 26 (.c qN)),xA 28 24 27] (wn 28 [wK 4,wK 5,yS])) [wR 30 2,qq 31 30,wd 32 31 2,qf 29 32] (wG 29 (qd [xh 33 2,qq 34 33,wX 35 cM 34,xb 36 35,qf 37 36,wU 38 37 1 2,wS 39 37 38,xM 40 37 .neq 39 ww,xA 41 37 40] (wn 41 [wK 4,wK 5,yS])) [wR 43 2,qq 44 43,wd 45 44 13,qf 42 45] (wG 42 (qU [qL 8 3] [xh 46 2,qq 47 46,wX 48 cM 47,xb 49 48,qf 50 49,wU 51 50 1 2,wS 52 50 51,xM 53 50 .neq 52 ww,xA 54 50 53] (wn 54 [wK 4,wK 5,yS])) [qb 56 (.ld none (.c (.gp 1 0))),wR 57 2,qq 58 57,qb 59 (.lk 0 (.agg [qN,qz]) false (.t 56) (.t 58)),qb 60 (.fldv 1 none (.t 59)),qw 61 .gtr 60 0,qf 55 61] (wG 55 (.reg [qL 7 2,qL 8 2]) [wR 63 2,qq 64 63,wd 65 64 11,qf 66 65,wU 67 66 0 2,wS 68 66 67,xM 69 66 .eql 68 (qi 12),xA 70 66 69,qf 62 70] (qo 62 (.reg [qL 7 1,qL 8 1]) (qA [wK 4,wK 5,yS]))))))) (xC [wR 71 2,qq 72 71,wX 73 lU 72,qw 74 .lss 73 6,qf 75 74,wT 76 75 1 2,wQ 77 75 76,xp 78 75 .neq 77 ww,xY 79 75 78,wU 80 79 2 2,wS 81 79 80,qH 82 79 (yB .neq 81 (.c qN)),qI 83 75 (qM 79 wv (.t 82)),xZ 84 75 83,qf 85 84,wU 86 85 3 2,wS 87 85 86,qH 88 85 (qX 87),xc 89 85 7,xc 90 85 8,xg 91 85 aS (x8 88 (.t 89) (.t 90)),yf 92 85 91,xA 93 85 92,qf 94 93,xc 95 94 1,xM 96 94 .lss 95 wP,xA 97 94 96] (wn 97 [wK 4,wK 5,yS]) (xI [qL 9 1,qL 10 1] [yl 98 2,qq 99 98,q8 100 99,wK 101] (yT 1 [wF 102 101 100] 102 1 2 (qU [ws 103 4 99 101,yy 104 103,qW 12 [qz,qz,qN,.nils],qR 4 12 104] [yy 106 12,xq 107,xw 108 107 1,wD 109 gy 106 108,qf 105 109,xn 110 0 105,xn 111 1 105,xn 112 2 105,qf 13 110,qf 14 111,qf 15 112] (qC [qf 113 15,xb 114 113] (wn 114 [wK 4,wK 5,yS]) (ym [qf 115 9,qf 116 13,wg 117 .add 115 116,qf 9 117] [yQ 118,qf 119 14,xz 120 119,qb 121 (.mx (.t 118) (.t 120)),qf 10 121]))) 122 101 101 122) [qf 123 9,yQ 124,qf 125 9,qw 126 .leq 125 30,qf 4 123,qf 5 124,qf 6 126])))
def kF:FK:=⟨127,[.t 4,.t 5,.t 6],(AK.whole kz)⟩
theorem zV:am Tryz.prog gy=some kF:=by kernel_rfl
def nU:FK:=⟨13,xD,qU [yA 1 4,ye] [yy 7 1,wB 8 gy 7 (qi 6),yF 6,xn 9 0 6,xn 10 1 6,xn 11 2 6,qf 3 9,yQ 4,qf 5 11] (qA (wM (xd 12) 2 12))⟩
theorem vL:am Tryz.prog fx=some nU:=by kernel_rfl
def jL:FK:=⟨91,xv,qU [yA 2 5,xt] [wR 12 2,qq 13 12,wX 14 gB 13,qf 11 14,xn 15 0 11,xn 16 1 11,xn 17 2 11,xn 18 3 11,qf 5 15,qf 6 16,qf 7 17,qf 8 18] (qY 0 (qC (xQ (xq 20) (qw 21 .gtr 20 4) 19 21) (wG 19 .skip [xh 22 2,qq 23 22,q8 24 23,xd 25,wg 26 .neq 24 25,qf 19 26] (wG 19 .skip [x7 27,qf 28 27,wT 29 28 1 2,wQ 30 28 29,yq 31 28 cM (wW 30),qI 32 28 (wb 31),xZ 33 28 32,qf 19 33] (wG 19 .skip [x7 34,xb 35 34,qf 36 35,wT 37 36 1 2,wQ 38 36 37,qI 39 36 (yB .neq 38 (.c qN)),xZ 40 36 39,qf 19 40] (wG 19 .skip [yi 41,xb 42 41,qf 43 42,wT 44 43 3 2,wQ 45 43 44,qI 46 43 (qX 45),xp 47 43 .gtr 46 ww,xZ 48 43 47,qf 19 48] (wG 19 .skip [yF 49,xb 50 49,qf 51 50,wT 52 51 4 2,wQ 53 51 52,qI 54 51 (qX 53),xp 55 51 .gtr 54 ww,xZ 56 51 55,qf 19 56] (qo 19 .skip (.reg [wR 57 2,qq 58 57,wd 59 58 8,qf 60 59,wT 61 60 2 2,wQ 62 60 61,qI 63 60 (qO 4 62 ww),wT 64 60 0 63,wQ 65 60 64,xp 66 60 .neq 65 (qi 13),xZ 67 60 66,qf 19 67]))))))) (yz 19 xt)) (wE [xh 68 2,qq 69 68,q8 70 69,wK 71] (yT 1 [wF 72 71 70] 72 1 2 (qU [ws 73 4 69 71,yy 74 73,qW 10 [qz,qz,qN,.nils],qR 4 10 74] [yy 75 10,wX 76 fx 75,xb 77 76] (yz 77 xt)) 78 71 71 78) [yl 79 2,qq 80 79,xq 81,xz 82 81,wD 83 cU 80 82,qf 84 83,wT 85 84 4 2,wQ 86 84 85,xY 87 84 1,xp 88 84 .add 87 wP,yq 89 84 cU (wA 86 (.t 88)),xZ 90 84 89,qf 4 90]))⟩
theorem sT:am Tryz.prog jM=some jL:=by kernel_rfl
def nG:FK:=⟨8,xk 3,xa [yA 2 5,wz 3] [qJ 4 5 2,qq 5 1,wD 6 jM 4 5,xb 7 6,yi 3]⟩
theorem vZ:am Tryz.prog cR=some nG:=by kernel_rfl
def pI:FK:=⟨9,xv,xa [wx 3 1 1,xt] [q6 5,qb 6 (yk cR (wW 3)),wD 7 ca 5 6,xb 8 7,yF 4]⟩
theorem BL:am Tryz.prog cU=some pI:=by kernel_rfl
def uv:FK:=⟨31,[],qd [q6 8,q8 9 8,wK 10] (yT 0 [wF 11 10 9] 11 0 1 (qU [ws 12 5 8 10,qJ 13 5 12,qW 7 [qz,qN,.nils,.nils,.nils],qR 5 7 13] [qf 14 2,qJ 15 5 7,xq 16,qb 17 (yn 14 (wA 15 (.t 16)))] (ym [yl 18 7,qq 19 18,xq 20,xz 21 20,qf 22 2,ya 23 fw 19 (.t 21) 22] [qp 24 4 7,qq 25 24,xq 26,xz 27 26,qf 28 2,ya 29 fw 25 (.t 27) 28])) 30 10 10 30)⟩
theorem EB:am Tryz.prog fw=some uv:=by kernel_rfl
def oa:FK:=⟨11,[],qU [yA 4 5] [qq 6 2,xz 7 6,xr 2 7] (.reg [qq 8 3,xq 9,qb 10 (.mx (.t 8) (.t 9)),xr 3 10])⟩
theorem vP:am Tryz.prog fv=some oa:=by kernel_rfl
def rb:FK:=⟨20,[.c 2 none,.c 3 none],xI [yA 1 1,qW 2 yp,qW 3 yp] [wR 6 1,qq 7 6,q8 8 7,wK 9] (yT 0 [wF 10 9 8] 10 0 1 (ym [ws 11 3 7 9,qJ 12 3 11,qW 5 yK,qR 3 5 12] [xh 13 5,qq 14 13,qb 15 (yk fv (wA 2 (.t 3))),ya 16 fw 14 wP 15]) 17 9 9 17) [qq 18 2,qq 19 3,xr 2 18,wI 3 19,xr 3 19]⟩
theorem Cp:am Tryz.prog lZ=some rb:=by kernel_rfl
def je:FK:=⟨6,xD,xa [ye] [q6 3,wX 4 cM 3,xb 5 4,xd 2]⟩
theorem py:am Tryz.prog bE=some je:=by kernel_rfl
def kO:FK:=⟨48,xD,xW [yA 1 1,ye] [wR 7 1,qq 8 7,q8 9 8,x9 10 aS 9 wP (qi 4),xb 11 10] (yz 11 ye) (qC [wR 12 1,qq 13 12,q8 14 13,wK 15] (yT 0 [wF 16 15 14] 16 0 1 (qU [ws 17 3 13 15,qJ 18 3 17,qW 4 yK,qR 3 4 18] [wR 19 4,qq 20 19,wX 21 cM 20,xb 22 21,qf 23 22,wU 24 23 1 4,wS 25 23 24,qH 26 23 (qX 25),xM 27 23 .gtr 26 xP,xA 28 23 27,qf 29 28,wU 30 29 1 4,wS 31 29 30,xg 32 29 cy (wA 31 (.c (.fn (.func bE) []))),xA 33 29 32,qf 34 33,wU 35 34 2 4,wS 36 34 35,xg 37 34 cU (wA 36 wP),yf 38 34 37,xA 39 34 38] (yz 39 ye)) 40 15 15 40) (xa [qJ 42 1 1,wX 43 lZ 42,qf 41 43,xn 44 0 41,xn 45 1 41,qf 5 44,qf 6 45] (xQ (xd 46) (qw 47 .leq 46 40) 2 47)))⟩
theorem rW:am Tryz.prog fY=some kO:=by kernel_rfl
def fh:FK:=⟨19,xv,xI yM [q6 6,q8 7 6,wK 8] (yT 0 [wF 9 8 7] 9 0 1 (qU (wM (yF 10) 5 10) [xq 11,yP,xd 13,ws 14 3 12 13,qJ 15 3 14,qb 16 (yn 11 (wW 15))] (wn 16 (wM (xd 17) 4 17))) 18 8 8 18) [qL 4 (-1)]⟩
theorem lN:am Tryz.prog cY=some fh:=by kernel_rfl
def sV:FK:=⟨8,xk 3,xa [yA 2 3,wz 3] [wR 4 2,qq 5 4,qq 6 1,qb 7 (yB .eql 5 (.t 6)),yi 3]⟩
theorem Dd:am Tryz.prog gv=some sV:=by kernel_rfl
def zr:FK:=⟨9,xv,xa [yA 2 1,wx 3 1 1,wK 4] [wR 5 2,qq 6 5,qb 7 (yk gv (wW 3)),wD 8 cY 6 7,yF 4]⟩
theorem Gz:am Tryz.prog jT=some zr:=by kernel_rfl
def fP:FK:=⟨13,[],qd [q6 4,qZ 5 4,xh 6 5,qq 7 6,wd 8 7 0] (xF 8 [q6 9,xq 10,qZ 11 9,xh 12 11,xr 12 10])⟩
theorem rZ:am Tryz.prog cH=some fP:=by kernel_rfl
def iA:FK:=⟨7,xD,xa [qc 2 (.c .nilp)] [qb 3 .mkm,q6 4,wt 5 [.nilm,.nilp] [yr 3,wY 1 4],wx 6 2 5,x7 2]⟩
theorem uF:am Tryz.prog bn=some iA:=by kernel_rfl
def uP:FK:=⟨20,[],qU [yA 2 4] [xq 6,yy 7 2,qb 8 (yn 6 (wW 7))] (qd [yl 9 2,qq 10 9,q8 11 10,wK 12] (yT 0 [wF 13 12 11] 13 0 1 (ym [ws 14 4 10 12,yy 15 14,qW 5 [qz,qz,qN,.nils],qR 4 5 15] [yy 16 5,xq 17,wD 18 kX 16 17]) 19 12 12 19))⟩
theorem EZ:am Tryz.prog kX=some uP:=by kernel_rfl
def iF:FK:=⟨25,[.t 4,.t 5],xu [wK 4,wz 5] (xm 0 [q6 8,qb 9 (.pnil 0 true (.t 8))] 9 0 1 (qU [q6 15,qZ 16 15,wR 17 16,qq 18 17,xq 19,qb 20 (.lk 1 qz true (.t 18) (.t 19)),qf 14 20,xn 21 0 14,xn 22 1 14,qf 6 21,qf 7 22] [yi 23] (wn 23 [x7 24,qf 4 24,qc 5 wv])) [q6 10,qZ 11 10,xy 12 11,qq 13 12,qf 0 13]) (qA [wK 4,wz 5])⟩
theorem mH:am Tryz.prog bp=some iF:=by kernel_rfl
def ja:FK:=⟨58,[],qU [yA 3 4] [wR 7 3,qq 8 7] (yR 0 (wN 10 8 2 9 10) (xE 9 (qU [qq 12 1,xh 13 3,qq 14 13,wD 15 bp 12 14,qf 11 15,xn 16 0 11,xn 17 1 11,qf 4 16,qf 5 17] [xd 18,xb 19 18] (xF 19 [qq 20 2,yE 21 20 xP])) 23 8 13 22 23 (qS 22 (qU [xh 35 3,qq 24 2,qZ 25 24,wR 26 25,wR 27 26,qq 28 27,qq 29 2,qZ 30 29,xy 31 30,qq 32 31,qb 33 (.slS 3 (.t 28) none (some (.t 32))),wt 34 xL [yr 33],qq 36 35,wD 37 jT 34 36,qf 6 37] [x7 38,qw 39 .lss 38 0] (wG 39 (.reg [qq 40 2,yE 41 40 (qi 4)]) [x7 47,yl 52 3,qq 42 2,qZ 43 42,wR 44 43,wR 45 44,qq 46 45,ws 48 3 46 47,xy 49 48,qq 50 49,q8 51 50,qq 53 52,q8 54 53,wg 55 .neq 51 54] (xF 55 [qq 56 2,yE 57 56 (qi 5)]))))))⟩
theorem pq:am Tryz.prog cd=some ja:=by kernel_rfl
def fO:FK:=⟨9,[],ym [yA 3 1,wx 4 4 1,wx 5 1 2] [yy 6 4,qb 7 (yk cd (wA 5 (.t 3))),wD 8 kX 6 7]⟩
theorem sk:am Tryz.prog dG=some fO:=by kernel_rfl
def fk:AK:=qd [xq 14,q8 15 14,wK 16] (yT 0 [wF 17 16 15] 17 0 1 (xW [ws 18 5 14 16,qJ 19 5 18,qW 7 [qz,qN,.nils,.nils,.nils],qR 5 7 19] [xh 20 7,qq 21 20,q8 22 21,wK 23] (yT 2 [wF 24 23 22] 24 2 3 (ym [ws 25 4 21 23,yy 26 25,qW 9 [qz,qz,qN,.nils],qR 4 9 26] [q6 27,yy 28 9,qf 29 2,ya 30 dG 27 (.t 28) 29]) 31 23 23 31) (xC [wR 32 7,qq 33 32] (yR 4 (wN 35 33 1 34 35) (xE 34 (qC [qf 37 2,qZ 38 37,wR 39 38,xy 41 7,qq 40 39,qq 42 41,qb 43 (.lk 1 qz true (.t 40) (.t 42)),qf 36 43,xn 44 0 36,xn 45 1 36,qf 10 44,qf 11 45] (qd [qf 46 11] (xF 46 [q6 47,yE 48 47 xJ])) (.reg [qf 49 2,qZ 50 49,wR 51 50,xy 53 7,qq 52 51,qq 54 53,qD (.mup 1 (.t 52) (.t 54) ww)])) 56 33 2 55 56 (qS 55 (qU [qf 58 2,xy 59 7,qq 60 59,wD 61 bp 58 60,qf 57 61,xn 62 0 57,xn 63 1 57,qf 12 62,qf 13 63] [qf 64 13,xb 65 64] (xF 65 [q6 66,yE 67 66 xP]))))) (qd [wR 68 7,qq 69 68,wd 70 69 5,qf 71 70,wU 72 71 0 7,wS 73 71 72,xM 74 71 .eql 73 (qi 6),xA 75 71 74] (qS 75 (ym [q6 76,yl 77 7,qf 79 2,qq 78 77,wX 80 bn 79,wI 77 78,ya 81 bP 76 (.t 78) 80] [q6 82,qp 83 4 7,qf 85 2,qq 84 83,wX 86 bn 85,wI 83 84,ya 87 bP 82 (.t 84) 86]))))) 88 16 16 88)
def fc:FK:=⟨89,[],(AK.whole fk)⟩
theorem rg:am Tryz.prog bP=some fc:=by kernel_rfl
def fW:AK:=xW [yA 1 1,wK 2] [qJ 11 1 1,wX 12 fY 11,xb 13 12] (yz 13 (qL 2 1)) (xI [qJ 14 1 1,wt 15 [.nils,qz,qz] [yr 14],wx 16 3 15,qf 3 16] [wR 17 1,qq 18 17,q8 19 18,wK 20] (yT 0 [wF 21 20 19] 21 0 1 (qU [qf 22 20,ws 23 3 18 20,qJ 24 3 23,qW 5 yK,qf 4 22,qR 3 5 24] [yx 25,xV 26,qZ 27 25,xy 28 27,xr 28 26] (xC [qJ 29 1 1,wR 30 5,qq 31 30,wD 32 jT 29 31,xV 33,wF 34 32 33] (xF 34 [yx 35,yE 36 35 xJ]) (xW (wM (qn 37 bn [.c .nilp]) 6 37) [xy 38 5,qq 39 38,q8 40 39,wK 41] (yT 2 [wF 42 41 40] 42 2 3 (xW (xQ (ws 43 1 39 41) (qq 44 43) 8 44) [x7 46,qZ 47 46,wR 48 47,qq 49 48,yF 50,qb 51 (.lk 1 qz true (.t 49) (.t 50)),qf 45 51,xn 52 0 45,xn 53 1 45,qf 9 52,qf 10 53] (qd [yQ 54] (xF 54 [yx 55,yE 56 55 xJ])) (.reg [x7 57,qZ 58 57,wR 59 58,qq 60 59,yF 61,qD (.mup 1 (.t 60) (.t 61) ww)])) 62 41 41 62) (.reg [yx 63,xh 64 5,qq 65 64,x7 66,ya 67 bP 63 (.t 65) 66])))) 68 20 20 68) [yx 69,qZ 70 69,xh 71 70,qq 72 71,qf 2 72])
def fZ:FK:=⟨73,xD,(AK.whole fW)⟩
theorem sb:am Tryz.prog gf=some fZ:=by kernel_rfl
def zz:FK:=⟨6,xD,xa [yA 1 1,ye] [qJ 3 1 1,wX 4 gf 3,wd 5 4 0,xd 2]⟩
theorem Fu:am Tryz.prog re=some zz:=by kernel_rfl
def gZ:FK:=⟨22,xv,qU [qc 4 xB] [qc 5 xB] (wE [q6 8,q8 9 8,wK 10] (yT 0 [wF 11 10 9] 11 0 1 (ym [ws 12 3 8 10,qJ 13 3 12,qW 7 yK,qR 3 7 13] [xd 14,xq 15,qJ 16 3 7,qb 17 (yn 15 (wW 16)),yO 18 3 (yI qz qz) 1 3 17,xo 19 3 40 14 18,qf 5 19]) 20 10 10 20) (wM (xd 21) 4 21))⟩
theorem og:am Tryz.prog cx=some gZ:=by kernel_rfl
def dS:FK:=⟨10,xD,xI (xG 2) [q6 3] (yR 0 (wN 5 3 1 4 5) (xE 4 (qA [qL 2 1]) 7 3 2 6 7 (xE 6 (qA [qL 2 2]) 9 3 3 8 9 (wn 8 (xG 2))))) [qL 2 (-1)]⟩
theorem vv:am Tryz.prog jm=some dS:=by kernel_rfl
def mX:FK:=⟨9,xD,xa [ye] [q6 3,wd 4 3 2,xV 5,xc 6 5 0,xM 7 5 .eql 6 xP,xA 8 5 7,yF 2]⟩
theorem Dm:am Tryz.prog jP=some mX:=by kernel_rfl
def ik:FK:=⟨19,xv,xI yM [q6 6,q8 7 6,wK 8] (yT 0 [wF 9 8 7] 9 0 1 (qU (wM (yF 10) 5 10) [xq 11,yP,xd 13,ws 14 1 12 13,qq 15 14,qb 16 (yn 11 (wW 15))] (wn 16 (wM (xd 17) 4 17))) 18 8 8 18) [qL 4 (-1)]⟩
theorem oM:am Tryz.prog eb=some ik:=by kernel_rfl
def fD:FK:=⟨9,xv,xa [xt] [q6 5,xq 6,wD 7 eb 5 6,qw 8 .geq 7 0,yF 4]⟩
theorem mv:am Tryz.prog bB=some fD:=by kernel_rfl
def eU:FK:=⟨19,xv,xI yM [q6 6,q8 7 6,wK 8] (yT 0 [wF 9 8 7] 9 0 1 (qU (wM (yF 10) 5 10) [xq 11,yP,xd 13,ws 14 4 12 13,yy 15 14,qb 16 (yn 11 (wW 15))] (wn 16 (wM (xd 17) 4 17))) 18 8 8 18) [qL 4 (-1)]⟩
theorem la:am Tryz.prog cL=some eU:=by kernel_rfl
def dO:FK:=⟨9,xv,xa [xt] [q6 5,xq 6,wD 7 cL 5 6,qw 8 .geq 7 0,yF 4]⟩
theorem jh:am Tryz.prog ck=some dO:=by kernel_rfl
def lT:FK:=⟨19,xv,xI yM [q6 6,q8 7 6,wK 8] (yT 0 [wF 9 8 7] 9 0 1 (qU (wM (yF 10) 5 10) [xq 11,yP,xd 13,ws 14 1 12 13,qq 15 14,wg 16 .eql 11 15] (wn 16 (wM (xd 17) 4 17))) 18 8 8 18) [qL 4 (-1)]⟩
theorem tj:am Tryz.prog gH=some lT:=by kernel_rfl
def jc:FK:=⟨9,xv,xa [xt] [q6 5,xq 6,wD 7 gH 5 6,qw 8 .geq 7 0,yF 4]⟩
theorem pp:am Tryz.prog eI=some jc:=by kernel_rfl
def pL:FK:=⟨33,xv,qU [yA 2 3,qc 4 xB] [qc 5 xB] (qC [xq 8,xh 9 2,qq 10 9,q8 11 10,xw 12 11 1,ya 13 aS 8 ww 12,xb 14 13] (yz 14 (qc 4 xB)) (wE [xh 15 2,qq 16 15,q8 17 16,wK 18] (yT 0 [wF 19 18 17] 19 0 1 (qU [qf 20 18,ws 21 5 16 18,qJ 22 5 21,qW 7 [.nils,.nils,qz,qz,.nils],qf 6 20,qR 5 7 22] [qp 23 4 7,qq 24 23,xq 25,wD 26 eI 24 25] (xF 26 [xd 27,x7 28,yu 29 1 1 [yr 28],xo 30 1 8 27 29,qf 5 30])) 31 18 18 31) (wM (xd 32) 4 32)))⟩
theorem At:am Tryz.prog iv=some pL:=by kernel_rfl
def pf:FK:=⟨9,xk 3,xa [wz 3] [q6 4,xy 5 1,qq 6 5,xw 7 6 1,ya 8 aS 4 ww 7,yF 3]⟩
theorem zP:am Tryz.prog bZ=some pf:=by kernel_rfl
def oZ:FK:=⟨11,xk 3,xa [wz 3] [q6 4,xh 5 1,qq 6 5,q8 7 6,xw 8 7 1,ya 9 aS 4 wP 8,xb 10 9,yQ 3]⟩
theorem zQ:am Tryz.prog kG=some oZ:=by kernel_rfl
def uk:FK:=⟨5,xD,xa [ye] (xQ (q6 3) (x9 4 aS 3 wP (qi 14)) 2 4)⟩
theorem Fc:am Tryz.prog kV=some uk:=by kernel_rfl
def zA:FK:=⟨13,xD,xa [ye] [q6 3,wX 4 kV 3,xV 5,xY 6 5 0,xp 7 5 .neq 6 (qi 12),xZ 8 5 7,yF 9,xY 10 9 0,xp 11 9 .neq 10 (qi 13),xZ 12 9 11,qf 2 12]⟩
theorem Hh:am Tryz.prog mw=some zA:=by kernel_rfl
def cX:FK:=⟨11,xD,xI (xG 2) [q6 3] (yR 0 (wN 5 3 1 4 5) (qo 4 (qA (xG 2)) (qC (wN 7 3 2 6 7) (xE 6 .skip 8 3 10 6 8 (xE 6 .skip 9 3 11 6 9 (qo 6 .skip (.reg (wN 10 3 13 6 10))))) (yz 6 (qL 2 1))))) [qL 2 2]⟩
theorem BC:am Tryz.prog ln=some cX:=by kernel_rfl
def rA:FK:=⟨9,xk 3,xa [wz 3] [q6 4,xy 5 1,qq 6 5,xw 7 6 1,ya 8 aS 4 ww 7,yF 3]⟩
theorem Cv:am Tryz.prog dI=some rA:=by kernel_rfl
def ro:FK:=⟨8,xk 3,xa [wz 3] [qq 4 1,q6 5,qb 6 (yn 4 (wW 5)),xb 7 6,yi 3]⟩
theorem BV:am Tryz.prog lS=some ro:=by kernel_rfl
def oD:AK:=qU [yA 3 1,wx 5 4 2,yS] [wR 9 3,qq 10 9,xq 11,ws 12 3 10 11,qJ 13 3 12,qW 7 (yI qz qz),qR 3 7 13] (qd [qb 14 (yk dI (wW 7)),qW 8 [.nilf],xr 8 14] (xC [wR 15 5,qq 16 15,wX 17 kV 16,xb 18 17,qf 19 18,wU 20 19 2 5,wS 21 19 20,qH 22 19 (yk lS (wW 8)),xg 23 19 bB (wA 21 (.t 22)),xA 24 19 23] (yz 24 yS) (xC [wR 25 5,qq 26 25,wX 27 mw 26,qf 28 27,wQ 29 28 8,wT 30 28 1 5,wQ 31 28 30,qI 32 28 (yn 29 (wW 31)),qI 33 28 (wb 32),xZ 34 28 33,qf 35 34,wU 36 35 0 5,wS 37 35 36,xg 38 35 mw (wW 37),yf 39 35 38,xc 40 35 39,wT 41 40 1 5,wQ 42 40 41,xp 43 40 .neq 42 (qi (-1)),qH 44 35 (qM 40 (.t 43) qP),xA 45 35 44] (yz 45 yS) (wE [wR 46 5,qq 47 46] (yR 0 (wN 49 47 1 48 49) (xE 48 (qA [xh 50 5,qq 51 50,q8 52 51,wd 53 52 0,qf 54 53,wT 55 54 3 5,wQ 56 54 55,yq 57 54 jC (wW 56),xZ 58 54 57,qf 6 58]) 60 47 14 59 60 (wn 59 [yl 61 5,xq 63,xw 64 63 1,qq 62 61,ya 65 aS 62 ww 64,qf 66 65,wT 67 66 2 5,wT 70 66 0 3,wT 72 66 3 5,wQ 68 66 67,qI 69 66 (qX 68),wQ 71 66 70,wQ 73 66 72,qI 74 66 (qO 3 71 (.t 73)),wT 75 66 0 74,wQ 76 66 75,xp 77 66 .eql 69 (.t 76),xZ 78 66 77,qf 6 78]))) [yl 79 5,qq 80 79,wd 81 80 0,qf 82 81,wT 83 82 2 5,wT 86 82 0 5,wQ 84 82 83,qI 85 82 (qX 84),wQ 87 82 86,qI 88 82 (.qcall ln (wW 87)),xp 89 82 .eql 85 (.t 88),xZ 90 82 89,qf 6 90]))))
def oY:FK:=⟨91,xk 6,(AK.whole oD)⟩
theorem Eg:am Tryz.prog oF=some oY:=by kernel_rfl
def pn:FK:=⟨10,xv,xa [yA 3 4,xt] [qJ 5 1 1,qq 6 2,yy 7 3,ya 8 oF 5 (.t 6) 7,xb 9 8,qf 4 9]⟩
theorem zX:am Tryz.prog ko=some pn:=by kernel_rfl
def po:FK:=⟨8,xk 3,xa [wz 3] [qq 4 1,q6 5,qb 6 (yn 4 (wW 5)),xb 7 6,yi 3]⟩
theorem zS:am Tryz.prog kx=some po:=by kernel_rfl
def mT:AK:=qU [yA 2 1,wx 3 1 1,xt] [wR 12 2,qq 13 12,qq 14 3,ws 15 3 13 14,qJ 16 3 15,qW 5 (yI qz qz),qR 3 5 16] (xC [xy 17 5,qq 18 17,x9 19 aS 18 ww (qi 300),xb 20 19,qf 21 20,wU 22 21 0 5,wS 23 21 22,wU 24 21 1 5,wS 25 21 24,qH 26 21 (.mn xP (.t 25)),xg 27 21 aS (x8 23 ww (.t 26)),yf 28 21 27,xA 29 21 28,qf 30 29,wU 31 30 2 5,wS 32 30 31,qH 33 30 (qX 32),xg 34 30 aS (x8 33 wP (qi 160)),yf 35 30 34,xA 36 30 35] (yz 36 xt) (xI [qb 37 (yk bZ (wW 5)),qW 6 [.nilf],xr 6 37] [xh 38 5,qq 39 38,q8 40 39,wK 41] (yT 0 [wF 42 41 40] 42 0 1 (qd [qf 43 41,ws 44 5 39 41,qJ 45 5 44,qW 8 [.nils,.nils,qz,qz,.nils],qf 7 43,qR 5 8 45] (xC [qp 46 4 8,xh 49 8,qq 47 46,q8 48 47,qq 50 49,wX 51 jm 50,wI 46 47,wg 52 .neq 48 51,qf 53 52,wU 54 53 2 8,wS 55 53 54,xg 56 53 jP (wW 55),xc 57 53 56,wT 59 57 3 8,wQ 58 57 6,wQ 60 57 59,qI 61 57 (yn 58 (wW 60)),qI 62 57 (wb 61),qH 63 53 (qM 57 (.t 62) qP),xA 64 53 63,qf 65 64,wU 66 65 2 8,wS 67 65 66,xg 68 65 jP (wW 67),yf 69 65 68,xc 70 65 69,wT 71 70 3 8,wQ 72 70 71,xp 73 70 .neq 72 ww,qH 74 65 (qM 70 (.t 73) qP),xA 75 65 74] (yz 75 xt) (xC [qp 76 4 8,qq 77 76,qb 78 (yk kG (wW 5)),wD 79 bB 77 78,qf 80 79,wU 81 80 1 8,wS 82 80 81,qH 83 80 (yk ko (wA 2 (.t 3))),xg 84 80 ck (wA 82 (.t 83)),xA 85 80 84] (yz 85 xt) (.cut (.reg [qJ 86 3 5,yi 87,wD 88 iv 86 87,q8 89 88,qf 9 89]) (qd [wR 90 8,qq 91 90,q8 92 91,wK 93] (yT 2 [wF 94 93 92] 94 2 3 (qU [ws 95 2 91 93,qJ 96 2 95,qW 11 [qz,.nils],qR 2 11 96] [yi 97,wd 98 97 0,qf 99 98,wS 100 99 6,wU 101 99 0 11,wS 102 99 101,qH 103 99 (yn 100 (wW 102)),yf 104 99 103,xA 105 99 104,qf 106 105,wU 107 106 1 11,wS 108 106 107,qH 109 106 (qX 108),xc 110 106 9,xM 111 106 .neq 109 (.t 110),xA 112 106 111,qf 113 112,wU 114 113 1 11,wS 115 113 114,qH 116 113 (yk kx (wW 6)),xg 117 113 bB (wA 115 (.t 116)),xA 118 113 117] (yz 118 xt)) 119 93 93 119)))))) 120 41 41 120) [qc 4 wv]))
def ni:FK:=⟨121,xv,(AK.whole mT)⟩
theorem Df:am Tryz.prog na=some ni:=by kernel_rfl
def nI:FK:=⟨24,xD,qU [yA 1 3,wK 2] (xG 3) (wE [xh 6 1,qq 7 6,q8 8 7,wK 9] (yT 0 [wF 10 9 8] 10 0 1 (ym [ws 11 5 7 9,qJ 12 5 11,qW 5 [.nils,.nils,qz,qz,.nils],qR 5 5 12] [yx 13,wR 14 5,qq 15 14,q8 16 15,xy 17 5,qq 18 17,q8 19 18,wg 20 .add 16 19,wg 21 .add 13 20,qf 3 21]) 22 9 9 22) (wM (yx 23) 2 23))⟩
theorem vH:am Tryz.prog jk=some nI:=by kernel_rfl
def nX:FK:=⟨30,xD,xW [yA 1 1,ye] [wR 6 1,qq 7 6,q8 8 7,x9 9 aS 8 wP (qi 4),xb 10 9] (yz 10 ye) (xI (xG 3) [wR 11 1,qq 12 11,q8 13 12,wK 14] (yT 0 [wF 15 14 13] 15 0 1 (xW [qf 16 14,ws 17 3 12 14,qJ 18 3 17,qW 5 (yI qz qz),qf 4 16,qR 3 5 18] [qJ 19 1 1,xV 20,wD 21 na 19 20,xb 22 21] (yz 22 ye) (.reg [yx 23,qJ 24 3 5,wX 25 jk 24,wg 26 .add 23 25,qf 3 26])) 27 14 14 27) (xQ (yx 28) (qw 29 .leq 28 800) 2 29))⟩
theorem vD:am Tryz.prog jr=some nX:=by kernel_rfl
def iE:FK:=⟨10,[],qU [yA 3 5] [wR 5 3,qq 6 5,wd 7 6 1] (xF 7 [qq 8 2,xz 9 8,xr 2 9])⟩
theorem uT:am Tryz.prog eQ=some iE:=by kernel_rfl
def pg:FK:=⟨12,xD,qU [yA 1 3,wK 2] [xy 4 1,qq 5 4,q8 6 5,qW 3 yp,xr 3 6] (xa [xh 7 1,qq 8 7,qb 9 (yk eQ (wW 3)),ya 10 fw 8 wP 9] (wM (qq 11 3) 2 11))⟩
theorem zN:am Tryz.prog ky=some pg:=by kernel_rfl
def fb:FK:=⟨24,[.t 4],
 .seq (.reg [⟨(some 4),none,.mov (.c (.p (.int .i64 0)))⟩])
 (.seq (.reg [⟨(some 6),none,.mov (.t 0)⟩,
   ⟨(some 7),none,.nilck (.t 6)⟩,
   ⟨(some 8),none,.fldA 1 (.t 7)⟩,
   ⟨(some 9),none,.fldA 2 (.t 8)⟩,
   ⟨(some 10),none,.ld none (.t 9)⟩,
   ⟨(some 11),none,.len false (.t 10)⟩,
   ⟨(some 5),none,.mov (.t 11)⟩])
 (.seq (.reg [⟨(some 12),none,.mov (.t 0)⟩,
   ⟨(some 13),none,.mov (.t 0)⟩,
   ⟨(some 14),none,.nilck (.t 13)⟩,
   ⟨(some 15),none,.fldA 1 (.t 14)⟩,
   ⟨(some 16),none,.fldA 2 (.t 15)⟩,
   ⟨(some 17),none,.ld none (.t 16)⟩,
   ⟨(some 18),none,.mov (.t 1)⟩,
   ⟨(some 19),none,.appz 5 88 [.nils,.nils,(.p (.int .i64 0)),(.p (.int .i64 0)),.nils] (.t 17) (.t 18)⟩,
   ⟨(some 20),none,.nilck (.t 12)⟩,
   ⟨(some 21),none,.fldA 1 (.t 20)⟩,
   ⟨(some 22),none,.fldA 2 (.t 21)⟩,
   ⟨none,none,.st 1 (.t 22) (.t 19)⟩])
 (.seq (.reg [⟨(some 23),none,.mov (.t 5)⟩,
   ⟨(some 4),none,.mov (.t 23)⟩])
 (.ret))))⟩
theorem ki:am Tryz.prog be=some fb:=by kernel_rfl
def kJ:FK:=⟨37,[],qU [q6 11,qZ 12 11,xy 13 12,xh 14 13,q6 16,qZ 17 16,qp 18 4 17,qq 15 14,qq 19 18,ws 20 5 15 19,qf 10 20] [yQ 21,yQ 22,yQ 23,xq 24,qf 25 2,xV 26,qZ 27 21,xh 28 27,xr 28 24,qZ 29 22,yl 30 29,xr 30 25,qZ 31 23,qp 32 4 31,xr 32 26] (.reg [q6 33,yx 34,qZ 35 33,qp 36 4 35,xr 36 34])⟩
theorem sf:am Tryz.prog fI=some kJ:=by kernel_rfl
def kN:FK:=⟨18,xD,qU (xG 2) [q6 3,qZ 4 3,xy 5 4,xy 6 5,qq 7 6,xz 8 7,qZ 9 3,xy 10 9,xy 11 10,xr 11 8] (qA [yP,qZ 13 12,xy 14 13,xy 15 14,qq 16 15,xw 17 16 1,qf 2 17])⟩
theorem rV:am Tryz.prog ga=some kN:=by kernel_rfl
def fJ:FK:=⟨25,[],qU [wx 3 4 1] [q6 5,qZ 6 5,xy 7 6,xh 8 7,q6 10,qZ 11 10,qp 12 4 11,qq 9 8,qq 13 12,ws 14 5 9 13,qf 4 14] (.reg [xV 15,xV 16,qZ 17 16,xy 18 17,qq 19 18,yy 20 3,yO 21 4 [qz,qz,.nils,qz] 1 4 20,wI 18 19,xo 22 4 48 19 21,qZ 23 15,xy 24 23,xr 24 22])⟩
theorem sr:am Tryz.prog bl=some fJ:=by kernel_rfl
def kg:FK:=⟨20,xk 8,qU (xG 8) (xQ (q6 10) (wX 11 ga 10) 9 11) (xa [yP,xq 13,qf 14 9,yx 15,qf 16 2,wt 17 [qz,qz,.nils,qz] [yr 13,wY 1 14,wY 2 15,wY 3 16],wD 18 bl 12 17] (wM (qf 19 9) 8 19))⟩
theorem pR:am Tryz.prog eZ=some kg:=by kernel_rfl
def mS:FK:=⟨22,xv,qU [qc 4 xB] [qc 5 xB] (wE [q6 8,q8 9 8,wK 10] (yT 0 [wF 11 10 9] 11 0 1 (ym [ws 12 4 8 10,yy 13 12,qW 7 [qz,qz,qN,.nils],qR 4 7 13] [xd 14,xq 15,yy 16 7,qb 17 (yn 15 (wW 16)),yu 18 1 1 [yr 17],xo 19 1 8 14 18,qf 5 19]) 20 10 10 20) (wM (xd 21) 4 21))⟩
theorem uV:am Tryz.prog eO=some mS:=by kernel_rfl
def iV:FK:=⟨9,xv,xa [yA 3 4,wK 4] [qq 5 1,yy 6 3,qq 7 2,ya 8 bw 5 (.t 6) 7,yF 4]⟩
theorem oz:am Tryz.prog dW=some iV:=by kernel_rfl
def cw:FK:=⟨112,xk 6,xW [yA 3 1,wx 4 4 1,wx 5 1 2,wK 6] [wR 15 4,qq 16 15] (yR 0 (wN 18 16 1 17 18) (xE 17 (qA [qq 19 3,xy 20 4,qq 21 20,xX 22 [.t 19,wP,.t 21,xB],qf 6 22]) 24 16 2 23 24 (xE 23 (xa [qq 26 5,xh 27 4,qq 28 27,wD 29 bp 26 28,qf 25 29,xn 30 0 25,xn 31 1 25,qf 7 30,qf 8 31] (wM (yi 32) 6 32)) 34 16 10 33 34 (qS 33 (qU [yl 36 4,qq 35 3,qq 37 36,wl 38 4 37 ww,yy 39 38,qq 40 5,ya 41 bw 35 (.t 39) 40,qf 9 41] (xQ (qq 42 3) (xX 43 [.t 42,wP,ww,xB]) 10 43) (qU (xQ (qq 44 3) (wB 45 be 44 xJ) 11 45) [qq 46 3,qf 47 9,qf 48 11,qf 49 11,qf 50 11,xz 51 50,yu 52 1 2 [yr 49,wY 1 51],xH 53 [.t 46,xJ,.t 47,.t 48,.t 52]] (qU [yl 55 4,qq 54 3,qq 56 55,wl 57 4 56 wP,yy 58 57,qq 59 5,ya 60 bw 54 (.t 58) 59,qf 12 60] [qq 61 3,qf 62 12,yu 63 1 1 [yr 62],xX 64 [.t 61,qi 10,ww,.t 63],qf 13 64] (qU [qq 65 3,yQ 66,qf 67 13,yu 68 1 1 [yr 67],wt 69 [qz,qz,.nils,qz] [yH 0 10,wY 1 66,wY 2 68,(3,1,ww)],wD 70 bl 65 69] [qq 71 3,qf 72 11,xz 73 72,qf 74 11,xz 75 74,yu 76 1 1 [yr 75],xH 77 [.t 71,wP,ww,.t 73,.t 76]] (qA (wM (yQ 78) 6 78)))))))))) (xI [yl 79 4,qq 80 79,qb 81 (yk dW (wA 3 (.t 5))),wD 82 eO 80 81,qf 14 82] [wR 83 4,qq 84 83] (yR 1 (wN 86 84 11 85 86) (xE 85 (qA [qq 87 3,qf 88 14,xX 89 [.t 87,qi 10,ww,.t 88],qf 6 89]) 91 84 12 90 91 (xE 90 (qA [qq 92 3,qf 93 14,xX 94 [.t 92,qi 11,ww,.t 93],qf 6 94]) 96 84 13 95 96 (wn 95 [xh 102 4,qf 105 14,qq 97 3,qq 98 3,qZ 99 98,wR 100 99,qJ 101 1 100,qq 103 102,wD 104 jT 101 103,wI 3 97,xX 106 [.t 97,qi 14,.t 104,.t 105],qf 6 106])))) [qq 107 3,wR 108 4,qq 109 108,qf 110 14,xX 111 [.t 107,.t 109,ww,.t 110],qf 6 111])⟩
theorem pH:am Tryz.prog bw=some cw:=by kernel_rfl
def ic:FK:=⟨9,xv,xa [yA 3 4,wK 4] [qq 5 1,yy 6 3,qq 7 2,ya 8 bw 5 (.t 6) 7,yF 4]⟩
theorem oc:am Tryz.prog dM=some ic:=by kernel_rfl
def jb:FK:=⟨176,[],qU [yA 4 1,wx 6 1 2] [xq 16,q8 17 16,wK 18] (yT 0 [wF 19 18 17] 19 0 1 (xW [ws 20 5 16 18,qJ 21 5 20,qW 9 [qz,qN,.nils,.nils,.nils],qR 5 9 21] [wR 22 9,qq 23 22,wd 24 23 6] (qS 24 (qU (xQ (qq 25 4) (wB 26 be 25 xP) 10 26) [qq 27 4,yQ 28,yQ 29,yu 30 1 1 [yr 29],xH 31 [.t 27,wP,ww,.t 28,.t 30]] (qU [xh 33 9,qq 32 4,qq 34 33,wl 35 4 34 ww,yy 36 35,qq 37 6,ya 38 bw 32 (.t 36) 37,qf 11 38] [qq 39 4,qf 40 11,yQ 41,xz 42 41,yQ 43,xz 44 43,yQ 45,wq 46 45 2,yu 47 1 2 [yr 44,wY 1 46],xH 48 [.t 39,xJ,.t 40,.t 42,.t 47]] (qU [yl 50 9,yx 54,qq 49 4,qq 51 50,qq 52 6,wX 53 bn 52,wI 4 49,wI 50 51,qn 55 bF [.t 49,.t 51,.t 53,.t 54]] [qq 56 4,yQ 57,wq 58 57 2,yQ 59,yu 60 1 1 [yr 59],xH 61 [.t 56,wP,ww,.t 58,.t 60]] (.exit 1))))) (qU [xh 62 9,qq 63 62,qb 64 (yk dM (wA 4 (.t 6))),wD 65 eO 63 64,qf 12 65] [wR 66 9,qq 67 66] (yR 2 (wN 69 67 1 68 69) (xE 68 (qU [xy 74 9,yx 76,qZ 77 76,wR 78 77,qq 70 6,qZ 71 70,wR 72 71,qq 73 72,qq 75 74,qq 79 78,qD (.mup 1 (.t 73) (.t 75) (.t 79))] [yx 80,qZ 81 80,wR 82 81,qq 83 82,xz 84 83,qZ 85 80,wR 86 85,xr 86 84] (.reg [xy 92 9,qf 95 12,qq 87 4,qq 88 6,qZ 89 88,wR 90 89,qq 91 90,qq 93 92,qb 94 (.lk 1 qz false (.t 91) (.t 93)),wt 96 [qz,qz,.nils,qz] [(0,1,xJ),wY 1 94,wY 2 95,(3,1,ww)],wD 97 bl 87 96])) 99 67 2 98 99 (xE 98 (ym [qq 101 6,xy 102 9,qq 103 102,wD 104 bp 101 103,qf 100 104,xn 105 0 100,xn 106 1 100,qf 13 105,qf 14 106] [qq 107 4,qf 108 13,qf 109 12,wt 110 [qz,qz,.nils,qz] [(0,1,xJ),wY 1 108,wY 2 109,(3,1,ww)],wD 111 bl 107 110]) 113 67 3 112 113 (xE 112 (.reg [qq 114 4,qf 115 12,wt 116 [qz,qz,.nils,qz] [yH 0 13,yH 1 (-1),wY 2 115,(3,1,ww)],wD 117 bl 114 116]) 119 67 4 118 119 (xE 118 (.reg [qq 120 4,qf 121 12,wt 122 [qz,qz,.nils,qz] [yH 0 12,yH 1 (-1),wY 2 121,(3,1,ww)],wD 123 bl 120 122]) 125 67 5 124 125 (xE 124 (qU (xQ (qq 126 4) (wB 127 be 126 xP) 15 127) [qf 129 12,wl 130 1 129 ww,qf 132 15,qf 133 15,qf 134 15,xz 135 134,xK 136 1 yp 2 [yr 133,wY 1 135],qq 128 4,qq 131 130,xH 137 [.t 128,xJ,.t 131,.t 132,.t 136]] (qU [yl 139 9,yx 143,qq 138 4,qq 140 139,qq 141 6,wX 142 bn 141,wI 4 138,wI 139 140,qn 144 bF [.t 138,.t 140,.t 142,.t 143]] [qq 145 4,qf 146 15,xz 147 146,qf 148 15,wq 149 148 2,yu 150 1 1 [yr 149],xH 151 [.t 145,wP,ww,.t 147,.t 150]] (ym [qp 153 4 9,yx 157,qq 152 4,qq 154 153,qq 155 6,wX 156 bn 155,wI 4 152,wI 153 154,qn 158 bF [.t 152,.t 154,.t 156,.t 157]] [qq 159 4,qf 160 15,wq 161 160 2,qf 162 15,wq 163 162 2,yu 164 1 1 [yr 163],xH 165 [.t 159,wP,ww,.t 161,.t 164]]))) 167 67 7 166 167 (xF 166 [qf 169 12,wl 170 1 169 ww,qq 168 4,qq 171 170,qq 172 4,wB 173 be 172 wP,wI 4 168,wI 170 171,xH 174 [.t 168,xP,.t 171,.t 173,xB]]))))))))) 175 18 18 175)⟩
theorem pu:am Tryz.prog bF=some jb:=by kernel_rfl
def pO:FK:=⟨65,[xT 4 3],qU [yA 2 1,wx 3 3 1,qW 4 (yI qz qz)] [qJ 9 1 2,wt 10 [.nils,qz,qz,.nils,qz] [yr 9],wx 11 5 10,qf 5 11] (qU [xd 12,xd 13,xy 14 3,qq 15 14,q8 16 15,qJ 17 3 3,wX 18 ky 17,wI 14 15,qZ 19 12,xy 20 19,wR 21 20,xr 21 16,qZ 22 13,xy 23 22,xy 24 23,xr 24 18] (wM (qn 25 bn [.c .nilp]) 6 25) (qC [xy 26 3,qq 27 26,q8 28 27,wK 29] (yT 0 [wF 30 29 28] 30 0 1 (ym [qf 31 29,ws 32 1 27 29,qq 33 32,qf 7 31,qf 8 33] [x7 34,qZ 35 34,wR 36 35,qq 37 36,yF 38,yi 39,qD (.mup 1 (.t 37) (.t 38) (.t 39))]) 40 29 29 40) (qU [xd 41,wB 42 be 41 wP] [xd 43,xh 44 3,qq 45 44,x7 46,xy 47 3,qq 48 47,q8 49 48,wt 50 yp [yr 49],wx 51 1 50,qn 52 bF [.t 43,.t 45,.t 46,.t 51]] (xa [xd 53,xd 54,xd 56,qZ 57 56,qp 58 4 57,qq 59 58,xX 55 [.t 54,wP,ww,xB],wI 58 59,xH 60 [.t 53,xP,.t 55,.t 59,xB]] [xd 61,qZ 62 61,xy 63 62,qJ 64 3 63,qR 3 4 64]))))⟩
theorem Bq:am Tryz.prog iO=some pO:=by kernel_rfl
def jd:FK:=⟨7,[xT 3 3],xa [yA 2 3,qW 3 (yI qz qz)] [qJ 4 1 1,qJ 5 3 2,wD 6 iO 4 5,qR 3 3 6]⟩
theorem pw:am Tryz.prog da=some jd:=by kernel_rfl
def kS:FK:=⟨19,[xT 2 1,.t 3],xW [yA 1 1,qW 2 xL,wz 3] [qJ 5 1 1,wX 6 re 5,xb 7 6] (wn 7 [wt 8 xL [],xr 2 8,wz 3]) (xI [wR 9 1,qq 10 9,qb 11 (yk da (wW 1)),wD 12 cx 10 11,wt 13 xL [yr 12],qW 4 xL,xr 4 13] [qJ 14 1 4,wX 15 jr 14,xb 16 15] (wn 16 [wt 17 xL [],xr 2 17,wz 3]) [qJ 18 1 4,xr 2 18,qc 3 wv])⟩
theorem sn:am Tryz.prog dH=some kS:=by kernel_rfl
def lu:FK:=⟨30,xv,qU [yA 2 1,wK 4] [qJ 8 1 2,wX 9 dH 8,qf 7 9,xn 10 0 7,xn 11 1 7,qW 5 xL,xr 5 10,qf 6 11] (wE [x7 12,xb 13 12,qf 14 13,xc 15 14 1,wU 16 14 0 5,wS 17 14 16,qH 18 14 (qX 17),xM 19 14 .sub 18 wP,xg 20 14 aS (x8 15 ww (.t 19)),yf 21 14 20,xA 22 14 21] (yz 22 (qL 4 (-1))) [wR 23 5,qq 24 23,xq 25,ws 26 3 24 25,xh 27 26,qq 28 27,q8 29 28,qf 4 29])⟩
theorem th:am Tryz.prog gF=some lu:=by kernel_rfl
def rm:FK:=⟨4,xD,xI (xG 2) [q6 3] (yz 3 (qL 2 1)) (xG 2)⟩
theorem BD:am Tryz.prog mh=some rm:=by kernel_rfl
def nv:FK:=⟨35,xD,qU (xG 2) (xG 3) (wE yM (xS 0 [xV 5,q6 6,q8 7 6,wF 8 5 7] 8 0 1 (.reg [yx 11,yP,xV 13,ws 14 5 12 13,wR 15 14,q6 20,xV 21,ws 22 5 20 21,yl 23 22,q6 27,xV 28,ws 29 5 27 28,qp 30 4 29,qq 16 15,wd 17 16 1,qq 24 23,qq 31 30,wX 18 mh 17,wI 23 24,wI 30 31,wg 19 .add 11 18,wX 25 gi 24,wI 30 31,wg 26 .add 19 25,wX 32 gi 31,wg 33 .add 26 32,qf 3 33]) (xV 9) 10 9 4 10) (wM (yx 34) 2 34))⟩
theorem sC:am Tryz.prog gi=some nv:=by kernel_rfl
def gN:FK:=⟨25,xD,qU (xG 2) [q6 3,q6 4,qZ 5 4,xy 6 5,xh 7 6,qq 8 7,qT 9 2 [qz,.nils] 0 [],qT 10 4 [qz,qz,.nils,qz] 0 [],yu 11 1 0 [],wt 12 [.nils,.nils,qz,qz,.nils] [yr 9,wY 1 10,wY 4 11],yO 13 5 [.nils,.nils,qz,qz,.nils] 1 5 12,xo 14 5 88 8 13,qZ 15 3,xy 16 15,xh 17 16,xr 17 14] (qA [q6 18,qZ 19 18,xy 20 19,xh 21 20,qq 22 21,q8 23 22,xw 24 23 1,qf 2 24])⟩
theorem lJ:am Tryz.prog cW=some gN:=by kernel_rfl
def mC:FK:=⟨37,[],qU [q6 11,qZ 12 11,xy 13 12,xh 14 13,q6 16,qZ 17 16,qp 18 4 17,qq 15 14,qq 19 18,ws 20 5 15 19,qf 10 20] [yQ 21,xq 22,qZ 23 21,xh 24 23,xr 24 22] (qU [yQ 25,qf 26 2,qZ 27 25,yl 28 27,xr 28 26] [yQ 29,yx 30,qZ 31 29,qp 32 4 31,xr 32 30] (.reg [q6 33,xV 34,qZ 35 33,qp 36 4 35,xr 36 34]))⟩
theorem uM:am Tryz.prog bR=some mC:=by kernel_rfl
def mb:FK:=⟨19,xD,qU (xG 2) [q6 3,q6 4,qZ 5 4,xy 6 5,xy 7 6,qq 8 7,xz 9 8,qZ 10 3,xy 11 10,xy 12 11,xr 12 9] (qA [q6 13,qZ 14 13,xy 15 14,xy 16 15,qq 17 16,xw 18 17 1,qf 2 18])⟩
theorem tw:am Tryz.prog cg=some mb:=by kernel_rfl
def jp:FK:=⟨37,xk 10,qU (xG 10) [yP,qZ 13 12,xy 14 13,xh 15 14,q6 17,qZ 18 17,qp 19 4 18,qq 16 15,qq 20 19,ws 21 5 16 20,qf 11 21] (xa [qf 22 11,qf 23 11,qZ 24 23,xy 25 24,qq 26 25,xq 27,qf 28 2,xV 29,yx 30,wt 31 [qz,qz,.nils,qz] [yr 27,wY 1 28,wY 2 29,wY 3 30],yO 32 4 [qz,qz,.nils,qz] 1 4 31,xo 33 4 48 26 32,qZ 34 22,xy 35 34,xr 35 33] (wM (qf 36 2) 10 36))⟩
theorem vA:am Tryz.prog cQ=some jp:=by kernel_rfl
def jy:FK:=⟨34,xv,xI yM [q6 6,qZ 7 6,qp 8 5 7,qq 9 8,q8 10 9,xw 11 10 1,qf 5 11] (xR 0 [xd 12,qw 13 .geq 12 0] 13 0 1 (qd [q6 16,qZ 17 16,qp 18 5 17,qq 19 18,xd 20,ws 21 3 19 20,wR 22 21,qq 23 22,xq 24,qb 25 (yB .eql 23 (.t 24))] (wn 25 [q6 26,qZ 27 26,qp 28 5 27,qq 29 28,xd 30,ws 31 3 29 30,xy 32 31,qq 33 32,qf 4 33])) (xd 14) (xw 15 14 1) 5 15) [qL 4 (-1)]⟩
theorem vM:am Tryz.prog fz=some jy:=by kernel_rfl
def nW:FK:=⟨56,xv,qU [wx 3 4 1,wK 4] [q6 11,yl 12 3,qq 13 12,wl 14 4 13 ww,yy 15 14,wD 16 bC 11 15,qf 5 16] (qU [q6 17,q6 18,yh 19 18,yu 20 1 0 [],xx 21 [.t 17,wP,.t 19,ww,.t 20],qf 6 21] (xQ (q6 22) (xN 23 22) 7 23) (qU (xQ (q6 24) (xN 25 24) 8 25) [q6 26,xd 27,yi 28,yF 29,yu 30 1 2 [yr 28,wY 1 29],yi 31,xO 32 [.t 26,xJ,.t 27,.t 30,.t 31]] (qU [q6 33,yl 34 3,qq 35 34,wl 36 4 35 wP,yy 37 36,wD 38 bC 33 37,qf 9 38] [q6 39,q6 40,yh 41 40,qf 42 9,yu 43 1 1 [yr 42],xx 44 [.t 39,qi 10,.t 41,ww,.t 43],qf 10 44] (qU [q6 45,x7 46,yQ 47,yu 48 1 1 [yr 47],xx 49 [.t 45,qi 10,.t 46,ww,.t 48]] [q6 50,yF 51,yu 52 1 1 [yr 51],yF 53,xO 54 [.t 50,wP,ww,.t 52,.t 53]] (qA (wM (x7 55) 4 55))))))⟩
theorem yX:am Tryz.prog jj=some nW:=by kernel_rfl
def du:FK:=⟨84,xv,xW [wx 3 4 1,wK 4] [wR 7 3,qq 8 7] (yR 0 (wN 10 8 1 9 10) (xE 9 (qA [q6 11,yP,xy 14 3,xK 16 1 yp 0 [],qq 15 14,yh 13 12,wI 14 15,xx 17 [.t 11,wP,.t 13,.t 15,.t 16],qf 4 17]) 19 8 2 18 19 (xE 18 (qA [q6 20,xh 21 3,qq 22 21,wD 23 fz 20 22,qf 4 23]) 25 8 10 24 25 (wn 24 [q6 26,yy 27 3,wD 28 jj 26 27,qf 4 28])))) (xW (wM (yu 29 1 0 []) 5 29) (xG 6) (xS 1 [x7 30,yl 31 3,qq 32 31,q8 33 32,wF 34 30 33] 34 1 2 (.reg [xd 37,q6 38,yl 39 3,qq 40 39,x7 41,ws 42 4 40 41,yy 43 42,wD 44 bC 38 43,yu 45 1 1 [yr 44],xo 46 1 8 37 45,qf 5 46]) (x7 35) 36 35 6 36) (wE [wR 47 3,qq 48 47] (yR 3 (wN 50 48 11 49 50) (xE 49 (qA [q6 51,q6 52,yh 53 52,xd 54,xx 55 [.t 51,qi 10,.t 53,ww,.t 54],qf 4 55]) 57 48 12 56 57 (xE 56 (qA [q6 58,q6 59,yh 60 59,xd 61,xx 62 [.t 58,qi 11,.t 60,ww,.t 61],qf 4 62]) 64 48 13 63 64 (wn 63 [q6 65,q6 66,q6 68,qZ 69 68,wR 70 69,xh 72 3,xd 75,qJ 71 1 70,qq 73 72,yh 67 66,wo (some 1) 70 71,wI 72 73,wD 74 kb 71 73,xx 76 [.t 65,qi 14,.t 67,.t 74,.t 75],qf 4 76])))) [q6 77,wR 78 3,q6 80,xd 82,qq 79 78,yh 81 80,wI 78 79,xx 83 [.t 77,.t 79,.t 81,ww,.t 82],qf 4 83]))⟩
theorem vg:am Tryz.prog bC=some du:=by kernel_rfl
def mF:FK:=⟨41,[],qU [wx 3 5 1] (xQ (q6 8) (xN 9 8) 4 9) (qU (xQ (q6 10) (xN 11 10) 5 11) (xQ yP (xN 13 12) 6 13) (qU [q6 14,xV 15,yu 16 1 1 [yr 15],xV 17,xO 18 [.t 14,wP,ww,.t 16,.t 17]] [q6 19,xh 20 3,qq 21 20,wl 22 4 21 ww,yy 23 22,wD 24 bC 19 23,qf 7 24] (qU [q6 25,yi 26,xd 27,x7 28,yu 29 1 2 [yr 27,wY 1 28],xd 30,xO 31 [.t 25,xJ,.t 26,.t 29,.t 30]] [q6 32,yl 33 3,qq 34 33,wD 35 bM 32 34] (.reg [q6 36,xV 37,yu 38 1 1 [yr 37],x7 39,xO 40 [.t 36,wP,ww,.t 38,.t 39]]))))⟩
theorem uY:am Tryz.prog iN=some mF:=by kernel_rfl
def iM:FK:=⟨132,[],xW [wx 3 5 1] [wR 9 3,qq 10 9,wd 11 10 6] (wn 11 [yP,qJ 13 5 3,wD 14 iN 12 13]) (xW (wM (yu 15 1 0 []) 4 15) (xG 5) (xS 0 [xd 16,xh 17 3,qq 18 17,q8 19 18,wF 20 16 19] 20 0 1 (.reg [xV 23,q6 24,xh 25 3,qq 26 25,xd 27,ws 28 4 26 27,yy 29 28,wD 30 bC 24 29,yu 31 1 1 [yr 30],xo 32 1 8 23 31,qf 4 32]) (xd 21) 22 21 5 22) (qd [wR 33 3,qq 34 33] (yR 2 (wN 36 34 1 35 36) (xE 35 (qU [q6 37,q6 38,qZ 39 38,qp 40 6 39,qq 41 40,xV 42,xx 43 [.t 37,xJ,.t 41,ww,.t 42]] [q6 44,q6 45,qZ 46 45,qp 47 5 46,xy 49 3,q6 51,qZ 52 51,qp 53 6 52,qq 48 47,qq 50 49,qq 54 53,wt 55 [qN,qz,qz] [yr 50,wY 1 54,(2,1,ww)],xK 56 3 [qN,qz,qz] 1 (yN 3 55),xo 57 3 32 48 56,qZ 58 44,qp 59 5 58,xr 59 57] (.reg [q6 60,q6 61,qZ 62 61,qp 63 6 62,qq 64 63,xz 65 64,qZ 66 60,qp 67 6 66,xr 67 65])) 69 34 2 68 69 (xE 68 (.reg [q6 70,q6 71,xy 72 3,qq 73 72,wD 74 fz 71 73,xV 75,xx 76 [.t 70,xJ,.t 74,ww,.t 75]]) 78 34 3 77 78 (xE 77 (.reg [q6 79,xV 80,xx 81 [.t 79,qi 13,qi (-1),ww,.t 80]]) 83 34 4 82 83 (xE 82 (.reg [q6 84,xV 85,xx 86 [.t 84,qi 12,qi (-1),ww,.t 85]]) 88 34 7 87 88 (xE 87 (.reg [q6 89,xV 90,wl 91 1 90 ww,xK 93 1 yp 0 [],q6 94,qq 92 91,xN 95 94,wI 91 92,xO 96 [.t 89,xP,.t 92,.t 93,.t 95]]) 98 34 5 97 98 (qS 97 (qU (xQ (q6 99) (xN 100 99) 6 100) (xQ (q6 101) (xN 102 101) 7 102) (qU (xQ (q6 103) (xN 104 103) 8 104) [q6 105,xV 106,wl 107 1 106 ww,qq 108 107,x7 109,yi 110,yu 111 1 2 [yr 109,wY 1 110],x7 112,xO 113 [.t 105,xJ,.t 108,.t 111,.t 112]] (qU [q6 114,yl 115 3,qq 116 115,wD 117 bM 114 116] [q6 118,yF 119,yu 120 1 1 [yr 119],yi 121,xO 122 [.t 118,wP,ww,.t 120,.t 121]] (ym [q6 123,qp 124 4 3,qq 125 124,wD 126 bM 123 125] [q6 127,yF 128,yu 129 1 1 [yr 128],yF 130,xO 131 [.t 127,wP,ww,.t 129,.t 130]])))))))))))))⟩
theorem vj:am Tryz.prog ie=some iM:=by kernel_rfl
def gP:FK:=⟨32,[],xW [q6 6,qZ 7 6,qp 8 5 7,qq 9 8,q8 10 9,yQ 4] (xG 5) (xS 0 [xd 11,xq 12,q8 13 12,wF 14 11 13] 14 0 1 (.reg [q6 17,xq 18,xd 19,ws 20 5 18 19,qJ 21 5 20,wD 22 ie 17 21]) (xd 15) 16 15 5 16) (.reg [q6 23,q6 24,qZ 25 24,qp 26 5 25,qq 27 26,xV 28,qb 29 (.slS 3 (.t 27) none (some (.t 28))),qZ 30 23,qp 31 5 30,xr 31 29])⟩
theorem tg:am Tryz.prog bM=some gP:=by kernel_rfl
def zq:FK:=⟨80,[xT 4 3],qU [yA 2 1,qW 4 (yI qz qz)] [wR 9 2,qq 10 9,xq 11,ws 12 3 10 11,qJ 13 3 12,qW 5 yK,qR 3 5 13] (qU [qJ 14 1 2,xy 15 5,qq 16 15,q8 17 16,wt 18 [.nils,qz,qz,.nils,qz,.nils,qz,.nils] [yr 14,wY 6 17],wx 19 8 18,qf 6 19] [x7 20,xy 21 5,qq 22 21,q8 23 22,qZ 24 20,xy 25 24,wR 26 25,xr 26 23] (xW [x7 27,xy 28 5,xh 31 5,qq 29 28,q8 30 29,qq 32 31,wX 33 gi 32,wI 28 29,wg 34 .add 30 33,qZ 35 27,xy 36 35,xy 37 36,xr 37 34] (xG 7) (xS 0 [yi 38,xy 39 5,qq 40 39,q8 41 40,wF 42 38 41] 42 0 1 (.reg [x7 45,x7 46,qZ 47 46,qp 48 5 47,xy 50 5,yi 52,yi 55,qq 49 48,qq 51 50,ws 53 1 51 52,qq 54 53,wt 56 [qN,qz,qz] [yr 54,wY 1 55,(2,1,ww)],xK 57 3 [qN,qz,qz] 1 (yN 3 56),xo 58 3 32 49 57,qZ 59 45,qp 60 5 59,xr 60 58]) (yi 43) 44 43 7 44) (qU [x7 61,xN 62 61] [x7 63,xh 64 5,qq 65 64,wD 66 bM 63 65] (qU [x7 67,x7 68,yh 69 68,yu 70 1 0 [],xx 71 [.t 67,wP,.t 69,ww,.t 70],qf 8 71] [x7 72,yF 73,yu 74 1 0 [],xO 75 [.t 72,xP,.t 73,.t 74,ww]] (qA [x7 76,qZ 77 76,xy 78 77,qJ 79 3 78,qR 3 4 79])))))⟩
theorem GU:am Tryz.prog mE=some zq:=by kernel_rfl
def sU:FK:=⟨22,[xT 2 1],qU [yA 1 1,qW 2 xL] [wt 5 xL [],qW 3 xL,xr 3 5] (wE yM (xS 0 [xV 6,wR 7 1,qq 8 7,q8 9 8,wF 10 6 9] 10 0 1 (.reg [wR 13 3,xV 16,qq 14 13,qJ 15 1 1,wD 17 mE 15 16,wI 13 14,xK 18 3 (yI qz qz) 1 (yN 3 17),xo 19 3 40 14 18,wR 20 3,xr 20 19]) (xV 11) 12 11 4 12) [qJ 21 1 3,xr 2 21])⟩
theorem De:am Tryz.prog jG=some sU:=by kernel_rfl
def sX:FK:=⟨21,xv,xI [yA 2 3,xt] (xG 5) (xS 0 [xd 6,xq 7,q8 8 7,wF 9 6 8] 9 0 1 (qd [xq 12,xd 13,ws 14 1 12 13,xy 16 2,qq 15 14,qq 17 16,xw 18 17 1,ya 19 bt 15 ww 18,xb 20 19] (yz 20 xt)) (xd 10) 11 10 5 11) [qc 4 wv]⟩
theorem Dn:am Tryz.prog jI=some sX:=by kernel_rfl
def pW:FK:=⟨13,xD,xa [ye] [q6 3,x9 4 bt 3 wP (qi 14),xV 5,xY 6 5 0,xp 7 5 .neq 6 (qi 12),xZ 8 5 7,yF 9,xY 10 9 0,xp 11 9 .neq 10 (qi 13),xZ 12 9 11,qf 2 12]⟩
theorem BW:am Tryz.prog iu=some pW:=by kernel_rfl
def dA:FK:=⟨28,xD,qd (xG 2) (qY 0 (qd [q6 4,wd 5 4 1,xd 3] (wG 3 (qA (xG 2)) [q6 7,wd 8 7 2,yF 9,xc 10 9 0,xM 11 9 .eql 10 (qi 10),xA 12 9 11,qf 13 12,xc 14 13 0,xM 15 13 .eql 14 (qi 11),xA 16 13 15,qf 17 16,xc 18 17 0,xM 19 17 .eql 18 (qi 13),xA 20 17 19,qf 6 20] (wG 6 (qA [qL 2 1]) [q6 22,x9 23 bt 22 xP (qi 9),qf 24 23,xc 25 24 0,xM 26 24 .eql 25 (qi 12),xA 27 24 26,qf 21 27] (yz 21 (qL 2 2))))) (qA [qL 2 (-1)]))⟩
theorem CS:am Tryz.prog mY=some dA:=by kernel_rfl
def uB:FK:=⟨88,xk 6,qU [yA 3 1,wx 5 4 2,yS] [wR 8 3,qq 9 8,xq 10,ws 11 3 9 10,qJ 12 3 11,qW 7 (yI qz qz),qR 3 7 12] (qC [wR 13 5,qq 14 13,x9 15 bt 14 wP (qi 14),xb 16 15,qf 17 16,qH 18 17 (qj (some 3) 7),wU 19 17 2 5,wS 20 17 19,xg 21 17 jI (wA 18 (.t 20)),yf 22 17 21,xA 23 17 22] (yz 23 yS) (qC [wR 24 5,xy 27 5,xy 29 7,qq 25 24,qq 28 27,qq 30 29,xw 31 30 1,wX 26 iu 25,wI 27 28,wI 29 30,ya 32 bt 28 ww 31,qb 33 (.beq true (.t 26) (.t 32)),qf 34 33,wU 35 34 0 5,wS 36 34 35,xg 37 34 iu (wW 36),yf 38 34 37,xc 39 34 38,wT 40 39 1 5,wQ 41 39 40,xp 42 39 .neq 41 (qi (-1)),qH 43 34 (qM 39 (.t 42) qP),xA 44 34 43] (yz 44 yS) (wE [wR 45 5,qq 46 45,wd 47 46 14] (wn 47 [yl 48 5,xq 50,xw 51 50 1,qq 49 48,ya 52 bt 49 ww 51,qf 53 52,wT 54 53 2 5,wT 57 53 0 3,wT 59 53 3 5,wQ 55 53 54,qI 56 53 (qX 55),wQ 58 53 57,wQ 60 53 59,qI 61 53 (qO 3 58 (.t 60)),wT 62 53 0 61,wQ 63 53 62,xp 64 53 .eql 56 (.t 63),xZ 65 53 64,qf 6 65]) [xh 66 5,wR 69 5,qq 67 66,q8 68 67,qq 70 69,wX 71 mY 70,wI 66 67,wg 72 .eql 68 71,qf 73 72,wT 74 73 3 5,wQ 75 73 74,yq 76 73 bt (x8 75 ww (qi 255)),xZ 77 73 76,qf 78 77,wT 79 78 3 5,wQ 80 78 79,xp 81 78 .eql 80 ww,xY 82 78 81,wU 83 82 0 5,wS 84 82 83,xM 85 82 .eql 84 wP,qI 86 78 (qM 82 wv (.t 85)),xZ 87 78 86,qf 6 87])))⟩
theorem Fh:am Tryz.prog oC=some uB:=by kernel_rfl
def rr:FK:=⟨43,xv,qU [yA 2 3,qc 4 xB] (wM (yu 8 1 0 []) 5 8) (wE (xG 6) (xS 0 [x7 9,xh 10 2,qq 11 10,q8 12 11,wF 13 9 12] 13 0 1 (qd (xG 7) (xS 2 [yi 16,xh 17 2,qq 18 17,x7 19,ws 20 5 18 19,qp 21 4 20,qq 22 21,q8 23 22,wF 24 16 23] 24 2 3 (qd [xh 27 2,qq 28 27,x7 29,ws 30 5 28 29,qp 31 4 30,qq 32 31,yi 33,ws 34 1 32 33,qq 35 34,xq 36,wg 37 .eql 35 36] (qS 37 (qd [xd 38,x7 39,yu 40 1 1 [yr 39],xo 41 1 8 38 40,qf 5 41] (.exit 2)))) (yi 25) 26 25 7 26)) (x7 14) 15 14 6 15) (wM (xd 42) 4 42))⟩
theorem AJ:am Tryz.prog iz=some rr:=by kernel_rfl
def lq:AK:=qU [yA 3 1,yS] [wR 14 3,qq 15 14,xq 16,ws 17 3 15 16,qJ 18 3 17,qW 7 (yI qz qz),qR 3 7 18] (qU [xh 19 7,qq 20 19,qf 21 2,ws 22 5 20 21,qJ 23 5 22,qW 8 [.nils,.nils,qz,qz,.nils],qR 5 8 23] [qL 9 1] (xC [xh 24 8,qq 25 24] (yR 0 (wN 27 25 1 26 27) (xE 26 (qd [yl 28 8,qq 29 28,qw 30 .neq 29 0] (yz 30 yS)) 32 25 2 31 32 (xE 31 (.reg [qL 9 2]) 34 25 3 33 34 (qo 33 (.reg (xG 9)) (qA [yS]))))) (xC [qp 35 4 8,qq 36 35,q8 37 36,qf 38 9,wg 39 .neq 37 38,qf 40 39,wU 41 40 2 8,wS 42 40 41,xM 43 40 .neq 42 wP,xc 44 40 43,wT 45 44 3 8,wQ 46 44 45,wT 47 44 1 7,wQ 48 44 47,xp 49 44 .sub 48 wP,yq 50 44 bt (x8 46 ww (.t 49)),qI 51 44 (wb 50),qH 52 40 (qM 44 (.t 51) qP),xA 53 40 52] (yz 53 yS) (xC (xG 10) (xS 1 [yQ 54,qp 55 4 8,qq 56 55,q8 57 56,wF 58 54 57] 58 1 2 (qd [qp 61 4 8,yQ 63,xh 66 7,qq 62 61,ws 64 1 62 63,qq 65 64,qq 67 66,q8 68 67,xw 69 68 1,ya 70 bt 65 wP 69,xb 71 70] (yz 71 yS)) (yQ 59) 60 59 10 60) (xC (xG 11) (xS 3 [qf 72 11,xy 73 8,qq 74 73,q8 75 74,wF 76 72 75] 76 3 4 (qd [xq 80,xy 81 8,qf 83 11,qJ 79 1 3,qq 82 81,ws 84 4 82 83,yy 85 84,ya 86 oC 79 (.t 80) 85,xb 87 86] (yz 87 yS)) (qf 77 11) 78 77 11 78) (qd [qJ 88 3 7,qf 89 2,wD 90 iz 88 89,qf 12 90] (xC (xG 13) (xS 5 [qf 91 13,wR 92 8,qq 93 92,q8 94 93,wF 95 91 94] 95 5 6 (qd [qf 98 2,wd 99 98 0,qf 100 99,wU 101 100 0 8,xc 103 100 13,xc 108 100 12,qH 109 100 (qX 108),wS 102 100 101,qH 104 100 (qO 2 102 (.t 103)),wU 105 100 1 104,wS 106 100 105,qH 107 100 (qX 106),xM 110 100 .neq 107 (.t 109),xA 111 100 110,qf 112 111,wU 114 112 0 8,xc 116 112 13,qH 113 112 (qj (some 3) 7),wS 115 112 114,qH 117 112 (qO 2 115 (.t 116)),wU 118 112 1 117,wS 119 112 118,xg 120 112 jI (wA 113 (.t 119)),yf 121 112 120,xA 122 112 121,qf 123 122,wU 124 123 0 8,xc 126 123 13,wU 130 123 1 7,wS 125 123 124,qH 127 123 (qO 2 125 (.t 126)),wU 128 123 0 127,wS 129 123 128,wS 131 123 130,xM 132 123 .sub 131 wP,yb 133 123 (x8 129 ww (.t 132)),yf 134 123 133,xA 135 123 134] (yz 135 yS)) (qf 96 13) 97 96 13 97) (qA [qc 6 wv]))))))))
def lG:FK:=⟨136,xk 6,(AK.whole lq)⟩
theorem By:am Tryz.prog lw=some lG:=by kernel_rfl
def nS:FK:=⟨76,xD,xW [yA 1 1,ye] [wR 7 1,qq 8 7,q8 9 8,x9 10 bt 9 wP (qi 4),xb 11 10] (yz 11 ye) (xI (xG 3) yM (xS 0 [xV 12,wR 13 1,qq 14 13,q8 15 14,wF 16 12 15] 16 0 1 (xW [wR 19 1,qq 20 19,xV 21,ws 22 3 20 21,qJ 23 3 22,qW 5 (yI qz qz),qR 3 5 23] [wR 24 5,qq 25 24,x9 26 bt 25 ww xP,xb 27 26,qf 28 27,wU 29 28 1 5,wS 30 28 29,wU 31 28 0 5,wS 32 28 31,yb 33 28 (x8 30 (.t 32) (qi 300)),yf 34 28 33,xA 35 28 34,qf 36 35,wU 37 36 2 5,wS 38 36 37,qH 39 36 (qX 38),yb 40 36 (x8 39 wP (qi 160)),yf 41 36 40,xA 42 36 41] (yz 42 ye) (qd (xG 6) (xS 2 [x7 43,xh 44 5,qq 45 44,q8 46 45,wF 47 43 46] 47 2 3 (qU [yx 50,xh 51 5,x7 53,xh 59 5,x7 61,qq 52 51,ws 54 5 52 53,xy 55 54,qq 56 55,q8 57 56,wg 58 .add 50 57,qq 60 59,ws 62 5 60 61,wR 63 62,qq 64 63,q8 65 64,wg 66 .add 58 65,qf 3 66] [yx 67,qw 68 .gtr 67 800,qf 69 68,qH 70 69 (qj (some 1) 1),xc 71 69 4,xc 72 69 6,xg 73 69 lw (x8 70 (.t 71) (.t 72)),yf 74 69 73,xA 75 69 74] (yz 75 ye)) (x7 48) 49 48 6 49))) (xV 17) 18 17 4 18) [qc 2 wv])⟩
theorem vC:am Tryz.prog jz=some nS:=by kernel_rfl
def kR:FK:=⟨16,[xT 2 1,.t 3],xW [yA 1 1,qW 2 xL,wz 3] [qJ 5 1 1,wX 6 jD 5,xb 7 6] (wn 7 [wt 8 xL [],xr 2 8,wz 3]) (xI [qJ 9 1 1,wX 10 jG 9,qW 4 xL,xr 4 10] [qJ 11 1 4,wX 12 jz 11,xb 13 12] (wn 13 [wt 14 xL [],xr 2 14,wz 3]) [qJ 15 1 4,xr 2 15,qc 3 wv])⟩
theorem sh:am Tryz.prog dE=some kR:=by kernel_rfl
def mg:FK:=⟨30,xv,qU [yA 2 1,wK 4] [qJ 8 1 2,wX 9 dE 8,qf 7 9,xn 10 0 7,xn 11 1 7,qW 5 xL,xr 5 10,qf 6 11] (wE [x7 12,xb 13 12,qf 14 13,xc 15 14 1,wU 16 14 0 5,wS 17 14 16,qH 18 14 (qX 17),xM 19 14 .sub 18 wP,yb 20 14 (x8 15 ww (.t 19)),yf 21 14 20,xA 22 14 21] (yz 22 (qL 4 (-1))) [wR 23 5,qq 24 23,xq 25,ws 26 3 24 25,xh 27 26,qq 28 27,q8 29 28,qf 4 29])⟩
theorem tJ:am Tryz.prog dX=some mg:=by kernel_rfl
def nn:FK:=⟨22,xD,qU [yA 1 4,wK 2] (xG 3) (qC [wR 6 1,qq 7 6,wd 8 7 10] (xF 8 [qL 3 1]) (wE [yl 9 1,qq 10 9,q8 11 10,wK 12] (yT 0 [wF 13 12 11] 13 0 1 (ym [ws 14 4 10 12,yy 15 14,qW 5 [qz,qz,qN,.nils],qR 4 5 15] [yx 16,yy 17 5,wX 18 jR 17,wg 19 .add 16 18,qf 3 19]) 20 12 12 20) (wM (yx 21) 2 21)))⟩
theorem Dk:am Tryz.prog jR=some nn:=by kernel_rfl
def iG:FK:=⟨49,xD,qU (xG 2) (xG 3) (wE [q6 8,q8 9 8,wK 10] (yT 0 [wF 11 10 9] 11 0 1 (xW [ws 12 5 8 10,qJ 13 5 12,qW 5 [qz,qN,.nils,.nils,.nils],qR 5 5 13] [xh 14 5,qq 15 14,q8 16 15,wK 17] (yT 2 [wF 18 17 16] 18 2 3 (ym [ws 19 4 15 17,yy 20 19,qW 7 [qz,qz,qN,.nils],qR 4 7 20] [yx 21,yy 22 7,wX 23 jR 22,qb 24 (.bin .mul xJ (.t 23)),wg 25 .add 21 24,qf 3 25]) 26 17 17 26) (qC [wR 27 5,qq 28 27] (.blk 4 (qC (wN 30 28 5 29 30) (qo 29 .skip (.reg (wN 31 28 6 29 31))) (xE 29 (.reg (xQ (yx 32) (wq 33 32 3) 3 33)) 35 28 7 34 35 (xF 34 (xQ (yx 36) (xz 37 36) 3 37))))) (.reg [yx 38,yl 39 5,qp 43 4 5,qq 40 39,qq 44 43,wX 41 dt 40,wI 43 44,wg 42 .add 38 41,wX 45 dt 44,wg 46 .add 42 45,qf 3 46]))) 47 10 10 47) (wM (yx 48) 2 48))⟩
theorem mM:am Tryz.prog dt=some iG:=by kernel_rfl
def jU:FK:=⟨45,xD,xW [ye] [q6 6,q8 7 6,qw 8 .gtr 7 1048576] (yz 8 (qc 2 wv)) (qU [q6 10,wX 11 ee 10,qf 9 11,xn 12 0 9,xn 13 1 9,qW 3 xL,xr 3 12,qf 4 13] [qJ 14 1 3,xV 15,wD 16 gF 14 15,qf 5 16] (wE [xd 17,qJ 18 1 3,xV 19,wD 20 dX 18 19,wg 21 .neq 17 20,qf 22 21,xc 23 22 5,xM 24 22 .lss 23 ww,xA 25 22 24] (wn 25 [xd 26,qJ 27 1 3,xV 28,wD 29 dX 27 28,wg 30 .eql 26 29,qf 31 30,xY 32 31 5,xp 33 31 .eql 32 (qi (-1)),xZ 34 31 33,qf 2 34]) [xd 35,wR 36 3,qq 37 36,xV 38,ws 39 3 37 38,xh 40 39,qq 41 40,wX 42 dt 41,qb 43 (.bin .add wP (.t 42)),wg 44 .eql 35 43,qf 2 44]))⟩
theorem ru:am Tryz.prog jS=some jU:=by kernel_rfl
end Go.Proofs.YtghpabfdmbdpfaaGreatDoor
