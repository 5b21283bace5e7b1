/-
  Contracts and lemmas that the card needs, part 4.
-/
import Derived.Test.YtghpabfdmbdpfaaGreatDoorKd3
import Derived.Test.YtghpabfdmbdpfaaGreatDoorRows
namespace Go.Proofs.YtghpabfdmbdpfaaGreatDoor
open Go Go.Aw
set_option maxRecDepth 100000
abbrev lz:FuncId:=35
abbrev bi:FuncId:=49
abbrev cG:FuncId:=41
abbrev dd:FuncId:=42
abbrev dq:FuncId:=124
abbrev aX:FuncId:=125
abbrev iC:FuncId:=108
abbrev gJ:FuncId:=191
abbrev dJ:FuncId:=171
abbrev eE:FuncId:=172
abbrev ip:FuncId:=173
abbrev iw:FuncId:=145
abbrev aZ:FuncId:=107
abbrev gm:FuncId:=71
abbrev bl:FuncId:=27
abbrev lP:FuncId:=198
abbrev ln:FuncId:=192
abbrev nO:FuncId:=174
abbrev gw:FuncId:=193
abbrev od:FuncId:=175
abbrev cC:FuncId:=146
abbrev jB:FuncId:=194
abbrev jq:FuncId:=202
abbrev ga:FuncId:=199
abbrev gX:FuncId:=200
abbrev eZ:FuncId:=195
abbrev jr:FuncId:=176
abbrev bZ:FuncId:=147
abbrev pD:FuncId:=109
abbrev eQ:FuncId:=148
abbrev og:FuncId:=110
abbrev dw:FuncId:=72
abbrev ed:FuncId:=51
abbrev iB:FuncId:=83
abbrev mS:FuncId:=82
abbrev mF:FuncId:=59
abbrev ju:FuncId:=84
abbrev dy:FuncId:=61
abbrev mK:FuncId:=60
abbrev mT:FuncId:=34
abbrev jE:FuncId:=149
abbrev bF:FuncId:=150
abbrev dS:FuncId:=177
abbrev js:FuncId:=178
abbrev eA:FuncId:=151
abbrev eG:FuncId:=180
abbrev cH:FuncId:=179
abbrev co:FuncId:=152
abbrev lZ:FuncId:=111
abbrev fM:FuncId:=73
abbrev mG:FuncId:=52
abbrev ef:FuncId:=25
abbrev fH:FuncId:=187
abbrev fP:FuncId:=160
abbrev eq:FuncId:=40
abbrev dp:FuncId:=162
abbrev dc:FuncId:=161
abbrev cA:FuncId:=126
abbrev cX:FuncId:=163
abbrev ck:FuncId:=127
abbrev cg:FuncId:=188
abbrev bS:FuncId:=164
abbrev gn:FuncId:=189
abbrev jt:FuncId:=141
abbrev lL:FuncId:=201
abbrev gu:FuncId:=197
abbrev fm:FuncId:=190
abbrev jv:FuncId:=166
abbrev cF:FuncId:=165
abbrev cL:FuncId:=129
abbrev fe:FuncId:=38
abbrev eY:FuncId:=167
abbrev kW:FuncId:=130
abbrev bz:FuncId:=128
abbrev fL:FuncId:=85
abbrev cK:FuncId:=131
abbrev fT:FuncId:=132
abbrev jM:FuncId:=86
abbrev cu:FuncId:=87
abbrev bj:FuncId:=64
abbrev kF:FuncId:=168
abbrev bk:FuncId:=93
abbrev bV:FuncId:=169
abbrev du:FuncId:=133
abbrev bG:FuncId:=88
abbrev fJ:FuncId:=62
abbrev pp:FuncId:=43
abbrev cf:FuncId:=45
abbrev jc:FuncId:=96
abbrev jC:FuncId:=97
abbrev dQ:FuncId:=135
abbrev bv:FuncId:=98
abbrev cx:FuncId:=136
abbrev bX:FuncId:=100
abbrev gE:FuncId:=170
abbrev er:FuncId:=143
abbrev ir:FuncId:=103
abbrev bR:FuncId:=95
abbrev jU:FuncId:=99
abbrev kA:FuncId:=138
abbrev mw:FuncId:=140
abbrev lJ:FuncId:=142
abbrev dF:FuncId:=137
abbrev lq:FuncId:=139
abbrev ow:FuncId:=102
abbrev jQ:FuncId:=101
abbrev kg:FuncId:=104
abbrev mO:FuncId:=69
abbrev fh:FuncId:=58
abbrev ff:FuncId:=48
abbrev eD:FuncId:=63
abbrev kb:FuncId:=44
abbrev aY:FuncId:=65
abbrev fI:FuncId:=67
abbrev fy:FuncId:=94
abbrev bh:FuncId:=92
abbrev eJ:FuncId:=68
abbrev eF:FuncId:=90
abbrev dL:FuncId:=134
abbrev bm:FuncId:=89
abbrev dD:FuncId:=91
abbrev bA:FuncId:=66
abbrev gT:FuncId:=47
abbrev cT:FuncId:=46
abbrev dv:FuncId:=23
abbrev lA:FuncId:=153
abbrev gi:FuncId:=112
abbrev cN:FuncId:=113
abbrev bO:FuncId:=117
abbrev bW:FuncId:=116
abbrev cD:FuncId:=115
abbrev fc:FuncId:=183
abbrev jn:FuncId:=196
abbrev bw:FuncId:=182
abbrev iH:FuncId:=181
abbrev ic:FuncId:=154
abbrev bE:FuncId:=114
abbrev ma:FuncId:=74
abbrev jD:FuncId:=53
abbrev jy:FuncId:=120
abbrev iy:FuncId:=155
abbrev mN:FuncId:=156
abbrev oa:FuncId:=118
abbrev iF:FuncId:=119
abbrev kX:FuncId:=75
abbrev fj:FuncId:=54
abbrev dt:FuncId:=26
abbrev jW:FuncId:=32
abbrev fp:FuncId:=16
abbrev jR:FuncId:=33
abbrev fk:FuncId:=17
abbrev eU:FuncId:=18
abbrev lb:FuncId:=6
@[reducible] def qa(a:Nat)(b:Option (Nat × Bool))(c:AI):CO:=⟨some a,b,c⟩
@[reducible] def qb(a:Nat)(b:AI):CO:=qa a none b
@[reducible] def qc(a:Nat)(b:AOp):CO:=qb a (.mov b)
@[reducible] def qd(a:List CO)(b:AK):AK:= .seq (.reg a) b
@[reducible] def qe(a:IntKind)(b:Int):AV:= .p (.int a b)
@[reducible] def qf(a b:Nat):CO:=qc a (.t b)
@[reducible] def qg(a:Int):AV:=qe .i64 a
@[reducible] def qh(a b:Nat):AI:= .fldA a (.t b)
@[reducible] def qi(a:Int):AOp:= .c (qg a)
@[reducible] def qj(a:Option Nat)(b:Nat):AI:= .ld a (.t b)
@[reducible] def qk(a:Nat)(b:Nat × Bool)(c:AI):CO:=qa a (some b) c
@[reducible] def ql(a:BinOp)(b:Nat)(c:AOp):AI:= .bin a (.t b) c
@[reducible] def qm(a:Nat)(b:Option Nat)(c:Nat):CO:=qb a (qj b c)
@[reducible] def qn(a:Nat)(b:FuncId)(c:List AOp):CO:=qb a (.call b c)
@[reducible] def qo(a:Nat)(b c:AK):AK:= .cond (.t a) b c
@[reducible] def qp(a b c:Nat):CO:=qb a (qh b c)
@[reducible] def qq(a b:Nat):CO:=qm a none b
@[reducible] def qt(a:Bool):AV:= .p (.bool a)
@[reducible] def qu(a:Nat)(b:BinOp)(c:Nat)(d:AOp):CO:=qb a (ql b c d)
@[reducible] def qv(a:List UInt8):AV:= .p (.str a)
@[reducible] def qw:AV:=qt false
@[reducible] def qx(a:Nat)(b:BinOp)(c:Nat)(d:Int):CO:=qu a b c (qi d)
@[reducible] def qy(a:Option (Nat × Bool))(b:AI):CO:=⟨none,a,b⟩
@[reducible] def qz(a:Nat):AI:= .nilck (.t a)
@[reducible] def qA:AV:=qg 0
@[reducible] def qB(a:List CO):AK:=qd a .ret
@[reducible] def qC(a:List CO)(b:Nat)(c d:AK):AK:=qd a (qo b c d)
@[reducible] def qD(a:AI):CO:=qy none a
@[reducible] def qF(a:AOp):AI:= .len false a
@[reducible] def qG(a b:Nat)(c:Bool)(d:AI):CO:=qk a (b,c) d
@[reducible] def qH(a b:Nat)(c:AI):CO:=qG a b false c
@[reducible] def qI(a b:Nat)(c:AI):CO:=qG a b true c
@[reducible] def qJ(a b c:Nat):CO:=qm a (some b) c
@[reducible] def qK(a:Nat)(b c:AOp):CO:=qD (.st a b c)
@[reducible] def qL(a:Nat)(b:Int):CO:=qc a (qi b)
@[reducible] def qM(a:Nat)(b c:AOp):AI:= .pick (.t a) b c
@[reducible] def qN:AV:=qv []
@[reducible] def qO(a:List CO)(b c:AK):AK:=qd a (.seq b c)
@[reducible] def qP:AOp:= .c qw
@[reducible] def qQ(a b:Nat)(c:AOp):AI:= .idxS a (.t b) c
@[reducible] def qR(a b:Nat)(c:AOp):CO:=qK a (.t b) c
@[reducible] def qS(a b c:Nat):CO:=qR a b (.t c)
@[reducible] def qT(a:List CO)(b:Nat)(c:AK):AK:=qC a b c .skip
@[reducible] def qU(a b:Nat)(c:List AV)(d:Nat)(e:List (Nat × Nat × AOp)):CO:=qb a (.bsl b c d e)
@[reducible] def qV(a:Nat)(b:AK):AK:= .blk a (.loop b)
@[reducible] def qW(a b:Nat):CO:=qb a (qz b)
@[reducible] def qX(a:Nat)(b:List AV):CO:=qb a (.alloc b)
@[reducible] def qY(a:Nat):AI:=qF (.t a)
@[reducible] def qZ(a:AK)(b:List CO):AK:= .seq a (.reg b)
@[reducible] def q6(a:Nat):CO:=qf a 0
@[reducible] def q7(a:Nat):AI:=qj none a
@[reducible] def q8(a b:Nat):CO:=qb a (qY b)
@[reducible] def q9:AV:=qt true
@[reducible] def wa(a:Nat):AI:= .not (.t a)
@[reducible] def wb(a b:Nat):AI:= .box a (.t b)
@[reducible] def wd(a b:Nat)(c:Int):CO:=qx a .eql b c
@[reducible] def we(a b:Nat)(c d:AOp):CO:=qb a (qM b c d)
@[reducible] def wg(a:Nat):AI:= .mov (.t a)
@[reducible] def wh(a:Nat)(b:BinOp)(c d:Nat):CO:=qu a b c (.t d)
@[reducible] def wj(a b c:Nat)(d:AOp):CO:=qb a (qQ b c d)
@[reducible] def wl(a:List CO)(b:Nat)(c:List CO):AK:=qT a b (qB c)
@[reducible] def wm(a:Option Nat)(b c:Nat):CO:=qD (.chk a b c)
@[reducible] def wn(a:Nat)(b:AK)(c:List CO):AK:=qZ (.blk a b) c
@[reducible] def wo(a b:List CO)(c:AK):AK:=qd a (qd b c)
@[reducible] def wq(a:Nat)(b:List AV)(c:List (Nat × Nat × AOp)):CO:=qb a (.bld b c)
@[reducible] def ws(a b:Nat)(c:Int):CO:=qx a .add b c
@[reducible] def wt(a b c d:Nat):CO:=wj a b c (.t d)
@[reducible] def wu:AOp:= .c q9
@[reducible] def wv:AK:= .exit 0
@[reducible] def ww:AOp:=qi 0
@[reducible] def wx(a b c:Nat):CO:=qb a (wb b c)
@[reducible] def wy(a b c:Nat):Nat × Nat × AOp:=(a,b,.t c)
@[reducible] def wz(a:Nat):CO:=qc a qP
@[reducible] def wA(a:List CO)(b:Nat)(c:AK):AK:=qC a b .skip c
@[reducible] def wB(a:List CO)(b:Nat)(c:AK):AK:=qd a (qV b c)
@[reducible] def wD(a:List CO)(b:Nat)(c d:AK):AK:= .seq (wA a b c) d
@[reducible] def wE(a:Nat)(b:List AOp):CO:=qn a bi b
@[reducible] def wF(a:Nat)(b:AOp):List AOp:=[.t a,b]
@[reducible] def wG(a:Nat)(b:FuncId)(c:Nat)(d:AOp):CO:=qn a b (wF c d)
@[reducible] def wH(a:Nat)(b:FuncId)(c d:Nat):CO:=wG a b c (.t d)
@[reducible] def wI(a b c:Nat):CO:=wh a .lss b c
@[reducible] def wJ(a b:Nat):CO:=wm none a b
@[reducible] def wK(a b c:Nat)(d:AOp):AI:= .app a b (.t c) d
@[reducible] def wL(a:Nat):CO:=qL a 0
@[reducible] def wM(a b c:Nat):CO:=qI a b (q7 c)
@[reducible] def wN(a b:Nat)(c:AOp)(d:Nat):CO:=we a b c (.t d)
@[reducible] def wP(a b:Nat):CO:=qp a 0 b
@[reducible] def wQ(a:CO)(b c:Nat):List CO:=[a,qf b c]
@[reducible] def wR(a b:Nat)(c:Int)(d e:Nat):List CO:=wQ (wd a b c) d e
@[reducible] def wS(a b:Nat):AI:= .ext a (.t b)
@[reducible] def wT(a b c d:Nat):CO:=qI a b (qh c d)
@[reducible] def wU(a:List CO)(b:AK)(c:List CO):AK:=qO a b (qB c)
@[reducible] def wV:AOp:=qi 1
@[reducible] def wW(a b c:Nat):CO:=qH a b (q7 c)
@[reducible] def wX(a:Nat):List AOp:=[.t a]
@[reducible] def wY(a:Nat)(b:FuncId)(c:Nat):CO:=qn a b (wX c)
@[reducible] def wZ(a:List UInt8):AOp:= .c (qv a)
@[reducible] def xa(a b c d:Nat):CO:=qH a b (qh c d)
@[reducible] def xb(a b:Nat):Nat × Nat × AOp:=wy a 1 b
@[reducible] def xc(a b:List CO):AK:=qd a (qB b)
@[reducible] def xd(a b:Nat):CO:=qb a (wa b)
@[reducible] def xe(a b c:Nat):CO:=qH a b (wg c)
@[reducible] def xf(a:Nat):CO:=qf a 5
@[reducible] def xg(a b c:Nat)(d:AOp):CO:=we a b (.t c) d
@[reducible] def xh(a b:Nat)(c:BinOp)(d:Nat)(e:AOp):CO:=qI a b (ql c d e)
@[reducible] def xi(a b:Nat):CO:=qp a 2 b
@[reducible] def xj(a b c d:Nat):AI:=wK a b c (.t d)
@[reducible] def xk(a:Nat):List RV:=[.t a]
@[reducible] def xl(a b c d e:Nat):CO:=qb a (xj b c d e)
@[reducible] def xm(a b c:Nat):CO:=wH a cG b c
@[reducible] def xn(a b:Nat)(c:FuncId)(d:List AOp):CO:=qH a b (.call c d)
@[reducible] def xo(a:List CO)(b:Nat)(c:AK)(d:Nat)(e:AK)(f:List CO):AK:=wD a b c (wn d e f)
@[reducible] def xp(a b:Nat):CO:=qS 1 a b
@[reducible] def xq:CO:=wz 4
@[reducible] def xr(a b c:Nat):CO:=qb a (wS b c)
@[reducible] def xt(a:Nat)(b:List AOp):CO:=qn a cD b
@[reducible] def xu(a b:Nat):CO:=qp a 1 b
@[reducible] def xv:List RV:=xk 2
@[reducible] def xw(a:Nat):CO:=qf a 1
@[reducible] def xx(a:Nat)(b:AK):AK:=qo a .skip b
@[reducible] def xy(a:List CO)(b:Nat)(c:List CO)(d:Nat)(e:AK)(f:Nat)(g:AK)(h:List CO):AK:=wB a b (xo c d e f g h)
@[reducible] def xz(a b c:Nat):CO:=wN a b wu c
@[reducible] def xA(a b:Nat)(c:Int):CO:=qx a .sub b c
@[reducible] def xB(a b:Nat):CO:=ws a b 1
@[reducible] def xC:List RV:=xk 4
@[reducible] def xD(a:Nat)(b:List AOp):CO:=qn a fI b
@[reducible] def xE(a:Nat):List CO:=[wL a]
@[reducible] def xF(a b:Nat):CO:=wY a cN b
@[reducible] def xG:AOp:=qi 2
@[reducible] def xH:List AV:=[.nils]
@[reducible] def xI(a b:Nat)(c:Int)(d e f:Nat)(g h:AK):AK:=qC (wR a b c d e) f g h
@[reducible] def xJ(a b:Nat)(c:List AV)(d:Nat)(e:List (Nat × Nat × AOp)):CO:=qb a (.bslP b c d e)
@[reducible] def xK:AOp:= .c .nils
@[reducible] def xL(a:Nat)(b:List AOp):CO:=qn a bO b
@[reducible] def xM(a:Nat):CO:=qf a 4
@[reducible] def xN(a b:Nat)(c:List CO)(d:Nat)(e:AK)(f:Nat)(g:AK)(h:List CO):AK:=xy (xE a) b c d e f g h
@[reducible] def xO:AOp:=qi 3
@[reducible] def xP(a b:Nat)(c:BinOp)(d:Nat)(e:AOp):CO:=qH a b (ql c d e)
@[reducible] def xQ(a b c:Nat):CO:=wH a dd b c
@[reducible] def xR(a:List CO)(b:Nat)(c:List CO):AK:=qT a b (.reg c)
@[reducible] def xS(a b:Nat):RV:= .c a (some b)
@[reducible] def xT(a:Nat)(b:List AOp):CO:=qn a eJ b
@[reducible] def xU(a b c:Nat):CO:=qI a b (wg c)
@[reducible] def xV(a b:CO)(c d:Nat):List CO:=[a,b,qf c d]
@[reducible] def xW(a:CO)(b c d e:Nat):List CO:=xV a (xB b c) d e
@[reducible] def xX(a b c:Nat):CO:=xg a b c qP
@[reducible] def xY(a:Nat)(b:List AOp):CO:=qn a ef b
@[reducible] def xZ:CO:=wz 2
@[reducible] def x7(a b:Nat)(c:List CO)(d:Nat)(e:AK)(f:Nat)(g:AK)(h:CO)(i j k l:Nat):AK:=xN a b c d e f g (xW h i j k l)
@[reducible] def x8(a:List CO)(b:Nat)(c d:AK):AK:=qO a (xx b c) d
@[reducible] def x9(a b:Nat):CO:=wY a bW b
@[reducible] def ya(a:Nat)(b c:AOp):List AOp:=[.t a,b,c]
@[reducible] def yb(a:Nat)(b:AOp)(c:Nat):List AOp:=ya a b (.t c)
@[reducible] def yc(a:FuncId)(b:List AOp):AI:= .mkf (.func a) b
@[reducible] def ye(a b c d:Nat):List CO:=wQ (xB a b) c d
@[reducible] def yf(a b:List CO)(c:Nat)(d:List CO)(e:AK):AK:=qO a (wl b c d) e
@[reducible] def yg(a:Nat)(b:List AOp):AI:= .callv (.t a) b
@[reducible] def yh(a:Nat):CO:=qf a 6
@[reducible] def yi(a:Nat)(b:FuncId)(c:Nat)(d:AOp)(e:Nat):CO:=qn a b (yb c d e)
@[reducible] def yj(a b:Nat):Nat × Nat × AOp:=wy 0 a b
@[reducible] def yk(a b:Nat)(c:AOp):CO:=wG a iC b c
@[reducible] def yl(a b c:AK):AK:= .cut a (.cut b c)
@[reducible] def ym(a:Nat)(b:AK)(c:List CO):AK:=wU (xE a) b c
@[reducible] def yn(a b c:Nat):CO:=qH a b (wa c)
@[reducible] def yp(a b:List CO):AK:=qd a (.reg b)
@[reducible] def yq(a:Nat):Nat × Nat × AOp:=xb 0 a
@[reducible] def yr(a b:Nat):CO:=qp a 3 b
@[reducible] def yt:List AV:=[qA]
@[reducible] def yu(a:List CO)(b:Nat)(c:List CO)(d:Nat)(e f:AK):AK:=wB a b (x8 c d e f)
@[reducible] def yv(a:Nat)(b:AK)(c d e f:Nat):AK:=wn a b (ye c d e f)
@[reducible] def yw(a:Nat):CO:=qf a 3
@[reducible] def yx(a b:Nat)(c:List AOp):CO:=xn a b bl c
@[reducible] def yy(a b:Nat)(c:AOp):CO:=wG a cu b c
@[reducible] def yz(a:Nat):CO:=qf a 8
@[reducible] def yA(a b:Nat):CO:=wx a b 0
@[reducible] def yB(a b c:Nat)(d:List (Nat × Nat × AOp)):CO:=qU a b yt c d
@[reducible] def yE(a b:AV):List AV:=[a,b,.nils]
@[reducible] def yF(a:AV):List AV:=yE a .nils
@[reducible] def yG:List AV:=yF qN
@[reducible] def yH(a:Nat):CO:=qf a 7
@[reducible] def yI(a b:Nat)(c:Int):Nat × Nat × AOp:=(a,b,qi c)
@[reducible] def yJ(a:Nat)(b:Int):Nat × Nat × AOp:=yI a 1 b
@[reducible] def yK(a b:Nat)(c:FuncId)(d:List AOp):CO:=qI a b (.call c d)
@[reducible] def yM(a b:Nat):List (Nat × Nat × AOp):=[yj a b]
@[reducible] def yN(a b:Nat)(c:List AV)(d e f:Nat):CO:=qU a b c d (yM e f)
@[reducible] def yO(a b:Nat):CO:=qJ a 4 b
@[reducible] def yP(a:BinOp)(b:Nat)(c:AOp):AI:= .bins a (.t b) c
@[reducible] def yQ(a b:Nat):List AOp:=wF a (.t b)
@[reducible] def yR(a:Nat):CO:=qf a 10
@[reducible] def yS:CO:=q6 12
@[reducible] def yT(a:AK)(b:List CO):AK:= .seq a (qB b)
@[reducible] def yU:CO:=wz 6
def pI:FK:=⟨11,xv,wU [qc 2 (.c .nilp)] (xR [q6 3,q8 4 3,qx 5 .gtr 4 2000] 5 (xV (q6 6) (qb 7 (.slS 1 (.t 6) none (some (qi 2000)))) 0 7)) [q6 8,wq 9 [.nils,qA] [yq 8],wx 10 2 9,yR 2]⟩
theorem AM:an Tryz.prog lz=some pI:=by kernel_rfl
def eC:FK:=⟨99,xC,qd (xE 4) (yf [q6 7,q6 8,qW 9 8,xu 10 9,qq 11 10,xB 12 11,qW 13 7,xu 14 13,xp 14 12] [xw 15,qx 16 .lss 15 1,qf 17 16,xe 18 17 0,qH 19 17 (qz 18),xa 20 17 0 19,wW 21 17 20,qH 22 17 (qY 21),xP 23 17 .eql 22 ww,xz 24 17 23] 24 (xE 4) (yf [q6 25,qW 26 25,xu 27 26,qq 28 27,xA 29 28 1,qf 5 29] [xf 30,q6 31,qW 32 31,wP 33 32,qq 34 33,q8 35 34,wI 36 30 35] 36 [q6 37,qW 38 37,wP 39 38,qq 40 39,xf 41,wt 42 1 40 41,qq 43 42,qb 44 (.conv .i64 (.t 43)),xw 45,wh 46 .rem 44 45,qf 4 46] (wo [q6 47,qW 48 47,wP 49 48,xf 51,q6 52,qW 53 52,wP 54 53,q6 62,qW 63 62,wP 64 63,xf 66,qx 67 .mul 66 7,ws 68 67 3,q6 69,qW 70 69,wP 71 70,xf 80,qx 81 .mul 80 29,xf 83,q6 84,qW 85 84,wP 86 85,qq 50 49,qq 55 54,q8 56 55,wh 57 .rem 51 56,wt 58 1 50 57,qq 59 58,qb 60 (.conv .i64 (.t 59)),qx 61 .mul 60 131,qq 65 64,qq 72 71,q8 73 72,wh 74 .rem 68 73,wt 75 1 65 74,qq 76 75,qb 77 (.conv .i64 (.t 76)),qx 78 .mul 77 1117,wh 79 .add 61 78,wh 82 .add 79 81,qq 87 86,q8 88 87,wh 89 .quo 83 88,qx 90 .mul 89 53,wh 91 .add 82 90,qf 6 91] [yh 92,yh 93,qx 94 .quo 93 64,wh 95 .xor 92 94,qf 6 95] (qB [yh 96,xw 97,wh 98 .rem 96 97,qf 4 98]))))⟩
theorem uu:an Tryz.prog bi=some eC:=by kernel_rfl
def jh:FK:=⟨12,xC,xc (xE 4) [xw 5,q6 6,xw 7,q8 8 7,wE 9 (yQ 6 8),wt 10 1 5 9,qq 11 10,qf 4 11]⟩
theorem nq:an Tryz.prog cG=some jh:=by kernel_rfl
def ke:FK:=⟨12,xC,xc [qc 4 (.c qN)] [xw 5,q6 6,xw 7,q8 8 7,wE 9 (yQ 6 8),wt 10 1 5 9,qq 11 10,qf 4 11]⟩
theorem oI:an Tryz.prog dd=some ke:=by kernel_rfl
def gd:FK:=⟨21,[xS 4 4],wU [qX 4 [qA,qA,qN,.nils]] (wl [xw 5,q8 6 5,wd 7 6 0,yH 8,xe 9 8 0,xn 10 8 bi (wF 9 xO),xP 11 8 .eql 10 ww,xz 12 8 11] 12 [q6 13,yB 14 1 10 [(0,1,ww),(1,1,wV),(2,1,xG),(3,1,xO),yJ 4 5,yJ 5 7,yJ 6 15,yJ 7 16,yJ 8 100,yJ 9 255],xm 15 13 14,wq 16 [qA,qA,qN,.nils] [(0,1,wV),xb 1 15],qS 4 4 16]) [q6 17,xw 18,xQ 19 17 18,wq 20 [qA,qA,qN,.nils] [(0,1,xG),xb 2 19],qS 4 4 20]⟩
theorem rV:an Tryz.prog dq=some gd:=by kernel_rfl
def ec:FK:=⟨47,[xS 6 4],yf [qX 6 [qA,qA,qN,.nils]] [qf 8 2,qx 9 .lss 8 2,qf 10 9,xe 11 10 0,xn 12 10 bi (wF 11 (qi 4)),xP 13 10 .eql 12 ww,xz 14 10 13] 14 [q6 15,xw 16,wH 17 dq 15 16,qS 4 6 17] (.seq (wl [q6 18,wE 19 (wF 18 (qi 7)),wd 20 19 0] 20 [q6 21,yB 22 1 3 [yJ 0 11,yJ 1 12,yJ 2 11],xm 23 21 22,q6 24,xw 25,qf 26 2,xA 27 26 1,yi 28 aX 24 (.t 25) 27,yN 29 4 [qA,qA,qN,.nils] 1 4 28,wq 30 [qA,qA,qN,.nils] [yq 23,xb 3 29],qS 4 6 30]) (xc [q6 31,yB 32 1 9 [(0,1,xO),(1,1,xO),yJ 2 4,yJ 3 5,yJ 4 6,yJ 5 7,yJ 6 8,yJ 7 9,yJ 8 10],xm 33 31 32,qf 7 33] [yH 34,q6 35,xw 36,qf 37 2,xA 38 37 1,yi 39 aX 35 (.t 36) 38,q6 40,xw 41,qf 42 2,xA 43 42 1,yi 44 aX 40 (.t 41) 43,qU 45 4 [qA,qA,qN,.nils] 2 [yj 4 39,wy 4 4 44],wq 46 [qA,qA,qN,.nils] [yq 34,xb 3 45],qS 4 6 46]))⟩
theorem mX:an Tryz.prog aX=some ec:=by kernel_rfl
def mb:FK:=⟨99,[xS 4 4],qd [qX 4 [qA,qA,qN,.nils]] (yf [qc 5 (.c .any),q6 9,qW 10 9,wP 11 10,q6 13,qW 14 13,xi 15 14,xw 17,qq 12 11,qq 16 15,yi 18 aX 12 (.t 16) 17,qX 5 [qA,qA,qN,.nils],qS 4 5 18] [q6 19,qW 20 19,xu 21 20,qq 22 21,q8 23 22,wd 24 23 0,qf 25 24,xe 26 25 0,qH 27 25 (qz 26),xa 28 25 0 27,wW 29 25 28,xn 30 25 bi (wF 29 (qi 4)),xP 31 25 .gtr 30 ww,xz 32 25 31] 32 [yO 33 5,qS 4 4 33] (qd [qc 6 (.c .any),q6 34,qW 35 34,xu 36 35,q6 38,qW 39 38,wP 40 39,q6 42,qW 43 42,xu 44 43,qq 37 36,qq 41 40,qq 45 44,q8 46 45,wE 47 (yQ 41 46),wJ 36 37,wt 48 3 37 47,qJ 49 3 48,qX 6 yG,qS 3 6 49] (qO [wP 50 6,qq 51 50,wq 52 [qA,qA,qN,.nils] [yJ 0 13,xb 2 51],qX 7 [qA,qA,qN,.nils],qS 4 7 52] (x7 8 0 [yz 53,xu 54 6,qq 55 54,q8 56 55,wI 57 53 56] 57 wv 1 (.reg [yr 60 7,q6 62,qW 63 62,wP 64 63,q6 66,qW 67 66,xi 68 67,qq 61 60,qq 65 64,qq 69 68,qn 70 aX (ya 65 (.t 69) xG),wJ 60 61,xJ 71 4 [qA,qA,qN,.nils] 1 (yM 4 70),xl 72 4 56 61 71,yr 73 7,xp 73 72]) (yz 58) 59 58 8 59) (yT (wl [q6 74,qW 75 74,wP 76 75,qq 77 76,wE 78 (wF 77 xG),wd 79 78 0] 79 [yO 80 7,qS 4 4 80]) [q6 81,qW 82 81,wP 83 82,xJ 85 1 yt 4 [(0,1,xO),yJ 1 4,yJ 2 8,yJ 3 10],q6 88,qW 89 88,wP 90 89,q6 92,qW 93 92,xi 94 93,qq 84 83,yO 87 7,qq 91 90,qq 95 94,xm 86 84 85,wm (some 4) 7 87,wJ 90 91,wJ 94 95,qn 96 aX (ya 91 (.t 95) xG),wm (some 4) 7 87,qU 97 4 [qA,qA,qN,.nils] 2 [yj 4 87,wy 4 4 96],wq 98 [qA,qA,qN,.nils] [yq 86,xb 3 97],qS 4 4 98]))))⟩
theorem tO:an Tryz.prog iC=some mb:=by kernel_rfl
def lg:FK:=⟨46,xv,qd [qc 2 (.c qN)] (wU [q6 3,q6 4,qW 5 4,yr 6 5,qq 7 6,xB 8 7,qW 9 3,yr 10 9,xp 10 8] (wl [q6 11,qW 12 11,wP 13 12,qq 14 13,wE 15 (wF 14 (qi 9)),wd 16 15 0,qf 17 16,xU 18 17 0,qI 19 17 (qz 18),wT 20 17 2 19,wM 21 17 20,qI 22 17 (qY 21),xh 23 17 .gtr 22 ww,xX 24 17 23] 24 [q6 25,qW 26 25,wP 27 26,q6 29,qW 30 29,xi 31 30,qq 28 27,qq 32 31,xQ 33 28 32,qf 2 33]) [q6 34,qW 35 34,yr 36 35,q6 39,qW 40 39,yr 41 40,qq 37 36,qx 38 .rem 37 24,qq 42 41,qx 43 .rem 42 24,xB 44 43,qb 45 (.slStr (wZ [97,98,99,100,101,103,104,105,106,107,108,109,110,112,113,114,115,116,117,118,119,120,121,122]) (some (.t 38)) (some (.t 44))),qf 2 45])⟩
theorem sH:an Tryz.prog gJ=some lg:=by kernel_rfl
def jf:FK:=⟨24,[xS 4 5],wo [wx 3 4 1,qX 4 [qA,qN,.nils,.nils,.nils]] (xV (q6 6) (wY 7 gJ 6) 5 7) (xc [q6 8,qU 9 1 [qN] 0 [],q6 10,qW 11 10,xi 12 11,qq 13 12,xl 14 1 16 9 13,xf 15,qU 16 1 [qN] 1 [yq 15],xl 17 1 16 14 16,qW 18 8,xi 19 18,xp 19 17] [xf 20,yO 21 3,yN 22 4 [qA,qA,qN,.nils] 1 4 21,wq 23 [qA,qN,.nils,.nils,.nils] [(0,1,wV),xb 1 20,xb 2 22],qS 5 4 23])⟩
theorem nu:an Tryz.prog dJ=some jf:=by kernel_rfl
def mj:FK:=⟨14,[xS 2 4],xc [qX 2 [qA,qA,qN,.nils]] [q6 3,q6 5,qW 6 5,wP 7 6,xJ 9 1 yt 6 [yJ 0 16,yJ 1 16,yJ 2 16,yJ 3 8,yJ 4 17,(5,1,ww)],qq 8 7,yk 4 3 xG,wJ 7 8,xm 10 8 9,wq 11 [qA,qA,qN,.nils] [(0,1,wV),xb 1 10],qU 12 4 [qA,qA,qN,.nils] 2 [yj 4 4,wy 4 4 11],wq 13 [qA,qA,qN,.nils] [yJ 0 7,xb 3 12],qS 4 2 13]⟩
theorem tD:an Tryz.prog eE=some mj:=by kernel_rfl
def iJ:AK:=wo [qc 4 xK] [q6 9,q6 10,qW 11 10,wP 12 11,qq 13 12,yB 14 1 5 [(0,1,xG),(1,1,xO),(2,1,wV),(3,1,ww),yJ 4 5],xm 15 13 14,wq 16 [qA,qA,qN,.nils] [(0,1,wV),xb 1 15],wH 17 dJ 9 16,qX 5 [qA,qN,.nils,.nils,.nils],qS 5 5 17] (wo [xu 18 5,qq 19 18,wq 20 [qA,qA,qN,.nils] [(0,1,xG),xb 2 19],qX 6 [qA,qA,qN,.nils],qS 4 6 20] [q6 21,xw 22,xA 23 22 1,wH 24 aZ 21 23,qf 7 24] (qd [xu 25 5,qq 26 25,yO 27 6,wq 28 [qA,qA,qN,.nils] [(0,1,wV),(1,1,wV)],qU 29 4 [qA,qA,qN,.nils] 2 [yj 4 27,wy 4 4 28],wq 30 [qA,qA,qN,.nils] [yJ 0 4,xb 3 29],yN 31 4 [qA,qA,qN,.nils] 1 4 30,wq 32 [qA,qN,.nils,.nils,.nils] [(0,1,xG),xb 1 26,xb 2 31],qX 8 [qA,qN,.nils,.nils,.nils],qS 5 8 32] (.cut (.reg [q6 33,q6 34,qW 35 34,qp 36 4 35,qq 37 36,xA 38 37 2,qW 39 33,qp 40 4 39,xp 40 38]) (qB [yH 44,qJ 41 5 5,yO 42 6,xJ 43 4 [qA,qA,qN,.nils] 1 (yM 4 42),qJ 45 5 8,xJ 46 5 [qA,qN,.nils,.nils,.nils] 1 (yM 5 45),xl 47 5 96 44 46,wm (some 5) 5 41,wm (some 4) 6 42,wq 48 [qA,qN,.nils,.nils,.nils] [yJ 0 6,xb 2 43,xb 3 47],qU 49 5 [qA,qN,.nils,.nils,.nils] 2 [yj 5 41,wy 5 5 48],qf 4 49]))))
def gZ:FK:=⟨50,xC,(AK.whole iJ)⟩
theorem ug:an Tryz.prog ip=some gZ:=by kernel_rfl
def mv:FK:=⟨128,xC,wo [qc 4 xK] [q6 7,q6 8,qW 9 8,qp 10 4 9,qq 11 10,xA 12 11 1,qW 13 7,qp 14 4 13,xp 14 12] (wU [q6 15,qW 16 15,wP 17 16,qq 18 17,wE 19 (wF 18 (qi 13)),qf 5 19] (.blk 0 (qC [xf 21,qx 22 .lss 21 3,qf 23 22,xU 24 23 0,qI 25 23 (qz 24),wT 26 23 2 25,wM 27 23 26,qI 28 23 (qY 27),xh 29 23 .gtr 28 ww,xX 30 23 29,qf 20 30] 20 (qB [q6 31,qW 32 31,wP 33 32,q6 35,qW 36 35,xi 37 36,q6 40,qq 34 33,qq 38 37,xQ 39 34 38,yk 41 40 xO,yN 42 4 [qA,qA,qN,.nils] 1 4 41,wq 43 [qA,qN,.nils,.nils,.nils] [(0,1,xG),xb 1 39,xb 2 42],yN 44 5 [qA,qN,.nils,.nils,.nils] 1 5 43,qf 4 44]) (qC (xV (xf 46) (qx 47 .lss 46 5) 45 47) 45 (qB [q6 48,q6 49,yk 50 49 xO,wH 51 dJ 48 50,yN 52 5 [qA,qN,.nils,.nils,.nils] 1 5 51,qf 4 52]) (qC [xf 54,qx 55 .lss 54 7,qf 56 55,xe 57 56 1,xP 58 56 .lss 57 xG,xz 59 56 58,qf 53 59] 53 (qB [q6 60,yk 61 60 xO,yN 62 4 [qA,qA,qN,.nils] 1 4 61,wq 63 [qA,qN,.nils,.nils,.nils] [(0,1,xO),xb 2 62],yN 64 5 [qA,qN,.nils,.nils,.nils] 1 5 63,qf 4 64]) (qC (xV (xf 66) (wd 67 66 7) 65 67) 65 (qB [q6 68,wY 69 eE 68,q6 70,yk 71 70 xG,qU 72 4 [qA,qA,qN,.nils] 2 [yj 4 69,wy 4 4 71],wq 73 [qA,qN,.nils,.nils,.nils] [yJ 0 4,xb 2 72],yN 74 5 [qA,qN,.nils,.nils,.nils] 1 5 73,qf 4 74]) (qC (xV (xf 76) (wd 77 76 8) 75 77) 75 (qB [q6 78,wY 79 eE 78,yN 80 4 [qA,qA,qN,.nils] 1 4 79,wq 81 [qA,qA,qN,.nils] [yJ 0 12,xb 3 80],yN 82 4 [qA,qA,qN,.nils] 1 4 81,wq 83 [qA,qN,.nils,.nils,.nils] [(0,1,xO),xb 2 82],yN 84 5 [qA,qN,.nils,.nils,.nils] 1 5 83,qf 4 84]) (qC (xV (xf 86) (qx 87 .lss 86 11) 85 87) 85 (wU [q6 88,yk 89 88 xO,yN 90 4 [qA,qA,qN,.nils] 1 4 89,q6 91,xw 92,xA 93 92 1,wH 94 aZ 91 93,wq 95 [qA,qN,.nils,.nils,.nils] [yJ 0 5,xb 2 90,xb 3 94],qX 6 [qA,qN,.nils,.nils,.nils],qS 5 6 95] (xR [q6 96,qW 97 96,wP 98 97,qq 99 98,wE 100 (wF 99 xG),wd 101 100 0] 101 [q6 102,xw 103,xA 104 103 1,wH 105 aZ 102 104,qp 106 4 6,xp 106 105]) (xV (qJ 107 5 6) (yN 108 5 [qA,qN,.nils,.nils,.nils] 1 5 107) 4 108)) (wl [xf 110,wd 111 110 11,qf 112 111,xU 113 112 0,qI 114 112 (qz 113),wT 115 112 0 114,wM 116 112 115,yK 117 112 bi (wF 116 xO),xh 118 112 .eql 117 ww,xX 119 112 118,qf 109 119] 109 [q6 120,yk 121 120 xG,yN 122 4 [qA,qA,qN,.nils] 1 4 121,wq 123 [qA,qN,.nils,.nils,.nils] [yJ 0 7,xb 2 122],yN 124 5 [qA,qN,.nils,.nils,.nils] 1 5 123,qf 4 124])))))))) [q6 125,xw 126,wH 127 ip 125 126,qf 4 127])⟩
theorem tR:an Tryz.prog iw=some mv:=by kernel_rfl
def lN:FK:=⟨40,xC,wo [qc 4 xK] [q6 8,qW 9 8,xi 10 9,qq 11 10,qf 5 11] (qO (wQ (qU 12 5 [qA,qN,.nils,.nils,.nils] 0 []) 6 12) (xy [q6 13,qW 14 13,wP 15 14,qq 16 15,yB 17 1 4 [(0,1,xG),(1,1,xO),(2,1,wV),yJ 3 4],xm 18 16 17,qf 7 18] 0 [yH 19,qx 20 .gtr 19 0,qf 21 20,xU 22 21 0,qI 23 21 (qz 22),wT 24 21 4 23,wM 25 21 24,xh 26 21 .gtr 25 ww,xX 27 21 26] 27 wv 1 (.reg [yh 30,q6 31,xw 32,wH 33 iw 31 32,xl 34 5 96 30 33,qf 6 34]) (xV (yH 28) (xA 29 28 1) 7 29)) (xc [q6 35,xf 36,qW 37 35,xi 38 37,xp 38 36] (wQ (yh 39) 4 39)))⟩
theorem sE:an Tryz.prog aZ=some lN:=by kernel_rfl
def kh:AK:=wo [qX 6 yG] [q6 8,qU 9 1 [qN] 3 [(0,1,wZ [97]),(1,1,wZ [98]),(2,1,wZ [99])],qf 10 2,qb 11 (.slS 1 (.t 9) none (some (.t 10))),qW 12 8,xi 13 12,xp 13 11] (qd [q6 14,qf 15 2,xA 16 15 1,qW 17 14,yr 18 17,xp 18 16] (.cut (.reg [xw 19,qU 20 1 [qN] 0 [],q6 21,qW 22 21,xi 23 22,qq 24 23,xl 25 1 16 20 24,wq 26 yG [yq 19,xb 1 25],qX 7 yG,qS 3 7 26]) (wU [q6 27,wG 28 aZ 27 xO,xi 29 7,xp 29 28] (qT [q6 30,qW 31 30,qp 32 4 31,qq 33 32,qx 34 .gtr 33 0,qf 35 34,xU 36 35 0,qI 37 35 (qz 36),wT 38 35 0 37,wM 39 35 38,yK 40 35 bi (wF 39 (qi 4)),xh 41 35 .gtr 40 ww,xX 42 35 41] 42 (yp [q6 43,q6 44,qW 45 44,qp 46 4 45,qq 47 46,xA 48 47 1,qW 49 43,qp 50 4 49,xp 50 48] [xi 51 7,q6 53,qq 52 51,yk 54 53 xG,wJ 51 52,xJ 55 4 [qA,qA,qN,.nils] 1 (yM 4 54),wq 56 [qA,qN,.nils,.nils,.nils] [yJ 0 7,xb 2 55],xJ 57 5 [qA,qN,.nils,.nils,.nils] 1 (yM 5 56),xl 58 5 96 52 57,xi 59 7,xp 59 58])) [qJ 60 3 7,qS 3 6 60])))
def jZ:FK:=⟨61,[xS 6 3],(AK.whole kh)⟩
theorem zl:an Tryz.prog gm=some jZ:=by kernel_rfl
def pH:FK:=⟨15,xk 6,xc [yU] [q6 7,xw 8,wh 9 .geq 7 8,qf 10 9,xU 11 10 0,xU 12 10 2,xh 13 10 .leq 11 (.t 12),xX 14 10 13,qf 6 14]⟩
theorem FR:an Tryz.prog bl=some pH:=by kernel_rfl
def pm:FK:=⟨18,xC,ym 4 (x7 5 0 [xf 6,q6 7,qb 8 (.len true (.t 7)),wI 9 6 8] 9 wv 1 (wl [yS,xf 13,qb 14 (.idxStr (.t 12) (.t 13)),xw 15,wh 16 .eql 14 15] 16 (wQ (xf 17) 4 17)) (xf 10) 11 10 5 11) [qL 4 (-1)]⟩
theorem Cc:an Tryz.prog lP=some pm:=by kernel_rfl
def rb:FK:=⟨28,xv,ym 2 (.blk 0 (qC [q6 4,qu 5 .geq 4 (.c (qe .u8 97)),xf 6,xU 7 6 0,xh 8 6 .leq 7 (.c (qe .u8 122)),xX 9 6 8,qf 3 9] 3 (qB [qL 2 1]) (qC [q6 11,qu 12 .geq 11 (.c (qe .u8 48)),qf 13 12,xU 14 13 0,xh 15 13 .leq 14 (.c (qe .u8 57)),xX 16 13 15,qf 10 16] 10 (qB [qL 2 2]) (qC [q6 18,qn 19 lP [wZ [40,41,123,125,59,44,43,45,42,47,37,60,61,38,33,64],.t 18],qx 20 .geq 19 0,qf 17 20] 17 (qB [qL 2 3]) (wl [q6 22,qu 23 .eql 22 (.c (qe .u8 32)),qf 24 23,xe 25 24 0,xP 26 24 .eql 25 (.c (qe .u8 10)),xz 27 24 26,qf 21 27] 21 [qL 2 4]))))) (xE 2)⟩
theorem BR:an Tryz.prog ln=some rb:=by kernel_rfl
def tw:FK:=⟨21,xC,wU [xq] (x7 5 0 [xf 6,q6 7,qb 8 (.len true (.t 7)),wI 9 6 8] 9 wv 1 (wl [yS,xf 13,qb 14 (.idxStr (.t 12) (.t 13)),wY 15 ln 14,xw 16,wh 17 .neq 15 16] 17 [xq]) (xf 10) 11 10 5 11) [q6 18,qb 19 (.len true (.t 18)),qx 20 .gtr 19 0,qf 4 20]⟩
theorem DZ:an Tryz.prog nO=some tw:=by kernel_rfl
def ox:FK:=⟨2,xk 0,xc [qc 0 xK] (wQ (qU 1 1 [qN] 9 [(0,1,wZ [102,110]),(1,1,wZ [108,101,116]),(2,1,wZ [115,97,121]),(3,1,wZ [112,117,116]),(4,1,wZ [105,102]),(5,1,wZ [101,108,115,101]),(6,1,wZ [108,111,111,112]),(7,1,wZ [98,97,99,107]),(8,1,wZ [100,111])]) 0 1)⟩
theorem zq:an Tryz.prog gw=some ox:=by kernel_rfl
def tM:FK:=⟨18,xv,qd [xZ] (wU (wQ (qn 5 gw []) 3 5) (x7 4 0 [xM 6,yw 7,q8 8 7,wI 9 6 8] 9 wv 1 (wl [yw 12,xM 13,wt 14 1 12 13,qq 15 14,q6 16,qb 17 (yP .eql 15 (.t 16))] 17 [qc 2 wu]) (xM 10) 11 10 4 11) [xZ])⟩
theorem DJ:an Tryz.prog od=some tM:=by kernel_rfl
def sh:FK:=⟨15,xv,xc [xZ] [q6 3,wG 4 nO 3 wV,xM 5,xU 6 5 0,qI 7 5 (.len true (.t 6)),xh 8 5 .leq 7 (qi 4),xX 9 5 8,qf 10 9,xU 11 10 0,yK 12 10 od (wX 11),qI 13 10 (wa 12),xX 14 10 13,qf 2 14]⟩
theorem CJ:an Tryz.prog cC=some sh:=by kernel_rfl
def mY:FK:=⟨5,xv,ym 2 (wl [q6 3,wd 4 3 4] 4 [qL 2 2]) [qL 2 1]⟩
theorem Cr:an Tryz.prog jB=some mY:=by kernel_rfl
def dk:FK:=⟨13,[.t 2,.t 3],wU [wL 2,wL 3] (qd [q6 4] (.blk 0 (wD (wR 6 4 1 5 6) 5 (.reg (wR 7 4 2 5 7)) (qo 5 (qB [wL 2,wL 3]) (wD (wR 9 4 11 8 9) 8 (.reg (wR 10 4 12 8 10)) (qo 8 (qB [qL 2 1,qL 3 1]) (wl (wR 12 4 13 11 12) 11 [wL 2,qL 3 3]))))))) [qL 2 2,qL 3 2]⟩
theorem Ci:an Tryz.prog jq=some dk:=by kernel_rfl
def jz:FK:=⟨86,xC,qd [yA 2 4,xq] (yf [wP 10 2,qq 11 10,wY 12 jq 11,qf 9 12,xr 13 0 9,xr 14 1 9,qf 5 13,qf 6 14] [xw 15,qx 16 .lss 15 1,qf 17 16,xa 18 17 0 2,wW 19 17 18,yx 20 17 (ya 19 wV (qi 13)),yn 21 17 20,xz 22 17 21,qf 23 22,xa 24 23 3 2,wW 25 23 24,qH 26 23 (qY 25),xe 27 23 5,xe 28 23 6,yx 29 23 (yb 26 (.t 27) 28),yn 30 23 29,xz 31 23 30] 31 [xq] (yf [wP 32 2,qq 33 32,wd 34 33 2,qf 35 34,xa 36 35 0 2,wW 37 35 36,xP 38 35 .eql 37 (qi 13),xz 39 35 38,qf 7 39] [yH 40,xi 41 2,qq 42 41,wY 43 cC 42,qb 44 (.beq true (.t 40) (.t 43)),qf 45 44,xe 46 45 7,yn 47 45 46,xe 48 45 47,wT 49 48 2 2,wM 50 48 49,qI 51 48 (yP .neq 50 (.c qN)),qH 52 45 (qM 48 (.t 51) qP),xz 53 45 52,qf 54 53,xa 55 54 1 2,wW 56 54 55,yx 57 54 (ya 56 ww (qi 255)),yn 58 54 57,xz 59 54 58,qf 60 59,xa 61 60 0 2,wW 62 60 61,xP 63 60 .neq 62 wV,xe 64 60 63,wT 65 64 1 2,wM 66 64 65,xh 67 64 .neq 66 ww,qH 68 60 (qM 64 (.t 67) qP),xz 69 60 68] 69 [xq] (yT (x7 8 0 [yz 70,yr 71 2,qq 72 71,q8 73 72,wI 74 70 73] 74 wv 1 (wl [yr 77 2,qq 78 77,yz 79,wt 80 4 78 79,yO 81 80,xw 82,xA 83 82 1,wH 84 ga 81 83,xd 85 84] 85 [xq]) (yz 75) 76 75 8 76) [qc 4 wu])))⟩
theorem rZ:an Tryz.prog ga=some jz:=by kernel_rfl
def pS:FK:=⟨21,xv,qd [yA 1 4,wL 2] (wU [qL 3 1] (x7 4 0 [xM 5,yr 6 1,qq 7 6,q8 8 7,wI 9 5 8] 9 wv 1 (.reg [yw 12,yr 13 1,qq 14 13,xM 15,wt 16 4 14 15,yO 17 16,wY 18 gX 17,wh 19 .add 12 18,qf 3 19]) (xM 10) 11 10 4 11) (wQ (yw 20) 2 20))⟩
theorem BK:an Tryz.prog gX=some pS:=by kernel_rfl
def nr:FK:=⟨10,xv,xc [yA 1 4,xZ] [yO 3 1,wG 4 ga 3 (qi 6),xM 5,qI 6 5 (qj (some 4) 1),yK 7 5 gX (wX 6),xh 8 5 .leq 7 (qi 30),xX 9 5 8,qf 2 9]⟩
theorem vb:an Tryz.prog eZ=some nr:=by kernel_rfl
def jx:FK:=⟨108,xC,yf [yA 2 5,xq] [xw 7,qx 8 .lss 7 1,yz 9,xa 10 9 0 2,wW 11 9 10,yx 12 9 (ya 11 wV (qi 8)),yn 13 9 12,xz 14 9 13,qf 15 14,xa 16 15 2 2,xa 19 15 0 2,wW 17 15 16,qH 18 15 (qY 17),wW 20 15 19,qH 21 15 (.qcall jB (wX 20)),xP 22 15 .neq 18 (.t 21),xz 23 15 22] 23 [xq] (yf [wP 24 2,qq 25 24,wd 26 25 1,qf 27 26,xa 28 27 0 2,wW 29 27 28,xP 30 27 .eql 29 xG,xz 31 27 30,qf 5 31] [xf 32,xu 33 2,qq 34 33,wY 35 cC 34,qb 36 (.beq true (.t 32) (.t 35)),qf 37 36,xe 38 37 5,yn 39 37 38,xe 40 37 39,wT 41 40 1 2,wM 42 40 41,qI 43 40 (yP .neq 42 (.c qN)),qH 44 37 (qM 40 (.t 43) qP),xz 45 37 44] 45 [xq] (.seq (x7 6 0 [yh 46,xi 47 2,qq 48 47,q8 49 48,wI 50 46 49] 50 wv 1 (wl [xi 53 2,qq 54 53,yh 55,wt 56 4 54 55,yO 57 56,wY 58 eZ 57,xd 59 58] 59 [xq]) (yh 51) 52 51 6 52) (.seq (wl [wP 60 2,qq 61 60,wd 62 61 8,qf 63 62,wT 64 63 2 2,wM 65 63 64,qI 66 63 (qQ 4 65 ww),wT 67 63 0 66,wM 68 63 67,xh 69 63 .neq 68 (qi 13),xX 70 63 69] 70 [xq]) (yT (wl [qp 71 4 2,qq 72 71,q8 73 72,qx 74 .gtr 73 0,qf 75 74,wT 76 75 0 2,wM 77 75 76,xh 78 75 .neq 77 (qi 5),xX 79 75 78,qf 80 79,xa 81 80 3 2,wW 82 80 81,qH 83 80 (qY 82),xP 84 80 .gtr 83 ww,xe 85 80 84,wT 86 85 0 2,wM 87 85 86,xh 88 85 .neq 87 (qi 5),qH 89 80 (qM 85 (.t 88) qP),xe 90 80 89,wT 91 90 0 2,wM 92 90 91,xh 93 90 .neq 92 (qi 6),qH 94 80 (qM 90 (.t 93) qP),xz 95 80 94] 95 [xq]) [yr 96 2,qq 97 96,xw 98,xA 99 98 1,wH 100 bZ 97 99,qf 101 100,wT 102 101 4 2,wM 103 101 102,xU 104 101 1,xh 105 101 .sub 104 wV,yK 106 101 bZ (yQ 103 105),xX 107 101 106,qf 4 107]))))⟩
theorem rP:an Tryz.prog jr=some jx:=by kernel_rfl
def pY:FK:=⟨19,xC,wU [xq] (x7 5 0 [xf 6,q6 7,q8 8 7,wI 9 6 8] 9 wv 1 (wl [yS,xf 13,wt 14 5 12 13,qJ 15 5 14,xw 16,wH 17 jr 15 16,xd 18 17] 18 [xq]) (xf 10) 11 10 5 11) [qc 4 wu]⟩
theorem Cb:an Tryz.prog bZ=some pY:=by kernel_rfl
def zd:FK:=⟨32,xv,wU [yA 1 3,xZ] (x7 3 0 [yw 4,xu 5 1,qq 6 5,q8 7 6,wI 8 4 7] 8 wv 1 (wl [xu 11 1,qq 12 11,yw 13,wt 14 1 12 13,qq 15 14,wY 16 cC 15,xd 17 16] 17 [xZ]) (yw 9) 10 9 3 10) [wP 18 1,qq 19 18,wY 20 cC 19,qf 21 20,wT 22 21 1 1,wM 23 21 22,qI 24 21 (qY 23),xh 25 21 .leq 24 xO,xX 26 21 25,qf 27 26,wT 28 27 2 1,wM 29 27 28,yK 30 27 bZ (wF 29 (qi 4)),xX 31 27 30,qf 2 31]⟩
theorem Fe:an Tryz.prog pD=some zd:=by kernel_rfl
def kT:FK:=⟨29,xv,qd (xE 2) (wU (xV (q6 5) (q8 6 5) 3 6) (x7 4 0 [xM 7,q6 8,q8 9 8,wI 10 7 9] 10 wv 1 (.reg [yw 13,q6 14,xM 15,wt 16 5 14 15,yr 17 16,q6 21,xM 22,wt 23 5 21 22,qp 24 4 23,qq 18 17,qq 25 24,wY 19 eQ 18,wJ 24 25,wh 20 .add 13 19,wY 26 eQ 25,wh 27 .add 20 26,qf 3 27]) (xM 11) 12 11 4 12) (wQ (yw 28) 2 28))⟩
theorem pi:an Tryz.prog eQ=some kT:=by kernel_rfl
def uj:FK:=⟨22,xv,qd [yA 1 1,wL 2] (ym 3 (x7 4 0 [xM 5,wP 6 1,qq 7 6,q8 8 7,wI 9 5 8] 9 wv 1 (.reg [yw 12,wP 13 1,qq 14 13,xM 15,wt 16 3 14 15,xi 17 16,qq 18 17,wY 19 eQ 18,wh 20 .add 12 19,qf 3 20]) (xM 10) 11 10 4 11) (wQ (yw 21) 2 21))⟩
theorem Ev:an Tryz.prog og=some uj:=by kernel_rfl
def kj:FK:=⟨26,xv,yf [yA 1 1,xZ] [wP 4 1,qq 5 4,q8 6 5,qn 7 bl (ya 6 wV (qi 4)),xd 8 7] 8 [xZ] (yT (x7 3 0 [yw 9,wP 10 1,qq 11 10,q8 12 11,wI 13 9 12] 13 wv 1 (wl [wP 16 1,qq 17 16,yw 18,wt 19 3 17 18,qJ 20 3 19,wY 21 pD 20,xd 22 21] 22 [xZ]) (yw 14) 15 14 3 15) [qJ 23 1 1,wY 24 og 23,qx 25 .leq 24 40,qf 2 25])⟩
theorem rJ:an Tryz.prog dw=some kj:=by kernel_rfl
def sw:FK:=⟨69,[xS 2 1],qd [qX 2 xH] (qO [q6 8,q6 9,yB 10 1 4 [yJ 0 14,yJ 1 20,yJ 2 8,yJ 3 26],xm 11 9 10,wq 12 [.nilp,.nils,.nils,qA,qA] [yq 8,xb 4 11],wx 13 5 12,qf 3 13] (xy [q6 14,yB 15 1 4 [(0,1,ww),(1,1,wV),(2,1,wV),(3,1,xG)],xm 16 14 15,qf 4 16] 0 [xM 17,qx 18 .gtr 17 0] 18 wv 1 (yp [qc 5 (.c .any),yw 21,xJ 22 1 [qN] 3 [(0,1,wZ [102]),(1,1,wZ [103]),(2,1,wZ [104])],yw 23,qW 24 23,xu 25 24,q6 30,qq 26 25,q8 27 26,wt 28 1 22 27,qq 29 28,wE 31 (wF 30 xO),wJ 25 26,wJ 28 29,yi 32 gm 21 (.t 29) 31,qX 5 yG,qS 3 5 32] [yw 33,yw 34,qW 35 34,xu 36 35,qq 37 36,qJ 38 3 5,xJ 39 3 yG 1 (yM 3 38),xl 40 3 64 37 39,qW 41 33,xu 42 41,xp 42 40]) (xV (xM 19) (xA 20 19 1) 4 20)) (qd [yw 43,q6 44,yB 45 1 4 [(0,1,ww),(1,1,wV),(2,1,xG),(3,1,wV)],xm 46 44 45,yi 47 gm 43 (wZ [109]) 46,qX 6 yG,qS 3 6 47] (wU [qc 7 (.c .any),yw 49,qW 50 49,xu 51 50,qq 52 51,qJ 54 3 6,xJ 55 3 yG 1 (yM 3 54),qU 48 3 yG 0 [],wJ 51 52,wm (some 3) 6 54,xl 53 3 64 48 52,wm (some 3) 6 54,xl 56 3 64 53 55,wq 57 xH [yq 56],qX 7 xH,xp 7 57] (wl [qJ 58 1 7,wY 59 dw 58,xd 60 59] 60 [wq 61 [qA,qA,qN,.nils] [(0,1,wV),(1,1,wV)],yN 62 4 [qA,qA,qN,.nils] 1 4 61,wq 63 [qA,qN,.nils,.nils,.nils] [(0,1,xO),xb 2 62],yN 64 5 [qA,qN,.nils,.nils,.nils] 1 5 63,wq 65 yG [(0,1,wZ [109]),xb 2 64],yN 66 3 yG 1 3 65,wq 67 xH [yq 66],xp 2 67]) [qJ 68 1 7,xp 2 68])))⟩
theorem Ck:an Tryz.prog ed=some sw:=by kernel_rfl
def tU:FK:=⟨42,[xS 4 4],qd [qX 4 [qA,qA,qN,.nils]] (yf [q6 8,qU 9 1 [qN] 4 [(0,1,wZ [97]),(1,1,wZ [98]),(2,1,wZ [120]),(3,1,wZ [103,111])],xw 10,yi 11 aX 8 (.t 9) 10,qX 5 [qA,qA,qN,.nils],qS 4 5 11] [yS,wE 13 (wF 12 xO),qx 14 .gtr 13 0] 14 [yO 15 5,qS 4 4 15] (qO [q6 16,qU 17 1 [qN] 3 [(0,1,wZ [102]),(1,1,wZ [103]),(2,1,wZ [97])],xQ 18 16 17,wq 19 [qA,qA,qN,.nils] [yJ 0 13,xb 2 18],qX 6 [qA,qA,qN,.nils],qS 4 6 19] (xy (xV (q6 20) (wE 21 (wF 20 (qi 4))) 7 21) 0 [yH 22,qx 23 .gtr 22 0] 23 wv 1 (.reg [yr 26 6,q6 28,xJ 29 1 [qN] 2 [(0,1,wZ [97]),(1,1,wZ [98])],qq 27 26,qn 30 aX (ya 28 (.t 29) xG),wJ 26 27,xJ 31 4 [qA,qA,qN,.nils] 1 (yM 4 30),xl 32 4 56 27 31,yr 33 6,xp 33 32]) (xV (yH 24) (xA 25 24 1) 7 25)) (yT (wl [q6 34,wE 35 (wF 34 xG),wd 36 35 0] 36 [yO 37 6,qS 4 4 37]) [yO 38 5,yO 39 6,qU 40 4 [qA,qA,qN,.nils] 2 [yj 4 38,wy 4 4 39],wq 41 [qA,qA,qN,.nils] [(0,1,xO),xb 3 40],qS 4 4 41])))⟩
theorem Dz:an Tryz.prog iB=some tU:=by kernel_rfl
def sf:FK:=⟨40,[xS 2 4],qd [qX 2 [qA,qA,qN,.nils]] (wU [q6 4,wG 5 iB 4 (qi 4),qX 3 [qA,qA,qN,.nils],qS 4 3 5] (qd [q6 6,wE 7 (wF 6 (qi 20))] (.blk 0 (xI 9 7 0 8 9 8 (.reg [q6 10,yB 11 1 3 [yJ 0 (-1),yJ 1 256,(2,1,xO)],xm 12 10 11,xu 13 3,xp 13 12]) (xI 15 7 1 14 15 14 (.reg [q6 16,qU 17 1 [qN] 5 [(0,1,.c qN),(1,1,wZ [100,111]),(2,1,wZ [65]),(3,1,wZ [97,98,99,100,101]),(4,1,wZ [113])],xQ 18 16 17,xi 19 3,xp 19 18]) (xI 21 7 2 20 21 20 (.reg [q6 22,yB 23 1 5 [(0,1,ww),yJ 1 14,yJ 2 (-1),yJ 3 5,yJ 4 11],xm 24 22 23,wP 25 3,xp 25 24]) (xI 27 7 3 26 27 26 (.reg [yr 28 3,q6 30,qq 29 28,wG 31 dq 30 xK,wJ 28 29,xJ 32 4 [qA,qA,qN,.nils] 1 (yM 4 31),xl 33 4 56 29 32,yr 34 3,xp 34 33]) (xR (wR 36 7 4 35 36) 35 [q6 37,wG 38 iB 37 (qi 7),qS 4 3 38]))))))) [yO 39 3,qS 4 2 39])⟩
theorem Cy:an Tryz.prog mS=some sf:=by kernel_rfl
def mI:AK:=wo [qX 2 xH] [q6 9,wY 10 ed 9,qX 3 xH,xp 3 10] (qd [wP 11 3,qq 12 11,wP 13 3,qq 14 13,q8 15 14,xA 16 15 1,wt 17 3 12 16,qJ 18 3 17,qX 4 yG,qS 3 4 18] (.cut (qd [q6 19,wE 20 (wF 19 (qi 32))] (.blk 0 (xI 22 20 0 21 22 21 (.reg [q6 23,qU 24 1 [qN] 4 [(0,1,wZ [102]),(1,1,wZ [100,111]),(2,1,.c qN),(3,1,wZ [103])],xQ 25 23 24,wP 26 4,xp 26 25]) (xI 28 20 1 27 28 27 (.reg [qU 29 1 [qN] 0 [],xu 30 4,qq 31 30,xl 32 1 16 29 31,q6 33,qU 34 1 [qN] 3 [(0,1,wZ [97]),(1,1,wZ [120]),(2,1,wZ [105,102])],xQ 35 33 34,qU 36 1 [qN] 1 [yq 35],xl 37 1 16 32 36,xu 38 4,xp 38 37]) (xI 40 20 2 39 40 39 (.reg [qU 41 5 [qA,qN,.nils,.nils,.nils] 0 [],xi 42 4,qq 43 42,xl 44 5 96 41 43,q6 45,wY 46 mS 45,yN 47 4 [qA,qA,qN,.nils] 1 4 46,wq 48 [qA,qN,.nils,.nils,.nils] [(0,1,xO),xb 2 47],yN 49 5 [qA,qN,.nils,.nils,.nils] 1 5 48,xl 50 5 96 44 49,xi 51 4,xp 51 50]) (xI 53 20 3 52 53 52 (.reg [qU 54 5 [qA,qN,.nils,.nils,.nils] 0 [],xi 55 4,qq 56 55,xl 57 5 96 54 56,q6 58,wE 59 (wF 58 (qi 10)),q6 60,qU 61 1 [qN] 3 [(0,1,.c qN),(1,1,wZ [97]),(2,1,wZ [122,122])],xQ 62 60 61,q6 63,wG 64 iB 63 xG,yN 65 4 [qA,qA,qN,.nils] 1 4 64,wq 66 [qA,qN,.nils,.nils,.nils] [yq 59,xb 1 62,xb 2 65],yN 67 5 [qA,qN,.nils,.nils,.nils] 1 5 66,xl 68 5 96 57 67,xi 69 4,xp 69 68]) (xI 71 20 4 70 71 70 (qd [wq 72 [qA,qA,qN,.nils] [(0,1,wV)],yN 73 4 [qA,qA,qN,.nils] 1 4 72,wq 74 [qA,qN,.nils,.nils,.nils] [yJ 0 6,xb 2 73],qX 5 [qA,qN,.nils,.nils,.nils],qS 5 5 74] (.cut (xy (xV (q6 75) (wE 76 (wF 75 (qi 5))) 6 76) 1 [yh 77,qx 78 .gtr 77 0] 78 (.exit 1) 2 (.reg [q6 81,xJ 82 1 yt 2 [yJ 0 5,yJ 1 6],xi 84 5,qq 85 84,qJ 86 5 5,xJ 87 5 [qA,qN,.nils,.nils,.nils] 1 (yM 5 86),xm 83 81 82,wJ 84 85,wm (some 5) 5 86,wq 88 [qA,qN,.nils,.nils,.nils] [yq 83,xb 2 85,xb 3 87],qS 5 5 88]) (xV (yh 79) (xA 80 79 1) 6 80)) (.reg [xi 90 4,qq 91 90,qJ 93 5 5,xJ 94 5 [qA,qN,.nils,.nils,.nils] 1 (yM 5 93),qU 89 5 [qA,qN,.nils,.nils,.nils] 0 [],wJ 90 91,wm (some 5) 5 93,xl 92 5 96 89 91,wm (some 5) 5 93,xl 95 5 96 92 94,xi 96 4,xp 96 95]))) (xI 98 20 5 97 98 97 (qB [wq 99 xH [],xp 2 99]) (xI 101 20 6 100 101 100 (xy [q6 102,yB 103 1 3 [yJ 0 20,yJ 1 40,yJ 2 41],xm 104 102 103,qf 7 104] 3 [yH 105,qx 106 .gtr 105 0] 106 (.exit 3) 4 (.reg [qU 109 5 [qA,qN,.nils,.nils,.nils] 0 [],xi 110 4,qq 111 110,xl 112 5 96 109 111,yH 113,wq 114 [qA,qA,qN,.nils] [(0,1,wV),xb 1 113],yN 115 4 [qA,qA,qN,.nils] 1 4 114,wq 116 [qA,qN,.nils,.nils,.nils] [(0,1,xO),xb 2 115],yN 117 5 [qA,qN,.nils,.nils,.nils] 1 5 116,xl 118 5 96 112 117,xi 119 4,xp 119 118]) (xV (yH 107) (xA 108 107 1) 7 108)) (wl (wR 121 20 7 120 121) 120 [wP 123 3,wP 126 3,qq 124 123,qq 127 126,wj 128 3 127 ww,qJ 129 3 128,xJ 130 3 yG 1 (yM 3 129),qU 122 3 yG 0 [],wJ 123 124,wJ 126 127,wm (some 3) 128 129,xl 125 3 64 122 124,wJ 126 127,wm (some 3) 128 129,xl 131 3 64 125 130,wq 132 xH [yq 131],xp 2 132])))))))))) (wo [qU 133 3 yG 0 [],wP 134 3,qq 135 134,xl 136 3 64 133 135,qf 8 136] [yz 137,yz 138,q8 139 138,xA 140 139 1,qJ 141 3 4,wt 142 3 137 140,qS 3 142 141] (qB [yz 143,wq 144 xH [yq 143],xp 2 144]))))
def mD:FK:=⟨145,[xS 2 1],(AK.whole mI)⟩
theorem Cs:an Tryz.prog mF=some mD:=by kernel_rfl
def su:FK:=⟨25,[xS 2 4],qd [yA 1 4,qX 2 [qA,qA,qN,.nils]] (qO (wQ (qU 5 4 [qA,qA,qN,.nils] 0 []) 3 5) (x7 4 0 [xM 6,yr 7 1,qq 8 7,q8 9 8,wI 10 6 9] 10 wv 1 (.reg [yw 13,yr 14 1,qq 15 14,xM 16,wt 17 4 15 16,yO 18 17,wY 19 ju 18,yN 20 4 [qA,qA,qN,.nils] 1 4 19,xl 21 4 56 13 20,qf 3 21]) (xM 11) 12 11 4 12) (xc [yw 22,yr 23 1,xp 23 22] [yO 24 1,qS 4 2 24]))⟩
theorem Cl:an Tryz.prog ju=some su:=by kernel_rfl
def pu:FK:=⟨52,xv,qd [qc 2 xK] (wU (wQ (qU 8 5 [qA,qN,.nils,.nils,.nils] 0 []) 3 8) (x7 4 0 [xM 9,q6 10,q8 11 10,wI 12 9 11] 12 wv 1 (qd [q6 15,xM 16,wt 17 5 15 16,qJ 18 5 17,qX 5 [qA,qN,.nils,.nils,.nils],qS 5 5 18] (qO (wQ (qU 19 4 [qA,qA,qN,.nils] 0 []) 6 19) (x7 7 2 [yH 20,xi 21 5,qq 22 21,q8 23 22,wI 24 20 23] 24 (.exit 2) 3 (.reg [yh 27,xi 28 5,qq 29 28,yH 30,wt 31 4 29 30,yO 32 31,wY 33 ju 32,yN 34 4 [qA,qA,qN,.nils] 1 4 33,xl 35 4 56 27 34,qf 6 35]) (yH 25) 26 25 7 26) (.reg [yw 36,wP 37 5,xu 39 5,yh 41,yr 42 5,qp 45 4 5,qq 38 37,qq 40 39,qq 43 42,qq 46 45,wY 44 dy 43,wJ 37 38,wJ 39 40,wJ 45 46,wY 47 dy 46,wJ 37 38,wJ 39 40,wq 48 [qA,qN,.nils,.nils,.nils] [yq 38,xb 1 40,xb 2 41,xb 3 44,xb 4 47],yN 49 5 [qA,qN,.nils,.nils,.nils] 1 5 48,xl 50 5 96 36 49,qf 3 50]))) (xM 13) 14 13 4 14) (wQ (yw 51) 2 51))⟩
theorem Au:an Tryz.prog dy=some pu:=by kernel_rfl
def rU:FK:=⟨35,[xS 2 1],qd [yA 1 1,qX 2 xH] (wU [wq 6 xH [],qX 3 xH,xp 3 6] (x7 4 0 [xM 7,wP 8 1,qq 9 8,q8 10 9,wI 11 7 10] 11 wv 1 (yp [wP 14 1,qq 15 14,xM 16,wt 17 3 15 16,qJ 18 3 17,qX 5 yG,qS 3 5 18] [wP 19 3,wP 21 5,xu 24 5,xi 27 5,qq 20 19,qq 22 21,qq 25 24,qq 28 27,qU 23 1 [qN] 0 [],wJ 19 20,wJ 21 22,wJ 24 25,wJ 27 28,xl 26 1 16 23 25,wJ 19 20,wJ 21 22,wJ 27 28,wY 29 dy 28,wJ 19 20,wJ 21 22,wq 30 yG [yq 22,xb 1 26,xb 2 29],yN 31 3 yG 1 3 30,wJ 19 20,xl 32 3 64 20 31,wP 33 3,xp 33 32]) (xM 12) 13 12 4 13) [qJ 34 1 3,xp 2 34])⟩
theorem CN:an Tryz.prog mK=some rU:=by kernel_rfl
def si:FK:=⟨104,[xS 2 1],qd [qX 2 xH] (yf [q6 7,wY 8 ed 7,qX 3 xH,xp 3 8] [q6 9,wE 10 (wF 9 (qi 5)),qx 11 .gtr 10 2] 11 [qJ 12 1 3,xp 2 12] (.seq (wl [q6 13,wE 14 (wF 13 (qi 6)),wd 15 14 0] 15 [q6 16,wY 17 mF 16,xp 2 17]) (qd [qJ 18 1 3,wY 19 mK 18,xp 3 19] (yf [wP 20 3,q6 22,wP 23 3,qq 21 20,qq 24 23,q8 25 24,wE 26 (yQ 22 25),wJ 20 21,wt 27 3 21 26,qf 4 27] [xM 28,qW 29 28,xi 30 29,qq 31 30,q8 32 31,wd 33 32 0] 33 [qJ 34 1 3,xp 2 34] (qd [xM 35,qW 36 35,xi 37 36,q6 39,xM 40,qW 41 40,xi 42 41,qq 38 37,qq 43 42,q8 44 43,wE 45 (yQ 39 44),wJ 37 38,wt 46 5 38 45,qf 5 46] (qO [q6 47,qU 48 1 [qN] 5 [(0,1,wZ [122,122]),(1,1,wZ [97]),(2,1,wZ [98]),(3,1,wZ [99]),(4,1,wZ [100])],xQ 49 47 48,wq 50 [qA,qA,qN,.nils] [(0,1,xG),xb 2 49],qX 6 [qA,qA,qN,.nils],qS 4 6 50] (qd [q6 51,wE 52 (wF 51 (qi 4))] (.blk 0 (xI 54 52 0 53 54 53 (.reg [q6 55,qU 56 1 [qN] 4 [(0,1,wZ [102]),(1,1,wZ [103]),(2,1,wZ [109]),(3,1,wZ [113])],xQ 57 55 56,wq 58 [qA,qA,qN,.nils] [(0,1,wV),(1,1,wV)],yN 59 4 [qA,qA,qN,.nils] 1 4 58,wq 60 [qA,qA,qN,.nils] [yJ 0 13,xb 2 57,xb 3 59],qS 4 6 60]) (xI 62 52 1 61 62 61 (yT (xR [xf 63,qW 64 63,xu 65 64,qq 66 65,qb 67 (yP .neq 66 (.c qN))] 67 [xf 68,q6 69,qU 70 1 [qN] 5 [(0,1,wZ [97]),(1,1,wZ [98]),(2,1,wZ [122,122]),(3,1,wZ [99]),(4,1,wZ [100])],xQ 71 69 70,qW 72 68,xu 73 72,xp 73 71]) [qJ 74 1 3,xp 2 74]) (qT (wR 76 52 2 75 76) 75 (xc [xM 77,xM 78,qW 79 78,xi 80 79,xM 82,qW 83 82,xi 84 83,qq 81 80,qq 85 84,qb 86 (.slS 5 (.t 85) none (some wV)),wY 87 dy 86,wJ 80 81,xl 88 5 96 81 87,qW 89 77,xi 90 89,xp 90 88] [qJ 91 1 3,xp 2 91])))))) (yT (xR [xf 92,qW 93 92,wP 94 93,qq 95 94,qx 96 .neq 95 8] 96 [xf 97,qW 98 97,xi 99 98,qq 100 99,yO 101 6,wj 102 4 100 ww,qS 4 102 101]) [qJ 103 1 3,xp 2 103])))))))⟩
theorem CF:an Tryz.prog mT=some si:=by kernel_rfl
def vW:FK:=⟨22,xC,wU [yA 2 1,wL 4] (x7 5 0 [xf 6,wP 7 2,qq 8 7,q8 9 8,wI 10 6 9] 10 wv 1 (wl [wP 13 2,qq 14 13,xf 15,wt 16 3 14 15,wP 17 16,qq 18 17,xw 19,qb 20 (yP .eql 18 (.t 19))] 20 (wQ (xf 21) 4 21)) (xf 11) 12 11 5 12) [qL 4 (-1)]⟩
theorem EK:an Tryz.prog jE=some vW:=by kernel_rfl
def gz:FK:=⟨13,[],xR [q6 4,qW 5 4,qp 6 4 5,qq 7 6,wd 8 7 0] 8 [q6 9,xw 10,qW 11 9,qp 12 4 11,xp 12 10]⟩
theorem sV:an Tryz.prog bF=some gz:=by kernel_rfl
def gM:FK:=⟨27,xC,ym 4 (xy [q6 6,qW 7 6,xi 8 7,qq 9 8,q8 10 9,xA 11 10 1,qf 5 11] 0 [xf 12,qx 13 .geq 12 0] 13 wv 1 (wl [q6 16,qW 17 16,xi 18 17,qq 19 18,xf 20,wt 21 3 19 20,wP 22 21,qq 23 22,xw 24,qb 25 (yP .eql 23 (.t 24))] 25 (wQ (xf 26) 4 26)) (xV (xf 14) (xA 15 14 1) 5 15)) [qL 4 (-1)]⟩
theorem sX:an Tryz.prog dS=some gM:=by kernel_rfl
def rR:FK:=⟨11,xv,wo [qc 2 (.c qN)] [q6 4,qx 5 .rem 4 26,xf 3] (qB [yw 6,yw 7,xB 8 7,qb 9 (.slStr (wZ [97,98,99,100,101,102,103,104,105,106,107,108,109,110,111,112,113,114,115,116,117,118,119,120,121,122]) (some (.t 6)) (some (.t 8))),qb 10 (.bins .add (wZ [118]) (.t 9)),yR 2])⟩
theorem Cz:an Tryz.prog js=some rR:=by kernel_rfl
def ie:AK:=wo [qc 6 (.c qN)] [q6 8,xw 9,wH 10 dS 8 9,yR 7] (.cut (xR [yH 11,qx 12 .geq 11 0,qf 13 12,xU 14 13 0,qI 15 13 (qz 14),wT 16 13 2 15,wM 17 13 16,xU 18 13 7,qI 19 13 (qQ 3 17 (.t 18)),wT 20 13 2 19,wM 21 13 20,xU 22 13 2,xh 23 13 .eql 21 (.t 22),xX 24 13 23] 24 [q6 25,wG 26 bF 25 xG]) (wo [q6 27,q6 28,qW 29 28,xi 30 29,xw 32,q6 33,qW 34 33,yr 35 34,qf 37 2,qq 31 30,qq 36 35,wq 38 [qN,qA,qA] [yq 32,xb 1 36,xb 2 37],xJ 39 3 [qN,qA,qA] 1 (yM 3 38),xl 40 3 32 31 39,qW 41 27,xi 42 41,xp 42 40] [q6 43,q6 44,qW 45 44,yr 46 45,qq 47 46,xB 48 47,qW 49 43,yr 50 49,xp 50 48] (qB [q6 51,qW 52 51,yr 53 52,qq 54 53,xA 55 54 1,wY 56 js 55,qf 6 56])))
def im:FK:=⟨57,xk 6,(AK.whole ie)⟩
theorem tj:an Tryz.prog eA=some im:=by kernel_rfl
def mo:FK:=⟨23,xC,qd [qc 4 (.c qN)] (wU [q6 6,xw 7,wH 8 dS 6 7,yz 5] (qT [xf 9,qx 10 .lss 9 0] 10 (xc [q6 11,wG 12 bF 11 xO] (wQ (xw 13) 4 13))) [q6 14,qW 15 14,xi 16 15,qq 17 16,xf 18,wt 19 3 17 18,xu 20 19,qq 21 20,wY 22 js 21,qf 4 22])⟩
theorem tS:an Tryz.prog eG=some mo:=by kernel_rfl
def gx:AK:=qd [wx 3 4 1,qX 4 [qA,qA,qN,.nils]] (yl (xR [wP 8 3,qq 9 8,wd 10 9 2] 10 [q6 11,xi 12 3,qq 13 12,wH 14 eG 11 13,xi 15 3,xp 15 14]) (qT [wP 16 3,qq 17 16,wd 18 17 13] 18 (qd [q6 19,qW 20 19,wP 21 20,xi 23 3,qJ 22 1 21,qq 24 23,wH 25 jE 22 24,qf 5 25] (qC [xf 26,qx 27 .lss 26 0,qf 28 27,xe 29 28 5,xe 30 28 0,qH 31 28 (qz 30),xa 32 28 1 31,wW 33 28 32,xP 34 28 .geq 29 (.t 33),xz 35 28 34] 35 (.reg [q6 36,wG 37 bF 36 (qi 4)]) (xR [q6 38,qW 39 38,wP 40 39,wP 41 40,xf 43,yr 48 3,qq 42 41,wt 44 3 42 43,xu 45 44,qq 46 45,q8 47 46,qq 49 48,q8 50 49,wh 51 .neq 47 50] 51 [q6 52,wG 53 bF 52 (qi 5)])))) (qO (wQ (qU 54 4 [qA,qA,qN,.nils] 0 []) 6 54) (x7 7 0 [yH 55,yr 56 3,qq 57 56,q8 58 57,wI 59 55 58] 59 wv 1 (.reg [yh 62,q6 63,yr 64 3,qq 65 64,yH 66,wt 67 4 65 66,yO 68 67,wH 69 cH 63 68,yN 70 4 [qA,qA,qN,.nils] 1 4 69,xl 71 4 56 62 70,qf 6 71]) (yH 60) 61 60 7 61) (xc [yh 72,yr 73 3,xp 73 72] [yO 74 3,qS 4 4 74])))
def gH:FK:=⟨75,[xS 4 4],(AK.whole gx)⟩
theorem th:an Tryz.prog cH=some gH:=by kernel_rfl
def fQ:AK:=wo [qc 6 xK] (wQ (qU 13 5 [qA,qN,.nils,.nils,.nils] 0 []) 7 13) (qO [q6 14,qW 15 14,xi 16 15,qq 17 16,q8 18 17,qf 8 18] (x7 9 0 [qf 19 9,xw 20,q8 21 20,wI 22 19 21] 22 wv 1 (qd [xw 25,qf 26 9,wt 27 5 25 26,qJ 28 5 27,qX 10 [qA,qN,.nils,.nils,.nils],qS 5 10 28] (qO (wQ (qU 29 4 [qA,qA,qN,.nils] 0 []) 11 29) (x7 12 2 [qf 30 12,xi 31 10,qq 32 31,q8 33 32,wI 34 30 33] 34 (.exit 2) 3 (.reg [qf 37 11,q6 38,xi 39 10,qq 40 39,qf 41 12,wt 42 4 40 41,yO 43 42,wH 44 cH 38 43,yN 45 4 [qA,qA,qN,.nils] 1 4 44,xl 46 4 56 37 45,qf 11 46]) (qf 35 12) 36 35 12 36) (yl (.reg [qf 47 11,xi 48 10,xp 48 47]) (xR [wP 49 10,qq 50 49,wd 51 50 1] 51 [q6 52,xu 53 10,qq 54 53,qf 55 2,yi 56 eA 52 (.t 54) 55,xu 57 10,xp 57 56]) (.cut (xR [wP 58 10,qq 59 58,wd 60 59 2] 60 [q6 61,xu 62 10,qq 63 62,wH 64 eG 61 63,xu 65 10,xp 65 64]) (wo [q6 66,yr 67 10,qq 68 67,qf 69 2,xB 70 69,yi 71 co 66 (.t 68) 70,yr 72 10,xp 72 71] [q6 73,qp 74 4 10,qq 75 74,qf 76 2,xB 77 76,yi 78 co 73 (.t 75) 77,qp 79 4 10,xp 79 78] (.reg [yH 80,qJ 81 5 10,yN 82 5 [qA,qN,.nils,.nils,.nils] 1 5 81,xl 83 5 96 80 82,qf 7 83])))))) (qf 23 9) 24 23 9 24) (.cut (xR [qf 84 2,qx 85 .gtr 84 0] 85 [q6 86,q6 87,qW 88 87,xi 89 88,qq 90 89,yz 91,qb 92 (.slS 3 (.t 90) none (some (.t 91))),qW 93 86,xi 94 93,xp 94 92]) (qB (wQ (yH 95) 6 95))))
def fv:FK:=⟨96,xk 6,(AK.whole fQ)⟩
theorem rC:an Tryz.prog co=some fv:=by kernel_rfl
def pT:AK:=wo [yA 2 1,qX 4 yG,wL 5,wL 6] [qJ 11 1 2,xw 12,wq 13 [.nils,qA,.nils,qA,qA] [yq 11,xb 1 12],wx 14 5 13,qf 7 14] (yl (.reg [wP 15 2,qq 16 15,xw 17,wt 18 3 16 17,qJ 19 3 18,qX 8 yG,qS 3 8 19]) (xR [qJ 20 1 2,wP 21 8,qq 22 21,wH 23 jE 20 22,xw 24,wh 25 .neq 23 24] 25 [yH 26,wG 27 bF 26 xG]) (qO (wQ (qU 28 1 [qN] 0 []) 9 28) (x7 10 0 [yR 29,xu 30 8,qq 31 30,q8 32 31,wI 33 29 32] 33 wv 1 (.reg [qf 36 9,yH 37,xu 38 8,qq 39 38,yR 40,wt 41 1 39 40,qq 42 41,qn 43 eA (ya 37 (.t 42) ww),qU 44 1 [qN] 1 [yq 43],xl 45 1 16 36 44,qf 9 45]) (yR 34) 35 34 10 35) (wo [qf 46 9,xu 47 8,xp 47 46] [yH 48,xi 49 8,qq 50 49,qn 51 co (ya 48 (.t 50) ww),xi 52 8,xp 52 51] (qB [yH 54,qW 55 54,qp 56 4 55,yH 58,qW 59 58,yr 60 59,qJ 53 3 8,qq 57 56,qq 61 60,qS 3 4 53,wJ 56 57,wJ 60 61,qf 5 57,qf 6 61]))))
def pO:FK:=⟨62,[xS 4 3,.t 5,.t 6],(AK.whole pT)⟩
theorem Gg:an Tryz.prog lZ=some pO:=by kernel_rfl
def kw:FK:=⟨27,xv,yf [yA 1 1,wL 2] [qJ 7 1 1,wY 8 dw 7,xd 9 8] 9 [qL 2 1] (yT (x7 3 0 [yw 10,wP 11 1,qq 12 11,q8 13 12,wI 14 10 13] 14 wv 1 (qd [qJ 18 1 1,yw 19,wH 20 lZ 18 19,qf 17 20,xr 21 0 17,xr 22 1 17,xr 23 2 17,qX 4 yG,qS 3 4 21,qf 5 22,qf 6 23] (wl [xf 24,qx 25 .neq 24 0] 25 (wQ (xf 26) 2 26))) (yw 15) 16 15 3 16) (xE 2))⟩
theorem rH:an Tryz.prog fM=some kw:=by kernel_rfl
def rY:FK:=⟨6,xv,xc [yA 1 1,xZ] [qJ 3 1 1,wY 4 fM 3,wd 5 4 0,xf 2]⟩
theorem CC:an Tryz.prog mG=some rY:=by kernel_rfl
def mP:FK:=⟨15,xk 6,xc [yU] [xw 7,q6 8,wh 9 .leq 7 8,qf 10 9,xU 11 10 0,xU 12 10 2,xh 13 10 .leq 11 (.t 12),xX 14 10 13,qf 6 14]⟩
theorem Cm:an Tryz.prog ef=some mP:=by kernel_rfl
def kq:FK:=⟨21,xk 6,ym 6 (yu [q6 9,qb 10 (.rngS (.t 9))] 0 [qb 11 (.nxtS (.t 10)),xr 12 0 11] 12 wv (.blk 1 (qd [xr 13 1 11,xr 14 2 11,qf 7 13,qf 8 14] (wl [xw 15,yz 16,qb 17 (yg 15 (wX 16)),qf 18 2,qb 19 (.beq false (.t 17) (.t 18))] 19 (wQ (yH 20) 6 20))))) [qL 6 (-1)]⟩
theorem rG:an Tryz.prog fH=some kq:=by kernel_rfl
def kz:FK:=⟨8,xC,xc (xE 4) [q6 5,xw 6,qn 7 fH (ya 5 (.t 6) wu),yH 4]⟩
theorem rx:an Tryz.prog fP=some kz:=by kernel_rfl
def iU:FK:=⟨19,xC,ym 4 (yu [q6 6,q8 7 6,wL 8] 0 [wI 9 8 7] 9 wv (yv 1 (qd (wQ (yz 10) 5 10) (wl [xw 11,yS,xf 13,wt 14 1 12 13,qq 15 14,qb 16 (yP .eql 11 (.t 15))] 16 (wQ (xf 17) 4 17))) 18 8 8 18)) [qL 4 (-1)]⟩
theorem oQ:an Tryz.prog eq=some iU:=by kernel_rfl
def gh:FK:=⟨9,xC,xc [xq] [q6 5,xw 6,wH 7 eq 5 6,qx 8 .geq 7 0,yz 4]⟩
theorem mA:an Tryz.prog dp=some gh:=by kernel_rfl
def oL:FK:=⟨9,xv,xc [xZ] [q6 3,qu 4 .lss 3 (.c (qe .i32 97)),xM 5,xe 6 5 0,xP 7 5 .gtr 6 (.c (qe .i32 122)),xz 8 5 7,yz 2]⟩
theorem zj:an Tryz.prog dc=some oL:=by kernel_rfl
def sn:FK:=⟨17,xv,xc [xZ] [q6 3,qb 4 (.len true (.t 3)),xY 5 (ya 4 wV (qi 4)),xf 6,xU 7 6 0,yK 8 6 fP (wF 7 (.c (.fn (.func dc) []))),xh 9 6 .lss 8 ww,xX 10 6 9,yR 11,qI 12 11 (.slA 9 1 (.c (.gp 0 0)) none none),xU 13 11 0,yK 14 11 dp (yQ 12 13),qI 15 11 (wa 14),xX 16 11 15,qf 2 16]⟩
theorem CA:an Tryz.prog cA=some sn:=by kernel_rfl
def ft:FK:=⟨19,xC,ym 4 (yu [q6 6,q8 7 6,wL 8] 0 [wI 9 8 7] 9 wv (yv 1 (qd (wQ (yz 10) 5 10) (wl [xw 11,yS,xf 13,wt 14 1 12 13,qq 15 14,qb 16 (yg 11 (wX 15))] 16 (wQ (xf 17) 4 17))) 18 8 8 18)) [qL 4 (-1)]⟩
theorem lR:an Tryz.prog cX=some ft:=by kernel_rfl
def dZ:FK:=⟨9,xC,xc [xq] [q6 5,xw 6,wH 7 cX 5 6,qx 8 .geq 7 0,yz 4]⟩
theorem ki:an Tryz.prog ck=some dZ:=by kernel_rfl
def dX:FK:=⟨19,xC,ym 4 (yu [q6 6,q8 7 6,wL 8] 0 [wI 9 8 7] 9 wv (yv 1 (qd (wQ (yz 10) 5 10) (wl [xw 11,yS,xf 13,wt 14 5 12 13,qJ 15 5 14,qb 16 (yg 11 (wX 15))] 16 (wQ (xf 17) 4 17))) 18 8 8 18)) [qL 4 (-1)]⟩
theorem kf:an Tryz.prog cg=some dX:=by kernel_rfl
def dr:FK:=⟨9,xC,xc [xq] [q6 5,xw 6,wH 7 cg 5 6,qx 8 .geq 7 0,yz 4]⟩
theorem iL:an Tryz.prog bS=some dr:=by kernel_rfl
def br:FK:=⟨20,[.t 2,.t 3,.t 4,.t 5],wU [wL 2,wz 3,xq,wz 5] (qd [q6 6] (.blk 0 (wD (wR 8 6 1 7 8) 7 (.reg (wR 9 6 2 7 9)) (qo 7 (qB [qL 2 1,qc 3 wu,xq,wz 5]) (wD (wR 11 6 3 10 11) 10 (wA (wR 12 6 7 10 12) 10 (.reg (wR 13 6 8 10 13))) (qo 10 (qB [qL 2 1,wz 3,xq,wz 5]) (xI 15 6 4 14 15 14 (qB [qL 2 2,wz 3,xq,wz 5]) (xI 17 6 5 16 17 16 (qB [qL 2 1,wz 3,qc 4 wu,qc 5 wu]) (wl (wR 19 6 6 18 19) 18 [qL 2 1,wz 3,qc 4 wu,wz 5]))))))))) [qL 2 (-1),wz 3,xq,wz 5]⟩
theorem ze:an Tryz.prog gn=some br:=by kernel_rfl
def sy:FK:=⟨5,xv,xc [xZ] [q6 3,xY 4 (ya 3 ww (qi 255)),xM 2]⟩
theorem Cu:an Tryz.prog jt=some sy:=by kernel_rfl
def eL:FK:=⟨20,xv,ym 2 (.blk 0 (qC [qb 4 (.ld none (.c (.gp 1 0))),q6 5,qb 6 (.lk 0 (.agg [qN,qA]) false (.t 4) (.t 5)),qb 7 (.fldv 1 none (.t 6)),qx 8 .gtr 7 0,yz 3] 3 (qB [qb 9 (.ld none (.c (.gp 1 0))),q6 10,qb 11 (.lk 0 (.agg [qN,qA]) false (.t 9) (.t 10)),qb 12 (.fldv 1 none (.t 11)),qf 2 12]) (wl [q6 14,wd 15 14 11,qf 16 15,xe 17 16 0,xP 18 16 .eql 17 (qi 12),xz 19 16 18,qf 13 19] 13 [qL 2 5]))) [qL 2 6]⟩
theorem Ao:an Tryz.prog lL=some eL:=by kernel_rfl
def jS:AK:=wo [yA 2 4,wL 4,wL 5,yU] [wL 7,wL 8] (yl (.blk 0 (qC [wP 17 2,qq 18 17,wd 19 18 1,qf 16 19] 16 (wl [xu 20 2,qq 21 20,wY 22 jt 21,xd 23 22,qf 24 23,xa 25 24 2 2,wW 26 24 25,qH 27 24 (yP .neq 26 (.c qN)),xz 28 24 27] 28 [wL 4,wL 5,yU]) (qC [wP 30 2,qq 31 30,wd 32 31 2,qf 29 32] 29 (wl [xi 33 2,qq 34 33,wY 35 cA 34,xd 36 35,qf 37 36,xa 38 37 1 2,wW 39 37 38,xP 40 37 .neq 39 ww,xz 41 37 40] 41 [wL 4,wL 5,yU]) (qC [wP 43 2,qq 44 43,wd 45 44 13,qf 42 45] 42 (qd [qL 8 3] (wl [xi 46 2,qq 47 46,wY 48 cA 47,xd 49 48,qf 50 49,xa 51 50 1 2,wW 52 50 51,xP 53 50 .neq 52 ww,xz 54 50 53] 54 [wL 4,wL 5,yU])) (qC [qb 56 (.ld none (.c (.gp 1 0))),wP 57 2,qq 58 57,qb 59 (.lk 0 (.agg [qN,qA]) false (.t 56) (.t 58)),qb 60 (.fldv 1 none (.t 59)),qx 61 .gtr 60 0,qf 55 61] 55 (.reg [qL 7 2,qL 8 2]) (qC [wP 63 2,qq 64 63,wd 65 64 11,qf 66 65,xa 67 66 0 2,wW 68 66 67,xP 69 66 .eql 68 (qi 12),xz 70 66 69,qf 62 70] 62 (.reg [qL 7 1,qL 8 1]) (qB [wL 4,wL 5,yU]))))))) (wl [wP 71 2,qq 72 71,wY 73 lL 72,qx 74 .lss 73 6,qf 75 74,wT 76 75 1 2,wM 77 75 76,xh 78 75 .neq 77 ww,xU 79 75 78,xa 80 79 2 2,wW 81 79 80,qH 82 79 (yP .neq 81 (.c qN)),qI 83 75 (qM 79 wu (.t 82)),xX 84 75 83,qf 85 84,xa 86 85 3 2,wW 87 85 86,qH 88 85 (qY 87),xe 89 85 7,xe 90 85 8,xn 91 85 ef (yb 88 (.t 89) 90),yn 92 85 91,xz 93 85 92,qf 94 93,xe 95 94 1,xP 96 94 .lss 95 wV,xz 97 94 96] 97 [wL 4,wL 5,yU]) (wU [qL 9 1,qL 10 1] (yu [yr 98 2,qq 99 98,q8 100 99,wL 101] 1 [wI 102 101 100] 102 (.exit 1) (yv 2 (qd [wt 103 4 99 101,yO 104 103,qX 12 [qA,qA,qN,.nils],qS 4 12 104] (yf [yO 106 12,xw 107,xA 108 107 1,wH 109 gu 106 108,qf 105 109,xr 110 0 105,xr 111 1 105,xr 112 2 105,qf 13 110,qf 14 111,qf 15 112] [qf 113 15,xd 114 113] 114 [wL 4,wL 5,yU] (yp [qf 115 9,qf 116 13,wh 117 .add 115 116,qf 9 117] [yR 118,qf 119 14,xB 120 119,qb 121 (.mx (.t 118) (.t 120)),qf 10 121]))) 122 101 101 122)) [qf 123 9,yR 124,qf 125 9,qx 126 .leq 125 30,qf 4 123,qf 5 124,qf 6 126]))
def jV:FK:=⟨127,[.t 4,.t 5,.t 6],(AK.whole jS)⟩
theorem zz:an Tryz.prog gu=some jV:=by kernel_rfl
def ng:FK:=⟨13,xv,wo [yA 1 4,xZ] [yO 7 1,wG 8 gu 7 (qi 6),yz 6,xr 9 0 6,xr 10 1 6,xr 11 2 6,qf 3 9,yR 4,qf 5 11] (qB (wQ (xf 12) 2 12))⟩
theorem uW:an Tryz.prog fm=some ng:=by kernel_rfl
def jw:FK:=⟨91,xC,qd [yA 2 5,xq] (qO [wP 12 2,qq 13 12,wY 14 gn 13,qf 11 14,xr 15 0 11,xr 16 1 11,xr 17 2 11,xr 18 3 11,qf 5 15,qf 6 16,qf 7 17,qf 8 18] (.blk 0 (wD (xV (xw 20) (qx 21 .gtr 20 4) 19 21) 19 (wA [xi 22 2,qq 23 22,q8 24 23,xf 25,wh 26 .neq 24 25,qf 19 26] 19 (wA [yh 27,qf 28 27,wT 29 28 1 2,wM 30 28 29,yK 31 28 cA (wX 30),qI 32 28 (wa 31),xX 33 28 32,qf 19 33] 19 (wA [yh 34,xd 35 34,qf 36 35,wT 37 36 1 2,wM 38 36 37,qI 39 36 (yP .neq 38 (.c qN)),xX 40 36 39,qf 19 40] 19 (wA [yH 41,xd 42 41,qf 43 42,wT 44 43 3 2,wM 45 43 44,qI 46 43 (qY 45),xh 47 43 .gtr 46 ww,xX 48 43 47,qf 19 48] 19 (wA [yz 49,xd 50 49,qf 51 50,wT 52 51 4 2,wM 53 51 52,qI 54 51 (qY 53),xh 55 51 .gtr 54 ww,xX 56 51 55,qf 19 56] 19 (.reg [wP 57 2,qq 58 57,wd 59 58 8,qf 60 59,wT 61 60 2 2,wM 62 60 61,qI 63 60 (qQ 4 62 ww),wT 64 60 0 63,wM 65 60 64,xh 66 60 .neq 65 (qi 13),xX 67 60 66,qf 19 67])))))) (qo 19 (qB [xq]) .skip))) (yT (yu [xi 68 2,qq 69 68,q8 70 69,wL 71] 1 [wI 72 71 70] 72 (.exit 1) (yv 2 (qd [wt 73 4 69 71,yO 74 73,qX 10 [qA,qA,qN,.nils],qS 4 10 74] (wl [yO 75 10,wY 76 fm 75,xd 77 76] 77 [xq])) 78 71 71 78)) [yr 79 2,qq 80 79,xw 81,xB 82 81,wH 83 cL 80 82,qf 84 83,wT 85 84 4 2,wM 86 84 85,xU 87 84 1,xh 88 84 .add 87 wV,yK 89 84 cL (yQ 86 88),xX 90 84 89,qf 4 90]))⟩
theorem sx:an Tryz.prog jv=some jw:=by kernel_rfl
def nn:FK:=⟨8,xk 3,xc [yA 2 5,wz 3] [qJ 4 5 2,qq 5 1,wH 6 jv 4 5,xd 7 6,yH 3]⟩
theorem vg:an Tryz.prog cF=some nn:=by kernel_rfl
def pA:FK:=⟨9,xC,xc [wx 3 1 1,xq] [q6 5,qb 6 (yc cF (wX 3)),wH 7 bS 5 6,xd 8 7,yz 4]⟩
theorem AZ:an Tryz.prog cL=some pA:=by kernel_rfl
def tt:FK:=⟨31,[],yu [q6 8,q8 9 8,wL 10] 0 [wI 11 10 9] 11 wv (yv 1 (wo [wt 12 5 8 10,qJ 13 5 12,qX 7 [qA,qN,.nils,.nils,.nils],qS 5 7 13] [qf 14 2,qJ 15 5 7,xw 16,qb 17 (yg 14 (yQ 15 16))] (yp [yr 18 7,qq 19 18,xw 20,xB 21 20,qf 22 2,yi 23 fe 19 (.t 21) 22] [qp 24 4 7,qq 25 24,xw 26,xB 27 26,qf 28 2,yi 29 fe 25 (.t 27) 28])) 30 10 10 30)⟩
theorem DW:an Tryz.prog fe=some tt:=by kernel_rfl
def nJ:FK:=⟨11,[],wo [yA 4 5] [qq 6 2,xB 7 6,xp 2 7] (.reg [qq 8 3,xw 9,qb 10 (.mx (.t 8) (.t 9)),xp 3 10])⟩
theorem uz:an Tryz.prog eY=some nJ:=by kernel_rfl
def pz:FK:=⟨20,[.c 2 none,.c 3 none],wU [yA 1 1,qX 2 yt,qX 3 yt] (yu [wP 6 1,qq 7 6,q8 8 7,wL 9] 0 [wI 10 9 8] 10 wv (yv 1 (yp [wt 11 3 7 9,qJ 12 3 11,qX 5 yG,qS 3 5 12] [xi 13 5,qq 14 13,qb 15 (yc eY (yQ 2 3)),yi 16 fe 14 wV 15]) 17 9 9 17)) [qq 18 2,qq 19 3,xp 2 18,wJ 3 19,xp 3 19]⟩
theorem AT:an Tryz.prog kW=some pz:=by kernel_rfl
def iN:FK:=⟨6,xv,xc [xZ] [q6 3,wY 4 cA 3,xd 5 4,xf 2]⟩
theorem oO:an Tryz.prog bz=some iN:=by kernel_rfl
def kr:FK:=⟨48,xv,yf [yA 1 1,xZ] [wP 7 1,qq 8 7,q8 9 8,xY 10 (ya 9 wV (qi 4)),xd 11 10] 11 [xZ] (.seq (yu [wP 12 1,qq 13 12,q8 14 13,wL 15] 0 [wI 16 15 14] 16 wv (yv 1 (qd [wt 17 3 13 15,qJ 18 3 17,qX 4 yG,qS 3 4 18] (wl [wP 19 4,qq 20 19,wY 21 cA 20,xd 22 21,qf 23 22,xa 24 23 1 4,wW 25 23 24,qH 26 23 (qY 25),xP 27 23 .gtr 26 xO,xz 28 23 27,qf 29 28,xa 30 29 1 4,wW 31 29 30,xn 32 29 ck (wF 31 (.c (.fn (.func bz) []))),xz 33 29 32,qf 34 33,xa 35 34 2 4,wW 36 34 35,xn 37 34 cL (wF 36 wV),yn 38 34 37,xz 39 34 38] 39 [xZ])) 40 15 15 40)) (xc [qJ 42 1 1,wY 43 kW 42,qf 41 43,xr 44 0 41,xr 45 1 41,qf 5 44,qf 6 45] (xV (xf 46) (qx 47 .leq 46 40) 2 47)))⟩
theorem rL:an Tryz.prog fL=some kr:=by kernel_rfl
def eS:FK:=⟨19,xC,ym 4 (yu [q6 6,q8 7 6,wL 8] 0 [wI 9 8 7] 9 wv (yv 1 (qd (wQ (yz 10) 5 10) (wl [xw 11,yS,xf 13,wt 14 3 12 13,qJ 15 3 14,qb 16 (yg 11 (wX 15))] 16 (wQ (xf 17) 4 17))) 18 8 8 18)) [qL 4 (-1)]⟩
theorem kZ:an Tryz.prog cK=some eS:=by kernel_rfl
def rQ:FK:=⟨8,xk 3,xc [yA 2 3,wz 3] [wP 4 2,qq 5 4,qq 6 1,qb 7 (yP .eql 5 (.t 6)),yH 3]⟩
theorem Ch:an Tryz.prog fT=some rQ:=by kernel_rfl
def vT:FK:=⟨9,xC,xc [yA 2 1,wx 3 1 1,wL 4] [wP 5 2,qq 6 5,qb 7 (yc fT (wX 3)),wH 8 cK 6 7,yz 4]⟩
theorem FO:an Tryz.prog jM=some vT:=by kernel_rfl
def fx:FK:=⟨13,[],xR [q6 4,qW 5 4,xi 6 5,qq 7 6,wd 8 7 0] 8 [q6 9,xw 10,qW 11 9,xi 12 11,xp 12 10]⟩
theorem rO:an Tryz.prog cu=some fx:=by kernel_rfl
def gV:FK:=⟨7,xv,xc [qc 2 (.c .nilp)] [qb 3 .mkm,q6 4,wq 5 [.nilm,.nilp] [yq 3,xb 1 4],wx 6 2 5,yh 2]⟩
theorem tC:an Tryz.prog bj=some gV:=by kernel_rfl
def ud:FK:=⟨20,[],wo [yA 2 4] [xw 6,yO 7 2,qb 8 (yg 6 (wX 7))] (yu [yr 9 2,qq 10 9,q8 11 10,wL 12] 0 [wI 13 12 11] 13 wv (yv 1 (yp [wt 14 4 10 12,yO 15 14,qX 5 [qA,qA,qN,.nils],qS 4 5 15] [yO 16 5,xw 17,wH 18 kF 16 17]) 19 12 12 19))⟩
theorem EA:an Tryz.prog kF=some ud:=by kernel_rfl
def iq:FK:=⟨25,[.t 4,.t 5],wU [wL 4,wz 5] (qV 0 (xo [q6 8,qb 9 (.pnil 0 true (.t 8))] 9 wv 1 (qd [q6 15,qW 16 15,wP 17 16,qq 18 17,xw 19,qb 20 (.lk 1 qA true (.t 18) (.t 19)),qf 14 20,xr 21 0 14,xr 22 1 14,qf 6 21,qf 7 22] (wl [yH 23] 23 [yh 24,qf 4 24,qc 5 wu])) [q6 10,qW 11 10,xu 12 11,qq 13 12,qf 0 13])) [wL 4,wz 5]⟩
theorem my:an Tryz.prog bk=some iq:=by kernel_rfl
def iT:FK:=⟨58,[],wo [yA 3 4] [wP 7 3,qq 8 7] (.blk 0 (xI 10 8 2 9 10 9 (qd [qq 12 1,xi 13 3,qq 14 13,wH 15 bk 12 14,qf 11 15,xr 16 0 11,xr 17 1 11,qf 4 16,qf 5 17] (xR [xf 18,xd 19 18] 19 [qq 20 2,yy 21 20 xO])) (qT (wR 23 8 13 22 23) 22 (qd [xi 35 3,qq 24 2,qW 25 24,wP 26 25,wP 27 26,qq 28 27,qq 29 2,qW 30 29,xu 31 30,qq 32 31,qb 33 (.slS 3 (.t 28) none (some (.t 32))),wq 34 xH [yq 33],qq 36 35,wH 37 jM 34 36,qf 6 37] (qC [yh 38,qx 39 .lss 38 0] 39 (.reg [qq 40 2,yy 41 40 (qi 4)]) (xR [yh 47,yr 52 3,qq 42 2,qW 43 42,wP 44 43,wP 45 44,qq 46 45,wt 48 3 46 47,xu 49 48,qq 50 49,q8 51 50,qq 53 52,q8 54 53,wh 55 .neq 51 54] 55 [qq 56 2,yy 57 56 (qi 5)]))))))⟩
theorem oU:an Tryz.prog bV=some iT:=by kernel_rfl
def fD:FK:=⟨9,[],yp [yA 3 1,wx 4 4 1,wx 5 1 2] [yO 6 4,qb 7 (yc bV (yQ 5 3)),wH 8 kF 6 7]⟩
theorem ru:an Tryz.prog du=some fD:=by kernel_rfl
def eM:AK:=yu [xw 14,q8 15 14,wL 16] 0 [wI 17 16 15] 17 wv (yv 1 (qO [wt 18 5 14 16,qJ 19 5 18,qX 7 [qA,qN,.nils,.nils,.nils],qS 5 7 19] (yu [xi 20 7,qq 21 20,q8 22 21,wL 23] 2 [wI 24 23 22] 24 (.exit 2) (yv 3 (yp [wt 25 4 21 23,yO 26 25,qX 9 [qA,qA,qN,.nils],qS 4 9 26] [q6 27,yO 28 9,qf 29 2,yi 30 du 27 (.t 28) 29]) 31 23 23 31)) (.cut (qd [wP 32 7,qq 33 32] (.blk 4 (xI 35 33 1 34 35 34 (qZ (qd [qf 37 2,qW 38 37,wP 39 38,xu 41 7,qq 40 39,qq 42 41,qb 43 (.lk 1 qA true (.t 40) (.t 42)),qf 36 43,xr 44 0 36,xr 45 1 36,qf 10 44,qf 11 45] (xR [qf 46 11] 46 [q6 47,yy 48 47 xG])) [qf 49 2,qW 50 49,wP 51 50,xu 53 7,qq 52 51,qq 54 53,qD (.mup 1 (.t 52) (.t 54) ww)]) (qT (wR 56 33 2 55 56) 55 (qd [qf 58 2,xu 59 7,qq 60 59,wH 61 bk 58 60,qf 57 61,xr 62 0 57,xr 63 1 57,qf 12 62,qf 13 63] (xR [qf 64 13,xd 65 64] 65 [q6 66,yy 67 66 xO])))))) (qT [wP 68 7,qq 69 68,wd 70 69 5,qf 71 70,xa 72 71 0 7,wW 73 71 72,xP 74 71 .eql 73 (qi 6),xz 75 71 74] 75 (yp [q6 76,yr 77 7,qf 79 2,qq 78 77,wY 80 bj 79,wJ 77 78,yi 81 bG 76 (.t 78) 80] [q6 82,qp 83 4 7,qf 85 2,qq 84 83,wY 86 bj 85,wJ 83 84,yi 87 bG 82 (.t 84) 86])))) 88 16 16 88)
def eN:FK:=⟨89,[],(AK.whole eM)⟩
theorem pj:an Tryz.prog bG=some eN:=by kernel_rfl
def fz:AK:=yf [yA 1 1,wL 2] [qJ 11 1 1,wY 12 fL 11,xd 13 12] 13 [qL 2 1] (wU [qJ 14 1 1,wq 15 [.nils,qA,qA] [yq 14],wx 16 3 15,qf 3 16] (yu [wP 17 1,qq 18 17,q8 19 18,wL 20] 0 [wI 21 20 19] 21 wv (yv 1 (wo [qf 22 20,wt 23 3 18 20,qJ 24 3 23,qX 5 yG,qf 4 22,qS 3 5 24] [yw 25,xM 26,qW 27 25,xu 28 27,xp 28 26] (.cut (xR [qJ 29 1 1,wP 30 5,qq 31 30,wH 32 jM 29 31,xM 33,wI 34 32 33] 34 [yw 35,yy 36 35 xG]) (qO (wQ (qn 37 bj [.c .nilp]) 6 37) (yu [xu 38 5,qq 39 38,q8 40 39,wL 41] 2 [wI 42 41 40] 42 (.exit 2) (yv 3 (qO (xV (wt 43 1 39 41) (qq 44 43) 8 44) (qd [yh 46,qW 47 46,wP 48 47,qq 49 48,yz 50,qb 51 (.lk 1 qA true (.t 49) (.t 50)),qf 45 51,xr 52 0 45,xr 53 1 45,qf 9 52,qf 10 53] (xR [yR 54] 54 [yw 55,yy 56 55 xG])) (.reg [yh 57,qW 58 57,wP 59 58,qq 60 59,yz 61,qD (.mup 1 (.t 60) (.t 61) ww)])) 62 41 41 62)) (.reg [yw 63,xi 64 5,qq 65 64,yh 66,yi 67 bG 63 (.t 65) 66])))) 68 20 20 68)) [yw 69,qW 70 69,xi 71 70,qq 72 71,qf 2 72])
def fK:FK:=⟨73,xv,(AK.whole fz)⟩
theorem rE:an Tryz.prog fJ=some fK:=by kernel_rfl
def vO:FK:=⟨6,xv,xc [yA 1 1,xZ] [qJ 3 1 1,wY 4 fJ 3,wd 5 4 0,xf 2]⟩
theorem EI:an Tryz.prog pp=some vO:=by kernel_rfl
def gQ:FK:=⟨22,xC,qd [qc 4 xK] (wU [qc 5 xK] (yu [q6 8,q8 9 8,wL 10] 0 [wI 11 10 9] 11 wv (yv 1 (yp [wt 12 3 8 10,qJ 13 3 12,qX 7 yG,qS 3 7 13] [xf 14,xw 15,qJ 16 3 7,qb 17 (yg 15 (wX 16)),yN 18 3 (yE qA qA) 1 3 17,xl 19 3 40 14 18,qf 5 19]) 20 10 10 20)) (wQ (xf 21) 4 21))⟩
theorem nI:an Tryz.prog cf=some gQ:=by kernel_rfl
def dG:FK:=⟨10,xv,ym 2 (qd [q6 3] (.blk 0 (xI 5 3 1 4 5 4 (qB [qL 2 1]) (xI 7 3 2 6 7 6 (qB [qL 2 2]) (wl (wR 9 3 3 8 9) 8 (xE 2)))))) [qL 2 (-1)]⟩
theorem uG:an Tryz.prog jc=some dG:=by kernel_rfl
def mE:FK:=⟨9,xv,xc [xZ] [q6 3,wd 4 3 2,xM 5,xe 6 5 0,xP 7 5 .eql 6 xO,xz 8 5 7,yz 2]⟩
theorem Cg:an Tryz.prog jC=some mE:=by kernel_rfl
def gW:FK:=⟨19,xC,ym 4 (yu [q6 6,q8 7 6,wL 8] 0 [wI 9 8 7] 9 wv (yv 1 (qd (wQ (yz 10) 5 10) (wl [xw 11,yS,xf 13,wt 14 1 12 13,qq 15 14,qb 16 (yg 11 (wX 15))] 16 (wQ (xf 17) 4 17))) 18 8 8 18)) [qL 4 (-1)]⟩
theorem nZ:an Tryz.prog dQ=some gW:=by kernel_rfl
def fu:FK:=⟨9,xC,xc [xq] [q6 5,xw 6,wH 7 dQ 5 6,qx 8 .geq 7 0,yz 4]⟩
theorem lU:an Tryz.prog bv=some fu:=by kernel_rfl
def ey:FK:=⟨19,xC,ym 4 (yu [q6 6,q8 7 6,wL 8] 0 [wI 9 8 7] 9 wv (yv 1 (qd (wQ (yz 10) 5 10) (wl [xw 11,yS,xf 13,wt 14 4 12 13,yO 15 14,qb 16 (yg 11 (wX 15))] 16 (wQ (xf 17) 4 17))) 18 8 8 18)) [qL 4 (-1)]⟩
theorem kC:an Tryz.prog cx=some ey:=by kernel_rfl
def dB:FK:=⟨9,xC,xc [xq] [q6 5,xw 6,wH 7 cx 5 6,qx 8 .geq 7 0,yz 4]⟩
theorem iV:an Tryz.prog bX=some dB:=by kernel_rfl
def lI:FK:=⟨19,xC,ym 4 (yu [q6 6,q8 7 6,wL 8] 0 [wI 9 8 7] 9 wv (yv 1 (qd (wQ (yz 10) 5 10) (wl [xw 11,yS,xf 13,wt 14 1 12 13,qq 15 14,wh 16 .eql 11 15] 16 (wQ (xf 17) 4 17))) 18 8 8 18)) [qL 4 (-1)]⟩
theorem sP:an Tryz.prog gE=some lI:=by kernel_rfl
def iP:FK:=⟨9,xC,xc [xq] [q6 5,xw 6,wH 7 gE 5 6,qx 8 .geq 7 0,yz 4]⟩
theorem oY:an Tryz.prog er=some iP:=by kernel_rfl
def pc:FK:=⟨33,xC,qd [yA 2 3,qc 4 xK] (yf [qc 5 xK] [xw 8,xi 9 2,qq 10 9,q8 11 10,xA 12 11 1,xY 13 (yb 8 ww 12),xd 14 13] 14 [qc 4 xK] (yT (yu [xi 15 2,qq 16 15,q8 17 16,wL 18] 0 [wI 19 18 17] 19 wv (yv 1 (qd [qf 20 18,wt 21 5 16 18,qJ 22 5 21,qX 7 [.nils,.nils,qA,qA,.nils],qf 6 20,qS 5 7 22] (xR [qp 23 4 7,qq 24 23,xw 25,wH 26 er 24 25] 26 [xf 27,yh 28,yB 29 1 1 [yq 28],xl 30 1 8 27 29,qf 5 30])) 31 18 18 31)) (wQ (xf 32) 4 32)))⟩
theorem Bi:an Tryz.prog ir=some pc:=by kernel_rfl
def oG:FK:=⟨9,xk 3,xc [wz 3] [q6 4,xu 5 1,qq 6 5,xA 7 6 1,xY 8 (yb 4 ww 7),yz 3]⟩
theorem zy:an Tryz.prog bR=some oG:=by kernel_rfl
def oF:FK:=⟨11,xk 3,xc [wz 3] [q6 4,xi 5 1,qq 6 5,q8 7 6,xA 8 7 1,xY 9 (yb 4 wV 8),xd 10 9,yR 3]⟩
theorem zm:an Tryz.prog jU=some oF:=by kernel_rfl
def tn:FK:=⟨5,xv,xc [xZ] [q6 3,xY 4 (ya 3 wV (qi 14)),xM 2]⟩
theorem DK:an Tryz.prog kA=some tn:=by kernel_rfl
def yZ:FK:=⟨13,xv,xc [xZ] [q6 3,wY 4 kA 3,xM 5,xU 6 5 0,xh 7 5 .neq 6 (qi 12),xX 8 5 7,yz 9,xU 10 9 0,xh 11 9 .neq 10 (qi 13),xX 12 9 11,qf 2 12]⟩
theorem FX:an Tryz.prog mw=some yZ:=by kernel_rfl
def cP:FK:=⟨11,xv,ym 2 (qd [q6 3] (.blk 0 (xI 5 3 1 4 5 4 (qB (xE 2)) (wD (wR 7 3 2 6 7) 6 (wA (wR 8 3 10 6 8) 6 (wA (wR 9 3 11 6 9) 6 (.reg (wR 10 3 13 6 10)))) (qo 6 (qB [qL 2 1]) .skip))))) [qL 2 2]⟩
theorem BS:an Tryz.prog lJ=some cP:=by kernel_rfl
def pF:FK:=⟨9,xk 3,xc [wz 3] [q6 4,xu 5 1,qq 6 5,xA 7 6 1,xY 8 (yb 4 ww 7),yz 3]⟩
theorem AU:an Tryz.prog dF=some pF:=by kernel_rfl
def pk:FK:=⟨8,xk 3,xc [wz 3] [qq 4 1,q6 5,qb 6 (yg 4 (wX 5)),xd 7 6,yH 3]⟩
theorem BO:an Tryz.prog lq=some pk:=by kernel_rfl
def nT:AK:=wo [yA 3 1,wx 5 4 2,yU] [wP 9 3,qq 10 9,xw 11,wt 12 3 10 11,qJ 13 3 12,qX 7 (yE qA qA),qS 3 7 13] (qd [qb 14 (yc dF (wX 7)),qX 8 [.nilf],xp 8 14] (yl (wl [wP 15 5,qq 16 15,wY 17 kA 16,xd 18 17,qf 19 18,xa 20 19 2 5,wW 21 19 20,qH 22 19 (yc lq (wX 8)),xn 23 19 bv (yQ 21 22),xz 24 19 23] 24 [yU]) (wl [wP 25 5,qq 26 25,wY 27 mw 26,qf 28 27,wM 29 28 8,wT 30 28 1 5,wM 31 28 30,qI 32 28 (yg 29 (wX 31)),qI 33 28 (wa 32),xX 34 28 33,qf 35 34,xa 36 35 0 5,wW 37 35 36,xn 38 35 mw (wX 37),yn 39 35 38,xe 40 35 39,wT 41 40 1 5,wM 42 40 41,xh 43 40 .neq 42 (qi (-1)),qH 44 35 (qM 40 (.t 43) qP),xz 45 35 44] 45 [yU]) (yT (qd [wP 46 5,qq 47 46] (.blk 0 (xI 49 47 1 48 49 48 (qB [xi 50 5,qq 51 50,q8 52 51,wd 53 52 0,qf 54 53,wT 55 54 3 5,wM 56 54 55,yK 57 54 jt (wX 56),xX 58 54 57,qf 6 58]) (wl (wR 60 47 14 59 60) 59 [yr 61 5,xw 63,xA 64 63 1,qq 62 61,xY 65 (yb 62 ww 64),qf 66 65,wT 67 66 2 5,wT 70 66 0 3,wT 72 66 3 5,wM 68 66 67,qI 69 66 (qY 68),wM 71 66 70,wM 73 66 72,qI 74 66 (qQ 3 71 (.t 73)),wT 75 66 0 74,wM 76 66 75,xh 77 66 .eql 69 (.t 76),xX 78 66 77,qf 6 78])))) [yr 79 5,qq 80 79,wd 81 80 0,qf 82 81,wT 83 82 2 5,wT 86 82 0 5,wM 84 82 83,qI 85 82 (qY 84),wM 87 82 86,qI 88 82 (.qcall lJ (wX 87)),xh 89 82 .eql 85 (.t 88),xX 90 82 89,qf 6 90])))
def ov:FK:=⟨91,xk 6,(AK.whole nT)⟩
theorem DI:an Tryz.prog ow=some ov:=by kernel_rfl
def oM:FK:=⟨10,xC,xc [yA 3 4,xq] [qJ 5 1 1,qq 6 2,yO 7 3,yi 8 ow 5 (.t 6) 7,xd 9 8,qf 4 9]⟩
theorem zw:an Tryz.prog jQ=some oM:=by kernel_rfl
def oJ:FK:=⟨8,xk 3,xc [wz 3] [qq 4 1,q6 5,qb 6 (yg 4 (wX 5)),xd 7 6,yH 3]⟩
theorem zB:an Tryz.prog kg=some oJ:=by kernel_rfl
def mV:AK:=wo [yA 2 1,wx 3 1 1,xq] [wP 12 2,qq 13 12,qq 14 3,wt 15 3 13 14,qJ 16 3 15,qX 5 (yE qA qA),qS 3 5 16] (.cut (wl [xu 17 5,qq 18 17,xY 19 (ya 18 ww (qi 300)),xd 20 19,qf 21 20,xa 22 21 0 5,wW 23 21 22,xa 24 21 1 5,wW 25 21 24,qH 26 21 (.mn xO (.t 25)),xn 27 21 ef (yb 23 ww 26),yn 28 21 27,xz 29 21 28,qf 30 29,xa 31 30 2 5,wW 32 30 31,qH 33 30 (qY 32),xn 34 30 ef (ya 33 wV (qi 160)),yn 35 30 34,xz 36 30 35] 36 [xq]) (wU [qb 37 (yc bR (wX 5)),qX 6 [.nilf],xp 6 37] (yu [xi 38 5,qq 39 38,q8 40 39,wL 41] 0 [wI 42 41 40] 42 wv (yv 1 (qd [qf 43 41,wt 44 5 39 41,qJ 45 5 44,qX 8 [.nils,.nils,qA,qA,.nils],qf 7 43,qS 5 8 45] (yl (wl [qp 46 4 8,xi 49 8,qq 47 46,q8 48 47,qq 50 49,wY 51 jc 50,wJ 46 47,wh 52 .neq 48 51,qf 53 52,xa 54 53 2 8,wW 55 53 54,xn 56 53 jC (wX 55),xe 57 53 56,wT 59 57 3 8,wM 58 57 6,wM 60 57 59,qI 61 57 (yg 58 (wX 60)),qI 62 57 (wa 61),qH 63 53 (qM 57 (.t 62) qP),xz 64 53 63,qf 65 64,xa 66 65 2 8,wW 67 65 66,xn 68 65 jC (wX 67),yn 69 65 68,xe 70 65 69,wT 71 70 3 8,wM 72 70 71,xh 73 70 .neq 72 ww,qH 74 65 (qM 70 (.t 73) qP),xz 75 65 74] 75 [xq]) (wl [qp 76 4 8,qq 77 76,qb 78 (yc jU (wX 5)),wH 79 bv 77 78,qf 80 79,xa 81 80 1 8,wW 82 80 81,qH 83 80 (yc jQ (yQ 2 3)),xn 84 80 bX (yQ 82 83),xz 85 80 84] 85 [xq]) (.cut (.reg [qJ 86 3 5,yH 87,wH 88 ir 86 87,q8 89 88,qf 9 89]) (yu [wP 90 8,qq 91 90,q8 92 91,wL 93] 2 [wI 94 93 92] 94 (.exit 2) (yv 3 (qd [wt 95 2 91 93,qJ 96 2 95,qX 11 [qA,.nils],qS 2 11 96] (wl [yH 97,wd 98 97 0,qf 99 98,wW 100 99 6,xa 101 99 0 11,wW 102 99 101,qH 103 99 (yg 100 (wX 102)),yn 104 99 103,xz 105 99 104,qf 106 105,xa 107 106 1 11,wW 108 106 107,qH 109 106 (qY 108),xe 110 106 9,xP 111 106 .neq 109 (.t 110),xz 112 106 111,qf 113 112,xa 114 113 1 11,wW 115 113 114,qH 116 113 (yc kg (wX 6)),xn 117 113 bv (yQ 115 116),xz 118 113 117] 118 [xq])) 119 93 93 119))))) 120 41 41 120)) [qc 4 wu]))
def mM:FK:=⟨121,xC,(AK.whole mV)⟩
theorem CG:an Tryz.prog mO=some mM:=by kernel_rfl
def nj:FK:=⟨24,xv,qd [yA 1 3,wL 2] (ym 3 (yu [xi 6 1,qq 7 6,q8 8 7,wL 9] 0 [wI 10 9 8] 10 wv (yv 1 (yp [wt 11 5 7 9,qJ 12 5 11,qX 5 [.nils,.nils,qA,qA,.nils],qS 5 5 12] [yw 13,wP 14 5,qq 15 14,q8 16 15,xu 17 5,qq 18 17,q8 19 18,wh 20 .add 16 19,wh 21 .add 13 20,qf 3 21]) 22 9 9 22)) (wQ (yw 23) 2 23))⟩
theorem uD:an Tryz.prog fh=some nj:=by kernel_rfl
def nL:FK:=⟨30,xv,yf [yA 1 1,xZ] [wP 6 1,qq 7 6,q8 8 7,xY 9 (ya 8 wV (qi 4)),xd 10 9] 10 [xZ] (ym 3 (yu [wP 11 1,qq 12 11,q8 13 12,wL 14] 0 [wI 15 14 13] 15 wv (yv 1 (yf [qf 16 14,wt 17 3 12 14,qJ 18 3 17,qX 5 (yE qA qA),qf 4 16,qS 3 5 18] [qJ 19 1 1,xM 20,wH 21 mO 19 20,xd 22 21] 22 [xZ] (.reg [yw 23,qJ 24 3 5,wY 25 fh 24,wh 26 .add 23 25,qf 3 26])) 27 14 14 27)) (xV (yw 28) (qx 29 .leq 28 800) 2 29))⟩
theorem uK:an Tryz.prog ff=some nL:=by kernel_rfl
def iG:FK:=⟨10,[],qd [yA 3 5] (xR [wP 5 3,qq 6 5,wd 7 6 1] 7 [qq 8 2,xB 9 8,xp 2 9])⟩
theorem tk:an Tryz.prog eD=some iG:=by kernel_rfl
def oz:FK:=⟨12,xv,wo [yA 1 3,wL 2] [xu 4 1,qq 5 4,q8 6 5,qX 3 yt,xp 3 6] (xc [xi 7 1,qq 8 7,qb 9 (yc eD (wX 3)),yi 10 fe 8 wV 9] (wQ (qq 11 3) 2 11))⟩
theorem zg:an Tryz.prog kb=some oz:=by kernel_rfl
def eX:FK:=⟨24,[.t 4],
 .seq (.reg [⟨(some 4),none,.mov (.c (.p (.int .i64 0)))⟩])
 (.seq (.reg [⟨(some 6),none,.mov (.t 0)⟩,
   ⟨(some 7),none,.nilck (.t 6)⟩,
   ⟨(some 8),none,.fldA 1 (.t 7)⟩,
   ⟨(some 9),none,.fldA 2 (.t 8)⟩,
   ⟨(some 10),none,.ld none (.t 9)⟩,
   ⟨(some 11),none,.len false (.t 10)⟩,
   ⟨(some 5),none,.mov (.t 11)⟩])
 (.seq (.reg [⟨(some 12),none,.mov (.t 0)⟩,
   ⟨(some 13),none,.mov (.t 0)⟩,
   ⟨(some 14),none,.nilck (.t 13)⟩,
   ⟨(some 15),none,.fldA 1 (.t 14)⟩,
   ⟨(some 16),none,.fldA 2 (.t 15)⟩,
   ⟨(some 17),none,.ld none (.t 16)⟩,
   ⟨(some 18),none,.mov (.t 1)⟩,
   ⟨(some 19),none,.appz 5 88 [.nils,.nils,(.p (.int .i64 0)),(.p (.int .i64 0)),.nils] (.t 17) (.t 18)⟩,
   ⟨(some 20),none,.nilck (.t 12)⟩,
   ⟨(some 21),none,.fldA 1 (.t 20)⟩,
   ⟨(some 22),none,.fldA 2 (.t 21)⟩,
   ⟨none,none,.st 1 (.t 22) (.t 19)⟩])
 (.seq (.reg [⟨(some 23),none,.mov (.t 5)⟩,
   ⟨(some 4),none,.mov (.t 23)⟩])
 (.ret))))⟩
theorem jG:an Tryz.prog aY=some eX:=by kernel_rfl
def ky:FK:=⟨37,[],wo [q6 11,qW 12 11,xu 13 12,xi 14 13,q6 16,qW 17 16,qp 18 4 17,qq 15 14,qq 19 18,wt 20 5 15 19,qf 10 20] [yR 21,yR 22,yR 23,xw 24,qf 25 2,xM 26,qW 27 21,xi 28 27,xp 28 24,qW 29 22,yr 30 29,xp 30 25,qW 31 23,qp 32 4 31,xp 32 26] (.reg [q6 33,yw 34,qW 35 33,qp 36 4 35,xp 36 34])⟩
theorem rN:an Tryz.prog fI=some ky:=by kernel_rfl
def kx:FK:=⟨18,xv,wo (xE 2) [q6 3,qW 4 3,xu 5 4,xu 6 5,qq 7 6,xB 8 7,qW 9 3,xu 10 9,xu 11 10,xp 11 8] (qB [yS,qW 13 12,xu 14 13,xu 15 14,qq 16 15,xA 17 16 1,qf 2 17])⟩
theorem rM:an Tryz.prog fy=some kx:=by kernel_rfl
def fw:FK:=⟨25,[],wo [wx 3 4 1] [q6 5,qW 6 5,xu 7 6,xi 8 7,q6 10,qW 11 10,qp 12 4 11,qq 9 8,qq 13 12,wt 14 5 9 13,qf 4 14] (.reg [xM 15,xM 16,qW 17 16,xu 18 17,qq 19 18,yO 20 3,yN 21 4 [qA,qA,.nils,qA] 1 4 20,wJ 18 19,xl 22 4 48 19 21,qW 23 15,xu 24 23,xp 24 22])⟩
theorem rI:an Tryz.prog bh=some fw:=by kernel_rfl
def jK:FK:=⟨20,xk 8,wo (xE 8) (xV (q6 10) (wY 11 fy 10) 9 11) (xc [yS,xw 13,qf 14 9,yw 15,qf 16 2,wq 17 [qA,qA,.nils,qA] [yq 13,xb 1 14,xb 2 15,xb 3 16],wH 18 bh 12 17] (wQ (qf 19 9) 8 19))⟩
theorem ph:an Tryz.prog eJ=some jK:=by kernel_rfl
def md:FK:=⟨22,xC,qd [qc 4 xK] (wU [qc 5 xK] (yu [q6 8,q8 9 8,wL 10] 0 [wI 11 10 9] 11 wv (yv 1 (yp [wt 12 4 8 10,yO 13 12,qX 7 [qA,qA,qN,.nils],qS 4 7 13] [xf 14,xw 15,yO 16 7,qb 17 (yg 15 (wX 16)),yB 18 1 1 [yq 17],xl 19 1 8 14 18,qf 5 19]) 20 10 10 20)) (wQ (xf 21) 4 21))⟩
theorem tp:an Tryz.prog eF=some md:=by kernel_rfl
def il:FK:=⟨9,xC,xc [yA 3 4,wL 4] [qq 5 1,yO 6 3,qq 7 2,yi 8 bm 5 (.t 6) 7,yz 4]⟩
theorem nY:an Tryz.prog dL=some il:=by kernel_rfl
def ca:FK:=⟨112,xk 6,qO [yA 3 1,wx 4 4 1,wx 5 1 2,wL 6] (qd [wP 15 4,qq 16 15] (.blk 0 (xI 18 16 1 17 18 17 (qB [qq 19 3,xu 20 4,qq 21 20,xT 22 [.t 19,wV,.t 21,xK],qf 6 22]) (xI 24 16 2 23 24 23 (xc [qq 26 5,xi 27 4,qq 28 27,wH 29 bk 26 28,qf 25 29,xr 30 0 25,xr 31 1 25,qf 7 30,qf 8 31] (wQ (yH 32) 6 32)) (qT (wR 34 16 10 33 34) 33 (wo [yr 36 4,qq 35 3,qq 37 36,wj 38 4 37 ww,yO 39 38,qq 40 5,yi 41 bm 35 (.t 39) 40,qf 9 41] (xV (qq 42 3) (xT 43 [.t 42,wV,ww,xK]) 10 43) (wo (xV (qq 44 3) (wG 45 aY 44 xG) 11 45) [qq 46 3,qf 47 9,qf 48 11,qf 49 11,qf 50 11,xB 51 50,yB 52 1 2 [yq 49,xb 1 51],xD 53 [.t 46,xG,.t 47,.t 48,.t 52]] (wo [yr 55 4,qq 54 3,qq 56 55,wj 57 4 56 wV,yO 58 57,qq 59 5,yi 60 bm 54 (.t 58) 59,qf 12 60] [qq 61 3,qf 62 12,yB 63 1 1 [yq 62],xT 64 [.t 61,qi 10,ww,.t 63],qf 13 64] (wo [qq 65 3,yR 66,qf 67 13,yB 68 1 1 [yq 67],wq 69 [qA,qA,.nils,qA] [yJ 0 10,xb 1 66,xb 2 68,(3,1,ww)],wH 70 bh 65 69] [qq 71 3,qf 72 11,xB 73 72,qf 74 11,xB 75 74,yB 76 1 1 [yq 75],xD 77 [.t 71,wV,ww,.t 73,.t 76]] (qB (wQ (yR 78) 6 78))))))))))) (wU [yr 79 4,qq 80 79,qb 81 (yc dL (yQ 3 5)),wH 82 eF 80 81,qf 14 82] (qd [wP 83 4,qq 84 83] (.blk 1 (xI 86 84 11 85 86 85 (qB [qq 87 3,qf 88 14,xT 89 [.t 87,qi 10,ww,.t 88],qf 6 89]) (xI 91 84 12 90 91 90 (qB [qq 92 3,qf 93 14,xT 94 [.t 92,qi 11,ww,.t 93],qf 6 94]) (wl (wR 96 84 13 95 96) 95 [xi 102 4,qf 105 14,qq 97 3,qq 98 3,qW 99 98,wP 100 99,qJ 101 1 100,qq 103 102,wH 104 jM 101 103,wJ 3 97,xT 106 [.t 97,qi 14,.t 104,.t 105],qf 6 106]))))) [qq 107 3,wP 108 4,qq 109 108,qf 110 14,xT 111 [.t 107,.t 109,ww,.t 110],qf 6 111])⟩
theorem pJ:an Tryz.prog bm=some ca:=by kernel_rfl
def gS:FK:=⟨9,xC,xc [yA 3 4,wL 4] [qq 5 1,yO 6 3,qq 7 2,yi 8 bm 5 (.t 6) 7,yz 4]⟩
theorem nz:an Tryz.prog dD=some gS:=by kernel_rfl
def iQ:FK:=⟨176,[],wo [yA 4 1,wx 6 1 2] [xw 16,q8 17 16,wL 18] (qV 0 (x8 [wI 19 18 17] 19 wv (yv 1 (qO [wt 20 5 16 18,qJ 21 5 20,qX 9 [qA,qN,.nils,.nils,.nils],qS 5 9 21] (qT [wP 22 9,qq 23 22,wd 24 23 6] 24 (wo (xV (qq 25 4) (wG 26 aY 25 xO) 10 26) [qq 27 4,yR 28,yR 29,yB 30 1 1 [yq 29],xD 31 [.t 27,wV,ww,.t 28,.t 30]] (wo [xi 33 9,qq 32 4,qq 34 33,wj 35 4 34 ww,yO 36 35,qq 37 6,yi 38 bm 32 (.t 36) 37,qf 11 38] [qq 39 4,qf 40 11,yR 41,xB 42 41,yR 43,xB 44 43,yR 45,ws 46 45 2,yB 47 1 2 [yq 44,xb 1 46],xD 48 [.t 39,xG,.t 40,.t 42,.t 47]] (wo [yr 50 9,yw 54,qq 49 4,qq 51 50,qq 52 6,wY 53 bj 52,wJ 4 49,wJ 50 51,qn 55 bA [.t 49,.t 51,.t 53,.t 54]] [qq 56 4,yR 57,ws 58 57 2,yR 59,yB 60 1 1 [yq 59],xD 61 [.t 56,wV,ww,.t 58,.t 60]] (.exit 1))))) (wo [xi 62 9,qq 63 62,qb 64 (yc dD (yQ 4 6)),wH 65 eF 63 64,qf 12 65] [wP 66 9,qq 67 66] (.blk 2 (xI 69 67 1 68 69 68 (wo [xu 74 9,yw 76,qW 77 76,wP 78 77,qq 70 6,qW 71 70,wP 72 71,qq 73 72,qq 75 74,qq 79 78,qD (.mup 1 (.t 73) (.t 75) (.t 79))] [yw 80,qW 81 80,wP 82 81,qq 83 82,xB 84 83,qW 85 80,wP 86 85,xp 86 84] (.reg [xu 92 9,qf 95 12,qq 87 4,qq 88 6,qW 89 88,wP 90 89,qq 91 90,qq 93 92,qb 94 (.lk 1 qA false (.t 91) (.t 93)),wq 96 [qA,qA,.nils,qA] [(0,1,xG),xb 1 94,xb 2 95,(3,1,ww)],wH 97 bh 87 96])) (xI 99 67 2 98 99 98 (yp [qq 101 6,xu 102 9,qq 103 102,wH 104 bk 101 103,qf 100 104,xr 105 0 100,xr 106 1 100,qf 13 105,qf 14 106] [qq 107 4,qf 108 13,qf 109 12,wq 110 [qA,qA,.nils,qA] [(0,1,xG),xb 1 108,xb 2 109,(3,1,ww)],wH 111 bh 107 110]) (xI 113 67 3 112 113 112 (.reg [qq 114 4,qf 115 12,wq 116 [qA,qA,.nils,qA] [yJ 0 13,yJ 1 (-1),xb 2 115,(3,1,ww)],wH 117 bh 114 116]) (xI 119 67 4 118 119 118 (.reg [qq 120 4,qf 121 12,wq 122 [qA,qA,.nils,qA] [yJ 0 12,yJ 1 (-1),xb 2 121,(3,1,ww)],wH 123 bh 120 122]) (xI 125 67 5 124 125 124 (wo (xV (qq 126 4) (wG 127 aY 126 xO) 15 127) [qf 129 12,wj 130 1 129 ww,qf 132 15,qf 133 15,qf 134 15,xB 135 134,xJ 136 1 yt 2 [yq 133,xb 1 135],qq 128 4,qq 131 130,xD 137 [.t 128,xG,.t 131,.t 132,.t 136]] (wo [yr 139 9,yw 143,qq 138 4,qq 140 139,qq 141 6,wY 142 bj 141,wJ 4 138,wJ 139 140,qn 144 bA [.t 138,.t 140,.t 142,.t 143]] [qq 145 4,qf 146 15,xB 147 146,qf 148 15,ws 149 148 2,yB 150 1 1 [yq 149],xD 151 [.t 145,wV,ww,.t 147,.t 150]] (yp [qp 153 4 9,yw 157,qq 152 4,qq 154 153,qq 155 6,wY 156 bj 155,wJ 4 152,wJ 153 154,qn 158 bA [.t 152,.t 154,.t 156,.t 157]] [qq 159 4,qf 160 15,ws 161 160 2,qf 162 15,ws 163 162 2,yB 164 1 1 [yq 163],xD 165 [.t 159,wV,ww,.t 161,.t 164]]))) (xR (wR 167 67 7 166 167) 166 [qf 169 12,wj 170 1 169 ww,qq 168 4,qq 171 170,qq 172 4,wG 173 aY 172 wV,wJ 4 168,wJ 170 171,xD 174 [.t 168,xO,.t 171,.t 173,xK]]))))))))) 175 18 18 175)))⟩
theorem oT:an Tryz.prog bA=some iQ:=by kernel_rfl
def pN:FK:=⟨65,[xS 4 3],wo [yA 2 1,wx 3 3 1,qX 4 (yE qA qA)] [qJ 9 1 2,wq 10 [.nils,qA,qA,.nils,qA] [yq 9],wx 11 5 10,qf 5 11] (qd [xf 12,xf 13,xu 14 3,qq 15 14,q8 16 15,qJ 17 3 3,wY 18 kb 17,wJ 14 15,qW 19 12,xu 20 19,wP 21 20,xp 21 16,qW 22 13,xu 23 22,xu 24 23,xp 24 18] (qO (wQ (qn 25 bj [.c .nilp]) 6 25) (yu [xu 26 3,qq 27 26,q8 28 27,wL 29] 0 [wI 30 29 28] 30 wv (yv 1 (yp [qf 31 29,wt 32 1 27 29,qq 33 32,qf 7 31,qf 8 33] [yh 34,qW 35 34,wP 36 35,qq 37 36,yz 38,yH 39,qD (.mup 1 (.t 37) (.t 38) (.t 39))]) 40 29 29 40)) (wo [xf 41,wG 42 aY 41 wV] [xf 43,xi 44 3,qq 45 44,yh 46,xu 47 3,qq 48 47,q8 49 48,wq 50 yt [yq 49],wx 51 1 50,qn 52 bA [.t 43,.t 45,.t 46,.t 51]] (xc [xf 53,xf 54,xf 56,qW 57 56,qp 58 4 57,qq 59 58,xT 55 [.t 54,wV,ww,xK],wJ 58 59,xD 60 [.t 53,xO,.t 55,.t 59,xK]] [xf 61,qW 62 61,xu 63 62,qJ 64 3 63,qS 3 4 64]))))⟩
theorem AQ:an Tryz.prog gT=some pN:=by kernel_rfl
def iS:FK:=⟨7,[xS 3 3],xc [yA 2 3,qX 3 (yE qA qA)] [qJ 4 1 1,qJ 5 3 2,wH 6 gT 4 5,qS 3 3 6]⟩
theorem oZ:an Tryz.prog cT=some iS:=by kernel_rfl
def ku:FK:=⟨19,[xS 2 1,.t 3],yf [yA 1 1,qX 2 xH,wz 3] [qJ 5 1 1,wY 6 pp 5,xd 7 6] 7 [wq 8 xH [],xp 2 8,wz 3] (wU [wP 9 1,qq 10 9,qb 11 (yc cT (wX 1)),wH 12 cf 10 11,wq 13 xH [yq 12],qX 4 xH,xp 4 13] (wl [qJ 14 1 4,wY 15 ff 14,xd 16 15] 16 [wq 17 xH [],xp 2 17,wz 3]) [qJ 18 1 4,xp 2 18,qc 3 wu])⟩
theorem ry:an Tryz.prog dv=some ku:=by kernel_rfl
def ra:FK:=⟨4,xv,ym 2 (wl [q6 3] 3 [qL 2 1]) (xE 2)⟩
theorem BD:an Tryz.prog lA=some ra:=by kernel_rfl
def mJ:FK:=⟨35,xv,qd (xE 2) (ym 3 (x7 4 0 [xM 5,q6 6,q8 7 6,wI 8 5 7] 8 wv 1 (.reg [yw 11,yS,xM 13,wt 14 5 12 13,wP 15 14,q6 20,xM 21,wt 22 5 20 21,yr 23 22,q6 27,xM 28,wt 29 5 27 28,qp 30 4 29,qq 16 15,wd 17 16 1,qq 24 23,qq 31 30,wY 18 lA 17,wJ 23 24,wJ 30 31,wh 19 .add 11 18,wY 25 gi 24,wJ 30 31,wh 26 .add 19 25,wY 32 gi 31,wh 33 .add 26 32,qf 3 33]) (xM 9) 10 9 4 10) (wQ (yw 34) 2 34))⟩
theorem sg:an Tryz.prog gi=some mJ:=by kernel_rfl
def gD:FK:=⟨25,xv,wo (xE 2) [q6 3,q6 4,qW 5 4,xu 6 5,xi 7 6,qq 8 7,qU 9 2 [qA,.nils] 0 [],qU 10 4 [qA,qA,.nils,qA] 0 [],yB 11 1 0 [],wq 12 [.nils,.nils,qA,qA,.nils] [yq 9,xb 1 10,xb 4 11],yN 13 5 [.nils,.nils,qA,qA,.nils] 1 5 12,xl 14 5 88 8 13,qW 15 3,xu 16 15,xi 17 16,xp 17 14] (qB [q6 18,qW 19 18,xu 20 19,xi 21 20,qq 22 21,q8 23 22,xA 24 23 1,qf 2 24])⟩
theorem le:an Tryz.prog cN=some gD:=by kernel_rfl
def mt:FK:=⟨37,[],wo [q6 11,qW 12 11,xu 13 12,xi 14 13,q6 16,qW 17 16,qp 18 4 17,qq 15 14,qq 19 18,wt 20 5 15 19,qf 10 20] [yR 21,xw 22,qW 23 21,xi 24 23,xp 24 22] (wo [yR 25,qf 26 2,qW 27 25,yr 28 27,xp 28 26] [yR 29,yw 30,qW 31 29,qp 32 4 31,xp 32 30] (.reg [q6 33,xM 34,qW 35 33,qp 36 4 35,xp 36 34]))⟩
theorem tr:an Tryz.prog bO=some mt:=by kernel_rfl
def lB:FK:=⟨19,xv,wo (xE 2) [q6 3,q6 4,qW 5 4,xu 6 5,xu 7 6,qq 8 7,xB 9 8,qW 10 3,xu 11 10,xu 12 11,xp 12 9] (qB [q6 13,qW 14 13,xu 15 14,xu 16 15,qq 17 16,xA 18 17 1,qf 2 18])⟩
theorem sZ:an Tryz.prog bW=some lB:=by kernel_rfl
def iX:FK:=⟨37,xk 10,wo (xE 10) [yS,qW 13 12,xu 14 13,xi 15 14,q6 17,qW 18 17,qp 19 4 18,qq 16 15,qq 20 19,wt 21 5 16 20,qf 11 21] (xc [qf 22 11,qf 23 11,qW 24 23,xu 25 24,qq 26 25,xw 27,qf 28 2,xM 29,yw 30,wq 31 [qA,qA,.nils,qA] [yq 27,xb 1 28,xb 2 29,xb 3 30],yN 32 4 [qA,qA,.nils,qA] 1 4 31,xl 33 4 48 26 32,qW 34 22,xu 35 34,xp 35 33] (wQ (qf 36 2) 10 36))⟩
theorem uA:an Tryz.prog cD=some iX:=by kernel_rfl
def jd:FK:=⟨34,xC,ym 4 (xy [q6 6,qW 7 6,qp 8 5 7,qq 9 8,q8 10 9,xA 11 10 1,qf 5 11] 0 [xf 12,qx 13 .geq 12 0] 13 wv 1 (wl [q6 16,qW 17 16,qp 18 5 17,qq 19 18,xf 20,wt 21 3 19 20,wP 22 21,qq 23 22,xw 24,qb 25 (yP .eql 23 (.t 24))] 25 [q6 26,qW 27 26,qp 28 5 27,qq 29 28,xf 30,wt 31 3 29 30,xu 32 31,qq 33 32,qf 4 33]) (xV (xf 14) (xA 15 14 1) 5 15)) [qL 4 (-1)]⟩
theorem vn:an Tryz.prog fc=some jd:=by kernel_rfl
def ny:FK:=⟨56,xC,wo [wx 3 4 1,wL 4] [q6 11,yr 12 3,qq 13 12,wj 14 4 13 ww,yO 15 14,wH 16 bw 11 15,qf 5 16] (wo [q6 17,q6 18,x9 19 18,yB 20 1 0 [],xt 21 [.t 17,wV,.t 19,ww,.t 20],qf 6 21] (xV (q6 22) (xF 23 22) 7 23) (wo (xV (q6 24) (xF 25 24) 8 25) [q6 26,xf 27,yH 28,yz 29,yB 30 1 2 [yq 28,xb 1 29],yH 31,xL 32 [.t 26,xG,.t 27,.t 30,.t 31]] (wo [q6 33,yr 34 3,qq 35 34,wj 36 4 35 wV,yO 37 36,wH 38 bw 33 37,qf 9 38] [q6 39,q6 40,x9 41 40,qf 42 9,yB 43 1 1 [yq 42],xt 44 [.t 39,qi 10,.t 41,ww,.t 43],qf 10 44] (wo [q6 45,yh 46,yR 47,yB 48 1 1 [yq 47],xt 49 [.t 45,qi 10,.t 46,ww,.t 48]] [q6 50,yz 51,yB 52 1 1 [yq 51],yz 53,xL 54 [.t 50,wV,ww,.t 52,.t 53]] (qB (wQ (yh 55) 4 55))))))⟩
theorem uZ:an Tryz.prog jn=some ny:=by kernel_rfl
def de:FK:=⟨84,xC,qO [wx 3 4 1,wL 4] (qd [wP 7 3,qq 8 7] (.blk 0 (xI 10 8 1 9 10 9 (qB [q6 11,yS,xu 14 3,xJ 16 1 yt 0 [],qq 15 14,x9 13 12,wJ 14 15,xt 17 [.t 11,wV,.t 13,.t 15,.t 16],qf 4 17]) (xI 19 8 2 18 19 18 (qB [q6 20,xi 21 3,qq 22 21,wH 23 fc 20 22,qf 4 23]) (wl (wR 25 8 10 24 25) 24 [q6 26,yO 27 3,wH 28 jn 26 27,qf 4 28]))))) (qO (wQ (yB 29 1 0 []) 5 29) (x7 6 1 [yh 30,yr 31 3,qq 32 31,q8 33 32,wI 34 30 33] 34 (.exit 1) 2 (.reg [xf 37,q6 38,yr 39 3,qq 40 39,yh 41,wt 42 4 40 41,yO 43 42,wH 44 bw 38 43,yB 45 1 1 [yq 44],xl 46 1 8 37 45,qf 5 46]) (yh 35) 36 35 6 36) (yT (qd [wP 47 3,qq 48 47] (.blk 3 (xI 50 48 11 49 50 49 (qB [q6 51,q6 52,x9 53 52,xf 54,xt 55 [.t 51,qi 10,.t 53,ww,.t 54],qf 4 55]) (xI 57 48 12 56 57 56 (qB [q6 58,q6 59,x9 60 59,xf 61,xt 62 [.t 58,qi 11,.t 60,ww,.t 61],qf 4 62]) (wl (wR 64 48 13 63 64) 63 [q6 65,q6 66,q6 68,qW 69 68,wP 70 69,xi 72 3,xf 75,qJ 71 1 70,qq 73 72,x9 67 66,wm (some 1) 70 71,wJ 72 73,wH 74 jE 71 73,xt 76 [.t 65,qi 14,.t 67,.t 74,.t 75],qf 4 76]))))) [q6 77,wP 78 3,q6 80,xf 82,qq 79 78,x9 81 80,wJ 78 79,xt 83 [.t 77,.t 79,.t 81,ww,.t 82],qf 4 83]))⟩
theorem tv:an Tryz.prog bw=some de:=by kernel_rfl
def mh:FK:=⟨41,[],wo [wx 3 5 1] (xV (q6 8) (xF 9 8) 4 9) (wo (xV (q6 10) (xF 11 10) 5 11) (xV yS (xF 13 12) 6 13) (wo [q6 14,xM 15,yB 16 1 1 [yq 15],xM 17,xL 18 [.t 14,wV,ww,.t 16,.t 17]] [q6 19,xi 20 3,qq 21 20,wj 22 4 21 ww,yO 23 22,wH 24 bw 19 23,qf 7 24] (wo [q6 25,yH 26,xf 27,yh 28,yB 29 1 2 [yq 27,xb 1 28],xf 30,xL 31 [.t 25,xG,.t 26,.t 29,.t 30]] [q6 32,yr 33 3,qq 34 33,wH 35 bE 32 34] (.reg [q6 36,xM 37,yB 38 1 1 [yq 37],yh 39,xL 40 [.t 36,wV,ww,.t 38,.t 39]]))))⟩
theorem ui:an Tryz.prog iH=some mh:=by kernel_rfl
def hZ:FK:=⟨132,[],yf [wx 3 5 1] [wP 9 3,qq 10 9,wd 11 10 6] 11 [yS,qJ 13 5 3,wH 14 iH 12 13] (qO (wQ (yB 15 1 0 []) 4 15) (x7 5 0 [xf 16,xi 17 3,qq 18 17,q8 19 18,wI 20 16 19] 20 wv 1 (.reg [xM 23,q6 24,xi 25 3,qq 26 25,xf 27,wt 28 4 26 27,yO 29 28,wH 30 bw 24 29,yB 31 1 1 [yq 30],xl 32 1 8 23 31,qf 4 32]) (xf 21) 22 21 5 22) (qd [wP 33 3,qq 34 33] (.blk 2 (xI 36 34 1 35 36 35 (wo [q6 37,q6 38,qW 39 38,qp 40 6 39,qq 41 40,xM 42,xt 43 [.t 37,xG,.t 41,ww,.t 42]] [q6 44,q6 45,qW 46 45,qp 47 5 46,xu 49 3,q6 51,qW 52 51,qp 53 6 52,qq 48 47,qq 50 49,qq 54 53,wq 55 [qN,qA,qA] [yq 50,xb 1 54,(2,1,ww)],xJ 56 3 [qN,qA,qA] 1 (yM 3 55),xl 57 3 32 48 56,qW 58 44,qp 59 5 58,xp 59 57] (.reg [q6 60,q6 61,qW 62 61,qp 63 6 62,qq 64 63,xB 65 64,qW 66 60,qp 67 6 66,xp 67 65])) (xI 69 34 2 68 69 68 (.reg [q6 70,q6 71,xu 72 3,qq 73 72,wH 74 fc 71 73,xM 75,xt 76 [.t 70,xG,.t 74,ww,.t 75]]) (xI 78 34 3 77 78 77 (.reg [q6 79,xM 80,xt 81 [.t 79,qi 13,qi (-1),ww,.t 80]]) (xI 83 34 4 82 83 82 (.reg [q6 84,xM 85,xt 86 [.t 84,qi 12,qi (-1),ww,.t 85]]) (xI 88 34 7 87 88 87 (.reg [q6 89,xM 90,wj 91 1 90 ww,xJ 93 1 yt 0 [],q6 94,qq 92 91,xF 95 94,wJ 91 92,xL 96 [.t 89,xO,.t 92,.t 93,.t 95]]) (qT (wR 98 34 5 97 98) 97 (wo (xV (q6 99) (xF 100 99) 6 100) (xV (q6 101) (xF 102 101) 7 102) (wo (xV (q6 103) (xF 104 103) 8 104) [q6 105,xM 106,wj 107 1 106 ww,qq 108 107,yh 109,yH 110,yB 111 1 2 [yq 109,xb 1 110],yh 112,xL 113 [.t 105,xG,.t 108,.t 111,.t 112]] (wo [q6 114,yr 115 3,qq 116 115,wH 117 bE 114 116] [q6 118,yz 119,yB 120 1 1 [yq 119],yH 121,xL 122 [.t 118,wV,ww,.t 120,.t 121]] (yp [q6 123,qp 124 4 3,qq 125 124,wH 126 bE 123 125] [q6 127,yz 128,yB 129 1 1 [yq 128],yz 130,xL 131 [.t 127,wV,ww,.t 129,.t 130]])))))))))))))⟩
theorem tz:an Tryz.prog ic=some hZ:=by kernel_rfl
def gG:FK:=⟨32,[],qO [q6 6,qW 7 6,qp 8 5 7,qq 9 8,q8 10 9,yR 4] (x7 5 0 [xf 11,xw 12,q8 13 12,wI 14 11 13] 14 wv 1 (.reg [q6 17,xw 18,xf 19,wt 20 5 18 19,qJ 21 5 20,wH 22 ic 17 21]) (xf 15) 16 15 5 16) (.reg [q6 23,q6 24,qW 25 24,qp 26 5 25,qq 27 26,xM 28,qb 29 (.slS 3 (.t 27) none (some (.t 28))),qW 30 23,qp 31 5 30,xp 31 29])⟩
theorem sM:an Tryz.prog bE=some gG:=by kernel_rfl
def vS:FK:=⟨80,[xS 4 3],wo [yA 2 1,qX 4 (yE qA qA)] [wP 9 2,qq 10 9,xw 11,wt 12 3 10 11,qJ 13 3 12,qX 5 yG,qS 3 5 13] (wo [qJ 14 1 2,xu 15 5,qq 16 15,q8 17 16,wq 18 [.nils,qA,qA,.nils,qA,.nils,qA,.nils] [yq 14,xb 6 17],wx 19 8 18,qf 6 19] [yh 20,xu 21 5,qq 22 21,q8 23 22,qW 24 20,xu 25 24,wP 26 25,xp 26 23] (qO [yh 27,xu 28 5,xi 31 5,qq 29 28,q8 30 29,qq 32 31,wY 33 gi 32,wJ 28 29,wh 34 .add 30 33,qW 35 27,xu 36 35,xu 37 36,xp 37 34] (x7 7 0 [yH 38,xu 39 5,qq 40 39,q8 41 40,wI 42 38 41] 42 wv 1 (.reg [yh 45,yh 46,qW 47 46,qp 48 5 47,xu 50 5,yH 52,yH 55,qq 49 48,qq 51 50,wt 53 1 51 52,qq 54 53,wq 56 [qN,qA,qA] [yq 54,xb 1 55,(2,1,ww)],xJ 57 3 [qN,qA,qA] 1 (yM 3 56),xl 58 3 32 49 57,qW 59 45,qp 60 5 59,xp 60 58]) (yH 43) 44 43 7 44) (wo [yh 61,xF 62 61] [yh 63,xi 64 5,qq 65 64,wH 66 bE 63 65] (wo [yh 67,yh 68,x9 69 68,yB 70 1 0 [],xt 71 [.t 67,wV,.t 69,ww,.t 70],qf 8 71] [yh 72,yz 73,yB 74 1 0 [],xL 75 [.t 72,xO,.t 73,.t 74,ww]] (qB [yh 76,qW 77 76,xu 78 77,qJ 79 3 78,qS 3 4 79])))))⟩
theorem GC:an Tryz.prog ma=some vS:=by kernel_rfl
def sk:FK:=⟨22,[xS 2 1],qd [yA 1 1,qX 2 xH] (wU [wq 5 xH [],qX 3 xH,xp 3 5] (x7 4 0 [xM 6,wP 7 1,qq 8 7,q8 9 8,wI 10 6 9] 10 wv 1 (.reg [wP 13 3,xM 16,qq 14 13,qJ 15 1 1,wH 17 ma 15 16,wJ 13 14,xJ 18 3 (yE qA qA) 1 (yM 3 17),xl 19 3 40 14 18,wP 20 3,xp 20 19]) (xM 11) 12 11 4 12) [qJ 21 1 3,xp 2 21])⟩
theorem CK:an Tryz.prog jD=some sk:=by kernel_rfl
def rS:FK:=⟨21,xC,wU [yA 2 3,xq] (x7 5 0 [xf 6,xw 7,q8 8 7,wI 9 6 8] 9 wv 1 (wl [xw 12,xf 13,wt 14 1 12 13,xu 16 2,qq 15 14,qq 17 16,xA 18 17 1,yi 19 bl 15 ww 18,xd 20 19] 20 [xq]) (xf 10) 11 10 5 11) [qc 4 wu]⟩
theorem Cq:an Tryz.prog jy=some rS:=by kernel_rfl
def pK:FK:=⟨13,xv,xc [xZ] [q6 3,qn 4 bl (ya 3 wV (qi 14)),xM 5,xU 6 5 0,xh 7 5 .neq 6 (qi 12),xX 8 5 7,yz 9,xU 10 9 0,xh 11 9 .neq 10 (qi 13),xX 12 9 11,qf 2 12]⟩
theorem AW:an Tryz.prog iy=some pK:=by kernel_rfl
def dj:FK:=⟨28,xv,ym 2 (.blk 0 (qC [q6 4,wd 5 4 1,xf 3] 3 (qB (xE 2)) (qC [q6 7,wd 8 7 2,yz 9,xe 10 9 0,xP 11 9 .eql 10 (qi 10),xz 12 9 11,qf 13 12,xe 14 13 0,xP 15 13 .eql 14 (qi 11),xz 16 13 15,qf 17 16,xe 18 17 0,xP 19 17 .eql 18 (qi 13),xz 20 17 19,qf 6 20] 6 (qB [qL 2 1]) (wl [q6 22,qn 23 bl (ya 22 xO (qi 9)),qf 24 23,xe 25 24 0,xP 26 24 .eql 25 (qi 12),xz 27 24 26,qf 21 27] 21 [qL 2 2])))) [qL 2 (-1)]⟩
theorem CD:an Tryz.prog mN=some dj:=by kernel_rfl
def uv:FK:=⟨88,xk 6,qd [yA 3 1,wx 5 4 2,yU] (yf [wP 8 3,qq 9 8,xw 10,wt 11 3 9 10,qJ 12 3 11,qX 7 (yE qA qA),qS 3 7 12] [wP 13 5,qq 14 13,qn 15 bl (ya 14 wV (qi 14)),xd 16 15,qf 17 16,qH 18 17 (qj (some 3) 7),xa 19 17 2 5,wW 20 17 19,xn 21 17 jy (yQ 18 20),yn 22 17 21,xz 23 17 22] 23 [yU] (.seq (wl [wP 24 5,xu 27 5,xu 29 7,qq 25 24,qq 28 27,qq 30 29,xA 31 30 1,wY 26 iy 25,wJ 27 28,wJ 29 30,yi 32 bl 28 ww 31,qb 33 (.beq true (.t 26) (.t 32)),qf 34 33,xa 35 34 0 5,wW 36 34 35,xn 37 34 iy (wX 36),yn 38 34 37,xe 39 34 38,wT 40 39 1 5,wM 41 39 40,xh 42 39 .neq 41 (qi (-1)),qH 43 34 (qM 39 (.t 42) qP),xz 44 34 43] 44 [yU]) (yT (wl [wP 45 5,qq 46 45,wd 47 46 14] 47 [yr 48 5,xw 50,xA 51 50 1,qq 49 48,yi 52 bl 49 ww 51,qf 53 52,wT 54 53 2 5,wT 57 53 0 3,wT 59 53 3 5,wM 55 53 54,qI 56 53 (qY 55),wM 58 53 57,wM 60 53 59,qI 61 53 (qQ 3 58 (.t 60)),wT 62 53 0 61,wM 63 53 62,xh 64 53 .eql 56 (.t 63),xX 65 53 64,qf 6 65]) [xi 66 5,wP 69 5,qq 67 66,q8 68 67,qq 70 69,wY 71 mN 70,wJ 66 67,wh 72 .eql 68 71,qf 73 72,wT 74 73 3 5,wM 75 73 74,yK 76 73 bl (ya 75 ww (qi 255)),xX 77 73 76,qf 78 77,wT 79 78 3 5,wM 80 78 79,xh 81 78 .eql 80 ww,xU 82 78 81,xa 83 82 0 5,wW 84 82 83,xP 85 82 .eql 84 wV,qI 86 78 (qM 82 wu (.t 85)),xX 87 78 86,qf 6 87])))⟩
theorem DX:an Tryz.prog oa=some uv:=by kernel_rfl
def pM:FK:=⟨43,xC,qd [yA 2 3,qc 4 xK] (wU (wQ (yB 8 1 0 []) 5 8) (x7 6 0 [yh 9,xi 10 2,qq 11 10,q8 12 11,wI 13 9 12] 13 wv 1 (x7 7 2 [yH 16,xi 17 2,qq 18 17,yh 19,wt 20 5 18 19,qp 21 4 20,qq 22 21,q8 23 22,wI 24 16 23] 24 (.exit 2) 3 (qT [xi 27 2,qq 28 27,yh 29,wt 30 5 28 29,qp 31 4 30,qq 32 31,yH 33,wt 34 1 32 33,qq 35 34,xw 36,wh 37 .eql 35 36] 37 (qd [xf 38,yh 39,yB 40 1 1 [yq 39],xl 41 1 8 38 40,qf 5 41] (.exit 2))) (yH 25) 26 25 7 26) (yh 14) 15 14 6 15) (wQ (xf 42) 4 42))⟩
theorem Bz:an Tryz.prog iF=some pM:=by kernel_rfl
def kR:AK:=wo [yA 3 1,yU] [wP 14 3,qq 15 14,xw 16,wt 17 3 15 16,qJ 18 3 17,qX 7 (yE qA qA),qS 3 7 18] (wo [xi 19 7,qq 20 19,qf 21 2,wt 22 5 20 21,qJ 23 5 22,qX 8 [.nils,.nils,qA,qA,.nils],qS 5 8 23] [qL 9 1] (yl (qd [xi 24 8,qq 25 24] (.blk 0 (xI 27 25 1 26 27 26 (wl [yr 28 8,qq 29 28,qx 30 .neq 29 0] 30 [yU]) (xI 32 25 2 31 32 31 (.reg [qL 9 2]) (xI 34 25 3 33 34 33 (.reg (xE 9)) (qB [yU])))))) (wl [qp 35 4 8,qq 36 35,q8 37 36,qf 38 9,wh 39 .neq 37 38,qf 40 39,xa 41 40 2 8,wW 42 40 41,xP 43 40 .neq 42 wV,xe 44 40 43,wT 45 44 3 8,wM 46 44 45,wT 47 44 1 7,wM 48 44 47,xh 49 44 .sub 48 wV,yK 50 44 bl (yb 46 ww 49),qI 51 44 (wa 50),qH 52 40 (qM 44 (.t 51) qP),xz 53 40 52] 53 [yU]) (yl (x7 10 1 [yR 54,qp 55 4 8,qq 56 55,q8 57 56,wI 58 54 57] 58 (.exit 1) 2 (wl [qp 61 4 8,yR 63,xi 66 7,qq 62 61,wt 64 1 62 63,qq 65 64,qq 67 66,q8 68 67,xA 69 68 1,yi 70 bl 65 wV 69,xd 71 70] 71 [yU]) (yR 59) 60 59 10 60) (x7 11 3 [qf 72 11,xu 73 8,qq 74 73,q8 75 74,wI 76 72 75] 76 (.exit 3) 4 (wl [xw 80,xu 81 8,qf 83 11,qJ 79 1 3,qq 82 81,wt 84 4 82 83,yO 85 84,yi 86 oa 79 (.t 80) 85,xd 87 86] 87 [yU]) (qf 77 11) 78 77 11 78) (qd [qJ 88 3 7,qf 89 2,wH 90 iF 88 89,qf 12 90] (.cut (x7 13 5 [qf 91 13,wP 92 8,qq 93 92,q8 94 93,wI 95 91 94] 95 (.exit 5) 6 (wl [qf 98 2,wd 99 98 0,qf 100 99,xa 101 100 0 8,xe 103 100 13,xe 108 100 12,qH 109 100 (qY 108),wW 102 100 101,qH 104 100 (qQ 2 102 (.t 103)),xa 105 100 1 104,wW 106 100 105,qH 107 100 (qY 106),xP 110 100 .neq 107 (.t 109),xz 111 100 110,qf 112 111,xa 114 112 0 8,xe 116 112 13,qH 113 112 (qj (some 3) 7),wW 115 112 114,qH 117 112 (qQ 2 115 (.t 116)),xa 118 112 1 117,wW 119 112 118,xn 120 112 jy (yQ 113 119),yn 121 112 120,xz 122 112 121,qf 123 122,xa 124 123 0 8,xe 126 123 13,xa 130 123 1 7,wW 125 123 124,qH 127 123 (qQ 2 125 (.t 126)),xa 128 123 0 127,wW 129 123 128,wW 131 123 130,xP 132 123 .sub 131 wV,yx 133 123 (yb 129 ww 132),yn 134 123 133,xz 135 123 134] 135 [yU]) (qf 96 13) 97 96 13 97) (qB [qc 6 wu]))))))
def la:FK:=⟨136,xk 6,(AK.whole kR)⟩
theorem BY:an Tryz.prog kX=some la:=by kernel_rfl
def nw:FK:=⟨76,xv,yf [yA 1 1,xZ] [wP 7 1,qq 8 7,q8 9 8,qn 10 bl (ya 9 wV (qi 4)),xd 11 10] 11 [xZ] (ym 3 (x7 4 0 [xM 12,wP 13 1,qq 14 13,q8 15 14,wI 16 12 15] 16 wv 1 (yf [wP 19 1,qq 20 19,xM 21,wt 22 3 20 21,qJ 23 3 22,qX 5 (yE qA qA),qS 3 5 23] [wP 24 5,qq 25 24,qn 26 bl (ya 25 ww xO),xd 27 26,qf 28 27,xa 29 28 1 5,wW 30 28 29,xa 31 28 0 5,wW 32 28 31,yx 33 28 (ya 30 (.t 32) (qi 300)),yn 34 28 33,xz 35 28 34,qf 36 35,xa 37 36 2 5,wW 38 36 37,qH 39 36 (qY 38),yx 40 36 (ya 39 wV (qi 160)),yn 41 36 40,xz 42 36 41] 42 [xZ] (x7 6 2 [yh 43,xi 44 5,qq 45 44,q8 46 45,wI 47 43 46] 47 (.exit 2) 3 (qd [yw 50,xi 51 5,yh 53,xi 59 5,yh 61,qq 52 51,wt 54 5 52 53,xu 55 54,qq 56 55,q8 57 56,wh 58 .add 50 57,qq 60 59,wt 62 5 60 61,wP 63 62,qq 64 63,q8 65 64,wh 66 .add 58 65,qf 3 66] (wl [yw 67,qx 68 .gtr 67 800,qf 69 68,qH 70 69 (qj (some 1) 1),xe 71 69 4,xe 72 69 6,xn 73 69 kX (yb 70 (.t 71) 72),yn 74 69 73,xz 75 69 74] 75 [xZ])) (yh 48) 49 48 6 49)) (xM 17) 18 17 4 18) [qc 2 wu])⟩
theorem uX:an Tryz.prog fj=some nw:=by kernel_rfl
def ko:FK:=⟨16,[xS 2 1,.t 3],yf [yA 1 1,qX 2 xH,wz 3] [qJ 5 1 1,wY 6 mG 5,xd 7 6] 7 [wq 8 xH [],xp 2 8,wz 3] (wU [qJ 9 1 1,wY 10 jD 9,qX 4 xH,xp 4 10] (wl [qJ 11 1 4,wY 12 fj 11,xd 13 12] 13 [wq 14 xH [],xp 2 14,wz 3]) [qJ 15 1 4,xp 2 15,qc 3 wu])⟩
theorem rv:an Tryz.prog dt=some ko:=by kernel_rfl
def oH:FK:=⟨53,xv,yf [yA 1 1,wL 2] [qJ 6 1 1,wY 7 fj 6,xd 8 7] 8 [qL 2 (-1)] (ym 3 (x7 4 0 [xM 9,wP 10 1,qq 11 10,q8 12 11,wI 13 9 12] 13 wv 1 (x7 5 2 [xf 16,wP 17 1,qq 18 17,xM 19,wt 20 3 18 19,xi 21 20,qq 22 21,q8 23 22,wI 24 16 23] 24 (.exit 2) 3 (.reg [yw 27,wP 28 1,xM 30,xf 34,wP 40 1,xM 42,xf 46,qq 29 28,wt 31 3 29 30,xi 32 31,qq 33 32,wt 35 5 33 34,xu 36 35,qq 37 36,q8 38 37,wh 39 .add 27 38,qq 41 40,wt 43 3 41 42,xi 44 43,qq 45 44,wt 47 5 45 46,wP 48 47,qq 49 48,q8 50 49,wh 51 .add 39 50,qf 3 51]) (xf 25) 26 25 5 26) (xM 14) 15 14 4 15) (wQ (yw 52) 2 52))⟩
theorem zp:an Tryz.prog jW=some oH:=by kernel_rfl
def nH:FK:=⟨14,xv,qd [yA 1 1,wL 2] (wU [qJ 6 1 1,wY 7 dt 6,yH 5,xr 8 0 5,xr 9 1 5,qX 3 xH,xp 3 8,qf 4 9] (wl [xM 10,xd 11 10] 11 [qL 2 (-1)]) (xV (qJ 12 1 3) (wY 13 jW 12) 2 13))⟩
theorem uR:an Tryz.prog fp=some nH:=by kernel_rfl
def oC:FK:=⟨22,xv,yf [yA 1 1,wL 2] [qJ 6 1 1,wY 7 ff 6,xd 8 7] 8 [qL 2 (-1)] (ym 3 (yu [wP 9 1,qq 10 9,q8 11 10,wL 12] 0 [wI 13 12 11] 13 wv (yv 1 (yp [wt 14 3 10 12,qJ 15 3 14,qX 5 (yE qA qA),qS 3 5 15] [yw 16,qJ 17 3 5,wY 18 fh 17,wh 19 .add 16 18,qf 3 19]) 20 12 12 20)) (wQ (yw 21) 2 21))⟩
theorem zt:an Tryz.prog jR=some oC:=by kernel_rfl
def mZ:FK:=⟨14,xv,qd [yA 1 1,wL 2] (wU [qJ 6 1 1,wY 7 dv 6,yH 5,xr 8 0 5,xr 9 1 5,qX 3 xH,xp 3 8,qf 4 9] (wl [xM 10,xd 11 10] 11 [qL 2 (-1)]) (xV (qJ 12 1 3) (wY 13 jR 12) 2 13))⟩
theorem vp:an Tryz.prog fk=some mZ:=by kernel_rfl
def jN:FK:=⟨6,[xS 2 1],xc [qX 2 xH] [q6 3,wY 4 lz 3,wY 5 mT 4,xp 2 5]⟩
theorem pL:an Tryz.prog eU=some jN:=by kernel_rfl
def lO:FK:=⟨60,xv,yf [xZ] [q6 7,q8 8 7,qx 9 .gtr 8 1048576] 9 [qc 2 wu] (qd [q6 10,wY 11 eU 10,qX 3 xH,xp 3 11] (yf (xV (qJ 12 1 3) (wY 13 fk 12) 4 13) [xM 14,qJ 15 1 3,wY 16 fp 15,wh 17 .neq 14 16,qf 18 17,xe 19 18 4,xP 20 18 .lss 19 ww,xz 21 18 20] 21 [xM 22,qJ 23 1 3,wY 24 fp 23,wh 25 .eql 22 24,qf 26 25,xU 27 26 4,xh 28 26 .eql 27 (qi (-1)),xX 29 26 28,qf 2 29] (ym 5 (yu [wP 30 3,qq 31 30,q8 32 31,wL 33] 0 [wI 34 33 32] 34 wv (yv 1 (wo (wQ (qf 35 33) 6 35) [wP 36 3,qq 37 36,yh 38,xB 39 38,qb 40 (.slS 3 (.t 37) none (some (.t 39))),wq 41 xH [yq 40],wY 42 fk 41,qf 5 42] (wl [xf 43,qx 44 .lss 43 0] 44 [xZ])) 45 33 33 45)) [xf 46,xM 47,wh 48 .eql 46 47,qf 49 48,xU 50 49 4,wT 51 49 0 3,wM 52 49 51,qI 53 49 (qY 52),xh 54 49 .geq 50 (.t 53),xX 55 49 54,qf 56 55,xU 57 56 4,xh 58 56 .leq 57 (qi 800),xX 59 56 58,qf 2 59])))⟩
theorem sT:an Tryz.prog lb=some lO:=by kernel_rfl
end Go.Proofs.YtghpabfdmbdpfaaGreatDoor
