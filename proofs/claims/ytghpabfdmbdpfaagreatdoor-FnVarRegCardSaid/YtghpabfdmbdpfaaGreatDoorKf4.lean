/-
  Contracts and lemmas that the card needs, part 4.
-/
import Derived.Test.YtghpabfdmbdpfaaGreatDoorKf3
import Derived.Test.YtghpabfdmbdpfaaGreatDoorRows
namespace Go.Proofs.YtghpabfdmbdpfaaGreatDoor
open Go Go.Aw
set_option maxRecDepth 100000
abbrev lq:FuncId:=35
abbrev aQ:FuncId:=49
abbrev cJ:FuncId:=41
abbrev di:FuncId:=42
abbrev du:FuncId:=124
abbrev bc:FuncId:=125
abbrev iJ:FuncId:=108
abbrev gM:FuncId:=191
abbrev dE:FuncId:=171
abbrev eJ:FuncId:=172
abbrev iw:FuncId:=173
abbrev ik:FuncId:=145
abbrev bg:FuncId:=107
abbrev gi:FuncId:=71
abbrev bt:FuncId:=27
abbrev kW:FuncId:=198
abbrev lA:FuncId:=192
abbrev oq:FuncId:=174
abbrev gq:FuncId:=193
abbrev nT:FuncId:=175
abbrev cG:FuncId:=146
abbrev jw:FuncId:=194
abbrev jF:FuncId:=202
abbrev gb:FuncId:=199
abbrev iq:FuncId:=200
abbrev fp:FuncId:=195
abbrev jJ:FuncId:=176
abbrev ca:FuncId:=147
abbrev rb:FuncId:=109
abbrev fb:FuncId:=148
abbrev oz:FuncId:=110
abbrev dB:FuncId:=72
abbrev eq:FuncId:=51
abbrev ig:FuncId:=83
abbrev mR:FuncId:=82
abbrev mL:FuncId:=59
abbrev jD:FuncId:=84
abbrev dL:FuncId:=61
abbrev mG:FuncId:=60
abbrev na:FuncId:=34
abbrev jT:FuncId:=149
abbrev bI:FuncId:=150
abbrev dQ:FuncId:=177
abbrev jz:FuncId:=178
abbrev eM:FuncId:=151
abbrev eI:FuncId:=180
abbrev cN:FuncId:=179
abbrev cu:FuncId:=152
abbrev my:FuncId:=111
abbrev fP:FuncId:=73
abbrev mJ:FuncId:=52
abbrev aT:FuncId:=25
abbrev fy:FuncId:=187
abbrev fI:FuncId:=160
abbrev cV:FuncId:=40
abbrev dt:FuncId:=162
abbrev dj:FuncId:=161
abbrev cF:FuncId:=126
abbrev dg:FuncId:=163
abbrev co:FuncId:=127
abbrev cr:FuncId:=188
abbrev bT:FuncId:=164
abbrev gm:FuncId:=189
abbrev jI:FuncId:=141
abbrev ll:FuncId:=201
abbrev gn:FuncId:=197
abbrev fj:FuncId:=190
abbrev jC:FuncId:=166
abbrev cH:FuncId:=165
abbrev cS:FuncId:=129
abbrev dm:FuncId:=38
abbrev fm:FuncId:=167
abbrev lQ:FuncId:=130
abbrev bB:FuncId:=128
abbrev fG:FuncId:=85
abbrev cT:FuncId:=131
abbrev fT:FuncId:=132
abbrev jN:FuncId:=86
abbrev cy:FuncId:=87
abbrev bl:FuncId:=64
abbrev kO:FuncId:=168
abbrev bm:FuncId:=93
abbrev bU:FuncId:=169
abbrev dz:FuncId:=133
abbrev bJ:FuncId:=88
abbrev fx:FuncId:=62
abbrev mu:FuncId:=43
abbrev cm:FuncId:=45
abbrev iX:FuncId:=96
abbrev jB:FuncId:=97
abbrev dT:FuncId:=135
abbrev bz:FuncId:=98
abbrev cD:FuncId:=136
abbrev bX:FuncId:=100
abbrev gF:FuncId:=170
abbrev eC:FuncId:=143
abbrev gU:FuncId:=103
abbrev bS:FuncId:=95
abbrev kx:FuncId:=99
abbrev kM:FuncId:=138
abbrev mv:FuncId:=140
abbrev lc:FuncId:=142
abbrev dH:FuncId:=137
abbrev lL:FuncId:=139
abbrev oo:FuncId:=102
abbrev jZ:FuncId:=101
abbrev kj:FuncId:=104
abbrev mI:FuncId:=69
abbrev js:FuncId:=58
abbrev ju:FuncId:=48
abbrev eG:FuncId:=63
abbrev gt:FuncId:=44
abbrev be:FuncId:=65
abbrev fz:FuncId:=67
abbrev fJ:FuncId:=94
abbrev bk:FuncId:=92
abbrev fh:FuncId:=68
abbrev eE:FuncId:=90
abbrev dU:FuncId:=134
abbrev br:FuncId:=89
abbrev dN:FuncId:=91
abbrev bC:FuncId:=66
abbrev gZ:FuncId:=47
abbrev cU:FuncId:=46
abbrev cx:FuncId:=23
abbrev le:FuncId:=153
abbrev fU:FuncId:=112
abbrev cM:FuncId:=113
abbrev bQ:FuncId:=117
abbrev bY:FuncId:=116
abbrev cI:FuncId:=115
abbrev fk:FuncId:=183
abbrev ja:FuncId:=196
abbrev bA:FuncId:=182
abbrev gT:FuncId:=181
abbrev iy:FuncId:=154
abbrev bH:FuncId:=114
abbrev mb:FuncId:=74
abbrev jv:FuncId:=53
abbrev jH:FuncId:=120
abbrev ic:FuncId:=155
abbrev mZ:FuncId:=156
abbrev oe:FuncId:=118
abbrev iC:FuncId:=119
abbrev lw:FuncId:=75
abbrev je:FuncId:=54
abbrev dA:FuncId:=26
abbrev fg:FuncId:=36
abbrev jE:FuncId:=19
abbrev ey:FuncId:=37
abbrev kw:FuncId:=39
abbrev jG:FuncId:=20
abbrev iH:FuncId:=21
abbrev jm:FuncId:=22
abbrev oQ:FuncId:=8
@[reducible] def qa(a:Nat)(b:Option (Nat × Bool))(c:AI):CO:=⟨some a,b,c⟩
@[reducible] def qb(a:Nat)(b:AI):CO:=qa a none b
@[reducible] def qc(a:Nat)(b:AOp):CO:=qb a (.mov b)
@[reducible] def qd(a:List CO)(b:AK):AK:= .seq (.reg a) b
@[reducible] def qe(a:IntKind)(b:Int):AV:= .p (.int a b)
@[reducible] def qf(a b:Nat):CO:=qc a (.t b)
@[reducible] def qg(a:Int):AV:=qe .i64 a
@[reducible] def qh(a b:Nat):AI:= .fldA a (.t b)
@[reducible] def qi(a:Option Nat)(b:Nat):AI:= .ld a (.t b)
@[reducible] def qj(a:Int):AOp:= .c (qg a)
@[reducible] def qk(a:Nat)(b:Nat × Bool)(c:AI):CO:=qa a (some b) c
@[reducible] def ql(a:BinOp)(b:Nat)(c:AOp):AI:= .bin a (.t b) c
@[reducible] def qm(a:Nat)(b:Option Nat)(c:Nat):CO:=qb a (qi b c)
@[reducible] def qn(a:Nat)(b:FuncId)(c:List AOp):CO:=qb a (.call b c)
@[reducible] def qo(a:Nat)(b c:AK):AK:= .cond (.t a) b c
@[reducible] def qp(a b:Nat):CO:=qm a none b
@[reducible] def qq(a b c:Nat):CO:=qb a (qh b c)
@[reducible] def qt(a:Bool):AV:= .p (.bool a)
@[reducible] def qu(a:Nat)(b:BinOp)(c:Nat)(d:AOp):CO:=qb a (ql b c d)
@[reducible] def qv(a:List UInt8):AV:= .p (.str a)
@[reducible] def qw(a:Option (Nat × Bool))(b:AI):CO:=⟨none,a,b⟩
@[reducible] def qx:AV:=qt false
@[reducible] def qy(a:Nat)(b:BinOp)(c:Nat)(d:Int):CO:=qu a b c (qj d)
@[reducible] def qz(a:Nat):AI:= .nilck (.t a)
@[reducible] def qA(a:List CO):AK:=qd a .ret
@[reducible] def qB:AV:=qg 0
@[reducible] def qC(a:AI):CO:=qw none a
@[reducible] def qD(a:List CO)(b:Nat)(c d:AK):AK:=qd a (qo b c d)
@[reducible] def qF(a b:Nat)(c:Bool)(d:AI):CO:=qk a (b,c) d
@[reducible] def qG(a b:Nat)(c:AI):CO:=qF a b false c
@[reducible] def qH(a b:Nat)(c:AI):CO:=qF a b true c
@[reducible] def qI(a:AOp):AI:= .len false a
@[reducible] def qJ(a:Nat)(b c:AOp):CO:=qC (.st a b c)
@[reducible] def qK(a b c:Nat):CO:=qm a (some b) c
@[reducible] def qL(a:Nat)(b c:AOp):AI:= .pick (.t a) b c
@[reducible] def qM:AV:=qv []
@[reducible] def qN(a:Nat)(b:Int):CO:=qc a (qj b)
@[reducible] def qO(a b:Nat)(c:AOp):AI:= .idxS a (.t b) c
@[reducible] def qP:AOp:= .c qx
@[reducible] def qQ(a:List CO)(b c:AK):AK:=qd a (.seq b c)
@[reducible] def qR(a b:Nat)(c:AOp):CO:=qJ a (.t b) c
@[reducible] def qS(a b c:Nat):CO:=qR a b (.t c)
@[reducible] def qT(a:List CO)(b:Nat)(c:AK):AK:=qD a b c .skip
@[reducible] def qU(a b:Nat)(c:List AV)(d:Nat)(e:List (Nat × Nat × AOp)):CO:=qb a (.bsl b c d e)
@[reducible] def qV(a:Nat)(b:List AV):CO:=qb a (.alloc b)
@[reducible] def qW(a b:Nat):CO:=qb a (qz b)
@[reducible] def qX(a:Nat)(b:AK):AK:= .blk a (.loop b)
@[reducible] def qY(a:Nat):AI:=qI (.t a)
@[reducible] def qZ(a:AK)(b:List CO):AK:= .seq a (.reg b)
@[reducible] def q6(a:Nat):CO:=qf a 0
@[reducible] def q7(a:Nat):AI:=qi none a
@[reducible] def q8:AV:=qt true
@[reducible] def q9(a:Nat):AI:= .not (.t a)
@[reducible] def wa(a b:Nat):CO:=qb a (qY b)
@[reducible] def wb(a:Nat):AI:= .mov (.t a)
@[reducible] def wd(a:Option Nat)(b c:Nat):CO:=qC (.chk a b c)
@[reducible] def we(a b:Nat)(c:Int):CO:=qy a .eql b c
@[reducible] def wg(a b:Nat)(c d:AOp):CO:=qb a (qL b c d)
@[reducible] def wh(a b:Nat):AI:= .box a (.t b)
@[reducible] def wj(a b c:Nat)(d:AOp):CO:=qb a (qO b c d)
@[reducible] def wl(a:List CO)(b:Nat)(c:List CO):AK:=qT a b (qA c)
@[reducible] def wm(a:Nat)(b:BinOp)(c d:Nat):CO:=qu a b c (.t d)
@[reducible] def wn(a b:List CO)(c:AK):AK:=qd a (qd b c)
@[reducible] def wo(a:Nat)(b:AK)(c:List CO):AK:=qZ (.blk a b) c
@[reducible] def wq(a b c d:Nat):CO:=wj a b c (.t d)
@[reducible] def ws(a:Nat)(b:List AV)(c:List (Nat × Nat × AOp)):CO:=qb a (.bld b c)
@[reducible] def wt(a b:Nat)(c:Int):CO:=qy a .add b c
@[reducible] def wu:AOp:= .c q8
@[reducible] def wv:AK:= .exit 0
@[reducible] def ww:AOp:=qj 0
@[reducible] def wx(a b c:Nat):Nat × Nat × AOp:=(a,b,.t c)
@[reducible] def wy(a b c:Nat):CO:=qb a (wh b c)
@[reducible] def wz(a:Nat):CO:=qc a qP
@[reducible] def wA(a:List CO)(b:Nat)(c:AK):AK:=qD a b .skip c
@[reducible] def wB(a:Nat)(b:AOp):List AOp:=[.t a,b]
@[reducible] def wD(a:Nat)(b:FuncId)(c:Nat)(d:AOp):CO:=qn a b (wB c d)
@[reducible] def wE(a:Nat)(b:FuncId)(c d:Nat):CO:=wD a b c (.t d)
@[reducible] def wF(a:List CO)(b:Nat)(c d:AK):AK:= .seq (wA a b c) d
@[reducible] def wG(a:List CO)(b:Nat)(c:AK):AK:=qd a (qX b c)
@[reducible] def wH(a b:Nat):CO:=wd none a b
@[reducible] def wI(a b c:Nat)(d:AOp):AI:= .app a b (.t c) d
@[reducible] def wJ(a b c:Nat):CO:=wm a .lss b c
@[reducible] def wK(a b:Nat):AI:= .ext a (.t b)
@[reducible] def wL(a b:Nat)(c:AOp)(d:Nat):CO:=wg a b c (.t d)
@[reducible] def wM(a b c:Nat):CO:=qH a b (q7 c)
@[reducible] def wN(a:List UInt8):AOp:= .c (qv a)
@[reducible] def wP:AOp:=qj 1
@[reducible] def wQ(a:Nat):CO:=qN a 0
@[reducible] def wR(a b:Nat):CO:=qq a 0 b
@[reducible] def wS(a b c d:Nat):CO:=qH a b (qh c d)
@[reducible] def wT(a:CO)(b c:Nat):List CO:=[a,qf b c]
@[reducible] def wU(a b:Nat)(c:Int)(d e:Nat):List CO:=wT (we a b c) d e
@[reducible] def wV(a b c:Nat):CO:=qG a b (q7 c)
@[reducible] def wW(a:List CO)(b:AK)(c:List CO):AK:=qQ a b (qA c)
@[reducible] def wX(a b c d:Nat):CO:=qG a b (qh c d)
@[reducible] def wY(a b:Nat):Nat × Nat × AOp:=wx a 1 b
@[reducible] def wZ(a:Nat):List AOp:=[.t a]
@[reducible] def xa(a:Nat)(b:FuncId)(c:Nat):CO:=qn a b (wZ c)
@[reducible] def xb(a b:List CO):AK:=qd a (qA b)
@[reducible] def xc(a b:Nat)(c:AOp):CO:=wD a aQ b c
@[reducible] def xd(a b:Nat):CO:=qb a (q9 b)
@[reducible] def xe(a b c:Nat):CO:=qG a b (wb c)
@[reducible] def xf(a:Nat):CO:=qf a 5
@[reducible] def xg(a b c d:Nat):AI:=wI a b c (.t d)
@[reducible] def xh(a b c d e:Nat):CO:=qb a (xg b c d e)
@[reducible] def xi(a b:Nat)(c:FuncId)(d:List AOp):CO:=qG a b (.call c d)
@[reducible] def xj(a b c:Nat):CO:=qb a (wK b c)
@[reducible] def xk(a b c:Nat)(d:AOp):CO:=wg a b (.t c) d
@[reducible] def xl(a b c:Nat):CO:=wE a cJ b c
@[reducible] def xm(a b:Nat)(c:BinOp)(d:Nat)(e:AOp):CO:=qH a b (ql c d e)
@[reducible] def xn(a:Nat):List RV:=[.t a]
@[reducible] def xo(a b:Nat):CO:=qq a 2 b
@[reducible] def xp(a b:Nat):CO:=qS 1 a b
@[reducible] def xq(a:Nat):CO:=qf a 1
@[reducible] def xr(a:List CO)(b:Nat)(c:AK)(d:Nat)(e:AK)(f:List CO):AK:=wF a b c (wo d e f)
@[reducible] def xt:CO:=wz 4
@[reducible] def xu(a b:Nat):CO:=qq a 1 b
@[reducible] def xv(a:Nat)(b:List AOp):CO:=qn a cI b
@[reducible] def xw(a b c:Nat):CO:=wL a b wu c
@[reducible] def xx(a b:Nat)(c:Int):CO:=qy a .sub b c
@[reducible] def xy(a:List CO)(b:Nat)(c:List CO)(d:Nat)(e:AK)(f:Nat)(g:AK)(h:List CO):AK:=wG a b (xr c d e f g h)
@[reducible] def xz(a:Nat)(b:AK):AK:=qo a .skip b
@[reducible] def xA:List RV:=xn 4
@[reducible] def xB:AOp:= .c .nils
@[reducible] def xC:List RV:=xn 2
@[reducible] def xD(a b:Nat):CO:=wt a b 1
@[reducible] def xE(a b:Nat)(c:List AV)(d:Nat)(e:List (Nat × Nat × AOp)):CO:=qb a (.bslP b c d e)
@[reducible] def xF(a:Nat)(b:List AOp):CO:=qn a fz b
@[reducible] def xG:List AV:=[.nils]
@[reducible] def xH(a b:Nat)(c:BinOp)(d:Nat)(e:AOp):CO:=qG a b (ql c d e)
@[reducible] def xI(a b:Nat):CO:=xa a cM b
@[reducible] def xJ:CO:=wQ 4
@[reducible] def xK:AOp:=qj 2
@[reducible] def xL(a b c:Nat):CO:=wE a di b c
@[reducible] def xM(a b:Nat)(c:Int)(d e f:Nat)(g h:AK):AK:=qD (wU a b c d e) f g h
@[reducible] def xN(a:List CO)(b:Nat)(c:List CO):AK:=qT a b (.reg c)
@[reducible] def xO(a:Nat)(b:List AOp):CO:=qn a bQ b
@[reducible] def xP:AOp:=qj 3
@[reducible] def xQ(a b c:Nat):CO:=qH a b (wb c)
@[reducible] def xR(a:Nat):CO:=qf a 4
@[reducible] def xS(a b:Nat):RV:= .c a (some b)
@[reducible] def xT(a:Nat)(b:List AOp):CO:=qn a fh b
@[reducible] def xU(a:Nat)(b c:AOp):List AOp:=[.t a,b,c]
@[reducible] def xV(a:Nat)(b:FuncId)(c:Nat)(d e:AOp):CO:=qn a b (xU c d e)
@[reducible] def xW(a:Nat)(b:FuncId)(c:Nat)(d:AOp)(e:Nat):CO:=xV a b c d (.t e)
@[reducible] def xX(a b c:Nat):CO:=xk a b c qP
@[reducible] def xY(a:FuncId)(b:List AOp):AI:= .mkf (.func a) b
@[reducible] def xZ(a b:CO)(c d:Nat):List CO:=[a,b,qf c d]
@[reducible] def x7(a:CO)(b c d e:Nat):List CO:=xZ a (xD b c) d e
@[reducible] def x8:CO:=wz 2
@[reducible] def x9(a:List CO)(b:Nat)(c:List CO)(d:Nat)(e:AK)(f:Nat)(g:AK)(h:CO)(i j k l:Nat):AK:=xy a b c d e f g (x7 h i j k l)
@[reducible] def ya(a b c:Nat):CO:=qG a b (q9 c)
@[reducible] def yb(a b:Nat):CO:=xa a bY b
@[reducible] def yc(a:List CO)(b:Nat)(c d:AK):AK:=qQ a (xz b c) d
@[reducible] def ye(a b:List CO)(c:Nat)(d:List CO)(e:AK):AK:=qQ a (wl b c d) e
@[reducible] def yf(a:Nat):CO:=qf a 6
@[reducible] def yg(a b:Nat)(c:List AOp):CO:=xi a b bt c
@[reducible] def yh(a:Nat)(b:List AOp):AI:= .callv (.t a) b
@[reducible] def yi(a b c d:Nat):List CO:=wT (xD a b) c d
@[reducible] def yj(a:Nat):Nat × Nat × AOp:=wY 0 a
@[reducible] def yk:CO:=wQ 2
@[reducible] def yl(a b:Nat):Nat × Nat × AOp:=wx 0 a b
@[reducible] def ym(a b:Nat):CO:=qq a 3 b
@[reducible] def yn(a b:Nat)(c:AOp):CO:=wD a iJ b c
@[reducible] def yp(a b c:AK):AK:= .cut a (.cut b c)
@[reducible] def yq:List AV:=[qB]
@[reducible] def yr(a:Nat):CO:=qf a 8
@[reducible] def yt(a:Nat)(b:List AV)(c:Nat)(d:List (Nat × Nat × AOp)):CO:=qU a 1 b c d
@[reducible] def yu(a b:Nat)(c:List (Nat × Nat × AOp)):CO:=yt a yq b c
@[reducible] def yv(a:BinOp)(b:Nat)(c:AOp):AI:= .bins a (.t b) c
@[reducible] def yw(a b:Nat)(c:AOp):CO:=wD a cy b c
@[reducible] def yx(a b:Nat):CO:=wy a b 0
@[reducible] def yy(a b:List CO):AK:=qd a (.reg b)
@[reducible] def yz(a:Nat):CO:=qf a 10
@[reducible] def yA(a:List CO)(b:Nat)(c:List CO)(d:Nat)(e f:AK):AK:=wG a b (yc c d e f)
@[reducible] def yB(a:Nat)(b:AK)(c d e f:Nat):AK:=wo a b (yi c d e f)
@[reducible] def yE(a:Nat):CO:=qf a 7
@[reducible] def yF(a b:Nat)(c:Int):Nat × Nat × AOp:=(a,b,qj c)
@[reducible] def yG(a:Nat)(b:Int):Nat × Nat × AOp:=yF a 1 b
@[reducible] def yH:CO:=q6 12
@[reducible] def yI(a b:AV):List AV:=[a,b,.nils]
@[reducible] def yJ(a:AV):List AV:=yI a .nils
@[reducible] def yK:List AV:=yJ qM
@[reducible] def yM(a b:Nat)(c:FuncId)(d:List AOp):CO:=qH a b (.call c d)
@[reducible] def yN(a b:Nat)(c:List UInt8):Nat × Nat × AOp:=(a,b,wN c)
@[reducible] def yO(a:Nat)(b:List UInt8):Nat × Nat × AOp:=yN a 1 b
@[reducible] def yP(a:Nat)(b:FuncId)(c d e:Nat):CO:=xW a b c (.t d) e
@[reducible] def yQ(a b:Nat):List (Nat × Nat × AOp):=[yl a b]
@[reducible] def yR(a b:Nat)(c:List AV)(d e f:Nat):CO:=qU a b c d (yQ e f)
@[reducible] def yS(a b:Nat):CO:=qK a 4 b
@[reducible] def yT(a:Nat):CO:=qf a 3
@[reducible] def yU:AOp:= .c qM
@[reducible] def yW(a:AK)(b:List CO):AK:= .seq a (qA b)
@[reducible] def yX:CO:=wz 6
def pJ:FK:=⟨11,xC,wW [qc 2 (.c .nilp)] (xN [q6 3,wa 4 3,qy 5 .gtr 4 2000] 5 (xZ (q6 6) (qb 7 (.slS 1 (.t 6) none (some (qj 2000)))) 0 7)) [q6 8,ws 9 [.nils,qB] [yj 8],wy 10 2 9,yz 2]⟩
theorem AY:al Tryz.prog lq=some pJ:=by kernel_rfl
def eN:FK:=⟨99,xA,qd [xJ] (ye [q6 7,q6 8,qW 9 8,xu 10 9,qp 11 10,xD 12 11,qW 13 7,xu 14 13,xp 14 12] [xq 15,qy 16 .lss 15 1,qf 17 16,xe 18 17 0,qG 19 17 (qz 18),wX 20 17 0 19,wV 21 17 20,qG 22 17 (qY 21),xH 23 17 .eql 22 ww,xw 24 17 23] 24 [xJ] (ye [q6 25,qW 26 25,xu 27 26,qp 28 27,xx 29 28 1,qf 5 29] [xf 30,q6 31,qW 32 31,wR 33 32,qp 34 33,wa 35 34,wJ 36 30 35] 36 [q6 37,qW 38 37,wR 39 38,qp 40 39,xf 41,wq 42 1 40 41,qp 43 42,qb 44 (.conv .i64 (.t 43)),xq 45,wm 46 .rem 44 45,qf 4 46] (wn [q6 47,qW 48 47,wR 49 48,xf 51,q6 52,qW 53 52,wR 54 53,q6 62,qW 63 62,wR 64 63,xf 66,qy 67 .mul 66 7,wt 68 67 3,q6 69,qW 70 69,wR 71 70,xf 80,qy 81 .mul 80 29,xf 83,q6 84,qW 85 84,wR 86 85,qp 50 49,qp 55 54,wa 56 55,wm 57 .rem 51 56,wq 58 1 50 57,qp 59 58,qb 60 (.conv .i64 (.t 59)),qy 61 .mul 60 131,qp 65 64,qp 72 71,wa 73 72,wm 74 .rem 68 73,wq 75 1 65 74,qp 76 75,qb 77 (.conv .i64 (.t 76)),qy 78 .mul 77 1117,wm 79 .add 61 78,wm 82 .add 79 81,qp 87 86,wa 88 87,wm 89 .quo 83 88,qy 90 .mul 89 53,wm 91 .add 82 90,qf 6 91] [yf 92,yf 93,qy 94 .quo 93 64,wm 95 .xor 92 94,qf 6 95] (qA [yf 96,xq 97,wm 98 .rem 96 97,qf 4 98]))))⟩
theorem tX:al Tryz.prog aQ=some eN:=by kernel_rfl
def jl:FK:=⟨12,xA,xb [xJ] [xq 5,q6 6,xq 7,wa 8 7,wE 9 aQ 6 8,wq 10 1 5 9,qp 11 10,qf 4 11]⟩
theorem nC:al Tryz.prog cJ=some jl:=by kernel_rfl
def kf:FK:=⟨12,xA,xb [qc 4 yU] [xq 5,q6 6,xq 7,wa 8 7,wE 9 aQ 6 8,wq 10 1 5 9,qp 11 10,qf 4 11]⟩
theorem oO:al Tryz.prog di=some kf:=by kernel_rfl
def fY:FK:=⟨21,[xS 4 4],wW [qV 4 [qB,qB,qM,.nils]] (wl [xq 5,wa 6 5,we 7 6 0,yE 8,xe 9 8 0,xi 10 8 aQ (wB 9 xP),xH 11 8 .eql 10 ww,xw 12 8 11] 12 [q6 13,yu 14 10 [(0,1,ww),(1,1,wP),(2,1,xK),(3,1,xP),yG 4 5,yG 5 7,yG 6 15,yG 7 16,yG 8 100,yG 9 255],xl 15 13 14,ws 16 [qB,qB,qM,.nils] [(0,1,wP),wY 1 15],qS 4 4 16]) [q6 17,xq 18,xL 19 17 18,ws 20 [qB,qB,qM,.nils] [(0,1,xK),wY 2 19],qS 4 4 20]⟩
theorem sj:al Tryz.prog du=some fY:=by kernel_rfl
def er:FK:=⟨47,[xS 6 4],ye [qV 6 [qB,qB,qM,.nils]] [qf 8 2,qy 9 .lss 8 2,qf 10 9,xe 11 10 0,xi 12 10 aQ (wB 11 (qj 4)),xH 13 10 .eql 12 ww,xw 14 10 13] 14 [q6 15,xq 16,wE 17 du 15 16,qS 4 6 17] (.seq (wl [q6 18,xc 19 18 (qj 7),we 20 19 0] 20 [q6 21,yu 22 3 [yG 0 11,yG 1 12,yG 2 11],xl 23 21 22,q6 24,xq 25,qf 26 2,xx 27 26 1,yP 28 bc 24 25 27,yR 29 4 [qB,qB,qM,.nils] 1 4 28,ws 30 [qB,qB,qM,.nils] [yj 23,wY 3 29],qS 4 6 30]) (xb [q6 31,yu 32 9 [(0,1,xP),(1,1,xP),yG 2 4,yG 3 5,yG 4 6,yG 5 7,yG 6 8,yG 7 9,yG 8 10],xl 33 31 32,qf 7 33] [yE 34,q6 35,xq 36,qf 37 2,xx 38 37 1,yP 39 bc 35 36 38,q6 40,xq 41,qf 42 2,xx 43 42 1,yP 44 bc 40 41 43,qU 45 4 [qB,qB,qM,.nils] 2 [yl 4 39,wx 4 4 44],ws 46 [qB,qB,qM,.nils] [yj 34,wY 3 45],qS 4 6 46]))⟩
theorem mS:al Tryz.prog bc=some er:=by kernel_rfl
def lX:FK:=⟨99,[xS 4 4],qd [qV 4 [qB,qB,qM,.nils]] (ye [qc 5 (.c .any),q6 9,qW 10 9,wR 11 10,q6 13,qW 14 13,xo 15 14,xq 17,qp 12 11,qp 16 15,yP 18 bc 12 16 17,qV 5 [qB,qB,qM,.nils],qS 4 5 18] [q6 19,qW 20 19,xu 21 20,qp 22 21,wa 23 22,we 24 23 0,qf 25 24,xe 26 25 0,qG 27 25 (qz 26),wX 28 25 0 27,wV 29 25 28,xi 30 25 aQ (wB 29 (qj 4)),xH 31 25 .gtr 30 ww,xw 32 25 31] 32 [yS 33 5,qS 4 4 33] (qd [qc 6 (.c .any),q6 34,qW 35 34,xu 36 35,q6 38,qW 39 38,wR 40 39,q6 42,qW 43 42,xu 44 43,qp 37 36,qp 41 40,qp 45 44,wa 46 45,wE 47 aQ 41 46,wH 36 37,wq 48 3 37 47,qK 49 3 48,qV 6 yK,qS 3 6 49] (qQ [wR 50 6,qp 51 50,ws 52 [qB,qB,qM,.nils] [yG 0 13,wY 2 51],qV 7 [qB,qB,qM,.nils],qS 4 7 52] (x9 [wQ 8] 0 [yr 53,xu 54 6,qp 55 54,wa 56 55,wJ 57 53 56] 57 wv 1 (.reg [ym 60 7,q6 62,qW 63 62,wR 64 63,q6 66,qW 67 66,xo 68 67,qp 61 60,qp 65 64,qp 69 68,xV 70 bc 65 (.t 69) xK,wH 60 61,xE 71 4 [qB,qB,qM,.nils] 1 (yQ 4 70),xh 72 4 56 61 71,ym 73 7,xp 73 72]) (yr 58) 59 58 8 59) (yW (wl [q6 74,qW 75 74,wR 76 75,qp 77 76,xc 78 77 xK,we 79 78 0] 79 [yS 80 7,qS 4 4 80]) [q6 81,qW 82 81,wR 83 82,xE 85 1 yq 4 [(0,1,xP),yG 1 4,yG 2 8,yG 3 10],q6 88,qW 89 88,wR 90 89,q6 92,qW 93 92,xo 94 93,qp 84 83,yS 87 7,qp 91 90,qp 95 94,xl 86 84 85,wd (some 4) 7 87,wH 90 91,wH 94 95,xV 96 bc 91 (.t 95) xK,wd (some 4) 7 87,qU 97 4 [qB,qB,qM,.nils] 2 [yl 4 87,wx 4 4 96],ws 98 [qB,qB,qM,.nils] [yj 86,wY 3 97],qS 4 4 98]))))⟩
theorem tQ:al Tryz.prog iJ=some lX:=by kernel_rfl
def lh:FK:=⟨46,xC,qd [qc 2 yU] (wW [q6 3,q6 4,qW 5 4,ym 6 5,qp 7 6,xD 8 7,qW 9 3,ym 10 9,xp 10 8] (wl [q6 11,qW 12 11,wR 13 12,qp 14 13,xc 15 14 (qj 9),we 16 15 0,qf 17 16,xQ 18 17 0,qH 19 17 (qz 18),wS 20 17 2 19,wM 21 17 20,qH 22 17 (qY 21),xm 23 17 .gtr 22 ww,xX 24 17 23] 24 [q6 25,qW 26 25,wR 27 26,q6 29,qW 30 29,xo 31 30,qp 28 27,qp 32 31,xL 33 28 32,qf 2 33]) [q6 34,qW 35 34,ym 36 35,q6 39,qW 40 39,ym 41 40,qp 37 36,qy 38 .rem 37 24,qp 42 41,qy 43 .rem 42 24,xD 44 43,qb 45 (.slStr (wN [97,98,99,100,101,103,104,105,106,107,108,109,110,112,113,114,115,116,117,118,119,120,121,122]) (some (.t 38)) (some (.t 44))),qf 2 45])⟩
theorem sV:al Tryz.prog gM=some lh:=by kernel_rfl
def jc:FK:=⟨24,[xS 4 5],wn [wy 3 4 1,qV 4 [qB,qM,.nils,.nils,.nils]] (xZ (q6 6) (xa 7 gM 6) 5 7) (xb [q6 8,yt 9 [qM] 0 [],q6 10,qW 11 10,xo 12 11,qp 13 12,xh 14 1 16 9 13,xf 15,yt 16 [qM] 1 [yj 15],xh 17 1 16 14 16,qW 18 8,xo 19 18,xp 19 17] [xf 20,yS 21 3,yR 22 4 [qB,qB,qM,.nils] 1 4 21,ws 23 [qB,qM,.nils,.nils,.nils] [(0,1,wP),wY 1 20,wY 2 22],qS 5 4 23])⟩
theorem nH:al Tryz.prog dE=some jc:=by kernel_rfl
def me:FK:=⟨14,[xS 2 4],xb [qV 2 [qB,qB,qM,.nils]] [q6 3,q6 5,qW 6 5,wR 7 6,xE 9 1 yq 6 [yG 0 16,yG 1 16,yG 2 16,yG 3 8,yG 4 17,(5,1,ww)],qp 8 7,yn 4 3 xK,wH 7 8,xl 10 8 9,ws 11 [qB,qB,qM,.nils] [(0,1,wP),wY 1 10],qU 12 4 [qB,qB,qM,.nils] 2 [yl 4 4,wx 4 4 11],ws 13 [qB,qB,qM,.nils] [yG 0 7,wY 3 12],qS 4 2 13]⟩
theorem tI:al Tryz.prog eJ=some me:=by kernel_rfl
def io:AK:=wn [qc 4 xB] [q6 9,q6 10,qW 11 10,wR 12 11,qp 13 12,yu 14 5 [(0,1,xK),(1,1,xP),(2,1,wP),(3,1,ww),yG 4 5],xl 15 13 14,ws 16 [qB,qB,qM,.nils] [(0,1,wP),wY 1 15],wE 17 dE 9 16,qV 5 [qB,qM,.nils,.nils,.nils],qS 5 5 17] (wn [xu 18 5,qp 19 18,ws 20 [qB,qB,qM,.nils] [(0,1,xK),wY 2 19],qV 6 [qB,qB,qM,.nils],qS 4 6 20] [q6 21,xq 22,xx 23 22 1,wE 24 bg 21 23,qf 7 24] (qd [xu 25 5,qp 26 25,yS 27 6,ws 28 [qB,qB,qM,.nils] [(0,1,wP),(1,1,wP)],qU 29 4 [qB,qB,qM,.nils] 2 [yl 4 27,wx 4 4 28],ws 30 [qB,qB,qM,.nils] [yG 0 4,wY 3 29],yR 31 4 [qB,qB,qM,.nils] 1 4 30,ws 32 [qB,qM,.nils,.nils,.nils] [(0,1,xK),wY 1 26,wY 2 31],qV 8 [qB,qM,.nils,.nils,.nils],qS 5 8 32] (.cut (.reg [q6 33,q6 34,qW 35 34,qq 36 4 35,qp 37 36,xx 38 37 2,qW 39 33,qq 40 4 39,xp 40 38]) (qA [yE 44,qK 41 5 5,yS 42 6,xE 43 4 [qB,qB,qM,.nils] 1 (yQ 4 42),qK 45 5 8,xE 46 5 [qB,qM,.nils,.nils,.nils] 1 (yQ 5 45),xh 47 5 96 44 46,wd (some 5) 5 41,wd (some 4) 6 42,ws 48 [qB,qM,.nils,.nils,.nils] [yG 0 6,wY 2 43,wY 3 47],qU 49 5 [qB,qM,.nils,.nils,.nils] 2 [yl 5 41,wx 5 5 48],qf 4 49]))))
def il:FK:=⟨50,xA,(AK.whole io)⟩
theorem tV:al Tryz.prog iw=some il:=by kernel_rfl
def mA:FK:=⟨128,xA,wn [qc 4 xB] [q6 7,q6 8,qW 9 8,qq 10 4 9,qp 11 10,xx 12 11 1,qW 13 7,qq 14 4 13,xp 14 12] (wW [q6 15,qW 16 15,wR 17 16,qp 18 17,xc 19 18 (qj 13),qf 5 19] (.blk 0 (qD [xf 21,qy 22 .lss 21 3,qf 23 22,xQ 24 23 0,qH 25 23 (qz 24),wS 26 23 2 25,wM 27 23 26,qH 28 23 (qY 27),xm 29 23 .gtr 28 ww,xX 30 23 29,qf 20 30] 20 (qA [q6 31,qW 32 31,wR 33 32,q6 35,qW 36 35,xo 37 36,q6 40,qp 34 33,qp 38 37,xL 39 34 38,yn 41 40 xP,yR 42 4 [qB,qB,qM,.nils] 1 4 41,ws 43 [qB,qM,.nils,.nils,.nils] [(0,1,xK),wY 1 39,wY 2 42],yR 44 5 [qB,qM,.nils,.nils,.nils] 1 5 43,qf 4 44]) (qD (xZ (xf 46) (qy 47 .lss 46 5) 45 47) 45 (qA [q6 48,q6 49,yn 50 49 xP,wE 51 dE 48 50,yR 52 5 [qB,qM,.nils,.nils,.nils] 1 5 51,qf 4 52]) (qD [xf 54,qy 55 .lss 54 7,qf 56 55,xe 57 56 1,xH 58 56 .lss 57 xK,xw 59 56 58,qf 53 59] 53 (qA [q6 60,yn 61 60 xP,yR 62 4 [qB,qB,qM,.nils] 1 4 61,ws 63 [qB,qM,.nils,.nils,.nils] [(0,1,xP),wY 2 62],yR 64 5 [qB,qM,.nils,.nils,.nils] 1 5 63,qf 4 64]) (qD (xZ (xf 66) (we 67 66 7) 65 67) 65 (qA [q6 68,xa 69 eJ 68,q6 70,yn 71 70 xK,qU 72 4 [qB,qB,qM,.nils] 2 [yl 4 69,wx 4 4 71],ws 73 [qB,qM,.nils,.nils,.nils] [yG 0 4,wY 2 72],yR 74 5 [qB,qM,.nils,.nils,.nils] 1 5 73,qf 4 74]) (qD (xZ (xf 76) (we 77 76 8) 75 77) 75 (qA [q6 78,xa 79 eJ 78,yR 80 4 [qB,qB,qM,.nils] 1 4 79,ws 81 [qB,qB,qM,.nils] [yG 0 12,wY 3 80],yR 82 4 [qB,qB,qM,.nils] 1 4 81,ws 83 [qB,qM,.nils,.nils,.nils] [(0,1,xP),wY 2 82],yR 84 5 [qB,qM,.nils,.nils,.nils] 1 5 83,qf 4 84]) (qD (xZ (xf 86) (qy 87 .lss 86 11) 85 87) 85 (wW [q6 88,yn 89 88 xP,yR 90 4 [qB,qB,qM,.nils] 1 4 89,q6 91,xq 92,xx 93 92 1,wE 94 bg 91 93,ws 95 [qB,qM,.nils,.nils,.nils] [yG 0 5,wY 2 90,wY 3 94],qV 6 [qB,qM,.nils,.nils,.nils],qS 5 6 95] (xN [q6 96,qW 97 96,wR 98 97,qp 99 98,xc 100 99 xK,we 101 100 0] 101 [q6 102,xq 103,xx 104 103 1,wE 105 bg 102 104,qq 106 4 6,xp 106 105]) (xZ (qK 107 5 6) (yR 108 5 [qB,qM,.nils,.nils,.nils] 1 5 107) 4 108)) (wl [xf 110,we 111 110 11,qf 112 111,xQ 113 112 0,qH 114 112 (qz 113),wS 115 112 0 114,wM 116 112 115,yM 117 112 aQ (wB 116 xP),xm 118 112 .eql 117 ww,xX 119 112 118,qf 109 119] 109 [q6 120,yn 121 120 xK,yR 122 4 [qB,qB,qM,.nils] 1 4 121,ws 123 [qB,qM,.nils,.nils,.nils] [yG 0 7,wY 2 122],yR 124 5 [qB,qM,.nils,.nils,.nils] 1 5 123,qf 4 124])))))))) [q6 125,xq 126,wE 127 iw 125 126,qf 4 127])⟩
theorem uz:al Tryz.prog ik=some mA:=by kernel_rfl
def lK:FK:=⟨40,xA,wn [qc 4 xB] [q6 8,qW 9 8,xo 10 9,qp 11 10,qf 5 11] (qQ (wT (qU 12 5 [qB,qM,.nils,.nils,.nils] 0 []) 6 12) (xy [q6 13,qW 14 13,wR 15 14,qp 16 15,yu 17 4 [(0,1,xK),(1,1,xP),(2,1,wP),yG 3 4],xl 18 16 17,qf 7 18] 0 [yE 19,qy 20 .gtr 19 0,qf 21 20,xQ 22 21 0,qH 23 21 (qz 22),wS 24 21 4 23,wM 25 21 24,xm 26 21 .gtr 25 ww,xX 27 21 26] 27 wv 1 (.reg [yf 30,q6 31,xq 32,wE 33 ik 31 32,xh 34 5 96 30 33,qf 6 34]) (xZ (yE 28) (xx 29 28 1) 7 29)) (xb [q6 35,xf 36,qW 37 35,xo 38 37,xp 38 36] (wT (yf 39) 4 39)))⟩
theorem tj:al Tryz.prog bg=some lK:=by kernel_rfl
def kh:AK:=wn [qV 6 yK] [q6 8,yt 9 [qM] 3 [yO 0 [97],yO 1 [98],yO 2 [99]],qf 10 2,qb 11 (.slS 1 (.t 9) none (some (.t 10))),qW 12 8,xo 13 12,xp 13 11] (qd [q6 14,qf 15 2,xx 16 15 1,qW 17 14,ym 18 17,xp 18 16] (.cut (.reg [xq 19,yt 20 [qM] 0 [],q6 21,qW 22 21,xo 23 22,qp 24 23,xh 25 1 16 20 24,ws 26 yK [yj 19,wY 1 25],qV 7 yK,qS 3 7 26]) (wW [q6 27,wD 28 bg 27 xP,xo 29 7,xp 29 28] (qT [q6 30,qW 31 30,qq 32 4 31,qp 33 32,qy 34 .gtr 33 0,qf 35 34,xQ 36 35 0,qH 37 35 (qz 36),wS 38 35 0 37,wM 39 35 38,yM 40 35 aQ (wB 39 (qj 4)),xm 41 35 .gtr 40 ww,xX 42 35 41] 42 (yy [q6 43,q6 44,qW 45 44,qq 46 4 45,qp 47 46,xx 48 47 1,qW 49 43,qq 50 4 49,xp 50 48] [xo 51 7,q6 53,qp 52 51,yn 54 53 xK,wH 51 52,xE 55 4 [qB,qB,qM,.nils] 1 (yQ 4 54),ws 56 [qB,qM,.nils,.nils,.nils] [yG 0 7,wY 2 55],xE 57 5 [qB,qM,.nils,.nils,.nils] 1 (yQ 5 56),xh 58 5 96 52 57,xo 59 7,xp 59 58])) [qK 60 3 7,qS 3 6 60])))
def ka:FK:=⟨61,[xS 6 3],(AK.whole kh)⟩
theorem zE:al Tryz.prog gi=some ka:=by kernel_rfl
def pO:FK:=⟨15,xn 6,xb [yX] [q6 7,xq 8,wm 9 .geq 7 8,qf 10 9,xQ 11 10 0,xQ 12 10 2,xm 13 10 .leq 11 (.t 12),xX 14 10 13,qf 6 14]⟩
theorem Fq:al Tryz.prog bt=some pO:=by kernel_rfl
def pM:FK:=⟨18,xA,wW [xJ] (x9 [wQ 5] 0 [xf 6,q6 7,qb 8 (.len true (.t 7)),wJ 9 6 8] 9 wv 1 (wl [yH,xf 13,qb 14 (.idxStr (.t 12) (.t 13)),xq 15,wm 16 .eql 14 15] 16 (wT (xf 17) 4 17)) (xf 10) 11 10 5 11) [qN 4 (-1)]⟩
theorem AD:al Tryz.prog kW=some pM:=by kernel_rfl
def pt:FK:=⟨28,xC,wW [yk] (.blk 0 (qD [q6 4,qu 5 .geq 4 (.c (qe .u8 97)),xf 6,xQ 7 6 0,xm 8 6 .leq 7 (.c (qe .u8 122)),xX 9 6 8,qf 3 9] 3 (qA [qN 2 1]) (qD [q6 11,qu 12 .geq 11 (.c (qe .u8 48)),qf 13 12,xQ 14 13 0,xm 15 13 .leq 14 (.c (qe .u8 57)),xX 16 13 15,qf 10 16] 10 (qA [qN 2 2]) (qD [q6 18,qn 19 kW [wN [40,41,123,125,59,44,43,45,42,47,37,60,61,38,33,64],.t 18],qy 20 .geq 19 0,qf 17 20] 17 (qA [qN 2 3]) (wl [q6 22,qu 23 .eql 22 (.c (qe .u8 32)),qf 24 23,xe 25 24 0,xH 26 24 .eql 25 (.c (qe .u8 10)),xw 27 24 26,qf 21 27] 21 [qN 2 4]))))) [yk]⟩
theorem Ch:al Tryz.prog lA=some pt:=by kernel_rfl
def us:FK:=⟨21,xA,wW [xt] (x9 [wQ 5] 0 [xf 6,q6 7,qb 8 (.len true (.t 7)),wJ 9 6 8] 9 wv 1 (wl [yH,xf 13,qb 14 (.idxStr (.t 12) (.t 13)),xa 15 lA 14,xq 16,wm 17 .neq 15 16] 17 [xt]) (xf 10) 11 10 5 11) [q6 18,qb 19 (.len true (.t 18)),qy 20 .gtr 19 0,qf 4 20]⟩
theorem DE:al Tryz.prog oq=some us:=by kernel_rfl
def oT:FK:=⟨2,xn 0,xb [qc 0 xB] (wT (yt 1 [qM] 9 [yO 0 [102,110],yO 1 [108,101,116],yO 2 [115,97,121],yO 3 [112,117,116],yO 4 [105,102],yO 5 [101,108,115,101],yO 6 [108,111,111,112],yO 7 [98,97,99,107],yO 8 [100,111]]) 0 1)⟩
theorem zn:al Tryz.prog gq=some oT:=by kernel_rfl
def ue:FK:=⟨18,xC,qd [x8] (wW (wT (qn 5 gq []) 3 5) (x9 [xJ] 0 [xR 6,yT 7,wa 8 7,wJ 9 6 8] 9 wv 1 (wl [yT 12,xR 13,wq 14 1 12 13,qp 15 14,q6 16,qb 17 (yv .eql 15 (.t 16))] 17 [qc 2 wu]) (xR 10) 11 10 4 11) [x8])⟩
theorem Ei:al Tryz.prog nT=some ue:=by kernel_rfl
def rV:FK:=⟨15,xC,xb [x8] [q6 3,wD 4 oq 3 wP,xR 5,xQ 6 5 0,qH 7 5 (.len true (.t 6)),xm 8 5 .leq 7 (qj 4),xX 9 5 8,qf 10 9,xQ 11 10 0,yM 12 10 nT (wZ 11),qH 13 10 (q9 12),xX 14 10 13,qf 2 14]⟩
theorem CS:al Tryz.prog cG=some rV:=by kernel_rfl
def mQ:FK:=⟨5,xC,wW [yk] (wl [q6 3,we 4 3 4] 4 [qN 2 2]) [qN 2 1]⟩
theorem CJ:al Tryz.prog jw=some mQ:=by kernel_rfl
def dv:FK:=⟨13,[.t 2,.t 3],wW [yk,wQ 3] (qd [q6 4] (.blk 0 (wF (wU 6 4 1 5 6) 5 (.reg (wU 7 4 2 5 7)) (qo 5 (qA [yk,wQ 3]) (wF (wU 9 4 11 8 9) 8 (.reg (wU 10 4 12 8 10)) (qo 8 (qA [qN 2 1,qN 3 1]) (wl (wU 12 4 13 11 12) 11 [yk,qN 3 3]))))))) [qN 2 2,qN 3 2]⟩
theorem CB:al Tryz.prog jF=some dv:=by kernel_rfl
def jK:FK:=⟨86,xA,qd [yx 2 4,xt] (ye [wR 10 2,qp 11 10,xa 12 jF 11,qf 9 12,xj 13 0 9,xj 14 1 9,qf 5 13,qf 6 14] [xq 15,qy 16 .lss 15 1,qf 17 16,wX 18 17 0 2,wV 19 17 18,yg 20 17 (xU 19 wP (qj 13)),ya 21 17 20,xw 22 17 21,qf 23 22,wX 24 23 3 2,wV 25 23 24,qG 26 23 (qY 25),xe 27 23 5,xe 28 23 6,yg 29 23 (xU 26 (.t 27) (.t 28)),ya 30 23 29,xw 31 23 30] 31 [xt] (ye [wR 32 2,qp 33 32,we 34 33 2,qf 35 34,wX 36 35 0 2,wV 37 35 36,xH 38 35 .eql 37 (qj 13),xw 39 35 38,qf 7 39] [yE 40,xo 41 2,qp 42 41,xa 43 cG 42,qb 44 (.beq true (.t 40) (.t 43)),qf 45 44,xe 46 45 7,ya 47 45 46,xe 48 45 47,wS 49 48 2 2,wM 50 48 49,qH 51 48 (yv .neq 50 yU),qG 52 45 (qL 48 (.t 51) qP),xw 53 45 52,qf 54 53,wX 55 54 1 2,wV 56 54 55,yg 57 54 (xU 56 ww (qj 255)),ya 58 54 57,xw 59 54 58,qf 60 59,wX 61 60 0 2,wV 62 60 61,xH 63 60 .neq 62 wP,xe 64 60 63,wS 65 64 1 2,wM 66 64 65,xm 67 64 .neq 66 ww,qG 68 60 (qL 64 (.t 67) qP),xw 69 60 68] 69 [xt] (yW (x9 [wQ 8] 0 [yr 70,ym 71 2,qp 72 71,wa 73 72,wJ 74 70 73] 74 wv 1 (wl [ym 77 2,qp 78 77,yr 79,wq 80 4 78 79,yS 81 80,xq 82,xx 83 82 1,wE 84 gb 81 83,xd 85 84] 85 [xt]) (yr 75) 76 75 8 76) [qc 4 wu])))⟩
theorem sr:al Tryz.prog gb=some jK:=by kernel_rfl
def pS:FK:=⟨21,xC,qd [yx 1 4,yk] (wW [qN 3 1] (x9 [xJ] 0 [xR 5,ym 6 1,qp 7 6,wa 8 7,wJ 9 5 8] 9 wv 1 (.reg [yT 12,ym 13 1,qp 14 13,xR 15,wq 16 4 14 15,yS 17 16,xa 18 iq 17,wm 19 .add 12 18,qf 3 19]) (xR 10) 11 10 4 11) (wT (yT 20) 2 20))⟩
theorem AG:al Tryz.prog iq=some pS:=by kernel_rfl
def nu:FK:=⟨10,xC,xb [yx 1 4,x8] [yS 3 1,wD 4 gb 3 (qj 6),xR 5,qH 6 5 (qi (some 4) 1),yM 7 5 iq (wZ 6),xm 8 5 .leq 7 (qj 30),xX 9 5 8,qf 2 9]⟩
theorem vj:al Tryz.prog fp=some nu:=by kernel_rfl
def jA:FK:=⟨108,xA,ye [yx 2 5,xt] [xq 7,qy 8 .lss 7 1,yr 9,wX 10 9 0 2,wV 11 9 10,yg 12 9 (xU 11 wP (qj 8)),ya 13 9 12,xw 14 9 13,qf 15 14,wX 16 15 2 2,wX 19 15 0 2,wV 17 15 16,qG 18 15 (qY 17),wV 20 15 19,qG 21 15 (.qcall jw (wZ 20)),xH 22 15 .neq 18 (.t 21),xw 23 15 22] 23 [xt] (ye [wR 24 2,qp 25 24,we 26 25 1,qf 27 26,wX 28 27 0 2,wV 29 27 28,xH 30 27 .eql 29 xK,xw 31 27 30,qf 5 31] [xf 32,xu 33 2,qp 34 33,xa 35 cG 34,qb 36 (.beq true (.t 32) (.t 35)),qf 37 36,xe 38 37 5,ya 39 37 38,xe 40 37 39,wS 41 40 1 2,wM 42 40 41,qH 43 40 (yv .neq 42 yU),qG 44 37 (qL 40 (.t 43) qP),xw 45 37 44] 45 [xt] (.seq (x9 [wQ 6] 0 [yf 46,xo 47 2,qp 48 47,wa 49 48,wJ 50 46 49] 50 wv 1 (wl [xo 53 2,qp 54 53,yf 55,wq 56 4 54 55,yS 57 56,xa 58 fp 57,xd 59 58] 59 [xt]) (yf 51) 52 51 6 52) (.seq (wl [wR 60 2,qp 61 60,we 62 61 8,qf 63 62,wS 64 63 2 2,wM 65 63 64,qH 66 63 (qO 4 65 ww),wS 67 63 0 66,wM 68 63 67,xm 69 63 .neq 68 (qj 13),xX 70 63 69] 70 [xt]) (yW (wl [qq 71 4 2,qp 72 71,wa 73 72,qy 74 .gtr 73 0,qf 75 74,wS 76 75 0 2,wM 77 75 76,xm 78 75 .neq 77 (qj 5),xX 79 75 78,qf 80 79,wX 81 80 3 2,wV 82 80 81,qG 83 80 (qY 82),xH 84 80 .gtr 83 ww,xe 85 80 84,wS 86 85 0 2,wM 87 85 86,xm 88 85 .neq 87 (qj 5),qG 89 80 (qL 85 (.t 88) qP),xe 90 80 89,wS 91 90 0 2,wM 92 90 91,xm 93 90 .neq 92 (qj 6),qG 94 80 (qL 90 (.t 93) qP),xw 95 80 94] 95 [xt]) [ym 96 2,qp 97 96,xq 98,xx 99 98 1,wE 100 ca 97 99,qf 101 100,wS 102 101 4 2,wM 103 101 102,xQ 104 101 1,xm 105 101 .sub 104 wP,yM 106 101 ca (wB 103 (.t 105)),xX 107 101 106,qf 4 107]))))⟩
theorem su:al Tryz.prog jJ=some jA:=by kernel_rfl
def pZ:FK:=⟨19,xA,wW [xt] (x9 [wQ 5] 0 [xf 6,q6 7,wa 8 7,wJ 9 6 8] 9 wv 1 (wl [yH,xf 13,wq 14 5 12 13,qK 15 5 14,xq 16,wE 17 jJ 15 16,xd 18 17] 18 [xt]) (xf 10) 11 10 5 11) [qc 4 wu]⟩
theorem Cc:al Tryz.prog ca=some pZ:=by kernel_rfl
def vV:FK:=⟨32,xC,wW [yx 1 3,x8] (x9 [wQ 3] 0 [yT 4,xu 5 1,qp 6 5,wa 7 6,wJ 8 4 7] 8 wv 1 (wl [xu 11 1,qp 12 11,yT 13,wq 14 1 12 13,qp 15 14,xa 16 cG 15,xd 17 16] 17 [x8]) (yT 9) 10 9 3 10) [wR 18 1,qp 19 18,xa 20 cG 19,qf 21 20,wS 22 21 1 1,wM 23 21 22,qH 24 21 (qY 23),xm 25 21 .leq 24 xP,xX 26 21 25,qf 27 26,wS 28 27 2 1,wM 29 27 28,yM 30 27 ca (wB 29 (qj 4)),xX 31 27 30,qf 2 31]⟩
theorem Ft:al Tryz.prog rb=some vV:=by kernel_rfl
def lz:FK:=⟨29,xC,qd [yk] (wW (xZ (q6 5) (wa 6 5) 3 6) (x9 [xJ] 0 [xR 7,q6 8,wa 9 8,wJ 10 7 9] 10 wv 1 (.reg [yT 13,q6 14,xR 15,wq 16 5 14 15,ym 17 16,q6 21,xR 22,wq 23 5 21 22,qq 24 4 23,qp 18 17,qp 25 24,xa 19 fb 18,wH 24 25,wm 20 .add 13 19,xa 26 fb 25,wm 27 .add 20 26,qf 3 27]) (xR 11) 12 11 4 12) (wT (yT 28) 2 28))⟩
theorem pY:al Tryz.prog fb=some lz:=by kernel_rfl
def uj:FK:=⟨22,xC,qd [yx 1 1,yk] (wW [wQ 3] (x9 [xJ] 0 [xR 5,wR 6 1,qp 7 6,wa 8 7,wJ 9 5 8] 9 wv 1 (.reg [yT 12,wR 13 1,qp 14 13,xR 15,wq 16 3 14 15,xo 17 16,qp 18 17,xa 19 fb 18,wm 20 .add 12 19,qf 3 20]) (xR 10) 11 10 4 11) (wT (yT 21) 2 21))⟩
theorem EF:al Tryz.prog oz=some uj:=by kernel_rfl
def kG:FK:=⟨26,xC,ye [yx 1 1,x8] [wR 4 1,qp 5 4,wa 6 5,xV 7 bt 6 wP (qj 4),xd 8 7] 8 [x8] (yW (x9 [wQ 3] 0 [yT 9,wR 10 1,qp 11 10,wa 12 11,wJ 13 9 12] 13 wv 1 (wl [wR 16 1,qp 17 16,yT 18,wq 19 3 17 18,qK 20 3 19,xa 21 rb 20,xd 22 21] 22 [x8]) (yT 14) 15 14 3 15) [qK 23 1 1,xa 24 oz 23,qy 25 .leq 24 40,qf 2 25])⟩
theorem rJ:al Tryz.prog dB=some kG:=by kernel_rfl
def sv:FK:=⟨69,[xS 2 1],qd [qV 2 xG] (qQ [q6 8,q6 9,yu 10 4 [yG 0 14,yG 1 20,yG 2 8,yG 3 26],xl 11 9 10,ws 12 [.nilp,.nils,.nils,qB,qB] [yj 8,wY 4 11],wy 13 5 12,qf 3 13] (xy [q6 14,yu 15 4 [(0,1,ww),(1,1,wP),(2,1,wP),(3,1,xK)],xl 16 14 15,qf 4 16] 0 [xR 17,qy 18 .gtr 17 0] 18 wv 1 (yy [qc 5 (.c .any),yT 21,xE 22 1 [qM] 3 [yO 0 [102],yO 1 [103],yO 2 [104]],yT 23,qW 24 23,xu 25 24,q6 30,qp 26 25,wa 27 26,wq 28 1 22 27,qp 29 28,xc 31 30 xP,wH 25 26,wH 28 29,yP 32 gi 21 29 31,qV 5 yK,qS 3 5 32] [yT 33,yT 34,qW 35 34,xu 36 35,qp 37 36,qK 38 3 5,xE 39 3 yK 1 (yQ 3 38),xh 40 3 64 37 39,qW 41 33,xu 42 41,xp 42 40]) (xZ (xR 19) (xx 20 19 1) 4 20)) (qd [yT 43,q6 44,yu 45 4 [(0,1,ww),(1,1,wP),(2,1,xK),(3,1,wP)],xl 46 44 45,xW 47 gi 43 (wN [109]) 46,qV 6 yK,qS 3 6 47] (wW [qc 7 (.c .any),yT 49,qW 50 49,xu 51 50,qp 52 51,qK 54 3 6,xE 55 3 yK 1 (yQ 3 54),qU 48 3 yK 0 [],wH 51 52,wd (some 3) 6 54,xh 53 3 64 48 52,wd (some 3) 6 54,xh 56 3 64 53 55,ws 57 xG [yj 56],qV 7 xG,xp 7 57] (wl [qK 58 1 7,xa 59 dB 58,xd 60 59] 60 [ws 61 [qB,qB,qM,.nils] [(0,1,wP),(1,1,wP)],yR 62 4 [qB,qB,qM,.nils] 1 4 61,ws 63 [qB,qM,.nils,.nils,.nils] [(0,1,xP),wY 2 62],yR 64 5 [qB,qM,.nils,.nils,.nils] 1 5 63,ws 65 yK [yO 0 [109],wY 2 64],yR 66 3 yK 1 3 65,ws 67 xG [yj 66],xp 2 67]) [qK 68 1 7,xp 2 68])))⟩
theorem Cw:al Tryz.prog eq=some sv:=by kernel_rfl
def uB:FK:=⟨42,[xS 4 4],qd [qV 4 [qB,qB,qM,.nils]] (ye [q6 8,yt 9 [qM] 4 [yO 0 [97],yO 1 [98],yO 2 [120],yO 3 [103,111]],xq 10,yP 11 bc 8 9 10,qV 5 [qB,qB,qM,.nils],qS 4 5 11] [yH,xc 13 12 xP,qy 14 .gtr 13 0] 14 [yS 15 5,qS 4 4 15] (qQ [q6 16,yt 17 [qM] 3 [yO 0 [102],yO 1 [103],yO 2 [97]],xL 18 16 17,ws 19 [qB,qB,qM,.nils] [yG 0 13,wY 2 18],qV 6 [qB,qB,qM,.nils],qS 4 6 19] (xy (xZ (q6 20) (xc 21 20 (qj 4)) 7 21) 0 [yE 22,qy 23 .gtr 22 0] 23 wv 1 (.reg [ym 26 6,q6 28,xE 29 1 [qM] 2 [yO 0 [97],yO 1 [98]],qp 27 26,xV 30 bc 28 (.t 29) xK,wH 26 27,xE 31 4 [qB,qB,qM,.nils] 1 (yQ 4 30),xh 32 4 56 27 31,ym 33 6,xp 33 32]) (xZ (yE 24) (xx 25 24 1) 7 25)) (yW (wl [q6 34,xc 35 34 xK,we 36 35 0] 36 [yS 37 6,qS 4 4 37]) [yS 38 5,yS 39 6,qU 40 4 [qB,qB,qM,.nils] 2 [yl 4 38,wx 4 4 39],ws 41 [qB,qB,qM,.nils] [(0,1,xP),wY 3 40],qS 4 4 41])))⟩
theorem DK:al Tryz.prog ig=some uB:=by kernel_rfl
def sF:FK:=⟨40,[xS 2 4],qd [qV 2 [qB,qB,qM,.nils]] (wW [q6 4,wD 5 ig 4 (qj 4),qV 3 [qB,qB,qM,.nils],qS 4 3 5] (qd [q6 6,xc 7 6 (qj 20)] (.blk 0 (xM 9 7 0 8 9 8 (.reg [q6 10,yu 11 3 [yG 0 (-1),yG 1 256,(2,1,xP)],xl 12 10 11,xu 13 3,xp 13 12]) (xM 15 7 1 14 15 14 (.reg [q6 16,yt 17 [qM] 5 [(0,1,yU),yO 1 [100,111],yO 2 [65],yO 3 [97,98,99,100,101],yO 4 [113]],xL 18 16 17,xo 19 3,xp 19 18]) (xM 21 7 2 20 21 20 (.reg [q6 22,yu 23 5 [(0,1,ww),yG 1 14,yG 2 (-1),yG 3 5,yG 4 11],xl 24 22 23,wR 25 3,xp 25 24]) (xM 27 7 3 26 27 26 (.reg [ym 28 3,q6 30,qp 29 28,wD 31 du 30 xB,wH 28 29,xE 32 4 [qB,qB,qM,.nils] 1 (yQ 4 31),xh 33 4 56 29 32,ym 34 3,xp 34 33]) (xN (wU 36 7 4 35 36) 35 [q6 37,wD 38 ig 37 (qj 7),qS 4 3 38]))))))) [yS 39 3,qS 4 2 39])⟩
theorem Ct:al Tryz.prog mR=some sF:=by kernel_rfl
def mE:AK:=wn [qV 2 xG] [q6 9,xa 10 eq 9,qV 3 xG,xp 3 10] (qd [wR 11 3,qp 12 11,wR 13 3,qp 14 13,wa 15 14,xx 16 15 1,wq 17 3 12 16,qK 18 3 17,qV 4 yK,qS 3 4 18] (.cut (qd [q6 19,xc 20 19 (qj 32)] (.blk 0 (xM 22 20 0 21 22 21 (.reg [q6 23,yt 24 [qM] 4 [yO 0 [102],yO 1 [100,111],(2,1,yU),yO 3 [103]],xL 25 23 24,wR 26 4,xp 26 25]) (xM 28 20 1 27 28 27 (.reg [yt 29 [qM] 0 [],xu 30 4,qp 31 30,xh 32 1 16 29 31,q6 33,yt 34 [qM] 3 [yO 0 [97],yO 1 [120],yO 2 [105,102]],xL 35 33 34,yt 36 [qM] 1 [yj 35],xh 37 1 16 32 36,xu 38 4,xp 38 37]) (xM 40 20 2 39 40 39 (.reg [qU 41 5 [qB,qM,.nils,.nils,.nils] 0 [],xo 42 4,qp 43 42,xh 44 5 96 41 43,q6 45,xa 46 mR 45,yR 47 4 [qB,qB,qM,.nils] 1 4 46,ws 48 [qB,qM,.nils,.nils,.nils] [(0,1,xP),wY 2 47],yR 49 5 [qB,qM,.nils,.nils,.nils] 1 5 48,xh 50 5 96 44 49,xo 51 4,xp 51 50]) (xM 53 20 3 52 53 52 (.reg [qU 54 5 [qB,qM,.nils,.nils,.nils] 0 [],xo 55 4,qp 56 55,xh 57 5 96 54 56,q6 58,xc 59 58 (qj 10),q6 60,yt 61 [qM] 3 [(0,1,yU),yO 1 [97],yO 2 [122,122]],xL 62 60 61,q6 63,wD 64 ig 63 xK,yR 65 4 [qB,qB,qM,.nils] 1 4 64,ws 66 [qB,qM,.nils,.nils,.nils] [yj 59,wY 1 62,wY 2 65],yR 67 5 [qB,qM,.nils,.nils,.nils] 1 5 66,xh 68 5 96 57 67,xo 69 4,xp 69 68]) (xM 71 20 4 70 71 70 (qd [ws 72 [qB,qB,qM,.nils] [(0,1,wP)],yR 73 4 [qB,qB,qM,.nils] 1 4 72,ws 74 [qB,qM,.nils,.nils,.nils] [yG 0 6,wY 2 73],qV 5 [qB,qM,.nils,.nils,.nils],qS 5 5 74] (.cut (xy (xZ (q6 75) (xc 76 75 (qj 5)) 6 76) 1 [yf 77,qy 78 .gtr 77 0] 78 (.exit 1) 2 (.reg [q6 81,xE 82 1 yq 2 [yG 0 5,yG 1 6],xo 84 5,qp 85 84,qK 86 5 5,xE 87 5 [qB,qM,.nils,.nils,.nils] 1 (yQ 5 86),xl 83 81 82,wH 84 85,wd (some 5) 5 86,ws 88 [qB,qM,.nils,.nils,.nils] [yj 83,wY 2 85,wY 3 87],qS 5 5 88]) (xZ (yf 79) (xx 80 79 1) 6 80)) (.reg [xo 90 4,qp 91 90,qK 93 5 5,xE 94 5 [qB,qM,.nils,.nils,.nils] 1 (yQ 5 93),qU 89 5 [qB,qM,.nils,.nils,.nils] 0 [],wH 90 91,wd (some 5) 5 93,xh 92 5 96 89 91,wd (some 5) 5 93,xh 95 5 96 92 94,xo 96 4,xp 96 95]))) (xM 98 20 5 97 98 97 (qA [ws 99 xG [],xp 2 99]) (xM 101 20 6 100 101 100 (xy [q6 102,yu 103 3 [yG 0 20,yG 1 40,yG 2 41],xl 104 102 103,qf 7 104] 3 [yE 105,qy 106 .gtr 105 0] 106 (.exit 3) 4 (.reg [qU 109 5 [qB,qM,.nils,.nils,.nils] 0 [],xo 110 4,qp 111 110,xh 112 5 96 109 111,yE 113,ws 114 [qB,qB,qM,.nils] [(0,1,wP),wY 1 113],yR 115 4 [qB,qB,qM,.nils] 1 4 114,ws 116 [qB,qM,.nils,.nils,.nils] [(0,1,xP),wY 2 115],yR 117 5 [qB,qM,.nils,.nils,.nils] 1 5 116,xh 118 5 96 112 117,xo 119 4,xp 119 118]) (xZ (yE 107) (xx 108 107 1) 7 108)) (wl (wU 121 20 7 120 121) 120 [wR 123 3,wR 126 3,qp 124 123,qp 127 126,wj 128 3 127 ww,qK 129 3 128,xE 130 3 yK 1 (yQ 3 129),qU 122 3 yK 0 [],wH 123 124,wH 126 127,wd (some 3) 128 129,xh 125 3 64 122 124,wH 126 127,wd (some 3) 128 129,xh 131 3 64 125 130,ws 132 xG [yj 131],xp 2 132])))))))))) (wn [qU 133 3 yK 0 [],wR 134 3,qp 135 134,xh 136 3 64 133 135,qf 8 136] [yr 137,yr 138,wa 139 138,xx 140 139 1,qK 141 3 4,wq 142 3 137 140,qS 3 142 141] (qA [yr 143,ws 144 xG [yj 143],xp 2 144]))))
def mH:FK:=⟨145,[xS 2 1],(AK.whole mE)⟩
theorem Cn:al Tryz.prog mL=some mH:=by kernel_rfl
def sA:FK:=⟨25,[xS 2 4],qd [yx 1 4,qV 2 [qB,qB,qM,.nils]] (qQ (wT (qU 5 4 [qB,qB,qM,.nils] 0 []) 3 5) (x9 [xJ] 0 [xR 6,ym 7 1,qp 8 7,wa 9 8,wJ 10 6 9] 10 wv 1 (.reg [yT 13,ym 14 1,qp 15 14,xR 16,wq 17 4 15 16,yS 18 17,xa 19 jD 18,yR 20 4 [qB,qB,qM,.nils] 1 4 19,xh 21 4 56 13 20,qf 3 21]) (xR 11) 12 11 4 12) (xb [yT 22,ym 23 1,xp 23 22] [yS 24 1,qS 4 2 24]))⟩
theorem CM:al Tryz.prog jD=some sA:=by kernel_rfl
def po:FK:=⟨52,xC,qd [qc 2 xB] (wW (wT (qU 8 5 [qB,qM,.nils,.nils,.nils] 0 []) 3 8) (x9 [xJ] 0 [xR 9,q6 10,wa 11 10,wJ 12 9 11] 12 wv 1 (qd [q6 15,xR 16,wq 17 5 15 16,qK 18 5 17,qV 5 [qB,qM,.nils,.nils,.nils],qS 5 5 18] (qQ (wT (qU 19 4 [qB,qB,qM,.nils] 0 []) 6 19) (x9 [wQ 7] 2 [yE 20,xo 21 5,qp 22 21,wa 23 22,wJ 24 20 23] 24 (.exit 2) 3 (.reg [yf 27,xo 28 5,qp 29 28,yE 30,wq 31 4 29 30,yS 32 31,xa 33 jD 32,yR 34 4 [qB,qB,qM,.nils] 1 4 33,xh 35 4 56 27 34,qf 6 35]) (yE 25) 26 25 7 26) (.reg [yT 36,wR 37 5,xu 39 5,yf 41,ym 42 5,qq 45 4 5,qp 38 37,qp 40 39,qp 43 42,qp 46 45,xa 44 dL 43,wH 37 38,wH 39 40,wH 45 46,xa 47 dL 46,wH 37 38,wH 39 40,ws 48 [qB,qM,.nils,.nils,.nils] [yj 38,wY 1 40,wY 2 41,wY 3 44,wY 4 47],yR 49 5 [qB,qM,.nils,.nils,.nils] 1 5 48,xh 50 5 96 36 49,qf 3 50]))) (xR 13) 14 13 4 14) (wT (yT 51) 2 51))⟩
theorem AF:al Tryz.prog dL=some po:=by kernel_rfl
def rW:FK:=⟨35,[xS 2 1],qd [yx 1 1,qV 2 xG] (wW [ws 6 xG [],qV 3 xG,xp 3 6] (x9 [xJ] 0 [xR 7,wR 8 1,qp 9 8,wa 10 9,wJ 11 7 10] 11 wv 1 (yy [wR 14 1,qp 15 14,xR 16,wq 17 3 15 16,qK 18 3 17,qV 5 yK,qS 3 5 18] [wR 19 3,wR 21 5,xu 24 5,xo 27 5,qp 20 19,qp 22 21,qp 25 24,qp 28 27,yt 23 [qM] 0 [],wH 19 20,wH 21 22,wH 24 25,wH 27 28,xh 26 1 16 23 25,wH 19 20,wH 21 22,wH 27 28,xa 29 dL 28,wH 19 20,wH 21 22,ws 30 yK [yj 22,wY 1 26,wY 2 29],yR 31 3 yK 1 3 30,wH 19 20,xh 32 3 64 20 31,wR 33 3,xp 33 32]) (xR 12) 13 12 4 13) [qK 34 1 3,xp 2 34])⟩
theorem Cz:al Tryz.prog mG=some rW:=by kernel_rfl
def sB:FK:=⟨104,[xS 2 1],qd [qV 2 xG] (ye [q6 7,xa 8 eq 7,qV 3 xG,xp 3 8] [q6 9,xc 10 9 (qj 5),qy 11 .gtr 10 2] 11 [qK 12 1 3,xp 2 12] (.seq (wl [q6 13,xc 14 13 (qj 6),we 15 14 0] 15 [q6 16,xa 17 mL 16,xp 2 17]) (qd [qK 18 1 3,xa 19 mG 18,xp 3 19] (ye [wR 20 3,q6 22,wR 23 3,qp 21 20,qp 24 23,wa 25 24,wE 26 aQ 22 25,wH 20 21,wq 27 3 21 26,qf 4 27] [xR 28,qW 29 28,xo 30 29,qp 31 30,wa 32 31,we 33 32 0] 33 [qK 34 1 3,xp 2 34] (qd [xR 35,qW 36 35,xo 37 36,q6 39,xR 40,qW 41 40,xo 42 41,qp 38 37,qp 43 42,wa 44 43,wE 45 aQ 39 44,wH 37 38,wq 46 5 38 45,qf 5 46] (qQ [q6 47,yt 48 [qM] 5 [yO 0 [122,122],yO 1 [97],yO 2 [98],yO 3 [99],yO 4 [100]],xL 49 47 48,ws 50 [qB,qB,qM,.nils] [(0,1,xK),wY 2 49],qV 6 [qB,qB,qM,.nils],qS 4 6 50] (qd [q6 51,xc 52 51 (qj 4)] (.blk 0 (xM 54 52 0 53 54 53 (.reg [q6 55,yt 56 [qM] 4 [yO 0 [102],yO 1 [103],yO 2 [109],yO 3 [113]],xL 57 55 56,ws 58 [qB,qB,qM,.nils] [(0,1,wP),(1,1,wP)],yR 59 4 [qB,qB,qM,.nils] 1 4 58,ws 60 [qB,qB,qM,.nils] [yG 0 13,wY 2 57,wY 3 59],qS 4 6 60]) (xM 62 52 1 61 62 61 (yW (xN [xf 63,qW 64 63,xu 65 64,qp 66 65,qb 67 (yv .neq 66 yU)] 67 [xf 68,q6 69,yt 70 [qM] 5 [yO 0 [97],yO 1 [98],yO 2 [122,122],yO 3 [99],yO 4 [100]],xL 71 69 70,qW 72 68,xu 73 72,xp 73 71]) [qK 74 1 3,xp 2 74]) (qT (wU 76 52 2 75 76) 75 (xb [xR 77,xR 78,qW 79 78,xo 80 79,xR 82,qW 83 82,xo 84 83,qp 81 80,qp 85 84,qb 86 (.slS 5 (.t 85) none (some wP)),xa 87 dL 86,wH 80 81,xh 88 5 96 81 87,qW 89 77,xo 90 89,xp 90 88] [qK 91 1 3,xp 2 91])))))) (yW (xN [xf 92,qW 93 92,wR 94 93,qp 95 94,qy 96 .neq 95 8] 96 [xf 97,qW 98 97,xo 99 98,qp 100 99,yS 101 6,wj 102 4 100 ww,qS 4 102 101]) [qK 103 1 3,xp 2 103])))))))⟩
theorem Cl:al Tryz.prog na=some sB:=by kernel_rfl
def vS:FK:=⟨22,xA,wW [yx 2 1,xJ] (x9 [wQ 5] 0 [xf 6,wR 7 2,qp 8 7,wa 9 8,wJ 10 6 9] 10 wv 1 (wl [wR 13 2,qp 14 13,xf 15,wq 16 3 14 15,wR 17 16,qp 18 17,xq 19,qb 20 (yv .eql 18 (.t 19))] 20 (wT (xf 21) 4 21)) (xf 11) 12 11 5 12) [qN 4 (-1)]⟩
theorem Gz:al Tryz.prog jT=some vS:=by kernel_rfl
def gG:FK:=⟨13,[],xN [q6 4,qW 5 4,qq 6 4 5,qp 7 6,we 8 7 0] 8 [q6 9,xq 10,qW 11 9,qq 12 4 11,xp 12 10]⟩
theorem sX:al Tryz.prog bI=some gG:=by kernel_rfl
def gB:FK:=⟨27,xA,wW [xJ] (xy [q6 6,qW 7 6,xo 8 7,qp 9 8,wa 10 9,xx 11 10 1,qf 5 11] 0 [xf 12,qy 13 .geq 12 0] 13 wv 1 (wl [q6 16,qW 17 16,xo 18 17,qp 19 18,xf 20,wq 21 3 19 20,wR 22 21,qp 23 22,xq 24,qb 25 (yv .eql 23 (.t 24))] 25 (wT (xf 26) 4 26)) (xZ (xf 14) (xx 15 14 1) 5 15)) [qN 4 (-1)]⟩
theorem tm:al Tryz.prog dQ=some gB:=by kernel_rfl
def rZ:FK:=⟨11,xC,wn [qc 2 yU] [q6 4,qy 5 .rem 4 26,xf 3] (qA [yT 6,yT 7,xD 8 7,qb 9 (.slStr (wN [97,98,99,100,101,102,103,104,105,106,107,108,109,110,111,112,113,114,115,116,117,118,119,120,121,122]) (some (.t 6)) (some (.t 8))),qb 10 (.bins .add (wN [118]) (.t 9)),yz 2])⟩
theorem CF:al Tryz.prog jz=some rZ:=by kernel_rfl
def iK:AK:=wn [qc 6 yU] [q6 8,xq 9,wE 10 dQ 8 9,yz 7] (.cut (xN [yE 11,qy 12 .geq 11 0,qf 13 12,xQ 14 13 0,qH 15 13 (qz 14),wS 16 13 2 15,wM 17 13 16,xQ 18 13 7,qH 19 13 (qO 3 17 (.t 18)),wS 20 13 2 19,wM 21 13 20,xQ 22 13 2,xm 23 13 .eql 21 (.t 22),xX 24 13 23] 24 [q6 25,wD 26 bI 25 xK]) (wn [q6 27,q6 28,qW 29 28,xo 30 29,xq 32,q6 33,qW 34 33,ym 35 34,qf 37 2,qp 31 30,qp 36 35,ws 38 [qM,qB,qB] [yj 32,wY 1 36,wY 2 37],xE 39 3 [qM,qB,qB] 1 (yQ 3 38),xh 40 3 32 31 39,qW 41 27,xo 42 41,xp 42 40] [q6 43,q6 44,qW 45 44,ym 46 45,qp 47 46,xD 48 47,qW 49 43,ym 50 49,xp 50 48] (qA [q6 51,qW 52 51,ym 53 52,qp 54 53,xx 55 54 1,xa 56 jz 55,qf 6 56])))
def iF:FK:=⟨57,xn 6,(AK.whole iK)⟩
theorem tT:al Tryz.prog eM=some iF:=by kernel_rfl
def mm:FK:=⟨23,xA,qd [qc 4 yU] (wW [q6 6,xq 7,wE 8 dQ 6 7,yr 5] (qT [xf 9,qy 10 .lss 9 0] 10 (xb [q6 11,wD 12 bI 11 xP] (wT (xq 13) 4 13))) [q6 14,qW 15 14,xo 16 15,qp 17 16,xf 18,wq 19 3 17 18,xu 20 19,qp 21 20,xa 22 jz 21,qf 4 22])⟩
theorem tH:al Tryz.prog eI=some mm:=by kernel_rfl
def gz:AK:=qd [wy 3 4 1,qV 4 [qB,qB,qM,.nils]] (yp (xN [wR 8 3,qp 9 8,we 10 9 2] 10 [q6 11,xo 12 3,qp 13 12,wE 14 eI 11 13,xo 15 3,xp 15 14]) (qT [wR 16 3,qp 17 16,we 18 17 13] 18 (qd [q6 19,qW 20 19,wR 21 20,xo 23 3,qK 22 1 21,qp 24 23,wE 25 jT 22 24,qf 5 25] (qD [xf 26,qy 27 .lss 26 0,qf 28 27,xe 29 28 5,xe 30 28 0,qG 31 28 (qz 30),wX 32 28 1 31,wV 33 28 32,xH 34 28 .geq 29 (.t 33),xw 35 28 34] 35 (.reg [q6 36,wD 37 bI 36 (qj 4)]) (xN [q6 38,qW 39 38,wR 40 39,wR 41 40,xf 43,ym 48 3,qp 42 41,wq 44 3 42 43,xu 45 44,qp 46 45,wa 47 46,qp 49 48,wa 50 49,wm 51 .neq 47 50] 51 [q6 52,wD 53 bI 52 (qj 5)])))) (qQ (wT (qU 54 4 [qB,qB,qM,.nils] 0 []) 6 54) (x9 [wQ 7] 0 [yE 55,ym 56 3,qp 57 56,wa 58 57,wJ 59 55 58] 59 wv 1 (.reg [yf 62,q6 63,ym 64 3,qp 65 64,yE 66,wq 67 4 65 66,yS 68 67,wE 69 cN 63 68,yR 70 4 [qB,qB,qM,.nils] 1 4 69,xh 71 4 56 62 70,qf 6 71]) (yE 60) 61 60 7 61) (xb [yf 72,ym 73 3,xp 73 72] [yS 74 3,qS 4 4 74])))
def gA:FK:=⟨75,[xS 4 4],(AK.whole gz)⟩
theorem sU:al Tryz.prog cN=some gA:=by kernel_rfl
def fL:AK:=wn [qc 6 xB] (wT (qU 13 5 [qB,qM,.nils,.nils,.nils] 0 []) 7 13) (qQ [q6 14,qW 15 14,xo 16 15,qp 17 16,wa 18 17,qf 8 18] (x9 [wQ 9] 0 [qf 19 9,xq 20,wa 21 20,wJ 22 19 21] 22 wv 1 (qd [xq 25,qf 26 9,wq 27 5 25 26,qK 28 5 27,qV 10 [qB,qM,.nils,.nils,.nils],qS 5 10 28] (qQ (wT (qU 29 4 [qB,qB,qM,.nils] 0 []) 11 29) (x9 [wQ 12] 2 [qf 30 12,xo 31 10,qp 32 31,wa 33 32,wJ 34 30 33] 34 (.exit 2) 3 (.reg [qf 37 11,q6 38,xo 39 10,qp 40 39,qf 41 12,wq 42 4 40 41,yS 43 42,wE 44 cN 38 43,yR 45 4 [qB,qB,qM,.nils] 1 4 44,xh 46 4 56 37 45,qf 11 46]) (qf 35 12) 36 35 12 36) (yp (.reg [qf 47 11,xo 48 10,xp 48 47]) (xN [wR 49 10,qp 50 49,we 51 50 1] 51 [q6 52,xu 53 10,qp 54 53,qf 55 2,yP 56 eM 52 54 55,xu 57 10,xp 57 56]) (.cut (xN [wR 58 10,qp 59 58,we 60 59 2] 60 [q6 61,xu 62 10,qp 63 62,wE 64 eI 61 63,xu 65 10,xp 65 64]) (wn [q6 66,ym 67 10,qp 68 67,qf 69 2,xD 70 69,yP 71 cu 66 68 70,ym 72 10,xp 72 71] [q6 73,qq 74 4 10,qp 75 74,qf 76 2,xD 77 76,yP 78 cu 73 75 77,qq 79 4 10,xp 79 78] (.reg [yE 80,qK 81 5 10,yR 82 5 [qB,qM,.nils,.nils,.nils] 1 5 81,xh 83 5 96 80 82,qf 7 83])))))) (qf 23 9) 24 23 9 24) (.cut (xN [qf 84 2,qy 85 .gtr 84 0] 85 [q6 86,q6 87,qW 88 87,xo 89 88,qp 90 89,yr 91,qb 92 (.slS 3 (.t 90) none (some (.t 91))),qW 93 86,xo 94 93,xp 94 92]) (qA (wT (yE 95) 6 95))))
def fO:FK:=⟨96,xn 6,(AK.whole fL)⟩
theorem rz:al Tryz.prog cu=some fO:=by kernel_rfl
def pR:AK:=wn [yx 2 1,qV 4 yK,wQ 5,wQ 6] [qK 11 1 2,xq 12,ws 13 [.nils,qB,.nils,qB,qB] [yj 11,wY 1 12],wy 14 5 13,qf 7 14] (yp (.reg [wR 15 2,qp 16 15,xq 17,wq 18 3 16 17,qK 19 3 18,qV 8 yK,qS 3 8 19]) (xN [qK 20 1 2,wR 21 8,qp 22 21,wE 23 jT 20 22,xq 24,wm 25 .neq 23 24] 25 [yE 26,wD 27 bI 26 xK]) (qQ (wT (yt 28 [qM] 0 []) 9 28) (x9 [wQ 10] 0 [yz 29,xu 30 8,qp 31 30,wa 32 31,wJ 33 29 32] 33 wv 1 (.reg [qf 36 9,yE 37,xu 38 8,qp 39 38,yz 40,wq 41 1 39 40,qp 42 41,xV 43 eM 37 (.t 42) ww,yt 44 [qM] 1 [yj 43],xh 45 1 16 36 44,qf 9 45]) (yz 34) 35 34 10 35) (wn [qf 46 9,xu 47 8,xp 47 46] [yE 48,xo 49 8,qp 50 49,xV 51 cu 48 (.t 50) ww,xo 52 8,xp 52 51] (qA [yE 54,qW 55 54,qq 56 4 55,yE 58,qW 59 58,ym 60 59,qK 53 3 8,qp 57 56,qp 61 60,qS 3 4 53,wH 56 57,wH 60 61,qf 5 57,qf 6 61]))))
def ri:FK:=⟨62,[xS 4 3,.t 5,.t 6],(AK.whole pR)⟩
theorem Fx:al Tryz.prog my=some ri:=by kernel_rfl
def ky:FK:=⟨27,xC,ye [yx 1 1,yk] [qK 7 1 1,xa 8 dB 7,xd 9 8] 9 [qN 2 1] (yW (x9 [wQ 3] 0 [yT 10,wR 11 1,qp 12 11,wa 13 12,wJ 14 10 13] 14 wv 1 (qd [qK 18 1 1,yT 19,wE 20 my 18 19,qf 17 20,xj 21 0 17,xj 22 1 17,xj 23 2 17,qV 4 yK,qS 3 4 21,qf 5 22,qf 6 23] (wl [xf 24,qy 25 .neq 24 0] 25 (wT (xf 26) 2 26))) (yT 15) 16 15 3 16) [yk])⟩
theorem rT:al Tryz.prog fP=some ky:=by kernel_rfl
def sg:FK:=⟨6,xC,xb [yx 1 1,x8] [qK 3 1 1,xa 4 fP 3,we 5 4 0,xf 2]⟩
theorem CG:al Tryz.prog mJ=some sg:=by kernel_rfl
def mV:FK:=⟨15,xn 6,xb [yX] [xq 7,q6 8,wm 9 .leq 7 8,qf 10 9,xQ 11 10 0,xQ 12 10 2,xm 13 10 .leq 11 (.t 12),xX 14 10 13,qf 6 14]⟩
theorem CN:al Tryz.prog aT=some mV:=by kernel_rfl
def kF:FK:=⟨21,xn 6,wW [wQ 6] (yA [q6 9,qb 10 (.rngS (.t 9))] 0 [qb 11 (.nxtS (.t 10)),xj 12 0 11] 12 wv (.blk 1 (qd [xj 13 1 11,xj 14 2 11,qf 7 13,qf 8 14] (wl [xq 15,yr 16,qb 17 (yh 15 (wZ 16)),qf 18 2,qb 19 (.beq false (.t 17) (.t 18))] 19 (wT (yE 20) 6 20))))) [qN 6 (-1)]⟩
theorem rE:al Tryz.prog fy=some kF:=by kernel_rfl
def kA:FK:=⟨8,xA,xb [xJ] [q6 5,xq 6,xV 7 fy 5 (.t 6) wu,yE 4]⟩
theorem rU:al Tryz.prog fI=some kA:=by kernel_rfl
def iT:FK:=⟨19,xA,wW [xJ] (yA [q6 6,wa 7 6,wQ 8] 0 [wJ 9 8 7] 9 wv (yB 1 (qd (wT (yr 10) 5 10) (wl [xq 11,yH,xf 13,wq 14 1 12 13,qp 15 14,qb 16 (yv .eql 11 (.t 15))] 16 (wT (xf 17) 4 17))) 18 8 8 18)) [qN 4 (-1)]⟩
theorem oX:al Tryz.prog cV=some iT:=by kernel_rfl
def ga:FK:=⟨9,xA,xb [xt] [q6 5,xq 6,wE 7 cV 5 6,qy 8 .geq 7 0,yr 4]⟩
theorem mP:al Tryz.prog dt=some ga:=by kernel_rfl
def oL:FK:=⟨9,xC,xb [x8] [q6 3,qu 4 .lss 3 (.c (qe .i32 97)),xR 5,xe 6 5 0,xH 7 5 .gtr 6 (.c (qe .i32 122)),xw 8 5 7,yr 2]⟩
theorem zw:al Tryz.prog dj=some oL:=by kernel_rfl
def sf:FK:=⟨17,xC,xb [x8] [q6 3,qb 4 (.len true (.t 3)),xV 5 aT 4 wP (qj 4),xf 6,xQ 7 6 0,yM 8 6 fI (wB 7 (.c (.fn (.func dj) []))),xm 9 6 .lss 8 ww,xX 10 6 9,yz 11,qH 12 11 (.slA 9 1 (.c (.gp 0 0)) none none),xQ 13 11 0,yM 14 11 dt (wB 12 (.t 13)),qH 15 11 (q9 14),xX 16 11 15,qf 2 16]⟩
theorem CI:al Tryz.prog cF=some sf:=by kernel_rfl
def ft:FK:=⟨19,xA,wW [xJ] (yA [q6 6,wa 7 6,wQ 8] 0 [wJ 9 8 7] 9 wv (yB 1 (qd (wT (yr 10) 5 10) (wl [xq 11,yH,xf 13,wq 14 1 12 13,qp 15 14,qb 16 (yh 11 (wZ 15))] 16 (wT (xf 17) 4 17))) 18 8 8 18)) [qN 4 (-1)]⟩
theorem lS:al Tryz.prog dg=some ft:=by kernel_rfl
def dZ:FK:=⟨9,xA,xb [xt] [q6 5,xq 6,wE 7 dg 5 6,qy 8 .geq 7 0,yr 4]⟩
theorem ko:al Tryz.prog co=some dZ:=by kernel_rfl
def dY:FK:=⟨19,xA,wW [xJ] (yA [q6 6,wa 7 6,wQ 8] 0 [wJ 9 8 7] 9 wv (yB 1 (qd (wT (yr 10) 5 10) (wl [xq 11,yH,xf 13,wq 14 5 12 13,qK 15 5 14,qb 16 (yh 11 (wZ 15))] 16 (wT (xf 17) 4 17))) 18 8 8 18)) [qN 4 (-1)]⟩
theorem ki:al Tryz.prog cr=some dY:=by kernel_rfl
def dw:FK:=⟨9,xA,xb [xt] [q6 5,xq 6,wE 7 cr 5 6,qy 8 .geq 7 0,yr 4]⟩
theorem iM:al Tryz.prog bT=some dw:=by kernel_rfl
def bu:FK:=⟨20,[.t 2,.t 3,.t 4,.t 5],wW [yk,wz 3,xt,wz 5] (qd [q6 6] (.blk 0 (wF (wU 8 6 1 7 8) 7 (.reg (wU 9 6 2 7 9)) (qo 7 (qA [qN 2 1,qc 3 wu,xt,wz 5]) (wF (wU 11 6 3 10 11) 10 (wA (wU 12 6 7 10 12) 10 (.reg (wU 13 6 8 10 13))) (qo 10 (qA [qN 2 1,wz 3,xt,wz 5]) (xM 15 6 4 14 15 14 (qA [qN 2 2,wz 3,xt,wz 5]) (xM 17 6 5 16 17 16 (qA [qN 2 1,wz 3,qc 4 wu,qc 5 wu]) (wl (wU 19 6 6 18 19) 18 [qN 2 1,wz 3,qc 4 wu,wz 5]))))))))) [qN 2 (-1),wz 3,xt,wz 5]⟩
theorem zl:al Tryz.prog gm=some bu:=by kernel_rfl
def sD:FK:=⟨5,xC,xb [x8] [q6 3,xV 4 aT 3 ww (qj 255),xR 2]⟩
theorem Co:al Tryz.prog jI=some sD:=by kernel_rfl
def eV:FK:=⟨20,xC,wW [yk] (.blk 0 (qD [qb 4 (.ld none (.c (.gp 1 0))),q6 5,qb 6 (.lk 0 (.agg [qM,qB]) false (.t 4) (.t 5)),qb 7 (.fldv 1 none (.t 6)),qy 8 .gtr 7 0,yr 3] 3 (qA [qb 9 (.ld none (.c (.gp 1 0))),q6 10,qb 11 (.lk 0 (.agg [qM,qB]) false (.t 9) (.t 10)),qb 12 (.fldv 1 none (.t 11)),qf 2 12]) (wl [q6 14,we 15 14 11,qf 16 15,xe 17 16 0,xH 18 16 .eql 17 (qj 12),xw 19 16 18,qf 13 19] 13 [qN 2 5]))) [qN 2 6]⟩
theorem By:al Tryz.prog ll=some eV:=by kernel_rfl
def jY:AK:=wn [yx 2 4,xJ,wQ 5,yX] [wQ 7,wQ 8] (yp (.blk 0 (qD [wR 17 2,qp 18 17,we 19 18 1,qf 16 19] 16 (wl [xu 20 2,qp 21 20,xa 22 jI 21,xd 23 22,qf 24 23,wX 25 24 2 2,wV 26 24 25,qG 27 24 (yv .neq 26 yU),xw 28 24 27] 28 [xJ,wQ 5,yX]) (qD [wR 30 2,qp 31 30,we 32 31 2,qf 29 32] 29 (wl [xo 33 2,qp 34 33,xa 35 cF 34,xd 36 35,qf 37 36,wX 38 37 1 2,wV 39 37 38,xH 40 37 .neq 39 ww,xw 41 37 40] 41 [xJ,wQ 5,yX]) (qD [wR 43 2,qp 44 43,we 45 44 13,qf 42 45] 42 (qd [qN 8 3] (wl [xo 46 2,qp 47 46,xa 48 cF 47,xd 49 48,qf 50 49,wX 51 50 1 2,wV 52 50 51,xH 53 50 .neq 52 ww,xw 54 50 53] 54 [xJ,wQ 5,yX])) (qD [qb 56 (.ld none (.c (.gp 1 0))),wR 57 2,qp 58 57,qb 59 (.lk 0 (.agg [qM,qB]) false (.t 56) (.t 58)),qb 60 (.fldv 1 none (.t 59)),qy 61 .gtr 60 0,qf 55 61] 55 (.reg [qN 7 2,qN 8 2]) (qD [wR 63 2,qp 64 63,we 65 64 11,qf 66 65,wX 67 66 0 2,wV 68 66 67,xH 69 66 .eql 68 (qj 12),xw 70 66 69,qf 62 70] 62 (.reg [qN 7 1,qN 8 1]) (qA [xJ,wQ 5,yX]))))))) (wl [wR 71 2,qp 72 71,xa 73 ll 72,qy 74 .lss 73 6,qf 75 74,wS 76 75 1 2,wM 77 75 76,xm 78 75 .neq 77 ww,xQ 79 75 78,wX 80 79 2 2,wV 81 79 80,qG 82 79 (yv .neq 81 yU),qH 83 75 (qL 79 wu (.t 82)),xX 84 75 83,qf 85 84,wX 86 85 3 2,wV 87 85 86,qG 88 85 (qY 87),xe 89 85 7,xe 90 85 8,xi 91 85 aT (xU 88 (.t 89) (.t 90)),ya 92 85 91,xw 93 85 92,qf 94 93,xe 95 94 1,xH 96 94 .lss 95 wP,xw 97 94 96] 97 [xJ,wQ 5,yX]) (wW [qN 9 1,qN 10 1] (yA [ym 98 2,qp 99 98,wa 100 99,wQ 101] 1 [wJ 102 101 100] 102 (.exit 1) (yB 2 (qd [wq 103 4 99 101,yS 104 103,qV 12 [qB,qB,qM,.nils],qS 4 12 104] (ye [yS 106 12,xq 107,xx 108 107 1,wE 109 gn 106 108,qf 105 109,xj 110 0 105,xj 111 1 105,xj 112 2 105,qf 13 110,qf 14 111,qf 15 112] [qf 113 15,xd 114 113] 114 [xJ,wQ 5,yX] (yy [qf 115 9,qf 116 13,wm 117 .add 115 116,qf 9 117] [yz 118,qf 119 14,xD 120 119,qb 121 (.mx (.t 118) (.t 120)),qf 10 121]))) 122 101 101 122)) [qf 123 9,yz 124,qf 125 9,qy 126 .leq 125 30,qf 4 123,qf 5 124,qf 6 126]))
def kq:FK:=⟨127,[.t 4,.t 5,.t 6],(AK.whole jY)⟩
theorem zo:al Tryz.prog gn=some kq:=by kernel_rfl
def nt:FK:=⟨13,xC,wn [yx 1 4,x8] [yS 7 1,wD 8 gn 7 (qj 6),yr 6,xj 9 0 6,xj 10 1 6,xj 11 2 6,qf 3 9,yz 4,qf 5 11] (qA (wT (xf 12) 2 12))⟩
theorem vt:al Tryz.prog fj=some nt:=by kernel_rfl
def jy:FK:=⟨91,xA,qd [yx 2 5,xt] (qQ [wR 12 2,qp 13 12,xa 14 gm 13,qf 11 14,xj 15 0 11,xj 16 1 11,xj 17 2 11,xj 18 3 11,qf 5 15,qf 6 16,qf 7 17,qf 8 18] (.blk 0 (wF (xZ (xq 20) (qy 21 .gtr 20 4) 19 21) 19 (wA [xo 22 2,qp 23 22,wa 24 23,xf 25,wm 26 .neq 24 25,qf 19 26] 19 (wA [yf 27,qf 28 27,wS 29 28 1 2,wM 30 28 29,yM 31 28 cF (wZ 30),qH 32 28 (q9 31),xX 33 28 32,qf 19 33] 19 (wA [yf 34,xd 35 34,qf 36 35,wS 37 36 1 2,wM 38 36 37,qH 39 36 (yv .neq 38 yU),xX 40 36 39,qf 19 40] 19 (wA [yE 41,xd 42 41,qf 43 42,wS 44 43 3 2,wM 45 43 44,qH 46 43 (qY 45),xm 47 43 .gtr 46 ww,xX 48 43 47,qf 19 48] 19 (wA [yr 49,xd 50 49,qf 51 50,wS 52 51 4 2,wM 53 51 52,qH 54 51 (qY 53),xm 55 51 .gtr 54 ww,xX 56 51 55,qf 19 56] 19 (.reg [wR 57 2,qp 58 57,we 59 58 8,qf 60 59,wS 61 60 2 2,wM 62 60 61,qH 63 60 (qO 4 62 ww),wS 64 60 0 63,wM 65 60 64,xm 66 60 .neq 65 (qj 13),xX 67 60 66,qf 19 67])))))) (qo 19 (qA [xt]) .skip))) (yW (yA [xo 68 2,qp 69 68,wa 70 69,wQ 71] 1 [wJ 72 71 70] 72 (.exit 1) (yB 2 (qd [wq 73 4 69 71,yS 74 73,qV 10 [qB,qB,qM,.nils],qS 4 10 74] (wl [yS 75 10,xa 76 fj 75,xd 77 76] 77 [xt])) 78 71 71 78)) [ym 79 2,qp 80 79,xq 81,xD 82 81,wE 83 cS 80 82,qf 84 83,wS 85 84 4 2,wM 86 84 85,xQ 87 84 1,xm 88 84 .add 87 wP,yM 89 84 cS (wB 86 (.t 88)),xX 90 84 89,qf 4 90]))⟩
theorem rY:al Tryz.prog jC=some jy:=by kernel_rfl
def nv:FK:=⟨8,xn 3,xb [yx 2 5,wz 3] [qK 4 5 2,qp 5 1,wE 6 jC 4 5,xd 7 6,yE 3]⟩
theorem vn:al Tryz.prog cH=some nv:=by kernel_rfl
def rc:FK:=⟨9,xA,xb [wy 3 1 1,xt] [q6 5,qb 6 (xY cH (wZ 3)),wE 7 bT 5 6,xd 8 7,yr 4]⟩
theorem Ao:al Tryz.prog cS=some rc:=by kernel_rfl
def nU:FK:=⟨31,[],yA [q6 8,wa 9 8,wQ 10] 0 [wJ 11 10 9] 11 wv (yB 1 (wn [wq 12 5 8 10,qK 13 5 12,qV 7 [qB,qM,.nils,.nils,.nils],qS 5 7 13] [qf 14 2,qK 15 5 7,xq 16,qb 17 (yh 14 (wB 15 (.t 16)))] (yy [ym 18 7,qp 19 18,xq 20,xD 21 20,qf 22 2,yP 23 dm 19 21 22] [qq 24 4 7,qp 25 24,xq 26,xD 27 26,qf 28 2,yP 29 dm 25 27 28])) 30 10 10 30)⟩
theorem uc:al Tryz.prog dm=some nU:=by kernel_rfl
def nh:FK:=⟨11,[],wn [yx 4 5] [qp 6 2,xD 7 6,xp 2 7] (.reg [qp 8 3,xq 9,qb 10 (.mx (.t 8) (.t 9)),xp 3 10])⟩
theorem vr:al Tryz.prog fm=some nh:=by kernel_rfl
def px:FK:=⟨20,[.c 2 none,.c 3 none],wW [yx 1 1,qV 2 yq,qV 3 yq] (yA [wR 6 1,qp 7 6,wa 8 7,wQ 9] 0 [wJ 10 9 8] 10 wv (yB 1 (yy [wq 11 3 7 9,qK 12 3 11,qV 5 yK,qS 3 5 12] [xo 13 5,qp 14 13,qb 15 (xY fm (wB 2 (.t 3))),xW 16 dm 14 wP 15]) 17 9 9 17)) [qp 18 2,qp 19 3,xp 2 18,wH 3 19,xp 3 19]⟩
theorem BU:al Tryz.prog lQ=some px:=by kernel_rfl
def iU:FK:=⟨6,xC,xb [x8] [q6 3,xa 4 cF 3,xd 5 4,xf 2]⟩
theorem oU:al Tryz.prog bB=some iU:=by kernel_rfl
def kI:FK:=⟨48,xC,ye [yx 1 1,x8] [wR 7 1,qp 8 7,wa 9 8,xV 10 aT 9 wP (qj 4),xd 11 10] 11 [x8] (.seq (yA [wR 12 1,qp 13 12,wa 14 13,wQ 15] 0 [wJ 16 15 14] 16 wv (yB 1 (qd [wq 17 3 13 15,qK 18 3 17,qV 4 yK,qS 3 4 18] (wl [wR 19 4,qp 20 19,xa 21 cF 20,xd 22 21,qf 23 22,wX 24 23 1 4,wV 25 23 24,qG 26 23 (qY 25),xH 27 23 .gtr 26 xP,xw 28 23 27,qf 29 28,wX 30 29 1 4,wV 31 29 30,xi 32 29 co (wB 31 (.c (.fn (.func bB) []))),xw 33 29 32,qf 34 33,wX 35 34 2 4,wV 36 34 35,xi 37 34 cS (wB 36 wP),ya 38 34 37,xw 39 34 38] 39 [x8])) 40 15 15 40)) (xb [qK 42 1 1,xa 43 lQ 42,qf 41 43,xj 44 0 41,xj 45 1 41,qf 5 44,qf 6 45] (xZ (xf 46) (qy 47 .leq 46 40) 2 47)))⟩
theorem rI:al Tryz.prog fG=some kI:=by kernel_rfl
def eY:FK:=⟨19,xA,wW [xJ] (yA [q6 6,wa 7 6,wQ 8] 0 [wJ 9 8 7] 9 wv (yB 1 (qd (wT (yr 10) 5 10) (wl [xq 11,yH,xf 13,wq 14 3 12 13,qK 15 3 14,qb 16 (yh 11 (wZ 15))] 16 (wT (xf 17) 4 17))) 18 8 8 18)) [qN 4 (-1)]⟩
theorem lb:al Tryz.prog cT=some eY:=by kernel_rfl
def sx:FK:=⟨8,xn 3,xb [yx 2 3,wz 3] [wR 4 2,qp 5 4,qp 6 1,qb 7 (yv .eql 5 (.t 6)),yE 3]⟩
theorem CR:al Tryz.prog fT=some sx:=by kernel_rfl
def vL:FK:=⟨9,xA,xb [yx 2 1,wy 3 1 1,xJ] [wR 5 2,qp 6 5,qb 7 (xY fT (wZ 3)),wE 8 cT 6 7,yr 4]⟩
theorem FX:al Tryz.prog jN=some vL:=by kernel_rfl
def fw:FK:=⟨13,[],xN [q6 4,qW 5 4,xo 6 5,qp 7 6,we 8 7 0] 8 [q6 9,xq 10,qW 11 9,xo 12 11,xp 12 10]⟩
theorem rC:al Tryz.prog cy=some fw:=by kernel_rfl
def im:FK:=⟨7,xC,xb [qc 2 (.c .nilp)] [qb 3 .mkm,q6 4,ws 5 [.nilm,.nilp] [yj 3,wY 1 4],wy 6 2 5,yf 2]⟩
theorem tL:al Tryz.prog bl=some im:=by kernel_rfl
def tO:FK:=⟨20,[],wn [yx 2 4] [xq 6,yS 7 2,qb 8 (yh 6 (wZ 7))] (yA [ym 9 2,qp 10 9,wa 11 10,wQ 12] 0 [wJ 13 12 11] 13 wv (yB 1 (yy [wq 14 4 10 12,yS 15 14,qV 5 [qB,qB,qM,.nils],qS 4 5 15] [yS 16 5,xq 17,wE 18 kO 16 17]) 19 12 12 19))⟩
theorem Ee:al Tryz.prog kO=some tO:=by kernel_rfl
def iG:FK:=⟨25,[.t 4,.t 5],wW [xJ,wz 5] (qX 0 (xr [q6 8,qb 9 (.pnil 0 true (.t 8))] 9 wv 1 (qd [q6 15,qW 16 15,wR 17 16,qp 18 17,xq 19,qb 20 (.lk 1 qB true (.t 18) (.t 19)),qf 14 20,xj 21 0 14,xj 22 1 14,qf 6 21,qf 7 22] (wl [yE 23] 23 [yf 24,qf 4 24,qc 5 wu])) [q6 10,qW 11 10,xu 12 11,qp 13 12,qf 0 13])) [xJ,wz 5]⟩
theorem mj:al Tryz.prog bm=some iG:=by kernel_rfl
def iO:FK:=⟨58,[],wn [yx 3 4] [wR 7 3,qp 8 7] (.blk 0 (xM 10 8 2 9 10 9 (qd [qp 12 1,xo 13 3,qp 14 13,wE 15 bm 12 14,qf 11 15,xj 16 0 11,xj 17 1 11,qf 4 16,qf 5 17] (xN [xf 18,xd 19 18] 19 [qp 20 2,yw 21 20 xP])) (qT (wU 23 8 13 22 23) 22 (qd [xo 35 3,qp 24 2,qW 25 24,wR 26 25,wR 27 26,qp 28 27,qp 29 2,qW 30 29,xu 31 30,qp 32 31,qb 33 (.slS 3 (.t 28) none (some (.t 32))),ws 34 xG [yj 33],qp 36 35,wE 37 jN 34 36,qf 6 37] (qD [yf 38,qy 39 .lss 38 0] 39 (.reg [qp 40 2,yw 41 40 (qj 4)]) (xN [yf 47,ym 52 3,qp 42 2,qW 43 42,wR 44 43,wR 45 44,qp 46 45,wq 48 3 46 47,xu 49 48,qp 50 49,wa 51 50,qp 53 52,wa 54 53,wm 55 .neq 51 54] 55 [qp 56 2,yw 57 56 (qj 5)]))))))⟩
theorem ph:al Tryz.prog bU=some iO:=by kernel_rfl
def fH:FK:=⟨9,[],yy [yx 3 1,wy 4 4 1,wy 5 1 2] [yS 6 4,qb 7 (xY bU (wB 5 (.t 3))),wE 8 kO 6 7]⟩
theorem rD:al Tryz.prog dz=some fH:=by kernel_rfl
def eZ:AK:=yA [xq 14,wa 15 14,wQ 16] 0 [wJ 17 16 15] 17 wv (yB 1 (qQ [wq 18 5 14 16,qK 19 5 18,qV 7 [qB,qM,.nils,.nils,.nils],qS 5 7 19] (yA [xo 20 7,qp 21 20,wa 22 21,wQ 23] 2 [wJ 24 23 22] 24 (.exit 2) (yB 3 (yy [wq 25 4 21 23,yS 26 25,qV 9 [qB,qB,qM,.nils],qS 4 9 26] [q6 27,yS 28 9,qf 29 2,yP 30 dz 27 28 29]) 31 23 23 31)) (.cut (qd [wR 32 7,qp 33 32] (.blk 4 (xM 35 33 1 34 35 34 (qZ (qd [qf 37 2,qW 38 37,wR 39 38,xu 41 7,qp 40 39,qp 42 41,qb 43 (.lk 1 qB true (.t 40) (.t 42)),qf 36 43,xj 44 0 36,xj 45 1 36,qf 10 44,qf 11 45] (xN [qf 46 11] 46 [q6 47,yw 48 47 xK])) [qf 49 2,qW 50 49,wR 51 50,xu 53 7,qp 52 51,qp 54 53,qC (.mup 1 (.t 52) (.t 54) ww)]) (qT (wU 56 33 2 55 56) 55 (qd [qf 58 2,xu 59 7,qp 60 59,wE 61 bm 58 60,qf 57 61,xj 62 0 57,xj 63 1 57,qf 12 62,qf 13 63] (xN [qf 64 13,xd 65 64] 65 [q6 66,yw 67 66 xP])))))) (qT [wR 68 7,qp 69 68,we 70 69 5,qf 71 70,wX 72 71 0 7,wV 73 71 72,xH 74 71 .eql 73 (qj 6),xw 75 71 74] 75 (yy [q6 76,ym 77 7,qf 79 2,qp 78 77,xa 80 bl 79,wH 77 78,yP 81 bJ 76 78 80] [q6 82,qq 83 4 7,qf 85 2,qp 84 83,xa 86 bl 85,wH 83 84,yP 87 bJ 82 84 86])))) 88 16 16 88)
def eU:FK:=⟨89,[],(AK.whole eZ)⟩
theorem pX:al Tryz.prog bJ=some eU:=by kernel_rfl
def fD:AK:=ye [yx 1 1,yk] [qK 11 1 1,xa 12 fG 11,xd 13 12] 13 [qN 2 1] (wW [qK 14 1 1,ws 15 [.nils,qB,qB] [yj 14],wy 16 3 15,qf 3 16] (yA [wR 17 1,qp 18 17,wa 19 18,wQ 20] 0 [wJ 21 20 19] 21 wv (yB 1 (wn [qf 22 20,wq 23 3 18 20,qK 24 3 23,qV 5 yK,qf 4 22,qS 3 5 24] [yT 25,xR 26,qW 27 25,xu 28 27,xp 28 26] (.cut (xN [qK 29 1 1,wR 30 5,qp 31 30,wE 32 jN 29 31,xR 33,wJ 34 32 33] 34 [yT 35,yw 36 35 xK]) (qQ (wT (qn 37 bl [.c .nilp]) 6 37) (yA [xu 38 5,qp 39 38,wa 40 39,wQ 41] 2 [wJ 42 41 40] 42 (.exit 2) (yB 3 (qQ (xZ (wq 43 1 39 41) (qp 44 43) 8 44) (qd [yf 46,qW 47 46,wR 48 47,qp 49 48,yr 50,qb 51 (.lk 1 qB true (.t 49) (.t 50)),qf 45 51,xj 52 0 45,xj 53 1 45,qf 9 52,qf 10 53] (xN [yz 54] 54 [yT 55,yw 56 55 xK])) (.reg [yf 57,qW 58 57,wR 59 58,qp 60 59,yr 61,qC (.mup 1 (.t 60) (.t 61) ww)])) 62 41 41 62)) (.reg [yT 63,xo 64 5,qp 65 64,yf 66,yP 67 bJ 63 65 66])))) 68 20 20 68)) [yT 69,qW 70 69,xo 71 70,qp 72 71,qf 2 72])
def fK:FK:=⟨73,xC,(AK.whole fD)⟩
theorem rO:al Tryz.prog fx=some fK:=by kernel_rfl
def zg:FK:=⟨6,xC,xb [yx 1 1,x8] [qK 3 1 1,xa 4 fx 3,we 5 4 0,xf 2]⟩
theorem FR:al Tryz.prog mu=some zg:=by kernel_rfl
def gQ:FK:=⟨22,xA,qd [qc 4 xB] (wW [qc 5 xB] (yA [q6 8,wa 9 8,wQ 10] 0 [wJ 11 10 9] 11 wv (yB 1 (yy [wq 12 3 8 10,qK 13 3 12,qV 7 yK,qS 3 7 13] [xf 14,xq 15,qK 16 3 7,qb 17 (yh 15 (wZ 16)),yR 18 3 (yI qB qB) 1 3 17,xh 19 3 40 14 18,qf 5 19]) 20 10 10 20)) (wT (xf 21) 4 21))⟩
theorem nk:al Tryz.prog cm=some gQ:=by kernel_rfl
def dO:FK:=⟨10,xC,wW [yk] (qd [q6 3] (.blk 0 (xM 5 3 1 4 5 4 (qA [qN 2 1]) (xM 7 3 2 6 7 6 (qA [qN 2 2]) (wl (wU 9 3 3 8 9) 8 [yk]))))) [qN 2 (-1)]⟩
theorem ve:al Tryz.prog iX=some dO:=by kernel_rfl
def mW:FK:=⟨9,xC,xb [x8] [q6 3,we 4 3 2,xR 5,xe 6 5 0,xH 7 5 .eql 6 xP,xw 8 5 7,yr 2]⟩
theorem CP:al Tryz.prog jB=some mW:=by kernel_rfl
def iE:FK:=⟨19,xA,wW [xJ] (yA [q6 6,wa 7 6,wQ 8] 0 [wJ 9 8 7] 9 wv (yB 1 (qd (wT (yr 10) 5 10) (wl [xq 11,yH,xf 13,wq 14 1 12 13,qp 15 14,qb 16 (yh 11 (wZ 15))] 16 (wT (xf 17) 4 17))) 18 8 8 18)) [qN 4 (-1)]⟩
theorem nP:al Tryz.prog dT=some iE:=by kernel_rfl
def fv:FK:=⟨9,xA,xb [xt] [q6 5,xq 6,wE 7 dT 5 6,qy 8 .geq 7 0,yr 4]⟩
theorem lR:al Tryz.prog bz=some fv:=by kernel_rfl
def eF:FK:=⟨19,xA,wW [xJ] (yA [q6 6,wa 7 6,wQ 8] 0 [wJ 9 8 7] 9 wv (yB 1 (qd (wT (yr 10) 5 10) (wl [xq 11,yH,xf 13,wq 14 4 12 13,yS 15 14,qb 16 (yh 11 (wZ 15))] 16 (wT (xf 17) 4 17))) 18 8 8 18)) [qN 4 (-1)]⟩
theorem kK:al Tryz.prog cD=some eF:=by kernel_rfl
def dI:FK:=⟨9,xA,xb [xt] [q6 5,xq 6,wE 7 cD 5 6,qy 8 .geq 7 0,yr 4]⟩
theorem jp:al Tryz.prog bX=some dI:=by kernel_rfl
def lG:FK:=⟨19,xA,wW [xJ] (yA [q6 6,wa 7 6,wQ 8] 0 [wJ 9 8 7] 9 wv (yB 1 (qd (wT (yr 10) 5 10) (wl [xq 11,yH,xf 13,wq 14 1 12 13,qp 15 14,wm 16 .eql 11 15] 16 (wT (xf 17) 4 17))) 18 8 8 18)) [qN 4 (-1)]⟩
theorem tn:al Tryz.prog gF=some lG:=by kernel_rfl
def iP:FK:=⟨9,xA,xb [xt] [q6 5,xq 6,wE 7 gF 5 6,qy 8 .geq 7 0,yr 4]⟩
theorem oV:al Tryz.prog eC=some iP:=by kernel_rfl
def pB:FK:=⟨33,xA,qd [yx 2 3,qc 4 xB] (ye [qc 5 xB] [xq 8,xo 9 2,qp 10 9,wa 11 10,xx 12 11 1,xW 13 aT 8 ww 12,xd 14 13] 14 [qc 4 xB] (yW (yA [xo 15 2,qp 16 15,wa 17 16,wQ 18] 0 [wJ 19 18 17] 19 wv (yB 1 (qd [qf 20 18,wq 21 5 16 18,qK 22 5 21,qV 7 [.nils,.nils,qB,qB,.nils],qf 6 20,qS 5 7 22] (xN [qq 23 4 7,qp 24 23,xq 25,wE 26 eC 24 25] 26 [xf 27,yf 28,yu 29 1 [yj 28],xh 30 1 8 27 29,qf 5 30])) 31 18 18 31)) (wT (xf 32) 4 32)))⟩
theorem Bi:al Tryz.prog gU=some pB:=by kernel_rfl
def oM:FK:=⟨9,xn 3,xb [wz 3] [q6 4,xu 5 1,qp 6 5,xx 7 6 1,xW 8 aT 4 ww 7,yr 3]⟩
theorem zj:al Tryz.prog bS=some oM:=by kernel_rfl
def oJ:FK:=⟨11,xn 3,xb [wz 3] [q6 4,xo 5 1,qp 6 5,wa 7 6,xx 8 7 1,xW 9 aT 4 wP 8,xd 10 9,yz 3]⟩
theorem zm:al Tryz.prog kx=some oJ:=by kernel_rfl
def uv:FK:=⟨5,xC,xb [x8] [q6 3,xV 4 aT 3 wP (qj 14),xR 2]⟩
theorem Er:al Tryz.prog kM=some uv:=by kernel_rfl
def za:FK:=⟨13,xC,xb [x8] [q6 3,xa 4 kM 3,xR 5,xQ 6 5 0,xm 7 5 .neq 6 (qj 12),xX 8 5 7,yr 9,xQ 10 9 0,xm 11 9 .neq 10 (qj 13),xX 12 9 11,qf 2 12]⟩
theorem FW:al Tryz.prog mv=some za:=by kernel_rfl
def cP:FK:=⟨11,xC,wW [yk] (qd [q6 3] (.blk 0 (xM 5 3 1 4 5 4 (qA [yk]) (wF (wU 7 3 2 6 7) 6 (wA (wU 8 3 10 6 8) 6 (wA (wU 9 3 11 6 9) 6 (.reg (wU 10 3 13 6 10)))) (qo 6 (qA [qN 2 1]) .skip))))) [qN 2 2]⟩
theorem At:al Tryz.prog lc=some cP:=by kernel_rfl
def pi:FK:=⟨9,xn 3,xb [wz 3] [q6 4,xu 5 1,qp 6 5,xx 7 6 1,xW 8 aT 4 ww 7,yr 3]⟩
theorem BW:al Tryz.prog dH=some pi:=by kernel_rfl
def pP:FK:=⟨8,xn 3,xb [wz 3] [qp 4 1,q6 5,qb 6 (yh 4 (wZ 5)),xd 7 6,yE 3]⟩
theorem AQ:al Tryz.prog lL=some pP:=by kernel_rfl
def nQ:AK:=wn [yx 3 1,wy 5 4 2,yX] [wR 9 3,qp 10 9,xq 11,wq 12 3 10 11,qK 13 3 12,qV 7 (yI qB qB),qS 3 7 13] (qd [qb 14 (xY dH (wZ 7)),qV 8 [.nilf],xp 8 14] (yp (wl [wR 15 5,qp 16 15,xa 17 kM 16,xd 18 17,qf 19 18,wX 20 19 2 5,wV 21 19 20,qG 22 19 (xY lL (wZ 8)),xi 23 19 bz (wB 21 (.t 22)),xw 24 19 23] 24 [yX]) (wl [wR 25 5,qp 26 25,xa 27 mv 26,qf 28 27,wM 29 28 8,wS 30 28 1 5,wM 31 28 30,qH 32 28 (yh 29 (wZ 31)),qH 33 28 (q9 32),xX 34 28 33,qf 35 34,wX 36 35 0 5,wV 37 35 36,xi 38 35 mv (wZ 37),ya 39 35 38,xe 40 35 39,wS 41 40 1 5,wM 42 40 41,xm 43 40 .neq 42 (qj (-1)),qG 44 35 (qL 40 (.t 43) qP),xw 45 35 44] 45 [yX]) (yW (qd [wR 46 5,qp 47 46] (.blk 0 (xM 49 47 1 48 49 48 (qA [xo 50 5,qp 51 50,wa 52 51,we 53 52 0,qf 54 53,wS 55 54 3 5,wM 56 54 55,yM 57 54 jI (wZ 56),xX 58 54 57,qf 6 58]) (wl (wU 60 47 14 59 60) 59 [ym 61 5,xq 63,xx 64 63 1,qp 62 61,xW 65 aT 62 ww 64,qf 66 65,wS 67 66 2 5,wS 70 66 0 3,wS 72 66 3 5,wM 68 66 67,qH 69 66 (qY 68),wM 71 66 70,wM 73 66 72,qH 74 66 (qO 3 71 (.t 73)),wS 75 66 0 74,wM 76 66 75,xm 77 66 .eql 69 (.t 76),xX 78 66 77,qf 6 78])))) [ym 79 5,qp 80 79,we 81 80 0,qf 82 81,wS 83 82 2 5,wS 86 82 0 5,wM 84 82 83,qH 85 82 (qY 84),wM 87 82 86,qH 88 82 (.qcall lc (wZ 87)),xm 89 82 .eql 85 (.t 88),xX 90 82 89,qf 6 90])))
def oa:FK:=⟨91,xn 6,(AK.whole nQ)⟩
theorem EB:al Tryz.prog oo=some oa:=by kernel_rfl
def oH:FK:=⟨10,xA,xb [yx 3 4,xt] [qK 5 1 1,qp 6 2,yS 7 3,yP 8 oo 5 6 7,xd 9 8,qf 4 9]⟩
theorem zB:al Tryz.prog jZ=some oH:=by kernel_rfl
def oI:FK:=⟨8,xn 3,xb [wz 3] [qp 4 1,q6 5,qb 6 (yh 4 (wZ 5)),xd 7 6,yE 3]⟩
theorem zr:al Tryz.prog kj=some oI:=by kernel_rfl
def mK:AK:=wn [yx 2 1,wy 3 1 1,xt] [wR 12 2,qp 13 12,qp 14 3,wq 15 3 13 14,qK 16 3 15,qV 5 (yI qB qB),qS 3 5 16] (.cut (wl [xu 17 5,qp 18 17,xV 19 aT 18 ww (qj 300),xd 20 19,qf 21 20,wX 22 21 0 5,wV 23 21 22,wX 24 21 1 5,wV 25 21 24,qG 26 21 (.mn xP (.t 25)),xi 27 21 aT (xU 23 ww (.t 26)),ya 28 21 27,xw 29 21 28,qf 30 29,wX 31 30 2 5,wV 32 30 31,qG 33 30 (qY 32),xi 34 30 aT (xU 33 wP (qj 160)),ya 35 30 34,xw 36 30 35] 36 [xt]) (wW [qb 37 (xY bS (wZ 5)),qV 6 [.nilf],xp 6 37] (yA [xo 38 5,qp 39 38,wa 40 39,wQ 41] 0 [wJ 42 41 40] 42 wv (yB 1 (qd [qf 43 41,wq 44 5 39 41,qK 45 5 44,qV 8 [.nils,.nils,qB,qB,.nils],qf 7 43,qS 5 8 45] (yp (wl [qq 46 4 8,xo 49 8,qp 47 46,wa 48 47,qp 50 49,xa 51 iX 50,wH 46 47,wm 52 .neq 48 51,qf 53 52,wX 54 53 2 8,wV 55 53 54,xi 56 53 jB (wZ 55),xe 57 53 56,wS 59 57 3 8,wM 58 57 6,wM 60 57 59,qH 61 57 (yh 58 (wZ 60)),qH 62 57 (q9 61),qG 63 53 (qL 57 (.t 62) qP),xw 64 53 63,qf 65 64,wX 66 65 2 8,wV 67 65 66,xi 68 65 jB (wZ 67),ya 69 65 68,xe 70 65 69,wS 71 70 3 8,wM 72 70 71,xm 73 70 .neq 72 ww,qG 74 65 (qL 70 (.t 73) qP),xw 75 65 74] 75 [xt]) (wl [qq 76 4 8,qp 77 76,qb 78 (xY kx (wZ 5)),wE 79 bz 77 78,qf 80 79,wX 81 80 1 8,wV 82 80 81,qG 83 80 (xY jZ (wB 2 (.t 3))),xi 84 80 bX (wB 82 (.t 83)),xw 85 80 84] 85 [xt]) (.cut (.reg [qK 86 3 5,yE 87,wE 88 gU 86 87,wa 89 88,qf 9 89]) (yA [wR 90 8,qp 91 90,wa 92 91,wQ 93] 2 [wJ 94 93 92] 94 (.exit 2) (yB 3 (qd [wq 95 2 91 93,qK 96 2 95,qV 11 [qB,.nils],qS 2 11 96] (wl [yE 97,we 98 97 0,qf 99 98,wV 100 99 6,wX 101 99 0 11,wV 102 99 101,qG 103 99 (yh 100 (wZ 102)),ya 104 99 103,xw 105 99 104,qf 106 105,wX 107 106 1 11,wV 108 106 107,qG 109 106 (qY 108),xe 110 106 9,xH 111 106 .neq 109 (.t 110),xw 112 106 111,qf 113 112,wX 114 113 1 11,wV 115 113 114,qG 116 113 (xY kj (wZ 6)),xi 117 113 bz (wB 115 (.t 116)),xw 118 113 117] 118 [xt])) 119 93 93 119))))) 120 41 41 120)) [qc 4 wu]))
def mY:FK:=⟨121,xA,(AK.whole mK)⟩
theorem CU:al Tryz.prog mI=some mY:=by kernel_rfl
def ng:FK:=⟨24,xC,qd [yx 1 3,yk] (wW [wQ 3] (yA [xo 6 1,qp 7 6,wa 8 7,wQ 9] 0 [wJ 10 9 8] 10 wv (yB 1 (yy [wq 11 5 7 9,qK 12 5 11,qV 5 [.nils,.nils,qB,qB,.nils],qS 5 5 12] [yT 13,wR 14 5,qp 15 14,wa 16 15,xu 17 5,qp 18 17,wa 19 18,wm 20 .add 16 19,wm 21 .add 13 20,qf 3 21]) 22 9 9 22)) (wT (yT 23) 2 23))⟩
theorem uP:al Tryz.prog js=some ng:=by kernel_rfl
def nM:FK:=⟨30,xC,ye [yx 1 1,x8] [wR 6 1,qp 7 6,wa 8 7,xV 9 aT 8 wP (qj 4),xd 10 9] 10 [x8] (wW [wQ 3] (yA [wR 11 1,qp 12 11,wa 13 12,wQ 14] 0 [wJ 15 14 13] 15 wv (yB 1 (ye [qf 16 14,wq 17 3 12 14,qK 18 3 17,qV 5 (yI qB qB),qf 4 16,qS 3 5 18] [qK 19 1 1,xR 20,wE 21 mI 19 20,xd 22 21] 22 [x8] (.reg [yT 23,qK 24 3 5,xa 25 js 24,wm 26 .add 23 25,qf 3 26])) 27 14 14 27)) (xZ (yT 28) (qy 29 .leq 28 800) 2 29))⟩
theorem uV:al Tryz.prog ju=some nM:=by kernel_rfl
def ir:FK:=⟨10,[],qd [yx 3 5] (xN [wR 5 3,qp 6 5,we 7 6 1] 7 [qp 8 2,xD 9 8,xp 2 9])⟩
theorem ua:al Tryz.prog eG=some ir:=by kernel_rfl
def oG:FK:=⟨12,xC,wn [yx 1 3,yk] [xu 4 1,qp 5 4,wa 6 5,qV 3 yq,xp 3 6] (xb [xo 7 1,qp 8 7,qb 9 (xY eG (wZ 3)),xW 10 dm 8 wP 9] (wT (qp 11 3) 2 11))⟩
theorem zx:al Tryz.prog gt=some oG:=by kernel_rfl
def eS:FK:=⟨24,[.t 4],
 .seq (.reg [⟨(some 4),none,.mov (.c (.p (.int .i64 0)))⟩])
 (.seq (.reg [⟨(some 6),none,.mov (.t 0)⟩,
   ⟨(some 7),none,.nilck (.t 6)⟩,
   ⟨(some 8),none,.fldA 1 (.t 7)⟩,
   ⟨(some 9),none,.fldA 2 (.t 8)⟩,
   ⟨(some 10),none,.ld none (.t 9)⟩,
   ⟨(some 11),none,.len false (.t 10)⟩,
   ⟨(some 5),none,.mov (.t 11)⟩])
 (.seq (.reg [⟨(some 12),none,.mov (.t 0)⟩,
   ⟨(some 13),none,.mov (.t 0)⟩,
   ⟨(some 14),none,.nilck (.t 13)⟩,
   ⟨(some 15),none,.fldA 1 (.t 14)⟩,
   ⟨(some 16),none,.fldA 2 (.t 15)⟩,
   ⟨(some 17),none,.ld none (.t 16)⟩,
   ⟨(some 18),none,.mov (.t 1)⟩,
   ⟨(some 19),none,.appz 5 88 [.nils,.nils,(.p (.int .i64 0)),(.p (.int .i64 0)),.nils] (.t 17) (.t 18)⟩,
   ⟨(some 20),none,.nilck (.t 12)⟩,
   ⟨(some 21),none,.fldA 1 (.t 20)⟩,
   ⟨(some 22),none,.fldA 2 (.t 21)⟩,
   ⟨none,none,.st 1 (.t 22) (.t 19)⟩])
 (.seq (.reg [⟨(some 23),none,.mov (.t 5)⟩,
   ⟨(some 4),none,.mov (.t 23)⟩])
 (.ret))))⟩
theorem jV:al Tryz.prog be=some eS:=by kernel_rfl
def kH:FK:=⟨37,[],wn [q6 11,qW 12 11,xu 13 12,xo 14 13,q6 16,qW 17 16,qq 18 4 17,qp 15 14,qp 19 18,wq 20 5 15 19,qf 10 20] [yz 21,yz 22,yz 23,xq 24,qf 25 2,xR 26,qW 27 21,xo 28 27,xp 28 24,qW 29 22,ym 30 29,xp 30 25,qW 31 23,qq 32 4 31,xp 32 26] (.reg [q6 33,yT 34,qW 35 33,qq 36 4 35,xp 36 34])⟩
theorem rQ:al Tryz.prog fz=some kH:=by kernel_rfl
def kD:FK:=⟨18,xC,wn [yk] [q6 3,qW 4 3,xu 5 4,xu 6 5,qp 7 6,xD 8 7,qW 9 3,xu 10 9,xu 11 10,xp 11 8] (qA [yH,qW 13 12,xu 14 13,xu 15 14,qp 16 15,xx 17 16 1,qf 2 17])⟩
theorem rN:al Tryz.prog fJ=some kD:=by kernel_rfl
def fM:FK:=⟨25,[],wn [wy 3 4 1] [q6 5,qW 6 5,xu 7 6,xo 8 7,q6 10,qW 11 10,qq 12 4 11,qp 9 8,qp 13 12,wq 14 5 9 13,qf 4 14] (.reg [xR 15,xR 16,qW 17 16,xu 18 17,qp 19 18,yS 20 3,yR 21 4 [qB,qB,.nils,qB] 1 4 20,wH 18 19,xh 22 4 48 19 21,qW 23 15,xu 24 23,xp 24 22])⟩
theorem rP:al Tryz.prog bk=some fM:=by kernel_rfl
def jM:FK:=⟨20,xn 8,wn [wQ 8] (xZ (q6 10) (xa 11 fJ 10) 9 11) (xb [yH,xq 13,qf 14 9,yT 15,qf 16 2,ws 17 [qB,qB,.nils,qB] [yj 13,wY 1 14,wY 2 15,wY 3 16],wE 18 bk 12 17] (wT (qf 19 9) 8 19))⟩
theorem pF:al Tryz.prog fh=some jM:=by kernel_rfl
def ma:FK:=⟨22,xA,qd [qc 4 xB] (wW [qc 5 xB] (yA [q6 8,wa 9 8,wQ 10] 0 [wJ 11 10 9] 11 wv (yB 1 (yy [wq 12 4 8 10,yS 13 12,qV 7 [qB,qB,qM,.nils],qS 4 7 13] [xf 14,xq 15,yS 16 7,qb 17 (yh 15 (wZ 16)),yu 18 1 [yj 17],xh 19 1 8 14 18,qf 5 19]) 20 10 10 20)) (wT (xf 21) 4 21))⟩
theorem uG:al Tryz.prog eE=some ma:=by kernel_rfl
def gW:FK:=⟨9,xA,xb [yx 3 4,xJ] [qp 5 1,yS 6 3,qp 7 2,yP 8 br 5 6 7,yr 4]⟩
theorem ov:al Tryz.prog dU=some gW:=by kernel_rfl
def cf:FK:=⟨112,xn 6,qQ [yx 3 1,wy 4 4 1,wy 5 1 2,wQ 6] (qd [wR 15 4,qp 16 15] (.blk 0 (xM 18 16 1 17 18 17 (qA [qp 19 3,xu 20 4,qp 21 20,xT 22 [.t 19,wP,.t 21,xB],qf 6 22]) (xM 24 16 2 23 24 23 (xb [qp 26 5,xo 27 4,qp 28 27,wE 29 bm 26 28,qf 25 29,xj 30 0 25,xj 31 1 25,qf 7 30,qf 8 31] (wT (yE 32) 6 32)) (qT (wU 34 16 10 33 34) 33 (wn [ym 36 4,qp 35 3,qp 37 36,wj 38 4 37 ww,yS 39 38,qp 40 5,yP 41 br 35 39 40,qf 9 41] (xZ (qp 42 3) (xT 43 [.t 42,wP,ww,xB]) 10 43) (wn (xZ (qp 44 3) (wD 45 be 44 xK) 11 45) [qp 46 3,qf 47 9,qf 48 11,qf 49 11,qf 50 11,xD 51 50,yu 52 2 [yj 49,wY 1 51],xF 53 [.t 46,xK,.t 47,.t 48,.t 52]] (wn [ym 55 4,qp 54 3,qp 56 55,wj 57 4 56 wP,yS 58 57,qp 59 5,yP 60 br 54 58 59,qf 12 60] [qp 61 3,qf 62 12,yu 63 1 [yj 62],xT 64 [.t 61,qj 10,ww,.t 63],qf 13 64] (wn [qp 65 3,yz 66,qf 67 13,yu 68 1 [yj 67],ws 69 [qB,qB,.nils,qB] [yG 0 10,wY 1 66,wY 2 68,(3,1,ww)],wE 70 bk 65 69] [qp 71 3,qf 72 11,xD 73 72,qf 74 11,xD 75 74,yu 76 1 [yj 75],xF 77 [.t 71,wP,ww,.t 73,.t 76]] (qA (wT (yz 78) 6 78))))))))))) (wW [ym 79 4,qp 80 79,qb 81 (xY dU (wB 3 (.t 5))),wE 82 eE 80 81,qf 14 82] (qd [wR 83 4,qp 84 83] (.blk 1 (xM 86 84 11 85 86 85 (qA [qp 87 3,qf 88 14,xT 89 [.t 87,qj 10,ww,.t 88],qf 6 89]) (xM 91 84 12 90 91 90 (qA [qp 92 3,qf 93 14,xT 94 [.t 92,qj 11,ww,.t 93],qf 6 94]) (wl (wU 96 84 13 95 96) 95 [xo 102 4,qf 105 14,qp 97 3,qp 98 3,qW 99 98,wR 100 99,qK 101 1 100,qp 103 102,wE 104 jN 101 103,wH 3 97,xT 106 [.t 97,qj 14,.t 104,.t 105],qf 6 106]))))) [qp 107 3,wR 108 4,qp 109 108,qf 110 14,xT 111 [.t 107,.t 109,ww,.t 110],qf 6 111])⟩
theorem rh:al Tryz.prog br=some cf:=by kernel_rfl
def gR:FK:=⟨9,xA,xb [yx 3 4,xJ] [qp 5 1,yS 6 3,qp 7 2,yP 8 br 5 6 7,yr 4]⟩
theorem nr:al Tryz.prog dN=some gR:=by kernel_rfl
def iN:FK:=⟨176,[],wn [yx 4 1,wy 6 1 2] [xq 16,wa 17 16,wQ 18] (qX 0 (yc [wJ 19 18 17] 19 wv (yB 1 (qQ [wq 20 5 16 18,qK 21 5 20,qV 9 [qB,qM,.nils,.nils,.nils],qS 5 9 21] (qT [wR 22 9,qp 23 22,we 24 23 6] 24 (wn (xZ (qp 25 4) (wD 26 be 25 xP) 10 26) [qp 27 4,yz 28,yz 29,yu 30 1 [yj 29],xF 31 [.t 27,wP,ww,.t 28,.t 30]] (wn [xo 33 9,qp 32 4,qp 34 33,wj 35 4 34 ww,yS 36 35,qp 37 6,yP 38 br 32 36 37,qf 11 38] [qp 39 4,qf 40 11,yz 41,xD 42 41,yz 43,xD 44 43,yz 45,wt 46 45 2,yu 47 2 [yj 44,wY 1 46],xF 48 [.t 39,xK,.t 40,.t 42,.t 47]] (wn [ym 50 9,yT 54,qp 49 4,qp 51 50,qp 52 6,xa 53 bl 52,wH 4 49,wH 50 51,qn 55 bC [.t 49,.t 51,.t 53,.t 54]] [qp 56 4,yz 57,wt 58 57 2,yz 59,yu 60 1 [yj 59],xF 61 [.t 56,wP,ww,.t 58,.t 60]] (.exit 1))))) (wn [xo 62 9,qp 63 62,qb 64 (xY dN (wB 4 (.t 6))),wE 65 eE 63 64,qf 12 65] [wR 66 9,qp 67 66] (.blk 2 (xM 69 67 1 68 69 68 (wn [xu 74 9,yT 76,qW 77 76,wR 78 77,qp 70 6,qW 71 70,wR 72 71,qp 73 72,qp 75 74,qp 79 78,qC (.mup 1 (.t 73) (.t 75) (.t 79))] [yT 80,qW 81 80,wR 82 81,qp 83 82,xD 84 83,qW 85 80,wR 86 85,xp 86 84] (.reg [xu 92 9,qf 95 12,qp 87 4,qp 88 6,qW 89 88,wR 90 89,qp 91 90,qp 93 92,qb 94 (.lk 1 qB false (.t 91) (.t 93)),ws 96 [qB,qB,.nils,qB] [(0,1,xK),wY 1 94,wY 2 95,(3,1,ww)],wE 97 bk 87 96])) (xM 99 67 2 98 99 98 (yy [qp 101 6,xu 102 9,qp 103 102,wE 104 bm 101 103,qf 100 104,xj 105 0 100,xj 106 1 100,qf 13 105,qf 14 106] [qp 107 4,qf 108 13,qf 109 12,ws 110 [qB,qB,.nils,qB] [(0,1,xK),wY 1 108,wY 2 109,(3,1,ww)],wE 111 bk 107 110]) (xM 113 67 3 112 113 112 (.reg [qp 114 4,qf 115 12,ws 116 [qB,qB,.nils,qB] [yG 0 13,yG 1 (-1),wY 2 115,(3,1,ww)],wE 117 bk 114 116]) (xM 119 67 4 118 119 118 (.reg [qp 120 4,qf 121 12,ws 122 [qB,qB,.nils,qB] [yG 0 12,yG 1 (-1),wY 2 121,(3,1,ww)],wE 123 bk 120 122]) (xM 125 67 5 124 125 124 (wn (xZ (qp 126 4) (wD 127 be 126 xP) 15 127) [qf 129 12,wj 130 1 129 ww,qf 132 15,qf 133 15,qf 134 15,xD 135 134,xE 136 1 yq 2 [yj 133,wY 1 135],qp 128 4,qp 131 130,xF 137 [.t 128,xK,.t 131,.t 132,.t 136]] (wn [ym 139 9,yT 143,qp 138 4,qp 140 139,qp 141 6,xa 142 bl 141,wH 4 138,wH 139 140,qn 144 bC [.t 138,.t 140,.t 142,.t 143]] [qp 145 4,qf 146 15,xD 147 146,qf 148 15,wt 149 148 2,yu 150 1 [yj 149],xF 151 [.t 145,wP,ww,.t 147,.t 150]] (yy [qq 153 4 9,yT 157,qp 152 4,qp 154 153,qp 155 6,xa 156 bl 155,wH 4 152,wH 153 154,qn 158 bC [.t 152,.t 154,.t 156,.t 157]] [qp 159 4,qf 160 15,wt 161 160 2,qf 162 15,wt 163 162 2,yu 164 1 [yj 163],xF 165 [.t 159,wP,ww,.t 161,.t 164]]))) (xN (wU 167 67 7 166 167) 166 [qf 169 12,wj 170 1 169 ww,qp 168 4,qp 171 170,qp 172 4,wD 173 be 172 wP,wH 4 168,wH 170 171,xF 174 [.t 168,xP,.t 171,.t 173,xB]]))))))))) 175 18 18 175)))⟩
theorem oZ:al Tryz.prog bC=some iN:=by kernel_rfl
def pk:FK:=⟨65,[xS 4 3],wn [yx 2 1,wy 3 3 1,qV 4 (yI qB qB)] [qK 9 1 2,ws 10 [.nils,qB,qB,.nils,qB] [yj 9],wy 11 5 10,qf 5 11] (qd [xf 12,xf 13,xu 14 3,qp 15 14,wa 16 15,qK 17 3 3,xa 18 gt 17,wH 14 15,qW 19 12,xu 20 19,wR 21 20,xp 21 16,qW 22 13,xu 23 22,xu 24 23,xp 24 18] (qQ (wT (qn 25 bl [.c .nilp]) 6 25) (yA [xu 26 3,qp 27 26,wa 28 27,wQ 29] 0 [wJ 30 29 28] 30 wv (yB 1 (yy [qf 31 29,wq 32 1 27 29,qp 33 32,qf 7 31,qf 8 33] [yf 34,qW 35 34,wR 36 35,qp 37 36,yr 38,yE 39,qC (.mup 1 (.t 37) (.t 38) (.t 39))]) 40 29 29 40)) (wn [xf 41,wD 42 be 41 wP] [xf 43,xo 44 3,qp 45 44,yf 46,xu 47 3,qp 48 47,wa 49 48,ws 50 yq [yj 49],wy 51 1 50,qn 52 bC [.t 43,.t 45,.t 46,.t 51]] (xb [xf 53,xf 54,xf 56,qW 57 56,qq 58 4 57,qp 59 58,xT 55 [.t 54,wP,ww,xB],wH 58 59,xF 60 [.t 53,xP,.t 55,.t 59,xB]] [xf 61,qW 62 61,xu 63 62,qK 64 3 63,qS 3 4 64]))))⟩
theorem BC:al Tryz.prog gZ=some pk:=by kernel_rfl
def iQ:FK:=⟨7,[xS 3 3],xb [yx 2 3,qV 3 (yI qB qB)] [qK 4 1 1,qK 5 3 2,wE 6 gZ 4 5,qS 3 3 6]⟩
theorem pf:al Tryz.prog cU=some iQ:=by kernel_rfl
def kz:FK:=⟨19,[xS 2 1,.t 3],ye [yx 1 1,qV 2 xG,wz 3] [qK 5 1 1,xa 6 mu 5,xd 7 6] 7 [ws 8 xG [],xp 2 8,wz 3] (wW [wR 9 1,qp 10 9,qb 11 (xY cU (wZ 1)),wE 12 cm 10 11,ws 13 xG [yj 12],qV 4 xG,xp 4 13] (wl [qK 14 1 4,xa 15 ju 14,xd 16 15] 16 [ws 17 xG [],xp 2 17,wz 3]) [qK 18 1 4,xp 2 18,qc 3 wu])⟩
theorem rS:al Tryz.prog cx=some kz:=by kernel_rfl
def pp:FK:=⟨4,xC,wW [yk] (wl [q6 3] 3 [qN 2 1]) [yk]⟩
theorem AW:al Tryz.prog le=some pp:=by kernel_rfl
def mT:FK:=⟨35,xC,qd [yk] (wW [wQ 3] (x9 [xJ] 0 [xR 5,q6 6,wa 7 6,wJ 8 5 7] 8 wv 1 (.reg [yT 11,yH,xR 13,wq 14 5 12 13,wR 15 14,q6 20,xR 21,wq 22 5 20 21,ym 23 22,q6 27,xR 28,wq 29 5 27 28,qq 30 4 29,qp 16 15,we 17 16 1,qp 24 23,qp 31 30,xa 18 le 17,wH 23 24,wH 30 31,wm 19 .add 11 18,xa 25 fU 24,wH 30 31,wm 26 .add 19 25,xa 32 fU 31,wm 33 .add 26 32,qf 3 33]) (xR 9) 10 9 4 10) (wT (yT 34) 2 34))⟩
theorem sC:al Tryz.prog fU=some mT:=by kernel_rfl
def gH:FK:=⟨25,xC,wn [yk] [q6 3,q6 4,qW 5 4,xu 6 5,xo 7 6,qp 8 7,qU 9 2 [qB,.nils] 0 [],qU 10 4 [qB,qB,.nils,qB] 0 [],yu 11 0 [],ws 12 [.nils,.nils,qB,qB,.nils] [yj 9,wY 1 10,wY 4 11],yR 13 5 [.nils,.nils,qB,qB,.nils] 1 5 12,xh 14 5 88 8 13,qW 15 3,xu 16 15,xo 17 16,xp 17 14] (qA [q6 18,qW 19 18,xu 20 19,xo 21 20,qp 22 21,wa 23 22,xx 24 23 1,qf 2 24])⟩
theorem kY:al Tryz.prog cM=some gH:=by kernel_rfl
def mg:FK:=⟨37,[],wn [q6 11,qW 12 11,xu 13 12,xo 14 13,q6 16,qW 17 16,qq 18 4 17,qp 15 14,qp 19 18,wq 20 5 15 19,qf 10 20] [yz 21,xq 22,qW 23 21,xo 24 23,xp 24 22] (wn [yz 25,qf 26 2,qW 27 25,ym 28 27,xp 28 26] [yz 29,yT 30,qW 31 29,qq 32 4 31,xp 32 30] (.reg [q6 33,xR 34,qW 35 33,qq 36 4 35,xp 36 34]))⟩
theorem uI:al Tryz.prog bQ=some mg:=by kernel_rfl
def lF:FK:=⟨19,xC,wn [yk] [q6 3,q6 4,qW 5 4,xu 6 5,xu 7 6,qp 8 7,xD 9 8,qW 10 3,xu 11 10,xu 12 11,xp 12 9] (qA [q6 13,qW 14 13,xu 15 14,xu 16 15,qp 17 16,xx 18 17 1,qf 2 18])⟩
theorem tt:al Tryz.prog bY=some lF:=by kernel_rfl
def jt:FK:=⟨37,xn 10,wn [wQ 10] [yH,qW 13 12,xu 14 13,xo 15 14,q6 17,qW 18 17,qq 19 4 18,qp 16 15,qp 20 19,wq 21 5 16 20,qf 11 21] (xb [qf 22 11,qf 23 11,qW 24 23,xu 25 24,qp 26 25,xq 27,qf 28 2,xR 29,yT 30,ws 31 [qB,qB,.nils,qB] [yj 27,wY 1 28,wY 2 29,wY 3 30],yR 32 4 [qB,qB,.nils,qB] 1 4 31,xh 33 4 48 26 32,qW 34 22,xu 35 34,xp 35 33] (wT (qf 36 2) 10 36))⟩
theorem uR:al Tryz.prog cI=some jt:=by kernel_rfl
def jf:FK:=⟨34,xA,wW [xJ] (xy [q6 6,qW 7 6,qq 8 5 7,qp 9 8,wa 10 9,xx 11 10 1,qf 5 11] 0 [xf 12,qy 13 .geq 12 0] 13 wv 1 (wl [q6 16,qW 17 16,qq 18 5 17,qp 19 18,xf 20,wq 21 3 19 20,wR 22 21,qp 23 22,xq 24,qb 25 (yv .eql 23 (.t 24))] 25 [q6 26,qW 27 26,qq 28 5 27,qp 29 28,xf 30,wq 31 3 29 30,xu 32 31,qp 33 32,qf 4 33]) (xZ (xf 14) (xx 15 14 1) 5 15)) [qN 4 (-1)]⟩
theorem vA:al Tryz.prog fk=some jf:=by kernel_rfl
def nF:FK:=⟨56,xA,wn [wy 3 4 1,xJ] [q6 11,ym 12 3,qp 13 12,wj 14 4 13 ww,yS 15 14,wE 16 bA 11 15,qf 5 16] (wn [q6 17,q6 18,yb 19 18,yu 20 0 [],xv 21 [.t 17,wP,.t 19,ww,.t 20],qf 6 21] (xZ (q6 22) (xI 23 22) 7 23) (wn (xZ (q6 24) (xI 25 24) 8 25) [q6 26,xf 27,yE 28,yr 29,yu 30 2 [yj 28,wY 1 29],yE 31,xO 32 [.t 26,xK,.t 27,.t 30,.t 31]] (wn [q6 33,ym 34 3,qp 35 34,wj 36 4 35 wP,yS 37 36,wE 38 bA 33 37,qf 9 38] [q6 39,q6 40,yb 41 40,qf 42 9,yu 43 1 [yj 42],xv 44 [.t 39,qj 10,.t 41,ww,.t 43],qf 10 44] (wn [q6 45,yf 46,yz 47,yu 48 1 [yj 47],xv 49 [.t 45,qj 10,.t 46,ww,.t 48]] [q6 50,yr 51,yu 52 1 [yj 51],yr 53,xO 54 [.t 50,wP,ww,.t 52,.t 53]] (qA (wT (yf 55) 4 55))))))⟩
theorem uS:al Tryz.prog ja=some nF:=by kernel_rfl
def dk:FK:=⟨84,xA,qQ [wy 3 4 1,xJ] (qd [wR 7 3,qp 8 7] (.blk 0 (xM 10 8 1 9 10 9 (qA [q6 11,yH,xu 14 3,xE 16 1 yq 0 [],qp 15 14,yb 13 12,wH 14 15,xv 17 [.t 11,wP,.t 13,.t 15,.t 16],qf 4 17]) (xM 19 8 2 18 19 18 (qA [q6 20,xo 21 3,qp 22 21,wE 23 fk 20 22,qf 4 23]) (wl (wU 25 8 10 24 25) 24 [q6 26,yS 27 3,wE 28 ja 26 27,qf 4 28]))))) (qQ (wT (yu 29 0 []) 5 29) (x9 [wQ 6] 1 [yf 30,ym 31 3,qp 32 31,wa 33 32,wJ 34 30 33] 34 (.exit 1) 2 (.reg [xf 37,q6 38,ym 39 3,qp 40 39,yf 41,wq 42 4 40 41,yS 43 42,wE 44 bA 38 43,yu 45 1 [yj 44],xh 46 1 8 37 45,qf 5 46]) (yf 35) 36 35 6 36) (yW (qd [wR 47 3,qp 48 47] (.blk 3 (xM 50 48 11 49 50 49 (qA [q6 51,q6 52,yb 53 52,xf 54,xv 55 [.t 51,qj 10,.t 53,ww,.t 54],qf 4 55]) (xM 57 48 12 56 57 56 (qA [q6 58,q6 59,yb 60 59,xf 61,xv 62 [.t 58,qj 11,.t 60,ww,.t 61],qf 4 62]) (wl (wU 64 48 13 63 64) 63 [q6 65,q6 66,q6 68,qW 69 68,wR 70 69,xo 72 3,xf 75,qK 71 1 70,qp 73 72,yb 67 66,wd (some 1) 70 71,wH 72 73,wE 74 jT 71 73,xv 76 [.t 65,qj 14,.t 67,.t 74,.t 75],qf 4 76]))))) [q6 77,wR 78 3,q6 80,xf 82,qp 79 78,yb 81 80,wH 78 79,xv 83 [.t 77,.t 79,.t 81,ww,.t 82],qf 4 83]))⟩
theorem tz:al Tryz.prog bA=some dk:=by kernel_rfl
def mr:FK:=⟨41,[],wn [wy 3 5 1] (xZ (q6 8) (xI 9 8) 4 9) (wn (xZ (q6 10) (xI 11 10) 5 11) (xZ yH (xI 13 12) 6 13) (wn [q6 14,xR 15,yu 16 1 [yj 15],xR 17,xO 18 [.t 14,wP,ww,.t 16,.t 17]] [q6 19,xo 20 3,qp 21 20,wj 22 4 21 ww,yS 23 22,wE 24 bA 19 23,qf 7 24] (wn [q6 25,yE 26,xf 27,yf 28,yu 29 2 [yj 27,wY 1 28],xf 30,xO 31 [.t 25,xK,.t 26,.t 29,.t 30]] [q6 32,ym 33 3,qp 34 33,wE 35 bH 32 34] (.reg [q6 36,xR 37,yu 38 1 [yj 37],yf 39,xO 40 [.t 36,wP,ww,.t 38,.t 39]]))))⟩
theorem tS:al Tryz.prog gT=some mr:=by kernel_rfl
def iI:FK:=⟨132,[],ye [wy 3 5 1] [wR 9 3,qp 10 9,we 11 10 6] 11 [yH,qK 13 5 3,wE 14 gT 12 13] (qQ (wT (yu 15 0 []) 4 15) (x9 [wQ 5] 0 [xf 16,xo 17 3,qp 18 17,wa 19 18,wJ 20 16 19] 20 wv 1 (.reg [xR 23,q6 24,xo 25 3,qp 26 25,xf 27,wq 28 4 26 27,yS 29 28,wE 30 bA 24 29,yu 31 1 [yj 30],xh 32 1 8 23 31,qf 4 32]) (xf 21) 22 21 5 22) (qd [wR 33 3,qp 34 33] (.blk 2 (xM 36 34 1 35 36 35 (wn [q6 37,q6 38,qW 39 38,qq 40 6 39,qp 41 40,xR 42,xv 43 [.t 37,xK,.t 41,ww,.t 42]] [q6 44,q6 45,qW 46 45,qq 47 5 46,xu 49 3,q6 51,qW 52 51,qq 53 6 52,qp 48 47,qp 50 49,qp 54 53,ws 55 [qM,qB,qB] [yj 50,wY 1 54,(2,1,ww)],xE 56 3 [qM,qB,qB] 1 (yQ 3 55),xh 57 3 32 48 56,qW 58 44,qq 59 5 58,xp 59 57] (.reg [q6 60,q6 61,qW 62 61,qq 63 6 62,qp 64 63,xD 65 64,qW 66 60,qq 67 6 66,xp 67 65])) (xM 69 34 2 68 69 68 (.reg [q6 70,q6 71,xu 72 3,qp 73 72,wE 74 fk 71 73,xR 75,xv 76 [.t 70,xK,.t 74,ww,.t 75]]) (xM 78 34 3 77 78 77 (.reg [q6 79,xR 80,xv 81 [.t 79,qj 13,qj (-1),ww,.t 80]]) (xM 83 34 4 82 83 82 (.reg [q6 84,xR 85,xv 86 [.t 84,qj 12,qj (-1),ww,.t 85]]) (xM 88 34 7 87 88 87 (.reg [q6 89,xR 90,wj 91 1 90 ww,xE 93 1 yq 0 [],q6 94,qp 92 91,xI 95 94,wH 91 92,xO 96 [.t 89,xP,.t 92,.t 93,.t 95]]) (qT (wU 98 34 5 97 98) 97 (wn (xZ (q6 99) (xI 100 99) 6 100) (xZ (q6 101) (xI 102 101) 7 102) (wn (xZ (q6 103) (xI 104 103) 8 104) [q6 105,xR 106,wj 107 1 106 ww,qp 108 107,yf 109,yE 110,yu 111 2 [yj 109,wY 1 110],yf 112,xO 113 [.t 105,xK,.t 108,.t 111,.t 112]] (wn [q6 114,ym 115 3,qp 116 115,wE 117 bH 114 116] [q6 118,yr 119,yu 120 1 [yj 119],yE 121,xO 122 [.t 118,wP,ww,.t 120,.t 121]] (yy [q6 123,qq 124 4 3,qp 125 124,wE 126 bH 123 125] [q6 127,yr 128,yu 129 1 [yj 128],yr 130,xO 131 [.t 127,wP,ww,.t 129,.t 130]])))))))))))))⟩
theorem ut:al Tryz.prog iy=some iI:=by kernel_rfl
def gD:FK:=⟨32,[],qQ [q6 6,qW 7 6,qq 8 5 7,qp 9 8,wa 10 9,yz 4] (x9 [wQ 5] 0 [xf 11,xq 12,wa 13 12,wJ 14 11 13] 14 wv 1 (.reg [q6 17,xq 18,xf 19,wq 20 5 18 19,qK 21 5 20,wE 22 iy 17 21]) (xf 15) 16 15 5 16) (.reg [q6 23,q6 24,qW 25 24,qq 26 5 25,qp 27 26,xR 28,qb 29 (.slS 3 (.t 27) none (some (.t 28))),qW 30 23,qq 31 5 30,xp 31 29])⟩
theorem sT:al Tryz.prog bH=some gD:=by kernel_rfl
def zb:FK:=⟨80,[xS 4 3],wn [yx 2 1,qV 4 (yI qB qB)] [wR 9 2,qp 10 9,xq 11,wq 12 3 10 11,qK 13 3 12,qV 5 yK,qS 3 5 13] (wn [qK 14 1 2,xu 15 5,qp 16 15,wa 17 16,ws 18 [.nils,qB,qB,.nils,qB,.nils,qB,.nils] [yj 14,wY 6 17],wy 19 8 18,qf 6 19] [yf 20,xu 21 5,qp 22 21,wa 23 22,qW 24 20,xu 25 24,wR 26 25,xp 26 23] (qQ [yf 27,xu 28 5,xo 31 5,qp 29 28,wa 30 29,qp 32 31,xa 33 fU 32,wH 28 29,wm 34 .add 30 33,qW 35 27,xu 36 35,xu 37 36,xp 37 34] (x9 [wQ 7] 0 [yE 38,xu 39 5,qp 40 39,wa 41 40,wJ 42 38 41] 42 wv 1 (.reg [yf 45,yf 46,qW 47 46,qq 48 5 47,xu 50 5,yE 52,yE 55,qp 49 48,qp 51 50,wq 53 1 51 52,qp 54 53,ws 56 [qM,qB,qB] [yj 54,wY 1 55,(2,1,ww)],xE 57 3 [qM,qB,qB] 1 (yQ 3 56),xh 58 3 32 49 57,qW 59 45,qq 60 5 59,xp 60 58]) (yE 43) 44 43 7 44) (wn [yf 61,xI 62 61] [yf 63,xo 64 5,qp 65 64,wE 66 bH 63 65] (wn [yf 67,yf 68,yb 69 68,yu 70 0 [],xv 71 [.t 67,wP,.t 69,ww,.t 70],qf 8 71] [yf 72,yr 73,yu 74 0 [],xO 75 [.t 72,xP,.t 73,.t 74,ww]] (qA [yf 76,qW 77 76,xu 78 77,qK 79 3 78,qS 3 4 79])))))⟩
theorem Gh:al Tryz.prog mb=some zb:=by kernel_rfl
def sH:FK:=⟨22,[xS 2 1],qd [yx 1 1,qV 2 xG] (wW [ws 5 xG [],qV 3 xG,xp 3 5] (x9 [xJ] 0 [xR 6,wR 7 1,qp 8 7,wa 9 8,wJ 10 6 9] 10 wv 1 (.reg [wR 13 3,xR 16,qp 14 13,qK 15 1 1,wE 17 mb 15 16,wH 13 14,xE 18 3 (yI qB qB) 1 (yQ 3 17),xh 19 3 40 14 18,wR 20 3,xp 20 19]) (xR 11) 12 11 4 12) [qK 21 1 3,xp 2 21])⟩
theorem CC:al Tryz.prog jv=some sH:=by kernel_rfl
def sI:FK:=⟨21,xA,wW [yx 2 3,xt] (x9 [wQ 5] 0 [xf 6,xq 7,wa 8 7,wJ 9 6 8] 9 wv 1 (wl [xq 12,xf 13,wq 14 1 12 13,xu 16 2,qp 15 14,qp 17 16,xx 18 17 1,xW 19 bt 15 ww 18,xd 20 19] 20 [xt]) (xf 10) 11 10 5 11) [qc 4 wu]⟩
theorem Cp:al Tryz.prog jH=some sI:=by kernel_rfl
def rg:FK:=⟨13,xC,xb [x8] [q6 3,xV 4 bt 3 wP (qj 14),xR 5,xQ 6 5 0,xm 7 5 .neq 6 (qj 12),xX 8 5 7,yr 9,xQ 10 9 0,xm 11 9 .neq 10 (qj 13),xX 12 9 11,qf 2 12]⟩
theorem Cg:al Tryz.prog ic=some rg:=by kernel_rfl
def dr:FK:=⟨28,xC,wW [yk] (.blk 0 (qD [q6 4,we 5 4 1,xf 3] 3 (qA [yk]) (qD [q6 7,we 8 7 2,yr 9,xe 10 9 0,xH 11 9 .eql 10 (qj 10),xw 12 9 11,qf 13 12,xe 14 13 0,xH 15 13 .eql 14 (qj 11),xw 16 13 15,qf 17 16,xe 18 17 0,xH 19 17 .eql 18 (qj 13),xw 20 17 19,qf 6 20] 6 (qA [qN 2 1]) (wl [q6 22,xV 23 bt 22 xP (qj 9),qf 24 23,xe 25 24 0,xH 26 24 .eql 25 (qj 12),xw 27 24 26,qf 21 27] 21 [qN 2 2])))) [qN 2 (-1)]⟩
theorem CL:al Tryz.prog mZ=some dr:=by kernel_rfl
def uA:FK:=⟨88,xn 6,qd [yx 3 1,wy 5 4 2,yX] (ye [wR 8 3,qp 9 8,xq 10,wq 11 3 9 10,qK 12 3 11,qV 7 (yI qB qB),qS 3 7 12] [wR 13 5,qp 14 13,xV 15 bt 14 wP (qj 14),xd 16 15,qf 17 16,qG 18 17 (qi (some 3) 7),wX 19 17 2 5,wV 20 17 19,xi 21 17 jH (wB 18 (.t 20)),ya 22 17 21,xw 23 17 22] 23 [yX] (.seq (wl [wR 24 5,xu 27 5,xu 29 7,qp 25 24,qp 28 27,qp 30 29,xx 31 30 1,xa 26 ic 25,wH 27 28,wH 29 30,xW 32 bt 28 ww 31,qb 33 (.beq true (.t 26) (.t 32)),qf 34 33,wX 35 34 0 5,wV 36 34 35,xi 37 34 ic (wZ 36),ya 38 34 37,xe 39 34 38,wS 40 39 1 5,wM 41 39 40,xm 42 39 .neq 41 (qj (-1)),qG 43 34 (qL 39 (.t 42) qP),xw 44 34 43] 44 [yX]) (yW (wl [wR 45 5,qp 46 45,we 47 46 14] 47 [ym 48 5,xq 50,xx 51 50 1,qp 49 48,xW 52 bt 49 ww 51,qf 53 52,wS 54 53 2 5,wS 57 53 0 3,wS 59 53 3 5,wM 55 53 54,qH 56 53 (qY 55),wM 58 53 57,wM 60 53 59,qH 61 53 (qO 3 58 (.t 60)),wS 62 53 0 61,wM 63 53 62,xm 64 53 .eql 56 (.t 63),xX 65 53 64,qf 6 65]) [xo 66 5,wR 69 5,qp 67 66,wa 68 67,qp 70 69,xa 71 mZ 70,wH 66 67,wm 72 .eql 68 71,qf 73 72,wS 74 73 3 5,wM 75 73 74,yM 76 73 bt (xU 75 ww (qj 255)),xX 77 73 76,qf 78 77,wS 79 78 3 5,wM 80 78 79,xm 81 78 .eql 80 ww,xQ 82 78 81,wX 83 82 0 5,wV 84 82 83,xH 85 82 .eql 84 wP,qH 86 78 (qL 82 wu (.t 85)),xX 87 78 86,qf 6 87])))⟩
theorem DY:al Tryz.prog oe=some uA:=by kernel_rfl
def pA:FK:=⟨43,xA,qd [yx 2 3,qc 4 xB] (wW (wT (yu 8 0 []) 5 8) (x9 [wQ 6] 0 [yf 9,xo 10 2,qp 11 10,wa 12 11,wJ 13 9 12] 13 wv 1 (x9 [wQ 7] 2 [yE 16,xo 17 2,qp 18 17,yf 19,wq 20 5 18 19,qq 21 4 20,qp 22 21,wa 23 22,wJ 24 16 23] 24 (.exit 2) 3 (qT [xo 27 2,qp 28 27,yf 29,wq 30 5 28 29,qq 31 4 30,qp 32 31,yE 33,wq 34 1 32 33,qp 35 34,xq 36,wm 37 .eql 35 36] 37 (qd [xf 38,yf 39,yu 40 1 [yj 39],xh 41 1 8 38 40,qf 5 41] (.exit 2))) (yE 25) 26 25 7 26) (yf 14) 15 14 6 15) (wT (xf 42) 4 42))⟩
theorem Ab:al Tryz.prog iC=some pA:=by kernel_rfl
def lP:AK:=wn [yx 3 1,yX] [wR 14 3,qp 15 14,xq 16,wq 17 3 15 16,qK 18 3 17,qV 7 (yI qB qB),qS 3 7 18] (wn [xo 19 7,qp 20 19,qf 21 2,wq 22 5 20 21,qK 23 5 22,qV 8 [.nils,.nils,qB,qB,.nils],qS 5 8 23] [qN 9 1] (yp (qd [xo 24 8,qp 25 24] (.blk 0 (xM 27 25 1 26 27 26 (wl [ym 28 8,qp 29 28,qy 30 .neq 29 0] 30 [yX]) (xM 32 25 2 31 32 31 (.reg [qN 9 2]) (xM 34 25 3 33 34 33 (.reg [wQ 9]) (qA [yX])))))) (wl [qq 35 4 8,qp 36 35,wa 37 36,qf 38 9,wm 39 .neq 37 38,qf 40 39,wX 41 40 2 8,wV 42 40 41,xH 43 40 .neq 42 wP,xe 44 40 43,wS 45 44 3 8,wM 46 44 45,wS 47 44 1 7,wM 48 44 47,xm 49 44 .sub 48 wP,yM 50 44 bt (xU 46 ww (.t 49)),qH 51 44 (q9 50),qG 52 40 (qL 44 (.t 51) qP),xw 53 40 52] 53 [yX]) (yp (x9 [wQ 10] 1 [yz 54,qq 55 4 8,qp 56 55,wa 57 56,wJ 58 54 57] 58 (.exit 1) 2 (wl [qq 61 4 8,yz 63,xo 66 7,qp 62 61,wq 64 1 62 63,qp 65 64,qp 67 66,wa 68 67,xx 69 68 1,xW 70 bt 65 wP 69,xd 71 70] 71 [yX]) (yz 59) 60 59 10 60) (x9 [wQ 11] 3 [qf 72 11,xu 73 8,qp 74 73,wa 75 74,wJ 76 72 75] 76 (.exit 3) 4 (wl [xq 80,xu 81 8,qf 83 11,qK 79 1 3,qp 82 81,wq 84 4 82 83,yS 85 84,yP 86 oe 79 80 85,xd 87 86] 87 [yX]) (qf 77 11) 78 77 11 78) (qd [qK 88 3 7,qf 89 2,wE 90 iC 88 89,qf 12 90] (.cut (x9 [wQ 13] 5 [qf 91 13,wR 92 8,qp 93 92,wa 94 93,wJ 95 91 94] 95 (.exit 5) 6 (wl [qf 98 2,we 99 98 0,qf 100 99,wX 101 100 0 8,xe 103 100 13,xe 108 100 12,qG 109 100 (qY 108),wV 102 100 101,qG 104 100 (qO 2 102 (.t 103)),wX 105 100 1 104,wV 106 100 105,qG 107 100 (qY 106),xH 110 100 .neq 107 (.t 109),xw 111 100 110,qf 112 111,wX 114 112 0 8,xe 116 112 13,qG 113 112 (qi (some 3) 7),wV 115 112 114,qG 117 112 (qO 2 115 (.t 116)),wX 118 112 1 117,wV 119 112 118,xi 120 112 jH (wB 113 (.t 119)),ya 121 112 120,xw 122 112 121,qf 123 122,wX 124 123 0 8,xe 126 123 13,wX 130 123 1 7,wV 125 123 124,qG 127 123 (qO 2 125 (.t 126)),wX 128 123 0 127,wV 129 123 128,wV 131 123 130,xH 132 123 .sub 131 wP,yg 133 123 (xU 129 ww (.t 132)),ya 134 123 133,xw 135 123 134] 135 [yX]) (qf 96 13) 97 96 13 97) (qA [qc 6 wu]))))))
def ln:FK:=⟨136,xn 6,(AK.whole lP)⟩
theorem BG:al Tryz.prog lw=some ln:=by kernel_rfl
def nw:FK:=⟨76,xC,ye [yx 1 1,x8] [wR 7 1,qp 8 7,wa 9 8,xV 10 bt 9 wP (qj 4),xd 11 10] 11 [x8] (wW [wQ 3] (x9 [xJ] 0 [xR 12,wR 13 1,qp 14 13,wa 15 14,wJ 16 12 15] 16 wv 1 (ye [wR 19 1,qp 20 19,xR 21,wq 22 3 20 21,qK 23 3 22,qV 5 (yI qB qB),qS 3 5 23] [wR 24 5,qp 25 24,xV 26 bt 25 ww xP,xd 27 26,qf 28 27,wX 29 28 1 5,wV 30 28 29,wX 31 28 0 5,wV 32 28 31,yg 33 28 (xU 30 (.t 32) (qj 300)),ya 34 28 33,xw 35 28 34,qf 36 35,wX 37 36 2 5,wV 38 36 37,qG 39 36 (qY 38),yg 40 36 (xU 39 wP (qj 160)),ya 41 36 40,xw 42 36 41] 42 [x8] (x9 [wQ 6] 2 [yf 43,xo 44 5,qp 45 44,wa 46 45,wJ 47 43 46] 47 (.exit 2) 3 (qd [yT 50,xo 51 5,yf 53,xo 59 5,yf 61,qp 52 51,wq 54 5 52 53,xu 55 54,qp 56 55,wa 57 56,wm 58 .add 50 57,qp 60 59,wq 62 5 60 61,wR 63 62,qp 64 63,wa 65 64,wm 66 .add 58 65,qf 3 66] (wl [yT 67,qy 68 .gtr 67 800,qf 69 68,qG 70 69 (qi (some 1) 1),xe 71 69 4,xe 72 69 6,xi 73 69 lw (xU 70 (.t 71) (.t 72)),ya 74 69 73,xw 75 69 74] 75 [x8])) (yf 48) 49 48 6 49)) (xR 17) 18 17 4 18) [qc 2 wu])⟩
theorem uJ:al Tryz.prog je=some nw:=by kernel_rfl
def kC:FK:=⟨16,[xS 2 1,.t 3],ye [yx 1 1,qV 2 xG,wz 3] [qK 5 1 1,xa 6 mJ 5,xd 7 6] 7 [ws 8 xG [],xp 2 8,wz 3] (wW [qK 9 1 1,xa 10 jv 9,qV 4 xG,xp 4 10] (wl [qK 11 1 4,xa 12 je 11,xd 13 12] 13 [ws 14 xG [],xp 2 14,wz 3]) [qK 15 1 4,xp 2 15,qc 3 wu])⟩
theorem rA:al Tryz.prog dA=some kC:=by kernel_rfl
def pn:FK:=⟨40,xA,wW [qc 4 xB] (x9 [wQ 5] 0 [xf 6,q6 7,wa 8 7,wJ 9 6 8] 9 wv 1 (qZ (xN [yH,xf 13,wq 14 5 12 13,wR 15 14,qp 16 15,we 17 16 1] 17 [xq 18,q6 19,xf 20,wq 21 5 19 20,xu 22 21,qp 23 22,yt 24 [qM] 1 [yj 23],xh 25 1 16 18 24,qf 1 25]) [q6 26,xf 27,wq 28 5 26 27,qq 29 4 28,q6 31,xf 32,wq 33 5 31 32,ym 34 33,xq 36,qp 30 29,qp 35 34,wE 37 fg 35 36,wH 29 30,wE 38 fg 30 37,qf 1 38]) (xf 10) 11 10 5 11) (wT (xq 39) 4 39)⟩
theorem AM:al Tryz.prog fg=some pn:=by kernel_rfl
def sy:FK:=⟨55,xn 6,qd [yx 3 1,wQ 6] (ye [qK 12 1 3,xa 13 dA 12,qf 11 13,xj 14 0 11,xj 15 1 11,qV 7 xG,xp 7 14,qf 8 15] [yr 16,xd 17 16,qf 18 17,xe 19 18 1,wX 20 18 0 3,wV 21 18 20,qG 22 18 (qY 21),xH 23 18 .sub 22 wP,yg 24 18 (xU 19 ww (.t 23)),ya 25 18 24,xw 26 18 25] 26 [qN 6 (-1)] (wW [wR 27 3,xq 29,wR 34 3,xq 36,qp 28 27,wq 30 3 28 29,xo 31 30,qp 32 31,qp 35 34,wq 37 3 35 36,xu 38 37,qp 39 38,yt 33 [qM] 0 [],wH 27 28,wH 31 32,wH 34 35,wH 38 39,xh 40 1 16 33 39,wH 27 28,wH 31 32,wE 41 fg 32 40,qf 9 41] (x9 [wQ 10] 0 [yz 42,qf 43 9,wa 44 43,wJ 45 42 44] 45 wv 1 (wl [qf 48 9,yz 49,wq 50 1 48 49,qp 51 50,qf 52 2,qb 53 (yv .eql 51 (.t 52))] 53 (wT (yz 54) 6 54)) (yz 46) 47 46 10 47) [qN 6 (-1)]))⟩
theorem CE:al Tryz.prog jE=some sy:=by kernel_rfl
def iR:FK:=⟨8,xC,wW [qc 2 xB] (wl [q6 3,qb 4 (.snil false (.t 3))] 4 [qc 2 xB]) [yt 5 [qM] 0 [],q6 6,xh 7 1 16 5 6,yE 2]⟩
theorem pc:al Tryz.prog ey=some iR:=by kernel_rfl
def gh:FK:=⟨13,[],qd [yx 3 5] (xN [wR 5 3,qp 6 5,we 7 6 1] 7 [qp 8 2,xu 9 3,qp 10 9,yt 11 [qM] 1 [yj 10],xh 12 1 16 8 11,xp 2 12])⟩
theorem zA:al Tryz.prog kw=some gh:=by kernel_rfl
def sE:FK:=⟨44,xn 6,qd [yx 3 1,wQ 6] (ye [qK 11 1 3,xa 12 cx 11,qf 10 12,xj 13 0 10,xj 14 1 10,qV 7 xG,xp 7 13,qf 8 14] [yr 15,xd 16 15,qf 17 16,xe 18 17 1,wX 19 17 0 7,wV 20 17 19,qG 21 17 (qY 20),xH 22 17 .sub 21 wP,xi 23 17 aT (xU 18 ww (.t 22)),ya 24 17 23,xw 25 17 24] 25 [qN 6 (-1)] (wn [wR 26 3,qp 27 26,xq 28,wq 29 3 27 28,xu 30 29,qp 31 30,xa 32 ey 31,qV 9 xG,xp 9 32] [wR 33 3,qp 34 33,xq 35,wq 36 3 34 35,xo 37 36,qp 38 37,qb 39 (xY kw (wZ 9)),xW 40 dm 38 wP 39] (qA [qp 41 9,qf 42 2,wE 43 cV 41 42,qf 6 43])))⟩
theorem Cq:al Tryz.prog jG=some sE:=by kernel_rfl
def md:FK:=⟨25,[xS 2 1,.t 3,.t 4],wn [qV 2 xG,wQ 3,qc 4 yU] (xZ (q6 7) (xa 8 lq 7) 5 8) (xb [xf 9,xa 10 na 9,qV 6 xG,xp 6 10] [xf 12,wR 13 6,wR 17 6,xf 22,xE 23 1 [qM] 8 [yO 0 [97],yO 1 [98],yO 2 [99],yO 3 [100],yO 4 [101],yO 5 [103],yO 6 [122,122],(7,1,yU)],qK 11 1 6,qp 14 13,wa 15 14,xx 16 15 1,qp 18 17,wa 19 18,xE 20 1 yq 4 [yj 16,(1,1,ww),yG 2 (-1),wY 3 19],xl 21 12 20,wd (some 1) 6 11,xL 24 22 23,wd (some 1) 6 11,xp 2 11,qf 3 21,qf 4 24])⟩
theorem tv:al Tryz.prog iH=some md:=by kernel_rfl
def nn:FK:=⟨23,xA,wW [yx 2 1,xJ] (wl [qK 5 1 2,xa 6 mu 5,xd 7 6,yE 8,xe 9 8 1,wX 10 8 0 2,wV 11 8 10,qG 12 8 (qY 11),xH 13 8 .sub 12 wP,xi 14 8 aT (xU 9 ww (.t 13)),ya 15 8 14,xw 16 8 15] 16 [qN 4 (-1)]) [wR 17 2,qp 18 17,xq 19,wq 20 3 18 19,qK 21 3 20,xa 22 gt 21,qf 4 22]⟩
theorem vo:al Tryz.prog jm=some nn:=by kernel_rfl
def oD:FK:=⟨88,xC,ye [x8] [yH,wa 13 12,qy 14 .gtr 13 1048576] 14 [qc 2 wu] (qd [q6 16,xa 17 iH 16,qf 15 17,xj 18 0 15,xj 19 1 15,xj 20 2 15,qV 3 xG,xp 3 18,qf 4 19,qf 5 20] (ye [qK 21 1 3,xR 22,xf 23,yP 24 jG 21 22 23,qf 6 24] [yf 25,qK 26 1 3,xR 27,xf 28,yP 29 jE 26 27 28,wm 30 .neq 25 29,qf 31 30,xe 32 31 6,xH 33 31 .lss 32 ww,xw 34 31 33] 34 [yf 35,qK 36 1 3,xR 37,xf 38,yP 39 jE 36 37 38,wm 40 .eql 35 39,qf 41 40,xQ 42 41 6,xm 43 41 .eql 42 (qj (-1)),xX 44 41 43,qf 2 44] (qQ [qK 45 1 3,xR 46,wE 47 jm 45 46,qf 7 47] (yA [wR 48 3,qp 49 48,xR 50,wq 51 3 49 50,xu 52 51,qp 53 52,wa 54 53,wQ 55] 0 [wJ 56 55 54] 56 wv (yB 1 (qd [qf 57 55,wq 58 1 53 55,qp 59 58,qf 8 57,qf 9 59] (wl [qK 60 1 3,xR 61,qf 62 9,yP 63 jG 60 61 62,yr 64,wm 65 .neq 63 64] 65 [x8])) 66 55 55 66)) (xb [qK 68 1 3,xa 69 cx 68,qf 67 69,xj 70 0 67,xj 71 1 67,qV 10 xG,xp 10 70,qf 11 71] [qf 72 11,qf 73 72,xQ 74 73 6,xQ 75 73 7,xm 76 73 .lss 74 (.t 75),xX 77 73 76,qf 78 77,xQ 79 78 7,wS 80 78 0 10,wM 81 78 80,xQ 82 78 4,qH 83 78 (qO 3 81 (.t 82)),wS 84 78 1 83,wM 85 78 84,xm 86 78 .lss 79 (.t 85),xX 87 78 86,qf 2 87]))))⟩
theorem zz:al Tryz.prog oQ=some oD:=by kernel_rfl
end Go.Proofs.YtghpabfdmbdpfaaGreatDoor
