/-
  Contracts and lemmas that the card needs, part 4.
-/
import Derived.Test.YtdfplkcigiblcaaGreatFp3
import Derived.Test.YtdfplkcigiblcaaGreatRows
namespace Go.Proofs.YtdfplkcigiblcaaGreat
open Go Go.Aw
set_option maxRecDepth 100000
abbrev da:FuncId:=54
abbrev bG:FuncId:=104
abbrev bi:FuncId:=105
abbrev iP:FuncId:=95
abbrev ft:FuncId:=168
abbrev db:FuncId:=169
abbrev je:FuncId:=153
abbrev fF:FuncId:=154
abbrev jj:FuncId:=141
abbrev bB:FuncId:=96
abbrev dD:FuncId:=125
abbrev dN:FuncId:=152
abbrev jf:FuncId:=140
abbrev eL:FuncId:=124
abbrev iW:FuncId:=118
abbrev bK:FuncId:=179
abbrev fp:FuncId:=183
abbrev bl:FuncId:=172
abbrev eF:FuncId:=162
abbrev dO:FuncId:=189
abbrev cr:FuncId:=180
abbrev cS:FuncId:=181
abbrev eD:FuncId:=182
abbrev ee:FuncId:=171
abbrev aQ:FuncId:=161
abbrev dK:FuncId:=143
abbrev gQ:FuncId:=194
abbrev gD:FuncId:=190
abbrev kq:FuncId:=184
abbrev dJ:FuncId:=191
abbrev kw:FuncId:=185
abbrev bQ:FuncId:=173
abbrev fB:FuncId:=192
abbrev fz:FuncId:=197
abbrev dH:FuncId:=195
abbrev ec:FuncId:=196
abbrev de:FuncId:=193
abbrev fm:FuncId:=186
abbrev bC:FuncId:=174
abbrev lL:FuncId:=163
abbrev dc:FuncId:=175
abbrev kg:FuncId:=164
abbrev dv:FuncId:=144
abbrev fy:FuncId:=127
abbrev en:FuncId:=76
abbrev dI:FuncId:=155
abbrev bT:FuncId:=156
abbrev bp:FuncId:=160
abbrev bv:FuncId:=159
abbrev bR:FuncId:=158
abbrev dj:FuncId:=178
abbrev fc:FuncId:=187
abbrev lC:FuncId:=188
abbrev bc:FuncId:=177
abbrev er:FuncId:=176
abbrev ey:FuncId:=170
abbrev bg:FuncId:=157
abbrev iR:FuncId:=142
abbrev fu:FuncId:=126
abbrev fq:FuncId:=166
abbrev ke:FuncId:=165
abbrev gv:FuncId:=145
abbrev eS:FuncId:=128
abbrev gx:FuncId:=119
abbrev gF:FuncId:=90
abbrev dZ:FuncId:=53
abbrev bD:FuncId:=120
abbrev bm:FuncId:=91
abbrev cC:FuncId:=121
abbrev br:FuncId:=93
abbrev dB:FuncId:=61
abbrev dV:FuncId:=94
abbrev dp:FuncId:=92
abbrev ew:FuncId:=55
abbrev oF:FuncId:=101
abbrev dS:FuncId:=98
abbrev bu:FuncId:=62
abbrev cn:FuncId:=18
abbrev cZ:FuncId:=57
abbrev im:FuncId:=19
abbrev bq:FuncId:=99
abbrev dL:FuncId:=63
abbrev lw:FuncId:=21
abbrev mw:FuncId:=20
abbrev ku:FuncId:=22
abbrev aN:FuncId:=103
abbrev fg:FuncId:=65
abbrev fh:FuncId:=25
abbrev fA:FuncId:=66
abbrev fH:FuncId:=26
abbrev aM:FuncId:=106
abbrev cg:FuncId:=67
abbrev cI:FuncId:=74
abbrev bV:FuncId:=68
abbrev cV:FuncId:=70
abbrev dA:FuncId:=35
abbrev eJ:FuncId:=111
abbrev dh:FuncId:=87
abbrev cT:FuncId:=48
abbrev ck:FuncId:=114
abbrev bH:FuncId:=85
abbrev cA:FuncId:=115
abbrev dm:FuncId:=86
abbrev eY:FuncId:=49
abbrev fS:FuncId:=116
abbrev di:FuncId:=88
abbrev gJ:FuncId:=117
abbrev fQ:FuncId:=89
abbrev dg:FuncId:=50
abbrev dk:FuncId:=51
abbrev fU:FuncId:=52
abbrev ib:FuncId:=13
@[reducible] def qa(a:Nat)(b:Option (Nat × Bool))(c:AI):CO:=⟨some a,b,c⟩
@[reducible] def qb(a:Nat)(b:AI):CO:=qa a none b
@[reducible] def qc(a:Nat)(b:AOp):CO:=qb a (.mov b)
@[reducible] def qd(a:IntKind)(b:Int):AV:= .p (.int a b)
@[reducible] def qe(a:List CO)(b:AK):AK:= .seq (.reg a) b
@[reducible] def qf(a b:Nat):CO:=qc a (.t b)
@[reducible] def qg(a:Int):AV:=qd .i64 a
@[reducible] def qh(a:Int):AOp:= .c (qg a)
@[reducible] def qi(a b:Nat):AI:= .fldA a (.t b)
@[reducible] def qj(a:Option Nat)(b:Nat):AI:= .ld a (.t b)
@[reducible] def qk(a:Nat)(b:Nat × Bool)(c:AI):CO:=qa a (some b) c
@[reducible] def ql(a:BinOp)(b:Nat)(c:AOp):AI:= .bin a (.t b) c
@[reducible] def qm(a:Nat)(b:FuncId)(c:List AOp):CO:=qb a (.call b c)
@[reducible] def qn(a:Nat)(b:Option Nat)(c:Nat):CO:=qb a (qj b c)
@[reducible] def qo(a:Option (Nat × Bool))(b:AI):CO:=⟨none,a,b⟩
@[reducible] def qp(a b c:Nat):CO:=qb a (qi b c)
@[reducible] def qt(a:Nat)(b c:AK):AK:= .cond (.t a) b c
@[reducible] def qu(a b:Nat):CO:=qn a none b
@[reducible] def qv(a:Nat)(b:BinOp)(c:Nat)(d:AOp):CO:=qb a (ql b c d)
@[reducible] def qw(a:AI):CO:=qo none a
@[reducible] def qx:AV:=qg 0
@[reducible] def qy(a:Bool):AV:= .p (.bool a)
@[reducible] def qz(a:Nat):AI:= .nilck (.t a)
@[reducible] def qA(a:Option Nat)(b c:Nat):CO:=qw (.chk a b c)
@[reducible] def qB(a:List CO)(b c:AK):AK:= .seq (qe a b) c
@[reducible] def qC(a:Nat)(b:BinOp)(c:Nat)(d:Int):CO:=qv a b c (qh d)
@[reducible] def qD(a:AOp):AI:= .len false a
@[reducible] def qF:AV:=qy false
@[reducible] def qG(a b:Nat)(c:AOp):AI:= .idxS a (.t b) c
@[reducible] def qH(a:List CO):AK:=qe a .ret
@[reducible] def qI(a b:Nat)(c:List AV)(d:Nat)(e:List (Nat × Nat × AOp)):CO:=qb a (.bsl b c d e)
@[reducible] def qJ(a b:Nat)(c:Bool)(d:AI):CO:=qk a (b,c) d
@[reducible] def qK(a b:Nat)(c:AI):CO:=qJ a b false c
@[reducible] def qL(a b:Nat)(c:AI):CO:=qJ a b true c
@[reducible] def qM(a:Nat)(b c:AOp):CO:=qw (.st a b c)
@[reducible] def qN(a:List UInt8):AV:= .p (.str a)
@[reducible] def qO(a:Nat)(b c:AOp):AI:= .pick (.t a) b c
@[reducible] def qP(a b:Nat):CO:=qA none a b
@[reducible] def qQ:AOp:=qh 0
@[reducible] def qR(a b c:Nat):CO:=qn a (some b) c
@[reducible] def qS(a b:Nat)(c:AOp):CO:=qM a (.t b) c
@[reducible] def qT(a:Nat)(b:AK):AK:= .blk a (.loop b)
@[reducible] def qU(a b c:Nat):CO:=qS a b (.t c)
@[reducible] def qV(a:Nat):AI:=qD (.t a)
@[reducible] def qW(a:Nat)(b:AK):AK:=qt a b .skip
@[reducible] def qX(a:Nat):AI:= .mov (.t a)
@[reducible] def qY(a b:List CO)(c:AK):AK:=qe a (qe b c)
@[reducible] def qZ(a:Nat)(b c:AK):AK:= .seq (.blk a b) c
@[reducible] def wa(a:Nat)(b:List AV):CO:=qb a (.alloc b)
@[reducible] def wb(a b:Nat):CO:=qb a (qz b)
@[reducible] def wd:AOp:= .c qF
@[reducible] def we(a b c:Nat):AI:=qG a b (.t c)
@[reducible] def wg(a b:Nat):CO:=qb a (qV b)
@[reducible] def wh(a:Nat)(b:AK)(c:Nat):AK:=qt a b (.exit c)
@[reducible] def wi(a:List CO)(b c:OT):OT:= .alt (.one a b) c
@[reducible] def wj(a:Nat):CO:=qf a 0
@[reducible] def wl(a:Nat)(b:List AOp):CO:=qm a bG b
@[reducible] def wm(a:Nat)(b:BinOp)(c d:Nat):CO:=qv a b c (.t d)
@[reducible] def wn(a b c d:Nat):CO:=qb a (we b c d)
@[reducible] def wo:AV:=qN []
@[reducible] def wq(a:Nat)(b:AK)(c:List CO):AK:=qZ a b (.reg c)
@[reducible] def wt(a:Nat):AI:=qj none a
@[reducible] def wu:AV:=qy true
@[reducible] def wv(a b c:Nat):Nat × Nat × AOp:=(a,b,.t c)
@[reducible] def ww(a b:Nat):AK:=wh a .skip b
@[reducible] def wx(a:Nat)(b:List AV)(c:List (Nat × Nat × AOp)):CO:=qb a (.bld b c)
@[reducible] def wy(a b:Nat)(c d:AOp):CO:=qb a (qO b c d)
@[reducible] def wz(a:Nat)(b:List CO):AK:=qW a (qH b)
@[reducible] def wA(a b:Nat):AI:= .box a (.t b)
@[reducible] def wB(a:Nat):AI:= .not (.t a)
@[reducible] def wC(a b c:Nat)(d:AOp):AI:= .app a b (.t c) d
@[reducible] def wD(a:Nat)(b:List AOp):CO:=qm a bi b
@[reducible] def wE(a:Nat)(b:AOp):List CO:=[qc a b]
@[reducible] def wF(a b:Nat)(c:Int):CO:=qC a .add b c
@[reducible] def wG(a b:Nat):Nat × Nat × AOp:=wv a 1 b
@[reducible] def wH(a:List CO)(b:AK)(c:List CO):AK:=qB a b (qH c)
@[reducible] def wI:AOp:= .c wu
@[reducible] def wJ(a b c:Nat):CO:=wm a .lss b c
@[reducible] def wK(a:Nat)(b:AOp):List AOp:=[.t a,b]
@[reducible] def wL(a b:Nat):List AOp:=wK a (.t b)
@[reducible] def wM(a:Nat)(b:FuncId)(c d:Nat):CO:=qm a b (wL c d)
@[reducible] def wN:AOp:=qh 1
@[reducible] def wO(a b:Nat)(c:Int):CO:=qC a .eql b c
@[reducible] def wP(a b c:Nat):CO:=qb a (wA b c)
@[reducible] def wQ(a:Nat)(b:List CO)(c d:AK):AK:=qT a (qB b c d)
@[reducible] def wR(a b c d:Nat):AI:=wC a b c (.t d)
@[reducible] def wS(a:Nat)(b:List CO)(c d:Nat)(e:AK):AK:=wQ a b (ww c d) e
@[reducible] def wT(a b c d e:Nat):CO:=qb a (wR b c d e)
@[reducible] def wU(a:List CO)(b:OT):OT:=wi a b .tru
@[reducible] def wV(a:Nat):CO:=qf a 5
@[reducible] def wW(a b:Nat)(c:AOp):AK:=wz a (wE b c)
@[reducible] def wX(a:Nat)(b:List CO)(c d e:Nat)(f:AK)(g:List CO):AK:=wS a b c d (wq e f g)
@[reducible] def wY(a b c:Nat):CO:=qK a b (qX c)
@[reducible] def wZ(a:Nat):List CO:=wE a qQ
@[reducible] def xa(a b c:Nat):CO:=qL a b (wt c)
@[reducible] def xb:AOp:= .c .nils
@[reducible] def xc(a b:Nat)(c:AOp)(d:Nat):CO:=wy a b c (.t d)
@[reducible] def xd(a b c:Nat):CO:=qL a b (qX c)
@[reducible] def xe(a:Nat):List AOp:=[.t a]
@[reducible] def xf(a:Nat)(b:FuncId)(c:Nat):CO:=qm a b (xe c)
@[reducible] def xg(a:Nat)(b:List AOp):CO:=qm a bR b
@[reducible] def xh(a b c:Nat):CO:=qK a b (wt c)
@[reducible] def xi(a:Nat):CO:=qf a 6
@[reducible] def xj(a b:Nat):CO:=qp a 0 b
@[reducible] def xk(a b:Nat)(c:Int):CO:=qC a .sub b c
@[reducible] def xl(a b:Nat)(c:Int):Nat × Nat × AOp:=(a,b,qh c)
@[reducible] def xm(a:Nat)(b:Int):Nat × Nat × AOp:=xl a 1 b
@[reducible] def xo(a:List AOp):AI:= .call iP a
@[reducible] def xp(a b c:Nat)(d:AOp):CO:=wy a b (.t c) d
@[reducible] def xq(a:CO)(b c:Nat):List CO:=[a,qf b c]
@[reducible] def xr(a b:Nat):CO:=qp a 2 b
@[reducible] def xt(a b c d:Nat):CO:=qL a b (qi c d)
@[reducible] def xu(a b:Nat):CO:=xf a bT b
@[reducible] def xv(a:Nat):CO:=qf a 1
@[reducible] def xx:List AV:=[qx]
@[reducible] def xy(a b c:Nat)(d:List (Nat × Nat × AOp)):CO:=qI a b xx c d
@[reducible] def xz(a b c d:Nat):CO:=qK a b (qi c d)
@[reducible] def xA:RV:= .t 4
@[reducible] def xB(a b:CO)(c d:Nat):List CO:=[a,b,qf c d]
@[reducible] def xC(a:CO)(b c:Nat)(d:Int)(e f:Nat):List CO:=xB a (wF b c d) e f
@[reducible] def xD(a:Nat)(b:List CO)(c d e:Nat)(f:AK)(g:CO)(h i:Nat)(j:Int)(k l:Nat):AK:=wX a b c d e f (xC g h i j k l)
@[reducible] def xE(a b:Nat)(c:BinOp)(d:Nat)(e:AOp):CO:=qL a b (ql c d e)
@[reducible] def xF(a:Nat)(b:List AOp):CO:=qm a bp b
@[reducible] def xG(a b:Nat):RV:= .c a (some b)
@[reducible] def xH(a:Nat):CO:=qf a 4
@[reducible] def xI(a b:List CO)(c:AK)(d:List CO):AK:=qe a (wH b c d)
@[reducible] def xJ(a:Nat)(b:Int):List AOp:=wK a (qh b)
@[reducible] def xK(a b:Nat):CO:=qU 1 a b
@[reducible] def xL(a b:Nat):CO:=qp a 1 b
@[reducible] def xM(a:List CO)(b:Nat)(c d:AK):AK:=qe a (qt b c d)
@[reducible] def xN:RV:= .t 2
@[reducible] def xO(a:List CO)(b c:AK):AK:= .cut (qe a b) c
@[reducible] def xP(a b:Nat):CO:=xf a bv b
@[reducible] def xQ(a b c:Nat):CO:=xc a b wI c
@[reducible] def xR(a:List AOp):AI:= .call bG a
@[reducible] def xS(a b:Nat)(c:List (Nat × Nat × AOp)):CO:=xy a 1 b c
@[reducible] def xT(a:Nat):Nat × Nat × AOp:=wG 0 a
@[reducible] def xU(a:Nat)(b:List CO):AK:=qW a (.reg b)
@[reducible] def xV(a:Nat)(b:List AOp):CO:=qm a eF b
@[reducible] def xW(a b:List CO):AK:=qe a (qH b)
@[reducible] def xX(a b:Nat):CO:=qb a (wB b)
@[reducible] def xY:List AV:=[.nils]
@[reducible] def xZ(a b:Nat)(c:Int)(d e:Nat):List CO:=xq (wO a b c) d e
@[reducible] def x7(a:Nat)(b:List AOp):CO:=qm a iP b
@[reducible] def x8(a b:Nat)(c:List AV)(d:Nat)(e:List (Nat × Nat × AOp)):CO:=qb a (.bslP b c d e)
@[reducible] def x9(a:Nat):CO:=qf a 7
@[reducible] def ya(a:Nat):CO:=qf a 3
@[reducible] def yb(a b:Nat)(c:BinOp)(d:Nat)(e:AOp):CO:=qK a b (ql c d e)
@[reducible] def yc(a b:Nat):CO:=qR a 3 b
@[reducible] def ye(a b c:Nat):CO:=xp a b c wd
@[reducible] def yf(a b c:Nat):CO:=qA (some a) b c
@[reducible] def yg(a:List CO)(b c:AK):AK:=qe a (.seq b c)
@[reducible] def yh(a:Nat):CO:=qc a qQ
@[reducible] def yi(a:Nat):CO:=qP a 10
@[reducible] def yj:CO:=yi 9
@[reducible] def yk(a:Nat):CO:=qP 11 a
@[reducible] def yl:CO:=yk 12
@[reducible] def ym(a b:AV):List AV:=[a,b,.nils]
@[reducible] def yn(a:Nat)(b c:AV):CO:=wa a (ym b c)
@[reducible] def yp(a b c:Nat):CO:=wD a (wL b c)
@[reducible] def yq(a b:Nat):AK:=wW a b wd
@[reducible] def yr(a b c:Nat):CO:=qK a b (wB c)
@[reducible] def yt(a b:List CO)(c:OT):OT:=wU a (wU b c)
@[reducible] def yu(a:List UInt8):AOp:= .c (qN a)
def lG:FK:=⟨11,[xN],xI (wE 2 (.c .nilp)) [wj 3,wg 4 3,qC 5 .gtr 4 2000] (xU 5 (xB (wj 6) (qb 7 (.slS 1 (.t 6) none (some (qh 2000)))) 0 7)) [wj 8,wx 9 [.nils,qx] [xT 8],wP 10 2 9,qf 2 10]⟩
theorem sM:aq Tryz.prog da=some lG:=by kernel_rfl
def cR:FK:=⟨99,[xA],qY (wZ 4) [wj 7,wj 8,wb 9 8,xL 10 9,qu 11 10,wF 12 11 1,wb 13 7,xL 14 13,xK 14 12] (qB [xv 15,qC 16 .lss 15 1,qf 17 16,wY 18 17 0,qK 19 17 (qz 18),xz 20 17 0 19,xh 21 17 20,qK 22 17 (qV 21),yb 23 17 .eql 22 qQ,xQ 24 17 23] (wW 24 4 qQ) (qe [wj 25,wb 26 25,xL 27 26,qu 28 27,xk 29 28 1,qf 5 29] (qB [wV 30,wj 31,wb 32 31,xj 33 32,qu 34 33,wg 35 34,wJ 36 30 35] (wz 36 [wj 37,wb 38 37,xj 39 38,qu 40 39,wV 41,wn 42 1 40 41,qu 43 42,qb 44 (.conv .i64 (.t 43)),xv 45,wm 46 .rem 44 45,qf 4 46]) (qY [wj 47,wb 48 47,xj 49 48,wV 51,wj 52,wb 53 52,xj 54 53,wj 62,wb 63 62,xj 64 63,wV 66,qC 67 .mul 66 7,wF 68 67 3,wj 69,wb 70 69,xj 71 70,wV 80,qC 81 .mul 80 29,wV 83,wj 84,wb 85 84,xj 86 85,qu 50 49,qu 55 54,wg 56 55,wm 57 .rem 51 56,wn 58 1 50 57,qu 59 58,qb 60 (.conv .i64 (.t 59)),qC 61 .mul 60 131,qu 65 64,qu 72 71,wg 73 72,wm 74 .rem 68 73,wn 75 1 65 74,qu 76 75,qb 77 (.conv .i64 (.t 76)),qC 78 .mul 77 1117,wm 79 .add 61 78,wm 82 .add 79 81,qu 87 86,wg 88 87,wm 89 .quo 83 88,qC 90 .mul 89 53,wm 91 .add 82 90,qf 6 91] [xi 92,xi 93,qC 94 .quo 93 64,wm 95 .xor 92 94,qf 6 95] (qH [xi 96,xv 97,wm 98 .rem 96 97,qf 4 98])))))⟩
theorem pk:aq Tryz.prog bG=some cR:=by kernel_rfl
def dq:FK:=⟨12,[xA],xW (wZ 4) [xv 5,wj 6,xv 7,wg 8 7,wl 9 (wL 6 8),wn 10 1 5 9,qu 11 10,qf 4 11]⟩
theorem eV:aq Tryz.prog bi=some dq:=by kernel_rfl
def lR:FK:=⟨15,[.t 6],xW (wE 6 wd) [wj 7,xv 8,wm 9 .geq 7 8,qf 10 9,xd 11 10 0,xd 12 10 2,xE 13 10 .leq 11 (.t 12),ye 14 10 13,qf 6 14]⟩
theorem AZ:aq Tryz.prog iP=some lR:=by kernel_rfl
def ce:FK:=⟨28,[xN],qe (wZ 2) (qZ 0 (xM [wj 4,wO 5 4 1,wV 3] 3 (qH (wZ 2)) (xM [wj 7,wO 8 7 2,qf 9 8,wY 10 9 0,yb 11 9 .eql 10 (qh 10),xQ 12 9 11,qf 13 12,wY 14 13 0,yb 15 13 .eql 14 (qh 11),xQ 16 13 15,qf 17 16,wY 18 17 0,yb 19 17 .eql 18 (qh 13),xQ 20 17 19,qf 6 20] 6 (qH (wE 2 wN)) (qe [wj 22,x7 23 [.t 22,qh 3,qh 9],qf 24 23,wY 25 24 0,yb 26 24 .eql 25 (qh 12),xQ 27 24 26,qf 21 27] (wW 21 2 (qh 2))))) (qH (wE 2 (qh (-1)))))⟩
theorem uF:aq Tryz.prog ft=some ce:=by kernel_rfl
def kP:FK:=⟨13,[xN],xW (wE 2 wd) [wj 3,x7 4 [.t 3,wN,qh 14],xH 5,xd 6 5 0,xE 7 5 .neq 6 (qh 12),ye 8 5 7,qf 9 8,xd 10 9 0,xE 11 9 .neq 10 (qh 13),ye 12 9 11,qf 2 12]⟩
theorem tL:aq Tryz.prog db=some kP:=by kernel_rfl
def iV:AK:=qY [wP 4 1 1,wa 6 [qx,qx,.nils,qx]] [wj 11,xS 12 16 [(0,1,wN),(1,1,wN),xm 2 2,xm 3 3,xm 4 4,xm 5 5,xm 6 8,xm 7 9,xm 8 10,xm 9 13,xm 10 3,xm 11 6,xm 12 7,xm 13 11,xm 14 12,xm 15 14],yp 13 11 12,qf 7 13] (qY [x9 14,wj 15,qf 16 2,wl 17 (wL 15 16),wx 18 [qx,qx,.nils,qx] [xT 14,wG 1 17],wa 8 [qx,qx,.nils,qx],qU 4 8 18] (xB (x9 19) (xf 20 ft 19) 9 20) (xO [x9 21,wO 22 21 14] (qW 22 (qB [xj 23 4,qu 24 23,wg 25 24,wO 26 25 0] (wz 26 [wj 27,qf 28 2,wl 29 (wL 27 28),xS 30 1 [xT 29],wx 31 [qx,qx,.nils,qx] [xm 0 13,xm 1 (-1),wG 2 30],qU 4 6 31]) (qe [wj 32,xj 33 4,qu 34 33,wg 35 34,wl 36 (wL 32 35),qp 37 3 8,xK 37 36] (.reg [xj 38 4,qu 39 38,qp 40 3 8,qu 41 40,wn 42 3 39 41,xj 43 42,qu 44 43,qf 9 44])))) (xO [x9 45,wO 46 45 1] (xU 46 [wj 47,xS 48 7 [(0,1,qQ),(1,1,wN),xm 2 2,xm 3 3,xm 4 15,xm 5 16,xm 6 255],yp 49 47 48,qp 50 3 8,xK 50 49]) (xO [x9 51,xf 52 db 51,xX 53 52] (xU 53 [xL 54 8,qS 1 54 (qh (-1))]) (wH (wZ 10) (xD 0 [qf 55 10,qf 56 9,wJ 57 55 56] 57 0 1 (.reg [xr 60 8,wj 62,qf 63 2,qu 61 60,wl 64 (wL 62 63),qP 60 61,x8 65 1 xx 1 [xT 64],wT 66 1 8 61 65,xr 67 8,xK 67 66]) (qf 58 10) 59 58 1 10 59) [qR 68 4 8,qU 4 6 68])))))
def jh:FK:=⟨69,[xG 6 4],(AK.whole iV)⟩
theorem uX:aq Tryz.prog je=some jh:=by kernel_rfl
def lS:FK:=⟨30,[.t 6],xI (wZ 6) [xv 7,qf 8 2,xk 9 8 1,wJ 10 7 9,qf 11 10,xd 12 11 0,qL 13 11 (xR (xJ 12 4)),xE 14 11 .gtr 13 qQ,ye 15 11 14] (wz 15 [xv 16,wF 17 16 1,wj 18,qf 19 2,xk 20 19 1,xv 21,wm 22 .sub 20 21,wl 23 (wL 18 22),wm 24 .add 17 23,qf 6 24]) [wj 25,qf 26 2,xk 27 26 1,wl 28 (wL 25 27),qb 29 (.bin .add wN (.t 28)),qf 6 29]⟩
theorem Az:aq Tryz.prog fF=some lS:=by kernel_rfl
def jp:AK:=qY [wP 3 1 1,yn 4 qx qx] [wj 10,xS 11 4 [(0,1,wN),(1,1,qQ),xm 2 2,xm 3 3],yp 12 10 11,wx 13 (ym qx qx) [xT 12],yn 5 qx qx,qU 3 5 13] (qY [xj 14 5,wj 17,qu 15 14,wF 16 15 2,wl 18 (xJ 17 5),qP 14 15,wm 19 .add 16 18,xL 20 5,xK 20 19] [wj 21,xS 22 6 [xm 0 3,xm 1 5,xm 2 2,(3,1,wN),xm 4 7,xm 5 4],yp 23 21 22,qf 6 23] (wH (wZ 7) (xD 0 [x9 24,xi 25,wJ 26 24 25] 26 0 1 (qe [wx 29 [.nils,.nils,qx,qx,.nils] [],wa 8 [.nils,.nils,qx,qx,.nils],qU 5 8 29] (xO [wj 30,xS 31 5 [(0,1,wN),xm 1 2,(2,1,qQ),xm 3 3,xm 4 4],yp 32 30 31,qf 9 32] (wX 2 [qf 33 9,qC 34 .gtr 33 0] 34 2 3 (.reg [xL 37 8,wj 39,xL 41 5,qu 38 37,qR 40 1 3,qu 42 41,qm 43 je [.t 39,.t 40,.t 42],qP 37 38,qI 44 4 [qx,qx,.nils,qx] 1 [wv 0 4 43],qP 37 38,wT 45 4 48 38 44,xL 46 8,xK 46 45]) (xB (qf 35 9) (xk 36 35 1) 9 36)) (qY [wj 47,xL 48 5,qu 49 48,wl 50 (wL 47 49),qp 51 3 8,xK 51 50] [wj 52,xS 53 5 [xm 0 2,(1,1,wN),xm 2 2,(3,1,wN),xm 4 3],yp 54 52 53,xr 55 8,xK 55 54] (xO [xi 56,wO 57 56 1,qf 58 57,wY 59 58 7,wY 60 58 6,yb 61 58 .sub 60 wN,yb 62 58 .eql 59 (.t 61),wY 63 58 62,xd 64 63 0,qL 65 63 (xR (xJ 64 3)),xE 66 63 .gtr 65 qQ,qK 67 58 (qO 63 (.t 66) wd),xQ 68 58 67] (xU 68 [xr 69 8,qS 1 69 (qh 3)]) (xO [xr 70 8,qu 71 70] (.blk 4 (xM (xZ 73 71 1 72 73) 72 (qe [qp 74 3 8,qS 1 74 qQ] (.reg [wj 75,x9 76,xi 77,qm 78 fF [.t 75,.t 76,.t 77],xS 79 1 [xT 78],qp 80 4 8,xK 80 79])) (qe (xZ 82 71 2 81 82) (xU 81 [wj 83,x9 84,xi 85,qm 86 fF [.t 83,.t 84,.t 85],wj 87,x9 88,xi 89,qm 90 fF [.t 87,.t 88,.t 89],xS 91 2 [xT 86,wG 1 90],qp 92 4 8,xK 92 91])))) (.reg [xr 93 5,qu 94 93,qR 95 5 8,qI 96 5 [.nils,.nils,qx,qx,.nils] 1 [wv 0 5 95],wT 97 5 88 94 96,xr 98 5,xK 98 97])))))) (x9 27) 28 27 1 7 28) [yc 99 5,qU 3 4 99]))
def jq:FK:=⟨100,[xG 4 3],(AK.whole jp)⟩
theorem uN:aq Tryz.prog jj=some jq:=by kernel_rfl
def ll:FK:=⟨43,[xA],qY [wP 2 3 0,qc 4 xb] (xq (xS 8 0 []) 5 8) (wH (wZ 6) (xD 0 [xi 9,xr 10 2,qu 11 10,wg 12 11,wJ 13 9 12] 13 0 1 (qe (wZ 7) (xD 2 [x9 16,xr 17 2,qu 18 17,xi 19,wn 20 5 18 19,qp 21 4 20,qu 22 21,wg 23 22,wJ 24 16 23] 24 2 3 (qe [xr 27 2,qu 28 27,xi 29,wn 30 5 28 29,qp 31 4 30,qu 32 31,x9 33,wn 34 1 32 33,qu 35 34,xv 36,wm 37 .eql 35 36] (qW 37 (qe [wV 38,xi 39,xS 40 1 [xT 39],wT 41 1 8 38 40,qf 5 41] (.exit 2)))) (x9 25) 26 25 1 7 26)) (xi 14) 15 14 1 6 15) (xq (wV 42) 4 42))⟩
theorem tc:aq Tryz.prog bB=some ll:=by kernel_rfl
def ji:AK:=qY [wa 2 xY] [wx 9 xY [],wa 3 xY,xK 3 9] (xO [wj 10,xS 11 4 [(0,1,wN),xm 1 2,(2,1,wN),xm 3 3],yp 12 10 11,qf 4 12] (wX 0 [xH 13,qC 14 .gtr 13 0] 14 0 1 (.reg [xj 17 3,wj 19,qu 18 17,qR 20 1 3,wM 21 jj 19 20,qP 17 18,qI 22 3 (ym qx qx) 1 [wv 0 3 21],qP 17 18,wT 23 3 40 18 22,xj 24 3,xK 24 23]) (xB (xH 15) (xk 16 15 1) 4 16)) (wH [wj 25,xS 26 4 [(0,1,qQ),(1,1,qQ),(2,1,wN),xm 3 3],yp 27 25 26,qf 5 27] (wX 2 [wV 28,qC 29 .gtr 28 0] 29 2 3 (qY [xj 32 3,wj 34,xj 35 3,qu 33 32,qu 36 35,wg 37 36,wl 38 (wL 34 37),qP 32 33,wn 39 3 33 38,qf 6 39] [wj 40,xi 41,wb 42 41,xr 43 42,qu 44 43,wg 45 44,wl 46 (wL 40 45),qf 7 46] (qe [wj 47,xi 48,wb 49 48,xL 50 49,qu 51 50,wl 52 (wL 47 51),wx 53 [qx,.nils] [xT 52],wa 8 [qx,.nils],qU 2 8 53] (xO [xi 54,wb 55 54,yc 56 55,x9 57,wM 58 bB 56 57,wg 59 58,yh 60] (qT 4 (yg [wJ 61 60 59] (ww 61 4) (wq 5 (.reg [xL 62 8,wj 64,xi 65,wb 66 65,xL 67 66,qu 63 62,qu 68 67,wl 69 (wL 64 68),qP 62 63,x8 70 1 xx 1 [xT 69],wT 71 1 8 63 70,xL 72 8,xK 72 71]) (xq (wF 73 60 1) 60 73)))) (qe [x9 74,qC 75 .gtr 74 0] (xU 75 [xi 76,wb 77 76,xr 78 77,x9 80,xi 81,wb 82 81,xr 83 82,x9 85,qu 79 78,qu 84 83,wn 86 5 84 85,xj 87 86,qu 88 87,qR 89 2 8,qI 90 2 [qx,.nils] 1 [wv 0 2 89],qP 78 79,qP 83 84,qP 87 88,wT 91 2 32 88 90,qP 78 79,wn 92 5 79 80,xj 93 92,xK 93 91]))))) (xB (wV 30) (xk 31 30 1) 5 31)) [qR 94 1 3,xK 2 94]))
def jt:FK:=⟨95,[xG 2 1],(AK.whole ji)⟩
theorem uC:aq Tryz.prog dD=some jt:=by kernel_rfl
def dW:AK:=qe [wP 1 5 0,wa 2 [.nils,.nils,qx,qx,.nils]] (.cut (.ot (.one (wE 3 (.c .any)) (.one [xr 9 1] (.one [qp 11 3 1] (.one [qp 14 4 1] (.one [qu 10 9] (.one [qu 12 11] (.one [qu 15 14] (wi [qI 7 2 [qx,.nils] 0 [],yj,yl,qP 14 15] (wi [qI 8 4 [qx,qx,.nils,qx] 0 [],yj,yl,qP 14 15] (yt [xS 13 0 [],yj,yl,qP 14 15] [wT 16 1 8 13 15,yj,yl] (.one [wx 17 [.nils,.nils,qx,qx,.nils] [xT 7,wG 1 8,wG 2 10,wG 3 12,wG 4 16]] (yt [wa 3 [.nils,.nils,qx,qx,.nils]] [qU 5 3 17] .done))) (wU [xS 13 0 [],yj,yl,qP 14 15] (wi [qI 8 4 [qx,qx,.nils,qx] 0 [],yj,yl,qP 14 15] (wU [wT 16 1 8 13 15,yj,yl] (.one [wx 17 [.nils,.nils,qx,qx,.nils] [xT 7,wG 1 8,wG 2 10,wG 3 12,wG 4 16]] (yt [wa 3 [.nils,.nils,qx,qx,.nils]] [qU 5 3 17] .done))) (yt [wT 16 1 8 13 15,yj,yl] [qI 8 4 [qx,qx,.nils,qx] 0 [],yj,yl,qP 14 15] (.one [wx 17 [.nils,.nils,qx,qx,.nils] [xT 7,wG 1 8,wG 2 10,wG 3 12,wG 4 16]] (yt [wa 3 [.nils,.nils,qx,qx,.nils]] [qU 5 3 17] .done)))))) (wi [qI 8 4 [qx,qx,.nils,qx] 0 [],yj,yl,qP 14 15] (wi [qI 7 2 [qx,.nils] 0 [],yj,yl,qP 14 15] (yt [xS 13 0 [],yj,yl,qP 14 15] [wT 16 1 8 13 15,yj,yl] (.one [wx 17 [.nils,.nils,qx,qx,.nils] [xT 7,wG 1 8,wG 2 10,wG 3 12,wG 4 16]] (yt [wa 3 [.nils,.nils,qx,qx,.nils]] [qU 5 3 17] .done))) (wU [xS 13 0 [],yj,yl,qP 14 15] (wi [qI 7 2 [qx,.nils] 0 [],yj,yl,qP 14 15] (wU [wT 16 1 8 13 15,yj,yl] (.one [wx 17 [.nils,.nils,qx,qx,.nils] [xT 7,wG 1 8,wG 2 10,wG 3 12,wG 4 16]] (yt [wa 3 [.nils,.nils,qx,qx,.nils]] [qU 5 3 17] .done))) (yt [wT 16 1 8 13 15,yj,yl] [qI 7 2 [qx,.nils] 0 [],yj,yl,qP 14 15] (.one [wx 17 [.nils,.nils,qx,qx,.nils] [xT 7,wG 1 8,wG 2 10,wG 3 12,wG 4 16]] (yt [wa 3 [.nils,.nils,qx,qx,.nils]] [qU 5 3 17] .done)))))) (wU [xS 13 0 [],yj,yl,qP 14 15] (wi [qI 7 2 [qx,.nils] 0 [],yj,yl,qP 14 15] (wi [qI 8 4 [qx,qx,.nils,qx] 0 [],yj,yl,qP 14 15] (wU [wT 16 1 8 13 15,yj,yl] (.one [wx 17 [.nils,.nils,qx,qx,.nils] [xT 7,wG 1 8,wG 2 10,wG 3 12,wG 4 16]] (yt [wa 3 [.nils,.nils,qx,qx,.nils]] [qU 5 3 17] .done))) (yt [wT 16 1 8 13 15,yj,yl] [qI 8 4 [qx,qx,.nils,qx] 0 [],yj,yl,qP 14 15] (.one [wx 17 [.nils,.nils,qx,qx,.nils] [xT 7,wG 1 8,wG 2 10,wG 3 12,wG 4 16]] (yt [wa 3 [.nils,.nils,qx,qx,.nils]] [qU 5 3 17] .done)))) (wi [qI 8 4 [qx,qx,.nils,qx] 0 [],yj,yl,qP 14 15] (wi [qI 7 2 [qx,.nils] 0 [],yj,yl,qP 14 15] (wU [wT 16 1 8 13 15,yj,yl] (.one [wx 17 [.nils,.nils,qx,qx,.nils] [xT 7,wG 1 8,wG 2 10,wG 3 12,wG 4 16]] (yt [wa 3 [.nils,.nils,qx,qx,.nils]] [qU 5 3 17] .done))) (yt [wT 16 1 8 13 15,yj,yl] [qI 7 2 [qx,.nils] 0 [],yj,yl,qP 14 15] (.one [wx 17 [.nils,.nils,qx,qx,.nils] [xT 7,wG 1 8,wG 2 10,wG 3 12,wG 4 16]] (yt [wa 3 [.nils,.nils,qx,qx,.nils]] [qU 5 3 17] .done)))) (wU [wT 16 1 8 13 15,yj,yl] (wi [qI 7 2 [qx,.nils] 0 [],yj,yl,qP 14 15] (wU [qI 8 4 [qx,qx,.nils,qx] 0 [],yj,yl,qP 14 15] (.one [wx 17 [.nils,.nils,qx,qx,.nils] [xT 7,wG 1 8,wG 2 10,wG 3 12,wG 4 16]] (yt [wa 3 [.nils,.nils,qx,qx,.nils]] [qU 5 3 17] .done))) (yt [qI 8 4 [qx,qx,.nils,qx] 0 [],yj,yl,qP 14 15] [qI 7 2 [qx,.nils] 0 [],yj,yl,qP 14 15] (.one [wx 17 [.nils,.nils,qx,qx,.nils] [xT 7,wG 1 8,wG 2 10,wG 3 12,wG 4 16]] (yt [wa 3 [.nils,.nils,qx,qx,.nils]] [qU 5 3 17] .done)))))))))))))))))) (xO (wZ 4) (xD 0 [xH 18,xj 19 1,qu 20 19,wg 21 20,wJ 22 18 21] 22 0 1 (.reg [xj 25 3,xj 27 1,xH 29,xj 34 1,xH 36,qu 26 25,qu 28 27,wn 30 2 28 29,xj 31 30,qu 32 31,qu 35 34,wn 37 2 35 36,xL 38 37,qu 39 38,xS 33 0 [],qP 25 26,qP 27 28,qP 31 32,qP 34 35,qP 38 39,wT 40 1 8 33 39,qP 25 26,qP 27 28,qP 31 32,wx 41 [qx,.nils] [xT 32,wG 1 40],qI 42 2 [qx,.nils] 1 [wv 0 2 41],qP 25 26,wT 43 2 32 26 42,xj 44 3,xK 44 43]) (xH 23) 24 23 1 4 24) (wH (wZ 5) (xD 2 [wV 45,xL 46 1,qu 47 46,wg 48 47,wJ 49 45 48] 49 2 3 (qe [xL 52 1,qu 53 52,wV 54,wn 55 4 53 54,qR 56 4 55,wa 6 [qx,qx,.nils,qx],qU 4 6 56] (.reg [xL 57 3,xj 59 6,xL 61 6,xr 64 6,qp 67 3 6,qu 58 57,qu 60 59,qu 62 61,qu 65 64,qu 68 67,xS 63 0 [],qP 57 58,qP 59 60,qP 61 62,qP 64 65,qP 67 68,wT 66 1 8 63 65,qP 57 58,qP 59 60,qP 61 62,qP 67 68,wx 69 [qx,qx,.nils,qx] [xT 60,wG 1 62,wG 2 66,wG 3 68],qI 70 4 [qx,qx,.nils,qx] 1 [wv 0 4 69],qP 57 58,wT 71 4 48 58 70,xL 72 3,xK 72 71])) (wV 50) 51 50 1 5 51) [qR 73 5 3,qU 5 2 73])))
def dT:FK:=⟨74,[xG 2 5],(AK.whole dW)⟩
theorem nk:aq Tryz.prog dN=some dT:=by kernel_rfl
def mN:FK:=⟨29,[xG 2 3],qY [wP 1 3 0,yn 2 qx qx] [xj 5 1,qu 6 5,xL 7 1,qu 8 7,wx 9 (ym qx qx) [xT 6,wG 1 8],yn 3 qx qx,qU 3 3 9] (wH (wZ 4) (xD 0 [xH 10,xr 11 1,qu 12 11,wg 13 12,wJ 14 10 13] 14 0 1 (.reg [xr 17 3,xr 19 1,xH 21,qu 18 17,qu 20 19,wn 22 5 20 21,qR 23 5 22,xf 24 dN 23,qP 17 18,qI 25 5 [.nils,.nils,qx,qx,.nils] 1 [wv 0 5 24],qP 17 18,wT 26 5 88 18 25,xr 27 3,xK 27 26]) (xH 15) 16 15 1 4 16) [yc 28 3,qU 3 2 28])⟩
theorem vg:aq Tryz.prog jf=some mN:=by kernel_rfl
def iM:FK:=⟨25,[xG 2 1],qY [wP 1 1 0,wa 2 xY] [wx 5 xY [],wa 3 xY,xK 3 5] (wH (wZ 4) (xD 0 [xH 6,xj 7 1,qu 8 7,wg 9 8,wJ 10 6 9] 10 0 1 (.reg [xj 13 3,xj 15 1,xH 17,qu 14 13,qu 16 15,wn 18 3 16 17,yc 19 18,xf 20 jf 19,qP 13 14,qI 21 3 (ym qx qx) 1 [wv 0 3 20],qP 13 14,wT 22 3 40 14 21,xj 23 3,xK 23 22]) (xH 11) 12 11 1 4 12) [qR 24 1 3,xK 2 24])⟩
theorem oh:aq Tryz.prog eL=some iM:=by kernel_rfl
def iX:AK:=qY [wa 2 xY] [wj 7,xf 8 dD 7,xf 9 eL 8,wa 3 xY,xK 3 9] (qY [xj 10 3,wj 12,xj 13 3,qu 11 10,qu 14 13,wg 15 14,wl 16 (wL 12 15),qP 10 11,wn 17 3 11 16,qf 4 17] [xH 18,wb 19 18,xr 20 19,wj 22,xH 23,wb 24 23,xr 25 24,qu 21 20,qu 26 25,wg 27 26,wl 28 (wL 22 27),qP 20 21,wn 29 5 21 28,qf 5 29] (qe [wj 30,xH 31,wb 32 31,xL 33 32,xH 35,wb 36 35,xr 37 36,qu 34 33,qu 38 37,wg 39 38,xS 40 5 [xm 0 (-1),wG 1 34,wG 2 39,(3,1,qQ),(4,1,wN)],yp 41 30 40,qf 6 41] (xO [wj 42,wl 43 (xJ 42 32)] (.blk 0 (xM (xZ 45 43 0 44 45) 44 (.reg [wV 46,wj 47,wl 48 (xJ 47 5),wb 49 46,xr 50 49,xK 50 48]) (xM (xZ 52 43 1 51 52) 51 (qe [wV 53,wb 54 53,qp 55 4 54,qu 56 55,wg 57 56,qC 58 .gtr 57 0] (xU 58 [wV 59,wb 60 59,qp 61 4 60,qu 62 61,xi 63,qb 64 (qG 1 62 qQ),xK 64 63])) (xM (xZ 66 43 2 65 66) 65 (.reg [wV 67,xi 68,wb 69 67,qp 70 3 69,xK 70 68]) (xM (xZ 72 43 3 71 72) 71 (qe [wV 73,wb 74 73,xL 75 74,qu 76 75,wg 77 76,qC 78 .gtr 77 0] (xU 78 [wV 79,wb 80 79,xL 81 80,qu 82 81,xi 83,qb 84 (qG 4 82 qQ),xL 85 84,xK 85 83])) (xM (xZ 87 43 4 86 87) 86 (qe [wV 88,wb 89 88,xL 90 89,qu 91 90,wg 92 91,qC 93 .gtr 92 0] (xU 93 [wV 94,wb 95 94,xL 96 95,wV 98,wb 99 98,xL 100 99,xi 105,x8 106 1 xx 1 [xT 105],qu 97 96,qu 101 100,qb 102 (qG 4 101 qQ),xr 103 102,qu 104 103,wT 107 1 8 104 106,qP 96 97,qb 108 (qG 4 97 qQ),xr 109 108,xK 109 107])) (xM (xZ 111 43 5 110 111) 110 (.reg [wV 112,wV 113,wb 114 113,xj 115 114,qu 116 115,xi 117,xS 118 1 [xT 117],wx 119 [qx,.nils] [(0,1,qQ),wG 1 118],qI 120 2 [qx,.nils] 1 [wv 0 2 119],wT 121 2 32 116 120,wb 122 112,xj 123 122,xK 123 121]) (xM (xZ 125 43 6 124 125) 124 (.reg [xH 126,xH 127,wb 128 127,xj 129 128,wj 131,qu 130 129,wl 132 (xJ 131 2),qP 129 130,wm 133 .add 130 132,wb 134 126,xL 135 134,xK 135 133]) (qe (xZ 137 43 7 136 137) (qW 136 (qe [wV 138,wb 139 138,xL 140 139,qu 141 140,wg 142 141,qC 143 .gtr 142 0] (xU 143 [wV 144,wb 145 144,xL 146 145,wj 148,x8 149 1 xx 3 [xm 0 256,xm 1 (-1),(2,1,wN)],qu 147 146,yp 150 148 149,qP 146 147,qb 151 (qG 4 147 qQ),qp 152 3 151,xK 152 150])))))))))))) (qH [qR 153 1 3,xK 2 153]))))
def js:FK:=⟨154,[xG 2 1],(AK.whole iX)⟩
theorem uO:aq Tryz.prog iW=some js:=by kernel_rfl
def fV:FK:=⟨12,[xA],xW (wE 4 (.c wo)) [xv 5,wj 6,xv 7,wg 8 7,wl 9 (wL 6 8),wn 10 1 5 9,qu 11 10,qf 4 11]⟩
theorem kz:aq Tryz.prog bK=some fV:=by kernel_rfl
def iZ:FK:=⟨21,[xG 4 4],xI [wa 4 [qx,qx,wo,.nils]] [xv 5,wg 6 5,wO 7 6 0,x9 8,wY 9 8 0,qK 10 8 (xR (xJ 9 3)),yb 11 8 .eql 10 qQ,xQ 12 8 11] (wz 12 [wj 13,xS 14 10 [(0,1,qQ),(1,1,wN),xm 2 2,xm 3 3,xm 4 5,xm 5 7,xm 6 15,xm 7 16,xm 8 100,xm 9 255],yp 15 13 14,wx 16 [qx,qx,wo,.nils] [(0,1,wN),wG 1 15],qU 4 4 16]) [wj 17,xv 18,wM 19 bK 17 18,wx 20 [qx,qx,wo,.nils] [xm 0 2,wG 2 19],qU 4 4 20]⟩
theorem uU:aq Tryz.prog fp=some iZ:=by kernel_rfl
def fk:FK:=⟨47,[xG 6 4],qe [wa 6 [qx,qx,wo,.nils]] (qB [qf 8 2,qC 9 .lss 8 2,qf 10 9,wY 11 10 0,qK 12 10 (xR (xJ 11 4)),yb 13 10 .eql 12 qQ,xQ 14 10 13] (wz 14 [wj 15,xv 16,wM 17 fp 15 16,qU 4 6 17]) (qB [wj 18,wl 19 (xJ 18 7),wO 20 19 0] (wz 20 [wj 21,xS 22 3 [xm 0 11,xm 1 12,xm 2 11],yp 23 21 22,wj 24,xv 25,qf 26 2,xk 27 26 1,qm 28 bl [.t 24,.t 25,.t 27],qI 29 4 [qx,qx,wo,.nils] 1 [wv 0 4 28],wx 30 [qx,qx,wo,.nils] [xT 23,wG 3 29],qU 4 6 30]) (xW [wj 31,xS 32 9 [xm 0 3,xm 1 3,xm 2 4,xm 3 5,xm 4 6,xm 5 7,xm 6 8,xm 7 9,xm 8 10],yp 33 31 32,qf 7 33] [x9 34,wj 35,xv 36,qf 37 2,xk 38 37 1,qm 39 bl [.t 35,.t 36,.t 38],wj 40,xv 41,qf 42 2,xk 43 42 1,qm 44 bl [.t 40,.t 41,.t 43],qI 45 4 [qx,qx,wo,.nils] 2 [wv 0 4 39,wv 4 4 44],wx 46 [qx,qx,wo,.nils] [xT 34,wG 3 45],qU 4 6 46])))⟩
theorem mR:aq Tryz.prog bl=some fk:=by kernel_rfl
def iF:FK:=⟨99,[xG 4 4],qY [wa 4 [qx,qx,wo,.nils]] [qc 5 (.c .any),wj 9,wb 10 9,xj 11 10,wj 13,wb 14 13,xr 15 14,xv 17,qu 12 11,qu 16 15,qm 18 bl [.t 12,.t 16,.t 17],wa 5 [qx,qx,wo,.nils],qU 4 5 18] (qB [wj 19,wb 20 19,xL 21 20,qu 22 21,wg 23 22,wO 24 23 0,qf 25 24,wY 26 25 0,qK 27 25 (qz 26),xz 28 25 0 27,xh 29 25 28,qK 30 25 (xR (xJ 29 4)),yb 31 25 .gtr 30 qQ,xQ 32 25 31] (wz 32 [qR 33 4 5,qU 4 4 33]) (qY [qc 6 (.c .any),wj 34,wb 35 34,xL 36 35,wj 38,wb 39 38,xj 40 39,wj 42,wb 43 42,xL 44 43,qu 37 36,qu 41 40,qu 45 44,wg 46 45,wl 47 (wL 41 46),qP 36 37,wn 48 3 37 47,yc 49 48,yn 6 wo .nils,qU 3 6 49] [xj 50 6,qu 51 50,wx 52 [qx,qx,wo,.nils] [xm 0 13,wG 2 51],wa 7 [qx,qx,wo,.nils],qU 4 7 52] (qB (wZ 8) (xD 0 [qf 53 8,xL 54 6,qu 55 54,wg 56 55,wJ 57 53 56] 57 0 1 (.reg [qp 60 3 7,wj 62,wb 63 62,xj 64 63,wj 66,wb 67 66,xr 68 67,qu 61 60,qu 65 64,qu 69 68,qm 70 bl [.t 65,.t 69,qh 2],qP 60 61,x8 71 4 [qx,qx,wo,.nils] 1 [wv 0 4 70],wT 72 4 56 61 71,qp 73 3 7,xK 73 72]) (qf 58 8) 59 58 1 8 59) (wH [wj 74,wb 75 74,xj 76 75,qu 77 76,wl 78 (xJ 77 2),wO 79 78 0] (wz 79 [qR 80 4 7,qU 4 4 80]) [wj 81,wb 82 81,xj 83 82,x8 85 1 xx 4 [xm 0 3,xm 1 4,xm 2 8,xm 3 10],wj 88,wb 89 88,xj 90 89,wj 92,wb 93 92,xr 94 93,qu 84 83,qR 87 4 7,qu 91 90,qu 95 94,yp 86 84 85,yf 4 7 87,qP 90 91,qP 94 95,qm 96 bl [.t 91,.t 95,qh 2],yf 4 7 87,qI 97 4 [qx,qx,wo,.nils] 2 [wv 0 4 87,wv 4 4 96],wx 98 [qx,qx,wo,.nils] [xT 86,wG 3 97],qU 4 4 98]))))⟩
theorem nQ:aq Tryz.prog eF=some iF:=by kernel_rfl
def gW:FK:=⟨46,[xN],qY (wE 2 (.c wo)) [wj 3,wj 4,wb 5 4,qp 6 3 5,qu 7 6,wF 8 7 1,wb 9 3,qp 10 3 9,xK 10 8] (wH [wj 11,wb 12 11,xj 13 12,qu 14 13,wl 15 (xJ 14 9),wO 16 15 0,qf 17 16,xd 18 17 0,qL 19 17 (qz 18),xt 20 17 2 19,xa 21 17 20,qL 22 17 (qV 21),xE 23 17 .gtr 22 qQ,ye 24 17 23] (wz 24 [wj 25,wb 26 25,xj 27 26,wj 29,wb 30 29,xr 31 30,qu 28 27,qu 32 31,wM 33 bK 28 32,qf 2 33]) [wj 34,wb 35 34,qp 36 3 35,wj 39,wb 40 39,qp 41 3 40,qu 37 36,qC 38 .rem 37 24,qu 42 41,qC 43 .rem 42 24,wF 44 43 1,qb 45 (.slStr (yu [97,98,99,100,101,103,104,105,106,107,108,109,110,112,113,114,115,116,117,118,119,120,121,122]) (some (.t 38)) (some (.t 44))),qf 2 45])⟩
theorem ni:aq Tryz.prog dO=some gW:=by kernel_rfl
def eX:FK:=⟨24,[xG 4 5],qY [wP 3 4 1,wa 4 [qx,wo,.nils,.nils,.nils]] (xB (wj 6) (xf 7 dO 6) 5 7) (xW [wj 8,qI 9 1 [wo] 0 [],wj 10,wb 11 10,xr 12 11,qu 13 12,wT 14 1 16 9 13,wV 15,qI 16 1 [wo] 1 [xT 15],wT 17 1 16 14 16,wb 18 8,xr 19 18,xK 19 17] [wV 20,qR 21 4 3,qI 22 4 [qx,qx,wo,.nils] 1 [wv 0 4 21],wx 23 [qx,wo,.nils,.nils,.nils] [(0,1,wN),wG 1 20,wG 2 22],qU 5 4 23])⟩
theorem jz:aq Tryz.prog cr=some eX:=by kernel_rfl
def iB:FK:=⟨14,[xG 2 4],xW [wa 2 [qx,qx,wo,.nils]] [wj 3,wj 5,wb 6 5,xj 7 6,x8 9 1 xx 6 [xm 0 16,xm 1 16,xm 2 16,xm 3 8,xm 4 17,(5,1,qQ)],qu 8 7,xV 4 (xJ 3 2),qP 7 8,yp 10 8 9,wx 11 [qx,qx,wo,.nils] [(0,1,wN),wG 1 10],qI 12 4 [qx,qx,wo,.nils] 2 [wv 0 4 4,wv 4 4 11],wx 13 [qx,qx,wo,.nils] [xm 0 7,wG 3 12],qU 4 2 13]⟩
theorem pg:aq Tryz.prog cS=some iB:=by kernel_rfl
def eq:AK:=qY (wE 4 xb) [wj 9,wj 10,wb 11 10,xj 12 11,qu 13 12,xS 14 5 [xm 0 2,xm 1 3,(2,1,wN),(3,1,qQ),xm 4 5],yp 15 13 14,wx 16 [qx,qx,wo,.nils] [(0,1,wN),wG 1 15],wM 17 cr 9 16,wa 5 [qx,wo,.nils,.nils,.nils],qU 5 5 17] (qY [xL 18 5,qu 19 18,wx 20 [qx,qx,wo,.nils] [xm 0 2,wG 2 19],wa 6 [qx,qx,wo,.nils],qU 4 6 20] [wj 21,xv 22,xk 23 22 1,wM 24 aQ 21 23,qf 7 24] (qe [xL 25 5,qu 26 25,qR 27 4 6,wx 28 [qx,qx,wo,.nils] [(0,1,wN),(1,1,wN)],qI 29 4 [qx,qx,wo,.nils] 2 [wv 0 4 27,wv 4 4 28],wx 30 [qx,qx,wo,.nils] [xm 0 4,wG 3 29],qI 31 4 [qx,qx,wo,.nils] 1 [wv 0 4 30],wx 32 [qx,wo,.nils,.nils,.nils] [xm 0 2,wG 1 26,wG 2 31],wa 8 [qx,wo,.nils,.nils,.nils],qU 5 8 32] (.cut (.reg [wj 33,wj 34,wb 35 34,qp 36 4 35,qu 37 36,xk 38 37 2,wb 39 33,qp 40 4 39,xK 40 38]) (qH [x9 44,qR 41 5 5,qR 42 4 6,x8 43 4 [qx,qx,wo,.nils] 1 [wv 0 4 42],qR 45 5 8,x8 46 5 [qx,wo,.nils,.nils,.nils] 1 [wv 0 5 45],wT 47 5 96 44 46,yf 5 5 41,yf 4 6 42,wx 48 [qx,wo,.nils,.nils,.nils] [xm 0 6,wG 2 43,wG 3 47],qI 49 5 [qx,wo,.nils,.nils,.nils] 2 [wv 0 5 41,wv 5 5 48],qf 4 49]))))
def eA:FK:=⟨50,[xA],(AK.whole eq)⟩
theorem ov:aq Tryz.prog eD=some eA:=by kernel_rfl
def iQ:FK:=⟨128,[xA],qY (wE 4 xb) [wj 7,wj 8,wb 9 8,qp 10 4 9,qu 11 10,xk 12 11 1,wb 13 7,qp 14 4 13,xK 14 12] (qe [wj 15,wb 16 15,xj 17 16,qu 18 17,wl 19 (xJ 18 13),qf 5 19] (qZ 0 (xM [wV 21,qC 22 .lss 21 3,qf 23 22,xd 24 23 0,qL 25 23 (qz 24),xt 26 23 2 25,xa 27 23 26,qL 28 23 (qV 27),xE 29 23 .gtr 28 qQ,ye 30 23 29,qf 20 30] 20 (qH [wj 31,wb 32 31,xj 33 32,wj 35,wb 36 35,xr 37 36,wj 40,qu 34 33,qu 38 37,wM 39 bK 34 38,xV 41 (xJ 40 3),qI 42 4 [qx,qx,wo,.nils] 1 [wv 0 4 41],wx 43 [qx,wo,.nils,.nils,.nils] [xm 0 2,wG 1 39,wG 2 42],qI 44 5 [qx,wo,.nils,.nils,.nils] 1 [wv 0 5 43],qf 4 44]) (xM (xB (wV 46) (qC 47 .lss 46 5) 45 47) 45 (qH [wj 48,wj 49,xV 50 (xJ 49 3),wM 51 cr 48 50,qI 52 5 [qx,wo,.nils,.nils,.nils] 1 [wv 0 5 51],qf 4 52]) (xM [wV 54,qC 55 .lss 54 7,qf 56 55,wY 57 56 1,yb 58 56 .lss 57 (qh 2),xQ 59 56 58,qf 53 59] 53 (qH [wj 60,xV 61 (xJ 60 3),qI 62 4 [qx,qx,wo,.nils] 1 [wv 0 4 61],wx 63 [qx,wo,.nils,.nils,.nils] [xm 0 3,wG 2 62],qI 64 5 [qx,wo,.nils,.nils,.nils] 1 [wv 0 5 63],qf 4 64]) (xM (xB (wV 66) (wO 67 66 7) 65 67) 65 (qH [wj 68,xf 69 cS 68,wj 70,xV 71 (xJ 70 2),qI 72 4 [qx,qx,wo,.nils] 2 [wv 0 4 69,wv 4 4 71],wx 73 [qx,wo,.nils,.nils,.nils] [xm 0 4,wG 2 72],qI 74 5 [qx,wo,.nils,.nils,.nils] 1 [wv 0 5 73],qf 4 74]) (xM (xB (wV 76) (wO 77 76 8) 75 77) 75 (qH [wj 78,xf 79 cS 78,qI 80 4 [qx,qx,wo,.nils] 1 [wv 0 4 79],wx 81 [qx,qx,wo,.nils] [xm 0 12,wG 3 80],qI 82 4 [qx,qx,wo,.nils] 1 [wv 0 4 81],wx 83 [qx,wo,.nils,.nils,.nils] [xm 0 3,wG 2 82],qI 84 5 [qx,wo,.nils,.nils,.nils] 1 [wv 0 5 83],qf 4 84]) (xM (xB (wV 86) (qC 87 .lss 86 11) 85 87) 85 (xI [wj 88,xV 89 (xJ 88 3),qI 90 4 [qx,qx,wo,.nils] 1 [wv 0 4 89],wj 91,xv 92,xk 93 92 1,wM 94 aQ 91 93,wx 95 [qx,wo,.nils,.nils,.nils] [xm 0 5,wG 2 90,wG 3 94],wa 6 [qx,wo,.nils,.nils,.nils],qU 5 6 95] [wj 96,wb 97 96,xj 98 97,qu 99 98,wl 100 (xJ 99 2),wO 101 100 0] (xU 101 [wj 102,xv 103,xk 104 103 1,wM 105 aQ 102 104,qp 106 4 6,xK 106 105]) (xB (qR 107 5 6) (qI 108 5 [qx,wo,.nils,.nils,.nils] 1 [wv 0 5 107]) 4 108)) (qe [wV 110,wO 111 110 11,qf 112 111,xd 113 112 0,qL 114 112 (qz 113),xt 115 112 0 114,xa 116 112 115,qL 117 112 (xR (xJ 116 3)),xE 118 112 .eql 117 qQ,ye 119 112 118,qf 109 119] (wz 109 [wj 120,xV 121 (xJ 120 2),qI 122 4 [qx,qx,wo,.nils] 1 [wv 0 4 121],wx 123 [qx,wo,.nils,.nils,.nils] [xm 0 7,wG 2 122],qI 124 5 [qx,wo,.nils,.nils,.nils] 1 [wv 0 5 123],qf 4 124])))))))) (qH [wj 125,xv 126,wM 127 eD 125 126,qf 4 127])))⟩
theorem pj:aq Tryz.prog ee=some iQ:=by kernel_rfl
def gy:FK:=⟨40,[xA],qY (wE 4 xb) [wj 8,wb 9 8,xr 10 9,qu 11 10,qf 5 11] (qe (xq (qI 12 5 [qx,wo,.nils,.nils,.nils] 0 []) 6 12) (qB [wj 13,wb 14 13,xj 15 14,qu 16 15,xS 17 4 [xm 0 2,xm 1 3,(2,1,wN),xm 3 4],yp 18 16 17,qf 7 18] (wX 0 [x9 19,qC 20 .gtr 19 0,qf 21 20,xd 22 21 0,qL 23 21 (qz 22),xt 24 21 4 23,xa 25 21 24,xE 26 21 .gtr 25 qQ,ye 27 21 26] 27 0 1 (.reg [xi 30,wj 31,xv 32,wM 33 ee 31 32,wT 34 5 96 30 33,qf 6 34]) (xB (x9 28) (xk 29 28 1) 7 29)) (xW [wj 35,wV 36,wb 37 35,xr 38 37,xK 38 36] (xq (xi 39) 4 39))))⟩
theorem nz:aq Tryz.prog aQ=some gy:=by kernel_rfl
def fZ:AK:=qY [yn 6 wo .nils] [wj 8,qI 9 1 [wo] 3 [(0,1,yu [97]),(1,1,yu [98]),(2,1,yu [99])],qf 10 2,qb 11 (.slS 1 (.t 9) none (some (.t 10))),wb 12 8,xr 13 12,xK 13 11] (qe [wj 14,qf 15 2,xk 16 15 1,wb 17 14,qp 18 3 17,xK 18 16] (.cut (.reg [xv 19,qI 20 1 [wo] 0 [],wj 21,wb 22 21,xr 23 22,qu 24 23,wT 25 1 16 20 24,wx 26 (ym wo .nils) [xT 19,wG 1 25],yn 7 wo .nils,qU 3 7 26]) (xI [wj 27,qm 28 aQ (xJ 27 3),xr 29 7,xK 29 28] [wj 30,wb 31 30,qp 32 4 31,qu 33 32,qC 34 .gtr 33 0,qf 35 34,xd 36 35 0,qL 37 35 (qz 36),xt 38 35 0 37,xa 39 35 38,qL 40 35 (xR (xJ 39 4)),xE 41 35 .gtr 40 qQ,ye 42 35 41] (qW 42 (qe [wj 43,wj 44,wb 45 44,qp 46 4 45,qu 47 46,xk 48 47 1,wb 49 43,qp 50 4 49,xK 50 48] (.reg [xr 51 7,wj 53,qu 52 51,xV 54 (xJ 53 2),qP 51 52,x8 55 4 [qx,qx,wo,.nils] 1 [wv 0 4 54],wx 56 [qx,wo,.nils,.nils,.nils] [xm 0 7,wG 2 55],x8 57 5 [qx,wo,.nils,.nils,.nils] 1 [wv 0 5 56],wT 58 5 96 52 57,xr 59 7,xK 59 58]))) [yc 60 7,qU 3 6 60])))
def fT:FK:=⟨61,[xG 6 3],(AK.whole fZ)⟩
theorem rQ:aq Tryz.prog dK=some fT:=by kernel_rfl
def kT:FK:=⟨18,[xA],xI (wZ 4) (wZ 5) (xD 0 [wV 6,wj 7,qb 8 (.len true (.t 7)),wJ 9 6 8] 9 0 1 (qe [wj 12,wV 13,qb 14 (.idxStr (.t 12) (.t 13)),xv 15,wm 16 .eql 14 15] (wz 16 (xq (wV 17) 4 17))) (wV 10) 11 10 1 5 11) (wE 4 (qh (-1)))⟩
theorem uA:aq Tryz.prog gQ=some kT:=by kernel_rfl
def lu:FK:=⟨28,[xN],qe (wZ 2) (qZ 0 (xM [wj 4,qv 5 .geq 4 (.c (qd .u8 97)),wV 6,xd 7 6 0,xE 8 6 .leq 7 (.c (qd .u8 122)),ye 9 6 8,qf 3 9] 3 (qH (wE 2 wN)) (xM [wj 11,qv 12 .geq 11 (.c (qd .u8 48)),qf 13 12,xd 14 13 0,xE 15 13 .leq 14 (.c (qd .u8 57)),ye 16 13 15,qf 10 16] 10 (qH (wE 2 (qh 2))) (xM [wj 18,qm 19 gQ [yu [40,41,123,125,59,44,43,45,42,47,37,60,61,38,33,64],.t 18],qC 20 .geq 19 0,qf 17 20] 17 (qH (wE 2 (qh 3))) (qe [wj 22,qv 23 .eql 22 (.c (qd .u8 32)),qf 24 23,wY 25 24 0,yb 26 24 .eql 25 (.c (qd .u8 10)),xQ 27 24 26,qf 21 27] (wW 21 2 (qh 4)))))) (qH (wZ 2)))⟩
theorem tG:aq Tryz.prog gD=some lu:=by kernel_rfl
def oV:FK:=⟨21,[xA],xI (wE 4 wd) (wZ 5) (xD 0 [wV 6,wj 7,qb 8 (.len true (.t 7)),wJ 9 6 8] 9 0 1 (qe [wj 12,wV 13,qb 14 (.idxStr (.t 12) (.t 13)),xf 15 gD 14,xv 16,wm 17 .neq 15 16] (yq 17 4)) (wV 10) 11 10 1 5 11) [wj 18,qb 19 (.len true (.t 18)),qC 20 .gtr 19 0,qf 4 20]⟩
theorem yC:aq Tryz.prog kq=some oV:=by kernel_rfl
def kF:FK:=⟨2,[.t 0],xW (wE 0 xb) (xq (qI 1 1 [wo] 9 [(0,1,yu [102,110]),(1,1,yu [108,101,116]),(2,1,yu [115,97,121]),(3,1,yu [112,117,116]),(4,1,yu [105,102]),(5,1,yu [101,108,115,101]),(6,1,yu [108,111,111,112]),(7,1,yu [98,97,99,107]),(8,1,yu [100,111])]) 0 1)⟩
theorem rP:aq Tryz.prog dJ=some kF:=by kernel_rfl
def oQ:FK:=⟨18,[xN],qY (wE 2 wd) [qm 5 dJ [],wV 3] (wH (wZ 4) (xD 0 [xH 6,ya 7,wg 8 7,wJ 9 6 8] 9 0 1 (qe [ya 12,xH 13,wn 14 1 12 13,qu 15 14,wj 16,qb 17 (.bins .eql (.t 15) (.t 16))] (wW 17 2 wI)) (xH 10) 11 10 1 4 11) (wE 2 wd))⟩
theorem zH:aq Tryz.prog kw=some oQ:=by kernel_rfl
def mH:FK:=⟨15,[xN],xW (wE 2 wd) [wj 3,qm 4 kq (wK 3 wN),xH 5,xd 6 5 0,qL 7 5 (.len true (.t 6)),xE 8 5 .leq 7 (qh 4),ye 9 5 8,qf 10 9,xd 11 10 0,qL 12 10 (.call kw (xe 11)),qL 13 10 (wB 12),ye 14 10 13,qf 2 14]⟩
theorem uM:aq Tryz.prog bQ=some mH:=by kernel_rfl
def jr:FK:=⟨5,[xN],xI (wZ 2) [wj 3,wO 4 3 4] (wW 4 2 (qh 2)) (wE 2 wN)⟩
theorem uW:aq Tryz.prog fB=some jr:=by kernel_rfl
def cf:FK:=⟨13,[xN,.t 3],xI [yh 2,yh 3] [wj 4] (.blk 0 (qB [wO 6 4 1,xi 5] (qt 5 .skip (.reg (xZ 7 4 2 5 7))) (qt 5 (qH [yh 2,yh 3]) (qB (xZ 9 4 11 8 9) (qt 8 .skip (.reg (xZ 10 4 12 8 10))) (qt 8 (qH [qc 2 wN,qc 3 wN]) (qe (xZ 12 4 13 11 12) (wz 11 [yh 2,qc 3 (qh 3)]))))))) [qc 2 (qh 2),qc 3 (qh 2)]⟩
theorem uJ:aq Tryz.prog fz=some cf:=by kernel_rfl
def fC:FK:=⟨86,[xA],qY [wP 2 4 0,qc 4 wd] [xj 10 2,qu 11 10,xf 12 fz 11,qf 9 12,qb 13 (.ext 0 (.t 9)),qb 14 (.ext 1 (.t 9)),qf 5 13,qf 6 14] (qB [xv 15,qC 16 .lss 15 1,qf 17 16,xz 18 17 0 2,xh 19 17 18,qK 20 17 (xo [.t 19,wN,qh 13]),yr 21 17 20,xQ 22 17 21,qf 23 22,xz 24 23 3 2,xh 25 23 24,qK 26 23 (qV 25),wY 27 23 5,wY 28 23 6,qK 29 23 (xo [.t 26,.t 27,.t 28]),yr 30 23 29,xQ 31 23 30] (yq 31 4) (qe [xj 32 2,qu 33 32,wO 34 33 2,qf 35 34,xz 36 35 0 2,xh 37 35 36,yb 38 35 .eql 37 (qh 13),xQ 39 35 38,qf 7 39] (qB [x9 40,xr 41 2,qu 42 41,xf 43 bQ 42,qb 44 (.beq true (.t 40) (.t 43)),qf 45 44,wY 46 45 7,yr 47 45 46,wY 48 45 47,xt 49 48 2 2,xa 50 48 49,qL 51 48 (.bins .neq (.t 50) (.c wo)),qK 52 45 (qO 48 (.t 51) wd),xQ 53 45 52,qf 54 53,xz 55 54 1 2,xh 56 54 55,qK 57 54 (xo [.t 56,qQ,qh 255]),yr 58 54 57,xQ 59 54 58,qf 60 59,xz 61 60 0 2,xh 62 60 61,yb 63 60 .neq 62 wN,wY 64 60 63,xt 65 64 1 2,xa 66 64 65,xE 67 64 .neq 66 qQ,qK 68 60 (qO 64 (.t 67) wd),xQ 69 60 68] (yq 69 4) (wH (wZ 8) (xD 0 [qf 70 8,qp 71 3 2,qu 72 71,wg 73 72,wJ 74 70 73] 74 0 1 (qe [qp 77 3 2,qu 78 77,qf 79 8,wn 80 4 78 79,qR 81 4 80,xv 82,xk 83 82 1,wM 84 dH 81 83,xX 85 84] (yq 85 4)) (qf 75 8) 76 75 1 8 76) (wE 4 wI)))))⟩
theorem mv:aq Tryz.prog dH=some fC:=by kernel_rfl
def lE:FK:=⟨21,[xN],qY [wP 1 4 0,yh 2] (wE 3 wN) (wH (wZ 4) (xD 0 [xH 5,qp 6 3 1,qu 7 6,wg 8 7,wJ 9 5 8] 9 0 1 (.reg [ya 12,qp 13 3 1,qu 14 13,xH 15,wn 16 4 14 15,qR 17 4 16,xf 18 ec 17,wm 19 .add 12 18,qf 3 19]) (xH 10) 11 10 1 4 11) (xq (ya 20) 2 20))⟩
theorem ty:aq Tryz.prog ec=some lE:=by kernel_rfl
def jF:FK:=⟨10,[xN],xW [wP 1 4 0,qc 2 wd] [qR 3 4 1,qm 4 dH (xJ 3 6),xH 5,qL 6 5 (qj (some 4) 1),qL 7 5 (.call ec (xe 6)),xE 8 5 .leq 7 (qh 30),ye 9 5 8,qf 2 9]⟩
theorem pN:aq Tryz.prog de=some jF:=by kernel_rfl
def fD:FK:=⟨108,[xA],qe [wP 2 5 0,qc 4 wd] (qB [xv 7,qC 8 .lss 7 1,qf 9 8,xz 10 9 0 2,xh 11 9 10,qK 12 9 (xo [.t 11,wN,qh 8]),yr 13 9 12,xQ 14 9 13,qf 15 14,xz 16 15 2 2,xz 19 15 0 2,xh 17 15 16,qK 18 15 (qV 17),xh 20 15 19,qK 21 15 (.qcall fB (xe 20)),yb 22 15 .neq 18 (.t 21),xQ 23 15 22] (yq 23 4) (qe [xj 24 2,qu 25 24,wO 26 25 1,qf 27 26,xz 28 27 0 2,xh 29 27 28,yb 30 27 .eql 29 (qh 2),xQ 31 27 30,qf 5 31] (qB [wV 32,xL 33 2,qu 34 33,xf 35 bQ 34,qb 36 (.beq true (.t 32) (.t 35)),qf 37 36,wY 38 37 5,yr 39 37 38,wY 40 37 39,xt 41 40 1 2,xa 42 40 41,qL 43 40 (.bins .neq (.t 42) (.c wo)),qK 44 37 (qO 40 (.t 43) wd),xQ 45 37 44] (yq 45 4) (qB (wZ 6) (xD 0 [xi 46,xr 47 2,qu 48 47,wg 49 48,wJ 50 46 49] 50 0 1 (qe [xr 53 2,qu 54 53,xi 55,wn 56 4 54 55,qR 57 4 56,xf 58 de 57,xX 59 58] (yq 59 4)) (xi 51) 52 51 1 6 52) (qB [xj 60 2,qu 61 60,wO 62 61 8,qf 63 62,xt 64 63 2 2,xa 65 63 64,qL 66 63 (qG 4 65 qQ),xt 67 63 0 66,xa 68 63 67,xE 69 63 .neq 68 (qh 13),ye 70 63 69] (yq 70 4) (wH [qp 71 4 2,qu 72 71,wg 73 72,qC 74 .gtr 73 0,qf 75 74,xt 76 75 0 2,xa 77 75 76,xE 78 75 .neq 77 (qh 5),ye 79 75 78,qf 80 79,xz 81 80 3 2,xh 82 80 81,qK 83 80 (qV 82),yb 84 80 .gtr 83 qQ,wY 85 80 84,xt 86 85 0 2,xa 87 85 86,xE 88 85 .neq 87 (qh 5),qK 89 80 (qO 85 (.t 88) wd),wY 90 80 89,xt 91 90 0 2,xa 92 90 91,xE 93 90 .neq 92 (qh 6),qK 94 80 (qO 90 (.t 93) wd),xQ 95 80 94] (yq 95 4) [qp 96 3 2,qu 97 96,xv 98,xk 99 98 1,wM 100 bC 97 99,qf 101 100,xt 102 101 4 2,xa 103 101 102,xd 104 101 1,xE 105 101 .sub 104 wN,qL 106 101 (.call bC (wL 103 105)),ye 107 101 106,qf 4 107]))))))⟩
theorem mK:aq Tryz.prog fm=some fD:=by kernel_rfl
def lv:FK:=⟨19,[xA],xI (wE 4 wd) (wZ 5) (xD 0 [wV 6,wj 7,wg 8 7,wJ 9 6 8] 9 0 1 (qe [wj 12,wV 13,wn 14 5 12 13,qR 15 5 14,xv 16,wM 17 fm 15 16,xX 18 17] (yq 18 4)) (wV 10) 11 10 1 5 11) (wE 4 wI)⟩
theorem ut:aq Tryz.prog bC=some lv:=by kernel_rfl
def rD:FK:=⟨32,[xN],xI [wP 1 3 0,qc 2 wd] (wZ 3) (xD 0 [ya 4,xL 5 1,qu 6 5,wg 7 6,wJ 8 4 7] 8 0 1 (qe [xL 11 1,qu 12 11,ya 13,wn 14 1 12 13,qu 15 14,xf 16 bQ 15,xX 17 16] (yq 17 2)) (ya 9) 10 9 1 3 10) [xj 18 1,qu 19 18,xf 20 bQ 19,qf 21 20,xt 22 21 1 1,xa 23 21 22,qL 24 21 (qV 23),xE 25 21 .leq 24 (qh 3),ye 26 21 25,qf 27 26,xt 28 27 2 1,xa 29 27 28,qL 30 27 (.call bC (xJ 29 4)),ye 31 27 30,qf 2 31]⟩
theorem AS:aq Tryz.prog lL=some rD:=by kernel_rfl
def gB:FK:=⟨29,[xN],qY (wZ 2) [wj 5,wg 6 5,xi 3] (wH (wZ 4) (xD 0 [xH 7,wj 8,wg 9 8,wJ 10 7 9] 10 0 1 (.reg [ya 13,wj 14,xH 15,wn 16 5 14 15,qp 17 3 16,wj 21,xH 22,wn 23 5 21 22,qp 24 4 23,qu 18 17,qu 25 24,xf 19 dc 18,qP 24 25,wm 20 .add 13 19,xf 26 dc 25,wm 27 .add 20 26,qf 3 27]) (xH 11) 12 11 1 4 12) (xq (ya 28) 2 28))⟩
theorem lc:aq Tryz.prog dc=some gB:=by kernel_rfl
def nY:FK:=⟨22,[xN],qY [wP 1 1 0,yh 2] (wZ 3) (wH (wZ 4) (xD 0 [xH 5,xj 6 1,qu 7 6,wg 8 7,wJ 9 5 8] 9 0 1 (.reg [ya 12,xj 13 1,qu 14 13,xH 15,wn 16 3 14 15,xr 17 16,qu 18 17,xf 19 dc 18,wm 20 .add 12 19,qf 3 20]) (xH 10) 11 10 1 4 11) (xq (ya 21) 2 21))⟩
theorem zj:aq Tryz.prog kg=some nY:=by kernel_rfl
def gb:FK:=⟨26,[xN],qe [wP 1 1 0,qc 2 wd] (qB [xj 4 1,qu 5 4,wg 6 5,x7 7 [.t 6,wN,qh 4],xX 8 7] (yq 8 2) (wH (wZ 3) (xD 0 [ya 9,xj 10 1,qu 11 10,wg 12 11,wJ 13 9 12] 13 0 1 (qe [xj 16 1,qu 17 16,ya 18,wn 19 3 17 18,yc 20 19,xf 21 lL 20,xX 22 21] (yq 22 2)) (ya 14) 15 14 1 3 15) [qR 23 1 1,xf 24 kg 23,qC 25 .leq 24 40,qf 2 25]))⟩
theorem mr:aq Tryz.prog dv=some gb:=by kernel_rfl
def my:FK:=⟨69,[xG 2 1],qY [wa 2 xY] [wj 8,wj 9,xS 10 4 [xm 0 14,xm 1 20,xm 2 8,xm 3 26],yp 11 9 10,wx 12 [.nilp,.nils,.nils,qx,qx] [xT 8,wG 4 11],wP 13 5 12,qf 3 13] (qB [wj 14,xS 15 4 [(0,1,qQ),(1,1,wN),(2,1,wN),xm 3 2],yp 16 14 15,qf 4 16] (wX 0 [xH 17,qC 18 .gtr 17 0] 18 0 1 (qe [qc 5 (.c .any),ya 21,x8 22 1 [wo] 3 [(0,1,yu [102]),(1,1,yu [103]),(2,1,yu [104])],ya 23,wb 24 23,xL 25 24,wj 30,qu 26 25,wg 27 26,wn 28 1 22 27,qu 29 28,wl 31 (xJ 30 3),qP 25 26,qP 28 29,qm 32 dK [.t 21,.t 29,.t 31],yn 5 wo .nils,qU 3 5 32] (.reg [ya 33,ya 34,wb 35 34,xL 36 35,qu 37 36,yc 38 5,x8 39 3 (ym wo .nils) 1 [wv 0 3 38],wT 40 3 64 37 39,wb 41 33,xL 42 41,xK 42 40])) (xB (xH 19) (xk 20 19 1) 4 20)) (qY [ya 43,wj 44,xS 45 4 [(0,1,qQ),(1,1,wN),xm 2 2,(3,1,wN)],yp 46 44 45,qm 47 dK [.t 43,yu [109],.t 46],yn 6 wo .nils,qU 3 6 47] [qc 7 (.c .any),ya 49,wb 50 49,xL 51 50,qu 52 51,yc 54 6,x8 55 3 (ym wo .nils) 1 [wv 0 3 54],qI 48 3 (ym wo .nils) 0 [],qP 51 52,yf 3 6 54,wT 53 3 64 48 52,yf 3 6 54,wT 56 3 64 53 55,wx 57 xY [xT 56],wa 7 xY,xK 7 57] (wH [qR 58 1 7,xf 59 dv 58,xX 60 59] (wz 60 [wx 61 [qx,qx,wo,.nils] [(0,1,wN),(1,1,wN)],qI 62 4 [qx,qx,wo,.nils] 1 [wv 0 4 61],wx 63 [qx,wo,.nils,.nils,.nils] [xm 0 3,wG 2 62],qI 64 5 [qx,wo,.nils,.nils,.nils] 1 [wv 0 5 63],wx 65 (ym wo .nils) [(0,1,yu [109]),wG 2 64],qI 66 3 (ym wo .nils) 1 [wv 0 3 65],wx 67 xY [xT 66],xK 2 67]) [qR 68 1 7,xK 2 68])))⟩
theorem uZ:aq Tryz.prog fy=some my:=by kernel_rfl
def lh:FK:=⟨4,[xN],xI (wZ 2) [wj 3] (wW 3 2 wN) (wZ 2)⟩
theorem uy:aq Tryz.prog en=some lh:=by kernel_rfl
def jk:FK:=⟨35,[xN],qY (wZ 2) (wZ 3) (wH (wZ 4) (xD 0 [xH 5,wj 6,wg 7 6,wJ 8 5 7] 8 0 1 (.reg [ya 11,wj 12,xH 13,wn 14 5 12 13,xj 15 14,wj 20,xH 21,wn 22 5 20 21,qp 23 3 22,wj 27,xH 28,wn 29 5 27 28,qp 30 4 29,qu 16 15,wO 17 16 1,qu 24 23,qu 31 30,xf 18 en 17,qP 23 24,qP 30 31,wm 19 .add 11 18,xf 25 dI 24,qP 30 31,wm 26 .add 19 25,xf 32 dI 31,wm 33 .add 26 32,qf 3 33]) (xH 9) 10 9 1 4 10) (xq (ya 34) 2 34))⟩
theorem mP:aq Tryz.prog dI=some jk:=by kernel_rfl
def dR:FK:=⟨25,[xN],qY (wZ 2) [wj 3,wj 4,wb 5 4,xL 6 5,xr 7 6,qu 8 7,qI 9 2 [qx,.nils] 0 [],qI 10 4 [qx,qx,.nils,qx] 0 [],xS 11 0 [],wx 12 [.nils,.nils,qx,qx,.nils] [xT 9,wG 1 10,wG 4 11],qI 13 5 [.nils,.nils,qx,qx,.nils] 1 [wv 0 5 12],wT 14 5 88 8 13,wb 15 3,xL 16 15,xr 17 16,xK 17 14] (qH [wj 18,wb 19 18,xL 20 19,xr 21 20,qu 22 21,wg 23 22,xk 24 23 1,qf 2 24])⟩
theorem gS:aq Tryz.prog bT=some dR:=by kernel_rfl
def iA:FK:=⟨37,[],qY [wj 11,wb 12 11,xL 13 12,xr 14 13,wj 16,wb 17 16,qp 18 4 17,qu 15 14,qu 19 18,wn 20 5 15 19,qf 10 20] [qf 21 10,xv 22,wb 23 21,xr 24 23,xK 24 22] (qY [qf 25 10,qf 26 2,wb 27 25,qp 28 3 27,xK 28 26] [qf 29 10,ya 30,wb 31 29,qp 32 4 31,xK 32 30] (.reg [wj 33,xH 34,wb 35 33,qp 36 4 35,xK 36 34]))⟩
theorem od:aq Tryz.prog bp=some iA:=by kernel_rfl
def gN:FK:=⟨19,[xN],qY (wZ 2) [wj 3,wj 4,wb 5 4,xL 6 5,xL 7 6,qu 8 7,wF 9 8 1,wb 10 3,xL 11 10,xL 12 11,xK 12 9] (qH [wj 13,wb 14 13,xL 15 14,xL 16 15,qu 17 16,xk 18 17 1,qf 2 18])⟩
theorem nB:aq Tryz.prog bv=some gN:=by kernel_rfl
def ff:FK:=⟨37,[.t 10],qY (wZ 10) [wj 12,wb 13 12,xL 14 13,xr 15 14,wj 17,wb 18 17,qp 19 4 18,qu 16 15,qu 20 19,wn 21 5 16 20,qf 11 21] (xW [qf 22 11,qf 23 11,wb 24 23,xL 25 24,qu 26 25,xv 27,qf 28 2,xH 29,ya 30,wx 31 [qx,qx,.nils,qx] [xT 27,wG 1 28,wG 2 29,wG 3 30],qI 32 4 [qx,qx,.nils,qx] 1 [wv 0 4 31],wT 33 4 48 26 32,wb 34 22,xL 35 34,xK 35 33] (xq (qf 36 2) 10 36))⟩
theorem pH:aq Tryz.prog bR=some ff:=by kernel_rfl
def fe:FK:=⟨34,[xA],xI (wZ 4) [wj 6,wb 7 6,qp 8 5 7,qu 9 8,wg 10 9,xk 11 10 1,qf 5 11] (wX 0 [wV 12,qC 13 .geq 12 0] 13 0 1 (qe [wj 16,wb 17 16,qp 18 5 17,qu 19 18,wV 20,wn 21 3 19 20,xj 22 21,qu 23 22,xv 24,qb 25 (.bins .eql (.t 23) (.t 24))] (wz 25 [wj 26,wb 27 26,qp 28 5 27,qu 29 28,wV 30,wn 31 3 29 30,xL 32 31,qu 33 32,qf 4 33])) (xB (wV 14) (xk 15 14 1) 5 15)) (wE 4 (qh (-1)))⟩
theorem rd:aq Tryz.prog dj=some fe:=by kernel_rfl
def ju:FK:=⟨56,[xA],qY [wP 3 4 1,yh 4] [wj 11,qp 12 3 3,qu 13 12,qb 14 (qG 4 13 qQ),qR 15 4 14,wM 16 bc 11 15,qf 5 16] (qY [wj 17,wj 18,xP 19 18,xS 20 0 [],xg 21 [.t 17,wN,.t 19,qQ,.t 20],qf 6 21] (xB (wj 22) (xu 23 22) 7 23) (qY (xB (wj 24) (xu 25 24) 8 25) [wj 26,wV 27,x9 28,qf 29 8,xS 30 2 [xT 28,wG 1 29],x9 31,xF 32 [.t 26,qh 2,.t 27,.t 30,.t 31]] (qY [wj 33,qp 34 3 3,qu 35 34,qb 36 (qG 4 35 wN),qR 37 4 36,wM 38 bc 33 37,qf 9 38] [wj 39,wj 40,xP 41 40,qf 42 9,xS 43 1 [xT 42],xg 44 [.t 39,qh 10,.t 41,qQ,.t 43],qf 10 44] (qY [wj 45,xi 46,qf 47 10,xS 48 1 [xT 47],xg 49 [.t 45,qh 10,.t 46,qQ,.t 48]] [wj 50,qf 51 8,xS 52 1 [xT 51],qf 53 8,xF 54 [.t 50,wN,qQ,.t 52,.t 53]] (qH (xq (xi 55) 4 55))))))⟩
theorem pC:aq Tryz.prog fc=some ju:=by kernel_rfl
def rh:FK:=⟨22,[xA],xI [wP 2 1 0,yh 4] (wZ 5) (xD 0 [wV 6,xj 7 2,qu 8 7,wg 9 8,wJ 10 6 9] 10 0 1 (qe [xj 13 2,qu 14 13,wV 15,wn 16 3 14 15,xj 17 16,qu 18 17,xv 19,qb 20 (.bins .eql (.t 18) (.t 19))] (wz 20 (xq (wV 21) 4 21))) (wV 11) 12 11 1 5 12) (wE 4 (qh (-1)))⟩
theorem Ba:aq Tryz.prog lC=some rh:=by kernel_rfl
def bZ:FK:=⟨84,[xA],qe [wP 3 4 1,yh 4] (qB [xj 7 3,qu 8 7] (.blk 0 (xM (xZ 10 8 1 9 10) 9 (qH [wj 11,wj 12,xL 14 3,x8 16 1 xx 0 [],qu 15 14,xP 13 12,qP 14 15,xg 17 [.t 11,wN,.t 13,.t 15,.t 16],qf 4 17]) (xM (xZ 19 8 2 18 19) 18 (qH [wj 20,xr 21 3,qu 22 21,wM 23 dj 20 22,qf 4 23]) (qe (xZ 25 8 10 24 25) (wz 24 [wj 26,qR 27 4 3,wM 28 fc 26 27,qf 4 28]))))) (qe (xq (xS 29 0 []) 5 29) (qB (wZ 6) (xD 1 [xi 30,qp 31 3 3,qu 32 31,wg 33 32,wJ 34 30 33] 34 1 2 (.reg [wV 37,wj 38,qp 39 3 3,qu 40 39,xi 41,wn 42 4 40 41,qR 43 4 42,wM 44 bc 38 43,xS 45 1 [xT 44],wT 46 1 8 37 45,qf 5 46]) (xi 35) 36 35 1 6 36) (wH [xj 47 3,qu 48 47] (.blk 3 (xM (xZ 50 48 11 49 50) 49 (qH [wj 51,wj 52,xP 53 52,wV 54,xg 55 [.t 51,qh 10,.t 53,qQ,.t 54],qf 4 55]) (xM (xZ 57 48 12 56 57) 56 (qH [wj 58,wj 59,xP 60 59,wV 61,xg 62 [.t 58,qh 11,.t 60,qQ,.t 61],qf 4 62]) (qe (xZ 64 48 13 63 64) (wz 63 [wj 65,wj 66,wj 68,wb 69 68,xj 70 69,xr 72 3,wV 75,qR 71 1 70,qu 73 72,xP 67 66,yf 1 70 71,qP 72 73,wM 74 lC 71 73,xg 76 [.t 65,qh 14,.t 67,.t 74,.t 75],qf 4 76]))))) [wj 77,xj 78 3,wj 80,wV 82,qu 79 78,xP 81 80,qP 78 79,xg 83 [.t 77,.t 79,.t 81,qQ,.t 82],qf 4 83]))))⟩
theorem oO:aq Tryz.prog bc=some bZ:=by kernel_rfl
def iO:FK:=⟨41,[],qY [wP 3 5 1] (xB (wj 8) (xu 9 8) 4 9) (qY (xB (wj 10) (xu 11 10) 5 11) (xB (wj 12) (xu 13 12) 6 13) (qY [wj 14,xH 15,xS 16 1 [xT 15],xH 17,xF 18 [.t 14,wN,qQ,.t 16,.t 17]] [wj 19,xr 20 3,qu 21 20,qb 22 (qG 4 21 qQ),qR 23 4 22,wM 24 bc 19 23,qf 7 24] (qY [wj 25,x9 26,wV 27,xi 28,xS 29 2 [xT 27,wG 1 28],wV 30,xF 31 [.t 25,qh 2,.t 26,.t 29,.t 30]] [wj 32,qp 33 3 3,qu 34 33,wM 35 bg 32 34] (.reg [wj 36,xH 37,xS 38 1 [xT 37],xi 39,xF 40 [.t 36,wN,qQ,.t 38,.t 39]]))))⟩
theorem ou:aq Tryz.prog er=some iO:=by kernel_rfl
def eG:FK:=⟨132,[],qe [wP 3 5 1] (qB [xj 9 3,qu 10 9,wO 11 10 6] (wz 11 [wj 12,qR 13 5 3,wM 14 er 12 13]) (qe (xq (xS 15 0 []) 4 15) (qB (wZ 5) (xD 0 [wV 16,xr 17 3,qu 18 17,wg 19 18,wJ 20 16 19] 20 0 1 (.reg [xH 23,wj 24,xr 25 3,qu 26 25,wV 27,wn 28 4 26 27,qR 29 4 28,wM 30 bc 24 29,xS 31 1 [xT 30],wT 32 1 8 23 31,qf 4 32]) (wV 21) 22 21 1 5 22) (qe [xj 33 3,qu 34 33] (.blk 2 (xM (xZ 36 34 1 35 36) 35 (qY [wj 37,wj 38,wb 39 38,qp 40 6 39,qu 41 40,xH 42,xg 43 [.t 37,qh 2,.t 41,qQ,.t 42]] [wj 44,wj 45,wb 46 45,qp 47 5 46,xL 49 3,wj 51,wb 52 51,qp 53 6 52,qu 48 47,qu 50 49,qu 54 53,wx 55 [wo,qx,qx] [xT 50,wG 1 54,(2,1,qQ)],x8 56 3 [wo,qx,qx] 1 [wv 0 3 55],wT 57 3 32 48 56,wb 58 44,qp 59 5 58,xK 59 57] (.reg [wj 60,wj 61,wb 62 61,qp 63 6 62,qu 64 63,wF 65 64 1,wb 66 60,qp 67 6 66,xK 67 65])) (xM (xZ 69 34 2 68 69) 68 (.reg [wj 70,wj 71,xL 72 3,qu 73 72,wM 74 dj 71 73,xH 75,xg 76 [.t 70,qh 2,.t 74,qQ,.t 75]]) (xM (xZ 78 34 3 77 78) 77 (.reg [wj 79,xH 80,xg 81 [.t 79,qh 13,qh (-1),qQ,.t 80]]) (xM (xZ 83 34 4 82 83) 82 (.reg [wj 84,xH 85,xg 86 [.t 84,qh 12,qh (-1),qQ,.t 85]]) (xM (xZ 88 34 7 87 88) 87 (.reg [wj 89,xH 90,qb 91 (qG 1 90 qQ),x8 93 1 xx 0 [],wj 94,qu 92 91,xu 95 94,qP 91 92,xF 96 [.t 89,qh 3,.t 92,.t 93,.t 95]]) (qe (xZ 98 34 5 97 98) (qW 97 (qY (xB (wj 99) (xu 100 99) 6 100) (xB (wj 101) (xu 102 101) 7 102) (qY (xB (wj 103) (xu 104 103) 8 104) [wj 105,xH 106,qb 107 (qG 1 106 qQ),qu 108 107,xi 109,x9 110,xS 111 2 [xT 109,wG 1 110],xi 112,xF 113 [.t 105,qh 2,.t 108,.t 111,.t 112]] (qY [wj 114,qp 115 3 3,qu 116 115,wM 117 bg 114 116] [wj 118,qf 119 8,xS 120 1 [xT 119],x9 121,xF 122 [.t 118,wN,qQ,.t 120,.t 121]] (qe [wj 123,qp 124 4 3,qu 125 124,wM 126 bg 123 125] (.reg [wj 127,qf 128 8,xS 129 1 [xT 128],qf 130 8,xF 131 [.t 127,wN,qQ,.t 129,.t 130]])))))))))))))))))⟩
theorem oW:aq Tryz.prog ey=some eG:=by kernel_rfl
def dU:FK:=⟨32,[],qe [wj 6,wb 7 6,qp 8 5 7,qu 9 8,wg 10 9,qf 4 10] (qB (wZ 5) (xD 0 [wV 11,xv 12,wg 13 12,wJ 14 11 13] 14 0 1 (.reg [wj 17,xv 18,wV 19,wn 20 5 18 19,qR 21 5 20,wM 22 ey 17 21]) (wV 15) 16 15 1 5 16) (.reg [wj 23,wj 24,wb 25 24,qp 26 5 25,qu 27 26,xH 28,qb 29 (.slS 3 (.t 27) none (some (.t 28))),wb 30 23,qp 31 5 30,xK 31 29]))⟩
theorem mZ:aq Tryz.prog bg=some dU:=by kernel_rfl
def ro:FK:=⟨80,[xG 4 3],qY [wP 2 1 0,yn 4 qx qx] [xj 9 2,qu 10 9,xv 11,wn 12 3 10 11,yc 13 12,yn 5 wo .nils,qU 3 5 13] (qY [qR 14 1 2,xL 15 5,qu 16 15,wg 17 16,wx 18 [.nils,qx,qx,.nils,qx,.nils,qx,.nils] [xT 14,wG 6 17],wP 19 8 18,qf 6 19] [xi 20,xL 21 5,qu 22 21,wg 23 22,wb 24 20,xL 25 24,xj 26 25,xK 26 23] (qe [xi 27,xL 28 5,xr 31 5,qu 29 28,wg 30 29,qu 32 31,xf 33 dI 32,qP 28 29,wm 34 .add 30 33,wb 35 27,xL 36 35,xL 37 36,xK 37 34] (qB (wZ 7) (xD 0 [x9 38,xL 39 5,qu 40 39,wg 41 40,wJ 42 38 41] 42 0 1 (.reg [xi 45,xi 46,wb 47 46,qp 48 5 47,xL 50 5,x9 52,x9 55,qu 49 48,qu 51 50,wn 53 1 51 52,qu 54 53,wx 56 [wo,qx,qx] [xT 54,wG 1 55,(2,1,qQ)],x8 57 3 [wo,qx,qx] 1 [wv 0 3 56],wT 58 3 32 49 57,wb 59 45,qp 60 5 59,xK 60 58]) (x9 43) 44 43 1 7 44) (qY [xi 61,xu 62 61] [xi 63,xr 64 5,qu 65 64,wM 66 bg 63 65] (qY [xi 67,xi 68,xP 69 68,xS 70 0 [],xg 71 [.t 67,wN,.t 69,qQ,.t 70],qf 8 71] [xi 72,qf 73 8,xS 74 0 [],xF 75 [.t 72,qh 3,.t 73,.t 74,qQ]] (qH [xi 76,wb 77 76,xL 78 77,yc 79 78,qU 3 4 79]))))))⟩
theorem Al:aq Tryz.prog iR=some ro:=by kernel_rfl
def mD:FK:=⟨22,[xG 2 1],qY [wP 1 1 0,wa 2 xY] [wx 5 xY [],wa 3 xY,xK 3 5] (wH (wZ 4) (xD 0 [xH 6,xj 7 1,qu 8 7,wg 9 8,wJ 10 6 9] 10 0 1 (.reg [xj 13 3,xH 16,qu 14 13,qR 15 1 1,wM 17 iR 15 16,qP 13 14,qI 18 3 (ym qx qx) 1 [wv 0 3 17],qP 13 14,wT 19 3 40 14 18,xj 20 3,xK 20 19]) (xH 11) 12 11 1 4 12) [qR 21 1 3,xK 2 21])⟩
theorem uR:aq Tryz.prog fu=some mD:=by kernel_rfl
def mA:FK:=⟨21,[xA],xI [wP 2 3 0,qc 4 wd] (wZ 5) (xD 0 [wV 6,xv 7,wg 8 7,wJ 9 6 8] 9 0 1 (qe [xv 12,wV 13,wn 14 1 12 13,xL 16 2,qu 15 14,qu 17 16,xk 18 17 1,x7 19 [.t 15,qQ,.t 18],xX 20 19] (yq 20 4)) (wV 10) 11 10 1 5 11) (wE 4 wI)⟩
theorem uY:aq Tryz.prog fq=some mA:=by kernel_rfl
def oP:FK:=⟨88,[.t 6],qY [wP 3 1 0,wP 5 4 2,qc 6 wd] [xj 8 3,qu 9 8,xv 10,wn 11 3 9 10,yc 12 11,yn 7 qx qx,qU 3 7 12] (qB [xj 13 5,qu 14 13,x7 15 [.t 14,wN,qh 14],xX 16 15,qf 17 16,qK 18 17 (qj (some 3) 7),xz 19 17 2 5,xh 20 17 19,qK 21 17 (.call fq (wL 18 20)),yr 22 17 21,xQ 23 17 22] (yq 23 6) (qB [xj 24 5,xL 27 5,xL 29 7,qu 25 24,qu 28 27,qu 30 29,xk 31 30 1,xf 26 db 25,qP 27 28,qP 29 30,x7 32 [.t 28,qQ,.t 31],qb 33 (.beq true (.t 26) (.t 32)),qf 34 33,xz 35 34 0 5,xh 36 34 35,qK 37 34 (.call db (xe 36)),yr 38 34 37,wY 39 34 38,xt 40 39 1 5,xa 41 39 40,xE 42 39 .neq 41 (qh (-1)),qK 43 34 (qO 39 (.t 42) wd),xQ 44 34 43] (yq 44 6) (wH [xj 45 5,qu 46 45,wO 47 46 14] (wz 47 [qp 48 3 5,xv 50,xk 51 50 1,qu 49 48,x7 52 [.t 49,qQ,.t 51],qf 53 52,xt 54 53 2 5,xt 57 53 0 3,xt 59 53 3 5,xa 55 53 54,qL 56 53 (qV 55),xa 58 53 57,xa 60 53 59,qL 61 53 (we 3 58 60),xt 62 53 0 61,xa 63 53 62,xE 64 53 .eql 56 (.t 63),ye 65 53 64,qf 6 65]) [xr 66 5,xj 69 5,qu 67 66,wg 68 67,qu 70 69,xf 71 ft 70,qP 66 67,wm 72 .eql 68 71,qf 73 72,xt 74 73 3 5,xa 75 73 74,qL 76 73 (xo [.t 75,qQ,qh 255]),ye 77 73 76,qf 78 77,xt 79 78 3 5,xa 80 78 79,xE 81 78 .eql 80 qQ,xd 82 78 81,xz 83 82 0 5,xh 84 82 83,yb 85 82 .eql 84 wN,qL 86 78 (qO 82 wI (.t 85)),ye 87 78 86,qf 6 87])))⟩
theorem zs:aq Tryz.prog ke=some oP:=by kernel_rfl
def iq:AK:=qY [wP 3 1 0,qc 6 wd] [xj 14 3,qu 15 14,xv 16,wn 17 3 15 16,yc 18 17,yn 7 qx qx,qU 3 7 18] (qY [xr 19 7,qu 20 19,qf 21 2,wn 22 5 20 21,qR 23 5 22,wa 8 [.nils,.nils,qx,qx,.nils],qU 5 8 23] (wE 9 wN) (xO [xr 24 8,qu 25 24] (.blk 0 (xM (xZ 27 25 1 26 27) 26 (qe [qp 28 3 8,qu 29 28,qC 30 .neq 29 0] (yq 30 6)) (xM (xZ 32 25 2 31 32) 31 (.reg (wE 9 (qh 2))) (xM (xZ 34 25 3 33 34) 33 (.reg (wZ 9)) (qH (wE 6 wd)))))) (xO [qp 35 4 8,qu 36 35,wg 37 36,qf 38 9,wm 39 .neq 37 38,qf 40 39,xz 41 40 2 8,xh 42 40 41,yb 43 40 .neq 42 wN,wY 44 40 43,xt 45 44 3 8,xa 46 44 45,xt 47 44 1 7,xa 48 44 47,xE 49 44 .sub 48 wN,qL 50 44 (xo [.t 46,qQ,.t 49]),qL 51 44 (wB 50),qK 52 40 (qO 44 (.t 51) wd),xQ 53 40 52] (yq 53 6) (xO (wZ 10) (xD 1 [qf 54 10,qp 55 4 8,qu 56 55,wg 57 56,wJ 58 54 57] 58 1 2 (qe [qp 61 4 8,qf 63 10,xr 66 7,qu 62 61,wn 64 1 62 63,qu 65 64,qu 67 66,wg 68 67,xk 69 68 1,x7 70 [.t 65,wN,.t 69],xX 71 70] (yq 71 6)) (qf 59 10) 60 59 1 10 60) (xO (wZ 11) (xD 3 [qf 72 11,xL 73 8,qu 74 73,wg 75 74,wJ 76 72 75] 76 3 4 (qe [xv 80,xL 81 8,qf 83 11,qR 79 1 3,qu 82 81,wn 84 4 82 83,qR 85 4 84,qm 86 ke [.t 79,.t 80,.t 85],xX 87 86] (yq 87 6)) (qf 77 11) 78 77 1 11 78) (qe [yc 88 7,qf 89 2,wM 90 bB 88 89,qf 12 90] (xO (wZ 13) (xD 5 [qf 91 13,xj 92 8,qu 93 92,wg 94 93,wJ 95 91 94] 95 5 6 (qe [qf 98 2,wO 99 98 0,qf 100 99,xz 101 100 0 8,wY 103 100 13,wY 108 100 12,qK 109 100 (qV 108),xh 102 100 101,qK 104 100 (we 2 102 103),xz 105 100 1 104,xh 106 100 105,qK 107 100 (qV 106),yb 110 100 .neq 107 (.t 109),xQ 111 100 110,qf 112 111,xz 114 112 0 8,wY 116 112 13,qK 113 112 (qj (some 3) 7),xh 115 112 114,qK 117 112 (we 2 115 116),xz 118 112 1 117,xh 119 112 118,qK 120 112 (.call fq (wL 113 119)),yr 121 112 120,xQ 122 112 121,qf 123 122,xz 124 123 0 8,wY 126 123 13,xz 130 123 1 7,xh 125 123 124,qK 127 123 (we 2 125 126),xz 128 123 0 127,xh 129 123 128,xh 131 123 130,yb 132 123 .sub 131 wN,qK 133 123 (xo [.t 129,qQ,.t 132]),yr 134 123 133,xQ 135 123 134] (yq 135 6)) (qf 96 13) 97 96 1 13 97) (qH (wE 6 wI)))))))))
def io:FK:=⟨136,[.t 6],(AK.whole iq)⟩
theorem sX:aq Tryz.prog gv=some io:=by kernel_rfl
def jB:FK:=⟨76,[xN],qe [wP 1 1 0,qc 2 wd] (qB [xj 7 1,qu 8 7,wg 9 8,x7 10 [.t 9,wN,qh 4],xX 11 10] (yq 11 2) (xI (wZ 3) (wZ 4) (xD 0 [xH 12,xj 13 1,qu 14 13,wg 15 14,wJ 16 12 15] 16 0 1 (qe [xj 19 1,qu 20 19,xH 21,wn 22 3 20 21,yc 23 22,yn 5 qx qx,qU 3 5 23] (qB [xj 24 5,qu 25 24,x7 26 [.t 25,qQ,qh 3],xX 27 26,qf 28 27,xz 29 28 1 5,xh 30 28 29,xz 31 28 0 5,xh 32 28 31,qK 33 28 (xo [.t 30,.t 32,qh 300]),yr 34 28 33,xQ 35 28 34,qf 36 35,xz 37 36 2 5,xh 38 36 37,qK 39 36 (qV 38),qK 40 36 (xo [.t 39,wN,qh 160]),yr 41 36 40,xQ 42 36 41] (yq 42 2) (qe (wZ 6) (xD 2 [xi 43,xr 44 5,qu 45 44,wg 46 45,wJ 47 43 46] 47 2 3 (qY [ya 50,xr 51 5,xi 53,xr 59 5,xi 61,qu 52 51,wn 54 5 52 53,xL 55 54,qu 56 55,wg 57 56,wm 58 .add 50 57,qu 60 59,wn 62 5 60 61,xj 63 62,qu 64 63,wg 65 64,wm 66 .add 58 65,qf 3 66] [ya 67,qC 68 .gtr 67 800,qf 69 68,qK 70 69 (qj (some 1) 1),wY 71 69 4,wY 72 69 6,qK 73 69 (.call gv [.t 70,.t 71,.t 72]),yr 74 69 73,xQ 75 69 74] (yq 75 2)) (xi 48) 49 48 1 6 49)))) (xH 17) 18 17 1 4 18) (wE 2 wI)))⟩
theorem ra:aq Tryz.prog eS=some jB:=by kernel_rfl
def lB:FK:=⟨15,[xG 2 1],xI [wa 2 xY] [wj 4,wl 5 (xJ 4 2),wO 6 5 0] (qW 6 (qY [wj 7,xf 8 fy 7,xf 9 fu 8,wa 3 xY,xK 3 9] [qR 10 1 3,xf 11 eS 10] (wz 11 [qR 12 1 3,xK 2 12]))) [wj 13,xf 14 dD 13,xK 2 14]⟩
theorem ur:aq Tryz.prog gx=some lB:=by kernel_rfl
def lT:FK:=⟨10,[xG 2 1],xI [wa 2 xY] [wj 3,wl 4 (xJ 3 12),wO 5 4 0] (wz 5 [wj 6,xf 7 iW 6,xK 2 7]) [wj 8,xf 9 gx 8,xK 2 9]⟩
theorem tS:aq Tryz.prog gF=some lT:=by kernel_rfl
def lK:FK:=⟨14,[xG 2 3],qY [yn 2 qx qx] [wj 4,xf 5 gF 4,wa 3 xY,xK 3 5] (qH [xj 6 3,qu 7 6,xj 8 3,qu 9 8,wg 10 9,xk 11 10 1,wn 12 3 7 11,yc 13 12,qU 3 2 13])⟩
theorem tp:aq Tryz.prog dZ=some lK:=by kernel_rfl
def cx:FK:=⟨19,[xA],xI (wZ 4) [wj 6,wg 7 6,yh 8] (qT 0 (yg [wJ 9 8 7] (ww 9 0) (wq 1 (qY (xq (qf 10 8) 5 10) [xv 11,wj 12,wV 13,wn 14 5 12 13,qR 15 5 14,qb 16 (.callv (.t 11) (xe 15))] (wz 16 (xq (wV 17) 4 17))) (xq (wF 18 8 1) 8 18)))) (wE 4 (qh (-1)))⟩
theorem fG:aq Tryz.prog bD=some cx:=by kernel_rfl
def cd:FK:=⟨9,[xA],xW (wE 4 wd) [wj 5,xv 6,wM 7 bD 5 6,qC 8 .geq 7 0,qf 4 8]⟩
theorem ep:aq Tryz.prog bm=some cd:=by kernel_rfl
def eE:FK:=⟨19,[xA],xI (wZ 4) [wj 6,wg 7 6,yh 8] (qT 0 (yg [wJ 9 8 7] (ww 9 0) (wq 1 (qY (xq (qf 10 8) 5 10) [xv 11,wj 12,wV 13,wn 14 1 12 13,qu 15 14,qb 16 (.callv (.t 11) (xe 15))] (wz 16 (xq (wV 17) 4 17))) (xq (wF 18 8 1) 8 18)))) (wE 4 (qh (-1)))⟩
theorem ko:aq Tryz.prog cC=some eE:=by kernel_rfl
def du:FK:=⟨9,[xA],xW (wE 4 wd) [wj 5,xv 6,wM 7 cC 5 6,qC 8 .geq 7 0,qf 4 8]⟩
theorem iu:aq Tryz.prog br=some du:=by kernel_rfl
def ja:FK:=⟨15,[.t 6],xW (wE 6 wd) [xv 7,wj 8,wm 9 .leq 7 8,qf 10 9,xd 11 10 0,xd 12 10 2,xE 13 10 .leq 11 (.t 12),ye 14 10 13,qf 6 14]⟩
theorem uE:aq Tryz.prog dB=some ja:=by kernel_rfl
def ie:FK:=⟨11,[.t 3],xW (wE 3 wd) [wj 4,xr 5 1,qu 6 5,wg 7 6,xk 8 7 1,qm 9 dB [.t 4,qQ,.t 8],xX 10 9,qf 3 10]⟩
theorem nH:aq Tryz.prog dV=some ie:=by kernel_rfl
def jE:FK:=⟨8,[.t 3],xW [wP 2 5 0,qc 3 wd] [qp 4 4 2,qu 5 4,qb 6 (.mkf (.func dV) (xe 1)),wM 7 br 5 6,x9 3]⟩
theorem pn:aq Tryz.prog dp=some jE:=by kernel_rfl
def il:FK:=⟨14,[xN],xW [wP 1 3 0,qc 2 wd] [xr 3 1,qu 4 3,wg 5 4,qC 6 .gtr 5 0,xi 7,xt 8 7 2 1,xa 9 7 8,qL 10 7 (.mkf (.func dp) (xe 1)),qL 11 7 (.call bm (wL 9 10)),qL 12 7 (wB 11),ye 13 7 12,qf 2 13]⟩
theorem sU:aq Tryz.prog ew=some il:=by kernel_rfl
def gH:FK:=⟨19,[xA],xI (wZ 4) [wj 6,wg 7 6,yh 8] (qT 0 (yg [wJ 9 8 7] (ww 9 0) (wq 1 (qY (xq (qf 10 8) 5 10) [xv 11,wj 12,wV 13,wn 14 1 12 13,qu 15 14,wm 16 .eql 11 15] (wz 16 (xq (wV 17) 4 17))) (xq (wF 18 8 1) 8 18)))) (wE 4 (qh (-1)))⟩
theorem nF:aq Tryz.prog dS=some gH:=by kernel_rfl
def eR:FK:=⟨9,[xA],xW (wE 4 wd) [wj 5,xv 6,wM 7 dS 5 6,qC 8 .geq 7 0,qf 4 8]⟩
theorem kI:aq Tryz.prog bu=some eR:=by kernel_rfl
def kY:FK:=⟨33,[xA],qY [wP 2 3 0,qc 4 xb] (wE 5 xb) (qB [xv 8,xr 9 2,qu 10 9,wg 11 10,xk 12 11 1,qm 13 dB [.t 8,qQ,.t 12],xX 14 13] (wW 14 4 xb) (wH [xr 15 2,qu 16 15,wg 17 16,yh 18] (qT 0 (yg [wJ 19 18 17] (ww 19 0) (wq 1 (qY [qf 20 18,wn 21 5 16 18,qR 22 5 21,wa 7 [.nils,.nils,qx,qx,.nils],qf 6 20,qU 5 7 22] [qp 23 4 7,qu 24 23,xv 25,wM 26 bu 24 25] (xU 26 [wV 27,xi 28,xS 29 1 [xT 28],wT 30 1 8 27 29,qf 5 30])) (xq (wF 31 18 1) 18 31)))) (xq (wV 32) 4 32)))⟩
theorem sW:aq Tryz.prog cn=some kY:=by kernel_rfl
def kN:FK:=⟨42,[xN],xI [wP 1 3 0,qc 2 wd] (wZ 3) (xD 0 [ya 5,xr 6 1,qu 7 6,wg 8 7,wJ 9 5 8] 9 0 1 (qe (wZ 4) (xD 2 [xH 12,xr 13 1,qu 14 13,ya 15,wn 16 5 14 15,qp 17 4 16,qu 18 17,wg 19 18,wJ 20 12 19] 20 2 3 (qe [xr 23 1,ya 25,xH 29,xr 32 1,qu 24 23,wn 26 5 24 25,qp 27 4 26,qu 28 27,wn 30 1 28 29,qu 31 30,qu 33 32,wg 34 33,xk 35 34 1,x7 36 [.t 31,qQ,.t 35],xX 37 36] (yq 37 2)) (xH 21) 22 21 1 4 22)) (ya 10) 11 10 1 3 11) [xr 38 1,qu 39 38,wg 40 39,qC 41 .gtr 40 0,qf 2 41]⟩
theorem sI:aq Tryz.prog cZ=some kN:=by kernel_rfl
def gX:FK:=⟨6,[xG 2 3],xW [yn 2 qx qx] [wj 3,xf 4 da 3,xf 5 dZ 4,qU 3 2 5]⟩
theorem mW:aq Tryz.prog im=some gX:=by kernel_rfl
def kB:FK:=⟨54,[.t 8],qY [wP 4 3 0,qc 8 xb] [qf 10 2,xv 11,wn 12 1 10 11,qS 1 12 wI] (wH (wZ 9) (xD 0 [qf 13 9,xr 14 4,qu 15 14,xv 16,wn 17 5 15 16,qp 18 4 17,qu 19 18,wg 20 19,wJ 21 13 20] 21 0 1 (qe [qf 24 2,xr 25 4,qu 26 25,xv 27,wn 28 5 26 27,qp 29 4 28,qu 30 29,qf 31 9,wn 32 1 30 31,qu 33 32,wn 34 1 24 33,qu 35 34,xX 36 35] (xU 36 [xr 38 4,xv 40,qf 44 9,qf 47 2,ya 48,yc 37 4,qu 39 38,wn 41 5 39 40,qp 42 4 41,qu 43 42,wn 45 1 43 44,qu 46 45,qm 49 bq [.t 37,.t 46,.t 47,.t 48],qf 3 49])) (qf 22 9) 23 22 1 9 23) [ya 50,xv 51,xS 52 1 [xT 51],wT 53 1 8 50 52,qf 8 53])⟩
theorem rI:aq Tryz.prog bq=some kB:=by kernel_rfl
def fW:AK:=qe [wP 1 3 0,qc 2 xb] (.cut (.ot (.one [] (.one [xr 7 1] (.one [yc 6 1] (.one [qu 8 7] (.one [wg 9 8] (wi [qb 10 (.mks 1 1 [qF] (.t 9) (.t 9)),yf 3 1 6] (yt [xS 11 0 [],yf 3 1 6,qP 7 8] [qm 12 bq [.t 6,qQ,.t 10,.t 11]] (.one [qf 3 12] .done)) (yt [xS 11 0 [],yf 3 1 6,qP 7 8] [qb 10 (.mks 1 1 [qF] (.t 9) (.t 9)),yf 3 1 6] (wU [qm 12 bq [.t 6,qQ,.t 10,.t 11]] (.one [qf 3 12] .done)))))))))) (xI (xq (xS 13 0 []) 4 13) [ya 14,wg 15 14,xk 16 15 1,qf 5 16] (wX 0 [wV 17,qC 18 .geq 17 0] 18 0 1 (.reg [xH 21,ya 22,wV 23,wn 24 1 22 23,qu 25 24,xS 26 1 [xT 25],wT 27 1 8 21 26,qf 4 27]) (xB (wV 19) (xk 20 19 1) 5 20)) (xq (xH 28) 2 28)))
def fP:FK:=⟨29,[xN],(AK.whole fW)⟩
theorem rZ:aq Tryz.prog dL=some fP:=by kernel_rfl
def kW:FK:=⟨9,[xN],xI [wP 1 3 0,qc 2 xb] [yc 3 1,xf 4 cZ 3,xX 5 4] (wz 5 [xS 6 0 [],xi 2]) (xB (yc 7 1) (xf 8 dL 7) 2 8)⟩
theorem sJ:aq Tryz.prog lw=some kW:=by kernel_rfl
def mS:FK:=⟨29,[xA],xI (wE 4 wd) [wj 6,wg 7 6,xv 8,wg 9 8,qb 10 (.mn (.t 7) (.t 9)),yh 11] (qT 0 (yg [wJ 12 11 10] (ww 12 0) (wq 1 (qY (xq (qf 13 11) 5 13) [wj 14,wV 15,wn 16 1 14 15,xv 18,wV 19,wn 20 1 18 19,qu 17 16,qu 21 20,wm 22 .neq 17 21] (yq 22 4)) (xq (wF 23 11 1) 11 23)))) [wj 24,wg 25 24,xv 26,wg 27 26,wm 28 .eql 25 27,qf 4 28]⟩
theorem uQ:aq Tryz.prog mw=some mS:=by kernel_rfl
def oI:FK:=⟨17,[xA],xI (wE 4 wd) [wj 7,wg 8 7,yh 9] (qT 0 (yg [wJ 10 9 8] (ww 10 0) (wq 1 (qY (xB (wn 11 1 7 9) (qu 12 11) 6 12) [xi 13,xv 14,wm 15 .eql 13 14] (wW 15 4 wI)) (xq (wF 16 9 1) 9 16)))) (wE 4 wd)⟩
theorem zE:aq Tryz.prog ku=some oI:=by kernel_rfl
def kC:FK:=⟨47,[xA],qY (wE 4 xb) (wZ 5) (.seq (wS 0 [wV 7,wj 8,wg 9 8,wJ 10 7 9,qf 11 10,xd 12 11 0,xd 13 11 5,qL 14 11 (we 1 12 13),xa 15 11 14,xd 16 11 1,xE 17 11 .lss 15 (.t 16),ye 18 11 17] 18 0 (.blk 1 (.reg (xC (wV 19) 20 19 1 5 20)))) (qB [wV 21,wj 22,wg 23 22,wJ 24 21 23,qf 25 24,xd 26 25 0,xd 27 25 5,qL 28 25 (we 1 26 27),xa 29 25 28,xd 30 25 1,xE 31 25 .eql 29 (.t 30),ye 32 25 31] (wz 32 (xq (wj 33) 4 33)) (xW [xS 34 0 [],wj 35,wV 36,qb 37 (.slS 1 (.t 35) none (some (.t 36))),wT 38 1 8 34 37,qf 6 38] [xi 39,xv 40,wj 43,wV 44,qb 45 (.slS 1 (.t 43) (some (.t 44)) none),xS 41 1 [xT 40],wT 42 1 8 39 41,wT 46 1 8 42 45,qf 4 46])))⟩
theorem rU:aq Tryz.prog aN=some kC:=by kernel_rfl
def jN:FK:=⟨19,[xN],qY (wE 2 xb) [xS 5 0 [],wV 3] (wH (wZ 4) (xD 0 [xH 6,wj 7,wg 8 7,wJ 9 6 8] 9 0 1 (.reg [ya 12,wj 13,xH 14,wn 15 1 13 14,qu 16 15,wM 17 aN 12 16,qf 3 17]) (xH 10) 11 10 1 4 11) (xq (ya 18) 2 18))⟩
theorem pK:aq Tryz.prog fg=some jN:=by kernel_rfl
def jw:FK:=⟨10,[xN],xI [wP 1 3 0,qc 2 xb] [yc 3 1,xf 4 cZ 3,xX 5 4] (wz 5 [xS 6 0 [],xi 2]) [yc 7 1,xf 8 dL 7,xf 9 fg 8,qf 2 9]⟩
theorem pS:aq Tryz.prog fh=some jw:=by kernel_rfl
def mQ:FK:=⟨33,[xG 2 3,.t 3,xA],qY [yn 2 qx qx,yh 3,yh 4] [wj 8,xf 9 dZ 8,yn 5 qx qx,qU 3 5 9] (qY [xr 10 5,qu 11 10,wg 12 11,qf 6 12] [wj 13,xi 14,wl 15 (wL 13 14),wj 16,xi 17,wl 18 (wL 16 17),xi 19,xk 20 19 1,wj 21,xi 22,wl 23 (wL 21 22),xi 24,xS 25 7 [xT 15,wG 1 18,(2,1,qQ),wG 3 20,wG 4 23,xm 5 (-1),wG 6 24],qf 7 25] (qH [wj 27,x9 28,wj 30,x9 31,yc 26 5,yp 29 27 28,yf 3 5 26,yp 32 30 31,yf 3 5 26,qU 3 2 26,qf 3 29,qf 4 32]))⟩
theorem ve:aq Tryz.prog fA=some mQ:=by kernel_rfl
def fN:FK:=⟨11,[xG 2 3,.t 3,xA],xW [yn 2 qx qx,yh 3,yh 4] [wj 5,xf 6 da 5,xf 7 fA 6,qb 8 (.ext 0 (.t 7)),qb 9 (.ext 1 (.t 7)),qb 10 (.ext 2 (.t 7)),qU 3 2 8,qf 3 9,qf 4 10]⟩
theorem lq:aq Tryz.prog fH=some fN:=by kernel_rfl
def eP:FK:=⟨48,[xA],qY [wP 2 3 0,qc 4 xb] [xr 8 2,qu 9 8,wg 10 9,qb 11 (.mks 1 1 [qF] (.t 10) (.t 10)),qf 5 11] (yg (xq (xS 12 1 [(0,1,qQ)]) 6 12) (wS 0 [xi 13,wg 14 13,qC 15 .gtr 14 0] 15 0 (.blk 1 (qY [xi 16,xi 17,wg 18 17,xk 19 18 1,wn 20 1 16 19,qu 21 20,qf 7 21] [xi 22,xi 23,wg 24 23,xk 25 24 1,qb 26 (.slS 1 (.t 22) none (some (.t 25))),qf 6 26] (qB [x9 27,xv 28,wm 29 .eql 27 28,qf 30 29,wY 31 30 5,wY 32 30 7,qK 33 30 (we 1 31 32),xh 34 30 33,xQ 35 30 34] (qW 35 (.exit 1)) (qe [wV 36,x9 37,wn 38 1 36 37,qS 1 38 wI] (.reg [xi 39,xr 40 2,qu 41 40,x9 42,wn 43 5 41 42,qp 44 4 43,qu 45 44,wT 46 1 8 39 45,qf 6 46])))))) (qH (xq (wV 47) 4 47)))⟩
theorem kK:aq Tryz.prog aM=some eP:=by kernel_rfl
def fv:FK:=⟨71,[xN],qe [wP 1 3 0,qc 2 (.c .nilp)] (qB [yc 8 1,xf 9 ew 8,xX 10 9] (wW 10 2 (.c .nilp)) (xI [yc 11 1,yc 12 1,qm 13 aM (xJ 12 (-1)),yf 3 1 11,wx 14 [qx,qx,.nils,.nils,.nils] [wv 0 3 11,wG 4 13],wP 15 5 14,qf 3 15] [xr 16 1,qu 17 16,wg 18 17,yh 19] (qT 0 (yg [wJ 20 19 18] (ww 20 0) (wq 1 (qY (xq (qf 21 19) 4 21) [xr 22 1,qu 23 22,wg 24 23,qb 25 (.mks 1 1 [qF] (.t 24) (.t 24)),qf 5 25] (qB [ya 26,wb 27 26,qp 28 4 27,qu 29 28,xH 30,wn 31 1 29 30,qu 32 31] (qW 32 (qY [yc 33 1,xH 34,wM 35 aM 33 34,qf 6 35] [wV 36,wg 37 36,yh 38] (qT 2 (yg [wJ 39 38 37] (ww 39 2) (wq 3 (qe (xq (qf 40 38) 7 40) (.reg [wV 41,x9 42,ya 43,wb 44 43,qp 45 4 44,qu 46 45,x9 47,wn 48 1 46 47,qu 49 48,qf 50 49,xd 51 50 6,xd 52 50 7,qL 53 50 (we 1 51 52),xa 54 50 53,qL 55 50 (wB 54),ye 56 50 55,wn 57 1 41 42,xK 57 56])) (xq (wF 58 38 1) 38 58)))))) (.reg [ya 59,ya 60,wb 61 60,qp 62 3 61,qu 63 62,wV 64,qI 65 1 xY 1 [xT 64],wT 66 1 24 63 65,wb 67 59,qp 68 3 67,xK 68 66]))) (xq (wF 69 19 1) 19 69)))) (xq (ya 70) 2 70)))⟩
theorem mO:aq Tryz.prog cg=some fv:=by kernel_rfl
def fY:FK:=⟨26,[xA],xW (wE 4 wd) [wj 5,qb 6 (.pnil 0 true (.t 5)),xi 7,xd 8 7 1,xd 9 7 0,qL 10 7 (qz 9),xt 11 7 4 10,xa 12 7 11,qL 13 7 (qV 12),xE 14 7 .sub 13 wN,qL 15 7 (.call dB [.t 8,qQ,.t 14]),ye 16 7 15,qf 17 16,xd 18 17 0,qL 19 17 (qz 18),xt 20 17 4 19,xa 21 17 20,xd 22 17 1,qL 23 17 (we 1 21 22),xa 24 17 23,ye 25 17 24,qf 4 25]⟩
theorem rT:aq Tryz.prog cI=some fY:=by kernel_rfl
def cN:FK:=⟨27,[.t 6],xW (wE 6 wd) [wj 7,xv 8,wM 9 cI 7 8,qf 10 9,xd 11 10 0,xd 12 10 2,qL 13 10 (.call cI (wL 11 12)),ye 14 10 13,qf 15 14,xd 16 15 0,qL 17 15 (qz 16),xt 18 15 3 17,xa 19 15 18,xd 20 15 1,qL 21 15 (we 1 19 20),xa 22 15 21,xd 23 15 2,qL 24 15 (we 1 22 23),xa 25 15 24,ye 26 15 25,qf 6 26]⟩
theorem kJ:aq Tryz.prog bV=some cN:=by kernel_rfl
def gC:AK:=qY [wP 1 3 0,qc 2 xb] [xr 10 1,qu 11 10,wg 12 11,qf 3 12] (qY (xq (qI 13 1 xY 0 []) 4 13) (xB (ya 14) (qb 15 (.mks 1 1 [qF] (.t 14) (.t 14))) 5 15) (xI [yc 16 1,wV 17,xS 18 0 [],qm 19 bq [.t 16,qQ,.t 17,.t 18]] (wZ 6) (xD 0 [xi 20,ya 21,wJ 22 20 21] 22 0 1 (qY (xB (ya 25) (qb 26 (.mks 1 1 [qF] (.t 25) (.t 25))) 7 26) [x9 27,xi 28,wn 29 1 27 28,qS 1 29 wI] (.cut (xM [xi 30,qC 31 .neq 30 0] 31 (qe [yc 32 1,x9 33,xS 34 0 [],qm 35 bq [.t 32,qQ,.t 33,.t 34]] (.reg [x9 36,xi 37,wn 38 1 36 37,qS 1 38 wd])) (.reg [x9 39,xi 40,wn 41 1 39 40,qS 1 41 wd])) (qe (xB (ya 42) (qb 43 (.mks 1 1 [qF] (.t 42) (.t 42))) 8 43) (qB (wZ 9) (xD 2 [qf 44 9,ya 45,wJ 46 44 45] 46 2 3 (.reg [qf 49 8,qf 50 9,wV 51,xi 52,wn 53 1 51 52,qu 54 53,qf 55 54,xd 56 55 5,xd 57 55 9,qL 58 55 (we 1 56 57),xa 59 55 58,ye 60 55 59,qf 61 60,xd 62 61 7,xd 63 61 9,qL 64 61 (we 1 62 63),xa 65 61 64,qL 66 61 (wB 65),ye 67 61 66,wn 68 1 49 50,xK 68 67]) (qf 47 9) 48 47 1 9 48) (.reg [xH 69,qf 70 8,qI 71 1 xY 1 [xT 70],wT 72 1 24 69 71,qf 4 72]))))) (xi 23) 24 23 1 6 24) (xq (xH 73) 2 73)))
def gA:FK:=⟨74,[xN],(AK.whole gC)⟩
theorem te:aq Tryz.prog cV=some gA:=by kernel_rfl
def gf:FK:=⟨16,[xG 2 3,.t 3],qY [yn 2 qx qx,yh 3] [wj 8,xf 9 da 8,xf 10 fA 9,qf 7 10,qb 11 (.ext 0 (.t 7)),qb 12 (.ext 1 (.t 7)),qb 13 (.ext 2 (.t 7)),yn 4 qx qx,qU 3 4 11,qf 5 12,qf 6 13] (qH [yc 14 4,wV 15,qU 3 2 14,qf 3 15])⟩
theorem mo:aq Tryz.prog dA=some gf:=by kernel_rfl
def oC:FK:=⟨19,[xA],xI (wZ 4) (wZ 5) (xD 0 [wV 6,wj 7,wg 8 7,wJ 9 6 8] 9 0 1 (qe [wj 12,wV 13,wn 14 1 12 13,qu 15 14,xv 16,wm 17 .eql 15 16] (wz 17 (xq (wV 18) 4 18))) (wV 10) 11 10 1 5 11) (wE 4 (qh (-1)))⟩
theorem yB:aq Tryz.prog dh=some oC:=by kernel_rfl
def fO:FK:=⟨8,[xG 2 3,.t 3],xW [yn 2 qx qx,yh 3] [wj 4,xf 5 dA 4,qb 6 (.ext 0 (.t 5)),qb 7 (.ext 1 (.t 5)),qU 3 2 6,x9 3]⟩
theorem lF:aq Tryz.prog cT=some fO:=by kernel_rfl
def dw:FK:=⟨9,[xA],xW (wE 4 wd) [qu 5 1,qu 6 2,wj 7,qm 8 bV [.t 5,.t 6,.t 7],qf 4 8]⟩
theorem mu:aq Tryz.prog ck=some dw:=by kernel_rfl
def iJ:FK:=⟨27,[xN],qY [wP 1 1 0,qc 2 xb] (wE 3 xb) (wH [qu 5 1,wb 6 5,qp 7 4 6,qu 8 7,wg 9 8,yh 10] (qT 0 (yg [wJ 11 10 9] (ww 11 0) (wq 1 (qY [qf 12 10,wa 4 xx,xK 4 12] [qb 19 (.mkf (.func ck) (wL 1 4)),qu 13 1,wb 14 13,xj 15 14,yc 16 15,qu 17 4,wM 18 cn 16 17,wM 20 br 18 19] (xU 20 [ya 21,qu 22 4,xS 23 1 [xT 22],wT 24 1 8 21 23,qf 3 24])) (xq (wF 25 10 1) 10 25)))) (xq (ya 26) 2 26))⟩
theorem oB:aq Tryz.prog bH=some iJ:=by kernel_rfl
def cD:FK:=⟨37,[],qB [qu 7 1,wj 8,qb 9 (.lk 0 qF false (.t 7) (.t 8)),qf 10 9,xh 11 10 2,qK 12 10 (qz 11),xz 13 10 4 12,xh 14 10 13,wY 15 10 0,qK 16 10 (we 1 14 15),xh 17 10 16,yr 18 10 17,xQ 19 10 18] (qW 19 .ret) (qY [qu 20 1,wj 21,qw (.mup 0 (.t 20) (.t 21) wI)] [qu 22 2,wb 23 22,xj 24 23,yc 25 24,wj 26,wM 27 cn 25 26,wg 28 27,yh 29] (qT 0 (yg [wJ 30 29 28] (ww 30 0) (wq 1 (qe (xB (wn 31 1 27 29) (qu 32 31) 6 32) (.reg [qu 33 3,xi 34,qb 35 (.callv (.t 33) (xe 34))])) (xq (wF 36 29 1) 29 36)))))⟩
theorem mU:aq Tryz.prog cA=some cD:=by kernel_rfl
def jy:FK:=⟨34,[xA],qY [wP 2 1 0,qc 4 xb] [qb 9 .mkm,xv 10,qw (.mup 0 (.t 9) (.t 10) wI),qf 11 9,wa 5 [.nilm],xK 5 11] (qY [wa 6 [.nilf]] [qb 12 (.mkf (.func cA) [.t 5,.t 2,.t 6]),xK 6 12] (wH [qu 13 2,wb 14 13,xj 15 14,yc 16 15,xv 17,wM 18 cn 16 17,wg 19 18,yh 20] (qT 0 (yg [wJ 21 20 19] (ww 21 0) (wq 1 (qY (xB (wn 22 1 18 20) (qu 23 22) 8 23) [qu 24 2,xv 25,qf 26 8,qm 27 bV [.t 24,.t 25,.t 26]] (xU 27 [qu 28 6,qf 29 8,qb 30 (.callv (.t 28) (xe 29))])) (xq (wF 31 20 1) 20 31)))) (xB (qu 32 5) (xf 33 eJ 32) 4 33)))⟩
theorem pV:aq Tryz.prog dm=some jy:=by kernel_rfl
def jU:FK:=⟨31,[xA],qY [wP 2 3 0,yh 4] (xB (yc 9 2) (xf 10 cg 9) 5 10) (qB [wV 11,xv 12,wM 13 cI 11 12,xX 14 13] (wW 14 4 (qh (-1))) (xI (wZ 6) [wV 15,xf 16 bH 15,wg 17 16,yh 18] (qT 0 (yg [wJ 19 18 17] (ww 19 0) (wq 1 (qY (xB (wn 20 1 16 18) (qu 21 20) 8 21) [wV 22,qf 23 8,wM 24 dm 22 23,xv 25,wM 26 bu 24 25] (xU 26 (xC (xi 27) 28 27 1 6 28))) (xq (wF 29 18 1) 18 29)))) (xq (xi 30) 4 30)))⟩
theorem rb:aq Tryz.prog eY=some jU:=by kernel_rfl
def kA:FK:=⟨40,[xA],qY [wP 2 3 0,qc 4 xb] (xq (xS 9 0 []) 5 9) (wH (wZ 6) (xD 0 [xi 10,xr 11 2,qu 12 11,wg 13 12,wJ 14 10 13] 14 0 1 (qY [yc 17 2,xi 18,wM 19 bB 17 18,qf 7 19] (wZ 8) (xD 2 [qf 20 8,x9 21,wg 22 21,wJ 23 20 22] 23 2 3 (qe [xv 26,xi 27,wn 28 1 26 27,x9 30,qf 31 8,wn 32 1 30 31,qu 29 28,qu 33 32,wn 34 1 29 33,qu 35 34] (xU 35 [wV 36,xi 37,wM 38 aN 36 37,qf 5 38])) (qf 24 8) 25 24 1 8 25)) (xi 15) 16 15 1 6 16) (xq (wV 39) 4 39))⟩
theorem rH:aq Tryz.prog fS=some kA:=by kernel_rfl
def jP:FK:=⟨11,[xN],xI [wP 1 3 0,qc 2 xb] [yc 3 1,xf 4 cZ 3,xX 5 4] (wz 5 [xS 6 0 [],xi 2]) [yc 7 1,yc 8 1,xf 9 cV 8,yf 3 1 7,wM 10 fS 7 9,qf 2 10]⟩
theorem po:aq Tryz.prog di=some jP:=by kernel_rfl
def gY:AK:=qe [wP 3 3 0,qc 6 xb] (.cut (.reg (xB (qf 12 2) (xS 13 1 [xT 12]) 7 13)) (qY (xq (xS 14 0 []) 8 14) [yc 15 3,qf 16 2,wM 17 bB 15 16,qf 9 17] (qB (wZ 10) (xD 0 [qf 18 10,qf 19 9,wg 20 19,wJ 21 18 20] 21 0 1 (qe [xv 24,qf 25 2,wn 26 1 24 25,qf 28 9,qf 29 10,wn 30 1 28 29,qu 27 26,qu 31 30,wn 32 1 27 31,qu 33 32] (xU 33 [qf 34 8,qf 35 9,qf 36 10,wn 37 1 35 36,qu 38 37,xS 39 1 [xT 38],wT 40 1 8 34 39,qf 8 40])) (qf 22 10) 23 22 1 10 23) (.seq (wS 2 [qf 41 8,wg 42 41,qC 43 .gtr 42 0] 43 2 (.blk 3 (qY [qf 44 8,qb 45 (qG 1 44 qQ),qu 46 45,qf 11 46] (xB (qf 47 8) (qb 48 (.slS 1 (.t 47) (some wN) none)) 8 48) (qB [x9 49,qf 50 11,wM 51 dh 49 50,qC 52 .geq 51 0,qf 53 52,wY 54 53 1,wY 55 53 11,qK 56 53 (we 1 54 55),xh 57 53 56,wY 58 53 11,qK 59 53 (we 1 57 58),xh 60 53 59,yr 61 53 60,xQ 62 53 61] (qW 62 (.exit 3)) (qe [x9 63,qf 64 11,wM 65 aN 63 64,qf 7 65] (.reg [qf 66 8,yc 67 3,qf 68 11,wM 69 bB 67 68,wT 70 1 8 66 69,qf 8 70])))))) (qH (xq (x9 71) 6 71))))))
def gG:FK:=⟨72,[.t 6],(AK.whole gY)⟩
theorem ue:aq Tryz.prog gJ=some gG:=by kernel_rfl
def kD:FK:=⟨16,[xA],xI [wP 2 3 0,qc 4 xb] [yc 5 2,xf 6 di 5,xv 7,wM 8 dh 6 7,qC 9 .lss 8 0] (wz 9 (xq (xS 10 0 []) 4 10)) [xv 14,yc 11 2,yc 12 2,xf 13 cV 12,yf 3 2 11,qm 15 gJ [.t 11,.t 13,.t 14],qf 4 15]⟩
theorem rM:aq Tryz.prog fQ=some kD:=by kernel_rfl
def jD:FK:=⟨34,[xA],qe [wP 2 3 0,yh 4] (qB [yc 8 2,xf 9 fh 8,xv 10,wM 11 dh 9 10,qC 12 .lss 11 0] (wW 12 4 (qh (-1))) (qY (wZ 5) (xB (yc 13 2) (xf 14 di 13) 6 14) (wH (wZ 7) (xD 0 [x9 15,xi 16,wg 17 16,wJ 18 15 17] 18 0 1 (.reg [wV 21,xi 23,x9 24,wn 25 1 23 24,xv 28,yc 22 2,qu 26 25,wM 27 fQ 22 26,wM 29 dh 27 28,qC 30 .geq 29 0,xf 31 en 30,wm 32 .add 21 31,qf 5 32]) (x9 19) 20 19 1 7 20) (xq (wV 33) 4 33))))⟩
theorem pJ:aq Tryz.prog dg=some jD:=by kernel_rfl
def jx:FK:=⟨10,[xN],qY [wP 1 3 0,qc 2 xb] [yc 4 1,xf 5 cg 4,wV 3] (wH [ya 6,qb 7 (.pnil 0 false (.t 6))] (wW 7 2 xb) (xB (ya 8) (xf 9 bH 8) 2 9))⟩
theorem pq:aq Tryz.prog dk=some jx:=by kernel_rfl
def kH:FK:=⟨20,[xA],qY [wP 2 3 0,qc 4 xb] (xB (yc 6 2) (xf 7 cg 6) 5 7) (wH [wV 8,qb 9 (.pnil 0 false (.t 8)),qf 10 9,wY 11 10 5,qK 12 10 (.call bH (xe 11)),wY 13 10 1,qK 14 10 (.call bu (wL 12 13)),yr 15 10 14,xQ 16 10 15] (wW 16 4 xb) [wV 17,xv 18,wM 19 dm 17 18,qf 4 19])⟩
theorem rV:aq Tryz.prog fU=some kH:=by kernel_rfl
def gV:FK:=⟨63,[xN],qe (wE 2 wd) (qB [wj 9,wg 10 9,qC 11 .gtr 10 1048576] (wW 11 2 wI) (qY [wj 13,xf 14 cT 13,qf 12 14,qb 15 (.ext 0 (.t 12)),qb 16 (.ext 1 (.t 12)),yn 3 qx qx,qU 3 3 15,qf 4 16] [yc 17 3,xH 18,wM 19 eY 17 18,qf 5 19] (qB [wV 20,yc 21 3,xH 22,wM 23 dg 21 22,wm 24 .neq 20 23,qf 25 24,wY 26 25 5,yb 27 25 .lss 26 qQ,xQ 28 25 27] (wz 28 [wV 29,yc 30 3,xH 31,wM 32 dg 30 31,wm 33 .eql 29 32,qf 34 33,xd 35 34 5,xE 36 34 .eql 35 (qh (-1)),ye 37 34 36,qf 2 37]) (xI (wZ 6) [yc 38 3,xf 39 dk 38,wg 40 39,yh 41] (qT 0 (yg [wJ 42 41 40] (ww 42 0) (wq 1 (qY (xB (wn 43 1 39 41) (qu 44 43) 8 44) [yc 45 3,qf 46 8,wM 47 fU 45 46,xH 48,wM 49 ku 47 48] (xU 49 (xC (xi 50) 51 50 1 6 51))) (xq (wF 52 41 1) 41 52)))) [xi 53,wV 54,wm 55 .eql 53 54,qf 56 55,xd 57 56 5,qL 58 56 (qj (some 3) 3),qL 59 56 (.call dk (xe 58)),qL 60 56 (qV 59),xE 61 56 .leq 57 (.t 60),ye 62 56 61,qf 2 62]))))⟩
theorem nC:aq Tryz.prog ib=some gV:=by kernel_rfl
end Go.Proofs.YtdfplkcigiblcaaGreat
