/-
  Contracts and lemmas that the card needs, part 4.
-/
import Derived.Test.YtdfplkcigiblcaaGreatFx3
import Derived.Test.YtdfplkcigiblcaaGreatRows
namespace Go.Proofs.YtdfplkcigiblcaaGreat
open Go Go.Aw
set_option maxRecDepth 100000
abbrev dK:FuncId:=54
abbrev bw:FuncId:=104
abbrev be:FuncId:=105
abbrev gN:FuncId:=95
abbrev eQ:FuncId:=168
abbrev cQ:FuncId:=169
abbrev iI:FuncId:=153
abbrev fb:FuncId:=154
abbrev iu:FuncId:=141
abbrev cR:FuncId:=96
abbrev dd:FuncId:=125
abbrev dx:FuncId:=152
abbrev iK:FuncId:=140
abbrev ed:FuncId:=124
abbrev iG:FuncId:=118
abbrev bx:FuncId:=179
abbrev eW:FuncId:=183
abbrev bf:FuncId:=172
abbrev eb:FuncId:=162
abbrev du:FuncId:=189
abbrev cf:FuncId:=180
abbrev cD:FuncId:=181
abbrev dJ:FuncId:=182
abbrev dW:FuncId:=171
abbrev aN:FuncId:=161
abbrev dq:FuncId:=143
abbrev fW:FuncId:=194
abbrev fR:FuncId:=190
abbrev jF:FuncId:=184
abbrev dm:FuncId:=191
abbrev jx:FuncId:=185
abbrev bD:FuncId:=173
abbrev eI:FuncId:=192
abbrev eM:FuncId:=197
abbrev dj:FuncId:=195
abbrev dV:FuncId:=196
abbrev cT:FuncId:=193
abbrev eF:FuncId:=186
abbrev bq:FuncId:=174
abbrev kq:FuncId:=163
abbrev cF:FuncId:=175
abbrev jD:FuncId:=164
abbrev da:FuncId:=144
abbrev eV:FuncId:=127
abbrev fJ:FuncId:=76
abbrev dh:FuncId:=155
abbrev bH:FuncId:=156
abbrev bi:FuncId:=160
abbrev bn:FuncId:=159
abbrev bG:FuncId:=158
abbrev cW:FuncId:=178
abbrev eq:FuncId:=187
abbrev kh:FuncId:=188
abbrev aW:FuncId:=177
abbrev dO:FuncId:=176
abbrev dL:FuncId:=170
abbrev aY:FuncId:=157
abbrev gX:FuncId:=142
abbrev eP:FuncId:=126
abbrev eL:FuncId:=166
abbrev jz:FuncId:=165
abbrev gu:FuncId:=145
abbrev eu:FuncId:=128
abbrev gi:FuncId:=119
abbrev gf:FuncId:=90
abbrev dS:FuncId:=53
abbrev br:FuncId:=120
abbrev bg:FuncId:=91
abbrev cr:FuncId:=121
abbrev bN:FuncId:=93
abbrev eT:FuncId:=61
abbrev dC:FuncId:=94
abbrev cX:FuncId:=92
abbrev cb:FuncId:=55
abbrev cq:FuncId:=100
abbrev mW:FuncId:=101
abbrev kG:FuncId:=102
abbrev kP:FuncId:=64
abbrev ga:FuncId:=98
abbrev fP:FuncId:=57
abbrev cu:FuncId:=97
abbrev eO:FuncId:=59
abbrev cI:FuncId:=60
abbrev fN:FuncId:=17
abbrev fU:FuncId:=19
abbrev cw:FuncId:=99
abbrev lV:FuncId:=20
abbrev ec:FuncId:=22
abbrev bF:FuncId:=23
abbrev il:FuncId:=66
abbrev cK:FuncId:=26
abbrev aL:FuncId:=106
abbrev di:FuncId:=67
abbrev dp:FuncId:=74
abbrev cC:FuncId:=68
abbrev eA:FuncId:=27
abbrev fx:FuncId:=69
abbrev dP:FuncId:=70
abbrev cU:FuncId:=28
abbrev gy:FuncId:=6
@[reducible] def qa(a:Nat)(b:Option (Nat × Bool))(c:AI):CO:=⟨some a,b,c⟩
@[reducible] def qb(a:Nat)(b:AI):CO:=qa a none b
@[reducible] def qc(a:Nat)(b:AOp):CO:=qb a (.mov b)
@[reducible] def qd(a:IntKind)(b:Int):AV:= .p (.int a b)
@[reducible] def qe(a:List CO)(b:AK):AK:= .seq (.reg a) b
@[reducible] def qf(a b:Nat):CO:=qc a (.t b)
@[reducible] def qg(a:Int):AV:=qd .i64 a
@[reducible] def qh(a b:Nat):AI:= .fldA a (.t b)
@[reducible] def qi(a:Int):AOp:= .c (qg a)
@[reducible] def qj(a:Nat)(b:Nat × Bool)(c:AI):CO:=qa a (some b) c
@[reducible] def qk(a:Option Nat)(b:Nat):AI:= .ld a (.t b)
@[reducible] def ql(a:BinOp)(b:Nat)(c:AOp):AI:= .bin a (.t b) c
@[reducible] def qm(a:Nat)(b:Option Nat)(c:Nat):CO:=qb a (qk b c)
@[reducible] def qn(a:Nat)(b:FuncId)(c:List AOp):CO:=qb a (.call b c)
@[reducible] def qo(a:Option (Nat × Bool))(b:AI):CO:=⟨none,a,b⟩
@[reducible] def qp(a b c:Nat):CO:=qb a (qh b c)
@[reducible] def qt(a b:Nat):CO:=qm a none b
@[reducible] def qu(a:AI):CO:=qo none a
@[reducible] def qv(a:Bool):AV:= .p (.bool a)
@[reducible] def qw(a:Nat)(b c:AK):AK:= .cond (.t a) b c
@[reducible] def qx:AV:=qg 0
@[reducible] def qy(a:Nat)(b:BinOp)(c:Nat)(d:AOp):CO:=qb a (ql b c d)
@[reducible] def qz(a:Nat):AI:= .nilck (.t a)
@[reducible] def qA(a:Option Nat)(b c:Nat):CO:=qu (.chk a b c)
@[reducible] def qB:AV:=qv false
@[reducible] def qC(a:Nat)(b:BinOp)(c:Nat)(d:Int):CO:=qy a b c (qi d)
@[reducible] def qD(a:AOp):AI:= .len false a
@[reducible] def qF(a b:Nat)(c:AOp):AI:= .idxS a (.t b) c
@[reducible] def qG(a:List CO)(b c:AK):AK:= .seq (qe a b) c
@[reducible] def qH(a:List CO):AK:=qe a .ret
@[reducible] def qI(a b:Nat)(c:Bool)(d:AI):CO:=qj a (b,c) d
@[reducible] def qJ(a b:Nat)(c:AI):CO:=qI a b false c
@[reducible] def qK(a b:Nat)(c:AI):CO:=qI a b true c
@[reducible] def qL(a:Nat)(b c:AOp):CO:=qu (.st a b c)
@[reducible] def qM(a b:Nat)(c:List AV)(d:Nat)(e:List (Nat × Nat × AOp)):CO:=qb a (.bsl b c d e)
@[reducible] def qN(a:Nat)(b c:AOp):AI:= .pick (.t a) b c
@[reducible] def qO(a:List UInt8):AV:= .p (.str a)
@[reducible] def qP(a b:Nat):CO:=qA none a b
@[reducible] def qQ(a b:Nat)(c:AOp):CO:=qL a (.t b) c
@[reducible] def qR:AOp:=qi 0
@[reducible] def qS(a b c:Nat):CO:=qQ a b (.t c)
@[reducible] def qT:AOp:= .c qB
@[reducible] def qU(a:Nat):AI:= .mov (.t a)
@[reducible] def qV(a:Nat)(b:List AV):CO:=qb a (.alloc b)
@[reducible] def qW(a b c:Nat):CO:=qm a (some b) c
@[reducible] def qX(a:Nat):AI:=qD (.t a)
@[reducible] def qY(a b:Nat):CO:=qb a (qz b)
@[reducible] def qZ(a:Nat)(b:AK):AK:= .blk a (.loop b)
@[reducible] def wa(a b:List CO)(c:AK):AK:=qe a (qe b c)
@[reducible] def wb(a:Nat)(b:AK):AK:=qw a b .skip
@[reducible] def wd(a:Nat)(b c:AK):AK:= .seq (.blk a b) c
@[reducible] def we(a:Nat):CO:=qf a 0
@[reducible] def wg(a:Nat)(b:List AOp):CO:=qn a bw b
@[reducible] def wh(a b c:Nat):AI:=qF a b (.t c)
@[reducible] def wi(a b:Nat):CO:=qb a (qX b)
@[reducible] def wj(a:List CO)(b c:OT):OT:= .alt (.one a b) c
@[reducible] def wl:AV:=qO []
@[reducible] def wm(a:Nat)(b:AK)(c:Nat):AK:=qw a b (.exit c)
@[reducible] def wn(a b c d:Nat):CO:=qb a (wh b c d)
@[reducible] def wo:AV:=qv true
@[reducible] def wq(a:Nat)(b:BinOp)(c d:Nat):CO:=qy a b c (.t d)
@[reducible] def wt(a b c:Nat):Nat × Nat × AOp:=(a,b,.t c)
@[reducible] def wu(a:Nat):AI:=qk none a
@[reducible] def wv(a:Nat)(b:List AV)(c:List (Nat × Nat × AOp)):CO:=qb a (.bld b c)
@[reducible] def ww(a b:Nat)(c d:AOp):CO:=qb a (qN b c d)
@[reducible] def wx(a:Nat)(b:AK)(c:List CO):AK:=wd a b (.reg c)
@[reducible] def wy(a:Nat)(b:List AOp):CO:=qn a be b
@[reducible] def wz(a:Nat)(b:List CO):AK:=wb a (qH b)
@[reducible] def wA(a b:Nat):AK:=wm a .skip b
@[reducible] def wB(a:Nat):AI:= .not (.t a)
@[reducible] def wC(a b c:Nat)(d:AOp):AI:= .app a b (.t c) d
@[reducible] def wD(a b:Nat):Nat × Nat × AOp:=wt a 1 b
@[reducible] def wE(a b:Nat):AI:= .box a (.t b)
@[reducible] def wF:AOp:= .c wo
@[reducible] def wG(a:Nat)(b:AOp):List CO:=[qc a b]
@[reducible] def wH(a b:Nat)(c:Int):CO:=qC a .add b c
@[reducible] def wI:AOp:=qi 1
@[reducible] def wJ(a b:Nat)(c:Int):CO:=qC a .eql b c
@[reducible] def wK(a b c:Nat):CO:=wq a .lss b c
@[reducible] def wL(a:Nat)(b:AOp):List AOp:=[.t a,b]
@[reducible] def wM(a b:Nat):List AOp:=wL a (.t b)
@[reducible] def wN(a:List CO)(b:AK)(c:List CO):AK:=qG a b (qH c)
@[reducible] def wO(a b c d:Nat):AI:=wC a b c (.t d)
@[reducible] def wP(a b c d e:Nat):CO:=qb a (wO b c d e)
@[reducible] def wQ(a:List CO)(b:OT):OT:=wj a b .tru
@[reducible] def wR(a b c:Nat):CO:=qK a b (wu c)
@[reducible] def wS(a b c:Nat):CO:=qb a (wE b c)
@[reducible] def wT(a b:Nat)(c:AOp):AK:=wz a (wG b c)
@[reducible] def wU(a b:Nat)(c:AOp)(d:Nat):CO:=ww a b c (.t d)
@[reducible] def wV(a:Nat)(b:List CO)(c d:AK):AK:=qZ a (qG b c d)
@[reducible] def wW(a b c:Nat):CO:=qJ a b (qU c)
@[reducible] def wX(a:Nat)(b:List CO)(c d:Nat)(e:AK):AK:=wV a b (wA c d) e
@[reducible] def wY(a b c:Nat):CO:=qK a b (qU c)
@[reducible] def wZ(a:Nat)(b:List AOp):CO:=qn a bG b
@[reducible] def xa(a:List AOp):AI:= .call gN a
@[reducible] def xb(a:Nat):CO:=qf a 5
@[reducible] def xc(a:Nat)(b:List CO)(c d e:Nat)(f:AK)(g:List CO):AK:=wX a b c d (wx e f g)
@[reducible] def xd(a:Nat)(b:FuncId)(c d:Nat):CO:=qn a b (wM c d)
@[reducible] def xe(a:Nat):List CO:=wG a qR
@[reducible] def xf(a:Nat):List AOp:=[.t a]
@[reducible] def xg(a:Nat)(b:FuncId)(c:Nat):CO:=qn a b (xf c)
@[reducible] def xh(a b:Nat)(c:Int):Nat × Nat × AOp:=(a,b,qi c)
@[reducible] def xi(a:Nat)(b:Int):Nat × Nat × AOp:=xh a 1 b
@[reducible] def xj(a b:Nat):CO:=qp a 0 b
@[reducible] def xk(a b:Nat)(c:Int):CO:=qC a .sub b c
@[reducible] def xl(a b c:Nat)(d:AOp):CO:=ww a b (.t c) d
@[reducible] def xm(a b c:Nat):CO:=qJ a b (wu c)
@[reducible] def xo(a b c d:Nat):CO:=qK a b (qh c d)
@[reducible] def xp(a b:Nat):CO:=qp a 2 b
@[reducible] def xq(a b:Nat):CO:=xg a bH b
@[reducible] def xr(a:Nat):CO:=qf a 6
@[reducible] def xt(a b c d:Nat):CO:=qJ a b (qh c d)
@[reducible] def xu(a b:Nat):CO:=qS 1 a b
@[reducible] def xv(a:Nat)(b:List AOp):CO:=qn a bi b
@[reducible] def xx(a:List CO)(b c:AK):AK:= .cut (qe a b) c
@[reducible] def xy(a:Nat)(b:Int):List AOp:=wL a (qi b)
@[reducible] def xz(a:Nat):CO:=qf a 4
@[reducible] def xA(a b:Nat):CO:=qp a 1 b
@[reducible] def xB(a b:Nat)(c:BinOp)(d:Nat)(e:AOp):CO:=qK a b (ql c d e)
@[reducible] def xC(a b:Nat):RV:= .c a (some b)
@[reducible] def xD(a:Nat):List RV:=[.t a]
@[reducible] def xE(a:Nat):CO:=qf a 1
@[reducible] def xF:AOp:= .c .nils
@[reducible] def xG(a:CO)(b c:Nat):List CO:=[a,qf b c]
@[reducible] def xH(a:CO)(b c:Nat)(d:AK):AK:=qe (xG a b c) d
@[reducible] def xI:List AV:=[qx]
@[reducible] def xJ(a b c:Nat)(d:List (Nat × Nat × AOp)):CO:=qM a b xI c d
@[reducible] def xK(a b c:Nat):CO:=wU a b wF c
@[reducible] def xL:List AV:=[.nils]
@[reducible] def xM(a b:Nat):CO:=xg a bn b
@[reducible] def xN(a b:Nat)(c:BinOp)(d:Nat)(e:AOp):CO:=qJ a b (ql c d e)
@[reducible] def xO(a:List AOp):AI:= .call bw a
@[reducible] def xP(a b:List CO)(c:AK)(d:List CO):AK:=qe a (wN b c d)
@[reducible] def xQ:List RV:=xD 2
@[reducible] def xR(a:Nat)(b:List AOp):CO:=qn a eb b
@[reducible] def xS(a b:List CO):AK:=qe a (qH b)
@[reducible] def xT(a b:CO)(c d:Nat):List CO:=[a,b,qf c d]
@[reducible] def xU(a:Nat)(b:List CO)(c d e:Nat)(f:AK)(g h:CO)(i j:Nat):AK:=xc a b c d e f (xT g h i j)
@[reducible] def xV(a:Nat)(b:List CO)(c d e:Nat)(f:AK)(g:CO)(h i:Nat)(j:Int)(k l:Nat):AK:=xU a b c d e f g (wH h i j) k l
@[reducible] def xW(a:Nat):Nat × Nat × AOp:=wD 0 a
@[reducible] def xX(a:Nat)(b:List AOp):CO:=qn a gN b
@[reducible] def xY:List RV:=xD 4
@[reducible] def xZ(a b:Nat)(c:List AV)(d:Nat)(e:List (Nat × Nat × AOp)):CO:=qb a (.bslP b c d e)
@[reducible] def x7(a b:Nat):CO:=qb a (wB b)
@[reducible] def x8(a:Nat):CO:=qf a 3
@[reducible] def x9(a b c:Nat):CO:=xl a b c qT
@[reducible] def ya(a:Nat):CO:=qP a 10
@[reducible] def yb:CO:=ya 9
@[reducible] def yc(a:Nat):CO:=qP 11 a
@[reducible] def ye:CO:=yc 12
@[reducible] def yf(a b:Nat)(c:List (Nat × Nat × AOp)):CO:=xJ a 1 b c
@[reducible] def yg(a:Nat):CO:=qf a 7
@[reducible] def yh(a b:Nat)(c:Int)(d e:Nat)(f:AK):AK:=xH (wJ a b c) d e f
@[reducible] def yi(a b c:Nat):CO:=wy a (wM b c)
@[reducible] def yj(a b:Nat):AK:=wT a b qT
@[reducible] def yk(a b:AV):List AV:=[a,b,.nils]
@[reducible] def yl(a b:Nat):Nat × Nat × AOp:=wt 0 a b
@[reducible] def ym(a:List UInt8):AOp:= .c (qO a)
def kM:FK:=⟨11,xQ,xP (wG 2 (.c .nilp)) [we 3,wi 4 3,qC 5 .gtr 4 2000] (wb 5 (.reg (xT (we 6) (qb 7 (.slS 1 (.t 6) none (some (qi 2000)))) 0 7))) [we 8,wv 9 [.nils,qx] [xW 8],wS 10 2 9,qf 2 10]⟩
theorem sa:au Tryz.prog dK=some kM:=by kernel_rfl
def cE:FK:=⟨99,xY,wa (xe 4) [we 7,we 8,qY 9 8,xA 10 9,qt 11 10,wH 12 11 1,qY 13 7,xA 14 13,xu 14 12] (qG [xE 15,qC 16 .lss 15 1,qf 17 16,wW 18 17 0,qJ 19 17 (qz 18),xt 20 17 0 19,xm 21 17 20,qJ 22 17 (qX 21),xN 23 17 .eql 22 qR,xK 24 17 23] (wT 24 4 qR) (qe [we 25,qY 26 25,xA 27 26,qt 28 27,xk 29 28 1,qf 5 29] (qG [xb 30,we 31,qY 32 31,xj 33 32,qt 34 33,wi 35 34,wK 36 30 35] (wz 36 [we 37,qY 38 37,xj 39 38,qt 40 39,xb 41,wn 42 1 40 41,qt 43 42,qb 44 (.conv .i64 (.t 43)),xE 45,wq 46 .rem 44 45,qf 4 46]) (wa [we 47,qY 48 47,xj 49 48,xb 51,we 52,qY 53 52,xj 54 53,we 62,qY 63 62,xj 64 63,xb 66,qC 67 .mul 66 7,wH 68 67 3,we 69,qY 70 69,xj 71 70,xb 80,qC 81 .mul 80 29,xb 83,we 84,qY 85 84,xj 86 85,qt 50 49,qt 55 54,wi 56 55,wq 57 .rem 51 56,wn 58 1 50 57,qt 59 58,qb 60 (.conv .i64 (.t 59)),qC 61 .mul 60 131,qt 65 64,qt 72 71,wi 73 72,wq 74 .rem 68 73,wn 75 1 65 74,qt 76 75,qb 77 (.conv .i64 (.t 76)),qC 78 .mul 77 1117,wq 79 .add 61 78,wq 82 .add 79 81,qt 87 86,wi 88 87,wq 89 .quo 83 88,qC 90 .mul 89 53,wq 91 .add 82 90,qf 6 91] [xr 92,xr 93,qC 94 .quo 93 64,wq 95 .xor 92 94,qf 6 95] (qH [xr 96,xE 97,wq 98 .rem 96 97,qf 4 98])))))⟩
theorem mS:au Tryz.prog bw=some cE:=by kernel_rfl
def cS:FK:=⟨12,xY,xS (xe 4) [xE 5,we 6,xE 7,wi 8 7,wg 9 (wM 6 8),wn 10 1 5 9,qt 11 10,qf 4 11]⟩
theorem er:au Tryz.prog be=some cS:=by kernel_rfl
def kJ:FK:=⟨15,xD 6,xS (wG 6 qT) [we 7,xE 8,wq 9 .geq 7 8,qf 10 9,wY 11 10 0,wY 12 10 2,xB 13 10 .leq 11 (.t 12),x9 14 10 13,qf 6 14]⟩
theorem zh:au Tryz.prog gN=some kJ:=by kernel_rfl
def bV:FK:=⟨28,xQ,qe (xe 2) (wd 0 (qe [we 4,wJ 5 4 1,xb 3] (qw 3 (qH (xe 2)) (qe [we 7,wJ 8 7 2,qf 9 8,wW 10 9 0,xN 11 9 .eql 10 (qi 10),xK 12 9 11,qf 13 12,wW 14 13 0,xN 15 13 .eql 14 (qi 11),xK 16 13 15,qf 17 16,wW 18 17 0,xN 19 17 .eql 18 (qi 13),xK 20 17 19,qf 6 20] (qw 6 (qH (wG 2 wI)) (qe [we 22,xX 23 [.t 22,qi 3,qi 9],qf 24 23,wW 25 24 0,xN 26 24 .eql 25 (qi 12),xK 27 24 26,qf 21 27] (wT 21 2 (qi 2))))))) (qH (wG 2 (qi (-1)))))⟩
theorem tm:au Tryz.prog eQ=some bV:=by kernel_rfl
def jP:FK:=⟨13,xQ,xS (wG 2 qT) [we 3,xX 4 [.t 3,wI,qi 14],xz 5,wY 6 5 0,xB 7 5 .neq 6 (qi 12),x9 8 5 7,qf 9 8,wY 10 9 0,xB 11 9 .neq 10 (qi 13),x9 12 9 11,qf 2 12]⟩
theorem sw:au Tryz.prog cQ=some jP:=by kernel_rfl
def iC:AK:=wa [wS 4 1 1,qV 6 [qx,qx,.nils,qx]] [we 11,yf 12 16 [(0,1,wI),(1,1,wI),xi 2 2,xi 3 3,xi 4 4,xi 5 5,xi 6 8,xi 7 9,xi 8 10,xi 9 13,xi 10 3,xi 11 6,xi 12 7,xi 13 11,xi 14 12,xi 15 14],yi 13 11 12,qf 7 13] (wa [yg 14,we 15,qf 16 2,wg 17 (wM 15 16),wv 18 [qx,qx,.nils,qx] [xW 14,wD 1 17],qV 8 [qx,qx,.nils,qx],qS 4 8 18] (xT (yg 19) (xg 20 eQ 19) 9 20) (xx [yg 21,wJ 22 21 14] (wb 22 (qG [xj 23 4,qt 24 23,wi 25 24,wJ 26 25 0] (wz 26 [we 27,qf 28 2,wg 29 (wM 27 28),yf 30 1 [xW 29],wv 31 [qx,qx,.nils,qx] [xi 0 13,xi 1 (-1),wD 2 30],qS 4 6 31]) (qe [we 32,xj 33 4,qt 34 33,wi 35 34,wg 36 (wM 32 35),qp 37 3 8,xu 37 36] (.reg [xj 38 4,qt 39 38,qp 40 3 8,qt 41 40,wn 42 3 39 41,xj 43 42,qt 44 43,qf 9 44])))) (xx [yg 45,wJ 46 45 1] (wb 46 (.reg [we 47,yf 48 7 [(0,1,qR),(1,1,wI),xi 2 2,xi 3 3,xi 4 15,xi 5 16,xi 6 255],yi 49 47 48,qp 50 3 8,xu 50 49])) (xx [yg 51,xg 52 cQ 51,x7 53 52] (wb 53 (.reg [xA 54 8,qQ 1 54 (qi (-1))])) (wN (xe 10) (xV 0 [qf 55 10,qf 56 9,wK 57 55 56] 57 0 1 (.reg [xp 60 8,we 62,qf 63 2,qt 61 60,wg 64 (wM 62 63),qP 60 61,xZ 65 1 xI 1 [xW 64],wP 66 1 8 61 65,xp 67 8,xu 67 66]) (qf 58 10) 59 58 1 10 59) [qW 68 4 8,qS 4 6 68])))))
def iF:FK:=⟨69,[xC 6 4],(AK.whole iC)⟩
theorem tG:au Tryz.prog iI=some iF:=by kernel_rfl
def kD:FK:=⟨30,xD 6,xP (xe 6) [xE 7,qf 8 2,xk 9 8 1,wK 10 7 9,qf 11 10,wY 12 11 0,qK 13 11 (xO (xy 12 4)),xB 14 11 .gtr 13 qR,x9 15 11 14] (wz 15 [xE 16,wH 17 16 1,we 18,qf 19 2,xk 20 19 1,xE 21,wq 22 .sub 20 21,wg 23 (wM 18 22),wq 24 .add 17 23,qf 6 24]) [we 25,qf 26 2,xk 27 26 1,wg 28 (wM 25 27),qb 29 (.bin .add wI (.t 28)),qf 6 29]⟩
theorem vV:au Tryz.prog fb=some kD:=by kernel_rfl
def iA:AK:=wa [wS 3 1 1,qV 4 (yk qx qx)] [we 10,yf 11 4 [(0,1,wI),(1,1,qR),xi 2 2,xi 3 3],yi 12 10 11,wv 13 (yk qx qx) [xW 12],qV 5 (yk qx qx),qS 3 5 13] (wa [xj 14 5,we 17,qt 15 14,wH 16 15 2,wg 18 (xy 17 5),qP 14 15,wq 19 .add 16 18,xA 20 5,xu 20 19] [we 21,yf 22 6 [xi 0 3,xi 1 5,xi 2 2,(3,1,wI),xi 4 7,xi 5 4],yi 23 21 22,qf 6 23] (wN (xe 7) (xV 0 [yg 24,xr 25,wK 26 24 25] 26 0 1 (qe [wv 29 [.nils,.nils,qx,qx,.nils] [],qV 8 [.nils,.nils,qx,qx,.nils],qS 5 8 29] (xx [we 30,yf 31 5 [(0,1,wI),xi 1 2,(2,1,qR),xi 3 3,xi 4 4],yi 32 30 31,qf 9 32] (xU 2 [qf 33 9,qC 34 .gtr 33 0] 34 2 3 (.reg [xA 37 8,we 39,xA 41 5,qt 38 37,qW 40 1 3,qt 42 41,qn 43 iI [.t 39,.t 40,.t 42],qP 37 38,qM 44 4 [qx,qx,.nils,qx] 1 [yl 4 43],qP 37 38,wP 45 4 48 38 44,xA 46 8,xu 46 45]) (qf 35 9) (xk 36 35 1) 9 36) (wa [we 47,xA 48 5,qt 49 48,wg 50 (wM 47 49),qp 51 3 8,xu 51 50] [we 52,yf 53 5 [xi 0 2,(1,1,wI),xi 2 2,(3,1,wI),xi 4 3],yi 54 52 53,xp 55 8,xu 55 54] (xx [xr 56,wJ 57 56 1,qf 58 57,wW 59 58 7,wW 60 58 6,xN 61 58 .sub 60 wI,xN 62 58 .eql 59 (.t 61),wW 63 58 62,wY 64 63 0,qK 65 63 (xO (xy 64 3)),xB 66 63 .gtr 65 qR,qJ 67 58 (qN 63 (.t 66) qT),xK 68 58 67] (wb 68 (.reg [xp 69 8,qQ 1 69 (qi 3)])) (xx [xp 70 8,qt 71 70] (.blk 4 (yh 73 71 1 72 73 (qw 72 (qe [qp 74 3 8,qQ 1 74 qR] (.reg [we 75,yg 76,xr 77,qn 78 fb [.t 75,.t 76,.t 77],yf 79 1 [xW 78],qp 80 4 8,xu 80 79])) (yh 82 71 2 81 82 (wb 81 (.reg [we 83,yg 84,xr 85,qn 86 fb [.t 83,.t 84,.t 85],we 87,yg 88,xr 89,qn 90 fb [.t 87,.t 88,.t 89],yf 91 2 [xW 86,wD 1 90],qp 92 4 8,xu 92 91])))))) (.reg [xp 93 5,qt 94 93,qW 95 5 8,qM 96 5 [.nils,.nils,qx,qx,.nils] 1 [yl 5 95],wP 97 5 88 94 96,xp 98 5,xu 98 97])))))) (yg 27) 28 27 1 7 28) [qW 99 3 5,qS 3 4 99]))
def iv:FK:=⟨100,[xC 4 3],(AK.whole iA)⟩
theorem tI:au Tryz.prog iu=some iv:=by kernel_rfl
def kb:FK:=⟨43,xY,wa [wS 2 3 0,qc 4 xF] (xG (yf 8 0 []) 5 8) (wN (xe 6) (xV 0 [xr 9,xp 10 2,qt 11 10,wi 12 11,wK 13 9 12] 13 0 1 (qe (xe 7) (xV 2 [yg 16,xp 17 2,qt 18 17,xr 19,wn 20 5 18 19,qp 21 4 20,qt 22 21,wi 23 22,wK 24 16 23] 24 2 3 (qe [xp 27 2,qt 28 27,xr 29,wn 30 5 28 29,qp 31 4 30,qt 32 31,yg 33,wn 34 1 32 33,qt 35 34,xE 36,wq 37 .eql 35 36] (wb 37 (qe [xb 38,xr 39,yf 40 1 [xW 39],wP 41 1 8 38 40,qf 5 41] (.exit 2)))) (yg 25) 26 25 1 7 26)) (xr 14) 15 14 1 6 15) (xG (xb 42) 4 42))⟩
theorem sP:au Tryz.prog cR=some kb:=by kernel_rfl
def iw:AK:=wa [qV 2 xL] [wv 9 xL [],qV 3 xL,xu 3 9] (xx [we 10,yf 11 4 [(0,1,wI),xi 1 2,(2,1,wI),xi 3 3],yi 12 10 11,qf 4 12] (xU 0 [xz 13,qC 14 .gtr 13 0] 14 0 1 (.reg [xj 17 3,we 19,qt 18 17,qW 20 1 3,xd 21 iu 19 20,qP 17 18,qM 22 3 (yk qx qx) 1 [yl 3 21],qP 17 18,wP 23 3 40 18 22,xj 24 3,xu 24 23]) (xz 15) (xk 16 15 1) 4 16) (wN [we 25,yf 26 4 [(0,1,qR),(1,1,qR),(2,1,wI),xi 3 3],yi 27 25 26,qf 5 27] (xU 2 [xb 28,qC 29 .gtr 28 0] 29 2 3 (wa [xj 32 3,we 34,xj 35 3,qt 33 32,qt 36 35,wi 37 36,wg 38 (wM 34 37),qP 32 33,wn 39 3 33 38,qf 6 39] [we 40,xr 41,qY 42 41,xp 43 42,qt 44 43,wi 45 44,wg 46 (wM 40 45),qf 7 46] (qe [we 47,xr 48,qY 49 48,xA 50 49,qt 51 50,wg 52 (wM 47 51),wv 53 [qx,.nils] [xW 52],qV 8 [qx,.nils],qS 2 8 53] (xx [xr 54,qY 55 54,qW 56 3 55,yg 57,xd 58 cR 56 57,wi 59 58,qc 60 qR] (qZ 4 (qe [wK 61 60 59] (.seq (wA 61 4) (wx 5 (.reg [xA 62 8,we 64,xr 65,qY 66 65,xA 67 66,qt 63 62,qt 68 67,wg 69 (wM 64 68),qP 62 63,xZ 70 1 xI 1 [xW 69],wP 71 1 8 63 70,xA 72 8,xu 72 71]) (xG (wH 73 60 1) 60 73))))) (qe [yg 74,qC 75 .gtr 74 0] (wb 75 (.reg [xr 76,qY 77 76,xp 78 77,yg 80,xr 81,qY 82 81,xp 83 82,yg 85,qt 79 78,qt 84 83,wn 86 5 84 85,xj 87 86,qt 88 87,qW 89 2 8,qM 90 2 [qx,.nils] 1 [yl 2 89],qP 78 79,qP 83 84,qP 87 88,wP 91 2 32 88 90,qP 78 79,wn 92 5 79 80,xj 93 92,xu 93 91])))))) (xb 30) (xk 31 30 1) 5 31) [qW 94 1 3,xu 2 94]))
def iJ:FK:=⟨95,[xC 2 1],(AK.whole iw)⟩
theorem tf:au Tryz.prog dd=some iJ:=by kernel_rfl
def dy:AK:=qe [wS 1 5 0,qV 2 [.nils,.nils,qx,qx,.nils]] (.cut (.ot (.one (wG 3 (.c .any)) (.one [xp 9 1] (.one [qp 11 3 1] (.one [qp 14 4 1] (.one [qt 10 9] (.one [qt 12 11] (.one [qt 15 14] (wj [qM 7 2 [qx,.nils] 0 [],yb,ye,qP 14 15] (wj [qM 8 4 [qx,qx,.nils,qx] 0 [],yb,ye,qP 14 15] (wQ [yf 13 0 [],yb,ye,qP 14 15] (wQ [wP 16 1 8 13 15,yb,ye] (.one [wv 17 [.nils,.nils,qx,qx,.nils] [xW 7,wD 1 8,wD 2 10,wD 3 12,wD 4 16]] (wQ [qV 3 [.nils,.nils,qx,qx,.nils]] (wQ [qS 5 3 17] .done))))) (wQ [yf 13 0 [],yb,ye,qP 14 15] (wj [qM 8 4 [qx,qx,.nils,qx] 0 [],yb,ye,qP 14 15] (wQ [wP 16 1 8 13 15,yb,ye] (.one [wv 17 [.nils,.nils,qx,qx,.nils] [xW 7,wD 1 8,wD 2 10,wD 3 12,wD 4 16]] (wQ [qV 3 [.nils,.nils,qx,qx,.nils]] (wQ [qS 5 3 17] .done)))) (wQ [wP 16 1 8 13 15,yb,ye] (wQ [qM 8 4 [qx,qx,.nils,qx] 0 [],yb,ye,qP 14 15] (.one [wv 17 [.nils,.nils,qx,qx,.nils] [xW 7,wD 1 8,wD 2 10,wD 3 12,wD 4 16]] (wQ [qV 3 [.nils,.nils,qx,qx,.nils]] (wQ [qS 5 3 17] .done)))))))) (wj [qM 8 4 [qx,qx,.nils,qx] 0 [],yb,ye,qP 14 15] (wj [qM 7 2 [qx,.nils] 0 [],yb,ye,qP 14 15] (wQ [yf 13 0 [],yb,ye,qP 14 15] (wQ [wP 16 1 8 13 15,yb,ye] (.one [wv 17 [.nils,.nils,qx,qx,.nils] [xW 7,wD 1 8,wD 2 10,wD 3 12,wD 4 16]] (wQ [qV 3 [.nils,.nils,qx,qx,.nils]] (wQ [qS 5 3 17] .done))))) (wQ [yf 13 0 [],yb,ye,qP 14 15] (wj [qM 7 2 [qx,.nils] 0 [],yb,ye,qP 14 15] (wQ [wP 16 1 8 13 15,yb,ye] (.one [wv 17 [.nils,.nils,qx,qx,.nils] [xW 7,wD 1 8,wD 2 10,wD 3 12,wD 4 16]] (wQ [qV 3 [.nils,.nils,qx,qx,.nils]] (wQ [qS 5 3 17] .done)))) (wQ [wP 16 1 8 13 15,yb,ye] (wQ [qM 7 2 [qx,.nils] 0 [],yb,ye,qP 14 15] (.one [wv 17 [.nils,.nils,qx,qx,.nils] [xW 7,wD 1 8,wD 2 10,wD 3 12,wD 4 16]] (wQ [qV 3 [.nils,.nils,qx,qx,.nils]] (wQ [qS 5 3 17] .done)))))))) (wQ [yf 13 0 [],yb,ye,qP 14 15] (wj [qM 7 2 [qx,.nils] 0 [],yb,ye,qP 14 15] (wj [qM 8 4 [qx,qx,.nils,qx] 0 [],yb,ye,qP 14 15] (wQ [wP 16 1 8 13 15,yb,ye] (.one [wv 17 [.nils,.nils,qx,qx,.nils] [xW 7,wD 1 8,wD 2 10,wD 3 12,wD 4 16]] (wQ [qV 3 [.nils,.nils,qx,qx,.nils]] (wQ [qS 5 3 17] .done)))) (wQ [wP 16 1 8 13 15,yb,ye] (wQ [qM 8 4 [qx,qx,.nils,qx] 0 [],yb,ye,qP 14 15] (.one [wv 17 [.nils,.nils,qx,qx,.nils] [xW 7,wD 1 8,wD 2 10,wD 3 12,wD 4 16]] (wQ [qV 3 [.nils,.nils,qx,qx,.nils]] (wQ [qS 5 3 17] .done)))))) (wj [qM 8 4 [qx,qx,.nils,qx] 0 [],yb,ye,qP 14 15] (wj [qM 7 2 [qx,.nils] 0 [],yb,ye,qP 14 15] (wQ [wP 16 1 8 13 15,yb,ye] (.one [wv 17 [.nils,.nils,qx,qx,.nils] [xW 7,wD 1 8,wD 2 10,wD 3 12,wD 4 16]] (wQ [qV 3 [.nils,.nils,qx,qx,.nils]] (wQ [qS 5 3 17] .done)))) (wQ [wP 16 1 8 13 15,yb,ye] (wQ [qM 7 2 [qx,.nils] 0 [],yb,ye,qP 14 15] (.one [wv 17 [.nils,.nils,qx,qx,.nils] [xW 7,wD 1 8,wD 2 10,wD 3 12,wD 4 16]] (wQ [qV 3 [.nils,.nils,qx,qx,.nils]] (wQ [qS 5 3 17] .done)))))) (wQ [wP 16 1 8 13 15,yb,ye] (wj [qM 7 2 [qx,.nils] 0 [],yb,ye,qP 14 15] (wQ [qM 8 4 [qx,qx,.nils,qx] 0 [],yb,ye,qP 14 15] (.one [wv 17 [.nils,.nils,qx,qx,.nils] [xW 7,wD 1 8,wD 2 10,wD 3 12,wD 4 16]] (wQ [qV 3 [.nils,.nils,qx,qx,.nils]] (wQ [qS 5 3 17] .done)))) (wQ [qM 8 4 [qx,qx,.nils,qx] 0 [],yb,ye,qP 14 15] (wQ [qM 7 2 [qx,.nils] 0 [],yb,ye,qP 14 15] (.one [wv 17 [.nils,.nils,qx,qx,.nils] [xW 7,wD 1 8,wD 2 10,wD 3 12,wD 4 16]] (wQ [qV 3 [.nils,.nils,qx,qx,.nils]] (wQ [qS 5 3 17] .done)))))))))))))))))))) (xx (xe 4) (xV 0 [xz 18,xj 19 1,qt 20 19,wi 21 20,wK 22 18 21] 22 0 1 (.reg [xj 25 3,xj 27 1,xz 29,xj 34 1,xz 36,qt 26 25,qt 28 27,wn 30 2 28 29,xj 31 30,qt 32 31,qt 35 34,wn 37 2 35 36,xA 38 37,qt 39 38,yf 33 0 [],qP 25 26,qP 27 28,qP 31 32,qP 34 35,qP 38 39,wP 40 1 8 33 39,qP 25 26,qP 27 28,qP 31 32,wv 41 [qx,.nils] [xW 32,wD 1 40],qM 42 2 [qx,.nils] 1 [yl 2 41],qP 25 26,wP 43 2 32 26 42,xj 44 3,xu 44 43]) (xz 23) 24 23 1 4 24) (wN (xe 5) (xV 2 [xb 45,xA 46 1,qt 47 46,wi 48 47,wK 49 45 48] 49 2 3 (qe [xA 52 1,qt 53 52,xb 54,wn 55 4 53 54,qW 56 4 55,qV 6 [qx,qx,.nils,qx],qS 4 6 56] (.reg [xA 57 3,xj 59 6,xA 61 6,xp 64 6,qp 67 3 6,qt 58 57,qt 60 59,qt 62 61,qt 65 64,qt 68 67,yf 63 0 [],qP 57 58,qP 59 60,qP 61 62,qP 64 65,qP 67 68,wP 66 1 8 63 65,qP 57 58,qP 59 60,qP 61 62,qP 67 68,wv 69 [qx,qx,.nils,qx] [xW 60,wD 1 62,wD 2 66,wD 3 68],qM 70 4 [qx,qx,.nils,qx] 1 [yl 4 69],qP 57 58,wP 71 4 48 58 70,xA 72 3,xu 72 71])) (xb 50) 51 50 1 5 51) [qW 73 5 3,qS 5 2 73])))
def dw:FK:=⟨74,[xC 2 5],(AK.whole dy)⟩
theorem mv:au Tryz.prog dx=some dw:=by kernel_rfl
def lQ:FK:=⟨29,[xC 2 3],wa [wS 1 3 0,qV 2 (yk qx qx)] [xj 5 1,qt 6 5,xA 7 1,qt 8 7,wv 9 (yk qx qx) [xW 6,wD 1 8],qV 3 (yk qx qx),qS 3 3 9] (wN (xe 4) (xV 0 [xz 10,xp 11 1,qt 12 11,wi 13 12,wK 14 10 13] 14 0 1 (.reg [xp 17 3,xp 19 1,xz 21,qt 18 17,qt 20 19,wn 22 5 20 21,qW 23 5 22,xg 24 dx 23,qP 17 18,qM 25 5 [.nils,.nils,qx,qx,.nils] 1 [yl 5 24],qP 17 18,wP 26 5 88 18 25,xp 27 3,xu 27 26]) (xz 15) 16 15 1 4 16) [qW 28 3 3,qS 3 2 28])⟩
theorem tv:au Tryz.prog iK=some lQ:=by kernel_rfl
def gP:FK:=⟨25,[xC 2 1],wa [wS 1 1 0,qV 2 xL] [wv 5 xL [],qV 3 xL,xu 3 5] (wN (xe 4) (xV 0 [xz 6,xj 7 1,qt 8 7,wi 9 8,wK 10 6 9] 10 0 1 (.reg [xj 13 3,xj 15 1,xz 17,qt 14 13,qt 16 15,wn 18 3 16 17,qW 19 3 18,xg 20 iK 19,qP 13 14,qM 21 3 (yk qx qx) 1 [yl 3 20],qP 13 14,wP 22 3 40 14 21,xj 23 3,xu 23 22]) (xz 11) 12 11 1 4 12) [qW 24 1 3,xu 2 24])⟩
theorem mY:au Tryz.prog ed=some gP:=by kernel_rfl
def iM:AK:=wa [qV 2 xL] [we 7,xg 8 dd 7,xg 9 ed 8,qV 3 xL,xu 3 9] (wa [xj 10 3,we 12,xj 13 3,qt 11 10,qt 14 13,wi 15 14,wg 16 (wM 12 15),qP 10 11,wn 17 3 11 16,qf 4 17] [xz 18,qY 19 18,xp 20 19,we 22,xz 23,qY 24 23,xp 25 24,qt 21 20,qt 26 25,wi 27 26,wg 28 (wM 22 27),qP 20 21,wn 29 5 21 28,qf 5 29] (qe [we 30,xz 31,qY 32 31,xA 33 32,xz 35,qY 36 35,xp 37 36,qt 34 33,qt 38 37,wi 39 38,yf 40 5 [xi 0 (-1),wD 1 34,wD 2 39,(3,1,qR),(4,1,wI)],yi 41 30 40,qf 6 41] (xx [we 42,wg 43 (xy 42 32)] (.blk 0 (yh 45 43 0 44 45 (qw 44 (.reg [xb 46,we 47,wg 48 (xy 47 5),qY 49 46,xp 50 49,xu 50 48]) (yh 52 43 1 51 52 (qw 51 (qe [xb 53,qY 54 53,qp 55 4 54,qt 56 55,wi 57 56,qC 58 .gtr 57 0] (wb 58 (.reg [xb 59,qY 60 59,qp 61 4 60,qt 62 61,xr 63,qb 64 (qF 1 62 qR),xu 64 63]))) (yh 66 43 2 65 66 (qw 65 (.reg [xb 67,xr 68,qY 69 67,qp 70 3 69,xu 70 68]) (yh 72 43 3 71 72 (qw 71 (qe [xb 73,qY 74 73,xA 75 74,qt 76 75,wi 77 76,qC 78 .gtr 77 0] (wb 78 (.reg [xb 79,qY 80 79,xA 81 80,qt 82 81,xr 83,qb 84 (qF 4 82 qR),xA 85 84,xu 85 83]))) (yh 87 43 4 86 87 (qw 86 (qe [xb 88,qY 89 88,xA 90 89,qt 91 90,wi 92 91,qC 93 .gtr 92 0] (wb 93 (.reg [xb 94,qY 95 94,xA 96 95,xb 98,qY 99 98,xA 100 99,xr 105,xZ 106 1 xI 1 [xW 105],qt 97 96,qt 101 100,qb 102 (qF 4 101 qR),xp 103 102,qt 104 103,wP 107 1 8 104 106,qP 96 97,qb 108 (qF 4 97 qR),xp 109 108,xu 109 107]))) (yh 111 43 5 110 111 (qw 110 (.reg [xb 112,xb 113,qY 114 113,xj 115 114,qt 116 115,xr 117,yf 118 1 [xW 117],wv 119 [qx,.nils] [(0,1,qR),wD 1 118],qM 120 2 [qx,.nils] 1 [yl 2 119],wP 121 2 32 116 120,qY 122 112,xj 123 122,xu 123 121]) (yh 125 43 6 124 125 (qw 124 (.reg [xz 126,xz 127,qY 128 127,xj 129 128,we 131,qt 130 129,wg 132 (xy 131 2),qP 129 130,wq 133 .add 130 132,qY 134 126,xA 135 134,xu 135 133]) (yh 137 43 7 136 137 (wb 136 (qe [xb 138,qY 139 138,xA 140 139,qt 141 140,wi 142 141,qC 143 .gtr 142 0] (wb 143 (.reg [xb 144,qY 145 144,xA 146 145,we 148,xZ 149 1 xI 3 [xi 0 256,xi 1 (-1),(2,1,wI)],qt 147 146,yi 150 148 149,qP 146 147,qb 151 (qF 4 147 qR),qp 152 3 151,xu 152 150])))))))))))))))))))) (qH [qW 153 1 3,xu 2 153]))))
def iD:FK:=⟨154,[xC 2 1],(AK.whole iM)⟩
theorem tx:au Tryz.prog iG=some iD:=by kernel_rfl
def ft:FK:=⟨12,xY,xS (wG 4 (.c wl)) [xE 5,we 6,xE 7,wi 8 7,wg 9 (wM 6 8),wn 10 1 5 9,qt 11 10,qf 4 11]⟩
theorem jI:au Tryz.prog bx=some ft:=by kernel_rfl
def iz:FK:=⟨21,[xC 4 4],xP [qV 4 [qx,qx,wl,.nils]] [xE 5,wi 6 5,wJ 7 6 0,yg 8,wW 9 8 0,qJ 10 8 (xO (xy 9 3)),xN 11 8 .eql 10 qR,xK 12 8 11] (wz 12 [we 13,yf 14 10 [(0,1,qR),(1,1,wI),xi 2 2,xi 3 3,xi 4 5,xi 5 7,xi 6 15,xi 7 16,xi 8 100,xi 9 255],yi 15 13 14,wv 16 [qx,qx,wl,.nils] [(0,1,wI),wD 1 15],qS 4 4 16]) [we 17,xE 18,xd 19 bx 17 18,wv 20 [qx,qx,wl,.nils] [xi 0 2,wD 2 19],qS 4 4 20]⟩
theorem tL:au Tryz.prog eW=some iz:=by kernel_rfl
def eH:FK:=⟨47,[xC 6 4],qe [qV 6 [qx,qx,wl,.nils]] (qG [qf 8 2,qC 9 .lss 8 2,qf 10 9,wW 11 10 0,qJ 12 10 (xO (xy 11 4)),xN 13 10 .eql 12 qR,xK 14 10 13] (wz 14 [we 15,xE 16,xd 17 eW 15 16,qS 4 6 17]) (qG [we 18,wg 19 (xy 18 7),wJ 20 19 0] (wz 20 [we 21,yf 22 3 [xi 0 11,xi 1 12,xi 2 11],yi 23 21 22,we 24,xE 25,qf 26 2,xk 27 26 1,qn 28 bf [.t 24,.t 25,.t 27],qM 29 4 [qx,qx,wl,.nils] 1 [yl 4 28],wv 30 [qx,qx,wl,.nils] [xW 23,wD 3 29],qS 4 6 30]) (xS [we 31,yf 32 9 [xi 0 3,xi 1 3,xi 2 4,xi 3 5,xi 4 6,xi 5 7,xi 6 8,xi 7 9,xi 8 10],yi 33 31 32,qf 7 33] [yg 34,we 35,xE 36,qf 37 2,xk 38 37 1,qn 39 bf [.t 35,.t 36,.t 38],we 40,xE 41,qf 42 2,xk 43 42 1,qn 44 bf [.t 40,.t 41,.t 43],qM 45 4 [qx,qx,wl,.nils] 2 [yl 4 39,wt 4 4 44],wv 46 [qx,qx,wl,.nils] [xW 34,wD 3 45],qS 4 6 46])))⟩
theorem lD:au Tryz.prog bf=some eH:=by kernel_rfl
def ii:FK:=⟨99,[xC 4 4],wa [qV 4 [qx,qx,wl,.nils]] [qc 5 (.c .any),we 9,qY 10 9,xj 11 10,we 13,qY 14 13,xp 15 14,xE 17,qt 12 11,qt 16 15,qn 18 bf [.t 12,.t 16,.t 17],qV 5 [qx,qx,wl,.nils],qS 4 5 18] (qG [we 19,qY 20 19,xA 21 20,qt 22 21,wi 23 22,wJ 24 23 0,qf 25 24,wW 26 25 0,qJ 27 25 (qz 26),xt 28 25 0 27,xm 29 25 28,qJ 30 25 (xO (xy 29 4)),xN 31 25 .gtr 30 qR,xK 32 25 31] (wz 32 [qW 33 4 5,qS 4 4 33]) (wa [qc 6 (.c .any),we 34,qY 35 34,xA 36 35,we 38,qY 39 38,xj 40 39,we 42,qY 43 42,xA 44 43,qt 37 36,qt 41 40,qt 45 44,wi 46 45,wg 47 (wM 41 46),qP 36 37,wn 48 3 37 47,qW 49 3 48,qV 6 (yk wl .nils),qS 3 6 49] [xj 50 6,qt 51 50,wv 52 [qx,qx,wl,.nils] [xi 0 13,wD 2 51],qV 7 [qx,qx,wl,.nils],qS 4 7 52] (qG (xe 8) (xV 0 [qf 53 8,xA 54 6,qt 55 54,wi 56 55,wK 57 53 56] 57 0 1 (.reg [qp 60 3 7,we 62,qY 63 62,xj 64 63,we 66,qY 67 66,xp 68 67,qt 61 60,qt 65 64,qt 69 68,qn 70 bf [.t 65,.t 69,qi 2],qP 60 61,xZ 71 4 [qx,qx,wl,.nils] 1 [yl 4 70],wP 72 4 56 61 71,qp 73 3 7,xu 73 72]) (qf 58 8) 59 58 1 8 59) (wN [we 74,qY 75 74,xj 76 75,qt 77 76,wg 78 (xy 77 2),wJ 79 78 0] (wz 79 [qW 80 4 7,qS 4 4 80]) [we 81,qY 82 81,xj 83 82,xZ 85 1 xI 4 [xi 0 3,xi 1 4,xi 2 8,xi 3 10],we 88,qY 89 88,xj 90 89,we 92,qY 93 92,xp 94 93,qt 84 83,qW 87 4 7,qt 91 90,qt 95 94,yi 86 84 85,qA (some 4) 7 87,qP 90 91,qP 94 95,qn 96 bf [.t 91,.t 95,qi 2],qA (some 4) 7 87,qM 97 4 [qx,qx,wl,.nils] 2 [yl 4 87,wt 4 4 96],wv 98 [qx,qx,wl,.nils] [xW 86,wD 3 97],qS 4 4 98]))))⟩
theorem mL:au Tryz.prog eb=some ii:=by kernel_rfl
def gG:FK:=⟨46,xQ,wa (wG 2 (.c wl)) [we 3,we 4,qY 5 4,qp 6 3 5,qt 7 6,wH 8 7 1,qY 9 3,qp 10 3 9,xu 10 8] (wN [we 11,qY 12 11,xj 13 12,qt 14 13,wg 15 (xy 14 9),wJ 16 15 0,qf 17 16,wY 18 17 0,qK 19 17 (qz 18),xo 20 17 2 19,wR 21 17 20,qK 22 17 (qX 21),xB 23 17 .gtr 22 qR,x9 24 17 23] (wz 24 [we 25,qY 26 25,xj 27 26,we 29,qY 30 29,xp 31 30,qt 28 27,qt 32 31,xd 33 bx 28 32,qf 2 33]) [we 34,qY 35 34,qp 36 3 35,we 39,qY 40 39,qp 41 3 40,qt 37 36,qC 38 .rem 37 24,qt 42 41,qC 43 .rem 42 24,wH 44 43 1,qb 45 (.slStr (ym [97,98,99,100,101,103,104,105,106,107,108,109,110,112,113,114,115,116,117,118,119,120,121,122]) (some (.t 38)) (some (.t 44))),qf 2 45])⟩
theorem mJ:au Tryz.prog du=some gG:=by kernel_rfl
def eB:FK:=⟨24,[xC 4 5],wa [wS 3 4 1,qV 4 [qx,wl,.nils,.nils,.nils]] (xT (we 6) (xg 7 du 6) 5 7) (xS [we 8,qM 9 1 [wl] 0 [],we 10,qY 11 10,xp 12 11,qt 13 12,wP 14 1 16 9 13,xb 15,qM 16 1 [wl] 1 [xW 15],wP 17 1 16 14 16,qY 18 8,xp 19 18,xu 19 17] [xb 20,qW 21 4 3,qM 22 4 [qx,qx,wl,.nils] 1 [yl 4 21],wv 23 [qx,wl,.nils,.nils,.nils] [(0,1,wI),wD 1 20,wD 2 22],qS 5 4 23])⟩
theorem iU:au Tryz.prog cf=some eB:=by kernel_rfl
def ig:FK:=⟨14,[xC 2 4],xS [qV 2 [qx,qx,wl,.nils]] [we 3,we 5,qY 6 5,xj 7 6,xZ 9 1 xI 6 [xi 0 16,xi 1 16,xi 2 16,xi 3 8,xi 4 17,(5,1,qR)],qt 8 7,xR 4 (xy 3 2),qP 7 8,yi 10 8 9,wv 11 [qx,qx,wl,.nils] [(0,1,wI),wD 1 10],qM 12 4 [qx,qx,wl,.nils] 2 [yl 4 4,wt 4 4 11],wv 13 [qx,qx,wl,.nils] [xi 0 7,wD 3 12],qS 4 2 13]⟩
theorem mQ:au Tryz.prog cD=some ig:=by kernel_rfl
def dM:AK:=wa (wG 4 xF) [we 9,we 10,qY 11 10,xj 12 11,qt 13 12,yf 14 5 [xi 0 2,xi 1 3,(2,1,wI),(3,1,qR),xi 4 5],yi 15 13 14,wv 16 [qx,qx,wl,.nils] [(0,1,wI),wD 1 15],xd 17 cf 9 16,qV 5 [qx,wl,.nils,.nils,.nils],qS 5 5 17] (wa [xA 18 5,qt 19 18,wv 20 [qx,qx,wl,.nils] [xi 0 2,wD 2 19],qV 6 [qx,qx,wl,.nils],qS 4 6 20] [we 21,xE 22,xk 23 22 1,xd 24 aN 21 23,qf 7 24] (qe [xA 25 5,qt 26 25,qW 27 4 6,wv 28 [qx,qx,wl,.nils] [(0,1,wI),(1,1,wI)],qM 29 4 [qx,qx,wl,.nils] 2 [yl 4 27,wt 4 4 28],wv 30 [qx,qx,wl,.nils] [xi 0 4,wD 3 29],qM 31 4 [qx,qx,wl,.nils] 1 [yl 4 30],wv 32 [qx,wl,.nils,.nils,.nils] [xi 0 2,wD 1 26,wD 2 31],qV 8 [qx,wl,.nils,.nils,.nils],qS 5 8 32] (.cut (.reg [we 33,we 34,qY 35 34,qp 36 4 35,qt 37 36,xk 38 37 2,qY 39 33,qp 40 4 39,xu 40 38]) (qH [yg 44,qW 41 5 5,qW 42 4 6,xZ 43 4 [qx,qx,wl,.nils] 1 [yl 4 42],qW 45 5 8,xZ 46 5 [qx,wl,.nils,.nils,.nils] 1 [yl 5 45],wP 47 5 96 44 46,qA (some 5) 5 41,qA (some 4) 6 42,wv 48 [qx,wl,.nils,.nils,.nils] [xi 0 6,wD 2 43,wD 3 47],qM 49 5 [qx,wl,.nils,.nils,.nils] 2 [yl 5 41,wt 5 5 48],qf 4 49]))))
def dX:FK:=⟨50,xY,(AK.whole dM)⟩
theorem mZ:au Tryz.prog dJ=some dX:=by kernel_rfl
def ie:FK:=⟨128,xY,wa (wG 4 xF) [we 7,we 8,qY 9 8,qp 10 4 9,qt 11 10,xk 12 11 1,qY 13 7,qp 14 4 13,xu 14 12] (qe [we 15,qY 16 15,xj 17 16,qt 18 17,wg 19 (xy 18 13),qf 5 19] (wd 0 (qe [xb 21,qC 22 .lss 21 3,qf 23 22,wY 24 23 0,qK 25 23 (qz 24),xo 26 23 2 25,wR 27 23 26,qK 28 23 (qX 27),xB 29 23 .gtr 28 qR,x9 30 23 29,qf 20 30] (qw 20 (qH [we 31,qY 32 31,xj 33 32,we 35,qY 36 35,xp 37 36,we 40,qt 34 33,qt 38 37,xd 39 bx 34 38,xR 41 (xy 40 3),qM 42 4 [qx,qx,wl,.nils] 1 [yl 4 41],wv 43 [qx,wl,.nils,.nils,.nils] [xi 0 2,wD 1 39,wD 2 42],qM 44 5 [qx,wl,.nils,.nils,.nils] 1 [yl 5 43],qf 4 44]) (qe (xT (xb 46) (qC 47 .lss 46 5) 45 47) (qw 45 (qH [we 48,we 49,xR 50 (xy 49 3),xd 51 cf 48 50,qM 52 5 [qx,wl,.nils,.nils,.nils] 1 [yl 5 51],qf 4 52]) (qe [xb 54,qC 55 .lss 54 7,qf 56 55,wW 57 56 1,xN 58 56 .lss 57 (qi 2),xK 59 56 58,qf 53 59] (qw 53 (qH [we 60,xR 61 (xy 60 3),qM 62 4 [qx,qx,wl,.nils] 1 [yl 4 61],wv 63 [qx,wl,.nils,.nils,.nils] [xi 0 3,wD 2 62],qM 64 5 [qx,wl,.nils,.nils,.nils] 1 [yl 5 63],qf 4 64]) (qe (xT (xb 66) (wJ 67 66 7) 65 67) (qw 65 (qH [we 68,xg 69 cD 68,we 70,xR 71 (xy 70 2),qM 72 4 [qx,qx,wl,.nils] 2 [yl 4 69,wt 4 4 71],wv 73 [qx,wl,.nils,.nils,.nils] [xi 0 4,wD 2 72],qM 74 5 [qx,wl,.nils,.nils,.nils] 1 [yl 5 73],qf 4 74]) (qe (xT (xb 76) (wJ 77 76 8) 75 77) (qw 75 (qH [we 78,xg 79 cD 78,qM 80 4 [qx,qx,wl,.nils] 1 [yl 4 79],wv 81 [qx,qx,wl,.nils] [xi 0 12,wD 3 80],qM 82 4 [qx,qx,wl,.nils] 1 [yl 4 81],wv 83 [qx,wl,.nils,.nils,.nils] [xi 0 3,wD 2 82],qM 84 5 [qx,wl,.nils,.nils,.nils] 1 [yl 5 83],qf 4 84]) (qe (xT (xb 86) (qC 87 .lss 86 11) 85 87) (qw 85 (xP [we 88,xR 89 (xy 88 3),qM 90 4 [qx,qx,wl,.nils] 1 [yl 4 89],we 91,xE 92,xk 93 92 1,xd 94 aN 91 93,wv 95 [qx,wl,.nils,.nils,.nils] [xi 0 5,wD 2 90,wD 3 94],qV 6 [qx,wl,.nils,.nils,.nils],qS 5 6 95] [we 96,qY 97 96,xj 98 97,qt 99 98,wg 100 (xy 99 2),wJ 101 100 0] (wb 101 (.reg [we 102,xE 103,xk 104 103 1,xd 105 aN 102 104,qp 106 4 6,xu 106 105])) (xT (qW 107 5 6) (qM 108 5 [qx,wl,.nils,.nils,.nils] 1 [yl 5 107]) 4 108)) (qe [xb 110,wJ 111 110 11,qf 112 111,wY 113 112 0,qK 114 112 (qz 113),xo 115 112 0 114,wR 116 112 115,qK 117 112 (xO (xy 116 3)),xB 118 112 .eql 117 qR,x9 119 112 118,qf 109 119] (wz 109 [we 120,xR 121 (xy 120 2),qM 122 4 [qx,qx,wl,.nils] 1 [yl 4 121],wv 123 [qx,wl,.nils,.nils,.nils] [xi 0 7,wD 2 122],qM 124 5 [qx,wl,.nils,.nils,.nils] 1 [yl 5 123],qf 4 124])))))))))))))) (qH [we 125,xE 126,xd 127 dJ 125 126,qf 4 127])))⟩
theorem nt:au Tryz.prog dW=some ie:=by kernel_rfl
def gh:FK:=⟨40,xY,wa (wG 4 xF) [we 8,qY 9 8,xp 10 9,qt 11 10,qf 5 11] (xH (qM 12 5 [qx,wl,.nils,.nils,.nils] 0 []) 6 12 (qG [we 13,qY 14 13,xj 15 14,qt 16 15,yf 17 4 [xi 0 2,xi 1 3,(2,1,wI),xi 3 4],yi 18 16 17,qf 7 18] (xU 0 [yg 19,qC 20 .gtr 19 0,qf 21 20,wY 22 21 0,qK 23 21 (qz 22),xo 24 21 4 23,wR 25 21 24,xB 26 21 .gtr 25 qR,x9 27 21 26] 27 0 1 (.reg [xr 30,we 31,xE 32,xd 33 dW 31 32,wP 34 5 96 30 33,qf 6 34]) (yg 28) (xk 29 28 1) 7 29) (xS [we 35,xb 36,qY 37 35,xp 38 37,xu 38 36] (xG (xr 39) 4 39))))⟩
theorem mh:au Tryz.prog aN=some gh:=by kernel_rfl
def fj:AK:=wa [qV 6 (yk wl .nils)] [we 8,qM 9 1 [wl] 3 [(0,1,ym [97]),(1,1,ym [98]),(2,1,ym [99])],qf 10 2,qb 11 (.slS 1 (.t 9) none (some (.t 10))),qY 12 8,xp 13 12,xu 13 11] (qe [we 14,qf 15 2,xk 16 15 1,qY 17 14,qp 18 3 17,xu 18 16] (.cut (.reg [xE 19,qM 20 1 [wl] 0 [],we 21,qY 22 21,xp 23 22,qt 24 23,wP 25 1 16 20 24,wv 26 (yk wl .nils) [xW 19,wD 1 25],qV 7 (yk wl .nils),qS 3 7 26]) (xP [we 27,qn 28 aN (xy 27 3),xp 29 7,xu 29 28] [we 30,qY 31 30,qp 32 4 31,qt 33 32,qC 34 .gtr 33 0,qf 35 34,wY 36 35 0,qK 37 35 (qz 36),xo 38 35 0 37,wR 39 35 38,qK 40 35 (xO (xy 39 4)),xB 41 35 .gtr 40 qR,x9 42 35 41] (wb 42 (qe [we 43,we 44,qY 45 44,qp 46 4 45,qt 47 46,xk 48 47 1,qY 49 43,qp 50 4 49,xu 50 48] (.reg [xp 51 7,we 53,qt 52 51,xR 54 (xy 53 2),qP 51 52,xZ 55 4 [qx,qx,wl,.nils] 1 [yl 4 54],wv 56 [qx,wl,.nils,.nils,.nils] [xi 0 7,wD 2 55],xZ 57 5 [qx,wl,.nils,.nils,.nils] 1 [yl 5 56],wP 58 5 96 52 57,xp 59 7,xu 59 58]))) [qW 60 3 7,qS 3 6 60])))
def fq:FK:=⟨61,[xC 6 3],(AK.whole fj)⟩
theorem pK:au Tryz.prog dq=some fq:=by kernel_rfl
def jY:FK:=⟨18,xY,xP (xe 4) (xe 5) (xV 0 [xb 6,we 7,qb 8 (.len true (.t 7)),wK 9 6 8] 9 0 1 (qe [we 12,xb 13,qb 14 (.idxStr (.t 12) (.t 13)),xE 15,wq 16 .eql 14 15] (wz 16 (xG (xb 17) 4 17))) (xb 10) 11 10 1 5 11) (wG 4 (qi (-1)))⟩
theorem sY:au Tryz.prog fW=some jY:=by kernel_rfl
def jQ:FK:=⟨28,xQ,qe (xe 2) (wd 0 (qe [we 4,qy 5 .geq 4 (.c (qd .u8 97)),xb 6,wY 7 6 0,xB 8 6 .leq 7 (.c (qd .u8 122)),x9 9 6 8,qf 3 9] (qw 3 (qH (wG 2 wI)) (qe [we 11,qy 12 .geq 11 (.c (qd .u8 48)),qf 13 12,wY 14 13 0,xB 15 13 .leq 14 (.c (qd .u8 57)),x9 16 13 15,qf 10 16] (qw 10 (qH (wG 2 (qi 2))) (qe [we 18,qn 19 fW [ym [40,41,123,125,59,44,43,45,42,47,37,60,61,38,33,64],.t 18],qC 20 .geq 19 0,qf 17 20] (qw 17 (qH (wG 2 (qi 3))) (qe [we 22,qy 23 .eql 22 (.c (qd .u8 32)),qf 24 23,wW 25 24 0,xN 26 24 .eql 25 (.c (qd .u8 10)),xK 27 24 26,qf 21 27] (wT 21 2 (qi 4))))))))) (qH (xe 2)))⟩
theorem rT:au Tryz.prog fR=some jQ:=by kernel_rfl
def nh:FK:=⟨21,xY,xP (wG 4 qT) (xe 5) (xV 0 [xb 6,we 7,qb 8 (.len true (.t 7)),wK 9 6 8] 9 0 1 (qe [we 12,xb 13,qb 14 (.idxStr (.t 12) (.t 13)),xg 15 fR 14,xE 16,wq 17 .neq 15 16] (yj 17 4)) (xb 10) 11 10 1 5 11) [we 18,qb 19 (.len true (.t 18)),qC 20 .gtr 19 0,qf 4 20]⟩
theorem uL:au Tryz.prog jF=some nh:=by kernel_rfl
def jH:FK:=⟨2,xD 0,xS (wG 0 xF) [qM 1 1 [wl] 9 [(0,1,ym [102,110]),(1,1,ym [108,101,116]),(2,1,ym [115,97,121]),(3,1,ym [112,117,116]),(4,1,ym [105,102]),(5,1,ym [101,108,115,101]),(6,1,ym [108,111,111,112]),(7,1,ym [98,97,99,107]),(8,1,ym [100,111])],xE 0]⟩
theorem pO:au Tryz.prog dm=some jH:=by kernel_rfl
def nz:FK:=⟨18,xQ,wa (wG 2 qT) [qn 5 dm [],xb 3] (wN (xe 4) (xV 0 [xz 6,x8 7,wi 8 7,wK 9 6 8] 9 0 1 (qe [x8 12,xz 13,wn 14 1 12 13,qt 15 14,we 16,qb 17 (.bins .eql (.t 15) (.t 16))] (wT 17 2 wF)) (xz 10) 11 10 1 4 11) (wG 2 qT))⟩
theorem uO:au Tryz.prog jx=some nz:=by kernel_rfl
def lM:FK:=⟨15,xQ,xS (wG 2 qT) [we 3,qn 4 jF (wL 3 wI),xz 5,wY 6 5 0,qK 7 5 (.len true (.t 6)),xB 8 5 .leq 7 (qi 4),x9 9 5 8,qf 10 9,wY 11 10 0,qK 12 10 (.call jx (xf 11)),qK 13 10 (wB 12),x9 14 10 13,qf 2 14]⟩
theorem tM:au Tryz.prog bD=some lM:=by kernel_rfl
def iL:FK:=⟨5,xQ,xP (xe 2) [we 3,wJ 4 3 4] (wT 4 2 (qi 2)) (wG 2 wI)⟩
theorem tE:au Tryz.prog eI=some iL:=by kernel_rfl
def bW:FK:=⟨13,[.t 2,.t 3],xP [qc 2 qR,qc 3 qR] [we 4] (.blk 0 (qG [wJ 6 4 1,xr 5] (qw 5 .skip (.reg (xG (wJ 7 4 2) 5 7))) (qw 5 (qH [qc 2 qR,qc 3 qR]) (qG (xG (wJ 9 4 11) 8 9) (qw 8 .skip (.reg (xG (wJ 10 4 12) 8 10))) (qw 8 (qH [qc 2 wI,qc 3 wI]) (yh 12 4 13 11 12 (wz 11 [qc 2 qR,qc 3 (qi 3)]))))))) [qc 2 (qi 2),qc 3 (qi 2)]⟩
theorem tp:au Tryz.prog eM=some bW:=by kernel_rfl
def eN:FK:=⟨86,xY,wa [wS 2 4 0,qc 4 qT] [xj 10 2,qt 11 10,xg 12 eM 11,qf 9 12,qb 13 (.ext 0 (.t 9)),qb 14 (.ext 1 (.t 9)),qf 5 13,qf 6 14] (qG [xE 15,qC 16 .lss 15 1,qf 17 16,xt 18 17 0 2,xm 19 17 18,qJ 20 17 (xa [.t 19,wI,qi 13]),qJ 21 17 (wB 20),xK 22 17 21,qf 23 22,xt 24 23 3 2,xm 25 23 24,qJ 26 23 (qX 25),wW 27 23 5,wW 28 23 6,qJ 29 23 (xa [.t 26,.t 27,.t 28]),qJ 30 23 (wB 29),xK 31 23 30] (yj 31 4) (qe [xj 32 2,qt 33 32,wJ 34 33 2,qf 35 34,xt 36 35 0 2,xm 37 35 36,xN 38 35 .eql 37 (qi 13),xK 39 35 38,qf 7 39] (qG [yg 40,xp 41 2,qt 42 41,xg 43 bD 42,qb 44 (.beq true (.t 40) (.t 43)),qf 45 44,wW 46 45 7,qJ 47 45 (wB 46),wW 48 45 47,xo 49 48 2 2,wR 50 48 49,qK 51 48 (.bins .neq (.t 50) (.c wl)),qJ 52 45 (qN 48 (.t 51) qT),xK 53 45 52,qf 54 53,xt 55 54 1 2,xm 56 54 55,qJ 57 54 (xa [.t 56,qR,qi 255]),qJ 58 54 (wB 57),xK 59 54 58,qf 60 59,xt 61 60 0 2,xm 62 60 61,xN 63 60 .neq 62 wI,wW 64 60 63,xo 65 64 1 2,wR 66 64 65,xB 67 64 .neq 66 qR,qJ 68 60 (qN 64 (.t 67) qT),xK 69 60 68] (yj 69 4) (wN (xe 8) (xV 0 [qf 70 8,qp 71 3 2,qt 72 71,wi 73 72,wK 74 70 73] 74 0 1 (qe [qp 77 3 2,qt 78 77,qf 79 8,wn 80 4 78 79,qW 81 4 80,xE 82,xk 83 82 1,xd 84 dj 81 83,x7 85 84] (yj 85 4)) (qf 75 8) 76 75 1 8 76) (wG 4 wF)))))⟩
theorem lA:au Tryz.prog dj=some eN:=by kernel_rfl
def jV:FK:=⟨21,xQ,wa [wS 1 4 0,qc 2 qR] (wG 3 wI) (wN (xe 4) (xV 0 [xz 5,qp 6 3 1,qt 7 6,wi 8 7,wK 9 5 8] 9 0 1 (.reg [x8 12,qp 13 3 1,qt 14 13,xz 15,wn 16 4 14 15,qW 17 4 16,xg 18 dV 17,wq 19 .add 12 18,qf 3 19]) (xz 10) 11 10 1 4 11) (xG (x8 20) 2 20))⟩
theorem sL:au Tryz.prog dV=some jV:=by kernel_rfl
def iR:FK:=⟨10,xQ,xS [wS 1 4 0,qc 2 qT] [qW 3 4 1,qn 4 dj (xy 3 6),xz 5,qK 6 5 (qk (some 4) 1),qK 7 5 (.call dV (xf 6)),xB 8 5 .leq 7 (qi 30),x9 9 5 8,qf 2 9]⟩
theorem oJ:au Tryz.prog cT=some iR:=by kernel_rfl
def eU:FK:=⟨108,xY,qe [wS 2 5 0,qc 4 qT] (qG [xE 7,qC 8 .lss 7 1,qf 9 8,xt 10 9 0 2,xm 11 9 10,qJ 12 9 (xa [.t 11,wI,qi 8]),qJ 13 9 (wB 12),xK 14 9 13,qf 15 14,xt 16 15 2 2,xt 19 15 0 2,xm 17 15 16,qJ 18 15 (qX 17),xm 20 15 19,qJ 21 15 (.qcall eI (xf 20)),xN 22 15 .neq 18 (.t 21),xK 23 15 22] (yj 23 4) (qe [xj 24 2,qt 25 24,wJ 26 25 1,qf 27 26,xt 28 27 0 2,xm 29 27 28,xN 30 27 .eql 29 (qi 2),xK 31 27 30,qf 5 31] (qG [xb 32,xA 33 2,qt 34 33,xg 35 bD 34,qb 36 (.beq true (.t 32) (.t 35)),qf 37 36,wW 38 37 5,qJ 39 37 (wB 38),wW 40 37 39,xo 41 40 1 2,wR 42 40 41,qK 43 40 (.bins .neq (.t 42) (.c wl)),qJ 44 37 (qN 40 (.t 43) qT),xK 45 37 44] (yj 45 4) (qG (xe 6) (xV 0 [xr 46,xp 47 2,qt 48 47,wi 49 48,wK 50 46 49] 50 0 1 (qe [xp 53 2,qt 54 53,xr 55,wn 56 4 54 55,qW 57 4 56,xg 58 cT 57,x7 59 58] (yj 59 4)) (xr 51) 52 51 1 6 52) (qG [xj 60 2,qt 61 60,wJ 62 61 8,qf 63 62,xo 64 63 2 2,wR 65 63 64,qK 66 63 (qF 4 65 qR),xo 67 63 0 66,wR 68 63 67,xB 69 63 .neq 68 (qi 13),x9 70 63 69] (yj 70 4) (wN [qp 71 4 2,qt 72 71,wi 73 72,qC 74 .gtr 73 0,qf 75 74,xo 76 75 0 2,wR 77 75 76,xB 78 75 .neq 77 (qi 5),x9 79 75 78,qf 80 79,xt 81 80 3 2,xm 82 80 81,qJ 83 80 (qX 82),xN 84 80 .gtr 83 qR,wW 85 80 84,xo 86 85 0 2,wR 87 85 86,xB 88 85 .neq 87 (qi 5),qJ 89 80 (qN 85 (.t 88) qT),wW 90 80 89,xo 91 90 0 2,wR 92 90 91,xB 93 90 .neq 92 (qi 6),qJ 94 80 (qN 90 (.t 93) qT),xK 95 80 94] (yj 95 4) [qp 96 3 2,qt 97 96,xE 98,xk 99 98 1,xd 100 bq 97 99,qf 101 100,xo 102 101 4 2,wR 103 101 102,wY 104 101 1,xB 105 101 .sub 104 wI,qK 106 101 (.call bq (wM 103 105)),x9 107 101 106,qf 4 107]))))))⟩
theorem lw:au Tryz.prog eF=some eU:=by kernel_rfl
def kj:FK:=⟨19,xY,xP (wG 4 qT) (xe 5) (xV 0 [xb 6,we 7,wi 8 7,wK 9 6 8] 9 0 1 (qe [we 12,xb 13,wn 14 5 12 13,qW 15 5 14,xE 16,xd 17 eF 15 16,x7 18 17] (yj 18 4)) (xb 10) 11 10 1 5 11) (wG 4 wF)⟩
theorem sq:au Tryz.prog bq=some kj:=by kernel_rfl
def pi:FK:=⟨32,xQ,xP [wS 1 3 0,qc 2 qT] (xe 3) (xV 0 [x8 4,xA 5 1,qt 6 5,wi 7 6,wK 8 4 7] 8 0 1 (qe [xA 11 1,qt 12 11,x8 13,wn 14 1 12 13,qt 15 14,xg 16 bD 15,x7 17 16] (yj 17 2)) (x8 9) 10 9 1 3 10) [xj 18 1,qt 19 18,xg 20 bD 19,qf 21 20,xo 22 21 1 1,wR 23 21 22,qK 24 21 (qX 23),xB 25 21 .leq 24 (qi 3),x9 26 21 25,qf 27 26,xo 28 27 2 1,wR 29 27 28,qK 30 27 (.call bq (xy 29 4)),x9 31 27 30,qf 2 31]⟩
theorem yD:au Tryz.prog kq=some pi:=by kernel_rfl
def gA:FK:=⟨29,xQ,wa (xe 2) [we 5,wi 6 5,xr 3] (wN (xe 4) (xV 0 [xz 7,we 8,wi 9 8,wK 10 7 9] 10 0 1 (.reg [x8 13,we 14,xz 15,wn 16 5 14 15,qp 17 3 16,we 21,xz 22,wn 23 5 21 22,qp 24 4 23,qt 18 17,qt 25 24,xg 19 cF 18,qP 24 25,wq 20 .add 13 19,xg 26 cF 25,wq 27 .add 20 26,qf 3 27]) (xz 11) 12 11 1 4 12) (xG (x8 28) 2 28))⟩
theorem ku:au Tryz.prog cF=some gA:=by kernel_rfl
def nW:FK:=⟨22,xQ,wa [wS 1 1 0,qc 2 qR] (xe 3) (wN (xe 4) (xV 0 [xz 5,xj 6 1,qt 7 6,wi 8 7,wK 9 5 8] 9 0 1 (.reg [x8 12,xj 13 1,qt 14 13,xz 15,wn 16 3 14 15,xp 17 16,qt 18 17,xg 19 cF 18,wq 20 .add 12 19,qf 3 20]) (xz 10) 11 10 1 4 11) (xG (x8 21) 2 21))⟩
theorem vf:au Tryz.prog jD=some nW:=by kernel_rfl
def fu:FK:=⟨26,xQ,qe [wS 1 1 0,qc 2 qT] (qG [xj 4 1,qt 5 4,wi 6 5,xX 7 [.t 6,wI,qi 4],x7 8 7] (yj 8 2) (wN (xe 3) (xV 0 [x8 9,xj 10 1,qt 11 10,wi 12 11,wK 13 9 12] 13 0 1 (qe [xj 16 1,qt 17 16,x8 18,wn 19 3 17 18,qW 20 3 19,xg 21 kq 20,x7 22 21] (yj 22 2)) (x8 14) 15 14 1 3 15) [qW 23 1 1,xg 24 jD 23,qC 25 .leq 24 40,qf 2 25]))⟩
theorem lv:au Tryz.prog da=some fu:=by kernel_rfl
def lS:FK:=⟨69,[xC 2 1],wa [qV 2 xL] [we 8,we 9,yf 10 4 [xi 0 14,xi 1 20,xi 2 8,xi 3 26],yi 11 9 10,wv 12 [.nilp,.nils,.nils,qx,qx] [xW 8,wD 4 11],wS 13 5 12,qf 3 13] (qG [we 14,yf 15 4 [(0,1,qR),(1,1,wI),(2,1,wI),xi 3 2],yi 16 14 15,qf 4 16] (xU 0 [xz 17,qC 18 .gtr 17 0] 18 0 1 (qe [qc 5 (.c .any),x8 21,xZ 22 1 [wl] 3 [(0,1,ym [102]),(1,1,ym [103]),(2,1,ym [104])],x8 23,qY 24 23,xA 25 24,we 30,qt 26 25,wi 27 26,wn 28 1 22 27,qt 29 28,wg 31 (xy 30 3),qP 25 26,qP 28 29,qn 32 dq [.t 21,.t 29,.t 31],qV 5 (yk wl .nils),qS 3 5 32] (.reg [x8 33,x8 34,qY 35 34,xA 36 35,qt 37 36,qW 38 3 5,xZ 39 3 (yk wl .nils) 1 [yl 3 38],wP 40 3 64 37 39,qY 41 33,xA 42 41,xu 42 40])) (xz 19) (xk 20 19 1) 4 20) (wa [x8 43,we 44,yf 45 4 [(0,1,qR),(1,1,wI),xi 2 2,(3,1,wI)],yi 46 44 45,qn 47 dq [.t 43,ym [109],.t 46],qV 6 (yk wl .nils),qS 3 6 47] [qc 7 (.c .any),x8 49,qY 50 49,xA 51 50,qt 52 51,qW 54 3 6,xZ 55 3 (yk wl .nils) 1 [yl 3 54],qM 48 3 (yk wl .nils) 0 [],qP 51 52,qA (some 3) 6 54,wP 53 3 64 48 52,qA (some 3) 6 54,wP 56 3 64 53 55,wv 57 xL [xW 56],qV 7 xL,xu 7 57] (wN [qW 58 1 7,xg 59 da 58,x7 60 59] (wz 60 [wv 61 [qx,qx,wl,.nils] [(0,1,wI),(1,1,wI)],qM 62 4 [qx,qx,wl,.nils] 1 [yl 4 61],wv 63 [qx,wl,.nils,.nils,.nils] [xi 0 3,wD 2 62],qM 64 5 [qx,wl,.nils,.nils,.nils] 1 [yl 5 63],wv 65 (yk wl .nils) [(0,1,ym [109]),wD 2 64],qM 66 3 (yk wl .nils) 1 [yl 3 65],wv 67 xL [xW 66],xu 2 67]) [qW 68 1 7,xu 2 68])))⟩
theorem tr:au Tryz.prog eV=some lS:=by kernel_rfl
def ky:FK:=⟨4,xQ,xP (xe 2) [we 3] (wT 3 2 wI) (xe 2)⟩
theorem rn:au Tryz.prog fJ=some ky:=by kernel_rfl
def ir:FK:=⟨35,xQ,wa (xe 2) (xe 3) (wN (xe 4) (xV 0 [xz 5,we 6,wi 7 6,wK 8 5 7] 8 0 1 (.reg [x8 11,we 12,xz 13,wn 14 5 12 13,xj 15 14,we 20,xz 21,wn 22 5 20 21,qp 23 3 22,we 27,xz 28,wn 29 5 27 28,qp 30 4 29,qt 16 15,wJ 17 16 1,qt 24 23,qt 31 30,xg 18 fJ 17,qP 23 24,qP 30 31,wq 19 .add 11 18,xg 25 dh 24,qP 30 31,wq 26 .add 19 25,xg 32 dh 31,wq 33 .add 26 32,qf 3 33]) (xz 9) 10 9 1 4 10) (xG (x8 34) 2 34))⟩
theorem lI:au Tryz.prog dh=some ir:=by kernel_rfl
def dD:FK:=⟨25,xQ,wa (xe 2) [we 3,we 4,qY 5 4,xA 6 5,xp 7 6,qt 8 7,qM 9 2 [qx,.nils] 0 [],qM 10 4 [qx,qx,.nils,qx] 0 [],yf 11 0 [],wv 12 [.nils,.nils,qx,qx,.nils] [xW 9,wD 1 10,wD 4 11],qM 13 5 [.nils,.nils,qx,qx,.nils] 1 [yl 5 12],wP 14 5 88 8 13,qY 15 3,xA 16 15,xp 17 16,xu 17 14] (qH [we 18,qY 19 18,xA 20 19,xp 21 20,qt 22 21,wi 23 22,xk 24 23 1,qf 2 24])⟩
theorem gm:au Tryz.prog bH=some dD:=by kernel_rfl
def gR:FK:=⟨37,[],wa [we 11,qY 12 11,xA 13 12,xp 14 13,we 16,qY 17 16,qp 18 4 17,qt 15 14,qt 19 18,wn 20 5 15 19,qf 10 20] [qf 21 10,xE 22,qY 23 21,xp 24 23,xu 24 22] (wa [qf 25 10,qf 26 2,qY 27 25,qp 28 3 27,xu 28 26] [qf 29 10,x8 30,qY 31 29,qp 32 4 31,xu 32 30] (.reg [we 33,xz 34,qY 35 33,qp 36 4 35,xu 36 34]))⟩
theorem nK:au Tryz.prog bi=some gR:=by kernel_rfl
def gv:FK:=⟨19,xQ,wa (xe 2) [we 3,we 4,qY 5 4,xA 6 5,xA 7 6,qt 8 7,wH 9 8 1,qY 10 3,xA 11 10,xA 12 11,xu 12 9] (qH [we 13,qY 14 13,xA 15 14,xA 16 15,qt 17 16,xk 18 17 1,qf 2 18])⟩
theorem mB:au Tryz.prog bn=some gv:=by kernel_rfl
def ey:FK:=⟨37,xD 10,wa (xe 10) [we 12,qY 13 12,xA 14 13,xp 15 14,we 17,qY 18 17,qp 19 4 18,qt 16 15,qt 20 19,wn 21 5 16 20,qf 11 21] (xS [qf 22 11,qf 23 11,qY 24 23,xA 25 24,qt 26 25,xE 27,qf 28 2,xz 29,x8 30,wv 31 [qx,qx,.nils,qx] [xW 27,wD 1 28,wD 2 29,wD 3 30],qM 32 4 [qx,qx,.nils,qx] 1 [yl 4 31],wP 33 4 48 26 32,qY 34 22,xA 35 34,xu 35 33] (xG (qf 36 2) 10 36))⟩
theorem oO:au Tryz.prog bG=some ey:=by kernel_rfl
def eC:FK:=⟨34,xY,xP (xe 4) [we 6,qY 7 6,qp 8 5 7,qt 9 8,wi 10 9,xk 11 10 1,qf 5 11] (xU 0 [xb 12,qC 13 .geq 12 0] 13 0 1 (qe [we 16,qY 17 16,qp 18 5 17,qt 19 18,xb 20,wn 21 3 19 20,xj 22 21,qt 23 22,xE 24,qb 25 (.bins .eql (.t 23) (.t 24))] (wz 25 [we 26,qY 27 26,qp 28 5 27,qt 29 28,xb 30,wn 31 3 29 30,xA 32 31,qt 33 32,qf 4 33])) (xb 14) (xk 15 14 1) 5 15) (wG 4 (qi (-1)))⟩
theorem oI:au Tryz.prog cW=some eC:=by kernel_rfl
def jm:FK:=⟨56,xY,wa [wS 3 4 1,qc 4 qR] [we 11,qp 12 3 3,qt 13 12,qb 14 (qF 4 13 qR),qW 15 4 14,xd 16 aW 11 15,qf 5 16] (wa [we 17,we 18,xM 19 18,yf 20 0 [],wZ 21 [.t 17,wI,.t 19,qR,.t 20],qf 6 21] (xT (we 22) (xq 23 22) 7 23) (wa (xT (we 24) (xq 25 24) 8 25) [we 26,xb 27,yg 28,qf 29 8,yf 30 2 [xW 28,wD 1 29],yg 31,xv 32 [.t 26,qi 2,.t 27,.t 30,.t 31]] (wa [we 33,qp 34 3 3,qt 35 34,qb 36 (qF 4 35 wI),qW 37 4 36,xd 38 aW 33 37,qf 9 38] [we 39,we 40,xM 41 40,qf 42 9,yf 43 1 [xW 42],wZ 44 [.t 39,qi 10,.t 41,qR,.t 43],qf 10 44] (wa [we 45,xr 46,qf 47 10,yf 48 1 [xW 47],wZ 49 [.t 45,qi 10,.t 46,qR,.t 48]] [we 50,qf 51 8,yf 52 1 [xW 51],qf 53 8,xv 54 [.t 50,wI,qR,.t 52,.t 53]] (qH (xG (xr 55) 4 55))))))⟩
theorem oH:au Tryz.prog eq=some jm:=by kernel_rfl
def po:FK:=⟨22,xY,xP [wS 2 1 0,qc 4 qR] (xe 5) (xV 0 [xb 6,xj 7 2,qt 8 7,wi 9 8,wK 10 6 9] 10 0 1 (qe [xj 13 2,qt 14 13,xb 15,wn 16 3 14 15,xj 17 16,qt 18 17,xE 19,qb 20 (.bins .eql (.t 18) (.t 19))] (wz 20 (xG (xb 21) 4 21))) (xb 11) 12 11 1 5 12) (wG 4 (qi (-1)))⟩
theorem vP:au Tryz.prog kh=some po:=by kernel_rfl
def bT:FK:=⟨84,xY,qe [wS 3 4 1,qc 4 qR] (qG [xj 7 3,qt 8 7] (.blk 0 (yh 10 8 1 9 10 (qw 9 (qH [we 11,we 12,xA 14 3,xZ 16 1 xI 0 [],qt 15 14,xM 13 12,qP 14 15,wZ 17 [.t 11,wI,.t 13,.t 15,.t 16],qf 4 17]) (yh 19 8 2 18 19 (qw 18 (qH [we 20,xp 21 3,qt 22 21,xd 23 cW 20 22,qf 4 23]) (yh 25 8 10 24 25 (wz 24 [we 26,qW 27 4 3,xd 28 eq 26 27,qf 4 28]))))))) (xH (yf 29 0 []) 5 29 (qG (xe 6) (xV 1 [xr 30,qp 31 3 3,qt 32 31,wi 33 32,wK 34 30 33] 34 1 2 (.reg [xb 37,we 38,qp 39 3 3,qt 40 39,xr 41,wn 42 4 40 41,qW 43 4 42,xd 44 aW 38 43,yf 45 1 [xW 44],wP 46 1 8 37 45,qf 5 46]) (xr 35) 36 35 1 6 36) (wN [xj 47 3,qt 48 47] (.blk 3 (yh 50 48 11 49 50 (qw 49 (qH [we 51,we 52,xM 53 52,xb 54,wZ 55 [.t 51,qi 10,.t 53,qR,.t 54],qf 4 55]) (yh 57 48 12 56 57 (qw 56 (qH [we 58,we 59,xM 60 59,xb 61,wZ 62 [.t 58,qi 11,.t 60,qR,.t 61],qf 4 62]) (yh 64 48 13 63 64 (wz 63 [we 65,we 66,we 68,qY 69 68,xj 70 69,xp 72 3,xb 75,qW 71 1 70,qt 73 72,xM 67 66,qA (some 1) 70 71,qP 72 73,xd 74 kh 71 73,wZ 76 [.t 65,qi 14,.t 67,.t 74,.t 75],qf 4 76]))))))) [we 77,xj 78 3,we 80,xb 82,qt 79 78,xM 81 80,qP 78 79,wZ 83 [.t 77,.t 79,.t 81,qR,.t 82],qf 4 83]))))⟩
theorem mK:au Tryz.prog aW=some bT:=by kernel_rfl
def gY:FK:=⟨41,[],wa [wS 3 5 1] (xT (we 8) (xq 9 8) 4 9) (wa (xT (we 10) (xq 11 10) 5 11) (xT (we 12) (xq 13 12) 6 13) (wa [we 14,xz 15,yf 16 1 [xW 15],xz 17,xv 18 [.t 14,wI,qR,.t 16,.t 17]] [we 19,xp 20 3,qt 21 20,qb 22 (qF 4 21 qR),qW 23 4 22,xd 24 aW 19 23,qf 7 24] (wa [we 25,yg 26,xb 27,xr 28,yf 29 2 [xW 27,wD 1 28],xb 30,xv 31 [.t 25,qi 2,.t 26,.t 29,.t 30]] [we 32,qp 33 3 3,qt 34 33,xd 35 aY 32 34] (.reg [we 36,xz 37,yf 38 1 [xW 37],xr 39,xv 40 [.t 36,wI,qR,.t 38,.t 39]]))))⟩
theorem nk:au Tryz.prog dO=some gY:=by kernel_rfl
def dQ:FK:=⟨132,[],qe [wS 3 5 1] (qG [xj 9 3,qt 10 9,wJ 11 10 6] (wz 11 [we 12,qW 13 5 3,xd 14 dO 12 13]) (xH (yf 15 0 []) 4 15 (qG (xe 5) (xV 0 [xb 16,xp 17 3,qt 18 17,wi 19 18,wK 20 16 19] 20 0 1 (.reg [xz 23,we 24,xp 25 3,qt 26 25,xb 27,wn 28 4 26 27,qW 29 4 28,xd 30 aW 24 29,yf 31 1 [xW 30],wP 32 1 8 23 31,qf 4 32]) (xb 21) 22 21 1 5 22) (qe [xj 33 3,qt 34 33] (.blk 2 (yh 36 34 1 35 36 (qw 35 (wa [we 37,we 38,qY 39 38,qp 40 6 39,qt 41 40,xz 42,wZ 43 [.t 37,qi 2,.t 41,qR,.t 42]] [we 44,we 45,qY 46 45,qp 47 5 46,xA 49 3,we 51,qY 52 51,qp 53 6 52,qt 48 47,qt 50 49,qt 54 53,wv 55 [wl,qx,qx] [xW 50,wD 1 54,(2,1,qR)],xZ 56 3 [wl,qx,qx] 1 [yl 3 55],wP 57 3 32 48 56,qY 58 44,qp 59 5 58,xu 59 57] (.reg [we 60,we 61,qY 62 61,qp 63 6 62,qt 64 63,wH 65 64 1,qY 66 60,qp 67 6 66,xu 67 65])) (yh 69 34 2 68 69 (qw 68 (.reg [we 70,we 71,xA 72 3,qt 73 72,xd 74 cW 71 73,xz 75,wZ 76 [.t 70,qi 2,.t 74,qR,.t 75]]) (yh 78 34 3 77 78 (qw 77 (.reg [we 79,xz 80,wZ 81 [.t 79,qi 13,qi (-1),qR,.t 80]]) (yh 83 34 4 82 83 (qw 82 (.reg [we 84,xz 85,wZ 86 [.t 84,qi 12,qi (-1),qR,.t 85]]) (yh 88 34 7 87 88 (qw 87 (.reg [we 89,xz 90,qb 91 (qF 1 90 qR),xZ 93 1 xI 0 [],we 94,qt 92 91,xq 95 94,qP 91 92,xv 96 [.t 89,qi 3,.t 92,.t 93,.t 95]]) (yh 98 34 5 97 98 (wb 97 (wa (xT (we 99) (xq 100 99) 6 100) (xT (we 101) (xq 102 101) 7 102) (wa (xT (we 103) (xq 104 103) 8 104) [we 105,xz 106,qb 107 (qF 1 106 qR),qt 108 107,xr 109,yg 110,yf 111 2 [xW 109,wD 1 110],xr 112,xv 113 [.t 105,qi 2,.t 108,.t 111,.t 112]] (wa [we 114,qp 115 3 3,qt 116 115,xd 117 aY 114 116] [we 118,qf 119 8,yf 120 1 [xW 119],yg 121,xv 122 [.t 118,wI,qR,.t 120,.t 121]] (qe [we 123,qp 124 4 3,qt 125 124,xd 126 aY 123 125] (.reg [we 127,qf 128 8,yf 129 1 [xW 128],qf 130 8,xv 131 [.t 127,wI,qR,.t 129,.t 130]]))))))))))))))))))))))⟩
theorem oc:au Tryz.prog dL=some dQ:=by kernel_rfl
def dz:FK:=⟨32,[],qe [we 6,qY 7 6,qp 8 5 7,qt 9 8,wi 10 9,qf 4 10] (qG (xe 5) (xV 0 [xb 11,xE 12,wi 13 12,wK 14 11 13] 14 0 1 (.reg [we 17,xE 18,xb 19,wn 20 5 18 19,qW 21 5 20,xd 22 dL 17 21]) (xb 15) 16 15 1 5 16) (.reg [we 23,we 24,qY 25 24,qp 26 5 25,qt 27 26,xz 28,qb 29 (.slS 3 (.t 27) none (some (.t 28))),qY 30 23,qp 31 5 30,xu 31 29]))⟩
theorem mH:au Tryz.prog aY=some dz:=by kernel_rfl
def pt:FK:=⟨80,[xC 4 3],wa [wS 2 1 0,qV 4 (yk qx qx)] [xj 9 2,qt 10 9,xE 11,wn 12 3 10 11,qW 13 3 12,qV 5 (yk wl .nils),qS 3 5 13] (wa [qW 14 1 2,xA 15 5,qt 16 15,wi 17 16,wv 18 [.nils,qx,qx,.nils,qx,.nils,qx,.nils] [xW 14,wD 6 17],wS 19 8 18,qf 6 19] [xr 20,xA 21 5,qt 22 21,wi 23 22,qY 24 20,xA 25 24,xj 26 25,xu 26 23] (qe [xr 27,xA 28 5,xp 31 5,qt 29 28,wi 30 29,qt 32 31,xg 33 dh 32,qP 28 29,wq 34 .add 30 33,qY 35 27,xA 36 35,xA 37 36,xu 37 34] (qG (xe 7) (xV 0 [yg 38,xA 39 5,qt 40 39,wi 41 40,wK 42 38 41] 42 0 1 (.reg [xr 45,xr 46,qY 47 46,qp 48 5 47,xA 50 5,yg 52,yg 55,qt 49 48,qt 51 50,wn 53 1 51 52,qt 54 53,wv 56 [wl,qx,qx] [xW 54,wD 1 55,(2,1,qR)],xZ 57 3 [wl,qx,qx] 1 [yl 3 56],wP 58 3 32 49 57,qY 59 45,qp 60 5 59,xu 60 58]) (yg 43) 44 43 1 7 44) (wa [xr 61,xq 62 61] [xr 63,xp 64 5,qt 65 64,xd 66 aY 63 65] (wa [xr 67,xr 68,xM 69 68,yf 70 0 [],wZ 71 [.t 67,wI,.t 69,qR,.t 70],qf 8 71] [xr 72,qf 73 8,yf 74 0 [],xv 75 [.t 72,qi 3,.t 73,.t 74,qR]] (qH [xr 76,qY 77 76,xA 78 77,qW 79 3 78,qS 3 4 79]))))))⟩
theorem yT:au Tryz.prog gX=some pt:=by kernel_rfl
def lz:FK:=⟨22,[xC 2 1],wa [wS 1 1 0,qV 2 xL] [wv 5 xL [],qV 3 xL,xu 3 5] (wN (xe 4) (xV 0 [xz 6,xj 7 1,qt 8 7,wi 9 8,wK 10 6 9] 10 0 1 (.reg [xj 13 3,xz 16,qt 14 13,qW 15 1 1,xd 17 gX 15 16,qP 13 14,qM 18 3 (yk qx qx) 1 [yl 3 17],qP 13 14,wP 19 3 40 14 18,xj 20 3,xu 20 19]) (xz 11) 12 11 1 4 12) [qW 21 1 3,xu 2 21])⟩
theorem tq:au Tryz.prog eP=some lz:=by kernel_rfl
def lU:FK:=⟨21,xY,xP [wS 2 3 0,qc 4 qT] (xe 5) (xV 0 [xb 6,xE 7,wi 8 7,wK 9 6 8] 9 0 1 (qe [xE 12,xb 13,wn 14 1 12 13,xA 16 2,qt 15 14,qt 17 16,xk 18 17 1,xX 19 [.t 15,qR,.t 18],x7 20 19] (yj 20 4)) (xb 10) 11 10 1 5 11) (wG 4 wF)⟩
theorem tH:au Tryz.prog eL=some lU:=by kernel_rfl
def oe:FK:=⟨88,xD 6,wa [wS 3 1 0,wS 5 4 2,qc 6 qT] [xj 8 3,qt 9 8,xE 10,wn 11 3 9 10,qW 12 3 11,qV 7 (yk qx qx),qS 3 7 12] (qG [xj 13 5,qt 14 13,xX 15 [.t 14,wI,qi 14],x7 16 15,qf 17 16,qJ 18 17 (qk (some 3) 7),xt 19 17 2 5,xm 20 17 19,qJ 21 17 (.call eL (wM 18 20)),qJ 22 17 (wB 21),xK 23 17 22] (yj 23 6) (qG [xj 24 5,xA 27 5,xA 29 7,qt 25 24,qt 28 27,qt 30 29,xk 31 30 1,xg 26 cQ 25,qP 27 28,qP 29 30,xX 32 [.t 28,qR,.t 31],qb 33 (.beq true (.t 26) (.t 32)),qf 34 33,xt 35 34 0 5,xm 36 34 35,qJ 37 34 (.call cQ (xf 36)),qJ 38 34 (wB 37),wW 39 34 38,xo 40 39 1 5,wR 41 39 40,xB 42 39 .neq 41 (qi (-1)),qJ 43 34 (qN 39 (.t 42) qT),xK 44 34 43] (yj 44 6) (wN [xj 45 5,qt 46 45,wJ 47 46 14] (wz 47 [qp 48 3 5,xE 50,xk 51 50 1,qt 49 48,xX 52 [.t 49,qR,.t 51],qf 53 52,xo 54 53 2 5,xo 57 53 0 3,xo 59 53 3 5,wR 55 53 54,qK 56 53 (qX 55),wR 58 53 57,wR 60 53 59,qK 61 53 (wh 3 58 60),xo 62 53 0 61,wR 63 53 62,xB 64 53 .eql 56 (.t 63),x9 65 53 64,qf 6 65]) [xp 66 5,xj 69 5,qt 67 66,wi 68 67,qt 70 69,xg 71 eQ 70,qP 66 67,wq 72 .eql 68 71,qf 73 72,xo 74 73 3 5,wR 75 73 74,qK 76 73 (xa [.t 75,qR,qi 255]),x9 77 73 76,qf 78 77,xo 79 78 3 5,wR 80 78 79,xB 81 78 .eql 80 qR,wY 82 78 81,xt 83 82 0 5,xm 84 82 83,xN 85 82 .eql 84 wI,qK 86 78 (qN 82 wF (.t 85)),x9 87 78 86,qf 6 87])))⟩
theorem uD:au Tryz.prog jz=some oe:=by kernel_rfl
def fT:AK:=wa [wS 3 1 0,qc 6 qT] [xj 14 3,qt 15 14,xE 16,wn 17 3 15 16,qW 18 3 17,qV 7 (yk qx qx),qS 3 7 18] (wa [xp 19 7,qt 20 19,qf 21 2,wn 22 5 20 21,qW 23 5 22,qV 8 [.nils,.nils,qx,qx,.nils],qS 5 8 23] (wG 9 wI) (xx [xp 24 8,qt 25 24] (.blk 0 (yh 27 25 1 26 27 (qw 26 (qe [qp 28 3 8,qt 29 28,qC 30 .neq 29 0] (yj 30 6)) (yh 32 25 2 31 32 (qw 31 (.reg (wG 9 (qi 2))) (yh 34 25 3 33 34 (qw 33 (.reg (xe 9)) (qH (wG 6 qT))))))))) (xx [qp 35 4 8,qt 36 35,wi 37 36,qf 38 9,wq 39 .neq 37 38,qf 40 39,xt 41 40 2 8,xm 42 40 41,xN 43 40 .neq 42 wI,wW 44 40 43,xo 45 44 3 8,wR 46 44 45,xo 47 44 1 7,wR 48 44 47,xB 49 44 .sub 48 wI,qK 50 44 (xa [.t 46,qR,.t 49]),qK 51 44 (wB 50),qJ 52 40 (qN 44 (.t 51) qT),xK 53 40 52] (yj 53 6) (xx (xe 10) (xV 1 [qf 54 10,qp 55 4 8,qt 56 55,wi 57 56,wK 58 54 57] 58 1 2 (qe [qp 61 4 8,qf 63 10,xp 66 7,qt 62 61,wn 64 1 62 63,qt 65 64,qt 67 66,wi 68 67,xk 69 68 1,xX 70 [.t 65,wI,.t 69],x7 71 70] (yj 71 6)) (qf 59 10) 60 59 1 10 60) (xx (xe 11) (xV 3 [qf 72 11,xA 73 8,qt 74 73,wi 75 74,wK 76 72 75] 76 3 4 (qe [xE 80,xA 81 8,qf 83 11,qW 79 1 3,qt 82 81,wn 84 4 82 83,qW 85 4 84,qn 86 jz [.t 79,.t 80,.t 85],x7 87 86] (yj 87 6)) (qf 77 11) 78 77 1 11 78) (qe [qW 88 3 7,qf 89 2,xd 90 cR 88 89,qf 12 90] (xx (xe 13) (xV 5 [qf 91 13,xj 92 8,qt 93 92,wi 94 93,wK 95 91 94] 95 5 6 (qe [qf 98 2,wJ 99 98 0,qf 100 99,xt 101 100 0 8,wW 103 100 13,wW 108 100 12,qJ 109 100 (qX 108),xm 102 100 101,qJ 104 100 (wh 2 102 103),xt 105 100 1 104,xm 106 100 105,qJ 107 100 (qX 106),xN 110 100 .neq 107 (.t 109),xK 111 100 110,qf 112 111,xt 114 112 0 8,wW 116 112 13,qJ 113 112 (qk (some 3) 7),xm 115 112 114,qJ 117 112 (wh 2 115 116),xt 118 112 1 117,xm 119 112 118,qJ 120 112 (.call eL (wM 113 119)),qJ 121 112 (wB 120),xK 122 112 121,qf 123 122,xt 124 123 0 8,wW 126 123 13,xt 130 123 1 7,xm 125 123 124,qJ 127 123 (wh 2 125 126),xt 128 123 0 127,xm 129 123 128,xm 131 123 130,xN 132 123 .sub 131 wI,qJ 133 123 (xa [.t 129,qR,.t 132]),qJ 134 123 (wB 133),xK 135 123 134] (yj 135 6)) (qf 96 13) 97 96 1 13 97) (qH (wG 6 wF)))))))))
def gF:FK:=⟨136,xD 6,(AK.whole fT)⟩
theorem sO:au Tryz.prog gu=some gF:=by kernel_rfl
def je:FK:=⟨76,xQ,qe [wS 1 1 0,qc 2 qT] (qG [xj 7 1,qt 8 7,wi 9 8,xX 10 [.t 9,wI,qi 4],x7 11 10] (yj 11 2) (xP (xe 3) (xe 4) (xV 0 [xz 12,xj 13 1,qt 14 13,wi 15 14,wK 16 12 15] 16 0 1 (qe [xj 19 1,qt 20 19,xz 21,wn 22 3 20 21,qW 23 3 22,qV 5 (yk qx qx),qS 3 5 23] (qG [xj 24 5,qt 25 24,xX 26 [.t 25,qR,qi 3],x7 27 26,qf 28 27,xt 29 28 1 5,xm 30 28 29,xt 31 28 0 5,xm 32 28 31,qJ 33 28 (xa [.t 30,.t 32,qi 300]),qJ 34 28 (wB 33),xK 35 28 34,qf 36 35,xt 37 36 2 5,xm 38 36 37,qJ 39 36 (qX 38),qJ 40 36 (xa [.t 39,wI,qi 160]),qJ 41 36 (wB 40),xK 42 36 41] (yj 42 2) (qe (xe 6) (xV 2 [xr 43,xp 44 5,qt 45 44,wi 46 45,wK 47 43 46] 47 2 3 (wa [x8 50,xp 51 5,xr 53,xp 59 5,xr 61,qt 52 51,wn 54 5 52 53,xA 55 54,qt 56 55,wi 57 56,wq 58 .add 50 57,qt 60 59,wn 62 5 60 61,xj 63 62,qt 64 63,wi 65 64,wq 66 .add 58 65,qf 3 66] [x8 67,qC 68 .gtr 67 800,qf 69 68,qJ 70 69 (qk (some 1) 1),wW 71 69 4,wW 72 69 6,qJ 73 69 (.call gu [.t 70,.t 71,.t 72]),qJ 74 69 (wB 73),xK 75 69 74] (yj 75 2)) (xr 48) 49 48 1 6 49)))) (xz 17) 18 17 1 4 18) (wG 2 wF)))⟩
theorem oh:au Tryz.prog eu=some je:=by kernel_rfl
def kB:FK:=⟨15,[xC 2 1],xP [qV 2 xL] [we 4,wg 5 (xy 4 2),wJ 6 5 0] (wb 6 (wa [we 7,xg 8 eV 7,xg 9 eP 8,qV 3 xL,xu 3 9] [qW 10 1 3,xg 11 eu 10] (wz 11 [qW 12 1 3,xu 2 12]))) [we 13,xg 14 dd 13,xu 2 14]⟩
theorem rV:au Tryz.prog gi=some kB:=by kernel_rfl
def jX:FK:=⟨10,[xC 2 1],xP [qV 2 xL] [we 3,wg 4 (xy 3 12),wJ 5 4 0] (wz 5 [we 6,xg 7 iG 6,xu 2 7]) [we 8,xg 9 gi 8,xu 2 9]⟩
theorem rZ:au Tryz.prog gf=some jX:=by kernel_rfl
def jU:FK:=⟨14,[xC 2 3],wa [qV 2 (yk qx qx)] [we 4,xg 5 gf 4,qV 3 xL,xu 3 5] (qH [xj 6 3,qt 7 6,xj 8 3,qt 9 8,wi 10 9,xk 11 10 1,wn 12 3 7 11,qW 13 3 12,qS 3 2 13])⟩
theorem ru:au Tryz.prog dS=some jU:=by kernel_rfl
def ck:FK:=⟨19,xY,xP (xe 4) [we 6,wi 7 6,qc 8 qR] (qZ 0 (qe [wK 9 8 7] (.seq (wA 9 0) (wx 1 (wa (xG (qf 10 8) 5 10) [xE 11,we 12,xb 13,wn 14 5 12 13,qW 15 5 14,qb 16 (.callv (.t 11) (xf 15))] (wz 16 (xG (xb 17) 4 17))) (xG (wH 18 8 1) 8 18))))) (wG 4 (qi (-1)))⟩
theorem fg:au Tryz.prog br=some ck:=by kernel_rfl
def bS:FK:=⟨9,xY,xS (wG 4 qT) [we 5,xE 6,xd 7 br 5 6,qC 8 .geq 7 0,qf 4 8]⟩
theorem dN:au Tryz.prog bg=some bS:=by kernel_rfl
def dT:FK:=⟨19,xY,xP (xe 4) [we 6,wi 7 6,qc 8 qR] (qZ 0 (qe [wK 9 8 7] (.seq (wA 9 0) (wx 1 (wa (xG (qf 10 8) 5 10) [xE 11,we 12,xb 13,wn 14 1 12 13,qt 15 14,qb 16 (.callv (.t 11) (xf 15))] (wz 16 (xG (xb 17) 4 17))) (xG (wH 18 8 1) 8 18))))) (wG 4 (qi (-1)))⟩
theorem jE:au Tryz.prog cr=some dT:=by kernel_rfl
def cY:FK:=⟨9,xY,xS (wG 4 qT) [we 5,xE 6,xd 7 cr 5 6,qC 8 .geq 7 0,qf 4 8]⟩
theorem gJ:au Tryz.prog bN=some cY:=by kernel_rfl
def iB:FK:=⟨15,xD 6,xS (wG 6 qT) [xE 7,we 8,wq 9 .leq 7 8,qf 10 9,wY 11 10 0,wY 12 10 2,xB 13 10 .leq 11 (.t 12),x9 14 10 13,qf 6 14]⟩
theorem tk:au Tryz.prog eT=some iB:=by kernel_rfl
def fQ:FK:=⟨11,xD 3,xS (wG 3 qT) [we 4,xp 5 1,qt 6 5,wi 7 6,xk 8 7 1,qn 9 eT [.t 4,qR,.t 8],x7 10 9,qf 3 10]⟩
theorem mC:au Tryz.prog dC=some fQ:=by kernel_rfl
def iO:FK:=⟨8,xD 3,xS [wS 2 5 0,qc 3 qT] [qp 4 4 2,qt 5 4,qb 6 (.mkf (.func dC) (xf 1)),xd 7 bN 5 6,yg 3]⟩
theorem oq:au Tryz.prog cX=some iO:=by kernel_rfl
def gC:FK:=⟨14,xQ,xS [wS 1 3 0,qc 2 qT] [xp 3 1,qt 4 3,wi 5 4,qC 6 .gtr 5 0,xr 7,xo 8 7 2 1,wR 9 7 8,qK 10 7 (.mkf (.func cX) (xf 1)),qK 11 7 (.call bg (wM 9 10)),qK 12 7 (wB 11),x9 13 7 12,qf 2 13]⟩
theorem rW:au Tryz.prog cb=some gC:=by kernel_rfl
def gD:FK:=⟨8,xQ,xP (wG 2 xF) [we 3,qb 4 (.snil false (.t 3))] (wT 4 2 xF) [yf 5 0 [],we 6,wP 7 1 8 5 6,yg 2]⟩
theorem mE:au Tryz.prog cq=some gD:=by kernel_rfl
def pu:FK:=⟨10,xQ,wa (wG 2 xF) [we 4,xg 5 cq 4,xb 3] (xS [x8 6,xg 7 mW 6] (xT (x8 8) (xg 9 kG 8) 2 9))⟩
theorem yw:au Tryz.prog kP=some pu:=by kernel_rfl
def gg:FK:=⟨19,xY,xP (xe 4) [we 6,wi 7 6,qc 8 qR] (qZ 0 (qe [wK 9 8 7] (.seq (wA 9 0) (wx 1 (wa (xG (qf 10 8) 5 10) [xE 11,we 12,xb 13,wn 14 1 12 13,qt 15 14,wq 16 .eql 11 15] (wz 16 (xG (xb 17) 4 17))) (xG (wH 18 8 1) 8 18))))) (wG 4 (qi (-1)))⟩
theorem mm:au Tryz.prog ga=some gg:=by kernel_rfl
def ke:FK:=⟨42,xQ,xP [wS 1 3 0,qc 2 qT] (xe 3) (xV 0 [x8 5,xp 6 1,qt 7 6,wi 8 7,wK 9 5 8] 9 0 1 (qe (xe 4) (xV 2 [xz 12,xp 13 1,qt 14 13,x8 15,wn 16 5 14 15,qp 17 4 16,qt 18 17,wi 19 18,wK 20 12 19] 20 2 3 (qe [xp 23 1,x8 25,xz 29,xp 32 1,qt 24 23,wn 26 5 24 25,qp 27 4 26,qt 28 27,wn 30 1 28 29,qt 31 30,qt 33 32,wi 34 33,xk 35 34 1,xX 36 [.t 31,qR,.t 35],x7 37 36] (yj 37 2)) (xz 21) 22 21 1 4 22)) (x8 10) 11 10 1 3 11) [xp 38 1,qt 39 38,wi 40 39,qC 41 .gtr 40 0,qf 2 41]⟩
theorem sk:au Tryz.prog fP=some ke:=by kernel_rfl
def jJ:FK:=⟨35,[],qe [qt 8 1,we 9,wn 10 1 8 9,qQ 1 10 wF] (qG [xp 11 2,qt 12 11,we 13,wn 14 5 12 13,qp 15 4 14,qt 16 15,wi 17 16,qc 18 qR] (qZ 0 (qe [wK 19 18 17] (.seq (wA 19 0) (wx 1 (wa (xT (wn 20 1 16 18) (qt 21 20) 7 21) [qt 22 1,yg 23,wn 24 1 22 23,qt 25 24,x7 26 25] (wb 26 (.reg [qt 27 3,yg 28,qb 29 (.callv (.t 27) (xf 28))]))) (xG (wH 30 18 1) 18 30))))) (.reg [qt 31 4,we 32,yf 33 1 [xW 32],wP 34 1 8 31 33,xu 4 34]))⟩
theorem pJ:au Tryz.prog cu=some jJ:=by kernel_rfl
def lP:FK:=⟨14,xQ,wa [wS 1 3 0,qc 2 xF] [qV 3 xL] (wa [xp 6 1,qt 7 6,wi 8 7,qb 9 (.mks 1 1 [qB] (.t 8) (.t 8)),qV 4 xL,xu 4 9] [qV 5 [.nilf]] (wa [qb 10 (.mkf (.func cu) [.t 4,.t 1,.t 5,.t 3]),xu 5 10] [qt 11 5,qb 12 (.callv (.t 11) [qR])] (qH (xG (qt 13 3) 2 13))))⟩
theorem tw:au Tryz.prog eO=some lP:=by kernel_rfl
def eZ:FK:=⟨28,[],qe [we 4,wi 5 4,xk 6 5 1,qc 2 qR,xr 3] (xc 0 [qf 7 2,x8 8,wK 9 7 8] 9 0 1 (.reg [we 14,qf 15 2,we 16,x8 17,we 18,x8 19,wn 20 1 18 19,we 22,qf 23 2,wn 24 1 22 23,qt 21 20,qt 25 24,wn 26 1 14 15,xu 26 21,wn 27 1 16 17,xu 27 25]) [qf 10 2,wH 11 10 1,x8 12,xk 13 12 1,qf 2 11,qf 3 13])⟩
theorem kN:au Tryz.prog cI=some eZ:=by kernel_rfl
def ka:FK:=⟨12,xQ,qe [wS 1 3 0,qc 2 xF] (qG [qW 4 3 1,xg 5 cb 4,x7 6 5] (wT 6 2 xF) (wa (xT (qW 7 3 1) (xg 8 eO 7) 3 8) [x8 9,xg 10 cI 9] (qH (xG (x8 11) 2 11))))⟩
theorem sG:au Tryz.prog fN=some ka:=by kernel_rfl
def gt:FK:=⟨6,[xC 2 3],xS [qV 2 (yk qx qx)] [we 3,xg 4 dK 3,xg 5 dS 4,qS 3 2 5]⟩
theorem mg:au Tryz.prog fU=some gt:=by kernel_rfl
def jK:FK:=⟨54,xD 8,wa [wS 4 3 0,qc 8 xF] [qf 10 2,xE 11,wn 12 1 10 11,qQ 1 12 wF] (wN (xe 9) (xV 0 [qf 13 9,xp 14 4,qt 15 14,xE 16,wn 17 5 15 16,qp 18 4 17,qt 19 18,wi 20 19,wK 21 13 20] 21 0 1 (qe [qf 24 2,xp 25 4,qt 26 25,xE 27,wn 28 5 26 27,qp 29 4 28,qt 30 29,qf 31 9,wn 32 1 30 31,qt 33 32,wn 34 1 24 33,qt 35 34,x7 36 35] (wb 36 (.reg [xp 38 4,xE 40,qf 44 9,qf 47 2,x8 48,qW 37 3 4,qt 39 38,wn 41 5 39 40,qp 42 4 41,qt 43 42,wn 45 1 43 44,qt 46 45,qn 49 cw [.t 37,.t 46,.t 47,.t 48],qf 3 49]))) (qf 22 9) 23 22 1 9 23) [x8 50,xE 51,yf 52 1 [xW 51],wP 53 1 8 50 52,qf 8 53])⟩
theorem pF:au Tryz.prog cw=some jK:=by kernel_rfl
def lL:FK:=⟨29,xY,xP (wG 4 qT) [we 6,wi 7 6,xE 8,wi 9 8,qb 10 (.mn (.t 7) (.t 9)),qc 11 qR] (qZ 0 (qe [wK 12 11 10] (.seq (wA 12 0) (wx 1 (wa (xG (qf 13 11) 5 13) [we 14,xb 15,wn 16 1 14 15,xE 18,xb 19,wn 20 1 18 19,qt 17 16,qt 21 20,wq 22 .neq 17 21] (yj 22 4)) (xG (wH 23 11 1) 11 23))))) [we 24,wi 25 24,xE 26,wi 27 26,wq 28 .eql 25 27,qf 4 28]⟩
theorem ty:au Tryz.prog lV=some lL:=by kernel_rfl
def nR:FK:=⟨17,xY,xP (wG 4 qT) [we 7,wi 8 7,qc 9 qR] (qZ 0 (qe [wK 10 9 8] (.seq (wA 10 0) (wx 1 (wa (xT (wn 11 1 7 9) (qt 12 11) 6 12) [xr 13,xE 14,wq 15 .eql 13 14] (wT 15 4 wF)) (xG (wH 16 9 1) 9 16))))) (wG 4 qT)⟩
theorem uT:au Tryz.prog ec=some nR:=by kernel_rfl
def iY:FK:=⟨9,xQ,xP [wS 1 3 0,qc 2 xF] [qW 3 3 1,xg 4 cb 3,x7 5 4] (wT 5 2 xF) [qW 6 3 1,xg 7 eO 6,xg 8 kP 7,qf 2 8]⟩
theorem oy:au Tryz.prog bF=some iY:=by kernel_rfl
def lE:FK:=⟨33,[xC 2 3,.t 3,.t 4],wa [qV 2 (yk qx qx),qc 3 qR,qc 4 qR] [we 8,xg 9 dS 8,qV 5 (yk qx qx),qS 3 5 9] (wa [xp 10 5,qt 11 10,wi 12 11,qf 6 12] [we 13,xr 14,wg 15 (wM 13 14),we 16,xr 17,wg 18 (wM 16 17),xr 19,xk 20 19 1,we 21,xr 22,wg 23 (wM 21 22),xr 24,yf 25 7 [xW 15,wD 1 18,(2,1,qR),wD 3 20,wD 4 23,xi 5 (-1),wD 6 24],qf 7 25] (qH [we 27,yg 28,we 30,yg 31,qW 26 3 5,yi 29 27 28,qA (some 3) 5 26,yi 32 30 31,qA (some 3) 5 26,qS 3 2 26,qf 3 29,qf 4 32]))⟩
theorem tz:au Tryz.prog il=some lE:=by kernel_rfl
def ff:FK:=⟨11,[xC 2 3,.t 3,.t 4],xS [qV 2 (yk qx qx),qc 3 qR,qc 4 qR] [we 5,xg 6 dK 5,xg 7 il 6,qb 8 (.ext 0 (.t 7)),qb 9 (.ext 1 (.t 7)),qb 10 (.ext 2 (.t 7)),qS 3 2 8,qf 3 9,qf 4 10]⟩
theorem kF:au Tryz.prog cK=some ff:=by kernel_rfl
def en:FK:=⟨48,xY,wa [wS 2 3 0,qc 4 xF] [xp 8 2,qt 9 8,wi 10 9,qb 11 (.mks 1 1 [qB] (.t 10) (.t 10)),qf 5 11] (xH (yf 12 1 [(0,1,qR)]) 6 12 (.seq (wX 0 [xr 13,wi 14 13,qC 15 .gtr 14 0] 15 0 (.blk 1 (wa [xr 16,xr 17,wi 18 17,xk 19 18 1,wn 20 1 16 19,qt 21 20,qf 7 21] [xr 22,xr 23,wi 24 23,xk 25 24 1,qb 26 (.slS 1 (.t 22) none (some (.t 25))),qf 6 26] (qG [yg 27,xE 28,wq 29 .eql 27 28,qf 30 29,wW 31 30 5,wW 32 30 7,qJ 33 30 (wh 1 31 32),xm 34 30 33,xK 35 30 34] (wb 35 (.exit 1)) (qe [xb 36,yg 37,wn 38 1 36 37,qQ 1 38 wF] (.reg [xr 39,xp 40 2,qt 41 40,yg 42,wn 43 5 41 42,qp 44 4 43,qt 45 44,wP 46 1 8 39 45,qf 6 46])))))) (qH (xG (xb 47) 4 47))))⟩
theorem jN:au Tryz.prog aL=some en:=by kernel_rfl
def eR:FK:=⟨71,xQ,qe [wS 1 3 0,qc 2 (.c .nilp)] (qG [qW 8 3 1,xg 9 cb 8,x7 10 9] (wT 10 2 (.c .nilp)) (xP [qW 11 3 1,qW 12 3 1,qn 13 aL (xy 12 (-1)),qA (some 3) 1 11,wv 14 [qx,qx,.nils,.nils,.nils] [yl 3 11,wD 4 13],wS 15 5 14,qf 3 15] [xp 16 1,qt 17 16,wi 18 17,qc 19 qR] (qZ 0 (qe [wK 20 19 18] (.seq (wA 20 0) (wx 1 (wa (xG (qf 21 19) 4 21) [xp 22 1,qt 23 22,wi 24 23,qb 25 (.mks 1 1 [qB] (.t 24) (.t 24)),qf 5 25] (qG [x8 26,qY 27 26,qp 28 4 27,qt 29 28,xz 30,wn 31 1 29 30,qt 32 31] (wb 32 (wa [qW 33 3 1,xz 34,xd 35 aL 33 34,qf 6 35] [xb 36,wi 37 36,qc 38 qR] (qZ 2 (qe [wK 39 38 37] (.seq (wA 39 2) (wx 3 (xH (qf 40 38) 7 40 (.reg [xb 41,yg 42,x8 43,qY 44 43,qp 45 4 44,qt 46 45,yg 47,wn 48 1 46 47,qt 49 48,qf 50 49,wY 51 50 6,wY 52 50 7,qK 53 50 (wh 1 51 52),wR 54 50 53,qK 55 50 (wB 54),x9 56 50 55,wn 57 1 41 42,xu 57 56])) (xG (wH 58 38 1) 38 58))))))) (.reg [x8 59,x8 60,qY 61 60,qp 62 3 61,qt 63 62,xb 64,qM 65 1 xL 1 [xW 64],wP 66 1 24 63 65,qY 67 59,qp 68 3 67,xu 68 66]))) (xG (wH 69 19 1) 19 69))))) (xG (x8 70) 2 70)))⟩
theorem lT:au Tryz.prog di=some eR:=by kernel_rfl
def fp:FK:=⟨26,xY,xS (wG 4 qT) [we 5,qb 6 (.pnil 0 true (.t 5)),xr 7,wY 8 7 1,wY 9 7 0,qK 10 7 (qz 9),xo 11 7 4 10,wR 12 7 11,qK 13 7 (qX 12),xB 14 7 .sub 13 wI,qK 15 7 (.call eT [.t 8,qR,.t 14]),x9 16 7 15,qf 17 16,wY 18 17 0,qK 19 17 (qz 18),xo 20 17 4 19,wR 21 17 20,wY 22 17 1,qK 23 17 (wh 1 21 22),wR 24 17 23,x9 25 17 24,qf 4 25]⟩
theorem pH:au Tryz.prog dp=some fp:=by kernel_rfl
def cB:FK:=⟨27,xD 6,xS (wG 6 qT) [we 7,xE 8,xd 9 dp 7 8,qf 10 9,wY 11 10 0,wY 12 10 2,qK 13 10 (.call dp (wM 11 12)),x9 14 10 13,qf 15 14,wY 16 15 0,qK 17 15 (qz 16),xo 18 15 3 17,wR 19 15 18,wY 20 15 1,qK 21 15 (wh 1 19 20),wR 22 15 21,wY 23 15 2,qK 24 15 (wh 1 22 23),wR 25 15 24,x9 26 15 25,qf 6 26]⟩
theorem jM:au Tryz.prog cC=some cB:=by kernel_rfl
def iP:FK:=⟨12,xD 6,xS [wS 3 3 0,qc 6 qT] [qW 7 3 3,xg 8 di 7,xE 9,qf 10 2,qn 11 cC [.t 8,.t 9,.t 10],qf 6 11]⟩
theorem oQ:au Tryz.prog eA=some iP:=by kernel_rfl
def ni:FK:=⟨15,xY,xS [wS 2 3 0,qc 4 qT] [qW 5 3 2,xg 6 fP 5,xr 7,wY 8 7 1,xo 9 7 2 2,wR 10 7 9,qK 11 7 (qX 10),xB 12 7 .sub 11 wI,qK 13 7 (xa [.t 8,qR,.t 12]),x9 14 7 13,qf 4 14]⟩
theorem uM:au Tryz.prog fx=some ni:=by kernel_rfl
def gB:AK:=wa [wS 1 3 0,qc 2 xF] [xp 10 1,qt 11 10,wi 12 11,qf 3 12] (wa (xG (qM 13 1 xL 0 []) 4 13) (xT (x8 14) (qb 15 (.mks 1 1 [qB] (.t 14) (.t 14))) 5 15) (xP [qW 16 3 1,xb 17,yf 18 0 [],qn 19 cw [.t 16,qR,.t 17,.t 18]] (xe 6) (xV 0 [xr 20,x8 21,wK 22 20 21] 22 0 1 (wa (xT (x8 25) (qb 26 (.mks 1 1 [qB] (.t 25) (.t 25))) 7 26) [yg 27,xr 28,wn 29 1 27 28,qQ 1 29 wF] (xx [xr 30,qC 31 .neq 30 0] (qw 31 (qe [qW 32 3 1,yg 33,yf 34 0 [],qn 35 cw [.t 32,qR,.t 33,.t 34]] (.reg [yg 36,xr 37,wn 38 1 36 37,qQ 1 38 qT])) (.reg [yg 39,xr 40,wn 41 1 39 40,qQ 1 41 qT])) (qe (xT (x8 42) (qb 43 (.mks 1 1 [qB] (.t 42) (.t 42))) 8 43) (qG (xe 9) (xV 2 [qf 44 9,x8 45,wK 46 44 45] 46 2 3 (.reg [qf 49 8,qf 50 9,xb 51,xr 52,wn 53 1 51 52,qt 54 53,qf 55 54,wY 56 55 5,wY 57 55 9,qK 58 55 (wh 1 56 57),wR 59 55 58,x9 60 55 59,qf 61 60,wY 62 61 7,wY 63 61 9,qK 64 61 (wh 1 62 63),wR 65 61 64,qK 66 61 (wB 65),x9 67 61 66,wn 68 1 49 50,xu 68 67]) (qf 47 9) 48 47 1 9 48) (.reg [xz 69,qf 70 8,qM 71 1 xL 1 [xW 70],wP 72 1 24 69 71,qf 4 72]))))) (xr 23) 24 23 1 6 24) (xG (xz 73) 2 73)))
def gk:FK:=⟨74,xQ,(AK.whole gB)⟩
theorem ta:au Tryz.prog dP=some gk:=by kernel_rfl
def iT:FK:=⟨25,xD 6,xS [wS 3 3 0,qc 6 qT] [qW 7 3 3,xE 8,xd 9 fx 7 8,qf 10 9,qK 11 10 (qk (some 3) 3),wY 12 10 2,qK 13 10 (.call fx (wM 11 12)),x9 14 10 13,qf 15 14,qK 16 15 (qk (some 3) 3),qK 17 15 (.call dP (xf 16)),wY 18 15 1,qK 19 15 (wh 1 17 18),wR 20 15 19,wY 21 15 2,qK 22 15 (wh 1 20 21),wR 23 15 22,x9 24 15 23,qf 6 24]⟩
theorem oL:au Tryz.prog cU=some iT:=by kernel_rfl
def dt:AK:=qe (wG 2 qT) (qG [we 10,wi 11 10,qC 12 .gtr 11 1048576] (wT 12 2 wF) (wa [we 14,xg 15 cK 14,qf 13 15,qb 16 (.ext 0 (.t 13)),qb 17 (.ext 1 (.t 13)),qb 18 (.ext 2 (.t 13)),qV 3 (yk qx qx),qS 3 3 16,qf 4 17,qf 5 18] [qW 19 3 3,xz 20,xb 21,qn 22 eA [.t 19,.t 20,.t 21],qf 6 22] (xx [xr 23,qW 24 3 3,xz 25,xb 26,qn 27 cU [.t 24,.t 25,.t 26],qb 28 (.beq true (.t 23) (.t 27)),qf 29 28,wW 30 29 4,xN 31 29 .eql 30 qR,xK 32 29 31,qf 33 32,wW 34 33 4,wW 35 33 5,xN 36 33 .eql 34 (.t 35),xK 37 33 36,qf 38 37,wW 39 38 4,xN 40 38 .lss 39 qR,xK 41 38 40,qf 42 41,wW 43 42 4,xt 44 42 2 3,xm 45 42 44,qJ 46 42 (qX 45),xN 47 42 .geq 43 (.t 46),xK 48 42 47,qf 49 48,qJ 50 49 (qk (some 3) 3),qJ 51 49 (.call fN (xf 50)),qJ 52 49 (qX 51),xN 53 49 .eql 52 qR,xK 54 49 53] (wz 54 [xr 55,qW 56 3 3,xz 57,xb 58,qn 59 cU [.t 56,.t 57,.t 58],qb 60 (.beq false (.t 55) (.t 59)),qf 2 60]) (qe [wv 61 (yk qx qx) [],qV 7 (yk qx qx),qS 3 7 61] (xx [xp 62 3,qt 63 62,wi 64 63,qc 65 qR] (qZ 0 (qe [wK 66 65 64] (.seq (wA 66 0) (wx 1 (wa [qf 67 65,wn 68 5 63 65,qW 69 5 68,qV 9 [.nils,.nils,qx,qx,.nils],qf 8 67,qS 5 9 69] [yf 70 0 [],qp 71 4 9,qt 72 71,wP 73 1 8 70 72,qp 74 4 9,xu 74 73] (xx [qf 75 8,xz 76,wq 77 .eql 75 76] (wb 77 (.reg [qp 78 4 9,qQ 1 78 xF])) (.reg [xp 79 7,qt 80 79,qW 81 5 9,qM 82 5 [.nils,.nils,qx,qx,.nils] 1 [yl 5 81],wP 83 5 88 80 82,xp 84 7,xu 84 83]))) (xG (wH 85 65 1) 65 85))))) (qH [xr 86,qW 87 3 3,xg 88 bF 87,xz 89,xd 90 ec 88 89,qf 91 90,qK 92 91 (qk (some 3) 3),qK 93 91 (.call bF (xf 92)),wY 94 91 5,qK 95 91 (.call ec (wM 93 94)),x9 96 91 95,qf 97 96,qK 98 97 (qk (some 3) 7),qK 99 97 (.call bF (xf 98)),wY 100 97 5,qK 101 97 (.call ec (wM 99 100)),qK 102 97 (wB 101),x9 103 97 102,qb 104 (.beq false (.t 86) (.t 103)),qf 2 104]))))))
def dA:FK:=⟨105,xQ,(AK.whole dt)⟩
theorem mu:au Tryz.prog gy=some dA:=by kernel_rfl
end Go.Proofs.YtdfplkcigiblcaaGreat
